/- The ideal machine and the walks over it, a part (M7): see the comments ahead of each piece. No condition. -/
import Derived.Laws.Cells
import Derived.Test.YtjnknmfheigelaaM6

/- The machine speaks true ('icall_sound'); what a run of it says of the program ('runs'). -/
namespace Im
open Go (IntKind BinOp UnOp Program World Value Addr TypeId FuncId Code Oper Operand Op TypeDesc Sem Act Fence Exit Ending)
open Go.RowKit (Below)

section
variable {E : Env} {C : Cfg} {ρ : Ren} {H : Heap} {w : World}

/-- An object is let go of; its block turns. -/
theorem Post.kill {S : Nat → Prop} {g : Nat → Option Obj} {nx : Nat} (h : Rel E ρ g nx w) {id : Nat} {o : Obj} {b x t : Nat} (hg : g id = some o) (hρ : ρ id = some (b, x, t))
    (w' : World) (hw : w'.os = w.os ∧ w'.tape = w.tape ∧ w'.output = w.output) (hs : w'.heap.size = w.heap.size) (hoth : ∀ k, k ≠ b → w'.heap[k]? = w.heap[k]?) :
    Post E S ρ g nx w ρ (Im.upd g id none) nx w' := by
  obtain ⟨b', x', t', e1, hN, _⟩ := h.obj id o hg
  rw [hρ] at e1; cases e1
  have hsub : ∀ i o, Im.upd g id none i = some o → i ≠ id ∧ g i = some o := by
    intro i o k; unfold Im.upd at k
    by_cases e : i = id
    · rw [if_pos e] at k; cases k
    · rw [if_neg e] at k; exact ⟨e, k⟩
  refine ⟨Ext.refl _, ⟨⟨hw.1.trans h.below.os, hw.2.1.trans h.below.tape, hw.2.2.trans h.below.output, by rw [hs]; exact h.below.size, ?_⟩, ?_, ?_, h.fresh⟩, Nat.le_refl _, by omega, ?_, ?_, fun _ _ _ => rfl⟩
  · intro k hk
    rw [hoth k (by omega)]; exact h.below.block k hk
  · intro i o1 h1
    obtain ⟨e, h2⟩ := hsub i o1 h1
    obtain ⟨b1, x1, t1, h3, h4, h5⟩ := h.obj i o1 h2
    refine ⟨b1, x1, t1, h3, h4, ?_⟩
    rw [hoth b1 ?_]; exact h5
    intro eb; subst eb
    exact e (h.inj _ _ _ _ _ _ _ _ _ h2 hg h3 hρ)
  · intro i i' o1 o2 b1 x1 t1 x2 t2 h1 h2 h3 h4
    exact h.inj _ _ _ _ _ _ _ _ _ (hsub _ _ h1).2 (hsub _ _ h2).2 h3 h4
  · intro k _ hn
    exact hoth k fun e => hn id o x t hg (e ▸ hρ)
  · intro i o1 b1 x1 t1 h1 h2
    exact .inl ⟨i, o1, x1, t1, (hsub _ _ h1).2, h2⟩

/-! ## Results -/

/-- One result, read. -/
def readRes (tmps : Array Value) : Go.ResultVar → Sem Value
  | .tmp t => pure (tmps.getD t Go.undef)
  | .cell a t => do Go.loadVar t (← Go.asAddr (tmps.getD a Go.undef))

theorem results_eq (fn : Go.Func) (tmps : Array Value) : Go.results fn tmps = (do
    let vs ← fn.results.mapM (readRes tmps)
    pure (if h : vs.size = 1 then vs[0] else .tuple vs)) := by
  have : (readRes tmps) = (fun r => match r with
    | .tmp t => pure (tmps.getD t Go.undef)
    | .cell a t => do Go.loadVar t (← Go.asAddr (tmps.getD a Go.undef))) := by funext r; cases r <;> rfl
  rw [this]; rfl

theorem resOne_sound (hC : CfgOk E C) {t : List V} {tmps : Array Value} (ht : VRels E ρ t tmps.toList) (hr : Rel E ρ H.get H.next w) {r : Go.ResultVar} {rs : List Go.ResultVar} {r' : IRes} {rs' : List IRes} (hx : trRes E.P (r :: rs) = some (r' :: rs')) {v : V} (h : resOne C t H r' = some v) :
    trRes E.P rs = some rs' ∧ ∃ u, (readRes tmps r).run E.P w = .ok u w ∧ VRel E ρ v u := by
  cases r with
  | tmp i =>
    simp only [trRes, Option.map_eq_some_iff] at hx
    obtain ⟨l, h1, h2⟩ := hx
    cases h2
    refine ⟨h1, ?_⟩
    simp only [resOne] at h
    obtain ⟨u, h3, h4⟩ := ht.get i v h
    rw [Array.getElem?_toList] at h3
    exact ⟨u, by simp [readRes, Array.getD_eq_getD_getElem?, h3], h4⟩
  | cell i T =>
    simp only [trRes] at hx
    split at hx <;> try (cases hx; done)
    rename_i n d l hn hd hl
    simp only [Option.some.injEq, List.cons.injEq] at hx
    obtain ⟨hx, rfl⟩ := hx
    refine ⟨hl, ?_⟩
    subst hx
    simp only [resOne] at h
    split at h <;> try (cases h; done)
    rename_i a ha
    obtain ⟨u, h3, h4⟩ := ht.get i _ ha
    rw [Array.getElem?_toList] at h3
    cases h4
    rename_i c hac
    have hget : tmps.getD i Go.undef = .pointer (some c) := by simp [Array.getD_eq_getD_getElem?, h3]
    by_cases hg : isAgg E.P T = true
    · rw [if_pos hg] at h
      simp only [Option.map_eq_some_iff] at h
      obtain ⟨l2, hl2, rfl⟩ := h
      obtain ⟨us, k1, k2, k3⟩ := loadN_sound hC hr hac n 0 l2 hl2
      have hload := Go.run_loadCells_list (P := E.P) w c us (fun j u hj => by simpa using k3 j u hj)
      rw [k2] at hload
      exact ⟨_, by simp only [readRes]; simp [hget, Go.asAddr, Go.loadVar, isAgg_run hd, hg, sizeOf_run hn, hload], .agg _ _ k1⟩
    · rw [if_neg hg] at h
      simp only at h
      obtain ⟨q, hq, hqv⟩ := cellsAt_sound hC hr hac h
      have hq' : w.cell? c = some q := by simpa [Go.Addr.add] using hq
      exact ⟨q, by simp only [readRes]; simp [hget, Go.asAddr, Go.loadVar, isAgg_run hd, hg, hq'], hqv⟩

theorem resAll_sound (hC : CfgOk E C) {t : List V} {tmps : Array Value} (ht : VRels E ρ t tmps.toList) (hr : Rel E ρ H.get H.next w) : ∀ (rs : List Go.ResultVar) (rs' : List IRes) (l : List V), trRes E.P rs = some rs' → resAll C t H rs' = some l →
    ∃ us, (rs.mapM (readRes tmps)).run E.P w = .ok us w ∧ VRels E ρ l us
  | [], rs', l, hx, h => by
    simp only [trRes] at hx; cases hx
    simp only [resAll] at h; cases h
    exact ⟨[], by simp, .nil⟩
  | r :: rs, [], l, hx, h => by
    cases r <;> simp only [trRes] at hx
    · simp at hx
    · split at hx <;> try (cases hx; done)
  | r :: rs, r' :: rs', l, hx, h => by
    simp only [resAll] at h
    split at h <;> try (cases h; done)
    rename_i v l2 h1 h2
    cases h
    obtain ⟨k1, u, k2, k3⟩ := resOne_sound hC ht hr hx h1
    obtain ⟨us, q1, q2⟩ := resAll_sound hC ht hr rs rs' l2 k1 h2
    refine ⟨u :: us, ?_, .cons _ _ _ _ k3 q2⟩
    rw [List.mapM_cons]
    simp only [Sem.run_bind, k2, Go.Result.andThen_ok, q1, Sem.run_pure]

theorem results_sound (hC : CfgOk E C) {t : List V} {tmps : Array Value} (ht : VRels E ρ t tmps.toList) (hr : Rel E ρ H.get H.next w) {fn : Go.Func} {rs : List IRes} (hx : trRes E.P fn.results.toList = some rs) {v : V} (h : results C rs t H = some v) :
    ∃ u, (Go.results fn tmps).run E.P w = .ok u w ∧ VRel E ρ v u := by
  unfold results at h
  have go : ∀ l, resAll C t H rs = some l → (∃ u, (Go.results fn tmps).run E.P w = .ok u w ∧ (match l with | [v] => VRel E ρ v u | l => VRel E ρ (.tup l) u)) := by
    intro l hl
    obtain ⟨us, h1, h2⟩ := resAll_sound hC ht hr _ _ _ hx hl
    rw [results_eq]
    rw [Array.mapM_eq_mapM_toList]
    simp only [Sem.run_bind, Sem.run_map, h1, Go.Result.andThen_ok, Sem.run_pure]
    cases h2 with
    | nil => exact ⟨_, by simp, .tup _ _ .nil⟩
    | cons v u l l' k kl =>
      cases kl with
      | nil => exact ⟨u, by simp, k⟩
      | cons v2 u2 l2 l2' k2 kl2 => exact ⟨_, by simp, .tup _ _ (.cons _ _ _ _ k (.cons _ _ _ _ k2 kl2))⟩
  split at h
  · rename_i v' hl
    cases h
    exact go _ hl
  · rename_i l hne hl
    cases h
    obtain ⟨u, h1, h2⟩ := go _ hl
    refine ⟨u, h1, ?_⟩
    split at h2
    · exact absurd rfl (hne _)
    · exact h2
  · cases h

/-! ## Leaving -/

theorem leaves_sound (hC : CfgOk E C) {n : Nat} {fn : Go.Func} {t : List V} {tmps : Array Value} {rs : List IRes} (hx : trRes E.P fn.results.toList = some rs) {v : V} {H2 : Heap} {R : Ending → World → Prop} :
    ∀ (d : List Nat) (ds : List Go.Deferred) (H : Heap) (w : World), DRels ρ d ds → Rel E ρ H.get H.next w → VRels E ρ t tmps.toList → takeMarks d H = some H2 → results C rs t H2 = some v →
      (∀ u w', VRel E ρ v u → Post E (fun _ => False) ρ H.get H.next w ρ H2.get H2.next w' → R (.returned u) w') → Go.LeavesInM Fence.wide n E.P fn tmps R ds .returning w := by
  intro d
  induction d with
  | nil =>
    intro ds H w hd hr ht hm hres hR
    cases hd
    simp only [takeMarks] at hm; cases hm
    obtain ⟨u, h1, h2⟩ := results_sound hC ht hr hx hres
    exact ⟨u, h1, hR u w h2 (.refl hr)⟩
  | cons r d ih =>
    intro ds H w hd hr ht hm hres hR
    cases hd with
    | cons _ b o tot _ ds' hρ hl =>
      simp only [takeMarks] at hm
      split at hm <;> try (cases hm; done)
      rename_i hg
      obtain ⟨b', x', t', h1, h2, h3⟩ := hr.obj _ _ hg
      rw [hρ] at h1; cases h1
      have hk := Post.kill (S := fun _ => False) hr hg hρ (w.putObj b (.deferred none)) ⟨rfl, rfl, rfl⟩ Go.World.putObj_size fun k hk => Go.World.putObj_heap_other hk
      have hk' : Post E (fun _ => False) ρ H.get H.next w ρ (H.del r).get (H.del r).next (w.putObj b (.deferred none)) := by rw [Heap.del_get]; exact hk
      refine ⟨by simp, .inl ⟨b, _, rfl, Go.run_takeDeferred h3, ?_⟩⟩
      exact ih ds' _ _ hl hk'.rel ht hm hres fun u w' k1 k2 => hR u w' k1 (hk'.trans k2)

theorem setMany_sound : ∀ (ps : List Nat) (vs : List V) (us : List Value) (t : List V) (tmps : Array Value), VRels E ρ t tmps.toList → VRels E ρ vs us → vs.length = ps.length →
    VRels E ρ (setMany t ps vs) ((ps.zip us).foldl (fun (tmps : Array Value) (p : Nat × Value) => tmps.setIfInBounds p.1 p.2) tmps).toList
  | [], vs, us, t, tmps, ht, _, _ => by simpa [setMany] using ht
  | p :: ps, [], us, t, tmps, ht, hv, hl => by simp at hl
  | p :: ps, v :: vs, us, t, tmps, ht, hv, hl => by
    cases hv with
    | cons _ u _ us k kl =>
      simp only [setMany, List.zip_cons_cons, List.foldl_cons]
      exact setMany_sound ps vs us _ _ (by rw [Array.toList_setIfInBounds]; exact ht.set p k) kl (by simpa using hl)

end

/-! ## The machine -/

/-- The machine's functions are the program's. -/
structure FnsOk (E : Env) (C : Cfg) : Prop where
  fns : ∀ f F, C.fns f = some F → ∀ f', E.fm f' = some f → ∃ fn, E.P.funcs[f']? = some fn ∧ trFun E fn = some F
  prim : ∀ f p, C.prim f = some p → ∀ f', E.fm f' = some f → ∀ args H v H', p args H = some (v, H') → ∀ (ρ : Ren) (w : World) (args' : List Value), VRels E ρ args args' → Rel E ρ H.get H.next w → Go.Calls E.P f' args'.toArray w (CallPost E ρ H w v H')
  mono : ∀ f p args H v H', C.prim f = some p → p args H = some (v, H') → Mono H.next H H'

theorem wd_none : Wd none = Fence.wide := rfl
theorem wd_some (b : Nat) : Wd (some b) = Fence.wide.inRound b := rfl

section
variable {E : Env} {C : Cfg}

theorem ifun_sound (hE : EnvOk E) (hC : CfgOk E C) {cf : CallF} (hcf : CfOk E cf) (hm : CfMono cf) {N : Nat} {F : IFun} {f' : FuncId} {fn : Go.Func} (hf : E.P.funcs[f']? = some fn) (hF : trFun E fn = some F) {args : List V} {H : Heap} {v : V} {H' : Heap} (h : ifun cf C N F args H = some (v, H'))
    (ρ : Ren) (w : World) (args' : List Value) (ha : VRels E ρ args args') (hr : Rel E ρ H.get H.next w) : Go.Calls E.P f' args'.toArray w (CallPost E ρ H w v H') := by
  unfold trFun at hF
  split at hF <;> try (cases hF; done)
  rename_i c rs hb hrs
  cases hF
  refine (Go.callsIn_wide (n := 0)).1 (Go.callsIn_of_wp_marks hf hb trivial ?_)
  unfold ifun at h
  have hst : VRels E ρ (args ++ List.replicate (fn.ntmps - args.length) .undef) (args'.toArray ++ Array.replicate (fn.ntmps - args'.toArray.size) Go.undef).toList := by
    rw [ha.length]
    simp only [Array.toList_append, Array.toList_replicate, List.size_toArray]
    refine ha.append ?_
    generalize fn.ntmps - args'.length = k
    induction k with
    | zero => exact .nil
    | succ k ih => rw [List.replicate_succ, List.replicate_succ]; exact .cons _ _ _ _ .undef ih
  have go : ∀ (x : IExit) (hx : x = .nrm ∨ x = .rt) t (H1 : Heap) d, exec cf C N none (trCode E c) (args ++ List.replicate (fn.ntmps - args.length) .undef) H [] = some (x, t, H1, d) →
      (match takeMarks d H1 with
      | some H'' => match results C rs t H'' with
        | some v => some (v, H'')
        | none => none
      | none => none) = some (v, H') → c.wpIn Fence.wide 0 E.P (Go.bodyPostM Fence.wide 0 E.P fn (CallPost E ρ H w v H')) { tmps := args'.toArray ++ Array.replicate (fn.ntmps - args'.toArray.size) Go.undef, defers := [] } w := by
    intro x hx t H1 d h1 h
    split at h <;> try (cases h; done)
    rename_i H2 h2
    split at h <;> try (cases h; done)
    rename_i v2 h3
    cases h
    rw [← wd_none]
    refine exec_sound hE hC hcf hm c ρ _ H [] _ w x t H1 d _ h1 hst .nil hr (roR := none) trivial fun ρ1 a1 w1 k1 k2 k3 => ?_
    have hl := leaves_sound (n := 0) (R := CallPost E ρ H w v H') hC hrs d a1.defers H1 w1 k2 k3.rel k1 h2 h3 fun u w' q1 q2 => ⟨ρ1, u, rfl, q1, k3.trans q2⟩
    rcases hx with rfl | rfl <;> exact hl
  simp only at h
  split at h <;> try (cases h; done)
  · rename_i h1; exact go _ (.inl rfl) _ _ _ h1 h
  · rename_i h1; exact go _ (.inr rfl) _ _ _ h1 h

theorem irnd_sound (hE : EnvOk E) (hC : CfgOk E C) {cf : CallF} (hcf : CfOk E cf) (hm : CfMono cf) {N l : Nat} {args : List V} {H : Heap} {v : V} {H' : Heap} (h : irnd cf C N l args H = some (v, H'))
    (ρ : Ren) (w : World) (args' : List Value) (b x tot : Nat) (ha : VRels E ρ args args') (hr : Rel E ρ H.get H.next w) (hl : ρ l = some (b, x, tot)) :
    ∃ fn tmps assign body, (Go.Instr.yield b args'.toArray).run E.P w = .ok (.round b fn tmps assign body) w ∧ Go.RoundIn Fence.wide 0 E.P b fn tmps assign body w (CallPost E ρ H w v H') := by
  unfold irnd at h
  split at h <;> try (cases h; done)
  rename_i r hg
  split at h <;> try (cases h; done)
  rename_i hlen
  split at h <;> try (cases h; done)
  rename_i t1 H1 h1
  split at h <;> try (cases h; done)
  rename_i r1 hg1
  split at h <;> try (cases h; done)
  rename_i hst
  split at h <;> try (cases h; done)
  rename_i e t3 H3 h3
  have hlen : args.length = r.ps.length := Classical.byContradiction hlen
  have hst : r1.st = 0 := Classical.byContradiction hst
  obtain ⟨b', x', tot', e1, _, R, bd, o, tot2, g1, g2, g3, g4, g5, g6, g7, g8, g9⟩ := hr.obj _ _ hg
  rw [hl] at e1; cases e1
  have hps : args'.toArray.size = R.params.size := by
    rw [List.size_toArray, ← ha.length, hlen, ← g5]; simp
  refine ⟨R.fn, _, R.assign, R.body, Go.run_yield g1 hps, Go.roundIn_of_wpIn trivial ?_⟩
  rw [← wd_some]
  have hslots : VRels E ρ (setMany r.tmps r.ps args) ((R.params.zip args'.toArray).foldl (fun tmps (t, a) => tmps.setIfInBounds t a) R.tmps).toList := by
    have := setMany_sound (E := E) (ρ := ρ) r.ps args args' r.tmps R.tmps g4 ha hlen
    rw [← g5] at this
    rw [← Array.foldl_toList, Array.toList_zip]
    exact g5 ▸ this
  rw [← g6] at h1
  refine exec_sound hE hC hcf hm R.assign ρ _ H [] _ w .nrm t1 H1 [] _ h1 hslots .nil hr (roR := some b) ⟨x, tot, hl⟩ fun ρ1 a1 w1 k1 k2 k3 => ?_
  have hl1 := k3.ext _ _ hl
  obtain ⟨b2, x2, tot3, e2, _, R1, bd1, o1, tot4, q1, q2, q3, q4, q5, q6, q7, q8, q9⟩ := k3.rel.obj _ _ hg1
  rw [hl1] at e2; cases e2
  have hready : R1.state = .ready := by rw [q2, hst]; rfl
  have hlt1 := (Array.getElem?_eq_some_iff.1 q1).1
  have hln : l < H1.next := by
    rcases Nat.lt_or_ge l H1.next with h | h
    · exact h
    · rw [k3.rel.fresh _ h] at hl1; cases hl1
  refine ⟨_, Go.run_beginRound q1 hready, ?_⟩
  have hw1 := Post.write (S := fun _ => False) k3.rel hg1 hl1 (.loop { R1 with state := .busy }) (o' := .loop { r1 with st := 1 }) ⟨_, bd1, o1, tot4, rfl, rfl, q3, q4, q5, q6, q7, q8, q9⟩
    (w1.putObj b (.loop { R1 with state := .busy })) ⟨rfl, rfl, rfl⟩ Go.World.putObj_size (Go.World.putObj_heap_same hlt1) (fun k hk => Go.World.putObj_heap_other hk) hln
  have hw1' : Post E (fun _ => False) ρ1 H1.get H1.next w1 ρ1 (H1.put l (.loop { r1 with st := 1 })).get (H1.put l (.loop { r1 with st := 1 })).next (w1.putObj b (.loop { R1 with state := .busy })) := by
    rw [Heap.put_get, Heap.next_put, if_pos hln]; exact hw1
  have hbody : r.body = trCode E R.body := g7.symm
  rw [hbody] at h3
  refine exec_sound hE hC hcf hm R.body ρ1 t1 _ [] a1 _ e t3 H3 [] _ h3 k1 k2 hw1'.rel (roR := some b) ⟨x, tot, hl1⟩ fun ρ2 a2 w2 p1 p2 p3 => ?_
  have hl2 := p3.ext _ _ hl1
  unfold endRnd at h
  split at h <;> try (cases h; done)
  rename_i r3 hg3
  obtain ⟨b3, x3, tot5, e3, _, R3, bd3, o3, tot6, s1, s2, s3, s4, s5, s6, s7, s8, s9⟩ := p3.rel.obj _ _ hg3
  rw [hl2] at e3; cases e3
  have hlt3 := (Array.getElem?_eq_some_iff.1 s1).1
  have hln3 : l < H3.next := by
    rcases Nat.lt_or_ge l H3.next with h | h
    · exact h
    · rw [p3.rel.fresh _ h] at hl2; cases hl2
  have fin : ∀ (j : Option Jump) (st : Nat), stOf st = (if (jumpOf j).isNone then .ready else .done) →
      Post E (fun _ => False) ρ H.get H.next w ρ2 (H3.put l (.loop { r3 with st := st, pend := j })).get (H3.put l (.loop { r3 with st := st, pend := j })).next
        (w2.putObj b (.loop { R3 with state := if (jumpOf j).isNone then .ready else .done, pending := jumpOf j })) := by
    intro j st hj
    have hw3 := Post.write (S := fun _ => False) p3.rel hg3 hl2 (.loop { R3 with state := if (jumpOf j).isNone then .ready else .done, pending := jumpOf j }) (o' := .loop { r3 with st := st, pend := j })
      ⟨_, bd3, o3, tot6, rfl, hj.symm, rfl, s4, s5, s6, s7, s8, s9⟩
      (w2.putObj b (.loop { R3 with state := if (jumpOf j).isNone then .ready else .done, pending := jumpOf j })) ⟨rfl, rfl, rfl⟩ Go.World.putObj_size (Go.World.putObj_heap_same hlt3) (fun k hk => Go.World.putObj_heap_other hk) hln3
    rw [Heap.put_get, Heap.next_put, if_pos hln3]
    exact ((k3.trans hw1').trans p3).trans hw3
  cases e with
  | nrm =>
    simp only at h; cases h
    exact ⟨_, _, Go.run_endRound none s1, ρ2, _, rfl, .bool true, fin none 0 rfl⟩
  | rt =>
    simp only at h; cases h
    exact ⟨_, _, Go.run_endRound (some .ret) s1, ρ2, _, rfl, .bool false, fin (some .ret) 2 rfl⟩
  | ex k =>
    simp only at h; cases h
    exact ⟨_, _, Go.run_endRound (some (.exit k)) s1, ρ2, _, rfl, .bool false, fin (some (.exit k)) 2 rfl⟩

theorem icall_sound (hE : EnvOk E) (hC : CfgOk E C) (hF : FnsOk E C) : ∀ n, CfOk E (icall C n)
  | 0 => ⟨fun f f' args H v H' h => (by simp only [icall] at h; cases h), fun l args H v H' h => (by simp only [icall] at h; cases h)⟩
  | n + 1 => by
    have ih := icall_sound hE hC hF n
    have hm := icall_mono hF.mono n
    refine ⟨fun f f' args H v H' h hf ρ w args' ha hr => ?_, fun l args H v H' h ρ w args' b x tot ha hr hl => ?_⟩
    · simp only [icall] at h
      split at h
      · rename_i p hp
        exact hF.prim f p hp f' hf args H v H' h ρ w args' ha hr
      · split at h <;> try (cases h; done)
        rename_i F hFf
        obtain ⟨fn, h1, h2⟩ := hF.fns f F hFf f' hf
        exact ifun_sound hE hC ih hm h1 h2 h ρ w args' ha hr
    · simp only [icall] at h
      exact irnd_sound hE hC ih hm h ρ w args' b x tot ha hr hl

/-- What a run of the ideal machine, from nothing, says of the program. -/
theorem runs (hE : EnvOk E) (hC : CfgOk E C) (hF : FnsOk E C) {n f : Nat} {f' : FuncId} (hf : E.fm f' = some f) {args : List V} {args' : List Value} (ha : VRels E (fun _ => none) args args') {v : V} {H' : Heap} (h : icall C n (.fn f) args Heap.empty = some (v, H')) :
    Go.Calls E.P f' args'.toArray E.w0 fun e w' => ∃ ρ c, e = .returned c ∧ VRel E ρ v c ∧ Below E.w0.heap.size E.w0 w' := by
  have hr : Rel E (fun _ => none) Heap.empty.get Heap.empty.next E.w0 := by
    have hn : ∀ id, Heap.empty.get id = none := fun id => by simp [Heap.empty, Heap.get, Tr.get]
    exact ⟨Below.refl _ _, fun id o h => (by rw [hn] at h; cases h), fun id id' o o' b x t x' t' h => (by rw [hn] at h; cases h), fun _ _ => rfl⟩
  intro cs
  obtain ⟨e, w', fr, ⟨ρ, c, h1, h2, h3⟩, rest⟩ := (icall_sound hE hC hF n).fn f f' args Heap.empty v H' h hf _ E.w0 args' ha hr cs
  exact ⟨e, w', fr, ⟨ρ, c, h1, h2, h3.rel.below⟩, rest⟩

end
end Im

/- A seat's functions as a table; a run of a law says what the row asks. -/
namespace Im
open Go (IntKind BinOp UnOp Program World Value Addr TypeId FuncId)
open Go.RowKit (Below)

/-- The table's functions are the program's. -/
def TabOk (E : Env) : List (Nat × IFun) → Prop
  | [] => True
  | (k, F) :: r => (∃ fn, E.P.funcs[k]? = some fn ∧ (fn.name == "runtime.NumGoroutine") = false ∧ trFun E fn = some F) ∧ TabOk E r

def look {α : Type} (tab : List (Nat × α)) (f : Nat) : Option α :=
  match tab with
  | [] => none
  | (k, F) :: r => if k = f then some F else look r f

theorem look_mem {α : Type} : ∀ {tab : List (Nat × α)} {f : Nat} {F : α}, look tab f = some F → (f, F) ∈ tab
  | [], f, F, h => by simp [look] at h
  | (k, G) :: r, f, F, h => by
    unfold look at h
    split at h
    · rename_i hk; cases h; rw [hk]; exact List.mem_cons_self
    · exact List.mem_cons_of_mem _ (look_mem h)

theorem TabOk.mem {E : Env} : ∀ {tab : List (Nat × IFun)}, TabOk E tab → ∀ {k : Nat} {F : IFun}, (k, F) ∈ tab → ∃ fn, E.P.funcs[k]? = some fn ∧ (fn.name == "runtime.NumGoroutine") = false ∧ trFun E fn = some F
  | [], _, _, _, h => by simp at h
  | (k0, F0) :: r, ht, k, F, h => by
    rcases List.mem_cons.1 h with h | h
    · cases h; exact ht.1
    · exact ht.2.mem h

/-- Functions by their own numbers. -/
def fmOf (tab : List (Nat × IFun)) (f : FuncId) : Option Nat := if (look tab f).isSome then some f else none

theorem fmOf_some {tab : List (Nat × IFun)} {f : FuncId} {g : Nat} (h : fmOf tab f = some g) : g = f ∧ ∃ F, look tab f = some F := by
  unfold fmOf at h
  split at h
  · rename_i hs; cases h; exact ⟨rfl, Option.isSome_iff_exists.1 hs⟩
  · cases h

def cfgOf (tab : List (Nat × IFun)) : Cfg := { fns := look tab, st := fun _ _ => none, gl := fun _ _ => none, prim := fun _ => none }

theorem envOk_of {E : Env} {tab : List (Nat × IFun)} (hfm : E.fm = fmOf tab) (h : TabOk E tab) : EnvOk E :=
  ⟨fun f g hf => by
    rw [hfm] at hf
    obtain ⟨rfl, F, hF⟩ := fmOf_some hf
    obtain ⟨fn, h1, h2, h3⟩ := h.mem (look_mem hF)
    refine ⟨fn, h1, by simpa using h2, ?_⟩
    unfold trFun at h3
    split at h3 <;> try (cases h3; done)
    rename_i hb _; simp [hb]⟩

theorem fnsOk_of {E : Env} {tab : List (Nat × IFun)} (hfm : E.fm = fmOf tab) (h : TabOk E tab) : FnsOk E (cfgOf tab) :=
  ⟨fun f F hF f' hf => by
    rw [hfm] at hf
    obtain ⟨rfl, _⟩ := fmOf_some hf
    obtain ⟨fn, h1, h2, h3⟩ := h.mem (look_mem hF)
    exact ⟨fn, h1, h3⟩, fun f p h => by simp [cfgOf] at h, fun f p args H v H' h => by simp [cfgOf] at h⟩

theorem cfgOk_of {E : Env} {tab : List (Nat × IFun)} (hgm : ∀ g, E.gm g = none) : CfgOk E (cfgOf tab) :=
  ⟨fun b i v h => (by simp [cfgOf] at h), fun m g i v h => (by rw [hgm] at h; cases h), fun g m h => (by rw [hgm] at h; cases h)⟩

/-- A closed law: what the machine answers. -/
theorem closed_run {E : Env} {tab : List (Nat × IFun)} (hfm : E.fm = fmOf tab) (hgm : ∀ g, E.gm g = none) (h : TabOk E tab) {n f : Nat} (hf : (look tab f).isSome = true)
    (hrun : (icall (cfgOf tab) n (.fn f) [] Heap.empty).map (·.1) = some (.bool true)) :
    Go.Calls E.P f #[] E.w0 fun e w' => e = .returned (.bool true) ∧ Below E.w0.heap.size E.w0 w' := by
  cases hr : icall (cfgOf tab) n (.fn f) [] Heap.empty with
  | none => rw [hr] at hrun; cases hrun
  | some p =>
    obtain ⟨v, H'⟩ := p
    rw [hr] at hrun
    simp only [Option.map_some, Option.some.injEq] at hrun
    subst hrun
    have hf' : E.fm f = some f := by rw [hfm]; simp [fmOf, hf]
    have := runs (envOk_of hfm h) (cfgOk_of (tab := tab) hgm) (fnsOk_of hfm h) hf' (args' := []) .nil hr
    intro cs
    obtain ⟨e, w', fr, ⟨ρ, c, h1, h2, h3⟩, rest⟩ := this cs
    cases h2
    exact ⟨e, w', fr, ⟨h1, h3⟩, rest⟩

/-! ## Package variables that hold known cells -/

def cfgG (tab : List (Nat × IFun)) (gtab : List (Nat × List V)) : Cfg :=
  { fns := look tab, st := fun _ _ => none, gl := fun m i => match look gtab m with | some l => l[i]? | none => none, prim := fun _ => none }

def gmOf (gtab : List (Nat × List V)) (g : Nat) : Option Nat := if (look gtab g).isSome then some g else none

/-- The variables' cells are the table's. -/
def GlOk (E : Env) (gtab : List (Nat × List V)) : Prop :=
  ∀ m l, (m, l) ∈ gtab → m < E.w0.heap.size ∧ ∀ i v, l[i]? = some v → ∃ u, E.w0.cell? ⟨m, i, none⟩ = some u ∧ VRel E (fun _ => none) v u

theorem gmOf_some {gtab : List (Nat × List V)} {g m : Nat} (h : gmOf gtab g = some m) : m = g ∧ ∃ l, look gtab g = some l := by
  unfold gmOf at h
  split at h
  · rename_i hs; cases h; exact ⟨rfl, Option.isSome_iff_exists.1 hs⟩
  · cases h

theorem cfgOk_ofG {E : Env} {tab : List (Nat × IFun)} {gtab : List (Nat × List V)} (hgm : E.gm = gmOf gtab) (h : GlOk E gtab) : CfgOk E (cfgG tab gtab) := by
  refine ⟨fun b i v h => by simp [cfgG] at h, fun m g i v hg hv => ?_, fun g m hg => ?_⟩
  · rw [hgm] at hg
    obtain ⟨rfl, l, hl⟩ := gmOf_some hg
    simp only [cfgG, hl] at hv
    exact (h _ _ (look_mem hl)).2 i v hv
  · rw [hgm] at hg
    obtain ⟨rfl, l, hl⟩ := gmOf_some hg
    exact (h _ _ (look_mem hl)).1

theorem fnsOk_ofG {E : Env} {tab : List (Nat × IFun)} {gtab : List (Nat × List V)} (hfm : E.fm = fmOf tab) (h : TabOk E tab) : FnsOk E (cfgG tab gtab) :=
  ⟨(fnsOk_of hfm h).fns, fun f p h => by simp [cfgG] at h, fun f p args H v H' h => by simp [cfgG] at h⟩

/-- A closed law that reads such variables. -/
theorem closed_runG {E : Env} {tab : List (Nat × IFun)} {gtab : List (Nat × List V)} (hfm : E.fm = fmOf tab) (hgm : E.gm = gmOf gtab) (hg : GlOk E gtab) (h : TabOk E tab) {n f : Nat} (hf : (look tab f).isSome = true)
    (hrun : (icall (cfgG tab gtab) n (.fn f) [] Heap.empty).map (·.1) = some (.bool true)) :
    Go.Calls E.P f #[] E.w0 fun e w' => e = .returned (.bool true) ∧ Below E.w0.heap.size E.w0 w' := by
  cases hr : icall (cfgG tab gtab) n (.fn f) [] Heap.empty with
  | none => rw [hr] at hrun; cases hrun
  | some p =>
    obtain ⟨v, H'⟩ := p
    rw [hr] at hrun
    simp only [Option.map_some, Option.some.injEq] at hrun
    subst hrun
    have hf' : E.fm f = some f := by rw [hfm]; simp [fmOf, hf]
    have := runs (envOk_of hfm h) (cfgOk_ofG (tab := tab) hgm hg) (fnsOk_ofG hfm h) hf' (args' := []) .nil hr
    intro cs
    obtain ⟨e, w', fr, ⟨ρ, c, h1, h2, h3⟩, rest⟩ := this cs
    cases h2
    exact ⟨e, w', fr, ⟨h1, h3⟩, rest⟩

end Im

/- More fuel, more answers; never another one ('icall_le'). -/
namespace Im
open Go (IntKind BinOp UnOp)

/-- What the one answers the other answers too. -/
def Le (a b : CallF) : Prop := ∀ c args H r, a c args H = some r → b c args H = some r

section
variable {a b : CallF} (hab : Le a b) {C : Cfg}
include hab

theorem iop_le {nid : Nat} {op : IOp} {t : List V} {H : Heap} {r : V × Heap} (h : iop a C nid op t H = some r) : iop b C nid op t H = some r := by
  cases op <;> simp only [iop] at h ⊢ <;> try exact h
  case call f args => exact hab _ _ _ _ h
  case callv x args =>
    unfold icallv at h ⊢
    split at h <;> first | exact hab _ _ _ _ h | cases h

theorem istep_le {nid : Nat} {o : IOper} {t : List V} {H : Heap} {r : List V × Heap} (h : istep a C nid o t H = some r) : istep b C nid o t H = some r := by
  unfold istep at h ⊢
  split at h
  · rename_i hw
    rw [if_pos hw]
    split at h <;> try (cases h; done)
    rename_i h1
    rw [iop_le hab h1]; exact h
  · rename_i hw
    rw [if_neg hw]; exact h

theorem iops_le : ∀ (l : List IOper) (t : List V) (H : Heap) (r : List V × Heap), iops a C l t H = some r → iops b C l t H = some r
  | [], _, _, _, h => h
  | o :: l, t, H, r, h => by
    simp only [iops] at h ⊢
    split at h <;> try (cases h; done)
    rename_i h1
    rw [istep_le hab h1]
    exact iops_le l _ _ _ h

theorem dstep_le {base : Nat} {mats : List (Nat × List Nat)} {i : Nat} {o : IOper} {t : List V} {A : Heap} {pend : List (Nat × Obj)} {r : Rec × List V × Heap × List (Nat × Obj)}
    (h : dstep a C base mats i o t A pend = some r) : dstep b C base mats i o t A pend = some r := by
  unfold dstep at h ⊢
  split at h
  · rename_i hw
    rw [if_pos hw]
    generalize clsOf o.op = k at h ⊢
    rcases k with _ | _ | _ | k <;> simp only at h ⊢ <;> split at h <;> try (cases h; done)
    all_goals
      rename_i h1
      rw [iop_le hab h1]; exact h
  · rename_i hw
    rw [if_neg hw]; exact h

theorem drun_le {base : Nat} {mats : List (Nat × List Nat)} : ∀ (os : List IOper) (i : Nat) (t : List V) (A : Heap) (pend : List (Nat × Obj)) (r : List Rec × List V × Heap), drun a C base mats os i t A pend = some r → drun b C base mats os i t A pend = some r
  | [], _, _, _, _, _, h => h
  | o :: os, i, t, A, pend, r, h => by
    simp only [drun] at h ⊢
    split at h <;> try (cases h; done)
    rename_i h1
    rw [dstep_le hab h1]
    simp only
    split at h <;> try (cases h; done)
    rename_i h2
    rw [drun_le os _ _ _ _ _ h2]; exact h

theorem iregD_le {os : List IOper} {mats : List (Nat × List Nat)} {prs : List (Nat × Nat)} {t : List V} {H : Heap} {r : List V × Heap} (h : iregD a C os mats prs t H = some r) : iregD b C os mats prs t H = some r := by
  unfold iregD at h ⊢
  split at h <;> try (cases h; done)
  rename_i h1
  rw [drun_le hab _ _ _ _ _ _ h1]; exact h

theorem irng_le {ro : Option Nat} {f : V} {ps : List Nat} {x y : ICode} {t : List V} {H : Heap} {d : List Nat} {r : IExit × List V × Heap × List Nat} (h : irng a ro f ps x y t H d = some r) : irng b ro f ps x y t H d = some r := by
  unfold irng at h ⊢
  split at h <;> try (cases h; done)
  simp only at h ⊢
  split at h <;> try (cases h; done)
  split at h <;> try (cases h; done)
  rename_i h1
  rw [hab _ _ _ _ h1]; exact h

theorem exec_le {N M : Nat} (hNM : N ≤ M) {ro : Option Nat} : ∀ (c : ICode) (t : List V) (H : Heap) (d : List Nat) (r : IExit × List V × Heap × List Nat), exec a C N ro c t H d = some r → exec b C M ro c t H d = some r := by
  intro c
  induction c with
  | skip | exit _ | ret | bad => intro t H d r h; exact h
  | reg os =>
    intro t H d r h
    simp only [exec] at h ⊢
    split at h <;> try (cases h; done)
    rename_i h1
    rw [iops_le hab _ _ _ _ h1]; exact h
  | regD os mats prs =>
    intro t H d r h
    simp only [exec] at h ⊢
    split at h <;> try (cases h; done)
    rename_i h1
    rw [iregD_le hab h1]; exact h
  | seq x y ihx ihy =>
    intro t H d r h
    simp only [exec] at h ⊢
    split at h
    · rename_i h1
      rw [ihx _ _ _ _ h1]; exact ihy _ _ _ _ h
    · rename_i hne
      have := ihx _ _ _ _ h
      rw [this]
      obtain ⟨e, t', H', d'⟩ := r
      cases e with
      | nrm => exact absurd h (hne _ _ _)
      | ex k => rfl
      | rt => rfl
  | cond x y z ihy ihz =>
    intro t H d r h
    simp only [exec] at h ⊢
    split at h <;> first | (cases h; done) | exact ihy _ _ _ _ h | exact ihz _ _ _ _ h
  | block id x ih =>
    intro t H d r h
    simp only [exec] at h ⊢
    split at h
    · rename_i h1
      rw [ih _ _ _ _ h1]; exact h
    · rename_i hne
      rw [ih _ _ _ _ h]
      obtain ⟨e, t', H', d'⟩ := r
      cases e with
      | nrm => rfl
      | ex k => exact absurd h (hne _ _ _ _)
      | rt => rfl
  | scope x ih =>
    intro t H d r h
    simp only [exec] at h ⊢
    exact ih _ _ _ _ h
  | loop x ih =>
    intro t H d r h
    simp only [exec] at h ⊢
    have key : ∀ (n m : Nat) (t : List V) (H : Heap) (d : List Nat), n ≤ m → iter (exec a C N ro x) n t H d = some r → iter (exec b C M ro x) m t H d = some r := by
      intro n
      induction n with
      | zero => intro m t H d _ h; simp only [iter] at h; cases h
      | succ n ihn =>
        intro m t H d hm h
        obtain ⟨m', rfl⟩ : ∃ m', m = m' + 1 := ⟨m - 1, by omega⟩
        simp only [iter] at h ⊢
        split at h
        · rename_i h1
          rw [ih _ _ _ _ h1]
          exact ihn m' _ _ _ (by omega) h
        · rename_i hne
          rw [ih _ _ _ _ h]
          obtain ⟨e, t', H', d'⟩ := r
          cases e with
          | nrm => exact absurd h (hne _ _ _)
          | ex k => rfl
          | rt => rfl
    exact key N M t H d hNM h
  | rng f ps x y _ _ =>
    intro t H d r h
    simp only [exec] at h ⊢
    exact irng_le hab h

theorem ifun_le {N M : Nat} (hNM : N ≤ M) {F : IFun} {args : List V} {H : Heap} {r : V × Heap} (h : ifun a C N F args H = some r) : ifun b C M F args H = some r := by
  unfold ifun at h ⊢
  split at h <;> try (cases h; done)
  · rename_i h1; rw [exec_le hab hNM _ _ _ _ _ h1]; exact h
  · rename_i h1; rw [exec_le hab hNM _ _ _ _ _ h1]; exact h

theorem irnd_le {N M : Nat} (hNM : N ≤ M) {l : Nat} {args : List V} {H : Heap} {r : V × Heap} (h : irnd a C N l args H = some r) : irnd b C M l args H = some r := by
  unfold irnd at h ⊢
  split at h <;> try (cases h; done)
  rename_i hg
  split at h <;> try (cases h; done)
  rename_i hl
  rw [if_neg hl]
  split at h <;> try (cases h; done)
  rename_i h1
  rw [exec_le hab hNM _ _ _ _ _ h1]
  simp only
  split at h <;> try (cases h; done)
  split at h <;> try (cases h; done)
  rename_i hs
  rw [if_neg hs]
  split at h <;> try (cases h; done)
  rename_i h2
  rw [exec_le hab hNM _ _ _ _ _ h2]; exact h

end

theorem icall_step (C : Cfg) : ∀ n, Le (icall C n) (icall C (n + 1))
  | 0 => fun c args H r h => by simp only [icall] at h; cases h
  | n + 1 => fun c args H r h => by
    have ih := icall_step C n
    rw [icall] at h ⊢
    cases c with
    | fn f =>
      simp only at h ⊢
      split at h
      · exact h
      · split at h <;> try (cases h; done)
        exact ifun_le ih (Nat.le_succ n) h
    | rnd l => exact irnd_le ih (Nat.le_succ n) h

theorem icall_le (C : Cfg) {n m : Nat} (h : n ≤ m) : Le (icall C n) (icall C m) := by
  induction m with
  | zero => have : n = 0 := by omega
            subst this; exact fun _ _ _ _ h => h
  | succ m ih =>
    rcases Nat.lt_or_ge n (m + 1) with h1 | h1
    · exact fun c args H r k => icall_step C m c args H r (ih (by omega) c args H r k)
    · have : n = m + 1 := by omega
      subst this; exact fun _ _ _ _ h => h

end Im

