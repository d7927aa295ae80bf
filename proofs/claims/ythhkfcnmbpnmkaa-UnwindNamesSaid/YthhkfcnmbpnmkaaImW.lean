/- Code: 'exec_sound'. -/
import Derived.Test.YthhkfcnmbpnmkaaImV
import Derived.RangeFuncNested
import Derived.LoopNIn
import Derived.Scope
namespace Im
open Go (IntKind BinOp UnOp Program World Value Addr TypeId FuncId Code Oper Operand Op TypeDesc Sem Act Fence Exit Ending)
open Go.RowKit (Below)

theorem wpIn_scope {F : Fence} {n : Nat} {P : Program} {c : Code} {Q : Exit → Act → World → Prop} {a : Act} {w : World} (h : c.wpIn F n P (Go.Exit.noGoto Q) a w) : (Code.scope c).wpIn F n P Q a w := by
  intro b k cs hro hb hr
  have h0 : (Go.lone (b.atR a (.code (.scope c) :: k)) cs w).fenced P F := Go.fenced_calm hb hr rfl
  have hs1 : Go.step P (Go.lone (b.atR a (.code (.scope c) :: k)) cs w) = .next (Go.lone (b.atR a (.code c :: .inScope c :: k)) cs w) :=
    Go.step_lone_go (by simp [Go.stepG, Go.stepG.exec, Go.Frame.atR])
  have hs2 : ∀ a w, Go.step P (Go.lone (b.atR a (.inScope c :: k)) cs w) = .next (Go.lone (b.atR a k) cs w) := fun a w =>
    Go.step_lone_go (by simp [Go.stepG, Go.stepG.exec, Go.Frame.atR])
  obtain ⟨e, a₁, w₁, hq, harr⟩ := h b (.inScope c :: k) cs hro hb hr
  cases e with
  | normal => exact ⟨.normal, a₁, w₁, hq, .head h0 hs1 (Go.StepsIn.trans harr (.one (Go.fenced_calm hb hr rfl) (hs2 _ _)))⟩
  | exit id =>
    exact ⟨.exit id, a₁, w₁, hq, fun k' hk => .head h0 hs1 (harr.1 k' (by simp [Go.exitTo, hk])),
      fun hr' hk => let ⟨k₁, h1, h2⟩ := harr.2 hr' (by simp [Go.exitTo, hk]); ⟨k₁, h1, .head h0 hs1 h2⟩⟩
  | goto l => exact hq.elim
  | ret => exact ⟨_, a₁, w₁, hq, .of_steps (.one h0 hs1) harr⟩
  | panic ch => exact ⟨_, a₁, w₁, hq, .of_steps (.one h0 hs1) harr⟩
  | outgrown => exact ⟨_, a₁, w₁, hq, .of_steps (.one h0 hs1) harr⟩

/-- The marks among the deferred calls. -/
inductive DRels (ρ : Ren) : List Nat → List Go.Deferred → Prop where
  | nil : DRels ρ [] []
  | cons (r b o tot : Nat) (l : List Nat) (ds : List Go.Deferred) (h : ρ r = some (b, o, tot)) (hl : DRels ρ l ds) : DRels ρ (r :: l) ({ target := .collected b, args := #[] } :: ds)

theorem DRels.ext {ρ ρ' : Ren} (h : Ext ρ ρ') {l : List Nat} {ds : List Go.Deferred} (k : DRels ρ l ds) : DRels ρ' l ds := by
  induction k with
  | nil => exact .nil
  | cons r b o tot l ds hr _ ih => exact .cons r b o tot l ds (h _ _ hr) ih

/-- The round in which the code runs. -/
def RoRel (ρ : Ren) : Option Nat → Option Nat → Prop
  | none, none => True
  | some l, some b => ∃ o tot, ρ l = some (b, o, tot)
  | _, _ => False

theorem RoRel.ext {ρ ρ' : Ren} (h : Ext ρ ρ') {ro roR : Option Nat} (k : RoRel ρ ro roR) : RoRel ρ' ro roR := by
  cases ro <;> cases roR <;> first | exact k | exact (let ⟨o, tot, h1⟩ := k; ⟨o, tot, h _ _ h1⟩)

def IExit.out : IExit → Exit
  | .nrm => .normal
  | .ex id => .exit id
  | .rt => .ret

/-- What code leaves. -/
abbrev XPost (E : Env) (ρ : Ren) (H : Heap) (w : World) (e : IExit) (t' : List V) (H' : Heap) (d' : List Nat) (Q : Exit → Act → World → Prop) : Prop :=
  ∀ (ρ' : Ren) (a' : Act) (w' : World), VRels E ρ' t' a'.tmps.toList → DRels ρ' d' a'.defers → Post E (fun _ => False) ρ H.get H.next w ρ' H'.get H'.next w' → Q e.out a' w'

section
variable {E : Env} {C : Cfg} {cf : CallF}

theorem rng_sound (hE : EnvOk E) (hC : CfgOk E C) (hcf : CfOk E cf) {roR : Option Nat} {n : Nat} {g : Operand} {y : Opd} {ps : Array Nat} {a b : Code} {ro : Option Nat} {ρ : Ren} {t : List V} {H : Heap} {d : List Nat} {x : Act} {w : World} (hg : trOpd E g = some y)
    {e : IExit} {t' : List V} {H' : Heap} {d' : List Nat} (h : irng cf ro (eval t y) ps.toList (trCode E a) (trCode E b) t H d = some (e, t', H', d'))
    (ht : VRels E ρ t x.tmps.toList) (hd : DRels ρ d x.defers) (hr : Rel E ρ H.get H.next w) (hro : RoRel ρ ro roR) {Q : Exit → Act → World → Prop} (hK : XPost E ρ H w e t' H' d' Q) :
    (Code.rangeFunc g ps a b).wpIn (Wd roR) n E.P Q x w := by
  unfold irng at h
  split at h <;> try (cases h; done)
  rename_i H1 r0 mark hmark
  simp only at h
  split at h <;> try (cases h; done)
  rename_i gf first caps hgf
  split at h <;> try (cases h; done)
  rename_i v H3 hcall
  split at h <;> try (cases h; done)
  rename_i r hl3
  split at h <;> try (cases h; done)
  rename_i hst
  have hv := eval_sound hC ht hg
  rw [hgf] at hv
  cases hv' : x.eval g <;> rw [hv'] at hv <;> cases hv
  rename_i f' p' q' hfm hp hq
  refine Go.wpIn_rangeFunc fun fn _ => ?_
  -- what entering does
  have enter : ∃ (bd o tot : Nat) (ρ1 : Ren) (w1 : World) (mk : List Go.Deferred), Post E (fun _ => False) ρ H.get H.next w ρ1 H1.get H1.next w1 ∧ ρ1 r0 = some (bd, o, tot) ∧ DRels ρ1 (mark ++ d) (mk ++ x.defers) ∧
      (Go.Instr.enterLoop fn x.tmps ps a b (Wd roR).round).run E.P w = .ok (w1.heap.size, mk) (w1.alloc (.loop { state := .ready, pending := none, fn, tmps := x.tmps, params := ps, assign := a, body := b, defers := bd })) := by
    unfold markOf at hmark
    cases ro with
    | none =>
      cases roR with
      | some _ => exact hro.elim
      | none =>
        cases hmark
        have hn := hr.fresh H.next (Nat.le_refl _)
        have hp := Post.new (nx' := H.next + 1) hr H.next 0 .dfr (.deferred (some [])) hn (by omega) (by omega) rfl w.drawn
        refine ⟨w.heap.size, 0, 0, ρ.upd H.next (w.heap.size, 0, 0), w.alloc (.deferred (some [])), [{ target := .collected w.heap.size, args := #[] }], ?_, Ren.upd_self _ _ _, ?_, ?_⟩
        · rw [Heap.put_get, Heap.next_put, if_neg (by omega)]
          exact hp.mono fun id h1 h2 => by omega
        · exact .cons _ _ _ _ _ _ (Ren.upd_self _ _ _) (hd.ext hp.ext)
        · have := Go.run_enterLoop_outer (P := E.P) (w := w) fn x.tmps ps a b
          rw [Go.World.size_alloc]; exact this
    | some l =>
      cases roR with
      | none => exact hro.elim
      | some bl =>
        obtain ⟨o, tot, hbl⟩ := hro
        simp only at hmark
        split at hmark <;> try (cases hmark; done)
        rename_i rr hgl
        cases hmark
        obtain ⟨b', o', tot', h1, _, R, bd, o2, tot2, h2, _, _, _, _, _, _, h3, h4⟩ := hr.obj _ _ hgl
        rw [hbl] at h1; cases h1
        refine ⟨bd, o2, tot2, ρ, w, [], .refl hr, h3, hd, ?_⟩
        have := Go.run_enterLoop_inner (P := E.P) h2 fn x.tmps ps a b
        rw [h4] at this; exact this
  obtain ⟨bd, o, tot, ρ1, w1, mk, k1, k2, k3, k4⟩ := enter
  have hn1 := k1.rel.fresh H1.next (Nat.le_refl _)
  have hlay := Post.new (nx' := H1.next + 1) k1.rel H1.next 0 (.loop { st := 0, pend := none, tmps := t, ps := ps.toList, assign := trCode E a, body := trCode E b, dfr := r0 })
    (.loop { state := .ready, pending := none, fn, tmps := x.tmps, params := ps, assign := a, body := b, defers := bd }) hn1 (by omega) (by omega)
    ⟨_, bd, o, tot, rfl, rfl, rfl, ht.ext (k1.ext.trans (Ren.upd_ext _ _ _ hn1)), rfl, rfl, rfl, Ren.upd_ext _ _ _ hn1 _ _ k2, rfl⟩ w1.drawn
  have hlay' : Post E (fun _ => False) ρ1 H1.get H1.next w1 (ρ1.upd H1.next (w1.heap.size, 0, 0))
      (H1.put H1.next (.loop { st := 0, pend := none, tmps := t, ps := ps.toList, assign := trCode E a, body := trCode E b, dfr := r0 })).get
      (H1.put H1.next (.loop { st := 0, pend := none, tmps := t, ps := ps.toList, assign := trCode E a, body := trCode E b, dfr := r0 })).next
      (w1.alloc (.loop { state := .ready, pending := none, fn, tmps := x.tmps, params := ps, assign := a, body := b, defers := bd })) := by
    rw [Heap.put_get, Heap.next_put, if_neg (by omega)]
    exact hlay.mono fun id h1 h2 => by omega
  have h02 := k1.trans hlay'
  have hself : (ρ1.upd H1.next (w1.heap.size, 0, 0)) H1.next = some (w1.heap.size, 0, 0) := Ren.upd_self _ _ _
  obtain ⟨fnr, f1, f2, f3⟩ := hE.fm f' gf hfm
  obtain ⟨bb, hbb⟩ := Option.isSome_iff_exists.1 f3
  have hcalls := hcf.fn gf f' _ _ v H3 hcall hfm _ _ (p' ++ [.func (.yield w1.heap.size) #[] #[]] ++ q') (((hp.ext h02.ext).append (.cons _ _ _ _ (.yld _ _ _ _ hself) .nil)).append (hq.ext h02.ext)) hlay'.rel
  generalize hW2 : w1.alloc (.loop { state := .ready, pending := none, fn, tmps := x.tmps, params := ps, assign := a, body := b, defers := bd }) = W2 at *
  refine ⟨w1.heap.size, mk, W2, { target := .fn (.func f') q'.toArray, args := p'.toArray ++ #[.func (.yield w1.heap.size) #[] #[]] }, W2, f', (p' ++ [Value.func (.yield w1.heap.size) #[] #[]] ++ q').toArray, W2, k4, ?_, fun _ _ => trivial, ?_, fun h => by simp [Wd, Fence.wide] at h, ?_⟩
  · have hy : ∀ i, x.eval (.const (.func (.yield i) #[] #[])) = .func (.yield i) #[] #[] := fun _ => rfl
    simp [Go.resolve, hv', Go.Deferred.ofValue, hy]
  · simp [Go.invoke, Go.callFunc, f1, f2, hbb]
  · refine Go.CallsIn.mono (R := CallPost E (ρ1.upd H1.next (w1.heap.size, 0, 0)) (H1.put H1.next (.loop { st := 0, pend := none, tmps := t, ps := ps.toList, assign := trCode E a, body := trCode E b, dfr := r0 })) W2 v H3) ?_ fun e1 w3 he => ?_
    · have := (Go.callsIn_wide (n := n - 1)).2 hcalls
      cases roR with
      | none => exact this
      | some l => exact Go.CallsIn.inRound l this
    obtain ⟨ρ3, c, rfl, _, hp3⟩ := he
    obtain ⟨b3, x3, t3, g1, g2, R, bd3, o3, tot3, g3, g4, g5, g6, g7, g8, g9, g10, g11⟩ := hp3.rel.obj _ _ hl3
    have hl' := hp3.ext _ _ hself
    rw [hl'] at g1; cases g1
    have hbusy : R.state ≠ .busy := by
      rw [g4]
      rcases hs : r.st with _ | _ | _ | k <;> simp [stOf] at * <;> omega
    refine ⟨R.pending, _, Go.run_endLoop g3 hbusy, ?_⟩
    have hlt := (Array.getElem?_eq_some_iff.1 g3).1
    have hfin := Post.write (S := fun _ => False) hp3.rel hl3 hl' (.loop { R with state := .exhausted }) (o' := .loop { r with st := 3 })
      ⟨_, bd3, o3, tot3, rfl, rfl, g5, g6, g7, g8, g9, g10, g11⟩ (w3.putObj w1.heap.size (.loop { R with state := .exhausted })) ⟨rfl, rfl, rfl⟩ Go.World.putObj_size (Go.World.putObj_heap_same hlt)
      (fun k hk => Go.World.putObj_heap_other hk) (by
        rcases Nat.lt_or_ge H1.next H3.next with h1 | h1
        · exact h1
        · rw [hp3.rel.fresh _ h1] at hl'; cases hl')
    have hnx : ∀ ob, (H3.put H1.next ob).next = H3.next := fun ob => by
      rw [Heap.next_put, if_pos]
      rcases Nat.lt_or_ge H1.next H3.next with h1 | h1
      · exact h1
      · rw [hp3.rel.fresh _ h1] at hl'; cases hl'
    have hall : Post E (fun _ => False) ρ H.get H.next w ρ3 (H3.put H1.next (.loop { r with st := 3 })).get (H3.put H1.next (.loop { r with st := 3 })).next (w3.putObj w1.heap.size (.loop { R with state := .exhausted })) := by
      rw [Heap.put_get, hnx]
      exact (h02.trans hp3).trans hfin
    have hD := k3.ext (hlay'.ext.trans hp3.ext)
    have hT : VRels E ρ3 t x.tmps.toList := ht.ext (h02.ext.trans hp3.ext)
    rw [g5] at hall ⊢
    cases hpd : r.pend with
    | none =>
      rw [hpd] at h hall; cases h
      exact hK ρ3 _ _ hT hD hall
    | some j =>
      rw [hpd] at h hall
      cases j with
      | ret => cases h; exact Go.wpIn_ret (hK ρ3 _ _ hT hD hall)
      | exit k => cases h; exact Go.wpIn_exit (hK ρ3 _ _ hT hD hall)

theorem exec_sound (hE : EnvOk E) (hC : CfgOk E C) (hcf : CfOk E cf) (hm : CfMono cf) {roR : Option Nat} {n N : Nat} {ro : Option Nat} : ∀ (c : Code) (ρ : Ren) (t : List V) (H : Heap) (d : List Nat) (a : Act) (w : World) (e : IExit) (t' : List V) (H' : Heap) (d' : List Nat) (Q : Exit → Act → World → Prop),
    exec cf C N ro (trCode E c) t H d = some (e, t', H', d') → VRels E ρ t a.tmps.toList → DRels ρ d a.defers → Rel E ρ H.get H.next w → RoRel ρ ro roR → XPost E ρ H w e t' H' d' Q → c.wpIn (Wd roR) n E.P Q a w := by
  intro c
  induction c with
  | skip =>
    intro ρ t H d a w e t' H' d' Q h ht hd hr _ hK
    simp only [trCode, exec] at h; cases h
    exact Go.wpIn_skip (hK ρ a w ht hd (.refl hr))
  | label l =>
    intro ρ t H d a w e t' H' d' Q h ht hd hr _ hK
    simp only [trCode, exec] at h; cases h
    exact Go.wpIn_label (hK ρ a w ht hd (.refl hr))
  | exit id =>
    intro ρ t H d a w e t' H' d' Q h ht hd hr _ hK
    simp only [trCode, exec] at h; cases h
    exact Go.wpIn_exit (hK ρ a w ht hd (.refl hr))
  | ret =>
    intro ρ t H d a w e t' H' d' Q h ht hd hr _ hK
    simp only [trCode, exec] at h; cases h
    exact Go.wpIn_ret (hK ρ a w ht hd (.refl hr))
  | goto l =>
    intro ρ t H d a w e t' H' d' Q h
    simp only [trCode, exec] at h; cases h
  | refuse s =>
    intro ρ t H d a w e t' H' d' Q h
    simp only [trCode, exec] at h; cases h
  | region id ops draw =>
    intro ρ t H d a w e t' H' d' Q h ht hd hr _ hK
    cases draw with
    | false =>
      simp only [trCode, exec] at h
      split at h <;> try (cases h; done)
      rename_i t1 H1 h1
      cases h
      exact reg_sound hE hC hcf roR ht hr h1 fun ρ' a' w' k1 k2 k3 => hK ρ' a' w' k1 (by rw [k2]; exact hd.ext k3.ext) k3
    | true =>
      simp only [trCode] at h
      split at h
      · rename_i hc
        simp only [Bool.and_eq_true] at hc
        simp only [exec] at h
        split at h <;> try (cases h; done)
        rename_i t1 H1 h1
        cases h
        exact regD_sound hE hC hcf hm roR ht hr hc.1.1 hc.1.2 hc.2 h1 fun ρ' a' w' k1 k2 k3 => hK ρ' a' w' k1 (by rw [k2]; exact hd.ext k3.ext) k3
      · simp only [exec] at h; cases h
  | seq x y ihx ihy =>
    intro ρ t H d a w e t' H' d' Q h ht hd hr hro hK
    simp only [trCode, exec] at h
    refine Go.wpIn_seq ?_
    split at h
    · rename_i t1 H1 d1 h1
      refine ihx ρ t H d a w .nrm t1 H1 d1 _ h1 ht hd hr hro fun ρ1 a1 w1 k1 k2 k3 => ?_
      exact ihy ρ1 t1 H1 d1 a1 w1 e t' H' d' Q h k1 k2 k3.rel (hro.ext k3.ext) fun ρ2 a2 w2 q1 q2 q3 => hK ρ2 a2 w2 q1 q2 (k3.trans q3)
    · rename_i hne
      refine ihx ρ t H d a w e t' H' d' _ h ht hd hr hro fun ρ1 a1 w1 k1 k2 k3 => ?_
      have := hK ρ1 a1 w1 k1 k2 k3
      cases e with
      | nrm => exact absurd h (hne t' H' d')
      | ex k => exact this
      | rt => exact this
  | cond c x y ihx ihy =>
    intro ρ t H d a w e t' H' d' Q h ht hd hr hro hK
    simp only [trCode] at h
    split at h
    · rename_i u hu
      simp only [exec] at h
      have hv := eval_sound hC ht hu
      split at h <;> try (cases h; done)
      · rename_i h1
        rw [h1] at hv
        cases hv' : a.eval c <;> rw [hv'] at hv <;> cases hv
        exact Go.wpIn_cond_true hv' (ihx ρ t H d a w e t' H' d' Q h ht hd hr hro hK)
      · rename_i h1
        rw [h1] at hv
        cases hv' : a.eval c <;> rw [hv'] at hv <;> cases hv
        exact Go.wpIn_cond_false hv' (ihy ρ t H d a w e t' H' d' Q h ht hd hr hro hK)
    · simp only [exec] at h; cases h
  | block id x ih =>
    intro ρ t H d a w e t' H' d' Q h ht hd hr hro hK
    simp only [trCode, exec] at h
    refine Go.wpIn_block ?_
    split at h
    · rename_i k t1 H1 d1 h1
      refine ih ρ t H d a w (.ex k) t1 H1 d1 _ h1 ht hd hr hro fun ρ1 a1 w1 k1 k2 k3 => ?_
      split at h
      · rename_i hk
        cases h
        simp only [IExit.out, Go.Exit.inBlock, hk, if_true]
        exact hK ρ1 a1 w1 k1 k2 k3
      · rename_i hk
        cases h
        simp only [IExit.out, Go.Exit.inBlock, hk, if_false]
        exact hK ρ1 a1 w1 k1 k2 k3
    · rename_i hne
      refine ih ρ t H d a w e t' H' d' _ h ht hd hr hro fun ρ1 a1 w1 k1 k2 k3 => ?_
      have := hK ρ1 a1 w1 k1 k2 k3
      cases e with
      | nrm => exact this
      | ex k => exact absurd h (hne k t' H' d')
      | rt => exact this
  | loop x ih =>
    intro ρ t H d a w e t' H' d' Q h ht hd hr hro hK
    simp only [trCode, exec] at h
    have key : ∀ (m : Nat) (ρ : Ren) (t : List V) (H : Heap) (d : List Nat) (a : Act) (w : World), iter (exec cf C N ro (trCode E x)) m t H d = some (e, t', H', d') → VRels E ρ t a.tmps.toList → DRels ρ d a.defers → Rel E ρ H.get H.next w → RoRel ρ ro roR → XPost E ρ H w e t' H' d' Q →
        Code.roundsIn (Wd roR) n E.P x Q m a w := by
      intro m
      induction m with
      | zero => intro ρ t H d a w h; simp only [iter] at h; cases h
      | succ m ihm =>
        intro ρ t H d a w h ht hd hr hro hK
        simp only [iter] at h
        rw [Go.roundsIn_succ]
        split at h
        · rename_i t1 H1 d1 h1
          refine ih ρ t H d a w .nrm t1 H1 d1 _ h1 ht hd hr hro fun ρ1 a1 w1 k1 k2 k3 => ?_
          exact ihm ρ1 t1 H1 d1 a1 w1 h k1 k2 k3.rel (hro.ext k3.ext) fun ρ2 a2 w2 q1 q2 q3 => hK ρ2 a2 w2 q1 q2 (k3.trans q3)
        · rename_i hne
          refine ih ρ t H d a w e t' H' d' _ h ht hd hr hro fun ρ1 a1 w1 k1 k2 k3 => ?_
          have := hK ρ1 a1 w1 k1 k2 k3
          cases e with
          | nrm => exact absurd h (hne t' H' d')
          | ex k => exact this
          | rt => exact this
    exact Go.wpIn_loop_rounds N (key N ρ t H d a w h ht hd hr hro hK)
  | rangeFunc g ps x y _ _ =>
    intro ρ t H d a w e t' H' d' Q h ht hd hr hro hK
    simp only [trCode] at h
    split at h
    · rename_i u hu
      simp only [exec] at h
      exact rng_sound hE hC hcf hu h ht hd hr hro hK
    · simp only [exec] at h; cases h
  | scope x ih =>
    intro ρ t H d a w e t' H' d' Q h ht hd hr hro hK
    simp only [trCode, exec] at h
    refine wpIn_scope (ih ρ t H d a w e t' H' d' _ h ht hd hr hro fun ρ1 a1 w1 k1 k2 k3 => ?_)
    have := hK ρ1 a1 w1 k1 k2 k3
    cases e <;> exact this

end
end Im
