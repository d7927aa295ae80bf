/- Each operation but calls, part 5: addresses, loads, stores, new objects. -/
import Derived.Test.YthhkfcnmbpnmkaaImI
namespace Im
open Go (IntKind BinOp UnOp Program World Value Addr TypeId FuncId Code Oper Operand Op TypeDesc Sem Act run_underlying)
open Go.RowKit (Below)

section
variable {E : Env} {C : Cfg} {ρ : Ren} {H : Heap} {w : World} {t : List V} {a : Act}

theorem Rel.id_lt {g : Nat → Option Obj} {nx : Nat} (hr : Rel E ρ g nx w) {id : Nat} {o : Obj} (h : g id = some o) : id < nx := by
  obtain ⟨b, x, tot, h1, _⟩ := hr.obj id o h
  rcases Nat.lt_or_ge id nx with h2 | h2
  · exact h2
  · rw [hr.fresh id h2] at h1; cases h1

theorem ok_fa (hC : CfgOk E C) (ht : VRels E ρ t a.tmps.toList) (hr : Rel E ρ H.get H.next w) {o : Oper} {nid f : Nat} {T : TypeId} {x : Operand} {io : IOp} (ho : o.op = .fieldAddr T x f) (hx : trOp? E (.fieldAddr T x f) = some io)
    {v : V} {H' : Heap} {cf : CallF} (h : iop cf C nid io t H = some (v, H')) : Ok E ρ H w a o nid v H' := by
  simp only [trOp?] at hx
  split at hx <;> try (cases hx; done)
  rename_i fs y hu hy
  split at hx <;> try (cases hx; done)
  rename_i fd hfd
  split at hx <;> try (cases hx; done)
  rename_i n hn
  split at hx <;> try (cases hx; done)
  rename_i h0
  cases hx
  have hv := eval_sound hC ht hy
  simp only [iop] at h
  cases e : eval t y <;> rw [e] at h hv <;> simp at h
  obtain ⟨rfl, rfl⟩ := h
  cases hv' : a.eval x <;> rw [hv'] at hv <;> cases hv
  rename_i pa c ha
  have hfd' : fs[f]? = some fd := hfd
  exact .pure hr (by simp [Go.execOp, ho, hv', Go.Instr.fieldAt, run_underlying hu, hfd', Go.Instr.sureAddr, Go.fieldPlace, sizeOf_run hn, h0]) (.ptr _ _ (ha.add _))

theorem ok_ia (hC : CfgOk E C) (ht : VRels E ρ t a.tmps.toList) (hr : Rel E ρ H.get H.next w) {o : Oper} {nid : Nat} {T : TypeId} {x i : Operand} {io : IOp} (ho : o.op = .indexAddr T x i) (hx : trOp? E (.indexAddr T x i) = some io)
    {v : V} {H' : Heap} {cf : CallF} (h : iop cf C nid io t H = some (v, H')) : Ok E ρ H w a o nid v H' := by
  simp only [trOp?] at hx
  split at hx <;> try (cases hx; done)
  · rename_i e y j hu hy hj
    simp only [Option.map_eq_some_iff] at hx
    obtain ⟨n, hn, rfl⟩ := hx
    have hv := eval_sound hC ht hy
    have hw := eval_sound hC ht hj
    simp only [iop] at h
    cases e0 : eval t y <;> rw [e0] at h hv <;> try (simp at h; done)
    cases e1 : eval t j <;> rw [e1] at h hw <;> simp at h
    rename_i pa len cap k m
    obtain ⟨⟨h0, h1⟩, rfl, rfl⟩ := h
    cases hv' : a.eval x <;> rw [hv'] at hv <;> cases hv
    cases hw' : a.eval i <;> rw [hw'] at hw <;> cases hw
    rename_i c' c ha hcap
    exact .pure hr (c := .pointer (some (c.add (m.toNat * n)))) (by simp [Go.execOp, ho, hv', hw', Go.Instr.indexAt, Go.asIntOf, run_underlying hu, h0, h1, sizeOf_run hn]) (.ptr _ _ (ha.add _))
  · rename_i len e y j hu hy hj
    simp only [Option.map_eq_some_iff] at hx
    obtain ⟨n, hn, rfl⟩ := hx
    have hv := eval_sound hC ht hy
    have hw := eval_sound hC ht hj
    simp only [iop] at h
    cases e0 : eval t y <;> rw [e0] at h hv <;> try (simp at h; done)
    cases e1 : eval t j <;> rw [e1] at h hw <;> simp at h
    rename_i pa k m
    obtain ⟨⟨h0, h1⟩, rfl, rfl⟩ := h
    cases hv' : a.eval x <;> rw [hv'] at hv <;> cases hv
    cases hw' : a.eval i <;> rw [hw'] at hw <;> cases hw
    rename_i c ha
    exact .pure hr (by simp [Go.execOp, ho, hv', hw', Go.Instr.indexAt, Go.asIntOf, run_underlying hu, h0, h1, sizeOf_run hn, Go.Instr.sureAddr]) (.ptr _ _ (ha.add _))

theorem ok_ld (hC : CfgOk E C) (ht : VRels E ρ t a.tmps.toList) (hr : Rel E ρ H.get H.next w) {o : Oper} {nid : Nat} {T : TypeId} {x : Operand} {io : IOp} (ho : o.op = .load T x) (hx : trOp? E (.load T x) = some io)
    {v : V} {H' : Heap} {cf : CallF} (h : iop cf C nid io t H = some (v, H')) : Ok E ρ H w a o nid v H' := by
  simp only [trOp?] at hx
  split at hx <;> try (cases hx; done)
  rename_i y n d hy hn hd
  simp at hx
  have hv := eval_sound hC ht hy
  by_cases hg : isAgg E.P T = true
  · rw [if_pos hg] at hx; subst hx
    simp only [iop] at h
    cases e0 : eval t y <;> rw [e0] at h hv <;> simp at h
    split at h <;> try (cases h; done)
    rename_i l hl
    simp at h; obtain ⟨rfl, rfl⟩ := h
    cases hv' : a.eval x <;> rw [hv'] at hv <;> cases hv
    rename_i c ha
    obtain ⟨us, k1, k2, k3⟩ := loadN_sound hC hr ha n 0 l hl
    have hload := Go.run_loadCells_list (P := E.P) w c us (fun j u hj => by simpa using k3 j u hj)
    rw [k2] at hload
    exact .pure hr (by simp [Go.execOp, ho, hv', Go.Instr.loadAt, Go.Instr.sureAddr, Go.loadVar, isAgg_run hd, hg, sizeOf_run hn, hload]) (.agg _ _ k1)
  · rw [if_neg hg] at hx; subst hx
    simp only [iop] at h
    cases e0 : eval t y <;> rw [e0] at h hv <;> simp at h
    split at h <;> try (cases h; done)
    rename_i u hu
    simp at h; obtain ⟨rfl, rfl⟩ := h
    cases hv' : a.eval x <;> rw [hv'] at hv <;> cases hv
    rename_i c ha
    obtain ⟨q, hq, hqv⟩ := cellsAt_sound hC hr ha hu
    have hq' : w.cell? c = some q := by simpa [Go.Addr.add] using hq
    exact .pure hr (by simp [Go.execOp, ho, hv', Go.Instr.loadAt, Go.Instr.sureAddr, Go.loadVar, isAgg_run hd, hg, hq']) hqv

/-! ### Stores -/

theorem ones {l : List V} {l' : List Value} (h : VRels E ρ l l') (h1 : l.all V.one = true) : ∀ u ∈ l', u.oneCell' = true := by
  intro u hu
  obtain ⟨i, hi⟩ := List.getElem?_of_mem hu
  obtain ⟨v, hv, hr⟩ := h.get' i u hi
  have hv1 : v.one = true := (List.all_eq_true.1 h1) v (List.mem_of_getElem? hv)
  have := hr.one hv1
  cases u <;> simp [Go.Value.oneCell'] at this ⊢

theorem storeN_sound {S : Nat → Prop} (hr : Rel E ρ H.get H.next w) {pa : PA} {c : Addr} (ha : ARel E ρ pa c) {vs : List V} {us : List Value} (hvs : VRels E ρ vs us) {H' : Heap} (h : H.storeN pa vs = some H') :
    ∃ w', (Go.storeCells c us 0).run E.P w = .ok () w' ∧ Post E S ρ H.get H.next w ρ H'.get H'.next w' := by
  unfold Heap.storeN at h
  unfold ARel at ha
  split at h
  · rename_i hreg
    rw [hreg] at ha; simp only at ha
    obtain ⟨b, x, tot, h1, h2⟩ := ha
    split at h <;> try (cases h; done)
    rename_i ty l hg
    split at h <;> try (cases h; done)
    rename_i hlen
    cases h
    obtain ⟨hlen, hone⟩ := hlen
    obtain ⟨b', x', t', e1, hN, cs, el, lo, hi, e2, e3, e4, e5, e6, e7⟩ := hr.obj _ _ hg
    rw [h1] at e1; cases e1
    have hul := hvs.length
    subst h2
    have hcell : ∀ j, j < us.length → w.cell? ⟨b, x + pa.off + 0 + j, none⟩ = cs[x + pa.off + j]? := by
      intro j hj; simp [World.cell?, e2]
    have hrun := Go.run_storeCells_cells (P := E.P) b (x + pa.off) us 0 w
      (by intro j hj; rw [hcell j hj, Option.isSome_iff_exists]; exact ⟨_, Array.getElem?_eq_getElem (by omega)⟩)
      (by intro j hj; simp only [World.frozen?, e2]
          have := e6 (x + pa.off + j) (by omega) (by omega)
          simp only [Nat.add_zero, Bool.and_eq_false_iff, decide_eq_false_iff_not]
          omega)
      (ones hvs hone)
    obtain ⟨k1, k2, k3, k4, k5, k6⟩ := heap_setCells b el (lo, hi) us (x + pa.off + 0) cs w e2
    refine ⟨_, hrun, ?_⟩
    rw [Heap.put_get]
    have hid := hr.id_lt hg
    have hnx : (H.put pa.b (.cells ty (setAt l pa.off vs))).next = H.next := by rw [Heap.next_put, if_pos hid]
    rw [hnx]
    refine Post.write hr hg h1 _ ?_ _ ⟨k4, k5, k6⟩ k3 k1 k2 hid
    refine ⟨_, el, lo, hi, rfl, e3, by rw [setAt_length]; exact e4, by rw [laid_size]; exact e5, e6, ?_⟩
    intro i v hv
    rw [setAt_get vs l pa.off i hlen] at hv
    rw [laid_get us cs _ _ (by omega)]
    by_cases hin : pa.off ≤ i ∧ i < pa.off + vs.length
    · rw [if_pos hin] at hv
      rw [if_pos (by omega)]
      obtain ⟨u, hu, hur⟩ := hvs.get _ _ hv
      exact ⟨u, by rw [← hu]; congr 1; omega, hur⟩
    · rw [if_neg hin] at hv
      rw [if_neg (by omega)]
      exact e7 i v hv
  · split at h <;> try (cases h; done)
    cases h
    cases hvs
    exact ⟨w, by simp [Go.storeCells], .refl hr⟩

theorem ok_st (hC : CfgOk E C) (ht : VRels E ρ t a.tmps.toList) (hr : Rel E ρ H.get H.next w) {o : Oper} {nid : Nat} {T : TypeId} {x y : Operand} {io : IOp} (ho : o.op = .store T x y) (hx : trOp? E (.store T x y) = some io)
    {v : V} {H' : Heap} {cf : CallF} (h : iop cf C nid io t H = some (v, H')) : Ok E ρ H w a o nid v H' := by
  simp only [trOp?] at hx
  split at hx <;> try (cases hx; done)
  rename_i x' y' n hx' hy' hn
  cases hx
  have hv := eval_sound hC ht hx'
  have hw := (eval_sound hC ht hy').cells
  simp only [iop] at h
  cases e0 : eval t x' <;> rw [e0] at h hv <;> simp at h
  rename_i pa
  obtain ⟨hl, h⟩ := h
  split at h <;> try (cases h; done)
  rename_i H2 hs
  simp at h; obtain ⟨rfl, rfl⟩ := h
  cases hv' : a.eval x <;> rw [hv'] at hv <;> cases hv
  rename_i c ha
  obtain ⟨w', hrun, hp⟩ := storeN_sound (S := (· = nid)) hr ha hw hs
  have hlen := hw.length
  refine ⟨Go.undef, w', ρ, .inr ⟨?_, rfl⟩, .undef, hp⟩
  have hsz : (a.eval y).cells.size = n := by simp at hlen; omega
  simp [Go.execOp, ho, hv', Go.Instr.storeAt, Go.Instr.sureAddr, Go.storeVar, sizeOf_run hn, hrun, hsz]

/-! ### New objects -/

theorem new_ptr {o : Oper} {nid : Nat} (hr : Rel E ρ H.get H.next w) (hn : ρ nid = none) (T : TypeId) {l : List V} {l' : List Value} (hl : VRels E ρ l l')
    (hrun : (Go.execOp a.eval o).run E.P w = .ok (.value (.pointer (some ⟨w.heap.size, 0, none⟩))) { w with heap := w.heap.push (.cells l'.toArray T (0, 0)) }) :
    Ok E ρ H w a o nid (.ptr ⟨.own, nid, 0⟩) (H.put nid (.cells (E.tm T) l)) := by
  have hx := Ren.upd_ext ρ nid (w.heap.size, 0, l'.length) hn
  refine ⟨_, _, ρ.upd nid (w.heap.size, 0, l'.length), .inl hrun, .ptr _ _ ⟨_, _, _, Ren.upd_self _ _ _, by simp⟩, ?_⟩
  rw [Heap.put_get]
  exact Post.new hr nid l'.length (.cells (E.tm T) l) (.cells l'.toArray T (0, 0)) hn (Heap.id_lt_put _ _ _) (Heap.next_le_put _ _ _)
    ⟨_, T, 0, 0, rfl, rfl, by rw [hl.length]; exact Nat.le_refl _, by simp, by intro i _ _; omega, CellsRel.of_rels (hl.ext hx) _ (by intro i u hu; simpa using hu)⟩ w.drawn

theorem ok_box (hC : CfgOk E C) (ht : VRels E ρ t a.tmps.toList) (hr : Rel E ρ H.get H.next w) {o : Oper} {nid : Nat} (hn : ρ nid = none) {T : TypeId} {x : Operand} {y : Opd} (ho : o.op = .box T x) (hx : trOpd E x = some y)
    {v : V} {H' : Heap} {cf : CallF} (h : iop cf C nid (.box (E.tm T) y) t H = some (v, H')) : Ok E ρ H w a o nid v H' := by
  simp [iop] at h; obtain ⟨rfl, rfl⟩ := h
  have hv := (eval_sound hC ht hx).cells
  exact new_ptr hr hn T hv (by simp [Go.execOp, ho, Go.Instr.box, Go.newVar, Go.newRow])

theorem zeroV_run {T : TypeId} {z : V} (h : zeroV E.P T = some z) : ∃ c, (∀ w, (Go.zeroValue T).run E.P w = .ok c w) ∧ ∀ ρ, VRel E ρ z c := by
  unfold zeroV at h
  split at h <;> try (cases h; done)
  rename_i i hi
  split at h <;> try (cases h; done)
  rename_i c hc
  exact ⟨c, fun w => by simp [Go.zeroValue, Go.typeInfo, hi, hc], fun ρ => trV_rel h⟩

theorem ok_alc (hr : Rel E ρ H.get H.next w) {o : Oper} {nid : Nat} (hn : ρ nid = none) {T : TypeId} {z : V} (ho : o.op = .alloc T) (hz : zeroV E.P T = some z)
    {v : V} {H' : Heap} {cf : CallF} (h : iop cf C nid (.alc (E.tm T) z.cells) t H = some (v, H')) : Ok E ρ H w a o nid v H' := by
  simp [iop] at h; obtain ⟨rfl, rfl⟩ := h
  obtain ⟨c, hc, hv⟩ := zeroV_run hz
  exact new_ptr hr hn T (hv ρ).cells (by simp [Go.execOp, ho, Go.Instr.alloc, hc, Go.newVar, Go.newRow])

/-! ### Structs, arrays, slices written out -/

theorem zipIdx_fold (off : Nat) : ∀ (l : List Value) (k : Nat) (c : Array Value), (l.zipIdx k).foldl (fun cs (x : Value × Nat) => cs.setIfInBounds (off + x.2) x.1) c = laid c (off + k) l
  | [], k, c => rfl
  | v :: l, k, c => by
    simp only [List.zipIdx_cons, List.foldl_cons, laid]
    rw [zipIdx_fold off l (k + 1)]
    rfl

theorem fill_sound (hC : CfgOk E C) (ht : VRels E ρ t a.tmps.toList) (place : Nat → Option (Nat × Nat)) : ∀ (ps : List (Nat × Operand)) (ps' : List (Nat × Nat × Opd)) (z l : List V) (c : Array Value),
    trParts E place ps = some ps' → fillP t z ps' = some l → VRels E ρ z c.toList →
    ∃ c', Go.Instr.fill place c (ps.map fun (i, x) => (i, a.eval x)) = some c' ∧ VRels E ρ l c'.toList
  | [], ps', z, l, c, h1, h2, hz => by
    simp [trParts] at h1; subst h1
    simp [fillP] at h2; subst h2
    exact ⟨c, rfl, hz⟩
  | (i, x) :: ps, ps', z, l, c, h1, h2, hz => by
    unfold trParts at h1
    split at h1 <;> try (cases h1; done)
    rename_i off n y l' hp hy hl'
    cases h1
    unfold fillP at h2
    split at h2 <;> try (cases h2; done)
    rename_i hcond
    obtain ⟨hn, hle⟩ := hcond
    have hv := (eval_sound hC ht hy).cells
    have hlen := hv.length
    have hzl := hz.length
    simp at hlen hzl
    have hset : VRels E ρ (setAt z off (eval t y).cells) (laid c off (a.eval x).cells.toList).toList := by
      refine VRels.of_get (by rw [setAt_length]; simp [laid_size, hzl]) ?_
      intro k u hu
      rw [setAt_get _ _ _ _ (by omega)] at hu
      have hg := laid_get (a.eval x).cells.toList c off k (by simp; omega)
      simp only [Array.length_toList] at hg
      rw [Array.getElem?_toList, hg]
      by_cases hin : off ≤ k ∧ k < off + (eval t y).cells.length
      · rw [if_pos hin] at hu; rw [if_pos (by omega)]
        exact hv.get _ _ hu
      · rw [if_neg hin] at hu; rw [if_neg (by omega)]
        obtain ⟨q, hq, hqr⟩ := hz.get _ _ hu
        exact ⟨q, by simpa using hq, hqr⟩
    obtain ⟨c', h3, h4⟩ := fill_sound hC ht place ps l' _ l _ hl' h2 hset
    refine ⟨c', ?_, h4⟩
    simp only [List.map_cons, Go.Instr.fill, hp]
    rw [if_neg (by simp; omega)]
    have hfold : ((a.eval x).cells.zipIdx.foldl (fun cs (x : Value × Nat) => cs.setIfInBounds (off + x.2) x.1) c) = laid c off (a.eval x).cells.toList := by
      rw [← Array.foldl_toList]
      have := zipIdx_fold off (a.eval x).cells.toList 0 c
      simpa using this
    rw [← h3]
    exact congrArg (fun q => Go.Instr.fill place q _) hfold

theorem places_run : ∀ (fs : List Go.Field) (pl : List (Nat × Nat)), trPlaces E.P fs = some pl → ∀ w, (fs.mapM (fun f => do pure (f.offset, ← Go.sizeOf f.type) : Go.Field → Sem (Nat × Nat))).run E.P w = .ok pl w
  | [], pl, h, w => by simp [trPlaces] at h; subst h; simp
  | f :: fs, pl, h, w => by
    unfold trPlaces at h
    split at h <;> try (cases h; done)
    rename_i n l hn hl
    cases h
    rw [List.mapM_cons]
    simp only [Sem.run_bind, Sem.run_pure, sizeOf_run hn, Go.Result.andThen_ok, places_run fs l hl w]

theorem ok_build (hC : CfgOk E C) (ht : VRels E ρ t a.tmps.toList) (hr : Rel E ρ H.get H.next w) {o : Oper} {nid : Nat} {T : TypeId} {ps : Array (Nat × Operand)} {io : IOp} (ho : o.op = .build T ps) (hx : trOp? E (.build T ps) = some io)
    {v : V} {H' : Heap} {cf : CallF} (h : iop cf C nid io t H = some (v, H')) : Ok E ρ H w a o nid v H' := by
  simp only [trOp?] at hx
  have hmap : (ps.map fun (i, x) => (i, a.eval x)).toList = ps.toList.map fun (i, x) => (i, a.eval x) := by simp
  split at hx <;> try (cases hx; done)
  · rename_i z fs hz hu
    split at hx <;> try (cases hx; done)
    rename_i pl hpl
    simp only [Option.map_eq_some_iff] at hx
    obtain ⟨ps', hps, rfl⟩ := hx
    simp only [iop] at h
    split at h <;> try (cases h; done)
    rename_i l hl
    simp at h; obtain ⟨rfl, rfl⟩ := h
    obtain ⟨c, hc, hv⟩ := zeroV_run hz
    obtain ⟨c', h1, h2⟩ := fill_sound hC ht (fun i => pl[i]?) ps.toList ps' z.cells l c.cells hps hl (hv ρ).cells
    have hm := places_run fs.toList pl hpl w
    refine .pure hr (c := .agg c') ?_ (by have := VRel.agg l c'.toList h2; simpa using this)
    have hm' : (fs.mapM (fun f => do pure (f.offset, ← Go.sizeOf f.type) : Go.Field → Sem (Nat × Nat))).run E.P w = .ok pl.toArray w := by
      rw [Array.mapM_eq_mapM_toList, Sem.run_map, hm]; rfl
    have hf : Go.Instr.fill (fun i => pl.toArray[i]?) c.cells (ps.map fun (i, x) => (i, a.eval x)).toList = some c' := by
      rw [hmap, ← h1]; congr 1; funext i; simp
    simp only [Go.execOp, ho, Go.Instr.build, Sem.run_bind, hc, run_underlying hu, Go.Result.andThen_ok, hm', hf, Sem.run_pure]
  · rename_i z len e hz hu
    split at hx <;> try (cases hx; done)
    rename_i n hn
    simp only [Option.map_eq_some_iff] at hx
    obtain ⟨ps', hps, rfl⟩ := hx
    simp only [iop] at h
    split at h <;> try (cases h; done)
    rename_i l hl
    simp at h; obtain ⟨rfl, rfl⟩ := h
    obtain ⟨c, hc, hv⟩ := zeroV_run hz
    obtain ⟨c', h1, h2⟩ := fill_sound hC ht (fun i => some (i * n, n)) ps.toList ps' z.cells l c.cells hps hl (hv ρ).cells
    refine .pure hr (c := .agg c') ?_ (by have := VRel.agg l c'.toList h2; simpa using this)
    rw [← hmap] at h1
    simp only [Go.execOp, ho, Go.Instr.build, Sem.run_bind, hc, run_underlying hu, Go.Result.andThen_ok, sizeOf_run hn, h1, Sem.run_pure]

theorem repl_length (z : List V) : ∀ n, (repl n z).length = n * z.length
  | 0 => by simp [repl]
  | n + 1 => by simp [repl, repl_length z n, Nat.succ_mul, Nat.add_comm]

theorem repl_get (z : List V) (hz : 0 < z.length) : ∀ (n i : Nat), i < n * z.length → (repl n z)[i]? = z[i % z.length]?
  | 0, i, h => by simp at h
  | n + 1, i, h => by
    simp only [repl]
    by_cases h1 : i < z.length
    · rw [List.getElem?_append_left h1, Nat.mod_eq_of_lt h1]
    · rw [List.getElem?_append_right (by omega), repl_get z hz n _ (by rw [Nat.succ_mul] at h; omega)]
      rw [Nat.mod_eq_sub_mod (by omega : i ≥ z.length)]

theorem zeros_rel {z : List V} {c : Array Value} (h : VRels E ρ z c.toList) (hz : 0 < z.length) (n : Nat) : VRels E ρ (repl n z) ((Array.range (n * z.length)).map (fun i => c[i % c.size]!)).toList := by
  have hl : z.length = c.size := by simpa using h.length
  refine VRels.of_get (by simp [repl_length]) ?_
  intro i v hv
  have hi : i < n * z.length := by
    rw [List.getElem?_eq_some_iff] at hv; obtain ⟨k, _⟩ := hv; rwa [repl_length] at k
  rw [repl_get z hz n i hi] at hv
  obtain ⟨u, hu, hr⟩ := h.get _ _ hv
  refine ⟨u, ?_, hr⟩
  rw [Array.getElem?_toList, Array.getElem?_map, Array.getElem?_range, if_pos hi]
  simp only [Option.map_some]
  rw [Array.getElem?_toList] at hu
  rw [hl] at hu
  rw [getElem!_def, hu]

theorem ok_bslice (hC : CfgOk E C) (ht : VRels E ρ t a.tmps.toList) (hr : Rel E ρ H.get H.next w) {o : Oper} {nid len : Nat} (hn : ρ nid = none) {T : TypeId} {ps : Array (Nat × Operand)} {io : IOp} (ho : o.op = .buildSlice T len ps)
    (hx : trOp? E (.buildSlice T len ps) = some io) {v : V} {H' : Heap} {cf : CallF} (h : iop cf C nid io t H = some (v, H')) : Ok E ρ H w a o nid v H' := by
  simp only [trOp?] at hx
  have hmap : (ps.map fun (i, x) => (i, a.eval x)).toList = ps.toList.map fun (i, x) => (i, a.eval x) := by simp
  split at hx <;> try (cases hx; done)
  rename_i e hu
  split at hx <;> try (cases hx; done)
  rename_i n z hn' hz
  split at hx <;> try (cases hx; done)
  rename_i hcond
  obtain ⟨h24, hzl, hn0⟩ := hcond
  simp only [Option.map_eq_some_iff] at hx
  obtain ⟨ps', hps, rfl⟩ := hx
  simp only [iop] at h
  split at h <;> try (cases h; done)
  rename_i l hl
  simp at h; obtain ⟨rfl, rfl⟩ := h
  obtain ⟨c, hc, hv⟩ := zeroV_run hz
  have hzr := zeros_rel (hv ρ).cells (by omega) len
  rw [hzl] at hzr
  obtain ⟨c', h1, h2⟩ := fill_sound hC ht (fun i => some (i * n, n)) ps.toList ps' (repl len z.cells) l _ hps hl hzr
  rw [← hmap] at h1
  have hl2 : l.length = c'.size := by simpa using h2.length
  have hrun : (Go.execOp a.eval o).run E.P w = .ok (.value (.slice (some ⟨w.heap.size, 0, none⟩) len len)) { w with heap := w.heap.push (.cells c' e (0, 0)) } := by
    have hbig : ¬ (len * n > 2 ^ 24) := by omega
    simp only [Go.execOp, ho, Go.Instr.buildSlice, Sem.run_bind, run_underlying hu, Go.Result.andThen_ok, sizeOf_run hn', if_neg hbig, Sem.run_pure]
    by_cases h0 : len * n = 0
    · have hlen : len = 0 := by
        rcases Nat.mul_eq_zero.1 h0 with h | h
        · exact h
        · omega
      subst hlen
      have e1 : ∀ g : Nat → Value, (Array.range (0 * n)).map g = #[] := by intro g; simp
      rw [e1] at h1
      simp only [if_pos h0, e1, Sem.run_pure, Go.Result.andThen_ok, h1, Go.newRow, Go.run_newObj, Sem.run_bind]
    · simp only [if_neg h0, Sem.run_bind, hc, Go.Result.andThen_ok, Sem.run_pure, h1, Go.newRow, Go.run_newObj]
  have hx := Ren.upd_ext ρ nid (w.heap.size, 0, c'.size) hn
  refine ⟨_, _, ρ.upd nid (w.heap.size, 0, c'.size), .inl hrun, .slice _ _ _ _ _ ⟨_, _, _, Ren.upd_self _ _ _, by simp⟩ rfl, ?_⟩
  rw [Heap.put_get]
  exact Post.new hr nid c'.size (.cells (E.tm e) l) (.cells c' e (0, 0)) hn (Heap.id_lt_put _ _ _) (Heap.next_le_put _ _ _)
    ⟨_, e, 0, 0, rfl, rfl, by omega, by simp, by intro i _ _; omega, CellsRel.of_rels (h2.ext hx) _ (by intro i u hu; simpa using hu)⟩ w.drawn

end
end Im
