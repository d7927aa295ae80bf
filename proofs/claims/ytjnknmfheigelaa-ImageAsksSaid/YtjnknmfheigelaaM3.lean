/- The ideal machine and the walks over it, a part (M3): see the comments ahead of each piece. No condition. -/
import Derived.Test.YtjnknmfheigelaaM2

/- Each operation but calls, part 5: addresses, loads, stores, new objects. -/
namespace Im
open Go (IntKind BinOp UnOp Program World Value Addr TypeId FuncId Code Oper Operand Op TypeDesc Sem Act run_underlying)
open Go.RowKit (Below)

section
variable {E : Env} {C : Cfg} {ρ : Ren} {H : Heap} {w : World} {t : List V} {a : Act}

theorem Rel.id_lt {g : Nat → Option Obj} {nx : Nat} (hr : Rel E ρ g nx w) {id : Nat} {o : Obj} (h : g id = some o) : id < nx := by
  obtain ⟨b, x, tot, h1, _⟩ := hr.obj id o h
  rcases Nat.lt_or_ge id nx with h2 | h2
  · exact h2
  · rw [hr.fresh id h2] at h1; cases h1

theorem ok_fa (hC : CfgOk E C) (ht : VRels E ρ t a.tmps.toList) (hr : Rel E ρ H.get H.next w) {o : Oper} {nid f : Nat} {T : TypeId} {x : Operand} {io : IOp} (ho : o.op = .fieldAddr T x f) (hx : trOp? E (.fieldAddr T x f) = some io)
    {v : V} {H' : Heap} {cf : CallF} (h : iop cf C nid io t H = some (v, H')) : Ok E ρ H w a o nid v H' := by
  simp only [trOp?] at hx
  split at hx <;> try (cases hx; done)
  rename_i fs y hu hy
  split at hx <;> try (cases hx; done)
  rename_i fd hfd
  split at hx <;> try (cases hx; done)
  rename_i n hn
  split at hx <;> try (cases hx; done)
  rename_i h0
  cases hx
  have hv := eval_sound hC ht hy
  simp only [iop] at h
  cases e : eval t y <;> rw [e] at h hv <;> simp at h
  obtain ⟨rfl, rfl⟩ := h
  cases hv' : a.eval x <;> rw [hv'] at hv <;> cases hv
  rename_i pa c ha
  have hfd' : fs[f]? = some fd := hfd
  exact .pure hr (by simp [Go.execOp, ho, hv', Go.Instr.fieldAt, run_underlying hu, hfd', Go.Instr.sureAddr, Go.fieldPlace, sizeOf_run hn, h0]) (.ptr _ _ (ha.add _))

theorem ok_ia (hC : CfgOk E C) (ht : VRels E ρ t a.tmps.toList) (hr : Rel E ρ H.get H.next w) {o : Oper} {nid : Nat} {T : TypeId} {x i : Operand} {io : IOp} (ho : o.op = .indexAddr T x i) (hx : trOp? E (.indexAddr T x i) = some io)
    {v : V} {H' : Heap} {cf : CallF} (h : iop cf C nid io t H = some (v, H')) : Ok E ρ H w a o nid v H' := by
  simp only [trOp?] at hx
  split at hx <;> try (cases hx; done)
  · rename_i e y j hu hy hj
    simp only [Option.map_eq_some_iff] at hx
    obtain ⟨n, hn, rfl⟩ := hx
    have hv := eval_sound hC ht hy
    have hw := eval_sound hC ht hj
    simp only [iop] at h
    cases e0 : eval t y <;> rw [e0] at h hv <;> try (simp at h; done)
    cases e1 : eval t j <;> rw [e1] at h hw <;> simp at h
    rename_i pa len cap k m
    obtain ⟨⟨h0, h1⟩, rfl, rfl⟩ := h
    cases hv' : a.eval x <;> rw [hv'] at hv <;> cases hv
    cases hw' : a.eval i <;> rw [hw'] at hw <;> cases hw
    rename_i c' c ha hcap
    exact .pure hr (c := .pointer (some (c.add (m.toNat * n)))) (by simp [Go.execOp, ho, hv', hw', Go.Instr.indexAt, Go.asIntOf, run_underlying hu, h0, h1, sizeOf_run hn]) (.ptr _ _ (ha.add _))
  · rename_i len e y j hu hy hj
    simp only [Option.map_eq_some_iff] at hx
    obtain ⟨n, hn, rfl⟩ := hx
    have hv := eval_sound hC ht hy
    have hw := eval_sound hC ht hj
    simp only [iop] at h
    cases e0 : eval t y <;> rw [e0] at h hv <;> try (simp at h; done)
    cases e1 : eval t j <;> rw [e1] at h hw <;> simp at h
    rename_i pa k m
    obtain ⟨⟨h0, h1⟩, rfl, rfl⟩ := h
    cases hv' : a.eval x <;> rw [hv'] at hv <;> cases hv
    cases hw' : a.eval i <;> rw [hw'] at hw <;> cases hw
    rename_i c ha
    exact .pure hr (by simp [Go.execOp, ho, hv', hw', Go.Instr.indexAt, Go.asIntOf, run_underlying hu, h0, h1, sizeOf_run hn, Go.Instr.sureAddr]) (.ptr _ _ (ha.add _))

theorem ok_ld (hC : CfgOk E C) (ht : VRels E ρ t a.tmps.toList) (hr : Rel E ρ H.get H.next w) {o : Oper} {nid : Nat} {T : TypeId} {x : Operand} {io : IOp} (ho : o.op = .load T x) (hx : trOp? E (.load T x) = some io)
    {v : V} {H' : Heap} {cf : CallF} (h : iop cf C nid io t H = some (v, H')) : Ok E ρ H w a o nid v H' := by
  simp only [trOp?] at hx
  split at hx <;> try (cases hx; done)
  rename_i y n d hy hn hd
  simp at hx
  have hv := eval_sound hC ht hy
  by_cases hg : isAgg E.P T = true
  · rw [if_pos hg] at hx; subst hx
    simp only [iop] at h
    cases e0 : eval t y <;> rw [e0] at h hv <;> simp at h
    split at h <;> try (cases h; done)
    rename_i l hl
    simp at h; obtain ⟨rfl, rfl⟩ := h
    cases hv' : a.eval x <;> rw [hv'] at hv <;> cases hv
    rename_i c ha
    obtain ⟨us, k1, k2, k3⟩ := loadN_sound hC hr ha n 0 l hl
    have hload := Go.run_loadCells_list (P := E.P) w c us (fun j u hj => by simpa using k3 j u hj)
    rw [k2] at hload
    exact .pure hr (by simp [Go.execOp, ho, hv', Go.Instr.loadAt, Go.Instr.sureAddr, Go.loadVar, isAgg_run hd, hg, sizeOf_run hn, hload]) (.agg _ _ k1)
  · rw [if_neg hg] at hx; subst hx
    simp only [iop] at h
    cases e0 : eval t y <;> rw [e0] at h hv <;> simp at h
    split at h <;> try (cases h; done)
    rename_i u hu
    simp at h; obtain ⟨rfl, rfl⟩ := h
    cases hv' : a.eval x <;> rw [hv'] at hv <;> cases hv
    rename_i c ha
    obtain ⟨q, hq, hqv⟩ := cellsAt_sound hC hr ha hu
    have hq' : w.cell? c = some q := by simpa [Go.Addr.add] using hq
    exact .pure hr (by simp [Go.execOp, ho, hv', Go.Instr.loadAt, Go.Instr.sureAddr, Go.loadVar, isAgg_run hd, hg, hq']) hqv

/-! ### Stores -/

theorem ones {l : List V} {l' : List Value} (h : VRels E ρ l l') (h1 : l.all V.one = true) : ∀ u ∈ l', u.oneCell' = true := by
  intro u hu
  obtain ⟨i, hi⟩ := List.getElem?_of_mem hu
  obtain ⟨v, hv, hr⟩ := h.get' i u hi
  have hv1 : v.one = true := (List.all_eq_true.1 h1) v (List.mem_of_getElem? hv)
  have := hr.one hv1
  cases u <;> simp [Go.Value.oneCell'] at this ⊢

theorem storeN_sound {S : Nat → Prop} (hr : Rel E ρ H.get H.next w) {pa : PA} {c : Addr} (ha : ARel E ρ pa c) {vs : List V} {us : List Value} (hvs : VRels E ρ vs us) {H' : Heap} (h : H.storeN pa vs = some H') :
    ∃ w', (Go.storeCells c us 0).run E.P w = .ok () w' ∧ Post E S ρ H.get H.next w ρ H'.get H'.next w' := by
  unfold Heap.storeN at h
  unfold ARel at ha
  split at h
  · rename_i hreg
    rw [hreg] at ha; simp only at ha
    obtain ⟨b, x, tot, h1, h2⟩ := ha
    split at h <;> try (cases h; done)
    rename_i ty l hg
    split at h <;> try (cases h; done)
    rename_i hlen
    cases h
    obtain ⟨hlen, hone⟩ := hlen
    obtain ⟨b', x', t', e1, hN, cs, el, lo, hi, e2, e3, e4, e5, e6z, e7⟩ := hr.obj _ _ hg
    have e6 : ∀ i, x' ≤ i → i < x' + t' → ¬(lo ≤ i ∧ i < hi) := fun i _ _ => by omega
    rw [h1] at e1; cases e1
    have hul := hvs.length
    subst h2
    have hcell : ∀ j, j < us.length → w.cell? ⟨b, x + pa.off + 0 + j, none⟩ = cs[x + pa.off + j]? := by
      intro j hj; simp [World.cell?, e2]
    have hrun := Go.run_storeCells_cells (P := E.P) b (x + pa.off) us 0 w
      (by intro j hj; rw [hcell j hj, Option.isSome_iff_exists]; exact ⟨_, Array.getElem?_eq_getElem (by omega)⟩)
      (by intro j hj; simp only [World.frozen?, e2]
          have := e6 (x + pa.off + j) (by omega) (by omega)
          simp only [Nat.add_zero, Bool.and_eq_false_iff, decide_eq_false_iff_not]
          omega)
      (ones hvs hone)
    obtain ⟨k1, k2, k3, k4, k5, k6⟩ := heap_setCells b el (lo, hi) us (x + pa.off + 0) cs w e2
    refine ⟨_, hrun, ?_⟩
    rw [Heap.put_get]
    have hid := hr.id_lt hg
    have hnx : (H.put pa.b (.cells ty (setAt l pa.off vs))).next = H.next := by rw [Heap.next_put, if_pos hid]
    rw [hnx]
    refine Post.write hr hg h1 _ ?_ _ ⟨k4, k5, k6⟩ k3 k1 k2 hid
    refine ⟨_, el, lo, hi, rfl, e3, by rw [setAt_length]; exact e4, by rw [laid_size]; exact e5, by rw [laid_size]; exact e6z, ?_⟩
    intro i v hv
    rw [setAt_get vs l pa.off i hlen] at hv
    rw [laid_get us cs _ _ (by omega)]
    by_cases hin : pa.off ≤ i ∧ i < pa.off + vs.length
    · rw [if_pos hin] at hv
      rw [if_pos (by omega)]
      obtain ⟨u, hu, hur⟩ := hvs.get _ _ hv
      exact ⟨u, by rw [← hu]; congr 1; omega, hur⟩
    · rw [if_neg hin] at hv
      rw [if_neg (by omega)]
      exact e7 i v hv
  · split at h <;> try (cases h; done)
    cases h
    cases hvs
    exact ⟨w, by simp [Go.storeCells], .refl hr⟩

theorem ok_st (hC : CfgOk E C) (ht : VRels E ρ t a.tmps.toList) (hr : Rel E ρ H.get H.next w) {o : Oper} {nid : Nat} {T : TypeId} {x y : Operand} {io : IOp} (ho : o.op = .store T x y) (hx : trOp? E (.store T x y) = some io)
    {v : V} {H' : Heap} {cf : CallF} (h : iop cf C nid io t H = some (v, H')) : Ok E ρ H w a o nid v H' := by
  simp only [trOp?] at hx
  split at hx <;> try (cases hx; done)
  rename_i x' y' n hx' hy' hn
  cases hx
  have hv := eval_sound hC ht hx'
  have hw := (eval_sound hC ht hy').cells
  simp only [iop] at h
  cases e0 : eval t x' <;> rw [e0] at h hv <;> simp at h
  rename_i pa
  obtain ⟨hl, h⟩ := h
  split at h <;> try (cases h; done)
  rename_i H2 hs
  simp at h; obtain ⟨rfl, rfl⟩ := h
  cases hv' : a.eval x <;> rw [hv'] at hv <;> cases hv
  rename_i c ha
  obtain ⟨w', hrun, hp⟩ := storeN_sound (S := (· = nid)) hr ha hw hs
  have hlen := hw.length
  refine ⟨Go.undef, w', ρ, .inr ⟨?_, rfl⟩, .undef, hp⟩
  have hsz : (a.eval y).cells.size = n := by simp at hlen; omega
  simp [Go.execOp, ho, hv', Go.Instr.storeAt, Go.Instr.sureAddr, Go.storeVar, sizeOf_run hn, hrun, hsz]

/-! ### New objects -/

theorem new_ptr {o : Oper} {nid : Nat} (hr : Rel E ρ H.get H.next w) (hn : ρ nid = none) (T : TypeId) {l : List V} {l' : List Value} (hl : VRels E ρ l l')
    (hrun : (Go.execOp a.eval o).run E.P w = .ok (.value (.pointer (some ⟨w.heap.size, 0, none⟩))) { w with heap := w.heap.push (.cells l'.toArray T (0, 0)) }) :
    Ok E ρ H w a o nid (.ptr ⟨.own, nid, 0⟩) (H.put nid (.cells (E.tm T) l)) := by
  have hx := Ren.upd_ext ρ nid (w.heap.size, 0, l'.length) hn
  refine ⟨_, _, ρ.upd nid (w.heap.size, 0, l'.length), .inl hrun, .ptr _ _ ⟨_, _, _, Ren.upd_self _ _ _, by simp⟩, ?_⟩
  rw [Heap.put_get]
  exact Post.new hr nid l'.length (.cells (E.tm T) l) (.cells l'.toArray T (0, 0)) hn (Heap.id_lt_put _ _ _) (Heap.next_le_put _ _ _)
    ⟨_, T, 0, 0, rfl, rfl, by rw [hl.length]; exact Nat.le_refl _, by simp, .inl rfl, CellsRel.of_rels (hl.ext hx) _ (by intro i u hu; simpa using hu)⟩ w.drawn

theorem ok_box (hC : CfgOk E C) (ht : VRels E ρ t a.tmps.toList) (hr : Rel E ρ H.get H.next w) {o : Oper} {nid : Nat} (hn : ρ nid = none) {T : TypeId} {x : Operand} {y : Opd} (ho : o.op = .box T x) (hx : trOpd E x = some y)
    {v : V} {H' : Heap} {cf : CallF} (h : iop cf C nid (.box (E.tm T) y) t H = some (v, H')) : Ok E ρ H w a o nid v H' := by
  simp [iop] at h; obtain ⟨rfl, rfl⟩ := h
  have hv := (eval_sound hC ht hx).cells
  exact new_ptr hr hn T hv (by simp [Go.execOp, ho, Go.Instr.box, Go.newVar, Go.newRow])

theorem zeroV_run {T : TypeId} {z : V} (h : zeroV E.P T = some z) : ∃ c, (∀ w, (Go.zeroValue T).run E.P w = .ok c w) ∧ ∀ ρ, VRel E ρ z c := by
  unfold zeroV at h
  split at h <;> try (cases h; done)
  rename_i i hi
  split at h <;> try (cases h; done)
  rename_i c hc
  exact ⟨c, fun w => by simp [Go.zeroValue, Go.typeInfo, hi, hc], fun ρ => trV_rel h⟩

theorem ok_alc (hr : Rel E ρ H.get H.next w) {o : Oper} {nid : Nat} (hn : ρ nid = none) {T : TypeId} {z : V} (ho : o.op = .alloc T) (hz : zeroV E.P T = some z)
    {v : V} {H' : Heap} {cf : CallF} (h : iop cf C nid (.alc (E.tm T) z.cells) t H = some (v, H')) : Ok E ρ H w a o nid v H' := by
  simp [iop] at h; obtain ⟨rfl, rfl⟩ := h
  obtain ⟨c, hc, hv⟩ := zeroV_run hz
  exact new_ptr hr hn T (hv ρ).cells (by simp [Go.execOp, ho, Go.Instr.alloc, hc, Go.newVar, Go.newRow])

/-! ### Structs, arrays, slices written out -/

theorem zipIdx_fold (off : Nat) : ∀ (l : List Value) (k : Nat) (c : Array Value), (l.zipIdx k).foldl (fun cs (x : Value × Nat) => cs.setIfInBounds (off + x.2) x.1) c = laid c (off + k) l
  | [], k, c => rfl
  | v :: l, k, c => by
    simp only [List.zipIdx_cons, List.foldl_cons, laid]
    rw [zipIdx_fold off l (k + 1)]
    rfl

theorem fill_sound (hC : CfgOk E C) (ht : VRels E ρ t a.tmps.toList) (place : Nat → Option (Nat × Nat)) : ∀ (ps : List (Nat × Operand)) (ps' : List (Nat × Nat × Opd)) (z l : List V) (c : Array Value),
    trParts E place ps = some ps' → fillP t z ps' = some l → VRels E ρ z c.toList →
    ∃ c', Go.Instr.fill place c (ps.map fun (i, x) => (i, a.eval x)) = some c' ∧ VRels E ρ l c'.toList
  | [], ps', z, l, c, h1, h2, hz => by
    simp [trParts] at h1; subst h1
    simp [fillP] at h2; subst h2
    exact ⟨c, rfl, hz⟩
  | (i, x) :: ps, ps', z, l, c, h1, h2, hz => by
    unfold trParts at h1
    split at h1 <;> try (cases h1; done)
    rename_i off n y l' hp hy hl'
    cases h1
    unfold fillP at h2
    split at h2 <;> try (cases h2; done)
    rename_i hcond
    obtain ⟨hn, hle⟩ := hcond
    have hv := (eval_sound hC ht hy).cells
    have hlen := hv.length
    have hzl := hz.length
    simp at hlen hzl
    have hset : VRels E ρ (setAt z off (eval t y).cells) (laid c off (a.eval x).cells.toList).toList := by
      refine VRels.of_get (by rw [setAt_length]; simp [laid_size, hzl]) ?_
      intro k u hu
      rw [setAt_get _ _ _ _ (by omega)] at hu
      have hg := laid_get (a.eval x).cells.toList c off k (by simp; omega)
      simp only [Array.length_toList] at hg
      rw [Array.getElem?_toList, hg]
      by_cases hin : off ≤ k ∧ k < off + (eval t y).cells.length
      · rw [if_pos hin] at hu; rw [if_pos (by omega)]
        exact hv.get _ _ hu
      · rw [if_neg hin] at hu; rw [if_neg (by omega)]
        obtain ⟨q, hq, hqr⟩ := hz.get _ _ hu
        exact ⟨q, by simpa using hq, hqr⟩
    obtain ⟨c', h3, h4⟩ := fill_sound hC ht place ps l' _ l _ hl' h2 hset
    refine ⟨c', ?_, h4⟩
    simp only [List.map_cons, Go.Instr.fill, hp]
    rw [if_neg (by simp; omega)]
    have hfold : ((a.eval x).cells.zipIdx.foldl (fun cs (x : Value × Nat) => cs.setIfInBounds (off + x.2) x.1) c) = laid c off (a.eval x).cells.toList := by
      rw [← Array.foldl_toList]
      have := zipIdx_fold off (a.eval x).cells.toList 0 c
      simpa using this
    rw [← h3]
    exact congrArg (fun q => Go.Instr.fill place q _) hfold

theorem places_run : ∀ (fs : List Go.Field) (pl : List (Nat × Nat)), trPlaces E.P fs = some pl → ∀ w, (fs.mapM (fun f => do pure (f.offset, ← Go.sizeOf f.type) : Go.Field → Sem (Nat × Nat))).run E.P w = .ok pl w
  | [], pl, h, w => by simp [trPlaces] at h; subst h; simp
  | f :: fs, pl, h, w => by
    unfold trPlaces at h
    split at h <;> try (cases h; done)
    rename_i n l hn hl
    cases h
    rw [List.mapM_cons]
    simp only [Sem.run_bind, Sem.run_pure, sizeOf_run hn, Go.Result.andThen_ok, places_run fs l hl w]

theorem ok_build (hC : CfgOk E C) (ht : VRels E ρ t a.tmps.toList) (hr : Rel E ρ H.get H.next w) {o : Oper} {nid : Nat} {T : TypeId} {ps : Array (Nat × Operand)} {io : IOp} (ho : o.op = .build T ps) (hx : trOp? E (.build T ps) = some io)
    {v : V} {H' : Heap} {cf : CallF} (h : iop cf C nid io t H = some (v, H')) : Ok E ρ H w a o nid v H' := by
  simp only [trOp?] at hx
  have hmap : (ps.map fun (i, x) => (i, a.eval x)).toList = ps.toList.map fun (i, x) => (i, a.eval x) := by simp
  split at hx <;> try (cases hx; done)
  · rename_i z fs hz hu
    split at hx <;> try (cases hx; done)
    rename_i pl hpl
    simp only [Option.map_eq_some_iff] at hx
    obtain ⟨ps', hps, rfl⟩ := hx
    simp only [iop] at h
    split at h <;> try (cases h; done)
    rename_i l hl
    simp at h; obtain ⟨rfl, rfl⟩ := h
    obtain ⟨c, hc, hv⟩ := zeroV_run hz
    obtain ⟨c', h1, h2⟩ := fill_sound hC ht (fun i => pl[i]?) ps.toList ps' z.cells l c.cells hps hl (hv ρ).cells
    have hm := places_run fs.toList pl hpl w
    refine .pure hr (c := .agg c') ?_ (by have := VRel.agg l c'.toList h2; simpa using this)
    have hm' : (fs.mapM (fun f => do pure (f.offset, ← Go.sizeOf f.type) : Go.Field → Sem (Nat × Nat))).run E.P w = .ok pl.toArray w := by
      rw [Array.mapM_eq_mapM_toList, Sem.run_map, hm]; rfl
    have hf : Go.Instr.fill (fun i => pl.toArray[i]?) c.cells (ps.map fun (i, x) => (i, a.eval x)).toList = some c' := by
      rw [hmap, ← h1]; congr 1; funext i; simp
    simp only [Go.execOp, ho, Go.Instr.build, Sem.run_bind, hc, run_underlying hu, Go.Result.andThen_ok, hm', hf, Sem.run_pure]
  · rename_i z len e hz hu
    split at hx <;> try (cases hx; done)
    rename_i n hn
    simp only [Option.map_eq_some_iff] at hx
    obtain ⟨ps', hps, rfl⟩ := hx
    simp only [iop] at h
    split at h <;> try (cases h; done)
    rename_i l hl
    simp at h; obtain ⟨rfl, rfl⟩ := h
    obtain ⟨c, hc, hv⟩ := zeroV_run hz
    obtain ⟨c', h1, h2⟩ := fill_sound hC ht (fun i => some (i * n, n)) ps.toList ps' z.cells l c.cells hps hl (hv ρ).cells
    refine .pure hr (c := .agg c') ?_ (by have := VRel.agg l c'.toList h2; simpa using this)
    rw [← hmap] at h1
    simp only [Go.execOp, ho, Go.Instr.build, Sem.run_bind, hc, run_underlying hu, Go.Result.andThen_ok, sizeOf_run hn, h1, Sem.run_pure]

theorem repl_length (z : List V) : ∀ n, (repl n z).length = n * z.length
  | 0 => by simp [repl]
  | n + 1 => by simp [repl, repl_length z n, Nat.succ_mul, Nat.add_comm]

theorem repl_get (z : List V) (hz : 0 < z.length) : ∀ (n i : Nat), i < n * z.length → (repl n z)[i]? = z[i % z.length]?
  | 0, i, h => by simp at h
  | n + 1, i, h => by
    simp only [repl]
    by_cases h1 : i < z.length
    · rw [List.getElem?_append_left h1, Nat.mod_eq_of_lt h1]
    · rw [List.getElem?_append_right (by omega), repl_get z hz n _ (by rw [Nat.succ_mul] at h; omega)]
      rw [Nat.mod_eq_sub_mod (by omega : i ≥ z.length)]

theorem zeros_rel {z : List V} {c : Array Value} (h : VRels E ρ z c.toList) (hz : 0 < z.length) (n : Nat) : VRels E ρ (repl n z) ((Array.range (n * z.length)).map (fun i => c[i % c.size]!)).toList := by
  have hl : z.length = c.size := by simpa using h.length
  refine VRels.of_get (by simp [repl_length]) ?_
  intro i v hv
  have hi : i < n * z.length := by
    rw [List.getElem?_eq_some_iff] at hv; obtain ⟨k, _⟩ := hv; rwa [repl_length] at k
  rw [repl_get z hz n i hi] at hv
  obtain ⟨u, hu, hr⟩ := h.get _ _ hv
  refine ⟨u, ?_, hr⟩
  rw [Array.getElem?_toList, Array.getElem?_map, Array.getElem?_range, if_pos hi]
  simp only [Option.map_some]
  rw [Array.getElem?_toList] at hu
  rw [hl] at hu
  rw [getElem!_def, hu]

theorem ok_bslice (hC : CfgOk E C) (ht : VRels E ρ t a.tmps.toList) (hr : Rel E ρ H.get H.next w) {o : Oper} {nid len : Nat} (hn : ρ nid = none) {T : TypeId} {ps : Array (Nat × Operand)} {io : IOp} (ho : o.op = .buildSlice T len ps)
    (hx : trOp? E (.buildSlice T len ps) = some io) {v : V} {H' : Heap} {cf : CallF} (h : iop cf C nid io t H = some (v, H')) : Ok E ρ H w a o nid v H' := by
  simp only [trOp?] at hx
  have hmap : (ps.map fun (i, x) => (i, a.eval x)).toList = ps.toList.map fun (i, x) => (i, a.eval x) := by simp
  split at hx <;> try (cases hx; done)
  rename_i e hu
  split at hx <;> try (cases hx; done)
  rename_i n z hn' hz
  split at hx <;> try (cases hx; done)
  rename_i hcond
  obtain ⟨h24, hzl, hn0⟩ := hcond
  simp only [Option.map_eq_some_iff] at hx
  obtain ⟨ps', hps, rfl⟩ := hx
  simp only [iop] at h
  split at h <;> try (cases h; done)
  rename_i l hl
  simp at h; obtain ⟨rfl, rfl⟩ := h
  obtain ⟨c, hc, hv⟩ := zeroV_run hz
  have hzr := zeros_rel (hv ρ).cells (by omega) len
  rw [hzl] at hzr
  obtain ⟨c', h1, h2⟩ := fill_sound hC ht (fun i => some (i * n, n)) ps.toList ps' (repl len z.cells) l _ hps hl hzr
  rw [← hmap] at h1
  have hl2 : l.length = c'.size := by simpa using h2.length
  have hrun : (Go.execOp a.eval o).run E.P w = .ok (.value (.slice (some ⟨w.heap.size, 0, none⟩) len len)) { w with heap := w.heap.push (.cells c' e (0, 0)) } := by
    have hbig : ¬ (len * n > 2 ^ 24) := by omega
    simp only [Go.execOp, ho, Go.Instr.buildSlice, Sem.run_bind, run_underlying hu, Go.Result.andThen_ok, sizeOf_run hn', if_neg hbig, Sem.run_pure]
    by_cases h0 : len * n = 0
    · have hlen : len = 0 := by
        rcases Nat.mul_eq_zero.1 h0 with h | h
        · exact h
        · omega
      subst hlen
      have e1 : ∀ g : Nat → Value, (Array.range (0 * n)).map g = #[] := by intro g; simp
      rw [e1] at h1
      simp only [if_pos h0, e1, Sem.run_pure, Go.Result.andThen_ok, h1, Go.newRow, Go.run_newObj, Sem.run_bind]
    · simp only [if_neg h0, Sem.run_bind, hc, Go.Result.andThen_ok, Sem.run_pure, h1, Go.newRow, Go.run_newObj]
  have hx := Ren.upd_ext ρ nid (w.heap.size, 0, c'.size) hn
  refine ⟨_, _, ρ.upd nid (w.heap.size, 0, c'.size), .inl hrun, .slice _ _ _ _ _ ⟨_, _, _, Ren.upd_self _ _ _, by simp⟩ rfl, ?_⟩
  rw [Heap.put_get]
  exact Post.new hr nid c'.size (.cells (E.tm e) l) (.cells c' e (0, 0)) hn (Heap.id_lt_put _ _ _) (Heap.next_le_put _ _ _)
    ⟨_, e, 0, 0, rfl, rfl, by omega, by simp, .inl rfl, CellsRel.of_rels (h2.ext hx) _ (by intro i u hu; simpa using hu)⟩ w.drawn

end
end Im

/- Each operation but calls, part 6: lengths, slice expressions, function values, interfaces, append, copy, clear, make. -/
namespace Im
open Go (IntKind BinOp UnOp Program World Value Addr TypeId FuncId Code Oper Operand Op TypeDesc Sem Act run_underlying)
open Go.RowKit (Below)

section
variable {E : Env} {C : Cfg} {ρ : Ren} {H : Heap} {w : World} {t : List V} {a : Act}

/-! ### Slice expressions -/

theorem bnd_sound {x : Option V} {c : Option Value} {dflt top r : Nat} (hx : (x = none ∧ c = none) ∨ ∃ v u, x = some v ∧ c = some u ∧ VRel E ρ v u) (h : bnd x dflt top = some r) :
    (c = none ∧ r = dflt) ∨ ∃ u, c = some u ∧ r ≤ top ∧ ∀ code, (Go.Instr.sliceBound u top code).run E.P w = .ok r w := by
  rcases hx with ⟨rfl, rfl⟩ | ⟨v, u, rfl, rfl, hv⟩
  · simp [bnd] at h; exact .inl ⟨rfl, h.symm⟩
  · unfold bnd at h
    split at h
    · rename_i heq; cases heq
    · rename_i k i heq
      cases heq
      split at h <;> try (cases h; done)
      rename_i hi
      cases h
      cases hv
      exact .inr ⟨_, rfl, by omega, fun code => by simp [Go.Instr.sliceBound, Go.asIntOf, hi]⟩
    · cases h

theorem evalO_pair (hC : CfgOk E C) (ht : VRels E ρ t a.tmps.toList) {x : Option Operand} {y : Option Opd} (h : trOpdO E x = some y) :
    (evalO t y = none ∧ x.map a.eval = none) ∨ ∃ v u, evalO t y = some v ∧ x.map a.eval = some u ∧ VRel E ρ v u := by
  rcases evalO_sound hC ht h with ⟨rfl, rfl, h1⟩ | ⟨x', y', rfl, rfl, h1, h2⟩
  · exact .inl ⟨h1, rfl⟩
  · exact .inr ⟨_, _, h1, rfl, h2⟩

/-- What the model reckons of a slice's bounds. -/
theorem bounds_run {isSlice : Bool} {len cap : Nat} {lo hi mx : Option V} {cl ch cm : Option Value} {l h m : Nat}
    (hl : (lo = none ∧ cl = none) ∨ ∃ v u, lo = some v ∧ cl = some u ∧ VRel E ρ v u) (hh : (hi = none ∧ ch = none) ∨ ∃ v u, hi = some v ∧ ch = some u ∧ VRel E ρ v u)
    (hm : (mx = none ∧ cm = none) ∨ ∃ v u, mx = some v ∧ cm = some u ∧ VRel E ρ v u)
    (bm : bnd mx cap cap = some m) (bh : bnd hi len m = some h) (bl : bnd lo 0 h = some l) (hno : mx.isSome = true → hi.isNone = false) :
    (Go.Instr.sliceBounds isSlice len cap cl ch cm).run E.P w = .ok (l, h, m) w := by
  have k1 := bnd_sound (w := w) hm bm
  have k2 := bnd_sound (w := w) hh bh
  have k3 := bnd_sound (w := w) hl bl
  rcases k1 with ⟨rfl, rfl⟩ | ⟨um, rfl, hm1, k1⟩
  · rcases k2 with ⟨rfl, rfl⟩ | ⟨uh, rfl, hh1, k2⟩ <;> rcases k3 with ⟨rfl, rfl⟩ | ⟨ul, rfl, hl1, k3⟩ <;> simp [Go.Instr.sliceBounds, *]
  · rcases k2 with ⟨rfl, rfl⟩ | ⟨uh, rfl, hh1, k2⟩
    · rcases hm with ⟨_, h0⟩ | ⟨v, u, h0, _, _⟩
      · cases h0
      · rcases hh with ⟨h2, _⟩ | ⟨_, _, _, h2, _⟩
        · have := hno (by rw [h0]; rfl); rw [h2] at this; cases this
        · cases h2
    · rcases k3 with ⟨rfl, rfl⟩ | ⟨ul, rfl, hl1, k3⟩ <;> simp [Go.Instr.sliceBounds, *]

theorem slcEx_sound {e : Nat} {pa : Option PA} {c : Option Addr} {len cap : Nat} {lo hi mx : Option V} {cl ch cm : Option Value} {v : V} {isSlice : Bool}
    (ha : (pa = none ∧ c = none ∧ len = 0 ∧ cap = 0) ∨ ∃ p q, pa = some p ∧ c = some q ∧ ARel E ρ p q)
    (hl : (lo = none ∧ cl = none) ∨ ∃ v u, lo = some v ∧ cl = some u ∧ VRel E ρ v u) (hh : (hi = none ∧ ch = none) ∨ ∃ v u, hi = some v ∧ ch = some u ∧ VRel E ρ v u)
    (hm : (mx = none ∧ cm = none) ∨ ∃ v u, mx = some v ∧ cm = some u ∧ VRel E ρ v u) (h : slcEx e pa len cap lo hi mx = some v) :
    ∃ l h m, (Go.Instr.sliceBounds isSlice len cap cl ch cm).run E.P w = .ok (l, h, m) w ∧ VRel E ρ v (.slice (if m = l then c else c.map (·.add (l * e))) (h - l) (m - l)) := by
  unfold slcEx at h
  split at h <;> try (cases h; done)
  rename_i hno
  have hno : mx.isSome = true → hi.isNone = false := by
    intro k; rw [k] at hno; cases hi <;> simp at hno ⊢
  split at h <;> try (cases h; done)
  rename_i m bm
  split at h <;> try (cases h; done)
  rename_i h' bh
  split at h <;> try (cases h; done)
  rename_i l bl
  refine ⟨l, h', m, bounds_run hl hh hm bm bh bl hno, ?_⟩
  rcases ha with ⟨rfl, rfl, rfl, rfl⟩ | ⟨p, q, rfl, rfl, hpq⟩
  · simp at h
    cases h
    have hm0 : m ≤ 0 := by
      rcases bnd_sound (w := w) hm bm with ⟨_, h⟩ | ⟨_, _, h, _⟩ <;> omega
    have hh0 : h' ≤ 0 := by
      rcases bnd_sound (w := w) hh bh with ⟨_, h⟩ | ⟨_, _, h, _⟩ <;> omega
    have hl0 : l ≤ 0 := by
      rcases bnd_sound (w := w) hl bl with ⟨_, h⟩ | ⟨_, _, h, _⟩ <;> omega
    obtain rfl : m = 0 := by omega
    obtain rfl : h' = 0 := by omega
    obtain rfl : l = 0 := by omega
    simpa using VRel.nils
  · simp only [Option.some.injEq] at h
    subst h
    by_cases hml : m = l
    · simp only [if_pos hml]; exact .slice _ _ _ _ _ hpq rfl
    · simp only [if_neg hml]; exact .slice _ _ _ _ _ (hpq.add _) rfl

theorem bnd_le {x : Option V} {dflt top r top' : Nat} (h : bnd x dflt top = some r) (ht : top ≤ top') : bnd x dflt top' = some r := by
  unfold bnd at *
  split at h
  · exact h
  · split at h <;> try (cases h; done)
    rename_i hi
    rw [if_pos (by omega)]; exact h
  · cases h

theorem bnd_some (v : V) (d d' top : Nat) : bnd (some v) d top = bnd (some v) d' top := by
  unfold bnd; cases v <;> rfl

theorem slcUn_sound {e e' : Nat} {p : PA} {c : Addr} {len cap : Nat} {lo hi mx : Option V} {cl ch cm : Option Value} {v : V} {isSlice : Bool}
    (ha : ARel E ρ p c) (hcap : CRel ρ p len (.un e') cap)
    (hl : (lo = none ∧ cl = none) ∨ ∃ v u, lo = some v ∧ cl = some u ∧ VRel E ρ v u) (hh : (hi = none ∧ ch = none) ∨ ∃ v u, hi = some v ∧ ch = some u ∧ VRel E ρ v u)
    (hm : (mx = none ∧ cm = none) ∨ ∃ v u, mx = some v ∧ cm = some u ∧ VRel E ρ v u) (h : slcUn e p len e' lo hi mx = some v) :
    ∃ l h m, (Go.Instr.sliceBounds isSlice len cap cl ch cm).run E.P w = .ok (l, h, m) w ∧ VRel E ρ v (.slice (if m = l then some c else (some c).map (·.add (l * e))) (h - l) (m - l)) := by
  have hcap0 := hcap
  obtain ⟨hown, b, o, tot, hρ, htot, hle⟩ := hcap
  unfold slcUn at h
  split at h
  · rename_i vm
    split at h <;> try (cases h; done)
    rename_i m bm
    split at h <;> try (cases h; done)
    rename_i h' bh
    split at h <;> try (cases h; done)
    rename_i l bl
    split at h <;> try (cases h; done)
    rename_i hno
    have bm' : bnd (some vm) cap cap = some m := by
      have h0 := bnd_le bm hle
      rwa [bnd_some vm len cap] at h0
    simp only [Option.some.injEq] at h
    subst h
    refine ⟨l, h', m, bounds_run hl hh hm bm' bh bl (fun _ => by cases hi <;> simp at hno ⊢), ?_⟩
    by_cases hml : m = l
    · simp only [if_pos hml]; exact .slice _ _ _ _ _ ha rfl
    · simp only [if_neg hml]; exact .slice _ _ _ _ _ (ha.add _) rfl
  · obtain rfl : cm = none := by
      rcases hm with ⟨_, h0⟩ | ⟨_, _, hc, _⟩
      · exact h0
      · cases hc
    split at h <;> try (cases h; done)
    rename_i h' bh
    split at h <;> try (cases h; done)
    rename_i l bl
    have bh' := bnd_le bh hle
    have hbr := bounds_run (E := E) (w := w) (isSlice := isSlice) (cap := cap) hl hh (.inl ⟨rfl, rfl⟩) rfl bh' bl (by simp)
    have hh' : h' ≤ len := by
      rcases bnd_sound (w := w) hh bh with ⟨_, h⟩ | ⟨_, _, h, _⟩ <;> omega
    split at h
    · rename_i hl0
      subst hl0
      cases h
      refine ⟨0, h', cap, hbr, ?_⟩
      have hc0 : (if cap = 0 then some c else (some c).map (·.add (0 * e))) = some c := by
        simp [Go.Addr.add]
      rw [hc0]
      exact .slice _ _ _ _ _ ha ⟨hown, b, o, tot, hρ, by simpa using htot, by omega⟩
    · split at h <;> try (cases h; done)
      rename_i hl0 hcond
      obtain ⟨hlt, rfl⟩ := hcond
      cases h
      refine ⟨l, h', cap, hbr, ?_⟩
      rw [if_neg (by omega)]
      refine .slice _ _ _ _ _ (ha.add _) ⟨hown, b, o, tot, hρ, ?_, by omega⟩
      simp only [PA.add]
      rw [← htot, Nat.sub_mul]
      have : l * e ≤ cap * e := Nat.mul_le_mul_right _ (by omega)
      omega

theorem ok_slice (hC : CfgOk E C) (ht : VRels E ρ t a.tmps.toList) (hr : Rel E ρ H.get H.next w) {o : Oper} {nid : Nat} {T : TypeId} {x : Operand} {lo hi mx : Option Operand} {io : IOp} (ho : o.op = .slice T x lo hi mx)
    (hx : trSlice E T x lo hi mx = some io) {v : V} {H' : Heap} {cf : CallF} (h : iop cf C nid io t H = some (v, H')) : Ok E ρ H w a o nid v H' := by
  unfold trSlice at hx
  split at hx <;> try (cases hx; done)
  rename_i x' l' h' m' hx' hl' hh' hm'
  have hv := eval_sound hC ht hx'
  have el := evalO_pair hC ht hl'
  have eh := evalO_pair hC ht hh'
  have em := evalO_pair hC ht hm'
  split at hx <;> try (cases hx; done)
  · rename_i hT
    split at hx <;> try (cases hx; done)
    rename_i hmn
    cases hx
    simp only [iop] at h
    cases e0 : eval t x' <;> rw [e0] at h hv <;> simp at h
    rename_i s
    split at h <;> try (cases h; done)
    rename_i u hu
    simp at h; obtain ⟨rfl, rfl⟩ := h
    cases hv' : a.eval x <;> rw [hv'] at hv <;> cases hv
    unfold slcStr at hu
    split at hu <;> try (cases hu; done)
    rename_i hh bh
    split at hu <;> try (cases hu; done)
    rename_i ll bl
    cases hu
    have hb := bounds_run (E := E) (ρ := ρ) (w := w) (isSlice := false) (len := s.length) (cap := s.length) (mx := none) (cm := none) el eh (.inl ⟨rfl, rfl⟩) rfl bh bl (by simp)
    have hmx : mx = none := by
      cases mx with
      | none => rfl
      | some q =>
        simp only [trOpdO, Option.map_eq_some_iff] at hm'
        obtain ⟨_, _, rfl⟩ := hm'
        simp at hmn
    subst hmx
    refine .pure hr (c := .string ((⟨s.toArray⟩ : ByteArray).extract ll hh)) ?_ ?_
    · simp [Go.execOp, ho, hv', Go.Instr.sliceAt, Go.Instr.slice, run_underlying hT, bytes_size, hb]
    · have : (⟨s.toArray⟩ : ByteArray).extract ll hh = ⟨((s.drop ll).take (hh - ll)).toArray⟩ := by
        apply ByteArray.ext
        simp [List.take_drop]
      rw [this]; exact .str _
  · rename_i el' hT
    simp only [Option.map_eq_some_iff] at hx
    obtain ⟨n, hn, rfl⟩ := hx
    simp only [iop] at h
    split at h <;> try (cases h; done)
    rename_i u hu
    simp at h; obtain ⟨rfl, rfl⟩ := h
    have fin : ∀ (c : Option Addr) (len cap : Nat) (l h m : Nat), a.eval x = .slice c len cap → (Go.Instr.sliceBounds true len cap (lo.map a.eval) (hi.map a.eval) (mx.map a.eval)).run E.P w = .ok (l, h, m) w →
        VRel E ρ u (.slice (if m = l then c else c.map (·.add (l * n))) (h - l) (m - l)) → Ok E ρ H w a o nid u H := by
      intro c len cap l h m hv' hb hrel
      refine .pure hr ?_ hrel
      simp [Go.execOp, ho, hv', Go.Instr.sliceAt, Go.Instr.slice, run_underlying hT, hb, sizeOf_run hn]
    unfold islc at hu
    split at hu
    · rename_i e0
      rw [e0] at hv
      cases hv' : a.eval x <;> rw [hv'] at hv <;> cases hv
      obtain ⟨l, h, m, k1, k2⟩ := slcEx_sound (E := E) (ρ := ρ) (w := w) (isSlice := true) (c := none) (.inl ⟨rfl, rfl, rfl, rfl⟩) el eh em hu
      exact fin _ _ _ l h m hv' k1 k2
    · rename_i pa len c e0
      rw [e0] at hv
      cases hv' : a.eval x <;> rw [hv'] at hv <;> cases hv
      rename_i c' ca ha hc
      obtain ⟨l, h, m, k1, k2⟩ := slcEx_sound (E := E) (ρ := ρ) (w := w) (isSlice := true) (c := some ca) (.inr ⟨_, _, rfl, rfl, ha⟩) el eh em hu
      simp only [CRel] at hc
      subst hc
      exact fin _ _ _ l h m hv' k1 k2
    · rename_i pa len e' e0
      rw [e0] at hv
      cases hv' : a.eval x <;> rw [hv'] at hv <;> cases hv
      rename_i cn ca ha hc
      obtain ⟨l, h, m, k1, k2⟩ := slcUn_sound (E := E) (ρ := ρ) (w := w) (isSlice := true) ha hc el eh em hu
      exact fin _ _ _ l h m hv' k1 k2
    · cases hu
  · rename_i k el' hT
    simp only [Option.map_eq_some_iff] at hx
    obtain ⟨n, hn, rfl⟩ := hx
    simp only [iop] at h
    cases e0 : eval t x' <;> rw [e0] at h hv <;> simp at h
    rename_i pa
    split at h <;> try (cases h; done)
    rename_i u hu
    simp at h; obtain ⟨rfl, rfl⟩ := h
    cases hv' : a.eval x <;> rw [hv'] at hv <;> cases hv
    rename_i ca ha
    obtain ⟨l, h, m, k1, k2⟩ := slcEx_sound (E := E) (ρ := ρ) (w := w) (isSlice := false) (c := some ca) (.inr ⟨_, _, rfl, rfl, ha⟩) el eh em hu
    refine .pure hr ?_ k2
    simp [Go.execOp, ho, hv', Go.Instr.sliceAt, run_underlying hT, Go.Instr.sureAddr, k1, sizeOf_run hn]
    split <;> simp

/-! ### Function values, interfaces, the greatest and the least -/

theorem ok_mkf (hC : CfgOk E C) (ht : VRels E ρ t a.tmps.toList) (hr : Rel E ρ H.get H.next w) {o : Oper} {nid : Nat} {fn : Go.Fn} {p q : Array Operand} {io : IOp} (ho : o.op = .makeFunc fn p q) (hx : trOp? E (.makeFunc fn p q) = some io)
    {v : V} {H' : Heap} {cf : CallF} (h : iop cf C nid io t H = some (v, H')) : Ok E ρ H w a o nid v H' := by
  cases fn <;> simp only [trOp?] at hx <;> try (cases hx; done)
  split at hx <;> try (cases hx; done)
  rename_i g l m hg hl hm
  cases hx
  simp [iop] at h; obtain ⟨rfl, rfl⟩ := h
  refine .pure hr (by simp [Go.execOp, ho, Go.Instr.makeFunc]; rfl) ?_
  have := VRel.fn (E := E) (ρ := ρ) g _ _ _ _ _ hg (evals_sound hC ht hl) (evals_sound hC ht hm)
  have e1 : ((p.toList.map a.eval).toArray) = p.map a.eval := by apply Array.ext'; simp
  have e2 : ((q.toList.map a.eval).toArray) = q.map a.eval := by apply Array.ext'; simp
  rw [e1, e2] at this
  exact this

theorem ok_mif (hC : CfgOk E C) (ht : VRels E ρ t a.tmps.toList) (hr : Rel E ρ H.get H.next w) {o : Oper} {nid : Nat} {T : TypeId} {x : Operand} {io : IOp} (ho : o.op = .makeInterface T x) (hx : trOp? E (.makeInterface T x) = some io)
    {v : V} {H' : Heap} {cf : CallF} (h : iop cf C nid io t H = some (v, H')) : Ok E ρ H w a o nid v H' := by
  simp only [trOp?] at hx
  split at hx <;> try (cases hx; done)
  rename_i d y hnot hd hy
  cases hx
  simp [iop] at h; obtain ⟨rfl, rfl⟩ := h
  refine .pure hr (c := .iface T (a.eval x)) ?_ (.iface _ _ _ (eval_sound hC ht hy))
  simp only [Go.execOp, ho, Go.Instr.makeInterface, Sem.run_bind, run_underlying hd, Go.Result.andThen_ok]
  cases d <;> first | rfl | exact absurd rfl (hnot _)

theorem maxF_sound {k : IntKind} : ∀ {l : List V} {us : List Value} {x : Int} {v : V}, imaxF k x l = some v → VRels E ρ l us → ∃ c, (us.foldlM Go.Builtin.max2 (.int k x)).run E.P w = .ok c w ∧ VRel E ρ v c
  | [], us, x, v, h, hl => by cases hl; simp [imaxF] at h; subst h; exact ⟨_, by simp, .int _ _⟩
  | u :: l, us, x, v, h, hl => by
    cases hl
    rename_i c us hu hl
    unfold imaxF at h
    split at h
    · rename_i heq; cases heq
    · rename_i k' y r heq
      cases heq
      split at h <;> try (cases h; done)
      rename_i hk; subst hk
      cases hu
      obtain ⟨c, h1, h2⟩ := maxF_sound h hl
      exact ⟨c, by simp [Go.Builtin.max2, h1], h2⟩
    · cases h

theorem minF_sound {k : IntKind} : ∀ {l : List V} {us : List Value} {x : Int} {v : V}, iminF k x l = some v → VRels E ρ l us → ∃ c, (us.foldlM Go.Builtin.min2 (.int k x)).run E.P w = .ok c w ∧ VRel E ρ v c
  | [], us, x, v, h, hl => by cases hl; simp [iminF] at h; subst h; exact ⟨_, by simp, .int _ _⟩
  | u :: l, us, x, v, h, hl => by
    cases hl
    rename_i c us hu hl
    unfold iminF at h
    split at h
    · rename_i heq; cases heq
    · rename_i k' y r heq
      cases heq
      split at h <;> try (cases h; done)
      rename_i hk; subst hk
      cases hu
      obtain ⟨c, h1, h2⟩ := minF_sound h hl
      exact ⟨c, by simp [Go.Builtin.min2, h1], h2⟩
    · cases h

end
end Im

/- Each operation but calls, part 7: append, copy, clear, make, maps, lengths. -/
namespace Im
open Go (IntKind BinOp UnOp Program World Value Addr TypeId FuncId Code Oper Operand Op TypeDesc Sem Act run_underlying)
open Go.RowKit (Below)

section
variable {E : Env} {C : Cfg} {ρ : Ren} {H : Heap} {w : World} {t : List V} {a : Act}

theorem byteCells_rel (s : List UInt8) : Go.byteCells ⟨s.toArray⟩ = s.map fun b => Value.int .u8 b.toNat := by simp [Go.byteCells]

theorem byteV_one (s : List UInt8) : ∀ u ∈ (s.map fun b => Value.int .u8 b.toNat), u.oneCell' = true := by
  intro u hu
  obtain ⟨b, _, rfl⟩ := List.mem_map.1 hu
  rfl

/-- The type of what is appended. -/
def srcTy (E : Env) (s : Bool) (tx : TypeId) : Prop := if s then E.P.underlying tx = some .string else ∃ e', E.P.underlying tx = some (.slice e')

theorem srcTy_or {s : Bool} {tx : TypeId} (h : srcTy E s tx) : (∃ e', E.P.underlying tx = some (.slice e')) ∨ E.P.underlying tx = some .string := by
  unfold srcTy at h
  cases s
  · exact .inl (by simpa using h)
  · exact .inr (by simpa using h)

/-- What is appended, in the model's words. -/
theorem src_sound (hC : CfgOk E C) (hr : Rel E ρ H.get H.next w) {size : Nat} {tx : TypeId} {s : Bool} {y : V} {c : Value} {new : List V} {n : Nat}
    (hy : VRel E ρ y c) (h : srcCells C H s size y = some (new, n)) (hk : srcTy E s tx) :
    ∃ us, Go.Src E.P size tx c n us w ∧ VRels E ρ new us ∧ new.length = n * size := by
  unfold srcCells at h
  split at h
  · cases h
    cases hy
    obtain ⟨e', hk⟩ : ∃ e', E.P.underlying tx = some (.slice e') := by simpa [srcTy] using hk
    exact ⟨[], Go.Src.ofNil w hk 0, .nil, by simp⟩
  · rename_i pa m cap
    split at h <;> try (cases h; done)
    rename_i l hl
    split at h <;> try (cases h; done)
    rename_i hone
    cases h
    cases hy
    rename_i cap' ca ha hc
    obtain ⟨e', hk⟩ : ∃ e', E.P.underlying tx = some (.slice e') := by simpa [srcTy] using hk
    obtain ⟨us, k1, k2, k3⟩ := loadN_sound hC hr ha _ 0 _ hl
    exact ⟨us, Go.Src.ofSlice w hk _ n _ us k2 (fun j u hj => by simpa using k3 j u hj) (ones k1 hone), k1, by rw [k1.length, k2]⟩
  · rename_i s
    split at h <;> try (cases h; done)
    rename_i h1
    cases h
    cases hy
    subst h1
    have hk : E.P.underlying tx = some .string := by simpa [srcTy] using hk
    have := Go.Src.ofString (P := E.P) w hk ⟨s.toArray⟩
    rw [bytes_size, byteCells_rel] at this
    exact ⟨_, this, bytesVals s ρ, by simp⟩
  · cases h

theorem zeroCells_size (z : Array Value) (n : Nat) : (Go.Builtin.zeroCells z n).size = n * z.size := by simp [Go.Builtin.zeroCells]

/-- What an operation leaves, from a heap of its own. -/
def OkAt (E : Env) (ρ : Ren) (H1 : Heap) (w : World) (a : Act) (o : Oper) (nid : Nat) (v : V) (H' : Heap) : Prop := Ok E ρ H1 w a o nid v H'

theorem zero_of {e : TypeId} {i : Go.TypeInfo} {size : Nat} (hi : E.P.info? e = some i) (hz : (zeroV E.P e).map (·.cells.length) = some size) : ∃ z, i.zero = some z ∧ z.cells.size = size := by
  simp only [Option.map_eq_some_iff] at hz
  obtain ⟨v, hv, hl⟩ := hz
  unfold zeroV at hv
  rw [hi] at hv
  split at hv <;> try (cases hv; done)
  rename_i c hc
  have hc' := Option.some.inj hc
  subst hc'
  split at hv <;> try (cases hv; done)
  rename_i z hz
  have hr := (trV_rel (E := E) (ρ := fun _ => none) hv).cells.length
  exact ⟨z, hz, by simp at hr; omega⟩

/-- The arm of append that makes a new array. -/
theorem app_grow {o : Oper} {nid : Nat} {H1 : Heap} (hr : Rel E ρ H1.get H1.next w) (hn : ρ nid = none) {T tx e : TypeId} {i : Go.TypeInfo} {size : Nat} (hT : E.P.underlying T = some (.slice e)) (hi : E.P.info? e = some i)
    (hz : (zeroV E.P e).map (·.cells.length) = some size) (hsz : i.size = size) (hb0 : i.bytes ≤ 1024) {x y : Operand} (ho : o.op = .call { callee := .builtin .append, args := #[x, y], argTypes := #[T, tx] })
    {base : Option Addr} {sLen sCap : Nat} (hx : a.eval x = .slice base sLen sCap)
    {olds : List Value} {old : List V} (hold : (Go.Builtin.firstCells i.size sLen (.slice base sLen sCap)).run E.P w.drew = .ok olds.toArray w.drew) (hor : VRels E ρ old olds) (holl : old.length = sLen * size)
    {news : List Value} {new : List V} {n : Nat} (hs : Go.Src E.P i.size tx (a.eval y) n news w) (hnr : VRels E ρ new news) (hnl : new.length = n * size) (hg : sCap < sLen + n) (hlim : sLen + n ≤ 68719476736) :
    Ok E ρ H1 w a o nid (.slice ⟨.own, nid, 0⟩ (sLen + n) (.un size)) (H1.put nid (.cells (E.tm e) (old ++ new))) := by
  obtain ⟨z, hz, hzs⟩ := zero_of hi hz
  have hfit := Go.growslice_fits (need := sLen + n) (old := sCap) (bytes := i.bytes) hg (Nat.le_trans (Nat.mul_le_mul hlim hb0) (by decide))
  have hrun := Go.run_append_grow_src (P := E.P) w T tx o.type e i z hT hi hz base sLen sCap olds hold _ n news hs hg (by omega) hfit
  have hcap := Go.grownCap_ge w (sLen + n) sCap e
  generalize Go.grownCap w (sLen + n) sCap e = gc at hrun hcap
  let cs : Array Value := (olds ++ news).toArray ++ Go.Builtin.zeroCells z.cells (gc - (sLen + n))
  have hol := hor.length
  have hnel := hnr.length
  have hcs : cs.size = gc * size := by
    simp only [cs, Array.size_append, zeroCells_size, hzs, List.size_toArray, List.length_append]
    rw [← hol, ← hnel, holl, hnl, ← Nat.add_mul, ← Nat.add_mul]
    congr 1; omega
  have hle : (sLen + n) * size ≤ gc * size := Nat.mul_le_mul_right _ hcap
  have hx1 := Ren.upd_ext ρ nid (w.heap.size, 0, cs.size) hn
  refine ⟨.slice (some ⟨w.heap.size, 0, none⟩) (sLen + n) gc, { w with heap := w.heap.push (.cells cs e (0, 0)), drawn := w.drawn + 1 }, ρ.upd nid (w.heap.size, 0, cs.size), .inl ?_,
    .slice _ _ _ _ _ ⟨_, _, _, Ren.upd_self _ _ _, by simp⟩ ⟨rfl, _, _, _, Ren.upd_self _ _ _, by simp [hcs], hcap⟩, ?_⟩
  · simp [Go.execOp, ho, Go.resolve, Go.invoke, Go.builtin, hx, hrun]; rfl
  · rw [Heap.put_get]
    refine Post.new hr nid cs.size (.cells (E.tm e) (old ++ new)) (.cells cs e (0, 0)) hn (Heap.id_lt_put _ _ _) (Heap.next_le_put _ _ _)
      ⟨cs, e, 0, 0, rfl, rfl, ?_, by simp, .inl rfl, ?_⟩ _
    · rw [hcs, List.length_append, holl, hnl, ← Nat.add_mul]; exact hle
    · refine CellsRel.of_rels ((hor.append hnr).ext hx1) cs ?_
      intro j u hu
      simp only [cs]
      rw [Array.getElem?_append_left]
      · simpa using hu
      · rw [List.getElem?_eq_some_iff] at hu; obtain ⟨h, _⟩ := hu; simpa using h

/-- The old cells, in the model's words. -/
theorem old_sound (hC : CfgOk E C) {H1 : Heap} (hr : Rel E ρ H.get H.next w) {pa : PA} {c : Addr} (ha : ARel E ρ pa c) {len cap size : Nat} {old : List V} (h : H.loadN C pa 0 (len * size) = some old) :
    ∃ olds, (Go.Builtin.firstCells size len (.slice (some c) len cap)).run E.P w.drew = .ok olds.toArray w.drew ∧ VRels E ρ old olds ∧ old.length = len * size ∧ ∀ j u, olds[j]? = some u → w.cell? (c.add j) = some u := by
  obtain ⟨us, k1, k2, k3⟩ := loadN_sound hC hr ha _ 0 _ h
  refine ⟨us, Go.run_firstCells_some w.drew size len c len cap us k2 (fun j u hj => by simpa using k3 j u hj), k1, by rw [k1.length, k2], fun j u hj => by simpa using k3 j u hj⟩

/-- The arm of append that writes into the room that is there: the block goes on under the new number. -/
theorem app_room {o : Oper} {nid : Nat} (hr : Rel E ρ H.get H.next w) (hn : ρ nid = none) {T tx e : TypeId} {i : Go.TypeInfo} {size : Nat} (hT : E.P.underlying T = some (.slice e)) (hi : E.P.info? e = some i)
    (hsz : i.size = size) {x y : Operand} (ho : o.op = .call { callee := .builtin .append, args := #[x, y], argTypes := #[T, tx] }) {ca : Addr} {len cn : Nat} (hv' : a.eval x = .slice (some ca) len cn)
    {pa : PA} {ty' : Nat} {lold : List V} (hobj : H.get pa.b = some (.cells ty' lold)) (hty : ty' = E.tm e) (ha : ARel E ρ pa ca) (hc : CRel ρ pa len (.un size) cn)
    {olds : List Value} {old : List V} (k2 : VRels E ρ old olds) (k3 : old.length = len * size) (k4 : ∀ j u, olds[j]? = some u → w.cell? (ca.add j) = some u)
    {news : List Value} {new : List V} {n : Nat} (hs : Go.Src E.P i.size tx (a.eval y) n news w) (hnr : VRels E ρ new news) (hnl : new.length = n * size) (hroom : len + n ≤ cn) :
    Ok E ρ H w a o nid (.slice ⟨.own, nid, 0⟩ (len + n) (.un size)) ((H.del pa.b).put nid (.cells (E.tm e) (old ++ new))) := by
  obtain ⟨hown, b, off, tot, hρ, htot, hle⟩ := hc
  obtain ⟨b', x0, t0, e1, hN, cs, el, lo, hi', e2, e3, e4, e5, e6z, e7⟩ := hr.obj _ _ hobj
  have e6 : ∀ i, x0 ≤ i → i < x0 + t0 → ¬(lo ≤ i ∧ i < hi') := fun i _ _ => by omega
  rw [hρ] at e1; cases e1
  have hca : ca = ⟨b, off + pa.off, none⟩ := by
    unfold ARel at ha; rw [hown] at ha; simp only at ha
    obtain ⟨b1, o1, t1, q1, q2⟩ := ha
    rw [hρ] at q1; cases q1; exact q2
  subst hca
  have hnl' := hs.newsLen
  rw [hsz] at hnl'
  have hmul : len * size + n * size ≤ cn * size := by rw [← Nat.add_mul]; exact Nat.mul_le_mul_right _ hroom
  have hrun := Go.run_append_room_src (P := E.P) w T tx o.type e i hT hi b (off + pa.off) len cn _ n news hs hroom
    (by intro j hj; rw [hsz]; simp only [World.cell?, e2]; rw [Option.isSome_iff_exists]; exact ⟨_, by simp; exact Array.getElem?_eq_getElem (by omega)⟩)
    (by intro j hj; rw [hsz]; simp only [World.frozen?, e2]
        have := e6 (off + pa.off + len * size + j) (by omega) (by omega)
        simp only [Bool.and_eq_false_iff, decide_eq_false_iff_not]
        omega)
  rw [hsz] at hrun
  obtain ⟨q1, q2, q3, q4, q5, q6⟩ := heap_setCells b el (lo, hi') news (off + pa.off + len * size) cs w e2
  have hx1 := Ren.upd_ext ρ nid (b, off + pa.off, cn * size) hn
  have hR : (Go.execOp a.eval o).run E.P w = .ok (.value (.slice (some ⟨b, off + pa.off, none⟩) (len + n) cn)) (w.setCells b (off + pa.off + len * size) news) := by
    simp only [Go.execOp, ho, Go.resolve, Sem.run_bind, Sem.run_pure, Go.Result.andThen_ok, Go.invoke, Go.builtin, List.map_toArray, List.map_cons, List.map_nil, hv', hrun]
  refine ⟨.slice (some ⟨b, off + pa.off, none⟩) (len + n) cn, w.setCells b (off + pa.off + len * size) news, ρ.upd nid (b, off + pa.off, cn * size), .inl hR,
    .slice _ _ _ _ _ ⟨_, _, _, Ren.upd_self _ _ _, by simp⟩ ⟨rfl, _, _, _, Ren.upd_self _ _ _, by simp, hroom⟩, ?_⟩
  rw [Heap.put_get, Heap.del_get]
  have hol := k2.length
  have hnel := hnr.length
  refine Post.rename hr hobj hρ nid hn (Heap.id_lt_put _ _ _) (Heap.next_le_put (H.del pa.b) _ _) (.cells (E.tm e) (old ++ new)) _ _ (.cells (laid cs (off + pa.off + len * size) news) el (lo, hi')) ?_ _ ⟨q4, q5, q6⟩ q3 q1 q2
  refine ⟨_, el, lo, hi', rfl, by rw [e3]; exact hty, by rw [List.length_append, k3, hnl]; exact hmul, by rw [laid_size]; omega, by rw [laid_size]; exact e6z, ?_⟩
  intro j v hv
  rw [laid_get _ _ _ _ (by omega)]
  by_cases hj : j < old.length
  · rw [List.getElem?_append_left hj] at hv
    rw [if_neg (by omega)]
    obtain ⟨u, hu, hur⟩ := k2.get _ _ hv
    have := k4 j u hu
    rw [addr_add] at this
    simp only [World.cell?, e2] at this
    exact ⟨u, by simpa using this, hur.ext hx1⟩
  · rw [List.getElem?_append_right (by omega)] at hv
    have hjl : j - old.length < new.length := by
      rw [List.getElem?_eq_some_iff] at hv; obtain ⟨q, _⟩ := hv; exact q
    rw [if_pos (by omega)]
    obtain ⟨u, hu, hur⟩ := hnr.get _ _ hv
    exact ⟨u, by rw [← hu]; congr 1; omega, hur.ext hx1⟩

theorem ok_app (hC : CfgOk E C) (ht : VRels E ρ t a.tmps.toList) (hr : Rel E ρ H.get H.next w) {o : Oper} {nid : Nat} (hn : ρ nid = none) {T tx e : TypeId} {i : Go.TypeInfo} {size : Nat} (hT : E.P.underlying T = some (.slice e)) (hi : E.P.info? e = some i)
    (hz : (zeroV E.P e).map (·.cells.length) = some size) (hsz : i.size = size) (hs0 : 0 < size) (hb0 : i.bytes ≤ 1024) {x y : Operand} {x' y' : Opd} (ho : o.op = .call { callee := .builtin .append, args := #[x, y], argTypes := #[T, tx] })
    (hx : trOpd E x = some x') (hy : trOpd E y = some y') {s : Bool} (hst : srcTy E s tx)
    {v : V} {H' : Heap} {cf : CallF} (h : iop cf C nid (.app s (E.tm e) size x' y') t H = some (v, H')) : Ok E ρ H w a o nid v H' := by
  have hv := eval_sound hC ht hx
  have hw := eval_sound hC ht hy
  simp only [iop] at h
  unfold iapp at h
  split at h <;> try (cases h; done)
  rename_i new n hsrc
  have hk := srcTy_or hst
  obtain ⟨news, hs, hnr, hnl⟩ := src_sound (size := size) hC hr hw hsrc hst
  rw [← hsz] at hs
  split at h
  · rename_i e0
    rw [e0] at hv
    cases hv' : a.eval x <;> rw [hv'] at hv <;> cases hv
    split at h
    · rename_i hn0
      subst hn0
      cases h
      have hnil : news = [] := by
        have := hs.newsLen; simp at this; exact this
      refine .pure hr (c := .slice none 0 0) ?_ .nils
      have hf : (Go.Builtin.firstCells i.size 0 (a.eval y)).run E.P w = .ok #[] w := by have := hs.cells; rw [hnil] at this; simpa using this
      rcases hk with ⟨e', hk⟩ | hk <;> simp [Go.execOp, ho, Go.resolve, Go.invoke, Go.builtin, hv', Go.Builtin.append_, run_underlying hT, run_underlying hk, Go.sizeOf, Go.typeInfo, hi, hs.len, hf]
    · rename_i hn0
      split at h <;> try (cases h; done)
      rename_i hlim
      cases h
      have := app_grow (E := E) (a := a) hr hn hT hi hz hsz hb0 ho hv' (olds := []) (old := []) (Go.run_firstCells_none w.drew i.size 0 0 0) .nil (by simp) hs hnr hnl (by omega) (by omega)
      simpa using this
  · rename_i pa len c e0
    rw [e0] at hv
    cases hv' : a.eval x <;> rw [hv'] at hv <;> cases hv
    rename_i c0 ca ha hc
    simp only [CRel] at hc
    subst hc
    split at h
    · rename_i hroom
      split at h <;> try (cases h; done)
      rename_i H2 hst
      cases h
      obtain ⟨w', hrun, hp⟩ := storeN_sound (S := (· = nid)) hr (ha.add (len * size)) hnr hst
      refine ⟨.slice (some ca) (len + n) c0, w', ρ, .inl ?_, .slice _ _ _ _ _ ha rfl, hp⟩
      have hl : ∀ w, (Go.Builtin.lenOf (a.eval y)).run E.P w = .ok n w := hs.len
      have hcl : (Go.Builtin.firstCells size n (a.eval y)).run E.P w = .ok news.toArray w := by rw [← hsz]; exact hs.cells
      rcases hk with ⟨e', hk⟩ | hk <;>
        simp [Go.execOp, ho, Go.resolve, Go.invoke, Go.builtin, hv', Go.Builtin.append_, run_underlying hT, run_underlying hk, Go.sizeOf, Go.typeInfo, hi, hl, hroom, hcl, hsz, hrun]
    · rename_i hroom
      split at h <;> try (cases h; done)
      rename_i hlim
      split at h <;> try (cases h; done)
      rename_i old hold
      cases h
      obtain ⟨olds, k1, k2, k3, _⟩ := old_sound (H1 := H) (cap := c0) hC hr ha hold
      rw [← hsz] at k1
      exact app_grow (E := E) (a := a) hr hn hT hi hz hsz hb0 ho hv' k1 k2 k3 hs hnr hnl (by omega) (by omega)
  · rename_i pa len e' e0
    rw [e0] at hv
    cases hv' : a.eval x <;> rw [hv'] at hv <;> cases hv
    rename_i cn ca ha hc
    have hc0 := hc
    obtain ⟨hown, b, off, tot, hρ, htot, hle⟩ := hc
    split at h
    · rename_i hn0
      subst hn0
      cases h
      have hnil : news = [] := by
        have := hs.newsLen; simp at this; exact this
      rw [e0]
      refine .pure hr (c := .slice (some ca) len cn) ?_ (.slice _ _ _ _ _ ha hc0)
      have hf : (Go.Builtin.firstCells i.size 0 (a.eval y)).run E.P w = .ok #[] w := by have := hs.cells; rw [hnil] at this; simpa using this
      rcases hk with ⟨e', hk⟩ | hk <;> simp [Go.execOp, ho, Go.resolve, Go.invoke, Go.builtin, hv', Go.Builtin.append_, run_underlying hT, run_underlying hk, Go.sizeOf, Go.typeInfo, hi, hs.len, hf, hle, Go.storeCells]
    · rename_i hn0
      split at h <;> try (cases h; done)
      rename_i hcond
      have he : size = e' := by
        rcases Nat.decEq size e' with k | k
        · exact absurd (Or.inl k) hcond
        · exact k
      subst he
      have hlim : len + n ≤ 68719476736 := by
        rcases Nat.lt_or_ge 68719476736 (len + n) with k | k
        · exact absurd (Or.inr k) hcond
        · exact k
      split at h <;> try (cases h; done)
      rename_i ty' lold old hreg hobj hold
      split at h <;> try (cases h; done)
      rename_i hty
      cases h
      obtain ⟨olds, k1, k2, k3, k4⟩ := old_sound (H1 := H) (cap := cn) hC hr ha hold
      rw [← hsz] at k1
      have hdrop : Post E (· = nid) ρ H.get H.next w ρ (H.del pa.b).get (H.del pa.b).next w := by
        rw [Heap.del_get]; exact Post.drop hr pa.b
      by_cases hroom : len + n ≤ cn
      · exact app_room hr hn hT hi hsz ho hv' hobj (Decidable.not_not.1 hty) ha hc0 k2 k3 k4 hs hnr hnl hroom
      · obtain ⟨c, w', ρ', h1, h2, h3⟩ := app_grow (E := E) (a := a) hdrop.rel hn hT hi hz hsz hb0 ho hv' k1 k2 k3 hs hnr hnl (by omega) hlim
        exact ⟨c, w', ρ', h1, h2, hdrop.trans h3⟩
  · cases h

end
end Im

