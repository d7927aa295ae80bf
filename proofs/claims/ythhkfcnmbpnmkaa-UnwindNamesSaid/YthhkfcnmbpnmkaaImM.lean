/- Each operation but calls, part 8: copy, clear, make, maps, lengths. -/
import Derived.Test.YthhkfcnmbpnmkaaImL
namespace Im
open Go (IntKind BinOp UnOp Program World Value Addr TypeId FuncId Code Oper Operand Op TypeDesc Sem Act run_underlying)
open Go.RowKit (Below)

section
variable {E : Env} {C : Cfg} {ρ : Ren} {H : Heap} {w : World} {t : List V} {a : Act}

theorem MapRel.length : ∀ {l : List (V × V)} {es : List Go.MapEntry}, MapRel E ρ l es → l.length = es.length
  | _, _, .nil => rfl
  | _, _, .cons _ _ _ _ _ _ _ h => by simp [h.length]

/-- A map in the world. -/
theorem map_get (hr : Rel E ρ H.get H.next w) {id : Nat} {es : List (V × V)} (hg : H.get id = some (.map es)) {b o tot : Nat} (hρ : ρ id = some (b, o, tot)) :
    ∃ cs clock, w.heap[b]? = some (.map cs clock) ∧ MapRel E ρ es cs.toList ∧ (Go.getObj b).run E.P w = .ok (.map cs clock) w := by
  obtain ⟨b', x', t', h1, h2, cs, clock, h3, h4⟩ := hr.obj _ _ hg
  rw [hρ] at h1; cases h1
  exact ⟨cs, clock, h3, h4, by simp [Go.getObj, Sem.run, h3]⟩

theorem ok_len (hC : CfgOk E C) (ht : VRels E ρ t a.tmps.toList) (hr : Rel E ρ H.get H.next w) {o : Oper} {nid : Nat} {T : TypeId} {x : Operand} {io : IOp} (ho : o.op = .call { callee := .builtin .len, args := #[x], argTypes := #[T] })
    (hx : trBuiltin E .len [T] [x] = some io) {v : V} {H' : Heap} {cf : CallF} (h : iop cf C nid io t H = some (v, H')) : Ok E ρ H w a o nid v H' := by
  simp only [trBuiltin] at hx
  have fin : ∀ (n : Int), (Go.Builtin.len_ #[T] o.type #[a.eval x]).run E.P w = .ok (.int .i64 n) w → Ok E ρ H w a o nid (i64 n) H := by
    intro n hn
    exact .pure hr (by simp only [Go.execOp, ho, Go.resolve, Sem.run_bind, Sem.run_pure, Go.Result.andThen_ok, Go.invoke, Go.builtin, List.map_toArray, List.map_cons, List.map_nil, hn]) (.int _ _)
  split at hx <;> try (cases hx; done)
  · rename_i y hT hy
    cases hx
    have hv := eval_sound hC ht hy
    simp only [iop] at h
    cases e0 : eval t y <;> rw [e0] at h hv <;> simp at h
    obtain ⟨rfl, rfl⟩ := h
    cases hv' : a.eval x <;> rw [hv'] at hv <;> cases hv
    exact fin _ (by simp [hv', Go.Builtin.len_, run_underlying hT, bytes_size, Go.goInt])
  · rename_i e y hT hy
    cases hx
    have hv := eval_sound hC ht hy
    simp only [iop] at h
    cases e0 : eval t y <;> rw [e0] at h hv <;> simp at h
    all_goals
      obtain ⟨rfl, rfl⟩ := h
      cases hv' : a.eval x <;> rw [hv'] at hv <;> cases hv
      exact fin _ (by simp [hv', Go.Builtin.len_, run_underlying hT, Go.goInt])
  · rename_i n e y hT hy
    cases hx
    simp [iop] at h
    obtain ⟨rfl, rfl⟩ := h
    exact fin _ (by simp [Go.Builtin.len_, run_underlying hT, Go.goInt])
  · rename_i k e y hT hy
    cases hx
    have hv := eval_sound hC ht hy
    simp only [iop] at h
    cases e0 : eval t y <;> rw [e0] at h hv <;> simp at h
    · obtain ⟨rfl, rfl⟩ := h
      cases hv' : a.eval x <;> rw [hv'] at hv <;> cases hv
      exact fin _ (by simp [hv', Go.Builtin.len_, run_underlying hT, Go.goInt])
    · split at h <;> try (cases h; done)
      rename_i es hg
      simp at h; obtain ⟨rfl, rfl⟩ := h
      cases hv' : a.eval x <;> rw [hv'] at hv <;> cases hv
      rename_i b o' tot hρ
      obtain ⟨cs, clock, h3, h4, h5⟩ := map_get hr hg hρ
      have hl := h4.length
      simp at hl
      exact fin _ (by simp [hv', Go.Builtin.len_, run_underlying hT, Go.goInt, h5, hl])
  · rename_i p y hT hy
    split at hx <;> try (cases hx; done)
    rename_i n e hp
    cases hx
    simp [iop] at h
    obtain ⟨rfl, rfl⟩ := h
    exact fin _ (by simp [Go.Builtin.len_, run_underlying hT, run_underlying hp, Go.goInt])

theorem take_rels {l : List V} {us : List Value} (h : VRels E ρ l us) (n : Nat) : VRels E ρ (l.take n) (us.take n) := h.take n

theorem ok_cpy1 (hC : CfgOk E C) (ht : VRels E ρ t a.tmps.toList) (hr : Rel E ρ H.get H.next w) {o : Oper} {nid : Nat} {T T' e : TypeId} {x y : Operand} {x' y' : Opd} {s : Bool} {size : Nat} (ho : o.op = .call { callee := .builtin .copy, args := #[x, y], argTypes := #[T, T'] })
    (hT : E.P.underlying T = some (.slice e)) (hsz : szOf E.P e = some size) (hx' : trOpd E x = some x') (hy' : trOpd E y = some y') {v : V} {H' : Heap} {cf : CallF} (h : iop cf C nid (.cpy s size x' y') t H = some (v, H')) : Ok E ρ H w a o nid v H' := by
  have hv := eval_sound hC ht hx'
  have hw := eval_sound hC ht hy'
  simp only [iop] at h
  split at h <;> try (cases h; done)
  rename_i new n hsrc
  -- what is copied, in the model's words
  have hcells : ∀ k, k ≤ n → ∃ us, (Go.Builtin.lenOf (a.eval y)).run E.P w = .ok n w ∧ (Go.Builtin.firstCells size k (a.eval y)).run E.P w = .ok us.toArray w ∧ VRels E ρ (new.take (k * size)) us := by
    intro k hk
    unfold srcCells at hsrc
    split at hsrc
    · rename_i e0
      cases hsrc
      rw [e0] at hw
      cases hw' : a.eval y <;> rw [hw'] at hw <;> cases hw
      exact ⟨[], by simp [Go.Builtin.lenOf], by simp [Go.Builtin.firstCells], by simpa using VRels.nil⟩
    · rename_i pa m cap e0
      split at hsrc <;> try (cases hsrc; done)
      rename_i l hl
      split at hsrc <;> try (cases hsrc; done)
      cases hsrc
      rw [e0] at hw
      cases hw' : a.eval y <;> rw [hw'] at hw <;> cases hw
      rename_i c1 ca ha hc
      obtain ⟨us, k1, k2, k3⟩ := loadN_sound hC hr ha _ 0 _ hl
      have hmul : k * size ≤ n * size := Nat.mul_le_mul_right _ hk
      refine ⟨us.take (k * size), by simp [Go.Builtin.lenOf], ?_, k1.take _⟩
      have hload := Go.run_loadCells_list (P := E.P) w ca (us.take (k * size)) (fun j u hj => by
        rw [List.getElem?_take] at hj
        split at hj <;> try (cases hj; done)
        simpa using k3 j u hj)
      rw [List.length_take, k2, Nat.min_eq_left hmul] at hload
      simp [Go.Builtin.firstCells, hload]
    · rename_i s e0
      split at hsrc <;> try (cases hsrc; done)
      rename_i h1
      subst h1
      cases hsrc
      rw [e0] at hw
      cases hw' : a.eval y <;> rw [hw'] at hw <;> cases hw
      refine ⟨(s.take k).map fun b => Value.int .u8 b.toNat, by simp [Go.Builtin.lenOf, bytes_size], ?_, ?_⟩
      · simp only [Go.Builtin.firstCells, Sem.run_pure]
        congr 1
        apply Array.ext'
        simp
      · have := bytesVals (E := E) (s.take k) ρ
        rw [Nat.mul_one, ← List.map_take]; exact this
    · cases hsrc
  cases e0 : eval t x' <;> rw [e0] at h hv <;> simp at h
  · obtain ⟨rfl, rfl⟩ := h
    cases hv' : a.eval x <;> rw [hv'] at hv <;> cases hv
    obtain ⟨us, h1, h2, h3⟩ := hcells 0 (by omega)
    refine .pure hr (c := .int .i64 0) ?_ (.int _ _)
    simp [Go.execOp, ho, Go.resolve, Go.invoke, Go.builtin, hv', Go.Builtin.copy_, run_underlying hT, h1, h2, sizeOf_run hsz, Go.goInt]
  · rename_i pa len cap
    split at h <;> try (cases h; done)
    rename_i H2 hst
    simp at h; obtain ⟨rfl, rfl⟩ := h
    cases hv' : a.eval x <;> rw [hv'] at hv <;> cases hv
    rename_i c1 ca ha hc
    obtain ⟨us, h1, h2, h3⟩ := hcells (min n len) (by omega)
    obtain ⟨w', hrun, hp⟩ := storeN_sound (S := (· = nid)) hr ha h3 hst
    refine ⟨.int .i64 (min n len : Nat), w', ρ, .inl ?_, .int _ _, hp⟩
    have hmin : Nat.min n len = min n len := rfl
    simp [Go.execOp, ho, Go.resolve, Go.invoke, Go.builtin, hv', Go.Builtin.copy_, run_underlying hT, h1, hmin, h2, sizeOf_run hsz, hrun, Go.goInt]

theorem ok_cpy (hC : CfgOk E C) (ht : VRels E ρ t a.tmps.toList) (hr : Rel E ρ H.get H.next w) {o : Oper} {nid : Nat} {T T' : TypeId} {x y : Operand} {io : IOp} (ho : o.op = .call { callee := .builtin .copy, args := #[x, y], argTypes := #[T, T'] })
    (hx : trBuiltin E .copy [T, T'] [x, y] = some io) {v : V} {H' : Heap} {cf : CallF} (h : iop cf C nid io t H = some (v, H')) : Ok E ρ H w a o nid v H' := by
  simp only [trBuiltin] at hx
  split at hx <;> try (cases hx; done)
  all_goals
    rename_i e x' y' hT _ hx' hy'
    simp only [Option.map_eq_some_iff] at hx
    obtain ⟨size, hsz, rfl⟩ := hx
    exact ok_cpy1 hC ht hr ho hT hsz hx' hy' h


theorem zeroCells_rel {z : List V} {c : Array Value} (h : VRels E ρ z c.toList) (hz : 0 < z.length) (n : Nat) : VRels E ρ (repl n z) (Go.Builtin.zeroCells c n).toList := by
  have hl : z.length = c.size := by simpa using h.length
  have := zeros_rel h hz n
  rw [hl] at this
  exact this

theorem ok_clr (hC : CfgOk E C) (ht : VRels E ρ t a.tmps.toList) (hr : Rel E ρ H.get H.next w) {o : Oper} {nid : Nat} {T : TypeId} {x : Operand} {io : IOp} (ho : o.op = .call { callee := .builtin .clear, args := #[x], argTypes := #[T] })
    (hx : trBuiltin E .clear [T] [x] = some io) {v : V} {H' : Heap} {cf : CallF} (h : iop cf C nid io t H = some (v, H')) : Ok E ρ H w a o nid v H' := by
  simp only [trBuiltin] at hx
  split at hx <;> try (cases hx; done)
  rename_i e x' hT hx'
  split at hx <;> try (cases hx; done)
  rename_i z hz
  split at hx <;> try (cases hx; done)
  rename_i hz0
  cases hx
  have hv := eval_sound hC ht hx'
  obtain ⟨c, hc, hzv⟩ := zeroV_run hz
  simp only [iop] at h
  cases e0 : eval t x' <;> rw [e0] at h hv <;> simp at h
  · obtain ⟨rfl, rfl⟩ := h
    cases hv' : a.eval x <;> rw [hv'] at hv <;> cases hv
    exact .pure hr (c := .tuple #[]) (by simp [Go.execOp, ho, Go.resolve, Go.invoke, Go.builtin, hv', Go.Builtin.clear_, run_underlying hT]) .undef
  · rename_i pa len cap
    split at h <;> try (cases h; done)
    rename_i H2 hst
    simp at h; obtain ⟨rfl, rfl⟩ := h
    cases hv' : a.eval x <;> rw [hv'] at hv <;> cases hv
    rename_i c1 ca ha hcap
    have hzr := zeroCells_rel (hzv ρ).cells hz0 len
    obtain ⟨w', hrun, hp⟩ := storeN_sound (S := (· = nid)) hr ha hzr hst
    cases len with
    | zero =>
      have hw : w' = w := by
        have hn : Go.Builtin.zeroCells c.cells 0 = #[] := by simp [Go.Builtin.zeroCells]
        rw [hn] at hrun
        simp [Go.storeCells] at hrun
        exact hrun.symm
      subst hw
      exact ⟨.tuple #[], w', ρ, .inl (by simp [Go.execOp, ho, Go.resolve, Go.invoke, Go.builtin, hv', Go.Builtin.clear_, run_underlying hT]), .undef, hp⟩
    | succ k =>
      exact ⟨.tuple #[], w', ρ, .inl (by simp [Go.execOp, ho, Go.resolve, Go.invoke, Go.builtin, hv', Go.Builtin.clear_, run_underlying hT, hc, hrun]), .undef, hp⟩

theorem ok_mm (hC : CfgOk E C) (ht : VRels E ρ t a.tmps.toList) (hr : Rel E ρ H.get H.next w) {o : Oper} {nid : Nat} {b : Go.Builtin} (hb : b = .max ∨ b = .min) {ts : Array TypeId} {xs : Array Operand} {ys : List Opd} (ho : o.op = .call { callee := .builtin b, args := xs, argTypes := ts })
    (hx : trOpds E xs.toList = some ys) {v : V} {H' : Heap} {cf : CallF} (h : iop cf C nid (if b = .max then .mmax ys else .mmin ys) t H = some (v, H')) : Ok E ρ H w a o nid v H' := by
  have hv := evals_sound hC ht hx
  rcases hb with rfl | rfl
  · simp only [if_true, iop] at h
    split at h <;> try (cases h; done)
    rename_i u hu
    simp at h; obtain ⟨rfl, rfl⟩ := h
    unfold imax at hu
    split at hu <;> try (cases hu; done)
    rename_i k x r e0
    rw [e0] at hv
    generalize e1 : xs.toList.map a.eval = us at hv
    cases hv
    rename_i c us hc hr'
    cases hc
    obtain ⟨c, h1, h2⟩ := maxF_sound (w := w) hu hr'
    have e2 : (xs.map a.eval).toList = .int k x :: us := by rw [← e1]; simp
    exact .pure hr (c := c) (by simp only [Go.execOp, ho, Go.resolve, Sem.run_bind, Sem.run_pure, Go.Result.andThen_ok, Go.invoke, Go.builtin, Go.Builtin.max_, e2, h1]) h2
  · simp only [reduceCtorEq, if_false, iop] at h
    split at h <;> try (cases h; done)
    rename_i u hu
    simp at h; obtain ⟨rfl, rfl⟩ := h
    unfold imin at hu
    split at hu <;> try (cases hu; done)
    rename_i k x r e0
    rw [e0] at hv
    generalize e1 : xs.toList.map a.eval = us at hv
    cases hv
    rename_i c us hc hr'
    cases hc
    obtain ⟨c, h1, h2⟩ := minF_sound (w := w) hu hr'
    have e2 : (xs.map a.eval).toList = .int k x :: us := by rw [← e1]; simp
    exact .pure hr (c := c) (by simp only [Go.execOp, ho, Go.resolve, Sem.run_bind, Sem.run_pure, Go.Result.andThen_ok, Go.invoke, Go.builtin, Go.Builtin.min_, e2, h1]) h2

theorem ok_mks (hC : CfgOk E C) (ht : VRels E ρ t a.tmps.toList) (hr : Rel E ρ H.get H.next w) {o : Oper} {nid : Nat} (hn : ρ nid = none) {T : TypeId} {x y : Operand} {io : IOp} (ho : o.op = .makeSlice T x y) (hx : trOp? E (.makeSlice T x y) = some io)
    {v : V} {H' : Heap} {cf : CallF} (h : iop cf C nid io t H = some (v, H')) : Ok E ρ H w a o nid v H' := by
  simp only [trOp?] at hx
  split at hx <;> try (cases hx; done)
  rename_i e x' y' hT hx' hy'
  split at hx <;> try (cases hx; done)
  rename_i n z k hs hz hk
  split at hx <;> try (cases hx; done)
  rename_i hcond
  obtain ⟨hzl, hn0, hk1⟩ := hcond
  cases hx
  have hv := eval_sound hC ht hx'
  have hw := eval_sound hC ht hy'
  simp only [iop] at h
  cases e0 : eval t x' <;> rw [e0] at h hv <;> try (simp at h; done)
  cases e1 : eval t y' <;> rw [e1] at h hw <;> simp at h
  rename_i k1 l k2 c
  obtain ⟨⟨hl0, hlc, hcm⟩, rfl, rfl⟩ := h
  cases hv' : a.eval x <;> rw [hv'] at hv <;> cases hv
  cases hw' : a.eval y <;> rw [hw'] at hw <;> cases hw
  obtain ⟨zc, hzc, hzv⟩ := zeroV_run hz
  simp only [Option.map_eq_some_iff] at hk
  obtain ⟨i, hi, rfl⟩ := hk
  have hzr := zeros_rel (hzv ρ).cells (by omega) c.toNat
  rw [hzl] at hzr
  let cs : Array Value := (Array.range (c.toNat * n)).map fun i => zc.cells[i % zc.cells.size]!
  have hcs : cs.size = c.toNat * n := by simp [cs]
  have wrapc : ∀ m : Int, 0 ≤ m → m ≤ 16777216 → Go.IntKind.i64.wrap m = m := by
    intro m h0 h1
    have e : m % (2 ^ 64 : Int) = m := Int.emod_eq_of_lt h0 (by omega)
    simp only [Go.IntKind.wrap, Go.IntKind.bits, Go.IntKind.signed, e]
    rw [if_neg (by simp; omega)]
  have hbytes : (i.bytes : Int) * c ≤ 2 ^ 48 := by
    have h1 : (i.bytes : Int) * c ≤ 1024 * 16777216 := Int.mul_le_mul (by omega) hcm (by omega) (by omega)
    omega
  have hrun : (Go.execOp a.eval o).run E.P w = .ok (.value (.slice (some ⟨w.heap.size, 0, none⟩) l.toNat c.toNat)) { w with heap := w.heap.push (.cells cs e (0, 0)) } := by
    have hti : (Go.typeInfo e).run E.P w = .ok i w := by simp [Go.typeInfo, hi]
    have h1 : ¬ (c < 0 ∨ (2 ^ 48 : Int) < (i.bytes : Int) * c) := by omega
    have hne : (if c.toNat * n = 0 then (pure #[] : Sem (Array Value)) else do let z ← Go.zeroValue e; pure z.cells).run E.P w = .ok (if c.toNat * n = 0 then #[] else zc.cells) w := by
      split <;> simp [hzc]
    simp only [Go.execOp, ho, Go.Instr.makeSlice, Sem.run_bind, run_underlying hT, Go.Result.andThen_ok, hv', hw', Go.asInt, Go.asIntOf, Sem.run_pure, hti, wrapc l hl0 (by omega), wrapc c (by omega) hcm]
    rw [if_neg (by simp; omega)]
    simp only [Sem.run_bind, Go.run_askRoom, Go.Result.andThen_ok, sizeOf_run hs]
    by_cases h0 : c.toNat * n = 0
    · have e2 : ∀ g : Nat → Value, (Array.range (c.toNat * n)).map g = #[] := by intro g; rw [h0]; simp
      have e3 : cs = #[] := e2 _
      simp only [if_pos h0, Sem.run_pure, Go.Result.andThen_ok, e2, e3, Go.newRow, Go.run_newObj, Sem.run_bind]
    · simp only [if_neg h0, Sem.run_pure, Go.Result.andThen_ok, hzc, Go.newRow, Go.run_newObj, Sem.run_bind, cs]
  have hx := Ren.upd_ext ρ nid (w.heap.size, 0, cs.size) hn
  refine ⟨_, _, ρ.upd nid (w.heap.size, 0, cs.size), .inl hrun, .slice _ _ _ _ _ ⟨_, _, _, Ren.upd_self _ _ _, by simp⟩ rfl, ?_⟩
  rw [Heap.put_get]
  exact Post.new hr nid cs.size (.cells (E.tm e) (repl c.toNat z.cells)) (.cells cs e (0, 0)) hn (Heap.id_lt_put _ _ _) (Heap.next_le_put _ _ _)
    ⟨_, e, 0, 0, rfl, rfl, by rw [repl_length, hzl, hcs]; exact Nat.le_refl _, by simp, by intro i _ _; omega, CellsRel.of_rels (hzr.ext hx) _ (by intro i u hu; rw [Array.getElem?_toList] at hu; exact hu)⟩ w.drawn

end
end Im
