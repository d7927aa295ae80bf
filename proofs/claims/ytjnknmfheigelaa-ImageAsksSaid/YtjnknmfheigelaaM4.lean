/- The ideal machine and the walks over it, a part (M4): see the comments ahead of each piece. No condition. -/
import Derived.RangeFuncCalls
import Derived.Test.YtjnknmfheigelaaM3

/- Each operation but calls, part 8: copy, clear, make, maps, lengths. -/
namespace Im
open Go (IntKind BinOp UnOp Program World Value Addr TypeId FuncId Code Oper Operand Op TypeDesc Sem Act run_underlying)
open Go.RowKit (Below)

section
variable {E : Env} {C : Cfg} {ρ : Ren} {H : Heap} {w : World} {t : List V} {a : Act}

theorem MapRel.length : ∀ {l : List (V × V)} {es : List Go.MapEntry}, MapRel E ρ l es → l.length = es.length
  | _, _, .nil => rfl
  | _, _, .cons _ _ _ _ _ _ _ h => by simp [h.length]

/-- A map in the world. -/
theorem map_get (hr : Rel E ρ H.get H.next w) {id : Nat} {es : List (V × V)} (hg : H.get id = some (.map es)) {b o tot : Nat} (hρ : ρ id = some (b, o, tot)) :
    ∃ cs clock, w.heap[b]? = some (.map cs clock) ∧ MapRel E ρ es cs.toList ∧ (Go.getObj b).run E.P w = .ok (.map cs clock) w := by
  obtain ⟨b', x', t', h1, h2, cs, clock, h3, h4⟩ := hr.obj _ _ hg
  rw [hρ] at h1; cases h1
  exact ⟨cs, clock, h3, h4, by simp [Go.getObj, Sem.run, h3]⟩

theorem ok_len (hC : CfgOk E C) (ht : VRels E ρ t a.tmps.toList) (hr : Rel E ρ H.get H.next w) {o : Oper} {nid : Nat} {T : TypeId} {x : Operand} {io : IOp} (ho : o.op = .call { callee := .builtin .len, args := #[x], argTypes := #[T] })
    (hx : trBuiltin E .len [T] [x] = some io) {v : V} {H' : Heap} {cf : CallF} (h : iop cf C nid io t H = some (v, H')) : Ok E ρ H w a o nid v H' := by
  simp only [trBuiltin] at hx
  have fin : ∀ (n : Int), (Go.Builtin.len_ #[T] o.type #[a.eval x]).run E.P w = .ok (.int .i64 n) w → Ok E ρ H w a o nid (i64 n) H := by
    intro n hn
    exact .pure hr (by simp only [Go.execOp, ho, Go.resolve, Sem.run_bind, Sem.run_pure, Go.Result.andThen_ok, Go.invoke, Go.builtin, List.map_toArray, List.map_cons, List.map_nil, hn]) (.int _ _)
  split at hx <;> try (cases hx; done)
  · rename_i y hT hy
    cases hx
    have hv := eval_sound hC ht hy
    simp only [iop] at h
    cases e0 : eval t y <;> rw [e0] at h hv <;> simp at h
    obtain ⟨rfl, rfl⟩ := h
    cases hv' : a.eval x <;> rw [hv'] at hv <;> cases hv
    exact fin _ (by simp [hv', Go.Builtin.len_, run_underlying hT, bytes_size, Go.goInt])
  · rename_i e y hT hy
    cases hx
    have hv := eval_sound hC ht hy
    simp only [iop] at h
    cases e0 : eval t y <;> rw [e0] at h hv <;> simp at h
    all_goals
      obtain ⟨rfl, rfl⟩ := h
      cases hv' : a.eval x <;> rw [hv'] at hv <;> cases hv
      exact fin _ (by simp [hv', Go.Builtin.len_, run_underlying hT, Go.goInt])
  · rename_i n e y hT hy
    cases hx
    simp [iop] at h
    obtain ⟨rfl, rfl⟩ := h
    exact fin _ (by simp [Go.Builtin.len_, run_underlying hT, Go.goInt])
  · rename_i k e y hT hy
    cases hx
    have hv := eval_sound hC ht hy
    simp only [iop] at h
    cases e0 : eval t y <;> rw [e0] at h hv <;> simp at h
    · obtain ⟨rfl, rfl⟩ := h
      cases hv' : a.eval x <;> rw [hv'] at hv <;> cases hv
      exact fin _ (by simp [hv', Go.Builtin.len_, run_underlying hT, Go.goInt])
    · split at h <;> try (cases h; done)
      rename_i es hg
      simp at h; obtain ⟨rfl, rfl⟩ := h
      cases hv' : a.eval x <;> rw [hv'] at hv <;> cases hv
      rename_i b o' tot hρ
      obtain ⟨cs, clock, h3, h4, h5⟩ := map_get hr hg hρ
      have hl := h4.length
      simp at hl
      exact fin _ (by simp [hv', Go.Builtin.len_, run_underlying hT, Go.goInt, h5, hl])
  · rename_i p y hT hy
    split at hx <;> try (cases hx; done)
    rename_i n e hp
    cases hx
    simp [iop] at h
    obtain ⟨rfl, rfl⟩ := h
    exact fin _ (by simp [Go.Builtin.len_, run_underlying hT, run_underlying hp, Go.goInt])

theorem ok_cap (hC : CfgOk E C) (ht : VRels E ρ t a.tmps.toList) (hr : Rel E ρ H.get H.next w) {o : Oper} {nid : Nat} {T : TypeId} {x : Operand} {io : IOp} (ho : o.op = .call { callee := .builtin .cap, args := #[x], argTypes := #[T] })
    (hx : trBuiltin E .cap [T] [x] = some io) {v : V} {H' : Heap} {cf : CallF} (h : iop cf C nid io t H = some (v, H')) : Ok E ρ H w a o nid v H' := by
  simp only [trBuiltin] at hx
  split at hx <;> try (cases hx; done)
  rename_i e y hT hy
  cases hx
  have hv := eval_sound hC ht hy
  have fin : ∀ (n : Int), (Go.Builtin.cap_ #[T] o.type #[a.eval x]).run E.P w = .ok (.int .i64 n) w → Ok E ρ H w a o nid (i64 n) H := by
    intro n hn
    exact .pure hr (by simp only [Go.execOp, ho, Go.resolve, Sem.run_bind, Sem.run_pure, Go.Result.andThen_ok, Go.invoke, Go.builtin, List.map_toArray, List.map_cons, List.map_nil, hn]) (.int _ _)
  simp only [iop] at h
  split at h <;> try (cases h; done)
  · rename_i e0
    cases h
    rw [e0] at hv
    cases hv' : a.eval x <;> rw [hv'] at hv <;> cases hv
    exact fin _ (by simp [hv', Go.Builtin.cap_, run_underlying hT, Go.goInt])
  · rename_i pa n c e0
    cases h
    rw [e0] at hv
    cases hv' : a.eval x <;> rw [hv'] at hv <;> cases hv
    rename_i m ca ha hc
    have hm := hc
    simp only [CRel] at hm
    exact fin _ (by simp [hv', Go.Builtin.cap_, run_underlying hT, Go.goInt, hm])

theorem take_rels {l : List V} {us : List Value} (h : VRels E ρ l us) (n : Nat) : VRels E ρ (l.take n) (us.take n) := h.take n

theorem ok_cpy1 (hC : CfgOk E C) (ht : VRels E ρ t a.tmps.toList) (hr : Rel E ρ H.get H.next w) {o : Oper} {nid : Nat} {T T' e : TypeId} {x y : Operand} {x' y' : Opd} {s : Bool} {size : Nat} (ho : o.op = .call { callee := .builtin .copy, args := #[x, y], argTypes := #[T, T'] })
    (hT : E.P.underlying T = some (.slice e)) (hsz : szOf E.P e = some size) (hx' : trOpd E x = some x') (hy' : trOpd E y = some y') {v : V} {H' : Heap} {cf : CallF} (h : iop cf C nid (.cpy s size x' y') t H = some (v, H')) : Ok E ρ H w a o nid v H' := by
  have hv := eval_sound hC ht hx'
  have hw := eval_sound hC ht hy'
  simp only [iop] at h
  split at h <;> try (cases h; done)
  rename_i new n hsrc
  -- what is copied, in the model's words
  have hcells : ∀ k, k ≤ n → ∃ us, (Go.Builtin.lenOf (a.eval y)).run E.P w = .ok n w ∧ (Go.Builtin.firstCells size k (a.eval y)).run E.P w = .ok us.toArray w ∧ VRels E ρ (new.take (k * size)) us := by
    intro k hk
    unfold srcCells at hsrc
    split at hsrc
    · rename_i e0
      cases hsrc
      rw [e0] at hw
      cases hw' : a.eval y <;> rw [hw'] at hw <;> cases hw
      exact ⟨[], by simp [Go.Builtin.lenOf], by simp [Go.Builtin.firstCells], by simpa using VRels.nil⟩
    · rename_i pa m cap e0
      split at hsrc <;> try (cases hsrc; done)
      rename_i l hl
      split at hsrc <;> try (cases hsrc; done)
      cases hsrc
      rw [e0] at hw
      cases hw' : a.eval y <;> rw [hw'] at hw <;> cases hw
      rename_i c1 ca ha hc
      obtain ⟨us, k1, k2, k3⟩ := loadN_sound hC hr ha _ 0 _ hl
      have hmul : k * size ≤ n * size := Nat.mul_le_mul_right _ hk
      refine ⟨us.take (k * size), by simp [Go.Builtin.lenOf], ?_, k1.take _⟩
      have hload := Go.run_loadCells_list (P := E.P) w ca (us.take (k * size)) (fun j u hj => by
        rw [List.getElem?_take] at hj
        split at hj <;> try (cases hj; done)
        simpa using k3 j u hj)
      rw [List.length_take, k2, Nat.min_eq_left hmul] at hload
      simp [Go.Builtin.firstCells, hload]
    · rename_i s e0
      split at hsrc <;> try (cases hsrc; done)
      rename_i h1
      subst h1
      cases hsrc
      rw [e0] at hw
      cases hw' : a.eval y <;> rw [hw'] at hw <;> cases hw
      refine ⟨(s.take k).map fun b => Value.int .u8 b.toNat, by simp [Go.Builtin.lenOf, bytes_size], ?_, ?_⟩
      · simp only [Go.Builtin.firstCells, Sem.run_pure]
        congr 1
        apply Array.ext'
        simp
      · have := bytesVals (E := E) (s.take k) ρ
        rw [Nat.mul_one, ← List.map_take]; exact this
    · cases hsrc
  cases e0 : eval t x' <;> rw [e0] at h hv <;> simp at h
  · obtain ⟨rfl, rfl⟩ := h
    cases hv' : a.eval x <;> rw [hv'] at hv <;> cases hv
    obtain ⟨us, h1, h2, h3⟩ := hcells 0 (by omega)
    refine .pure hr (c := .int .i64 0) ?_ (.int _ _)
    simp [Go.execOp, ho, Go.resolve, Go.invoke, Go.builtin, hv', Go.Builtin.copy_, run_underlying hT, h1, h2, sizeOf_run hsz, Go.goInt]
  · rename_i pa len cap
    split at h <;> try (cases h; done)
    rename_i H2 hst
    simp at h; obtain ⟨rfl, rfl⟩ := h
    cases hv' : a.eval x <;> rw [hv'] at hv <;> cases hv
    rename_i c1 ca ha hc
    obtain ⟨us, h1, h2, h3⟩ := hcells (min n len) (by omega)
    obtain ⟨w', hrun, hp⟩ := storeN_sound (S := (· = nid)) hr ha h3 hst
    refine ⟨.int .i64 (min n len : Nat), w', ρ, .inl ?_, .int _ _, hp⟩
    have hmin : Nat.min n len = min n len := rfl
    simp [Go.execOp, ho, Go.resolve, Go.invoke, Go.builtin, hv', Go.Builtin.copy_, run_underlying hT, h1, hmin, h2, sizeOf_run hsz, hrun, Go.goInt]

theorem ok_cpy (hC : CfgOk E C) (ht : VRels E ρ t a.tmps.toList) (hr : Rel E ρ H.get H.next w) {o : Oper} {nid : Nat} {T T' : TypeId} {x y : Operand} {io : IOp} (ho : o.op = .call { callee := .builtin .copy, args := #[x, y], argTypes := #[T, T'] })
    (hx : trBuiltin E .copy [T, T'] [x, y] = some io) {v : V} {H' : Heap} {cf : CallF} (h : iop cf C nid io t H = some (v, H')) : Ok E ρ H w a o nid v H' := by
  simp only [trBuiltin] at hx
  split at hx <;> try (cases hx; done)
  all_goals
    rename_i e x' y' hT _ hx' hy'
    simp only [Option.map_eq_some_iff] at hx
    obtain ⟨size, hsz, rfl⟩ := hx
    exact ok_cpy1 hC ht hr ho hT hsz hx' hy' h


theorem zeroCells_rel {z : List V} {c : Array Value} (h : VRels E ρ z c.toList) (hz : 0 < z.length) (n : Nat) : VRels E ρ (repl n z) (Go.Builtin.zeroCells c n).toList := by
  have hl : z.length = c.size := by simpa using h.length
  have := zeros_rel h hz n
  rw [hl] at this
  exact this

theorem ok_clr (hC : CfgOk E C) (ht : VRels E ρ t a.tmps.toList) (hr : Rel E ρ H.get H.next w) {o : Oper} {nid : Nat} {T : TypeId} {x : Operand} {io : IOp} (ho : o.op = .call { callee := .builtin .clear, args := #[x], argTypes := #[T] })
    (hx : trBuiltin E .clear [T] [x] = some io) {v : V} {H' : Heap} {cf : CallF} (h : iop cf C nid io t H = some (v, H')) : Ok E ρ H w a o nid v H' := by
  simp only [trBuiltin] at hx
  split at hx <;> try (cases hx; done)
  rename_i e x' hT hx'
  split at hx <;> try (cases hx; done)
  rename_i z hz
  split at hx <;> try (cases hx; done)
  rename_i hz0
  cases hx
  have hv := eval_sound hC ht hx'
  obtain ⟨c, hc, hzv⟩ := zeroV_run hz
  simp only [iop] at h
  cases e0 : eval t x' <;> rw [e0] at h hv <;> simp at h
  · obtain ⟨rfl, rfl⟩ := h
    cases hv' : a.eval x <;> rw [hv'] at hv <;> cases hv
    exact .pure hr (c := .tuple #[]) (by simp [Go.execOp, ho, Go.resolve, Go.invoke, Go.builtin, hv', Go.Builtin.clear_, run_underlying hT]) .undef
  · rename_i pa len cap
    split at h <;> try (cases h; done)
    rename_i H2 hst
    simp at h; obtain ⟨rfl, rfl⟩ := h
    cases hv' : a.eval x <;> rw [hv'] at hv <;> cases hv
    rename_i c1 ca ha hcap
    have hzr := zeroCells_rel (hzv ρ).cells hz0 len
    obtain ⟨w', hrun, hp⟩ := storeN_sound (S := (· = nid)) hr ha hzr hst
    cases len with
    | zero =>
      have hw : w' = w := by
        have hn : Go.Builtin.zeroCells c.cells 0 = #[] := by simp [Go.Builtin.zeroCells]
        rw [hn] at hrun
        simp [Go.storeCells] at hrun
        exact hrun.symm
      subst hw
      exact ⟨.tuple #[], w', ρ, .inl (by simp [Go.execOp, ho, Go.resolve, Go.invoke, Go.builtin, hv', Go.Builtin.clear_, run_underlying hT]), .undef, hp⟩
    | succ k =>
      exact ⟨.tuple #[], w', ρ, .inl (by simp [Go.execOp, ho, Go.resolve, Go.invoke, Go.builtin, hv', Go.Builtin.clear_, run_underlying hT, hc, hrun]), .undef, hp⟩

theorem ok_mm (hC : CfgOk E C) (ht : VRels E ρ t a.tmps.toList) (hr : Rel E ρ H.get H.next w) {o : Oper} {nid : Nat} {b : Go.Builtin} (hb : b = .max ∨ b = .min) {ts : Array TypeId} {xs : Array Operand} {ys : List Opd} (ho : o.op = .call { callee := .builtin b, args := xs, argTypes := ts })
    (hx : trOpds E xs.toList = some ys) {v : V} {H' : Heap} {cf : CallF} (h : iop cf C nid (if b = .max then .mmax ys else .mmin ys) t H = some (v, H')) : Ok E ρ H w a o nid v H' := by
  have hv := evals_sound hC ht hx
  rcases hb with rfl | rfl
  · simp only [if_true, iop] at h
    split at h <;> try (cases h; done)
    rename_i u hu
    simp at h; obtain ⟨rfl, rfl⟩ := h
    unfold imax at hu
    split at hu <;> try (cases hu; done)
    rename_i k x r e0
    rw [e0] at hv
    generalize e1 : xs.toList.map a.eval = us at hv
    cases hv
    rename_i c us hc hr'
    cases hc
    obtain ⟨c, h1, h2⟩ := maxF_sound (w := w) hu hr'
    have e2 : (xs.map a.eval).toList = .int k x :: us := by rw [← e1]; simp
    exact .pure hr (c := c) (by simp only [Go.execOp, ho, Go.resolve, Sem.run_bind, Sem.run_pure, Go.Result.andThen_ok, Go.invoke, Go.builtin, Go.Builtin.max_, e2, h1]) h2
  · simp only [reduceCtorEq, if_false, iop] at h
    split at h <;> try (cases h; done)
    rename_i u hu
    simp at h; obtain ⟨rfl, rfl⟩ := h
    unfold imin at hu
    split at hu <;> try (cases hu; done)
    rename_i k x r e0
    rw [e0] at hv
    generalize e1 : xs.toList.map a.eval = us at hv
    cases hv
    rename_i c us hc hr'
    cases hc
    obtain ⟨c, h1, h2⟩ := minF_sound (w := w) hu hr'
    have e2 : (xs.map a.eval).toList = .int k x :: us := by rw [← e1]; simp
    exact .pure hr (c := c) (by simp only [Go.execOp, ho, Go.resolve, Sem.run_bind, Sem.run_pure, Go.Result.andThen_ok, Go.invoke, Go.builtin, Go.Builtin.min_, e2, h1]) h2

theorem ok_mks (hC : CfgOk E C) (ht : VRels E ρ t a.tmps.toList) (hr : Rel E ρ H.get H.next w) {o : Oper} {nid : Nat} (hn : ρ nid = none) {T : TypeId} {x y : Operand} {io : IOp} (ho : o.op = .makeSlice T x y) (hx : trOp? E (.makeSlice T x y) = some io)
    {v : V} {H' : Heap} {cf : CallF} (h : iop cf C nid io t H = some (v, H')) : Ok E ρ H w a o nid v H' := by
  simp only [trOp?] at hx
  split at hx <;> try (cases hx; done)
  rename_i e x' y' hT hx' hy'
  split at hx <;> try (cases hx; done)
  rename_i n z k hs hz hk
  split at hx <;> try (cases hx; done)
  rename_i hcond
  obtain ⟨hzl, hn0, hk1⟩ := hcond
  cases hx
  have hv := eval_sound hC ht hx'
  have hw := eval_sound hC ht hy'
  simp only [iop] at h
  cases e0 : eval t x' <;> rw [e0] at h hv <;> try (simp at h; done)
  cases e1 : eval t y' <;> rw [e1] at h hw <;> simp at h
  rename_i k1 l k2 c
  obtain ⟨⟨hl0, hlc, hcm⟩, rfl, rfl⟩ := h
  cases hv' : a.eval x <;> rw [hv'] at hv <;> cases hv
  cases hw' : a.eval y <;> rw [hw'] at hw <;> cases hw
  obtain ⟨zc, hzc, hzv⟩ := zeroV_run hz
  simp only [Option.map_eq_some_iff] at hk
  obtain ⟨i, hi, rfl⟩ := hk
  have hzr := zeros_rel (hzv ρ).cells (by omega) c.toNat
  rw [hzl] at hzr
  let cs : Array Value := (Array.range (c.toNat * n)).map fun i => zc.cells[i % zc.cells.size]!
  have hcs : cs.size = c.toNat * n := by simp [cs]
  have wrapc : ∀ m : Int, 0 ≤ m → m ≤ 16777216 → Go.IntKind.i64.wrap m = m := by
    intro m h0 h1
    have e : m % (2 ^ 64 : Int) = m := Int.emod_eq_of_lt h0 (by omega)
    simp only [Go.IntKind.wrap, Go.IntKind.bits, Go.IntKind.signed, e]
    rw [if_neg (by simp; omega)]
  have hbytes : (i.bytes : Int) * c ≤ 2 ^ 48 := by
    have h1 : (i.bytes : Int) * c ≤ 1024 * 16777216 := Int.mul_le_mul (by omega) hcm (by omega) (by omega)
    omega
  have hrun : (Go.execOp a.eval o).run E.P w = .ok (.value (.slice (some ⟨w.heap.size, 0, none⟩) l.toNat c.toNat)) { w with heap := w.heap.push (.cells cs e (0, 0)) } := by
    have hti : (Go.typeInfo e).run E.P w = .ok i w := by simp [Go.typeInfo, hi]
    have h1 : ¬ (c < 0 ∨ (2 ^ 48 : Int) < (i.bytes : Int) * c) := by omega
    have hne : (if c.toNat * n = 0 then (pure #[] : Sem (Array Value)) else do let z ← Go.zeroValue e; pure z.cells).run E.P w = .ok (if c.toNat * n = 0 then #[] else zc.cells) w := by
      split <;> simp [hzc]
    simp only [Go.execOp, ho, Go.Instr.makeSlice, Sem.run_bind, run_underlying hT, Go.Result.andThen_ok, hv', hw', Go.asInt, Go.asIntOf, Sem.run_pure, hti, wrapc l hl0 (by omega), wrapc c (by omega) hcm]
    rw [if_neg (by simp; omega)]
    simp only [Sem.run_bind, Go.run_askRoom, Go.Result.andThen_ok, sizeOf_run hs]
    by_cases h0 : c.toNat * n = 0
    · have e2 : ∀ g : Nat → Value, (Array.range (c.toNat * n)).map g = #[] := by intro g; rw [h0]; simp
      have e3 : cs = #[] := e2 _
      simp only [if_pos h0, Sem.run_pure, Go.Result.andThen_ok, e2, e3, Go.newRow, Go.run_newObj, Sem.run_bind]
    · simp only [if_neg h0, Sem.run_pure, Go.Result.andThen_ok, hzc, Go.newRow, Go.run_newObj, Sem.run_bind, cs]
  have hx := Ren.upd_ext ρ nid (w.heap.size, 0, cs.size) hn
  refine ⟨_, _, ρ.upd nid (w.heap.size, 0, cs.size), .inl hrun, .slice _ _ _ _ _ ⟨_, _, _, Ren.upd_self _ _ _, by simp⟩ rfl, ?_⟩
  rw [Heap.put_get]
  exact Post.new hr nid cs.size (.cells (E.tm e) (repl c.toNat z.cells)) (.cells cs e (0, 0)) hn (Heap.id_lt_put _ _ _) (Heap.next_le_put _ _ _)
    ⟨_, e, 0, 0, rfl, rfl, by rw [repl_length, hzl, hcs]; exact Nat.le_refl _, by simp, .inl rfl, CellsRel.of_rels (hzr.ext hx) _ (by intro i u hu; rw [Array.getElem?_toList] at hu; exact hu)⟩ w.drawn

/-- append of n zeros to a nil slice. -/
theorem ok_appz (hC : CfgOk E C) (ht : VRels E ρ t a.tmps.toList) (hr : Rel E ρ H.get H.next w) {o : Oper} {nid : Nat} (hn : ρ nid = none) {T U e : TypeId} {k0 : IntKind} {i : Go.TypeInfo} {z : V} (hT : E.P.underlying T = some (.slice e)) (hU : E.P.underlying U = some (.int k0)) (hi : E.P.info? e = some i)
    (hz : zeroV E.P e = some z) (hs0 : 0 < i.size) (hb0 : i.bytes ≤ 1024) (hzl : z.cells.length = i.size) {x y : Operand} {x' y' : Opd} (ho : o.op = .call { callee := .builtin .append, args := #[x, y], argTypes := #[T, U] })
    (hx' : trOpd E x = some x') (hy' : trOpd E y = some y') {v : V} {H' : Heap} {cf : CallF} (h : iop cf C nid (.appz (E.tm e) i.size z.cells x' y') t H = some (v, H')) : Ok E ρ H w a o nid v H' := by
  have hv := eval_sound hC ht hx'
  have hw := eval_sound hC ht hy'
  simp only [iop] at h
  cases e0 : eval t x' <;> rw [e0] at h hv <;> try (simp at h; done)
  cases e1 : eval t y' <;> rw [e1] at h hw <;> try (simp at h; done)
  rename_i k1 n
  cases hv' : a.eval x <;> rw [hv'] at hv <;> cases hv
  cases hw' : a.eval y <;> rw [hw'] at hw <;> cases hw
  obtain ⟨zc, hzc, hzv⟩ := zeroV_run hz
  have hti : ∀ w, (Go.typeInfo e).run E.P w = .ok i w := fun w => by simp [Go.typeInfo, hi]
  have w0 : Go.IntKind.i64.wrap 0 = 0 := by decide
  have hsz : ∀ w, (Go.sizeOf e).run E.P w = .ok i.size w := fun w => by simp [Go.sizeOf, Go.typeInfo, hi]
  simp only at h
  split at h
  · rename_i h0
    subst h0
    cases h
    refine .pure hr (c := .slice none 0 0) ?_ .nils
    simp [Go.execOp, ho, Go.resolve, Go.invoke, Go.builtin, hv', hw', Go.Builtin.append_, run_underlying hT, run_underlying hU, hsz, hti, Go.asInt, Go.asIntOf, w0]
  · rename_i h0
    split at h <;> try (cases h; done)
    rename_i hcond
    obtain ⟨hpos, hle⟩ := hcond
    cases h
    have wrapc : Go.IntKind.i64.wrap n = n := by
      have e : n % (2 ^ 64 : Int) = n := Int.emod_eq_of_lt (by omega) (by omega)
      simp only [Go.IntKind.wrap, Go.IntKind.bits, Go.IntKind.signed, e]
      rw [if_neg (by simp; omega)]
    obtain ⟨m, rfl⟩ : ∃ m : Nat, n = m := ⟨n.toNat, by omega⟩
    have hm : 0 < m := by omega
    have hml : m ≤ 16777216 := by omega
    have hbytes : ¬ ((281474976710656 : Int) < (m : Int) * (i.bytes : Int)) := by
      have h1 : m * i.bytes ≤ 16777216 * 1024 := Nat.mul_le_mul hml hb0
      have h2 : ((m * i.bytes : Nat) : Int) = (m : Int) * (i.bytes : Int) := by simp
      omega
    have hfit := Go.growslice_fits (need := m) (old := 0) (bytes := i.bytes) hm (Nat.le_trans (Nat.mul_le_mul (Nat.le_trans hml (by decide : 16777216 ≤ 68719476736)) hb0) (by decide))
    have hms : ¬ (m * i.size = 0) := by
      intro h; rcases Nat.mul_eq_zero.1 h with h | h <;> omega
    have hcap := Go.grownCap_ge w m 0 e
    have hn0 : ¬ (m = 0) := by omega
    have hneg : ¬ ((m : Int) < 0) := by omega
    have h63 : ¬ (9223372036854775807 < (m : Int)) := by omega
    have hfit' : ¬ (281474976710656 < Go.Builtin.nextslicecap m 0 * i.bytes) := by omega
    have hrun : (Go.Builtin.append_ #[T, U] o.type #[.slice none 0 0, .int k1 m]).run E.P w =
        .ok (.slice (some ⟨w.heap.size, 0, none⟩) m (Go.grownCap w m 0 e)) (w.drew.alloc (.cells (Go.Builtin.zeroCells zc.cells m ++ Go.Builtin.zeroCells zc.cells (Go.grownCap w m 0 e - m)) e)) := by
      simp [Go.Builtin.append_, run_underlying hT, run_underlying hU, hsz, hti, hzc, Go.asInt, Go.asIntOf, wrapc, hbytes, hn0, hneg, hms, h63, hfit', Go.Question.forced, Go.newRow, Go.grownCap, Go.Builtin.firstCells]
    generalize hgc : Go.grownCap w m 0 e = gc at hrun hcap
    generalize hcs : Go.Builtin.zeroCells zc.cells m ++ Go.Builtin.zeroCells zc.cells (gc - m) = cs at hrun
    have hzsz : zc.cells.size = i.size := by
      have := (hzv ρ).cells.length
      simp at this; omega
    have hcsz : cs.size = gc * i.size := by
      rw [← hcs, Array.size_append, zeroCells_size, zeroCells_size, hzsz, ← Nat.add_mul]
      congr 1; omega
    have hx1 := Ren.upd_ext ρ nid (w.heap.size, 0, cs.size) hn
    have hzr := zeros_rel (hzv ρ).cells (by omega) m
    have hle2 : m * i.size ≤ gc * i.size := Nat.mul_le_mul_right _ hcap
    refine ⟨.slice (some ⟨w.heap.size, 0, none⟩) m gc, { w with heap := w.heap.push (.cells cs e (0, 0)), drawn := w.drawn + 1 }, ρ.upd nid (w.heap.size, 0, cs.size), .inl ?_,
      .slice _ _ _ _ _ ⟨_, _, _, Ren.upd_self _ _ _, by simp⟩ ⟨rfl, _, _, _, Ren.upd_self _ _ _, by simp [hcsz], by simpa using hcap⟩, ?_⟩
    · simp [Go.execOp, ho, Go.resolve, Go.invoke, Go.builtin, hv', hw', hrun]; rfl
    · rw [Heap.put_get]
      simp only [Int.toNat_natCast]
      refine Post.new hr nid cs.size (.cells (E.tm e) (repl m z.cells)) (.cells cs e (0, 0)) hn (Heap.id_lt_put _ _ _) (Heap.next_le_put _ _ _)
        ⟨cs, e, 0, 0, rfl, rfl, by rw [repl_length, hzl, hcsz]; exact hle2, by simp, .inl rfl, CellsRel.of_rels (hzr.ext hx1) cs (by
          intro j u hu
          rw [← hcs, Array.getElem?_append_left]
          · rw [Array.getElem?_toList] at hu
            rw [Go.Builtin.zeroCells, hzsz]
            rw [hzl] at hu
            rw [hzsz] at hu
            exact hu
          · rw [List.getElem?_eq_some_iff] at hu
            obtain ⟨h, _⟩ := hu
            rw [zeroCells_size, hzsz]
            simpa [hzl] using h)⟩ _

end
end Im

/- Each operation but calls, part 9: maps; all together: 'iop_ok'. -/
namespace Im
open Go (IntKind BinOp UnOp Program World Value Addr TypeId FuncId Code Oper Operand Op TypeDesc Sem Act run_underlying)
open Go.RowKit (Below)

section
variable {E : Env} {C : Cfg} {ρ : Ren} {H : Heap} {w : World} {t : List V} {a : Act}

theorem ok_mkm (hr : Rel E ρ H.get H.next w) {o : Oper} {nid : Nat} (hn : ρ nid = none) {T : TypeId} (ho : o.op = .makeMap T none) {v : V} {H' : Heap} {cf : CallF} (h : iop cf C nid .mkm t H = some (v, H')) : Ok E ρ H w a o nid v H' := by
  simp [iop] at h; obtain ⟨rfl, rfl⟩ := h
  refine ⟨.map (some w.heap.size), { w with heap := w.heap.push (.map #[] 0) }, ρ.upd nid (w.heap.size, 0, 0), .inl (by simp [Go.execOp, ho, Go.Instr.makeMap]), .map _ _ _ _ (Ren.upd_self _ _ _), ?_⟩
  rw [Heap.put_get]
  exact Post.new hr nid 0 (.map []) (.map #[] 0) hn (Heap.id_lt_put _ _ _) (Heap.next_le_put _ _ _) ⟨_, _, rfl, .nil⟩ w.drawn

/-- The kind of a map's keys. -/
theorem keyTag_inv {T : TypeId} {n : Nat} (h : keyTag E.P T = some n) : ∃ d, E.P.underlying T = some d ∧ ((n = 0 ∧ ∃ k, d = .int k) ∨ (n = 1 ∧ d = .string) ∨ (n = 2 ∧ d = .bool)) := by
  unfold keyTag at h
  split at h <;> try (cases h; done)
  · cases h; exact ⟨_, by assumption, .inl ⟨rfl, _, rfl⟩⟩
  · cases h; exact ⟨_, by assumption, .inr (.inl ⟨rfl, rfl⟩)⟩
  · cases h; exact ⟨_, by assumption, .inr (.inr ⟨rfl, rfl⟩)⟩

theorem sameKey_sound {n : Nat} {d : TypeDesc} (hd : (n = 0 ∧ ∃ k, d = .int k) ∨ (n = 1 ∧ d = .string) ∨ (n = 2 ∧ d = .bool)) {u v : V} {c c' : Value} {b : Bool} (ht : tagOf u = n) (h : sameKey u v = some b)
    (hu : VRel E ρ u c) (hv : VRel E ρ v c') : Go.Instr.sameNow d c c' = some b := by
  unfold sameKey at h
  split at h
  · split at h <;> try (cases h; done)
    rename_i hk; subst hk
    cases h; cases hu; cases hv
    rcases hd with ⟨_, k, rfl⟩ | ⟨e, _⟩ | ⟨e, _⟩
    · simp [Go.Instr.sameNow]
      rw [Bool.eq_iff_iff]; simp
    · rw [← ht] at e; simp [tagOf] at e
    · rw [← ht] at e; simp [tagOf] at e
  · cases h; cases hu; cases hv
    rcases hd with ⟨e, _⟩ | ⟨_, rfl⟩ | ⟨e, _⟩
    · rw [← ht] at e; simp [tagOf] at e
    · simp only [Go.Instr.sameNow, Option.some.injEq]
      rw [Go.beq_toListBytes, Go.ByteArray.toList_mk, Go.ByteArray.toList_mk, beqBytes_eq]
      rw [Bool.eq_iff_iff]; simp
    · rw [← ht] at e; simp [tagOf] at e
  · cases h; cases hu; cases hv
    rcases hd with ⟨e, _⟩ | ⟨e, _⟩ | ⟨_, rfl⟩
    · rw [← ht] at e; simp [tagOf] at e
    · rw [← ht] at e; simp [tagOf] at e
    · simp [Go.Instr.sameNow]
  · cases h

theorem findKey_sound {n : Nat} {d : TypeDesc} (hd : (n = 0 ∧ ∃ k, d = .int k) ∨ (n = 1 ∧ d = .string) ∨ (n = 2 ∧ d = .bool)) {k : V} {c : Value} (ht : tagOf k = n) (hk : VRel E ρ k c) :
    ∀ {l : List (V × V)} {es : List Go.MapEntry} {r : Option V} (i : Nat), findKey k l = some r → MapRel E ρ l es →
      ∃ r', Go.Instr.findNow d c es i = some r' ∧ ((r = none ∧ r' = none) ∨ ∃ v j u, r = some v ∧ r' = some (j, u) ∧ VRel E ρ v u) := by
  intro l
  induction l with
  | nil => intro es r i h hm; cases hm; simp [findKey] at h; subst h; exact ⟨none, rfl, .inl ⟨rfl, rfl⟩⟩
  | cons x l ih =>
    intro es r i h hm
    cases hm
    rename_i k' v' e es hk' hv' hm
    unfold findKey at h
    split at h <;> try (cases h; done)
    · rename_i hs
      cases h
      have := sameKey_sound hd ht hs hk hk'
      exact ⟨some (i, e.val), by simp [Go.Instr.findNow, this], .inr ⟨_, _, _, rfl, rfl, hv'⟩⟩
    · rename_i hs
      have := sameKey_sound hd ht hs hk hk'
      obtain ⟨r', h1, h2⟩ := ih (i + 1) h hm
      exact ⟨r', by simp [Go.Instr.findNow, this, h1], h2⟩

theorem checkKey_run {T : TypeId} {n : Nat} (h : keyTag E.P T = some n) (e : Bool) (c : Value) : (Go.Instr.checkKey e 10000 T c).run E.P w = .ok () w := by
  obtain ⟨d, hd, hk'⟩ := keyTag_inv h
  have key : ∀ m : Nat, (Go.Instr.checkKey e (m + 1) T c).run E.P w = .ok () w := by
    intro m
    simp only [Go.Instr.checkKey, Sem.run_bind, run_underlying hd, Go.Result.andThen_ok]
    rcases hk' with ⟨_, k, rfl⟩ | ⟨_, rfl⟩ | ⟨_, rfl⟩ <;> rfl
  exact key 9999

theorem ok_lkup (hC : CfgOk E C) (ht : VRels E ρ t a.tmps.toList) (hr : Rel E ρ H.get H.next w) {o : Oper} {nid : Nat} {T : TypeId} {x k : Operand} {ok : Bool} {io : IOp} (ho : o.op = .lookup T x k ok) (hx : trOp? E (.lookup T x k ok) = some io)
    {v : V} {H' : Heap} {cf : CallF} (h : iop cf C nid io t H = some (v, H')) : Ok E ρ H w a o nid v H' := by
  simp only [trOp?] at hx
  split at hx <;> try (cases hx; done)
  rename_i kt e x' k' hT hx' hk'
  split at hx <;> try (cases hx; done)
  rename_i tag z htag hz
  cases hx
  have hv := eval_sound hC ht hx'
  have hw := eval_sound hC ht hk'
  obtain ⟨d, hd, hkd⟩ := keyTag_inv htag
  obtain ⟨zc, hzc, hzv⟩ := zeroV_run hz
  simp only [iop] at h
  split at h <;> try (cases h; done)
  rename_i htg
  have htg : tagOf (eval t k') = tag := Decidable.not_not.1 htg
  split at h <;> try (cases h; done)
  rename_i es hes
  split at h <;> try (cases h; done)
  rename_i r hfind
  cases h
  have hchk : ∀ b, (Go.Instr.checkKey b 10000 kt (a.eval k)).run E.P w = .ok () w := fun b => checkKey_run htag b _
  have hfk : ∀ cs : List Go.MapEntry, MapRel E ρ es cs → ∃ r', (Go.Instr.findKey kt (a.eval k) cs).run E.P w = .ok r' w ∧ ((r = none ∧ r' = none) ∨ ∃ v j u, r = some v ∧ r' = some (j, u) ∧ VRel E ρ v u) := by
    intro cs hm
    obtain ⟨r', h1, h2⟩ := findKey_sound hkd htg hw 0 hfind hm
    exact ⟨r', by simp [Go.Instr.findKey, run_underlying hd, h1], h2⟩
  -- the answer
  have fin : ∀ (u : Value) (b : Bool), (Go.Instr.lookup T (a.eval x) (a.eval k) ok).run E.P w = .ok (if ok then .tuple #[u, .bool b] else u) w → VRel E ρ (r.getD z) u → r.isSome = b →
      Ok E ρ H w a o nid (if ok then .tup [r.getD z, .bool r.isSome] else r.getD z) H := by
    intro u b hl hu hb
    subst hb
    refine .pure hr (c := if ok then .tuple #[u, .bool r.isSome] else u) (by simp only [Go.execOp, ho, Sem.run_bind, hl, Go.Result.andThen_ok, Sem.run_pure]) ?_
    cases ok
    · simpa using hu
    · exact .tup _ [u, .bool r.isSome] (.cons _ _ _ _ hu (.cons _ _ _ _ (.bool _) .nil))
  cases e0 : eval t x' <;> rw [e0] at hes hv <;> simp at hes
  · subst hes
    cases hv' : a.eval x <;> rw [hv'] at hv <;> cases hv
    rw [hv'] at fin
    obtain ⟨r', h1, h2⟩ := hfk [] .nil
    rcases h2 with ⟨rfl, rfl⟩ | ⟨v, j, u, rfl, rfl, hvu⟩
    · exact fin zc false (by simp [Go.Instr.lookup, run_underlying hT, hchk, h1, hzc]) (hzv ρ) rfl
    · exact fin u true (by simp [Go.Instr.lookup, run_underlying hT, hchk, h1]) hvu rfl
  · rename_i id
    split at hes <;> try (cases hes; done)
    rename_i es' hg
    cases hes
    cases hv' : a.eval x <;> rw [hv'] at hv <;> cases hv
    rename_i b o' tot hρ
    obtain ⟨cs, clock, h3, h4, h5⟩ := map_get hr hg hρ
    rw [hv'] at fin
    obtain ⟨r', h1, h2⟩ := hfk cs.toList h4
    rcases h2 with ⟨rfl, rfl⟩ | ⟨v, j, u, rfl, rfl, hvu⟩
    · exact fin zc false (by simp [Go.Instr.lookup, run_underlying hT, h5, hchk, h1, hzc]) (hzv ρ) rfl
    · exact fin u true (by simp [Go.Instr.lookup, run_underlying hT, h5, hchk, h1]) hvu rfl

theorem MapRel.append_one : ∀ {l : List (V × V)} {es : List Go.MapEntry}, MapRel E ρ l es → ∀ {k v : V} {e : Go.MapEntry}, VRel E ρ k e.key → VRel E ρ v e.val → MapRel E ρ (l ++ [(k, v)]) (es ++ [e])
  | _, _, .nil, _, _, _, hk, hv => .cons _ _ _ _ _ hk hv .nil
  | _, _, .cons k v e l es h1 h2 h3, _, _, _, hk, hv => .cons _ _ _ _ _ h1 h2 (h3.append_one hk hv)

/-- What setting a key does: at the entry found, or one more. -/
theorem setKey_sound {n : Nat} {d : TypeDesc} (hd : (n = 0 ∧ ∃ k, d = .int k) ∨ (n = 1 ∧ d = .string) ∨ (n = 2 ∧ d = .bool)) {k v : V} {c u : Value} (ht : tagOf k = n) (hk : VRel E ρ k c) (hu : VRel E ρ v u) :
    ∀ {l l' : List (V × V)} {es : List Go.MapEntry} (i : Nat), setKey k v l = some l' → MapRel E ρ l es →
      (Go.Instr.findNow d c es i = some none ∧ l' = l ++ [(k, v)]) ∨
      (∃ j q, Go.Instr.findNow d c es i = some (some (i + j, q)) ∧ j < es.length ∧ (∀ e, es[j]? = some e → Go.Instr.sameNow d c e.key = some true) ∧ MapRel E ρ l' (es.modify j fun e => { e with key := c, val := u })) := by
  intro l
  induction l with
  | nil => intro l' es i h hm; cases hm; simp [setKey] at h; subst h; exact .inl ⟨rfl, rfl⟩
  | cons x l ih =>
    intro l' es i h hm
    cases hm
    rename_i k' v' e es hk' hv' hm
    unfold setKey at h
    split at h <;> try (cases h; done)
    · rename_i hs
      cases h
      have := sameKey_sound hd ht hs hk hk'
      exact .inr ⟨0, e.val, by simp [Go.Instr.findNow, this], by simp, by intro e' he; simp at he; subst he; exact this, by simpa using MapRel.cons _ _ _ _ _ (by exact hk) (by exact hu) hm⟩
    · rename_i hs
      split at h <;> try (cases h; done)
      rename_i r hr
      cases h
      have := sameKey_sound hd ht hs hk hk'
      rcases ih (i + 1) hr hm with ⟨h1, rfl⟩ | ⟨j, q, h1, h2, h3, h4⟩
      · exact .inl ⟨by simp [Go.Instr.findNow, this, h1], rfl⟩
      · refine .inr ⟨j + 1, q, ?_, by simp; omega, by intro e' he; simp at he; exact h3 e' he, ?_⟩
        · simp [Go.Instr.findNow, this, h1]; omega
        · simpa using MapRel.cons _ _ _ _ _ hk' hv' h4

theorem sameNow_bits {n : Nat} {d : TypeDesc} {c c' : Value} (hd : (n = 0 ∧ ∃ k, d = .int k) ∨ (n = 1 ∧ d = .string) ∨ (n = 2 ∧ d = .bool)) (h : Go.Instr.sameNow d c c' = some true) : c' = c := by
  rcases hd with ⟨_, k, rfl⟩ | ⟨_, rfl⟩ | ⟨_, rfl⟩
  · cases c <;> cases c' <;> simp [Go.Instr.sameNow] at h
    obtain ⟨rfl, rfl⟩ := h; rfl
  · cases c <;> cases c' <;> simp [Go.Instr.sameNow] at h
    rename_i s s'
    rw [Go.beq_toListBytes, Go.ByteArray.toList_eq, Go.ByteArray.toList_eq] at h
    have h1 : s.data.toList = s'.data.toList := by simpa using h
    rw [ByteArray.ext (Array.ext' h1)]
  · cases c <;> cases c' <;> simp [Go.Instr.sameNow] at h
    rw [h]

theorem keyStays {n : Nat} {d : TypeDesc} {c c' : Value} (hd : (n = 0 ∧ ∃ k, d = .int k) ∨ (n = 1 ∧ d = .string) ∨ (n = 2 ∧ d = .bool)) (h : Go.Instr.sameNow d c c' = some true) (hc : ∀ cs, c ≠ .agg cs) :
    (Go.Instr.keyThatStays c' c).run E.P w = .ok c w := by
  have e := sameNow_bits hd h
  subst e
  have : Go.Instr.sameBits 10000 c' c' = true := by
    rcases hd with ⟨_, k, rfl⟩ | ⟨_, rfl⟩ | ⟨_, rfl⟩ <;> cases c' <;> simp [Go.Instr.sameNow] at h
    · rw [Go.Instr.sameBits.eq_def]; simp
    · rw [Go.Instr.sameBits.eq_def]; simp [Go.beq_toListBytes]
    · rw [Go.Instr.sameBits.eq_def]; simp
  simp [Go.Instr.keyThatStays, this]

theorem ok_mupd (hC : CfgOk E C) (ht : VRels E ρ t a.tmps.toList) (hr : Rel E ρ H.get H.next w) {o : Oper} {nid : Nat} {T : TypeId} {x k y : Operand} {io : IOp} (ho : o.op = .mapUpdate T x k y) (hx : trOp? E (.mapUpdate T x k y) = some io)
    {v : V} {H' : Heap} {cf : CallF} (h : iop cf C nid io t H = some (v, H')) : Ok E ρ H w a o nid v H' := by
  simp only [trOp?] at hx
  split at hx <;> try (cases hx; done)
  rename_i kt e x' k' y' hT hx' hk' hy'
  simp only [Option.map_eq_some_iff] at hx
  obtain ⟨tag, htag, rfl⟩ := hx
  have hv := eval_sound hC ht hx'
  have hw := eval_sound hC ht hk'
  have hy := eval_sound hC ht hy'
  obtain ⟨d, hd, hkd⟩ := keyTag_inv htag
  simp only [iop] at h
  split at h <;> try (cases h; done)
  rename_i htg
  have htg : tagOf (eval t k') = tag := Decidable.not_not.1 htg
  cases e0 : eval t x' <;> rw [e0] at h hv <;> simp at h
  rename_i id
  split at h <;> try (cases h; done)
  rename_i es hg
  split at h <;> try (cases h; done)
  rename_i es' hset
  simp at h; obtain ⟨rfl, rfl⟩ := h
  cases hv' : a.eval x <;> rw [hv'] at hv <;> cases hv
  rename_i b o' tot hρ
  obtain ⟨cs, clock, h3, h4, h5⟩ := map_get hr hg hρ
  have hchk := checkKey_run (w := w) htag false (a.eval k)
  have hid := hr.id_lt hg
  have hset' : ∀ (es2 : Array Go.MapEntry) (cl : Nat), (Go.setObj b (.map es2 cl)).run E.P w = .ok () { w with heap := w.heap.setIfInBounds b (.map es2 cl) } := by
    intro es2 cl; simp [Go.setObj, Sem.run, h3]
  have hbs : b < w.heap.size := hr.lt hg hρ
  have post : ∀ (es2 : Array Go.MapEntry) (cl : Nat), MapRel E ρ es' es2.toList →
      Post E (· = nid) ρ H.get H.next w ρ (H.put id (.map es')).get (H.put id (.map es')).next { w with heap := w.heap.setIfInBounds b (.map es2 cl) } := by
    intro es2 cl hm
    rw [Heap.put_get, show (H.put id (.map es')).next = H.next from by rw [Heap.next_put, if_pos hid]]
    refine Post.write (o' := .map es') hr hg hρ (.map es2 cl) ⟨es2, cl, rfl, hm⟩ _ ⟨rfl, rfl, rfl⟩ (by simp) ?_ ?_ hid
    · simp [hbs]
    · intro k hk; simp only [Array.getElem?_setIfInBounds]; rw [if_neg (fun h => hk h.symm)]
  rcases setKey_sound hkd htg hw hy 0 hset h4 with ⟨h1, rfl⟩ | ⟨j, q, h1, h2, h6, h7⟩
  · refine ⟨Go.undef, _, ρ, .inr ⟨?_, rfl⟩, .undef, post (cs.push { key := a.eval k, val := a.eval y, born := clock }) (clock + 1) (by simpa using h4.append_one (e := { key := a.eval k, val := a.eval y, born := clock }) hw hy)⟩
    simp [Go.execOp, ho, hv', Go.Instr.mapUpdate, run_underlying hT, h5, hchk, Go.Instr.findKey, run_underlying hd, h1, hset']
  · refine ⟨Go.undef, _, ρ, .inr ⟨?_, rfl⟩, .undef, post (cs.modify j fun e => { e with key := a.eval k, val := a.eval y }) clock (by simpa using h7)⟩
    have hnagg : ∀ c, a.eval k ≠ .agg c := by
      intro c hc
      rw [hc] at hw
      cases e9 : eval t k' <;> rw [e9] at hw htg <;> cases hw
      simp [tagOf] at htg
      rcases hkd with ⟨e, _⟩ | ⟨e, _⟩ | ⟨e, _⟩ <;> omega
    have hj : cs[j]? = some (cs[j]'(by simpa using h2)) := Array.getElem?_eq_getElem _
    have hkey := keyStays (E := E) (w := w) hkd (h6 (cs[j]'(by simpa using h2)) (by rw [Array.getElem?_toList]; exact hj)) hnagg
    simp at h1
    simp [Go.execOp, ho, hv', Go.Instr.mapUpdate, run_underlying hT, h5, hchk, Go.Instr.findKey, run_underlying hd, h1, hj, hkey, hset']

end
end Im

/- All operations together ('iop_ok'), calls ('oper_sound'), a region in a given order ('run_sound'). -/
namespace Im
open Go (IntKind BinOp UnOp Program World Value Addr TypeId FuncId Code Oper Operand Op TypeDesc Sem Act run_underlying Fence Exit Ending)
open Go.RowKit (Below)

section
variable {E : Env} {C : Cfg} {ρ : Ren} {H : Heap} {w : World} {t : List V} {a : Act}

def IOp.isCall : IOp → Bool
  | .call .. | .callv .. => true
  | _ => false

theorem ok_builtin (hC : CfgOk E C) (ht : VRels E ρ t a.tmps.toList) (hr : Rel E ρ H.get H.next w) {o : Oper} {nid : Nat} (hn : ρ nid = none) {b : Go.Builtin} {args : Array Operand} {ts : Array TypeId} {io : IOp}
    (ho : o.op = .call { callee := .builtin b, args := args, argTypes := ts }) (hx : trBuiltin E b ts.toList args.toList = some io) {v : V} {H' : Heap} {cf : CallF} (h : iop cf C nid io t H = some (v, H')) : Ok E ρ H w a o nid v H' := by
  obtain ⟨args⟩ := args
  obtain ⟨ts⟩ := ts
  simp only at hx
  have hx0 := hx
  unfold trBuiltin at hx
  split at hx <;> try (cases hx; done)
  · rename_i T tx x y
    split at hx <;> try (cases hx; done)
    · rename_i e e' x' y' hT hT' hx' hy'
      split at hx <;> try (cases hx; done)
      rename_i i hi
      split at hx <;> try (cases hx; done)
      rename_i hcond
      obtain ⟨h1, h2, h3⟩ := hcond
      cases hx
      exact ok_app hC ht hr hn hT hi h3 rfl h1 h2 ho hx' hy' (s := false) (by simp [srcTy, hT']) h
    · rename_i e x' y' hT hT' hx' hy'
      split at hx <;> try (cases hx; done)
      rename_i i hi
      split at hx <;> try (cases hx; done)
      rename_i hcond
      obtain ⟨h1, h2, h3⟩ := hcond
      cases hx
      exact ok_app hC ht hr hn hT hi (by rw [h3]) h1 (by omega) h2 ho hx' hy' (s := true) (by simp [srcTy, hT']) h
    · rename_i e k0 x' y' hT hT' hx' hy'
      split at hx <;> try (cases hx; done)
      rename_i i z hi hz
      split at hx <;> try (cases hx; done)
      rename_i hcond
      obtain ⟨h1, h2, h3⟩ := hcond
      cases hx
      exact ok_appz hC ht hr hn hT hT' hi hz h1 h2 h3 ho hx' hy' h
  · exact ok_len hC ht hr ho hx0 h
  · exact ok_cpy hC ht hr ho hx0 h
  · exact ok_clr hC ht hr ho hx0 h
  · exact ok_cap hC ht hr ho hx0 h
  · simp only [Option.map_eq_some_iff] at hx
    obtain ⟨ys, hys, rfl⟩ := hx
    exact ok_mm hC ht hr (.inl rfl) ho hys (by simpa using h)
  · simp only [Option.map_eq_some_iff] at hx
    obtain ⟨ys, hys, rfl⟩ := hx
    exact ok_mm hC ht hr (.inr rfl) ho hys (by simpa using h)

/-- Each operation but calls. -/
theorem iop_ok (hC : CfgOk E C) (ht : VRels E ρ t a.tmps.toList) (hr : Rel E ρ H.get H.next w) {o : Oper} {nid : Nat} (hn : ρ nid = none) {io : IOp} (hx : trOp? E o.op = some io) (hnc : ∀ c f, o.op = .call c → c.callee ≠ .value f)
    {v : V} {H' : Heap} {cf : CallF} (h : iop cf C nid io t H = some (v, H')) : Ok E ρ H w a o nid v H' := by
  generalize ho : o.op = op at hx
  have hx0 := hx
  cases op
  case move x | assign x =>
    simp only [trOp?, Option.map_eq_some_iff] at hx
    obtain ⟨y, hy, rfl⟩ := hx
    simp [iop] at h; obtain ⟨rfl, rfl⟩ := h
    first | exact ok_mv hC ht hr (.inl ho) hy | exact ok_mv hC ht hr (.inr ho) hy
  case pick x y z =>
    simp only [trOp?] at hx
    split at hx <;> try (cases hx; done)
    rename_i h1 h2 h3
    cases hx
    exact ok_pick hC ht hr ho h1 h2 h3 h
  case nilCheck x =>
    simp only [trOp?, Option.map_eq_some_iff] at hx
    obtain ⟨y, hy, rfl⟩ := hx
    exact ok_nilck hC ht hr ho hy h
  case box T x =>
    simp only [trOp?, Option.map_eq_some_iff] at hx
    obtain ⟨y, hy, rfl⟩ := hx
    exact ok_box hC ht hr hn ho hy h
  case alloc T =>
    simp only [trOp?, Option.map_eq_some_iff] at hx
    obtain ⟨z, hz, rfl⟩ := hx
    exact ok_alc hr hn ho hz h
  case build => exact ok_build hC ht hr ho hx0 h
  case buildSlice => exact ok_bslice hC ht hr hn ho hx0 h
  case load => exact ok_ld hC ht hr ho hx0 h
  case store => exact ok_st hC ht hr ho hx0 h
  case fieldAddr => exact ok_fa hC ht hr ho hx0 h
  case indexAddr => exact ok_ia hC ht hr ho hx0 h
  case field => exact ok_field hC ht hr ho hx0 h
  case index => exact ok_index hC ht hr ho hx0 h
  case extract x i =>
    simp only [trOp?, Option.map_eq_some_iff] at hx
    obtain ⟨y, hy, rfl⟩ := hx
    exact ok_ext hC ht hr ho hy h
  case binOp => exact ok_eq hC ht hr ho (by simpa [trOp?] using hx) h
  case unOp op T x =>
    simp only [trOp?, Option.map_eq_some_iff] at hx
    obtain ⟨y, hy, rfl⟩ := hx
    exact ok_un hC ht hr ho hy h
  case convert => exact ok_conv hC ht hr hn ho (by simpa [trOp?] using hx) h
  case makeFunc => exact ok_mkf hC ht hr ho hx0 h
  case makeMap T r =>
    cases r with
    | some r => simp [trOp?] at hx
    | none =>
      simp only [trOp?] at hx
      split at hx <;> try (cases hx; done)
      cases hx
      exact ok_mkm hr hn ho h
  case makeSlice => exact ok_mks hC ht hr hn ho hx0 h
  case slice => exact ok_slice hC ht hr ho (by simpa [trOp?] using hx) h
  case lookup => exact ok_lkup hC ht hr ho hx0 h
  case mapUpdate => exact ok_mupd hC ht hr ho hx0 h
  case makeInterface => exact ok_mif hC ht hr ho hx0 h
  case call c =>
    obtain ⟨callee, args, ts⟩ := c
    simp only [trOp?, trCall] at hx
    cases callee with
    | builtin b => exact ok_builtin hC ht hr hn ho hx h
    | value f => exact absurd rfl (hnc _ f ho)
    | invoke r m => cases hx
  all_goals (simp [trOp?] at hx)

/-! ## Calls -/

/-- What belongs to a program: its ideal functions are functions of its own, with a body. -/
structure EnvOk (E : Env) : Prop where
  fm : ∀ f g, E.fm f = some g → ∃ fn, E.P.funcs[f]? = some fn ∧ fn.name ≠ "runtime.NumGoroutine" ∧ fn.body.isSome = true

/-- What a call leaves: the value's likeness, the heap's. -/
def CallPost (E : Env) (ρ : Ren) (H : Heap) (w : World) (v : V) (H' : Heap) : Ending → World → Prop := fun e w' =>
  ∃ ρ' c, e = .returned c ∧ VRel E ρ' v c ∧ Post E (fun _ => False) ρ H.get H.next w ρ' H'.get H'.next w'

/-- The fence that shuts nothing out, in a round or in none. -/
def Wd (ro : Option Nat) : Fence := { Fence.wide with round := ro }

/-- A machine for calls that speaks true. -/
structure CfOk (E : Env) (cf : CallF) : Prop where
  fn : ∀ (f : Nat) (f' : FuncId) (args : List V) (H : Heap) (v : V) (H' : Heap), cf (.fn f) args H = some (v, H') → E.fm f' = some f →
    ∀ (ρ : Ren) (w : World) (args' : List Value), VRels E ρ args args' → Rel E ρ H.get H.next w → Go.Calls E.P f' args'.toArray w (CallPost E ρ H w v H')
  rnd : ∀ (l : Nat) (args : List V) (H : Heap) (v : V) (H' : Heap), cf (.rnd l) args H = some (v, H') →
    ∀ (ρ : Ren) (w : World) (args' : List Value) (b x tot : Nat), VRels E ρ args args' → Rel E ρ H.get H.next w → ρ l = some (b, x, tot) →
      ∃ fn tmps assign body, (Go.Instr.yield b args'.toArray).run E.P w = .ok (.round b fn tmps assign body) w ∧ Go.RoundIn Fence.wide 0 E.P b fn tmps assign body w (CallPost E ρ H w v H')

theorem trOp?_defer {c : Go.Call} : trOp? E (.defer c) = none := rfl

/-- One operation, whatever it is, in the walk's words. -/
theorem oper_sound (hE : EnvOk E) (hC : CfgOk E C) {cf : CallF} (hcf : CfOk E cf) (ro : Option Nat) {n : Nat} (ht : VRels E ρ t a.tmps.toList) (hr : Rel E ρ H.get H.next w) {o : Oper} {nid : Nat} (hn : ρ nid = none)
    {v : V} {H' : Heap} (h : iop cf C nid (trOp E o.op) t H = some (v, H')) {K : Act → World → Prop} {Q : Exit → Act → World → Prop}
    (hK : ∀ ρ' c w', VRel E ρ' v c → Post E (· = nid) ρ H.get H.next w ρ' H'.get H'.next w' → K (a.put o.dst c) w') : o.wpIn (Wd ro) n E.P a w K Q := by
  refine ⟨fun _ _ => trivial, ?_⟩
  unfold trOp at h
  cases hx : trOp? E o.op with
  | none => rw [hx] at h; simp [iop] at h
  | some io =>
    rw [hx] at h
    simp only [Option.getD_some] at h
    have hsem : o.semAt (Wd ro).round a.eval = Go.execOp a.eval o := Oper.semAt_eq _ _ _ (fun c hc => by rw [hc] at hx; cases hx)
    rw [hsem]
    by_cases hcall : ∃ c f, o.op = .call c ∧ c.callee = .value f
    · -- a call
      obtain ⟨c, f, hop, hcal⟩ := hcall
      obtain ⟨callee, args, ts⟩ := c
      simp only at hcal
      subst hcal
      rw [hop] at hx
      simp only [trOp?, trCall] at hx
      -- a call of a function of the program
      have enter : ∀ (g : Nat) (f' : FuncId) (vs : List V) (us : List Value), cf (.fn g) vs H = some (v, H') → E.fm f' = some g → VRels E ρ vs us →
          (Go.execOp a.eval o).run E.P w = (Go.callFunc f' us.toArray).run E.P w → o.uponIn (Wd ro) n E.P a K Q ((Go.execOp a.eval o).run E.P w) := by
        intro g f' vs us hc hf hvs hrun
        obtain ⟨fn, h1, h2, h3⟩ := hE.fm f' g hf
        have hcf' : (Go.callFunc f' us.toArray).run E.P w = .ok (.enter f' us.toArray) w := by
          obtain ⟨b, hb⟩ := Option.isSome_iff_exists.1 h3
          simp [Go.callFunc, h1, h2, hb]
        rw [hrun, hcf']
        have hcalls := hcf.fn g f' vs H v H' hc hf ρ w us hvs hr
        refine ⟨fun h => by simp [Wd, Fence.wide] at h, ?_⟩
        have hin : Go.CallsIn (Wd ro) (n - 1) E.P f' us.toArray w (CallPost E ρ H w v H') := by
          have := (Go.callsIn_wide (n := n - 1)).2 hcalls
          cases ro with
          | none => exact this
          | some l => exact Go.CallsIn.inRound l this
        refine hin.mono fun e w' he => ?_
        obtain ⟨ρ', c, rfl, hv, hp⟩ := he
        exact hK ρ' c w' hv (hp.mono fun _ _ h => h.elim)
      -- a call of a value
      have value : ∀ (x : Opd) (l : List Opd), trOpd E f = some x → trOpds E args.toList = some l → icallv cf (eval t x) (l.map (eval t)) H = some (v, H') →
          o.uponIn (Wd ro) n E.P a K Q ((Go.execOp a.eval o).run E.P w) := by
        intro x l hx hl hcv
        have h1 := eval_sound hC ht hx
        have h2 := evals_sound hC ht hl
        have hargs : (args.map a.eval) = (args.toList.map a.eval).toArray := by apply Array.ext'; simp
        unfold icallv at hcv
        split at hcv
        · rename_i g p q e0
          rw [e0] at h1
          cases hv' : a.eval f <;> rw [hv'] at h1 <;> cases h1
          rename_i f' p' q' hg hp hq
          refine enter g f' _ _ hcv hg ((hp.append h2).append hq) ?_
          simp [Go.execOp, hop, Go.resolve, hv', Go.Deferred.ofValue, Go.invoke, hargs]
        · rename_i lid e0
          rw [e0] at h1
          cases hv' : a.eval f <;> rw [hv'] at h1 <;> cases h1
          rename_i b x tot hρ
          obtain ⟨fn, tmps, assign, body, h3, h4⟩ := hcf.rnd lid _ H v H' hcv ρ w _ b x tot h2 hr hρ
          have hrun : (Go.execOp a.eval o).run E.P w = .ok (.round b fn tmps assign body) w := by
            rw [← h3]
            simp [Go.execOp, hop, Go.resolve, hv', Go.Deferred.ofValue, Go.invoke, hargs]
          rw [hrun]
          refine ⟨fun h => by simp [Wd, Fence.wide] at h, ?_⟩
          refine Go.RoundIn.mono (R := CallPost E ρ H w v H') (show Go.RoundIn (Wd ro) (n - 1) E.P b fn tmps assign body w _ from ?_) fun e w' he => ?_
          · refine ⟨trivial, fun c cs _ => ?_⟩
            obtain ⟨e, w', r, s⟩ := h4.2 c cs (Go.room_wide _)
            exact ⟨e, w', r, s⟩
          · obtain ⟨ρ', c, rfl, hv, hp⟩ := he
            exact hK ρ' c w' hv (hp.mono fun _ _ h => h.elim)
        · cases hcv
      cases f <;> simp only at hx
      case func f' =>
        split at hx <;> try (cases hx; done)
        rename_i g l hg hl
        cases hx
        simp only [iop] at h
        refine enter g f' _ _ h hg (evals_sound hC ht hl) ?_
        have hargs : (args.map a.eval) = (args.toList.map a.eval).toArray := by apply Array.ext'; simp
        simp [Go.execOp, hop, Go.resolve, Act.eval, Go.Deferred.ofValue, Go.invoke, hargs]
      all_goals
        split at hx <;> try (cases hx; done)
        rename_i x l hx' hl
        cases hx
        simp only [iop] at h
        exact value _ _ hx' hl h
    · obtain ⟨c, w', ρ', hrun, hv, hp⟩ := iop_ok hC ht hr hn hx (fun c f h1 h2 => hcall ⟨c, f, h1, h2⟩) h
      rcases hrun with hrun | ⟨hrun, rfl⟩
      · rw [hrun]; exact hK ρ' c w' hv hp
      · rw [hrun]; exact hK ρ' _ w' hv hp

end
end Im

