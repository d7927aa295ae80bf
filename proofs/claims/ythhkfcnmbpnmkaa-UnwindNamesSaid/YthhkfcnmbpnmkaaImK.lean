/- Each operation but calls, part 6: lengths, slice expressions, function values, interfaces, append, copy, clear, make. -/
import Derived.Test.YthhkfcnmbpnmkaaImJ
namespace Im
open Go (IntKind BinOp UnOp Program World Value Addr TypeId FuncId Code Oper Operand Op TypeDesc Sem Act run_underlying)
open Go.RowKit (Below)

section
variable {E : Env} {C : Cfg} {ρ : Ren} {H : Heap} {w : World} {t : List V} {a : Act}

/-! ### Slice expressions -/

theorem bnd_sound {x : Option V} {c : Option Value} {dflt top r : Nat} (hx : (x = none ∧ c = none) ∨ ∃ v u, x = some v ∧ c = some u ∧ VRel E ρ v u) (h : bnd x dflt top = some r) :
    (c = none ∧ r = dflt) ∨ ∃ u, c = some u ∧ r ≤ top ∧ ∀ code, (Go.Instr.sliceBound u top code).run E.P w = .ok r w := by
  rcases hx with ⟨rfl, rfl⟩ | ⟨v, u, rfl, rfl, hv⟩
  · simp [bnd] at h; exact .inl ⟨rfl, h.symm⟩
  · unfold bnd at h
    split at h
    · rename_i heq; cases heq
    · rename_i k i heq
      cases heq
      split at h <;> try (cases h; done)
      rename_i hi
      cases h
      cases hv
      exact .inr ⟨_, rfl, by omega, fun code => by simp [Go.Instr.sliceBound, Go.asIntOf, hi]⟩
    · cases h

theorem evalO_pair (hC : CfgOk E C) (ht : VRels E ρ t a.tmps.toList) {x : Option Operand} {y : Option Opd} (h : trOpdO E x = some y) :
    (evalO t y = none ∧ x.map a.eval = none) ∨ ∃ v u, evalO t y = some v ∧ x.map a.eval = some u ∧ VRel E ρ v u := by
  rcases evalO_sound hC ht h with ⟨rfl, rfl, h1⟩ | ⟨x', y', rfl, rfl, h1, h2⟩
  · exact .inl ⟨h1, rfl⟩
  · exact .inr ⟨_, _, h1, rfl, h2⟩

/-- What the model reckons of a slice's bounds. -/
theorem bounds_run {isSlice : Bool} {len cap : Nat} {lo hi mx : Option V} {cl ch cm : Option Value} {l h m : Nat}
    (hl : (lo = none ∧ cl = none) ∨ ∃ v u, lo = some v ∧ cl = some u ∧ VRel E ρ v u) (hh : (hi = none ∧ ch = none) ∨ ∃ v u, hi = some v ∧ ch = some u ∧ VRel E ρ v u)
    (hm : (mx = none ∧ cm = none) ∨ ∃ v u, mx = some v ∧ cm = some u ∧ VRel E ρ v u)
    (bm : bnd mx cap cap = some m) (bh : bnd hi len m = some h) (bl : bnd lo 0 h = some l) (hno : mx.isSome = true → hi.isNone = false) :
    (Go.Instr.sliceBounds isSlice len cap cl ch cm).run E.P w = .ok (l, h, m) w := by
  have k1 := bnd_sound (w := w) hm bm
  have k2 := bnd_sound (w := w) hh bh
  have k3 := bnd_sound (w := w) hl bl
  rcases k1 with ⟨rfl, rfl⟩ | ⟨um, rfl, hm1, k1⟩
  · rcases k2 with ⟨rfl, rfl⟩ | ⟨uh, rfl, hh1, k2⟩ <;> rcases k3 with ⟨rfl, rfl⟩ | ⟨ul, rfl, hl1, k3⟩ <;> simp [Go.Instr.sliceBounds, *]
  · rcases k2 with ⟨rfl, rfl⟩ | ⟨uh, rfl, hh1, k2⟩
    · rcases hm with ⟨_, h0⟩ | ⟨v, u, h0, _, _⟩
      · cases h0
      · rcases hh with ⟨h2, _⟩ | ⟨_, _, _, h2, _⟩
        · have := hno (by rw [h0]; rfl); rw [h2] at this; cases this
        · cases h2
    · rcases k3 with ⟨rfl, rfl⟩ | ⟨ul, rfl, hl1, k3⟩ <;> simp [Go.Instr.sliceBounds, *]

theorem slcEx_sound {e : Nat} {pa : Option PA} {c : Option Addr} {len cap : Nat} {lo hi mx : Option V} {cl ch cm : Option Value} {v : V} {isSlice : Bool}
    (ha : (pa = none ∧ c = none ∧ len = 0 ∧ cap = 0) ∨ ∃ p q, pa = some p ∧ c = some q ∧ ARel E ρ p q)
    (hl : (lo = none ∧ cl = none) ∨ ∃ v u, lo = some v ∧ cl = some u ∧ VRel E ρ v u) (hh : (hi = none ∧ ch = none) ∨ ∃ v u, hi = some v ∧ ch = some u ∧ VRel E ρ v u)
    (hm : (mx = none ∧ cm = none) ∨ ∃ v u, mx = some v ∧ cm = some u ∧ VRel E ρ v u) (h : slcEx e pa len cap lo hi mx = some v) :
    ∃ l h m, (Go.Instr.sliceBounds isSlice len cap cl ch cm).run E.P w = .ok (l, h, m) w ∧ VRel E ρ v (.slice (if m = l then c else c.map (·.add (l * e))) (h - l) (m - l)) := by
  unfold slcEx at h
  split at h <;> try (cases h; done)
  rename_i hno
  have hno : mx.isSome = true → hi.isNone = false := by
    intro k; rw [k] at hno; cases hi <;> simp at hno ⊢
  split at h <;> try (cases h; done)
  rename_i m bm
  split at h <;> try (cases h; done)
  rename_i h' bh
  split at h <;> try (cases h; done)
  rename_i l bl
  refine ⟨l, h', m, bounds_run hl hh hm bm bh bl hno, ?_⟩
  rcases ha with ⟨rfl, rfl, rfl, rfl⟩ | ⟨p, q, rfl, rfl, hpq⟩
  · simp at h
    cases h
    have hm0 : m ≤ 0 := by
      rcases bnd_sound (w := w) hm bm with ⟨_, h⟩ | ⟨_, _, h, _⟩ <;> omega
    have hh0 : h' ≤ 0 := by
      rcases bnd_sound (w := w) hh bh with ⟨_, h⟩ | ⟨_, _, h, _⟩ <;> omega
    have hl0 : l ≤ 0 := by
      rcases bnd_sound (w := w) hl bl with ⟨_, h⟩ | ⟨_, _, h, _⟩ <;> omega
    obtain rfl : m = 0 := by omega
    obtain rfl : h' = 0 := by omega
    obtain rfl : l = 0 := by omega
    simpa using VRel.nils
  · simp only [Option.some.injEq] at h
    subst h
    by_cases hml : m = l
    · simp only [if_pos hml]; exact .slice _ _ _ _ _ hpq rfl
    · simp only [if_neg hml]; exact .slice _ _ _ _ _ (hpq.add _) rfl

theorem bnd_le {x : Option V} {dflt top r top' : Nat} (h : bnd x dflt top = some r) (ht : top ≤ top') : bnd x dflt top' = some r := by
  unfold bnd at *
  split at h
  · exact h
  · split at h <;> try (cases h; done)
    rename_i hi
    rw [if_pos (by omega)]; exact h
  · cases h

theorem bnd_some (v : V) (d d' top : Nat) : bnd (some v) d top = bnd (some v) d' top := by
  unfold bnd; cases v <;> rfl

theorem slcUn_sound {e e' : Nat} {p : PA} {c : Addr} {len cap : Nat} {lo hi mx : Option V} {cl ch cm : Option Value} {v : V} {isSlice : Bool}
    (ha : ARel E ρ p c) (hcap : CRel ρ p len (.un e') cap)
    (hl : (lo = none ∧ cl = none) ∨ ∃ v u, lo = some v ∧ cl = some u ∧ VRel E ρ v u) (hh : (hi = none ∧ ch = none) ∨ ∃ v u, hi = some v ∧ ch = some u ∧ VRel E ρ v u)
    (hm : (mx = none ∧ cm = none) ∨ ∃ v u, mx = some v ∧ cm = some u ∧ VRel E ρ v u) (h : slcUn e p len e' lo hi mx = some v) :
    ∃ l h m, (Go.Instr.sliceBounds isSlice len cap cl ch cm).run E.P w = .ok (l, h, m) w ∧ VRel E ρ v (.slice (if m = l then some c else (some c).map (·.add (l * e))) (h - l) (m - l)) := by
  have hcap0 := hcap
  obtain ⟨hown, b, o, tot, hρ, htot, hle⟩ := hcap
  unfold slcUn at h
  split at h
  · rename_i vm
    split at h <;> try (cases h; done)
    rename_i m bm
    split at h <;> try (cases h; done)
    rename_i h' bh
    split at h <;> try (cases h; done)
    rename_i l bl
    split at h <;> try (cases h; done)
    rename_i hno
    have bm' : bnd (some vm) cap cap = some m := by
      have h0 := bnd_le bm hle
      rwa [bnd_some vm len cap] at h0
    simp only [Option.some.injEq] at h
    subst h
    refine ⟨l, h', m, bounds_run hl hh hm bm' bh bl (fun _ => by cases hi <;> simp at hno ⊢), ?_⟩
    by_cases hml : m = l
    · simp only [if_pos hml]; exact .slice _ _ _ _ _ ha rfl
    · simp only [if_neg hml]; exact .slice _ _ _ _ _ (ha.add _) rfl
  · obtain rfl : cm = none := by
      rcases hm with ⟨_, h0⟩ | ⟨_, _, hc, _⟩
      · exact h0
      · cases hc
    split at h <;> try (cases h; done)
    rename_i h' bh
    split at h <;> try (cases h; done)
    rename_i l bl
    have bh' := bnd_le bh hle
    have hbr := bounds_run (E := E) (w := w) (isSlice := isSlice) (cap := cap) hl hh (.inl ⟨rfl, rfl⟩) rfl bh' bl (by simp)
    have hh' : h' ≤ len := by
      rcases bnd_sound (w := w) hh bh with ⟨_, h⟩ | ⟨_, _, h, _⟩ <;> omega
    split at h
    · rename_i hl0
      subst hl0
      cases h
      refine ⟨0, h', cap, hbr, ?_⟩
      have hc0 : (if cap = 0 then some c else (some c).map (·.add (0 * e))) = some c := by
        simp [Go.Addr.add]
      rw [hc0]
      exact .slice _ _ _ _ _ ha ⟨hown, b, o, tot, hρ, by simpa using htot, by omega⟩
    · split at h <;> try (cases h; done)
      rename_i hl0 hcond
      obtain ⟨hlt, rfl⟩ := hcond
      cases h
      refine ⟨l, h', cap, hbr, ?_⟩
      rw [if_neg (by omega)]
      refine .slice _ _ _ _ _ (ha.add _) ⟨hown, b, o, tot, hρ, ?_, by omega⟩
      simp only [PA.add]
      rw [← htot, Nat.sub_mul]
      have : l * e ≤ cap * e := Nat.mul_le_mul_right _ (by omega)
      omega

theorem ok_slice (hC : CfgOk E C) (ht : VRels E ρ t a.tmps.toList) (hr : Rel E ρ H.get H.next w) {o : Oper} {nid : Nat} {T : TypeId} {x : Operand} {lo hi mx : Option Operand} {io : IOp} (ho : o.op = .slice T x lo hi mx)
    (hx : trSlice E T x lo hi mx = some io) {v : V} {H' : Heap} {cf : CallF} (h : iop cf C nid io t H = some (v, H')) : Ok E ρ H w a o nid v H' := by
  unfold trSlice at hx
  split at hx <;> try (cases hx; done)
  rename_i x' l' h' m' hx' hl' hh' hm'
  have hv := eval_sound hC ht hx'
  have el := evalO_pair hC ht hl'
  have eh := evalO_pair hC ht hh'
  have em := evalO_pair hC ht hm'
  split at hx <;> try (cases hx; done)
  · rename_i hT
    split at hx <;> try (cases hx; done)
    rename_i hmn
    cases hx
    simp only [iop] at h
    cases e0 : eval t x' <;> rw [e0] at h hv <;> simp at h
    rename_i s
    split at h <;> try (cases h; done)
    rename_i u hu
    simp at h; obtain ⟨rfl, rfl⟩ := h
    cases hv' : a.eval x <;> rw [hv'] at hv <;> cases hv
    unfold slcStr at hu
    split at hu <;> try (cases hu; done)
    rename_i hh bh
    split at hu <;> try (cases hu; done)
    rename_i ll bl
    cases hu
    have hb := bounds_run (E := E) (ρ := ρ) (w := w) (isSlice := false) (len := s.length) (cap := s.length) (mx := none) (cm := none) el eh (.inl ⟨rfl, rfl⟩) rfl bh bl (by simp)
    have hmx : mx = none := by
      cases mx with
      | none => rfl
      | some q =>
        simp only [trOpdO, Option.map_eq_some_iff] at hm'
        obtain ⟨_, _, rfl⟩ := hm'
        simp at hmn
    subst hmx
    refine .pure hr (c := .string ((⟨s.toArray⟩ : ByteArray).extract ll hh)) ?_ ?_
    · simp [Go.execOp, ho, hv', Go.Instr.sliceAt, Go.Instr.slice, run_underlying hT, bytes_size, hb]
    · have : (⟨s.toArray⟩ : ByteArray).extract ll hh = ⟨((s.drop ll).take (hh - ll)).toArray⟩ := by
        apply ByteArray.ext
        simp [List.take_drop]
      rw [this]; exact .str _
  · rename_i el' hT
    simp only [Option.map_eq_some_iff] at hx
    obtain ⟨n, hn, rfl⟩ := hx
    simp only [iop] at h
    split at h <;> try (cases h; done)
    rename_i u hu
    simp at h; obtain ⟨rfl, rfl⟩ := h
    have fin : ∀ (c : Option Addr) (len cap : Nat) (l h m : Nat), a.eval x = .slice c len cap → (Go.Instr.sliceBounds true len cap (lo.map a.eval) (hi.map a.eval) (mx.map a.eval)).run E.P w = .ok (l, h, m) w →
        VRel E ρ u (.slice (if m = l then c else c.map (·.add (l * n))) (h - l) (m - l)) → Ok E ρ H w a o nid u H := by
      intro c len cap l h m hv' hb hrel
      refine .pure hr ?_ hrel
      simp [Go.execOp, ho, hv', Go.Instr.sliceAt, Go.Instr.slice, run_underlying hT, hb, sizeOf_run hn]
    unfold islc at hu
    split at hu
    · rename_i e0
      rw [e0] at hv
      cases hv' : a.eval x <;> rw [hv'] at hv <;> cases hv
      obtain ⟨l, h, m, k1, k2⟩ := slcEx_sound (E := E) (ρ := ρ) (w := w) (isSlice := true) (c := none) (.inl ⟨rfl, rfl, rfl, rfl⟩) el eh em hu
      exact fin _ _ _ l h m hv' k1 k2
    · rename_i pa len c e0
      rw [e0] at hv
      cases hv' : a.eval x <;> rw [hv'] at hv <;> cases hv
      rename_i c' ca ha hc
      obtain ⟨l, h, m, k1, k2⟩ := slcEx_sound (E := E) (ρ := ρ) (w := w) (isSlice := true) (c := some ca) (.inr ⟨_, _, rfl, rfl, ha⟩) el eh em hu
      simp only [CRel] at hc
      subst hc
      exact fin _ _ _ l h m hv' k1 k2
    · rename_i pa len e' e0
      rw [e0] at hv
      cases hv' : a.eval x <;> rw [hv'] at hv <;> cases hv
      rename_i cn ca ha hc
      obtain ⟨l, h, m, k1, k2⟩ := slcUn_sound (E := E) (ρ := ρ) (w := w) (isSlice := true) ha hc el eh em hu
      exact fin _ _ _ l h m hv' k1 k2
    · cases hu
  · rename_i k el' hT
    simp only [Option.map_eq_some_iff] at hx
    obtain ⟨n, hn, rfl⟩ := hx
    simp only [iop] at h
    cases e0 : eval t x' <;> rw [e0] at h hv <;> simp at h
    rename_i pa
    split at h <;> try (cases h; done)
    rename_i u hu
    simp at h; obtain ⟨rfl, rfl⟩ := h
    cases hv' : a.eval x <;> rw [hv'] at hv <;> cases hv
    rename_i ca ha
    obtain ⟨l, h, m, k1, k2⟩ := slcEx_sound (E := E) (ρ := ρ) (w := w) (isSlice := false) (c := some ca) (.inr ⟨_, _, rfl, rfl, ha⟩) el eh em hu
    refine .pure hr ?_ k2
    simp [Go.execOp, ho, hv', Go.Instr.sliceAt, run_underlying hT, Go.Instr.sureAddr, k1, sizeOf_run hn]
    split <;> simp

/-! ### Function values, interfaces, the greatest and the least -/

theorem ok_mkf (hC : CfgOk E C) (ht : VRels E ρ t a.tmps.toList) (hr : Rel E ρ H.get H.next w) {o : Oper} {nid : Nat} {fn : Go.Fn} {p q : Array Operand} {io : IOp} (ho : o.op = .makeFunc fn p q) (hx : trOp? E (.makeFunc fn p q) = some io)
    {v : V} {H' : Heap} {cf : CallF} (h : iop cf C nid io t H = some (v, H')) : Ok E ρ H w a o nid v H' := by
  cases fn <;> simp only [trOp?] at hx <;> try (cases hx; done)
  split at hx <;> try (cases hx; done)
  rename_i g l m hg hl hm
  cases hx
  simp [iop] at h; obtain ⟨rfl, rfl⟩ := h
  refine .pure hr (by simp [Go.execOp, ho, Go.Instr.makeFunc]; rfl) ?_
  have := VRel.fn (E := E) (ρ := ρ) g _ _ _ _ _ hg (evals_sound hC ht hl) (evals_sound hC ht hm)
  have e1 : ((p.toList.map a.eval).toArray) = p.map a.eval := by apply Array.ext'; simp
  have e2 : ((q.toList.map a.eval).toArray) = q.map a.eval := by apply Array.ext'; simp
  rw [e1, e2] at this
  exact this

theorem ok_mif (hC : CfgOk E C) (ht : VRels E ρ t a.tmps.toList) (hr : Rel E ρ H.get H.next w) {o : Oper} {nid : Nat} {T : TypeId} {x : Operand} {io : IOp} (ho : o.op = .makeInterface T x) (hx : trOp? E (.makeInterface T x) = some io)
    {v : V} {H' : Heap} {cf : CallF} (h : iop cf C nid io t H = some (v, H')) : Ok E ρ H w a o nid v H' := by
  simp only [trOp?] at hx
  split at hx <;> try (cases hx; done)
  rename_i d y hnot hd hy
  cases hx
  simp [iop] at h; obtain ⟨rfl, rfl⟩ := h
  refine .pure hr (c := .iface T (a.eval x)) ?_ (.iface _ _ _ (eval_sound hC ht hy))
  simp only [Go.execOp, ho, Go.Instr.makeInterface, Sem.run_bind, run_underlying hd, Go.Result.andThen_ok]
  cases d <;> first | rfl | exact absurd rfl (hnot _)

theorem maxF_sound {k : IntKind} : ∀ {l : List V} {us : List Value} {x : Int} {v : V}, imaxF k x l = some v → VRels E ρ l us → ∃ c, (us.foldlM Go.Builtin.max2 (.int k x)).run E.P w = .ok c w ∧ VRel E ρ v c
  | [], us, x, v, h, hl => by cases hl; simp [imaxF] at h; subst h; exact ⟨_, by simp, .int _ _⟩
  | u :: l, us, x, v, h, hl => by
    cases hl
    rename_i c us hu hl
    unfold imaxF at h
    split at h
    · rename_i heq; cases heq
    · rename_i k' y r heq
      cases heq
      split at h <;> try (cases h; done)
      rename_i hk; subst hk
      cases hu
      obtain ⟨c, h1, h2⟩ := maxF_sound h hl
      exact ⟨c, by simp [Go.Builtin.max2, h1], h2⟩
    · cases h

theorem minF_sound {k : IntKind} : ∀ {l : List V} {us : List Value} {x : Int} {v : V}, iminF k x l = some v → VRels E ρ l us → ∃ c, (us.foldlM Go.Builtin.min2 (.int k x)).run E.P w = .ok c w ∧ VRel E ρ v c
  | [], us, x, v, h, hl => by cases hl; simp [iminF] at h; subst h; exact ⟨_, by simp, .int _ _⟩
  | u :: l, us, x, v, h, hl => by
    cases hl
    rename_i c us hu hl
    unfold iminF at h
    split at h
    · rename_i heq; cases heq
    · rename_i k' y r heq
      cases heq
      split at h <;> try (cases h; done)
      rename_i hk; subst hk
      cases hu
      obtain ⟨c, h1, h2⟩ := minF_sound h hl
      exact ⟨c, by simp [Go.Builtin.min2, h1], h2⟩
    · cases h

end
end Im
