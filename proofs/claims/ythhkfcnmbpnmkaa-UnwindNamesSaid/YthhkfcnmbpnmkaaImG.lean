/- Each operation but calls, part 2: arithmetic, comparison, conversions, slice expressions, lengths. -/
import Derived.Test.YthhkfcnmbpnmkaaImF
import Derived.Laws.StructEq
namespace Im
open Go (IntKind BinOp UnOp Program World Value Addr TypeId FuncId Code Oper Operand Op TypeDesc Sem Act run_underlying)
open Go.RowKit (Below)

section
variable {E : Env} {C : Cfg} {ρ : Ren} {H : Heap} {w : World} {t : List V} {a : Act}

theorem bytes_append (x y : List UInt8) : (⟨x.toArray⟩ : ByteArray) ++ (⟨y.toArray⟩ : ByteArray) = ⟨(x ++ y).toArray⟩ := by
  apply ByteArray.ext
  rw [ByteArray.data_append]
  simp

theorem bytes_size (x : List UInt8) : (⟨x.toArray⟩ : ByteArray).size = x.length := by simp [ByteArray.size]

theorem ibits_sound {op : BinOp} {k : IntKind} {x y : Int} {v : V} (h : ibits op k x y = some v) : ∃ c, (Go.Op.intBits op k x y).run E.P w = .ok c w ∧ VRel E ρ v c := by
  simp only [ibits] at h
  cases op <;> simp only at h <;> try (cases h; done)
  all_goals (cases h; exact ⟨_, by simp only [Go.Op.intBits]; rfl, .int _ _⟩)

theorem ibin_sound {op : BinOp} {T : TypeId} {u v r : V} {c d : Value} (h : ibin op u v = some r) (hu : VRel E ρ u c) (hv : VRel E ρ v d) :
    ∃ r', (Go.binOp op T c d).run E.P w = .ok r' w ∧ VRel E ρ r r' := by
  cases hu <;> cases hv <;> simp only [ibin] at h <;> try (cases h; done)
  · rename_i k n k' n'
    have bits : ∀ (op : BinOp) (_ : (Go.binOp op T (.int k n) (.int k n')) = Go.Op.intBits op k n n'), ibits op k n n' = some r →
        ∃ r', (Go.binOp op T (.int k n) (.int k n')).run E.P w = .ok r' w ∧ VRel E ρ r r' := by
      intro op he hb
      obtain ⟨c, h1, h2⟩ := ibits_sound (E := E) (ρ := ρ) (w := w) hb
      exact ⟨c, by rw [he]; exact h1, h2⟩
    cases op <;> simp only at h
    case shl => split at h <;> try (cases h; done)
                rename_i hz; cases h; exact ⟨_, by simp [Go.binOp, Go.Op.shift, hz], .int _ _⟩
    case shr => split at h <;> try (cases h; done)
                rename_i hz; cases h; exact ⟨_, by simp [Go.binOp, Go.Op.shift, hz], .int _ _⟩
    all_goals
      split at h <;> try (cases h; done)
      rename_i hk; subst hk
    case int.int.add.isTrue | int.int.sub.isTrue | int.int.mul.isTrue => cases h; exact ⟨_, by simp [Go.binOp, Go.Op.intArith], .int _ _⟩
    case int.int.quo.isTrue | int.int.rem.isTrue =>
      split at h <;> try (cases h; done)
      rename_i hz
      cases h; exact ⟨_, by simp [Go.binOp, Go.Op.intDiv, hz], .int _ _⟩
    case int.int.eql.isTrue =>
      cases h
      refine ⟨_, by simp [Go.binOp, Go.Op.intCmp]; rfl, ?_⟩
      rw [show (n == n') = decide (n = n') from by rw [Bool.eq_iff_iff]; simp]; exact .bool _
    case int.int.neq.isTrue =>
      cases h
      refine ⟨_, by simp only [Go.binOp, Go.Op.intCmp, if_neg (show ¬ k ≠ k by simp), Sem.run_pure]; rfl, ?_⟩
      rw [show (n != n') = !decide (n = n') from by simp only [bne]; rw [show (n == n') = decide (n = n') from by rw [Bool.eq_iff_iff]; simp]]; exact .bool _
    case int.int.lss.isTrue | int.int.leq.isTrue | int.int.gtr.isTrue | int.int.geq.isTrue =>
      cases h
      exact ⟨_, by simp only [Go.binOp, Go.Op.intCmp, if_neg (show ¬ k ≠ k by simp), Sem.run_pure], .bool _⟩
    case int.int.and.isTrue | int.int.or.isTrue | int.int.xor.isTrue | int.int.andNot.isTrue => exact bits _ (by simp [Go.binOp]) h
  · rename_i s s'
    cases op <;> simp only at h <;> try (cases h; done)
    · split at h <;> try (cases h; done)
      rename_i hl
      cases h
      refine ⟨.string ⟨(s ++ s').toArray⟩, ?_, .str _⟩
      simp only [Go.binOp, Go.Op.stringOp, bytes_size, bytes_append]
      rw [if_neg (by have : Go.IntKind.i64.max = 9223372036854775807 := by decide
                     rw [this]; omega)]
      simp
    all_goals
      cases h
      refine ⟨_, by simp only [Go.binOp, Go.Op.stringOp, Go.ByteArray.toList_mk, Sem.run_pure]; rfl, ?_⟩
      try simp only [beqBytes_eq]
      try rw [show (s == s') = decide (s = s') from by rw [Bool.eq_iff_iff]; simp]
      exact .bool _

theorem eqGuard_run {op : BinOp} {T : TypeId} {x y : Operand} {c d : Value} (h : (∀ l, c ≠ .agg l) ∧ c ≠ .nilIface) : (Go.eqGuard op T x y c d).run E.P w = .ok () w := by
  unfold Go.eqGuard
  cases op <;> cases c <;> simp at h ⊢

theorem ok_bin (hC : CfgOk E C) (ht : VRels E ρ t a.tmps.toList) (hr : Rel E ρ H.get H.next w) {o : Oper} {nid : Nat} {op : BinOp} {T T' : TypeId} {x y : Operand} {x' y' : Opd} (ho : o.op = .binOp op T x y T')
    (hx : trOpd E x = some x') (hy : trOpd E y = some y') {v : V} {H' : Heap} {cf : CallF} (h : iop cf C nid (.bin op x' y') t H = some (v, H')) : Ok E ρ H w a o nid v H' := by
  have h1 := eval_sound hC ht hx
  have h2 := eval_sound hC ht hy
  simp only [iop] at h
  split at h
  · rename_i r hb
    simp at h; obtain ⟨rfl, rfl⟩ := h
    obtain ⟨c, hc, hcv⟩ := ibin_sound (w := w) (T := T) hb h1 h2
    refine .pure hr (c := c) ?_ hcv
    have hg : (∀ l, a.eval x ≠ .agg l) ∧ a.eval x ≠ .nilIface := by
      cases e : eval t x' <;> rw [e] at hb h1 <;> simp only [ibin] at hb <;> try (cases hb; done)
      all_goals (cases e' : a.eval x <;> rw [e'] at h1 <;> cases h1 <;> simp)
    simp [Go.execOp, ho, eqGuard_run hg, hc]
  · cases h

/-- What kind of type a comparison stands for. -/
theorem trEq_inv {k : Nat} {T : TypeId} {q : EqT} (h : trEq E.P (k + 1) T = some q) :
    (q = .bool ∧ E.P.underlying T = some .bool) ∨ (q = .int ∧ ∃ i, E.P.underlying T = some (.int i)) ∨ (q = .str ∧ E.P.underlying T = some .string) ∨
    (q = .ptr ∧ ∃ e, E.P.underlying T = some (.pointer e)) ∨ (q = .slc ∧ ∃ e, E.P.underlying T = some (.slice e)) ∨ (q = .map ∧ ∃ x y, E.P.underlying T = some (.map x y)) ∨
    (q = .fn ∧ ∃ x y z, E.P.underlying T = some (.func x y z)) ∨ (q = .ifc ∧ ∃ x, E.P.underlying T = some (.interface x)) ∨
    (∃ fs l, E.P.underlying T = some (.struct fs) ∧ E.P.stoodInHeld T = false ∧ trFields (trEq E.P k) E.P fs.toList = some l ∧ q = .st l) := by
  unfold trEq at h
  split at h <;> try (cases h; done)
  all_goals rename_i hT
  case h_9 fs =>
    split at h
    · cases h
    rename_i hst
    simp only [Option.map_eq_some_iff] at h
    obtain ⟨l, hl, rfl⟩ := h
    exact .inr (.inr (.inr (.inr (.inr (.inr (.inr (.inr ⟨_, l, hT, by simpa using hst, hl, rfl⟩)))))))
  all_goals
    cases h
    simp [hT]

theorem ieqs_sound (k : Nat) (ieq_sound : ∀ (T : TypeId) (q : EqT), trEq E.P k T = some q → ∀ (u v : V) (b : Bool) (c d : Value), ieq q u v = some b → VRel E ρ u c → VRel E ρ v d →
    ∀ n, k ≤ n → (Go.Op.equalIn n T c d).run E.P w = .ok b w) : ∀ (fs : List Go.Field) (l : List (Nat × Option Nat × EqT)), trFields (trEq E.P k) E.P fs = some l →
    ∀ (xs ys : List V) (b : Bool) (xs' ys' : List Value), ieqs l xs ys = some b → VRels E ρ xs xs' → VRels E ρ ys ys' → ∀ n, k ≤ n → (Go.Op.eqFields n xs'.toArray ys'.toArray fs).run E.P w = .ok b w
  | [], l, h => by
    intro xs ys b xs' ys' hb _ _ n _
    simp [trFields] at h; subst h
    simp [ieqs] at hb; subst hb
    simp [Go.Op.eqFields]
  | f :: fs, l, h => by
    intro xs ys b xs' ys' hb hx hy n hn
    unfold trFields at h
    split at h
    · rename_i hname
      simp only [Go.Op.eqFields, if_neg (show ¬ f.name ≠ "_" by simpa using hname)]
      exact ieqs_sound k ieq_sound fs l h xs ys b xs' ys' hb hx hy n hn
    rename_i hname
    split at h <;> try (cases h; done)
    rename_i e m l' hq hm hl'
    cases h
    have hd : ∃ d, E.P.underlying f.type = some d := by
      cases k with
      | zero => simp [trEq] at hq
      | succ k => unfold trEq at hq; split at hq <;> first | exact ⟨_, by assumption⟩ | cases hq
    obtain ⟨d, hd⟩ := hd
    have htail := ieqs_sound k ieq_sound fs l' hl' xs ys
    simp only [Go.Op.eqFields, if_pos (show f.name ≠ "_" from hname)]
    by_cases hg : isAgg E.P f.type = true
    · rw [if_pos hg] at hb
      simp only [ieqs] at hb
      have e1 := part_run_agg hd hm hg xs'.toArray f.offset w
      have e2 := part_run_agg hd hm hg ys'.toArray f.offset w
      have r1 := extract_rel hx f.offset m
      have r2 := extract_rel hy f.offset m
      split at hb <;> try (cases hb; done)
      · rename_i he
        have := ieq_sound f.type e hq _ _ _ _ _ he r1 r2 n hn
        simp only [Sem.run_bind, e1, e2, this, Go.Result.andThen_ok, Bool.not_true, Bool.false_eq_true, if_false]
        exact htail b xs' ys' hb hx hy n hn
      · rename_i he
        have := ieq_sound f.type e hq _ _ _ _ _ he r1 r2 n hn
        cases hb
        simp only [Sem.run_bind, e1, e2, this, Go.Result.andThen_ok, Bool.not_false, if_true, Sem.run_pure]
    · rw [if_neg hg] at hb
      simp only [ieqs] at hb
      split at hb <;> try (cases hb; done)
      rename_i x y hx0 hy0
      obtain ⟨cx, hcx, rx⟩ := hx.get _ _ hx0
      obtain ⟨cy, hcy, ry⟩ := hy.get _ _ hy0
      have e1 := part_run_one hd (by simpa using hg) xs'.toArray f.offset cx (by simpa using hcx) w
      have e2 := part_run_one hd (by simpa using hg) ys'.toArray f.offset cy (by simpa using hcy) w
      split at hb <;> try (cases hb; done)
      · rename_i he
        have := ieq_sound f.type e hq _ _ _ _ _ he rx ry n hn
        simp only [Sem.run_bind, e1, e2, this, Go.Result.andThen_ok, Bool.not_true, Bool.false_eq_true, if_false]
        exact htail b xs' ys' hb hx hy n hn
      · rename_i he
        have := ieq_sound f.type e hq _ _ _ _ _ he rx ry n hn
        cases hb
        simp only [Sem.run_bind, e1, e2, this, Go.Result.andThen_ok, Bool.not_false, if_true, Sem.run_pure]

theorem ieq_sound : ∀ (k : Nat) (T : TypeId) (q : EqT), trEq E.P k T = some q → ∀ (u v : V) (b : Bool) (c d : Value), ieq q u v = some b → VRel E ρ u c → VRel E ρ v d →
    ∀ n, k ≤ n → (Go.Op.equalIn n T c d).run E.P w = .ok b w
  | 0, _, _, h => by simp [trEq] at h
  | k + 1, T, q, h => by
    intro u v b c d hb hu hv n hn
    obtain ⟨n, rfl⟩ : ∃ m, n = m + 1 := ⟨n - 1, by omega⟩
    have hi := trEq_inv h
    unfold ieq at hb
    split at hb
    case h_19 xs ys =>
      rcases hi with h1 | h1 | h1 | h1 | h1 | h1 | h1 | h1 | ⟨fs, l, hT, hst, hl, hq⟩
      iterate 8 (simp at h1)
      cases hq
      cases hu; cases hv
      rename_i xs' hxs ys' hys
      have hf : E.P.fieldsOf T = fs := by simp [Go.Program.fieldsOf, hT]
      rw [Go.run_equalIn_agg _ _ _ _ _ (by rw [hf]; exact hT) (by simpa using hst), hf]
      exact ieqs_sound k (ieq_sound k) fs.toList _ hl _ _ b xs' ys' hb hxs hys n (by omega)
    case h_20 => cases hb
    all_goals simp only [reduceCtorEq, false_and, exists_false, or_false, false_or, true_and, and_false] at hi
    case h_2 =>
      obtain ⟨i, hT⟩ := hi
      split at hb <;> try (cases hb; done)
      rename_i hk; subst hk; cases hb
      cases hu; cases hv
      simp [Go.Op.equalIn, run_underlying hT]
      rw [Bool.eq_iff_iff]; simp
    case h_3 =>
      cases hb; cases hu; cases hv
      simp [Go.Op.equalIn, run_underlying hi, Go.beq_toListBytes, beqBytes_eq]
      rw [Bool.eq_iff_iff]; simp
    case h_1 =>
      cases hb; cases hu; cases hv
      simp [Go.Op.equalIn, run_underlying hi]
    case h_10 | h_11 | h_12 =>
      obtain ⟨x, y, hT⟩ := hi
      cases hb; cases hu; cases hv
      simp [Go.Op.equalIn, run_underlying hT]
    case h_13 | h_14 | h_15 =>
      obtain ⟨x, y, z, hT⟩ := hi
      cases hb; cases hu <;> cases hv
      all_goals simp [Go.Op.equalIn, run_underlying hT]
    all_goals
      obtain ⟨i, hT⟩ := hi
      cases hb; cases hu; cases hv
      simp [Go.Op.equalIn, run_underlying hT]

end
end Im
