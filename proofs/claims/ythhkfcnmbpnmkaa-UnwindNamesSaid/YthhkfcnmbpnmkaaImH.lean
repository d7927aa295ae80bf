/- Each operation but calls, part 3: comparison with ==, conversions, lengths, slice expressions, function values, interfaces. -/
import Derived.Test.YthhkfcnmbpnmkaaImG
namespace Im
open Go (IntKind BinOp UnOp Program World Value Addr TypeId FuncId Code Oper Operand Op TypeDesc Sem Act run_underlying)
open Go.RowKit (Below)

section
variable {E : Env} {C : Cfg} {ρ : Ren} {H : Heap} {w : World} {t : List V} {a : Act}

/-- A value of no kind that has its own comparison. -/
def plainEq : Value → Bool
  | .int .. | .float .. | .complex .. | .string .. => false
  | _ => true

theorem binOp_eql {T : TypeId} {c d : Value} (h : plainEq c = true) : Go.binOp .eql T c d = (do let b ← Go.Op.equal T c d; pure (.bool b)) := by
  cases c <;> simp [plainEq] at h <;> cases d <;> simp [Go.binOp]
theorem binOp_neq {T : TypeId} {c d : Value} (h : plainEq c = true) : Go.binOp .neq T c d = (do let b ← Go.Op.equal T c d; pure (.bool (!b))) := by
  cases c <;> simp [plainEq] at h <;> cases d <;> simp [Go.binOp]

theorem ieq_plain {q : EqT} {u v : V} {b : Bool} {c : Value} (h : ieq q u v = some b) (hu : VRel E ρ u c) (hq : q ≠ .int ∧ q ≠ .str) : plainEq c = true := by
  unfold ieq at h
  split at h <;> first | (cases hu; rfl) | (simp at hq; done) | cases h

theorem isNil_eq {x : Operand} (h : isNil x = true) : x = .const .nilIface := by
  unfold isNil at h
  split at h
  · rfl
  · cases h

theorem eqGuard_ifc {op : BinOp} {T : TypeId} {x y : Operand} {c d : Value} (hn : (isNil x || isNil y) = true) (hc : ∀ l, c ≠ .agg l) : (Go.eqGuard op T x y c d).run E.P w = .ok () w := by
  have key : ∀ (x y : Operand), (x = .const .nilIface ∨ y = .const .nilIface) → (Go.eqGuard op T x y c d).run E.P w = .ok () w := by
    intro x y h
    unfold Go.eqGuard
    rcases h with rfl | rfl
    · cases op <;> cases c <;> first | (exact absurd rfl (hc _)) | (cases d <;> simp)
    · cases op <;> cases c <;> first | (exact absurd rfl (hc _)) | (cases d <;> simp)
  simp only [Bool.or_eq_true] at hn
  exact key x y (hn.imp isNil_eq isNil_eq)

theorem ieq_st_inv {l : List (Nat × Option Nat × EqT)} {u v : V} {b : Bool} (h : ieq (.st l) u v = some b) : ∃ xs ys, u = .agg xs ∧ v = .agg ys := by
  rw [ieq.eq_def] at h
  split at h <;> first | exact ⟨_, _, rfl, rfl⟩ | (rename_i h1; cases h1; done) | cases h

theorem ok_eq (hC : CfgOk E C) (ht : VRels E ρ t a.tmps.toList) (hr : Rel E ρ H.get H.next w) {o : Oper} {nid : Nat} {op : BinOp} {T T' : TypeId} {x y : Operand} {io : IOp} (ho : o.op = .binOp op T x y T')
    (hx : trBin E op T x y = some io) {v : V} {H' : Heap} {cf : CallF} (h : iop cf C nid io t H = some (v, H')) : Ok E ρ H w a o nid v H' := by
  unfold trBin at hx
  split at hx <;> try (cases hx; done)
  rename_i x' y' hx' hy'
  have h1 := eval_sound hC ht hx'
  have h2 := eval_sound hC ht hy'
  have bin : ∀ {io}, io = .bin op x' y' → iop cf C nid io t H = some (v, H') → Ok E ρ H w a o nid v H' := fun e k => ok_bin hC ht hr ho hx' hy' (e ▸ k)
  -- the general case: a comparison by the type
  have gen : ∀ (q : EqT), isEq op = true → (∀ b, ieq q (eval t x') (eval t y') = some b → (Go.Op.equal T (a.eval x) (a.eval y)).run E.P w = .ok b w) → q ≠ .int ∧ q ≠ .str →
      (Go.eqGuard op T x y (a.eval x) (a.eval y)).run E.P w = .ok () w → iop cf C nid (.eq (op == .neq) q x' y') t H = some (v, H') → Ok E ρ H w a o nid v H' := by
    intro q hop heq hq hg k
    simp only [iop] at k
    split at k <;> try (cases k; done)
    rename_i b hb
    simp at k; obtain ⟨rfl, rfl⟩ := k
    have hp := ieq_plain hb h1 hq
    have he := heq b hb
    cases op <;> simp [isEq] at hop
    · exact .pure hr (c := .bool b) (by simp [Go.execOp, ho, hg, binOp_eql hp, he]) (by simpa using VRel.bool b)
    · exact .pure hr (c := .bool (!b)) (by simp [Go.execOp, ho, hg, binOp_neq hp, he]) (by simpa using VRel.bool (!b))
  split at hx
  · rename_i hop
    split at hx
    · cases hx; exact bin rfl h
    · cases hx; exact bin rfl h
    · rename_i ms hT
      split at hx <;> try (cases hx; done)
      rename_i hn
      cases hx
      refine gen .ifc hop (fun b hb => ?_) (by simp) ?_ h
      · exact ieq_sound (E := E) (ρ := ρ) (w := w) 1 T .ifc (by simp [trEq, hT]) _ _ b _ _ hb h1 h2 10000 (by omega)
      · simp only [iop] at h
        split at h <;> try (cases h; done)
        rename_i b hb
        refine eqGuard_ifc hn fun l hl => ?_
        rw [hl] at h1
        cases e3 : eval t x' <;> rw [e3] at h1 <;> cases h1
        rw [e3] at hb; simp [ieq] at hb
    · rename_i fs hT
      split at hx <;> try (cases hx; done)
      rename_i hgt
      simp only [Option.map_eq_some_iff] at hx
      obtain ⟨q, hq, rfl⟩ := hx
      have hst : ∃ l, q = .st l := by
        rcases trEq_inv hq with ⟨_, h⟩ | ⟨_, _, h⟩ | ⟨_, h⟩ | ⟨_, _, h⟩ | ⟨_, _, h⟩ | ⟨_, _, _, h⟩ | ⟨_, _, _, _, h⟩ | ⟨_, _, h⟩ | ⟨_, l, _, _, _, h⟩
        iterate 8 (rw [hT] at h; cases h)
        exact ⟨l, h⟩
      obtain ⟨l, rfl⟩ := hst
      refine gen _ hop (fun b hb => ieq_sound (E := E) (ρ := ρ) (w := w) 20 T _ hq _ _ b _ _ hb h1 h2 10000 (by omega)) (by simp) ?_ h
      simp only [iop] at h
      split at h <;> try (cases h; done)
      rename_i b hb
      obtain ⟨xs, ys, e1, e2⟩ := ieq_st_inv hb
      rw [e1] at h1; rw [e2] at h2
      cases e3 : a.eval x <;> rw [e3] at h1 <;> cases h1
      cases e4 : a.eval y <;> rw [e4] at h2 <;> cases h2
      exact Go.run_eqGuard_agg _ _ _ _ _ _ _ (by simpa using hgt)
    · rename_i n1 n2 n3 n4
      simp only [Option.map_eq_some_iff] at hx
      obtain ⟨q, hq, rfl⟩ := hx
      have hi := trEq_inv hq
      have hqq : q ≠ .int ∧ q ≠ .str ∧ q ≠ .ifc ∧ ∀ l, q ≠ .st l := by
        rcases hi with ⟨e, h⟩ | ⟨_, _, h⟩ | ⟨_, h⟩ | ⟨e, _, h⟩ | ⟨e, _, h⟩ | ⟨e, _, _, h⟩ | ⟨e, _, _, _, h⟩ | ⟨_, _, h⟩ | ⟨_, _, h, _⟩
        · subst e; simp
        · exact absurd h (n1 _)
        · exact absurd h n2
        · subst e; simp
        · subst e; simp
        · subst e; simp
        · subst e; simp
        · exact absurd h (n3 _)
        · exact absurd h (n4 _)
      refine gen q hop (fun b hb => ieq_sound (E := E) (ρ := ρ) (w := w) 20 T _ hq _ _ b _ _ hb h1 h2 10000 (by omega)) ⟨hqq.1, hqq.2.1⟩ ?_ h
      simp only [iop] at h
      split at h <;> try (cases h; done)
      rename_i b hb
      refine eqGuard_run ?_
      generalize eval t x' = u at hb h1
      generalize eval t y' = u' at hb h2
      generalize a.eval x = c at h1 ⊢
      clear hi gen bin hq h
      unfold ieq at hb
      split at hb <;> first | (cases h1; simp; done) | (simp at hqq; done) | cases hb
  · rename_i hop
    split at hx <;> try (cases hx; done)
    all_goals (cases hx; exact bin rfl h)

end
end Im
