/- More fuel, more answers; never another one ('icall_le'). -/
import Derived.Test.YthhkfcnmbpnmkaaImX
namespace Im
open Go (IntKind BinOp UnOp)

/-- What the one answers the other answers too. -/
def Le (a b : CallF) : Prop := ∀ c args H r, a c args H = some r → b c args H = some r

section
variable {a b : CallF} (hab : Le a b) {C : Cfg}
include hab

theorem iop_le {nid : Nat} {op : IOp} {t : List V} {H : Heap} {r : V × Heap} (h : iop a C nid op t H = some r) : iop b C nid op t H = some r := by
  cases op <;> simp only [iop] at h ⊢ <;> try exact h
  case call f args => exact hab _ _ _ _ h
  case callv x args =>
    unfold icallv at h ⊢
    split at h <;> first | exact hab _ _ _ _ h | cases h

theorem istep_le {nid : Nat} {o : IOper} {t : List V} {H : Heap} {r : List V × Heap} (h : istep a C nid o t H = some r) : istep b C nid o t H = some r := by
  unfold istep at h ⊢
  split at h
  · rename_i hw
    rw [if_pos hw]
    split at h <;> try (cases h; done)
    rename_i h1
    rw [iop_le hab h1]; exact h
  · rename_i hw
    rw [if_neg hw]; exact h

theorem iops_le : ∀ (l : List IOper) (t : List V) (H : Heap) (r : List V × Heap), iops a C l t H = some r → iops b C l t H = some r
  | [], _, _, _, h => h
  | o :: l, t, H, r, h => by
    simp only [iops] at h ⊢
    split at h <;> try (cases h; done)
    rename_i h1
    rw [istep_le hab h1]
    exact iops_le l _ _ _ h

theorem dstep_le {base : Nat} {mats : List (Nat × List Nat)} {i : Nat} {o : IOper} {t : List V} {A : Heap} {pend : List (Nat × Obj)} {r : Rec × List V × Heap × List (Nat × Obj)}
    (h : dstep a C base mats i o t A pend = some r) : dstep b C base mats i o t A pend = some r := by
  unfold dstep at h ⊢
  split at h
  · rename_i hw
    rw [if_pos hw]
    generalize clsOf o.op = k at h ⊢
    rcases k with _ | _ | _ | k <;> simp only at h ⊢ <;> split at h <;> try (cases h; done)
    all_goals
      rename_i h1
      rw [iop_le hab h1]; exact h
  · rename_i hw
    rw [if_neg hw]; exact h

theorem drun_le {base : Nat} {mats : List (Nat × List Nat)} : ∀ (os : List IOper) (i : Nat) (t : List V) (A : Heap) (pend : List (Nat × Obj)) (r : List Rec × List V × Heap), drun a C base mats os i t A pend = some r → drun b C base mats os i t A pend = some r
  | [], _, _, _, _, _, h => h
  | o :: os, i, t, A, pend, r, h => by
    simp only [drun] at h ⊢
    split at h <;> try (cases h; done)
    rename_i h1
    rw [dstep_le hab h1]
    simp only
    split at h <;> try (cases h; done)
    rename_i h2
    rw [drun_le os _ _ _ _ _ h2]; exact h

theorem iregD_le {os : List IOper} {mats : List (Nat × List Nat)} {prs : List (Nat × Nat)} {t : List V} {H : Heap} {r : List V × Heap} (h : iregD a C os mats prs t H = some r) : iregD b C os mats prs t H = some r := by
  unfold iregD at h ⊢
  split at h <;> try (cases h; done)
  rename_i h1
  rw [drun_le hab _ _ _ _ _ _ h1]; exact h

theorem irng_le {ro : Option Nat} {f : V} {ps : List Nat} {x y : ICode} {t : List V} {H : Heap} {d : List Nat} {r : IExit × List V × Heap × List Nat} (h : irng a ro f ps x y t H d = some r) : irng b ro f ps x y t H d = some r := by
  unfold irng at h ⊢
  split at h <;> try (cases h; done)
  simp only at h ⊢
  split at h <;> try (cases h; done)
  split at h <;> try (cases h; done)
  rename_i h1
  rw [hab _ _ _ _ h1]; exact h

theorem exec_le {N M : Nat} (hNM : N ≤ M) {ro : Option Nat} : ∀ (c : ICode) (t : List V) (H : Heap) (d : List Nat) (r : IExit × List V × Heap × List Nat), exec a C N ro c t H d = some r → exec b C M ro c t H d = some r := by
  intro c
  induction c with
  | skip | exit _ | ret | bad => intro t H d r h; exact h
  | reg os =>
    intro t H d r h
    simp only [exec] at h ⊢
    split at h <;> try (cases h; done)
    rename_i h1
    rw [iops_le hab _ _ _ _ h1]; exact h
  | regD os mats prs =>
    intro t H d r h
    simp only [exec] at h ⊢
    split at h <;> try (cases h; done)
    rename_i h1
    rw [iregD_le hab h1]; exact h
  | seq x y ihx ihy =>
    intro t H d r h
    simp only [exec] at h ⊢
    split at h
    · rename_i h1
      rw [ihx _ _ _ _ h1]; exact ihy _ _ _ _ h
    · rename_i hne
      have := ihx _ _ _ _ h
      rw [this]
      obtain ⟨e, t', H', d'⟩ := r
      cases e with
      | nrm => exact absurd h (hne _ _ _)
      | ex k => rfl
      | rt => rfl
  | cond x y z ihy ihz =>
    intro t H d r h
    simp only [exec] at h ⊢
    split at h <;> first | (cases h; done) | exact ihy _ _ _ _ h | exact ihz _ _ _ _ h
  | block id x ih =>
    intro t H d r h
    simp only [exec] at h ⊢
    split at h
    · rename_i h1
      rw [ih _ _ _ _ h1]; exact h
    · rename_i hne
      rw [ih _ _ _ _ h]
      obtain ⟨e, t', H', d'⟩ := r
      cases e with
      | nrm => rfl
      | ex k => exact absurd h (hne _ _ _ _)
      | rt => rfl
  | scope x ih =>
    intro t H d r h
    simp only [exec] at h ⊢
    exact ih _ _ _ _ h
  | loop x ih =>
    intro t H d r h
    simp only [exec] at h ⊢
    have key : ∀ (n m : Nat) (t : List V) (H : Heap) (d : List Nat), n ≤ m → iter (exec a C N ro x) n t H d = some r → iter (exec b C M ro x) m t H d = some r := by
      intro n
      induction n with
      | zero => intro m t H d _ h; simp only [iter] at h; cases h
      | succ n ihn =>
        intro m t H d hm h
        obtain ⟨m', rfl⟩ : ∃ m', m = m' + 1 := ⟨m - 1, by omega⟩
        simp only [iter] at h ⊢
        split at h
        · rename_i h1
          rw [ih _ _ _ _ h1]
          exact ihn m' _ _ _ (by omega) h
        · rename_i hne
          rw [ih _ _ _ _ h]
          obtain ⟨e, t', H', d'⟩ := r
          cases e with
          | nrm => exact absurd h (hne _ _ _)
          | ex k => rfl
          | rt => rfl
    exact key N M t H d hNM h
  | rng f ps x y _ _ =>
    intro t H d r h
    simp only [exec] at h ⊢
    exact irng_le hab h

theorem ifun_le {N M : Nat} (hNM : N ≤ M) {F : IFun} {args : List V} {H : Heap} {r : V × Heap} (h : ifun a C N F args H = some r) : ifun b C M F args H = some r := by
  unfold ifun at h ⊢
  split at h <;> try (cases h; done)
  · rename_i h1; rw [exec_le hab hNM _ _ _ _ _ h1]; exact h
  · rename_i h1; rw [exec_le hab hNM _ _ _ _ _ h1]; exact h

theorem irnd_le {N M : Nat} (hNM : N ≤ M) {l : Nat} {args : List V} {H : Heap} {r : V × Heap} (h : irnd a C N l args H = some r) : irnd b C M l args H = some r := by
  unfold irnd at h ⊢
  split at h <;> try (cases h; done)
  rename_i hg
  split at h <;> try (cases h; done)
  rename_i hl
  rw [if_neg hl]
  split at h <;> try (cases h; done)
  rename_i h1
  rw [exec_le hab hNM _ _ _ _ _ h1]
  simp only
  split at h <;> try (cases h; done)
  split at h <;> try (cases h; done)
  rename_i hs
  rw [if_neg hs]
  split at h <;> try (cases h; done)
  rename_i h2
  rw [exec_le hab hNM _ _ _ _ _ h2]; exact h

end

theorem icall_step (C : Cfg) : ∀ n, Le (icall C n) (icall C (n + 1))
  | 0 => fun c args H r h => by simp only [icall] at h; cases h
  | n + 1 => fun c args H r h => by
    have ih := icall_step C n
    rw [icall] at h ⊢
    cases c with
    | fn f =>
      simp only at h ⊢
      split at h
      · exact h
      · split at h <;> try (cases h; done)
        exact ifun_le ih (Nat.le_succ n) h
    | rnd l => exact irnd_le ih (Nat.le_succ n) h

theorem icall_le (C : Cfg) {n m : Nat} (h : n ≤ m) : Le (icall C n) (icall C m) := by
  induction m with
  | zero => have : n = 0 := by omega
            subst this; exact fun _ _ _ _ h => h
  | succ m ih =>
    rcases Nat.lt_or_ge n (m + 1) with h1 | h1
    · exact fun c args H r k => icall_step C m c args H r (ih (by omega) c args H r k)
    · have : n = m + 1 := by omega
      subst this; exact fun _ _ _ _ h => h

end Im
