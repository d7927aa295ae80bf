/- Laws of the ideal heap: a finite map; equality by program. -/
import Derived.Test.YthhkfcnmbpnmkaaImA
namespace Im
open Go (IntKind BinOp UnOp)

variable {α : Type}

theorem Tr.get_single (v : Option α) : ∀ (k n i : Nat), n < k → (Tr.single v k n).get i = if i = n then v else none := by
  intro k
  induction k with
  | zero => intro n i h; omega
  | succ k ih =>
    intro n i h
    unfold Tr.single
    by_cases h0 : n = 0
    · subst h0
      simp only [if_true, Tr.get]
      by_cases hi : i = 0
      · simp [hi]
      · simp only [hi, if_false]; split <;> simp [Tr.get]
    · rw [if_neg h0]
      by_cases h1 : n % 2 = 1
      · rw [if_pos h1]
        simp only [Tr.get]
        by_cases hi : i = 0
        · rw [if_pos hi, if_neg (by omega)]
        · rw [if_neg hi]
          by_cases hi2 : i % 2 = 1
          · rw [if_pos hi2, ih _ _ (by omega)]
            by_cases e : i / 2 = n / 2
            · rw [if_pos e, if_pos (by omega)]
            · rw [if_neg e, if_neg (by omega)]
          · rw [if_neg hi2, if_neg (by omega)]
      · rw [if_neg h1]
        simp only [Tr.get]
        by_cases hi : i = 0
        · rw [if_pos hi, if_neg (by omega)]
        · rw [if_neg hi]
          by_cases hi2 : i % 2 = 1
          · rw [if_pos hi2, if_neg (by omega)]
          · rw [if_neg hi2, ih _ _ (by omega)]
            by_cases e : i / 2 - 1 = n / 2 - 1
            · rw [if_pos e, if_pos (by omega)]
            · rw [if_neg e, if_neg (by omega)]

theorem Tr.get_set (m : Tr α) (v : Option α) : ∀ (n i : Nat), (m.set n v).get i = if i = n then v else m.get i := by
  induction m with
  | nil => intro n i; simp only [Tr.set, Tr.get]; exact Tr.get_single v (n + 1) n i (by omega)
  | node l u r ihl ihr =>
    intro n i
    unfold Tr.set
    by_cases h0 : n = 0
    · subst h0
      rw [if_pos rfl]; simp only [Tr.get]
      by_cases hi : i = 0
      · simp [hi]
      · simp [hi]
    · rw [if_neg h0]
      by_cases h1 : n % 2 = 1
      · rw [if_pos h1]
        simp only [Tr.get]
        by_cases hi : i = 0
        · rw [if_pos hi, if_neg (by omega), if_pos hi]
        · rw [if_neg hi, if_neg hi]
          by_cases hi2 : i % 2 = 1
          · rw [if_pos hi2, if_pos hi2, ihl]
            by_cases e : i / 2 = n / 2
            · rw [if_pos e, if_pos (by omega)]
            · rw [if_neg e, if_neg (by omega)]
          · rw [if_neg hi2, if_neg hi2, if_neg (by omega)]
      · rw [if_neg h1]
        simp only [Tr.get]
        by_cases hi : i = 0
        · rw [if_pos hi, if_neg (by omega), if_pos hi]
        · rw [if_neg hi, if_neg hi]
          by_cases hi2 : i % 2 = 1
          · rw [if_pos hi2, if_pos hi2, if_neg (by omega)]
          · rw [if_neg hi2, if_neg hi2, ihr]
            by_cases e : i / 2 - 1 = n / 2 - 1
            · rw [if_pos e, if_pos (by omega)]
            · rw [if_neg e, if_neg (by omega)]

theorem Heap.get_put (H : Heap) (id : Nat) (o : Obj) (i : Nat) : (H.put id o).get i = if i = id then some o else H.get i := Tr.get_set _ _ _ _
theorem Heap.get_put_self (H : Heap) (id : Nat) (o : Obj) : (H.put id o).get id = some o := by rw [Heap.get_put, if_pos rfl]
theorem Heap.get_put_ne (H : Heap) {id i : Nat} (o : Obj) (h : i ≠ id) : (H.put id o).get i = H.get i := by rw [Heap.get_put, if_neg h]
theorem Heap.get_del (H : Heap) (id i : Nat) : (H.del id).get i = if i = id then none else H.get i := Tr.get_set _ _ _ _
theorem Heap.get_bump (H : Heap) (n i : Nat) : (H.bump n).get i = H.get i := rfl
theorem Heap.next_put (H : Heap) (id : Nat) (o : Obj) : (H.put id o).next = if id < H.next then H.next else id + 1 := rfl
theorem Heap.next_del (H : Heap) (id : Nat) : (H.del id).next = H.next := rfl
theorem Heap.next_le_put (H : Heap) (id : Nat) (o : Obj) : H.next ≤ (H.put id o).next := by rw [Heap.next_put]; split <;> omega
theorem Heap.id_lt_put (H : Heap) (id : Nat) (o : Obj) : id < (H.put id o).next := by rw [Heap.next_put]; split <;> omega

theorem beqBytes_iff : ∀ (a b : List UInt8), beqBytes a b = true ↔ a = b
  | [], [] => by simp [beqBytes]
  | [], _ :: _ => by simp [beqBytes]
  | _ :: _, [] => by simp [beqBytes]
  | a :: x, b :: y => by
    simp only [beqBytes, Bool.and_eq_true, beqBytes_iff x y, List.cons.injEq, beq_iff_eq]
    constructor
    · rintro ⟨h1, h2⟩; exact ⟨UInt8.toNat_inj.1 h1, h2⟩
    · rintro ⟨h1, h2⟩; exact ⟨by rw [h1], h2⟩

theorem beqBytes_eq (a b : List UInt8) : beqBytes a b = decide (a = b) := by
  rw [Bool.eq_iff_iff, beqBytes_iff]; simp

theorem Reg.beq_iff (a b : Reg) : a.beq b = true ↔ a = b := by cases a <;> cases b <;> simp [Reg.beq]
theorem PA.beq_iff (a b : PA) : a.beq b = true ↔ a = b := by
  cases a; cases b; simp [PA.beq, Reg.beq_iff, and_assoc]
theorem Cap.beq_iff (a b : Cap) : a.beq b = true ↔ a = b := by cases a <;> cases b <;> simp [Cap.beq]

mutual
theorem V.beq_eq : ∀ (a b : V), V.beq a b = true → a = b
  | .int .., b => by cases b <;> simp [V.beq]
  | .bool .., b => by cases b <;> simp [V.beq]
  | .str .., b => by cases b <;> simp [V.beq, beqBytes_iff]
  | .nilp, b => by cases b <;> simp [V.beq]
  | .ptr .., b => by cases b <;> simp [V.beq, PA.beq_iff]
  | .nils, b => by cases b <;> simp [V.beq]
  | .slice .., b => by cases b <;> simp [V.beq, PA.beq_iff, Cap.beq_iff, and_assoc]
  | .nilm, b => by cases b <;> simp [V.beq]
  | .map .., b => by cases b <;> simp [V.beq]
  | .nilf, b => by cases b <;> simp [V.beq]
  | .fn f p q, b => by
    cases b <;> simp only [V.beq, Bool.and_eq_true, beq_iff_eq, Bool.false_eq_true, false_implies, reduceCtorEq]
    rename_i f' p' q'
    rintro ⟨⟨h1, h2⟩, h3⟩
    rw [h1, V.beqs_eq p p' h2, V.beqs_eq q q' h3]
  | .yld .., b => by cases b <;> simp [V.beq]
  | .nili, b => by cases b <;> simp [V.beq]
  | .iface t v, b => by
    cases b <;> simp only [V.beq, Bool.and_eq_true, beq_iff_eq, Bool.false_eq_true, false_implies, reduceCtorEq]
    rintro ⟨h1, h2⟩
    rw [h1, V.beq_eq v _ h2]
  | .agg l, b => by
    cases b <;> simp only [V.beq, Bool.false_eq_true, false_implies, reduceCtorEq]
    intro h; rw [V.beqs_eq l _ h]
  | .tup l, b => by
    cases b <;> simp only [V.beq, Bool.false_eq_true, false_implies, reduceCtorEq]
    intro h; rw [V.beqs_eq l _ h]
theorem V.beqs_eq : ∀ (a b : List V), V.beqs a b = true → a = b
  | [], b => by cases b <;> simp [V.beqs]
  | x :: xs, b => by
    cases b with
    | nil => simp [V.beqs]
    | cons y ys =>
      simp only [V.beqs, Bool.and_eq_true]
      rintro ⟨h1, h2⟩
      rw [V.beq_eq x y h1, V.beqs_eq xs ys h2]
end

mutual
theorem V.beq_refl : ∀ (a : V), V.beq a a = true
  | .int .. => by simp [V.beq]
  | .bool .. => by simp [V.beq]
  | .str .. => by simp [V.beq, beqBytes_iff]
  | .nilp => by simp [V.beq]
  | .ptr .. => by simp [V.beq, PA.beq_iff]
  | .nils => by simp [V.beq]
  | .slice .. => by simp [V.beq, PA.beq_iff, Cap.beq_iff]
  | .nilm => by simp [V.beq]
  | .map .. => by simp [V.beq]
  | .nilf => by simp [V.beq]
  | .fn f p q => by simp [V.beq, V.beqs_refl p, V.beqs_refl q]
  | .yld .. => by simp [V.beq]
  | .nili => by simp [V.beq]
  | .iface t v => by simp [V.beq, V.beq_refl v]
  | .agg l => by simp [V.beq, V.beqs_refl l]
  | .tup l => by simp [V.beq, V.beqs_refl l]
theorem V.beqs_refl : ∀ (a : List V), V.beqs a a = true
  | [] => by simp [V.beqs]
  | x :: xs => by simp [V.beqs, V.beq_refl x, V.beqs_refl xs]
end

theorem setAt_length : ∀ (vs l : List V) (i : Nat), (setAt l i vs).length = l.length
  | [], l, i => rfl
  | v :: vs, l, i => by simp [setAt, setAt_length vs]

theorem setAt_get : ∀ (vs l : List V) (i k : Nat), i + vs.length ≤ l.length →
    (setAt l i vs)[k]? = if i ≤ k ∧ k < i + vs.length then vs[k - i]? else l[k]?
  | [], l, i, k, h => by simp [setAt]; omega
  | v :: vs, l, i, k, h => by
    simp only [setAt]
    rw [setAt_get vs _ _ _ (by simpa [Nat.add_assoc, Nat.add_comm 1] using h)]
    simp only [List.length_cons] at h ⊢
    by_cases h1 : i + 1 ≤ k ∧ k < i + 1 + vs.length
    · rw [if_pos h1, if_pos (by omega)]
      obtain ⟨j, rfl⟩ : ∃ j, k = i + 1 + j := ⟨k - (i + 1), by omega⟩
      have e1 : i + 1 + j - (i + 1) = j := by omega
      have e2 : i + 1 + j - i = j + 1 := by omega
      rw [e1, e2]; simp
    · rw [if_neg h1]
      by_cases h2 : k = i
      · subst h2
        rw [if_pos (by omega)]
        simp only [Nat.sub_self, List.getElem?_cons_zero]
        rw [List.getElem?_set_self (by omega)]
      · rw [if_neg (by omega), List.getElem?_set_ne (by omega)]

end Im
