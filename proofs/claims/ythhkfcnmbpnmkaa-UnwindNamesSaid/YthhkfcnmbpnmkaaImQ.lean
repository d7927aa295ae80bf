/- An operation hangs on the slots that it looks at alone; it lays no object under a number that has been given out, but its own. -/
import Derived.Test.YthhkfcnmbpnmkaaImP
namespace Im
open Go (IntKind BinOp UnOp)

/-! ## The slots that an operation looks at -/

theorem eval_congr {t t' : List V} {x : Opd} (h : ∀ d ∈ opdSlot x, t[d]? = t'[d]?) : eval t x = eval t' x := by
  cases x with
  | t i => simp only [eval]; rw [h i (by simp [opdSlot])]
  | _ => rfl

theorem evals_congr {t t' : List V} : ∀ {l : List Opd}, (∀ d ∈ opdsSlots l, t[d]? = t'[d]?) → l.map (eval t) = l.map (eval t')
  | [], _ => rfl
  | x :: l, h => by
    simp only [List.map_cons]
    rw [eval_congr fun d hd => h d (by simp [opdsSlots, hd]), evals_congr (l := l) fun d hd => h d (by simp only [opdsSlots, List.flatMap_cons, List.mem_append]; exact .inr hd)]

theorem fillP_congr {t t' : List V} : ∀ {ps : List (Nat × Nat × Opd)} {z : List V}, (∀ x ∈ ps.map (·.2.2), eval t x = eval t' x) → fillP t z ps = fillP t' z ps
  | [], z, _ => rfl
  | (off, n, x) :: ps, z, h => by
    unfold fillP
    rw [h x (by simp)]
    split
    · exact fillP_congr fun y hy => h y (by simp only [List.map_cons, List.mem_cons]; exact .inr hy)
    · rfl

theorem evalO_congr {t t' : List V} {x : Option Opd} (h : ∀ y ∈ x.toList, eval t y = eval t' y) : evalO t x = evalO t' x := by
  cases x with
  | none => rfl
  | some x => simp only [evalO]; rw [h x (by simp)]

theorem iop_congr0 {cf : CallF} {C : Cfg} {nid : Nat} {op : IOp} {t t' : List V} {H : Heap} (h : ∀ x ∈ opdsOf op, eval t x = eval t' x) : iop cf C nid op t H = iop cf C nid op t' H := by
  have hl : ∀ l : List Opd, (∀ x ∈ l, eval t x = eval t' x) → l.map (eval t) = l.map (eval t') := fun l hx => List.map_congr_left hx
  cases op <;> simp only [opdsOf] at h <;> simp only [iop]
  case build z ps => rw [fillP_congr h]
  case bslice ty n z ps => rw [fillP_congr h]
  case slcs x lo hi =>
    rw [h x (by simp), evalO_congr (x := lo) fun y hy => h y (by simp only [List.mem_append]; exact .inl (.inr hy)), evalO_congr (x := hi) fun y hy => h y (by simp only [List.mem_append]; exact .inr hy)]
  case slc e x lo hi mx =>
    rw [h x (by simp), evalO_congr (x := lo) fun y hy => h y (by simp only [List.mem_append]; exact .inl (.inl (.inr hy))), evalO_congr (x := hi) fun y hy => h y (by simp only [List.mem_append]; exact .inl (.inr hy)),
      evalO_congr (x := mx) fun y hy => h y (by simp only [List.mem_append]; exact .inr hy)]
  case slca n e x lo hi mx =>
    rw [h x (by simp), evalO_congr (x := lo) fun y hy => h y (by simp only [List.mem_append]; exact .inl (.inl (.inr hy))), evalO_congr (x := hi) fun y hy => h y (by simp only [List.mem_append]; exact .inl (.inr hy)),
      evalO_congr (x := mx) fun y hy => h y (by simp only [List.mem_append]; exact .inr hy)]
  case call f args => rw [hl args h]
  case callv x args => rw [h x (by simp), hl args fun y hy => h y (by simp [hy])]
  case mkf f p q => rw [hl p fun y hy => h y (by simp [hy]), hl q fun y hy => h y (by simp [hy])]
  case mmax xs => rw [hl xs h]
  case mmin xs => rw [hl xs h]
  case pick c a b => rw [h c (by simp), h a (by simp), h b (by simp)]
  case mupd kt x k v => rw [h x (by simp), h k (by simp), h v (by simp)]
  case st n x v => rw [h x (by simp), h v (by simp)]
  case ias e x i => rw [h x (by simp), h i (by simp)]
  case iaa len e x i => rw [h x (by simp), h i (by simp)]
  case idxs x i => rw [h x (by simp), h i (by simp)]
  case idxa len x i => rw [h x (by simp), h i (by simp)]
  case bin op x y => rw [h x (by simp), h y (by simp)]
  case eq neg q x y => rw [h x (by simp), h y (by simp)]
  case app s ty e x y => rw [h x (by simp), h y (by simp)]
  case cpy s e x y => rw [h x (by simp), h y (by simp)]
  case mks ty z l c => rw [h l (by simp), h c (by simp)]
  case lkup kt ok z x k => rw [h x (by simp), h k (by simp)]
  all_goals first
    | rfl
    | (rename_i x; rw [h x (by simp)])

theorem iop_congr {cf : CallF} {C : Cfg} {nid : Nat} {o : IOper} {t t' : List V} {H : Heap} (h : ∀ d ∈ o.looks, t[d]? = t'[d]?) : iop cf C nid o.op t H = iop cf C nid o.op t' H :=
  iop_congr0 fun x hx => eval_congr fun d hd => h d (by
    unfold IOper.looks opdsSlots
    rw [List.mem_append, List.mem_flatMap]
    exact .inl ⟨x, hx, hd⟩)

theorem wanted_congr {o : IOper} {t t' : List V} (h : ∀ d ∈ o.looks, t[d]? = t'[d]?) : wanted o.guard t = wanted o.guard t' := by
  unfold wanted
  cases hg : o.guard with
  | none => rfl
  | some p =>
    obtain ⟨d, want⟩ := p
    simp only
    rw [h d (by simp [IOper.looks, hg])]

/-! ## Numbers that have been given out -/

/-- No object comes under a number below the next one, but under 'nid'. -/
structure Mono (nid : Nat) (H H' : Heap) : Prop where
  next : H.next ≤ H'.next
  none : ∀ id, id < H.next → id ≠ nid → H.get id = none → H'.get id = none

theorem Mono.refl {nid : Nat} (H : Heap) : Mono nid H H := ⟨Nat.le_refl _, fun _ _ _ h => h⟩

theorem Mono.trans {nid : Nat} {a b c : Heap} (h : Mono nid a b) (k : Mono nid b c) : Mono nid a c :=
  ⟨Nat.le_trans h.next k.next, fun id h1 h2 h3 => k.none id (Nat.lt_of_lt_of_le h1 h.next) h2 (h.none id h1 h2 h3)⟩

/-- At a number that has not been given out the exception is none. -/
theorem Mono.any {nid : Nat} {H H' : Heap} (h : Mono H.next H H') : Mono nid H H' := ⟨h.next, fun id h1 _ h3 => h.none id h1 (by omega) h3⟩

theorem Mono.put {nid : Nat} (H : Heap) (o : Obj) : Mono nid H (H.put nid o) :=
  ⟨Heap.next_le_put _ _ _, fun id _ h2 h3 => by rw [Heap.get_put_ne _ _ h2]; exact h3⟩

theorem Mono.put_live {nid : Nat} {H : Heap} {id : Nat} {o o' : Obj} (h : H.get id = some o) : Mono nid H (H.put id o') :=
  ⟨Heap.next_le_put _ _ _, fun i _ _ h3 => by
    rw [Heap.get_put]
    by_cases e : i = id
    · subst e; rw [h] at h3; cases h3
    · rw [if_neg e]; exact h3⟩

theorem Mono.del {nid : Nat} (H : Heap) (id : Nat) : Mono nid H (H.del id) :=
  ⟨Nat.le_refl _, fun i _ _ h3 => by rw [Heap.get_del]; split <;> first | rfl | exact h3⟩

theorem Mono.del_put {nid : Nat} (H : Heap) (id : Nat) (o : Obj) : Mono nid H ((H.del id).put nid o) := (Mono.del H id).trans (Mono.put _ _)

theorem Mono.bump {nid : Nat} (H : Heap) (n : Nat) : Mono nid H (H.bump n) := ⟨Nat.le_add_right _ _, fun _ _ _ h => h⟩

theorem storeN_mono {nid : Nat} {H H' : Heap} {a : PA} {vs : List V} (h : H.storeN a vs = some H') : Mono nid H H' := by
  unfold Heap.storeN at h
  split at h
  · split at h <;> try (cases h; done)
    rename_i hg
    split at h <;> try (cases h; done)
    cases h
    exact .put_live hg
  · split at h <;> try (cases h; done)
    cases h; exact .refl _

/-- Calls that keep to it. -/
def CfMono (cf : CallF) : Prop := ∀ c args H v H', cf c args H = some (v, H') → Mono H.next H H'

theorem iapp_mono {C : Cfg} {nid ty e : Nat} {s : Bool} {x y v : V} {H H' : Heap} (h : iapp C nid s ty e x y H = some (v, H')) : Mono nid H H' := by
  unfold iapp at h
  split at h <;> try (cases h; done)
  split at h
  · split at h
    · cases h; exact .refl _
    · split at h <;> try (cases h; done)
      cases h; exact .put _ _
  · split at h
    · split at h <;> try (cases h; done)
      rename_i hs
      cases h; exact storeN_mono hs
    · split at h <;> try (cases h; done)
      split at h <;> try (cases h; done)
      cases h; exact .put _ _
  · split at h
    · cases h; exact .refl _
    · split at h <;> try (cases h; done)
      split at h <;> try (cases h; done)
      split at h <;> try (cases h; done)
      cases h; exact .del_put _ _ _
  · cases h

theorem iop_mono {cf : CallF} (hcf : CfMono cf) {C : Cfg} {nid : Nat} {op : IOp} {t : List V} {H : Heap} {v : V} {H' : Heap} (h : iop cf C nid op t H = some (v, H')) : Mono nid H H' := by
  cases op <;> simp only [iop] at h
  case call => exact (hcf _ _ _ _ _ h).any
  case callv =>
    unfold icallv at h
    split at h <;> first | exact (hcf _ _ _ _ _ h).any | cases h
  case app => exact iapp_mono h
  all_goals
    (repeat' split at h) <;> first
      | (cases h; done)
      | (cases h; exact .refl _)
      | (cases h; exact .put _ _)
      | (cases h; exact storeN_mono (by assumption))
      | (cases h; exact .put_live (by assumption))

/-! ## Objects put off -/

theorem puts_next (base : Nat) (A : Heap) : ∀ P : List (Nat × Obj), A.next ≤ (puts base A P).next
  | [] => Nat.le_refl _
  | (i, o) :: r => Nat.le_trans (puts_next base A r) (Heap.next_le_put _ _ _)

theorem puts_next_eq (base : Nat) (A : Heap) : ∀ P : List (Nat × Obj), (∀ p ∈ P, base + p.1 < A.next) → (puts base A P).next = A.next
  | [], _ => rfl
  | (i, o) :: r, h => by
    have h1 := puts_next_eq base A r fun p hp => h p (by simp [hp])
    simp only [puts]
    rw [Heap.next_put, if_pos (by rw [h1]; exact h (i, o) (by simp)), h1]

/-- What lies there: an object put off, or what lay there. -/
theorem puts_get (base : Nat) (A : Heap) : ∀ (P : List (Nat × Obj)), (∀ j o o', (j, o) ∈ P → (j, o') ∈ P → o = o') → ∀ id,
    (∃ j o, id = base + j ∧ (j, o) ∈ P ∧ (puts base A P).get id = some o) ∨ ((∀ j o, (j, o) ∈ P → id ≠ base + j) ∧ (puts base A P).get id = A.get id)
  | [], _, id => .inr ⟨by simp, rfl⟩
  | (i, o) :: r, hP, id => by
    by_cases e : id = base + i
    · exact .inl ⟨i, o, e, by simp, by simp only [puts]; rw [Heap.get_put, if_pos e]⟩
    · rcases puts_get base A r (fun j o o' h1 h2 => hP j o o' (by simp [h1]) (by simp [h2])) id with ⟨j, o', h1, h2, h3⟩ | ⟨h1, h2⟩
      · exact .inl ⟨j, o', h1, by simp [h2], by simp only [puts]; rw [Heap.get_put, if_neg e]; exact h3⟩
      · refine .inr ⟨fun j o' hj => ?_, by simp only [puts]; rw [Heap.get_put, if_neg e]; exact h2⟩
        rcases List.mem_cons.1 hj with h | h
        · cases h; exact e
        · exact h1 j o' h

end Im
