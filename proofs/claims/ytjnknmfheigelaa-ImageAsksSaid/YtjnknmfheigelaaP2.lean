/- The ideal machine and the walks over it, a part (P2): see the comments ahead of each piece. No condition. -/
import Derived.Test.YtjnknmfheigelaaP1

/- Lists in memory whose elements have cells by a function ('Ls'); lists that are compared. No condition. -/
namespace Im
open Go (IntKind BinOp UnOp)

/-- A slice that reads as a list; 'enc': an element's cells. -/
def Ls {α : Type} (C : Cfg) (H : Heap) (S : Nat → Prop) (e : Nat) (enc : α → List V) (v : V) (xs : List α) : Prop := Sl C H S e v (xs.map enc)

section
variable {α : Type} {C : Cfg} {H H' : Heap} {S : Nat → Prop} {e : Nat} {enc : α → List V} {v : V} {xs : List α} {fs : Fs} {nid : Nat} {R : V → Heap → Prop}

theorem Ls.agree (h : Ls C H S e enc v xs) (k : Agree S H H') : Ls C H' S e enc v xs := Sl.agree h k
theorem Ls.bump (h : Ls C H S e enc v xs) {n : Nat} : Ls C (H.bump n) S e enc v xs := Sl.agree h (fun _ _ => rfl)
theorem Ls.sub {T : Nat → Prop} (h : Ls C H S e enc v xs) (k : ∀ id, S id → T id) : Ls C H T e enc v xs := Sl.sub h k

theorem OpR.lenS0 {H0 : Heap} {x : Opd} {cs : List (List V)} (hx : ev fs x = some v) (h : Sl C H0 S e v cs) (k : R (.int .i64 (cs.length : Nat)) H) : OpR C fs (.len x) nid H R := by
  rcases h with ⟨rfl, rfl⟩ | ⟨a, cap, rfl, h2, h3⟩
  · exact .lenN hx k
  · exact .len hx k
theorem OpR.lenL {H0 : Heap} {x : Opd} (hx : ev fs x = some v) (h : Ls C H0 S e enc v xs) (k : R (.int .i64 (xs.length : Nat)) H) : OpR C fs (.len x) nid H R :=
  .lenS0 hx h (by simpa using k)

theorem OpR.iasL {x i : Opd} {kd : IntKind} {m : Nat} (hx : ev fs x = some v) (hi : ev fs i = some (.int kd (m : Nat))) (h : Ls C H S e enc v xs) (hm : m < xs.length)
    (k : ∀ a, a.At S → H.loadN C a 0 e = some (enc xs[m]) → R (.ptr a) H) : OpR C fs (.ias e x i) nid H R :=
  .iasS hx hi h (by omega) (by simpa using hm) fun a c ha hc hl => by
    simp [hm] at hc
    rw [← hc] at hl
    exact k a ha hl
end

theorem Keeps.bump' {H H1 : Heap} (h : Keeps H H1) {n : Nat} : Keeps H (H1.bump n) := h.trans (Keeps.bump _ _)

theorem eq_of_pre {α : Type} {xs ys : List α} (hl : xs.length = ys.length) (h : ∀ j, j < xs.length → xs[j]? = ys[j]?) : xs = ys := by
  apply List.ext_getElem?
  intro i
  by_cases hi : i < xs.length
  · exact h i hi
  · rw [List.getElem?_eq_none (by omega), List.getElem?_eq_none (by omega)]

theorem pre_succ {α : Type} {xs ys : List α} {i : Nat} (h : ∀ j, j < i → xs[j]? = ys[j]?) (hx : i < xs.length) (hy : i < ys.length) (he : xs[i] = ys[i]) : ∀ j, j < i + 1 → xs[j]? = ys[j]? := by
  intro j hj
  by_cases h1 : j < i
  · exact h j h1
  · have : j = i := by omega
    subst this
    rw [List.getElem?_eq_getElem hx, List.getElem?_eq_getElem hy, he]

def encI (x : Int) : List V := [.int .i64 x]

end Im

/- What is known of the heap ('Hp'): assertions that own their objects, apart from one another; rules for operations on memory. No condition. -/
namespace Im
open Go (IntKind BinOp UnOp)

/-- An assertion: the objects that it owns; what it says; it hangs on these alone. -/
structure A where
  ids : Nat → Prop
  ok : Heap → Prop
  loc : ∀ H H', Agree ids H H' → ok H → ok H'

def A.blk (b : Nat) (o : Obj) : A := ⟨(· = b), fun H => H.get b = some o, fun _ _ h k => by rw [h b rfl]; exact k⟩
def A.frz (H0 : Heap) (S : Nat → Prop) : A := ⟨S, fun H => Agree S H0 H, fun _ _ h k => k.trans h⟩
def A.res (S : Nat → Prop) : A := ⟨S, fun _ => True, fun _ _ _ _ => trivial⟩

def growIds (v : V) (id : Nat) : Prop := ∃ n c, v = .slice ⟨.own, id, 0⟩ n c
/-- A slice that grows. -/
def GrowAt (H : Heap) (ty e : Nat) (v : V) (cs : List (List V)) : Prop :=
  (v = .nils ∧ cs = []) ∨ (cs ≠ [] ∧ ∃ b, v = .slice ⟨.own, b, 0⟩ cs.length (.un e) ∧ H.get b = some (.cells ty cs.flatten) ∧ ∀ c ∈ cs, c.length = e)
def A.grow (v : V) (ty e : Nat) (cs : List (List V)) : A := ⟨growIds v, fun H => GrowAt H ty e v cs, fun H H' h k => by
  rcases k with k | ⟨k0, b, k1, k2, k3⟩
  · exact .inl k
  · exact .inr ⟨k0, b, k1, by rw [h b ⟨_, _, k1⟩]; exact k2, k3⟩⟩

def Own : List A → Nat → Prop
  | [], _ => False
  | a :: as, id => a.ids id ∨ Own as id

def Hp : List A → Heap → Prop
  | [], _ => True
  | a :: as, H => (a.ok H ∧ (∀ id, a.ids id → id < H.next)) ∧ (∀ id, a.ids id → ¬ Own as id) ∧ Hp as H

inductive Has : List A → A → Prop where
  | here (a : A) (as : List A) : Has (a :: as) a
  | there (c a : A) (as : List A) (h : Has as a) : Has (c :: as) a

inductive Rem : List A → A → List A → Prop where
  | here (a : A) (as : List A) : Rem (a :: as) a as
  | there (c a : A) (as r : List A) (h : Rem as a r) : Rem (c :: as) a (c :: r)

inductive Sel : List A → List A → Prop where
  | nil (bs : List A) : Sel [] bs
  | cons (a : A) (as bs bs' : List A) (h : Rem bs a bs') (k : Sel as bs') : Sel (a :: as) bs

theorem Own.lt : ∀ {as : List A} {H : Heap}, Hp as H → ∀ {id : Nat}, Own as id → id < H.next
  | _ :: _, _, st, _, .inl h => st.1.2 _ h
  | _ :: _, _, st, _, .inr h => Own.lt st.2.2 h

theorem Hp.fresh {as : List A} {H : Heap} (st : Hp as H) : ¬ Own as H.next := fun h => Nat.lt_irrefl _ (Own.lt st h)
theorem Hp.fresh' {as : List A} {H : Heap} (st : Hp as H) {id : Nat} (hid : H.next ≤ id) : ¬ Own as id := fun h => by have := Own.lt st h; omega

theorem Has.own {as : List A} {a : A} (h : Has as a) {id : Nat} (hi : a.ids id) : Own as id := by
  induction h with
  | here => exact .inl hi
  | there _ _ _ _ ih => exact .inr (ih hi)

theorem Hp.has {as : List A} {a : A} {H : Heap} (st : Hp as H) (h : Has as a) : a.ok H ∧ ∀ id, a.ids id → id < H.next := by
  induction h with
  | here => exact st.1
  | there _ _ _ _ ih => exact ih st.2.2

theorem Hp.same : ∀ {as : List A} {H H' : Heap}, Hp as H → H.next ≤ H'.next → (∀ id, Own as id → H'.get id = H.get id) → Hp as H'
  | [], _, _, _, _, _ => trivial
  | a :: as, H, H', st, hn, hg => ⟨⟨a.loc _ _ (fun id hid => hg id (.inl hid)) st.1.1, fun id hid => Nat.lt_of_lt_of_le (st.1.2 id hid) hn⟩, st.2.1, Hp.same st.2.2 hn (fun id h => hg id (.inr h))⟩

theorem Hp.keeps {as : List A} {H H' : Heap} (st : Hp as H) (k : Keeps H H') : Hp as H' := st.same k.next fun id h => k.get id (Own.lt st h)

theorem Rem.own {as r : List A} {a : A} (h : Rem as a r) {id : Nat} : Own as id ↔ a.ids id ∨ Own r id := by
  induction h with
  | here => exact Iff.rfl
  | there c a as r _ ih =>
    constructor
    · intro h
      rcases h with h | h
      · exact .inr (.inl h)
      · exact (ih.1 h).elim .inl (fun h => .inr (.inr h))
    · intro h
      rcases h with h | h | h
      · exact .inr (ih.2 (.inl h))
      · exact .inl h
      · exact .inr (ih.2 (.inr h))

theorem Hp.rem {as r : List A} {a : A} {H : Heap} (st : Hp as H) (h : Rem as a r) : Hp (a :: r) H := by
  induction h with
  | here => exact st
  | there c a as r hr ih =>
    obtain ⟨h1, h2, h3⟩ := ih st.2.2
    refine ⟨h1, fun id hid ho => ?_, st.1, fun id hid ho => st.2.1 id hid (hr.own.2 (.inr ho)), h3⟩
    rcases ho with ho | ho
    · exact st.2.1 id ho (hr.own.2 (.inl hid))
    · exact h2 id hid ho

/-- The first assertion turns into another. -/
theorem Hp.upd {r : List A} {a a' : A} {H H' : Heap} (st : Hp (a :: r) H) (hn : H.next ≤ H'.next) (hg : ∀ id, Own r id → H'.get id = H.get id) (hi : ∀ id, a'.ids id → ¬ Own r id ∧ id < H'.next) (ho : a'.ok H') : Hp (a' :: r) H' :=
  ⟨⟨ho, fun id h => (hi id h).2⟩, fun id h => (hi id h).1, st.2.2.same hn hg⟩

theorem Hp.add {as : List A} {a : A} {H H' : Heap} (st : Hp as H) (hn : H.next ≤ H'.next) (hg : ∀ id, Own as id → H'.get id = H.get id) (ho : a.ok H') (hi : ∀ id, a.ids id → ¬ Own as id ∧ id < H'.next) : Hp (a :: as) H' :=
  ⟨⟨ho, fun id h => (hi id h).2⟩, fun id h => (hi id h).1, st.same hn hg⟩

theorem Sel.own {as bs : List A} (h : Sel as bs) {id : Nat} : Own as id → Own bs id := by
  induction h with
  | nil => exact fun h => h.elim
  | cons a as bs bs' hr _ ih => exact fun h => h.elim (fun h => hr.own.2 (.inl h)) (fun h => hr.own.2 (.inr (ih h)))

theorem Hp.sel {as bs : List A} {H : Heap} (st : Hp bs H) (h : Sel as bs) : Hp as H := by
  induction h with
  | nil => trivial
  | cons a as bs bs' hr hs ih =>
    have := st.rem hr
    exact ⟨this.1, fun id k ho => this.2.1 id k (hs.own ho), ih this.2.2⟩

/-- At a call's begin. -/
theorem Hp.begin (H : Heap) : Hp [.frz H (· < H.next)] H := ⟨⟨Agree.refl _ _, fun _ h => h⟩, fun _ _ h => h, trivial⟩

theorem Hp.agree {as : List A} {H0 H : Heap} {S : Nat → Prop} (st : Hp as H) (h : Has as (.frz H0 S)) : Agree S H0 H := (st.has h).1
theorem Hp.lt {as : List A} {H0 H : Heap} {S : Nat → Prop} (st : Hp as H) (h : Has as (.frz H0 S)) : ∀ id, S id → id < H.next := (st.has h).2
/-- What was there when the call began is there. -/
theorem Hp.kept {as : List A} {H0 H : Heap} (st : Hp as H) (h : Has as (.frz H0 (· < H0.next))) : Keeps H0 H :=
  ⟨Nat.le_of_not_lt fun hlt => Nat.lt_irrefl _ ((st.has h).2 H.next hlt), fun id hid => (st.has h).1 id hid⟩

/-- A frozen part by the heap that is now. -/
theorem Hp.now {as r : List A} {H0 H : Heap} {S : Nat → Prop} (st : Hp as H) (h : Rem as (.frz H0 S) r) : Hp (.frz H S :: r) H := by
  have := st.rem h
  exact ⟨⟨Agree.refl _ _, this.1.2⟩, this.2⟩
/-- Two frozen parts become one. -/
theorem Hp.join {r : List A} {H0 H1 H : Heap} {S T : Nat → Prop} (st : Hp (.frz H0 S :: .frz H1 T :: r) H) : Hp (.frz H (fun id => S id ∨ T id) :: r) H := by
  obtain ⟨⟨h1, h2⟩, h3, ⟨h4, h5⟩, h6, h7⟩ := st
  exact ⟨⟨Agree.refl _ _, fun id h => h.elim (h2 id) (h5 id)⟩, fun id h ho => h.elim (fun h => h3 id h (.inr ho)) (fun h => h6 id h ho), h7⟩
theorem Hp.growNil {as : List A} {H : Heap} (st : Hp as H) (ty e : Nat) : Hp (.grow .nils ty e [] :: as) H :=
  ⟨⟨.inl ⟨rfl, rfl⟩, fun _ ⟨_, _, h⟩ => (by cases h)⟩, fun _ ⟨_, _, h⟩ => (by cases h), st⟩
theorem Hp.noFrz {as : List A} {H H0 : Heap} (st : Hp as H) : Hp (.frz H0 (fun _ => False) :: as) H := ⟨⟨fun _ h => h.elim, fun _ h => h.elim⟩, fun _ h => h.elim, st⟩
/-- What grew is read. -/
theorem GrowAt.sl {C : Cfg} {H : Heap} {ty e : Nat} {v : V} {cs : List (List V)} (h : GrowAt H ty e v cs) : Sl C H (growIds v) e v cs := by
  rcases h with h | ⟨h0, b, h1, h2, h3⟩
  · exact .inl h
  · exact .inr ⟨⟨.own, b, 0⟩, .un e, h1, fun _ => ⟨_, _, h1⟩, Load.own h2 h3 ⟨[], by simp⟩⟩
/-- What grew is frozen. -/
theorem Hp.freeze {as r : List A} {H : Heap} {v : V} {ty e : Nat} {cs : List (List V)} (st : Hp as H) (h : Rem as (.grow v ty e cs) r) : GrowAt H ty e v cs ∧ Hp (.frz H (growIds v) :: r) H := by
  have := st.rem h
  exact ⟨this.1.1, ⟨Agree.refl _ _, this.1.2⟩, this.2⟩
/-- What a call made is frozen. -/
theorem Hp.made {as : List A} {H H' : Heap} (st : Hp as H) (k : Keeps H H') : Hp (.frz H' (fun id => H.next ≤ id ∧ id < H'.next) :: as) H' :=
  st.add k.next (fun id h => k.get id (Own.lt st h)) (Agree.refl _ _) (fun id h => ⟨st.fresh' h.1, h.2⟩)

theorem loadN_part {C : Cfg} {H : Heap} {a : PA} {e off n : Nat} {l : List V} (h : H.loadN C a 0 e = some l) (hn : off + n ≤ e) : H.loadN C (a.add off) 0 n = some ((l.drop off).take n) := by
  obtain ⟨h1, h2⟩ := loadN_iff.1 h
  refine loadN_iff.2 ⟨by simp; omega, fun k hk => ?_⟩
  have := h2 (off + k) (by omega)
  rw [cellsAt_add, Nat.zero_add]
  rw [Nat.zero_add] at this
  rw [this]; simp [List.getElem?_take, List.getElem?_drop, hk]

theorem Hp.put {as : List A} {H : Heap} (st : Hp as H) {nid : Nat} (hn : ¬ Own as nid) (o : Obj) : Hp (.blk nid o :: as) (H.put nid o) :=
  st.add (Heap.next_le_put _ _ _) (fun id h => Heap.get_put_ne _ _ (fun e => hn (e ▸ h))) (Heap.get_put_self _ _ _) (fun id (h : id = nid) => ⟨h ▸ hn, h ▸ Heap.id_lt_put _ _ _⟩)

/-! ## Regions that draw: the numbers that are given out -/

theorem Hp.take {as r : List A} {H : Heap} {S : Nat → Prop} (st : Hp as H) (h : Rem as (.res S) r) {id : Nat} (hs : S id) : Hp (.res (fun j => S j ∧ j ≠ id) :: r) H ∧ ¬ Own (.res (fun j => S j ∧ j ≠ id) :: r) id := by
  obtain ⟨⟨_, h2⟩, h3, h4⟩ := st.rem h
  exact ⟨⟨⟨trivial, fun j hj => h2 j hj.1⟩, fun j hj => h3 j hj.1, h4⟩, fun ho => ho.elim (fun h => h.2 rfl) (h3 id hs)⟩
/-- What was put off is laid. -/
theorem Hp.lay {as r : List A} {H : Heap} {S : Nat → Prop} (st : Hp as H) (h : Rem as (.res S) r) {id : Nat} (hs : S id) (o : Obj) : Hp (.blk id o :: .res (fun j => S j ∧ j ≠ id) :: r) (H.put id o) :=
  (st.take h hs).1.put (st.take h hs).2 o

section
variable {C : Cfg} {nt : Nat} {ro : Option Nat} {fs : Fs} {H : Heap} {d : List Nat} {Q : Aft} {as : List A}

theorem Hp.bump {as : List A} {H : Heap} (st : Hp as H) (n : Nat) : Hp (.res (fun id => H.next ≤ id ∧ id < H.next + n) :: as) (H.bump n) :=
  st.add (Nat.le_add_right _ _) (fun _ _ => rfl) trivial (fun _ h => ⟨st.fresh' h.1, h.2⟩)

theorem WX.seqRegDS {os : List IOper} {mats : List (Nat × List Nat)} {prs : List (Nat × Nat)} {b : ICode} (st : Hp as H)
    (h : ∀ A1 base, Hp (.res (fun id => base ≤ id ∧ id < base + os.length) :: as) A1 → WD C nt base mats os 0 fs A1 [] (fun ars fs' H' => Floats C os ars prs ∧ WX C nt ro b fs' H' d Q)) : WX C nt ro (.seq (.regD os mats prs) b) fs H d Q :=
  .seqRegD (h _ _ (st.bump _))
theorem WX.regDS {os : List IOper} {mats : List (Nat × List Nat)} {prs : List (Nat × Nat)} (st : Hp as H)
    (h : ∀ A1 base, Hp (.res (fun id => base ≤ id ∧ id < base + os.length) :: as) A1 → WD C nt base mats os 0 fs A1 [] (fun ars fs' H' => Floats C os ars prs ∧ Q .nrm fs' H' d)) : WX C nt ro (.regD os mats prs) fs H d Q :=
  .regD (h _ _ (st.bump _))
/-- Where nothing is made and nothing floats. -/
theorem WX.seqRegD0S {os : List IOper} {mats : List (Nat × List Nat)} {b : ICode} (st : Hp as H)
    (h : ∀ A1 base, Hp as A1 → WD C nt base mats os 0 fs A1 [] (fun _ fs' H' => WX C nt ro b fs' H' d Q)) : WX C nt ro (.seq (.regD os mats []) b) fs H d Q :=
  .seqRegD0 (h _ _ (st.keeps (Keeps.bump _ _)))
theorem WX.regD0S {os : List IOper} {mats : List (Nat × List Nat)} (st : Hp as H)
    (h : ∀ A1 base, Hp as A1 → WD C nt base mats os 0 fs A1 [] (fun _ fs' H' => Q .nrm fs' H' d)) : WX C nt ro (.regD os mats []) fs H d Q :=
  .regD0 (h _ _ (st.keeps (Keeps.bump _ _)))
end

/-! ## Operations -/

section
variable {C : Cfg} {H : Heap} {as : List A} {fs : Fs} {nid : Nat} {R : V → Heap → Prop}

theorem OpR.boxS {ty : Nat} {x : Opd} {v : V} (hx : ev fs x = some v) (st : Hp as H) (hn : ¬ Own as nid) (k : ∀ b H1, Hp (.blk b (.cells ty v.cells) :: as) H1 → R (.ptr ⟨.own, b, 0⟩) H1) : OpR C fs (.box ty x) nid H R :=
  .box hx (k nid _ (st.put hn _))
theorem OpR.alcS {ty : Nat} {z : List V} (st : Hp as H) (hn : ¬ Own as nid) (k : ∀ b H1, Hp (.blk b (.cells ty z) :: as) H1 → R (.ptr ⟨.own, b, 0⟩) H1) : OpR C fs (.alc ty z) nid H R :=
  .alc (k nid _ (st.put hn _))
theorem OpR.bsliceS {ty n : Nat} {z l : List V} {ps : List (Nat × Nat × Opd)} (hp : fillF fs z ps = some l) (st : Hp as H) (hn : ¬ Own as nid) (k : ∀ b H1, Hp (.blk b (.cells ty l) :: as) H1 → R (.slice ⟨.own, b, 0⟩ n (.ex n)) H1) : OpR C fs (.bslice ty n z ps) nid H R :=
  .bslice hp (k nid _ (st.put hn _))

theorem OpR.ldB {x : Opd} {b off ty : Nat} {l : List V} {v : V} (hx : ev fs x = some (.ptr ⟨.own, b, off⟩)) (st : Hp as H) (hb : Has as (.blk b (.cells ty l))) (hl : l[off]? = some v) (k : R v H) : OpR C fs (.ld x) nid H R :=
  .ld hx (by rw [cellsAt_own (st.has hb).1]; exact hl) k
theorem OpR.ldnB {x : Opd} {b off n ty : Nat} {l m : List V} (hx : ev fs x = some (.ptr ⟨.own, b, off⟩)) (st : Hp as H) (hb : Has as (.blk b (.cells ty l))) (hl : Nat.ble (off + n) l.length = true) (hm : (l.drop off).take n = m) (k : R (.agg m) H) : OpR C fs (.ldn n x) nid H R :=
  .ldn hx (loadN_own (st.has hb).1 (ble_le hl)) (hm ▸ k)
theorem OpR.stB {x y : Opd} {b off n ty : Nat} {l m : List V} {v : V} {r : List A} (hx : ev fs x = some (.ptr ⟨.own, b, off⟩)) (hy : ev fs y = some v) (st : Hp as H) (hu : Rem as (.blk b (.cells ty l)) r)
    (hn : v.cells.length = n) (h1 : v.cells.all V.one = true) (hl : Nat.ble (off + n) l.length = true) (hm : setAt l off v.cells = m) (k : ∀ H1, Hp (.blk b (.cells ty m) :: r) H1 → R .undef H1) : OpR C fs (.st n x y) nid H R := by
  subst hm
  have st1 := st.rem hu
  have hb : H.get b = some (.cells ty l) := st1.1.1
  have hlt : b < H.next := st1.1.2 b rfl
  refine .st (H' := H.put b (.cells ty (setAt l off v.cells))) hx hy hn ?_ (k _ (st1.upd (Heap.next_le_put _ _ _) (fun id h => Heap.get_put_ne _ _ (fun e => st1.2.1 b rfl (e ▸ h))) (fun id (h : id = b) => ⟨h ▸ st1.2.1 b rfl, by rw [h, Heap.next_putOld _ _ hlt]; exact hlt⟩) (Heap.get_put_self _ _ _)))
  simp only [Heap.storeN, hb]
  rw [if_pos ⟨by rw [hn]; exact ble_le hl, h1⟩]

theorem OpR.ldF {x : Opd} {H0 : Heap} {S : Nat → Prop} {a : PA} {e off : Nat} {l : List V} {v : V} (hx : ev fs x = some (.ptr (a.add off))) (ha : a.At S) (hl : H0.loadN C a 0 e = some l) (st : Hp as H) (hf : Has as (.frz H0 S)) (hv : l[off]? = some v) (k : R v H) : OpR C fs (.ld x) nid H R := by
  refine .ld hx ?_ k
  rw [(st.agree hf).cellsAt (ha.add off), cellsAt_add]
  obtain ⟨h1, h2⟩ := loadN_iff.1 hl
  have := h2 off (by have := (List.getElem?_eq_some_iff.1 hv).1; omega)
  rw [Nat.zero_add] at this
  rw [Nat.add_zero, this, hv]
theorem OpR.ldF0 {x : Opd} {H0 : Heap} {S : Nat → Prop} {a : PA} {e : Nat} {l : List V} {v : V} (hx : ev fs x = some (.ptr a)) (ha : a.At S) (hl : H0.loadN C a 0 e = some l) (st : Hp as H) (hf : Has as (.frz H0 S)) (hv : l[0]? = some v) (k : R v H) : OpR C fs (.ld x) nid H R :=
  .ldF (off := 0) (a := a) hx ha hl st hf hv k
theorem OpR.ldnF0 {x : Opd} {H0 : Heap} {S : Nat → Prop} {a : PA} {e : Nat} {l : List V} (hx : ev fs x = some (.ptr a)) (ha : a.At S) (hl : H0.loadN C a 0 e = some l) (st : Hp as H) (hf : Has as (.frz H0 S)) (k : R (.agg l) H) : OpR C fs (.ldn e x) nid H R :=
  .ldn hx (by rw [(st.agree hf).loadN ha]; exact hl) k
theorem OpR.ldnF {x : Opd} {H0 : Heap} {S : Nat → Prop} {a : PA} {e off n : Nat} {l m : List V} (hx : ev fs x = some (.ptr (a.add off))) (ha : a.At S) (hl : H0.loadN C a 0 e = some l) (st : Hp as H) (hf : Has as (.frz H0 S)) (hn : Nat.ble (off + n) e = true) (hm : (l.drop off).take n = m) (k : R (.agg m) H) : OpR C fs (.ldn n x) nid H R :=
  .ldn hx (by rw [(st.agree hf).loadN (ha.add off)]; exact loadN_part hl (ble_le hn)) (hm ▸ k)

/-- An element's address. -/
theorem OpR.iasA {α : Type} {x i : Opd} {H0 : Heap} {S : Nat → Prop} {e : Nat} {v : V} {cs : List (List V)} {T : α → List V → Prop} {xs : List α} {kd : IntKind} {m : Nat} (hx : ev fs x = some v) (hi : ev fs i = some (.int kd (m : Nat))) (h : Sl C H0 S e v cs) (hr : All2 T xs cs) (hm : m < xs.length)
    (k : ∀ a c, a.At S → H0.loadN C a 0 e = some c → T xs[m] c → R (.ptr a) H) : OpR C fs (.ias e x i) nid H R := by
  rcases h with ⟨rfl, rfl⟩ | ⟨a, cap, rfl, h2, h3⟩
  · have := hr.length; simp only [List.length_nil] at this; omega
  · have hl := hr.length
    have hlt : m < cs.length := by omega
    obtain ⟨y, hy, hz⟩ := hr.get (List.getElem?_eq_getElem hlt)
    rw [List.getElem?_eq_getElem hm] at hy; cases hy
    exact .ias hx hi (by omega) (by omega) (k _ _ (h2.add _) (by simpa using h3 m _ (List.getElem?_eq_getElem hlt)) hz)
theorem OpR.iasE {α : Type} {enc : α → List V} {x i : Opd} {H0 : Heap} {S : Nat → Prop} {e : Nat} {v : V} {xs : List α} {kd : IntKind} {m : Nat} (hx : ev fs x = some v) (hi : ev fs i = some (.int kd (m : Nat))) (h : Ls C H0 S e enc v xs) (hm : m < xs.length)
    (k : ∀ a, a.At S → H0.loadN C a 0 e = some (enc xs[m]) → R (.ptr a) H) : OpR C fs (.ias e x i) nid H R :=
  .iasA (T := fun x c => c = enc x) hx hi h (All2.map (R := fun x c => c = enc x) enc (fun _ => rfl) xs) hm fun a _ ha hl hc => k a ha (hc ▸ hl)

/-- append to what grows. -/
theorem OpR.appG {x y : Opd} {ty e : Nat} {v w : V} {cs ns : List (List V)} {r : List A} (hx : ev fs x = some v) (hy : ev fs y = some w) (st : Hp as H) (hn : ¬ Own as nid) (hg : Rem as (.grow v ty e cs) r)
    (hsrc : srcCells C H false e w = some (ns.flatten, ns.length)) (hw : ∀ c ∈ ns, c.length = e) (hlen : cs.length + ns.length ≤ 68719476736)
    (k : ∀ u H1, Hp (.grow u ty e (cs ++ ns) :: r) H1 → R u H1) : OpR C fs (.app false ty e x y) nid H R := by
  have st1 := st.rem hg
  have hnr : ¬ Own r nid := fun h => hn (hg.own.2 (.inr h))
  have hnv : ¬ growIds v nid := fun h => hn (hg.own.2 (.inl h))
  suffices h : ∃ u H1, iapp C nid false ty e v w H = some (u, H1) ∧ Hp (.grow u ty e (cs ++ ns) :: r) H1 by
    obtain ⟨u, H1, h1, h2⟩ := h
    exact .app hx hy h1 (k u H1 h2)
  unfold iapp
  rw [hsrc]
  simp only
  have fin : ∀ (H2 : Heap), H.next ≤ H2.next → (∀ id, Own r id → H2.get id = H.get id) → ∀ l, ns ≠ [] → l = (cs ++ ns).flatten → (∀ c ∈ cs, c.length = e) →
      Hp (.grow (.slice ⟨.own, nid, 0⟩ (cs.length + ns.length) (.un e)) ty e (cs ++ ns) :: r) (H2.put nid (.cells ty l)) := by
    intro H2 h1 h2 l h3 h4 h5
    refine st1.upd (Nat.le_trans h1 (Heap.next_le_put _ _ _)) (fun id h => ?_) (fun id h => ?_) (.inr ⟨by simp [h3], nid, by simp, by rw [Heap.get_put_self, h4], fun c hc => ?_⟩)
    · rw [Heap.get_put_ne _ _ (fun (e : id = nid) => hnr (e ▸ h)), h2 id h]
    · obtain ⟨n, c, h⟩ := h
      cases h; exact ⟨hnr, Heap.id_lt_put _ _ _⟩
    · rcases List.mem_append.1 hc with hc | hc
      · exact h5 c hc
      · exact hw c hc
  rcases st1.1.1 with ⟨rfl, rfl⟩ | ⟨h0, b, rfl, h2, h3⟩
  · simp only
    by_cases hz : ns = []
    · subst hz
      rw [if_pos List.length_nil]
      exact ⟨.nils, H, rfl, by simpa using st1⟩
    · have hz' : ¬ ns.length = 0 := fun h => hz (List.length_eq_zero_iff.1 h)
      simp only [List.length_nil, Nat.zero_add] at hlen
      rw [if_neg hz', if_neg (by omega)]
      exact ⟨_, _, rfl, by simpa using fin H (Nat.le_refl _) (fun _ _ => rfl) _ hz rfl (by simp)⟩
  · simp only
    by_cases hz : ns = []
    · subst hz
      rw [if_pos List.length_nil]
      exact ⟨_, H, rfl, by simpa using st1⟩
    · have hz' : ¬ ns.length = 0 := fun h => hz (List.length_eq_zero_iff.1 h)
      rw [if_neg hz', if_neg (by omega)]
      have hld : H.loadN C ⟨.own, b, 0⟩ 0 (cs.length * e) = some cs.flatten := (Load.own h2 h3 ⟨[], by simp⟩ : Load C H e ⟨.own, b, 0⟩ cs).flat
      simp only [h2, hld, ne_eq, not_true_eq_false, if_false]
      refine ⟨_, _, rfl, fin (H.del b) (Nat.le_refl _) (fun id h => ?_) _ hz (by simp) h3⟩
      rw [Heap.get_del, if_neg (fun (e : id = b) => st1.2.1 b ⟨_, _, rfl⟩ (e ▸ h))]

/-- One element, out of a known block. -/
theorem OpR.app1 {x y : Opd} {ty ty' e b : Nat} {cap : Cap} {v : V} {cs : List (List V)} {l : List V} {r : List A} (hx : ev fs x = some v) (hy : ev fs y = some (.slice ⟨.own, b, 0⟩ 1 cap)) (st : Hp as H) (hn : ¬ Own as nid) (hb : Has as (.blk b (.cells ty' l))) (hg : Rem as (.grow v ty e cs) r)
    (hl : l.length = e) (h1 : l.all V.one = true) (hlen : cs.length + 1 ≤ 68719476736) (k : ∀ u H1, Hp (.grow u ty e (cs ++ [l]) :: r) H1 → R u H1) : OpR C fs (.app false ty e x y) nid H R := by
  have hs : Sl C H (fun _ => True) e (.slice ⟨.own, b, 0⟩ ([l] : List (List V)).length cap) [l] := Sl.own (ty := ty') (by rw [show ([l] : List (List V)).flatten = l by simp]; exact (st.has hb).1) (by simp [hl]) trivial
  exact .appG hx hy st hn hg (hs.src (by simpa using h1)) (by simp [hl]) hlen k
/-- All of a list that is frozen. -/
theorem OpR.appF {x y : Opd} {ty e : Nat} {v w : V} {cs ns : List (List V)} {H0 : Heap} {S : Nat → Prop} {r : List A} (hx : ev fs x = some v) (hy : ev fs y = some w) (st : Hp as H) (hn : ¬ Own as nid) (hf : Has as (.frz H0 S)) (hw : Sl C H0 S e w ns) (hg : Rem as (.grow v ty e cs) r)
    (hl : ∀ c ∈ ns, c.length = e) (h1 : ns.flatten.all V.one = true) (hlen : cs.length + ns.length ≤ 68719476736) (k : ∀ u H1, Hp (.grow u ty e (cs ++ ns) :: r) H1 → R u H1) : OpR C fs (.app false ty e x y) nid H R :=
  .appG hx hy st hn hg ((hw.agree (st.agree hf)).src h1) hl hlen k

/-- A call that leaves what was there, and answers a known value. -/
theorem OpR.callP {f : Nat} {args : List Opd} {l : List V} {r : V} (hl : evs fs args = some l) (st : Hp as H) (h : Calls C (.fn f) l H (fun v H' => v = r ∧ Keeps H H')) (k : ∀ H1, Hp as H1 → R r H1) : OpR C fs (.call f args) nid H R :=
  .call hl (h.mono fun _ _ ⟨h1, h2⟩ => h1 ▸ k _ (st.keeps h2))
/-- .. answers a number of which something is known. -/
theorem OpR.callI {f : Nat} {args : List Opd} {l : List V} {kd : IntKind} {P : Int → Prop} (hl : evs fs args = some l) (st : Hp as H) (h : Calls C (.fn f) l H (fun v H' => (∃ n, v = .int kd n ∧ P n) ∧ Keeps H H')) (k : ∀ n H1, P n → Hp as H1 → R (.int kd n) H1) : OpR C fs (.call f args) nid H R :=
  .call hl (h.mono fun _ _ ⟨⟨n, h1, h2⟩, h3⟩ => h1 ▸ k n _ h2 (st.keeps h3))
/-- .. answers whether. -/
theorem OpR.callB {f : Nat} {args : List Opd} {l : List V} {p : Prop} [Decidable p] (hl : evs fs args = some l) (st : Hp as H) (h : Calls C (.fn f) l H (fun v H' => v = .bool (decide p) ∧ Keeps H H')) (k1 : ∀ H1, p → Hp as H1 → R (.bool true) H1) (k2 : ∀ H1, ¬ p → Hp as H1 → R (.bool false) H1) : OpR C fs (.call f args) nid H R :=
  .call hl (h.mono fun v H1 ⟨h1, h2⟩ => by
    subst h1
    by_cases hp : p
    · rw [decide_eq_true hp]; exact k1 _ hp (st.keeps h2)
    · rw [decide_eq_false hp]; exact k2 _ hp (st.keeps h2))
/-- .. a call of a function value. -/
theorem OpR.callvB {x : Opd} {f : Nat} {p0 q0 : List V} {args : List Opd} {l : List V} {p : Prop} [Decidable p] (hx : ev fs x = some (.fn f p0 q0)) (hl : evs fs args = some l) (st : Hp as H) (h : Calls C (.fn f) (p0 ++ l ++ q0) H (fun v H' => v = .bool (decide p) ∧ Keeps H H')) (k1 : ∀ H1, p → Hp as H1 → R (.bool true) H1) (k2 : ∀ H1, ¬ p → Hp as H1 → R (.bool false) H1) : OpR C fs (.callv x args) nid H R :=
  .callv hx hl (h.mono fun v H1 ⟨h1, h2⟩ => by
    subst h1
    by_cases hp : p
    · rw [decide_eq_true hp]; exact k1 _ hp (st.keeps h2)
    · rw [decide_eq_false hp]; exact k2 _ hp (st.keeps h2))
/-- A call that leaves what was there, and makes something. -/
theorem OpR.callN {f : Nat} {args : List Opd} {l : List V} {P : V → Heap → (Nat → Prop) → Prop} (hl : evs fs args = some l) (st : Hp as H) (h : Calls C (.fn f) l H (fun v H' => Keeps H H' ∧ P v H' (fun id => H.next ≤ id ∧ id < H'.next)))
    (k : ∀ v H1 S, Hp (.frz H1 S :: as) H1 → P v H1 S → R v H1) : OpR C fs (.call f args) nid H R :=
  .call hl (h.mono fun _ _ ⟨h1, h2⟩ => k _ _ _ (st.made h1) h2)
end

/-- A load that floats reads a known block. -/
theorem OpL.ldB {C : Cfg} {fs : Fs} {H : Heap} {as : List A} {x : Opd} {b off ty : Nat} {l : List V} {v : V} (hx : ev fs x = some (.ptr ⟨.own, b, off⟩)) (st : Hp as H) (hb : Has as (.blk b (.cells ty l))) (hl : l[off]? = some v) : OpL C fs (.ld x) H v :=
  .ld hx (by rw [cellsAt_own (st.has hb).1]; exact hl)
theorem OpL.ldnB {C : Cfg} {fs : Fs} {H : Heap} {as : List A} {x : Opd} {b off n ty : Nat} {l m : List V} (hx : ev fs x = some (.ptr ⟨.own, b, off⟩)) (st : Hp as H) (hb : Has as (.blk b (.cells ty l))) (hl : Nat.ble (off + n) l.length = true) (hm : (l.drop off).take n = m) : OpL C fs (.ldn n x) H (.agg m) :=
  .ldn hx (hm ▸ loadN_own (st.has hb).1 (ble_le hl))

end Im

/- Further rules: appends that begin with nil, values of one cell, ends that read a cell. No condition. -/
namespace Im
open Go (IntKind BinOp UnOp)

theorem one_int (k : IntKind) (n : Int) : (V.int k n).one = true := rfl
theorem one_str (s : List UInt8) : (V.str s).one = true := rfl
theorem one_bool (b : Bool) : (V.bool b).one = true := rfl
theorem one_nils : V.nils.one = true := rfl
theorem one_nilp : V.nilp.one = true := rfl
theorem one_ptr (a : PA) : (V.ptr a).one = true := rfl
theorem one_slice (a : PA) (n : Nat) (c : Cap) : (V.slice a n c).one = true := rfl
theorem one_cells {v : V} (h : v.one = true) : v.cells = [v] := by cases v <;> first | rfl | cases h
theorem one_alls {v : V} (h : v.one = true) : v.cells.all V.one = true := by rw [one_cells h]; simp [h]
theorem Sl.one {C : Cfg} {H : Heap} {S : Nat → Prop} {e : Nat} {v : V} {cs : List (List V)} (h : Sl C H S e v cs) : v.one = true := by
  rcases h with ⟨rfl, _⟩ | ⟨a, cap, rfl, _⟩ <;> rfl
theorem Ls.one {α : Type} {C : Cfg} {H : Heap} {S : Nat → Prop} {e : Nat} {enc : α → List V} {v : V} {xs : List α} (h : Ls C H S e enc v xs) : v.one = true := Sl.one h
theorem GrowAt.one {H : Heap} {ty e : Nat} {v : V} {cs : List (List V)} (h : GrowAt H ty e v cs) : v.one = true := by
  rcases h with ⟨rfl, _⟩ | ⟨_, b, rfl, _⟩ <;> rfl

/-- An element's cells are e single ones. -/
def Enc {α : Type} (e : Nat) (enc : α → List V) : Prop := ∀ x, (enc x).length = e ∧ (enc x).all V.one = true
theorem Enc.flat {α : Type} {e : Nat} {enc : α → List V} (h : Enc e enc) : ∀ (xs : List α), (xs.map enc).flatten.all V.one = true
  | [] => rfl
  | x :: xs => by rw [List.map_cons, List.flatten_cons, all_one_append, (h x).2, h.flat xs]; rfl
theorem Enc.wide {α : Type} {e : Nat} {enc : α → List V} (h : Enc e enc) (xs : List α) : ∀ c ∈ xs.map enc, c.length = e := fun c hc => by
  obtain ⟨x, _, rfl⟩ := List.mem_map.1 hc; exact (h x).1

section
variable {C : Cfg} {H : Heap} {as : List A} {fs : Fs} {nid : Nat} {R : V → Heap → Prop}

/-- A value of one cell is stored. -/
theorem OpR.stB1 {x y : Opd} {b off ty : Nat} {l m : List V} {v : V} {r : List A} (hx : ev fs x = some (.ptr ⟨.own, b, off⟩)) (hy : ev fs y = some v) (h1 : v.one = true) (st : Hp as H) (hu : Rem as (.blk b (.cells ty l)) r)
    (hl : Nat.ble (off + 1) l.length = true) (hm : l.set off v = m) (k : ∀ H1, Hp (.blk b (.cells ty m) :: r) H1 → R .undef H1) : OpR C fs (.st 1 x y) nid H R :=
  .stB hx hy st hu (by rw [one_cells h1]; rfl) (one_alls h1) hl (by rw [one_cells h1]; exact hm) k
/-- A list of one element of one cell. -/
theorem OpR.bsliceS1 {ty : Nat} {z v : V} {x : Opd} (hx : ev fs x = some v) (h1 : v.one = true) (st : Hp as H) (hn : ¬ Own as nid) (k : ∀ b H1, Hp (.blk b (.cells ty [v]) :: as) H1 → R (.slice ⟨.own, b, 0⟩ 1 (.ex 1)) H1) : OpR C fs (.bslice ty 1 [z] [(0, 1, x)]) nid H R :=
  .bsliceS (by simp [fillF, hx, one_cells h1, setAt]) st hn k

/-- append of a whole list to nil. -/
theorem OpR.appL0 {α : Type} {enc : α → List V} {x y : Opd} {ty e : Nat} {w : V} {xs : List α} {H0 : Heap} {S : Nat → Prop} (hx : ev fs x = some .nils) (hy : ev fs y = some w) (hw : Ls C H0 S e enc w xs) (he : Enc e enc) (st : Hp as H) (hn : ¬ Own as nid) (hf : Has as (.frz H0 S))
    (hlen : xs.length ≤ 68719476736) (k : ∀ u H1, u.one = true → Hp (.grow u ty e (xs.map enc) :: as) H1 → R u H1) : OpR C fs (.app false ty e x y) nid H R :=
  .appF hx hy (st.growNil ty e) (fun h => h.elim (fun ⟨_, _, h⟩ => by cases h) hn) (.there _ _ _ hf) hw (.here _ _) (he.wide xs) (he.flat xs) (by simpa using hlen) (fun u H1 h => k u H1 h.1.1.one h)
end

section
variable {C : Cfg} {H : Heap} {as r : List A} {fs : Fs} {R : V → Heap → Prop}

theorem AtEnd.cellB {i n b off ty : Nat} {l m : List V} (hi : lk fs i = some (.ptr ⟨.own, b, off⟩)) (st : Hp as H) (hb : Has as (.blk b (.cells ty l))) (hl : Nat.ble (off + n) l.length = true) (hm : (l.drop off).take n = m) (k : R (.agg m) H) : AtEnd C [.cell i (some n)] R .rt fs H [] :=
  .rt (l := [.agg m]) (by simp [resF, resF1, hi, loadN_own (st.has hb).1 (ble_le hl), hm]) k

/-- What grew in a call lies in what the call made. -/
theorem Hp.growIn {v : V} {ty e : Nat} {cs : List (List V)} {H0 : Heap} (st : Hp as H) (h : Rem as (.grow v ty e cs) r) (h0 : Has r (.frz H0 (· < H0.next))) : Sl C H (fun id => H0.next ≤ id ∧ id < H.next) e v cs := by
  have st1 := st.rem h
  refine st1.1.1.sl.sub fun id hid => ⟨Nat.le_of_not_lt fun hlt => st1.2.1 id hid (h0.own hlt), st1.1.2 id hid⟩
theorem Hp.growLs {α : Type} {enc : α → List V} {v : V} {ty e : Nat} {xs : List α} {H0 : Heap} (st : Hp as H) (h : Rem as (.grow v ty e (xs.map enc)) r) (h0 : Has r (.frz H0 (· < H0.next))) : Ls C H (fun id => H0.next ≤ id ∧ id < H.next) e enc v xs := st.growIn h h0
/-- What a call of a call made lies in what the call made. -/
theorem Hp.frzIn {H0 H1 : Heap} {S : Nat → Prop} (st : Hp as H) (h : Rem as (.frz H1 S) r) (h0 : Has r (.frz H0 (· < H0.next))) : Agree S H1 H ∧ ∀ id, S id → H0.next ≤ id ∧ id < H.next := by
  have st1 := st.rem h
  exact ⟨st1.1.1, fun id hid => ⟨Nat.le_of_not_lt fun hlt => st1.2.1 id hid (h0.own hlt), st1.1.2 id hid⟩⟩
end

end Im

/- Rules for regions that draw their order and make objects. No condition. -/
namespace Im
open Go (IntKind BinOp UnOp)

/-- A call that leaves what was there, and makes something. -/
def Makes (C : Cfg) (f : Nat) (args : List V) (H : Heap) (P : V → Heap → (Nat → Prop) → Prop) : Prop :=
  Calls C (.fn f) args H (fun v H' => Keeps H H' ∧ P v H' (fun id => H.next ≤ id ∧ id < H'.next))

theorem OpR.callM {C : Cfg} {H : Heap} {as : List A} {fs : Fs} {nid : Nat} {R : V → Heap → Prop} {f : Nat} {args : List Opd} {l : List V} {P : V → Heap → (Nat → Prop) → Prop} (hl : evs fs args = some l) (st : Hp as H) (h : Makes C f l H P)
    (k : ∀ v H1 S, P v H1 S → Hp (.frz H1 S :: as) H1 → R v H1) : OpR C fs (.call f args) nid H R :=
  .callN (P := P) hl st h fun v H1 S st p => k v H1 S p st

section
variable {C : Cfg} {nt base : Nat} {mats : List (Nat × List Nat)} {os : List IOper} {i : Nat} {fs : Fs} {A0 : Heap} {pend : List (Nat × Obj)} {Q : List ARec → Fs → Heap → Prop} {as r : List A} {S : Nat → Prop}

/-- An effect that makes an object. -/
theorem WD.effR {d : Nat} {op : IOp} (hc : clsOf op = 3) (hd : Nat.blt d nt = true) (st : Hp as A0) (hr : Rem as (.res S) r) (hS : S (base + i))
    (h : Hp (.res (fun j => S j ∧ j ≠ base + i) :: r) A0 → ¬ Own (.res (fun j => S j ∧ j ≠ base + i) :: r) (base + i) →
      OpR C fs op (base + i) A0 (fun v H1 => WD C nt base mats os (i + 1) ((d, v) :: fs) H1 [] (fun ars fs' H' => Q (⟨fs, v, true, A0, H1⟩ :: ars) fs' H'))) : WD C nt base mats (⟨some d, none, op⟩ :: os) i fs A0 [] Q :=
  .eff0 hc hd (h (st.take hr hS).1 (st.take hr hS).2)

/-- An effect ahead of which what was put off is laid: a store. -/
theorem WD.laySt {n j : Nat} {x y : Opd} {ob : Obj} (hm : (matOf mats i).contains j = true) (st : Hp as A0) (hr : Rem as (.res S) r) (hS : S (base + j))
    (h : ∀ A1, Hp (.blk (base + j) ob :: .res (fun k => S k ∧ k ≠ base + j) :: r) A1 → OpR C fs (.st n x y) (base + i) A1 (fun v H1 => WD C nt base mats os (i + 1) fs H1 [] (fun ars fs' H' => Q (⟨fs, v, true, A0, H1⟩ :: ars) fs' H'))) : WD C nt base mats (⟨none, none, .st n x y⟩ :: os) i fs A0 [(j, ob)] Q := by
  refine WD.eff rfl .none (OpR.mono (S := fun v H1 => WD C nt base mats os (i + 1) fs H1 [] (fun ars fs' H' => Q (⟨fs, v, true, A0, H1⟩ :: ars) fs' H')) ?_ (fun v H1 k => ⟨_, .none, ?_⟩))
  · have : ([(j, ob)].filter fun p => (matOf mats i).contains p.1) = [(j, ob)] := by simp only [List.filter_cons, hm, if_true, List.filter_nil]
    rw [this]
    exact h _ (st.lay hr hS ob)
  · have : ([(j, ob)].filter fun p => !(matOf mats i).contains p.1) = [] := by simp only [List.filter_cons, hm, Bool.not_true, if_neg (Bool.false_ne_true), List.filter_nil]
    rw [this]; exact k
/-- .. an append. -/
theorem WD.layApp {d j ty e : Nat} {s : Bool} {x y : Opd} {ob : Obj} (hm : (matOf mats i).contains j = true) (hd : Nat.blt d nt = true) (st : Hp as A0) (hr : Rem as (.res S) r) (hS : S (base + j)) (hSi : S (base + i)) (hij : i ≠ j)
    (h : ∀ A1, Hp (.blk (base + j) ob :: .res (fun k => (S k ∧ k ≠ base + i) ∧ k ≠ base + j) :: r) A1 → ¬ Own (.blk (base + j) ob :: .res (fun k => (S k ∧ k ≠ base + i) ∧ k ≠ base + j) :: r) (base + i) →
      OpR C fs (.app s ty e x y) (base + i) A1 (fun v H1 => WD C nt base mats os (i + 1) ((d, v) :: fs) H1 [] (fun ars fs' H' => Q (⟨fs, v, true, A0, H1⟩ :: ars) fs' H'))) : WD C nt base mats (⟨some d, none, .app s ty e x y⟩ :: os) i fs A0 [(j, ob)] Q := by
  refine WD.eff rfl .none (OpR.mono (S := fun v H1 => WD C nt base mats os (i + 1) ((d, v) :: fs) H1 [] (fun ars fs' H' => Q (⟨fs, v, true, A0, H1⟩ :: ars) fs' H')) ?_ (fun v H1 k => ⟨_, .some _ hd, ?_⟩))
  · have : ([(j, ob)].filter fun p => (matOf mats i).contains p.1) = [(j, ob)] := by simp only [List.filter_cons, hm, if_true, List.filter_nil]
    rw [this]
    have t := st.take hr hSi
    refine h _ (t.1.lay (.here _ _) ⟨hS, by omega⟩ ob) (fun ho => ?_)
    rcases ho with ho | ho | ho
    · have : base + i = base + j := ho
      omega
    · exact ho.1.2 rfl
    · exact t.2 (.inr ho)
  · have : ([(j, ob)].filter fun p => !(matOf mats i).contains p.1) = [] := by simp only [List.filter_cons, hm, Bool.not_true, if_neg (Bool.false_ne_true), List.filter_nil]
    rw [this]; exact k

theorem WD.bslice1 {d ty : Nat} {z v : V} {x : Opd} (hd : Nat.blt d nt = true) (hx : ev fs x = some v) (h1 : v.one = true) (k : WD C nt base mats os (i + 1) ((d, .slice ⟨.own, base + i, 0⟩ 1 (.ex 1)) :: fs) A0 ((i, .cells ty [v]) :: pend) (fun ars fs' H' => Q (⟨fs, .slice ⟨.own, base + i, 0⟩ 1 (.ex 1), true, A0, A0⟩ :: ars) fs' H')) :
    WD C nt base mats (⟨some d, none, .bslice ty 1 [z] [(0, 1, x)]⟩ :: os) i fs A0 pend Q :=
  .bslice hd (by simp [fillF, hx, one_cells h1, setAt]) k
end

section
variable {C : Cfg} {H : Heap} {as : List A} {fs : Fs} {nid : Nat} {R : V → Heap → Prop}
theorem OpR.eqN {q : EqT} {x y : Opd} {v w : V} {p : Prop} [Decidable p] (hx : ev fs x = some v) (hy : ev fs y = some w) (hr : ieq q v w = some (decide p)) (h1 : ¬ p → R (.bool true) H) (h2 : p → R (.bool false) H) : OpR C fs (.eq true q x y) nid H R := by
  refine .eq hx hy hr ?_
  by_cases h : p
  · simpa [h] using h2 h
  · simpa [h] using h1 h
theorem OpR.eqY {q : EqT} {x y : Opd} {v w : V} {p : Prop} [Decidable p] (hx : ev fs x = some v) (hy : ev fs y = some w) (hr : ieq q v w = some (decide p)) (h1 : p → R (.bool true) H) (h2 : ¬ p → R (.bool false) H) : OpR C fs (.eq false q x y) nid H R := by
  refine .eq hx hy hr ?_
  by_cases h : p
  · simpa [h] using h1 h
  · simpa [h] using h2 h
/-- One element, out of a known block. -/
theorem OpR.app1u {x y : Opd} {ty ty' e b : Nat} {cap : Cap} {v : V} {cs : List (List V)} {l : List V} {r : List A} (hx : ev fs x = some v) (hy : ev fs y = some (.slice ⟨.own, b, 0⟩ 1 cap)) (st : Hp as H) (hn : ¬ Own as nid) (hb : Has as (.blk b (.cells ty' l))) (hg : Rem as (.grow v ty e cs) r)
    (hl : l.length = e) (h1 : l.all V.one = true) (hlen : cs.length + 1 ≤ 68719476736) (k : ∀ u H1, u.one = true → Hp (.grow u ty e (cs ++ [l]) :: r) H1 → R u H1) : OpR C fs (.app false ty e x y) nid H R :=
  .app1 hx hy st hn hb hg hl h1 hlen fun u H1 h => k u H1 h.1.1.one h
end

/-- A grown slice is frozen beside what is frozen. -/
theorem Hp.absorb {as r1 r2 : List A} {H H1 : Heap} {S : Nat → Prop} {u : V} {ty e : Nat} {cs : List (List V)} (st : Hp as H) (hg : Rem as (.grow u ty e cs) r1) (hf : Rem r1 (.frz H1 S) r2) :
    Agree S H1 H ∧ GrowAt H ty e u cs ∧ Hp (.frz H (fun id => S id ∨ growIds u id) :: r2) H := by
  have s1 := st.rem hg
  have s2 := s1.2.2.rem hf
  refine ⟨s2.1.1, s1.1.1, ⟨Agree.refl _ _, fun id h => h.elim (s2.1.2 id) (s1.1.2 id)⟩, fun id h ho => ?_, s2.2.2⟩
  rcases h with h | h
  · exact s2.2.1 id h ho
  · exact s1.2.1 id h (hf.own.2 (.inr ho))
/-- What a call made is frozen beside what is frozen. -/
theorem Hp.absorbF {as r1 r2 : List A} {H H1 H2 : Heap} {S T : Nat → Prop} (st : Hp as H) (hg : Rem as (.frz H2 T) r1) (hf : Rem r1 (.frz H1 S) r2) :
    Agree S H1 H ∧ Agree T H2 H ∧ Hp (.frz H (fun id => S id ∨ T id) :: r2) H := by
  have s1 := st.rem hg
  have s2 := s1.2.2.rem hf
  refine ⟨s2.1.1, s1.1.1, ⟨Agree.refl _ _, fun id h => h.elim (s2.1.2 id) (s1.1.2 id)⟩, fun id h ho => ?_, s2.2.2⟩
  rcases h with h | h
  · exact s2.2.1 id h ho
  · exact s1.2.1 id h (hf.own.2 (.inr ho))

/-! ## What floats -/

section
variable {C : Cfg} {os : List IOper} {ars : List ARec}
theorem Floats.nil : Floats C os ars [] := trivial
theorem Floats.cons {p : Nat × Nat} {ps : List (Nat × Nat)} (h : FloatAt C os ars p) (k : Floats C os ars ps) : Floats C os ars (p :: ps) := ⟨h, k⟩

theorem FloatAt.of {p q : Nat} {o : IOper} {l e : ARec} (h1 : os[p]? = some o) (h2 : ars[p]? = some l) (h3 : ars[q]? = some e) (h4 : OpL C l.fs o.op e.A l.v) (h5 : OpL C l.fs o.op e.A' l.v) : FloatAt C os ars (p, q) := by
  simp only [FloatAt, h1, h2, h3]; exact fun _ _ => ⟨h4, h5⟩
theorem FloatAt.ldB {p q : Nat} {d : Option Nat} {g : Option (Nat × Bool)} {x : Opd} {fs fs' : Fs} {v v' : V} {w w' : Bool} {B B' A1 A2 : Heap} {b off ty ty' : Nat} {l m : List V} {as as' : List A} (h1 : os[p]? = some ⟨d, g, .ld x⟩) (h2 : ars[p]? = some ⟨fs, v, w, B, B'⟩) (h3 : ars[q]? = some ⟨fs', v', w', A1, A2⟩)
    (hx : ev fs x = some (.ptr ⟨.own, b, off⟩)) (st : Hp as A1) (hb : Has as (.blk b (.cells ty l))) (hl : l[off]? = some v) (st' : Hp as' A2) (hb' : Has as' (.blk b (.cells ty' m))) (hm : m[off]? = some v) : FloatAt C os ars (p, q) :=
  .of h1 h2 h3 (OpL.ldB hx st hb hl) (OpL.ldB hx st' hb' hm)
theorem FloatAt.ldnB {p q n : Nat} {d : Option Nat} {g : Option (Nat × Bool)} {x : Opd} {fs fs' : Fs} {v' : V} {w w' : Bool} {B B' A1 A2 : Heap} {b off ty ty' : Nat} {l m k : List V} {as as' : List A} (h1 : os[p]? = some ⟨d, g, .ldn n x⟩) (h2 : ars[p]? = some ⟨fs, .agg k, w, B, B'⟩) (h3 : ars[q]? = some ⟨fs', v', w', A1, A2⟩)
    (hx : ev fs x = some (.ptr ⟨.own, b, off⟩)) (st : Hp as A1) (hb : Has as (.blk b (.cells ty l))) (hn : Nat.ble (off + n) l.length = true) (hl : (l.drop off).take n = k) (st' : Hp as' A2) (hb' : Has as' (.blk b (.cells ty' m))) (hn' : Nat.ble (off + n) m.length = true) (hm : (m.drop off).take n = k) : FloatAt C os ars (p, q) :=
  .of h1 h2 h3 (OpL.ldnB hx st hb hn hl) (OpL.ldnB hx st' hb' hn' hm)
theorem FloatAt.off {p q : Nat} {o : IOper} {l e : ARec} (h1 : os[p]? = some o) (h2 : ars[p]? = some l) (h3 : ars[q]? = some e) (h4 : (l.w && e.w) = false) : FloatAt C os ars (p, q) := by
  simp only [FloatAt, h1, h2, h3]
  intro a b; rw [a, b] at h4; cases h4
end

end Im

/- Rules for clones of lists, and for calls that hand back what they made as assertions. No condition. -/
namespace Im
open Go (IntKind BinOp UnOp)

/-- Not memory that was there before. -/
def OwnV (v : V) : Prop := ∀ a n c, v = .slice a n c → a.r = .own

theorem OwnV.grow {v : V} {H : Heap} {ty e : Nat} {cs : List (List V)} (h : GrowAt H ty e v cs) : OwnV v := by
  intro a n c hv
  rcases h with ⟨h, _⟩ | ⟨_, b, h, _⟩
  · rw [h] at hv; cases hv
  · rw [h] at hv; cases hv; rfl

theorem Hp.frzOf {as r : List A} {H : Heap} {b : Nat} {o : Obj} (st : Hp as H) (h : Rem as (.blk b o) r) : Hp (.frz H (· = b) :: r) H := by
  have s := st.rem h
  exact ⟨⟨Agree.refl _ _, s.1.2⟩, s.2⟩

section
variable {C : Cfg} {H : Heap} {as : List A} {fs : Fs} {nid : Nat} {R : V → Heap → Prop}

/-- A struct of two cells. -/
theorem OpR.build2 {z1 z2 v w : V} {x y : Opd} (hx : ev fs x = some v) (hy : ev fs y = some w) (h1 : v.one = true) (h2 : w.one = true) (k : R (.agg [v, w]) H) : OpR C fs (.build [z1, z2] [(0, 1, x), (1, 1, y)]) nid H R :=
  .build (by simp [fillF, hx, hy, one_cells h1, one_cells h2, setAt]) k
/-- append of a whole list to an empty one whose array has no room. -/
theorem OpR.appX0 {α : Type} {enc : α → List V} {x y : Opd} {ty ty' e b : Nat} {w : V} {xs : List α} {H0 : Heap} {S : Nat → Prop} {r : List A} (hx : ev fs x = some (.slice ⟨.own, b, 0⟩ 0 (.ex 0))) (hy : ev fs y = some w) (hw : Ls C H0 S e enc w xs) (he : Enc e enc) (st : Hp as H) (hn : ¬ Own as nid)
    (hf : Has as (.frz H0 S)) (hb : Rem as (.blk b (.cells ty' [])) r) (hlen : xs.length ≤ 68719476736) (k : ∀ u H1 S', Ls C H1 S' e enc u xs → OwnV u → Hp (.frz H1 S' :: r) H1 → R u H1) : OpR C fs (.app false ty e x y) nid H R := by
  have hsrc := (Sl.agree hw (st.agree hf)).src (he.flat xs)
  have s := st.rem hb
  have hnr : ¬ Own r nid := fun h => hn (hb.own.2 (.inr h))
  have hbg : H.get b = some (.cells ty' []) := s.1.1
  have hblt : b < H.next := s.1.2 b rfl
  suffices h : ∃ u H1 S', iapp C nid false ty e (.slice ⟨.own, b, 0⟩ 0 (.ex 0)) w H = some (u, H1) ∧ Ls C H1 S' e enc u xs ∧ OwnV u ∧ Hp (.frz H1 S' :: r) H1 by
    obtain ⟨u, H1, S', h1, h2, h3, h4⟩ := h
    exact .app hx hy h1 (k u H1 S' h2 h3 h4)
  unfold iapp
  rw [hsrc]
  simp only [List.length_map]
  by_cases hz : xs = []
  · subst hz
    simp only [List.length_nil, Nat.add_zero, Nat.le_refl, if_true, List.map_nil, List.flatten_nil]
    have hst : H.storeN ((⟨.own, b, 0⟩ : PA).add (0 * e)) [] = some (H.put b (.cells ty' [])) := by
      simp [Heap.storeN, PA.add, hbg, setAt]
    rw [hst]
    have sp : Hp (.blk b (.cells ty' []) :: r) (H.put b (.cells ty' [])) := s.upd (Heap.next_le_put _ _ _) (fun id h => Heap.get_put_ne _ _ (fun (e : id = b) => s.2.1 b rfl (e ▸ h))) (fun id (h : id = b) => ⟨h ▸ s.2.1 b rfl, by rw [h, Heap.next_putOld _ _ hblt]; exact hblt⟩) (Heap.get_put_self _ _ _)
    exact ⟨_, _, (· = b), rfl, .inr ⟨_, _, rfl, fun _ => rfl, fun i c hc => by simp at hc⟩, fun a n c h => by cases h; rfl, sp.frzOf (.here _ _)⟩
  · have hz' : ¬ (0 + xs.length ≤ 0) := fun h => hz (List.length_eq_zero_iff.1 (by omega))
    rw [if_neg hz', if_neg (by omega)]
    simp only [Nat.zero_mul, Heap.loadN, List.nil_append, Nat.zero_add]
    have sp : Hp (.blk nid (.cells ty (xs.map enc).flatten) :: r) (H.put nid (.cells ty (xs.map enc).flatten)) := s.2.2.put hnr _
    refine ⟨_, _, (· = nid), rfl, ?_, fun a n c h => by cases h; rfl, sp.frzOf (.here _ _)⟩
    have := Sl.own (C := C) (S := (· = nid)) (cap := .un e) sp.1.1 (he.wide xs) rfl
    simpa [Ls] using this

/-- What a call that was made in H leaves, as assertions beside those that held. -/
theorem Hp.merge : ∀ {bs : List A} {H H' : Heap} {as : List A}, Hp (bs ++ [.frz H (· < H.next)]) H' → Hp as H → Hp (bs ++ as) H'
  | [], H, H', as, h, st => st.keeps (h.kept (.here _ _))
  | b :: bs, H, H', as, h, st => by
    refine ⟨h.1, fun id hid ho => ?_, Hp.merge h.2.2 st⟩
    have app : ∀ {xs ys : List A} {id : Nat}, Own (xs ++ ys) id → Own xs id ∨ Own ys id := by
      intro xs
      induction xs with
      | nil => exact fun h => .inr h
      | cons x xs ih => exact fun h => h.elim (fun h => .inl (.inl h)) (fun h => (ih h).elim (fun h => .inl (.inr h)) .inr)
    have app' : ∀ {xs ys : List A} {id : Nat}, Own xs id ∨ Own ys id → Own (xs ++ ys) id := by
      intro xs
      induction xs with
      | nil => exact fun h => h.elim (fun h => h.elim) (fun h => h)
      | cons x xs ih => exact fun h => h.elim (fun h => h.elim .inl (fun h => .inr (ih (.inl h)))) (fun h => .inr (ih (.inr h)))
    rcases app ho with ho | ho
    · exact h.2.1 id hid (app' (.inl ho))
    · exact h.2.1 id hid (app' (.inr (.inl (Own.lt st ho))))
end

end Im

/- Memory whose numbers may have turned ('A.sim'); stores into it; code behind the first pieces. No condition. -/
namespace Im
open Go (IntKind BinOp UnOp)

def IsI (v : V) : Prop := ∃ n, v = .int .i64 n
/-- The same cells, but for numbers. -/
def SimO (o o' : Option Obj) : Prop := ∀ ty l, o = some (.cells ty l) → ∃ l', o' = some (.cells ty l') ∧ l'.length = l.length ∧ ∀ (i : Nat) (v : V), l[i]? = some v → IsI v → ∃ v', l'[i]? = some v' ∧ IsI v'

def A.sim (H0 : Heap) (S : Nat → Prop) : A := ⟨S, fun H => ∀ id, S id → SimO (H0.get id) (H.get id), fun H H' h k id hid => by rw [h id hid]; exact k id hid⟩

theorem Hp.sim {as r : List A} {H0 H : Heap} {S : Nat → Prop} (st : Hp as H) (h : Rem as (.frz H0 S) r) : Hp (.sim H0 S :: r) H := by
  have s := st.rem h
  refine ⟨⟨fun id hid ty l hl => ⟨l, ?_, rfl, fun i v hv hi => ⟨v, hv, hi⟩⟩, s.1.2⟩, s.2⟩
  rw [s.1.1 id hid, hl]

section
variable {C : Cfg} {H : Heap} {as : List A} {fs : Fs} {nid : Nat} {R : V → Heap → Prop}

/-- A number is stored where one stood. -/
theorem OpR.stSim {x y : Opd} {H0 : Heap} {T : Nat → Prop} {a : PA} {e off : Nat} {l0 : List V} {m n0 : Int} {r : List A} (hx : ev fs x = some (.ptr (a.add off))) (hy : ev fs y = some (.int .i64 m)) (ha : a.At T) (ho : a.r = .own) (hl : H0.loadN C a 0 e = some l0) (hi : l0[off]? = some (.int .i64 n0))
    (st : Hp as H) (hs : Rem as (.sim H0 T) r) (k : ∀ H1, Hp (.sim H0 T :: r) H1 → R .undef H1) : OpR C fs (.st 1 x y) nid H R := by
  have s := st.rem hs
  obtain ⟨rg, b, o⟩ := a
  dsimp only at ho
  subst ho
  have hT : T b := ha rfl
  have hc : H0.cellsAt C ⟨.own, b, o⟩ off = some (.int .i64 n0) := by
    obtain ⟨h1, h2⟩ := loadN_iff.1 hl
    have := h2 off (by have := (List.getElem?_eq_some_iff.1 hi).1; omega)
    rw [Nat.zero_add] at this
    rw [this, hi]
  simp only [Heap.cellsAt] at hc
  split at hc <;> try (cases hc; done)
  rename_i ty l hg
  obtain ⟨l', hg', hlen, hcells⟩ := s.1.1 b hT ty l hg
  have hlt : o + off < l.length := (List.getElem?_eq_some_iff.1 hc).1
  have hbn : b < H.next := s.1.2 b hT
  refine .st (H' := H.put b (.cells ty (setAt l' (o + off) [.int .i64 m]))) hx hy rfl ?_ (k _ ?_)
  · simp only [Heap.storeN, PA.add, hg']
    exact if_pos ⟨by simp [V.cells]; omega, rfl⟩
  · refine s.upd (Heap.next_le_put _ _ _) (fun id h => Heap.get_put_ne _ _ (fun (e : id = b) => s.2.1 b hT (e ▸ h))) (fun id h => ⟨s.2.1 id h, by rw [Heap.next_putOld _ _ hbn]; exact s.1.2 id h⟩) (fun id hid => ?_)
    by_cases hib : id = b
    · subst hib
      intro ty2 l2 h2
      rw [hg] at h2
      cases h2
      refine ⟨_, Heap.get_put_self _ _ _, by simp [setAt, hlen], fun i v hv hi2 => ?_⟩
      simp only [setAt]
      by_cases hio : o + off = i
      · subst hio
        exact ⟨.int .i64 m, by simp [List.getElem?_set, hlen, hlt], m, rfl⟩
      · rw [List.getElem?_set_ne hio]; exact hcells i v hv hi2
    · rw [Heap.get_put_ne _ _ hib]; exact s.1.1 id hid
theorem OpR.stSim0 {x y : Opd} {H0 : Heap} {T : Nat → Prop} {a : PA} {e : Nat} {l0 : List V} {m n0 : Int} {r : List A} (hx : ev fs x = some (.ptr a)) (hy : ev fs y = some (.int .i64 m)) (ha : a.At T) (ho : a.r = .own) (hl : H0.loadN C a 0 e = some l0) (hi : l0[0]? = some (.int .i64 n0))
    (st : Hp as H) (hs : Rem as (.sim H0 T) r) (k : ∀ H1, Hp (.sim H0 T :: r) H1 → R .undef H1) : OpR C fs (.st 1 x y) nid H R :=
  .stSim (off := 0) (a := a) hx hy ha ho hl hi st hs k

/-- An element's address, of a list that lies in memory of the run's own. -/
theorem OpR.iasO {α : Type} {enc : α → List V} {x i : Opd} {H0 : Heap} {S : Nat → Prop} {e : Nat} {v : V} {xs : List α} {kd : IntKind} {m : Nat} (hx : ev fs x = some v) (hi : ev fs i = some (.int kd (m : Nat))) (h : Ls C H0 S e enc v xs) (hw : OwnV v) (hm : m < xs.length)
    (k : ∀ a, a.At S → a.r = .own → H0.loadN C a 0 e = some (enc xs[m]) → R (.ptr a) H) : OpR C fs (.ias e x i) nid H R := by
  rcases h with ⟨rfl, hn⟩ | ⟨a, cap, rfl, h2, h3⟩
  · have := List.map_eq_nil_iff.1 hn
    subst this; simp at hm
  · have hlt : m < (xs.map enc).length := by simpa using hm
    refine .ias hx hi (by omega) (by omega) (k _ (h2.add _) (hw a _ _ rfl) ?_)
    have := h3 m _ (List.getElem?_eq_getElem hlt)
    simpa using this
end

section
variable {C : Cfg} {nt base : Nat} {mats : List (Nat × List Nat)} {os : List IOper} {i : Nat} {fs : Fs} {A0 : Heap} {Q : List ARec → Fs → Heap → Prop} {as r : List A} {S : Nat → Prop}
/-- A store ahead of which two objects are laid. -/
theorem WD.laySt2 {n j j2 : Nat} {x y : Opd} {ob ob2 : Obj} (hm : (matOf mats i).contains j = true) (hm2 : (matOf mats i).contains j2 = true) (st : Hp as A0) (hr : Rem as (.res S) r) (hS : S (base + j)) (hS2 : S (base + j2)) (hj : j2 ≠ j)
    (h : ∀ A1, Hp (.blk (base + j2) ob2 :: .res (fun k => (S k ∧ k ≠ base + j) ∧ k ≠ base + j2) :: .blk (base + j) ob :: r) A1 → OpR C fs (.st n x y) (base + i) A1 (fun v H1 => WD C nt base mats os (i + 1) fs H1 [] (fun ars fs' H' => Q (⟨fs, v, true, A0, H1⟩ :: ars) fs' H'))) :
    WD C nt base mats (⟨none, none, .st n x y⟩ :: os) i fs A0 [(j2, ob2), (j, ob)] Q := by
  refine WD.eff rfl .none (OpR.mono (S := fun v H1 => WD C nt base mats os (i + 1) fs H1 [] (fun ars fs' H' => Q (⟨fs, v, true, A0, H1⟩ :: ars) fs' H')) ?_ (fun v H1 k => ⟨_, .none, ?_⟩))
  · have : ([(j2, ob2), (j, ob)].filter fun p => (matOf mats i).contains p.1) = [(j2, ob2), (j, ob)] := by simp only [List.filter_cons, hm, hm2, if_true, List.filter_nil]
    rw [this]
    exact h _ ((st.lay hr hS ob).lay (.there _ _ _ _ (.here _ _)) ⟨hS2, by omega⟩ ob2)
  · have : ([(j2, ob2), (j, ob)].filter fun p => !(matOf mats i).contains p.1) = [] := by simp only [List.filter_cons, hm, hm2, Bool.not_true, if_neg (Bool.false_ne_true), List.filter_nil]
    rw [this]; exact k
end

section
variable {C : Cfg} {nt base : Nat} {mats : List (Nat × List Nat)} {os : List IOper} {i : Nat} {fs : Fs} {A0 : Heap} {Q : List ARec → Fs → Heap → Prop}
/-- A guarded effect where nothing is put off. -/
theorem WD.eff0G {d g : Nat} {b : Bool} {op : IOp} (hg : lk fs g = some (.bool b)) (hc : clsOf op = 3) (hd : Nat.blt d nt = true) (h : OpR C fs op (base + i) A0 (fun v H1 => WD C nt base mats os (i + 1) ((d, v) :: fs) H1 [] (fun ars fs' H' => Q (⟨fs, v, true, A0, H1⟩ :: ars) fs' H'))) : WD C nt base mats (⟨some d, some (g, b), op⟩ :: os) i fs A0 [] Q :=
  WD.eff hc (.some _ _ hg) (OpR.mono (S := fun v H1 => WD C nt base mats os (i + 1) ((d, v) :: fs) H1 [] (fun ars fs' H' => Q (⟨fs, v, true, A0, H1⟩ :: ars) fs' H')) h (fun _ _ k => ⟨_, .some _ hd, k⟩))
end

/-- The code behind the first n pieces. -/
def ICode.rest : Nat → ICode → ICode
  | 0, c => c
  | n + 1, .seq _ b => b.rest n
  | _, c => c

end Im

