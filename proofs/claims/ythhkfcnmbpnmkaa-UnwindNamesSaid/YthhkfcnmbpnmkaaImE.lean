/- Steps of memory: what a new object, a store, a load do to 'Rel'; 'Post'. -/
import Derived.Test.YthhkfcnmbpnmkaaImD
import Derived.Laws.Cells
import Derived.Deep.AppendSrc
namespace Im
open Go (IntKind BinOp UnOp Program World Value Addr TypeId FuncId Code Oper Operand Op TypeDesc Sem Act)
open Go.RowKit (Below)

def upd (g : Nat → Option Obj) (id : Nat) (o : Option Obj) : Nat → Option Obj := fun i => if i = id then o else g i

theorem Heap.put_get (H : Heap) (id : Nat) (o : Obj) : (H.put id o).get = upd H.get id (some o) := by
  funext i; rw [Heap.get_put]; rfl
theorem Heap.del_get (H : Heap) (id : Nat) : (H.del id).get = upd H.get id none := by
  funext i; rw [Heap.get_del]; rfl
theorem Heap.bump_get (H : Heap) (n : Nat) : (H.bump n).get = H.get := rfl

/-- What a step leaves: the heap g (next nx) in w by ρ has become g' (nx') in w' by ρ'. 'S': the numbers below nx that the step may have given out. -/
structure Post (E : Env) (S : Nat → Prop) (ρ : Ren) (g : Nat → Option Obj) (nx : Nat) (w : World) (ρ' : Ren) (g' : Nat → Option Obj) (nx' : Nat) (w' : World) : Prop where
  ext : Ext ρ ρ'
  rel : Rel E ρ' g' nx' w'
  nx_le : nx ≤ nx'
  size : w.heap.size ≤ w'.heap.size
  frame : ∀ b, b < w.heap.size → (∀ id o x t, g id = some o → ρ id ≠ some (b, x, t)) → w'.heap[b]? = w.heap[b]?
  newb : ∀ id o b x t, g' id = some o → ρ' id = some (b, x, t) → (∃ id0 o0 x0 t0, g id0 = some o0 ∧ ρ id0 = some (b, x0, t0)) ∨ w.heap.size ≤ b
  old : ∀ id, id < nx → ¬ S id → ρ' id = ρ id

section
variable {E : Env} {S S' : Nat → Prop} {ρ ρ' ρ'' : Ren} {g g' g'' : Nat → Option Obj} {nx nx' nx'' : Nat} {w w' w'' : World}

theorem Post.refl (h : Rel E ρ g nx w) : Post E S ρ g nx w ρ g nx w :=
  ⟨Ext.refl _, h, Nat.le_refl _, Nat.le_refl _, fun _ _ _ => rfl, fun id o b x t h1 h2 => .inl ⟨id, o, x, t, h1, h2⟩, fun _ _ _ => rfl⟩

theorem Post.mono (h : Post E S ρ g nx w ρ' g' nx' w') (hs : ∀ id, id < nx → S id → S' id) : Post E S' ρ g nx w ρ' g' nx' w' :=
  ⟨h.ext, h.rel, h.nx_le, h.size, h.frame, h.newb, fun id h1 h2 => h.old id h1 fun h3 => h2 (hs id h1 h3)⟩

theorem Post.trans (h : Post E S ρ g nx w ρ' g' nx' w') (k : Post E S ρ' g' nx' w' ρ'' g'' nx'' w'') : Post E S ρ g nx w ρ'' g'' nx'' w'' := by
  refine ⟨h.ext.trans k.ext, k.rel, Nat.le_trans h.nx_le k.nx_le, Nat.le_trans h.size k.size, ?_, ?_, ?_⟩
  · intro b hb hn
    rw [k.frame b (Nat.lt_of_lt_of_le hb h.size) ?_, h.frame b hb hn]
    intro id o x t hg hρ
    rcases h.newb id o b x t hg hρ with ⟨id0, o0, x0, t0, h1, h2⟩ | h1
    · exact hn id0 o0 x0 t0 h1 h2
    · omega
  · intro id o b x t hg hρ
    rcases k.newb id o b x t hg hρ with ⟨id0, o0, x0, t0, h1, h2⟩ | h1
    · exact h.newb id0 o0 b x0 t0 h1 h2
    · exact .inr (Nat.le_trans h.size h1)
  · intro id h1 h2
    rw [k.old id (Nat.lt_of_lt_of_le h1 h.nx_le) h2, h.old id h1 h2]

/-- A draw turns nothing. -/
theorem Rel.drawn (h : Rel E ρ g nx w) (n : Nat) : Rel E ρ g nx { w with drawn := n } :=
  ⟨⟨h.below.os, h.below.tape, h.below.output, h.below.size, h.below.block⟩, h.obj, h.inj, h.fresh⟩

/-- Fewer objects. -/
theorem Rel.sub (h : Rel E ρ g nx w) (hs : ∀ id o, g' id = some o → g id = some o) : Rel E ρ g' nx w :=
  ⟨h.below, fun id o k => h.obj id o (hs id o k), fun id id' o o' b x t x' t' k k' => h.inj id id' o o' b x t x' t' (hs _ _ k) (hs _ _ k'), h.fresh⟩

theorem Rel.next (h : Rel E ρ g nx w) (hn : nx ≤ nx') : Rel E ρ g nx' w :=
  ⟨h.below, h.obj, h.inj, fun id k => h.fresh id (Nat.le_trans hn k)⟩

/-- An object's block is there. -/
theorem Rel.lt (h : Rel E ρ g nx w) {id : Nat} {o : Obj} {b x t : Nat} (hg : g id = some o) (hρ : ρ id = some (b, x, t)) : b < w.heap.size := by
  obtain ⟨b', x', t', h1, _, h3⟩ := h.obj id o hg
  rw [hρ] at h1; cases h1
  rcases Nat.lt_or_ge b w.heap.size with h4 | h4
  · exact h4
  · rw [Array.getElem?_eq_none h4] at h3
    cases o <;> simp [ORel] at h3

/-- The renaming with one more. -/
def Ren.upd (ρ : Ren) (id : Nat) (x : Nat × Nat × Nat) : Ren := fun i => if i = id then some x else ρ i

theorem Ren.upd_ext (ρ : Ren) (id : Nat) (x : Nat × Nat × Nat) (h : ρ id = none) : Ext ρ (ρ.upd id x) := by
  intro i y hy
  unfold Ren.upd
  by_cases e : i = id
  · subst e; rw [h] at hy; cases hy
  · rw [if_neg e]; exact hy

theorem Ren.upd_self (ρ : Ren) (id : Nat) (x : Nat × Nat × Nat) : ρ.upd id x id = some x := by simp [Ren.upd]

/-- A new block that holds an object. -/
theorem Post.new (h : Rel E ρ g nx w) (nid tot : Nat) (o : Obj) (bo : Go.Obj) (hn : ρ nid = none) (hnx : nid < nx') (hle : nx ≤ nx')
    (ho : ORel E (ρ.upd nid (w.heap.size, 0, tot)) o 0 tot (some bo)) (d : Nat) :
    Post E (· = nid) ρ g nx w (ρ.upd nid (w.heap.size, 0, tot)) (upd g nid (some o)) nx' { w with heap := w.heap.push bo, drawn := d } := by
  have hext := Ren.upd_ext ρ nid (w.heap.size, 0, tot) hn
  have hN : E.w0.heap.size ≤ w.heap.size := h.below.size
  have hold : ∀ b, b < w.heap.size → (w.heap.push bo)[b]? = w.heap[b]? := fun b hb => by rw [Array.getElem?_push, if_neg (by omega)]
  refine ⟨hext, ⟨⟨h.below.os, h.below.tape, h.below.output, ?_, ?_⟩, ?_, ?_, ?_⟩, hle, by simp, ?_, ?_, ?_⟩
  · simp; omega
  · intro k hk
    show (w.heap.push bo)[k]? = _
    rw [hold k (by omega)]; exact h.below.block k hk
  · intro id o' hg
    unfold Im.upd at hg
    by_cases e : id = nid
    · subst e
      rw [if_pos rfl] at hg; cases hg
      refine ⟨w.heap.size, 0, tot, Ren.upd_self _ _ _, hN, ?_⟩
      show ORel E _ _ _ _ (w.heap.push bo)[w.heap.size]?
      rw [Array.getElem?_push_size]; exact ho
    · rw [if_neg e] at hg
      obtain ⟨b, x, t, h1, h2, h3⟩ := h.obj id o' hg
      refine ⟨b, x, t, hext _ _ h1, h2, ?_⟩
      show ORel E _ _ _ _ (w.heap.push bo)[b]?
      rw [hold b (h.lt hg h1)]; exact h3.ext hext
  · intro id id' o1 o2 b x t x' t' h1 h2 h3 h4
    unfold Im.upd at h1 h2
    unfold Ren.upd at h3 h4
    by_cases e : id = nid <;> by_cases e' : id' = nid
    · rw [e, e']
    · rw [if_pos e] at h3; rw [if_neg e'] at h2 h4
      cases h3
      have := h.lt h2 h4; omega
    · rw [if_neg e] at h1 h3; rw [if_pos e'] at h4
      cases h4
      have := h.lt h1 h3; omega
    · rw [if_neg e] at h1 h3; rw [if_neg e'] at h2 h4
      exact h.inj _ _ _ _ _ _ _ _ _ h1 h2 h3 h4
  · intro id hid
    unfold Ren.upd
    rw [if_neg (by omega)]
    exact h.fresh id (by omega)
  · intro b hb _
    exact hold b hb
  · intro id o' b x t h1 h2
    unfold Im.upd at h1
    unfold Ren.upd at h2
    by_cases e : id = nid
    · rw [if_pos e] at h2; cases h2; exact .inr (Nat.le_refl _)
    · rw [if_neg e] at h1 h2; exact .inl ⟨id, o', x, t, h1, h2⟩
  · intro id _ h2
    unfold Ren.upd; rw [if_neg h2]

/-- An object written anew in its own block. -/
theorem Post.write (h : Rel E ρ g nx w) {id : Nat} {o o' : Obj} {b x t : Nat} (hg : g id = some o) (hρ : ρ id = some (b, x, t)) (bo : Go.Obj)
    (ho : ORel E ρ o' x t (some bo)) (w' : World) (hw : w'.os = w.os ∧ w'.tape = w.tape ∧ w'.output = w.output) (hs : w'.heap.size = w.heap.size)
    (hb : w'.heap[b]? = some bo) (hoth : ∀ k, k ≠ b → w'.heap[k]? = w.heap[k]?) (hlt : id < nx) :
    Post E S ρ g nx w ρ (Im.upd g id (some o')) nx w' := by
  obtain ⟨b', x', t', e1, hN, _⟩ := h.obj id o hg
  rw [hρ] at e1; cases e1
  refine ⟨Ext.refl _, ⟨⟨hw.1.trans h.below.os, hw.2.1.trans h.below.tape, hw.2.2.trans h.below.output, by rw [hs]; exact h.below.size, ?_⟩, ?_, ?_, h.fresh⟩, Nat.le_refl _, by omega, ?_, ?_, fun _ _ _ => rfl⟩
  · intro k hk
    rw [hoth k (by omega)]; exact h.below.block k hk
  · intro id' o1 h1
    unfold Im.upd at h1
    by_cases e : id' = id
    · subst e; rw [if_pos rfl] at h1; cases h1
      exact ⟨b, x, t, hρ, hN, by rw [hb]; exact ho⟩
    · rw [if_neg e] at h1
      obtain ⟨b1, x1, t1, h2, h3, h4⟩ := h.obj id' o1 h1
      refine ⟨b1, x1, t1, h2, h3, ?_⟩
      rw [hoth b1 ?_]; exact h4
      intro eb; subst eb
      exact e (h.inj _ _ _ _ _ _ _ _ _ h1 hg h2 hρ)
  · intro i i' o1 o2 b1 x1 t1 x2 t2 h1 h2 h3 h4
    unfold Im.upd at h1 h2
    have f1 : ∃ o, g i = some o := by
      by_cases e : i = id
      · exact ⟨o, e ▸ hg⟩
      · rw [if_neg e] at h1; exact ⟨o1, h1⟩
    have f2 : ∃ o, g i' = some o := by
      by_cases e : i' = id
      · exact ⟨o, e ▸ hg⟩
      · rw [if_neg e] at h2; exact ⟨o2, h2⟩
    obtain ⟨p, hp⟩ := f1; obtain ⟨q, hq⟩ := f2
    exact h.inj _ _ _ _ _ _ _ _ _ hp hq h3 h4
  · intro k _ hn
    exact hoth k fun e => hn id o x t hg (e ▸ hρ)
  · intro i o1 b1 x1 t1 h1 h2
    unfold Im.upd at h1
    by_cases e : i = id
    · subst e; exact .inl ⟨i, o, x1, t1, hg, h2⟩
    · rw [if_neg e] at h1; exact .inl ⟨i, o1, x1, t1, h1, h2⟩

/-- An object that goes on in its block under a new number. -/
theorem Post.rename (h : Rel E ρ g nx w) {id : Nat} {o : Obj} {b x t : Nat} (hg : g id = some o) (hρ : ρ id = some (b, x, t)) (nid : Nat) (hn : ρ nid = none) (hnx : nid < nx') (hle : nx ≤ nx')
    (o' : Obj) (x' t' : Nat) (bo : Go.Obj) (ho : ORel E (ρ.upd nid (b, x', t')) o' x' t' (some bo)) (w' : World) (hw : w'.os = w.os ∧ w'.tape = w.tape ∧ w'.output = w.output) (hs : w'.heap.size = w.heap.size)
    (hb : w'.heap[b]? = some bo) (hoth : ∀ k, k ≠ b → w'.heap[k]? = w.heap[k]?) :
    Post E (· = nid) ρ g nx w (ρ.upd nid (b, x', t')) (Im.upd (Im.upd g id none) nid (some o')) nx' w' := by
  obtain ⟨b', x0, t0, e1, hN, _⟩ := h.obj id o hg
  rw [hρ] at e1; cases e1
  have hext := Ren.upd_ext ρ nid (b, x', t') hn
  have hne : id ≠ nid := by intro e; rw [e, hn] at hρ; cases hρ
  have hgid : ∀ i o1, i ≠ nid → Im.upd (Im.upd g id none) nid (some o') i = some o1 → i ≠ id ∧ g i = some o1 := by
    intro i o1 hi h1
    unfold Im.upd at h1
    rw [if_neg hi] at h1
    by_cases e : i = id
    · rw [if_pos e] at h1; cases h1
    · rw [if_neg e] at h1; exact ⟨e, h1⟩
  have hρn : ∀ i, i ≠ nid → ρ.upd nid (b, x', t') i = ρ i := fun i hi => by unfold Ren.upd; rw [if_neg hi]
  have hself : ρ.upd nid (b, x', t') nid = some (b, x', t') := by simp [Ren.upd]
  refine ⟨hext, ⟨⟨hw.1.trans h.below.os, hw.2.1.trans h.below.tape, hw.2.2.trans h.below.output, by rw [hs]; exact h.below.size, ?_⟩, ?_, ?_, ?_⟩, hle, by omega, ?_, ?_, ?_⟩
  · intro k hk
    rw [hoth k (by omega)]; exact h.below.block k hk
  · intro i o1 h1
    by_cases e : i = nid
    · subst e
      have : o1 = o' := by unfold Im.upd at h1; rw [if_pos rfl] at h1; cases h1; rfl
      subst this
      exact ⟨b, x', t', hself, hN, by rw [hb]; exact ho⟩
    · obtain ⟨e2, h2⟩ := hgid i o1 e h1
      obtain ⟨b1, x1, t1, h3, h4, h5⟩ := h.obj i o1 h2
      refine ⟨b1, x1, t1, by rw [hρn i e]; exact h3, h4, ?_⟩
      rw [hoth b1 ?_]; exact h5.ext hext
      intro eb; subst eb
      exact e2 (h.inj _ _ _ _ _ _ _ _ _ h2 hg h3 hρ)
  · intro i i' o1 o2 b1 x1 t1 x2 t2 h1 h2 h3 h4
    by_cases e : i = nid <;> by_cases e' : i' = nid
    · rw [e, e']
    · rw [e, hself] at h3; cases h3
      rw [hρn i' e'] at h4
      obtain ⟨e2, h5⟩ := hgid i' o2 e' h2
      exact absurd (h.inj _ _ _ _ _ _ _ _ _ h5 hg h4 hρ) e2
    · rw [e', hself] at h4; cases h4
      rw [hρn i e] at h3
      obtain ⟨e2, h5⟩ := hgid i o1 e h1
      exact absurd (h.inj _ _ _ _ _ _ _ _ _ h5 hg h3 hρ) e2
    · rw [hρn i e] at h3; rw [hρn i' e'] at h4
      exact h.inj _ _ _ _ _ _ _ _ _ (hgid i o1 e h1).2 (hgid i' o2 e' h2).2 h3 h4
  · intro i hi
    rw [hρn i (by omega)]; exact h.fresh i (by omega)
  · intro k _ hk
    exact hoth k fun e => hk id o x t hg (e ▸ hρ)
  · intro i o1 b1 x1 t1 h1 h2
    by_cases e : i = nid
    · rw [e, hself] at h2; cases h2
      exact .inl ⟨id, o, x, t, hg, hρ⟩
    · rw [hρn i e] at h2
      exact .inl ⟨i, o1, x1, t1, (hgid i o1 e h1).2, h2⟩
  · intro i _ hi
    exact hρn i hi

/-- An object let go of. -/
theorem Post.drop (h : Rel E ρ g nx w) (id : Nat) : Post E S ρ g nx w ρ (Im.upd g id none) nx w := by
  have hs : ∀ i o, Im.upd g id none i = some o → g i = some o := by
    intro i o k; unfold Im.upd at k
    by_cases e : i = id
    · rw [if_pos e] at k; cases k
    · rw [if_neg e] at k; exact k
  exact ⟨Ext.refl _, h.sub hs, Nat.le_refl _, Nat.le_refl _, fun _ _ _ => rfl, fun i o b x t h1 h2 => .inl ⟨i, o, x, t, hs _ _ h1, h2⟩, fun _ _ _ => rfl⟩

theorem Post.draw (h : Rel E ρ g nx w) (n : Nat) : Post E S ρ g nx w ρ g nx { w with drawn := n } :=
  ⟨Ext.refl _, h.drawn n, Nat.le_refl _, Nat.le_refl _, fun _ _ _ => rfl, fun i o b x t h1 h2 => .inl ⟨i, o, x, t, h1, h2⟩, fun _ _ _ => rfl⟩

theorem Post.bump (h : Rel E ρ g nx w) (hn : nx ≤ nx') : Post E S ρ g nx w ρ g nx' w :=
  ⟨Ext.refl _, h.next hn, hn, Nat.le_refl _, fun _ _ _ => rfl, fun i o b x t h1 h2 => .inl ⟨i, o, x, t, h1, h2⟩, fun _ _ _ => rfl⟩
end

/-! ## Loads -/

/-- The static memory that the ideal machine reads is the first world's. -/
structure CfgOk (E : Env) (C : Cfg) : Prop where
  st : ∀ b i v, C.st b i = some v → b < E.w0.heap.size ∧ ∃ u, E.w0.cell? ⟨b, i, none⟩ = some u ∧ VRel E (fun _ => none) v u
  gl : ∀ m g i v, E.gm g = some m → C.gl m i = some v → ∃ u, E.w0.cell? ⟨g, i, none⟩ = some u ∧ VRel E (fun _ => none) v u
  gm : ∀ g m, E.gm g = some m → g < E.w0.heap.size

theorem addr_add (b o : Nat) (n : Nat) : (⟨b, o, none⟩ : Addr).add n = ⟨b, o + n, none⟩ := by
  unfold Addr.add
  by_cases h : n = 0
  · subst h; simp
  · rw [if_neg h]

theorem ARel.form {E : Env} {ρ : Ren} {a : PA} {c : Addr} (h : ARel E ρ a c) : c.spot = none ∧ c = ⟨c.block, c.off, none⟩ := by
  unfold ARel at h
  cases hr : a.r <;> rw [hr] at h <;> simp only at h
  · obtain ⟨b, o, tot, _, h2⟩ := h; subst h2; exact ⟨rfl, rfl⟩
  · obtain ⟨_, h2⟩ := h; subst h2; exact ⟨rfl, rfl⟩
  · obtain ⟨_, _, _, h2⟩ := h; subst h2; exact ⟨rfl, rfl⟩

theorem ARel.add {E : Env} {ρ : Ren} {a : PA} {c : Addr} (h : ARel E ρ a c) (n : Nat) : ARel E ρ (a.add n) (c.add n) := by
  unfold ARel PA.add at *
  cases hr : a.r <;> rw [hr] at h <;> simp only at h ⊢
  · obtain ⟨b, o, tot, h1, h2⟩ := h; subst h2; exact ⟨b, o, tot, h1, by rw [addr_add, Nat.add_assoc]⟩
  · obtain ⟨h1, h2⟩ := h; subst h2; exact ⟨h1, by rw [addr_add]⟩
  · obtain ⟨g, h1, h2, h3⟩ := h; subst h3; exact ⟨g, h1, h2, by rw [addr_add]⟩

section
variable {E : Env} {C : Cfg} {ρ : Ren} {H : Heap} {w : World}

theorem cell_of_static (hr : Rel E ρ H.get H.next w) {a : Addr} (ha : a.block < E.w0.heap.size) : w.cell? a = E.w0.cell? a := hr.below.cell ha

theorem cellsAt_sound (hC : CfgOk E C) (hr : Rel E ρ H.get H.next w) {a : PA} {c : Addr} (ha : ARel E ρ a c) {i : Nat} {v : V} (h : H.cellsAt C a i = some v) :
    ∃ u, w.cell? (c.add i) = some u ∧ VRel E ρ v u := by
  unfold Heap.cellsAt at h
  unfold ARel at ha
  cases e : a.r <;> rw [e] at h ha <;> simp only at h ha
  · obtain ⟨b, o, tot, h1, h2⟩ := ha
    split at h
    · rename_i ty l hg
      obtain ⟨b', x, t, h3, h4, c', e', lo, hi, h5, _, h7, h8, h9, h10⟩ := hr.obj _ _ hg
      rw [h1] at h3; cases h3
      obtain ⟨u, hu, hv⟩ := h10 _ _ h
      refine ⟨u, ?_, hv⟩
      subst h2
      rw [addr_add]
      simp only [World.cell?, h5]
      rw [← hu]; simp [Nat.add_assoc]
    · cases h
  · obtain ⟨h1, h2⟩ := ha
    obtain ⟨_, u, hu, hv⟩ := hC.st _ _ _ h
    refine ⟨u, ?_, hv.ext (fun _ _ k => by cases k)⟩
    subst h2
    rw [addr_add, cell_of_static hr (by exact h1)]; exact hu
  · obtain ⟨g, h1, h2, h3⟩ := ha
    obtain ⟨u, hu, hv⟩ := hC.gl _ g _ _ h1 h
    refine ⟨u, ?_, hv.ext (fun _ _ k => by cases k)⟩
    subst h3
    rw [addr_add, cell_of_static hr (by exact h2)]; exact hu

theorem loadN_sound (hC : CfgOk E C) (hr : Rel E ρ H.get H.next w) {a : PA} {c : Addr} (ha : ARel E ρ a c) : ∀ (n i : Nat) (l : List V), H.loadN C a i n = some l →
    ∃ us, VRels E ρ l us ∧ us.length = n ∧ ∀ j u, us[j]? = some u → w.cell? (c.add (i + j)) = some u
  | 0, i, l, h => by simp [Heap.loadN] at h; subst h; exact ⟨[], .nil, rfl, by simp⟩
  | n + 1, i, l, h => by
    unfold Heap.loadN at h
    split at h
    · rename_i v l' h1 h2
      cases h
      obtain ⟨u, hu, hv⟩ := cellsAt_sound hC hr ha h1
      obtain ⟨us, k1, k2, k3⟩ := loadN_sound hC hr ha n (i + 1) l' h2
      refine ⟨u :: us, .cons _ _ _ _ hv k1, by simp [k2], fun j x hj => ?_⟩
      cases j with
      | zero => simp at hj; subst hj; exact hu
      | succ j =>
        simp at hj
        have := k3 j x hj
        rwa [show i + 1 + j = i + (j + 1) by omega] at this
    · cases h

theorem loadN_length {a : PA} : ∀ {n i : Nat} {l : List V}, H.loadN C a i n = some l → l.length = n
  | 0, i, l, h => by simp [Heap.loadN] at h; subst h; rfl
  | n + 1, i, l, h => by
    unfold Heap.loadN at h
    split at h
    · rename_i v l' h1 h2; cases h; simp [loadN_length h2]
    · cases h

end
end Im
