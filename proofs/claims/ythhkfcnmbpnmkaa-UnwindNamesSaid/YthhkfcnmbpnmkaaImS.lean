/- Regions that draw their order: every order ends as the text's ('regD_sound'). -/
import Derived.Test.YthhkfcnmbpnmkaaImR
import Derived.OrdersIn
namespace Im
open Go (IntKind BinOp UnOp Program World Value Addr TypeId FuncId Code Oper Operand Op TypeDesc Sem Act Fence Exit Ending wpOpIn wpAnyIn)
open Go.RowKit (Below)

/-- A step within a part of the heap, beside which other objects lie. -/
theorem Post.frameIn {E : Env} {S : Nat → Prop} {ρ ρ' : Ren} {g h h' : Nat → Option Obj} {nx nx' : Nat} {w w' : World} (X : Nat → Prop) (g' : Nat → Option Obj)
    (hr : Rel E ρ g nx w) (hs : ∀ id o, h id = some o → g id = some o) (hX : ∀ id, X id → h id = none) (k : Post E S ρ h nx w ρ' h' nx' w')
    (hg1 : ∀ id, X id → g' id = g id) (hg2 : ∀ id, ¬ X id → g' id = h' id) : Post E S ρ g nx w ρ' g' nx' w' := by
  classical
  have hkeep : ∀ id o b x t, X id → g id = some o → ρ id = some (b, x, t) → w'.heap[b]? = w.heap[b]? := by
    intro id o b x t hx hg hρ
    refine k.frame b (hr.lt hg hρ) fun id0 o0 x0 t0 h1 h2 => ?_
    have := hr.inj _ _ _ _ _ _ _ _ _ (hs _ _ h1) hg h2 hρ
    subst this
    rw [hX _ hx] at h1; cases h1
  have hob : ∀ id o b x t, X id → g id = some o → ρ' id = some (b, x, t) → ρ id = some (b, x, t) := by
    intro id o b x t hx hg hρ
    obtain ⟨b', x', t', h1, _, _⟩ := hr.obj id o hg
    have := k.ext _ _ h1
    rw [hρ] at this; cases this
    exact h1
  refine ⟨k.ext, ⟨k.rel.below, ?_, ?_, k.rel.fresh⟩, k.nx_le, k.size, ?_, ?_, k.old⟩
  · intro id o hg
    by_cases hx : X id
    · rw [hg1 id hx] at hg
      obtain ⟨b, x, t, h1, h2, h3⟩ := hr.obj id o hg
      exact ⟨b, x, t, k.ext _ _ h1, h2, by rw [hkeep id o b x t hx hg h1]; exact h3.ext k.ext⟩
    · rw [hg2 id hx] at hg; exact k.rel.obj id o hg
  · intro id id' o o' b x t x' t' h1 h2 h3 h4
    have cross : ∀ i1 i2 o1 o2 x1 t1 x2 t2, X i1 → ¬ X i2 → g i1 = some o1 → h' i2 = some o2 → ρ' i1 = some (b, x1, t1) → ρ' i2 = some (b, x2, t2) → False := by
      intro i1 i2 o1 o2 x1 t1 x2 t2 hx hy q1 q2 q3 q4
      have q5 := hob i1 o1 b x1 t1 hx q1 q3
      rcases k.newb i2 o2 b x2 t2 q2 q4 with ⟨id0, o0, x0, t0, r1, r2⟩ | r1
      · have := hr.inj _ _ _ _ _ _ _ _ _ (hs _ _ r1) q1 r2 q5
        subst this
        rw [hX _ hx] at r1; cases r1
      · have := hr.lt q1 q5; omega
    by_cases hx : X id <;> by_cases hy : X id'
    · rw [hg1 id hx] at h1; rw [hg1 id' hy] at h2
      exact hr.inj _ _ _ _ _ _ _ _ _ h1 h2 (hob _ _ _ _ _ hx h1 h3) (hob _ _ _ _ _ hy h2 h4)
    · rw [hg1 id hx] at h1; rw [hg2 id' hy] at h2
      exact (cross id id' _ _ _ _ _ _ hx hy h1 h2 h3 h4).elim
    · rw [hg2 id hx] at h1; rw [hg1 id' hy] at h2
      exact (cross id' id _ _ _ _ _ _ hy hx h2 h1 h4 h3).elim
    · rw [hg2 id hx] at h1; rw [hg2 id' hy] at h2
      exact k.rel.inj _ _ _ _ _ _ _ _ _ h1 h2 h3 h4
  · intro b hb hn
    exact k.frame b hb fun id o x t h1 h2 => hn id o x t (hs _ _ h1) h2
  · intro id o b x t h1 h2
    by_cases hx : X id
    · rw [hg1 id hx] at h1
      exact .inl ⟨id, o, x, t, h1, hob id o b x t hx h1 h2⟩
    · rw [hg2 id hx] at h1
      rcases k.newb id o b x t h1 h2 with ⟨id0, o0, x0, t0, r1, r2⟩ | r1
      · exact .inl ⟨id0, o0, x0, t0, hs _ _ r1, r2⟩
      · exact .inr r1

/-- Numbers set aside. -/
theorem Post.unbump {E : Env} {ρ ρ' : Ren} {g g' : Nat → Option Obj} {base n nx' : Nat} {w w' : World} (k : Post E (fun id => base ≤ id) ρ g (base + n) w ρ' g' nx' w') : Post E (fun _ => False) ρ g base w ρ' g' nx' w' :=
  ⟨k.ext, k.rel, by have := k.nx_le; omega, k.size, k.frame, k.newb, fun id h1 _ => k.old id (by omega) (by omega)⟩

section
variable {E : Env} {C : Cfg} {cf : CallF}

/-- One operation, wherever it stands. -/
theorem istep_any (hE : EnvOk E) (hC : CfgOk E C) (hcf : CfOk E cf) (ro : Option Nat) {n : Nat} {ρ : Ren} {H : Heap} {w : World} {t : List V} {a : Act} (ht : VRels E ρ t a.tmps.toList) (hr : Rel E ρ H.get H.next w)
    {ops : Array Oper} {i : Nat} {o : Oper} (ho : ops[i]? = some o)
    {nid : Nat} (hn : ρ nid = none) {t1 : List V} {H1 : Heap} (h : istep cf C nid (trOper E ops o) t H = some (t1, H1)) {Q : Exit → Act → World → Prop} {K : Act → World → Prop}
    (hK : ∀ ρ' a' w', VRels E ρ' t1 a'.tmps.toList → a'.defers = a.defers → Post E (· = nid) ρ H.get H.next w ρ' H1.get H1.next w' → K a' w') :
    wpOpIn (Wd ro) n E.P ops Q i K a w := by
  simp only [wpOpIn, ho]
  unfold istep at h
  have hw : (trOper E ops o).op = .bad → (trOper E ops o).guard = none → trOp E o.op = .bad ∧ o.guard = none := by
    intro h1 h2
    rw [h2, h1] at h
    simp [wanted, iop] at h
  have hwant := wanted_sound (a := a) ht hw
  have hop : (trOper E ops o).op = trOp E o.op ∧ (trOper E ops o).dst = o.dst := by
    unfold trOper at hw ⊢
    cases hg : o.guard with
    | none => simp
    | some p =>
      obtain ⟨j, want⟩ := p
      simp only
      cases hd : (ops[j]?).bind (·.dst) with
      | none => rw [hg] at hw; simp only [hd] at hw; simp at hw
      | some d => simp
  rw [hwant, hop.1, hop.2] at h
  split at h
  · rename_i hwt
    rw [if_pos hwt]
    split at h <;> try (cases h; done)
    rename_i v H' hiop
    cases h
    exact oper_sound hE hC hcf ro ht hr hn hiop fun ρ' c w' hv hp => hK ρ' _ w' (put_rels (ht.ext hp.ext) hv _) (put_defers _ _) hp
  · rename_i hwt
    rw [if_neg hwt]
    cases h
    exact ⟨fun _ _ => trivial, hK ρ _ w (put_rels ht .undef _) (put_defers _ _) (.refl hr)⟩

/-! ## What the run in the text's order has laid down -/

/-- The run: slots, heap, what is put off, ahead of each operation. -/
structure Run (cf : CallF) (C : Cfg) (ops : List Oper) (os : List IOper) (base : Nat) (rs : List Rec) (t0 : List V) (H0 : Heap) (T : Nat → List V) (A : Nat → Heap) (Pd : Nat → List (Nat × Obj)) : Prop where
  edges : edgesOk ops 0 = true
  draw : drawOk (ancs ops []) os = true
  flo : ∀ p ∈ prsOf (ancs ops []) os, floats C os rs p = true
  mono : CfMono cf
  T0 : T 0 = t0
  A0 : A 0 = H0
  P0 : Pd 0 = []
  next : H0.next = base + os.length
  new : ∀ id, base ≤ id → H0.get id = none
  len : ops.length = os.length
  step : ∀ k o, os[k]? = some o → ∃ r, rs[k]? = some r ∧ dstep cf C base (matsOf (ancs ops []) os) k o (T k) (A k) (Pd k) = some (r, T (k + 1), A (k + 1), Pd (k + 1))

section
variable {ops : List Oper} {os : List IOper} {base : Nat} {rs : List Rec} {t0 : List V} {H0 : Heap} {T : Nat → List V} {A : Nat → Heap} {Pd : Nat → List (Nat × Obj)} (R : Run cf C ops os base rs t0 H0 T A Pd)
include R

/-- An effect that takes place. -/
def Eff (os : List IOper) (rs : List Rec) (k : Nat) : Prop := ∃ o r, os[k]? = some o ∧ rs[k]? = some r ∧ r.w = true ∧ clsOf o.op = 3
/-- The object that an operation makes. -/
def ObjAt (os : List IOper) (rs : List Rec) (j : Nat) (ob : Obj) : Prop := ∃ r, rs[j]? = some r ∧ r.ob = some ob ∧ j < os.length
/-- Not yet laid when operation m comes. -/
def Off (ops : List Oper) (os : List IOper) (rs : List Rec) (m j : Nat) : Prop := ∀ k, j < k → k < m → Eff os rs k → (matOf (matsOf (ancs ops []) os) k).contains j = false

omit R in
theorem ObjAt.uniq {j : Nat} {ob ob' : Obj} (h : ObjAt os rs j ob) (h' : ObjAt os rs j ob') : ob = ob' := by
  obtain ⟨r, h1, h2, _⟩ := h
  obtain ⟨r', h3, h4, _⟩ := h'
  rw [h1] at h3; cases h3
  rw [h2] at h4; cases h4; rfl

theorem Run.noneff {k : Nat} (hk : k < os.length) (h : ¬ Eff os rs k) : A (k + 1) = A k := by
  obtain ⟨r, h1, h2⟩ := R.step k os[k] (List.getElem?_eq_getElem hk)
  obtain ⟨-, -, -, -, -, h3⟩ := dstep_cases h2
  rcases h3 with ⟨_, _, h4, _⟩ | ⟨_, _, _, h4, _⟩ | ⟨_, _, _, h4⟩ | ⟨hw, hc, _⟩
  · exact h4
  · exact h4
  · exact h4
  · exact absurd ⟨_, r, List.getElem?_eq_getElem hk, h1, hw, hc⟩ h

theorem Run.const {a : Nat} : ∀ {b : Nat}, a ≤ b → b ≤ os.length → (∀ k, a ≤ k → k < b → ¬ Eff os rs k) → A b = A a
  | 0, h, _, _ => by have : a = 0 := by omega
                     rw [this]
  | b + 1, h, hb, hn => by
    rcases Nat.lt_or_ge b a with h1 | h1
    · have : a = b + 1 := by omega
      rw [this]
    · rw [R.noneff (by omega) (hn b h1 (by omega)), Run.const h1 (by omega) fun k k1 k2 => hn k k1 (by omega)]

theorem Run.pend : ∀ {i : Nat}, i ≤ os.length → ∀ j ob, (j, ob) ∈ Pd i ↔ j < i ∧ ObjAt os rs j ob ∧ Off ops os rs i j
  | 0, _, j, ob => by rw [R.P0]; simp
  | i + 1, hi, j, ob => by
    have ih := Run.pend (i := i) (by omega) j ob
    obtain ⟨r, h1, h2⟩ := R.step i os[i] (List.getElem?_eq_getElem (by omega))
    obtain ⟨-, -, -, -, -, h3⟩ := dstep_cases h2
    have offs : ¬ Eff os rs i → (Off ops os rs (i + 1) j ↔ Off ops os rs i j) := fun hne =>
      ⟨fun h k k1 k2 k3 => h k k1 (by omega) k3, fun h k k1 k2 k3 => h k k1 (by
        rcases Nat.lt_or_ge k i with h4 | h4
        · exact h4
        · exact absurd (by have : k = i := by omega
                           rw [← this]; exact k3) hne) k3⟩
    have plain : ¬ Eff os rs i → r.ob = none → Pd (i + 1) = Pd i → ((j, ob) ∈ Pd (i + 1) ↔ j < i + 1 ∧ ObjAt os rs j ob ∧ Off ops os rs (i + 1) j) := by
      intro hne hob hp
      rw [hp, ih, offs hne]
      refine ⟨fun ⟨a1, a2, a3⟩ => ⟨by omega, a2, a3⟩, fun ⟨a1, a2, a3⟩ => ⟨?_, a2, a3⟩⟩
      rcases Nat.lt_or_ge j i with h4 | h4
      · exact h4
      · have : j = i := by omega
        subst this
        obtain ⟨r', b1, b2, _⟩ := a2
        rw [h1] at b1; cases b1
        rw [hob] at b2; cases b2
    have hne : (r.w = true → clsOf os[i].op ≠ 3) → ¬ Eff os rs i := by
      rintro hc ⟨o', r', b1, b2, b3, b4⟩
      rw [h1] at b2; cases b2
      rw [List.getElem?_eq_getElem (by omega), Option.some.injEq] at b1; rw [← b1] at b4
      exact hc b3 b4
    rcases h3 with ⟨hw, _, _, hp, hob⟩ | ⟨hw, hc, _, _, hp, hob⟩ | ⟨hw, hc, ⟨H1, ob', _, _, hob, hp⟩, _⟩ | ⟨hw, hc, _, hp, hob⟩
    · exact plain (hne fun h => by rw [hw] at h; cases h) hob hp
    · exact plain (hne fun _ => by omega) hob hp
    · rw [hp, List.mem_cons, ih, offs (hne fun _ => by omega)]
      constructor
      · rintro (h | ⟨a1, a2, a3⟩)
        · cases h
          exact ⟨by omega, ⟨r, h1, hob, by omega⟩, fun k k1 k2 => by omega⟩
        · exact ⟨by omega, a2, a3⟩
      · rintro ⟨a1, a2, a3⟩
        rcases Nat.lt_or_ge j i with h4 | h4
        · exact .inr ⟨h4, a2, a3⟩
        · have : j = i := by omega
          subst this
          obtain ⟨r', b1, b2, _⟩ := a2
          rw [h1] at b1; cases b1
          rw [hob] at b2; cases b2
          exact .inl rfl
    · have heff : Eff os rs i := ⟨_, r, List.getElem?_eq_getElem (by omega), h1, hw, hc⟩
      rw [hp, List.mem_filter, ih]
      constructor
      · rintro ⟨⟨a1, a2, a3⟩, a4⟩
        refine ⟨by omega, a2, fun k k1 k2 k3 => ?_⟩
        rcases Nat.lt_or_ge k i with h4 | h4
        · exact a3 k k1 h4 k3
        · have : k = i := by omega
          subst this; simpa using a4
      · rintro ⟨a1, a2, a3⟩
        have hji : j < i := by
          rcases Nat.lt_or_ge j i with h4 | h4
          · exact h4
          · have : j = i := by omega
            subst this
            obtain ⟨r', b1, b2, _⟩ := a2
            rw [h1] at b1; cases b1
            rw [hob] at b2; cases b2
        exact ⟨⟨hji, a2, fun k k1 k2 => a3 k k1 (by omega)⟩, by simpa using a3 i hji (by omega) heff⟩

/-- The heap's next number stays above what the region has set aside; what is put off is not there yet. -/
theorem Run.off : ∀ {m : Nat}, m ≤ os.length → base + os.length ≤ (A m).next ∧ ∀ j ob, ObjAt os rs j ob → Off ops os rs m j → (A m).get (base + j) = none
  | 0, _ => by
    rw [R.A0]
    exact ⟨by rw [R.next]; exact Nat.le_refl _, fun j ob _ _ => R.new _ (by omega)⟩
  | m + 1, hm => by
    obtain ⟨ih1, ih2⟩ := Run.off (m := m) (by omega)
    have weak : ∀ j, Off ops os rs (m + 1) j → Off ops os rs m j := fun j h k k1 k2 => h k k1 (by omega)
    by_cases he : Eff os rs m
    · have he' := he
      obtain ⟨o, r, h1, h2, h3, h4⟩ := he
      obtain ⟨r', g1, g2⟩ := R.step m o h1
      rw [h2] at g1; cases g1
      obtain ⟨-, -, -, -, -, h5⟩ := dstep_cases g2
      rcases h5 with ⟨hw, _⟩ | ⟨_, hc, _⟩ | ⟨_, hc, _⟩ | ⟨_, _, hi, _, hob⟩
      · rw [h3] at hw; cases hw
      · omega
      · omega
      · have hmono := iop_mono R.mono hi
        have hnx := puts_next base (A m) ((Pd m).filter fun p => (matOf (matsOf (ancs ops []) os) m).contains p.1)
        refine ⟨by have := hmono.next; omega, fun j ob hj hoff => ?_⟩
        have hjl : j < os.length := by obtain ⟨_, _, _, h⟩ := hj; exact h
        have hjm : base + j ≠ base + m := by
          intro e
          have : j = m := by omega
          subst this
          obtain ⟨r2, c1, c2, _⟩ := hj
          rw [h2] at c1; cases c1
          rw [hob] at c2; cases c2
        refine hmono.none _ (by omega) hjm ?_
        have huniq : ∀ j' o1 o2, (j', o1) ∈ (Pd m).filter (fun p => (matOf (matsOf (ancs ops []) os) m).contains p.1) → (j', o2) ∈ (Pd m).filter (fun p => (matOf (matsOf (ancs ops []) os) m).contains p.1) → o1 = o2 := by
          intro j' o1 o2 q1 q2
          rw [List.mem_filter] at q1 q2
          exact ((R.pend (i := m) (by omega) _ _).1 q1.1).2.1.uniq ((R.pend (i := m) (by omega) _ _).1 q2.1).2.1
        rcases puts_get base (A m) _ huniq (base + j) with ⟨j', o', q1, q2, q3⟩ | ⟨q1, q2⟩
        · have : j' = j := by omega
          subst this
          rw [List.mem_filter] at q2
          have q4 := (R.pend (i := m) (by omega) _ _).1 q2.1
          have := hoff m q4.1 (by omega) he'
          rw [this] at q2; simp at q2
        · rw [q2]; exact ih2 j ob hj (weak j hoff)
    · rw [R.noneff (by omega) he]
      exact ⟨ih1, fun j ob hj hoff => ih2 j ob hj (weak j hoff)⟩

end
end
end Im
