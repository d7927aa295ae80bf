/- Regions that draw their order: the whole ('regD_sound'). -/
import Derived.Test.YthhkfcnmbpnmkaaImU
namespace Im
open Go (IntKind BinOp UnOp Program World Value Addr TypeId FuncId Code Oper Operand Op TypeDesc Sem Act Fence Exit Ending wpOpIn wpAnyIn)
open Go.RowKit (Below)

theorem getD_iff {l : Array Bool} {i : Nat} : l.getD i false = true ↔ l[i]? = some true := by
  rw [Array.getD_eq_getD_getElem?]
  cases l[i]? <;> simp

theorem getD_lt {l : Array Bool} {i : Nat} (h : i < l.size) : l.getD i true = l.getD i false := by
  simp [Array.getD_eq_getD_getElem?, h]

section
variable {E : Env} {C : Cfg} {cf : CallF} {opsA : Array Oper} {base : Nat} {rs : List Rec} {t0 : List V} {H0 : Heap} {T : Nat → List V} {A : Nat → Heap} {Pd : Nat → List (Nat × Obj)}

theorem St.done (R : Run cf C opsA.toList (opsA.toList.map (trOper E opsA)) base rs t0 H0 T A Pd) {ρ0 : Ren} {w0 : World} {a0 : Act} {S : Nat → Prop} {ρ : Ren} {t : List V} {a : Act} {w : World} {m : Nat} {P : List (Nat × Obj)}
    (st : St E opsA.toList (opsA.toList.map (trOper E opsA)) rs base A t0 H0 ρ0 w0 a0 S ρ t a w m P) (hS : ∀ i, i < opsA.size → S i) :
    t = T opsA.size ∧ Post E (fun id => base ≤ id) ρ0 H0.get (base + opsA.size) w0 ρ (puts base (A opsA.size) (Pd opsA.size)).get (puts base (A opsA.size) (Pd opsA.size)).next w := by
  have hlen : (opsA.toList.map (trOper E opsA)).length = opsA.size := by simp
  generalize hos : opsA.toList.map (trOper E opsA) = os at *
  rw [← hlen] at hS ⊢
  have hA : A os.length = A m := R.const st.m_le (Nat.le_refl _) fun k h1 h2 h3 => by
    have := (st.eff k h3).1 (hS k h2); omega
  have hoff : ∀ j, Off opsA.toList os rs m j ↔ Off opsA.toList os rs os.length j := fun j => by
    have := st.m_le
    exact ⟨fun h k k1 k2 k3 => h k k1 ((st.eff k k3).1 (hS k k2)) k3, fun h k k1 k2 k3 => h k k1 (by omega) k3⟩
  have hPd : ∀ j ob, (j, ob) ∈ Pd os.length ↔ (j, ob) ∈ P := by
    intro j ob
    rw [R.pend (Nat.le_refl _), st.pend, hoff]
    constructor
    · rintro ⟨h1, h2, h3⟩; exact ⟨hS j h1, h2, h3⟩
    · rintro ⟨h1, h2, h3⟩; exact ⟨h2.elim fun _ h => h.2.2, h2, h3⟩
  have hb := (R.off st.m_le).1
  have huniq : ∀ j o1 o2, (j, o1) ∈ P → (j, o2) ∈ P → o1 = o2 := fun j o1 o2 q1 q2 => ((st.pend _ _).1 q1).2.1.uniq ((st.pend _ _).1 q2).2.1
  have huniq' : ∀ j o1 o2, (j, o1) ∈ Pd os.length → (j, o2) ∈ Pd os.length → o1 = o2 := fun j o1 o2 q1 q2 => huniq j o1 o2 ((hPd _ _).1 q1) ((hPd _ _).1 q2)
  have hn1 := puts_next_eq base (A m) P fun p hp => by
    obtain ⟨_, ⟨_, _, _, h⟩, _⟩ := (st.pend p.1 p.2).1 hp
    omega
  have hn2 := puts_next_eq base (A m) (Pd os.length) fun p hp => by
    obtain ⟨_, ⟨_, _, _, h⟩, _⟩ := (st.pend p.1 p.2).1 ((hPd _ _).1 hp)
    omega
  refine ⟨TS.eq (S := S) (fun j _ h2 => ?_) st.ts ((R.ts (Nat.le_refl _)).congr fun j hj => ⟨fun _ => hS j hj, fun _ => hj⟩), ?_⟩
  · obtain ⟨r, h3, _⟩ := R.step j os[j] (List.getElem?_eq_getElem h2)
    exact ⟨r, h3⟩
  rw [hA, hn2, ← hn1]
  have hg : (puts base (A m) (Pd os.length)).get = (puts base (A m) P).get := by
    funext id
    rcases puts_get base (A m) P huniq id with ⟨j, o, q1, q2, q3⟩ | ⟨q1, q2⟩ <;> rcases puts_get base (A m) (Pd os.length) huniq' id with ⟨j', o', p1, p2, p3⟩ | ⟨p1, p2⟩
    · have : j' = j := by omega
      subst this
      rw [q3, p3, huniq _ _ _ q2 ((hPd _ _).1 p2)]
    · exact absurd q1 (p1 _ _ ((hPd _ _).2 q2))
    · exact absurd p1 (q1 _ _ ((hPd _ _).1 p2))
    · rw [q2, p2]
  rw [hg]
  exact st.post

theorem sim (R : Run cf C opsA.toList (opsA.toList.map (trOper E opsA)) base rs t0 H0 T A Pd) (hE : EnvOk E) (hC : CfgOk E C) (hcf : CfOk E cf) (ro : Option Nat) {n : Nat} {Q : Exit → Act → World → Prop} {ρ0 : Ren} {w0 : World} {a0 : Act}
    (hK : ∀ ρ' a' w', VRels E ρ' (T opsA.size) a'.tmps.toList → a'.defers = a0.defers →
      Post E (fun id => base ≤ id) ρ0 H0.get (base + opsA.size) w0 ρ' (puts base (A opsA.size) (Pd opsA.size)).get (puts base (A opsA.size) (Pd opsA.size)).next w' → Q .normal a' w') :
    ∀ (fuel : Nat) (listed : Array Bool) (ρ : Ren) (t : List V) (a : Act) (w : World) (m : Nat) (P : List (Nat × Obj)), listed.size = opsA.size → listed.toList.count false ≤ fuel →
      (∀ i o, listed.getD i false = true → opsA.toList[i]? = some o → ∀ e ∈ o.after.toList, Go.Region.binds .any e = true → listed.getD e.on false = true) →
      St E opsA.toList (opsA.toList.map (trOper E opsA)) rs base A t0 H0 ρ0 w0 a0 (fun i => listed.getD i false = true) ρ t a w m P → wpAnyIn (Wd ro) n E.P .any opsA Q fuel listed a w := by
  intro fuel
  have final : ∀ (listed : Array Bool) (ρ : Ren) (t : List V) (a : Act) (w : World) (m : Nat) (P : List (Nat × Obj)), listed.size = opsA.size →
      St E opsA.toList (opsA.toList.map (trOper E opsA)) rs base A t0 H0 ρ0 w0 a0 (fun i => listed.getD i false = true) ρ t a w m P → Go.Region.ready .any opsA listed = [] → Q .normal a w := by
    intro listed ρ t a w m P hsz st hre
    have hall : ∀ i, i < opsA.size → listed.getD i false = true := by
      intro i
      induction i using Nat.strongRecOn with
      | _ i ih =>
        intro hi
        refine Classical.byContradiction fun hc => ?_
        have : i ∈ Go.Region.ready .any opsA listed := by
          refine Go.mem_ready.2 ⟨by rw [getD_lt (by omega)]; simpa using hc, opsA[i], Array.getElem?_eq_getElem hi, fun e he hb => ?_⟩
          have := edgesOk_spec opsA.toList 0 R.edges i opsA[i] (by simp [hi]) e (by simpa using he) hb
          exact ih e.on (by omega) (by omega)
        rw [hre] at this; simp at this
    obtain ⟨h1, h2⟩ := st.done R hall
    exact hK ρ a w (h1 ▸ st.slots) st.defers h2
  induction fuel with
  | zero =>
    intro listed ρ t a w m P hsz hcnt hcl st
    have hall : ∀ i, i < opsA.size → listed.getD i false = true := by
      intro i hi
      have h0 : listed.toList.count false = 0 := by omega
      rw [List.count_eq_zero] at h0
      rw [getD_iff, Array.getElem?_eq_getElem (by omega)]
      cases hv : listed[i]'(by omega) with
      | true => rfl
      | false => exact absurd (by rw [← hv]; simp) h0
    have hre : Go.Region.ready .any opsA listed = [] := by
      rw [List.eq_nil_iff_forall_not_mem]
      intro i hi
      obtain ⟨h1, o, h2, _⟩ := Go.mem_ready.1 hi
      have hlt := (Array.getElem?_eq_some_iff.1 h2).1
      rw [getD_lt (by omega), hall i hlt] at h1
      cases h1
    exact ⟨hre, final listed ρ t a w m P hsz st hre⟩
  | succ fuel ih =>
    intro listed ρ t a w m P hsz hcnt hcl st
    refine ⟨final listed ρ t a w m P hsz st, fun i hi => ?_⟩
    obtain ⟨h1, o, h2, h3⟩ := Go.mem_ready.1 hi
    have hlt := (Array.getElem?_eq_some_iff.1 h2).1
    have h2' : opsA.toList[i]? = some o := by rw [Array.getElem?_toList]; exact h2
    rw [getD_lt (by omega)] at h1
    have hS : ∀ j, (listed.setIfInBounds i true).getD j false = true ↔ (listed.getD j false = true ∨ j = i) := by
      intro j
      by_cases e : j = i
      · subst e
        simp [Array.getD_eq_getD_getElem?, Array.getElem?_setIfInBounds_self_of_lt (show j < listed.size by omega)]
      · rw [Go.getD_set_ne _ (Ne.symm e)]; simp [e]
    refine st.step R hE hC hcf ro h2 (by rw [h1]; simp) (fun j hj => An.ready R.edges hcl h2' (fun e he hb => h3 e (by simpa using he) hb) hj) (fun k j => An.closed R.edges hcl k j) fun ρ' t' a' w' m' P' st' => ?_
    refine ih _ ρ' t' a' w' m' P' (by simpa using hsz) ?_ ?_ ?_
    · rw [Array.toList_setIfInBounds, List.count_set (by simp; omega)]
      have : listed.toList[i]'(by simp; omega) = false := by
        have h4 : listed[i]? = some false := by
          rw [Array.getElem?_eq_getElem (by omega)]
          have : ¬ listed[i]? = some true := fun h => by rw [getD_iff.2 h] at h1; cases h1
          rw [Array.getElem?_eq_getElem (by omega)] at this
          cases hv : listed[i]'(by omega) <;> simp_all
        rw [Array.getElem?_eq_getElem (by omega)] at h4
        simpa using h4
      have hpos : 0 < listed.toList.count false := List.count_pos_iff.2 (this ▸ List.getElem_mem _)
      rw [this]
      simp only [beq_self_eq_true, if_true]
      have : (true == false) = false := rfl
      rw [this]
      simp only [Bool.false_eq_true, if_false]
      omega
    · intro j o' hj ho' e he hb
      rw [hS] at hj ⊢
      rcases hj with hj | rfl
      · exact .inl (hcl j o' hj ho' e he hb)
      · rw [h2'] at ho'; cases ho'
        exact .inl (h3 e (by simpa using he) hb)
    · have : (fun i_1 => (listed.setIfInBounds i true).getD i_1 false = true) = fun j => (listed.getD j false = true ∨ j = i) := by
        funext j; exact propext (hS j)
      rw [this]; exact st'

theorem regD_sound (hE : EnvOk E) (hC : CfgOk E C) (hcf : CfOk E cf) (hmono : CfMono cf) (ro : Option Nat) {n id : Nat} {ρ : Ren} {H : Heap} {w : World} {t : List V} {a : Act} {Q : Exit → Act → World → Prop} (ht : VRels E ρ t a.tmps.toList) (hr : Rel E ρ H.get H.next w)
    (hm : E.P.follows .mixedOrders = true) (he : edgesOk opsA.toList 0 = true) (hd : drawOk (ancs opsA.toList []) (opsA.toList.map (trOper E opsA)) = true)
    {t' : List V} {H' : Heap} (h : iregD cf C (opsA.toList.map (trOper E opsA)) (matsOf (ancs opsA.toList []) (opsA.toList.map (trOper E opsA))) (prsOf (ancs opsA.toList []) (opsA.toList.map (trOper E opsA))) t H = some (t', H'))
    (hK : ∀ ρ' a' w', VRels E ρ' t' a'.tmps.toList → a'.defers = a.defers → Post E (fun _ => False) ρ H.get H.next w ρ' H'.get H'.next w' → Q .normal a' w') :
    (Code.region id opsA true).wpIn (Wd ro) n E.P Q a w := by
  refine Go.wpIn_region_any hm ?_
  unfold iregD at h
  split at h <;> try (cases h; done)
  rename_i rs t1 H1 hrun
  split at h <;> try (cases h; done)
  rename_i hfl
  cases h
  obtain ⟨T, A, Pd, e1, e2, e3, hs, e4, e5⟩ := drun_run _ _ _ _ _ _ _ _ hrun
  simp only [Nat.zero_add, List.length_map, Array.length_toList] at hs e4 e5
  have hnone : ∀ id, H.next ≤ id → H.get id = none := by
    intro id hid
    cases hg : H.get id with
    | none => rfl
    | some o =>
      obtain ⟨b, x, tot, h1, _⟩ := hr.obj id o hg
      rw [hr.fresh id hid] at h1; cases h1
  have R : Run cf C opsA.toList (opsA.toList.map (trOper E opsA)) H.next rs t (H.bump opsA.size) T A Pd :=
    ⟨he, hd, fun p hp => List.all_eq_true.1 hfl p hp, hmono, e1, by rw [e2]; simp, e3, by simp [Heap.bump], fun id hid => hnone id hid, by simp, fun k o hk => hs k o hk⟩
  refine sim R hE hC hcf ro (ρ0 := ρ) (w0 := w) (a0 := a) (fun ρ' a' w' k1 k2 k3 => ?_) opsA.size _ ρ t a { w with drawn := w.drawn + 1 } 0 [] (by simp) (by simp) ?_ ?_
  · rw [e4] at k1
    rw [e5] at k3
    exact hK ρ' a' w' k1 k2 (Post.unbump (by rw [Heap.bump_get] at k3; exact k3))
  · intro i o hi
    simp [Array.getD_eq_getD_getElem?, Array.getElem?_replicate] at hi
    split at hi <;> simp at hi
  · have hno : ∀ i, ¬ (Array.replicate opsA.size false).getD i false = true := by
      intro i hi
      simp [Array.getD_eq_getD_getElem?, Array.getElem?_replicate] at hi
      split at hi <;> simp at hi
    refine ⟨ht, rfl, ⟨rfl, fun d => ⟨fun j _ _ hj => absurd hj (hno j), fun _ => rfl⟩⟩, Nat.zero_le _, fun k _ => ⟨fun hj => absurd hj (hno k), fun h => by omega⟩, fun j ob => ⟨fun h => by simp at h, fun h => absurd h.1 (hno j)⟩, ?_, fun j _ _ => ?_⟩
    · rw [e2]
      simp only [puts, Heap.bump_get]
      have h1 := (hr.drawn (w.drawn + 1)).next (nx' := H.next + opsA.size) (by omega)
      refine ⟨Ext.refl _, by simpa [Heap.bump] using h1, by simp [Heap.bump], Nat.le_refl _, fun _ _ _ => rfl, fun id o b x t h1 h2 => .inl ⟨id, o, x, t, h1, h2⟩, fun _ _ _ => rfl⟩
    · exact hr.fresh _ (by omega)

end
end Im
