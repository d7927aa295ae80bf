/- Regions that draw their order: one operation in whatever order; the whole ('regD_sound'). -/
import Derived.Test.YthhkfcnmbpnmkaaImT
namespace Im
open Go (IntKind BinOp UnOp Program World Value Addr TypeId FuncId Code Oper Operand Op TypeDesc Sem Act Fence Exit Ending wpOpIn wpAnyIn)
open Go.RowKit (Below)

section
variable {E : Env} {C : Cfg} {cf : CallF} {opsA : Array Oper} {base : Nat} {rs : List Rec} {t0 : List V} {H0 : Heap} {T : Nat → List V} {A : Nat → Heap} {Pd : Nat → List (Nat × Obj)}

theorem St.step (R : Run cf C opsA.toList (opsA.toList.map (trOper E opsA)) base rs t0 H0 T A Pd) (hE : EnvOk E) (hC : CfgOk E C) (hcf : CfOk E cf) (ro : Option Nat) {n : Nat} {Q : Exit → Act → World → Prop} {ρ0 : Ren} {w0 : World} {a0 : Act} {S : Nat → Prop} {ρ : Ren} {t : List V} {a : Act} {w : World} {m : Nat} {P : List (Nat × Obj)}
    (st : St E opsA.toList (opsA.toList.map (trOper E opsA)) rs base A t0 H0 ρ0 w0 a0 S ρ t a w m P) {i : Nat} {oo : Oper} (hi : opsA[i]? = some oo) (hnS : ¬ S i) (hrd : ∀ j, An opsA.toList i j → S j) (hcl : ∀ k j, S k → An opsA.toList k j → S j)
    {K : Act → World → Prop} (hK : ∀ ρ' t' a' w' m' P', St E opsA.toList (opsA.toList.map (trOper E opsA)) rs base A t0 H0 ρ0 w0 a0 (fun j => S j ∨ j = i) ρ' t' a' w' m' P' → K a' w') : wpOpIn (Wd ro) n E.P opsA Q i K a w := by
  generalize hos : opsA.toList.map (trOper E opsA) = os at *
  have ho : os[i]? = some (trOper E opsA oo) := by rw [← hos, List.getElem?_map, Array.getElem?_toList, hi]; rfl
  have hlt := (List.getElem?_eq_some_iff.1 ho).1
  obtain ⟨r, hr, hds⟩ := R.step i _ ho
  obtain ⟨hrt, hrA, hrA', hT', hw, hcase⟩ := dstep_cases hds
  have hlk := R.looks st.ts ho hcl hnS hrd
  have hwant : wanted (trOper E opsA oo).guard t = r.w := by rw [hw]; exact wanted_congr hlk
  have hcong : ∀ {cf' : CallF} {nid : Nat} {H : Heap}, iop cf' C nid (trOper E opsA oo).op t H = iop cf' C nid (trOper E opsA oo).op (T i) H := iop_congr hlk
  have hbase := R.off st.m_le
  have hnext := puts_next_eq base (A m) P fun p hp => by
    obtain ⟨_, ⟨_, _, _, h⟩, _⟩ := (st.pend p.1 p.2).1 hp
    have := hbase.1; omega
  have huniq : ∀ j o1 o2, (j, o1) ∈ P → (j, o2) ∈ P → o1 = o2 := fun j o1 o2 q1 q2 => ((st.pend _ _).1 q1).2.1.uniq ((st.pend _ _).1 q2).2.1
  have hgoneA : ∀ j ob, (j, ob) ∈ P → (A m).get (base + j) = none := fun j ob hj => by
    obtain ⟨_, h1, h2⟩ := (st.pend j ob).1 hj
    exact hbase.2 j ob h1 h2
  have hnot : ∀ j ob, (j, ob) ∈ P → j ≠ i := by
    rintro j ob hj rfl
    exact hnS ((st.pend j ob).1 hj).1
  -- an operation but an effect
  have plain : ¬ Eff os rs i → ∀ (P' : List (Nat × Obj)), (∀ j ob, (j, ob) ∈ P' ↔ (j, ob) ∈ P ∨ (j = i ∧ ObjAt os rs i ob)) → istep cf C (base + i) (trOper E opsA oo) t (puts base (A m) P) = some (setD t (trOper E opsA oo).dst r.v, puts base (A m) P') →
      wpOpIn (Wd ro) n E.P opsA Q i K a w := by
    intro hne P' hP' hs
    refine istep_any hE hC hcf ro st.slots st.post.rel hi (st.fresh i hlt hnS) hs fun ρ' a' w' k1 k2 k3 => ?_
    refine hK ρ' _ a' w' m P' ⟨k1, k2.trans st.defers, R.ts_step st.ts ho hr, st.m_le, fun k hk => ?_, fun j ob => ?_, st.post.trans (k3.mono fun id _ h => by omega), fun j h1 h2 => ?_⟩
    · rw [← st.eff k hk]
      exact ⟨fun h => h.resolve_right (by rintro rfl; exact hne hk), .inl⟩
    · rw [hP', st.pend]
      constructor
      · rintro (⟨h1, h2, h3⟩ | ⟨rfl, h1⟩)
        · exact ⟨.inl h1, h2, h3⟩
        · refine ⟨.inr rfl, h1, fun k k1 k2 k3 => ?_⟩
          cases hcon : (matOf (matsOf (ancs opsA.toList []) os) k).contains j with
          | false => rfl
          | true => exact absurd (hcl k j ((st.eff k k3).2 k2) (matOf_an hcon)) hnS
      · rintro ⟨h1 | rfl, h2, h3⟩
        · exact .inl ⟨h1, h2, h3⟩
        · exact .inr ⟨rfl, h2⟩
    · rw [k3.old (base + j) (by rw [hnext]; have := hbase.1; omega) (by intro e; exact h2 (.inr (by omega)))]
      exact st.fresh j h1 fun h => h2 (.inl h)
  have hnoeff : (r.w = true → clsOf (trOper E opsA oo).op ≠ 3) → ¬ Eff os rs i := by
    rintro hc ⟨o', r', b1, b2, b3, b4⟩
    rw [hr] at b2; cases b2
    rw [ho] at b1; cases b1
    exact hc b3 b4
  have hsame : r.ob = none → ∀ j ob, (j, ob) ∈ P ↔ (j, ob) ∈ P ∨ (j = i ∧ ObjAt os rs i ob) := by
    intro hob j ob
    refine ⟨.inl, fun h => h.resolve_right ?_⟩
    rintro ⟨_, r', b1, b2, _⟩
    rw [hr] at b1; cases b1
    rw [hob] at b2; cases b2
  rcases hcase with ⟨hrw, hv, _, _, hob⟩ | ⟨hrw, hc, ⟨H1, hiop⟩, _, _, hob⟩ | ⟨hrw, hc, ⟨H1, ob, hiop, hget, hob, _⟩, _⟩ | ⟨hrw, hc, hiop, _, hob⟩
  · refine plain (hnoeff fun h => by rw [hrw] at h; cases h) P (hsame hob) ?_
    unfold istep
    rw [hwant, hrw, hv]; rfl
  · refine plain (hnoeff fun _ => by omega) P (hsame hob) ?_
    unfold istep
    rw [hwant, hrw, if_pos rfl, hcong]
    rcases Nat.lt_or_ge (clsOf (trOper E opsA oo).op) 1 with h0 | h0
    · rw [iop_pure (by omega) hiop cf (base + i) (puts base (A m) P)]
    · obtain ⟨cf', H2, h2⟩ := R.load ho hr hrw (by omega) st.m_le st.eff hcl hnS hrd
      rw [iop_load (by omega) h2 cf (base + i) (puts base (A m) P) ?_]
      intro id o hg
      rcases puts_get base (A m) P huniq id with ⟨j, o', q1, q2, q3⟩ | ⟨q1, q2⟩
      · rw [q1, hgoneA j o' q2] at hg; cases hg
      · rw [q2]; exact hg
  · obtain ⟨ob', h1, h2⟩ := iop_alloc hc hiop
    have : ob' = ob := by rw [h1, Heap.get_put_self] at hget; exact Option.some.inj hget
    subst this
    refine plain (hnoeff fun _ => by omega) ((i, ob') :: P) (fun j ob2 => ?_) ?_
    · rw [List.mem_cons]
      constructor
      · rintro (h | h)
        · cases h; exact .inr ⟨rfl, r, hr, hob, hlt⟩
        · exact .inl h
      · rintro (h | ⟨rfl, h⟩)
        · exact .inr h
        · have : ob2 = ob' := h.uniq ⟨r, hr, hob, hlt⟩
          subst this; exact .inl rfl
    · unfold istep
      rw [hwant, hrw, if_pos rfl, hcong, h2 cf (puts base (A m) P)]
      rfl
  · have heff : Eff os rs i := ⟨_, r, ho, hr, hrw, hc⟩
    have hmi : m ≤ i := by
      rcases Nat.lt_or_ge i m with h | h
      · exact absurd ((st.eff i heff).2 h) hnS
      · exact h
    have hall : ∀ k, Eff os rs k → k < i → S k := by
      rintro k ⟨o', e, q1, q2, q3, q4⟩ hk
      rcases (drawOk_spec R.draw hk q1 ho).2 with h | h
      · exact hrd k h
      · exact absurd ⟨q4, hc⟩ (pairOk_spec h).2.2
    have hnone : ∀ k, m ≤ k → k < i → ¬ Eff os rs k := fun k h1 h2 h3 => by have := (st.eff k h3).1 (hall k h3 h2); omega
    have hlate : ∀ k, Eff os rs k → i < k → ¬ S k := fun k h1 h2 h3 => by have := (st.eff k h1).1 h3; omega
    have hAi : A i = A m := R.const hmi (by omega) hnone
    have hoff : ∀ j, Off opsA.toList os rs m j ↔ Off opsA.toList os rs i j := fun j =>
      ⟨fun h k k1 k2 k3 => h k k1 (by rcases Nat.lt_or_ge k m with h4 | h4
                                      · exact h4
                                      · exact absurd k3 (hnone k h4 k2)) k3, fun h k k1 k2 k3 => h k k1 (by omega) k3⟩
    generalize hPi : ((Pd i).filter fun p => (matOf (matsOf (ancs opsA.toList []) os) i).contains p.1) = Pi at hiop
    rw [hAi] at hiop
    have hPi' : ∀ j ob, (j, ob) ∈ Pi ↔ (j, ob) ∈ P ∧ (matOf (matsOf (ancs opsA.toList []) os) i).contains j = true := by
      intro j ob
      rw [← hPi, List.mem_filter, R.pend (by omega), st.pend, hoff]
      constructor
      · rintro ⟨⟨h1, h2, h3⟩, h4⟩
        exact ⟨⟨hrd j (matOf_an h4), h2, h3⟩, h4⟩
      · rintro ⟨⟨h1, h2, h3⟩, h4⟩
        exact ⟨⟨An.lt R.edges i j (matOf_an h4), h2, h3⟩, h4⟩
    have huniqi : ∀ j o1 o2, (j, o1) ∈ Pi → (j, o2) ∈ Pi → o1 = o2 := fun j o1 o2 q1 q2 => huniq j o1 o2 ((hPi' _ _).1 q1).1 ((hPi' _ _).1 q2).1
    have hnexti := puts_next_eq base (A m) Pi fun p hp => by
      obtain ⟨_, ⟨_, _, _, h⟩, _⟩ := (st.pend p.1 p.2).1 ((hPi' p.1 p.2).1 hp).1
      have := hbase.1; omega
    have hmono := iop_mono R.mono hiop
    generalize hP' : (P.filter fun p => !(matOf (matsOf (ancs opsA.toList []) os) i).contains p.1) = P'
    have hP'' : ∀ j ob, (j, ob) ∈ P' ↔ (j, ob) ∈ P ∧ (matOf (matsOf (ancs opsA.toList []) os) i).contains j = false := by
      intro j ob; rw [← hP', List.mem_filter]; simp
    have huniq' : ∀ j o1 o2, (j, o1) ∈ P' → (j, o2) ∈ P' → o1 = o2 := fun j o1 o2 q1 q2 => huniq j o1 o2 ((hP'' _ _).1 q1).1 ((hP'' _ _).1 q2).1
    have hnext' := puts_next_eq base (A (i + 1)) P' fun p hp => by
      obtain ⟨_, ⟨_, _, _, h⟩, _⟩ := (st.pend p.1 p.2).1 ((hP'' p.1 p.2).1 hp).1
      have := hbase.1; have := hmono.next; omega
    have hsub : ∀ id o, (puts base (A m) Pi).get id = some o → (puts base (A m) P).get id = some o := by
      intro id o hg
      rcases puts_get base (A m) Pi huniqi id with ⟨j, o', q1, q2, q3⟩ | ⟨q1, q2⟩
      · rw [q3] at hg; cases hg
        rcases puts_get base (A m) P huniq id with ⟨j', o2, p1, p2, p3⟩ | ⟨p1, p2⟩
        · have : j' = j := by omega
          subst this
          rw [p3, huniq _ _ _ p2 ((hPi' _ _).1 q2).1]
        · exact absurd q1 (p1 _ _ ((hPi' _ _).1 q2).1)
      · rw [q2] at hg
        rcases puts_get base (A m) P huniq id with ⟨j', o2, p1, p2, p3⟩ | ⟨p1, p2⟩
        · rw [p1, hgoneA _ _ p2] at hg; cases hg
        · rw [p2]; exact hg
    have hrel : Rel E ρ (puts base (A m) Pi).get (puts base (A m) Pi).next w := by
      rw [hnexti, ← hnext]; exact st.post.rel.sub hsub
    have hs : istep cf C (base + i) (trOper E opsA oo) t (puts base (A m) Pi) = some (setD t (trOper E opsA oo).dst r.v, A (i + 1)) := by
      unfold istep
      rw [hwant, hrw, if_pos rfl, hcong, hiop]
    refine istep_any hE hC hcf ro st.slots hrel hi (st.fresh i hlt hnS) hs fun ρ' a' w' k1 k2 k3 => ?_
    have hX : ∀ id, (∃ j ob, id = base + j ∧ (j, ob) ∈ P') → (puts base (A m) Pi).get id = none := by
      rintro id ⟨j, ob, rfl, hj⟩
      rcases puts_get base (A m) Pi huniqi (base + j) with ⟨j', o', q1, q2, q3⟩ | ⟨q1, q2⟩
      · have : j' = j := by omega
        subst this
        have h1 := ((hP'' _ _).1 hj).2
        rw [((hPi' _ _).1 q2).2] at h1; cases h1
      · rw [q2]; exact hgoneA j ob ((hP'' _ _).1 hj).1
    have hfr : Post E (· = base + i) ρ (puts base (A m) P).get (puts base (A m) P).next w ρ' (puts base (A (i + 1)) P').get (puts base (A (i + 1)) P').next w' := by
      have h1 : (puts base (A m) Pi).next = (puts base (A m) P).next := by rw [hnexti, hnext]
      rw [hnext']
      refine Post.frameIn (fun id => ∃ j ob, id = base + j ∧ (j, ob) ∈ P') _ st.post.rel hsub hX (h1 ▸ k3) ?_ ?_
      · rintro id ⟨j, ob, rfl, hj⟩
        rcases puts_get base (A (i + 1)) P' huniq' (base + j) with ⟨j', o', q1, q2, q3⟩ | ⟨q1, q2⟩
        · have : j' = j := by omega
          subst this
          rcases puts_get base (A m) P huniq (base + j') with ⟨j2, o2, p1, p2, p3⟩ | ⟨p1, p2⟩
          · have : j2 = j' := by omega
            subst this
            rw [q3, p3, huniq _ _ _ p2 ((hP'' _ _).1 q2).1]
          · exact absurd rfl (p1 _ _ ((hP'' _ _).1 q2).1)
        · exact absurd rfl (q1 _ _ hj)
      · intro id hid
        rcases puts_get base (A (i + 1)) P' huniq' id with ⟨j', o', q1, q2, q3⟩ | ⟨q1, q2⟩
        · exact absurd ⟨j', o', q1, q2⟩ hid
        · exact q2
    refine hK ρ' _ a' w' (i + 1) P' ⟨k1, k2.trans st.defers, R.ts_step st.ts ho hr, by omega, fun k hk => ?_, fun j ob => ?_, st.post.trans (hfr.mono fun id _ h => by omega), fun j h1 h2 => ?_⟩
    · rcases Nat.lt_trichotomy k i with h | h | h
      · exact ⟨fun _ => by omega, fun _ => .inl (hall k hk h)⟩
      · exact ⟨fun _ => by omega, fun _ => .inr h⟩
      · exact ⟨fun h' => (h'.elim (fun h' => absurd h' (hlate k hk h)) (fun h' => by omega)), fun _ => by omega⟩
    · rw [hP'', st.pend, hoff]
      constructor
      · rintro ⟨⟨h1, h2, h3⟩, h4⟩
        refine ⟨.inl h1, h2, fun k k1 k2 k3 => ?_⟩
        rcases Nat.lt_or_ge k i with h5 | h5
        · exact h3 k k1 h5 k3
        · have : k = i := by omega
          subst this; exact h4
      · rintro ⟨h1, h2, h3⟩
        have hji : j ≠ i := by
          rintro rfl
          obtain ⟨r', b1, b2, _⟩ := h2
          rw [hr] at b1; cases b1
          rw [hob] at b2; cases b2
        refine ⟨⟨h1.resolve_right hji, h2, fun k k1 k2 k3 => h3 k k1 (by omega) k3⟩, ?_⟩
        cases hcon : (matOf (matsOf (ancs opsA.toList []) os) i).contains j with
        | false => rfl
        | true =>
          rw [← hcon]
          exact h3 i (An.lt R.edges i j (matOf_an hcon)) (by omega) heff
    · rw [k3.old (base + j) (by rw [hnexti]; have := hbase.1; omega) (by intro e; exact h2 (.inr (by omega)))]
      exact st.fresh j h1 fun h => h2 (.inl h)

end
end Im
