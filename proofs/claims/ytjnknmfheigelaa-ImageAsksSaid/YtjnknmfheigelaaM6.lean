/- The ideal machine and the walks over it, a part (M6): see the comments ahead of each piece. No condition. -/
import Derived.RangeFuncNested
import Derived.LoopNIn
import Derived.Scope
import Derived.Test.YtjnknmfheigelaaM5

/- Regions that draw their order: one operation in whatever order; the whole ('regD_sound'). -/
namespace Im
open Go (IntKind BinOp UnOp Program World Value Addr TypeId FuncId Code Oper Operand Op TypeDesc Sem Act Fence Exit Ending wpOpIn wpAnyIn)
open Go.RowKit (Below)

section
variable {E : Env} {C : Cfg} {cf : CallF} {opsA : Array Oper} {base : Nat} {rs : List Rec} {t0 : List V} {H0 : Heap} {T : Nat → List V} {A : Nat → Heap} {Pd : Nat → List (Nat × Obj)}

theorem St.step (R : Run cf C opsA.toList (opsA.toList.map (trOper E opsA)) base rs t0 H0 T A Pd) (hE : EnvOk E) (hC : CfgOk E C) (hcf : CfOk E cf) (ro : Option Nat) {n : Nat} {Q : Exit → Act → World → Prop} {ρ0 : Ren} {w0 : World} {a0 : Act} {S : Nat → Prop} {ρ : Ren} {t : List V} {a : Act} {w : World} {m : Nat} {P : List (Nat × Obj)}
    (st : St E opsA.toList (opsA.toList.map (trOper E opsA)) rs base A t0 H0 ρ0 w0 a0 S ρ t a w m P) {i : Nat} {oo : Oper} (hi : opsA[i]? = some oo) (hnS : ¬ S i) (hrd : ∀ j, An opsA.toList i j → S j) (hcl : ∀ k j, S k → An opsA.toList k j → S j)
    {K : Act → World → Prop} (hK : ∀ ρ' t' a' w' m' P', St E opsA.toList (opsA.toList.map (trOper E opsA)) rs base A t0 H0 ρ0 w0 a0 (fun j => S j ∨ j = i) ρ' t' a' w' m' P' → K a' w') : wpOpIn (Wd ro) n E.P opsA Q i K a w := by
  generalize hos : opsA.toList.map (trOper E opsA) = os at *
  have ho : os[i]? = some (trOper E opsA oo) := by rw [← hos, List.getElem?_map, Array.getElem?_toList, hi]; rfl
  have hlt := (List.getElem?_eq_some_iff.1 ho).1
  obtain ⟨r, hr, hds⟩ := R.step i _ ho
  obtain ⟨hrt, hrA, hrA', hT', hw, hcase⟩ := dstep_cases hds
  have hlk := R.looks st.ts ho hcl hnS hrd
  have hwant : wanted (trOper E opsA oo).guard t = r.w := by rw [hw]; exact wanted_congr hlk
  have hcong : ∀ {cf' : CallF} {nid : Nat} {H : Heap}, iop cf' C nid (trOper E opsA oo).op t H = iop cf' C nid (trOper E opsA oo).op (T i) H := iop_congr hlk
  have hbase := R.off st.m_le
  have hnext := puts_next_eq base (A m) P fun p hp => by
    obtain ⟨_, ⟨_, _, _, h⟩, _⟩ := (st.pend p.1 p.2).1 hp
    have := hbase.1; omega
  have huniq : ∀ j o1 o2, (j, o1) ∈ P → (j, o2) ∈ P → o1 = o2 := fun j o1 o2 q1 q2 => ((st.pend _ _).1 q1).2.1.uniq ((st.pend _ _).1 q2).2.1
  have hgoneA : ∀ j ob, (j, ob) ∈ P → (A m).get (base + j) = none := fun j ob hj => by
    obtain ⟨_, h1, h2⟩ := (st.pend j ob).1 hj
    exact hbase.2 j ob h1 h2
  have hnot : ∀ j ob, (j, ob) ∈ P → j ≠ i := by
    rintro j ob hj rfl
    exact hnS ((st.pend j ob).1 hj).1
  -- an operation but an effect
  have plain : ¬ Eff os rs i → ∀ (P' : List (Nat × Obj)), (∀ j ob, (j, ob) ∈ P' ↔ (j, ob) ∈ P ∨ (j = i ∧ ObjAt os rs i ob)) → istep cf C (base + i) (trOper E opsA oo) t (puts base (A m) P) = some (setD t (trOper E opsA oo).dst r.v, puts base (A m) P') →
      wpOpIn (Wd ro) n E.P opsA Q i K a w := by
    intro hne P' hP' hs
    refine istep_any hE hC hcf ro st.slots st.post.rel hi (st.fresh i hlt hnS) hs fun ρ' a' w' k1 k2 k3 => ?_
    refine hK ρ' _ a' w' m P' ⟨k1, k2.trans st.defers, R.ts_step st.ts ho hr, st.m_le, fun k hk => ?_, fun j ob => ?_, st.post.trans (k3.mono fun id _ h => by omega), fun j h1 h2 => ?_⟩
    · rw [← st.eff k hk]
      exact ⟨fun h => h.resolve_right (by rintro rfl; exact hne hk), .inl⟩
    · rw [hP', st.pend]
      constructor
      · rintro (⟨h1, h2, h3⟩ | ⟨rfl, h1⟩)
        · exact ⟨.inl h1, h2, h3⟩
        · refine ⟨.inr rfl, h1, fun k k1 k2 k3 => ?_⟩
          cases hcon : (matOf (matsOf (ancs opsA.toList []) os) k).contains j with
          | false => rfl
          | true => exact absurd (hcl k j ((st.eff k k3).2 k2) (matOf_an hcon)) hnS
      · rintro ⟨h1 | rfl, h2, h3⟩
        · exact .inl ⟨h1, h2, h3⟩
        · exact .inr ⟨rfl, h2⟩
    · rw [k3.old (base + j) (by rw [hnext]; have := hbase.1; omega) (by intro e; exact h2 (.inr (by omega)))]
      exact st.fresh j h1 fun h => h2 (.inl h)
  have hnoeff : (r.w = true → clsOf (trOper E opsA oo).op ≠ 3) → ¬ Eff os rs i := by
    rintro hc ⟨o', r', b1, b2, b3, b4⟩
    rw [hr] at b2; cases b2
    rw [ho] at b1; cases b1
    exact hc b3 b4
  have hsame : r.ob = none → ∀ j ob, (j, ob) ∈ P ↔ (j, ob) ∈ P ∨ (j = i ∧ ObjAt os rs i ob) := by
    intro hob j ob
    refine ⟨.inl, fun h => h.resolve_right ?_⟩
    rintro ⟨_, r', b1, b2, _⟩
    rw [hr] at b1; cases b1
    rw [hob] at b2; cases b2
  rcases hcase with ⟨hrw, hv, _, _, hob⟩ | ⟨hrw, hc, ⟨H1, hiop⟩, _, _, hob⟩ | ⟨hrw, hc, ⟨H1, ob, hiop, hget, hob, _⟩, _⟩ | ⟨hrw, hc, hiop, _, hob⟩
  · refine plain (hnoeff fun h => by rw [hrw] at h; cases h) P (hsame hob) ?_
    unfold istep
    rw [hwant, hrw, hv]; rfl
  · refine plain (hnoeff fun _ => by omega) P (hsame hob) ?_
    unfold istep
    rw [hwant, hrw, if_pos rfl, hcong]
    rcases Nat.lt_or_ge (clsOf (trOper E opsA oo).op) 1 with h0 | h0
    · rw [iop_pure (by omega) hiop cf (base + i) (puts base (A m) P)]
    · obtain ⟨cf', H2, h2⟩ := R.load ho hr hrw (by omega) st.m_le st.eff hcl hnS hrd
      rw [iop_load (by omega) h2 cf (base + i) (puts base (A m) P) ?_]
      intro id o hg
      rcases puts_get base (A m) P huniq id with ⟨j, o', q1, q2, q3⟩ | ⟨q1, q2⟩
      · rw [q1, hgoneA j o' q2] at hg; cases hg
      · rw [q2]; exact hg
  · obtain ⟨ob', h1, h2⟩ := iop_alloc hc hiop
    have : ob' = ob := by rw [h1, Heap.get_put_self] at hget; exact Option.some.inj hget
    subst this
    refine plain (hnoeff fun _ => by omega) ((i, ob') :: P) (fun j ob2 => ?_) ?_
    · rw [List.mem_cons]
      constructor
      · rintro (h | h)
        · cases h; exact .inr ⟨rfl, r, hr, hob, hlt⟩
        · exact .inl h
      · rintro (h | ⟨rfl, h⟩)
        · exact .inr h
        · have : ob2 = ob' := h.uniq ⟨r, hr, hob, hlt⟩
          subst this; exact .inl rfl
    · unfold istep
      rw [hwant, hrw, if_pos rfl, hcong, h2 cf (puts base (A m) P)]
      rfl
  · have heff : Eff os rs i := ⟨_, r, ho, hr, hrw, hc⟩
    have hmi : m ≤ i := by
      rcases Nat.lt_or_ge i m with h | h
      · exact absurd ((st.eff i heff).2 h) hnS
      · exact h
    have hall : ∀ k, Eff os rs k → k < i → S k := by
      rintro k ⟨o', e, q1, q2, q3, q4⟩ hk
      rcases (drawOk_spec R.draw hk q1 ho).2 with h | h
      · exact hrd k h
      · exact absurd ⟨q4, hc⟩ (pairOk_spec h).2.2
    have hnone : ∀ k, m ≤ k → k < i → ¬ Eff os rs k := fun k h1 h2 h3 => by have := (st.eff k h3).1 (hall k h3 h2); omega
    have hlate : ∀ k, Eff os rs k → i < k → ¬ S k := fun k h1 h2 h3 => by have := (st.eff k h1).1 h3; omega
    have hAi : A i = A m := R.const hmi (by omega) hnone
    have hoff : ∀ j, Off opsA.toList os rs m j ↔ Off opsA.toList os rs i j := fun j =>
      ⟨fun h k k1 k2 k3 => h k k1 (by rcases Nat.lt_or_ge k m with h4 | h4
                                      · exact h4
                                      · exact absurd k3 (hnone k h4 k2)) k3, fun h k k1 k2 k3 => h k k1 (by omega) k3⟩
    generalize hPi : ((Pd i).filter fun p => (matOf (matsOf (ancs opsA.toList []) os) i).contains p.1) = Pi at hiop
    rw [hAi] at hiop
    have hPi' : ∀ j ob, (j, ob) ∈ Pi ↔ (j, ob) ∈ P ∧ (matOf (matsOf (ancs opsA.toList []) os) i).contains j = true := by
      intro j ob
      rw [← hPi, List.mem_filter, R.pend (by omega), st.pend, hoff]
      constructor
      · rintro ⟨⟨h1, h2, h3⟩, h4⟩
        exact ⟨⟨hrd j (matOf_an h4), h2, h3⟩, h4⟩
      · rintro ⟨⟨h1, h2, h3⟩, h4⟩
        exact ⟨⟨An.lt R.edges i j (matOf_an h4), h2, h3⟩, h4⟩
    have huniqi : ∀ j o1 o2, (j, o1) ∈ Pi → (j, o2) ∈ Pi → o1 = o2 := fun j o1 o2 q1 q2 => huniq j o1 o2 ((hPi' _ _).1 q1).1 ((hPi' _ _).1 q2).1
    have hnexti := puts_next_eq base (A m) Pi fun p hp => by
      obtain ⟨_, ⟨_, _, _, h⟩, _⟩ := (st.pend p.1 p.2).1 ((hPi' p.1 p.2).1 hp).1
      have := hbase.1; omega
    have hmono := iop_mono R.mono hiop
    generalize hP' : (P.filter fun p => !(matOf (matsOf (ancs opsA.toList []) os) i).contains p.1) = P'
    have hP'' : ∀ j ob, (j, ob) ∈ P' ↔ (j, ob) ∈ P ∧ (matOf (matsOf (ancs opsA.toList []) os) i).contains j = false := by
      intro j ob; rw [← hP', List.mem_filter]; simp
    have huniq' : ∀ j o1 o2, (j, o1) ∈ P' → (j, o2) ∈ P' → o1 = o2 := fun j o1 o2 q1 q2 => huniq j o1 o2 ((hP'' _ _).1 q1).1 ((hP'' _ _).1 q2).1
    have hnext' := puts_next_eq base (A (i + 1)) P' fun p hp => by
      obtain ⟨_, ⟨_, _, _, h⟩, _⟩ := (st.pend p.1 p.2).1 ((hP'' p.1 p.2).1 hp).1
      have := hbase.1; have := hmono.next; omega
    have hsub : ∀ id o, (puts base (A m) Pi).get id = some o → (puts base (A m) P).get id = some o := by
      intro id o hg
      rcases puts_get base (A m) Pi huniqi id with ⟨j, o', q1, q2, q3⟩ | ⟨q1, q2⟩
      · rw [q3] at hg; cases hg
        rcases puts_get base (A m) P huniq id with ⟨j', o2, p1, p2, p3⟩ | ⟨p1, p2⟩
        · have : j' = j := by omega
          subst this
          rw [p3, huniq _ _ _ p2 ((hPi' _ _).1 q2).1]
        · exact absurd q1 (p1 _ _ ((hPi' _ _).1 q2).1)
      · rw [q2] at hg
        rcases puts_get base (A m) P huniq id with ⟨j', o2, p1, p2, p3⟩ | ⟨p1, p2⟩
        · rw [p1, hgoneA _ _ p2] at hg; cases hg
        · rw [p2]; exact hg
    have hrel : Rel E ρ (puts base (A m) Pi).get (puts base (A m) Pi).next w := by
      rw [hnexti, ← hnext]; exact st.post.rel.sub hsub
    have hs : istep cf C (base + i) (trOper E opsA oo) t (puts base (A m) Pi) = some (setD t (trOper E opsA oo).dst r.v, A (i + 1)) := by
      unfold istep
      rw [hwant, hrw, if_pos rfl, hcong, hiop]
    refine istep_any hE hC hcf ro st.slots hrel hi (st.fresh i hlt hnS) hs fun ρ' a' w' k1 k2 k3 => ?_
    have hX : ∀ id, (∃ j ob, id = base + j ∧ (j, ob) ∈ P') → (puts base (A m) Pi).get id = none := by
      rintro id ⟨j, ob, rfl, hj⟩
      rcases puts_get base (A m) Pi huniqi (base + j) with ⟨j', o', q1, q2, q3⟩ | ⟨q1, q2⟩
      · have : j' = j := by omega
        subst this
        have h1 := ((hP'' _ _).1 hj).2
        rw [((hPi' _ _).1 q2).2] at h1; cases h1
      · rw [q2]; exact hgoneA j ob ((hP'' _ _).1 hj).1
    have hfr : Post E (· = base + i) ρ (puts base (A m) P).get (puts base (A m) P).next w ρ' (puts base (A (i + 1)) P').get (puts base (A (i + 1)) P').next w' := by
      have h1 : (puts base (A m) Pi).next = (puts base (A m) P).next := by rw [hnexti, hnext]
      rw [hnext']
      refine Post.frameIn (fun id => ∃ j ob, id = base + j ∧ (j, ob) ∈ P') _ st.post.rel hsub hX (h1 ▸ k3) ?_ ?_
      · rintro id ⟨j, ob, rfl, hj⟩
        rcases puts_get base (A (i + 1)) P' huniq' (base + j) with ⟨j', o', q1, q2, q3⟩ | ⟨q1, q2⟩
        · have : j' = j := by omega
          subst this
          rcases puts_get base (A m) P huniq (base + j') with ⟨j2, o2, p1, p2, p3⟩ | ⟨p1, p2⟩
          · have : j2 = j' := by omega
            subst this
            rw [q3, p3, huniq _ _ _ p2 ((hP'' _ _).1 q2).1]
          · exact absurd rfl (p1 _ _ ((hP'' _ _).1 q2).1)
        · exact absurd rfl (q1 _ _ hj)
      · intro id hid
        rcases puts_get base (A (i + 1)) P' huniq' id with ⟨j', o', q1, q2, q3⟩ | ⟨q1, q2⟩
        · exact absurd ⟨j', o', q1, q2⟩ hid
        · exact q2
    refine hK ρ' _ a' w' (i + 1) P' ⟨k1, k2.trans st.defers, R.ts_step st.ts ho hr, by omega, fun k hk => ?_, fun j ob => ?_, st.post.trans (hfr.mono fun id _ h => by omega), fun j h1 h2 => ?_⟩
    · rcases Nat.lt_trichotomy k i with h | h | h
      · exact ⟨fun _ => by omega, fun _ => .inl (hall k hk h)⟩
      · exact ⟨fun _ => by omega, fun _ => .inr h⟩
      · exact ⟨fun h' => (h'.elim (fun h' => absurd h' (hlate k hk h)) (fun h' => by omega)), fun _ => by omega⟩
    · rw [hP'', st.pend, hoff]
      constructor
      · rintro ⟨⟨h1, h2, h3⟩, h4⟩
        refine ⟨.inl h1, h2, fun k k1 k2 k3 => ?_⟩
        rcases Nat.lt_or_ge k i with h5 | h5
        · exact h3 k k1 h5 k3
        · have : k = i := by omega
          subst this; exact h4
      · rintro ⟨h1, h2, h3⟩
        have hji : j ≠ i := by
          rintro rfl
          obtain ⟨r', b1, b2, _⟩ := h2
          rw [hr] at b1; cases b1
          rw [hob] at b2; cases b2
        refine ⟨⟨h1.resolve_right hji, h2, fun k k1 k2 k3 => h3 k k1 (by omega) k3⟩, ?_⟩
        cases hcon : (matOf (matsOf (ancs opsA.toList []) os) i).contains j with
        | false => rfl
        | true =>
          rw [← hcon]
          exact h3 i (An.lt R.edges i j (matOf_an hcon)) (by omega) heff
    · rw [k3.old (base + j) (by rw [hnexti]; have := hbase.1; omega) (by intro e; exact h2 (.inr (by omega)))]
      exact st.fresh j h1 fun h => h2 (.inl h)

end
end Im

/- Regions that draw their order: the whole ('regD_sound'). -/
namespace Im
open Go (IntKind BinOp UnOp Program World Value Addr TypeId FuncId Code Oper Operand Op TypeDesc Sem Act Fence Exit Ending wpOpIn wpAnyIn)
open Go.RowKit (Below)

theorem getD_iff {l : Array Bool} {i : Nat} : l.getD i false = true ↔ l[i]? = some true := by
  rw [Array.getD_eq_getD_getElem?]
  cases l[i]? <;> simp

theorem getD_lt {l : Array Bool} {i : Nat} (h : i < l.size) : l.getD i true = l.getD i false := by
  simp [Array.getD_eq_getD_getElem?, h]

section
variable {E : Env} {C : Cfg} {cf : CallF} {opsA : Array Oper} {base : Nat} {rs : List Rec} {t0 : List V} {H0 : Heap} {T : Nat → List V} {A : Nat → Heap} {Pd : Nat → List (Nat × Obj)}

theorem St.done (R : Run cf C opsA.toList (opsA.toList.map (trOper E opsA)) base rs t0 H0 T A Pd) {ρ0 : Ren} {w0 : World} {a0 : Act} {S : Nat → Prop} {ρ : Ren} {t : List V} {a : Act} {w : World} {m : Nat} {P : List (Nat × Obj)}
    (st : St E opsA.toList (opsA.toList.map (trOper E opsA)) rs base A t0 H0 ρ0 w0 a0 S ρ t a w m P) (hS : ∀ i, i < opsA.size → S i) :
    t = T opsA.size ∧ Post E (fun id => base ≤ id) ρ0 H0.get (base + opsA.size) w0 ρ (puts base (A opsA.size) (Pd opsA.size)).get (puts base (A opsA.size) (Pd opsA.size)).next w := by
  have hlen : (opsA.toList.map (trOper E opsA)).length = opsA.size := by simp
  generalize hos : opsA.toList.map (trOper E opsA) = os at *
  rw [← hlen] at hS ⊢
  have hA : A os.length = A m := R.const st.m_le (Nat.le_refl _) fun k h1 h2 h3 => by
    have := (st.eff k h3).1 (hS k h2); omega
  have hoff : ∀ j, Off opsA.toList os rs m j ↔ Off opsA.toList os rs os.length j := fun j => by
    have := st.m_le
    exact ⟨fun h k k1 k2 k3 => h k k1 ((st.eff k k3).1 (hS k k2)) k3, fun h k k1 k2 k3 => h k k1 (by omega) k3⟩
  have hPd : ∀ j ob, (j, ob) ∈ Pd os.length ↔ (j, ob) ∈ P := by
    intro j ob
    rw [R.pend (Nat.le_refl _), st.pend, hoff]
    constructor
    · rintro ⟨h1, h2, h3⟩; exact ⟨hS j h1, h2, h3⟩
    · rintro ⟨h1, h2, h3⟩; exact ⟨h2.elim fun _ h => h.2.2, h2, h3⟩
  have hb := (R.off st.m_le).1
  have huniq : ∀ j o1 o2, (j, o1) ∈ P → (j, o2) ∈ P → o1 = o2 := fun j o1 o2 q1 q2 => ((st.pend _ _).1 q1).2.1.uniq ((st.pend _ _).1 q2).2.1
  have huniq' : ∀ j o1 o2, (j, o1) ∈ Pd os.length → (j, o2) ∈ Pd os.length → o1 = o2 := fun j o1 o2 q1 q2 => huniq j o1 o2 ((hPd _ _).1 q1) ((hPd _ _).1 q2)
  have hn1 := puts_next_eq base (A m) P fun p hp => by
    obtain ⟨_, ⟨_, _, _, h⟩, _⟩ := (st.pend p.1 p.2).1 hp
    omega
  have hn2 := puts_next_eq base (A m) (Pd os.length) fun p hp => by
    obtain ⟨_, ⟨_, _, _, h⟩, _⟩ := (st.pend p.1 p.2).1 ((hPd _ _).1 hp)
    omega
  refine ⟨TS.eq (S := S) (fun j _ h2 => ?_) st.ts ((R.ts (Nat.le_refl _)).congr fun j hj => ⟨fun _ => hS j hj, fun _ => hj⟩), ?_⟩
  · obtain ⟨r, h3, _⟩ := R.step j os[j] (List.getElem?_eq_getElem h2)
    exact ⟨r, h3⟩
  rw [hA, hn2, ← hn1]
  have hg : (puts base (A m) (Pd os.length)).get = (puts base (A m) P).get := by
    funext id
    rcases puts_get base (A m) P huniq id with ⟨j, o, q1, q2, q3⟩ | ⟨q1, q2⟩ <;> rcases puts_get base (A m) (Pd os.length) huniq' id with ⟨j', o', p1, p2, p3⟩ | ⟨p1, p2⟩
    · have : j' = j := by omega
      subst this
      rw [q3, p3, huniq _ _ _ q2 ((hPd _ _).1 p2)]
    · exact absurd q1 (p1 _ _ ((hPd _ _).2 q2))
    · exact absurd p1 (q1 _ _ ((hPd _ _).1 p2))
    · rw [q2, p2]
  rw [hg]
  exact st.post

theorem sim (R : Run cf C opsA.toList (opsA.toList.map (trOper E opsA)) base rs t0 H0 T A Pd) (hE : EnvOk E) (hC : CfgOk E C) (hcf : CfOk E cf) (ro : Option Nat) {n : Nat} {Q : Exit → Act → World → Prop} {ρ0 : Ren} {w0 : World} {a0 : Act}
    (hK : ∀ ρ' a' w', VRels E ρ' (T opsA.size) a'.tmps.toList → a'.defers = a0.defers →
      Post E (fun id => base ≤ id) ρ0 H0.get (base + opsA.size) w0 ρ' (puts base (A opsA.size) (Pd opsA.size)).get (puts base (A opsA.size) (Pd opsA.size)).next w' → Q .normal a' w') :
    ∀ (fuel : Nat) (listed : Array Bool) (ρ : Ren) (t : List V) (a : Act) (w : World) (m : Nat) (P : List (Nat × Obj)), listed.size = opsA.size → listed.toList.count false ≤ fuel →
      (∀ i o, listed.getD i false = true → opsA.toList[i]? = some o → ∀ e ∈ o.after.toList, Go.Region.binds .any e = true → listed.getD e.on false = true) →
      St E opsA.toList (opsA.toList.map (trOper E opsA)) rs base A t0 H0 ρ0 w0 a0 (fun i => listed.getD i false = true) ρ t a w m P → wpAnyIn (Wd ro) n E.P .any opsA Q fuel listed a w := by
  intro fuel
  have final : ∀ (listed : Array Bool) (ρ : Ren) (t : List V) (a : Act) (w : World) (m : Nat) (P : List (Nat × Obj)), listed.size = opsA.size →
      St E opsA.toList (opsA.toList.map (trOper E opsA)) rs base A t0 H0 ρ0 w0 a0 (fun i => listed.getD i false = true) ρ t a w m P → Go.Region.ready .any opsA listed = [] → Q .normal a w := by
    intro listed ρ t a w m P hsz st hre
    have hall : ∀ i, i < opsA.size → listed.getD i false = true := by
      intro i
      induction i using Nat.strongRecOn with
      | _ i ih =>
        intro hi
        refine Classical.byContradiction fun hc => ?_
        have : i ∈ Go.Region.ready .any opsA listed := by
          refine Go.mem_ready.2 ⟨by rw [getD_lt (by omega)]; simpa using hc, opsA[i], Array.getElem?_eq_getElem hi, fun e he hb => ?_⟩
          have := edgesOk_spec opsA.toList 0 R.edges i opsA[i] (by simp [hi]) e (by simpa using he) hb
          exact ih e.on (by omega) (by omega)
        rw [hre] at this; simp at this
    obtain ⟨h1, h2⟩ := st.done R hall
    exact hK ρ a w (h1 ▸ st.slots) st.defers h2
  induction fuel with
  | zero =>
    intro listed ρ t a w m P hsz hcnt hcl st
    have hall : ∀ i, i < opsA.size → listed.getD i false = true := by
      intro i hi
      have h0 : listed.toList.count false = 0 := by omega
      rw [List.count_eq_zero] at h0
      rw [getD_iff, Array.getElem?_eq_getElem (by omega)]
      cases hv : listed[i]'(by omega) with
      | true => rfl
      | false => exact absurd (by rw [← hv]; simp) h0
    have hre : Go.Region.ready .any opsA listed = [] := by
      rw [List.eq_nil_iff_forall_not_mem]
      intro i hi
      obtain ⟨h1, o, h2, _⟩ := Go.mem_ready.1 hi
      have hlt := (Array.getElem?_eq_some_iff.1 h2).1
      rw [getD_lt (by omega), hall i hlt] at h1
      cases h1
    exact ⟨hre, final listed ρ t a w m P hsz st hre⟩
  | succ fuel ih =>
    intro listed ρ t a w m P hsz hcnt hcl st
    refine ⟨final listed ρ t a w m P hsz st, fun i hi => ?_⟩
    obtain ⟨h1, o, h2, h3⟩ := Go.mem_ready.1 hi
    have hlt := (Array.getElem?_eq_some_iff.1 h2).1
    have h2' : opsA.toList[i]? = some o := by rw [Array.getElem?_toList]; exact h2
    rw [getD_lt (by omega)] at h1
    have hS : ∀ j, (listed.setIfInBounds i true).getD j false = true ↔ (listed.getD j false = true ∨ j = i) := by
      intro j
      by_cases e : j = i
      · subst e
        simp [Array.getD_eq_getD_getElem?, Array.getElem?_setIfInBounds_self_of_lt (show j < listed.size by omega)]
      · rw [Go.getD_set_ne _ (Ne.symm e)]; simp [e]
    refine st.step R hE hC hcf ro h2 (by rw [h1]; simp) (fun j hj => An.ready R.edges hcl h2' (fun e he hb => h3 e (by simpa using he) hb) hj) (fun k j => An.closed R.edges hcl k j) fun ρ' t' a' w' m' P' st' => ?_
    refine ih _ ρ' t' a' w' m' P' (by simpa using hsz) ?_ ?_ ?_
    · rw [Array.toList_setIfInBounds, List.count_set (by simp; omega)]
      have : listed.toList[i]'(by simp; omega) = false := by
        have h4 : listed[i]? = some false := by
          rw [Array.getElem?_eq_getElem (by omega)]
          have : ¬ listed[i]? = some true := fun h => by rw [getD_iff.2 h] at h1; cases h1
          rw [Array.getElem?_eq_getElem (by omega)] at this
          cases hv : listed[i]'(by omega) <;> simp_all
        rw [Array.getElem?_eq_getElem (by omega)] at h4
        simpa using h4
      have hpos : 0 < listed.toList.count false := List.count_pos_iff.2 (this ▸ List.getElem_mem _)
      rw [this]
      simp only [beq_self_eq_true, if_true]
      have : (true == false) = false := rfl
      rw [this]
      simp only [Bool.false_eq_true, if_false]
      omega
    · intro j o' hj ho' e he hb
      rw [hS] at hj ⊢
      rcases hj with hj | rfl
      · exact .inl (hcl j o' hj ho' e he hb)
      · rw [h2'] at ho'; cases ho'
        exact .inl (h3 e (by simpa using he) hb)
    · have : (fun i_1 => (listed.setIfInBounds i true).getD i_1 false = true) = fun j => (listed.getD j false = true ∨ j = i) := by
        funext j; exact propext (hS j)
      rw [this]; exact st'

theorem regD_sound (hE : EnvOk E) (hC : CfgOk E C) (hcf : CfOk E cf) (hmono : CfMono cf) (ro : Option Nat) {n id : Nat} {ρ : Ren} {H : Heap} {w : World} {t : List V} {a : Act} {Q : Exit → Act → World → Prop} (ht : VRels E ρ t a.tmps.toList) (hr : Rel E ρ H.get H.next w)
    (hm : E.P.follows .mixedOrders = true) (he : edgesOk opsA.toList 0 = true) (hd : drawOk (ancs opsA.toList []) (opsA.toList.map (trOper E opsA)) = true)
    {t' : List V} {H' : Heap} (h : iregD cf C (opsA.toList.map (trOper E opsA)) (matsOf (ancs opsA.toList []) (opsA.toList.map (trOper E opsA))) (prsOf (ancs opsA.toList []) (opsA.toList.map (trOper E opsA))) t H = some (t', H'))
    (hK : ∀ ρ' a' w', VRels E ρ' t' a'.tmps.toList → a'.defers = a.defers → Post E (fun _ => False) ρ H.get H.next w ρ' H'.get H'.next w' → Q .normal a' w') :
    (Code.region id opsA true).wpIn (Wd ro) n E.P Q a w := by
  refine Go.wpIn_region_any hm ?_
  unfold iregD at h
  split at h <;> try (cases h; done)
  rename_i rs t1 H1 hrun
  split at h <;> try (cases h; done)
  rename_i hfl
  cases h
  obtain ⟨T, A, Pd, e1, e2, e3, hs, e4, e5⟩ := drun_run _ _ _ _ _ _ _ _ hrun
  simp only [Nat.zero_add, List.length_map, Array.length_toList] at hs e4 e5
  have hnone : ∀ id, H.next ≤ id → H.get id = none := by
    intro id hid
    cases hg : H.get id with
    | none => rfl
    | some o =>
      obtain ⟨b, x, tot, h1, _⟩ := hr.obj id o hg
      rw [hr.fresh id hid] at h1; cases h1
  have R : Run cf C opsA.toList (opsA.toList.map (trOper E opsA)) H.next rs t (H.bump opsA.size) T A Pd :=
    ⟨he, hd, fun p hp => List.all_eq_true.1 hfl p hp, hmono, e1, by rw [e2]; simp, e3, by simp [Heap.bump], fun id hid => hnone id hid, by simp, fun k o hk => hs k o hk⟩
  refine sim R hE hC hcf ro (ρ0 := ρ) (w0 := w) (a0 := a) (fun ρ' a' w' k1 k2 k3 => ?_) opsA.size _ ρ t a { w with drawn := w.drawn + 1 } 0 [] (by simp) (by simp) ?_ ?_
  · rw [e4] at k1
    rw [e5] at k3
    exact hK ρ' a' w' k1 k2 (Post.unbump (by rw [Heap.bump_get] at k3; exact k3))
  · intro i o hi
    simp [Array.getD_eq_getD_getElem?, Array.getElem?_replicate] at hi
    split at hi <;> simp at hi
  · have hno : ∀ i, ¬ (Array.replicate opsA.size false).getD i false = true := by
      intro i hi
      simp [Array.getD_eq_getD_getElem?, Array.getElem?_replicate] at hi
      split at hi <;> simp at hi
    refine ⟨ht, rfl, ⟨rfl, fun d => ⟨fun j _ _ hj => absurd hj (hno j), fun _ => rfl⟩⟩, Nat.zero_le _, fun k _ => ⟨fun hj => absurd hj (hno k), fun h => by omega⟩, fun j ob => ⟨fun h => by simp at h, fun h => absurd h.1 (hno j)⟩, ?_, fun j _ _ => ?_⟩
    · rw [e2]
      simp only [puts, Heap.bump_get]
      have h1 := (hr.drawn (w.drawn + 1)).next (nx' := H.next + opsA.size) (by omega)
      refine ⟨Ext.refl _, by simpa [Heap.bump] using h1, by simp [Heap.bump], Nat.le_refl _, fun _ _ _ => rfl, fun id o b x t h1 h2 => .inl ⟨id, o, x, t, h1, h2⟩, fun _ _ _ => rfl⟩
    · exact hr.fresh _ (by omega)

end
end Im

/- Code: 'exec_sound'. -/
namespace Im
open Go (IntKind BinOp UnOp Program World Value Addr TypeId FuncId Code Oper Operand Op TypeDesc Sem Act Fence Exit Ending)
open Go.RowKit (Below)

theorem wpIn_scope {F : Fence} {n : Nat} {P : Program} {c : Code} {Q : Exit → Act → World → Prop} {a : Act} {w : World} (h : c.wpIn F n P (Go.Exit.noGoto Q) a w) : (Code.scope c).wpIn F n P Q a w := by
  intro b k cs hro hb hr
  have h0 : (Go.lone (b.atR a (.code (.scope c) :: k)) cs w).fenced P F := Go.fenced_calm hb hr rfl
  have hs1 : Go.step P (Go.lone (b.atR a (.code (.scope c) :: k)) cs w) = .next (Go.lone (b.atR a (.code c :: .inScope c :: k)) cs w) :=
    Go.step_lone_go (by simp [Go.stepG, Go.stepG.exec, Go.Frame.atR])
  have hs2 : ∀ a w, Go.step P (Go.lone (b.atR a (.inScope c :: k)) cs w) = .next (Go.lone (b.atR a k) cs w) := fun a w =>
    Go.step_lone_go (by simp [Go.stepG, Go.stepG.exec, Go.Frame.atR])
  obtain ⟨e, a₁, w₁, hq, harr⟩ := h b (.inScope c :: k) cs hro hb hr
  cases e with
  | normal => exact ⟨.normal, a₁, w₁, hq, .head h0 hs1 (Go.StepsIn.trans harr (.one (Go.fenced_calm hb hr rfl) (hs2 _ _)))⟩
  | exit id =>
    exact ⟨.exit id, a₁, w₁, hq, fun k' hk => .head h0 hs1 (harr.1 k' (by simp [Go.exitTo, hk])),
      fun hr' hk => let ⟨k₁, h1, h2⟩ := harr.2 hr' (by simp [Go.exitTo, hk]); ⟨k₁, h1, .head h0 hs1 h2⟩⟩
  | goto l => exact hq.elim
  | ret => exact ⟨_, a₁, w₁, hq, .of_steps (.one h0 hs1) harr⟩
  | panic ch => exact ⟨_, a₁, w₁, hq, .of_steps (.one h0 hs1) harr⟩
  | outgrown => exact ⟨_, a₁, w₁, hq, .of_steps (.one h0 hs1) harr⟩

/-- The marks among the deferred calls. -/
inductive DRels (ρ : Ren) : List Nat → List Go.Deferred → Prop where
  | nil : DRels ρ [] []
  | cons (r b o tot : Nat) (l : List Nat) (ds : List Go.Deferred) (h : ρ r = some (b, o, tot)) (hl : DRels ρ l ds) : DRels ρ (r :: l) ({ target := .collected b, args := #[] } :: ds)

theorem DRels.ext {ρ ρ' : Ren} (h : Ext ρ ρ') {l : List Nat} {ds : List Go.Deferred} (k : DRels ρ l ds) : DRels ρ' l ds := by
  induction k with
  | nil => exact .nil
  | cons r b o tot l ds hr _ ih => exact .cons r b o tot l ds (h _ _ hr) ih

/-- The round in which the code runs. -/
def RoRel (ρ : Ren) : Option Nat → Option Nat → Prop
  | none, none => True
  | some l, some b => ∃ o tot, ρ l = some (b, o, tot)
  | _, _ => False

theorem RoRel.ext {ρ ρ' : Ren} (h : Ext ρ ρ') {ro roR : Option Nat} (k : RoRel ρ ro roR) : RoRel ρ' ro roR := by
  cases ro <;> cases roR <;> first | exact k | exact (let ⟨o, tot, h1⟩ := k; ⟨o, tot, h _ _ h1⟩)

def IExit.out : IExit → Exit
  | .nrm => .normal
  | .ex id => .exit id
  | .rt => .ret

/-- What code leaves. -/
abbrev XPost (E : Env) (ρ : Ren) (H : Heap) (w : World) (e : IExit) (t' : List V) (H' : Heap) (d' : List Nat) (Q : Exit → Act → World → Prop) : Prop :=
  ∀ (ρ' : Ren) (a' : Act) (w' : World), VRels E ρ' t' a'.tmps.toList → DRels ρ' d' a'.defers → Post E (fun _ => False) ρ H.get H.next w ρ' H'.get H'.next w' → Q e.out a' w'

section
variable {E : Env} {C : Cfg} {cf : CallF}

theorem rng_sound (hE : EnvOk E) (hC : CfgOk E C) (hcf : CfOk E cf) {roR : Option Nat} {n : Nat} {g : Operand} {y : Opd} {ps : Array Nat} {a b : Code} {ro : Option Nat} {ρ : Ren} {t : List V} {H : Heap} {d : List Nat} {x : Act} {w : World} (hg : trOpd E g = some y)
    {e : IExit} {t' : List V} {H' : Heap} {d' : List Nat} (h : irng cf ro (eval t y) ps.toList (trCode E a) (trCode E b) t H d = some (e, t', H', d'))
    (ht : VRels E ρ t x.tmps.toList) (hd : DRels ρ d x.defers) (hr : Rel E ρ H.get H.next w) (hro : RoRel ρ ro roR) {Q : Exit → Act → World → Prop} (hK : XPost E ρ H w e t' H' d' Q) :
    (Code.rangeFunc g ps a b).wpIn (Wd roR) n E.P Q x w := by
  unfold irng at h
  split at h <;> try (cases h; done)
  rename_i H1 r0 mark hmark
  simp only at h
  split at h <;> try (cases h; done)
  rename_i gf first caps hgf
  split at h <;> try (cases h; done)
  rename_i v H3 hcall
  split at h <;> try (cases h; done)
  rename_i r hl3
  split at h <;> try (cases h; done)
  rename_i hst
  have hv := eval_sound hC ht hg
  rw [hgf] at hv
  cases hv' : x.eval g <;> rw [hv'] at hv <;> cases hv
  rename_i f' p' q' hfm hp hq
  refine Go.wpIn_rangeFunc fun fn _ => ?_
  -- what entering does
  have enter : ∃ (bd o tot : Nat) (ρ1 : Ren) (w1 : World) (mk : List Go.Deferred), Post E (fun _ => False) ρ H.get H.next w ρ1 H1.get H1.next w1 ∧ ρ1 r0 = some (bd, o, tot) ∧ DRels ρ1 (mark ++ d) (mk ++ x.defers) ∧
      (Go.Instr.enterLoop fn x.tmps ps a b (Wd roR).round).run E.P w = .ok (w1.heap.size, mk) (w1.alloc (.loop { state := .ready, pending := none, fn, tmps := x.tmps, params := ps, assign := a, body := b, defers := bd })) := by
    unfold markOf at hmark
    cases ro with
    | none =>
      cases roR with
      | some _ => exact hro.elim
      | none =>
        cases hmark
        have hn := hr.fresh H.next (Nat.le_refl _)
        have hp := Post.new (nx' := H.next + 1) hr H.next 0 .dfr (.deferred (some [])) hn (by omega) (by omega) rfl w.drawn
        refine ⟨w.heap.size, 0, 0, ρ.upd H.next (w.heap.size, 0, 0), w.alloc (.deferred (some [])), [{ target := .collected w.heap.size, args := #[] }], ?_, Ren.upd_self _ _ _, ?_, ?_⟩
        · rw [Heap.put_get, Heap.next_put, if_neg (by omega)]
          exact hp.mono fun id h1 h2 => by omega
        · exact .cons _ _ _ _ _ _ (Ren.upd_self _ _ _) (hd.ext hp.ext)
        · have := Go.run_enterLoop_outer (P := E.P) (w := w) fn x.tmps ps a b
          rw [Go.World.size_alloc]; exact this
    | some l =>
      cases roR with
      | none => exact hro.elim
      | some bl =>
        obtain ⟨o, tot, hbl⟩ := hro
        simp only at hmark
        split at hmark <;> try (cases hmark; done)
        rename_i rr hgl
        cases hmark
        obtain ⟨b', o', tot', h1, _, R, bd, o2, tot2, h2, _, _, _, _, _, _, h3, h4⟩ := hr.obj _ _ hgl
        rw [hbl] at h1; cases h1
        refine ⟨bd, o2, tot2, ρ, w, [], .refl hr, h3, hd, ?_⟩
        have := Go.run_enterLoop_inner (P := E.P) h2 fn x.tmps ps a b
        rw [h4] at this; exact this
  obtain ⟨bd, o, tot, ρ1, w1, mk, k1, k2, k3, k4⟩ := enter
  have hn1 := k1.rel.fresh H1.next (Nat.le_refl _)
  have hlay := Post.new (nx' := H1.next + 1) k1.rel H1.next 0 (.loop { st := 0, pend := none, tmps := t, ps := ps.toList, assign := trCode E a, body := trCode E b, dfr := r0 })
    (.loop { state := .ready, pending := none, fn, tmps := x.tmps, params := ps, assign := a, body := b, defers := bd }) hn1 (by omega) (by omega)
    ⟨_, bd, o, tot, rfl, rfl, rfl, ht.ext (k1.ext.trans (Ren.upd_ext _ _ _ hn1)), rfl, rfl, rfl, Ren.upd_ext _ _ _ hn1 _ _ k2, rfl⟩ w1.drawn
  have hlay' : Post E (fun _ => False) ρ1 H1.get H1.next w1 (ρ1.upd H1.next (w1.heap.size, 0, 0))
      (H1.put H1.next (.loop { st := 0, pend := none, tmps := t, ps := ps.toList, assign := trCode E a, body := trCode E b, dfr := r0 })).get
      (H1.put H1.next (.loop { st := 0, pend := none, tmps := t, ps := ps.toList, assign := trCode E a, body := trCode E b, dfr := r0 })).next
      (w1.alloc (.loop { state := .ready, pending := none, fn, tmps := x.tmps, params := ps, assign := a, body := b, defers := bd })) := by
    rw [Heap.put_get, Heap.next_put, if_neg (by omega)]
    exact hlay.mono fun id h1 h2 => by omega
  have h02 := k1.trans hlay'
  have hself : (ρ1.upd H1.next (w1.heap.size, 0, 0)) H1.next = some (w1.heap.size, 0, 0) := Ren.upd_self _ _ _
  obtain ⟨fnr, f1, f2, f3⟩ := hE.fm f' gf hfm
  obtain ⟨bb, hbb⟩ := Option.isSome_iff_exists.1 f3
  have hcalls := hcf.fn gf f' _ _ v H3 hcall hfm _ _ (p' ++ [.func (.yield w1.heap.size) #[] #[]] ++ q') (((hp.ext h02.ext).append (.cons _ _ _ _ (.yld _ _ _ _ hself) .nil)).append (hq.ext h02.ext)) hlay'.rel
  generalize hW2 : w1.alloc (.loop { state := .ready, pending := none, fn, tmps := x.tmps, params := ps, assign := a, body := b, defers := bd }) = W2 at *
  refine ⟨w1.heap.size, mk, W2, { target := .fn (.func f') q'.toArray, args := p'.toArray ++ #[.func (.yield w1.heap.size) #[] #[]] }, W2, f', (p' ++ [Value.func (.yield w1.heap.size) #[] #[]] ++ q').toArray, W2, k4, ?_, fun _ _ => trivial, ?_, fun h => by simp [Wd, Fence.wide] at h, ?_⟩
  · have hy : ∀ i, x.eval (.const (.func (.yield i) #[] #[])) = .func (.yield i) #[] #[] := fun _ => rfl
    simp [Go.resolve, hv', Go.Deferred.ofValue, hy]
  · simp [Go.invoke, Go.callFunc, f1, f2, hbb]
  · refine Go.CallsIn.mono (R := CallPost E (ρ1.upd H1.next (w1.heap.size, 0, 0)) (H1.put H1.next (.loop { st := 0, pend := none, tmps := t, ps := ps.toList, assign := trCode E a, body := trCode E b, dfr := r0 })) W2 v H3) ?_ fun e1 w3 he => ?_
    · have := (Go.callsIn_wide (n := n - 1)).2 hcalls
      cases roR with
      | none => exact this
      | some l => exact Go.CallsIn.inRound l this
    obtain ⟨ρ3, c, rfl, _, hp3⟩ := he
    obtain ⟨b3, x3, t3, g1, g2, R, bd3, o3, tot3, g3, g4, g5, g6, g7, g8, g9, g10, g11⟩ := hp3.rel.obj _ _ hl3
    have hl' := hp3.ext _ _ hself
    rw [hl'] at g1; cases g1
    have hbusy : R.state ≠ .busy := by
      rw [g4]
      rcases hs : r.st with _ | _ | _ | k <;> simp [stOf] at * <;> omega
    refine ⟨R.pending, _, Go.run_endLoop g3 hbusy, ?_⟩
    have hlt := (Array.getElem?_eq_some_iff.1 g3).1
    have hfin := Post.write (S := fun _ => False) hp3.rel hl3 hl' (.loop { R with state := .exhausted }) (o' := .loop { r with st := 3 })
      ⟨_, bd3, o3, tot3, rfl, rfl, g5, g6, g7, g8, g9, g10, g11⟩ (w3.putObj w1.heap.size (.loop { R with state := .exhausted })) ⟨rfl, rfl, rfl⟩ Go.World.putObj_size (Go.World.putObj_heap_same hlt)
      (fun k hk => Go.World.putObj_heap_other hk) (by
        rcases Nat.lt_or_ge H1.next H3.next with h1 | h1
        · exact h1
        · rw [hp3.rel.fresh _ h1] at hl'; cases hl')
    have hnx : ∀ ob, (H3.put H1.next ob).next = H3.next := fun ob => by
      rw [Heap.next_put, if_pos]
      rcases Nat.lt_or_ge H1.next H3.next with h1 | h1
      · exact h1
      · rw [hp3.rel.fresh _ h1] at hl'; cases hl'
    have hall : Post E (fun _ => False) ρ H.get H.next w ρ3 (H3.put H1.next (.loop { r with st := 3 })).get (H3.put H1.next (.loop { r with st := 3 })).next (w3.putObj w1.heap.size (.loop { R with state := .exhausted })) := by
      rw [Heap.put_get, hnx]
      exact (h02.trans hp3).trans hfin
    have hD := k3.ext (hlay'.ext.trans hp3.ext)
    have hT : VRels E ρ3 t x.tmps.toList := ht.ext (h02.ext.trans hp3.ext)
    rw [g5] at hall ⊢
    cases hpd : r.pend with
    | none =>
      rw [hpd] at h hall; cases h
      exact hK ρ3 _ _ hT hD hall
    | some j =>
      rw [hpd] at h hall
      cases j with
      | ret => cases h; exact Go.wpIn_ret (hK ρ3 _ _ hT hD hall)
      | exit k => cases h; exact Go.wpIn_exit (hK ρ3 _ _ hT hD hall)

theorem exec_sound (hE : EnvOk E) (hC : CfgOk E C) (hcf : CfOk E cf) (hm : CfMono cf) {roR : Option Nat} {n N : Nat} {ro : Option Nat} : ∀ (c : Code) (ρ : Ren) (t : List V) (H : Heap) (d : List Nat) (a : Act) (w : World) (e : IExit) (t' : List V) (H' : Heap) (d' : List Nat) (Q : Exit → Act → World → Prop),
    exec cf C N ro (trCode E c) t H d = some (e, t', H', d') → VRels E ρ t a.tmps.toList → DRels ρ d a.defers → Rel E ρ H.get H.next w → RoRel ρ ro roR → XPost E ρ H w e t' H' d' Q → c.wpIn (Wd roR) n E.P Q a w := by
  intro c
  induction c with
  | skip =>
    intro ρ t H d a w e t' H' d' Q h ht hd hr _ hK
    simp only [trCode, exec] at h; cases h
    exact Go.wpIn_skip (hK ρ a w ht hd (.refl hr))
  | label l =>
    intro ρ t H d a w e t' H' d' Q h ht hd hr _ hK
    simp only [trCode, exec] at h; cases h
    exact Go.wpIn_label (hK ρ a w ht hd (.refl hr))
  | exit id =>
    intro ρ t H d a w e t' H' d' Q h ht hd hr _ hK
    simp only [trCode, exec] at h; cases h
    exact Go.wpIn_exit (hK ρ a w ht hd (.refl hr))
  | ret =>
    intro ρ t H d a w e t' H' d' Q h ht hd hr _ hK
    simp only [trCode, exec] at h; cases h
    exact Go.wpIn_ret (hK ρ a w ht hd (.refl hr))
  | goto l =>
    intro ρ t H d a w e t' H' d' Q h
    simp only [trCode, exec] at h; cases h
  | refuse s =>
    intro ρ t H d a w e t' H' d' Q h
    simp only [trCode, exec] at h; cases h
  | region id ops draw =>
    intro ρ t H d a w e t' H' d' Q h ht hd hr _ hK
    cases draw with
    | false =>
      simp only [trCode, exec] at h
      split at h <;> try (cases h; done)
      rename_i t1 H1 h1
      cases h
      exact reg_sound hE hC hcf roR ht hr h1 fun ρ' a' w' k1 k2 k3 => hK ρ' a' w' k1 (by rw [k2]; exact hd.ext k3.ext) k3
    | true =>
      simp only [trCode] at h
      split at h
      · rename_i hc
        simp only [Bool.and_eq_true] at hc
        simp only [exec] at h
        split at h <;> try (cases h; done)
        rename_i t1 H1 h1
        cases h
        exact regD_sound hE hC hcf hm roR ht hr hc.1.1 hc.1.2 hc.2 h1 fun ρ' a' w' k1 k2 k3 => hK ρ' a' w' k1 (by rw [k2]; exact hd.ext k3.ext) k3
      · simp only [exec] at h; cases h
  | seq x y ihx ihy =>
    intro ρ t H d a w e t' H' d' Q h ht hd hr hro hK
    simp only [trCode, exec] at h
    refine Go.wpIn_seq ?_
    split at h
    · rename_i t1 H1 d1 h1
      refine ihx ρ t H d a w .nrm t1 H1 d1 _ h1 ht hd hr hro fun ρ1 a1 w1 k1 k2 k3 => ?_
      exact ihy ρ1 t1 H1 d1 a1 w1 e t' H' d' Q h k1 k2 k3.rel (hro.ext k3.ext) fun ρ2 a2 w2 q1 q2 q3 => hK ρ2 a2 w2 q1 q2 (k3.trans q3)
    · rename_i hne
      refine ihx ρ t H d a w e t' H' d' _ h ht hd hr hro fun ρ1 a1 w1 k1 k2 k3 => ?_
      have := hK ρ1 a1 w1 k1 k2 k3
      cases e with
      | nrm => exact absurd h (hne t' H' d')
      | ex k => exact this
      | rt => exact this
  | cond c x y ihx ihy =>
    intro ρ t H d a w e t' H' d' Q h ht hd hr hro hK
    simp only [trCode] at h
    split at h
    · rename_i u hu
      simp only [exec] at h
      have hv := eval_sound hC ht hu
      split at h <;> try (cases h; done)
      · rename_i h1
        rw [h1] at hv
        cases hv' : a.eval c <;> rw [hv'] at hv <;> cases hv
        exact Go.wpIn_cond_true hv' (ihx ρ t H d a w e t' H' d' Q h ht hd hr hro hK)
      · rename_i h1
        rw [h1] at hv
        cases hv' : a.eval c <;> rw [hv'] at hv <;> cases hv
        exact Go.wpIn_cond_false hv' (ihy ρ t H d a w e t' H' d' Q h ht hd hr hro hK)
    · simp only [exec] at h; cases h
  | block id x ih =>
    intro ρ t H d a w e t' H' d' Q h ht hd hr hro hK
    simp only [trCode, exec] at h
    refine Go.wpIn_block ?_
    split at h
    · rename_i k t1 H1 d1 h1
      refine ih ρ t H d a w (.ex k) t1 H1 d1 _ h1 ht hd hr hro fun ρ1 a1 w1 k1 k2 k3 => ?_
      split at h
      · rename_i hk
        cases h
        simp only [IExit.out, Go.Exit.inBlock, hk, if_true]
        exact hK ρ1 a1 w1 k1 k2 k3
      · rename_i hk
        cases h
        simp only [IExit.out, Go.Exit.inBlock, hk, if_false]
        exact hK ρ1 a1 w1 k1 k2 k3
    · rename_i hne
      refine ih ρ t H d a w e t' H' d' _ h ht hd hr hro fun ρ1 a1 w1 k1 k2 k3 => ?_
      have := hK ρ1 a1 w1 k1 k2 k3
      cases e with
      | nrm => exact this
      | ex k => exact absurd h (hne k t' H' d')
      | rt => exact this
  | loop x ih =>
    intro ρ t H d a w e t' H' d' Q h ht hd hr hro hK
    simp only [trCode, exec] at h
    have key : ∀ (m : Nat) (ρ : Ren) (t : List V) (H : Heap) (d : List Nat) (a : Act) (w : World), iter (exec cf C N ro (trCode E x)) m t H d = some (e, t', H', d') → VRels E ρ t a.tmps.toList → DRels ρ d a.defers → Rel E ρ H.get H.next w → RoRel ρ ro roR → XPost E ρ H w e t' H' d' Q →
        Code.roundsIn (Wd roR) n E.P x Q m a w := by
      intro m
      induction m with
      | zero => intro ρ t H d a w h; simp only [iter] at h; cases h
      | succ m ihm =>
        intro ρ t H d a w h ht hd hr hro hK
        simp only [iter] at h
        rw [Go.roundsIn_succ]
        split at h
        · rename_i t1 H1 d1 h1
          refine ih ρ t H d a w .nrm t1 H1 d1 _ h1 ht hd hr hro fun ρ1 a1 w1 k1 k2 k3 => ?_
          exact ihm ρ1 t1 H1 d1 a1 w1 h k1 k2 k3.rel (hro.ext k3.ext) fun ρ2 a2 w2 q1 q2 q3 => hK ρ2 a2 w2 q1 q2 (k3.trans q3)
        · rename_i hne
          refine ih ρ t H d a w e t' H' d' _ h ht hd hr hro fun ρ1 a1 w1 k1 k2 k3 => ?_
          have := hK ρ1 a1 w1 k1 k2 k3
          cases e with
          | nrm => exact absurd h (hne t' H' d')
          | ex k => exact this
          | rt => exact this
    exact Go.wpIn_loop_rounds N (key N ρ t H d a w h ht hd hr hro hK)
  | rangeFunc g ps x y _ _ =>
    intro ρ t H d a w e t' H' d' Q h ht hd hr hro hK
    simp only [trCode] at h
    split at h
    · rename_i u hu
      simp only [exec] at h
      exact rng_sound hE hC hcf hu h ht hd hr hro hK
    · simp only [exec] at h; cases h
  | scope x ih =>
    intro ρ t H d a w e t' H' d' Q h ht hd hr hro hK
    simp only [trCode, exec] at h
    refine wpIn_scope (ih ρ t H d a w e t' H' d' _ h ht hd hr hro fun ρ1 a1 w1 k1 k2 k3 => ?_)
    have := hK ρ1 a1 w1 k1 k2 k3
    cases e <;> exact this

end
end Im

/- The machine lays no object under a number that has been given out ('icall_mono'). -/
namespace Im
open Go (IntKind BinOp UnOp)

theorem Mono.cat {a b c : Heap} (h : Mono a.next a b) (k : Mono b.next b c) : Mono a.next a c := h.trans k.any

theorem puts_lt (base : Nat) (A : Heap) {id : Nat} (h : id < base) : ∀ P : List (Nat × Obj), (puts base A P).get id = A.get id
  | [] => rfl
  | (i, o) :: r => by simp only [puts]; rw [Heap.get_put_ne _ _ (by omega), puts_lt base A h r]

section
variable {cf : CallF} (hcf : CfMono cf) {C : Cfg}
include hcf

theorem istep_mono {nid : Nat} {o : IOper} {t t' : List V} {H H' : Heap} (h : istep cf C nid o t H = some (t', H')) : Mono nid H H' := by
  unfold istep at h
  split at h
  · split at h <;> try (cases h; done)
    rename_i h1
    cases h
    exact iop_mono hcf h1
  · cases h; exact .refl _

theorem iops_mono : ∀ (l : List IOper) (t : List V) (H : Heap) (t' : List V) (H' : Heap), iops cf C l t H = some (t', H') → Mono H.next H H'
  | [], t, H, t', H', h => by simp only [iops] at h; cases h; exact .refl _
  | o :: l, t, H, t', H', h => by
    simp only [iops] at h
    split at h <;> try (cases h; done)
    rename_i h1
    exact (istep_mono hcf h1).cat (iops_mono l _ _ _ _ h)

theorem drun_mono {base : Nat} {mats : List (Nat × List Nat)} : ∀ (os : List IOper) (i : Nat) (t : List V) (A : Heap) (pend : List (Nat × Obj)) (rs : List Rec) (t' : List V) (H' : Heap), drun cf C base mats os i t A pend = some (rs, t', H') →
    base ≤ A.next → A.next ≤ H'.next ∧ ∀ id, id < base → A.get id = none → H'.get id = none
  | [], i, t, A, pend, rs, t', H', h, hb => by
    simp only [drun] at h; cases h
    exact ⟨puts_next _ _ _, fun id h1 h2 => by rw [puts_lt _ _ h1]; exact h2⟩
  | o :: os, i, t, A, pend, rs, t', H', h, hb => by
    simp only [drun] at h
    split at h <;> try (cases h; done)
    rename_i r t1 A1 pend1 h1
    split at h <;> try (cases h; done)
    rename_i rs2 t2 H2 h2
    cases h
    have step : A.next ≤ A1.next ∧ ∀ id, id < base → A.get id = none → A1.get id = none := by
      obtain ⟨-, -, -, -, -, h3⟩ := dstep_cases h1
      rcases h3 with ⟨_, _, h4, _⟩ | ⟨_, _, _, h4, _⟩ | ⟨_, _, _, h4⟩ | ⟨_, _, h4, _⟩
      · rw [h4]; exact ⟨Nat.le_refl _, fun _ _ h => h⟩
      · rw [h4]; exact ⟨Nat.le_refl _, fun _ _ h => h⟩
      · rw [h4]; exact ⟨Nat.le_refl _, fun _ _ h => h⟩
      · have h5 := iop_mono hcf h4
        have h6 := puts_next base A (pend.filter fun p => (matOf mats i).contains p.1)
        exact ⟨Nat.le_trans h6 h5.next, fun id k1 k2 => h5.none id (by omega) (by omega) (by rw [puts_lt _ _ k1]; exact k2)⟩
    obtain ⟨k1, k2⟩ := drun_mono os (i + 1) t1 A1 pend1 rs2 _ _ h2 (by omega)
    exact ⟨by omega, fun id q1 q2 => k2 id q1 (step.2 id q1 q2)⟩

theorem iregD_mono {os : List IOper} {mats : List (Nat × List Nat)} {prs : List (Nat × Nat)} {t t' : List V} {H H' : Heap} (h : iregD cf C os mats prs t H = some (t', H')) : Mono H.next H H' := by
  unfold iregD at h
  split at h <;> try (cases h; done)
  rename_i rs t1 H1 h1
  split at h <;> try (cases h; done)
  cases h
  obtain ⟨k1, k2⟩ := drun_mono hcf os 0 t (H.bump os.length) [] rs _ _ h1 (by simp [Heap.bump])
  exact ⟨by simp [Heap.bump] at k1; omega, fun id h1 _ h3 => k2 id h1 h3⟩

omit hcf in
theorem Mono.mark {H H1 : Heap} {ro : Option Nat} {r0 : Nat} {m : List Nat} (h : markOf ro H = some (H1, r0, m)) : Mono H.next H H1 := by
  unfold markOf at h
  split at h
  · cases h; exact .put _ _
  · split at h <;> try (cases h; done)
    cases h; exact .refl _

theorem irng_mono {ro : Option Nat} {f : V} {ps : List Nat} {a b : ICode} {t : List V} {H : Heap} {d : List Nat} {e : IExit} {t' : List V} {H' : Heap} {d' : List Nat} (h : irng cf ro f ps a b t H d = some (e, t', H', d')) : Mono H.next H H' := by
  unfold irng at h
  split at h <;> try (cases h; done)
  rename_i H1 r0 m h1
  simp only at h
  split at h <;> try (cases h; done)
  split at h <;> try (cases h; done)
  rename_i v H3 h2
  split at h <;> try (cases h; done)
  rename_i r h3
  split at h <;> try (cases h; done)
  have k : Mono H.next H H3 := ((Mono.mark h1).cat (Mono.put _ _)).cat (hcf _ _ _ _ _ h2)
  have k2 : ∀ o, Mono H.next H (H3.put H1.next o) := fun o => k.cat (Mono.put_live h3)
  split at h <;> cases h <;> exact k2 _

theorem exec_mono {N : Nat} {ro : Option Nat} : ∀ (c : ICode) (t : List V) (H : Heap) (d : List Nat) (e : IExit) (t' : List V) (H' : Heap) (d' : List Nat), exec cf C N ro c t H d = some (e, t', H', d') → Mono H.next H H' := by
  intro c
  induction c with
  | skip | exit _ | ret => intro t H d e t' H' d' h; simp only [exec] at h; cases h; exact .refl _
  | bad => intro t H d e t' H' d' h; simp only [exec] at h; cases h
  | reg os =>
    intro t H d e t' H' d' h
    simp only [exec] at h
    split at h <;> try (cases h; done)
    rename_i h1
    cases h; exact iops_mono hcf _ _ _ _ _ h1
  | regD os mats prs =>
    intro t H d e t' H' d' h
    simp only [exec] at h
    split at h <;> try (cases h; done)
    rename_i h1
    cases h; exact iregD_mono hcf h1
  | seq a b iha ihb =>
    intro t H d e t' H' d' h
    simp only [exec] at h
    split at h
    · rename_i h1
      exact (iha _ _ _ _ _ _ _ h1).cat (ihb _ _ _ _ _ _ _ h)
    · exact iha _ _ _ _ _ _ _ h
  | cond c a b iha ihb =>
    intro t H d e t' H' d' h
    simp only [exec] at h
    split at h <;> first | (cases h; done) | exact iha _ _ _ _ _ _ _ h | exact ihb _ _ _ _ _ _ _ h
  | block id b ih =>
    intro t H d e t' H' d' h
    simp only [exec] at h
    split at h
    · rename_i h1
      split at h <;> cases h <;> exact ih _ _ _ _ _ _ _ h1
    · exact ih _ _ _ _ _ _ _ h
  | scope b ih =>
    intro t H d e t' H' d' h
    simp only [exec] at h
    exact ih _ _ _ _ _ _ _ h
  | loop b ih =>
    intro t H d e t' H' d' h
    simp only [exec] at h
    have key : ∀ (m : Nat) (t : List V) (H : Heap) (d : List Nat), iter (exec cf C N ro b) m t H d = some (e, t', H', d') → Mono H.next H H' := by
      intro m
      induction m with
      | zero => intro t H d h; simp only [iter] at h; cases h
      | succ m ihm =>
        intro t H d h
        simp only [iter] at h
        split at h
        · rename_i h1
          exact (ih _ _ _ _ _ _ _ h1).cat (ihm _ _ _ h)
        · exact ih _ _ _ _ _ _ _ h
    exact key N t H d h
  | rng f ps a b _ _ =>
    intro t H d e t' H' d' h
    simp only [exec] at h
    exact irng_mono hcf h

omit hcf in
theorem takeMarks_mono : ∀ (l : List Nat) (H H' : Heap), takeMarks l H = some H' → Mono H.next H H'
  | [], H, H', h => by simp only [takeMarks] at h; cases h; exact .refl _
  | r :: l, H, H', h => by
    simp only [takeMarks] at h
    split at h <;> try (cases h; done)
    exact (Mono.del _ _).cat (takeMarks_mono l _ _ h)

theorem ifun_mono {N : Nat} {F : IFun} {args : List V} {H : Heap} {v : V} {H' : Heap} (h : ifun cf C N F args H = some (v, H')) : Mono H.next H H' := by
  unfold ifun at h
  have go : ∀ (x : IExit) t (H1 : Heap) d, exec cf C N none F.body (args ++ List.replicate (F.nt - args.length) .undef) H [] = some (x, t, H1, d) →
      (match takeMarks d H1 with
      | some H'' => match results C F.res t H'' with
        | some v => some (v, H'')
        | none => none
      | none => none) = some (v, H') → Mono H.next H H' := by
    intro x t H1 d h1 h
    split at h <;> try (cases h; done)
    rename_i h2
    split at h <;> try (cases h; done)
    cases h
    exact (exec_mono hcf _ _ _ _ _ _ _ _ h1).cat (takeMarks_mono _ _ _ h2)
  split at h <;> try (cases h; done)
  · rename_i h1; exact go _ _ _ _ h1 h
  · rename_i h1; exact go _ _ _ _ h1 h

theorem irnd_mono {N l : Nat} {args : List V} {H : Heap} {v : V} {H' : Heap} (h : irnd cf C N l args H = some (v, H')) : Mono H.next H H' := by
  unfold irnd at h
  split at h <;> try (cases h; done)
  split at h <;> try (cases h; done)
  split at h <;> try (cases h; done)
  rename_i h1
  split at h <;> try (cases h; done)
  rename_i h2
  split at h <;> try (cases h; done)
  split at h <;> try (cases h; done)
  rename_i h3
  have k := ((exec_mono hcf _ _ _ _ _ _ _ _ h1).cat (Mono.put_live h2)).cat (exec_mono hcf _ _ _ _ _ _ _ _ h3)
  unfold endRnd at h
  split at h <;> try (cases h; done)
  rename_i h4
  split at h <;> cases h <;> exact k.cat (Mono.put_live h4)

end

theorem icall_mono {C : Cfg} (hp : ∀ f p args H v H', C.prim f = some p → p args H = some (v, H') → Mono H.next H H') : ∀ n, CfMono (icall C n)
  | 0 => fun c args H v H' h => by simp only [icall] at h; cases h
  | n + 1 => fun c args H v H' h => by
    simp only [icall] at h
    cases c with
    | fn f =>
      simp only at h
      split at h
      · rename_i p hpf
        exact hp f p args H v H' hpf h
      · split at h <;> try (cases h; done)
        exact ifun_mono (icall_mono hp n) h
    | rnd l => exact irnd_mono (icall_mono hp n) h

end Im

