/- Regions that draw their order: one operation in whatever order; the whole ('regD_sound'). -/
import Derived.Test.YthhkfcnmbpnmkaaImS
namespace Im
open Go (IntKind BinOp UnOp Program World Value Addr TypeId FuncId Code Oper Operand Op TypeDesc Sem Act Fence Exit Ending wpOpIn wpAnyIn)
open Go.RowKit (Below)

/-- The slots once the operations of S are done. -/
def TS (os : List IOper) (rs : List Rec) (t0 : List V) (S : Nat → Prop) (t : List V) : Prop :=
  t.length = t0.length ∧ ∀ d, (∀ j o r, S j → os[j]? = some o → rs[j]? = some r → o.dst = some d → d < t0.length → t[d]? = some r.v) ∧ ((∀ j o, S j → os[j]? = some o → o.dst ≠ some d) → t[d]? = t0[d]?)

theorem setD_length (t : List V) (d : Option Nat) (v : V) : (setD t d v).length = t.length := by cases d <;> simp [setD]

section
variable {E : Env} {C : Cfg} {cf : CallF} {ops : List Oper} {os : List IOper} {base : Nat} {rs : List Rec} {t0 : List V} {H0 : Heap} {T : Nat → List V} {A : Nat → Heap} {Pd : Nat → List (Nat × Obj)} (R : Run cf C ops os base rs t0 H0 T A Pd)
include R

theorem Run.distinct {i j : Nat} {x y : IOper} {d : Nat} (hij : i ≠ j) (hx : os[i]? = some x) (hy : os[j]? = some y) (hd : x.dst = some d) : y.dst ≠ some d := by
  rcases Nat.lt_or_gt_of_ne hij with h | h
  · exact (drawOk_spec R.draw h hx hy).1 d hd
  · intro e; exact (drawOk_spec R.draw h hy hx).1 d e hd

theorem Run.ts_step {S : Nat → Prop} {t : List V} (h : TS os rs t0 S t) {i : Nat} {o : IOper} {r : Rec} (ho : os[i]? = some o) (hr : rs[i]? = some r) : TS os rs t0 (fun j => S j ∨ j = i) (setD t o.dst r.v) := by
  refine ⟨by rw [setD_length, h.1], fun d => ?_⟩
  by_cases hd : o.dst = some d
  · refine ⟨fun j o' r' hj h1 h2 h3 h4 => ?_, fun hn => absurd hd (hn i o (.inr rfl) ho)⟩
    have : j = i := Classical.byContradiction fun e => R.distinct e h1 ho h3 hd
    subst this
    rw [hr] at h2; cases h2
    rw [hd, setD, List.getElem?_set_self (by rw [h.1]; exact h4)]
  · have hk : (setD t o.dst r.v)[d]? = t[d]? := by
      cases hx : o.dst with
      | none => rfl
      | some d' => rw [setD, List.getElem?_set_ne (by rintro rfl; exact hd hx)]
    rw [hk]
    refine ⟨fun j o' r' hj h1 h2 h3 h4 => ?_, fun hn => (h.2 d).2 fun j o' hj h1 => hn j o' (.inl hj) h1⟩
    rcases hj with hj | rfl
    · exact (h.2 d).1 j o' r' hj h1 h2 h3 h4
    · rw [ho] at h1; cases h1; exact absurd h3 hd

omit R in
theorem TS.congr {S S' : Nat → Prop} {t : List V} (h : TS os rs t0 S t) (hs : ∀ j, j < os.length → (S j ↔ S' j)) : TS os rs t0 S' t := by
  have hlt : ∀ {j : Nat} {o : IOper}, os[j]? = some o → j < os.length := fun h => (List.getElem?_eq_some_iff.1 h).1
  exact ⟨h.1, fun d => ⟨fun j o r hj h1 => (h.2 d).1 j o r ((hs j (hlt h1)).2 hj) h1, fun hn => (h.2 d).2 fun j o hj h1 => hn j o ((hs j (hlt h1)).1 hj) h1⟩⟩

theorem Run.ts : ∀ {i : Nat}, i ≤ os.length → TS os rs t0 (· < i) (T i)
  | 0, _ => by rw [R.T0]; exact ⟨rfl, fun d => ⟨fun j _ _ h => by simp at h, fun _ => rfl⟩⟩
  | i + 1, hi => by
    have ho := List.getElem?_eq_getElem (l := os) (i := i) (by omega)
    obtain ⟨r, h1, h2⟩ := R.step i _ ho
    obtain ⟨-, -, -, h3, -⟩ := dstep_cases h2
    rw [h3]
    exact (R.ts_step (Run.ts (i := i) (by omega)) ho h1).congr fun j _ => by omega

omit R in
/-- Two such lists of slots that the same operations have written are one. -/
theorem TS.eq {S : Nat → Prop} {t t' : List V} (hS : ∀ j, S j → j < os.length → ∃ r, rs[j]? = some r) (h : TS os rs t0 S t) (h' : TS os rs t0 S t') : t = t' := by
  apply List.ext_getElem?
  intro d
  by_cases hd : ∃ j o, S j ∧ os[j]? = some o ∧ o.dst = some d
  · obtain ⟨j, o, h1, h2, h3⟩ := hd
    obtain ⟨r, h4⟩ := hS j h1 (List.getElem?_eq_some_iff.1 h2).1
    rcases Nat.lt_or_ge d t0.length with h5 | h5
    · rw [(h.2 d).1 j o r h1 h2 h4 h3 h5, (h'.2 d).1 j o r h1 h2 h4 h3 h5]
    · rw [List.getElem?_eq_none (by rw [h.1]; exact h5), List.getElem?_eq_none (by rw [h'.1]; exact h5)]
  · have hn : ∀ j o, S j → os[j]? = some o → o.dst ≠ some d := fun j o h1 h2 h3 => hd ⟨j, o, h1, h2, h3⟩
    rw [(h.2 d).2 hn, (h'.2 d).2 hn]

/-- What an operation looks at is what it would look at in the text's order. -/
theorem Run.looks {S : Nat → Prop} {t : List V} (h : TS os rs t0 S t) {i : Nat} {o : IOper} (ho : os[i]? = some o) (hcl : ∀ k j, S k → An ops k j → S j) (hi : ¬ S i) (hrd : ∀ j, An ops i j → S j) :
    ∀ d ∈ o.looks, t[d]? = (T i)[d]? := by
  intro d hd
  have hlt := (List.getElem?_eq_some_iff.1 ho).1
  have hT := R.ts (i := i) (by omega)
  have key : ∀ j o', j ≠ i → os[j]? = some o' → o'.dst = some d → (S j ↔ j < i) := by
    intro j o' hj h1 h2
    rcases Nat.lt_or_gt_of_ne hj with h3 | h3
    · rcases (drawOk_spec R.draw h3 h1 ho).2 with h4 | h4
      · exact ⟨fun _ => h3, fun _ => hrd j h4⟩
      · exact absurd hd ((pairOk_spec h4).1 d h2)
    · rcases (drawOk_spec R.draw h3 ho h1).2 with h4 | h4
      · exact ⟨fun h5 => absurd (hcl j i h5 h4) hi, fun h5 => by omega⟩
      · exact absurd hd ((pairOk_spec h4).2.1 d h2)
  by_cases he : ∃ j o', j ≠ i ∧ os[j]? = some o' ∧ o'.dst = some d ∧ j < i
  · obtain ⟨j, o', h1, h2, h3, h4⟩ := he
    obtain ⟨r, h5, _⟩ := R.step j o' h2
    rcases Nat.lt_or_ge d t0.length with h6 | h6
    · rw [(h.2 d).1 j o' r ((key j o' h1 h2 h3).2 h4) h2 h5 h3 h6, (hT.2 d).1 j o' r h4 h2 h5 h3 h6]
    · rw [List.getElem?_eq_none (by rw [h.1]; exact h6), List.getElem?_eq_none (by rw [hT.1]; exact h6)]
  · rw [(h.2 d).2, (hT.2 d).2]
    · intro j o' h1 h2 h3
      exact he ⟨j, o', by omega, h2, h3, h1⟩
    · intro j o' h1 h2 h3
      have hji : j ≠ i := by rintro rfl; exact hi h1
      exact he ⟨j, o', hji, h2, h3, (key j o' hji h2 h3).1 h1⟩

omit R in
theorem first_or (p : Nat → Prop) (a : Nat) : ∀ b, (∃ k, a ≤ k ∧ k < b ∧ p k ∧ ∀ k', a ≤ k' → k' < k → ¬ p k') ∨ ∀ k, a ≤ k → k < b → ¬ p k
  | 0 => .inr fun k _ h => by omega
  | b + 1 => by
    rcases first_or p a b with ⟨k, h1, h2, h3⟩ | h
    · exact .inl ⟨k, h1, by omega, h3⟩
    · by_cases hb : a ≤ b ∧ p b
      · exact .inl ⟨b, hb.1, by omega, hb.2, h⟩
      · refine .inr fun k h1 h2 h3 => ?_
        rcases Nat.lt_or_ge k b with h4 | h4
        · exact h k h1 h4 h3
        · have : k = b := by omega
          subst this; exact hb ⟨h1, h3⟩

omit R in
theorem last_or (p : Nat → Prop) (a : Nat) : ∀ b, (∃ k, a ≤ k ∧ k < b ∧ p k ∧ ∀ k', k < k' → k' < b → ¬ p k') ∨ ∀ k, a ≤ k → k < b → ¬ p k
  | 0 => .inr fun k _ h => by omega
  | b + 1 => by
    by_cases hb : a ≤ b ∧ p b
    · exact .inl ⟨b, hb.1, by omega, hb.2, fun k' h1 h2 => by omega⟩
    · have hn : ∀ k, a ≤ k → k = b → ¬ p k := fun k h1 h2 h3 => hb ⟨by omega, by rw [← h2]; exact h3⟩
      rcases last_or p a b with ⟨k, h1, h2, h3, h4⟩ | h
      · refine .inl ⟨k, h1, by omega, h3, fun k' h5 h6 h7 => ?_⟩
        rcases Nat.lt_or_ge k' b with h8 | h8
        · exact h4 k' h5 h8 h7
        · exact hn k' (by omega) (by omega) h7
      · refine .inr fun k h1 h2 h3 => ?_
        rcases Nat.lt_or_ge k b with h4 | h4
        · exact h k h1 h4 h3
        · exact hn k h1 (by omega) h3

/-- A load reads in the heap of its place in whatever order what it reads in the text's. -/
theorem Run.load {S : Nat → Prop} {m i : Nat} {o : IOper} {r : Rec} (ho : os[i]? = some o) (hr : rs[i]? = some r) (hw : r.w = true) (hc : clsOf o.op = 1) (hm : m ≤ os.length) (heff : ∀ k, Eff os rs k → (S k ↔ k < m))
    (hcl : ∀ k j, S k → An ops k j → S j) (hi : ¬ S i) (hrd : ∀ j, An ops i j → S j) : ∃ cf' H1, iop cf' C 0 o.op (T i) (A m) = some (r.v, H1) := by
  have hlt := (List.getElem?_eq_some_iff.1 ho).1
  obtain ⟨r', e1, e2⟩ := R.step i o ho
  rw [hr] at e1; cases e1
  obtain ⟨hrt, _, _, _, _, h3⟩ := dstep_cases e2
  have here : ∃ H1, iop cf C 0 o.op (T i) (A i) = some (r.v, H1) := by
    rcases h3 with ⟨hw', _⟩ | ⟨_, _, h, _⟩ | ⟨_, hc', _⟩ | ⟨_, hc', _⟩
    · rw [hw] at hw'; cases hw'
    · exact h
    · omega
    · omega
  have eff : ∀ k, Eff os rs k → ∃ o' e, os[k]? = some o' ∧ rs[k]? = some e ∧ e.w = true ∧ clsOf o'.op = 3 ∧ e.A = A k ∧ e.A' = A (k + 1) ∧ k < os.length := by
    rintro k ⟨o', e, k1, k2, k3, k4⟩
    obtain ⟨e', k5, k6⟩ := R.step k o' k1
    rw [k2] at k5; cases k5
    obtain ⟨_, k7, k8, _⟩ := dstep_cases k6
    exact ⟨o', e, k1, k2, k3, k4, k7, k8, (List.getElem?_eq_some_iff.1 k1).1⟩
  rcases Nat.le_total m i with hmi | hmi
  · rcases first_or (Eff os rs) m i with ⟨k, k1, k2, k3, k4⟩ | h
    · obtain ⟨o', e, q1, q2, q3, q4, q5, q6, q7⟩ := eff k k3
      have hk : ¬ S k := fun h => by have := (heff k k3).1 h; omega
      have hf := R.flo _ ((prsOf_mem k2 q1 ho (fun h => hk (hrd k h))).2 hc q4)
      obtain ⟨⟨H1, h1⟩, _⟩ := floats_spec ho hr q2 hw q3 hf
      rw [hrt, q5] at h1
      rw [R.const k1 (by omega) k4] at h1
      exact ⟨_, H1, h1⟩
    · rw [← R.const hmi (by omega) h]
      exact ⟨cf, here⟩
  · rcases last_or (Eff os rs) i m with ⟨k, k1, k2, k3, k4⟩ | h
    · obtain ⟨o', e, q1, q2, q3, q4, q5, q6, q7⟩ := eff k k3
      have hki : i < k := by
        rcases Nat.lt_or_ge i k with h | h
        · exact h
        · have : i = k := by omega
          subst this
          rw [ho] at q1; cases q1; omega
      have hk : S k := (heff k k3).2 k2
      have hf := R.flo _ ((prsOf_mem hki ho q1 (fun h => hi (hcl k i hk h))).1 hc q4)
      obtain ⟨_, H1, h1⟩ := floats_spec ho hr q2 hw q3 hf
      rw [hrt, q6] at h1
      rw [← R.const (a := k + 1) (b := m) (by omega) hm fun k' h1 h2 => k4 k' (by omega) h2] at h1
      exact ⟨_, H1, h1⟩
    · rw [R.const hmi hm h]
      exact ⟨cf, here⟩

end

/-- Where a walk stands that has done the operations of S. -/
structure St (E : Env) (ops : List Oper) (os : List IOper) (rs : List Rec) (base : Nat) (A : Nat → Heap) (t0 : List V) (H0 : Heap) (ρ0 : Ren) (w0 : World) (a0 : Act) (S : Nat → Prop)
    (ρ : Ren) (t : List V) (a : Act) (w : World) (m : Nat) (P : List (Nat × Obj)) : Prop where
  slots : VRels E ρ t a.tmps.toList
  defers : a.defers = a0.defers
  ts : TS os rs t0 S t
  m_le : m ≤ os.length
  eff : ∀ k, Eff os rs k → (S k ↔ k < m)
  pend : ∀ j ob, (j, ob) ∈ P ↔ S j ∧ ObjAt os rs j ob ∧ Off ops os rs m j
  post : Post E (fun id => base ≤ id) ρ0 H0.get (base + os.length) w0 ρ (puts base (A m) P).get (puts base (A m) P).next w
  fresh : ∀ j, j < os.length → ¬ S j → ρ (base + j) = none

end Im
