/- A region whose order is the text's: 'reg_sound'. -/
import Derived.Test.YthhkfcnmbpnmkaaImO
namespace Im
open Go (IntKind BinOp UnOp Program World Value Addr TypeId FuncId Code Oper Operand Op TypeDesc Sem Act run_underlying Fence Exit Ending wpOpsIn)
open Go.RowKit (Below)

section
variable {E : Env} {C : Cfg} {ρ : Ren} {H : Heap} {w : World} {t : List V} {a : Act}

theorem put_rels (ht : VRels E ρ t a.tmps.toList) {v : V} {c : Value} (h : VRel E ρ v c) (d : Option Nat) : VRels E ρ (setD t d v) (a.put d c).tmps.toList := by
  cases d with
  | none => exact ht
  | some d => simp only [setD, Act.put, Array.toList_setIfInBounds]; exact ht.set d h

theorem put_defers (d : Option Nat) (c : Value) : (a.put d c).defers = a.defers := by cases d <;> rfl

theorem wanted_sound (ht : VRels E ρ t a.tmps.toList) {ops : Array Oper} {o : Oper} (hb : (trOper E ops o).op = .bad → (trOper E ops o).guard = none → trOp E o.op = .bad ∧ o.guard = none) :
    wanted (trOper E ops o).guard t = Go.Region.wanted o (Go.yielded ops a.tmps) := by
  unfold trOper at *
  unfold Go.Region.wanted
  cases hg : o.guard with
  | none => simp [wanted]
  | some p =>
    obtain ⟨j, want⟩ := p
    rw [hg] at hb
    simp only at hb ⊢
    cases hd : (ops[j]?).bind (·.dst) with
    | none => rw [hd] at hb; simp at hb
    | some d =>
      simp only [wanted, Go.yielded, hd, Option.bind_some]
      have hl := ht.length
      cases hi : t[d]? with
      | none =>
        have : a.tmps[d]? = none := by
          rw [List.getElem?_eq_none_iff] at hi
          rw [Array.getElem?_eq_none_iff]
          simp at hl; omega
        simp [this]
      | some v =>
        obtain ⟨c, hc, hv⟩ := ht.get d v hi
        rw [Array.getElem?_toList] at hc
        rw [hc]
        cases hv <;> simp

/-- One operation of a region, where it stands in whatever order. -/
theorem istep_sound (hE : EnvOk E) (hC : CfgOk E C) {cf : CallF} (hcf : CfOk E cf) (ro : Option Nat) {n : Nat} (ht : VRels E ρ t a.tmps.toList) (hr : Rel E ρ H.get H.next w) {ops : Array Oper} {i : Nat} {o : Oper} (ho : ops[i]? = some o)
    {nid : Nat} (hn : ρ nid = none) {t1 : List V} {H1 : Heap} (h : istep cf C nid (trOper E ops o) t H = some (t1, H1)) {rest : List Nat} {Q : Exit → Act → World → Prop}
    (hK : ∀ ρ' a' w', VRels E ρ' t1 a'.tmps.toList → a'.defers = a.defers → Post E (· = nid) ρ H.get H.next w ρ' H1.get H1.next w' → wpOpsIn (Wd ro) n E.P ops Q rest a' w') :
    wpOpsIn (Wd ro) n E.P ops Q (i :: rest) a w := by
  simp only [wpOpsIn, ho]
  unfold istep at h
  have hw : (trOper E ops o).op = .bad → (trOper E ops o).guard = none → trOp E o.op = .bad ∧ o.guard = none := by
    intro h1 h2
    rw [h2, h1] at h
    simp [wanted, iop] at h
  have hwant := wanted_sound (a := a) ht hw
  have hop : (trOper E ops o).op = trOp E o.op ∧ (trOper E ops o).dst = o.dst := by
    unfold trOper at hw ⊢
    cases hg : o.guard with
    | none => simp
    | some p =>
      obtain ⟨j, want⟩ := p
      simp only
      cases hd : (ops[j]?).bind (·.dst) with
      | none => rw [hg] at hw; simp only [hd] at hw; simp at hw
      | some d => simp
  rw [hwant, hop.1, hop.2] at h
  split at h
  · rename_i hwt
    rw [if_pos hwt]
    split at h <;> try (cases h; done)
    rename_i v H' hiop
    cases h
    exact oper_sound hE hC hcf ro ht hr hn hiop fun ρ' c w' hv hp => hK ρ' _ w' (put_rels (ht.ext hp.ext) hv _) (put_defers _ _) hp
  · rename_i hwt
    rw [if_neg hwt]
    cases h
    exact ⟨fun _ _ => trivial, hK ρ _ w (put_rels ht .undef _) (put_defers _ _) (.refl hr)⟩

/-- Operations one behind the other, in the text's order. -/
theorem iops_sound (hE : EnvOk E) (hC : CfgOk E C) {cf : CallF} (hcf : CfOk E cf) (ro : Option Nat) {n : Nat} {ops : Array Oper} {Q : Exit → Act → World → Prop} :
    ∀ (l : List Oper) (k : Nat) (ρ : Ren) (t : List V) (H : Heap) (a : Act) (w : World) (t' : List V) (H' : Heap), (∀ j, l[j]? = ops[k + j]?) → VRels E ρ t a.tmps.toList → Rel E ρ H.get H.next w →
      iops cf C (l.map (trOper E ops)) t H = some (t', H') →
      (∀ ρ' a' w', VRels E ρ' t' a'.tmps.toList → a'.defers = a.defers → Post E (fun _ => False) ρ H.get H.next w ρ' H'.get H'.next w' → Q .normal a' w') →
      wpOpsIn (Wd ro) n E.P ops Q (List.range' k l.length) a w := by
  intro l
  induction l with
  | nil =>
    intro k ρ t H a w t' H' _ ht hr h hK
    simp [iops] at h; obtain ⟨rfl, rfl⟩ := h
    exact hK ρ a w ht rfl (.refl hr)
  | cons o l ih =>
    intro k ρ t H a w t' H' hl ht hr h hK
    simp only [List.map_cons, iops] at h
    split at h <;> try (cases h; done)
    rename_i t1 H1 h1
    have ho : ops[k]? = some o := by have := hl 0; simpa using this.symm
    refine istep_sound hE hC hcf ro ht hr ho (hr.fresh _ (Nat.le_refl _)) h1 fun ρ1 a1 w1 k1 k2 k3 => ?_
    have k3' : Post E (fun _ => False) ρ H.get H.next w ρ1 H1.get H1.next w1 := k3.mono fun id h1 h2 => by omega
    refine ih (k + 1) ρ1 t1 H1 a1 w1 t' H' (fun j => by have := hl (j + 1); simpa [Nat.add_assoc, Nat.add_comm 1] using this) k1 k3.rel h fun ρ' a' w' q1 q2 q3 => ?_
    exact hK ρ' a' w' q1 (q2.trans k2) (k3'.trans q3)

theorem reg_sound (hE : EnvOk E) (hC : CfgOk E C) {cf : CallF} (hcf : CfOk E cf) (ro : Option Nat) {n id : Nat} {ops : Array Oper} {Q : Exit → Act → World → Prop} (ht : VRels E ρ t a.tmps.toList) (hr : Rel E ρ H.get H.next w)
    {t' : List V} {H' : Heap} (h : iops cf C (ops.toList.map (trOper E ops)) t H = some (t', H'))
    (hK : ∀ ρ' a' w', VRels E ρ' t' a'.tmps.toList → a'.defers = a.defers → Post E (fun _ => False) ρ H.get H.next w ρ' H'.get H'.next w' → Q .normal a' w') :
    (Code.region id ops false).wpIn (Wd ro) n E.P Q a w := by
  refine Go.wpIn_region ?_
  have := iops_sound hE hC hcf ro (n := n) (Q := Q) ops.toList 0 ρ t H a w t' H' (fun j => by simp) ht hr h hK
  rw [List.range_eq_range']
  simpa using this

end
end Im
