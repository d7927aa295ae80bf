/- The ideal machine and the walks over it, a part (M5): see the comments ahead of each piece. No condition. -/
import Derived.OrdersIn
import Derived.Test.YtjnknmfheigelaaM4

/- A region whose order is the text's: 'reg_sound'. -/
namespace Im
open Go (IntKind BinOp UnOp Program World Value Addr TypeId FuncId Code Oper Operand Op TypeDesc Sem Act run_underlying Fence Exit Ending wpOpsIn)
open Go.RowKit (Below)

section
variable {E : Env} {C : Cfg} {ρ : Ren} {H : Heap} {w : World} {t : List V} {a : Act}

theorem put_rels (ht : VRels E ρ t a.tmps.toList) {v : V} {c : Value} (h : VRel E ρ v c) (d : Option Nat) : VRels E ρ (setD t d v) (a.put d c).tmps.toList := by
  cases d with
  | none => exact ht
  | some d => simp only [setD, Act.put, Array.toList_setIfInBounds]; exact ht.set d h

theorem put_defers (d : Option Nat) (c : Value) : (a.put d c).defers = a.defers := by cases d <;> rfl

theorem wanted_sound (ht : VRels E ρ t a.tmps.toList) {ops : Array Oper} {o : Oper} (hb : (trOper E ops o).op = .bad → (trOper E ops o).guard = none → trOp E o.op = .bad ∧ o.guard = none) :
    wanted (trOper E ops o).guard t = Go.Region.wanted o (Go.yielded ops a.tmps) := by
  unfold trOper at *
  unfold Go.Region.wanted
  cases hg : o.guard with
  | none => simp [wanted]
  | some p =>
    obtain ⟨j, want⟩ := p
    rw [hg] at hb
    simp only at hb ⊢
    cases hd : (ops[j]?).bind (·.dst) with
    | none => rw [hd] at hb; simp at hb
    | some d =>
      simp only [wanted, Go.yielded, hd, Option.bind_some]
      have hl := ht.length
      cases hi : t[d]? with
      | none =>
        have : a.tmps[d]? = none := by
          rw [List.getElem?_eq_none_iff] at hi
          rw [Array.getElem?_eq_none_iff]
          simp at hl; omega
        simp [this]
      | some v =>
        obtain ⟨c, hc, hv⟩ := ht.get d v hi
        rw [Array.getElem?_toList] at hc
        rw [hc]
        cases hv <;> simp

/-- One operation of a region, where it stands in whatever order. -/
theorem istep_sound (hE : EnvOk E) (hC : CfgOk E C) {cf : CallF} (hcf : CfOk E cf) (ro : Option Nat) {n : Nat} (ht : VRels E ρ t a.tmps.toList) (hr : Rel E ρ H.get H.next w) {ops : Array Oper} {i : Nat} {o : Oper} (ho : ops[i]? = some o)
    {nid : Nat} (hn : ρ nid = none) {t1 : List V} {H1 : Heap} (h : istep cf C nid (trOper E ops o) t H = some (t1, H1)) {rest : List Nat} {Q : Exit → Act → World → Prop}
    (hK : ∀ ρ' a' w', VRels E ρ' t1 a'.tmps.toList → a'.defers = a.defers → Post E (· = nid) ρ H.get H.next w ρ' H1.get H1.next w' → wpOpsIn (Wd ro) n E.P ops Q rest a' w') :
    wpOpsIn (Wd ro) n E.P ops Q (i :: rest) a w := by
  simp only [wpOpsIn, ho]
  unfold istep at h
  have hw : (trOper E ops o).op = .bad → (trOper E ops o).guard = none → trOp E o.op = .bad ∧ o.guard = none := by
    intro h1 h2
    rw [h2, h1] at h
    simp [wanted, iop] at h
  have hwant := wanted_sound (a := a) ht hw
  have hop : (trOper E ops o).op = trOp E o.op ∧ (trOper E ops o).dst = o.dst := by
    unfold trOper at hw ⊢
    cases hg : o.guard with
    | none => simp
    | some p =>
      obtain ⟨j, want⟩ := p
      simp only
      cases hd : (ops[j]?).bind (·.dst) with
      | none => rw [hg] at hw; simp only [hd] at hw; simp at hw
      | some d => simp
  rw [hwant, hop.1, hop.2] at h
  split at h
  · rename_i hwt
    rw [if_pos hwt]
    split at h <;> try (cases h; done)
    rename_i v H' hiop
    cases h
    exact oper_sound hE hC hcf ro ht hr hn hiop fun ρ' c w' hv hp => hK ρ' _ w' (put_rels (ht.ext hp.ext) hv _) (put_defers _ _) hp
  · rename_i hwt
    rw [if_neg hwt]
    cases h
    exact ⟨fun _ _ => trivial, hK ρ _ w (put_rels ht .undef _) (put_defers _ _) (.refl hr)⟩

/-- Operations one behind the other, in the text's order. -/
theorem iops_sound (hE : EnvOk E) (hC : CfgOk E C) {cf : CallF} (hcf : CfOk E cf) (ro : Option Nat) {n : Nat} {ops : Array Oper} {Q : Exit → Act → World → Prop} :
    ∀ (l : List Oper) (k : Nat) (ρ : Ren) (t : List V) (H : Heap) (a : Act) (w : World) (t' : List V) (H' : Heap), (∀ j, l[j]? = ops[k + j]?) → VRels E ρ t a.tmps.toList → Rel E ρ H.get H.next w →
      iops cf C (l.map (trOper E ops)) t H = some (t', H') →
      (∀ ρ' a' w', VRels E ρ' t' a'.tmps.toList → a'.defers = a.defers → Post E (fun _ => False) ρ H.get H.next w ρ' H'.get H'.next w' → Q .normal a' w') →
      wpOpsIn (Wd ro) n E.P ops Q (List.range' k l.length) a w := by
  intro l
  induction l with
  | nil =>
    intro k ρ t H a w t' H' _ ht hr h hK
    simp [iops] at h; obtain ⟨rfl, rfl⟩ := h
    exact hK ρ a w ht rfl (.refl hr)
  | cons o l ih =>
    intro k ρ t H a w t' H' hl ht hr h hK
    simp only [List.map_cons, iops] at h
    split at h <;> try (cases h; done)
    rename_i t1 H1 h1
    have ho : ops[k]? = some o := by have := hl 0; simpa using this.symm
    refine istep_sound hE hC hcf ro ht hr ho (hr.fresh _ (Nat.le_refl _)) h1 fun ρ1 a1 w1 k1 k2 k3 => ?_
    have k3' : Post E (fun _ => False) ρ H.get H.next w ρ1 H1.get H1.next w1 := k3.mono fun id h1 h2 => by omega
    refine ih (k + 1) ρ1 t1 H1 a1 w1 t' H' (fun j => by have := hl (j + 1); simpa [Nat.add_assoc, Nat.add_comm 1] using this) k1 k3.rel h fun ρ' a' w' q1 q2 q3 => ?_
    exact hK ρ' a' w' q1 (q2.trans k2) (k3'.trans q3)

theorem reg_sound (hE : EnvOk E) (hC : CfgOk E C) {cf : CallF} (hcf : CfOk E cf) (ro : Option Nat) {n id : Nat} {ops : Array Oper} {Q : Exit → Act → World → Prop} (ht : VRels E ρ t a.tmps.toList) (hr : Rel E ρ H.get H.next w)
    {t' : List V} {H' : Heap} (h : iops cf C (ops.toList.map (trOper E ops)) t H = some (t', H'))
    (hK : ∀ ρ' a' w', VRels E ρ' t' a'.tmps.toList → a'.defers = a.defers → Post E (fun _ => False) ρ H.get H.next w ρ' H'.get H'.next w' → Q .normal a' w') :
    (Code.region id ops false).wpIn (Wd ro) n E.P Q a w := by
  refine Go.wpIn_region ?_
  have := iops_sound hE hC hcf ro (n := n) (Q := Q) ops.toList 0 ρ t H a w t' H' (fun j => by simp) ht hr h hK
  rw [List.range_eq_range']
  simpa using this

end
end Im

/- An operation hangs on the slots that it looks at alone; it lays no object under a number that has been given out, but its own. -/
namespace Im
open Go (IntKind BinOp UnOp)

/-! ## The slots that an operation looks at -/

theorem eval_congr {t t' : List V} {x : Opd} (h : ∀ d ∈ opdSlot x, t[d]? = t'[d]?) : eval t x = eval t' x := by
  cases x with
  | t i => simp only [eval]; rw [h i (by simp [opdSlot])]
  | _ => rfl

theorem evals_congr {t t' : List V} : ∀ {l : List Opd}, (∀ d ∈ opdsSlots l, t[d]? = t'[d]?) → l.map (eval t) = l.map (eval t')
  | [], _ => rfl
  | x :: l, h => by
    simp only [List.map_cons]
    rw [eval_congr fun d hd => h d (by simp [opdsSlots, hd]), evals_congr (l := l) fun d hd => h d (by simp only [opdsSlots, List.flatMap_cons, List.mem_append]; exact .inr hd)]

theorem fillP_congr {t t' : List V} : ∀ {ps : List (Nat × Nat × Opd)} {z : List V}, (∀ x ∈ ps.map (·.2.2), eval t x = eval t' x) → fillP t z ps = fillP t' z ps
  | [], z, _ => rfl
  | (off, n, x) :: ps, z, h => by
    unfold fillP
    rw [h x (by simp)]
    split
    · exact fillP_congr fun y hy => h y (by simp only [List.map_cons, List.mem_cons]; exact .inr hy)
    · rfl

theorem evalO_congr {t t' : List V} {x : Option Opd} (h : ∀ y ∈ x.toList, eval t y = eval t' y) : evalO t x = evalO t' x := by
  cases x with
  | none => rfl
  | some x => simp only [evalO]; rw [h x (by simp)]

theorem iop_congr0 {cf : CallF} {C : Cfg} {nid : Nat} {op : IOp} {t t' : List V} {H : Heap} (h : ∀ x ∈ opdsOf op, eval t x = eval t' x) : iop cf C nid op t H = iop cf C nid op t' H := by
  have hl : ∀ l : List Opd, (∀ x ∈ l, eval t x = eval t' x) → l.map (eval t) = l.map (eval t') := fun l hx => List.map_congr_left hx
  cases op <;> simp only [opdsOf] at h <;> simp only [iop]
  case build z ps => rw [fillP_congr h]
  case bslice ty n z ps => rw [fillP_congr h]
  case slcs x lo hi =>
    rw [h x (by simp), evalO_congr (x := lo) fun y hy => h y (by simp only [List.mem_append]; exact .inl (.inr hy)), evalO_congr (x := hi) fun y hy => h y (by simp only [List.mem_append]; exact .inr hy)]
  case slc e x lo hi mx =>
    rw [h x (by simp), evalO_congr (x := lo) fun y hy => h y (by simp only [List.mem_append]; exact .inl (.inl (.inr hy))), evalO_congr (x := hi) fun y hy => h y (by simp only [List.mem_append]; exact .inl (.inr hy)),
      evalO_congr (x := mx) fun y hy => h y (by simp only [List.mem_append]; exact .inr hy)]
  case slca n e x lo hi mx =>
    rw [h x (by simp), evalO_congr (x := lo) fun y hy => h y (by simp only [List.mem_append]; exact .inl (.inl (.inr hy))), evalO_congr (x := hi) fun y hy => h y (by simp only [List.mem_append]; exact .inl (.inr hy)),
      evalO_congr (x := mx) fun y hy => h y (by simp only [List.mem_append]; exact .inr hy)]
  case call f args => rw [hl args h]
  case callv x args => rw [h x (by simp), hl args fun y hy => h y (by simp [hy])]
  case mkf f p q => rw [hl p fun y hy => h y (by simp [hy]), hl q fun y hy => h y (by simp [hy])]
  case mmax xs => rw [hl xs h]
  case mmin xs => rw [hl xs h]
  case pick c a b => rw [h c (by simp), h a (by simp), h b (by simp)]
  case mupd kt x k v => rw [h x (by simp), h k (by simp), h v (by simp)]
  case st n x v => rw [h x (by simp), h v (by simp)]
  case ias e x i => rw [h x (by simp), h i (by simp)]
  case iaa len e x i => rw [h x (by simp), h i (by simp)]
  case idxs x i => rw [h x (by simp), h i (by simp)]
  case idxn len n x i => rw [h x (by simp), h i (by simp)]
  case idxa len x i => rw [h x (by simp), h i (by simp)]
  case bin op x y => rw [h x (by simp), h y (by simp)]
  case eq neg q x y => rw [h x (by simp), h y (by simp)]
  case app s ty e x y => rw [h x (by simp), h y (by simp)]
  case appz ty e z x n => rw [h x (by simp), h n (by simp)]
  case cpy s e x y => rw [h x (by simp), h y (by simp)]
  case mks ty z l c => rw [h l (by simp), h c (by simp)]
  case lkup kt ok z x k => rw [h x (by simp), h k (by simp)]
  all_goals first
    | rfl
    | (rename_i x; rw [h x (by simp)])

theorem iop_congr {cf : CallF} {C : Cfg} {nid : Nat} {o : IOper} {t t' : List V} {H : Heap} (h : ∀ d ∈ o.looks, t[d]? = t'[d]?) : iop cf C nid o.op t H = iop cf C nid o.op t' H :=
  iop_congr0 fun x hx => eval_congr fun d hd => h d (by
    unfold IOper.looks opdsSlots
    rw [List.mem_append, List.mem_flatMap]
    exact .inl ⟨x, hx, hd⟩)

theorem wanted_congr {o : IOper} {t t' : List V} (h : ∀ d ∈ o.looks, t[d]? = t'[d]?) : wanted o.guard t = wanted o.guard t' := by
  unfold wanted
  cases hg : o.guard with
  | none => rfl
  | some p =>
    obtain ⟨d, want⟩ := p
    simp only
    rw [h d (by simp [IOper.looks, hg])]

/-! ## Numbers that have been given out -/

/-- No object comes under a number below the next one, but under 'nid'. -/
structure Mono (nid : Nat) (H H' : Heap) : Prop where
  next : H.next ≤ H'.next
  none : ∀ id, id < H.next → id ≠ nid → H.get id = none → H'.get id = none

theorem Mono.refl {nid : Nat} (H : Heap) : Mono nid H H := ⟨Nat.le_refl _, fun _ _ _ h => h⟩

theorem Mono.trans {nid : Nat} {a b c : Heap} (h : Mono nid a b) (k : Mono nid b c) : Mono nid a c :=
  ⟨Nat.le_trans h.next k.next, fun id h1 h2 h3 => k.none id (Nat.lt_of_lt_of_le h1 h.next) h2 (h.none id h1 h2 h3)⟩

/-- At a number that has not been given out the exception is none. -/
theorem Mono.any {nid : Nat} {H H' : Heap} (h : Mono H.next H H') : Mono nid H H' := ⟨h.next, fun id h1 _ h3 => h.none id h1 (by omega) h3⟩

theorem Mono.put {nid : Nat} (H : Heap) (o : Obj) : Mono nid H (H.put nid o) :=
  ⟨Heap.next_le_put _ _ _, fun id _ h2 h3 => by rw [Heap.get_put_ne _ _ h2]; exact h3⟩

theorem Mono.put_live {nid : Nat} {H : Heap} {id : Nat} {o o' : Obj} (h : H.get id = some o) : Mono nid H (H.put id o') :=
  ⟨Heap.next_le_put _ _ _, fun i _ _ h3 => by
    rw [Heap.get_put]
    by_cases e : i = id
    · subst e; rw [h] at h3; cases h3
    · rw [if_neg e]; exact h3⟩

theorem Mono.del {nid : Nat} (H : Heap) (id : Nat) : Mono nid H (H.del id) :=
  ⟨Nat.le_refl _, fun i _ _ h3 => by rw [Heap.get_del]; split <;> first | rfl | exact h3⟩

theorem Mono.del_put {nid : Nat} (H : Heap) (id : Nat) (o : Obj) : Mono nid H ((H.del id).put nid o) := (Mono.del H id).trans (Mono.put _ _)

theorem Mono.bump {nid : Nat} (H : Heap) (n : Nat) : Mono nid H (H.bump n) := ⟨Nat.le_add_right _ _, fun _ _ _ h => h⟩

theorem storeN_mono {nid : Nat} {H H' : Heap} {a : PA} {vs : List V} (h : H.storeN a vs = some H') : Mono nid H H' := by
  unfold Heap.storeN at h
  split at h
  · split at h <;> try (cases h; done)
    rename_i hg
    split at h <;> try (cases h; done)
    cases h
    exact .put_live hg
  · split at h <;> try (cases h; done)
    cases h; exact .refl _

/-- Calls that keep to it. -/
def CfMono (cf : CallF) : Prop := ∀ c args H v H', cf c args H = some (v, H') → Mono H.next H H'

theorem iapp_mono {C : Cfg} {nid ty e : Nat} {s : Bool} {x y v : V} {H H' : Heap} (h : iapp C nid s ty e x y H = some (v, H')) : Mono nid H H' := by
  unfold iapp at h
  split at h <;> try (cases h; done)
  split at h
  · split at h
    · cases h; exact .refl _
    · split at h <;> try (cases h; done)
      cases h; exact .put _ _
  · split at h
    · split at h <;> try (cases h; done)
      rename_i hs
      cases h; exact storeN_mono hs
    · split at h <;> try (cases h; done)
      split at h <;> try (cases h; done)
      cases h; exact .put _ _
  · split at h
    · cases h; exact .refl _
    · split at h <;> try (cases h; done)
      split at h <;> try (cases h; done)
      split at h <;> try (cases h; done)
      cases h; exact .del_put _ _ _
  · cases h

theorem iop_mono {cf : CallF} (hcf : CfMono cf) {C : Cfg} {nid : Nat} {op : IOp} {t : List V} {H : Heap} {v : V} {H' : Heap} (h : iop cf C nid op t H = some (v, H')) : Mono nid H H' := by
  cases op <;> simp only [iop] at h
  case call => exact (hcf _ _ _ _ _ h).any
  case callv =>
    unfold icallv at h
    split at h <;> first | exact (hcf _ _ _ _ _ h).any | cases h
  case app => exact iapp_mono h
  all_goals
    (repeat' split at h) <;> first
      | (cases h; done)
      | (cases h; exact .refl _)
      | (cases h; exact .put _ _)
      | (cases h; exact storeN_mono (by assumption))
      | (cases h; exact .put_live (by assumption))

/-! ## Objects put off -/

theorem puts_next (base : Nat) (A : Heap) : ∀ P : List (Nat × Obj), A.next ≤ (puts base A P).next
  | [] => Nat.le_refl _
  | (i, o) :: r => Nat.le_trans (puts_next base A r) (Heap.next_le_put _ _ _)

theorem puts_next_eq (base : Nat) (A : Heap) : ∀ P : List (Nat × Obj), (∀ p ∈ P, base + p.1 < A.next) → (puts base A P).next = A.next
  | [], _ => rfl
  | (i, o) :: r, h => by
    have h1 := puts_next_eq base A r fun p hp => h p (by simp [hp])
    simp only [puts]
    rw [Heap.next_put, if_pos (by rw [h1]; exact h (i, o) (by simp)), h1]

/-- What lies there: an object put off, or what lay there. -/
theorem puts_get (base : Nat) (A : Heap) : ∀ (P : List (Nat × Obj)), (∀ j o o', (j, o) ∈ P → (j, o') ∈ P → o = o') → ∀ id,
    (∃ j o, id = base + j ∧ (j, o) ∈ P ∧ (puts base A P).get id = some o) ∨ ((∀ j o, (j, o) ∈ P → id ≠ base + j) ∧ (puts base A P).get id = A.get id)
  | [], _, id => .inr ⟨by simp, rfl⟩
  | (i, o) :: r, hP, id => by
    by_cases e : id = base + i
    · exact .inl ⟨i, o, e, by simp, by simp only [puts]; rw [Heap.get_put, if_pos e]⟩
    · rcases puts_get base A r (fun j o o' h1 h2 => hP j o o' (by simp [h1]) (by simp [h2])) id with ⟨j, o', h1, h2, h3⟩ | ⟨h1, h2⟩
      · exact .inl ⟨j, o', h1, by simp [h2], by simp only [puts]; rw [Heap.get_put, if_neg e]; exact h3⟩
      · refine .inr ⟨fun j o' hj => ?_, by simp only [puts]; rw [Heap.get_put, if_neg e]; exact h2⟩
        rcases List.mem_cons.1 hj with h | h
        · cases h; exact e
        · exact h1 j o' h

end Im

/- Regions that draw their order, plain part: what the run in the text's order leaves; what the edges say. -/
namespace Im
open Go (IntKind BinOp UnOp)

theorem iop_pure {cf : CallF} {C : Cfg} {nid : Nat} {op : IOp} {t : List V} {H : Heap} {v : V} {H1 : Heap} (hc : clsOf op = 0) (h : iop cf C nid op t H = some (v, H1)) :
    ∀ (cf' : CallF) (nid' : Nat) (H' : Heap), iop cf' C nid' op t H' = some (v, H') := by
  intro cf' nid' H'
  cases op <;> first | (simp [clsOf] at hc; done) | skip
  all_goals
    simp only [iop] at h ⊢
    (repeat' split at h) <;> first | (cases h; done) | (cases h; simp_all; done)

theorem cellsAt_mono {C : Cfg} {H H' : Heap} (hs : ∀ id o, H.get id = some o → H'.get id = some o) {a : PA} {i : Nat} {v : V} (h : H.cellsAt C a i = some v) : H'.cellsAt C a i = some v := by
  unfold Heap.cellsAt at *
  cases hr : a.r <;> rw [hr] at h <;> simp only at h ⊢ <;> try exact h
  cases hg : H.get a.b with
  | none => rw [hg] at h; cases h
  | some o => rw [hg] at h; rw [hs _ _ hg]; exact h

theorem loadN_mono {C : Cfg} {H H' : Heap} (hs : ∀ id o, H.get id = some o → H'.get id = some o) {a : PA} : ∀ {n i : Nat} {l : List V}, H.loadN C a i n = some l → H'.loadN C a i n = some l
  | 0, _, _, h => h
  | n + 1, i, l, h => by
    unfold Heap.loadN at h ⊢
    split at h <;> try (cases h; done)
    rename_i h1 h2
    rw [cellsAt_mono hs h1, loadN_mono hs h2]
    exact h

theorem iop_load {cf : CallF} {C : Cfg} {nid : Nat} {op : IOp} {t : List V} {H : Heap} {v : V} {H1 : Heap} (hc : clsOf op = 1) (h : iop cf C nid op t H = some (v, H1)) :
    ∀ (cf' : CallF) (nid' : Nat) (H' : Heap), (∀ id o, H.get id = some o → H'.get id = some o) → iop cf' C nid' op t H' = some (v, H') := by
  intro cf' nid' H' hs
  cases op <;> first | (simp [clsOf] at hc; done) | skip
  case ld x =>
    simp only [iop] at h ⊢
    split at h <;> try (cases h; done)
    split at h <;> try (cases h; done)
    rename_i h2
    rw [cellsAt_mono hs h2]
    cases h; rfl
  case ldn n x =>
    simp only [iop] at h ⊢
    split at h <;> try (cases h; done)
    split at h <;> try (cases h; done)
    rename_i h2
    rw [loadN_mono hs h2]
    cases h; rfl
  case cbs x =>
    simp only [iop] at h ⊢
    split at h <;> try (cases h; done)
    · cases h; rfl
    · split at h <;> try (cases h; done)
      rename_i h2
      rw [loadN_mono hs h2]
      simp only
      split at h <;> try (cases h; done)
      cases h; rfl
  case cnb x =>
    simp only [iop] at h ⊢
    split at h <;> try (cases h; done)
    split at h <;> try (cases h; done)
    rename_i hr hg
    rw [hr, hs _ _ hg]
    cases h; rfl
  case lenm x =>
    simp only [iop] at h ⊢
    split at h <;> try (cases h; done)
    · cases h; rfl
    · split at h <;> try (cases h; done)
      rename_i h2
      rw [hs _ _ h2]
      cases h; rfl
  case lkup kt ok z x k =>
    simp only [iop] at h ⊢
    split at h <;> try (cases h; done)
    rename_i hk
    rw [if_neg hk]
    cases hx : eval t x <;> rw [hx] at h <;> simp only at h ⊢ <;> try (cases h; done)
    · split at h <;> try (cases h; done)
      cases h; simp_all
    · rename_i id
      cases hg : H.get id with
      | none => rw [hg] at h; cases h
      | some o =>
        rw [hg] at h; rw [hs _ _ hg]
        cases o <;> simp only at h ⊢ <;> try (cases h; done)
        split at h <;> try (cases h; done)
        cases h; simp_all

theorem iop_alloc {cf : CallF} {C : Cfg} {nid : Nat} {op : IOp} {t : List V} {H : Heap} {v : V} {H1 : Heap} (hc : clsOf op = 2) (h : iop cf C nid op t H = some (v, H1)) :
    ∃ ob, H1 = H.put nid ob ∧ ∀ (cf' : CallF) (H' : Heap), iop cf' C nid op t H' = some (v, H'.put nid ob) := by
  cases op <;> first | (simp [clsOf] at hc; done) | skip
  all_goals
    simp only [iop] at h ⊢
    (repeat' split at h) <;> first | (cases h; done) | (cases h; exact ⟨_, rfl, fun _ _ => by simp_all⟩)

theorem cls_le (op : IOp) : clsOf op ≤ 3 := by cases op <;> simp [clsOf]

/-! ## The run in the text's order -/

theorem dstep_cases {cf : CallF} {C : Cfg} {base : Nat} {mats : List (Nat × List Nat)} {i : Nat} {o : IOper} {t : List V} {A : Heap} {pend : List (Nat × Obj)} {r : Rec} {t' : List V} {A' : Heap} {pend' : List (Nat × Obj)}
    (h : dstep cf C base mats i o t A pend = some (r, t', A', pend')) :
    r.t = t ∧ r.A = A ∧ r.A' = A' ∧ t' = setD t o.dst r.v ∧ r.w = wanted o.guard t ∧
      ((r.w = false ∧ r.v = .undef ∧ A' = A ∧ pend' = pend ∧ r.ob = none) ∨
       (r.w = true ∧ clsOf o.op ≤ 1 ∧ (∃ H1, iop cf C 0 o.op t A = some (r.v, H1)) ∧ A' = A ∧ pend' = pend ∧ r.ob = none) ∨
       (r.w = true ∧ clsOf o.op = 2 ∧ (∃ H1 ob, iop cf C (base + i) o.op t Heap.empty = some (r.v, H1) ∧ H1.get (base + i) = some ob ∧ r.ob = some ob ∧ pend' = (i, ob) :: pend) ∧ A' = A) ∨
       (r.w = true ∧ clsOf o.op = 3 ∧ iop cf C (base + i) o.op t (puts base A (pend.filter fun p => (matOf mats i).contains p.1)) = some (r.v, A') ∧ pend' = (pend.filter fun p => !(matOf mats i).contains p.1) ∧ r.ob = none)) := by
  unfold dstep at h
  split at h
  · rename_i hw
    have hcls := cls_le o.op
    split at h
    · rename_i hc
      split at h <;> try (cases h; done)
      rename_i h1
      cases h
      exact ⟨rfl, rfl, rfl, rfl, hw.symm, .inr (.inl ⟨rfl, by omega, ⟨_, h1⟩, rfl, rfl, rfl⟩)⟩
    · rename_i hc
      split at h <;> try (cases h; done)
      rename_i h1
      cases h
      exact ⟨rfl, rfl, rfl, rfl, hw.symm, .inr (.inl ⟨rfl, by omega, ⟨_, h1⟩, rfl, rfl, rfl⟩)⟩
    · rename_i hc
      split at h <;> try (cases h; done)
      rename_i h1
      split at h <;> try (cases h; done)
      rename_i h2
      cases h
      exact ⟨rfl, rfl, rfl, rfl, hw.symm, .inr (.inr (.inl ⟨rfl, hc, ⟨_, _, h1, h2, rfl, rfl⟩, rfl⟩))⟩
    · rename_i h0 h1 h2
      split at h <;> try (cases h; done)
      rename_i h3
      cases h
      refine ⟨rfl, rfl, rfl, rfl, hw.symm, .inr (.inr (.inr ⟨rfl, ?_, h3, rfl, rfl⟩))⟩
      have h0 : clsOf o.op ≠ 0 := fun e => h0 e
      have h1 : clsOf o.op ≠ 1 := fun e => h1 e
      have h2 : clsOf o.op ≠ 2 := fun e => h2 e
      omega
  · rename_i hw
    cases h
    exact ⟨rfl, rfl, rfl, rfl, (Bool.not_eq_true _ ▸ hw : _).symm, .inl ⟨rfl, rfl, rfl, rfl, rfl⟩⟩

theorem drun_run {cf : CallF} {C : Cfg} {base : Nat} {mats : List (Nat × List Nat)} : ∀ (os : List IOper) (i : Nat) (t : List V) (A : Heap) (pend : List (Nat × Obj)) (rs : List Rec) (t' : List V) (H' : Heap),
    drun cf C base mats os i t A pend = some (rs, t', H') → ∃ (T : Nat → List V) (Af : Nat → Heap) (Pd : Nat → List (Nat × Obj)), T i = t ∧ Af i = A ∧ Pd i = pend ∧
      (∀ k o, os[k]? = some o → ∃ r, rs[k]? = some r ∧ dstep cf C base mats (i + k) o (T (i + k)) (Af (i + k)) (Pd (i + k)) = some (r, T (i + k + 1), Af (i + k + 1), Pd (i + k + 1))) ∧
      T (i + os.length) = t' ∧ puts base (Af (i + os.length)) (Pd (i + os.length)) = H' := by
  intro os
  induction os with
  | nil =>
    intro i t A pend rs t' H' h
    simp only [drun] at h; cases h
    exact ⟨fun _ => t, fun _ => A, fun _ => pend, rfl, rfl, rfl, fun k o hk => by simp at hk, rfl, rfl⟩
  | cons o os ih =>
    intro i t A pend rs t' H' h
    simp only [drun] at h
    split at h <;> try (cases h; done)
    rename_i r t1 A1 pend1 h1
    split at h <;> try (cases h; done)
    rename_i rs2 t2 H2 h2
    cases h
    obtain ⟨T, Af, Pd, e1, e2, e3, hs, e4, e5⟩ := ih _ _ _ _ _ _ _ h2
    refine ⟨fun k => if k = i then t else T k, fun k => if k = i then A else Af k, fun k => if k = i then pend else Pd k, by simp, by simp, by simp, fun k o' hk => ?_, ?_, ?_⟩
    · cases k with
      | zero =>
        simp at hk; subst hk
        refine ⟨r, rfl, ?_⟩
        simp [e1, e2, e3, h1]
      | succ k =>
        obtain ⟨r', g1, g2⟩ := hs k o' (by simpa using hk)
        refine ⟨r', by simpa using g1, ?_⟩
        show dstep cf C base mats (i + (k + 1)) o' (if i + (k + 1) = i then t else T (i + (k + 1))) (if i + (k + 1) = i then A else Af (i + (k + 1))) (if i + (k + 1) = i then pend else Pd (i + (k + 1))) =
          some (r', (if i + (k + 1) + 1 = i then t else T (i + (k + 1) + 1)), (if i + (k + 1) + 1 = i then A else Af (i + (k + 1) + 1)), (if i + (k + 1) + 1 = i then pend else Pd (i + (k + 1) + 1)))
        rw [if_neg (by omega), if_neg (by omega), if_neg (by omega), if_neg (by omega), if_neg (by omega), if_neg (by omega)]
        have e : i + (k + 1) = i + 1 + k := by omega
        rw [e]; exact g2
    · simp only [List.length_cons]
      rw [if_neg (by omega)]
      have e : i + (os.length + 1) = i + 1 + os.length := by omega
      rw [e]; exact e4
    · simp only [List.length_cons]
      rw [if_neg (by omega), if_neg (by omega)]
      have e : i + (os.length + 1) = i + 1 + os.length := by omega
      rw [e]; exact e5

/-! ## The edges -/

theorem getD_ge {l : List Nat} {i : Nat} (h : l.length ≤ i) : l.getD i 0 = 0 := by simp [List.getD, List.getElem?_eq_none h]

theorem anc_fold (acc : List Nat) (j : Nat) : ∀ (l : List Go.Edge) (s : Nat), (l.foldl (fun s e => if Go.Region.binds .any e then s ||| 2 ^ e.on ||| acc.getD e.on 0 else s) s).testBit j = true →
    s.testBit j = true ∨ ∃ e ∈ l, Go.Region.binds .any e = true ∧ (e.on = j ∨ (acc.getD e.on 0).testBit j = true)
  | [], s, h => .inl h
  | e :: l, s, h => by
    simp only [List.foldl_cons] at h
    rcases anc_fold acc j l _ h with h | ⟨e', h1, h2⟩
    · split at h
      · rename_i hb
        rw [Nat.testBit_or, Nat.testBit_or, Nat.testBit_two_pow, Bool.or_eq_true, Bool.or_eq_true, decide_eq_true_eq] at h
        rcases h with (h | h) | h
        · exact .inl h
        · exact .inr ⟨e, by simp, hb, .inl h⟩
        · exact .inr ⟨e, by simp, hb, .inr h⟩
      · exact .inl h
    · exact .inr ⟨e', by simp [h1], h2⟩

theorem ancs_prefix : ∀ (l : List Go.Oper) (acc : List Nat), ∃ r, ancs l acc = acc ++ r ∧ r.length = l.length
  | [], acc => ⟨[], by simp [ancs], rfl⟩
  | o :: l, acc => by
    obtain ⟨r, h1, h2⟩ := ancs_prefix l (acc ++ [o.after.toList.foldl (fun s e => if Go.Region.binds .any e then s ||| 2 ^ e.on ||| acc.getD e.on 0 else s) 0])
    exact ⟨_ :: r, by simp only [ancs]; rw [h1, List.append_assoc, List.singleton_append], by simp [h2]⟩

theorem ancs_spec : ∀ (l : List Go.Oper) (acc : List Nat) (i j : Nat), acc.length ≤ i → ((ancs l acc).getD i 0).testBit j = true →
    ∃ o, l[i - acc.length]? = some o ∧ ∃ e ∈ o.after.toList, Go.Region.binds .any e = true ∧ (e.on = j ∨ ((ancs l acc).getD e.on 0).testBit j = true)
  | [], acc, i, j, hi, h => by
    simp only [ancs] at h
    rw [getD_ge hi] at h
    simp at h
  | o :: l, acc, i, j, hi, h => by
    by_cases e : i = acc.length
    · subst e
      obtain ⟨r, h1, _⟩ := ancs_prefix l (acc ++ [o.after.toList.foldl (fun s e => if Go.Region.binds .any e then s ||| 2 ^ e.on ||| acc.getD e.on 0 else s) 0])
      refine ⟨o, by simp, ?_⟩
      simp only [ancs] at h ⊢
      rw [h1] at h ⊢
      have hg : ∀ x, (acc ++ [x] ++ r).getD acc.length 0 = x := by intro x; simp [List.getD]
      rw [hg] at h
      rcases anc_fold acc j _ _ h with h | ⟨e, h2, h3, h4⟩
      · simp at h
      · refine ⟨e, h2, h3, ?_⟩
        rcases h4 with h4 | h4
        · exact .inl h4
        · right
          have hlt : e.on < acc.length := by
            rcases Nat.lt_or_ge e.on acc.length with h5 | h5
            · exact h5
            · rw [getD_ge h5] at h4; simp at h4
          have : ∀ y : List Nat, (acc ++ y).getD e.on 0 = acc.getD e.on 0 := by intro y; simp [List.getD, List.getElem?_append_left hlt]
          rw [List.append_assoc, this]; exact h4
    · simp only [ancs] at h ⊢
      obtain ⟨o', h1, h2⟩ := ancs_spec l (acc ++ [o.after.toList.foldl (fun s e => if Go.Region.binds .any e then s ||| 2 ^ e.on ||| acc.getD e.on 0 else s) 0]) i j (by simp; omega) h
      refine ⟨o', ?_, h2⟩
      have : i - acc.length = (i - (acc.length + 1)) + 1 := by omega
      rw [this, List.getElem?_cons_succ]
      simpa using h1

theorem edgesOk_spec : ∀ (l : List Go.Oper) (k : Nat), edgesOk l k = true → ∀ i o, l[i]? = some o → ∀ e ∈ o.after.toList, Go.Region.binds .any e = true → e.on < k + i
  | [], _, _, i, o, ho, _, _, _ => by simp at ho
  | x :: l, k, h, i, o, ho, e, he, hb => by
    simp only [edgesOk, Bool.and_eq_true, List.all_eq_true] at h
    cases i with
    | zero =>
      simp at ho; subst ho
      have := h.1 e he
      simp [hb] at this
      omega
    | succ i =>
      have := edgesOk_spec l (k + 1) h.2 i o (by simpa using ho) e he hb
      omega

/-- The order that the edges make. -/
def An (ops : List Go.Oper) (i j : Nat) : Prop := ((ancs ops []).getD i 0).testBit j = true

theorem An.edge {ops : List Go.Oper} {i j : Nat} (h : An ops i j) : ∃ o, ops[i]? = some o ∧ ∃ e ∈ o.after.toList, Go.Region.binds .any e = true ∧ (e.on = j ∨ An ops e.on j) := by
  have := ancs_spec ops [] i j (Nat.zero_le _) h; simp only [List.length_nil, Nat.sub_zero] at this; exact this

theorem An.lt {ops : List Go.Oper} (hok : edgesOk ops 0 = true) : ∀ (i j : Nat), An ops i j → j < i := by
  intro i
  induction i using Nat.strongRecOn with
  | _ i ih =>
    intro j h
    obtain ⟨o, h1, e, h2, h3, h4⟩ := h.edge
    have hlt := edgesOk_spec ops 0 hok i o h1 e h2 h3
    rcases h4 with h4 | h4
    · omega
    · have := ih e.on (by omega) j h4; omega

/-- A set that holds what its members' edges name holds what comes ahead of these. -/
theorem An.closed {ops : List Go.Oper} (hok : edgesOk ops 0 = true) {S : Nat → Prop} (hS : ∀ i o, S i → ops[i]? = some o → ∀ e ∈ o.after.toList, Go.Region.binds .any e = true → S e.on) : ∀ (i j : Nat), S i → An ops i j → S j := by
  intro i
  induction i using Nat.strongRecOn with
  | _ i ih =>
    intro j hi h
    obtain ⟨o, h1, e, h2, h3, h4⟩ := h.edge
    have hlt := edgesOk_spec ops 0 hok i o h1 e h2 h3
    have he := hS i o hi h1 e h2 h3
    rcases h4 with h4 | h4
    · rw [← h4]; exact he
    · exact ih e.on (by omega) j he h4

theorem An.ready {ops : List Go.Oper} (hok : edgesOk ops 0 = true) {S : Nat → Prop} (hS : ∀ i o, S i → ops[i]? = some o → ∀ e ∈ o.after.toList, Go.Region.binds .any e = true → S e.on)
    {i : Nat} {o : Go.Oper} (ho : ops[i]? = some o) (hi : ∀ e ∈ o.after.toList, Go.Region.binds .any e = true → S e.on) {j : Nat} (h : An ops i j) : S j := by
  obtain ⟨o', h1, e, h2, h3, h4⟩ := h.edge
  rw [ho] at h1; cases h1
  have he := hi e h2 h3
  rcases h4 with h4 | h4
  · rw [← h4]; exact he
  · exact An.closed hok hS e.on j he h4

/-! ## The checks -/

theorem drawOk_spec {ops : List Go.Oper} {os : List IOper} (h : drawOk (ancs ops []) os = true) {i j : Nat} {x y : IOper} (hij : i < j) (hx : os[i]? = some x) (hy : os[j]? = some y) :
    (∀ d, x.dst = some d → y.dst ≠ some d) ∧ (An ops j i ∨ pairOk x y = true) := by
  unfold drawOk at h
  rw [List.all_eq_true] at h
  have h1 := h (y, j) (List.mk_mem_zipIdx_iff_getElem?.2 hy)
  simp only [List.all_eq_true] at h1
  have h2 := h1 (x, i) (List.mk_mem_zipIdx_iff_getElem?.2 (by rw [List.getElem?_take_of_lt hij]; exact hx))
  simp only [Bool.and_eq_true, Bool.or_eq_true] at h2
  refine ⟨fun d hd hd' => ?_, h2.2⟩
  rw [hd, hd'] at h2
  simp at h2

theorem pairOk_spec {x y : IOper} (h : pairOk x y = true) : (∀ d, x.dst = some d → d ∉ y.looks) ∧ (∀ d, y.dst = some d → d ∉ x.looks) ∧ ¬(clsOf x.op = 3 ∧ clsOf y.op = 3) := by
  unfold pairOk IOper.apart at h
  simp only [Bool.and_eq_true, Bool.not_eq_true'] at h
  obtain ⟨⟨h1, h2⟩, h3⟩ := h
  refine ⟨fun d hd => ?_, fun d hd => ?_, fun ⟨a, b⟩ => ?_⟩
  · rw [hd] at h1; simp at h1; exact h1.1
  · rw [hd] at h2; simpa using h2
  · rw [a, b] at h3; simp at h3

theorem prsOf_mem {ops : List Go.Oper} {os : List IOper} {i j : Nat} {x y : IOper} (hij : i < j) (hx : os[i]? = some x) (hy : os[j]? = some y) (hn : ¬ An ops j i) :
    (clsOf x.op = 1 → clsOf y.op = 3 → (i, j) ∈ prsOf (ancs ops []) os) ∧ (clsOf y.op = 1 → clsOf x.op = 3 → (j, i) ∈ prsOf (ancs ops []) os) := by
  have hmy := List.mk_mem_zipIdx_iff_getElem?.2 hy
  have hmx : (x, i) ∈ (os.take j).zipIdx := List.mk_mem_zipIdx_iff_getElem?.2 (by rw [List.getElem?_take_of_lt hij]; exact hx)
  unfold An at hn
  refine ⟨fun h1 h2 => ?_, fun h1 h2 => ?_⟩ <;> unfold prsOf <;> refine List.mem_flatMap.2 ⟨(y, j), hmy, List.mem_filterMap.2 ⟨(x, i), hmx, ?_⟩⟩ <;> simp only [if_neg hn] <;> simp [h1, h2]

theorem matOf_an {ops : List Go.Oper} {os : List IOper} {i j : Nat} (h : (matOf (matsOf (ancs ops []) os) i).contains j = true) : An ops i j := by
  unfold matOf at h
  cases hf : (matsOf (ancs ops []) os).find? fun p => p.1 == i with
  | none => rw [hf] at h; simp at h
  | some p =>
    rw [hf] at h
    simp only [Option.map_some, Option.getD_some] at h
    have hm := List.mem_of_find?_eq_some hf
    have hp := List.find?_some hf
    obtain ⟨k, l⟩ := p
    simp at hp; subst hp
    unfold matsOf at hm
    obtain ⟨⟨y, k'⟩, h1, h2⟩ := List.mem_filterMap.1 hm
    simp only at h2
    split at h2 <;> try (cases h2; done)
    split at h2 <;> try (cases h2; done)
    cases h2
    rw [List.contains_iff_mem] at h
    obtain ⟨⟨x, i'⟩, h3, h4⟩ := List.mem_filterMap.1 h
    simp only at h4
    split at h4 <;> try (cases h4; done)
    rename_i h5
    cases h4
    simp only [Bool.and_eq_true] at h5
    exact h5.2

theorem reads_spec {C : Cfg} {o : IOper} {t : List V} {H : Heap} {v : V} (h : reads C o t H v = true) : ∃ H1, iop (fun _ _ _ => none) C 0 o.op t H = some (v, H1) := by
  unfold reads at h
  split at h <;> try (cases h; done)
  rename_i u H1 h1
  rw [V.beq_eq _ _ h] at h1
  exact ⟨H1, h1⟩

theorem floats_spec {C : Cfg} {os : List IOper} {rs : List Rec} {i j : Nat} {o : IOper} {l e : Rec} (ho : os[i]? = some o) (hl : rs[i]? = some l) (he : rs[j]? = some e) (hlw : l.w = true) (hew : e.w = true)
    (h : floats C os rs (i, j) = true) : (∃ H1, iop (fun _ _ _ => none) C 0 o.op l.t e.A = some (l.v, H1)) ∧ ∃ H1, iop (fun _ _ _ => none) C 0 o.op l.t e.A' = some (l.v, H1) := by
  unfold floats at h
  simp only [ho, hl, he, hlw, hew, Bool.and_self, if_true, Bool.and_eq_true] at h
  exact ⟨reads_spec h.1, reads_spec h.2⟩

end Im

/- Regions that draw their order: every order ends as the text's ('regD_sound'). -/
namespace Im
open Go (IntKind BinOp UnOp Program World Value Addr TypeId FuncId Code Oper Operand Op TypeDesc Sem Act Fence Exit Ending wpOpIn wpAnyIn)
open Go.RowKit (Below)

/-- A step within a part of the heap, beside which other objects lie. -/
theorem Post.frameIn {E : Env} {S : Nat → Prop} {ρ ρ' : Ren} {g h h' : Nat → Option Obj} {nx nx' : Nat} {w w' : World} (X : Nat → Prop) (g' : Nat → Option Obj)
    (hr : Rel E ρ g nx w) (hs : ∀ id o, h id = some o → g id = some o) (hX : ∀ id, X id → h id = none) (k : Post E S ρ h nx w ρ' h' nx' w')
    (hg1 : ∀ id, X id → g' id = g id) (hg2 : ∀ id, ¬ X id → g' id = h' id) : Post E S ρ g nx w ρ' g' nx' w' := by
  classical
  have hkeep : ∀ id o b x t, X id → g id = some o → ρ id = some (b, x, t) → w'.heap[b]? = w.heap[b]? := by
    intro id o b x t hx hg hρ
    refine k.frame b (hr.lt hg hρ) fun id0 o0 x0 t0 h1 h2 => ?_
    have := hr.inj _ _ _ _ _ _ _ _ _ (hs _ _ h1) hg h2 hρ
    subst this
    rw [hX _ hx] at h1; cases h1
  have hob : ∀ id o b x t, X id → g id = some o → ρ' id = some (b, x, t) → ρ id = some (b, x, t) := by
    intro id o b x t hx hg hρ
    obtain ⟨b', x', t', h1, _, _⟩ := hr.obj id o hg
    have := k.ext _ _ h1
    rw [hρ] at this; cases this
    exact h1
  refine ⟨k.ext, ⟨k.rel.below, ?_, ?_, k.rel.fresh⟩, k.nx_le, k.size, ?_, ?_, k.old⟩
  · intro id o hg
    by_cases hx : X id
    · rw [hg1 id hx] at hg
      obtain ⟨b, x, t, h1, h2, h3⟩ := hr.obj id o hg
      exact ⟨b, x, t, k.ext _ _ h1, h2, by rw [hkeep id o b x t hx hg h1]; exact h3.ext k.ext⟩
    · rw [hg2 id hx] at hg; exact k.rel.obj id o hg
  · intro id id' o o' b x t x' t' h1 h2 h3 h4
    have cross : ∀ i1 i2 o1 o2 x1 t1 x2 t2, X i1 → ¬ X i2 → g i1 = some o1 → h' i2 = some o2 → ρ' i1 = some (b, x1, t1) → ρ' i2 = some (b, x2, t2) → False := by
      intro i1 i2 o1 o2 x1 t1 x2 t2 hx hy q1 q2 q3 q4
      have q5 := hob i1 o1 b x1 t1 hx q1 q3
      rcases k.newb i2 o2 b x2 t2 q2 q4 with ⟨id0, o0, x0, t0, r1, r2⟩ | r1
      · have := hr.inj _ _ _ _ _ _ _ _ _ (hs _ _ r1) q1 r2 q5
        subst this
        rw [hX _ hx] at r1; cases r1
      · have := hr.lt q1 q5; omega
    by_cases hx : X id <;> by_cases hy : X id'
    · rw [hg1 id hx] at h1; rw [hg1 id' hy] at h2
      exact hr.inj _ _ _ _ _ _ _ _ _ h1 h2 (hob _ _ _ _ _ hx h1 h3) (hob _ _ _ _ _ hy h2 h4)
    · rw [hg1 id hx] at h1; rw [hg2 id' hy] at h2
      exact (cross id id' _ _ _ _ _ _ hx hy h1 h2 h3 h4).elim
    · rw [hg2 id hx] at h1; rw [hg1 id' hy] at h2
      exact (cross id' id _ _ _ _ _ _ hy hx h2 h1 h4 h3).elim
    · rw [hg2 id hx] at h1; rw [hg2 id' hy] at h2
      exact k.rel.inj _ _ _ _ _ _ _ _ _ h1 h2 h3 h4
  · intro b hb hn
    exact k.frame b hb fun id o x t h1 h2 => hn id o x t (hs _ _ h1) h2
  · intro id o b x t h1 h2
    by_cases hx : X id
    · rw [hg1 id hx] at h1
      exact .inl ⟨id, o, x, t, h1, hob id o b x t hx h1 h2⟩
    · rw [hg2 id hx] at h1
      rcases k.newb id o b x t h1 h2 with ⟨id0, o0, x0, t0, r1, r2⟩ | r1
      · exact .inl ⟨id0, o0, x0, t0, hs _ _ r1, r2⟩
      · exact .inr r1

/-- Numbers set aside. -/
theorem Post.unbump {E : Env} {ρ ρ' : Ren} {g g' : Nat → Option Obj} {base n nx' : Nat} {w w' : World} (k : Post E (fun id => base ≤ id) ρ g (base + n) w ρ' g' nx' w') : Post E (fun _ => False) ρ g base w ρ' g' nx' w' :=
  ⟨k.ext, k.rel, by have := k.nx_le; omega, k.size, k.frame, k.newb, fun id h1 _ => k.old id (by omega) (by omega)⟩

section
variable {E : Env} {C : Cfg} {cf : CallF}

/-- One operation, wherever it stands. -/
theorem istep_any (hE : EnvOk E) (hC : CfgOk E C) (hcf : CfOk E cf) (ro : Option Nat) {n : Nat} {ρ : Ren} {H : Heap} {w : World} {t : List V} {a : Act} (ht : VRels E ρ t a.tmps.toList) (hr : Rel E ρ H.get H.next w)
    {ops : Array Oper} {i : Nat} {o : Oper} (ho : ops[i]? = some o)
    {nid : Nat} (hn : ρ nid = none) {t1 : List V} {H1 : Heap} (h : istep cf C nid (trOper E ops o) t H = some (t1, H1)) {Q : Exit → Act → World → Prop} {K : Act → World → Prop}
    (hK : ∀ ρ' a' w', VRels E ρ' t1 a'.tmps.toList → a'.defers = a.defers → Post E (· = nid) ρ H.get H.next w ρ' H1.get H1.next w' → K a' w') :
    wpOpIn (Wd ro) n E.P ops Q i K a w := by
  simp only [wpOpIn, ho]
  unfold istep at h
  have hw : (trOper E ops o).op = .bad → (trOper E ops o).guard = none → trOp E o.op = .bad ∧ o.guard = none := by
    intro h1 h2
    rw [h2, h1] at h
    simp [wanted, iop] at h
  have hwant := wanted_sound (a := a) ht hw
  have hop : (trOper E ops o).op = trOp E o.op ∧ (trOper E ops o).dst = o.dst := by
    unfold trOper at hw ⊢
    cases hg : o.guard with
    | none => simp
    | some p =>
      obtain ⟨j, want⟩ := p
      simp only
      cases hd : (ops[j]?).bind (·.dst) with
      | none => rw [hg] at hw; simp only [hd] at hw; simp at hw
      | some d => simp
  rw [hwant, hop.1, hop.2] at h
  split at h
  · rename_i hwt
    rw [if_pos hwt]
    split at h <;> try (cases h; done)
    rename_i v H' hiop
    cases h
    exact oper_sound hE hC hcf ro ht hr hn hiop fun ρ' c w' hv hp => hK ρ' _ w' (put_rels (ht.ext hp.ext) hv _) (put_defers _ _) hp
  · rename_i hwt
    rw [if_neg hwt]
    cases h
    exact ⟨fun _ _ => trivial, hK ρ _ w (put_rels ht .undef _) (put_defers _ _) (.refl hr)⟩

/-! ## What the run in the text's order has laid down -/

/-- The run: slots, heap, what is put off, ahead of each operation. -/
structure Run (cf : CallF) (C : Cfg) (ops : List Oper) (os : List IOper) (base : Nat) (rs : List Rec) (t0 : List V) (H0 : Heap) (T : Nat → List V) (A : Nat → Heap) (Pd : Nat → List (Nat × Obj)) : Prop where
  edges : edgesOk ops 0 = true
  draw : drawOk (ancs ops []) os = true
  flo : ∀ p ∈ prsOf (ancs ops []) os, floats C os rs p = true
  mono : CfMono cf
  T0 : T 0 = t0
  A0 : A 0 = H0
  P0 : Pd 0 = []
  next : H0.next = base + os.length
  new : ∀ id, base ≤ id → H0.get id = none
  len : ops.length = os.length
  step : ∀ k o, os[k]? = some o → ∃ r, rs[k]? = some r ∧ dstep cf C base (matsOf (ancs ops []) os) k o (T k) (A k) (Pd k) = some (r, T (k + 1), A (k + 1), Pd (k + 1))

section
variable {ops : List Oper} {os : List IOper} {base : Nat} {rs : List Rec} {t0 : List V} {H0 : Heap} {T : Nat → List V} {A : Nat → Heap} {Pd : Nat → List (Nat × Obj)} (R : Run cf C ops os base rs t0 H0 T A Pd)
include R

/-- An effect that takes place. -/
def Eff (os : List IOper) (rs : List Rec) (k : Nat) : Prop := ∃ o r, os[k]? = some o ∧ rs[k]? = some r ∧ r.w = true ∧ clsOf o.op = 3
/-- The object that an operation makes. -/
def ObjAt (os : List IOper) (rs : List Rec) (j : Nat) (ob : Obj) : Prop := ∃ r, rs[j]? = some r ∧ r.ob = some ob ∧ j < os.length
/-- Not yet laid when operation m comes. -/
def Off (ops : List Oper) (os : List IOper) (rs : List Rec) (m j : Nat) : Prop := ∀ k, j < k → k < m → Eff os rs k → (matOf (matsOf (ancs ops []) os) k).contains j = false

omit R in
theorem ObjAt.uniq {j : Nat} {ob ob' : Obj} (h : ObjAt os rs j ob) (h' : ObjAt os rs j ob') : ob = ob' := by
  obtain ⟨r, h1, h2, _⟩ := h
  obtain ⟨r', h3, h4, _⟩ := h'
  rw [h1] at h3; cases h3
  rw [h2] at h4; cases h4; rfl

theorem Run.noneff {k : Nat} (hk : k < os.length) (h : ¬ Eff os rs k) : A (k + 1) = A k := by
  obtain ⟨r, h1, h2⟩ := R.step k os[k] (List.getElem?_eq_getElem hk)
  obtain ⟨-, -, -, -, -, h3⟩ := dstep_cases h2
  rcases h3 with ⟨_, _, h4, _⟩ | ⟨_, _, _, h4, _⟩ | ⟨_, _, _, h4⟩ | ⟨hw, hc, _⟩
  · exact h4
  · exact h4
  · exact h4
  · exact absurd ⟨_, r, List.getElem?_eq_getElem hk, h1, hw, hc⟩ h

theorem Run.const {a : Nat} : ∀ {b : Nat}, a ≤ b → b ≤ os.length → (∀ k, a ≤ k → k < b → ¬ Eff os rs k) → A b = A a
  | 0, h, _, _ => by have : a = 0 := by omega
                     rw [this]
  | b + 1, h, hb, hn => by
    rcases Nat.lt_or_ge b a with h1 | h1
    · have : a = b + 1 := by omega
      rw [this]
    · rw [R.noneff (by omega) (hn b h1 (by omega)), Run.const h1 (by omega) fun k k1 k2 => hn k k1 (by omega)]

theorem Run.pend : ∀ {i : Nat}, i ≤ os.length → ∀ j ob, (j, ob) ∈ Pd i ↔ j < i ∧ ObjAt os rs j ob ∧ Off ops os rs i j
  | 0, _, j, ob => by rw [R.P0]; simp
  | i + 1, hi, j, ob => by
    have ih := Run.pend (i := i) (by omega) j ob
    obtain ⟨r, h1, h2⟩ := R.step i os[i] (List.getElem?_eq_getElem (by omega))
    obtain ⟨-, -, -, -, -, h3⟩ := dstep_cases h2
    have offs : ¬ Eff os rs i → (Off ops os rs (i + 1) j ↔ Off ops os rs i j) := fun hne =>
      ⟨fun h k k1 k2 k3 => h k k1 (by omega) k3, fun h k k1 k2 k3 => h k k1 (by
        rcases Nat.lt_or_ge k i with h4 | h4
        · exact h4
        · exact absurd (by have : k = i := by omega
                           rw [← this]; exact k3) hne) k3⟩
    have plain : ¬ Eff os rs i → r.ob = none → Pd (i + 1) = Pd i → ((j, ob) ∈ Pd (i + 1) ↔ j < i + 1 ∧ ObjAt os rs j ob ∧ Off ops os rs (i + 1) j) := by
      intro hne hob hp
      rw [hp, ih, offs hne]
      refine ⟨fun ⟨a1, a2, a3⟩ => ⟨by omega, a2, a3⟩, fun ⟨a1, a2, a3⟩ => ⟨?_, a2, a3⟩⟩
      rcases Nat.lt_or_ge j i with h4 | h4
      · exact h4
      · have : j = i := by omega
        subst this
        obtain ⟨r', b1, b2, _⟩ := a2
        rw [h1] at b1; cases b1
        rw [hob] at b2; cases b2
    have hne : (r.w = true → clsOf os[i].op ≠ 3) → ¬ Eff os rs i := by
      rintro hc ⟨o', r', b1, b2, b3, b4⟩
      rw [h1] at b2; cases b2
      rw [List.getElem?_eq_getElem (by omega), Option.some.injEq] at b1; rw [← b1] at b4
      exact hc b3 b4
    rcases h3 with ⟨hw, _, _, hp, hob⟩ | ⟨hw, hc, _, _, hp, hob⟩ | ⟨hw, hc, ⟨H1, ob', _, _, hob, hp⟩, _⟩ | ⟨hw, hc, _, hp, hob⟩
    · exact plain (hne fun h => by rw [hw] at h; cases h) hob hp
    · exact plain (hne fun _ => by omega) hob hp
    · rw [hp, List.mem_cons, ih, offs (hne fun _ => by omega)]
      constructor
      · rintro (h | ⟨a1, a2, a3⟩)
        · cases h
          exact ⟨by omega, ⟨r, h1, hob, by omega⟩, fun k k1 k2 => by omega⟩
        · exact ⟨by omega, a2, a3⟩
      · rintro ⟨a1, a2, a3⟩
        rcases Nat.lt_or_ge j i with h4 | h4
        · exact .inr ⟨h4, a2, a3⟩
        · have : j = i := by omega
          subst this
          obtain ⟨r', b1, b2, _⟩ := a2
          rw [h1] at b1; cases b1
          rw [hob] at b2; cases b2
          exact .inl rfl
    · have heff : Eff os rs i := ⟨_, r, List.getElem?_eq_getElem (by omega), h1, hw, hc⟩
      rw [hp, List.mem_filter, ih]
      constructor
      · rintro ⟨⟨a1, a2, a3⟩, a4⟩
        refine ⟨by omega, a2, fun k k1 k2 k3 => ?_⟩
        rcases Nat.lt_or_ge k i with h4 | h4
        · exact a3 k k1 h4 k3
        · have : k = i := by omega
          subst this; simpa using a4
      · rintro ⟨a1, a2, a3⟩
        have hji : j < i := by
          rcases Nat.lt_or_ge j i with h4 | h4
          · exact h4
          · have : j = i := by omega
            subst this
            obtain ⟨r', b1, b2, _⟩ := a2
            rw [h1] at b1; cases b1
            rw [hob] at b2; cases b2
        exact ⟨⟨hji, a2, fun k k1 k2 => a3 k k1 (by omega)⟩, by simpa using a3 i hji (by omega) heff⟩

/-- The heap's next number stays above what the region has set aside; what is put off is not there yet. -/
theorem Run.off : ∀ {m : Nat}, m ≤ os.length → base + os.length ≤ (A m).next ∧ ∀ j ob, ObjAt os rs j ob → Off ops os rs m j → (A m).get (base + j) = none
  | 0, _ => by
    rw [R.A0]
    exact ⟨by rw [R.next]; exact Nat.le_refl _, fun j ob _ _ => R.new _ (by omega)⟩
  | m + 1, hm => by
    obtain ⟨ih1, ih2⟩ := Run.off (m := m) (by omega)
    have weak : ∀ j, Off ops os rs (m + 1) j → Off ops os rs m j := fun j h k k1 k2 => h k k1 (by omega)
    by_cases he : Eff os rs m
    · have he' := he
      obtain ⟨o, r, h1, h2, h3, h4⟩ := he
      obtain ⟨r', g1, g2⟩ := R.step m o h1
      rw [h2] at g1; cases g1
      obtain ⟨-, -, -, -, -, h5⟩ := dstep_cases g2
      rcases h5 with ⟨hw, _⟩ | ⟨_, hc, _⟩ | ⟨_, hc, _⟩ | ⟨_, _, hi, _, hob⟩
      · rw [h3] at hw; cases hw
      · omega
      · omega
      · have hmono := iop_mono R.mono hi
        have hnx := puts_next base (A m) ((Pd m).filter fun p => (matOf (matsOf (ancs ops []) os) m).contains p.1)
        refine ⟨by have := hmono.next; omega, fun j ob hj hoff => ?_⟩
        have hjl : j < os.length := by obtain ⟨_, _, _, h⟩ := hj; exact h
        have hjm : base + j ≠ base + m := by
          intro e
          have : j = m := by omega
          subst this
          obtain ⟨r2, c1, c2, _⟩ := hj
          rw [h2] at c1; cases c1
          rw [hob] at c2; cases c2
        refine hmono.none _ (by omega) hjm ?_
        have huniq : ∀ j' o1 o2, (j', o1) ∈ (Pd m).filter (fun p => (matOf (matsOf (ancs ops []) os) m).contains p.1) → (j', o2) ∈ (Pd m).filter (fun p => (matOf (matsOf (ancs ops []) os) m).contains p.1) → o1 = o2 := by
          intro j' o1 o2 q1 q2
          rw [List.mem_filter] at q1 q2
          exact ((R.pend (i := m) (by omega) _ _).1 q1.1).2.1.uniq ((R.pend (i := m) (by omega) _ _).1 q2.1).2.1
        rcases puts_get base (A m) _ huniq (base + j) with ⟨j', o', q1, q2, q3⟩ | ⟨q1, q2⟩
        · have : j' = j := by omega
          subst this
          rw [List.mem_filter] at q2
          have q4 := (R.pend (i := m) (by omega) _ _).1 q2.1
          have := hoff m q4.1 (by omega) he'
          rw [this] at q2; simp at q2
        · rw [q2]; exact ih2 j ob hj (weak j hoff)
    · rw [R.noneff (by omega) he]
      exact ⟨ih1, fun j ob hj hoff => ih2 j ob hj (weak j hoff)⟩

end
end
end Im

/- Regions that draw their order: one operation in whatever order; the whole ('regD_sound'). -/
namespace Im
open Go (IntKind BinOp UnOp Program World Value Addr TypeId FuncId Code Oper Operand Op TypeDesc Sem Act Fence Exit Ending wpOpIn wpAnyIn)
open Go.RowKit (Below)

/-- The slots once the operations of S are done. -/
def TS (os : List IOper) (rs : List Rec) (t0 : List V) (S : Nat → Prop) (t : List V) : Prop :=
  t.length = t0.length ∧ ∀ d, (∀ j o r, S j → os[j]? = some o → rs[j]? = some r → o.dst = some d → d < t0.length → t[d]? = some r.v) ∧ ((∀ j o, S j → os[j]? = some o → o.dst ≠ some d) → t[d]? = t0[d]?)

theorem setD_length (t : List V) (d : Option Nat) (v : V) : (setD t d v).length = t.length := by cases d <;> simp [setD]

section
variable {E : Env} {C : Cfg} {cf : CallF} {ops : List Oper} {os : List IOper} {base : Nat} {rs : List Rec} {t0 : List V} {H0 : Heap} {T : Nat → List V} {A : Nat → Heap} {Pd : Nat → List (Nat × Obj)} (R : Run cf C ops os base rs t0 H0 T A Pd)
include R

theorem Run.distinct {i j : Nat} {x y : IOper} {d : Nat} (hij : i ≠ j) (hx : os[i]? = some x) (hy : os[j]? = some y) (hd : x.dst = some d) : y.dst ≠ some d := by
  rcases Nat.lt_or_gt_of_ne hij with h | h
  · exact (drawOk_spec R.draw h hx hy).1 d hd
  · intro e; exact (drawOk_spec R.draw h hy hx).1 d e hd

theorem Run.ts_step {S : Nat → Prop} {t : List V} (h : TS os rs t0 S t) {i : Nat} {o : IOper} {r : Rec} (ho : os[i]? = some o) (hr : rs[i]? = some r) : TS os rs t0 (fun j => S j ∨ j = i) (setD t o.dst r.v) := by
  refine ⟨by rw [setD_length, h.1], fun d => ?_⟩
  by_cases hd : o.dst = some d
  · refine ⟨fun j o' r' hj h1 h2 h3 h4 => ?_, fun hn => absurd hd (hn i o (.inr rfl) ho)⟩
    have : j = i := Classical.byContradiction fun e => R.distinct e h1 ho h3 hd
    subst this
    rw [hr] at h2; cases h2
    rw [hd, setD, List.getElem?_set_self (by rw [h.1]; exact h4)]
  · have hk : (setD t o.dst r.v)[d]? = t[d]? := by
      cases hx : o.dst with
      | none => rfl
      | some d' => rw [setD, List.getElem?_set_ne (by rintro rfl; exact hd hx)]
    rw [hk]
    refine ⟨fun j o' r' hj h1 h2 h3 h4 => ?_, fun hn => (h.2 d).2 fun j o' hj h1 => hn j o' (.inl hj) h1⟩
    rcases hj with hj | rfl
    · exact (h.2 d).1 j o' r' hj h1 h2 h3 h4
    · rw [ho] at h1; cases h1; exact absurd h3 hd

omit R in
theorem TS.congr {S S' : Nat → Prop} {t : List V} (h : TS os rs t0 S t) (hs : ∀ j, j < os.length → (S j ↔ S' j)) : TS os rs t0 S' t := by
  have hlt : ∀ {j : Nat} {o : IOper}, os[j]? = some o → j < os.length := fun h => (List.getElem?_eq_some_iff.1 h).1
  exact ⟨h.1, fun d => ⟨fun j o r hj h1 => (h.2 d).1 j o r ((hs j (hlt h1)).2 hj) h1, fun hn => (h.2 d).2 fun j o hj h1 => hn j o ((hs j (hlt h1)).1 hj) h1⟩⟩

theorem Run.ts : ∀ {i : Nat}, i ≤ os.length → TS os rs t0 (· < i) (T i)
  | 0, _ => by rw [R.T0]; exact ⟨rfl, fun d => ⟨fun j _ _ h => by simp at h, fun _ => rfl⟩⟩
  | i + 1, hi => by
    have ho := List.getElem?_eq_getElem (l := os) (i := i) (by omega)
    obtain ⟨r, h1, h2⟩ := R.step i _ ho
    obtain ⟨-, -, -, h3, -⟩ := dstep_cases h2
    rw [h3]
    exact (R.ts_step (Run.ts (i := i) (by omega)) ho h1).congr fun j _ => by omega

omit R in
/-- Two such lists of slots that the same operations have written are one. -/
theorem TS.eq {S : Nat → Prop} {t t' : List V} (hS : ∀ j, S j → j < os.length → ∃ r, rs[j]? = some r) (h : TS os rs t0 S t) (h' : TS os rs t0 S t') : t = t' := by
  apply List.ext_getElem?
  intro d
  by_cases hd : ∃ j o, S j ∧ os[j]? = some o ∧ o.dst = some d
  · obtain ⟨j, o, h1, h2, h3⟩ := hd
    obtain ⟨r, h4⟩ := hS j h1 (List.getElem?_eq_some_iff.1 h2).1
    rcases Nat.lt_or_ge d t0.length with h5 | h5
    · rw [(h.2 d).1 j o r h1 h2 h4 h3 h5, (h'.2 d).1 j o r h1 h2 h4 h3 h5]
    · rw [List.getElem?_eq_none (by rw [h.1]; exact h5), List.getElem?_eq_none (by rw [h'.1]; exact h5)]
  · have hn : ∀ j o, S j → os[j]? = some o → o.dst ≠ some d := fun j o h1 h2 h3 => hd ⟨j, o, h1, h2, h3⟩
    rw [(h.2 d).2 hn, (h'.2 d).2 hn]

/-- What an operation looks at is what it would look at in the text's order. -/
theorem Run.looks {S : Nat → Prop} {t : List V} (h : TS os rs t0 S t) {i : Nat} {o : IOper} (ho : os[i]? = some o) (hcl : ∀ k j, S k → An ops k j → S j) (hi : ¬ S i) (hrd : ∀ j, An ops i j → S j) :
    ∀ d ∈ o.looks, t[d]? = (T i)[d]? := by
  intro d hd
  have hlt := (List.getElem?_eq_some_iff.1 ho).1
  have hT := R.ts (i := i) (by omega)
  have key : ∀ j o', j ≠ i → os[j]? = some o' → o'.dst = some d → (S j ↔ j < i) := by
    intro j o' hj h1 h2
    rcases Nat.lt_or_gt_of_ne hj with h3 | h3
    · rcases (drawOk_spec R.draw h3 h1 ho).2 with h4 | h4
      · exact ⟨fun _ => h3, fun _ => hrd j h4⟩
      · exact absurd hd ((pairOk_spec h4).1 d h2)
    · rcases (drawOk_spec R.draw h3 ho h1).2 with h4 | h4
      · exact ⟨fun h5 => absurd (hcl j i h5 h4) hi, fun h5 => by omega⟩
      · exact absurd hd ((pairOk_spec h4).2.1 d h2)
  by_cases he : ∃ j o', j ≠ i ∧ os[j]? = some o' ∧ o'.dst = some d ∧ j < i
  · obtain ⟨j, o', h1, h2, h3, h4⟩ := he
    obtain ⟨r, h5, _⟩ := R.step j o' h2
    rcases Nat.lt_or_ge d t0.length with h6 | h6
    · rw [(h.2 d).1 j o' r ((key j o' h1 h2 h3).2 h4) h2 h5 h3 h6, (hT.2 d).1 j o' r h4 h2 h5 h3 h6]
    · rw [List.getElem?_eq_none (by rw [h.1]; exact h6), List.getElem?_eq_none (by rw [hT.1]; exact h6)]
  · rw [(h.2 d).2, (hT.2 d).2]
    · intro j o' h1 h2 h3
      exact he ⟨j, o', by omega, h2, h3, h1⟩
    · intro j o' h1 h2 h3
      have hji : j ≠ i := by rintro rfl; exact hi h1
      exact he ⟨j, o', hji, h2, h3, (key j o' hji h2 h3).1 h1⟩

omit R in
theorem first_or (p : Nat → Prop) (a : Nat) : ∀ b, (∃ k, a ≤ k ∧ k < b ∧ p k ∧ ∀ k', a ≤ k' → k' < k → ¬ p k') ∨ ∀ k, a ≤ k → k < b → ¬ p k
  | 0 => .inr fun k _ h => by omega
  | b + 1 => by
    rcases first_or p a b with ⟨k, h1, h2, h3⟩ | h
    · exact .inl ⟨k, h1, by omega, h3⟩
    · by_cases hb : a ≤ b ∧ p b
      · exact .inl ⟨b, hb.1, by omega, hb.2, h⟩
      · refine .inr fun k h1 h2 h3 => ?_
        rcases Nat.lt_or_ge k b with h4 | h4
        · exact h k h1 h4 h3
        · have : k = b := by omega
          subst this; exact hb ⟨h1, h3⟩

omit R in
theorem last_or (p : Nat → Prop) (a : Nat) : ∀ b, (∃ k, a ≤ k ∧ k < b ∧ p k ∧ ∀ k', k < k' → k' < b → ¬ p k') ∨ ∀ k, a ≤ k → k < b → ¬ p k
  | 0 => .inr fun k _ h => by omega
  | b + 1 => by
    by_cases hb : a ≤ b ∧ p b
    · exact .inl ⟨b, hb.1, by omega, hb.2, fun k' h1 h2 => by omega⟩
    · have hn : ∀ k, a ≤ k → k = b → ¬ p k := fun k h1 h2 h3 => hb ⟨by omega, by rw [← h2]; exact h3⟩
      rcases last_or p a b with ⟨k, h1, h2, h3, h4⟩ | h
      · refine .inl ⟨k, h1, by omega, h3, fun k' h5 h6 h7 => ?_⟩
        rcases Nat.lt_or_ge k' b with h8 | h8
        · exact h4 k' h5 h8 h7
        · exact hn k' (by omega) (by omega) h7
      · refine .inr fun k h1 h2 h3 => ?_
        rcases Nat.lt_or_ge k b with h4 | h4
        · exact h k h1 h4 h3
        · exact hn k h1 (by omega) h3

/-- A load reads in the heap of its place in whatever order what it reads in the text's. -/
theorem Run.load {S : Nat → Prop} {m i : Nat} {o : IOper} {r : Rec} (ho : os[i]? = some o) (hr : rs[i]? = some r) (hw : r.w = true) (hc : clsOf o.op = 1) (hm : m ≤ os.length) (heff : ∀ k, Eff os rs k → (S k ↔ k < m))
    (hcl : ∀ k j, S k → An ops k j → S j) (hi : ¬ S i) (hrd : ∀ j, An ops i j → S j) : ∃ cf' H1, iop cf' C 0 o.op (T i) (A m) = some (r.v, H1) := by
  have hlt := (List.getElem?_eq_some_iff.1 ho).1
  obtain ⟨r', e1, e2⟩ := R.step i o ho
  rw [hr] at e1; cases e1
  obtain ⟨hrt, _, _, _, _, h3⟩ := dstep_cases e2
  have here : ∃ H1, iop cf C 0 o.op (T i) (A i) = some (r.v, H1) := by
    rcases h3 with ⟨hw', _⟩ | ⟨_, _, h, _⟩ | ⟨_, hc', _⟩ | ⟨_, hc', _⟩
    · rw [hw] at hw'; cases hw'
    · exact h
    · omega
    · omega
  have eff : ∀ k, Eff os rs k → ∃ o' e, os[k]? = some o' ∧ rs[k]? = some e ∧ e.w = true ∧ clsOf o'.op = 3 ∧ e.A = A k ∧ e.A' = A (k + 1) ∧ k < os.length := by
    rintro k ⟨o', e, k1, k2, k3, k4⟩
    obtain ⟨e', k5, k6⟩ := R.step k o' k1
    rw [k2] at k5; cases k5
    obtain ⟨_, k7, k8, _⟩ := dstep_cases k6
    exact ⟨o', e, k1, k2, k3, k4, k7, k8, (List.getElem?_eq_some_iff.1 k1).1⟩
  rcases Nat.le_total m i with hmi | hmi
  · rcases first_or (Eff os rs) m i with ⟨k, k1, k2, k3, k4⟩ | h
    · obtain ⟨o', e, q1, q2, q3, q4, q5, q6, q7⟩ := eff k k3
      have hk : ¬ S k := fun h => by have := (heff k k3).1 h; omega
      have hf := R.flo _ ((prsOf_mem k2 q1 ho (fun h => hk (hrd k h))).2 hc q4)
      obtain ⟨⟨H1, h1⟩, _⟩ := floats_spec ho hr q2 hw q3 hf
      rw [hrt, q5] at h1
      rw [R.const k1 (by omega) k4] at h1
      exact ⟨_, H1, h1⟩
    · rw [← R.const hmi (by omega) h]
      exact ⟨cf, here⟩
  · rcases last_or (Eff os rs) i m with ⟨k, k1, k2, k3, k4⟩ | h
    · obtain ⟨o', e, q1, q2, q3, q4, q5, q6, q7⟩ := eff k k3
      have hki : i < k := by
        rcases Nat.lt_or_ge i k with h | h
        · exact h
        · have : i = k := by omega
          subst this
          rw [ho] at q1; cases q1; omega
      have hk : S k := (heff k k3).2 k2
      have hf := R.flo _ ((prsOf_mem hki ho q1 (fun h => hi (hcl k i hk h))).1 hc q4)
      obtain ⟨_, H1, h1⟩ := floats_spec ho hr q2 hw q3 hf
      rw [hrt, q6] at h1
      rw [← R.const (a := k + 1) (b := m) (by omega) hm fun k' h1 h2 => k4 k' (by omega) h2] at h1
      exact ⟨_, H1, h1⟩
    · rw [R.const hmi hm h]
      exact ⟨cf, here⟩

end

/-- Where a walk stands that has done the operations of S. -/
structure St (E : Env) (ops : List Oper) (os : List IOper) (rs : List Rec) (base : Nat) (A : Nat → Heap) (t0 : List V) (H0 : Heap) (ρ0 : Ren) (w0 : World) (a0 : Act) (S : Nat → Prop)
    (ρ : Ren) (t : List V) (a : Act) (w : World) (m : Nat) (P : List (Nat × Obj)) : Prop where
  slots : VRels E ρ t a.tmps.toList
  defers : a.defers = a0.defers
  ts : TS os rs t0 S t
  m_le : m ≤ os.length
  eff : ∀ k, Eff os rs k → (S k ↔ k < m)
  pend : ∀ j ob, (j, ob) ∈ P ↔ S j ∧ ObjAt os rs j ob ∧ Off ops os rs m j
  post : Post E (fun id => base ≤ id) ρ0 H0.get (base + os.length) w0 ρ (puts base (A m) P).get (puts base (A m) P).next w
  fresh : ∀ j, j < os.length → ¬ S j → ρ (base + j) = none

end Im

