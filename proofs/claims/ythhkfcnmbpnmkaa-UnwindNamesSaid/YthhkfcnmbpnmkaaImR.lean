/- Regions that draw their order, plain part: what the run in the text's order leaves; what the edges say. -/
import Derived.Test.YthhkfcnmbpnmkaaImQ
namespace Im
open Go (IntKind BinOp UnOp)

theorem iop_pure {cf : CallF} {C : Cfg} {nid : Nat} {op : IOp} {t : List V} {H : Heap} {v : V} {H1 : Heap} (hc : clsOf op = 0) (h : iop cf C nid op t H = some (v, H1)) :
    ∀ (cf' : CallF) (nid' : Nat) (H' : Heap), iop cf' C nid' op t H' = some (v, H') := by
  intro cf' nid' H'
  cases op <;> first | (simp [clsOf] at hc; done) | skip
  all_goals
    simp only [iop] at h ⊢
    (repeat' split at h) <;> first | (cases h; done) | (cases h; simp_all; done)

theorem cellsAt_mono {C : Cfg} {H H' : Heap} (hs : ∀ id o, H.get id = some o → H'.get id = some o) {a : PA} {i : Nat} {v : V} (h : H.cellsAt C a i = some v) : H'.cellsAt C a i = some v := by
  unfold Heap.cellsAt at *
  cases hr : a.r <;> rw [hr] at h <;> simp only at h ⊢ <;> try exact h
  cases hg : H.get a.b with
  | none => rw [hg] at h; cases h
  | some o => rw [hg] at h; rw [hs _ _ hg]; exact h

theorem loadN_mono {C : Cfg} {H H' : Heap} (hs : ∀ id o, H.get id = some o → H'.get id = some o) {a : PA} : ∀ {n i : Nat} {l : List V}, H.loadN C a i n = some l → H'.loadN C a i n = some l
  | 0, _, _, h => h
  | n + 1, i, l, h => by
    unfold Heap.loadN at h ⊢
    split at h <;> try (cases h; done)
    rename_i h1 h2
    rw [cellsAt_mono hs h1, loadN_mono hs h2]
    exact h

theorem iop_load {cf : CallF} {C : Cfg} {nid : Nat} {op : IOp} {t : List V} {H : Heap} {v : V} {H1 : Heap} (hc : clsOf op = 1) (h : iop cf C nid op t H = some (v, H1)) :
    ∀ (cf' : CallF) (nid' : Nat) (H' : Heap), (∀ id o, H.get id = some o → H'.get id = some o) → iop cf' C nid' op t H' = some (v, H') := by
  intro cf' nid' H' hs
  cases op <;> first | (simp [clsOf] at hc; done) | skip
  case ld x =>
    simp only [iop] at h ⊢
    split at h <;> try (cases h; done)
    split at h <;> try (cases h; done)
    rename_i h2
    rw [cellsAt_mono hs h2]
    cases h; rfl
  case ldn n x =>
    simp only [iop] at h ⊢
    split at h <;> try (cases h; done)
    split at h <;> try (cases h; done)
    rename_i h2
    rw [loadN_mono hs h2]
    cases h; rfl
  case cbs x =>
    simp only [iop] at h ⊢
    split at h <;> try (cases h; done)
    · cases h; rfl
    · split at h <;> try (cases h; done)
      rename_i h2
      rw [loadN_mono hs h2]
      simp only
      split at h <;> try (cases h; done)
      cases h; rfl
  case lenm x =>
    simp only [iop] at h ⊢
    split at h <;> try (cases h; done)
    · cases h; rfl
    · split at h <;> try (cases h; done)
      rename_i h2
      rw [hs _ _ h2]
      cases h; rfl
  case lkup kt ok z x k =>
    simp only [iop] at h ⊢
    split at h <;> try (cases h; done)
    rename_i hk
    rw [if_neg hk]
    cases hx : eval t x <;> rw [hx] at h <;> simp only at h ⊢ <;> try (cases h; done)
    · split at h <;> try (cases h; done)
      cases h; simp_all
    · rename_i id
      cases hg : H.get id with
      | none => rw [hg] at h; cases h
      | some o =>
        rw [hg] at h; rw [hs _ _ hg]
        cases o <;> simp only at h ⊢ <;> try (cases h; done)
        split at h <;> try (cases h; done)
        cases h; simp_all

theorem iop_alloc {cf : CallF} {C : Cfg} {nid : Nat} {op : IOp} {t : List V} {H : Heap} {v : V} {H1 : Heap} (hc : clsOf op = 2) (h : iop cf C nid op t H = some (v, H1)) :
    ∃ ob, H1 = H.put nid ob ∧ ∀ (cf' : CallF) (H' : Heap), iop cf' C nid op t H' = some (v, H'.put nid ob) := by
  cases op <;> first | (simp [clsOf] at hc; done) | skip
  all_goals
    simp only [iop] at h ⊢
    (repeat' split at h) <;> first | (cases h; done) | (cases h; exact ⟨_, rfl, fun _ _ => by simp_all⟩)

theorem cls_le (op : IOp) : clsOf op ≤ 3 := by cases op <;> simp [clsOf]

/-! ## The run in the text's order -/

theorem dstep_cases {cf : CallF} {C : Cfg} {base : Nat} {mats : List (Nat × List Nat)} {i : Nat} {o : IOper} {t : List V} {A : Heap} {pend : List (Nat × Obj)} {r : Rec} {t' : List V} {A' : Heap} {pend' : List (Nat × Obj)}
    (h : dstep cf C base mats i o t A pend = some (r, t', A', pend')) :
    r.t = t ∧ r.A = A ∧ r.A' = A' ∧ t' = setD t o.dst r.v ∧ r.w = wanted o.guard t ∧
      ((r.w = false ∧ r.v = .undef ∧ A' = A ∧ pend' = pend ∧ r.ob = none) ∨
       (r.w = true ∧ clsOf o.op ≤ 1 ∧ (∃ H1, iop cf C 0 o.op t A = some (r.v, H1)) ∧ A' = A ∧ pend' = pend ∧ r.ob = none) ∨
       (r.w = true ∧ clsOf o.op = 2 ∧ (∃ H1 ob, iop cf C (base + i) o.op t Heap.empty = some (r.v, H1) ∧ H1.get (base + i) = some ob ∧ r.ob = some ob ∧ pend' = (i, ob) :: pend) ∧ A' = A) ∨
       (r.w = true ∧ clsOf o.op = 3 ∧ iop cf C (base + i) o.op t (puts base A (pend.filter fun p => (matOf mats i).contains p.1)) = some (r.v, A') ∧ pend' = (pend.filter fun p => !(matOf mats i).contains p.1) ∧ r.ob = none)) := by
  unfold dstep at h
  split at h
  · rename_i hw
    have hcls := cls_le o.op
    split at h
    · rename_i hc
      split at h <;> try (cases h; done)
      rename_i h1
      cases h
      exact ⟨rfl, rfl, rfl, rfl, hw.symm, .inr (.inl ⟨rfl, by omega, ⟨_, h1⟩, rfl, rfl, rfl⟩)⟩
    · rename_i hc
      split at h <;> try (cases h; done)
      rename_i h1
      cases h
      exact ⟨rfl, rfl, rfl, rfl, hw.symm, .inr (.inl ⟨rfl, by omega, ⟨_, h1⟩, rfl, rfl, rfl⟩)⟩
    · rename_i hc
      split at h <;> try (cases h; done)
      rename_i h1
      split at h <;> try (cases h; done)
      rename_i h2
      cases h
      exact ⟨rfl, rfl, rfl, rfl, hw.symm, .inr (.inr (.inl ⟨rfl, hc, ⟨_, _, h1, h2, rfl, rfl⟩, rfl⟩))⟩
    · rename_i h0 h1 h2
      split at h <;> try (cases h; done)
      rename_i h3
      cases h
      refine ⟨rfl, rfl, rfl, rfl, hw.symm, .inr (.inr (.inr ⟨rfl, ?_, h3, rfl, rfl⟩))⟩
      have h0 : clsOf o.op ≠ 0 := fun e => h0 e
      have h1 : clsOf o.op ≠ 1 := fun e => h1 e
      have h2 : clsOf o.op ≠ 2 := fun e => h2 e
      omega
  · rename_i hw
    cases h
    exact ⟨rfl, rfl, rfl, rfl, (Bool.not_eq_true _ ▸ hw : _).symm, .inl ⟨rfl, rfl, rfl, rfl, rfl⟩⟩

theorem drun_run {cf : CallF} {C : Cfg} {base : Nat} {mats : List (Nat × List Nat)} : ∀ (os : List IOper) (i : Nat) (t : List V) (A : Heap) (pend : List (Nat × Obj)) (rs : List Rec) (t' : List V) (H' : Heap),
    drun cf C base mats os i t A pend = some (rs, t', H') → ∃ (T : Nat → List V) (Af : Nat → Heap) (Pd : Nat → List (Nat × Obj)), T i = t ∧ Af i = A ∧ Pd i = pend ∧
      (∀ k o, os[k]? = some o → ∃ r, rs[k]? = some r ∧ dstep cf C base mats (i + k) o (T (i + k)) (Af (i + k)) (Pd (i + k)) = some (r, T (i + k + 1), Af (i + k + 1), Pd (i + k + 1))) ∧
      T (i + os.length) = t' ∧ puts base (Af (i + os.length)) (Pd (i + os.length)) = H' := by
  intro os
  induction os with
  | nil =>
    intro i t A pend rs t' H' h
    simp only [drun] at h; cases h
    exact ⟨fun _ => t, fun _ => A, fun _ => pend, rfl, rfl, rfl, fun k o hk => by simp at hk, rfl, rfl⟩
  | cons o os ih =>
    intro i t A pend rs t' H' h
    simp only [drun] at h
    split at h <;> try (cases h; done)
    rename_i r t1 A1 pend1 h1
    split at h <;> try (cases h; done)
    rename_i rs2 t2 H2 h2
    cases h
    obtain ⟨T, Af, Pd, e1, e2, e3, hs, e4, e5⟩ := ih _ _ _ _ _ _ _ h2
    refine ⟨fun k => if k = i then t else T k, fun k => if k = i then A else Af k, fun k => if k = i then pend else Pd k, by simp, by simp, by simp, fun k o' hk => ?_, ?_, ?_⟩
    · cases k with
      | zero =>
        simp at hk; subst hk
        refine ⟨r, rfl, ?_⟩
        simp [e1, e2, e3, h1]
      | succ k =>
        obtain ⟨r', g1, g2⟩ := hs k o' (by simpa using hk)
        refine ⟨r', by simpa using g1, ?_⟩
        show dstep cf C base mats (i + (k + 1)) o' (if i + (k + 1) = i then t else T (i + (k + 1))) (if i + (k + 1) = i then A else Af (i + (k + 1))) (if i + (k + 1) = i then pend else Pd (i + (k + 1))) =
          some (r', (if i + (k + 1) + 1 = i then t else T (i + (k + 1) + 1)), (if i + (k + 1) + 1 = i then A else Af (i + (k + 1) + 1)), (if i + (k + 1) + 1 = i then pend else Pd (i + (k + 1) + 1)))
        rw [if_neg (by omega), if_neg (by omega), if_neg (by omega), if_neg (by omega), if_neg (by omega), if_neg (by omega)]
        have e : i + (k + 1) = i + 1 + k := by omega
        rw [e]; exact g2
    · simp only [List.length_cons]
      rw [if_neg (by omega)]
      have e : i + (os.length + 1) = i + 1 + os.length := by omega
      rw [e]; exact e4
    · simp only [List.length_cons]
      rw [if_neg (by omega), if_neg (by omega)]
      have e : i + (os.length + 1) = i + 1 + os.length := by omega
      rw [e]; exact e5

/-! ## The edges -/

theorem getD_ge {l : List Nat} {i : Nat} (h : l.length ≤ i) : l.getD i 0 = 0 := by simp [List.getD, List.getElem?_eq_none h]

theorem anc_fold (acc : List Nat) (j : Nat) : ∀ (l : List Go.Edge) (s : Nat), (l.foldl (fun s e => if Go.Region.binds .any e then s ||| 2 ^ e.on ||| acc.getD e.on 0 else s) s).testBit j = true →
    s.testBit j = true ∨ ∃ e ∈ l, Go.Region.binds .any e = true ∧ (e.on = j ∨ (acc.getD e.on 0).testBit j = true)
  | [], s, h => .inl h
  | e :: l, s, h => by
    simp only [List.foldl_cons] at h
    rcases anc_fold acc j l _ h with h | ⟨e', h1, h2⟩
    · split at h
      · rename_i hb
        rw [Nat.testBit_or, Nat.testBit_or, Nat.testBit_two_pow, Bool.or_eq_true, Bool.or_eq_true, decide_eq_true_eq] at h
        rcases h with (h | h) | h
        · exact .inl h
        · exact .inr ⟨e, by simp, hb, .inl h⟩
        · exact .inr ⟨e, by simp, hb, .inr h⟩
      · exact .inl h
    · exact .inr ⟨e', by simp [h1], h2⟩

theorem ancs_prefix : ∀ (l : List Go.Oper) (acc : List Nat), ∃ r, ancs l acc = acc ++ r ∧ r.length = l.length
  | [], acc => ⟨[], by simp [ancs], rfl⟩
  | o :: l, acc => by
    obtain ⟨r, h1, h2⟩ := ancs_prefix l (acc ++ [o.after.toList.foldl (fun s e => if Go.Region.binds .any e then s ||| 2 ^ e.on ||| acc.getD e.on 0 else s) 0])
    exact ⟨_ :: r, by simp only [ancs]; rw [h1, List.append_assoc, List.singleton_append], by simp [h2]⟩

theorem ancs_spec : ∀ (l : List Go.Oper) (acc : List Nat) (i j : Nat), acc.length ≤ i → ((ancs l acc).getD i 0).testBit j = true →
    ∃ o, l[i - acc.length]? = some o ∧ ∃ e ∈ o.after.toList, Go.Region.binds .any e = true ∧ (e.on = j ∨ ((ancs l acc).getD e.on 0).testBit j = true)
  | [], acc, i, j, hi, h => by
    simp only [ancs] at h
    rw [getD_ge hi] at h
    simp at h
  | o :: l, acc, i, j, hi, h => by
    by_cases e : i = acc.length
    · subst e
      obtain ⟨r, h1, _⟩ := ancs_prefix l (acc ++ [o.after.toList.foldl (fun s e => if Go.Region.binds .any e then s ||| 2 ^ e.on ||| acc.getD e.on 0 else s) 0])
      refine ⟨o, by simp, ?_⟩
      simp only [ancs] at h ⊢
      rw [h1] at h ⊢
      have hg : ∀ x, (acc ++ [x] ++ r).getD acc.length 0 = x := by intro x; simp [List.getD]
      rw [hg] at h
      rcases anc_fold acc j _ _ h with h | ⟨e, h2, h3, h4⟩
      · simp at h
      · refine ⟨e, h2, h3, ?_⟩
        rcases h4 with h4 | h4
        · exact .inl h4
        · right
          have hlt : e.on < acc.length := by
            rcases Nat.lt_or_ge e.on acc.length with h5 | h5
            · exact h5
            · rw [getD_ge h5] at h4; simp at h4
          have : ∀ y : List Nat, (acc ++ y).getD e.on 0 = acc.getD e.on 0 := by intro y; simp [List.getD, List.getElem?_append_left hlt]
          rw [List.append_assoc, this]; exact h4
    · simp only [ancs] at h ⊢
      obtain ⟨o', h1, h2⟩ := ancs_spec l (acc ++ [o.after.toList.foldl (fun s e => if Go.Region.binds .any e then s ||| 2 ^ e.on ||| acc.getD e.on 0 else s) 0]) i j (by simp; omega) h
      refine ⟨o', ?_, h2⟩
      have : i - acc.length = (i - (acc.length + 1)) + 1 := by omega
      rw [this, List.getElem?_cons_succ]
      simpa using h1

theorem edgesOk_spec : ∀ (l : List Go.Oper) (k : Nat), edgesOk l k = true → ∀ i o, l[i]? = some o → ∀ e ∈ o.after.toList, Go.Region.binds .any e = true → e.on < k + i
  | [], _, _, i, o, ho, _, _, _ => by simp at ho
  | x :: l, k, h, i, o, ho, e, he, hb => by
    simp only [edgesOk, Bool.and_eq_true, List.all_eq_true] at h
    cases i with
    | zero =>
      simp at ho; subst ho
      have := h.1 e he
      simp [hb] at this
      omega
    | succ i =>
      have := edgesOk_spec l (k + 1) h.2 i o (by simpa using ho) e he hb
      omega

/-- The order that the edges make. -/
def An (ops : List Go.Oper) (i j : Nat) : Prop := ((ancs ops []).getD i 0).testBit j = true

theorem An.edge {ops : List Go.Oper} {i j : Nat} (h : An ops i j) : ∃ o, ops[i]? = some o ∧ ∃ e ∈ o.after.toList, Go.Region.binds .any e = true ∧ (e.on = j ∨ An ops e.on j) := by
  have := ancs_spec ops [] i j (Nat.zero_le _) h; simp only [List.length_nil, Nat.sub_zero] at this; exact this

theorem An.lt {ops : List Go.Oper} (hok : edgesOk ops 0 = true) : ∀ (i j : Nat), An ops i j → j < i := by
  intro i
  induction i using Nat.strongRecOn with
  | _ i ih =>
    intro j h
    obtain ⟨o, h1, e, h2, h3, h4⟩ := h.edge
    have hlt := edgesOk_spec ops 0 hok i o h1 e h2 h3
    rcases h4 with h4 | h4
    · omega
    · have := ih e.on (by omega) j h4; omega

/-- A set that holds what its members' edges name holds what comes ahead of these. -/
theorem An.closed {ops : List Go.Oper} (hok : edgesOk ops 0 = true) {S : Nat → Prop} (hS : ∀ i o, S i → ops[i]? = some o → ∀ e ∈ o.after.toList, Go.Region.binds .any e = true → S e.on) : ∀ (i j : Nat), S i → An ops i j → S j := by
  intro i
  induction i using Nat.strongRecOn with
  | _ i ih =>
    intro j hi h
    obtain ⟨o, h1, e, h2, h3, h4⟩ := h.edge
    have hlt := edgesOk_spec ops 0 hok i o h1 e h2 h3
    have he := hS i o hi h1 e h2 h3
    rcases h4 with h4 | h4
    · rw [← h4]; exact he
    · exact ih e.on (by omega) j he h4

theorem An.ready {ops : List Go.Oper} (hok : edgesOk ops 0 = true) {S : Nat → Prop} (hS : ∀ i o, S i → ops[i]? = some o → ∀ e ∈ o.after.toList, Go.Region.binds .any e = true → S e.on)
    {i : Nat} {o : Go.Oper} (ho : ops[i]? = some o) (hi : ∀ e ∈ o.after.toList, Go.Region.binds .any e = true → S e.on) {j : Nat} (h : An ops i j) : S j := by
  obtain ⟨o', h1, e, h2, h3, h4⟩ := h.edge
  rw [ho] at h1; cases h1
  have he := hi e h2 h3
  rcases h4 with h4 | h4
  · rw [← h4]; exact he
  · exact An.closed hok hS e.on j he h4

/-! ## The checks -/

theorem drawOk_spec {ops : List Go.Oper} {os : List IOper} (h : drawOk (ancs ops []) os = true) {i j : Nat} {x y : IOper} (hij : i < j) (hx : os[i]? = some x) (hy : os[j]? = some y) :
    (∀ d, x.dst = some d → y.dst ≠ some d) ∧ (An ops j i ∨ pairOk x y = true) := by
  unfold drawOk at h
  rw [List.all_eq_true] at h
  have h1 := h (y, j) (List.mk_mem_zipIdx_iff_getElem?.2 hy)
  simp only [List.all_eq_true] at h1
  have h2 := h1 (x, i) (List.mk_mem_zipIdx_iff_getElem?.2 (by rw [List.getElem?_take_of_lt hij]; exact hx))
  simp only [Bool.and_eq_true, Bool.or_eq_true] at h2
  refine ⟨fun d hd hd' => ?_, h2.2⟩
  rw [hd, hd'] at h2
  simp at h2

theorem pairOk_spec {x y : IOper} (h : pairOk x y = true) : (∀ d, x.dst = some d → d ∉ y.looks) ∧ (∀ d, y.dst = some d → d ∉ x.looks) ∧ ¬(clsOf x.op = 3 ∧ clsOf y.op = 3) := by
  unfold pairOk IOper.apart at h
  simp only [Bool.and_eq_true, Bool.not_eq_true'] at h
  obtain ⟨⟨h1, h2⟩, h3⟩ := h
  refine ⟨fun d hd => ?_, fun d hd => ?_, fun ⟨a, b⟩ => ?_⟩
  · rw [hd] at h1; simp at h1; exact h1.1
  · rw [hd] at h2; simpa using h2
  · rw [a, b] at h3; simp at h3

theorem prsOf_mem {ops : List Go.Oper} {os : List IOper} {i j : Nat} {x y : IOper} (hij : i < j) (hx : os[i]? = some x) (hy : os[j]? = some y) (hn : ¬ An ops j i) :
    (clsOf x.op = 1 → clsOf y.op = 3 → (i, j) ∈ prsOf (ancs ops []) os) ∧ (clsOf y.op = 1 → clsOf x.op = 3 → (j, i) ∈ prsOf (ancs ops []) os) := by
  have hmy := List.mk_mem_zipIdx_iff_getElem?.2 hy
  have hmx : (x, i) ∈ (os.take j).zipIdx := List.mk_mem_zipIdx_iff_getElem?.2 (by rw [List.getElem?_take_of_lt hij]; exact hx)
  unfold An at hn
  refine ⟨fun h1 h2 => ?_, fun h1 h2 => ?_⟩ <;> unfold prsOf <;> refine List.mem_flatMap.2 ⟨(y, j), hmy, List.mem_filterMap.2 ⟨(x, i), hmx, ?_⟩⟩ <;> simp only [if_neg hn] <;> simp [h1, h2]

theorem matOf_an {ops : List Go.Oper} {os : List IOper} {i j : Nat} (h : (matOf (matsOf (ancs ops []) os) i).contains j = true) : An ops i j := by
  unfold matOf at h
  cases hf : (matsOf (ancs ops []) os).find? fun p => p.1 == i with
  | none => rw [hf] at h; simp at h
  | some p =>
    rw [hf] at h
    simp only [Option.map_some, Option.getD_some] at h
    have hm := List.mem_of_find?_eq_some hf
    have hp := List.find?_some hf
    obtain ⟨k, l⟩ := p
    simp at hp; subst hp
    unfold matsOf at hm
    obtain ⟨⟨y, k'⟩, h1, h2⟩ := List.mem_filterMap.1 hm
    simp only at h2
    split at h2 <;> try (cases h2; done)
    split at h2 <;> try (cases h2; done)
    cases h2
    rw [List.contains_iff_mem] at h
    obtain ⟨⟨x, i'⟩, h3, h4⟩ := List.mem_filterMap.1 h
    simp only at h4
    split at h4 <;> try (cases h4; done)
    rename_i h5
    cases h4
    simp only [Bool.and_eq_true] at h5
    exact h5.2

theorem reads_spec {C : Cfg} {o : IOper} {t : List V} {H : Heap} {v : V} (h : reads C o t H v = true) : ∃ H1, iop (fun _ _ _ => none) C 0 o.op t H = some (v, H1) := by
  unfold reads at h
  split at h <;> try (cases h; done)
  rename_i u H1 h1
  rw [V.beq_eq _ _ h] at h1
  exact ⟨H1, h1⟩

theorem floats_spec {C : Cfg} {os : List IOper} {rs : List Rec} {i j : Nat} {o : IOper} {l e : Rec} (ho : os[i]? = some o) (hl : rs[i]? = some l) (he : rs[j]? = some e) (hlw : l.w = true) (hew : e.w = true)
    (h : floats C os rs (i, j) = true) : (∃ H1, iop (fun _ _ _ => none) C 0 o.op l.t e.A = some (l.v, H1)) ∧ ∃ H1, iop (fun _ _ _ => none) C 0 o.op l.t e.A' = some (l.v, H1) := by
  unfold floats at h
  simp only [ho, hl, he, hlw, hew, Bool.and_self, if_true, Bool.and_eq_true] at h
  exact ⟨reads_spec h.1, reads_spec h.2⟩

end Im
