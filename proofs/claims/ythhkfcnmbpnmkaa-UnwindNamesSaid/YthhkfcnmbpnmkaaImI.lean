/- Each operation but calls, part 4: conversions, lengths, slice expressions, function values, interfaces. -/
import Derived.Test.YthhkfcnmbpnmkaaImH
import Derived.Laws.BytesString
namespace Im
open Go (IntKind BinOp UnOp Program World Value Addr TypeId FuncId Code Oper Operand Op TypeDesc Sem Act run_underlying)
open Go.RowKit (Below)

section
variable {E : Env} {C : Cfg} {ρ : Ren} {H : Heap} {w : World} {t : List V} {a : Act}

/-! ### Conversions -/

theorem toBytes_inv : ∀ {l : List V} {s : List UInt8}, toBytes l = some s → ∃ ns : List Int, l = ns.map (V.int .u8) ∧ s = ns.map fun n => UInt8.ofNat n.toNat
  | [], s, h => by simp [toBytes] at h; subst h; exact ⟨[], rfl, rfl⟩
  | v :: l, s, h => by
    unfold toBytes at h
    split at h
    · rename_i heq; cases heq
    · rename_i n l2 heq
      cases heq
      split at h <;> try (cases h; done)
      rename_i r hr
      cases h
      obtain ⟨ns, h1, h2⟩ := toBytes_inv hr
      exact ⟨n :: ns, by rw [h1]; rfl, by rw [h2]; rfl⟩
    · cases h

theorem bytes_rel : ∀ {ns : List Int} {l' : List Value}, VRels E ρ (ns.map (V.int .u8)) l' → l' = ns.map (Value.int .u8)
  | [], l', h => by cases h; rfl
  | n :: ns, l', h => by
    cases h
    rename_i c l' hv hl
    cases hv
    rw [bytes_rel hl]; rfl

theorem foldl_push : ∀ (ns : List Int) (acc : ByteArray), ns.foldl (fun r n => r.push (UInt8.ofNat n.toNat)) acc = ⟨acc.data ++ (ns.map fun n => UInt8.ofNat n.toNat).toArray⟩
  | [], acc => by simp
  | n :: ns, acc => by
    rw [List.foldl_cons, foldl_push ns]
    simp [ByteArray.push]

theorem bytesVals (s : List UInt8) : ∀ (ρ : Ren), VRels E ρ (s.map fun b => V.int .u8 b.toNat) (s.map fun b => Value.int .u8 b.toNat) := by
  intro ρ
  induction s with
  | nil => exact .nil
  | cons b s ih => exact .cons _ _ _ _ (.int _ _) ih

/-- Cells that hold what is related, from the first on. -/
theorem CellsRel.of_rels {l : List V} {l' : List Value} {ρ : Ren} (h : VRels E ρ l l') (c : Array Value) (hc : ∀ (i : Nat) (u : Value), l'[i]? = some u → c[i]? = some u) : CellsRel E ρ l 0 c := by
  intro i v hv
  obtain ⟨u, hu, hr⟩ := h.get i v hv
  exact ⟨u, by rw [Nat.zero_add]; exact hc i u hu, hr⟩

theorem ok_conv (hC : CfgOk E C) (ht : VRels E ρ t a.tmps.toList) (hr : Rel E ρ H.get H.next w) {o : Oper} {nid : Nat} (hn : ρ nid = none) {S D : TypeId} {x : Operand} {io : IOp} (ho : o.op = .convert S D x)
    (hx : trConv E S D x = some io) {v : V} {H' : Heap} {cf : CallF} (h : iop cf C nid io t H = some (v, H')) : Ok E ρ H w a o nid v H' := by
  unfold trConv at hx
  split at hx <;> try (cases hx; done)
  rename_i x' hx'
  have h1 := eval_sound hC ht hx'
  split at hx <;> try (cases hx; done)
  · rename_i k' k hS hD
    cases hx
    simp only [iop] at h
    cases e : eval t x' <;> rw [e] at h h1 <;> simp at h
    obtain ⟨rfl, rfl⟩ := h
    cases e1 : a.eval x <;> rw [e1] at h1 <;> cases h1
    exact .pure hr (by simp [Go.execOp, ho, Go.convert, run_underlying hS, run_underlying hD, e1, Go.Conv.intToInt]) (.int _ _)
  · rename_i hS hD
    cases hx
    simp only [iop] at h
    cases e : eval t x' <;> rw [e] at h h1 <;> simp at h
    obtain ⟨rfl, rfl⟩ := h
    cases e1 : a.eval x <;> rw [e1] at h1 <;> cases h1
    exact .pure hr (by simp [Go.execOp, ho, Go.convert, run_underlying hS, run_underlying hD, e1]) (.str _)
  · rename_i e hS hD
    split at hx <;> try (cases hx; done)
    rename_i he
    cases hx
    simp only [iop] at h
    cases e0 : eval t x' <;> rw [e0] at h h1 <;> simp at h
    · obtain ⟨rfl, rfl⟩ := h
      cases e1 : a.eval x <;> rw [e1] at h1 <;> cases h1
      exact .pure hr (c := .string ByteArray.empty) (by simp [Go.execOp, ho, Go.convert, run_underlying hS, run_underlying hD, run_underlying he, e1, Go.Conv.bytesToString]) (VRel.str (E := E) (ρ := ρ) [])
    · rename_i pa n cap
      split at h <;> try (cases h; done)
      rename_i l hl
      split at h <;> try (cases h; done)
      rename_i s hs
      simp at h; obtain ⟨rfl, rfl⟩ := h
      cases e1 : a.eval x <;> rw [e1] at h1 <;> cases h1
      rename_i cap' c ha hcap
      obtain ⟨us, k1, k2, k3⟩ := loadN_sound hC hr ha n 0 l hl
      obtain ⟨ns, m1, m2⟩ := toBytes_inv hs
      subst m1
      have m3 := bytes_rel k1
      have hload := Go.run_loadCells_list (P := E.P) w c us (fun j u hj => by simpa using k3 j u hj)
      rw [k2] at hload
      rw [m3] at hload
      have hb := Go.run_bytesToString (P := E.P) w c n cap' ns hload
      refine .pure hr (c := .string ⟨s.toArray⟩) ?_ (.str _)
      simp [Go.execOp, ho, e1, Go.run_convert_bytes_string w S D e (some c) n cap' hS he hD, hb, foldl_push, m2]
  · rename_i e hS hD
    split at hx <;> try (cases hx; done)
    rename_i he hsz
    cases hx
    simp only [iop] at h
    cases e0 : eval t x' <;> rw [e0] at h h1 <;> simp at h
    rename_i s
    obtain ⟨rfl, rfl⟩ := h
    cases e1 : a.eval x <;> rw [e1] at h1 <;> cases h1
    let cap := Go.Question.cut (.appendCap s.length 0 e) (w.tape w.drawn (.appendCap s.length 0 e))
    have hcap : s.length ≤ cap := Nat.le_add_right _ _
    let cs : Array Value := (s.map fun b => Value.int .u8 b.toNat).toArray ++ Array.replicate (cap - s.length) (.int .u8 0)
    have hcs : cs.size = cap := by simp [cs]; omega
    have hfz : ({ w with heap := w.heap.push (.cells cs e (0, 0)), drawn := w.drawn + 1 } : World).freeze ⟨w.heap.size, cap, none⟩ 1 = { w with heap := w.heap.push (.cells cs e (cap, cap + 1)), drawn := w.drawn + 1 } := by
      simp only [Go.World.freeze, Nat.one_ne_zero, if_false]
      congr 1
      apply Array.ext
      · simp
      · intro i h1 h2
        simp only [Array.getElem_modify, Array.getElem_push]
        by_cases hi : w.heap.size = i
        · subst hi; simp
        · have h3 : i < w.heap.size := by simp at h2; omega
          rw [if_neg hi, dif_pos h3, dif_pos h3]
    have hrun : (Go.convert S D (.string ⟨s.toArray⟩)).run E.P w = .ok (.slice (some ⟨w.heap.size, 0, none⟩) s.length cap)
        { w with heap := w.heap.push (.cells cs e (cap, cap + 1)), drawn := w.drawn + 1 } := by
      have hq : (Go.Question.appendCap s.length 0 e).forced = false := rfl
      have hel : (s.toArray.map fun b => Value.int .u8 b.toNat) ++ Array.replicate (cap - s.length) (.int .u8 0) = cs := by simp [cs]
      simp only [Go.convert, Sem.run_bind, run_underlying hS, run_underlying hD, run_underlying he, Go.Result.andThen_ok, Go.Conv.stringToBytes, bytes_size, Go.run_choose, hq, Bool.false_eq_true, if_false]
      show ((Go.newRow e ((s.toArray.map fun b => Value.int .u8 b.toNat) ++ Array.replicate (cap - s.length) (.int .u8 0))).run E.P w.drew).andThen _ = _
      rw [hel]
      simp only [Go.newRow, Sem.run_bind, Go.run_newObj, Go.Result.andThen_ok, Sem.run_pure, Go.markStringish, Go.run_shape, Go.World.shape?, Go.World.drew, Array.getElem?_push_size, Go.run_freeze, hcs]
      rw [hfz]
    refine ⟨.slice (some ⟨w.heap.size, 0, none⟩) s.length cap, { w with heap := w.heap.push (.cells cs e (cap, cap + 1)), drawn := w.drawn + 1 }, ρ.upd nid (w.heap.size, 0, cap), .inl (by simp [Go.execOp, ho, e1, hrun]), ?_, Heap.put_get H nid _ ▸ Post.new hr nid cap (.cells (E.tm e) (s.map fun b => .int .u8 b.toNat)) (.cells cs e (cap, cap + 1)) hn (Heap.id_lt_put H nid (.cells (E.tm e) (s.map fun b => .int .u8 b.toNat))) (Heap.next_le_put _ _ _) ?_ _⟩
    · exact .slice _ _ _ _ _ ⟨_, _, _, Ren.upd_self _ _ _, by simp⟩ ⟨rfl, _, _, _, Ren.upd_self _ _ _, by simp, hcap⟩
    · refine ⟨cs, e, cap, cap + 1, rfl, rfl, by simpa using hcap, by omega, by intro i _ h2; omega, ?_⟩
      refine CellsRel.of_rels (bytesVals s _) cs ?_
      intro i u hu
      simp only [cs]
      rw [Array.getElem?_append_left]
      · simpa using hu
      · rw [List.getElem?_eq_some_iff] at hu; obtain ⟨h, _⟩ := hu; simpa using h
end
end Im
