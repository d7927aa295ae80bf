/- Each operation but calls, part 7: append, copy, clear, make, maps, lengths. -/
import Derived.Test.YthhkfcnmbpnmkaaImK
namespace Im
open Go (IntKind BinOp UnOp Program World Value Addr TypeId FuncId Code Oper Operand Op TypeDesc Sem Act run_underlying)
open Go.RowKit (Below)

section
variable {E : Env} {C : Cfg} {ρ : Ren} {H : Heap} {w : World} {t : List V} {a : Act}

theorem byteCells_rel (s : List UInt8) : Go.byteCells ⟨s.toArray⟩ = s.map fun b => Value.int .u8 b.toNat := by simp [Go.byteCells]

theorem byteV_one (s : List UInt8) : ∀ u ∈ (s.map fun b => Value.int .u8 b.toNat), u.oneCell' = true := by
  intro u hu
  obtain ⟨b, _, rfl⟩ := List.mem_map.1 hu
  rfl

/-- The type of what is appended. -/
def srcTy (E : Env) (s : Bool) (tx : TypeId) : Prop := if s then E.P.underlying tx = some .string else ∃ e', E.P.underlying tx = some (.slice e')

theorem srcTy_or {s : Bool} {tx : TypeId} (h : srcTy E s tx) : (∃ e', E.P.underlying tx = some (.slice e')) ∨ E.P.underlying tx = some .string := by
  unfold srcTy at h
  cases s
  · exact .inl (by simpa using h)
  · exact .inr (by simpa using h)

/-- What is appended, in the model's words. -/
theorem src_sound (hC : CfgOk E C) (hr : Rel E ρ H.get H.next w) {size : Nat} {tx : TypeId} {s : Bool} {y : V} {c : Value} {new : List V} {n : Nat}
    (hy : VRel E ρ y c) (h : srcCells C H s size y = some (new, n)) (hk : srcTy E s tx) :
    ∃ us, Go.Src E.P size tx c n us w ∧ VRels E ρ new us ∧ new.length = n * size := by
  unfold srcCells at h
  split at h
  · cases h
    cases hy
    obtain ⟨e', hk⟩ : ∃ e', E.P.underlying tx = some (.slice e') := by simpa [srcTy] using hk
    exact ⟨[], Go.Src.ofNil w hk 0, .nil, by simp⟩
  · rename_i pa m cap
    split at h <;> try (cases h; done)
    rename_i l hl
    split at h <;> try (cases h; done)
    rename_i hone
    cases h
    cases hy
    rename_i cap' ca ha hc
    obtain ⟨e', hk⟩ : ∃ e', E.P.underlying tx = some (.slice e') := by simpa [srcTy] using hk
    obtain ⟨us, k1, k2, k3⟩ := loadN_sound hC hr ha _ 0 _ hl
    exact ⟨us, Go.Src.ofSlice w hk _ n _ us k2 (fun j u hj => by simpa using k3 j u hj) (ones k1 hone), k1, by rw [k1.length, k2]⟩
  · rename_i s
    split at h <;> try (cases h; done)
    rename_i h1
    cases h
    cases hy
    subst h1
    have hk : E.P.underlying tx = some .string := by simpa [srcTy] using hk
    have := Go.Src.ofString (P := E.P) w hk ⟨s.toArray⟩
    rw [bytes_size, byteCells_rel] at this
    exact ⟨_, this, bytesVals s ρ, by simp⟩
  · cases h

theorem zeroCells_size (z : Array Value) (n : Nat) : (Go.Builtin.zeroCells z n).size = n * z.size := by simp [Go.Builtin.zeroCells]

/-- What an operation leaves, from a heap of its own. -/
def OkAt (E : Env) (ρ : Ren) (H1 : Heap) (w : World) (a : Act) (o : Oper) (nid : Nat) (v : V) (H' : Heap) : Prop := Ok E ρ H1 w a o nid v H'

theorem zero_of {e : TypeId} {i : Go.TypeInfo} {size : Nat} (hi : E.P.info? e = some i) (hz : (zeroV E.P e).map (·.cells.length) = some size) : ∃ z, i.zero = some z ∧ z.cells.size = size := by
  simp only [Option.map_eq_some_iff] at hz
  obtain ⟨v, hv, hl⟩ := hz
  unfold zeroV at hv
  rw [hi] at hv
  split at hv <;> try (cases hv; done)
  rename_i c hc
  have hc' := Option.some.inj hc
  subst hc'
  split at hv <;> try (cases hv; done)
  rename_i z hz
  have hr := (trV_rel (E := E) (ρ := fun _ => none) hv).cells.length
  exact ⟨z, hz, by simp at hr; omega⟩

/-- The arm of append that makes a new array. -/
theorem app_grow {o : Oper} {nid : Nat} {H1 : Heap} (hr : Rel E ρ H1.get H1.next w) (hn : ρ nid = none) {T tx e : TypeId} {i : Go.TypeInfo} {size : Nat} (hT : E.P.underlying T = some (.slice e)) (hi : E.P.info? e = some i)
    (hz : (zeroV E.P e).map (·.cells.length) = some size) (hsz : i.size = size) (hb0 : i.bytes ≤ 1024) {x y : Operand} (ho : o.op = .call { callee := .builtin .append, args := #[x, y], argTypes := #[T, tx] })
    {base : Option Addr} {sLen sCap : Nat} (hx : a.eval x = .slice base sLen sCap)
    {olds : List Value} {old : List V} (hold : (Go.Builtin.firstCells i.size sLen (.slice base sLen sCap)).run E.P w.drew = .ok olds.toArray w.drew) (hor : VRels E ρ old olds) (holl : old.length = sLen * size)
    {news : List Value} {new : List V} {n : Nat} (hs : Go.Src E.P i.size tx (a.eval y) n news w) (hnr : VRels E ρ new news) (hnl : new.length = n * size) (hg : sCap < sLen + n) (hlim : sLen + n ≤ 68719476736) :
    Ok E ρ H1 w a o nid (.slice ⟨.own, nid, 0⟩ (sLen + n) (.un size)) (H1.put nid (.cells (E.tm e) (old ++ new))) := by
  obtain ⟨z, hz, hzs⟩ := zero_of hi hz
  have hfit := Go.growslice_fits (need := sLen + n) (old := sCap) (bytes := i.bytes) hg (Nat.le_trans (Nat.mul_le_mul hlim hb0) (by decide))
  have hrun := Go.run_append_grow_src (P := E.P) w T tx o.type e i z hT hi hz base sLen sCap olds hold _ n news hs hg (by omega) hfit
  have hcap := Go.grownCap_ge w (sLen + n) sCap e
  generalize Go.grownCap w (sLen + n) sCap e = gc at hrun hcap
  let cs : Array Value := (olds ++ news).toArray ++ Go.Builtin.zeroCells z.cells (gc - (sLen + n))
  have hol := hor.length
  have hnel := hnr.length
  have hcs : cs.size = gc * size := by
    simp only [cs, Array.size_append, zeroCells_size, hzs, List.size_toArray, List.length_append]
    rw [← hol, ← hnel, holl, hnl, ← Nat.add_mul, ← Nat.add_mul]
    congr 1; omega
  have hle : (sLen + n) * size ≤ gc * size := Nat.mul_le_mul_right _ hcap
  have hx1 := Ren.upd_ext ρ nid (w.heap.size, 0, cs.size) hn
  refine ⟨.slice (some ⟨w.heap.size, 0, none⟩) (sLen + n) gc, { w with heap := w.heap.push (.cells cs e (0, 0)), drawn := w.drawn + 1 }, ρ.upd nid (w.heap.size, 0, cs.size), .inl ?_,
    .slice _ _ _ _ _ ⟨_, _, _, Ren.upd_self _ _ _, by simp⟩ ⟨rfl, _, _, _, Ren.upd_self _ _ _, by simp [hcs], hcap⟩, ?_⟩
  · simp [Go.execOp, ho, Go.resolve, Go.invoke, Go.builtin, hx, hrun]; rfl
  · rw [Heap.put_get]
    refine Post.new hr nid cs.size (.cells (E.tm e) (old ++ new)) (.cells cs e (0, 0)) hn (Heap.id_lt_put _ _ _) (Heap.next_le_put _ _ _)
      ⟨cs, e, 0, 0, rfl, rfl, ?_, by simp, by intro i _ _; omega, ?_⟩ _
    · rw [hcs, List.length_append, holl, hnl, ← Nat.add_mul]; exact hle
    · refine CellsRel.of_rels ((hor.append hnr).ext hx1) cs ?_
      intro j u hu
      simp only [cs]
      rw [Array.getElem?_append_left]
      · simpa using hu
      · rw [List.getElem?_eq_some_iff] at hu; obtain ⟨h, _⟩ := hu; simpa using h

/-- The old cells, in the model's words. -/
theorem old_sound (hC : CfgOk E C) {H1 : Heap} (hr : Rel E ρ H.get H.next w) {pa : PA} {c : Addr} (ha : ARel E ρ pa c) {len cap size : Nat} {old : List V} (h : H.loadN C pa 0 (len * size) = some old) :
    ∃ olds, (Go.Builtin.firstCells size len (.slice (some c) len cap)).run E.P w.drew = .ok olds.toArray w.drew ∧ VRels E ρ old olds ∧ old.length = len * size ∧ ∀ j u, olds[j]? = some u → w.cell? (c.add j) = some u := by
  obtain ⟨us, k1, k2, k3⟩ := loadN_sound hC hr ha _ 0 _ h
  refine ⟨us, Go.run_firstCells_some w.drew size len c len cap us k2 (fun j u hj => by simpa using k3 j u hj), k1, by rw [k1.length, k2], fun j u hj => by simpa using k3 j u hj⟩

/-- The arm of append that writes into the room that is there: the block goes on under the new number. -/
theorem app_room {o : Oper} {nid : Nat} (hr : Rel E ρ H.get H.next w) (hn : ρ nid = none) {T tx e : TypeId} {i : Go.TypeInfo} {size : Nat} (hT : E.P.underlying T = some (.slice e)) (hi : E.P.info? e = some i)
    (hsz : i.size = size) {x y : Operand} (ho : o.op = .call { callee := .builtin .append, args := #[x, y], argTypes := #[T, tx] }) {ca : Addr} {len cn : Nat} (hv' : a.eval x = .slice (some ca) len cn)
    {pa : PA} {ty' : Nat} {lold : List V} (hobj : H.get pa.b = some (.cells ty' lold)) (hty : ty' = E.tm e) (ha : ARel E ρ pa ca) (hc : CRel ρ pa len (.un size) cn)
    {olds : List Value} {old : List V} (k2 : VRels E ρ old olds) (k3 : old.length = len * size) (k4 : ∀ j u, olds[j]? = some u → w.cell? (ca.add j) = some u)
    {news : List Value} {new : List V} {n : Nat} (hs : Go.Src E.P i.size tx (a.eval y) n news w) (hnr : VRels E ρ new news) (hnl : new.length = n * size) (hroom : len + n ≤ cn) :
    Ok E ρ H w a o nid (.slice ⟨.own, nid, 0⟩ (len + n) (.un size)) ((H.del pa.b).put nid (.cells (E.tm e) (old ++ new))) := by
  obtain ⟨hown, b, off, tot, hρ, htot, hle⟩ := hc
  obtain ⟨b', x0, t0, e1, hN, cs, el, lo, hi', e2, e3, e4, e5, e6, e7⟩ := hr.obj _ _ hobj
  rw [hρ] at e1; cases e1
  have hca : ca = ⟨b, off + pa.off, none⟩ := by
    unfold ARel at ha; rw [hown] at ha; simp only at ha
    obtain ⟨b1, o1, t1, q1, q2⟩ := ha
    rw [hρ] at q1; cases q1; exact q2
  subst hca
  have hnl' := hs.newsLen
  rw [hsz] at hnl'
  have hmul : len * size + n * size ≤ cn * size := by rw [← Nat.add_mul]; exact Nat.mul_le_mul_right _ hroom
  have hrun := Go.run_append_room_src (P := E.P) w T tx o.type e i hT hi b (off + pa.off) len cn _ n news hs hroom
    (by intro j hj; rw [hsz]; simp only [World.cell?, e2]; rw [Option.isSome_iff_exists]; exact ⟨_, by simp; exact Array.getElem?_eq_getElem (by omega)⟩)
    (by intro j hj; rw [hsz]; simp only [World.frozen?, e2]
        have := e6 (off + pa.off + len * size + j) (by omega) (by omega)
        simp only [Bool.and_eq_false_iff, decide_eq_false_iff_not]
        omega)
  rw [hsz] at hrun
  obtain ⟨q1, q2, q3, q4, q5, q6⟩ := heap_setCells b el (lo, hi') news (off + pa.off + len * size) cs w e2
  have hx1 := Ren.upd_ext ρ nid (b, off + pa.off, cn * size) hn
  have hR : (Go.execOp a.eval o).run E.P w = .ok (.value (.slice (some ⟨b, off + pa.off, none⟩) (len + n) cn)) (w.setCells b (off + pa.off + len * size) news) := by
    simp only [Go.execOp, ho, Go.resolve, Sem.run_bind, Sem.run_pure, Go.Result.andThen_ok, Go.invoke, Go.builtin, List.map_toArray, List.map_cons, List.map_nil, hv', hrun]
  refine ⟨.slice (some ⟨b, off + pa.off, none⟩) (len + n) cn, w.setCells b (off + pa.off + len * size) news, ρ.upd nid (b, off + pa.off, cn * size), .inl hR,
    .slice _ _ _ _ _ ⟨_, _, _, Ren.upd_self _ _ _, by simp⟩ ⟨rfl, _, _, _, Ren.upd_self _ _ _, by simp, hroom⟩, ?_⟩
  rw [Heap.put_get, Heap.del_get]
  have hol := k2.length
  have hnel := hnr.length
  refine Post.rename hr hobj hρ nid hn (Heap.id_lt_put _ _ _) (Heap.next_le_put (H.del pa.b) _ _) (.cells (E.tm e) (old ++ new)) _ _ (.cells (laid cs (off + pa.off + len * size) news) el (lo, hi')) ?_ _ ⟨q4, q5, q6⟩ q3 q1 q2
  refine ⟨_, el, lo, hi', rfl, by rw [e3]; exact hty, by rw [List.length_append, k3, hnl]; exact hmul, by rw [laid_size]; omega, fun j h1 h2 => e6 j (by omega) (by omega), ?_⟩
  intro j v hv
  rw [laid_get _ _ _ _ (by omega)]
  by_cases hj : j < old.length
  · rw [List.getElem?_append_left hj] at hv
    rw [if_neg (by omega)]
    obtain ⟨u, hu, hur⟩ := k2.get _ _ hv
    have := k4 j u hu
    rw [addr_add] at this
    simp only [World.cell?, e2] at this
    exact ⟨u, by simpa using this, hur.ext hx1⟩
  · rw [List.getElem?_append_right (by omega)] at hv
    have hjl : j - old.length < new.length := by
      rw [List.getElem?_eq_some_iff] at hv; obtain ⟨q, _⟩ := hv; exact q
    rw [if_pos (by omega)]
    obtain ⟨u, hu, hur⟩ := hnr.get _ _ hv
    exact ⟨u, by rw [← hu]; congr 1; omega, hur.ext hx1⟩

theorem ok_app (hC : CfgOk E C) (ht : VRels E ρ t a.tmps.toList) (hr : Rel E ρ H.get H.next w) {o : Oper} {nid : Nat} (hn : ρ nid = none) {T tx e : TypeId} {i : Go.TypeInfo} {size : Nat} (hT : E.P.underlying T = some (.slice e)) (hi : E.P.info? e = some i)
    (hz : (zeroV E.P e).map (·.cells.length) = some size) (hsz : i.size = size) (hs0 : 0 < size) (hb0 : i.bytes ≤ 1024) {x y : Operand} {x' y' : Opd} (ho : o.op = .call { callee := .builtin .append, args := #[x, y], argTypes := #[T, tx] })
    (hx : trOpd E x = some x') (hy : trOpd E y = some y') {s : Bool} (hst : srcTy E s tx)
    {v : V} {H' : Heap} {cf : CallF} (h : iop cf C nid (.app s (E.tm e) size x' y') t H = some (v, H')) : Ok E ρ H w a o nid v H' := by
  have hv := eval_sound hC ht hx
  have hw := eval_sound hC ht hy
  simp only [iop] at h
  unfold iapp at h
  split at h <;> try (cases h; done)
  rename_i new n hsrc
  have hk := srcTy_or hst
  obtain ⟨news, hs, hnr, hnl⟩ := src_sound (size := size) hC hr hw hsrc hst
  rw [← hsz] at hs
  split at h
  · rename_i e0
    rw [e0] at hv
    cases hv' : a.eval x <;> rw [hv'] at hv <;> cases hv
    split at h
    · rename_i hn0
      subst hn0
      cases h
      have hnil : news = [] := by
        have := hs.newsLen; simp at this; exact this
      refine .pure hr (c := .slice none 0 0) ?_ .nils
      have hf : (Go.Builtin.firstCells i.size 0 (a.eval y)).run E.P w = .ok #[] w := by have := hs.cells; rw [hnil] at this; simpa using this
      rcases hk with ⟨e', hk⟩ | hk <;> simp [Go.execOp, ho, Go.resolve, Go.invoke, Go.builtin, hv', Go.Builtin.append_, run_underlying hT, run_underlying hk, Go.sizeOf, Go.typeInfo, hi, hs.len, hf]
    · rename_i hn0
      split at h <;> try (cases h; done)
      rename_i hlim
      cases h
      have := app_grow (E := E) (a := a) hr hn hT hi hz hsz hb0 ho hv' (olds := []) (old := []) (Go.run_firstCells_none w.drew i.size 0 0 0) .nil (by simp) hs hnr hnl (by omega) (by omega)
      simpa using this
  · rename_i pa len c e0
    rw [e0] at hv
    cases hv' : a.eval x <;> rw [hv'] at hv <;> cases hv
    rename_i c0 ca ha hc
    simp only [CRel] at hc
    subst hc
    split at h
    · rename_i hroom
      split at h <;> try (cases h; done)
      rename_i H2 hst
      cases h
      obtain ⟨w', hrun, hp⟩ := storeN_sound (S := (· = nid)) hr (ha.add (len * size)) hnr hst
      refine ⟨.slice (some ca) (len + n) c0, w', ρ, .inl ?_, .slice _ _ _ _ _ ha rfl, hp⟩
      have hl : ∀ w, (Go.Builtin.lenOf (a.eval y)).run E.P w = .ok n w := hs.len
      have hcl : (Go.Builtin.firstCells size n (a.eval y)).run E.P w = .ok news.toArray w := by rw [← hsz]; exact hs.cells
      rcases hk with ⟨e', hk⟩ | hk <;>
        simp [Go.execOp, ho, Go.resolve, Go.invoke, Go.builtin, hv', Go.Builtin.append_, run_underlying hT, run_underlying hk, Go.sizeOf, Go.typeInfo, hi, hl, hroom, hcl, hsz, hrun]
    · rename_i hroom
      split at h <;> try (cases h; done)
      rename_i hlim
      split at h <;> try (cases h; done)
      rename_i old hold
      cases h
      obtain ⟨olds, k1, k2, k3, _⟩ := old_sound (H1 := H) (cap := c0) hC hr ha hold
      rw [← hsz] at k1
      exact app_grow (E := E) (a := a) hr hn hT hi hz hsz hb0 ho hv' k1 k2 k3 hs hnr hnl (by omega) (by omega)
  · rename_i pa len e' e0
    rw [e0] at hv
    cases hv' : a.eval x <;> rw [hv'] at hv <;> cases hv
    rename_i cn ca ha hc
    have hc0 := hc
    obtain ⟨hown, b, off, tot, hρ, htot, hle⟩ := hc
    split at h
    · rename_i hn0
      subst hn0
      cases h
      have hnil : news = [] := by
        have := hs.newsLen; simp at this; exact this
      rw [e0]
      refine .pure hr (c := .slice (some ca) len cn) ?_ (.slice _ _ _ _ _ ha hc0)
      have hf : (Go.Builtin.firstCells i.size 0 (a.eval y)).run E.P w = .ok #[] w := by have := hs.cells; rw [hnil] at this; simpa using this
      rcases hk with ⟨e', hk⟩ | hk <;> simp [Go.execOp, ho, Go.resolve, Go.invoke, Go.builtin, hv', Go.Builtin.append_, run_underlying hT, run_underlying hk, Go.sizeOf, Go.typeInfo, hi, hs.len, hf, hle, Go.storeCells]
    · rename_i hn0
      split at h <;> try (cases h; done)
      rename_i hcond
      have he : size = e' := by
        rcases Nat.decEq size e' with k | k
        · exact absurd (Or.inl k) hcond
        · exact k
      subst he
      have hlim : len + n ≤ 68719476736 := by
        rcases Nat.lt_or_ge 68719476736 (len + n) with k | k
        · exact absurd (Or.inr k) hcond
        · exact k
      split at h <;> try (cases h; done)
      rename_i ty' lold old hreg hobj hold
      split at h <;> try (cases h; done)
      rename_i hty
      cases h
      obtain ⟨olds, k1, k2, k3, k4⟩ := old_sound (H1 := H) (cap := cn) hC hr ha hold
      rw [← hsz] at k1
      have hdrop : Post E (· = nid) ρ H.get H.next w ρ (H.del pa.b).get (H.del pa.b).next w := by
        rw [Heap.del_get]; exact Post.drop hr pa.b
      by_cases hroom : len + n ≤ cn
      · exact app_room hr hn hT hi hsz ho hv' hobj (Decidable.not_not.1 hty) ha hc0 k2 k3 k4 hs hnr hnl hroom
      · obtain ⟨c, w', ρ', h1, h2, h3⟩ := app_grow (E := E) (a := a) hdrop.rel hn hT hi hz hsz hb0 ho hv' k1 k2 k3 hs hnr hnl (by omega) hlim
        exact ⟨c, w', ρ', h1, h2, hdrop.trans h3⟩
  · cases h

end
end Im
