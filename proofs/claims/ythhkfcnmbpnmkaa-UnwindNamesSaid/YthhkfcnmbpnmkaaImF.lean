/- Each operation but calls: what the ideal machine answers, the model's answers. Part 1: operands, cells, what only computes. -/
import Derived.Test.YthhkfcnmbpnmkaaImE
import Derived.Laws.IdiomCopy
namespace Im
open Go (IntKind BinOp UnOp Program World Value Addr TypeId FuncId Code Oper Operand Op TypeDesc Sem Act run_underlying)
open Go.RowKit (Below)

/-- The cells of a row behind a store of some. -/
def laid (c : Array Value) (o : Nat) : List Value → Array Value
  | [] => c
  | v :: vs => laid (c.setIfInBounds o v) (o + 1) vs

theorem laid_size : ∀ (vs : List Value) (c : Array Value) (o : Nat), (laid c o vs).size = c.size
  | [], _, _ => rfl
  | v :: vs, c, o => by simp [laid, laid_size vs]

theorem laid_get : ∀ (vs : List Value) (c : Array Value) (o k : Nat), o + vs.length ≤ c.size →
    (laid c o vs)[k]? = if o ≤ k ∧ k < o + vs.length then vs[k - o]? else c[k]?
  | [], c, o, k, h => by simp [laid]; omega
  | v :: vs, c, o, k, h => by
    simp only [laid]
    simp only [List.length_cons] at h ⊢
    rw [laid_get vs _ _ _ (by simp; omega)]
    by_cases h1 : o + 1 ≤ k ∧ k < o + 1 + vs.length
    · rw [if_pos h1, if_pos (by omega)]
      obtain ⟨j, rfl⟩ : ∃ j, k = o + 1 + j := ⟨k - (o + 1), by omega⟩
      have e1 : o + 1 + j - (o + 1) = j := by omega
      have e2 : o + 1 + j - o = j + 1 := by omega
      rw [e1, e2]; simp
    · rw [if_neg h1]
      by_cases h2 : k = o
      · subst h2
        rw [if_pos (by omega)]
        simp only [Nat.sub_self, List.getElem?_cons_zero]
        rw [Array.getElem?_setIfInBounds_self_of_lt (by omega)]
      · rw [if_neg (by omega), Array.getElem?_setIfInBounds_ne (by omega)]

theorem heap_setCells (b : Nat) (e : TypeId) (fz : Nat × Nat) : ∀ (vs : List Value) (o : Nat) (c : Array Value) (w : World), w.heap[b]? = some (.cells c e fz) →
    (w.setCells b o vs).heap[b]? = some (.cells (laid c o vs) e fz) ∧ (∀ k, k ≠ b → (w.setCells b o vs).heap[k]? = w.heap[k]?) ∧ (w.setCells b o vs).heap.size = w.heap.size ∧
    (w.setCells b o vs).os = w.os ∧ (w.setCells b o vs).tape = w.tape ∧ (w.setCells b o vs).output = w.output
  | [], o, c, w, h => ⟨h, fun _ _ => rfl, rfl, rfl, rfl, rfl⟩
  | v :: vs, o, c, w, h => by
    have h1 : (w.setCell ⟨b, o, none⟩ v).heap[b]? = some (.cells (c.setIfInBounds o v) e fz) := by
      simp [World.setCell, Array.getElem?_modify, h]
    obtain ⟨k1, k2, k3, k4, k5, k6⟩ := heap_setCells b e fz vs (o + 1) _ _ h1
    refine ⟨k1, fun k hk => ?_, ?_, k4, k5, k6⟩
    · rw [World.setCells, k2 k hk]
      simp only [World.setCell, Array.getElem?_modify]
      rw [if_neg (by exact fun h => hk h.symm)]
    · rw [World.setCells, k3]; simp [World.setCell]

section
variable {E : Env} {C : Cfg} {ρ : Ren} {H : Heap} {w : World} {t : List V} {a : Act}

theorem eval_sound (hC : CfgOk E C) (ht : VRels E ρ t a.tmps.toList) {x : Operand} {y : Opd} (h : trOpd E x = some y) : VRel E ρ (eval t y) (a.eval x) := by
  cases x with
  | tmp i =>
    simp [trOpd] at h; subst h
    simp only [eval, Act.eval, Array.getD_eq_getD_getElem?]
    cases hi : t[i]? with
    | none =>
      have hl := ht.length
      have : a.tmps[i]? = none := by
        rw [List.getElem?_eq_none_iff] at hi
        rw [Array.getElem?_eq_none_iff]
        simp at hl; omega
      simp [this]; exact .undef
    | some v =>
      obtain ⟨c, hc, hv⟩ := ht.get i v hi
      simp at hc
      simp [hc, hv]
  | const c =>
    simp only [trOpd, Option.map_eq_some_iff] at h
    obtain ⟨v, hv, rfl⟩ := h
    exact trV_rel hv
  | global g =>
    simp only [trOpd, Option.map_eq_some_iff] at h
    obtain ⟨m, hm, rfl⟩ := h
    exact .ptr _ _ ⟨g, hm, hC.gm g m hm, rfl⟩
  | func f =>
    simp only [trOpd, Option.map_eq_some_iff] at h
    obtain ⟨m, hm, rfl⟩ := h
    exact .fn m f [] [] [] [] hm .nil .nil

theorem evals_sound (hC : CfgOk E C) (ht : VRels E ρ t a.tmps.toList) : ∀ {xs : List Operand} {ys : List Opd}, trOpds E xs = some ys → VRels E ρ (ys.map (eval t)) (xs.map a.eval)
  | [], ys, h => by simp [trOpds] at h; subst h; exact .nil
  | x :: xs, ys, h => by
    unfold trOpds at h
    split at h
    · rename_i y ys' h1 h2; cases h
      exact .cons _ _ _ _ (eval_sound hC ht h1) (evals_sound hC ht h2)
    · cases h

theorem evalO_sound (hC : CfgOk E C) (ht : VRels E ρ t a.tmps.toList) {x : Option Operand} {y : Option Opd} (h : trOpdO E x = some y) :
    (x = none ∧ y = none ∧ evalO t y = none) ∨ (∃ x' y', x = some x' ∧ y = some y' ∧ evalO t y = some (eval t y') ∧ VRel E ρ (eval t y') (a.eval x')) := by
  cases x with
  | none => simp [trOpdO] at h; subst h; exact .inl ⟨rfl, rfl, rfl⟩
  | some x =>
    simp only [trOpdO, Option.map_eq_some_iff] at h
    obtain ⟨y', h1, rfl⟩ := h
    exact .inr ⟨x, y', rfl, rfl, rfl, eval_sound hC ht h1⟩

/-- The model carries the operation out: the value c, or none ('undef'). -/
def Runs (E : Env) (o : Oper) (a : Act) (w : World) (c : Value) (w' : World) : Prop :=
  (Go.execOp a.eval o).run E.P w = .ok (.value c) w' ∨ ((Go.execOp a.eval o).run E.P w = .ok .skip w' ∧ c = Go.undef)

def Ok (E : Env) (ρ : Ren) (H : Heap) (w : World) (a : Act) (o : Oper) (nid : Nat) (v : V) (H' : Heap) : Prop :=
  ∃ c w' ρ', Runs E o a w c w' ∧ VRel E ρ' v c ∧ Post E (· = nid) ρ H.get H.next w ρ' H'.get H'.next w'

theorem Ok.pure {o : Oper} {nid : Nat} {v : V} {c : Value} (hr : Rel E ρ H.get H.next w) (h : (Go.execOp a.eval o).run E.P w = .ok (.value c) w) (hv : VRel E ρ v c) : Ok E ρ H w a o nid v H :=
  ⟨c, w, ρ, .inl h, hv, .refl hr⟩

/-! ### What only computes -/

theorem ok_mv (hC : CfgOk E C) (ht : VRels E ρ t a.tmps.toList) (hr : Rel E ρ H.get H.next w) {o : Oper} {nid : Nat} {x : Operand} {y : Opd} (ho : o.op = .move x ∨ o.op = .assign x) (hx : trOpd E x = some y) :
    Ok E ρ H w a o nid (eval t y) H := by
  refine .pure hr (c := a.eval x) ?_ (eval_sound hC ht hx)
  rcases ho with ho | ho <;> simp [Go.execOp, ho]

theorem ok_pick (hC : CfgOk E C) (ht : VRels E ρ t a.tmps.toList) (hr : Rel E ρ H.get H.next w) {o : Oper} {nid : Nat} {x y z : Operand} {x' y' z' : Opd} (ho : o.op = .pick x y z) (hx : trOpd E x = some x')
    (hy : trOpd E y = some y') (hz : trOpd E z = some z') {v : V} {H' : Heap} {cf : CallF} (h : iop cf C nid (.pick x' y' z') t H = some (v, H')) : Ok E ρ H w a o nid v H' := by
  have hv := eval_sound hC ht hx
  simp only [iop] at h
  cases e : eval t x' with
  | bool b =>
    rw [e] at h hv
    cases hv' : a.eval x <;> rw [hv'] at hv <;> cases hv
    cases b <;> simp at h
    · obtain ⟨rfl, rfl⟩ := h
      exact .pure hr (by simp [Go.execOp, ho, hv', Go.asBool]) (eval_sound hC ht hz)
    · obtain ⟨rfl, rfl⟩ := h
      exact .pure hr (by simp [Go.execOp, ho, hv', Go.asBool]) (eval_sound hC ht hy)
  | _ => rw [e] at h; simp at h

theorem ok_nilck (hC : CfgOk E C) (ht : VRels E ρ t a.tmps.toList) (hr : Rel E ρ H.get H.next w) {o : Oper} {nid : Nat} {x : Operand} {x' : Opd} (ho : o.op = .nilCheck x) (hx : trOpd E x = some x')
    {v : V} {H' : Heap} {cf : CallF} (h : iop cf C nid (.nilck x') t H = some (v, H')) : Ok E ρ H w a o nid v H' := by
  have hv := eval_sound hC ht hx
  simp only [iop] at h
  cases e : eval t x' <;> rw [e] at h hv <;> simp at h
  all_goals
    obtain ⟨rfl, rfl⟩ := h
    refine .pure hr (c := a.eval x) ?_ hv
    cases hv' : a.eval x <;> rw [hv'] at hv <;> cases hv
    simp [Go.execOp, ho, hv']

theorem ok_ext (hC : CfgOk E C) (ht : VRels E ρ t a.tmps.toList) (hr : Rel E ρ H.get H.next w) {o : Oper} {nid i : Nat} {x : Operand} {x' : Opd} (ho : o.op = .extract x i) (hx : trOpd E x = some x')
    {v : V} {H' : Heap} {cf : CallF} (h : iop cf C nid (.ext i x') t H = some (v, H')) : Ok E ρ H w a o nid v H' := by
  have hv := eval_sound hC ht hx
  simp only [iop] at h
  cases e : eval t x' <;> rw [e] at h hv <;> simp at h
  rename_i l
  split at h
  · rename_i u hu
    simp at h; obtain ⟨rfl, rfl⟩ := h
    cases hv' : a.eval x <;> rw [hv'] at hv <;> cases hv
    rename_i l' hl
    obtain ⟨c, hc, hcv⟩ := hl.get i _ hu
    exact .pure hr (c := c) (by simp [Go.execOp, ho, hv', Go.Instr.extract, hc]) hcv
  · cases h

theorem isAgg_run {t : TypeId} {d : TypeDesc} (h : E.P.underlying t = some d) (w : World) : (Go.isAgg t).run E.P w = .ok (isAgg E.P t) w := by
  simp only [Go.isAgg, Sem.run_bind, run_underlying h, Go.Result.andThen_ok, isAgg, h]
  cases d <;> rfl

theorem sizeOf_run {t : TypeId} {n : Nat} (h : szOf E.P t = some n) (w : World) : (Go.sizeOf t).run E.P w = .ok n w := by
  simp only [szOf, Option.map_eq_some_iff] at h
  obtain ⟨i, hi, rfl⟩ := h
  simp [Go.sizeOf, Go.typeInfo, hi]

theorem part_run_one {t : TypeId} {d : TypeDesc} (h : E.P.underlying t = some d) (hg : isAgg E.P t = false) (cs : Array Value) (off : Nat) (c : Value) (hc : cs[off]? = some c) (w : World) :
    (Go.part t cs off).run E.P w = .ok c w := by
  simp [Go.part, isAgg_run h, hg, hc]

theorem part_run_agg {t : TypeId} {d : TypeDesc} {n : Nat} (h : E.P.underlying t = some d) (hn : szOf E.P t = some n) (hg : isAgg E.P t = true) (cs : Array Value) (off : Nat) (w : World) :
    (Go.part t cs off).run E.P w = .ok (.agg (cs.extract off (off + n))) w := by
  simp [Go.part, isAgg_run h, hg, sizeOf_run hn]

theorem extract_rel {l : List V} {l' : List Value} (h : VRels E ρ l l') (off n : Nat) : VRel E ρ (.agg ((l.drop off).take n)) (.agg (l'.toArray.extract off (off + n))) := by
  have : l'.toArray.extract off (off + n) = ((l'.drop off).take n).toArray := by
    apply Array.ext'
    simp
  rw [this]
  exact .agg _ _ ((h.drop off).take n)

theorem ok_field (hC : CfgOk E C) (ht : VRels E ρ t a.tmps.toList) (hr : Rel E ρ H.get H.next w) {o : Oper} {nid f : Nat} {T : TypeId} {x : Operand} {io : IOp} (ho : o.op = .field T x f) (hx : trOp? E (.field T x f) = some io)
    {v : V} {H' : Heap} {cf : CallF} (h : iop cf C nid io t H = some (v, H')) : Ok E ρ H w a o nid v H' := by
  simp only [trOp?] at hx
  split at hx
  · rename_i fs y hu hy
    split at hx
    · rename_i fd hfd
      split at hx
      · rename_i n d hn hd
        simp at hx
        have hv := eval_sound hC ht hy
        have hfd' : fs[f]? = some fd := hfd
        by_cases hg : isAgg E.P fd.type = true
        · rw [if_pos hg] at hx; subst hx
          simp only [iop] at h
          cases e : eval t y <;> rw [e] at h hv <;> simp at h
          obtain ⟨rfl, rfl⟩ := h
          cases hv' : a.eval x <;> rw [hv'] at hv <;> cases hv
          rename_i l _ l' hl
          exact .pure hr (by simp [Go.execOp, ho, hv', Go.Instr.field, run_underlying hu, hfd', Go.asAgg, part_run_agg hd hn hg]) (extract_rel hl _ _)
        · rw [if_neg hg] at hx; subst hx
          simp only [iop] at h
          cases e : eval t y <;> rw [e] at h hv <;> simp at h
          split at h
          · rename_i l u hu'
            simp at h; obtain ⟨rfl, rfl⟩ := h
            cases hv' : a.eval x <;> rw [hv'] at hv <;> cases hv
            rename_i l' hl
            obtain ⟨c, hc, hcv⟩ := hl.get _ _ hu'
            have hc' : l'.toArray[fd.offset]? = some c := by simpa using hc
            have hp := part_run_one hd (by simpa using hg) _ _ c hc' w
            exact .pure hr (by simp [Go.execOp, ho, hv', Go.Instr.field, run_underlying hu, hfd', Go.asAgg, hp]) hcv
          · cases h
      · cases hx
    · cases hx
  · cases hx

theorem ok_index (hC : CfgOk E C) (ht : VRels E ρ t a.tmps.toList) (hr : Rel E ρ H.get H.next w) {o : Oper} {nid : Nat} {T : TypeId} {x i : Operand} {io : IOp} (ho : o.op = .index T x i) (hx : trOp? E (.index T x i) = some io)
    {v : V} {H' : Heap} {cf : CallF} (h : iop cf C nid io t H = some (v, H')) : Ok E ρ H w a o nid v H' := by
  simp only [trOp?] at hx
  split at hx
  · rename_i y j hu hy hj
    simp at hx; subst hx
    have hv := eval_sound hC ht hy
    have hw := eval_sound hC ht hj
    simp only [iop] at h
    cases e : eval t y <;> rw [e] at h hv <;> try (simp at h; done)
    cases e' : eval t j <;> rw [e'] at h hw <;> simp at h
    rename_i s k n
    obtain ⟨h0, h⟩ := h
    split at h
    · rename_i b hb
      simp at h; obtain ⟨rfl, rfl⟩ := h
      cases hv' : a.eval x <;> rw [hv'] at hv <;> cases hv
      cases hw' : a.eval i <;> rw [hw'] at hw <;> cases hw
      refine .pure hr (c := .int .u8 b.toNat) ?_ (.int _ _)
      have hb' : (⟨s.toArray⟩ : ByteArray)[n.toNat]? = some b := by
        rw [List.getElem?_eq_some_iff] at hb
        obtain ⟨hlt, hb⟩ := hb
        have : n.toNat < (⟨s.toArray⟩ : ByteArray).size := by simpa [ByteArray.size] using hlt
        rw [getElem?_pos (⟨s.toArray⟩ : ByteArray) n.toNat this]
        subst hb
        rfl
      simp [Go.execOp, ho, hv', hw', Go.Instr.index, Go.asIntOf, run_underlying hu, h0, hb']
    · cases h
  · rename_i len el y j hu hy hj
    split at hx
    · rename_i d hs hd
      split at hx
      · cases hx
      rename_i hg
      simp at hx; subst hx
      have hv := eval_sound hC ht hy
      have hw := eval_sound hC ht hj
      simp only [iop] at h
      cases e : eval t y <;> rw [e] at h hv <;> try (simp at h; done)
      cases e' : eval t j <;> rw [e'] at h hw <;> simp at h
      rename_i l k n
      obtain ⟨⟨h0, h1⟩, h⟩ := h
      split at h
      · rename_i u hu'
        simp at h; obtain ⟨rfl, rfl⟩ := h
        cases hv' : a.eval x <;> rw [hv'] at hv <;> cases hv
        cases hw' : a.eval i <;> rw [hw'] at hw <;> cases hw
        rename_i l' hl
        obtain ⟨c, hc, hcv⟩ := hl.get _ _ hu'
        refine .pure hr (c := c) ?_ hcv
        have hc' : l'.toArray[n.toNat]? = some c := by simpa using hc
        have hp := part_run_one hd (by simpa using hg) _ _ c hc' w
        simp [Go.execOp, ho, hv', hw', Go.Instr.index, Go.asIntOf, run_underlying hu, h0, h1, sizeOf_run hs, hp]
      · cases h
    · cases hx
  · cases hx

theorem ok_un (hC : CfgOk E C) (ht : VRels E ρ t a.tmps.toList) (hr : Rel E ρ H.get H.next w) {o : Oper} {nid : Nat} {op : UnOp} {T : TypeId} {x : Operand} {x' : Opd} (ho : o.op = .unOp op T x) (hx : trOpd E x = some x')
    {v : V} {H' : Heap} {cf : CallF} (h : iop cf C nid (.un op x') t H = some (v, H')) : Ok E ρ H w a o nid v H' := by
  have hv := eval_sound hC ht hx
  simp only [iop] at h
  split at h
  · rename_i u hu
    simp at h; obtain ⟨rfl, rfl⟩ := h
    cases e : eval t x' <;> rw [e] at hu hv <;> simp only [iun] at hu <;> try (cases hu; done)
    · cases hv' : a.eval x <;> rw [hv'] at hv <;> cases hv
      cases op <;> simp only at hu <;> try (cases hu; done)
      · cases hu
        exact .pure hr (by simp [Go.execOp, ho, hv', Go.Op.unary, Go.Op.intArith]) (.int _ _)
      · simp only [ibits] at hu; cases hu
        exact .pure hr (by simp [Go.execOp, ho, hv', Go.Op.unary, Go.Op.intBits]) (.int _ _)
    · cases hv' : a.eval x <;> rw [hv'] at hv <;> cases hv
      cases op <;> simp only at hu <;> try (cases hu; done)
      cases hu
      exact .pure hr (by simp [Go.execOp, ho, hv', Go.Op.unary]) (.bool _)
  · cases h

end
end Im
