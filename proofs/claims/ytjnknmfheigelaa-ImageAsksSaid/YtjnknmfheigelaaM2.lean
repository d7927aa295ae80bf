/- The ideal machine and the walks over it, a part (M2): see the comments ahead of each piece. No condition. -/
import Derived.Laws.IdiomCopy
import Derived.Laws.StructEq
import Derived.Laws.BytesString
import Derived.Test.YtjnknmfheigelaaM1

/- Each operation but calls: what the ideal machine answers, the model's answers. Part 1: operands, cells, what only computes. -/
namespace Im
open Go (IntKind BinOp UnOp Program World Value Addr TypeId FuncId Code Oper Operand Op TypeDesc Sem Act run_underlying)
open Go.RowKit (Below)

/-- The cells of a row behind a store of some. -/
def laid (c : Array Value) (o : Nat) : List Value → Array Value
  | [] => c
  | v :: vs => laid (c.setIfInBounds o v) (o + 1) vs

theorem laid_size : ∀ (vs : List Value) (c : Array Value) (o : Nat), (laid c o vs).size = c.size
  | [], _, _ => rfl
  | v :: vs, c, o => by simp [laid, laid_size vs]

theorem laid_get : ∀ (vs : List Value) (c : Array Value) (o k : Nat), o + vs.length ≤ c.size →
    (laid c o vs)[k]? = if o ≤ k ∧ k < o + vs.length then vs[k - o]? else c[k]?
  | [], c, o, k, h => by simp [laid]; omega
  | v :: vs, c, o, k, h => by
    simp only [laid]
    simp only [List.length_cons] at h ⊢
    rw [laid_get vs _ _ _ (by simp; omega)]
    by_cases h1 : o + 1 ≤ k ∧ k < o + 1 + vs.length
    · rw [if_pos h1, if_pos (by omega)]
      obtain ⟨j, rfl⟩ : ∃ j, k = o + 1 + j := ⟨k - (o + 1), by omega⟩
      have e1 : o + 1 + j - (o + 1) = j := by omega
      have e2 : o + 1 + j - o = j + 1 := by omega
      rw [e1, e2]; simp
    · rw [if_neg h1]
      by_cases h2 : k = o
      · subst h2
        rw [if_pos (by omega)]
        simp only [Nat.sub_self, List.getElem?_cons_zero]
        rw [Array.getElem?_setIfInBounds_self_of_lt (by omega)]
      · rw [if_neg (by omega), Array.getElem?_setIfInBounds_ne (by omega)]

theorem heap_setCells (b : Nat) (e : TypeId) (fz : Nat × Nat) : ∀ (vs : List Value) (o : Nat) (c : Array Value) (w : World), w.heap[b]? = some (.cells c e fz) →
    (w.setCells b o vs).heap[b]? = some (.cells (laid c o vs) e fz) ∧ (∀ k, k ≠ b → (w.setCells b o vs).heap[k]? = w.heap[k]?) ∧ (w.setCells b o vs).heap.size = w.heap.size ∧
    (w.setCells b o vs).os = w.os ∧ (w.setCells b o vs).tape = w.tape ∧ (w.setCells b o vs).output = w.output
  | [], o, c, w, h => ⟨h, fun _ _ => rfl, rfl, rfl, rfl, rfl⟩
  | v :: vs, o, c, w, h => by
    have h1 : (w.setCell ⟨b, o, none⟩ v).heap[b]? = some (.cells (c.setIfInBounds o v) e fz) := by
      simp [World.setCell, Array.getElem?_modify, h]
    obtain ⟨k1, k2, k3, k4, k5, k6⟩ := heap_setCells b e fz vs (o + 1) _ _ h1
    refine ⟨k1, fun k hk => ?_, ?_, k4, k5, k6⟩
    · rw [World.setCells, k2 k hk]
      simp only [World.setCell, Array.getElem?_modify]
      rw [if_neg (by exact fun h => hk h.symm)]
    · rw [World.setCells, k3]; simp [World.setCell]

section
variable {E : Env} {C : Cfg} {ρ : Ren} {H : Heap} {w : World} {t : List V} {a : Act}

theorem eval_sound (hC : CfgOk E C) (ht : VRels E ρ t a.tmps.toList) {x : Operand} {y : Opd} (h : trOpd E x = some y) : VRel E ρ (eval t y) (a.eval x) := by
  cases x with
  | tmp i =>
    simp [trOpd] at h; subst h
    simp only [eval, Act.eval, Array.getD_eq_getD_getElem?]
    cases hi : t[i]? with
    | none =>
      have hl := ht.length
      have : a.tmps[i]? = none := by
        rw [List.getElem?_eq_none_iff] at hi
        rw [Array.getElem?_eq_none_iff]
        simp at hl; omega
      simp [this]; exact .undef
    | some v =>
      obtain ⟨c, hc, hv⟩ := ht.get i v hi
      simp at hc
      simp [hc, hv]
  | const c =>
    simp only [trOpd, Option.map_eq_some_iff] at h
    obtain ⟨v, hv, rfl⟩ := h
    exact trV_rel hv
  | global g =>
    simp only [trOpd, Option.map_eq_some_iff] at h
    obtain ⟨m, hm, rfl⟩ := h
    exact .ptr _ _ ⟨g, hm, hC.gm g m hm, rfl⟩
  | func f =>
    simp only [trOpd, Option.map_eq_some_iff] at h
    obtain ⟨m, hm, rfl⟩ := h
    exact .fn m f [] [] [] [] hm .nil .nil

theorem evals_sound (hC : CfgOk E C) (ht : VRels E ρ t a.tmps.toList) : ∀ {xs : List Operand} {ys : List Opd}, trOpds E xs = some ys → VRels E ρ (ys.map (eval t)) (xs.map a.eval)
  | [], ys, h => by simp [trOpds] at h; subst h; exact .nil
  | x :: xs, ys, h => by
    unfold trOpds at h
    split at h
    · rename_i y ys' h1 h2; cases h
      exact .cons _ _ _ _ (eval_sound hC ht h1) (evals_sound hC ht h2)
    · cases h

theorem evalO_sound (hC : CfgOk E C) (ht : VRels E ρ t a.tmps.toList) {x : Option Operand} {y : Option Opd} (h : trOpdO E x = some y) :
    (x = none ∧ y = none ∧ evalO t y = none) ∨ (∃ x' y', x = some x' ∧ y = some y' ∧ evalO t y = some (eval t y') ∧ VRel E ρ (eval t y') (a.eval x')) := by
  cases x with
  | none => simp [trOpdO] at h; subst h; exact .inl ⟨rfl, rfl, rfl⟩
  | some x =>
    simp only [trOpdO, Option.map_eq_some_iff] at h
    obtain ⟨y', h1, rfl⟩ := h
    exact .inr ⟨x, y', rfl, rfl, rfl, eval_sound hC ht h1⟩

/-- The model carries the operation out: the value c, or none ('undef'). -/
def Runs (E : Env) (o : Oper) (a : Act) (w : World) (c : Value) (w' : World) : Prop :=
  (Go.execOp a.eval o).run E.P w = .ok (.value c) w' ∨ ((Go.execOp a.eval o).run E.P w = .ok .skip w' ∧ c = Go.undef)

def Ok (E : Env) (ρ : Ren) (H : Heap) (w : World) (a : Act) (o : Oper) (nid : Nat) (v : V) (H' : Heap) : Prop :=
  ∃ c w' ρ', Runs E o a w c w' ∧ VRel E ρ' v c ∧ Post E (· = nid) ρ H.get H.next w ρ' H'.get H'.next w'

theorem Ok.pure {o : Oper} {nid : Nat} {v : V} {c : Value} (hr : Rel E ρ H.get H.next w) (h : (Go.execOp a.eval o).run E.P w = .ok (.value c) w) (hv : VRel E ρ v c) : Ok E ρ H w a o nid v H :=
  ⟨c, w, ρ, .inl h, hv, .refl hr⟩

/-! ### What only computes -/

theorem ok_mv (hC : CfgOk E C) (ht : VRels E ρ t a.tmps.toList) (hr : Rel E ρ H.get H.next w) {o : Oper} {nid : Nat} {x : Operand} {y : Opd} (ho : o.op = .move x ∨ o.op = .assign x) (hx : trOpd E x = some y) :
    Ok E ρ H w a o nid (eval t y) H := by
  refine .pure hr (c := a.eval x) ?_ (eval_sound hC ht hx)
  rcases ho with ho | ho <;> simp [Go.execOp, ho]

theorem ok_pick (hC : CfgOk E C) (ht : VRels E ρ t a.tmps.toList) (hr : Rel E ρ H.get H.next w) {o : Oper} {nid : Nat} {x y z : Operand} {x' y' z' : Opd} (ho : o.op = .pick x y z) (hx : trOpd E x = some x')
    (hy : trOpd E y = some y') (hz : trOpd E z = some z') {v : V} {H' : Heap} {cf : CallF} (h : iop cf C nid (.pick x' y' z') t H = some (v, H')) : Ok E ρ H w a o nid v H' := by
  have hv := eval_sound hC ht hx
  simp only [iop] at h
  cases e : eval t x' with
  | bool b =>
    rw [e] at h hv
    cases hv' : a.eval x <;> rw [hv'] at hv <;> cases hv
    cases b <;> simp at h
    · obtain ⟨rfl, rfl⟩ := h
      exact .pure hr (by simp [Go.execOp, ho, hv', Go.asBool]) (eval_sound hC ht hz)
    · obtain ⟨rfl, rfl⟩ := h
      exact .pure hr (by simp [Go.execOp, ho, hv', Go.asBool]) (eval_sound hC ht hy)
  | _ => rw [e] at h; simp at h

theorem ok_nilck (hC : CfgOk E C) (ht : VRels E ρ t a.tmps.toList) (hr : Rel E ρ H.get H.next w) {o : Oper} {nid : Nat} {x : Operand} {x' : Opd} (ho : o.op = .nilCheck x) (hx : trOpd E x = some x')
    {v : V} {H' : Heap} {cf : CallF} (h : iop cf C nid (.nilck x') t H = some (v, H')) : Ok E ρ H w a o nid v H' := by
  have hv := eval_sound hC ht hx
  simp only [iop] at h
  cases e : eval t x' <;> rw [e] at h hv <;> simp at h
  all_goals
    obtain ⟨rfl, rfl⟩ := h
    refine .pure hr (c := a.eval x) ?_ hv
    cases hv' : a.eval x <;> rw [hv'] at hv <;> cases hv
    simp [Go.execOp, ho, hv']

theorem ok_ext (hC : CfgOk E C) (ht : VRels E ρ t a.tmps.toList) (hr : Rel E ρ H.get H.next w) {o : Oper} {nid i : Nat} {x : Operand} {x' : Opd} (ho : o.op = .extract x i) (hx : trOpd E x = some x')
    {v : V} {H' : Heap} {cf : CallF} (h : iop cf C nid (.ext i x') t H = some (v, H')) : Ok E ρ H w a o nid v H' := by
  have hv := eval_sound hC ht hx
  simp only [iop] at h
  cases e : eval t x' <;> rw [e] at h hv <;> simp at h
  rename_i l
  split at h
  · rename_i u hu
    simp at h; obtain ⟨rfl, rfl⟩ := h
    cases hv' : a.eval x <;> rw [hv'] at hv <;> cases hv
    rename_i l' hl
    obtain ⟨c, hc, hcv⟩ := hl.get i _ hu
    exact .pure hr (c := c) (by simp [Go.execOp, ho, hv', Go.Instr.extract, hc]) hcv
  · cases h

theorem isAgg_run {t : TypeId} {d : TypeDesc} (h : E.P.underlying t = some d) (w : World) : (Go.isAgg t).run E.P w = .ok (isAgg E.P t) w := by
  simp only [Go.isAgg, Sem.run_bind, run_underlying h, Go.Result.andThen_ok, isAgg, h]
  cases d <;> rfl

theorem sizeOf_run {t : TypeId} {n : Nat} (h : szOf E.P t = some n) (w : World) : (Go.sizeOf t).run E.P w = .ok n w := by
  simp only [szOf, Option.map_eq_some_iff] at h
  obtain ⟨i, hi, rfl⟩ := h
  simp [Go.sizeOf, Go.typeInfo, hi]

theorem part_run_one {t : TypeId} {d : TypeDesc} (h : E.P.underlying t = some d) (hg : isAgg E.P t = false) (cs : Array Value) (off : Nat) (c : Value) (hc : cs[off]? = some c) (w : World) :
    (Go.part t cs off).run E.P w = .ok c w := by
  simp [Go.part, isAgg_run h, hg, hc]

theorem part_run_agg {t : TypeId} {d : TypeDesc} {n : Nat} (h : E.P.underlying t = some d) (hn : szOf E.P t = some n) (hg : isAgg E.P t = true) (cs : Array Value) (off : Nat) (w : World) :
    (Go.part t cs off).run E.P w = .ok (.agg (cs.extract off (off + n))) w := by
  simp [Go.part, isAgg_run h, hg, sizeOf_run hn]

theorem extract_rel {l : List V} {l' : List Value} (h : VRels E ρ l l') (off n : Nat) : VRel E ρ (.agg ((l.drop off).take n)) (.agg (l'.toArray.extract off (off + n))) := by
  have : l'.toArray.extract off (off + n) = ((l'.drop off).take n).toArray := by
    apply Array.ext'
    simp
  rw [this]
  exact .agg _ _ ((h.drop off).take n)

theorem ok_field (hC : CfgOk E C) (ht : VRels E ρ t a.tmps.toList) (hr : Rel E ρ H.get H.next w) {o : Oper} {nid f : Nat} {T : TypeId} {x : Operand} {io : IOp} (ho : o.op = .field T x f) (hx : trOp? E (.field T x f) = some io)
    {v : V} {H' : Heap} {cf : CallF} (h : iop cf C nid io t H = some (v, H')) : Ok E ρ H w a o nid v H' := by
  simp only [trOp?] at hx
  split at hx
  · rename_i fs y hu hy
    split at hx
    · rename_i fd hfd
      split at hx
      · rename_i n d hn hd
        simp at hx
        have hv := eval_sound hC ht hy
        have hfd' : fs[f]? = some fd := hfd
        by_cases hg : isAgg E.P fd.type = true
        · rw [if_pos hg] at hx; subst hx
          simp only [iop] at h
          cases e : eval t y <;> rw [e] at h hv <;> simp at h
          obtain ⟨rfl, rfl⟩ := h
          cases hv' : a.eval x <;> rw [hv'] at hv <;> cases hv
          rename_i l _ l' hl
          exact .pure hr (by simp [Go.execOp, ho, hv', Go.Instr.field, run_underlying hu, hfd', Go.asAgg, part_run_agg hd hn hg]) (extract_rel hl _ _)
        · rw [if_neg hg] at hx; subst hx
          simp only [iop] at h
          cases e : eval t y <;> rw [e] at h hv <;> simp at h
          split at h
          · rename_i l u hu'
            simp at h; obtain ⟨rfl, rfl⟩ := h
            cases hv' : a.eval x <;> rw [hv'] at hv <;> cases hv
            rename_i l' hl
            obtain ⟨c, hc, hcv⟩ := hl.get _ _ hu'
            have hc' : l'.toArray[fd.offset]? = some c := by simpa using hc
            have hp := part_run_one hd (by simpa using hg) _ _ c hc' w
            exact .pure hr (by simp [Go.execOp, ho, hv', Go.Instr.field, run_underlying hu, hfd', Go.asAgg, hp]) hcv
          · cases h
      · cases hx
    · cases hx
  · cases hx

theorem ok_index (hC : CfgOk E C) (ht : VRels E ρ t a.tmps.toList) (hr : Rel E ρ H.get H.next w) {o : Oper} {nid : Nat} {T : TypeId} {x i : Operand} {io : IOp} (ho : o.op = .index T x i) (hx : trOp? E (.index T x i) = some io)
    {v : V} {H' : Heap} {cf : CallF} (h : iop cf C nid io t H = some (v, H')) : Ok E ρ H w a o nid v H' := by
  simp only [trOp?] at hx
  split at hx
  · rename_i y j hu hy hj
    simp at hx; subst hx
    have hv := eval_sound hC ht hy
    have hw := eval_sound hC ht hj
    simp only [iop] at h
    cases e : eval t y <;> rw [e] at h hv <;> try (simp at h; done)
    cases e' : eval t j <;> rw [e'] at h hw <;> simp at h
    rename_i s k n
    obtain ⟨h0, h⟩ := h
    split at h
    · rename_i b hb
      simp at h; obtain ⟨rfl, rfl⟩ := h
      cases hv' : a.eval x <;> rw [hv'] at hv <;> cases hv
      cases hw' : a.eval i <;> rw [hw'] at hw <;> cases hw
      refine .pure hr (c := .int .u8 b.toNat) ?_ (.int _ _)
      have hb' : (⟨s.toArray⟩ : ByteArray)[n.toNat]? = some b := by
        rw [List.getElem?_eq_some_iff] at hb
        obtain ⟨hlt, hb⟩ := hb
        have : n.toNat < (⟨s.toArray⟩ : ByteArray).size := by simpa [ByteArray.size] using hlt
        rw [getElem?_pos (⟨s.toArray⟩ : ByteArray) n.toNat this]
        subst hb
        rfl
      simp [Go.execOp, ho, hv', hw', Go.Instr.index, Go.asIntOf, run_underlying hu, h0, hb']
    · cases h
  · rename_i len el y j hu hy hj
    split at hx
    · rename_i sz d hs hd
      split at hx
      · rename_i hg
        simp at hx; subst hx
        have hv := eval_sound hC ht hy
        have hw := eval_sound hC ht hj
        simp only [iop] at h
        cases e : eval t y <;> rw [e] at h hv <;> try (simp at h; done)
        cases e' : eval t j <;> rw [e'] at h hw <;> simp at h
        rename_i l k n
        obtain ⟨⟨h0, h1⟩, h⟩ := h
        obtain ⟨rfl, rfl⟩ := h
        cases hv' : a.eval x <;> rw [hv'] at hv <;> cases hv
        cases hw' : a.eval i <;> rw [hw'] at hw <;> cases hw
        rename_i l' hl
        exact .pure hr (by simp [Go.execOp, ho, hv', hw', Go.Instr.index, Go.asIntOf, run_underlying hu, h0, h1, sizeOf_run hs, part_run_agg hd hs hg]) (extract_rel hl _ _)
      rename_i hg
      split at hx <;> try (cases hx; done)
      rename_i hone
      subst hone
      simp at hx; subst hx
      have hv := eval_sound hC ht hy
      have hw := eval_sound hC ht hj
      simp only [iop] at h
      cases e : eval t y <;> rw [e] at h hv <;> try (simp at h; done)
      cases e' : eval t j <;> rw [e'] at h hw <;> simp at h
      rename_i l k n
      obtain ⟨⟨h0, h1⟩, h⟩ := h
      split at h
      · rename_i u hu'
        simp at h; obtain ⟨rfl, rfl⟩ := h
        cases hv' : a.eval x <;> rw [hv'] at hv <;> cases hv
        cases hw' : a.eval i <;> rw [hw'] at hw <;> cases hw
        rename_i l' hl
        obtain ⟨c, hc, hcv⟩ := hl.get _ _ hu'
        refine .pure hr (c := c) ?_ hcv
        have hc' : l'.toArray[n.toNat]? = some c := by simpa using hc
        have hp := part_run_one hd (by simpa using hg) _ _ c hc' w
        simp [Go.execOp, ho, hv', hw', Go.Instr.index, Go.asIntOf, run_underlying hu, h0, h1, sizeOf_run hs, hp]
      · cases h
    · cases hx
  · cases hx

theorem ok_un (hC : CfgOk E C) (ht : VRels E ρ t a.tmps.toList) (hr : Rel E ρ H.get H.next w) {o : Oper} {nid : Nat} {op : UnOp} {T : TypeId} {x : Operand} {x' : Opd} (ho : o.op = .unOp op T x) (hx : trOpd E x = some x')
    {v : V} {H' : Heap} {cf : CallF} (h : iop cf C nid (.un op x') t H = some (v, H')) : Ok E ρ H w a o nid v H' := by
  have hv := eval_sound hC ht hx
  simp only [iop] at h
  split at h
  · rename_i u hu
    simp at h; obtain ⟨rfl, rfl⟩ := h
    cases e : eval t x' <;> rw [e] at hu hv <;> simp only [iun] at hu <;> try (cases hu; done)
    · cases hv' : a.eval x <;> rw [hv'] at hv <;> cases hv
      cases op <;> simp only at hu <;> try (cases hu; done)
      · cases hu
        exact .pure hr (by simp [Go.execOp, ho, hv', Go.Op.unary, Go.Op.intArith]) (.int _ _)
      · simp only [ibits] at hu; cases hu
        exact .pure hr (by simp [Go.execOp, ho, hv', Go.Op.unary, Go.Op.intBits]) (.int _ _)
    · cases hv' : a.eval x <;> rw [hv'] at hv <;> cases hv
      cases op <;> simp only at hu <;> try (cases hu; done)
      cases hu
      exact .pure hr (by simp [Go.execOp, ho, hv', Go.Op.unary]) (.bool _)
  · cases h

end
end Im

/- Each operation but calls, part 2: arithmetic, comparison, conversions, slice expressions, lengths. -/
namespace Im
open Go (IntKind BinOp UnOp Program World Value Addr TypeId FuncId Code Oper Operand Op TypeDesc Sem Act run_underlying)
open Go.RowKit (Below)

section
variable {E : Env} {C : Cfg} {ρ : Ren} {H : Heap} {w : World} {t : List V} {a : Act}

theorem bytes_append (x y : List UInt8) : (⟨x.toArray⟩ : ByteArray) ++ (⟨y.toArray⟩ : ByteArray) = ⟨(x ++ y).toArray⟩ := by
  apply ByteArray.ext
  rw [ByteArray.data_append]
  simp

theorem bytes_size (x : List UInt8) : (⟨x.toArray⟩ : ByteArray).size = x.length := by simp [ByteArray.size]

theorem ibits_sound {op : BinOp} {k : IntKind} {x y : Int} {v : V} (h : ibits op k x y = some v) : ∃ c, (Go.Op.intBits op k x y).run E.P w = .ok c w ∧ VRel E ρ v c := by
  simp only [ibits] at h
  cases op <;> simp only at h <;> try (cases h; done)
  all_goals (cases h; exact ⟨_, by simp only [Go.Op.intBits]; rfl, .int _ _⟩)

theorem ibin_sound {op : BinOp} {T : TypeId} {u v r : V} {c d : Value} (h : ibin op u v = some r) (hu : VRel E ρ u c) (hv : VRel E ρ v d) :
    ∃ r', (Go.binOp op T c d).run E.P w = .ok r' w ∧ VRel E ρ r r' := by
  cases hu <;> cases hv <;> simp only [ibin] at h <;> try (cases h; done)
  · rename_i k n k' n'
    have bits : ∀ (op : BinOp) (_ : (Go.binOp op T (.int k n) (.int k n')) = Go.Op.intBits op k n n'), ibits op k n n' = some r →
        ∃ r', (Go.binOp op T (.int k n) (.int k n')).run E.P w = .ok r' w ∧ VRel E ρ r r' := by
      intro op he hb
      obtain ⟨c, h1, h2⟩ := ibits_sound (E := E) (ρ := ρ) (w := w) hb
      exact ⟨c, by rw [he]; exact h1, h2⟩
    cases op <;> simp only at h
    case shl => split at h <;> try (cases h; done)
                rename_i hz; cases h; exact ⟨_, by simp [Go.binOp, Go.Op.shift, hz], .int _ _⟩
    case shr => split at h <;> try (cases h; done)
                rename_i hz; cases h; exact ⟨_, by simp [Go.binOp, Go.Op.shift, hz], .int _ _⟩
    all_goals
      split at h <;> try (cases h; done)
      rename_i hk; subst hk
    case int.int.add.isTrue | int.int.sub.isTrue | int.int.mul.isTrue => cases h; exact ⟨_, by simp [Go.binOp, Go.Op.intArith], .int _ _⟩
    case int.int.quo.isTrue | int.int.rem.isTrue =>
      split at h <;> try (cases h; done)
      rename_i hz
      cases h; exact ⟨_, by simp [Go.binOp, Go.Op.intDiv, hz], .int _ _⟩
    case int.int.eql.isTrue =>
      cases h
      refine ⟨_, by simp [Go.binOp, Go.Op.intCmp]; rfl, ?_⟩
      rw [show (n == n') = decide (n = n') from by rw [Bool.eq_iff_iff]; simp]; exact .bool _
    case int.int.neq.isTrue =>
      cases h
      refine ⟨_, by simp only [Go.binOp, Go.Op.intCmp, if_neg (show ¬ k ≠ k by simp), Sem.run_pure]; rfl, ?_⟩
      rw [show (n != n') = !decide (n = n') from by simp only [bne]; rw [show (n == n') = decide (n = n') from by rw [Bool.eq_iff_iff]; simp]]; exact .bool _
    case int.int.lss.isTrue | int.int.leq.isTrue | int.int.gtr.isTrue | int.int.geq.isTrue =>
      cases h
      exact ⟨_, by simp only [Go.binOp, Go.Op.intCmp, if_neg (show ¬ k ≠ k by simp), Sem.run_pure], .bool _⟩
    case int.int.and.isTrue | int.int.or.isTrue | int.int.xor.isTrue | int.int.andNot.isTrue => exact bits _ (by simp [Go.binOp]) h
  · rename_i s s'
    cases op <;> simp only at h <;> try (cases h; done)
    · split at h <;> try (cases h; done)
      rename_i hl
      cases h
      refine ⟨.string ⟨(s ++ s').toArray⟩, ?_, .str _⟩
      simp only [Go.binOp, Go.Op.stringOp, bytes_size, bytes_append]
      rw [if_neg (by have : Go.IntKind.i64.max = 9223372036854775807 := by decide
                     rw [this]; omega)]
      simp
    all_goals
      cases h
      refine ⟨_, by simp only [Go.binOp, Go.Op.stringOp, Go.ByteArray.toList_mk, Sem.run_pure]; rfl, ?_⟩
      try simp only [beqBytes_eq]
      try rw [show (s == s') = decide (s = s') from by rw [Bool.eq_iff_iff]; simp]
      exact .bool _

theorem eqGuard_run {op : BinOp} {T : TypeId} {x y : Operand} {c d : Value} (h : (∀ l, c ≠ .agg l) ∧ c ≠ .nilIface) : (Go.eqGuard op T x y c d).run E.P w = .ok () w := by
  unfold Go.eqGuard
  cases op <;> cases c <;> simp at h ⊢

theorem ok_bin (hC : CfgOk E C) (ht : VRels E ρ t a.tmps.toList) (hr : Rel E ρ H.get H.next w) {o : Oper} {nid : Nat} {op : BinOp} {T T' : TypeId} {x y : Operand} {x' y' : Opd} (ho : o.op = .binOp op T x y T')
    (hx : trOpd E x = some x') (hy : trOpd E y = some y') {v : V} {H' : Heap} {cf : CallF} (h : iop cf C nid (.bin op x' y') t H = some (v, H')) : Ok E ρ H w a o nid v H' := by
  have h1 := eval_sound hC ht hx
  have h2 := eval_sound hC ht hy
  simp only [iop] at h
  split at h
  · rename_i r hb
    simp at h; obtain ⟨rfl, rfl⟩ := h
    obtain ⟨c, hc, hcv⟩ := ibin_sound (w := w) (T := T) hb h1 h2
    refine .pure hr (c := c) ?_ hcv
    have hg : (∀ l, a.eval x ≠ .agg l) ∧ a.eval x ≠ .nilIface := by
      cases e : eval t x' <;> rw [e] at hb h1 <;> simp only [ibin] at hb <;> try (cases hb; done)
      all_goals (cases e' : a.eval x <;> rw [e'] at h1 <;> cases h1 <;> simp)
    simp [Go.execOp, ho, eqGuard_run hg, hc]
  · cases h

/-- What kind of type a comparison stands for. -/
theorem trEq_inv {k : Nat} {T : TypeId} {q : EqT} (h : trEq E.P (k + 1) T = some q) :
    (q = .bool ∧ E.P.underlying T = some .bool) ∨ (q = .int ∧ ∃ i, E.P.underlying T = some (.int i)) ∨ (q = .str ∧ E.P.underlying T = some .string) ∨
    (q = .ptr ∧ ∃ e, E.P.underlying T = some (.pointer e)) ∨ (q = .slc ∧ ∃ e, E.P.underlying T = some (.slice e)) ∨ (q = .map ∧ ∃ x y, E.P.underlying T = some (.map x y)) ∨
    (q = .fn ∧ ∃ x y z, E.P.underlying T = some (.func x y z)) ∨ (q = .ifc ∧ ∃ x, E.P.underlying T = some (.interface x)) ∨
    (∃ fs l, E.P.underlying T = some (.struct fs) ∧ E.P.stoodInHeld T = false ∧ trFields (trEq E.P k) E.P fs.toList = some l ∧ q = .st l) := by
  unfold trEq at h
  split at h <;> try (cases h; done)
  all_goals rename_i hT
  case h_9 fs =>
    split at h
    · cases h
    rename_i hst
    simp only [Option.map_eq_some_iff] at h
    obtain ⟨l, hl, rfl⟩ := h
    exact .inr (.inr (.inr (.inr (.inr (.inr (.inr (.inr ⟨_, l, hT, by simpa using hst, hl, rfl⟩)))))))
  all_goals
    cases h
    simp [hT]

theorem ieqs_sound (k : Nat) (ieq_sound : ∀ (T : TypeId) (q : EqT), trEq E.P k T = some q → ∀ (u v : V) (b : Bool) (c d : Value), ieq q u v = some b → VRel E ρ u c → VRel E ρ v d →
    ∀ n, k ≤ n → (Go.Op.equalIn n T c d).run E.P w = .ok b w) : ∀ (fs : List Go.Field) (l : List (Nat × Option Nat × EqT)), trFields (trEq E.P k) E.P fs = some l →
    ∀ (xs ys : List V) (b : Bool) (xs' ys' : List Value), ieqs l xs ys = some b → VRels E ρ xs xs' → VRels E ρ ys ys' → ∀ n, k ≤ n → (Go.Op.eqFields n xs'.toArray ys'.toArray fs).run E.P w = .ok b w
  | [], l, h => by
    intro xs ys b xs' ys' hb _ _ n _
    simp [trFields] at h; subst h
    simp [ieqs] at hb; subst hb
    simp [Go.Op.eqFields]
  | f :: fs, l, h => by
    intro xs ys b xs' ys' hb hx hy n hn
    unfold trFields at h
    split at h
    · rename_i hname
      simp only [Go.Op.eqFields, if_neg (show ¬ f.name ≠ "_" by simpa using hname)]
      exact ieqs_sound k ieq_sound fs l h xs ys b xs' ys' hb hx hy n hn
    rename_i hname
    split at h <;> try (cases h; done)
    rename_i e m l' hq hm hl'
    cases h
    have hd : ∃ d, E.P.underlying f.type = some d := by
      cases k with
      | zero => simp [trEq] at hq
      | succ k => unfold trEq at hq; split at hq <;> first | exact ⟨_, by assumption⟩ | cases hq
    obtain ⟨d, hd⟩ := hd
    have htail := ieqs_sound k ieq_sound fs l' hl' xs ys
    simp only [Go.Op.eqFields, if_pos (show f.name ≠ "_" from hname)]
    by_cases hg : isAgg E.P f.type = true
    · rw [if_pos hg] at hb
      simp only [ieqs] at hb
      have e1 := part_run_agg hd hm hg xs'.toArray f.offset w
      have e2 := part_run_agg hd hm hg ys'.toArray f.offset w
      have r1 := extract_rel hx f.offset m
      have r2 := extract_rel hy f.offset m
      split at hb <;> try (cases hb; done)
      · rename_i he
        have := ieq_sound f.type e hq _ _ _ _ _ he r1 r2 n hn
        simp only [Sem.run_bind, e1, e2, this, Go.Result.andThen_ok, Bool.not_true, Bool.false_eq_true, if_false]
        exact htail b xs' ys' hb hx hy n hn
      · rename_i he
        have := ieq_sound f.type e hq _ _ _ _ _ he r1 r2 n hn
        cases hb
        simp only [Sem.run_bind, e1, e2, this, Go.Result.andThen_ok, Bool.not_false, if_true, Sem.run_pure]
    · rw [if_neg hg] at hb
      simp only [ieqs] at hb
      split at hb <;> try (cases hb; done)
      rename_i x y hx0 hy0
      obtain ⟨cx, hcx, rx⟩ := hx.get _ _ hx0
      obtain ⟨cy, hcy, ry⟩ := hy.get _ _ hy0
      have e1 := part_run_one hd (by simpa using hg) xs'.toArray f.offset cx (by simpa using hcx) w
      have e2 := part_run_one hd (by simpa using hg) ys'.toArray f.offset cy (by simpa using hcy) w
      split at hb <;> try (cases hb; done)
      · rename_i he
        have := ieq_sound f.type e hq _ _ _ _ _ he rx ry n hn
        simp only [Sem.run_bind, e1, e2, this, Go.Result.andThen_ok, Bool.not_true, Bool.false_eq_true, if_false]
        exact htail b xs' ys' hb hx hy n hn
      · rename_i he
        have := ieq_sound f.type e hq _ _ _ _ _ he rx ry n hn
        cases hb
        simp only [Sem.run_bind, e1, e2, this, Go.Result.andThen_ok, Bool.not_false, if_true, Sem.run_pure]

theorem ieq_sound : ∀ (k : Nat) (T : TypeId) (q : EqT), trEq E.P k T = some q → ∀ (u v : V) (b : Bool) (c d : Value), ieq q u v = some b → VRel E ρ u c → VRel E ρ v d →
    ∀ n, k ≤ n → (Go.Op.equalIn n T c d).run E.P w = .ok b w
  | 0, _, _, h => by simp [trEq] at h
  | k + 1, T, q, h => by
    intro u v b c d hb hu hv n hn
    obtain ⟨n, rfl⟩ : ∃ m, n = m + 1 := ⟨n - 1, by omega⟩
    have hi := trEq_inv h
    unfold ieq at hb
    split at hb
    case h_19 xs ys =>
      rcases hi with h1 | h1 | h1 | h1 | h1 | h1 | h1 | h1 | ⟨fs, l, hT, hst, hl, hq⟩
      iterate 8 (simp at h1)
      cases hq
      cases hu; cases hv
      rename_i xs' hxs ys' hys
      have hf : E.P.fieldsOf T = fs := by simp [Go.Program.fieldsOf, hT]
      rw [Go.run_equalIn_agg _ _ _ _ _ (by rw [hf]; exact hT) (by simpa using hst), hf]
      exact ieqs_sound k (ieq_sound k) fs.toList _ hl _ _ b xs' ys' hb hxs hys n (by omega)
    case h_20 => cases hb
    all_goals simp only [reduceCtorEq, false_and, exists_false, or_false, false_or, true_and, and_false] at hi
    case h_2 =>
      obtain ⟨i, hT⟩ := hi
      split at hb <;> try (cases hb; done)
      rename_i hk; subst hk; cases hb
      cases hu; cases hv
      simp [Go.Op.equalIn, run_underlying hT]
      rw [Bool.eq_iff_iff]; simp
    case h_3 =>
      cases hb; cases hu; cases hv
      simp [Go.Op.equalIn, run_underlying hi, Go.beq_toListBytes, beqBytes_eq]
      rw [Bool.eq_iff_iff]; simp
    case h_1 =>
      cases hb; cases hu; cases hv
      simp [Go.Op.equalIn, run_underlying hi]
    case h_10 | h_11 | h_12 =>
      obtain ⟨x, y, hT⟩ := hi
      cases hb; cases hu; cases hv
      simp [Go.Op.equalIn, run_underlying hT]
    case h_13 | h_14 | h_15 =>
      obtain ⟨x, y, z, hT⟩ := hi
      cases hb; cases hu <;> cases hv
      all_goals simp [Go.Op.equalIn, run_underlying hT]
    all_goals
      obtain ⟨i, hT⟩ := hi
      cases hb; cases hu; cases hv
      simp [Go.Op.equalIn, run_underlying hT]

end
end Im

/- Each operation but calls, part 3: comparison with ==, conversions, lengths, slice expressions, function values, interfaces. -/
namespace Im
open Go (IntKind BinOp UnOp Program World Value Addr TypeId FuncId Code Oper Operand Op TypeDesc Sem Act run_underlying)
open Go.RowKit (Below)

section
variable {E : Env} {C : Cfg} {ρ : Ren} {H : Heap} {w : World} {t : List V} {a : Act}

/-- A value of no kind that has its own comparison. -/
def plainEq : Value → Bool
  | .int .. | .float .. | .complex .. | .string .. => false
  | _ => true

theorem binOp_eql {T : TypeId} {c d : Value} (h : plainEq c = true) : Go.binOp .eql T c d = (do let b ← Go.Op.equal T c d; pure (.bool b)) := by
  cases c <;> simp [plainEq] at h <;> cases d <;> simp [Go.binOp]
theorem binOp_neq {T : TypeId} {c d : Value} (h : plainEq c = true) : Go.binOp .neq T c d = (do let b ← Go.Op.equal T c d; pure (.bool (!b))) := by
  cases c <;> simp [plainEq] at h <;> cases d <;> simp [Go.binOp]

theorem ieq_plain {q : EqT} {u v : V} {b : Bool} {c : Value} (h : ieq q u v = some b) (hu : VRel E ρ u c) (hq : q ≠ .int ∧ q ≠ .str) : plainEq c = true := by
  unfold ieq at h
  split at h <;> first | (cases hu; rfl) | (simp at hq; done) | cases h

theorem isNil_eq {x : Operand} (h : isNil x = true) : x = .const .nilIface := by
  unfold isNil at h
  split at h
  · rfl
  · cases h

theorem eqGuard_ifc {op : BinOp} {T : TypeId} {x y : Operand} {c d : Value} (hn : (isNil x || isNil y) = true) (hc : ∀ l, c ≠ .agg l) : (Go.eqGuard op T x y c d).run E.P w = .ok () w := by
  have key : ∀ (x y : Operand), (x = .const .nilIface ∨ y = .const .nilIface) → (Go.eqGuard op T x y c d).run E.P w = .ok () w := by
    intro x y h
    unfold Go.eqGuard
    rcases h with rfl | rfl
    · cases op <;> cases c <;> first | (exact absurd rfl (hc _)) | (cases d <;> simp)
    · cases op <;> cases c <;> first | (exact absurd rfl (hc _)) | (cases d <;> simp)
  simp only [Bool.or_eq_true] at hn
  exact key x y (hn.imp isNil_eq isNil_eq)

theorem ieq_st_inv {l : List (Nat × Option Nat × EqT)} {u v : V} {b : Bool} (h : ieq (.st l) u v = some b) : ∃ xs ys, u = .agg xs ∧ v = .agg ys := by
  rw [ieq.eq_def] at h
  split at h <;> first | exact ⟨_, _, rfl, rfl⟩ | (rename_i h1; cases h1; done) | cases h

theorem ok_eq (hC : CfgOk E C) (ht : VRels E ρ t a.tmps.toList) (hr : Rel E ρ H.get H.next w) {o : Oper} {nid : Nat} {op : BinOp} {T T' : TypeId} {x y : Operand} {io : IOp} (ho : o.op = .binOp op T x y T')
    (hx : trBin E op T x y = some io) {v : V} {H' : Heap} {cf : CallF} (h : iop cf C nid io t H = some (v, H')) : Ok E ρ H w a o nid v H' := by
  unfold trBin at hx
  split at hx <;> try (cases hx; done)
  rename_i x' y' hx' hy'
  have h1 := eval_sound hC ht hx'
  have h2 := eval_sound hC ht hy'
  have bin : ∀ {io}, io = .bin op x' y' → iop cf C nid io t H = some (v, H') → Ok E ρ H w a o nid v H' := fun e k => ok_bin hC ht hr ho hx' hy' (e ▸ k)
  -- the general case: a comparison by the type
  have gen : ∀ (q : EqT), isEq op = true → (∀ b, ieq q (eval t x') (eval t y') = some b → (Go.Op.equal T (a.eval x) (a.eval y)).run E.P w = .ok b w) → q ≠ .int ∧ q ≠ .str →
      (Go.eqGuard op T x y (a.eval x) (a.eval y)).run E.P w = .ok () w → iop cf C nid (.eq (op == .neq) q x' y') t H = some (v, H') → Ok E ρ H w a o nid v H' := by
    intro q hop heq hq hg k
    simp only [iop] at k
    split at k <;> try (cases k; done)
    rename_i b hb
    simp at k; obtain ⟨rfl, rfl⟩ := k
    have hp := ieq_plain hb h1 hq
    have he := heq b hb
    cases op <;> simp [isEq] at hop
    · exact .pure hr (c := .bool b) (by simp [Go.execOp, ho, hg, binOp_eql hp, he]) (by simpa using VRel.bool b)
    · exact .pure hr (c := .bool (!b)) (by simp [Go.execOp, ho, hg, binOp_neq hp, he]) (by simpa using VRel.bool (!b))
  split at hx
  · rename_i hop
    split at hx
    · cases hx; exact bin rfl h
    · cases hx; exact bin rfl h
    · rename_i ms hT
      split at hx <;> try (cases hx; done)
      rename_i hn
      cases hx
      refine gen .ifc hop (fun b hb => ?_) (by simp) ?_ h
      · exact ieq_sound (E := E) (ρ := ρ) (w := w) 1 T .ifc (by simp [trEq, hT]) _ _ b _ _ hb h1 h2 10000 (by omega)
      · simp only [iop] at h
        split at h <;> try (cases h; done)
        rename_i b hb
        refine eqGuard_ifc hn fun l hl => ?_
        rw [hl] at h1
        cases e3 : eval t x' <;> rw [e3] at h1 <;> cases h1
        rw [e3] at hb; simp [ieq] at hb
    · rename_i fs hT
      split at hx <;> try (cases hx; done)
      rename_i hgt
      simp only [Option.map_eq_some_iff] at hx
      obtain ⟨q, hq, rfl⟩ := hx
      have hst : ∃ l, q = .st l := by
        rcases trEq_inv hq with ⟨_, h⟩ | ⟨_, _, h⟩ | ⟨_, h⟩ | ⟨_, _, h⟩ | ⟨_, _, h⟩ | ⟨_, _, _, h⟩ | ⟨_, _, _, _, h⟩ | ⟨_, _, h⟩ | ⟨_, l, _, _, _, h⟩
        iterate 8 (rw [hT] at h; cases h)
        exact ⟨l, h⟩
      obtain ⟨l, rfl⟩ := hst
      refine gen _ hop (fun b hb => ieq_sound (E := E) (ρ := ρ) (w := w) 20 T _ hq _ _ b _ _ hb h1 h2 10000 (by omega)) (by simp) ?_ h
      simp only [iop] at h
      split at h <;> try (cases h; done)
      rename_i b hb
      obtain ⟨xs, ys, e1, e2⟩ := ieq_st_inv hb
      rw [e1] at h1; rw [e2] at h2
      cases e3 : a.eval x <;> rw [e3] at h1 <;> cases h1
      cases e4 : a.eval y <;> rw [e4] at h2 <;> cases h2
      exact Go.run_eqGuard_agg _ _ _ _ _ _ _ (by simpa using hgt)
    · rename_i n1 n2 n3 n4
      simp only [Option.map_eq_some_iff] at hx
      obtain ⟨q, hq, rfl⟩ := hx
      have hi := trEq_inv hq
      have hqq : q ≠ .int ∧ q ≠ .str ∧ q ≠ .ifc ∧ ∀ l, q ≠ .st l := by
        rcases hi with ⟨e, h⟩ | ⟨_, _, h⟩ | ⟨_, h⟩ | ⟨e, _, h⟩ | ⟨e, _, h⟩ | ⟨e, _, _, h⟩ | ⟨e, _, _, _, h⟩ | ⟨_, _, h⟩ | ⟨_, _, h, _⟩
        · subst e; simp
        · exact absurd h (n1 _)
        · exact absurd h n2
        · subst e; simp
        · subst e; simp
        · subst e; simp
        · subst e; simp
        · exact absurd h (n3 _)
        · exact absurd h (n4 _)
      refine gen q hop (fun b hb => ieq_sound (E := E) (ρ := ρ) (w := w) 20 T _ hq _ _ b _ _ hb h1 h2 10000 (by omega)) ⟨hqq.1, hqq.2.1⟩ ?_ h
      simp only [iop] at h
      split at h <;> try (cases h; done)
      rename_i b hb
      refine eqGuard_run ?_
      generalize eval t x' = u at hb h1
      generalize eval t y' = u' at hb h2
      generalize a.eval x = c at h1 ⊢
      clear hi gen bin hq h
      unfold ieq at hb
      split at hb <;> first | (cases h1; simp; done) | (simp at hqq; done) | cases hb
  · rename_i hop
    split at hx <;> try (cases hx; done)
    all_goals (cases hx; exact bin rfl h)

end
end Im

/- Each operation but calls, part 4: conversions, lengths, slice expressions, function values, interfaces. -/
namespace Im
open Go (IntKind BinOp UnOp Program World Value Addr TypeId FuncId Code Oper Operand Op TypeDesc Sem Act run_underlying)
open Go.RowKit (Below)

section
variable {E : Env} {C : Cfg} {ρ : Ren} {H : Heap} {w : World} {t : List V} {a : Act}

/-! ### Conversions -/

theorem toBytes_inv : ∀ {l : List V} {s : List UInt8}, toBytes l = some s → ∃ ns : List Int, l = ns.map (V.int .u8) ∧ s = ns.map fun n => UInt8.ofNat n.toNat
  | [], s, h => by simp [toBytes] at h; subst h; exact ⟨[], rfl, rfl⟩
  | v :: l, s, h => by
    unfold toBytes at h
    split at h
    · rename_i heq; cases heq
    · rename_i n l2 heq
      cases heq
      split at h <;> try (cases h; done)
      rename_i r hr
      cases h
      obtain ⟨ns, h1, h2⟩ := toBytes_inv hr
      exact ⟨n :: ns, by rw [h1]; rfl, by rw [h2]; rfl⟩
    · cases h

theorem bytes_rel : ∀ {ns : List Int} {l' : List Value}, VRels E ρ (ns.map (V.int .u8)) l' → l' = ns.map (Value.int .u8)
  | [], l', h => by cases h; rfl
  | n :: ns, l', h => by
    cases h
    rename_i c l' hv hl
    cases hv
    rw [bytes_rel hl]; rfl

theorem foldl_push : ∀ (ns : List Int) (acc : ByteArray), ns.foldl (fun r n => r.push (UInt8.ofNat n.toNat)) acc = ⟨acc.data ++ (ns.map fun n => UInt8.ofNat n.toNat).toArray⟩
  | [], acc => by simp
  | n :: ns, acc => by
    rw [List.foldl_cons, foldl_push ns]
    simp [ByteArray.push]

theorem bytesVals (s : List UInt8) : ∀ (ρ : Ren), VRels E ρ (s.map fun b => V.int .u8 b.toNat) (s.map fun b => Value.int .u8 b.toNat) := by
  intro ρ
  induction s with
  | nil => exact .nil
  | cons b s ih => exact .cons _ _ _ _ (.int _ _) ih

/-- Cells that hold what is related, from the first on. -/
theorem CellsRel.of_rels {l : List V} {l' : List Value} {ρ : Ren} (h : VRels E ρ l l') (c : Array Value) (hc : ∀ (i : Nat) (u : Value), l'[i]? = some u → c[i]? = some u) : CellsRel E ρ l 0 c := by
  intro i v hv
  obtain ⟨u, hu, hr⟩ := h.get i v hv
  exact ⟨u, by rw [Nat.zero_add]; exact hc i u hu, hr⟩

/-- What freezing one cell behind a block's cells makes of it. -/
theorem freeze_heap {w : World} {b : Nat} {c : Array Value} {e : TypeId} {lo hi : Nat} (h : w.heap[b]? = some (.cells c e (lo, hi))) (k : Nat) :
    (w.freeze ⟨b, k, none⟩ 1).heap[b]? = some (.cells c e (if lo == hi then (k, k + 1) else (min lo k, max hi (k + 1)))) ∧ (∀ j, j ≠ b → (w.freeze ⟨b, k, none⟩ 1).heap[j]? = w.heap[j]?) ∧
      (w.freeze ⟨b, k, none⟩ 1).heap.size = w.heap.size := by
  simp only [Go.World.freeze, Nat.one_ne_zero, if_false]
  refine ⟨?_, fun j hj => ?_, by simp⟩
  · rw [Array.getElem?_modify, if_pos rfl, h]; rfl
  · rw [Array.getElem?_modify, if_neg (Ne.symm hj)]

theorem ok_cnb (hC : CfgOk E C) (ht : VRels E ρ t a.tmps.toList) (hr : Rel E ρ H.get H.next w) {o : Oper} {nid : Nat} {S e1 e : TypeId} {x : Operand} {x' : Opd} (ho : o.op = .convert S S x) (hS : E.P.underlying S = some (.slice e)) (he : E.P.underlying e = some (.int .u8))
    (hx' : trOpd E x = some x') {v : V} {H' : Heap} {cf : CallF} (h : iop cf C nid (.cnb x') t H = some (v, H')) : Ok E ρ H w a o nid v H' := by
  have h1 := eval_sound hC ht hx'
  simp only [iop] at h
  split at h <;> try (cases h; done)
  rename_i pa n cap e0
  split at h <;> try (cases h; done)
  rename_i ty l hreg hg
  cases h
  rw [e0] at h1
  cases e1 : a.eval x <;> rw [e1] at h1 <;> cases h1
  rename_i cap' c ha hcap
  have ha0 := ha
  unfold ARel at ha
  rw [hreg] at ha
  obtain ⟨b, off, tot, hρ, rfl⟩ := ha
  obtain ⟨b', x0, t0, g1, _, cs, el, lo, hi, g2, g3, g4, g5, g6, g7⟩ := hr.obj _ _ hg
  rw [hρ] at g1; cases g1
  obtain ⟨f1, f2, f3⟩ := freeze_heap g2 cs.size
  obtain ⟨lo', hi', hp, hd⟩ : ∃ lo' hi', (if lo == hi then (cs.size, cs.size + 1) else (min lo cs.size, max hi (cs.size + 1))) = (lo', hi') ∧ (lo' = hi' ∨ cs.size ≤ lo') := by
    by_cases e : lo = hi
    · exact ⟨cs.size, cs.size + 1, by simp [e], .inr (Nat.le_refl _)⟩
    · exact ⟨min lo cs.size, max hi (cs.size + 1), by simp [e], .inr (by omega)⟩
  rw [hp] at f1
  have hlt : pa.b < H.next := by
    rcases Nat.lt_or_ge pa.b H.next with h | h
    · exact h
    · rw [hr.fresh _ h] at hρ; cases hρ
  have hw := Post.write (S := (· = nid)) hr hg hρ (.cells cs el (lo', hi')) (o' := .cells ty l)
    ⟨cs, el, _, _, rfl, g3, g4, g5, hd, g7⟩ (w.freeze ⟨b, cs.size, none⟩ 1) ⟨rfl, rfl, rfl⟩ f3 f1 f2 hlt
  have hsame : Im.upd H.get pa.b (some (.cells ty l)) = H.get := by
    funext i; unfold Im.upd; split
    · rename_i e; rw [e, hg]
    · rfl
  rw [hsame] at hw
  refine ⟨_, _, ρ, .inl ?_, .slice _ _ _ _ _ ha0 hcap, hw⟩
  simp [Go.execOp, ho, Go.convert, run_underlying hS, run_underlying he, e1, Go.markStringish, Go.World.shape?, g2]

theorem ok_conv (hC : CfgOk E C) (ht : VRels E ρ t a.tmps.toList) (hr : Rel E ρ H.get H.next w) {o : Oper} {nid : Nat} (hn : ρ nid = none) {S D : TypeId} {x : Operand} {io : IOp} (ho : o.op = .convert S D x)
    (hx : trConv E S D x = some io) {v : V} {H' : Heap} {cf : CallF} (h : iop cf C nid io t H = some (v, H')) : Ok E ρ H w a o nid v H' := by
  unfold trConv at hx
  split at hx <;> try (cases hx; done)
  rename_i x' hx'
  have h1 := eval_sound hC ht hx'
  split at hx <;> try (cases hx; done)
  · rename_i k' k hS hD
    cases hx
    simp only [iop] at h
    cases e : eval t x' <;> rw [e] at h h1 <;> simp at h
    obtain ⟨rfl, rfl⟩ := h
    cases e1 : a.eval x <;> rw [e1] at h1 <;> cases h1
    exact .pure hr (by simp [Go.execOp, ho, Go.convert, run_underlying hS, run_underlying hD, e1, Go.Conv.intToInt]) (.int _ _)
  · rename_i hS hD
    cases hx
    simp only [iop] at h
    cases e : eval t x' <;> rw [e] at h h1 <;> simp at h
    obtain ⟨rfl, rfl⟩ := h
    cases e1 : a.eval x <;> rw [e1] at h1 <;> cases h1
    exact .pure hr (by simp [Go.execOp, ho, Go.convert, run_underlying hS, run_underlying hD, e1]) (.str _)
  · rename_i e hS hD
    split at hx <;> try (cases hx; done)
    rename_i he
    cases hx
    simp only [iop] at h
    cases e0 : eval t x' <;> rw [e0] at h h1 <;> simp at h
    · obtain ⟨rfl, rfl⟩ := h
      cases e1 : a.eval x <;> rw [e1] at h1 <;> cases h1
      exact .pure hr (c := .string ByteArray.empty) (by simp [Go.execOp, ho, Go.convert, run_underlying hS, run_underlying hD, run_underlying he, e1, Go.Conv.bytesToString]) (VRel.str (E := E) (ρ := ρ) [])
    · rename_i pa n cap
      split at h <;> try (cases h; done)
      rename_i l hl
      split at h <;> try (cases h; done)
      rename_i s hs
      simp at h; obtain ⟨rfl, rfl⟩ := h
      cases e1 : a.eval x <;> rw [e1] at h1 <;> cases h1
      rename_i cap' c ha hcap
      obtain ⟨us, k1, k2, k3⟩ := loadN_sound hC hr ha n 0 l hl
      obtain ⟨ns, m1, m2⟩ := toBytes_inv hs
      subst m1
      have m3 := bytes_rel k1
      have hload := Go.run_loadCells_list (P := E.P) w c us (fun j u hj => by simpa using k3 j u hj)
      rw [k2] at hload
      rw [m3] at hload
      have hb := Go.run_bytesToString (P := E.P) w c n cap' ns hload
      refine .pure hr (c := .string ⟨s.toArray⟩) ?_ (.str _)
      simp [Go.execOp, ho, e1, Go.run_convert_bytes_string w S D e (some c) n cap' hS he hD, hb, foldl_push, m2]
  · rename_i e hS hD
    split at hx <;> try (cases hx; done)
    rename_i he hsz
    cases hx
    simp only [iop] at h
    cases e0 : eval t x' <;> rw [e0] at h h1 <;> simp at h
    rename_i s
    obtain ⟨rfl, rfl⟩ := h
    cases e1 : a.eval x <;> rw [e1] at h1 <;> cases h1
    let cap := Go.Question.cut (.appendCap s.length 0 e) (w.tape w.drawn (.appendCap s.length 0 e))
    have hcap : s.length ≤ cap := Nat.le_add_right _ _
    let cs : Array Value := (s.map fun b => Value.int .u8 b.toNat).toArray ++ Array.replicate (cap - s.length) (.int .u8 0)
    have hcs : cs.size = cap := by simp [cs]; omega
    have hfz : ({ w with heap := w.heap.push (.cells cs e (0, 0)), drawn := w.drawn + 1 } : World).freeze ⟨w.heap.size, cap, none⟩ 1 = { w with heap := w.heap.push (.cells cs e (cap, cap + 1)), drawn := w.drawn + 1 } := by
      simp only [Go.World.freeze, Nat.one_ne_zero, if_false]
      congr 1
      apply Array.ext
      · simp
      · intro i h1 h2
        simp only [Array.getElem_modify, Array.getElem_push]
        by_cases hi : w.heap.size = i
        · subst hi; simp
        · have h3 : i < w.heap.size := by simp at h2; omega
          rw [if_neg hi, dif_pos h3, dif_pos h3]
    have hrun : (Go.convert S D (.string ⟨s.toArray⟩)).run E.P w = .ok (.slice (some ⟨w.heap.size, 0, none⟩) s.length cap)
        { w with heap := w.heap.push (.cells cs e (cap, cap + 1)), drawn := w.drawn + 1 } := by
      have hq : (Go.Question.appendCap s.length 0 e).forced = false := rfl
      have hel : (s.toArray.map fun b => Value.int .u8 b.toNat) ++ Array.replicate (cap - s.length) (.int .u8 0) = cs := by simp [cs]
      simp only [Go.convert, Sem.run_bind, run_underlying hS, run_underlying hD, run_underlying he, Go.Result.andThen_ok, Go.Conv.stringToBytes, bytes_size, Go.run_choose, hq, Bool.false_eq_true, if_false]
      show ((Go.newRow e ((s.toArray.map fun b => Value.int .u8 b.toNat) ++ Array.replicate (cap - s.length) (.int .u8 0))).run E.P w.drew).andThen _ = _
      rw [hel]
      simp only [Go.newRow, Sem.run_bind, Go.run_newObj, Go.Result.andThen_ok, Sem.run_pure, Go.markStringish, Go.run_shape, Go.World.shape?, Go.World.drew, Array.getElem?_push_size, Go.run_freeze, hcs]
      rw [hfz]
    refine ⟨.slice (some ⟨w.heap.size, 0, none⟩) s.length cap, { w with heap := w.heap.push (.cells cs e (cap, cap + 1)), drawn := w.drawn + 1 }, ρ.upd nid (w.heap.size, 0, cap), .inl (by simp [Go.execOp, ho, e1, hrun]), ?_, Heap.put_get H nid _ ▸ Post.new hr nid cap (.cells (E.tm e) (s.map fun b => .int .u8 b.toNat)) (.cells cs e (cap, cap + 1)) hn (Heap.id_lt_put H nid (.cells (E.tm e) (s.map fun b => .int .u8 b.toNat))) (Heap.next_le_put _ _ _) ?_ _⟩
    · exact .slice _ _ _ _ _ ⟨_, _, _, Ren.upd_self _ _ _, by simp⟩ ⟨rfl, _, _, _, Ren.upd_self _ _ _, by simp, hcap⟩
    · refine ⟨cs, e, cap, cap + 1, rfl, rfl, by simpa using hcap, by omega, .inr (by omega), ?_⟩
      refine CellsRel.of_rels (bytesVals s _) cs ?_
      intro i u hu
      simp only [cs]
      rw [Array.getElem?_append_left]
      · simpa using hu
      · rw [List.getElem?_eq_some_iff] at hu; obtain ⟨h, _⟩ := hu; simpa using h
  · rename_i e' e hS hD
    split at hx <;> try (cases hx; done)
    rename_i he
    split at hx <;> try (cases hx; done)
    rename_i hsd
    subst hsd
    cases hx
    exact ok_cnb (e1 := e) hC ht hr ho hD he hx' h

end
end Im

