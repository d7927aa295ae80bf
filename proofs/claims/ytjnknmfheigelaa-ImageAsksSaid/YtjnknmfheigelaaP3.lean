/- The ideal machine and the walks over it, a part (P3): see the comments ahead of each piece. No condition. -/
import Derived.ChangeSame
import Derived.ChangeArms
import Derived.ReadAgain
import Derived.ProofKit
import Derived.OpenShut
import Derived.Test.YtjnknmfheigelaaP1
import Derived.Test.YtjnknmfheigelaaM7

/- Arguments that lie in memory that was there before: what the row's reading of them gives ('trod_rt'). No condition. -/
namespace Im
open Go (IntKind BinOp UnOp Program World Value Addr TypeId FuncId DataW MemPlace)

/-- The ideal value of a value that came in. -/
def vOf : Value → Option V
  | .int k n => some (.int k n)
  | .bool b => some (.bool b)
  | .string s => some (.str s.data.toList)
  | .pointer none => some .nilp
  | .slice none 0 0 => some .nils
  | .slice (some ⟨b, o, none⟩) len cap => some (.slice ⟨.st, 2 * b, o⟩ len (.ex cap))
  | .slice (some ⟨_, _, some _⟩) len cap => some (.slice ⟨.st, 1, 0⟩ len (.ex cap))
  | _ => none

theorem vOf_rel {E : Env} {ρ : Ren} {u : Value} {v : V} (h : vOf u = some v) : VRel E ρ v u := by
  unfold vOf at h
  split at h <;> cases h
  · exact .int _ _
  · exact .bool _
  · rename_i s
    have : s = ⟨s.data.toList.toArray⟩ := by simp
    rw [this]; exact .str _
  · exact .nilp
  · exact .nils
  · exact .slice _ _ _ _ _ (.inl ⟨by simp, by simp⟩) rfl
  · exact .slice _ _ _ _ _ (.inr (by simp)) rfl

def stW (W : World) (b i : Nat) : Option V := if b % 2 = 0 then (W.cell? ⟨b / 2, i, none⟩).bind vOf else none

theorem stW_ok {E : Env} {b i : Nat} {v : V} (h : stW E.w0 b i = some v) : b % 2 = 0 ∧ b / 2 < E.w0.heap.size ∧ ∃ u, E.w0.cell? ⟨b / 2, i, none⟩ = some u ∧ VRel E (fun _ => none) v u := by
  unfold stW at h
  split at h <;> try (cases h; done)
  rename_i hb
  obtain ⟨u, hu, hv⟩ := Option.bind_eq_some_iff.1 h
  refine ⟨hb, ?_, u, hu, vOf_rel hv⟩
  unfold World.cell? at hu
  split at hu
  · rename_i h1
    exact (Array.getElem?_eq_some_iff.1 h1).1
  · cases hu

mutual
/-- A program's type is a type of plain data. -/
def tyOk (P : Program) : Ty → TypeId → Bool
  | .bool, t => match P.underlying t with | some .bool => true | _ => false
  | .int k, t => match P.underlying t with | some (.int k') => decide (k' = k) | _ => false
  | .str, t => match P.underlying t with | some .string => true | _ => false
  | .slice e, t => match P.underlying t with | some (.slice u) => decide (P.cellsOf u = e.sz) && decide (0 < e.sz) && tyOk P e u | _ => false
  | .struct fs, t => match P.underlying t with | some (.struct gs) => decide (P.cellsOf t = Ty.szs fs) && tysOk P fs 0 gs.toList | _ => false
def tysOk (P : Program) : List Ty → Nat → List Go.Field → Bool
  | [], _, [] => true
  | t :: ts, off, g :: gs => decide (g.offset = off) && decide (P.cellsOf g.type = t.sz) && tyOk P t g.type && tysOk P ts (off + t.sz) gs
  | _, _, _ => false
end

def vsOf (us : List Value) (l : List V) : Prop := All2 (fun u v => vOf u = some v) us l

theorem vsOf.app {a b : List Value} {l m : List V} (h : vsOf a l) (k : vsOf b m) : vsOf (a ++ b) (l ++ m) := All2.app h k

section
variable {H : Type} {enc : TypeId × Value → H} {P : Program} {W : World} {C : Cfg}

theorem st_loadN (hC : C.st = stW W) {b o : Nat} (HH : Heap) : ∀ {us : List Value} {l : List V} {i : Nat}, vsOf us l → (∀ j u, us[j]? = some u → W.cell? ⟨b, o + i + j, none⟩ = some u) → HH.loadN C ⟨.st, 2 * b, o⟩ i us.length = some l
  | [], [], i, _, _ => rfl
  | u :: us, v :: l, i, h, hu => by
    have h0 : HH.cellsAt C ⟨.st, 2 * b, o⟩ i = some v := by
      have := hu 0 u rfl
      simp only [Heap.cellsAt, hC, stW]
      rw [if_pos (by omega), show 2 * b / 2 = b by omega]
      simp only [Nat.add_zero] at this
      rw [this]; exact h.1
    have h1 := st_loadN hC (b := b) (o := o) HH (us := us) (l := l) (i := i + 1) h.2 (fun j x hx => by
      have := hu (j + 1) x (by simpa using hx)
      rwa [show o + (i + 1) + j = o + i + (j + 1) by omega])
    simp only [Heap.loadN, List.length_cons, h0, h1]

theorem mapM_get {α β : Type} {f : α → Option β} : ∀ {l : List α} {r : List β}, l.mapM f = some r → l.length = r.length ∧ ∀ (i : Nat) (a : α), l[i]? = some a → ∃ b, r[i]? = some b ∧ f a = some b
  | [], r, h => by simp at h; subst h; simp
  | x :: l, r, h => by
    simp only [List.mapM_cons, Option.bind_eq_bind, Option.bind_eq_some_iff, Option.pure_def, Option.some.injEq] at h
    obtain ⟨b, hb, r', hr', rfl⟩ := h
    obtain ⟨h1, h2⟩ := mapM_get hr'
    refine ⟨by simp [h1], fun i a ha => ?_⟩
    cases i with
    | zero => simp at ha; subst ha; exact ⟨b, rfl, hb⟩
    | succ i => simpa using h2 i a (by simpa using ha)

theorem cells?_get {base : Nat} {a : Addr} {n : Nat} {us : List Value} (h : W.cells? base a n = some us) : us.length = n ∧ ∀ j u, us[j]? = some u → W.cell? (a.add j) = some u := by
  unfold World.cells? at h
  split at h <;> try (cases h; done)
  obtain ⟨h1, h2⟩ := mapM_get h
  refine ⟨by simpa using h1.symm, fun j u hj => ?_⟩
  have hlt : j < n := by
    have := (List.getElem?_eq_some_iff.1 hj).1
    simp at h1; omega
  obtain ⟨b, hb, hf⟩ := h2 j j (by simp [hlt])
  rw [hj] at hb; cases hb; exact hf

theorem all2_of {α β : Type} {R : α → β → Prop} {Q : Nat → β → Prop} : ∀ (n k : Nat), (∀ i, i < n → ∃ x y, R x y ∧ Q (k + i) y) → ∃ (xs : List α) (ys : List β), xs.length = n ∧ All2 R xs ys ∧ (∀ (i : Nat) y, ys[i]? = some y → Q (k + i) y)
  | 0, k, _ => ⟨[], [], rfl, trivial, fun i y h => by simp at h⟩
  | n + 1, k, h => by
    obtain ⟨x, y, h2, h3⟩ := h 0 (by omega)
    obtain ⟨xs, ys, k1, k2, k3⟩ := all2_of (Q := Q) n (k + 1) (fun i hi => by
      obtain ⟨x, y, a2, a3⟩ := h (i + 1) (by omega)
      exact ⟨x, y, a2, by rwa [show k + 1 + i = k + (i + 1) by omega]⟩)
    refine ⟨x :: xs, y :: ys, by simp [k1], ⟨h2, k2⟩, fun i z hz => ?_⟩
    cases i with
    | zero => simp at hz; subst hz; exact h3
    | succ i => have := k3 i z (by simpa using hz); rwa [show k + 1 + i = k + (i + 1) by omega] at this

mutual
theorem trod_rt (hC : C.st = stW W) : ∀ (T : Ty) {fuel : Nat} {t : TypeId} {cs : List Value} {base : Nat} {sp : Nat → Bool} {held : Bool} {x : DataW H × List MemPlace}, tyOk P T t = true → DataW.trod enc P W base sp held fuel t cs = some x →
    ∃ (y : T.D) (l : List V), vsOf cs l ∧ ∀ HH, Rt C HH (fun _ => False) T y l
  | T, 0, t, cs, base, sp, held, x, _, h => by simp [DataW.trod] at h
  | .bool, fuel + 1, t, cs, base, sp, held, x, ht, h => by
    have hu : P.underlying t = some .bool := by
      unfold tyOk at ht; split at ht
      · assumption
      · cases ht
    unfold DataW.trod at h
    rw [hu] at h
    split at h <;> first | (rename_i h1 h2; cases h1; done) | (rename_i h1; cases h1; done) | skip
    · rename_i b _
      exact ⟨b, [.bool b], ⟨rfl, trivial⟩, fun _ => by simp [Rt]⟩
    · cases h
  | .int k, fuel + 1, t, cs, base, sp, held, x, ht, h => by
    have hu : P.underlying t = some (.int k) := by
      unfold tyOk at ht; split at ht
      · rename_i k' hk; simp at ht; subst ht; exact hk
      · cases ht
    obtain ⟨n, rfl, _, hw⟩ : ∃ n, cs = [.int k n] ∧ True ∧ (Go.Lit.int k n).wf = true := by
      obtain ⟨z, hc, _, hw⟩ := DataW.trod_int hu h
      exact ⟨z, hc, trivial, hw⟩
    simp only [Go.Lit.wf, Bool.and_eq_true, decide_eq_true_eq] at hw
    exact ⟨n, [.int k n], ⟨rfl, trivial⟩, fun _ => by simp [Rt, hw]⟩
  | .str, fuel + 1, t, cs, base, sp, held, x, ht, h => by
    have hu : P.underlying t = some .string := by
      unfold tyOk at ht; split at ht
      · assumption
      · cases ht
    unfold DataW.trod at h
    rw [hu] at h
    split at h <;> first | (rename_i h1 h2; cases h1; done) | (rename_i h1; cases h1; done) | skip
    · rename_i s _
      exact ⟨s.data.toList, [.str s.data.toList], ⟨rfl, trivial⟩, fun _ => by simp [Rt]⟩
    · cases h
  | .slice e, fuel + 1, t, cs, base, sp, held, x, ht, h => by
    obtain ⟨u, hu, hcells, hpos, hte⟩ : ∃ u, P.underlying t = some (.slice u) ∧ P.cellsOf u = e.sz ∧ 0 < e.sz ∧ tyOk P e u = true := by
      unfold tyOk at ht; split at ht
      · rename_i u hk; simp only [Bool.and_eq_true, decide_eq_true_eq] at ht; exact ⟨u, hk, ht.1.1, ht.1.2, ht.2⟩
      · cases ht
    unfold DataW.trod at h
    rw [hu] at h
    split at h <;> first | (rename_i h1 h2; cases h1; done) | (rename_i h1; cases h1; done) | skip
    · exact ⟨[], [.nils], ⟨rfl, trivial⟩, fun _ => by simp only [Rt]; exact ⟨.nils, [], rfl, .inl ⟨rfl, rfl⟩, trivial⟩⟩
    · rename_i u' a len cap h1
      cases h1
      simp only at h
      split at h <;> try (cases h; done)
      obtain ⟨es, he, _⟩ := Option.bind_eq_some_iff.1 h
      obtain ⟨hl, hg⟩ := mapM_get he
      rw [hcells] at hg
      have each : ∀ i, i < len → ∃ us z, W.cells? base (a.add (i * e.sz)) e.sz = some us ∧ DataW.trod enc P W base sp held fuel u us = some z := fun i hi => by
        obtain ⟨b, _, hb⟩ := hg i i (by simp [hi])
        obtain ⟨us, h1, h2⟩ := Option.bind_eq_some_iff.1 hb
        exact ⟨us, b, h1, h2⟩
      obtain ⟨b, o, spt⟩ := a
      cases spt with
      | some k =>
        have : len = 0 := by
          rcases Nat.eq_zero_or_pos len with h0 | h0
          · exact h0
          · obtain ⟨us, z, h1, _⟩ := each 0 h0
            obtain ⟨h3, h4⟩ := cells?_get h1
            have h5 := h4 0 (us[0]'(by omega)) (List.getElem?_eq_getElem (by omega))
            simp only [Nat.zero_mul, Addr.add, if_true, World.cell?] at h5
            split at h5 <;> cases h5
        subst this
        exact ⟨[], [.slice ⟨.st, 1, 0⟩ 0 (.ex cap)], ⟨rfl, trivial⟩, fun _ => by simp only [Rt]; exact ⟨_, [], rfl, .inr ⟨_, _, rfl, (fun h => (by cases h)), fun i c hc => by simp at hc⟩, trivial⟩⟩
      | none =>
        obtain ⟨ys, ls, h1, h2, h3⟩ := all2_of (R := fun (y : e.D) l => ∀ HH, Rt C HH (fun _ => False) e y l) (Q := fun i l => ∃ us, vsOf us l ∧ us.length = e.sz ∧ ∀ j v, us[j]? = some v → W.cell? ((⟨b, o, none⟩ : Addr).add (i * e.sz) |>.add j) = some v) len 0 (fun i hi => by
          obtain ⟨us, z, h1, h2⟩ := each i hi
          obtain ⟨y, l, k1, k2⟩ := trod_rt hC e hte h2
          obtain ⟨k3, k4⟩ := cells?_get h1
          exact ⟨y, l, k2, us, k1, k3, by rw [Nat.zero_add]; exact k4⟩)
        have hll : ls.length = len := by rw [← h2.length, h1]
        refine ⟨ys, [.slice ⟨.st, 2 * b, o⟩ len (.ex cap)], ⟨rfl, trivial⟩, fun HH => ?_⟩
        simp only [Rt]
        refine ⟨_, ls, rfl, .inr ⟨⟨.st, 2 * b, o⟩, .ex cap, by rw [hll], (fun h => (by cases h)), fun i c hc => ?_⟩, h2.mono fun y c hy => hy HH⟩
        obtain ⟨us, k1, k2, k3⟩ := h3 i c hc
        rw [Nat.zero_add] at k3
        have := st_loadN hC (b := b) (o := o + i * e.sz) HH (i := 0) k1 (fun j v hv => by
          have := k3 j v hv
          rw [addr_add, addr_add] at this
          simpa using this)
        rw [k2] at this
        rw [← this]; rfl
    · cases h
  | .struct fs, fuel + 1, t, cs, base, sp, held, x, ht, h => by
    obtain ⟨gs, hu, hcells, hts⟩ : ∃ gs, P.underlying t = some (.struct gs) ∧ P.cellsOf t = Ty.szs fs ∧ tysOk P fs 0 gs.toList = true := by
      unfold tyOk at ht; split at ht
      · rename_i u hk; simp only [Bool.and_eq_true, decide_eq_true_eq] at ht; exact ⟨u, hk, ht.1, ht.2⟩
      · cases ht
    unfold DataW.trod at h
    rw [hu] at h
    split at h <;> first | (rename_i h1 h2; cases h1; done) | (rename_i h1; cases h1; done) | skip
    · rename_i gs' h1
      cases h1
      split at h <;> try (cases h; done)
      rename_i hlen
      obtain ⟨xs, hm, _⟩ := Option.map_eq_some_iff.1 h
      obtain ⟨y, l, h1, h2⟩ := trods_rt hC fs hts (by rw [hlen, hcells]; omega) hm
      exact ⟨y, l, by simpa using h1, fun HH => by simp only [Rt]; exact h2 HH⟩
    · exact (‹∀ fs : Array Go.Field, some (Go.TypeDesc.struct gs) = some (Go.TypeDesc.struct fs) → False› gs rfl).elim
theorem trods_rt (hC : C.st = stW W) : ∀ (Ts : List Ty) {fuel off : Nat} {gs : List Go.Field} {cs : List Value} {base : Nat} {sp : Nat → Bool} {held : Bool} {xs : List (DataW H × List MemPlace)}, tysOk P Ts off gs = true → cs.length = off + Ty.szs Ts →
    gs.mapM (fun f => DataW.trod enc P W base sp held fuel f.type ((cs.drop f.offset).take (P.cellsOf f.type))) = some xs →
    ∃ (y : Ty.Ds Ts) (l : List V), vsOf (cs.drop off) l ∧ ∀ HH, Rts C HH (fun _ => False) Ts y l
  | [], fuel, off, gs, cs, base, sp, held, xs, ht, hl, h => by
    refine ⟨(), [], ?_, fun _ => by simp [Rts]⟩
    rw [List.drop_eq_nil_of_le (by simp [Ty.szs] at hl; omega)]; trivial
  | [t], fuel, off, gs, cs, base, sp, held, xs, ht, hl, h => by
    cases gs with
    | nil => simp [tysOk] at ht
    | cons g gs =>
      simp only [tysOk, Bool.and_eq_true, decide_eq_true_eq] at ht
      obtain ⟨⟨⟨h1, h2⟩, h3⟩, h4⟩ := ht
      simp only [List.mapM_cons, Option.bind_eq_bind, Option.bind_eq_some_iff] at h
      obtain ⟨b, hb, _⟩ := h
      rw [h1, h2] at hb
      obtain ⟨y, l, k1, k2⟩ := trod_rt hC t h3 hb
      simp only [Ty.szs, Nat.add_zero] at hl
      rw [List.take_of_length_le (by simp; omega)] at k1
      exact ⟨y, l, k1, fun HH => by simp only [Rts]; exact k2 HH⟩
  | t :: u :: ts, fuel, off, gs, cs, base, sp, held, xs, ht, hl, h => by
    cases gs with
    | nil => simp [tysOk] at ht
    | cons g gs =>
      rw [tysOk] at ht
      simp only [Bool.and_eq_true, decide_eq_true_eq] at ht
      obtain ⟨⟨⟨h1, h2⟩, h3⟩, h4⟩ := ht
      simp only [List.mapM_cons, Option.bind_eq_bind, Option.bind_eq_some_iff] at h
      obtain ⟨b, hb, ys, hys, _⟩ := h
      rw [h1, h2] at hb
      obtain ⟨y, l, k1, k2⟩ := trod_rt hC t h3 hb
      rw [Ty.szs] at hl
      obtain ⟨z, m, k3, k4⟩ := trods_rt hC (u :: ts) h4 (by omega) hys
      refine ⟨(y, z), l ++ m, ?_, fun HH => ?_⟩
      · have := vsOf.app k1 k3
        rwa [show (cs.drop off).take t.sz ++ cs.drop (off + t.sz) = cs.drop off by rw [← List.drop_drop, List.take_append_drop]] at this
      · rw [Rts]; exact ⟨l, m, rfl, k2 HH, k4 HH⟩
end

end
end Im

/- Rows over plain data: what comes in is read as ideal values; behind the call it reads as it did. No condition. -/
namespace Im
open Go (IntKind BinOp UnOp Program World Value Addr TypeId FuncId DataW MemPlace)
open Go.RowKit (Below)

section
variable {H : Type} {enc : TypeId × Value → H} {P : Program} {W W' : World}

theorem trodAll_carry {base : Nat} {sp : Nat → Bool} {held : Bool} : ∀ {ts : List TypeId} {vs : List Value} {ds : List (DataW H)} {ps : List MemPlace}, DataW.TrodAll enc P W base sp held ts vs ds ps → (∀ p ∈ ps, W.sameAt W' p) → DataW.TrodAll enc P W' base sp held ts vs ds ps
  | [], [], [], _, h, _ => h
  | _ :: _, _ :: _, _ :: _, _, ⟨p, q, ⟨n, h1⟩, h2, e⟩, hs => ⟨p, q, ⟨n, DataW.trod_carry n _ _ _ h1 (fun x hx => hs x (by rw [e]; exact List.mem_append_left _ hx))⟩, trodAll_carry h2 (fun x hx => hs x (by rw [e]; exact List.mem_append_right _ hx)), e⟩
  | [], [], _ :: _, _, h, _ => h.elim
  | [], _ :: _, _, _, h, _ => h.elim
  | _ :: _, [], _, _, h, _ => h.elim
  | _ :: _, _ :: _, [], _, h, _ => h.elim

/-- What was read ahead of the call reads so behind it. -/
theorem reads_again (hl : Go.laidOutB P = true) (hm : Go.mapsRowed P = true) (hz : ((List.range P.types.size).all fun t => match P.underlying t with | some (.slice e) => decide (0 < P.cellsOf e) | _ => true) = true) {ts : List TypeId} {vs : List Value} {ds : List (DataW H)} {ps : List MemPlace} (hts : ∀ t ∈ ts, t < P.types.size)
    (h : DataW.TrodAll enc P W 0 (fun _ => true) true ts vs ds ps) (hlt : ∀ p ∈ ps, p.block < W.heap.size) (hb : Below W.heap.size W W') : DataW.TrodAll enc P W' 0 (fun b => decide (b < W.heap.size)) true ts vs ds ps :=
  trodAll_carry (h.respare (Go.kids_rows hl hm) (Go.slices_full_of P hz) hts (fun p hp => by simpa using hlt p hp)) (fun p hp => hb.same (hlt p hp))

/-- The ideal value of an argument whose cells are l. -/
def argV : Ty → List V → V
  | .struct _, l => .agg l
  | _, l => l.headD .undef

theorem vsOf_rels {E : Env} {ρ : Ren} : ∀ {us : List Value} {l : List V}, vsOf us l → VRels E ρ l us
  | [], [], _ => .nil
  | u :: us, v :: l, h => .cons _ _ _ _ (vOf_rel h.1) (vsOf_rels h.2)

theorem arg_ok {E : Env} {C : Cfg} (hC : C.st = stW W) {T : Ty} {t : TypeId} {v : Value} {d : DataW H} {ps : List MemPlace} {base : Nat} {sp : Nat → Bool} {held : Bool} (hval : Value.okWide P W .any base t v) (ht : tyOk P T t = true) (hd : DataW.Trod enc P W 0 sp held t v d ps) :
    ∃ (y : T.D) (l : List V), VRel E (fun _ => none) (argV T l) v ∧ ∀ HH, Rt C HH (fun _ => False) T y l := by
  obtain ⟨n, hn⟩ := hd
  obtain ⟨y, l, h1, h2⟩ := trod_rt hC T ht hn
  refine ⟨y, l, ?_, h2⟩
  have one : (∀ fs, T ≠ .struct fs) → v.cells.toList = [v] → VRel E (fun _ => none) (argV T l) v := by
    intro hT hc
    rw [hc] at h1
    cases l with
    | nil => exact h1.elim
    | cons w l =>
      have : argV T (w :: l) = w := by cases T <;> first | rfl | exact absurd rfl (hT _)
      rw [this]; exact vOf_rel h1.1
  cases T with
  | struct fs =>
    have hu : ∃ gs, P.underlying t = some (.struct gs) := by
      unfold tyOk at ht; split at ht
      · exact ⟨_, by assumption⟩
      · cases ht
    obtain ⟨gs, hu⟩ := hu
    unfold Value.okWide at hval
    rw [hu] at hval
    obtain ⟨cs, rfl, _⟩ := hval
    have := vsOf_rels (E := E) (ρ := fun _ => none) h1
    simp only [Value.cells] at this
    exact .agg l _ this
  | bool =>
    have hu : P.underlying t = some .bool := by unfold tyOk at ht; split at ht <;> first | assumption | cases ht
    unfold Value.okWide Go.Cell.okWide Go.Cell.ok at hval
    rw [hu] at hval
    cases v <;> first | exact hval.elim | exact one (fun _ h => by cases h) rfl
  | int k =>
    have hu : ∃ k', P.underlying t = some (.int k') := by unfold tyOk at ht; split at ht <;> first | exact ⟨_, by assumption⟩ | cases ht
    obtain ⟨k', hu⟩ := hu
    unfold Value.okWide Go.Cell.okWide Go.Cell.ok at hval
    rw [hu] at hval
    cases v <;> first | exact hval.elim | exact one (fun _ h => by cases h) rfl
  | str =>
    have hu : P.underlying t = some .string := by unfold tyOk at ht; split at ht <;> first | assumption | cases ht
    unfold Value.okWide Go.Cell.okWide Go.Cell.ok at hval
    rw [hu] at hval
    cases v <;> first | exact hval.elim | exact one (fun _ h => by cases h) rfl
  | slice e =>
    have hu : ∃ u, P.underlying t = some (.slice u) := by unfold tyOk at ht; split at ht <;> first | exact ⟨_, by assumption⟩ | cases ht
    obtain ⟨u, hu⟩ := hu
    unfold Value.okWide Go.Cell.okWide Go.Cell.ok at hval
    rw [hu] at hval
    cases v <;> first | exact hval.elim | exact one (fun _ h => by cases h) rfl
end

/-- A machine over the memory that was there, and a table of functions. -/
def cfgS (tab : List (Nat × IFun)) (W : World) : Cfg := { fns := look tab, st := stW W, gl := fun _ _ => none, prim := fun _ => none }

/-- What a run of the law says of the program. -/
theorem law_runs {E : Env} {tab : List (Nat × IFun)} (hfm : E.fm = fmOf tab) (hgm : ∀ g, E.gm g = none) (h : TabOk E tab) {f : Nat} (hf : (look tab f).isSome = true) {args : List V} {args' : List Value} (ha : VRels E (fun _ => none) args args')
    (hrun : ∃ n v H', icall (cfgS tab E.w0) n (.fn f) args Heap.empty = some (v, H') ∧ v = .bool true) :
    Go.Calls E.P f args'.toArray E.w0 fun e w' => e = .returned (.bool true) ∧ Below E.w0.heap.size E.w0 w' := by
  obtain ⟨n, v, H', hr, rfl⟩ := hrun
  have hf' : E.fm f = some f := by rw [hfm]; simp [fmOf, hf]
  have hF : FnsOk E (cfgS tab E.w0) := ⟨(fnsOk_of hfm h).fns, fun f p h => by simp [cfgS] at h, fun f p args H v H' h => by simp [cfgS] at h⟩
  have hCf : CfgOk E (cfgS tab E.w0) := ⟨fun b i v h => stW_ok h, fun m g i v h => (by rw [hgm] at h; cases h), fun g m h => (by rw [hgm] at h; cases h)⟩
  have := runs (envOk_of hfm h) hCf hF hf' ha hr
  intro cs
  obtain ⟨e, w', fr, ⟨ρ, c, h1, h2, h3⟩, rest⟩ := this cs
  cases h2
  exact ⟨e, w', fr, ⟨h1, h3⟩, rest⟩

end Im

