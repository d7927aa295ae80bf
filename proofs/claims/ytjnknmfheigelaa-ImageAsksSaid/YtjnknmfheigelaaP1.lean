/- The ideal machine and the walks over it, a part (P1): see the comments ahead of each piece. No condition. -/
import Derived.IntWalk
import Derived.Test.YtjnknmfheigelaaM7

/- Walks over the ideal machine: what is known of the slots ('Fs'), one operation ('OpR'), a region ('WO'), code ('WX'), a call ('Calls'). No condition. -/
namespace Im
open Go (IntKind BinOp UnOp)

/-! ## Known slots -/

abbrev Fs := List (Nat × V)

def lk : Fs → Nat → Option V
  | [], _ => none
  | (k, v) :: r, i => match Nat.beq k i with
    | true => some v
    | false => lk r i

def ev (fs : Fs) : Opd → Option V
  | .t i => lk fs i
  | .c v => some v
  | .g n => some (.ptr ⟨.gl, n, 0⟩)
  | .f n => some (.fn n [] [])

def evs (fs : Fs) : List Opd → Option (List V)
  | [] => some []
  | x :: xs => match ev fs x, evs fs xs with
    | some v, some l => some (v :: l)
    | _, _ => none

def evO (fs : Fs) : Option Opd → Option (Option V)
  | none => some none
  | some x => match ev fs x with
    | some v => some (some v)
    | none => none

def Knows (fs : Fs) (t : List V) : Prop := ∀ i v, lk fs i = some v → t[i]? = some v

def Sub : Fs → Fs → Prop
  | [], _ => True
  | (i, v) :: f, g => lk g i = some v ∧ Sub f g

theorem lk_cons (k : Nat) (v : V) (r : Fs) (i : Nat) : lk ((k, v) :: r) i = if k = i then some v else lk r i := by
  cases h : Nat.beq k i with
  | true => simp only [lk, h, if_pos (Nat.eq_of_beq_eq_true h)]
  | false => simp only [lk, h, if_neg (Nat.ne_of_beq_eq_false h)]

theorem blt_lt {a b : Nat} (h : Nat.blt a b = true) : a < b := by simpa [Nat.blt_eq] using h
theorem ble_le {a b : Nat} (h : Nat.ble a b = true) : a ≤ b := by simpa [Nat.ble_eq] using h

theorem Sub.lk : ∀ {f g : Fs}, Sub f g → ∀ i v, Im.lk f i = some v → Im.lk g i = some v
  | [], _, _, i, v, h => by simp [Im.lk] at h
  | (k, u) :: f, g, hs, i, v, h => by
    rw [lk_cons] at h
    split at h
    · rename_i hk; cases h; subst hk; exact hs.1
    · exact hs.2.lk i v h

theorem Knows.sub {f g : Fs} {t : List V} (h : Sub f g) (k : Knows g t) : Knows f t := fun i v hv => k i v (h.lk i v hv)
theorem Knows.nil (t : List V) : Knows [] t := fun i v h => by simp [Im.lk] at h

theorem Knows.ev {fs : Fs} {t : List V} (h : Knows fs t) {x : Opd} {v : V} (hx : Im.ev fs x = some v) : eval t x = v := by
  cases x <;> simp only [Im.ev] at hx
  · simp [eval, h _ _ hx]
  all_goals (cases hx; rfl)

theorem Knows.evs {fs : Fs} {t : List V} (h : Knows fs t) : ∀ {xs : List Opd} {l : List V}, Im.evs fs xs = some l → xs.map (eval t) = l
  | [], l, hx => by cases hx; rfl
  | x :: xs, l, hx => by
    simp only [Im.evs] at hx
    split at hx <;> try (cases hx; done)
    rename_i h1 h2
    cases hx
    rw [List.map_cons, h.ev h1, h.evs h2]

theorem Knows.evO {fs : Fs} {t : List V} (h : Knows fs t) {x : Option Opd} {v : Option V} (hx : Im.evO fs x = some v) : evalO t x = v := by
  cases x with
  | none => cases hx; rfl
  | some x =>
    simp only [Im.evO] at hx
    split at hx <;> try (cases hx; done)
    rename_i h1
    cases hx
    simp [evalO, h.ev h1]

theorem Knows.set {fs : Fs} {t : List V} (h : Knows fs t) {d : Nat} (hd : d < t.length) (v : V) : Knows ((d, v) :: fs) (t.set d v) := by
  intro i u hu
  rw [lk_cons] at hu
  split at hu
  · rename_i hk; cases hu; subst hk; simp [hd]
  · rename_i hk
    rw [List.getElem?_set_ne hk]; exact h i u hu

/-- What is known at a call's begin. -/
def fsOf : List V → Nat → Fs
  | [], _ => []
  | v :: vs, i => (i, v) :: fsOf vs (i + 1)

theorem lk_fsOf : ∀ (l : List V) (j i : Nat), lk (fsOf l j) i = if j ≤ i then l[i - j]? else none
  | [], j, i => by simp [fsOf, lk]
  | v :: vs, j, i => by
    rw [fsOf, lk_cons, lk_fsOf vs]
    by_cases h : j = i
    · subst h; simp
    · rw [if_neg h]
      by_cases h1 : j + 1 ≤ i
      · rw [if_pos h1, if_pos (by omega)]
        have : i - j = (i - (j + 1)) + 1 := by omega
        rw [this, List.getElem?_cons_succ]
      · rw [if_neg h1, if_neg (by omega)]

theorem Knows.init (args l : List V) : Knows (fsOf args 0) (args ++ l) := by
  intro i v h
  rw [lk_fsOf] at h
  simp at h
  obtain ⟨h1, h2⟩ := List.getElem?_eq_some_iff.1 h
  rw [List.getElem?_append_left h1, h]

/-! ## One operation -/

/-- A call answers so. -/
def Calls (C : Cfg) (c : Callee) (args : List V) (H : Heap) (R : V → Heap → Prop) : Prop :=
  ∃ n v H', icall C n c args H = some (v, H') ∧ R v H'

theorem Calls.mono {C : Cfg} {c : Callee} {args : List V} {H : Heap} {R S : V → Heap → Prop} (h : Calls C c args H R) (k : ∀ v H', R v H' → S v H') : Calls C c args H S :=
  let ⟨n, v, H', h1, h2⟩ := h; ⟨n, v, H', h1, k v H' h2⟩

def OpR (C : Cfg) (fs : Fs) (op : IOp) (nid : Nat) (H : Heap) (R : V → Heap → Prop) : Prop :=
  ∀ t, Knows fs t → ∃ n v H1, iop (icall C n) C nid op t H = some (v, H1) ∧ R v H1

section
variable {C : Cfg} {fs : Fs} {nid : Nat} {H : Heap} {R : V → Heap → Prop}

theorem OpR.mono {op : IOp} {S : V → Heap → Prop} (h : OpR C fs op nid H S) (k : ∀ v H', S v H' → R v H') : OpR C fs op nid H R := fun t ht =>
  let ⟨n, v, H1, h1, h2⟩ := h t ht; ⟨n, v, H1, h1, k _ _ h2⟩

theorem OpR.of {op : IOp} {v : V} {H1 : Heap} (h : ∀ t, Knows fs t → iop (icall C 0) C nid op t H = some (v, H1)) (k : R v H1) : OpR C fs op nid H R :=
  fun t ht => ⟨0, v, H1, h t ht, k⟩

theorem OpR.mv {x : Opd} {v : V} (hx : ev fs x = some v) (k : R v H) : OpR C fs (.mv x) nid H R := .of (fun t ht => by simp [iop, ht.ev hx]) k
theorem OpR.pick {c x y : Opd} {b : Bool} {v w : V} (hc : ev fs c = some (.bool b)) (hx : ev fs x = some v) (hy : ev fs y = some w) (k : R (match b with | true => v | false => w) H) : OpR C fs (.pick c x y) nid H R :=
  .of (fun t ht => by cases b <;> simp [iop, ht.ev hc, ht.ev hx, ht.ev hy]) k
theorem OpR.pickT {c x y : Opd} {v : V} (hc : ev fs c = some (.bool true)) (hx : ev fs x = some v) (k : R v H) : OpR C fs (.pick c x y) nid H R :=
  .of (fun t ht => by simp [iop, ht.ev hc, ht.ev hx]) k
theorem OpR.pickF {c x y : Opd} {v : V} (hc : ev fs c = some (.bool false)) (hy : ev fs y = some v) (k : R v H) : OpR C fs (.pick c x y) nid H R :=
  .of (fun t ht => by simp [iop, ht.ev hc, ht.ev hy]) k
theorem OpR.nilck {x : Opd} {a : PA} (hx : ev fs x = some (.ptr a)) (k : R (.ptr a) H) : OpR C fs (.nilck x) nid H R := .of (fun t ht => by simp [iop, ht.ev hx]) k
theorem OpR.nilckF {x : Opd} {f : Nat} {p q : List V} (hx : ev fs x = some (.fn f p q)) (k : R (.fn f p q) H) : OpR C fs (.nilck x) nid H R := .of (fun t ht => by simp [iop, ht.ev hx]) k
theorem OpR.nilckY {x : Opd} {l : Nat} (hx : ev fs x = some (.yld l)) (k : R (.yld l) H) : OpR C fs (.nilck x) nid H R := .of (fun t ht => by simp [iop, ht.ev hx]) k
theorem OpR.box {ty : Nat} {x : Opd} {v : V} (hx : ev fs x = some v) (k : R (.ptr ⟨.own, nid, 0⟩) (H.put nid (.cells ty v.cells))) : OpR C fs (.box ty x) nid H R :=
  .of (fun t ht => by simp [iop, ht.ev hx]) k
theorem OpR.alc {ty : Nat} {z : List V} (k : R (.ptr ⟨.own, nid, 0⟩) (H.put nid (.cells ty z))) : OpR C fs (.alc ty z) nid H R := .of (fun t ht => by simp [iop]) k

/-- Parts laid into zero cells. -/
def fillF (fs : Fs) : List V → List (Nat × Nat × Opd) → Option (List V)
  | z, [] => some z
  | z, (off, n, x) :: ps => match ev fs x with
    | some v => if v.cells.length = n ∧ off + n ≤ z.length then fillF fs (setAt z off v.cells) ps else none
    | none => none

theorem Knows.fill {fs : Fs} {t : List V} (h : Knows fs t) : ∀ {ps : List (Nat × Nat × Opd)} {z l : List V}, fillF fs z ps = some l → fillP t z ps = some l
  | [], z, l, hx => hx
  | (off, n, x) :: ps, z, l, hx => by
    unfold fillF at hx
    split at hx <;> try (cases hx; done)
    rename_i v hv
    split at hx <;> try (cases hx; done)
    rename_i hc
    unfold fillP
    rw [h.ev hv, if_pos hc]; exact h.fill hx

theorem OpR.build {z l : List V} {ps : List (Nat × Nat × Opd)} (hp : fillF fs z ps = some l) (k : R (.agg l) H) : OpR C fs (.build z ps) nid H R := .of (fun t ht => by simp [iop, ht.fill hp]) k
theorem OpR.bslice {ty n : Nat} {z l : List V} {ps : List (Nat × Nat × Opd)} (hp : fillF fs z ps = some l) (k : R (.slice ⟨.own, nid, 0⟩ n (.ex n)) (H.put nid (.cells ty l))) : OpR C fs (.bslice ty n z ps) nid H R :=
  .of (fun t ht => by simp [iop, ht.fill hp]) k
theorem OpR.ld {x : Opd} {a : PA} {v : V} (hx : ev fs x = some (.ptr a)) (hv : H.cellsAt C a 0 = some v) (k : R v H) : OpR C fs (.ld x) nid H R := .of (fun t ht => by simp [iop, ht.ev hx, hv]) k
theorem OpR.ldn {x : Opd} {n : Nat} {a : PA} {l : List V} (hx : ev fs x = some (.ptr a)) (hv : H.loadN C a 0 n = some l) (k : R (.agg l) H) : OpR C fs (.ldn n x) nid H R := .of (fun t ht => by simp [iop, ht.ev hx, hv]) k
theorem OpR.st {x y : Opd} {n : Nat} {a : PA} {v : V} {H' : Heap} (hx : ev fs x = some (.ptr a)) (hy : ev fs y = some v) (hn : v.cells.length = n) (hs : H.storeN a v.cells = some H') (k : R .undef H') : OpR C fs (.st n x y) nid H R :=
  .of (fun t ht => by simp [iop, ht.ev hx, ht.ev hy, hs, hn]) k
theorem OpR.fa {x : Opd} {off : Nat} {a : PA} (hx : ev fs x = some (.ptr a)) (k : R (.ptr (a.add off)) H) : OpR C fs (.fa off x) nid H R := .of (fun t ht => by simp [iop, ht.ev hx]) k
theorem OpR.ias {x i : Opd} {e len : Nat} {a : PA} {c : Cap} {kd : IntKind} {n : Int} (hx : ev fs x = some (.slice a len c)) (hi : ev fs i = some (.int kd n)) (h0 : 0 ≤ n) (h1 : n < (len : Int)) (k : R (.ptr (a.add (n.toNat * e))) H) :
    OpR C fs (.ias e x i) nid H R := .of (fun t ht => by simp [iop, ht.ev hx, ht.ev hi, h0, h1]) k
theorem OpR.iaa {x i : Opd} {e len : Nat} {a : PA} {kd : IntKind} {n : Int} (hx : ev fs x = some (.ptr a)) (hi : ev fs i = some (.int kd n)) (h0 : 0 ≤ n) (h1 : n < (len : Int)) (k : R (.ptr (a.add (n.toNat * e))) H) :
    OpR C fs (.iaa len e x i) nid H R := .of (fun t ht => by simp [iop, ht.ev hx, ht.ev hi, h0, h1]) k
theorem OpR.fld {x : Opd} {off : Nat} {l : List V} {v : V} (hx : ev fs x = some (.agg l)) (hv : l[off]? = some v) (k : R v H) : OpR C fs (.fld off x) nid H R := .of (fun t ht => by simp [iop, ht.ev hx, hv]) k
theorem OpR.fldn {x : Opd} {off n : Nat} {l : List V} (hx : ev fs x = some (.agg l)) (k : R (.agg ((l.drop off).take n)) H) : OpR C fs (.fldn off n x) nid H R := .of (fun t ht => by simp [iop, ht.ev hx]) k
theorem OpR.idxs {x i : Opd} {s : List UInt8} {kd : IntKind} {n : Int} {b : UInt8} (hx : ev fs x = some (.str s)) (hi : ev fs i = some (.int kd n)) (h0 : 0 ≤ n) (h1 : s[n.toNat]? = some b) (k : R (.int .u8 b.toNat) H) :
    OpR C fs (.idxs x i) nid H R := .of (fun t ht => by simp [iop, ht.ev hx, ht.ev hi, h0, h1]) k
theorem OpR.idxa {x i : Opd} {len : Nat} {l : List V} {kd : IntKind} {n : Int} {v : V} (hx : ev fs x = some (.agg l)) (hi : ev fs i = some (.int kd n)) (h0 : 0 ≤ n) (h1 : n < (len : Int)) (hv : l[n.toNat]? = some v) (k : R v H) :
    OpR C fs (.idxa len x i) nid H R := .of (fun t ht => by simp [iop, ht.ev hx, ht.ev hi, h0, h1, hv]) k
theorem OpR.idxn {x i : Opd} {len m : Nat} {l : List V} {kd : IntKind} {n : Int} (hx : ev fs x = some (.agg l)) (hi : ev fs i = some (.int kd n)) (h0 : 0 ≤ n) (h1 : n < (len : Int)) (k : R (.agg ((l.drop (n.toNat * m)).take m)) H) :
    OpR C fs (.idxn len m x i) nid H R := .of (fun t ht => by simp [iop, ht.ev hx, ht.ev hi, h0, h1]) k
theorem OpR.ext {x : Opd} {i : Nat} {l : List V} {v : V} (hx : ev fs x = some (.tup l)) (hv : l[i]? = some v) (k : R v H) : OpR C fs (.ext i x) nid H R := .of (fun t ht => by simp [iop, ht.ev hx, hv]) k
theorem OpR.bin {op : BinOp} {x y : Opd} {v w r : V} (hx : ev fs x = some v) (hy : ev fs y = some w) (hr : ibin op v w = some r) (k : R r H) : OpR C fs (.bin op x y) nid H R := .of (fun t ht => by simp [iop, ht.ev hx, ht.ev hy, hr]) k
theorem OpR.eq {neg : Bool} {q : EqT} {x y : Opd} {v w : V} {b : Bool} (hx : ev fs x = some v) (hy : ev fs y = some w) (hr : ieq q v w = some b) (k : R (.bool (match neg with | true => !b | false => b)) H) : OpR C fs (.eq neg q x y) nid H R :=
  .of (fun t ht => by cases neg <;> simp [iop, ht.ev hx, ht.ev hy, hr]) k
theorem OpR.un {op : UnOp} {x : Opd} {v r : V} (hx : ev fs x = some v) (hr : iun op v = some r) (k : R r H) : OpR C fs (.un op x) nid H R := .of (fun t ht => by simp [iop, ht.ev hx, hr]) k
theorem OpR.cint {kd k0 : IntKind} {x : Opd} {n : Int} (hx : ev fs x = some (.int k0 n)) (k : R (.int kd (kd.wrap n)) H) : OpR C fs (.cint kd x) nid H R := .of (fun t ht => by simp [iop, ht.ev hx]) k
theorem OpR.cid {x : Opd} {s : List UInt8} (hx : ev fs x = some (.str s)) (k : R (.str s) H) : OpR C fs (.cid x) nid H R := .of (fun t ht => by simp [iop, ht.ev hx]) k
theorem OpR.cbsN {x : Opd} (hx : ev fs x = some .nils) (k : R (.str []) H) : OpR C fs (.cbs x) nid H R := .of (fun t ht => by simp [iop, ht.ev hx]) k
theorem OpR.cbs {x : Opd} {a : PA} {n : Nat} {c : Cap} {l : List V} {s : List UInt8} (hx : ev fs x = some (.slice a n c)) (hl : H.loadN C a 0 n = some l) (hs : toBytes l = some s) (k : R (.str s) H) : OpR C fs (.cbs x) nid H R :=
  .of (fun t ht => by simp [iop, ht.ev hx, hl, hs]) k
theorem OpR.csb {ty : Nat} {x : Opd} {s : List UInt8} (hx : ev fs x = some (.str s)) (k : R (.slice ⟨.own, nid, 0⟩ s.length (.un 1)) (H.put nid (.cells ty (s.map fun b => .int .u8 b.toNat)))) : OpR C fs (.csb ty x) nid H R :=
  .of (fun t ht => by simp [iop, ht.ev hx]) k
theorem OpR.lens {x : Opd} {s : List UInt8} (hx : ev fs x = some (.str s)) (k : R (i64 s.length) H) : OpR C fs (.lens x) nid H R := .of (fun t ht => by simp [iop, ht.ev hx]) k
theorem OpR.lenN {x : Opd} (hx : ev fs x = some .nils) (k : R (i64 0) H) : OpR C fs (.len x) nid H R := .of (fun t ht => by simp [iop, ht.ev hx]) k
theorem OpR.len {x : Opd} {a : PA} {n : Nat} {c : Cap} (hx : ev fs x = some (.slice a n c)) (k : R (i64 n) H) : OpR C fs (.len x) nid H R := .of (fun t ht => by simp [iop, ht.ev hx]) k
theorem OpR.lena {n : Nat} (k : R (i64 n) H) : OpR C fs (.lena n) nid H R := .of (fun t ht => by simp [iop]) k
theorem OpR.lenm {x : Opd} {id : Nat} {es : List (V × V)} (hx : ev fs x = some (.map id)) (hg : H.get id = some (.map es)) (k : R (i64 es.length) H) : OpR C fs (.lenm x) nid H R := .of (fun t ht => by simp [iop, ht.ev hx, hg]) k
theorem OpR.slcs {x : Opd} {lo hi : Option Opd} {s : List UInt8} {l h : Option V} {v : V} (hx : ev fs x = some (.str s)) (hl : evO fs lo = some l) (hh : evO fs hi = some h) (hv : slcStr s l h = some v) (k : R v H) : OpR C fs (.slcs x lo hi) nid H R :=
  .of (fun t ht => by simp [iop, ht.ev hx, ht.evO hl, ht.evO hh, hv]) k
theorem OpR.slc {e : Nat} {x : Opd} {lo hi mx : Option Opd} {v r : V} {l h m : Option V} (hx : ev fs x = some v) (hl : evO fs lo = some l) (hh : evO fs hi = some h) (hm : evO fs mx = some m) (hv : islc e v l h m = some r) (k : R r H) :
    OpR C fs (.slc e x lo hi mx) nid H R := .of (fun t ht => by simp [iop, ht.ev hx, ht.evO hl, ht.evO hh, ht.evO hm, hv]) k
theorem OpR.slca {n e : Nat} {x : Opd} {lo hi mx : Option Opd} {a : PA} {r : V} {l h m : Option V} (hx : ev fs x = some (.ptr a)) (hl : evO fs lo = some l) (hh : evO fs hi = some h) (hm : evO fs mx = some m) (hv : slcEx e (some a) n n l h m = some r) (k : R r H) :
    OpR C fs (.slca n e x lo hi mx) nid H R := .of (fun t ht => by simp [iop, ht.ev hx, ht.evO hl, ht.evO hh, ht.evO hm, hv]) k
theorem OpR.call {f : Nat} {args : List Opd} {l : List V} (hl : evs fs args = some l) (h : Calls C (.fn f) l H R) : OpR C fs (.call f args) nid H R := fun t ht => by
  obtain ⟨n, v, H', h1, h2⟩ := h
  exact ⟨n, v, H', by simp [iop, ht.evs hl, h1], h2⟩
theorem OpR.callv {x : Opd} {f : Nat} {p q : List V} {args : List Opd} {l : List V} (hx : ev fs x = some (.fn f p q)) (hl : evs fs args = some l) (h : Calls C (.fn f) (p ++ l ++ q) H R) : OpR C fs (.callv x args) nid H R := fun t ht => by
  obtain ⟨n, v, H', h1, h2⟩ := h
  exact ⟨n, v, H', by simp only [iop, icallv, ht.ev hx, ht.evs hl, h1], h2⟩
theorem OpR.cally {x : Opd} {lid : Nat} {args : List Opd} {l : List V} (hx : ev fs x = some (.yld lid)) (hl : evs fs args = some l) (h : Calls C (.rnd lid) l H R) : OpR C fs (.callv x args) nid H R := fun t ht => by
  obtain ⟨n, v, H', h1, h2⟩ := h
  exact ⟨n, v, H', by simp only [iop, icallv, ht.ev hx, ht.evs hl, h1], h2⟩
theorem OpR.app {s : Bool} {ty e : Nat} {x y : Opd} {v w r : V} {H' : Heap} (hx : ev fs x = some v) (hy : ev fs y = some w) (hr : iapp C nid s ty e v w H = some (r, H')) (k : R r H') : OpR C fs (.app s ty e x y) nid H R :=
  .of (fun t ht => by simp [iop, ht.ev hx, ht.ev hy, hr]) k
theorem OpR.mkf {f : Nat} {p q : List Opd} {l m : List V} (hp : evs fs p = some l) (hq : evs fs q = some m) (k : R (.fn f l m) H) : OpR C fs (.mkf f p q) nid H R := .of (fun t ht => by simp [iop, ht.evs hp, ht.evs hq]) k
theorem OpR.mks {ty : Nat} {z : List V} {x y : Opd} {k1 k2 : IntKind} {l c : Int} (hx : ev fs x = some (.int k1 l)) (hy : ev fs y = some (.int k2 c)) (h0 : 0 ≤ l) (h1 : l ≤ c) (h2 : c ≤ 16777216)
    (k : R (.slice ⟨.own, nid, 0⟩ l.toNat (.ex c.toNat)) (H.put nid (.cells ty (repl c.toNat z)))) : OpR C fs (.mks ty z x y) nid H R := .of (fun t ht => by simp [iop, ht.ev hx, ht.ev hy, h0, h1, h2]) k
theorem OpR.mkm (k : R (.map nid) (H.put nid (.map []))) : OpR C fs .mkm nid H R := .of (fun t ht => by simp [iop]) k
theorem OpR.mif {ty : Nat} {x : Opd} {v : V} (hx : ev fs x = some v) (k : R (.iface ty v) H) : OpR C fs (.mif ty x) nid H R := .of (fun t ht => by simp [iop, ht.ev hx]) k
theorem OpR.mmax {xs : List Opd} {l : List V} {v : V} (hl : evs fs xs = some l) (hv : imax l = some v) (k : R v H) : OpR C fs (.mmax xs) nid H R := .of (fun t ht => by simp [iop, ht.evs hl, hv]) k
theorem OpR.mmin {xs : List Opd} {l : List V} {v : V} (hl : evs fs xs = some l) (hv : imin l = some v) (k : R v H) : OpR C fs (.mmin xs) nid H R := .of (fun t ht => by simp [iop, ht.evs hl, hv]) k
theorem OpR.lkup {kt : Nat} {ok : Bool} {z : V} {x y : Opd} {id : Nat} {kv : V} {es : List (V × V)} {r : Option V} (hx : ev fs x = some (.map id)) (hy : ev fs y = some kv) (ht : tagOf kv = kt) (hg : H.get id = some (.map es)) (hf : findKey kv es = some r)
    (k : R (if ok then .tup [r.getD z, .bool r.isSome] else r.getD z) H) : OpR C fs (.lkup kt ok z x y) nid H R := .of (fun t hk => by simp [iop, hk.ev hx, hk.ev hy, ht, hg, hf]) k
theorem OpR.mupd {kt : Nat} {x y w : Opd} {id : Nat} {kv u : V} {es es' : List (V × V)} (hx : ev fs x = some (.map id)) (hy : ev fs y = some kv) (hw : ev fs w = some u) (ht : tagOf kv = kt) (hg : H.get id = some (.map es)) (hf : setKey kv u es = some es')
    (k : R .undef (H.put id (.map es'))) : OpR C fs (.mupd kt x y w) nid H R := .of (fun t hk => by simp [iop, hk.ev hx, hk.ev hy, hk.ev hw, ht, hg, hf]) k

end

/-! ## Regions -/

def Ops (C : Cfg) (os : List IOper) (t : List V) (H : Heap) (t' : List V) (H' : Heap) : Prop := ∃ n, iops (icall C n) C os t H = some (t', H')

def WO (C : Cfg) (nt : Nat) (os : List IOper) (fs : Fs) (H : Heap) (Q : Fs → Heap → Prop) : Prop :=
  ∀ t, t.length = nt → Knows fs t → ∃ t' H' fs', Ops C os t H t' H' ∧ t'.length = nt ∧ Knows fs' t' ∧ Q fs' H'

section
variable {C : Cfg} {nt : Nat} {os : List IOper} {fs : Fs} {H : Heap} {Q : Fs → Heap → Prop}

theorem WO.nil (k : Q fs H) : WO C nt [] fs H Q := fun t hl ht => ⟨t, H, fs, ⟨0, rfl⟩, hl, ht, k⟩

theorem Ops.cons {o : IOper} {t t1 t' : List V} {H1 H' : Heap} {n : Nat} (h : istep (icall C n) C H.next o t H = some (t1, H1)) (k : Ops C os t1 H1 t' H') : Ops C (o :: os) t H t' H' := by
  obtain ⟨m, k⟩ := k
  refine ⟨max n m, ?_⟩
  rw [iops, istep_le (icall_le C (Nat.le_max_left n m)) h]
  exact iops_le (icall_le C (Nat.le_max_right n m)) _ _ _ _ k

theorem WO.stepAny {d : Option Nat} {g : Option (Nat × Bool)} {op : IOp} (hg : ∀ t, Knows fs t → wanted g t = true)
    (h : OpR C fs op H.next H (fun v H1 => ∀ t, t.length = nt → Knows fs t → ∃ t' H' fs', Ops C os (setD t d v) H1 t' H' ∧ t'.length = nt ∧ Knows fs' t' ∧ Q fs' H')) : WO C nt (⟨d, g, op⟩ :: os) fs H Q := by
  intro t hl ht
  obtain ⟨n, v, H1, h1, h2⟩ := h t ht
  obtain ⟨t', H', fs', h3, h4⟩ := h2 t hl ht
  refine ⟨t', H', fs', Ops.cons (n := n) (t1 := setD t d v) (H1 := H1) ?_ h3, h4⟩
  simp only [istep, hg t ht, if_true, h1]

theorem WO.step {d : Nat} {op : IOp} (hd : Nat.blt d nt = true) (h : OpR C fs op H.next H (fun v H1 => WO C nt os ((d, v) :: fs) H1 Q)) : WO C nt (⟨some d, none, op⟩ :: os) fs H Q :=
  WO.stepAny (fun _ _ => rfl) (h.mono fun v H1 k t hl ht => k (t.set d v) (by simpa using hl) (ht.set (by rw [hl]; exact blt_lt hd) v))

theorem WO.step0 {op : IOp} (h : OpR C fs op H.next H (fun _ H1 => WO C nt os fs H1 Q)) : WO C nt (⟨none, none, op⟩ :: os) fs H Q :=
  WO.stepAny (fun _ _ => rfl) (h.mono fun v H1 k t hl ht => k t hl ht)

theorem WO.stepG {d g : Nat} {b : Bool} {op : IOp} (hg : lk fs g = some (.bool b)) (hd : Nat.blt d nt = true) (h : OpR C fs op H.next H (fun v H1 => WO C nt os ((d, v) :: fs) H1 Q)) : WO C nt (⟨some d, some (g, b), op⟩ :: os) fs H Q :=
  WO.stepAny (fun t ht => by simp [wanted, ht _ _ hg]) (h.mono fun v H1 k t hl ht => k (t.set d v) (by simpa using hl) (ht.set (by rw [hl]; exact blt_lt hd) v))

theorem WO.stepG0 {g : Nat} {b : Bool} {op : IOp} (hg : lk fs g = some (.bool b)) (h : OpR C fs op H.next H (fun _ H1 => WO C nt os fs H1 Q)) : WO C nt (⟨none, some (g, b), op⟩ :: os) fs H Q :=
  WO.stepAny (fun t ht => by simp [wanted, ht _ _ hg]) (h.mono fun v H1 k t hl ht => k t hl ht)

theorem WO.skipG {d : Option Nat} {g : Nat} {b w : Bool} {op : IOp} (hg : lk fs g = some (.bool b)) (hb : (b == w) = false) (k : WO C nt os fs H Q) (hf : (match d with | some d => lk fs d | none => none) = none) : WO C nt (⟨d, some (g, w), op⟩ :: os) fs H Q := by
  intro t hl ht
  have hw : wanted (some (g, w)) t = false := by simp [wanted, ht _ _ hg, hb]
  obtain ⟨t', H', fs', h3, h4⟩ := k (setD t d .undef) (by rw [setD_length, hl]) (fun i v hv => by
    cases d with
    | none => exact ht i v hv
    | some d =>
      have : d ≠ i := fun e => by subst e; simp only at hf; rw [hf] at hv; cases hv
      simp only [setD, List.getElem?_set_ne this]; exact ht i v hv)
  refine ⟨t', H', fs', Ops.cons (n := 0) (t1 := setD t d .undef) (H1 := H) ?_ h3, h4⟩
  simp only [istep, hw]; rfl

/-- Where a slot that was known before is not written. -/
theorem WO.skipGD {d g : Nat} {b w : Bool} {op : IOp} (hg : lk fs g = some (.bool b)) (hb : (b == w) = false) (hd : Nat.blt d nt = true) (k : WO C nt os ((d, .undef) :: fs) H Q) : WO C nt (⟨some d, some (g, w), op⟩ :: os) fs H Q := by
  intro t hl ht
  have hw : wanted (some (g, w)) t = false := by simp [wanted, ht _ _ hg, hb]
  obtain ⟨t', H', fs', h3, h4⟩ := k (t.set d .undef) (by simpa using hl) (ht.set (by rw [hl]; exact blt_lt hd) _)
  refine ⟨t', H', fs', Ops.cons (n := 0) (t1 := t.set d .undef) (H1 := H) ?_ h3, h4⟩
  simp only [istep, hw]; rfl

theorem WO.mono {Q' : Fs → Heap → Prop} (h : WO C nt os fs H Q') (k : ∀ fs H, Q' fs H → Q fs H) : WO C nt os fs H Q := fun t hl ht =>
  let ⟨t', H', fs', h1, h2, h3, h4⟩ := h t hl ht; ⟨t', H', fs', h1, h2, h3, k _ _ h4⟩
theorem WO.weaken {gs : Fs} (hs : Sub gs fs) (h : WO C nt os gs H Q) : WO C nt os fs H Q := fun t hl ht => h t hl (ht.sub hs)

end

/-! ## Code -/

def Exe (C : Cfg) (ro : Option Nat) (c : ICode) (t : List V) (H : Heap) (d : List Nat) (r : IExit × List V × Heap × List Nat) : Prop :=
  ∃ n, exec (icall C n) C n ro c t H d = some r

abbrev Aft := IExit → Fs → Heap → List Nat → Prop

def WX (C : Cfg) (nt : Nat) (ro : Option Nat) (c : ICode) (fs : Fs) (H : Heap) (d : List Nat) (Q : Aft) : Prop :=
  ∀ t, t.length = nt → Knows fs t → ∃ e t' H' d' fs', Exe C ro c t H d (e, t', H', d') ∧ t'.length = nt ∧ Knows fs' t' ∧ Q e fs' H' d'

/-- What comes behind: where the end is plain. -/
def andThen (K : Fs → Heap → List Nat → Prop) (Q : Aft) : Aft := fun e fs H d =>
  match e with
  | .nrm => K fs H d
  | e => Q e fs H d

section
variable {C : Cfg} {nt : Nat} {ro : Option Nat} {fs : Fs} {H : Heap} {d : List Nat} {Q : Aft}

theorem WX.mono {c : ICode} {Q' : Aft} (h : WX C nt ro c fs H d Q') (k : ∀ e fs H d, Q' e fs H d → Q e fs H d) : WX C nt ro c fs H d Q := fun t hl ht =>
  let ⟨e, t', H', d', fs', h1, h2, h3, h4⟩ := h t hl ht; ⟨e, t', H', d', fs', h1, h2, h3, k _ _ _ _ h4⟩
theorem WX.weaken {c : ICode} {gs : Fs} (hs : Sub gs fs) (h : WX C nt ro c gs H d Q) : WX C nt ro c fs H d Q := fun t hl ht => h t hl (ht.sub hs)
theorem WX.of_eq {c : ICode} {H1 : Heap} (he : H = H1) (h : WX C nt ro c fs H1 d Q) : WX C nt ro c fs H d Q := he ▸ h

theorem WX.skip (k : Q .nrm fs H d) : WX C nt ro .skip fs H d Q := fun t hl ht => ⟨.nrm, t, H, d, fs, ⟨0, rfl⟩, hl, ht, k⟩
theorem WX.ret (k : Q .rt fs H d) : WX C nt ro .ret fs H d Q := fun t hl ht => ⟨.rt, t, H, d, fs, ⟨0, rfl⟩, hl, ht, k⟩
theorem WX.exit {id : Nat} (k : Q (.ex id) fs H d) : WX C nt ro (.exit id) fs H d Q := fun t hl ht => ⟨.ex id, t, H, d, fs, ⟨0, rfl⟩, hl, ht, k⟩

theorem WX.reg {os : List IOper} (h : WO C nt os fs H (fun fs' H' => Q .nrm fs' H' d)) : WX C nt ro (.reg os) fs H d Q := fun t hl ht =>
  let ⟨t', H', fs', ⟨n, h1⟩, h2, h3, h4⟩ := h t hl ht
  ⟨.nrm, t', H', d, fs', ⟨n, by simp only [exec, h1]⟩, h2, h3, h4⟩

theorem WX.seq {a b : ICode} (h : WX C nt ro a fs H d (andThen (fun fs' H' d' => WX C nt ro b fs' H' d' Q) Q)) : WX C nt ro (.seq a b) fs H d Q := by
  intro t hl ht
  obtain ⟨e, t1, H1, d1, fs1, ⟨n, h1⟩, h2, h3, h4⟩ := h t hl ht
  cases e with
  | nrm =>
    obtain ⟨e, t', H', d', fs', ⟨m, k1⟩, k2⟩ := h4 t1 h2 h3
    refine ⟨e, t', H', d', fs', ⟨max n m, ?_⟩, k2⟩
    simp only [exec, exec_le (icall_le C (Nat.le_max_left n m)) (Nat.le_max_left n m) _ _ _ _ _ h1]
    exact exec_le (icall_le C (Nat.le_max_right n m)) (Nat.le_max_right n m) _ _ _ _ _ k1
  | ex id => exact ⟨_, t1, H1, d1, fs1, ⟨n, by simp only [exec, h1]⟩, h2, h3, h4⟩
  | rt => exact ⟨_, t1, H1, d1, fs1, ⟨n, by simp only [exec, h1]⟩, h2, h3, h4⟩

theorem WX.condT {c : Opd} {a b : ICode} (hc : ev fs c = some (.bool true)) (h : WX C nt ro a fs H d Q) : WX C nt ro (.cond c a b) fs H d Q := fun t hl ht =>
  let ⟨e, t', H', d', fs', ⟨n, h1⟩, h2⟩ := h t hl ht
  ⟨e, t', H', d', fs', ⟨n, by simp only [exec, ht.ev hc, h1]⟩, h2⟩
theorem WX.condF {c : Opd} {a b : ICode} (hc : ev fs c = some (.bool false)) (h : WX C nt ro b fs H d Q) : WX C nt ro (.cond c a b) fs H d Q := fun t hl ht =>
  let ⟨e, t', H', d', fs', ⟨n, h1⟩, h2⟩ := h t hl ht
  ⟨e, t', H', d', fs', ⟨n, by simp only [exec, ht.ev hc, h1]⟩, h2⟩
theorem WX.cond {c : Opd} {a b : ICode} {p : Bool} (hc : ev fs c = some (.bool p)) (h1 : p = true → WX C nt ro a fs H d Q) (h2 : p = false → WX C nt ro b fs H d Q) : WX C nt ro (.cond c a b) fs H d Q := by
  cases p
  · exact .condF hc (h2 rfl)
  · exact .condT hc (h1 rfl)

theorem WX.block {id : Nat} {b : ICode} (h : WX C nt ro b fs H d (fun e fs' H' d' => match e with | .ex k => if k = id then Q .nrm fs' H' d' else Q (.ex k) fs' H' d' | e => Q e fs' H' d')) : WX C nt ro (.block id b) fs H d Q := by
  intro t hl ht
  obtain ⟨e, t1, H1, d1, fs1, ⟨n, h1⟩, h2, h3, h4⟩ := h t hl ht
  cases e with
  | ex k =>
    by_cases hk : k = id
    · refine ⟨.nrm, t1, H1, d1, fs1, ⟨n, by simp only [exec, h1, hk, if_true]⟩, h2, h3, ?_⟩
      simpa [hk] using h4
    · refine ⟨.ex k, t1, H1, d1, fs1, ⟨n, by simp only [exec, h1, hk, if_false]⟩, h2, h3, ?_⟩
      simpa [hk] using h4
  | nrm => exact ⟨_, t1, H1, d1, fs1, ⟨n, by simp only [exec, h1]⟩, h2, h3, h4⟩
  | rt => exact ⟨_, t1, H1, d1, fs1, ⟨n, by simp only [exec, h1]⟩, h2, h3, h4⟩

theorem WX.scope {b : ICode} (h : WX C nt ro b fs H d Q) : WX C nt ro (.scope b) fs H d Q := h

/-- One round, then the loop again, or its end. -/
theorem WX.round {b : ICode} (h : WX C nt ro b fs H d (andThen (fun fs' H' d' => WX C nt ro (.loop b) fs' H' d' Q) Q)) : WX C nt ro (.loop b) fs H d Q := by
  intro t hl ht
  obtain ⟨e, t1, H1, d1, fs1, ⟨n, h1⟩, h2, h3, h4⟩ := h t hl ht
  cases e with
  | nrm =>
    obtain ⟨e, t', H', d', fs', ⟨m, k1⟩, k2⟩ := h4 t1 h2 h3
    refine ⟨e, t', H', d', fs', ⟨max n m + 1, ?_⟩, k2⟩
    have hm : m ≤ max n m := Nat.le_max_right n m
    have g1 := exec_le (icall_le C (Nat.le_succ_of_le (Nat.le_max_left n m))) (Nat.le_succ_of_le (Nat.le_max_left n m)) _ _ _ _ _ h1
    have g2 := exec_le (icall_le C hm) hm _ _ _ _ _ k1
    simp only [exec, iter] at g2 ⊢
    rw [g1]
    simp only
    -- the rounds that are left
    have key : ∀ (a : Nat) (t : List V) (H : Heap) (d : List Nat) (r : IExit × List V × Heap × List Nat), iter (exec (icall C (max n m)) C (max n m) ro b) a t H d = some r → iter (exec (icall C (max n m + 1)) C (max n m + 1) ro b) a t H d = some r := by
      intro a
      induction a with
      | zero => intro t H d r h; exact h
      | succ a ih =>
        intro t H d r h
        simp only [iter] at h ⊢
        split at h
        · rename_i hb
          rw [exec_le (icall_le C (Nat.le_succ _)) (Nat.le_succ _) _ _ _ _ _ hb]
          exact ih _ _ _ _ h
        · rename_i hne
          rw [exec_le (icall_le C (Nat.le_succ _)) (Nat.le_succ _) _ _ _ _ _ h]
          obtain ⟨e, t', H', d'⟩ := r
          cases e with
          | nrm => exact absurd h (hne _ _ _)
          | ex k => rfl
          | rt => rfl
    exact key _ _ _ _ _ g2
  | ex id => exact ⟨_, t1, H1, d1, fs1, ⟨n + 1, by simp only [exec, iter, exec_le (icall_le C (Nat.le_succ n)) (Nat.le_succ n) _ _ _ _ _ h1]⟩, h2, h3, h4⟩
  | rt => exact ⟨_, t1, H1, d1, fs1, ⟨n + 1, by simp only [exec, iter, exec_le (icall_le C (Nat.le_succ n)) (Nat.le_succ n) _ _ _ _ _ h1]⟩, h2, h3, h4⟩

/-- A loop by a state 's' that says what is known ('F'), what holds ('P'), and how many rounds there are yet ('μ'). -/
theorem WX.loop {σ : Type} {b : ICode} (F : σ → Fs) (P : σ → Heap → List Nat → Prop) (μ : σ → Nat) (s0 : σ) (hs : Sub (F s0) fs) (h0 : P s0 H d)
    (step : ∀ s H d, P s H d → WX C nt ro b (F s) H d (andThen (fun fs' H' d' => ∃ s', μ s' < μ s ∧ Sub (F s') fs' ∧ P s' H' d') Q)) : WX C nt ro (.loop b) fs H d Q := by
  suffices h : ∀ k s H d, μ s < k → P s H d → WX C nt ro (.loop b) (F s) H d Q from (h _ s0 H d (Nat.lt_succ_self _) h0).weaken hs
  intro k
  induction k with
  | zero => intro s H d h; omega
  | succ k ih =>
    intro s H d hk hp
    refine WX.round ((step s H d hp).mono fun e fs' H' d' he => ?_)
    cases e with
    | nrm =>
      obtain ⟨s', h1, h2, h3⟩ := he
      exact (ih s' H' d' (by omega) h3).weaken h2
    | ex id => exact he
    | rt => exact he

end

/-! ## A function -/

def resF1 (C : Cfg) (fs : Fs) (H : Heap) : IRes → Option V
  | .t i => lk fs i
  | .cell i n => match lk fs i with
    | some (.ptr a) => match n with
      | none => H.cellsAt C a 0
      | some n => (H.loadN C a 0 n).map .agg
    | _ => none

def resF (C : Cfg) (fs : Fs) (H : Heap) : List IRes → Option (List V)
  | [] => some []
  | r :: rs => match resF1 C fs H r, resF C fs H rs with
    | some v, some l => some (v :: l)
    | _, _ => none

def tupOf : List V → V
  | [v] => v
  | l => .tup l

theorem resF_ok {C : Cfg} {fs : Fs} {H : Heap} {t : List V} (ht : Knows fs t) : ∀ {rs : List IRes} {l : List V}, resF C fs H rs = some l → resAll C t H rs = some l
  | [], l, h => h
  | r :: rs, l, h => by
    unfold resF at h
    split at h <;> cases h
    rename_i v l h1 h2
    unfold resAll
    rw [resF_ok ht h2]
    have : resOne C t H r = some v := by
      cases r with
      | t i => exact ht _ _ h1
      | cell i n =>
        simp only [resF1] at h1
        cases ha : lk fs i with
        | none => rw [ha] at h1; cases h1
        | some u =>
          rw [ha] at h1
          simp only [resOne, ht _ _ ha]
          exact h1
    rw [this]

/-- What a function's end has to say. -/
def AtEnd (C : Cfg) (res : List IRes) (R : V → Heap → Prop) : Aft := fun e fs H d =>
  match e with
  | .ex _ => False
  | _ => ∃ H' l, takeMarks d H = some H' ∧ resF C fs H' res = some l ∧ R (tupOf l) H'

theorem AtEnd.of {C : Cfg} {res : List IRes} {R : V → Heap → Prop} {e : IExit} {fs : Fs} {H : Heap} {l : List V} (he : ∀ k, e ≠ .ex k) (h : resF C fs H res = some l) (k : R (tupOf l) H) : AtEnd C res R e fs H [] := by
  cases e with
  | ex k => exact absurd rfl (he k)
  | nrm => exact ⟨H, l, rfl, h, k⟩
  | rt => exact ⟨H, l, rfl, h, k⟩

theorem Calls.fn {C : Cfg} {f : Nat} {F : IFun} {args : List V} {H : Heap} {R : V → Heap → Prop} (hp : C.prim f = none) (hf : C.fns f = some F) (hn : Nat.ble args.length F.nt = true)
    (h : WX C F.nt none F.body (fsOf args 0) H [] (AtEnd C F.res R)) : Calls C (.fn f) args H R := by
  obtain ⟨nt, res, body⟩ := F
  have hn' : args.length ≤ nt := ble_le hn
  simp only at h
  obtain ⟨e, t', H', d', fs', ⟨n, h1⟩, h2, h3, h4⟩ := h (args ++ List.replicate (nt - args.length) .undef) (by simp; omega) (Knows.init _ _)
  have fin : ∀ (hne : ∀ k, e ≠ .ex k), (∃ H'' l, takeMarks d' H' = some H'' ∧ resF C fs' H'' res = some l ∧ R (tupOf l) H'') → Calls C (.fn f) args H R := by
    intro hne ⟨H'', l, k1, k2, k3⟩
    refine ⟨n + 1, tupOf l, H'', ?_, k3⟩
    have hr : results C res t' H'' = some (tupOf l) := by
      unfold results
      rw [resF_ok h3 k2]
      cases l with
      | nil => rfl
      | cons a l => cases l <;> rfl
    simp only [icall, hp, hf, ifun, h1]
    cases e with
    | ex k => exact absurd rfl (hne k)
    | nrm => simp only [k1, hr]
    | rt => simp only [k1, hr]
  cases e with
  | ex k => exact h4.elim
  | nrm => exact fin (fun _ h => by cases h) h4
  | rt => exact fin (fun _ h => by cases h) h4

/-- A call that the machine has run. -/
theorem Calls.of {C : Cfg} {c : Callee} {args : List V} {H : Heap} {R : V → Heap → Prop} {n : Nat} {v : V} {H' : Heap} (h : icall C n c args H = some (v, H')) (k : R v H') : Calls C c args H R := ⟨n, v, H', h, k⟩

end Im

/- Walks over regions that draw their order ('WD'). No condition. -/
namespace Im
open Go (IntKind BinOp UnOp)

/-- What an operation of such a region left. -/
structure ARec where
  fs : Fs
  v : V
  w : Bool
  A : Heap
  A' : Heap

def RecOk (a : ARec) (r : Rec) : Prop := Knows a.fs r.t ∧ r.v = a.v ∧ r.w = a.w ∧ r.A = a.A ∧ r.A' = a.A'

def RecsOk : List ARec → List Rec → Prop
  | [], [] => True
  | a :: as, r :: rs => RecOk a r ∧ RecsOk as rs
  | _, _ => False

theorem RecsOk.get : ∀ {as : List ARec} {rs : List Rec}, RecsOk as rs → ∀ {i : Nat} {a : ARec}, as[i]? = some a → ∃ r, rs[i]? = some r ∧ RecOk a r
  | [], [], _, i, a, h => by simp at h
  | a0 :: as, r :: rs, hk, 0, a, h => by simp at h; subst h; exact ⟨r, rfl, hk.1⟩
  | a0 :: as, r :: rs, hk, i + 1, a, h => by simp at h; simpa using hk.2.get h

def WD (C : Cfg) (nt base : Nat) (mats : List (Nat × List Nat)) (os : List IOper) (i : Nat) (fs : Fs) (A : Heap) (pend : List (Nat × Obj)) (Q : List ARec → Fs → Heap → Prop) : Prop :=
  ∀ t, t.length = nt → Knows fs t → ∃ n rs t' H' ars fs', drun (icall C n) C base mats os i t A pend = some (rs, t', H') ∧ t'.length = nt ∧ Knows fs' t' ∧ RecsOk ars rs ∧ Q ars fs' H'

section
variable {C : Cfg} {nt base : Nat} {mats : List (Nat × List Nat)} {os : List IOper} {i : Nat} {fs : Fs} {A : Heap} {pend : List (Nat × Obj)} {Q : List ARec → Fs → Heap → Prop}

theorem WD.nil (k : Q [] fs (puts base A pend)) : WD C nt base mats [] i fs A pend Q := fun t hl ht => ⟨0, [], t, _, [], fs, rfl, hl, ht, trivial, k⟩

/-- One operation and what is behind it. -/
theorem WD.cons {o : IOper} {A1 : Heap} {pend1 : List (Nat × Obj)} {fs1 : Fs} {a : ARec}
    (h : ∀ t, t.length = nt → Knows fs t → ∃ n r t1, dstep (icall C n) C base mats i o t A pend = some (r, t1, A1, pend1) ∧ t1.length = nt ∧ Knows fs1 t1 ∧ RecOk a r)
    (k : WD C nt base mats os (i + 1) fs1 A1 pend1 (fun ars fs' H' => Q (a :: ars) fs' H')) : WD C nt base mats (o :: os) i fs A pend Q := by
  intro t hl ht
  obtain ⟨n, r, t1, h1, h2, h3, h4⟩ := h t hl ht
  obtain ⟨m, rs, t', H', ars, fs', k1, k2, k3, k4, k5⟩ := k t1 h2 h3
  refine ⟨max n m, r :: rs, t', H', a :: ars, fs', ?_, k2, k3, ⟨h4, k4⟩, k5⟩
  simp only [drun, dstep_le (icall_le C (Nat.le_max_left n m)) h1, drun_le (icall_le C (Nat.le_max_right n m)) _ _ _ _ _ _ k1]

/-- 'd': where the value goes; 'fs1': what is known then. -/
inductive Dst (nt : Nat) (fs : Fs) (v : V) : Option Nat → Fs → Prop where
  | none : Dst nt fs v none fs
  | some (d : Nat) (h : Nat.blt d nt = true) : Dst nt fs v (some d) ((d, v) :: fs)

theorem Dst.ok {v : V} {d : Option Nat} {fs1 : Fs} (h : Dst nt fs v d fs1) {t : List V} (hl : t.length = nt) (ht : Knows fs t) : (setD t d v).length = nt ∧ Knows fs1 (setD t d v) := by
  cases h with
  | none => exact ⟨hl, ht⟩
  | some d h => exact ⟨by simpa [setD] using hl, ht.set (by rw [hl]; exact blt_lt h) v⟩

inductive Grd (fs : Fs) : Option (Nat × Bool) → Prop where
  | none : Grd fs none
  | some (g : Nat) (b : Bool) (h : lk fs g = some (.bool b)) : Grd fs (some (g, b))

theorem Grd.ok {g : Option (Nat × Bool)} (h : Grd fs g) {t : List V} (ht : Knows fs t) : wanted g t = true := by
  cases h with
  | none => rfl
  | some g b h => simp [wanted, ht _ _ h]

/-- Computes, or reads. -/
theorem WD.pure {d : Option Nat} {g : Option (Nat × Bool)} {op : IOp} {v : V} {fs1 : Fs} (hc : Nat.ble (clsOf op) 1 = true) (hg : Grd fs g) (h : ∀ t, Knows fs t → iop (icall C 0) C 0 op t A = some (v, A)) (hd : Dst nt fs v d fs1)
    (k : WD C nt base mats os (i + 1) fs1 A pend (fun ars fs' H' => Q (⟨fs, v, true, A, A⟩ :: ars) fs' H')) : WD C nt base mats (⟨d, g, op⟩ :: os) i fs A pend Q := by
  refine WD.cons (fun t hl ht => ⟨0, ⟨t, v, true, A, A, none⟩, setD t d v, ?_, (hd.ok hl ht).1, (hd.ok hl ht).2, ht, rfl, rfl, rfl, rfl⟩) k
  have hc' : clsOf op ≤ 1 := ble_le hc
  simp only [dstep, hg.ok ht, if_true]
  generalize hcl : clsOf op = c at hc'
  rcases c with _ | _ | c
  · simp only [h t ht]
  · simp only [h t ht]
  · omega

/-- Makes an object. -/
theorem WD.make {d : Option Nat} {g : Option (Nat × Bool)} {op : IOp} {v : V} {fs1 : Fs} {H1 : Heap} {ob : Obj} (hc : clsOf op = 2) (hg : Grd fs g) (h : ∀ t, Knows fs t → iop (icall C 0) C (base + i) op t Heap.empty = some (v, H1)) (ho : H1.get (base + i) = some ob) (hd : Dst nt fs v d fs1)
    (k : WD C nt base mats os (i + 1) fs1 A ((i, ob) :: pend) (fun ars fs' H' => Q (⟨fs, v, true, A, A⟩ :: ars) fs' H')) : WD C nt base mats (⟨d, g, op⟩ :: os) i fs A pend Q := by
  refine WD.cons (fun t hl ht => ⟨0, ⟨t, v, true, A, A, some ob⟩, setD t d v, ?_, (hd.ok hl ht).1, (hd.ok hl ht).2, ht, rfl, rfl, rfl, rfl⟩) k
  simp only [dstep, hg.ok ht, if_true, hc, h t ht, ho]

/-- Whatever else. -/
theorem WD.eff {d : Option Nat} {g : Option (Nat × Bool)} {op : IOp} (hc : clsOf op = 3) (hg : Grd fs g)
    (h : OpR C fs op (base + i) (puts base A (pend.filter fun p => (matOf mats i).contains p.1)) (fun v H1 => ∃ fs1, Dst nt fs v d fs1 ∧
      WD C nt base mats os (i + 1) fs1 H1 (pend.filter fun p => !(matOf mats i).contains p.1) (fun ars fs' H' => Q (⟨fs, v, true, A, H1⟩ :: ars) fs' H'))) : WD C nt base mats (⟨d, g, op⟩ :: os) i fs A pend Q := by
  intro t hl ht
  obtain ⟨n, v, H1, h1, fs1, hd, k⟩ := h t ht
  obtain ⟨m, rs, t', H', ars, fs', k1, k2, k3, k4, k5⟩ := k (setD t d v) (hd.ok hl ht).1 (hd.ok hl ht).2
  refine ⟨max n m, ⟨t, v, true, A, H1, none⟩ :: rs, t', H', ⟨fs, v, true, A, H1⟩ :: ars, fs', ?_, k2, k3, ⟨⟨ht, rfl, rfl, rfl, rfl⟩, k4⟩, k5⟩
  have hs : dstep (icall C n) C base mats i ⟨d, g, op⟩ t A pend = some (⟨t, v, true, A, H1, none⟩, setD t d v, H1, pend.filter fun p => !(matOf mats i).contains p.1) := by
    simp only [dstep, hg.ok ht, if_true, hc, h1]
  simp only [drun, dstep_le (icall_le C (Nat.le_max_left n m)) hs, drun_le (icall_le C (Nat.le_max_right n m)) _ _ _ _ _ _ k1]

/-- Not wanted. -/
theorem WD.off {d : Option Nat} {g : Nat} {b w : Bool} {op : IOp} {fs1 : Fs} (hg : lk fs g = some (.bool b)) (hb : (b == w) = false) (hd : Dst nt fs .undef d fs1)
    (k : WD C nt base mats os (i + 1) fs1 A pend (fun ars fs' H' => Q (⟨fs, .undef, false, A, A⟩ :: ars) fs' H')) : WD C nt base mats (⟨d, some (g, w), op⟩ :: os) i fs A pend Q := by
  refine WD.cons (fun t hl ht => ⟨0, ⟨t, .undef, false, A, A, none⟩, setD t d .undef, ?_, (hd.ok hl ht).1, (hd.ok hl ht).2, ht, rfl, rfl, rfl, rfl⟩) k
  have hw : wanted (some (g, w)) t = false := by simp [wanted, ht _ _ hg, hb]
  simp only [dstep, hw]; rfl

end

/-! ## What floats -/

def OpL (C : Cfg) (fs : Fs) (op : IOp) (H : Heap) (v : V) : Prop := ∀ t, Knows fs t → iop (icall C 0) C 0 op t H = some (v, H)

theorem OpL.ld {C : Cfg} {fs : Fs} {H : Heap} {x : Opd} {a : PA} {v : V} (hx : ev fs x = some (.ptr a)) (hv : H.cellsAt C a 0 = some v) : OpL C fs (.ld x) H v := fun t ht => by simp [iop, ht.ev hx, hv]
theorem OpL.ldn {C : Cfg} {fs : Fs} {H : Heap} {x : Opd} {n : Nat} {a : PA} {l : List V} (hx : ev fs x = some (.ptr a)) (hv : H.loadN C a 0 n = some l) : OpL C fs (.ldn n x) H (.agg l) := fun t ht => by simp [iop, ht.ev hx, hv]

def FloatAt (C : Cfg) (os : List IOper) (ars : List ARec) (p : Nat × Nat) : Prop :=
  match os[p.1]?, ars[p.1]?, ars[p.2]? with
  | some o, some l, some e => l.w = true → e.w = true → OpL C l.fs o.op e.A l.v ∧ OpL C l.fs o.op e.A' l.v
  | _, _, _ => False

def Floats (C : Cfg) (os : List IOper) (ars : List ARec) : List (Nat × Nat) → Prop
  | [] => True
  | p :: ps => FloatAt C os ars p ∧ Floats C os ars ps

theorem FloatAt.ok {C : Cfg} {os : List IOper} {ars : List ARec} {rs : List Rec} (hr : RecsOk ars rs) {p : Nat × Nat} (h : FloatAt C os ars p) : floats C os rs p = true := by
  unfold FloatAt at h
  split at h
  · rename_i o l e h1 h2 h3
    obtain ⟨rl, g1, k1, k2, k3, k4, k5⟩ := hr.get h2
    obtain ⟨re, g2, j1, j2, j3, j4, j5⟩ := hr.get h3
    unfold floats
    rw [h1, g1, g2]
    simp only
    split
    · rename_i hw
      rw [k3, j3] at hw
      simp only [Bool.and_eq_true] at hw
      obtain ⟨a1, a2⟩ := h hw.1 hw.2
      have rd : ∀ (H : Heap), OpL C l.fs o.op H l.v → reads C o rl.t H rl.v = true := by
        intro H hh
        have := hh rl.t k1
        simp only [icall] at this
        unfold reads
        rw [this, k2]; exact V.beq_refl _
      rw [j4, j5, rd _ a1, rd _ a2]; rfl
    · rfl
  · exact h.elim

theorem Floats.ok {C : Cfg} {os : List IOper} {ars : List ARec} {rs : List Rec} (hr : RecsOk ars rs) : ∀ {ps : List (Nat × Nat)}, Floats C os ars ps → ps.all (floats C os rs) = true
  | [], _ => rfl
  | p :: ps, h => by simp only [List.all_cons, h.1.ok hr, h.2.ok hr, Bool.and_self]

theorem WX.regD {C : Cfg} {nt : Nat} {ro : Option Nat} {fs : Fs} {H : Heap} {d : List Nat} {Q : Aft} {os : List IOper} {mats : List (Nat × List Nat)} {prs : List (Nat × Nat)}
    (h : WD C nt H.next mats os 0 fs (H.bump os.length) [] (fun ars fs' H' => Floats C os ars prs ∧ Q .nrm fs' H' d)) : WX C nt ro (.regD os mats prs) fs H d Q := by
  intro t hl ht
  obtain ⟨n, rs, t', H', ars, fs', h1, h2, h3, h4, h5, h6⟩ := h t hl ht
  exact ⟨.nrm, t', H', d, fs', ⟨n, by simp only [exec, iregD, h1, h5.ok h4, if_true]⟩, h2, h3, h6⟩

end Im

/- The ideal heap in the walks' words: what stays ('Keeps', 'Agree'), slices that are read ('Sl'), slices that grow ('Grow'). No condition. -/
namespace Im
open Go (IntKind BinOp UnOp)

/-! ## What stays -/

def Agree (S : Nat → Prop) (H H' : Heap) : Prop := ∀ id, S id → H'.get id = H.get id

theorem Agree.refl (S : Nat → Prop) (H : Heap) : Agree S H H := fun _ _ => rfl
theorem Agree.trans {S : Nat → Prop} {a b c : Heap} (h : Agree S a b) (k : Agree S b c) : Agree S a c := fun id hs => (k id hs).trans (h id hs)
theorem Agree.sub {S T : Nat → Prop} {a b : Heap} (h : Agree S a b) (hs : ∀ id, T id → S id) : Agree T a b := fun id ht => h id (hs id ht)

structure Keeps (H H' : Heap) : Prop where
  next : H.next ≤ H'.next
  get : ∀ id, id < H.next → H'.get id = H.get id

theorem Keeps.refl (H : Heap) : Keeps H H := ⟨Nat.le_refl _, fun _ _ => rfl⟩
theorem Keeps.trans {a b c : Heap} (h : Keeps a b) (k : Keeps b c) : Keeps a c :=
  ⟨Nat.le_trans h.next k.next, fun id hid => (k.get id (Nat.lt_of_lt_of_le hid h.next)).trans (h.get id hid)⟩
theorem Keeps.agree {H H' : Heap} (h : Keeps H H') {S : Nat → Prop} (hs : ∀ id, S id → id < H.next) : Agree S H H' := fun id k => h.get id (hs id k)
theorem Keeps.put {H : Heap} {id : Nat} (o : Obj) (h : H.next ≤ id) : Keeps H (H.put id o) :=
  ⟨Heap.next_le_put _ _ _, fun i hi => Heap.get_put_ne _ _ (by omega)⟩
theorem Keeps.bump (H : Heap) (n : Nat) : Keeps H (H.bump n) := ⟨Nat.le_add_right _ _, fun _ _ => rfl⟩
theorem Keeps.putNew (H : Heap) (o : Obj) : Keeps H (H.put H.next o) := Keeps.put o (Nat.le_refl _)
theorem Heap.next_putNew (H : Heap) (o : Obj) : (H.put H.next o).next = H.next + 1 := by rw [Heap.next_put, if_neg (Nat.lt_irrefl _)]
theorem Heap.next_putOld (H : Heap) {id : Nat} (o : Obj) (h : id < H.next) : (H.put id o).next = H.next := by rw [Heap.next_put, if_pos h]
theorem Heap.next_bump (H : Heap) (n : Nat) : (H.bump n).next = H.next + n := rfl

/-! ## Cells that are read -/

def PA.At (S : Nat → Prop) (a : PA) : Prop := a.r = .own → S a.b

section
variable {C : Cfg} {H H' : Heap} {S : Nat → Prop}

theorem cellsAt_own {b off i ty : Nat} {l : List V} (h : H.get b = some (.cells ty l)) : H.cellsAt C ⟨.own, b, off⟩ i = l[off + i]? := by simp [Heap.cellsAt, h]

theorem cellsAt_add (a : PA) (m i : Nat) : H.cellsAt C (a.add m) i = H.cellsAt C a (m + i) := by
  obtain ⟨r, b, off⟩ := a
  cases r <;> simp [Heap.cellsAt, PA.add, Nat.add_assoc]

theorem Agree.cellsAt (h : Agree S H H') {a : PA} (ha : a.At S) (i : Nat) : H'.cellsAt C a i = H.cellsAt C a i := by
  obtain ⟨r, b, off⟩ := a
  cases r with
  | own => simp only [Heap.cellsAt]; rw [h b (ha rfl)]
  | st => rfl
  | gl => rfl

theorem PA.At.add {a : PA} (h : a.At S) (m : Nat) : (a.add m).At S := h
theorem PA.At.sub {a : PA} {T : Nat → Prop} (h : a.At S) (k : ∀ id, S id → T id) : a.At T := fun hr => k _ (h hr)

theorem loadN_iff {a : PA} : ∀ {n i : Nat} {l : List V}, H.loadN C a i n = some l ↔ l.length = n ∧ ∀ k, k < n → H.cellsAt C a (i + k) = l[k]?
  | 0, i, l => by simp [Heap.loadN, eq_comm]
  | n + 1, i, l => by
    unfold Heap.loadN
    constructor
    · intro h
      split at h <;> cases h
      rename_i v r h1 h2
      obtain ⟨h3, h4⟩ := loadN_iff.1 h2
      refine ⟨by simp [h3], fun k hk => ?_⟩
      cases k with
      | zero => simpa using h1
      | succ k =>
        have := h4 k (by omega)
        rw [List.getElem?_cons_succ, ← this]; congr 1; omega
    · intro ⟨h1, h2⟩
      cases l with
      | nil => simp at h1
      | cons v l =>
        have hv : H.cellsAt C a i = some v := by simpa using h2 0 (by omega)
        have hl : H.loadN C a (i + 1) n = some l := loadN_iff.2 ⟨by simpa using h1, fun k hk => by
          have := h2 (k + 1) (by omega)
          rw [List.getElem?_cons_succ] at this; rw [← this]; congr 1; omega⟩
        rw [hv, hl]

theorem loadN_add (a : PA) (m i n : Nat) : H.loadN C (a.add m) i n = H.loadN C a (m + i) n := by
  induction n generalizing i with
  | zero => rfl
  | succ n ih => simp only [Heap.loadN, cellsAt_add, ih, Nat.add_assoc]

theorem Agree.loadN (h : Agree S H H') {a : PA} (ha : a.At S) (i n : Nat) : H'.loadN C a i n = H.loadN C a i n := by
  induction n generalizing i with
  | zero => rfl
  | succ n ih => simp only [Heap.loadN, h.cellsAt ha, ih]

theorem loadN_app {a : PA} {i n m : Nat} {l l' : List V} (h : H.loadN C a i n = some l) (h' : H.loadN C a (i + n) m = some l') : H.loadN C a i (n + m) = some (l ++ l') := by
  obtain ⟨h1, h2⟩ := loadN_iff.1 h
  obtain ⟨h3, h4⟩ := loadN_iff.1 h'
  refine loadN_iff.2 ⟨by simp [h1, h3], fun k hk => ?_⟩
  by_cases hk' : k < n
  · rw [h2 k hk', List.getElem?_append_left (by omega)]
  · have := h4 (k - n) (by omega)
    rw [List.getElem?_append_right (by omega), h1, ← this]; congr 1; omega

theorem loadN_own {b off n ty : Nat} {l : List V} (h : H.get b = some (.cells ty l)) (hn : off + n ≤ l.length) : H.loadN C ⟨.own, b, off⟩ 0 n = some ((l.drop off).take n) :=
  loadN_iff.2 ⟨by simp; omega, fun k hk => by rw [cellsAt_own h]; simp [List.getElem?_take, List.getElem?_drop, hk]⟩

theorem load1 {a : PA} {v : V} (h : H.loadN C a 0 1 = some [v]) : H.cellsAt C a 0 = some v := by simpa using (loadN_iff.1 h).2 0 (by omega)

/-! ## Slices that are read: elements of e cells each -/

def Load (C : Cfg) (H : Heap) (e : Nat) (a : PA) (cs : List (List V)) : Prop := ∀ i c, cs[i]? = some c → H.loadN C (a.add (i * e)) 0 e = some c

def Sl (C : Cfg) (H : Heap) (S : Nat → Prop) (e : Nat) (v : V) (cs : List (List V)) : Prop :=
  (v = .nils ∧ cs = []) ∨ ∃ a cap, v = .slice a cs.length cap ∧ a.At S ∧ Load C H e a cs

theorem Load.agree {e : Nat} {a : PA} {cs : List (List V)} (h : Load C H e a cs) (ha : a.At S) (k : Agree S H H') : Load C H' e a cs := fun i c hc => by
  rw [k.loadN (ha.add _)]; exact h i c hc

theorem Sl.agree {e : Nat} {v : V} {cs : List (List V)} (h : Sl C H S e v cs) (k : Agree S H H') : Sl C H' S e v cs := by
  rcases h with h | ⟨a, cap, h1, h2, h3⟩
  · exact .inl h
  · exact .inr ⟨a, cap, h1, h2, h3.agree h2 k⟩

theorem Sl.sub {T : Nat → Prop} {e : Nat} {v : V} {cs : List (List V)} (h : Sl C H S e v cs) (k : ∀ id, S id → T id) : Sl C H T e v cs := by
  rcases h with h | ⟨a, cap, h1, h2, h3⟩
  · exact .inl h
  · exact .inr ⟨a, cap, h1, h2.sub k, h3⟩

theorem Load.width {e : Nat} {a : PA} {cs : List (List V)} (h : Load C H e a cs) : ∀ c ∈ cs, c.length = e := fun c hc => by
  obtain ⟨i, hi⟩ := List.getElem?_of_mem hc
  exact (loadN_iff.1 (h i c hi)).1

theorem Load.flat {e : Nat} : ∀ {cs : List (List V)} {a : PA}, Load C H e a cs → H.loadN C a 0 (cs.length * e) = some cs.flatten
  | [], a, h => by simp [Heap.loadN]
  | c :: cs, a, h => by
    have h0 : H.loadN C a 0 e = some c := by
      have := h 0 c rfl
      rw [loadN_add] at this; simpa using this
    have hr : Load C H e (a.add e) cs := fun i d hd => by
      have := h (i + 1) d (by simpa using hd)
      rw [loadN_add] at this ⊢
      rw [loadN_add]
      rw [← this]; congr 1; rw [Nat.add_mul]; omega
    have h1 := hr.flat
    rw [loadN_add] at h1
    have := loadN_app h0 (by simpa using h1)
    simpa [Nat.add_mul, Nat.add_comm] using this

theorem Load.own {b e ty : Nat} : ∀ {cs : List (List V)} {off : Nat} {l : List V}, H.get b = some (.cells ty l) → (∀ c ∈ cs, c.length = e) → (∃ r, l.drop off = cs.flatten ++ r) → Load C H e ⟨.own, b, off⟩ cs
  | [], off, l, h, hw, hl => fun i c hc => by simp at hc
  | c :: cs, off, l, h, hw, hl => fun i d hd => by
    obtain ⟨r, hr⟩ := hl
    have hc : c.length = e := hw c List.mem_cons_self
    have hlen : (l.drop off).length = c.length + cs.flatten.length + r.length := by rw [hr]; simp; omega
    simp only [List.length_drop] at hlen
    cases i with
    | zero =>
      cases hd
      rw [loadN_add]
      simp only [Nat.zero_mul, Nat.add_zero]
      by_cases he : e = 0
      · subst he; have : c = [] := List.length_eq_zero_iff.1 hc
        subst this; rfl
      · rw [loadN_own h (by omega), hr, ← hc]; simp
    | succ i =>
      have ih := Load.own (cs := cs) (off := off + e) (l := l) h (fun c hc => hw c (List.mem_cons_of_mem _ hc)) ⟨r, by
        rw [← List.drop_drop, hr, List.flatten_cons, List.append_assoc, ← hc]; simp⟩
      have := ih i d (by simpa using hd)
      rw [loadN_add] at this ⊢
      rw [← this]
      have : H.loadN C ⟨.own, b, off + e⟩ (i * e + 0) e = H.loadN C (PA.add ⟨.own, b, off⟩ e) (i * e + 0) e := rfl
      rw [this, loadN_add]; congr 1; rw [Nat.add_mul]; omega

theorem Sl.own {b e ty : Nat} {cs : List (List V)} {cap : Cap} (h : H.get b = some (.cells ty cs.flatten)) (hw : ∀ c ∈ cs, c.length = e) (hs : S b) : Sl C H S e (.slice ⟨.own, b, 0⟩ cs.length cap) cs :=
  .inr ⟨_, _, rfl, fun _ => hs, Load.own h hw ⟨[], by simp⟩⟩

/-- What is appended. -/
theorem Sl.src {e : Nat} {v : V} {cs : List (List V)} (h : Sl C H S e v cs) (h1 : cs.flatten.all V.one = true) : srcCells C H false e v = some (cs.flatten, cs.length) := by
  rcases h with ⟨rfl, rfl⟩ | ⟨a, cap, rfl, h2, h3⟩
  · rfl
  · simp only [srcCells, h3.flat, h1, if_true]

theorem Sl.len_nil {e : Nat} {cs : List (List V)} (h : Sl C H S e .nils cs) : cs = [] := by
  rcases h with ⟨_, h⟩ | ⟨a, cap, h, _⟩
  · exact h
  · cases h

/-- The length of whatever is read. -/
theorem OpR.lenS {fs : Fs} {nid : Nat} {R : V → Heap → Prop} {x : Opd} {v : V} {e : Nat} {cs : List (List V)} (hx : ev fs x = some v) (h : Sl C H S e v cs) (k : R (i64 cs.length) H) : OpR C fs (.len x) nid H R := by
  rcases h with ⟨rfl, rfl⟩ | ⟨a, cap, rfl, h2, h3⟩
  · exact .lenN hx k
  · exact .len hx k

/-- The address of an element. -/
theorem OpR.iasS {fs : Fs} {nid : Nat} {R : V → Heap → Prop} {x i : Opd} {v : V} {e : Nat} {cs : List (List V)} {kd : IntKind} {n : Int} (hx : ev fs x = some v) (hi : ev fs i = some (.int kd n)) (h : Sl C H S e v cs) (h0 : 0 ≤ n) (h1 : n < (cs.length : Int))
    (k : ∀ a c, a.At S → cs[n.toNat]? = some c → H.loadN C a 0 e = some c → R (.ptr a) H) : OpR C fs (.ias e x i) nid H R := by
  rcases h with ⟨rfl, rfl⟩ | ⟨a, cap, rfl, h2, h3⟩
  · simp at h1; omega
  · have hlt : n.toNat < cs.length := by omega
    exact .ias hx hi h0 h1 (k _ _ (h2.add _) (List.getElem?_eq_getElem hlt) (h3 _ _ (List.getElem?_eq_getElem hlt)))

end

/-! ## A slice that grows -/

def Grow (H : Heap) (ty e lo : Nat) (v : V) (cs : List (List V)) : Prop :=
  (v = .nils ∧ cs = []) ∨ (cs ≠ [] ∧ ∃ b, v = .slice ⟨.own, b, 0⟩ cs.length (.un e) ∧ lo ≤ b ∧ b < H.next ∧ H.get b = some (.cells ty cs.flatten) ∧ ∀ c ∈ cs, c.length = e)

theorem Grow.nil (H : Heap) (ty e lo : Nat) : Grow H ty e lo .nils [] := .inl ⟨rfl, rfl⟩

theorem Grow.keeps {H H' : Heap} {ty e lo : Nat} {v : V} {cs : List (List V)} (h : Grow H ty e lo v cs) (k : Keeps H H') : Grow H' ty e lo v cs := by
  rcases h with h | ⟨h0, b, h1, h2, h3, h4, h5⟩
  · exact .inl h
  · exact .inr ⟨h0, b, h1, h2, Nat.lt_of_lt_of_le h3 k.next, by rw [k.get b h3, h4], h5⟩

theorem Grow.sl {C : Cfg} {H : Heap} {ty e lo : Nat} {v : V} {cs : List (List V)} (h : Grow H ty e lo v cs) : Sl C H (fun id => lo ≤ id ∧ id < H.next) e v cs := by
  rcases h with h | ⟨h0, b, rfl, h2, h3, h4, h5⟩
  · exact .inl h
  · exact Sl.own h4 h5 ⟨h2, h3⟩

theorem storeN_nil (H : Heap) (a : PA) : a.r ≠ .own → H.storeN a [] = some H := by
  intro h
  unfold Heap.storeN
  cases hr : a.r with
  | own => exact absurd hr h
  | st => rfl
  | gl => rfl

/-- append to what grows. -/
theorem Grow.app {C : Cfg} {H : Heap} {S : Nat → Prop} {ty e lo nid : Nat} {v w : V} {cs ns : List (List V)} (h : Grow H ty e lo v cs) (he : 0 < e) (hlo : lo ≤ nid) (hn : H.next ≤ nid) (hw : Sl C H S e w ns) (h1 : ns.flatten.all V.one = true) (hwd : ∀ c ∈ ns, c.length = e)
    (hl : cs.length + ns.length ≤ 68719476736) : ∃ r H', iapp C nid false ty e v w H = some (r, H') ∧ Grow H' ty e lo r (cs ++ ns) ∧ H.next ≤ H'.next ∧ (∀ id, id < H.next → (id < lo ∨ (∀ a n c, v = .slice a n c → id ≠ a.b)) → H'.get id = H.get id) := by
  have hsrc := hw.src h1
  unfold iapp
  rw [hsrc]
  simp only
  rcases h with ⟨rfl, rfl⟩ | ⟨h0, b, rfl, h2, h3, h4, h5⟩
  · simp only
    by_cases hz : ns.length = 0
    · have : ns = [] := List.length_eq_zero_iff.1 hz
      subst this
      rw [if_pos List.length_nil]
      exact ⟨.nils, H, rfl, .inl ⟨rfl, rfl⟩, Nat.le_refl _, fun _ _ _ => rfl⟩
    · simp only [List.length_nil, Nat.zero_add] at hl
      rw [if_neg hz, if_neg (by omega)]
      refine ⟨_, _, rfl, .inr ⟨fun h => hz (by simp at h; simp [h]), nid, by simp, hlo, Heap.id_lt_put _ _ _, by simpa using Heap.get_put_self _ _ _, by simpa using hwd⟩, Heap.next_le_put _ _ _, fun id hid _ => Heap.get_put_ne _ _ (by omega)⟩
  · simp only
    by_cases hz : ns.length = 0
    · have : ns = [] := List.length_eq_zero_iff.1 hz
      subst this
      rw [if_pos List.length_nil]
      exact ⟨_, H, rfl, .inr ⟨by simpa using h0, b, by simp, h2, h3, by simpa using h4, by simpa using h5⟩, Nat.le_refl _, fun _ _ _ => rfl⟩
    · rw [if_neg hz, if_neg (by omega)]
      have hld : H.loadN C ⟨.own, b, 0⟩ 0 (cs.length * e) = some cs.flatten := (Load.own h4 h5 ⟨[], by simp⟩ : Load C H e ⟨.own, b, 0⟩ cs).flat
      simp only [h4, hld, ne_eq, not_true_eq_false, if_false]
      refine ⟨_, _, rfl, .inr ⟨by simp [h0], nid, by simp, hlo, Heap.id_lt_put _ _ _, by simpa using Heap.get_put_self _ _ _, fun c hc => ?_⟩, Heap.next_le_put (H.del b) _ _, fun id hid hs => ?_⟩
      · rcases List.mem_append.1 hc with hc | hc
        · exact h5 c hc
        · exact hwd c hc
      · rw [Heap.get_put_ne _ _ (by omega), Heap.get_del, if_neg ?_]
        rcases hs with hs | hs
        · omega
        · exact hs _ _ _ rfl

end Im

/- Types of plain data ('Ty'), what data of such a type look like in cells ('Rt'). No condition. -/
namespace Im
open Go (IntKind BinOp UnOp)

inductive Ty where
  | bool
  | int (k : IntKind)
  | str
  | slice (e : Ty)
  | struct (fs : List Ty)

mutual
def Ty.sz : Ty → Nat
  | .bool | .int _ | .str | .slice _ => 1
  | .struct fs => Ty.szs fs
def Ty.szs : List Ty → Nat
  | [] => 0
  | t :: ts => t.sz + Ty.szs ts
end

mutual
@[reducible] def Ty.D : Ty → Type
  | .bool => Bool
  | .int _ => Int
  | .str => List UInt8
  | .slice e => List e.D
  | .struct fs => Ty.Ds fs
@[reducible] def Ty.Ds : List Ty → Type
  | [] => Unit
  | [t] => t.D
  | t :: u :: ts => t.D × Ty.Ds (u :: ts)
end

/-- Elements one by one. -/
def All2 {α β : Type} (R : α → β → Prop) : List α → List β → Prop
  | [], [] => True
  | x :: xs, y :: ys => R x y ∧ All2 R xs ys
  | _, _ => False

theorem All2.length {α β : Type} {R : α → β → Prop} : ∀ {xs : List α} {ys : List β}, All2 R xs ys → xs.length = ys.length
  | [], [], _ => rfl
  | x :: xs, y :: ys, h => by simp [h.2.length]

theorem All2.get {α β : Type} {R : α → β → Prop} : ∀ {xs : List α} {ys : List β}, All2 R xs ys → ∀ {i : Nat} {y : β}, ys[i]? = some y → ∃ x, xs[i]? = some x ∧ R x y
  | [], [], _, i, y, h => by simp at h
  | x :: xs, y0 :: ys, hk, 0, y, h => by simp at h; subst h; exact ⟨x, rfl, hk.1⟩
  | x :: xs, y0 :: ys, hk, i + 1, y, h => by simp at h; simpa using hk.2.get h

theorem All2.mono {α β : Type} {R T : α → β → Prop} (hr : ∀ x y, R x y → T x y) : ∀ {xs : List α} {ys : List β}, All2 R xs ys → All2 T xs ys
  | [], [], _ => trivial
  | x :: xs, y :: ys, h => ⟨hr _ _ h.1, h.2.mono hr⟩

theorem All2.app {α β : Type} {R : α → β → Prop} : ∀ {xs xs' : List α} {ys ys' : List β}, All2 R xs ys → All2 R xs' ys' → All2 R (xs ++ xs') (ys ++ ys')
  | [], _, [], _, _, h => h
  | x :: xs, _, y :: ys, _, h, k => ⟨h.1, h.2.app k⟩

theorem All2.map {α β : Type} {R : α → β → Prop} (f : α → β) (h : ∀ x, R x (f x)) : ∀ (xs : List α), All2 R xs (xs.map f)
  | [] => trivial
  | x :: xs => ⟨h x, All2.map f h xs⟩

mutual
/-- The cells of a type's data. -/
def Rt (C : Cfg) (H : Heap) (S : Nat → Prop) : (T : Ty) → T.D → List V → Prop
  | .bool, x, l => l = [.bool x]
  | .int k, x, l => l = [.int k x] ∧ k.min ≤ x ∧ x ≤ k.max
  | .str, x, l => l = [.str x]
  | .slice e, x, l => ∃ v cs, l = [v] ∧ Sl C H S e.sz v cs ∧ All2 (fun y c => Rt C H S e y c) x cs
  | .struct fs, x, l => Rts C H S fs x l
def Rts (C : Cfg) (H : Heap) (S : Nat → Prop) : (Ts : List Ty) → Ty.Ds Ts → List V → Prop
  | [], _, l => l = []
  | [t], x, l => Rt C H S t x l
  | t :: u :: ts, x, l => ∃ l1 l2, l = l1 ++ l2 ∧ Rt C H S t x.1 l1 ∧ Rts C H S (u :: ts) x.2 l2
end

mutual
theorem Rt.to {C : Cfg} {H H' : Heap} {S S' : Nat → Prop} (h : ∀ e v cs, Sl C H S e v cs → Sl C H' S' e v cs) : ∀ (T : Ty) (x : T.D) (l : List V), Rt C H S T x l → Rt C H' S' T x l
  | .bool, x, l, k => by simpa [Rt] using k
  | .int _, x, l, k => by simpa [Rt] using k
  | .str, x, l, k => by simpa [Rt] using k
  | .slice e, x, l, k => by
    simp only [Rt] at k ⊢
    obtain ⟨v, cs, h1, h2, h3⟩ := k
    exact ⟨v, cs, h1, h _ _ _ h2, h3.mono fun y c hc => Rt.to h e y c hc⟩
  | .struct fs, x, l, k => by simp only [Rt] at k ⊢; exact Rts.to h fs x l k
theorem Rts.to {C : Cfg} {H H' : Heap} {S S' : Nat → Prop} (h : ∀ e v cs, Sl C H S e v cs → Sl C H' S' e v cs) : ∀ (Ts : List Ty) (x : Ty.Ds Ts) (l : List V), Rts C H S Ts x l → Rts C H' S' Ts x l
  | [], x, l, k => by simpa [Rts] using k
  | [t], x, l, k => by simp only [Rts] at k ⊢; exact Rt.to h t x l k
  | t :: u :: ts, x, l, k => by
    simp only [Rts] at k ⊢
    obtain ⟨l1, l2, h1, h2, h3⟩ := k
    exact ⟨l1, l2, h1, Rt.to h t x.1 l1 h2, Rts.to h (u :: ts) x.2 l2 h3⟩
end

theorem Rt.agree {C : Cfg} {H H' : Heap} {S : Nat → Prop} {T : Ty} {x : T.D} {l : List V} (h : Rt C H S T x l) (k : Agree S H H') : Rt C H' S T x l := Rt.to (fun _ _ _ h => h.agree k) T x l h
theorem Rt.sub {C : Cfg} {H : Heap} {S S' : Nat → Prop} {T : Ty} {x : T.D} {l : List V} (h : Rt C H S T x l) (k : ∀ id, S id → S' id) : Rt C H S' T x l := Rt.to (fun _ _ _ h => h.sub k) T x l h

mutual
theorem Rt.width {C : Cfg} {H : Heap} {S : Nat → Prop} : ∀ {T : Ty} {x : T.D} {l : List V}, Rt C H S T x l → l.length = T.sz
  | .bool, x, l, k => by simp only [Rt] at k; subst k; rfl
  | .int _, x, l, k => by simp only [Rt] at k; rw [k.1]; rfl
  | .str, x, l, k => by simp only [Rt] at k; subst k; rfl
  | .slice e, x, l, k => by simp only [Rt] at k; obtain ⟨v, cs, h1, _⟩ := k; rw [h1]; rfl
  | .struct fs, x, l, k => by simp only [Rt] at k; rw [Ty.sz]; exact Rts.width k
theorem Rts.width {C : Cfg} {H : Heap} {S : Nat → Prop} : ∀ {Ts : List Ty} {x : Ty.Ds Ts} {l : List V}, Rts C H S Ts x l → l.length = Ty.szs Ts
  | [], x, l, k => by simp only [Rts] at k; subst k; rfl
  | [t], x, l, k => by simp only [Rts] at k; simp [Ty.szs, Rt.width k]
  | t :: u :: ts, x, l, k => by
    simp only [Rts] at k
    obtain ⟨l1, l2, h1, h2, h3⟩ := k
    rw [h1, List.length_append, Rt.width h2, Rts.width h3]; rfl
end

theorem all_one_append (a b : List V) : (a ++ b).all V.one = (a.all V.one && b.all V.one) := by simp

mutual
theorem Rt.one {C : Cfg} {H : Heap} {S : Nat → Prop} : ∀ {T : Ty} {x : T.D} {l : List V}, Rt C H S T x l → l.all V.one = true
  | .bool, x, l, k => by simp only [Rt] at k; subst k; rfl
  | .int _, x, l, k => by simp only [Rt] at k; rw [k.1]; rfl
  | .str, x, l, k => by simp only [Rt] at k; subst k; rfl
  | .slice e, x, l, k => by
    simp only [Rt] at k
    obtain ⟨v, cs, h1, h2, _⟩ := k
    rw [h1]
    rcases h2 with ⟨h2, _⟩ | ⟨a, cap, h2, _⟩ <;> (rw [h2]; rfl)
  | .struct fs, x, l, k => by simp only [Rt] at k; exact Rts.one k
theorem Rts.one {C : Cfg} {H : Heap} {S : Nat → Prop} : ∀ {Ts : List Ty} {x : Ty.Ds Ts} {l : List V}, Rts C H S Ts x l → l.all V.one = true
  | [], x, l, k => by simp only [Rts] at k; subst k; rfl
  | [t], x, l, k => by simp only [Rts] at k; exact Rt.one k
  | t :: u :: ts, x, l, k => by
    simp only [Rts] at k
    obtain ⟨l1, l2, h1, h2, h3⟩ := k
    rw [h1, all_one_append, Rt.one h2, Rts.one h3]; rfl
end

theorem All2.flat_one {C : Cfg} {H : Heap} {S : Nat → Prop} {T : Ty} : ∀ {xs : List T.D} {cs : List (List V)}, All2 (fun y c => Rt C H S T y c) xs cs → cs.flatten.all V.one = true
  | [], [], _ => rfl
  | x :: xs, c :: cs, h => by rw [List.flatten_cons, all_one_append, Rt.one h.1, All2.flat_one h.2]; rfl

theorem All2.wide {C : Cfg} {H : Heap} {S : Nat → Prop} {T : Ty} : ∀ {xs : List T.D} {cs : List (List V)}, All2 (fun y c => Rt C H S T y c) xs cs → ∀ c ∈ cs, c.length = T.sz
  | [], [], _, c, hc => by simp at hc
  | x :: xs, c0 :: cs, h, c, hc => by
    rcases List.mem_cons.1 hc with rfl | hc
    · exact Rt.width h.1
    · exact All2.wide h.2 c hc

end Im

/- Rules by which a program's text is walked: one a piece of code. No condition. -/
namespace Im
open Go (IntKind BinOp UnOp)

section
variable {C : Cfg} {nt : Nat} {ro : Option Nat} {fs : Fs} {H : Heap} {d : List Nat} {Q : Aft}

theorem andThen.nrm {K : Fs → Heap → List Nat → Prop} (h : K fs H d) : andThen K Q .nrm fs H d := h
theorem andThen.rt {K : Fs → Heap → List Nat → Prop} (h : Q .rt fs H d) : andThen K Q .rt fs H d := h
theorem andThen.ex {K : Fs → Heap → List Nat → Prop} {id : Nat} (h : Q (.ex id) fs H d) : andThen K Q (.ex id) fs H d := h

/-- What comes behind a block. -/
def blk (id : Nat) (K : Fs → Heap → List Nat → Prop) (Q : Aft) : Aft := fun e fs H d =>
  match e with
  | .nrm => K fs H d
  | .ex k => match Nat.beq k id with
    | true => K fs H d
    | false => Q (.ex k) fs H d
  | .rt => Q .rt fs H d

theorem blk.nrm {id : Nat} {K : Fs → Heap → List Nat → Prop} (h : K fs H d) : blk id K Q .nrm fs H d := h
theorem blk.rt {id : Nat} {K : Fs → Heap → List Nat → Prop} (h : Q .rt fs H d) : blk id K Q .rt fs H d := h
theorem blk.hit {id k : Nat} {K : Fs → Heap → List Nat → Prop} (hk : Nat.beq k id = true) (h : K fs H d) : blk id K Q (.ex k) fs H d := by
  simp only [blk, hk]; exact h
theorem blk.miss {id k : Nat} {K : Fs → Heap → List Nat → Prop} (hk : Nat.beq k id = false) (h : Q (.ex k) fs H d) : blk id K Q (.ex k) fs H d := by
  simp only [blk, hk]; exact h

theorem WX.seqReg {os : List IOper} {b : ICode} (h : WO C nt os fs H (fun fs' H' => WX C nt ro b fs' H' d Q)) : WX C nt ro (.seq (.reg os) b) fs H d Q := .seq (.reg h)
theorem WX.seqRegD {os : List IOper} {mats : List (Nat × List Nat)} {prs : List (Nat × Nat)} {b : ICode} (h : WD C nt H.next mats os 0 fs (H.bump os.length) [] (fun ars fs' H' => Floats C os ars prs ∧ WX C nt ro b fs' H' d Q)) : WX C nt ro (.seq (.regD os mats prs) b) fs H d Q := .seq (.regD h)
theorem WX.seqSkip {b : ICode} (h : WX C nt ro b fs H d Q) : WX C nt ro (.seq .skip b) fs H d Q := .seq (.skip h)
theorem WX.seqRet {b : ICode} (h : Q .rt fs H d) : WX C nt ro (.seq .ret b) fs H d Q := .seq (.ret h)
theorem WX.seqExit {b : ICode} {id : Nat} (h : Q (.ex id) fs H d) : WX C nt ro (.seq (.exit id) b) fs H d Q := .seq (.exit h)
theorem WX.seqScope {a b : ICode} (h : WX C nt ro (.seq a b) fs H d Q) : WX C nt ro (.seq (.scope a) b) fs H d Q := h

theorem WX.seqSeq {a b c : ICode} (h : WX C nt ro (.seq a (.seq b c)) fs H d Q) : WX C nt ro (.seq (.seq a b) c) fs H d Q := by
  intro t hl ht
  obtain ⟨e, t', H', d', fs', ⟨n, h1⟩, h2⟩ := h t hl ht
  refine ⟨e, t', H', d', fs', ⟨n, ?_⟩, h2⟩
  simp only [exec] at h1 ⊢
  rw [← h1]
  cases exec (icall C n) C n ro a t H d with
  | none => rfl
  | some r =>
    obtain ⟨e, t1, H1, d1⟩ := r
    cases e <;> rfl

theorem WX.seqCondT {c : Opd} {a b k : ICode} (hc : ev fs c = some (.bool true)) (h : WX C nt ro (.seq a k) fs H d Q) : WX C nt ro (.seq (.cond c a b) k) fs H d Q := by
  intro t hl ht
  obtain ⟨e, t', H', d', fs', ⟨n, h1⟩, h2⟩ := h t hl ht
  exact ⟨e, t', H', d', fs', ⟨n, by simp only [exec, ht.ev hc] at h1 ⊢; exact h1⟩, h2⟩
theorem WX.seqCondF {c : Opd} {a b k : ICode} (hc : ev fs c = some (.bool false)) (h : WX C nt ro (.seq b k) fs H d Q) : WX C nt ro (.seq (.cond c a b) k) fs H d Q := by
  intro t hl ht
  obtain ⟨e, t', H', d', fs', ⟨n, h1⟩, h2⟩ := h t hl ht
  exact ⟨e, t', H', d', fs', ⟨n, by simp only [exec, ht.ev hc] at h1 ⊢; exact h1⟩, h2⟩

theorem WX.blk {id : Nat} {b : ICode} (h : WX C nt ro b fs H d (Im.blk id (fun fs' H' d' => Q .nrm fs' H' d') Q)) : WX C nt ro (.block id b) fs H d Q := by
  refine .block (h.mono fun e fs' H' d' he => ?_)
  cases e with
  | nrm => exact he
  | rt => exact he
  | ex k =>
    unfold Im.blk at he
    simp only at he ⊢
    cases hk : Nat.beq k id with
    | true => rw [hk] at he; rw [if_pos (Nat.eq_of_beq_eq_true hk)]; exact he
    | false => rw [hk] at he; rw [if_neg (Nat.ne_of_beq_eq_false hk)]; exact he

theorem WX.seqBlk {id : Nat} {b k : ICode} (h : WX C nt ro b fs H d (Im.blk id (fun fs' H' d' => WX C nt ro k fs' H' d' Q) Q)) : WX C nt ro (.seq (.block id b) k) fs H d Q := by
  refine .seq (.blk (h.mono fun e fs' H' d' he => ?_))
  cases e with
  | nrm => exact he
  | rt => exact he
  | ex j =>
    unfold Im.blk at he ⊢
    cases hk : Nat.beq j id with
    | true => simp only [hk] at he ⊢; exact he
    | false => simp only [hk] at he ⊢; exact he

/-- A loop that what it leaves by: an exit, or a return. -/
theorem WX.seqLoop {b k : ICode} (h : WX C nt ro (.loop b) fs H d (andThen (fun fs' H' d' => WX C nt ro k fs' H' d' Q) Q)) : WX C nt ro (.seq (.loop b) k) fs H d Q := .seq h

end

/-! ## Ends -/

theorem AtEnd.nrm {C : Cfg} {res : List IRes} {R : V → Heap → Prop} {fs : Fs} {H : Heap} {l : List V} (h : resF C fs H res = some l) (k : R (tupOf l) H) : AtEnd C res R .nrm fs H [] := ⟨H, l, rfl, h, k⟩
theorem AtEnd.rt {C : Cfg} {res : List IRes} {R : V → Heap → Prop} {fs : Fs} {H : Heap} {l : List V} (h : resF C fs H res = some l) (k : R (tupOf l) H) : AtEnd C res R .rt fs H [] := ⟨H, l, rfl, h, k⟩

/-! ## Numbers -/

section
variable {C : Cfg} {fs : Fs} {nid : Nat} {H : Heap} {R : V → Heap → Prop}

theorem OpR.add64 {x y : Opd} {a b : Int} (hx : ev fs x = some (.int .i64 a)) (hy : ev fs y = some (.int .i64 b)) (h : -9223372036854775808 ≤ a + b ∧ a + b ≤ 9223372036854775807) (k : R (.int .i64 (a + b)) H) : OpR C fs (.bin .add x y) nid H R :=
  .bin hx hy (r := .int .i64 (a + b)) (by simp only [ibin, if_true]; rw [Go.IntWalk.i64_in _ h]) k
theorem OpR.sub64 {x y : Opd} {a b : Int} (hx : ev fs x = some (.int .i64 a)) (hy : ev fs y = some (.int .i64 b)) (h : -9223372036854775808 ≤ a - b ∧ a - b ≤ 9223372036854775807) (k : R (.int .i64 (a - b)) H) : OpR C fs (.bin .sub x y) nid H R :=
  .bin hx hy (r := .int .i64 (a - b)) (by simp only [ibin, if_true]; rw [Go.IntWalk.i64_in _ h]) k
theorem OpR.mul64 {x y : Opd} {a b : Int} (hx : ev fs x = some (.int .i64 a)) (hy : ev fs y = some (.int .i64 b)) (h : -9223372036854775808 ≤ a * b ∧ a * b ≤ 9223372036854775807) (k : R (.int .i64 (a * b)) H) : OpR C fs (.bin .mul x y) nid H R :=
  .bin hx hy (r := .int .i64 (a * b)) (by simp only [ibin, if_true]; rw [Go.IntWalk.i64_in _ h]) k

theorem OpR.lss {x y : Opd} {k0 : IntKind} {a b : Int} (hx : ev fs x = some (.int k0 a)) (hy : ev fs y = some (.int k0 b)) (h1 : a < b → R (.bool true) H) (h2 : b ≤ a → R (.bool false) H) : OpR C fs (.bin .lss x y) nid H R := by
  refine .bin hx hy (r := .bool (decide (a < b))) (by simp [ibin]) ?_
  by_cases h : a < b
  · rw [decide_eq_true h]; exact h1 h
  · rw [decide_eq_false h]; exact h2 (by omega)
theorem OpR.gtr {x y : Opd} {k0 : IntKind} {a b : Int} (hx : ev fs x = some (.int k0 a)) (hy : ev fs y = some (.int k0 b)) (h1 : b < a → R (.bool true) H) (h2 : a ≤ b → R (.bool false) H) : OpR C fs (.bin .gtr x y) nid H R := by
  refine .bin hx hy (r := .bool (decide (b < a))) (by simp [ibin]) ?_
  by_cases h : b < a
  · rw [decide_eq_true h]; exact h1 h
  · rw [decide_eq_false h]; exact h2 (by omega)
theorem OpR.leq {x y : Opd} {k0 : IntKind} {a b : Int} (hx : ev fs x = some (.int k0 a)) (hy : ev fs y = some (.int k0 b)) (h1 : a ≤ b → R (.bool true) H) (h2 : b < a → R (.bool false) H) : OpR C fs (.bin .leq x y) nid H R := by
  refine .bin hx hy (r := .bool (decide (a ≤ b))) (by simp [ibin]) ?_
  by_cases h : a ≤ b
  · rw [decide_eq_true h]; exact h1 h
  · rw [decide_eq_false h]; exact h2 (by omega)
theorem OpR.geq {x y : Opd} {k0 : IntKind} {a b : Int} (hx : ev fs x = some (.int k0 a)) (hy : ev fs y = some (.int k0 b)) (h1 : b ≤ a → R (.bool true) H) (h2 : a < b → R (.bool false) H) : OpR C fs (.bin .geq x y) nid H R := by
  refine .bin hx hy (r := .bool (decide (b ≤ a))) (by simp [ibin]) ?_
  by_cases h : b ≤ a
  · rw [decide_eq_true h]; exact h1 h
  · rw [decide_eq_false h]; exact h2 (by omega)
theorem OpR.eql {x y : Opd} {k0 : IntKind} {a b : Int} (hx : ev fs x = some (.int k0 a)) (hy : ev fs y = some (.int k0 b)) (h1 : a = b → R (.bool true) H) (h2 : a ≠ b → R (.bool false) H) : OpR C fs (.bin .eql x y) nid H R := by
  refine .bin hx hy (r := .bool (decide (a = b))) (by simp [ibin]) ?_
  by_cases h : a = b
  · rw [decide_eq_true h]; exact h1 h
  · rw [decide_eq_false h]; exact h2 h
theorem OpR.neq {x y : Opd} {k0 : IntKind} {a b : Int} (hx : ev fs x = some (.int k0 a)) (hy : ev fs y = some (.int k0 b)) (h1 : a ≠ b → R (.bool true) H) (h2 : a = b → R (.bool false) H) : OpR C fs (.bin .neq x y) nid H R := by
  refine .bin hx hy (r := .bool (!decide (a = b))) (by simp [ibin]) ?_
  by_cases h : a = b
  · rw [decide_eq_true h]; exact h2 h
  · rw [decide_eq_false h]; exact h1 h
theorem OpR.eqlS {x y : Opd} {a b : List UInt8} (hx : ev fs x = some (.str a)) (hy : ev fs y = some (.str b)) (h1 : a = b → R (.bool true) H) (h2 : a ≠ b → R (.bool false) H) : OpR C fs (.bin .eql x y) nid H R := by
  refine .bin hx hy (r := .bool (beqBytes a b)) (by simp [ibin]) ?_
  rw [beqBytes_eq]
  by_cases h : a = b
  · rw [decide_eq_true h]; exact h1 h
  · rw [decide_eq_false h]; exact h2 h
theorem OpR.neqS {x y : Opd} {a b : List UInt8} (hx : ev fs x = some (.str a)) (hy : ev fs y = some (.str b)) (h1 : a ≠ b → R (.bool true) H) (h2 : a = b → R (.bool false) H) : OpR C fs (.bin .neq x y) nid H R := by
  refine .bin hx hy (r := .bool (!beqBytes a b)) (by simp [ibin]) ?_
  rw [beqBytes_eq]
  by_cases h : a = b
  · rw [decide_eq_true h]; exact h2 h
  · rw [decide_eq_false h]; exact h1 h
theorem OpR.not {x : Opd} {b : Bool} (hx : ev fs x = some (.bool b)) (k : R (.bool (!b)) H) : OpR C fs (.un .not x) nid H R := .un hx (r := .bool (!b)) rfl k
theorem OpR.notT {x : Opd} (hx : ev fs x = some (.bool true)) (k : R (.bool false) H) : OpR C fs (.un .not x) nid H R := .un hx (r := .bool false) rfl k
theorem OpR.notF {x : Opd} (hx : ev fs x = some (.bool false)) (k : R (.bool true) H) : OpR C fs (.un .not x) nid H R := .un hx (r := .bool true) rfl k

end
end Im

/- Rules by which a region that draws its order is walked. No condition. -/
namespace Im
open Go (IntKind BinOp UnOp)

section
variable {C : Cfg} {nt base : Nat} {mats : List (Nat × List Nat)} {os : List IOper} {i : Nat} {fs : Fs} {A : Heap} {pend : List (Nat × Obj)} {Q : List ARec → Fs → Heap → Prop}

theorem WD.nil0 (k : Q [] fs A) : WD C nt base mats [] i fs A [] Q := WD.nil k

theorem WD.pureAny {d : Option Nat} {g : Option (Nat × Bool)} {op : IOp} (hc : Nat.ble (clsOf op) 1 = true) (hg : Grd fs g)
    (h : OpR C fs op 0 A (fun v _ => ∃ fs1, Dst nt fs v d fs1 ∧ WD C nt base mats os (i + 1) fs1 A pend (fun ars fs' H' => Q (⟨fs, v, true, A, A⟩ :: ars) fs' H'))) : WD C nt base mats (⟨d, g, op⟩ :: os) i fs A pend Q := by
  intro t hl ht
  obtain ⟨n, v, H1, h1, fs1, hd, k⟩ := h t ht
  obtain ⟨m, rs, t', H', ars, fs', k1, k2, k3, k4, k5⟩ := k (setD t d v) (hd.ok hl ht).1 (hd.ok hl ht).2
  refine ⟨max n m, ⟨t, v, true, A, A, none⟩ :: rs, t', H', ⟨fs, v, true, A, A⟩ :: ars, fs', ?_, k2, k3, ⟨⟨ht, rfl, rfl, rfl, rfl⟩, k4⟩, k5⟩
  have hs : dstep (icall C n) C base mats i ⟨d, g, op⟩ t A pend = some (⟨t, v, true, A, A, none⟩, setD t d v, A, pend) := by
    have hc' : clsOf op ≤ 1 := ble_le hc
    simp only [dstep, hg.ok ht, if_true]
    generalize hcl : clsOf op = c at hc'
    rcases c with _ | _ | c
    · simp only [h1]
    · simp only [h1]
    · omega
  simp only [drun, dstep_le (icall_le C (Nat.le_max_left n m)) hs, drun_le (icall_le C (Nat.le_max_right n m)) _ _ _ _ _ _ k1]

theorem WD.step {d : Nat} {op : IOp} (hc : Nat.ble (clsOf op) 1 = true) (hd : Nat.blt d nt = true) (h : OpR C fs op 0 A (fun v _ => WD C nt base mats os (i + 1) ((d, v) :: fs) A pend (fun ars fs' H' => Q (⟨fs, v, true, A, A⟩ :: ars) fs' H'))) : WD C nt base mats (⟨some d, none, op⟩ :: os) i fs A pend Q :=
  WD.pureAny hc .none (h.mono fun _ _ k => ⟨_, .some _ hd, k⟩)
theorem WD.stepG {d g : Nat} {b : Bool} {op : IOp} (hg : lk fs g = some (.bool b)) (hc : Nat.ble (clsOf op) 1 = true) (hd : Nat.blt d nt = true) (h : OpR C fs op 0 A (fun v _ => WD C nt base mats os (i + 1) ((d, v) :: fs) A pend (fun ars fs' H' => Q (⟨fs, v, true, A, A⟩ :: ars) fs' H'))) : WD C nt base mats (⟨some d, some (g, b), op⟩ :: os) i fs A pend Q :=
  WD.pureAny hc (.some _ _ hg) (h.mono fun _ _ k => ⟨_, .some _ hd, k⟩)

theorem WD.box {d ty : Nat} {x : Opd} {v : V} (hd : Nat.blt d nt = true) (hx : ev fs x = some v) (k : WD C nt base mats os (i + 1) ((d, .ptr ⟨.own, base + i, 0⟩) :: fs) A ((i, .cells ty v.cells) :: pend) (fun ars fs' H' => Q (⟨fs, .ptr ⟨.own, base + i, 0⟩, true, A, A⟩ :: ars) fs' H')) :
    WD C nt base mats (⟨some d, none, .box ty x⟩ :: os) i fs A pend Q :=
  WD.make (H1 := Heap.empty.put (base + i) (.cells ty v.cells)) rfl .none (fun t ht => by simp [iop, ht.ev hx]) (Heap.get_put_self _ _ _) (.some _ hd) k
theorem WD.alc {d ty : Nat} {z : List V} (hd : Nat.blt d nt = true) (k : WD C nt base mats os (i + 1) ((d, .ptr ⟨.own, base + i, 0⟩) :: fs) A ((i, .cells ty z) :: pend) (fun ars fs' H' => Q (⟨fs, .ptr ⟨.own, base + i, 0⟩, true, A, A⟩ :: ars) fs' H')) :
    WD C nt base mats (⟨some d, none, .alc ty z⟩ :: os) i fs A pend Q :=
  WD.make (H1 := Heap.empty.put (base + i) (.cells ty z)) rfl .none (fun t ht => by simp [iop]) (Heap.get_put_self _ _ _) (.some _ hd) k
theorem WD.bslice {d ty n : Nat} {z l : List V} {ps : List (Nat × Nat × Opd)} (hd : Nat.blt d nt = true) (hp : fillF fs z ps = some l) (k : WD C nt base mats os (i + 1) ((d, .slice ⟨.own, base + i, 0⟩ n (.ex n)) :: fs) A ((i, .cells ty l) :: pend) (fun ars fs' H' => Q (⟨fs, .slice ⟨.own, base + i, 0⟩ n (.ex n), true, A, A⟩ :: ars) fs' H')) :
    WD C nt base mats (⟨some d, none, .bslice ty n z ps⟩ :: os) i fs A pend Q :=
  WD.make (H1 := Heap.empty.put (base + i) (.cells ty l)) rfl .none (fun t ht => by simp [iop, ht.fill hp]) (Heap.get_put_self _ _ _) (.some _ hd) k

/-- An effect where nothing is put off. -/
theorem WD.eff0 {d : Nat} {op : IOp} (hc : clsOf op = 3) (hd : Nat.blt d nt = true) (h : OpR C fs op (base + i) A (fun v H1 => WD C nt base mats os (i + 1) ((d, v) :: fs) H1 [] (fun ars fs' H' => Q (⟨fs, v, true, A, H1⟩ :: ars) fs' H'))) : WD C nt base mats (⟨some d, none, op⟩ :: os) i fs A [] Q :=
  WD.eff hc .none (OpR.mono (S := fun v H1 => WD C nt base mats os (i + 1) ((d, v) :: fs) H1 [] (fun ars fs' H' => Q (⟨fs, v, true, A, H1⟩ :: ars) fs' H')) h (fun _ _ k => ⟨_, .some _ hd, k⟩))
theorem WD.eff00 {op : IOp} (hc : clsOf op = 3) (h : OpR C fs op (base + i) A (fun v H1 => WD C nt base mats os (i + 1) fs H1 [] (fun ars fs' H' => Q (⟨fs, v, true, A, H1⟩ :: ars) fs' H'))) : WD C nt base mats (⟨none, none, op⟩ :: os) i fs A [] Q :=
  WD.eff hc .none (OpR.mono (S := fun v H1 => WD C nt base mats os (i + 1) fs H1 [] (fun ars fs' H' => Q (⟨fs, v, true, A, H1⟩ :: ars) fs' H')) h (fun _ _ k => ⟨_, .none, k⟩))
/-- An effect ahead of which some is laid ('P'), and some stays put off ('K'). -/
theorem WD.effP {d : Nat} {op : IOp} {P K : List (Nat × Obj)} (hP : (pend.filter fun p => (matOf mats i).contains p.1) = P) (hK : (pend.filter fun p => !(matOf mats i).contains p.1) = K) (hc : clsOf op = 3) (hd : Nat.blt d nt = true)
    (h : OpR C fs op (base + i) (puts base A P) (fun v H1 => WD C nt base mats os (i + 1) ((d, v) :: fs) H1 K (fun ars fs' H' => Q (⟨fs, v, true, A, H1⟩ :: ars) fs' H'))) : WD C nt base mats (⟨some d, none, op⟩ :: os) i fs A pend Q := by
  subst hP; subst hK
  exact WD.eff hc .none (h.mono fun _ _ k => ⟨_, .some _ hd, k⟩)

theorem WD.skipGD {d g : Nat} {b w : Bool} {op : IOp} (hg : lk fs g = some (.bool b)) (hb : (b == w) = false) (hd : Nat.blt d nt = true) (k : WD C nt base mats os (i + 1) ((d, .undef) :: fs) A pend (fun ars fs' H' => Q (⟨fs, .undef, false, A, A⟩ :: ars) fs' H')) : WD C nt base mats (⟨some d, some (g, w), op⟩ :: os) i fs A pend Q :=
  WD.off hg hb (.some _ hd) k
end

section
variable {C : Cfg} {nt : Nat} {ro : Option Nat} {fs : Fs} {H : Heap} {d : List Nat} {Q : Aft}
/-- Where no load floats. -/
theorem WX.seqRegD0 {os : List IOper} {mats : List (Nat × List Nat)} {b : ICode} (h : WD C nt H.next mats os 0 fs (H.bump os.length) [] (fun _ fs' H' => WX C nt ro b fs' H' d Q)) : WX C nt ro (.seq (.regD os mats []) b) fs H d Q :=
  .seqRegD (fun t hl ht => let ⟨n, rs, t', H', ars, fs', h1, h2, h3, h4, h5⟩ := h t hl ht; ⟨n, rs, t', H', ars, fs', h1, h2, h3, h4, trivial, h5⟩)
theorem WX.regD0 {os : List IOper} {mats : List (Nat × List Nat)} (h : WD C nt H.next mats os 0 fs (H.bump os.length) [] (fun _ fs' H' => Q .nrm fs' H' d)) : WX C nt ro (.regD os mats []) fs H d Q :=
  .regD (fun t hl ht => let ⟨n, rs, t', H', ars, fs', h1, h2, h3, h4, h5⟩ := h t hl ht; ⟨n, rs, t', H', ars, fs', h1, h2, h3, h4, trivial, h5⟩)
end

/-! ## Loads of data -/

section
variable {C : Cfg} {H : Heap} {S : Nat → Prop} {fs : Fs} {nid : Nat} {R : V → Heap → Prop}

/-- An element's address: its cells are a datum's. -/
theorem OpR.iasT {x i : Opd} {e : Nat} {v : V} {cs : List (List V)} {T : Ty} {xs : List T.D} {kd : IntKind} {n : Int} (hx : ev fs x = some v) (hi : ev fs i = some (.int kd n)) (h : Sl C H S e v cs) (hr : All2 (fun y c => Rt C H S T y c) xs cs) (h0 : 0 ≤ n) (h1 : n < (xs.length : Int))
    (k : ∀ a c (hn : n.toNat < xs.length), a.At S → H.loadN C a 0 e = some c → Rt C H S T xs[n.toNat] c → R (.ptr a) H) : OpR C fs (.ias e x i) nid H R :=
  .iasS hx hi h h0 (by rw [← hr.length]; exact h1) fun a c ha hc hl => by
    obtain ⟨y, hy, hz⟩ := hr.get hc
    have hn : n.toNat < xs.length := by omega
    rw [List.getElem?_eq_getElem hn] at hy; cases hy
    exact k a c hn ha hl hz

theorem OpR.ld1 {x : Opd} {a : PA} {v : V} (hx : ev fs x = some (.ptr a)) (hv : H.loadN C a 0 1 = some [v]) (k : R v H) : OpR C fs (.ld x) nid H R := .ld hx (load1 hv) k
end

end Im

