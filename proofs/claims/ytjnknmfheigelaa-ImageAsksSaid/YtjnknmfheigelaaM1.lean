/- The ideal machine and the walks over it, a part (M1): see the comments ahead of each piece. No condition. -/
import GoSem.Dispatch
import Derived.RangeFuncLeaves
import Derived.Below
import Derived.Laws.Cells
import Derived.Deep.AppendSrc

/- The ideal machine: values, heap, code, and its interpreter 'icall'. Pure definitions; no condition. -/
namespace Im
open Go (IntKind BinOp UnOp)

/-! ## Values -/

/-- Which memory: the call's own objects, memory that was there before (static), a package variable. -/
inductive Reg where
  | own | st | gl

/-- The address of a cell. -/
structure PA where
  r : Reg
  b : Nat
  off : Nat

/-- A slice's capacity: known; or whatever the array has ('un e': elements of e cells). -/
inductive Cap where
  | ex (n : Nat)
  | un (e : Nat)

inductive V where
  | int (k : IntKind) (n : Int)
  | bool (b : Bool)
  | str (s : List UInt8)
  | nilp
  | ptr (a : PA)
  | nils
  | slice (a : PA) (len : Nat) (cap : Cap)
  | nilm
  | map (id : Nat)
  | nilf
  | fn (f : Nat) (first caps : List V)
  | yld (l : Nat)
  | nili
  | iface (t : Nat) (v : V)
  | agg (l : List V)
  | tup (l : List V)

def V.undef : V := .tup []
def V.cells : V → List V
  | .agg l => l
  | v => [v]
/-- Not of several cells. -/
def V.one : V → Bool
  | .agg _ | .tup _ => false
  | _ => true
def i64 (n : Int) : V := .int .i64 n

/-! ## Code -/

inductive Opd where
  | t (i : Nat)
  | c (v : V)
  | g (n : Nat)
  | f (n : Nat)

/-- How two values of a type are compared. -/
inductive EqT where
  | bool | int | str | ptr | slc | map | fn | ifc
  | st (l : List (Nat × Option Nat × EqT))

inductive IOp where
  | mv (x : Opd)
  | pick (c a b : Opd)
  | nilck (x : Opd)
  | box (ty : Nat) (x : Opd)
  | alc (ty : Nat) (z : List V)
  | build (z : List V) (ps : List (Nat × Nat × Opd))
  | bslice (ty : Nat) (n : Nat) (z : List V) (ps : List (Nat × Nat × Opd))
  | ld (x : Opd)
  | ldn (n : Nat) (x : Opd)
  | st (n : Nat) (x v : Opd)
  | fa (off : Nat) (x : Opd)
  | ias (e : Nat) (x i : Opd)
  | iaa (len e : Nat) (x i : Opd)
  | fld (off : Nat) (x : Opd)
  | fldn (off n : Nat) (x : Opd)
  | idxs (x i : Opd)
  | idxa (len : Nat) (x i : Opd)
  | idxn (len n : Nat) (x i : Opd)
  | ext (i : Nat) (x : Opd)
  | bin (op : BinOp) (x y : Opd)
  | eq (neg : Bool) (q : EqT) (x y : Opd)
  | un (op : UnOp) (x : Opd)
  | cint (k : IntKind) (x : Opd)
  | cid (x : Opd)
  | cbs (x : Opd)
  | cnb (x : Opd)
  | csb (ty : Nat) (x : Opd)
  | len (x : Opd)
  | lens (x : Opd)
  | lena (n : Nat)
  | capo (x : Opd)
  | lenm (x : Opd)
  | slcs (x : Opd) (lo hi : Option Opd)
  | slc (e : Nat) (x : Opd) (lo hi mx : Option Opd)
  | slca (n e : Nat) (x : Opd) (lo hi mx : Option Opd)
  | call (f : Nat) (args : List Opd)
  | callv (x : Opd) (args : List Opd)
  | app (s : Bool) (ty e : Nat) (x y : Opd)
  | appz (ty e : Nat) (z : List V) (x n : Opd)
  | cpy (s : Bool) (e : Nat) (x y : Opd)
  | clr (z : List V) (x : Opd)
  | mkf (f : Nat) (first caps : List Opd)
  | mks (ty : Nat) (z : List V) (len cap : Opd)
  | mkm
  | lkup (kt : Nat) (ok : Bool) (z : V) (x k : Opd)
  | mupd (kt : Nat) (x k v : Opd)
  | mif (t : Nat) (x : Opd)
  | tas (t : Nat) (ok : Bool) (z : V) (x : Opd)
  | mmax (xs : List Opd)
  | mmin (xs : List Opd)
  | bad

/-- 0: only computes · 1: reads memory · 2: makes an object · 3: whatever else. -/
def clsOf : IOp → Nat
  | .mv _ | .pick .. | .nilck _ | .build .. | .fa .. | .ias .. | .iaa .. | .fld .. | .fldn .. | .idxs .. | .idxa .. | .idxn .. | .ext .. | .bin .. | .eq .. | .un .. | .cint .. | .cid _
  | .len _ | .lens _ | .lena _ | .capo _ | .slcs .. | .slc .. | .slca .. | .mkf .. | .mif .. | .tas .. | .mmax _ | .mmin _ | .bad => 0
  | .ld _ | .ldn .. | .cbs _ | .cnb _ | .lenm _ | .lkup .. => 1
  | .box .. | .alc .. | .bslice .. => 2
  | .st .. | .csb .. | .call .. | .callv .. | .app .. | .appz .. | .cpy .. | .clr .. | .mks .. | .mkm | .mupd .. => 3

structure IOper where
  dst : Option Nat
  guard : Option (Nat × Bool)
  op : IOp

inductive ICode where
  | skip
  | reg (ops : List IOper)
  | regD (ops : List IOper) (mats : List (Nat × List Nat)) (prs : List (Nat × Nat))
  | seq (a b : ICode)
  | cond (c : Opd) (a b : ICode)
  | block (id : Nat) (b : ICode)
  | loop (b : ICode)
  | rng (f : Opd) (ps : List Nat) (assign body : ICode)
  | exit (id : Nat)
  | scope (b : ICode)
  | ret
  | bad

inductive IRes where
  | t (i : Nat)
  | cell (i : Nat) (n : Option Nat)

structure IFun where
  nt : Nat
  res : List IRes
  body : ICode

/-! ## The heap -/

inductive Jump where
  | ret
  | exit (id : Nat)

structure LoopRec where
  st : Nat
  pend : Option Jump
  tmps : List V
  ps : List Nat
  assign : ICode
  body : ICode
  dfr : Nat

inductive Obj where
  | cells (ty : Nat) (l : List V)
  | map (es : List (V × V))
  | loop (r : LoopRec)
  | dfr

/-- A finite map from numbers. -/
inductive Tr (α : Type) where
  | nil
  | node (l : Tr α) (v : Option α) (r : Tr α)

def Tr.get {α : Type} : Tr α → Nat → Option α
  | .nil, _ => none
  | .node l v r, n => if n = 0 then v else if n % 2 = 1 then l.get (n / 2) else r.get (n / 2 - 1)

def Tr.single {α : Type} (v : Option α) : Nat → Nat → Tr α
  | 0, _ => .nil
  | k + 1, n => if n = 0 then .node .nil v .nil else if n % 2 = 1 then .node (Tr.single v k (n / 2)) none .nil else .node .nil none (Tr.single v k (n / 2 - 1))

def Tr.set {α : Type} : Tr α → Nat → Option α → Tr α
  | .nil, n, v => Tr.single v (n + 1) n
  | .node l u r, n, v => if n = 0 then .node l v r else if n % 2 = 1 then .node (l.set (n / 2) v) u r else .node l u (r.set (n / 2 - 1) v)

structure Heap where
  next : Nat
  m : Tr Obj

def Heap.get (H : Heap) (id : Nat) : Option Obj := H.m.get id
/-- A new object (or one that is there, anew). -/
def Heap.put (H : Heap) (id : Nat) (o : Obj) : Heap := { next := if id < H.next then H.next else id + 1, m := H.m.set id (some o) }
def Heap.del (H : Heap) (id : Nat) : Heap := { H with m := H.m.set id none }
def Heap.bump (H : Heap) (n : Nat) : Heap := { H with next := H.next + n }
def Heap.empty : Heap := { next := 0, m := .nil }

/-! ## The machine's surroundings -/

inductive Callee where
  | fn (f : Nat)
  | rnd (l : Nat)

abbrev CallF := Callee → List V → Heap → Option (V × Heap)

structure Cfg where
  fns : Nat → Option IFun
  st : Nat → Nat → Option V
  gl : Nat → Nat → Option V
  prim : Nat → Option (List V → Heap → Option (V × Heap))

/-- The cells at an address. -/
def Heap.cellsAt (C : Cfg) (H : Heap) (a : PA) (i : Nat) : Option V :=
  match a.r with
  | .own => match H.get a.b with
    | some (.cells _ l) => l[a.off + i]?
    | _ => none
  | .st => C.st a.b (a.off + i)
  | .gl => C.gl a.b (a.off + i)

def Heap.loadN (C : Cfg) (H : Heap) (a : PA) : Nat → Nat → Option (List V)
  | _, 0 => some []
  | i, n + 1 => match H.cellsAt C a i, H.loadN C a (i + 1) n with
    | some v, some l => some (v :: l)
    | _, _ => none

/-- Cells written one behind the other. -/
def setAt (l : List V) (i : Nat) : List V → List V
  | [] => l
  | v :: vs => setAt (l.set i v) (i + 1) vs

def Heap.storeN (H : Heap) (a : PA) (vs : List V) : Option Heap :=
  match a.r with
  | .own => match H.get a.b with
    | some (.cells ty l) => if a.off + vs.length ≤ l.length ∧ vs.all V.one = true then some (H.put a.b (.cells ty (setAt l a.off vs))) else none
    | _ => none
  | _ => match vs with
    | [] => some H
    | _ => none

/-! ## Operations -/

def eval (t : List V) : Opd → V
  | .t i => (t[i]?).getD .undef
  | .c v => v
  | .g n => .ptr ⟨.gl, n, 0⟩
  | .f n => .fn n [] []

def evalO (t : List V) : Option Opd → Option V
  | none => none
  | some x => some (eval t x)

def beqBytes : List UInt8 → List UInt8 → Bool
  | [], [] => true
  | a :: x, b :: y => a.toNat == b.toNat && beqBytes x y
  | _, _ => false

def ibits (op : BinOp) (k : IntKind) (x y : Int) : Option V :=
  let a := BitVec.ofInt k.bits x
  let b := BitVec.ofInt k.bits y
  match op with
  | .and => some (.int k (k.wrap (a &&& b).toNat))
  | .or => some (.int k (k.wrap (a ||| b).toNat))
  | .xor => some (.int k (k.wrap (a ^^^ b).toNat))
  | .andNot => some (.int k (k.wrap (a &&& ~~~b).toNat))
  | _ => none

def ibin (op : BinOp) : V → V → Option V
  | .int k x, .int k' y =>
    match op with
    | .shl => if y < 0 then none else some (.int k (k.wrap (x * 2 ^ (min y.toNat k.bits))))
    | .shr => if y < 0 then none else some (.int k (x.fdiv (2 ^ (min y.toNat k.bits))))
    | .add => if k = k' then some (.int k (k.wrap (x + y))) else none
    | .sub => if k = k' then some (.int k (k.wrap (x - y))) else none
    | .mul => if k = k' then some (.int k (k.wrap (x * y))) else none
    | .quo => if k = k' then (if y = 0 then none else some (.int k (k.wrap (x.tdiv y)))) else none
    | .rem => if k = k' then (if y = 0 then none else some (.int k (x.tmod y))) else none
    | .eql => if k = k' then some (.bool (decide (x = y))) else none
    | .neq => if k = k' then some (.bool (!decide (x = y))) else none
    | .lss => if k = k' then some (.bool (decide (x < y))) else none
    | .leq => if k = k' then some (.bool (decide (x ≤ y))) else none
    | .gtr => if k = k' then some (.bool (decide (y < x))) else none
    | .geq => if k = k' then some (.bool (decide (y ≤ x))) else none
    | op => if k = k' then ibits op k x y else none
  | .str a, .str b =>
    match op with
    | .add => if a.length + b.length ≤ 9223372036854775807 then some (.str (a ++ b)) else none
    | .eql => some (.bool (beqBytes a b))
    | .neq => some (.bool (!beqBytes a b))
    | .lss => some (.bool (Go.Op.bytesLess a b))
    | .leq => some (.bool (Go.Op.bytesLess a b || beqBytes a b))
    | .gtr => some (.bool (!(Go.Op.bytesLess a b || beqBytes a b)))
    | .geq => some (.bool (!Go.Op.bytesLess a b))
    | _ => none
  | _, _ => none

mutual
def ieq : EqT → V → V → Option Bool
  | .bool, .bool a, .bool b => some (a == b)
  | .int, .int k a, .int k' b => if k = k' then some (decide (a = b)) else none
  | .str, .str a, .str b => some (beqBytes a b)
  | .ptr, .nilp, .nilp => some true
  | .ptr, .nilp, .ptr _ => some false
  | .ptr, .ptr _, .nilp => some false
  | .slc, .nils, .nils => some true
  | .slc, .nils, .slice .. => some false
  | .slc, .slice .., .nils => some false
  | .map, .nilm, .nilm => some true
  | .map, .nilm, .map _ => some false
  | .map, .map _, .nilm => some false
  | .fn, .nilf, .nilf => some true
  | .fn, .nilf, .fn .. => some false
  | .fn, .fn .., .nilf => some false
  | .ifc, .nili, .nili => some true
  | .ifc, .nili, .iface .. => some false
  | .ifc, .iface .., .nili => some false
  | .st fs, .agg xs, .agg ys => ieqs fs xs ys
  | _, _, _ => none
def ieqs : List (Nat × Option Nat × EqT) → List V → List V → Option Bool
  | [], _, _ => some true
  | (off, none, q) :: fs, xs, ys =>
    match xs[off]?, ys[off]? with
    | some x, some y => match ieq q x y with
      | some true => ieqs fs xs ys
      | some false => some false
      | none => none
    | _, _ => none
  | (off, some n, q) :: fs, xs, ys =>
    match ieq q (.agg ((xs.drop off).take n)) (.agg ((ys.drop off).take n)) with
    | some true => ieqs fs xs ys
    | some false => some false
    | none => none
end

def iun (op : UnOp) : V → Option V
  | .int k n => match op with
    | .neg => some (.int k (k.wrap (0 - n)))
    | .xor => ibits .xor k (if k.signed then -1 else k.max) n
    | _ => none
  | .bool b => match op with
    | .not => some (.bool (!b))
    | _ => none
  | _ => none

/-- Parts laid into zero cells. -/
def fillP (t : List V) : List V → List (Nat × Nat × Opd) → Option (List V)
  | z, [] => some z
  | z, (off, n, x) :: ps =>
    if (eval t x).cells.length = n ∧ off + n ≤ z.length then fillP t (setAt z off (eval t x).cells) ps else none

/-- The bounds of a slice expression: low, high, max. -/
def bnd (v : Option V) (dflt : Nat) (top : Nat) : Option Nat :=
  match v with
  | none => some dflt
  | some (.int _ i) => if 0 ≤ i ∧ i ≤ (top : Int) then some i.toNat else none
  | some _ => none

def slcStr (s : List UInt8) (lo hi : Option V) : Option V :=
  match bnd hi s.length s.length with
  | none => none
  | some h => match bnd lo 0 h with
    | none => none
    | some l => some (.str ((s.drop l).take (h - l)))

def PA.add (a : PA) (n : Nat) : PA := { a with off := a.off + n }

/-- s[lo:hi:mx] of an exact capacity. -/
def slcEx (e : Nat) (a : Option PA) (len cap : Nat) (lo hi mx : Option V) : Option V :=
  if mx.isSome && hi.isNone then none else
  match bnd mx cap cap with
  | none => none
  | some m => match bnd hi len m with
    | none => none
    | some h => match bnd lo 0 h with
      | none => none
      | some l => match a with
        | none => some .nils
        | some a => some (.slice (if m = l then a else a.add (l * e)) (h - l) (.ex (m - l)))

/-- The same where the capacity is not known: a bound stays within the length. -/
def slcUn (e : Nat) (a : PA) (len : Nat) (e' : Nat) (lo hi mx : Option V) : Option V :=
  match mx with
  | some _ => match bnd mx len len with
    | none => none
    | some m => match bnd hi len m with
      | none => none
      | some h => match bnd lo 0 h with
        | none => none
        | some l => if hi.isNone = true then none else some (.slice (if m = l then a else a.add (l * e)) (h - l) (.ex (m - l)))
  | none => match bnd hi len len with
    | none => none
    | some h => match bnd lo 0 h with
      | none => none
      | some l => if l = 0 then some (.slice a h (.un e')) else if l < len ∧ e = e' then some (.slice (a.add (l * e)) (h - l) (.un e')) else none

def islc (e : Nat) (x : V) (lo hi mx : Option V) : Option V :=
  match x with
  | .nils => slcEx e none 0 0 lo hi mx
  | .slice a len (.ex c) => slcEx e (some a) len c lo hi mx
  | .slice a len (.un e') => slcUn e a len e' lo hi mx
  | _ => none

/-- What is appended, as cells ('s': a string's bytes). -/
def srcCells (C : Cfg) (H : Heap) (s : Bool) (e : Nat) (y : V) : Option (List V × Nat) :=
  match s, y with
  | false, .nils => some ([], 0)
  | false, .slice a n _ => match H.loadN C a 0 (n * e) with
    | some l => if l.all V.one = true then some (l, n) else none
    | none => none
  | true, .str s => if e = 1 then some (s.map fun b => .int .u8 b.toNat, s.length) else none
  | _, _ => none

/-- append: a known capacity that suffices: in place; one that does not, or nil: a new array; an unknown one: the array's number dies, its cells go on under a new one. -/
def iapp (C : Cfg) (nid : Nat) (s : Bool) (ty e : Nat) (x y : V) (H : Heap) : Option (V × Heap) :=
  match srcCells C H s e y with
  | none => none
  | some (new, n) =>
    match x with
    | .nils => if n = 0 then some (.nils, H) else if n > 68719476736 then none else some (.slice ⟨.own, nid, 0⟩ n (.un e), H.put nid (.cells ty new))
    | .slice a len (.ex c) =>
      if len + n ≤ c then
        match H.storeN (a.add (len * e)) new with
        | some H' => some (.slice a (len + n) (.ex c), H')
        | none => none
      else if len + n > 68719476736 then none else match H.loadN C a 0 (len * e) with
        | some old => some (.slice ⟨.own, nid, 0⟩ (len + n) (.un e), H.put nid (.cells ty (old ++ new)))
        | none => none
    | .slice a len (.un e') =>
      if n = 0 then some (x, H) else
      if e ≠ e' ∨ len + n > 68719476736 then none else
      match a.r, H.get a.b, H.loadN C a 0 (len * e) with
      | .own, some (.cells ty' _), some old => if ty' ≠ ty then none else some (.slice ⟨.own, nid, 0⟩ (len + n) (.un e), (H.del a.b).put nid (.cells ty (old ++ new)))
      | _, _, _ => none
    | _ => none

def repl (n : Nat) (z : List V) : List V :=
  match n with
  | 0 => []
  | n + 1 => z ++ repl n z

/-- Bytes as a string. -/
def toBytes : List V → Option (List UInt8)
  | [] => some []
  | .int .u8 n :: l => match toBytes l with
    | some r => some (UInt8.ofNat n.toNat :: r)
    | none => none
  | _ => none

def sameKey : V → V → Option Bool
  | .int k a, .int k' b => if k = k' then some (decide (a = b)) else none
  | .str a, .str b => some (beqBytes a b)
  | .bool a, .bool b => some (a == b)
  | _, _ => none

/-- A key's kind. -/
def tagOf : V → Nat
  | .int .. => 0
  | .str _ => 1
  | .bool _ => 2
  | _ => 9

def findKey (k : V) : List (V × V) → Option (Option V)
  | [] => some none
  | (k', v) :: es => match sameKey k k' with
    | some true => some (some v)
    | some false => findKey k es
    | none => none

def setKey (k v : V) : List (V × V) → Option (List (V × V))
  | [] => some [(k, v)]
  | (k', u) :: es => match sameKey k k' with
    | some true => some ((k, v) :: es)
    | some false => match setKey k v es with
      | some r => some ((k', u) :: r)
      | none => none
    | none => none

def imaxF (k : IntKind) (x : Int) : List V → Option V
  | [] => some (.int k x)
  | .int k' y :: r => if k = k' then imaxF k (if y > x then y else x) r else none
  | _ => none

def iminF (k : IntKind) (x : Int) : List V → Option V
  | [] => some (.int k x)
  | .int k' y :: r => if k = k' then iminF k (if y < x then y else x) r else none
  | _ => none

def imax : List V → Option V
  | .int k x :: r => imaxF k x r
  | _ => none

def imin : List V → Option V
  | .int k x :: r => iminF k x r
  | _ => none

def icallv (cf : CallF) (x : V) (args : List V) (H : Heap) : Option (V × Heap) :=
  match x with
  | .fn f first caps => cf (.fn f) (first ++ args ++ caps) H
  | .yld l => cf (.rnd l) args H
  | _ => none

/-- One operation; 'nid': the number that a new object gets. -/
def iop (cf : CallF) (C : Cfg) (nid : Nat) (op : IOp) (t : List V) (H : Heap) : Option (V × Heap) :=
  match op with
  | .mv x => some (eval t x, H)
  | .pick c a b => match eval t c with
    | .bool true => some (eval t a, H)
    | .bool false => some (eval t b, H)
    | _ => none
  | .nilck x => match eval t x with
    | .ptr a => some (.ptr a, H)
    | .fn f p q => some (.fn f p q, H)
    | .yld l => some (.yld l, H)
    | _ => none
  | .box ty x => some (.ptr ⟨.own, nid, 0⟩, H.put nid (.cells ty (eval t x).cells))
  | .alc ty z => some (.ptr ⟨.own, nid, 0⟩, H.put nid (.cells ty z))
  | .build z ps => match fillP t z ps with
    | some l => some (.agg l, H)
    | none => none
  | .bslice ty n z ps => match fillP t z ps with
    | some l => some (.slice ⟨.own, nid, 0⟩ n (.ex n), H.put nid (.cells ty l))
    | none => none
  | .ld x => match eval t x with
    | .ptr a => match H.cellsAt C a 0 with
      | some v => some (v, H)
      | none => none
    | _ => none
  | .ldn n x => match eval t x with
    | .ptr a => match H.loadN C a 0 n with
      | some l => some (.agg l, H)
      | none => none
    | _ => none
  | .st n x v => match eval t x with
    | .ptr a => if (eval t v).cells.length = n then
        match H.storeN a (eval t v).cells with
        | some H' => some (.undef, H')
        | none => none
      else none
    | _ => none
  | .fa off x => match eval t x with
    | .ptr a => some (.ptr (a.add off), H)
    | _ => none
  | .ias e x i => match eval t x, eval t i with
    | .slice a len _, .int _ n => if 0 ≤ n ∧ n < (len : Int) then some (.ptr (a.add (n.toNat * e)), H) else none
    | _, _ => none
  | .iaa len e x i => match eval t x, eval t i with
    | .ptr a, .int _ n => if 0 ≤ n ∧ n < (len : Int) then some (.ptr (a.add (n.toNat * e)), H) else none
    | _, _ => none
  | .fld off x => match eval t x with
    | .agg l => match l[off]? with
      | some v => some (v, H)
      | none => none
    | _ => none
  | .fldn off n x => match eval t x with
    | .agg l => some (.agg ((l.drop off).take n), H)
    | _ => none
  | .idxs x i => match eval t x, eval t i with
    | .str s, .int _ n => if 0 ≤ n then
        match s[n.toNat]? with
        | some b => some (.int .u8 b.toNat, H)
        | none => none
      else none
    | _, _ => none
  | .idxn len n x i => match eval t x, eval t i with
    | .agg l, .int _ k => if 0 ≤ k ∧ k < (len : Int) then some (.agg ((l.drop (k.toNat * n)).take n), H) else none
    | _, _ => none
  | .idxa len x i => match eval t x, eval t i with
    | .agg l, .int _ n => if 0 ≤ n ∧ n < (len : Int) then
        match l[n.toNat]? with
        | some v => some (v, H)
        | none => none
      else none
    | _, _ => none
  | .ext i x => match eval t x with
    | .tup l => match l[i]? with
      | some v => some (v, H)
      | none => none
    | _ => none
  | .bin op x y => match ibin op (eval t x) (eval t y) with
    | some v => some (v, H)
    | none => none
  | .eq neg q x y => match ieq q (eval t x) (eval t y) with
    | some b => some (.bool (if neg then !b else b), H)
    | none => none
  | .un op x => match iun op (eval t x) with
    | some v => some (v, H)
    | none => none
  | .cint k x => match eval t x with
    | .int _ n => some (.int k (k.wrap n), H)
    | _ => none
  | .cid x => match eval t x with
    | .str s => some (.str s, H)
    | _ => none
  | .cnb x => match eval t x with
    | .slice a n c => match a.r, H.get a.b with
      | .own, some (.cells _ _) => some (.slice a n c, H)
      | _, _ => none
    | _ => none
  | .cbs x => match eval t x with
    | .nils => some (.str [], H)
    | .slice a n _ => match H.loadN C a 0 n with
      | some l => match toBytes l with
        | some s => some (.str s, H)
        | none => none
      | none => none
    | _ => none
  | .csb ty x => match eval t x with
    | .str s => some (.slice ⟨.own, nid, 0⟩ s.length (.un 1), H.put nid (.cells ty (s.map fun b => .int .u8 b.toNat)))
    | _ => none
  | .lens x => match eval t x with
    | .str s => some (i64 s.length, H)
    | _ => none
  | .len x => match eval t x with
    | .nils => some (i64 0, H)
    | .slice _ n _ => some (i64 n, H)
    | _ => none
  | .lena n => some (i64 n, H)
  | .capo x => match eval t x with
    | .nils => some (i64 0, H)
    | .slice _ _ (.ex c) => some (i64 c, H)
    | _ => none
  | .lenm x => match eval t x with
    | .nilm => some (i64 0, H)
    | .map id => match H.get id with
      | some (.map es) => some (i64 es.length, H)
      | _ => none
    | _ => none
  | .slcs x lo hi => match eval t x with
    | .str s => match slcStr s (evalO t lo) (evalO t hi) with
      | some v => some (v, H)
      | none => none
    | _ => none
  | .slc e x lo hi mx => match islc e (eval t x) (evalO t lo) (evalO t hi) (evalO t mx) with
    | some v => some (v, H)
    | none => none
  | .slca n e x lo hi mx => match eval t x with
    | .ptr a => match slcEx e (some a) n n (evalO t lo) (evalO t hi) (evalO t mx) with
      | some v => some (v, H)
      | none => none
    | _ => none
  | .call f args => cf (.fn f) (args.map (eval t)) H
  | .callv x args => icallv cf (eval t x) (args.map (eval t)) H
  | .app s ty e x y => iapp C nid s ty e (eval t x) (eval t y) H
  | .appz ty e z x n => match eval t x, eval t n with
    | .nils, .int _ k => if k = 0 then some (.nils, H) else if 0 < k ∧ k ≤ 16777216 then some (.slice ⟨.own, nid, 0⟩ k.toNat (.un e), H.put nid (.cells ty (repl k.toNat z))) else none
    | _, _ => none
  | .cpy s e x y => match srcCells C H s e (eval t y) with
    | none => none
    | some (new, n) => match eval t x with
      | .nils => some (i64 0, H)
      | .slice a len _ => match H.storeN a (new.take (min n len * e)) with
        | some H' => some (i64 (min n len : Nat), H')
        | none => none
      | _ => none
  | .clr z x => match eval t x with
    | .nils => some (.undef, H)
    | .slice a n _ => match H.storeN a (repl n z) with
      | some H' => some (.undef, H')
      | none => none
    | _ => none
  | .mkf f first caps => some (.fn f (first.map (eval t)) (caps.map (eval t)), H)
  | .mks ty z len cap => match eval t len, eval t cap with
    | .int _ l, .int _ c => if 0 ≤ l ∧ l ≤ c ∧ c ≤ 16777216 then
        some (.slice ⟨.own, nid, 0⟩ l.toNat (.ex c.toNat), H.put nid (.cells ty (repl c.toNat z)))
      else none
    | _, _ => none
  | .mkm => some (.map nid, H.put nid (.map []))
  | .lkup kt ok z x k => if tagOf (eval t k) ≠ kt then none else match (match eval t x with
      | .nilm => some []
      | .map id => match H.get id with
        | some (.map es) => some es
        | _ => none
      | _ => none) with
    | none => none
    | some es => match findKey (eval t k) es with
      | none => none
      | some r => some (if ok then .tup [r.getD z, .bool r.isSome] else r.getD z, H)
  | .mupd kt x k v => if tagOf (eval t k) ≠ kt then none else match eval t x with
    | .map id => match H.get id with
      | some (.map es) => match setKey (eval t k) (eval t v) es with
        | some es' => some (.undef, H.put id (.map es'))
        | none => none
      | _ => none
    | _ => none
  | .mif ty x => some (.iface ty (eval t x), H)
  | .tas ty ok z x => match eval t x with
    | .nili => if ok then some (.tup [z, .bool false], H) else none
    | .iface u v => if u = ty then some (if ok then .tup [v, .bool true] else v, H) else if ok then some (.tup [z, .bool false], H) else none
    | _ => none
  | .mmax xs => match imax (xs.map (eval t)) with
    | some v => some (v, H)
    | none => none
  | .mmin xs => match imin (xs.map (eval t)) with
    | some v => some (v, H)
    | none => none
  | .bad => none

def wanted (g : Option (Nat × Bool)) (t : List V) : Bool :=
  match g with
  | none => true
  | some (d, want) => match t[d]? with
    | some (.bool b) => b == want
    | _ => false

def setD (t : List V) (d : Option Nat) (v : V) : List V :=
  match d with
  | some i => t.set i v
  | none => t

/-- One operation of a region. -/
def istep (cf : CallF) (C : Cfg) (nid : Nat) (o : IOper) (t : List V) (H : Heap) : Option (List V × Heap) :=
  if wanted o.guard t then
    match iop cf C nid o.op t H with
    | some (v, H') => some (setD t o.dst v, H')
    | none => none
  else some (setD t o.dst .undef, H)

def iops (cf : CallF) (C : Cfg) : List IOper → List V → Heap → Option (List V × Heap)
  | [], t, H => some (t, H)
  | o :: os, t, H => match istep cf C H.next o t H with
    | some (t', H') => iops cf C os t' H'
    | none => none

/-! ### Equality of values, by program -/
def Reg.beq : Reg → Reg → Bool
  | .own, .own | .st, .st | .gl, .gl => true
  | _, _ => false
def PA.beq (a b : PA) : Bool := a.r.beq b.r && a.b == b.b && a.off == b.off
def Cap.beq : Cap → Cap → Bool
  | .ex a, .ex b => a == b
  | .un a, .un b => a == b
  | _, _ => false
mutual
def V.beq : V → V → Bool
  | .int k n, .int k' n' => decide (k = k') && decide (n = n')
  | .bool a, .bool b => a == b
  | .str a, .str b => beqBytes a b
  | .nilp, .nilp => true
  | .ptr a, .ptr b => a.beq b
  | .nils, .nils => true
  | .slice a n c, .slice a' n' c' => a.beq a' && n == n' && c.beq c'
  | .nilm, .nilm => true
  | .map a, .map b => a == b
  | .nilf, .nilf => true
  | .fn f p q, .fn f' p' q' => f == f' && V.beqs p p' && V.beqs q q'
  | .yld a, .yld b => a == b
  | .nili, .nili => true
  | .iface t v, .iface t' v' => t == t' && V.beq v v'
  | .agg l, .agg l' => V.beqs l l'
  | .tup l, .tup l' => V.beqs l l'
  | _, _ => false
def V.beqs : List V → List V → Bool
  | [], [] => true
  | x :: xs, y :: ys => V.beq x y && V.beqs xs ys
  | _, _ => false
end

/-! ### Regions that draw their order

Run in the text's order. What makes an object is put off till an effect that comes behind it by the edges ('mats': of each effect the objects' operations ahead of it), or the end; a load reads the heap as the last effect left it. -/

structure Rec where
  t : List V
  v : V
  w : Bool
  A : Heap
  A' : Heap
  ob : Option Obj

/-- Objects laid, each under its operation's number. -/
def puts (base : Nat) (A : Heap) : List (Nat × Obj) → Heap
  | [] => A
  | (i, o) :: r => (puts base A r).put (base + i) o

def matOf (mats : List (Nat × List Nat)) (i : Nat) : List Nat := ((mats.find? fun p => p.1 == i).map (·.2)).getD []

/-- One operation of such a region: its record, the slots, the heap, what is put off. -/
def dstep (cf : CallF) (C : Cfg) (base : Nat) (mats : List (Nat × List Nat)) (i : Nat) (o : IOper) (t : List V) (A : Heap) (pend : List (Nat × Obj)) : Option (Rec × List V × Heap × List (Nat × Obj)) :=
  if wanted o.guard t then
    match clsOf o.op with
    | 0 | 1 => match iop cf C 0 o.op t A with
      | some (v, _) => some (⟨t, v, true, A, A, none⟩, setD t o.dst v, A, pend)
      | none => none
    | 2 => match iop cf C (base + i) o.op t Heap.empty with
      | some (v, H1) => match H1.get (base + i) with
        | some ob => some (⟨t, v, true, A, A, some ob⟩, setD t o.dst v, A, (i, ob) :: pend)
        | none => none
      | none => none
    | _ => match iop cf C (base + i) o.op t (puts base A (pend.filter fun p => (matOf mats i).contains p.1)) with
      | some (v, H') => some (⟨t, v, true, A, H', none⟩, setD t o.dst v, H', pend.filter fun p => !(matOf mats i).contains p.1)
      | none => none
  else some (⟨t, .undef, false, A, A, none⟩, setD t o.dst .undef, A, pend)

def drun (cf : CallF) (C : Cfg) (base : Nat) (mats : List (Nat × List Nat)) : List IOper → Nat → List V → Heap → List (Nat × Obj) → Option (List Rec × List V × Heap)
  | [], _, t, A, pend => some ([], t, puts base A pend)
  | o :: os, i, t, A, pend => match dstep cf C base mats i o t A pend with
    | some (r, t', A', pend') => match drun cf C base mats os (i + 1) t' A' pend' with
      | some (rs, t'', H) => some (r :: rs, t'', H)
      | none => none
    | none => none

/-- Does a load give the value v in this heap, too? -/
def reads (C : Cfg) (o : IOper) (t : List V) (H : Heap) (v : V) : Bool :=
  match iop (fun _ _ _ => none) C 0 o.op t H with
  | some (u, _) => V.beq u v
  | none => false

/-- A load that floats beside an effect reads the same ahead of that and behind it. -/
def floats (C : Cfg) (os : List IOper) (rs : List Rec) (p : Nat × Nat) : Bool :=
  match os[p.1]?, rs[p.1]?, rs[p.2]? with
  | some o, some l, some e => if l.w && e.w then reads C o l.t e.A l.v && reads C o l.t e.A' l.v else true
  | _, _, _ => false

def iregD (cf : CallF) (C : Cfg) (os : List IOper) (mats : List (Nat × List Nat)) (prs : List (Nat × Nat)) (t : List V) (H : Heap) : Option (List V × Heap) :=
  match drun cf C H.next mats os 0 t (H.bump os.length) [] with
  | some (rs, t', H') => if prs.all (floats C os rs) then some (t', H') else none
  | none => none

/-! ## Code -/

inductive IExit where
  | nrm
  | ex (id : Nat)
  | rt

abbrev Out := Option (IExit × List V × Heap × List Nat)

def iter (b : List V → Heap → List Nat → Out) : Nat → List V → Heap → List Nat → Out
  | 0, _, _, _ => none
  | k + 1, t, H, d => match b t H d with
    | some (.nrm, t', H', d') => iter b k t' H' d'
    | r => r

/-- The mark for a loop's deferred calls: new at an outermost loop, the outer one's in a round. -/
def markOf (ro : Option Nat) (H : Heap) : Option (Heap × Nat × List Nat) :=
  match ro with
  | none => some (H.put H.next .dfr, H.next, [H.next])
  | some l => match H.get l with
    | some (.loop r) => some (H, r.dfr, [])
    | _ => none

def irng (cf : CallF) (ro : Option Nat) (f : V) (ps : List Nat) (assign body : ICode) (t : List V) (H : Heap) (d : List Nat) : Out :=
  match markOf ro H with
  | none => none
  | some (H1, r0, mark) =>
    let l := H1.next
    match f with
    | .fn g first caps =>
      match cf (.fn g) (first ++ [.yld l] ++ caps) (H1.put l (.loop { st := 0, pend := none, tmps := t, ps, assign, body, dfr := r0 })) with
      | some (_, H3) => match H3.get l with
        | some (.loop r) =>
          if r.st = 1 then none else
          match r.pend with
          | none => some (.nrm, t, H3.put l (.loop { r with st := 3 }), mark ++ d)
          | some .ret => some (.rt, t, H3.put l (.loop { r with st := 3 }), mark ++ d)
          | some (.exit k) => some (.ex k, t, H3.put l (.loop { r with st := 3 }), mark ++ d)
        | _ => none
      | none => none
    | _ => none

def exec (cf : CallF) (C : Cfg) (n : Nat) (ro : Option Nat) : ICode → List V → Heap → List Nat → Out
  | .skip, t, H, d => some (.nrm, t, H, d)
  | .reg os, t, H, d => match iops cf C os t H with
    | some (t', H') => some (.nrm, t', H', d)
    | none => none
  | .regD os mats prs, t, H, d => match iregD cf C os mats prs t H with
    | some (t', H') => some (.nrm, t', H', d)
    | none => none
  | .seq a b, t, H, d => match exec cf C n ro a t H d with
    | some (.nrm, t', H', d') => exec cf C n ro b t' H' d'
    | r => r
  | .cond c a b, t, H, d => match eval t c with
    | .bool true => exec cf C n ro a t H d
    | .bool false => exec cf C n ro b t H d
    | _ => none
  | .block id b, t, H, d => match exec cf C n ro b t H d with
    | some (.ex k, t', H', d') => if k = id then some (.nrm, t', H', d') else some (.ex k, t', H', d')
    | r => r
  | .loop b, t, H, d => iter (exec cf C n ro b) n t H d
  | .rng f ps a b, t, H, d => irng cf ro (eval t f) ps a b t H d
  | .exit id, t, H, d => some (.ex id, t, H, d)
  | .scope b, t, H, d => exec cf C n ro b t H d
  | .ret, t, H, d => some (.rt, t, H, d)
  | .bad, _, _, _ => none

/-- The marks are taken, each once. -/
def takeMarks : List Nat → Heap → Option Heap
  | [], H => some H
  | r :: rs, H => match H.get r with
    | some .dfr => takeMarks rs (H.del r)
    | _ => none

def resOne (C : Cfg) (t : List V) (H : Heap) : IRes → Option V
  | .t i => t[i]?
  | .cell i n => match t[i]? with
    | some (.ptr a) => match n with
      | none => H.cellsAt C a 0
      | some n => (H.loadN C a 0 n).map .agg
    | _ => none

def resAll (C : Cfg) (t : List V) (H : Heap) : List IRes → Option (List V)
  | [] => some []
  | r :: rs => match resOne C t H r, resAll C t H rs with
    | some v, some l => some (v :: l)
    | _, _ => none

def results (C : Cfg) (rs : List IRes) (t : List V) (H : Heap) : Option V :=
  match resAll C t H rs with
  | some [v] => some v
  | some l => some (.tup l)
  | none => none

def setMany : List V → List Nat → List V → List V
  | t, p :: ps, v :: vs => setMany (t.set p v) ps vs
  | t, _, _ => t

def ifun (cf : CallF) (C : Cfg) (n : Nat) (F : IFun) (args : List V) (H : Heap) : Option (V × Heap) :=
  match exec cf C n none F.body (args ++ List.replicate (F.nt - args.length) .undef) H [] with
  | some (.nrm, t, H', d) | some (.rt, t, H', d) => match takeMarks d H' with
    | some H'' => match results C F.res t H'' with
      | some v => some (v, H'')
      | none => none
    | none => none
  | _ => none

/-- The end of a round. -/
def endRnd (l : Nat) (e : IExit) (H : Heap) : Option (V × Heap) :=
  match H.get l with
  | some (.loop r) => match e with
    | .nrm => some (.bool true, H.put l (.loop { r with st := 0, pend := none }))
    | .rt => some (.bool false, H.put l (.loop { r with st := 2, pend := some .ret }))
    | .ex k => some (.bool false, H.put l (.loop { r with st := 2, pend := some (.exit k) }))
  | _ => none

def irnd (cf : CallF) (C : Cfg) (n : Nat) (l : Nat) (args : List V) (H : Heap) : Option (V × Heap) :=
  match H.get l with
  | some (.loop r) =>
    if args.length ≠ r.ps.length then none else
    match exec cf C n (some l) r.assign (setMany r.tmps r.ps args) H [] with
    | some (.nrm, t1, H1, []) => match H1.get l with
      | some (.loop r1) =>
        if r1.st ≠ 0 then none else
        match exec cf C n (some l) r.body t1 (H1.put l (.loop { r1 with st := 1 })) [] with
        | some (e, _, H3, []) => endRnd l e H3
        | _ => none
      | _ => none
    | _ => none
  | _ => none

/-- The machine: 'n' bounds the depth of calls and the rounds of each loop. -/
def icall (C : Cfg) : Nat → CallF
  | 0 => fun _ _ _ => none
  | n + 1 => fun c args H =>
    match c with
    | .fn f => match C.prim f with
      | some p => p args H
      | none => match C.fns f with
        | some F => ifun (icall C n) C n F args H
        | none => none
    | .rnd l => irnd (icall C n) C n l args H

end Im

/- Laws of the ideal heap: a finite map; equality by program. -/
namespace Im
open Go (IntKind BinOp UnOp)

variable {α : Type}

theorem Tr.get_single (v : Option α) : ∀ (k n i : Nat), n < k → (Tr.single v k n).get i = if i = n then v else none := by
  intro k
  induction k with
  | zero => intro n i h; omega
  | succ k ih =>
    intro n i h
    unfold Tr.single
    by_cases h0 : n = 0
    · subst h0
      simp only [if_true, Tr.get]
      by_cases hi : i = 0
      · simp [hi]
      · simp only [hi, if_false]; split <;> simp [Tr.get]
    · rw [if_neg h0]
      by_cases h1 : n % 2 = 1
      · rw [if_pos h1]
        simp only [Tr.get]
        by_cases hi : i = 0
        · rw [if_pos hi, if_neg (by omega)]
        · rw [if_neg hi]
          by_cases hi2 : i % 2 = 1
          · rw [if_pos hi2, ih _ _ (by omega)]
            by_cases e : i / 2 = n / 2
            · rw [if_pos e, if_pos (by omega)]
            · rw [if_neg e, if_neg (by omega)]
          · rw [if_neg hi2, if_neg (by omega)]
      · rw [if_neg h1]
        simp only [Tr.get]
        by_cases hi : i = 0
        · rw [if_pos hi, if_neg (by omega)]
        · rw [if_neg hi]
          by_cases hi2 : i % 2 = 1
          · rw [if_pos hi2, if_neg (by omega)]
          · rw [if_neg hi2, ih _ _ (by omega)]
            by_cases e : i / 2 - 1 = n / 2 - 1
            · rw [if_pos e, if_pos (by omega)]
            · rw [if_neg e, if_neg (by omega)]

theorem Tr.get_set (m : Tr α) (v : Option α) : ∀ (n i : Nat), (m.set n v).get i = if i = n then v else m.get i := by
  induction m with
  | nil => intro n i; simp only [Tr.set, Tr.get]; exact Tr.get_single v (n + 1) n i (by omega)
  | node l u r ihl ihr =>
    intro n i
    unfold Tr.set
    by_cases h0 : n = 0
    · subst h0
      rw [if_pos rfl]; simp only [Tr.get]
      by_cases hi : i = 0
      · simp [hi]
      · simp [hi]
    · rw [if_neg h0]
      by_cases h1 : n % 2 = 1
      · rw [if_pos h1]
        simp only [Tr.get]
        by_cases hi : i = 0
        · rw [if_pos hi, if_neg (by omega), if_pos hi]
        · rw [if_neg hi, if_neg hi]
          by_cases hi2 : i % 2 = 1
          · rw [if_pos hi2, if_pos hi2, ihl]
            by_cases e : i / 2 = n / 2
            · rw [if_pos e, if_pos (by omega)]
            · rw [if_neg e, if_neg (by omega)]
          · rw [if_neg hi2, if_neg hi2, if_neg (by omega)]
      · rw [if_neg h1]
        simp only [Tr.get]
        by_cases hi : i = 0
        · rw [if_pos hi, if_neg (by omega), if_pos hi]
        · rw [if_neg hi, if_neg hi]
          by_cases hi2 : i % 2 = 1
          · rw [if_pos hi2, if_pos hi2, if_neg (by omega)]
          · rw [if_neg hi2, if_neg hi2, ihr]
            by_cases e : i / 2 - 1 = n / 2 - 1
            · rw [if_pos e, if_pos (by omega)]
            · rw [if_neg e, if_neg (by omega)]

theorem Heap.get_put (H : Heap) (id : Nat) (o : Obj) (i : Nat) : (H.put id o).get i = if i = id then some o else H.get i := Tr.get_set _ _ _ _
theorem Heap.get_put_self (H : Heap) (id : Nat) (o : Obj) : (H.put id o).get id = some o := by rw [Heap.get_put, if_pos rfl]
theorem Heap.get_put_ne (H : Heap) {id i : Nat} (o : Obj) (h : i ≠ id) : (H.put id o).get i = H.get i := by rw [Heap.get_put, if_neg h]
theorem Heap.get_del (H : Heap) (id i : Nat) : (H.del id).get i = if i = id then none else H.get i := Tr.get_set _ _ _ _
theorem Heap.get_bump (H : Heap) (n i : Nat) : (H.bump n).get i = H.get i := rfl
theorem Heap.next_put (H : Heap) (id : Nat) (o : Obj) : (H.put id o).next = if id < H.next then H.next else id + 1 := rfl
theorem Heap.next_del (H : Heap) (id : Nat) : (H.del id).next = H.next := rfl
theorem Heap.next_le_put (H : Heap) (id : Nat) (o : Obj) : H.next ≤ (H.put id o).next := by rw [Heap.next_put]; split <;> omega
theorem Heap.id_lt_put (H : Heap) (id : Nat) (o : Obj) : id < (H.put id o).next := by rw [Heap.next_put]; split <;> omega

theorem beqBytes_iff : ∀ (a b : List UInt8), beqBytes a b = true ↔ a = b
  | [], [] => by simp [beqBytes]
  | [], _ :: _ => by simp [beqBytes]
  | _ :: _, [] => by simp [beqBytes]
  | a :: x, b :: y => by
    simp only [beqBytes, Bool.and_eq_true, beqBytes_iff x y, List.cons.injEq, beq_iff_eq]
    constructor
    · rintro ⟨h1, h2⟩; exact ⟨UInt8.toNat_inj.1 h1, h2⟩
    · rintro ⟨h1, h2⟩; exact ⟨by rw [h1], h2⟩

theorem beqBytes_eq (a b : List UInt8) : beqBytes a b = decide (a = b) := by
  rw [Bool.eq_iff_iff, beqBytes_iff]; simp

theorem Reg.beq_iff (a b : Reg) : a.beq b = true ↔ a = b := by cases a <;> cases b <;> simp [Reg.beq]
theorem PA.beq_iff (a b : PA) : a.beq b = true ↔ a = b := by
  cases a; cases b; simp [PA.beq, Reg.beq_iff, and_assoc]
theorem Cap.beq_iff (a b : Cap) : a.beq b = true ↔ a = b := by cases a <;> cases b <;> simp [Cap.beq]

mutual
theorem V.beq_eq : ∀ (a b : V), V.beq a b = true → a = b
  | .int .., b => by cases b <;> simp [V.beq]
  | .bool .., b => by cases b <;> simp [V.beq]
  | .str .., b => by cases b <;> simp [V.beq, beqBytes_iff]
  | .nilp, b => by cases b <;> simp [V.beq]
  | .ptr .., b => by cases b <;> simp [V.beq, PA.beq_iff]
  | .nils, b => by cases b <;> simp [V.beq]
  | .slice .., b => by cases b <;> simp [V.beq, PA.beq_iff, Cap.beq_iff, and_assoc]
  | .nilm, b => by cases b <;> simp [V.beq]
  | .map .., b => by cases b <;> simp [V.beq]
  | .nilf, b => by cases b <;> simp [V.beq]
  | .fn f p q, b => by
    cases b <;> simp only [V.beq, Bool.and_eq_true, beq_iff_eq, Bool.false_eq_true, false_implies, reduceCtorEq]
    rename_i f' p' q'
    rintro ⟨⟨h1, h2⟩, h3⟩
    rw [h1, V.beqs_eq p p' h2, V.beqs_eq q q' h3]
  | .yld .., b => by cases b <;> simp [V.beq]
  | .nili, b => by cases b <;> simp [V.beq]
  | .iface t v, b => by
    cases b <;> simp only [V.beq, Bool.and_eq_true, beq_iff_eq, Bool.false_eq_true, false_implies, reduceCtorEq]
    rintro ⟨h1, h2⟩
    rw [h1, V.beq_eq v _ h2]
  | .agg l, b => by
    cases b <;> simp only [V.beq, Bool.false_eq_true, false_implies, reduceCtorEq]
    intro h; rw [V.beqs_eq l _ h]
  | .tup l, b => by
    cases b <;> simp only [V.beq, Bool.false_eq_true, false_implies, reduceCtorEq]
    intro h; rw [V.beqs_eq l _ h]
theorem V.beqs_eq : ∀ (a b : List V), V.beqs a b = true → a = b
  | [], b => by cases b <;> simp [V.beqs]
  | x :: xs, b => by
    cases b with
    | nil => simp [V.beqs]
    | cons y ys =>
      simp only [V.beqs, Bool.and_eq_true]
      rintro ⟨h1, h2⟩
      rw [V.beq_eq x y h1, V.beqs_eq xs ys h2]
end

mutual
theorem V.beq_refl : ∀ (a : V), V.beq a a = true
  | .int .. => by simp [V.beq]
  | .bool .. => by simp [V.beq]
  | .str .. => by simp [V.beq, beqBytes_iff]
  | .nilp => by simp [V.beq]
  | .ptr .. => by simp [V.beq, PA.beq_iff]
  | .nils => by simp [V.beq]
  | .slice .. => by simp [V.beq, PA.beq_iff, Cap.beq_iff]
  | .nilm => by simp [V.beq]
  | .map .. => by simp [V.beq]
  | .nilf => by simp [V.beq]
  | .fn f p q => by simp [V.beq, V.beqs_refl p, V.beqs_refl q]
  | .yld .. => by simp [V.beq]
  | .nili => by simp [V.beq]
  | .iface t v => by simp [V.beq, V.beq_refl v]
  | .agg l => by simp [V.beq, V.beqs_refl l]
  | .tup l => by simp [V.beq, V.beqs_refl l]
theorem V.beqs_refl : ∀ (a : List V), V.beqs a a = true
  | [] => by simp [V.beqs]
  | x :: xs => by simp [V.beqs, V.beq_refl x, V.beqs_refl xs]
end

theorem setAt_length : ∀ (vs l : List V) (i : Nat), (setAt l i vs).length = l.length
  | [], l, i => rfl
  | v :: vs, l, i => by simp [setAt, setAt_length vs]

theorem setAt_get : ∀ (vs l : List V) (i k : Nat), i + vs.length ≤ l.length →
    (setAt l i vs)[k]? = if i ≤ k ∧ k < i + vs.length then vs[k - i]? else l[k]?
  | [], l, i, k, h => by simp [setAt]; omega
  | v :: vs, l, i, k, h => by
    simp only [setAt]
    rw [setAt_get vs _ _ _ (by simpa [Nat.add_assoc, Nat.add_comm 1] using h)]
    simp only [List.length_cons] at h ⊢
    by_cases h1 : i + 1 ≤ k ∧ k < i + 1 + vs.length
    · rw [if_pos h1, if_pos (by omega)]
      obtain ⟨j, rfl⟩ : ∃ j, k = i + 1 + j := ⟨k - (i + 1), by omega⟩
      have e1 : i + 1 + j - (i + 1) = j := by omega
      have e2 : i + 1 + j - i = j + 1 := by omega
      rw [e1, e2]; simp
    · rw [if_neg h1]
      by_cases h2 : k = i
      · subst h2
        rw [if_pos (by omega)]
        simp only [Nat.sub_self, List.getElem?_cons_zero]
        rw [List.getElem?_set_self (by omega)]
      · rw [if_neg (by omega), List.getElem?_set_ne (by omega)]

end Im

/- How ideal values and the ideal heap stand to the model's: 'VRel', 'Rel'; that a longer renaming keeps both. -/
namespace Im
open Go (IntKind BinOp UnOp Program World Value Addr TypeId FuncId Code Oper Operand)
open Go.RowKit (Below)

/-- A renaming: an object's number to its block, the cell at which it begins, and how many cells it may have. -/
abbrev Ren := Nat → Option (Nat × Nat × Nat)

/-- What belongs to one program: its functions', types' and variables' numbers to those of the ideal code; the world in which the run began. -/
structure Env where
  P : Program
  fm : FuncId → Option Nat
  tm : TypeId → Nat
  gm : Nat → Option Nat
  w0 : World

def ARel (E : Env) (ρ : Ren) (a : PA) (c : Addr) : Prop :=
  match a.r with
  | .own => ∃ b o tot, ρ a.b = some (b, o, tot) ∧ c = ⟨b, o + a.off, none⟩
  | .st => (a.b % 2 = 0 ∧ c = ⟨a.b / 2, a.off, none⟩) ∨ a.b % 2 = 1
  | .gl => ∃ g, E.gm g = some a.b ∧ g < E.w0.heap.size ∧ c = ⟨g, a.off, none⟩

def CRel (ρ : Ren) (a : PA) (len : Nat) (cap : Cap) (n : Nat) : Prop :=
  match cap with
  | .ex m => n = m
  | .un e => a.r = .own ∧ ∃ b o tot, ρ a.b = some (b, o, tot) ∧ a.off + n * e = tot ∧ len ≤ n

mutual
inductive VRel (E : Env) (ρ : Ren) : V → Value → Prop where
  | int (k : IntKind) (n : Int) : VRel E ρ (.int k n) (.int k n)
  | bool (b : Bool) : VRel E ρ (.bool b) (.bool b)
  | str (s : List UInt8) : VRel E ρ (.str s) (.string ⟨s.toArray⟩)
  | nilp : VRel E ρ .nilp (.pointer none)
  | ptr (a : PA) (c : Addr) (h : ARel E ρ a c) : VRel E ρ (.ptr a) (.pointer (some c))
  | nils : VRel E ρ .nils (.slice none 0 0)
  | slice (a : PA) (c : Addr) (len : Nat) (cap : Cap) (n : Nat) (h : ARel E ρ a c) (hc : CRel ρ a len cap n) : VRel E ρ (.slice a len cap) (.slice (some c) len n)
  | nilm : VRel E ρ .nilm (.map none)
  | map (id b o tot : Nat) (h : ρ id = some (b, o, tot)) : VRel E ρ (.map id) (.map (some b))
  | nilf : VRel E ρ .nilf .nilFunc
  | fn (f : Nat) (f' : FuncId) (p q : List V) (p' q' : List Value) (h : E.fm f' = some f) (hp : VRels E ρ p p') (hq : VRels E ρ q q') :
      VRel E ρ (.fn f p q) (.func (.func f') p'.toArray q'.toArray)
  | yld (l b o tot : Nat) (h : ρ l = some (b, o, tot)) : VRel E ρ (.yld l) (.func (.yield b) #[] #[])
  | nili : VRel E ρ .nili .nilIface
  | iface (t : TypeId) (v : V) (c : Value) (h : VRel E ρ v c) : VRel E ρ (.iface (E.tm t) v) (.iface t c)
  | agg (l : List V) (l' : List Value) (h : VRels E ρ l l') : VRel E ρ (.agg l) (.agg l'.toArray)
  | tup (l : List V) (l' : List Value) (h : VRels E ρ l l') : VRel E ρ (.tup l) (.tuple l'.toArray)
inductive VRels (E : Env) (ρ : Ren) : List V → List Value → Prop where
  | nil : VRels E ρ [] []
  | cons (v : V) (c : Value) (l : List V) (l' : List Value) (h : VRel E ρ v c) (hl : VRels E ρ l l') : VRels E ρ (v :: l) (c :: l')
end

/-- A renaming that says all that ρ says. -/
def Ext (ρ ρ' : Ren) : Prop := ∀ id x, ρ id = some x → ρ' id = some x

theorem Ext.refl (ρ : Ren) : Ext ρ ρ := fun _ _ h => h
theorem Ext.trans {a b c : Ren} (h : Ext a b) (k : Ext b c) : Ext a c := fun id x hx => k id x (h id x hx)

theorem ARel.ext {E : Env} {ρ ρ' : Ren} (h : Ext ρ ρ') {a : PA} {c : Addr} (k : ARel E ρ a c) : ARel E ρ' a c := by
  unfold ARel at *
  cases hr : a.r <;> rw [hr] at k <;> simp only at k ⊢
  · obtain ⟨b, o, tot, h1, h2⟩ := k; exact ⟨b, o, tot, h _ _ h1, h2⟩
  · exact k
  · exact k

theorem CRel.ext {ρ ρ' : Ren} (h : Ext ρ ρ') {a : PA} {len : Nat} {cap : Cap} {n : Nat} (k : CRel ρ a len cap n) : CRel ρ' a len cap n := by
  unfold CRel at *
  cases cap
  · exact k
  · obtain ⟨h0, b, o, tot, h1, h2⟩ := k; exact ⟨h0, b, o, tot, h _ _ h1, h2⟩

mutual
theorem VRel.ext {E : Env} {ρ ρ' : Ren} (h : Ext ρ ρ') : ∀ {v : V} {c : Value}, VRel E ρ v c → VRel E ρ' v c
  | _, _, .int k n => .int k n
  | _, _, .bool b => .bool b
  | _, _, .str s => .str s
  | _, _, .nilp => .nilp
  | _, _, .ptr a c k => .ptr a c (k.ext h)
  | _, _, .nils => .nils
  | _, _, .slice a c len cap n k kc => .slice a c len cap n (k.ext h) (kc.ext h)
  | _, _, .nilm => .nilm
  | _, _, .map id b o tot k => .map id b o tot (h _ _ k)
  | _, _, .nilf => .nilf
  | _, _, .fn f f' p q p' q' k hp hq => .fn f f' p q p' q' k (VRels.ext h hp) (VRels.ext h hq)
  | _, _, .yld l b o tot k => .yld l b o tot (h _ _ k)
  | _, _, .nili => .nili
  | _, _, .iface t v c k => .iface t v c (VRel.ext h k)
  | _, _, .agg l l' k => .agg l l' (VRels.ext h k)
  | _, _, .tup l l' k => .tup l l' (VRels.ext h k)
theorem VRels.ext {E : Env} {ρ ρ' : Ren} (h : Ext ρ ρ') : ∀ {l : List V} {l' : List Value}, VRels E ρ l l' → VRels E ρ' l l'
  | _, _, .nil => .nil
  | _, _, .cons v c l l' k kl => .cons v c l l' (VRel.ext h k) (VRels.ext h kl)
end

section
variable {E : Env} {ρ : Ren}

theorem VRels.length : ∀ {l : List V} {l' : List Value}, VRels E ρ l l' → l.length = l'.length
  | _, _, .nil => rfl
  | _, _, .cons _ _ _ _ _ kl => by simp [VRels.length kl]

theorem VRels.get : ∀ {l : List V} {l' : List Value}, VRels E ρ l l' → ∀ (i : Nat) (v : V), l[i]? = some v → ∃ c, l'[i]? = some c ∧ VRel E ρ v c
  | _, _, .nil, i, v, h => by simp at h
  | _, _, .cons v c l l' k kl, 0, u, h => by simp at h; exact ⟨c, by simp, h ▸ k⟩
  | _, _, .cons v c l l' k kl, i + 1, u, h => by simp at h; obtain ⟨x, h1, h2⟩ := VRels.get kl i u h; exact ⟨x, by simpa using h1, h2⟩

theorem VRels.get' : ∀ {l : List V} {l' : List Value}, VRels E ρ l l' → ∀ (i : Nat) (c : Value), l'[i]? = some c → ∃ v, l[i]? = some v ∧ VRel E ρ v c
  | _, _, .nil, i, v, h => by simp at h
  | _, _, .cons v c l l' k kl, 0, u, h => by simp at h; exact ⟨v, by simp, h ▸ k⟩
  | _, _, .cons v c l l' k kl, i + 1, u, h => by simp at h; obtain ⟨x, h1, h2⟩ := VRels.get' kl i u h; exact ⟨x, by simpa using h1, h2⟩

theorem VRels.append : ∀ {l : List V} {l' : List Value} {m : List V} {m' : List Value}, VRels E ρ l l' → VRels E ρ m m' → VRels E ρ (l ++ m) (l' ++ m')
  | _, _, _, _, .nil, h => h
  | _, _, _, _, .cons v c l l' k kl, h => .cons v c _ _ k (VRels.append kl h)

theorem VRels.set : ∀ {l : List V} {l' : List Value}, VRels E ρ l l' → ∀ (i : Nat) {v : V} {c : Value}, VRel E ρ v c → VRels E ρ (l.set i v) (l'.set i c)
  | _, _, .nil, i, _, _, _ => .nil
  | _, _, .cons v c l l' k kl, 0, _, _, h => .cons _ _ _ _ h kl
  | _, _, .cons v c l l' k kl, i + 1, _, _, h => .cons v c _ _ k (VRels.set kl i h)

theorem VRels.drop : ∀ {l : List V} {l' : List Value}, VRels E ρ l l' → ∀ (i : Nat), VRels E ρ (l.drop i) (l'.drop i)
  | _, _, .nil, i => by simp; exact .nil
  | _, _, .cons v c l l' k kl, 0 => .cons v c l l' k kl
  | _, _, .cons v c l l' k kl, i + 1 => VRels.drop kl i

theorem VRels.take : ∀ {l : List V} {l' : List Value}, VRels E ρ l l' → ∀ (i : Nat), VRels E ρ (l.take i) (l'.take i)
  | _, _, .nil, i => by simp; exact .nil
  | _, _, .cons v c l l' k kl, 0 => .nil
  | _, _, .cons v c l l' k kl, i + 1 => .cons v c _ _ k (VRels.take kl i)

theorem VRels.replicate {v : V} {c : Value} (h : VRel E ρ v c) : ∀ (n : Nat), VRels E ρ (List.replicate n v) (List.replicate n c)
  | 0 => .nil
  | n + 1 => .cons v c _ _ h (VRels.replicate h n)

theorem VRels.of_get : ∀ {l : List V} {l' : List Value}, l.length = l'.length → (∀ (i : Nat) (v : V), l[i]? = some v → ∃ c, l'[i]? = some c ∧ VRel E ρ v c) → VRels E ρ l l'
  | [], [], _, _ => .nil
  | [], _ :: _, h, _ => by simp at h
  | _ :: _, [], h, _ => by simp at h
  | v :: l, c :: l', h, hg => by
    obtain ⟨c', h1, h2⟩ := hg 0 v (by simp)
    simp at h1
    refine .cons v c l l' (h1 ▸ h2) (VRels.of_get (by simpa using h) fun i u hu => ?_)
    obtain ⟨x, h3, h4⟩ := hg (i + 1) u (by simpa using hu)
    exact ⟨x, by simpa using h3, h4⟩

theorem VRel.undef : VRel E ρ .undef Go.undef := .tup [] [] .nil

/-- The cells of what is related. -/
theorem VRel.cells {v : V} {c : Value} (h : VRel E ρ v c) : VRels E ρ v.cells c.cells.toList := by
  cases h <;> simp only [V.cells, Value.cells] <;> first | assumption | exact .cons _ _ _ _ (by first | exact .int _ _ | exact .bool _ | exact .str _ | exact .nilp | exact .ptr _ _ (by assumption) | exact .nils | exact .slice _ _ _ _ _ (by assumption) (by assumption) | exact .nilm | exact .map _ _ _ _ (by assumption) | exact .nilf | exact .fn _ _ _ _ _ _ (by assumption) (by assumption) (by assumption) | exact .yld _ _ _ _ (by assumption) | exact .nili | exact .iface _ _ _ (by assumption) | exact .tup _ _ (by assumption)) .nil

theorem VRel.one {v : V} {c : Value} (h : VRel E ρ v c) (h1 : v.one = true) : (∀ cs, c ≠ .agg cs) ∧ (∀ cs, c ≠ .tuple cs) := by
  cases h <;> simp [V.one] at h1 ⊢
end

/-! ## Code -/

/-- A scalar constant. -/
def trV1 : Value → Option V
  | .int k n => some (.int k n)
  | .bool b => some (.bool b)
  | .string s => some (.str s.data.toList)
  | .pointer none => some .nilp
  | .slice none 0 0 => some .nils
  | .map none => some .nilm
  | .nilFunc => some .nilf
  | .nilIface => some .nili
  | _ => none

def trVs : List Value → Option (List V)
  | [] => some []
  | c :: cs => match trV1 c, trVs cs with
    | some v, some l => some (v :: l)
    | _, _ => none

def trV : Value → Option V
  | .agg cs => (trVs cs.toList).map .agg
  | .tuple cs => (trVs cs.toList).map .tup
  | c => trV1 c

theorem trV1_rel {E : Env} {ρ : Ren} : ∀ {c : Value} {v : V}, trV1 c = some v → VRel E ρ v c := by
  intro c v h
  unfold trV1 at h
  split at h <;> simp at h <;> subst h
  · exact .int _ _
  · exact .bool _
  · rename_i s; have : s = ⟨s.data.toList.toArray⟩ := by simp
    rw [this]; exact .str _
  · exact .nilp
  · exact .nils
  · exact .nilm
  · exact .nilf
  · exact .nili

theorem trVs_rel {E : Env} {ρ : Ren} : ∀ {cs : List Value} {l : List V}, trVs cs = some l → VRels E ρ l cs := by
  intro cs
  induction cs with
  | nil => intro l h; simp [trVs] at h; subst h; exact .nil
  | cons c cs ih =>
    intro l h
    unfold trVs at h
    split at h <;> simp at h
    subst h
    exact .cons _ _ _ _ (trV1_rel (by assumption)) (ih (by assumption))

theorem trV_rel {E : Env} {ρ : Ren} {c : Value} {v : V} (h : trV c = some v) : VRel E ρ v c := by
  unfold trV at h
  split at h
  · rename_i cs
    cases hc : trVs cs.toList with
    | none => simp [hc] at h
    | some l =>
      simp [hc] at h; subst h
      have : cs = cs.toList.toArray := by simp
      rw [this]; exact .agg _ _ (trVs_rel hc)
  · rename_i cs
    cases hc : trVs cs.toList with
    | none => simp [hc] at h
    | some l =>
      simp [hc] at h; subst h
      have : cs = cs.toList.toArray := by simp
      rw [this]; exact .tup _ _ (trVs_rel hc)
  · exact trV1_rel h

end Im

/- The translation of a program's loaded code into the ideal code ('trCode'), and the relation of an ideal heap to a world ('Rel'). -/
namespace Im
open Go (IntKind BinOp UnOp Program World Value Addr TypeId FuncId Code Oper Operand Op TypeDesc)
open Go.RowKit (Below)

/-! ## Operands, types -/

def trOpd (E : Env) : Operand → Option Opd
  | .tmp i => some (.t i)
  | .const c => (trV c).map .c
  | .global g => (E.gm g).map .g
  | .func f => (E.fm f).map .f

def trOpds (E : Env) : List Operand → Option (List Opd)
  | [] => some []
  | x :: xs => match trOpd E x, trOpds E xs with
    | some y, some ys => some (y :: ys)
    | _, _ => none

def trOpdO (E : Env) : Option Operand → Option (Option Opd)
  | none => some none
  | some x => (trOpd E x).map some

def isAgg (P : Program) (t : TypeId) : Bool :=
  match P.underlying t with
  | some (.struct _) | some (.array _ _) => true
  | _ => false

/-- A type's number of cells. -/
def szOf (P : Program) (t : TypeId) : Option Nat := (P.info? t).map (·.size)

/-- The cells of a type's zero. -/
def zeroV (P : Program) (t : TypeId) : Option V :=
  match P.info? t with
  | some i => match i.zero with
    | some z => trV z
    | none => none
  | none => none

def trFields (q : TypeId → Option EqT) (P : Program) : List Go.Field → Option (List (Nat × Option Nat × EqT))
  | [] => some []
  | f :: fs =>
    if f.name = "_" then trFields q P fs else
    match q f.type, szOf P f.type, trFields q P fs with
    | some e, some n, some l => some ((f.offset, if isAgg P f.type then some n else none, e) :: l)
    | _, _, _ => none

def trEq (P : Program) : Nat → TypeId → Option EqT
  | 0, _ => none
  | k + 1, t => match P.underlying t with
    | some .bool => some .bool
    | some (.int _) => some .int
    | some .string => some .str
    | some (.pointer _) => some .ptr
    | some (.slice _) => some .slc
    | some (.map _ _) => some .map
    | some (.func _ _ _) => some .fn
    | some (.interface _) => some .ifc
    | some (.struct fs) => if P.stoodInHeld t then none else (trFields (trEq P k) P fs.toList).map .st
    | _ => none

def trParts (E : Env) (place : Nat → Option (Nat × Nat)) : List (Nat × Operand) → Option (List (Nat × Nat × Opd))
  | [] => some []
  | (i, x) :: ps => match place i, trOpd E x, trParts E place ps with
    | some (off, n), some y, some l => some ((off, n, y) :: l)
    | _, _, _ => none

def trPlaces (P : Program) : List Go.Field → Option (List (Nat × Nat))
  | [] => some []
  | f :: fs => match szOf P f.type, trPlaces P fs with
    | some n, some l => some ((f.offset, n) :: l)
    | _, _ => none

def isNil : Operand → Bool
  | .const .nilIface => true
  | _ => false

def isEq : BinOp → Bool
  | .eql | .neq => true
  | _ => false

def trBin (E : Env) (op : BinOp) (t : TypeId) (x y : Operand) : Option IOp :=
  match trOpd E x, trOpd E y with
  | some a, some b =>
    if isEq op then
      match E.P.underlying t with
      | some (.int _) | some .string => some (.bin op a b)
      | some (.interface _) => if isNil x || isNil y then some (.eq (op == .neq) .ifc a b) else none
      | some (.struct _) => if E.P.eqGuardType E.P.depth t then none else (trEq E.P 20 t).map fun q => .eq (op == .neq) q a b
      | _ => (trEq E.P 20 t).map fun q => .eq (op == .neq) q a b
    else match E.P.underlying t with
      | some (.int _) | some .string => some (.bin op a b)
      | _ => none
  | _, _ => none

def trConv (E : Env) (src dst : TypeId) (x : Operand) : Option IOp :=
  match trOpd E x with
  | none => none
  | some a => match E.P.underlying src, E.P.underlying dst with
    | some (.int _), some (.int k) => some (.cint k a)
    | some .string, some .string => some (.cid a)
    | some (.slice e), some .string => match E.P.underlying e with
      | some (.int .u8) => some (.cbs a)
      | _ => none
    | some .string, some (.slice e) => match E.P.underlying e, szOf E.P e with
      | some (.int .u8), some 1 => some (.csb (E.tm e) a)
      | _, _ => none
    | some (.slice _), some (.slice e) => match E.P.underlying e with
      | some (.int .u8) => if src = dst then some (.cnb a) else none
      | _ => none
    | _, _ => none

def keyTag (P : Program) (t : TypeId) : Option Nat :=
  match P.underlying t with
  | some (.int _) => some 0
  | some .string => some 1
  | some .bool => some 2
  | _ => none

def trBuiltin (E : Env) (b : Go.Builtin) (ts : List TypeId) (args : List Operand) : Option IOp :=
  match b, ts, args with
  | .append, [t, u], [x, y] => match E.P.underlying t, E.P.underlying u, trOpd E x, trOpd E y with
    | some (.slice e), some (.slice _), some a, some b => match E.P.info? e with
      | some i => if 0 < i.size ∧ i.bytes ≤ 1024 ∧ (zeroV E.P e).map (·.cells.length) = some i.size then some (.app false (E.tm e) i.size a b) else none
      | none => none
    | some (.slice e), some .string, some a, some b => match E.P.info? e with
      | some i => if i.size = 1 ∧ i.bytes ≤ 1024 ∧ (zeroV E.P e).map (·.cells.length) = some 1 then some (.app true (E.tm e) 1 a b) else none
      | none => none
    | some (.slice e), some (.int _), some a, some b => match E.P.info? e, zeroV E.P e with
      | some i, some z => if 0 < i.size ∧ i.bytes ≤ 1024 ∧ z.cells.length = i.size then some (.appz (E.tm e) i.size z.cells a b) else none
      | _, _ => none
    | _, _, _, _ => none
  | .len, [t], [x] => match E.P.underlying t, trOpd E x with
    | some .string, some a => some (.lens a)
    | some (.slice _), some a => some (.len a)
    | some (.array n _), some _ => some (.lena n)
    | some (.map _ _), some a => some (.lenm a)
    | some (.pointer p), some _ => match E.P.underlying p with
      | some (.array n _) => some (.lena n)
      | _ => none
    | _, _ => none
  | .copy, [t, u], [x, y] => match E.P.underlying t, E.P.underlying u, trOpd E x, trOpd E y with
    | some (.slice e), some (.slice _), some a, some b => (szOf E.P e).map fun n => .cpy false n a b
    | some (.slice e), some .string, some a, some b => (szOf E.P e).map fun n => .cpy true n a b
    | _, _, _, _ => none
  | .clear, [t], [x] => match E.P.underlying t, trOpd E x with
    | some (.slice e), some a => match zeroV E.P e with
      | some z => if 0 < z.cells.length then some (.clr z.cells a) else none
      | none => none
    | _, _ => none
  | .cap, [t], [x] => match E.P.underlying t, trOpd E x with
    | some (.slice _), some a => some (.capo a)
    | _, _ => none
  | .max, _, xs => (trOpds E xs).map .mmax
  | .min, _, xs => (trOpds E xs).map .mmin
  | _, _, _ => none

def trCall (E : Env) (c : Go.Call) : Option IOp :=
  match c.callee with
  | .builtin b => trBuiltin E b c.argTypes.toList c.args.toList
  | .value (.func f) => match E.fm f, trOpds E c.args.toList with
    | some g, some l => some (.call g l)
    | _, _ => none
  | .value x => match trOpd E x, trOpds E c.args.toList with
    | some a, some l => some (.callv a l)
    | _, _ => none
  | .invoke _ _ => none

def trSlice (E : Env) (t : TypeId) (x : Operand) (lo hi mx : Option Operand) : Option IOp :=
  match trOpd E x, trOpdO E lo, trOpdO E hi, trOpdO E mx with
  | some a, some l, some h, some m => match E.P.underlying t with
    | some .string => if m.isSome then none else some (.slcs a l h)
    | some (.slice e) => (szOf E.P e).map fun n => .slc n a l h m
    | some (.array k e) => (szOf E.P e).map fun n => .slca k n a l h m
    | _ => none
  | _, _, _, _ => none

/-- One operation. -/
def trOp? (E : Env) : Op → Option IOp
  | .move x | .assign x => (trOpd E x).map .mv
  | .pick c a b => match trOpd E c, trOpd E a, trOpd E b with
    | some c, some a, some b => some (.pick c a b)
    | _, _, _ => none
  | .nilCheck x => (trOpd E x).map .nilck
  | .box t x => (trOpd E x).map (.box (E.tm t))
  | .alloc t => (zeroV E.P t).map fun z => .alc (E.tm t) z.cells
  | .build t ps => match zeroV E.P t, E.P.underlying t with
    | some z, some (.struct fs) => match trPlaces E.P fs.toList with
      | some pl => (trParts E (fun i => pl[i]?) ps.toList).map (.build z.cells)
      | none => none
    | some z, some (.array _ e) => match szOf E.P e with
      | some n => (trParts E (fun i => some (i * n, n)) ps.toList).map (.build z.cells)
      | none => none
    | _, _ => none
  | .buildSlice t len ps => match E.P.underlying t with
    | some (.slice e) => match szOf E.P e, zeroV E.P e with
      | some n, some z => if len * n ≤ 16777216 ∧ z.cells.length = n ∧ 0 < n then (trParts E (fun i => some (i * n, n)) ps.toList).map (.bslice (E.tm e) len (repl len z.cells)) else none
      | _, _ => none
    | _ => none
  | .load t a => match trOpd E a, szOf E.P t, E.P.underlying t with
    | some x, some n, some _ => some (if isAgg E.P t then .ldn n x else .ld x)
    | _, _, _ => none
  | .store t a v => match trOpd E a, trOpd E v, szOf E.P t with
    | some x, some y, some n => some (.st n x y)
    | _, _, _ => none
  | .fieldAddr s x f => match E.P.underlying s, trOpd E x with
    | some (.struct fs), some y => match fs[f]? with
      | some fd => match szOf E.P fd.type with
        | some n => if n = 0 then none else some (.fa fd.offset y)
        | none => none
      | none => none
    | _, _ => none
  | .indexAddr t x i => match E.P.underlying t, trOpd E x, trOpd E i with
    | some (.slice e), some y, some j => (szOf E.P e).map fun n => .ias n y j
    | some (.array len e), some y, some j => (szOf E.P e).map fun n => .iaa len n y j
    | _, _, _ => none
  | .field t x f => match E.P.underlying t, trOpd E x with
    | some (.struct fs), some y => match fs[f]? with
      | some fd => match szOf E.P fd.type, E.P.underlying fd.type with
        | some n, some _ => some (if isAgg E.P fd.type then .fldn fd.offset n y else .fld fd.offset y)
        | _, _ => none
      | none => none
    | _, _ => none
  | .index t x i => match E.P.underlying t, trOpd E x, trOpd E i with
    | some .string, some y, some j => some (.idxs y j)
    | some (.array len e), some y, some j => match szOf E.P e, E.P.underlying e with
      | some n, some _ => if isAgg E.P e then some (.idxn len n y j) else if n = 1 then some (.idxa len y j) else none
      | _, _ => none
    | _, _, _ => none
  | .extract x i => (trOpd E x).map (.ext i)
  | .binOp op t x y _ => trBin E op t x y
  | .unOp op _ x => (trOpd E x).map (.un op)
  | .convert s d x => trConv E s d x
  | .makeFunc (.func f) p q => match E.fm f, trOpds E p.toList, trOpds E q.toList with
    | some g, some l, some m => some (.mkf g l m)
    | _, _, _ => none
  | .makeMap t none => match E.P.underlying t with
    | some (.map _ _) => some .mkm
    | _ => none
  | .makeSlice t l c => match E.P.underlying t, trOpd E l, trOpd E c with
    | some (.slice e), some a, some b => match szOf E.P e, zeroV E.P e, (E.P.info? e).map (·.bytes) with
      | some n, some z, some k => if z.cells.length = n ∧ 0 < n ∧ k ≤ 1024 then some (.mks (E.tm e) z.cells a b) else none
      | _, _, _ => none
    | _, _, _ => none
  | .slice t x lo hi mx => trSlice E t x lo hi mx
  | .lookup t x k ok => match E.P.underlying t, trOpd E x, trOpd E k with
    | some (.map kt e), some a, some b => match keyTag E.P kt, zeroV E.P e with
      | some tag, some z => some (.lkup tag ok z a b)
      | _, _ => none
    | _, _, _ => none
  | .mapUpdate t x k v => match E.P.underlying t, trOpd E x, trOpd E k, trOpd E v with
    | some (.map kt _), some a, some b, some c => (keyTag E.P kt).map fun tag => .mupd tag a b c
    | _, _, _, _ => none
  | .makeInterface t x => match E.P.underlying t, trOpd E x with
    | some (.interface _), _ => none
    | some _, some a => some (.mif (E.tm t) a)
    | _, _ => none
  | .call c => trCall E c
  | _ => none

def trOp (E : Env) (op : Op) : IOp := (trOp? E op).getD .bad

def trOper (E : Env) (ops : Array Oper) (o : Oper) : IOper :=
  match o.guard with
  | none => { dst := o.dst, guard := none, op := trOp E o.op }
  | some (j, want) => match (ops[j]?).bind (·.dst) with
    | some d => { dst := o.dst, guard := some (d, want), op := trOp E o.op }
    | none => { dst := o.dst, guard := none, op := .bad }

/-! ## Regions that draw -/

def opdSlot : Opd → List Nat
  | .t i => [i]
  | _ => []

def opdsSlots (l : List Opd) : List Nat := l.flatMap opdSlot

def opdsOf : IOp → List Opd
  | .mv x | .nilck x | .box _ x | .ld x | .ldn _ x | .fa _ x | .fld _ x | .fldn _ _ x | .ext _ x | .un _ x | .cint _ x | .cid x | .cbs x | .cnb x | .csb _ x | .len x | .lens x | .capo x | .lenm x | .mif _ x | .tas _ _ _ x | .clr _ x => [x]
  | .pick a b c | .mupd _ a b c => [a, b, c]
  | .alc .. | .lena _ | .mkm | .bad => []
  | .build _ ps | .bslice _ _ _ ps => ps.map (·.2.2)
  | .st _ x y | .ias _ x y | .iaa _ _ x y | .idxs x y | .idxa _ x y | .idxn _ _ x y | .bin _ x y | .eq _ _ x y | .app _ _ _ x y | .appz _ _ _ x y | .cpy _ _ x y | .mks _ _ x y | .lkup _ _ _ x y => [x, y]
  | .slcs x lo hi => [x] ++ lo.toList ++ hi.toList
  | .slc _ x lo hi mx | .slca _ _ x lo hi mx => [x] ++ lo.toList ++ hi.toList ++ mx.toList
  | .call _ l | .mmax l | .mmin l => l
  | .callv x l => x :: l
  | .mkf _ l m => l ++ m

/-- The slots that an operation looks at. -/
def IOper.looks (o : IOper) : List Nat :=
  opdsSlots (opdsOf o.op) ++ (match o.guard with | some (d, _) => [d] | none => [])

def IOper.apart (x y : IOper) : Bool :=
  (match x.dst with | some d => !(y.looks.contains d) && y.dst != some d | none => true) &&
  (match y.dst with | some d => !(x.looks.contains d) | none => true)

def ancs : List Oper → List Nat → List Nat
  | [], acc => acc
  | o :: os, acc => ancs os (acc ++ [o.after.toList.foldl (fun s e => if Go.Region.binds .any e then s ||| 2 ^ e.on ||| acc.getD e.on 0 else s) 0])

def edgesOk : List Oper → Nat → Bool
  | [], _ => true
  | o :: os, i => (o.after.toList.all fun e => !Go.Region.binds .any e || decide (e.on < i)) && edgesOk os (i + 1)

/-- Two operations that no edge orders: their slots are apart; not two effects. -/
def pairOk (x y : IOper) : Bool := x.apart y && !(clsOf x.op == 3 && clsOf y.op == 3)

/-- Of the pairs that no edge orders those of a load and an effect. -/
def prsOf (anc : List Nat) (os : List IOper) : List (Nat × Nat) :=
  os.zipIdx.flatMap fun (y, j) => (os.take j).zipIdx.filterMap fun (x, i) =>
    if (anc.getD j 0).testBit i then none
    else if clsOf x.op == 1 && clsOf y.op == 3 then some (i, j)
    else if clsOf y.op == 1 && clsOf x.op == 3 then some (j, i)
    else none

/-- Of each effect the operations that make an object and come ahead of it by the edges. -/
def matsOf (anc : List Nat) (os : List IOper) : List (Nat × List Nat) :=
  os.zipIdx.filterMap fun (y, j) => if clsOf y.op == 3 then
    (let l := (os.take j).zipIdx.filterMap fun (x, i) => if clsOf x.op == 2 && (anc.getD j 0).testBit i then some i else none
     if l.isEmpty then none else some (j, l)) else none

def drawOk (anc : List Nat) (os : List IOper) : Bool :=
  os.zipIdx.all fun (y, j) => (os.take j).zipIdx.all fun (x, i) => (x.dst.isNone || x.dst != y.dst) && ((anc.getD j 0).testBit i || pairOk x y)

def trCode (E : Env) : Code → ICode
  | .skip => .skip
  | .region _ ops false => .reg (ops.toList.map (trOper E ops))
  | .region _ ops true =>
    let os := ops.toList.map (trOper E ops)
    let anc := ancs ops.toList []
    if E.P.follows .mixedOrders && edgesOk ops.toList 0 && drawOk anc os then .regD os (matsOf anc os) (prsOf anc os) else .bad
  | .seq a b => .seq (trCode E a) (trCode E b)
  | .cond c a b => match trOpd E c with
    | some x => .cond x (trCode E a) (trCode E b)
    | none => .bad
  | .block id b => .block id (trCode E b)
  | .loop b => .loop (trCode E b)
  | .rangeFunc f ps a b => match trOpd E f with
    | some x => .rng x ps.toList (trCode E a) (trCode E b)
    | none => .bad
  | .exit id => .exit id
  | .scope b => .scope (trCode E b)
  | .label _ => .skip
  | .goto _ => .bad
  | .ret => .ret
  | .refuse _ => .bad

def trRes (P : Program) : List Go.ResultVar → Option (List IRes)
  | [] => some []
  | .tmp i :: rs => (trRes P rs).map (.t i :: ·)
  | .cell i t :: rs => match szOf P t, P.underlying t, trRes P rs with
    | some n, some _, some l => some (.cell i (if isAgg P t then some n else none) :: l)
    | _, _, _ => none

def trFun (E : Env) (f : Go.Func) : Option IFun :=
  match f.body, trRes E.P f.results.toList with
  | some c, some rs => some { nt := f.ntmps, res := rs, body := trCode E c }
  | _, _ => none

/-! ## The heap -/

def jumpOf : Option Jump → Option Code
  | none => none
  | some .ret => some .ret
  | some (.exit k) => some (.exit k)

def stOf : Nat → Go.LoopState
  | 0 => .ready
  | 1 => .busy
  | 2 => .done
  | _ => .exhausted

/-- Cells: from cell x on as many as there are. -/
def CellsRel (E : Env) (ρ : Ren) (l : List V) (x : Nat) (c : Array Value) : Prop :=
  ∀ i v, l[i]? = some v → ∃ u, c[x + i]? = some u ∧ VRel E ρ v u

inductive MapRel (E : Env) (ρ : Ren) : List (V × V) → List Go.MapEntry → Prop where
  | nil : MapRel E ρ [] []
  | cons (k v : V) (e : Go.MapEntry) (l : List (V × V)) (es : List Go.MapEntry) (hk : VRel E ρ k e.key) (hv : VRel E ρ v e.val) (h : MapRel E ρ l es) : MapRel E ρ ((k, v) :: l) (e :: es)

def ORel (E : Env) (ρ : Ren) (o : Obj) (x tot : Nat) (b : Option Go.Obj) : Prop :=
  match o with
  | .cells ty l => ∃ c e lo hi, b = some (.cells c e (lo, hi)) ∧ E.tm e = ty ∧ l.length ≤ tot ∧ x + tot ≤ c.size ∧ (lo = hi ∨ c.size ≤ lo) ∧ CellsRel E ρ l x c
  | .map es => ∃ cs clock, b = some (.map cs clock) ∧ MapRel E ρ es cs.toList
  | .loop r => ∃ (R : Go.Loop) (bd o tot : Nat), b = some (.loop R) ∧ R.state = stOf r.st ∧ R.pending = jumpOf r.pend ∧ VRels E ρ r.tmps R.tmps.toList ∧ R.params.toList = r.ps ∧
      trCode E R.assign = r.assign ∧ trCode E R.body = r.body ∧ ρ r.dfr = some (bd, o, tot) ∧ R.defers = bd
  | .dfr => b = some (.deferred (some []))

/-- The ideal heap 'g' (its next number 'nx') lies in the world 'w' by the renaming 'ρ'; below the first world's blocks nothing has turned. -/
structure Rel (E : Env) (ρ : Ren) (g : Nat → Option Obj) (nx : Nat) (w : World) : Prop where
  below : Below E.w0.heap.size E.w0 w
  obj : ∀ id o, g id = some o → ∃ b x tot, ρ id = some (b, x, tot) ∧ E.w0.heap.size ≤ b ∧ ORel E ρ o x tot w.heap[b]?
  inj : ∀ id id' o o' b x t x' t', g id = some o → g id' = some o' → ρ id = some (b, x, t) → ρ id' = some (b, x', t') → id = id'
  fresh : ∀ id, nx ≤ id → ρ id = none

theorem CellsRel.ext {E : Env} {ρ ρ' : Ren} (h : Ext ρ ρ') {l : List V} {x : Nat} {c : Array Value} (k : CellsRel E ρ l x c) : CellsRel E ρ' l x c :=
  fun i v hv => let ⟨u, h1, h2⟩ := k i v hv; ⟨u, h1, h2.ext h⟩

theorem MapRel.ext {E : Env} {ρ ρ' : Ren} (h : Ext ρ ρ') {l : List (V × V)} {es : List Go.MapEntry} (k : MapRel E ρ l es) : MapRel E ρ' l es := by
  induction k with
  | nil => exact .nil
  | cons k v e l es hk hv _ ih => exact .cons k v e l es (hk.ext h) (hv.ext h) ih

theorem ORel.ext {E : Env} {ρ ρ' : Ren} (h : Ext ρ ρ') {o : Obj} {x tot : Nat} {b : Option Go.Obj} (k : ORel E ρ o x tot b) : ORel E ρ' o x tot b := by
  unfold ORel at *
  cases o with
  | cells ty l => obtain ⟨c, e, lo, hi, h1, h2, h3, h4, h5, h6⟩ := k; exact ⟨c, e, lo, hi, h1, h2, h3, h4, h5, h6.ext h⟩
  | map es => obtain ⟨c, cl, h1, h2⟩ := k; exact ⟨c, cl, h1, h2.ext h⟩
  | loop r => obtain ⟨R, bd, o, tot, h1, h2, h3, h4, h5, h6, h7, h8, h9⟩ := k; exact ⟨R, bd, o, tot, h1, h2, h3, h4.ext h, h5, h6, h7, h _ _ h8, h9⟩
  | dfr => exact k

end Im

/- Steps of memory: what a new object, a store, a load do to 'Rel'; 'Post'. -/
namespace Im
open Go (IntKind BinOp UnOp Program World Value Addr TypeId FuncId Code Oper Operand Op TypeDesc Sem Act)
open Go.RowKit (Below)

def upd (g : Nat → Option Obj) (id : Nat) (o : Option Obj) : Nat → Option Obj := fun i => if i = id then o else g i

theorem Heap.put_get (H : Heap) (id : Nat) (o : Obj) : (H.put id o).get = upd H.get id (some o) := by
  funext i; rw [Heap.get_put]; rfl
theorem Heap.del_get (H : Heap) (id : Nat) : (H.del id).get = upd H.get id none := by
  funext i; rw [Heap.get_del]; rfl
theorem Heap.bump_get (H : Heap) (n : Nat) : (H.bump n).get = H.get := rfl

/-- What a step leaves: the heap g (next nx) in w by ρ has become g' (nx') in w' by ρ'. 'S': the numbers below nx that the step may have given out. -/
structure Post (E : Env) (S : Nat → Prop) (ρ : Ren) (g : Nat → Option Obj) (nx : Nat) (w : World) (ρ' : Ren) (g' : Nat → Option Obj) (nx' : Nat) (w' : World) : Prop where
  ext : Ext ρ ρ'
  rel : Rel E ρ' g' nx' w'
  nx_le : nx ≤ nx'
  size : w.heap.size ≤ w'.heap.size
  frame : ∀ b, b < w.heap.size → (∀ id o x t, g id = some o → ρ id ≠ some (b, x, t)) → w'.heap[b]? = w.heap[b]?
  newb : ∀ id o b x t, g' id = some o → ρ' id = some (b, x, t) → (∃ id0 o0 x0 t0, g id0 = some o0 ∧ ρ id0 = some (b, x0, t0)) ∨ w.heap.size ≤ b
  old : ∀ id, id < nx → ¬ S id → ρ' id = ρ id

section
variable {E : Env} {S S' : Nat → Prop} {ρ ρ' ρ'' : Ren} {g g' g'' : Nat → Option Obj} {nx nx' nx'' : Nat} {w w' w'' : World}

theorem Post.refl (h : Rel E ρ g nx w) : Post E S ρ g nx w ρ g nx w :=
  ⟨Ext.refl _, h, Nat.le_refl _, Nat.le_refl _, fun _ _ _ => rfl, fun id o b x t h1 h2 => .inl ⟨id, o, x, t, h1, h2⟩, fun _ _ _ => rfl⟩

theorem Post.mono (h : Post E S ρ g nx w ρ' g' nx' w') (hs : ∀ id, id < nx → S id → S' id) : Post E S' ρ g nx w ρ' g' nx' w' :=
  ⟨h.ext, h.rel, h.nx_le, h.size, h.frame, h.newb, fun id h1 h2 => h.old id h1 fun h3 => h2 (hs id h1 h3)⟩

theorem Post.trans (h : Post E S ρ g nx w ρ' g' nx' w') (k : Post E S ρ' g' nx' w' ρ'' g'' nx'' w'') : Post E S ρ g nx w ρ'' g'' nx'' w'' := by
  refine ⟨h.ext.trans k.ext, k.rel, Nat.le_trans h.nx_le k.nx_le, Nat.le_trans h.size k.size, ?_, ?_, ?_⟩
  · intro b hb hn
    rw [k.frame b (Nat.lt_of_lt_of_le hb h.size) ?_, h.frame b hb hn]
    intro id o x t hg hρ
    rcases h.newb id o b x t hg hρ with ⟨id0, o0, x0, t0, h1, h2⟩ | h1
    · exact hn id0 o0 x0 t0 h1 h2
    · omega
  · intro id o b x t hg hρ
    rcases k.newb id o b x t hg hρ with ⟨id0, o0, x0, t0, h1, h2⟩ | h1
    · exact h.newb id0 o0 b x0 t0 h1 h2
    · exact .inr (Nat.le_trans h.size h1)
  · intro id h1 h2
    rw [k.old id (Nat.lt_of_lt_of_le h1 h.nx_le) h2, h.old id h1 h2]

/-- A draw turns nothing. -/
theorem Rel.drawn (h : Rel E ρ g nx w) (n : Nat) : Rel E ρ g nx { w with drawn := n } :=
  ⟨⟨h.below.os, h.below.tape, h.below.output, h.below.size, h.below.block⟩, h.obj, h.inj, h.fresh⟩

/-- Fewer objects. -/
theorem Rel.sub (h : Rel E ρ g nx w) (hs : ∀ id o, g' id = some o → g id = some o) : Rel E ρ g' nx w :=
  ⟨h.below, fun id o k => h.obj id o (hs id o k), fun id id' o o' b x t x' t' k k' => h.inj id id' o o' b x t x' t' (hs _ _ k) (hs _ _ k'), h.fresh⟩

theorem Rel.next (h : Rel E ρ g nx w) (hn : nx ≤ nx') : Rel E ρ g nx' w :=
  ⟨h.below, h.obj, h.inj, fun id k => h.fresh id (Nat.le_trans hn k)⟩

/-- An object's block is there. -/
theorem Rel.lt (h : Rel E ρ g nx w) {id : Nat} {o : Obj} {b x t : Nat} (hg : g id = some o) (hρ : ρ id = some (b, x, t)) : b < w.heap.size := by
  obtain ⟨b', x', t', h1, _, h3⟩ := h.obj id o hg
  rw [hρ] at h1; cases h1
  rcases Nat.lt_or_ge b w.heap.size with h4 | h4
  · exact h4
  · rw [Array.getElem?_eq_none h4] at h3
    cases o <;> simp [ORel] at h3

/-- The renaming with one more. -/
def Ren.upd (ρ : Ren) (id : Nat) (x : Nat × Nat × Nat) : Ren := fun i => if i = id then some x else ρ i

theorem Ren.upd_ext (ρ : Ren) (id : Nat) (x : Nat × Nat × Nat) (h : ρ id = none) : Ext ρ (ρ.upd id x) := by
  intro i y hy
  unfold Ren.upd
  by_cases e : i = id
  · subst e; rw [h] at hy; cases hy
  · rw [if_neg e]; exact hy

theorem Ren.upd_self (ρ : Ren) (id : Nat) (x : Nat × Nat × Nat) : ρ.upd id x id = some x := by simp [Ren.upd]

/-- A new block that holds an object. -/
theorem Post.new (h : Rel E ρ g nx w) (nid tot : Nat) (o : Obj) (bo : Go.Obj) (hn : ρ nid = none) (hnx : nid < nx') (hle : nx ≤ nx')
    (ho : ORel E (ρ.upd nid (w.heap.size, 0, tot)) o 0 tot (some bo)) (d : Nat) :
    Post E (· = nid) ρ g nx w (ρ.upd nid (w.heap.size, 0, tot)) (upd g nid (some o)) nx' { w with heap := w.heap.push bo, drawn := d } := by
  have hext := Ren.upd_ext ρ nid (w.heap.size, 0, tot) hn
  have hN : E.w0.heap.size ≤ w.heap.size := h.below.size
  have hold : ∀ b, b < w.heap.size → (w.heap.push bo)[b]? = w.heap[b]? := fun b hb => by rw [Array.getElem?_push, if_neg (by omega)]
  refine ⟨hext, ⟨⟨h.below.os, h.below.tape, h.below.output, ?_, ?_⟩, ?_, ?_, ?_⟩, hle, by simp, ?_, ?_, ?_⟩
  · simp; omega
  · intro k hk
    show (w.heap.push bo)[k]? = _
    rw [hold k (by omega)]; exact h.below.block k hk
  · intro id o' hg
    unfold Im.upd at hg
    by_cases e : id = nid
    · subst e
      rw [if_pos rfl] at hg; cases hg
      refine ⟨w.heap.size, 0, tot, Ren.upd_self _ _ _, hN, ?_⟩
      show ORel E _ _ _ _ (w.heap.push bo)[w.heap.size]?
      rw [Array.getElem?_push_size]; exact ho
    · rw [if_neg e] at hg
      obtain ⟨b, x, t, h1, h2, h3⟩ := h.obj id o' hg
      refine ⟨b, x, t, hext _ _ h1, h2, ?_⟩
      show ORel E _ _ _ _ (w.heap.push bo)[b]?
      rw [hold b (h.lt hg h1)]; exact h3.ext hext
  · intro id id' o1 o2 b x t x' t' h1 h2 h3 h4
    unfold Im.upd at h1 h2
    unfold Ren.upd at h3 h4
    by_cases e : id = nid <;> by_cases e' : id' = nid
    · rw [e, e']
    · rw [if_pos e] at h3; rw [if_neg e'] at h2 h4
      cases h3
      have := h.lt h2 h4; omega
    · rw [if_neg e] at h1 h3; rw [if_pos e'] at h4
      cases h4
      have := h.lt h1 h3; omega
    · rw [if_neg e] at h1 h3; rw [if_neg e'] at h2 h4
      exact h.inj _ _ _ _ _ _ _ _ _ h1 h2 h3 h4
  · intro id hid
    unfold Ren.upd
    rw [if_neg (by omega)]
    exact h.fresh id (by omega)
  · intro b hb _
    exact hold b hb
  · intro id o' b x t h1 h2
    unfold Im.upd at h1
    unfold Ren.upd at h2
    by_cases e : id = nid
    · rw [if_pos e] at h2; cases h2; exact .inr (Nat.le_refl _)
    · rw [if_neg e] at h1 h2; exact .inl ⟨id, o', x, t, h1, h2⟩
  · intro id _ h2
    unfold Ren.upd; rw [if_neg h2]

/-- An object written anew in its own block. -/
theorem Post.write (h : Rel E ρ g nx w) {id : Nat} {o o' : Obj} {b x t : Nat} (hg : g id = some o) (hρ : ρ id = some (b, x, t)) (bo : Go.Obj)
    (ho : ORel E ρ o' x t (some bo)) (w' : World) (hw : w'.os = w.os ∧ w'.tape = w.tape ∧ w'.output = w.output) (hs : w'.heap.size = w.heap.size)
    (hb : w'.heap[b]? = some bo) (hoth : ∀ k, k ≠ b → w'.heap[k]? = w.heap[k]?) (hlt : id < nx) :
    Post E S ρ g nx w ρ (Im.upd g id (some o')) nx w' := by
  obtain ⟨b', x', t', e1, hN, _⟩ := h.obj id o hg
  rw [hρ] at e1; cases e1
  refine ⟨Ext.refl _, ⟨⟨hw.1.trans h.below.os, hw.2.1.trans h.below.tape, hw.2.2.trans h.below.output, by rw [hs]; exact h.below.size, ?_⟩, ?_, ?_, h.fresh⟩, Nat.le_refl _, by omega, ?_, ?_, fun _ _ _ => rfl⟩
  · intro k hk
    rw [hoth k (by omega)]; exact h.below.block k hk
  · intro id' o1 h1
    unfold Im.upd at h1
    by_cases e : id' = id
    · subst e; rw [if_pos rfl] at h1; cases h1
      exact ⟨b, x, t, hρ, hN, by rw [hb]; exact ho⟩
    · rw [if_neg e] at h1
      obtain ⟨b1, x1, t1, h2, h3, h4⟩ := h.obj id' o1 h1
      refine ⟨b1, x1, t1, h2, h3, ?_⟩
      rw [hoth b1 ?_]; exact h4
      intro eb; subst eb
      exact e (h.inj _ _ _ _ _ _ _ _ _ h1 hg h2 hρ)
  · intro i i' o1 o2 b1 x1 t1 x2 t2 h1 h2 h3 h4
    unfold Im.upd at h1 h2
    have f1 : ∃ o, g i = some o := by
      by_cases e : i = id
      · exact ⟨o, e ▸ hg⟩
      · rw [if_neg e] at h1; exact ⟨o1, h1⟩
    have f2 : ∃ o, g i' = some o := by
      by_cases e : i' = id
      · exact ⟨o, e ▸ hg⟩
      · rw [if_neg e] at h2; exact ⟨o2, h2⟩
    obtain ⟨p, hp⟩ := f1; obtain ⟨q, hq⟩ := f2
    exact h.inj _ _ _ _ _ _ _ _ _ hp hq h3 h4
  · intro k _ hn
    exact hoth k fun e => hn id o x t hg (e ▸ hρ)
  · intro i o1 b1 x1 t1 h1 h2
    unfold Im.upd at h1
    by_cases e : i = id
    · subst e; exact .inl ⟨i, o, x1, t1, hg, h2⟩
    · rw [if_neg e] at h1; exact .inl ⟨i, o1, x1, t1, h1, h2⟩

/-- An object that goes on in its block under a new number. -/
theorem Post.rename (h : Rel E ρ g nx w) {id : Nat} {o : Obj} {b x t : Nat} (hg : g id = some o) (hρ : ρ id = some (b, x, t)) (nid : Nat) (hn : ρ nid = none) (hnx : nid < nx') (hle : nx ≤ nx')
    (o' : Obj) (x' t' : Nat) (bo : Go.Obj) (ho : ORel E (ρ.upd nid (b, x', t')) o' x' t' (some bo)) (w' : World) (hw : w'.os = w.os ∧ w'.tape = w.tape ∧ w'.output = w.output) (hs : w'.heap.size = w.heap.size)
    (hb : w'.heap[b]? = some bo) (hoth : ∀ k, k ≠ b → w'.heap[k]? = w.heap[k]?) :
    Post E (· = nid) ρ g nx w (ρ.upd nid (b, x', t')) (Im.upd (Im.upd g id none) nid (some o')) nx' w' := by
  obtain ⟨b', x0, t0, e1, hN, _⟩ := h.obj id o hg
  rw [hρ] at e1; cases e1
  have hext := Ren.upd_ext ρ nid (b, x', t') hn
  have hne : id ≠ nid := by intro e; rw [e, hn] at hρ; cases hρ
  have hgid : ∀ i o1, i ≠ nid → Im.upd (Im.upd g id none) nid (some o') i = some o1 → i ≠ id ∧ g i = some o1 := by
    intro i o1 hi h1
    unfold Im.upd at h1
    rw [if_neg hi] at h1
    by_cases e : i = id
    · rw [if_pos e] at h1; cases h1
    · rw [if_neg e] at h1; exact ⟨e, h1⟩
  have hρn : ∀ i, i ≠ nid → ρ.upd nid (b, x', t') i = ρ i := fun i hi => by unfold Ren.upd; rw [if_neg hi]
  have hself : ρ.upd nid (b, x', t') nid = some (b, x', t') := by simp [Ren.upd]
  refine ⟨hext, ⟨⟨hw.1.trans h.below.os, hw.2.1.trans h.below.tape, hw.2.2.trans h.below.output, by rw [hs]; exact h.below.size, ?_⟩, ?_, ?_, ?_⟩, hle, by omega, ?_, ?_, ?_⟩
  · intro k hk
    rw [hoth k (by omega)]; exact h.below.block k hk
  · intro i o1 h1
    by_cases e : i = nid
    · subst e
      have : o1 = o' := by unfold Im.upd at h1; rw [if_pos rfl] at h1; cases h1; rfl
      subst this
      exact ⟨b, x', t', hself, hN, by rw [hb]; exact ho⟩
    · obtain ⟨e2, h2⟩ := hgid i o1 e h1
      obtain ⟨b1, x1, t1, h3, h4, h5⟩ := h.obj i o1 h2
      refine ⟨b1, x1, t1, by rw [hρn i e]; exact h3, h4, ?_⟩
      rw [hoth b1 ?_]; exact h5.ext hext
      intro eb; subst eb
      exact e2 (h.inj _ _ _ _ _ _ _ _ _ h2 hg h3 hρ)
  · intro i i' o1 o2 b1 x1 t1 x2 t2 h1 h2 h3 h4
    by_cases e : i = nid <;> by_cases e' : i' = nid
    · rw [e, e']
    · rw [e, hself] at h3; cases h3
      rw [hρn i' e'] at h4
      obtain ⟨e2, h5⟩ := hgid i' o2 e' h2
      exact absurd (h.inj _ _ _ _ _ _ _ _ _ h5 hg h4 hρ) e2
    · rw [e', hself] at h4; cases h4
      rw [hρn i e] at h3
      obtain ⟨e2, h5⟩ := hgid i o1 e h1
      exact absurd (h.inj _ _ _ _ _ _ _ _ _ h5 hg h3 hρ) e2
    · rw [hρn i e] at h3; rw [hρn i' e'] at h4
      exact h.inj _ _ _ _ _ _ _ _ _ (hgid i o1 e h1).2 (hgid i' o2 e' h2).2 h3 h4
  · intro i hi
    rw [hρn i (by omega)]; exact h.fresh i (by omega)
  · intro k _ hk
    exact hoth k fun e => hk id o x t hg (e ▸ hρ)
  · intro i o1 b1 x1 t1 h1 h2
    by_cases e : i = nid
    · rw [e, hself] at h2; cases h2
      exact .inl ⟨id, o, x, t, hg, hρ⟩
    · rw [hρn i e] at h2
      exact .inl ⟨i, o1, x1, t1, (hgid i o1 e h1).2, h2⟩
  · intro i _ hi
    exact hρn i hi

/-- An object let go of. -/
theorem Post.drop (h : Rel E ρ g nx w) (id : Nat) : Post E S ρ g nx w ρ (Im.upd g id none) nx w := by
  have hs : ∀ i o, Im.upd g id none i = some o → g i = some o := by
    intro i o k; unfold Im.upd at k
    by_cases e : i = id
    · rw [if_pos e] at k; cases k
    · rw [if_neg e] at k; exact k
  exact ⟨Ext.refl _, h.sub hs, Nat.le_refl _, Nat.le_refl _, fun _ _ _ => rfl, fun i o b x t h1 h2 => .inl ⟨i, o, x, t, hs _ _ h1, h2⟩, fun _ _ _ => rfl⟩

theorem Post.draw (h : Rel E ρ g nx w) (n : Nat) : Post E S ρ g nx w ρ g nx { w with drawn := n } :=
  ⟨Ext.refl _, h.drawn n, Nat.le_refl _, Nat.le_refl _, fun _ _ _ => rfl, fun i o b x t h1 h2 => .inl ⟨i, o, x, t, h1, h2⟩, fun _ _ _ => rfl⟩

theorem Post.bump (h : Rel E ρ g nx w) (hn : nx ≤ nx') : Post E S ρ g nx w ρ g nx' w :=
  ⟨Ext.refl _, h.next hn, hn, Nat.le_refl _, fun _ _ _ => rfl, fun i o b x t h1 h2 => .inl ⟨i, o, x, t, h1, h2⟩, fun _ _ _ => rfl⟩
end

/-! ## Loads -/

/-- The static memory that the ideal machine reads is the first world's. -/
structure CfgOk (E : Env) (C : Cfg) : Prop where
  st : ∀ b i v, C.st b i = some v → b % 2 = 0 ∧ b / 2 < E.w0.heap.size ∧ ∃ u, E.w0.cell? ⟨b / 2, i, none⟩ = some u ∧ VRel E (fun _ => none) v u
  gl : ∀ m g i v, E.gm g = some m → C.gl m i = some v → ∃ u, E.w0.cell? ⟨g, i, none⟩ = some u ∧ VRel E (fun _ => none) v u
  gm : ∀ g m, E.gm g = some m → g < E.w0.heap.size

theorem addr_add (b o : Nat) (n : Nat) : (⟨b, o, none⟩ : Addr).add n = ⟨b, o + n, none⟩ := by
  unfold Addr.add
  by_cases h : n = 0
  · subst h; simp
  · rw [if_neg h]

theorem ARel.add {E : Env} {ρ : Ren} {a : PA} {c : Addr} (h : ARel E ρ a c) (n : Nat) : ARel E ρ (a.add n) (c.add n) := by
  unfold ARel PA.add at *
  cases hr : a.r <;> rw [hr] at h <;> simp only at h ⊢
  · obtain ⟨b, o, tot, h1, h2⟩ := h; subst h2; exact ⟨b, o, tot, h1, by rw [addr_add, Nat.add_assoc]⟩
  · rcases h with ⟨h1, h2⟩ | h1
    · subst h2; exact .inl ⟨h1, by rw [addr_add]⟩
    · exact .inr h1
  · obtain ⟨g, h1, h2, h3⟩ := h; subst h3; exact ⟨g, h1, h2, by rw [addr_add]⟩

section
variable {E : Env} {C : Cfg} {ρ : Ren} {H : Heap} {w : World}

theorem cell_of_static (hr : Rel E ρ H.get H.next w) {a : Addr} (ha : a.block < E.w0.heap.size) : w.cell? a = E.w0.cell? a := hr.below.cell ha

theorem cellsAt_sound (hC : CfgOk E C) (hr : Rel E ρ H.get H.next w) {a : PA} {c : Addr} (ha : ARel E ρ a c) {i : Nat} {v : V} (h : H.cellsAt C a i = some v) :
    ∃ u, w.cell? (c.add i) = some u ∧ VRel E ρ v u := by
  unfold Heap.cellsAt at h
  unfold ARel at ha
  cases e : a.r <;> rw [e] at h ha <;> simp only at h ha
  · obtain ⟨b, o, tot, h1, h2⟩ := ha
    split at h
    · rename_i ty l hg
      obtain ⟨b', x, t, h3, h4, c', e', lo, hi, h5, _, h7, h8, h9, h10⟩ := hr.obj _ _ hg
      rw [h1] at h3; cases h3
      obtain ⟨u, hu, hv⟩ := h10 _ _ h
      refine ⟨u, ?_, hv⟩
      subst h2
      rw [addr_add]
      simp only [World.cell?, h5]
      rw [← hu]; simp [Nat.add_assoc]
    · cases h
  · obtain ⟨h0, h1, u, hu, hv⟩ := hC.st _ _ _ h
    obtain ⟨_, h2⟩ : a.b % 2 = 0 ∧ c = ⟨a.b / 2, a.off, none⟩ := by
      rcases ha with ha | ha
      · exact ha
      · omega
    refine ⟨u, ?_, hv.ext (fun _ _ k => by cases k)⟩
    subst h2
    rw [addr_add, cell_of_static hr (by exact h1)]; exact hu
  · obtain ⟨g, h1, h2, h3⟩ := ha
    obtain ⟨u, hu, hv⟩ := hC.gl _ g _ _ h1 h
    refine ⟨u, ?_, hv.ext (fun _ _ k => by cases k)⟩
    subst h3
    rw [addr_add, cell_of_static hr (by exact h2)]; exact hu

theorem loadN_sound (hC : CfgOk E C) (hr : Rel E ρ H.get H.next w) {a : PA} {c : Addr} (ha : ARel E ρ a c) : ∀ (n i : Nat) (l : List V), H.loadN C a i n = some l →
    ∃ us, VRels E ρ l us ∧ us.length = n ∧ ∀ j u, us[j]? = some u → w.cell? (c.add (i + j)) = some u
  | 0, i, l, h => by simp [Heap.loadN] at h; subst h; exact ⟨[], .nil, rfl, by simp⟩
  | n + 1, i, l, h => by
    unfold Heap.loadN at h
    split at h
    · rename_i v l' h1 h2
      cases h
      obtain ⟨u, hu, hv⟩ := cellsAt_sound hC hr ha h1
      obtain ⟨us, k1, k2, k3⟩ := loadN_sound hC hr ha n (i + 1) l' h2
      refine ⟨u :: us, .cons _ _ _ _ hv k1, by simp [k2], fun j x hj => ?_⟩
      cases j with
      | zero => simp at hj; subst hj; exact hu
      | succ j =>
        simp at hj
        have := k3 j x hj
        rwa [show i + 1 + j = i + (j + 1) by omega] at this
    · cases h

theorem loadN_length {a : PA} : ∀ {n i : Nat} {l : List V}, H.loadN C a i n = some l → l.length = n
  | 0, i, l, h => by simp [Heap.loadN] at h; subst h; rfl
  | n + 1, i, l, h => by
    unfold Heap.loadN at h
    split at h
    · rename_i v l' h1 h2; cases h; simp [loadN_length h2]
    · cases h

end
end Im

