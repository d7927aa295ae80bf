/- The ideal machine: values, heap, code, and its interpreter 'icall'. Pure definitions; no condition. -/
import GoSem.Dispatch
namespace Im
open Go (IntKind BinOp UnOp)

/-! ## Values -/

/-- Which memory: the call's own objects, memory that was there before (static), a package variable. -/
inductive Reg where
  | own | st | gl

/-- The address of a cell. -/
structure PA where
  r : Reg
  b : Nat
  off : Nat

/-- A slice's capacity: known; or whatever the array has ('un e': elements of e cells). -/
inductive Cap where
  | ex (n : Nat)
  | un (e : Nat)

inductive V where
  | int (k : IntKind) (n : Int)
  | bool (b : Bool)
  | str (s : List UInt8)
  | nilp
  | ptr (a : PA)
  | nils
  | slice (a : PA) (len : Nat) (cap : Cap)
  | nilm
  | map (id : Nat)
  | nilf
  | fn (f : Nat) (first caps : List V)
  | yld (l : Nat)
  | nili
  | iface (t : Nat) (v : V)
  | agg (l : List V)
  | tup (l : List V)

def V.undef : V := .tup []
def V.cells : V → List V
  | .agg l => l
  | v => [v]
/-- Not of several cells. -/
def V.one : V → Bool
  | .agg _ | .tup _ => false
  | _ => true
def i64 (n : Int) : V := .int .i64 n

/-! ## Code -/

inductive Opd where
  | t (i : Nat)
  | c (v : V)
  | g (n : Nat)
  | f (n : Nat)

/-- How two values of a type are compared. -/
inductive EqT where
  | bool | int | str | ptr | slc | map | fn | ifc
  | st (l : List (Nat × Option Nat × EqT))

inductive IOp where
  | mv (x : Opd)
  | pick (c a b : Opd)
  | nilck (x : Opd)
  | box (ty : Nat) (x : Opd)
  | alc (ty : Nat) (z : List V)
  | build (z : List V) (ps : List (Nat × Nat × Opd))
  | bslice (ty : Nat) (n : Nat) (z : List V) (ps : List (Nat × Nat × Opd))
  | ld (x : Opd)
  | ldn (n : Nat) (x : Opd)
  | st (n : Nat) (x v : Opd)
  | fa (off : Nat) (x : Opd)
  | ias (e : Nat) (x i : Opd)
  | iaa (len e : Nat) (x i : Opd)
  | fld (off : Nat) (x : Opd)
  | fldn (off n : Nat) (x : Opd)
  | idxs (x i : Opd)
  | idxa (len : Nat) (x i : Opd)
  | ext (i : Nat) (x : Opd)
  | bin (op : BinOp) (x y : Opd)
  | eq (neg : Bool) (q : EqT) (x y : Opd)
  | un (op : UnOp) (x : Opd)
  | cint (k : IntKind) (x : Opd)
  | cid (x : Opd)
  | cbs (x : Opd)
  | csb (ty : Nat) (x : Opd)
  | len (x : Opd)
  | lens (x : Opd)
  | lena (n : Nat)
  | lenm (x : Opd)
  | slcs (x : Opd) (lo hi : Option Opd)
  | slc (e : Nat) (x : Opd) (lo hi mx : Option Opd)
  | slca (n e : Nat) (x : Opd) (lo hi mx : Option Opd)
  | call (f : Nat) (args : List Opd)
  | callv (x : Opd) (args : List Opd)
  | app (s : Bool) (ty e : Nat) (x y : Opd)
  | cpy (s : Bool) (e : Nat) (x y : Opd)
  | clr (z : List V) (x : Opd)
  | mkf (f : Nat) (first caps : List Opd)
  | mks (ty : Nat) (z : List V) (len cap : Opd)
  | mkm
  | lkup (kt : Nat) (ok : Bool) (z : V) (x k : Opd)
  | mupd (kt : Nat) (x k v : Opd)
  | mif (t : Nat) (x : Opd)
  | tas (t : Nat) (ok : Bool) (z : V) (x : Opd)
  | mmax (xs : List Opd)
  | mmin (xs : List Opd)
  | bad

/-- 0: only computes · 1: reads memory · 2: makes an object · 3: whatever else. -/
def clsOf : IOp → Nat
  | .mv _ | .pick .. | .nilck _ | .build .. | .fa .. | .ias .. | .iaa .. | .fld .. | .fldn .. | .idxs .. | .idxa .. | .ext .. | .bin .. | .eq .. | .un .. | .cint .. | .cid _
  | .len _ | .lens _ | .lena _ | .slcs .. | .slc .. | .slca .. | .mkf .. | .mif .. | .tas .. | .mmax _ | .mmin _ | .bad => 0
  | .ld _ | .ldn .. | .cbs _ | .lenm _ | .lkup .. => 1
  | .box .. | .alc .. | .bslice .. => 2
  | .st .. | .csb .. | .call .. | .callv .. | .app .. | .cpy .. | .clr .. | .mks .. | .mkm | .mupd .. => 3

structure IOper where
  dst : Option Nat
  guard : Option (Nat × Bool)
  op : IOp

inductive ICode where
  | skip
  | reg (ops : List IOper)
  | regD (ops : List IOper) (mats : List (Nat × List Nat)) (prs : List (Nat × Nat))
  | seq (a b : ICode)
  | cond (c : Opd) (a b : ICode)
  | block (id : Nat) (b : ICode)
  | loop (b : ICode)
  | rng (f : Opd) (ps : List Nat) (assign body : ICode)
  | exit (id : Nat)
  | scope (b : ICode)
  | ret
  | bad

inductive IRes where
  | t (i : Nat)
  | cell (i : Nat) (n : Option Nat)

structure IFun where
  nt : Nat
  res : List IRes
  body : ICode

/-! ## The heap -/

inductive Jump where
  | ret
  | exit (id : Nat)

structure LoopRec where
  st : Nat
  pend : Option Jump
  tmps : List V
  ps : List Nat
  assign : ICode
  body : ICode
  dfr : Nat

inductive Obj where
  | cells (ty : Nat) (l : List V)
  | map (es : List (V × V))
  | loop (r : LoopRec)
  | dfr

/-- A finite map from numbers. -/
inductive Tr (α : Type) where
  | nil
  | node (l : Tr α) (v : Option α) (r : Tr α)

def Tr.get {α : Type} : Tr α → Nat → Option α
  | .nil, _ => none
  | .node l v r, n => if n = 0 then v else if n % 2 = 1 then l.get (n / 2) else r.get (n / 2 - 1)

def Tr.single {α : Type} (v : Option α) : Nat → Nat → Tr α
  | 0, _ => .nil
  | k + 1, n => if n = 0 then .node .nil v .nil else if n % 2 = 1 then .node (Tr.single v k (n / 2)) none .nil else .node .nil none (Tr.single v k (n / 2 - 1))

def Tr.set {α : Type} : Tr α → Nat → Option α → Tr α
  | .nil, n, v => Tr.single v (n + 1) n
  | .node l u r, n, v => if n = 0 then .node l v r else if n % 2 = 1 then .node (l.set (n / 2) v) u r else .node l u (r.set (n / 2 - 1) v)

structure Heap where
  next : Nat
  m : Tr Obj

def Heap.get (H : Heap) (id : Nat) : Option Obj := H.m.get id
/-- A new object (or one that is there, anew). -/
def Heap.put (H : Heap) (id : Nat) (o : Obj) : Heap := { next := if id < H.next then H.next else id + 1, m := H.m.set id (some o) }
def Heap.del (H : Heap) (id : Nat) : Heap := { H with m := H.m.set id none }
def Heap.bump (H : Heap) (n : Nat) : Heap := { H with next := H.next + n }
def Heap.empty : Heap := { next := 0, m := .nil }

/-! ## The machine's surroundings -/

inductive Callee where
  | fn (f : Nat)
  | rnd (l : Nat)

abbrev CallF := Callee → List V → Heap → Option (V × Heap)

structure Cfg where
  fns : Nat → Option IFun
  st : Nat → Nat → Option V
  gl : Nat → Nat → Option V
  prim : Nat → Option (List V → Heap → Option (V × Heap))

/-- The cells at an address. -/
def Heap.cellsAt (C : Cfg) (H : Heap) (a : PA) (i : Nat) : Option V :=
  match a.r with
  | .own => match H.get a.b with
    | some (.cells _ l) => l[a.off + i]?
    | _ => none
  | .st => C.st a.b (a.off + i)
  | .gl => C.gl a.b (a.off + i)

def Heap.loadN (C : Cfg) (H : Heap) (a : PA) : Nat → Nat → Option (List V)
  | _, 0 => some []
  | i, n + 1 => match H.cellsAt C a i, H.loadN C a (i + 1) n with
    | some v, some l => some (v :: l)
    | _, _ => none

/-- Cells written one behind the other. -/
def setAt (l : List V) (i : Nat) : List V → List V
  | [] => l
  | v :: vs => setAt (l.set i v) (i + 1) vs

def Heap.storeN (H : Heap) (a : PA) (vs : List V) : Option Heap :=
  match a.r with
  | .own => match H.get a.b with
    | some (.cells ty l) => if a.off + vs.length ≤ l.length ∧ vs.all V.one = true then some (H.put a.b (.cells ty (setAt l a.off vs))) else none
    | _ => none
  | _ => match vs with
    | [] => some H
    | _ => none

/-! ## Operations -/

def eval (t : List V) : Opd → V
  | .t i => (t[i]?).getD .undef
  | .c v => v
  | .g n => .ptr ⟨.gl, n, 0⟩
  | .f n => .fn n [] []

def evalO (t : List V) : Option Opd → Option V
  | none => none
  | some x => some (eval t x)

def beqBytes : List UInt8 → List UInt8 → Bool
  | [], [] => true
  | a :: x, b :: y => a.toNat == b.toNat && beqBytes x y
  | _, _ => false

def ibits (op : BinOp) (k : IntKind) (x y : Int) : Option V :=
  let a := BitVec.ofInt k.bits x
  let b := BitVec.ofInt k.bits y
  match op with
  | .and => some (.int k (k.wrap (a &&& b).toNat))
  | .or => some (.int k (k.wrap (a ||| b).toNat))
  | .xor => some (.int k (k.wrap (a ^^^ b).toNat))
  | .andNot => some (.int k (k.wrap (a &&& ~~~b).toNat))
  | _ => none

def ibin (op : BinOp) : V → V → Option V
  | .int k x, .int k' y =>
    match op with
    | .shl => if y < 0 then none else some (.int k (k.wrap (x * 2 ^ (min y.toNat k.bits))))
    | .shr => if y < 0 then none else some (.int k (x.fdiv (2 ^ (min y.toNat k.bits))))
    | .add => if k = k' then some (.int k (k.wrap (x + y))) else none
    | .sub => if k = k' then some (.int k (k.wrap (x - y))) else none
    | .mul => if k = k' then some (.int k (k.wrap (x * y))) else none
    | .quo => if k = k' then (if y = 0 then none else some (.int k (k.wrap (x.tdiv y)))) else none
    | .rem => if k = k' then (if y = 0 then none else some (.int k (x.tmod y))) else none
    | .eql => if k = k' then some (.bool (decide (x = y))) else none
    | .neq => if k = k' then some (.bool (!decide (x = y))) else none
    | .lss => if k = k' then some (.bool (decide (x < y))) else none
    | .leq => if k = k' then some (.bool (decide (x ≤ y))) else none
    | .gtr => if k = k' then some (.bool (decide (y < x))) else none
    | .geq => if k = k' then some (.bool (decide (y ≤ x))) else none
    | op => if k = k' then ibits op k x y else none
  | .str a, .str b =>
    match op with
    | .add => if a.length + b.length ≤ 9223372036854775807 then some (.str (a ++ b)) else none
    | .eql => some (.bool (beqBytes a b))
    | .neq => some (.bool (!beqBytes a b))
    | .lss => some (.bool (Go.Op.bytesLess a b))
    | .leq => some (.bool (Go.Op.bytesLess a b || beqBytes a b))
    | .gtr => some (.bool (!(Go.Op.bytesLess a b || beqBytes a b)))
    | .geq => some (.bool (!Go.Op.bytesLess a b))
    | _ => none
  | _, _ => none

mutual
def ieq : EqT → V → V → Option Bool
  | .bool, .bool a, .bool b => some (a == b)
  | .int, .int k a, .int k' b => if k = k' then some (decide (a = b)) else none
  | .str, .str a, .str b => some (beqBytes a b)
  | .ptr, .nilp, .nilp => some true
  | .ptr, .nilp, .ptr _ => some false
  | .ptr, .ptr _, .nilp => some false
  | .slc, .nils, .nils => some true
  | .slc, .nils, .slice .. => some false
  | .slc, .slice .., .nils => some false
  | .map, .nilm, .nilm => some true
  | .map, .nilm, .map _ => some false
  | .map, .map _, .nilm => some false
  | .fn, .nilf, .nilf => some true
  | .fn, .nilf, .fn .. => some false
  | .fn, .fn .., .nilf => some false
  | .ifc, .nili, .nili => some true
  | .ifc, .nili, .iface .. => some false
  | .ifc, .iface .., .nili => some false
  | .st fs, .agg xs, .agg ys => ieqs fs xs ys
  | _, _, _ => none
def ieqs : List (Nat × Option Nat × EqT) → List V → List V → Option Bool
  | [], _, _ => some true
  | (off, none, q) :: fs, xs, ys =>
    match xs[off]?, ys[off]? with
    | some x, some y => match ieq q x y with
      | some true => ieqs fs xs ys
      | some false => some false
      | none => none
    | _, _ => none
  | (off, some n, q) :: fs, xs, ys =>
    match ieq q (.agg ((xs.drop off).take n)) (.agg ((ys.drop off).take n)) with
    | some true => ieqs fs xs ys
    | some false => some false
    | none => none
end

def iun (op : UnOp) : V → Option V
  | .int k n => match op with
    | .neg => some (.int k (k.wrap (0 - n)))
    | .xor => ibits .xor k (if k.signed then -1 else k.max) n
    | _ => none
  | .bool b => match op with
    | .not => some (.bool (!b))
    | _ => none
  | _ => none

/-- Parts laid into zero cells. -/
def fillP (t : List V) : List V → List (Nat × Nat × Opd) → Option (List V)
  | z, [] => some z
  | z, (off, n, x) :: ps =>
    if (eval t x).cells.length = n ∧ off + n ≤ z.length then fillP t (setAt z off (eval t x).cells) ps else none

/-- The bounds of a slice expression: low, high, max. -/
def bnd (v : Option V) (dflt : Nat) (top : Nat) : Option Nat :=
  match v with
  | none => some dflt
  | some (.int _ i) => if 0 ≤ i ∧ i ≤ (top : Int) then some i.toNat else none
  | some _ => none

def slcStr (s : List UInt8) (lo hi : Option V) : Option V :=
  match bnd hi s.length s.length with
  | none => none
  | some h => match bnd lo 0 h with
    | none => none
    | some l => some (.str ((s.drop l).take (h - l)))

def PA.add (a : PA) (n : Nat) : PA := { a with off := a.off + n }

/-- s[lo:hi:mx] of an exact capacity. -/
def slcEx (e : Nat) (a : Option PA) (len cap : Nat) (lo hi mx : Option V) : Option V :=
  if mx.isSome && hi.isNone then none else
  match bnd mx cap cap with
  | none => none
  | some m => match bnd hi len m with
    | none => none
    | some h => match bnd lo 0 h with
      | none => none
      | some l => match a with
        | none => some .nils
        | some a => some (.slice (if m = l then a else a.add (l * e)) (h - l) (.ex (m - l)))

/-- The same where the capacity is not known: a bound stays within the length. -/
def slcUn (e : Nat) (a : PA) (len : Nat) (e' : Nat) (lo hi mx : Option V) : Option V :=
  match mx with
  | some _ => match bnd mx len len with
    | none => none
    | some m => match bnd hi len m with
      | none => none
      | some h => match bnd lo 0 h with
        | none => none
        | some l => if hi.isNone = true then none else some (.slice (if m = l then a else a.add (l * e)) (h - l) (.ex (m - l)))
  | none => match bnd hi len len with
    | none => none
    | some h => match bnd lo 0 h with
      | none => none
      | some l => if l = 0 then some (.slice a h (.un e')) else if l < len ∧ e = e' then some (.slice (a.add (l * e)) (h - l) (.un e')) else none

def islc (e : Nat) (x : V) (lo hi mx : Option V) : Option V :=
  match x with
  | .nils => slcEx e none 0 0 lo hi mx
  | .slice a len (.ex c) => slcEx e (some a) len c lo hi mx
  | .slice a len (.un e') => slcUn e a len e' lo hi mx
  | _ => none

/-- What is appended, as cells ('s': a string's bytes). -/
def srcCells (C : Cfg) (H : Heap) (s : Bool) (e : Nat) (y : V) : Option (List V × Nat) :=
  match s, y with
  | false, .nils => some ([], 0)
  | false, .slice a n _ => match H.loadN C a 0 (n * e) with
    | some l => if l.all V.one = true then some (l, n) else none
    | none => none
  | true, .str s => if e = 1 then some (s.map fun b => .int .u8 b.toNat, s.length) else none
  | _, _ => none

/-- append: a known capacity that suffices: in place; one that does not, or nil: a new array; an unknown one: the array's number dies, its cells go on under a new one. -/
def iapp (C : Cfg) (nid : Nat) (s : Bool) (ty e : Nat) (x y : V) (H : Heap) : Option (V × Heap) :=
  match srcCells C H s e y with
  | none => none
  | some (new, n) =>
    match x with
    | .nils => if n = 0 then some (.nils, H) else if n > 68719476736 then none else some (.slice ⟨.own, nid, 0⟩ n (.un e), H.put nid (.cells ty new))
    | .slice a len (.ex c) =>
      if len + n ≤ c then
        match H.storeN (a.add (len * e)) new with
        | some H' => some (.slice a (len + n) (.ex c), H')
        | none => none
      else if len + n > 68719476736 then none else match H.loadN C a 0 (len * e) with
        | some old => some (.slice ⟨.own, nid, 0⟩ (len + n) (.un e), H.put nid (.cells ty (old ++ new)))
        | none => none
    | .slice a len (.un e') =>
      if n = 0 then some (x, H) else
      if e ≠ e' ∨ len + n > 68719476736 then none else
      match a.r, H.get a.b, H.loadN C a 0 (len * e) with
      | .own, some (.cells ty' _), some old => if ty' ≠ ty then none else some (.slice ⟨.own, nid, 0⟩ (len + n) (.un e), (H.del a.b).put nid (.cells ty (old ++ new)))
      | _, _, _ => none
    | _ => none

def repl (n : Nat) (z : List V) : List V :=
  match n with
  | 0 => []
  | n + 1 => z ++ repl n z

/-- Bytes as a string. -/
def toBytes : List V → Option (List UInt8)
  | [] => some []
  | .int .u8 n :: l => match toBytes l with
    | some r => some (UInt8.ofNat n.toNat :: r)
    | none => none
  | _ => none

def sameKey : V → V → Option Bool
  | .int k a, .int k' b => if k = k' then some (decide (a = b)) else none
  | .str a, .str b => some (beqBytes a b)
  | .bool a, .bool b => some (a == b)
  | _, _ => none

/-- A key's kind. -/
def tagOf : V → Nat
  | .int .. => 0
  | .str _ => 1
  | .bool _ => 2
  | _ => 9

def findKey (k : V) : List (V × V) → Option (Option V)
  | [] => some none
  | (k', v) :: es => match sameKey k k' with
    | some true => some (some v)
    | some false => findKey k es
    | none => none

def setKey (k v : V) : List (V × V) → Option (List (V × V))
  | [] => some [(k, v)]
  | (k', u) :: es => match sameKey k k' with
    | some true => some ((k, v) :: es)
    | some false => match setKey k v es with
      | some r => some ((k', u) :: r)
      | none => none
    | none => none

def imaxF (k : IntKind) (x : Int) : List V → Option V
  | [] => some (.int k x)
  | .int k' y :: r => if k = k' then imaxF k (if y > x then y else x) r else none
  | _ => none

def iminF (k : IntKind) (x : Int) : List V → Option V
  | [] => some (.int k x)
  | .int k' y :: r => if k = k' then iminF k (if y < x then y else x) r else none
  | _ => none

def imax : List V → Option V
  | .int k x :: r => imaxF k x r
  | _ => none

def imin : List V → Option V
  | .int k x :: r => iminF k x r
  | _ => none

def icallv (cf : CallF) (x : V) (args : List V) (H : Heap) : Option (V × Heap) :=
  match x with
  | .fn f first caps => cf (.fn f) (first ++ args ++ caps) H
  | .yld l => cf (.rnd l) args H
  | _ => none

/-- One operation; 'nid': the number that a new object gets. -/
def iop (cf : CallF) (C : Cfg) (nid : Nat) (op : IOp) (t : List V) (H : Heap) : Option (V × Heap) :=
  match op with
  | .mv x => some (eval t x, H)
  | .pick c a b => match eval t c with
    | .bool true => some (eval t a, H)
    | .bool false => some (eval t b, H)
    | _ => none
  | .nilck x => match eval t x with
    | .ptr a => some (.ptr a, H)
    | .fn f p q => some (.fn f p q, H)
    | .yld l => some (.yld l, H)
    | _ => none
  | .box ty x => some (.ptr ⟨.own, nid, 0⟩, H.put nid (.cells ty (eval t x).cells))
  | .alc ty z => some (.ptr ⟨.own, nid, 0⟩, H.put nid (.cells ty z))
  | .build z ps => match fillP t z ps with
    | some l => some (.agg l, H)
    | none => none
  | .bslice ty n z ps => match fillP t z ps with
    | some l => some (.slice ⟨.own, nid, 0⟩ n (.ex n), H.put nid (.cells ty l))
    | none => none
  | .ld x => match eval t x with
    | .ptr a => match H.cellsAt C a 0 with
      | some v => some (v, H)
      | none => none
    | _ => none
  | .ldn n x => match eval t x with
    | .ptr a => match H.loadN C a 0 n with
      | some l => some (.agg l, H)
      | none => none
    | _ => none
  | .st n x v => match eval t x with
    | .ptr a => if (eval t v).cells.length = n then
        match H.storeN a (eval t v).cells with
        | some H' => some (.undef, H')
        | none => none
      else none
    | _ => none
  | .fa off x => match eval t x with
    | .ptr a => some (.ptr (a.add off), H)
    | _ => none
  | .ias e x i => match eval t x, eval t i with
    | .slice a len _, .int _ n => if 0 ≤ n ∧ n < (len : Int) then some (.ptr (a.add (n.toNat * e)), H) else none
    | _, _ => none
  | .iaa len e x i => match eval t x, eval t i with
    | .ptr a, .int _ n => if 0 ≤ n ∧ n < (len : Int) then some (.ptr (a.add (n.toNat * e)), H) else none
    | _, _ => none
  | .fld off x => match eval t x with
    | .agg l => match l[off]? with
      | some v => some (v, H)
      | none => none
    | _ => none
  | .fldn off n x => match eval t x with
    | .agg l => some (.agg ((l.drop off).take n), H)
    | _ => none
  | .idxs x i => match eval t x, eval t i with
    | .str s, .int _ n => if 0 ≤ n then
        match s[n.toNat]? with
        | some b => some (.int .u8 b.toNat, H)
        | none => none
      else none
    | _, _ => none
  | .idxa len x i => match eval t x, eval t i with
    | .agg l, .int _ n => if 0 ≤ n ∧ n < (len : Int) then
        match l[n.toNat]? with
        | some v => some (v, H)
        | none => none
      else none
    | _, _ => none
  | .ext i x => match eval t x with
    | .tup l => match l[i]? with
      | some v => some (v, H)
      | none => none
    | _ => none
  | .bin op x y => match ibin op (eval t x) (eval t y) with
    | some v => some (v, H)
    | none => none
  | .eq neg q x y => match ieq q (eval t x) (eval t y) with
    | some b => some (.bool (if neg then !b else b), H)
    | none => none
  | .un op x => match iun op (eval t x) with
    | some v => some (v, H)
    | none => none
  | .cint k x => match eval t x with
    | .int _ n => some (.int k (k.wrap n), H)
    | _ => none
  | .cid x => match eval t x with
    | .str s => some (.str s, H)
    | _ => none
  | .cbs x => match eval t x with
    | .nils => some (.str [], H)
    | .slice a n _ => match H.loadN C a 0 n with
      | some l => match toBytes l with
        | some s => some (.str s, H)
        | none => none
      | none => none
    | _ => none
  | .csb ty x => match eval t x with
    | .str s => some (.slice ⟨.own, nid, 0⟩ s.length (.un 1), H.put nid (.cells ty (s.map fun b => .int .u8 b.toNat)))
    | _ => none
  | .lens x => match eval t x with
    | .str s => some (i64 s.length, H)
    | _ => none
  | .len x => match eval t x with
    | .nils => some (i64 0, H)
    | .slice _ n _ => some (i64 n, H)
    | _ => none
  | .lena n => some (i64 n, H)
  | .lenm x => match eval t x with
    | .nilm => some (i64 0, H)
    | .map id => match H.get id with
      | some (.map es) => some (i64 es.length, H)
      | _ => none
    | _ => none
  | .slcs x lo hi => match eval t x with
    | .str s => match slcStr s (evalO t lo) (evalO t hi) with
      | some v => some (v, H)
      | none => none
    | _ => none
  | .slc e x lo hi mx => match islc e (eval t x) (evalO t lo) (evalO t hi) (evalO t mx) with
    | some v => some (v, H)
    | none => none
  | .slca n e x lo hi mx => match eval t x with
    | .ptr a => match slcEx e (some a) n n (evalO t lo) (evalO t hi) (evalO t mx) with
      | some v => some (v, H)
      | none => none
    | _ => none
  | .call f args => cf (.fn f) (args.map (eval t)) H
  | .callv x args => icallv cf (eval t x) (args.map (eval t)) H
  | .app s ty e x y => iapp C nid s ty e (eval t x) (eval t y) H
  | .cpy s e x y => match srcCells C H s e (eval t y) with
    | none => none
    | some (new, n) => match eval t x with
      | .nils => some (i64 0, H)
      | .slice a len _ => match H.storeN a (new.take (min n len * e)) with
        | some H' => some (i64 (min n len : Nat), H')
        | none => none
      | _ => none
  | .clr z x => match eval t x with
    | .nils => some (.undef, H)
    | .slice a n _ => match H.storeN a (repl n z) with
      | some H' => some (.undef, H')
      | none => none
    | _ => none
  | .mkf f first caps => some (.fn f (first.map (eval t)) (caps.map (eval t)), H)
  | .mks ty z len cap => match eval t len, eval t cap with
    | .int _ l, .int _ c => if 0 ≤ l ∧ l ≤ c ∧ c ≤ 16777216 then
        some (.slice ⟨.own, nid, 0⟩ l.toNat (.ex c.toNat), H.put nid (.cells ty (repl c.toNat z)))
      else none
    | _, _ => none
  | .mkm => some (.map nid, H.put nid (.map []))
  | .lkup kt ok z x k => if tagOf (eval t k) ≠ kt then none else match (match eval t x with
      | .nilm => some []
      | .map id => match H.get id with
        | some (.map es) => some es
        | _ => none
      | _ => none) with
    | none => none
    | some es => match findKey (eval t k) es with
      | none => none
      | some r => some (if ok then .tup [r.getD z, .bool r.isSome] else r.getD z, H)
  | .mupd kt x k v => if tagOf (eval t k) ≠ kt then none else match eval t x with
    | .map id => match H.get id with
      | some (.map es) => match setKey (eval t k) (eval t v) es with
        | some es' => some (.undef, H.put id (.map es'))
        | none => none
      | _ => none
    | _ => none
  | .mif ty x => some (.iface ty (eval t x), H)
  | .tas ty ok z x => match eval t x with
    | .nili => if ok then some (.tup [z, .bool false], H) else none
    | .iface u v => if u = ty then some (if ok then .tup [v, .bool true] else v, H) else if ok then some (.tup [z, .bool false], H) else none
    | _ => none
  | .mmax xs => match imax (xs.map (eval t)) with
    | some v => some (v, H)
    | none => none
  | .mmin xs => match imin (xs.map (eval t)) with
    | some v => some (v, H)
    | none => none
  | .bad => none

def wanted (g : Option (Nat × Bool)) (t : List V) : Bool :=
  match g with
  | none => true
  | some (d, want) => match t[d]? with
    | some (.bool b) => b == want
    | _ => false

def setD (t : List V) (d : Option Nat) (v : V) : List V :=
  match d with
  | some i => t.set i v
  | none => t

/-- One operation of a region. -/
def istep (cf : CallF) (C : Cfg) (nid : Nat) (o : IOper) (t : List V) (H : Heap) : Option (List V × Heap) :=
  if wanted o.guard t then
    match iop cf C nid o.op t H with
    | some (v, H') => some (setD t o.dst v, H')
    | none => none
  else some (setD t o.dst .undef, H)

def iops (cf : CallF) (C : Cfg) : List IOper → List V → Heap → Option (List V × Heap)
  | [], t, H => some (t, H)
  | o :: os, t, H => match istep cf C H.next o t H with
    | some (t', H') => iops cf C os t' H'
    | none => none

/-! ### Equality of values, by program -/
def Reg.beq : Reg → Reg → Bool
  | .own, .own | .st, .st | .gl, .gl => true
  | _, _ => false
def PA.beq (a b : PA) : Bool := a.r.beq b.r && a.b == b.b && a.off == b.off
def Cap.beq : Cap → Cap → Bool
  | .ex a, .ex b => a == b
  | .un a, .un b => a == b
  | _, _ => false
mutual
def V.beq : V → V → Bool
  | .int k n, .int k' n' => decide (k = k') && decide (n = n')
  | .bool a, .bool b => a == b
  | .str a, .str b => beqBytes a b
  | .nilp, .nilp => true
  | .ptr a, .ptr b => a.beq b
  | .nils, .nils => true
  | .slice a n c, .slice a' n' c' => a.beq a' && n == n' && c.beq c'
  | .nilm, .nilm => true
  | .map a, .map b => a == b
  | .nilf, .nilf => true
  | .fn f p q, .fn f' p' q' => f == f' && V.beqs p p' && V.beqs q q'
  | .yld a, .yld b => a == b
  | .nili, .nili => true
  | .iface t v, .iface t' v' => t == t' && V.beq v v'
  | .agg l, .agg l' => V.beqs l l'
  | .tup l, .tup l' => V.beqs l l'
  | _, _ => false
def V.beqs : List V → List V → Bool
  | [], [] => true
  | x :: xs, y :: ys => V.beq x y && V.beqs xs ys
  | _, _ => false
end

/-! ### Regions that draw their order

Run in the text's order. What makes an object is put off till an effect that comes behind it by the edges ('mats': of each effect the objects' operations ahead of it), or the end; a load reads the heap as the last effect left it. -/

structure Rec where
  t : List V
  v : V
  w : Bool
  A : Heap
  A' : Heap
  ob : Option Obj

/-- Objects laid, each under its operation's number. -/
def puts (base : Nat) (A : Heap) : List (Nat × Obj) → Heap
  | [] => A
  | (i, o) :: r => (puts base A r).put (base + i) o

def matOf (mats : List (Nat × List Nat)) (i : Nat) : List Nat := ((mats.find? fun p => p.1 == i).map (·.2)).getD []

/-- One operation of such a region: its record, the slots, the heap, what is put off. -/
def dstep (cf : CallF) (C : Cfg) (base : Nat) (mats : List (Nat × List Nat)) (i : Nat) (o : IOper) (t : List V) (A : Heap) (pend : List (Nat × Obj)) : Option (Rec × List V × Heap × List (Nat × Obj)) :=
  if wanted o.guard t then
    match clsOf o.op with
    | 0 | 1 => match iop cf C 0 o.op t A with
      | some (v, _) => some (⟨t, v, true, A, A, none⟩, setD t o.dst v, A, pend)
      | none => none
    | 2 => match iop cf C (base + i) o.op t Heap.empty with
      | some (v, H1) => match H1.get (base + i) with
        | some ob => some (⟨t, v, true, A, A, some ob⟩, setD t o.dst v, A, (i, ob) :: pend)
        | none => none
      | none => none
    | _ => match iop cf C (base + i) o.op t (puts base A (pend.filter fun p => (matOf mats i).contains p.1)) with
      | some (v, H') => some (⟨t, v, true, A, H', none⟩, setD t o.dst v, H', pend.filter fun p => !(matOf mats i).contains p.1)
      | none => none
  else some (⟨t, .undef, false, A, A, none⟩, setD t o.dst .undef, A, pend)

def drun (cf : CallF) (C : Cfg) (base : Nat) (mats : List (Nat × List Nat)) : List IOper → Nat → List V → Heap → List (Nat × Obj) → Option (List Rec × List V × Heap)
  | [], _, t, A, pend => some ([], t, puts base A pend)
  | o :: os, i, t, A, pend => match dstep cf C base mats i o t A pend with
    | some (r, t', A', pend') => match drun cf C base mats os (i + 1) t' A' pend' with
      | some (rs, t'', H) => some (r :: rs, t'', H)
      | none => none
    | none => none

/-- Does a load give the value v in this heap, too? -/
def reads (C : Cfg) (o : IOper) (t : List V) (H : Heap) (v : V) : Bool :=
  match iop (fun _ _ _ => none) C 0 o.op t H with
  | some (u, _) => V.beq u v
  | none => false

/-- A load that floats beside an effect reads the same ahead of that and behind it. -/
def floats (C : Cfg) (os : List IOper) (rs : List Rec) (p : Nat × Nat) : Bool :=
  match os[p.1]?, rs[p.1]?, rs[p.2]? with
  | some o, some l, some e => if l.w && e.w then reads C o l.t e.A l.v && reads C o l.t e.A' l.v else true
  | _, _, _ => false

def iregD (cf : CallF) (C : Cfg) (os : List IOper) (mats : List (Nat × List Nat)) (prs : List (Nat × Nat)) (t : List V) (H : Heap) : Option (List V × Heap) :=
  match drun cf C H.next mats os 0 t (H.bump os.length) [] with
  | some (rs, t', H') => if prs.all (floats C os rs) then some (t', H') else none
  | none => none

/-! ## Code -/

inductive IExit where
  | nrm
  | ex (id : Nat)
  | rt

abbrev Out := Option (IExit × List V × Heap × List Nat)

def iter (b : List V → Heap → List Nat → Out) : Nat → List V → Heap → List Nat → Out
  | 0, _, _, _ => none
  | k + 1, t, H, d => match b t H d with
    | some (.nrm, t', H', d') => iter b k t' H' d'
    | r => r

/-- The mark for a loop's deferred calls: new at an outermost loop, the outer one's in a round. -/
def markOf (ro : Option Nat) (H : Heap) : Option (Heap × Nat × List Nat) :=
  match ro with
  | none => some (H.put H.next .dfr, H.next, [H.next])
  | some l => match H.get l with
    | some (.loop r) => some (H, r.dfr, [])
    | _ => none

def irng (cf : CallF) (ro : Option Nat) (f : V) (ps : List Nat) (assign body : ICode) (t : List V) (H : Heap) (d : List Nat) : Out :=
  match markOf ro H with
  | none => none
  | some (H1, r0, mark) =>
    let l := H1.next
    match f with
    | .fn g first caps =>
      match cf (.fn g) (first ++ [.yld l] ++ caps) (H1.put l (.loop { st := 0, pend := none, tmps := t, ps, assign, body, dfr := r0 })) with
      | some (_, H3) => match H3.get l with
        | some (.loop r) =>
          if r.st = 1 then none else
          match r.pend with
          | none => some (.nrm, t, H3.put l (.loop { r with st := 3 }), mark ++ d)
          | some .ret => some (.rt, t, H3.put l (.loop { r with st := 3 }), mark ++ d)
          | some (.exit k) => some (.ex k, t, H3.put l (.loop { r with st := 3 }), mark ++ d)
        | _ => none
      | none => none
    | _ => none

def exec (cf : CallF) (C : Cfg) (n : Nat) (ro : Option Nat) : ICode → List V → Heap → List Nat → Out
  | .skip, t, H, d => some (.nrm, t, H, d)
  | .reg os, t, H, d => match iops cf C os t H with
    | some (t', H') => some (.nrm, t', H', d)
    | none => none
  | .regD os mats prs, t, H, d => match iregD cf C os mats prs t H with
    | some (t', H') => some (.nrm, t', H', d)
    | none => none
  | .seq a b, t, H, d => match exec cf C n ro a t H d with
    | some (.nrm, t', H', d') => exec cf C n ro b t' H' d'
    | r => r
  | .cond c a b, t, H, d => match eval t c with
    | .bool true => exec cf C n ro a t H d
    | .bool false => exec cf C n ro b t H d
    | _ => none
  | .block id b, t, H, d => match exec cf C n ro b t H d with
    | some (.ex k, t', H', d') => if k = id then some (.nrm, t', H', d') else some (.ex k, t', H', d')
    | r => r
  | .loop b, t, H, d => iter (exec cf C n ro b) n t H d
  | .rng f ps a b, t, H, d => irng cf ro (eval t f) ps a b t H d
  | .exit id, t, H, d => some (.ex id, t, H, d)
  | .scope b, t, H, d => exec cf C n ro b t H d
  | .ret, t, H, d => some (.rt, t, H, d)
  | .bad, _, _, _ => none

/-- The marks are taken, each once. -/
def takeMarks : List Nat → Heap → Option Heap
  | [], H => some H
  | r :: rs, H => match H.get r with
    | some .dfr => takeMarks rs (H.del r)
    | _ => none

def resOne (C : Cfg) (t : List V) (H : Heap) : IRes → Option V
  | .t i => t[i]?
  | .cell i n => match t[i]? with
    | some (.ptr a) => match n with
      | none => H.cellsAt C a 0
      | some n => (H.loadN C a 0 n).map .agg
    | _ => none

def resAll (C : Cfg) (t : List V) (H : Heap) : List IRes → Option (List V)
  | [] => some []
  | r :: rs => match resOne C t H r, resAll C t H rs with
    | some v, some l => some (v :: l)
    | _, _ => none

def results (C : Cfg) (rs : List IRes) (t : List V) (H : Heap) : Option V :=
  match resAll C t H rs with
  | some [v] => some v
  | some l => some (.tup l)
  | none => none

def setMany : List V → List Nat → List V → List V
  | t, p :: ps, v :: vs => setMany (t.set p v) ps vs
  | t, _, _ => t

def ifun (cf : CallF) (C : Cfg) (n : Nat) (F : IFun) (args : List V) (H : Heap) : Option (V × Heap) :=
  match exec cf C n none F.body (args ++ List.replicate (F.nt - args.length) .undef) H [] with
  | some (.nrm, t, H', d) | some (.rt, t, H', d) => match takeMarks d H' with
    | some H'' => match results C F.res t H'' with
      | some v => some (v, H'')
      | none => none
    | none => none
  | _ => none

/-- The end of a round. -/
def endRnd (l : Nat) (e : IExit) (H : Heap) : Option (V × Heap) :=
  match H.get l with
  | some (.loop r) => match e with
    | .nrm => some (.bool true, H.put l (.loop { r with st := 0, pend := none }))
    | .rt => some (.bool false, H.put l (.loop { r with st := 2, pend := some .ret }))
    | .ex k => some (.bool false, H.put l (.loop { r with st := 2, pend := some (.exit k) }))
  | _ => none

def irnd (cf : CallF) (C : Cfg) (n : Nat) (l : Nat) (args : List V) (H : Heap) : Option (V × Heap) :=
  match H.get l with
  | some (.loop r) =>
    if args.length ≠ r.ps.length then none else
    match exec cf C n (some l) r.assign (setMany r.tmps r.ps args) H [] with
    | some (.nrm, t1, H1, []) => match H1.get l with
      | some (.loop r1) =>
        if r1.st ≠ 0 then none else
        match exec cf C n (some l) r.body t1 (H1.put l (.loop { r1 with st := 1 })) [] with
        | some (e, _, H3, []) => endRnd l e H3
        | _ => none
      | _ => none
    | _ => none
  | _ => none

/-- The machine: 'n' bounds the depth of calls and the rounds of each loop. -/
def icall (C : Cfg) : Nat → CallF
  | 0 => fun _ _ _ => none
  | n + 1 => fun c args H =>
    match c with
    | .fn f => match C.prim f with
      | some p => p args H
      | none => match C.fns f with
        | some F => ifun (icall C n) C n F args H
        | none => none
    | .rnd l => irnd (icall C n) C n l args H

end Im
