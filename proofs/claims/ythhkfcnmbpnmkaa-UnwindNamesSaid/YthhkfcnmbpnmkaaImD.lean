/- The translation of a program's loaded code into the ideal code ('trCode'), and the relation of an ideal heap to a world ('Rel'). -/
import Derived.Test.YthhkfcnmbpnmkaaImC
namespace Im
open Go (IntKind BinOp UnOp Program World Value Addr TypeId FuncId Code Oper Operand Op TypeDesc)
open Go.RowKit (Below)

/-! ## Operands, types -/

def trOpd (E : Env) : Operand → Option Opd
  | .tmp i => some (.t i)
  | .const c => (trV c).map .c
  | .global g => (E.gm g).map .g
  | .func f => (E.fm f).map .f

def trOpds (E : Env) : List Operand → Option (List Opd)
  | [] => some []
  | x :: xs => match trOpd E x, trOpds E xs with
    | some y, some ys => some (y :: ys)
    | _, _ => none

def trOpdO (E : Env) : Option Operand → Option (Option Opd)
  | none => some none
  | some x => (trOpd E x).map some

def isAgg (P : Program) (t : TypeId) : Bool :=
  match P.underlying t with
  | some (.struct _) | some (.array _ _) => true
  | _ => false

/-- A type's number of cells. -/
def szOf (P : Program) (t : TypeId) : Option Nat := (P.info? t).map (·.size)

/-- The cells of a type's zero. -/
def zeroV (P : Program) (t : TypeId) : Option V :=
  match P.info? t with
  | some i => match i.zero with
    | some z => trV z
    | none => none
  | none => none

def trFields (q : TypeId → Option EqT) (P : Program) : List Go.Field → Option (List (Nat × Option Nat × EqT))
  | [] => some []
  | f :: fs =>
    if f.name = "_" then trFields q P fs else
    match q f.type, szOf P f.type, trFields q P fs with
    | some e, some n, some l => some ((f.offset, if isAgg P f.type then some n else none, e) :: l)
    | _, _, _ => none

def trEq (P : Program) : Nat → TypeId → Option EqT
  | 0, _ => none
  | k + 1, t => match P.underlying t with
    | some .bool => some .bool
    | some (.int _) => some .int
    | some .string => some .str
    | some (.pointer _) => some .ptr
    | some (.slice _) => some .slc
    | some (.map _ _) => some .map
    | some (.func _ _ _) => some .fn
    | some (.interface _) => some .ifc
    | some (.struct fs) => if P.stoodInHeld t then none else (trFields (trEq P k) P fs.toList).map .st
    | _ => none

def trParts (E : Env) (place : Nat → Option (Nat × Nat)) : List (Nat × Operand) → Option (List (Nat × Nat × Opd))
  | [] => some []
  | (i, x) :: ps => match place i, trOpd E x, trParts E place ps with
    | some (off, n), some y, some l => some ((off, n, y) :: l)
    | _, _, _ => none

def trPlaces (P : Program) : List Go.Field → Option (List (Nat × Nat))
  | [] => some []
  | f :: fs => match szOf P f.type, trPlaces P fs with
    | some n, some l => some ((f.offset, n) :: l)
    | _, _ => none

def isNil : Operand → Bool
  | .const .nilIface => true
  | _ => false

def isEq : BinOp → Bool
  | .eql | .neq => true
  | _ => false

def trBin (E : Env) (op : BinOp) (t : TypeId) (x y : Operand) : Option IOp :=
  match trOpd E x, trOpd E y with
  | some a, some b =>
    if isEq op then
      match E.P.underlying t with
      | some (.int _) | some .string => some (.bin op a b)
      | some (.interface _) => if isNil x || isNil y then some (.eq (op == .neq) .ifc a b) else none
      | some (.struct _) => if E.P.eqGuardType E.P.depth t then none else (trEq E.P 20 t).map fun q => .eq (op == .neq) q a b
      | _ => (trEq E.P 20 t).map fun q => .eq (op == .neq) q a b
    else match E.P.underlying t with
      | some (.int _) | some .string => some (.bin op a b)
      | _ => none
  | _, _ => none

def trConv (E : Env) (src dst : TypeId) (x : Operand) : Option IOp :=
  match trOpd E x with
  | none => none
  | some a => match E.P.underlying src, E.P.underlying dst with
    | some (.int _), some (.int k) => some (.cint k a)
    | some .string, some .string => some (.cid a)
    | some (.slice e), some .string => match E.P.underlying e with
      | some (.int .u8) => some (.cbs a)
      | _ => none
    | some .string, some (.slice e) => match E.P.underlying e, szOf E.P e with
      | some (.int .u8), some 1 => some (.csb (E.tm e) a)
      | _, _ => none
    | _, _ => none

def keyTag (P : Program) (t : TypeId) : Option Nat :=
  match P.underlying t with
  | some (.int _) => some 0
  | some .string => some 1
  | some .bool => some 2
  | _ => none

def trBuiltin (E : Env) (b : Go.Builtin) (ts : List TypeId) (args : List Operand) : Option IOp :=
  match b, ts, args with
  | .append, [t, u], [x, y] => match E.P.underlying t, E.P.underlying u, trOpd E x, trOpd E y with
    | some (.slice e), some (.slice _), some a, some b => match E.P.info? e with
      | some i => if 0 < i.size ∧ i.bytes ≤ 1024 ∧ (zeroV E.P e).map (·.cells.length) = some i.size then some (.app false (E.tm e) i.size a b) else none
      | none => none
    | some (.slice e), some .string, some a, some b => match E.P.info? e with
      | some i => if i.size = 1 ∧ i.bytes ≤ 1024 ∧ (zeroV E.P e).map (·.cells.length) = some 1 then some (.app true (E.tm e) 1 a b) else none
      | none => none
    | _, _, _, _ => none
  | .len, [t], [x] => match E.P.underlying t, trOpd E x with
    | some .string, some a => some (.lens a)
    | some (.slice _), some a => some (.len a)
    | some (.array n _), some _ => some (.lena n)
    | some (.map _ _), some a => some (.lenm a)
    | some (.pointer p), some _ => match E.P.underlying p with
      | some (.array n _) => some (.lena n)
      | _ => none
    | _, _ => none
  | .copy, [t, u], [x, y] => match E.P.underlying t, E.P.underlying u, trOpd E x, trOpd E y with
    | some (.slice e), some (.slice _), some a, some b => (szOf E.P e).map fun n => .cpy false n a b
    | some (.slice e), some .string, some a, some b => (szOf E.P e).map fun n => .cpy true n a b
    | _, _, _, _ => none
  | .clear, [t], [x] => match E.P.underlying t, trOpd E x with
    | some (.slice e), some a => match zeroV E.P e with
      | some z => if 0 < z.cells.length then some (.clr z.cells a) else none
      | none => none
    | _, _ => none
  | .max, _, xs => (trOpds E xs).map .mmax
  | .min, _, xs => (trOpds E xs).map .mmin
  | _, _, _ => none

def trCall (E : Env) (c : Go.Call) : Option IOp :=
  match c.callee with
  | .builtin b => trBuiltin E b c.argTypes.toList c.args.toList
  | .value (.func f) => match E.fm f, trOpds E c.args.toList with
    | some g, some l => some (.call g l)
    | _, _ => none
  | .value x => match trOpd E x, trOpds E c.args.toList with
    | some a, some l => some (.callv a l)
    | _, _ => none
  | .invoke _ _ => none

def trSlice (E : Env) (t : TypeId) (x : Operand) (lo hi mx : Option Operand) : Option IOp :=
  match trOpd E x, trOpdO E lo, trOpdO E hi, trOpdO E mx with
  | some a, some l, some h, some m => match E.P.underlying t with
    | some .string => if m.isSome then none else some (.slcs a l h)
    | some (.slice e) => (szOf E.P e).map fun n => .slc n a l h m
    | some (.array k e) => (szOf E.P e).map fun n => .slca k n a l h m
    | _ => none
  | _, _, _, _ => none

/-- One operation. -/
def trOp? (E : Env) : Op → Option IOp
  | .move x | .assign x => (trOpd E x).map .mv
  | .pick c a b => match trOpd E c, trOpd E a, trOpd E b with
    | some c, some a, some b => some (.pick c a b)
    | _, _, _ => none
  | .nilCheck x => (trOpd E x).map .nilck
  | .box t x => (trOpd E x).map (.box (E.tm t))
  | .alloc t => (zeroV E.P t).map fun z => .alc (E.tm t) z.cells
  | .build t ps => match zeroV E.P t, E.P.underlying t with
    | some z, some (.struct fs) => match trPlaces E.P fs.toList with
      | some pl => (trParts E (fun i => pl[i]?) ps.toList).map (.build z.cells)
      | none => none
    | some z, some (.array _ e) => match szOf E.P e with
      | some n => (trParts E (fun i => some (i * n, n)) ps.toList).map (.build z.cells)
      | none => none
    | _, _ => none
  | .buildSlice t len ps => match E.P.underlying t with
    | some (.slice e) => match szOf E.P e, zeroV E.P e with
      | some n, some z => if len * n ≤ 16777216 ∧ z.cells.length = n ∧ 0 < n then (trParts E (fun i => some (i * n, n)) ps.toList).map (.bslice (E.tm e) len (repl len z.cells)) else none
      | _, _ => none
    | _ => none
  | .load t a => match trOpd E a, szOf E.P t, E.P.underlying t with
    | some x, some n, some _ => some (if isAgg E.P t then .ldn n x else .ld x)
    | _, _, _ => none
  | .store t a v => match trOpd E a, trOpd E v, szOf E.P t with
    | some x, some y, some n => some (.st n x y)
    | _, _, _ => none
  | .fieldAddr s x f => match E.P.underlying s, trOpd E x with
    | some (.struct fs), some y => match fs[f]? with
      | some fd => match szOf E.P fd.type with
        | some n => if n = 0 then none else some (.fa fd.offset y)
        | none => none
      | none => none
    | _, _ => none
  | .indexAddr t x i => match E.P.underlying t, trOpd E x, trOpd E i with
    | some (.slice e), some y, some j => (szOf E.P e).map fun n => .ias n y j
    | some (.array len e), some y, some j => (szOf E.P e).map fun n => .iaa len n y j
    | _, _, _ => none
  | .field t x f => match E.P.underlying t, trOpd E x with
    | some (.struct fs), some y => match fs[f]? with
      | some fd => match szOf E.P fd.type, E.P.underlying fd.type with
        | some n, some _ => some (if isAgg E.P fd.type then .fldn fd.offset n y else .fld fd.offset y)
        | _, _ => none
      | none => none
    | _, _ => none
  | .index t x i => match E.P.underlying t, trOpd E x, trOpd E i with
    | some .string, some y, some j => some (.idxs y j)
    | some (.array len e), some y, some j => match szOf E.P e, E.P.underlying e with
      | some 1, some _ => if isAgg E.P e then none else some (.idxa len y j)
      | _, _ => none
    | _, _, _ => none
  | .extract x i => (trOpd E x).map (.ext i)
  | .binOp op t x y _ => trBin E op t x y
  | .unOp op _ x => (trOpd E x).map (.un op)
  | .convert s d x => trConv E s d x
  | .makeFunc (.func f) p q => match E.fm f, trOpds E p.toList, trOpds E q.toList with
    | some g, some l, some m => some (.mkf g l m)
    | _, _, _ => none
  | .makeMap t none => match E.P.underlying t with
    | some (.map _ _) => some .mkm
    | _ => none
  | .makeSlice t l c => match E.P.underlying t, trOpd E l, trOpd E c with
    | some (.slice e), some a, some b => match szOf E.P e, zeroV E.P e, (E.P.info? e).map (·.bytes) with
      | some n, some z, some k => if z.cells.length = n ∧ 0 < n ∧ k ≤ 1024 then some (.mks (E.tm e) z.cells a b) else none
      | _, _, _ => none
    | _, _, _ => none
  | .slice t x lo hi mx => trSlice E t x lo hi mx
  | .lookup t x k ok => match E.P.underlying t, trOpd E x, trOpd E k with
    | some (.map kt e), some a, some b => match keyTag E.P kt, zeroV E.P e with
      | some tag, some z => some (.lkup tag ok z a b)
      | _, _ => none
    | _, _, _ => none
  | .mapUpdate t x k v => match E.P.underlying t, trOpd E x, trOpd E k, trOpd E v with
    | some (.map kt _), some a, some b, some c => (keyTag E.P kt).map fun tag => .mupd tag a b c
    | _, _, _, _ => none
  | .makeInterface t x => match E.P.underlying t, trOpd E x with
    | some (.interface _), _ => none
    | some _, some a => some (.mif (E.tm t) a)
    | _, _ => none
  | .call c => trCall E c
  | _ => none

def trOp (E : Env) (op : Op) : IOp := (trOp? E op).getD .bad

def trOper (E : Env) (ops : Array Oper) (o : Oper) : IOper :=
  match o.guard with
  | none => { dst := o.dst, guard := none, op := trOp E o.op }
  | some (j, want) => match (ops[j]?).bind (·.dst) with
    | some d => { dst := o.dst, guard := some (d, want), op := trOp E o.op }
    | none => { dst := o.dst, guard := none, op := .bad }

/-! ## Regions that draw -/

def opdSlot : Opd → List Nat
  | .t i => [i]
  | _ => []

def opdsSlots (l : List Opd) : List Nat := l.flatMap opdSlot

def opdsOf : IOp → List Opd
  | .mv x | .nilck x | .box _ x | .ld x | .ldn _ x | .fa _ x | .fld _ x | .fldn _ _ x | .ext _ x | .un _ x | .cint _ x | .cid x | .cbs x | .csb _ x | .len x | .lens x | .lenm x | .mif _ x | .tas _ _ _ x | .clr _ x => [x]
  | .pick a b c | .mupd _ a b c => [a, b, c]
  | .alc .. | .lena _ | .mkm | .bad => []
  | .build _ ps | .bslice _ _ _ ps => ps.map (·.2.2)
  | .st _ x y | .ias _ x y | .iaa _ _ x y | .idxs x y | .idxa _ x y | .bin _ x y | .eq _ _ x y | .app _ _ _ x y | .cpy _ _ x y | .mks _ _ x y | .lkup _ _ _ x y => [x, y]
  | .slcs x lo hi => [x] ++ lo.toList ++ hi.toList
  | .slc _ x lo hi mx | .slca _ _ x lo hi mx => [x] ++ lo.toList ++ hi.toList ++ mx.toList
  | .call _ l | .mmax l | .mmin l => l
  | .callv x l => x :: l
  | .mkf _ l m => l ++ m

/-- The slots that an operation looks at. -/
def IOper.looks (o : IOper) : List Nat :=
  opdsSlots (opdsOf o.op) ++ (match o.guard with | some (d, _) => [d] | none => [])

def IOper.apart (x y : IOper) : Bool :=
  (match x.dst with | some d => !(y.looks.contains d) && y.dst != some d | none => true) &&
  (match y.dst with | some d => !(x.looks.contains d) | none => true)

def ancs : List Oper → List Nat → List Nat
  | [], acc => acc
  | o :: os, acc => ancs os (acc ++ [o.after.toList.foldl (fun s e => if Go.Region.binds .any e then s ||| 2 ^ e.on ||| acc.getD e.on 0 else s) 0])

def edgesOk : List Oper → Nat → Bool
  | [], _ => true
  | o :: os, i => (o.after.toList.all fun e => !Go.Region.binds .any e || decide (e.on < i)) && edgesOk os (i + 1)

/-- Two operations that no edge orders: their slots are apart; not two effects. -/
def pairOk (x y : IOper) : Bool := x.apart y && !(clsOf x.op == 3 && clsOf y.op == 3)

/-- Of the pairs that no edge orders those of a load and an effect. -/
def prsOf (anc : List Nat) (os : List IOper) : List (Nat × Nat) :=
  os.zipIdx.flatMap fun (y, j) => (os.take j).zipIdx.filterMap fun (x, i) =>
    if (anc.getD j 0).testBit i then none
    else if clsOf x.op == 1 && clsOf y.op == 3 then some (i, j)
    else if clsOf y.op == 1 && clsOf x.op == 3 then some (j, i)
    else none

/-- Of each effect the operations that make an object and come ahead of it by the edges. -/
def matsOf (anc : List Nat) (os : List IOper) : List (Nat × List Nat) :=
  os.zipIdx.filterMap fun (y, j) => if clsOf y.op == 3 then
    (let l := (os.take j).zipIdx.filterMap fun (x, i) => if clsOf x.op == 2 && (anc.getD j 0).testBit i then some i else none
     if l.isEmpty then none else some (j, l)) else none

def drawOk (anc : List Nat) (os : List IOper) : Bool :=
  os.zipIdx.all fun (y, j) => (os.take j).zipIdx.all fun (x, i) => (x.dst.isNone || x.dst != y.dst) && ((anc.getD j 0).testBit i || pairOk x y)

def trCode (E : Env) : Code → ICode
  | .skip => .skip
  | .region _ ops false => .reg (ops.toList.map (trOper E ops))
  | .region _ ops true =>
    let os := ops.toList.map (trOper E ops)
    let anc := ancs ops.toList []
    if E.P.follows .mixedOrders && edgesOk ops.toList 0 && drawOk anc os then .regD os (matsOf anc os) (prsOf anc os) else .bad
  | .seq a b => .seq (trCode E a) (trCode E b)
  | .cond c a b => match trOpd E c with
    | some x => .cond x (trCode E a) (trCode E b)
    | none => .bad
  | .block id b => .block id (trCode E b)
  | .loop b => .loop (trCode E b)
  | .rangeFunc f ps a b => match trOpd E f with
    | some x => .rng x ps.toList (trCode E a) (trCode E b)
    | none => .bad
  | .exit id => .exit id
  | .scope b => .scope (trCode E b)
  | .label _ => .skip
  | .goto _ => .bad
  | .ret => .ret
  | .refuse _ => .bad

def trRes (P : Program) : List Go.ResultVar → Option (List IRes)
  | [] => some []
  | .tmp i :: rs => (trRes P rs).map (.t i :: ·)
  | .cell i t :: rs => match szOf P t, P.underlying t, trRes P rs with
    | some n, some _, some l => some (.cell i (if isAgg P t then some n else none) :: l)
    | _, _, _ => none

def trFun (E : Env) (f : Go.Func) : Option IFun :=
  match f.body, trRes E.P f.results.toList with
  | some c, some rs => some { nt := f.ntmps, res := rs, body := trCode E c }
  | _, _ => none

/-! ## The heap -/

def jumpOf : Option Jump → Option Code
  | none => none
  | some .ret => some .ret
  | some (.exit k) => some (.exit k)

def stOf : Nat → Go.LoopState
  | 0 => .ready
  | 1 => .busy
  | 2 => .done
  | _ => .exhausted

/-- Cells: from cell x on as many as there are. -/
def CellsRel (E : Env) (ρ : Ren) (l : List V) (x : Nat) (c : Array Value) : Prop :=
  ∀ i v, l[i]? = some v → ∃ u, c[x + i]? = some u ∧ VRel E ρ v u

inductive MapRel (E : Env) (ρ : Ren) : List (V × V) → List Go.MapEntry → Prop where
  | nil : MapRel E ρ [] []
  | cons (k v : V) (e : Go.MapEntry) (l : List (V × V)) (es : List Go.MapEntry) (hk : VRel E ρ k e.key) (hv : VRel E ρ v e.val) (h : MapRel E ρ l es) : MapRel E ρ ((k, v) :: l) (e :: es)

def ORel (E : Env) (ρ : Ren) (o : Obj) (x tot : Nat) (b : Option Go.Obj) : Prop :=
  match o with
  | .cells ty l => ∃ c e lo hi, b = some (.cells c e (lo, hi)) ∧ E.tm e = ty ∧ l.length ≤ tot ∧ x + tot ≤ c.size ∧ (∀ i, x ≤ i → i < x + tot → ¬(lo ≤ i ∧ i < hi)) ∧ CellsRel E ρ l x c
  | .map es => ∃ cs clock, b = some (.map cs clock) ∧ MapRel E ρ es cs.toList
  | .loop r => ∃ (R : Go.Loop) (bd o tot : Nat), b = some (.loop R) ∧ R.state = stOf r.st ∧ R.pending = jumpOf r.pend ∧ VRels E ρ r.tmps R.tmps.toList ∧ R.params.toList = r.ps ∧
      trCode E R.assign = r.assign ∧ trCode E R.body = r.body ∧ ρ r.dfr = some (bd, o, tot) ∧ R.defers = bd
  | .dfr => b = some (.deferred (some []))

/-- The ideal heap 'g' (its next number 'nx') lies in the world 'w' by the renaming 'ρ'; below the first world's blocks nothing has turned. -/
structure Rel (E : Env) (ρ : Ren) (g : Nat → Option Obj) (nx : Nat) (w : World) : Prop where
  below : Below E.w0.heap.size E.w0 w
  obj : ∀ id o, g id = some o → ∃ b x tot, ρ id = some (b, x, tot) ∧ E.w0.heap.size ≤ b ∧ ORel E ρ o x tot w.heap[b]?
  inj : ∀ id id' o o' b x t x' t', g id = some o → g id' = some o' → ρ id = some (b, x, t) → ρ id' = some (b, x', t') → id = id'
  fresh : ∀ id, nx ≤ id → ρ id = none

theorem CellsRel.ext {E : Env} {ρ ρ' : Ren} (h : Ext ρ ρ') {l : List V} {x : Nat} {c : Array Value} (k : CellsRel E ρ l x c) : CellsRel E ρ' l x c :=
  fun i v hv => let ⟨u, h1, h2⟩ := k i v hv; ⟨u, h1, h2.ext h⟩

theorem MapRel.ext {E : Env} {ρ ρ' : Ren} (h : Ext ρ ρ') {l : List (V × V)} {es : List Go.MapEntry} (k : MapRel E ρ l es) : MapRel E ρ' l es := by
  induction k with
  | nil => exact .nil
  | cons k v e l es hk hv _ ih => exact .cons k v e l es (hk.ext h) (hv.ext h) ih

theorem ORel.ext {E : Env} {ρ ρ' : Ren} (h : Ext ρ ρ') {o : Obj} {x tot : Nat} {b : Option Go.Obj} (k : ORel E ρ o x tot b) : ORel E ρ' o x tot b := by
  unfold ORel at *
  cases o with
  | cells ty l => obtain ⟨c, e, lo, hi, h1, h2, h3, h4, h5, h6⟩ := k; exact ⟨c, e, lo, hi, h1, h2, h3, h4, h5, h6.ext h⟩
  | map es => obtain ⟨c, cl, h1, h2⟩ := k; exact ⟨c, cl, h1, h2.ext h⟩
  | loop r => obtain ⟨R, bd, o, tot, h1, h2, h3, h4, h5, h6, h7, h8, h9⟩ := k; exact ⟨R, bd, o, tot, h1, h2, h3, h4.ext h, h5, h6, h7, h _ _ h8, h9⟩
  | dfr => exact k

end Im
