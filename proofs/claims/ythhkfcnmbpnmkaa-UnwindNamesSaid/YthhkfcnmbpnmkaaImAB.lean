/- The machine once more, its slots in a tree: for Lean's kernel to run ('kcall'); what it answers the machine answers ('kcall_le'). -/
import Derived.Test.YthhkfcnmbpnmkaaImAA
namespace Im
open Go (IntKind BinOp UnOp)

def IOp.mapO (f : Opd → Opd) : IOp → IOp
  | .mv x => .mv (f x)
  | .pick c a b => .pick (f c) (f a) (f b)
  | .nilck x => .nilck (f x)
  | .box ty x => .box ty (f x)
  | .alc ty z => .alc ty z
  | .build z ps => .build z (ps.map fun p => (p.1, p.2.1, f p.2.2))
  | .bslice ty n z ps => .bslice ty n z (ps.map fun p => (p.1, p.2.1, f p.2.2))
  | .ld x => .ld (f x)
  | .ldn n x => .ldn n (f x)
  | .st n x v => .st n (f x) (f v)
  | .fa off x => .fa off (f x)
  | .ias e x i => .ias e (f x) (f i)
  | .iaa m e x i => .iaa m e (f x) (f i)
  | .fld off x => .fld off (f x)
  | .fldn off n x => .fldn off n (f x)
  | .idxs x i => .idxs (f x) (f i)
  | .idxa m x i => .idxa m (f x) (f i)
  | .ext i x => .ext i (f x)
  | .bin op x y => .bin op (f x) (f y)
  | .eq neg q x y => .eq neg q (f x) (f y)
  | .un op x => .un op (f x)
  | .cint k x => .cint k (f x)
  | .cid x => .cid (f x)
  | .cbs x => .cbs (f x)
  | .csb ty x => .csb ty (f x)
  | .len x => .len (f x)
  | .lens x => .lens (f x)
  | .lena n => .lena n
  | .lenm x => .lenm (f x)
  | .slcs x lo hi => .slcs (f x) (lo.map f) (hi.map f)
  | .slc e x lo hi mx => .slc e (f x) (lo.map f) (hi.map f) (mx.map f)
  | .slca n e x lo hi mx => .slca n e (f x) (lo.map f) (hi.map f) (mx.map f)
  | .call g args => .call g (args.map f)
  | .callv x args => .callv (f x) (args.map f)
  | .app s ty e x y => .app s ty e (f x) (f y)
  | .cpy s e x y => .cpy s e (f x) (f y)
  | .clr z x => .clr z (f x)
  | .mkf g first caps => .mkf g (first.map f) (caps.map f)
  | .mks ty z l c => .mks ty z (f l) (f c)
  | .mkm => .mkm
  | .lkup kt ok z x k => .lkup kt ok z (f x) (f k)
  | .mupd kt x k v => .mupd kt (f x) (f k) (f v)
  | .mif t x => .mif t (f x)
  | .tas t ok z x => .tas t ok z (f x)
  | .mmax xs => .mmax (xs.map f)
  | .mmin xs => .mmin (xs.map f)
  | .bad => .bad

section
variable {t t' : List V} {f : Opd → Opd} (hf : ∀ x, eval t' (f x) = eval t x)
include hf

theorem evals_mapO (l : List Opd) : (l.map f).map (eval t') = l.map (eval t) := by
  rw [List.map_map]; exact List.map_congr_left fun x _ => hf x

theorem evalO_mapO (x : Option Opd) : evalO t' (x.map f) = evalO t x := by
  cases x with
  | none => rfl
  | some x => simp only [Option.map_some, evalO, hf]

theorem fillP_mapO : ∀ (ps : List (Nat × Nat × Opd)) (z : List V), fillP t' z (ps.map fun p => (p.1, p.2.1, f p.2.2)) = fillP t z ps
  | [], z => rfl
  | (off, n, x) :: ps, z => by
    simp only [List.map_cons, fillP, hf]
    split
    · exact fillP_mapO ps _
    · rfl

theorem iop_mapO {cf : CallF} {C : Cfg} {nid : Nat} {op : IOp} {H : Heap} : iop cf C nid (op.mapO f) t' H = iop cf C nid op t H := by
  cases op <;> simp only [IOp.mapO, iop, hf, evals_mapO hf, evalO_mapO hf, fillP_mapO hf]
end

/-! ## Slots in a tree -/

def kget (T : Tr V) (i : Nat) : V := (T.get i).getD .undef
def closeO (T : Tr V) : Opd → Opd
  | .t i => .c (kget T i)
  | x => x
def kset (nt : Nat) (T : Tr V) (d : Nat) (v : V) : Tr V := if d < nt then T.set d (some v) else T
def ksetD (nt : Nat) (T : Tr V) (d : Option Nat) (v : V) : Tr V :=
  match d with
  | some i => kset nt T i v
  | none => T
def kwanted (g : Option (Nat × Bool)) (T : Tr V) : Bool :=
  match g with
  | none => true
  | some (d, want) => match kget T d with
    | .bool b => b == want
    | _ => false
def kofl : List V → Nat → Tr V → Tr V
  | [], _, T => T
  | v :: vs, i, T => kofl vs (i + 1) (T.set i (some v))
def klist (nt : Nat) (T : Tr V) : List V := (List.range nt).map (kget T)

def kstep (cf : CallF) (C : Cfg) (nt nid : Nat) (o : IOper) (T : Tr V) (H : Heap) : Option (Tr V × Heap) :=
  if kwanted o.guard T then
    match iop cf C nid (o.op.mapO (closeO T)) [] H with
    | some (v, H') => some (ksetD nt T o.dst v, H')
    | none => none
  else some (ksetD nt T o.dst .undef, H)

def kops (cf : CallF) (C : Cfg) (nt : Nat) : List IOper → Tr V → Heap → Option (Tr V × Heap)
  | [], T, H => some (T, H)
  | o :: os, T, H => match kstep cf C nt H.next o T H with
    | some (T', H') => kops cf C nt os T' H'
    | none => none

structure KRec where
  t : Tr V
  v : V
  w : Bool
  A : Heap
  A' : Heap

def kdstep (cf : CallF) (C : Cfg) (nt base : Nat) (mats : List (Nat × List Nat)) (i : Nat) (o : IOper) (T : Tr V) (A : Heap) (pend : List (Nat × Obj)) : Option (KRec × Tr V × Heap × List (Nat × Obj)) :=
  if kwanted o.guard T then
    match clsOf o.op with
    | 0 | 1 => match iop cf C 0 (o.op.mapO (closeO T)) [] A with
      | some (v, _) => some (⟨T, v, true, A, A⟩, ksetD nt T o.dst v, A, pend)
      | none => none
    | 2 => match iop cf C (base + i) (o.op.mapO (closeO T)) [] Heap.empty with
      | some (v, H1) => match H1.get (base + i) with
        | some ob => some (⟨T, v, true, A, A⟩, ksetD nt T o.dst v, A, (i, ob) :: pend)
        | none => none
      | none => none
    | _ => match iop cf C (base + i) (o.op.mapO (closeO T)) [] (puts base A (pend.filter fun p => (matOf mats i).contains p.1)) with
      | some (v, H') => some (⟨T, v, true, A, H'⟩, ksetD nt T o.dst v, H', pend.filter fun p => !(matOf mats i).contains p.1)
      | none => none
  else some (⟨T, .undef, false, A, A⟩, ksetD nt T o.dst .undef, A, pend)

def kdrun (cf : CallF) (C : Cfg) (nt base : Nat) (mats : List (Nat × List Nat)) : List IOper → Nat → Tr V → Heap → List (Nat × Obj) → Option (List KRec × Tr V × Heap)
  | [], _, T, A, pend => some ([], T, puts base A pend)
  | o :: os, i, T, A, pend => match kdstep cf C nt base mats i o T A pend with
    | some (r, T', A', pend') => match kdrun cf C nt base mats os (i + 1) T' A' pend' with
      | some (rs, T'', H) => some (r :: rs, T'', H)
      | none => none
    | none => none

def kreads (C : Cfg) (o : IOper) (T : Tr V) (H : Heap) (v : V) : Bool :=
  match iop (fun _ _ _ => none) C 0 (o.op.mapO (closeO T)) [] H with
  | some (u, _) => V.beq u v
  | none => false

def kfloats (C : Cfg) (os : List IOper) (rs : List KRec) (p : Nat × Nat) : Bool :=
  match os[p.1]?, rs[p.1]?, rs[p.2]? with
  | some o, some l, some e => if l.w && e.w then kreads C o l.t e.A l.v && kreads C o l.t e.A' l.v else true
  | _, _, _ => false

def kregD (cf : CallF) (C : Cfg) (nt : Nat) (os : List IOper) (mats : List (Nat × List Nat)) (prs : List (Nat × Nat)) (T : Tr V) (H : Heap) : Option (Tr V × Heap) :=
  match kdrun cf C nt H.next mats os 0 T (H.bump os.length) [] with
  | some (rs, T', H') => if prs.all (kfloats C os rs) then some (T', H') else none
  | none => none

abbrev KOut := Option (IExit × Tr V × Heap × List Nat)

def kiter (b : Tr V → Heap → List Nat → KOut) : Nat → Tr V → Heap → List Nat → KOut
  | 0, _, _, _ => none
  | k + 1, T, H, d => match b T H d with
    | some (.nrm, T', H', d') => kiter b k T' H' d'
    | r => r

def kexec (cf : CallF) (C : Cfg) (n nt : Nat) (ro : Option Nat) : ICode → Tr V → Heap → List Nat → KOut
  | .skip, T, H, d => some (.nrm, T, H, d)
  | .reg os, T, H, d => match kops cf C nt os T H with
    | some (T', H') => some (.nrm, T', H', d)
    | none => none
  | .regD os mats prs, T, H, d => match kregD cf C nt os mats prs T H with
    | some (T', H') => some (.nrm, T', H', d)
    | none => none
  | .seq a b, T, H, d => match kexec cf C n nt ro a T H d with
    | some (.nrm, T', H', d') => kexec cf C n nt ro b T' H' d'
    | r => r
  | .cond c a b, T, H, d => match eval [] (closeO T c) with
    | .bool true => kexec cf C n nt ro a T H d
    | .bool false => kexec cf C n nt ro b T H d
    | _ => none
  | .block id b, T, H, d => match kexec cf C n nt ro b T H d with
    | some (.ex k, T', H', d') => if k = id then some (.nrm, T', H', d') else some (.ex k, T', H', d')
    | r => r
  | .loop b, T, H, d => kiter (kexec cf C n nt ro b) n T H d
  | .rng f ps a b, T, H, d => match irng cf ro (eval [] (closeO T f)) ps a b (klist nt T) H d with
    | some (e, _, H', d') => some (e, T, H', d')
    | none => none
  | .exit id, T, H, d => some (.ex id, T, H, d)
  | .scope b, T, H, d => kexec cf C n nt ro b T H d
  | .ret, T, H, d => some (.rt, T, H, d)
  | .bad, _, _, _ => none

def kresOne (C : Cfg) (nt : Nat) (T : Tr V) (H : Heap) : IRes → Option V
  | .t i => if i < nt then some (kget T i) else none
  | .cell i n => match kget T i with
    | .ptr a => match n with
      | none => H.cellsAt C a 0
      | some n => (H.loadN C a 0 n).map .agg
    | _ => none

def kresAll (C : Cfg) (nt : Nat) (T : Tr V) (H : Heap) : List IRes → Option (List V)
  | [] => some []
  | r :: rs => match kresOne C nt T H r, kresAll C nt T H rs with
    | some v, some l => some (v :: l)
    | _, _ => none

def kfun (cf : CallF) (C : Cfg) (n : Nat) (F : IFun) (args : List V) (H : Heap) : Option (V × Heap) :=
  if args.length ≤ F.nt then
    match kexec cf C n F.nt none F.body (kofl args 0 .nil) H [] with
    | some (.nrm, T, H', d) | some (.rt, T, H', d) => match takeMarks d H' with
      | some H'' => match kresAll C F.nt T H'' F.res with
        | some [v] => some (v, H'')
        | some l => some (.tup l, H'')
        | none => none
      | none => none
    | _ => none
  else none

def ksetMany (nt : Nat) : Tr V → List Nat → List V → Tr V
  | T, p :: ps, v :: vs => ksetMany nt (kset nt T p v) ps vs
  | T, _, _ => T

def krnd (cf : CallF) (C : Cfg) (n : Nat) (l : Nat) (args : List V) (H : Heap) : Option (V × Heap) :=
  match H.get l with
  | some (.loop r) =>
    if args.length ≠ r.ps.length then none else
    match kexec cf C n r.tmps.length (some l) r.assign (ksetMany r.tmps.length (kofl r.tmps 0 .nil) r.ps args) H [] with
    | some (.nrm, T1, H1, []) => match H1.get l with
      | some (.loop r1) =>
        if r1.st ≠ 0 then none else
        match kexec cf C n r.tmps.length (some l) r.body T1 (H1.put l (.loop { r1 with st := 1 })) [] with
        | some (e, _, H3, []) => endRnd l e H3
        | _ => none
      | _ => none
    | _ => none
  | _ => none

def kcall (C : Cfg) : Nat → CallF
  | 0 => fun _ _ _ => none
  | n + 1 => fun c args H =>
    match c with
    | .fn f => match C.prim f with
      | some p => p args H
      | none => match C.fns f with
        | some F => kfun (kcall C n) C n F args H
        | none => none
    | .rnd l => krnd (kcall C n) C n l args H

/-! ## They agree -/

structure SR (nt : Nat) (T : Tr V) (t : List V) : Prop where
  len : t.length = nt
  get : ∀ i, kget T i = (t[i]?).getD .undef

theorem SR.eval {nt : Nat} {T : Tr V} {t : List V} (h : SR nt T t) (x : Opd) : Im.eval [] (closeO T x) = Im.eval t x := by
  cases x <;> simp only [closeO, Im.eval]
  rw [h.get]

theorem SR.set {nt : Nat} {T : Tr V} {t : List V} (h : SR nt T t) (d : Nat) (v : V) : SR nt (kset nt T d v) (t.set d v) := by
  refine ⟨by simp [h.len], fun i => ?_⟩
  unfold kset
  by_cases hd : d < nt
  · rw [if_pos hd]
    unfold kget
    rw [Tr.get_set]
    by_cases e : i = d
    · subst e
      rw [if_pos rfl, List.getElem?_set_self (by rw [h.len]; exact hd)]; try rfl
    · rw [if_neg e, List.getElem?_set_ne (Ne.symm e)]; exact h.get i
  · rw [if_neg hd, List.set_eq_of_length_le (by rw [h.len]; omega)]; exact h.get i

theorem SR.setD {nt : Nat} {T : Tr V} {t : List V} (h : SR nt T t) (d : Option Nat) (v : V) : SR nt (ksetD nt T d v) (Im.setD t d v) := by
  cases d with
  | none => exact h
  | some d => exact h.set d v

theorem SR.wanted {nt : Nat} {T : Tr V} {t : List V} (h : SR nt T t) (g : Option (Nat × Bool)) : kwanted g T = Im.wanted g t := by
  unfold kwanted Im.wanted
  cases g with
  | none => rfl
  | some p =>
    obtain ⟨d, w⟩ := p
    simp only
    rw [h.get]
    cases t[d]? with
    | none => simp [V.undef]
    | some v => cases v <;> rfl

theorem SR.list {nt : Nat} {T : Tr V} {t : List V} (h : SR nt T t) : klist nt T = t := by
  apply List.ext_getElem?
  intro i
  unfold klist
  rw [List.getElem?_map]
  rcases Nat.lt_or_ge i nt with h1 | h1
  · rw [List.getElem?_range h1]
    simp only [Option.map_some]
    rw [h.get, List.getElem?_eq_getElem (by rw [h.len]; exact h1)]; rfl
  · rw [List.getElem?_eq_none (by simpa using h1), List.getElem?_eq_none (by rw [h.len]; exact h1)]; rfl

theorem kofl_get : ∀ (l : List V) (i : Nat) (T : Tr V) (j : Nat), (kofl l i T).get j = if i ≤ j ∧ j < i + l.length then l[j - i]? else T.get j
  | [], i, T, j => by simp [kofl]; omega
  | v :: l, i, T, j => by
    simp only [kofl]
    rw [kofl_get l (i + 1) _ j, Tr.get_set]
    by_cases e : j = i
    · subst e
      rw [if_neg (by omega), if_pos rfl, if_pos (by simp)]; simp
    · rw [if_neg e]
      by_cases h : i ≤ j ∧ j < i + (v :: l).length
      · rw [if_pos h, if_pos (by simp at h ⊢; omega)]
        have : j - i = (j - (i + 1)) + 1 := by omega
        rw [this, List.getElem?_cons_succ]
      · rw [if_neg h, if_neg (by simp at h ⊢; omega)]

theorem SR.init {nt : Nat} {args : List V} (h : args.length ≤ nt) : SR nt (kofl args 0 .nil) (args ++ List.replicate (nt - args.length) .undef) := by
  refine ⟨by simp; omega, fun i => ?_⟩
  unfold kget
  rw [kofl_get]
  rcases Nat.lt_or_ge i args.length with h1 | h1
  · rw [if_pos (by omega), List.getElem?_append_left h1]; rfl
  · rw [if_neg (by omega), List.getElem?_append_right h1]
    simp only [Tr.get]
    rw [List.getElem?_replicate]
    split <;> rfl

theorem SR.full (t : List V) : SR t.length (kofl t 0 .nil) t := by
  have := SR.init (nt := t.length) (args := t) (Nat.le_refl _)
  simpa using this

theorem SR.setMany {nt : Nat} : ∀ (ps : List Nat) (vs : List V) {T : Tr V} {t : List V}, SR nt T t → SR nt (ksetMany nt T ps vs) (Im.setMany t ps vs)
  | [], _, _, _, h => by simpa [ksetMany, Im.setMany] using h
  | _ :: _, [], _, _, h => by simpa [ksetMany, Im.setMany] using h
  | p :: ps, v :: vs, T, t, h => by simp only [ksetMany, Im.setMany]; exact SR.setMany ps vs (h.set p v)

section
variable {a b : CallF} (hab : Le a b) {C : Cfg} {nt : Nat}

include hab in
theorem SR.iop {T : Tr V} {t : List V} (h : SR nt T t) {nid : Nat} {op : IOp} {H : Heap} {r : V × Heap} (k : Im.iop a C nid (op.mapO (closeO T)) [] H = some r) : Im.iop b C nid op t H = some r := by
  rw [iop_mapO (t := t) (t' := []) (f := closeO T) h.eval] at k
  exact iop_le hab k

include hab in
theorem kstep_eq {T : Tr V} {t : List V} (h : SR nt T t) {nid : Nat} {o : IOper} {H : Heap} {T' : Tr V} {H' : Heap} (k : kstep a C nt nid o T H = some (T', H')) : ∃ t', istep b C nid o t H = some (t', H') ∧ SR nt T' t' := by
  unfold kstep at k
  unfold istep
  rw [h.wanted] at k
  split at k
  · rename_i hw
    rw [if_pos hw]
    split at k <;> try (cases k; done)
    rename_i v H1 h1
    rw [h.iop hab h1]
    cases k
    exact ⟨_, rfl, h.setD _ _⟩
  · rename_i hw
    rw [if_neg hw]
    cases k
    exact ⟨_, rfl, h.setD _ _⟩

include hab in
theorem kops_eq : ∀ (l : List IOper) {T : Tr V} {t : List V} (_ : SR nt T t) {H : Heap} {T' : Tr V} {H' : Heap} (_ : kops a C nt l T H = some (T', H')), ∃ t', iops b C l t H = some (t', H') ∧ SR nt T' t'
  | [], T, t, h, H, T', H', k => by simp only [kops] at k; cases k; exact ⟨t, rfl, h⟩
  | o :: l, T, t, h, H, T', H', k => by
    simp only [kops] at k
    split at k <;> try (cases k; done)
    rename_i T1 H1 h1
    obtain ⟨t1, e1, s1⟩ := kstep_eq hab h h1
    obtain ⟨t2, e2, s2⟩ := kops_eq l s1 k
    exact ⟨t2, by simp only [iops, e1, e2], s2⟩

/-- The records agree. -/
structure RR (nt : Nat) (x : KRec) (y : Rec) : Prop where
  t : SR nt x.t y.t
  v : x.v = y.v
  w : x.w = y.w
  A : x.A = y.A
  A' : x.A' = y.A'

include hab in
theorem kdstep_eq {T : Tr V} {t : List V} (h : SR nt T t) {base : Nat} {mats : List (Nat × List Nat)} {i : Nat} {o : IOper} {A : Heap} {pend : List (Nat × Obj)} {x : KRec} {T' : Tr V} {A' : Heap} {pend' : List (Nat × Obj)}
    (k : kdstep a C nt base mats i o T A pend = some (x, T', A', pend')) : ∃ y t', dstep b C base mats i o t A pend = some (y, t', A', pend') ∧ SR nt T' t' ∧ RR nt x y := by
  unfold kdstep at k
  unfold dstep
  rw [h.wanted] at k
  split at k
  · rename_i hw
    rw [if_pos hw]
    generalize hcl : clsOf o.op = c at k ⊢
    rcases c with _ | _ | _ | c <;> simp only at k ⊢ <;> split at k <;> try (cases k; done)
    · rename_i v H1 h1
      rw [h.iop hab h1]; cases k
      exact ⟨_, _, rfl, h.setD _ _, ⟨h, rfl, rfl, rfl, rfl⟩⟩
    · rename_i v H1 h1
      rw [h.iop hab h1]; cases k
      exact ⟨_, _, rfl, h.setD _ _, ⟨h, rfl, rfl, rfl, rfl⟩⟩
    · rename_i v H1 h1
      rw [h.iop hab h1]
      simp only
      split at k <;> try (cases k; done)
      rename_i ob h2
      rw [h2]
      cases k
      exact ⟨_, _, rfl, h.setD _ _, ⟨h, rfl, rfl, rfl, rfl⟩⟩
    · rename_i v H1 h1
      rw [h.iop hab h1]; cases k
      exact ⟨_, _, rfl, h.setD _ _, ⟨h, rfl, rfl, rfl, rfl⟩⟩
  · rename_i hw
    rw [if_neg hw]; cases k
    exact ⟨_, _, rfl, h.setD _ _, ⟨h, rfl, rfl, rfl, rfl⟩⟩

inductive RRs (nt : Nat) : List KRec → List Rec → Prop where
  | nil : RRs nt [] []
  | cons (x : KRec) (y : Rec) (l : List KRec) (m : List Rec) (h : RR nt x y) (hl : RRs nt l m) : RRs nt (x :: l) (y :: m)

omit hab in
theorem RRs.get {l : List KRec} {m : List Rec} (h : RRs nt l m) : ∀ (i : Nat) (x : KRec), l[i]? = some x → ∃ y, m[i]? = some y ∧ RR nt x y := by
  induction h with
  | nil => intro i x h; simp at h
  | cons x y l m h _ ih =>
    intro i z hz
    cases i with
    | zero => simp at hz; subst hz; exact ⟨y, rfl, h⟩
    | succ i => exact ih i z (by simpa using hz)

include hab in
theorem kdrun_eq {base : Nat} {mats : List (Nat × List Nat)} : ∀ (os : List IOper) (i : Nat) {T : Tr V} {t : List V} (_ : SR nt T t) {A : Heap} {pend : List (Nat × Obj)} {xs : List KRec} {T' : Tr V} {H' : Heap},
    kdrun a C nt base mats os i T A pend = some (xs, T', H') → ∃ ys t', drun b C base mats os i t A pend = some (ys, t', H') ∧ SR nt T' t' ∧ RRs nt xs ys
  | [], i, T, t, h, A, pend, xs, T', H', k => by simp only [kdrun] at k; cases k; exact ⟨[], t, rfl, h, .nil⟩
  | o :: os, i, T, t, h, A, pend, xs, T', H', k => by
    simp only [kdrun] at k
    split at k <;> try (cases k; done)
    rename_i x T1 A1 pend1 h1
    split at k <;> try (cases k; done)
    rename_i xs1 T2 H2 h2
    cases k
    obtain ⟨y, t1, e1, s1, r1⟩ := kdstep_eq hab h h1
    obtain ⟨ys, t2, e2, s2, r2⟩ := kdrun_eq os (i + 1) s1 h2
    exact ⟨y :: ys, t2, by simp only [drun, e1, e2], s2, .cons _ _ _ _ r1 r2⟩

omit hab in
theorem kreads_eq {T : Tr V} {t : List V} (h : SR nt T t) (o : IOper) (H : Heap) (v : V) : kreads C o T H v = reads C o t H v := by
  unfold kreads reads
  rw [iop_mapO (t := t) (t' := []) (f := closeO T) h.eval]
  rfl

omit hab in
theorem kfloats_eq {xs : List KRec} {ys : List Rec} (h : RRs nt xs ys) (os : List IOper) (p : Nat × Nat) (k : kfloats C os xs p = true) : floats C os ys p = true := by
  unfold kfloats at k
  split at k <;> try (cases k; done)
  rename_i o l e ho hl he
  obtain ⟨l', h1, r1⟩ := h.get _ _ hl
  obtain ⟨e', h2, r2⟩ := h.get _ _ he
  unfold floats
  rw [ho, h1, h2]
  simp only
  rw [← r1.w, ← r2.w, ← r2.A, ← r2.A', ← r1.v, ← kreads_eq r1.t, ← kreads_eq r1.t]
  exact k

include hab in
theorem kregD_eq {T : Tr V} {t : List V} (h : SR nt T t) {os : List IOper} {mats : List (Nat × List Nat)} {prs : List (Nat × Nat)} {H : Heap} {T' : Tr V} {H' : Heap} (k : kregD a C nt os mats prs T H = some (T', H')) :
    ∃ t', iregD b C os mats prs t H = some (t', H') ∧ SR nt T' t' := by
  unfold kregD at k
  split at k <;> try (cases k; done)
  rename_i xs T1 H1 h1
  split at k <;> try (cases k; done)
  rename_i hfl
  cases k
  obtain ⟨ys, t1, e1, s1, r1⟩ := kdrun_eq hab os 0 h h1
  refine ⟨t1, ?_, s1⟩
  unfold iregD
  rw [e1]
  simp only
  rw [if_pos]
  exact List.all_eq_true.2 fun p hp => kfloats_eq r1 os p (List.all_eq_true.1 hfl p hp)

include hab in
theorem kexec_eq {N : Nat} {ro : Option Nat} : ∀ (c : ICode) {T : Tr V} {t : List V} (_ : SR nt T t) {H : Heap} {d : List Nat} {e : IExit} {T' : Tr V} {H' : Heap} {d' : List Nat}, kexec a C N nt ro c T H d = some (e, T', H', d') →
    ∃ t', exec b C N ro c t H d = some (e, t', H', d') ∧ SR nt T' t' := by
  intro c
  induction c with
  | skip | exit _ | ret => intro T t h H d e T' H' d' k; simp only [kexec] at k; cases k; exact ⟨t, rfl, h⟩
  | bad => intro T t h H d e T' H' d' k; simp only [kexec] at k; cases k
  | reg os =>
    intro T t h H d e T' H' d' k
    simp only [kexec] at k
    split at k <;> try (cases k; done)
    rename_i h1
    cases k
    obtain ⟨t1, e1, s1⟩ := kops_eq hab os h h1
    exact ⟨t1, by simp only [exec, e1], s1⟩
  | regD os mats prs =>
    intro T t h H d e T' H' d' k
    simp only [kexec] at k
    split at k <;> try (cases k; done)
    rename_i h1
    cases k
    obtain ⟨t1, e1, s1⟩ := kregD_eq hab h h1
    exact ⟨t1, by simp only [exec, e1], s1⟩
  | seq x y ihx ihy =>
    intro T t h H d e T' H' d' k
    simp only [kexec] at k
    split at k
    · rename_i h1
      obtain ⟨t1, e1, s1⟩ := ihx h h1
      obtain ⟨t2, e2, s2⟩ := ihy s1 k
      exact ⟨t2, by simp only [exec, e1, e2], s2⟩
    · rename_i hne
      obtain ⟨t1, e1, s1⟩ := ihx h k
      refine ⟨t1, ?_, s1⟩
      simp only [exec, e1]
      cases e with
      | nrm => exact absurd k (hne _ _ _)
      | ex j => rfl
      | rt => rfl
  | cond x y z ihy ihz =>
    intro T t h H d e T' H' d' k
    simp only [kexec] at k
    rw [h.eval] at k
    split at k <;> try (cases k; done)
    · rename_i h1
      obtain ⟨t1, e1, s1⟩ := ihy h k
      exact ⟨t1, by simp only [exec, h1, e1], s1⟩
    · rename_i h1
      obtain ⟨t1, e1, s1⟩ := ihz h k
      exact ⟨t1, by simp only [exec, h1, e1], s1⟩
  | block id x ih =>
    intro T t h H d e T' H' d' k
    simp only [kexec] at k
    split at k
    · rename_i j T1 H1 d1 h1
      obtain ⟨t1, e1, s1⟩ := ih h h1
      split at k
      · rename_i hj
        cases k
        exact ⟨t1, by simp only [exec, e1, if_pos hj], s1⟩
      · rename_i hj
        cases k
        exact ⟨t1, by simp only [exec, e1, if_neg hj], s1⟩
    · rename_i hne
      obtain ⟨t1, e1, s1⟩ := ih h k
      refine ⟨t1, ?_, s1⟩
      simp only [exec, e1]
      cases e with
      | nrm => rfl
      | ex j => exact absurd k (hne _ _ _ _)
      | rt => rfl
  | scope x ih =>
    intro T t h H d e T' H' d' k
    simp only [kexec] at k
    obtain ⟨t1, e1, s1⟩ := ih h k
    exact ⟨t1, by simp only [exec, e1], s1⟩
  | loop x ih =>
    intro T t h H d e T' H' d' k
    simp only [kexec] at k
    simp only [exec]
    have key : ∀ (n : Nat) {T : Tr V} {t : List V} (_ : SR nt T t) {H : Heap} {d : List Nat}, kiter (kexec a C N nt ro x) n T H d = some (e, T', H', d') → ∃ t', iter (exec b C N ro x) n t H d = some (e, t', H', d') ∧ SR nt T' t' := by
      intro n
      induction n with
      | zero => intro T t _ H d k; simp only [kiter] at k; cases k
      | succ n ihn =>
        intro T t h H d k
        simp only [kiter] at k
        split at k
        · rename_i h1
          obtain ⟨t1, e1, s1⟩ := ih h h1
          obtain ⟨t2, e2, s2⟩ := ihn s1 k
          exact ⟨t2, by simp only [iter, e1, e2], s2⟩
        · rename_i hne
          obtain ⟨t1, e1, s1⟩ := ih h k
          refine ⟨t1, ?_, s1⟩
          simp only [iter, e1]
          cases e with
          | nrm => exact absurd k (hne _ _ _)
          | ex j => rfl
          | rt => rfl
    exact key N h k
  | rng f ps x y _ _ =>
    intro T t h H d e T' H' d' k
    simp only [kexec] at k
    rw [h.eval, h.list] at k
    split at k <;> try (cases k; done)
    rename_i e1 t1 H1 d1 h1
    cases k
    have h2 := irng_le hab h1
    have ht : t1 = t := by
      unfold irng at h2
      split at h2 <;> try (cases h2; done)
      simp only at h2
      split at h2 <;> try (cases h2; done)
      split at h2 <;> try (cases h2; done)
      split at h2 <;> try (cases h2; done)
      split at h2 <;> try (cases h2; done)
      split at h2 <;> cases h2 <;> rfl
    subst ht
    exact ⟨_, by simp only [exec]; exact h2, h⟩

omit hab in
theorem kresAll_eq {T : Tr V} {t : List V} (h : SR nt T t) {H : Heap} : ∀ (rs : List IRes) {l : List V}, kresAll C nt T H rs = some l → resAll C t H rs = some l
  | [], l, k => by simpa [kresAll, resAll] using k
  | r :: rs, l, k => by
    simp only [kresAll] at k
    split at k <;> try (cases k; done)
    rename_i v l' h1 h2
    have h3 : resOne C t H r = some v := by
      cases r with
      | t i =>
        simp only [kresOne] at h1
        split at h1 <;> try (cases h1; done)
        rename_i hi
        rw [h.get, List.getElem?_eq_getElem (by rw [h.len]; exact hi)] at h1
        simp only [resOne]
        rw [List.getElem?_eq_getElem (by rw [h.len]; exact hi)]
        simpa using h1
      | cell i n =>
        simp only [kresOne] at h1
        rw [h.get] at h1
        simp only [resOne]
        cases ht : t[i]? with
        | none => rw [ht] at h1; simp [V.undef] at h1
        | some u =>
          rw [ht] at h1
          simp only [Option.getD_some] at h1
          cases u <;> simp only at h1 ⊢ <;> first | exact h1 | (cases h1)
    simp only [resAll, h3, kresAll_eq h rs h2]
    exact k

include hab in
theorem kfun_eq {N : Nat} {F : IFun} {args : List V} {H : Heap} {r : V × Heap} (k : kfun a C N F args H = some r) : ifun b C N F args H = some r := by
  unfold kfun at k
  split at k <;> try (cases k; done)
  rename_i hle
  have hi := SR.init (nt := F.nt) hle
  have go : ∀ (x : IExit) T H1 d, kexec a C N F.nt none F.body (kofl args 0 .nil) H [] = some (x, T, H1, d) →
      (match takeMarks d H1 with
      | some H'' => match kresAll C F.nt T H'' F.res with
        | some [v] => some (v, H'')
        | some l => some (.tup l, H'')
        | none => none
      | none => none) = some r → ∃ t, exec b C N none F.body (args ++ List.replicate (F.nt - args.length) .undef) H [] = some (x, t, H1, d) ∧
      (match takeMarks d H1 with
      | some H'' => match results C F.res t H'' with
        | some v => some (v, H'')
        | none => none
      | none => none) = some r := by
    intro x T H1 d h1 h
    obtain ⟨t, e1, s1⟩ := kexec_eq hab F.body hi h1
    refine ⟨t, e1, ?_⟩
    split at h <;> try (cases h; done)
    unfold results
    split at h <;> try (cases h; done)
    · rename_i h2
      rw [kresAll_eq s1 _ h2]; exact h
    · rename_i l hne h2
      rw [kresAll_eq s1 _ h2]
      split
      · rename_i heq
        split at heq
        · rename_i h5
          cases h5
          exact (hne _ rfl).elim
        · cases heq; rename_i h5; cases h5; exact h
        · cases heq
      · rename_i heq
        split at heq <;> cases heq <;> simp_all
  unfold ifun
  split at k <;> try (cases k; done)
  · rename_i h1
    obtain ⟨t, e1, e2⟩ := go _ _ _ _ h1 k
    rw [e1]; exact e2
  · rename_i h1
    obtain ⟨t, e1, e2⟩ := go _ _ _ _ h1 k
    rw [e1]; exact e2

include hab in
theorem krnd_eq {N l : Nat} {args : List V} {H : Heap} {r : V × Heap} (k : krnd a C N l args H = some r) : irnd b C N l args H = some r := by
  unfold krnd at k
  unfold irnd
  split at k <;> try (cases k; done)
  rename_i rr hg
  split at k <;> try (cases k; done)
  rename_i hl
  rw [hg]
  simp only
  rw [if_neg hl]
  split at k <;> try (cases k; done)
  rename_i T1 H1 h1
  obtain ⟨t1, e1, s1⟩ := kexec_eq hab _ (SR.setMany rr.ps args (SR.full rr.tmps)) h1
  rw [e1]
  simp only
  split at k <;> try (cases k; done)
  rename_i hg1
  rw [hg1]
  simp only
  split at k <;> try (cases k; done)
  rename_i hs
  rw [if_neg hs]
  split at k <;> try (cases k; done)
  rename_i h2
  obtain ⟨t2, e2, s2⟩ := kexec_eq hab _ s1 h2
  rw [e2]; exact k

end

theorem kcall_le (C : Cfg) : ∀ n, Le (kcall C n) (icall C n)
  | 0 => fun c args H r h => by simp only [kcall] at h; cases h
  | n + 1 => fun c args H r h => by
    have ih := kcall_le C n
    rw [kcall] at h
    rw [icall]
    cases c with
    | fn f =>
      simp only at h ⊢
      split at h
      · rename_i hp; rw [hp]; exact h
      · rename_i hp
        rw [hp]
        simp only
        split at h <;> try (cases h; done)
        rename_i hF
        rw [hF]
        exact kfun_eq ih h
    | rnd l => exact krnd_eq ih h

end Im
