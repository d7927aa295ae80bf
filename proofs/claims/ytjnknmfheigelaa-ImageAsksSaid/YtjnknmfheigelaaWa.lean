/- Contracts of the functions that ImageAsks reaches, first part: lists that are compared, what is great. No condition. -/
import Derived.Test.YtjnknmfheigelaaIr
import Derived.Test.YtjnknmfheigelaaP2
namespace Im.Seat

structure Ok (C : Cfg) : Prop where
  fns : C.fns = Im.look irTab
  prim : ∀ f, C.prim f = none

def encT (x : Int × Int × Int) : List V := [.int .i64 x.1, .int .i64 x.2.1, .int .i64 x.2.2]

abbrev Sig := List Int × List Int
abbrev Fun := List UInt8 × Sig × List Int × List (Int × Int × Int)
noncomputable instance : DecidableEq Fun := fun _ _ => Classical.propDecidable _
abbrev Img := List (List Int) × List Fun

def RL (C : Cfg) (H : Heap) (S : Nat → Prop) (l : List Int) (c : List V) : Prop := ∃ v, c = [v] ∧ Ls C H S 1 encI v l
def RSig (C : Cfg) (H : Heap) (S : Nat → Prop) (g : Sig) (c : List V) : Prop := ∃ va vr, c = [va, vr] ∧ Ls C H S 1 encI va g.1 ∧ Ls C H S 1 encI vr g.2
def RFun (C : Cfg) (H : Heap) (S : Nat → Prop) (f : Fun) (c : List V) : Prop :=
  ∃ va vr vl vb, c = [.str f.1, va, vr, vl, vb] ∧ Ls C H S 1 encI va f.2.1.1 ∧ Ls C H S 1 encI vr f.2.1.2 ∧ Ls C H S 1 encI vl f.2.2.1 ∧ Ls C H S 3 encT vb f.2.2.2
def RImg (C : Cfg) (H : Heap) (S : Nat → Prop) (p : Img) (c : List V) : Prop :=
  ∃ vs vf ss ff, c = [vs, vf] ∧ Sl C H S 1 vs ss ∧ All2 (RL C H S) p.1 ss ∧ Sl C H S 5 vf ff ∧ All2 (RFun C H S) p.2 ff

def bigSig (g : Sig) : Prop := g.1.length > 100 ∨ g.2.length > 100
def bigFun (f : Fun) : Prop := f.1.length > 100 ∨ f.2.2.1.length > 100 ∨ f.2.2.2.length > 600 ∨ bigSig f.2.1
structure Fine (p : Img) : Prop where
  shapes : p.1.length ≤ 70
  funs : p.2.length ≤ 70
  shape : ∀ l ∈ p.1, l.length ≤ 100
  fn : ∀ f ∈ p.2, ¬ bigFun f

section
variable {C : Cfg} {fs : Fs} {nid : Nat} {H : Heap} {R : V → Heap → Prop}
theorem OpR.iasRL {x i : Opd} {H0 : Heap} {S : Nat → Prop} {v : V} {cs : List (List V)} {xs : List (List Int)} {kd : Go.IntKind} {m : Nat} (hx : ev fs x = some v) (hi : ev fs i = some (.int kd (m : Nat))) (h : Sl C H0 S 1 v cs) (hr : All2 (RL C H0 S) xs cs) (hm : m < xs.length)
    (k : ∀ a w, a.At S → H0.loadN C a 0 1 = some [w] → Ls C H0 S 1 encI w xs[m] → R (.ptr a) H) : OpR C fs (.ias 1 x i) nid H R :=
  .iasA hx hi h hr hm fun a _ ha hl ⟨w, hc, hw⟩ => k a w ha (hc ▸ hl) hw
theorem OpR.iasRF {x i : Opd} {H0 : Heap} {S : Nat → Prop} {v : V} {cs : List (List V)} {xs : List Fun} {kd : Go.IntKind} {m : Nat} (hx : ev fs x = some v) (hi : ev fs i = some (.int kd (m : Nat))) (h : Sl C H0 S 5 v cs) (hr : All2 (RFun C H0 S) xs cs) (hm : m < xs.length)
    (k : ∀ a va vr vl vb, a.At S → H0.loadN C a 0 5 = some [.str xs[m].1, va, vr, vl, vb] → Ls C H0 S 1 encI va xs[m].2.1.1 → Ls C H0 S 1 encI vr xs[m].2.1.2 → Ls C H0 S 1 encI vl xs[m].2.2.1 → Ls C H0 S 3 encT vb xs[m].2.2.2 → va.one = true → vr.one = true → vl.one = true → vb.one = true → R (.ptr a) H) : OpR C fs (.ias 5 x i) nid H R :=
  .iasA hx hi h hr hm fun a c ha hl hf => by
    obtain ⟨va, vr, vl, vb, hc, h1, h2, h3, h4⟩ := hf
    subst hc
    exact k a va vr vl vb ha hl h1 h2 h3 h4 h1.one h2.one h3.one h4.one
end

section
variable {C : Cfg} (hC : Ok C) {H : Heap} {S : Nat → Prop} (hS : ∀ id, S id → id < H.next)
include hC hS

theorem ints_ok {va vb : V} {xs ys : List Int} (ha : Ls C H S 1 encI va xs) (hb : Ls C H S 1 encI vb ys) (hl : xs.length ≤ 1000000000) : Calls C (.fn 27) [va, vb] H (fun v H' => v = .bool (decide (xs = ys)) ∧ Keeps H H') := by
  have st := Hp.begin H
  have ha := ha.sub hS
  have hb := hb.sub hS
  refine Calls.fn (hC.prim _) (fnEq27 hC.fns) rfl ?_
  dsimp only [Ir27, fsOf]
  repeat' (first
    | (show OpR _ _ _ _ _ _; first
      | (refine OpR.lenL rfl ha ?_)
      | (refine OpR.lenL rfl hb ?_)
      | (refine OpR.mv rfl ?_)
      | (refine OpR.ldB rfl st (by repeat (first | exact Has.here _ _ | apply Has.there)) rfl ?_)
      | (refine OpR.ldnB rfl st (by repeat (first | exact Has.here _ _ | apply Has.there)) rfl rfl ?_)
      | (refine OpR.ldF rfl (by assumption) (by assumption) st (by repeat (first | exact Has.here _ _ | apply Has.there)) rfl ?_)
      | (refine OpR.ldF0 rfl (by assumption) (by assumption) st (by repeat (first | exact Has.here _ _ | apply Has.there)) rfl ?_)
      | (refine OpR.ldnF0 rfl (by assumption) (by assumption) st (by repeat (first | exact Has.here _ _ | apply Has.there)) ?_)
      | (refine OpR.ldnF rfl (by assumption) (by assumption) st (by repeat (first | exact Has.here _ _ | apply Has.there)) rfl rfl ?_)
      | (refine OpR.boxS rfl st (by first | exact st.fresh | assumption) (fun b H st => ?_))
      | (refine OpR.alcS st (by first | exact st.fresh | assumption) (fun b H st => ?_))
      | (refine OpR.bsliceS rfl st (by first | exact st.fresh | assumption) (fun b H st => ?_))
      | (refine OpR.stB1 rfl rfl (by assumption) st (by repeat (first | exact Rem.here _ _ | apply Rem.there)) rfl rfl (fun H st => ?_))
      | (refine OpR.stB rfl rfl st (by repeat (first | exact Rem.here _ _ | apply Rem.there)) rfl rfl rfl rfl (fun H st => ?_))
      | (refine OpR.stB rfl rfl st (by repeat (first | exact Rem.here _ _ | apply Rem.there)) rfl (by simp [V.cells, setAt, one_int, one_str, one_bool, one_nils, one_slice, one_ptr, one_nilp, *]) rfl rfl (fun H st => ?_))
      | (refine OpR.fa rfl ?_)
      | (refine OpR.pickT rfl rfl ?_)
      | (refine OpR.pickF rfl rfl ?_)
      | (refine OpR.notT rfl ?_)
      | (refine OpR.notF rfl ?_)
      | (refine OpR.lss rfl rfl (fun hc => ?_) (fun hc => ?_))
      | (refine OpR.gtr rfl rfl (fun hc => ?_) (fun hc => ?_))
      | (refine OpR.leq rfl rfl (fun hc => ?_) (fun hc => ?_))
      | (refine OpR.geq rfl rfl (fun hc => ?_) (fun hc => ?_))
      | (refine OpR.eql rfl rfl (fun hc => ?_) (fun hc => ?_))
      | (refine OpR.neq rfl rfl (fun hc => ?_) (fun hc => ?_))
      | (refine OpR.eqlS rfl rfl (fun hc => ?_) (fun hc => ?_))
      | (refine OpR.neqS rfl rfl (fun hc => ?_) (fun hc => ?_))
      | (refine OpR.add64 rfl rfl (by omega) ?_)
      | (refine OpR.sub64 rfl rfl (by omega) ?_)
      | (refine OpR.lens rfl ?_)
      | (refine OpR.lena ?_)
      | (refine OpR.len rfl ?_)
      | (refine OpR.lenN rfl ?_)
      | (refine OpR.fld rfl rfl ?_)
      | (refine OpR.fldn rfl ?_)
      | (refine OpR.ext rfl rfl ?_)
      | (refine OpR.mkf rfl rfl ?_)
      | (refine OpR.mif rfl ?_)
      | (refine OpR.nilck rfl ?_)
      | (refine OpR.nilckF rfl ?_)
      | (refine OpR.cid rfl ?_)
      | (refine OpR.build rfl ?_))
    | (show WO _ _ _ _ _ _; first
      | (refine WO.step rfl ?_)
      | (refine WO.step0 ?_)
      | (refine WO.stepG rfl rfl ?_)
      | (refine WO.stepG0 rfl ?_)
      | (refine WO.skipGD rfl rfl rfl ?_)
      | (refine WO.nil ?_))
    | (show WD _ _ _ _ _ _ _ _ _ _; first
      | (refine WD.step rfl rfl ?_)
      | (refine WD.nil0 ?_)
      | (refine WD.eff0 (op := .call _ _) rfl rfl ?_)
      | (refine WD.eff00 (op := .st _ _ _) rfl ?_)
      | (refine WD.alc rfl ?_)
      | (refine WD.box rfl rfl ?_)
      | (refine WD.bslice rfl rfl ?_)
      | (refine WD.bslice1 rfl rfl (by assumption) ?_)
      | (refine WD.laySt rfl st (by repeat (first | exact Rem.here _ _ | apply Rem.there)) (by simp only [List.length_cons, List.length_nil]; omega) (fun H st => ?_))
      | (refine WD.layApp rfl rfl st (by repeat (first | exact Rem.here _ _ | apply Rem.there)) (by simp only [List.length_cons, List.length_nil]; omega) (by simp only [List.length_cons, List.length_nil]; omega) (by omega) (fun H st hfr => ?_))
      | (refine WD.effR (op := .app _ _ _ _ _) rfl rfl st (by repeat (first | exact Rem.here _ _ | apply Rem.there)) (by simp only [List.length_cons, List.length_nil]; omega) (fun st hfr => ?_))
      | (refine WD.stepG rfl rfl rfl ?_)
      | (refine WD.skipGD rfl rfl rfl ?_))
    | (show WX _ _ _ _ _ _ _ _; first
      | (refine WX.seqReg ?_)
      | (refine WX.seqSeq ?_)
      | (refine WX.seqRegD0S st (fun H base st => ?_))
      | (refine WX.regD0S st (fun H base st => ?_))
      | (refine WX.seqRegDS st (fun H base st => ?_))
      | (refine WX.regDS st (fun H base st => ?_))
      | (refine WX.seqCondT rfl ?_)
      | (refine WX.seqCondF rfl ?_)
      | (refine WX.seqSkip ?_)
      | (refine WX.seqRet ?_)
      | (refine WX.seqExit ?_)
      | (refine WX.seqBlk ?_)
      | (refine WX.seqScope ?_)
      | (refine WX.reg ?_)
      | (refine WX.condT rfl ?_)
      | (refine WX.condF rfl ?_)
      | (refine WX.skip ?_)
      | (refine WX.ret ?_)
      | (refine WX.exit ?_)
      | (refine WX.blk ?_)
      | (refine WX.scope ?_))
    | (show blk _ _ _ _ _ _ _; first
      | (refine blk.nrm ?_)
      | (refine blk.rt ?_)
      | (refine blk.hit rfl ?_)
      | (refine blk.miss rfl ?_))
    | (show andThen _ _ _ _ _ _; first
      | (refine andThen.nrm ?_)
      | (refine andThen.rt ?_)
      | (refine andThen.ex ?_))
    | (refine And.intro (show Floats _ _ _ _ from (by repeat (first | exact Floats.nil | refine Floats.cons (by first | exact FloatAt.off rfl rfl rfl rfl | exact FloatAt.ldB rfl rfl rfl rfl (by assumption) (by repeat (first | exact Has.here _ _ | apply Has.there)) rfl (by assumption) (by repeat (first | exact Has.here _ _ | apply Has.there)) rfl | exact FloatAt.ldnB rfl rfl rfl rfl (by assumption) (by repeat (first | exact Has.here _ _ | apply Has.there)) rfl rfl (by assumption) (by repeat (first | exact Has.here _ _ | apply Has.there)) rfl rfl) ?_))) ?_))
  · refine AtEnd.rt rfl ⟨?_, st.kept (by repeat (first | exact Has.here _ _ | apply Has.there))⟩
    have : xs ≠ ys := fun h => hc (by rw [h])
    simp [tupOf, this]
  refine WX.loop (σ := Nat) (fun i => [(5, .int .i64 i), (0, va), (1, vb)]) (fun i H' d => i ≤ xs.length ∧ Hp [.frz H (· < H.next)] H' ∧ d = [] ∧ ∀ j, j < i → xs[j]? = ys[j]?) (fun i => xs.length - i) 0 ⟨rfl, rfl, rfl, trivial⟩ ⟨by omega, st, rfl, fun j hj => by omega⟩ ?_
  rintro i H1 _ ⟨hi, st, rfl, ht⟩
  repeat' (first
    | (show OpR _ _ _ _ _ _; first
      | (refine OpR.lenL rfl ha ?_)
      | (refine OpR.iasE rfl rfl ha (by omega) (fun a haa hla => ?_))
      | (refine OpR.iasE rfl rfl hb (by omega) (fun b hba hlb => ?_))
      | (refine OpR.mv rfl ?_)
      | (refine OpR.ldB rfl st (by repeat (first | exact Has.here _ _ | apply Has.there)) rfl ?_)
      | (refine OpR.ldnB rfl st (by repeat (first | exact Has.here _ _ | apply Has.there)) rfl rfl ?_)
      | (refine OpR.ldF rfl (by assumption) (by assumption) st (by repeat (first | exact Has.here _ _ | apply Has.there)) rfl ?_)
      | (refine OpR.ldF0 rfl (by assumption) (by assumption) st (by repeat (first | exact Has.here _ _ | apply Has.there)) rfl ?_)
      | (refine OpR.ldnF0 rfl (by assumption) (by assumption) st (by repeat (first | exact Has.here _ _ | apply Has.there)) ?_)
      | (refine OpR.ldnF rfl (by assumption) (by assumption) st (by repeat (first | exact Has.here _ _ | apply Has.there)) rfl rfl ?_)
      | (refine OpR.boxS rfl st (by first | exact st.fresh | assumption) (fun b H st => ?_))
      | (refine OpR.alcS st (by first | exact st.fresh | assumption) (fun b H st => ?_))
      | (refine OpR.bsliceS rfl st (by first | exact st.fresh | assumption) (fun b H st => ?_))
      | (refine OpR.stB1 rfl rfl (by assumption) st (by repeat (first | exact Rem.here _ _ | apply Rem.there)) rfl rfl (fun H st => ?_))
      | (refine OpR.stB rfl rfl st (by repeat (first | exact Rem.here _ _ | apply Rem.there)) rfl rfl rfl rfl (fun H st => ?_))
      | (refine OpR.stB rfl rfl st (by repeat (first | exact Rem.here _ _ | apply Rem.there)) rfl (by simp [V.cells, setAt, one_int, one_str, one_bool, one_nils, one_slice, one_ptr, one_nilp, *]) rfl rfl (fun H st => ?_))
      | (refine OpR.fa rfl ?_)
      | (refine OpR.pickT rfl rfl ?_)
      | (refine OpR.pickF rfl rfl ?_)
      | (refine OpR.notT rfl ?_)
      | (refine OpR.notF rfl ?_)
      | (refine OpR.lss rfl rfl (fun hc => ?_) (fun hc => ?_))
      | (refine OpR.gtr rfl rfl (fun hc => ?_) (fun hc => ?_))
      | (refine OpR.leq rfl rfl (fun hc => ?_) (fun hc => ?_))
      | (refine OpR.geq rfl rfl (fun hc => ?_) (fun hc => ?_))
      | (refine OpR.eql rfl rfl (fun hc => ?_) (fun hc => ?_))
      | (refine OpR.neq rfl rfl (fun hc => ?_) (fun hc => ?_))
      | (refine OpR.eqlS rfl rfl (fun hc => ?_) (fun hc => ?_))
      | (refine OpR.neqS rfl rfl (fun hc => ?_) (fun hc => ?_))
      | (refine OpR.add64 rfl rfl (by omega) ?_)
      | (refine OpR.sub64 rfl rfl (by omega) ?_)
      | (refine OpR.lens rfl ?_)
      | (refine OpR.lena ?_)
      | (refine OpR.len rfl ?_)
      | (refine OpR.lenN rfl ?_)
      | (refine OpR.fld rfl rfl ?_)
      | (refine OpR.fldn rfl ?_)
      | (refine OpR.ext rfl rfl ?_)
      | (refine OpR.mkf rfl rfl ?_)
      | (refine OpR.mif rfl ?_)
      | (refine OpR.nilck rfl ?_)
      | (refine OpR.nilckF rfl ?_)
      | (refine OpR.cid rfl ?_)
      | (refine OpR.build rfl ?_))
    | (show WO _ _ _ _ _ _; first
      | (refine WO.step rfl ?_)
      | (refine WO.step0 ?_)
      | (refine WO.stepG rfl rfl ?_)
      | (refine WO.stepG0 rfl ?_)
      | (refine WO.skipGD rfl rfl rfl ?_)
      | (refine WO.nil ?_))
    | (show WD _ _ _ _ _ _ _ _ _ _; first
      | (refine WD.step rfl rfl ?_)
      | (refine WD.nil0 ?_)
      | (refine WD.eff0 (op := .call _ _) rfl rfl ?_)
      | (refine WD.eff00 (op := .st _ _ _) rfl ?_)
      | (refine WD.alc rfl ?_)
      | (refine WD.box rfl rfl ?_)
      | (refine WD.bslice rfl rfl ?_)
      | (refine WD.bslice1 rfl rfl (by assumption) ?_)
      | (refine WD.laySt rfl st (by repeat (first | exact Rem.here _ _ | apply Rem.there)) (by simp only [List.length_cons, List.length_nil]; omega) (fun H st => ?_))
      | (refine WD.layApp rfl rfl st (by repeat (first | exact Rem.here _ _ | apply Rem.there)) (by simp only [List.length_cons, List.length_nil]; omega) (by simp only [List.length_cons, List.length_nil]; omega) (by omega) (fun H st hfr => ?_))
      | (refine WD.effR (op := .app _ _ _ _ _) rfl rfl st (by repeat (first | exact Rem.here _ _ | apply Rem.there)) (by simp only [List.length_cons, List.length_nil]; omega) (fun st hfr => ?_))
      | (refine WD.stepG rfl rfl rfl ?_)
      | (refine WD.skipGD rfl rfl rfl ?_))
    | (show WX _ _ _ _ _ _ _ _; first
      | (refine WX.seqReg ?_)
      | (refine WX.seqSeq ?_)
      | (refine WX.seqRegD0S st (fun H base st => ?_))
      | (refine WX.regD0S st (fun H base st => ?_))
      | (refine WX.seqRegDS st (fun H base st => ?_))
      | (refine WX.regDS st (fun H base st => ?_))
      | (refine WX.seqCondT rfl ?_)
      | (refine WX.seqCondF rfl ?_)
      | (refine WX.seqSkip ?_)
      | (refine WX.seqRet ?_)
      | (refine WX.seqExit ?_)
      | (refine WX.seqBlk ?_)
      | (refine WX.seqScope ?_)
      | (refine WX.reg ?_)
      | (refine WX.condT rfl ?_)
      | (refine WX.condF rfl ?_)
      | (refine WX.skip ?_)
      | (refine WX.ret ?_)
      | (refine WX.exit ?_)
      | (refine WX.blk ?_)
      | (refine WX.scope ?_))
    | (show blk _ _ _ _ _ _ _; first
      | (refine blk.nrm ?_)
      | (refine blk.rt ?_)
      | (refine blk.hit rfl ?_)
      | (refine blk.miss rfl ?_))
    | (show andThen _ _ _ _ _ _; first
      | (refine andThen.nrm ?_)
      | (refine andThen.rt ?_)
      | (refine andThen.ex ?_))
    | (refine And.intro (show Floats _ _ _ _ from (by repeat (first | exact Floats.nil | refine Floats.cons (by first | exact FloatAt.off rfl rfl rfl rfl | exact FloatAt.ldB rfl rfl rfl rfl (by assumption) (by repeat (first | exact Has.here _ _ | apply Has.there)) rfl (by assumption) (by repeat (first | exact Has.here _ _ | apply Has.there)) rfl | exact FloatAt.ldnB rfl rfl rfl rfl (by assumption) (by repeat (first | exact Has.here _ _ | apply Has.there)) rfl rfl (by assumption) (by repeat (first | exact Has.here _ _ | apply Has.there)) rfl rfl) ?_))) ?_))
  · refine AtEnd.rt rfl ⟨?_, st.kept (by repeat (first | exact Has.here _ _ | apply Has.there))⟩
    have : xs ≠ ys := fun h => by subst h; exact hc rfl
    simp [tupOf, this]
  · refine ⟨i + 1, by omega, ⟨rfl, rfl, rfl, trivial⟩, by omega, st.sel (by repeat (first | exact Sel.nil _ | refine Sel.cons _ _ _ _ (by repeat (first | exact Rem.here _ _ | apply Rem.there)) ?_)), rfl, pre_succ ht (by omega) (by omega) hc⟩
  · refine AtEnd.rt rfl ⟨?_, st.kept (by repeat (first | exact Has.here _ _ | apply Has.there))⟩
    have : xs = ys := eq_of_pre (by omega) (fun j hj => ht j (by omega))
    simp [tupOf, this]

theorem greatSig_ok {c : List V} {g : Sig} (hg : RSig C H S g c) : Calls C (.fn 29) [.nils, .agg c] H (fun v H' => (∃ n, v = .int .i64 n ∧ (n ≤ 0 → ¬ bigSig g)) ∧ Keeps H H') := by
  obtain ⟨va, vr, rfl, ha, hr⟩ := hg
  have st := Hp.begin H
  have ha := ha.sub hS
  have hr := hr.sub hS
  refine Calls.fn (hC.prim _) (fnEq29 hC.fns) rfl ?_
  dsimp only [Ir29, fsOf]
  repeat' (first
    | (show OpR _ _ _ _ _ _; first
      | (refine OpR.lenL rfl ha ?_)
      | (refine OpR.lenL rfl hr ?_)
      | (refine OpR.mv rfl ?_)
      | (refine OpR.ldB rfl st (by repeat (first | exact Has.here _ _ | apply Has.there)) rfl ?_)
      | (refine OpR.ldnB rfl st (by repeat (first | exact Has.here _ _ | apply Has.there)) rfl rfl ?_)
      | (refine OpR.ldF rfl (by assumption) (by assumption) st (by repeat (first | exact Has.here _ _ | apply Has.there)) rfl ?_)
      | (refine OpR.ldF0 rfl (by assumption) (by assumption) st (by repeat (first | exact Has.here _ _ | apply Has.there)) rfl ?_)
      | (refine OpR.ldnF0 rfl (by assumption) (by assumption) st (by repeat (first | exact Has.here _ _ | apply Has.there)) ?_)
      | (refine OpR.ldnF rfl (by assumption) (by assumption) st (by repeat (first | exact Has.here _ _ | apply Has.there)) rfl rfl ?_)
      | (refine OpR.boxS rfl st (by first | exact st.fresh | assumption) (fun b H st => ?_))
      | (refine OpR.alcS st (by first | exact st.fresh | assumption) (fun b H st => ?_))
      | (refine OpR.bsliceS rfl st (by first | exact st.fresh | assumption) (fun b H st => ?_))
      | (refine OpR.stB1 rfl rfl (by assumption) st (by repeat (first | exact Rem.here _ _ | apply Rem.there)) rfl rfl (fun H st => ?_))
      | (refine OpR.stB rfl rfl st (by repeat (first | exact Rem.here _ _ | apply Rem.there)) rfl rfl rfl rfl (fun H st => ?_))
      | (refine OpR.stB rfl rfl st (by repeat (first | exact Rem.here _ _ | apply Rem.there)) rfl (by simp [V.cells, setAt, one_int, one_str, one_bool, one_nils, one_slice, one_ptr, one_nilp, *]) rfl rfl (fun H st => ?_))
      | (refine OpR.fa rfl ?_)
      | (refine OpR.pickT rfl rfl ?_)
      | (refine OpR.pickF rfl rfl ?_)
      | (refine OpR.notT rfl ?_)
      | (refine OpR.notF rfl ?_)
      | (refine OpR.lss rfl rfl (fun hc => ?_) (fun hc => ?_))
      | (refine OpR.gtr rfl rfl (fun hc => ?_) (fun hc => ?_))
      | (refine OpR.leq rfl rfl (fun hc => ?_) (fun hc => ?_))
      | (refine OpR.geq rfl rfl (fun hc => ?_) (fun hc => ?_))
      | (refine OpR.eql rfl rfl (fun hc => ?_) (fun hc => ?_))
      | (refine OpR.neq rfl rfl (fun hc => ?_) (fun hc => ?_))
      | (refine OpR.eqlS rfl rfl (fun hc => ?_) (fun hc => ?_))
      | (refine OpR.neqS rfl rfl (fun hc => ?_) (fun hc => ?_))
      | (refine OpR.add64 rfl rfl (by omega) ?_)
      | (refine OpR.sub64 rfl rfl (by omega) ?_)
      | (refine OpR.lens rfl ?_)
      | (refine OpR.lena ?_)
      | (refine OpR.len rfl ?_)
      | (refine OpR.lenN rfl ?_)
      | (refine OpR.fld rfl rfl ?_)
      | (refine OpR.fldn rfl ?_)
      | (refine OpR.ext rfl rfl ?_)
      | (refine OpR.mkf rfl rfl ?_)
      | (refine OpR.mif rfl ?_)
      | (refine OpR.nilck rfl ?_)
      | (refine OpR.nilckF rfl ?_)
      | (refine OpR.cid rfl ?_)
      | (refine OpR.build rfl ?_))
    | (show WO _ _ _ _ _ _; first
      | (refine WO.step rfl ?_)
      | (refine WO.step0 ?_)
      | (refine WO.stepG rfl rfl ?_)
      | (refine WO.stepG0 rfl ?_)
      | (refine WO.skipGD rfl rfl rfl ?_)
      | (refine WO.nil ?_))
    | (show WD _ _ _ _ _ _ _ _ _ _; first
      | (refine WD.step rfl rfl ?_)
      | (refine WD.nil0 ?_)
      | (refine WD.eff0 (op := .call _ _) rfl rfl ?_)
      | (refine WD.eff00 (op := .st _ _ _) rfl ?_)
      | (refine WD.alc rfl ?_)
      | (refine WD.box rfl rfl ?_)
      | (refine WD.bslice rfl rfl ?_)
      | (refine WD.bslice1 rfl rfl (by assumption) ?_)
      | (refine WD.laySt rfl st (by repeat (first | exact Rem.here _ _ | apply Rem.there)) (by simp only [List.length_cons, List.length_nil]; omega) (fun H st => ?_))
      | (refine WD.layApp rfl rfl st (by repeat (first | exact Rem.here _ _ | apply Rem.there)) (by simp only [List.length_cons, List.length_nil]; omega) (by simp only [List.length_cons, List.length_nil]; omega) (by omega) (fun H st hfr => ?_))
      | (refine WD.effR (op := .app _ _ _ _ _) rfl rfl st (by repeat (first | exact Rem.here _ _ | apply Rem.there)) (by simp only [List.length_cons, List.length_nil]; omega) (fun st hfr => ?_))
      | (refine WD.stepG rfl rfl rfl ?_)
      | (refine WD.skipGD rfl rfl rfl ?_))
    | (show WX _ _ _ _ _ _ _ _; first
      | (refine WX.seqReg ?_)
      | (refine WX.seqSeq ?_)
      | (refine WX.seqRegD0S st (fun H base st => ?_))
      | (refine WX.regD0S st (fun H base st => ?_))
      | (refine WX.seqRegDS st (fun H base st => ?_))
      | (refine WX.regDS st (fun H base st => ?_))
      | (refine WX.seqCondT rfl ?_)
      | (refine WX.seqCondF rfl ?_)
      | (refine WX.seqSkip ?_)
      | (refine WX.seqRet ?_)
      | (refine WX.seqExit ?_)
      | (refine WX.seqBlk ?_)
      | (refine WX.seqScope ?_)
      | (refine WX.reg ?_)
      | (refine WX.condT rfl ?_)
      | (refine WX.condF rfl ?_)
      | (refine WX.skip ?_)
      | (refine WX.ret ?_)
      | (refine WX.exit ?_)
      | (refine WX.blk ?_)
      | (refine WX.scope ?_))
    | (show blk _ _ _ _ _ _ _; first
      | (refine blk.nrm ?_)
      | (refine blk.rt ?_)
      | (refine blk.hit rfl ?_)
      | (refine blk.miss rfl ?_))
    | (show andThen _ _ _ _ _ _; first
      | (refine andThen.nrm ?_)
      | (refine andThen.rt ?_)
      | (refine andThen.ex ?_))
    | (refine And.intro (show Floats _ _ _ _ from (by repeat (first | exact Floats.nil | refine Floats.cons (by first | exact FloatAt.off rfl rfl rfl rfl | exact FloatAt.ldB rfl rfl rfl rfl (by assumption) (by repeat (first | exact Has.here _ _ | apply Has.there)) rfl (by assumption) (by repeat (first | exact Has.here _ _ | apply Has.there)) rfl | exact FloatAt.ldnB rfl rfl rfl rfl (by assumption) (by repeat (first | exact Has.here _ _ | apply Has.there)) rfl rfl (by assumption) (by repeat (first | exact Has.here _ _ | apply Has.there)) rfl rfl) ?_))) ?_))
  all_goals refine AtEnd.rt rfl ⟨⟨_, rfl, ?_⟩, st.kept (by repeat (first | exact Has.here _ _ | apply Has.there))⟩
  all_goals (intro h; unfold bigSig; omega)

end
end Im.Seat
