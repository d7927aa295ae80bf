/-
  backstaylaw08.ImageAsks answers true, whatever the two images and the name, and whatever the world in which it is called; what came in reads as it did. No condition.
-/
import Derived.Test.YtjnknmfheigelaaIrOk
import Derived.Test.YtjnknmfheigelaaWl
import Derived.Test.YtjnknmfheigelaaP3
import Derived.Test.YtjnknmfheigelaaRows
import Derived.ProofKit
namespace Im.Seat

theorem all2_enc {α : Type} {R : α → List V → Prop} {enc : α → List V} (h : ∀ x c, R x c → c = enc x) : ∀ {xs : List α} {cs : List (List V)}, All2 R xs cs → cs = xs.map enc
  | [], [], _ => rfl
  | x :: xs, c :: cs, k => by rw [h x c k.1, all2_enc h k.2]; rfl

def tyI : Ty := .int .i64
def tyT : Ty := .struct [tyI, tyI, tyI]
def tyF : Ty := .struct [.str, .struct [.slice tyI, .slice tyI], .slice tyI, .slice tyT]
def tyImg : Ty := .struct [.slice (.slice tyI), .slice tyF]

section
variable {C : Cfg} {H : Heap} {S : Nat → Prop}

theorem rt_ints {x : List Int} {c : List V} (h : Rt C H S (.slice tyI) x c) : RL C H S x c := by
  simp only [Rt, tyI] at h
  obtain ⟨v, cs, rfl, h2, h3⟩ := h
  refine ⟨v, rfl, ?_⟩
  have : cs = x.map encI := all2_enc (fun y d k => k.1) h3
  subst this; exact h2

theorem rt_triples {x : List (Int × Int × Int)} {c : List V} (h : Rt C H S (.slice tyT) x c) : ∃ v, c = [v] ∧ Ls C H S 3 encT v x := by
  simp only [Rt, tyT] at h
  obtain ⟨v, cs, rfl, h2, h3⟩ := h
  refine ⟨v, rfl, ?_⟩
  have : cs = x.map encT := all2_enc (fun y d k => by
    simp only [Rts, Rt, tyI] at k
    obtain ⟨l1, l2, rfl, ⟨rfl, _⟩, l3, l4, rfl, ⟨rfl, _⟩, rfl, _⟩ := k
    rfl) h3
  subst this; exact h2

theorem rt_fun {x : Fun} {c : List V} (h : Rt C H S tyF x c) : RFun C H S x c := by
  simp only [Rt, tyF, Rts] at h
  obtain ⟨l1, l2, rfl, rfl, l3, l4, rfl, ⟨l5, l6, rfl, ha, hr⟩, l7, l8, rfl, hl, hb⟩ := h
  obtain ⟨va, rfl, ha'⟩ := rt_ints (by simpa only [Rt] using ha)
  obtain ⟨vr, rfl, hr'⟩ := rt_ints (by simpa only [Rt] using hr)
  obtain ⟨vl, rfl, hl'⟩ := rt_ints (by simpa only [Rt] using hl)
  obtain ⟨vb, rfl, hb'⟩ := rt_triples (by simpa only [Rt] using hb)
  exact ⟨va, vr, vl, vb, rfl, ha', hr', hl', hb'⟩

theorem rt_img {x : Img} {c : List V} (h : Rt C H S tyImg x c) : RImg C H S x c := by
  simp only [tyImg, Rt, Rts] at h
  obtain ⟨l1, l2, rfl, ⟨vs, ss, rfl, s2, s3⟩, vf, ff, rfl, f2, f3⟩ := h
  exact ⟨vs, vf, ss, ff, rfl, s2, s3.mono (fun _ _ h => rt_ints (by simpa only [Rt] using h)), f2, f3.mono (fun _ _ h => rt_fun h)⟩
end
end Im.Seat

namespace Go.Proofs.Ytjnknmfheigelaa
open Go.ChangeShapes Go.WideShapes Go.ChangeAt Go.RowKit

theorem Try.own : ownKnob Try.prog.godebug = none := by kernel_rfl
theorem laid : laidOutB Try.prog = true := by kernel_rfl
theorem mapsRow : mapsRowed Try.prog = true := by kernel_rfl
theorem slicesFull : ((List.range Try.prog.types.size).all fun t => match Try.prog.underlying t with | some (.slice e) => decide (0 < Try.prog.cellsOf e) | _ => true) = true := by kernel_rfl
theorem tyOkImg : Im.tyOk Try.prog Im.Seat.tyImg 25 = true := by kernel_rfl
theorem tyOkStr : Im.tyOk Try.prog .str 9 = true := by kernel_rfl

set_option maxRecDepth 100000 in
theorem imageAsks_lifted (os : Os) (started : os.Started) (H : Type) (enc : TypeId × Value → H) :
    ReturnsInHanded {} Try.checked os 3 .any (Rows.imageAsksSpec.pre6 enc Try.prog Try.f3 Rows.imageAsksRow.domain false) (Rows.imageAsksSpec.post enc Try.prog Try.f3 false true false false) := by
  refine returnsInHanded_of_change (C := Try.checked) Try.own started (by kernel_rfl) Try.func3
    (ChangeSpec.witness6 (enc := enc) (C := Try.checked) false ⟨#[], #[.agg #[.slice none 0 0, .slice none 0 0], .agg #[.slice none 0 0, .slice none 0 0], .string ⟨#[]⟩], []⟩ 8 (by kernel_rfl) (by kernel_rfl) (by kernel_rfl) (by kernel_rfl)) ?_
  intro W base args ds gs before hval0 hW hcnd _
  have hlt := hW.lt
  have hW' := hW
  obtain ⟨p, q, hA0, hV, rfl, hfz, hnd⟩ := hW
  have hA : DataW.TrodAll enc Try.prog W 0 (fun _ => true) true Try.f3.params.toList args.toList ds p := hA0
  rw [Try.params3] at hA hval0
  obtain ⟨v0, vs0, d0, ds0, p0, q0, hargs, rfl, rfl, h0, r0⟩ := trodAll_cons hA
  obtain ⟨v1, vs1, d1, ds1, p1, q1, rfl, rfl, rfl, h1, r1⟩ := trodAll_cons r0
  obtain ⟨v2, vs2, d2, ds2, p2, q2, rfl, rfl, rfl, h2, r2⟩ := trodAll_cons r1
  obtain ⟨rfl, rfl, rfl⟩ := trodAll_nil r2
  obtain rfl : args = #[v0, v1, v2] := by cases args; simp_all
  obtain ⟨rfl, rfl⟩ := trodVars_none hV
  have hC : (Im.cfgS Im.Seat.irTab W).st = Im.stW W := rfl
  obtain ⟨y0, l0, k0, m0⟩ := Im.arg_ok (E := irE W) hC (T := Im.Seat.tyImg) (hval0 0 25 v0 rfl rfl) tyOkImg h0
  obtain ⟨y1, l1, k1, m1⟩ := Im.arg_ok (E := irE W) hC (T := Im.Seat.tyImg) (hval0 1 25 v1 rfl rfl) tyOkImg h1
  obtain ⟨y2, l2, k2, m2⟩ := Im.arg_ok (E := irE W) hC (T := .str) (hval0 2 9 v2 rfl rfl) tyOkStr h2
  have e2 : l2 = [.str y2] := by simpa only [Im.Rt] using m2 Im.Heap.empty
  subst e2
  have run := Im.Seat.law_ok (C := Im.cfgS Im.Seat.irTab W) ⟨rfl, fun _ => rfl⟩ (H := Im.Heap.empty) (S := fun _ => False) (fun _ h => h.elim) (name := y2) (Im.Seat.rt_img (m0 _)) (Im.Seat.rt_img (m1 _))
  obtain ⟨n, v, H', hr, hv⟩ := run
  refine (Im.law_runs (E := irE W) (tab := Im.Seat.irTab) rfl (fun _ => rfl) (irOk W) (f := 3) (by kernel_rfl) (args' := [v0, v1, v2]) (.cons _ _ _ _ k0 (.cons _ _ _ _ k1 (.cons _ _ _ _ k2 .nil))) ⟨n, v, H', hr, hv⟩).mono fun e W' ⟨he, hb⟩ => ?_
  subst he
  refine ⟨_, rfl, [d0, d1, d2], [], _, [], p0 ++ (p1 ++ (p2 ++ [])), [], hW', trodAll_mk1 (shut_bool Try.underlying4 true), ?_, rfl, Below.frame hb _, fun h => by cases h⟩
  rw [Try.params3]
  exact Im.reads_again laid mapsRow slicesFull (by decide +kernel) hA (fun p hp => hlt p (List.mem_append_left _ hp)) hb

theorem imageAsks_holds : Rows.ImageAsksSaid :=
  OpenClaim.holds_of_wide 3 Try.f3 rfl rfl rfl rfl rfl rfl rfl ⟨rfl, rfl, rfl, rfl, rfl⟩ rfl rfl rfl rfl rfl (by kernel_rfl) Try.func3 (by kernel_rfl)
    (of_decide_eq_true (by kernel_rfl)) (by unfold Func.isWrapper; first | (rw [if_pos (by decide +kernel)]; kernel_rfl) | (rw [if_neg (by decide +kernel)]; exact ⟨rfl, rfl⟩))
    (fun os started H enc _ => imageAsks_lifted os started H enc)

end Go.Proofs.Ytjnknmfheigelaa
