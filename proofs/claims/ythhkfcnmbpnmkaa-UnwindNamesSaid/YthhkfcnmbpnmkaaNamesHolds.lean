/-
  backstaylaw18.UnwindNames answers true, whatever the world in which it is called (it takes no argument). No condition.
-/
import Derived.Test.YthhkfcnmbpnmkaaNamesRun
import Derived.Test.YthhkfcnmbpnmkaaRows
import Derived.ProofKit
namespace Go.Proofs.Ythhkfcnmbpnmkaa
open Go.ChangeShapes Go.WideShapes Go.ChangeAt Go.RowKit

theorem Try.own : ownKnob Try.prog.godebug = none := by kernel_rfl

set_option maxRecDepth 100000 in
theorem unwindNames_lifted (hrun : (Im.icall (Im.cfgOf irTab) 300 (.fn 7) [] Im.Heap.empty).map (·.1) = some (.bool true)) (os : Os) (started : os.Started) (H : Type) (enc : TypeId × Value → H) :
    ReturnsInHanded {} Try.checked os 7 .any (Rows.unwindNamesSpec.pre6 enc Try.prog Try.f7 Rows.unwindNamesRow.domain false) (Rows.unwindNamesSpec.post enc Try.prog Try.f7 false true false false) := by
  refine returnsInHanded_of_change (C := Try.checked) Try.own started (by kernel_rfl) Try.func7
    (ChangeSpec.witness6 (enc := enc) (C := Try.checked) false ⟨#[], #[], []⟩ 8 (by kernel_rfl) (by kernel_rfl) (by kernel_rfl) (by kernel_rfl)) ?_
  intro W base args ds gs before hval0 hW hcnd _
  have hW' := hW
  obtain ⟨p, q, hA0, hV, rfl, hfz, hnd⟩ := hW
  have hA : DataW.TrodAll enc Try.prog W 0 (fun _ => true) true Try.f7.params.toList args.toList ds p := hA0
  rw [Try.params7] at hA
  obtain ⟨rfl, rfl, rfl⟩ := trodAll_none hA
  obtain ⟨rfl, rfl⟩ := trodVars_none hV
  refine (Im.closed_run (E := irE W) (tab := irTab) rfl (fun _ => rfl) (irOk W) (n := 300) (f := 7) (by kernel_rfl) hrun).mono fun e W' ⟨he, hb⟩ => ?_
  subst he
  exact ⟨_, rfl, [], [], _, [], [], [], hW', trodAll_mk1 (shut_bool Try.underlying4 true), trodAll_mk0, rfl, Below.frame hb _, fun h => by cases h⟩

theorem unwindNames_holds : Rows.UnwindNamesSaid :=
  OpenClaim.holds_of_wide 7 Try.f7 rfl rfl rfl rfl rfl rfl rfl ⟨rfl, rfl, rfl, rfl, rfl⟩ rfl rfl rfl rfl rfl (by kernel_rfl) Try.func7 (by kernel_rfl)
    (of_decide_eq_true (by kernel_rfl)) (by unfold Func.isWrapper; first | (rw [if_pos (by decide +kernel)]; kernel_rfl) | (rw [if_neg (by decide +kernel)]; exact ⟨rfl, rfl⟩))
    (fun os started H enc _ => unwindNames_lifted names_run os started H enc)

end Go.Proofs.Ythhkfcnmbpnmkaa
