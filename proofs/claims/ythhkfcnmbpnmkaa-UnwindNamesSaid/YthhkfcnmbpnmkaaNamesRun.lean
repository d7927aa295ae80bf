/- The ideal machine, run by Lean's kernel, answers true at 'UnwindNames'. -/
import Derived.Test.YthhkfcnmbpnmkaaIr
import Derived.Test.YthhkfcnmbpnmkaaImAB
namespace Go.Proofs.Ythhkfcnmbpnmkaa
open Im
theorem names_kernel : (kcall (cfgOf irTab) 300 (.fn 7) [] Heap.empty).map (·.1) = some (.bool true) := by kernel_rfl

theorem names_run : (icall (cfgOf irTab) 300 (.fn 7) [] Heap.empty).map (·.1) = some (.bool true) := by
  have h := names_kernel
  cases hk : kcall (cfgOf irTab) 300 (.fn 7) [] Heap.empty with
  | none => rw [hk] at h; cases h
  | some r => rw [kcall_le _ _ _ _ _ _ hk]; rw [hk] at h; exact h
end Go.Proofs.Ythhkfcnmbpnmkaa
