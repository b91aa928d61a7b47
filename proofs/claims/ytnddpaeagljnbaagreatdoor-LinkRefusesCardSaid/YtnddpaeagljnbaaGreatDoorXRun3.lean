/-
  The law's run, by the kernel (printed by wip/tools/tab3.py).
-/
import Derived.Test.YtnddpaeagljnbaaGreatDoorXTab
namespace Go.Proofs.YtnddpaeagljnbaaGreatDoor
open Go.Ab
/-- On all roads it says true. -/
theorem run3 : callT E tab 300 (.func 3) [] AHeap.empty (fun v _ => isTrue v) = true := by kernel_rfl
end Go.Proofs.YtnddpaeagljnbaaGreatDoor
