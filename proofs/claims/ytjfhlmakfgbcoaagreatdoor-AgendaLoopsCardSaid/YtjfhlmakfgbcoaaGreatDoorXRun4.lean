/-
  The law's run, by the kernel (printed by wip/tools/tab3.py).
-/
import Derived.Test.YtjfhlmakfgbcoaaGreatDoorXTab
namespace Go.Proofs.YtjfhlmakfgbcoaaGreatDoor
open Go.Ab
/-- On all roads it says true. -/
theorem run4 : callT E tab 300 (.func 4) [] (startG 1) (fun v _ => isTrue v) = true := by kernel_rfl
end Go.Proofs.YtjfhlmakfgbcoaaGreatDoor
