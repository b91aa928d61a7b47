/-
  The law's run, by the kernel (printed by wip/tools/tab3.py).
-/
import Derived.Test.YtplimodjgbhmdaaGreatDoorXTab
namespace Go.Proofs.YtplimodjgbhmdaaGreatDoor
open Go.Ab
/-- On all roads it says true. -/
theorem run3 : callT E tab 400 (.func 3) [] (startG 1) (fun v _ => isTrue v) = true := by kernel_rfl
end Go.Proofs.YtplimodjgbhmdaaGreatDoor
