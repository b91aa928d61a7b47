/-
  Parts of a function's run, by the kernel (printed by wip/tools/parts.py).
-/
import Derived.Test.YtgdccjbnakolmaaGreatDoorXTab
namespace Go.Proofs.YtgdccjbnakolmaaGreatDoor
open Go.Ab
set_option maxRecDepth 100000
theorem q3_1_0 : runC (callT E tab 300) 300 (seqs g3_1 .skip) en3_4_0.st (chkH ct3_7) = true := by kernel_rfl
theorem q3_2_0 : runC (callT E tab 300) 300 (seqs g3_2 gz3) ct3_7_0.st (finK D3.res (fun v _ => isTrue v)) = true := by kernel_rfl
end Go.Proofs.YtgdccjbnakolmaaGreatDoor
