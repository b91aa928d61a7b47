/-
  Parts of a function's run, by the kernel (printed by wip/tools/parts.py).
-/
import Derived.Test.YtgdccjbnakolmaaGreatDoorXTab
namespace Go.Proofs.YtgdccjbnakolmaaGreatDoor
open Go.Ab
set_option maxRecDepth 100000
theorem r3_4_7 : iterS (runC (callT E tab 300) 300 bd3_4) hd3_4 en3_4 7 0 1 hd3_4_7.st = true := by kernel_rfl
theorem r3_4_8 : iterS (runC (callT E tab 300) 300 bd3_4) hd3_4 en3_4 8 0 1 hd3_4_8.st = true := by kernel_rfl
theorem r3_4_9 : iterS (runC (callT E tab 300) 300 bd3_4) hd3_4 en3_4 9 0 1 hd3_4_9.st = true := by kernel_rfl
theorem r3_4_10 : iterS (runC (callT E tab 300) 300 bd3_4) hd3_4 en3_4 10 0 1 hd3_4_10.st = true := by kernel_rfl
end Go.Proofs.YtgdccjbnakolmaaGreatDoor
