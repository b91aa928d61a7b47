/-
  Parts of a function's run, by the kernel (printed by wip/tools/parts.py).
-/
import Derived.Test.YtgdccjbnakolmaaGreatDoorXTab
namespace Go.Proofs.YtgdccjbnakolmaaGreatDoor
open Go.Ab
set_option maxRecDepth 100000
theorem r3_4_11 : iterS (runC (callT E tab 300) 300 bd3_4) hd3_4 en3_4 11 0 1 hd3_4_11.st = true := by kernel_rfl
theorem r3_4_12 : iterS (runC (callT E tab 300) 300 bd3_4) hd3_4 en3_4 12 0 1 hd3_4_12.st = true := by kernel_rfl
theorem r3_4_13 : iterS (runC (callT E tab 300) 300 bd3_4) hd3_4 en3_4 13 0 1 hd3_4_13.st = true := by kernel_rfl
theorem r3_4_14 : iterS (runC (callT E tab 300) 300 bd3_4) hd3_4 en3_4 14 0 1 hd3_4_14.st = true := by kernel_rfl
end Go.Proofs.YtgdccjbnakolmaaGreatDoor
