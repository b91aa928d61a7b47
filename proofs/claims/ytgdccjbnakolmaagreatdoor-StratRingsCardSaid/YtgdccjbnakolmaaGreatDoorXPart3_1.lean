/-
  Parts of a function's run, by the kernel (printed by wip/tools/parts.py).
-/
import Derived.Test.YtgdccjbnakolmaaGreatDoorXTab
namespace Go.Proofs.YtgdccjbnakolmaaGreatDoor
open Go.Ab
set_option maxRecDepth 100000
theorem r3_4_3 : iterS (runC (callT E tab 300) 300 bd3_4) hd3_4 en3_4 3 0 1 hd3_4_3.st = true := by kernel_rfl
theorem r3_4_4 : iterS (runC (callT E tab 300) 300 bd3_4) hd3_4 en3_4 4 0 1 hd3_4_4.st = true := by kernel_rfl
theorem r3_4_5 : iterS (runC (callT E tab 300) 300 bd3_4) hd3_4 en3_4 5 0 1 hd3_4_5.st = true := by kernel_rfl
theorem r3_4_6 : iterS (runC (callT E tab 300) 300 bd3_4) hd3_4 en3_4 6 0 1 hd3_4_6.st = true := by kernel_rfl
end Go.Proofs.YtgdccjbnakolmaaGreatDoor
