/-
  Parts of a function's run, by the kernel (printed by wip/tools/parts.py).
-/
import Derived.Test.YtnapiobolehfhaaGreatDoorXTab1
namespace Go.Proofs.YtnapiobolehfhaaGreatDoor
open Go.Ab
set_option maxRecDepth 100000
theorem r3_5_1 : iterS (runC (callT E1 tab1 300) 300 bd3_5) hd3_5 en3_5 1 2 1 hd3_5_1.st = true := by kernel_rfl
theorem r3_5_2 : iterS (runC (callT E1 tab1 300) 300 bd3_5) hd3_5 en3_5 2 2 1 hd3_5_2.st = true := by kernel_rfl
theorem r3_5_3 : iterS (runC (callT E1 tab1 300) 300 bd3_5) hd3_5 en3_5 3 2 1 hd3_5_3.st = true := by kernel_rfl
theorem r3_5_4 : iterS (runC (callT E1 tab1 300) 300 bd3_5) hd3_5 en3_5 4 2 1 hd3_5_4.st = true := by kernel_rfl
theorem r3_5_5 : iterS (runC (callT E1 tab1 300) 300 bd3_5) hd3_5 en3_5 5 2 1 hd3_5_5.st = true := by kernel_rfl
theorem r3_5_6 : iterS (runC (callT E1 tab1 300) 300 bd3_5) hd3_5 en3_5 6 2 1 hd3_5_6.st = true := by kernel_rfl
end Go.Proofs.YtnapiobolehfhaaGreatDoor
