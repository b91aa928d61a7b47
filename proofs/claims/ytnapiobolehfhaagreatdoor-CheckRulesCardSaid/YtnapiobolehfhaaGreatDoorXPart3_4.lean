/-
  Parts of a function's run, by the kernel (printed by wip/tools/parts.py).
-/
import Derived.Test.YtnapiobolehfhaaGreatDoorXTab1
namespace Go.Proofs.YtnapiobolehfhaaGreatDoor
open Go.Ab
set_option maxRecDepth 100000
theorem r3_5_7 : iterS (runC (callT E1 tab1 300) 300 bd3_5) hd3_5 en3_5 7 2 1 hd3_5_7.st = true := by kernel_rfl
theorem r3_5_8 : iterS (runC (callT E1 tab1 300) 300 bd3_5) hd3_5 en3_5 8 2 1 hd3_5_8.st = true := by kernel_rfl
theorem r3_5_9 : iterS (runC (callT E1 tab1 300) 300 bd3_5) hd3_5 en3_5 9 2 1 hd3_5_9.st = true := by kernel_rfl
theorem r3_5_10 : iterS (runC (callT E1 tab1 300) 300 bd3_5) hd3_5 en3_5 10 2 1 hd3_5_10.st = true := by kernel_rfl
theorem r3_5_11 : iterS (runC (callT E1 tab1 300) 300 bd3_5) hd3_5 en3_5 11 2 1 hd3_5_11.st = true := by kernel_rfl
theorem r3_5_12 : iterS (runC (callT E1 tab1 300) 300 bd3_5) hd3_5 en3_5 12 2 1 hd3_5_12.st = true := by kernel_rfl
end Go.Proofs.YtnapiobolehfhaaGreatDoor
