/-
  Parts of a function's run, by the kernel (printed by wip/tools/parts.py).
-/
import Derived.Test.YtnapiobolehfhaaGreatDoorXTab1
namespace Go.Proofs.YtnapiobolehfhaaGreatDoor
open Go.Ab
set_option maxRecDepth 100000
theorem r3_5_13 : iterS (runC (callT E1 tab1 300) 300 bd3_5) hd3_5 en3_5 13 2 1 hd3_5_13.st = true := by kernel_rfl
theorem r3_5_14 : iterS (runC (callT E1 tab1 300) 300 bd3_5) hd3_5 en3_5 14 2 1 hd3_5_14.st = true := by kernel_rfl
theorem r3_5_15 : iterS (runC (callT E1 tab1 300) 300 bd3_5) hd3_5 en3_5 15 2 1 hd3_5_15.st = true := by kernel_rfl
theorem r3_5_16 : iterS (runC (callT E1 tab1 300) 300 bd3_5) hd3_5 en3_5 16 2 1 hd3_5_16.st = true := by kernel_rfl
theorem r3_5_17 : iterS (runC (callT E1 tab1 300) 300 bd3_5) hd3_5 en3_5 17 2 1 hd3_5_17.st = true := by kernel_rfl
theorem r3_5_18 : iterS (runC (callT E1 tab1 300) 300 bd3_5) hd3_5 en3_5 18 2 1 hd3_5_18.st = true := by kernel_rfl
end Go.Proofs.YtnapiobolehfhaaGreatDoor
