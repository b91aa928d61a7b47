/-
  Parts of a function's run, by the kernel (printed by wip/tools/parts.py).
-/
import Derived.Test.YtnapiobolehfhaaGreatDoorXTab1
namespace Go.Proofs.YtnapiobolehfhaaGreatDoor
open Go.Ab
set_option maxRecDepth 100000
theorem r3_4_11 : iterS (runC (callT E1 tab1 300) 300 bd3_4) hd3_4 en3_4 11 0 1 hd3_4_11.st = true := by kernel_rfl
theorem r3_4_12 : iterS (runC (callT E1 tab1 300) 300 bd3_4) hd3_4 en3_4 12 0 1 hd3_4_12.st = true := by kernel_rfl
theorem r3_4_13 : iterS (runC (callT E1 tab1 300) 300 bd3_4) hd3_4 en3_4 13 0 1 hd3_4_13.st = true := by kernel_rfl
theorem r3_4_14 : iterS (runC (callT E1 tab1 300) 300 bd3_4) hd3_4 en3_4 14 0 1 hd3_4_14.st = true := by kernel_rfl
theorem q3_1_0 : runC (callT E1 tab1 300) 300 (seqs g3_1 pre3_5) en3_4_0.st (chkH hd3_5) = true := by kernel_rfl
theorem r3_5_0 : iterS (runC (callT E1 tab1 300) 300 bd3_5) hd3_5 en3_5 0 2 1 hd3_5_0.st = true := by kernel_rfl
end Go.Proofs.YtnapiobolehfhaaGreatDoor
