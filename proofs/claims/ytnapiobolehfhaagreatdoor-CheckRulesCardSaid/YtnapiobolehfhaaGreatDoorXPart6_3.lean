/-
  Parts of a function's run, by the kernel (printed by wip/tools/parts.py).
-/
import Derived.Test.YtnapiobolehfhaaGreatDoorXTab
namespace Go.Proofs.YtnapiobolehfhaaGreatDoor
open Go.Ab
set_option maxRecDepth 100000
theorem r6_4_11 : iterS (runC (callT E tab 300) 300 bd6_4) hd6_4 en6_4 11 2 1 hd6_4_11.st = true := by kernel_rfl
theorem r6_4_12 : iterS (runC (callT E tab 300) 300 bd6_4) hd6_4 en6_4 12 2 1 hd6_4_12.st = true := by kernel_rfl
theorem r6_4_13 : iterS (runC (callT E tab 300) 300 bd6_4) hd6_4 en6_4 13 2 1 hd6_4_13.st = true := by kernel_rfl
theorem r6_4_14 : iterS (runC (callT E tab 300) 300 bd6_4) hd6_4 en6_4 14 2 1 hd6_4_14.st = true := by kernel_rfl
theorem q6_2_0 : runC (callT E tab 300) 300 (seqs g6_2 .skip) en6_4_0.st (chkH ct6_8) = true := by kernel_rfl
end Go.Proofs.YtnapiobolehfhaaGreatDoor
