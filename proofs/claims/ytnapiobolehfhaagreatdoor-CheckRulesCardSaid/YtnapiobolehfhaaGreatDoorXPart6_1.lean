/-
  Parts of a function's run, by the kernel (printed by wip/tools/parts.py).
-/
import Derived.Test.YtnapiobolehfhaaGreatDoorXTab
namespace Go.Proofs.YtnapiobolehfhaaGreatDoor
open Go.Ab
set_option maxRecDepth 100000
theorem q6_1_0 : runC (callT E tab 300) 300 (seqs g6_1 pre6_4) en6_3_0.st (chkH hd6_4) = true := by kernel_rfl
theorem r6_4_0 : iterS (runC (callT E tab 300) 300 bd6_4) hd6_4 en6_4 0 2 1 hd6_4_0.st = true := by kernel_rfl
theorem r6_4_1 : iterS (runC (callT E tab 300) 300 bd6_4) hd6_4 en6_4 1 2 1 hd6_4_1.st = true := by kernel_rfl
theorem r6_4_2 : iterS (runC (callT E tab 300) 300 bd6_4) hd6_4 en6_4 2 2 1 hd6_4_2.st = true := by kernel_rfl
theorem r6_4_3 : iterS (runC (callT E tab 300) 300 bd6_4) hd6_4 en6_4 3 2 1 hd6_4_3.st = true := by kernel_rfl
theorem r6_4_4 : iterS (runC (callT E tab 300) 300 bd6_4) hd6_4 en6_4 4 2 1 hd6_4_4.st = true := by kernel_rfl
end Go.Proofs.YtnapiobolehfhaaGreatDoor
