/-
  Parts of a function's run, by the kernel (printed by wip/tools/parts.py).
-/
import Derived.Test.YtnapiobolehfhaaGreatDoorXTab
namespace Go.Proofs.YtnapiobolehfhaaGreatDoor
open Go.Ab
set_option maxRecDepth 100000
theorem q6_0_0 : runC (callT E tab 300) 300 (seqs g6_0 pre6_3) st6.st (chkH hd6_3) = true := by kernel_rfl
theorem r6_3_0 : iterS (runC (callT E tab 300) 300 bd6_3) hd6_3 en6_3 0 0 1 hd6_3_0.st = true := by kernel_rfl
theorem r6_3_1 : iterS (runC (callT E tab 300) 300 bd6_3) hd6_3 en6_3 1 0 1 hd6_3_1.st = true := by kernel_rfl
theorem r6_3_2 : iterS (runC (callT E tab 300) 300 bd6_3) hd6_3 en6_3 2 0 1 hd6_3_2.st = true := by kernel_rfl
theorem r6_3_3 : iterS (runC (callT E tab 300) 300 bd6_3) hd6_3 en6_3 3 0 1 hd6_3_3.st = true := by kernel_rfl
theorem r6_3_4 : iterS (runC (callT E tab 300) 300 bd6_3) hd6_3 en6_3 4 0 1 hd6_3_4.st = true := by kernel_rfl
end Go.Proofs.YtnapiobolehfhaaGreatDoor
