/-
  Parts of a function's run, by the kernel (printed by wip/tools/parts.py).
-/
import Derived.Test.YtnapiobolehfhaaGreatDoorXTab
namespace Go.Proofs.YtnapiobolehfhaaGreatDoor
open Go.Ab
set_option maxRecDepth 100000
theorem r6_4_5 : iterS (runC (callT E tab 300) 300 bd6_4) hd6_4 en6_4 5 2 1 hd6_4_5.st = true := by kernel_rfl
theorem r6_4_6 : iterS (runC (callT E tab 300) 300 bd6_4) hd6_4 en6_4 6 2 1 hd6_4_6.st = true := by kernel_rfl
theorem r6_4_7 : iterS (runC (callT E tab 300) 300 bd6_4) hd6_4 en6_4 7 2 1 hd6_4_7.st = true := by kernel_rfl
theorem r6_4_8 : iterS (runC (callT E tab 300) 300 bd6_4) hd6_4 en6_4 8 2 1 hd6_4_8.st = true := by kernel_rfl
theorem r6_4_9 : iterS (runC (callT E tab 300) 300 bd6_4) hd6_4 en6_4 9 2 1 hd6_4_9.st = true := by kernel_rfl
theorem r6_4_10 : iterS (runC (callT E tab 300) 300 bd6_4) hd6_4 en6_4 10 2 1 hd6_4_10.st = true := by kernel_rfl
end Go.Proofs.YtnapiobolehfhaaGreatDoor
