/-
  Parts of a function's run, by the kernel (printed by wip/tools/parts.py).
-/
import Derived.Test.YtgdccjbnakolmaaGreatDoorXTab
namespace Go.Proofs.YtgdccjbnakolmaaGreatDoor
open Go.Ab
set_option maxRecDepth 100000
theorem q3_0_0 : runC (callT E tab 300) 300 (seqs g3_0 pre3_4) ⟨.lf, startG 1⟩ (chkH hd3_4) = true := by kernel_rfl
theorem r3_4_0 : iterS (runC (callT E tab 300) 300 bd3_4) hd3_4 en3_4 0 0 1 hd3_4_0.st = true := by kernel_rfl
theorem r3_4_1 : iterS (runC (callT E tab 300) 300 bd3_4) hd3_4 en3_4 1 0 1 hd3_4_1.st = true := by kernel_rfl
theorem r3_4_2 : iterS (runC (callT E tab 300) 300 bd3_4) hd3_4 en3_4 2 0 1 hd3_4_2.st = true := by kernel_rfl
end Go.Proofs.YtgdccjbnakolmaaGreatDoor
