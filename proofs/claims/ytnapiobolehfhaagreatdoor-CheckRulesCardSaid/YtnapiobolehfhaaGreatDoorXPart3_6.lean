/-
  Parts of a function's run, by the kernel (printed by wip/tools/parts.py).
-/
import Derived.Test.YtnapiobolehfhaaGreatDoorXTab1
namespace Go.Proofs.YtnapiobolehfhaaGreatDoor
open Go.Ab
set_option maxRecDepth 100000
theorem r3_5_19 : iterS (runC (callT E1 tab1 300) 300 bd3_5) hd3_5 en3_5 19 2 1 hd3_5_19.st = true := by kernel_rfl
theorem r3_5_20 : iterS (runC (callT E1 tab1 300) 300 bd3_5) hd3_5 en3_5 20 2 1 hd3_5_20.st = true := by kernel_rfl
theorem q3_2_0 : runC (callT E1 tab1 300) 300 (seqs g3_2 gz3) en3_5_0.st (finK D3.res (fun v _ => isTrue v)) = true := by kernel_rfl
end Go.Proofs.YtnapiobolehfhaaGreatDoor
