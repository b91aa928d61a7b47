/-
  A function's run, its parts joined (printed by wip/tools/parts.py).
-/
import Derived.Test.YtgdccjbnakolmaaGreatDoorXPart3_0
import Derived.Test.YtgdccjbnakolmaaGreatDoorXPart3_1
import Derived.Test.YtgdccjbnakolmaaGreatDoorXPart3_2
import Derived.Test.YtgdccjbnakolmaaGreatDoorXPart3_3
import Derived.Test.YtgdccjbnakolmaaGreatDoorXPart3_4
namespace Go.Proofs.YtgdccjbnakolmaaGreatDoor
open Go.Ab
set_option maxRecDepth 100000

theorem le0_3 : PrimLe E := envP_le prims_le
theorem w3_2_0 : runC (callN E 300) 300 b3_2 ct3_7_0.st (finK D3.res (fun v _ => isTrue v)) = true :=
  runC_le (callT_le le0_3 tab_ok 300) q3_2_0 fun _ _ q => q
theorem w3_1_0 : runC (callN E 300) 300 b3_1 en3_4_0.st (finK D3.res (fun v _ => isTrue v)) = true :=
  cut_parts (callT_le le0_3 tab_ok 300) q3_1_0 (show AllE (fun c => runC (callN E 300) 300 b3_2 c.st (finK D3.res (fun v _ => isTrue v)) = true) ct3_7 from ⟨w3_2_0, trivial⟩).get
theorem w3_0_0 : runC (callN E 300) 300 b3_0 ⟨.lf, startG 1⟩ (finK D3.res (fun v _ => isTrue v)) = true :=
  loop_parts (callT_le le0_3 tab_ok 300) q3_0_0 ((show AllH (runC (callT E tab 300) 300 bd3_4) hd3_4 en3_4 0 1 hd3_4 0 from ⟨r3_4_0, r3_4_1, r3_4_2, r3_4_3, r3_4_4, r3_4_5, r3_4_6, r3_4_7, r3_4_8, r3_4_9, r3_4_10, r3_4_11, r3_4_12, r3_4_13, r3_4_14, trivial⟩).all) (by decide) (show AllE (fun c => runC (callN E 300) 300 b3_1 c.st (finK D3.res (fun v _ => isTrue v)) = true) en3_4 from ⟨w3_1_0, trivial⟩).get
/-- On all roads it says true. -/
theorem run3 : callN E (300 + 1) (.func 3) [] (startG 1) (fun v _ => isTrue v) = true :=
  callN_of_run le0_3 (fn := D3) (by kernel_rfl) (by kernel_rfl) rfl (by kernel_rfl) w3_0_0
end Go.Proofs.YtgdccjbnakolmaaGreatDoor
