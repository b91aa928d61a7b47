/-
  A function's run, its parts joined (printed by wip/tools/parts.py).
-/
import Derived.Test.YtnapiobolehfhaaGreatDoorXPart3_0
import Derived.Test.YtnapiobolehfhaaGreatDoorXPart3_1
import Derived.Test.YtnapiobolehfhaaGreatDoorXPart3_2
import Derived.Test.YtnapiobolehfhaaGreatDoorXPart3_3
import Derived.Test.YtnapiobolehfhaaGreatDoorXPart3_4
import Derived.Test.YtnapiobolehfhaaGreatDoorXPart3_5
import Derived.Test.YtnapiobolehfhaaGreatDoorXPart3_6
namespace Go.Proofs.YtnapiobolehfhaaGreatDoor
open Go.Ab
set_option maxRecDepth 100000

theorem le01_3 : PrimLe E1 := envP_le prims_le1
theorem w3_2_0 : runC (callN E1 300) 300 b3_2 en3_5_0.st (finK D3.res (fun v _ => isTrue v)) = true :=
  runC_le (callT_le le01_3 tab_ok1 300) q3_2_0 fun _ _ q => q
theorem w3_1_0 : runC (callN E1 300) 300 b3_1 en3_4_0.st (finK D3.res (fun v _ => isTrue v)) = true :=
  loop_parts (callT_le le01_3 tab_ok1 300) q3_1_0 ((show AllH (runC (callT E1 tab1 300) 300 bd3_5) hd3_5 en3_5 2 1 hd3_5 0 from ⟨r3_5_0, r3_5_1, r3_5_2, r3_5_3, r3_5_4, r3_5_5, r3_5_6, r3_5_7, r3_5_8, r3_5_9, r3_5_10, r3_5_11, r3_5_12, r3_5_13, r3_5_14, r3_5_15, r3_5_16, r3_5_17, r3_5_18, r3_5_19, r3_5_20, trivial⟩).all) (by decide) (show AllE (fun c => runC (callN E1 300) 300 b3_2 c.st (finK D3.res (fun v _ => isTrue v)) = true) en3_5 from ⟨w3_2_0, trivial⟩).get
theorem w3_0_0 : runC (callN E1 300) 300 b3_0 ⟨.lf, startG 1⟩ (finK D3.res (fun v _ => isTrue v)) = true :=
  loop_parts (callT_le le01_3 tab_ok1 300) q3_0_0 ((show AllH (runC (callT E1 tab1 300) 300 bd3_4) hd3_4 en3_4 0 1 hd3_4 0 from ⟨r3_4_0, r3_4_1, r3_4_2, r3_4_3, r3_4_4, r3_4_5, r3_4_6, r3_4_7, r3_4_8, r3_4_9, r3_4_10, r3_4_11, r3_4_12, r3_4_13, r3_4_14, trivial⟩).all) (by decide) (show AllE (fun c => runC (callN E1 300) 300 b3_1 c.st (finK D3.res (fun v _ => isTrue v)) = true) en3_4 from ⟨w3_1_0, trivial⟩).get
/-- On all roads it says true. -/
theorem run3 : callN E1 (300 + 1) (.func 3) [] (startG 1) (fun v _ => isTrue v) = true :=
  callN_of_run le01_3 (fn := D3) (by kernel_rfl) (by kernel_rfl) rfl (by kernel_rfl) w3_0_0
end Go.Proofs.YtnapiobolehfhaaGreatDoor
