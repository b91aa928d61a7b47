/-
  The law's run, by the kernel, in parts (printed by wip/tools/split3.py).
-/
import Derived.Test.YtgmdelacokkenaaGreatDoorXTab1
namespace Go.Proofs.YtgmdelacokkenaaGreatDoor
open Go.Ab
set_option maxRecDepth 100000

theorem le0 : PrimLe E1 := envP_le prims_le1
theorem part3_0 : runC (callT E1 tab1 700) 700 (seqs g3_0 .skip) ⟨.lf, startG 1⟩ (chkC cut3_0) = true := by kernel_rfl
theorem part3_1 : runC (callT E1 tab1 700) 700 (seqs g3_1 gz3) cut3_0.st (finK D3.res (fun v _ => isTrue v)) = true := by kernel_rfl
theorem whole3 : runC (callN E1 700) 700 D3.body ⟨.lf, startG 1⟩ (finK D3.res (fun v _ => isTrue v)) = true :=
  run_cut (callT_le le0 tab_ok1 700) part3_0 (runC_le (callT_le le0 tab_ok1 700) part3_1 fun _ _ q => q)
/-- On all roads it says true. -/
theorem run3 : callN E1 (700 + 1) (.func 3) [] (startG 1) (fun v _ => isTrue v) = true :=
  callN_of_run le0 (by kernel_rfl) (by kernel_rfl) rfl (by kernel_rfl) whole3
end Go.Proofs.YtgmdelacokkenaaGreatDoor
