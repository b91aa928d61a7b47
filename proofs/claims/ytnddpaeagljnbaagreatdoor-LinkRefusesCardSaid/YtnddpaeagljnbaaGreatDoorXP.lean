/-
  What is not walked is the program's (printed by wip/tools/law3.py).
-/
import Derived.Test.YtnddpaeagljnbaaGreatDoorXTab
import Derived.Conc.MuLone
import Derived.KernelRfl
namespace Go.Proofs.YtnddpaeagljnbaaGreatDoor
open Go.Ab

theorem prims_ok : AllPrim Tryz.prog prims := ⟨idxByte_ok Tryz.func296 (by kernel_rfl) (by kernel_rfl) (by kernel_rfl) (by kernel_rfl),
  noEsc_ok Tryz.func292 (by kernel_rfl) (by kernel_rfl) (by kernel_rfl) (by kernel_rfl),
  cloneP_ok Tryz.func241 (by kernel_rfl) (by kernel_rfl) (by kernel_rfl) (by kernel_rfl), trivial⟩
theorem env_ok : EnvOK Tryz.prog E := envP_ok tbl_ok prims_ok
theorem le_ok : PrimLe E := envP_le prims_le
end Go.Proofs.YtnddpaeagljnbaaGreatDoor
