/-
  What is not walked is the program's (printed by wip/tools/law3.py).
-/
import Derived.Test.YtgmdelacokkenaaGreatDoorXTab
import Derived.Test.YtgmdelacokkenaaGreatDoorXL
import Derived.Conc.MuLone
import Derived.Test.YtgmdelacokkenaaGreatDoorXTab1
import Derived.KernelRfl
namespace Go.Proofs.YtgmdelacokkenaaGreatDoor
open Go.Ab

theorem body68 : ∃ c, Tryz.f68.body = some c := by
  have h : Tryz.f68.body.isSome = true := by kernel_rfl
  cases e : Tryz.f68.body with
  | none => rw [e] at h; cases h
  | some c => exact ⟨c, rfl⟩
theorem enter68 (args : Array Value) (w : World) : (callFunc 68 args).run Tryz.prog w = .ok (.enter 68 args) w := by
  obtain ⟨c, h⟩ := body68
  exact _root_.Go.MuLone.run_callFunc_enter Tryz.func68 (by kernel_rfl) h args w
theorem prims_ok : AllPrim Tryz.prog prims := ⟨pIntP_ok YtgmdelacokkenaaGreatDoor.pintL rfl rfl rfl enter68,
  idxByte_ok Tryz.func114 (by kernel_rfl) (by kernel_rfl) (by kernel_rfl) (by kernel_rfl),
  noEsc_ok Tryz.func119 (by kernel_rfl) (by kernel_rfl) (by kernel_rfl) (by kernel_rfl), trivial⟩
theorem env_ok : EnvOK Tryz.prog E := envP_ok tbl_ok prims_ok
theorem env_ok1 (hmix : Tryz.prog.follows .mixedOrders = true) : EnvOK Tryz.prog E1 := envP_ok tbl_ok (prims_ok1 hmix env_ok prims_ok)
theorem le_ok : PrimLe E := envP_le prims_le
end Go.Proofs.YtgmdelacokkenaaGreatDoor
