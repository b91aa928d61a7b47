/-
  What is not walked is the program's (printed by wip/tools/law3.py).
-/
import Derived.Test.YtnapiobolehfhaaGreatDoorXTab
import Derived.Test.YtnapiobolehfhaaGreatDoorXL
import Derived.Conc.MuLone
import Derived.Test.YtnapiobolehfhaaGreatDoorXTab1
import Derived.KernelRfl
namespace Go.Proofs.YtnapiobolehfhaaGreatDoor
open Go.Ab

theorem body126 : ∃ c, Tryz.f126.body = some c := by
  have h : Tryz.f126.body.isSome = true := by kernel_rfl
  cases e : Tryz.f126.body with
  | none => rw [e] at h; cases h
  | some c => exact ⟨c, rfl⟩
theorem enter126 (args : Array Value) (w : World) : (callFunc 126 args).run Tryz.prog w = .ok (.enter 126 args) w := by
  obtain ⟨c, h⟩ := body126
  exact _root_.Go.MuLone.run_callFunc_enter Tryz.func126 (by kernel_rfl) h args w
theorem prims_ok : AllPrim Tryz.prog prims := ⟨pIntP_ok YtnapiobolehfhaaGreatDoor.pintL rfl rfl rfl enter126,
  idxByte_ok Tryz.func248 (by kernel_rfl) (by kernel_rfl) (by kernel_rfl) (by kernel_rfl),
  noEsc_ok Tryz.func247 (by kernel_rfl) (by kernel_rfl) (by kernel_rfl) (by kernel_rfl),
  cloneP_ok Tryz.func146 (by kernel_rfl) (by kernel_rfl) (by kernel_rfl) (by kernel_rfl), trivial⟩
theorem env_ok : EnvOK Tryz.prog E := envP_ok tbl_ok prims_ok
theorem prims_ok1 : AllPrim Tryz.prog prims1 := ⟨sum6_ok (by kernel_rfl) env_ok, prims_ok⟩
theorem env_ok1 : EnvOK Tryz.prog E1 := envP_ok tbl_ok prims_ok1
theorem le_ok : PrimLe E := envP_le prims_le
end Go.Proofs.YtnapiobolehfhaaGreatDoor
