/-
  What is not walked is the program's (printed by wip/tools/law3.py).
-/
import Derived.Test.YtjfhlmakfgbcoaaGreatDoorXTab
import Derived.Test.YtjfhlmakfgbcoaaGreatDoorXL
import Derived.Conc.MuLone
import Derived.KernelRfl
namespace Go.Proofs.YtjfhlmakfgbcoaaGreatDoor
open Go.Ab

theorem body117 : ∃ c, Tryz.f117.body = some c := by
  have h : Tryz.f117.body.isSome = true := by kernel_rfl
  cases e : Tryz.f117.body with
  | none => rw [e] at h; cases h
  | some c => exact ⟨c, rfl⟩
theorem enter117 (args : Array Value) (w : World) : (callFunc 117 args).run Tryz.prog w = .ok (.enter 117 args) w := by
  obtain ⟨c, h⟩ := body117
  exact _root_.Go.MuLone.run_callFunc_enter Tryz.func117 (by kernel_rfl) h args w
theorem prims_ok : AllPrim Tryz.prog prims := ⟨pIntP_ok YtjfhlmakfgbcoaaGreatDoor.pintL rfl rfl rfl enter117,
  idxByte_ok Tryz.func323 (by kernel_rfl) (by kernel_rfl) (by kernel_rfl) (by kernel_rfl),
  noEsc_ok Tryz.func348 (by kernel_rfl) (by kernel_rfl) (by kernel_rfl) (by kernel_rfl),
  cloneP_ok Tryz.func271 (by kernel_rfl) (by kernel_rfl) (by kernel_rfl) (by kernel_rfl), trivial⟩
theorem env_ok : EnvOK Tryz.prog E := envP_ok tbl_ok prims_ok
theorem le_ok : PrimLe E := envP_le prims_le
end Go.Proofs.YtjfhlmakfgbcoaaGreatDoor
