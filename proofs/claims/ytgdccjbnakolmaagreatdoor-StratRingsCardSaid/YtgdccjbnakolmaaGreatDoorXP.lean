/-
  What is not walked is the program's (printed by wip/tools/law3.py).
-/
import Derived.Test.YtgdccjbnakolmaaGreatDoorXTab
import Derived.Test.YtgdccjbnakolmaaGreatDoorXL
import Derived.Conc.MuLone
import Derived.KernelRfl
namespace Go.Proofs.YtgdccjbnakolmaaGreatDoor
open Go.Ab

theorem body73 : ∃ c, Tryz.f73.body = some c := by
  have h : Tryz.f73.body.isSome = true := by kernel_rfl
  cases e : Tryz.f73.body with
  | none => rw [e] at h; cases h
  | some c => exact ⟨c, rfl⟩
theorem enter73 (args : Array Value) (w : World) : (callFunc 73 args).run Tryz.prog w = .ok (.enter 73 args) w := by
  obtain ⟨c, h⟩ := body73
  exact _root_.Go.MuLone.run_callFunc_enter Tryz.func73 (by kernel_rfl) h args w
theorem prims_ok : AllPrim Tryz.prog prims := ⟨idxByte_ok Tryz.func259 (by kernel_rfl) (by kernel_rfl) (by kernel_rfl) (by kernel_rfl),
  noEsc_ok Tryz.func284 (by kernel_rfl) (by kernel_rfl) (by kernel_rfl) (by kernel_rfl),
  cloneP_ok Tryz.func207 (by kernel_rfl) (by kernel_rfl) (by kernel_rfl) (by kernel_rfl),
  pIntP_ok YtgdccjbnakolmaaGreatDoor.pintL rfl rfl rfl enter73, trivial⟩
theorem env_ok : EnvOK Tryz.prog E := envP_ok tbl_ok prims_ok
theorem le_ok : PrimLe E := envP_le prims_le
end Go.Proofs.YtgdccjbnakolmaaGreatDoor
