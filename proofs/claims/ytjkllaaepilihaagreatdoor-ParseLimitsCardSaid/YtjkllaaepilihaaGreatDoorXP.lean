/-
  What is not walked is the program's (printed by wip/tools/law3.py).
-/
import Derived.Test.YtjkllaaepilihaaGreatDoorXTab
import Derived.Test.YtjkllaaepilihaaGreatDoorXL
import Derived.Conc.MuLone
import Derived.KernelRfl
namespace Go.Proofs.YtjkllaaepilihaaGreatDoor
open Go.Ab

theorem body53 : ∃ c, Tryz.f53.body = some c := by
  have h : Tryz.f53.body.isSome = true := by kernel_rfl
  cases e : Tryz.f53.body with
  | none => rw [e] at h; cases h
  | some c => exact ⟨c, rfl⟩
theorem enter53 (args : Array Value) (w : World) : (callFunc 53 args).run Tryz.prog w = .ok (.enter 53 args) w := by
  obtain ⟨c, h⟩ := body53
  exact _root_.Go.MuLone.run_callFunc_enter Tryz.func53 (by kernel_rfl) h args w
theorem prims_ok : AllPrim Tryz.prog prims := ⟨pIntP_ok YtjkllaaepilihaaGreatDoor.pintL rfl rfl rfl enter53,
  idxByte_ok Tryz.func97 (by kernel_rfl) (by kernel_rfl) (by kernel_rfl) (by kernel_rfl),
  noEsc_ok Tryz.func101 (by kernel_rfl) (by kernel_rfl) (by kernel_rfl) (by kernel_rfl), trivial⟩
theorem env_ok : EnvOK Tryz.prog E := envP_ok tbl_ok prims_ok
theorem le_ok : PrimLe E := envP_le prims_le
end Go.Proofs.YtjkllaaepilihaaGreatDoor
