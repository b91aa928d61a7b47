/-
  What is not walked is the program's (printed by wip/tools/law3.py).
-/
import Derived.Test.YtplimodjgbhmdaaGreatDoorXTab
import Derived.Test.YtplimodjgbhmdaaGreatDoorXL
import Derived.Conc.MuLone
import Derived.KernelRfl
namespace Go.Proofs.YtplimodjgbhmdaaGreatDoor
open Go.Ab

theorem body76 : ∃ c, Tryz.f76.body = some c := by
  have h : Tryz.f76.body.isSome = true := by kernel_rfl
  cases e : Tryz.f76.body with
  | none => rw [e] at h; cases h
  | some c => exact ⟨c, rfl⟩
theorem enter76 (args : Array Value) (w : World) : (callFunc 76 args).run Tryz.prog w = .ok (.enter 76 args) w := by
  obtain ⟨c, h⟩ := body76
  exact _root_.Go.MuLone.run_callFunc_enter Tryz.func76 (by kernel_rfl) h args w
theorem prims_ok : AllPrim Tryz.prog prims := ⟨pIntP_ok YtplimodjgbhmdaaGreatDoor.pintL rfl rfl rfl enter76,
  idxByte_ok Tryz.func122 (by kernel_rfl) (by kernel_rfl) (by kernel_rfl) (by kernel_rfl),
  noEsc_ok Tryz.func127 (by kernel_rfl) (by kernel_rfl) (by kernel_rfl) (by kernel_rfl), trivial⟩
theorem env_ok : EnvOK Tryz.prog E := envP_ok tbl_ok prims_ok
theorem le_ok : PrimLe E := envP_le prims_le
end Go.Proofs.YtplimodjgbhmdaaGreatDoor
