/-
  The functions that the laws enter are the program's (each checked by the kernel).
-/
import Derived.Test.YtbamgdknkhhikaaProg
import Derived.Test.YtbamgdknkhhikaaXD
import Derived.Test.YtbamgdknkhhikaaXL
import Derived.Test.YtbamgdknkhhikaaChecked
import Derived.Test.YtbamgdknkhhikaaWR
import Derived.Conc.MuLone
import Derived.KernelRfl
namespace Go.Proofs.Ytbamgdknkhhikaa
open Go.Ab

theorem t4 : compFn Try.prog Try.f4 = some (stripF A4) := by kernel_rfl
theorem t6 : compFn Try.prog Try.f6 = some (stripF A6) := by kernel_rfl
theorem t7 : compFn Try.prog Try.f7 = some (stripF A7) := by kernel_rfl
theorem t8 : compFn Try.prog Try.f8 = some (stripF A8) := by kernel_rfl
theorem t10 : compFn Try.prog Try.f10 = some (stripF A10) := by kernel_rfl
theorem t13 : compFn Try.prog Try.f13 = some (stripF A13) := by kernel_rfl
theorem t19 : compFn Try.prog Try.f19 = some (stripF A19) := by kernel_rfl
theorem t21 : compFn Try.prog Try.f21 = some (stripF A21) := by kernel_rfl
theorem t23 : compFn Try.prog Try.f23 = some (stripF A23) := by kernel_rfl
theorem t24 : compFn Try.prog Try.f24 = some (stripF A24) := by kernel_rfl
theorem t28 : compFn Try.prog Try.f28 = some (stripF A28) := by kernel_rfl
theorem t29 : compFn Try.prog Try.f29 = some (stripF A29) := by kernel_rfl
theorem t32 : compFn Try.prog Try.f32 = some (stripF A32) := by kernel_rfl
theorem t33 : compFn Try.prog Try.f33 = some (stripF A33) := by kernel_rfl
theorem t35 : compFn Try.prog Try.f35 = some (stripF A35) := by kernel_rfl
theorem t36 : compFn Try.prog Try.f36 = some (stripF A36) := by kernel_rfl
theorem t37 : compFn Try.prog Try.f37 = some (stripF A37) := by kernel_rfl
theorem t38 : compFn Try.prog Try.f38 = some (stripF A38) := by kernel_rfl
theorem t39 : compFn Try.prog Try.f39 = some (stripF A39) := by kernel_rfl
theorem t40 : compFn Try.prog Try.f40 = some (stripF A40) := by kernel_rfl
theorem t41 : compFn Try.prog Try.f41 = some (stripF A41) := by kernel_rfl
theorem t46 : compFn Try.prog Try.f46 = some (stripF A46) := by kernel_rfl
theorem t47 : compFn Try.prog Try.f47 = some (stripF A47) := by kernel_rfl
theorem t48 : compFn Try.prog Try.f48 = some (stripF A48) := by kernel_rfl
theorem t51 : compFn Try.prog Try.f51 = some (stripF A51) := by kernel_rfl
theorem t52 : compFn Try.prog Try.f52 = some (stripF A52) := by kernel_rfl
theorem t54 : compFn Try.prog Try.f54 = some (stripF A54) := by kernel_rfl
theorem t55 : compFn Try.prog Try.f55 = some (stripF A55) := by kernel_rfl
theorem t56 : compFn Try.prog Try.f56 = some (stripF A56) := by kernel_rfl
theorem t57 : compFn Try.prog Try.f57 = some (stripF A57) := by kernel_rfl
theorem t58 : compFn Try.prog Try.f58 = some (stripF A58) := by kernel_rfl
theorem t59 : compFn Try.prog Try.f59 = some (stripF A59) := by kernel_rfl
theorem t60 : compFn Try.prog Try.f60 = some (stripF A60) := by kernel_rfl
theorem t61 : compFn Try.prog Try.f61 = some (stripF A61) := by kernel_rfl
theorem t63 : compFn Try.prog Try.f63 = some (stripF A63) := by kernel_rfl
theorem t64 : compFn Try.prog Try.f64 = some (stripF A64) := by kernel_rfl
theorem t65 : compFn Try.prog Try.f65 = some (stripF A65) := by kernel_rfl
theorem t66 : compFn Try.prog Try.f66 = some (stripF A66) := by kernel_rfl
theorem t67 : compFn Try.prog Try.f67 = some (stripF A67) := by kernel_rfl
theorem t68 : compFn Try.prog Try.f68 = some (stripF A68) := by kernel_rfl
theorem t69 : compFn Try.prog Try.f69 = some (stripF A69) := by kernel_rfl
theorem t70 : compFn Try.prog Try.f70 = some (stripF A70) := by kernel_rfl
theorem t78 : compFn Try.prog Try.f78 = some (stripF A78) := by kernel_rfl
theorem t79 : compFn Try.prog Try.f79 = some (stripF A79) := by kernel_rfl
theorem t80 : compFn Try.prog Try.f80 = some (stripF A80) := by kernel_rfl
theorem t88 : compFn Try.prog Try.f88 = some (stripF A88) := by kernel_rfl
theorem t89 : compFn Try.prog Try.f89 = some (stripF A89) := by kernel_rfl

theorem tbl_ok : AllOK Try.prog tbl := ⟨⟨_, Try.func4, t4⟩, ⟨_, Try.func6, t6⟩, ⟨_, Try.func8, t8⟩, ⟨_, Try.func10, t10⟩, ⟨_, Try.func19, t19⟩, ⟨_, Try.func21, t21⟩, ⟨_, Try.func28, t28⟩, ⟨_, Try.func29, t29⟩, ⟨_, Try.func32, t32⟩, ⟨_, Try.func35, t35⟩, ⟨_, Try.func36, t36⟩, ⟨_, Try.func37, t37⟩, ⟨_, Try.func38, t38⟩, ⟨_, Try.func39, t39⟩, ⟨_, Try.func40, t40⟩, ⟨_, Try.func41, t41⟩, ⟨_, Try.func48, t48⟩, ⟨_, Try.func52, t52⟩, ⟨_, Try.func54, t54⟩, ⟨_, Try.func55, t55⟩, ⟨_, Try.func56, t56⟩, ⟨_, Try.func57, t57⟩, ⟨_, Try.func58, t58⟩, ⟨_, Try.func59, t59⟩, ⟨_, Try.func60, t60⟩, ⟨_, Try.func61, t61⟩, ⟨_, Try.func66, t66⟩, ⟨_, Try.func67, t67⟩, ⟨_, Try.func68, t68⟩, ⟨_, Try.func69, t69⟩, ⟨_, Try.func88, t88⟩, ⟨_, Try.func89, t89⟩, trivial⟩
theorem tblW_ok : AllOK Try.prog tblW := ⟨⟨_, Try.func7, t7⟩, ⟨_, Try.func8, t8⟩, ⟨_, Try.func10, t10⟩, ⟨_, Try.func13, t13⟩, ⟨_, Try.func19, t19⟩, ⟨_, Try.func21, t21⟩, ⟨_, Try.func23, t23⟩, ⟨_, Try.func24, t24⟩, ⟨_, Try.func33, t33⟩, ⟨_, Try.func35, t35⟩, ⟨_, Try.func36, t36⟩, ⟨_, Try.func37, t37⟩, ⟨_, Try.func38, t38⟩, ⟨_, Try.func39, t39⟩, ⟨_, Try.func40, t40⟩, ⟨_, Try.func41, t41⟩, ⟨_, Try.func46, t46⟩, ⟨_, Try.func47, t47⟩, ⟨_, Try.func48, t48⟩, ⟨_, Try.func51, t51⟩, ⟨_, Try.func52, t52⟩, ⟨_, Try.func55, t55⟩, ⟨_, Try.func56, t56⟩, ⟨_, Try.func57, t57⟩, ⟨_, Try.func58, t58⟩, ⟨_, Try.func59, t59⟩, ⟨_, Try.func60, t60⟩, ⟨_, Try.func61, t61⟩, ⟨_, Try.func63, t63⟩, ⟨_, Try.func64, t64⟩, ⟨_, Try.func65, t65⟩, ⟨_, Try.func66, t66⟩, ⟨_, Try.func67, t67⟩, ⟨_, Try.func68, t68⟩, ⟨_, Try.func69, t69⟩, ⟨_, Try.func70, t70⟩, ⟨_, Try.func78, t78⟩, ⟨_, Try.func79, t79⟩, ⟨_, Try.func80, t80⟩, ⟨_, Try.func88, t88⟩, ⟨_, Try.func89, t89⟩, trivial⟩
theorem body51 : ∃ c, Try.f51.body = some c := by
  have h : Try.f51.body.isSome = true := by kernel_rfl
  cases e : Try.f51.body with
  | none => rw [e] at h; cases h
  | some c => exact ⟨c, rfl⟩
theorem enter51 (args : Array Value) (w : World) : (callFunc 51 args).run Try.prog w = .ok (.enter 51 args) w := by
  obtain ⟨c, h⟩ := body51
  exact _root_.Go.MuLone.run_callFunc_enter Try.func51 (by kernel_rfl) h args w
theorem body52 : ∃ c, Try.f52.body = some c := by
  have h : Try.f52.body.isSome = true := by kernel_rfl
  cases e : Try.f52.body with
  | none => rw [e] at h; cases h
  | some c => exact ⟨c, rfl⟩
theorem enter52 (args : Array Value) (w : World) : (callFunc 52 args).run Try.prog w = .ok (.enter 52 args) w := by
  obtain ⟨c, h⟩ := body52
  exact _root_.Go.MuLone.run_callFunc_enter Try.func52 (by kernel_rfl) h args w
theorem prims_ok : AllPrim Try.prog prims := ⟨sortP_ok sortL rfl enter51 (fun g hg args w => by
    simp only [List.mem_cons, List.not_mem_nil, or_false] at hg
    subst hg; exact enter52 args w),
  saysT_ok Try.checked.mixed (envT_ok tblW_ok) (fn := A7) rfl runW, trivial⟩
theorem env_ok : EnvOK Try.prog E := envP_ok tbl_ok prims_ok
end Go.Proofs.Ytbamgdknkhhikaa
