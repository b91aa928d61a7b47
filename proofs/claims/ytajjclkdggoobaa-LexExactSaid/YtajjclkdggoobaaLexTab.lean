/-
  The functions that the laws enter are the program's (each checked by the kernel).
-/
import Derived.Test.YtajjclkdggoobaaProg
import Derived.Test.YtajjclkdggoobaaXD
import Derived.KernelRfl
namespace Go.Proofs.Ytajjclkdggoobaa
open Go.Ab

theorem t3 : compFn Try.prog Try.f3 = some (stripF A3) := by kernel_rfl
theorem t4 : compFn Try.prog Try.f4 = some (stripF A4) := by kernel_rfl
theorem t5 : compFn Try.prog Try.f5 = some (stripF A5) := by kernel_rfl
theorem t6 : compFn Try.prog Try.f6 = some (stripF A6) := by kernel_rfl
theorem t7 : compFn Try.prog Try.f7 = some (stripF A7) := by kernel_rfl
theorem t8 : compFn Try.prog Try.f8 = some (stripF A8) := by kernel_rfl
theorem t9 : compFn Try.prog Try.f9 = some (stripF A9) := by kernel_rfl
theorem t10 : compFn Try.prog Try.f10 = some (stripF A10) := by kernel_rfl
theorem t11 : compFn Try.prog Try.f11 = some (stripF A11) := by kernel_rfl
theorem t12 : compFn Try.prog Try.f12 = some (stripF A12) := by kernel_rfl
theorem t13 : compFn Try.prog Try.f13 = some (stripF A13) := by kernel_rfl
theorem t14 : compFn Try.prog Try.f14 = some (stripF A14) := by kernel_rfl
theorem t15 : compFn Try.prog Try.f15 = some (stripF A15) := by kernel_rfl
theorem t16 : compFn Try.prog Try.f16 = some (stripF A16) := by kernel_rfl
theorem t17 : compFn Try.prog Try.f17 = some (stripF A17) := by kernel_rfl
theorem t18 : compFn Try.prog Try.f18 = some (stripF A18) := by kernel_rfl
theorem t19 : compFn Try.prog Try.f19 = some (stripF A19) := by kernel_rfl
theorem t20 : compFn Try.prog Try.f20 = some (stripF A20) := by kernel_rfl
theorem t21 : compFn Try.prog Try.f21 = some (stripF A21) := by kernel_rfl
theorem t22 : compFn Try.prog Try.f22 = some (stripF A22) := by kernel_rfl
theorem t23 : compFn Try.prog Try.f23 = some (stripF A23) := by kernel_rfl
theorem t24 : compFn Try.prog Try.f24 = some (stripF A24) := by kernel_rfl
theorem t25 : compFn Try.prog Try.f25 = some (stripF A25) := by kernel_rfl
theorem t26 : compFn Try.prog Try.f26 = some (stripF A26) := by kernel_rfl
theorem t27 : compFn Try.prog Try.f27 = some (stripF A27) := by kernel_rfl
theorem t28 : compFn Try.prog Try.f28 = some (stripF A28) := by kernel_rfl
theorem t29 : compFn Try.prog Try.f29 = some (stripF A29) := by kernel_rfl
theorem t30 : compFn Try.prog Try.f30 = some (stripF A30) := by kernel_rfl
theorem t31 : compFn Try.prog Try.f31 = some (stripF A31) := by kernel_rfl
theorem t32 : compFn Try.prog Try.f32 = some (stripF A32) := by kernel_rfl
theorem t33 : compFn Try.prog Try.f33 = some (stripF A33) := by kernel_rfl
theorem t36 : compFn Try.prog Try.f36 = some (stripF A36) := by kernel_rfl
theorem t37 : compFn Try.prog Try.f37 = some (stripF A37) := by kernel_rfl
theorem t38 : compFn Try.prog Try.f38 = some (stripF A38) := by kernel_rfl
theorem t39 : compFn Try.prog Try.f39 = some (stripF A39) := by kernel_rfl
theorem t40 : compFn Try.prog Try.f40 = some (stripF A40) := by kernel_rfl
theorem t41 : compFn Try.prog Try.f41 = some (stripF A41) := by kernel_rfl
theorem t42 : compFn Try.prog Try.f42 = some (stripF A42) := by kernel_rfl
theorem t43 : compFn Try.prog Try.f43 = some (stripF A43) := by kernel_rfl
theorem t44 : compFn Try.prog Try.f44 = some (stripF A44) := by kernel_rfl
theorem t45 : compFn Try.prog Try.f45 = some (stripF A45) := by kernel_rfl
theorem t46 : compFn Try.prog Try.f46 = some (stripF A46) := by kernel_rfl

theorem tbl_ok : AllOK Try.prog tbl := ⟨⟨_, Try.func3, t3⟩, ⟨_, Try.func4, t4⟩, ⟨_, Try.func5, t5⟩, ⟨_, Try.func6, t6⟩, ⟨_, Try.func7, t7⟩, ⟨_, Try.func8, t8⟩, ⟨_, Try.func9, t9⟩, ⟨_, Try.func10, t10⟩, ⟨_, Try.func11, t11⟩, ⟨_, Try.func12, t12⟩, ⟨_, Try.func13, t13⟩, ⟨_, Try.func14, t14⟩, ⟨_, Try.func15, t15⟩, ⟨_, Try.func16, t16⟩, ⟨_, Try.func17, t17⟩, ⟨_, Try.func18, t18⟩, ⟨_, Try.func19, t19⟩, ⟨_, Try.func20, t20⟩, ⟨_, Try.func21, t21⟩, ⟨_, Try.func22, t22⟩, ⟨_, Try.func23, t23⟩, ⟨_, Try.func24, t24⟩, ⟨_, Try.func25, t25⟩, ⟨_, Try.func26, t26⟩, ⟨_, Try.func27, t27⟩, ⟨_, Try.func28, t28⟩, ⟨_, Try.func29, t29⟩, ⟨_, Try.func30, t30⟩, ⟨_, Try.func31, t31⟩, ⟨_, Try.func32, t32⟩, ⟨_, Try.func33, t33⟩, ⟨_, Try.func36, t36⟩, ⟨_, Try.func37, t37⟩, ⟨_, Try.func38, t38⟩, ⟨_, Try.func39, t39⟩, ⟨_, Try.func40, t40⟩, ⟨_, Try.func41, t41⟩, ⟨_, Try.func42, t42⟩, ⟨_, Try.func43, t43⟩, ⟨_, Try.func44, t44⟩, ⟨_, Try.func45, t45⟩, ⟨_, Try.func46, t46⟩, trivial⟩
theorem prims_ok : AllPrim Try.prog prims := ⟨noEsc_ok Try.func34 (by kernel_rfl) (by kernel_rfl) (by kernel_rfl) (by kernel_rfl), idxByte_ok Try.func35 (by kernel_rfl) (by kernel_rfl) (by kernel_rfl) (by kernel_rfl), trivial⟩
theorem env_ok : EnvOK Try.prog E := envP_ok tbl_ok prims_ok
end Go.Proofs.Ytajjclkdggoobaa
