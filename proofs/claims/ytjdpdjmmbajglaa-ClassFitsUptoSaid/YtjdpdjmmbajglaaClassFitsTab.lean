/-
  ClassFits: the functions that the law enters are the program's (each checked by the kernel).
-/
import Derived.Test.YtjdpdjmmbajglaaProg
import Derived.Test.YtjdpdjmmbajglaaXD
import Derived.KernelRfl
namespace Go.Proofs.Ytjdpdjmmbajglaa.classFits
open Go.Ab

theorem t7 : compFn Try.prog Try.f7 = some (stripF A7) := by kernel_rfl
theorem t8 : compFn Try.prog Try.f8 = some (stripF A8) := by kernel_rfl
theorem t9 : compFn Try.prog Try.f9 = some (stripF A9) := by kernel_rfl
theorem t11 : compFn Try.prog Try.f11 = some (stripF A11) := by kernel_rfl
theorem t14 : compFn Try.prog Try.f14 = some (stripF A14) := by kernel_rfl
theorem t15 : compFn Try.prog Try.f15 = some (stripF A15) := by kernel_rfl
theorem t16 : compFn Try.prog Try.f16 = some (stripF A16) := by kernel_rfl
theorem t18 : compFn Try.prog Try.f18 = some (stripF A18) := by kernel_rfl
theorem t19 : compFn Try.prog Try.f19 = some (stripF A19) := by kernel_rfl
theorem t20 : compFn Try.prog Try.f20 = some (stripF A20) := by kernel_rfl
theorem t21 : compFn Try.prog Try.f21 = some (stripF A21) := by kernel_rfl
theorem t22 : compFn Try.prog Try.f22 = some (stripF A22) := by kernel_rfl
theorem t24 : compFn Try.prog Try.f24 = some (stripF A24) := by kernel_rfl
theorem t25 : compFn Try.prog Try.f25 = some (stripF A25) := by kernel_rfl
theorem t26 : compFn Try.prog Try.f26 = some (stripF A26) := by kernel_rfl
theorem t27 : compFn Try.prog Try.f27 = some (stripF A27) := by kernel_rfl
theorem t28 : compFn Try.prog Try.f28 = some (stripF A28) := by kernel_rfl
theorem t29 : compFn Try.prog Try.f29 = some (stripF A29) := by kernel_rfl
theorem t30 : compFn Try.prog Try.f30 = some (stripF A30) := by kernel_rfl
theorem t31 : compFn Try.prog Try.f31 = some (stripF A31) := by kernel_rfl
theorem t32 : compFn Try.prog Try.f32 = some (stripF A32) := by kernel_rfl
theorem t33 : compFn Try.prog Try.f33 = some (stripF A33) := by kernel_rfl
theorem t34 : compFn Try.prog Try.f34 = some (stripF A34) := by kernel_rfl
theorem t35 : compFn Try.prog Try.f35 = some (stripF A35) := by kernel_rfl
theorem t36 : compFn Try.prog Try.f36 = some (stripF A36) := by kernel_rfl
theorem t38 : compFn Try.prog Try.f38 = some (stripF A38) := by kernel_rfl
theorem t39 : compFn Try.prog Try.f39 = some (stripF A39) := by kernel_rfl
theorem t40 : compFn Try.prog Try.f40 = some (stripF A40) := by kernel_rfl
theorem t41 : compFn Try.prog Try.f41 = some (stripF A41) := by kernel_rfl
theorem t42 : compFn Try.prog Try.f42 = some (stripF A42) := by kernel_rfl
theorem t43 : compFn Try.prog Try.f43 = some (stripF A43) := by kernel_rfl
theorem t44 : compFn Try.prog Try.f44 = some (stripF A44) := by kernel_rfl
theorem t45 : compFn Try.prog Try.f45 = some (stripF A45) := by kernel_rfl
theorem t46 : compFn Try.prog Try.f46 = some (stripF A46) := by kernel_rfl
theorem t47 : compFn Try.prog Try.f47 = some (stripF A47) := by kernel_rfl
theorem t48 : compFn Try.prog Try.f48 = some (stripF A48) := by kernel_rfl
theorem t49 : compFn Try.prog Try.f49 = some (stripF A49) := by kernel_rfl
theorem t50 : compFn Try.prog Try.f50 = some (stripF A50) := by kernel_rfl
theorem t51 : compFn Try.prog Try.f51 = some (stripF A51) := by kernel_rfl
theorem t52 : compFn Try.prog Try.f52 = some (stripF A52) := by kernel_rfl
theorem t53 : compFn Try.prog Try.f53 = some (stripF A53) := by kernel_rfl
theorem t54 : compFn Try.prog Try.f54 = some (stripF A54) := by kernel_rfl
theorem t55 : compFn Try.prog Try.f55 = some (stripF A55) := by kernel_rfl
theorem t56 : compFn Try.prog Try.f56 = some (stripF A56) := by kernel_rfl

theorem tbl_ok : AllOK Try.prog tbl := ⟨⟨_, Try.func7, t7⟩, ⟨_, Try.func8, t8⟩, ⟨_, Try.func9, t9⟩, ⟨_, Try.func11, t11⟩, ⟨_, Try.func14, t14⟩, ⟨_, Try.func15, t15⟩, ⟨_, Try.func16, t16⟩, ⟨_, Try.func18, t18⟩, ⟨_, Try.func19, t19⟩, ⟨_, Try.func20, t20⟩, ⟨_, Try.func21, t21⟩, ⟨_, Try.func22, t22⟩, ⟨_, Try.func24, t24⟩, ⟨_, Try.func25, t25⟩, ⟨_, Try.func26, t26⟩, ⟨_, Try.func27, t27⟩, ⟨_, Try.func28, t28⟩, ⟨_, Try.func29, t29⟩, ⟨_, Try.func30, t30⟩, ⟨_, Try.func31, t31⟩, ⟨_, Try.func32, t32⟩, ⟨_, Try.func33, t33⟩, ⟨_, Try.func34, t34⟩, ⟨_, Try.func35, t35⟩, ⟨_, Try.func36, t36⟩, ⟨_, Try.func38, t38⟩, ⟨_, Try.func39, t39⟩, ⟨_, Try.func40, t40⟩, ⟨_, Try.func41, t41⟩, ⟨_, Try.func42, t42⟩, ⟨_, Try.func43, t43⟩, ⟨_, Try.func44, t44⟩, ⟨_, Try.func45, t45⟩, ⟨_, Try.func46, t46⟩, ⟨_, Try.func47, t47⟩, ⟨_, Try.func48, t48⟩, ⟨_, Try.func49, t49⟩, ⟨_, Try.func50, t50⟩, ⟨_, Try.func51, t51⟩, ⟨_, Try.func52, t52⟩, ⟨_, Try.func53, t53⟩, ⟨_, Try.func54, t54⟩, ⟨_, Try.func55, t55⟩, ⟨_, Try.func56, t56⟩, trivial⟩
theorem env_ok : EnvOK Try.prog E := envT_ok tbl_ok
theorem env7 : E.code 7 = some A7 := rfl
end Go.Proofs.Ytjdpdjmmbajglaa.classFits
