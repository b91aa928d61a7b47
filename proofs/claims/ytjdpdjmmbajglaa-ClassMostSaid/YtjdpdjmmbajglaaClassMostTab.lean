/-
  ClassMost: the functions that the law enters are the program's (each checked by the kernel).
-/
import Derived.Test.YtjdpdjmmbajglaaProg
import Derived.Test.YtjdpdjmmbajglaaAbBridge
import Derived.Test.YtjdpdjmmbajglaaClassMostC0
import Derived.KernelRfl
namespace Go.Proofs.Ytjdpdjmmbajglaa.classMost
open Go.Ab

theorem c6 : compFn Try.prog Try.f6 = some (stripF A6) := by kernel_rfl
theorem c9 : compFn Try.prog Try.f9 = some (stripF A9) := by kernel_rfl
theorem c11 : compFn Try.prog Try.f11 = some (stripF A11) := by kernel_rfl
theorem c14 : compFn Try.prog Try.f14 = some (stripF A14) := by kernel_rfl
theorem c16 : compFn Try.prog Try.f16 = some (stripF A16) := by kernel_rfl
theorem c17 : compFn Try.prog Try.f17 = some (stripF A17) := by kernel_rfl
theorem c18 : compFn Try.prog Try.f18 = some (stripF A18) := by kernel_rfl
theorem c19 : compFn Try.prog Try.f19 = some (stripF A19) := by kernel_rfl
theorem c20 : compFn Try.prog Try.f20 = some (stripF A20) := by kernel_rfl
theorem c21 : compFn Try.prog Try.f21 = some (stripF A21) := by kernel_rfl
theorem c22 : compFn Try.prog Try.f22 = some (stripF A22) := by kernel_rfl
theorem c23 : compFn Try.prog Try.f23 = some (stripF A23) := by kernel_rfl
theorem c29 : compFn Try.prog Try.f29 = some (stripF A29) := by kernel_rfl
theorem c30 : compFn Try.prog Try.f30 = some (stripF A30) := by kernel_rfl
theorem c31 : compFn Try.prog Try.f31 = some (stripF A31) := by kernel_rfl
theorem c36 : compFn Try.prog Try.f36 = some (stripF A36) := by kernel_rfl
theorem c38 : compFn Try.prog Try.f38 = some (stripF A38) := by kernel_rfl
theorem c39 : compFn Try.prog Try.f39 = some (stripF A39) := by kernel_rfl
theorem c43 : compFn Try.prog Try.f43 = some (stripF A43) := by kernel_rfl
theorem c44 : compFn Try.prog Try.f44 = some (stripF A44) := by kernel_rfl
theorem c45 : compFn Try.prog Try.f45 = some (stripF A45) := by kernel_rfl
theorem c48 : compFn Try.prog Try.f48 = some (stripF A48) := by kernel_rfl
theorem c49 : compFn Try.prog Try.f49 = some (stripF A49) := by kernel_rfl
theorem c50 : compFn Try.prog Try.f50 = some (stripF A50) := by kernel_rfl
theorem c51 : compFn Try.prog Try.f51 = some (stripF A51) := by kernel_rfl
theorem c54 : compFn Try.prog Try.f54 = some (stripF A54) := by kernel_rfl
theorem c55 : compFn Try.prog Try.f55 = some (stripF A55) := by kernel_rfl

def tbl : List (Nat × AFun) := [(6, A6), (9, A9), (11, A11), (14, A14), (16, A16), (17, A17), (18, A18), (19, A19), (20, A20), (21, A21), (22, A22), (23, A23), (29, A29), (30, A30), (31, A31), (36, A36), (38, A38), (39, A39), (43, A43), (44, A44), (45, A45), (48, A48), (49, A49), (50, A50), (51, A51), (54, A54), (55, A55)]
theorem tbl_ok : AllOK Try.prog tbl := ⟨⟨_, Try.func6, c6⟩, ⟨_, Try.func9, c9⟩, ⟨_, Try.func11, c11⟩, ⟨_, Try.func14, c14⟩, ⟨_, Try.func16, c16⟩, ⟨_, Try.func17, c17⟩, ⟨_, Try.func18, c18⟩, ⟨_, Try.func19, c19⟩, ⟨_, Try.func20, c20⟩, ⟨_, Try.func21, c21⟩, ⟨_, Try.func22, c22⟩, ⟨_, Try.func23, c23⟩, ⟨_, Try.func29, c29⟩, ⟨_, Try.func30, c30⟩, ⟨_, Try.func31, c31⟩, ⟨_, Try.func36, c36⟩, ⟨_, Try.func38, c38⟩, ⟨_, Try.func39, c39⟩, ⟨_, Try.func43, c43⟩, ⟨_, Try.func44, c44⟩, ⟨_, Try.func45, c45⟩, ⟨_, Try.func48, c48⟩, ⟨_, Try.func49, c49⟩, ⟨_, Try.func50, c50⟩, ⟨_, Try.func51, c51⟩, ⟨_, Try.func54, c54⟩, ⟨_, Try.func55, c55⟩, trivial⟩
end Go.Proofs.Ytjdpdjmmbajglaa.classMost
