/-
  The functions that the laws enter are the program's (each checked by the kernel).
-/
import Derived.Test.YtflpfelalockgaaProg
import Derived.Test.YtflpfelalockgaaXD
import Derived.Test.YtflpfelalockgaaXL
import Derived.Conc.MuLone
import Derived.KernelRfl
namespace Go.Proofs.Ytflpfelalockgaa
open Go.Ab

theorem t3 : compFn Try.prog Try.f3 = some (stripF A3) := by kernel_rfl
theorem t4 : compFn Try.prog Try.f4 = some (stripF A4) := by kernel_rfl
theorem t5 : compFn Try.prog Try.f5 = some (stripF A5) := by kernel_rfl
theorem t6 : compFn Try.prog Try.f6 = some (stripF A6) := by kernel_rfl
theorem t7 : compFn Try.prog Try.f7 = some (stripF A7) := by kernel_rfl
theorem t8 : compFn Try.prog Try.f8 = some (stripF A8) := by kernel_rfl
theorem t9 : compFn Try.prog Try.f9 = some (stripF A9) := by kernel_rfl
theorem t10 : compFn Try.prog Try.f10 = some (stripF A10) := by kernel_rfl
theorem t11 : compFn Try.prog Try.f11 = some (stripF A11) := by kernel_rfl
theorem t12 : compFn Try.prog Try.f12 = some (stripF A12) := by kernel_rfl
theorem t13 : compFn Try.prog Try.f13 = some (stripF A13) := by kernel_rfl
theorem t14 : compFn Try.prog Try.f14 = some (stripF A14) := by kernel_rfl
theorem t15 : compFn Try.prog Try.f15 = some (stripF A15) := by kernel_rfl
theorem t16 : compFn Try.prog Try.f16 = some (stripF A16) := by kernel_rfl
theorem t17 : compFn Try.prog Try.f17 = some (stripF A17) := by kernel_rfl
theorem t18 : compFn Try.prog Try.f18 = some (stripF A18) := by kernel_rfl
theorem t19 : compFn Try.prog Try.f19 = some (stripF A19) := by kernel_rfl
theorem t20 : compFn Try.prog Try.f20 = some (stripF A20) := by kernel_rfl
theorem t21 : compFn Try.prog Try.f21 = some (stripF A21) := by kernel_rfl
theorem t22 : compFn Try.prog Try.f22 = some (stripF A22) := by kernel_rfl
theorem t23 : compFn Try.prog Try.f23 = some (stripF A23) := by kernel_rfl
theorem t24 : compFn Try.prog Try.f24 = some (stripF A24) := by kernel_rfl
theorem t25 : compFn Try.prog Try.f25 = some (stripF A25) := by kernel_rfl
theorem t26 : compFn Try.prog Try.f26 = some (stripF A26) := by kernel_rfl
theorem t27 : compFn Try.prog Try.f27 = some (stripF A27) := by kernel_rfl
theorem t29 : compFn Try.prog Try.f29 = some (stripF A29) := by kernel_rfl

theorem tbl_ok : AllOK Try.prog tbl := ⟨⟨_, Try.func3, t3⟩, ⟨_, Try.func4, t4⟩, ⟨_, Try.func5, t5⟩, ⟨_, Try.func6, t6⟩, ⟨_, Try.func7, t7⟩, ⟨_, Try.func8, t8⟩, ⟨_, Try.func9, t9⟩, ⟨_, Try.func10, t10⟩, ⟨_, Try.func11, t11⟩, ⟨_, Try.func12, t12⟩, ⟨_, Try.func13, t13⟩, ⟨_, Try.func14, t14⟩, ⟨_, Try.func15, t15⟩, ⟨_, Try.func16, t16⟩, ⟨_, Try.func17, t17⟩, ⟨_, Try.func18, t18⟩, ⟨_, Try.func19, t19⟩, ⟨_, Try.func20, t20⟩, ⟨_, Try.func21, t21⟩, ⟨_, Try.func22, t22⟩, ⟨_, Try.func23, t23⟩, ⟨_, Try.func24, t24⟩, ⟨_, Try.func25, t25⟩, ⟨_, Try.func26, t26⟩, ⟨_, Try.func27, t27⟩, ⟨_, Try.func29, t29⟩, trivial⟩
theorem body28 : ∃ c, Try.f28.body = some c := by
  have h : Try.f28.body.isSome = true := by kernel_rfl
  cases e : Try.f28.body with
  | none => rw [e] at h; cases h
  | some c => exact ⟨c, rfl⟩
theorem enter28 (args : Array Value) (w : World) : (callFunc 28 args).run Try.prog w = .ok (.enter 28 args) w := by
  obtain ⟨c, h⟩ := body28
  exact _root_.Go.MuLone.run_callFunc_enter Try.func28 (by kernel_rfl) h args w
theorem body29 : ∃ c, Try.f29.body = some c := by
  have h : Try.f29.body.isSome = true := by kernel_rfl
  cases e : Try.f29.body with
  | none => rw [e] at h; cases h
  | some c => exact ⟨c, rfl⟩
theorem enter29 (args : Array Value) (w : World) : (callFunc 29 args).run Try.prog w = .ok (.enter 29 args) w := by
  obtain ⟨c, h⟩ := body29
  exact _root_.Go.MuLone.run_callFunc_enter Try.func29 (by kernel_rfl) h args w
theorem prims_ok : AllPrim Try.prog prims := ⟨sortP_ok sortL rfl enter28 (fun g hg args w => by
    simp only [List.mem_cons, List.not_mem_nil, or_false] at hg
    subst hg; exact enter29 args w), trivial⟩
theorem env_ok : EnvOK Try.prog E := envP_ok tbl_ok prims_ok
end Go.Proofs.Ytflpfelalockgaa
