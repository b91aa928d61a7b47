/-
  What is handed in: lists of changes of two sets.
-/
import Derived.Test.YtflpfelalockgaaAbInput
import Derived.Test.YtflpfelalockgaaAbLaw
import Derived.Test.YtflpfelalockgaaAbView
import Derived.Test.YtflpfelalockgaaS7
import Derived.Test.YtflpfelalockgaaProg
import Derived.KernelRfl
namespace Go.Proofs.Ytflpfelalockgaa
set_option linter.unusedVariables false

abbrev Scr := List (Int × List Nat) × List (Int × List Nat)
def ROp : Ab.Rd (Int × List Nat) := fun _ a x => a = encO x
theorem ROp.mono : Ab.Mono ROp := fun _ _ _ _ _ h => h
def RScr : Ab.Rd Scr := fun h a x => ∃ va vb, a = [va, vb] ∧ Ab.View h 2 va (x.1.map encO) ∧ Ab.View h 2 vb (x.2.map encO)

theorem all2_op {h : Ab.AHeap} {es : List (List Ab.AV)} {l : List (Int × List Nat)} (a : Ab.All2 (ROp h) es l) : es = l.map encO := by
  induction a with
  | nil => rfl
  | cons h t ih => rw [ih, show _ = encO _ from h]; rfl

section
variable {H : Type} {enc : TypeId × Value → H} {W : World} {held : Bool}
theorem inOp : Ab.In enc Try.prog W held 30 2 (fun _ => 1) ROp := by
  have I := Ab.In.struct (enc := enc) (W := W) (held := held) (P := Try.prog) (t := 30) (tot := 2) Try.underlying30 rfl (by kernel_rfl)
    (Ab.InF.cons (off := 0) (n := 1) (by kernel_rfl) Ab.RInt.mono (Ab.In.int Try.underlying3) (Ab.InF.cons (off := 1) (n := 1) (by kernel_rfl) Ab.RStr.mono (Ab.In.str Try.underlying9) Ab.InF.nil))
  refine I.conv ?_
  rintro h a ⟨z, s, u⟩ ⟨b1, c1, rfl, _, ⟨rfl, _⟩, b2, c2, rfl, _, ⟨rfl, _⟩, rfl⟩
  exact ⟨(z, s), rfl, by simp⟩
theorem inOps : Ab.In enc Try.prog W held 22 1 (fun l => Ab.szL (fun _ : Int × List Nat => 1) l + 1) (Ab.RSl 2 ROp) := Ab.In.slice Try.underlying22 (by kernel_rfl) (by decide) ROp.mono inOp
theorem inScr : Ab.In enc Try.prog W held 24 2 (fun _ => 1) RScr := by
  have I := Ab.In.struct (enc := enc) (W := W) (held := held) (P := Try.prog) (t := 24) (tot := 2) Try.underlying24 rfl (by kernel_rfl)
    (Ab.InF.cons (off := 0) (n := 1) (by kernel_rfl) (Ab.RSl.mono ROp.mono) inOps (Ab.InF.cons (off := 1) (n := 1) (by kernel_rfl) (Ab.RSl.mono ROp.mono) inOps Ab.InF.nil))
  refine I.conv ?_
  rintro h a ⟨x, y, u⟩ ⟨b1, c1, rfl, _, hx, b2, c2, rfl, _, hy, rfl⟩
  obtain ⟨vx, ex, rfl, hx1, hx2⟩ := hx.view
  obtain ⟨vy, ey, rfl, hy1, hy2⟩ := hy.view
  rw [all2_op hx2] at hx1
  rw [all2_op hy2] at hy1
  exact ⟨(x, y), ⟨vx, vy, rfl, hx1, hy1⟩, by simp⟩
end
end Go.Proofs.Ytflpfelalockgaa
