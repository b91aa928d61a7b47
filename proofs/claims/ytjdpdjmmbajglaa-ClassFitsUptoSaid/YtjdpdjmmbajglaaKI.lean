/-
  Classes as they are handed in.
-/
import Derived.Test.YtjdpdjmmbajglaaKE
import Derived.Test.YtjdpdjmmbajglaaAbLaw
import Derived.Test.YtjdpdjmmbajglaaRows
import Derived.KernelRfl
namespace Go.Proofs.Ytjdpdjmmbajglaa
open Go.Ab
set_option linter.unusedSimpArgs false
set_option linter.unusedVariables false

mutual
theorem bulk_eq {H : Type} : ∀ (d : DataW H), Rows.uptoBulk d = bulk d
  | .lit l => by cases l <;> simp [Rows.uptoBulk, bulk]
  | .nil => by simp [Rows.uptoBulk, bulk]
  | .ptr d => by simp [Rows.uptoBulk, bulk, bulk_eq d]
  | .slice a b => by simp [Rows.uptoBulk, bulk, bulkAll_eq a, bulkAll_eq b]
  | .agg a => by simp [Rows.uptoBulk, bulk, bulkAll_eq a]
  | .iface _ d => by simp [Rows.uptoBulk, bulk, bulk_eq d]
  | .map es => by simp [Rows.uptoBulk, bulk, bulkEntries_eq es]
  | .held _ => by simp [Rows.uptoBulk, bulk]
theorem bulkAll_eq {H : Type} : ∀ (l : List (DataW H)), Rows.uptoBulkAll l = bulkAll l
  | [] => rfl
  | d :: l => by simp [Rows.uptoBulkAll, bulkAll, bulk_eq d, bulkAll_eq l]
theorem bulkEntries_eq {H : Type} : ∀ (l : List (Lit × DataW H)), Rows.uptoBulkEntries l = bulkEntries l
  | [] => rfl
  | (k, d) :: l => by
    have h1 := bulk_eq d
    have h2 := bulkEntries_eq l
    cases k <;> simp [Rows.uptoBulkEntries, bulkEntries, Rows.uptoBulkEntry, bulkEntry, h1, h2]
end

def szF (f : Fld) : Nat := f.name.length + 1
def szC (c : Cls) : Nat := c.name.length + szL szF c.fields + 1
def RF : Rd Fld := fun _ a f => a = encF f
def RC : Rd Cls := fun h a c => RCls h a c
def RCV : Rd (List Cls) := fun h a l => ∃ v, a = [v] ∧ CV h v l

theorem all2_enc {h : AHeap} {es : List (List AV)} {fs : List Fld} (he : All2 (RF h) es fs) : es = fs.map encF := by
  induction he with
  | nil => rfl
  | cons h _ ih =>
    have h' : _ = encF _ := h
    rw [List.map_cons, ih, h']

theorem RF.mono : Mono RF := fun _ _ _ _ _ h => h
theorem RC.mono : Mono RC := fun _ _ _ _ e h => RCls.ext h e

section
variable {H : Type} {enc : TypeId × Value → H} {W : World} {held : Bool}

theorem inF : In enc Try.prog W held 37 3 szF RF := by
  have I := In.struct (enc := enc) (W := W) (held := held) (P := Try.prog) (t := 37) (tot := 3) Try.underlying37 rfl (by kernel_rfl)
    (InF.cons (off := 0) (n := 1) (by kernel_rfl) RStr.mono (In.str Try.underlying9) (InF.cons (off := 1) (n := 1) (by kernel_rfl) RInt.mono (In.int Try.underlying3) (InF.cons (off := 2) (n := 1) (by kernel_rfl) RStr.mono (In.str Try.underlying9) InF.nil)))
  refine I.conv ?_
  rintro h a ⟨s, i, s2, u⟩ ⟨b1, c1, rfl, _, ⟨rfl, _⟩, b2, c2, rfl, _, ⟨rfl, _⟩, b3, c3, rfl, _, ⟨rfl, _⟩, rfl⟩
  exact ⟨⟨s, i, s2⟩, rfl, by simp [szF]; omega⟩

theorem inFs : In enc Try.prog W held 33 1 (fun l => szL szF l + 1) (RSl 3 RF) := In.slice Try.underlying33 (by kernel_rfl) (by decide) RF.mono inF

theorem inC : In enc Try.prog W held 35 3 szC RC := by
  have I := In.struct (enc := enc) (W := W) (held := held) (P := Try.prog) (t := 35) (tot := 3) Try.underlying35 rfl (by kernel_rfl)
    (InF.cons (off := 0) (n := 1) (by kernel_rfl) RStr.mono (In.str Try.underlying9) (InF.cons (off := 1) (n := 1) (by kernel_rfl) RStr.mono (In.str Try.underlying9) (InF.cons (off := 2) (n := 1) (by kernel_rfl) (RSl.mono RF.mono) inFs InF.nil)))
  refine I.conv ?_
  rintro h a ⟨s, s2, fs, u⟩ ⟨b1, c1, rfl, _, ⟨rfl, _⟩, b2, c2, rfl, _, ⟨rfl, _⟩, b3, c3, rfl, _, hf, rfl⟩
  obtain ⟨v, es, rfl, hv, he⟩ := hf.view
  rw [all2_enc he] at hv
  exact ⟨⟨s, s2, fs⟩, ⟨v, rfl, hv⟩, by simp [szC]; omega⟩

theorem inCV : In enc Try.prog W held 22 1 (fun l => szL szC l + 1) RCV := by
  refine (In.slice (enc := enc) (W := W) (held := held) Try.underlying22 (by kernel_rfl) (by decide) RC.mono inC).conv ?_
  intro h a l hl
  obtain ⟨v, es, rfl, hv, he⟩ := hl.view
  exact ⟨l, ⟨v, rfl, es, hv, he⟩, Nat.le_refl _⟩
end

theorem szF_pos (f : Fld) : 1 ≤ szF f := by unfold szF; omega
theorem szC_pos (c : Cls) : 1 ≤ szC c := by unfold szC; omega

theorem load_le : ∀ (l : List Cls), load l ≤ szL szC l
  | [] => Nat.le_refl _
  | c :: l => by
    have h1 := load_le l
    have h2 := szL_length szF_pos c.fields
    have : load (c :: l) = 1 + c.fields.length + load l := by simp [load]
    rw [this]
    simp only [szL, szC]
    omega

theorem room_of {n : Nat} {l : List Cls} (h1 : 5000 < n) (h2 : n + 10 < lim) (h : szL szC l ≤ n) : Room n l := by
  refine ⟨h1, h2, fun c hc => ?_⟩
  have hc1 := szL_mem (sz := szC) hc
  have e1 : szC c = c.name.length + szL szF c.fields + 1 := rfl
  refine ⟨by omega, fun f hf => ?_⟩
  have hf1 := szL_mem (sz := szF) hf
  have e2 : szF f = f.name.length + 1 := rfl
  omega
end Go.Proofs.Ytjdpdjmmbajglaa
