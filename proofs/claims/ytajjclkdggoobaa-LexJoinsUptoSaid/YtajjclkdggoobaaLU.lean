/-
  The bulk of what comes in.
-/
import Derived.Test.YtajjclkdggoobaaAbInput
import Derived.Test.YtajjclkdggoobaaRows
namespace Go.Proofs.Ytajjclkdggoobaa
open Go.Ab
set_option linter.unusedVariables false
mutual
theorem bulk_eq {H : Type} : ∀ (d : DataW H), Rows.uptoBulk d = bulk d
  | .lit l => by cases l <;> simp [Rows.uptoBulk, bulk]
  | .nil => by simp [Rows.uptoBulk, bulk]
  | .ptr d => by simp [Rows.uptoBulk, bulk, bulk_eq d]
  | .slice a b => by simp [Rows.uptoBulk, bulk, bulkAll_eq a, bulkAll_eq b]
  | .agg a => by simp [Rows.uptoBulk, bulk, bulkAll_eq a]
  | .iface _ d => by simp [Rows.uptoBulk, bulk, bulk_eq d]
  | .map es => by simp [Rows.uptoBulk, bulk, bulkEntries_eq es]
  | .held _ => by simp [Rows.uptoBulk, bulk]
theorem bulkAll_eq {H : Type} : ∀ (l : List (DataW H)), Rows.uptoBulkAll l = bulkAll l
  | [] => rfl
  | d :: l => by simp [Rows.uptoBulkAll, bulkAll, bulk_eq d, bulkAll_eq l]
theorem bulkEntries_eq {H : Type} : ∀ (l : List (Lit × DataW H)), Rows.uptoBulkEntries l = bulkEntries l
  | [] => rfl
  | (k, d) :: l => by
    have h1 := bulk_eq d
    have h2 := bulkEntries_eq l
    cases k <;> simp [Rows.uptoBulkEntries, bulkEntries, Rows.uptoBulkEntry, bulkEntry, h1, h2]
end

theorem texts {es : List (List Ab.AV)} {l : List (List Nat)} {h : Ab.AHeap} (a : Ab.All2 (Ab.RStr h) es l) : es = l.map (fun s => [Ab.AV.str s]) ∧ ∀ s ∈ l, ∀ b ∈ s, b < 256 := by
  induction a with
  | nil => exact ⟨rfl, fun _ h => by cases h⟩
  | cons h t ih =>
    obtain ⟨h1, h2⟩ := h
    obtain ⟨i1, i2⟩ := ih
    refine ⟨by rw [h1, i1]; rfl, fun s hs => ?_⟩
    rcases List.mem_cons.1 hs with rfl | hs
    · exact h2
    · exact i2 s hs

theorem szTexts (l : List (List Nat)) : ∀ s ∈ l, s.length ≤ Ab.szL (fun s : List Nat => s.length + 1) l := by
  induction l with
  | nil => intro s h; cases h
  | cons x l ih =>
    intro s hs
    have e : Ab.szL (fun s : List Nat => s.length + 1) (x :: l) = (x.length + 1) + Ab.szL (fun s : List Nat => s.length + 1) l := rfl
    rw [e]
    rcases List.mem_cons.1 hs with rfl | hs
    · omega
    · have := ih s hs; omega
end Go.Proofs.Ytajjclkdggoobaa
