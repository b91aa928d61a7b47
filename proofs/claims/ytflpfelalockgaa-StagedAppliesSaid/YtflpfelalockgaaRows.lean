/-
  No cell of these rows narrows 'for every input' (looked for: loops, veiled, ifaces, maps, wideKeys, modest, calm, conditions, laid).
  DERIVED. THE GIVEN ROWS OF THIS SEAT. 3 by the template 'for every input the law returns true; each argument reads behind the call as it read before'; 0 by the template 'total and deterministic' (their statements: YtflpfelalockgaaTotals.lean).
  GIVEN WITH THE SEED: the statements are not yours to turn. If you find one false, say at which input.
  Laid BY PROGRAM, IN A SANDBOX (cutbox-rows.mjs): the forced cells as the released guide's own fill.sh prints them over the translation 4132361b34096ac6… (all of the seat's roots in one cut). By AI agents, Wed Nov 11 2026. No macro, syntax, notation, axiom, sorry.
-/
import Derived.Test.YtflpfelalockgaaChecked
import GoSem.Claim
import GoSem.ClaimJoined
import GoSem.ClaimMapViews
import Derived.JoinedTies
import Derived.KernelRfl
namespace Go.Proofs.Ytflpfelalockgaa
/- THE CELL 'sum', in the pinned program and in every row, IS THE sha256 OF THE DUMP (.gsa) THAT YtflpfelalockgaaProg.lean LOADS. Nothing in Lean hashes anything: it is a label: what it is worth is what the hold of that sum in a sandbox is worth. -/
noncomputable def Try.pinned : Pinned := { name := "ytflpfelalockgaa", sum := "4132361b34096ac65d199d7f2c7ab6f3f554802387f530857bc9161f102d15aa", checked := Try.checked }
namespace Rows
def none {H : Type} : Left H := { results := [], args := [] }

/-- 'proctorlaw14.StagedApplies': WHATEVER THE INPUT: true; the input reads as it did. -/
def stagedAppliesSpec : ChangeSpec := { name := "stagedApplies", fn := fun _ => fun
  | [d] => { results := [.lit (.bool true)], args := [d] }
  | _ => none }
def stagedAppliesRow : OpenClaim := { program := "ytflpfelalockgaa", sum := "4132361b34096ac65d199d7f2c7ab6f3f554802387f530857bc9161f102d15aa", func := "proctor/proctorlaw14.StagedApplies", spec := "stagedApplies", unfollowed := true, recurses := true, apart := false }
def StagedAppliesSaid : Prop := stagedAppliesRow.holds Try.pinned (OpenSpec.ofChange stagedAppliesSpec)

/-- ITS FALSE NEIGHBOUR: 'it returns false'. Refute it at one input. -/
def stagedAppliesWrong : ChangeSpec := { name := "stagedApplies", fn := fun _ => fun
  | [d] => { results := [.lit (.bool false)], args := [d] }
  | _ => none }
def StagedAppliesWrongFalsely : Prop := stagedAppliesRow.holds Try.pinned (OpenSpec.ofChange stagedAppliesWrong)

/-- 'proctorlaw14.StagedExact': WHATEVER THE INPUT: true; the input reads as it did. -/
def stagedExactSpec : ChangeSpec := { name := "stagedExact", fn := fun _ => fun
  | [d] => { results := [.lit (.bool true)], args := [d] }
  | _ => none }
def stagedExactRow : OpenClaim := { program := "ytflpfelalockgaa", sum := "4132361b34096ac65d199d7f2c7ab6f3f554802387f530857bc9161f102d15aa", func := "proctor/proctorlaw14.StagedExact", spec := "stagedExact", unfollowed := true, recurses := true, apart := false }
def StagedExactSaid : Prop := stagedExactRow.holds Try.pinned (OpenSpec.ofChange stagedExactSpec)

/-- ITS FALSE NEIGHBOUR: 'it returns false'. Refute it at one input. -/
def stagedExactWrong : ChangeSpec := { name := "stagedExact", fn := fun _ => fun
  | [d] => { results := [.lit (.bool false)], args := [d] }
  | _ => none }
def StagedExactWrongFalsely : Prop := stagedExactRow.holds Try.pinned (OpenSpec.ofChange stagedExactWrong)

/-- 'proctorlaw14.StagedMerges': WHATEVER THE INPUT: true; the input reads as it did. -/
def stagedMergesSpec : ChangeSpec := { name := "stagedMerges", fn := fun _ => fun
  | [d] => { results := [.lit (.bool true)], args := [d] }
  | _ => none }
def stagedMergesRow : OpenClaim := { program := "ytflpfelalockgaa", sum := "4132361b34096ac65d199d7f2c7ab6f3f554802387f530857bc9161f102d15aa", func := "proctor/proctorlaw14.StagedMerges", spec := "stagedMerges", unfollowed := true, recurses := true, apart := false }
def StagedMergesSaid : Prop := stagedMergesRow.holds Try.pinned (OpenSpec.ofChange stagedMergesSpec)

/-- ITS FALSE NEIGHBOUR: 'it returns false'. Refute it at one input. -/
def stagedMergesWrong : ChangeSpec := { name := "stagedMerges", fn := fun _ => fun
  | [d] => { results := [.lit (.bool false)], args := [d] }
  | _ => none }
def StagedMergesWrongFalsely : Prop := stagedMergesRow.holds Try.pinned (OpenSpec.ofChange stagedMergesWrong)

/- THE SECOND FORM. 'bulk': how many values and letters a reading holds, each counted each time it is reached (what is shared counts as often as it is met; a slice's spare places count too). A statement '..UptoSaid' is the law's where the arguments, and the package variables that the reading takes, are together of bulk at most 1048576: NARROWER than '..Said'. Prove '..Said' where nothing that the law and all that it calls make is longer than what came in: it says more and counts as full. Else prove '..UptoSaid'. A law counts once. -/
mutual
def uptoBulk {H : Type} : DataW H → Nat
  | .lit (.string bytes) => bytes.length + 1
  | .lit _ => 1
  | .nil => 1
  | .ptr d => uptoBulk d + 1
  | .slice elems spare => uptoBulkAll elems + uptoBulkAll spare + 1
  | .agg parts => uptoBulkAll parts + 1
  | .iface _ d => uptoBulk d + 1
  | .map entries => uptoBulkEntries entries + 1
  | .held _ => 1
def uptoBulkAll {H : Type} : List (DataW H) → Nat
  | [] => 0
  | d :: r => uptoBulk d + uptoBulkAll r
def uptoBulkEntries {H : Type} : List (Lit × DataW H) → Nat
  | [] => 0
  | x :: r => uptoBulkEntry x + uptoBulkEntries r
def uptoBulkEntry {H : Type} : Lit × DataW H → Nat
  | (.string bytes, d) => bytes.length + uptoBulk d + 1
  | (_, d) => uptoBulk d + 1
 end
def uptoSmall : (H : Type) → List (DataW H) → Bool := fun _ ds => decide (uptoBulkAll ds ≤ 1048576)
def OpenSpec.upto (s : _root_.Go.ChangeSpec) : _root_.Go.OpenSpec := { _root_.Go.OpenSpec.ofChange s with cond := some uptoSmall }

/-- 'proctorlaw14.StagedApplies', WHERE WHAT IT READS IS OF BULK AT MOST 1048576: true; the input reads as it did. -/
def stagedAppliesUptoRow : OpenClaim := { program := "ytflpfelalockgaa", sum := "4132361b34096ac65d199d7f2c7ab6f3f554802387f530857bc9161f102d15aa", func := "proctor/proctorlaw14.StagedApplies", spec := "stagedApplies", unfollowed := true, recurses := true, apart := false, narrowed := true }
def StagedAppliesUptoSaid : Prop := stagedAppliesUptoRow.holds Try.pinned (OpenSpec.upto stagedAppliesSpec)

/-- 'proctorlaw14.StagedExact', WHERE WHAT IT READS IS OF BULK AT MOST 1048576: true; the input reads as it did. -/
def stagedExactUptoRow : OpenClaim := { program := "ytflpfelalockgaa", sum := "4132361b34096ac65d199d7f2c7ab6f3f554802387f530857bc9161f102d15aa", func := "proctor/proctorlaw14.StagedExact", spec := "stagedExact", unfollowed := true, recurses := true, apart := false, narrowed := true }
def StagedExactUptoSaid : Prop := stagedExactUptoRow.holds Try.pinned (OpenSpec.upto stagedExactSpec)

/-- 'proctorlaw14.StagedMerges', WHERE WHAT IT READS IS OF BULK AT MOST 1048576: true; the input reads as it did. -/
def stagedMergesUptoRow : OpenClaim := { program := "ytflpfelalockgaa", sum := "4132361b34096ac65d199d7f2c7ab6f3f554802387f530857bc9161f102d15aa", func := "proctor/proctorlaw14.StagedMerges", spec := "stagedMerges", unfollowed := true, recurses := true, apart := false, narrowed := true }
def StagedMergesUptoSaid : Prop := stagedMergesUptoRow.holds Try.pinned (OpenSpec.upto stagedMergesSpec)

end Rows
end Go.Proofs.Ytflpfelalockgaa
