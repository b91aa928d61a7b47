/-
  NARROWER THAN 'FOR EVERY INPUT', by the rows' own cells (each row's printed sentence says how): StoreTwins: loops · StoreEquals: loops · StoreExtents: loops.
  DERIVED. THE GIVEN ROWS OF THIS SEAT. 3 by the template 'for every input the law returns true; each argument reads behind the call as it read before'; 0 by the template 'total and deterministic' (their statements: YthifmankpcadjaaTotals.lean).
  GIVEN WITH THE SEED: the statements are not yours to turn. If you find one false, say at which input.
  Laid BY PROGRAM, IN A SANDBOX (cutbox-rows.mjs): the forced cells as the released guide's own fill.sh prints them over the translation 3777b5b9216e2f5a… (all of the seat's roots in one cut). By AI agents, Wed Nov 11 2026. No macro, syntax, notation, axiom, sorry.
-/
import Derived.Test.YthifmankpcadjaaChecked
import GoSem.Claim
import GoSem.ClaimJoined
import GoSem.ClaimMapViews
import Derived.JoinedTies
import Derived.KernelRfl
namespace Go.Proofs.Ythifmankpcadjaa
/- THE CELL 'sum', in the pinned program and in every row, IS THE sha256 OF THE DUMP (.gsa) THAT YthifmankpcadjaaProg.lean LOADS. Nothing in Lean hashes anything: it is a label: what it is worth is what the hold of that sum in a sandbox is worth. -/
noncomputable def Try.pinned : Pinned := { name := "ythifmankpcadjaa", sum := "3777b5b9216e2f5a1fea858f361a0560df8bdc27e5529c2827d6409c578b5a01", checked := Try.checked }
namespace Rows
def none {H : Type} : Left H := { results := [], args := [] }

/-- 'proctorlaw3.StoreTwins': WHATEVER THE INPUT: true; the input reads as it did. -/
def storeTwinsSpec : ChangeSpec := { name := "storeTwins", fn := fun _ => fun
  | [d] => { results := [.lit (.bool true)], args := [d] }
  | _ => none }
def storeTwinsRow : OpenClaim := { program := "ythifmankpcadjaa", sum := "3777b5b9216e2f5a1fea858f361a0560df8bdc27e5529c2827d6409c578b5a01", func := "proctor/proctorlaw3.StoreTwins", spec := "storeTwins", inPlace := ["slices.overlaps[int]"], unfollowed := true, recurses := true, loops := true, plainKeys := false, apart := false }
def StoreTwinsSaid : Prop := storeTwinsRow.holds Try.pinned (OpenSpec.ofChange storeTwinsSpec)

/-- ITS FALSE NEIGHBOUR: 'it returns false'. Refute it at one input. -/
def storeTwinsWrong : ChangeSpec := { name := "storeTwins", fn := fun _ => fun
  | [d] => { results := [.lit (.bool false)], args := [d] }
  | _ => none }
def StoreTwinsWrongFalsely : Prop := storeTwinsRow.holds Try.pinned (OpenSpec.ofChange storeTwinsWrong)

/-- 'proctorlaw3.StoreEquals': WHATEVER THE INPUT: true; the input reads as it did. -/
def storeEqualsSpec : ChangeSpec := { name := "storeEquals", fn := fun _ => fun
  | [d] => { results := [.lit (.bool true)], args := [d] }
  | _ => none }
def storeEqualsRow : OpenClaim := { program := "ythifmankpcadjaa", sum := "3777b5b9216e2f5a1fea858f361a0560df8bdc27e5529c2827d6409c578b5a01", func := "proctor/proctorlaw3.StoreEquals", spec := "storeEquals", inPlace := ["slices.overlaps[int]"], unfollowed := true, recurses := true, loops := true, plainKeys := false, apart := false }
def StoreEqualsSaid : Prop := storeEqualsRow.holds Try.pinned (OpenSpec.ofChange storeEqualsSpec)

/-- ITS FALSE NEIGHBOUR: 'it returns false'. Refute it at one input. -/
def storeEqualsWrong : ChangeSpec := { name := "storeEquals", fn := fun _ => fun
  | [d] => { results := [.lit (.bool false)], args := [d] }
  | _ => none }
def StoreEqualsWrongFalsely : Prop := storeEqualsRow.holds Try.pinned (OpenSpec.ofChange storeEqualsWrong)

/-- 'proctorlaw3.StoreExtents': WHATEVER THE INPUT: true; the input reads as it did. -/
def storeExtentsSpec : ChangeSpec := { name := "storeExtents", fn := fun _ => fun
  | [d] => { results := [.lit (.bool true)], args := [d] }
  | _ => none }
def storeExtentsRow : OpenClaim := { program := "ythifmankpcadjaa", sum := "3777b5b9216e2f5a1fea858f361a0560df8bdc27e5529c2827d6409c578b5a01", func := "proctor/proctorlaw3.StoreExtents", spec := "storeExtents", inPlace := ["slices.overlaps[int]"], unfollowed := true, recurses := true, loops := true, plainKeys := false, apart := false }
def StoreExtentsSaid : Prop := storeExtentsRow.holds Try.pinned (OpenSpec.ofChange storeExtentsSpec)

/-- ITS FALSE NEIGHBOUR: 'it returns false'. Refute it at one input. -/
def storeExtentsWrong : ChangeSpec := { name := "storeExtents", fn := fun _ => fun
  | [d] => { results := [.lit (.bool false)], args := [d] }
  | _ => none }
def StoreExtentsWrongFalsely : Prop := storeExtentsRow.holds Try.pinned (OpenSpec.ofChange storeExtentsWrong)

/- THE SECOND FORM. 'bulk': how many values and letters a reading holds, each counted each time it is reached (what is shared counts as often as it is met; a slice's spare places count too). A statement '..UptoSaid' is the law's where the arguments, and the package variables that the reading takes, are together of bulk at most 1048576: NARROWER than '..Said'. Prove '..Said' where nothing that the law and all that it calls make is longer than what came in: it says more and counts as full. Else prove '..UptoSaid'. A law counts once. -/
mutual
def uptoBulk {H : Type} : DataW H → Nat
  | .lit (.string bytes) => bytes.length + 1
  | .lit _ => 1
  | .nil => 1
  | .ptr d => uptoBulk d + 1
  | .slice elems spare => uptoBulkAll elems + uptoBulkAll spare + 1
  | .agg parts => uptoBulkAll parts + 1
  | .iface _ d => uptoBulk d + 1
  | .map entries => uptoBulkEntries entries + 1
  | .held _ => 1
def uptoBulkAll {H : Type} : List (DataW H) → Nat
  | [] => 0
  | d :: r => uptoBulk d + uptoBulkAll r
def uptoBulkEntries {H : Type} : List (Lit × DataW H) → Nat
  | [] => 0
  | x :: r => uptoBulkEntry x + uptoBulkEntries r
def uptoBulkEntry {H : Type} : Lit × DataW H → Nat
  | (.string bytes, d) => bytes.length + uptoBulk d + 1
  | (_, d) => uptoBulk d + 1
 end
def uptoSmall : (H : Type) → List (DataW H) → Bool := fun _ ds => decide (uptoBulkAll ds ≤ 1048576)
def OpenSpec.upto (s : _root_.Go.ChangeSpec) : _root_.Go.OpenSpec := { _root_.Go.OpenSpec.ofChange s with cond := some uptoSmall }

/-- 'proctorlaw3.StoreTwins', WHERE WHAT IT READS IS OF BULK AT MOST 1048576: true; the input reads as it did. -/
def storeTwinsUptoRow : OpenClaim := { program := "ythifmankpcadjaa", sum := "3777b5b9216e2f5a1fea858f361a0560df8bdc27e5529c2827d6409c578b5a01", func := "proctor/proctorlaw3.StoreTwins", spec := "storeTwins", inPlace := ["slices.overlaps[int]"], unfollowed := true, recurses := true, loops := true, plainKeys := false, apart := false, narrowed := true }
def StoreTwinsUptoSaid : Prop := storeTwinsUptoRow.holds Try.pinned (OpenSpec.upto storeTwinsSpec)

/-- 'proctorlaw3.StoreEquals', WHERE WHAT IT READS IS OF BULK AT MOST 1048576: true; the input reads as it did. -/
def storeEqualsUptoRow : OpenClaim := { program := "ythifmankpcadjaa", sum := "3777b5b9216e2f5a1fea858f361a0560df8bdc27e5529c2827d6409c578b5a01", func := "proctor/proctorlaw3.StoreEquals", spec := "storeEquals", inPlace := ["slices.overlaps[int]"], unfollowed := true, recurses := true, loops := true, plainKeys := false, apart := false, narrowed := true }
def StoreEqualsUptoSaid : Prop := storeEqualsUptoRow.holds Try.pinned (OpenSpec.upto storeEqualsSpec)

/-- 'proctorlaw3.StoreExtents', WHERE WHAT IT READS IS OF BULK AT MOST 1048576: true; the input reads as it did. -/
def storeExtentsUptoRow : OpenClaim := { program := "ythifmankpcadjaa", sum := "3777b5b9216e2f5a1fea858f361a0560df8bdc27e5529c2827d6409c578b5a01", func := "proctor/proctorlaw3.StoreExtents", spec := "storeExtents", inPlace := ["slices.overlaps[int]"], unfollowed := true, recurses := true, loops := true, plainKeys := false, apart := false, narrowed := true }
def StoreExtentsUptoSaid : Prop := storeExtentsUptoRow.holds Try.pinned (OpenSpec.upto storeExtentsSpec)

end Rows
end Go.Proofs.Ythifmankpcadjaa
