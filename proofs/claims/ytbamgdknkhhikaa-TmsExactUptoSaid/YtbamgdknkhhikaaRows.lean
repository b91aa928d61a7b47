/-
  NARROWER THAN 'FOR EVERY INPUT', by the rows' own cells (each row's printed sentence says how): TmsExact: loops · TmsOrder: loops · TmsCounts: loops.
  DERIVED. THE GIVEN ROWS OF THIS SEAT. 3 by the template 'for every input the law returns true; each argument reads behind the call as it read before'; 0 by the template 'total and deterministic' (their statements: YtbamgdknkhhikaaTotals.lean).
  GIVEN WITH THE SEED: the statements are not yours to turn. If you find one false, say at which input.
  Laid BY PROGRAM, IN A SANDBOX (cutbox-rows.mjs): the forced cells as the released guide's own fill.sh prints them over the translation 7fda3609df50c8f0… (all of the seat's roots in one cut). By AI agents, Wed Nov 11 2026. No macro, syntax, notation, axiom, sorry.
-/
import Derived.Test.YtbamgdknkhhikaaChecked
import GoSem.Claim
import GoSem.ClaimJoined
import GoSem.ClaimMapViews
import Derived.JoinedTies
import Derived.KernelRfl
namespace Go.Proofs.Ytbamgdknkhhikaa
/- THE CELL 'sum', in the pinned program and in every row, IS THE sha256 OF THE DUMP (.gsa) THAT YtbamgdknkhhikaaProg.lean LOADS. Nothing in Lean hashes anything: it is a label: what it is worth is what the hold of that sum in a sandbox is worth. -/
noncomputable def Try.pinned : Pinned := { name := "ytbamgdknkhhikaa", sum := "7fda3609df50c8f0ff4835a3ca4103a666a47afd0133d9ab52b82c9e68a7e1a8", checked := Try.checked }
namespace Rows
def none {H : Type} : Left H := { results := [], args := [] }

/-- 'proctorlaw21.TmsExact': WHATEVER THE INPUT: true; the input reads as it did. -/
def tmsExactSpec : ChangeSpec := { name := "tmsExact", fn := fun _ => fun
  | [d] => { results := [.lit (.bool true)], args := [d] }
  | _ => none }
def tmsExactRow : OpenClaim := { program := "ytbamgdknkhhikaa", sum := "7fda3609df50c8f0ff4835a3ca4103a666a47afd0133d9ab52b82c9e68a7e1a8", func := "proctor/proctorlaw21.TmsExact", spec := "tmsExact", unfollowed := true, recurses := true, loops := true, plainKeys := false, apart := false }
def TmsExactSaid : Prop := tmsExactRow.holds Try.pinned (OpenSpec.ofChange tmsExactSpec)

/-- ITS FALSE NEIGHBOUR: 'it returns false'. Refute it at one input. -/
def tmsExactWrong : ChangeSpec := { name := "tmsExact", fn := fun _ => fun
  | [d] => { results := [.lit (.bool false)], args := [d] }
  | _ => none }
def TmsExactWrongFalsely : Prop := tmsExactRow.holds Try.pinned (OpenSpec.ofChange tmsExactWrong)

/-- 'proctorlaw21.TmsOrder': WHATEVER THE INPUT: true; the input reads as it did. -/
def tmsOrderSpec : ChangeSpec := { name := "tmsOrder", fn := fun _ => fun
  | [d] => { results := [.lit (.bool true)], args := [d] }
  | _ => none }
def tmsOrderRow : OpenClaim := { program := "ytbamgdknkhhikaa", sum := "7fda3609df50c8f0ff4835a3ca4103a666a47afd0133d9ab52b82c9e68a7e1a8", func := "proctor/proctorlaw21.TmsOrder", spec := "tmsOrder", unfollowed := true, recurses := true, loops := true, plainKeys := false, apart := false }
def TmsOrderSaid : Prop := tmsOrderRow.holds Try.pinned (OpenSpec.ofChange tmsOrderSpec)

/-- ITS FALSE NEIGHBOUR: 'it returns false'. Refute it at one input. -/
def tmsOrderWrong : ChangeSpec := { name := "tmsOrder", fn := fun _ => fun
  | [d] => { results := [.lit (.bool false)], args := [d] }
  | _ => none }
def TmsOrderWrongFalsely : Prop := tmsOrderRow.holds Try.pinned (OpenSpec.ofChange tmsOrderWrong)

/-- 'proctorlaw21.TmsCounts': WHATEVER THE INPUT: true; the input reads as it did. -/
def tmsCountsSpec : ChangeSpec := { name := "tmsCounts", fn := fun _ => fun
  | [d] => { results := [.lit (.bool true)], args := [d] }
  | _ => none }
def tmsCountsRow : OpenClaim := { program := "ytbamgdknkhhikaa", sum := "7fda3609df50c8f0ff4835a3ca4103a666a47afd0133d9ab52b82c9e68a7e1a8", func := "proctor/proctorlaw21.TmsCounts", spec := "tmsCounts", unfollowed := true, recurses := true, loops := true, plainKeys := false, apart := false }
def TmsCountsSaid : Prop := tmsCountsRow.holds Try.pinned (OpenSpec.ofChange tmsCountsSpec)

/-- ITS FALSE NEIGHBOUR: 'it returns false'. Refute it at one input. -/
def tmsCountsWrong : ChangeSpec := { name := "tmsCounts", fn := fun _ => fun
  | [d] => { results := [.lit (.bool false)], args := [d] }
  | _ => none }
def TmsCountsWrongFalsely : Prop := tmsCountsRow.holds Try.pinned (OpenSpec.ofChange tmsCountsWrong)

/- THE SECOND FORM. 'bulk': how many values and letters a reading holds, each counted each time it is reached (what is shared counts as often as it is met; a slice's spare places count too). A statement '..UptoSaid' is the law's where the arguments, and the package variables that the reading takes, are together of bulk at most 1048576: NARROWER than '..Said'. Prove '..Said' where nothing that the law and all that it calls make is longer than what came in: it says more and counts as full. Else prove '..UptoSaid'. A law counts once. -/
mutual
def uptoBulk {H : Type} : DataW H → Nat
  | .lit (.string bytes) => bytes.length + 1
  | .lit _ => 1
  | .nil => 1
  | .ptr d => uptoBulk d + 1
  | .slice elems spare => uptoBulkAll elems + uptoBulkAll spare + 1
  | .agg parts => uptoBulkAll parts + 1
  | .iface _ d => uptoBulk d + 1
  | .map entries => uptoBulkEntries entries + 1
  | .held _ => 1
def uptoBulkAll {H : Type} : List (DataW H) → Nat
  | [] => 0
  | d :: r => uptoBulk d + uptoBulkAll r
def uptoBulkEntries {H : Type} : List (Lit × DataW H) → Nat
  | [] => 0
  | x :: r => uptoBulkEntry x + uptoBulkEntries r
def uptoBulkEntry {H : Type} : Lit × DataW H → Nat
  | (.string bytes, d) => bytes.length + uptoBulk d + 1
  | (_, d) => uptoBulk d + 1
 end
def uptoSmall : (H : Type) → List (DataW H) → Bool := fun _ ds => decide (uptoBulkAll ds ≤ 1048576)
def OpenSpec.upto (s : _root_.Go.ChangeSpec) : _root_.Go.OpenSpec := { _root_.Go.OpenSpec.ofChange s with cond := some uptoSmall }

/-- 'proctorlaw21.TmsExact', WHERE WHAT IT READS IS OF BULK AT MOST 1048576: true; the input reads as it did. -/
def tmsExactUptoRow : OpenClaim := { program := "ytbamgdknkhhikaa", sum := "7fda3609df50c8f0ff4835a3ca4103a666a47afd0133d9ab52b82c9e68a7e1a8", func := "proctor/proctorlaw21.TmsExact", spec := "tmsExact", unfollowed := true, recurses := true, loops := true, plainKeys := false, apart := false, narrowed := true }
def TmsExactUptoSaid : Prop := tmsExactUptoRow.holds Try.pinned (OpenSpec.upto tmsExactSpec)

/-- 'proctorlaw21.TmsOrder', WHERE WHAT IT READS IS OF BULK AT MOST 1048576: true; the input reads as it did. -/
def tmsOrderUptoRow : OpenClaim := { program := "ytbamgdknkhhikaa", sum := "7fda3609df50c8f0ff4835a3ca4103a666a47afd0133d9ab52b82c9e68a7e1a8", func := "proctor/proctorlaw21.TmsOrder", spec := "tmsOrder", unfollowed := true, recurses := true, loops := true, plainKeys := false, apart := false, narrowed := true }
def TmsOrderUptoSaid : Prop := tmsOrderUptoRow.holds Try.pinned (OpenSpec.upto tmsOrderSpec)

/-- 'proctorlaw21.TmsCounts', WHERE WHAT IT READS IS OF BULK AT MOST 1048576: true; the input reads as it did. -/
def tmsCountsUptoRow : OpenClaim := { program := "ytbamgdknkhhikaa", sum := "7fda3609df50c8f0ff4835a3ca4103a666a47afd0133d9ab52b82c9e68a7e1a8", func := "proctor/proctorlaw21.TmsCounts", spec := "tmsCounts", unfollowed := true, recurses := true, loops := true, plainKeys := false, apart := false, narrowed := true }
def TmsCountsUptoSaid : Prop := tmsCountsUptoRow.holds Try.pinned (OpenSpec.upto tmsCountsSpec)

end Rows
end Go.Proofs.Ytbamgdknkhhikaa
