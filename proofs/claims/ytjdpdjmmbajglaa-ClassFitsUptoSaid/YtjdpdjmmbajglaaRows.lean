/-
  NARROWER THAN 'FOR EVERY INPUT', by the rows' own cells (each row's printed sentence says how): ClassFits: loops.
  DERIVED. THE GIVEN ROWS OF THIS SEAT. 5 by the template 'for every input the law returns true; each argument reads behind the call as it read before'; 0 by the template 'total and deterministic' (their statements: YtjdpdjmmbajglaaTotals.lean).
  GIVEN WITH THE SEED: the statements are not yours to turn. If you find one false, say at which input.
  Laid BY PROGRAM, IN A SANDBOX (cutbox-rows.mjs): the forced cells as the released guide's own fill.sh prints them over the translation 7d98173bf03e05e1… (all of the seat's roots in one cut). By AI agents, Wed Nov 11 2026. No macro, syntax, notation, axiom, sorry.
-/
import Derived.Test.YtjdpdjmmbajglaaChecked
import GoSem.Claim
import GoSem.ClaimJoined
import GoSem.ClaimMapViews
import Derived.JoinedTies
import Derived.KernelRfl
namespace Go.Proofs.Ytjdpdjmmbajglaa
/- THE CELL 'sum', in the pinned program and in every row, IS THE sha256 OF THE DUMP (.gsa) THAT YtjdpdjmmbajglaaProg.lean LOADS. Nothing in Lean hashes anything: it is a label: what it is worth is what the hold of that sum in a sandbox is worth. -/
noncomputable def Try.pinned : Pinned := { name := "ytjdpdjmmbajglaa", sum := "7d98173bf03e05e1d87b1e667390a5515f413a8fa8ed2d45140b5d103da99dd2", checked := Try.checked }
namespace Rows
def none {H : Type} : Left H := { results := [], args := [] }

/-- 'proctorlaw2.ClassExact': WHATEVER THE INPUT: true; the input reads as it did. -/
def classExactSpec : ChangeSpec := { name := "classExact", fn := fun _ => fun
  | [d] => { results := [.lit (.bool true)], args := [d] }
  | _ => none }
def classExactRow : OpenClaim := { program := "ytjdpdjmmbajglaa", sum := "7d98173bf03e05e1d87b1e667390a5515f413a8fa8ed2d45140b5d103da99dd2", func := "proctor/proctorlaw2.ClassExact", spec := "classExact", unfollowed := true, recurses := true, apart := false }
def ClassExactSaid : Prop := classExactRow.holds Try.pinned (OpenSpec.ofChange classExactSpec)

/-- ITS FALSE NEIGHBOUR: 'it returns false'. Refute it at one input. -/
def classExactWrong : ChangeSpec := { name := "classExact", fn := fun _ => fun
  | [d] => { results := [.lit (.bool false)], args := [d] }
  | _ => none }
def ClassExactWrongFalsely : Prop := classExactRow.holds Try.pinned (OpenSpec.ofChange classExactWrong)

/-- 'proctorlaw2.ClassOrder': WHATEVER THE INPUT: true; the input reads as it did. -/
def classOrderSpec : ChangeSpec := { name := "classOrder", fn := fun _ => fun
  | [d] => { results := [.lit (.bool true)], args := [d] }
  | _ => none }
def classOrderRow : OpenClaim := { program := "ytjdpdjmmbajglaa", sum := "7d98173bf03e05e1d87b1e667390a5515f413a8fa8ed2d45140b5d103da99dd2", func := "proctor/proctorlaw2.ClassOrder", spec := "classOrder", unfollowed := true, recurses := true, apart := false }
def ClassOrderSaid : Prop := classOrderRow.holds Try.pinned (OpenSpec.ofChange classOrderSpec)

/-- ITS FALSE NEIGHBOUR: 'it returns false'. Refute it at one input. -/
def classOrderWrong : ChangeSpec := { name := "classOrder", fn := fun _ => fun
  | [d] => { results := [.lit (.bool false)], args := [d] }
  | _ => none }
def ClassOrderWrongFalsely : Prop := classOrderRow.holds Try.pinned (OpenSpec.ofChange classOrderWrong)

/-- 'proctorlaw2.ClassSubs': WHATEVER THE INPUT: true; the input reads as it did. -/
def classSubsSpec : ChangeSpec := { name := "classSubs", fn := fun _ => fun
  | [d] => { results := [.lit (.bool true)], args := [d] }
  | _ => none }
def classSubsRow : OpenClaim := { program := "ytjdpdjmmbajglaa", sum := "7d98173bf03e05e1d87b1e667390a5515f413a8fa8ed2d45140b5d103da99dd2", func := "proctor/proctorlaw2.ClassSubs", spec := "classSubs", unfollowed := true, recurses := true, apart := false }
def ClassSubsSaid : Prop := classSubsRow.holds Try.pinned (OpenSpec.ofChange classSubsSpec)

/-- ITS FALSE NEIGHBOUR: 'it returns false'. Refute it at one input. -/
def classSubsWrong : ChangeSpec := { name := "classSubs", fn := fun _ => fun
  | [d] => { results := [.lit (.bool false)], args := [d] }
  | _ => none }
def ClassSubsWrongFalsely : Prop := classSubsRow.holds Try.pinned (OpenSpec.ofChange classSubsWrong)

/-- 'proctorlaw2.ClassMost': WHATEVER THE INPUT: true; the input reads as it did. -/
def classMostSpec : ChangeSpec := { name := "classMost", fn := fun _ => fun
  | [] => { results := [.lit (.bool true)], args := [] }
  | _ => none }
def classMostRow : OpenClaim := { program := "ytjdpdjmmbajglaa", sum := "7d98173bf03e05e1d87b1e667390a5515f413a8fa8ed2d45140b5d103da99dd2", func := "proctor/proctorlaw2.ClassMost", spec := "classMost", unfollowed := true, recurses := true, apart := false }
def ClassMostSaid : Prop := classMostRow.holds Try.pinned (OpenSpec.ofChange classMostSpec)

/-- ITS FALSE NEIGHBOUR: 'it returns false'. Refute it at one input. -/
def classMostWrong : ChangeSpec := { name := "classMost", fn := fun _ => fun
  | [] => { results := [.lit (.bool false)], args := [] }
  | _ => none }
def ClassMostWrongFalsely : Prop := classMostRow.holds Try.pinned (OpenSpec.ofChange classMostWrong)

/-- 'proctorlaw2.ClassFits': WHATEVER THE INPUT: true; the input reads as it did. -/
def classFitsSpec : ChangeSpec := { name := "classFits", fn := fun _ => fun
  | [d] => { results := [.lit (.bool true)], args := [d] }
  | _ => none }
def classFitsRow : OpenClaim := { program := "ytjdpdjmmbajglaa", sum := "7d98173bf03e05e1d87b1e667390a5515f413a8fa8ed2d45140b5d103da99dd2", func := "proctor/proctorlaw2.ClassFits", spec := "classFits", unfollowed := true, recurses := true, loops := true, apart := false }
def ClassFitsSaid : Prop := classFitsRow.holds Try.pinned (OpenSpec.ofChange classFitsSpec)

/-- ITS FALSE NEIGHBOUR: 'it returns false'. Refute it at one input. -/
def classFitsWrong : ChangeSpec := { name := "classFits", fn := fun _ => fun
  | [d] => { results := [.lit (.bool false)], args := [d] }
  | _ => none }
def ClassFitsWrongFalsely : Prop := classFitsRow.holds Try.pinned (OpenSpec.ofChange classFitsWrong)

/- THE SECOND FORM. 'bulk': how many values and letters a reading holds, each counted each time it is reached (what is shared counts as often as it is met; a slice's spare places count too). A statement '..UptoSaid' is the law's where the arguments, and the package variables that the reading takes, are together of bulk at most 1048576: NARROWER than '..Said'. Prove '..Said' where nothing that the law and all that it calls make is longer than what came in: it says more and counts as full. Else prove '..UptoSaid'. A law counts once. -/
mutual
def uptoBulk {H : Type} : DataW H → Nat
  | .lit (.string bytes) => bytes.length + 1
  | .lit _ => 1
  | .nil => 1
  | .ptr d => uptoBulk d + 1
  | .slice elems spare => uptoBulkAll elems + uptoBulkAll spare + 1
  | .agg parts => uptoBulkAll parts + 1
  | .iface _ d => uptoBulk d + 1
  | .map entries => uptoBulkEntries entries + 1
  | .held _ => 1
def uptoBulkAll {H : Type} : List (DataW H) → Nat
  | [] => 0
  | d :: r => uptoBulk d + uptoBulkAll r
def uptoBulkEntries {H : Type} : List (Lit × DataW H) → Nat
  | [] => 0
  | x :: r => uptoBulkEntry x + uptoBulkEntries r
def uptoBulkEntry {H : Type} : Lit × DataW H → Nat
  | (.string bytes, d) => bytes.length + uptoBulk d + 1
  | (_, d) => uptoBulk d + 1
 end
def uptoSmall : (H : Type) → List (DataW H) → Bool := fun _ ds => decide (uptoBulkAll ds ≤ 1048576)
def OpenSpec.upto (s : _root_.Go.ChangeSpec) : _root_.Go.OpenSpec := { _root_.Go.OpenSpec.ofChange s with cond := some uptoSmall }

/-- 'proctorlaw2.ClassExact', WHERE WHAT IT READS IS OF BULK AT MOST 1048576: true; the input reads as it did. -/
def classExactUptoRow : OpenClaim := { program := "ytjdpdjmmbajglaa", sum := "7d98173bf03e05e1d87b1e667390a5515f413a8fa8ed2d45140b5d103da99dd2", func := "proctor/proctorlaw2.ClassExact", spec := "classExact", unfollowed := true, recurses := true, apart := false, narrowed := true }
def ClassExactUptoSaid : Prop := classExactUptoRow.holds Try.pinned (OpenSpec.upto classExactSpec)

/-- 'proctorlaw2.ClassOrder', WHERE WHAT IT READS IS OF BULK AT MOST 1048576: true; the input reads as it did. -/
def classOrderUptoRow : OpenClaim := { program := "ytjdpdjmmbajglaa", sum := "7d98173bf03e05e1d87b1e667390a5515f413a8fa8ed2d45140b5d103da99dd2", func := "proctor/proctorlaw2.ClassOrder", spec := "classOrder", unfollowed := true, recurses := true, apart := false, narrowed := true }
def ClassOrderUptoSaid : Prop := classOrderUptoRow.holds Try.pinned (OpenSpec.upto classOrderSpec)

/-- 'proctorlaw2.ClassSubs', WHERE WHAT IT READS IS OF BULK AT MOST 1048576: true; the input reads as it did. -/
def classSubsUptoRow : OpenClaim := { program := "ytjdpdjmmbajglaa", sum := "7d98173bf03e05e1d87b1e667390a5515f413a8fa8ed2d45140b5d103da99dd2", func := "proctor/proctorlaw2.ClassSubs", spec := "classSubs", unfollowed := true, recurses := true, apart := false, narrowed := true }
def ClassSubsUptoSaid : Prop := classSubsUptoRow.holds Try.pinned (OpenSpec.upto classSubsSpec)

/-- 'proctorlaw2.ClassMost', WHERE WHAT IT READS IS OF BULK AT MOST 1048576: true; the input reads as it did. -/
def classMostUptoRow : OpenClaim := { program := "ytjdpdjmmbajglaa", sum := "7d98173bf03e05e1d87b1e667390a5515f413a8fa8ed2d45140b5d103da99dd2", func := "proctor/proctorlaw2.ClassMost", spec := "classMost", unfollowed := true, recurses := true, apart := false, narrowed := true }
def ClassMostUptoSaid : Prop := classMostUptoRow.holds Try.pinned (OpenSpec.upto classMostSpec)

/-- 'proctorlaw2.ClassFits', WHERE WHAT IT READS IS OF BULK AT MOST 1048576: true; the input reads as it did. -/
def classFitsUptoRow : OpenClaim := { program := "ytjdpdjmmbajglaa", sum := "7d98173bf03e05e1d87b1e667390a5515f413a8fa8ed2d45140b5d103da99dd2", func := "proctor/proctorlaw2.ClassFits", spec := "classFits", unfollowed := true, recurses := true, loops := true, apart := false, narrowed := true }
def ClassFitsUptoSaid : Prop := classFitsUptoRow.holds Try.pinned (OpenSpec.upto classFitsSpec)

end Rows
end Go.Proofs.Ytjdpdjmmbajglaa
