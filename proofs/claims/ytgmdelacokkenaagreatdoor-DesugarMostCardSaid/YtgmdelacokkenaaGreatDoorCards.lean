/-
  DERIVED. GIVEN WITH THE SEED: THE CARDS: each row of YtgmdelacokkenaaGreatDoorRows.lean that lists a variable, with what it lists TIED to the program's text (the seventh form; the later family's looks); each row that meets fmt, with fmt's text TOLD by the authors' own Lean function (tested against real Go, not proved from fmt's source: count such statements apart). THE CARD IS WHAT COUNTS. Prove the row's statement (the work); the ties are given (YtgmdelacokkenaaGreatDoorTie.lean); close each card by the builder's one call (the guide's Derived/Test/ToyasCard.lean, 'card_holds'). Laid BY PROGRAM, IN A SANDBOX (cutbox-door.mjs). By AI agents, Wed Nov 11 2026. No macro, syntax, notation, axiom, sorry.
-/
import Derived.Test.YtgmdelacokkenaaGreatDoorRows
import GoSem.ClaimSeven
namespace Go.Proofs.YtgmdelacokkenaaGreatDoor
namespace Rows

/-- THE TIED CARD OF 'proctorlaw9.DesugarMost'. -/
def desugarMostCard : Claim7 := { stood := { row := desugarMostRow, standIns := [], harness := (true, "801a166e9f4a1b1812b4c56b89f1b0490f1f92e4e480a3e924119d95010d31fe"), looks := true }, kinds := [], alts := [], laidByText := true, laidKinds := [.data, .data, .data, .sentinel, .sentinel], laidTests := true, laidLooks := .later }
def DesugarMostCardSaid : Prop := Claim7.holds Tryz.pinned (.plain (OpenSpec.ofChange desugarMostSpec)) desugarMostCard

/-- THE SECOND FORM's CARD OF 'proctorlaw9.DesugarMost'. -/
def desugarMostUptoCard : Claim7 := { stood := { row := desugarMostUptoRow, standIns := [], harness := (true, "801a166e9f4a1b1812b4c56b89f1b0490f1f92e4e480a3e924119d95010d31fe"), looks := true }, kinds := [], alts := [], laidByText := true, laidKinds := [.data, .data, .data, .sentinel, .sentinel], laidTests := true, laidLooks := .later }
def DesugarMostUptoCardSaid : Prop := Claim7.holds Tryz.pinned (.plain (OpenSpec.upto desugarMostSpec)) desugarMostUptoCard
end Rows
end Go.Proofs.YtgmdelacokkenaaGreatDoor
