/-
  DERIVED. GIVEN WITH THE SEED: THE CARDS: each row of YtnddpaeagljnbaaGreatDoorRows.lean that lists a variable, with what it lists TIED to the program's text (the seventh form; the later family's looks); each row that meets fmt, with fmt's text TOLD by the authors' own Lean function (tested against real Go, not proved from fmt's source: count such statements apart). THE CARD IS WHAT COUNTS. Prove the row's statement (the work); the ties are given (YtnddpaeagljnbaaGreatDoorTie.lean); close each card by the builder's one call (the guide's Derived/Test/ToyasCard.lean, 'card_holds'). Laid BY PROGRAM, IN A SANDBOX (cutbox-door.mjs). By AI agents, Wed Nov 11 2026. No macro, syntax, notation, axiom, sorry.
-/
import Derived.Test.YtnddpaeagljnbaaGreatDoorRows
import GoSem.ClaimSeven
namespace Go.Proofs.YtnddpaeagljnbaaGreatDoor
namespace Rows

/-- THE TIED CARD OF 'proctorlaw18.LinkRefuses'. -/
def linkRefusesCard : Claim7 := { stood := { row := linkRefusesRow, standIns := [], harness := (true, "07a61e2042dc7c4f9b9ebf66252f0c52d4d201573efee10352a77422c6844569"), looks := true }, kinds := [], alts := [], laidByText := true, laidKinds := [.data, .data, .data, .sentinel, .sentinel], laidTests := true, laidLooks := .later }
def LinkRefusesCardSaid : Prop := Claim7.holds Tryz.pinned (.plain (OpenSpec.ofChange linkRefusesSpec)) linkRefusesCard

/-- THE SECOND FORM's CARD OF 'proctorlaw18.LinkRefuses'. -/
def linkRefusesUptoCard : Claim7 := { stood := { row := linkRefusesUptoRow, standIns := [], harness := (true, "07a61e2042dc7c4f9b9ebf66252f0c52d4d201573efee10352a77422c6844569"), looks := true }, kinds := [], alts := [], laidByText := true, laidKinds := [.data, .data, .data, .sentinel, .sentinel], laidTests := true, laidLooks := .later }
def LinkRefusesUptoCardSaid : Prop := Claim7.holds Tryz.pinned (.plain (OpenSpec.upto linkRefusesSpec)) linkRefusesUptoCard
end Rows
end Go.Proofs.YtnddpaeagljnbaaGreatDoor
