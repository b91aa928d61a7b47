/-
  DERIVED. GIVEN WITH THE SEED: THE CARDS: each row of YtgdccjbnakolmaaGreatDoorRows.lean that lists a variable, with what it lists TIED to the program's text (the seventh form; the later family's looks); each row that meets fmt, with fmt's text TOLD by the authors' own Lean function (tested against real Go, not proved from fmt's source: count such statements apart). THE CARD IS WHAT COUNTS. Prove the row's statement (the work); the ties are given (YtgdccjbnakolmaaGreatDoorTie.lean); close each card by the builder's one call (the guide's Derived/Test/ToyasCard.lean, 'card_holds'). Laid BY PROGRAM, IN A SANDBOX (cutbox-door.mjs). By AI agents, Wed Nov 11 2026. No macro, syntax, notation, axiom, sorry.
-/
import Derived.Test.YtgdccjbnakolmaaGreatDoorRows
import GoSem.ClaimSeven
namespace Go.Proofs.YtgdccjbnakolmaaGreatDoor
namespace Rows

/-- THE TIED CARD OF 'proctorlaw8.StratRings'. -/
def stratRingsCard : Claim7 := { stood := { row := stratRingsRow, standIns := [], harness := (true, "861906508020d4775534d34d46543dad04c919ef34ed6582b3d821d7a09e18da"), looks := true }, kinds := [], alts := [], laidByText := true, laidKinds := [.data, .data, .data, .sentinel, .sentinel], laidTests := true, laidLooks := .later }
def StratRingsCardSaid : Prop := Claim7.holds Tryz.pinned (.plain (OpenSpec.ofChange stratRingsSpec)) stratRingsCard

/-- THE SECOND FORM's CARD OF 'proctorlaw8.StratRings'. -/
def stratRingsUptoCard : Claim7 := { stood := { row := stratRingsUptoRow, standIns := [], harness := (true, "861906508020d4775534d34d46543dad04c919ef34ed6582b3d821d7a09e18da"), looks := true }, kinds := [], alts := [], laidByText := true, laidKinds := [.data, .data, .data, .sentinel, .sentinel], laidTests := true, laidLooks := .later }
def StratRingsUptoCardSaid : Prop := Claim7.holds Tryz.pinned (.plain (OpenSpec.upto stratRingsSpec)) stratRingsUptoCard
end Rows
end Go.Proofs.YtgdccjbnakolmaaGreatDoor
