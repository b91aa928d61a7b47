/-
  DERIVED. GIVEN WITH THE SEED: THE CARDS: each row of YtbijepcediaghaaGreatDoorRows.lean that lists a variable, with what it lists TIED to the program's text (the seventh form; the later family's looks); each row that meets fmt, with fmt's text TOLD by the authors' own Lean function (tested against real Go, not proved from fmt's source: count such statements apart). THE CARD IS WHAT COUNTS. Prove the row's statement (the work); the ties are given (YtbijepcediaghaaGreatDoorTie.lean); close each card by the builder's one call (the guide's Derived/Test/ToyasCard.lean, 'card_holds'). Laid BY PROGRAM, IN A SANDBOX (cutbox-door.mjs). By AI agents, Wed Nov 11 2026. No macro, syntax, notation, axiom, sorry.
-/
import Derived.Test.YtbijepcediaghaaGreatDoorRows
import GoSem.ClaimSeven
namespace Go.Proofs.YtbijepcediaghaaGreatDoor
namespace Rows

/-- THE TIED CARD OF 'proctorlaw9.DesugarProducts'. -/
def desugarProductsCard : Claim7 := { stood := { row := desugarProductsRow, standIns := [], harness := (true, "b44476bfc569d6b86b035dc959071817034c97ac1d6d84286abf26c271807579"), looks := true }, kinds := [], alts := [], laidByText := true, laidKinds := [.data, .data, .data, .sentinel, .sentinel], laidTests := true, laidLooks := .later }
def DesugarProductsCardSaid : Prop := Claim7.holds Tryz.pinned (.plain (OpenSpec.ofChange desugarProductsSpec)) desugarProductsCard

/-- THE SECOND FORM's CARD OF 'proctorlaw9.DesugarProducts'. -/
def desugarProductsUptoCard : Claim7 := { stood := { row := desugarProductsUptoRow, standIns := [], harness := (true, "b44476bfc569d6b86b035dc959071817034c97ac1d6d84286abf26c271807579"), looks := true }, kinds := [], alts := [], laidByText := true, laidKinds := [.data, .data, .data, .sentinel, .sentinel], laidTests := true, laidLooks := .later }
def DesugarProductsUptoCardSaid : Prop := Claim7.holds Tryz.pinned (.plain (OpenSpec.upto desugarProductsSpec)) desugarProductsUptoCard
end Rows
end Go.Proofs.YtbijepcediaghaaGreatDoor
