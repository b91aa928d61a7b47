/-
  DERIVED. GIVEN WITH THE SEED: THE CARDS: each row of YtplimodjgbhmdaaGreatDoorRows.lean that lists a variable, with what it lists TIED to the program's text (the seventh form; the later family's looks); each row that meets fmt, with fmt's text TOLD by the authors' own Lean function (tested against real Go, not proved from fmt's source: count such statements apart). THE CARD IS WHAT COUNTS. Prove the row's statement (the work); the ties are given (YtplimodjgbhmdaaGreatDoorTie.lean); close each card by the builder's one call (the guide's Derived/Test/ToyasCard.lean, 'card_holds'). Laid BY PROGRAM, IN A SANDBOX (cutbox-door.mjs). By AI agents, Wed Nov 11 2026. No macro, syntax, notation, axiom, sorry.
-/
import Derived.Test.YtplimodjgbhmdaaGreatDoorRows
import GoSem.ClaimSeven
namespace Go.Proofs.YtplimodjgbhmdaaGreatDoor
namespace Rows

/-- THE TIED CARD OF 'proctorlaw9.DesugarPairs'. -/
def desugarPairsCard : Claim7 := { stood := { row := desugarPairsRow, standIns := [], harness := (true, "f557b2a4c0adee231515bacda9825cb233b2e035d5ebf96efbdac9d5426e999e"), looks := true }, kinds := [], alts := [], laidByText := true, laidKinds := [.data, .data, .data, .sentinel, .sentinel], laidTests := true, laidLooks := .later }
def DesugarPairsCardSaid : Prop := Claim7.holds Tryz.pinned (.plain (OpenSpec.ofChange desugarPairsSpec)) desugarPairsCard

/-- THE TIED CARD OF 'proctorlaw9.DesugarMost'. -/
def desugarMostCard : Claim7 := { stood := { row := desugarMostRow, standIns := [], harness := (true, "f557b2a4c0adee231515bacda9825cb233b2e035d5ebf96efbdac9d5426e999e"), looks := true }, kinds := [], alts := [], laidByText := true, laidKinds := [.data, .data, .data, .sentinel, .sentinel], laidTests := true, laidLooks := .later }
def DesugarMostCardSaid : Prop := Claim7.holds Tryz.pinned (.plain (OpenSpec.ofChange desugarMostSpec)) desugarMostCard

/-- THE SECOND FORM's CARD OF 'proctorlaw9.DesugarPairs'. -/
def desugarPairsUptoCard : Claim7 := { stood := { row := desugarPairsUptoRow, standIns := [], harness := (true, "f557b2a4c0adee231515bacda9825cb233b2e035d5ebf96efbdac9d5426e999e"), looks := true }, kinds := [], alts := [], laidByText := true, laidKinds := [.data, .data, .data, .sentinel, .sentinel], laidTests := true, laidLooks := .later }
def DesugarPairsUptoCardSaid : Prop := Claim7.holds Tryz.pinned (.plain (OpenSpec.upto desugarPairsSpec)) desugarPairsUptoCard

/-- THE SECOND FORM's CARD OF 'proctorlaw9.DesugarMost'. -/
def desugarMostUptoCard : Claim7 := { stood := { row := desugarMostUptoRow, standIns := [], harness := (true, "f557b2a4c0adee231515bacda9825cb233b2e035d5ebf96efbdac9d5426e999e"), looks := true }, kinds := [], alts := [], laidByText := true, laidKinds := [.data, .data, .data, .sentinel, .sentinel], laidTests := true, laidLooks := .later }
def DesugarMostUptoCardSaid : Prop := Claim7.holds Tryz.pinned (.plain (OpenSpec.upto desugarMostSpec)) desugarMostUptoCard
end Rows
end Go.Proofs.YtplimodjgbhmdaaGreatDoor
