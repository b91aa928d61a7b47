/-
  DERIVED. GIVEN WITH THE SEED: THE CARDS: each row of YtjfhlmakfgbcoaaGreatDoorRows.lean that lists a variable, with what it lists TIED to the program's text (the seventh form; the later family's looks); each row that meets fmt, with fmt's text TOLD by the authors' own Lean function (tested against real Go, not proved from fmt's source: count such statements apart). THE CARD IS WHAT COUNTS. Prove the row's statement (the work); the ties are given (YtjfhlmakfgbcoaaGreatDoorTie.lean); close each card by the builder's one call (the guide's Derived/Test/ToyasCard.lean, 'card_holds'). Laid BY PROGRAM, IN A SANDBOX (cutbox-door.mjs). By AI agents, Wed Nov 11 2026. No macro, syntax, notation, axiom, sorry.
-/
import Derived.Test.YtjfhlmakfgbcoaaGreatDoorRows
import GoSem.ClaimSeven
namespace Go.Proofs.YtjfhlmakfgbcoaaGreatDoor
namespace Rows

/-- THE TIED CARD OF 'proctorlaw20.AgendaFocus'. -/
def agendaFocusCard : Claim7 := { stood := { row := agendaFocusRow, standIns := [], harness := (true, "d62f7bb0626a40357a1353d564f671e379145ae73425378aa03f8f6c1c573b43"), looks := true }, kinds := [], alts := [], laidByText := true, laidKinds := [.data, .data, .data, .sentinel, .sentinel], laidTests := true, laidLooks := .later }
def AgendaFocusCardSaid : Prop := Claim7.holds Tryz.pinned (.plain (OpenSpec.ofChange agendaFocusSpec)) agendaFocusCard

/-- THE TIED CARD OF 'proctorlaw20.AgendaLoops'. -/
def agendaLoopsCard : Claim7 := { stood := { row := agendaLoopsRow, standIns := [], harness := (true, "d62f7bb0626a40357a1353d564f671e379145ae73425378aa03f8f6c1c573b43"), looks := true }, kinds := [], alts := [], laidByText := true, laidKinds := [.data, .data, .data, .sentinel, .sentinel], laidTests := true, laidLooks := .later }
def AgendaLoopsCardSaid : Prop := Claim7.holds Tryz.pinned (.plain (OpenSpec.ofChange agendaLoopsSpec)) agendaLoopsCard

/-- THE SECOND FORM's CARD OF 'proctorlaw20.AgendaFocus'. -/
def agendaFocusUptoCard : Claim7 := { stood := { row := agendaFocusUptoRow, standIns := [], harness := (true, "d62f7bb0626a40357a1353d564f671e379145ae73425378aa03f8f6c1c573b43"), looks := true }, kinds := [], alts := [], laidByText := true, laidKinds := [.data, .data, .data, .sentinel, .sentinel], laidTests := true, laidLooks := .later }
def AgendaFocusUptoCardSaid : Prop := Claim7.holds Tryz.pinned (.plain (OpenSpec.upto agendaFocusSpec)) agendaFocusUptoCard

/-- THE SECOND FORM's CARD OF 'proctorlaw20.AgendaLoops'. -/
def agendaLoopsUptoCard : Claim7 := { stood := { row := agendaLoopsUptoRow, standIns := [], harness := (true, "d62f7bb0626a40357a1353d564f671e379145ae73425378aa03f8f6c1c573b43"), looks := true }, kinds := [], alts := [], laidByText := true, laidKinds := [.data, .data, .data, .sentinel, .sentinel], laidTests := true, laidLooks := .later }
def AgendaLoopsUptoCardSaid : Prop := Claim7.holds Tryz.pinned (.plain (OpenSpec.upto agendaLoopsSpec)) agendaLoopsUptoCard
end Rows
end Go.Proofs.YtjfhlmakfgbcoaaGreatDoor
