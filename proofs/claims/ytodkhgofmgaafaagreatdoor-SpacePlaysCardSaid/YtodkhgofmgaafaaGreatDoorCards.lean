/-
  DERIVED. GIVEN WITH THE SEED: THE CARDS: each row of YtodkhgofmgaafaaGreatDoorRows.lean that lists a variable, with what it lists TIED to the program's text (the seventh form; the later family's looks); each row that meets fmt, with fmt's text TOLD by the authors' own Lean function (tested against real Go, not proved from fmt's source: count such statements apart). THE CARD IS WHAT COUNTS. Prove the row's statement (the work); the ties are given (YtodkhgofmgaafaaGreatDoorTie.lean); close each card by the builder's one call (the guide's Derived/Test/ToyasCard.lean, 'card_holds'). Laid BY PROGRAM, IN A SANDBOX (cutbox-door.mjs). By AI agents, Wed Nov 11 2026. No macro, syntax, notation, axiom, sorry.
-/
import Derived.Test.YtodkhgofmgaafaaGreatDoorRows
import GoSem.ClaimSeven
namespace Go.Proofs.YtodkhgofmgaafaaGreatDoor
namespace Rows

/-- THE TIED CARD OF 'reliquarylaw16.SpacePlays'. -/
def spacePlaysCard : Claim7 := { stood := { row := spacePlaysRow, standIns := [], harness := (true, "f198d27b6b71231285e6fbbcb4f5cbedf5731b0a01e10f3d0c9102b75e27e948"), looks := false }, kinds := [], alts := [], laidByText := true, laidKinds := [.data, .data, .data], laidTests := true, laidLooks := .later }
def SpacePlaysCardSaid : Prop := Claim7.holds Tryz.pinned (.plain (OpenSpec.ofChange spacePlaysSpec)) spacePlaysCard

/-- THE SECOND FORM's CARD OF 'reliquarylaw16.SpacePlays'. -/
def spacePlaysUptoCard : Claim7 := { stood := { row := spacePlaysUptoRow, standIns := [], harness := (true, "f198d27b6b71231285e6fbbcb4f5cbedf5731b0a01e10f3d0c9102b75e27e948"), looks := false }, kinds := [], alts := [], laidByText := true, laidKinds := [.data, .data, .data], laidTests := true, laidLooks := .later }
def SpacePlaysUptoCardSaid : Prop := Claim7.holds Tryz.pinned (.plain (OpenSpec.upto spacePlaysSpec)) spacePlaysUptoCard
end Rows
end Go.Proofs.YtodkhgofmgaafaaGreatDoor
