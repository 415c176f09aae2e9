/-
  DERIVED. GIVEN WITH THE SEED: THE CARDS: each row of YtllcgppffncafaaGreatDoorRows.lean that lists a variable, with what it lists TIED to the program's text (the seventh form; the later family's looks); each row that meets fmt, with fmt's text TOLD by the authors' own Lean function (tested against real Go, not proved from fmt's source: count such statements apart). THE CARD IS WHAT COUNTS. Prove the row's statement (the work); the ties are given (YtllcgppffncafaaGreatDoorTie.lean); close each card by the builder's one call (the guide's Derived/Test/ToyasCard.lean, 'card_holds'). Laid BY PROGRAM, IN A SANDBOX (cutbox-door.mjs). By AI agents, Wed Nov 11 2026. No macro, syntax, notation, axiom, sorry.
-/
import Derived.Test.YtllcgppffncafaaGreatDoorRows
import GoSem.ClaimSeven
namespace Go.Proofs.YtllcgppffncafaaGreatDoor
namespace Rows

/-- THE TIED CARD OF 'reliquarylaw19.TreeNobody'. -/
def treeNobodyCard : Claim7 := { stood := { row := treeNobodyRow, standIns := [], harness := (true, "9b5f5e5fe9f43bb0d6025089bd8d724d0e99a5ef81392532880a234850bb54c6"), looks := false }, kinds := [], alts := [], laidByText := true, laidKinds := [.data, .data], laidTests := true, laidLooks := .later }
def TreeNobodyCardSaid : Prop := Claim7.holds Tryz.pinned (.plain (OpenSpec.ofChange treeNobodySpec)) treeNobodyCard

/-- THE TIED CARD OF 'reliquarylaw19.TreeModel'. -/
def treeModelCard : Claim7 := { stood := { row := treeModelRow, standIns := [], harness := (true, "9b5f5e5fe9f43bb0d6025089bd8d724d0e99a5ef81392532880a234850bb54c6"), looks := false }, kinds := [], alts := [], laidByText := true, laidKinds := [.data, .data], laidTests := true, laidLooks := .later }
def TreeModelCardSaid : Prop := Claim7.holds Tryz.pinned (.plain (OpenSpec.ofChange treeModelSpec)) treeModelCard

/-- THE TIED CARD OF 'reliquarylaw19.TreeRefs'. -/
def treeRefsCard : Claim7 := { stood := { row := treeRefsRow, standIns := [], harness := (true, "9b5f5e5fe9f43bb0d6025089bd8d724d0e99a5ef81392532880a234850bb54c6"), looks := false }, kinds := [], alts := [], laidByText := true, laidKinds := [.data, .data], laidTests := true, laidLooks := .later }
def TreeRefsCardSaid : Prop := Claim7.holds Tryz.pinned (.plain (OpenSpec.ofChange treeRefsSpec)) treeRefsCard

/-- THE TIED CARD OF 'reliquarylaw19.TreeShares'. -/
def treeSharesCard : Claim7 := { stood := { row := treeSharesRow, standIns := [], harness := (true, "9b5f5e5fe9f43bb0d6025089bd8d724d0e99a5ef81392532880a234850bb54c6"), looks := false }, kinds := [], alts := [], laidByText := true, laidKinds := [.data, .data], laidTests := true, laidLooks := .later }
def TreeSharesCardSaid : Prop := Claim7.holds Tryz.pinned (.plain (OpenSpec.ofChange treeSharesSpec)) treeSharesCard

/-- THE TIED CARD OF 'reliquarylaw19.TreeFull'. -/
def treeFullCard : Claim7 := { stood := { row := treeFullRow, standIns := [], harness := (true, "9b5f5e5fe9f43bb0d6025089bd8d724d0e99a5ef81392532880a234850bb54c6"), looks := false }, kinds := [], alts := [], laidByText := true, laidKinds := [.data, .data], laidTests := true, laidLooks := .later }
def TreeFullCardSaid : Prop := Claim7.holds Tryz.pinned (.plain (OpenSpec.ofChange treeFullSpec)) treeFullCard

/-- THE TIED CARD OF 'reliquarylaw19.TreePlays'. -/
def treePlaysCard : Claim7 := { stood := { row := treePlaysRow, standIns := [], harness := (true, "9b5f5e5fe9f43bb0d6025089bd8d724d0e99a5ef81392532880a234850bb54c6"), looks := false }, kinds := [], alts := [], laidByText := true, laidKinds := [.data, .data, .data, .data], laidTests := true, laidLooks := .later }
def TreePlaysCardSaid : Prop := Claim7.holds Tryz.pinned (.plain (OpenSpec.ofChange treePlaysSpec)) treePlaysCard

/-- THE SECOND FORM's CARD OF 'reliquarylaw19.TreeNobody'. -/
def treeNobodyUptoCard : Claim7 := { stood := { row := treeNobodyUptoRow, standIns := [], harness := (true, "9b5f5e5fe9f43bb0d6025089bd8d724d0e99a5ef81392532880a234850bb54c6"), looks := false }, kinds := [], alts := [], laidByText := true, laidKinds := [.data, .data], laidTests := true, laidLooks := .later }
def TreeNobodyUptoCardSaid : Prop := Claim7.holds Tryz.pinned (.plain (OpenSpec.upto treeNobodySpec)) treeNobodyUptoCard

/-- THE SECOND FORM's CARD OF 'reliquarylaw19.TreeModel'. -/
def treeModelUptoCard : Claim7 := { stood := { row := treeModelUptoRow, standIns := [], harness := (true, "9b5f5e5fe9f43bb0d6025089bd8d724d0e99a5ef81392532880a234850bb54c6"), looks := false }, kinds := [], alts := [], laidByText := true, laidKinds := [.data, .data], laidTests := true, laidLooks := .later }
def TreeModelUptoCardSaid : Prop := Claim7.holds Tryz.pinned (.plain (OpenSpec.upto treeModelSpec)) treeModelUptoCard

/-- THE SECOND FORM's CARD OF 'reliquarylaw19.TreeRefs'. -/
def treeRefsUptoCard : Claim7 := { stood := { row := treeRefsUptoRow, standIns := [], harness := (true, "9b5f5e5fe9f43bb0d6025089bd8d724d0e99a5ef81392532880a234850bb54c6"), looks := false }, kinds := [], alts := [], laidByText := true, laidKinds := [.data, .data], laidTests := true, laidLooks := .later }
def TreeRefsUptoCardSaid : Prop := Claim7.holds Tryz.pinned (.plain (OpenSpec.upto treeRefsSpec)) treeRefsUptoCard

/-- THE SECOND FORM's CARD OF 'reliquarylaw19.TreeShares'. -/
def treeSharesUptoCard : Claim7 := { stood := { row := treeSharesUptoRow, standIns := [], harness := (true, "9b5f5e5fe9f43bb0d6025089bd8d724d0e99a5ef81392532880a234850bb54c6"), looks := false }, kinds := [], alts := [], laidByText := true, laidKinds := [.data, .data], laidTests := true, laidLooks := .later }
def TreeSharesUptoCardSaid : Prop := Claim7.holds Tryz.pinned (.plain (OpenSpec.upto treeSharesSpec)) treeSharesUptoCard

/-- THE SECOND FORM's CARD OF 'reliquarylaw19.TreeFull'. -/
def treeFullUptoCard : Claim7 := { stood := { row := treeFullUptoRow, standIns := [], harness := (true, "9b5f5e5fe9f43bb0d6025089bd8d724d0e99a5ef81392532880a234850bb54c6"), looks := false }, kinds := [], alts := [], laidByText := true, laidKinds := [.data, .data], laidTests := true, laidLooks := .later }
def TreeFullUptoCardSaid : Prop := Claim7.holds Tryz.pinned (.plain (OpenSpec.upto treeFullSpec)) treeFullUptoCard

/-- THE SECOND FORM's CARD OF 'reliquarylaw19.TreePlays'. -/
def treePlaysUptoCard : Claim7 := { stood := { row := treePlaysUptoRow, standIns := [], harness := (true, "9b5f5e5fe9f43bb0d6025089bd8d724d0e99a5ef81392532880a234850bb54c6"), looks := false }, kinds := [], alts := [], laidByText := true, laidKinds := [.data, .data, .data, .data], laidTests := true, laidLooks := .later }
def TreePlaysUptoCardSaid : Prop := Claim7.holds Tryz.pinned (.plain (OpenSpec.upto treePlaysSpec)) treePlaysUptoCard
end Rows
end Go.Proofs.YtllcgppffncafaaGreatDoor
