/-
  DERIVED. GIVEN WITH THE SEED: THE CARDS: each row of YtljkjdhkofbgmaaDoorRows.lean that lists a variable, with what it lists TIED to the program's text (the seventh form; the later family's looks); each row that meets fmt, with fmt's text TOLD by the authors' own Lean function (tested against real Go, not proved from fmt's source: count such statements apart). THE CARD IS WHAT COUNTS. Prove the row's statement (the work); the ties are given (YtljkjdhkofbgmaaDoorTie.lean); close each card by the builder's one call (the guide's Derived/Test/ToyasCard.lean, 'card_holds'). Laid BY PROGRAM, IN A SANDBOX (cutbox-door.mjs). By AI agents, Wed Nov 11 2026. No macro, syntax, notation, axiom, sorry.
-/
import Derived.Test.YtljkjdhkofbgmaaDoorRows
import GoSem.ClaimSeven
namespace Go.Proofs.YtljkjdhkofbgmaaDoor
namespace Rows

/-- THE TIED CARD OF 'reliquarylaw07.XtsSeals'. -/
def xtsSealsCard : Claim7 := { stood := { row := xtsSealsRow, standIns := [], harness := (true, "192871fda26b039d4e11870829b0fb84508158fea38dce0d1f0733807df76226"), looks := false }, kinds := [], alts := [], laidByText := true, laidKinds := [.data], laidTests := true, laidLooks := .later }
def XtsSealsCardSaid : Prop := Claim7.holds Tryd.pinned (.plain (OpenSpec.ofChange xtsSealsSpec)) xtsSealsCard

/-- THE TIED CARD OF 'reliquarylaw07.XtsOpens'. -/
def xtsOpensCard : Claim7 := { stood := { row := xtsOpensRow, standIns := [], harness := (true, "192871fda26b039d4e11870829b0fb84508158fea38dce0d1f0733807df76226"), looks := false }, kinds := [], alts := [], laidByText := true, laidKinds := [.data], laidTests := true, laidLooks := .later }
def XtsOpensCardSaid : Prop := Claim7.holds Tryd.pinned (.plain (OpenSpec.ofChange xtsOpensSpec)) xtsOpensCard

/-- THE TIED CARD OF 'reliquarylaw08.WrapSeals'. -/
def wrapSealsCard : Claim7 := { stood := { row := wrapSealsRow, standIns := [], harness := (true, "192871fda26b039d4e11870829b0fb84508158fea38dce0d1f0733807df76226"), looks := false }, kinds := [], alts := [], laidByText := true, laidKinds := [.data, .data, .data], laidTests := true, laidLooks := .later }
def WrapSealsCardSaid : Prop := Claim7.holds Tryd.pinned (.plain (OpenSpec.ofChange wrapSealsSpec)) wrapSealsCard

/-- THE TIED CARD OF 'reliquarylaw08.WrapOpens'. -/
def wrapOpensCard : Claim7 := { stood := { row := wrapOpensRow, standIns := [], harness := (true, "192871fda26b039d4e11870829b0fb84508158fea38dce0d1f0733807df76226"), looks := false }, kinds := [], alts := [], laidByText := true, laidKinds := [.data, .data, .data], laidTests := true, laidLooks := .later }
def WrapOpensCardSaid : Prop := Claim7.holds Tryd.pinned (.plain (OpenSpec.ofChange wrapOpensSpec)) wrapOpensCard

/-- THE TIED CARD OF 'reliquarylaw08.WrapBack'. -/
def wrapBackCard : Claim7 := { stood := { row := wrapBackRow, standIns := [], harness := (true, "192871fda26b039d4e11870829b0fb84508158fea38dce0d1f0733807df76226"), looks := false }, kinds := [], alts := [], laidByText := true, laidKinds := [.data], laidTests := true, laidLooks := .later }
def WrapBackCardSaid : Prop := Claim7.holds Tryd.pinned (.plain (OpenSpec.ofChange wrapBackSpec)) wrapBackCard

/-- THE TIED CARD OF 'reliquarylaw08.WrapTurned'. -/
def wrapTurnedCard : Claim7 := { stood := { row := wrapTurnedRow, standIns := [], harness := (true, "192871fda26b039d4e11870829b0fb84508158fea38dce0d1f0733807df76226"), looks := false }, kinds := [], alts := [], laidByText := true, laidKinds := [.data], laidTests := true, laidLooks := .later }
def WrapTurnedCardSaid : Prop := Claim7.holds Tryd.pinned (.plain (OpenSpec.ofChange wrapTurnedSpec)) wrapTurnedCard

/-- THE TIED CARD OF 'reliquarylaw08.WrapMask'. -/
def wrapMaskCard : Claim7 := { stood := { row := wrapMaskRow, standIns := [], harness := (true, "192871fda26b039d4e11870829b0fb84508158fea38dce0d1f0733807df76226"), looks := false }, kinds := [], alts := [], laidByText := true, laidKinds := [.data], laidTests := true, laidLooks := .later }
def WrapMaskCardSaid : Prop := Claim7.holds Tryd.pinned (.plain (OpenSpec.ofChange wrapMaskSpec)) wrapMaskCard

/-- THE SECOND FORM's CARD OF 'reliquarylaw07.XtsSeals'. -/
def xtsSealsUptoCard : Claim7 := { stood := { row := xtsSealsUptoRow, standIns := [], harness := (true, "192871fda26b039d4e11870829b0fb84508158fea38dce0d1f0733807df76226"), looks := false }, kinds := [], alts := [], laidByText := true, laidKinds := [.data], laidTests := true, laidLooks := .later }
def XtsSealsUptoCardSaid : Prop := Claim7.holds Tryd.pinned (.plain (OpenSpec.upto xtsSealsSpec)) xtsSealsUptoCard

/-- THE SECOND FORM's CARD OF 'reliquarylaw07.XtsOpens'. -/
def xtsOpensUptoCard : Claim7 := { stood := { row := xtsOpensUptoRow, standIns := [], harness := (true, "192871fda26b039d4e11870829b0fb84508158fea38dce0d1f0733807df76226"), looks := false }, kinds := [], alts := [], laidByText := true, laidKinds := [.data], laidTests := true, laidLooks := .later }
def XtsOpensUptoCardSaid : Prop := Claim7.holds Tryd.pinned (.plain (OpenSpec.upto xtsOpensSpec)) xtsOpensUptoCard

/-- THE SECOND FORM's CARD OF 'reliquarylaw08.WrapSeals'. -/
def wrapSealsUptoCard : Claim7 := { stood := { row := wrapSealsUptoRow, standIns := [], harness := (true, "192871fda26b039d4e11870829b0fb84508158fea38dce0d1f0733807df76226"), looks := false }, kinds := [], alts := [], laidByText := true, laidKinds := [.data, .data, .data], laidTests := true, laidLooks := .later }
def WrapSealsUptoCardSaid : Prop := Claim7.holds Tryd.pinned (.plain (OpenSpec.upto wrapSealsSpec)) wrapSealsUptoCard

/-- THE SECOND FORM's CARD OF 'reliquarylaw08.WrapOpens'. -/
def wrapOpensUptoCard : Claim7 := { stood := { row := wrapOpensUptoRow, standIns := [], harness := (true, "192871fda26b039d4e11870829b0fb84508158fea38dce0d1f0733807df76226"), looks := false }, kinds := [], alts := [], laidByText := true, laidKinds := [.data, .data, .data], laidTests := true, laidLooks := .later }
def WrapOpensUptoCardSaid : Prop := Claim7.holds Tryd.pinned (.plain (OpenSpec.upto wrapOpensSpec)) wrapOpensUptoCard

/-- THE SECOND FORM's CARD OF 'reliquarylaw08.WrapBack'. -/
def wrapBackUptoCard : Claim7 := { stood := { row := wrapBackUptoRow, standIns := [], harness := (true, "192871fda26b039d4e11870829b0fb84508158fea38dce0d1f0733807df76226"), looks := false }, kinds := [], alts := [], laidByText := true, laidKinds := [.data], laidTests := true, laidLooks := .later }
def WrapBackUptoCardSaid : Prop := Claim7.holds Tryd.pinned (.plain (OpenSpec.upto wrapBackSpec)) wrapBackUptoCard

/-- THE SECOND FORM's CARD OF 'reliquarylaw08.WrapTurned'. -/
def wrapTurnedUptoCard : Claim7 := { stood := { row := wrapTurnedUptoRow, standIns := [], harness := (true, "192871fda26b039d4e11870829b0fb84508158fea38dce0d1f0733807df76226"), looks := false }, kinds := [], alts := [], laidByText := true, laidKinds := [.data], laidTests := true, laidLooks := .later }
def WrapTurnedUptoCardSaid : Prop := Claim7.holds Tryd.pinned (.plain (OpenSpec.upto wrapTurnedSpec)) wrapTurnedUptoCard

/-- THE SECOND FORM's CARD OF 'reliquarylaw08.WrapMask'. -/
def wrapMaskUptoCard : Claim7 := { stood := { row := wrapMaskUptoRow, standIns := [], harness := (true, "192871fda26b039d4e11870829b0fb84508158fea38dce0d1f0733807df76226"), looks := false }, kinds := [], alts := [], laidByText := true, laidKinds := [.data], laidTests := true, laidLooks := .later }
def WrapMaskUptoCardSaid : Prop := Claim7.holds Tryd.pinned (.plain (OpenSpec.upto wrapMaskSpec)) wrapMaskUptoCard
end Rows
end Go.Proofs.YtljkjdhkofbgmaaDoor
