/-
  DERIVED. GIVEN WITH THE SEED: THE CARDS: each row of YtdnfagiajenfjaaDoorRows.lean that lists a variable, with what it lists TIED to the program's text (the seventh form; the later family's looks); each row that meets fmt, with fmt's text TOLD by the authors' own Lean function (tested against real Go, not proved from fmt's source: count such statements apart). THE CARD IS WHAT COUNTS. Prove the row's statement (the work); the ties are given (YtdnfagiajenfjaaDoorTie.lean); close each card by the builder's one call (the guide's Derived/Test/ToyasCard.lean, 'card_holds'). Laid BY PROGRAM, IN A SANDBOX (cutbox-door.mjs). By AI agents, Wed Nov 11 2026. No macro, syntax, notation, axiom, sorry.
-/
import Derived.Test.YtdnfagiajenfjaaDoorRows
import GoSem.ClaimSeven
namespace Go.Proofs.YtdnfagiajenfjaaDoor
namespace Rows

/-- THE TIED CARD OF 'reliquarylaw06.AesSchedules'. -/
def aesSchedulesCard : Claim7 := { stood := { row := aesSchedulesRow, standIns := [], harness := (true, "cb0b74ad405b9c3f2abcbbc390c4f8959911cfb108a65d597c65efb03652b823"), looks := false }, kinds := [], alts := [], laidByText := true, laidKinds := [.data], laidTests := true, laidLooks := .later }
def AesSchedulesCardSaid : Prop := Claim7.holds Tryd.pinned (.plain (OpenSpec.ofChange aesSchedulesSpec)) aesSchedulesCard

/-- THE TIED CARD OF 'reliquarylaw06.AesEncrypts'. -/
def aesEncryptsCard : Claim7 := { stood := { row := aesEncryptsRow, standIns := [], harness := (true, "cb0b74ad405b9c3f2abcbbc390c4f8959911cfb108a65d597c65efb03652b823"), looks := false }, kinds := [], alts := [], laidByText := true, laidKinds := [.data], laidTests := true, laidLooks := .later }
def AesEncryptsCardSaid : Prop := Claim7.holds Tryd.pinned (.plain (OpenSpec.ofChange aesEncryptsSpec)) aesEncryptsCard

/-- THE TIED CARD OF 'reliquarylaw06.AesBoxes'. -/
def aesBoxesCard : Claim7 := { stood := { row := aesBoxesRow, standIns := [], harness := (true, "cb0b74ad405b9c3f2abcbbc390c4f8959911cfb108a65d597c65efb03652b823"), looks := false }, kinds := [], alts := [], laidByText := true, laidKinds := [.data], laidTests := true, laidLooks := .later }
def AesBoxesCardSaid : Prop := Claim7.holds Tryd.pinned (.plain (OpenSpec.ofChange aesBoxesSpec)) aesBoxesCard

/-- THE TIED CARD OF 'reliquarylaw06.AesDecrypts'. -/
def aesDecryptsCard : Claim7 := { stood := { row := aesDecryptsRow, standIns := [], harness := (true, "cb0b74ad405b9c3f2abcbbc390c4f8959911cfb108a65d597c65efb03652b823"), looks := false }, kinds := [], alts := [], laidByText := true, laidKinds := [.data], laidTests := true, laidLooks := .later }
def AesDecryptsCardSaid : Prop := Claim7.holds Tryd.pinned (.plain (OpenSpec.ofChange aesDecryptsSpec)) aesDecryptsCard

/-- THE SECOND FORM's CARD OF 'reliquarylaw06.AesSchedules'. -/
def aesSchedulesUptoCard : Claim7 := { stood := { row := aesSchedulesUptoRow, standIns := [], harness := (true, "cb0b74ad405b9c3f2abcbbc390c4f8959911cfb108a65d597c65efb03652b823"), looks := false }, kinds := [], alts := [], laidByText := true, laidKinds := [.data], laidTests := true, laidLooks := .later }
def AesSchedulesUptoCardSaid : Prop := Claim7.holds Tryd.pinned (.plain (OpenSpec.upto aesSchedulesSpec)) aesSchedulesUptoCard

/-- THE SECOND FORM's CARD OF 'reliquarylaw06.AesEncrypts'. -/
def aesEncryptsUptoCard : Claim7 := { stood := { row := aesEncryptsUptoRow, standIns := [], harness := (true, "cb0b74ad405b9c3f2abcbbc390c4f8959911cfb108a65d597c65efb03652b823"), looks := false }, kinds := [], alts := [], laidByText := true, laidKinds := [.data], laidTests := true, laidLooks := .later }
def AesEncryptsUptoCardSaid : Prop := Claim7.holds Tryd.pinned (.plain (OpenSpec.upto aesEncryptsSpec)) aesEncryptsUptoCard

/-- THE SECOND FORM's CARD OF 'reliquarylaw06.AesBoxes'. -/
def aesBoxesUptoCard : Claim7 := { stood := { row := aesBoxesUptoRow, standIns := [], harness := (true, "cb0b74ad405b9c3f2abcbbc390c4f8959911cfb108a65d597c65efb03652b823"), looks := false }, kinds := [], alts := [], laidByText := true, laidKinds := [.data], laidTests := true, laidLooks := .later }
def AesBoxesUptoCardSaid : Prop := Claim7.holds Tryd.pinned (.plain (OpenSpec.upto aesBoxesSpec)) aesBoxesUptoCard

/-- THE SECOND FORM's CARD OF 'reliquarylaw06.AesDecrypts'. -/
def aesDecryptsUptoCard : Claim7 := { stood := { row := aesDecryptsUptoRow, standIns := [], harness := (true, "cb0b74ad405b9c3f2abcbbc390c4f8959911cfb108a65d597c65efb03652b823"), looks := false }, kinds := [], alts := [], laidByText := true, laidKinds := [.data], laidTests := true, laidLooks := .later }
def AesDecryptsUptoCardSaid : Prop := Claim7.holds Tryd.pinned (.plain (OpenSpec.upto aesDecryptsSpec)) aesDecryptsUptoCard
end Rows
end Go.Proofs.YtdnfagiajenfjaaDoor
