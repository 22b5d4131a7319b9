/-
  DERIVED. GIVEN WITH THE SEED: THE CARDS: each row of YtfhpamcehnfhoaaGreatDoorRows.lean that lists a variable, with what it lists TIED to the program's text (the seventh form; the later family's looks); each row that meets fmt, with fmt's text TOLD by the authors' own Lean function (tested against real Go, not proved from fmt's source: count such statements apart). THE CARD IS WHAT COUNTS. Prove the row's statement (the work); the ties are given (YtfhpamcehnfhoaaGreatDoorTie.lean); close each card by the builder's one call (the guide's Derived/Test/ToyasCard.lean, 'card_holds'). Laid BY PROGRAM, IN A SANDBOX (cutbox-door.mjs). By AI agents, Wed Nov 11 2026. No macro, syntax, notation, axiom, sorry.
-/
import Derived.Test.YtfhpamcehnfhoaaGreatDoorRows
import GoSem.ClaimSeven
namespace Go.Proofs.YtfhpamcehnfhoaaGreatDoor
namespace Rows

/-- THE TIED CARD OF 'gambrellaw04.ExprTexts'. -/
def exprTextsCard : Claim7 := { stood := { row := exprTextsRow, standIns := [], harness := (true, "c47f4c3c1d8f2455717232c61ae3b02dbff97a5d7b18332959ea13856fbcd2c6"), looks := true }, kinds := [], alts := [], laidByText := true, laidKinds := [.data, .data, .data, .listed, .data], laidTests := true, laidLooks := .later }
def ExprTextsCardSaid : Prop := Claim7.holds Tryz.pinned (.plain (OpenSpec.ofChange exprTextsSpec)) exprTextsCard

/-- THE TIED CARD OF 'gambrellaw04.ExprNames'. -/
def exprNamesCard : Claim7 := { stood := { row := exprNamesRow, standIns := [], harness := (true, "c47f4c3c1d8f2455717232c61ae3b02dbff97a5d7b18332959ea13856fbcd2c6"), looks := true }, kinds := [], alts := [], laidByText := true, laidKinds := [.data, .data, .data, .listed, .data], laidTests := true, laidLooks := .later }
def ExprNamesCardSaid : Prop := Claim7.holds Tryz.pinned (.plain (OpenSpec.ofChange exprNamesSpec)) exprNamesCard

/-- THE TIED CARD OF 'gambrellaw04.ExprChooses'. -/
def exprChoosesCard : Claim7 := { stood := { row := exprChoosesRow, standIns := [], harness := (true, "c47f4c3c1d8f2455717232c61ae3b02dbff97a5d7b18332959ea13856fbcd2c6"), looks := true }, kinds := [], alts := [], laidByText := true, laidKinds := [.data, .data, .data, .listed, .data], laidTests := true, laidLooks := .later }
def ExprChoosesCardSaid : Prop := Claim7.holds Tryz.pinned (.plain (OpenSpec.ofChange exprChoosesSpec)) exprChoosesCard

/-- THE TIED CARD OF 'gambrellaw04.ExprBack'. -/
def exprBackCard : Claim7 := { stood := { row := exprBackRow, standIns := [], harness := (true, "c47f4c3c1d8f2455717232c61ae3b02dbff97a5d7b18332959ea13856fbcd2c6"), looks := true }, kinds := [], alts := [], laidByText := true, laidKinds := [.data, .data, .data, .listed, .data], laidTests := true, laidLooks := .later }
def ExprBackCardSaid : Prop := Claim7.holds Tryz.pinned (.plain (OpenSpec.ofChange exprBackSpec)) exprBackCard

/-- THE TIED CARD OF 'gambrellaw04.ExprBinds'. -/
def exprBindsCard : Claim7 := { stood := { row := exprBindsRow, standIns := [], harness := (true, "c47f4c3c1d8f2455717232c61ae3b02dbff97a5d7b18332959ea13856fbcd2c6"), looks := true }, kinds := [], alts := [], laidByText := true, laidKinds := [.data, .data, .data, .listed, .data], laidTests := true, laidLooks := .later }
def ExprBindsCardSaid : Prop := Claim7.holds Tryz.pinned (.plain (OpenSpec.ofChange exprBindsSpec)) exprBindsCard

/-- THE TIED CARD OF 'gambrellaw04.ExprUnused'. -/
def exprUnusedCard : Claim7 := { stood := { row := exprUnusedRow, standIns := [], harness := (true, "c47f4c3c1d8f2455717232c61ae3b02dbff97a5d7b18332959ea13856fbcd2c6"), looks := true }, kinds := [], alts := [], laidByText := true, laidKinds := [.data, .data, .data, .listed, .data], laidTests := true, laidLooks := .later }
def ExprUnusedCardSaid : Prop := Claim7.holds Tryz.pinned (.plain (OpenSpec.ofChange exprUnusedSpec)) exprUnusedCard

/-- THE TIED CARD OF 'gambrellaw04.ExprFolds'. -/
def exprFoldsCard : Claim7 := { stood := { row := exprFoldsRow, standIns := [], harness := (true, "c47f4c3c1d8f2455717232c61ae3b02dbff97a5d7b18332959ea13856fbcd2c6"), looks := true }, kinds := [], alts := [], laidByText := true, laidKinds := [.data, .data, .data, .listed, .data], laidTests := true, laidLooks := .later }
def ExprFoldsCardSaid : Prop := Claim7.holds Tryz.pinned (.plain (OpenSpec.ofChange exprFoldsSpec)) exprFoldsCard

/-- THE SECOND FORM's CARD OF 'gambrellaw04.ExprTexts'. -/
def exprTextsUptoCard : Claim7 := { stood := { row := exprTextsUptoRow, standIns := [], harness := (true, "c47f4c3c1d8f2455717232c61ae3b02dbff97a5d7b18332959ea13856fbcd2c6"), looks := true }, kinds := [], alts := [], laidByText := true, laidKinds := [.data, .data, .data, .listed, .data], laidTests := true, laidLooks := .later }
def ExprTextsUptoCardSaid : Prop := Claim7.holds Tryz.pinned (.plain (OpenSpec.upto exprTextsSpec)) exprTextsUptoCard

/-- THE SECOND FORM's CARD OF 'gambrellaw04.ExprNames'. -/
def exprNamesUptoCard : Claim7 := { stood := { row := exprNamesUptoRow, standIns := [], harness := (true, "c47f4c3c1d8f2455717232c61ae3b02dbff97a5d7b18332959ea13856fbcd2c6"), looks := true }, kinds := [], alts := [], laidByText := true, laidKinds := [.data, .data, .data, .listed, .data], laidTests := true, laidLooks := .later }
def ExprNamesUptoCardSaid : Prop := Claim7.holds Tryz.pinned (.plain (OpenSpec.upto exprNamesSpec)) exprNamesUptoCard

/-- THE SECOND FORM's CARD OF 'gambrellaw04.ExprChooses'. -/
def exprChoosesUptoCard : Claim7 := { stood := { row := exprChoosesUptoRow, standIns := [], harness := (true, "c47f4c3c1d8f2455717232c61ae3b02dbff97a5d7b18332959ea13856fbcd2c6"), looks := true }, kinds := [], alts := [], laidByText := true, laidKinds := [.data, .data, .data, .listed, .data], laidTests := true, laidLooks := .later }
def ExprChoosesUptoCardSaid : Prop := Claim7.holds Tryz.pinned (.plain (OpenSpec.upto exprChoosesSpec)) exprChoosesUptoCard

/-- THE SECOND FORM's CARD OF 'gambrellaw04.ExprBack'. -/
def exprBackUptoCard : Claim7 := { stood := { row := exprBackUptoRow, standIns := [], harness := (true, "c47f4c3c1d8f2455717232c61ae3b02dbff97a5d7b18332959ea13856fbcd2c6"), looks := true }, kinds := [], alts := [], laidByText := true, laidKinds := [.data, .data, .data, .listed, .data], laidTests := true, laidLooks := .later }
def ExprBackUptoCardSaid : Prop := Claim7.holds Tryz.pinned (.plain (OpenSpec.upto exprBackSpec)) exprBackUptoCard

/-- THE SECOND FORM's CARD OF 'gambrellaw04.ExprBinds'. -/
def exprBindsUptoCard : Claim7 := { stood := { row := exprBindsUptoRow, standIns := [], harness := (true, "c47f4c3c1d8f2455717232c61ae3b02dbff97a5d7b18332959ea13856fbcd2c6"), looks := true }, kinds := [], alts := [], laidByText := true, laidKinds := [.data, .data, .data, .listed, .data], laidTests := true, laidLooks := .later }
def ExprBindsUptoCardSaid : Prop := Claim7.holds Tryz.pinned (.plain (OpenSpec.upto exprBindsSpec)) exprBindsUptoCard

/-- THE SECOND FORM's CARD OF 'gambrellaw04.ExprUnused'. -/
def exprUnusedUptoCard : Claim7 := { stood := { row := exprUnusedUptoRow, standIns := [], harness := (true, "c47f4c3c1d8f2455717232c61ae3b02dbff97a5d7b18332959ea13856fbcd2c6"), looks := true }, kinds := [], alts := [], laidByText := true, laidKinds := [.data, .data, .data, .listed, .data], laidTests := true, laidLooks := .later }
def ExprUnusedUptoCardSaid : Prop := Claim7.holds Tryz.pinned (.plain (OpenSpec.upto exprUnusedSpec)) exprUnusedUptoCard

/-- THE SECOND FORM's CARD OF 'gambrellaw04.ExprFolds'. -/
def exprFoldsUptoCard : Claim7 := { stood := { row := exprFoldsUptoRow, standIns := [], harness := (true, "c47f4c3c1d8f2455717232c61ae3b02dbff97a5d7b18332959ea13856fbcd2c6"), looks := true }, kinds := [], alts := [], laidByText := true, laidKinds := [.data, .data, .data, .listed, .data], laidTests := true, laidLooks := .later }
def ExprFoldsUptoCardSaid : Prop := Claim7.holds Tryz.pinned (.plain (OpenSpec.upto exprFoldsSpec)) exprFoldsUptoCard
end Rows
end Go.Proofs.YtfhpamcehnfhoaaGreatDoor
