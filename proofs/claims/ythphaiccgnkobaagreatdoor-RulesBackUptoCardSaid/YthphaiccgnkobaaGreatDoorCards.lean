/-
  DERIVED. GIVEN WITH THE SEED: THE CARDS: each row of YthphaiccgnkobaaGreatDoorRows.lean that lists a variable, with what it lists TIED to the program's text (the seventh form; the later family's looks); each row that meets fmt, with fmt's text TOLD by the authors' own Lean function (tested against real Go, not proved from fmt's source: count such statements apart). THE CARD IS WHAT COUNTS. Prove the row's statement (the work); the ties are given (YthphaiccgnkobaaGreatDoorTie.lean); close each card by the builder's one call (the guide's Derived/Test/ToyasCard.lean, 'card_holds'). Laid BY PROGRAM, IN A SANDBOX (cutbox-door.mjs). By AI agents, Wed Nov 11 2026. No macro, syntax, notation, axiom, sorry.
-/
import Derived.Test.YthphaiccgnkobaaGreatDoorRows
import GoSem.ClaimSeven
namespace Go.Proofs.YthphaiccgnkobaaGreatDoor
namespace Rows

/-- THE TIED CARD OF 'gambrellaw25.RulesNames'. -/
def rulesNamesCard : Claim7 := { stood := { row := rulesNamesRow, standIns := [], harness := (true, "11fd9bc969362cc47d2bf02c5a88856dd6b2ee26e1f95904355d827a3c4fc276"), looks := true }, kinds := [], alts := [], laidByText := true, laidKinds := [.data, .data, .data, .data, .sentinel, .sentinel, .listed, .data, .pinned], laidTests := true, laidLooks := .later }
def RulesNamesCardSaid : Prop := Claim7.holds Tryz.pinned (.plain (OpenSpec.ofChange rulesNamesSpec)) rulesNamesCard

/-- THE TIED CARD OF 'gambrellaw25.RulesReach'. -/
def rulesReachCard : Claim7 := { stood := { row := rulesReachRow, standIns := [], harness := (true, "11fd9bc969362cc47d2bf02c5a88856dd6b2ee26e1f95904355d827a3c4fc276"), looks := true }, kinds := [], alts := [], laidByText := true, laidKinds := [.data, .data, .data, .data, .sentinel, .sentinel, .listed, .data, .pinned], laidTests := true, laidLooks := .later }
def RulesReachCardSaid : Prop := Claim7.holds Tryz.pinned (.plain (OpenSpec.ofChange rulesReachSpec)) rulesReachCard

/-- THE TIED CARD OF 'gambrellaw25.RulesOrder'. -/
def rulesOrderCard : Claim7 := { stood := { row := rulesOrderRow, standIns := [], harness := (true, "11fd9bc969362cc47d2bf02c5a88856dd6b2ee26e1f95904355d827a3c4fc276"), looks := true }, kinds := [], alts := [], laidByText := true, laidKinds := [.data, .data, .data, .data, .sentinel, .sentinel, .listed, .data, .pinned], laidTests := true, laidLooks := .later }
def RulesOrderCardSaid : Prop := Claim7.holds Tryz.pinned (.plain (OpenSpec.ofChange rulesOrderSpec)) rulesOrderCard

/-- THE TIED CARD OF 'gambrellaw25.RulesGrow'. -/
def rulesGrowCard : Claim7 := { stood := { row := rulesGrowRow, standIns := [], harness := (true, "11fd9bc969362cc47d2bf02c5a88856dd6b2ee26e1f95904355d827a3c4fc276"), looks := true }, kinds := [], alts := [], laidByText := true, laidKinds := [.data, .data, .data, .data, .sentinel, .sentinel, .listed, .data, .pinned], laidTests := true, laidLooks := .later }
def RulesGrowCardSaid : Prop := Claim7.holds Tryz.pinned (.plain (OpenSpec.ofChange rulesGrowSpec)) rulesGrowCard

/-- THE TIED CARD OF 'gambrellaw25.RulesTexts'. -/
def rulesTextsCard : Claim7 := { stood := { row := rulesTextsRow, standIns := [], harness := (true, "11fd9bc969362cc47d2bf02c5a88856dd6b2ee26e1f95904355d827a3c4fc276"), looks := true }, kinds := [], alts := [], laidByText := true, laidKinds := [.data, .data, .data, .data, .sentinel, .sentinel, .listed, .data, .pinned], laidTests := true, laidLooks := .later }
def RulesTextsCardSaid : Prop := Claim7.holds Tryz.pinned (.plain (OpenSpec.ofChange rulesTextsSpec)) rulesTextsCard

/-- THE TIED CARD OF 'gambrellaw25.RulesBack'. -/
def rulesBackCard : Claim7 := { stood := { row := rulesBackRow, standIns := [], harness := (true, "11fd9bc969362cc47d2bf02c5a88856dd6b2ee26e1f95904355d827a3c4fc276"), looks := true }, kinds := [], alts := [], laidByText := true, laidKinds := [.data, .data, .data, .data, .sentinel, .sentinel, .listed, .data, .pinned], laidTests := true, laidLooks := .later }
def RulesBackCardSaid : Prop := Claim7.holds Tryz.pinned (.plain (OpenSpec.ofChange rulesBackSpec)) rulesBackCard

/-- THE SECOND FORM's CARD OF 'gambrellaw25.RulesNames'. -/
def rulesNamesUptoCard : Claim7 := { stood := { row := rulesNamesUptoRow, standIns := [], harness := (true, "11fd9bc969362cc47d2bf02c5a88856dd6b2ee26e1f95904355d827a3c4fc276"), looks := true }, kinds := [], alts := [], laidByText := true, laidKinds := [.data, .data, .data, .data, .sentinel, .sentinel, .listed, .data, .pinned], laidTests := true, laidLooks := .later }
def RulesNamesUptoCardSaid : Prop := Claim7.holds Tryz.pinned (.plain (OpenSpec.upto rulesNamesSpec)) rulesNamesUptoCard

/-- THE SECOND FORM's CARD OF 'gambrellaw25.RulesReach'. -/
def rulesReachUptoCard : Claim7 := { stood := { row := rulesReachUptoRow, standIns := [], harness := (true, "11fd9bc969362cc47d2bf02c5a88856dd6b2ee26e1f95904355d827a3c4fc276"), looks := true }, kinds := [], alts := [], laidByText := true, laidKinds := [.data, .data, .data, .data, .sentinel, .sentinel, .listed, .data, .pinned], laidTests := true, laidLooks := .later }
def RulesReachUptoCardSaid : Prop := Claim7.holds Tryz.pinned (.plain (OpenSpec.upto rulesReachSpec)) rulesReachUptoCard

/-- THE SECOND FORM's CARD OF 'gambrellaw25.RulesOrder'. -/
def rulesOrderUptoCard : Claim7 := { stood := { row := rulesOrderUptoRow, standIns := [], harness := (true, "11fd9bc969362cc47d2bf02c5a88856dd6b2ee26e1f95904355d827a3c4fc276"), looks := true }, kinds := [], alts := [], laidByText := true, laidKinds := [.data, .data, .data, .data, .sentinel, .sentinel, .listed, .data, .pinned], laidTests := true, laidLooks := .later }
def RulesOrderUptoCardSaid : Prop := Claim7.holds Tryz.pinned (.plain (OpenSpec.upto rulesOrderSpec)) rulesOrderUptoCard

/-- THE SECOND FORM's CARD OF 'gambrellaw25.RulesGrow'. -/
def rulesGrowUptoCard : Claim7 := { stood := { row := rulesGrowUptoRow, standIns := [], harness := (true, "11fd9bc969362cc47d2bf02c5a88856dd6b2ee26e1f95904355d827a3c4fc276"), looks := true }, kinds := [], alts := [], laidByText := true, laidKinds := [.data, .data, .data, .data, .sentinel, .sentinel, .listed, .data, .pinned], laidTests := true, laidLooks := .later }
def RulesGrowUptoCardSaid : Prop := Claim7.holds Tryz.pinned (.plain (OpenSpec.upto rulesGrowSpec)) rulesGrowUptoCard

/-- THE SECOND FORM's CARD OF 'gambrellaw25.RulesTexts'. -/
def rulesTextsUptoCard : Claim7 := { stood := { row := rulesTextsUptoRow, standIns := [], harness := (true, "11fd9bc969362cc47d2bf02c5a88856dd6b2ee26e1f95904355d827a3c4fc276"), looks := true }, kinds := [], alts := [], laidByText := true, laidKinds := [.data, .data, .data, .data, .sentinel, .sentinel, .listed, .data, .pinned], laidTests := true, laidLooks := .later }
def RulesTextsUptoCardSaid : Prop := Claim7.holds Tryz.pinned (.plain (OpenSpec.upto rulesTextsSpec)) rulesTextsUptoCard

/-- THE SECOND FORM's CARD OF 'gambrellaw25.RulesBack'. -/
def rulesBackUptoCard : Claim7 := { stood := { row := rulesBackUptoRow, standIns := [], harness := (true, "11fd9bc969362cc47d2bf02c5a88856dd6b2ee26e1f95904355d827a3c4fc276"), looks := true }, kinds := [], alts := [], laidByText := true, laidKinds := [.data, .data, .data, .data, .sentinel, .sentinel, .listed, .data, .pinned], laidTests := true, laidLooks := .later }
def RulesBackUptoCardSaid : Prop := Claim7.holds Tryz.pinned (.plain (OpenSpec.upto rulesBackSpec)) rulesBackUptoCard
end Rows
end Go.Proofs.YthphaiccgnkobaaGreatDoor
