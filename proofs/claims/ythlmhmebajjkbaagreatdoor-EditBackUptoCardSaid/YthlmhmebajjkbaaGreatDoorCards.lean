/-
  DERIVED. GIVEN WITH THE SEED: THE CARDS: each row of YthlmhmebajjkbaaGreatDoorRows.lean that lists a variable, with what it lists TIED to the program's text (the seventh form; the later family's looks); each row that meets fmt, with fmt's text TOLD by the authors' own Lean function (tested against real Go, not proved from fmt's source: count such statements apart). THE CARD IS WHAT COUNTS. Prove the row's statement (the work); the ties are given (YthlmhmebajjkbaaGreatDoorTie.lean); close each card by the builder's one call (the guide's Derived/Test/ToyasCard.lean, 'card_holds'). Laid BY PROGRAM, IN A SANDBOX (cutbox-door.mjs). By AI agents, Wed Nov 11 2026. No macro, syntax, notation, axiom, sorry.
-/
import Derived.Test.YthlmhmebajjkbaaGreatDoorRows
import GoSem.ClaimSeven
namespace Go.Proofs.YthlmhmebajjkbaaGreatDoor
namespace Rows

/-- THE TIED CARD OF 'gambrellaw31.EditNames'. -/
def editNamesCard : Claim7 := { stood := { row := editNamesRow, standIns := [], harness := (true, "31982835e3c3b71106c29234e10d94068dc7ab3e84408b7c6b8d0e0131ab9c69"), looks := false }, kinds := [], alts := [], laidByText := true, laidKinds := [.data, .pinned], laidTests := true, laidLooks := .later }
def EditNamesCardSaid : Prop := Claim7.holds Tryz.pinned (.plain (OpenSpec.ofChange editNamesSpec)) editNamesCard

/-- THE TIED CARD OF 'gambrellaw31.EditBack'. -/
def editBackCard : Claim7 := { stood := { row := editBackRow, standIns := [], harness := (true, "31982835e3c3b71106c29234e10d94068dc7ab3e84408b7c6b8d0e0131ab9c69"), looks := false }, kinds := [], alts := [], laidByText := true, laidKinds := [.data, .pinned], laidTests := true, laidLooks := .later }
def EditBackCardSaid : Prop := Claim7.holds Tryz.pinned (.plain (OpenSpec.ofChange editBackSpec)) editBackCard

/-- THE TIED CARD OF 'gambrellaw31.EditNothing'. -/
def editNothingCard : Claim7 := { stood := { row := editNothingRow, standIns := [], harness := (true, "31982835e3c3b71106c29234e10d94068dc7ab3e84408b7c6b8d0e0131ab9c69"), looks := false }, kinds := [], alts := [], laidByText := true, laidKinds := [.data, .pinned], laidTests := true, laidLooks := .later }
def EditNothingCardSaid : Prop := Claim7.holds Tryz.pinned (.plain (OpenSpec.ofChange editNothingSpec)) editNothingCard

/-- THE SECOND FORM's CARD OF 'gambrellaw31.EditNames'. -/
def editNamesUptoCard : Claim7 := { stood := { row := editNamesUptoRow, standIns := [], harness := (true, "31982835e3c3b71106c29234e10d94068dc7ab3e84408b7c6b8d0e0131ab9c69"), looks := false }, kinds := [], alts := [], laidByText := true, laidKinds := [.data, .pinned], laidTests := true, laidLooks := .later }
def EditNamesUptoCardSaid : Prop := Claim7.holds Tryz.pinned (.plain (OpenSpec.upto editNamesSpec)) editNamesUptoCard

/-- THE SECOND FORM's CARD OF 'gambrellaw31.EditBack'. -/
def editBackUptoCard : Claim7 := { stood := { row := editBackUptoRow, standIns := [], harness := (true, "31982835e3c3b71106c29234e10d94068dc7ab3e84408b7c6b8d0e0131ab9c69"), looks := false }, kinds := [], alts := [], laidByText := true, laidKinds := [.data, .pinned], laidTests := true, laidLooks := .later }
def EditBackUptoCardSaid : Prop := Claim7.holds Tryz.pinned (.plain (OpenSpec.upto editBackSpec)) editBackUptoCard

/-- THE SECOND FORM's CARD OF 'gambrellaw31.EditNothing'. -/
def editNothingUptoCard : Claim7 := { stood := { row := editNothingUptoRow, standIns := [], harness := (true, "31982835e3c3b71106c29234e10d94068dc7ab3e84408b7c6b8d0e0131ab9c69"), looks := false }, kinds := [], alts := [], laidByText := true, laidKinds := [.data, .pinned], laidTests := true, laidLooks := .later }
def EditNothingUptoCardSaid : Prop := Claim7.holds Tryz.pinned (.plain (OpenSpec.upto editNothingSpec)) editNothingUptoCard
end Rows
end Go.Proofs.YthlmhmebajjkbaaGreatDoor
