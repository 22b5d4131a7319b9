/-
  DERIVED. GIVEN WITH THE SEED: THE CARDS: each row of YtoimblncdeimoaaDoorRows.lean that lists a variable, with what it lists TIED to the program's text (the seventh form; the later family's looks); each row that meets fmt, with fmt's text TOLD by the authors' own Lean function (tested against real Go, not proved from fmt's source: count such statements apart). THE CARD IS WHAT COUNTS. Prove the row's statement (the work); the ties are given (YtoimblncdeimoaaDoorTie.lean); close each card by the builder's one call (the guide's Derived/Test/ToyasCard.lean, 'card_holds'). Laid BY PROGRAM, IN A SANDBOX (cutbox-door.mjs). By AI agents, Wed Nov 11 2026. No macro, syntax, notation, axiom, sorry.
-/
import Derived.Test.YtoimblncdeimoaaDoorRows
import GoSem.ClaimSeven
namespace Go.Proofs.YtoimblncdeimoaaDoor
namespace Rows

/-- THE TIED CARD OF 'gambrellaw31.EditFollows'. -/
def editFollowsCard : Claim7 := { stood := { row := editFollowsRow, standIns := [], harness := (true, "9edb921a24aa5c8bfd94eaa2d83cdb11bc17859a6c774f72244c39a4481d1a54"), looks := false }, kinds := [], alts := [], laidByText := true, laidKinds := [.data, .pinned], laidTests := true, laidLooks := .later }
def EditFollowsCardSaid : Prop := Claim7.holds Tryd.pinned (.plain (OpenSpec.ofChange editFollowsSpec)) editFollowsCard

/-- THE SECOND FORM's CARD OF 'gambrellaw31.EditFollows'. -/
def editFollowsUptoCard : Claim7 := { stood := { row := editFollowsUptoRow, standIns := [], harness := (true, "9edb921a24aa5c8bfd94eaa2d83cdb11bc17859a6c774f72244c39a4481d1a54"), looks := false }, kinds := [], alts := [], laidByText := true, laidKinds := [.data, .pinned], laidTests := true, laidLooks := .later }
def EditFollowsUptoCardSaid : Prop := Claim7.holds Tryd.pinned (.plain (OpenSpec.upto editFollowsSpec)) editFollowsUptoCard
end Rows
end Go.Proofs.YtoimblncdeimoaaDoor
