/-
  NARROWER THAN 'FOR EVERY INPUT', by the rows' own cells (each row's printed sentence says how): DeriveLists: loops · OverrideAttaches: loops.
  DERIVED. THE GIVEN ROWS OF THIS SEAT. 3 by the template 'for every input the law returns true; each argument reads behind the call as it read before'; 0 by the template 'total and deterministic' (their statements: YtabknpjajioneaaTotals.lean).
  GIVEN WITH THE SEED: the statements are not yours to turn. If you find one false, say at which input.
  Laid BY PROGRAM, IN A SANDBOX (cutbox-rows.mjs): the forced cells as the released guide's own fill.sh prints them over the translation ab155e1e52b56ac8… (all of the seat's roots in one cut). By AI agents, Wed Nov 11 2026. No macro, syntax, notation, axiom, sorry.
-/
import Derived.Test.YtabknpjajioneaaChecked
import GoSem.Claim
import GoSem.ClaimJoined
import GoSem.ClaimMapViews
import Derived.JoinedTies
import Derived.KernelRfl
namespace Go.Proofs.Ytabknpjajioneaa
/- THE CELL 'sum', in the pinned program and in every row, IS THE sha256 OF THE DUMP (.gsa) THAT YtabknpjajioneaaProg.lean LOADS. Nothing in Lean hashes anything: it is a label: what it is worth is what the hold of that sum in a sandbox is worth. -/
noncomputable def Try.pinned : Pinned := { name := "ytabknpjajioneaa", sum := "ab155e1e52b56ac82c0cfd7db9ad5ae02ac5fb9d817cc636f021facd91d28c62", checked := Try.checked }
namespace Rows
def none {H : Type} : Left H := { results := [], args := [] }

/-- 'gambrellaw27.DeriveLists': WHATEVER THE INPUT: true; the input reads as it did. -/
def deriveListsSpec : ChangeSpec := { name := "deriveLists", fn := fun _ => fun
  | [d1, d2] => { results := [.lit (.bool true)], args := [d1, d2] }
  | _ => none }
def deriveListsRow : OpenClaim := { program := "ytabknpjajioneaa", sum := "ab155e1e52b56ac82c0cfd7db9ad5ae02ac5fb9d817cc636f021facd91d28c62", func := "gambrel/gambrellaw27.DeriveLists", spec := "deriveLists", unfollowed := true, recurses := true, loops := true, apart := false }
def DeriveListsSaid : Prop := deriveListsRow.holds Try.pinned (OpenSpec.ofChange deriveListsSpec)

/-- ITS FALSE NEIGHBOUR: 'it returns false'. Refute it at one input. -/
def deriveListsWrong : ChangeSpec := { name := "deriveLists", fn := fun _ => fun
  | [d1, d2] => { results := [.lit (.bool false)], args := [d1, d2] }
  | _ => none }
def DeriveListsWrongFalsely : Prop := deriveListsRow.holds Try.pinned (OpenSpec.ofChange deriveListsWrong)

/-- 'gambrellaw30.OverrideAttaches': WHATEVER THE INPUT: true; the input reads as it did. -/
def overrideAttachesSpec : ChangeSpec := { name := "overrideAttaches", fn := fun _ => fun
  | [d1, d2] => { results := [.lit (.bool true)], args := [d1, d2] }
  | _ => none }
def overrideAttachesRow : OpenClaim := { program := "ytabknpjajioneaa", sum := "ab155e1e52b56ac82c0cfd7db9ad5ae02ac5fb9d817cc636f021facd91d28c62", func := "gambrel/gambrellaw30.OverrideAttaches", spec := "overrideAttaches", inPlace := ["internal/bytealg.CountString", "internal/bytealg.IndexByteString", "internal/bytealg.IndexString"], unfollowed := true, recurses := true, named := ["internal/bytealg.MaxLen"], loops := true, apart := false }
def OverrideAttachesSaid : Prop := overrideAttachesRow.holds Try.pinned (OpenSpec.ofChange overrideAttachesSpec)

/-- ITS FALSE NEIGHBOUR: 'it returns false'. Refute it at one input. -/
def overrideAttachesWrong : ChangeSpec := { name := "overrideAttaches", fn := fun _ => fun
  | [d1, d2] => { results := [.lit (.bool false)], args := [d1, d2] }
  | _ => none }
def OverrideAttachesWrongFalsely : Prop := overrideAttachesRow.holds Try.pinned (OpenSpec.ofChange overrideAttachesWrong)

/-- 'gambrellaw45.ReportSums': WHATEVER THE INPUT: true; the input reads as it did. -/
def reportSumsSpec : ChangeSpec := { name := "reportSums", fn := fun _ => fun
  | [d1, d2] => { results := [.lit (.bool true)], args := [d1, d2] }
  | _ => none }
def reportSumsRow : OpenClaim := { program := "ytabknpjajioneaa", sum := "ab155e1e52b56ac82c0cfd7db9ad5ae02ac5fb9d817cc636f021facd91d28c62", func := "gambrel/gambrellaw45.ReportSums", spec := "reportSums", inPlace := ["internal/bytealg.abigen_runtime_cmpstring"], unfollowed := true, recurses := true, apart := false }
def ReportSumsSaid : Prop := reportSumsRow.holds Try.pinned (OpenSpec.ofChange reportSumsSpec)

/-- ITS FALSE NEIGHBOUR: 'it returns false'. Refute it at one input. -/
def reportSumsWrong : ChangeSpec := { name := "reportSums", fn := fun _ => fun
  | [d1, d2] => { results := [.lit (.bool false)], args := [d1, d2] }
  | _ => none }
def ReportSumsWrongFalsely : Prop := reportSumsRow.holds Try.pinned (OpenSpec.ofChange reportSumsWrong)

/- THE SECOND FORM. 'bulk': how many values and letters a reading holds, each counted each time it is reached (what is shared counts as often as it is met; a slice's spare places count too). A statement '..UptoSaid' is the law's where the arguments, and the package variables that the reading takes, are together of bulk at most 1048576: NARROWER than '..Said'. Prove '..Said' where nothing that the law and all that it calls make is longer than what came in: it says more and counts as full. Else prove '..UptoSaid'. A law counts once. -/
mutual
def uptoBulk {H : Type} : DataW H → Nat
  | .lit (.string bytes) => bytes.length + 1
  | .lit _ => 1
  | .nil => 1
  | .ptr d => uptoBulk d + 1
  | .slice elems spare => uptoBulkAll elems + uptoBulkAll spare + 1
  | .agg parts => uptoBulkAll parts + 1
  | .iface _ d => uptoBulk d + 1
  | .map entries => uptoBulkEntries entries + 1
  | .held _ => 1
def uptoBulkAll {H : Type} : List (DataW H) → Nat
  | [] => 0
  | d :: r => uptoBulk d + uptoBulkAll r
def uptoBulkEntries {H : Type} : List (Lit × DataW H) → Nat
  | [] => 0
  | x :: r => uptoBulkEntry x + uptoBulkEntries r
def uptoBulkEntry {H : Type} : Lit × DataW H → Nat
  | (.string bytes, d) => bytes.length + uptoBulk d + 1
  | (_, d) => uptoBulk d + 1
 end
def uptoSmall : (H : Type) → List (DataW H) → Bool := fun _ ds => decide (uptoBulkAll ds ≤ 1048576)
def OpenSpec.upto (s : _root_.Go.ChangeSpec) : _root_.Go.OpenSpec := { _root_.Go.OpenSpec.ofChange s with cond := some uptoSmall }

/-- 'gambrellaw27.DeriveLists', WHERE WHAT IT READS IS OF BULK AT MOST 1048576: true; the input reads as it did. -/
def deriveListsUptoRow : OpenClaim := { program := "ytabknpjajioneaa", sum := "ab155e1e52b56ac82c0cfd7db9ad5ae02ac5fb9d817cc636f021facd91d28c62", func := "gambrel/gambrellaw27.DeriveLists", spec := "deriveLists", unfollowed := true, recurses := true, loops := true, apart := false, narrowed := true }
def DeriveListsUptoSaid : Prop := deriveListsUptoRow.holds Try.pinned (OpenSpec.upto deriveListsSpec)

/-- 'gambrellaw30.OverrideAttaches', WHERE WHAT IT READS IS OF BULK AT MOST 1048576: true; the input reads as it did. -/
def overrideAttachesUptoRow : OpenClaim := { program := "ytabknpjajioneaa", sum := "ab155e1e52b56ac82c0cfd7db9ad5ae02ac5fb9d817cc636f021facd91d28c62", func := "gambrel/gambrellaw30.OverrideAttaches", spec := "overrideAttaches", inPlace := ["internal/bytealg.CountString", "internal/bytealg.IndexByteString", "internal/bytealg.IndexString"], unfollowed := true, recurses := true, named := ["internal/bytealg.MaxLen"], loops := true, apart := false, narrowed := true }
def OverrideAttachesUptoSaid : Prop := overrideAttachesUptoRow.holds Try.pinned (OpenSpec.upto overrideAttachesSpec)

/-- 'gambrellaw45.ReportSums', WHERE WHAT IT READS IS OF BULK AT MOST 1048576: true; the input reads as it did. -/
def reportSumsUptoRow : OpenClaim := { program := "ytabknpjajioneaa", sum := "ab155e1e52b56ac82c0cfd7db9ad5ae02ac5fb9d817cc636f021facd91d28c62", func := "gambrel/gambrellaw45.ReportSums", spec := "reportSums", inPlace := ["internal/bytealg.abigen_runtime_cmpstring"], unfollowed := true, recurses := true, apart := false, narrowed := true }
def ReportSumsUptoSaid : Prop := reportSumsUptoRow.holds Try.pinned (OpenSpec.upto reportSumsSpec)

end Rows
end Go.Proofs.Ytabknpjajioneaa
