/-
  gambrellaw04.ExprNames answers true: its run, reckoned; the row and the tied card.
-/
import Derived.Test.YtfhpamcehnfhoaaGreatDoorE9
import Derived.Test.YtfhpamcehnfhoaaGreatDoorRows
import Derived.Test.YtfhpamcehnfhoaaGreatDoorChecked
import Derived.Test.YtfhpamcehnfhoaaGreatDoorCards
import Derived.Test.YtfhpamcehnfhoaaGreatDoorTie
import Derived.WalkKit
import Derived.ProofKit
import Derived.Handy
import Derived.Lay
import Derived.SevenTiedAt
import Derived.Lib.LaidTab
import Derived.Stop.LaidErr
namespace Go.Proofs.YtfhpamcehnfhoaaGreatDoor
open Go Go.Ab Go.ChangeShapes Go.WideShapes Go.ChangeAt Go.RowKit
set_option linter.unusedVariables false

theorem laidOut : laidOutB Tryz.prog = true := by kernel_rfl
theorem own : ownKnob Tryz.prog.godebug = none := by kernel_rfl

theorem glob_at {W : World} {name : String} {k : IntKind} {g : Nat} {cs : List (IntKind × Int)} (hcs : cs.map (fun p => Value.int p.1 p.2) = (cs.map Prod.snd).map fun z => Value.int k z) (hn : Tryz.prog.globalNamed name = some g)
    (h : Lib.TabIs Tryz.prog W name k (cs.map Prod.snd)) : ¬ Own g0 H0 g ∧ ∃ ty q, W.heap[g]? = some (.cells (cs.map fun p => Value.int p.1 p.2).toArray ty q) := by
  refine ⟨own0 _ _, ?_⟩
  unfold Lib.TabIs World.var? at h
  rw [hn] at h
  simp only [Option.bind_some] at h
  split at h
  · rename_i cs' ty q hq
    injection h with h
    rw [hcs]
    exact ⟨ty, q, by rw [hq, h]⟩
  · cases h
set_option maxRecDepth 100000 in
theorem glob {W : World} (hL : laidMet Tryz.prog Rows.exprNamesRow.laid W) : GlobOk W g0 H0 := fun k cs hk => by
  unfold gl at hk
  split at hk
  · injection hk with hk; subst hk
    exact glob_at (k := .u8) (name := "strings.asciiSpace") (by kernel_rfl) (by kernel_rfl) (Lib.tabIs_of_head (g := 0) (rest := []) (by kernel_rfl) (by kernel_rfl) Tryz.underlying125 Tryz.underlying5 (by kernel_rfl) (by kernel_rfl) hL.tail.tail.tail.tail)
  · injection hk with hk; subst hk
    exact glob_at (k := .u64) (name := "internal/strconv.uint64pow10") (by kernel_rfl) (by kernel_rfl) (Lib.tabIs_of_head (g := 3) (by kernel_rfl) (by kernel_rfl) Tryz.underlying238 Tryz.underlying154 (by kernel_rfl) (by kernel_rfl) hL.tail.tail)
  · cases hk

theorem law {W : World} (hL : laidMet Tryz.prog Rows.exprNamesRow.laid W) : Calls Tryz.prog 4 #[] W fun e W' => e = .returned (.bool true) ∧ Below W.heap.size W W' :=
  law_calls (ok74 H0 rfl) (fun _ _ => Tryz.call4 _ _) relA_nil (glob hL)

set_option maxRecDepth 100000 in
theorem lifted (os : Os) (started : os.Started) (H : Type) (enc : TypeId × Value → H) :
    ReturnsInHanded {} Tryz.checked os 4 .any (fun w args => (Rows.exprNamesSpec.pre enc Tryz.prog Tryz.f4 [] false w args ∧ laidMetH Tryz.prog Rows.exprNamesRow.laid w) ∧ sizedMet enc Tryz.prog Tryz.f4 (OpenSpec.ofChange Rows.exprNamesSpec) false w args)
      (Rows.exprNamesSpec.post enc Tryz.prog Tryz.f4 false true false false) := by
  refine returnsInHanded_of_change_and (C := Tryz.checked) (X := fun w _ => laidMetH Tryz.prog Rows.exprNamesRow.laid w) (fun _ _ _ hh h => h.of_heap hh) own started (by kernel_rfl) Tryz.func4
    (ChangeSpec.witness_shaped (enc := enc) (C := Tryz.checked) (os := os) (X := fun w _ => laidMetH Tryz.prog Rows.exprNamesRow.laid w) false (World.laidAll Tryz.prog os Rows.exprNamesRow.laid) #[] 8 (World.laidAll_os _ _ _)
      (World.shaped_of_ZipB (by kernel_rfl) (by kernel_rfl)) (by kernel_rfl) (by kernel_rfl) (by kernel_rfl)
      (by rw [MakeChecks.laidMetH_plain _ _ _ (by kernel_rfl)]; exact laidMet_laidAll _ (by kernel_rfl) (by kernel_rfl))) ?_
  intro W base args ds gs before hval0 hW _ _ hL _
  have hL : laidMetH Tryz.prog Rows.exprNamesRow.laid W := hL
  rw [MakeChecks.laidMetH_plain _ _ _ (by kernel_rfl)] at hL
  have hW' := hW
  obtain ⟨p, q, hA0, hV, rfl, _, _⟩ := hW
  have hA : DataW.TrodAll enc Tryz.prog W 0 (fun _ => true) true Tryz.f4.params.toList args.toList ds p := hA0
  rw [Tryz.params4] at hA
  obtain ⟨h1, rfl, rfl⟩ := ChangeShapes.trodAll_nil hA
  obtain rfl : args = #[] := by cases args; simp_all
  obtain ⟨rfl, rfl⟩ := trodVars_none hV
  simp only [List.append_nil] at hW'
  refine (law hL).mono fun e W' ⟨he, hb⟩ => ?_
  exact ⟨_, he, law_post laidOut rfl (by rw [Tryz.params4]; intro t ht; simp at ht) (by kernel_rfl) Tryz.underlying4 ⟨rfl, rfl, rfl⟩ hW' hb⟩

theorem said : Rows.ExprNamesSaid :=
  OpenClaim.holds_of_wide 4 Tryz.f4 rfl rfl rfl rfl rfl rfl rfl ⟨rfl, rfl, rfl, rfl, rfl⟩ rfl rfl rfl rfl rfl (by kernel_rfl) Tryz.func4 (by kernel_rfl)
    (of_decide_eq_true (by kernel_rfl)) (by unfold Func.isWrapper; first | (rw [if_pos (by decide +kernel)]; kernel_rfl) | (rw [if_neg (by decide +kernel)]; exact ⟨rfl, rfl⟩))
    (fun os started H enc _ => lifted os started H enc)

theorem proved : Rows.ExprNamesCardSaid :=
  Claim7.holds_tied_plain_at .later [] _ _ _ _ said (fun _ h => by cases h) (by kernel_rfl) (fun _ h => by cases h) exprNames_row_tie rfl ⟨rfl, rfl⟩ (by kernel_rfl) rfl
    (fun f fn hf hfn => by
      obtain rfl : f = 4 := Option.some.inj ((show Tryz.prog.funcNamed Rows.exprNamesRow.func = some 4 by kernel_rfl).symm.trans hf) |>.symm
      obtain rfl : fn = Tryz.f4 := (Option.some.inj (Tryz.func4.symm.trans hfn)).symm
      exact ⟨by kernel_rfl, fun j t ht => by rw [Tryz.params4] at ht; simp at ht⟩)
    (by kernel_rfl)
#print axioms proved
end Go.Proofs.YtfhpamcehnfhoaaGreatDoor
