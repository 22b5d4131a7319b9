/-
  gambrellaw31.EditNames answers true: its functions' values at its inputs, reckoned; the row and the tied card.
-/
import Derived.Test.YthlmhmebajjkbaaGreatDoorOwn3
import Derived.Test.YthlmhmebajjkbaaGreatDoorRows
import Derived.Test.YthlmhmebajjkbaaGreatDoorChecked
import Derived.Test.YthlmhmebajjkbaaGreatDoorCards
import Derived.Test.YthlmhmebajjkbaaGreatDoorTie
import Derived.WalkKit
import Derived.ProofKit
import Derived.Handy
import Derived.Lay
import Derived.SevenTiedAt
import Derived.Lib.LaidTab
namespace Go.Proofs.YthlmhmebajjkbaaGreatDoor
open Go Go.Ab Go.ChangeShapes Go.WideShapes Go.ChangeAt Go.RowKit
set_option linter.unusedVariables false
theorem laidOut:laidOutB Tryz.prog=true:=by kernel_rfl
theorem ownGd:ownKnob Tryz.prog.godebug=none:=by kernel_rfl
theorem law (W:World):Calls Tryz.prog 3 #[] W λe W'=>e = .returned (.bool true)∧Below W.heap.size W W' :=
 ycf (yh2 H0) yfk ⟨λk cs h=>(by cases h),λk h=>(by cases h)⟩
set_option maxRecDepth 100000 in
theorem lifted (os:Os) (started:os.Started) (H:Type) (enc:TypeId×Value->H) :
  ReturnsInHanded {} Tryz.checked os 3 .any (λw args=>(Rows.editNamesSpec.pre enc Tryz.prog Tryz.f3 [] false w args∧laidMetH Tryz.prog Rows.editNamesRow.laid w)∧sizedMet enc Tryz.prog Tryz.f3 (OpenSpec.ofChange Rows.editNamesSpec) false w args)
   (Rows.editNamesSpec.post enc Tryz.prog Tryz.f3 false true false false):=by
 refine returnsInHanded_of_change_and (C:=Tryz.checked) (X:=λw _=>laidMetH Tryz.prog Rows.editNamesRow.laid w) (λ_ _ _ hh h=>h.of_heap hh) ownGd started (by kernel_rfl) Tryz.func3
  (ChangeSpec.witness_shaped (enc:=enc) (C:=Tryz.checked) (os:=os) (X:=λw _=>laidMetH Tryz.prog Rows.editNamesRow.laid w) false (World.laidAll Tryz.prog os Rows.editNamesRow.laid) #[] 8 (World.laidAll_os _ _ _)
   (World.shaped_of_ZipB (by kernel_rfl) (by kernel_rfl)) (by kernel_rfl) (by kernel_rfl) (by kernel_rfl)
   (by rw [MakeChecks.laidMetH_plain _ _ _ (by kernel_rfl)];exact laidMet_laidAll _ (by kernel_rfl) (by kernel_rfl))) ?_
 intro W base args ds gs before hval0 hW _ _ hL _;have hW':=hW;obtain ⟨p,q,hA0,hV,rfl,_,_⟩:=hW;have hA:DataW.TrodAll enc Tryz.prog W 0 (λ_=>true) true Tryz.f3.params.toList args.toList ds p:=hA0;rw [Tryz.params3] at hA;obtain ⟨h1,rfl,rfl⟩:=ChangeShapes.trodAll_nil hA;obtain rfl:args = #[]:=by cases args;simp_all
 obtain ⟨rfl,rfl⟩:=trodVars_none hV;simp only [List.append_nil] at hW';refine (law W).mono λe W' ⟨he,hb⟩ => ?_
 exact ⟨_,he,yg3 laidOut rfl (by rw [Tryz.params3];intro t ht;simp at ht) (by kernel_rfl) Tryz.underlying4 ⟨rfl,rfl,rfl⟩ hW' hb⟩
theorem said:Rows.EditNamesSaid :=
 OpenClaim.holds_of_wide 3 Tryz.f3 rfl rfl rfl rfl rfl rfl rfl ⟨rfl,rfl,rfl,rfl,rfl⟩ rfl rfl rfl rfl rfl (by kernel_rfl) Tryz.func3 (by kernel_rfl)
  (Qac (by kernel_rfl)) (by unfold Func.isWrapper;first|(rw [Qbp (by decide +kernel)];kernel_rfl)|(rw [Qbq (by decide +kernel)];exact ⟨rfl,rfl⟩))
  (λos started H enc _=>lifted os started H enc)
theorem proved:Rows.EditNamesCardSaid :=
 Claim7.holds_tied_plain_at .later [] _ _ _ _ said (λ_ h=>by cases h) (by kernel_rfl) (λ_ h=>by cases h) editNames_row_tie rfl ⟨rfl,rfl⟩ (by kernel_rfl) rfl
  (λf fn hf hfn=>by
   obtain rfl:f=3:=Option.some.inj ((show Tryz.prog.funcNamed Rows.editNamesRow.func=some 3 by kernel_rfl).symm.trans hf) |>.symm
   obtain rfl:fn=Tryz.f3:=(Option.some.inj (Tryz.func3.symm.trans hfn)).symm
   exact ⟨by kernel_rfl,λj t ht=>by rw [Tryz.params3] at ht;simp at ht⟩)
  (by kernel_rfl)
#print axioms proved
end Go.Proofs.YthlmhmebajjkbaaGreatDoor
