/-
  gambrellaw25.RulesNames answers true: its functions' values at its inputs, reckoned; the row and the tied card.
-/
import Derived.Test.YthphaiccgnkobaaGreatDoorRun2
import Derived.Test.YthphaiccgnkobaaGreatDoorCf0
import Derived.Test.YthphaiccgnkobaaGreatDoorChecked
import Derived.Test.YthphaiccgnkobaaGreatDoorCards
import Derived.Test.YthphaiccgnkobaaGreatDoorTie
namespace Go.Proofs.YthphaiccgnkobaaGreatDoor
open Go Go.Ab Go.ChangeShapes Go.WideShapes Go.ChangeAt Go.RowKit
set_option linter.unusedVariables false
theorem laidOut:laidOutB Tryz.prog=true:=by kernel_rfl
theorem ownGd:ownKnob Tryz.prog.godebug=none:=by kernel_rfl
theorem law{W:World}(hL:laidMet Tryz.prog Rows.rulesNamesRow.laid W):Calls Tryz.prog 3 #[] W λe W'=>e = .returned (.bool true)∧Below W.heap.size W W' :=
 y6c (yb1 H0) (λ_ _=>Tryz.call3 _ _) y7t (zf4 hL)
set_option maxRecDepth 100000 in
theorem lifted(os:Os)(started:os.Started)(H:Type)(enc:TypeId×Value->H) :
  ReturnsInHanded {} Tryz.checked os 3 .any (λw args=>(Rows.rulesNamesSpec.pre enc Tryz.prog Tryz.f3 [] false w args∧laidMetH Tryz.prog Rows.rulesNamesRow.laid w)∧sizedMet enc Tryz.prog Tryz.f3 (OpenSpec.ofChange Rows.rulesNamesSpec) false w args)
   (Rows.rulesNamesSpec.post enc Tryz.prog Tryz.f3 false true false false):=by
 refine returnsInHanded_of_change_and (C:=Tryz.checked) (X:=λw _=>laidMetH Tryz.prog Rows.rulesNamesRow.laid w) (λ_ _ _ hh h=>h.of_heap hh) ownGd started (by kernel_rfl) Tryz.func3
  (ChangeSpec.witness_shaped (enc:=enc) (C:=Tryz.checked) (os:=os) (X:=λw _=>laidMetH Tryz.prog Rows.rulesNamesRow.laid w) false (World.laidAll Tryz.prog os Rows.rulesNamesRow.laid) #[] 8 (World.laidAll_os _ _ _)
   (World.shaped_of_ZipB (by kernel_rfl) (by kernel_rfl)) (by kernel_rfl) (by kernel_rfl) (by kernel_rfl)
   (by rw[MakeChecks.laidMetH_plain _ _ _ (by kernel_rfl)];exact laidMet_laidAll _ (by kernel_rfl) (by kernel_rfl))) ?_
 intro W base args ds gs before hval0 hW _ _ hL _;have hL:laidMetH Tryz.prog Rows.rulesNamesRow.laid W:=hL;rw[MakeChecks.laidMetH_plain _ _ _ (by kernel_rfl)]at hL;have hW':=hW;obtain⟨p,q,hA0,hV,rfl,_,_⟩:=hW;have hA:DataW.TrodAll enc Tryz.prog W 0 (λ_=>true) true Tryz.f3.params.toList args.toList ds p:=hA0;rw[Tryz.params3]at hA;obtain⟨h1,rfl,rfl⟩:=ChangeShapes.trodAll_nil hA
 obtain rfl:args = #[]:=by cases args;simp_all
 obtain⟨rfl,rfl⟩:=trodVars_none hV;simp only[List.append_nil]at hW';refine(law hL).mono λe W' ⟨he,hb⟩ =>?_
 exact⟨_,he,y9h laidOut rfl (by rw[Tryz.params3];intro t ht;simp at ht) (by kernel_rfl) Tryz.underlying4 ⟨rfl,rfl,rfl⟩ hW' hb⟩
theorem said:Rows.RulesNamesSaid :=
 OpenClaim.holds_of_wide 3 Tryz.f3 rfl rfl rfl rfl rfl rfl rfl ⟨rfl,rfl,rfl,rfl,rfl⟩ rfl rfl rfl rfl rfl (by kernel_rfl) Tryz.func3 y1v
  (Qac (by kernel_rfl)) (by unfold Func.isWrapper;first|(rw[Qbq (by decide +kernel)];kernel_rfl)|(rw[Qbr (by decide +kernel)];exact⟨rfl,rfl⟩))
  (λos started H enc _=>lifted os started H enc)
theorem proved:Rows.RulesNamesCardSaid :=
 Claim7.holds_tied_plain_at .later [] _ _ _ _ said (λ_ h=>by cases h) (by kernel_rfl) (λ_ h=>by cases h) rulesNames_row_tie rfl ⟨rfl,rfl⟩ (by kernel_rfl) rfl
  (λf fn hf hfn=>by
   obtain rfl:f=3:=Option.some.inj ((show Tryz.prog.funcNamed Rows.rulesNamesRow.func=some 3 by kernel_rfl).symm.trans hf) |>.symm
   obtain rfl:fn=Tryz.f3:=(Option.some.inj (Tryz.func3.symm.trans hfn)).symm
   exact⟨by kernel_rfl,λj t ht=>by rw[Tryz.params3]at ht;simp at ht⟩)
  (by kernel_rfl)
#print axioms proved
end Go.Proofs.YthphaiccgnkobaaGreatDoor
