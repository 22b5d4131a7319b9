/-
  Closed facts of the row, one by one.
-/
import Derived.Test.YthphaiccgnkobaaGreatDoorRun2
import Derived.Test.YthphaiccgnkobaaGreatDoorChecked
import Derived.JoinedCond
namespace Go.Proofs.YthphaiccgnkobaaGreatDoor
open Go Go.Ab Go.ChangeShapes Go.WideShapes Go.ChangeAt Go.RowKit
open Go.Proofs.Tryz Go.Proofs.YthphaiccgnkobaaGreatDoor.Tryz
set_option maxRecDepth 100000
theorem zac{a b:Bool}(h:a=true)(k:b=true):(a&&b)=true:=by rw[h,k];rfl
theorem cf0:(Rows.rulesNamesRow.wf (OpenSpec.ofChange Rows.rulesNamesSpec))=true:=by kernel_rfl
theorem cf1:(laidOutB pinned.checked.prog)=true:=by kernel_rfl
theorem cf2:(mapsRowed pinned.checked.prog)=true:=by kernel_rfl
theorem cf3:(f3.params.all (pinned.checked.prog.readableRec ·))=true:=by kernel_rfl
theorem cf4:(namedTie pinned.checked.prog Rows.rulesNamesRow.named Rows.rulesNamesSpec.vars)=true:=by kernel_rfl
theorem cf5:((Rows.rulesNamesRow.stops==[]))=true:=by kernel_rfl
theorem cf6:((pinned.checked.prog.stops==[]))=true:=by kernel_rfl
theorem cf7:((Rows.rulesNamesRow.knobs==[]))=true:=by kernel_rfl
theorem cf8:((pinned.checked.prog.stopKnobs==[]))=true:=by kernel_rfl
theorem cf9:((Rows.rulesNamesRow.inPlace==pinned.checked.prog.inPlace 3))=true:=by kernel_rfl
theorem cf10:((Rows.rulesNamesRow.unfollowed==pinned.checked.prog.unfollowed 3))=true:=by kernel_rfl
theorem cf11:((Rows.rulesNamesRow.recurses==pinned.checked.prog.recurses 3))=true:=by kernel_rfl
theorem cf12:((Rows.rulesNamesRow.named==pinned.checked.prog.varsNamed 3))=true:=by kernel_rfl
theorem cf13:((Rows.rulesNamesRow.maps==(f3.params.toList++Rows.rulesNamesSpec.plain.varTypes pinned.checked.prog).any (pinned.checked.prog.mapsRec ·)))=true:=by kernel_rfl
theorem cf14:((Rows.rulesNamesRow.ifaces==(f3.params.toList++Rows.rulesNamesSpec.plain.varTypes pinned.checked.prog).any (pinned.checked.prog.ifacesRec ·)))=true:=by kernel_rfl
theorem cf15:((Rows.rulesNamesRow.mapsOut==pinned.checked.prog.mapsAmong f3.resultTypes.toList))=true:=by kernel_rfl
theorem cf16:((Rows.rulesNamesRow.loops==(f3.params.toList++Rows.rulesNamesSpec.plain.varTypes pinned.checked.prog).any (pinned.checked.prog.loopsFrom ·)))=true:=by kernel_rfl
theorem cf17:((Rows.rulesNamesRow.wideKeys==(f3.params.toList++Rows.rulesNamesSpec.plain.varTypes pinned.checked.prog++f3.resultTypes.toList).any (pinned.checked.prog.wideKeysFrom ·)))=true:=by kernel_rfl
theorem cf18:(Rows.rulesNamesSpec.vars.all (pinned.checked.prog.varReadable ·))=true:=by kernel_rfl
theorem cf19:(f3.resultTypes.all (λt=>pinned.checked.prog.readableRec t&&decide (t<pinned.checked.prog.types.size)))=true:=by kernel_rfl
theorem cf20:((Rows.rulesNamesRow.ifacesOut==f3.resultTypes.toList.any (pinned.checked.prog.ifacesRec ·)))=true:=by kernel_rfl
theorem cf21:((Rows.rulesNamesRow.loopsOut==f3.resultTypes.toList.any (pinned.checked.prog.loopsFrom ·)))=true:=by kernel_rfl
theorem cf22:((Rows.rulesNamesRow.plainKeys==pinned.checked.prog.plainKeys))=true:=by kernel_rfl
theorem cf23:(Rows.rulesNamesRow.shortTexts.isNone)=true:=by kernel_rfl
theorem cf24:(pinned.checked.prog.stopsHeard)=true:=by kernel_rfl
theorem cf25:(pinned.checked.prog.mayEnter)=true:=by kernel_rfl
theorem cf26:((Rows.rulesNamesRow.lifted==pinned.checked.prog.liftsFinal))=true:=by kernel_rfl
theorem cf27:((pinned.checked.prog.make==some Rows.rulesNamesRow.make))=true:=by kernel_rfl
theorem cf28:((Rows.rulesNamesRow.kinds==(if Rows.rulesNamesRow.domain.isEmpty then []else f3.params.toList.map λt=>match pinned.checked.prog.underlying t with|some (.int k)=>some k|_=>none)))=true:=by kernel_rfl
theorem cf29:((Rows.rulesNamesRow.pinned==Rows.rulesNamesRow.pinnedBy))=true:=by kernel_rfl
theorem cf30:((Rows.rulesNamesRow.veiled==(f3.params.toList++Rows.rulesNamesSpec.plain.varTypes pinned.checked.prog++f3.resultTypes.toList).any (pinned.checked.prog.veiledRec ·)))=true:=by kernel_rfl
theorem cf31:(Rows.rulesNamesRow.veiledFits pinned.checked.prog f3.params.toList (f3.params.toList++Rows.rulesNamesSpec.plain.varTypes pinned.checked.prog++f3.resultTypes.toList))=true:=by kernel_rfl
theorem y1v:joinedFacts pinned.checked.prog 3 f3 Rows.rulesNamesSpec Rows.rulesNamesRow=true:=by
 unfold joinedFacts;exact zac (zac (zac (zac (zac (zac (zac (zac (zac (zac (zac (zac (zac (zac (zac (zac (zac (zac (zac (zac (zac (zac (zac (zac (zac (zac (zac (zac (zac (zac (zac cf0 cf1) cf2) cf3) cf4) cf5) cf6) cf7) cf8) cf9) cf10) cf11) cf12) cf13) cf14) cf15) cf16) cf17) cf18) cf19) cf20) cf21) cf22) cf23) cf24) cf25) cf26) cf27) cf28) cf29) cf30) cf31
end Go.Proofs.YthphaiccgnkobaaGreatDoor
