/-
  Closed facts of the row, one by one.
-/
import Derived.Test.YthphaiccgnkobaaGreatDoorRun2
import Derived.Test.YthphaiccgnkobaaGreatDoorChecked
import Derived.JoinedCond
namespace Go.Proofs.YthphaiccgnkobaaGreatDoor
open Go Go.Ab Go.ChangeShapes Go.WideShapes Go.ChangeAt Go.RowKit
open Go.Proofs.Tryz Go.Proofs.YthphaiccgnkobaaGreatDoor.Tryz
set_option maxRecDepth 100000
theorem ziw{a b:Bool}(h:a=true)(k:b=true):(a&&b)=true:=by rw[h,k];rfl
theorem cf0:(Rows.rulesBackUptoRow.wf (OpenSpec.ofChange (Rows.OpenSpec.upto Rows.rulesBackSpec).bare))=true:=by kernel_rfl
theorem cf1:(laidOutB pinned.checked.prog)=true:=by kernel_rfl
theorem cf2:(mapsRowed pinned.checked.prog)=true:=by kernel_rfl
theorem cf3:(f8.params.all (pinned.checked.prog.readableRec ·))=true:=by kernel_rfl
theorem cf4:(namedTie pinned.checked.prog Rows.rulesBackUptoRow.named (Rows.OpenSpec.upto Rows.rulesBackSpec).bare.vars)=true:=by kernel_rfl
theorem cf5:((Rows.rulesBackUptoRow.stops==[]))=true:=by kernel_rfl
theorem cf6:((pinned.checked.prog.stops==[]))=true:=by kernel_rfl
theorem cf7:((Rows.rulesBackUptoRow.knobs==[]))=true:=by kernel_rfl
theorem cf8:((pinned.checked.prog.stopKnobs==[]))=true:=by kernel_rfl
theorem cf9:((Rows.rulesBackUptoRow.inPlace==pinned.checked.prog.inPlace 8))=true:=by kernel_rfl
theorem cf10:((Rows.rulesBackUptoRow.unfollowed==pinned.checked.prog.unfollowed 8))=true:=by kernel_rfl
theorem cf11:((Rows.rulesBackUptoRow.recurses==pinned.checked.prog.recurses 8))=true:=by kernel_rfl
theorem cf12:((Rows.rulesBackUptoRow.named==pinned.checked.prog.varsNamed 8))=true:=by kernel_rfl
theorem cf13:((Rows.rulesBackUptoRow.maps==(f8.params.toList++(Rows.OpenSpec.upto Rows.rulesBackSpec).bare.plain.varTypes pinned.checked.prog).any (pinned.checked.prog.mapsRec ·)))=true:=by kernel_rfl
theorem cf14:((Rows.rulesBackUptoRow.ifaces==(f8.params.toList++(Rows.OpenSpec.upto Rows.rulesBackSpec).bare.plain.varTypes pinned.checked.prog).any (pinned.checked.prog.ifacesRec ·)))=true:=by kernel_rfl
theorem cf15:((Rows.rulesBackUptoRow.mapsOut==pinned.checked.prog.mapsAmong f8.resultTypes.toList))=true:=by kernel_rfl
theorem cf16:((Rows.rulesBackUptoRow.loops==(f8.params.toList++(Rows.OpenSpec.upto Rows.rulesBackSpec).bare.plain.varTypes pinned.checked.prog).any (pinned.checked.prog.loopsFrom ·)))=true:=by kernel_rfl
theorem cf17:((Rows.rulesBackUptoRow.wideKeys==(f8.params.toList++(Rows.OpenSpec.upto Rows.rulesBackSpec).bare.plain.varTypes pinned.checked.prog++f8.resultTypes.toList).any (pinned.checked.prog.wideKeysFrom ·)))=true:=by kernel_rfl
theorem cf18:((Rows.OpenSpec.upto Rows.rulesBackSpec).bare.vars.all (pinned.checked.prog.varReadable ·))=true:=by kernel_rfl
theorem cf19:(f8.resultTypes.all (λt=>pinned.checked.prog.readableRec t&&decide (t<pinned.checked.prog.types.size)))=true:=by kernel_rfl
theorem cf20:((Rows.rulesBackUptoRow.ifacesOut==f8.resultTypes.toList.any (pinned.checked.prog.ifacesRec ·)))=true:=by kernel_rfl
theorem cf21:((Rows.rulesBackUptoRow.loopsOut==f8.resultTypes.toList.any (pinned.checked.prog.loopsFrom ·)))=true:=by kernel_rfl
theorem cf22:((Rows.rulesBackUptoRow.plainKeys==pinned.checked.prog.plainKeys))=true:=by kernel_rfl
theorem cf23:(Rows.rulesBackUptoRow.shortTexts.isNone)=true:=by kernel_rfl
theorem cf24:(pinned.checked.prog.stopsHeard)=true:=by kernel_rfl
theorem cf25:(pinned.checked.prog.mayEnter)=true:=by kernel_rfl
theorem cf26:((Rows.rulesBackUptoRow.lifted==pinned.checked.prog.liftsFinal))=true:=by kernel_rfl
theorem cf27:((pinned.checked.prog.make==some Rows.rulesBackUptoRow.make))=true:=by kernel_rfl
theorem cf28:((Rows.rulesBackUptoRow.kinds==(if Rows.rulesBackUptoRow.domain.isEmpty then []else f8.params.toList.map λt=>match pinned.checked.prog.underlying t with|some (.int k)=>some k|_=>none)))=true:=by kernel_rfl
theorem cf29:((Rows.rulesBackUptoRow.pinned==Rows.rulesBackUptoRow.pinnedBy))=true:=by kernel_rfl
theorem cf30:((Rows.rulesBackUptoRow.veiled==(f8.params.toList++(Rows.OpenSpec.upto Rows.rulesBackSpec).bare.plain.varTypes pinned.checked.prog++f8.resultTypes.toList).any (pinned.checked.prog.veiledRec ·)))=true:=by kernel_rfl
theorem cf31:(Rows.rulesBackUptoRow.veiledFits pinned.checked.prog f8.params.toList (f8.params.toList++(Rows.OpenSpec.upto Rows.rulesBackSpec).bare.plain.varTypes pinned.checked.prog++f8.resultTypes.toList))=true:=by kernel_rfl
theorem yvh:joinedFacts pinned.checked.prog 8 f8 (Rows.OpenSpec.upto Rows.rulesBackSpec).bare Rows.rulesBackUptoRow=true:=by
 unfold joinedFacts;exact ziw (ziw (ziw (ziw (ziw (ziw (ziw (ziw (ziw (ziw (ziw (ziw (ziw (ziw (ziw (ziw (ziw (ziw (ziw (ziw (ziw (ziw (ziw (ziw (ziw (ziw (ziw (ziw (ziw (ziw (ziw cf0 cf1) cf2) cf3) cf4) cf5) cf6) cf7) cf8) cf9) cf10) cf11) cf12) cf13) cf14) cf15) cf16) cf17) cf18) cf19) cf20) cf21) cf22) cf23) cf24) cf25) cf26) cf27) cf28) cf29) cf30) cf31
end Go.Proofs.YthphaiccgnkobaaGreatDoor
