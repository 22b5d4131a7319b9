/-
  Closed facts of the row, one by one.
-/
import Derived.Test.YthphaiccgnkobaaGreatDoorRun2
import Derived.Test.YthphaiccgnkobaaGreatDoorChecked
import Derived.JoinedCond
namespace Go.Proofs.YthphaiccgnkobaaGreatDoor
open Go Go.Ab Go.ChangeShapes Go.WideShapes Go.ChangeAt Go.RowKit
open Go.Proofs.Tryz Go.Proofs.YthphaiccgnkobaaGreatDoor.Tryz
set_option maxRecDepth 100000
theorem zgp{a b:Bool}(h:a=true)(k:b=true):(a&&b)=true:=by rw[h,k];rfl
theorem cf0:(Rows.rulesGrowUptoRow.wf (OpenSpec.ofChange (Rows.OpenSpec.upto Rows.rulesGrowSpec).bare))=true:=by kernel_rfl
theorem cf1:(laidOutB pinned.checked.prog)=true:=by kernel_rfl
theorem cf2:(mapsRowed pinned.checked.prog)=true:=by kernel_rfl
theorem cf3:(f6.params.all (pinned.checked.prog.readableRec ·))=true:=by kernel_rfl
theorem cf4:(namedTie pinned.checked.prog Rows.rulesGrowUptoRow.named (Rows.OpenSpec.upto Rows.rulesGrowSpec).bare.vars)=true:=by kernel_rfl
theorem cf5:((Rows.rulesGrowUptoRow.stops==[]))=true:=by kernel_rfl
theorem cf6:((pinned.checked.prog.stops==[]))=true:=by kernel_rfl
theorem cf7:((Rows.rulesGrowUptoRow.knobs==[]))=true:=by kernel_rfl
theorem cf8:((pinned.checked.prog.stopKnobs==[]))=true:=by kernel_rfl
theorem cf9:((Rows.rulesGrowUptoRow.inPlace==pinned.checked.prog.inPlace 6))=true:=by kernel_rfl
theorem cf10:((Rows.rulesGrowUptoRow.unfollowed==pinned.checked.prog.unfollowed 6))=true:=by kernel_rfl
theorem cf11:((Rows.rulesGrowUptoRow.recurses==pinned.checked.prog.recurses 6))=true:=by kernel_rfl
theorem cf12:((Rows.rulesGrowUptoRow.named==pinned.checked.prog.varsNamed 6))=true:=by kernel_rfl
theorem cf13:((Rows.rulesGrowUptoRow.maps==(f6.params.toList++(Rows.OpenSpec.upto Rows.rulesGrowSpec).bare.plain.varTypes pinned.checked.prog).any (pinned.checked.prog.mapsRec ·)))=true:=by kernel_rfl
theorem cf14:((Rows.rulesGrowUptoRow.ifaces==(f6.params.toList++(Rows.OpenSpec.upto Rows.rulesGrowSpec).bare.plain.varTypes pinned.checked.prog).any (pinned.checked.prog.ifacesRec ·)))=true:=by kernel_rfl
theorem cf15:((Rows.rulesGrowUptoRow.mapsOut==pinned.checked.prog.mapsAmong f6.resultTypes.toList))=true:=by kernel_rfl
theorem cf16:((Rows.rulesGrowUptoRow.loops==(f6.params.toList++(Rows.OpenSpec.upto Rows.rulesGrowSpec).bare.plain.varTypes pinned.checked.prog).any (pinned.checked.prog.loopsFrom ·)))=true:=by kernel_rfl
theorem cf17:((Rows.rulesGrowUptoRow.wideKeys==(f6.params.toList++(Rows.OpenSpec.upto Rows.rulesGrowSpec).bare.plain.varTypes pinned.checked.prog++f6.resultTypes.toList).any (pinned.checked.prog.wideKeysFrom ·)))=true:=by kernel_rfl
theorem cf18:((Rows.OpenSpec.upto Rows.rulesGrowSpec).bare.vars.all (pinned.checked.prog.varReadable ·))=true:=by kernel_rfl
theorem cf19:(f6.resultTypes.all (λt=>pinned.checked.prog.readableRec t&&decide (t<pinned.checked.prog.types.size)))=true:=by kernel_rfl
theorem cf20:((Rows.rulesGrowUptoRow.ifacesOut==f6.resultTypes.toList.any (pinned.checked.prog.ifacesRec ·)))=true:=by kernel_rfl
theorem cf21:((Rows.rulesGrowUptoRow.loopsOut==f6.resultTypes.toList.any (pinned.checked.prog.loopsFrom ·)))=true:=by kernel_rfl
theorem cf22:((Rows.rulesGrowUptoRow.plainKeys==pinned.checked.prog.plainKeys))=true:=by kernel_rfl
theorem cf23:(Rows.rulesGrowUptoRow.shortTexts.isNone)=true:=by kernel_rfl
theorem cf24:(pinned.checked.prog.stopsHeard)=true:=by kernel_rfl
theorem cf25:(pinned.checked.prog.mayEnter)=true:=by kernel_rfl
theorem cf26:((Rows.rulesGrowUptoRow.lifted==pinned.checked.prog.liftsFinal))=true:=by kernel_rfl
theorem cf27:((pinned.checked.prog.make==some Rows.rulesGrowUptoRow.make))=true:=by kernel_rfl
theorem cf28:((Rows.rulesGrowUptoRow.kinds==(if Rows.rulesGrowUptoRow.domain.isEmpty then []else f6.params.toList.map λt=>match pinned.checked.prog.underlying t with|some (.int k)=>some k|_=>none)))=true:=by kernel_rfl
theorem cf29:((Rows.rulesGrowUptoRow.pinned==Rows.rulesGrowUptoRow.pinnedBy))=true:=by kernel_rfl
theorem cf30:((Rows.rulesGrowUptoRow.veiled==(f6.params.toList++(Rows.OpenSpec.upto Rows.rulesGrowSpec).bare.plain.varTypes pinned.checked.prog++f6.resultTypes.toList).any (pinned.checked.prog.veiledRec ·)))=true:=by kernel_rfl
theorem cf31:(Rows.rulesGrowUptoRow.veiledFits pinned.checked.prog f6.params.toList (f6.params.toList++(Rows.OpenSpec.upto Rows.rulesGrowSpec).bare.plain.varTypes pinned.checked.prog++f6.resultTypes.toList))=true:=by kernel_rfl
theorem yqv:joinedFacts pinned.checked.prog 6 f6 (Rows.OpenSpec.upto Rows.rulesGrowSpec).bare Rows.rulesGrowUptoRow=true:=by
 unfold joinedFacts;exact zgp (zgp (zgp (zgp (zgp (zgp (zgp (zgp (zgp (zgp (zgp (zgp (zgp (zgp (zgp (zgp (zgp (zgp (zgp (zgp (zgp (zgp (zgp (zgp (zgp (zgp (zgp (zgp (zgp (zgp (zgp cf0 cf1) cf2) cf3) cf4) cf5) cf6) cf7) cf8) cf9) cf10) cf11) cf12) cf13) cf14) cf15) cf16) cf17) cf18) cf19) cf20) cf21) cf22) cf23) cf24) cf25) cf26) cf27) cf28) cf29) cf30) cf31
end Go.Proofs.YthphaiccgnkobaaGreatDoor
