/-
  Closed facts of the row, one by one.
-/
import Derived.Test.YthphaiccgnkobaaGreatDoorRun2
import Derived.Test.YthphaiccgnkobaaGreatDoorChecked
import Derived.JoinedCond
namespace Go.Proofs.YthphaiccgnkobaaGreatDoor
open Go Go.Ab Go.ChangeShapes Go.WideShapes Go.ChangeAt Go.RowKit
open Go.Proofs.Tryz Go.Proofs.YthphaiccgnkobaaGreatDoor.Tryz
set_option maxRecDepth 100000
theorem zgf{a b:Bool}(h:a=true)(k:b=true):(a&&b)=true:=by rw[h,k];rfl
theorem cf0:(Rows.rulesReachUptoRow.wf (OpenSpec.ofChange (Rows.OpenSpec.upto Rows.rulesReachSpec).bare))=true:=by kernel_rfl
theorem cf1:(laidOutB pinned.checked.prog)=true:=by kernel_rfl
theorem cf2:(mapsRowed pinned.checked.prog)=true:=by kernel_rfl
theorem cf3:(f4.params.all (pinned.checked.prog.readableRec ·))=true:=by kernel_rfl
theorem cf4:(namedTie pinned.checked.prog Rows.rulesReachUptoRow.named (Rows.OpenSpec.upto Rows.rulesReachSpec).bare.vars)=true:=by kernel_rfl
theorem cf5:((Rows.rulesReachUptoRow.stops==[]))=true:=by kernel_rfl
theorem cf6:((pinned.checked.prog.stops==[]))=true:=by kernel_rfl
theorem cf7:((Rows.rulesReachUptoRow.knobs==[]))=true:=by kernel_rfl
theorem cf8:((pinned.checked.prog.stopKnobs==[]))=true:=by kernel_rfl
theorem cf9:((Rows.rulesReachUptoRow.inPlace==pinned.checked.prog.inPlace 4))=true:=by kernel_rfl
theorem cf10:((Rows.rulesReachUptoRow.unfollowed==pinned.checked.prog.unfollowed 4))=true:=by kernel_rfl
theorem cf11:((Rows.rulesReachUptoRow.recurses==pinned.checked.prog.recurses 4))=true:=by kernel_rfl
theorem cf12:((Rows.rulesReachUptoRow.named==pinned.checked.prog.varsNamed 4))=true:=by kernel_rfl
theorem cf13:((Rows.rulesReachUptoRow.maps==(f4.params.toList++(Rows.OpenSpec.upto Rows.rulesReachSpec).bare.plain.varTypes pinned.checked.prog).any (pinned.checked.prog.mapsRec ·)))=true:=by kernel_rfl
theorem cf14:((Rows.rulesReachUptoRow.ifaces==(f4.params.toList++(Rows.OpenSpec.upto Rows.rulesReachSpec).bare.plain.varTypes pinned.checked.prog).any (pinned.checked.prog.ifacesRec ·)))=true:=by kernel_rfl
theorem cf15:((Rows.rulesReachUptoRow.mapsOut==pinned.checked.prog.mapsAmong f4.resultTypes.toList))=true:=by kernel_rfl
theorem cf16:((Rows.rulesReachUptoRow.loops==(f4.params.toList++(Rows.OpenSpec.upto Rows.rulesReachSpec).bare.plain.varTypes pinned.checked.prog).any (pinned.checked.prog.loopsFrom ·)))=true:=by kernel_rfl
theorem cf17:((Rows.rulesReachUptoRow.wideKeys==(f4.params.toList++(Rows.OpenSpec.upto Rows.rulesReachSpec).bare.plain.varTypes pinned.checked.prog++f4.resultTypes.toList).any (pinned.checked.prog.wideKeysFrom ·)))=true:=by kernel_rfl
theorem cf18:((Rows.OpenSpec.upto Rows.rulesReachSpec).bare.vars.all (pinned.checked.prog.varReadable ·))=true:=by kernel_rfl
theorem cf19:(f4.resultTypes.all (λt=>pinned.checked.prog.readableRec t&&decide (t<pinned.checked.prog.types.size)))=true:=by kernel_rfl
theorem cf20:((Rows.rulesReachUptoRow.ifacesOut==f4.resultTypes.toList.any (pinned.checked.prog.ifacesRec ·)))=true:=by kernel_rfl
theorem cf21:((Rows.rulesReachUptoRow.loopsOut==f4.resultTypes.toList.any (pinned.checked.prog.loopsFrom ·)))=true:=by kernel_rfl
theorem cf22:((Rows.rulesReachUptoRow.plainKeys==pinned.checked.prog.plainKeys))=true:=by kernel_rfl
theorem cf23:(Rows.rulesReachUptoRow.shortTexts.isNone)=true:=by kernel_rfl
theorem cf24:(pinned.checked.prog.stopsHeard)=true:=by kernel_rfl
theorem cf25:(pinned.checked.prog.mayEnter)=true:=by kernel_rfl
theorem cf26:((Rows.rulesReachUptoRow.lifted==pinned.checked.prog.liftsFinal))=true:=by kernel_rfl
theorem cf27:((pinned.checked.prog.make==some Rows.rulesReachUptoRow.make))=true:=by kernel_rfl
theorem cf28:((Rows.rulesReachUptoRow.kinds==(if Rows.rulesReachUptoRow.domain.isEmpty then []else f4.params.toList.map λt=>match pinned.checked.prog.underlying t with|some (.int k)=>some k|_=>none)))=true:=by kernel_rfl
theorem cf29:((Rows.rulesReachUptoRow.pinned==Rows.rulesReachUptoRow.pinnedBy))=true:=by kernel_rfl
theorem cf30:((Rows.rulesReachUptoRow.veiled==(f4.params.toList++(Rows.OpenSpec.upto Rows.rulesReachSpec).bare.plain.varTypes pinned.checked.prog++f4.resultTypes.toList).any (pinned.checked.prog.veiledRec ·)))=true:=by kernel_rfl
theorem cf31:(Rows.rulesReachUptoRow.veiledFits pinned.checked.prog f4.params.toList (f4.params.toList++(Rows.OpenSpec.upto Rows.rulesReachSpec).bare.plain.varTypes pinned.checked.prog++f4.resultTypes.toList))=true:=by kernel_rfl
theorem yli:joinedFacts pinned.checked.prog 4 f4 (Rows.OpenSpec.upto Rows.rulesReachSpec).bare Rows.rulesReachUptoRow=true:=by
 unfold joinedFacts;exact zgf (zgf (zgf (zgf (zgf (zgf (zgf (zgf (zgf (zgf (zgf (zgf (zgf (zgf (zgf (zgf (zgf (zgf (zgf (zgf (zgf (zgf (zgf (zgf (zgf (zgf (zgf (zgf (zgf (zgf (zgf cf0 cf1) cf2) cf3) cf4) cf5) cf6) cf7) cf8) cf9) cf10) cf11) cf12) cf13) cf14) cf15) cf16) cf17) cf18) cf19) cf20) cf21) cf22) cf23) cf24) cf25) cf26) cf27) cf28) cf29) cf30) cf31
end Go.Proofs.YthphaiccgnkobaaGreatDoor
