/-
  Closed facts of the row, one by one.
-/
import Derived.Test.YthphaiccgnkobaaGreatDoorRun2
import Derived.Test.YthphaiccgnkobaaGreatDoorChecked
import Derived.JoinedCond
namespace Go.Proofs.YthphaiccgnkobaaGreatDoor
open Go Go.Ab Go.ChangeShapes Go.WideShapes Go.ChangeAt Go.RowKit
open Go.Proofs.Tryz Go.Proofs.YthphaiccgnkobaaGreatDoor.Tryz
set_option maxRecDepth 100000
theorem zd5{a b:Bool}(h:a=true)(k:b=true):(a&&b)=true:=by rw[h,k];rfl
theorem cf0:(Rows.rulesOrderUptoRow.wf (OpenSpec.ofChange (Rows.OpenSpec.upto Rows.rulesOrderSpec).bare))=true:=by kernel_rfl
theorem cf1:(laidOutB pinned.checked.prog)=true:=by kernel_rfl
theorem cf2:(mapsRowed pinned.checked.prog)=true:=by kernel_rfl
theorem cf3:(f5.params.all (pinned.checked.prog.readableRec ·))=true:=by kernel_rfl
theorem cf4:(namedTie pinned.checked.prog Rows.rulesOrderUptoRow.named (Rows.OpenSpec.upto Rows.rulesOrderSpec).bare.vars)=true:=by kernel_rfl
theorem cf5:((Rows.rulesOrderUptoRow.stops==[]))=true:=by kernel_rfl
theorem cf6:((pinned.checked.prog.stops==[]))=true:=by kernel_rfl
theorem cf7:((Rows.rulesOrderUptoRow.knobs==[]))=true:=by kernel_rfl
theorem cf8:((pinned.checked.prog.stopKnobs==[]))=true:=by kernel_rfl
theorem cf9:((Rows.rulesOrderUptoRow.inPlace==pinned.checked.prog.inPlace 5))=true:=by kernel_rfl
theorem cf10:((Rows.rulesOrderUptoRow.unfollowed==pinned.checked.prog.unfollowed 5))=true:=by kernel_rfl
theorem cf11:((Rows.rulesOrderUptoRow.recurses==pinned.checked.prog.recurses 5))=true:=by kernel_rfl
theorem cf12:((Rows.rulesOrderUptoRow.named==pinned.checked.prog.varsNamed 5))=true:=by kernel_rfl
theorem cf13:((Rows.rulesOrderUptoRow.maps==(f5.params.toList++(Rows.OpenSpec.upto Rows.rulesOrderSpec).bare.plain.varTypes pinned.checked.prog).any (pinned.checked.prog.mapsRec ·)))=true:=by kernel_rfl
theorem cf14:((Rows.rulesOrderUptoRow.ifaces==(f5.params.toList++(Rows.OpenSpec.upto Rows.rulesOrderSpec).bare.plain.varTypes pinned.checked.prog).any (pinned.checked.prog.ifacesRec ·)))=true:=by kernel_rfl
theorem cf15:((Rows.rulesOrderUptoRow.mapsOut==pinned.checked.prog.mapsAmong f5.resultTypes.toList))=true:=by kernel_rfl
theorem cf16:((Rows.rulesOrderUptoRow.loops==(f5.params.toList++(Rows.OpenSpec.upto Rows.rulesOrderSpec).bare.plain.varTypes pinned.checked.prog).any (pinned.checked.prog.loopsFrom ·)))=true:=by kernel_rfl
theorem cf17:((Rows.rulesOrderUptoRow.wideKeys==(f5.params.toList++(Rows.OpenSpec.upto Rows.rulesOrderSpec).bare.plain.varTypes pinned.checked.prog++f5.resultTypes.toList).any (pinned.checked.prog.wideKeysFrom ·)))=true:=by kernel_rfl
theorem cf18:((Rows.OpenSpec.upto Rows.rulesOrderSpec).bare.vars.all (pinned.checked.prog.varReadable ·))=true:=by kernel_rfl
theorem cf19:(f5.resultTypes.all (λt=>pinned.checked.prog.readableRec t&&decide (t<pinned.checked.prog.types.size)))=true:=by kernel_rfl
theorem cf20:((Rows.rulesOrderUptoRow.ifacesOut==f5.resultTypes.toList.any (pinned.checked.prog.ifacesRec ·)))=true:=by kernel_rfl
theorem cf21:((Rows.rulesOrderUptoRow.loopsOut==f5.resultTypes.toList.any (pinned.checked.prog.loopsFrom ·)))=true:=by kernel_rfl
theorem cf22:((Rows.rulesOrderUptoRow.plainKeys==pinned.checked.prog.plainKeys))=true:=by kernel_rfl
theorem cf23:(Rows.rulesOrderUptoRow.shortTexts.isNone)=true:=by kernel_rfl
theorem cf24:(pinned.checked.prog.stopsHeard)=true:=by kernel_rfl
theorem cf25:(pinned.checked.prog.mayEnter)=true:=by kernel_rfl
theorem cf26:((Rows.rulesOrderUptoRow.lifted==pinned.checked.prog.liftsFinal))=true:=by kernel_rfl
theorem cf27:((pinned.checked.prog.make==some Rows.rulesOrderUptoRow.make))=true:=by kernel_rfl
theorem cf28:((Rows.rulesOrderUptoRow.kinds==(if Rows.rulesOrderUptoRow.domain.isEmpty then []else f5.params.toList.map λt=>match pinned.checked.prog.underlying t with|some (.int k)=>some k|_=>none)))=true:=by kernel_rfl
theorem cf29:((Rows.rulesOrderUptoRow.pinned==Rows.rulesOrderUptoRow.pinnedBy))=true:=by kernel_rfl
theorem cf30:((Rows.rulesOrderUptoRow.veiled==(f5.params.toList++(Rows.OpenSpec.upto Rows.rulesOrderSpec).bare.plain.varTypes pinned.checked.prog++f5.resultTypes.toList).any (pinned.checked.prog.veiledRec ·)))=true:=by kernel_rfl
theorem cf31:(Rows.rulesOrderUptoRow.veiledFits pinned.checked.prog f5.params.toList (f5.params.toList++(Rows.OpenSpec.upto Rows.rulesOrderSpec).bare.plain.varTypes pinned.checked.prog++f5.resultTypes.toList))=true:=by kernel_rfl
theorem ycl:joinedFacts pinned.checked.prog 5 f5 (Rows.OpenSpec.upto Rows.rulesOrderSpec).bare Rows.rulesOrderUptoRow=true:=by
 unfold joinedFacts;exact zd5 (zd5 (zd5 (zd5 (zd5 (zd5 (zd5 (zd5 (zd5 (zd5 (zd5 (zd5 (zd5 (zd5 (zd5 (zd5 (zd5 (zd5 (zd5 (zd5 (zd5 (zd5 (zd5 (zd5 (zd5 (zd5 (zd5 (zd5 (zd5 (zd5 (zd5 cf0 cf1) cf2) cf3) cf4) cf5) cf6) cf7) cf8) cf9) cf10) cf11) cf12) cf13) cf14) cf15) cf16) cf17) cf18) cf19) cf20) cf21) cf22) cf23) cf24) cf25) cf26) cf27) cf28) cf29) cf30) cf31
end Go.Proofs.YthphaiccgnkobaaGreatDoor
