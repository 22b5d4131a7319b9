/-
  gambrellaw25.RulesBack answers true, and its arguments read as before (a tied card: its listed variables hold what the program lays), where they hold together at most 1048576 values and letters.
-/
import Derived.Test.YthphaiccgnkobaaGreatDoorRun2
import Derived.Test.YthphaiccgnkobaaGreatDoorCf0
import Derived.Test.YthphaiccgnkobaaGreatDoorRun5
import Derived.Test.YthphaiccgnkobaaGreatDoorRows
import Derived.Test.YthphaiccgnkobaaGreatDoorCards
import Derived.Test.YthphaiccgnkobaaGreatDoorTie
import Derived.WalkKit
import Derived.ProofKit
import Derived.Handy
import Derived.Lay
import Derived.SevenTiedAt
import Derived.Deep.DeepHandedRow
import Derived.Lib.LaidTab
import Derived.Stop.LaidErr
import Derived.Test.YthphaiccgnkobaaGreatDoorChecked
namespace Go.Proofs.YthphaiccgnkobaaGreatDoor
open Go Go.Ab Go.ChangeShapes Go.WideShapes Go.ChangeAt Go.RowKit
mutual
theorem ytb{H:Type}:∀d:DataW H,Rows.uptoBulk d=zqo d
 |.lit .nil| .lit (.string _)| .lit (.int ..)| .lit (.bool _)| .lit (.float ..)| .nil| .held _=>rfl
 |.ptr d| .iface _ d=>by simp only[Rows.uptoBulk,zqo];rw[ytb d]
 |.slice es sp=>by simp only[Rows.uptoBulk,zqo];rw[zps es,zps sp]
 |.agg ps=>by simp only[Rows.uptoBulk,zqo];rw[zps ps]
 |.map es=>by simp only[Rows.uptoBulk,zqo];rw[y1g es]
theorem zps{H:Type}:∀ds:List (DataW H),Rows.uptoBulkAll ds=zih ds
 |[]=>rfl
 |d::r=>by simp only[Rows.uptoBulkAll,zih];rw[ytb d,zps r]
theorem y1g{H:Type}:∀es:List (Lit×DataW H),Rows.uptoBulkEntries es=zsr es
 |[]=>rfl
 |x::r=>by simp only[Rows.uptoBulkEntries,zsr];rw[yt7 x,y1g r]
theorem yt7{H:Type}:∀x:Lit×DataW H,Rows.uptoBulkEntry x=ybh x
 |(.nil,d)|(.string _,d)|(.int ..,d)|(.bool _,d)|(.float ..,d)=>by simp only[Rows.uptoBulkEntry,ybh];rw[ytb d]
end
theorem laidOut:laidOutB Tryz.prog=true:=by kernel_rfl
theorem ownGd:ownKnob Tryz.prog.godebug=none:=by kernel_rfl
set_option maxRecDepth 100000 in
theorem y7z(H:Type)(enc:TypeId×Value->H)(W:World)(base:Nat)(args:Array Value)(ds gs:List (DataW H))(before:List MemPlace)
  (hval:∀(j:Nat) t v,Tryz.f8.params[j]? = some t->args[j]? = some v->Value.okWide Tryz.prog W .any base t v)
  (hW:DataW.Whole enc Tryz.prog Tryz.f8.params.toList Rows.rulesBackSpec.vars false W args.toList ds gs before) (hk:Rows.uptoSmall H (ds++gs)=true) (hL:laidMet Tryz.prog Rows.rulesBackUptoRow.laid W) :
  Calls Tryz.prog 8 args W λe W'=>∃v,e = .returned v∧Rows.rulesBackSpec.post enc Tryz.prog Tryz.f8 false true false false W args v W':=by
 have hW':=hW;obtain⟨p,q,hA,hV,rfl,_,_⟩:=hW;rw[Tryz.params8]at hA hval;obtain⟨rfl,_⟩:=ChangeShapes.trodVars_none hV;obtain⟨v0,vs0,d0,ds0,p0,q0,hargs,rfl,rfl,h0,r0⟩:=ChangeShapes.trodAll_cons hA;obtain⟨rfl,rfl,rfl⟩:=ChangeShapes.trodAll_nil r0;obtain rfl:args = #[v0]:=by cases args;simp_all
 obtain⟨x0,k0,g0,s0⟩:=Tryz.arg36.get enc W base v0 d0 p0 h0 (hval 0 36 v0 rfl rfl);have w0:x0.size<=zqo d0:=s0;have hb:zih [d0]<=1048576:=by rw[<-zps];simpa[Rows.uptoSmall]using hk
 simp only[zih]at hb
 have w:x0.size<=1048576:=by
  refine Qbe (?_:_<=zqo d0) (by omega);exact w0
 obtain⟨n,hn⟩:=z014 x0 g0 w;have hp:=zn3 n x0 true hn;refine(z060 (hp H0) (λ_ _=>Tryz.call8 _ _) (z0cw (cs:=[v0]) rfl λj v hj =>?_) (zqr hL)).mono λe W' ⟨he,hg⟩ =>?_
 match j with
 |0=>simp at hj;subst hj;exact⟨v0,rfl,k0⟩
 |j+1=>simp at hj
 exact⟨_,he,z09p laidOut rfl (by rw[Tryz.params8];intro t ht;simp at ht;subst ht;exact⟨by kernel_rfl,Qac (by kernel_rfl)⟩) (by kernel_rfl) Tryz.underlying4 ⟨rfl,rfl,rfl⟩ hW' hg⟩
set_option maxRecDepth 100000 in
theorem z07f(os:Os):laidMet Tryz.prog Rows.rulesBackUptoRow.laid ((World.laidAll Tryz.prog os Rows.rulesBackUptoRow.laid).forCall (λ_ _=>0) ⟨#[],#[.agg #[.slice none 0 0,.slice none 0 0]],[]⟩).memory :=
 laidMet_laidAll _ (by kernel_rfl) (by kernel_rfl)
theorem reads(os:Os){H:Type}(enc:TypeId×Value->H):∃places,DataW.whole enc Tryz.prog ((World.laidAll Tryz.prog os Rows.rulesBackUptoRow.laid).forCall (λ_ _=>0) ⟨#[],#[.agg #[.slice none 0 0,.slice none 0 0]],[]⟩).memory Tryz.f8.params.toList Rows.rulesBackSpec.vars false (#[.agg #[.slice none 0 0,.slice none 0 0]]:Array Value).toList 8=some ([.agg [.nil,.nil]],[],places) :=
 ⟨[],by kernel_rfl⟩
theorem y6p{H:Type}{enc:TypeId×Value->H}{C:Checked}{os:Os}{f:FuncId}{fn:Func}{s:OpenSpec}{conds:List PathCond}{apart:Bool}{laid:List (String×DataW Unit)}(modest:Bool)(w0:World)(args:Array Value)(hos:w0.os=os)
  (hsh:(w0.forCall (λ_ _=>0) ⟨#[],args,[]⟩).Shaped C.prog) (hok:Input.okWideB C.prog (w0.forCall (λ_ _=>0) ⟨#[],args,[]⟩) f ⟨#[],args,[]⟩=true)
  (hrow:s.preRow enc C.prog fn conds apart laid (w0.forCall (λ_ _=>0) ⟨#[],args,[]⟩).memory args) :
  ∃(w:World) (tape:Tape) (i:Input),w.os=os∧(w.forCall tape i).Shaped C.prog∧i.vars=[]∧Input.okWide C.prog (w.forCall tape i) .any w.heap.size f i ∧
   s.preRow enc C.prog fn conds apart laid (w.forCall tape i).memory i.args∧({modest:=modest}:Assume).holds C.prog (lone (Frame.enter C.prog f i.args .normal) [] (w.forCall tape i)) :=
 ⟨w0,λ_ _=>0,⟨#[],args,[]⟩,hos,hsh,(Input.okWide_of_okWideB (base:=0) hok).1,(Input.okWide_of_okWideB hok).2,hrow,by
  simp only[Assume.holds]
  exact⟨by simp,by simp,λ_=>Modest.zero,by simp,by simp⟩⟩
set_option maxRecDepth 100000 in
theorem lifted(os:Os)(started:os.Started)(H:Type)(enc:TypeId×Value->H)(F:Stop.Interp) :
  ReturnsInHanded {} Tryz.checked os 8 .any ((Rows.OpenSpec.upto Rows.rulesBackSpec).preRow enc Tryz.prog Tryz.f8 Rows.rulesBackUptoRow.domain false Rows.rulesBackUptoRow.laid) (((Rows.OpenSpec.upto Rows.rulesBackSpec).at F).post enc Tryz.prog Tryz.f8 false true false false):=by
 obtain⟨places,hx⟩:=reads os enc
 refine returnsInHanded_of_row (C:=Tryz.checked) (s:=Rows.OpenSpec.upto Rows.rulesBackSpec) ownGd started (by kernel_rfl) Tryz.func8
  (y6p (enc:=enc) (C:=Tryz.checked) false (World.laidAll Tryz.prog os Rows.rulesBackUptoRow.laid) #[.agg #[.slice none 0 0,.slice none 0 0]] (World.laidAll_os _ _ _) (World.shaped_of_ZipB (by kernel_rfl) (by kernel_rfl)) (by kernel_rfl)
   (OpenSpec.preRow_of_cond 8 hx (by kernel_rfl) (λk hk=>by cases hk;kernel_rfl) (by kernel_rfl) (z07f os))) ?_
 intro W base args ds gs before hval hW _ hcond _ hL _ _;exact y7z H enc W base args ds gs before hval hW (hcond _ rfl) hL
theorem z08c:Rows.RulesBackUptoSaid :=
 OpenClaim.holds_of_cond 8 Tryz.f8 rfl rfl rfl rfl rfl rfl rfl ⟨rfl,rfl,rfl,rfl,rfl⟩ rfl rfl rfl rfl rfl (by kernel_rfl) Tryz.func8 yvh
  (Qac (by kernel_rfl)) (by unfold Func.isWrapper;first|(rw[Qbq (by decide +kernel)];kernel_rfl)|(rw[Qbr (by decide +kernel)];exact⟨rfl,rfl⟩))
  (λos started H enc _ F=>by rw[OpenClaim.pre_eq_preRow];exact lifted os started H enc F)
theorem z01z(f:FuncId)(fn:Func)(hf:Tryz.pinned.checked.prog.funcNamed Rows.rulesBackUptoRow.func=some f)(hfn:Tryz.pinned.checked.prog.funcs[f]? = some fn) :
  true=Tryz.pinned.checked.prog.looks []∧∀(j:Nat) t,fn.params[j]? = some t->Tryz.pinned.checked.prog.wantsStandIn t=false:=by
 obtain rfl:f=8:=Option.some.inj ((show Tryz.prog.funcNamed Rows.rulesBackUptoRow.func=some 8 by kernel_rfl).symm.trans hf) |>.symm
 obtain rfl:fn=Tryz.f8:=(Option.some.inj (Tryz.func8.symm.trans hfn)).symm;refine⟨by kernel_rfl,λj t ht =>?_⟩;rw[Tryz.params8]at ht;have hm:=Array.mem_of_getElem? ht
 have hall:∀t ∈ #[36],Tryz.prog.wantsStandIn t=false:=by
  intro t ht;simp at ht
  rcases ht with rfl <;> kernel_rfl
 exact hall t hm
theorem proved:Rows.RulesBackUptoCardSaid :=
 Claim7.holds_tied_plain_at .later [] _ _ _ _ z08c (λ_ h=>by cases h) (by kernel_rfl) (λ_ h=>by cases h) rulesBackUpto_row_tie rfl ⟨rfl,rfl⟩ (by kernel_rfl) rfl z01z (by kernel_rfl)
#print axioms proved
end Go.Proofs.YthphaiccgnkobaaGreatDoor
