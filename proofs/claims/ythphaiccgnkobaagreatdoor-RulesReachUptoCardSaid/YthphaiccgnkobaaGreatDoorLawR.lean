/-
  gambrellaw25.RulesReach answers true, and its arguments read as before (a tied card: its listed variables hold what the program lays), where they hold together at most 1048576 values and letters.
-/
import Derived.Test.YthphaiccgnkobaaGreatDoorRun2
import Derived.Test.YthphaiccgnkobaaGreatDoorCf0
import Derived.Test.YthphaiccgnkobaaGreatDoorRun4
import Derived.Test.YthphaiccgnkobaaGreatDoorRows
import Derived.Test.YthphaiccgnkobaaGreatDoorCards
import Derived.Test.YthphaiccgnkobaaGreatDoorTie
import Derived.WalkKit
import Derived.ProofKit
import Derived.Handy
import Derived.Lay
import Derived.SevenTiedAt
import Derived.Deep.DeepHandedRow
import Derived.Lib.LaidTab
import Derived.Stop.LaidErr
import Derived.Test.YthphaiccgnkobaaGreatDoorChecked
namespace Go.Proofs.YthphaiccgnkobaaGreatDoor
open Go Go.Ab Go.ChangeShapes Go.WideShapes Go.ChangeAt Go.RowKit
mutual
theorem yjw{H:Type}:∀d:DataW H,Rows.uptoBulk d=zm1 d
 |.lit .nil| .lit (.string _)| .lit (.int ..)| .lit (.bool _)| .lit (.float ..)| .nil| .held _=>rfl
 |.ptr d| .iface _ d=>by simp only[Rows.uptoBulk,zm1];rw[yjw d]
 |.slice es sp=>by simp only[Rows.uptoBulk,zm1];rw[zlt es,zlt sp]
 |.agg ps=>by simp only[Rows.uptoBulk,zm1];rw[zlt ps]
 |.map es=>by simp only[Rows.uptoBulk,zm1];rw[zub es]
theorem zlt{H:Type}:∀ds:List (DataW H),Rows.uptoBulkAll ds=zg6 ds
 |[]=>rfl
 |d::r=>by simp only[Rows.uptoBulkAll,zg6];rw[yjw d,zlt r]
theorem zub{H:Type}:∀es:List (Lit×DataW H),Rows.uptoBulkEntries es=zog es
 |[]=>rfl
 |x::r=>by simp only[Rows.uptoBulkEntries,zog];rw[yho x,zub r]
theorem yho{H:Type}:∀x:Lit×DataW H,Rows.uptoBulkEntry x=y5g x
 |(.nil,d)|(.string _,d)|(.int ..,d)|(.bool _,d)|(.float ..,d)=>by simp only[Rows.uptoBulkEntry,y5g];rw[yjw d]
end
theorem laidOut:laidOutB Tryz.prog=true:=by kernel_rfl
theorem ownGd:ownKnob Tryz.prog.godebug=none:=by kernel_rfl
set_option maxRecDepth 100000 in
theorem y1r(H:Type)(enc:TypeId×Value->H)(W:World)(base:Nat)(args:Array Value)(ds gs:List (DataW H))(before:List MemPlace)
  (hval:∀(j:Nat) t v,Tryz.f4.params[j]? = some t->args[j]? = some v->Value.okWide Tryz.prog W .any base t v)
  (hW:DataW.Whole enc Tryz.prog Tryz.f4.params.toList Rows.rulesReachSpec.vars false W args.toList ds gs before) (hk:Rows.uptoSmall H (ds++gs)=true) (hL:laidMet Tryz.prog Rows.rulesReachUptoRow.laid W) :
  Calls Tryz.prog 4 args W λe W'=>∃v,e = .returned v∧Rows.rulesReachSpec.post enc Tryz.prog Tryz.f4 false true false false W args v W':=by
 have hW':=hW;obtain⟨p,q,hA,hV,rfl,_,_⟩:=hW;rw[Tryz.params4]at hA hval;obtain⟨rfl,_⟩:=ChangeShapes.trodVars_none hV;obtain⟨v0,vs0,d0,ds0,p0,q0,hargs,rfl,rfl,h0,r0⟩:=ChangeShapes.trodAll_cons hA;obtain⟨v1,vs1,d1,ds1,p1,q1,rfl,rfl,rfl,h1,r1⟩:=ChangeShapes.trodAll_cons r0;obtain⟨rfl,rfl,rfl⟩:=ChangeShapes.trodAll_nil r1;obtain rfl:args = #[v0,v1]:=by cases args;simp_all
 obtain⟨x0,k0,g0,s0⟩:=Tryz.arg36.get enc W base v0 d0 p0 h0 (hval 0 36 v0 rfl rfl);obtain⟨x1,k1,g1,s1⟩:=Tryz.arg3.get enc W base v1 d1 p1 h1 (hval 1 3 v1 rfl rfl);have w0:x0.size<=zm1 d0:=s0;have hb:zg6 [d0,d1]<=1048576:=by rw[<-zlt];simpa[Rows.uptoSmall]using hk
 simp only[zg6]at hb
 have w:x0.size+0<=1048576:=by
  refine Nat.le_trans (?_:_<=zm1 d0+zm1 d1) (by omega);exact Nat.add_le_add (w0) (Qbr _)
 obtain⟨n,hn⟩:=yl5 x0 x1 g0 g1 w;have hp:=zjd n x0 x1 true hn;refine(ytk (hp H0) (λ_ _=>Tryz.call4 _ _) (yyk (cs:=[v0,v1]) rfl λj v hj =>?_) (zn6 hL)).mono λe W' ⟨he,hg⟩ =>?_
 match j with
 |0=>simp at hj;subst hj;exact⟨v0,rfl,k0⟩
 |1=>simp at hj;subst hj;exact⟨v1,rfl,k1⟩
 |j+2=>simp at hj
 exact⟨_,he,ywy laidOut rfl (by rw[Tryz.params4];intro t ht;simp at ht;rcases ht with rfl|rfl <;> exact⟨by kernel_rfl,Qac (by kernel_rfl)⟩) (by kernel_rfl) Tryz.underlying4 ⟨rfl,rfl,rfl⟩ hW' hg⟩
set_option maxRecDepth 100000 in
theorem yvb(os:Os):laidMet Tryz.prog Rows.rulesReachUptoRow.laid ((World.laidAll Tryz.prog os Rows.rulesReachUptoRow.laid).forCall (λ_ _=>0) ⟨#[],#[.agg #[.slice none 0 0,.slice none 0 0],.int .i64 0],[]⟩).memory :=
 laidMet_laidAll _ (by kernel_rfl) (by kernel_rfl)
theorem reads(os:Os){H:Type}(enc:TypeId×Value->H):∃places,DataW.whole enc Tryz.prog ((World.laidAll Tryz.prog os Rows.rulesReachUptoRow.laid).forCall (λ_ _=>0) ⟨#[],#[.agg #[.slice none 0 0,.slice none 0 0],.int .i64 0],[]⟩).memory Tryz.f4.params.toList Rows.rulesReachSpec.vars false (#[.agg #[.slice none 0 0,.slice none 0 0],.int .i64 0]:Array Value).toList 8=some ([.agg [.nil,.nil],.lit (.int .i64 0)],[],places) :=
 ⟨[],by kernel_rfl⟩
theorem y1b{H:Type}{enc:TypeId×Value->H}{C:Checked}{os:Os}{f:FuncId}{fn:Func}{s:OpenSpec}{conds:List PathCond}{apart:Bool}{laid:List (String×DataW Unit)}(modest:Bool)(w0:World)(args:Array Value)(hos:w0.os=os)
  (hsh:(w0.forCall (λ_ _=>0) ⟨#[],args,[]⟩).Shaped C.prog) (hok:Input.okWideB C.prog (w0.forCall (λ_ _=>0) ⟨#[],args,[]⟩) f ⟨#[],args,[]⟩=true)
  (hrow:s.preRow enc C.prog fn conds apart laid (w0.forCall (λ_ _=>0) ⟨#[],args,[]⟩).memory args) :
  ∃(w:World) (tape:Tape) (i:Input),w.os=os∧(w.forCall tape i).Shaped C.prog∧i.vars=[]∧Input.okWide C.prog (w.forCall tape i) .any w.heap.size f i ∧
   s.preRow enc C.prog fn conds apart laid (w.forCall tape i).memory i.args∧({modest:=modest}:Assume).holds C.prog (lone (Frame.enter C.prog f i.args .normal) [] (w.forCall tape i)) :=
 ⟨w0,λ_ _=>0,⟨#[],args,[]⟩,hos,hsh,(Input.okWide_of_okWideB (base:=0) hok).1,(Input.okWide_of_okWideB hok).2,hrow,by
  simp only[Assume.holds]
  exact⟨by simp,by simp,λ_=>Modest.zero,by simp,by simp⟩⟩
set_option maxRecDepth 100000 in
theorem lifted(os:Os)(started:os.Started)(H:Type)(enc:TypeId×Value->H)(F:Stop.Interp) :
  ReturnsInHanded {} Tryz.checked os 4 .any ((Rows.OpenSpec.upto Rows.rulesReachSpec).preRow enc Tryz.prog Tryz.f4 Rows.rulesReachUptoRow.domain false Rows.rulesReachUptoRow.laid) (((Rows.OpenSpec.upto Rows.rulesReachSpec).at F).post enc Tryz.prog Tryz.f4 false true false false):=by
 obtain⟨places,hx⟩:=reads os enc
 refine returnsInHanded_of_row (C:=Tryz.checked) (s:=Rows.OpenSpec.upto Rows.rulesReachSpec) ownGd started (by kernel_rfl) Tryz.func4
  (y1b (enc:=enc) (C:=Tryz.checked) false (World.laidAll Tryz.prog os Rows.rulesReachUptoRow.laid) #[.agg #[.slice none 0 0,.slice none 0 0],.int .i64 0] (World.laidAll_os _ _ _) (World.shaped_of_ZipB (by kernel_rfl) (by kernel_rfl)) (by kernel_rfl)
   (OpenSpec.preRow_of_cond 8 hx (by kernel_rfl) (λk hk=>by cases hk;kernel_rfl) (by kernel_rfl) (yvb os))) ?_
 intro W base args ds gs before hval hW _ hcond _ hL _ _;exact y1r H enc W base args ds gs before hval hW (hcond _ rfl) hL
theorem yw5:Rows.RulesReachUptoSaid :=
 OpenClaim.holds_of_cond 4 Tryz.f4 rfl rfl rfl rfl rfl rfl rfl ⟨rfl,rfl,rfl,rfl,rfl⟩ rfl rfl rfl rfl rfl (by kernel_rfl) Tryz.func4 yli
  (Qac (by kernel_rfl)) (by unfold Func.isWrapper;first|(rw[Qbt (by decide +kernel)];kernel_rfl)|(rw[Qbu (by decide +kernel)];exact⟨rfl,rfl⟩))
  (λos started H enc _ F=>by rw[OpenClaim.pre_eq_preRow];exact lifted os started H enc F)
theorem yoz(f:FuncId)(fn:Func)(hf:Tryz.pinned.checked.prog.funcNamed Rows.rulesReachUptoRow.func=some f)(hfn:Tryz.pinned.checked.prog.funcs[f]? = some fn) :
  true=Tryz.pinned.checked.prog.looks []∧∀(j:Nat) t,fn.params[j]? = some t->Tryz.pinned.checked.prog.wantsStandIn t=false:=by
 obtain rfl:f=4:=Option.some.inj ((show Tryz.prog.funcNamed Rows.rulesReachUptoRow.func=some 4 by kernel_rfl).symm.trans hf) |>.symm
 obtain rfl:fn=Tryz.f4:=(Option.some.inj (Tryz.func4.symm.trans hfn)).symm;refine⟨by kernel_rfl,λj t ht =>?_⟩;rw[Tryz.params4]at ht;have hm:=Array.mem_of_getElem? ht
 have hall:∀t ∈ #[36,3],Tryz.prog.wantsStandIn t=false:=by
  intro t ht;simp at ht
  rcases ht with rfl|rfl <;> kernel_rfl
 exact hall t hm
theorem proved:Rows.RulesReachUptoCardSaid :=
 Claim7.holds_tied_plain_at .later [] _ _ _ _ yw5 (λ_ h=>by cases h) (by kernel_rfl) (λ_ h=>by cases h) rulesReachUpto_row_tie rfl ⟨rfl,rfl⟩ (by kernel_rfl) rfl yoz (by kernel_rfl)
#print axioms proved
end Go.Proofs.YthphaiccgnkobaaGreatDoor
