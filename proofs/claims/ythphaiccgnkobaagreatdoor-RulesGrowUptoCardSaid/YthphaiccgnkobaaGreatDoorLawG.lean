/-
  gambrellaw25.RulesGrow answers true, and its arguments read as before (a tied card: its listed variables hold what the program lays), where they hold together at most 1048576 values and letters.
-/
import Derived.Test.YthphaiccgnkobaaGreatDoorRun2
import Derived.Test.YthphaiccgnkobaaGreatDoorCf0
import Derived.Test.YthphaiccgnkobaaGreatDoorRun4
import Derived.Test.YthphaiccgnkobaaGreatDoorRows
import Derived.Test.YthphaiccgnkobaaGreatDoorCards
import Derived.Test.YthphaiccgnkobaaGreatDoorTie
import Derived.WalkKit
import Derived.ProofKit
import Derived.Handy
import Derived.Lay
import Derived.SevenTiedAt
import Derived.Deep.DeepHandedRow
import Derived.Lib.LaidTab
import Derived.Stop.LaidErr
import Derived.Test.YthphaiccgnkobaaGreatDoorChecked
namespace Go.Proofs.YthphaiccgnkobaaGreatDoor
open Go Go.Ab Go.ChangeShapes Go.WideShapes Go.ChangeAt Go.RowKit
mutual
theorem yl4{H:Type}:∀d:DataW H,Rows.uptoBulk d=zko d
 |.lit .nil| .lit (.string _)| .lit (.int ..)| .lit (.bool _)| .lit (.float ..)| .nil| .held _=>rfl
 |.ptr d| .iface _ d=>by simp only[Rows.uptoBulk,zko];rw[yl4 d]
 |.slice es sp=>by simp only[Rows.uptoBulk,zko];rw[znn es,znn sp]
 |.agg ps=>by simp only[Rows.uptoBulk,zko];rw[znn ps]
 |.map es=>by simp only[Rows.uptoBulk,zko];rw[zwh es]
theorem znn{H:Type}:∀ds:List (DataW H),Rows.uptoBulkAll ds=zgj ds
 |[]=>rfl
 |d::r=>by simp only[Rows.uptoBulkAll,zgj];rw[yl4 d,znn r]
theorem zwh{H:Type}:∀es:List (Lit×DataW H),Rows.uptoBulkEntries es=zpo es
 |[]=>rfl
 |x::r=>by simp only[Rows.uptoBulkEntries,zpo];rw[yki x,zwh r]
theorem yki{H:Type}:∀x:Lit×DataW H,Rows.uptoBulkEntry x=y63 x
 |(.nil,d)|(.string _,d)|(.int ..,d)|(.bool _,d)|(.float ..,d)=>by simp only[Rows.uptoBulkEntry,y63];rw[yl4 d]
end
theorem laidOut:laidOutB Tryz.prog=true:=by kernel_rfl
theorem ownGd:ownKnob Tryz.prog.godebug=none:=by kernel_rfl
set_option maxRecDepth 100000 in
theorem y3b(H:Type)(enc:TypeId×Value->H)(W:World)(base:Nat)(args:Array Value)(ds gs:List (DataW H))(before:List MemPlace)
  (hval:∀(j:Nat) t v,Tryz.f6.params[j]? = some t->args[j]? = some v->Value.okWide Tryz.prog W .any base t v)
  (hW:DataW.Whole enc Tryz.prog Tryz.f6.params.toList Rows.rulesGrowSpec.vars false W args.toList ds gs before) (hk:Rows.uptoSmall H (ds++gs)=true) (hL:laidMet Tryz.prog Rows.rulesGrowUptoRow.laid W) :
  Calls Tryz.prog 6 args W λe W'=>∃v,e = .returned v∧Rows.rulesGrowSpec.post enc Tryz.prog Tryz.f6 false true false false W args v W':=by
 have hW':=hW;obtain⟨p,q,hA,hV,rfl,_,_⟩:=hW;rw[Tryz.params6]at hA hval;obtain⟨rfl,_⟩:=ChangeShapes.trodVars_none hV;obtain⟨v0,vs0,d0,ds0,p0,q0,hargs,rfl,rfl,h0,r0⟩:=ChangeShapes.trodAll_cons hA;obtain⟨v1,vs1,d1,ds1,p1,q1,rfl,rfl,rfl,h1,r1⟩:=ChangeShapes.trodAll_cons r0;obtain⟨v2,vs2,d2,ds2,p2,q2,rfl,rfl,rfl,h2,r2⟩:=ChangeShapes.trodAll_cons r1;obtain⟨rfl,rfl,rfl⟩:=ChangeShapes.trodAll_nil r2
 obtain rfl:args = #[v0,v1,v2]:=by cases args;simp_all
 obtain⟨x0,k0,g0,s0⟩:=Tryz.arg36.get enc W base v0 d0 p0 h0 (hval 0 36 v0 rfl rfl);obtain⟨x1,k1,g1,s1⟩:=Tryz.arg47.get enc W base v1 d1 p1 h1 (hval 1 47 v1 rfl rfl);obtain⟨x2,k2,g2,s2⟩:=Tryz.arg3.get enc W base v2 d2 p2 h2 (hval 2 3 v2 rfl rfl);have w0:x0.size<=zko d0:=s0;have w1:x1.size<=zko d1:=s1;have hb:zgj [d0,d1,d2]<=1048576:=by rw[<-znn];simpa[Rows.uptoSmall]using hk
 simp only[zgj]at hb
 have w:x0.size+x1.size+0<=1048576:=by
  refine Qbf (?_:_<=zko d0+zko d1+zko d2) (by omega);exact Nat.add_le_add (Nat.add_le_add (w0) w1) (Qbo _)
 obtain⟨n,hn⟩:=ysj x0 x1 x2 g0 g1 g2 w;have hp:=zku n x0 x1 x2 true hn;refine(ywv (hp H0) (λ_ _=>Tryz.call6 _ _) (z03u (cs:=[v0,v1,v2]) rfl λj v hj =>?_) (zns hL)).mono λe W' ⟨he,hg⟩ =>?_
 match j with
 |0=>simp at hj;subst hj;exact⟨v0,rfl,k0⟩
 |1=>simp at hj;subst hj;exact⟨v1,rfl,k1⟩
 |2=>simp at hj;subst hj;exact⟨v2,rfl,k2⟩
 |j+3=>simp at hj
 exact⟨_,he,z00v laidOut rfl (by rw[Tryz.params6];intro t ht;simp at ht;rcases ht with rfl|rfl|rfl <;> exact⟨by kernel_rfl,Qac (by kernel_rfl)⟩) (by kernel_rfl) Tryz.underlying4 ⟨rfl,rfl,rfl⟩ hW' hg⟩
set_option maxRecDepth 100000 in
theorem z003(os:Os):laidMet Tryz.prog Rows.rulesGrowUptoRow.laid ((World.laidAll Tryz.prog os Rows.rulesGrowUptoRow.laid).forCall (λ_ _=>0) ⟨#[],#[.agg #[.slice none 0 0,.slice none 0 0],.agg #[.string ⟨#[]⟩,.slice none 0 0,.slice none 0 0],.int .i64 0],[]⟩).memory :=
 laidMet_laidAll _ (by kernel_rfl) (by kernel_rfl)
theorem reads(os:Os){H:Type}(enc:TypeId×Value->H):∃places,DataW.whole enc Tryz.prog ((World.laidAll Tryz.prog os Rows.rulesGrowUptoRow.laid).forCall (λ_ _=>0) ⟨#[],#[.agg #[.slice none 0 0,.slice none 0 0],.agg #[.string ⟨#[]⟩,.slice none 0 0,.slice none 0 0],.int .i64 0],[]⟩).memory Tryz.f6.params.toList Rows.rulesGrowSpec.vars false (#[.agg #[.slice none 0 0,.slice none 0 0],.agg #[.string ⟨#[]⟩,.slice none 0 0,.slice none 0 0],.int .i64 0]:Array Value).toList 8=some ([.agg [.nil,.nil],.agg [.lit (.string []),.nil,.nil],.lit (.int .i64 0)],[],places) :=
 ⟨[],by kernel_rfl⟩
theorem y1u{H:Type}{enc:TypeId×Value->H}{C:Checked}{os:Os}{f:FuncId}{fn:Func}{s:OpenSpec}{conds:List PathCond}{apart:Bool}{laid:List (String×DataW Unit)}(modest:Bool)(w0:World)(args:Array Value)(hos:w0.os=os)
  (hsh:(w0.forCall (λ_ _=>0) ⟨#[],args,[]⟩).Shaped C.prog) (hok:Input.okWideB C.prog (w0.forCall (λ_ _=>0) ⟨#[],args,[]⟩) f ⟨#[],args,[]⟩=true)
  (hrow:s.preRow enc C.prog fn conds apart laid (w0.forCall (λ_ _=>0) ⟨#[],args,[]⟩).memory args) :
  ∃(w:World) (tape:Tape) (i:Input),w.os=os∧(w.forCall tape i).Shaped C.prog∧i.vars=[]∧Input.okWide C.prog (w.forCall tape i) .any w.heap.size f i ∧
   s.preRow enc C.prog fn conds apart laid (w.forCall tape i).memory i.args∧({modest:=modest}:Assume).holds C.prog (lone (Frame.enter C.prog f i.args .normal) [] (w.forCall tape i)) :=
 ⟨w0,λ_ _=>0,⟨#[],args,[]⟩,hos,hsh,(Input.okWide_of_okWideB (base:=0) hok).1,(Input.okWide_of_okWideB hok).2,hrow,by
  simp only[Assume.holds]
  exact⟨by simp,by simp,λ_=>Modest.zero,by simp,by simp⟩⟩
set_option maxRecDepth 100000 in
theorem lifted(os:Os)(started:os.Started)(H:Type)(enc:TypeId×Value->H)(F:Stop.Interp) :
  ReturnsInHanded {} Tryz.checked os 6 .any ((Rows.OpenSpec.upto Rows.rulesGrowSpec).preRow enc Tryz.prog Tryz.f6 Rows.rulesGrowUptoRow.domain false Rows.rulesGrowUptoRow.laid) (((Rows.OpenSpec.upto Rows.rulesGrowSpec).at F).post enc Tryz.prog Tryz.f6 false true false false):=by
 obtain⟨places,hx⟩:=reads os enc
 refine returnsInHanded_of_row (C:=Tryz.checked) (s:=Rows.OpenSpec.upto Rows.rulesGrowSpec) ownGd started (by kernel_rfl) Tryz.func6
  (y1u (enc:=enc) (C:=Tryz.checked) false (World.laidAll Tryz.prog os Rows.rulesGrowUptoRow.laid) #[.agg #[.slice none 0 0,.slice none 0 0],.agg #[.string ⟨#[]⟩,.slice none 0 0,.slice none 0 0],.int .i64 0] (World.laidAll_os _ _ _) (World.shaped_of_ZipB (by kernel_rfl) (by kernel_rfl)) (by kernel_rfl)
   (OpenSpec.preRow_of_cond 8 hx (by kernel_rfl) (λk hk=>by cases hk;kernel_rfl) (by kernel_rfl) (z003 os))) ?_
 intro W base args ds gs before hval hW _ hcond _ hL _ _;exact y3b H enc W base args ds gs before hval hW (hcond _ rfl) hL
theorem z005:Rows.RulesGrowUptoSaid :=
 OpenClaim.holds_of_cond 6 Tryz.f6 rfl rfl rfl rfl rfl rfl rfl ⟨rfl,rfl,rfl,rfl,rfl⟩ rfl rfl rfl rfl rfl (by kernel_rfl) Tryz.func6 yqv
  (Qac (by kernel_rfl)) (by unfold Func.isWrapper;first|(rw[Qbq (by decide +kernel)];kernel_rfl)|(rw[Qbr (by decide +kernel)];exact⟨rfl,rfl⟩))
  (λos started H enc _ F=>by rw[OpenClaim.pre_eq_preRow];exact lifted os started H enc F)
theorem yue(f:FuncId)(fn:Func)(hf:Tryz.pinned.checked.prog.funcNamed Rows.rulesGrowUptoRow.func=some f)(hfn:Tryz.pinned.checked.prog.funcs[f]? = some fn) :
  true=Tryz.pinned.checked.prog.looks []∧∀(j:Nat) t,fn.params[j]? = some t->Tryz.pinned.checked.prog.wantsStandIn t=false:=by
 obtain rfl:f=6:=Option.some.inj ((show Tryz.prog.funcNamed Rows.rulesGrowUptoRow.func=some 6 by kernel_rfl).symm.trans hf) |>.symm
 obtain rfl:fn=Tryz.f6:=(Option.some.inj (Tryz.func6.symm.trans hfn)).symm;refine⟨by kernel_rfl,λj t ht =>?_⟩;rw[Tryz.params6]at ht;have hm:=Array.mem_of_getElem? ht
 have hall:∀t ∈ #[36,47,3],Tryz.prog.wantsStandIn t=false:=by
  intro t ht;simp at ht
  rcases ht with rfl|rfl|rfl <;> kernel_rfl
 exact hall t hm
theorem proved:Rows.RulesGrowUptoCardSaid :=
 Claim7.holds_tied_plain_at .later [] _ _ _ _ z005 (λ_ h=>by cases h) (by kernel_rfl) (λ_ h=>by cases h) rulesGrowUpto_row_tie rfl ⟨rfl,rfl⟩ (by kernel_rfl) rfl yue (by kernel_rfl)
#print axioms proved
end Go.Proofs.YthphaiccgnkobaaGreatDoor
