/-
  gambrellaw31.EditApplies answers true, and its arguments read as before, where they hold together at most 1048576 values and letters.
-/
import Derived.Test.YtomdnlaakelghaaGreatOwn2
import Derived.Test.YtomdnlaakelghaaGreatOwn5
import Derived.Test.YtomdnlaakelghaaGreatLib7
import Derived.Test.YtomdnlaakelghaaGreatRows
import Derived.Test.YtomdnlaakelghaaGreatChecked
namespace Go.Proofs.YtomdnlaakelghaaGreat
open Go Go.Ab
mutual
theorem yob {H:Type}:∀d:DataW H,Rows.uptoBulk d=zlm d
 | .lit .nil| .lit (.string _)| .lit (.int ..)| .lit (.bool _)| .lit (.float ..)| .nil| .held _=>rfl
 | .ptr d| .iface _ d=>by simp only [Rows.uptoBulk,zlm];rw [yob d]
 | .slice es sp=>by simp only [Rows.uptoBulk,zlm];rw [zmi es,zmi sp]
 | .agg ps=>by simp only [Rows.uptoBulk,zlm];rw [zmi ps]
 | .map es=>by simp only [Rows.uptoBulk,zlm];rw [zu3 es]
theorem zmi {H:Type}:∀ds:List (DataW H),Rows.uptoBulkAll ds=zgt ds
 |[]=>rfl
 |d::r=>by simp only [Rows.uptoBulkAll,zgt];rw [yob d,zmi r]
theorem zu3 {H:Type}:∀es:List (Lit×DataW H),Rows.uptoBulkEntries es=zns es
 |[]=>rfl
 |x::r=>by simp only [Rows.uptoBulkEntries,zns];rw [yjp x,zu3 r]
theorem yjp {H:Type}:∀x:Lit×DataW H,Rows.uptoBulkEntry x=y33 x
 |(.nil,d)|(.string _,d)|(.int ..,d)|(.bool _,d)|(.float ..,d)=>by simp only [Rows.uptoBulkEntry,y33];rw [yob d]
end
theorem laidOut:laidOutB Tryz.prog=true:=by kernel_rfl
theorem ownGd:ownKnob Tryz.prog.godebug=none:=by kernel_rfl
theorem z02c {W:World} {g:Gh} {H:kz3}:zn6 W g H:=⟨λk cs h=>(by cases h),λk h=>(by cases h)⟩
set_option maxRecDepth 100000 in
theorem y0q (H:Type) (enc:TypeId×Value->H) (W:World) (base:Nat) (args:Array Value) (ds gs:List (DataW H)) (before:List MemPlace)
  (hval:∀(j:Nat) t v,Tryz.f3.params[j]? = some t->args[j]? = some v->Value.okWide Tryz.prog W .any base t v)
  (hW:DataW.Whole enc Tryz.prog Tryz.f3.params.toList Rows.editAppliesSpec.vars false W args.toList ds gs before) (hk:Rows.uptoSmall H (ds++gs)=true) :
  Calls Tryz.prog 3 args W λe W'=>∃v,e = .returned v∧Rows.editAppliesSpec.post enc Tryz.prog Tryz.f3 false true false false W args v W':=by
 have hW':=hW;obtain ⟨p,q,hA,hV,rfl,_,_⟩:=hW;rw [Tryz.params3] at hA hval;obtain ⟨rfl,_⟩:=ChangeShapes.trodVars_none hV;obtain ⟨v0,vs0,d0,ds0,p0,q0,hargs,rfl,rfl,h0,r0⟩:=ChangeShapes.trodAll_cons hA;obtain ⟨v1,vs1,d1,ds1,p1,q1,rfl,rfl,rfl,h1,r1⟩:=ChangeShapes.trodAll_cons r0;obtain ⟨rfl,rfl,rfl⟩:=ChangeShapes.trodAll_nil r1;obtain rfl:args = #[v0,v1]:=by cases args;simp_all
 obtain ⟨x0,k0,g0,s0⟩:=Tryz.arg25.get enc W base v0 d0 p0 h0 (hval 0 25 v0 rfl rfl);obtain ⟨x1,k1,g1,s1⟩:=Tryz.arg26.get enc W base v1 d1 p1 h1 (hval 1 26 v1 rfl rfl);have w0:x0.size<=zlm d0:=s0
 have w1:(x1.map yz6.size).sum+1<=zlm d1:=by
  simp only [Ty.slice] at s1;show (x1.map yz6.ty.size).sum+1<=_;omega
 have hb:zgt [d0,d1]<=1048576:=by rw [<-zmi];simpa [Rows.uptoSmall] using hk
 simp only [zgt] at hb
 have w:x0.size+((x1.map yz6.size).sum+1)<=1048576:=by
  refine Nat.le_trans (?_:_<=zlm d0+zlm d1) (by omega);exact Nat.add_le_add (w0) w1
 obtain ⟨n,hn⟩:=yc2 x0 x1 g0 g1 w;have hp:=zjb n x0 x1 true hn;refine (ywe (hp H0) (λ_ _=>Tryz.call3 _ _) (z03l (cs:=[v0,v1]) rfl λj v hj => ?_) z02c).mono λe W' ⟨he,hg⟩ => ?_
 ·match j with
  |0=>simp at hj;subst hj;exact ⟨v0,rfl,k0⟩
  |1=>simp at hj;subst hj;exact ⟨v1,rfl,k1⟩
  |j+2=>simp at hj
 ·exact ⟨_,he,yyh laidOut rfl (by rw [Tryz.params3];intro t ht;simp at ht;rcases ht with rfl|rfl <;> exact ⟨by kernel_rfl,Qac (by kernel_rfl)⟩) (by kernel_rfl) Tryz.underlying4 ⟨rfl,rfl,rfl⟩ hW' hg⟩
set_option maxRecDepth 100000 in
theorem lifted (os:Os) (started:os.Started) (H:Type) (enc:TypeId×Value->H) (F:Stop.Interp) :
  ReturnsInHanded {} Tryz.checked os 3 .any ((Rows.OpenSpec.upto Rows.editAppliesSpec).pre6 enc Tryz.prog Tryz.f3 Rows.editAppliesUptoRow.domain false) (((Rows.OpenSpec.upto Rows.editAppliesSpec).at F).post enc Tryz.prog Tryz.f3 false true false false):=by
 refine returnsInHanded_of_cond (C:=Tryz.checked) (s:=Rows.OpenSpec.upto Rows.editAppliesSpec) (k:=Rows.uptoSmall) rfl ownGd started (by kernel_rfl) Tryz.func3
  (OpenSpec.witness (enc:=enc) (C:=Tryz.checked) (s:=Rows.OpenSpec.upto Rows.editAppliesSpec) (k:=Rows.uptoSmall) rfl false ⟨#[],#[.agg #[.slice none 0 0,.slice none 0 0],.slice none 0 0],[]⟩ 8 (by kernel_rfl) (by kernel_rfl) (by kernel_rfl)
   (x:=([.agg [.nil,.nil],.nil],[],[])) (by kernel_rfl) rfl (by kernel_rfl)) ?_
 intro W base args ds gs before hval hW _ hk _;exact y0q H enc W base args ds gs before hval hW hk
theorem proved:Rows.EditAppliesUptoSaid :=
 OpenClaim.holds_of_cond 3 Tryz.f3 rfl rfl rfl rfl rfl rfl rfl ⟨rfl,rfl,rfl,rfl,rfl⟩ rfl rfl rfl rfl rfl (by kernel_rfl) Tryz.func3 (by kernel_rfl)
  (Qac (by kernel_rfl)) (by unfold Func.isWrapper;first|(rw [Qbt (by decide +kernel)];kernel_rfl)|(rw [Qbu (by decide +kernel)];exact ⟨rfl,rfl⟩))
  (λos started H enc _ F=>lifted os started H enc F)
#print axioms proved
end Go.Proofs.YtomdnlaakelghaaGreat
