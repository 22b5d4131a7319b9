/-
  gambrellaw37.CheckOrigins answers true, and its arguments read as before, where they hold together at most 1048576 values and letters.
-/
import Derived.Test.YtdcbdnediadfcaaRun0
import Derived.Test.YtdcbdnediadfcaaRun2
import Derived.Test.YtdcbdnediadfcaaRows
import Derived.Test.YtdcbdnediadfcaaChecked
namespace Go.Proofs.Ytdcbdnediadfcaa
open Go Go.Ab
mutual
theorem zt8{H:Type}:∀d:DataW H,Rows.uptoBulk d=z6i d
 |.lit .nil| .lit (.string _)| .lit (.int ..)| .lit (.bool _)| .lit (.float ..)| .nil| .held _=>rfl
 |.ptr d| .iface _ d=>by simp only[Rows.uptoBulk,z6i];rw[zt8 d]
 |.slice es sp=>by simp only[Rows.uptoBulk,z6i];rw[z8t es,z8t sp]
 |.agg ps=>by simp only[Rows.uptoBulk,z6i];rw[z8t ps]
 |.map es=>by simp only[Rows.uptoBulk,z6i];rw[zcs es]
theorem z8t{H:Type}:∀ds:List (DataW H),Rows.uptoBulkAll ds=z57 ds
 |[]=>rfl
 |d::r=>by simp only[Rows.uptoBulkAll,z57];rw[zt8 d,z8t r]
theorem zcs{H:Type}:∀es:List (Lit×DataW H),Rows.uptoBulkEntries es=z9k es
 |[]=>rfl
 |x::r=>by simp only[Rows.uptoBulkEntries,z9k];rw[zsm x,zcs r]
theorem zsm{H:Type}:∀x:Lit×DataW H,Rows.uptoBulkEntry x=zif x
 |(.nil,d)|(.string _,d)|(.int ..,d)|(.bool _,d)|(.float ..,d)=>by simp only[Rows.uptoBulkEntry,zif];rw[zt8 d]
end
theorem laidOut:laidOutB Try.prog=true:=by kernel_rfl
theorem ownGd:ownKnob Try.prog.godebug=none:=by kernel_rfl
theorem y3x{W:World}{g:Gh}{H:zz2}:z90 W g H:=⟨λk cs h=>(by cases h),λk h=>(by cases h)⟩
set_option maxRecDepth 100000 in
theorem zhu(H:Type)(enc:TypeId×Value->H)(W:World)(base:Nat)(args:Array Value)(ds gs:List (DataW H))(before:List MemPlace)
  (hval:∀(j:Nat) t v,Try.f3.params[j]? = some t->args[j]? = some v->Value.okWide Try.prog W .any base t v)
  (hW:DataW.Whole enc Try.prog Try.f3.params.toList Rows.checkOriginsSpec.vars false W args.toList ds gs before) (hk:Rows.uptoSmall H (ds++gs)=true) :
  Calls Try.prog 3 args W λe W'=>∃v,e = .returned v∧Rows.checkOriginsSpec.post enc Try.prog Try.f3 false true false false W args v W':=by
 have hW':=hW;obtain⟨p,q,hA,hV,rfl,_,_⟩:=hW;rw[Try.params3]at hA hval;obtain⟨rfl,_⟩:=ChangeShapes.trodVars_none hV;obtain⟨v0,vs0,d0,ds0,p0,q0,hargs,rfl,rfl,h0,r0⟩:=ChangeShapes.trodAll_cons hA;obtain⟨v1,vs1,d1,ds1,p1,q1,rfl,rfl,rfl,h1,r1⟩:=ChangeShapes.trodAll_cons r0;obtain⟨v2,vs2,d2,ds2,p2,q2,rfl,rfl,rfl,h2,r2⟩:=ChangeShapes.trodAll_cons r1
 obtain⟨v3,vs3,d3,ds3,p3,q3,rfl,rfl,rfl,h3,r3⟩:=ChangeShapes.trodAll_cons r2;obtain⟨rfl,rfl,rfl⟩:=ChangeShapes.trodAll_nil r3;obtain rfl:args = #[v0,v1,v2,v3]:=by cases args;simp_all
 obtain⟨x0,k0,g0,s0⟩:=Try.arg22.get enc W base v0 d0 p0 h0 (hval 0 22 v0 rfl rfl);obtain⟨x1,k1,g1,s1⟩:=Try.arg9.get enc W base v1 d1 p1 h1 (hval 1 9 v1 rfl rfl);obtain⟨x2,k2,g2,s2⟩:=Try.y8i.get enc W base v2 d2 p2 h2 (hval 2 26 v2 rfl rfl);obtain⟨x3,k3,g3,s3⟩:=Try.y8i.get enc W base v3 d3 p3 h3 (hval 3 26 v3 rfl rfl)
 have w0:(x0.map zz9.size).sum<=z6i d0:=by
  simp only[Ty.slice]at s0;show(x0.map zz9.ty.size).sum<=_;omega
 have w1:x1.length<=z6i d1:=by simp only[Ty.str]at s1;omega
 have w2:x2.size<=z6i d2:=s2;have w3:x3.size<=z6i d3:=s3;have hb:z57 [d0,d1,d2,d3]<=1048576:=by rw[<-z8t];simpa[Rows.uptoSmall]using hk
 simp only[z57]at hb
 have w:(x0.map zz9.size).sum+x1.length+x2.size+x3.size<=1048576:=by
  refine Qbh (?_:_<=z6i d0+z6i d1+z6i d2+z6i d3) (by omega);exact Nat.add_le_add (Nat.add_le_add (Nat.add_le_add (w0) w1) w2) w3
 obtain⟨n,hn⟩:=zpm x0 x1 x2 x3 g0 g2 g3 w;have hp:=z6g n x0 x1 x2 x3 true hn;refine(y1x (hp H0) (λ_ _=>Try.call3 _ _) (zsx (cs:=[v0,v1,v2,v3]) rfl λj v hj =>?_) y3x).mono λe W' ⟨he,hg⟩ =>?_
 match j with
 |0=>simp at hj;subst hj;exact⟨v0,rfl,k0⟩
 |1=>simp at hj;subst hj;exact⟨v1,rfl,k1⟩
 |2=>simp at hj;subst hj;exact⟨v2,rfl,k2⟩
 |3=>simp at hj;subst hj;exact⟨v3,rfl,k3⟩
 |j+4=>simp at hj
 exact⟨_,he,y4s laidOut rfl (by rw[Try.params3];intro t ht;simp at ht;rcases ht with rfl|rfl|rfl|rfl <;> exact⟨by kernel_rfl,Qac (by kernel_rfl)⟩) (by kernel_rfl) Try.underlying4 ⟨rfl,rfl,rfl⟩ hW' hg⟩
set_option maxRecDepth 100000 in
theorem lifted(os:Os)(started:os.Started)(H:Type)(enc:TypeId×Value->H)(F:Stop.Interp) :
  ReturnsInHanded {} Try.checked os 3 .any ((Rows.OpenSpec.upto Rows.checkOriginsSpec).pre6 enc Try.prog Try.f3 Rows.checkOriginsUptoRow.domain false) (((Rows.OpenSpec.upto Rows.checkOriginsSpec).at F).post enc Try.prog Try.f3 false true false false):=by
 refine returnsInHanded_of_cond (C:=Try.checked) (s:=Rows.OpenSpec.upto Rows.checkOriginsSpec) (k:=Rows.uptoSmall) rfl ownGd started (by kernel_rfl) Try.func3
  (OpenSpec.witness (enc:=enc) (C:=Try.checked) (s:=Rows.OpenSpec.upto Rows.checkOriginsSpec) (k:=Rows.uptoSmall) rfl false ⟨#[],#[.slice none 0 0,.string ⟨#[]⟩,.agg #[.int .i64 0,.int .i64 0,.int .i64 0,.int .i64 0,.int .i64 0,.int .i64 0],.agg #[.int .i64 0,.int .i64 0,.int .i64 0,.int .i64 0,.int .i64 0,.int .i64 0]],[]⟩ 8 (by kernel_rfl) (by kernel_rfl) (by kernel_rfl)
   (x:=([.nil,.lit (.string []),.agg [.agg [.lit (.int .i64 0),.lit (.int .i64 0),.lit (.int .i64 0)],.agg [.lit (.int .i64 0),.lit (.int .i64 0),.lit (.int .i64 0)]],.agg [.agg [.lit (.int .i64 0),.lit (.int .i64 0),.lit (.int .i64 0)],.agg [.lit (.int .i64 0),.lit (.int .i64 0),.lit (.int .i64 0)]]],[],[])) (by kernel_rfl) rfl (by kernel_rfl)) ?_
 intro W base args ds gs before hval hW _ hk _;exact zhu H enc W base args ds gs before hval hW hk
theorem proved:Rows.CheckOriginsUptoSaid :=
 OpenClaim.holds_of_cond 3 Try.f3 rfl rfl rfl rfl rfl rfl rfl ⟨rfl,rfl,rfl,rfl,rfl⟩ rfl rfl rfl rfl rfl (by kernel_rfl) Try.func3 (by kernel_rfl)
  (Qac (by kernel_rfl)) (by unfold Func.isWrapper;first|(rw[Qbr (by decide +kernel)];kernel_rfl)|(rw[Qbs (by decide +kernel)];exact⟨rfl,rfl⟩))
  (λos started H enc _ F=>lifted os started H enc F)
#print axioms proved
end Go.Proofs.Ytdcbdnediadfcaa
