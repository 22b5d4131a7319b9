/-
  gambrellaw04.ExprChanges answers true, and its arguments read as before, where they hold together at most 1048576 values and letters.
-/
import Derived.Test.YtcaehabdaleamaaGreatRun0
import Derived.Test.YtcaehabdaleamaaGreatRun3
import Derived.Test.YtcaehabdaleamaaGreatRows
import Derived.Test.YtcaehabdaleamaaGreatChecked
namespace Go.Proofs.YtcaehabdaleamaaGreat
open Go Go.Ab
open Go.Proofs.Tryz
mutual
theorem ych{H:Type}:∀d:DataW H,Rows.uptoBulk d=zcp d
 |.lit .nil| .lit (.string _)| .lit (.int ..)| .lit (.bool _)| .lit (.float ..)| .nil| .held _=>rfl
 |.ptr d| .iface _ d=>by simp only[Rows.uptoBulk,zcp];rw[ych d]
 |.slice es sp=>by simp only[Rows.uptoBulk,zcp];rw[zfd es,zfd sp]
 |.agg ps=>by simp only[Rows.uptoBulk,zcp];rw[zfd ps]
 |.map es=>by simp only[Rows.uptoBulk,zcp];rw[zlg es]
theorem zfd{H:Type}:∀ds:List (DataW H),Rows.uptoBulkAll ds=zb5 ds
 |[]=>rfl
 |d::r=>by simp only[Rows.uptoBulkAll,zb5];rw[ych d,zfd r]
theorem zlg{H:Type}:∀es:List (Lit×DataW H),Rows.uptoBulkEntries es=zgp es
 |[]=>rfl
 |x::r=>by simp only[Rows.uptoBulkEntries,zgp];rw[ydj x,zlg r]
theorem ydj{H:Type}:∀x:Lit×DataW H,Rows.uptoBulkEntry x=ztd x
 |(.nil,d)|(.string _,d)|(.int ..,d)|(.bool _,d)|(.float ..,d)=>by simp only[Rows.uptoBulkEntry,ztd];rw[ych d]
end
theorem laidOut:laidOutB prog=true:=by kernel_rfl
theorem ownGd:ownKnob prog.godebug=none:=by kernel_rfl
theorem yrr{W:World}{g:Gh}{H:kz3}:zft W g H:=⟨λk cs h=>(by cases h),λk h=>(by cases h)⟩
set_option maxRecDepth 100000 in
theorem y0n(H:Type)(enc:TypeId×Value->H)(W:World)(base:Nat)(args:Array Value)(ds gs:List (DataW H))(before:List MemPlace)
  (hval:∀(j:Nat) t v,f3.params[j]? = some t->args[j]? = some v->Value.okWide prog W .any base t v)
  (hW:DataW.Whole enc prog f3.params.toList Rows.exprChangesSpec.vars false W args.toList ds gs before) (hk:Rows.uptoSmall H (ds++gs)=true) :
  Calls prog 3 args W λe W'=>∃v,e = .returned v∧Rows.exprChangesSpec.post enc prog f3 false true false false W args v W':=by
 have hW':=hW;obtain⟨p,q,hA,hV,rfl,_,_⟩:=hW;rw[params3]at hA hval;obtain⟨rfl,_⟩:=ChangeShapes.trodVars_none hV;obtain⟨v0,vs0,d0,ds0,p0,q0,hargs,rfl,rfl,h0,r0⟩:=ChangeShapes.trodAll_cons hA;obtain⟨v1,vs1,d1,ds1,p1,q1,rfl,rfl,rfl,h1,r1⟩:=ChangeShapes.trodAll_cons r0;obtain⟨v2,vs2,d2,ds2,p2,q2,rfl,rfl,rfl,h2,r2⟩:=ChangeShapes.trodAll_cons r1
 obtain⟨v3,vs3,d3,ds3,p3,q3,rfl,rfl,rfl,h3,r3⟩:=ChangeShapes.trodAll_cons r2;obtain⟨rfl,rfl,rfl⟩:=ChangeShapes.trodAll_nil r3;obtain rfl:args = #[v0,v1,v2,v3]:=by cases args;simp_all
 obtain⟨x0,k0,g0,s0⟩:=yt3.get enc W base v0 d0 p0 h0 (hval 0 29 v0 rfl rfl);obtain⟨x1,k1,g1,s1⟩:=yt3.get enc W base v1 d1 p1 h1 (hval 1 29 v1 rfl rfl);obtain⟨x2,k2,g2,s2⟩:=arg9.get enc W base v2 d2 p2 h2 (hval 2 9 v2 rfl rfl);obtain⟨x3,k3,g3,s3⟩:=arg26.get enc W base v3 d3 p3 h3 (hval 3 26 v3 rfl rfl);have w0:x0.size<=zcp d0:=s0;have w1:x1.size<=zcp d1:=s1
 have w2:x2.length<=zcp d2:=by simp only[Ty.str]at s2;omega
 have w3:x3.size<=zcp d3:=s3;have hb:zb5 [d0,d1,d2,d3]<=1048576:=by rw[<-zfd];simpa[Rows.uptoSmall]using hk
 simp only[zb5]at hb
 have w:x0.size+x1.size+x2.length+x3.size<=1048576:=by
  refine Nat.le_trans (?_:_<=zcp d0+zcp d1+zcp d2+zcp d3) (by omega);exact Nat.add_le_add (Nat.add_le_add (Nat.add_le_add (w0) w1) w2) w3
 obtain⟨n,hn⟩:=y5h x0 x1 x2 x3 g0 g1 g3 w;have hp:=zcy n x0 x1 x2 x3 true hn;refine(ym5 (hp H0) (λ_ _=>call3 _ _) (ysi (cs:=[v0,v1,v2,v3]) rfl λj v hj =>?_) yrr).mono λe W' ⟨he,hg⟩ =>?_
 match j with
 |0=>simp at hj;subst hj;exact⟨v0,rfl,k0⟩
 |1=>simp at hj;subst hj;exact⟨v1,rfl,k1⟩
 |2=>simp at hj;subst hj;exact⟨v2,rfl,k2⟩
 |3=>simp at hj;subst hj;exact⟨v3,rfl,k3⟩
 |j+4=>simp at hj
 exact⟨_,he,yq3 laidOut rfl (by rw[params3];intro t ht;simp at ht;rcases ht with rfl|rfl|rfl|rfl <;> exact⟨by kernel_rfl,Qac (by kernel_rfl)⟩) (by kernel_rfl) underlying4 ⟨rfl,rfl,rfl⟩ hW' hg⟩
set_option maxRecDepth 100000 in
theorem lifted(os:Os)(started:os.Started)(H:Type)(enc:TypeId×Value->H)(F:Stop.Interp) :
  ReturnsInHanded {} checked os 3 .any ((Rows.OpenSpec.upto Rows.exprChangesSpec).pre6 enc prog f3 Rows.exprChangesUptoRow.domain false) (((Rows.OpenSpec.upto Rows.exprChangesSpec).at F).post enc prog f3 false true false false):=by
 refine returnsInHanded_of_cond (C:=checked) (s:=Rows.OpenSpec.upto Rows.exprChangesSpec) (k:=Rows.uptoSmall) rfl ownGd started (by kernel_rfl) func3
  (OpenSpec.witness (enc:=enc) (C:=checked) (s:=Rows.OpenSpec.upto Rows.exprChangesSpec) (k:=Rows.uptoSmall) rfl false ⟨#[],#[.agg #[.int .u8 0,.int .u8 0,.int .i64 0,.int .i64 0,.bool false,.string ⟨#[]⟩,.slice none 0 0,.string ⟨#[]⟩,.slice none 0 0],.agg #[.int .u8 0,.int .u8 0,.int .i64 0,.int .i64 0,.bool false,.string ⟨#[]⟩,.slice none 0 0,.string ⟨#[]⟩,.slice none 0 0],.string ⟨#[]⟩,.agg #[.int .u8 0,.int .i64 0,.int .i64 0,.bool false,.string ⟨#[]⟩,.slice none 0 0]],[]⟩ 8 (by kernel_rfl) (by kernel_rfl) (by kernel_rfl)
   (x:=([.agg [.lit (.int .u8 0),.agg [.lit (.int .u8 0),.agg [.lit (.int .i64 0),.lit (.int .i64 0)],.lit (.bool false),.lit (.string []),.nil],.lit (.string []),.nil],.agg [.lit (.int .u8 0),.agg [.lit (.int .u8 0),.agg [.lit (.int .i64 0),.lit (.int .i64 0)],.lit (.bool false),.lit (.string []),.nil],.lit (.string []),.nil],.lit (.string []),.agg [.lit (.int .u8 0),.agg [.lit (.int .i64 0),.lit (.int .i64 0)],.lit (.bool false),.lit (.string []),.nil]],[],[])) (by kernel_rfl) rfl (by kernel_rfl)) ?_
 intro W base args ds gs before hval hW _ hk _;exact y0n H enc W base args ds gs before hval hW hk
theorem proved:Rows.ExprChangesUptoSaid :=
 OpenClaim.holds_of_cond 3 f3 rfl rfl rfl rfl rfl rfl rfl ⟨rfl,rfl,rfl,rfl,rfl⟩ rfl rfl rfl rfl rfl (by kernel_rfl) func3 (by kernel_rfl)
  (Qac (by kernel_rfl)) (by unfold Func.isWrapper;first|(rw[Qbo (by decide +kernel)];kernel_rfl)|(rw[Qbp (by decide +kernel)];exact⟨rfl,rfl⟩))
  (λos started H enc _ F=>lifted os started H enc F)
#print axioms proved
end Go.Proofs.YtcaehabdaleamaaGreat
