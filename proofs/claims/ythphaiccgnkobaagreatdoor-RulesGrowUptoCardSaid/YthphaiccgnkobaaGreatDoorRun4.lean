/-
  PROGRAMS: CALLS, EXPRESSIONS, NAMES THAT ARE USED, NAMES THAT STAND TWICE.
-/
import Derived.Test.YthphaiccgnkobaaGreatDoorRun3
import Derived.Lib.ItoaLen
import Derived.Test.YthphaiccgnkobaaGreatDoorRun2
namespace Go.Proofs.YthphaiccgnkobaaGreatDoor
open Go Go.Ab
set_option linter.unusedSimpArgs false
set_option linter.unusedVariables false
theorem zhi{α β γ:Type}{L:Nat->Int->List β->Option γ}{xs:List α}{g v s0 B}(hB:s0.length+(xs.flatMap g).length<=B)
  (he:Ev (λn=>L n (xs.length:Int) (s0++xs.flatMap g)) v)
  (hs:∀k (h:k<xs.length) s,s.length+(g xs[k]).length<=B->Ev (λn=>L n ((k+1:Nat):Int) (s++g xs[k])) v->Ev (λn=>L n (k:Int) s) v):Ev (λn=>L n 0 s0) v:=by
 have:∀m k,k+m=xs.length->∀s,s.length+((xs.drop k).flatMap g).length<=B->s++(xs.drop k).flatMap g=s0++xs.flatMap g->Ev (λn=>L n (k:Int) s) v:=λm=>by
  induction m with
  |zero=>
   grind
  |succ m ih=>
   intro k hk s hi hf;have hlt:k<xs.length:=by omega
   rw[<-Qah (h:=hlt),List.flatMap_cons,Qap]at hi;rw[<-Qah (h:=hlt),List.flatMap_cons,<-Qay]at hf;exact hs k hlt s (by omega) (ih (k+1) (by omega) _ (by grind) hf)
 simpa using this xs.length 0 (by omega) s0 (by simpa using hB) (by simp)
theorem zmg{α β:Type}{f}{g:α->List β}:∀{l:List α},(∀x∈l,(g x).length<=f x)->(l.flatMap g).length<=(l.map f).sum
 |[],_=>by simp
 |x::l,h=>by
  have h2:=zmg (f:=f) (g:=g) (l:=l) λy hy=>h y (Qai _ hy)
  grind
def zvg(x:yzj):List (B8×Int):=[(x.name,(x.args.length:Int)-1)]
def zi3(a:zz4):List (B8×Int):=(if a.name=[]then []else [(a.name,(a.args.length:Int)-own a.kind)])++a.items.flatMap zvg
def y77(c:zz6):List (B8×Int):=c.do_.flatMap zi3
def yz9(r:yz5):List (B8×Int):=r.cases.flatMap y77
theorem ytn(a):(zi3 a).length<=a.size:=by
 have h:=zmg (f:=yzj.size) (g:=zvg) (l:=a.items) λx _=>by rw[yzj.size_eq];show 1<=_;omega
 grind[zz4.size_eq,zi3,List.length_cons]
theorem yu7(c):(y77 c).length<=c.size:=by
 have h:=zmg (f:=zz4.size) (g:=zi3) (l:=c.do_) λx _=>ytn x
 rw[zz6.size_eq];unfold y77;omega
theorem zj3(r):(yz9 r).length<=r.size:=by
 have h:=zmg (f:=zz6.size) (g:=y77) (l:=r.cases) λx _=>yu7 x
 rw[yz5.size_eq];unfold yz9;omega
def toT(x:B8×Int):kzs:=⟨x.1,x.2⟩
def toG(x:B8×Int):z2q:=⟨x.1,x.2⟩
theorem z058(k):0<=own k∧own k<=3:=by grind[own]
theorem yml{a k}(h0:0<=a)(h1:a<=8000000)(h2:0<=k)(h3:k<=3):IntKind.i64.wrap (a-k)=a-k:=wI (by omega)
theorem y80{r}(hs:r.size<=8000000):Ev (λn=>z88 n r) ((yz9 r).map toT):=by
 have hlen:=zj3 r;have hmap:(yz9 r).map toT=r.cases.flatMap λc=>c.do_.flatMap λa=>(zi3 a).map toT:=by simp[yz9,y77,List.map_flatMap]
 have:=@zx9 r;rw[yb5]
 refine zhi (L:=λn k s=>z4j n k r.cases (r.cases.length:Int) s) (xs:=r.cases) (g:=λc=>c.do_.flatMap λa=>(zi3 a).map toT) (B:=8000000) (by grind) (by
  simp_all[zp0,Ev.zz2,Ev.yz0]) λk hk s hi hv =>?_
 have:=zud (Qad hk);have:=@zwd r.cases[k];rw[zp0,Ev.kz1 (by simpa using hk),Ev.yz2 (zz5 hk)]
 refine zhi (L:=λn j s=>z2b n j r.cases[k].do_ r.cases (r.cases.length:Int) (k:Int) (r.cases[k].do_.length:Int) s) (xs:=r.cases[k].do_) (g:=λa=>(zi3 a).map toT) (B:=8000000) hi (by
  rw[zoo,Ev.zz2 (by simp),wrk (by omega)];exact hv) λj hj s hi hv =>?_
 have:=y0s (Qad hj);generalize hx:r.cases[k].do_[j]=a at *;have:=@y49 a;have:=@z05j a;have ho:=z058 a.kind;rw[zi3,List.map_append,Qap]at hi;rw[zi3,List.map_append,<-Qay]at hv
 have l2:∀t:z86,t.length+((a.items.flatMap zvg).map toT).length<=8000000->Ev (λn=>z2b n ((j+1:Nat):Int) r.cases[k].do_ r.cases (r.cases.length:Int) (k:Int) (r.cases[k].do_.length:Int) (t++(a.items.flatMap zvg).map toT)) ((yz9 r).map toT)->Ev (λn=>z4i n r.cases[k].do_ r.cases (r.cases.length:Int) (k:Int) (r.cases[k].do_.length:Int) (j:Int) t a) ((yz9 r).map toT):=λt ht hv=>by
  have hm:(a.items.flatMap zvg).map toT=a.items.flatMap λx=>[(⟨x.name,(x.args.length:Int)-1⟩:kzs)]:=by rw[List.map_flatMap];rfl
  rw[hm]at ht hv;rw[y3t]
  refine zhi (L:=λn i s=>z4l n i a.items r.cases[k].do_ r.cases (r.cases.length:Int) (k:Int) (r.cases[k].do_.length:Int) (j:Int) (a.items.length:Int) s) (xs:=a.items) (g:=λx=>[(⟨x.name,(x.args.length:Int)-1⟩:kzs)]) (B:=8000000) ht (by
   rw[zo1,Ev.zz2 (by simp),wrk (by omega)];exact hv) λi hi s hl hv =>?_
  have:=y85 (Qad hi);have:=@z033 a.items[i];rw[zo1,Ev.kz1 (by simpa using hi),Ev.yz2 (zz5 hi),yml (by omega) (by omega) (by omega) (by omega),Ev.yz2 (z01 (by simp at hl ⊢;omega)),wrk (by omega)];exact hv
 rw[zoo,Ev.kz1 (by simpa using hj),Ev.yz2 (zz5 hj),hx];by_cases hn:a.name=[]
 simp_all[Ev.zz2]
 rw[Ev.kz1 (by simpa using hn),Ev.zz0 y5h,yml (by omega) (by omega) ho.1 ho.2];rw[Qbr hn]at hv hi;rw[Ev.yz2 (z01 (by simp at hi ⊢;omega))];exact l2 _ (by simp at hi ⊢;omega) hv
theorem ybg{r}(hs:r.size<=8000000)(hf:∀c∈r.cases,∀a∈c.do_,(a.name=[]↔a.kind=5∨a.kind=6)):Ev (λn=>zbj n r) ((yz9 r).map toG):=by
 have hlen:=zj3 r;have hmap:(yz9 r).map toG=r.cases.flatMap λc=>c.do_.flatMap λa=>(zi3 a).map toG:=by simp[yz9,y77,List.map_flatMap]
 have:=@zx9 r;rw[yfi]
 refine zhi (L:=λn k s=>z6d n k s r) (xs:=r.cases) (g:=λc=>c.do_.flatMap λa=>(zi3 a).map toG) (B:=8000000) (by grind) (by
  simp_all[zqw,Ev.zz2,Ev.yz0]) λk hk s hi hv =>?_
 have hc:=Qad hk;have:=zud hc;have:=@zwd r.cases[k];rw[zqw,Ev.kz1 (by simpa using hk)]
 refine zhi (L:=λn j s=>z3d n j (k:Int) s r) (xs:=r.cases[k].do_) (g:=λa=>(zi3 a).map toG) (B:=8000000) hi (by
  rw[zrn,Ev.yz2 (zz5 hk),Ev.zz2 (by simp),wrk (by omega)];exact hv) λj hj s hi hv =>?_
 have ha:=Qad hj;have:=y0s ha;have hfa:=hf _ hc _ ha;generalize hx:r.cases[k].do_[j]=a at *;have:=@y49 a;have:=@z05j a;have ho:=z058 a.kind;rw[zi3,List.map_append,Qap]at hi;rw[zi3,List.map_append,<-Qay]at hv
 have l2:∀t:zcw,t.length+((a.items.flatMap zvg).map toG).length<=8000000->Ev (λn=>z3d n ((j+1:Nat):Int) (k:Int) (t++(a.items.flatMap zvg).map toG) r) ((yz9 r).map toG)->Ev (λn=>z6t n (k:Int) (j:Int) a t r) ((yz9 r).map toG):=λt ht hv=>by
  have hm:(a.items.flatMap zvg).map toG=a.items.flatMap λx=>[(⟨x.name,(x.args.length:Int)-1⟩:z2q)]:=by rw[List.map_flatMap];rfl
  rw[hm]at ht hv;rw[y7b]
  refine zhi (L:=λn i s=>z5y n i (k:Int) (j:Int) a s r) (xs:=a.items) (g:=λx=>[(⟨x.name,(x.args.length:Int)-1⟩:z2q)]) (B:=8000000) ht (by
   rw[zt0,Ev.zz2 (by simp),wrk (by omega)];exact hv) λi hi s hl hv =>?_
  have:=y85 (Qad hi);have:=@z033 a.items[i];rw[zt0,Ev.kz1 (by simpa using hi),Ev.yz2 (zz5 hi),Ev.yz2 (zz5 hi),yml (by omega) (by omega) (by omega) (by omega),Ev.yz2 (z01 (by simp at hl ⊢;omega)),wrk (by omega)];exact hv
 rw[zrn,Ev.yz2 (zz5 hk),Ev.kz1 (by simpa using hj),Ev.yz2 (zz5 hk),Ev.yz2 (zz5 hj),hx];by_cases hn:a.name=[];rw[Qbq hn]at hv hi;have l3:=l2 s (by simpa using hi) (by simpa using hv);have l2f:Ev (λn=>z6l n (k:Int) (j:Int) false a r s) ((yz9 r).map toG):=by simp_all[zs8,Ev.zz2]
 rcases hfa.1 hn with h|h
 rw[Ev.zz2 (by simp[h])];exact l2f
 simp_all[Ev.kz1]
 have hk5:a.kind≠5∧a.kind≠6:=⟨λh=>hn (hfa.2 (.inl h)),λh=>hn (hfa.2 (.inr h))⟩;rw[Ev.kz1 (by simp[hk5.1]),show(a.kind != 6)=true by simp[hk5.2],zs8,Ev.kz1 (by rfl),Ev.zz0 yjo,yml (by omega) (by omega) ho.1 ho.2];rw[Qbr hn]at hv hi;rw[Ev.yz2 (z01 (by simp at hi ⊢;omega))];exact l2 _ (by simp at hi ⊢;omega) hv
theorem yo6{a}(h:z10 a=true):a.name=[]↔a.kind=5∨a.kind=6:=by
 obtain⟨h1,h2,h3,_⟩:=zow.1 h;by_cases hk:a.kind<=4;rw[Qbq hk]at h3;refine⟨λh =>?_,λh=>by omega⟩;rw[h,yit]at h3;cases h3
 grind
theorem yrt{p}(h:zd1 p=true):∀r∈p.rules,∀c∈r.cases,∀a∈c.do_,z10 a=true:=λr hr c hc a ha=>by
 have h:=Qat.1 (Bool.and_eq_true_iff.1 h).2 r hr;have h:=Qat.1 (Bool.and_eq_true_iff.1 (Bool.and_eq_true_iff.1 h).2).2 c hc
 simp_all[zuf]
def zj8(a:zz4):yz6:=a.args++a.items.flatMap (·.args)
def zgw(c:zz6):yz6:=c.when_::c.do_.flatMap zj8
def zx6(r:yz5):yz6:=r.cases.flatMap zgw
theorem yuh(a):(zj8 a).length<=a.size:=by
 have h:=zmg (f:=yzj.size) (g:=λx:yzj=>x.args) (l:=a.items) λx _=>z033
 grind[zcb,zz4.size_eq,zj8]
theorem y1t(c):(zgw c).length<=c.size:=by
 have h:=zmg (f:=zz4.size) (g:=zj8) (l:=c.do_) λx _=>yuh x
 grind[zz6.size_eq,zgw]
theorem yas(r):(zx6 r).length<=r.size:=by
 have h:=zmg (f:=zz6.size) (g:=zgw) (l:=r.cases) λx _=>y1t x
 rw[yz5.size_eq];unfold zx6;omega
theorem yss{a e}(h:e∈zj8 a):e.size<=a.size∧(a.wf->e.wf):=by
 rcases List.mem_append.1 h with h|h
 have:=zy6 h;grind[yf1,z059];obtain⟨x,hx,he⟩:=List.mem_flatMap.1 h;have:=zy6 he;have:=@ycw x;have:=y85 hx;exact⟨by omega,λw=>wf_xe (z028 w hx) he⟩
theorem yew{c e}(h:e∈zgw c):e.size<=c.size∧(c.wf->e.wf):=by
 rcases Qbg.1 h with h|h
 grind[yix,z024]
 obtain⟨a,ha,he⟩:=List.mem_flatMap.1 h;have:=yss he;have:=y0s ha;grind[yoe]
theorem yds{r e}(h:e∈zx6 r):e.size<=r.size∧(r.wf->e.wf):=by
 obtain⟨c,hc,he⟩:=List.mem_flatMap.1 h;have:=yew he;have:=zud hc;grind[yqw]
theorem ypd{r}(hs:r.size<=8000000):Ev (λn=>zci n r) (zx6 r):=by
 have hlen:=yas r;have:=@zx9 r;rw[ydb]
 refine zhi (L:=λn k s=>z48 n k r.cases (r.cases.length:Int) s) (xs:=r.cases) (g:=zgw) (B:=8000000) (by show 0+(zx6 r).length<=_;omega) (by
  rw[zp6,Ev.zz2 (by simp),Ev.yz0];rfl) λk hk s hi hv =>?_
 have:=zud (Qad hk);have:=@zwd r.cases[k];have e1:s++zgw r.cases[k]=(s++[r.cases[k].when_])++r.cases[k].do_.flatMap zj8:=by simp[zgw]
 rw[e1]at hv;rw[zgw,List.length_cons]at hi;rw[zp6,Ev.kz1 (by simpa using hk),Ev.yz2 (zz5 hk),zz1.kz3,Ev.yz2 (z01 (by grind))]
 refine zhi (L:=λn j s=>z4s n j r.cases[k].do_ r.cases (r.cases.length:Int) (k:Int) (r.cases[k].do_.length:Int) s) (xs:=r.cases[k].do_) (g:=zj8) (B:=8000000) (by grind) (by
  rw[zpi,Ev.zz2 (by simp),wrk (by omega)];exact hv) λj hj s hi hv =>?_
 have:=y0s (Qad hj);generalize hx:r.cases[k].do_[j]=a at *;have:=@y49 a;rw[zj8,Qap]at hi;rw[zj8,<-Qay]at hv;rw[zpi,Ev.kz1 (by simpa using hj),Ev.yz2 (zz5 hj),hx,Ev.yz2 (z01 (by omega))]
 refine zhi (L:=λn i s=>z4o n i a.items r.cases[k].do_ r.cases (r.cases.length:Int) (k:Int) (r.cases[k].do_.length:Int) (j:Int) (a.items.length:Int) s) (xs:=a.items) (g:=λx=>x.args) (B:=8000000) (by grind) (by
  rw[zpk,Ev.zz2 (by simp),wrk (by omega)];exact hv) λi hi s hl hv =>?_
 rw[zpk,Ev.kz1 (by simpa using hi),Ev.yz2 (zz5 hi),Ev.yz2 (z01 (by omega)),wrk (by omega)];exact hv
theorem yrs{c}(hs:c.size<=8000000):Ev (λn=>zc7 n c) (zgw c):=by
 have hlen:=y1t c;have:=@zwd c;have e1:zgw c=[c.when_]++c.do_.flatMap zj8:=by simp[zgw]
 rw[yck,zz6.kz3,zz1.kz3]
 refine zhi (L:=λn j s=>z3v n j c s) (xs:=c.do_) (g:=zj8) (B:=8000000) (by grind) (by
  simp_all[znx,Ev.zz2,Ev.yz0]) λj hj s hi hv =>?_
 have:=y0s (Qad hj);have hxx:=zz5 hj;generalize hx:c.do_[j]=a at *;have:=@y49 a;rw[zj8,Qap]at hi;rw[zj8,<-Qay]at hv;rw[znx,Ev.kz1 (by simpa using hj),Ev.yz2 hxx,Ev.yz2 (z01 (by omega)),zz6.kz3]
 refine zhi (L:=λn i s=>z4w n i (j:Int) c s) (xs:=a.items) (g:=λx=>x.args) (B:=8000000) (by grind) (by
  rw[zpa,Ev.yz2 hxx,Ev.zz2 (by simp),wrk (by omega),zz6.kz3];exact hv) λi hi s hl hv =>?_
 rw[zpa,Ev.yz2 hxx,Ev.kz1 (by simpa using hi),Ev.yz2 hxx,Ev.yz2 (zz5 hi),Ev.yz2 (z01 (by omega)),wrk (by omega),zz6.kz3];exact hv
noncomputable def within(K:List B8)(e:zz1):Bool:=(zgz e).1.all λs=>decide (s∈K)
theorem ydg(e)(hs:e.size<=8388608):(zgz e).1.length<=8388608:=by
 grind[zgz,yiw,zso]
theorem y3w{e K}(hs:e.size<=8388608)(hK:K.length<=8388608):Ev (λn=>z8j n e K) (within K e):=by
 have hl:=ydg e hs;rw[y9i,zz1.kz3,Ev.zz0 (yrl hs),<-ifB (within K e)];refine zbv (L:=λn k=>z2u n k (zgz e).1 K) (by rw[zma,Ev.zz2 (by simp),Ev.yz0]) λk hk v hv =>?_
 rw[zma,Ev.kz1 (by simpa using hk),Ev.yz2 (zz5 hk),Ev.zz0 (y4m hK)];by_cases h:(zgz e).1[k]∈K;rw[Ev.zz2 (Qbl λq=>zye.1 q h),Qbm h,wrk (by omega)];exact hv
 simp_all[Ev.kz1,zye,Ev.yz0]
def MK(m:List (B8×Bool))(K:List B8):Prop:=∀k,(z8a m k).getD false=decide (k∈K)
theorem yex{α σ:Type}{L:Nat->Int->Option (Int×σ)}{l:List α}{p st}
  (he:Ev (λn=>L n (l.length:Int)) (-1,st))
  (hs:∀k (h:k<l.length) v,(p l[k]=true->Ev (λn=>L n (k:Int)) ((k:Int),st))∧(p l[k]=false->Ev (λn=>L n ((k+1:Nat):Int)) v->Ev (λn=>L n (k:Int)) v)) :
  ∃i:Int,Ev (λn=>L n 0) (i,st)∧decide (i>=0)=l.any p:=by
 have:∀k,k<=l.length->∃i:Int,Ev (λn=>L n (k:Int)) (i,st)∧decide (i>=0)=(l.drop k).any p :=
  down ⟨-1,he,by simp⟩ λk hk ⟨i,h1,h2⟩=>by
   obtain⟨a1,a2⟩:=hs k hk (i,st)
   grind[Qah]
 simpa using this 0 (Qbo _)
theorem ycc{e m K}(hm:MK m K)(hw:e.wf)(hs:e.size<=8388608):Ev (λn=>zbn n e (mks m) (mvs m)) (!within K e,mks m,mvs m):=by
 have hl:=ydg e hs
 obtain⟨i,h1,h2⟩:=yex (L:=λn k=>zza n k (zgz e).1 ((zgz e).1.length:Int) (mks m) (mvs m)) (l:=(zgz e).1) (p:=λs => !decide (s∈K)) (st:=(mks m,mvs m))
  (by simp_all[z0y,Ev.zz2,Ev.yz0,kz5]) λk hk v=>by
   have hf:Ev (λn=>zal n (zgz e).1[k] (mks m) (mvs m)) (!decide ((zgz e).1[k]∈K),mks m,mvs m):=by
    rw[ya3,Ev.yz0,kz5,hm]
   constructor;intro hp;rw[z0y,Ev.kz1 (by simpa using hk),Ev.yz2 (zz5 hk),kz5,Ev.zz0 hf,Ev.kz1 hp,Ev.yz0,kz5];intro hp hv;rw[z0y,Ev.kz1 (by simpa using hk),Ev.yz2 (zz5 hk),kz5,Ev.zz0 hf,Ev.zz2 hp,kz5,wrk (by omega)];exact hv
 have hc:Ev (λn=>zzf n (zgz e).1 (mks m) (mvs m)) (!within K e,mks m,mvs m):=by
  rw[zee,kz5,Ev.zz0 (by rw[zft,kz5];exact h1),Ev.yz0,h2,kz5,within,<-List.not_all_eq_any_not]
 rw[yi3,zz1.kz3,Ev.zz0 (ytp hw hs),kz5,Ev.zz0 hc,Ev.yz0,kz5]
theorem yeg{l m K}(hm:MK m K)(hw:∀e∈l,e.wf)(hs:∀e∈l,e.size<=8388608)(hl:l.length<=8388608):Ev (λn=>yzd n l (mks m) (mvs m)) (!l.all (within K),mks m,mvs m):=by
 obtain⟨i,h1,h2⟩:=yex (L:=λn k=>yz8 n k l (l.length:Int) (mks m) (mvs m)) (l:=l) (p:=λe => !within K e) (st:=(mks m,mvs m))
  (by simp_all[z0l,Ev.zz2,Ev.yz0,kz5]) λk hk v=>by
   have hx:=Qad hk
   have hf:Ev (λn=>z9n n l[k] (mks m) (mvs m)) (!within K l[k],mks m,mvs m):=by
    rw[y5q,kz5,zz1.kz3,Ev.zz0 (ycc hm (hw _ hx) (hs _ hx)),Ev.yz0,kz5]
   constructor;intro hp;rw[z0l,Ev.kz1 (by simpa using hk),Ev.yz2 (zz5 hk),kz5,zz1.kz3,Ev.zz0 hf,Ev.kz1 hp,Ev.yz0,kz5];intro hp hv;rw[z0l,Ev.kz1 (by simpa using hk),Ev.yz2 (zz5 hk),kz5,zz1.kz3,Ev.zz0 hf,Ev.zz2 hp,kz5,wrk (by omega)];exact hv
 rw[ze3,kz5,Ev.zz0 (by rw[zfl,kz5];exact h1),Ev.yz0,h2,kz5,<-List.not_all_eq_any_not]
theorem yuj{l:List B8}:(∃k,∃h:k<l.length,atI l l[k]<(k:Int))↔¬l.Nodup:=by
 constructor
 grind[y3u,Qad,List.getElem_inj]
 intro h;rw[List.nodup_iff_pairwise_ne,List.pairwise_iff_getElem]at h
 grind[y3u,Qad]
noncomputable def dup(l:List B8):Bool:=@decide (¬l.Nodup) (Classical.propDecidable _)
theorem yry{l}:dup l=true↔¬l.Nodup:=@decide_eq_true_iff _ (Classical.propDecidable _)
theorem z02s{l}:dup l=false↔l.Nodup:=by rw[<-Bool.not_eq_true,yry,Classical.not_not]
theorem yb1{γ}{L:Nat->Int->Option γ}{l t f}(he:Ev (λn=>L n (l.length:Int)) f)
  (hs:∀k (h:k<l.length) v,Ev (λn=>L n ((k+1:Nat):Int)) v->Ev (λn=>L n (k:Int)) (if decide (atI l l[k]<(k:Int))=true then t else v)):Ev (λn=>L n 0) (if dup l=true then t else f):=by
 have:∀k,k<=l.length->∀b:Bool,(b=true↔∃j,k<=j∧∃h:j<l.length,atI l l[j]<(j:Int))->Ev (λn=>L n (k:Int)) (if b=true then t else f) :=
  down (λb hb=>by
   rw[Qbr λh=>by grind];exact he) λk hk ih b hb=>by
   by_cases h:atI l l[k]<(k:Int);rw[Qbq (hb.2 ⟨k,Qbp _,hk,h⟩)];have:=hs k hk _ (ih (@decide _ (Classical.propDecidable _)) (@decide_eq_true_iff _ (Classical.propDecidable _)))
   grind
   have hb':b=true↔∃j,k+1<=j∧∃h:j<l.length,atI l l[j]<(j:Int):=by
    grind
   have:=hs k hk _ (ih b hb')
   grind
 have:=this 0 (Qbo _) (dup l) (by simp_all[yry,yuj]);simpa using this
theorem y7z{l}(hb:l.length<=8388608):Ev (λn=>z9s n l) (dup l):=by
 rw[ybe,<-ifB (dup l)];refine yb1 (L:=λn k=>z47 n k l) (by rw[zoq,Ev.zz2 (by simp),Ev.yz0]) λk hk v hv =>?_
 rw[zoq,Ev.kz1 (by simpa using hk),Ev.yz2 (zz5 hk),Ev.zz0 (y4m hb),wrk (by omega),Ev.pif,Ev.yz0]
 grind
theorem yw4{l s}(hb:l.length<=8388608):Ev (λn=>zce n s l) (atI l s,l):=by
 have h:=yf2 (L:=λn k=>(kzx n k s l).map Prod.fst) (l:=l) (s:=s) (p:=λx=>x==s) (λx=>by simp) hb λn k=>by
  show(kzx (n+1) k s l).map Prod.fst=_;rw[kzx.eq_2];cases decide (k<(l.length:Int));rfl
  cases hx:ix l k with
  |none=>rfl
  |some x=>show(pIf (x==s) _ _).map Prod.fst=pIf (x==s) _ _;cases (x==s) <;> rfl
 have h2:∀n k r,kzx n k s l=some r->r.2=l:=λn=>by
  induction n with
  |zero=>intro k r hr;cases hr
  |succ n ih=>
   grind[kzx.eq_2,decide,ix,pIf]
 rw[yca];obtain⟨n,hn⟩:=h;refine⟨n,λm hm =>?_⟩
 cases hr:kzx m 0 s l with
 |none=>grind
 |some r=>
  grind
theorem ykg{l}(hb:l.length<=8388608):Ev (λn=>z8d n l) (dup l,l):=by
 have e:(dup l,l)=if dup l=true then (true,l)else (false,l):=by cases dup l <;> rfl
 rw[y4z,e];refine yb1 (L:=λn k=>z1e n k l) (by rw[zjx,Ev.zz2 (by simp),Ev.yz0]) λk hk v hv =>?_
 rw[zjx,Ev.kz1 (by simpa using hk),Ev.yz2 (zz5 hk),Ev.zz0 (yw4 hb),wrk (by omega),Ev.pif,Ev.yz0];split;rfl;exact hv
noncomputable def yur(p:yz1):Bool:=dup (yzm p)||(dup (zz7 p)||p.rules.any λr=>dup (r.params++yzm p))
theorem yfn{p}(hs:p.size<=4000000):Ev (λn=>z9k n p) (yur p):=by
 have:=@y0t p;have:=@zl6 p;have ha:(yzm p).length=p.attrs.length:=by simp[yzm]
 have hr:(zz7 p).length=p.rules.length:=by simp[zz7]
 have l1:Ev (λn=>z0k n 0 p) (if (p.rules.any λr=>dup (r.params++yzm p))=true then true else false):=by
  refine zod (L:=λn k=>z0k n k p) (by rw[zl1,Ev.zz2 (by simp),Ev.yz0]) λk hk v hv =>?_
  have:=zrh (Qad hk);have:=@y1a p.rules[k];rw[zl1,Ev.kz1 (by simpa using hk),Ev.yz2 (zz5 hk),Ev.yz2 (z01 (by grind)),List.nil_append,Ev.zz0 (zve (by omega)),Ev.yz2 (z01 (by omega)),Ev.zz0 (ykg (by grind)),wrk (by omega),Ev.pif,Ev.yz0];split;rfl;exact hv
 have l0:∀b,Ev (λn=>z1x n b p) (b||p.rules.any λr=>dup (r.params++yzm p)):=λb=>by
  cases b;rw[zl0,Ev.zz2 (by rfl),ifB]at *;exact l1
  simp_all[zl0,Ev.kz1,Ev.yz0]
 rw[y6o,Ev.zz0 (zve (by omega)),Ev.zz0 (y7z (by omega)),yur];cases dup (yzm p);rw[Ev.zz2 (by rfl),Ev.zz0 (zwi (by omega)),Ev.zz0 (y7z (by omega))];exact l0 _
 simp_all[Ev.kz1]
noncomputable def kA:List B8->z02->Bool
 |_,[]=>true
 |pre,t::l=>within pre t.value&&kA (pre++[t.name]) l
def scope(p:yz1)(r:yz5):List B8:=([[115,120],[115,121],[115,122]]++yzm p)++r.params
noncomputable def kR(p:yz1)(r:yz5):Bool:=(zx6 r).all (within (scope p r))&&(yz9 r).all λc=>decide (c.1∈zz7 p)
noncomputable def y6g(p:yz1):Bool:=kA [] p.attrs&&p.rules.all (kR p)
def yxv(p:yz1)(s:B8):Int:=match p.rules[(atI (zz7 p) s).toNat]? with
 |some r=>r.params.length
 |none => -1
def zkr(p:yz1)(r:yz5):Bool:=(yz9 r).any λc=>decide (c.1∈zz7 p)&&(c.2 != yxv p c.1)
def yd5(p:yz1):Bool:=p.rules.any (zkr p)
noncomputable def z3o(p:yz1):Int:=if zog p=true then 4 else if zd1 p=true then (if yur p=true then 14 else if y6g p=true then (if yd5 p=true then 2 else 0)else 6)else 8
theorem zkg{p k}(h):(yzm p).take (k+1)=(yzm p).take k++[p.attrs[k].name]:=by
 grind[List.take_add_one,yzm]
theorem zw2{p:yz1}{k:Nat}(h:k<p.rules.length):(zz7 p).take (k+1)=(zz7 p).take k++[p.rules[k].name]:=by
 rw[List.take_add_one];simp only[zz7,Qan,Qab h,Qbk,Option.toList_some]
theorem yop{α}{l:List α}{k}(h:k<=l.length):sub l 0 (k:Int)=some (l.take k):=by
 simp_all[sub]
theorem ywu(p)(r):(scope p r).length=3+p.attrs.length+r.params.length:=by simp[scope,yzm];omega
theorem ynp{p s}(h:s∈zz7 p):∃i:Nat,∃hi:i<p.rules.length,atI (zz7 p) s=(i:Int)∧p.rules[i].name=s∧yxv p s=(p.rules[i].params.length:Int):=by
 grind[y3u,zz7,yxv,Int.toNat_natCast]
theorem yr9{p:yz1}(hs:p.size<=4000000)(hf:zd1 p=true):Ev (λn=>zcf n p) (y6g p):=by
 have:=@y0t p;have:=@zl6 p;have ha:(yzm p).length=p.attrs.length:=by simp[yzm]
 have hr:(zz7 p).length=p.rules.length:=by simp[zz7]
 have l1:Ev (λn=>z25 n 0 (yzm p) p) (if p.rules.all (kR p)=true then true else false):=by
  refine zbv (L:=λn k=>z25 n k (yzm p) p) (by rw[zph,Ev.zz2 (by simp),Ev.yz0]) λk hk v hv =>?_
  have hm:=Qad hk;have:=zrh hm;have:=@y1a p.rules[k];have:=@zx9 p.rules[k];have hsc:=ywu p p.rules[k];have hcl:=zj3 p.rules[k]
  have l4:Ev (λn=>z22 n 0 ((yz9 p.rules[k]).map toG) (yzm p) (k:Int) p) (if ((yz9 p.rules[k]).all λc=>decide (c.1∈zz7 p))=true then v else false):=by
   refine zbv (L:=λn j=>z22 n j ((yz9 p.rules[k]).map toG) (yzm p) (k:Int) p) (by rw[zpf,Ev.zz2 (by simp),wrk (by omega)];exact hv) λj hj w hw =>?_
   have hj':j<((yz9 p.rules[k]).map toG).length:=by simpa using hj
   rw[zpf,Ev.kz1 (by simpa using hj),Ev.zz0 (zwi (by omega)),Ev.yz2 (zz5 hj'),List.getElem_map,Ev.zz0 (y4m (by omega))];show Ev (λn=>pIf (decide (atI (zz7 p) (yz9 p.rules[k])[j].1<0)) _ _) _;by_cases h:(yz9 p.rules[k])[j].1∈zz7 p;rw[Ev.zz2 (Qbl λq=>zye.1 q h),Qbm h,wrk (by omega)];exact hw;rw[Ev.kz1 (Qbm (zye.2 h)),Qbl h,Ev.yz0];rfl
  have l2:Ev (λn=>z2e n (scope p p.rules[k]) 0 (yzm p) (k:Int) p.rules[k] p) (if (p.rules[k].cases.all λc=>(zgw c).all (within (scope p p.rules[k])))=true then (if ((yz9 p.rules[k]).all λc=>decide (c.1∈zz7 p))=true then v else false)else false):=by
   refine zbv (L:=λn j=>z2e n (scope p p.rules[k]) j (yzm p) (k:Int) p.rules[k] p) (by rw[zo6,Ev.zz2 (by simp),Ev.zz0 (ybg (by omega) λc hc a ha=>yo6 (yrt hf _ hm c hc a ha))];exact l4) λj hj w hw =>?_
   have:=zud (Qad hj);have hel:=y1t p.rules[k].cases[j];rw[zo6,Ev.kz1 (by simpa using hj),Ev.yz2 (zz5 hj),zz6.kz3,Ev.zz0 (yrs (by omega))];refine zbv (L:=λn i=>z4t n i (scope p p.rules[k]) (zgw p.rules[k].cases[j]) (yzm p) (k:Int) (j:Int) p.rules[k] p) (by rw[zoa,Ev.zz2 (by simp),wrk (by omega)];exact hw) λi hi u hu =>?_
   have:=(yew (Qad hi)).1;rw[zoa,Ev.kz1 (by simpa using hi),Ev.yz2 (zz5 hi),zz1.kz3,Ev.zz0 (y3w (by omega) (by omega))];cases within (scope p p.rules[k]) (zgw p.rules[k].cases[j])[i];rw[Ev.kz1 (by rfl),Ev.yz0];rfl;rw[Ev.zz2 (by rfl),wrk (by omega)];exact hu
  rw[zph,Ev.kz1 (by simpa using hk),Ev.yz2 (zz5 hk),Ev.yz2 (z01 (by simp only[List.length_cons,Qbv];omega)),Ev.yz2 (z01 (by simp only[Qap,List.length_cons,Qbv];omega)),kR,ifA,zx6,List.all_flatMap];exact l2
 have l0:∀k,k<=p.attrs.length->Ev (λn=>z44 n (k:Int) (yzm p) p) (if kA ((yzm p).take k) (p.attrs.drop k)=true then p.rules.all (kR p)else false) :=
  down (by
   rw[zou,Ev.zz2 (by simp),List.drop_length,kA,Qbq rfl,<-ifB (p.rules.all (kR p))];exact l1) λk hk ih=>by
   have hm:=Qad hk;have:=ybh hm;have:=@yec p.attrs[k];rw[zou,Ev.kz1 (by simpa using hk),Ev.yz2 (zz5 hk),Ev.yz2 (yop (by omega)),zz1.kz3,Ev.zz0 (y3w (by omega) (by simp;omega)),<-Qah (h:=hk),kA,ifA];cases within ((yzm p).take k) p.attrs[k].value;rw[Ev.kz1 (by rfl),Ev.yz0];rfl;rw[Ev.zz2 (by rfl),wrk (by omega),Qbq rfl,<-zkg hk];exact ih
 have:=l0 0 (Qbo _);rw[ydt,Ev.zz0 (zve (by omega)),y6g];refine Ev.to this ?_;rw[List.drop_zero,List.take_zero];cases kA [] p.attrs <;> rfl
theorem y8b{p}(hw:p.wf)(hs:p.size<=4000000):Ev (λn=>z9x n p) (z3o p):=by
 have:=@zl6 p;have hr:(zz7 p).length=p.rules.length:=by simp[zz7]
 rw[yev,Ev.zz0 (yub (by omega)),z3o];cases zog p
 case true=>simp_all[Ev.kz1,Ev.yz0]
 rw[Ev.zz2 (by rfl),Ev.zz0 (ym9 hw (by omega)),Qbr (by simp)];cases hf:zd1 p
 case false=>simp_all[Ev.kz1,Ev.yz0]
 rw[Ev.zz2 (by rfl),Ev.zz0 (yfn hs),Qbq rfl];cases yur p
 case true=>simp_all[Ev.kz1,Ev.yz0]
 rw[Ev.zz2 (by rfl),Ev.zz0 (yr9 hs hf),Qbr (by simp)];cases hk:y6g p
 case false=>simp_all[Ev.kz1,Ev.yz0]
 have hkr:=Qat.1 (Bool.and_eq_true_iff.1 hk).2;refine zod (L:=λn k=>z3w n k p) (by rw[zpn,Ev.zz2 (by simp),Ev.yz0]) λk hk v hv =>?_
 have hm:=Qad hk;have:=zrh hm;have hcl:=zj3 p.rules[k];have hkc:=Qat.1 (Bool.and_eq_true_iff.1 (hkr _ hm)).2;rw[zpn,Ev.kz1 (by simpa using hk),Ev.yz2 (zz5 hk),Ev.zz0 (ybg (by omega) λc hc a ha=>yo6 (yrt hf _ hm c hc a ha))];refine zod (L:=λn j=>z4x n j ((yz9 p.rules[k]).map toG) (k:Int) p) (by rw[zpc,Ev.zz2 (by simp),wrk (by omega)];exact hv) λj hj w hw =>?_
 have hj':j<((yz9 p.rules[k]).map toG).length:=by simpa using hj
 have hc:=hkc _ (Qad hj);obtain⟨i,hi,h1,h2,h3⟩:=ynp (Qac hc);rw[zpc,Ev.kz1 (by simpa using hj),Ev.yz2 (zz5 hj'),Ev.zz0 (zwi (by omega)),Ev.yz2 (zz5 hj'),List.getElem_map,Ev.zz0 (y4m (by omega))];show Ev (λn=>(ix p.rules (atI (zz7 p) (yz9 p.rules[k])[j].1)).bind _) _;rw[h1,Ev.yz2 (zz5 hi),hc,h3,Bool.true_and,wrk (by omega)]
 show Ev (λn=>pIf ((yz9 p.rules[k])[j].2 != (p.rules[i].params.length:Int)) _ _) _;cases (yz9 p.rules[k])[j].2 != (p.rules[i].params.length:Int);rw[Ev.zz2 rfl];exact hw;rw[Ev.kz1 rfl,Ev.yz0];rfl
section
variable {T : Type}
theorem zrx(q)(m:List (B8×T))(k):z8a (q::m) k=if k=q.1 then some q.2 else z8a m k:=by
 unfold z8a;rw[List.find?_cons];by_cases h:k=q.1;simp[h];have:(k==q.1)=false:=by simpa using h
 rw[this,Qbr h]
theorem ywr(q)(m)(k)(x:T):zc5 (q::m) k x=if k=q.1 then (k,x)::m else q::zc5 m k x:=by
 unfold zc5;rw[List.findIdx?_cons];by_cases h:k=q.1;simp[h]
 grind
theorem ycq(m)(k k')(x:T):z8a (zc5 m k x) k'=if k'=k then some x else z8a m k':=by
 induction m with
 |nil=>show z8a [(k,x)] k'=_;rw[zrx]
 |cons q m ih=>
  rw[ywr];by_cases h:k=q.1
  simp_all[zrx]
  rw[Qbr h,zrx,ih,zrx];by_cases h2:k'=q.1;rw[Qbq h2,Qbq h2,Qbr (λz=>h (z.symm.trans h2))]
  grind
theorem yj8{m:List (B8×T)}{k}:z8a m k=none↔k∉mks m:=by
 induction m with
 |nil=>simp[z8a,mks]
 |cons q m ih=>
  rw[zrx];show _↔k∉q.1::mks m;by_cases h:k=q.1;simp[h]
  grind
end
theorem yv0{T}:∀{es:List (B8×T)}{i} (h) (s),s∈mks es↔s=es[i].1∨s∈mks (es.eraseIdx i)
 |[],_,h,_=>by cases h
 |q::es,0,_,s=>by show s∈q.1::mks es↔_;grind
 |q::es,i+1,h,s=>by
  show s∈q.1::mks es↔s=(es[i]'(by simpa using h)).1∨s∈q.1::mks (es.eraseIdx i);rw[Qbg,Qbg,yv0 (es:=es) (i:=i) (by simpa using h) s];exact or_left_comm
def TM(m:List (B8×Bool))(K:List B8):Prop:=∀k,z8a m k=if k∈K then some true else none
theorem TM.mk{m K}(h:TM m K):MK m K:=λk=>by
 rw[h k];grind
theorem TM.nil:TM [] []:=λk=>by simp[z8a]
theorem TM.put{m K}(h:TM m K)(s):TM (zc5 m s true) (K++[s]):=λk=>by
 rw[ycq,h k]
 grind
theorem TM.keys{m K}(h:TM m K)(s):s∈mks m↔s∈K:=by
 have:=h s;by_cases q:s∈K;rw[Qbq q]at this;exact⟨λ_=>q,λ_=>Classical.byContradiction λz=>by rw[yj8.2 z]at this;cases this⟩
 simp_all[yj8]
theorem MK.put{m K}(h:MK m K)(s):MK (zc5 m s true) (K++[s]):=λk=>by
 rw[ycq];by_cases q:k=s;simp[q];rw[Qbr q,h k];simp[q]
theorem MK.ext{m K J}(h:MK m K)(e:∀s,s∈K↔s∈J):MK m J:=λk=>by rw[h k];grind
def RM(m:List (B8×Int))(K:List B8):Prop:=∀k,z8a m k=if k∈K then some (atI K k)else none
theorem RM.nil:RM [] []:=λk=>by simp[z8a]
theorem z00g{K s}(h:s∉K)(k):atI (K++[s]) k=if k=s then (K.length:Int)else atI K k:=by
 induction K with
 |nil=>show atI [s] k=_;rw[zmd];by_cases q:s=k
       simp[q]
       simp_all[Ne.symm,atI]
 |cons x K ih=>
  have hx:x≠s:=λe=>h (by grind)
  have:=ih λz=>h (Qai _ z)
  rw[List.cons_append,zmd,zmd,this];by_cases q:k=s;subst q;rw[Qbr hx,Qbq rfl,Qbq rfl,Qbr (by omega)];simp
  grind
theorem RM.put{m K}(h:RM m K){s}(hs:s∉K):RM (zc5 m s (K.length:Int)) (K++[s]):=λk=>by
 rw[ycq,h k,z00g hs];by_cases q:k=s;simp[q];simp[q]
theorem Ev.pick{α R es}{f:Nat->B8->α->List (B8×α)->Option R}{g r}
  (h0:es=[]->Ev g r) (h1:∀i (h:i<es.length),Ev (λn=>f n es[i].1 es[i].2 (es.eraseIdx i)) r):Ev (λn=>y8h es (f n) (g n)) r:=by
 have hz:∃N,∀m,N<=m->(es=[]->g m=some r):=by
  by_cases he:es=[];obtain⟨N,hN⟩:=h0 he;exact⟨N,λm hm _=>hN m hm⟩
  simp_all
 have hb:∀k,k<=es.length->∃N,∀m,N<=m->∀i (h:i<es.length),i<k->f m es[i].1 es[i].2 (es.eraseIdx i)=some r:=λk=>by
  induction k with
  |zero=>simp_all
  |succ k ih=>
   intro hk;obtain⟨N,hN⟩:=ih (by omega);obtain⟨M,hM⟩:=h1 k (by omega);refine⟨max N M,λm hm i hi hik =>?_⟩;by_cases h:i=k
   grind
   grind
 obtain⟨N,hN⟩:=hz;obtain⟨M,hM⟩:=hb es.length (Qbp _);refine⟨max N M,λm hm=>z010 (hN m (by omega)) λi p hp =>?_⟩
 grind
theorem z02g{γ}{L:Nat->Int->Option γ}{len}{p:Nat->Bool}{got r b}(hb:b=true↔∃j,j<len∧p j=true)
  (he:Ev (λn=>L n (len:Int)) r)
  (hs:∀k (h:k<len) v,Ev (λn=>L n ((k+1:Nat):Int)) v->Ev (λn=>L n (k:Int)) (if p k=true then got else v)):Ev (λn=>L n 0) (if b=true then got else r):=by
 have:∀k,k<=len->∀b:Bool,(b=true↔∃j,k<=j∧j<len∧p j=true)->Ev (λn=>L n (k:Int)) (if b=true then got else r) :=
  down (λb hb=>by rw[Qbr λh=>by grind];exact he) λk hk ih b hb=>by
   cases h:p k with
   |true=>
    rw[Qbq (hb.2 ⟨k,Qbp _,hk,h⟩)];have:=hs k hk _ (ih (@decide _ (Classical.propDecidable _)) (@decide_eq_true_iff _ (Classical.propDecidable _)))
    grind
   |false=>
    have hb':b=true↔∃j,k+1<=j∧j<len∧p j=true:=by
     grind
    have:=hs k hk _ (ih b hb')
    grind
 have:=this 0 (Qbo _) b (by simp_all);simpa using this
noncomputable def yx7(p:yz1)(r:yz5)(k:Nat):Bool:=if h:k<r.params.length then decide (r.params[k]∈yzm p)||decide (atI r.params r.params[k]<(k:Int))else false
noncomputable def yw7(p:yz1)(r:yz5):Bool:=dup (r.params++yzm p)
theorem z00l{p r}(ha:(yzm p).Nodup):yw7 p r=true↔∃j,j<r.params.length∧yx7 p r j=true:=by
 unfold yw7;rw[yry,List.nodup_append];constructor;intro h;by_cases hp:r.params.Nodup;have:¬∀a∈r.params,∀b∈yzm p,a≠b:=λz=>h ⟨hp,ha,z⟩
 simp only[Classical.not_forall,Classical.not_not]at this;obtain⟨a,h1,b,h2,h3⟩:=this;obtain⟨j,hj,e⟩:=List.mem_iff_getElem.1 h1;refine⟨j,hj,?_⟩
 simp_all[yx7]
 obtain⟨k,hk,h⟩:=yuj.2 hp;refine⟨k,hk,?_⟩
 simp_all[yx7]
 rintro ⟨j,hj,h⟩ ⟨h1,_,h3⟩
 unfold yx7 at h;rw[dif_pos hj,Bool.or_eq_true]at h
 rcases h with h|h
 exact h3 _ (Qad hj) _ (Qac h) rfl;exact(yuj.1 ⟨j,hj,Qac h⟩) h1
theorem yeh{l:List B8}{k}(h:l.Nodup):(l.take k).Nodup:=h.sublist (List.take_sublist k l)
theorem ytz{p:yz1}(hw:p.wf)(hs:p.size<=4000000){m:List (B8×Bool)}{m2:List (B8×Int)}(hm:TM m (yzm p))(hm2:RM m2 (zz7 p))(u:Bool) :
  Ev (λn=>z2a n false 0 u (mks m) (mvs m) p.rules (p.rules.length:Int) p (mks m2) (mvs m2)) (if (u || !p.rules.all (kR p))=true then 6 else if yd5 p=true then 2 else 0):=by
 have:=@y0t p;have:=@zl6 p;have hr:(zz7 p).length=p.rules.length:=by simp[zz7]
 have main:∀k,k<=p.rules.length->∀w u:Bool,Ev (λn=>z2a n w (k:Int) u (mks m) (mvs m) p.rules (p.rules.length:Int) p (mks m2) (mvs m2)) (if (u || !(p.rules.drop k).all (kR p))=true then 6 else if (w||(p.rules.drop k).any (zkr p))=true then 2 else 0) :=
  down (λw u=>by
   rw[zo5,Ev.zz2 (by simp),List.drop_length,Ev.pif,Ev.pif,Ev.yz0,Ev.yz0,Ev.yz0]
   cases u <;> cases w <;> simp) λk hk ih w u=>by
   have hmem:=Qad hk;have:=zrh hmem;have hwr:=yr2 hw hmem;have:=@y1a p.rules[k];have hcl:=zj3 p.rules[k];have hxl:=yas p.rules[k]
   have l9:∀u:Bool,Ev (λn=>z4b n w u (mks m) (mvs m) p.rules (p.rules.length:Int) (k:Int) p (mks m2) (mvs m2) p.rules[k]) (if ((u || !(yz9 p.rules[k]).all λc=>decide (c.1∈zz7 p)) || !(p.rules.drop (k+1)).all (kR p))=true then 6 else if ((w||zkr p p.rules[k])||(p.rules.drop (k+1)).any (zkr p))=true then 2 else 0):=λu=>by
    have hT:((yz9 p.rules[k]).map toT).length=(yz9 p.rules[k]).length:=by simp
    rw[y5c,Ev.zz0 (y80 (by omega)),kz5,kz5]
    have loop:∀j,j<=(yz9 p.rules[k]).length->∀w u:Bool,Ev (λn=>z4m n (j:Int) w u ((yz9 p.rules[k]).map toT) (mks m) (mvs m) p.rules (p.rules.length:Int) (k:Int) (((yz9 p.rules[k]).map toT).length:Int) p (mks m2) (mvs m2)) (if ((u || !((yz9 p.rules[k]).drop j).all λc=>decide (c.1∈zz7 p)) || !(p.rules.drop (k+1)).all (kR p))=true then 6 else if ((w||((yz9 p.rules[k]).drop j).any λc=>decide (c.1∈zz7 p)&&(c.2 != yxv p c.1))||(p.rules.drop (k+1)).any (zkr p))=true then 2 else 0) :=
     down (λw u=>by
      rw[zo9,Ev.zz2 (by simp),wrk (by omega),kz5,kz5,List.drop_length]
      simpa using ih w u) λj hj ihj w u=>by
      have hj':j<((yz9 p.rules[k]).map toT).length:=by simpa using hj
      have l11:∀w u:Bool,Ev (λn=>z14 n w u ((yz9 p.rules[k]).map toT) (mks m) (mvs m) p.rules (p.rules.length:Int) (k:Int) (((yz9 p.rules[k]).map toT).length:Int) (j:Int) p (mks m2) (mvs m2)) _:=λw u=>by
       rw[y2e,wrk (by omega),kz5,kz5];exact ihj w u
      have hget:=hm2 (yz9 p.rules[k])[j].1
      have l10:∀u:Bool,Ev (λn=>z33 n u ((yz9 p.rules[k]).map toT) (mks m) (mvs m) p.rules (p.rules.length:Int) (k:Int) (((yz9 p.rules[k]).map toT).length:Int) (j:Int) (Option.getD (z8a m2 (yz9 p.rules[k])[j].1) 0) (Option.isSome (z8a m2 (yz9 p.rules[k])[j].1)) w p (mks m2) (mvs m2) (toT (yz9 p.rules[k])[j])) (if ((u || !((yz9 p.rules[k]).drop (j+1)).all λc=>decide (c.1∈zz7 p)) || !(p.rules.drop (k+1)).all (kR p))=true then 6 else if (((w||(decide ((yz9 p.rules[k])[j].1∈zz7 p)&&((yz9 p.rules[k])[j].2 != yxv p (yz9 p.rules[k])[j].1)))||((yz9 p.rules[k]).drop (j+1)).any λc=>decide (c.1∈zz7 p)&&(c.2 != yxv p c.1))||(p.rules.drop (k+1)).any (zkr p))=true then 2 else 0):=λu=>by
       rw[y20,kz5,kz5]
       cases w with
       |true=>rw[Ev.kz1 rfl,Bool.true_or];exact l11 true u
       |false=>
        rw[Ev.zz2 rfl,Bool.false_or];by_cases hin:(yz9 p.rules[k])[j].1∈zz7 p;obtain⟨i,hi,h1,h2,h3⟩:=ynp hin;rw[hget,Qbq hin,Qbm hin,Bool.true_and,h3,h1];show Ev (λn=>pIf true ((ix p.rules (i:Int)).bind _) _) _;rw[Ev.kz1 rfl,Ev.yz2 (zz5 hi)];exact l11 _ u;rw[hget,Qbr hin,Qbl hin,Bool.false_and];show Ev (λn=>pIf false _ _) _;rw[Ev.zz2 rfl];exact l11 false u
      rw[zo9,Ev.kz1 (by simpa using hj),Ev.yz2 (zz5 hj'),List.getElem_map,kz5,kz5,<-Qah (h:=hj),List.all_cons,List.any_cons]
      cases u with
      |true=>rw[Ev.kz1 rfl];exact(l10 true).to (by simp)
      |false=>
       rw[Ev.zz2 rfl]
       have e:Option.isSome (z8a m2 (toT (yz9 p.rules[k])[j]).name)=decide ((yz9 p.rules[k])[j].1∈zz7 p):=by
        show Option.isSome (z8a m2 (yz9 p.rules[k])[j].1)=_;rw[hget];by_cases q:(yz9 p.rules[k])[j].1∈zz7 p <;> simp[q]
       have:=l10 (!decide ((yz9 p.rules[k])[j].1∈zz7 p));have e2:Option.isSome (z8a m2 (yz9 p.rules[k])[j].1)=decide ((yz9 p.rules[k])[j].1∈zz7 p):=e;rw[e2]at this;rw[Bool.false_or,e];exact this.to (by rw[Bool.not_and,Bool.or_assoc w])
    have:=loop 0 (Qbo _) w u;rw[List.drop_zero]at this;exact this
   have l7:∀d,MK d ([[115,120],[115,121],[115,122]]++yzm p)->Ev (λn=>z2d n 0 p.rules[k].params w (mks m) (mvs m) p.rules (p.rules.length:Int) (k:Int) u (p.rules[k].params.length:Int) p (mks m2) (mvs m2) p.rules[k] (mks d) (mvs d)) (if ((u || !kR p p.rules[k]) || !(p.rules.drop (k+1)).all (kR p))=true then 6 else if ((w||zkr p p.rules[k])||(p.rules.drop (k+1)).any (zkr p))=true then 2 else 0):=λd hd=>by
    have loop:∀j,j<=p.rules[k].params.length->∀d,MK d (([[115,120],[115,121],[115,122]]++yzm p)++p.rules[k].params.take j)->Ev (λn=>z2d n (j:Int) p.rules[k].params w (mks m) (mvs m) p.rules (p.rules.length:Int) (k:Int) u (p.rules[k].params.length:Int) p (mks m2) (mvs m2) p.rules[k] (mks d) (mvs d)) (if ((u || !kR p p.rules[k]) || !(p.rules.drop (k+1)).all (kR p))=true then 6 else if ((w||zkr p p.rules[k])||(p.rules.drop (k+1)).any (zkr p))=true then 2 else 0) :=
     down (λd hd=>by
      rw[List.take_length]at hd;rw[zpj,Ev.zz2 (by simp),kz5,kz5,kz5]
      cases u with
      |true=>rw[Ev.kz1 rfl];have:=l9 true;simpa using this
      |false=>
       rw[Ev.zz2 rfl,Ev.zz0 (ypd (by omega)),Ev.zz0 (yeg (K:=scope p p.rules[k]) hd (λe he=>(yds he).2 hwr) (λe he=>by have:=(yds he).1;omega) (by omega))];have:=l9 (!(zx6 p.rules[k]).all (within (scope p p.rules[k])));rw[<-Bool.not_and]at this;rw[Bool.false_or,kR]
       exact this) λj hj ihj d hd=>by
      rw[zpj,Ev.kz1 (by simpa using hj),Ev.yz2 (zz5 hj),wrk (by omega),kz5,kz5,kz5];refine ihj _ ((hd.put p.rules[k].params[j]).ext λs =>?_);rw[Qay,z2m hj]
    exact loop 0 (Qbo _) d (by simpa using hd)
   have l6:∀len,∀es:List (B8×Bool),es.length=len->∀d D,MK d D->(∀s,(s∈D∨s∈mks es)↔s∈[[115,120],[115,121],[115,122]]++yzm p)->Ev (λn=>z4y n w (mks m) (mvs m) p.rules (p.rules.length:Int) (k:Int) u (mks es) (mvs es) p (mks m2) (mvs m2) p.rules[k] (mks d) (mvs d)) (if ((u || !kR p p.rules[k]) || !(p.rules.drop (k+1)).all (kR p))=true then 6 else if ((w||zkr p p.rules[k])||(p.rules.drop (k+1)).any (zkr p))=true then 2 else 0):=λlen=>by
    induction len with
    |zero=>
     intro es he d D hd hD;have he:=List.length_eq_zero_iff.1 he;subst he;rw[zpr];refine Ev.pick (λ_ =>?_) λi hi=>by cases hi
     rw[kz5,kz5,kz5]
     exact l7 d (hd.ext λs=>by rw[<-hD s];simp[mks])
    |succ len ihl=>
     intro es he d D hd hD;rw[zpr,kz5,kz5,kz5,kz5];refine Ev.pick (λh=>by rw[h]at he;cases he) λi hi =>?_
     refine ihl (es.eraseIdx i) (by rw[List.length_eraseIdx_of_lt hi];omega) _ _ (hd.put es[i].1) λs =>?_
     rw[<-hD s,List.mem_append,Qaz];rw[yv0 hi s,or_assoc]
   rw[zo5,Ev.kz1 (by simpa using hk),Ev.yz2 (zz5 hk),kz5,kz5,<-Qah (h:=hk),List.all_cons,List.any_cons,Bool.not_and,<-Bool.or_assoc,<-Bool.or_assoc];refine l6 m.length m rfl _ [[115,120],[115,121],[115,122]] ?_ λs =>?_
   have h0:MK [] []:=λk=>by simp[z8a]
   exact((h0.put _).put _).put _;rw[hm.keys,List.mem_append]
 have:=main 0 (Qbo _) false u;rw[List.drop_zero,Bool.false_or]at this;exact this
theorem zvz{p:yz1}(hw:p.wf)(hs:p.size<=4000000):Ev (λn=>z54 n p) (z3o p):=by
 have:=@y0t p;have:=@zl6 p;have hal:(yzm p).length=p.attrs.length:=by simp[yzm]
 have hrl:(zz7 p).length=p.rules.length:=by simp[zz7]
 have l2:∀(m:List (B8×Bool)) (u:Bool),TM m (yzm p)->(yzm p).Nodup->∀k,k<=p.rules.length->∀m2,RM m2 ((zz7 p).take k)->((zz7 p).take k).Nodup->Ev (λn=>z4q n (k:Int) p.rules u (p.rules.length:Int) (mks m) (mvs m) (mks m2) (mvs m2) p) (if (dup (zz7 p)||(p.rules.drop k).any (yw7 p))=true then 14 else if (u || !p.rules.all (kR p))=true then 6 else if yd5 p=true then 2 else 0):=λm u hm hn=>
  down (λm2 hm2 hn2=>by
   rw[<-hrl,List.take_length]at hm2 hn2;rw[zps,Ev.zz2 (by simp),kz5,kz5,List.drop_length,z02s.2 hn2]
   exact ytz hw hs hm hm2 u) λk hk ih m2 hm2 hn2=>by
   have hmem:=Qad hk;have:=zrh hmem;have:=@y1a p.rules[k];have hget:=hm2 p.rules[k].name;rw[zps,Ev.kz1 (by simpa using hk),Ev.yz2 (zz5 hk),kz5,kz5];by_cases hin:p.rules[k].name∈(zz7 p).take k;rw[hget,Qbq hin,Ev.kz1 (by rfl),Ev.yz0]
   have:dup (zz7 p)=true:=by
    rw[yry];intro hd;have h:=yeh (k:=k+1) hd;rw[zw2 hk,List.nodup_append]at h;exact h.2.2 _ hin _ (Qaz.2 rfl) rfl
   rw[this];rfl;rw[hget,Qbr hin,Ev.zz2 (by rfl)];have hlen:((zz7 p).take k).length=k:=by rw[List.length_take];omega
   have hput:=hm2.put hin;rw[hlen,<-zw2 hk]at hput
   have hnn:((zz7 p).take (k+1)).Nodup:=by
    rw[zw2 hk,List.nodup_append];exact⟨hn2,by simp,λa ha b hb e=>hin (by rw[<-Qaz.1 hb,<-e];exact ha)⟩
   have hv:=ih _ hput hnn
   have l3:=z02g (L:=λn j=>z4u n j p.rules[k].params p.rules u (p.rules.length:Int) (k:Int) (p.rules[k].params.length:Int) p.rules[k] (mks m) (mvs m) (mks (zc5 m2 p.rules[k].name (k:Int))) (mvs (zc5 m2 p.rules[k].name (k:Int))) p) (len:=p.rules[k].params.length) (p:=yx7 p p.rules[k]) (got:=14) (z00l (r:=p.rules[k]) hn) (by
    rw[zop,Ev.zz2 (by simp),wrk (by omega),kz5,kz5];exact hv) λj hj w hw'=>by
    have l4:∀b:Bool,Ev (λn=>z4d n p.rules[k].params p.rules u (p.rules.length:Int) (k:Int) (p.rules[k].params.length:Int) (j:Int) b p.rules[k] (mks m) (mvs m) (mks (zc5 m2 p.rules[k].name (k:Int))) (mvs (zc5 m2 p.rules[k].name (k:Int))) p) (if b=true then 14 else w):=λb=>by
     cases b;rw[zoy,Ev.zz2 (by rfl),wrk (by omega),kz5,kz5];exact hw';rw[zoy,Ev.kz1 (by rfl),Ev.yz0];rfl
    rw[zop,Ev.kz1 (by simpa using hj),Ev.yz2 (zz5 hj),kz5,kz5,hm.mk,yx7,dif_pos hj];by_cases h:p.rules[k].params[j]∈yzm p;rw[Qbm h,Ev.kz1 rfl];exact l4 true;rw[Qbl h,Ev.zz2 rfl,Ev.zz0 (ywj (by omega))];exact l4 _
   refine l3.to ?_;rw[<-Qah (h:=hk),List.any_cons];cases yw7 p p.rules[k] <;> cases dup (zz7 p) <;> rfl
 have l0:∀k,k<=p.attrs.length->∀(u:Bool) (m:List (B8×Bool)),TM m ((yzm p).take k)->((yzm p).take k).Nodup->Ev (λn=>z42 n (k:Int) u p.attrs (p.attrs.length:Int) (mks m) (mvs m) (mks ([]:List (B8×Int))) (mvs ([]:List (B8×Int))) p) (if dup (yzm p)=true then 14 else if (dup (zz7 p)||p.rules.any (yw7 p))=true then 14 else if ((u || !kA ((yzm p).take k) (p.attrs.drop k)) || !p.rules.all (kR p))=true then 6 else if yd5 p=true then 2 else 0) :=
  down (λu m hm hn=>by
   rw[<-hal,List.take_length]at hm hn;rw[zok,Ev.zz2 (by simp),kz5,kz5,List.drop_length,z02s.2 hn,kA,Qbr (by simp)];have:=l2 m u hm hn 0 (Qbo _) [] (by rw[List.take_zero];exact RM.nil) (by rw[List.take_zero];exact List.nodup_nil);rw[List.drop_zero]at this
   simpa using this) λk hk ih u m hm hn=>by
   have hmem:=Qad hk;have:=ybh hmem;have:=@yec p.attrs[k]
   have l1:∀u:Bool,Ev (λn=>z3x n u p.attrs (p.attrs.length:Int) (k:Int) (mks m) (mvs m) (mks ([]:List (B8×Int))) (mvs ([]:List (B8×Int))) p p.attrs[k]) (if dup (yzm p)=true then 14 else if (dup (zz7 p)||p.rules.any (yw7 p))=true then 14 else if ((u || !kA ((yzm p).take (k+1)) (p.attrs.drop (k+1))) || !p.rules.all (kR p))=true then 6 else if yd5 p=true then 2 else 0):=λu=>by
    rw[y3f,kz5,kz5,hm p.attrs[k].name];by_cases hin:p.attrs[k].name∈(yzm p).take k;rw[Qbq hin];show Ev (λn=>pIf true _ _) _;rw[Ev.kz1 rfl,Ev.yz0]
    have:dup (yzm p)=true:=by
     rw[yry];intro hd;have h:=yeh (k:=k+1) hd;rw[zkg hk,List.nodup_append]at h;exact h.2.2 _ hin _ (Qaz.2 rfl) rfl
    rw[this];rfl;rw[Qbr hin];show Ev (λn=>pIf false _ _) _;rw[Ev.zz2 rfl,wrk (by omega)];refine ih u _ ?_ ?_;rw[zkg hk];exact hm.put _;rw[zkg hk,List.nodup_append];exact⟨hn,by simp,λa ha b hb e=>hin (by rw[<-Qaz.1 hb,<-e];exact ha)⟩
   rw[zok,Ev.kz1 (by simpa using hk),Ev.yz2 (zz5 hk),kz5,kz5,zzi.kz3,zz1.kz3,<-Qah (h:=hk),kA,<-zkg hk]
   cases u with
   |true=>rw[Ev.kz1 rfl];exact(l1 true).to (by simp)
   |false=>
    rw[Ev.zz2 rfl,Ev.zz0 (ycc hm.mk (yyx hw hmem) (by omega)),kz5];exact(l1 _).to (by rw[Bool.false_or,Bool.not_and])
 have h0:=l0 0 (Qbo _) false [] (by rw[List.take_zero];exact TM.nil) (by rw[List.take_zero];exact List.nodup_nil);rw[ycr,Ev.zz0 (ysz (by omega)),z3o];cases zog p
 case true=>rw[Ev.kz1 (by rfl),Ev.yz0];rfl
 rw[Ev.zz2 (by rfl),Ev.zz0 (ymx hw (by omega)),Qbr (by simp)];cases zd1 p
 case false=>rw[Ev.kz1 (by rfl),Ev.yz0];rfl
 rw[Ev.zz2 (by rfl),Qbq rfl];refine Ev.to h0 ?_;rw[List.take_zero,List.drop_zero,yur,y6g];show(if dup (yzm p)=true then _ else if (dup (zz7 p)||p.rules.any λr=>dup (r.params++yzm p))=true then _ else _)=_;cases dup (yzm p) <;> cases (dup (zz7 p)||p.rules.any λr=>dup (r.params++yzm p)) <;> cases kA [] p.attrs <;> cases p.rules.all (kR p) <;> rfl
theorem ynb{l}(h:zi1 l):l.Nodup:=by
 refine List.Pairwise.imp (λ{a b} hab e =>?_) h;subst e;rw[zrw]at hab;cases hab
theorem z01l{α σ:Type}{L:Nat->Int->Option (Int×σ)}{xs:List α}{f s st}(he:Ev (λn=>L n (xs.length:Int)) (-1,st))
  (hs:∀k (h:k<xs.length) v,(f xs[k]=s->Ev (λn=>L n (k:Int)) ((k:Int),st))∧(f xs[k]≠s->Ev (λn=>L n ((k+1:Nat):Int)) v->Ev (λn=>L n (k:Int)) v)):Ev (λn=>L n 0) (atI (xs.map f) s,st):=by
 have:∀k,k<=xs.length->Ev (λn=>L n (k:Int)) (if atI ((xs.drop k).map f) s = -1 then -1 else atI ((xs.drop k).map f) s+k,st) :=
  down (by rw[List.drop_length];exact he) λk hk ih=>by
   obtain⟨h1,h2⟩:=hs k hk (if atI ((xs.drop (k+1)).map f) s = -1 then -1 else atI ((xs.drop (k+1)).map f) s+((k+1:Nat):Int),st);rw[<-Qah (h:=hk),List.map_cons,zmd];by_cases q:f xs[k]=s
   grind
   rw[Qbr q];refine(h2 q ih).to ?_;have h0:=@z011 ((xs.drop (k+1)).map f) s;by_cases z:atI ((xs.drop (k+1)).map f) s = -1
   grind
   rw[Qbr z,Qbr z,Qbr (by omega)]
   grind
 grind
theorem yqi{p s}(hs:p.size<=4000000):Ev (λn=>zcm n p s) (atI (zz7 p) s):=by
 have:=@zl6 p
 have h:Ev (λn=>kzf n p.rules s) (atI (zz7 p) s,s):=by
  rw[zfa];refine z01l (L:=λn k=>kz8 n k p.rules (p.rules.length:Int) s) (xs:=p.rules) (f:=(·.name)) (by rw[z0m,Ev.zz2 (by simp),Ev.yz0]) λk hk v =>?_
  have hf:Ev (λn=>zdv n p.rules[k] s) (p.rules[k].name==s,s):=by rw[yfj,Ev.yz0]
  constructor;intro q;rw[z0m,Ev.kz1 (by simpa using hk),Ev.yz2 (zz5 hk),Ev.zz0 hf,Ev.kz1 (by simpa using q),Ev.yz0];intro q hv;rw[z0m,Ev.kz1 (by simpa using hk),Ev.yz2 (zz5 hk),Ev.zz0 hf,Ev.zz2 (by simpa using q),wrk (by omega)];exact hv
 rw[yro,Ev.zz0 h,Ev.yz0]
def zhp(r:yz5):List B8:=(yz9 r).map (·.1)
def nx(p:yz1)(s:B8):List B8:=match p.rules[(atI (zz7 p) s).toNat]? with
 |some r=>zhp r
 |none=>[]
theorem zwg{p}(h:z3o p=0):zd1 p=true∧(zz7 p).Nodup∧(∀r∈p.rules,∀c∈zhp r,c∈zz7 p):=by
 unfold z3o at h;by_cases h1:zog p=true
 grind
 by_cases h2:zd1 p=true
 case neg=>grind
 by_cases h3:yur p=true
 grind
 by_cases h4:y6g p=true
 case neg=>grind
 refine⟨h2,?_,λr hr c hc =>?_⟩
 simp_all[yur,z02s]
 have h5:=Qat.1 (Bool.and_eq_true_iff.1 h4).2 r hr;obtain⟨q,hq,rfl⟩:=Qbc.1 hc;exact Qac (Qat.1 (Bool.and_eq_true_iff.1 h5).2 q hq)
theorem yvg{p}(hn:(zz7 p).Nodup){r}(hr:r∈p.rules):nx p r.name=zhp r:=by
 obtain⟨j,hj,e⟩:=List.mem_iff_getElem.1 hr;have hj':j<(zz7 p).length:=by simpa[zz7]using hj
 have hx:(zz7 p)[j]=r.name:=by simp[zz7,e]
 grind[y3u,Qad,List.getElem_inj,nx]
inductive Rch (p:yz1) (root:B8):B8->Prop
 |refl:Rch p root root
 |step {x y:B8}:Rch p root x->y∈nx p x->Rch p root y
theorem zwp{p root}(hc:∀r∈p.rules,∀c∈zhp r,c∈zz7 p)(hr:root∈zz7 p){x}(h:Rch p root x):x∈zz7 p:=by
 induction h with
 |refl=>exact hr
 |step _ hy _=>
  grind[nx]
theorem yv9{p root}{l:List B8}(h0:root∈l)(hc:∀x∈l,∀y∈nx p x,y∈l){x}(h:Rch p root x):x∈l:=by
 induction h with
 |refl=>exact h0
 |step _ hy ih=>exact hc _ ih _ hy
theorem y5d{l m:List B8}(hn:l.Nodup)(h:∀x∈l,x∈m):l.length<=m.length:=hn.length_le_of_subset h
theorem nx_at{p s}{i:Nat}(hi)(h:atI (zz7 p) s=(i:Int)):nx p s=zhp p.rules[i]:=by
 grind[nx]
theorem yvt{l}(h:l.length<=8000000):Ev (λn=>kze n l) (z4c l):=Ev.pure (by show(if l.length<4611686018427387904 then _ else _)=_;rw[Qbq (by omega),yco])
def Set(p:yz1)(root:B8)(r:List B8×Int):Prop:=r.2=0∧zi1 r.1∧∀x,x∈r.1↔Rch p root x
theorem z03l{p root a b}(ha:Set p root a)(hb:Set p root b):a=b:=by
 obtain⟨a1,a2⟩:=a;obtain⟨b1,b2⟩:=b;have h1:a1=b1:=zqa ha.2.1 hb.2.1 λx=>by rw[ha.2.2,hb.2.2]
 have h2:a2=b2:=by have:=ha.1;have:=hb.1;simp at *;omega
 rw[h1,h2]
theorem yqs{p:yz1}{root:B8}(hw:p.wf)(hs:p.size<=4000000):∃r,Ev (λn=>z2i n p root) r∧(if z3o p≠0 then r=([],z3o p)else if root∈zz7 p then Set p root r else r=([],6)):=by
 have hpl:=@zl6 p;have hrl:(zz7 p).length=p.rules.length:=by simp[zz7]
 simp only[ydh,Ev.zz0 (zvz hw hs)];by_cases hc:z3o p=0
 case neg=>exact⟨([],z3o p),by rw[Ev.kz1 (by simpa using hc),Ev.yz0],by rw[Qbq hc]⟩
 obtain⟨hf,hnd,hcn⟩:=zwg hc;simp only[Qbr (show ¬z3o p≠0 by simp[hc]),Ev.zz2 (show(z3o p != 0)=false by simpa using hc),Ev.zz0 (yqi hs)];by_cases hin:root∈zz7 p
 case neg=>exact⟨([],6),by rw[Ev.kz1 (Qbm (zye.2 hin)),Ev.yz0],by rw[Qbr hin]⟩
 simp only[Qbq hin,Ev.zz2 (show decide (atI (zz7 p) root<0)=false from Qbl λq=>zye.1 q hin)]
 have main:∀d i (out:List B8) m,(zz7 p).length-i=d->i<=out.length->out.Nodup->TM m out->root∈out->(∀x∈out,Rch p root x)->(∀j x,j<i->out[j]? = some x->∀y∈nx p x,y∈out)->∃r,Ev (λn=>z4k n (i:Int) out (mks m) (mvs m) p) r∧Set p root r:=λd=>by
  induction d with
  |zero=>
   intro i out m hd hi hn hm h0 hr hcl;have hsub:=y5d hn λx hx=>zwp hcn hin (hr x hx)
   have hil:i=out.length:=by omega
   refine⟨(z4c out,0),?_,rfl,zth hn,λx =>?_⟩;rw[zhs,Ev.zz2 (by simp;omega),Ev.zz0 (yvt (by omega)),Ev.yz0];rw[(zgv out).mem_iff];refine⟨hr x,yv9 h0 λx hx y hy =>?_⟩;obtain⟨j,hj,e⟩:=List.mem_iff_getElem.1 hx
   exact hcl j x (by omega) (by rw[Qab hj,e]) y hy
  |succ d ih=>
   intro i out m hd hi hn hm h0 hr hcl;have hsub:=y5d hn λx hx=>zwp hcn hin (hr x hx)
   by_cases hil:i=out.length;refine⟨(z4c out,0),?_,rfl,zth hn,λx =>?_⟩;rw[zhs,Ev.zz2 (by simp;omega),Ev.zz0 (yvt (by omega)),Ev.yz0];rw[(zgv out).mem_iff];refine⟨hr x,yv9 h0 λx hx y hy =>?_⟩;obtain⟨j,hj,e⟩:=List.mem_iff_getElem.1 hx;exact hcl j x (by omega) (by rw[Qab hj,e]) y hy;have hlt:i<out.length:=by omega
   have hrx:=hr _ (Qad hlt);obtain⟨a,ha,h1,h2,h3⟩:=ynp (zwp hcn hin hrx);have:=zrh (Qad ha);have hca:=zj3 p.rules[a];have hnx:=nx_at ha h1;have hml:((yz9 p.rules[a]).map toT).length=(yz9 p.rules[a]).length:=by simp
   have inner:∀j,j<=(yz9 p.rules[a]).length->∀(o:List B8) m,o.Nodup->TM m o->out <+: o->(∀x∈o,Rch p root x)->(∀y∈(zhp p.rules[a]).take j,y∈o)->∃r,Ev (λn=>z4e n (j:Int) ((yz9 p.rules[a]).map toT) (i:Int) (((yz9 p.rules[a]).map toT).length:Int) o (mks m) (mvs m) p) r∧Set p root r :=
    down (λo m hn hm hpre hr hall=>by
     have hsub':=y5d hn λx hx=>zwp hcn hin (hr x hx)
     have hol:=hpre.length_le;have e:(zhp p.rules[a]).length=(yz9 p.rules[a]).length:=by simp[zhp]
     rw[<-e,List.take_length]at hall
     obtain⟨r,hr1,hr2⟩:=ih (i+1) o m (by omega) (by omega) hn hm (hpre.subset h0) hr λj x hj hx y hy=>by
      obtain⟨t,rfl⟩:=hpre;rw[Qal (by omega)]at hx;by_cases q:j<i;exact List.mem_append_left _ (hcl j x q hx y hy);have:j=i:=by omega
      subst this;rw[Qab hlt]at hx;injection hx with hx;rw[<-hx,hnx]at hy;exact hall y hy
     exact⟨r,by rw[zie,Ev.zz2 (by simp),wrk (by omega),kz5];exact hr1,hr2⟩) λj hj ihj o m hn hm hpre hr hall=>by
     have hsub':=y5d hn λx hx=>zwp hcn hin (hr x hx)
     have hj':j<((yz9 p.rules[a]).map toT).length:=by simpa using hj
     have hjc:j<(zhp p.rules[a]).length:=by simpa[zhp]using hj
     have hcj:(zhp p.rules[a])[j]=(yz9 p.rules[a])[j].1:=by simp[zhp]
     have htk:(zhp p.rules[a]).take (j+1)=(zhp p.rules[a]).take j++[(yz9 p.rules[a])[j].1]:=by rw[<-hcj,z2m hjc]
     have hmj:=hm.mk (yz9 p.rules[a])[j].1;by_cases q:(yz9 p.rules[a])[j].1∈o
     obtain⟨r,hr1,hr2⟩:=ihj o m hn hm hpre hr λy hy=>by
      rw[htk,List.mem_append,Qaz]at hy
      rcases hy with hy|hy
      exact hall y hy;rw[hy];exact q
     refine⟨r,?_,hr2⟩;rw[zie,Ev.kz1 (by simpa using hj),Ev.yz2 (zz5 hj'),List.getElem_map,kz5];show Ev (λn=>pIf (!Option.getD (z8a m (yz9 p.rules[a])[j].1) false) _ _) _;rw[hmj,Qbm q,Ev.zz2 (by rfl),zpe,wrk (by omega),kz5];exact hr1;have hrc:Rch p root (yz9 p.rules[a])[j].1:=.step hrx (by rw[hnx,<-hcj];exact Qad hjc)
     obtain⟨r,hr1,hr2⟩:=ihj (o++[(yz9 p.rules[a])[j].1]) _ (by
      rw[List.nodup_append]
      exact⟨hn,by simp,λx hx y hy e=>q (by rw[<-Qaz.1 hy,<-e];exact hx)⟩) (hm.put _) (hpre.trans (List.prefix_append _ _)) (λx hx=>by
      rcases List.mem_append.1 hx with hx|hx
      exact hr x hx
      rw[Qaz.1 hx];exact hrc) λy hy=>by
      rw[htk,List.mem_append]at hy
      rcases hy with hy|hy
      exact List.mem_append_left _ (hall y hy);exact List.mem_append_right _ hy
     refine⟨r,?_,hr2⟩;rw[zie,Ev.kz1 (by simpa using hj),Ev.yz2 (zz5 hj'),List.getElem_map,kz5];show Ev (λn=>pIf (!Option.getD (z8a m (yz9 p.rules[a])[j].1) false) ((ext o [(yz9 p.rules[a])[j].1]).bind _) _) _;rw[hmj,Qbl q,Ev.kz1 (by rfl),Ev.yz2 (z01 (by simp only[List.length_cons,Qbv];omega)),zpe,wrk (by omega),kz5];exact hr1
   obtain⟨r,hr1,hr2⟩:=inner 0 (Qbo _) out m hn hm (List.prefix_refl _) hr (by simp);refine⟨r,?_,hr2⟩;rw[zhs,Ev.kz1 (by simpa using hlt),Ev.yz2 (zz5 hlt),Ev.zz0 (yqi hs),h1,Ev.yz2 (zz5 ha),Ev.zz0 (y80 (by omega)),kz5];exact hr1
 exact main _ 0 [root] _ rfl (Qbo _) (by simp) (TM.nil.put root) (by simp) (λx hx=>by rw[Qaz.1 hx];exact .refl) λj x hj=>by omega
theorem z027{a}(hl:a.length<=8000000):Ev (λn=>yzr n a a) true:=by
 rw[zwz,Ev.zz2 (z05l rfl)]
 have:=z063 (L:=λn k=>yzw n k a a) (xs:=a) (ys:=a) (fail:=false) (r:=true) rfl (by rw[zh5,Ev.zz2 (by simp),Ev.yz0]) λk hk _ v hv=>by
  rw[yad,Qbq rfl,zh5,Ev.kz1 (by simpa using hk),Ev.yz2 (zz5 hk),Ev.yz2 (zz5 hk),Ev.zz2 (by simp),wrk (by omega)];exact hv
 simp_all
theorem z01v{p}(hw:p.wf)(hs:p.size<=4000000):∃b,Ev (λn=>z2g n p) b∧(b=true->z3o p=0):=by
 obtain⟨g,hg⟩:=z054 (p:=p) (by omega)
 cases g with
 |true=>exact⟨false,by rw[ziw,Ev.zz0 hg,Ev.zz2 (c := !true) rfl,Ev.yz0],λh=>by cases h⟩
 |false=>exact⟨z3o p==0,by rw[ziw,Ev.zz0 hg,Ev.kz1 (c := !false) rfl,Ev.zz0 (y8b hw hs),Ev.yz0],λh=>by simpa using h⟩
theorem z03n{p}(h:z3o p=0):p.rules.length<=40:=by
 unfold z3o at h;split at h;cases h
 simp_all[zog]
theorem yo3{p root}(hw:p.wf)(hs:p.size<=4000000)(hc:z3o p=0)(hr:root∈zz7 p):∃r,Ev (λn=>z2i n p root) r∧Set p root r:=by
 obtain⟨r,h1,h2⟩:=yqs (root:=root) hw hs
 grind
theorem Rch.trans{p a b c}(h:Rch p a b)(k:Rch p b c):Rch p a c:=by
 induction k with
 |refl=>exact h
 |step _ hy ih=>exact .step ih hy
theorem yaq{p root r}(hc:z3o p=0)(hr:root∈zz7 p)(h:Set p root r):r.1.length<=40∧∀x∈r.1,x∈zz7 p:=by
 obtain⟨h1,h2,h3⟩:=zwg hc;have hin:=λx hx=>zwp h3 hr ((h.2.2 x).1 hx)
 have:=y5d (ynb h.2.1) hin
 grind[z03n,zz7]
theorem z021{p q}(hp:(zz7 p).Nodup)(hq:(zz7 q).Nodup)(h:∀r∈p.rules,r∈q.rules){s}(hs:s∈zz7 p):nx q s=nx p s:=by
 obtain⟨r,hr,rfl⟩:=Qbc.1 hs;rw[yvg hp hr,yvg hq (h r hr)]
theorem z04r{p q}(hp:z3o p=0)(hq:z3o q=0)(h:∀r∈p.rules,r∈q.rules){root}(hr:root∈zz7 p){x}:Rch p root x↔Rch q root x:=by
 obtain⟨_,p2,p3⟩:=zwg hp;obtain⟨_,q2,q3⟩:=zwg hq;constructor;intro k
 induction k with
 |refl=>exact .refl
 |step hx hy ih=>exact .step ih (by grind[z021,zwp])
 intro k
 induction k with
 |refl=>exact .refl
 |step hx hy ih=>exact .step ih (by grind[z021,zwp])
theorem ywx{p q}(hp:z3o p=0)(hq:z3o q=0)(h:∀r∈p.rules,r∈q.rules){root}(hr:root∈zz7 p){a b}(ha:Set p root a)(hb:Set q root b):a=b :=
 z03l ha ⟨hb.1,hb.2.1,λx=>(hb.2.2 x).trans (z04r hp hq h hr).symm⟩
theorem yor(e):zz1.mk e.op (kz0.mk e.value.kind (yz4.mk e.value.num.num e.value.num.den) e.value.truth e.value.str e.value.list) e.name e.args=e:=by
 cases e with|mk o v n a=>cases v;rfl
theorem yu1:∀v:kz0,v.size<=8388608->Ev (λn=>zbd n v) v:=ya9 λv ih hs=>by
 have hsl:=zab v;have hlen:=zho v.list
 have loop:∀k,k<=v.list.length->∀b1 b2 b3 b4 b5 b7,Ev (λn=>z6s n (k:Int) v.kind v.num.num v.num.den v.truth v.str v b1 b2 b3 b4 b5 (v.list.take k) b7) v :=
  down (λb1 b2 b3 b4 b5 b7=>by
   rw[zsf,Ev.zz2 (by simp),List.take_length,Ev.yz0];exact kz0.kz3 v) λk hk ihk b1 b2 b3 b4 b5 b7=>by
   have hx:=Qad hk;have hsx:=zlu hx;rw[zsf,Ev.kz1 (by simpa using hk),Ev.yz2 (zz5 hk),kz0.kz3,Ev.zz0 (ih _ hx (by omega)),kz0.kz3,Ev.yz2 (z01 (by grind)),wrk (by omega),kz0.kz3,z2m hk];exact ihk _ _ _ _ _ _
 rw[yih,kz0.kz3];exact loop 0 (Qbo _) _ _ _ _ _ _
theorem y1x:∀e:zz1,e.size<=8388608->Ev (λn=>z7f n e) e:=zvv λe ih hs=>by
 have hsl:=z9r e;have hlen:=zcb e.args
 have loop:∀k,k<=e.args.length->∀b1 b2 b3 b4 b5 b6 b7 b8 b9,Ev (λn=>z74 n (k:Int) e.op e.value.kind e.value.num.num e.value.num.den e.value.truth e.value.str e.value.list e.name e b1 b2 b3 b4 b5 b6 b7 b8 (e.args.take k) b9) e :=
  down (λb1 b2 b3 b4 b5 b6 b7 b8 b9=>by
   simp_all[zri,Ev.zz2,yor,Ev.yz0]) λk hk ihk b1 b2 b3 b4 b5 b6 b7 b8 b9=>by
   have hx:=Qad hk;have hsx:=zjv hx;rw[zri,Ev.kz1 (by simpa using hk),Ev.yz2 (zz5 hk),zz1.kz3,Ev.zz0 (ih _ hx (by omega)),zz1.kz3,Ev.yz2 (z01 (by grind)),wrk (by omega),zz1.kz3,z2m hk];exact ihk _ _ _ _ _ _ _ _ _
 rw[yfo,kz0.kz3,Ev.zz0 (yu1 e.value (by omega)),zz1.kz3];exact loop 0 (Qbo _) _ _ _ _ _ _ _ _ _
theorem zuj{l}(hs:(l.map zz1.size).sum<=8000000):Ev (λn=>z2z n l) l:=by
 have e1:Ev (λn=>z1m n l) (z23 l):=by rw[zqr,Ev.yz0];rfl
 rw[y2k,Ev.zz0 e1,zz1.kz3,Ev.zz0 (y1x _ (by rw[zex];omega)),Ev.yz0];rfl
theorem yvo{α}(l)(x:α):ix (l++[x]) (l.length:Int)=some x:=by rw[yti];simp
theorem yod{α:Type}(l)(x y:α):(l++[x]).set (Int.toNat (l.length:Int)) y=l++[y]:=by simp
theorem zxi{r:yz5}(hs:r.size<=8000000):Ev (λn=>z4z n r) r:=by
 have hlp:=@y1a r;have hlc:=@zx9 r
 have l0:∀i,i<=r.cases.length->∀z1 z2 z3,Ev (λn=>z1l n (i:Int) r r.name r.params z1 (r.cases.take i) z2 z3) r :=
  down (λz1 z2 z3=>by rw[zju,Ev.zz2 (by simp),Ev.yz0,List.take_length]) λi hi ih z1 z2 z3=>by
   have hc:=Qad hi;have:=zud hc;have hcw:=@yix r.cases[i];have hca:=@zwd r.cases[i]
   have l1:∀k,k<=r.cases[i].do_.length->Ev (λn=>z18 n (k:Int) (i:Int) r.cases[i].weight r.cases[i].when_.op r.cases[i].when_.value.kind r.cases[i].when_.value.num.num r.cases[i].when_.value.num.den r.cases[i].when_.value.truth r.cases[i].when_.value.str r.cases[i].when_.value.list r.cases[i].when_.name r.cases[i].when_.args r r.name r.params z1 (r.cases[i].do_.take k) (r.cases.take i) z2 z3) r :=
    down (by
     have hlt:(r.cases.take i).length=i:=by simp;omega
     rw[zk2,Ev.yz2 (zz5 hi),Ev.zz2 (by simp),yor,Ev.yz2 (z01 (by simp only[List.length_take,List.length_cons,Qbv];omega)),Ev.yz2 (yvo _ _)];dsimp only;rw[zz1.kz3,yod,List.take_length,wrk (by omega)];have e:r.cases.take i++[zz6.mk r.cases[i].weight r.cases[i].when_ r.cases[i].do_]=r.cases.take (i+1):=z2m hi;rw[e]
     exact ih _ _ _) λk hk ihk=>by
     have ha:=Qad hk;have:=y0s ha;have haa:=@yf1 r.cases[i].do_[k];have hal:=@y49 r.cases[i].do_[k]
     have l2:∀j,j<=r.cases[i].do_[k].items.length->Ev (λn=>z1c n (j:Int) (i:Int) (k:Int) r.cases[i].do_[k].kind r.cases[i].do_[k].axis r.cases[i].do_[k].name r.cases[i].do_[k].args r.cases[i].do_[k] r.cases[i].weight r.cases[i].when_.op r.cases[i].when_.value.kind r.cases[i].when_.value.num.num r.cases[i].when_.value.num.den r.cases[i].when_.value.truth r.cases[i].when_.value.str r.cases[i].when_.value.list r.cases[i].when_.name r.cases[i].when_.args r r.name r.params z1 (r.cases[i].do_[k].items.take j) (r.cases[i].do_.take k) (r.cases.take i) z2 z3) r :=
      down (by
       rw[zkf,Ev.zz2 (by simp),Ev.yz2 (z01 (by simp only[List.length_take,List.length_cons,Qbv];omega)),Ev.yz2 (yvo _ _)];dsimp only;rw[yod,List.take_length,wrk (by omega)];have e:r.cases[i].do_.take k++[zz4.mk r.cases[i].do_[k].kind r.cases[i].do_[k].axis r.cases[i].do_[k].name r.cases[i].do_[k].args r.cases[i].do_[k].items]=r.cases[i].do_.take (k+1):=z2m hk;rw[e]
       exact ihk) λj hj ihj=>by
       have hx:=Qad hj;have:=y85 hx;have hxa:=@ycw r.cases[i].do_[k].items[j];rw[zkf,Ev.kz1 (by simpa using hj),Ev.yz2 (zz5 hj),Ev.yz2 (zz5 hj),Ev.yz2 (zz5 hj),Ev.zz0 (zuj (by omega)),Ev.yz2 (z01 (by simp only[List.length_take,List.length_cons,Qbv];omega)),wrk (by omega)]
       have e:r.cases[i].do_[k].items.take j++[yzj.mk r.cases[i].do_[k].items[j].kind r.cases[i].do_[k].items[j].name r.cases[i].do_[k].items[j].args]=r.cases[i].do_[k].items.take (j+1):=z2m hj;rw[e];exact ihj
     rw[zk2,Ev.yz2 (zz5 hi),Ev.kz1 (by simpa using hk),Ev.yz2 (zz5 hi),Ev.yz2 (zz5 hk),Ev.zz0 (zuj (by omega))];exact l2 0 (Qbo _)
   rw[zju,Ev.kz1 (by simpa using hi),Ev.yz2 (zz5 hi),Ev.yz2 (zz5 hi),zz1.kz3,Ev.zz0 (y1x _ (by omega))];exact l1 0 (Qbo _)
 rw[y3m,Ev.yz2 (z01 (by simp only[Qbv];omega))];exact l0 0 (Qbo _) _ _ _
theorem ysr{p}(hs:p.size<=8000000):Ev (λn=>zdx n p) (p.attrs,p.rules):=by
 have h1:=@y0t p;have h2:=@zl6 p
 have l1:∀i,i<=p.rules.length->∀z1 z2,Ev (λn=>z73 n (i:Int) p p.attrs (p.rules.take i) z1 z2) (p.attrs,p.rules) :=
  down (λz1 z2=>by simp_all[zr5,Ev.zz2,Ev.yz0]) λi hi ih z1 z2=>by
   have hr:=Qad hi;have:=zrh hr;rw[zr5,Ev.kz1 (by simpa using hi),Ev.yz2 (zz5 hi),Ev.zz0 (zxi (by omega)),Ev.yz2 (z01 (by grind)),wrk (by omega),z2m hi];exact ih _ _
 have l0:∀i,i<=p.attrs.length->∀z0 z1 z2,z0=[]->Ev (λn=>z6y n (i:Int) p (p.attrs.take i) z0 z1 z2) (p.attrs,p.rules) :=
  down (λz0 z1 z2 hz=>by rw[zss,Ev.zz2 (by simp),List.take_length,hz];exact l1 0 (Qbo _) _ _) λi hi ih z0 z1 z2 hz=>by
   have ht:=Qad hi;have:=ybh ht;have:=@yec p.attrs[i];rw[zss,Ev.kz1 (by simpa using hi),Ev.yz2 (zz5 hi),Ev.yz2 (zz5 hi),zz1.kz3,Ev.zz0 (y1x _ (by omega)),Ev.yz2 (z01 (by grind)),zz1.kz3,wrk (by omega)];have e:p.attrs.take i++[zzi.mk p.attrs[i].name p.attrs[i].value]=p.attrs.take (i+1):=z2m hi
   simp_all
 rw[yij];exact l0 0 (Qbo _) _ _ _ rfl
theorem zq5(a b):kzi (a++b)=kzi a++kzi b:=by simp[kzi]
theorem znh(a):(kzi a).length=a.length:=by simp[kzi]
theorem y8j:∀s:B8,yby (kzi s)=some s
 |[]=>rfl
 |c::s=>by
  have h:Nat.ble c.toNat 255=true:=Nat.ble_eq_true_of_le (by have:=c.toNat_lt;omega)
  show(match Int.ofNat c.toNat,yby (kzi s)with
   |.ofNat m,some s=>match Nat.ble m 255 with
    |true=>some (m.toUInt8::s)
    |false=>none
   |_,_=>none)=_
  rw[y8j s];simp only[h];simp[Nat.toUInt8]
theorem yyp(s):Ev (λn=>z06 n s) s:=⟨0,λ_ _=>rfl⟩
theorem ws{s t}(h:s.length+t.length<=268435456):Ev (λn=>kz4 n t (kzi s)) ((t.length:Int),kzi (s++t)):=by
 rw[zja,Ev.zz0 (yyp _),Ev.yz2 (z01 (by rw[znh,znh];exact h)),Ev.yz0,zq5]
theorem wb{s c k}(hk:k=(c.toNat:Int))(h:s.length+1<=268435456):Ev (λn=>kz7 n k (kzi s)) (kzi (s++[c])):=by
 subst hk;rw[zki,Ev.zz0 (yyp _),Ev.yz2 (z01 (by rw[znh];exact h)),Ev.yz0,zq5];rfl
theorem w8{k}(h:0<=k∧k<=255):IntKind.u8.wrap k=k:=by
 unfold IntKind.wrap;simp[IntKind.bits,IntKind.signed,if_false];omega
theorem w32{k}(h:0<=k∧k<=255):IntKind.u32.wrap k=k:=by
 unfold IntKind.wrap;simp[IntKind.bits,if_false];omega
theorem wr{s c k}(hk:k=(c.toNat:Int))(hc:c.toNat<128)(h:s.length+1<=268435456):∃q,Ev (λn=>kzp n k (kzi s)) (q,kzi (s++[c])):=by
 subst hk
 have ha:Ev (λn=>zzx n (c.toNat:Int) (kzi s)) (kzi (s++[c])):=by
  rw[zn2,w32 (by omega),Ev.kz1 (by simp;omega),w8 (by omega),Ev.yz2 (z01 (by rw[znh];exact h)),Ev.yz0,zq5];rfl
 refine⟨IntKind.i64.wrap (((kzi (s++[c])).length:Int)-((kzi s).length:Int)),?_⟩;rw[zkz,Ev.zz0 (yyp _),Ev.zz0 ha,Ev.yz0]
theorem blen{s}:Ev (λn=>kzr n (kzi s)) ((s.length:Int),kzi s):=by rw[zu0,Ev.yz0,znh]
theorem bstr{s}:Ev (λn=>yzy n (kzi s)) s:=⟨0,λ_ _=>y8j s⟩
theorem ye1{x}(h : -9223372036854775807<=x∧x<=9223372036854775807):Ev (λn=>z1d n x 10) (Lib.itoa x):=⟨0,λ_ _=>by
 unfold z1d;grind⟩
theorem y4h{x}(h : -9223372036854775807<=x∧x<=9223372036854775807):(Lib.itoa x).length<=21:=Lib.itoa_length_le x (by omega) h.2
def yj4(r:yz4):B8:=if r.den=1 then Lib.itoa r.num else Lib.itoa r.num++47::Lib.itoa r.den
theorem yjk{r}(h:rok r=true):(yj4 r).length<=43:=by
 obtain⟨h1,h2,h3⟩:=z051 h
 grind[yj4,y4h]
theorem yu5{r}(h:rok r=true):Ev (λn=>zba n r) (yj4 r,0):=by
 obtain⟨h1,h2,h3⟩:=z051 h;have a:=y4h (x:=r.num) (by omega);have b:=y4h (x:=r.den) (by omega);have hc:=y7j (r:=r) (by unfold I64;omega);rw[Qbq h]at hc;rw[yg6,Ev.zz0 hc,Ev.zz2 (by rfl),Ev.zz0 (ye1 (by omega))];unfold yj4;by_cases hd:r.den=1
 simp_all[Ev.zz2,zr3,Ev.yz0]
 rw[Ev.kz1 (by simpa using hd),Ev.zz0 (ye1 (by omega)),Ev.yz2 (y5w (by simp;omega)),Ev.yz2 (y5w (by simp;omega)),zr3,Ev.yz0,Qbr hd];rfl
theorem zmy:kzi []=[]:=rfl
theorem z02u(c d:UInt8):(((c.toNat:Nat):Int)==((d.toNat:Nat):Int))=(c==d):=by
 grind[UInt8.toNat_inj]
theorem b34(c:UInt8):(((c.toNat:Nat):Int)==34)=(c==34):=z02u c 34
theorem b92(c:UInt8):(((c.toNat:Nat):Int)==92)=(c==92):=z02u c 92
def esc:B8->B8
 |[]=>[]
 |c::s=>if c=34∨c=92 then 92::c::esc s else c::esc s
def y88(v:kz0):B8:=if v.kind=1 then yj4 v.num else if v.kind=2 then (if v.truth then [116,114,117,101]else [102,97,108,115,101])else 34::(esc v.str++[34])
theorem yuw:∀s:B8,(esc s).length<=2 * s.length
 |[]=>Qbp _
 |c::s=>by have:=yuw s;unfold esc;grind
theorem drop_cons{s:B8}{k}(h):s.drop k=s[k]::s.drop (k+1):=(Qah (h:=h)).symm
theorem ynx{s}(hs:s.length<=60)(ha:s.all zuw=true):∀k,k<=s.length->∀acc:B8,acc.length<=1000-2 * (s.length-k)->Ev (λn=>z3y n (kzi acc) s k) (kzi (acc++(esc (s.drop k)++[34]))) :=
 down (λacc hl=>by
  rw[zpm,Ev.zz2 (by simp),Ev.zz0 (wb (k:=34) (c:=34) rfl (by omega)),Ev.yz0]
  simp[esc]) λk hk ih acc hl=>by
  have hc:=Qat.1 ha _ (Qad hk)
  have hlow:s[k].toNat<128:=by
   unfold zuw at hc;simp at hc;omega
  rw[zpm,Ev.kz1 (by simpa using hk),yq2 hk hlow]
  have l2:∀acc':B8,acc'.length+1<=1000-2 * (s.length-(k+1))->Ev (λn=>z45 n (s[k].toNat:Int) (kzi acc') s (k+1)) (kzi (acc'++(s[k]::(esc (s.drop (k+1))++[34])))):=λacc' h'=>by
   obtain⟨q,hq⟩:=wr (s:=acc') (c:=s[k]) rfl hlow (by omega);rw[y4p,Ev.zz0 hq];refine(ih (acc'++[s[k]]) (by simp;omega)).to ?_;simp
  have l1:(s[k]=34∨s[k]=92)->Ev (λn=>z5b n (s[k].toNat:Int) (kzi acc) s (k+1)) (kzi (acc++(esc (s.drop k)++[34]))):=λh=>by
   rw[y4k,Ev.zz0 (wb (k:=92) (c:=92) rfl (by omega))];refine(l2 (acc++[92]) (by simp;omega)).to ?_;rw[drop_cons hk];simp[esc,h]
  simp[b34,b92];by_cases h34:s[k]=34
  simp_all[Ev.kz1]
  rw[Ev.zz2 (by simpa using h34)];by_cases h92:s[k]=92
  simp_all[Ev.kz1]
  rw[Ev.zz2 (by simpa using h92)]
  grind[drop_cons,esc]
theorem yvb{v}(h:ziu v=true)(hk:v.kind=3):v.str.length<=60∧v.str.all zuw=true:=by
 simp_all[zrt]
theorem y70{v}(h:zkj v=0):(y88 v).length<=130:=by
 obtain⟨hf,_,_⟩:=y8a h;unfold y88;split
 grind[yjk,yjs]
 split;split <;> decide
 have:=yuw v.str
 rcases ydc hf with hk|hk|hk|hk
 contradiction
 contradiction
 grind[yvb]
 simp_all[z06f]
theorem yxi{v}(hf:ziu v=true)(hk:v.kind=3):v.str.length<=60∧v.str.all zuw=true:=yvb hf hk
theorem yui{v}(hw:v.wf)(hs:v.size<=8388608)(h:zkj v=0)(hk:v.kind≠4):Ev (λn=>zdn n v) (y88 v,0):=by
 obtain⟨hf,_,_⟩:=y8a h;have hl:=y70 h
 have hwr:Ev (λn=>z9t n v []) (kzi (y88 v)):=by
  rw[yba];unfold y88;by_cases h1:v.kind=1;have hr:=yjs hf h1;have:=ws (s:=[]) (t:=yj4 v.num) (by have:=yjk hr;simp;omega);rw[zmy,List.nil_append]at this;rw[Ev.kz1 (by simpa using h1),Ev.zz0 (yu5 hr),Ev.zz0 this,Ev.yz0,Qbq h1];rw[Ev.zz2 (by simpa using h1),Qbr h1];by_cases h2:v.kind=2;rw[Ev.kz1 (by simpa using h2),Qbq h2];cases ht:v.truth;have:=ws (s:=[]) (t:=[102,97,108,115,101]) (by decide)
  rw[zmy,List.nil_append]at this;rw[Ev.zz2 (by rfl),Ev.zz0 this,Ev.yz0];rfl;have:=ws (s:=[]) (t:=[116,114,117,101]) (by decide);rw[zmy,List.nil_append]at this;rw[Ev.kz1 (by rfl),Ev.zz0 this,Ev.yz0];rfl;rw[Ev.zz2 (by simpa using h2),Qbr h2];have h3:v.kind=3:=by grind[ydc]
  obtain⟨q1,q2⟩:=yxi hf h3;have:=wb (s:=[]) (k:=34) (c:=34) rfl (by decide);rw[zmy,List.nil_append]at this;rw[Ev.kz1 (by simpa using h3),Ev.zz0 this];exact ynx q1 q2 0 (Qbo _) [34] (by simp;omega)
 have hc:=y8f hw hs;rw[h]at hc;rw[yh8,kz0.kz3,Ev.zz0 hc,Ev.zz2 (by rfl),Ev.zz0 hwr,Ev.zz0 blen,Ev.zz2 (by simp;omega),Ev.zz0 bstr,Ev.yz0]
def z03e:List B8:=[[43],[45],[42],[47],[60],[61],[97,110,100],[111,114]]
def yak:List B8:=[[110,111,116],[105,102],[109,105,110],[109,97,120],[102,108,111,111,114],[108,101,110],[97,116]]
def zpt(op:Int):B8:=if 3<=op∧op<=10 then z03e.getD (op-3).toNat []else []
def y58(op:Int):B8:=if 11<=op∧op<=17 then yak.getD (op-11).toNat []else []
theorem yy4:kzb 0 [43,32,45,32,42,32,47,32,60,32,61,32,97,110,100,32,111,114]=some z03e:=by decide +kernel
theorem z007:Ev (λn=>kzb n [43,32,45,32,42,32,47,32,60,32,61,32,97,110,100,32,111,114]) z03e:=⟨0,λ_ _=>yy4⟩
theorem yw1:kzb 0 [110,111,116,32,105,102,32,109,105,110,32,109,97,120,32,102,108,111,111,114,32,108,101,110,32,97,116]=some yak:=by decide +kernel
theorem z01z:Ev (λn=>kzb n [110,111,116,32,105,102,32,109,105,110,32,109,97,120,32,102,108,111,111,114,32,108,101,110,32,97,116]) yak:=⟨0,λ_ _=>yw1⟩
theorem op8{op:Int}(h:3<=op∧op<=10):op=3∨op=4∨op=5∨op=6∨op=7∨op=8∨op=9∨op=10:=by omega
theorem op7{op:Int}(h:11<=op∧op<=17):op=11∨op=12∨op=13∨op=14∨op=15∨op=16∨op=17:=by omega
theorem yin{op}:Ev (λn=>zao n op) (zpt op):=by
 have l0:∀b,(b=true↔¬(3<=op∧op<=10))->Ev (λn=>z8v n op b) (zpt op):=λb hb=>by
  rw[y8y];cases b;have h:3<=op∧op<=10:=Classical.not_not.1 λh=>by grind
  rw[Ev.zz2 (by rfl),Ev.zz0 z007];unfold zpt;rw[Qbq h]
  rcases op8 h with rfl|rfl|rfl|rfl|rfl|rfl|rfl|rfl <;> exact⟨0,λ_ _=>rfl⟩
  rw[Ev.kz1 (by rfl),Ev.yz0];unfold zpt;grind
 rw[ykd];by_cases h:op<3;rw[Ev.kz1 (by simpa using h)];exact l0 true (by simp;omega);rw[Ev.zz2 (by simpa using h)];exact l0 _ (by simp;omega)
def zrb(op:Int):B8:=if zpt op≠[]then [40]else if op≠18 then y58 op++[40]else [91]
def y25(op:Int):B8:=if zpt op≠[]then 32::(zpt op++[32])else [44,32]
def zfw(op:Int):B8:=if zpt op≠[]then [41]else if op≠18 then [41]else [93]
mutual
def zvq:zz1->B8
 |⟨op,v,nm,l⟩=>if op=1 then y88 v else if op=2 then nm else zrb op++(zn4 (y25 op) false l++zfw op)
def zn4(mid:B8):Bool->yz6->B8
 |_,[]=>[]
 |b,e::l=>(if b then mid else [])++(zvq e++zn4 mid true l)
end
theorem yrk(e):zvq e=if e.op=1 then y88 e.value else if e.op=2 then e.name else zrb e.op++(zn4 (y25 e.op) false e.args++zfw e.op):=by cases e;rw[zvq]
theorem yiy(op):(zpt op).length<=3:=by
 unfold zpt;split
 rename_i h;rcases op8 h with rfl|rfl|rfl|rfl|rfl|rfl|rfl|rfl <;> decide
 decide
theorem y8m(op):(y58 op).length<=5:=by
 unfold y58;split
 rename_i h;rcases op7 h with rfl|rfl|rfl|rfl|rfl|rfl|rfl <;> decide
 decide
theorem yjr(op):(zrb op).length<=6:=by
 grind[y8m,zrb]
theorem yqt(op):(y25 op).length<=5:=by
 grind[yiy,y25]
theorem yf3(op):(zfw op).length=1:=by
 grind[zfw]
theorem y5v{e}(h:zg1 e=true):∀x∈e.args,zg1 x=true:=by
 rw[zvy,ys5]at h
 simp_all
theorem yp1{e}(h:zg1 e=true):y46 e.op e.value e.name=true:=by
 simp_all[zvy]
theorem ysi{e}(h:zg1 e=true):zxl e.op e.args.length=true:=by
 simp_all[zvy]
theorem own1{v nm}(h:y46 1 v nm=true):zkj v=0∧v.kind≠4∧nm=[]:=by
 unfold y46 at h;simpa using h
theorem own2{v nm}(h:y46 2 v nm=true):zks nm=true∧v=v0:=by
 grind[y46,yd4]
theorem y6x{s}(h:zks s=true):s.length<=40:=by
 unfold zks zm2 at h
 grind
theorem yc7{mid}(hm:mid.length<=5):∀(l) (b),(∀x∈l,(zvq x).length+8<=200 * z7a x)->(zn4 mid b l).length<=200 * kzk l
 |[],b,_=>by simp[zn4]
 |e::l,b,h=>by
  have h2:=yc7 hm l true λx hx=>h x (Qai _ hx)
  grind[zn4,kzk]
theorem yx8:∀e:zz1,zg1 e=true->(zvq e).length+8<=200 * z7a e:=zvv λe ih hf=>by
 grind[yrk,zai,yp1,y70,own1,y6x,own2,yjr,yf3,yc7,yqt,y5v]
theorem yu9{op}(h:3<=op∧op<=10):zpt op≠[]:=by
 rcases op8 h with rfl|rfl|rfl|rfl|rfl|rfl|rfl|rfl <;> decide
theorem yt0{op}(h:¬(3<=op∧op<=10)):zpt op=[]:=by unfold zpt;rw[Qbr h]
theorem ypw{op k}(h:zxl op k=true):((op=1∨op=2)∧k=0)∨(z7x op=2∧k=2)∨(z7x op=1∧k=1)∨(op=12∧k=3)∨op=18:=by
 unfold zxl at h;simp[beq_iff_eq]at h;unfold z7x at h ⊢;by_cases h1:op=1∨op=2
 grind
 rw[Qbr h1]at h ⊢;by_cases h2:(3<=op∧op<=10)∨op=13∨op=14∨op=17;rw[Qbq h2]at h ⊢;grind;by_cases h3:op=11∨op=15∨op=16;rw[Qbq h3]at h ⊢;grind;by_cases h4:op=12;rw[Qbq h4]at h;omega
 simp_all
theorem ym1{op k}(h:zxl op k=true)(h1:op≠1)(h2:op≠2)(h3:¬(3<=op∧op<=10))(h4:op≠18):11<=op∧op<=17:=by
 rcases ypw h with ⟨a|a,_⟩|⟨a,_⟩|⟨a,_⟩|⟨a,_⟩|a
 exact(h1 a).elim;exact(h2 a).elim
 grind[z7x]
 grind[z7x]
 omega;exact(h4 a).elim
theorem yvz{op}(h:11<=op∧op<=17):ix yak (IntKind.u8.wrap (op-11))=some (y58 op):=by
 rcases op7 h with rfl|rfl|rfl|rfl|rfl|rfl|rfl <;> rfl
theorem yus:∀e:zz1,e.wf->e.size<=8388608->zg1 e=true->∀acc:B8,acc.length+200 * z7a e<=1000000->Ev (λn=>zbf n e (kzi acc)) (kzi (acc++zvq e)):=zvv λe ih hw hs hf acc hl=>by
 have ho:=yp1 hf;have har:=ysi hf;have hsz:=z9r e;have hp:=zai e;have hln:=zcb e.args;rw[yi8,yrk];by_cases h1:e.op=1;rw[h1]at ho;obtain⟨o1,o2,_⟩:=own1 ho;have:=y70 o1;rw[Ev.kz1 (by simpa using h1),kz0.kz3,Ev.zz0 (yui (yis hw) (by omega) o1 o2),Ev.kz1 (by rfl),Ev.zz0 (ws (t:=y88 e.value) (by omega)),Ev.yz0,Qbq h1];rw[Ev.zz2 (by simpa using h1),Qbr h1];by_cases h2:e.op=2;rw[h2]at ho;have:=y6x (own2 ho).1
 rw[Ev.kz1 (by simpa using h2),Ev.zz0 (ws (by omega)),Ev.yz0,Qbq h2];rw[Ev.zz2 (by simpa using h2),Qbr h2];have q1:=yjr e.op;have q2:=yqt e.op;have q3:=yf3 e.op
 have loop:∀k,k<=e.args.length->∀acc':B8,acc'.length+200 * kzk (e.args.drop k)+190<=1000000->Ev (λn=>z67 n (k:Int) (y25 e.op) e.args (zfw e.op) (e.args.length:Int) (kzi acc')) (kzi (acc'++(zn4 (y25 e.op) (decide (0<k)) (e.args.drop k)++zfw e.op))) :=
  down (λacc' h'=>by
   rw[zre,Ev.zz2 (by simp),Ev.zz0 (ws (by omega)),Ev.yz0]
   simp[zn4]) λk hk ihk acc' h'=>by
   have hm:=Qad hk;have hd:e.args.drop k=e.args[k]::e.args.drop (k+1):=(Qah (h:=hk)).symm;rw[hd]at h' ⊢;rw[kzk]at h';have hx:=yx8 _ (y5v hf _ hm)
   have l2:∀acc'':B8,acc''.length+200 * z7a e.args[k]+200 * kzk (e.args.drop (k+1))+185<=1000000->Ev (λn=>z6k n (y25 e.op) e.args (zfw e.op) (e.args.length:Int) (k:Int) (kzi acc'') e.args[k]) (kzi (acc''++(zvq e.args[k]++(zn4 (y25 e.op) true (e.args.drop (k+1))++zfw e.op)))):=λacc'' g1=>by
    rw[y6u,zz1.kz3,Ev.zz0 (ih _ hm (yov hw _ hm) (by have:=zjv hm;omega) (y5v hf _ hm) acc'' (by omega)),wrk (by omega)];have:=ihk (acc''++zvq e.args[k]) (by simp;omega);rw[show decide (0<k+1)=true by simp]at this;refine this.to ?_;simp
   rw[zre,Ev.kz1 (by simpa using hk),Ev.yz2 (zz5 hk),zz1.kz3,zn4];by_cases hk0:0<k;rw[Ev.kz1 (by simpa using hk0),Ev.zz0 (ws (by omega))];refine(l2 (acc'++y25 e.op) (by simp;omega)).to ?_;simp[hk0];rw[Ev.zz2 (by simpa using hk0)];refine(l2 acc' (by omega)).to ?_;simp[hk0]
 have l0:Ev (λn=>z3l n (y25 e.op) (zfw e.op) (zrb e.op) (kzi acc) e) (kzi (acc++(zrb e.op++(zn4 (y25 e.op) false e.args++zfw e.op)))):=by
  rw[y6c,Ev.zz0 (ws (by omega))];refine(loop 0 (Qbo _) (acc++zrb e.op) (by simp;omega)).to ?_;simp
 rw[Ev.zz0 yin];by_cases h3:3<=e.op∧e.op<=10;have hn:=yu9 h3;have hl3:=yiy e.op;rw[Ev.kz1 (by simpa using hn),Ev.zz0 yin,Ev.yz2 (y5w (by simp;omega)),Ev.yz2 (y5w (by simp;omega)),zz1.kz3];have e1:[32]++zpt e.op++[32]=y25 e.op:=by unfold y25;rw[Qbq hn];simp
 have e2:[41]=zfw e.op:=by unfold zfw;rw[Qbq hn]
 have e3:[40]=zrb e.op:=by unfold zrb;rw[Qbq hn]
 rw[e1,e2,e3];exact l0;have hn:=yt0 h3;rw[Ev.zz2 (by simp[hn]),zz1.kz3];have e1:[44,32]=y25 e.op:=by unfold y25;rw[Qbr (by simpa using hn)]
 by_cases h18:e.op=18;have e2:[93]=zfw e.op:=by unfold zfw;rw[Qbr (by simpa using hn),Qbr (by simpa using h18)]
 have e3:[91]=zrb e.op:=by unfold zrb;rw[Qbr (by simpa using hn),Qbr (by simpa using h18)]
 rw[Ev.zz2 (by simpa using h18),e1,e2,e3];exact l0;have hr:=ym1 har h1 h2 h3 h18;have hcl:=y8m e.op;have e2:[41]=zfw e.op:=by unfold zfw;rw[Qbr (by simpa using hn),Qbq (by simpa using h18)]
 have e3:y58 e.op++[40]=zrb e.op:=by unfold zrb;rw[Qbr (by simpa using hn),Qbq (by simpa using h18)]
 rw[Ev.kz1 (by simpa using h18),Ev.zz0 z01z,Ev.yz2 (yvz hr),Ev.yz2 (y5w (by simp;omega)),e1,e2,e3];exact l0
noncomputable def ybs(e:zz1):B8×Int:=if z7t e≠0 then ([],z7t e)else if 4000<(zvq e).length then ([],4)else (zvq e,0)
theorem yw6{e}(hw:e.wf)(hs:e.size<=8388608):Ev (λn=>zf2 n e) (ybs e):=by
 unfold ybs;rw[yne,zz1.kz3,Ev.zz0 (zm6 hw hs)];by_cases hc:z7t e=0;obtain⟨hf,hp,_⟩:=zw0 hc;have h:=yus e hw hs hf [] (by simp;omega);rw[zmy,List.nil_append]at h;rw[Ev.zz2 (by simpa using hc),Ev.zz0 h,Ev.zz0 blen,Qbr (by simpa using hc)];by_cases hl:4000<(zvq e).length;rw[Ev.kz1 (by simp;omega),Ev.yz0,Qbq hl];rw[Ev.zz2 (by simp;omega),Ev.zz0 bstr,Ev.yz0,Qbr hl]
 simp_all[Ev.kz1,Ev.yz0]
def acts:List B8:=[[99,97,108,108],[109,111,118,101],[115,105,122,101],[116,117,114,110],[115,112,108,105,116],[108,101,97,102]]
def yvf:List B8:=[[102,105,120,101,100],[115,104,97,114,101],[114,101,115,116]]
theorem ywt:kzb 0 [99,97,108,108,32,109,111,118,101,32,115,105,122,101,32,116,117,114,110,32,115,112,108,105,116,32,108,101,97,102]=some acts:=by decide +kernel
theorem z00p:Ev (λn=>kzb n [99,97,108,108,32,109,111,118,101,32,115,105,122,101,32,116,117,114,110,32,115,112,108,105,116,32,108,101,97,102]) acts:=⟨0,λ_ _=>ywt⟩
theorem yww:kzb 0 [102,105,120,101,100,32,115,104,97,114,101,32,114,101,115,116]=some yvf:=by decide +kernel
theorem z02h:Ev (λn=>kzb n [102,105,120,101,100,32,115,104,97,114,101,32,114,101,115,116]) yvf:=⟨0,λ_ _=>yww⟩
def lnT(ws:List B8):B8:=Lib.join ws [32]++[10]
def y2y(k:Int):B8:=acts.getD (k-1).toNat []
def prtW(k:Int):B8:=yvf.getD (k-1).toNat []
def ygn(a:Int):B8:=[UInt8.ofNat (120+a.toNat)]
noncomputable def tx(e:zz1):B8:=(ybs e).1
noncomputable def bad(e:zz1):Bool:=(ybs e).2 != 0
noncomputable def iT(x:yzj):B8:=lnT [prtW x.kind,x.name,tx (z23 x.args)]
noncomputable def aT(a:zz4):B8 :=
 if a.kind=6 then lnT [y2y a.kind,tx (a.args.getD 0 (z23 []))]else if a.kind=5 then lnT [y2y a.kind,ygn a.axis]++a.items.flatMap iT
 else if a.kind=4 then lnT [y2y a.kind,ygn a.axis,a.name,tx (z23 a.args)]else lnT [y2y a.kind,a.name,tx (z23 a.args)]
noncomputable def aB(a:zz4):Bool:=if a.kind=6 then bad (a.args.getD 0 (z23 []))else if a.kind=5 then a.items.any (λx=>bad (z23 x.args))else bad (z23 a.args)
noncomputable def cT(c:zz6):B8:=lnT [[99,97,115,101],Lib.itoa c.weight,tx c.when_]++c.do_.flatMap aT
noncomputable def cB(c:zz6):Bool:=bad c.when_||c.do_.any aB
noncomputable def rT(r:yz5):B8:=lnT ([[114,117,108,101],r.name]++r.params)++r.cases.flatMap cT
noncomputable def rB(r:yz5):Bool:=r.cases.any cB
noncomputable def tT(t:zzi):B8:=lnT [[97,116,116,114],t.name,tx t.value]
noncomputable def pT(p:yz1):B8:=p.attrs.flatMap tT++p.rules.flatMap rT
noncomputable def pB(p:yz1):Bool:=p.attrs.any (λt=>bad t.value)||p.rules.any rB
noncomputable def yw2(b:Bool)(s:B8):B8×Int:=if (b||decide (20000<s.length))=true then ([],4)else (s,0)
noncomputable def y53(p:yz1):B8×Int:=if z3o p≠0 then ([],z3o p)else yw2 (pB p) (pT p)
theorem zmp(e):(tx e).length<=4000:=by
 grind[tx,ybs]
theorem join_cons(x y)(l):Lib.join (x::y::l) [32]=x++32::Lib.join (y::l) [32]:=by simp_all[Lib.join]
theorem ybo:∀ws:List B8,(Lib.join ws [32]).length<=(ws.map List.length).sum+ws.length
 |[]=>by simp[Lib.join]
 |[x]=>by simp[Lib.join]
 |x::y::l=>by
  have:=ybo (y::l)
  grind[join_cons]
theorem zp7(ws):(lnT ws).length<=(ws.map List.length).sum+ws.length+1:=by
 grind[ybo,lnT]
theorem z04o{ws}(h1:ws.length<=1048576)(h2:(Lib.join ws [32]).length<=16777216):Ev (λn=>zak n ws [32]) (Lib.join ws [32]):=⟨0,λ_ _=>by unfold zak;grind⟩
theorem zox{wz acc}(h1:wz.length<=1000)(h2:(wz.map List.length).sum<=1000000)(h3:acc.length+(lnT wz).length<=268435456):Ev (λn=>yzq n wz (kzi acc)) (kzi (acc++lnT wz)):=by
 have:=ybo wz;rw[ya2,Ev.zz0 (z04o (by omega) (by omega)),Ev.yz2 (y5w (by simp;omega)),Ev.zz0 (ws (by unfold lnT at h3;simpa using h3)),Ev.yz0];rfl
theorem zy4{e}(hw:e.wf)(hs:e.size<=8388608)(b):Ev (λn=>z07 n e b) (tx e,b||bad e):=by
 rw[y9n,zz1.kz3,Ev.zz0 (yw6 hw hs)];cases b;rw[Ev.zz2 rfl,znb,Ev.yz0];rfl;rw[Ev.kz1 rfl,znb,Ev.yz0];rfl
theorem y2d{l}:Ev (λn=>z2k n l) (z23 l):=by rw[y0x,Ev.yz0];rfl
theorem ypz{α γ:Type}{L:Nat->Int->Bool->B8->Option γ}{xs:List α}{T B w}
  (hs:∀k (h:k<xs.length) b acc,acc.length+(T xs[k]).length<=268435456->Ev (λn=>L n ((k+1:Nat):Int) (b||B xs[k]) (acc++T xs[k])) w->Ev (λn=>L n (k:Int) b acc) w)
  (b) (acc) (hl:acc.length+(xs.flatMap T).length<=268435456) (he:Ev (λn=>L n (xs.length:Int) (b||xs.any B) (acc++xs.flatMap T)) w):Ev (λn=>L n 0 b acc) w:=by
 have:∀k,k<=xs.length->∀b acc,acc.length+((xs.drop k).flatMap T).length<=268435456->Ev (λn=>L n (xs.length:Int) (b||(xs.drop k).any B) (acc++(xs.drop k).flatMap T)) w->Ev (λn=>L n (k:Int) b acc) w :=
  down (λb acc _ h=>by
   simp_all) λk hk ih b acc hl h=>by
   rw[<-Qah (h:=hk),List.flatMap_cons,Qap]at hl;rw[<-Qah (h:=hk),List.flatMap_cons,List.any_cons,<-Bool.or_assoc,<-Qay]at h;exact hs k hk b acc (by omega) (ih _ _ (by grind) h)
 exact this 0 (Qbo _) b acc (by simpa using hl) (by simpa using he)
theorem z06b{k}(h:1<=k∧k<=6):ix acts (IntKind.u8.wrap (k-1))=some (y2y k):=by
 rcases(by omega:k=1∨k=2∨k=3∨k=4∨k=5∨k=6)with rfl|rfl|rfl|rfl|rfl|rfl <;> rfl
theorem z06e{k}(h:1<=k∧k<=3):ix yvf (IntKind.u8.wrap (k-1))=some (prtW k):=by
 rcases(by omega:k=1∨k=2∨k=3)with rfl|rfl|rfl <;> rfl
theorem z03s{k}(h:0<=k∧k<=2):sub [120,121,122] k (IntKind.u8.wrap (k+1))=some (ygn k):=by
 rcases(by omega:k=0∨k=1∨k=2)with rfl|rfl|rfl <;> rfl
theorem yrm(k)(h:1<=k∧k<=6):(y2y k).length<=5:=by
 rcases(by omega:k=1∨k=2∨k=3∨k=4∨k=5∨k=6)with rfl|rfl|rfl|rfl|rfl|rfl <;> decide
theorem ypv(k)(h:1<=k∧k<=3):(prtW k).length<=5:=by
 rcases(by omega:k=1∨k=2∨k=3)with rfl|rfl|rfl <;> decide
theorem zsb{s}(h:zay s=true):s.length<=40:=by
 simp_all[zay,y6x,zks,kept]
theorem yof{a}(h:z10 a=true)(hw:a.wf):(1<=a.kind∧a.kind<=6)∧(0<=a.axis∧a.axis<=2)∧a.name.length<=40∧(∀x∈a.items,zx7 x=true)∧(a.kind=6->a.args≠[]):=by
 have hk:=yyt hw;obtain⟨h1,h2,h3,h4,h5,h6,h7,h8⟩:=zow.1 h;refine⟨h1,⟨hk.2.1,?_⟩,?_,?_,λe hn =>?_⟩;split at h2 <;> omega
 grind[zsb]
 grind
 rw[e,hn]at h5;simp[own]at h5
theorem yj2{x}(h:zx7 x=true):(1<=x.kind∧x.kind<=3)∧x.name.length<=40:=by
 simp_all[zx7,zsb]
theorem w3{a b c A B C}(h1:a.length<=A)(h2:b.length<=B)(h3:c.length<=C):(([a,b,c]:List B8).map List.length).sum<=A+(B+C):=by simp;omega
theorem w2{a b A B}(h1:a.length<=A)(h2:b.length<=B):(([a,b]:List B8).map List.length).sum<=A+B:=by simp;omega
theorem w4{a b c d A B C E}(h1:a.length<=A)(h2:b.length<=B)(h3:c.length<=C)(h4:d.length<=E):(([a,b,c,d]:List B8).map List.length).sum<=A+(B+(C+E)):=by simp;omega
theorem yeo(a):(ygn a).length<=1:=by simp[ygn]
theorem zyc{α β:Type}{g:α->List β}{c}:∀{l:List α},(∀x∈l,(g x).length<=c)->(l.flatMap g).length<=l.length * c
 |[],_=>by simp
 |x::l,h=>by
  have h1:=h x Qak;have h2:=zyc (l:=l) λy hy=>h y (Qai _ hy)
  rw[List.flatMap_cons,Qap,List.length_cons,Nat.add_mul,Nat.one_mul];omega
theorem z05m{x}(h:zx7 x=true):(iT x).length<=4060:=by
 obtain⟨h1,h2⟩:=yj2 h;have:=zp7 [prtW x.kind,x.name,tx (z23 x.args)]
 grind[ypv,zmp,iT]
theorem ylj{a}(hr:z10 a=true)(hw:a.wf)(hs:a.size<=4000000)(b)(acc)(hl:acc.length+(aT a).length<=268435456):Ev (λn=>z38 n a b (kzi acc)) (b||aB a,kzi (acc++aT a)):=by
 obtain⟨hk,hx,hn,hi,h6⟩:=yof hr hw;have hsa:=@yf1 a;have hel:(z23 a.args).size<=8388608:=by rw[zex];omega
 have hwl:=z057 hw;have hwk:=yrm _ hk;rw[zw3,Ev.zz0 z00p,Ev.yz2 (z06b hk),Ev.yz2 (z03s hx)];by_cases e6:a.kind=6;have hne:=h6 e6;have h0:=List.length_pos_iff.2 hne;have hg:a.args.getD 0 (z23 [])=a.args[0]:=by grind
 have hm:=Qad h0;have hz:a.args[0].size<=8388608:=by have:=zy6 hm;omega
 have e:aT a=lnT [y2y a.kind,tx a.args[0]]:=by unfold aT;rw[Qbq e6,hg]
 rw[e]at hl;rw[Ev.kz1 (by simp[e6]),Ev.yz2 (show ix a.args 0=some a.args[0]from zz5 h0),zz1.kz3,Ev.zz0 (zy4 (z059 hw hm) hz b),Ev.zz0 (zox (by simp) (Qbf (w2 hwk (zmp _)) (by omega)) hl),Ev.yz0,e];unfold aB;rw[Qbq e6,hg];rw[Ev.zz2 (by simpa using e6)];by_cases e5:a.kind=5;have e:aT a=lnT [y2y a.kind,ygn a.axis]++a.items.flatMap iT:=by unfold aT;grind
 rw[e,Qap]at hl;have hli:=@y49 a;rw[Ev.kz1 (by simp[e5]),Ev.zz0 (zox (by simp) (Qbf (w2 hwk (yeo _)) (by omega)) (by omega))]
 have h:=λw=>ypz (L:=λn k b acc=>yzv n k a.items (a.items.length:Int) b (kzi acc)) (xs:=a.items) (T:=iT) (B:=λx=>bad (z23 x.args)) (w:=w)
  (λk hk' b acc hle h=>by
   have hm:=Qad hk';have hri:=hi _ hm;obtain⟨q1,q2⟩:=yj2 hri;have:=y85 hm;have:=@ycw a.items[k]
   rw[zh3,Ev.kz1 (by simpa using hk'),Ev.yz2 (zz5 hk'),Ev.zz0 z02h,Ev.yz2 (z06e q1),Ev.zz0 y2d,zz1.kz3,Ev.zz0 (zy4 (z05f (z028 hw hm)) (by rw[zex];omega) b),
    Ev.zz0 (zox (by simp) (Qbf (w3 (ypv _ q1) q2 (zmp _)) (by omega)) hle),wrk (by omega)]
   exact h) b (acc++lnT [y2y a.kind,ygn a.axis]) (by grind)
 simp_all[zh3,Ev.zz2,Ev.yz0,aB]
 rw[Ev.zz2 (by simpa using e5)];have eB:aB a=bad (z23 a.args):=by unfold aB;grind
 by_cases e4:a.kind=4;have e:aT a=lnT [y2y a.kind,ygn a.axis,a.name,tx (z23 a.args)]:=by simp_all[aT]
 rw[e]at hl;rw[Ev.kz1 (by simp[e4]),Ev.zz0 y2d,zz1.kz3,Ev.zz0 (zy4 hwl hel b),Ev.zz0 (zox (by simp) (Qbf (w4 hwk (yeo _) hn (zmp _)) (by omega)) hl),Ev.yz0,e,eB];have e:aT a=lnT [y2y a.kind,a.name,tx (z23 a.args)]:=by simp_all[aT]
 rw[e]at hl;rw[Ev.zz2 (by simpa using e4),Ev.zz0 y2d,zz1.kz3,Ev.zz0 (zy4 hwl hel b),Ev.zz0 (zox (by simp) (Qbf (w3 hwk hn (zmp _)) (by omega)) hl),Ev.yz0,e,eB]
theorem z05r{a}(hr:z10 a=true)(hw:a.wf)(hm:a.items.length<=10):(aT a).length<=44700:=by
 obtain⟨hk,hx,hn,hi,h6⟩:=yof hr hw;have hwk:=yrm _ hk;have t1:=zmp (z23 a.args);have t2:=zmp (a.args.getD 0 (z23 []));have hax:=yeo a.axis;unfold aT;split;have:=zp7 [y2y a.kind,tx (a.args.getD 0 (z23 []))]
 grind
 split;have:=zp7 [y2y a.kind,ygn a.axis];have:=w2 hwk hax;have:=zyc (l:=a.items) (g:=iT) (c:=4060) λx hx=>z05m (hi x hx)
 grind
 split;have:=zp7 [y2y a.kind,ygn a.axis,a.name,tx (z23 a.args)]
 grind
 have:=zp7 [y2y a.kind,a.name,tx (z23 a.args)]
 grind
theorem yv5{w}(h:1<=w∧w<=1000000):(Lib.itoa w).length<=21:=y4h (by omega)
theorem z048{w}(h:1<=w∧w<=1000000):Ev (λn=>zag n w) (Lib.itoa w):=⟨0,λ_ _=>by unfold zag;grind⟩
theorem yiq{c}(h:zuf c=true):(1<=c.weight∧c.weight<=1000000)∧∀a∈c.do_,z10 a=true:=by
 simp_all[zuf]
theorem yxs{c}(h:zmb c=false):c.do_.length<=10∧∀a∈c.do_,a.items.length<=10:=by
 simp_all[zmb]
theorem z05s{c}(h:zuf c=true)(hm:zmb c=false)(hw:c.wf):(cT c).length<=452000:=by
 obtain⟨h1,h2⟩:=yiq h;obtain⟨m1,m2⟩:=yxs hm;have:=zp7 [[99,97,115,101],Lib.itoa c.weight,tx c.when_];have:=w3 (a:=[99,97,115,101]) (A:=4) (by simp) (yv5 h1) (zmp c.when_);have:=zyc (l:=c.do_) (g:=aT) (c:=44700) λa ha=>z05r (h2 a ha) (yoe hw ha) (m2 a ha)
 grind[cT]
theorem y6n{r}(h:zo7 r=true):r.name.length<=40∧(∀s∈r.params,s.length<=40)∧∀c∈r.cases,zuf c=true:=by
 simp_all[zo7,zsb]
theorem y5i{r}(h:zkn r=false):r.params.length<=4∧r.cases.length<=6∧∀c∈r.cases,zmb c=false:=by
 grind[zkn]
theorem z056:∀{l:List B8},(∀s∈l,s.length<=40)->(l.map List.length).sum<=l.length * 40
 |[],_=>by simp
 |x::l,h=>by
  have h2:=z056 (l:=l) λy hy=>h y (Qai _ hy)
  grind
theorem yru{r}(h:zo7 r=true)(hm:zkn r=false):((([[114,117,108,101],r.name]++r.params):List B8).map List.length).sum<=204:=by
 obtain⟨h1,h2,_⟩:=y6n h;obtain⟨m1,_,_⟩:=y5i hm;have:=z056 h2;simp[Qbv];omega
theorem z05q{r}(h:zo7 r=true)(hm:zkn r=false)(hw:r.wf):(rT r).length<=2713000:=by
 obtain⟨h1,h2,h3⟩:=y6n h;obtain⟨m1,m2,m3⟩:=y5i hm;have:=zp7 ([[114,117,108,101],r.name]++r.params);have:=yru h hm;have:=zyc (l:=r.cases) (g:=cT) (c:=452000) λc hc=>z05s (h3 c hc) (m3 c hc) (yqw hw hc)
 grind[rT]
theorem z06a{t}(h:zxc t=true):(tT t).length<=4060:=by
 unfold zxc at h
 grind[zp7,zsb,zmp,tT]
theorem yj7{p}(h:zog p=false):p.attrs.length<=20∧p.rules.length<=40∧∀r∈p.rules,zkn r=false:=by
 grind[zog]
theorem yjw{p}(h:zd1 p=true):(∀t∈p.attrs,zxc t=true)∧∀r∈p.rules,zo7 r=true:=by
 simp_all[zd1]
theorem z05n{p}(hf:zd1 p=true)(hm:zog p=false)(hw:p.wf):(pT p).length<=110000000:=by
 obtain⟨f1,f2⟩:=yjw hf;obtain⟨m1,m2,m3⟩:=yj7 hm;have:=zyc (l:=p.attrs) (g:=tT) (c:=4060) λt ht=>z06a (f1 t ht)
 have:=zyc (l:=p.rules) (g:=rT) (c:=2713000) λt ht=>z05q (f2 t ht) (m3 t ht) (yr2 hw ht)
 grind[pT]
theorem yok{p}(h:z3o p=0):zog p=false∧zd1 p=true:=by
 refine⟨?_,(zwg h).1⟩;unfold z3o at h;cases hm:zog p;rfl
 grind
theorem ycu{p:yz1}(hw:p.wf)(hs:p.size<=4000000):Ev (λn=>z7k n p) (y53 p):=by
 rw[yg7,Ev.zz0 (zvz hw hs)];by_cases hc:z3o p=0
 case neg=>rw[Ev.kz1 (by simpa using hc),Ev.yz0];unfold y53;rw[Qbq hc]
 obtain⟨hm,hf⟩:=yok hc;obtain⟨f1,f2⟩:=yjw hf;obtain⟨m1,m2,m3⟩:=yj7 hm;have hlen:=z05n hf hm hw;have hpt:=@y0t p;have hpr:=@zl6 p;rw[Ev.zz2 (by simpa using hc)];have e0:y53 p=yw2 (pB p) (pT p):=by unfold y53;rw[Qbr (by simp[hc])]
 rw[e0]
 have l4:∀b acc,acc.length<=268435456->Ev (λn=>z6o n (b||decide (20000<acc.length)) (kzi acc)) (yw2 b acc):=λb acc _=>by
  rw[y5j];unfold yw2
  cases h:b||decide (20000<acc.length)
  rw[Ev.zz2 rfl,Ev.zz0 bstr,Ev.yz0];rfl;rw[Ev.kz1 rfl,Ev.yz0];rfl
 have l1:∀b acc,acc.length+(p.rules.flatMap rT).length<=268435456->Ev (λn=>z3e n 0 p.rules (p.rules.length:Int) b (kzi acc)) (yw2 (b||p.rules.any rB) (acc++p.rules.flatMap rT)):=λb acc hl=>by
  refine ypz (L:=λn k b acc=>z3e n k p.rules (p.rules.length:Int) b (kzi acc)) (xs:=p.rules) (T:=rT) (B:=rB) (λk hk b acc hl h =>?_) b acc hl ?_;have hmr:=Qad hk;have hfr:=f2 _ hmr;have hwr:=yr2 hw hmr;have hzr:=zrh hmr;obtain⟨g1,g2,g3⟩:=y6n hfr;obtain⟨n1,n2,n3⟩:=y5i (m3 _ hmr);have hrc:=@zx9 p.rules[k]
  have e:rT p.rules[k]=lnT ([[114,117,108,101],p.rules[k].name]++p.rules[k].params)++p.rules[k].cases.flatMap cT:=rfl;rw[e,Qap]at hl;rw[e,<-Qay]at h;have hhs:=yru hfr (m3 _ hmr);rw[zr4,Ev.kz1 (by simpa using hk),Ev.yz2 (zz5 hk),Ev.yz2 (z01 (by simp only[List.length_cons,Qbv];omega)),Ev.zz0 (zox (by simp;omega) (by omega) (by omega))]
  refine ypz (L:=λn j b acc=>z6i n j p.rules[k].cases p.rules (p.rules.length:Int) (k:Int) (p.rules[k].cases.length:Int) b (kzi acc)) (xs:=p.rules[k].cases) (T:=cT) (B:=cB) (λj hj b acc hl h =>?_) b _ (by rw[Qap];omega) ?_;have hmc:=Qad hj;have hfc:=g3 _ hmc;have hwc:=yqw hwr hmc;have hzc:=zud hmc;obtain⟨d1,d2⟩:=yiq hfc;have hca:=@zwd p.rules[k].cases[j]
  have hcw:=@yix p.rules[k].cases[j];have e:cT p.rules[k].cases[j]=lnT [[99,97,115,101],Lib.itoa p.rules[k].cases[j].weight,tx p.rules[k].cases[j].when_]++p.rules[k].cases[j].do_.flatMap aT:=rfl;rw[e,Qap]at hl;rw[e,<-Qay]at h
  rw[zsy,Ev.kz1 (by simpa using hj),Ev.yz2 (zz5 hj),Ev.zz0 (z048 d1),zz1.kz3,Ev.zz0 (zy4 (z024 hwc) (by omega) b),
   Ev.zz0 (zox (by simp) (Qbf (w3 (a:=[99,97,115,101]) (A:=4) (by simp) (yv5 d1) (zmp _)) (by omega)) (by omega))]
  refine ypz (L:=λn i b acc=>z6a n i p.rules[k].cases[j].do_ p.rules[k].cases p.rules (p.rules.length:Int) (k:Int) (p.rules[k].cases.length:Int) (j:Int) (p.rules[k].cases[j].do_.length:Int) b (kzi acc)) (xs:=p.rules[k].cases[j].do_) (T:=aT) (B:=aB) (λi hi b acc hl h =>?_) _ _ (by rw[Qap];omega) ?_;have hma:=Qad hi;have hza:=y0s hma
  rw[zt4,Ev.kz1 (by simpa using hi),Ev.yz2 (zz5 hi),Ev.zz0 (ylj (d2 _ hma) (yoe hwc hma) (by omega) b acc hl),wrk (by omega)];exact h;rw[zt4,Ev.zz2 (by simp),wrk (by omega),Bool.or_assoc];exact h;rw[zsy,Ev.zz2 (by simp),wrk (by omega)];exact h;rw[zr4,Ev.zz2 (by simp)]
  cases b||p.rules.any rB with
  |true=>rw[Ev.kz1 rfl];exact(l4 true _ (by rw[Qap];omega))
  |false=>
   rw[Ev.zz2 rfl,Ev.zz0 blen];have:=l4 false (acc++p.rules.flatMap rT) (by rw[Qap];omega);rw[Bool.false_or]at this;have e:decide (((acc++p.rules.flatMap rT).length:Int)>20000)=decide (20000<(acc++p.rules.flatMap rT).length):=decide_eq_decide.2 (by omega);rw[e];exact this
 have hpl:(p.attrs.flatMap tT).length+(p.rules.flatMap rT).length<=110000000:=by rw[<-Qap];exact hlen
 refine ypz (L:=λn k b acc=>z6g n k p.attrs (p.attrs.length:Int) b p (kzi acc)) (xs:=p.attrs) (T:=tT) (B:=λt=>bad t.value) (λk hk b acc hl h =>?_) false [] (by simp only[Qbv];omega) ?_;have hmt:=Qad hk;have hft:=f1 _ hmt;have hzt:=ybh hmt;have hzv:=@yec p.attrs[k];unfold zxc at hft;rw[Qag]at hft
 rw[zrz,Ev.kz1 (by simpa using hk),Ev.yz2 (zz5 hk),zz1.kz3,Ev.zz0 (zy4 (yyx hw hmt) (by omega) b),Ev.zz0 (zox (by simp) (Qbf (w3 (a:=[97,116,116,114]) (A:=4) (by simp) (zsb hft.1) (zmp _)) (by omega)) hl),wrk (by omega)];exact h;rw[zrz,Ev.zz2 (by simp)];refine Ev.to (l1 _ _ (by rw[List.nil_append];omega)) ?_;rw[Bool.false_or,List.nil_append];rfl
theorem ypx{p}(h:(y53 p).2=0):z3o p=0∧pB p=false∧(pT p).length<=20000∧y53 p=(pT p,0):=by
 unfold y53 at h ⊢;by_cases hc:z3o p=0;rw[Qbr (by simp[hc])]at h ⊢;unfold yw2 at h ⊢;by_cases hb:(pB p||decide (20000<(pT p).length))=true
 grind
 rw[Qbr hb];simp[decide_eq_false_iff_not]at hb
 grind
 grind
theorem z04h(ws):0<(lnT ws).length:=by unfold lnT;simp
theorem z06c(r):0<(rT r).length:=by grind[z04h,rT]
theorem yw9{p r}:pT ⟨p.attrs,p.rules++[r]⟩=pT p++rT r:=by
 grind[pT]
theorem z00y{p:yz1}{r:yz5}{k:Int}(hw:p.wf)(hwr:r.wf)(hs:p.size+r.size<=1048576)(alive:Ev (λn=>zzl n) true):Ev (λn=>kzl n p r k) true:=by
 have hpr:=@zl6 p;obtain⟨q,hq⟩:∃q:yz1,q=⟨p.attrs,p.rules++[r]⟩:=⟨_,rfl⟩
 have hwq:q.wf:=by
  rw[yz1.z5u]at hw ⊢;subst hq;refine⟨hw.1,λx hx =>?_⟩
  rcases List.mem_append.1 hx with hx|hx
  exact hw.2 x hx;rw[Qaz.1 hx];exact hwr
 have hsq:q.size<=4000000:=by
  have h1:=hs;rw[yz1.size_eq]at h1;rw[yz1.size_eq,hq];simp only[List.map_append,List.sum_append,List.map_cons,List.map_nil,List.sum_cons,List.sum_nil];omega
 have out:∀k:Int,Ev (λn=>yz7 n k true p.attrs (p.rules++[r]) p) true:=λk=>by
  rw[zd9,Ev.kz1 rfl,Ev.zz0 alive,Ev.yz0]
 obtain⟨b,hb,hv⟩:=z01v hw (by omega);rw[znr,Ev.zz0 (ysr (by omega)),Ev.zz0 (zxi (by omega)),Ev.yz2 (z01 (by simp only[List.length_cons,Qbv];omega)),Ev.zz0 hb]
 cases b with
 |false=>rw[Ev.kz1 (c := !false) rfl];exact out k
 |true=>
 rw[Ev.zz2 (c := !true) rfl];have hcp:=hv rfl;obtain⟨g,hg⟩:=z054 (p:=q) (by omega);rw[<-hq,Ev.zz0 hg]
 cases g with
 |true=>rw[Ev.kz1 rfl];exact out k
 |false=>
 rw[Ev.zz2 rfl];by_cases h0:p.rules.length=0;rw[Ev.kz1 (by simp[h0])];exact out k;rw[Ev.zz2 (by simpa using h0)];by_cases h40:(p.rules.length:Int)>=40;rw[Ev.kz1 (Qbm h40)];exact out k;rw[Ev.zz2 (Qbl h40)];by_cases hk0:k<0;rw[Ev.kz1 (Qbm hk0)];exact out k;rw[Ev.zz2 (Qbl hk0)];by_cases hk1:k>=(p.rules.length:Int)
 rw[show decide (k>=(p.rules.length:Int))=true from Qbm hk1];exact out k;rw[show decide (k>=(p.rules.length:Int))=false from Qbl hk1];obtain⟨i,rfl⟩:∃i:Nat,k=(i:Int):=⟨k.toNat,by omega⟩;have hi:i<p.rules.length:=by omega
 have hroot:p.rules[i].name∈zz7 p:=Qbc.2 ⟨_,Qad hi,rfl⟩;have hsub:∀x∈p.rules,x∈q.rules:=λx hx=>by rw[hq];exact List.mem_append_left _ hx
 have hroot':p.rules[i].name∈zz7 q:=Qbc.2 ⟨_,hsub _ (Qad hi),rfl⟩;rw[zd9,Ev.zz2 rfl,<-hq,Ev.zz0 (zvz hwq hsq)];by_cases hc:z3o q=0
 case neg=>
  rw[Ev.kz1 (by simpa using hc),Ev.zz0 (y8b hwq hsq),Ev.kz1 (by simpa using hc),Ev.zz0 alive,Ev.yz0]
 obtain⟨a,ha,hsa⟩:=yo3 hw (by omega) hcp hroot;obtain⟨a',ha',hsa'⟩:=yo3 hwq hsq hc hroot';obtain rfl:=ywx hcp hc hsub hroot hsa hsa';have hal:=yaq hcp hroot hsa
 rw[Ev.zz2 (by simpa using hc),Ev.yz2 (zz5 hi),Ev.zz0 ha,Ev.yz2 (zz5 hi),Ev.zz0 ha',Ev.zz0 (ycu hw (by omega)),Ev.zz0 (ycu hwq hsq),Ev.zz2 (by rw[hsa.1];rfl),Ev.zz2 (by rw[hsa.1];rfl),
  Ev.zz0 (z027 (by omega)),zkp,Ev.zz2 (by rfl)]
 by_cases e1:(y53 p).2=0
 case neg=>rw[Ev.kz1 (by simpa using e1),Ev.zz0 alive,Ev.yz0]
 rw[Ev.zz2 (by simpa using e1)];by_cases e2:(y53 q).2=0
 case neg=>rw[Ev.kz1 (by simpa using e2),Ev.zz0 alive,Ev.yz0]
 rw[Ev.zz2 (by simpa using e2),(ypx e1).2.2.2,(ypx e2).2.2.2];dsimp only;have e3:pT q=pT p++rT r:=by rw[hq];exact yw9
 have:=z06c r;rw[e3,Ev.kz1 (by rw[Qap];exact Qbm (by omega)),Ev.yz2 (yop (by rw[Qap];omega)),Ev.kz1 (by simp),Ev.zz0 alive,Ev.yz0]
theorem ysj(p)(r)(k)(hw:p.wf)(hr:r.wf){Q:Prop}(_:Q)(hs:p.size+r.size+0<=1048576):∃n,kzl n p r k=some true:=Ev.get (z00y hw hr (by omega) z02r)
end Go.Proofs.YthphaiccgnkobaaGreatDoor
