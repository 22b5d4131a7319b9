/-
  PROGRAMS: CALLS, EXPRESSIONS, NAMES THAT ARE USED, NAMES THAT STAND TWICE.
-/
import Derived.Test.YthphaiccgnkobaaGreatDoorRun3
import Derived.Test.YthphaiccgnkobaaGreatDoorRun2
namespace Go.Proofs.YthphaiccgnkobaaGreatDoor
open Go Go.Ab
set_option linter.unusedVariables false
theorem zgz{α β γ:Type}{L:Nat->Int->List β->Option γ}{xs:List α}{g v s0 B}(hB:s0.length+(xs.flatMap g).length<=B)
  (he:Ev (λn=>L n (xs.length:Int) (s0++xs.flatMap g)) v)
  (hs:∀k (h:k<xs.length) s,s.length+(g xs[k]).length<=B->Ev (λn=>L n ((k+1:Nat):Int) (s++g xs[k])) v->Ev (λn=>L n (k:Int) s) v):Ev (λn=>L n 0 s0) v:=by
 have:∀m k,k+m=xs.length->∀s,s.length+((xs.drop k).flatMap g).length<=B->s++(xs.drop k).flatMap g=s0++xs.flatMap g->Ev (λn=>L n (k:Int) s) v:=λm=>by
  induction m with
  |zero=>
   grind
  |succ m ih=>
   intro k hk s hi hf;have hlt:k<xs.length:=by omega
   rw[<-Qah (h:=hlt),List.flatMap_cons,Qap]at hi;rw[<-Qah (h:=hlt),List.flatMap_cons,<-Qaz]at hf;exact hs k hlt s (by omega) (ih (k+1) (by omega) _ (by grind) hf)
 simpa using this xs.length 0 (by omega) s0 (by simpa using hB) (by simp)
theorem zlu{α β:Type}{f}{g:α->List β}:∀{l:List α},(∀x∈l,(g x).length<=f x)->(l.flatMap g).length<=(l.map f).sum
 |[],_=>by simp
 |x::l,h=>by
  have h2:=zlu (f:=f) (g:=g) (l:=l) λy hy=>h y (Qai _ hy)
  grind
def ztu(x:yzl):List (B8×Int):=[(x.name,(x.args.length:Int)-1)]
def zhl(a:kz3):List (B8×Int):=(if a.name=[]then []else [(a.name,(a.args.length:Int)-own a.kind)])++a.items.flatMap ztu
def y3s(c:kz5):List (B8×Int):=c.do_.flatMap zhl
def kz6(r:zz6):List (B8×Int):=r.cases.flatMap y3s
theorem yqr(a):(zhl a).length<=a.size:=by
 have h:=zlu (f:=yzl.size) (g:=ztu) (l:=a.items) λx _=>by rw[yzl.size_eq];show 1<=_;omega
 grind[kz3.size_eq,zhl,List.length_cons]
theorem ypg(c):(y3s c).length<=c.size:=by
 have h:=zlu (f:=kz3.size) (g:=zhl) (l:=c.do_) λx _=>yqr x
 rw[kz5.size_eq];unfold y3s;omega
theorem zgg(r):(kz6 r).length<=r.size:=by
 have h:=zlu (f:=kz5.size) (g:=y3s) (l:=r.cases) λx _=>ypg x
 rw[zz6.size_eq];unfold kz6;omega
def toT(x:B8×Int):kzs:=⟨x.1,x.2⟩
def toG(x:B8×Int):z2f:=⟨x.1,x.2⟩
theorem z00w(k):0<=own k∧own k<=3:=by grind[own]
theorem yit{a k}(h0:0<=a)(h1:a<=8000000)(h2:0<=k)(h3:k<=3):IntKind.i64.wrap (a-k)=a-k:=wI (by omega)
theorem zv1{r}(hs:r.size<=8000000):Ev (λn=>z74 n r) ((kz6 r).map toT):=by
 have hlen:=zgg r;have hmap:(kz6 r).map toT=r.cases.flatMap λc=>c.do_.flatMap λa=>(zhl a).map toT:=by simp[kz6,y3s,List.map_flatMap]
 have:=@y3e r;rw[yc1]
 refine zgz (L:=λn k s=>z3v n k r.cases (r.cases.length:Int) s) (xs:=r.cases) (g:=λc=>c.do_.flatMap λa=>(zhl a).map toT) (B:=8000000) (by grind) (by
  simp_all[zni,Ev.kz1,Ev.zz0]) λk hk s hi hv =>?_
 have:=zyl (Qad hk);have:=@y1j r.cases[k];rw[zni,Ev.zz2 (by simpa using hk),Ev.yz2 (zz5 hk)]
 refine zgz (L:=λn j s=>z1z n j r.cases[k].do_ r.cases (r.cases.length:Int) (k:Int) (r.cases[k].do_.length:Int) s) (xs:=r.cases[k].do_) (g:=λa=>(zhl a).map toT) (B:=8000000) hi (by
  rw[zoc,Ev.kz1 (by simp),wrk (by omega)];exact hv) λj hj s hi hv =>?_
 have:=y5q (Qad hj);generalize hx:r.cases[k].do_[j]=a at *;have:=@ybm a;have:=@z00u a;have ho:=z00w a.kind;rw[zhl,List.map_append,Qap]at hi;rw[zhl,List.map_append,<-Qaz]at hv
 have l2:∀t:z7c,t.length+((a.items.flatMap ztu).map toT).length<=8000000->Ev (λn=>z1z n ((j+1:Nat):Int) r.cases[k].do_ r.cases (r.cases.length:Int) (k:Int) (r.cases[k].do_.length:Int) (t++(a.items.flatMap ztu).map toT)) ((kz6 r).map toT)->Ev (λn=>z3m n r.cases[k].do_ r.cases (r.cases.length:Int) (k:Int) (r.cases[k].do_.length:Int) (j:Int) t a) ((kz6 r).map toT):=λt ht hv=>by
  have hm:(a.items.flatMap ztu).map toT=a.items.flatMap λx=>[(⟨x.name,(x.args.length:Int)-1⟩:kzs)]:=by rw[List.map_flatMap];rfl
  rw[hm]at ht hv;rw[y3k]
  refine zgz (L:=λn i s=>z3n n i a.items r.cases[k].do_ r.cases (r.cases.length:Int) (k:Int) (r.cases[k].do_.length:Int) (j:Int) (a.items.length:Int) s) (xs:=a.items) (g:=λx=>[(⟨x.name,(x.args.length:Int)-1⟩:kzs)]) (B:=8000000) ht (by
   rw[zoq,Ev.kz1 (by simp),wrk (by omega)];exact hv) λi hi s hl hv =>?_
  have:=yfw (Qad hi);have:=@yxn a.items[i];rw[zoq,Ev.zz2 (by simpa using hi),Ev.yz2 (zz5 hi),yit (by omega) (by omega) (by omega) (by omega),Ev.yz2 (z8j (by simp at hl ⊢;omega)),wrk (by omega)];exact hv
 rw[zoc,Ev.zz2 (by simpa using hj),Ev.yz2 (zz5 hj),hx];by_cases hn:a.name=[]
 simp_all[Ev.kz1]
 rw[Ev.zz2 (by simpa using hn),Ev.zz1 y4i,yit (by omega) (by omega) ho.1 ho.2];rw[Qbu hn]at hv hi;rw[Ev.yz2 (z8j (by simp at hi ⊢;omega))];exact l2 _ (by simp at hi ⊢;omega) hv
theorem yca{r}(hs:r.size<=8000000)(hf:∀c∈r.cases,∀a∈c.do_,(a.name=[]↔a.kind=5∨a.kind=6)):Ev (λn=>zao n r) ((kz6 r).map toG):=by
 have hlen:=zgg r;have hmap:(kz6 r).map toG=r.cases.flatMap λc=>c.do_.flatMap λa=>(zhl a).map toG:=by simp[kz6,y3s,List.map_flatMap]
 have:=@y3e r;rw[yed]
 refine zgz (L:=λn k s=>z5j n k s r) (xs:=r.cases) (g:=λc=>c.do_.flatMap λa=>(zhl a).map toG) (B:=8000000) (by grind) (by
  simp_all[zqj,Ev.kz1,Ev.zz0]) λk hk s hi hv =>?_
 have hc:=Qad hk;have:=zyl hc;have:=@y1j r.cases[k];rw[zqj,Ev.zz2 (by simpa using hk)]
 refine zgz (L:=λn j s=>z2z n j (k:Int) s r) (xs:=r.cases[k].do_) (g:=λa=>(zhl a).map toG) (B:=8000000) hi (by
  rw[zrk,Ev.yz2 (zz5 hk),Ev.kz1 (by simp),wrk (by omega)];exact hv) λj hj s hi hv =>?_
 have ha:=Qad hj;have:=y5q ha;have hfa:=hf _ hc _ ha;generalize hx:r.cases[k].do_[j]=a at *;have:=@ybm a;have:=@z00u a;have ho:=z00w a.kind;rw[zhl,List.map_append,Qap]at hi;rw[zhl,List.map_append,<-Qaz]at hv
 have l2:∀t:zc6,t.length+((a.items.flatMap ztu).map toG).length<=8000000->Ev (λn=>z2z n ((j+1:Nat):Int) (k:Int) (t++(a.items.flatMap ztu).map toG) r) ((kz6 r).map toG)->Ev (λn=>z69 n (k:Int) (j:Int) a t r) ((kz6 r).map toG):=λt ht hv=>by
  have hm:(a.items.flatMap ztu).map toG=a.items.flatMap λx=>[(⟨x.name,(x.args.length:Int)-1⟩:z2f)]:=by rw[List.map_flatMap];rfl
  rw[hm]at ht hv;rw[y3n]
  refine zgz (L:=λn i s=>z5k n i (k:Int) (j:Int) a s r) (xs:=a.items) (g:=λx=>[(⟨x.name,(x.args.length:Int)-1⟩:z2f)]) (B:=8000000) ht (by
   rw[zpy,Ev.kz1 (by simp),wrk (by omega)];exact hv) λi hi s hl hv =>?_
  have:=yfw (Qad hi);have:=@yxn a.items[i];rw[zpy,Ev.zz2 (by simpa using hi),Ev.yz2 (zz5 hi),Ev.yz2 (zz5 hi),yit (by omega) (by omega) (by omega) (by omega),Ev.yz2 (z8j (by simp at hl ⊢;omega)),wrk (by omega)];exact hv
 rw[zrk,Ev.yz2 (zz5 hk),Ev.zz2 (by simpa using hj),Ev.yz2 (zz5 hk),Ev.yz2 (zz5 hj),hx];by_cases hn:a.name=[];rw[Qbt hn]at hv hi;have l3:=l2 s (by simpa using hi) (by simpa using hv);have l2f:Ev (λn=>z5h n (k:Int) (j:Int) false a r s) ((kz6 r).map toG):=by simp_all[zrb,Ev.kz1]
 rcases hfa.1 hn with h|h
 rw[Ev.kz1 (by simp[h])];exact l2f
 simp_all[Ev.zz2]
 have hk5:a.kind≠5∧a.kind≠6:=⟨λh=>hn (hfa.2 (.inl h)),λh=>hn (hfa.2 (.inr h))⟩;rw[Ev.zz2 (by simp[hk5.1]),show(a.kind != 6)=true by simp[hk5.2],zrb,Ev.zz2 (by rfl),Ev.zz1 ygw,yit (by omega) (by omega) ho.1 ho.2];rw[Qbu hn]at hv hi;rw[Ev.yz2 (z8j (by simp at hi ⊢;omega))];exact l2 _ (by simp at hi ⊢;omega) hv
theorem ymm{a}(h:z39 a=true):a.name=[]↔a.kind=5∨a.kind=6:=by
 obtain⟨h1,h2,h3,_⟩:=zv4.1 h;by_cases hk:a.kind<=4;rw[Qbt hk]at h3;refine⟨λh =>?_,λh=>by omega⟩;rw[h,yg6]at h3;cases h3
 grind
theorem yny{p}(h:zhm p=true):∀r∈p.rules,∀c∈r.cases,∀a∈c.do_,z39 a=true:=λr hr c hc a ha=>by
 have h:=Qat.1 (Bool.and_eq_true_iff.1 h).2 r hr;have h:=Qat.1 (Bool.and_eq_true_iff.1 (Bool.and_eq_true_iff.1 h).2).2 c hc
 simp_all[y62]
def zii(a:kz3):zz8:=a.args++a.items.flatMap (·.args)
def zgk(c:kz5):zz8:=c.when_::c.do_.flatMap zii
def zvh(r:zz6):zz8:=r.cases.flatMap zgk
theorem yop(a):(zii a).length<=a.size:=by
 have h:=zlu (f:=yzl.size) (g:=λx:yzl=>x.args) (l:=a.items) λx _=>yxn
 grind[zew,kz3.size_eq,zii]
theorem y01(c):(zgk c).length<=c.size:=by
 have h:=zlu (f:=kz3.size) (g:=zii) (l:=c.do_) λx _=>yop x
 grind[kz5.size_eq,zgk]
theorem y8w(r):(zvh r).length<=r.size:=by
 have h:=zlu (f:=kz5.size) (g:=zgk) (l:=r.cases) λx _=>y01 x
 rw[zz6.size_eq];unfold zvh;omega
theorem yq2{a e}(h:e∈zii a):e.size<=a.size∧(a.wf->e.wf):=by
 rcases Qba.1 h with h|h
 have:=y5d h;grind[ymy,wf_ae];obtain⟨x,hx,he⟩:=List.mem_flatMap.1 h;have:=y5d he;have:=@ylw x;have:=yfw hx;exact⟨by omega,λw=>wf_xe (z00r w hx) he⟩
theorem yba{c e}(h:e∈zgk c):e.size<=c.size∧(c.wf->e.wf):=by
 rcases Qbi.1 h with h|h
 grind[yr5,z011]
 obtain⟨a,ha,he⟩:=List.mem_flatMap.1 h;have:=yq2 he;have:=y5q ha;grind[yur]
theorem yap{r e}(h:e∈zvh r):e.size<=r.size∧(r.wf->e.wf):=by
 obtain⟨c,hc,he⟩:=List.mem_flatMap.1 h;have:=yba he;have:=zyl hc;grind[ywd]
theorem ynw{r}(hs:r.size<=8000000):Ev (λn=>zbn n r) (zvh r):=by
 have hlen:=y8w r;have:=@y3e r;rw[y8p]
 refine zgz (L:=λn k s=>z4f n k r.cases (r.cases.length:Int) s) (xs:=r.cases) (g:=zgk) (B:=8000000) (by show 0+(zvh r).length<=_;omega) (by
  rw[zol,Ev.kz1 (by simp),Ev.zz0];rfl) λk hk s hi hv =>?_
 have:=zyl (Qad hk);have:=@y1j r.cases[k];have e1:s++zgk r.cases[k]=(s++[r.cases[k].when_])++r.cases[k].do_.flatMap zii:=by simp[zgk]
 rw[e1]at hv;rw[zgk,List.length_cons]at hi;rw[zol,Ev.zz2 (by simpa using hk),Ev.yz2 (zz5 hk),yz1.yz4,Ev.yz2 (z8j (by grind))]
 refine zgz (L:=λn j s=>z3u n j r.cases[k].do_ r.cases (r.cases.length:Int) (k:Int) (r.cases[k].do_.length:Int) s) (xs:=r.cases[k].do_) (g:=zii) (B:=8000000) (by grind) (by
  rw[zod,Ev.kz1 (by simp),wrk (by omega)];exact hv) λj hj s hi hv =>?_
 have:=y5q (Qad hj);generalize hx:r.cases[k].do_[j]=a at *;have:=@ybm a;rw[zii,Qap]at hi;rw[zii,<-Qaz]at hv;rw[zod,Ev.zz2 (by simpa using hj),Ev.yz2 (zz5 hj),hx,Ev.yz2 (z8j (by omega))]
 refine zgz (L:=λn i s=>z3o n i a.items r.cases[k].do_ r.cases (r.cases.length:Int) (k:Int) (r.cases[k].do_.length:Int) (j:Int) (a.items.length:Int) s) (xs:=a.items) (g:=λx=>x.args) (B:=8000000) (by grind) (by
  rw[zom,Ev.kz1 (by simp),wrk (by omega)];exact hv) λi hi s hl hv =>?_
 rw[zom,Ev.zz2 (by simpa using hi),Ev.yz2 (zz5 hi),Ev.yz2 (z8j (by omega)),wrk (by omega)];exact hv
theorem ylt{c}(hs:c.size<=8000000):Ev (λn=>zb1 n c) (zgk c):=by
 have hlen:=y01 c;have:=@y1j c;have e1:zgk c=[c.when_]++c.do_.flatMap zii:=by simp[zgk]
 rw[y8x,kz5.yz4,yz1.yz4]
 refine zgz (L:=λn j s=>z42 n j c s) (xs:=c.do_) (g:=zii) (B:=8000000) (by grind) (by
  simp_all[zot,Ev.kz1,Ev.zz0]) λj hj s hi hv =>?_
 have:=y5q (Qad hj);have hxx:=zz5 hj;generalize hx:c.do_[j]=a at *;have:=@ybm a;rw[zii,Qap]at hi;rw[zii,<-Qaz]at hv;rw[zot,Ev.zz2 (by simpa using hj),Ev.yz2 hxx,Ev.yz2 (z8j (by omega)),kz5.yz4]
 refine zgz (L:=λn i s=>z48 n i (j:Int) c s) (xs:=a.items) (g:=λx=>x.args) (B:=8000000) (by grind) (by
  rw[znw,Ev.yz2 hxx,Ev.kz1 (by simp),wrk (by omega),kz5.yz4];exact hv) λi hi s hl hv =>?_
 rw[znw,Ev.yz2 hxx,Ev.zz2 (by simpa using hi),Ev.yz2 hxx,Ev.yz2 (zz5 hi),Ev.yz2 (z8j (by omega)),wrk (by omega),kz5.yz4];exact hv
noncomputable def within(K:List B8)(e:yz1):Bool:=(zgb e).1.all λs=>decide (s∈K)
theorem y8u(e)(hs:e.size<=8388608):(zgb e).1.length<=8388608:=by
 grind[zgb,ygk,zpt]
theorem y29{e K}(hs:e.size<=8388608)(hK:K.length<=8388608):Ev (λn=>z7z n e K) (within K e):=by
 have hl:=y8u e hs;rw[y7a,yz1.yz4,Ev.zz1 (ynb hs),<-ifB (within K e)];refine zay (L:=λn k=>z2s n k (zgb e).1 K) (by rw[zlj,Ev.kz1 (by simp),Ev.zz0]) λk hk v hv =>?_
 rw[zlj,Ev.zz2 (by simpa using hk),Ev.yz2 (zz5 hk),Ev.zz1 (zlq hK)];by_cases h:(zgb e).1[k]∈K;rw[Ev.kz1 (Qbo λq=>zg9.1 q h),Qbp h,wrk (by omega)];exact hv
 simp_all[Ev.zz2,zg9,Ev.zz0]
def MK(m:List (B8×Bool))(K:List B8):Prop:=∀k,(z7g m k).getD false=decide (k∈K)
theorem y8y{α σ:Type}{L:Nat->Int->Option (Int×σ)}{l:List α}{p st}
  (he:Ev (λn=>L n (l.length:Int)) (-1,st))
  (hs:∀k (h:k<l.length) v,(p l[k]=true->Ev (λn=>L n (k:Int)) ((k:Int),st))∧(p l[k]=false->Ev (λn=>L n ((k+1:Nat):Int)) v->Ev (λn=>L n (k:Int)) v)) :
  ∃i:Int,Ev (λn=>L n 0) (i,st)∧decide (i>=0)=l.any p:=by
 have:∀k,k<=l.length->∃i:Int,Ev (λn=>L n (k:Int)) (i,st)∧decide (i>=0)=(l.drop k).any p :=
  down ⟨-1,he,by simp⟩ λk hk ⟨i,h1,h2⟩=>by
   obtain⟨a1,a2⟩:=hs k hk (i,st)
   grind[Qah]
 simpa using this 0 (Qbr _)
theorem yb7{e m K}(hm:MK m K)(hw:e.wf)(hs:e.size<=8388608):Ev (λn=>zas n e (mks m) (mvs m)) (!within K e,mks m,mvs m):=by
 have hl:=y8u e hs
 obtain⟨i,h1,h2⟩:=y8y (L:=λn k=>zz9 n k (zgb e).1 ((zgb e).1.length:Int) (mks m) (mvs m)) (l:=(zgb e).1) (p:=λs => !decide (s∈K)) (st:=(mks m,mvs m))
  (by simp_all[z0p,Ev.kz1,Ev.zz0,yz5]) λk hk v=>by
   have hf:Ev (λn=>z9t n (zgb e).1[k] (mks m) (mvs m)) (!decide ((zgb e).1[k]∈K),mks m,mvs m):=by
    rw[y82,Ev.zz0,yz5,hm]
   constructor;intro hp;rw[z0p,Ev.zz2 (by simpa using hk),Ev.yz2 (zz5 hk),yz5,Ev.zz1 hf,Ev.zz2 hp,Ev.zz0,yz5];intro hp hv;rw[z0p,Ev.zz2 (by simpa using hk),Ev.yz2 (zz5 hk),yz5,Ev.zz1 hf,Ev.kz1 hp,yz5,wrk (by omega)];exact hv
 have hc:Ev (λn=>yze n (zgb e).1 (mks m) (mvs m)) (!within K e,mks m,mvs m):=by
  rw[zdq,yz5,Ev.zz1 (by rw[zfl,yz5];exact h1),Ev.zz0,h2,yz5,within,<-List.not_all_eq_any_not]
 rw[ycu,yz1.yz4,Ev.zz1 (you hw hs),yz5,Ev.zz1 hc,Ev.zz0,yz5]
theorem ybo{l m K}(hm:MK m K)(hw:∀e∈l,e.wf)(hs:∀e∈l,e.size<=8388608)(hl:l.length<=8388608):Ev (λn=>zzd n l (mks m) (mvs m)) (!l.all (within K),mks m,mvs m):=by
 obtain⟨i,h1,h2⟩:=y8y (L:=λn k=>yz7 n k l (l.length:Int) (mks m) (mvs m)) (l:=l) (p:=λe => !within K e) (st:=(mks m,mvs m))
  (by simp_all[z0g,Ev.kz1,Ev.zz0,yz5]) λk hk v=>by
   have hx:=Qad hk
   have hf:Ev (λn=>z8x n l[k] (mks m) (mvs m)) (!within K l[k],mks m,mvs m):=by
    rw[y45,yz5,yz1.yz4,Ev.zz1 (yb7 hm (hw _ hx) (hs _ hx)),Ev.zz0,yz5]
   constructor;intro hp;rw[z0g,Ev.zz2 (by simpa using hk),Ev.yz2 (zz5 hk),yz5,yz1.yz4,Ev.zz1 hf,Ev.zz2 hp,Ev.zz0,yz5];intro hp hv;rw[z0g,Ev.zz2 (by simpa using hk),Ev.yz2 (zz5 hk),yz5,yz1.yz4,Ev.zz1 hf,Ev.kz1 hp,yz5,wrk (by omega)];exact hv
 rw[zdd,yz5,Ev.zz1 (by rw[zef,yz5];exact h1),Ev.zz0,h2,yz5,<-List.not_all_eq_any_not]
theorem yon{l:List B8}:(∃k,∃h:k<l.length,atI l l[k]<(k:Int))↔¬l.Nodup:=by
 constructor
 grind[ybb,Qad,List.getElem_inj]
 intro h;rw[List.nodup_iff_pairwise_ne,List.pairwise_iff_getElem]at h
 grind[ybb,Qad]
noncomputable def dup(l:List B8):Bool:=@decide (¬l.Nodup) (Classical.propDecidable _)
theorem ync{l}:dup l=true↔¬l.Nodup:=@decide_eq_true_iff _ (Classical.propDecidable _)
theorem ywx{l}:dup l=false↔l.Nodup:=by rw[<-Bool.not_eq_true,ync,Classical.not_not]
theorem yby{γ}{L:Nat->Int->Option γ}{l t f}(he:Ev (λn=>L n (l.length:Int)) f)
  (hs:∀k (h:k<l.length) v,Ev (λn=>L n ((k+1:Nat):Int)) v->Ev (λn=>L n (k:Int)) (if decide (atI l l[k]<(k:Int))=true then t else v)):Ev (λn=>L n 0) (if dup l=true then t else f):=by
 have:∀k,k<=l.length->∀b:Bool,(b=true↔∃j,k<=j∧∃h:j<l.length,atI l l[j]<(j:Int))->Ev (λn=>L n (k:Int)) (if b=true then t else f) :=
  down (λb hb=>by
   rw[Qbu λh=>by grind];exact he) λk hk ih b hb=>by
   by_cases h:atI l l[k]<(k:Int);rw[Qbt (hb.2 ⟨k,Qbs _,hk,h⟩)];have:=hs k hk _ (ih (@decide _ (Classical.propDecidable _)) (@decide_eq_true_iff _ (Classical.propDecidable _)))
   grind
   have hb':b=true↔∃j,k+1<=j∧∃h:j<l.length,atI l l[j]<(j:Int):=by
    grind
   have:=hs k hk _ (ih b hb')
   grind
 have:=this 0 (Qbr _) (dup l) (by simp_all[ync,yon]);simpa using this
theorem y5s{l}(hb:l.length<=8388608):Ev (λn=>z9b n l) (dup l):=by
 rw[y9o,<-ifB (dup l)];refine yby (L:=λn k=>z4i n k l) (by rw[znl,Ev.kz1 (by simp),Ev.zz0]) λk hk v hv =>?_
 rw[znl,Ev.zz2 (by simpa using hk),Ev.yz2 (zz5 hk),Ev.zz1 (zlq hb),wrk (by omega),Ev.pif,Ev.zz0]
 grind
theorem ygx{l s}(hb:l.length<=8388608):Ev (λn=>z94 n s l) (atI l s,l):=by
 have h:=ybd (L:=λn k=>(yzx n k s l).map Prod.fst) (l:=l) (s:=s) (p:=λx=>x==s) (λx=>by simp) hb λn k=>by
  show(yzx (n+1) k s l).map Prod.fst=_;rw[yzx.eq_2];cases decide (k<(l.length:Int));rfl
  cases hx:ix l k with
  |none=>rfl
  |some x=>show(pIf (x==s) _ _).map Prod.fst=pIf (x==s) _ _;cases (x==s) <;> rfl
 have h2:∀n k r,yzx n k s l=some r->r.2=l:=λn=>by
  induction n with
  |zero=>intro k r hr;cases hr
  |succ n ih=>
   grind[yzx.eq_2,decide,ix,pIf]
 rw[ya4];obtain⟨n,hn⟩:=h;refine⟨n,λm hm =>?_⟩
 cases hr:yzx m 0 s l with
 |none=>grind
 |some r=>
  grind
theorem yjf{l}(hb:l.length<=8388608):Ev (λn=>z7i n l) (dup l,l):=by
 have e:(dup l,l)=if dup l=true then (true,l)else (false,l):=by cases dup l <;> rfl
 rw[y2j,e];refine yby (L:=λn k=>z14 n k l) (by rw[zk0,Ev.kz1 (by simp),Ev.zz0]) λk hk v hv =>?_
 rw[zk0,Ev.zz2 (by simpa using hk),Ev.yz2 (zz5 hk),Ev.zz1 (ygx hb),wrk (by omega),Ev.pif,Ev.zz0];split;rfl;exact hv
noncomputable def yp2(p:kz0):Bool:=dup (yzm p)||(dup (zz7 p)||p.rules.any λr=>dup (r.params++yzm p))
theorem yeo{p}(hs:p.size<=4000000):Ev (λn=>z8t n p) (yp2 p):=by
 have:=@zya p;have:=@zr2 p;have ha:(yzm p).length=p.attrs.length:=by simp[yzm]
 have hr:(zz7 p).length=p.rules.length:=by simp[zz7]
 have l1:Ev (λn=>z0d n 0 p) (if (p.rules.any λr=>dup (r.params++yzm p))=true then true else false):=by
  refine zob (L:=λn k=>z0d n k p) (by rw[zkl,Ev.kz1 (by simp),Ev.zz0]) λk hk v hv =>?_
  have:=zte (Qad hk);have:=@y2a p.rules[k];rw[zkl,Ev.zz2 (by simpa using hk),Ev.yz2 (zz5 hk),Ev.yz2 (z8j (by grind)),List.nil_append,Ev.zz1 (zw4 (by omega)),Ev.yz2 (z8j (by omega)),Ev.zz1 (yjf (by grind)),wrk (by omega),Ev.pif,Ev.zz0];split;rfl;exact hv
 have l0:∀b,Ev (λn=>z1k n b p) (b||p.rules.any λr=>dup (r.params++yzm p)):=λb=>by
  cases b;rw[zkr,Ev.kz1 (by rfl),ifB]at *;exact l1
  simp_all[zkr,Ev.zz2,Ev.zz0]
 rw[y4z,Ev.zz1 (zw4 (by omega)),Ev.zz1 (y5s (by omega)),yp2];cases dup (yzm p);rw[Ev.kz1 (by rfl),Ev.zz1 (zug (by omega)),Ev.zz1 (y5s (by omega))];exact l0 _
 simp_all[Ev.zz2]
noncomputable def kA:List B8->z55->Bool
 |_,[]=>true
 |pre,t::l=>within pre t.value&&kA (pre++[t.name]) l
def scope(p:kz0)(r:zz6):List B8:=([[115,120],[115,121],[115,122]]++yzm p)++r.params
noncomputable def kR(p:kz0)(r:zz6):Bool:=(zvh r).all (within (scope p r))&&(kz6 r).all λc=>decide (c.1∈zz7 p)
noncomputable def y52(p:kz0):Bool:=kA [] p.attrs&&p.rules.all (kR p)
def ytd(p:kz0)(s:B8):Int:=match p.rules[(atI (zz7 p) s).toNat]? with
 |some r=>r.params.length
 |none => -1
def zkd(p:kz0)(r:zz6):Bool:=(kz6 r).any λc=>decide (c.1∈zz7 p)&&(c.2 != ytd p c.1)
def ybe(p:kz0):Bool:=p.rules.any (zkd p)
noncomputable def z9a(p:kz0):Int:=if y2g p=true then 4 else if zhm p=true then (if yp2 p=true then 14 else if y52 p=true then (if ybe p=true then 2 else 0)else 6)else 8
theorem zjs{p:kz0}{k:Nat}(h:k<p.attrs.length):(yzm p).take (k+1)=(yzm p).take k++[p.attrs[k].name]:=by
 rw[List.take_add_one];simp only[yzm,Qan,Qab h,Qbn,Option.toList_some]
theorem ztw{p:kz0}{k:Nat}(h:k<p.rules.length):(zz7 p).take (k+1)=(zz7 p).take k++[p.rules[k].name]:=by
 rw[List.take_add_one];simp only[zz7,Qan,Qab h,Qbn,Option.toList_some]
theorem yv3{α:Type}{l:List α}{k:Nat}(h:k<=l.length):sub l 0 (k:Int)=some (l.take k):=by
 unfold sub;rw[Qbt (by omega)];simp
theorem yts(p:kz0)(r:zz6):(scope p r).length=3+p.attrs.length+r.params.length:=by simp[scope,yzm];omega
theorem y8a{p:kz0}{s:B8}(h:s∈zz7 p):∃i:Nat,∃hi:i<p.rules.length,atI (zz7 p) s=(i:Int)∧p.rules[i].name=s∧ytd p s=(p.rules[i].params.length:Int):=by
 obtain⟨i,hi,h1,h2,_⟩:=ybb h;have hi':i<p.rules.length:=by simpa[zz7]using hi
 refine⟨i,hi',h1,by simpa[zz7]using h2,?_⟩;unfold ytd;rw[h1,Int.toNat_natCast,Qab hi']
theorem yoe{p:kz0}(hs:p.size<=4000000)(hf:zhm p=true):Ev (λn=>zbo n p) (y52 p):=by
 have:=@zya p;have:=@zr2 p;have ha:(yzm p).length=p.attrs.length:=by simp[yzm]
 have hr:(zz7 p).length=p.rules.length:=by simp[zz7]
 have l1:Ev (λn=>z1p n 0 (yzm p) p) (if p.rules.all (kR p)=true then true else false):=by
  refine zay (L:=λn k=>z1p n k (yzm p) p) (by rw[zoz,Ev.kz1 (by simp),Ev.zz0]) λk hk v hv =>?_
  have hm:=Qad hk;have:=zte hm;have:=@y2a p.rules[k];have:=@y3e p.rules[k];have hsc:=yts p p.rules[k];have hcl:=zgg p.rules[k]
  have l4:Ev (λn=>z1s n 0 ((kz6 p.rules[k]).map toG) (yzm p) (k:Int) p) (if ((kz6 p.rules[k]).all λc=>decide (c.1∈zz7 p))=true then v else false):=by
   refine zay (L:=λn j=>z1s n j ((kz6 p.rules[k]).map toG) (yzm p) (k:Int) p) (by rw[zox,Ev.kz1 (by simp),wrk (by omega)];exact hv) λj hj w hw =>?_
   have hj':j<((kz6 p.rules[k]).map toG).length:=by simpa using hj
   rw[zox,Ev.zz2 (by simpa using hj),Ev.zz1 (zug (by omega)),Ev.yz2 (zz5 hj'),List.getElem_map,Ev.zz1 (zlq (by omega))];show Ev (λn=>pIf (decide (atI (zz7 p) (kz6 p.rules[k])[j].1<0)) _ _) _;by_cases h:(kz6 p.rules[k])[j].1∈zz7 p;rw[Ev.kz1 (Qbo λq=>zg9.1 q h),Qbp h,wrk (by omega)];exact hw;rw[Ev.zz2 (Qbp (zg9.2 h)),Qbo h,Ev.zz0];rfl
  have l2:Ev (λn=>z1x n (scope p p.rules[k]) 0 (yzm p) (k:Int) p.rules[k] p) (if (p.rules[k].cases.all λc=>(zgk c).all (within (scope p p.rules[k])))=true then (if ((kz6 p.rules[k]).all λc=>decide (c.1∈zz7 p))=true then v else false)else false):=by
   refine zay (L:=λn j=>z1x n (scope p p.rules[k]) j (yzm p) (k:Int) p.rules[k] p) (by rw[zor,Ev.kz1 (by simp),Ev.zz1 (yca (by omega) λc hc a ha=>ymm (yny hf _ hm c hc a ha))];exact l4) λj hj w hw =>?_
   have:=zyl (Qad hj);have hel:=y01 p.rules[k].cases[j];rw[zor,Ev.zz2 (by simpa using hj),Ev.yz2 (zz5 hj),kz5.yz4,Ev.zz1 (ylt (by omega))];refine zay (L:=λn i=>z4k n i (scope p p.rules[k]) (zgk p.rules[k].cases[j]) (yzm p) (k:Int) (j:Int) p.rules[k] p) (by rw[zof,Ev.kz1 (by simp),wrk (by omega)];exact hw) λi hi u hu =>?_
   have:=(yba (Qad hi)).1;rw[zof,Ev.zz2 (by simpa using hi),Ev.yz2 (zz5 hi),yz1.yz4,Ev.zz1 (y29 (by omega) (by omega))];cases within (scope p p.rules[k]) (zgk p.rules[k].cases[j])[i];rw[Ev.zz2 (by rfl),Ev.zz0];rfl;rw[Ev.kz1 (by rfl),wrk (by omega)];exact hu
  rw[zoz,Ev.zz2 (by simpa using hk),Ev.yz2 (zz5 hk),Ev.yz2 (z8j (by simp only[List.length_cons,List.length_nil];omega)),Ev.yz2 (z8j (by simp only[Qap,List.length_cons,List.length_nil];omega)),kR,ifA,zvh,List.all_flatMap];exact l2
 have l0:∀k,k<=p.attrs.length->Ev (λn=>z3l n (k:Int) (yzm p) p) (if kA ((yzm p).take k) (p.attrs.drop k)=true then p.rules.all (kR p)else false) :=
  down (by
   rw[znz,Ev.kz1 (by simp),List.drop_length,kA,Qbt rfl,<-ifB (p.rules.all (kR p))];exact l1) λk hk ih=>by
   have hm:=Qad hk;have:=yne hm;have:=@yo3 p.attrs[k];rw[znz,Ev.zz2 (by simpa using hk),Ev.yz2 (zz5 hk),Ev.yz2 (yv3 (by omega)),yz1.yz4,Ev.zz1 (y29 (by omega) (by simp;omega)),<-Qah (h:=hk),kA,ifA];cases within ((yzm p).take k) p.attrs[k].value;rw[Ev.zz2 (by rfl),Ev.zz0];rfl;rw[Ev.kz1 (by rfl),wrk (by omega),Qbt rfl,<-zjs hk];exact ih
 have:=l0 0 (Qbr _);rw[y9r,Ev.zz1 (zw4 (by omega)),y52];refine Ev.to this ?_;rw[List.drop_zero,List.take_zero];cases kA [] p.attrs <;> rfl
theorem yoc{p:kz0}(hw:p.wf)(hs:p.size<=4000000):Ev (λn=>zbh n p) (z9a p):=by
 have:=@zr2 p;have hr:(zz7 p).length=p.rules.length:=by simp[zz7]
 rw[yad,Ev.zz1 (ypn (by omega)),z9a];cases y2g p
 case true=>rw[Ev.zz2 (by rfl),Ev.zz0];rfl
 rw[Ev.kz1 (by rfl),Ev.zz1 (yij hw (by omega)),Qbu (by simp)];cases hf:zhm p
 case false=>rw[Ev.zz2 (by rfl),Ev.zz0];rfl
 rw[Ev.kz1 (by rfl),Ev.zz1 (yeo hs),Qbt rfl];cases yp2 p
 case true=>rw[Ev.zz2 (by rfl),Ev.zz0];rfl
 rw[Ev.kz1 (by rfl),Ev.zz1 (yoe hs hf),Qbu (by simp)];cases hk:y52 p
 case false=>rw[Ev.zz2 (by rfl),Ev.zz0];rfl
 rw[Ev.kz1 (by rfl),Qbt rfl];have hkr:=Qat.1 (Bool.and_eq_true_iff.1 hk).2;refine zob (L:=λn k=>z3j n k p) (by rw[zop,Ev.kz1 (by simp),Ev.zz0]) λk hk v hv =>?_
 have hm:=Qad hk;have:=zte hm;have hcl:=zgg p.rules[k];have hkc:=Qat.1 (Bool.and_eq_true_iff.1 (hkr _ hm)).2;rw[zop,Ev.zz2 (by simpa using hk),Ev.yz2 (zz5 hk),Ev.zz1 (yca (by omega) λc hc a ha=>ymm (yny hf _ hm c hc a ha))];refine zob (L:=λn j=>z4m n j ((kz6 p.rules[k]).map toG) (k:Int) p) (by rw[znf,Ev.kz1 (by simp),wrk (by omega)];exact hv) λj hj w hw =>?_
 have hj':j<((kz6 p.rules[k]).map toG).length:=by simpa using hj
 have hc:=hkc _ (Qad hj);obtain⟨i,hi,h1,h2,h3⟩:=y8a (Qac hc);rw[znf,Ev.zz2 (by simpa using hj),Ev.yz2 (zz5 hj'),Ev.zz1 (zug (by omega)),Ev.yz2 (zz5 hj'),List.getElem_map,Ev.zz1 (zlq (by omega))];show Ev (λn=>(ix p.rules (atI (zz7 p) (kz6 p.rules[k])[j].1)).bind _) _;rw[h1,Ev.yz2 (zz5 hi),hc,h3,Bool.true_and,wrk (by omega)]
 show Ev (λn=>pIf ((kz6 p.rules[k])[j].2 != (p.rules[i].params.length:Int)) _ _) _;cases (kz6 p.rules[k])[j].2 != (p.rules[i].params.length:Int);rw[Ev.kz1 rfl];exact hw;rw[Ev.zz2 rfl,Ev.zz0];rfl
section
variable {T : Type}
theorem zqs(q)(m:List (B8×T))(k):z7g (q::m) k=if k=q.1 then some q.2 else z7g m k:=by
 unfold z7g;rw[List.find?_cons];by_cases h:k=q.1;simp[h];have:(k==q.1)=false:=by simpa using h
 rw[this,Qbu h]
theorem ytu(q)(m)(k)(x:T):zb7 (q::m) k x=if k=q.1 then (k,x)::m else q::zb7 m k x:=by
 unfold zb7;rw[List.findIdx?_cons];by_cases h:k=q.1;simp[h]
 grind
theorem ycl(m)(k k')(x:T):z7g (zb7 m k x) k'=if k'=k then some x else z7g m k':=by
 induction m with
 |nil=>show z7g [(k,x)] k'=_;rw[zqs]
 |cons q m ih=>
  rw[ytu];by_cases h:k=q.1
  simp_all[zqs]
  rw[Qbu h,zqs,ih,zqs];by_cases h2:k'=q.1;rw[Qbt h2,Qbt h2,Qbu (λz=>h (z.symm.trans h2))]
  grind
theorem ygh{m:List (B8×T)}{k}:z7g m k=none↔k∉mks m:=by
 induction m with
 |nil=>simp[z7g,mks]
 |cons q m ih=>
  rw[zqs];show _↔k∉q.1::mks m;by_cases h:k=q.1;simp[h]
  grind
end
theorem yrh{T}:∀{es:List (B8×T)}{i} (h) (s),s∈mks es↔s=es[i].1∨s∈mks (es.eraseIdx i)
 |[],_,h,_=>by cases h
 |q::es,0,_,s=>by show s∈q.1::mks es↔_;grind
 |q::es,i+1,h,s=>by
  show s∈q.1::mks es↔s=(es[i]'(by simpa using h)).1∨s∈q.1::mks (es.eraseIdx i);rw[Qbi,Qbi,yrh (es:=es) (i:=i) (by simpa using h) s];exact or_left_comm
def TM(m:List (B8×Bool))(K:List B8):Prop:=∀k,z7g m k=if k∈K then some true else none
theorem TM.mk{m K}(h:TM m K):MK m K:=λk=>by
 rw[h k];grind
theorem TM.nil:TM [] []:=λk=>by simp[z7g]
theorem TM.put{m K}(h:TM m K)(s):TM (zb7 m s true) (K++[s]):=λk=>by
 rw[ycl,h k]
 grind
theorem TM.keys{m K}(h:TM m K)(s):s∈mks m↔s∈K:=by
 have:=h s;by_cases q:s∈K;rw[Qbt q]at this;exact⟨λ_=>q,λ_=>Classical.byContradiction λz=>by rw[ygh.2 z]at this;cases this⟩
 simp_all[ygh]
theorem MK.put{m K}(h:MK m K)(s):MK (zb7 m s true) (K++[s]):=λk=>by
 rw[ycl];by_cases q:k=s;simp[q];rw[Qbu q,h k];simp[q]
theorem MK.ext{m K J}(h:MK m K)(e:∀s,s∈K↔s∈J):MK m J:=λk=>by rw[h k];grind
def RM(m:List (B8×Int))(K:List B8):Prop:=∀k,z7g m k=if k∈K then some (atI K k)else none
theorem RM.nil:RM [] []:=λk=>by simp[z7g]
theorem yuv{K s}(h:s∉K)(k):atI (K++[s]) k=if k=s then (K.length:Int)else atI K k:=by
 induction K with
 |nil=>show atI [s] k=_;rw[zlo];by_cases q:s=k
       simp[q]
       simp_all[Ne.symm,atI]
 |cons x K ih=>
  have hx:x≠s:=λe=>h (by grind)
  have:=ih λz=>h (Qai _ z)
  rw[List.cons_append,zlo,zlo,this];by_cases q:k=s;subst q;rw[Qbu hx,Qbt rfl,Qbt rfl,Qbu (by omega)];simp
  grind
theorem RM.put{m K}(h:RM m K){s}(hs:s∉K):RM (zb7 m s (K.length:Int)) (K++[s]):=λk=>by
 rw[ycl,h k,yuv hs];by_cases q:k=s;simp[q];simp[q]
theorem Ev.pick{α R es}{f:Nat->B8->α->List (B8×α)->Option R}{g r}
  (h0:es=[]->Ev g r) (h1:∀i (h:i<es.length),Ev (λn=>f n es[i].1 es[i].2 (es.eraseIdx i)) r):Ev (λn=>y6i es (f n) (g n)) r:=by
 have hz:∃N,∀m,N<=m->(es=[]->g m=some r):=by
  by_cases he:es=[];obtain⟨N,hN⟩:=h0 he;exact⟨N,λm hm _=>hN m hm⟩
  simp_all
 have hb:∀k,k<=es.length->∃N,∀m,N<=m->∀i (h:i<es.length),i<k->f m es[i].1 es[i].2 (es.eraseIdx i)=some r:=λk=>by
  induction k with
  |zero=>simp_all
  |succ k ih=>
   intro hk;obtain⟨N,hN⟩:=ih (by omega);obtain⟨M,hM⟩:=h1 k (by omega);refine⟨max N M,λm hm i hi hik =>?_⟩;by_cases h:i=k
   grind
   grind
 obtain⟨N,hN⟩:=hz;obtain⟨M,hM⟩:=hb es.length (Qbs _);refine⟨max N M,λm hm=>yvk (hN m (by omega)) λi p hp =>?_⟩
 grind
theorem yw7{γ}{L:Nat->Int->Option γ}{len}{p:Nat->Bool}{got r b}(hb:b=true↔∃j,j<len∧p j=true)
  (he:Ev (λn=>L n (len:Int)) r)
  (hs:∀k (h:k<len) v,Ev (λn=>L n ((k+1:Nat):Int)) v->Ev (λn=>L n (k:Int)) (if p k=true then got else v)):Ev (λn=>L n 0) (if b=true then got else r):=by
 have:∀k,k<=len->∀b:Bool,(b=true↔∃j,k<=j∧j<len∧p j=true)->Ev (λn=>L n (k:Int)) (if b=true then got else r) :=
  down (λb hb=>by rw[Qbu λh=>by grind];exact he) λk hk ih b hb=>by
   cases h:p k with
   |true=>
    rw[Qbt (hb.2 ⟨k,Qbs _,hk,h⟩)];have:=hs k hk _ (ih (@decide _ (Classical.propDecidable _)) (@decide_eq_true_iff _ (Classical.propDecidable _)))
    grind
   |false=>
    have hb':b=true↔∃j,k+1<=j∧j<len∧p j=true:=by
     grind
    have:=hs k hk _ (ih b hb')
    grind
 have:=this 0 (Qbr _) b (by simp_all);simpa using this
noncomputable def ysr(p:kz0)(r:zz6)(k:Nat):Bool:=if h:k<r.params.length then decide (r.params[k]∈yzm p)||decide (atI r.params r.params[k]<(k:Int))else false
noncomputable def ytf(p:kz0)(r:zz6):Bool:=dup (r.params++yzm p)
theorem yul{p r}(ha:(yzm p).Nodup):ytf p r=true↔∃j,j<r.params.length∧ysr p r j=true:=by
 unfold ytf;rw[ync,List.nodup_append];constructor;intro h;by_cases hp:r.params.Nodup;have:¬∀a∈r.params,∀b∈yzm p,a≠b:=λz=>h ⟨hp,ha,z⟩
 simp only[Classical.not_forall,Classical.not_not]at this;obtain⟨a,h1,b,h2,h3⟩:=this;obtain⟨j,hj,e⟩:=List.mem_iff_getElem.1 h1;refine⟨j,hj,?_⟩
 simp_all[ysr]
 obtain⟨k,hk,h⟩:=yon.2 hp;refine⟨k,hk,?_⟩
 simp_all[ysr]
 rintro ⟨j,hj,h⟩ ⟨h1,_,h3⟩
 unfold ysr at h;rw[dif_pos hj,Bool.or_eq_true]at h
 rcases h with h|h
 exact h3 _ (Qad hj) _ (Qac h) rfl;exact(yon.1 ⟨j,hj,Qac h⟩) h1
theorem yb5{l:List B8}{k}(h:l.Nodup):(l.take k).Nodup:=h.sublist (List.take_sublist k l)
theorem yol{p:kz0}(hw:p.wf)(hs:p.size<=4000000){m:List (B8×Bool)}{m2:List (B8×Int)}(hm:TM m (yzm p))(hm2:RM m2 (zz7 p))(u:Bool) :
  Ev (λn=>z1w n false 0 u (mks m) (mvs m) p.rules (p.rules.length:Int) p (mks m2) (mvs m2)) (if (u || !p.rules.all (kR p))=true then 6 else if ybe p=true then 2 else 0):=by
 have:=@zya p;have:=@zr2 p;have hr:(zz7 p).length=p.rules.length:=by simp[zz7]
 have main:∀k,k<=p.rules.length->∀w u:Bool,Ev (λn=>z1w n w (k:Int) u (mks m) (mvs m) p.rules (p.rules.length:Int) p (mks m2) (mvs m2)) (if (u || !(p.rules.drop k).all (kR p))=true then 6 else if (w||(p.rules.drop k).any (zkd p))=true then 2 else 0) :=
  down (λw u=>by
   rw[znd,Ev.kz1 (by simp),List.drop_length,Ev.pif,Ev.pif,Ev.zz0,Ev.zz0,Ev.zz0]
   cases u <;> cases w <;> simp) λk hk ih w u=>by
   have hmem:=Qad hk;have:=zte hmem;have hwr:=yxx hw hmem;have:=@y2a p.rules[k];have hcl:=zgg p.rules[k];have hxl:=y8w p.rules[k]
   have l9:∀u:Bool,Ev (λn=>z3r n w u (mks m) (mvs m) p.rules (p.rules.length:Int) (k:Int) p (mks m2) (mvs m2) p.rules[k]) (if ((u || !(kz6 p.rules[k]).all λc=>decide (c.1∈zz7 p)) || !(p.rules.drop (k+1)).all (kR p))=true then 6 else if ((w||zkd p p.rules[k])||(p.rules.drop (k+1)).any (zkd p))=true then 2 else 0):=λu=>by
    have hT:((kz6 p.rules[k]).map toT).length=(kz6 p.rules[k]).length:=by simp
    rw[y1u,Ev.zz1 (zv1 (by omega)),yz5,yz5]
    have loop:∀j,j<=(kz6 p.rules[k]).length->∀w u:Bool,Ev (λn=>z4a n (j:Int) w u ((kz6 p.rules[k]).map toT) (mks m) (mvs m) p.rules (p.rules.length:Int) (k:Int) (((kz6 p.rules[k]).map toT).length:Int) p (mks m2) (mvs m2)) (if ((u || !((kz6 p.rules[k]).drop j).all λc=>decide (c.1∈zz7 p)) || !(p.rules.drop (k+1)).all (kR p))=true then 6 else if ((w||((kz6 p.rules[k]).drop j).any λc=>decide (c.1∈zz7 p)&&(c.2 != ytd p c.1))||(p.rules.drop (k+1)).any (zkd p))=true then 2 else 0) :=
     down (λw u=>by
      rw[zoo,Ev.kz1 (by simp),wrk (by omega),yz5,yz5,List.drop_length]
      simpa using ih w u) λj hj ihj w u=>by
      have hj':j<((kz6 p.rules[k]).map toT).length:=by simpa using hj
      have l11:∀w u:Bool,Ev (λn=>z11 n w u ((kz6 p.rules[k]).map toT) (mks m) (mvs m) p.rules (p.rules.length:Int) (k:Int) (((kz6 p.rules[k]).map toT).length:Int) (j:Int) p (mks m2) (mvs m2)) _:=λw u=>by
       rw[y0e,wrk (by omega),yz5,yz5];exact ihj w u
      have hget:=hm2 (kz6 p.rules[k])[j].1
      have l10:∀u:Bool,Ev (λn=>z2m n u ((kz6 p.rules[k]).map toT) (mks m) (mvs m) p.rules (p.rules.length:Int) (k:Int) (((kz6 p.rules[k]).map toT).length:Int) (j:Int) (Option.getD (z7g m2 (kz6 p.rules[k])[j].1) 0) (Option.isSome (z7g m2 (kz6 p.rules[k])[j].1)) w p (mks m2) (mvs m2) (toT (kz6 p.rules[k])[j])) (if ((u || !((kz6 p.rules[k]).drop (j+1)).all λc=>decide (c.1∈zz7 p)) || !(p.rules.drop (k+1)).all (kR p))=true then 6 else if (((w||(decide ((kz6 p.rules[k])[j].1∈zz7 p)&&((kz6 p.rules[k])[j].2 != ytd p (kz6 p.rules[k])[j].1)))||((kz6 p.rules[k]).drop (j+1)).any λc=>decide (c.1∈zz7 p)&&(c.2 != ytd p c.1))||(p.rules.drop (k+1)).any (zkd p))=true then 2 else 0):=λu=>by
       rw[y0o,yz5,yz5]
       cases w with
       |true=>rw[Ev.zz2 rfl,Bool.true_or];exact l11 true u
       |false=>
        rw[Ev.kz1 rfl,Bool.false_or];by_cases hin:(kz6 p.rules[k])[j].1∈zz7 p;obtain⟨i,hi,h1,h2,h3⟩:=y8a hin;rw[hget,Qbt hin,Qbp hin,Bool.true_and,h3,h1];show Ev (λn=>pIf true ((ix p.rules (i:Int)).bind _) _) _;rw[Ev.zz2 rfl,Ev.yz2 (zz5 hi)];exact l11 _ u;rw[hget,Qbu hin,Qbo hin,Bool.false_and];show Ev (λn=>pIf false _ _) _;rw[Ev.kz1 rfl];exact l11 false u
      rw[zoo,Ev.zz2 (by simpa using hj),Ev.yz2 (zz5 hj'),List.getElem_map,yz5,yz5,<-Qah (h:=hj),List.all_cons,List.any_cons]
      cases u with
      |true=>rw[Ev.zz2 rfl];exact(l10 true).to (by simp)
      |false=>
       rw[Ev.kz1 rfl]
       have e:Option.isSome (z7g m2 (toT (kz6 p.rules[k])[j]).name)=decide ((kz6 p.rules[k])[j].1∈zz7 p):=by
        show Option.isSome (z7g m2 (kz6 p.rules[k])[j].1)=_;rw[hget];by_cases q:(kz6 p.rules[k])[j].1∈zz7 p <;> simp[q]
       have:=l10 (!decide ((kz6 p.rules[k])[j].1∈zz7 p));have e2:Option.isSome (z7g m2 (kz6 p.rules[k])[j].1)=decide ((kz6 p.rules[k])[j].1∈zz7 p):=e;rw[e2]at this;rw[Bool.false_or,e];exact this.to (by rw[Bool.not_and,Bool.or_assoc w])
    have:=loop 0 (Qbr _) w u;rw[List.drop_zero]at this;exact this
   have l7:∀d,MK d ([[115,120],[115,121],[115,122]]++yzm p)->Ev (λn=>z1m n 0 p.rules[k].params w (mks m) (mvs m) p.rules (p.rules.length:Int) (k:Int) u (p.rules[k].params.length:Int) p (mks m2) (mvs m2) p.rules[k] (mks d) (mvs d)) (if ((u || !kR p p.rules[k]) || !(p.rules.drop (k+1)).all (kR p))=true then 6 else if ((w||zkd p p.rules[k])||(p.rules.drop (k+1)).any (zkd p))=true then 2 else 0):=λd hd=>by
    have loop:∀j,j<=p.rules[k].params.length->∀d,MK d (([[115,120],[115,121],[115,122]]++yzm p)++p.rules[k].params.take j)->Ev (λn=>z1m n (j:Int) p.rules[k].params w (mks m) (mvs m) p.rules (p.rules.length:Int) (k:Int) u (p.rules[k].params.length:Int) p (mks m2) (mvs m2) p.rules[k] (mks d) (mvs d)) (if ((u || !kR p p.rules[k]) || !(p.rules.drop (k+1)).all (kR p))=true then 6 else if ((w||zkd p p.rules[k])||(p.rules.drop (k+1)).any (zkd p))=true then 2 else 0) :=
     down (λd hd=>by
      rw[List.take_length]at hd;rw[zo3,Ev.kz1 (by simp),yz5,yz5,yz5]
      cases u with
      |true=>rw[Ev.zz2 rfl];have:=l9 true;simpa using this
      |false=>
       rw[Ev.kz1 rfl,Ev.zz1 (ynw (by omega)),Ev.zz1 (ybo (K:=scope p p.rules[k]) hd (λe he=>(yap he).2 hwr) (λe he=>by have:=(yap he).1;omega) (by omega))];have:=l9 (!(zvh p.rules[k]).all (within (scope p p.rules[k])));rw[<-Bool.not_and]at this;rw[Bool.false_or,kR]
       exact this) λj hj ihj d hd=>by
      rw[zo3,Ev.zz2 (by simpa using hj),Ev.yz2 (zz5 hj),wrk (by omega),yz5,yz5,yz5];refine ihj _ ((hd.put p.rules[k].params[j]).ext λs =>?_);rw[Qaz,zfn hj]
    exact loop 0 (Qbr _) d (by simpa using hd)
   have l6:∀len,∀es:List (B8×Bool),es.length=len->∀d D,MK d D->(∀s,(s∈D∨s∈mks es)↔s∈[[115,120],[115,121],[115,122]]++yzm p)->Ev (λn=>z4e n w (mks m) (mvs m) p.rules (p.rules.length:Int) (k:Int) u (mks es) (mvs es) p (mks m2) (mvs m2) p.rules[k] (mks d) (mvs d)) (if ((u || !kR p p.rules[k]) || !(p.rules.drop (k+1)).all (kR p))=true then 6 else if ((w||zkd p p.rules[k])||(p.rules.drop (k+1)).any (zkd p))=true then 2 else 0):=λlen=>by
    induction len with
    |zero=>
     intro es he d D hd hD;have he:=List.length_eq_zero_iff.1 he;subst he;rw[znc];refine Ev.pick (λ_ =>?_) λi hi=>by cases hi
     rw[yz5,yz5,yz5]
     exact l7 d (hd.ext λs=>by rw[<-hD s];simp[mks])
    |succ len ihl=>
     intro es he d D hd hD;rw[znc,yz5,yz5,yz5,yz5];refine Ev.pick (λh=>by rw[h]at he;cases he) λi hi =>?_
     refine ihl (es.eraseIdx i) (by rw[List.length_eraseIdx_of_lt hi];omega) _ _ (hd.put es[i].1) λs =>?_
     rw[<-hD s,Qba,Qbb];rw[yrh hi s,or_assoc]
   rw[znd,Ev.zz2 (by simpa using hk),Ev.yz2 (zz5 hk),yz5,yz5,<-Qah (h:=hk),List.all_cons,List.any_cons,Bool.not_and,<-Bool.or_assoc,<-Bool.or_assoc];refine l6 m.length m rfl _ [[115,120],[115,121],[115,122]] ?_ λs =>?_
   have h0:MK [] []:=λk=>by simp[z7g]
   exact((h0.put _).put _).put _;rw[hm.keys,Qba]
 have:=main 0 (Qbr _) false u;rw[List.drop_zero,Bool.false_or]at this;exact this
theorem y6d{p:kz0}(hw:p.wf)(hs:p.size<=4000000):Ev (λn=>z7f n p) (z9a p):=by
 have:=@zya p;have:=@zr2 p;have hal:(yzm p).length=p.attrs.length:=by simp[yzm]
 have hrl:(zz7 p).length=p.rules.length:=by simp[zz7]
 have l2:∀(m:List (B8×Bool)) (u:Bool),TM m (yzm p)->(yzm p).Nodup->∀k,k<=p.rules.length->∀m2,RM m2 ((zz7 p).take k)->((zz7 p).take k).Nodup->Ev (λn=>z3q n (k:Int) p.rules u (p.rules.length:Int) (mks m) (mvs m) (mks m2) (mvs m2) p) (if (dup (zz7 p)||(p.rules.drop k).any (ytf p))=true then 14 else if (u || !p.rules.all (kR p))=true then 6 else if ybe p=true then 2 else 0):=λm u hm hn=>
  down (λm2 hm2 hn2=>by
   rw[<-hrl,List.take_length]at hm2 hn2;rw[zoy,Ev.kz1 (by simp),yz5,yz5,List.drop_length,ywx.2 hn2]
   exact yol hw hs hm hm2 u) λk hk ih m2 hm2 hn2=>by
   have hmem:=Qad hk;have:=zte hmem;have:=@y2a p.rules[k];have hget:=hm2 p.rules[k].name;rw[zoy,Ev.zz2 (by simpa using hk),Ev.yz2 (zz5 hk),yz5,yz5];by_cases hin:p.rules[k].name∈(zz7 p).take k;rw[hget,Qbt hin,Ev.zz2 (by rfl),Ev.zz0]
   have:dup (zz7 p)=true:=by
    rw[ync];intro hd;have h:=yb5 (k:=k+1) hd;rw[ztw hk,List.nodup_append]at h;exact h.2.2 _ hin _ (Qbb.2 rfl) rfl
   rw[this];rfl;rw[hget,Qbu hin,Ev.kz1 (by rfl)];have hlen:((zz7 p).take k).length=k:=by rw[Qay];omega
   have hput:=hm2.put hin;rw[hlen,<-ztw hk]at hput
   have hnn:((zz7 p).take (k+1)).Nodup:=by
    rw[ztw hk,List.nodup_append];exact⟨hn2,by simp,λa ha b hb e=>hin (by rw[<-Qbb.1 hb,<-e];exact ha)⟩
   have hv:=ih _ hput hnn
   have l3:=yw7 (L:=λn j=>z41 n j p.rules[k].params p.rules u (p.rules.length:Int) (k:Int) (p.rules[k].params.length:Int) p.rules[k] (mks m) (mvs m) (mks (zb7 m2 p.rules[k].name (k:Int))) (mvs (zb7 m2 p.rules[k].name (k:Int))) p) (len:=p.rules[k].params.length) (p:=ysr p p.rules[k]) (got:=14) (yul (r:=p.rules[k]) hn) (by
    rw[znu,Ev.kz1 (by simp),wrk (by omega),yz5,yz5];exact hv) λj hj w hw'=>by
    have l4:∀b:Bool,Ev (λn=>z4j n p.rules[k].params p.rules u (p.rules.length:Int) (k:Int) (p.rules[k].params.length:Int) (j:Int) b p.rules[k] (mks m) (mvs m) (mks (zb7 m2 p.rules[k].name (k:Int))) (mvs (zb7 m2 p.rules[k].name (k:Int))) p) (if b=true then 14 else w):=λb=>by
     cases b;rw[zoi,Ev.kz1 (by rfl),wrk (by omega),yz5,yz5];exact hw';rw[zoi,Ev.zz2 (by rfl),Ev.zz0];rfl
    rw[znu,Ev.zz2 (by simpa using hj),Ev.yz2 (zz5 hj),yz5,yz5,hm.mk,ysr,dif_pos hj];by_cases h:p.rules[k].params[j]∈yzm p;rw[Qbp h,Ev.zz2 rfl];exact l4 true;rw[Qbo h,Ev.kz1 rfl,Ev.zz1 (ysc (by omega))];exact l4 _
   refine l3.to ?_;rw[<-Qah (h:=hk),List.any_cons];cases ytf p p.rules[k] <;> cases dup (zz7 p) <;> rfl
 have l0:∀k,k<=p.attrs.length->∀(u:Bool) (m:List (B8×Bool)),TM m ((yzm p).take k)->((yzm p).take k).Nodup->Ev (λn=>z4d n (k:Int) u p.attrs (p.attrs.length:Int) (mks m) (mvs m) (mks ([]:List (B8×Int))) (mvs ([]:List (B8×Int))) p) (if dup (yzm p)=true then 14 else if (dup (zz7 p)||p.rules.any (ytf p))=true then 14 else if ((u || !kA ((yzm p).take k) (p.attrs.drop k)) || !p.rules.all (kR p))=true then 6 else if ybe p=true then 2 else 0) :=
  down (λu m hm hn=>by
   rw[<-hal,List.take_length]at hm hn;rw[zov,Ev.kz1 (by simp),yz5,yz5,List.drop_length,ywx.2 hn,kA,Qbu (by simp)];have:=l2 m u hm hn 0 (Qbr _) [] (by rw[List.take_zero];exact RM.nil) (by rw[List.take_zero];exact List.nodup_nil);rw[List.drop_zero]at this
   simpa using this) λk hk ih u m hm hn=>by
   have hmem:=Qad hk;have:=yne hmem;have:=@yo3 p.attrs[k]
   have l1:∀u:Bool,Ev (λn=>z3s n u p.attrs (p.attrs.length:Int) (k:Int) (mks m) (mvs m) (mks ([]:List (B8×Int))) (mvs ([]:List (B8×Int))) p p.attrs[k]) (if dup (yzm p)=true then 14 else if (dup (zz7 p)||p.rules.any (ytf p))=true then 14 else if ((u || !kA ((yzm p).take (k+1)) (p.attrs.drop (k+1))) || !p.rules.all (kR p))=true then 6 else if ybe p=true then 2 else 0):=λu=>by
    rw[y1x,yz5,yz5,hm p.attrs[k].name];by_cases hin:p.attrs[k].name∈(yzm p).take k;rw[Qbt hin];show Ev (λn=>pIf true _ _) _;rw[Ev.zz2 rfl,Ev.zz0]
    have:dup (yzm p)=true:=by
     rw[ync];intro hd;have h:=yb5 (k:=k+1) hd;rw[zjs hk,List.nodup_append]at h;exact h.2.2 _ hin _ (Qbb.2 rfl) rfl
    rw[this];rfl;rw[Qbu hin];show Ev (λn=>pIf false _ _) _;rw[Ev.kz1 rfl,wrk (by omega)];refine ih u _ ?_ ?_;rw[zjs hk];exact hm.put _;rw[zjs hk,List.nodup_append];exact⟨hn,by simp,λa ha b hb e=>hin (by rw[<-Qbb.1 hb,<-e];exact ha)⟩
   rw[zov,Ev.zz2 (by simpa using hk),Ev.yz2 (zz5 hk),yz5,yz5,kzi.yz4,yz1.yz4,<-Qah (h:=hk),kA,<-zjs hk]
   cases u with
   |true=>rw[Ev.zz2 rfl];exact(l1 true).to (by simp)
   |false=>
    rw[Ev.kz1 rfl,Ev.zz1 (yb7 hm.mk (z00t hw hmem) (by omega)),yz5];exact(l1 _).to (by rw[Bool.false_or,Bool.not_and])
 have h0:=l0 0 (Qbr _) false [] (by rw[List.take_zero];exact TM.nil) (by rw[List.take_zero];exact List.nodup_nil);rw[yac,Ev.zz1 (ypp (by omega)),z9a];cases y2g p
 case true=>rw[Ev.zz2 (by rfl),Ev.zz0];rfl
 rw[Ev.kz1 (by rfl),Ev.zz1 (yjx hw (by omega)),Qbu (by simp)];cases zhm p
 case false=>rw[Ev.zz2 (by rfl),Ev.zz0];rfl
 rw[Ev.kz1 (by rfl),Qbt rfl];refine Ev.to h0 ?_;rw[List.take_zero,List.drop_zero,yp2,y52];show(if dup (yzm p)=true then _ else if (dup (zz7 p)||p.rules.any λr=>dup (r.params++yzm p))=true then _ else _)=_;cases dup (yzm p) <;> cases (dup (zz7 p)||p.rules.any λr=>dup (r.params++yzm p)) <;> cases kA [] p.attrs <;> cases p.rules.all (kR p) <;> rfl
def zst(l acc:List B8):List B8:=l.foldl ins acc
theorem y9l{l:List B8}:∀{acc:List B8}{x:B8},x∈zst l acc↔x∈acc∨x∈l:=by
 induction l with
 |nil=>intro acc x;simp[zst]
 |cons y l ih=>
  intro acc x;show x∈zst l (ins acc y)↔_;rw[ih,y37,Qbi,or_assoc]
theorem zxr{l:List B8}:∀{acc:List B8},z9l acc->z9l (zst l acc):=by
 induction l with
 |nil=>intro acc h;exact h
 |cons y l ih=>intro acc h;exact ih (zsq h)
theorem y3j{l:List B8}(h:z9l l):l.Nodup:=by
 refine List.Pairwise.imp (λ{a b} hab e =>?_) h;subst e;rw[zq8]at hab;cases hab
theorem ybf{l:List B8}(h:l.Pairwise λx y=>Op.bytesLess y x=false):z9l (Lib.compact l)∧∀x,x∈Lib.compact l↔x∈l:=by
 have hd:∀j (hj:j<l.length),l.toArray[j]! = l[j]:=λj hj=>by simp[hj]
 have main:∀m,m<=l.length->z9l (Lib.compactUpTo l.toArray m)∧∀x,x∈Lib.compactUpTo l.toArray m↔x∈l.take m:=λm=>by
  induction m with
  |zero=>intro _;simp[Lib.compactUpTo,z9l]
  |succ m ih=>
   intro hm;obtain⟨h1,h2⟩:=ih (by omega);have hlt:m<l.length:=by omega
   rw[Lib.compactUpTo_succ,hd m hlt,<-zfn hlt]
   have hlt':∀x,x∈l.take m->Op.bytesLess l[m] x=false:=λx hx=>by
    rw[<-List.take_append_drop m l]at h;have:=(List.pairwise_append.1 h).2.2 x hx l[m] (by rw[<-Qah (h:=hlt)];exact Qak);exact this
   by_cases hk:Lib.keeps l.toArray m=true;rw[Qbt hk];refine⟨?_,λx=>by rw[Qba,Qba,h2]⟩;unfold z9l;rw[List.pairwise_append];refine⟨h1,by simp,λx hx y hy =>?_⟩;rw[Qbb.1 hy];have hx:=(h2 x).1 hx;cases hb:Op.bytesLess x l[m];have e:=zrn hb (hlt' x hx)
   exfalso
   have hm0:0<m:=by
    rcases Nat.eq_zero_or_pos m with q|q
    subst q;simp at hx;exact q
   have hp:l[m-1]∈l.take m:=List.mem_take_iff_getElem.2 ⟨m-1,by omega,rfl⟩
   have e1:l[m-1]=l[m]:=by
    have a1:=hlt' _ hp;refine zrn ?_ a1;obtain⟨i,hi,rfl⟩:=List.mem_take_iff_getElem.1 hx
    have a2:i=m-1∨Op.bytesLess l[m-1] l[i]=false:=by
     rcases Nat.lt_or_ge i (m-1)with q|q
     exact .inr (List.pairwise_iff_getElem.1 h i (m-1) (by omega) (by omega) q);exact .inl (by omega)
    rcases a2 with a2|a2
    subst a2;exact hb;rw[e]at a2;exact a2
   have:Lib.keeps l.toArray m=false:=Lib.keeps_neg hm0 (by rw[hd m hlt,hd (m-1) (by omega),e1]);rw[this]at hk;cases hk;rfl;rw[Qbu hk,List.append_nil];refine⟨h1,λx =>?_⟩;rw[h2,Qba,Qbb];refine⟨.inl,λq=>q.elim id λq =>?_⟩;subst q
   have hm0:0<m:=by
    rcases Nat.eq_zero_or_pos m with q|q
    subst q;exact(hk (Lib.keeps_lt_one _ 0 (by omega))).elim;exact q
   have e:l.toArray[m]! = l.toArray[m-1]! := Classical.byContradiction λz=>hk (Lib.keeps_pos z)
   rw[hd m hlt,hd (m-1) (by omega)]at e;rw[e];exact List.mem_take_iff_getElem.2 ⟨m-1,by omega,rfl⟩
 have:=main l.length (Qbs _);rw[List.take_length]at this;exact this
theorem yu8(l:List B8):(z27 l).Pairwise λx y=>Op.bytesLess y x=false:=by
 have hp:(z27 l).Pairwise λx y=>decide (x<=y)=true:=List.pairwise_mergeSort (λa b c h1 h2=>by
  rw[ynl,Bool.not_eq_true']at *
  exact ytn h2 h1) (λa b=>by
  rw[ynl,ynl];cases h:Op.bytesLess b a;rfl
  rw[yn7 h];rfl) l
 refine List.Pairwise.imp (λ{x y} h =>?_) hp;rw[ynl,Bool.not_eq_true']at h;exact h
theorem yih(l:List B8):zru (z27 l)=zst l []:=by
 obtain⟨h1,h2⟩:=ybf (yu8 l);refine zp6 h1 (zxr (by simp[z9l])) λx =>?_
 rw[h2,y9l,(zc7 l).mem_iff];simp
theorem yww{α σ:Type}{L:Nat->Int->Option (Int×σ)}{xs:List α}{f:α->B8}{s:B8}{st:σ}(he:Ev (λn=>L n (xs.length:Int)) (-1,st))
  (hs:∀k (h:k<xs.length) v,(f xs[k]=s->Ev (λn=>L n (k:Int)) ((k:Int),st))∧(f xs[k]≠s->Ev (λn=>L n ((k+1:Nat):Int)) v->Ev (λn=>L n (k:Int)) v)):Ev (λn=>L n 0) (atI (xs.map f) s,st):=by
 have:∀k,k<=xs.length->Ev (λn=>L n (k:Int)) (if atI ((xs.drop k).map f) s = -1 then -1 else atI ((xs.drop k).map f) s+k,st) :=
  down (by rw[List.drop_length];exact he) λk hk ih=>by
   obtain⟨h1,h2⟩:=hs k hk (if atI ((xs.drop (k+1)).map f) s = -1 then -1 else atI ((xs.drop (k+1)).map f) s+((k+1:Nat):Int),st);rw[<-Qah (h:=hk),List.map_cons,zlo];by_cases q:f xs[k]=s;rw[Qbt q];refine(h1 q).to ?_;simp;rw[Qbu q];refine(h2 q ih).to ?_;have h0:=@yxt ((xs.drop (k+1)).map f) s;by_cases z:atI ((xs.drop (k+1)).map f) s = -1;rw[Qbt z,Qbt z,Qbt rfl]
   rw[Qbu z,Qbu z,Qbu (by omega)];have:atI ((xs.drop (k+1)).map f) s+((k+1:Nat):Int)=atI ((xs.drop (k+1)).map f) s+1+(k:Int):=by omega
   rw[this]
 have:=this 0 (Qbr _);rw[List.drop_zero]at this;refine Ev.to this ?_;split;rename_i h;rw[h];simp
theorem ycb{p:kz0}{s:B8}(hs:p.size<=4000000):Ev (λn=>zc1 n p s) (atI (zz7 p) s):=by
 have:=@zr2 p
 have h:Ev (λn=>zzf n p.rules s) (atI (zz7 p) s,s):=by
  rw[zez];refine yww (L:=λn k=>kz7 n k p.rules (p.rules.length:Int) s) (xs:=p.rules) (f:=(·.name)) (by rw[z0f,Ev.kz1 (by simp),Ev.zz0]) λk hk v =>?_
  have hf:Ev (λn=>zd7 n p.rules[k] s) (p.rules[k].name==s,s):=by rw[yfu,Ev.zz0]
  constructor;intro q;rw[z0f,Ev.zz2 (by simpa using hk),Ev.yz2 (zz5 hk),Ev.zz1 hf,Ev.zz2 (by simpa using q),Ev.zz0];intro q hv;rw[z0f,Ev.zz2 (by simpa using hk),Ev.yz2 (zz5 hk),Ev.zz1 hf,Ev.kz1 (by simpa using q),wrk (by omega)];exact hv
 rw[yl4,Ev.zz1 h,Ev.zz0]
def zhz(r:zz6):List B8:=(kz6 r).map (·.1)
def nx(p:kz0)(s:B8):List B8:=match p.rules[(atI (zz7 p) s).toNat]? with
 |some r=>zhz r
 |none=>[]
theorem ya8{p:kz0}(h:z9a p=0):zhm p=true∧(zz7 p).Nodup∧(∀r∈p.rules,∀c∈zhz r,c∈zz7 p):=by
 unfold z9a at h;by_cases h1:y2g p=true;rw[Qbt h1]at h;cases h;rw[Qbu h1]at h;by_cases h2:zhm p=true
 case neg=>rw[Qbu h2]at h;cases h
 rw[Qbt h2]at h;by_cases h3:yp2 p=true;rw[Qbt h3]at h;cases h;rw[Qbu h3]at h;by_cases h4:y52 p=true
 case neg=>rw[Qbu h4]at h;cases h
 refine⟨h2,?_,λr hr c hc =>?_⟩;unfold yp2 at h3;simp only[Bool.or_eq_true,not_or]at h3;exact ywx.1 (by simpa using h3.2.1);have h5:=Qat.1 (Bool.and_eq_true_iff.1 h4).2 r hr;obtain⟨q,hq,rfl⟩:=Qbf.1 hc;exact Qac (Qat.1 (Bool.and_eq_true_iff.1 h5).2 q hq)
inductive Rch (p:kz0) (root:B8):B8->Prop
 |refl:Rch p root root
 |step {x y:B8}:Rch p root x->y∈nx p x->Rch p root y
theorem y4y{p:kz0}{root:B8}(hc:∀r∈p.rules,∀c∈zhz r,c∈zz7 p)(hr:root∈zz7 p){x:B8}(h:Rch p root x):x∈zz7 p:=by
 induction h with
 |refl=>exact hr
 |step _ hy _=>
  unfold nx at hy;split at hy;rename_i r hr;exact hc r (Qax hr) _ hy;cases hy
theorem yrm{p:kz0}{root:B8}{l:List B8}(h0:root∈l)(hc:∀x∈l,∀y∈nx p x,y∈l){x:B8}(h:Rch p root x):x∈l:=by
 induction h with
 |refl=>exact h0
 |step _ hy ih=>exact hc _ ih _ hy
theorem zwf{l m:List B8}(hn:l.Nodup)(h:∀x∈l,x∈m):l.length<=m.length:=hn.length_le_of_subset h
noncomputable def ziv(p:kz0)(s:B8):List B8×Int:=if z9a p≠0 then ([],z9a p)else if s∈zz7 p then (zst (nx p s) [],0)else ([],6)
theorem z012{p:kz0}{s:B8}{i:Nat}(hi:i<p.rules.length)(h:atI (zz7 p) s=(i:Int)):nx p s=zhz p.rules[i]:=by
 unfold nx;rw[h,Int.toNat_natCast,Qab hi]
theorem yix{l:List B8}(h:l.length<=8000000):Ev (λn=>zze n l) (z27 l):=Ev.pure (by show(if l.length<4611686018427387904 then _ else _)=_;rw[Qbt (by omega),ybt])
theorem yq3{l:List B8}(h:l.length<=8000000):Ev (λn=>z4y n l) (zru l):=Ev.pure (by show(if l.length<=9223372036854775807 then _ else _)=_;rw[Qbt (by omega)])
theorem ysv(l:List B8):(z27 l).length=l.length:=(zc7 l).length_eq
theorem ymj{p:kz0}{s:B8}(hw:p.wf)(hs:p.size<=4000000):Ev (λn=>z95 n p s) (ziv p s):=by
 rw[yay,Ev.zz1 (y6d hw hs),ziv];by_cases hc:z9a p=0
 case neg=>rw[Ev.zz2 (by simpa using hc),Ev.zz0,Qbt hc]
 rw[Ev.kz1 (by simpa using hc),Ev.zz1 (ycb hs),Qbu (by simp[hc])];by_cases hin:s∈zz7 p
 case neg=>rw[Ev.zz2 (Qbp (zg9.2 hin)),Ev.zz0,Qbu hin]
 obtain⟨i,hi,h1,h2,h3⟩:=y8a hin;have:=zte (Qad hi);have hcl:=zgg p.rules[i];rw[Ev.kz1 (Qbo λq=>zg9.1 q hin),Qbt hin,h1,Ev.yz2 (zz5 hi),Ev.zz1 (zv1 (by omega)),z012 hi h1];have hml:((kz6 p.rules[i]).map toT).length=(kz6 p.rules[i]).length:=by simp
 refine yb0 (L:=λn k s=>z4q n k ((kz6 p.rules[i]).map toT) (((kz6 p.rules[i]).map toT).length:Int) s) (xs:=(kz6 p.rules[i]).map toT) (f:=λs x=>s++[x.name]) (I:=λk s=>s.length=k) rfl (λhI =>?_) λk hk s hI=>⟨by simp[hI],λh =>?_⟩
 have hl:((kz6 p.rules[i]).map toT).foldl (λs x=>s++[x.name]) []=zhz p.rules[i]:=by
  rw[zyu,List.nil_append,List.map_map];rfl
 rw[hl]at hI ⊢;rw[zo2,Ev.kz1 (by simp),Ev.zz1 (yix (by omega)),Ev.zz1 (yq3 (by rw[ysv];omega)),Ev.zz0,yih];rw[zo2,Ev.zz2 (by simpa using hk),Ev.yz2 (zz5 hk),Ev.yz2 (z8j (by simp only[List.length_cons,List.length_nil];omega)),wrk (by omega)];exact h
def Set(p:kz0)(root:B8)(r:List B8×Int):Prop:=r.2=0∧z9l r.1∧∀x,x∈r.1↔Rch p root x
theorem yn9{p:kz0}{root:B8}(hw:p.wf)(hs:p.size<=4000000):∃r,Ev (λn=>z2b n p root) r∧(if z9a p≠0 then r=([],z9a p)else if root∈zz7 p then Set p root r else r=([],6)):=by
 have hpl:=@zr2 p;have hrl:(zz7 p).length=p.rules.length:=by simp[zz7]
 simp only[y9t,Ev.zz1 (y6d hw hs)];by_cases hc:z9a p=0
 case neg=>exact⟨([],z9a p),by rw[Ev.zz2 (by simpa using hc),Ev.zz0],by rw[Qbt hc]⟩
 obtain⟨hf,hnd,hcn⟩:=ya8 hc;simp only[Qbu (show ¬z9a p≠0 by simp[hc]),Ev.kz1 (show(z9a p != 0)=false by simpa using hc),Ev.zz1 (ycb hs)];by_cases hin:root∈zz7 p
 case neg=>exact⟨([],6),by rw[Ev.zz2 (Qbp (zg9.2 hin)),Ev.zz0],by rw[Qbu hin]⟩
 simp only[Qbt hin,Ev.kz1 (show decide (atI (zz7 p) root<0)=false from Qbo λq=>zg9.1 q hin)]
 have main:∀d i (out:List B8) m,(zz7 p).length-i=d->i<=out.length->out.Nodup->TM m out->root∈out->(∀x∈out,Rch p root x)->(∀j x,j<i->out[j]? = some x->∀y∈nx p x,y∈out)->∃r,Ev (λn=>z3y n (i:Int) out (mks m) (mvs m) p) r∧Set p root r:=λd=>by
  induction d with
  |zero=>
   intro i out m hd hi hn hm h0 hr hcl;have hsub:=zwf hn λx hx=>y4y hcn hin (hr x hx)
   have hil:i=out.length:=by omega
   refine⟨(z27 out,0),?_,rfl,zsy hn,λx =>?_⟩;rw[zhr,Ev.kz1 (by simp;omega),Ev.zz1 (yix (by omega)),Ev.zz0];rw[(zc7 out).mem_iff];refine⟨hr x,yrm h0 λx hx y hy =>?_⟩;obtain⟨j,hj,e⟩:=List.mem_iff_getElem.1 hx
   exact hcl j x (by omega) (by rw[Qab hj,e]) y hy
  |succ d ih=>
   intro i out m hd hi hn hm h0 hr hcl;have hsub:=zwf hn λx hx=>y4y hcn hin (hr x hx)
   by_cases hil:i=out.length;refine⟨(z27 out,0),?_,rfl,zsy hn,λx =>?_⟩;rw[zhr,Ev.kz1 (by simp;omega),Ev.zz1 (yix (by omega)),Ev.zz0];rw[(zc7 out).mem_iff];refine⟨hr x,yrm h0 λx hx y hy =>?_⟩;obtain⟨j,hj,e⟩:=List.mem_iff_getElem.1 hx;exact hcl j x (by omega) (by rw[Qab hj,e]) y hy;have hlt:i<out.length:=by omega
   have hrx:=hr _ (Qad hlt);obtain⟨a,ha,h1,h2,h3⟩:=y8a (y4y hcn hin hrx);have:=zte (Qad ha);have hca:=zgg p.rules[a];have hnx:=z012 ha h1;have hml:((kz6 p.rules[a]).map toT).length=(kz6 p.rules[a]).length:=by simp
   have inner:∀j,j<=(kz6 p.rules[a]).length->∀(o:List B8) m,o.Nodup->TM m o->out <+: o->(∀x∈o,Rch p root x)->(∀y∈(zhz p.rules[a]).take j,y∈o)->∃r,Ev (λn=>z4l n (j:Int) ((kz6 p.rules[a]).map toT) (i:Int) (((kz6 p.rules[a]).map toT).length:Int) o (mks m) (mvs m) p) r∧Set p root r :=
    down (λo m hn hm hpre hr hall=>by
     have hsub':=zwf hn λx hx=>y4y hcn hin (hr x hx)
     have hol:=hpre.length_le;have e:(zhz p.rules[a]).length=(kz6 p.rules[a]).length:=by simp[zhz]
     rw[<-e,List.take_length]at hall
     obtain⟨r,hr1,hr2⟩:=ih (i+1) o m (by omega) (by omega) hn hm (hpre.subset h0) hr λj x hj hx y hy=>by
      obtain⟨t,rfl⟩:=hpre;rw[Qal (by omega)]at hx;by_cases q:j<i;exact List.mem_append_left _ (hcl j x q hx y hy);have:j=i:=by omega
      subst this;rw[Qab hlt]at hx;injection hx with hx;rw[<-hx,hnx]at hy;exact hall y hy
     exact⟨r,by rw[zi3,Ev.kz1 (by simp),wrk (by omega),yz5];exact hr1,hr2⟩) λj hj ihj o m hn hm hpre hr hall=>by
     have hsub':=zwf hn λx hx=>y4y hcn hin (hr x hx)
     have hj':j<((kz6 p.rules[a]).map toT).length:=by simpa using hj
     have hjc:j<(zhz p.rules[a]).length:=by simpa[zhz]using hj
     have hcj:(zhz p.rules[a])[j]=(kz6 p.rules[a])[j].1:=by simp[zhz]
     have htk:(zhz p.rules[a]).take (j+1)=(zhz p.rules[a]).take j++[(kz6 p.rules[a])[j].1]:=by rw[<-hcj,zfn hjc]
     have hmj:=hm.mk (kz6 p.rules[a])[j].1;by_cases q:(kz6 p.rules[a])[j].1∈o
     obtain⟨r,hr1,hr2⟩:=ihj o m hn hm hpre hr λy hy=>by
      rw[htk,Qba,Qbb]at hy
      rcases hy with hy|hy
      exact hall y hy;rw[hy];exact q
     refine⟨r,?_,hr2⟩;rw[zi3,Ev.zz2 (by simpa using hj),Ev.yz2 (zz5 hj'),List.getElem_map,yz5];show Ev (λn=>pIf (!Option.getD (z7g m (kz6 p.rules[a])[j].1) false) _ _) _;rw[hmj,Qbp q,Ev.kz1 (by rfl),znn,wrk (by omega),yz5];exact hr1;have hrc:Rch p root (kz6 p.rules[a])[j].1:=.step hrx (by rw[hnx,<-hcj];exact Qad hjc)
     obtain⟨r,hr1,hr2⟩:=ihj (o++[(kz6 p.rules[a])[j].1]) _ (by
      rw[List.nodup_append]
      exact⟨hn,by simp,λx hx y hy e=>q (by rw[<-Qbb.1 hy,<-e];exact hx)⟩) (hm.put _) (hpre.trans (List.prefix_append _ _)) (λx hx=>by
      rcases Qba.1 hx with hx|hx
      exact hr x hx
      rw[Qbb.1 hx];exact hrc) λy hy=>by
      rw[htk,Qba]at hy
      rcases hy with hy|hy
      exact List.mem_append_left _ (hall y hy);exact List.mem_append_right _ hy
     refine⟨r,?_,hr2⟩;rw[zi3,Ev.zz2 (by simpa using hj),Ev.yz2 (zz5 hj'),List.getElem_map,yz5];show Ev (λn=>pIf (!Option.getD (z7g m (kz6 p.rules[a])[j].1) false) ((ext o [(kz6 p.rules[a])[j].1]).bind _) _) _;rw[hmj,Qbo q,Ev.zz2 (by rfl),Ev.yz2 (z8j (by simp only[List.length_cons,List.length_nil];omega)),znn,wrk (by omega),yz5];exact hr1
   obtain⟨r,hr1,hr2⟩:=inner 0 (Qbr _) out m hn hm (List.prefix_refl _) hr (by simp);refine⟨r,?_,hr2⟩;rw[zhr,Ev.zz2 (by simpa using hlt),Ev.yz2 (zz5 hlt),Ev.zz1 (ycb hs),h1,Ev.yz2 (zz5 ha),Ev.zz1 (zv1 (by omega)),yz5];exact hr1
 exact main _ 0 [root] _ rfl (Qbr _) (by simp) (TM.nil.put root) (by simp) (λx hx=>by rw[Qbb.1 hx];exact .refl) λj x hj=>by omega
theorem yud{p:kz0}(hw:p.wf)(hs:p.size<=4000000):∃b,Ev (λn=>z23 n p) b∧(b=true->z9a p=0):=by
 obtain⟨g,hg⟩:=great (p:=p) (by omega)
 cases g with
 |true=>exact⟨false,by rw[zig,Ev.zz1 hg,Ev.kz1 (c := !true) rfl,Ev.zz0],λh=>by cases h⟩
 |false=>exact⟨z9a p==0,by rw[zig,Ev.zz1 hg,Ev.zz2 (c := !false) rfl,Ev.zz1 (yoc hw hs),Ev.zz0],λh=>by simpa using h⟩
theorem yrl{p:kz0}(h:z9a p=0):p.rules.length<=40:=by
 unfold z9a at h;split at h;cases h;rename_i hm;simp only[y2g,Bool.or_eq_true,Qar,not_or]at hm;omega
theorem yn1{p:kz0}{root:B8}(hw:p.wf)(hs:p.size<=4000000)(hc:z9a p=0)(hr:root∈zz7 p):∃r,Ev (λn=>z2b n p root) r∧Set p root r:=by
 obtain⟨r,h1,h2⟩:=yn9 (root:=root) hw hs;rw[Qbu (by simpa using hc)]at h2;exact⟨r,h1,by simpa[hr]using h2⟩
theorem Rch.trans{p:kz0}{a b c:B8}(h:Rch p a b)(k:Rch p b c):Rch p a c:=by
 induction k with
 |refl=>exact h
 |step _ hy ih=>exact .step ih hy
theorem y2w{p:kz0}{root:B8}{r:List B8×Int}(hc:z9a p=0)(hr:root∈zz7 p)(h:Set p root r):r.1.length<=40∧∀x∈r.1,x∈zz7 p:=by
 obtain⟨h1,h2,h3⟩:=ya8 hc;have hin:∀x∈r.1,x∈zz7 p:=λx hx=>y4y h3 hr ((h.2.2 x).1 hx)
 have:=zwf (y3j h.2.1) hin;have h40:=yrl hc;simp only[zz7,Qbc]at this;exact⟨by omega,hin⟩
theorem nx_in{p:kz0}(hc:z9a p=0){s:B8}:∀y∈nx p s,y∈zz7 p:=λy hy=>by
 obtain⟨h1,h2,h3⟩:=ya8 hc;unfold nx at hy;split at hy;rename_i r hr;exact h3 r (Qax hr) _ hy;cases hy
theorem yxd{p:kz0}(hc:z9a p=0){s:B8}(hs:s∈zz7 p):(ziv p s).2=0∧(ziv p s).1.length<=40∧∀y,y∈(ziv p s).1↔y∈nx p s:=by
 have e:ziv p s=(zst (nx p s) [],0):=by unfold ziv;rw[Qbu (by simpa using hc),Qbt hs]
 rw[e];have hm:∀y,y∈zst (nx p s) []↔y∈nx p s:=λy=>by rw[y9l];simp
 refine⟨rfl,?_,hm⟩;have:=zwf (y3j (zxr (l:=nx p s) (acc:=[]) List.Pairwise.nil)) λx hx=>nx_in hc _ ((hm x).1 hx)
 have h40:=yrl hc;simp only[zz7,Qbc]at this;show(zst (nx p s) []).length<=40;omega
theorem ysm{p:kz0}{k:Int}(hw:p.wf)(hs:p.size<=4000000)(alive:Ev (λn=>z0h n) true):Ev (λn=>kzj n p k) true:=by
 have out:∀(k:Int),Ev (λn=>yzf n k true p) true:=λk=>by
  rw[zbz,Ev.zz2 rfl,Ev.zz1 alive,Ev.zz0]
 obtain⟨b,hb,hv⟩:=yud hw hs;rw[zli,Ev.zz1 hb]
 cases b with
 |false=>rw[Ev.zz2 (c := !false) rfl];exact out k
 |true=>
 rw[Ev.kz1 (c := !true) rfl];have hc:=hv rfl;by_cases hk0:k<0;rw[Ev.zz2 (Qbp hk0)];exact out k;rw[Ev.kz1 (Qbo hk0)];by_cases hk1:k>=(p.rules.length:Int);rw[show decide (k>=(p.rules.length:Int))=true from Qbp hk1];exact out k;rw[show decide (k>=(p.rules.length:Int))=false from Qbo hk1];obtain⟨i,rfl⟩:∃i:Nat,k=(i:Int):=⟨k.toNat,by omega⟩
 have hi:i<p.rules.length:=by omega
 have hroot:p.rules[i].name∈zz7 p:=Qbf.2 ⟨_,Qad hi,rfl⟩;generalize hrt:p.rules[i].name=root at hroot;obtain⟨r,hr,hset⟩:=yn1 hw hs hc hroot;obtain⟨rl,r2⟩:=r;obtain⟨s1,s2,s3⟩:=hset;have s1:r2=0:=s1;subst s1;have hset:Set p root (rl,0):=⟨rfl,s2,s3⟩;have s2:z9l rl:=s2;have s3:∀x,x∈rl↔Rch p root x:=s3;obtain⟨hlen,hin⟩:=y2w hc hroot hset;have hlen:rl.length<=40:=hlen
 have hin:∀x∈rl,x∈zz7 p:=hin;rw[zbz,Ev.kz1 rfl,Ev.yz2 (zz5 hi),hrt,Ev.zz1 hr,Ev.kz1 (by rfl),Ev.zz1 (zlq (by show rl.length<=_;omega))];have hmem:root∈rl:=(s3 root).2 .refl;rw[show decide (atI (rl,(0:Int)).1 root<0)=false from Qbo λq=>zg9.1 q hmem,zjy,Ev.kz1 rfl]
 have last:∀c:List B8,c.length<=100000->(∀x∈rl,∀y∈nx p x,y∈c)->Ev (λn=>zzg n 0 rl root c) true:=λc hcl hcc=>by
  refine down (len:=rl.length) (Q:=λj=>Ev (λn=>zzg n (j:Int) rl root c) true) ?_ (λj hj ih =>?_) 0 (Qbr _);rw[zbx,Ev.kz1 (by simp),Ev.zz1 alive,Ev.zz0];rw[zbx,Ev.zz2 (by simpa using hj),Ev.yz2 (zz5 hj)]
  have nxt:Ev (λn=>yzj n rl root (j:Int) false c) true:=by
   rw[zjf,Ev.kz1 rfl,wrk (by omega)];exact ih
  by_cases he:rl[j]=root;rw[Ev.kz1 (by simp[he])];exact nxt;rw[Ev.zz2 (by simpa using he),Ev.yz2 (zz5 hj),Ev.zz1 (ygx (by omega))]
  have hin2:rl[j]∈c:=by
   have hx:=(s3 rl[j]).1 (Qad hj);generalize rl[j]=x at hx he
   cases hx with
   |refl=>exact(he rfl).elim
   |step hx hy=>exact hcc _ ((s3 _).2 hx) _ hy
  rw[show decide (atI c rl[j]<0)=false from Qbo λq=>zg9.1 q hin2];exact nxt
 refine down (len:=rl.length) (Q:=λj=>∀c:List B8,c.length<=40 * j->(∀x∈rl.take j,∀y∈nx p x,y∈c)->Ev (λn=>zzk n rl (j:Int) root c p) true) (λc h1 h2 =>?_) (λj hj ih c h1 h2 =>?_) 0 (Qbr _) [] (by simp) (by simp);rw[zbs,Ev.kz1 (by simp)];exact last c (by omega) (by rw[List.take_length]at h2;exact h2);have hxm:=Qad hj;have hxn:=hin _ hxm;obtain⟨c1,c2,c3⟩:=yxd hc hxn
 obtain⟨m,hm,hms⟩:=yn1 hw hs hc hxn;obtain⟨ml,m2⟩:=m;obtain⟨t1,t2,t3⟩:=hms;have t1:m2=0:=t1;subst t1;obtain⟨hml,_⟩:=y2w hc hxn (r:=(ml,0)) ⟨rfl,t2,t3⟩;have hml:ml.length<=40:=hml;have t3:∀x,x∈ml↔Rch p rl[j] x:=t3;rw[zbs,Ev.zz2 (by simpa using hj),Ev.yz2 (zz5 hj),Ev.zz1 (ymj hw hs),Ev.yz2 (zz5 hj),Ev.zz1 hm,Ev.kz1 (by rw[c1];rfl),Ev.kz1 (by rfl)]
 have l5:∀d:List B8,d.length<=40 * (j+1)->(∀x∈rl.take (j+1),∀y∈nx p x,y∈d)->Ev (λn=>yzg n 0 ml rl root (j:Int) d p) true:=λd hd1 hd2=>by
  refine down (len:=ml.length) (Q:=λq=>Ev (λn=>yzg n (q:Int) ml rl root (j:Int) d p) true) ?_ (λq hq ih2 =>?_) 0 (Qbr _);rw[zby,Ev.kz1 (by simp),wrk (by omega)];exact ih d hd1 hd2;have hmq:ml[q]∈rl:=(s3 _).2 (((s3 _).1 hxm).trans ((t3 _).1 (Qad hq)));rw[zby,Ev.zz2 (by simpa using hq),Ev.yz2 (zz5 hq),Ev.zz1 (zlq (by omega)),Ev.kz1 (Qbo λz=>zg9.1 z hmq),wrk (by omega)]
  exact ih2
 have l4:Ev (λn=>kzf n 0 (ziv p rl[j]).1 rl ml root (j:Int) c p) true:=by
  refine down (len:=(ziv p rl[j]).1.length) (Q:=λq=>∀d:List B8,d=c++(ziv p rl[j]).1.take q->Ev (λn=>kzf n (q:Int) (ziv p rl[j]).1 rl ml root (j:Int) d p) true) (λd hd =>?_) (λq hq ih2 d hd =>?_) 0 (Qbr _) c (by simp);rw[zbw,Ev.kz1 (by simp)];rw[List.take_length]at hd;subst hd;refine l5 _ (by simp;omega) λx hx y hy =>?_
  rw[List.take_add_one,Qba]at hx
  rcases hx with hx|hx
  exact List.mem_append_left _ (h2 x hx y hy);rw[Qab hj]at hx;obtain rfl:x=rl[j]:=by simpa using hx
  exact List.mem_append_right _ ((c3 y).2 hy);have hcq:(ziv p rl[j]).1[q]∈rl:=(s3 _).2 (.step ((s3 _).1 hxm) ((c3 _).1 (Qad hq)));subst hd
  rw[zbw,Ev.zz2 (by simpa using hq),Ev.yz2 (zz5 hq),Ev.zz1 (zlq (by omega)),Ev.kz1 (Qbo λz=>zg9.1 z hcq),Ev.yz2 (zz5 hq),
   Ev.yz2 (z01l (by simp;omega)),wrk (by omega)]
  exact ih2 _ (by rw[List.take_add_one,Qab hq];simp)
 have l3:Ev (λn=>zzb n (ziv p rl[j]).1 rl ml root (j:Int) false c p) true:=by
  rw[zji,Ev.kz1 rfl];exact l4
 by_cases hj0:j=0;subst hj0;rw[Ev.kz1 (by decide)];exact l3;have hw1:IntKind.i64.wrap ((j:Int)-1)=((j-1:Nat):Int):=by rw[wI (by omega)];omega
 rw[Ev.zz2 (by simp;omega),hw1,Ev.yz2 (zz5 (by omega)),Ev.yz2 (zz5 hj)];have hlt:Op.bytesLess rl[j-1] rl[j]=true:=List.pairwise_iff_getElem.1 s2 (j-1) j (by omega) hj (by omega);rw[hlt];exact l3
theorem yl5(p:kz0)(k:Int)(hw:p.wf){Q:Prop}(_:Q)(hs:p.size+0<=1048576):∃n,kzj n p k=some true:=Ev.get (ysm hw (by omega) yub)
end Go.Proofs.YthphaiccgnkobaaGreatDoor
