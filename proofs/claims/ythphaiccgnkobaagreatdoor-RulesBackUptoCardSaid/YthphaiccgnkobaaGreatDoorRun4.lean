/-
  PROGRAMS: WHAT IS WELL FORMED; THE NAMES, CALLS AND EXPRESSIONS OF A RULE.
-/
import Derived.Test.YthphaiccgnkobaaGreatDoorRun3
import Derived.Lib.ItoaLen
set_option linter.defProp false
set_option linter.unusedSimpArgs false
set_option linter.unusedVariables false
namespace Go.Proofs.YthphaiccgnkobaaGreatDoor
open Go Go.Ab
noncomputable def zsl(c:kz7):Bool:=decide (1<=c.weight)&&(decide (c.weight<=1000000)&&((z50 c.when_==0)&&c.do_.all z0q))
noncomputable def zks(r:yz7):Bool:=zas r.name&&(r.params.all zas&&r.cases.all zsl)
noncomputable def znl(t:yzl):Bool:=zas t.name&&(z50 t.value==0)
noncomputable def zet(p:yz2):Bool:=p.attrs.all znl&&p.rules.all zks
def ifA{c d}{γ:Type}{x y:γ}:(if (c&&d)=true then x else y)=if c=true then (if d=true then x else y)else y:=by cases c <;> rfl
def ytp{p:yz2}(B:p.wf)(N:p.size<=8000000):Ev (λn=>zca n p) (zet p):=by
 have:=@y5w p;have:=@zv4 p
 have I:Ev (λn=>z2y n 0 p.rules (p.rules.length:Int)) (if p.rules.all zks=true then true else false):=by
  refine zdl (L:=λn k=>z2y n k p.rules (p.rules.length:Int)) (by rw[zp7,Ev.kz0 (by simp),Ev.yz0]) λk a v d =>?_
  have D:=Qad a;have:=zuw D;have:=@y5e p.rules[k];have:=@y2g p.rules[k];have:=@z0e2 p.rules[k];have y:=ypf B D
  have G:Ev (λn=>z3a n 0 p.rules[k].cases p.rules (p.rules.length:Int) (k:Int) (p.rules[k].cases.length:Int)) (if p.rules[k].cases.all zsl=true then v else false):=by
   refine zdl (L:=λn j=>z3a n j p.rules[k].cases p.rules (p.rules.length:Int) (k:Int) (p.rules[k].cases.length:Int)) (by rw[zpx,Ev.kz0 (by simp),wrk (by omega)];exact d) λj r w d =>?_
   have g:=Qad r;have:=zvo g;have:=@yhq p.rules[k].cases[j];have:=@zyv p.rules[k].cases[j];have e:=yon y g
   have F:Ev (λn=>z2x n 0 p.rules[k].cases[j].do_ p.rules[k].cases p.rules (p.rules.length:Int) (k:Int) (p.rules[k].cases.length:Int) (j:Int) (p.rules[k].cases[j].do_.length:Int)) (if p.rules[k].cases[j].do_.all z0q=true then w else false):=by
    refine zdl (L:=λn i=>z2x n i p.rules[k].cases[j].do_ p.rules[k].cases p.rules (p.rules.length:Int) (k:Int) (p.rules[k].cases.length:Int) (j:Int) (p.rules[k].cases[j].do_.length:Int)) (by rw[zpw,Ev.kz0 (by simp),wrk (by omega)];exact d) λi hi u M =>?_
    have E:=Qad hi;have:=zyy E;rw[zpw,Ev.zz1 (by simpa using hi),Ev.yz1 (zz5 hi),Ev.zz0 (z01c (ypp e E) (by omega))];cases z0q p.rules[k].cases[j].do_[i];rw[Ev.zz1 (by rfl),Ev.yz0];rfl;rw[Ev.kz0 (by rfl),wrk (by omega)];exact M
   have q:∀b,Ev (λn=>z2t n p.rules[k].cases p.rules (p.rules.length:Int) (k:Int) (p.rules[k].cases.length:Int) (j:Int) (!b) p.rules[k].cases[j]) (if b=true then (if p.rules[k].cases[j].do_.all z0q=true then w else false)else false):=λb=>by
    cases b;rw[zpi,Ev.zz1 (by rfl),Ev.yz0];rfl;rw[zpi,Ev.kz0 (by rfl)];exact F
   rw[zpx,Ev.zz1 (by simpa using r),Ev.yz1 (zz5 r),kz7.kz3,zsl,ifA,ifA,ifA];by_cases o:1<=p.rules[k].cases[j].weight
   case neg=>rw[Ev.zz1 (by simp;omega),Qbl o];exact q false
   rw[Ev.kz0 (by simp;omega),Qbm o];by_cases h:p.rules[k].cases[j].weight<=1000000
   case neg=>rw[Ev.zz1 (by simp;omega),Qbl h];exact q false
   rw[Ev.kz0 (by simp;omega),Qbm h,zz2.kz3,Ev.zz0 (zll (z02u e) (by omega)),neI];exact q _
  have z:∀b,Ev (λn=>z4w n p.rules (p.rules.length:Int) (k:Int) (!b) p.rules[k]) (if b=true then (if p.rules[k].cases.all zsl=true then v else false)else false):=λb=>by
   cases b;rw[zpq,Ev.zz1 (by rfl),Ev.yz0];rfl;rw[zpq,Ev.kz0 (by rfl)];exact G
  have⟨i,o,h⟩:=yc7 (S:=λn x=>za0 n x) (l:=p.rules[k].params) (p:=λs => !zas s) (L:=λn k l m=>kzl n k l m) (λn k=>kzl.eq_2 _ _ _ n) (by omega) λx K=>by
   have:=z0dt K;rw[y7p,Ev.zz0 (zmv (by omega)),Ev.yz0]
  have g:Ev (λn=>zzm n p.rules[k].params) (!p.rules[k].params.all zas):=by
   rw[zhj,Ev.zz0 (by rw[zjh];exact o),Ev.yz0,h,<-List.not_all_eq_any_not]
  rw[zp7,Ev.zz1 (by simpa using a),Ev.yz1 (zz5 a),zks,ifA,ifA,Ev.zz0 (zmv (by omega))];cases zas p.rules[k].name;rw[Ev.zz1 (by rfl)];exact z false;rw[Ev.kz0 (by rfl),Ev.zz0 g];exact z _
 have J:Ev (λn=>z32 n 0 p.attrs (p.attrs.length:Int) p) (if p.attrs.all znl=true then p.rules.all zks else false):=by
  refine zdl (L:=λn k=>z32 n k p.attrs (p.attrs.length:Int) p) (by rw[zoy,Ev.kz0 (by simp),<-ifB (p.rules.all zks)];exact I) λk a v d =>?_
  have C:=Qad a;have:=yd2 C;have:=@ycz p.attrs[k]
  have A:∀b,Ev (λn=>z4t n p.attrs (p.attrs.length:Int) (k:Int) (!b) p) (if b=true then v else false):=λb=>by
   cases b;rw[zor,Ev.zz1 (by rfl),Ev.yz0];rfl;rw[zor,Ev.kz0 (by rfl),wrk (by omega)];exact d
  rw[zoy,Ev.zz1 (by simpa using a),Ev.yz1 (zz5 a),znl,ifA,Ev.zz0 (zmv (by omega))];cases zas p.attrs[k].name;rw[Ev.zz1 (by rfl)];exact A false;rw[Ev.kz0 (by rfl),zz2.kz3,Ev.zz0 (zll (z02l B C) (by omega)),neI];exact A _
 rw[ye0];refine J.to ?_;rw[zet];cases p.attrs.all znl <;> rfl
def yso{p:yz2}(D:p.wf)(G:p.size<=8000000):Ev (λn=>zcd n p) (zet p):=by
 have:=@y5w p;have:=@zv4 p
 have B:Ev (λn=>z36 n 0 p) (if p.rules.all zks=true then true else false):=by
  refine zdl (L:=λn k=>z36 n k p) (by rw[zpp,Ev.kz0 (by simp),Ev.yz0]) λk a v d =>?_
  have o:=Qad a;have:=zuw o;have:=@y5e p.rules[k];have:=@y2g p.rules[k];have:=@z0e2 p.rules[k];have h:=ypf D o
  have z:Ev (λn=>z2s n 0 (k:Int) p.rules[k] p) (if p.rules[k].cases.all zsl=true then v else false):=by
   refine zdl (L:=λn j=>z2s n j (k:Int) p.rules[k] p) (by rw[zpm,Ev.kz0 (by simp),wrk (by omega)];exact d) λj e w d =>?_
   have q:=Qad e;have:=zvo q;have:=@yhq p.rules[k].cases[j];have:=@zyv p.rules[k].cases[j];have l:=yon h q
   have y:Ev (λn=>z2w n 0 (k:Int) (j:Int) p.rules[k].cases[j] p.rules[k] p) (if p.rules[k].cases[j].do_.all z0q=true then w else false):=by
    refine zdl (L:=λn i=>z2w n i (k:Int) (j:Int) p.rules[k].cases[j] p.rules[k] p) (by rw[zou,Ev.kz0 (by simp),wrk (by omega)];exact d) λi hi u E =>?_
    have r:=Qad hi;have:=zyy r;rw[zou,Ev.zz1 (by simpa using hi),Ev.yz1 (zz5 hi),Ev.zz0 (yyt (ypp l r) (by omega)),kz7.kz3];cases z0q p.rules[k].cases[j].do_[i];rw[Ev.zz1 (by rfl),Ev.yz0];rfl;rw[Ev.kz0 (by rfl),wrk (by omega)];exact E
   have g:∀b,Ev (λn=>z33 n (k:Int) (j:Int) (!b) p.rules[k].cases[j] p.rules[k] p) (if b=true then (if p.rules[k].cases[j].do_.all z0q=true then w else false)else false):=λb=>by
    cases b;rw[zoz,Ev.zz1 (by rfl),Ev.yz0];rfl;rw[zoz,Ev.kz0 (by rfl),kz7.kz3];exact y
   rw[zpm,Ev.zz1 (by simpa using e),Ev.yz1 (zz5 e),kz7.kz3,zsl,ifA,ifA,ifA];by_cases x:1<=p.rules[k].cases[j].weight
   case neg=>rw[Ev.zz1 (by simp;omega),Qbl x];exact g false
   rw[Ev.kz0 (by simp;omega),Qbm x];by_cases s:p.rules[k].cases[j].weight<=1000000
   case neg=>rw[Ev.zz1 (by simp;omega),Qbl s];exact g false
   rw[Ev.kz0 (by simp;omega),Qbm s,zz2.kz3,Ev.zz0 (zj3 (by omega)),neI];exact g _
  have A:Ev (λn=>z39 n 0 (k:Int) p.rules[k] p) (if p.rules[k].params.all zas=true then (if p.rules[k].cases.all zsl=true then v else false)else false):=by
   refine zdl (L:=λn j=>z39 n j (k:Int) p.rules[k] p) (by rw[zpj,Ev.kz0 (by simp)];exact z) λj e w d =>?_
   have:=z0dt (Qad e);rw[zpj,Ev.zz1 (by simpa using e),Ev.yz1 (zz5 e),Ev.zz0 (zoq (by omega))];cases zas p.rules[k].params[j];rw[Ev.zz1 (by rfl),Ev.yz0];rfl;rw[Ev.kz0 (by rfl),wrk (by omega)];exact d
  rw[zpp,Ev.zz1 (by simpa using a),Ev.yz1 (zz5 a),zks,ifA,ifA,Ev.zz0 (zoq (by omega))];cases zas p.rules[k].name;rw[Ev.zz1 (by rfl),Ev.yz0];rfl;rw[Ev.kz0 (by rfl)];exact A
 have C:Ev (λn=>z3c n 0 p) (if p.attrs.all znl=true then p.rules.all zks else false):=by
  refine zdl (L:=λn k=>z3c n k p) (by rw[zq4,Ev.kz0 (by simp),<-ifB (p.rules.all zks)];exact B) λk a v d =>?_
  have F:=Qad a;have:=yd2 F;have:=@ycz p.attrs[k]
  have m:∀b,Ev (λn=>z54 n (k:Int) (!b) p) (if b=true then v else false):=λb=>by
   cases b;rw[zp1,Ev.zz1 (by rfl),Ev.yz0];rfl;rw[zp1,Ev.kz0 (by rfl),wrk (by omega)];exact d
  rw[zq4,Ev.zz1 (by simpa using a),Ev.yz1 (zz5 a),znl,ifA,Ev.zz0 (zoq (by omega))];cases zas p.attrs[k].name;rw[Ev.zz1 (by rfl)];exact m false;rw[Ev.kz0 (by rfl),Ev.yz1 (zz5 a),zz2.kz3,Ev.zz0 (zj3 (by omega)),neI];exact m _
 rw[yeu];refine C.to ?_;rw[zet];cases p.attrs.all znl <;> rfl
def yzt(p:yz2):List B8:=p.attrs.map (·.name)
def kzo(p:yz2):List B8:=p.rules.map (·.name)
def yk9{α β:Type}{g}(l:List α)(s:List β):l.foldl (λs x=>s++[g x]) s=s++l.map g:=by
 induction l generalizing s with
 |nil=>simp
 |cons x l a=>simp[a]
def y1f{p}(b:p.size<=8000000):Ev (λn=>z9m n p) (yzt p):=by
 have:=@y5w p;rw[yjt]
 refine yw9 (L:=λn k s=>z6h n k p s) (xs:=p.attrs) (f:=λs x=>s++[x.name]) (I:=λk s=>s.length=k) rfl (λ_=>by
  rw[zsq,Ev.kz0 (by simp),Ev.yz0,yk9];rfl) λk a s hi=>⟨by simp[hi],λh=>by
  rw[zsq,Ev.zz1 (by simpa using a),Ev.yz1 (zz5 a),Ev.yz1 (z45 (by simp;omega)),wrk (by omega)];exact h⟩
def zyh{p}(b:p.size<=8000000):Ev (λn=>z9o n p) (kzo p):=by
 have:=@zv4 p;rw[ykq]
 refine yw9 (L:=λn k s=>z7d n k p s) (xs:=p.rules) (f:=λs x=>s++[x.name]) (I:=λk s=>s.length=k) rfl (λ_=>by
  rw[zrn,Ev.kz0 (by simp),Ev.yz0,yk9];rfl) λk a s hi=>⟨by simp[hi],λh=>by
  rw[zrn,Ev.zz1 (by simpa using a),Ev.yz1 (zz5 a),Ev.yz1 (z45 (by simp;omega)),wrk (by omega)];exact h⟩
def atI(l:List B8)(s:B8):Int:=match l.idxOf? s with
 |some i=>(i:Int)
 |none => -1
def z0fb{l s} : -1<=atI l s:=by unfold atI;split <;> omega
def zu1(x)(l)(s):atI (x::l) s=if x=s then 0 else if atI l s = -1 then -1 else atI l s+1:=by
 unfold atI;rw[List.idxOf?_cons];by_cases h:x=s;subst h;simp
 grind
def yjd{L:Nat->Int->Option Int}{l s}{p:B8->Bool}(g:∀x,p x=true↔x=s)(i:l.length<=8388608)
  (b:∀n (k:Int),L (n+1) k=pIf (decide (k<(l.length:Int))) ((ix l k).bind λd=>pIf (p d) (some k) (L n (IntKind.i64.wrap (k+1)))) (some (-1))):Ev (λn=>L n 0) (atI l s):=by
 have:∀k,k<=l.length->Ev (λn=>L n (k:Int)) (if atI (l.drop k) s = -1 then -1 else atI (l.drop k) s+k) :=
  down (by rw[Ev.zka (λn=>b n _),Ev.kz0 (by simp),Ev.yz0,List.drop_length];rfl) λk a e=>by
   rw[Ev.zka (λn=>b n _),Ev.zz1 (by simpa using a),Ev.yz1 (zz5 a),<-Qah (h:=a),zu1];by_cases h:l[k]=s
   simp_all[Ev.zz1,Ev.yz0]
   rw[Ev.kz0 (by grind),wrk (by omega),Qbr h];refine e.to ?_;by_cases q:atI (l.drop (k+1)) s = -1;simp[q];have j:=@z0fb (l.drop (k+1)) s;omega
 grind
def y9m{l s}(a:l.length<=8388608):Ev (λn=>zcu n l s) (atI l s):=by
 rw[yw2];exact yjd (L:=λn k=>zeb n k s l) (p:=λx=>x==s) (λx=>by simp) a λn k=>zeb.eq_2 _ _ _ n
def y37{l s}(a:l.length<=8388608):Ev (λn=>yz5 n l s) (atI l s):=by
 rw[z9q];exact yjd (L:=λn k=>zz7 n k l s (l.length:Int)) (p:=λx=>s==x) (λx=>by simp;exact eq_comm) a λn k=>zz7.eq_2 _ _ _ _ n
def yfp{l s}:atI l s<0↔s∉l:=by
 induction l with
 |nil=>simp[atI]
 |cons x l a=>
  rw[zu1];by_cases h:x=s;subst h;simp
  grind
theorem ygo{l s}(h:s∈l):∃i:Nat,∃(hi:i<l.length),atI l s=(i:Int)∧l[i]=s∧∀j (a:j<i),l[j]'(by omega)≠s:=by
 induction l with
 |nil=>cases h
 |cons x l b=>
  rw[zu1];by_cases q:x=s;exact⟨0,by simp,by simp[q],by simpa using q,λj a=>by omega⟩;have d:s∈l:=by grind
  have⟨i,hi,k,e,g⟩:=b d;refine⟨i+1,by simp;omega,?_,by simpa using e,λj a =>?_⟩
  grind
  grind
def zk4{α β γ:Type}{L:Nat->Int->List β->Option γ}{xs:List α}{g v b B}(j:b.length+(xs.flatMap g).length<=B)
  (o:Ev (λn=>L n (xs.length:Int) (b++xs.flatMap g)) v)
  (i:∀k (h:k<xs.length) s,s.length+(g xs[k]).length<=B->Ev (λn=>L n ((k+1:Nat):Int) (s++g xs[k])) v->Ev (λn=>L n (k:Int) s) v):Ev (λn=>L n 0 b) v:=by
 have:∀m k,k+m=xs.length->∀s,s.length+((xs.drop k).flatMap g).length<=B->s++(xs.drop k).flatMap g=b++xs.flatMap g->Ev (λn=>L n (k:Int) s) v:=λm=>by
  induction m with
  |zero=>
   grind
  |succ m e=>
   intro k l s hi d;have a:k<xs.length:=by omega
   rw[<-Qah (h:=a),List.flatMap_cons,Qap]at hi;rw[<-Qah (h:=a),List.flatMap_cons,<-Qay]at d;exact i k a s (by omega) (e (k+1) (by omega) _ (by grind) d)
 simpa using this xs.length 0 (by omega) b (by simpa using j) (by simp)
def zq6{α β:Type}{f}{g:α->List β}:∀{l:List α},(∀x∈l,(g x).length<=f x)->(l.flatMap g).length<=(l.map f).sum
 |[],_=>by simp
 |x::l,h=>by
  have b:=zq6 (f:=f) (g:=g) (l:=l) λy a=>h y (Qai _ a)
  grind
def y1b(x:yzq):List (B8×Int):=[(x.name,(x.args.length:Int)-1)]
def zjk(a:zz4):List (B8×Int):=(if a.name=[]then []else [(a.name,(a.args.length:Int)-own a.kind)])++a.items.flatMap y1b
def ybx(c:kz7):List (B8×Int):=c.do_.flatMap zjk
def kzm(r:yz7):List (B8×Int):=r.cases.flatMap ybx
def yyx(a):(zjk a).length<=a.size:=by
 have h:=zq6 (f:=yzq.size) (g:=y1b) (l:=a.items) λx _=>by rw[yzq.size_eq];show 1<=_;omega
 grind[zz4.size_eq,zjk,List.length_cons]
def z008(c):(ybx c).length<=c.size:=by
 have h:=zq6 (f:=zz4.size) (g:=zjk) (l:=c.do_) λx _=>yyx x
 rw[kz7.size_eq];unfold ybx;omega
def zpe(r):(kzm r).length<=r.size:=by
 have h:=zq6 (f:=kz7.size) (g:=ybx) (l:=r.cases) λx _=>z008 x
 rw[yz7.size_eq];unfold kzm;omega
def toT(x:B8×Int):z0j:=⟨x.1,x.2⟩
def toG(x:B8×Int):z4p:=⟨x.1,x.2⟩
def z0e5(k):0<=own k∧own k<=3:=by grind[own]
def ysi{a k}(g:0<=a)(e:a<=8000000)(d:0<=k)(b:k<=3):IntKind.i64.wrap (a-k)=a-k:=wI (by omega)
def yvn{r}(y:r.size<=8000000):Ev (λn=>z9p n r) ((kzm r).map toT):=by
 have hlen:=zpe r;have o:(kzm r).map toT=r.cases.flatMap λc=>c.do_.flatMap λa=>(zjk a).map toT:=by simp[kzm,ybx,List.map_flatMap]
 have:=@y2g r;rw[ygg]
 refine zk4 (L:=λn k s=>z74 n k r.cases (r.cases.length:Int) s) (xs:=r.cases) (g:=λc=>c.do_.flatMap λa=>(zjk a).map toT) (B:=8000000) (by grind) (by
  simp_all[zro,Ev.kz0,Ev.yz0]) λk d s hi b =>?_
 have:=zvo (Qad d);have:=@zyv r.cases[k];rw[zro,Ev.zz1 (by simpa using d),Ev.yz1 (zz5 d)]
 refine zk4 (L:=λn j s=>z4c n j r.cases[k].do_ r.cases (r.cases.length:Int) (k:Int) (r.cases[k].do_.length:Int) s) (xs:=r.cases[k].do_) (g:=λa=>(zjk a).map toT) (B:=8000000) hi (by
  rw[zrg,Ev.kz0 (by simp),wrk (by omega)];exact b) λj e s hi b =>?_
 have:=zyy (Qad e);generalize q:r.cases[k].do_[j]=a at *;have:=@y82 a;have:=@z0e9 a;have l:=z0e5 a.kind;rw[zjk,List.map_append,Qap]at hi;rw[zjk,List.map_append,<-Qay]at b
 have p:∀t:z9d,t.length+((a.items.flatMap y1b).map toT).length<=8000000->Ev (λn=>z4c n ((j+1:Nat):Int) r.cases[k].do_ r.cases (r.cases.length:Int) (k:Int) (r.cases[k].do_.length:Int) (t++(a.items.flatMap y1b).map toT)) ((kzm r).map toT)->Ev (λn=>z7b n r.cases[k].do_ r.cases (r.cases.length:Int) (k:Int) (r.cases[k].do_.length:Int) (j:Int) t a) ((kzm r).map toT):=λt h b=>by
  have u:(a.items.flatMap y1b).map toT=a.items.flatMap λx=>[(⟨x.name,(x.args.length:Int)-1⟩:z0j)]:=by rw[List.map_flatMap];rfl
  rw[u]at h b;rw[y93]
  refine zk4 (L:=λn i s=>z69 n i a.items r.cases[k].do_ r.cases (r.cases.length:Int) (k:Int) (r.cases[k].do_.length:Int) (j:Int) (a.items.length:Int) s) (xs:=a.items) (g:=λx=>[(⟨x.name,(x.args.length:Int)-1⟩:z0j)]) (B:=8000000) h (by
   rw[zr9,Ev.kz0 (by simp),wrk (by omega)];exact b) λi hi s w b =>?_
  have:=y9i (Qad hi);have:=@z08e a.items[i];rw[zr9,Ev.zz1 (by simpa using hi),Ev.yz1 (zz5 hi),ysi (by omega) (by omega) (by omega) (by omega),Ev.yz1 (z45 (by simp at w ⊢;omega)),wrk (by omega)];exact b
 rw[zrg,Ev.zz1 (by simpa using e),Ev.yz1 (zz5 e),q];by_cases m:a.name=[]
 simp_all[Ev.kz0]
 rw[Ev.zz1 (by simpa using m),Ev.zz0 yca,ysi (by omega) (by omega) l.1 l.2];rw[Qbr m]at b hi;rw[Ev.yz1 (z45 (by simp at hi ⊢;omega))];exact p _ (by simp at hi ⊢;omega) b
def ykm{r}(I:r.size<=8000000)(F:∀c∈r.cases,∀a∈c.do_,(a.name=[]↔a.kind=5∨a.kind=6)):Ev (λn=>zdb n r) ((kzm r).map toG):=by
 have hlen:=zpe r;have A:(kzm r).map toG=r.cases.flatMap λc=>c.do_.flatMap λa=>(zjk a).map toG:=by simp[kzm,ybx,List.map_flatMap]
 have:=@y2g r;rw[yl5]
 refine zk4 (L:=λn k s=>z7v n k s r) (xs:=r.cases) (g:=λc=>c.do_.flatMap λa=>(zjk a).map toG) (B:=8000000) (by grind) (by
  simp_all[zut,Ev.kz0,Ev.yz0]) λk l s hi b =>?_
 have y:=Qad l;have:=zvo y;have:=@zyv r.cases[k];rw[zut,Ev.zz1 (by simpa using l)]
 refine zk4 (L:=λn j s=>z5c n j (k:Int) s r) (xs:=r.cases[k].do_) (g:=λa=>(zjk a).map toG) (B:=8000000) hi (by
  rw[zv9,Ev.yz1 (zz5 l),Ev.kz0 (by simp),wrk (by omega)];exact b) λj o s hi b =>?_
 have z:=Qad o;have:=zyy z;have d:=F _ y _ z;generalize C:r.cases[k].do_[j]=a at *;have:=@y82 a;have:=@z0e9 a;have w:=z0e5 a.kind;rw[zjk,List.map_append,Qap]at hi;rw[zjk,List.map_append,<-Qay]at b
 have q:∀t:zer,t.length+((a.items.flatMap y1b).map toG).length<=8000000->Ev (λn=>z5c n ((j+1:Nat):Int) (k:Int) (t++(a.items.flatMap y1b).map toG) r) ((kzm r).map toG)->Ev (λn=>z8h n (k:Int) (j:Int) a t r) ((kzm r).map toG):=λt u b=>by
  have D:(a.items.flatMap y1b).map toG=a.items.flatMap λx=>[(⟨x.name,(x.args.length:Int)-1⟩:z4p)]:=by rw[List.map_flatMap];rfl
  rw[D]at u b;rw[ya2]
  refine zk4 (L:=λn i s=>z7s n i (k:Int) (j:Int) a s r) (xs:=a.items) (g:=λx=>[(⟨x.name,(x.args.length:Int)-1⟩:z4p)]) (B:=8000000) u (by
   rw[zv7,Ev.kz0 (by simp),wrk (by omega)];exact b) λi hi s E b =>?_
  have:=y9i (Qad hi);have:=@z08e a.items[i];rw[zv7,Ev.zz1 (by simpa using hi),Ev.yz1 (zz5 hi),Ev.yz1 (zz5 hi),ysi (by omega) (by omega) (by omega) (by omega),Ev.yz1 (z45 (by simp at E ⊢;omega)),wrk (by omega)];exact b
 rw[zv9,Ev.yz1 (zz5 l),Ev.zz1 (by simpa using o),Ev.yz1 (zz5 l),Ev.yz1 (zz5 o),C];by_cases e:a.name=[];rw[Qbq e]at b hi;have G:=q s (by simpa using hi) (by simpa using b);have p:Ev (λn=>z8d n (k:Int) (j:Int) false a r s) ((kzm r).map toG):=by simp_all[zvs,Ev.kz0]
 rcases d.1 e with h|h
 rw[Ev.kz0 (by simp[h])];exact p
 simp_all[Ev.zz1]
 have m:a.kind≠5∧a.kind≠6:=⟨λh=>e (d.2 (.inl h)),λh=>e (d.2 (.inr h))⟩;rw[Ev.zz1 (by simp[m.1]),show(a.kind != 6)=true by simp[m.2],zvs,Ev.zz1 (by rfl),Ev.zz0 yp2,ysi (by omega) (by omega) w.1 w.2];rw[Qbr e]at b hi;rw[Ev.yz1 (z45 (by simp at hi ⊢;omega))];exact q _ (by simp at hi ⊢;omega) b
def yud{a}(h:z0q a=true):a.name=[]↔a.kind=5∨a.kind=6:=by
 have⟨g,e,b,_⟩:=zj9.1 h;by_cases d:a.kind<=4;rw[Qbq d]at b;refine⟨λh =>?_,λh=>by omega⟩;rw[h,ypg]at b;cases b
 grind
def yxg{p}(h:zet p=true):∀r∈p.rules,∀c∈r.cases,∀a∈c.do_,z0q a=true:=λr b c d a e=>by
 have h:=Qat.1 (Bool.and_eq_true_iff.1 h).2 r b;have h:=Qat.1 (Bool.and_eq_true_iff.1 (Bool.and_eq_true_iff.1 h).2).2 c d
 simp_all[zsl]
def zle(a:zz4):kz9:=a.args++a.items.flatMap (·.args)
def zit(c:kz7):kz9:=c.when_::c.do_.flatMap zle
def zys(r:yz7):kz9:=r.cases.flatMap zit
def yyc(a):(zle a).length<=a.size:=by
 have h:=zq6 (f:=yzq.size) (g:=λx:yzq=>x.args) (l:=a.items) λx _=>z08e
 grind[zc5,zz4.size_eq,zle]
def y6s(c):(zit c).length<=c.size:=by
 have h:=zq6 (f:=zz4.size) (g:=zle) (l:=c.do_) λx _=>yyc x
 grind[kz7.size_eq,zit]
def yi8(r):(zys r).length<=r.size:=by
 have h:=zq6 (f:=kz7.size) (g:=zit) (l:=r.cases) λx _=>y6s x
 rw[yz7.size_eq];unfold zys;omega
def yyz{a e}(h:e∈zle a):e.size<=a.size∧(a.wf->e.wf):=by
 rcases List.mem_append.1 h with h|h
 have:=zu9 h;grind[ycx,z08m];have⟨x,b,d⟩:=List.mem_flatMap.1 h;have:=zu9 d;have:=@ydg x;have:=y9i b;exact⟨by omega,λw=>wf_xe (z03q w b) d⟩
def yke{c e}(h:e∈zit c):e.size<=c.size∧(c.wf->e.wf):=by
 rcases Qbf.1 h with h|h
 grind[yhq,z02u]
 have⟨a,d,b⟩:=List.mem_flatMap.1 h;have:=yyz b;have:=zyy d;grind[ypp]
def yir{r e}(h:e∈zys r):e.size<=r.size∧(r.wf->e.wf):=by
 have⟨c,b,a⟩:=List.mem_flatMap.1 h;have:=yke a;have:=zvo b;grind[yon]
def ywc{r}(m:r.size<=8000000):Ev (λn=>ze7 n r) (zys r):=by
 have hlen:=yi8 r;have:=@y2g r;rw[yjz]
 refine zk4 (L:=λn k s=>z6n n k r.cases (r.cases.length:Int) s) (xs:=r.cases) (g:=zit) (B:=8000000) (by show 0+(zys r).length<=_;omega) (by
  rw[zrf,Ev.kz0 (by simp),Ev.yz0];rfl) λk d s hi b =>?_
 have:=zvo (Qad d);have:=@zyv r.cases[k];have l:s++zit r.cases[k]=(s++[r.cases[k].when_])++r.cases[k].do_.flatMap zle:=by simp[zit]
 rw[l]at b;rw[zit,List.length_cons]at hi;rw[zrf,Ev.zz1 (by simpa using d),Ev.yz1 (zz5 d),zz2.kz3,Ev.yz1 (z45 (by grind))]
 refine zk4 (L:=λn j s=>z6b n j r.cases[k].do_ r.cases (r.cases.length:Int) (k:Int) (r.cases[k].do_.length:Int) s) (xs:=r.cases[k].do_) (g:=zle) (B:=8000000) (by grind) (by
  rw[zsm,Ev.kz0 (by simp),wrk (by omega)];exact b) λj e s hi b =>?_
 have:=zyy (Qad e);generalize h:r.cases[k].do_[j]=a at *;have:=@y82 a;rw[zle,Qap]at hi;rw[zle,<-Qay]at b;rw[zsm,Ev.zz1 (by simpa using e),Ev.yz1 (zz5 e),h,Ev.yz1 (z45 (by omega))]
 refine zk4 (L:=λn i s=>z6e n i a.items r.cases[k].do_ r.cases (r.cases.length:Int) (k:Int) (r.cases[k].do_.length:Int) (j:Int) (a.items.length:Int) s) (xs:=a.items) (g:=λx=>x.args) (B:=8000000) (by grind) (by
  rw[zrq,Ev.kz0 (by simp),wrk (by omega)];exact b) λi hi s o b =>?_
 rw[zrq,Ev.zz1 (by simpa using hi),Ev.yz1 (zz5 hi),Ev.yz1 (z45 (by omega)),wrk (by omega)];exact b
def ywg{c}(k:c.size<=8000000):Ev (λn=>zec n c) (zit c):=by
 have hlen:=y6s c;have:=@zyv c;have m:zit c=[c.when_]++c.do_.flatMap zle:=by simp[zit]
 rw[yhw,kz7.kz3,zz2.kz3]
 refine zk4 (L:=λn j s=>z60 n j c s) (xs:=c.do_) (g:=zle) (B:=8000000) (by grind) (by
  simp_all[zrx,Ev.kz0,Ev.yz0]) λj e s hi d =>?_
 have:=zyy (Qad e);have b:=zz5 e;generalize h:c.do_[j]=a at *;have:=@y82 a;rw[zle,Qap]at hi;rw[zle,<-Qay]at d;rw[zrx,Ev.zz1 (by simpa using e),Ev.yz1 b,Ev.yz1 (z45 (by omega)),kz7.kz3]
 refine zk4 (L:=λn i s=>z6q n i (j:Int) c s) (xs:=a.items) (g:=λx=>x.args) (B:=8000000) (by grind) (by
  rw[zsd,Ev.yz1 b,Ev.kz0 (by simp),wrk (by omega),kz7.kz3];exact d) λi hi s l d =>?_
 rw[zsd,Ev.yz1 b,Ev.zz1 (by simpa using hi),Ev.yz1 b,Ev.yz1 (zz5 hi),Ev.yz1 (z45 (by omega)),wrk (by omega),kz7.kz3];exact d
noncomputable def within(K:List B8)(e:zz2):Bool:=(zil e).1.all λs=>decide (s∈K)
def yk8(e)(a:e.size<=8388608):(zil e).1.length<=8388608:=by
 grind[zil,yp8,ztx]
def y9d{e K}(a:e.size<=8388608)(g:K.length<=8388608):Ev (λn=>za6 n e K) (within K e):=by
 have i:=yk8 e a;rw[yf5,zz2.kz3,Ev.zz0 (yxo a),<-ifB (within K e)];refine zdl (L:=λn k=>z52 n k (zil e).1 K) (by rw[zop,Ev.kz0 (by simp),Ev.yz0]) λk b v d =>?_
 rw[zop,Ev.zz1 (by simpa using b),Ev.yz1 (zz5 b),Ev.zz0 (y9m g)];by_cases h:(zil e).1[k]∈K;rw[Ev.kz0 (Qbl λq=>yfp.1 q h),Qbm h,wrk (by omega)];exact d
 simp_all[Ev.zz1,yfp,Ev.yz0]
def MK(m:List (B8×Bool))(K:List B8):Prop:=∀k,(zau m k).getD false=decide (k∈K)
def yi1{α σ:Type}{L:Nat->Int->Option (Int×σ)}{l:List α}{p st}
  (d:Ev (λn=>L n (l.length:Int)) (-1,st))
  (a:∀k (h:k<l.length) v,(p l[k]=true->Ev (λn=>L n (k:Int)) ((k:Int),st))∧(p l[k]=false->Ev (λn=>L n ((k+1:Nat):Int)) v->Ev (λn=>L n (k:Int)) v)) :
  ∃i:Int,Ev (λn=>L n 0) (i,st)∧decide (i>=0)=l.any p:=by
 have:∀k,k<=l.length->∃i:Int,Ev (λn=>L n (k:Int)) (i,st)∧decide (i>=0)=(l.drop k).any p :=
  down ⟨-1,d,by simp⟩ λk b ⟨i,g,e⟩=>by
   have⟨m,j⟩:=a k b (i,st)
   grind[Qah]
 simpa using this 0 (Qbo _)
def ykd{e m K}(o:MK m K)(h:e.wf)(d:e.size<=8388608):Ev (λn=>zd3 n e (mks m) (mvs m)) (!within K e,mks m,mvs m):=by
 have w:=yk8 e d
 have⟨i,u,r⟩:=yi1 (L:=λn k=>kzc n k (zil e).1 ((zil e).1.length:Int) (mks m) (mvs m)) (l:=(zil e).1) (p:=λs => !decide (s∈K)) (st:=(mks m,mvs m))
  (by simp_all[z2n,Ev.kz0,Ev.yz0,yza]) λk a v=>by
   have g:Ev (λn=>zc4 n (zil e).1[k] (mks m) (mvs m)) (!decide ((zil e).1[k]∈K),mks m,mvs m):=by
    rw[yf3,Ev.yz0,yza,o]
   constructor;intro b;rw[z2n,Ev.zz1 (by simpa using a),Ev.yz1 (zz5 a),yza,Ev.zz0 g,Ev.zz1 b,Ev.yz0,yza];intro b j;rw[z2n,Ev.zz1 (by simpa using a),Ev.yz1 (zz5 a),yza,Ev.zz0 g,Ev.kz0 b,yza,wrk (by omega)];exact j
 have q:Ev (λn=>zzj n (zil e).1 (mks m) (mvs m)) (!within K e,mks m,mvs m):=by
  rw[zgd,yza,Ev.zz0 (by rw[zhs,yza];exact u),Ev.yz0,r,yza,within,<-List.not_all_eq_any_not]
 rw[ymb,zz2.kz3,Ev.zz0 (z026 h d),yza,Ev.zz0 q,Ev.yz0,yza]
def yiz{l m K}(q:MK m K)(h:∀e∈l,e.wf)(o:∀e∈l,e.size<=8388608)(u:l.length<=8388608):Ev (λn=>yzg n l (mks m) (mvs m)) (!l.all (within K),mks m,mvs m):=by
 have⟨i,s,r⟩:=yi1 (L:=λn k=>zzc n k l (l.length:Int) (mks m) (mvs m)) (l:=l) (p:=λe => !within K e) (st:=(mks m,mvs m))
  (by simp_all[z2d,Ev.kz0,Ev.yz0,yza]) λk a v=>by
   have d:=Qad a
   have g:Ev (λn=>zbc n l[k] (mks m) (mvs m)) (!within K l[k],mks m,mvs m):=by
    rw[yb5,yza,zz2.kz3,Ev.zz0 (ykd q (h _ d) (o _ d)),Ev.yz0,yza]
   constructor;intro b;rw[z2d,Ev.zz1 (by simpa using a),Ev.yz1 (zz5 a),yza,zz2.kz3,Ev.zz0 g,Ev.zz1 b,Ev.yz0,yza];intro b j;rw[z2d,Ev.zz1 (by simpa using a),Ev.yz1 (zz5 a),yza,zz2.kz3,Ev.zz0 g,Ev.kz0 b,yza,wrk (by omega)];exact j
 rw[zfr,yza,Ev.zz0 (by rw[zh0,yza];exact s),Ev.yz0,r,yza,<-List.not_all_eq_any_not]
def z005{l:List B8}:(∃k,∃h:k<l.length,atI l l[k]<(k:Int))↔¬l.Nodup:=by
 constructor
 grind[ygo,Qad,List.getElem_inj]
 intro h;rw[List.nodup_iff_pairwise_ne,List.pairwise_iff_getElem]at h
 grind[ygo,Qad]
noncomputable def dup(l:List B8):Bool:=@decide (¬l.Nodup) (Classical.propDecidable _)
def ywn{l}:dup l=true↔¬l.Nodup:=@decide_eq_true_iff _ (Classical.propDecidable _)
def z099{l}:dup l=false↔l.Nodup:=by rw[<-Bool.not_eq_true,ywn,Classical.not_not]
def yjj{γ}{L:Nat->Int->Option γ}{l t f}(m:Ev (λn=>L n (l.length:Int)) f)
  (g:∀k (h:k<l.length) v,Ev (λn=>L n ((k+1:Nat):Int)) v->Ev (λn=>L n (k:Int)) (if decide (atI l l[k]<(k:Int))=true then t else v)):Ev (λn=>L n 0) (if dup l=true then t else f):=by
 have:∀k,k<=l.length->∀b:Bool,(b=true↔∃j,k<=j∧∃h:j<l.length,atI l l[j]<(j:Int))->Ev (λn=>L n (k:Int)) (if b=true then t else f) :=
  down (λb i=>by
   rw[Qbr λh=>by grind];exact m) λk a e b i=>by
   by_cases h:atI l l[k]<(k:Int);rw[Qbq (i.2 ⟨k,Qbp _,a,h⟩)];have:=g k a _ (e (@decide _ (Classical.propDecidable _)) (@decide_eq_true_iff _ (Classical.propDecidable _)))
   grind
   have d:b=true↔∃j,k+1<=j∧∃h:j<l.length,atI l l[j]<(j:Int):=by
    grind
   have:=g k a _ (e b d)
   grind
 have:=this 0 (Qbo _) (dup l) (by simp_all[ywn,z005]);simpa using this
def ydo{l}(b:l.length<=8388608):Ev (λn=>zbs n l) (dup l):=by
 rw[yk7,<-ifB (dup l)];refine yjj (L:=λn k=>z63 n k l) (by rw[zsc,Ev.kz0 (by simp),Ev.yz0]) λk a v d =>?_
 rw[zsc,Ev.zz1 (by simpa using a),Ev.yz1 (zz5 a),Ev.zz0 (y9m b),wrk (by omega),Ev.pif,Ev.yz0]
 grind
def z06e{l s}(b:l.length<=8388608):Ev (λn=>zed n s l) (atI l s,l):=by
 have h:=yjd (L:=λn k=>(z10 n k s l).map Prod.fst) (l:=l) (s:=s) (p:=λx=>x==s) (λx=>by simp) b λn k=>by
  show(z10 (n+1) k s l).map Prod.fst=_;rw[z10.eq_2];cases decide (k<(l.length:Int));rfl
  cases e:ix l k with
  |none=>rfl
  |some x=>show(pIf (x==s) _ _).map Prod.fst=pIf (x==s) _ _;cases (x==s) <;> rfl
 have j:∀n k r,z10 n k s l=some r->r.2=l:=λn=>by
  induction n with
  |zero=>intro k r a;cases a
  |succ n d=>
   grind[z10.eq_2,decide,ix,pIf]
 rw[yga];have⟨n,g⟩:=h;refine⟨n,λm i =>?_⟩
 cases a:z10 m 0 s l with
 |none=>grind
 |some r=>
  grind
def yrj{l}(d:l.length<=8388608):Ev (λn=>z9x n l) (dup l,l):=by
 have e:(dup l,l)=if dup l=true then (true,l)else (false,l):=by cases dup l <;> rfl
 rw[y8h,e];refine yjj (L:=λn k=>z30 n k l) (by rw[zmt,Ev.kz0 (by simp),Ev.yz0]) λk a v b =>?_
 rw[zmt,Ev.zz1 (by simpa using a),Ev.yz1 (zz5 a),Ev.zz0 (z06e d),wrk (by omega),Ev.pif,Ev.yz0];split;rfl;exact b
noncomputable def rdbl(p:yz2):Bool:=dup (yzt p)||(dup (kzo p)||p.rules.any λr=>dup (r.params++yzt p))
def ynv{p}(h:p.size<=4000000):Ev (λn=>zba n p) (rdbl p):=by
 have:=@y5w p;have:=@zv4 p;have j:(yzt p).length=p.attrs.length:=by simp[yzt]
 have i:(kzo p).length=p.rules.length:=by simp[kzo]
 have d:Ev (λn=>z26 n 0 p) (if (p.rules.any λr=>dup (r.params++yzt p))=true then true else false):=by
  refine zqz (L:=λn k=>z26 n k p) (by rw[znk,Ev.kz0 (by simp),Ev.yz0]) λk a v g =>?_
  have:=zuw (Qad a);have:=@y5e p.rules[k];rw[znk,Ev.zz1 (by simpa using a),Ev.yz1 (zz5 a),Ev.yz1 (z45 (by grind)),Qbz,Ev.zz0 (y1f (by omega)),Ev.yz1 (z45 (by omega)),Ev.zz0 (yrj (by grind)),wrk (by omega),Ev.pif,Ev.yz0];split;rfl;exact g
 have e:∀b,Ev (λn=>z3s n b p) (b||p.rules.any λr=>dup (r.params++yzt p)):=λb=>by
  cases b;rw[znw,Ev.kz0 (by rfl),ifB]at *;exact d
  simp_all[znw,Ev.zz1,Ev.yz0]
 rw[yac,Ev.zz0 (y1f (by omega)),Ev.zz0 (ydo (by omega)),rdbl];cases dup (yzt p);rw[Ev.kz0 (by rfl),Ev.zz0 (zyh (by omega)),Ev.zz0 (ydo (by omega))];exact e _
 simp_all[Ev.zz1]
noncomputable def kA:List B8->z2f->Bool
 |_,[]=>true
 |pre,t::l=>within pre t.value&&kA (pre++[t.name]) l
def scope(p:yz2)(r:yz7):List B8:=([[115,120],[115,121],[115,122]]++yzt p)++r.params
noncomputable def kR(p:yz2)(r:yz7):Bool:=(zys r).all (within (scope p r))&&(kzm r).all λc=>decide (c.1∈kzo p)
noncomputable def ybp(p:yz2):Bool:=kA [] p.attrs&&p.rules.all (kR p)
def plen(p:yz2)(s:B8):Int:=match p.rules[(atI (kzo p) s).toNat]? with
 |some r=>r.params.length
 |none => -1
def znf(p:yz2)(r:yz7):Bool:=(kzm r).any λc=>decide (c.1∈kzo p)&&(c.2 != plen p c.1)
def yg7(p:yz2):Bool:=p.rules.any (znf p)
noncomputable def zht(p:yz2):Int:=if zui p=true then 4 else if zet p=true then (if rdbl p=true then 14 else if ybp p=true then (if yg7 p=true then 2 else 0)else 6)else 8
def zmu{p k}(h):(yzt p).take (k+1)=(yzt p).take k++[p.attrs[k].name]:=by
 grind[List.take_add_one,yzt]
def y21{p:yz2}{k:Nat}(h:k<p.rules.length):(kzo p).take (k+1)=(kzo p).take k++[p.rules[k].name]:=by
 rw[List.take_add_one];simp only[kzo,Qan,Qab h,Qbk,Option.toList_some]
def z0a9{α}{l:List α}{k}(h:k<=l.length):sub l 0 (k:Int)=some (l.take k):=by
 simp_all[sub]
def z05l(p)(r):(scope p r).length=3+p.attrs.length+r.params.length:=by simp[scope,yzt];omega
def z032{p s}(h:s∈kzo p):∃i:Nat,∃hi:i<p.rules.length,atI (kzo p) s=(i:Int)∧p.rules[i].name=s∧plen p s=(p.rules[i].params.length:Int):=by
 grind[ygo,kzo,plen,Int.toNat_natCast]
def yve{p:yz2}(G:p.size<=4000000)(B:zet p=true):Ev (λn=>zdz n p) (ybp p):=by
 have:=@y5w p;have:=@zv4 p;have m:(yzt p).length=p.attrs.length:=by simp[yzt]
 have I:(kzo p).length=p.rules.length:=by simp[kzo]
 have s:Ev (λn=>z47 n 0 (yzt p) p) (if p.rules.all (kR p)=true then true else false):=by
  refine zdl (L:=λn k=>z47 n k (yzt p) p) (by rw[zs4,Ev.kz0 (by simp),Ev.yz0]) λk b v z =>?_
  have e:=Qad b;have:=zuw e;have:=@y5e p.rules[k];have:=@y2g p.rules[k];have D:=z05l p p.rules[k];have F:=zpe p.rules[k]
  have o:Ev (λn=>z44 n 0 ((kzm p.rules[k]).map toG) (yzt p) (k:Int) p) (if ((kzm p.rules[k]).all λc=>decide (c.1∈kzo p))=true then v else false):=by
   refine zdl (L:=λn j=>z44 n j ((kzm p.rules[k]).map toG) (yzt p) (k:Int) p) (by rw[zso,Ev.kz0 (by simp),wrk (by omega)];exact z) λj d w g =>?_
   have l:j<((kzm p.rules[k]).map toG).length:=by simpa using d
   rw[zso,Ev.zz1 (by simpa using d),Ev.zz0 (zyh (by omega)),Ev.yz1 (zz5 l),List.getElem_map,Ev.zz0 (y9m (by omega))];show Ev (λn=>pIf (decide (atI (kzo p) (kzm p.rules[k])[j].1<0)) _ _) _;by_cases h:(kzm p.rules[k])[j].1∈kzo p;rw[Ev.kz0 (Qbl λq=>yfp.1 q h),Qbm h,wrk (by omega)];exact g;rw[Ev.zz1 (Qbm (yfp.2 h)),Qbl h,Ev.yz0];rfl
  have r:Ev (λn=>z3y n (scope p p.rules[k]) 0 (yzt p) (k:Int) p.rules[k] p) (if (p.rules[k].cases.all λc=>(zit c).all (within (scope p p.rules[k])))=true then (if ((kzm p.rules[k]).all λc=>decide (c.1∈kzo p))=true then v else false)else false):=by
   refine zdl (L:=λn j=>z3y n (scope p p.rules[k]) j (yzt p) (k:Int) p.rules[k] p) (by rw[zr2,Ev.kz0 (by simp),Ev.zz0 (ykm (by omega) λc C a m=>yud (yxg B _ e c C a m))];exact o) λj d w g =>?_
   have:=zvo (Qad d);have E:=y6s p.rules[k].cases[j];rw[zr2,Ev.zz1 (by simpa using d),Ev.yz1 (zz5 d),kz7.kz3,Ev.zz0 (ywg (by omega))];refine zdl (L:=λn i=>z71 n i (scope p p.rules[k]) (zit p.rules[k].cases[j]) (yzt p) (k:Int) (j:Int) p.rules[k] p) (by rw[zsb,Ev.kz0 (by simp),wrk (by omega)];exact g) λi hi u A =>?_
   have:=(yke (Qad hi)).1;rw[zsb,Ev.zz1 (by simpa using hi),Ev.yz1 (zz5 hi),zz2.kz3,Ev.zz0 (y9d (by omega) (by omega))];cases within (scope p p.rules[k]) (zit p.rules[k].cases[j])[i];rw[Ev.zz1 (by rfl),Ev.yz0];rfl;rw[Ev.kz0 (by rfl),wrk (by omega)];exact A
  rw[zs4,Ev.zz1 (by simpa using b),Ev.yz1 (zz5 b),Ev.yz1 (z45 (by simp only[List.length_cons,List.length_nil];omega)),Ev.yz1 (z45 (by simp only[Qap,List.length_cons,List.length_nil];omega)),kR,ifA,zys,List.all_flatMap];exact r
 have x:∀k,k<=p.attrs.length->Ev (λn=>z6f n (k:Int) (yzt p) p) (if kA ((yzt p).take k) (p.attrs.drop k)=true then p.rules.all (kR p)else false) :=
  down (by
   rw[zr4,Ev.kz0 (by simp),List.drop_length,kA,Qbq rfl,<-ifB (p.rules.all (kR p))];exact s) λk b y=>by
   have e:=Qad b;have:=yd2 e;have:=@ycz p.attrs[k];rw[zr4,Ev.zz1 (by simpa using b),Ev.yz1 (zz5 b),Ev.yz1 (z0a9 (by omega)),zz2.kz3,Ev.zz0 (y9d (by omega) (by simp;omega)),<-Qah (h:=b),kA,ifA];cases within ((yzt p).take k) p.attrs[k].value;rw[Ev.zz1 (by rfl),Ev.yz0];rfl;rw[Ev.kz0 (by rfl),wrk (by omega),Qbq rfl,<-zmu b];exact y
 have:=x 0 (Qbo _);rw[ygr,Ev.zz0 (y1f (by omega)),ybp];refine Ev.to this ?_;rw[List.drop_zero,List.take_zero];cases kA [] p.attrs <;> rfl
def yy6{p}(g:p.wf)(q:p.size<=4000000):Ev (λn=>zdo n p) (zht p):=by
 have:=@zv4 p;have A:(kzo p).length=p.rules.length:=by simp[kzo]
 rw[ygm,Ev.zz0 (z023 (by omega)),zht];cases zui p
 case true=>simp_all[Ev.zz1,Ev.yz0]
 rw[Ev.kz0 (by rfl),Ev.zz0 (yso g (by omega)),Qbr (by simp)];cases r:zet p
 case false=>simp_all[Ev.zz1,Ev.yz0]
 rw[Ev.kz0 (by rfl),Ev.zz0 (ynv q),Qbq rfl];cases rdbl p
 case true=>simp_all[Ev.zz1,Ev.yz0]
 rw[Ev.kz0 (by rfl),Ev.zz0 (yve q r),Qbr (by simp)];cases b:ybp p
 case false=>simp_all[Ev.zz1,Ev.yz0]
 have m:=Qat.1 (Bool.and_eq_true_iff.1 b).2;refine zqz (L:=λn k=>z78 n k p) (by rw[zre,Ev.kz0 (by simp),Ev.yz0]) λk b v s =>?_
 have h:=Qad b;have:=zuw h;have z:=zpe p.rules[k];have o:=Qat.1 (Bool.and_eq_true_iff.1 (m _ h)).2;rw[zre,Ev.zz1 (by simpa using b),Ev.yz1 (zz5 b),Ev.zz0 (ykm (by omega) λc e a u=>yud (yxg r _ h c e a u))];refine zqz (L:=λn j=>z79 n j ((kzm p.rules[k]).map toG) (k:Int) p) (by rw[zqv,Ev.kz0 (by simp),wrk (by omega)];exact s) λj l w g =>?_
 have d:j<((kzm p.rules[k]).map toG).length:=by simpa using l
 have e:=o _ (Qad l);have⟨i,hi,y,B,x⟩:=z032 (Qac e);rw[zqv,Ev.zz1 (by simpa using l),Ev.yz1 (zz5 d),Ev.zz0 (zyh (by omega)),Ev.yz1 (zz5 d),List.getElem_map,Ev.zz0 (y9m (by omega))];show Ev (λn=>(ix p.rules (atI (kzo p) (kzm p.rules[k])[j].1)).bind _) _;rw[y,Ev.yz1 (zz5 hi),e,x,Bool.true_and,wrk (by omega)]
 show Ev (λn=>pIf ((kzm p.rules[k])[j].2 != (p.rules[i].params.length:Int)) _ _) _;cases (kzm p.rules[k])[j].2 != (p.rules[i].params.length:Int);rw[Ev.kz0 rfl];exact g;rw[Ev.zz1 rfl,Ev.yz0];rfl
section
variable {T:Type}
def zvj(q)(m:List (B8×T))(k):zau (q::m) k=if k=q.1 then some q.2 else zau m k:=by
 unfold zau;rw[List.find?_cons];by_cases h:k=q.1;simp[h];have:(k==q.1)=false:=by simpa using h
 rw[this,Qbr h]
def z05f(q)(m)(k)(x:T):ze4 (q::m) k x=if k=q.1 then (k,x)::m else q::ze4 m k x:=by
 unfold ze4;rw[List.findIdx?_cons];by_cases h:k=q.1;simp[h]
 grind
def yj9(m)(k a)(x:T):zau (ze4 m k x) a=if a=k then some x else zau m a:=by
 induction m with
 |nil=>show zau [(k,x)] a=_;rw[zvj]
 |cons q m d=>
  rw[z05f];by_cases h:k=q.1
  simp_all[zvj]
  rw[Qbr h,zvj,d,zvj];by_cases b:a=q.1;rw[Qbq b,Qbq b,Qbr (λz=>h (z.symm.trans b))]
  grind
def yps{m:List (B8×T)}{k}:zau m k=none↔k∉mks m:=by
 induction m with
 |nil=>simp[zau,mks]
 |cons q m a=>
  rw[zvj];show _↔k∉q.1::mks m;by_cases h:k=q.1;simp[h]
  grind
end
def z03k{T}:∀{es:List (B8×T)}{i} (h) (s),s∈mks es↔s=es[i].1∨s∈mks (es.eraseIdx i)
 |[],_,h,_=>by cases h
 |q::es,0,_,s=>by show s∈q.1::mks es↔_;grind
 |q::es,i+1,h,s=>by
  show s∈q.1::mks es↔s=(es[i]'(by simpa using h)).1∨s∈q.1::mks (es.eraseIdx i);rw[Qbf,Qbf,z03k (es:=es) (i:=i) (by simpa using h) s];exact or_left_comm
def TM(m:List (B8×Bool))(K:List B8):Prop:=∀k,zau m k=if k∈K then some true else none
def TM.mk{m K}(h:TM m K):MK m K:=λk=>by
 rw[h k];grind
def TM.nil:TM [] []:=λk=>by simp[zau]
theorem TM.put{m K}(h:TM m K)(s):TM (ze4 m s true) (K++[s]):=λk=>by
 rw[yj9,h k]
 grind
def TM.keys{m K}(h:TM m K)(s):s∈mks m↔s∈K:=by
 have:=h s;by_cases q:s∈K;rw[Qbq q]at this;exact⟨λ_=>q,λ_=>Classical.byContradiction λz=>by rw[yps.2 z]at this;cases this⟩
 simp_all[yps]
theorem MK.put{m K}(h:MK m K)(s):MK (ze4 m s true) (K++[s]):=λk=>by
 rw[yj9];by_cases q:k=s;simp[q];rw[Qbr q,h k];simp[q]
def MK.ext{m K J}(h:MK m K)(e:∀s,s∈K↔s∈J):MK m J:=λk=>by rw[h k];grind
def RM(m:List (B8×Int))(K:List B8):Prop:=∀k,zau m k=if k∈K then some (atI K k)else none
def RM.nil:RM [] []:=λk=>by simp[zau]
def z0bb{K s}(h:s∉K)(k):atI (K++[s]) k=if k=s then (K.length:Int)else atI K k:=by
 induction K with
 |nil=>show atI [s] k=_;rw[zu1];by_cases q:s=k
       simp[q]
       simp_all[Ne.symm,atI]
 |cons x K a=>
  have b:x≠s:=λe=>h (by grind)
  have:=a λz=>h (Qai _ z)
  rw[Qby,zu1,zu1,this];by_cases q:k=s;subst q;rw[Qbr b,Qbq rfl,Qbq rfl,Qbr (by omega)];simp
  grind
theorem RM.put{m K}(h:RM m K){s}(a:s∉K):RM (ze4 m s (K.length:Int)) (K++[s]):=λk=>by
 rw[yj9,h k,z0bb a];by_cases q:k=s;simp[q];simp[q]
def Ev.pick{α R es}{f:Nat->B8->α->List (B8×α)->Option R}{g r}
  (s:es=[]->Ev g r) (q:∀i (h:i<es.length),Ev (λn=>f n es[i].1 es[i].2 (es.eraseIdx i)) r):Ev (λn=>yd9 es (f n) (g n)) r:=by
 have e:∃N,∀m,N<=m->(es=[]->g m=some r):=by
  by_cases j:es=[];have⟨N,a⟩:=s j;exact⟨N,λm b _=>a m b⟩
  simp_all
 have l:∀k,k<=es.length->∃N,∀m,N<=m->∀i (h:i<es.length),i<k->f m es[i].1 es[i].2 (es.eraseIdx i)=some r:=λk=>by
  induction k with
  |zero=>simp_all
  |succ k d=>
   intro x;have⟨N,a⟩:=d (by omega);have⟨M,o⟩:=q k (by omega);refine⟨max N M,λm b i hi u =>?_⟩;by_cases h:i=k
   grind
   grind
 have⟨N,a⟩:=e;have⟨M,o⟩:=l es.length (Qbp _);refine⟨max N M,λm b=>z08r (a m (by omega)) λi p w =>?_⟩
 grind
def z0a6{γ}{L:Nat->Int->Option γ}{len}{p:Nat->Bool}{got r b}(d:b=true↔∃j,j<len∧p j=true)
  (l:Ev (λn=>L n (len:Int)) r)
  (i:∀k (h:k<len) v,Ev (λn=>L n ((k+1:Nat):Int)) v->Ev (λn=>L n (k:Int)) (if p k=true then got else v)):Ev (λn=>L n 0) (if b=true then got else r):=by
 have:∀k,k<=len->∀b:Bool,(b=true↔∃j,k<=j∧j<len∧p j=true)->Ev (λn=>L n (k:Int)) (if b=true then got else r) :=
  down (λb d=>by rw[Qbr λh=>by grind];exact l) λk a g b d=>by
   cases h:p k with
   |true=>
    rw[Qbq (d.2 ⟨k,Qbp _,a,h⟩)];have:=i k a _ (g (@decide _ (Classical.propDecidable _)) (@decide_eq_true_iff _ (Classical.propDecidable _)))
    grind
   |false=>
    have e:b=true↔∃j,k+1<=j∧j<len∧p j=true:=by
     grind
    have:=i k a _ (g b e)
    grind
 have:=this 0 (Qbo _) b (by simp_all);simpa using this
noncomputable def pbad(p:yz2)(r:yz7)(k:Nat):Bool:=if h:k<r.params.length then decide (r.params[k]∈yzt p)||decide (atI r.params r.params[k]<(k:Int))else false
noncomputable def pdup(p:yz2)(r:yz7):Bool:=dup (r.params++yzt p)
def z0ap{p r}(n:(yzt p).Nodup):pdup p r=true↔∃j,j<r.params.length∧pbad p r j=true:=by
 unfold pdup;rw[ywn,List.nodup_append];constructor;intro h;by_cases i:r.params.Nodup;have:¬∀a∈r.params,∀b∈yzt p,a≠b:=λz=>h ⟨i,n,z⟩
 simp only[Classical.not_forall,Classical.not_not]at this;have⟨a,g,b,o,l⟩:=this;have⟨j,d,e⟩:=List.mem_iff_getElem.1 g;refine⟨j,d,?_⟩
 simp_all[pbad]
 have⟨k,m,h⟩:=z005.2 i;refine⟨k,m,?_⟩
 simp_all[pbad]
 rintro ⟨j,d,h⟩ ⟨g,_,l⟩
 unfold pbad at h;rw[dif_pos d,Bool.or_eq_true]at h
 rcases h with h|h
 exact l _ (Qad d) _ (Qac h) rfl;exact(z005.1 ⟨j,d,Qac h⟩) g
def yi4{l:List B8}{k}(h:l.Nodup):(l.take k).Nodup:=h.sublist (List.take_sublist k l)
def yyq{p:yz2}(M:p.wf)(Z:p.size<=4000000){m:List (B8×Bool)}{a:List (B8×Int)}(N:TM m (yzt p))(E:RM a (kzo p))(u:Bool) :
  Ev (λn=>z3z n false 0 u (mks m) (mvs m) p.rules (p.rules.length:Int) p (mks a) (mvs a)) (if (u || !p.rules.all (kR p))=true then 6 else if yg7 p=true then 2 else 0):=by
 have:=@y5w p;have:=@zv4 p;have H:(kzo p).length=p.rules.length:=by simp[kzo]
 have main:∀k,k<=p.rules.length->∀w u:Bool,Ev (λn=>z3z n w (k:Int) u (mks m) (mvs m) p.rules (p.rules.length:Int) p (mks a) (mvs a)) (if (u || !(p.rules.drop k).all (kR p))=true then 6 else if (w||(p.rules.drop k).any (znf p))=true then 2 else 0) :=
  down (λw u=>by
   rw[zr3,Ev.kz0 (by simp),List.drop_length,Ev.pif,Ev.pif,Ev.yz0,Ev.yz0,Ev.yz0]
   cases u <;> cases w <;> simp) λk A L w u=>by
   have r:=Qad A;have:=zuw r;have C:=ypf M r;have:=@y5e p.rules[k];have Y:=zpe p.rules[k];have X:=yi8 p.rules[k]
   have G:∀u:Bool,Ev (λn=>z6u n w u (mks m) (mvs m) p.rules (p.rules.length:Int) (k:Int) p (mks a) (mvs a) p.rules[k]) (if ((u || !(kzm p.rules[k]).all λc=>decide (c.1∈kzo p)) || !(p.rules.drop (k+1)).all (kR p))=true then 6 else if ((w||znf p p.rules[k])||(p.rules.drop (k+1)).any (znf p))=true then 2 else 0):=λu=>by
    have W:((kzm p.rules[k]).map toT).length=(kzm p.rules[k]).length:=by simp
    rw[y8i,Ev.zz0 (yvn (by omega)),yza,yza]
    have loop:∀j,j<=(kzm p.rules[k]).length->∀w u:Bool,Ev (λn=>z6i n (j:Int) w u ((kzm p.rules[k]).map toT) (mks m) (mvs m) p.rules (p.rules.length:Int) (k:Int) (((kzm p.rules[k]).map toT).length:Int) p (mks a) (mvs a)) (if ((u || !((kzm p.rules[k]).drop j).all λc=>decide (c.1∈kzo p)) || !(p.rules.drop (k+1)).all (kR p))=true then 6 else if ((w||((kzm p.rules[k]).drop j).any λc=>decide (c.1∈kzo p)&&(c.2 != plen p c.1))||(p.rules.drop (k+1)).any (znf p))=true then 2 else 0) :=
     down (λw u=>by
      rw[zrr,Ev.kz0 (by simp),wrk (by omega),yza,yza,List.drop_length]
      simpa using L w u) λj x z w u=>by
      have F:j<((kzm p.rules[k]).map toT).length:=by simpa using x
      have y:∀w u:Bool,Ev (λn=>z35 n w u ((kzm p.rules[k]).map toT) (mks m) (mvs m) p.rules (p.rules.length:Int) (k:Int) (((kzm p.rules[k]).map toT).length:Int) (j:Int) p (mks a) (mvs a)) _:=λw u=>by
       rw[y62,wrk (by omega),yza,yza];exact z w u
      have g:=E (kzm p.rules[k])[j].1
      have l10:∀u:Bool,Ev (λn=>z4z n u ((kzm p.rules[k]).map toT) (mks m) (mvs m) p.rules (p.rules.length:Int) (k:Int) (((kzm p.rules[k]).map toT).length:Int) (j:Int) (Option.getD (zau a (kzm p.rules[k])[j].1) 0) (Option.isSome (zau a (kzm p.rules[k])[j].1)) w p (mks a) (mvs a) (toT (kzm p.rules[k])[j])) (if ((u || !((kzm p.rules[k]).drop (j+1)).all λc=>decide (c.1∈kzo p)) || !(p.rules.drop (k+1)).all (kR p))=true then 6 else if (((w||(decide ((kzm p.rules[k])[j].1∈kzo p)&&((kzm p.rules[k])[j].2 != plen p (kzm p.rules[k])[j].1)))||((kzm p.rules[k]).drop (j+1)).any λc=>decide (c.1∈kzo p)&&(c.2 != plen p c.1))||(p.rules.drop (k+1)).any (znf p))=true then 2 else 0):=λu=>by
       rw[y6n,yza,yza]
       cases w with
       |true=>rw[Ev.zz1 rfl,Bool.true_or];exact y true u
       |false=>
        rw[Ev.kz0 rfl,Bool.false_or];by_cases b:(kzm p.rules[k])[j].1∈kzo p;have⟨i,hi,Q,P,O⟩:=z032 b;rw[g,Qbq b,Qbm b,Bool.true_and,O,Q];show Ev (λn=>pIf true ((ix p.rules (i:Int)).bind _) _) _;rw[Ev.zz1 rfl,Ev.yz1 (zz5 hi)];exact y _ u;rw[g,Qbr b,Qbl b,Bool.false_and];show Ev (λn=>pIf false _ _) _;rw[Ev.kz0 rfl];exact y false u
      rw[zrr,Ev.zz1 (by simpa using x),Ev.yz1 (zz5 F),List.getElem_map,yza,yza,<-Qah (h:=x),List.all_cons,List.any_cons]
      cases u with
      |true=>rw[Ev.zz1 rfl];exact(l10 true).to (by simp)
      |false=>
       rw[Ev.kz0 rfl]
       have e:Option.isSome (zau a (toT (kzm p.rules[k])[j]).name)=decide ((kzm p.rules[k])[j].1∈kzo p):=by
        show Option.isSome (zau a (kzm p.rules[k])[j].1)=_;rw[g];by_cases q:(kzm p.rules[k])[j].1∈kzo p <;> simp[q]
       have:=l10 (!decide ((kzm p.rules[k])[j].1∈kzo p));have U:Option.isSome (zau a (kzm p.rules[k])[j].1)=decide ((kzm p.rules[k])[j].1∈kzo p):=e;rw[U]at this;rw[Bool.false_or,e];exact this.to (by rw[Bool.not_and,Bool.or_assoc w])
    have:=loop 0 (Qbo _) w u;rw[List.drop_zero]at this;exact this
   have I:∀d,MK d ([[115,120],[115,121],[115,122]]++yzt p)->Ev (λn=>z3u n 0 p.rules[k].params w (mks m) (mvs m) p.rules (p.rules.length:Int) (k:Int) u (p.rules[k].params.length:Int) p (mks a) (mvs a) p.rules[k] (mks d) (mvs d)) (if ((u || !kR p p.rules[k]) || !(p.rules.drop (k+1)).all (kR p))=true then 6 else if ((w||znf p p.rules[k])||(p.rules.drop (k+1)).any (znf p))=true then 2 else 0):=λd o=>by
    have loop:∀j,j<=p.rules[k].params.length->∀d,MK d (([[115,120],[115,121],[115,122]]++yzt p)++p.rules[k].params.take j)->Ev (λn=>z3u n (j:Int) p.rules[k].params w (mks m) (mvs m) p.rules (p.rules.length:Int) (k:Int) u (p.rules[k].params.length:Int) p (mks a) (mvs a) p.rules[k] (mks d) (mvs d)) (if ((u || !kR p p.rules[k]) || !(p.rules.drop (k+1)).all (kR p))=true then 6 else if ((w||znf p p.rules[k])||(p.rules.drop (k+1)).any (znf p))=true then 2 else 0) :=
     down (λd o=>by
      rw[List.take_length]at o;rw[zs5,Ev.kz0 (by simp),yza,yza,yza]
      cases u with
      |true=>rw[Ev.zz1 rfl];have:=G true;simpa using this
      |false=>
       rw[Ev.kz0 rfl,Ev.zz0 (ywc (by omega)),Ev.zz0 (yiz (K:=scope p p.rules[k]) o (λe l=>(yir l).2 C) (λe l=>by have:=(yir l).1;omega) (by omega))];have:=G (!(zys p.rules[k]).all (within (scope p p.rules[k])));rw[<-Bool.not_and]at this;rw[Bool.false_or,kR]
       exact this) λj x z d o=>by
      rw[zs5,Ev.zz1 (by simpa using x),Ev.yz1 (zz5 x),wrk (by omega),yza,yza,yza];refine z _ ((o.put p.rules[k].params[j]).ext λs =>?_);rw[Qay,ztl x]
    exact loop 0 (Qbo _) d (by simpa using o)
   have J:∀len,∀es:List (B8×Bool),es.length=len->∀d D,MK d D->(∀s,(s∈D∨s∈mks es)↔s∈[[115,120],[115,121],[115,122]]++yzt p)->Ev (λn=>z6x n w (mks m) (mvs m) p.rules (p.rules.length:Int) (k:Int) u (mks es) (mvs es) p (mks a) (mvs a) p.rules[k] (mks d) (mvs d)) (if ((u || !kR p p.rules[k]) || !(p.rules.drop (k+1)).all (kR p))=true then 6 else if ((w||znf p p.rules[k])||(p.rules.drop (k+1)).any (znf p))=true then 2 else 0):=λlen=>by
    induction len with
    |zero=>
     intro es l d D o hD;have l:=List.length_eq_zero_iff.1 l;subst l;rw[zsj];refine Ev.pick (λ_ =>?_) λi hi=>by cases hi
     rw[yza,yza,yza]
     exact I d (o.ext λs=>by rw[<-hD s];simp[mks])
    |succ len B=>
     intro es l d D o hD;rw[zsj,yza,yza,yza,yza];refine Ev.pick (λh=>by rw[h]at l;cases l) λi hi =>?_
     refine B (es.eraseIdx i) (by rw[List.length_eraseIdx_of_lt hi];omega) _ _ (o.put es[i].1) λs =>?_
     rw[<-hD s,List.mem_append,List.mem_singleton];rw[z03k hi s,or_assoc]
   rw[zr3,Ev.zz1 (by simpa using A),Ev.yz1 (zz5 A),yza,yza,<-Qah (h:=A),List.all_cons,List.any_cons,Bool.not_and,<-Bool.or_assoc,<-Bool.or_assoc];refine J m.length m rfl _ [[115,120],[115,121],[115,122]] ?_ λs =>?_
   have R:MK [] []:=λk=>by simp[zau]
   exact((R.put _).put _).put _;rw[N.keys,List.mem_append]
 have:=main 0 (Qbo _) false u;rw[List.drop_zero,Bool.false_or]at this;exact this
def yy8{p:yz2}(B:p.wf)(X:p.size<=4000000):Ev (λn=>z9b n p) (zht p):=by
 have:=@y5w p;have:=@zv4 p;have K:(yzt p).length=p.attrs.length:=by simp[yzt]
 have I:(kzo p).length=p.rules.length:=by simp[kzo]
 have Q:∀(m:List (B8×Bool)) (u:Bool),TM m (yzt p)->(yzt p).Nodup->∀k,k<=p.rules.length->∀o,RM o ((kzo p).take k)->((kzo p).take k).Nodup->Ev (λn=>z5z n (k:Int) p.rules u (p.rules.length:Int) (mks m) (mvs m) (mks o) (mvs o) p) (if (dup (kzo p)||(p.rules.drop k).any (pdup p))=true then 14 else if (u || !p.rules.all (kR p))=true then 6 else if yg7 p=true then 2 else 0):=λm u q z=>
  down (λo l s=>by
   rw[<-I,List.take_length]at l s;rw[zsa,Ev.kz0 (by simp),yza,yza,List.drop_length,z099.2 s]
   exact yyq B X q l u) λk g A o l s=>by
   have i:=Qad g;have:=zuw i;have:=@y5e p.rules[k];have y:=l p.rules[k].name;rw[zsa,Ev.zz1 (by simpa using g),Ev.yz1 (zz5 g),yza,yza];by_cases d:p.rules[k].name∈(kzo p).take k;rw[y,Qbq d,Ev.zz1 (by rfl),Ev.yz0]
   have:dup (kzo p)=true:=by
    rw[ywn];intro D;have h:=yi4 (k:=k+1) D;rw[y21 g,List.nodup_append]at h;exact h.2.2 _ d _ (List.mem_singleton.2 rfl) rfl
   rw[this];rfl;rw[y,Qbr d,Ev.kz0 (by rfl)];have hlen:((kzo p).take k).length=k:=by rw[List.length_take];omega
   have x:=l.put d;rw[hlen,<-y21 g]at x
   have J:((kzo p).take (k+1)).Nodup:=by
    rw[y21 g,List.nodup_append];exact⟨s,by simp,λa F b E e=>d (by rw[<-List.mem_singleton.1 E,<-e];exact F)⟩
   have U:=A _ x J
   have O:=z0a6 (L:=λn j=>z62 n j p.rules[k].params p.rules u (p.rules.length:Int) (k:Int) (p.rules[k].params.length:Int) p.rules[k] (mks m) (mvs m) (mks (ze4 o p.rules[k].name (k:Int))) (mvs (ze4 o p.rules[k].name (k:Int))) p) (len:=p.rules[k].params.length) (p:=pbad p p.rules[k]) (got:=14) (z0ap (r:=p.rules[k]) z) (by
    rw[zrt,Ev.kz0 (by simp),wrk (by omega),yza,yza];exact U) λj C w G=>by
    have M:∀b:Bool,Ev (λn=>z6z n p.rules[k].params p.rules u (p.rules.length:Int) (k:Int) (p.rules[k].params.length:Int) (j:Int) b p.rules[k] (mks m) (mvs m) (mks (ze4 o p.rules[k].name (k:Int))) (mvs (ze4 o p.rules[k].name (k:Int))) p) (if b=true then 14 else w):=λb=>by
     cases b;rw[zsp,Ev.kz0 (by rfl),wrk (by omega),yza,yza];exact G;rw[zsp,Ev.zz1 (by rfl),Ev.yz0];rfl
    rw[zrt,Ev.zz1 (by simpa using C),Ev.yz1 (zz5 C),yza,yza,q.mk,pbad,dif_pos C];by_cases h:p.rules[k].params[j]∈yzt p;rw[Qbm h,Ev.zz1 rfl];exact M true;rw[Qbl h,Ev.kz0 rfl,Ev.zz0 (y37 (by omega))];exact M _
   refine O.to ?_;rw[<-Qah (h:=g),List.any_cons];cases pdup p p.rules[k] <;> cases dup (kzo p) <;> rfl
 have R:∀k,k<=p.attrs.length->∀(u:Bool) (m:List (B8×Bool)),TM m ((yzt p).take k)->((yzt p).take k).Nodup->Ev (λn=>z6v n (k:Int) u p.attrs (p.attrs.length:Int) (mks m) (mvs m) (mks ([]:List (B8×Int))) (mvs ([]:List (B8×Int))) p) (if dup (yzt p)=true then 14 else if (dup (kzo p)||p.rules.any (pdup p))=true then 14 else if ((u || !kA ((yzt p).take k) (p.attrs.drop k)) || !p.rules.all (kR p))=true then 6 else if yg7 p=true then 2 else 0) :=
  down (λu m q z=>by
   rw[<-K,List.take_length]at q z;rw[zr7,Ev.kz0 (by simp),yza,yza,List.drop_length,z099.2 z,kA,Qbr (by simp)];have:=Q m u q z 0 (Qbo _) [] (by rw[List.take_zero];exact RM.nil) (by rw[List.take_zero];exact List.nodup_nil);rw[List.drop_zero]at this
   simpa using this) λk g A u m q z=>by
   have i:=Qad g;have:=yd2 i;have:=@ycz p.attrs[k]
   have N:∀u:Bool,Ev (λn=>z65 n u p.attrs (p.attrs.length:Int) (k:Int) (mks m) (mvs m) (mks ([]:List (B8×Int))) (mvs ([]:List (B8×Int))) p p.attrs[k]) (if dup (yzt p)=true then 14 else if (dup (kzo p)||p.rules.any (pdup p))=true then 14 else if ((u || !kA ((yzt p).take (k+1)) (p.attrs.drop (k+1))) || !p.rules.all (kR p))=true then 6 else if yg7 p=true then 2 else 0):=λu=>by
    rw[y7w,yza,yza,q p.attrs[k].name];by_cases d:p.attrs[k].name∈(yzt p).take k;rw[Qbq d];show Ev (λn=>pIf true _ _) _;rw[Ev.zz1 rfl,Ev.yz0]
    have:dup (yzt p)=true:=by
     rw[ywn];intro D;have h:=yi4 (k:=k+1) D;rw[zmu g,List.nodup_append]at h;exact h.2.2 _ d _ (List.mem_singleton.2 rfl) rfl
    rw[this];rfl;rw[Qbr d];show Ev (λn=>pIf false _ _) _;rw[Ev.kz0 rfl,wrk (by omega)];refine A u _ ?_ ?_;rw[zmu g];exact q.put _;rw[zmu g,List.nodup_append];exact⟨z,by simp,λa F b E e=>d (by rw[<-List.mem_singleton.1 E,<-e];exact F)⟩
   rw[zr7,Ev.zz1 (by simpa using g),Ev.yz1 (zz5 g),yza,yza,yzl.kz3,zz2.kz3,<-Qah (h:=g),kA,<-zmu g]
   cases u with
   |true=>rw[Ev.zz1 rfl];exact(N true).to (by simp)
   |false=>
    rw[Ev.kz0 rfl,Ev.zz0 (ykd q.mk (z02l B i) (by omega)),yza];exact(N _).to (by rw[Bool.false_or,Bool.not_and])
 have Y:=R 0 (Qbo _) false [] (by rw[List.take_zero];exact TM.nil) (by rw[List.take_zero];exact List.nodup_nil);rw[yg8,Ev.zz0 (yyy (by omega)),zht];cases zui p
 case true=>rw[Ev.zz1 (by rfl),Ev.yz0];rfl
 rw[Ev.kz0 (by rfl),Ev.zz0 (ytp B (by omega)),Qbr (by simp)];cases zet p
 case false=>rw[Ev.zz1 (by rfl),Ev.yz0];rfl
 rw[Ev.kz0 (by rfl),Qbq rfl];refine Ev.to Y ?_;rw[List.take_zero,List.drop_zero,rdbl,ybp];show(if dup (yzt p)=true then _ else if (dup (kzo p)||p.rules.any λr=>dup (r.params++yzt p))=true then _ else _)=_;cases dup (yzt p) <;> cases (dup (kzo p)||p.rules.any λr=>dup (r.params++yzt p)) <;> cases kA [] p.attrs <;> cases p.rules.all (kR p) <;> rfl
def z08l(r:yz7):List B8:=(kzm r).map (·.1)
def nx(p:yz2)(s:B8):List B8:=match p.rules[(atI (kzo p) s).toNat]? with
 |some r=>z08l r
 |none=>[]
def ywr{p}(h:zht p=0):zet p=true∧(kzo p).Nodup∧(∀r∈p.rules,∀c∈z08l r,c∈kzo p):=by
 unfold zht at h;by_cases k:zui p=true
 grind
 by_cases i:zet p=true
 case neg=>grind
 by_cases j:rdbl p=true
 grind
 by_cases g:ybp p=true
 case neg=>grind
 refine⟨i,?_,λr a c d =>?_⟩
 simp_all[rdbl,z099]
 have e:=Qat.1 (Bool.and_eq_true_iff.1 g).2 r a;obtain⟨q,b,rfl⟩:=Qbb.1 d;exact Qac (Qat.1 (Bool.and_eq_true_iff.1 e).2 q b)
inductive Rch (p:yz2) (root:B8):B8->Prop
 |refl:Rch p root root
 |step {x y:B8}:Rch p root x->y∈nx p x->Rch p root y
def ybw:∀a b:zz2,a.size<=8388608->Ev (λn=>z5y n a b) (eqB a b):=zwf (P:=λa=>∀b:zz2,a.size<=8388608->Ev (λn=>z5y n a b) (eqB a b)) λa j b m=>by
 have l:=zbm a;have hlen:=zc5 a.args;rw[ysc];by_cases g:a.op=b.op
 case neg=>rw[Ev.kz0 (by simpa using g),Ev.yz0,z7e.2 (λh=>g (by rw[h]))]
 rw[Ev.zz1 (by simpa using g)];by_cases e:a.name=b.name
 case neg=>rw[Ev.kz0 (by simpa using e),Ev.yz0,z7e.2 (λh=>e (by rw[h]))]
 rw[Ev.zz1 (by simpa using e),kz1.kz3,kz1.kz3,Ev.zz0 (yhs _ _ (by omega))];by_cases d:a.value=b.value
 case neg=>rw[z7e.2 d,Ev.kz0 rfl,Ev.yz0,z7e.2 (λh=>d (by rw[h]))]
 rw[d,y30,Ev.zz1 rfl,Ev.zz0 (zj1 (S:=λn x y=>z5y n x.re y.re) (λn=>kz6.eq_2 _ _ n) (λn k=>kz5.eq_2 _ _ _ _ n) (by omega) λx i y=>by rw[zz2.kz3,zz2.kz3];exact j x i y (by have:=zml i;omega)),Ev.yz0];have⟨u,s,r,q⟩:=a;have⟨b1,b2,p,o⟩:=b
 grind[z7e]
def yig{a b}(e:(a.map zz2.size).sum<=8000000):Ev (λn=>z6a n a b) (eqB a b):=by
 have:=zc5 a;rw[y8a,Ev.zz0 (zj1 (S:=λn x y=>z5y n x.re y.re) (λn=>kz6.eq_2 _ _ n) (λn k=>kz5.eq_2 _ _ _ _ n) (by omega) λx d y=>by rw[zz2.kz3,zz2.kz3];exact ybw x y (by have:=zu9 d;omega)),Ev.yz0]
def yxm{a b}(d:a.size<=8000000):Ev (λn=>z56 n a b) (eqB a b):=by
 have:=@ydg a;rw[y75,z0dd,ysd,ysd];refine y3n λ_=>y3n λ_ =>?_
 rw[Ev.zz0 (yig (by omega)),Ev.yz0]
def yls{a b}(e:a.size<=8000000):Ev (λn=>z34 n a b) (eqB a b):=by
 have:=@ycx a;have:=@y82 a;rw[y0y,z05x,ysd,ysd,ysd];refine y3n λ_=>y3n λ_=>y3n λ_ =>?_
 rw[Ev.zz0 (yig (by omega))];refine y3n λ_ =>?_
 rw[Ev.zz0 (zj1 (S:=λn x y=>z56 n x y) (λn=>yzi.eq_2 _ _ n) (λn k=>yz8.eq_2 _ _ _ _ n) (by omega) λx d y=>yxm (by have:=y9i d;omega)),Ev.yz0]
def yx3{a b}(e:a.size<=8000000):Ev (λn=>z55 n a b) (eqB a b):=by
 have:=@yhq a;have:=@zyv a;rw[y6b,z0dk,ysd,zz2.kz3,zz2.kz3];refine y3n λ_ =>?_
 rw[Ev.zz0 (ybw _ _ (by omega))];refine y3n λ_ =>?_
 rw[Ev.zz0 (zj1 (S:=λn x y=>z34 n x y) (λn=>kzb.eq_2 _ _ n) (λn k=>zz6.eq_2 _ _ _ _ n) (by omega) λx d y=>yls (by have:=zyy d;omega)),Ev.yz0]
def z04v{a b}(e:a.length<=8000000):Ev (λn=>z15 n a b) (eqB a b):=by
 refine zj1 (S:=λn x y=>some (eqB x y)) (λn=>z15.eq_2 _ _ n) (λn k =>?_) (by omega) (λx d y=>Ev.pure rfl)
 grind[z0d.eq_2,ysd]
def yvb{a b}(e:a.size<=8000000):Ev (λn=>za3 n a b) (eqB a b):=by
 have:=@y5e a;have:=@y2g a;rw[yf7,z0cz,ysd];refine y3n λ_ =>?_
 rw[Ev.zz0 (z04v (by omega))];refine y3n λ_ =>?_
 rw[Ev.zz0 (zj1 (S:=λn x y=>z55 n x.re y.re) (λn=>yzh.eq_2 _ _ n) (λn k=>kz8.eq_2 _ _ _ _ n) (by omega) λx d y=>by rw[kz7.kz3,kz7.kz3];exact yx3 (by have:=zvo d;omega)),Ev.yz0]
def ytz{a b}(d:a.size<=8000000):Ev (λn=>zai n a b) (eqB a b):=by
 have:=@ycz a;rw[ydu,z0da,ysd,zz2.kz3,zz2.kz3];refine y3n λ_ =>?_
 rw[Ev.zz0 (ybw _ _ (by omega)),Ev.yz0]
def yyl{a b}(e:a.size<=8000000):Ev (λn=>zfl n a b) (eqB a b):=by
 have:=@y5w a;have:=@zv4 a;rw[yn6,z0c4,Ev.zz0 (zj1 (S:=λn x y=>zai n x.re y.re) (λn=>zzi.eq_2 _ _ n) (λn k=>yz9.eq_2 _ _ _ _ n) (by omega) λx d y=>by rw[yzl.kz3,yzl.kz3];exact ytz (by have:=yd2 d;omega))];refine y3n λ_ =>?_
 rw[Ev.zz0 (zj1 (S:=λn x y=>za3 n x y) (λn=>kzh.eq_2 _ _ n) (λn k=>zz9.eq_2 _ _ _ _ n) (by omega) λx d y=>yvb (by have:=zuw d;omega)),Ev.yz0]
def z09n{p}(d:p.wf)(e:p.size<=4000000):∃b,Ev (λn=>z4d n p) b∧(b=true->zht p=0):=by
 have⟨g,a⟩:=great (p:=p) (by omega)
 cases g with
 |true=>exact⟨false,by rw[zl4,Ev.zz0 a,Ev.kz0 (c := !true) rfl,Ev.yz0],λh=>by cases h⟩
 |false=>exact⟨zht p==0,by rw[zl4,Ev.zz0 a,Ev.zz1 (c := !false) rfl,Ev.zz0 (yy6 d e),Ev.yz0],λh=>by simpa using h⟩
def Rch.trans{p a b c}(h:Rch p a b)(k:Rch p b c):Rch p a c:=by
 induction k with
 |refl=>exact h
 |step _ e d=>exact .step d e
def z0bo{α}(l)(x:α):ix (l++[x]) (l.length:Int)=some x:=by rw[z011];simp
def z07z{α:Type}(l)(x y:α):(l++[x]).set (Int.toNat (l.length:Int)) y=l++[y]:=by simp
def zt6(a b):kzk (a++b)=kzk a++kzk b:=by simp[kzk]
def zpt(a):(kzk a).length=a.length:=by simp[kzk]
def ydp:∀s:B8,yiu (kzk s)=some s
 |[]=>rfl
 |c::s=>by
  have h:Nat.ble c.toNat 255=true:=Nat.ble_eq_true_of_le (by have:=c.toNat_lt;omega)
  show(match Int.ofNat c.toNat,yiu (kzk s)with
   |.ofNat m,some s=>match Nat.ble m 255 with
    |true=>some (m.toUInt8::s)
    |false=>none
   |_,_=>none)=_
  rw[ydp s];simp only[h];simp[Nat.toUInt8]
def z08x(s):Ev (λn=>z1p n s) s:=⟨0,λ_ _=>rfl⟩
def ws{s t}(h:s.length+t.length<=268435456):Ev (λn=>kz4 n t (kzk s)) ((t.length:Int),kzk (s++t)):=by
 rw[zlu,Ev.zz0 (z08x _),Ev.yz1 (z45 (by rw[zpt,zpt];exact h)),Ev.yz0,zt6]
def wb{s c k}(a:k=(c.toNat:Int))(h:s.length+1<=268435456):Ev (λn=>yzb n k (kzk s)) (kzk (s++[c])):=by
 subst a;rw[zne,Ev.zz0 (z08x _),Ev.yz1 (z45 (by rw[zpt];exact h)),Ev.yz0,zt6];rfl
def w8{k}(h:0<=k∧k<=255):IntKind.u8.wrap k=k:=by
 unfold IntKind.wrap;simp[IntKind.bits,IntKind.signed,if_false];omega
def w32{k}(h:0<=k∧k<=255):IntKind.u32.wrap k=k:=by
 unfold IntKind.wrap;simp[IntKind.bits,if_false];omega
def wr{s c k}(a:k=(c.toNat:Int))(d:c.toNat<128)(h:s.length+1<=268435456):∃q,Ev (λn=>z02 n k (kzk s)) (q,kzk (s++[c])):=by
 subst a
 have b:Ev (λn=>z0w n (c.toNat:Int) (kzk s)) (kzk (s++[c])):=by
  rw[zpb,w32 (by omega),Ev.zz1 (by simp;omega),w8 (by omega),Ev.yz1 (z45 (by rw[zpt];exact h)),Ev.yz0,zt6];rfl
 refine⟨IntKind.i64.wrap (((kzk (s++[c])).length:Int)-((kzk s).length:Int)),?_⟩;rw[zn4,Ev.zz0 (z08x _),Ev.zz0 b,Ev.yz0]
def blen{s}:Ev (λn=>z06 n (kzk s)) ((s.length:Int),kzk s):=by rw[zwo,Ev.yz0,zpt]
def bstr{s}:Ev (λn=>z1a n (kzk s)) s:=⟨0,λ_ _=>ydp s⟩
theorem yb8{k}(h:k<10):(UInt8.ofNat (48+k)).toNat=48+k:=by
 rw[UInt8.toNat_ofNat'];omega
theorem y3c{u}(h:u<10):Lib.decDigits u=[UInt8.ofNat (48+u)]:=by rw[Lib.decDigits,dif_pos h]
theorem z02s{u}(h:¬u<10):Lib.decDigits u=Lib.decDigits (u / 10)++[UInt8.ofNat (48+u % 10)]:=by rw[Lib.decDigits,dif_neg h]
def yis{x}(h : -9223372036854775807<=x∧x<=9223372036854775807):Ev (λn=>z2v n x 10) (Lib.itoa x):=⟨0,λ_ _=>by
 unfold z2v;grind⟩
theorem y7y{x}(h : -9223372036854775807<=x∧x<=9223372036854775807):(Lib.itoa x).length<=21:=Lib.itoa_length_le x (by omega) h.2
def z92(r:yz4):B8:=if r.den=1 then Lib.itoa r.num else Lib.itoa r.num++47::Lib.itoa r.den
theorem yc0{r}(h:rok r=true):(z92 r).length<=43:=by
 have⟨d,b,a⟩:=yxe h
 grind[z92,y7y]
def zwy{r}(h:rok r=true):Ev (λn=>zb6 n r) (z92 r,0):=by
 have⟨j,i,g⟩:=yxe h;have a:=y7y (x:=r.num) (by omega);have b:=y7y (x:=r.den) (by omega);have e:=zra (r:=r) (by unfold I64;omega);rw[Qbq h]at e;rw[ynw,Ev.zz0 e,Ev.kz0 (by rfl),Ev.zz0 (yis (by omega))];unfold z92;by_cases d:r.den=1
 simp_all[Ev.kz0,zuc,Ev.yz0]
 rw[Ev.zz1 (by simpa using d),Ev.zz0 (yis (by omega)),Ev.yz1 (y2m (by simp;omega)),Ev.yz1 (y2m (by simp;omega)),zuc,Ev.yz0,Qbr d];rfl
def zot:kzk []=[]:=rfl
def z024(c d:UInt8):(((c.toNat:Nat):Int)==((d.toNat:Nat):Int))=(c==d):=by
 grind[UInt8.toNat_inj]
def b34(c:UInt8):(((c.toNat:Nat):Int)==34)=(c==34):=z024 c 34
def b92(c:UInt8):(((c.toNat:Nat):Int)==92)=(c==92):=z024 c 92
def b48(c:UInt8):(((c.toNat:Nat):Int)==48)=(c==48):=z024 c 48
def esc:B8->B8
 |[]=>[]
 |c::s=>if c=34∨c=92 then 92::c::esc s else c::esc s
def zj2(v:kz1):B8:=if v.kind=1 then z92 v.num else if v.kind=2 then (if v.truth then [116,114,117,101]else [102,97,108,115,101])else 34::(esc v.str++[34])
def z038:∀s:B8,(esc s).length<=2 * s.length
 |[]=>Qbp _
 |c::s=>by have:=z038 s;unfold esc;grind
theorem drop_cons{s:B8}{k}(h):s.drop k=s[k]::s.drop (k+1):=(Qah (h:=h)).symm
def ys0{s}(w:s.length<=60)(r:s.all zvm=true):∀k,k<=s.length->∀b:B8,b.length<=1000-2 * (s.length-k)->Ev (λn=>z6y n (kzk b) s k) (kzk (b++(esc (s.drop k)++[34]))) :=
 down (λb p=>by
  rw[zqt,Ev.kz0 (by simp),Ev.zz0 (wb (k:=34) (c:=34) rfl (by omega)),Ev.yz0]
  simp[esc]) λk e m b p=>by
  have j:=Qat.1 r _ (Qad e)
  have d:s[k].toNat<128:=by
   unfold zvm at j;simp at j;omega
  rw[zqt,Ev.zz1 (by simpa using e),ykv e d]
  have l:∀a:B8,a.length+1<=1000-2 * (s.length-(k+1))->Ev (λn=>z6g n (s[k].toNat:Int) (kzk a) s (k+1)) (kzk (a++(s[k]::(esc (s.drop (k+1))++[34])))):=λa x=>by
   have⟨q,o⟩:=wr (s:=a) (c:=s[k]) rfl d (by omega);rw[y98,Ev.zz0 o];refine(m (a++[s[k]]) (by simp;omega)).to ?_;simp
  have u:(s[k]=34∨s[k]=92)->Ev (λn=>z64 n (s[k].toNat:Int) (kzk b) s (k+1)) (kzk (b++(esc (s.drop k)++[34]))):=λh=>by
   rw[y7s,Ev.zz0 (wb (k:=92) (c:=92) rfl (by omega))];refine(l (b++[92]) (by simp;omega)).to ?_;rw[drop_cons e];simp[esc,h]
  simp[b34,b92];by_cases i:s[k]=34
  simp_all[Ev.zz1]
  rw[Ev.kz0 (by simpa using i)];by_cases g:s[k]=92
  simp_all[Ev.zz1]
  rw[Ev.kz0 (by simpa using g)]
  grind[drop_cons,esc]
theorem z02x{v}(h:zeg v=true)(a:v.kind=3):v.str.length<=60∧v.str.all zvm=true:=by
 simp_all[ze8]
theorem y9x{v}(h:zbt v=0):(zj2 v).length<=130:=by
 have⟨a,_,_⟩:=zj0 h;unfold zj2;split
 grind[yc0,zvc]
 split;split <;> decide
 have:=z038 v.str
 rcases zov a with hk|hk|hk|hk
 contradiction
 contradiction
 grind[z02x]
 simp[(z0fd a hk).2.2.2,esc]
theorem yom{v}(b:zeg v=true)(a:v.kind=3):v.str.length<=60∧v.str.all zvm=true:=z02x b a
def z013{v}(o:v.wf)(p:v.size<=8388608)(h:zbt v=0)(u:v.kind≠4):Ev (λn=>zfc n v) (zj2 v,0):=by
 have⟨g,_,_⟩:=zj0 h;have r:=y9x h
 have d:Ev (λn=>zbl n v []) (kzk (zj2 v)):=by
  rw[yh8];unfold zj2;by_cases a:v.kind=1;have e:=zvc g a;have:=ws (s:=[]) (t:=z92 v.num) (by have:=yc0 e;simp;omega);rw[zot,Qbz]at this;rw[Ev.zz1 (by simpa using a),Ev.zz0 (zwy e),Ev.zz0 this,Ev.yz0,Qbq a];rw[Ev.kz0 (by simpa using a),Qbr a];by_cases b:v.kind=2;rw[Ev.zz1 (by simpa using b),Qbq b];cases q:v.truth;have:=ws (s:=[]) (t:=[102,97,108,115,101]) (by decide)
  rw[zot,Qbz]at this;rw[Ev.kz0 (by rfl),Ev.zz0 this,Ev.yz0];rfl;have:=ws (s:=[]) (t:=[116,114,117,101]) (by decide);rw[zot,Qbz]at this;rw[Ev.zz1 (by rfl),Ev.zz0 this,Ev.yz0];rfl;rw[Ev.kz0 (by simpa using b),Qbr b];have j:v.kind=3:=by grind[zov]
  have⟨m,l⟩:=yom g j;have:=wb (s:=[]) (k:=34) (c:=34) rfl (by decide);rw[zot,Qbz]at this;rw[Ev.zz1 (by simpa using j),Ev.zz0 this];exact ys0 m l 0 (Qbo _) [34] (by simp;omega)
 have i:=zrj o p;rw[h]at i;rw[yn9,kz1.kz3,Ev.zz0 i,Ev.kz0 (by rfl),Ev.zz0 d,Ev.zz0 blen,Ev.kz0 (by simp;omega),Ev.zz0 bstr,Ev.yz0]
def z08z:List B8:=[[43],[45],[42],[47],[60],[61],[97,110,100],[111,114]]
def zif:List B8:=[[110,111,116],[105,102],[109,105,110],[109,97,120],[102,108,111,111,114],[108,101,110],[97,116]]
def zfw(op:Int):B8:=if 3<=op∧op<=10 then z08z.getD (op-3).toNat []else []
def zez(op:Int):B8:=if 11<=op∧op<=17 then zif.getD (op-11).toNat []else []
def z06p:zzf 0 [43,32,45,32,42,32,47,32,60,32,61,32,97,110,100,32,111,114]=some z08z:=by decide +kernel
def z0b2:Ev (λn=>zzf n [43,32,45,32,42,32,47,32,60,32,61,32,97,110,100,32,111,114]) z08z:=⟨0,λ_ _=>z06p⟩
def z04d:zzf 0 [110,111,116,32,105,102,32,109,105,110,32,109,97,120,32,102,108,111,111,114,32,108,101,110,32,97,116]=some zif:=by decide +kernel
def ywl:Ev (λn=>zzf n [110,111,116,32,105,102,32,109,105,110,32,109,97,120,32,102,108,111,111,114,32,108,101,110,32,97,116]) zif:=⟨0,λ_ _=>z04d⟩
def op8{op:Int}(h:3<=op∧op<=10):op=3∨op=4∨op=5∨op=6∨op=7∨op=8∨op=9∨op=10:=by omega
def op7{op:Int}(h:11<=op∧op<=17):op=11∨op=12∨op=13∨op=14∨op=15∨op=16∨op=17:=by omega
def y36{op}:Ev (λn=>zcn n op) (zfw op):=by
 have a:∀b,(b=true↔¬(3<=op∧op<=10))->Ev (λn=>zaq n op b) (zfw op):=λb d=>by
  rw[yf1];cases b;have h:3<=op∧op<=10:=Classical.not_not.1 λh=>by grind
  rw[Ev.kz0 (by rfl),Ev.zz0 z0b2];unfold zfw;rw[Qbq h]
  rcases op8 h with rfl|rfl|rfl|rfl|rfl|rfl|rfl|rfl <;> exact⟨0,λ_ _=>rfl⟩
  rw[Ev.zz1 (by rfl),Ev.yz0];unfold zfw;grind
 rw[yri];by_cases h:op<3;rw[Ev.zz1 (by simpa using h)];exact a true (by simp;omega);rw[Ev.kz0 (by simpa using h)];exact a _ (by simp;omega)
def zf3(op:Int):B8:=if zfw op≠[]then [40]else if op≠18 then zez op++[40]else [91]
def zxb(op:Int):B8:=if zfw op≠[]then 32::(zfw op++[32])else [44,32]
def zc2(op:Int):B8:=if zfw op≠[]then [41]else if op≠18 then [41]else [93]
mutual
def z3d:zz2->B8
 |⟨op,v,nm,l⟩=>if op=1 then zj2 v else if op=2 then nm else zf3 op++(z3p (zxb op) false l++zc2 op)
def z3p(a:B8):Bool->kz9->B8
 |_,[]=>[]
 |b,e::l=>(if b then a else [])++(z3d e++z3p a true l)
end
theorem zmn(e):z3d e=if e.op=1 then zj2 e.value else if e.op=2 then e.name else zf3 e.op++(z3p (zxb e.op) false e.args++zc2 e.op):=by cases e;rw[z3d]
theorem y2x(op):(zfw op).length<=3:=by
 unfold zfw;split
 rename_i h;rcases op8 h with rfl|rfl|rfl|rfl|rfl|rfl|rfl|rfl <;> decide
 decide
theorem ydn(op):(zez op).length<=5:=by
 unfold zez;split
 rename_i h;rcases op7 h with rfl|rfl|rfl|rfl|rfl|rfl|rfl <;> decide
 decide
theorem ype(op):(zf3 op).length<=6:=by
 grind[ydn,zf3]
theorem yvq(op):(zxb op).length<=5:=by
 grind[y2x,zxb]
theorem yi5(op):(zc2 op).length=1:=by
 grind[zc2]
theorem zon{e}(h:zcy e=true):∀x∈e.args,zcy x=true:=by
 rw[y1y,z00h]at h
 simp_all
theorem zmh{e}(h:zcy e=true):y3w e.op e.value e.name=true:=by
 simp_all[y1y]
def zlf{e}(h:zcy e=true):zq0 e.op e.args.length=true:=by
 simp_all[y1y]
theorem own1{v nm}(h:y3w 1 v nm=true):zbt v=0∧v.kind≠4∧nm=[]:=by
 unfold y3w at h;simpa using h
theorem own2{v nm}(h:y3w 2 v nm=true):zin nm=true∧v=v0:=by
 grind[y3w,zhu]
def ownO{op v nm}(b:op≠1)(a:op≠2)(h:y3w op v nm=true):nm=[]∧v=v0:=by
 simp_all[y3w,zhu]
theorem ya1{s}(h:zin s=true):s.length<=40:=by
 unfold zin zbq at h
 grind
def z0el{op k}(h:zq0 op k=true)(a:3<=op∧op<=10):k=2:=by
 unfold zq0 at h;have b:z7j op=2:=by unfold z7j;omega
 grind
theorem ykt{a}(g:a.length<=5):∀(l) (b),(∀x∈l,(z3d x).length+8<=200 * z5r x)->(z3p a b l).length<=200 * zzo l
 |[],b,_=>by simp[z3p]
 |e::l,b,h=>by
  have i:=ykt g l true λx d=>h x (Qai _ d)
  grind[z3p,zzo]
def z05k:∀e:zz2,zcy e=true->(z3d e).length+8<=200 * z5r e:=zwf λe a b=>by
 grind[zmn,z8g,zmh,y9x,own1,ya1,own2,ype,yi5,ykt,yvq,zon]
def y6x{op}(h:3<=op∧op<=10):zfw op≠[]:=by
 rcases op8 h with rfl|rfl|rfl|rfl|rfl|rfl|rfl|rfl <;> decide
def y6u{op}(h:¬(3<=op∧op<=10)):zfw op=[]:=by unfold zfw;rw[Qbr h]
def ydm{op k}(h:zq0 op k=true):((op=1∨op=2)∧k=0)∨(z7j op=2∧k=2)∨(z7j op=1∧k=1)∨(op=12∧k=3)∨op=18:=by
 unfold zq0 at h;simp[Qbg]at h;unfold z7j at h ⊢;by_cases e:op=1∨op=2
 grind
 rw[Qbr e]at h ⊢;by_cases d:(3<=op∧op<=10)∨op=13∨op=14∨op=17;rw[Qbq d]at h ⊢;grind;by_cases b:op=11∨op=15∨op=16;rw[Qbq b]at h ⊢;grind;by_cases a:op=12;rw[Qbq a]at h;omega
 simp_all
def zwa{op k}(h:zq0 op k=true)(e:op≠1)(d:op≠2)(g:¬(3<=op∧op<=10))(b:op≠18):11<=op∧op<=17:=by
 rcases ydm h with ⟨a|a,_⟩|⟨a,_⟩|⟨a,_⟩|⟨a,_⟩|a
 exact(e a).elim;exact(d a).elim
 grind[z7j]
 grind[z7j]
 omega;exact(b a).elim
def z064{op}(h:11<=op∧op<=17):ix zif (IntKind.u8.wrap (op-11))=some (zez op):=by
 rcases op7 h with rfl|rfl|rfl|rfl|rfl|rfl|rfl <;> rfl
def z00a:∀e:zz2,e.wf->e.size<=8388608->zcy e=true->∀g:B8,g.length+200 * z5r e<=1000000->Ev (λn=>zcz n e (kzk g)) (kzk (g++z3d e)):=zwf λe G E X u g Z=>by
 have r:=zmh u;have B:=zlf u;have K:=zbm e;have Y:=z8g e;have L:=zc5 e.args;rw[ym5,zmn];by_cases m:e.op=1;rw[m]at r;have⟨C,F,_⟩:=own1 r;have:=y9x C;rw[Ev.zz1 (by simpa using m),kz1.kz3,Ev.zz0 (z013 (yoh E) (by omega) C F),Ev.zz1 (by rfl),Ev.zz0 (ws (t:=zj2 e.value) (by omega)),Ev.yz0,Qbq m];rw[Ev.kz0 (by simpa using m),Qbr m];by_cases l:e.op=2;rw[l]at r;have:=ya1 (own2 r).1
 rw[Ev.zz1 (by simpa using l),Ev.zz0 (ws (by omega)),Ev.yz0,Qbq l];rw[Ev.kz0 (by simpa using l),Qbr l];have R:=ype e.op;have Q:=yvq e.op;have O:=yi5 e.op
 have loop:∀k,k<=e.args.length->∀b:B8,b.length+200 * zzo (e.args.drop k)+190<=1000000->Ev (λn=>z84 n (k:Int) (zxb e.op) e.args (zc2 e.op) (e.args.length:Int) (kzk b)) (kzk (b++(z3p (zxb e.op) (decide (0<k)) (e.args.drop k)++zc2 e.op))) :=
  down (λb z=>by
   rw[zu6,Ev.kz0 (by simp),Ev.zz0 (ws (by omega)),Ev.yz0]
   simp[z3p]) λk s A b z=>by
   have o:=Qad s;have J:e.args.drop k=e.args[k]::e.args.drop (k+1):=(Qah (h:=s)).symm;rw[J]at z ⊢;rw[zzo]at z;have U:=z05k _ (zon u _ o)
   have D:∀a:B8,a.length+200 * z5r e.args[k]+200 * zzo (e.args.drop (k+1))+185<=1000000->Ev (λn=>z8y n (zxb e.op) e.args (zc2 e.op) (e.args.length:Int) (k:Int) (kzk a) e.args[k]) (kzk (a++(z3d e.args[k]++(z3p (zxb e.op) true (e.args.drop (k+1))++zc2 e.op)))):=λa H=>by
    rw[yat,zz2.kz3,Ev.zz0 (G _ o (yvt E _ o) (by have:=zml o;omega) (zon u _ o) a (by omega)),wrk (by omega)];have:=A (a++z3d e.args[k]) (by simp;omega);rw[show decide (0<k+1)=true by simp]at this;refine this.to ?_;simp
   rw[zu6,Ev.zz1 (by simpa using s),Ev.yz1 (zz5 s),zz2.kz3,z3p];by_cases j:0<k;rw[Ev.zz1 (by simpa using j),Ev.zz0 (ws (by omega))];refine(D (b++zxb e.op) (by simp;omega)).to ?_;simp[j];rw[Ev.kz0 (by simpa using j)];refine(D b (by omega)).to ?_;simp[j]
 have x:Ev (λn=>z5j n (zxb e.op) (zc2 e.op) (zf3 e.op) (kzk g) e) (kzk (g++(zf3 e.op++(z3p (zxb e.op) false e.args++zc2 e.op)))):=by
  rw[yb4,Ev.zz0 (ws (by omega))];refine(loop 0 (Qbo _) (g++zf3 e.op) (by simp;omega)).to ?_;simp
 rw[Ev.zz0 y36];by_cases y:3<=e.op∧e.op<=10;have i:=y6x y;have M:=y2x e.op;rw[Ev.zz1 (by simpa using i),Ev.zz0 y36,Ev.yz1 (y2m (by simp;omega)),Ev.yz1 (y2m (by simp;omega)),zz2.kz3];have w:[32]++zfw e.op++[32]=zxb e.op:=by unfold zxb;rw[Qbq i];simp
 have q:[41]=zc2 e.op:=by unfold zc2;rw[Qbq i]
 have p:[40]=zf3 e.op:=by unfold zf3;rw[Qbq i]
 rw[w,q,p];exact x;have i:=y6u y;rw[Ev.kz0 (by simp[i]),zz2.kz3];have w:[44,32]=zxb e.op:=by unfold zxb;rw[Qbr (by simpa using i)]
 by_cases d:e.op=18;have q:[93]=zc2 e.op:=by unfold zc2;rw[Qbr (by simpa using i),Qbr (by simpa using d)]
 have p:[91]=zf3 e.op:=by unfold zf3;rw[Qbr (by simpa using i),Qbr (by simpa using d)]
 rw[Ev.kz0 (by simpa using d),w,q,p];exact x;have I:=zwa B m l y d;have N:=ydn e.op;have q:[41]=zc2 e.op:=by unfold zc2;rw[Qbr (by simpa using i),Qbq (by simpa using d)]
 have p:zez e.op++[40]=zf3 e.op:=by unfold zf3;rw[Qbr (by simpa using i),Qbq (by simpa using d)]
 rw[Ev.zz1 (by simpa using d),Ev.zz0 ywl,Ev.yz1 (z064 I),Ev.yz1 (y2m (by simp;omega)),w,q,p];exact x
noncomputable def yby(e:zz2):B8×Int:=if z50 e≠0 then ([],z50 e)else if 4000<(z3d e).length then ([],4)else (z3d e,0)
def z04n{e}(b:e.wf)(d:e.size<=8388608):Ev (λn=>zha n e) (yby e):=by
 unfold yby;rw[yrg,zz2.kz3,Ev.zz0 (zll b d)];by_cases a:z50 e=0;have⟨i,j,_⟩:=zmo a;have h:=z00a e b d i [] (by simp;omega);rw[zot,Qbz]at h;rw[Ev.kz0 (by simpa using a),Ev.zz0 h,Ev.zz0 blen,Qbr (by simpa using a)];by_cases g:4000<(z3d e).length;rw[Ev.zz1 (by simp;omega),Ev.yz0,Qbq g];rw[Ev.kz0 (by simp;omega),Ev.zz0 bstr,Ev.yz0,Qbr g]
 simp_all[Ev.zz1,Ev.yz0]
def z08h{p s:B8}:p.isPrefixOf s=(s.take p.length==p):=by
 rw[Bool.eq_iff_iff,List.isPrefixOf_iff_prefix,List.prefix_iff_eq_take,Qbg];exact eq_comm
def hasPrefix{s p}:Ev (λn=>zzk n s p) (p.isPrefixOf s):=by
 rw[zji,z08h];by_cases h:p.length<=s.length
 simp_all[Ev.zz1,zld,Ev.yz0]
 rw[Ev.kz0 (by simp;omega),Ev.yz0,eq_comm,beq_eq_false_iff_ne]
 grind
def ygd{s p}:Ev (λn=>z2z n s p) (p.isPrefixOf s):=by simp_all[y25,hasPrefix]
def z0cs{p s:B8}(h:p.isPrefixOf s=true):p.length<=s.length:=by
 grind
def y2y{s p}:Ev (λn=>z14 n s p) (if p.isPrefixOf s then s.drop p.length else s,p.isPrefixOf s):=by
 have h:Ev (λn=>kzp n s p) (if p.isPrefixOf s then s.drop p.length else s,p.isPrefixOf s):=by
  rw[zjd,Ev.zz0 hasPrefix];cases a:p.isPrefixOf s
  simp_all[Ev.zz1,Ev.yz0]
  simp_all[Ev.kz0,zo8,z0cs,Ev.yz0]
 rw[zyu,Ev.zz0 h,Ev.yz0]
def z09e{s}(d:s.length<=1000000):Ev (λn=>z1l n s [47]) (cutAt 47 s):=by
 have hi:Ev (λn=>kzq n s [47]) (Lib.indexByte s 47):=⟨0,λ_ _=>rfl⟩
 have h:Ev (λn=>zzu n s [47]) (cutAt 47 s):=by
  rw[zg6,Ev.zz0 hi,zox];cases a:s.any (· == 47)
  simp_all[yaj,Ev.kz0,Ev.yz0]
  have⟨g,b,e⟩:=y97 a;rw[Qbq rfl,Ev.zz1 (by simp),Ev.yz1 (zld (by omega))];simp only[List.length_cons,List.length_nil];rw[show(((0+1:Nat):Nat):Int)=1 by rfl,wrk (by omega),Ev.yz1 (zo8 (by omega) (Qbp _)),Ev.yz0,b]
  grind[cutAt]
 rw[y1c,Ev.zz0 h,Ev.yz0]
def z06z(a:Nat)(c:UInt8):Nat:=10 * a+(c.toNat-48)
def val(a:Nat)(s:B8):Nat:=s.foldl z06z a
theorem yq9(a):val a []=a:=by unfold val;rw[List.foldl_nil]
theorem yj4(a)(c)(s):val a (c::s)=val (10 * a+(c.toNat-48)) s:=by unfold val;rw[List.foldl_cons,z06z]
theorem z01a(a)(s)(c):val a (s++[c])=10 * val a s+(c.toNat-48):=by grind[val,z06z]
theorem zgz{c}:zdi c=true↔48<=c.toNat∧c.toNat<=57:=by unfold zdi;simp
def z0b3:∀(s) (a k),s.all zdi=true->a<10 ^ k->val a s<10 ^ (k+s.length)
 |[],a,k,_,h=>by simp_all[yq9]
 |c::s,a,k,b,h=>by
  simp only[List.all_cons,Qag]at b;have d:=zgz.1 b.1;have:=z0b3 s (10 * a+(c.toNat-48)) (k+1) b.2 (by omega)
  grind[yj4]
def w32i{k}(h : -1000<=k∧k<=1000):IntKind.i32.wrap k=k:=IntWalk.i32_in _ (by omega)
def y0a(s:B8):Int×Bool:=if s.length=0∨10<s.length∨(s.head?=some 48∧1<s.length)then (0,false)else if s.all zdi then ((val 0 s:Nat),true)else (0,false)
theorem yxw{k}(h:k<=10):10 ^ k<=10000000000:=Nat.pow_le_pow_right (by decide) h
def yvp{s}(p:s.length<=10):∀k,k<=s.length->∀a:Nat,a<10 ^ k->Ev (λn=>z4v n (a:Int) s k) (if (s.drop k).all zdi then ((val a (s.drop k):Nat),true)else (0,false)) :=
 down (λa l=>by
  simp_all[zq1,Ev.kz0,Ev.yz0,yq9]) λk e i a l=>by
  have q:=yxw (k:=k) (by omega);have g:=(Qah (h:=e)).symm
  have bad:∀(c:Int) (j:Nat),zdi s[k]=false->Ev (λn=>z58 n c (a:Int) true s j) (if (s.drop k).all zdi then (((val a (s.drop k):Nat):Int),true)else (0,false)):=λc j r=>by
   rw[zpf,Ev.zz1 (by rfl),Ev.yz0,g]
   grind
  rw[zq1,Ev.zz1 (by simpa using e)];by_cases b:s[k].toNat<128;rw[ykv e b];by_cases o:s[k].toNat<48;rw[Ev.zz1 (by simp;omega)];exact bad _ _ (by grind[zgz]);rw[Ev.kz0 (by simp;omega)];by_cases m:57<s[k].toNat;rw[show decide (((s[k].toNat:Nat):Int)>57)=true by simp;omega]
  simp_all[zdi]
  rw[show decide (((s[k].toNat:Nat):Int)>57)=false by simp;omega,zpf,Ev.kz0 (by rfl),w32i (by omega),wI (x:=(s[k].toNat:Int)-48) (by omega),wI (x:=10 * (a:Int)) (by omega),wI (by omega)];have d:zdi s[k]=true:=zgz.2 (by omega);have:=i (10 * a+(s[k].toNat-48)) (by omega);rw[show((10 * a+(s[k].toNat-48):Nat):Int)=10 * (a:Int)+((s[k].toNat:Int)-48) by omega]at this;refine this.to ?_;rw[g]
  simp only[List.all_cons,d,Bool.true_and,yj4];have⟨w,u⟩:=yox e (by omega);rw[Ev.kz0 (by simp;omega),show decide ((((zel s k).1:Nat):Int)>57)=true by simp;omega];exact bad _ _ (by grind[zgz])
def zgy{s}:Ev (λn=>za8 n s) (y0a s):=by
 have e:∀b,(b=true↔(s.length=0∨10<s.length∨(s.head?=some 48∧1<s.length)))->Ev (λn=>z1c n s b) (y0a s):=λb j=>by
  rw[y6z];unfold y0a;cases b;have g:¬(s.length=0∨10<s.length∨(s.head?=some 48∧1<s.length)):=λh=>by grind
  rw[Ev.kz0 (by rfl),Qbr g];exact(yvp (by omega) 0 (Qbo _) 0 (by decide)).to (by simp);rw[Ev.zz1 (by rfl),Ev.yz0,Qbq (j.1 rfl)]
 rw[yfl];by_cases l:s.length=0
 simp_all[Ev.zz1]
 rw[Ev.kz0 (by simpa using l)];by_cases m:10<s.length;rw[Ev.zz1 (by simp;omega)];simp_all;have d:0<s.length:=by omega
 rw[Ev.kz0 (by simp;omega),Ev.yz1 (show ix s 0=some s[0]from zz5 (k:=0) d),b48]
 have i:s.head?=some s[0]:=by
  cases s with
  |nil=>simp at d
  |cons c t=>rfl
 by_cases a:s[0]=48;rw[Ev.zz1 (by simpa using a)];refine e _ ⟨λh=>.inr (.inr ⟨by rw[i,a],by grind⟩),λh =>?_⟩
 rcases h with h|h|h
 omega;omega
 grind
 rw[Ev.kz0 (by simpa using a)];refine e _ ⟨λh=>(by cases h),λh =>?_⟩
 rcases h with h|h|h
 omega;omega
 grind
def z0ac:∀(k u),u<10 ^ (k+1)->Lib.nDigits u<=k+1
 |0,u,h=>by simp_all[Lib.nDigits_small]
 |k+1,u,h=>by
  by_cases a:u<10;rw[Lib.nDigits_small a];omega;rw[Lib.nDigits_big a];have:=z0ac k (u / 10) (by omega);omega
theorem zlx:∀u:Nat,(Lib.decDigits u).all zdi=true:=by
 intro u
 induction u using Nat.strongRecOn with
 |_ u b=>
  have d:∀k,k<10->zdi (UInt8.ofNat (48+k))=true:=λk a=>zgz.2 (by rw[yb8 a];omega)
  by_cases h:u<10
  simp_all[y3c]
  rw[z02s h]
  grind
def yfn:∀u:Nat,val 0 (Lib.decDigits u)=u:=by
 intro u
 induction u using Nat.strongRecOn with
 |_ u a=>
  grind[y3c,yq9,yb8,z02s,z01a]
def z06r(u):Lib.decDigits u≠[]:=λh=>by
 grind[Lib.decDigits_length,Lib.nDigits_pos]
theorem z08q:∀u:Nat,1<=u->(Lib.decDigits u).head?≠some 48:=by
 intro u
 induction u using Nat.strongRecOn with
 |_ u a=>
  intro b;by_cases h:u<10;rw[y3c h];simp only[List.head?_cons,ne_eq,Qbn];intro e;have:=congrArg UInt8.toNat e;rw[yb8 h]at this;simp at this;omega
  grind[Lib.decDigits]
theorem yv4{u}(h:u<10000000000):y0a (Lib.decDigits u)=(((u:Nat):Int),true):=by
 have b:=Lib.decDigits_length u;have e:=Lib.nDigits_pos u;have d:=z0ac 9 u (by simpa using h);unfold y0a;rw[Qbr,Qbq (zlx u),yfn]
 rintro (h'|h'|⟨h',a⟩)
 omega;omega
 grind[z08q,y3c]
def z0fm(s):0<=(y0a s).1∧(y0a s).1<10000000000:=by
 unfold y0a;split;omega;split;rename_i a;have:=z0b3 s 0 0 a (by decide)
 grind[yxw]
 omega
def z07o{w b q r}(h:b=false->rok r=true):∃c a,Ev (λn=>z48 n w b q r) (c,a)∧(c=12∨c=0∧rok a=true∧z92 a=w):=by
 cases b;have e:=h rfl;by_cases d:z92 r=w;refine⟨0,r,?_,.inr ⟨rfl,e,d⟩⟩;rw[zfy,Ev.kz0 (by rfl),Ev.zz0 (zwy e),Ev.kz0 (by simpa using d),Ev.yz0];refine⟨12,⟨0,0⟩,?_,.inl rfl⟩;rw[zfy,Ev.kz0 (by rfl),Ev.zz0 (zwy e),Ev.zz1 (by simpa using d),Ev.yz0];exact⟨12,⟨0,0⟩,by rw[zfy,Ev.zz1 (by rfl),Ev.yz0],.inl rfl⟩
def z0ea{w b1 b2 y x q}(d:I64 x):∃c a,Ev (λn=>z3v n w b1 b2 y x q) (c,a)∧(c=12∨c=0∧rok a=true∧z92 a=w):=by
 cases b2
 simp_all[z07o,zg2,Ev.zz1]
 cases b1
 simp_all[z07o,zg2,Ev.kz0,Ev.zz1]
 have e:=zra (r:=⟨x,y⟩) d
 have⟨c,a,i,g⟩:=z07o (w:=w) (b:=((if rok ⟨x,y⟩then 0 else 8:Int) != 0)) (q:=q) (r:=⟨x,y⟩) (λh=>by
  simp_all)
 exact⟨c,a,by rw[zg2,Ev.kz0 (by rfl),Ev.kz0 (by rfl),Ev.zz0 e];exact i,g⟩
def yl1{s p:B8}:(if p.isPrefixOf s then s.drop p.length else s).length<=s.length:=by split <;> simp
def yeb{w}(j:w.length<=1000000):∃c r,Ev (λn=>z6d n w) (c,r)∧(c=12∨c=0∧rok r=true∧z92 r=w):=by
 have h:=yl1 (s:=w) (p:=[45]);have l:=z0fm
 have i:∀(b:Bool) (d m:B8) (q:yz4),∃c r,Ev (λn=>z41 n w b d m q) (c,r)∧(c=12∨c=0∧rok r=true∧z92 r=w):=λb d m q=>by
  have o:=l m;cases b;have⟨c,a,g,e⟩:=z0ea (w:=w) (b1:=(y0a d).2) (b2:=(y0a m).2) (y:=(y0a d).1) (x:=(y0a m).1) (q:=q) (by unfold I64;omega);exact⟨c,a,by rw[zkd,Ev.zz0 zgy,Ev.zz0 zgy,Ev.kz0 (by rfl)];exact g,e⟩;have⟨c,a,g,e⟩:=z0ea (w:=w) (b1:=(y0a d).2) (b2:=(y0a m).2) (y:=(y0a d).1) (x:=IntKind.i64.wrap (0-(y0a m).1)) (q:=q) (by rw[wI (by omega)];unfold I64;omega)
  exact⟨c,a,by rw[zkd,Ev.zz0 zgy,Ev.zz0 zgy,Ev.zz1 (by rfl)];exact g,e⟩
 cases k:(cutAt 47 (if ([45]:B8).isPrefixOf w then w.drop ([45]:B8).length else w)).2.2;have⟨c,a,g,e⟩:=i (([45]:B8).isPrefixOf w) [49] (cutAt 47 (if ([45]:B8).isPrefixOf w then w.drop ([45]:B8).length else w)).1 ⟨0,0⟩;exact⟨c,a,by rw[zpu,Ev.zz0 y2y,Ev.zz0 (z09e (Qbe h j)),Ev.zz1 (by rw[k];rfl)];exact g,e⟩
 have⟨c,a,g,e⟩:=i (([45]:B8).isPrefixOf w) (cutAt 47 (if ([45]:B8).isPrefixOf w then w.drop ([45]:B8).length else w)).2.1 (cutAt 47 (if ([45]:B8).isPrefixOf w then w.drop ([45]:B8).length else w)).1 ⟨0,0⟩;exact⟨c,a,by rw[zpu,Ev.zz0 y2y,Ev.zz0 (z09e (Qbe h j)),Ev.kz0 (by rw[k];rfl)];exact g,e⟩
theorem y9y{c}(h:zdi c=true):c≠47∧c≠45:=by
 have:=zgz.1 h;constructor <;> (intro e;subst e;simp at this)
theorem z0ew{d t}(h:d.all zdi=true):(d++47::t).takeWhile (· != 47)=d∧(d++47::t).dropWhile (· != 47)=47::t:=by
 induction d with
 |nil=>simp
 |cons c d a=>
  simp_all[y9y]
def z0c9{d t}(h:d.all zdi=true):cutAt 47 (d++47::t)=(d,t,true):=by
 grind[z0ew,cutAt]
def z07j{d}(h:d.all zdi=true):cutAt 47 d=(d,[],false):=by
 grind[yaj,y9y]
def y5q(r:yz4):B8:=if r.den=1 then Lib.decDigits r.num.natAbs else Lib.decDigits r.num.natAbs++47::Lib.decDigits r.den.natAbs
def zpg{x}(h:0<=x):Lib.itoa x=Lib.decDigits x.natAbs:=by
 unfold Lib.itoa;rw[Qbr (by omega)];congr 1;omega
theorem zxf{r}(h:rok r=true):z92 r=if r.num<0 then 45::y5q r else y5q r:=by
 have⟨e,d,b⟩:=yxe h;unfold z92 y5q;rw[zpg (x:=r.den) (by omega)];by_cases a:r.num<0;rw[Qbq a,show Lib.itoa r.num=45::Lib.decDigits r.num.natAbs by unfold Lib.itoa;rw[Qbq a]];split <;> simp
 rw[Qbr a,zpg (by omega)]
def yjf(r):∃c t,y5q r=c::t∧zdi c=true:=by
 have d:=zlx r.num.natAbs;have a:=z06r r.num.natAbs;unfold y5q
 cases b:Lib.decDigits r.num.natAbs with
 |nil=>exact(a b).elim
 |cons c t=>
  split
  grind
  grind
def yae{r}(h:rok r=true):Ev (λn=>z6d n (z92 r)) (0,r):=by
 have⟨w,s,q⟩:=yxe h;have⟨c,t,o,p⟩:=yjf r;have hlen:=yc0 h
 have k:(y5q r).length<=1000000:=by
  have:=congrArg List.length (zxf h);split at this
  grind
  omega
 have b:=zra (r:=r) (by unfold I64;omega);rw[Qbq h]at b
 have l:Ev (λn=>z3v n (z92 r) true true r.den r.num ⟨0,0⟩) (0,r):=by
  rw[zg2,Ev.kz0 (by rfl),Ev.kz0 (by rfl)];rw[Ev.zz0 (show Ev (λn=>z6p n (yz4.mk r.num r.den)) 0 from b),zfy,Ev.kz0 (by rfl),Ev.zz0 (show Ev (λn=>zb6 n (yz4.mk r.num r.den)) (z92 r,0)from zwy h),Ev.kz0 (by simp),Ev.yz0]
 have i:=yv4 (u:=r.num.natAbs) (by omega)
 have m:∀d,y0a d=(r.den,true)->Ev (λn=>z41 n (z92 r) (decide (r.num<0)) d (Lib.decDigits r.num.natAbs) ⟨0,0⟩) (0,r):=λd a=>by
  rw[zkd,Ev.zz0 zgy,Ev.zz0 zgy,a,i];by_cases g:r.num<0;rw[Ev.zz1 (by simpa using g),wI (by omega),show(0:Int)-((r.num.natAbs:Nat):Int)=r.num by omega];exact l;rw[Ev.kz0 (by simpa using g),show((r.num.natAbs:Nat):Int)=r.num by omega];exact l
 have e:(if ([45]:B8).isPrefixOf (z92 r)then (z92 r).drop ([45]:B8).length else z92 r,([45]:B8).isPrefixOf (z92 r))=(y5q r,decide (r.num<0)):=by
  rw[zxf h];by_cases g:r.num<0
  grind
  rw[Qbr g,o]
  grind[y9y]
 have j:Ev (λn=>z14 n (z92 r) [45]) (y5q r,decide (r.num<0)):=by rw[<-e];exact y2y
 rw[zpu,Ev.zz0 j,Ev.zz0 (z09e k)];unfold y5q;by_cases a:r.den=1;rw[Qbq a,z07j (zlx _),Ev.zz1 (by rfl)];exact m [49] (by rw[a];decide);rw[Qbr a,z0c9 (zlx _),Ev.kz0 (by rfl)]
 grind[yv4]
def yvm{w}(g:w.length<=1000000):∃c r,Ev (λn=>z6d n w) (c,r)∧((c=0∧rok r=true∧z92 r=w)∨(c=12∧∀a,rok a=true->z92 a≠w)):=by
 have⟨c,r,d,h2⟩:=yeb g;refine⟨c,r,d,?_⟩
 rcases h2 with rfl|h2
 refine .inr ⟨rfl,λa b e =>?_⟩;have:=yae b;rw[e]at this;have:=congrArg Prod.fst (Ev.det d this);simp at this;exact .inl h2
def nfin(s:B8)(f:Nat)(x:Nat):Int×Bool:=((if f=1 then -(x:Int)else (x:Int)),decide (f<s.length)&&(Lib.itoa (if f=1 then -(x:Int)else (x:Int))==s))
def yce(s:B8):Nat:=if s.head?=some 45 then 1 else 0
def yuc(s:B8):Int×Bool:=if (s.drop (yce s)).all zdi=true∧s.length<=yce s+10 then nfin s (yce s) (val 0 (s.drop (yce s)))else (0,false)
def ygu{s}(h:(yuc s).2=true):Lib.itoa (yuc s).1=s:=by
 unfold yuc at h ⊢;split at h
 simp_all[nfin]
 cases h
def yaa{x}(h : -1000000000<=x∧x<=1000000000):yuc (Lib.itoa x)=(x,true):=by
 have j:=Lib.decDigits_length x.natAbs;have k:=z0ac 9 x.natAbs (by omega);have l:=Lib.nDigits_pos x.natAbs;have a:=zlx x.natAbs;by_cases d:x<0;have e:Lib.itoa x=45::Lib.decDigits x.natAbs:=by unfold Lib.itoa;rw[Qbq d]
 have b:yce (45::Lib.decDigits x.natAbs)=1:=by simp[yce]
 unfold yuc;rw[e,b];simp only[List.drop_succ_cons,List.drop_zero];rw[Qbq ⟨a,by grind⟩,yfn];unfold nfin;simp[Qbq]
 grind
 have e:Lib.itoa x=Lib.decDigits x.natAbs:=zpg (by omega)
 obtain⟨c,t,g⟩:∃c t,Lib.decDigits x.natAbs=c::t:=by
  cases i:Lib.decDigits x.natAbs with
  |nil=>grind
  |cons c t=>exact⟨c,t,rfl⟩
 have b:yce (Lib.decDigits x.natAbs)=0:=by
  unfold yce;rw[Qbr];rw[g]at a ⊢;simp[Qag]at a
  grind[y9y]
 unfold yuc;rw[e,b];simp only[List.drop_zero];rw[Qbq ⟨a,by omega⟩,yfn];unfold nfin
 grind
def zp3(w:B8):Int×yz4 :=
 let p:=(w.takeWhile (· != 47)).length
 let a:=yuc (w.take p)
 let b:=yuc (w.drop (p+1))
 if a.2=false then (12,⟨0,0⟩)else if p<w.length then (if b.2=false∨b.1=1 then (12,⟨0,0⟩)else if rok ⟨a.1,b.1⟩then (0,⟨a.1,b.1⟩)else (12,⟨0,0⟩))else if rok ⟨a.1,1⟩then (0,⟨a.1,1⟩)else (12,⟨0,0⟩)
theorem z0e1:∀(w:B8) (h),w[(w.takeWhile (· != 47)).length]=47
 |[],h=>by simp at h
 |c::w,h=>by
  by_cases a:c=47;subst a;rfl;have e:(c::w).takeWhile (· != 47)=c::w.takeWhile (· != 47):=by simp_all
  simp[e,List.getElem_cons_succ];exact z0e1 w (by grind)
def tw_le(w:B8):(w.takeWhile (· != 47)).length<=w.length:=(List.takeWhile_prefix _).length_le
def yco{w}(h:(zp3 w).1=0):rok (zp3 w).2=true∧z92 (zp3 w).2=w:=by
 have k:=tw_le w;unfold zp3 at h ⊢;generalize l:(w.takeWhile (· != 47)).length=p at h k ⊢;dsimp only at h ⊢;split at h;cases h;rename_i i;rw[Qbr i];have d:=ygu (s:=w.take p) (by simpa using i);split at h;rename_i a;rw[Qbq a];split at h;cases h;rename_i g;rw[Qbr g];have j:=ygu (s:=w.drop (p+1)) (by grind);split at h;rename_i b;rw[Qbq b];refine⟨b,?_⟩;unfold z92;dsimp only
 rw[Qbr λe=>g (.inr e),d,j]
 grind[z0e1,Qah,List.take_append_drop]
 cases h;rename_i a;rw[Qbr a];split at h;rename_i b;rw[Qbq b];refine⟨b,?_⟩;unfold z92;dsimp only;rw[Qbq rfl,d]
 grind
 cases h
def z09d{x}(h : -1000000000<=x∧x<=1000000000):(Lib.itoa x).all (· != 47)=true:=by
 have a:(Lib.decDigits x.natAbs).all (· != 47)=true:=by
  grind[y9y,zlx]
 by_cases b:x<0
 simp_all[Lib.itoa]
 rw[zpg (by omega)];exact a
def z084{d t:B8}(h:d.all (· != 47)=true):(d++47::t).takeWhile (· != 47)=d:=by
 simp_all
def z0ce{d:B8}(h:d.all (· != 47)=true):d.takeWhile (· != 47)=d:=by
 induction d with
 |nil=>rfl
 |cons c d a=>
  simp_all
def yje{r}(h:rok r=true):zp3 (z92 r)=(0,r):=by
 have⟨g,e,d⟩:=yxe h;have b:=z09d (x:=r.num) (by omega);unfold zp3 z92;by_cases a:r.den=1;rw[Qbq a,z0ce b];dsimp only;rw[List.take_length,yaa (by omega),Qbr (by simp),Qbr (Nat.lt_irrefl _),show(⟨r.num,1⟩:yz4)=r by rw[<-a],Qbq h];rw[Qbr a,z084 b];dsimp only
 rw[List.take_left,yaa (by omega),Qbr (by simp),Qbq (by simp),show(Lib.itoa r.num++47::Lib.itoa r.den).drop ((Lib.itoa r.num).length+1)=Lib.itoa r.den by simp_all,yaa (by omega),Qbr (by simpa using a),Qbq h]
def scan:B8->Option (B8×Nat)
 |[]=>none
 |[c]=>if c=34 then some ([],1)else none
 |c::d::t=>if c=34 then some ([],1)else if c=92 then (if d=34∨d=92 then (scan t).map (λp=>(d::p.1,p.2+2))else none)else (scan (d::t)).map λp=>(c::p.1,p.2+1)
def rs:B8->Nat
 |[]=>0
 |[c]=>if c=34 then 0 else if c=92 then 2 else 1
 |c::d::t=>if c=34 then 0 else if c=92 then 2+rs t else 1+rs (d::t)
def z0a0:scan []=none:=by rw[scan]
def z0fh:rs []=0:=by rw[rs]
theorem yg0(t):scan (34::t)=some ([],1):=by cases t <;> rw[scan] <;> simp
theorem yg4(d)(t):scan (92::d::t)=if d=34∨d=92 then (scan t).map (λp=>(d::p.1,p.2+2))else none:=by rw[scan];simp
theorem yvu:scan [92]=none:=by rw[scan];simp
theorem yrz{c}(t)(a:c≠34)(b:c≠92):scan (c::t)=(scan t).map λp=>(c::p.1,p.2+1):=by
 cases t with
 |nil=>rw[z0a0,scan,Qbr a];rfl
 |cons d t=>rw[scan,Qbr a,Qbr b]
theorem z0ed(t):rs (34::t)=0:=by cases t <;> rw[rs] <;> simp
theorem z0e8(d)(t):rs (92::d::t)=2+rs t:=by rw[rs];simp
def z08v:rs [92]=2:=by rw[rs];simp
theorem rs_c{c}(t)(b:c≠34)(a:c≠92):rs (c::t)=1+rs t:=by
 cases t with
 |nil=>rw[z0fh,rs,Qbr b,Qbr a]
 |cons d t=>rw[rs,Qbr b,Qbr a]
def sind{P:B8->Prop}(i:P [])(h:∀t,P (34::t))(j:P [92])(g:∀d t,P t->P (92::d::t))(e:∀c t,c≠34->c≠92->P t->P (c::t)):∀u,P u
 |[]=>i
 |[c]=>by
  grind
 |c::d::t=>by
  by_cases a:c=34;rw[a];exact h _;by_cases b:c=92;rw[b];exact g d t (sind i h j g e t);exact e c (d::t) a b (sind i h j g e (d::t))
def ypd:∀u x m,scan u=some (x,m)->m=rs u+1∧m<=u.length∧x.length+1<=m:=by
 refine sind ?_ ?_ ?_ ?_ ?_;intro x m h;rw[scan]at h;cases h
 grind[yg0,z0ed]
 grind[yvu]
 intro d t g x m h;rw[yg4]at h;split at h
 cases a:scan t with
 |none=>rw[a]at h;cases h
 |some p=>
  grind[z0e8]
 cases h;intro c t e b g x m h;rw[yrz t e b]at h
 cases a:scan t with
 |none=>rw[a]at h;cases h
 |some p=>
  grind[rs_c]
def z040:∀u,scan (u.take (rs u+1))=scan u:=by
 refine sind ?_ ?_ ?_ ?_ ?_;rfl
 grind[yg0]
 rw[z08v];rfl
 grind[rs,yg4]
 grind[rs_c,yrz]
def z0ca{s:B8}(O:s.length<=100000):∀N k:Nat,k<=s.length->s.length-k<=N->∀b:B8,b.length+(s.length-k)<=100000 ->
  (∀x m,scan (s.drop k)=some (x,m)->Ev (λn=>kza n ⟨s,(k:Int),true⟩ (kzk b)) (b++x,⟨s,((k+m:Nat):Int),true⟩)) ∧
  (scan (s.drop k)=none->∃a:Int,Ev (λn=>kza n ⟨s,(k:Int),true⟩ (kzk b)) ([],⟨s,a,false⟩)):=by
 intro N
 induction N with
 |zero=>
  intro k I J b G;have:k=s.length:=by omega
  subst this;rw[List.drop_length];refine⟨λx m h=>(by rw[scan]at h;cases h),λ_=>⟨(s.length:Int),?_⟩⟩
  rw[zzy,Ev.kz0 (by simp),z7l,Ev.yz0]
 |succ N F=>
  intro k I J b G;by_cases g:k<s.length
  have D:∀(c:UInt8) (j:Nat),(∀r,Ev (λn=>kza n ⟨s,(j:Int),true⟩ (kzk (b++[c]))) r->Ev (λn=>kzy n (c.toNat:Int) ⟨s,(j:Int),true⟩ (kzk b)) r):=λc j r h=>by
   rw[zqh,Ev.zz0 (wb rfl (by omega))];exact h
  rw[drop_cons g];by_cases i:s[k]=34;rw[i,yg0];refine⟨λx m h =>?_,λh=>by cases h⟩;injection h with h;injection h with L K;subst L K;rw[zzy,Ev.zz1 (by simpa using g),Ev.yz1 (zz5 g),b34,Ev.zz1 (by simpa using i),Ev.zz0 bstr,Ev.yz0,wrk (by omega),List.append_nil];by_cases o:s[k]=92;rw[o];by_cases l:k+1<s.length;rw[drop_cons l,yg4];by_cases u:s[k+1]=34∨s[k+1]=92;rw[Qbq u]
  have go:∀r,Ev (λn=>kza n ⟨s,((k+2:Nat):Int),true⟩ (kzk (b++[s[k+1]]))) r->Ev (λn=>kza n ⟨s,(k:Int),true⟩ (kzk b)) r:=λr h=>by
   have E:Ev (λn=>yzs n false ⟨s,((k+1:Nat):Int),true⟩ (kzk b)) r:=by
    rw[zc0,Ev.kz0 (by rfl),Ev.yz1 (zz5 l),wrk (by omega)];exact D _ _ _ h
   rw[zzy,Ev.zz1 (by simpa using g),Ev.yz1 (zz5 g),b34,b92,Ev.kz0 (by simpa using i),Ev.zz1 (by simpa using o),wrk (by omega),Ev.kz0 (by simp;omega),Ev.yz1 (zz5 l)];simp only[bne,b34,b92];by_cases q:s[k+1]=34;rw[Ev.kz0 (by simpa using q)];exact E;rw[Ev.zz1 (by simpa using q),Ev.yz1 (zz5 l),show(!(s[k+1]==92))=false by simpa using u.resolve_left q];exact E
  have⟨z,w⟩:=F (k+2) (by omega) (by omega) (b++[s[k+1]]) (by simp;omega);refine⟨λx m h =>?_,λh =>?_⟩
  cases d:scan (s.drop (k+2))with
  |none=>rw[show k+1+1=k+2 by omega,d]at h;cases h
  |some p=>
   have⟨y,j⟩:=p;rw[show k+1+1=k+2 by omega,d]at h;injection h with h;injection h with C B;subst C B;refine(go _ (z y j d)).to ?_;rw[Qay,show k+2+j=k+(j+2) by omega];rfl
  cases d:scan (s.drop (k+2))with
  |none=>have⟨a,A⟩:=w d;exact⟨a,go _ A⟩
  |some p=>rw[show k+1+1=k+2 by omega,d]at h;cases h
  rw[Qbr u];refine⟨λx m h=>(by cases h),λ_=>⟨((k+1:Nat):Int),?_⟩⟩;rw[zzy,Ev.zz1 (by simpa using g),Ev.yz1 (zz5 g),b34,b92,Ev.kz0 (by simpa using i),Ev.zz1 (by simpa using o),wrk (by omega),Ev.kz0 (by simp;omega),Ev.yz1 (zz5 l)];simp only[bne,b34,b92]
  rw[Ev.zz1 (by simpa using λe=>u (.inl e)),Ev.yz1 (zz5 l),show(!(s[k+1]==92))=true by simpa using λe=>u (.inr e),zc0,Ev.zz1 (by rfl),z7l,Ev.yz0];have M:k+1=s.length:=by omega
  rw[List.drop_of_length_le (by omega),yvu];refine⟨λx m h=>(by cases h),λ_=>⟨((k+1:Nat):Int),?_⟩⟩;rw[zzy,Ev.zz1 (by simpa using g),Ev.yz1 (zz5 g),b34,b92,Ev.kz0 (by simpa using i),Ev.zz1 (by simpa using o),wrk (by omega),Ev.zz1 (by simp;omega),zc0,Ev.zz1 (by rfl),z7l,Ev.yz0];rw[yrz _ i o]
  have go:∀r,Ev (λn=>kza n ⟨s,((k+1:Nat):Int),true⟩ (kzk (b++[s[k]]))) r->Ev (λn=>kza n ⟨s,(k:Int),true⟩ (kzk b)) r:=λr h=>by
   rw[zzy,Ev.zz1 (by simpa using g),Ev.yz1 (zz5 g),b34,b92,Ev.kz0 (by simpa using i),Ev.kz0 (by simpa using o),wrk (by omega)];exact D _ _ _ h
  have⟨z,w⟩:=F (k+1) (by omega) (by omega) (b++[s[k]]) (by simp;omega);refine⟨λx m h =>?_,λh =>?_⟩
  cases d:scan (s.drop (k+1))with
  |none=>rw[d]at h;cases h
  |some p=>
   have⟨y,j⟩:=p;rw[d]at h;injection h with h;injection h with C B;subst C B;refine(go _ (z y j d)).to ?_;rw[Qay,show k+1+j=k+(j+1) by omega];rfl
  cases d:scan (s.drop (k+1))with
  |none=>have⟨a,A⟩:=w d;exact⟨a,go _ A⟩
  |some p=>rw[d]at h;cases h
  have:k=s.length:=by omega
  subst this;rw[List.drop_length];refine⟨λx m h=>(by rw[scan]at h;cases h),λ_=>⟨(s.length:Int),?_⟩⟩;rw[zzy,Ev.kz0 (by simp),z7l,Ev.yz0]
def ys5{s}{k:Nat}(b:s.length<=100000)(d:k<=s.length) :
  (∀x m,scan (s.drop k)=some (x,m)->Ev (λn=>z0a n ⟨s,(k:Int),true⟩) (x,⟨s,((k+m:Nat):Int),true⟩)) ∧
  (scan (s.drop k)=none->∃a:Int,Ev (λn=>z0a n ⟨s,(k:Int),true⟩) ([],⟨s,a,false⟩)):=by
 have⟨i,g⟩:=z0ca b s.length k d (by omega) [] (by simp;omega);refine⟨λx m h =>?_,λh =>?_⟩;rw[zkz];exact i x m h;have⟨a,e⟩:=g h;exact⟨a,by rw[zkz];exact e⟩
def z0bx{a b:Nat}:mnI (a:Int) (b:Int)=((min a b:Nat):Int):=by unfold mnI;split <;> omega
def yjl{b}:Ev (λn=>zfp n b) (z09b b):=by rw[yna,Ev.yz0];rfl
def NUMS:B8:=[48,49,50,51,52,53,54,55,56,57,47,45]
def isNum(c:UInt8):Bool:=NUMS.any (· == c)
def z02n(c d:UInt8):(c==d)=decide (c.toNat=d.toNat):=by
 rw[Bool.eq_iff_iff,Qbg,Qar,UInt8.toNat_inj]
theorem ybk{c}:isNum c=true↔(48<=c.toNat∧c.toNat<=57)∨c.toNat=47∨c.toNat=45:=by
 unfold isNum NUMS;simp[z02n,show(45:UInt8).toNat=45 by rfl];omega
def ypq(c):∃k:Int,Ev (λn=>z2r n [48,49,50,51,52,53,54,55,56,57,47,45] (c.toNat:Int)) k∧decide (k>=0)=isNum c:=by
 have hi:Ev (λn=>z5q n NUMS (c.toNat:Int)) (Lib.indexByte NUMS c):=⟨0,λ_ _=>by
  show some _=some _
  simp_all⟩
 refine⟨_,by rw[y2d];exact(Ev.zz0 hi).2 (Ev.yz0.2 rfl),?_⟩
 grind[zox,isNum]
def y86(x:B8):kz1:=⟨3,⟨0,0⟩,false,x,[]⟩
def z0dr{t s}{k:Nat}{b}(d:s.length<=100000)(a:k<=s.length):Ev (λn=>yzf n t ⟨s,(k:Int),b⟩) (if t.isPrefixOf (s.drop k)then (true,⟨s,((k+t.length:Nat):Int),b⟩)else (false,⟨s,(k:Int),b⟩)):=by
 rw[zym,Ev.yz1 (zo8 a (Qbp _)),List.take_length,Ev.zz0 ygd];cases e:t.isPrefixOf (s.drop k)
 simp_all[Ev.zz1,Ev.yz0]
 rw[Ev.kz0 (by rfl),Ev.yz0,Qbq rfl]
 grind[wI]
def zwn{t s}{k:Nat}{b}(a:s.length<=100000)(d:k<=s.length)(h:t.isPrefixOf (s.drop k)=false):Ev (λn=>yzf n t ⟨s,(k:Int),b⟩) (false,⟨s,(k:Int),b⟩):=(z0dr a d).to (by rw[h];rfl)
def z0dm{t s}{k:Nat}{b}(a:s.length<=100000)(d:k<=s.length)(h:t.isPrefixOf (s.drop k)=true):Ev (λn=>yzf n t ⟨s,(k:Int),b⟩) (true,⟨s,((k+t.length:Nat):Int),b⟩):=(z0dr a d).to (by rw[h];rfl)
def z0bt(x):(y86 x).wf:=by
 rw[kz1.z5s];refine⟨⟨by show IntKind.u8.min<=3;decide,by show 3<=IntKind.u8.max;decide⟩,?_,trivial,trivial,λy a=>by cases a⟩;exact ytv (r:=⟨0,0⟩) rfl
def z06o(x):(y86 x).size<=x.length+20:=by
 rw[kz1.size_eq];show 1+yz4.size ⟨0,0⟩+1+(x.length+1)+((List.map kz1.size []).sum+1)+1<=_
 grind[yz4.size_eq]
def yyn{r}(h:rok r=true):zbt (yrb r)=0:=by
 simp_all[yrb,ze8,zbt,zlp,y1p]
def yfh{u}(y:u.length+1<=4000):Ev (λn=>z9k n (34::u)) (match scan u with
  |some (x,m)=>if m=u.length∧zbt (y86 x)=0 then (0,y86 x)else (12,v0)
  |none=>(12,v0)):=by
 have b:(34::u).length<=100000:=by simp;omega
 have i:=ys5 (s:=34::u) (k:=1) b (by simp)
 have d:∀v:kz1,Ev (λn=>z4b n true ⟨0,⟨0,0⟩,false,[],[]⟩ v) (12,v0):=λv=>by
  rw[zg5,Ev.zz1 (by rfl),Ev.yz0];rfl
 have g:∀x q,Ev (λn=>z0a n ⟨34::u,((1:Nat):Int),true⟩) (x,q)->Ev (λn=>z0n n 6 ⟨34::u,((0:Nat):Int),true⟩) (q,y86 x):=λx q h=>by
  rw[zlb,Ev.kz0 (by rfl),Ev.zz0 (zwn b (Qbo _) (by rfl)),Ev.kz0 (by rfl),Ev.zz0 (zwn b (Qbo _) (by rfl)),Ev.kz0 (by rfl),Ev.zz0 (z0dm b (Qbo _) (by grind)),Ev.zz1 (by rfl)];refine(Ev.zz0 h).2 ?_;rw[Ev.yz0];rfl
 rw[y1q,Ev.kz0 (by simp;omega)]
 cases e:scan u with
 |none=>
  have⟨a,w⟩:=i.2 e;refine(Ev.zz0 (g _ _ w)).2 ?_
  exact d _
 |some p=>
  have⟨x,m⟩:=p;have l:=i.1 x m e;have⟨B,A,z⟩:=ypd u x m e;refine(Ev.zz0 (g _ _ l)).2 ?_;dsimp only;rw[Ev.kz0 (by rfl)];by_cases o:m=u.length;have r:=zrj (z0bt x) (by have:=z06o x;omega);rw[Ev.kz0 (by simp;omega),kz1.kz3,Ev.zz0 r];by_cases j:zbt (y86 x)=0
  simp_all[zg5,Ev.kz0,Ev.yz0]
  rw[Qbr λh=>j h.2,show(zbt (y86 x) != 0)=true by simpa using j];exact d _;rw[Qbr λh=>o h.1,Ev.zz1 (by simp;omega)];exact d _
def z0em{c p w}(h:isNum c=false)(a:w.all isNum=true):(c::p).isPrefixOf w=false:=by
 cases w with
 |nil=>rfl
 |cons d t=>
  grind
def ybo{w}(i:w.length<=100000):∃c r,Ev (λn=>z6d n w) (c,r)∧(c==0)=decide ((zp3 w).1=0)∧((zp3 w).1=0->rok r=true∧r=(zp3 w).2):=by
 have⟨c,r,j,e⟩:=yvm (w:=w) (by omega)
 rcases e with ⟨a,b,d⟩|⟨a,b⟩
 have:=yje b;rw[d]at this
 grind
 have g:=λh=>b _ (yco h).1 (yco h).2
 grind
def yei{w}(A:w.length<=4000)(m:w.all isNum=true):Ev (λn=>z9k n w) (if (zp3 w).1=0 then (0,yrb (zp3 w).2)else (12,v0)):=by
 have b:w.length<=100000:=by omega
 have a:∀(c:UInt8) (p:B8),isNum c=false->(c::p).isPrefixOf (w.drop 0)=false:=λc p h=>z0em h m
 have⟨c,r,z,g,y⟩:=ybo b
 have loop:∀k,k<=w.length->Ev (λn=>z0g n (k:Int) ⟨w,((0:Nat):Int),true⟩ 0 0 0 false [] []) (⟨w,(w.length:Int),c==0⟩,yrb r) :=
  down (by
   rw[zi3,Ev.kz0 (by simp),zi1,Ev.kz0 (by rfl)];dsimp only;rw[Ev.yz1 (zo8 (Qbo _) (Qbp _)),List.take_length,List.drop_zero,Ev.zz0 z,Ev.zz1 (by rfl),zt1,Ev.yz0]
   rfl) λk d s=>by
   have⟨j,x,l⟩:=ypq w[k];rw[zi3,Ev.zz1 (by simpa using d),Ev.yz1 (zz5 d),Ev.zz0 x,l,Qat.1 m _ (Qad d),zi1,Ev.zz1 (by rfl),wrk (by omega)];exact s
 have u:Ev (λn=>z0n n 6 ⟨w,((0:Nat):Int),true⟩) (⟨w,(w.length:Int),c==0⟩,yrb r):=by
  rw[zlb,Ev.kz0 (by rfl),Ev.zz0 (zwn b (Qbo _) (a _ _ (by decide))),Ev.kz0 (by rfl),Ev.zz0 (zwn b (Qbo _) (a _ _ (by decide))),Ev.kz0 (by rfl),Ev.zz0 (zwn b (Qbo _) (a _ _ (by decide))),Ev.kz0 (by rfl),Ev.zz0 (zwn b (Qbo _) (a _ _ (by decide))),Ev.kz0 (by rfl),Ev.zz0 (zwn b (Qbo _) (a _ _ (by decide))),Ev.kz0 (by rfl),zt9]
  exact loop 0 (Qbo _)
 rw[y1q,Ev.kz0 (by simp;omega)];refine(Ev.zz0 u).2 ?_;by_cases e:(zp3 w).1=0;have⟨q,o⟩:=y e;rw[Qbm e]at g;have i:=yyn q;have d:=zrj (vok i).1 (by have:=(vok i).2;omega);rw[i]at d;rw[g,Ev.kz0 (by rfl),Ev.kz0 (by simp),kz1.kz3,Ev.zz0 d,zg5,Ev.kz0 (by rfl),Ev.yz0,Qbq e,kz1.kz3,o];rw[Qbl e]at g;rw[g,Ev.zz1 (by rfl),zg5,Ev.zz1 (by rfl),Ev.yz0,Qbr e];rfl
def lit(u:B8):Option (kz1×B8) :=
 if u.head?=some 34 then
  match scan u.tail with
  |some (x,m)=>if zbt (y86 x)=0 then some (y86 x,u.drop (m+1))else none
  |none=>none
 else if (zp3 (u.takeWhile isNum)).1=0 then some (yrb (zp3 (u.takeWhile isNum)).2,u.drop (u.takeWhile isNum).length)else none
def litR:Option (kz1×B8)->Res (Int×Unit) (kz2×zz2)
 |some (v,t)=>.ok (⟨t⟩,⟨1,v,[],[]⟩)
 |none=>.pan (12,())
def z0do:Ev (λn=>z4n n 0) (.ok ()):=by rw[y8z,Ev.kz0 (by rfl),Ev.yz0]
def yxc{e}(h:e≠0):Ev (λn=>z4n n e) (.pan (e,())):=by simp_all[y8z,Ev.zz1,Ev.yz0]
def yjx{u}{k:Nat}(a:k<=u.length)(b:u.length<=4000){c v e}(h:Ev (λn=>z9k n (u.take k)) (c,v))(hc:c=0∨c=12):Ev (λn=>yzj n (k:Int) ⟨u⟩ e) (litR (if c=0 then some (v,u.drop k)else none)):=by
 rw[zql];rw[Ev.yz1 (zld a),Ev.zz0 h]
 rcases hc with hc|hc
 subst hc;rw[Ev.zz0 z0do];show Ev _ _;refine Ev.zt2.2 ?_;rw[Ev.yz1 (zo8 a (Qbp _)),List.take_length,Ev.yz0,kz1.kz3];rfl;subst hc;rw[Ev.zz0 (yxc (e:=12) (by decide))];refine Ev.yg6.2 ?_;rw[Ev.yz0];rfl
def z0ex{u}(o:u.length<=4000){e r}:∀N k:Nat,k<=u.length->u.length-k<=N->Ev (λn=>yzj n ((min (k+rs (u.drop k)+1) u.length:Nat):Int) ⟨u⟩ e) r->Ev (λn=>kzz n (k:Int) ⟨u⟩ e) r:=by
 have g:∀k:Nat,k<=u.length+1->Ev (λn=>yzj n ((min (k+1) u.length:Nat):Int) ⟨u⟩ e) r->Ev (λn=>zzz n (k:Int) false ⟨u⟩ e) r:=λk j h=>by
  rw[zhg,Ev.kz0 (by rfl),wrk (by omega),z0bx,zz2.kz3];exact h
 intro N
 induction N with
 |zero=>
  intro k j l h;have:k=u.length:=by omega
  simp_all[rs,zbz,Ev.kz0]
 |succ N m=>
  intro k j l h;by_cases a:k<u.length;rw[zbz,Ev.zz1 (by simpa using a),Ev.yz1 (zz5 a)];simp only[bne,b34];rw[drop_cons a]at h;by_cases d:u[k]=34;rw[d,z0ed]at h;rw[show(!(u[k]==34))=false by simpa using d,zz2.kz3];exact g _ (by omega) h;rw[show(!(u[k]==34))=true by simpa using d,zhg,Ev.zz1 (by rfl),Ev.yz1 (zz5 a),b92];by_cases b:u[k]=92;rw[b]at h
  rw[Ev.zz1 (by simpa using b),wrk (by omega),zhf,wrk (by omega)];simp only[zz2.kz3];by_cases i:k+1<u.length;rw[drop_cons i,z0e8]at h
  grind
  rw[List.drop_of_length_le (by omega),z08v]at h;rw[zbz,Ev.kz0 (by simp;omega),zz2.kz3];refine g _ (by omega) ?_
  grind
  rw[rs_c _ d b]at h;rw[Ev.kz0 (by simpa using b),zhf,wrk (by omega)]
  grind[zz2.kz3]
  have:k=u.length:=by omega
  simp_all
def z03t{p}{u:B8}{k}(a)(h:p u[k]=true):((u.drop k).takeWhile p).length=((u.drop (k+1)).takeWhile p).length+1:=by
 rw[drop_cons a,List.takeWhile_cons,Qbq h,List.length_cons]
def z036{p}{u:B8}{k}(a)(h:p u[k]=false):((u.drop k).takeWhile p).length=0:=by
 rw[drop_cons a,List.takeWhile_cons,Qbr (by simp[h]),List.length_nil]
def z0fq{u}(l:u.length<=4000){e r}:∀k:Nat,k<=u.length->Ev (λn=>yzj n ((k+((u.drop k).takeWhile isNum).length:Nat):Int) ⟨u⟩ e) r->Ev (λn=>yzy n (k:Int) ⟨u⟩ e) r :=
 down (λh=>by
  simp_all[zhh,Ev.kz0,zhi]) λk a i h=>by
  have⟨j,d,b⟩:=ypq u[k];rw[zhh,Ev.zz1 (by simpa using a),Ev.yz1 (zz5 a),Ev.zz0 d,b,zhi];simp[zz2.kz3];cases g:isNum u[k]
  simp_all[z036,Ev.kz0]
  rw[z03t a g]at h;rw[Ev.zz1 (by rfl),wrk (by omega)]
  grind
theorem yrp(p)(u:B8):u.take (u.takeWhile p).length=u.takeWhile p:=by
 induction u with
 |nil=>rfl
 |cons c u a=>
  grind[List.takeWhile_cons]
def twAll(p)(u:B8):(u.takeWhile p).all p=true:=by
 simp_all
def z0fc(p)(u:B8):(u.takeWhile p).length<=u.length:=(List.takeWhile_prefix _).length_le
def ys6{u}(d:u.length<=4000):Ev (λn=>z3h n ⟨u⟩) (litR (lit u)):=by
 rw[zwv,Ev.zz0 ygd];unfold lit;by_cases b:u.head?=some 34;rw[Qbq b]
 cases u with
 |nil=>cases b
 |cons c t=>
  have s:=Option.some.inj b;subst s;rw[Ev.zz1 (by grind)];rw[List.length_cons]at d;refine z0ex (k:=1) (by simpa using d) _ (by simp) (Qbp _) ?_;rw[List.drop_succ_cons,List.drop_zero,List.tail_cons];have a:=yfh (u:=t.take (rs t+1)) (by simp;omega);have r:min (1+rs t+1) (34::t).length=(t.take (rs t+1)).length+1:=by simp;omega
  have i:(34::t).take ((t.take (rs t+1)).length+1)=34::t.take (rs t+1):=by
   grind[List.take_eq_take_min]
  rw[z040]at a;rw[r]
  cases j:scan t with
  |none=>
   rw[j]at a;have:=yjx (u:=34::t) (k:=(t.take (rs t+1)).length+1) (by simp;omega) (by simpa using d) (e:=⟨0,⟨0,⟨0,0⟩,false,[],[]⟩,[],[]⟩) (by rw[i];exact a) (.inr rfl)
   exact this
  |some p=>
   have⟨x,m⟩:=p;have⟨A,z,y⟩:=ypd t x m j;rw[j]at a;have q:m=(t.take (rs t+1)).length:=by simp;omega
   dsimp only at a ⊢;by_cases g:zbt (y86 x)=0;rw[Qbq ⟨q,g⟩]at a;have:=yjx (u:=34::t) (k:=(t.take (rs t+1)).length+1) (by simp;omega) (by simpa using d) (e:=⟨0,⟨0,⟨0,0⟩,false,[],[]⟩,[],[]⟩) (by rw[i];exact a) (.inl rfl)
   grind
   rw[Qbr λh=>g h.2]at a;have:=yjx (u:=34::t) (k:=(t.take (rs t+1)).length+1) (by simp;omega) (by simpa using d) (e:=⟨0,⟨0,⟨0,0⟩,false,[],[]⟩,[],[]⟩) (by rw[i];exact a) (.inr rfl)
   grind
 rw[Qbr b]
 have a:([34]:B8).isPrefixOf u=false:=by
  cases u with
  |nil=>rfl
  |cons c t=>
   simp[List.isPrefixOf,beq_eq_false_iff_ne]
   grind
 rw[a,Ev.kz0 (by rfl)];refine z0fq d 0 (Qbo _) ?_;rw[List.drop_zero,Nat.zero_add];have o:=z0fc isNum u;have g:=yei (w:=u.takeWhile isNum) (by omega) (twAll _ _);by_cases l:(zp3 (u.takeWhile isNum)).1=0;rw[Qbq l]at g ⊢;exact yjx o d (by rw[yrp];exact g) (.inl rfl);rw[Qbr l]at g ⊢;exact yjx o d (by rw[yrp];exact g) (.inr rfl)
def E0:zz2:=⟨0,⟨0,⟨0,0⟩,false,[],[]⟩,[],[]⟩
def z0ei(op:Int)(l:kz9):zz2:=⟨op,v0,[],l⟩
def z0dw{t u}:Ev (λn=>zze n t ⟨u⟩) (t.isPrefixOf u,⟨if t.isPrefixOf u then u.drop t.length else u⟩):=by
 rw[y4i,Ev.zz0 y2y,Ev.yz0]
def z03m{t u}(h:t.isPrefixOf u=true):Ev (λn=>zze n t ⟨u⟩) (true,⟨u.drop t.length⟩):=z0dw.to (by rw[h];rfl)
def zw5{t u}(h:t.isPrefixOf u=false):Ev (λn=>zze n t ⟨u⟩) (false,⟨u⟩):=z0dw.to (by rw[h];rfl)
def z0c8{t u}(h:t.isPrefixOf u=true):Ev (λn=>yzx n t ⟨u⟩) (.ok ⟨u.drop t.length⟩):=by
 rw[y46,Ev.zz0 (z03m h),Ev.kz0 (by rfl),Ev.yz0]
def y7x{c u}:([c]:B8).isPrefixOf u=(u.head?==some c):=by
 cases u with
 |nil=>rfl
 |cons d t=>
  grind
def u8k{k:Nat}(h:k<255):IntKind.u8.wrap ((k:Int)+1)=((k+1:Nat):Int):=by rw[w8 (by omega)];rfl
def nm:B8->B8
 |[]=>[]
 |c::t=>if isLet c=true then c::t.takeWhile zav else []
theorem yfx(c)(t):nm (c::t)=if isLet c=true then c::t.takeWhile zav else []:=rfl
def z0cr(u):u.take (nm u).length=nm u:=by
 cases u with
 |nil=>rfl
 |cons c t=>
  grind[yfx,yrp]
def z0f7(u):(nm u).length<=u.length:=by
 have:=congrArg List.length (z0cr u)
 grind
theorem y3k{c}:isLet c=true↔97<=c.toNat∧c.toNat<=122:=by unfold isLet;simp
theorem yaf{c}:zav c=true↔(97<=c.toNat∧c.toNat<=122)∨c.toNat=45∨(48<=c.toNat∧c.toNat<=57):=by
 unfold zav;rw[Bool.or_eq_true,Bool.or_eq_true,y3k,zgz,z02n,Qar,show(45:UInt8).toNat=45 by rfl];omega
def yok(c:UInt8)(k:Nat):Bool:=if k=0 then isLet c else zav c
def z04p{c k}:yok c k=true↔(97<=c.toNat∧c.toNat<=122)∨(0<k∧(c.toNat=45∨(48<=c.toNat∧c.toNat<=57))):=by
 grind[yok,y3k,yaf]
def zvp{c k b}(h:b=true↔(97<=c.toNat∧c.toNat<=122)∨(0<k∧(c.toNat=45∨(48<=c.toNat∧c.toNat<=57)))):yok c k=b:=by
 rw[Bool.eq_iff_iff,z04p,h]
def ykh{u d e}{k:Nat}{r}(a)(h:Ev (λn=>yz6 n d (k:Int) (yok u[k] k) ⟨u⟩ e) r):Ev (λn=>kzt n (k:Int) d ⟨u⟩ e) r:=by
 rw[zev,Ev.zz1 (by simpa using a),Ev.yz1 (zz5 a)];simp[zz2.kz3];by_cases j:97<=u[k].toNat;rw[Ev.zz1 (by simp;omega),Ev.yz1 (zz5 a)];by_cases g:u[k].toNat<=122;rw[zvp (b:=true) (by simp;omega)]at h;rw[Ev.zz1 (by simp;omega)];exact h;rw[zvp (b:=false) (by simp;omega)]at h;rw[Ev.kz0 (by simp;omega)];by_cases i:0<k
 rw[Ev.zz1 (by simp;omega),Ev.yz1 (zz5 a),Ev.kz0 (by simp;omega),Ev.yz1 (zz5 a),Ev.zz1 (by simp;omega),Ev.yz1 (zz5 a),show decide (((u[k].toNat:Nat):Int)<=57)=false by simp;omega];exact h
 simp_all[Ev.kz0]
 rw[Ev.kz0 (by simp;omega)];by_cases i:0<k;rw[Ev.zz1 (by simp;omega),Ev.yz1 (zz5 a)];by_cases m:u[k].toNat=45
 simp_all[zvp,Ev.zz1]
 rw[Ev.kz0 (by simp;omega),Ev.yz1 (zz5 a)];by_cases l:48<=u[k].toNat;rw[Ev.zz1 (by simp;omega),Ev.yz1 (zz5 a)];rw[zvp (b:=decide (((u[k].toNat:Nat):Int)<=57)) (by simp;omega)]at h;exact h;rw[zvp (b:=false) (by simp;omega)]at h;rw[Ev.kz0 (by simp;omega)];exact h
 simp_all[zvp,Ev.kz0]
def z00i{u d e r}(i:u.length<=4000):∀k,k<=u.length->0<k->Ev (λn=>yz6 n d ((k+((u.drop k).takeWhile zav).length:Nat):Int) false ⟨u⟩ e) r->Ev (λn=>kzt n (k:Int) d ⟨u⟩ e) r :=
 down (λa h=>by
  simp_all[zev,Ev.kz0]) λk a g j h=>by
  refine ykh a ?_;unfold yok;rw[Qbr (by omega)];cases b:zav u[k];rw[z036 a b]at h;exact h;rw[z03t a b]at h;rw[zay,Ev.zz1 (by rfl),wrk (by omega),zz2.kz3]
  grind
def rname{u d e r}(a:u.length<=4000)(h:Ev (λn=>yz6 n d ((nm u).length:Int) false ⟨u⟩ e) r):Ev (λn=>kzt n 0 d ⟨u⟩ e) r:=by
 cases u with
 |nil=>
  rw[zev,Ev.kz0 (by rfl),zz2.kz3]
  exact h
 |cons c t=>
  refine ykh (k:=0) (by simp) ?_;rw[show yok (c::t)[0] 0=isLet c by rfl];rw[yfx]at h;cases b:isLet c
  grind
  rw[zay,Ev.zz1 (by rfl),show IntKind.i64.wrap (((0:Nat):Int)+1)=((1:Nat):Int) by rfl,zz2.kz3];refine z00i a 1 (by simp) (by decide) ?_
  grind
def z051(i)(h:i<7):zez (((11+i:Nat)):Int)=zif[i]'h:=by
 rcases(show i=0∨i=1∨i=2∨i=3∨i=4∨i=5∨i=6 by omega)with rfl|rfl|rfl|rfl|rfl|rfl|rfl <;> rfl
def z02w(v:kz1):zz2:=⟨1,v,[],[]⟩
def evar(name:B8):zz2:=⟨2,v0,name,[]⟩
def dec1{d}(h:d<=100):IntKind.i64.wrap (((d+1:Nat):Int)-1)=(d:Int):=by rw[wI (by omega)];omega
def yog{u d}(i:u.length<=4000)(g:u.head?≠some 40)(e:u.head?≠some 91){r}(h:Ev (λn=>yz6 n ((d+1:Nat):Int) ((nm u).length:Int) false ⟨u⟩ E0) r):Ev (λn=>zz8 n ((d+1:Nat):Int) ⟨u⟩ E0) r:=by
 have b:([40]:B8).isPrefixOf u=false:=by rw[y7x];simpa using g
 have a:([91]:B8).isPrefixOf u=false:=by rw[y7x];simpa using e
 rw[zes,Ev.zz0 (zw5 b),Ev.kz0 (by rfl),zjp,Ev.zz0 (zw5 a),Ev.kz0 (by rfl)]
 simp_all[rname]
def yu4{u d}(e:u.length<=4000)(b:u.head?≠some 40)(a:u.head?≠some 91)(g:nm u=[]):Ev (λn=>zz8 n ((d+1:Nat):Int) ⟨u⟩ E0) (litR (lit u)):=by
 refine yog e b a ?_;rw[zay,Ev.kz0 (by rfl),Ev.yz1 (zld (z0f7 u)),Ev.zz1 (by rw[g];rfl),Ev.zz0 (ys6 e)]
 cases h:lit u with
 |none=>
  refine Ev.yg6.2 ?_
  rw[Ev.yz0];rfl
 |some p=>
  refine Ev.zt2.2 ?_;rw[Ev.yz0]
  first|rfl|(done)|(simp[kz1.kz3];rfl)
noncomputable def chk(e:zz2):Int×zz2:=if z50 e=0 then (0,e)else (12,E0)
def ys7{e}:Ev (λn=>z5d n true E0 e) (12,E0):=by rw[zvv,Ev.zz1 (by rfl),Ev.yz0];rfl
def z0bj{e}(b:e.wf)(d:e.size<=8388608):Ev (λn=>(z0y n e).bind λa=>z5d n (a != 0) E0 e) (chk e):=by
 rw[Ev.zz0 (zll b d)];unfold chk;by_cases h:z50 e=0;rw[h,Qbq rfl,zvv,Ev.kz0 (by rfl),Ev.yz0,zz2.kz3];rw[Qbr h,show(z50 e != 0)=true by simpa using h];exact ys7
def yml{s}(k:s.length<=4000){r}(h:Ev (λn=>zzx n 12 ⟨s⟩) r) :
  (∀e,r = .pan e->e.1≠0->Ev (λn=>zb8 n s) (12,E0))∧(∀t e,r = .ok (⟨t⟩,e)->e.wf->e.size<=8388608->Ev (λn=>zb8 n s) (if t=[]then chk e else (12,E0))):=by
 refine⟨λp j b =>?_,λt e i g b =>?_⟩;subst j
 have a:Ev (λn=>zcj n s) (E0,p.1):=by
  rw[zxa,Ev.zz0 h];refine Ev.yg6.2 ?_;refine Ev.yz0 (x:=(E0,p.1)).2 rfl
 rw[zsy,Ev.kz0 (by simp;omega),Ev.zz0 a,Ev.zz1 (by simpa using b)];exact ys7;subst i;by_cases d:t=[];subst d;rw[Qbq rfl]
 have a:Ev (λn=>zcj n s) (e,0):=by
  rw[zxa,Ev.zz0 h];refine Ev.zt2.2 ?_;rw[Ev.kz0 (by rfl)];simp[zz2.kz3];refine Ev.yz0 (x:=(e,(0:Int))).2 rfl
 rw[zsy,Ev.kz0 (by simp;omega),Ev.zz0 a,Ev.kz0 (by rfl)];simp[zz2.kz3];exact z0bj g b;rw[Qbr d]
 have a:Ev (λn=>zcj n s) (e,12):=by
  rw[zxa,Ev.zz0 h];refine Ev.zt2.2 ?_;rw[Ev.zz1 (by simpa using d),Ev.zz0 (yxc (by decide))];refine Ev.yg6.2 ?_;simp[zz2.kz3];refine Ev.yz0 (x:=(e,(12:Int))).2 rfl
 rw[zsy,Ev.kz0 (by simp;omega),Ev.zz0 a,Ev.zz1 (by rfl)];exact ys7
end Go.Proofs.YthphaiccgnkobaaGreatDoor
