/-
  PROGRAMS: WHAT IS WELL FORMED; THE NAMES, CALLS AND EXPRESSIONS OF A RULE.
-/
import Derived.Test.YthlmhmebajjkbaaGreatDoorOwn3
import Derived.Test.YthlmhmebajjkbaaGreatDoorOwn2
set_option linter.defProp false
set_option linter.unusedSimpArgs false
set_option linter.unusedVariables false
namespace Go.Proofs.YthlmhmebajjkbaaGreatDoor
open Go Go.Ab
noncomputable section
def y8i(c:yz5):Bool:=decide (1<=c.weight)&&(decide (c.weight<=1000000)&&((zam c.when_==0)&&c.do_.all z4u))
def y2a(r:kz3):Bool:=zcr r.name&&(r.params.all zcr&&r.cases.all y8i)
def ygo(t:zz9):Bool:=zcr t.name&&(zam t.value==0)
def zf4(p:zz0):Bool:=p.attrs.all ygo&&p.rules.all y2a
def ifA{c d:Bool}{γ:Type}{x y:γ}:(if (c&&d)=true then x else y)=if c=true then (if d=true then x else y)else y:=by cases c <;> rfl
def yn6{p:zz0}(D:p.wf)(Q:p.size<=8000000):Ev (λn=>zb9 n p) (zf4 p):=by
 have:=@zl0 p;have:=@zfw p
 have K:Ev (λn=>z1q n 0 p.rules (p.rules.length:Int)) (if p.rules.all y2a=true then true else false):=by
  refine zck (L:=λn k=>z1q n k p.rules (p.rules.length:Int)) (by rw[zpf,Ev.kz1 (by simp),Ev.yz0]) λk a v d =>?_
  have F:=Qad a;have:=zn2 F;have:=@y2k p.rules[k];have:=@zxs p.rules[k];have:=@z00e p.rules[k];have A:=yro D F
  have J:Ev (λn=>z1v n 0 p.rules[k].cases p.rules (p.rules.length:Int) (k:Int) (p.rules[k].cases.length:Int)) (if p.rules[k].cases.all y8i=true then v else false):=by
   refine zck (L:=λn j=>z1v n j p.rules[k].cases p.rules (p.rules.length:Int) (k:Int) (p.rules[k].cases.length:Int)) (by rw[zpj,Ev.kz1 (by simp),wrk (by omega)];exact d) λj y w d =>?_
   have g:=Qad y;have:=zwf g;have:=@yl0 p.rules[k].cases[j];have:=@zxt p.rules[k].cases[j];have e:=ywe A g
   have I:Ev (λn=>z1s n 0 p.rules[k].cases[j].do_ p.rules[k].cases p.rules (p.rules.length:Int) (k:Int) (p.rules[k].cases.length:Int) (j:Int) (p.rules[k].cases[j].do_.length:Int)) (if p.rules[k].cases[j].do_.all z4u=true then w else false):=by
    refine zck (L:=λn i=>z1s n i p.rules[k].cases[j].do_ p.rules[k].cases p.rules (p.rules.length:Int) (k:Int) (p.rules[k].cases.length:Int) (j:Int) (p.rules[k].cases[j].do_.length:Int)) (by rw[zof,Ev.kz1 (by simp),wrk (by omega)];exact d) λi z u O =>?_
    have G:=Qad z;have:=y1s G;rw[zof,Ev.zz2 (by simpa using z),Ev.yz2 (kz7 z),Ev.kz0 (yua (yvy e G) (by omega))];cases z4u p.rules[k].cases[j].do_[i]
    ·rw[Ev.zz2 (by rfl),Ev.yz0];rfl
    ·rw[Ev.kz1 (by rfl),wrk (by omega)];exact O
   have r:∀b,Ev (λn=>z2b n p.rules[k].cases p.rules (p.rules.length:Int) (k:Int) (p.rules[k].cases.length:Int) (j:Int) (!b) p.rules[k].cases[j]) (if b=true then (if p.rules[k].cases[j].do_.all z4u=true then w else false)else false):=λb=>by
    cases b
    ·rw[zp9,Ev.zz2 (by rfl),Ev.yz0];rfl
    ·rw[zp9,Ev.kz1 (by rfl)];exact I
   rw[zpj,Ev.zz2 (by simpa using y),Ev.yz2 (kz7 y),yz5.kz4,y8i,ifA,ifA,ifA];by_cases o:1<=p.rules[k].cases[j].weight
   case neg=>rw[Ev.zz2 (by simp;omega),Qbr o];exact r false
   rw[Ev.kz1 (by simp;omega),Qbs o];by_cases h:p.rules[k].cases[j].weight<=1000000
   case neg=>rw[Ev.zz2 (by simp;omega),Qbr h];exact r false
   rw[Ev.kz1 (by simp;omega),Qbs h,yz1.kz4,Ev.kz0 (zvd (z027 e) (by omega)),neI];exact r _
  have B:∀b,Ev (λn=>z3t n p.rules (p.rules.length:Int) (k:Int) (!b) p.rules[k]) (if b=true then (if p.rules[k].cases.all y8i=true then v else false)else false):=λb=>by
   cases b
   ·rw[zoz,Ev.zz2 (by rfl),Ev.yz0];rfl
   ·rw[zoz,Ev.kz1 (by rfl)];exact J
  have⟨i,o,h⟩:=y7i (S:=λn x=>z8x n x) (l:=p.rules[k].params) (p:=λs => !zcr s) (L:=λn k l m=>zzm n k l m) (λn k=>zzm.eq_2 _ _ _ n) (by omega) λx N=>by
   have:=z05i N;rw[y67,Ev.kz0 (zm4 (by omega)),Ev.yz0]
  have g:Ev (λn=>kzl n p.rules[k].params) (!p.rules[k].params.all zcr):=by
   rw[zfm,Ev.kz0 (by rw[zhy];exact o),Ev.yz0,h,<-List.not_all_eq_any_not]
  rw[zpf,Ev.zz2 (by simpa using a),Ev.yz2 (kz7 a),y2a,ifA,ifA,Ev.kz0 (zm4 (by omega))];cases zcr p.rules[k].name
  ·rw[Ev.zz2 (by rfl)];exact B false
  ·rw[Ev.kz1 (by rfl),Ev.kz0 g];exact B _
 have M:Ev (λn=>z1y n 0 p.attrs (p.attrs.length:Int) p) (if p.attrs.all ygo=true then p.rules.all y2a else false):=by
  refine zck (L:=λn k=>z1y n k p.attrs (p.attrs.length:Int) p) (by rw[zpk,Ev.kz1 (by simp),<-ifB (p.rules.all y2a)];exact K) λk a v d =>?_
  have E:=Qad a;have:=y2o E;have:=@y2b p.attrs[k]
  have C:∀b,Ev (λn=>z48 n p.attrs (p.attrs.length:Int) (k:Int) (!b) p) (if b=true then v else false):=λb=>by
   cases b
   ·rw[zpq,Ev.zz2 (by rfl),Ev.yz0];rfl
   ·rw[zpq,Ev.kz1 (by rfl),wrk (by omega)];exact d
  rw[zpk,Ev.zz2 (by simpa using a),Ev.yz2 (kz7 a),ygo,ifA,Ev.kz0 (zm4 (by omega))];cases zcr p.attrs[k].name
  ·rw[Ev.zz2 (by rfl)];exact C false
  ·rw[Ev.kz1 (by rfl),yz1.kz4,Ev.kz0 (zvd (yvs D E) (by omega)),neI];exact C _
 rw[yb3];refine M.to ?_;rw[zf4];cases p.attrs.all ygo <;> rfl
def ymp{p:zz0}(F:p.wf)(J:p.size<=8000000):Ev (λn=>zbf n p) (zf4 p):=by
 have:=@zl0 p;have:=@zfw p
 have D:Ev (λn=>z2c n 0 p) (if p.rules.all y2a=true then true else false):=by
  refine zck (L:=λn k=>z2c n k p) (by rw[zpm,Ev.kz1 (by simp),Ev.yz0]) λk a v d =>?_
  have r:=Qad a;have:=zn2 r;have:=@y2k p.rules[k];have:=@zxs p.rules[k];have:=@z00e p.rules[k];have l:=yro F r
  have B:Ev (λn=>z29 n 0 (k:Int) p.rules[k] p) (if p.rules[k].cases.all y8i=true then v else false):=by
   refine zck (L:=λn j=>z29 n j (k:Int) p.rules[k] p) (by rw[zo2,Ev.kz1 (by simp),wrk (by omega)];exact d) λj e w d =>?_
   have s:=Qad e;have:=zwf s;have:=@yl0 p.rules[k].cases[j];have:=@zxt p.rules[k].cases[j];have m:=ywe l s
   have A:Ev (λn=>z1w n 0 (k:Int) (j:Int) p.rules[k].cases[j] p.rules[k] p) (if p.rules[k].cases[j].do_.all z4u=true then w else false):=by
    refine zck (L:=λn i=>z1w n i (k:Int) (j:Int) p.rules[k].cases[j] p.rules[k] p) (by rw[zpl,Ev.kz1 (by simp),wrk (by omega)];exact d) λi h u G =>?_
    have x:=Qad h;have:=y1s x;rw[zpl,Ev.zz2 (by simpa using h),Ev.yz2 (kz7 h),Ev.kz0 (yvj (yvy m x) (by omega)),yz5.kz4];cases z4u p.rules[k].cases[j].do_[i]
    ·rw[Ev.zz2 (by rfl),Ev.yz0];rfl
    ·rw[Ev.kz1 (by rfl),wrk (by omega)];exact G
   have g:∀b,Ev (λn=>z25 n (k:Int) (j:Int) (!b) p.rules[k].cases[j] p.rules[k] p) (if b=true then (if p.rules[k].cases[j].do_.all z4u=true then w else false)else false):=λb=>by
    cases b
    ·rw[zoi,Ev.zz2 (by rfl),Ev.yz0];rfl
    ·rw[zoi,Ev.kz1 (by rfl),yz5.kz4];exact A
   rw[zo2,Ev.zz2 (by simpa using e),Ev.yz2 (kz7 e),yz5.kz4,y8i,ifA,ifA,ifA];by_cases z:1<=p.rules[k].cases[j].weight
   case neg=>rw[Ev.zz2 (by simp;omega),Qbr z];exact g false
   rw[Ev.kz1 (by simp;omega),Qbs z];by_cases y:p.rules[k].cases[j].weight<=1000000
   case neg=>rw[Ev.zz2 (by simp;omega),Qbr y];exact g false
   rw[Ev.kz1 (by simp;omega),Qbs y,yz1.kz4,Ev.kz0 (zjc (by omega)),neI];exact g _
  have C:Ev (λn=>z1x n 0 (k:Int) p.rules[k] p) (if p.rules[k].params.all zcr=true then (if p.rules[k].cases.all y8i=true then v else false)else false):=by
   refine zck (L:=λn j=>z1x n j (k:Int) p.rules[k] p) (by rw[zpt,Ev.kz1 (by simp)];exact B) λj e w d =>?_
   have:=z05i (Qad e);rw[zpt,Ev.zz2 (by simpa using e),Ev.yz2 (kz7 e),Ev.kz0 (zpy (by omega))];cases zcr p.rules[k].params[j]
   ·rw[Ev.zz2 (by rfl),Ev.yz0];rfl
   ·rw[Ev.kz1 (by rfl),wrk (by omega)];exact d
  rw[zpm,Ev.zz2 (by simpa using a),Ev.yz2 (kz7 a),y2a,ifA,ifA,Ev.kz0 (zpy (by omega))];cases zcr p.rules[k].name
  ·rw[Ev.zz2 (by rfl),Ev.yz0];rfl
  ·rw[Ev.kz1 (by rfl)];exact C
 have E:Ev (λn=>z1p n 0 p) (if p.attrs.all ygo=true then p.rules.all y2a else false):=by
  refine zck (L:=λn k=>z1p n k p) (by rw[zps,Ev.kz1 (by simp),<-ifB (p.rules.all y2a)];exact D) λk a v d =>?_
  have I:=Qad a;have:=y2o I;have:=@y2b p.attrs[k]
  have o:∀b,Ev (λn=>z3u n (k:Int) (!b) p) (if b=true then v else false):=λb=>by
   cases b
   ·rw[zpe,Ev.zz2 (by rfl),Ev.yz0];rfl
   ·rw[zpe,Ev.kz1 (by rfl),wrk (by omega)];exact d
  rw[zps,Ev.zz2 (by simpa using a),Ev.yz2 (kz7 a),ygo,ifA,Ev.kz0 (zpy (by omega))];cases zcr p.attrs[k].name
  ·rw[Ev.zz2 (by rfl)];exact o false
  ·rw[Ev.kz1 (by rfl),Ev.yz2 (kz7 a),yz1.kz4,Ev.kz0 (zjc (by omega)),neI];exact o _
 rw[ya2];refine E.to ?_;rw[zf4];cases p.attrs.all ygo <;> rfl
def kz8(p:zz0):List B8:=p.attrs.map (·.name)
def zz4(p:zz0):List B8:=p.rules.map (·.name)
def yeu{α β:Type}{g:α->β}(l:List α)(s:List β):l.foldl (λs x=>s++[g x]) s=s++l.map g:=by
 induction l generalizing s with
 |nil=>simp
 |cons x l a=>simp[a]
def zx2{p:zz0}(d:p.size<=8000000):Ev (λn=>z8b n p) (kz8 p):=by
 have:=@zl0 p;rw[yeo]
 refine yqr (L:=λn k s=>z5a n k p s) (xs:=p.attrs) (f:=λs x=>s++[x.name]) (I:=λk s=>s.length=k) rfl (λ_=>by
  rw[zrl,Ev.kz1 (by simp),Ev.yz0,yeu];rfl) λk a s b=>⟨by simp[b],λh=>by
  rw[zrl,Ev.zz2 (by simpa using a),Ev.yz2 (kz7 a),Ev.yz2 (z69 (by simp;omega)),wrk (by omega)];exact h⟩
def zxa{p:zz0}(d:p.size<=8000000):Ev (λn=>z8g n p) (zz4 p):=by
 have:=@zfw p;rw[yep]
 refine yqr (L:=λn k s=>z5h n k p s) (xs:=p.rules) (f:=λs x=>s++[x.name]) (I:=λk s=>s.length=k) rfl (λ_=>by
  rw[zqh,Ev.kz1 (by simp),Ev.yz0,yeu];rfl) λk a s b=>⟨by simp[b],λh=>by
  rw[zqh,Ev.zz2 (by simpa using a),Ev.yz2 (kz7 a),Ev.yz2 (z69 (by simp;omega)),wrk (by omega)];exact h⟩
def atI(l:List B8)(s:B8):Int:=match l.idxOf? s with
 |some i=>(i:Int)
 |none => -1
def z03i{l:List B8}{s:B8} : -1<=atI l s:=by unfold atI;split <;> omega
def zo0(x:B8)(l:List B8)(s:B8):atI (x::l) s=if x=s then 0 else if atI l s = -1 then -1 else atI l s+1:=by
 unfold atI;rw[List.idxOf?_cons];by_cases h:x=s
 ·subst h;simp
 ·have:(x==s)=false:=by simpa using h
  rw[this,Qbx h];simp only[Bool.false_eq_true,if_false];cases l.idxOf? s <;> simp
def ygy{L:Nat->Int->Option Int}{l:List B8}{s:B8}{p:B8->Bool}(b:∀x,p x=true↔x=s)(i:l.length<=8388608)
  (d:∀n (k:Int),L (n+1) k=pIf (decide (k<(l.length:Int))) ((ix l k).bind λe=>pIf (p e) (some k) (L n (IntKind.i64.wrap (k+1)))) (some (-1))):Ev (λn=>L n 0) (atI l s):=by
 have:∀k,k<=l.length->Ev (λn=>L n (k:Int)) (if atI (l.drop k) s = -1 then -1 else atI (l.drop k) s+k) :=
  down (by rw[Ev.zjx (λn=>d n _),Ev.kz1 (by simp),Ev.yz0,List.drop_length];rfl) λk a g=>by
   rw[Ev.zjx (λn=>d n _),Ev.zz2 (by simpa using a),Ev.yz2 (kz7 a),<-Qah (h:=a),zo0];by_cases h:l[k]=s
   ·rw[Ev.zz2 ((b _).2 h),Ev.yz0,Qbw h];simp
   ·rw[Ev.kz1 (by rw[Bool.eq_false_iff];exact λq=>h ((b _).1 q)),wrk (by omega),Qbx h];refine g.to ?_;by_cases q:atI (l.drop (k+1)) s = -1
    ·simp[q]
    ·have j:=@z03i (l.drop (k+1)) s;rw[Qbx q,Qbx q,Qbx (by omega)];omega
 have:=this 0 (Qbu _);simp only[List.drop_zero]at this;refine Ev.to this ?_;split
 ·rename_i h;exact h.symm
 ·simp
def zxp{l:List B8}{s:B8}(a:l.length<=8388608):Ev (λn=>zaa n l s) (atI l s):=by
 rw[ysw];exact ygy (L:=λn k=>zd4 n k s l) (p:=λx=>x==s) (λx=>by simp) a λn k=>zd4.eq_2 _ _ _ n
def yyg{l:List B8}{s:B8}(a:l.length<=8388608):Ev (λn=>yzs n l s) (atI l s):=by
 rw[zdj];exact ygy (L:=λn k=>zzi n k l s (l.length:Int)) (p:=λx=>s==x) (λx=>by simp;exact eq_comm) a λn k=>zzi.eq_2 _ _ _ _ n
def zfc{l:List B8}{s:B8}:atI l s<0↔s∉l:=by
 induction l with
 |nil=>simp[atI]
 |cons x l a=>
  rw[zo0];by_cases h:x=s
  ·subst h;simp
  ·have:s∉x::l↔s∉l:=by simp[Ne.symm h]
   rw[Qbx h,this,<-a];split
   ·rename_i q;simp[q]
   ·have : -1<=atI l s:=by unfold atI;split <;> omega
    omega
def y5h{l:List B8}{s:B8}(h:s∈l):∃i:Nat,∃(hi:i<l.length),atI l s=(i:Int)∧l[i]=s∧∀j (hj:j<i),l[j]'(by omega)≠s:=by
 induction l with
 |nil=>cases h
 |cons x l ih=>
  rw[zo0];by_cases q:x=s
  ·exact⟨0,by simp,by simp[q],by simpa using q,λj hj=>by omega⟩
  ·have hm:s∈l:=by rcases Qbl.1 h with h|h;· exact(q h.symm).elim
                   ·exact h
   obtain⟨i,hi,h1,h2,h3⟩:=ih hm;refine⟨i+1,by simp;omega,?_,by simpa using h2,λj hj =>?_⟩
   ·rw[Qbx q,h1,Qbx (by omega)];omega
   ·cases j with
    |zero=>simpa using q
    |succ j=>simpa using h3 j (by omega)
def zil{α β γ:Type}{L:Nat->Int->List β->Option γ}{xs:List α}{g:α->List β}{v:γ}{d:List β}{B:Nat}(u:d.length+(xs.flatMap g).length<=B)
  (r:Ev (λn=>L n (xs.length:Int) (d++xs.flatMap g)) v)
  (l:∀k (h:k<xs.length) s,s.length+(g xs[k]).length<=B->Ev (λn=>L n ((k+1:Nat):Int) (s++g xs[k])) v->Ev (λn=>L n (k:Int) s) v):Ev (λn=>L n 0 d) v:=by
 have:∀m k,k+m=xs.length->∀s,s.length+((xs.drop k).flatMap g).length<=B->s++(xs.drop k).flatMap g=d++xs.flatMap g->Ev (λn=>L n (k:Int) s) v:=λm=>by
  induction m with
  |zero=>
   intro k o s i b;have e:k=xs.length:=by omega
   subst e;rw[List.drop_length]at b;simp only[List.flatMap_nil,List.append_nil]at b
   rw[b];exact r
  |succ m j=>
   intro k o s i b;have a:k<xs.length:=by omega
   rw[<-Qah (h:=a),List.flatMap_cons,Qap]at i;rw[<-Qah (h:=a),List.flatMap_cons,<-Qaz]at b;exact l k a s (by omega) (j (k+1) (by omega) _ (by rw[Qap];omega) b)
 simpa using this xs.length 0 (by omega) d (by simpa using u) (by simp)
def zob{α β:Type}{f:α->Nat}{g:α->List β}:∀{l:List α},(∀x∈l,(g x).length<=f x)->(l.flatMap g).length<=(l.map f).sum
 |[],_=>by simp
 |x::l,h=>by
  have d:=h x Qak;have b:=zob (f:=f) (g:=g) (l:=l) λy a=>h y (Qai _ a)
  simp only[List.flatMap_cons,Qap,List.map_cons,List.sum_cons];omega
def zxe(x:kzb):List (B8×Int):=[(x.name,(x.args.length:Int)-1)]
def zkb(a:zz3):List (B8×Int):=(if a.name=[]then []else [(a.name,(a.args.length:Int)-own a.kind)])++a.items.flatMap zxe
def y7c(c:yz5):List (B8×Int):=c.do_.flatMap zkb
def yzd(r:kz3):List (B8×Int):=r.cases.flatMap y7c
def yt7(a:zz3):(zkb a).length<=a.size:=by
 have h:=zob (f:=kzb.size) (g:=zxe) (l:=a.items) λx _=>by rw[kzb.size_eq];show 1<=_;omega
 rw[zz3.size_eq,zkb,Qap];split <;> simp only[List.length_cons,Qcb] <;> omega
def yva(c:yz5):(y7c c).length<=c.size:=by
 have h:=zob (f:=zz3.size) (g:=zkb) (l:=c.do_) λx _=>yt7 x
 rw[yz5.size_eq];unfold y7c;omega
def zl8(r:kz3):(yzd r).length<=r.size:=by
 have h:=zob (f:=yz5.size) (g:=y7c) (l:=r.cases) λx _=>yva x
 rw[kz3.size_eq];unfold yzd;omega
def toT(x:B8×Int):z09:=⟨x.1,x.2⟩
def toG(x:B8×Int):z3r:=⟨x.1,x.2⟩
def z05o(k:Int):0<=own k∧own k<=3:=by unfold own;split <;> (try split) <;> omega
def ylq{a k:Int}(g:0<=a)(e:a<=8000000)(d:0<=k)(b:k<=3):IntKind.i64.wrap (a-k)=a-k:=wI (by omega)
def y8k{r:kz3}(C:r.size<=8000000):Ev (λn=>zau n r) ((yzd r).map toT):=by
 have hlen:=zl8 r;have e:(yzd r).map toT=r.cases.flatMap λc=>c.do_.flatMap λa=>(zkb a).map toT:=by simp only[yzd,y7c,List.map_flatMap]
 have:=@zxs r;rw[yd5]
 refine zil (L:=λn k s=>z6a n k r.cases (r.cases.length:Int) s) (xs:=r.cases) (g:=λc=>c.do_.flatMap λa=>(zkb a).map toT) (B:=8000000) (by rw[<-e];simp;omega) (by
  rw[zrr,Ev.kz1 (by simp),Ev.yz0,e];rfl) λk l s d b =>?_
 have:=zwf (Qad l);have:=@zxt r.cases[k];rw[zrr,Ev.zz2 (by simpa using l),Ev.yz2 (kz7 l)]
 refine zil (L:=λn j s=>z34 n j r.cases[k].do_ r.cases (r.cases.length:Int) (k:Int) (r.cases[k].do_.length:Int) s) (xs:=r.cases[k].do_) (g:=λa=>(zkb a).map toT) (B:=8000000) d (by
  rw[zqm,Ev.kz1 (by simp),wrk (by omega)];exact b) λj m s d b =>?_
 have:=y1s (Qad m);generalize y:r.cases[k].do_[j]=a at *;have:=@y4h a;have:=@z024 a;have w:=z05o a.kind;rw[zkb,List.map_append,Qap]at d;rw[zkb,List.map_append,<-Qaz]at b
 have o:∀t:z9v,t.length+((a.items.flatMap zxe).map toT).length<=8000000->Ev (λn=>z34 n ((j+1:Nat):Int) r.cases[k].do_ r.cases (r.cases.length:Int) (k:Int) (r.cases[k].do_.length:Int) (t++(a.items.flatMap zxe).map toT)) ((yzd r).map toT)->Ev (λn=>z58 n r.cases[k].do_ r.cases (r.cases.length:Int) (k:Int) (r.cases[k].do_.length:Int) (j:Int) t a) ((yzd r).map toT):=λt u b=>by
  have z:(a.items.flatMap zxe).map toT=a.items.flatMap λx=>[(⟨x.name,(x.args.length:Int)-1⟩:z09)]:=by rw[List.map_flatMap];rfl
  rw[z]at u b;rw[y62]
  refine zil (L:=λn i s=>z5s n i a.items r.cases[k].do_ r.cases (r.cases.length:Int) (k:Int) (r.cases[k].do_.length:Int) (j:Int) (a.items.length:Int) s) (xs:=a.items) (g:=λx=>[(⟨x.name,(x.args.length:Int)-1⟩:z09)]) (B:=8000000) u (by
   rw[zrh,Ev.kz1 (by simp),wrk (by omega)];exact b) λi d s A b =>?_
  have:=ye1 (Qad d);have:=@z00b a.items[i];rw[zrh,Ev.zz2 (by simpa using d),Ev.yz2 (kz7 d),ylq (by omega) (by omega) (by omega) (by omega),Ev.yz2 (z69 (by simp at A ⊢;omega)),wrk (by omega)];exact b
 rw[zqm,Ev.zz2 (by simpa using m),Ev.yz2 (kz7 m),y];by_cases h:a.name=[]
 ·rw[Ev.kz1 (by simp[h])];rw[Qbw h]at b d;exact o s (by simpa using d) (by simpa using b)
 ·rw[Ev.zz2 (by simpa using h),Ev.kz0 y8e,ylq (by omega) (by omega) w.1 w.2];rw[Qbx h]at b d;rw[Ev.yz2 (z69 (by simp at d ⊢;omega))];exact o _ (by simp at d ⊢;omega) b
def ygj{r:kz3}(M:r.size<=8000000)(K:∀c∈r.cases,∀a∈c.do_,(a.name=[]↔a.kind=5∨a.kind=6)):Ev (λn=>zc6 n r) ((yzd r).map toG):=by
 have hlen:=zl8 r;have e:(yzd r).map toG=r.cases.flatMap λc=>c.do_.flatMap λa=>(zkb a).map toG:=by simp only[yzd,y7c,List.map_flatMap]
 have:=@zxs r;rw[yhe]
 refine zil (L:=λn k s=>z7y n k s r) (xs:=r.cases) (g:=λc=>c.do_.flatMap λa=>(zkb a).map toG) (B:=8000000) (by rw[<-e];simp;omega) (by
  rw[zu1,Ev.kz1 (by simp),Ev.yz0,e];rfl) λk o s b d =>?_
 have D:=Qad o;have:=zwf D;have:=@zxt r.cases[k];rw[zu1,Ev.zz2 (by simpa using o)]
 refine zil (L:=λn j s=>z4l n j (k:Int) s r) (xs:=r.cases[k].do_) (g:=λa=>(zkb a).map toG) (B:=8000000) b (by
  rw[zun,Ev.yz2 (kz7 o),Ev.kz1 (by simp),wrk (by omega)];exact d) λj y s b d =>?_
 have E:=Qad y;have:=y1s E;have l:=K _ D _ E;generalize G:r.cases[k].do_[j]=a at *;have:=@y4h a;have:=@z024 a;have C:=z05o a.kind;rw[zkb,List.map_append,Qap]at b;rw[zkb,List.map_append,<-Qaz]at d
 have z:∀t:zdy,t.length+((a.items.flatMap zxe).map toG).length<=8000000->Ev (λn=>z4l n ((j+1:Nat):Int) (k:Int) (t++(a.items.flatMap zxe).map toG) r) ((yzd r).map toG)->Ev (λn=>z7d n (k:Int) (j:Int) a t r) ((yzd r).map toG):=λt A d=>by
  have I:(a.items.flatMap zxe).map toG=a.items.flatMap λx=>[(⟨x.name,(x.args.length:Int)-1⟩:z3r)]:=by rw[List.map_flatMap];rfl
  rw[I]at A d;rw[y7q]
  refine zil (L:=λn i s=>z6u n i (k:Int) (j:Int) a s r) (xs:=a.items) (g:=λx=>[(⟨x.name,(x.args.length:Int)-1⟩:z3r)]) (B:=8000000) A (by
   rw[zuy,Ev.kz1 (by simp),wrk (by omega)];exact d) λi b s J d =>?_
  have:=ye1 (Qad b);have:=@z00b a.items[i];rw[zuy,Ev.zz2 (by simpa using b),Ev.yz2 (kz7 b),Ev.yz2 (kz7 b),ylq (by omega) (by omega) (by omega) (by omega),Ev.yz2 (z69 (by simp at J ⊢;omega)),wrk (by omega)];exact d
 rw[zun,Ev.yz2 (kz7 o),Ev.zz2 (by simpa using y),Ev.yz2 (kz7 o),Ev.yz2 (kz7 y),G];by_cases m:a.name=[]
 ·rw[Qbw m]at d b;have F:=z s (by simpa using b) (by simpa using d);have u:Ev (λn=>z6x n (k:Int) (j:Int) false a r s) ((yzd r).map toG):=by rw[ztc,Ev.kz1 (by rfl)];exact F
  rcases l.1 m with h|h
  ·rw[Ev.kz1 (by simp[h])];exact u
  ·rw[Ev.zz2 (by simp[h]),show(a.kind != 6)=false by simp[h]];exact u
 ·have w:a.kind≠5∧a.kind≠6:=⟨λh=>m (l.2 (.inl h)),λh=>m (l.2 (.inr h))⟩;rw[Ev.zz2 (by simp[w.1]),show(a.kind != 6)=true by simp[w.2],ztc,Ev.zz2 (by rfl),Ev.kz0 ykm,ylq (by omega) (by omega) C.1 C.2];rw[Qbx m]at d b;rw[Ev.yz2 (z69 (by simp at b ⊢;omega))];exact z _ (by simp at b ⊢;omega) d
def ysj{a:zz3}(h:z4u a=true):a.name=[]↔a.kind=5∨a.kind=6:=by
 have⟨g,e,b,_⟩:=zx4.1 h;by_cases d:a.kind<=4
 ·rw[Qbw d]at b;refine⟨λh =>?_,λh=>by omega⟩;rw[h,yku]at b;cases b
 ·rw[Qbx d]at b;exact⟨λ_=>by omega,λ_=>b⟩
def yr0{p:zz0}(h:zf4 p=true):∀r∈p.rules,∀c∈r.cases,∀a∈c.do_,z4u a=true:=λr b c d a e=>by
 unfold zf4 at h;have h:=Qat.1 (Bool.and_eq_true_iff.1 h).2 r b;unfold y2a at h;have h:=Qat.1 (Bool.and_eq_true_iff.1 (Bool.and_eq_true_iff.1 h).2).2 c d;unfold y8i at h;exact Qat.1 (Bool.and_eq_true_iff.1 (Bool.and_eq_true_iff.1 (Bool.and_eq_true_iff.1 h).2).2).2 a e
def zhm(a:zz3):kz6:=a.args++a.items.flatMap (·.args)
def zhs(c:yz5):kz6:=c.when_::c.do_.flatMap zhm
def zy8(r:kz3):kz6:=r.cases.flatMap zhs
def ygh(a:zz3):(zhm a).length<=a.size:=by
 have h:=zob (f:=kzb.size) (g:=λx:kzb=>x.args) (l:=a.items) λx _=>z00b
 have:=zcq a.args;rw[zz3.size_eq,zhm,Qap];omega
def y3s(c:yz5):(zhs c).length<=c.size:=by
 have h:=zob (f:=zz3.size) (g:=zhm) (l:=c.do_) λx _=>ygh x
 rw[yz5.size_eq,zhs,List.length_cons];omega
def ydl(r:kz3):(zy8 r).length<=r.size:=by
 have h:=zob (f:=yz5.size) (g:=zhs) (l:=r.cases) λx _=>y3s x
 rw[kz3.size_eq];unfold zy8;omega
def zv1{a:zz3}{e:yz1}(h:e∈zhm a):e.size<=a.size∧(a.wf->e.wf):=by
 rcases Qbb.1 h with h|h
 ·have:=y03 h;have:=@yl9 a;exact⟨by omega,λw=>wf_ae w h⟩
 ·have⟨x,b,d⟩:=List.mem_flatMap.1 h;have:=y03 d;have:=@ykd x;have:=ye1 b;exact⟨by omega,λw=>wf_xe (z05d w b) d⟩
def y3a{c:yz5}{e:yz1}(h:e∈zhs c):e.size<=c.size∧(c.wf->e.wf):=by
 rcases Qbl.1 h with h|h
 ·subst h;have:=@yl0 c;exact⟨by omega,z027⟩
 ·have⟨a,d,b⟩:=List.mem_flatMap.1 h;have:=zv1 b;have:=y1s d;exact⟨by omega,λw=>(zv1 b).2 (yvy w d)⟩
def yef{r:kz3}{e:yz1}(h:e∈zy8 r):e.size<=r.size∧(r.wf->e.wf):=by
 have⟨c,b,a⟩:=List.mem_flatMap.1 h;have:=y3a a;have:=zwf b;exact⟨by omega,λw=>(y3a a).2 (ywe w b)⟩
def ysd{r:kz3}(o:r.size<=8000000):Ev (λn=>zcy n r) (zy8 r):=by
 have hlen:=ydl r;have:=@zxs r;rw[yfk]
 refine zil (L:=λn k s=>z5n n k r.cases (r.cases.length:Int) s) (xs:=r.cases) (g:=zhs) (B:=8000000) (by show 0+(zy8 r).length<=_;omega) (by
  rw[zq9,Ev.kz1 (by simp),Ev.yz0];rfl) λk e s d b =>?_
 have:=zwf (Qad e);have:=@zxt r.cases[k];have m:s++zhs r.cases[k]=(s++[r.cases[k].when_])++r.cases[k].do_.flatMap zhm:=by simp[zhs]
 rw[m]at b;rw[zhs,List.length_cons]at d;rw[zq9,Ev.zz2 (by simpa using e),Ev.yz2 (kz7 e),yz1.kz4,Ev.yz2 (z69 (by simp only[Qap,List.length_cons,Qcb];omega))]
 refine zil (L:=λn j s=>z67 n j r.cases[k].do_ r.cases (r.cases.length:Int) (k:Int) (r.cases[k].do_.length:Int) s) (xs:=r.cases[k].do_) (g:=zhm) (B:=8000000) (by simp only[Qap,List.length_cons,Qcb];omega) (by
  rw[zr5,Ev.kz1 (by simp),wrk (by omega)];exact b) λj h s d b =>?_
 have:=y1s (Qad h);generalize l:r.cases[k].do_[j]=a at *;have:=@y4h a;rw[zhm,Qap]at d;rw[zhm,<-Qaz]at b;rw[zr5,Ev.zz2 (by simpa using h),Ev.yz2 (kz7 h),l,Ev.yz2 (z69 (by omega))]
 refine zil (L:=λn i s=>z5o n i a.items r.cases[k].do_ r.cases (r.cases.length:Int) (k:Int) (r.cases[k].do_.length:Int) (j:Int) (a.items.length:Int) s) (xs:=a.items) (g:=λx=>x.args) (B:=8000000) (by simp only[Qap,List.length_cons,Qcb];omega) (by
  rw[zqv,Ev.kz1 (by simp),wrk (by omega)];exact b) λi d s u b =>?_
 rw[zqv,Ev.zz2 (by simpa using d),Ev.yz2 (kz7 d),Ev.yz2 (z69 (by omega)),wrk (by omega)];exact b
def ypz{c:yz5}(m:c.size<=8000000):Ev (λn=>zcw n c) (zhs c):=by
 have hlen:=y3s c;have:=@zxt c;have k:zhs c=[c.when_]++c.do_.flatMap zhm:=by simp[zhs]
 rw[zhs,List.length_cons]at hlen;rw[yfp,yz5.kz4,yz1.kz4]
 refine zil (L:=λn j s=>z5q n j c s) (xs:=c.do_) (g:=zhm) (B:=8000000) (by simp only[Qap,List.length_cons,Qcb];omega) (by
  rw[zqa,Ev.kz1 (by simp),Ev.yz0,k]) λj h s e d =>?_
 have:=y1s (Qad h);have b:=kz7 h;generalize l:c.do_[j]=a at *;have:=@y4h a;rw[zhm,Qap]at e;rw[zhm,<-Qaz]at d;rw[zqa,Ev.zz2 (by simpa using h),Ev.yz2 b,Ev.yz2 (z69 (by omega)),yz5.kz4]
 refine zil (L:=λn i s=>z64 n i (j:Int) c s) (xs:=a.items) (g:=λx=>x.args) (B:=8000000) (by simp only[Qap,List.length_cons,Qcb];omega) (by
  rw[zra,Ev.yz2 b,Ev.kz1 (by simp),wrk (by omega),yz5.kz4];exact d) λi e s o d =>?_
 rw[zra,Ev.yz2 b,Ev.zz2 (by simpa using e),Ev.yz2 b,Ev.yz2 (kz7 e),Ev.yz2 (z69 (by omega)),wrk (by omega),yz5.kz4];exact d
def within(K:List B8)(e:yz1):Bool:=(zar e).1.all λs=>decide (s∈K)
def y36(e:yz1)(b:e.size<=8388608):(zar e).1.length<=8388608:=by
 unfold zar;split
 ·simp
 ·have a:=ykz e [];have d:=zu7 e;simp only[Qcb]at a;show(ztm e []).length<=_;omega
def y4q{e:yz1}{K:List B8}(a:e.size<=8388608)(g:K.length<=8388608):Ev (λn=>z9d n e K) (within K e):=by
 have i:=y36 e a;rw[ya7,yz1.kz4,Ev.kz0 (ysp a),<-ifB (within K e)];refine zck (L:=λn k=>z4b n k (zar e).1 K) (by rw[zoy,Ev.kz1 (by simp),Ev.yz0]) λk b v d =>?_
 rw[zoy,Ev.zz2 (by simpa using b),Ev.yz2 (kz7 b),Ev.kz0 (zxp g)];by_cases h:(zar e).1[k]∈K
 ·rw[Ev.kz1 (Qbr λq=>zfc.1 q h),Qbs h,wrk (by omega)];exact d
 ·rw[Ev.zz2 (Qbs (zfc.2 h)),Qbr h,Ev.yz0];rfl
def MK(m:List (B8×Bool))(K:List B8):Prop:=∀k,(z2u m k).getD false=decide (k∈K)
def zpx{α σ:Type}{L:Nat->Int->Option (Int×σ)}{l:List α}{p:α->Bool}{st:σ}
  (e:Ev (λn=>L n (l.length:Int)) (-1,st))
  (d:∀k (h:k<l.length) v,(p l[k]=true->Ev (λn=>L n (k:Int)) ((k:Int),st))∧(p l[k]=false->Ev (λn=>L n ((k+1:Nat):Int)) v->Ev (λn=>L n (k:Int)) v)) :
  ∃i:Int,Ev (λn=>L n 0) (i,st)∧decide (i>=0)=l.any p:=by
 have:∀k,k<=l.length->∃i:Int,Ev (λn=>L n (k:Int)) (i,st)∧decide (i>=0)=(l.drop k).any p :=
  down ⟨-1,e,by simp⟩ λk b ⟨i,j,g⟩=>by
   have⟨o,m⟩:=d k b (i,st)
   cases a:p l[k]with
   |true=>exact⟨k,o a,by rw[<-Qah (h:=b),List.any_cons,a];simp⟩
   |false=>exact⟨i,m a j,by rw[<-Qah (h:=b),List.any_cons,a,g];simp⟩
 simpa using this 0 (Qbu _)
def yg2{e:yz1}{m:List (B8×Bool)}{K:List B8}(o:MK m K)(h:e.wf)(d:e.size<=8388608):Ev (λn=>zc1 n e (mks m) (mvs m)) (!within K e,mks m,mvs m):=by
 have x:=y36 e d
 have⟨i,w,u⟩:=zpx (L:=λn k=>zze n k (zar e).1 ((zar e).1.length:Int) (mks m) (mvs m)) (l:=(zar e).1) (p:=λs => !decide (s∈K)) (st:=(mks m,mvs m))
  (by rw[z1n,Ev.kz1 (by simp),Ev.yz0,kz2]) λk a v=>by
   have g:Ev (λn=>zbb n (zar e).1[k] (mks m) (mvs m)) (!decide ((zar e).1[k]∈K),mks m,mvs m):=by
    rw[yb1,Ev.yz0,kz2,o]
   constructor
   ·intro b;rw[z1n,Ev.zz2 (by simpa using a),Ev.yz2 (kz7 a),kz2,Ev.kz0 g,Ev.zz2 b,Ev.yz0,kz2]
   ·intro b j;rw[z1n,Ev.zz2 (by simpa using a),Ev.yz2 (kz7 a),kz2,Ev.kz0 g,Ev.kz1 b,kz2,wrk (by omega)];exact j
 have r:Ev (λn=>yzl n (zar e).1 (mks m) (mvs m)) (!within K e,mks m,mvs m):=by
  rw[zfl,kz2,Ev.kz0 (by rw[zhi,kz2];exact w),Ev.yz0,u,kz2,within,<-List.not_all_eq_any_not]
 rw[yj4,yz1.kz4,Ev.kz0 (yek h d),kz2,Ev.kz0 r,Ev.yz0,kz2]
def yf7{l:kz6}{m:List (B8×Bool)}{K:List B8}(r:MK m K)(h:∀e∈l,e.wf)(o:∀e∈l,e.size<=8388608)(w:l.length<=8388608):Ev (λn=>kzi n l (mks m) (mvs m)) (!l.all (within K),mks m,mvs m):=by
 have⟨i,u,s⟩:=zpx (L:=λn k=>kzc n k l (l.length:Int) (mks m) (mvs m)) (l:=l) (p:=λe => !within K e) (st:=(mks m,mvs m))
  (by rw[z1e,Ev.kz1 (by simp),Ev.yz0,kz2]) λk a v=>by
   have d:=Qad a
   have g:Ev (λn=>zah n l[k] (mks m) (mvs m)) (!within K l[k],mks m,mvs m):=by
    rw[y6y,kz2,yz1.kz4,Ev.kz0 (yg2 r (h _ d) (o _ d)),Ev.yz0,kz2]
   constructor
   ·intro b;rw[z1e,Ev.zz2 (by simpa using a),Ev.yz2 (kz7 a),kz2,yz1.kz4,Ev.kz0 g,Ev.zz2 b,Ev.yz0,kz2]
   ·intro b j;rw[z1e,Ev.zz2 (by simpa using a),Ev.yz2 (kz7 a),kz2,yz1.kz4,Ev.kz0 g,Ev.kz1 b,kz2,wrk (by omega)];exact j
 rw[zex,kz2,Ev.kz0 (by rw[zgp,kz2];exact u),Ev.yz0,s,kz2,<-List.not_all_eq_any_not]
def yty{l:List B8}:(∃k,∃h:k<l.length,atI l l[k]<(k:Int))↔¬l.Nodup:=by
 constructor
 ·rintro ⟨k,m,h⟩ g
  have⟨i,n,e,d,_⟩:=y5h (Qad m);have:=(List.getElem_inj g).1 d;omega
 ·intro h;rw[List.nodup_iff_pairwise_ne,List.pairwise_iff_getElem]at h;simp only[Classical.not_forall]at h;have⟨i,j,n,b,r,h⟩:=h;have h:=Classical.not_not.1 h;refine⟨j,b,?_⟩;have⟨a,s,e,d,o⟩:=y5h (Qad b);rw[e];have:a<=i:=Nat.le_of_not_lt λq=>o i q (by rw[h])
  omega
def dup(l:List B8):Bool:=@decide (¬l.Nodup) (Classical.propDecidable _)
def yqi{l:List B8}:dup l=true↔¬l.Nodup:=@decide_eq_true_iff _ (Classical.propDecidable _)
def yw4{l:List B8}:dup l=false↔l.Nodup:=by rw[<-Bool.not_eq_true,yqi,Classical.not_not]
def ye3{γ:Type}{L:Nat->Int->Option γ}{l:List B8}{t f:γ}(u:Ev (λn=>L n (l.length:Int)) f)
  (o:∀k (h:k<l.length) v,Ev (λn=>L n ((k+1:Nat):Int)) v->Ev (λn=>L n (k:Int)) (if decide (atI l l[k]<(k:Int))=true then t else v)):Ev (λn=>L n 0) (if dup l=true then t else f):=by
 have:∀k,k<=l.length->∀b:Bool,(b=true↔∃j,k<=j∧∃h:j<l.length,atI l l[j]<(j:Int))->Ev (λn=>L n (k:Int)) (if b=true then t else f) :=
  down (λb a=>by
   rw[Qbx λh=>by have⟨j,s,d,_⟩:=a.1 h;omega];exact u) λk g m b a=>by
   by_cases h:atI l l[k]<(k:Int)
   ·rw[Qbw (a.2 ⟨k,Qbv _,g,h⟩)];have:=o k g _ (m (@decide _ (Classical.propDecidable _)) (@decide_eq_true_iff _ (Classical.propDecidable _)));rwa[Qbw (Qbs h)]at this
   ·have i:b=true↔∃j,k+1<=j∧∃h:j<l.length,atI l l[j]<(j:Int):=by
     rw[a];constructor
     ·rintro ⟨j,s,d,r⟩
      refine⟨j,?_,d,r⟩
      rcases Nat.lt_or_ge k j with q|q
      ·exact q
      ·have e:j=k:=by omega
       subst e;exact(h r).elim
     ·rintro ⟨j,s,d⟩
      exact⟨j,by omega,d⟩
    have:=o k g _ (m b i);rwa[Qbx (by simpa using h)]at this
 have:=this 0 (Qbu _) (dup l) (by rw[yqi,<-yty];exact⟨λ⟨k,h⟩=>⟨k,Qbu _,h⟩,λ⟨k,_,h⟩=>⟨k,h⟩⟩);simpa using this
def y8z{l:List B8}(d:l.length<=8388608):Ev (λn=>zaq n l) (dup l):=by
 rw[ydi,<-ifB (dup l)];refine ye3 (L:=λn k=>z5w n k l) (by rw[zr0,Ev.kz1 (by simp),Ev.yz0]) λk a v b =>?_
 rw[zr0,Ev.zz2 (by simpa using a),Ev.yz2 (kz7 a),Ev.kz0 (zxp d),wrk (by omega),Ev.pif,Ev.yz0];split
 ·rfl
 ·exact b
def yy6{l:List B8}{s:B8}(u:l.length<=8388608):Ev (λn=>zdd n s l) (atI l s,l):=by
 have h:=ygy (L:=λn k=>(kzw n k s l).map Prod.fst) (l:=l) (s:=s) (p:=λx=>x==s) (λx=>by simp) u λn k=>by
  show(kzw (n+1) k s l).map Prod.fst=_;rw[kzw.eq_2];cases decide (k<(l.length:Int))
  ·rfl
  ·cases b:ix l k with
   |none=>rfl
   |some x=>show(pIf (x==s) _ _).map Prod.fst=pIf (x==s) _ _;cases (x==s) <;> rfl
 have w:∀n k r,kzw n k s l=some r->r.2=l:=λn=>by
  induction n with
  |zero=>intro k r a;cases a
  |succ n d=>
   intro k r a;rw[kzw.eq_2]at a;cases o:decide (k<(l.length:Int)) <;> rw[o]at a
   ·injection a with a;rw[<-a]
   ·cases b:ix l k with
    |none=>rw[b]at a;cases a
    |some x=>
     rw[b]at a;change pIf (x==s) _ _=_ at a;cases g:(x==s) <;> rw[g]at a
     ·exact d _ _ a
     ·injection a with a;rw[<-a]
 rw[ydx];have⟨n,i⟩:=h;refine⟨n,λm j =>?_⟩;have:=i m j;change (kzw m 0 s l).map Prod.fst=_ at this;show kzw m 0 s l=_
 cases a:kzw m 0 s l with
 |none=>rw[a]at this;cases this
 |some r=>
  rw[a]at this;injection this with this;have e:=w _ _ _ a;have⟨z,y⟩:=r;simp only at this e;rw[this,e]
def ylg{l:List B8}(d:l.length<=8388608):Ev (λn=>z8t n l) (dup l,l):=by
 have e:(dup l,l)=if dup l=true then (true,l)else (false,l):=by cases dup l <;> rfl
 rw[y4v,e];refine ye3 (L:=λn k=>z1t n k l) (by rw[zmb,Ev.kz1 (by simp),Ev.yz0]) λk a v b =>?_
 rw[zmb,Ev.zz2 (by simpa using a),Ev.yz2 (kz7 a),Ev.kz0 (yy6 d),wrk (by omega),Ev.pif,Ev.yz0];split
 ·rfl
 ·exact b
def yp5(p:zz0):Bool:=dup (kz8 p)||(dup (zz4 p)||p.rules.any λr=>dup (r.params++kz8 p))
def yic{p:zz0}(h:p.size<=4000000):Ev (λn=>zac n p) (yp5 p):=by
 have:=@zl0 p;have:=@zfw p;have j:(kz8 p).length=p.attrs.length:=by simp[kz8]
 have i:(zz4 p).length=p.rules.length:=by simp[zz4]
 have e:Ev (λn=>z1c n 0 p) (if (p.rules.any λr=>dup (r.params++kz8 p))=true then true else false):=by
  refine zly (L:=λn k=>z1c n k p) (by rw[zmx,Ev.kz1 (by simp),Ev.yz0]) λk a v g =>?_
  have:=zn2 (Qad a);have:=@y2k p.rules[k];rw[zmx,Ev.zz2 (by simpa using a),Ev.yz2 (kz7 a),Ev.yz2 (z69 (by simp only[Qap,List.length_cons,Qcb];omega)),List.nil_append,Ev.kz0 (zx2 (by omega)),Ev.yz2 (z69 (by omega)),Ev.kz0 (ylg (by rw[Qap];omega)),wrk (by omega),Ev.pif,Ev.yz0];split
  ·rfl
  ·exact g
 have d:∀b,Ev (λn=>z2v n b p) (b||p.rules.any λr=>dup (r.params++kz8 p)):=λb=>by
  cases b
  ·rw[zmz,Ev.kz1 (by rfl),ifB]at *;exact e
  ·rw[zmz,Ev.zz2 (by rfl),Ev.yz0];rfl
 rw[y73,Ev.kz0 (zx2 (by omega)),Ev.kz0 (y8z (by omega)),yp5];cases dup (kz8 p)
 ·rw[Ev.kz1 (by rfl),Ev.kz0 (zxa (by omega)),Ev.kz0 (y8z (by omega))];exact d _
 ·rw[Ev.zz2 (by rfl)];exact d true
def kA:List B8->zz7->Bool
 |_,[]=>true
 |pre,t::l=>within pre t.value&&kA (pre++[t.name]) l
def scope(p:zz0)(r:kz3):List B8:=([[115,120],[115,121],[115,122]]++kz8 p)++r.params
def kR(p:zz0)(r:kz3):Bool:=(zy8 r).all (within (scope p r))&&(yzd r).all λc=>decide (c.1∈zz4 p)
def y88(p:zz0):Bool:=kA [] p.attrs&&p.rules.all (kR p)
def yxr(p:zz0)(s:B8):Int:=match p.rules[(atI (zz4 p) s).toNat]? with
 |some r=>r.params.length
 |none => -1
def zml(p:zz0)(r:kz3):Bool:=(yzd r).any λc=>decide (c.1∈zz4 p)&&(c.2 != yxr p c.1)
def yg9(p:zz0):Bool:=p.rules.any (zml p)
def zb6(p:zz0):Int:=if y64 p=true then 4 else if zf4 p=true then (if yp5 p=true then 14 else if y88 p=true then (if yg9 p=true then 2 else 0)else 6)else 8
def zja{p:zz0}{k:Nat}(h:k<p.attrs.length):(kz8 p).take (k+1)=(kz8 p).take k++[p.attrs[k].name]:=by
 rw[List.take_add_one];simp only[kz8,Qan,Qab h,Qbq,Option.toList_some]
def zx5{p:zz0}{k:Nat}(h:k<p.rules.length):(zz4 p).take (k+1)=(zz4 p).take k++[p.rules[k].name]:=by
 rw[List.take_add_one];simp only[zz4,Qan,Qab h,Qbq,Option.toList_some]
def z01u{α:Type}{l:List α}{k:Nat}(h:k<=l.length):sub l 0 (k:Int)=some (l.take k):=by
 unfold sub;rw[Qbw (by omega)];simp
def yxl(p:zz0)(r:kz3):(scope p r).length=3+p.attrs.length+r.params.length:=by simp[scope,kz8];omega
def ybk{p:zz0}{s:B8}(h:s∈zz4 p):∃i:Nat,∃b:i<p.rules.length,atI (zz4 p) s=(i:Int)∧p.rules[i].name=s∧yxr p s=(p.rules[i].params.length:Int):=by
 have⟨i,b,d,e,_⟩:=y5h h;have a:i<p.rules.length:=by simpa[zz4]using b
 refine⟨i,a,d,by simpa[zz4]using e,?_⟩;unfold yxr;rw[d,Int.toNat_natCast,Qab a]
def yr3{p:zz0}(I:p.size<=4000000)(C:zf4 p=true):Ev (λn=>zd8 n p) (y88 p):=by
 have:=@zl0 p;have:=@zfw p;have o:(kz8 p).length=p.attrs.length:=by simp[kz8]
 have J:(zz4 p).length=p.rules.length:=by simp[zz4]
 have x:Ev (λn=>z3c n 0 (kz8 p) p) (if p.rules.all (kR p)=true then true else false):=by
  refine zck (L:=λn k=>z3c n k (kz8 p) p) (by rw[zqg,Ev.kz1 (by simp),Ev.yz0]) λk b v A =>?_
  have e:=Qad b;have:=zn2 e;have:=@y2k p.rules[k];have:=@zxs p.rules[k];have E:=yxl p p.rules[k];have G:=zl8 p.rules[k]
  have r:Ev (λn=>z3a n 0 ((yzd p.rules[k]).map toG) (kz8 p) (k:Int) p) (if ((yzd p.rules[k]).all λc=>decide (c.1∈zz4 p))=true then v else false):=by
   refine zck (L:=λn j=>z3a n j ((yzd p.rules[k]).map toG) (kz8 p) (k:Int) p) (by rw[zqj,Ev.kz1 (by simp),wrk (by omega)];exact A) λj d w g =>?_
   have m:j<((yzd p.rules[k]).map toG).length:=by simpa using d
   rw[zqj,Ev.zz2 (by simpa using d),Ev.kz0 (zxa (by omega)),Ev.yz2 (kz7 m),List.getElem_map,Ev.kz0 (zxp (by omega))];show Ev (λn=>pIf (decide (atI (zz4 p) (yzd p.rules[k])[j].1<0)) _ _) _;by_cases h:(yzd p.rules[k])[j].1∈zz4 p
   ·rw[Ev.kz1 (Qbr λq=>zfc.1 q h),Qbs h,wrk (by omega)];exact g
   ·rw[Ev.zz2 (Qbs (zfc.2 h)),Qbr h,Ev.yz0];rfl
  have s:Ev (λn=>z32 n (scope p p.rules[k]) 0 (kz8 p) (k:Int) p.rules[k] p) (if (p.rules[k].cases.all λc=>(zhs c).all (within (scope p p.rules[k])))=true then (if ((yzd p.rules[k]).all λc=>decide (c.1∈zz4 p))=true then v else false)else false):=by
   refine zck (L:=λn j=>z32 n (scope p p.rules[k]) j (kz8 p) (k:Int) p.rules[k] p) (by rw[zr3,Ev.kz1 (by simp),Ev.kz0 (ygj (by omega) λc D a o=>ysj (yr0 C _ e c D a o))];exact r) λj d w g =>?_
   have:=zwf (Qad d);have F:=y3s p.rules[k].cases[j];rw[zr3,Ev.zz2 (by simpa using d),Ev.yz2 (kz7 d),yz5.kz4,Ev.kz0 (ypz (by omega))];refine zck (L:=λn i=>z5i n i (scope p p.rules[k]) (zhs p.rules[k].cases[j]) (kz8 p) (k:Int) (j:Int) p.rules[k] p) (by rw[zr4,Ev.kz1 (by simp),wrk (by omega)];exact g) λi l u B =>?_
   have:=(y3a (Qad l)).1;rw[zr4,Ev.zz2 (by simpa using l),Ev.yz2 (kz7 l),yz1.kz4,Ev.kz0 (y4q (by omega) (by omega))];cases within (scope p p.rules[k]) (zhs p.rules[k].cases[j])[i]
   ·rw[Ev.zz2 (by rfl),Ev.yz0];rfl
   ·rw[Ev.kz1 (by rfl),wrk (by omega)];exact B
  rw[zqg,Ev.zz2 (by simpa using b),Ev.yz2 (kz7 b),Ev.yz2 (z69 (by simp only[List.length_cons,Qcb];omega)),Ev.yz2 (z69 (by simp only[Qap,List.length_cons,Qcb];omega)),kR,ifA,zy8,List.all_flatMap];exact s
 have y:∀k,k<=p.attrs.length->Ev (λn=>z55 n (k:Int) (kz8 p) p) (if kA ((kz8 p).take k) (p.attrs.drop k)=true then p.rules.all (kR p)else false) :=
  down (by
   rw[zrm,Ev.kz1 (by simp),List.drop_length,kA,Qbw rfl,<-ifB (p.rules.all (kR p))];exact x) λk b z=>by
   have e:=Qad b;have:=y2o e;have:=@y2b p.attrs[k];rw[zrm,Ev.zz2 (by simpa using b),Ev.yz2 (kz7 b),Ev.yz2 (z01u (by omega)),yz1.kz4,Ev.kz0 (y4q (by omega) (by simp;omega)),<-Qah (h:=b),kA,ifA];cases within ((kz8 p).take k) p.attrs[k].value
   ·rw[Ev.zz2 (by rfl),Ev.yz0];rfl
   ·rw[Ev.kz1 (by rfl),wrk (by omega),Qbw rfl,<-zja b];exact z
 have:=y 0 (Qbu _);rw[ycy,Ev.kz0 (zx2 (by omega)),y88];refine Ev.to this ?_;rw[List.drop_zero,List.take_zero];cases kA [] p.attrs <;> rfl
def yra{p:zz0}(g:p.wf)(r:p.size<=4000000):Ev (λn=>zcx n p) (zb6 p):=by
 have:=@zfw p;have C:(zz4 p).length=p.rules.length:=by simp[zz4]
 rw[ydr,Ev.kz0 (yup (by omega)),zb6];cases y64 p
 case true=>rw[Ev.zz2 (by rfl),Ev.yz0];rfl
 rw[Ev.kz1 (by rfl),Ev.kz0 (ymp g (by omega)),Qbx (by simp)];cases s:zf4 p
 case false=>rw[Ev.zz2 (by rfl),Ev.yz0];rfl
 rw[Ev.kz1 (by rfl),Ev.kz0 (yic r),Qbw rfl];cases yp5 p
 case true=>rw[Ev.zz2 (by rfl),Ev.yz0];rfl
 rw[Ev.kz1 (by rfl),Ev.kz0 (yr3 r s),Qbx (by simp)];cases b:y88 p
 case false=>rw[Ev.zz2 (by rfl),Ev.yz0];rfl
 rw[Ev.kz1 (by rfl),Qbw rfl];have m:=Qat.1 (Bool.and_eq_true_iff.1 b).2;refine zly (L:=λn k=>z5r n k p) (by rw[zqo,Ev.kz1 (by simp),Ev.yz0]) λk b v u =>?_
 have h:=Qad b;have:=zn2 h;have B:=zl8 p.rules[k];have o:=Qat.1 (Bool.and_eq_true_iff.1 (m _ h)).2;rw[zqo,Ev.zz2 (by simpa using b),Ev.yz2 (kz7 b),Ev.kz0 (ygj (by omega) λc e a y=>ysj (yr0 s _ h c e a y))];refine zly (L:=λn j=>z5k n j ((yzd p.rules[k]).map toG) (k:Int) p) (by rw[zqu,Ev.kz1 (by simp),wrk (by omega)];exact u) λj l w g =>?_
 have d:j<((yzd p.rules[k]).map toG).length:=by simpa using l
 have e:=o _ (Qad l);have⟨i,x,A,D,z⟩:=ybk (Qac e);rw[zqu,Ev.zz2 (by simpa using l),Ev.yz2 (kz7 d),Ev.kz0 (zxa (by omega)),Ev.yz2 (kz7 d),List.getElem_map,Ev.kz0 (zxp (by omega))];show Ev (λn=>(ix p.rules (atI (zz4 p) (yzd p.rules[k])[j].1)).bind _) _;rw[A,Ev.yz2 (kz7 x),e,z,Bool.true_and,wrk (by omega)]
 show Ev (λn=>pIf ((yzd p.rules[k])[j].2 != (p.rules[i].params.length:Int)) _ _) _;cases (yzd p.rules[k])[j].2 != (p.rules[i].params.length:Int)
 ·rw[Ev.kz1 rfl];exact g
 ·rw[Ev.zz2 rfl,Ev.yz0];rfl
section
variable {T:Type}
def znw(q:B8×T)(m:List (B8×T))(k:B8):z2u (q::m) k=if k=q.1 then some q.2 else z2u m k:=by
 unfold z2u;rw[List.find?_cons];by_cases h:k=q.1
 ·simp[h]
 ·have:(k==q.1)=false:=by simpa using h
  rw[this,Qbx h]
def ykq(q:B8×T)(m:List (B8×T))(k:B8)(x:T):z6n (q::m) k x=if k=q.1 then (k,x)::m else q::z6n m k x:=by
 unfold z6n;rw[List.findIdx?_cons];by_cases h:k=q.1
 ·simp[h]
 ·have:(k==q.1)=false:=by simpa using h
  rw[this,Qbx h];simp only[Bool.false_eq_true,if_false];cases List.findIdx? (λp=>k==p.1) m <;> simp
def y4z(m:List (B8×T))(k b:B8)(x:T):z2u (z6n m k x) b=if b=k then some x else z2u m b:=by
 induction m with
 |nil=>show z2u [(k,x)] b=_;rw[znw]
 |cons q m d=>
  rw[ykq];by_cases h:k=q.1
  ·rw[Qbw h,znw,znw];by_cases a:b=k
   ·simp[a]
   ·rw[Qbx a,Qbx a,Qbx (λz=>a (z.trans h.symm))]
  ·rw[Qbx h,znw,d,znw];by_cases a:b=q.1
   ·rw[Qbw a,Qbw a,Qbx (λz=>h (z.symm.trans a))]
   ·rw[Qbx a,Qbx a]
def y0d{m:List (B8×T)}{k:B8}:z2u m k=none↔k∉mks m:=by
 induction m with
 |nil=>simp[z2u,mks]
 |cons q m a=>
  rw[znw];show _↔k∉q.1::mks m;by_cases h:k=q.1
  ·simp[h]
  ·rw[Qbx h,a];simp[h]
end
def ywb{T:Type}:∀{es:List (B8×T)}{i:Nat}(h:i<es.length) (s:B8),s∈mks es↔s=es[i].1∨s∈mks (es.eraseIdx i)
 |[],_,h,_=>by cases h
 |q::es,0,_,s=>by show s∈q.1::mks es↔_;rw[Qbl];exact Iff.rfl
 |q::es,i+1,h,s=>by
  show s∈q.1::mks es↔s=(es[i]'(by simpa using h)).1∨s∈q.1::mks (es.eraseIdx i);rw[Qbl,Qbl,ywb (es:=es) (i:=i) (by simpa using h) s];exact or_left_comm
def TM(m:List (B8×Bool))(K:List B8):Prop:=∀k,z2u m k=if k∈K then some true else none
def TM.mk{m:List (B8×Bool)}{K:List B8}(h:TM m K):MK m K:=λk=>by
 rw[h k];by_cases q:k∈K <;> simp[q]
def TM.nil:TM [] []:=λk=>by simp[z2u]
def TM.put{m:List (B8×Bool)}{K:List B8}(h:TM m K)(s:B8):TM (z6n m s true) (K++[s]):=λk=>by
 rw[y4z,h k];by_cases q:k=s <;> simp[q]
def TM.keys{m:List (B8×Bool)}{K:List B8}(h:TM m K)(s:B8):s∈mks m↔s∈K:=by
 have:=h s;by_cases q:s∈K
 ·rw[Qbw q]at this;exact⟨λ_=>q,λ_=>Classical.byContradiction λz=>by rw[y0d.2 z]at this;cases this⟩
 ·rw[Qbx q]at this;exact⟨λz=>(y0d.1 this z).elim,λz=>(q z).elim⟩
def MK.put{m:List (B8×Bool)}{K:List B8}(h:MK m K)(s:B8):MK (z6n m s true) (K++[s]):=λk=>by
 rw[y4z];by_cases q:k=s
 ·simp[q]
 ·rw[Qbx q,h k];simp[q]
def MK.ext{m:List (B8×Bool)}{K J:List B8}(h:MK m K)(e:∀s,s∈K↔s∈J):MK m J:=λk=>by rw[h k];exact decide_eq_decide.2 (e k)
def RM(m:List (B8×Int))(K:List B8):Prop:=∀k,z2u m k=if k∈K then some (atI K k)else none
def RM.nil:RM [] []:=λk=>by simp[z2u]
def z03w{K:List B8}{s:B8}(h:s∉K)(k:B8):atI (K++[s]) k=if k=s then (K.length:Int)else atI K k:=by
 induction K with
 |nil=>show atI [s] k=_;rw[zo0];by_cases q:s=k
       ·simp[q]
       ·rw[Qbx q,Qbx (Ne.symm q)];simp[atI]
 |cons x K a=>
  have b:x≠s:=λe=>h (by rw[e];exact Qak)
  have:=a λz=>h (Qai _ z)
  rw[List.cons_append,zo0,zo0,this];by_cases q:k=s
  ·subst q;rw[Qbx b,Qbw rfl,Qbw rfl,Qbx (by omega)];simp
  ·simp only[Qbx q]
def RM.put{m:List (B8×Int)}{K:List B8}(h:RM m K){s:B8}(a:s∉K):RM (z6n m s (K.length:Int)) (K++[s]):=λk=>by
 rw[y4z,h k,z03w a];by_cases q:k=s
 ·simp[q]
 ·simp[q]
def Ev.pick{α R:Type}{es:List (B8×α)}{f:Nat->B8->α->List (B8×α)->Option R}{g:Nat->Option R}{r:R}
  (x:es=[]->Ev g r) (w:∀i (h:i<es.length),Ev (λn=>f n es[i].1 es[i].2 (es.eraseIdx i)) r):Ev (λn=>y8j es (f n) (g n)) r:=by
 have o:∃N,∀m,N<=m->(es=[]->g m=some r):=by
  by_cases j:es=[]
  ·have⟨N,a⟩:=x j;exact⟨N,λm d _=>a m d⟩
  ·exact⟨0,λ_ _ h=>(j h).elim⟩
 have u:∀k,k<=es.length->∃N,∀m,N<=m->∀i (h:i<es.length),i<k->f m es[i].1 es[i].2 (es.eraseIdx i)=some r:=λk=>by
  induction k with
  |zero=>intro _;exact⟨0,λ_ _ _ _ h=>by omega⟩
  |succ k l=>
   intro z;have⟨N,a⟩:=l (by omega);have⟨M,e⟩:=w k (by omega);refine⟨max N M,λm d i b y =>?_⟩;by_cases h:i=k
   ·subst h;exact e m (by omega)
   ·exact a m (by omega) i b (by omega)
 have⟨N,a⟩:=o;have⟨M,e⟩:=u es.length (Qbv _);refine⟨max N M,λm d=>z02o (a m (by omega)) λi p s =>?_⟩;obtain⟨b,rfl⟩:=Qaa.1 s;exact e m (by omega) i b b
def z019{γ:Type}{L:Nat->Int->Option γ}{len:Nat}{p:Nat->Bool}{got r:γ}{b:Bool}(a:b=true↔∃j,j<len∧p j=true)
  (u:Ev (λn=>L n (len:Int)) r)
  (o:∀k (h:k<len) v,Ev (λn=>L n ((k+1:Nat):Int)) v->Ev (λn=>L n (k:Int)) (if p k=true then got else v)):Ev (λn=>L n 0) (if b=true then got else r):=by
 have:∀k,k<=len->∀b:Bool,(b=true↔∃j,k<=j∧j<len∧p j=true)->Ev (λn=>L n (k:Int)) (if b=true then got else r) :=
  down (λb a=>by rw[Qbx λh=>by have⟨j,s,d,_⟩:=a.1 h;omega];exact u) λk g m b a=>by
   cases h:p k with
   |true=>
    rw[Qbw (a.2 ⟨k,Qbv _,g,h⟩)];have:=o k g _ (m (@decide _ (Classical.propDecidable _)) (@decide_eq_true_iff _ (Classical.propDecidable _)))
    rwa[Qbw h]at this
   |false=>
    have l:b=true↔∃j,k+1<=j∧j<len∧p j=true:=by
     rw[a];constructor
     ·rintro ⟨j,s,d,i⟩
      refine⟨j,?_,d,i⟩
      rcases Nat.lt_or_ge k j with q|q
      ·exact q
      ·have e:j=k:=by omega
       subst e;rw[h]at i;cases i
     ·rintro ⟨j,s,d⟩
      exact⟨j,by omega,d⟩
    have:=o k g _ (m b l);rwa[Qbx (by simp[h])]at this
 have:=this 0 (Qbu _) b (by rw[a];exact⟨λ⟨j,h⟩=>⟨j,Qbu _,h⟩,λ⟨j,_,h⟩=>⟨j,h⟩⟩);simpa using this
def ywp(p:zz0)(r:kz3)(k:Nat):Bool:=if h:k<r.params.length then decide (r.params[k]∈kz8 p)||decide (atI r.params r.params[k]<(k:Int))else false
def yxv(p:zz0)(r:kz3):Bool:=dup (r.params++kz8 p)
def z026{p:zz0}{r:kz3}(n:(kz8 p).Nodup):yxv p r=true↔∃j,j<r.params.length∧ywp p r j=true:=by
 unfold yxv;rw[yqi,List.nodup_append];constructor
 ·intro h;by_cases l:r.params.Nodup
  ·have:¬∀a∈r.params,∀b∈kz8 p,a≠b:=λz=>h ⟨l,n,z⟩
   simp only[Classical.not_forall,Classical.not_not]at this;have⟨a,i,b,o,g⟩:=this;have⟨j,d,e⟩:=List.mem_iff_getElem.1 i;refine⟨j,d,?_⟩;unfold ywp;rw[dif_pos d,e,g,Qbs o];rfl
  ·have⟨k,m,h⟩:=yty.2 l;refine⟨k,m,?_⟩;unfold ywp;rw[dif_pos m,Qbs h,Bool.or_true]
 ·rintro ⟨j,d,h⟩ ⟨i,_,g⟩
  unfold ywp at h;rw[dif_pos d,Bool.or_eq_true]at h
  rcases h with h|h
  ·exact g _ (Qad d) _ (Qac h) rfl
  ·exact(yty.1 ⟨j,d,Qac h⟩) i
def ygw{l:List B8}{k:Nat}(h:l.Nodup):(l.take k).Nodup:=h.sublist (List.take_sublist k l)
def yth{p:zz0}(O:p.wf)(W:p.size<=4000000){m:List (B8×Bool)}{a:List (B8×Int)}(Q:TM m (kz8 p))(G:RM a (zz4 p))(u:Bool) :
  Ev (λn=>z36 n false 0 u (mks m) (mvs m) p.rules (p.rules.length:Int) p (mks a) (mvs a)) (if (u || !p.rules.all (kR p))=true then 6 else if yg9 p=true then 2 else 0):=by
 have:=@zl0 p;have:=@zfw p;have P:(zz4 p).length=p.rules.length:=by simp[zz4]
 have main:∀k,k<=p.rules.length->∀w u:Bool,Ev (λn=>z36 n w (k:Int) u (mks m) (mvs m) p.rules (p.rules.length:Int) p (mks a) (mvs a)) (if (u || !(p.rules.drop k).all (kR p))=true then 6 else if (w||(p.rules.drop k).any (zml p))=true then 2 else 0) :=
  down (λw u=>by
   rw[zqd,Ev.kz1 (by simp),List.drop_length,Ev.pif,Ev.pif,Ev.yz0,Ev.yz0,Ev.yz0]
   cases u <;> cases w <;> simp) λk C N w u=>by
   have r:=Qad C;have:=zn2 r;have F:=yro O r;have:=@y2k p.rules[k];have H:=zl8 p.rules[k];have Z:=ydl p.rules[k]
   have J:∀u:Bool,Ev (λn=>z5y n w u (mks m) (mvs m) p.rules (p.rules.length:Int) (k:Int) p (mks a) (mvs a) p.rules[k]) (if ((u || !(yzd p.rules[k]).all λc=>decide (c.1∈zz4 p)) || !(p.rules.drop (k+1)).all (kR p))=true then 6 else if ((w||zml p p.rules[k])||(p.rules.drop (k+1)).any (zml p))=true then 2 else 0):=λu=>by
    have hT:((yzd p.rules[k]).map toT).length=(yzd p.rules[k]).length:=by simp
    rw[y61,Ev.kz0 (y8k (by omega)),kz2,kz2]
    have loop:∀j,j<=(yzd p.rules[k]).length->∀w u:Bool,Ev (λn=>z66 n (j:Int) w u ((yzd p.rules[k]).map toT) (mks m) (mvs m) p.rules (p.rules.length:Int) (k:Int) (((yzd p.rules[k]).map toT).length:Int) p (mks a) (mvs a)) (if ((u || !((yzd p.rules[k]).drop j).all λc=>decide (c.1∈zz4 p)) || !(p.rules.drop (k+1)).all (kR p))=true then 6 else if ((w||((yzd p.rules[k]).drop j).any λc=>decide (c.1∈zz4 p)&&(c.2 != yxr p c.1))||(p.rules.drop (k+1)).any (zml p))=true then 2 else 0) :=
     down (λw u=>by
      rw[zr7,Ev.kz1 (by simp),wrk (by omega),kz2,kz2,List.drop_length]
      simpa using N w u) λj x z w u=>by
      have I:j<((yzd p.rules[k]).map toT).length:=by simpa using x
      have y:∀w u:Bool,Ev (λn=>z1r n w u ((yzd p.rules[k]).map toT) (mks m) (mvs m) p.rules (p.rules.length:Int) (k:Int) (((yzd p.rules[k]).map toT).length:Int) (j:Int) p (mks a) (mvs a)) _:=λw u=>by
       rw[y4c,wrk (by omega),kz2,kz2];exact z w u
      have g:=G (yzd p.rules[k])[j].1
      have B:∀u:Bool,Ev (λn=>z3v n u ((yzd p.rules[k]).map toT) (mks m) (mvs m) p.rules (p.rules.length:Int) (k:Int) (((yzd p.rules[k]).map toT).length:Int) (j:Int) (Option.getD (z2u a (yzd p.rules[k])[j].1) 0) (Option.isSome (z2u a (yzd p.rules[k])[j].1)) w p (mks a) (mvs a) (toT (yzd p.rules[k])[j])) (if ((u || !((yzd p.rules[k]).drop (j+1)).all λc=>decide (c.1∈zz4 p)) || !(p.rules.drop (k+1)).all (kR p))=true then 6 else if (((w||(decide ((yzd p.rules[k])[j].1∈zz4 p)&&((yzd p.rules[k])[j].2 != yxr p (yzd p.rules[k])[j].1)))||((yzd p.rules[k]).drop (j+1)).any λc=>decide (c.1∈zz4 p)&&(c.2 != yxr p c.1))||(p.rules.drop (k+1)).any (zml p))=true then 2 else 0):=λu=>by
       rw[y42,kz2,kz2]
       cases w with
       |true=>rw[Ev.zz2 rfl,Bool.true_or];exact y true u
       |false=>
        rw[Ev.kz1 rfl,Bool.false_or];by_cases b:(yzd p.rules[k])[j].1∈zz4 p
        ·have⟨i,A,U,h2,R⟩:=ybk b;rw[g,Qbw b,Qbs b,Bool.true_and,R,U];show Ev (λn=>pIf true ((ix p.rules (i:Int)).bind _) _) _;rw[Ev.zz2 rfl,Ev.yz2 (kz7 A)];exact y _ u
        ·rw[g,Qbx b,Qbr b,Bool.false_and];show Ev (λn=>pIf false _ _) _;rw[Ev.kz1 rfl];exact y false u
      rw[zr7,Ev.zz2 (by simpa using x),Ev.yz2 (kz7 I),List.getElem_map,kz2,kz2,<-Qah (h:=x),List.all_cons,List.any_cons]
      cases u with
      |true=>rw[Ev.zz2 rfl];exact(B true).to (by simp)
      |false=>
       rw[Ev.kz1 rfl]
       have e:Option.isSome (z2u a (toT (yzd p.rules[k])[j]).name)=decide ((yzd p.rules[k])[j].1∈zz4 p):=by
        show Option.isSome (z2u a (yzd p.rules[k])[j].1)=_;rw[g];by_cases q:(yzd p.rules[k])[j].1∈zz4 p <;> simp[q]
       have:=B (!decide ((yzd p.rules[k])[j].1∈zz4 p));have Y:Option.isSome (z2u a (yzd p.rules[k])[j].1)=decide ((yzd p.rules[k])[j].1∈zz4 p):=e;rw[Y]at this;rw[Bool.false_or,e];exact this.to (by rw[Bool.not_and,Bool.or_assoc w])
    have:=loop 0 (Qbu _) w u;rw[List.drop_zero]at this;exact this
   have L:∀d,MK d ([[115,120],[115,121],[115,122]]++kz8 p)->Ev (λn=>z39 n 0 p.rules[k].params w (mks m) (mvs m) p.rules (p.rules.length:Int) (k:Int) u (p.rules[k].params.length:Int) p (mks a) (mvs a) p.rules[k] (mks d) (mvs d)) (if ((u || !kR p p.rules[k]) || !(p.rules.drop (k+1)).all (kR p))=true then 6 else if ((w||zml p p.rules[k])||(p.rules.drop (k+1)).any (zml p))=true then 2 else 0):=λd o=>by
    have loop:∀j,j<=p.rules[k].params.length->∀d,MK d (([[115,120],[115,121],[115,122]]++kz8 p)++p.rules[k].params.take j)->Ev (λn=>z39 n (j:Int) p.rules[k].params w (mks m) (mvs m) p.rules (p.rules.length:Int) (k:Int) u (p.rules[k].params.length:Int) p (mks a) (mvs a) p.rules[k] (mks d) (mvs d)) (if ((u || !kR p p.rules[k]) || !(p.rules.drop (k+1)).all (kR p))=true then 6 else if ((w||zml p p.rules[k])||(p.rules.drop (k+1)).any (zml p))=true then 2 else 0) :=
     down (λd o=>by
      rw[List.take_length]at o;rw[zqz,Ev.kz1 (by simp),kz2,kz2,kz2]
      cases u with
      |true=>rw[Ev.zz2 rfl];have:=J true;simpa using this
      |false=>
       rw[Ev.kz1 rfl,Ev.kz0 (ysd (by omega)),Ev.kz0 (yf7 (K:=scope p p.rules[k]) o (λe l=>(yef l).2 F) (λe l=>by have:=(yef l).1;omega) (by omega))];have:=J (!(zy8 p.rules[k]).all (within (scope p p.rules[k])));rw[<-Bool.not_and]at this;rw[Bool.false_or,kR]
       exact this) λj x z d o=>by
      rw[zqz,Ev.zz2 (by simpa using x),Ev.yz2 (kz7 x),wrk (by omega),kz2,kz2,kz2];refine z _ ((o.put p.rules[k].params[j]).ext λs =>?_);rw[Qaz,zic x]
    exact loop 0 (Qbu _) d (by simpa using o)
   have M:∀len,∀es:List (B8×Bool),es.length=len->∀d D,MK d D->(∀s,(s∈D∨s∈mks es)↔s∈[[115,120],[115,121],[115,122]]++kz8 p)->Ev (λn=>z68 n w (mks m) (mvs m) p.rules (p.rules.length:Int) (k:Int) u (mks es) (mvs es) p (mks a) (mvs a) p.rules[k] (mks d) (mvs d)) (if ((u || !kR p p.rules[k]) || !(p.rules.drop (k+1)).all (kR p))=true then 6 else if ((w||zml p p.rules[k])||(p.rules.drop (k+1)).any (zml p))=true then 2 else 0):=λlen=>by
    induction len with
    |zero=>
     intro es l d D o hD;have l:=List.length_eq_zero_iff.1 l;subst l;rw[zrw];refine Ev.pick (λ_ =>?_) λi A=>by cases A
     rw[kz2,kz2,kz2]
     exact L d (o.ext λs=>by rw[<-hD s];simp[mks])
    |succ len E=>
     intro es l d D o hD;rw[zrw,kz2,kz2,kz2,kz2];refine Ev.pick (λh=>by rw[h]at l;cases l) λi A =>?_
     refine E (es.eraseIdx i) (by rw[List.length_eraseIdx_of_lt A];omega) _ _ (o.put es[i].1) λs =>?_
     rw[<-hD s,Qbb,Qbc];rw[ywb A s,or_assoc]
   rw[zqd,Ev.zz2 (by simpa using C),Ev.yz2 (kz7 C),kz2,kz2,<-Qah (h:=C),List.all_cons,List.any_cons,Bool.not_and,<-Bool.or_assoc,<-Bool.or_assoc];refine M m.length m rfl _ [[115,120],[115,121],[115,122]] ?_ λs =>?_
   ·have X:MK [] []:=λk=>by simp[z2u]
    exact((X.put _).put _).put _
   ·rw[Q.keys,Qbb]
 have:=main 0 (Qbu _) false u;rw[List.drop_zero,Bool.false_or]at this;exact this
def zyv{p:zz0}(C:p.wf)(Y:p.size<=4000000):Ev (λn=>z3h n p) (zb6 p):=by
 have:=@zl0 p;have:=@zfw p;have M:(kz8 p).length=p.attrs.length:=by simp[kz8]
 have J:(zz4 p).length=p.rules.length:=by simp[zz4]
 have R:∀(m:List (B8×Bool)) (u:Bool),TM m (kz8 p)->(kz8 p).Nodup->∀k,k<=p.rules.length->∀o,RM o ((zz4 p).take k)->((zz4 p).take k).Nodup->Ev (λn=>z5m n (k:Int) p.rules u (p.rules.length:Int) (mks m) (mvs m) (mks o) (mvs o) p) (if (dup (zz4 p)||(p.rules.drop k).any (yxv p))=true then 14 else if (u || !p.rules.all (kR p))=true then 6 else if yg9 p=true then 2 else 0):=λm u s A=>
  down (λo l x=>by
   rw[<-J,List.take_length]at l x;rw[zrg,Ev.kz1 (by simp),kz2,kz2,List.drop_length,yw4.2 x]
   exact yth C Y s l u) λk g B o l x=>by
   have i:=Qad g;have:=zn2 i;have:=@y2k p.rules[k];have z:=l p.rules[k].name;rw[zrg,Ev.zz2 (by simpa using g),Ev.yz2 (kz7 g),kz2,kz2];by_cases d:p.rules[k].name∈(zz4 p).take k
   ·rw[z,Qbw d,Ev.zz2 (by rfl),Ev.yz0]
    have:dup (zz4 p)=true:=by
     rw[yqi];intro E;have h:=ygw (k:=k+1) E;rw[zx5 g,List.nodup_append]at h;exact h.2.2 _ d _ (Qbc.2 rfl) rfl
    rw[this];rfl
   ·rw[z,Qbx d,Ev.kz1 (by rfl)];have hlen:((zz4 p).take k).length=k:=by rw[Qay];omega
    have y:=l.put d;rw[hlen,<-zx5 g]at y
    have K:((zz4 p).take (k+1)).Nodup:=by
     rw[zx5 g,List.nodup_append];exact⟨x,by simp,λa G b F e=>d (by rw[<-Qbc.1 F,<-e];exact G)⟩
    have X:=B _ y K
    have Q:=z019 (L:=λn j=>z57 n j p.rules[k].params p.rules u (p.rules.length:Int) (k:Int) (p.rules[k].params.length:Int) p.rules[k] (mks m) (mvs m) (mks (z6n o p.rules[k].name (k:Int))) (mvs (z6n o p.rules[k].name (k:Int))) p) (len:=p.rules[k].params.length) (p:=ywp p p.rules[k]) (got:=14) (z026 (r:=p.rules[k]) A) (by
     rw[zq0,Ev.kz1 (by simp),wrk (by omega),kz2,kz2];exact X) λj D w I=>by
     have N:∀b:Bool,Ev (λn=>z5e n p.rules[k].params p.rules u (p.rules.length:Int) (k:Int) (p.rules[k].params.length:Int) (j:Int) b p.rules[k] (mks m) (mvs m) (mks (z6n o p.rules[k].name (k:Int))) (mvs (z6n o p.rules[k].name (k:Int))) p) (if b=true then 14 else w):=λb=>by
      cases b
      ·rw[zqc,Ev.kz1 (by rfl),wrk (by omega),kz2,kz2];exact I
      ·rw[zqc,Ev.zz2 (by rfl),Ev.yz0];rfl
     rw[zq0,Ev.zz2 (by simpa using D),Ev.yz2 (kz7 D),kz2,kz2,s.mk,ywp,dif_pos D];by_cases h:p.rules[k].params[j]∈kz8 p
     ·rw[Qbs h,Ev.zz2 rfl];exact N true
     ·rw[Qbr h,Ev.kz1 rfl,Ev.kz0 (yyg (by omega))];exact N _
    refine Q.to ?_;rw[<-Qah (h:=g),List.any_cons];cases yxv p p.rules[k] <;> cases dup (zz4 p) <;> rfl
 have U:∀k,k<=p.attrs.length->∀(u:Bool) (m:List (B8×Bool)),TM m ((kz8 p).take k)->((kz8 p).take k).Nodup->Ev (λn=>z5z n (k:Int) u p.attrs (p.attrs.length:Int) (mks m) (mvs m) (mks ([]:List (B8×Int))) (mvs ([]:List (B8×Int))) p) (if dup (kz8 p)=true then 14 else if (dup (zz4 p)||p.rules.any (yxv p))=true then 14 else if ((u || !kA ((kz8 p).take k) (p.attrs.drop k)) || !p.rules.all (kR p))=true then 6 else if yg9 p=true then 2 else 0) :=
  down (λu m s A=>by
   rw[<-M,List.take_length]at s A;rw[zri,Ev.kz1 (by simp),kz2,kz2,List.drop_length,yw4.2 A,kA,Qbx (by simp)];have:=R m u s A 0 (Qbu _) [] (by rw[List.take_zero];exact RM.nil) (by rw[List.take_zero];exact List.nodup_nil);rw[List.drop_zero]at this
   simpa using this) λk g B u m s A=>by
   have i:=Qad g;have:=y2o i;have:=@y2b p.attrs[k]
   have O:∀u:Bool,Ev (λn=>z65 n u p.attrs (p.attrs.length:Int) (k:Int) (mks m) (mvs m) (mks ([]:List (B8×Int))) (mvs ([]:List (B8×Int))) p p.attrs[k]) (if dup (kz8 p)=true then 14 else if (dup (zz4 p)||p.rules.any (yxv p))=true then 14 else if ((u || !kA ((kz8 p).take (k+1)) (p.attrs.drop (k+1))) || !p.rules.all (kR p))=true then 6 else if yg9 p=true then 2 else 0):=λu=>by
    rw[y50,kz2,kz2,s p.attrs[k].name];by_cases d:p.attrs[k].name∈(kz8 p).take k
    ·rw[Qbw d];show Ev (λn=>pIf true _ _) _;rw[Ev.zz2 rfl,Ev.yz0]
     have:dup (kz8 p)=true:=by
      rw[yqi];intro E;have h:=ygw (k:=k+1) E;rw[zja g,List.nodup_append]at h;exact h.2.2 _ d _ (Qbc.2 rfl) rfl
     rw[this];rfl
    ·rw[Qbx d];show Ev (λn=>pIf false _ _) _;rw[Ev.kz1 rfl,wrk (by omega)];refine B u _ ?_ ?_
     ·rw[zja g];exact s.put _
     ·rw[zja g,List.nodup_append];exact⟨A,by simp,λa G b F e=>d (by rw[<-Qbc.1 F,<-e];exact G)⟩
   rw[zri,Ev.zz2 (by simpa using g),Ev.yz2 (kz7 g),kz2,kz2,zz9.kz4,yz1.kz4,<-Qah (h:=g),kA,<-zja g]
   cases u with
   |true=>rw[Ev.zz2 rfl];exact(O true).to (by simp)
   |false=>
    rw[Ev.kz1 rfl,Ev.kz0 (yg2 s.mk (yvs C i) (by omega)),kz2];exact(O _).to (by rw[Bool.false_or,Bool.not_and])
 have Z:=U 0 (Qbu _) false [] (by rw[List.take_zero];exact TM.nil) (by rw[List.take_zero];exact List.nodup_nil);rw[yc5,Ev.kz0 (yta (by omega)),zb6];cases y64 p
 case true=>rw[Ev.zz2 (by rfl),Ev.yz0];rfl
 rw[Ev.kz1 (by rfl),Ev.kz0 (yn6 C (by omega)),Qbx (by simp)];cases zf4 p
 case false=>rw[Ev.zz2 (by rfl),Ev.yz0];rfl
 rw[Ev.kz1 (by rfl),Qbw rfl];refine Ev.to Z ?_;rw[List.take_zero,List.drop_zero,yp5,y88];show(if dup (kz8 p)=true then _ else if (dup (zz4 p)||p.rules.any λr=>dup (r.params++kz8 p))=true then _ else _)=_;cases dup (kz8 p) <;> cases (dup (zz4 p)||p.rules.any λr=>dup (r.params++kz8 p)) <;> cases kA [] p.attrs <;> cases p.rules.all (kR p) <;> rfl
def y5c{l:List B8}(h:zhh l):l.Nodup:=by
 refine List.Pairwise.imp (λ{a b} d e =>?_) h;subst e;rw[ztk]at d;cases d
def yqo{α σ:Type}{L:Nat->Int->Option (Int×σ)}{xs:List α}{f:α->B8}{s:B8}{st:σ}(e:Ev (λn=>L n (xs.length:Int)) (-1,st))
  (d:∀k (h:k<xs.length) v,(f xs[k]=s->Ev (λn=>L n (k:Int)) ((k:Int),st))∧(f xs[k]≠s->Ev (λn=>L n ((k+1:Nat):Int)) v->Ev (λn=>L n (k:Int)) v)):Ev (λn=>L n 0) (atI (xs.map f) s,st):=by
 have:∀k,k<=xs.length->Ev (λn=>L n (k:Int)) (if atI ((xs.drop k).map f) s = -1 then -1 else atI ((xs.drop k).map f) s+k,st) :=
  down (by rw[List.drop_length];exact e) λk a b=>by
   have⟨i,g⟩:=d k a (if atI ((xs.drop (k+1)).map f) s = -1 then -1 else atI ((xs.drop (k+1)).map f) s+((k+1:Nat):Int),st);rw[<-Qah (h:=a),List.map_cons,zo0];by_cases q:f xs[k]=s
   ·rw[Qbw q];refine(i q).to ?_;simp
   ·rw[Qbx q];refine(g q b).to ?_;have j:=@z03i ((xs.drop (k+1)).map f) s;by_cases z:atI ((xs.drop (k+1)).map f) s = -1
    ·rw[Qbw z,Qbw z,Qbw rfl]
    ·rw[Qbx z,Qbx z,Qbx (by omega)];have:atI ((xs.drop (k+1)).map f) s+((k+1:Nat):Int)=atI ((xs.drop (k+1)).map f) s+1+(k:Int):=by omega
     rw[this]
 have:=this 0 (Qbu _);rw[List.drop_zero]at this;refine Ev.to this ?_;split
 ·rename_i h;rw[h]
 ·simp
def yqy{p:zz0}{s:B8}(e:p.size<=4000000):Ev (λn=>zfz n p s) (atI (zz4 p) s):=by
 have:=@zfw p
 have h:Ev (λn=>yzi n p.rules s) (atI (zz4 p) s,s):=by
  rw[zeo];refine yqo (L:=λn k=>zzb n k p.rules (p.rules.length:Int) s) (xs:=p.rules) (f:=(·.name)) (by rw[z0m,Ev.kz1 (by simp),Ev.yz0]) λk a v =>?_
  have b:Ev (λn=>zel n p.rules[k] s) (p.rules[k].name==s,s):=by rw[yjq,Ev.yz0]
  constructor
  ·intro q;rw[z0m,Ev.zz2 (by simpa using a),Ev.yz2 (kz7 a),Ev.kz0 b,Ev.zz2 (by simpa using q),Ev.yz0]
  ·intro q d;rw[z0m,Ev.zz2 (by simpa using a),Ev.yz2 (kz7 a),Ev.kz0 b,Ev.kz1 (by simpa using q),wrk (by omega)];exact d
 rw[yqb,Ev.kz0 h,Ev.yz0]
def zle(r:kz3):List B8:=(yzd r).map (·.1)
def nx(p:zz0)(s:B8):List B8:=match p.rules[(atI (zz4 p) s).toNat]? with
 |some r=>zle r
 |none=>[]
def y5b{p:zz0}(h:zb6 p=0):zf4 p=true∧(zz4 p).Nodup∧(∀r∈p.rules,∀c∈zle r,c∈zz4 p):=by
 unfold zb6 at h;by_cases e:y64 p=true
 ·rw[Qbw e]at h;cases h
 rw[Qbx e]at h;by_cases b:zf4 p=true
 case neg=>rw[Qbx b]at h;cases h
 rw[Qbw b]at h;by_cases a:yp5 p=true
 ·rw[Qbw a]at h;cases h
 rw[Qbx a]at h;by_cases d:y88 p=true
 case neg=>rw[Qbx d]at h;cases h
 refine⟨b,?_,λr g c j =>?_⟩
 ·unfold yp5 at a;simp only[Bool.or_eq_true,not_or]at a;exact yw4.1 (by simpa using a.2.1)
 ·have k:=Qat.1 (Bool.and_eq_true_iff.1 d).2 r g;obtain⟨q,i,rfl⟩:=Qbg.1 j;exact Qac (Qat.1 (Bool.and_eq_true_iff.1 k).2 q i)
inductive Rch (p:zz0) (root:B8):B8->Prop
 |refl:Rch p root root
 |step {x y:B8}:Rch p root x->y∈nx p x->Rch p root y
def y86{p:zz0}{root:B8}(d:∀r∈p.rules,∀c∈zle r,c∈zz4 p)(b:root∈zz4 p){x:B8}(h:Rch p root x):x∈zz4 p:=by
 induction h with
 |refl=>exact b
 |step _ a _=>
  unfold nx at a;split at a
  ·rename_i r b;exact d r (Qax b) _ a
  ·cases a
def yw9{p:zz0}{root:B8}{l:List B8}(e:root∈l)(d:∀x∈l,∀y∈nx p x,y∈l){x:B8}(h:Rch p root x):x∈l:=by
 induction h with
 |refl=>exact e
 |step _ b a=>exact d _ a _ b
def znq{l m:List B8}(a:l.Nodup)(h:∀x∈l,x∈m):l.length<=m.length:=a.length_le_of_subset h
def nx_at{p:zz0}{s:B8}{i:Nat}(a:i<p.rules.length)(h:atI (zz4 p) s=(i:Int)):nx p s=zle p.rules[i]:=by
 unfold nx;rw[h,Int.toNat_natCast,Qab a]
def ywc{l:List B8}(h:l.length<=8000000):Ev (λn=>zzp n l) (yzm l):=Ev.pure (by show(if l.length<4611686018427387904 then _ else _)=_;rw[Qbw (by omega),zys])
def y06(l:List B8):(yzm l).length=l.length:=(z2z l).length_eq
def Set(p:zz0)(root:B8)(r:List B8×Int):Prop:=r.2=0∧zhh r.1∧∀x,x∈r.1↔Rch p root x
def z04c{p:zz0}{root:B8}{a b:List B8×Int}(e:Set p root a)(d:Set p root b):a=b:=by
 have⟨l,k⟩:=a;have⟨j,i⟩:=b;have h:l=j:=zi7 e.2.1 d.2.1 λx=>by rw[e.2.2,d.2.2]
 have g:k=i:=by have:=e.1;have:=d.1;simp only at *;omega
 rw[h,g]
def zx6{p:zz0}{root:B8}(W:p.wf)(R:p.size<=4000000):∃r,Ev (λn=>zak n p root) r∧(if zb6 p≠0 then r=([],zb6 p)else if root∈zz4 p then Set p root r else r=([],6)):=by
 have h5:=@zfw p;have h4:(zz4 p).length=p.rules.length:=by simp[zz4]
 simp only[ydf,Ev.kz0 (zyv W R)];by_cases E:zb6 p=0
 case neg=>exact⟨([],zb6 p),by rw[Ev.zz2 (by simpa using E),Ev.yz0],by rw[Qbw E]⟩
 have⟨hf,h7,w⟩:=y5b E;simp only[Qbx (show ¬zb6 p≠0 by simp[E]),Ev.kz1 (show(zb6 p != 0)=false by simpa using E),Ev.kz0 (yqy R)];by_cases g:root∈zz4 p
 case neg=>exact⟨([],6),by rw[Ev.zz2 (Qbs (zfc.2 g)),Ev.yz0],by rw[Qbx g]⟩
 simp only[Qbw g,Ev.kz1 (show decide (atI (zz4 p) root<0)=false from Qbr λq=>zfc.1 q g)]
 have main:∀d i (out:List B8) m,(zz4 p).length-i=d->i<=out.length->out.Nodup->TM m out->root∈out->(∀x∈out,Rch p root x)->(∀j x,j<i->out[j]? = some x->∀y∈nx p x,y∈out)->∃r,Ev (λn=>z5c n (i:Int) out (mks m) (mvs m) p) r∧Set p root r:=λd=>by
  induction d with
  |zero=>
   intro i out m hd P u C Q s B;have O:=znq u λx hx=>y86 w g (s x hx)
   have Y:i=out.length:=by omega
   refine⟨(yzm out,0),?_,rfl,zdn u,λx =>?_⟩
   ·rw[zkf,Ev.kz1 (by simp;omega),Ev.kz0 (ywc (by omega)),Ev.yz0]
   ·rw[(z2z out).mem_iff];refine⟨s x,yw9 Q λx hx y hy =>?_⟩;have⟨j,z,e⟩:=List.mem_iff_getElem.1 hx
    exact B j x (by omega) (by rw[Qab z,e]) y hy
  |succ d H=>
   intro i out m hd P u C Q s B;have O:=znq u λx hx=>y86 w g (s x hx)
   by_cases Y:i=out.length
   ·refine⟨(yzm out,0),?_,rfl,zdn u,λx =>?_⟩
    ·rw[zkf,Ev.kz1 (by simp;omega),Ev.kz0 (ywc (by omega)),Ev.yz0]
    ·rw[(z2z out).mem_iff];refine⟨s x,yw9 Q λx hx y hy =>?_⟩;have⟨j,z,e⟩:=List.mem_iff_getElem.1 hx;exact B j x (by omega) (by rw[Qab z,e]) y hy
   have A:i<out.length:=by omega
   have I:=s _ (Qad A);have⟨a,U,Z,h2,h3⟩:=ybk (y86 w g I);have:=zn2 (Qad U);have h9:=zl8 p.rules[a];have J:=nx_at U Z;have h8:((yzd p.rules[a]).map toT).length=(yzd p.rules[a]).length:=by simp
   have inner:∀j,j<=(yzd p.rules[a]).length->∀(o:List B8) m,o.Nodup->TM m o->out <+: o->(∀x∈o,Rch p root x)->(∀y∈(zle p.rules[a]).take j,y∈o)->∃r,Ev (λn=>z5f n (j:Int) ((yzd p.rules[a]).map toT) (i:Int) (((yzd p.rules[a]).map toT).length:Int) o (mks m) (mvs m) p) r∧Set p root r :=
    down (λo m u C b s h=>by
     have D:=znq u λx hx=>y86 w g (s x hx)
     have h6:=b.length_le;have e:(zle p.rules[a]).length=(yzd p.rules[a]).length:=by simp[zle]
     rw[<-e,List.take_length]at h
     have⟨r,l,k⟩:=H (i+1) o m (by omega) (by omega) u C (b.subset Q) s λj x z hx y hy=>by
      obtain⟨t,rfl⟩:=b;rw[Qal (by omega)]at hx;by_cases q:j<i
      ·exact List.mem_append_left _ (B j x q hx y hy)
      ·have:j=i:=by omega
       subst this;rw[Qab A]at hx;injection hx with hx;rw[<-hx,J]at hy;exact h y hy
     exact⟨r,by rw[zk6,Ev.kz1 (by simp),wrk (by omega),kz2];exact l,k⟩) λj z F o m u C b s h=>by
     have D:=znq u λx hx=>y86 w g (s x hx)
     have M:j<((yzd p.rules[a]).map toT).length:=by simpa using z
     have L:j<(zle p.rules[a]).length:=by simpa[zle]using z
     have N:(zle p.rules[a])[j]=(yzd p.rules[a])[j].1:=by simp[zle]
     have G:(zle p.rules[a]).take (j+1)=(zle p.rules[a]).take j++[(yzd p.rules[a])[j].1]:=by rw[<-N,zic L]
     have K:=C.mk (yzd p.rules[a])[j].1;by_cases q:(yzd p.rules[a])[j].1∈o
     ·have⟨r,l,k⟩:=F o m u C b s λy hy=>by
       rw[G,Qbb,Qbc]at hy
       rcases hy with hy|hy
       ·exact h y hy
       ·rw[hy];exact q
      refine⟨r,?_,k⟩;rw[zk6,Ev.zz2 (by simpa using z),Ev.yz2 (kz7 M),List.getElem_map,kz2];show Ev (λn=>pIf (!Option.getD (z2u m (yzd p.rules[a])[j].1) false) _ _) _;rw[K,Qbs q,Ev.kz1 (by rfl),zrc,wrk (by omega),kz2];exact l
     ·have X:Rch p root (yzd p.rules[a])[j].1:=.step I (by rw[J,<-N];exact Qad L)
      have⟨r,l,k⟩:=F (o++[(yzd p.rules[a])[j].1]) _ (by
       rw[List.nodup_append]
       exact⟨u,by simp,λx hx y hy e=>q (by rw[<-Qbc.1 hy,<-e];exact hx)⟩) (C.put _) (b.trans (List.prefix_append _ _)) (λx hx=>by
       rcases Qbb.1 hx with hx|hx
       ·exact s x hx
       ·rw[Qbc.1 hx];exact X) λy hy=>by
       rw[G,Qbb]at hy
       rcases hy with hy|hy
       ·exact List.mem_append_left _ (h y hy)
       ·exact List.mem_append_right _ hy
      refine⟨r,?_,k⟩;rw[zk6,Ev.zz2 (by simpa using z),Ev.yz2 (kz7 M),List.getElem_map,kz2];show Ev (λn=>pIf (!Option.getD (z2u m (yzd p.rules[a])[j].1) false) ((ext o [(yzd p.rules[a])[j].1]).bind _) _) _;rw[K,Qbr q,Ev.zz2 (by rfl),Ev.yz2 (z69 (by simp only[List.length_cons,Qcb];omega)),zrc,wrk (by omega),kz2];exact l
   have⟨r,l,k⟩:=inner 0 (Qbu _) out m u C (List.prefix_refl _) s (by simp);refine⟨r,?_,k⟩;rw[zkf,Ev.zz2 (by simpa using A),Ev.yz2 (kz7 A),Ev.kz0 (yqy R),Z,Ev.yz2 (kz7 U),Ev.kz0 (y8k (by omega)),kz2];exact l
 exact main _ 0 [root] _ rfl (Qbu _) (by simp) (TM.nil.put root) (by simp) (λx hx=>by rw[Qbc.1 hx];exact .refl) λj x z=>by omega
def yxt{p:zz0}{s:B8}{r:List B8×Int}(i:p.size<=4000000)(h:if zb6 p≠0 then r=([],zb6 p)else if s∈zz4 p then Set p s r else r=([],6)):r.1.length<=8000000:=by
 have g:=@zfw p;have e:(zz4 p).length=p.rules.length:=by simp[zz4]
 by_cases b:zb6 p=0
 case neg=>rw[Qbw b]at h;rw[h];simp
 rw[Qbx (by simp[b])]at h;by_cases a:s∈zz4 p
 case neg=>rw[Qbx a]at h;rw[h];simp
 rw[Qbw a]at h;have:=znq (y5c h.2.1) λx d=>y86 (y5b b).2.2 a ((h.2.2 x).1 d)
 omega
def zsm(K:List B8)(s:B8):List B8:=if s∈K then K else K++[s]
def zo5{K:List B8}{s x:B8}:x∈zsm K s↔x∈K∨x=s:=by
 unfold zsm;split
 ·rename_i h;exact⟨.inl,λq=>q.elim id λq=>by rw[q];exact h⟩
 ·rw[Qbb,Qbc]
def zvv{K:List B8}{s:B8}(h:K.Nodup):(zsm K s).Nodup:=by
 unfold zsm;split
 ·exact h
 ·rename_i q;rw[List.nodup_append];exact⟨h,by simp,λa g b d e=>q (by rw[<-Qbc.1 d,<-e];exact g)⟩
def z007(K:List B8)(s:B8):K.length<=(zsm K s).length∧((zsm K s).length=K.length->zsm K s=K):=by
 unfold zsm;split
 ·exact⟨Qbv _,λ_=>rfl⟩
 ·simp
structure SM(m:List (B8×Bool)):Prop where
 all:∀p∈m,p.2=true
 nodup:(mks m).Nodup
def SM.nil:SM []:=⟨by simp,by simp[mks]⟩
def ybu{T:Type}(m:List (B8×T))(s:B8)(x:T):mks (z6n m s x)=zsm (mks m) s:=by
 induction m with
 |nil=>show mks [(s,x)]=zsm [] s;simp[mks,zsm]
 |cons q m b=>
  rw[ykq];by_cases h:s=q.1
  ·rw[Qbw h];show s::mks m=zsm (q.1::mks m) s;unfold zsm;rw[Qbw (by rw[h];exact Qak),h]
  ·rw[Qbx h];show q.1::mks (z6n m s x)=zsm (q.1::mks m) s;rw[b];unfold zsm;by_cases a:s∈mks m
   ·rw[Qbw a,Qbw (Qai _ a)]
   ·rw[Qbx a,Qbx (by rw[Qbl];exact λz=>z.elim h a)];rfl
def SM.put{m:List (B8×Bool)}(h:SM m)(s:B8):SM (z6n m s true) :=
 ⟨λp hp=>by rcases yqj hp with e|e
            ·rw[e]
            ·exact h.all p e,by rw[ybu];exact zvv h.nodup⟩
def SM.get{m:List (B8×Bool)}(h:SM m)(s:B8):z2u m s=if s∈mks m then some true else none:=by
 by_cases q:s∈mks m
 ·rw[Qbw q]
  cases a:z2u m s with
  |none=>exact(y0d.1 a q).elim
  |some b=>
   have⟨p,e,d⟩:=ye0 a;rw[<-d,h.all p e]
 ·rw[Qbx q,y0d.2 q]
def SM.mk'{m:List (B8×Bool)}(h:SM m):MK m (mks m):=λs=>by rw[h.get s];by_cases q:s∈mks m <;> simp[q]
def EqS(R K:List B8):Prop:=zhh R∧∀x,x∈R↔x∈K
def EqS.nil:EqS [] []:=⟨by simp[zhh],λ_=>Iff.rfl⟩
def EqS.put{R K:List B8}(h:EqS R K)(s:B8):EqS (ins R s) (zsm K s):=⟨zv6 h.1,λx=>by rw[y5p,zo5,h.2]⟩
def EqS.sort{R K:List B8}(h:EqS R K)(a:K.Nodup):yzm K=R :=
 zi7 (zdn a) h.1 λx=>by rw[(z2z K).mem_iff,h.2]
def y04{T:Type}(m:List (B8×T)):(mks m).length=m.length:=by simp[mks]
def z057{T:Type}(m:List (B8×T)):(mvs m).length=m.length:=by simp[mvs]
def y6x{m:List (B8×Bool)}(h:SM m)(b:(mks m).length<=8388608)(a:∀s∈mks m,s.length<=8388608):Ev (λn=>z56 n (mks m) (mvs m)) (yzm (mks m),mks m,mvs m):=Ev.pure (by
 show(if _ then some (ye9 _,_,_)else _)=_
 rw[Qbw ⟨h.nodup,by rw[y04,z057],b,a⟩,zys])
def zhc(K:List B8)(e:yz1):Bool:=(zar e).1.any λs=>decide (s∈K)
def yyk{R K:List B8}(h:∀x,x∈R↔x∈K)(e:yz1):zhc R e=zhc K e:=by
 unfold zhc
 congr 1
 funext s
 exact decide_eq_decide.2 (h s)
def y71{e:yz1}{m:List (B8×Bool)}{K:List B8}(o:MK m K)(h:e.wf)(d:e.size<=8388608):Ev (λn=>zbp n e (mks m) (mvs m)) (zhc K e,mks m,mvs m):=by
 have x:=y36 e d
 have⟨i,w,u⟩:=zpx (L:=λn k=>kzd n k (zar e).1 ((zar e).1.length:Int) (mks m) (mvs m)) (l:=(zar e).1) (p:=λs=>decide (s∈K)) (st:=(mks m,mvs m))
  (by rw[z1o,Ev.kz1 (by simp),Ev.yz0,kz2]) λk a v=>by
   have g:Ev (λn=>zdc n (zar e).1[k] (mks m) (mvs m)) (decide ((zar e).1[k]∈K),mks m,mvs m):=by
    rw[ydk,Ev.yz0,kz2,o]
   constructor
   ·intro b;rw[z1o,Ev.zz2 (by simpa using a),Ev.yz2 (kz7 a),kz2,Ev.kz0 g,Ev.zz2 b,Ev.yz0,kz2]
   ·intro b j;rw[z1o,Ev.zz2 (by simpa using a),Ev.yz2 (kz7 a),kz2,Ev.kz0 g,Ev.kz1 b,kz2,wrk (by omega)];exact j
 have r:Ev (λn=>zzl n (zar e).1 (mks m) (mvs m)) (zhc K e,mks m,mvs m):=by
  rw[zfr,kz2,Ev.kz0 (by rw[zho,kz2];exact w),Ev.yz0,u,kz2,zhc]
 rw[yoj,yz1.kz4,Ev.kz0 (yek h d),kz2,Ev.kz0 r,Ev.yz0,kz2]
def yjm{l:kz6}{m:List (B8×Bool)}{K:List B8}(r:MK m K)(h:∀e∈l,e.wf)(o:∀e∈l,e.size<=8388608)(w:l.length<=8388608):Ev (λn=>yzf n l (mks m) (mvs m)) (l.any (zhc K),mks m,mvs m):=by
 have⟨i,u,s⟩:=zpx (L:=λn k=>yzb n k l (l.length:Int) (mks m) (mvs m)) (l:=l) (p:=zhc K) (st:=(mks m,mvs m))
  (by rw[z0n,Ev.kz1 (by simp),Ev.yz0,kz2]) λk a v=>by
   have d:=Qad a
   have g:Ev (λn=>z8v n l[k] (mks m) (mvs m)) (zhc K l[k],mks m,mvs m):=by
    rw[y6g,kz2,yz1.kz4,Ev.kz0 (y71 r (h _ d) (o _ d)),Ev.yz0,kz2]
   constructor
   ·intro b;rw[z0n,Ev.zz2 (by simpa using a),Ev.yz2 (kz7 a),kz2,yz1.kz4,Ev.kz0 g,Ev.zz2 b,Ev.yz0,kz2]
   ·intro b j;rw[z0n,Ev.zz2 (by simpa using a),Ev.yz2 (kz7 a),kz2,yz1.kz4,Ev.kz0 g,Ev.kz1 b,kz2,wrk (by omega)];exact j
 rw[zdh,kz2,Ev.kz0 (by rw[zey,kz2];exact u),Ev.yz0,s,kz2]
def y8v{a b:zz7}(h:a.length+b.length<=8388608):Ev (λn=>yzq n [a,b]) (.ok (a++b)):=by
 have e:IntKind.i64.wrap (0+(a.length:Int))=(a.length:Int):=by rw[Int.zero_add];exact wI (by omega)
 have d:IntKind.i64.wrap ((a.length:Int)+(b.length:Int))=((a.length+b.length:Nat):Int):=by rw[wI (by omega)];rfl
 have i:Ev (λn=>z5x n [] ((a.length+b.length:Nat):Int)) []:=Ev.pure (by show(if _ then _ else _)=_;rw[Qbw (by omega)])
 have g:Ev (λn=>zzg n 0 [a,b] 2 []) (.ok (a++b)):=by
  rw[z2q,Ev.zz2 (by decide),Ev.yz2 (show ix [a,b] 0=some a from rfl),Ev.yz2 (z69 (by simp;omega)),show IntKind.i64.wrap (0+1)=1 by decide,List.nil_append];rw[z2q,Ev.zz2 (by decide),Ev.yz2 (show ix [a,b] 1=some b from rfl),Ev.yz2 (z69 (by omega)),show IntKind.i64.wrap (1+1)=2 by decide];rw[z2q,Ev.kz1 (by decide),Ev.yz0]
 rw[zj3];rw[z2n,Ev.zz2 (by simp),Ev.yz2 (show ix [a,b] 0=some a from rfl),e,Ev.kz1 (Qbr (by omega)),z90,show IntKind.i64.wrap (0+1)=1 by decide];rw[z2n,Ev.zz2 (by simp),Ev.yz2 (show ix [a,b] 1=some b from rfl),d,Ev.kz1 (Qbr (by omega)),z90,show IntKind.i64.wrap (1+1)=2 by decide];rw[z2n,Ev.kz1 (by simp),Ev.kz0 i];exact g
def ypu{a b:zz5}(h:a.length+b.length<=8388608):Ev (λn=>yzr n [a,b]) (.ok (a++b)):=by
 have e:IntKind.i64.wrap (0+(a.length:Int))=(a.length:Int):=by rw[Int.zero_add];exact wI (by omega)
 have d:IntKind.i64.wrap ((a.length:Int)+(b.length:Int))=((a.length+b.length:Nat):Int):=by rw[wI (by omega)];rfl
 have i:Ev (λn=>z5g n [] ((a.length+b.length:Nat):Int)) []:=Ev.pure (by show(if _ then _ else _)=_;rw[Qbw (by omega)])
 have g:Ev (λn=>yzg n 0 [a,b] 2 []) (.ok (a++b)):=by
  rw[z2o,Ev.zz2 (by decide),Ev.yz2 (show ix [a,b] 0=some a from rfl),Ev.yz2 (z69 (by simp;omega)),show IntKind.i64.wrap (0+1)=1 by decide,List.nil_append];rw[z2o,Ev.zz2 (by decide),Ev.yz2 (show ix [a,b] 1=some b from rfl),Ev.yz2 (z69 (by omega)),show IntKind.i64.wrap (1+1)=2 by decide];rw[z2o,Ev.kz1 (by decide),Ev.yz0]
 rw[zj6];rw[z2p,Ev.zz2 (by simp),Ev.yz2 (show ix [a,b] 0=some a from rfl),e,Ev.kz1 (Qbr (by omega)),z8w,show IntKind.i64.wrap (0+1)=1 by decide];rw[z2p,Ev.zz2 (by simp),Ev.yz2 (show ix [a,b] 1=some b from rfl),d,Ev.kz1 (Qbr (by omega)),z8w,show IntKind.i64.wrap (1+1)=2 by decide];rw[z2p,Ev.kz1 (by simp),Ev.kz0 i];exact g
def e0:yz1:=⟨0,⟨0,⟨0,0⟩,false,[],[]⟩,[],[]⟩
def valOf(p:zz0)(s:B8):yz1:=match p.attrs[(atI (kz8 p) s).toNat]? with
 |some t=>t.value
 |none=>e0
def z049{p:zz0}{s:B8}(h:s∈kz8 p):∃i:Nat,∃b:i<p.attrs.length,atI (kz8 p) s=(i:Int)∧p.attrs[i].name=s∧valOf p s=p.attrs[i].value:=by
 have⟨i,b,d,e,_⟩:=y5h h;have a:i<p.attrs.length:=by simpa[kz8]using b
 refine⟨i,a,d,by simpa[kz8]using e,?_⟩;unfold valOf;rw[d,Int.toNat_natCast,Qab a]
def z011{p:zz0}(d:(kz8 p).Nodup){k:Nat}(e:k<p.attrs.length):valOf p p.attrs[k].name=p.attrs[k].value:=by
 have a:k<(kz8 p).length:=by simpa[kz8]using e
 have b:(kz8 p)[k]=p.attrs[k].name:=by simp[kz8]
 have⟨i,g,m,j,h⟩:=z049 (p:=p) (s:=p.attrs[k].name) (by rw[<-b];exact Qad a);have l:i<(kz8 p).length:=by simpa[kz8]using g
 have:i=k:=(List.getElem_inj d).1 (show(kz8 p)[i]=(kz8 p)[k] by rw[b,<-j];simp[kz8]);subst this;exact h
def yuf{p:zz0}{s:B8}(a:p.size<=4000000):(valOf p s).size<=8388608:=by
 unfold valOf;split
 ·rename_i t h;have d:=y2o (Qax h);have b:=@y2b t;omega
 ·unfold e0;rw[yz1.size_eq,zz1.size_eq,yz6.size_eq];simp
def yb0(p q:zz0)(K:List B8)(x:zz9):Bool := !decide (x.name∈kz8 p)||(!decide (x.name∈kz8 q)||(!eqB (valOf p x.name) (valOf q x.name)||zhc K x.value))
def zb5(p q:zz0)(K:List B8)(x:zz9):List B8:=if yb0 p q K x=true then zsm K x.name else K
def zhb(p q:zz0)(K:List B8):List B8:=(p.attrs++q.attrs).foldl (zb5 p q) K
def itN(p q:zz0):Nat->List B8
 |0=>[]
 |t+1=>zhb p q (itN p q t)
def NN(p q:zz0):Nat:=p.attrs.length+q.attrs.length
def nK(p q:zz0):List B8:=itN p q (NN p q+1)
structure y5f(p q:zz0)(K:List B8):Prop where
 nodup:K.Nodup
 sub:∀x∈K,x∈kz8 p++kz8 q
def y5f.len{p q:zz0}{K:List B8}(h:y5f p q K):K.length<=NN p q:=by
 have:=znq h.nodup h.sub;rw[Qap]at this;simpa[kz8,NN]using this
def y5f.step{p q:zz0}{K:List B8}(h:y5f p q K){x:zz9}(a:x∈p.attrs++q.attrs):y5f p q (zb5 p q K x):=by
 unfold zb5;split
 ·refine⟨zvv h.nodup,λy hy =>?_⟩
  rcases zo5.1 hy with hy|hy
  ·exact h.sub y hy
  ·rw[hy];rw[Qbb]at a ⊢;exact a.imp (λz=>List.mem_map_of_mem z) λz=>List.mem_map_of_mem z
 ·exact h
def ykp{p q:zz0}:∀(l:zz7) {K:List B8},y5f p q K->(∀x∈l,x∈p.attrs++q.attrs)->y5f p q (l.foldl (zb5 p q) K)
 |[],_,h,_=>h
 |x::l,K,h,a=>ykp l (h.step (a x Qak)) λy b=>a y (Qai _ b)
def zqy(p q:zz0):∀t,y5f p q (itN p q t)
 |0=>⟨by simp[itN],by simp[itN]⟩
 |t+1=>ykp _ (zqy p q t) λ_ h=>h
def ysl(p q:zz0)(K:List B8)(x:zz9):K.length<=(zb5 p q K x).length∧((zb5 p q K x).length=K.length->zb5 p q K x=K):=by
 unfold zb5;split
 ·exact z007 K x.name
 ·exact⟨Qbv _,λ_=>rfl⟩
def y7p{p q:zz0}:∀(l:zz7) (K:List B8),K.length<=(l.foldl (zb5 p q) K).length∧((l.foldl (zb5 p q) K).length=K.length->l.foldl (zb5 p q) K=K)
 |[],K=>⟨Qbv _,λ_=>rfl⟩
 |x::l,K=>by
  obtain⟨e,d⟩:=ysl p q K x;obtain⟨b,a⟩:=y7p l (zb5 p q K x);refine⟨Qbk e b,λh =>?_⟩;show l.foldl (zb5 p q) (zb5 p q K x)=K;have h:(l.foldl (zb5 p q) (zb5 p q K x)).length=K.length:=h;rw[a (by omega)];exact d (by omega)
def yrs(p q:zz0)(K:List B8):K.length<=(zhb p q K).length∧((zhb p q K).length=K.length->zhb p q K=K):=y7p _ K
def ypa{p q:zz0}{t:Nat}(h:zhb p q (itN p q t)=itN p q t):∀m,t<=m->itN p q m=itN p q t:=λm b=>by
 induction m with
 |zero=>have:t=0:=by omega
        subst this;rfl
 |succ m a=>
  rcases Nat.lt_or_ge m t with q'|q'
  ·have:t=m+1:=by omega
   subst this;rfl
  ·rw[itN,a q',h]
def z02p(p q:zz0):∃t,t<=NN p q+1∧zhb p q (itN p q t)=itN p q t:=by
 refine Classical.byContradiction λa =>?_
 have grow:∀t,t<=NN p q+2->t<=(itN p q t).length:=λt=>by
  induction t with
  |zero=>intro _;exact Qbu _
  |succ t d=>
   intro i;have g:=d (by omega);have⟨j,h⟩:=yrs p q (itN p q t);have b:zhb p q (itN p q t)≠itN p q t:=λe=>a ⟨t,by omega,e⟩
   show t+1<=(zhb p q (itN p q t)).length
   rcases Nat.lt_or_ge (itN p q t).length (zhb p q (itN p q t)).length with z|z
   ·omega
   ·exact(b (h (by omega))).elim
 have g:=grow _ (Qbv _);have b:=(zqy p q (NN p q+2)).len;omega
def z00c{p q:zz0}{t:Nat}(h:zhb p q (itN p q t)=itN p q t):itN p q t=nK p q:=by
 have⟨s,b,a⟩:=z02p p q;have e:=ypa a (NN p q+1) b;have d:zhb p q (itN p q (NN p q+1))=itN p q (NN p q+1):=by rw[e,a]
 rcases Nat.lt_or_ge t (NN p q+1)with z|z
 ·exact(ypa h _ (by omega)).symm
 ·exact ypa d _ z
def VM(p:zz0)(m:List (B8×yz1))(K:List B8):Prop:=∀s,z2u m s=if s∈K then some (valOf p s)else none
def y91{p:zz0}(l:p.size<=4000000)(j:(kz8 p).Nodup):∃m,VM p m (kz8 p)∧Ev (λn=>z9f n p) (mks m,mvs m):=by
 have:=@zl0 p;have h:(kz8 p).length=p.attrs.length:=by simp[kz8]
 have loop:∀k,k<=p.attrs.length->∀m,VM p m ((kz8 p).take k)->∃a,VM p a (kz8 p)∧Ev (λn=>z4e n (k:Int) p.attrs (p.attrs.length:Int) (mks m) (mvs m)) (mks a,mvs a) :=
  down (λm d=>⟨m,by rwa[<-h,List.take_length]at d,by rw[zok,Ev.kz1 (by simp),Ev.yz0,kz2]⟩) λk b i m d=>by
   have⟨a,g,e⟩:=i (z6n m p.attrs[k].name p.attrs[k].value) λs=>by
    rw[y4z,d s,zja b];by_cases q:s=p.attrs[k].name
    ·subst q;simp[z011 j b]
    ·simp[q]
   refine⟨a,g,?_⟩;rw[zok,Ev.zz2 (by simpa using b),Ev.yz2 (kz7 b),kz2,yz1.kz4,wrk (by omega)];exact e
 have⟨m,g,e⟩:=loop 0 (Qbu _) [] λs=>by simp[z2u]
 exact⟨m,g,by rw[ybf];exact e⟩
def yfa{p q:zz0}(hp:p.wf)(hq:q.wf)(hc:p.size<=1048576)(h9:q.size<=1048576)(H:(kz8 p).Nodup)(Z:(kz8 q).Nodup) :
  ∃m,SM m∧mks m=nK p q∧Ev (λn=>zcg n p q) (.ok (mks m,mvs m)):=by
 have lp:=@zl0 p;have lq:=@zl0 q;have⟨o,N,h7⟩:=y91 (p:=p) (by omega) H;have⟨l,I,h6⟩:=y91 (p:=q) (by omega) Z;have hlen:(p.attrs++q.attrs).length=NN p q:=by rw[Qap];rfl
 have hN:NN p q<=2097152:=by unfold NN;omega
 have pass:∀(before:Int) (v:Res (B8×Unit) ((List B8)×(List Bool))),∀k,k<=(p.attrs++q.attrs).length->∀m,SM m ->
   (∀g,SM g->mks g=((p.attrs++q.attrs).drop k).foldl (zb5 p q) (mks m)->Ev (λn=>z2l n ((p.attrs++q.attrs).length:Int) (p.attrs++q.attrs) before ((p.attrs++q.attrs).length:Int) (mks g) (mvs g) (mks l) (mvs l) (mks o) (mvs o) q p) v) ->
   Ev (λn=>z2l n (k:Int) (p.attrs++q.attrs) before ((p.attrs++q.attrs).length:Int) (mks m) (mvs m) (mks l) (mvs l) (mks o) (mvs o) q p) v:=λbefore v=>
  down (λm r h=>h m r (by rw[List.drop_length];rfl)) λk A U m r h=>by
   have hx:=Qad A
   have M:(p.attrs++q.attrs)[k].value.wf∧(p.attrs++q.attrs)[k].value.size<=8388608:=by
    rcases Qbb.1 hx with z|z
    ·have:=y2o z;have:=@y2b (p.attrs++q.attrs)[k];exact⟨yvs hp z,by omega⟩
    ·have:=y2o z;have:=@y2b (p.attrs++q.attrs)[k];exact⟨yvs hq z,by omega⟩
   have O:=kz7 A;rw[<-Qah (h:=A),List.foldl_cons]at h;generalize h8:(p.attrs++q.attrs)[k]=x at *
   have Q:∀b:Bool,b=yb0 p q (mks m) x->Ev (λn=>z2r n (p.attrs++q.attrs) before ((p.attrs++q.attrs).length:Int) (k:Int) b (mks m) (mvs m) (mks l) (mvs l) (mks o) (mvs o) q p x) v:=λb hb=>by
    have l3:∀g,SM g->mks g=zb5 p q (mks m) x->Ev (λn=>z7s n (p.attrs++q.attrs) before ((p.attrs++q.attrs).length:Int) (k:Int) (mks g) (mvs g) (mks l) (mvs l) (mks o) (mvs o) q p) v:=λg B j=>by
     rw[y7t,wrk (by omega),kz2,kz2,kz2];exact U g B λi h3 h4=>h i h3 (by rw[h4,j])
    cases b with
    |true=>rw[ztg,Ev.zz2 (by rfl),kz2,kz2,kz2];exact l3 _ (r.put _) (by rw[ybu];unfold zb5;rw[Qbw hb.symm])
    |false=>rw[ztg,Ev.kz1 (by rfl),kz2,kz2,kz2];exact l3 _ r (by unfold zb5;rw[Qbx (by rw[<-hb];simp)])
   have e1:Option.isSome (z2u o x.name)=decide (x.name∈kz8 p):=by rw[N];by_cases z:x.name∈kz8 p <;> simp[z]
   have e2:Option.isSome (z2u l x.name)=decide (x.name∈kz8 q):=by rw[I];by_cases z:x.name∈kz8 q <;> simp[z]
   rw[zld,Ev.zz2 (Qbs (by omega)),Ev.yz2 O,kz2,kz2,kz2,e1,e2,zz9.kz4];by_cases w:x.name∈kz8 p
   case neg=>rw[Qbr w,Ev.zz2 (by rfl)];exact Q true (by unfold yb0;rw[Qbr w];rfl)
   rw[Qbs w,Ev.kz1 (by rfl)];by_cases J:x.name∈kz8 q
   case neg=>rw[Qbr J,Ev.zz2 (by rfl)];exact Q true (by unfold yb0;rw[Qbr J,Qbs w];rfl)
   rw[Qbs J,Ev.kz1 (by rfl)];have g1:Option.getD (z2u o x.name) (yz1.mk 0 (zz1.mk 0 (yz6.mk 0 0) false [] []) [] [])=valOf p x.name:=by rw[N,Qbw w];rfl
   have g2:Option.getD (z2u l x.name) (yz1.mk 0 (zz1.mk 0 (yz6.mk 0 0) false [] []) [] [])=valOf q x.name:=by rw[I,Qbw J];rfl
   rw[g1,g2,yz1.kz4,yz1.kz4,Ev.kz0 (y0l _ _ (yuf (by omega)))]
   cases z3:eqB (valOf p x.name) (valOf q x.name)with
   |false=>rw[Ev.zz2 (by rfl)];exact Q true (by unfold yb0;rw[Qbs w,Qbs J,z3];rfl)
   |true=>
    rw[Ev.kz1 (by rfl),yz1.kz4,Ev.kz0 (y71 r.mk' M.1 M.2),kz2];exact Q _ (by unfold yb0;rw[Qbs w,Qbs J,z3];rfl)
 have outer:∀d t m,SM m->mks m=itN p q t->NN p q-(mks m).length=d->∃g,SM g∧mks g=nK p q∧Ev (λn=>z7m n (mks m) (mvs m) (mks l) (mvs l) (mks o) (mvs o) q p) (.ok (mks g,mvs g)):=λd=>by
  induction d using Nat.strongRecOn with
  |ind d U=>
   intro t m r A hd;have hg:=zqy p q t;have⟨c1,c2⟩:=yrs p q (mks m);have P:=(zqy p q (t+1)).len;have G:zhb p q (mks m)=itN p q (t+1):=by rw[A];rfl
   have he:=y04 m;by_cases Y:(zhb p q (mks m)).length=(mks m).length
   ·
    have u:=c2 Y;have W:mks m=nK p q:=by rw[A];exact z00c (by rw[<-A];exact u)
    have:∃g,SM g∧mks g=nK p q∧Ev (λn=>z2l n 0 (p.attrs++q.attrs) ((mks m).length:Int) ((p.attrs++q.attrs).length:Int) (mks m) (mvs m) (mks l) (mvs l) (mks o) (mvs o) q p) (.ok (mks g,mvs g)):=by
     have h5:∃g,SM g∧mks g=mks m∧∀i,SM i->mks i=mks m->i=g:=by
      refine⟨m,r,rfl,λi B j =>?_⟩
      have e:∀a:List (B8×Bool),(∀p∈a,p.2=true)->a=(mks a).map λs=>(s,true):=λa L=>by
       induction a with
       |nil=>rfl
       |cons y a F=>
        have:=L y Qak;show y::a=(y.1,true)::(mks a).map _;rw[<-F λz X=>L z (Qai _ X),<-this]
      rw[e i B.all,e m r.all,j]
     have⟨g,E,D,C⟩:=h5;refine⟨g,E,D.trans W,?_⟩;refine pass _ _ 0 (Qbu _) m r λi B j =>?_
     rw[List.drop_zero]at j;have j:mks i=zhb p q (mks m):=j;rw[u]at j;have:=C i B j;subst this;rw[zld,Ev.kz1 (by simp),kz2,Ev.zz2 (by rw[<-y04 i,j];simp),Ev.yz0]
    have⟨g,E,D,C⟩:=this;refine⟨g,E,D,?_⟩;rw[ztj,Ev.kz0 (y8v (by rw[<-Qap,hlen];omega)),Ev.zhr,kz2,kz2,kz2,<-y04 m];exact C
   ·have hf:(mks m).length<(zhb p q (mks m)).length:=by omega
    let K:List (B8×Bool):=(zhb p q (mks m)).map λs=>(s,true)
    have R:mks K=zhb p q (mks m):=by
     show List.map Prod.fst (List.map _ (zhb p q (mks m)))=_;rw[List.map_map];exact List.map_id _
    have s1:SM K:=⟨λy hy=>by obtain⟨s,_,rfl⟩:=Qbg.1 hy;rfl,by rw[R,G];exact(zqy p q (t+1)).nodup⟩;have I:(zhb p q (mks m)).length<=NN p q:=by rw[G];exact P
    have⟨g,E,D,C⟩:=U (NN p q-(mks K).length) (by rw[R];omega) (t+1) K s1 (by rw[R,G]) rfl;refine⟨g,E,D,?_⟩;rw[ztj,Ev.kz0 (y8v (by rw[<-Qap,hlen];omega)),Ev.zhr,kz2,kz2,kz2,<-y04 m];refine pass _ _ 0 (Qbu _) m r λi B j =>?_
    rw[List.drop_zero]at j;have j:mks i=zhb p q (mks m):=j
    have e:i=K:=by
     have e:∀a:List (B8×Bool),(∀p∈a,p.2=true)->a=(mks a).map λs=>(s,true):=λa L=>by
      induction a with
      |nil=>rfl
      |cons y a F=>
       have:=L y Qak;show y::a=(y.1,true)::(mks a).map _;rw[<-F λz X=>L z (Qai _ X),<-this]
     rw[e i B.all,j]
    subst e;rw[zld,Ev.kz1 (by simp),kz2,kz2,kz2,Ev.kz1 (by rw[<-y04,R];simp;omega)];exact C
 have⟨g,E,D,C⟩:=outer _ 0 [] SM.nil rfl rfl;refine⟨g,E,D,?_⟩;rw[yh7,Ev.kz0 h7,Ev.kz0 h6,kz2,kz2];exact C
def EqS.len{p q:zz0}{R K:List B8}(h:EqS R K)(b:y5f p q K):R.length<=NN p q:=by
 have:=znq (y5c h.1) λx a=>b.sub x ((h.2 x).1 a)
 rw[Qap]at this;simpa[kz8,NN]using this
structure Valid(p:zz0):Prop where
 wf:p.wf
 size:p.size<=1048576
 ok:zb6 p=0
def Valid.form{p:zz0}(h:Valid p):zf4 p=true:=(y5b h.ok).1
def Valid.rn{p:zz0}(h:Valid p):(zz4 p).Nodup:=(y5b h.ok).2.1
def Valid.an{p:zz0}(h:Valid p):(kz8 p).Nodup:=by
 have h:=h.ok;unfold zb6 at h;by_cases d:y64 p=true
 ·rw[Qbw d]at h;cases h
 rw[Qbx d]at h;by_cases b:zf4 p=true
 case neg=>rw[Qbx b]at h;cases h
 rw[Qbw b]at h;by_cases a:yp5 p=true
 ·rw[Qbw a]at h;cases h
 unfold yp5 at a;simp only[Bool.or_eq_true,not_or]at a;exact yw4.1 (by simpa using a.1)
def ymh(K:List B8)(a:zz3):Bool:=(zhm a).any (zhc K)
def y7f(K:List B8)(c:yz5):Bool:=zhc K c.when_||c.do_.any (ymh K)
def zx1(K:List B8)(r:kz3):Bool:=r.cases.any (y7f K)
def yxb{R K:List B8}(h:∀x,x∈R↔x∈K)(r:kz3):zx1 R r=zx1 K r:=by
 have:zhc R=zhc K:=funext λe=>yyk h e
 unfold zx1 y7f ymh;rw[this]
def ynq{r:kz3}{m:List (B8×Bool)}{K:List B8}(E:MK m K)(J:r.wf)(M:r.size<=4000000):Ev (λn=>zbe n r (mks m) (mvs m)) (zx1 K r,mks m,mvs m):=by
 have:=@zxs r
 have e:(zx1 K r,mks m,mvs m)=if r.cases.any (y7f K)=true then (true,mks m,mvs m)else (false,mks m,mvs m):=by unfold zx1;cases r.cases.any (y7f K) <;> rfl
 rw[yac,kz2,e];refine zly (L:=λn k=>z3w n k r.cases (r.cases.length:Int) (mks m) (mvs m)) (by rw[zpg,Ev.kz1 (by simp),Ev.yz0,kz2]) λk l v h =>?_
 have G:=Qad l;have:=zwf G;have d:=ywe J G;have:=@yl0 r.cases[k];have:=@zxt r.cases[k];rw[zpg,Ev.zz2 (by simpa using l),Ev.yz2 (kz7 l),yz1.kz4,kz2,Ev.kz0 (y71 E (z027 d) (by omega)),kz2,y7f]
 cases zhc K r.cases[k].when_ with
 |true=>rw[Ev.zz2 (by rfl),Ev.yz0];rfl
 |false=>
  rw[Ev.kz1 (by rfl),Bool.false_or];refine zly (L:=λn j=>z43 n j r.cases[k].do_ r.cases (r.cases.length:Int) (k:Int) (r.cases[k].do_.length:Int) (mks m) (mvs m)) (by rw[zp5,Ev.kz1 (by simp),wrk (by omega),kz2];exact h) λj o w C =>?_
  have I:=Qad o;have:=y1s I;have A:=yvy d I;generalize z:r.cases[k].do_[j]=a at *;have:=@y4h a;have:=@z024 a;have D:=ygh a;have b:Ev (λn=>z4x n a.args) a.args:=Ev.pure (by show(if _ then _ else _)=_;rw[Qbw (by omega)]);have y:zhm a=a.args++a.items.flatMap (·.args):=rfl;rw[y,Qap]at D
  rw[zp5,Ev.zz2 (by simpa using o),Ev.yz2 (by rw[kz7 o,z]),Ev.kz0 b,kz2];refine zil (L:=λn i s=>z3x n i a.items r.cases[k].do_ r.cases (r.cases.length:Int) (k:Int) (r.cases[k].do_.length:Int) (j:Int) (a.items.length:Int) (mks m) (mvs m) s) (xs:=a.items) (g:=λx=>x.args) (B:=8000000) (by omega) ?_ λi F s N h =>?_
  ·rw[zpr,Ev.kz1 (by simp),kz2,<-y,Ev.kz0 (yjm E (λe u=>(zv1 u).2 A) (λe u=>by have:=(zv1 u).1;omega) (by rw[y,Qap];omega)),kz2,wrk (by omega),ymh];cases (zhm a).any (zhc K)
   ·rw[Ev.kz1 (by rfl)];exact C
   ·rw[Ev.zz2 (by rfl),Ev.yz0];rfl
  ·rw[zpr,Ev.zz2 (by simpa using F),Ev.yz2 (kz7 F),Ev.yz2 (z69 (by omega)),kz2,wrk (by omega)];exact h
def rz:kz3:=⟨[],[],[]⟩
def zhx(p:zz0)(s:B8):kz3:=match p.rules[(atI (zz4 p) s).toNat]? with
 |some r=>r
 |none=>rz
def y7w{p:zz0}{s:B8}(h:s∈zz4 p):∃i:Nat,∃a:i<p.rules.length,atI (zz4 p) s=(i:Int)∧p.rules[i].name=s∧zhx p s=p.rules[i]:=by
 have⟨i,a,b,d,_⟩:=ybk h;exact⟨i,a,b,d,by unfold zhx;rw[b,Int.toNat_natCast,Qab a]⟩
def ydy{p:zz0}(g:(zz4 p).Nodup){r:kz3}(d:r∈p.rules):zhx p r.name=r:=by
 have⟨j,h,e⟩:=List.mem_iff_getElem.1 d;have a:j<(zz4 p).length:=by simpa[zz4]using h
 have b:(zz4 p)[j]=r.name:=by simp[zz4,e]
 have⟨i,k,o,m,l⟩:=y7w (p:=p) (s:=r.name) (by rw[<-b];exact Qad a);have n:i<(zz4 p).length:=by simpa[zz4]using k
 have:i=j:=(List.getElem_inj g).1 (show(zz4 p)[i]=(zz4 p)[j] by rw[b,<-m];simp[zz4]);subst this;rw[l,e]
def yar(p q:zz0)(K:List B8)(s:B8):Bool := !decide (s∈zz4 p)||(!decide (s∈zz4 q)||(!eqB (zhx p s) (zhx q s)||zx1 K (zhx p s)))
def y24(p q:zz0)(K:List B8)(C:List B8)(s:B8):List B8:=if yar p q K s=true then zsm C s else C
def cK(p q:zz0):List B8:=(zz4 p++zz4 q).foldl (y24 p q (nK p q)) []
structure y99(p q:zz0)(C:List B8):Prop where
 nodup:C.Nodup
 sub:∀x∈C,x∈zz4 p++zz4 q
def y99.len{p q:zz0}{C:List B8}(h:y99 p q C):C.length<=p.rules.length+q.rules.length:=by
 have:=znq h.nodup h.sub;rw[Qap]at this;simpa[zz4]using this
def y99.step{p q:zz0}{K C:List B8}(h:y99 p q C){s:B8}(a:s∈zz4 p++zz4 q):y99 p q (y24 p q K C s):=by
 unfold y24;split
 ·refine⟨zvv h.nodup,λy hy =>?_⟩
  rcases zo5.1 hy with hy|hy
  ·exact h.sub y hy
  ·rw[hy];exact a
 ·exact h
def yfs{p q:zz0}{K:List B8}:∀(l:List B8) {C:List B8},y99 p q C->(∀x∈l,x∈zz4 p++zz4 q)->y99 p q (l.foldl (y24 p q K) C)
 |[],_,h,_=>h
 |x::l,C,h,a=>yfs l (h.step (a x Qak)) λy b=>a y (Qai _ b)
def yuh(p q:zz0):y99 p q (cK p q):=yfs _ ⟨by simp,by simp⟩ λ_ h=>h
def yle{p:zz0}{s:B8}(e:p.size<=4000000):Ev (λn=>za1 n p s) (atI (zz4 p) s):=by
 have:=@zfw p
 have h:Ev (λn=>yzn n p.rules s) (atI (zz4 p) s,s):=by
  rw[zgj];refine yqo (L:=λn k=>zzd n k p.rules (p.rules.length:Int) s) (xs:=p.rules) (f:=(·.name)) (by rw[z1f,Ev.kz1 (by simp),Ev.yz0]) λk a v =>?_
  have b:Ev (λn=>zco n p.rules[k] s) (p.rules[k].name==s,s):=by rw[yfq,Ev.yz0]
  constructor
  ·intro q;rw[z1f,Ev.zz2 (by simpa using a),Ev.yz2 (kz7 a),Ev.kz0 b,Ev.zz2 (by simpa using q),Ev.yz0]
  ·intro q d;rw[z1f,Ev.zz2 (by simpa using a),Ev.yz2 (kz7 a),Ev.kz0 b,Ev.kz1 (by simpa using q),wrk (by omega)];exact d
 rw[ym3,Ev.kz0 h,Ev.yz0]
def z02e{r:kz3}:(zz0.mk [] [r]).size=r.size+3:=by rw[zz0.size_eq];simp;omega
def z069{a b:kz3}:eqB (zz0.mk [] [a]) (zz0.mk [] [b])=eqB a b:=by
 by_cases h:a=b
 ·rw[h,zgl,zgl]
 ·rw[yzw.2 h,yzw.2 (λe=>h (by injection e with _ e;injection e))]
def y4d{l:zz5}{i:Nat}(a:i<l.length):sub l (i:Int) ((i+1:Nat):Int)=some [l[i]]:=by
 unfold sub;rw[Qbw (by omega)];simp only[Int.toNat_natCast];rw[<-zic a,List.drop_append_of_le_length (by simp;omega)];simp[Nat.min_eq_left (Nat.le_of_lt a)]
def ymm{p q:zz0}(A:Valid p)(z:Valid q):∃m,SM m∧mks m=cK p q∧Ev (λn=>z9m n p q) (.ok (mks m,mvs m)):=by
 have lp:=@zfw p;have lq:=@zfw q;have sp:=A.size;have sq:=z.size;have⟨G,P,W,H⟩:=yfa A.wf z.wf A.size z.size A.an z.an;have D:=P.mk';rw[W]at D;have e:zz4 p++zz4 q=(p.rules++q.rules).map (·.name):=by simp[zz4]
 have loop:∀k,k<=(p.rules++q.rules).length->∀m,SM m->∃d,SM d∧mks d=((zz4 p++zz4 q).drop k).foldl (y24 p q (nK p q)) (mks m)∧Ev (λn=>z4a n (k:Int) (p.rules++q.rules) ((p.rules++q.rules).length:Int) (mks m) (mvs m) (mks G) (mvs G) q p) (.ok (mks d,mvs d)) :=
  down (λm J=>⟨m,J,by rw[e,List.drop_of_length_le (by simp)];rfl,by rw[zpw,Ev.kz1 (by simp),Ev.yz0,kz2]⟩) λk K R m J=>by
   have X:=Qad K;have F:=kz7 K;have O:k<(zz4 p++zz4 q).length:=by rw[e,Qbd];exact K
   have N:(zz4 p++zz4 q)[k]=(p.rules++q.rules)[k].name:=by simp only[e,List.getElem_map]
   rw[<-Qah (h:=O),List.foldl_cons,N];generalize h2:(p.rules++q.rules)[k]=x at *;have E:k<=4611686018427387904:=by rw[Qap]at K;omega
   have I:∀b:Bool,b=yar p q (nK p q) x.name->∃d,SM d∧mks d=((zz4 p++zz4 q).drop (k+1)).foldl (y24 p q (nK p q)) (y24 p q (nK p q) (mks m) x.name)∧Ev (λn=>z0t n (p.rules++q.rules) ((p.rules++q.rules).length:Int) (k:Int) b (mks m) (mvs m) (mks G) (mvs G) q p x) (.ok (mks d,mvs d)):=λb Z=>by
    cases b with
    |true=>
     have⟨d,o,l,g⟩:=R (z6n m x.name true) (J.put _);refine⟨d,o,by rw[l,ybu];unfold y24;rw[Qbw Z.symm],?_⟩
     rw[zoo,Ev.zz2 (by rfl),zo4,wrk E,kz2,kz2,kz2,kz2];exact g
    |false=>
     have⟨d,o,l,g⟩:=R m J;refine⟨d,o,by rw[l];unfold y24;rw[Qbx (by rw[<-Z];simp)],?_⟩;rw[zoo,Ev.kz1 (by rfl),zo4,wrk E,kz2,kz2,kz2,kz2];exact g
   simp only[zpw (a:=(k:Int)),Ev.zz2 (show decide ((k:Int)<((p.rules++q.rules).length:Int))=true from Qbs (by omega)),Ev.yz2 F,Ev.kz0 (yle (p:=p) (s:=x.name) (by omega)),Ev.kz0 (yle (p:=q) (s:=x.name) (by omega)),kz2];by_cases u:x.name∈zz4 p
   case neg=>
    have⟨d,o,l,g⟩:=I true (by unfold yar;rw[Qbr u];rfl);exact⟨d,o,l,by rw[Ev.zz2 (Qbs (zfc.2 u))];exact g⟩
   by_cases y:x.name∈zz4 q
   case neg=>
    have⟨d,o,l,g⟩:=I true (by unfold yar;rw[Qbs u,Qbr y];rfl);exact⟨d,o,l,by rw[Ev.kz1 (Qbr λw=>zfc.1 w u),Ev.zz2 (Qbs (zfc.2 y))];exact g⟩
   have⟨i,L,U,i2,i3⟩:=y7w u;have⟨j,Y,Q,j2,j3⟩:=y7w y;have h1:=zn2 (Qad L)
   have r:Ev (λn=>zc7 n (zz0.mk [] [p.rules[i]]) (zz0.mk [] [q.rules[j]])) (eqB (zhx p x.name) (zhx q x.name)):=by
    have:=yv8 (a:=zz0.mk [] [p.rules[i]]) (b:=zz0.mk [] [q.rules[j]]) (by rw[z02e];omega);rw[z069]at this;rw[i3,j3];exact this
   cases B:eqB (zhx p x.name) (zhx q x.name)with
   |false=>
    have⟨d,o,l,g⟩:=I true (by unfold yar;rw[Qbs u,Qbs y,B];rfl);refine⟨d,o,l,?_⟩
    rw[Ev.kz1 (Qbr λw=>zfc.1 w u),Ev.kz1 (Qbr λw=>zfc.1 w y),U,Q,wrk (by omega),wrk (by omega),Ev.yz2 (y4d L),Ev.yz2 (y4d Y),Ev.kz0 r,B,Ev.zz2 (by rfl)];exact g
   |true=>
    have M:x=zhx p x.name:=by
     rcases Qbb.1 X with w|w
     ·exact(ydy A.rn w).symm
     ·rw[z9s.1 B];exact(ydy z.rn w).symm
    have C:x.wf∧x.size<=4000000:=by
     rcases Qbb.1 X with w|w
     ·have:=zn2 w;exact⟨yro A.wf w,by omega⟩
     ·have:=zn2 w;exact⟨yro z.wf w,by omega⟩
    have⟨d,o,l,g⟩:=I (zx1 (nK p q) x) (by unfold yar;rw[Qbs u,Qbs y,B,<-M];rfl);refine⟨d,o,l,?_⟩;rw[Ev.kz1 (Qbr λw=>zfc.1 w u),Ev.kz1 (Qbr λw=>zfc.1 w y),U,Q,wrk (by omega),wrk (by omega),Ev.yz2 (y4d L),Ev.yz2 (y4d Y),Ev.kz0 r,B,Ev.kz1 (by rfl),Ev.kz0 (ynq D C.1 C.2),kz2];exact g
 have⟨d,o,l,g⟩:=loop 0 (Qbu _) [] SM.nil;refine⟨d,o,by rw[l,List.drop_zero];rfl,?_⟩;rw[yau,Ev.kz0 H,Ev.zhr,Ev.kz0 (ypu (by omega)),Ev.zhr,kz2];exact g
def both(p q:zz0):Int:=if zb6 p≠0 then zb6 p else zb6 q
def y6t{p q:zz0}(b:p.wf)(a:q.wf)(e:p.size<=1048576)(d:q.size<=1048576):Ev (λn=>zbs n p q) (both p q):=by
 rw[yox,Ev.kz0 (zyv b (by omega)),both];by_cases h:zb6 p=0
 ·rw[Ev.kz1 (by simpa using h),Qbx (by simp[h]),Ev.kz0 (zyv a (by omega)),Ev.yz0]
 ·rw[Ev.zz2 (by simpa using h),Qbw h,Ev.yz0]
def ygc{p:zz0}(b:p.size<=1048576):∀s∈kz8 p,s.length<=8388608:=λs h=>by
 obtain⟨t,a,rfl⟩:=Qbg.1 h;have:=y2o a;have:=@y2b t;omega
def y3k{p:zz0}(b:p.size<=1048576):∀s∈zz4 p,s.length<=8388608:=λs h=>by
 obtain⟨t,a,rfl⟩:=Qbg.1 h;have:=zn2 a;have:=@z00e t;omega
def rl(q:zz0)(s:B8):List B8:=@dite _ (∃r,Set q s r) (Classical.propDecidable _) (λh=>h.choose.1) λ_=>[]
def ygp{q:zz0}(b:Valid q){s:B8}(g:s∈zz4 q):Ev (λn=>zak n q s) (rl q s,0):=by
 have⟨r,h,d⟩:=zx6 (root:=s) b.wf (by have:=b.size;omega);rw[Qbx (by simp[b.ok]),Qbw g]at d;refine h.to ?_;have a:∃r,Set q s r:=⟨r,d⟩;have e:rl q s=a.choose.1:=by unfold rl;rw[dif_pos a]
 rw[e,z04c d a.choose_spec];have:=a.choose_spec.1;exact Prod.ext rfl this
def z064{q:zz0}(a:Valid q){s:B8}(b:s∈zz4 q):(rl q s).length<=8000000:=by
 have⟨r,g,d⟩:=zx6 (root:=s) a.wf (by have:=a.size;omega);have e:=(ygp a b).det g;have:=yxt (by have:=a.size;omega) d;rw[<-e]at this;exact this
def ydg(q:zz0)(K:List B8)(C:List B8)(s:B8):List B8:=if ((rl q s).any λx=>decide (x∈K))=true then zsm C s else C
def aK(p q:zz0):List B8:=(zz4 q).foldl (ydg q (cK p q)) []
structure zxj(q:zz0)(C:List B8):Prop where
 nodup:C.Nodup
 sub:∀x∈C,x∈zz4 q
def zxj.add{q:zz0}{C:List B8}(h:zxj q C){s:B8}(a:s∈zz4 q):zxj q (zsm C s):=by
 refine⟨zvv h.nodup,λy hy =>?_⟩
 rcases zo5.1 hy with hy|hy
 ·exact h.sub y hy
 ·rw[hy];exact a
def zxj.step{q:zz0}{K C:List B8}(h:zxj q C){s:B8}(a:s∈zz4 q):zxj q (ydg q K C s):=by
 unfold ydg;split
 ·exact h.add a
 ·exact h
def ye6{q:zz0}{K:List B8}:∀(l:List B8) {C:List B8},zxj q C->(∀x∈l,x∈zz4 q)->zxj q (l.foldl (ydg q K) C)
 |[],_,h,_=>h
 |x::l,C,h,a=>ye6 l (h.step (a x Qak)) λy b=>a y (Qai _ b)
def z03n(p q:zz0):zxj q (aK p q):=ye6 _ ⟨by simp,by simp⟩ λ_ h=>h
def zxj.len{q:zz0}{C:List B8}(h:zxj q C):C.length<=q.rules.length:=by
 have:=znq h.nodup h.sub;simpa[zz4]using this
def yoq{l:List B8}{m:List (B8×Bool)}{K:List B8}(g:MK m K)(o:l.length<=8388608):Ev (λn=>yzo n l (mks m) (mvs m)) (l.any (λx=>decide (x∈K)),mks m,mvs m):=by
 have⟨i,j,h⟩:=zpx (L:=λn k=>zzh n k l (l.length:Int) (mks m) (mvs m)) (l:=l) (p:=λs=>decide (s∈K)) (st:=(mks m,mvs m))
  (by rw[z2x,Ev.kz1 (by simp),Ev.yz0,kz2]) λk a v=>by
   have d:Ev (λn=>z7b n l[k] (mks m) (mvs m)) (decide (l[k]∈K),mks m,mvs m):=by
    rw[y43,Ev.yz0,kz2,g]
   constructor
   ·intro b;rw[z2x,Ev.zz2 (by simpa using a),Ev.yz2 (kz7 a),kz2,Ev.kz0 d,Ev.zz2 b,Ev.yz0,kz2]
   ·intro b e;rw[z2x,Ev.zz2 (by simpa using a),Ev.yz2 (kz7 a),kz2,Ev.kz0 d,Ev.kz1 b,kz2,wrk (by omega)];exact e
 rw[zhw,kz2,Ev.kz0 (by rw[zjm,kz2];exact j),Ev.yz0,h,kz2]
def yk6{p q:zz0}(j:Valid q){m:List (B8×Bool)}(B:MK m (cK p q)):Ev (λn=>z1d n 0 q.rules (q.rules.length:Int) [] [] q (mks m) (mvs m)) (.ok (yzm (aK p q),0)):=by
 have C:=@zfw q;have z:=j.size;have o:(zz4 q).length=q.rules.length:=by simp[zz4]
 have loop:∀k,k<=q.rules.length->∀b,SM b->((zz4 q).drop k).foldl (ydg q (cK p q)) (mks b)=aK p q->Ev (λn=>z1d n (k:Int) q.rules (q.rules.length:Int) (mks b) (mvs b) q (mks m) (mvs m)) (.ok (yzm (aK p q),0)) :=
  down (λb i a=>by
   rw[<-o,List.drop_length]at a;have a:mks b=aK p q:=a;have w:=z03n p q
   rw[zmy,Ev.kz1 (by simp),kz2,Ev.kz0 (y6x i (by rw[a];have:=w.len;omega) (by rw[a];exact λs A=>y3k z s (w.sub s A))),Ev.yz0,a]) λk u r b i a=>by
   have e:k<(zz4 q).length:=by omega
   have d:(zz4 q)[k]=q.rules[k].name:=by simp[zz4]
   have g:q.rules[k].name∈zz4 q:=by rw[<-d];exact Qad e
   rw[<-Qah (h:=e),List.foldl_cons,d]at a;rw[zmy,Ev.zz2 (by simpa using u),Ev.yz2 (kz7 u),Ev.kz0 (ygp j g),kz2,kz2,Ev.kz0 (yoq (l:=rl q q.rules[k].name) B (by have:=z064 j g;omega)),kz2];unfold ydg at a
   cases y:(rl q q.rules[k].name).any λx=>decide (x∈cK p q)with
   |true=>
    rw[y,Qbw rfl]at a;rw[Ev.zz2 (by rfl),zn5,kz2,kz2,wrk (by omega)]
    exact r _ (i.put _) (by rw[ybu];exact a)
   |false=>
    rw[y,Qbx (by simp)]at a;rw[Ev.kz1 (by rfl),zn5,kz2,kz2,wrk (by omega)];exact r _ i a
 exact loop 0 (Qbu _) [] SM.nil (by rw[List.drop_zero];rfl)
def ye7{a:List B8}(e:a.length<=8000000):Ev (λn=>z88 n a a) true:=by
 rw[yje,Ev.kz1 (z028 rfl)]
 have:=z00p (L:=λn k=>z6w n k a a) (xs:=a) (ys:=a) (fail:=false) (r:=true) rfl (by rw[zuu,Ev.kz1 (by simp),Ev.yz0]) λk b _ v d=>by
  rw[zgl,Qbw rfl,zuu,Ev.zz2 (by simpa using b),Ev.yz2 (kz7 b),Ev.yz2 (kz7 b),Ev.kz1 (by simp),wrk (by omega)];exact d
 rw[zgl]at this;exact this
def y6i{K:List B8}{e:yz1}:zhc K e=true↔∃s∈(zar e).1,s∈K:=by simp[zhc]
def yrd{p q:zz0}{K:List B8}{x:zz9}:yb0 p q K x=true↔x.name∉kz8 p∨x.name∉kz8 q∨valOf p x.name≠valOf q x.name∨zhc K x.value=true:=by
 simp only[yb0,Bool.or_eq_true,Bool.not_eq_true',decide_eq_false_iff_not,yzw]
def z00x{p q:zz0}{K M:List B8}{x:zz9}(h:∀s∈K,s∈M)(a:yb0 p q K x=true):yb0 q p M x=true:=by
 rw[yrd]at a ⊢
 rcases a with h1|h1|h1|h1
 ·exact .inr (.inl h1)
 ·exact .inl h1
 ·exact .inr (.inr (.inl λe=>h1 e.symm))
 ·have⟨s,d,b⟩:=y6i.1 h1;exact .inr (.inr (.inr (y6i.2 ⟨s,d,h s b⟩)))
def yrh{p q:zz0}:∀(l:zz7) (K:List B8),l.foldl (zb5 p q) K=K->∀x∈l,zb5 p q K x=K
 |[],_,_,x,hx=>by cases hx
 |y::l,K,h,x,hx=>by
  rw[List.foldl_cons]at h;have d:=ysl p q K y;have b:=(y7p (p:=p) (q:=q) l (zb5 p q K y)).1;rw[h]at b;have a:=d.2 (by omega);rw[a]at h
  rcases Qbl.1 hx with rfl|hx
  ·exact a
  ·exact yrh l K h x hx
def yyl{p q:zz0}{x:zz9}(b:x∈p.attrs++q.attrs)(h:yb0 p q (nK p q) x=true):x.name∈nK p q:=by
 have⟨t,_,a⟩:=z02p p q;have d:zhb p q (nK p q)=nK p q:=by rw[<-z00c a];exact a
 have:=yrh (p:=p) (q:=q) _ _ d x b;unfold zb5 at this;rw[Qbw h]at this;rw[<-this];exact zo5.2 (.inr rfl)
def yw7{p q:zz0}{M:List B8}(g:∀x∈q.attrs++p.attrs,yb0 q p M x=true->x.name∈M):∀(l:zz7) (K:List B8),(∀x∈l,x∈p.attrs++q.attrs)->(∀s∈K,s∈M)->∀s∈l.foldl (zb5 p q) K,s∈M
 |[],K,_,b,s,d=>b s d
 |y::l,K,e,b,s,d=>by
  refine yw7 g l (zb5 p q K y) (λx h=>e x (Qai _ h)) (λz a =>?_) s d;unfold zb5 at a;split at a
  ·rename_i i
   rcases zo5.1 a with a|rfl
   ·exact b z a
   ·refine g y ?_ (z00x b i);have:=Qbb.1 (e y Qak);exact Qbb.2 this.symm
  ·exact b z a
def z03t(p q:zz0):∀s∈nK p q,s∈nK q p:=by
 have:∀t,∀s∈itN p q t,s∈nK q p:=λt=>by
  induction t with
  |zero=>intro s d;cases d
  |succ t a=>exact yw7 (λx b h=>yyl b h) _ _ (λ_ h=>h) a
 exact this _
def z005(p q:zz0)(s:B8):s∈nK p q↔s∈nK q p:=⟨z03t p q s,z03t q p s⟩
def ykr(e:yz1):zhc [] e=false:=by
 cases h:zhc [] e with
 |false=>rfl
 |true=>have⟨_,_,h⟩:=y6i.1 h;cases h
def ypx(p:zz0):∀t,itN p p t=[]
 |0=>rfl
 |t+1=>by
  show zhb p p (itN p p t)=[];rw[ypx p t]
  have:∀l:zz7,(∀x∈l,x∈p.attrs)->l.foldl (zb5 p p) []=[]:=λl=>by
   induction l with
   |nil=>intro _;rfl
   |cons y l e=>
    intro d
    have g:zb5 p p [] y=[]:=by
     unfold zb5;rw[Qbx];rw[yrd];have b:y.name∈kz8 p:=Qbg.2 ⟨y,d y Qak,rfl⟩
     rintro (h|h|h|h)
     ·exact h b
     ·exact h b
     ·exact h rfl
     ·rw[ykr]at h;cases h
    rw[List.foldl_cons,g];exact e λx a=>d x (Qai _ a)
  exact this _ λx a=>by rcases Qbb.1 a with h|h <;> exact h
def ywg(p:zz0):nK p p=[]:=ypx p _
def yyh(r:kz3):zx1 [] r=false:=by
 have a:∀e,zhc [] e=false:=ykr;simp[zx1,y7f,ymh,a]
def yre{p q:zz0}{K:List B8}{s:B8}:yar p q K s=true↔s∉zz4 p∨s∉zz4 q∨zhx p s≠zhx q s∨zx1 K (zhx p s)=true:=by
 simp only[yar,Bool.or_eq_true,Bool.not_eq_true',decide_eq_false_iff_not,yzw]
def z03s{p q:zz0}{s:B8}(a:yar p q (nK p q) s=true):yar q p (nK q p) s=true:=by
 rw[yre]at a ⊢;by_cases e:zhx p s=zhx q s
 ·rcases a with h1|h1|h1|h1
  ·exact .inr (.inl h1)
  ·exact .inl h1
  ·exact absurd e h1
  ·exact .inr (.inr (.inr (by rw[<-e,<-yxb (z005 p q)];exact h1)))
 ·exact .inr (.inr (.inl λh=>e h.symm))
def fold_add{f:List B8->B8->List B8}{b:B8->Bool}(d:∀C s,f C s=if b s=true then zsm C s else C):∀(l C:List B8) (x:B8),x∈l.foldl f C↔x∈C∨(x∈l∧b x=true)
 |[],C,x=>by simp
 |y::l,C,x=>by
  rw[List.foldl_cons,fold_add d l,d];by_cases h:b y=true
  ·rw[Qbw h,zo5];constructor
   ·rintro ((h1|rfl)|h1)
    ·exact .inl h1
    ·exact .inr ⟨Qak,h⟩
    ·exact .inr ⟨Qai _ h1.1,h1.2⟩
   ·rintro (h1|⟨h1,a⟩)
    ·exact .inl (.inl h1)
    ·rcases Qbl.1 h1 with rfl|h1
     ·exact .inl (.inr rfl)
     ·exact .inr ⟨h1,a⟩
  ·rw[Qbx h];constructor
   ·rintro (h1|h1)
    ·exact .inl h1
    ·exact .inr ⟨Qai _ h1.1,h1.2⟩
   ·rintro (h1|⟨h1,a⟩)
    ·exact .inl h1
    ·rcases Qbl.1 h1 with rfl|h1
     ·exact absurd a h
     ·exact .inr ⟨h1,a⟩
def z03x{p q:zz0}{s:B8}:s∈cK p q↔s∈zz4 p++zz4 q∧yar p q (nK p q) s=true:=by
 unfold cK;rw[fold_add (f:=y24 p q (nK p q)) (b:=yar p q (nK p q)) λC s=>rfl];simp
def z06a(p q:zz0)(s:B8):s∈cK p q↔s∈cK q p:=by
 have one:∀p q:zz0,s∈cK p q->s∈cK q p:=λp q h=>by
  rw[z03x]at h ⊢;exact⟨Qbb.2 (Qbb.1 h.1).symm,z03s h.2⟩
 exact⟨one p q,one q p⟩
def yvw(p:zz0):cK p p=[]:=by
 refine List.eq_nil_iff_forall_not_mem.2 λs a =>?_
 rw[z03x,ywg,yre]at a
 have b:s∈zz4 p:=by rcases Qbb.1 a.1 with h|h <;> exact h
 rcases a.2 with h|h|h|h
 ·exact h b
 ·exact h b
 ·exact h rfl
 ·rw[yyh]at h;cases h
def z03l{p q:zz0}{s:B8}:s∈aK p q↔s∈zz4 q∧((rl q s).any λx=>decide (x∈cK p q))=true:=by
 unfold aK;rw[fold_add (f:=ydg q (cK p q)) (b:=λs=>(rl q s).any λx=>decide (x∈cK p q)) λC s=>rfl];simp
def z04r(p:zz0):aK p p=[]:=by
 refine List.eq_nil_iff_forall_not_mem.2 λs a =>?_
 rw[z03l,yvw]at a;simp at a
def z047{q:zz0}(b:Valid q){s:B8}(g:s∈zz4 q):s∈rl q s:=by
 have⟨r,h,d⟩:=zx6 (root:=s) b.wf (by have:=b.size;omega);rw[Qbx (by rw[b.ok];simp),Qbw g]at d;have a:∃r,Set q s r:=⟨r,d⟩;have e:rl q s=a.choose.1:=by unfold rl;rw[dif_pos a]
 rw[e];exact(a.choose_spec.2.2 s).2 .refl
def z02z{p q:zz0}(b:Valid q){s:B8}(a:s∈zz4 q)(h:s∈cK p q):s∈aK p q :=
 z03l.2 ⟨a,List.any_eq_true.2 ⟨s,z047 b a,Qbs h⟩⟩
def yl3{K M:List B8}(b:K.Nodup)(a:M.Nodup)(h:∀x,x∈K↔x∈M):yzm K=yzm M :=
 EqS.sort ⟨zdn a,λx=>by rw[(z2z M).mem_iff,h]⟩ b
section
variable {p q:zz0}(Vp:Valid p)(Vq:Valid q)
include Vp Vq
theorem y6z:both p q=0:=by unfold both;rw[Vp.ok,Vq.ok];rfl
theorem yez:Ev (λn=>za3 n p q) (.ok (yzm (nK p q),0)):=by
 have r:=@zl0 p;have o:=@zl0 q;have b:=Vp.size;have a:=Vq.size;have⟨m,j,d,i⟩:=yfa Vp.wf Vq.wf b a Vp.an Vq.an;have e:=zqy p q (NN p q+1);have u:(nK p q).length<=NN p q:=e.len;have l:NN p q=p.attrs.length+q.attrs.length:=rfl
 have g:Ev (λn=>z56 n (mks m) (mvs m)) (yzm (mks m),mks m,mvs m):=y6x j (by rw[d];omega) (by
  rw[d];intro s k
  rcases Qbb.1 (e.sub s k)with h|h
  ·exact ygc b s h
  ·exact ygc a s h)
 rw[yho,Ev.kz0 (y6t Vp.wf Vq.wf b a),Ev.kz1 (by rw[y6z Vp Vq];rfl),Ev.kz0 i,Ev.zhr,kz2,Ev.kz0 g,Ev.yz0,d]
theorem zpv:Ev (λn=>z3p n p q) (.ok (yzm (cK p q),0))∧Ev (λn=>z4m n p q) (.ok (yzm (aK p q),0)):=by
 have r:=@zfw p;have o:=@zfw q;have e:=Vp.size;have d:=Vq.size;have⟨a,k,b,j⟩:=ymm Vp Vq;have i:=yuh p q;have u:=i.len
 have l:Ev (λn=>z56 n (mks a) (mvs a)) (yzm (mks a),mks a,mvs a):=y6x k (by rw[b];omega) (by
  rw[b];intro s m
  rcases Qbb.1 (i.sub s m)with h|h
  ·exact y3k e s h
  ·exact y3k d s h)
 have g:MK a (cK p q):=by rw[<-b];exact k.mk'
 constructor
 ·rw[yap,Ev.kz0 (y6t Vp.wf Vq.wf e d),Ev.kz1 (by rw[y6z Vp Vq];rfl),Ev.kz0 j,Ev.zhr,kz2,Ev.kz0 l,Ev.yz0,b]
 ·rw[y8b,Ev.kz0 (y6t Vp.wf Vq.wf e d),Ev.kz1 (by rw[y6z Vp Vq];rfl),Ev.kz0 j,Ev.zhr,kz2];exact yk6 Vq g
end
def z02l{l:List B8}{s:B8}(a:l.length<=8388608):Ev (λn=>z2w n l s) (decide (s∈l)):=by
 rw[y0n,Ev.kz0 (zxp a),Ev.yz0];have:=@zfc l s;by_cases h:s∈l
 ·rw[Qbs h];exact Qbs (by have:=mt this.1 (by simpa using h);omega)
 ·rw[Qbr h];exact Qbr (by have:=this.2 h;omega)
def yr2{p:zz0}(a:p.wf)(e:p.size<=1048576):∃b,Ev (λn=>z1j n p) b∧(b=true->Valid p):=by
 have⟨g,d⟩:=great (p:=p) (by omega);cases g
 ·refine⟨zb6 p==0,?_,λh=>⟨a,e,by simpa using h⟩⟩;rw[zl2,Ev.kz0 d,Ev.zz2 (by rfl),Ev.kz0 (yra a (by omega)),Ev.yz0]
 ·exact⟨false,by rw[zl2,Ev.kz0 d,Ev.kz1 (by rfl),Ev.yz0],λh=>by cases h⟩
def yjr(p q:zz0)(B:p.wf)(A:q.wf)(Y:p.size+q.size<=1048576):∃n,kzv n p q=some (Res.ok true):=by
 have u:p.size<=1048576:=by omega
 have s:q.size<=1048576:=by omega
 refine Ev.get ?_;rw[znc,Ev.kz0 z034,Ev.zhr];have⟨K,e,r⟩:=yr2 B u;have⟨J,d,o⟩:=yr2 A s;have j:Ev (λn=>zzn n true true q p) (.ok true):=by rw[zcu,Ev.zz2 (by rfl),Ev.yz0]
 rw[Ev.kz0 e];cases K
 case false=>rw[Ev.zz2 (by rfl)];exact j
 rw[Ev.kz1 (by rfl),Ev.kz0 d];cases J
 case false=>rw[Ev.zz2 (by rfl)];exact j
 have Vp:=r rfl;have Vq:=o rfl;have Q:=@zl0 p;have O:=@zl0 q;have M:=@zfw p;have L:=@zfw q;have l:=zqy p q (NN p q+1);have D:=zqy q p (NN q p+1);have m:=yuh p q;have E:=yuh q p;have F:=z03n p q;have R:(nK p q).length<=NN p q:=l.len;have N:NN p q=p.attrs.length+q.attrs.length:=rfl;have U:=m.len;have X:=F.len;have G:yzm (nK q p)=yzm (nK p q):=yl3 D.nodup l.nodup λx=>z005 q p x
 have I:yzm (cK q p)=yzm (cK p q):=yl3 E.nodup m.nodup λx=>z06a q p x
 have w:=y06 (nK p q);have g:=y06 (cK p q);have y:=y06 (aK p q);have a:yzm ([]:List B8)=[]:=Qao (y06 [])
 rw[Ev.kz1 (by rfl),zcu,Ev.kz1 (by rfl),Ev.kz0 (yez Vp Vp),Ev.zhr,Ev.kz0 (zpv Vp Vp).1,Ev.zhr,Ev.kz0 (zpv Vp Vp).2,Ev.zhr,Ev.kz0 (yez Vp Vq),Ev.zhr,
  Ev.kz0 (yez Vq Vp),Ev.zhr,Ev.kz0 (zpv Vp Vq).1,Ev.zhr,Ev.kz0 (zpv Vq Vp).1,Ev.zhr,Ev.kz0 (zpv Vp Vq).2,Ev.zhr,ywg,yvw,z04r,a,G,I]
 rw[Ev.kz1 (by rfl),Ev.kz1 (by rfl),Ev.kz1 (by rfl),Ev.kz1 (by rfl),Ev.kz1 (by rfl),Ev.kz1 (by rfl),Ev.kz1 (by rfl),Ev.kz1 (by rfl),Ev.kz1 (by rfl),Ev.kz1 (by rfl)];show Ev (λn=>zz6 n _ _ _ _ _ true false q) (.ok true);rw[zlj,Ev.kz1 (by rfl)]
 have loop:∀k,k<=q.rules.length->Ev (λn=>zzr n (k:Int) (yzm (aK p q)) (yzm (cK p q)) (yzm (cK p q)) (yzm (nK p q)) (yzm (nK p q)) true q) (.ok true) :=
  down (by
   rw[zcm,Ev.kz1 (by simp),Ev.zz2 (by rfl),Ev.kz0 (ye7 (by rw[w];omega)),Ev.zz2 (by rfl),Ev.kz0 (ye7 (by rw[g];omega)),Ev.yz0]) λk b z=>by
   have C:q.rules[k].name∈zz4 q:=Qbg.2 ⟨_,Qad b,rfl⟩
   have i:Ev (λn=>kzq n (yzm (aK p q)) (yzm (cK p q)) (yzm (cK p q)) (yzm (nK p q)) (yzm (nK p q)) true (k:Int) false q) (.ok true):=by
    rw[zl9,Ev.kz1 (by rfl),wrk (by omega)];exact z
   rw[zcm,Ev.zz2 (by simpa using b),Ev.yz2 (kz7 b),Ev.kz0 (z02l (by rw[g];omega))];by_cases h:q.rules[k].name∈cK p q
   ·rw[Ev.zz2 (by simpa[(z2z _).mem_iff]using h),Ev.yz2 (kz7 b),Ev.kz0 (z02l (by rw[y];omega)),Qbs ((z2z _).mem_iff.2 (z02z Vq C h))];exact i
   ·rw[Ev.kz1 (by simpa[(z2z _).mem_iff]using h)];exact i
 exact loop 0 (Qbu _)
end
end Go.Proofs.YthlmhmebajjkbaaGreatDoor
