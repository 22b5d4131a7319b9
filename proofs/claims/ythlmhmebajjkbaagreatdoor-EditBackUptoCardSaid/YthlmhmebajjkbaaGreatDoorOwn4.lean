/-
  PROGRAMS: NAMES, WHAT IS WELL FORMED.
-/
import Derived.Test.YthlmhmebajjkbaaGreatDoorOwn3
import Derived.Test.YthlmhmebajjkbaaGreatDoorOwn2
set_option linter.defProp false
set_option linter.unusedSimpArgs false
set_option linter.unusedVariables false
namespace Go.Proofs.YthlmhmebajjkbaaGreatDoor
open Go Go.Ab
noncomputable section
def kept:List B8:=[[116,114,117,101],[102,97,108,115,101],[115,120],[115,121],[115,122]]
def zaz(s:B8):Bool:=zjk s && !(kept.any λx=>s==x)
def zlo{s:B8}(hs:s.length<=8388608):Ev (λn=>z3j n s) (zaz s):=by
 have⟨i,d,b⟩:=y69 (S:=λn x=>some (s==x)) (l:=kept) (p:=λx=>s==x) (L:=λn k l m=>zze n k l s m) (λn k=>zze.eq_2 _ _ _ _ n) (by decide) λx h=>Ev.pure rfl
 have a:Ev (λn=>yzo n kept s) (kept.any λx=>s==x):=by
  rw[zjj,Ev.kz0 (by rw[zdf];exact d),Ev.yz0,b]
 rw[yd8,Ev.kz0 (yg1 hs),zaz];refine andF λ_ =>?_
 exact(Ev.kz0 a).2 (Ev.pure rfl)
def zoo{s:B8}(hs:s.length<=8388608):Ev (λn=>z4v n s) (zaz s):=by
 have a:Ev (λn=>zb5 n s) ((s==[115,120])||((s==[115,121])||(s==[115,122]))):=by
  rw[yag,Ev.pif];split
  ·rename_i h;rw[h];exact Ev.pure rfl
  ·rename_i h;rw[Ev.pif];simp only[h,Bool.false_or];split
   ·rename_i h;rw[h];exact Ev.pure rfl
   ·rename_i h;simp only[h,Bool.false_or];exact Ev.pure rfl
 have e:zaz s=(zjk s&&(!(s==[116,114,117,101])&&(!(s==[102,97,108,115,101]) && !((s==[115,120])||((s==[115,121])||(s==[115,122])))))):=by
  simp only[zaz,kept,List.any_cons,List.any_nil,Bool.or_false,Bool.not_or]
 rw[yhl,Ev.kz0 (yf5 hs),e];refine andF λ_=>andF λ_=>andF λ_ =>?_
 rw[Ev.kz0 a,Ev.yz0]
def y66:zaz []=false:=rfl
def yud{α:Type}{l:List α}:decide ((l.length:Int)>0) = !l.isEmpty:=by cases l <;> simp
def sc_t{α:Type}{k:Int}{l:List α}(h:¬(k=5↔l≠[])):(!((k==5)==decide ((l.length:Int)>0)))=true:=by
 rw[yud];cases l <;> by_cases q:k=5 <;> simp_all
def sc_f{α:Type}{k:Int}{l:List α}(h:k=5↔l≠[]):(!((k==5)==decide ((l.length:Int)>0)))=false:=by
 rw[yud];cases l <;> by_cases q:k=5 <;> simp_all
def own(k:Int):Int:=if k=2∨k=3 then 3 else if k=4∨k=6 then 1 else 0
def y7o{k:Int}:Ev (λn=>zbo n k) (own k):=by
 have a:∀b,Ev (λn=>z95 n b) (if b=true then 1 else 0):=λb=>by cases b <;> rw[yad] <;> exact Ev.pure rfl
 have d:∀b,Ev (λn=>z9k n k b) (if b=true then 3 else if k=4∨k=6 then 1 else 0):=λb=>by
  rw[ya8,Ev.pif];split
  ·exact Ev.pure rfl
  ·rw[Ev.pif];split
   ·rename_i h;rw[Qbx (.inl (by simpa using h))];exact a true
   ·rename_i h;have h:k≠4:=by simpa using h
    refine(a _).to ?_;by_cases q:k=6 <;> simp[q,h]
 rw[ym5,Ev.pif,own];split
 ·rename_i h;rw[Qbx (.inl (by simpa using h))];exact d true
 ·rename_i h;have h:k≠2:=by simpa using h
  refine(d _).to ?_;by_cases q:k=3 <;> simp[q,h]
def ykn{k:Int}:Ev (λn=>zdz n k) (own k):=by
 have a:∀b,Ev (λn=>z9f n b) (if b=true then 1 else 0):=λb=>by cases b <;> rw[y9e] <;> exact Ev.pure rfl
 have d:∀b,Ev (λn=>z9b n k b) (if b=true then 3 else if k=4∨k=6 then 1 else 0):=λb=>by
  rw[y9p,Ev.pif];split
  ·exact Ev.pure rfl
  ·rw[Ev.pif];split
   ·rename_i h;rw[Qbx (.inl (by simpa using h))];exact a true
   ·rename_i h;have h:k≠4:=by simpa using h
    refine(a _).to ?_;by_cases q:k=6 <;> simp[q,h]
 rw[yo1,Ev.pif,own];split
 ·rename_i h;rw[Qbx (.inl (by simpa using h))];exact d true
 ·rename_i h;have h:k≠2:=by simpa using h
  refine(d _).to ?_;by_cases q:k=3 <;> simp[q,h]
def yck(x:zz7):Bool:=decide (1<=x.kind)&&(decide (x.kind<=3)&&(zaz x.name&&(!x.args.isEmpty&&(zan (zcd x.args)==0))))
def yuq(a:kz2):Prop:=(1<=a.kind∧a.kind<=6)∧(a.axis<=if a.kind=4∨a.kind=5 then 2 else 0)∧(if a.kind<=4 then zaz a.name=true else a.name=[])∧zan (zcd a.args)=0∧(own a.kind<=a.args.length)∧(4<a.kind->(a.args.length:Int)=own a.kind)∧(a.kind=5↔a.items≠[])∧a.items.all yck=true
def z4p(a:kz2):Bool:=@decide (yuq a) (Classical.propDecidable _)
def zx7{a:kz2}:z4p a=true↔yuq a:=@decide_eq_true_iff _ (Classical.propDecidable _)
def zba{a:kz2}(h:¬yuq a):z4p a=false:=@decide_eq_false _ (Classical.propDecidable _) h
def yjx{l:kz5}(a:(zcd l).wf)(hs:(l.map yz1.size).sum<=4000000):Ev (λn=>z3i n (zcd l)) (zan (zcd l)):=zvq a (by rw[zii];omega)
def neI{k:Int}:(k != 0) = !(k==0):=rfl
def yss{a:kz2}(G:a.wf)(hs:a.sz<=4000000):Ev (λn=>z69 n a) (z4p a):=by
 have:=@ybv a;have:=@y1n a;have:=@z056 a;have list:∀l:kz5,Ev (λn=>z8d n l) (zcd l):=λl=>by rw[y15,Ev.yz0];rfl
 have⟨⟨h6,h5⟩,P,W⟩:=z059 G
 have Q:Ev (λn=>zzx n 0 a.items (a.items.length:Int)) (if a.items.all yck=true then true else false):=by
  refine zci (L:=λn k=>zzx n k a.items (a.items.length:Int)) (by rw[zjz,Ev.kz1 (by simp),Ev.yz0]) λk I v R =>?_
  have D:=Qad I;have:=y8b D;have:=@ydd a.items[k];have:=@z05i a.items[k]
  have s:∀b,Ev (λn=>yzl n a.items (a.items.length:Int) (k:Int) (!b)) (if b=true then v else false):=λb=>by
   cases b
   ·rw[zjv,Ev.zz2 (by rfl),Ev.yz0];rfl
   ·rw[zjv,Ev.kz1 (by rfl),wrk (by omega)];exact R
  rw[zjz,Ev.zz2 (by simpa using I),Ev.yz2 (zz6 I),yck];generalize a.items[k]=x at *;by_cases j:1<=x.kind
  case neg=>rw[Ev.zz2 (by simp;omega),Qbs j];exact s false
  rw[Ev.kz1 (by simp;omega),Qbt j];by_cases o:x.kind<=3
  case neg=>rw[Ev.zz2 (by simp;omega),Qbs o];exact s false
  rw[Ev.kz1 (by simp;omega),Qbt o,Ev.kz0 (zlo (by omega))];cases h3:zaz x.name
  ·exact s false
  rw[Ev.kz1 (by rfl)];cases J:x.args.isEmpty
  case true=>rw[Ev.zz2 (by rw[List.isEmpty_iff.1 J];rfl)];exact s false
  have r:x.args≠[]:=by intro h;rw[h]at J;cases J
  have r:x.args.length≠0:=by intro h;exact r (List.length_eq_zero_iff.1 h)
  rw[Ev.kz1 (by simpa using r),Ev.kz0 (list _),yz1.yz3,Ev.kz0 (yjx (wf_xa (z05p G D)) (by omega)),neI];exact s _
 have B:∀b,(b=false->((1<=a.kind∧a.kind<=6)∧(a.axis<=if a.kind=4∨a.kind=5 then 2 else 0)∧(if a.kind<=4 then zaz a.name=true else a.name=[])∧zan (zcd a.args)=0∧(own a.kind<=a.args.length)∧(4<a.kind->(a.args.length:Int)=own a.kind)))->(b=true->¬yuq a)->Ev (λn=>yzr n b a) (z4p a):=λb y u=>by
  cases b
  case true=>rw[zk8,Ev.zz2 (by rfl),Ev.yz0,zba (u rfl)]
  have⟨H,Z,E,Y,X,U⟩:=y rfl;rw[zk8,Ev.kz1 (by rfl)];by_cases h:a.kind=5↔a.items≠[]
  case neg=>
   rw[Ev.zz2 (sc_t h),Ev.yz0,zba (λq=>h q.2.2.2.2.2.2.1)]
  rw[Ev.kz1 (sc_f h)];refine Q.to ?_;by_cases q:a.items.all yck=true
  ·rw[Qbx q,zx7.2 ⟨H,Z,E,Y,X,U,h,q⟩]
  ·rw[Qby q,zba (λz=>q z.2.2.2.2.2.2.2)]
 have C:∀c:Bool,(c=decide (1<=a.kind∧a.kind<=4))->((1<=a.kind∧a.kind<=6)∧(a.axis<=if a.kind=4∨a.kind=5 then 2 else 0))->∀b,(b=false->(if a.kind<=4 then zaz a.name=true else a.name=[]))->(b=true->¬yuq a)->Ev (λn=>kzx n c b a) (z4p a):=λc d m b y u=>by
  cases b
  case true=>rw[zk0,Ev.zz2 (by rfl),Ev.yz0,zba (u rfl)]
  have E:=y rfl;rw[zk0,Ev.kz1 (by rfl),Ev.kz0 (list _),yz1.yz3,Ev.kz0 (yjx (wf_aa G) (by omega))];by_cases j:zan (zcd a.args)=0
  case neg=>rw[Ev.zz2 (by simpa using j)];exact B true (λh=>by cases h) λ_ q=>j q.2.2.2.1
  rw[Ev.kz1 (by simpa using j),Ev.kz0 y7o];by_cases o:own a.kind<=a.args.length
  case neg=>rw[Ev.zz2 (by simp;omega)];exact B true (λh=>by cases h) λ_ q=>o q.2.2.2.2.1
  rw[Ev.kz1 (by simp;omega)];cases A:c
  ·rw[Ev.zz2 (by rfl),Ev.kz0 y7o];have i:4<a.kind:=by rw[A]at d;have:=of_decide_eq_false d.symm;omega
   refine B _ (λh=>⟨m.1,m.2,E,j,o,λ_=>by simpa using h⟩) λh q =>?_
   have:=q.2.2.2.2.2.1 i;simp[this]at h
  ·rw[Ev.kz1 (by rfl)];have i:a.kind<=4:=by rw[A]at d;have:=Qac d.symm;omega
   exact B _ (λh=>⟨m.1,m.2,E,j,o,λh=>by omega⟩) λh=>by cases h
 have F:∀c:Bool,(c=decide (1<=a.kind∧a.kind<=4))->∀b,(b=false->((1<=a.kind∧a.kind<=6)∧(a.axis<=if a.kind=4∨a.kind=5 then 2 else 0)))->(b=true->¬yuq a)->Ev (λn=>kzw n c b a) (z4p a):=λc d b y u=>by
  cases b
  case true=>rw[zkb,Ev.zz2 (by rfl),Ev.yz0,zba (u rfl)]
  have m:=y rfl;rw[zkb,Ev.kz1 (by rfl),Ev.kz0 (zlo (by omega))];by_cases i:a.kind<=4
  ·rw[Qbt (by omega)]at d;subst d;cases w:zaz a.name
   ·exact C true (by rw[Qbt (by omega)]) m true (λh=>by cases h) λ_ q=>by have:=q.2.2.1;rw[Qbx i,w]at this;cases this
   ·exact C true (by rw[Qbt (by omega)]) m false (λ_=>by rw[Qbx i,w]) λh=>by cases h
  ·rw[Qbs (by omega)]at d;subst d;cases w:zaz a.name
   ·rw[Ev.kz1 (by rfl),Ev.zz2 (by rfl)];refine C false (by rw[Qbs (by omega)]) m _ (λh=>by rw[Qby i];simpa using h) λh q =>?_
    have:=q.2.2.1;rw[Qby i]at this;rw[this]at h;cases h
   ·exact C false (by rw[Qbs (by omega)]) m true (λh=>by cases h) λ_ q=>by
     have:=q.2.2.1;rw[Qby i]at this;rw[this,y66]at w;cases w
 have K:∀c:Bool,(c=decide (1<=a.kind∧a.kind<=4))->∀x:Int,x=(if a.kind=4∨a.kind=5 then 2 else 0)->Ev (λn=>z0m n c x a) (z4p a):=λc d x D=>by
  rw[zvg];by_cases j:1<=a.kind
  case neg=>rw[Ev.zz2 (by simp;omega)];exact F c d true (λh=>by cases h) λ_ q=>j q.1.1
  rw[Ev.kz1 (by simp;omega)];by_cases o:a.kind<=6
  case neg=>rw[Ev.zz2 (by simp;omega)];exact F c d true (λh=>by cases h) λ_ q=>o q.1.2
  rw[Ev.kz1 (by simp;omega),D];refine F c d _ (λh=>⟨⟨j,o⟩,by have:=of_decide_eq_false h;omega⟩) λh q =>?_
  have:=Qac h;have:=q.2.1;omega
 have M:∀c:Bool,(c=decide (1<=a.kind∧a.kind<=4))->∀b:Bool,b=decide (a.kind=4∨a.kind=5)->Ev (λn=>z0n n c 0 b a) (z4p a):=λc d b O=>by
  rw[zvz];by_cases h:a.kind=4∨a.kind=5
  ·rw[O,Qbt h,Ev.zz2 rfl];exact K c d _ (by rw[Qbx h])
  ·rw[O,Qbs h,Ev.kz1 rfl];exact K c d _ (by rw[Qby h])
 have N:∀c:Bool,(c=decide (1<=a.kind∧a.kind<=4))->Ev (λn=>z0l n c a) (z4p a):=λc d=>by
  rw[zv4];by_cases h:a.kind=4
  ·rw[Ev.zz2 (by simpa using h)];exact M c d true (by rw[Qbt (.inl h)])
  ·rw[Ev.kz1 (by simpa using h)];exact M c d _ (by by_cases q:a.kind=5 <;> simp[q,h])
 rw[y0p];by_cases h:1<=a.kind
 ·rw[Ev.zz2 (by simpa using h)];exact N _ (by simp[h])
 ·rw[Ev.kz1 (by simpa using h)];exact N _ (by simp[h])
def ytb{a:kz2}(Z:a.wf)(hs:a.sz<=4000000):Ev (λn=>zb9 n a) (z4p a):=by
 have:=@ybv a;have:=@y1n a;have:=@z056 a;have list:∀l:kz5,Ev (λn=>z0g n l) (zcd l):=λl=>by rw[zli,Ev.yz0];rfl
 have⟨⟨hc,h9⟩,h8,h7⟩:=z059 Z
 have X:Ev (λn=>z1z n 0 a) (if a.items.all yck=true then true else false):=by
  refine zci (L:=λn k=>z1z n k a) (by rw[zop,Ev.kz1 (by simp),Ev.yz0]) λk j v H =>?_
  have Y:=Qad j;have:=y8b Y;have:=@ydd a.items[k];have:=@z05i a.items[k]
  have r:∀b,Ev (λn=>yzy n (k:Int) (!b) a) (if b=true then v else false):=λb=>by
   cases b
   ·rw[zoc,Ev.zz2 (by rfl),Ev.yz0];rfl
   ·rw[zoc,Ev.kz1 (by rfl),wrk (by omega)];exact H
  rw[zop,Ev.zz2 (by simpa using j),Ev.yz2 (zz6 j),yck];generalize a.items[k]=x at *;by_cases A:1<=x.kind
  case neg=>rw[Ev.zz2 (by simp;omega),Qbs A];exact r false
  rw[Ev.kz1 (by simp;omega),Qbt A];by_cases y:x.kind<=3
  case neg=>rw[Ev.zz2 (by simp;omega),Qbs y];exact r false
  rw[Ev.kz1 (by simp;omega),Qbt y,Ev.kz0 (zoo (by omega))];cases w:zaz x.name
  ·exact r false
  rw[Ev.kz1 (by rfl)];cases E:x.args.isEmpty
  case true=>rw[Ev.zz2 (by rw[List.isEmpty_iff.1 E];rfl)];exact r false
  have m:x.args≠[]:=by intro h;rw[h]at E;cases E
  have m:x.args.length≠0:=by intro h;exact m (List.length_eq_zero_iff.1 h)
  rw[Ev.kz1 (by simpa using m),Ev.kz0 (list _),yz1.yz3,Ev.kz0 (zir (by rw[zii];omega)),neI];exact r _
 have K:((1<=a.kind∧a.kind<=6)∧(a.axis<=if a.kind=4∨a.kind=5 then 2 else 0)∧(if a.kind<=4 then zaz a.name=true else a.name=[])∧zan (zcd a.args)=0∧(own a.kind<=a.args.length)∧(4<a.kind->(a.args.length:Int)=own a.kind))->Ev (λn=>z3o n a) (z4p a):=λ⟨J,I,g3,G,F,P⟩=>by
  rw[y3n];by_cases h:a.kind=5↔a.items≠[]
  case neg=>
   rw[Ev.zz2 (sc_t h),Ev.yz0,zba (λq=>h q.2.2.2.2.2.2.1)]
  rw[Ev.kz1 (sc_f h)];refine X.to ?_;by_cases q:a.items.all yck=true
  ·rw[Qbx q,zx7.2 ⟨J,I,g3,G,F,P,h,q⟩]
  ·rw[Qby q,zba (λz=>q z.2.2.2.2.2.2.2)]
 have s:(1<=a.kind∧a.kind<=6)∧(a.axis<=if a.kind=4∨a.kind=5 then 2 else 0)∧zan (zcd a.args)=0∧own a.kind<=a.args.length->4<a.kind->∀b:Bool,(b=true↔¬(a.name=[]∧(a.args.length:Int)=own a.kind))->Ev (λn=>zzt n b a) (z4p a):=λ⟨J,I,G,F⟩ j b u=>by
  cases b
  case true=>rw[zoq,Ev.zz2 (by rfl),Ev.yz0,zba];exact λq=>u.1 rfl ⟨by have:=q.2.2.1;rwa[Qby (by omega)]at this,q.2.2.2.2.2.1 j⟩
  have⟨U,R⟩:=Classical.byContradiction λq=>Bool.noConfusion (u.2 q)
  rw[zoq,Ev.kz1 (by rfl)];exact K ⟨J,I,by rw[Qby (by omega)];exact U,G,F,λ_=>R⟩
 have M:(1<=a.kind∧a.kind<=6)∧(a.axis<=if a.kind=4∨a.kind=5 then 2 else 0)∧zan (zcd a.args)=0∧own a.kind<=a.args.length->Ev (λn=>z3v n a) (z4p a):=λd=>by
  have nm:decide ((a.name.length:Int)>0) = !(a.name==[]):=by rw[yud];cases a.name <;> rfl
  rw[y2u];by_cases o:a.kind=5
  ·rw[Ev.zz2 (by simpa using o),zih,Ev.zz2 (by rfl),nm];have C:own a.kind=0:=by rw[o];rfl
   by_cases i:a.name=[]
   case neg=>rw[Ev.zz2 (by simpa using i)];exact s d (by omega) true (by simp[i])
   rw[Ev.kz1 (by simpa using i),Ev.zz2 (by simpa using o)];by_cases Q:(a.args.length:Int)=0
   ·rw[Ev.kz1 (Qbs (by omega)),Ev.kz1 (by rw[o];rfl)];exact s d (by omega) false ⟨λh=>(Bool.noConfusion h),λh=>(h ⟨i,by rw[C];exact Q⟩).elim⟩
   ·rw[Ev.zz2 (Qbt (by omega))];exact s d (by omega) true ⟨λ_ h=>Q (by rw[<-C];exact h.2),λ_=>rfl⟩
  rw[Ev.kz1 (by simpa using o)];by_cases D:a.kind=6
  ·rw[show(a.kind==6)=true by simpa using D,zih,Ev.zz2 (by rfl),nm];have C:own a.kind=1:=by rw[D];rfl
   by_cases i:a.name=[]
   case neg=>rw[Ev.zz2 (by simpa using i)];exact s d (by omega) true (by simp[i])
   rw[Ev.kz1 (by simpa using i),Ev.kz1 (by simpa using o),Ev.zz2 (by simpa using D)];have:=d.2.2.2;refine s d (by omega) _ ?_;rw[C]at this ⊢;simp only[Qar,i,true_and];omega
  ·rw[show(a.kind==6)=false by simpa using D,zih,Ev.kz1 (by rfl),Ev.kz0 (zoo (by omega))];have j:a.kind<=4:=by have:=d.1;omega
   cases i:zaz a.name
   ·rw[Ev.zz2 (by rfl),Ev.yz0,zba];exact λq=>by have:=q.2.2.1;rw[Qbx j,i]at this;cases this
   ·rw[Ev.kz1 (by rfl)];exact K ⟨d.1,d.2.1,by rw[Qbx j,i],d.2.2.1,d.2.2.2,λh=>by omega⟩
 have N:(1<=a.kind∧a.kind<=6)∧zan (zcd a.args)=0∧own a.kind<=a.args.length->∀b:Bool,b=decide (a.kind=4∨a.kind=5)->Ev (λn=>z3u n b a) (z4p a):=λd b u=>by
  rw[y3b];by_cases h:a.kind=4∨a.kind=5
  ·rw[u,Qbt h,Ev.zz2 rfl];by_cases q:a.axis<=2
   ·rw[Ev.kz1 (by simp;omega)];exact M ⟨d.1,by rw[Qbx h];exact q,d.2⟩
   ·rw[Ev.zz2 (by simp;omega),Ev.yz0,zba];exact λz=>q (by have:=z.2.1;rwa[Qbx h]at this)
  ·rw[u,Qbs h,Ev.kz1 rfl];by_cases q:a.axis<=0
   ·rw[Ev.kz1 (by simp;omega)];exact M ⟨d.1,by rw[Qby h];exact q,d.2⟩
   ·rw[Ev.zz2 (by simp;omega),Ev.yz0,zba];exact λz=>q (by have:=z.2.1;rwa[Qby h]at this)
 have B:∀b:Bool,(b=false->(1<=a.kind∧a.kind<=6)∧zan (zcd a.args)=0∧own a.kind<=a.args.length)->(b=true->¬yuq a)->Ev (λn=>z0k n b a) (z4p a):=λb O W=>by
  cases b
  case true=>rw[znp,Ev.zz2 (by rfl),Ev.yz0,zba (W rfl)]
  rw[znp,Ev.kz1 (by rfl)];by_cases h:a.kind=4
  ·rw[Ev.zz2 (by simpa using h)];exact N (O rfl) true (by rw[Qbt (.inl h)])
  ·rw[Ev.kz1 (by simpa using h)];exact N (O rfl) _ (by by_cases q:a.kind=5 <;> simp[q,h])
 rw[y97];by_cases A:1<=a.kind
 case neg=>rw[Ev.zz2 (by simp;omega)];exact B true (λh=>by cases h) λ_ q=>A q.1.1
 rw[Ev.kz1 (by simp;omega)];by_cases y:a.kind<=6
 case neg=>rw[Ev.zz2 (by simp;omega)];exact B true (λh=>by cases h) λ_ q=>y q.1.2
 rw[Ev.kz1 (by simp;omega),Ev.kz0 (list _),yz1.yz3,Ev.kz0 (zir (by rw[zii];omega))];by_cases w:zan (zcd a.args)=0
 case neg=>rw[Ev.zz2 (by simpa using w)];exact B true (λh=>by cases h) λ_ q=>w q.2.2.2.1
 rw[Ev.kz1 (by simpa using w),Ev.kz0 ykn];exact B _ (λh=>⟨⟨A,y⟩,w,by have:=of_decide_eq_false h;omega⟩) λh q=>by have:=Qac h;have:=q.2.2.2.2.1;omega
def y8h(c:zz4):Bool:=decide (1<=c.weight)&&(decide (c.weight<=1000000)&&((zan c.when_==0)&&c.do_.all z4p))
def zue(r:zz3):Bool:=zaz r.name&&(r.params.all zaz&&r.cases.all y8h)
def yce(t:yz7):Bool:=zaz t.name&&(zan t.value==0)
def zdq(p:zz0):Bool:=p.attrs.all yce&&p.rules.all zue
def ifA{c d:Bool}{γ:Type}{x y:γ}:(if (c&&d)=true then x else y)=if c=true then (if d=true then x else y)else y:=by cases c <;> rfl
def ylk{p:zz0}(E:p.wf)(hs:p.sz<=4000000):Ev (λn=>zb4 n p) (zdq p):=by
 have:=@ztk p;have:=@zmt p
 have M:Ev (λn=>z1y n 0 p.rules (p.rules.length:Int)) (if p.rules.all zue=true then true else false):=by
  refine zci (L:=λn k=>z1y n k p.rules (p.rules.length:Int)) (by rw[zp0,Ev.kz1 (by simp),Ev.yz0]) λk a v d =>?_
  have G:=Qad a;have:=zsu G;have:=@zym p.rules[k];have:=@zwb p.rules[k];have:=@z05l p.rules[k];have B:=z034 E G
  have K:Ev (λn=>z25 n 0 p.rules[k].cases p.rules (p.rules.length:Int) (k:Int) (p.rules[k].cases.length:Int)) (if p.rules[k].cases.all y8h=true then v else false):=by
   refine zci (L:=λn j=>z25 n j p.rules[k].cases p.rules (p.rules.length:Int) (k:Int) (p.rules[k].cases.length:Int)) (by rw[zou,Ev.kz1 (by simp),wrk (by omega)];exact d) λj z w d =>?_
   have o:=Qad z;have:=zsk o;have:=@ykh p.rules[k].cases[j];have:=@zw4 p.rules[k].cases[j];have h:=z00s B o
   have J:Ev (λn=>z1s n 0 p.rules[k].cases[j].do_ p.rules[k].cases p.rules (p.rules.length:Int) (k:Int) (p.rules[k].cases.length:Int) (j:Int) (p.rules[k].cases[j].do_.length:Int)) (if p.rules[k].cases[j].do_.all z4p=true then w else false):=by
    refine zci (L:=λn i=>z1s n i p.rules[k].cases[j].do_ p.rules[k].cases p.rules (p.rules.length:Int) (k:Int) (p.rules[k].cases.length:Int) (j:Int) (p.rules[k].cases[j].do_.length:Int)) (by rw[znv,Ev.kz1 (by simp),wrk (by omega)];exact d) λi A u Q =>?_
    have I:=Qad A;have:=zx5 I;rw[znv,Ev.zz2 (by simpa using A),Ev.yz2 (zz6 A),Ev.kz0 (yss (z017 h I) (by omega))];cases z4p p.rules[k].cases[j].do_[i]
    ·rw[Ev.zz2 (by rfl),Ev.yz0];rfl
    ·rw[Ev.kz1 (by rfl),wrk (by omega)];exact Q
   have y:∀b,Ev (λn=>z29 n p.rules[k].cases p.rules (p.rules.length:Int) (k:Int) (p.rules[k].cases.length:Int) (j:Int) (!b) p.rules[k].cases[j]) (if b=true then (if p.rules[k].cases[j].do_.all z4p=true then w else false)else false):=λb=>by
    cases b
    ·rw[zon,Ev.zz2 (by rfl),Ev.yz0];rfl
    ·rw[zon,Ev.kz1 (by rfl)];exact J
   rw[zou,Ev.zz2 (by simpa using z),Ev.yz2 (zz6 z),zz4.yz3,y8h,ifA,ifA,ifA];by_cases r:1<=p.rules[k].cases[j].weight
   case neg=>rw[Ev.zz2 (by simp;omega),Qbs r];exact y false
   rw[Ev.kz1 (by simp;omega),Qbt r];by_cases q:p.rules[k].cases[j].weight<=1000000
   case neg=>rw[Ev.zz2 (by simp;omega),Qbs q];exact y false
   rw[Ev.kz1 (by simp;omega),Qbt q,yz1.yz3,Ev.kz0 (zvq (z058 h) (by omega)),neI];exact y _
  have C:∀b,Ev (λn=>z3y n p.rules (p.rules.length:Int) (k:Int) (!b) p.rules[k]) (if b=true then (if p.rules[k].cases.all y8h=true then v else false)else false):=λb=>by
   cases b
   ·rw[zoe,Ev.zz2 (by rfl),Ev.yz0];rfl
   ·rw[zoe,Ev.kz1 (by rfl)];exact K
  have⟨i,r,q⟩:=y69 (S:=λn x=>z8y n x) (l:=p.rules[k].params) (p:=λs => !zaz s) (L:=λn k l m=>zzh n k l m) (λn k=>zzh.eq_2 _ _ _ n) (by omega) λx O=>by
   have:=z05f O;rw[y42,Ev.kz0 (zlo (by omega)),Ev.yz0]
  have o:Ev (λn=>kzg n p.rules[k].params) (!p.rules[k].params.all zaz):=by
   rw[zff,Ev.kz0 (by rw[zh8];exact r),Ev.yz0,q,<-List.not_all_eq_any_not]
  rw[zp0,Ev.zz2 (by simpa using a),Ev.yz2 (zz6 a),zue,ifA,ifA,Ev.kz0 (zlo (by omega))];cases zaz p.rules[k].name
  ·rw[Ev.zz2 (by rfl)];exact C false
  ·rw[Ev.kz1 (by rfl),Ev.kz0 o];exact C _
 have N:Ev (λn=>z2c n 0 p.attrs (p.attrs.length:Int) p) (if p.attrs.all yce=true then p.rules.all zue else false):=by
  refine zci (L:=λn k=>z2c n k p.attrs (p.attrs.length:Int) p) (by rw[zox,Ev.kz1 (by simp),<-ifB (p.rules.all zue)];exact M) λk a v d =>?_
  have F:=Qad a;have:=ydj F;have:=@yfm p.attrs[k]
  have D:∀b,Ev (λn=>z44 n p.attrs (p.attrs.length:Int) (k:Int) (!b) p) (if b=true then v else false):=λb=>by
   cases b
   ·rw[zoa,Ev.zz2 (by rfl),Ev.yz0];rfl
   ·rw[zoa,Ev.kz1 (by rfl),wrk (by omega)];exact d
  rw[zox,Ev.zz2 (by simpa using a),Ev.yz2 (zz6 a),yce,ifA,Ev.kz0 (zlo (by omega))];cases zaz p.attrs[k].name
  ·rw[Ev.zz2 (by rfl)];exact D false
  ·rw[Ev.kz1 (by rfl),yz1.yz3,Ev.kz0 (zvq (z05g E F) (by omega)),neI];exact D _
 rw[ya7];refine N.to ?_;rw[zdq];cases p.attrs.all yce <;> rfl
def ymg{p:zz0}(I:p.wf)(hs:p.sz<=4000000):Ev (λn=>zb3 n p) (zdq p):=by
 have:=@ztk p;have:=@zmt p
 have F:Ev (λn=>z1x n 0 p) (if p.rules.all zue=true then true else false):=by
  refine zci (L:=λn k=>z1x n k p) (by rw[zov,Ev.kz1 (by simp),Ev.yz0]) λk a v d =>?_
  have x:=Qad a;have:=zsu x;have:=@zym p.rules[k];have:=@zwb p.rules[k];have:=@z05l p.rules[k];have q:=z034 I x
  have D:Ev (λn=>z1t n 0 (k:Int) p.rules[k] p) (if p.rules[k].cases.all y8h=true then v else false):=by
   refine zci (L:=λn j=>z1t n j (k:Int) p.rules[k] p) (by rw[zo2,Ev.kz1 (by simp),wrk (by omega)];exact d) λj h w d =>?_
   have y:=Qad h;have:=zsk y;have:=@ykh p.rules[k].cases[j];have:=@zw4 p.rules[k].cases[j];have r:=z00s q y
   have C:Ev (λn=>z2b n 0 (k:Int) (j:Int) p.rules[k].cases[j] p.rules[k] p) (if p.rules[k].cases[j].do_.all z4p=true then w else false):=by
    refine zci (L:=λn i=>z2b n i (k:Int) (j:Int) p.rules[k].cases[j] p.rules[k] p) (by rw[zo0,Ev.kz1 (by simp),wrk (by omega)];exact d) λi o u J =>?_
    have z:=Qad o;have:=zx5 z;rw[zo0,Ev.zz2 (by simpa using o),Ev.yz2 (zz6 o),Ev.kz0 (ytb (z017 r z) (by omega)),zz4.yz3];cases z4p p.rules[k].cases[j].do_[i]
    ·rw[Ev.zz2 (by rfl),Ev.yz0];rfl
    ·rw[Ev.kz1 (by rfl),wrk (by omega)];exact J
   have m:∀b,Ev (λn=>z1w n (k:Int) (j:Int) (!b) p.rules[k].cases[j] p.rules[k] p) (if b=true then (if p.rules[k].cases[j].do_.all z4p=true then w else false)else false):=λb=>by
    cases b
    ·rw[znm,Ev.zz2 (by rfl),Ev.yz0];rfl
    ·rw[znm,Ev.kz1 (by rfl),zz4.yz3];exact C
   rw[zo2,Ev.zz2 (by simpa using h),Ev.yz2 (zz6 h),zz4.yz3,y8h,ifA,ifA,ifA];by_cases B:1<=p.rules[k].cases[j].weight
   case neg=>rw[Ev.zz2 (by simp;omega),Qbs B];exact m false
   rw[Ev.kz1 (by simp;omega),Qbt B];by_cases A:p.rules[k].cases[j].weight<=1000000
   case neg=>rw[Ev.zz2 (by simp;omega),Qbs A];exact m false
   rw[Ev.kz1 (by simp;omega),Qbt A,yz1.yz3,Ev.kz0 (zir (by omega)),neI];exact m _
  have E:Ev (λn=>z2e n 0 (k:Int) p.rules[k] p) (if p.rules[k].params.all zaz=true then (if p.rules[k].cases.all y8h=true then v else false)else false):=by
   refine zci (L:=λn j=>z2e n j (k:Int) p.rules[k] p) (by rw[zns,Ev.kz1 (by simp)];exact D) λj h w d =>?_
   have:=z05f (Qad h);rw[zns,Ev.zz2 (by simpa using h),Ev.yz2 (zz6 h),Ev.kz0 (zoo (by omega))];cases zaz p.rules[k].params[j]
   ·rw[Ev.zz2 (by rfl),Ev.yz0];rfl
   ·rw[Ev.kz1 (by rfl),wrk (by omega)];exact d
  rw[zov,Ev.zz2 (by simpa using a),Ev.yz2 (zz6 a),zue,ifA,ifA,Ev.kz0 (zoo (by omega))];cases zaz p.rules[k].name
  ·rw[Ev.zz2 (by rfl),Ev.yz0];rfl
  ·rw[Ev.kz1 (by rfl)];exact E
 have G:Ev (λn=>z2d n 0 p) (if p.attrs.all yce=true then p.rules.all zue else false):=by
  refine zci (L:=λn k=>z2d n k p) (by rw[znq,Ev.kz1 (by simp),<-ifB (p.rules.all zue)];exact F) λk a v d =>?_
  have K:=Qad a;have:=ydj K;have:=@yfm p.attrs[k]
  have s:∀b,Ev (λn=>z3s n (k:Int) (!b) p) (if b=true then v else false):=λb=>by
   cases b
   ·rw[zny,Ev.zz2 (by rfl),Ev.yz0];rfl
   ·rw[zny,Ev.kz1 (by rfl),wrk (by omega)];exact d
  rw[znq,Ev.zz2 (by simpa using a),Ev.yz2 (zz6 a),yce,ifA,Ev.kz0 (zoo (by omega))];cases zaz p.attrs[k].name
  ·rw[Ev.zz2 (by rfl)];exact s false
  ·rw[Ev.kz1 (by rfl),Ev.yz2 (zz6 a),yz1.yz3,Ev.kz0 (zir (by omega)),neI];exact s _
 rw[y9v];refine G.to ?_;rw[zdq];cases p.attrs.all yce <;> rfl
def kzj(p:zz0):List B8:=p.attrs.map (·.name)
def yz6(p:zz0):List B8:=p.rules.map (·.name)
def yda{α β:Type}{g:α->β}(l:List α)(s:List β):l.foldl (λs x=>s++[g x]) s=s++l.map g:=by
 induction l generalizing s with
 |nil=>simp
 |cons x l a=>simp[a]
def zxf{p:zz0}(hs:p.sz<=4000000):Ev (λn=>z8h n p) (kzj p):=by
 have:=@ztk p;rw[ydh]
 refine yrj (L:=λn k s=>z5i n k p s) (xs:=p.attrs) (f:=λs x=>s++[x.name]) (I:=λk s=>s.length=k) rfl (λ_=>by
  rw[zr4,Ev.kz1 (by simp),Ev.yz0,yda];rfl) λk a s b=>⟨by simp[b],λh=>by
  rw[zr4,Ev.zz2 (by simpa using a),Ev.yz2 (zz6 a),Ev.yz2 (z2w (by simp;omega)),wrk (by omega)];exact h⟩
def zqk{p:zz0}(hs:p.sz<=4000000):Ev (λn=>z64 n p) (yz6 p):=by
 have:=@zmt p;rw[yc1]
 refine yrj (L:=λn k s=>z5a n k p s) (xs:=p.rules) (f:=λs x=>s++[x.name]) (I:=λk s=>s.length=k) rfl (λ_=>by
  rw[zq9,Ev.kz1 (by simp),Ev.yz0,yda];rfl) λk a s b=>⟨by simp[b],λh=>by
  rw[zq9,Ev.zz2 (by simpa using a),Ev.yz2 (zz6 a),Ev.yz2 (z2w (by simp;omega)),wrk (by omega)];exact h⟩
def atI(l:List B8)(s:B8):Int:=match l.idxOf? s with
 |some i=>(i:Int)
 |none => -1
def z01b{l:List B8}{s:B8} : -1<=atI l s:=by unfold atI;split <;> omega
def ztg(x:B8)(l:List B8)(s:B8):atI (x::l) s=if x=s then 0 else if atI l s = -1 then -1 else atI l s+1:=by
 unfold atI;rw[List.idxOf?_cons];by_cases h:x=s
 ·subst h;simp
 ·have:(x==s)=false:=by simpa using h
  rw[this,Qby h];simp only[Bool.false_eq_true,if_false];cases l.idxOf? s <;> simp
def yc8{L:Nat->Int->Option Int}{l:List B8}{s:B8}{p:B8->Bool}(hp:∀x,p x=true↔x=s)(j:l.length<=8388608)
  (b:∀n (k:Int),L (n+1) k=pIf (decide (k<(l.length:Int))) ((ix l k).bind λd=>pIf (p d) (some k) (L n (IntKind.i64.wrap (k+1)))) (some (-1))):Ev (λn=>L n 0) (atI l s):=by
 have:∀k,k<=l.length->Ev (λn=>L n (k:Int)) (if atI (l.drop k) s = -1 then -1 else atI (l.drop k) s+k) :=
  down (by rw[Ev.zjc (λn=>b n _),Ev.kz1 (by simp),Ev.yz0,List.drop_length];rfl) λk a i=>by
   rw[Ev.zjc (λn=>b n _),Ev.zz2 (by simpa using a),Ev.yz2 (zz6 a),<-Qah (h:=a),ztg];by_cases h:l[k]=s
   ·rw[Ev.zz2 ((hp _).2 h),Ev.yz0,Qbx h];simp
   ·rw[Ev.kz1 (by rw[Bool.eq_false_iff];exact λq=>h ((hp _).1 q)),wrk (by omega),Qby h];refine i.to ?_;by_cases q:atI (l.drop (k+1)) s = -1
    ·simp[q]
    ·have m:=@z01b (l.drop (k+1)) s;rw[Qby q,Qby q,Qby (by omega)];omega
 have:=this 0 (Qbv _);simp only[List.drop_zero]at this;refine Ev.to this ?_;split
 ·rename_i h;exact h.symm
 ·simp
def zys{l:List B8}{s:B8}(a:l.length<=8388608):Ev (λn=>za4 n l s) (atI l s):=by
 rw[yqn];exact yc8 (L:=λn k=>zcn n k s l) (p:=λx=>x==s) (λx=>by simp) a λn k=>zcn.eq_2 _ _ _ n
def yy1{l:List B8}{s:B8}(a:l.length<=8388608):Ev (λn=>zzm n l s) (atI l s):=by
 rw[zdf];exact yc8 (L:=λn k=>zze n k l s (l.length:Int)) (p:=λx=>s==x) (λx=>by simp;exact eq_comm) a λn k=>zze.eq_2 _ _ _ _ n
def zfb{l:List B8}{s:B8}:atI l s<0↔s∉l:=by
 induction l with
 |nil=>simp[atI]
 |cons x l a=>
  rw[ztg];by_cases h:x=s
  ·subst h;simp
  ·have:s∉x::l↔s∉l:=by simp[Ne.symm h]
   rw[Qby h,this,<-a];split
   ·rename_i q;simp[q]
   ·have : -1<=atI l s:=by unfold atI;split <;> omega
    omega
def zy9{l:List B8}{s:B8}(h:s∈l):∃i:Nat,∃(hi:i<l.length),atI l s=(i:Int)∧l[i]=s∧∀j (hj:j<i),l[j]'(by omega)≠s:=by
 induction l with
 |nil=>cases h
 |cons x l ih=>
  rw[ztg];by_cases q:x=s
  ·exact⟨0,by simp,by simp[q],by simpa using q,λj hj=>by omega⟩
  ·have hm:s∈l:=by rcases Qbl.1 h with h|h;· exact(q h.symm).elim
                   ·exact h
   obtain⟨i,hi,h1,h2,h3⟩:=ih hm;refine⟨i+1,by simp;omega,?_,by simpa using h2,λj hj =>?_⟩
   ·rw[Qby q,h1,Qby (by omega)];omega
   ·cases j with
    |zero=>simpa using q
    |succ j=>simpa using h3 j (by omega)
def zjt{α β γ:Type}{L:Nat->Int->List β->Option γ}{xs:List α}{g:α->List β}{v:γ}{d:List β}{B:Nat}(u:d.length+(xs.flatMap g).length<=B)
  (r:Ev (λn=>L n (xs.length:Int) (d++xs.flatMap g)) v)
  (hs:∀k (h:k<xs.length) s,s.length+(g xs[k]).length<=B->Ev (λn=>L n ((k+1:Nat):Int) (s++g xs[k])) v->Ev (λn=>L n (k:Int) s) v):Ev (λn=>L n 0 d) v:=by
 have:∀m k,k+m=xs.length->∀s,s.length+((xs.drop k).flatMap g).length<=B->s++(xs.drop k).flatMap g=d++xs.flatMap g->Ev (λn=>L n (k:Int) s) v:=λm=>by
  induction m with
  |zero=>
   intro k q s j b;have i:k=xs.length:=by omega
   subst i;rw[List.drop_length]at b;simp only[List.flatMap_nil,List.append_nil]at b
   rw[b];exact r
  |succ m o=>
   intro k q s j b;have a:k<xs.length:=by omega
   rw[<-Qah (h:=a),List.flatMap_cons,Qap]at j;rw[<-Qah (h:=a),List.flatMap_cons,<-Qaz]at b;exact hs k a s (by omega) (o (k+1) (by omega) _ (by rw[Qap];omega) b)
 simpa using this xs.length 0 (by omega) d (by simpa using u) (by simp)
def zod{α β:Type}{f:α->Nat}{g:α->List β}:∀{l:List α},(∀x∈l,(g x).length<=f x)->(l.flatMap g).length<=(l.map f).sum
 |[],_=>by simp
 |x::l,h=>by
  have d:=h x Qak;have b:=zod (f:=f) (g:=g) (l:=l) λy a=>h y (Qai _ a)
  simp only[List.flatMap_cons,Qap,List.map_cons,List.sum_cons];omega
def znn(x:zz7):List (B8×Int):=[(x.name,(x.args.length:Int)-1)]
def zc9(a:kz2):List (B8×Int):=(if a.name=[]then []else [(a.name,(a.args.length:Int)-own a.kind)])++a.items.flatMap znn
def y3p(c:zz4):List (B8×Int):=c.do_.flatMap zc9
def zzj(r:zz3):List (B8×Int):=r.cases.flatMap y3p
def ysu(a:kz2):(zc9 a).length<=a.sz:=by
 have h:=zod (f:=zz7.sz) (g:=znn) (l:=a.items) λx _=>by rw[zz7.z01];show 1<=_;omega
 rw[kz2.z01,zc9,Qap];split <;> simp only[List.length_cons,Qcc] <;> omega
def ysz(c:zz4):(y3p c).length<=c.sz:=by
 have h:=zod (f:=kz2.sz) (g:=zc9) (l:=c.do_) λx _=>ysu x
 rw[zz4.z01];unfold y3p;omega
def zom(r:zz3):(zzj r).length<=r.sz:=by
 have h:=zod (f:=zz4.sz) (g:=y3p) (l:=r.cases) λx _=>ysz x
 rw[zz3.z01];unfold zzj;omega
def toT(x:B8×Int):kzy:=⟨x.1,x.2⟩
def toG(x:B8×Int):z3n:=⟨x.1,x.2⟩
def z05b(k:Int):0<=own k∧own k<=3:=by unfold own;split <;> (try split) <;> omega
def ynb{a k:Int}(i:0<=a)(h:a<=4000000)(d:0<=k)(b:k<=3):IntKind.i64.wrap (a-k)=a-k:=wI (by omega)
def yq9{r:zz3}(hs:r.sz<=4000000):Ev (λn=>zao n r) ((zzj r).map toT):=by
 have hlen:=zom r;have h:(zzj r).map toT=r.cases.flatMap λc=>c.do_.flatMap λa=>(zc9 a).map toT:=by simp only[zzj,y3p,List.map_flatMap]
 have:=@zwb r;rw[ydv]
 refine zjt (L:=λn k s=>z5d n k r.cases (r.cases.length:Int) s) (xs:=r.cases) (g:=λc=>c.do_.flatMap λa=>(zc9 a).map toT) (B:=4000000) (by rw[<-h];simp;omega) (by
  rw[zpk,Ev.kz1 (by simp),Ev.yz0,h];rfl) λk o s d b =>?_
 have:=zsk (Qad o);have:=@zw4 r.cases[k];rw[zpk,Ev.zz2 (by simpa using o),Ev.yz2 (zz6 o)]
 refine zjt (L:=λn j s=>z39 n j r.cases[k].do_ r.cases (r.cases.length:Int) (k:Int) (r.cases[k].do_.length:Int) s) (xs:=r.cases[k].do_) (g:=λa=>(zc9 a).map toT) (B:=4000000) d (by
  rw[zqo,Ev.kz1 (by simp),wrk (by omega)];exact b) λj q s d b =>?_
 have:=zx5 (Qad q);generalize z:r.cases[k].do_[j]=a at *;have:=@y1n a;have:=@z05o a;have y:=z05b a.kind;rw[zc9,List.map_append,Qap]at d;rw[zc9,List.map_append,<-Qaz]at b
 have u:∀t:z9p,t.length+((a.items.flatMap znn).map toT).length<=4000000->Ev (λn=>z39 n ((j+1:Nat):Int) r.cases[k].do_ r.cases (r.cases.length:Int) (k:Int) (r.cases[k].do_.length:Int) (t++(a.items.flatMap znn).map toT)) ((zzj r).map toT)->Ev (λn=>z5b n r.cases[k].do_ r.cases (r.cases.length:Int) (k:Int) (r.cases[k].do_.length:Int) (j:Int) t a) ((zzj r).map toT):=λt w b=>by
  have A:(a.items.flatMap znn).map toT=a.items.flatMap λx=>[(⟨x.name,(x.args.length:Int)-1⟩:kzy)]:=by rw[List.map_flatMap];rfl
  rw[A]at w b;rw[y4c]
  refine zjt (L:=λn i s=>z5c n i a.items r.cases[k].do_ r.cases (r.cases.length:Int) (k:Int) (r.cases[k].do_.length:Int) (j:Int) (a.items.length:Int) s) (xs:=a.items) (g:=λx=>[(⟨x.name,(x.args.length:Int)-1⟩:kzy)]) (B:=4000000) w (by
   rw[zq8,Ev.kz1 (by simp),wrk (by omega)];exact b) λi d s hl b =>?_
  have:=y8b (Qad d);have:=@z036 a.items[i];rw[zq8,Ev.zz2 (by simpa using d),Ev.yz2 (zz6 d),ynb (by omega) (by omega) (by omega) (by omega),Ev.yz2 (z2w (by simp at hl ⊢;omega)),wrk (by omega)];exact b
 rw[zqo,Ev.zz2 (by simpa using q),Ev.yz2 (zz6 q),z];by_cases m:a.name=[]
 ·rw[Ev.kz1 (by simp[m])];rw[Qbx m]at b d;exact u s (by simpa using d) (by simpa using b)
 ·rw[Ev.zz2 (by simpa using m),Ev.kz0 y7o,ynb (by omega) (by omega) y.1 y.2];rw[Qby m]at b d;rw[Ev.yz2 (z2w (by simp at d ⊢;omega))];exact u _ (by simp at d ⊢;omega) b
def ydl{r:zz3}(hs:r.sz<=4000000)(K:∀c∈r.cases,∀a∈c.do_,(a.name=[]↔a.kind=5∨a.kind=6)):Ev (λn=>zcc n r) ((zzj r).map toG):=by
 have hlen:=zom r;have m:(zzj r).map toG=r.cases.flatMap λc=>c.do_.flatMap λa=>(zc9 a).map toG:=by simp only[zzj,y3p,List.map_flatMap]
 have:=@zwb r;rw[ygo]
 refine zjt (L:=λn k s=>z6w n k s r) (xs:=r.cases) (g:=λc=>c.do_.flatMap λa=>(zc9 a).map toG) (B:=4000000) (by rw[<-m];simp;omega) (by
  rw[ztd,Ev.kz1 (by simp),Ev.yz0,m];rfl) λk u s b d =>?_
 have E:=Qad u;have:=zsk E;have:=@zw4 r.cases[k];rw[ztd,Ev.zz2 (by simpa using u)]
 refine zjt (L:=λn j s=>z4h n j (k:Int) s r) (xs:=r.cases[k].do_) (g:=λa=>(zc9 a).map toG) (B:=4000000) b (by
  rw[zsz,Ev.yz2 (zz6 u),Ev.kz1 (by simp),wrk (by omega)];exact d) λj z s b d =>?_
 have F:=Qad z;have:=zx5 F;have o:=K _ E _ F;generalize I:r.cases[k].do_[j]=a at *;have:=@y1n a;have:=@z05o a;have D:=z05b a.kind;rw[zc9,List.map_append,Qap]at b;rw[zc9,List.map_append,<-Qaz]at d
 have A:∀t:zdl,t.length+((a.items.flatMap znn).map toG).length<=4000000->Ev (λn=>z4h n ((j+1:Nat):Int) (k:Int) (t++(a.items.flatMap znn).map toG) r) ((zzj r).map toG)->Ev (λn=>z7s n (k:Int) (j:Int) a t r) ((zzj r).map toG):=λt C d=>by
  have J:(a.items.flatMap znn).map toG=a.items.flatMap λx=>[(⟨x.name,(x.args.length:Int)-1⟩:z3n)]:=by rw[List.map_flatMap];rfl
  rw[J]at C d;rw[y6j]
  refine zjt (L:=λn i s=>z79 n i (k:Int) (j:Int) a s r) (xs:=a.items) (g:=λx=>[(⟨x.name,(x.args.length:Int)-1⟩:z3n)]) (B:=4000000) C (by
   rw[zse,Ev.kz1 (by simp),wrk (by omega)];exact d) λi b s hl d =>?_
  have:=y8b (Qad b);have:=@z036 a.items[i];rw[zse,Ev.zz2 (by simpa using b),Ev.yz2 (zz6 b),Ev.yz2 (zz6 b),ynb (by omega) (by omega) (by omega) (by omega),Ev.yz2 (z2w (by simp at hl ⊢;omega)),wrk (by omega)];exact d
 rw[zsz,Ev.yz2 (zz6 u),Ev.zz2 (by simpa using z),Ev.yz2 (zz6 u),Ev.yz2 (zz6 z),I];by_cases q:a.name=[]
 ·rw[Qbx q]at d b;have G:=A s (by simpa using b) (by simpa using d);have w:Ev (λn=>z6r n (k:Int) (j:Int) false a r s) ((zzj r).map toG):=by rw[ztr,Ev.kz1 (by rfl)];exact G
  rcases o.1 q with h|h
  ·rw[Ev.kz1 (by simp[h])];exact w
  ·rw[Ev.zz2 (by simp[h]),show(a.kind != 6)=false by simp[h]];exact w
 ·have y:a.kind≠5∧a.kind≠6:=⟨λh=>q (o.2 (.inl h)),λh=>q (o.2 (.inr h))⟩;rw[Ev.zz2 (by simp[y.1]),show(a.kind != 6)=true by simp[y.2],ztr,Ev.zz2 (by rfl),Ev.kz0 ykn,ynb (by omega) (by omega) D.1 D.2];rw[Qby q]at d b;rw[Ev.yz2 (z2w (by simp at b ⊢;omega))];exact A _ (by simp at b ⊢;omega) d
def ys8{a:kz2}(h:z4p a=true):a.name=[]↔a.kind=5∨a.kind=6:=by
 have⟨j,i,b,_⟩:=zx7.1 h;by_cases d:a.kind<=4
 ·rw[Qbx d]at b;refine⟨λh =>?_,λh=>by omega⟩;rw[h,y66]at b;cases b
 ·rw[Qby d]at b;exact⟨λ_=>by omega,λ_=>b⟩
def ys7{p:zz0}(h:zdq p=true):∀r∈p.rules,∀c∈r.cases,∀a∈c.do_,z4p a=true:=λr b c d a i=>by
 unfold zdq at h;have h:=Qat.1 (Bool.and_eq_true_iff.1 h).2 r b;unfold zue at h;have h:=Qat.1 (Bool.and_eq_true_iff.1 (Bool.and_eq_true_iff.1 h).2).2 c d;unfold y8h at h;exact Qat.1 (Bool.and_eq_true_iff.1 (Bool.and_eq_true_iff.1 (Bool.and_eq_true_iff.1 h).2).2).2 a i
def zh4(a:kz2):kz5:=a.args++a.items.flatMap (·.args)
def zd6(c:zz4):kz5:=c.when_::c.do_.flatMap zh4
def zr8(r:zz3):kz5:=r.cases.flatMap zd6
def yt2(a:kz2):(zh4 a).length<=a.sz:=by
 have h:=zod (f:=zz7.sz) (g:=λx:zz7=>x.args) (l:=a.items) λx _=>z036
 have:=zb8 a.args;rw[kz2.z01,zh4,Qap];omega
def y29(c:zz4):(zd6 c).length<=c.sz:=by
 have h:=zod (f:=kz2.sz) (g:=zh4) (l:=c.do_) λx _=>yt2 x
 rw[zz4.z01,zd6,List.length_cons];omega
def ygb(r:zz3):(zr8 r).length<=r.sz:=by
 have h:=zod (f:=zz4.sz) (g:=zd6) (l:=r.cases) λx _=>y29 x
 rw[zz3.z01];unfold zr8;omega
def ydr{a:kz2}{e:yz1}(h:e∈zh4 a):e.size<=a.sz∧(a.wf->e.wf):=by
 rcases Qbb.1 h with h|h
 ·have:=y7e h;have:=@ybv a;exact⟨by omega,λw=>wf_ae w h⟩
 ·have⟨x,b,d⟩:=List.mem_flatMap.1 h;have:=y7e d;have:=@ydd x;have:=y8b b;exact⟨by omega,λw=>wf_xe (z05p w b) d⟩
def y2l{c:zz4}{e:yz1}(h:e∈zd6 c):e.size<=c.sz∧(c.wf->e.wf):=by
 rcases Qbl.1 h with h|h
 ·subst h;have:=@ykh c;exact⟨by omega,z058⟩
 ·have⟨a,d,b⟩:=List.mem_flatMap.1 h;have:=ydr b;have:=zx5 d;exact⟨by omega,λw=>(ydr b).2 (z017 w d)⟩
def yev{r:zz3}{e:yz1}(h:e∈zr8 r):e.size<=r.sz∧(r.wf->e.wf):=by
 have⟨c,b,a⟩:=List.mem_flatMap.1 h;have:=y2l a;have:=zsk b;exact⟨by omega,λw=>(y2l a).2 (z00s w b)⟩
def yrz{r:zz3}(hs:r.sz<=4000000):Ev (λn=>zdb n r) (zr8 r):=by
 have hlen:=ygb r;have:=@zwb r;rw[yec]
 refine zjt (L:=λn k s=>z5j n k r.cases (r.cases.length:Int) s) (xs:=r.cases) (g:=zd6) (B:=4000000) (by show 0+(zr8 r).length<=_;omega) (by
  rw[zq0,Ev.kz1 (by simp),Ev.yz0];rfl) λk h s d b =>?_
 have:=zsk (Qad h);have:=@zw4 r.cases[k];have q:s++zd6 r.cases[k]=(s++[r.cases[k].when_])++r.cases[k].do_.flatMap zh4:=by simp[zd6]
 rw[q]at b;rw[zd6,List.length_cons]at d;rw[zq0,Ev.zz2 (by simpa using h),Ev.yz2 (zz6 h),yz1.yz3,Ev.yz2 (z2w (by simp only[Qap,List.length_cons,Qcc];omega))]
 refine zjt (L:=λn j s=>z61 n j r.cases[k].do_ r.cases (r.cases.length:Int) (k:Int) (r.cases[k].do_.length:Int) s) (xs:=r.cases[k].do_) (g:=zh4) (B:=4000000) (by simp only[Qap,List.length_cons,Qcc];omega) (by
  rw[zpm,Ev.kz1 (by simp),wrk (by omega)];exact b) λj m s d b =>?_
 have:=zx5 (Qad m);generalize o:r.cases[k].do_[j]=a at *;have:=@y1n a;rw[zh4,Qap]at d;rw[zh4,<-Qaz]at b;rw[zpm,Ev.zz2 (by simpa using m),Ev.yz2 (zz6 m),o,Ev.yz2 (z2w (by omega))]
 refine zjt (L:=λn i s=>z5v n i a.items r.cases[k].do_ r.cases (r.cases.length:Int) (k:Int) (r.cases[k].do_.length:Int) (j:Int) (a.items.length:Int) s) (xs:=a.items) (g:=λx=>x.args) (B:=4000000) (by simp only[Qap,List.length_cons,Qcc];omega) (by
  rw[zr1,Ev.kz1 (by simp),wrk (by omega)];exact b) λi d s hl b =>?_
 rw[zr1,Ev.zz2 (by simpa using d),Ev.yz2 (zz6 d),Ev.yz2 (z2w (by omega)),wrk (by omega)];exact b
def ypy{c:zz4}(hs:c.sz<=4000000):Ev (λn=>zcv n c) (zd6 c):=by
 have hlen:=y29 c;have:=@zw4 c;have o:zd6 c=[c.when_]++c.do_.flatMap zh4:=by simp[zd6]
 rw[zd6,List.length_cons]at hlen;rw[ycb,zz4.yz3,yz1.yz3]
 refine zjt (L:=λn j s=>z5s n j c s) (xs:=c.do_) (g:=zh4) (B:=4000000) (by simp only[Qap,List.length_cons,Qcc];omega) (by
  rw[zqx,Ev.kz1 (by simp),Ev.yz0,o]) λj m s h d =>?_
 have:=zx5 (Qad m);have b:=zz6 m;generalize q:c.do_[j]=a at *;have:=@y1n a;rw[zh4,Qap]at h;rw[zh4,<-Qaz]at d;rw[zqx,Ev.zz2 (by simpa using m),Ev.yz2 b,Ev.yz2 (z2w (by omega)),zz4.yz3]
 refine zjt (L:=λn i s=>z66 n i (j:Int) c s) (xs:=a.items) (g:=λx=>x.args) (B:=4000000) (by simp only[Qap,List.length_cons,Qcc];omega) (by
  rw[zqm,Ev.yz2 b,Ev.kz1 (by simp),wrk (by omega),zz4.yz3];exact d) λi h s hl d =>?_
 rw[zqm,Ev.yz2 b,Ev.zz2 (by simpa using h),Ev.yz2 b,Ev.yz2 (zz6 h),Ev.yz2 (z2w (by omega)),wrk (by omega),zz4.yz3];exact d
def within(K:List B8)(e:yz1):Bool:=(zia e).1.all λs=>decide (s∈K)
def yf2(e:yz1)(hs:e.size<=8388608):(zia e).1.length<=8388608:=by
 unfold zia;split
 ·simp
 ·have a:=ykl e [];have b:=zt1 e;simp only[Qcc]at a;show(ztv e []).length<=_;omega
def y3w{e:yz1}{K:List B8}(hs:e.size<=8388608)(d:K.length<=8388608):Ev (λn=>z9c n e K) (within K e):=by
 have hl:=yf2 e hs;rw[yaf,yz1.yz3,Ev.kz0 (yqo hs),<-ifB (within K e)];refine zci (L:=λn k=>z3t n k (zia e).1 K) (by rw[zp2,Ev.kz1 (by simp),Ev.yz0]) λk a v b =>?_
 rw[zp2,Ev.zz2 (by simpa using a),Ev.yz2 (zz6 a),Ev.kz0 (zys d)];by_cases h:(zia e).1[k]∈K
 ·rw[Ev.kz1 (Qbs λq=>zfb.1 q h),Qbt h,wrk (by omega)];exact b
 ·rw[Ev.zz2 (Qbt (zfb.2 h)),Qbs h,Ev.yz0];rfl
def MK(m:List (B8×Bool))(K:List B8):Prop:=∀k,(z6b m k).getD false=decide (k∈K)
def yez{α σ:Type}{L:Nat->Int->Option (Int×σ)}{l:List α}{p:α->Bool}{st:σ}
  (b:Ev (λn=>L n (l.length:Int)) (-1,st))
  (hs:∀k (h:k<l.length) v,(p l[k]=true->Ev (λn=>L n (k:Int)) ((k:Int),st))∧(p l[k]=false->Ev (λn=>L n ((k+1:Nat):Int)) v->Ev (λn=>L n (k:Int)) v)) :
  ∃i:Int,Ev (λn=>L n 0) (i,st)∧decide (i>=0)=l.any p:=by
 have:∀k,k<=l.length->∃i:Int,Ev (λn=>L n (k:Int)) (i,st)∧decide (i>=0)=(l.drop k).any p :=
  down ⟨-1,b,by simp⟩ λk a ⟨i,j,d⟩=>by
   have⟨o,m⟩:=hs k a (i,st)
   cases hp:p l[k]with
   |true=>exact⟨k,o hp,by rw[<-Qah (h:=a),List.any_cons,hp];simp⟩
   |false=>exact⟨i,m hp j,by rw[<-Qah (h:=a),List.any_cons,hp,d];simp⟩
 simpa using this 0 (Qbv _)
def yby{e:yz1}{m:List (B8×Bool)}{K:List B8}(j:MK m K)(d:e.wf)(hs:e.size<=8388608):Ev (λn=>zc0 n e (mks m) (mvs m)) (!within K e,mks m,mvs m):=by
 have hl:=yf2 e hs
 have⟨i,r,q⟩:=yez (L:=λn k=>zzb n k (zia e).1 ((zia e).1.length:Int) (mks m) (mvs m)) (l:=(zia e).1) (p:=λs => !decide (s∈K)) (st:=(mks m,mvs m))
  (by rw[z1p,Ev.kz1 (by simp),Ev.yz0,yz8]) λk a v=>by
   have b:Ev (λn=>zb2 n (zia e).1[k] (mks m) (mvs m)) (!decide ((zia e).1[k]∈K),mks m,mvs m):=by
    rw[y9u,Ev.yz0,yz8,j]
   constructor
   ·intro hp;rw[z1p,Ev.zz2 (by simpa using a),Ev.yz2 (zz6 a),yz8,Ev.kz0 b,Ev.zz2 hp,Ev.yz0,yz8]
   ·intro hp h;rw[z1p,Ev.zz2 (by simpa using a),Ev.yz2 (zz6 a),yz8,Ev.kz0 b,Ev.kz1 hp,yz8,wrk (by omega)];exact h
 have o:Ev (λn=>yzg n (zia e).1 (mks m) (mvs m)) (!within K e,mks m,mvs m):=by
  rw[zfn,yz8,Ev.kz0 (by rw[zh3,yz8];exact r),Ev.yz0,q,yz8,within,<-List.not_all_eq_any_not]
 rw[yid,yz1.yz3,Ev.kz0 (ysp d hs),yz8,Ev.kz0 o,Ev.yz0,yz8]
def yfc{l:kz5}{m:List (B8×Bool)}{K:List B8}(o:MK m K)(h:∀e∈l,e.wf)(hs:∀e∈l,e.size<=8388608)(hl:l.length<=8388608):Ev (λn=>kzf n l (mks m) (mvs m)) (!l.all (within K),mks m,mvs m):=by
 have⟨i,r,q⟩:=yez (L:=λn k=>zza n k l (l.length:Int) (mks m) (mvs m)) (l:=l) (p:=λe => !within K e) (st:=(mks m,mvs m))
  (by rw[z1f,Ev.kz1 (by simp),Ev.yz0,yz8]) λk a v=>by
   have b:=Qad a
   have d:Ev (λn=>zad n l[k] (mks m) (mvs m)) (!within K l[k],mks m,mvs m):=by
    rw[y6w,yz8,yz1.yz3,Ev.kz0 (yby o (h _ b) (hs _ b)),Ev.yz0,yz8]
   constructor
   ·intro hp;rw[z1f,Ev.zz2 (by simpa using a),Ev.yz2 (zz6 a),yz8,yz1.yz3,Ev.kz0 d,Ev.zz2 hp,Ev.yz0,yz8]
   ·intro hp j;rw[z1f,Ev.zz2 (by simpa using a),Ev.yz2 (zz6 a),yz8,yz1.yz3,Ev.kz0 d,Ev.kz1 hp,yz8,wrk (by omega)];exact j
 rw[zez,yz8,Ev.kz0 (by rw[zgn,yz8];exact r),Ev.yz0,q,yz8,<-List.not_all_eq_any_not]
def ysb{l:List B8}:(∃k,∃h:k<l.length,atI l l[k]<(k:Int))↔¬l.Nodup:=by
 constructor
 ·rintro ⟨k,o,h⟩ n
  have⟨i,r,m,d,_⟩:=zy9 (Qad o);have:=(List.getElem_inj n).1 d;omega
 ·intro h;rw[List.nodup_iff_pairwise_ne,List.pairwise_iff_getElem]at h;simp only[Classical.not_forall]at h;have⟨i,j,r,b,u,h⟩:=h;have h:=Classical.not_not.1 h;refine⟨j,b,?_⟩;have⟨a,w,m,d,s⟩:=zy9 (Qad b);rw[m];have:a<=i:=Nat.le_of_not_lt λq=>s i q (by rw[h])
  omega
def dup(l:List B8):Bool:=@decide (¬l.Nodup) (Classical.propDecidable _)
def yqb{l:List B8}:dup l=true↔¬l.Nodup:=@decide_eq_true_iff _ (Classical.propDecidable _)
def yvh{l:List B8}:dup l=false↔l.Nodup:=by rw[<-Bool.not_eq_true,yqb,Classical.not_not]
def yg0{γ:Type}{L:Nat->Int->Option γ}{l:List B8}{t f:γ}(u:Ev (λn=>L n (l.length:Int)) f)
  (hs:∀k (h:k<l.length) v,Ev (λn=>L n ((k+1:Nat):Int)) v->Ev (λn=>L n (k:Int)) (if decide (atI l l[k]<(k:Int))=true then t else v)):Ev (λn=>L n 0) (if dup l=true then t else f):=by
 have:∀k,k<=l.length->∀b:Bool,(b=true↔∃j,k<=j∧∃h:j<l.length,atI l l[j]<(j:Int))->Ev (λn=>L n (k:Int)) (if b=true then t else f) :=
  down (λb a=>by
   rw[Qby λh=>by have⟨j,s,d,_⟩:=a.1 h;omega];exact u) λk i o b a=>by
   by_cases h:atI l l[k]<(k:Int)
   ·rw[Qbx (a.2 ⟨k,Qbw _,i,h⟩)];have:=hs k i _ (o (@decide _ (Classical.propDecidable _)) (@decide_eq_true_iff _ (Classical.propDecidable _)));rwa[Qbx (Qbt h)]at this
   ·have m:b=true↔∃j,k+1<=j∧∃h:j<l.length,atI l l[j]<(j:Int):=by
     rw[a];constructor
     ·rintro ⟨j,s,d,r⟩
      refine⟨j,?_,d,r⟩
      rcases Nat.lt_or_ge k j with q|q
      ·exact q
      ·have e:j=k:=by omega
       subst e;exact(h r).elim
     ·rintro ⟨j,s,d⟩
      exact⟨j,by omega,d⟩
    have:=hs k i _ (o b m);rwa[Qby (by simpa using h)]at this
 have:=this 0 (Qbv _) (dup l) (by rw[yqb,<-ysb];exact⟨λ⟨k,h⟩=>⟨k,Qbv _,h⟩,λ⟨k,_,h⟩=>⟨k,h⟩⟩);simpa using this
def y8l{l:List B8}(d:l.length<=8388608):Ev (λn=>zar n l) (dup l):=by
 rw[ydk,<-ifB (dup l)];refine yg0 (L:=λn k=>z57 n k l) (by rw[zq5,Ev.kz1 (by simp),Ev.yz0]) λk a v b =>?_
 rw[zq5,Ev.zz2 (by simpa using a),Ev.yz2 (zz6 a),Ev.kz0 (zys d),wrk (by omega),Ev.pif,Ev.yz0];split
 ·rfl
 ·exact b
def yxz{l:List B8}{s:B8}(u:l.length<=8388608):Ev (λn=>zcs n s l) (atI l s,l):=by
 have h:=yc8 (L:=λn k=>(zzs n k s l).map Prod.fst) (l:=l) (s:=s) (p:=λx=>x==s) (λx=>by simp) u λn k=>by
  show(zzs (n+1) k s l).map Prod.fst=_;rw[zzs.eq_2];cases decide (k<(l.length:Int))
  ·rfl
  ·cases b:ix l k with
   |none=>rfl
   |some x=>show(pIf (x==s) _ _).map Prod.fst=pIf (x==s) _ _;cases (x==s) <;> rfl
 have w:∀n k r,zzs n k s l=some r->r.2=l:=λn=>by
  induction n with
  |zero=>intro k r a;cases a
  |succ n d=>
   intro k r a;rw[zzs.eq_2]at a;cases q:decide (k<(l.length:Int)) <;> rw[q]at a
   ·injection a with a;rw[<-a]
   ·cases b:ix l k with
    |none=>rw[b]at a;cases a
    |some x=>
     rw[b]at a;change pIf (x==s) _ _=_ at a;cases i:(x==s) <;> rw[i]at a
     ·exact d _ _ a
     ·injection a with a;rw[<-a]
 rw[ybe];have⟨n,j⟩:=h;refine⟨n,λm o =>?_⟩;have:=j m o;change (zzs m 0 s l).map Prod.fst=_ at this;show zzs m 0 s l=_
 cases a:zzs m 0 s l with
 |none=>rw[a]at this;cases this
 |some r=>
  rw[a]at this;injection this with this;have e:=w _ _ _ a;have⟨z,y⟩:=r;simp only at this e;rw[this,e]
def ymq{l:List B8}(d:l.length<=8388608):Ev (λn=>z8w n l) (dup l,l):=by
 have e:(dup l,l)=if dup l=true then (true,l)else (false,l):=by cases dup l <;> rfl
 rw[y4v,e];refine yg0 (L:=λn k=>z1r n k l) (by rw[zlv,Ev.kz1 (by simp),Ev.yz0]) λk a v b =>?_
 rw[zlv,Ev.zz2 (by simpa using a),Ev.yz2 (zz6 a),Ev.kz0 (yxz d),wrk (by omega),Ev.pif,Ev.yz0];split
 ·rfl
 ·exact b
def yme(p:zz0):Bool:=dup (kzj p)||(dup (yz6 p)||p.rules.any λr=>dup (r.params++kzj p))
def yi6{p:zz0}(hs:p.sz<=4000000):Ev (λn=>za9 n p) (yme p):=by
 have:=@ztk p;have:=@zmt p;have m:(kzj p).length=p.attrs.length:=by simp[kzj]
 have j:(yz6 p).length=p.rules.length:=by simp[yz6]
 have h:Ev (λn=>z18 n 0 p) (if (p.rules.any λr=>dup (r.params++kzj p))=true then true else false):=by
  refine zr3 (L:=λn k=>z18 n k p) (by rw[zmq,Ev.kz1 (by simp),Ev.yz0]) λk a v i =>?_
  have:=zsu (Qad a);have:=@zym p.rules[k];rw[zmq,Ev.zz2 (by simpa using a),Ev.yz2 (zz6 a),Ev.yz2 (z2w (by simp only[Qap,List.length_cons,Qcc];omega)),List.nil_append,Ev.kz0 (zxf (by omega)),Ev.yz2 (z2w (by omega)),Ev.kz0 (ymq (by rw[Qap];omega)),wrk (by omega),Ev.pif,Ev.yz0];split
  ·rfl
  ·exact i
 have d:∀b,Ev (λn=>z2p n b p) (b||p.rules.any λr=>dup (r.params++kzj p)):=λb=>by
  cases b
  ·rw[zmj,Ev.kz1 (by rfl),ifB]at *;exact h
  ·rw[zmj,Ev.zz2 (by rfl),Ev.yz0];rfl
 rw[y72,Ev.kz0 (zxf (by omega)),Ev.kz0 (y8l (by omega)),yme];cases dup (kzj p)
 ·rw[Ev.kz1 (by rfl),Ev.kz0 (zqk (by omega)),Ev.kz0 (y8l (by omega))];exact d _
 ·rw[Ev.zz2 (by rfl)];exact d true
def kA:List B8->kz6->Bool
 |_,[]=>true
 |pre,t::l=>within pre t.value&&kA (pre++[t.name]) l
def scope(p:zz0)(r:zz3):List B8:=([[115,120],[115,121],[115,122]]++kzj p)++r.params
def kR(p:zz0)(r:zz3):Bool:=(zr8 r).all (within (scope p r))&&(zzj r).all λc=>decide (c.1∈yz6 p)
def zvr(p:zz0):Bool:=kA [] p.attrs&&p.rules.all (kR p)
def yer(p:zz0)(s:B8):Int:=match p.rules[(atI (yz6 p) s).toNat]? with
 |some r=>r.params.length
 |none => -1
def zkc(p:zz0)(r:zz3):Bool:=(zzj r).any λc=>decide (c.1∈yz6 p)&&(c.2 != yer p c.1)
def zv1(p:zz0):Bool:=p.rules.any (zkc p)
def zbw(p:zz0):Int:=if zts p=true then 4 else if zdq p=true then (if yme p=true then 14 else if zvr p=true then (if zv1 p=true then 2 else 0)else 6)else 8
def zm3{p:zz0}{k:Nat}(h:k<p.attrs.length):(kzj p).take (k+1)=(kzj p).take k++[p.attrs[k].name]:=by
 rw[List.take_add_one];simp only[kzj,Qan,Qab h,Qbr,Option.toList_some]
def zxw{p:zz0}{k:Nat}(h:k<p.rules.length):(yz6 p).take (k+1)=(yz6 p).take k++[p.rules[k].name]:=by
 rw[List.take_add_one];simp only[yz6,Qan,Qab h,Qbr,Option.toList_some]
def z01t{α:Type}{l:List α}{k:Nat}(h:k<=l.length):sub l 0 (k:Int)=some (l.take k):=by
 unfold sub;rw[Qbx (by omega)];simp
def yx3(p:zz0)(r:zz3):(scope p r).length=3+p.attrs.length+r.params.length:=by simp[scope,kzj];omega
def yb3{p:zz0}{s:B8}(h:s∈yz6 p):∃i:Nat,∃b:i<p.rules.length,atI (yz6 p) s=(i:Int)∧p.rules[i].name=s∧yer p s=(p.rules[i].params.length:Int):=by
 have⟨i,b,d,j,_⟩:=zy9 h;have a:i<p.rules.length:=by simpa[yz6]using b
 refine⟨i,a,d,by simpa[yz6]using j,?_⟩;unfold yer;rw[d,Qbq,Qab a]
def yrc{p:zz0}(hs:p.sz<=4000000)(F:zdq p=true):Ev (λn=>zda n p) (zvr p):=by
 have:=@ztk p;have:=@zmt p;have x:(kzj p).length=p.attrs.length:=by simp[kzj]
 have M:(yz6 p).length=p.rules.length:=by simp[yz6]
 have A:Ev (λn=>z38 n 0 (kzj p) p) (if p.rules.all (kR p)=true then true else false):=by
  refine zci (L:=λn k=>z38 n k (kzj p) p) (by rw[zq7,Ev.kz1 (by simp),Ev.yz0]) λk b v D =>?_
  have m:=Qad b;have:=zsu m;have:=@zym p.rules[k];have:=@zwb p.rules[k];have I:=yx3 p p.rules[k];have K:=zom p.rules[k]
  have y:Ev (λn=>z34 n 0 ((zzj p.rules[k]).map toG) (kzj p) (k:Int) p) (if ((zzj p.rules[k]).all λc=>decide (c.1∈yz6 p))=true then v else false):=by
   refine zci (L:=λn j=>z34 n j ((zzj p.rules[k]).map toG) (kzj p) (k:Int) p) (by rw[zpp,Ev.kz1 (by simp),wrk (by omega)];exact D) λj d w o =>?_
   have s:j<((zzj p.rules[k]).map toG).length:=by simpa using d
   rw[zpp,Ev.zz2 (by simpa using d),Ev.kz0 (zqk (by omega)),Ev.yz2 (zz6 s),List.getElem_map,Ev.kz0 (zys (by omega))];show Ev (λn=>pIf (decide (atI (yz6 p) (zzj p.rules[k])[j].1<0)) _ _) _;by_cases h:(zzj p.rules[k])[j].1∈yz6 p
   ·rw[Ev.kz1 (Qbs λq=>zfb.1 q h),Qbt h,wrk (by omega)];exact o
   ·rw[Ev.zz2 (Qbt (zfb.2 h)),Qbs h,Ev.yz0];rfl
  have z:Ev (λn=>z32 n (scope p p.rules[k]) 0 (kzj p) (k:Int) p.rules[k] p) (if (p.rules[k].cases.all λc=>(zd6 c).all (within (scope p p.rules[k])))=true then (if ((zzj p.rules[k]).all λc=>decide (c.1∈yz6 p))=true then v else false)else false):=by
   refine zci (L:=λn j=>z32 n (scope p p.rules[k]) j (kzj p) (k:Int) p.rules[k] p) (by rw[zp3,Ev.kz1 (by simp),Ev.kz0 (ydl (by omega) λc G a x=>ys8 (ys7 F _ m c G a x))];exact y) λj d w o =>?_
   have:=zsk (Qad d);have J:=y29 p.rules[k].cases[j];rw[zp3,Ev.zz2 (by simpa using d),Ev.yz2 (zz6 d),zz4.yz3,Ev.kz0 (ypy (by omega))];refine zci (L:=λn i=>z5k n i (scope p p.rules[k]) (zd6 p.rules[k].cases[j]) (kzj p) (k:Int) (j:Int) p.rules[k] p) (by rw[zq1,Ev.kz1 (by simp),wrk (by omega)];exact o) λi r u E =>?_
   have:=(y2l (Qad r)).1;rw[zq1,Ev.zz2 (by simpa using r),Ev.yz2 (zz6 r),yz1.yz3,Ev.kz0 (y3w (by omega) (by omega))];cases within (scope p p.rules[k]) (zd6 p.rules[k].cases[j])[i]
   ·rw[Ev.zz2 (by rfl),Ev.yz0];rfl
   ·rw[Ev.kz1 (by rfl),wrk (by omega)];exact E
  rw[zq7,Ev.zz2 (by simpa using b),Ev.yz2 (zz6 b),Ev.yz2 (z2w (by simp only[List.length_cons,Qcc];omega)),Ev.yz2 (z2w (by simp only[Qap,List.length_cons,Qcc];omega)),kR,ifA,zr8,List.all_flatMap];exact z
 have B:∀k,k<=p.attrs.length->Ev (λn=>z52 n (k:Int) (kzj p) p) (if kA ((kzj p).take k) (p.attrs.drop k)=true then p.rules.all (kR p)else false) :=
  down (by
   rw[zp9,Ev.kz1 (by simp),List.drop_length,kA,Qbx rfl,<-ifB (p.rules.all (kR p))];exact A) λk b C=>by
   have m:=Qad b;have:=ydj m;have:=@yfm p.attrs[k];rw[zp9,Ev.zz2 (by simpa using b),Ev.yz2 (zz6 b),Ev.yz2 (z01t (by omega)),yz1.yz3,Ev.kz0 (y3w (by omega) (by simp;omega)),<-Qah (h:=b),kA,ifA];cases within ((kzj p).take k) p.attrs[k].value
   ·rw[Ev.zz2 (by rfl),Ev.yz0];rfl
   ·rw[Ev.kz1 (by rfl),wrk (by omega),Qbx rfl,<-zm3 b];exact C
 have:=B 0 (Qbv _);rw[ycy,Ev.kz0 (zxf (by omega)),zvr];refine Ev.to this ?_;rw[List.drop_zero,List.take_zero];cases kA [] p.attrs <;> rfl
def yp8{p:zz0}(m:p.wf)(hs:p.sz<=4000000):Ev (λn=>zcu n p) (zbw p):=by
 have:=@zmt p;have D:(yz6 p).length=p.rules.length:=by simp[yz6]
 rw[ye3,Ev.kz0 (yu6 (by omega)),zbw];cases zts p
 case true=>rw[Ev.zz2 (by rfl),Ev.yz0];rfl
 rw[Ev.kz1 (by rfl),Ev.kz0 (ymg m (by omega)),Qby (by simp)];cases u:zdq p
 case false=>rw[Ev.zz2 (by rfl),Ev.yz0];rfl
 rw[Ev.kz1 (by rfl),Ev.kz0 (yi6 hs),Qbx rfl];cases yme p
 case true=>rw[Ev.zz2 (by rfl),Ev.yz0];rfl
 rw[Ev.kz1 (by rfl),Ev.kz0 (yrc hs u),Qby (by simp)];cases b:zvr p
 case false=>rw[Ev.zz2 (by rfl),Ev.yz0];rfl
 rw[Ev.kz1 (by rfl),Qbx rfl];have r:=Qat.1 (Bool.and_eq_true_iff.1 b).2;refine zr3 (L:=λn k=>z5o n k p) (by rw[zpt,Ev.kz1 (by simp),Ev.yz0]) λk b v x =>?_
 have o:=Qad b;have:=zsu o;have C:=zom p.rules[k];have s:=Qat.1 (Bool.and_eq_true_iff.1 (r _ o)).2;rw[zpt,Ev.zz2 (by simpa using b),Ev.yz2 (zz6 b),Ev.kz0 (ydl (by omega) λc h a z=>ys8 (ys7 u _ o c h a z))];refine zr3 (L:=λn j=>z5e n j ((zzj p.rules[k]).map toG) (k:Int) p) (by rw[zqt,Ev.kz1 (by simp),wrk (by omega)];exact x) λj q w m =>?_
 have d:j<((zzj p.rules[k]).map toG).length:=by simpa using q
 have h:=s _ (Qad q);have⟨i,y,B,E,A⟩:=yb3 (Qac h);rw[zqt,Ev.zz2 (by simpa using q),Ev.yz2 (zz6 d),Ev.kz0 (zqk (by omega)),Ev.yz2 (zz6 d),List.getElem_map,Ev.kz0 (zys (by omega))];show Ev (λn=>(ix p.rules (atI (yz6 p) (zzj p.rules[k])[j].1)).bind _) _;rw[B,Ev.yz2 (zz6 y),h,A,Bool.true_and,wrk (by omega)]
 show Ev (λn=>pIf ((zzj p.rules[k])[j].2 != (p.rules[i].params.length:Int)) _ _) _;cases (zzj p.rules[k])[j].2 != (p.rules[i].params.length:Int)
 ·rw[Ev.kz1 rfl];exact m
 ·rw[Ev.zz2 rfl,Ev.yz0];rfl
section
variable {T:Type}
def znj(q:B8×T)(m:List (B8×T))(k:B8):z6b (q::m) k=if k=q.1 then some q.2 else z6b m k:=by
 unfold z6b;rw[List.find?_cons];by_cases h:k=q.1
 ·simp[h]
 ·have:(k==q.1)=false:=by simpa using h
  rw[this,Qby h]
def ywt(q:B8×T)(m:List (B8×T))(k:B8)(x:T):z99 (q::m) k x=if k=q.1 then (k,x)::m else q::z99 m k x:=by
 unfold z99;rw[List.findIdx?_cons];by_cases h:k=q.1
 ·simp[h]
 ·have:(k==q.1)=false:=by simpa using h
  rw[this,Qby h];simp only[Bool.false_eq_true,if_false];cases List.findIdx? (λp=>k==p.1) m <;> simp
def yct(m:List (B8×T))(k b:B8)(x:T):z6b (z99 m k x) b=if b=k then some x else z6b m b:=by
 induction m with
 |nil=>show z6b [(k,x)] b=_;rw[znj]
 |cons q m d=>
  rw[ywt];by_cases h:k=q.1
  ·rw[Qbx h,znj,znj];by_cases a:b=k
   ·simp[a]
   ·rw[Qby a,Qby a,Qby (λz=>a (z.trans h.symm))]
  ·rw[Qby h,znj,d,znj];by_cases a:b=q.1
   ·rw[Qbx a,Qbx a,Qby (λz=>h (z.symm.trans a))]
   ·rw[Qby a,Qby a]
def ykm{m:List (B8×T)}{k:B8}:z6b m k=none↔k∉mks m:=by
 induction m with
 |nil=>simp[z6b,mks]
 |cons q m a=>
  rw[znj];show _↔k∉q.1::mks m;by_cases h:k=q.1
  ·simp[h]
  ·rw[Qby h,a];simp[h]
end
def yvq{T:Type}:∀{es:List (B8×T)}{i:Nat}(h:i<es.length) (s:B8),s∈mks es↔s=es[i].1∨s∈mks (es.eraseIdx i)
 |[],_,h,_=>by cases h
 |q::es,0,_,s=>by show s∈q.1::mks es↔_;rw[Qbl];exact Iff.rfl
 |q::es,i+1,h,s=>by
  show s∈q.1::mks es↔s=(es[i]'(by simpa using h)).1∨s∈q.1::mks (es.eraseIdx i);rw[Qbl,Qbl,yvq (es:=es) (i:=i) (by simpa using h) s];exact or_left_comm
def TM(m:List (B8×Bool))(K:List B8):Prop:=∀k,z6b m k=if k∈K then some true else none
def TM.mk{m:List (B8×Bool)}{K:List B8}(h:TM m K):MK m K:=λk=>by
 rw[h k];by_cases q:k∈K <;> simp[q]
def TM.nil:TM [] []:=λk=>by simp[z6b]
def TM.put{m:List (B8×Bool)}{K:List B8}(h:TM m K)(s:B8):TM (z99 m s true) (K++[s]):=λk=>by
 rw[yct,h k];by_cases q:k=s <;> simp[q]
def TM.keys{m:List (B8×Bool)}{K:List B8}(h:TM m K)(s:B8):s∈mks m↔s∈K:=by
 have:=h s;by_cases q:s∈K
 ·rw[Qbx q]at this;exact⟨λ_=>q,λ_=>Classical.byContradiction λz=>by rw[ykm.2 z]at this;cases this⟩
 ·rw[Qby q]at this;exact⟨λz=>(ykm.1 this z).elim,λz=>(q z).elim⟩
def MK.put{m:List (B8×Bool)}{K:List B8}(h:MK m K)(s:B8):MK (z99 m s true) (K++[s]):=λk=>by
 rw[yct];by_cases q:k=s
 ·simp[q]
 ·rw[Qby q,h k];simp[q]
def MK.ext{m:List (B8×Bool)}{K J:List B8}(h:MK m K)(e:∀s,s∈K↔s∈J):MK m J:=λk=>by rw[h k];exact decide_eq_decide.2 (e k)
def RM(m:List (B8×Int))(K:List B8):Prop:=∀k,z6b m k=if k∈K then some (atI K k)else none
def RM.nil:RM [] []:=λk=>by simp[z6b]
def z020{K:List B8}{s:B8}(h:s∉K)(k:B8):atI (K++[s]) k=if k=s then (K.length:Int)else atI K k:=by
 induction K with
 |nil=>show atI [s] k=_;rw[ztg];by_cases q:s=k
       ·simp[q]
       ·rw[Qby q,Qby (Ne.symm q)];simp[atI]
 |cons x K a=>
  have b:x≠s:=λe=>h (by rw[e];exact Qak)
  have:=a λz=>h (Qai _ z)
  rw[List.cons_append,ztg,ztg,this];by_cases q:k=s
  ·subst q;rw[Qby b,Qbx rfl,Qbx rfl,Qby (by omega)];simp
  ·simp only[Qby q]
def RM.put{m:List (B8×Int)}{K:List B8}(h:RM m K){s:B8}(hs:s∉K):RM (z99 m s (K.length:Int)) (K++[s]):=λk=>by
 rw[yct,h k,z020 hs];by_cases q:k=s
 ·simp[q]
 ·simp[q]
def Ev.pick{α R:Type}{es:List (B8×α)}{f:Nat->B8->α->List (B8×α)->Option R}{g:Nat->Option R}{r:R}
  (x:es=[]->Ev g r) (w:∀i (h:i<es.length),Ev (λn=>f n es[i].1 es[i].2 (es.eraseIdx i)) r):Ev (λn=>y82 es (f n) (g n)) r:=by
 have s:∃N,∀m,N<=m->(es=[]->g m=some r):=by
  by_cases o:es=[]
  ·have⟨N,a⟩:=x o;exact⟨N,λm d _=>a m d⟩
  ·exact⟨0,λ_ _ h=>(o h).elim⟩
 have u:∀k,k<=es.length->∃N,∀m,N<=m->∀i (h:i<es.length),i<k->f m es[i].1 es[i].2 (es.eraseIdx i)=some r:=λk=>by
  induction k with
  |zero=>intro _;exact⟨0,λ_ _ _ _ h=>by omega⟩
  |succ k q=>
   intro z;have⟨N,a⟩:=q (by omega);have⟨M,j⟩:=w k (by omega);refine⟨max N M,λm d i b y =>?_⟩;by_cases h:i=k
   ·subst h;exact j m (by omega)
   ·exact a m (by omega) i b (by omega)
 have⟨N,a⟩:=s;have⟨M,j⟩:=u es.length (Qbw _);refine⟨max N M,λm d=>z02v (a m (by omega)) λi p hp =>?_⟩;obtain⟨b,rfl⟩:=Qaa.1 hp;exact j m (by omega) i b b
def z01z{γ:Type}{L:Nat->Int->Option γ}{len:Nat}{p:Nat->Bool}{got r:γ}{b:Bool}(a:b=true↔∃j,j<len∧p j=true)
  (w:Ev (λn=>L n (len:Int)) r)
  (hs:∀k (h:k<len) v,Ev (λn=>L n ((k+1:Nat):Int)) v->Ev (λn=>L n (k:Int)) (if p k=true then got else v)):Ev (λn=>L n 0) (if b=true then got else r):=by
 have:∀k,k<=len->∀b:Bool,(b=true↔∃j,k<=j∧j<len∧p j=true)->Ev (λn=>L n (k:Int)) (if b=true then got else r) :=
  down (λb a=>by rw[Qby λh=>by have⟨j,u,d,_⟩:=a.1 h;omega];exact w) λk i s b a=>by
   cases h:p k with
   |true=>
    rw[Qbx (a.2 ⟨k,Qbw _,i,h⟩)];have:=hs k i _ (s (@decide _ (Classical.propDecidable _)) (@decide_eq_true_iff _ (Classical.propDecidable _)))
    rwa[Qbx h]at this
   |false=>
    have o:b=true↔∃j,k+1<=j∧j<len∧p j=true:=by
     rw[a];constructor
     ·rintro ⟨j,u,d,m⟩
      refine⟨j,?_,d,m⟩
      rcases Nat.lt_or_ge k j with q|q
      ·exact q
      ·have e:j=k:=by omega
       subst e;rw[h]at m;cases m
     ·rintro ⟨j,u,d⟩
      exact⟨j,by omega,d⟩
    have:=hs k i _ (s b o);rwa[Qby (by simp[h])]at this
 have:=this 0 (Qbv _) b (by rw[a];exact⟨λ⟨j,h⟩=>⟨j,Qbv _,h⟩,λ⟨j,_,h⟩=>⟨j,h⟩⟩);simpa using this
def yw7(p:zz0)(r:zz3)(k:Nat):Bool:=if h:k<r.params.length then decide (r.params[k]∈kzj p)||decide (atI r.params r.params[k]<(k:Int))else false
def ywn(p:zz0)(r:zz3):Bool:=dup (r.params++kzj p)
def z02e{p:zz0}{r:zz3}(o:(kzj p).Nodup):ywn p r=true↔∃j,j<r.params.length∧yw7 p r j=true:=by
 unfold ywn;rw[yqb,List.nodup_append];constructor
 ·intro h;by_cases hp:r.params.Nodup
  ·have:¬∀a∈r.params,∀b∈kzj p,a≠b:=λz=>h ⟨hp,o,z⟩
   simp only[Classical.not_forall,Classical.not_not]at this;have⟨a,m,b,q,i⟩:=this;have⟨j,d,e⟩:=List.mem_iff_getElem.1 m;refine⟨j,d,?_⟩;unfold yw7;rw[dif_pos d,e,i,Qbt q];rfl
  ·have⟨k,n,h⟩:=ysb.2 hp;refine⟨k,n,?_⟩;unfold yw7;rw[dif_pos n,Qbt h,Bool.or_true]
 ·rintro ⟨j,d,h⟩ ⟨m,_,i⟩
  unfold yw7 at h;rw[dif_pos d,Bool.or_eq_true]at h
  rcases h with h|h
  ·exact i _ (Qad d) _ (Qac h) rfl
  ·exact(ysb.1 ⟨j,d,Qac h⟩) m
def yeh{l:List B8}{k:Nat}(h:l.Nodup):(l.take k).Nodup:=h.sublist (List.take_sublist k l)
def yt9{p:zz0}(R:p.wf)(hs:p.sz<=4000000){m:List (B8×Bool)}{a:List (B8×Int)}(U:TM m (kzj p))(J:RM a (yz6 p))(u:Bool) :
  Ev (λn=>z2v n false 0 u (mks m) (mvs m) p.rules (p.rules.length:Int) p (mks a) (mvs a)) (if (u || !p.rules.all (kR p))=true then 6 else if zv1 p=true then 2 else 0):=by
 have:=@ztk p;have:=@zmt p;have hr:(yz6 p).length=p.rules.length:=by simp[yz6]
 have main:∀k,k<=p.rules.length->∀w u:Bool,Ev (λn=>z2v n w (k:Int) u (mks m) (mvs m) p.rules (p.rules.length:Int) p (mks a) (mvs a)) (if (u || !(p.rules.drop k).all (kR p))=true then 6 else if (w||(p.rules.drop k).any (zkc p))=true then 2 else 0) :=
  down (λw u=>by
   rw[zr6,Ev.kz1 (by simp),List.drop_length,Ev.pif,Ev.pif,Ev.yz0,Ev.yz0,Ev.yz0]
   cases u <;> cases w <;> simp) λk F Q w u=>by
   have y:=Qad F;have:=zsu y;have I:=z034 R y;have:=@zym p.rules[k];have P:=zom p.rules[k];have W:=ygb p.rules[k]
   have M:∀u:Bool,Ev (λn=>z5u n w u (mks m) (mvs m) p.rules (p.rules.length:Int) (k:Int) p (mks a) (mvs a) p.rules[k]) (if ((u || !(zzj p.rules[k]).all λc=>decide (c.1∈yz6 p)) || !(p.rules.drop (k+1)).all (kR p))=true then 6 else if ((w||zkc p p.rules[k])||(p.rules.drop (k+1)).any (zkc p))=true then 2 else 0):=λu=>by
    have hT:((zzj p.rules[k]).map toT).length=(zzj p.rules[k]).length:=by simp
    rw[y5o,Ev.kz0 (yq9 (by omega)),yz8,yz8]
    have loop:∀j,j<=(zzj p.rules[k]).length->∀w u:Bool,Ev (λn=>z5h n (j:Int) w u ((zzj p.rules[k]).map toT) (mks m) (mvs m) p.rules (p.rules.length:Int) (k:Int) (((zzj p.rules[k]).map toT).length:Int) p (mks a) (mvs a)) (if ((u || !((zzj p.rules[k]).drop j).all λc=>decide (c.1∈yz6 p)) || !(p.rules.drop (k+1)).all (kR p))=true then 6 else if ((w||((zzj p.rules[k]).drop j).any λc=>decide (c.1∈yz6 p)&&(c.2 != yer p c.1))||(p.rules.drop (k+1)).any (zkc p))=true then 2 else 0) :=
     down (λw u=>by
      rw[zqf,Ev.kz1 (by simp),wrk (by omega),yz8,yz8,List.drop_length]
      simpa using Q w u) λj z B w u=>by
      have L:j<((zzj p.rules[k]).map toT).length:=by simpa using z
      have A:∀w u:Bool,Ev (λn=>z1u n w u ((zzj p.rules[k]).map toT) (mks m) (mvs m) p.rules (p.rules.length:Int) (k:Int) (((zzj p.rules[k]).map toT).length:Int) (j:Int) p (mks a) (mvs a)) _:=λw u=>by
       rw[y2v,wrk (by omega),yz8,yz8];exact B w u
      have o:=J (zzj p.rules[k])[j].1
      have E:∀u:Bool,Ev (λn=>z3z n u ((zzj p.rules[k]).map toT) (mks m) (mvs m) p.rules (p.rules.length:Int) (k:Int) (((zzj p.rules[k]).map toT).length:Int) (j:Int) (Option.getD (z6b a (zzj p.rules[k])[j].1) 0) (Option.isSome (z6b a (zzj p.rules[k])[j].1)) w p (mks a) (mvs a) (toT (zzj p.rules[k])[j])) (if ((u || !((zzj p.rules[k]).drop (j+1)).all λc=>decide (c.1∈yz6 p)) || !(p.rules.drop (k+1)).all (kR p))=true then 6 else if (((w||(decide ((zzj p.rules[k])[j].1∈yz6 p)&&((zzj p.rules[k])[j].2 != yer p (zzj p.rules[k])[j].1)))||((zzj p.rules[k]).drop (j+1)).any λc=>decide (c.1∈yz6 p)&&(c.2 != yer p c.1))||(p.rules.drop (k+1)).any (zkc p))=true then 2 else 0):=λu=>by
       rw[y2q,yz8,yz8]
       cases w with
       |true=>rw[Ev.zz2 rfl,Bool.true_or];exact A true u
       |false=>
        rw[Ev.kz1 rfl,Bool.false_or];by_cases b:(zzj p.rules[k])[j].1∈yz6 p
        ·have⟨i,C,Y,h2,X⟩:=yb3 b;rw[o,Qbx b,Qbt b,Bool.true_and,X,Y];show Ev (λn=>pIf true ((ix p.rules (i:Int)).bind _) _) _;rw[Ev.zz2 rfl,Ev.yz2 (zz6 C)];exact A _ u
        ·rw[o,Qby b,Qbs b,Bool.false_and];show Ev (λn=>pIf false _ _) _;rw[Ev.kz1 rfl];exact A false u
      rw[zqf,Ev.zz2 (by simpa using z),Ev.yz2 (zz6 L),List.getElem_map,yz8,yz8,<-Qah (h:=z),List.all_cons,List.any_cons]
      cases u with
      |true=>rw[Ev.zz2 rfl];exact(E true).to (by simp)
      |false=>
       rw[Ev.kz1 rfl]
       have e:Option.isSome (z6b a (toT (zzj p.rules[k])[j]).name)=decide ((zzj p.rules[k])[j].1∈yz6 p):=by
        show Option.isSome (z6b a (zzj p.rules[k])[j].1)=_;rw[o];by_cases q:(zzj p.rules[k])[j].1∈yz6 p <;> simp[q]
       have:=E (!decide ((zzj p.rules[k])[j].1∈yz6 p));have H:Option.isSome (z6b a (zzj p.rules[k])[j].1)=decide ((zzj p.rules[k])[j].1∈yz6 p):=e;rw[H]at this;rw[Bool.false_or,e];exact this.to (by rw[Bool.not_and,Bool.or_assoc w])
    have:=loop 0 (Qbv _) w u;rw[List.drop_zero]at this;exact this
   have N:∀d,MK d ([[115,120],[115,121],[115,122]]++kzj p)->Ev (λn=>z30 n 0 p.rules[k].params w (mks m) (mvs m) p.rules (p.rules.length:Int) (k:Int) u (p.rules[k].params.length:Int) p (mks a) (mvs a) p.rules[k] (mks d) (mvs d)) (if ((u || !kR p p.rules[k]) || !(p.rules.drop (k+1)).all (kR p))=true then 6 else if ((w||zkc p p.rules[k])||(p.rules.drop (k+1)).any (zkc p))=true then 2 else 0):=λd x=>by
    have loop:∀j,j<=p.rules[k].params.length->∀d,MK d (([[115,120],[115,121],[115,122]]++kzj p)++p.rules[k].params.take j)->Ev (λn=>z30 n (j:Int) p.rules[k].params w (mks m) (mvs m) p.rules (p.rules.length:Int) (k:Int) u (p.rules[k].params.length:Int) p (mks a) (mvs a) p.rules[k] (mks d) (mvs d)) (if ((u || !kR p p.rules[k]) || !(p.rules.drop (k+1)).all (kR p))=true then 6 else if ((w||zkc p p.rules[k])||(p.rules.drop (k+1)).any (zkc p))=true then 2 else 0) :=
     down (λd x=>by
      rw[List.take_length]at x;rw[zqj,Ev.kz1 (by simp),yz8,yz8,yz8]
      cases u with
      |true=>rw[Ev.zz2 rfl];have:=M true;simpa using this
      |false=>
       rw[Ev.kz1 rfl,Ev.kz0 (yrz (by omega)),Ev.kz0 (yfc (K:=scope p p.rules[k]) x (λe r=>(yev r).2 I) (λe r=>by have:=(yev r).1;omega) (by omega))];have:=M (!(zr8 p.rules[k]).all (within (scope p p.rules[k])));rw[<-Bool.not_and]at this;rw[Bool.false_or,kR]
       exact this) λj z B d x=>by
      rw[zqj,Ev.zz2 (by simpa using z),Ev.yz2 (zz6 z),wrk (by omega),yz8,yz8,yz8];refine B _ ((x.put p.rules[k].params[j]).ext λs =>?_);rw[Qaz,z3g z]
    exact loop 0 (Qbv _) d (by simpa using x)
   have O:∀len,∀es:List (B8×Bool),es.length=len->∀d D,MK d D->(∀s,(s∈D∨s∈mks es)↔s∈[[115,120],[115,121],[115,122]]++kzj p)->Ev (λn=>z56 n w (mks m) (mvs m) p.rules (p.rules.length:Int) (k:Int) u (mks es) (mvs es) p (mks a) (mvs a) p.rules[k] (mks d) (mvs d)) (if ((u || !kR p p.rules[k]) || !(p.rules.drop (k+1)).all (kR p))=true then 6 else if ((w||zkc p p.rules[k])||(p.rules.drop (k+1)).any (zkc p))=true then 2 else 0):=λlen=>by
    induction len with
    |zero=>
     intro es r d D x hD;have r:=List.length_eq_zero_iff.1 r;subst r;rw[zqr];refine Ev.pick (λ_ =>?_) λi C=>by cases C
     rw[yz8,yz8,yz8]
     exact N d (x.ext λs=>by rw[<-hD s];simp[mks])
    |succ len G=>
     intro es r d D x hD;rw[zqr,yz8,yz8,yz8,yz8];refine Ev.pick (λh=>by rw[h]at r;cases r) λi C =>?_
     refine G (es.eraseIdx i) (by rw[List.length_eraseIdx_of_lt C];omega) _ _ (x.put es[i].1) λs =>?_
     rw[<-hD s,Qbb,Qbc];rw[yvq C s,or_assoc]
   rw[zr6,Ev.zz2 (by simpa using F),Ev.yz2 (zz6 F),yz8,yz8,<-Qah (h:=F),List.all_cons,List.any_cons,Bool.not_and,<-Bool.or_assoc,<-Bool.or_assoc];refine O m.length m rfl _ [[115,120],[115,121],[115,122]] ?_ λs =>?_
   ·have Z:MK [] []:=λk=>by simp[z6b]
    exact((Z.put _).put _).put _
   ·rw[U.keys,Qbb]
 have:=main 0 (Qbv _) false u;rw[List.drop_zero,Bool.false_or]at this;exact this
def zy7{p:zz0}(D:p.wf)(hs:p.sz<=4000000):Ev (λn=>z0t n p) (zbw p):=by
 have:=@ztk p;have:=@zmt p;have N:(kzj p).length=p.attrs.length:=by simp[kzj]
 have K:(yz6 p).length=p.rules.length:=by simp[yz6]
 have U:∀(m:List (B8×Bool)) (u:Bool),TM m (kzj p)->(kzj p).Nodup->∀k,k<=p.rules.length->∀s,RM s ((yz6 p).take k)->((yz6 p).take k).Nodup->Ev (λn=>z5w n (k:Int) p.rules u (p.rules.length:Int) (mks m) (mvs m) (mks s) (mvs s) p) (if (dup (yz6 p)||(p.rules.drop k).any (ywn p))=true then 14 else if (u || !p.rules.all (kR p))=true then 6 else if zv1 p=true then 2 else 0):=λm u x B=>
  down (λs q y=>by
   rw[<-K,List.take_length]at q y;rw[zqp,Ev.kz1 (by simp),yz8,yz8,List.drop_length,yvh.2 y]
   exact yt9 D hs x q u) λk i C s q y=>by
   have o:=Qad i;have:=zsu o;have:=@zym p.rules[k];have A:=q p.rules[k].name;rw[zqp,Ev.zz2 (by simpa using i),Ev.yz2 (zz6 i),yz8,yz8];by_cases d:p.rules[k].name∈(yz6 p).take k
   ·rw[A,Qbx d,Ev.zz2 (by rfl),Ev.yz0]
    have:dup (yz6 p)=true:=by
     rw[yqb];intro F;have h:=yeh (k:=k+1) F;rw[zxw i,List.nodup_append]at h;exact h.2.2 _ d _ (Qbc.2 rfl) rfl
    rw[this];rfl
   ·rw[A,Qby d,Ev.kz1 (by rfl)];have hlen:((yz6 p).take k).length=k:=by rw[Qay];omega
    have z:=q.put d;rw[hlen,<-zxw i]at z
    have M:((yz6 p).take (k+1)).Nodup:=by
     rw[zxw i,List.nodup_append];exact⟨y,by simp,λa I b G e=>d (by rw[<-Qbc.1 G,<-e];exact I)⟩
    have Y:=C _ z M
    have R:=z01z (L:=λn j=>z5l n j p.rules[k].params p.rules u (p.rules.length:Int) (k:Int) (p.rules[k].params.length:Int) p.rules[k] (mks m) (mvs m) (mks (z99 s p.rules[k].name (k:Int))) (mvs (z99 s p.rules[k].name (k:Int))) p) (len:=p.rules[k].params.length) (p:=yw7 p p.rules[k]) (got:=14) (z02e (r:=p.rules[k]) B) (by
     rw[zqa,Ev.kz1 (by simp),wrk (by omega),yz8,yz8];exact Y) λj E w J=>by
     have O:∀b:Bool,Ev (λn=>z5f n p.rules[k].params p.rules u (p.rules.length:Int) (k:Int) (p.rules[k].params.length:Int) (j:Int) b p.rules[k] (mks m) (mvs m) (mks (z99 s p.rules[k].name (k:Int))) (mvs (z99 s p.rules[k].name (k:Int))) p) (if b=true then 14 else w):=λb=>by
      cases b
      ·rw[zqz,Ev.kz1 (by rfl),wrk (by omega),yz8,yz8];exact J
      ·rw[zqz,Ev.zz2 (by rfl),Ev.yz0];rfl
     rw[zqa,Ev.zz2 (by simpa using E),Ev.yz2 (zz6 E),yz8,yz8,x.mk,yw7,dif_pos E];by_cases h:p.rules[k].params[j]∈kzj p
     ·rw[Qbt h,Ev.zz2 rfl];exact O true
     ·rw[Qbs h,Ev.kz1 rfl,Ev.kz0 (yy1 (by omega))];exact O _
    refine R.to ?_;rw[<-Qah (h:=i),List.any_cons];cases ywn p p.rules[k] <;> cases dup (yz6 p) <;> rfl
 have X:∀k,k<=p.attrs.length->∀(u:Bool) (m:List (B8×Bool)),TM m ((kzj p).take k)->((kzj p).take k).Nodup->Ev (λn=>z4z n (k:Int) u p.attrs (p.attrs.length:Int) (mks m) (mvs m) (mks ([]:List (B8×Int))) (mvs ([]:List (B8×Int))) p) (if dup (kzj p)=true then 14 else if (dup (yz6 p)||p.rules.any (ywn p))=true then 14 else if ((u || !kA ((kzj p).take k) (p.attrs.drop k)) || !p.rules.all (kR p))=true then 6 else if zv1 p=true then 2 else 0) :=
  down (λu m x B=>by
   rw[<-N,List.take_length]at x B;rw[zpo,Ev.kz1 (by simp),yz8,yz8,List.drop_length,yvh.2 B,kA,Qby (by simp)];have:=U m u x B 0 (Qbv _) [] (by rw[List.take_zero];exact RM.nil) (by rw[List.take_zero];exact List.nodup_nil);rw[List.drop_zero]at this
   simpa using this) λk i C u m x B=>by
   have o:=Qad i;have:=ydj o;have:=@yfm p.attrs[k]
   have Q:∀u:Bool,Ev (λn=>z5n n u p.attrs (p.attrs.length:Int) (k:Int) (mks m) (mvs m) (mks ([]:List (B8×Int))) (mvs ([]:List (B8×Int))) p p.attrs[k]) (if dup (kzj p)=true then 14 else if (dup (yz6 p)||p.rules.any (ywn p))=true then 14 else if ((u || !kA ((kzj p).take (k+1)) (p.attrs.drop (k+1))) || !p.rules.all (kR p))=true then 6 else if zv1 p=true then 2 else 0):=λu=>by
    rw[y3t,yz8,yz8,x p.attrs[k].name];by_cases d:p.attrs[k].name∈(kzj p).take k
    ·rw[Qbx d];show Ev (λn=>pIf true _ _) _;rw[Ev.zz2 rfl,Ev.yz0]
     have:dup (kzj p)=true:=by
      rw[yqb];intro F;have h:=yeh (k:=k+1) F;rw[zm3 i,List.nodup_append]at h;exact h.2.2 _ d _ (Qbc.2 rfl) rfl
     rw[this];rfl
    ·rw[Qby d];show Ev (λn=>pIf false _ _) _;rw[Ev.kz1 rfl,wrk (by omega)];refine C u _ ?_ ?_
     ·rw[zm3 i];exact x.put _
     ·rw[zm3 i,List.nodup_append];exact⟨B,by simp,λa I b G e=>d (by rw[<-Qbc.1 G,<-e];exact I)⟩
   rw[zpo,Ev.zz2 (by simpa using i),Ev.yz2 (zz6 i),yz8,yz8,yz7.yz3,yz1.yz3,<-Qah (h:=i),kA,<-zm3 i]
   cases u with
   |true=>rw[Ev.zz2 rfl];exact(Q true).to (by simp)
   |false=>
    rw[Ev.kz1 rfl,Ev.kz0 (yby x.mk (z05g D o) (by omega)),yz8];exact(Q _).to (by rw[Bool.false_or,Bool.not_and])
 have Z:=X 0 (Qbv _) false [] (by rw[List.take_zero];exact TM.nil) (by rw[List.take_zero];exact List.nodup_nil);rw[ydn,Ev.kz0 (yub (by omega)),zbw];cases zts p
 case true=>rw[Ev.zz2 (by rfl),Ev.yz0];rfl
 rw[Ev.kz1 (by rfl),Ev.kz0 (ylk D (by omega)),Qby (by simp)];cases zdq p
 case false=>rw[Ev.zz2 (by rfl),Ev.yz0];rfl
 rw[Ev.kz1 (by rfl),Qbx rfl];refine Ev.to Z ?_;rw[List.take_zero,List.drop_zero,yme,zvr];show(if dup (kzj p)=true then _ else if (dup (yz6 p)||p.rules.any λr=>dup (r.params++kzj p))=true then _ else _)=_;cases dup (kzj p) <;> cases (dup (yz6 p)||p.rules.any λr=>dup (r.params++kzj p)) <;> cases kA [] p.attrs <;> cases p.rules.all (kR p) <;> rfl
def yqp(e:yz1):yz1.mk e.op (zz1.mk e.value.kind (kz4.mk e.value.num.num e.value.num.den) e.value.truth e.value.str e.value.list) e.name e.args=e:=by
 cases e with|mk o v n a=>cases v;rfl
def yxk(e:yz1):yz1.mk e.op e.value e.name e.args=e:=by cases e;rfl
def ykw:∀v:zz1,v.size<=2097152->Ev (λn=>z97 n v) v:=y9q λv r hs=>by
 have u:=zbb v;have hlen:=zk7 v.list
 have loop:∀k,k<=v.list.length->∀m j i h d a,Ev (λn=>z42 n (k:Int) v.list (v.list.length:Int) (v.list.take k) m j i h d v a) v :=
  down (λm j i h d a=>by
   rw[zot,Ev.kz1 (by simp),Ev.yz0,List.take_length];exact zz1.yz3 v) λk b o m j i h d a=>by
   have q:=Qad b;have s:=zng q;rw[zot,Ev.zz2 (by simpa using b),Ev.yz2 (zz6 b),zz1.yz3,Ev.kz0 (r _ q (by omega)),zz1.yz3,Ev.yz2 (z2w (by simp;omega)),wrk (by omega),zz1.yz3,z3g b];exact o _ _ _ _ _ _
 rw[y9l,zz1.yz3];exact loop 0 (Qbv _) _ _ _ _ _ _
def yt4{v:zz1}(hs:v.size<=2097152):Ev (λn=>zen n v) v:=by
 rw[yi3,zz1.yz3,Ev.kz0 (ykw v hs),Ev.yz0,zz1.yz3]
def yp7{e:yz1}(hs:e.value.size<=2097152):Ev (λn=>zcl n e) e:=by
 rw[yge,zz1.yz3,Ev.kz0 (yt4 hs),zz1.yz3,Ev.yz0,yxk]
def yq3:∀e:yz1,e.size<=2097152->Ev (λn=>zal n e) e:=zyl λe w hs=>by
 have y:=z9a e;have hlen:=zb8 e.args
 have loop:∀k,k<=e.args.length->∀r q o m j i h d b,Ev (λn=>z65 n (k:Int) e.args (e.args.length:Int) e.op e.value.kind e.value.num.num e.value.num.den e.value.truth e.value.str e.value.list e.name r q o m j i h d (e.args.take k) b) e :=
  down (λr q o m j i h d b=>by
   rw[zr7,Ev.kz1 (by simp),List.take_length]
   rw[yqp,Ev.kz0 (yp7 (by omega)),yz1.yz3,Ev.yz0]) λk a s r q o m j i h d b=>by
   have u:=Qad a;have x:=zjm u;rw[zr7,Ev.zz2 (by simpa using a),Ev.yz2 (zz6 a),yz1.yz3,Ev.kz0 (w _ u (by omega)),yz1.yz3,Ev.yz2 (z2w (by simp;omega)),wrk (by omega),z3g a];exact s _ _ _ _ _ _ _ _ _
 rw[ydu];exact loop 0 (Qbv _) _ _ _ _ _ _ _ _ _
def y05{e:yz1}(hs:e.size<=2097152):Ev (λn=>z9x n e) e:=by
 rw[yn4,yz1.yz3,Ev.kz0 (yq3 e hs),yz1.yz3,Ev.yz0]
def zx8{l:kz5}(hs:(l.map yz1.size).sum<=2097140):Ev (λn=>z5m n l) l:=by
 have a:Ev (λn=>z8d n l) (zcd l):=by rw[y15,Ev.yz0];rfl
 rw[y40,Ev.kz0 a,yz1.yz3,Ev.kz0 (y05 (by rw[zii];omega)),Ev.yz0];rfl
def yat{α:Type}(l:List α)(x:α):ix (l++[x]) (l.length:Int)=some x:=by rw[yd3];simp
def y5s{α:Type}(l:List α)(x y:α):(l++[x]).set (Int.toNat (l.length:Int)) y=l++[y]:=by simp
def ytd{l:List B8}(h:l.length<=8388608):Ev (λn=>z8m n l) l:=⟨0,λ_ _=>Qbx h⟩
def yfh{p:zz0}(hs:p.sz<=2097151):Ev (λn=>za3 n p) (p.attrs,p.rules):=by
 have P:=@ztk p;have W:=@zmt p
 have I:∀m,m<=p.rules.length->∀d h,Ev (λn=>z7x n (m:Int) p.rules (p.rules.length:Int) p.attrs (p.rules.take m) d h) (p.attrs,p.rules) :=
  down (λd h=>by rw[zu2,Ev.kz1 (by simp),Ev.yz0,List.take_length]) λm q x d h=>by
  have M:=Qad q;have:=zsu M;have R:=@zym p.rules[m];have U:=@zwb p.rules[m]
  have G:∀i,i<=p.rules[m].cases.length->∀a,Ev (λn=>z77 n (i:Int) p.rules[m].cases p.rules (p.rules.length:Int) (m:Int) (p.rules[m].cases.length:Int) p.rules[m].name p.rules[m].params (p.rules[m].cases.take i) p.attrs (p.rules.take m) a h) (p.attrs,p.rules):=by
   refine down (λa =>?_) λi b u a =>?_
   ·rw[ztl,Ev.kz1 (by simp),Ev.yz2 (z2w (by simp;omega)),Ev.yz2 (yat _ _)];dsimp only;rw[y5s,List.take_length,wrk (by omega)];have e:p.rules.take m++[zz3.mk p.rules[m].name p.rules[m].params p.rules[m].cases]=p.rules.take (m+1):=z3g q;rw[e];exact x _ _
   ·have N:=Qad b;have:=zsk N;have X:=@ykh p.rules[m].cases[i];have Y:=@zw4 p.rules[m].cases[i];generalize B:p.rules[m].cases[i]=C at *
    have F:∀k,k<=C.do_.length->Ev (λn=>z7u n (k:Int) C.do_ p.rules[m].cases p.rules (p.rules.length:Int) (m:Int) (p.rules[m].cases.length:Int) (i:Int) (C.do_.length:Int) C.weight C.when_.op C.when_.value.kind C.when_.value.num.num C.when_.value.num.den C.when_.value.truth C.when_.value.str C.when_.value.list C.when_.name C.when_.args p.rules[m].name p.rules[m].params (C.do_.take k) (p.rules[m].cases.take i) p.attrs (p.rules.take m) a h) (p.attrs,p.rules):=by
     refine down ?_ λk r y =>?_
     ·rw[zu3,Ev.kz1 (by simp),yqp,Ev.yz2 (z2w (by simp;omega)),Ev.yz2 (yat _ _)];dsimp only;rw[yz1.yz3,y5s,List.take_length,wrk (by omega)];have e:p.rules[m].cases.take i++[zz4.mk C.weight C.when_ C.do_]=p.rules[m].cases.take (i+1):=by rw[<-z3g b,B]
      rw[e];exact u _
     ·have O:=Qad r;have:=zx5 O;have H:=@ybv C.do_[k];have Z:=@y1n C.do_[k];generalize D:C.do_[k]=A at *
      have E:∀j,j<=A.items.length->Ev (λn=>z7k n (j:Int) A.items C.do_ p.rules[m].cases p.rules (p.rules.length:Int) (m:Int) (p.rules[m].cases.length:Int) (i:Int) (C.do_.length:Int) (k:Int) (A.items.length:Int) A.kind A.axis A.name A.args C.weight C.when_.op C.when_.value.kind C.when_.value.num.num C.when_.value.num.den C.when_.value.truth C.when_.value.str C.when_.value.list C.when_.name C.when_.args p.rules[m].name p.rules[m].params (A.items.take j) (C.do_.take k) (p.rules[m].cases.take i) p.attrs (p.rules.take m) a h) (p.attrs,p.rules):=by
       refine down ?_ λj s z =>?_
       ·rw[zus,Ev.kz1 (by simp),Ev.yz2 (z2w (by simp;omega)),Ev.yz2 (yat _ _)];dsimp only;rw[y5s,List.take_length,wrk (by omega)];have e:C.do_.take k++[kz2.mk A.kind A.axis A.name A.args A.items]=C.do_.take (k+1):=by rw[<-z3g r,D]
        rw[e];exact y
       ·have K:=Qad s;have:=y8b K;have Q:=@ydd A.items[j];rw[zus,Ev.zz2 (by simpa using s),Ev.yz2 (zz6 s),Ev.kz0 (zx8 (by omega)),Ev.yz2 (z2w (by simp;omega)),wrk (by omega)];have e:A.items.take j++[zz7.mk A.items[j].kind A.items[j].name A.items[j].args]=A.items.take (j+1):=z3g s;rw[e];exact z
      rw[zu3,Ev.zz2 (by simpa using r),Ev.yz2 (zz6 r),D,Ev.kz0 (zx8 (by omega))];exact E 0 (Qbv _)
    rw[ztl,Ev.zz2 (by simpa using b),Ev.yz2 (zz6 b),B,yz1.yz3,Ev.kz0 (y05 (by omega))];exact F 0 (Qbv _)
  rw[zu2,Ev.zz2 (by simpa using q),Ev.yz2 (zz6 q),Ev.kz0 (ytd (by omega))];exact G 0 (Qbv _) _
 have J:∀i,i<=p.attrs.length->∀o a d,o=[]->Ev (λn=>z7d n (i:Int) p.attrs (p.attrs.length:Int) p (p.attrs.take i) o a d) (p.attrs,p.rules) :=
  down (λo a d w=>by rw[zsc,Ev.kz1 (by simp),List.take_length,w];exact I 0 (Qbv _) _ _) λi b u o a d w=>by
   have L:=Qad b;have:=ydj L;have:=@yfm p.attrs[i];rw[zsc,Ev.zz2 (by simpa using b),Ev.yz2 (zz6 b),yz1.yz3,Ev.kz0 (y05 (by omega)),Ev.yz2 (z2w (by simp;omega)),yz1.yz3,wrk (by omega)];have e:p.attrs.take i++[yz7.mk p.attrs[i].name p.attrs[i].value]=p.attrs.take (i+1):=z3g b;rw[e];exact u _ _ _ w
 rw[yi1];exact J 0 (Qbv _) _ _ _ rfl
def yki{r:zz3}(hs:r.sz<=2097148):Ev (λn=>zdr n r) (r.name,r.params,r.cases):=by
 have h:Ev (λn=>za3 n ⟨[],[r]⟩) ([],[r]):=yfh (p:=⟨[],[r]⟩) (by rw[zz0.z01];simp;omega);have e:ix (([]:kz6),[r]).2 0=some r:=rfl;rw[yns,Ev.kz0 h,Ev.yz2 e,Ev.yz2 e,Ev.yz2 e,Ev.yz0]
section
variable {α:Type}{g:α → α}{l:List α}{k:Nat}
def upto(g:α->α)(l:List α)(k:Nat):List α:=(l.take k).map g++l.drop k
def z01o(h:k<=l.length):(upto g l k).length=l.length:=by simp[upto];omega
def zyv:upto g l 0=l:=by simp[upto]
def y5e:upto g l l.length=l.map g:=by simp[upto]
def yr5(h:k<l.length):(upto g l k)[k]? = some l[k]:=by
 unfold upto;rw[Qav (by simp;omega)];simp[Nat.min_eq_left (Nat.le_of_lt h)]
def z01n(h:k<l.length)(x:α):(upto g l k).set k x=(l.take k).map g++x::l.drop (k+1):=by
 unfold upto;rw[List.set_append_right _ _ (by simp;omega)];simp only[Qbd,Qay,Nat.min_eq_left (Nat.le_of_lt h),Nat.sub_self];rw[<-Qah (h:=h)];rfl
def y5r(h:k<l.length):(upto g l k).set k (g l[k])=upto g l (k+1):=by
 rw[z01n h,upto,<-z3g h,List.map_append,Qaz];rfl
def ybb(h:k<l.length):ix (upto g l k) (k:Int)=some l[k]:=by rw[yd3,yr5 h]
def zkw(h:k<l.length)(x:α):ix (l.set k x) (k:Int)=some x:=by rw[yd3,Qaq h]
def zl9(x:α):l.set (Int.toNat (k:Int)) x=l.set k x:=by rw[Qbq]
end
section
variable {f t:B8}
def z02a{l:zz5}{i:Nat}(b:i<l.length){r:zz3}(a:l[i]=r):Ev (λn=>zag n (i:Int) f t l) (f,t,l.set i ⟨rn f t r.name,r.params,r.cases⟩):=by
 rw[y6m,Ev.yz2 (zz6 b),a];unfold rn;by_cases h:r.name=f
 ·rw[Ev.zz2 (by simpa using h),Ev.yz2 (zz6 b),Ev.yz0,zl9,a,Qbx h]
 ·rw[Ev.kz1 (by simpa using h),Ev.yz0,Qby h]
  have e:l.set i ⟨r.name,r.params,r.cases⟩=l:=by
   show l.set i r=l;rw[<-a,List.set_getElem_self]
  rw[e]
def yyz{l:yzu}{i:Nat}(b:i<l.length){r:kz2}(a:l[i]=r):Ev (λn=>z6a n (i:Int) f t l) (f,t,l.set i ⟨r.kind,r.axis,rn f t r.name,r.args,r.items⟩):=by
 rw[y0d,Ev.yz2 (zz6 b),a];unfold rn;by_cases h:r.name=f
 ·rw[Ev.zz2 (by simpa using h),Ev.yz2 (zz6 b),Ev.yz0,zl9,a,Qbx h]
 ·rw[Ev.kz1 (by simpa using h),Ev.yz0,Qby h]
  have e:l.set i ⟨r.kind,r.axis,r.name,r.args,r.items⟩=l:=by
   show l.set i r=l;rw[<-a,List.set_getElem_self]
  rw[e]
def z007{l:zdu}{i:Nat}(b:i<l.length){r:zz7}(a:l[i]=r):Ev (λn=>z68 n (i:Int) r f t l) (f,t,l.set i (zvb f t r)):=by
 rw[y0k];unfold zvb rn;by_cases h:r.name=f
 ·rw[Ev.zz2 (by simpa using h),Ev.yz0,zl9,Qbx h]
 ·rw[Ev.kz1 (by simpa using h),Ev.yz0,Qby h]
  have e:l.set i ⟨r.kind,r.name,r.args⟩=l:=by
   show l.set i r=l;rw[<-a,List.set_getElem_self]
  rw[e]
end
def yaz{α:Type}{g:α->α}{l:List α}{k:Nat}(h:k<l.length):∃a:k<(upto g l k).length,(upto g l k)[k]=l[k]:=by
 refine⟨by rw[z01o (Nat.le_of_lt h)];exact h,?_⟩;have:=yr5 (g:=g) h;exact(Qaa.1 this).2
def yrp{p:zz0}{f t:B8}(hs:p.sz<=2097151):Ev (λn=>zam n f t p.attrs p.rules) ((zi5 f t p).attrs,(zi5 f t p).rules):=by
 have K:=@zmt p;have⟨b,d⟩:=p;replace K:d.length<=(zz0.mk b d).sz:=K;show Ev (λn=>zam n f t b d) (b,d.map (zj2 f t))
 have Q:∀i,i<=d.length->Ev (λn=>z5x n (i:Int) (d.length:Int) f t b (upto (zj2 f t) d i)) (b,d.map (zj2 f t)):=by
  refine down ?_ λi u J =>?_
  ·rw[zpc,Ev.kz1 (by simp),Ev.yz0,y5e]
  ·have R:=Qad u;have:=zsu (p:=⟨b,d⟩) R;have W:=@zwb d[i];have⟨w,I⟩:=yaz (g:=zj2 f t) u;have o:upto (zj2 f t) d (i+1)=(upto (zj2 f t) d i).set i (zj2 f t d[i]):=(y5r u).symm;have h:=ybb (g:=zj2 f t) u;rw[o]at J;generalize upto (zj2 f t) d i=A at *;generalize d[i]=r at *
   have O:∀k,k<=r.cases.length->Ev (λn=>z4y n (k:Int) (d.length:Int) (i:Int) (r.cases.length:Int) f t (upto (zri f t) r.cases k) b (A.set i ⟨rn f t r.name,r.params,r.cases⟩) (i:Int)) (b,d.map (zj2 f t)):=by
    refine down ?_ λk s y =>?_
    ·rw[zpg,Ev.kz1 (by simp),Ev.yz2 (zkw w _)];dsimp only;rw[zl9,List.set_set,y5e,wrk (by omega)];exact J
    ·have U:=Qad s;have:=zsk U;have H:=@zw4 r.cases[k];have⟨P,L⟩:=yaz (g:=zri f t) s;have o:upto (zri f t) r.cases (k+1)=(upto (zri f t) r.cases k).set k (zri f t r.cases[k]):=(y5r s).symm;have h:=ybb (g:=zri f t) s;rw[o]at y;generalize upto (zri f t) r.cases k=C at *;generalize r.cases[k]=c at *
     have N:∀m,m<=c.do_.length->Ev (λn=>z54 n (m:Int) (d.length:Int) (i:Int) (r.cases.length:Int) (k:Int) (c.do_.length:Int) c.weight c.when_.op c.when_.value.kind c.when_.value.num.num c.when_.value.num.den c.when_.value.truth c.when_.value.str c.when_.value.list c.when_.name c.when_.args f t C (k:Int) b (A.set i ⟨rn f t r.name,r.params,r.cases⟩) (i:Int) (upto (zmu f t) c.do_ m)) (b,d.map (zj2 f t)):=by
      refine down ?_ λm q x =>?_
      ·rw[zp5,Ev.kz1 (by simp),Ev.yz2 h];rw[zl9,y5e,yz1.yz3,wrk (by omega)];exact y
      ·have X:=Qad q;have:=zx5 X;have Z:=@y1n c.do_[m];have⟨hD,E⟩:=yaz (g:=zmu f t) q;have o:upto (zmu f t) c.do_ (m+1)=(upto (zmu f t) c.do_ m).set m (zmu f t c.do_[m]):=(y5r q).symm;have G:=ybb (g:=zmu f t) q;rw[o]at x;generalize upto (zmu f t) c.do_ m=B at *;generalize c.do_[m]=a at *
       have M:∀j,j<=a.items.length->Ev (λn=>z5z n (j:Int) (m:Int) (d.length:Int) (i:Int) (r.cases.length:Int) (k:Int) (c.do_.length:Int) (m:Int) (a.items.length:Int) c.weight c.when_.op c.when_.value.kind c.when_.value.num.num c.when_.value.num.den c.when_.value.truth c.when_.value.str c.when_.value.list c.when_.name c.when_.args f t C (k:Int) b (A.set i ⟨rn f t r.name,r.params,r.cases⟩) (i:Int) (B.set m ⟨a.kind,a.axis,rn f t a.name,a.args,upto (zvb f t) a.items j⟩)) (b,d.map (zj2 f t)):=by
        refine down ?_ λj F z =>?_
        ·rw[zpl,Ev.kz1 (by simp),y5e,wrk (by omega)];exact x
        ·have o:upto (zvb f t) a.items (j+1)=(upto (zvb f t) a.items j).set j (zvb f t a.items[j]):=(y5r F).symm;have h:=ybb (g:=zvb f t) F;have⟨Y,D⟩:=yaz (g:=zvb f t) F;rw[zpl,Ev.zz2 (by simpa using F),Ev.yz2 (zkw hD _),Ev.yz2 (zkw hD _),Ev.yz2 (zkw hD _)];dsimp only;rw[Ev.yz2 h,Ev.kz0 (z007 Y D),Ev.yz2 (zkw hD _)];dsimp only;rw[zl9,List.set_set,wrk (by omega)];rw[o]at z;exact z
       rw[zp5,Ev.zz2 (by simpa using q),Ev.yz2 G,Ev.kz0 (yyz hD E),Ev.yz2 (zkw hD _),Ev.yz2 (zkw hD _),Ev.yz2 (zkw hD _),Ev.yz2 (zkw hD _)];dsimp only;rw[zl9,List.set_set];have:=M 0 (Qbv _);rw[zyv]at this;exact this
     rw[zpg,Ev.zz2 (by simpa using s),Ev.yz2 h,Ev.yz2 h,Ev.yz2 h];have:=N 0 (Qbv _);rw[zyv]at this;exact this
   rw[zpc,Ev.zz2 (by simpa using u),Ev.yz2 h,Ev.kz0 (z02a w I),Ev.yz2 (zkw w _),Ev.yz2 (zkw w _),Ev.yz2 (zkw w _)];have:=O 0 (Qbv _);rw[zyv]at this;exact this
 rw[yf6];have:=Q 0 (Qbv _);rw[zyv]at this;exact this
def y7v:yz1:=⟨0,⟨0,⟨0,0⟩,false,[],[]⟩,[],[]⟩
def y8a(r:zz3):Bool:=r.name==[]&&((r.params.length:Int)==0&&(r.cases.length:Int)==0)
def y67(e:yzh):Bool :=
 if e.kind==1||e.kind==3 then e.name==[]&&(e.to_==[]&&eqB e.value y7v)
 else if e.kind==2 then e.to_==[]&&(y8a e.rule_&&eqB e.value y7v)
 else if e.kind==4 then y8a e.rule_&&eqB e.value y7v
 else if e.kind==5 then e.to_==[]&&y8a e.rule_
 else false
def ytp{r:zz3}:Ev (λn=>zef n r) (y8a r):=by
 rw[yj7];unfold y8a;simp only[Ev.pif,Ev.yz0];cases r.name==[] <;> cases (r.params.length:Int)==0 <;> simp
def yrv{e:yzh}(hs:e.value.size<=8388608):Ev (λn=>zcy n e) (y67 e):=by
 rw[ye7,Ev.kz0 ytp,yz1.yz3,Ev.kz0 (ywz _ _ hs)];change Ev (λn=>pIf (e.kind==1) (z1k n (!eqB e.value y7v) (!y8a e.rule_) e.kind true e.re) (z1k n (!eqB e.value y7v) (!y8a e.rule_) e.kind (e.kind==3) e.re)) (y67 e);rw[yzh.yz3];unfold y67;generalize eqB e.value y7v=z;generalize y8a e.rule_=o
 have a:∀b,Ev (λn=>z1k n (!z) (!o) e.kind b e) (if b then e.name==[]&&(e.to_==[]&&z)else if e.kind==2 then e.to_==[]&&(o&&z)else if e.kind==4 then o&&z else if e.kind==5 then e.to_==[]&&o else false):=λb=>by
  rw[y5d];simp only[Ev.pif,Ev.yz0];cases b <;> cases e.name==[] <;> cases e.to_==[] <;> cases o <;> cases z <;> cases e.kind==2 <;> cases e.kind==4 <;> cases e.kind==5 <;> rfl
 rw[Ev.pif];cases h:e.kind==1
 ·exact a _
 ·exact a _
def zil(p:zz0)(e:yzh):Int×zz0 :=
 if e.kind=1 then (if atI (yz6 p) e.rule_.name<0 then (0,⟨p.attrs,p.rules++[e.rule_]⟩)else (14,p))
 else if e.kind=2 then (if atI (yz6 p) e.name<0 then (6,p)else (0,⟨p.attrs,p.rules.take (atI (yz6 p) e.name).toNat++p.rules.drop ((atI (yz6 p) e.name).toNat+1)⟩))
 else if e.kind=3 then (if atI (yz6 p) e.rule_.name<0 then (6,p)else (0,⟨p.attrs,p.rules.set (atI (yz6 p) e.rule_.name).toNat e.rule_⟩))
 else if e.kind=4 then (if atI (yz6 p) e.name<0 then (6,p)else if atI (yz6 p) e.to_<0 then (0,zi5 e.name e.to_ p)else (14,p))
 else (if atI (kzj p) e.name<0 then (6,p)else (0,⟨p.attrs.set (atI (kzj p) e.name).toNat ⟨e.name,e.value⟩,p.rules⟩))
def yvg{α γ:Type}{L:Nat->Int->Option γ}{xs:List α}{nm:α->B8}{s:B8}{out:Int->γ}
  (u:Ev (λn=>L n (xs.length:Int)) (out (-1))) (o:∀k (h:k<xs.length),nm xs[k]=s->Ev (λn=>L n (k:Int)) (out (k:Int)))
  (m:∀k (h:k<xs.length) v,nm xs[k]≠s->Ev (λn=>L n ((k+1:Nat):Int)) v->Ev (λn=>L n (k:Int)) v):Ev (λn=>L n 0) (out (atI (xs.map nm) s)):=by
 by_cases h:s∈xs.map nm
 ·have⟨i,r,d,x,w⟩:=zy9 h;have j:i<xs.length:=by simpa using r
  rw[d];exact down (len:=i) (Q:=λk=>Ev (λn=>L n (k:Int)) (out (i:Int))) (o i j (by simpa using x)) (λk a b=>m k (by omega) _ (by simpa using w k a) b) 0 (Qbv _)
 ·have d:atI (xs.map nm) s = -1:=by
   have:=zfb.2 h;have:=@z01b (xs.map nm) s;omega
  rw[d];exact down (len:=xs.length) (Q:=λk=>Ev (λn=>L n (k:Int)) (out (-1))) u (λk a b=>m k a _ (λq=>h (Qbg.2 ⟨_,Qad a,q⟩)) b) 0 (Qbv _)
def yl9{α:Type}{xs:List α}{nm:α->B8}{s:B8}(h:¬atI (xs.map nm) s<0):∃i:Nat,∃a:i<xs.length,atI (xs.map nm) s=(i:Int)∧nm xs[i]=s:=by
 have h:s∈xs.map nm:=Classical.byContradiction λq=>h (zfb.2 q)
 have⟨i,a,d,b,j⟩:=zy9 h;exact⟨i,by simpa using a,d,by simpa using b⟩
def ywx{l:zz5}{s:B8}(j:l.length<=8388608):Ev (λn=>yzi n l s) (atI (l.map (·.name)) s,s):=by
 have b:∀r:zz3,Ev (λn=>zcr n r s) (r.name==s,s):=λr=>by rw[yfs,Ev.yz0]
 rw[zgr];refine yvg (L:=λn k=>kz9 n k l (l.length:Int) s) (nm:=λr:zz3=>r.name) (out:=λi=>(i,s)) ?_ (λk a h =>?_) λk a v h d =>?_
 ·rw[z1d,Ev.kz1 (by simp),Ev.yz0]
 ·rw[z1d,Ev.zz2 (by simpa using a),Ev.yz2 (zz6 a),Ev.kz0 (b _),Ev.zz2 (by simpa using h),Ev.yz0]
 ·rw[z1d,Ev.zz2 (by simpa using a),Ev.yz2 (zz6 a),Ev.kz0 (b _),Ev.kz1 (by simpa using h),wrk (by omega)];exact d
def yxr{l:kz6}{s:B8}(j:l.length<=8388608):Ev (λn=>zzi n s l) (atI (l.map (·.name)) s,s,l):=by
 have b:∀r:yz7,Ev (λn=>zco n r s) (r.name==s,s):=λr=>by rw[yep,Ev.yz0]
 rw[zgj];refine yvg (L:=λn k=>yza n k (l.length:Int) s l) (nm:=λr:yz7=>r.name) (out:=λi=>(i,s,l)) ?_ (λk a h =>?_) λk a v h d =>?_
 ·rw[z1g,Ev.kz1 (by simp),Ev.yz0]
 ·rw[z1g,Ev.zz2 (by simpa using a),Ev.yz2 (zz6 a),yz7.yz3,Ev.kz0 (b _),Ev.zz2 (by simpa using h),Ev.yz0]
 ·rw[z1g,Ev.zz2 (by simpa using a),Ev.yz2 (zz6 a),yz7.yz3,Ev.kz0 (b _),Ev.kz1 (by simpa using h),wrk (by omega)];exact d
def yyj{p:zz0}{s:B8}(a:p.rules.length<=8388608):Ev (λn=>z8c n p s) (atI (yz6 p) s):=by
 rw[yny,Ev.kz0 (ywx a),Ev.yz0];rfl
section
variable {p:zz0}{e:yzh}(hs:p.sz + e.size ≤ 2097151)
include hs
theorem yxj(J:e.kind=1∨e.kind=2∨e.kind=3∨e.kind=4∨e.kind=5):Ev (λn=>zdv n e p.attrs p.rules) ((zil p e).1,(zil p e).2.attrs,(zil p e).2.rules):=by
 have hp:=@zmt p;have L:=@ztk p;have K:=e.size_eq;have I:=zz3.zxg e.rule_;have z:∀a r,Ev (λn=>z2f n a r) (0,a,r):=λa r=>by rw[y9w,Ev.yz0]
 have D:∀s,Ev (λn=>z8c n (zz0.mk p.attrs p.rules) s) (atI (yz6 p) s):=λs=>yyj (p:=p) (by omega)
 have start:∀v,Ev (λn=>z6d n (if e.kind=5 then atI (kzj p) e.name else atI (yz6 p) (if e.kind=1∨e.kind=3 then e.rule_.name else e.name)) p.attrs p.rules e) v->Ev (λn=>zdv n e p.attrs p.rules) v:=λv q=>by
  have E:∀nm,nm=(if e.kind=1∨e.kind=3 then e.rule_.name else e.name)->Ev (λn=>z9m n p.attrs p.rules e nm) v:=λnm u=>by
   rw[y9n,Ev.kz0 (D nm),yzh.yz3];by_cases w:e.kind=5
   ·rw[Ev.zz2 (by simpa using w)];have u:nm=e.name:=by rw[u,Qby (by omega)]
    rw[Ev.kz0 (yxr (by omega)),u];rw[Qbx w]at q;exact q
   ·rw[Ev.kz1 (by simpa using w)];rw[Qby w,<-u]at q;exact q
  have F:∀b,b=decide (e.kind=1∨e.kind=3)->Ev (λn=>z9d n b p.attrs p.rules e e.name) v:=λb C=>by
   rw[yao,yzh.yz3];by_cases h:e.kind=1∨e.kind=3
   ·rw[Ev.zz2 (by rw[C];simpa using h)];exact E _ (by rw[Qbx h])
   ·rw[Ev.kz1 (by rw[C];simpa using h)];exact E _ (by rw[Qby h])
  rw[yly,yzh.yz3];by_cases d:e.kind=1
  ·rw[Ev.zz2 (by simpa using d)];exact F _ (by simp[d])
  ·rw[Ev.kz1 (by simpa using d)];exact F _ (by by_cases m:e.kind=3 <;> simp[d,m])
 refine start _ ?_
 have A:∀i b,b=(decide (i<0)&&(e.kind != 1))->∀v,Ev (λn=>z9n n i b p.attrs p.rules e) v->Ev (λn=>z6d n i p.attrs p.rules e) v:=λi b C v q=>by
  rw[yaq,yzh.yz3];by_cases h:i<0
  ·rw[Ev.zz2 (by simpa using h)];rw[C]at q;simpa[h]using q
  ·rw[Ev.kz1 (by simpa using h)];rw[C]at q;simpa[h]using q
 unfold zil;by_cases d:e.kind=1
 ·rw[Qby (by omega),Qbx (Or.inl d),Qbx d];refine A _ false (by simp[d]) _ ?_;rw[z3m,Ev.kz1 rfl,Ev.zz2 (by simpa using d)];by_cases h:atI (yz6 p) e.rule_.name<0
  ·rw[Ev.kz1 (by simp;omega),Qbx h,Ev.kz0 (yki (by omega)),Ev.yz2 (z2w (by simp;omega)),Ev.yz2 (yat _ _)];dsimp only;rw[y5s];exact z _ _
  ·rw[Ev.zz2 (by simp;omega),Qby h,Ev.yz0]
 by_cases o:e.kind=2
 ·rw[Qby (by omega),Qby (by omega),Qby d,Qbx o];refine A _ _ rfl _ ?_;by_cases h:atI (yz6 p) e.name<0
  ·rw[z3m,Ev.zz2 (by simp[h,o]),Qbx h,Ev.yz0]
  ·have⟨i,x,j,y⟩:=yl9 h;have j:atI (yz6 p) e.name=(i:Int):=j
   have G:Ev (λn=>z3q n (i:Int) ((i+1:Nat):Int) p.rules) (p.rules.take i++p.rules.drop (i+1)):=⟨0,λ_ _=>by
    show yjo _ _ _=_;unfold yjo
    rw[Qbx (by omega),Qbq,Qbq]⟩
   rw[z3m,Ev.kz1 (by simp[h]),Ev.kz1 (by simpa using d),Ev.zz2 (by simpa using o),Qby h,j,wrk (by omega),Ev.kz0 G,Qbq];exact z _ _
 by_cases m:e.kind=3
 ·rw[Qby (by omega),Qbx (Or.inr m),Qby d,Qby o,Qbx m];refine A _ _ rfl _ ?_;by_cases h:atI (yz6 p) e.rule_.name<0
  ·rw[z3m,Ev.zz2 (by simp[h,m]),Qbx h,Ev.yz0]
  ·have⟨i,x,j,y⟩:=yl9 h;have j:atI (yz6 p) e.rule_.name=(i:Int):=j;rw[z3m,Ev.kz1 (by simp[h]),Ev.kz1 (by simpa using d),Ev.kz1 (by simpa using o),Ev.zz2 (by simpa using m),Qby h,j,Ev.kz0 (yki (by omega)),Ev.yz2 (zz6 x),Ev.yz2 (zz6 x),zl9,Ev.yz2 (zkw x _)];dsimp only;rw[zl9,List.set_set,Qbq];exact z _ _
 by_cases B:e.kind=4
 ·rw[Qby (by omega),Qby (by omega),Qby d,Qby o,Qby m,Qbx B];refine A _ _ rfl _ ?_;by_cases h:atI (yz6 p) e.name<0
  ·rw[z3m,Ev.zz2 (by simp[h,B]),Qbx h,Ev.yz0]
  ·rw[z3m,Ev.kz1 (by simp[h]),Ev.kz1 (by simpa using d),Ev.kz1 (by simpa using o),Ev.kz1 (by simpa using m),Ev.zz2 (by simpa using B),Qby h,Ev.kz0 (D _)];by_cases y:atI (yz6 p) e.to_<0
   ·rw[Ev.kz1 (by simp;omega),Qbx y,Ev.kz0 (yrp (by omega))];exact z _ _
   ·rw[Ev.zz2 (by simp;omega),Qby y,Ev.yz0]
 have w:e.kind=5:=by omega
 rw[Qbx w,Qby d,Qby o,Qby m,Qby B];refine A _ _ rfl _ ?_;by_cases h:atI (kzj p) e.name<0
 ·rw[z3m,Ev.zz2 (by simp[h,w]),Qbx h,Ev.yz0]
 ·have⟨i,x,j,y⟩:=yl9 h;have j:atI (kzj p) e.name=(i:Int):=j;rw[z3m,Ev.kz1 (by simp[h]),Ev.kz1 (by simpa using d),Ev.kz1 (by simpa using o),Ev.kz1 (by simpa using m),Ev.kz1 (by simpa using B),Qby h,j,yz1.yz3,Ev.kz0 (y05 (by omega)),Ev.yz2 (zz6 x),zl9,yz1.yz3,Qbq,y];exact z _ _
end
def yx5{e:yzh}(h:y67 e=true):e.kind=1∨e.kind=2∨e.kind=3∨e.kind=4∨e.kind=5:=by
 unfold y67 at h;by_cases j:e.kind=1
 ·exact .inl j
 by_cases i:e.kind=2
 ·exact .inr (.inl i)
 by_cases d:e.kind=3
 ·exact .inr (.inr (.inl d))
 by_cases b:e.kind=4
 ·exact .inr (.inr (.inr (.inl b)))
 by_cases a:e.kind=5
 ·exact .inr (.inr (.inr (.inr a)))
 simp[j,i,d,b,a]at h
def yl1{α:Type}{f:α->Nat}:∀{a b:List α},((a++b).map f).sum=(a.map f).sum+(b.map f).sum
 |[],b=>by simp
 |x::a,b=>by simp only[List.cons_append,List.map_cons,List.sum_cons];rw[yl1];omega
def z04k{α:Type}{f:α->Nat}(l:List α)(k:Nat):((l.take k++l.drop (k+1)).map f).sum<=(l.map f).sum:=by
 have a:((l.take k++l.drop k).map f).sum=(l.map f).sum:=by rw[List.take_append_drop]
 rw[yl1]at a ⊢
 have b:((l.drop (k+1)).map f).sum<=((l.drop k).map f).sum:=by
  rw[<-List.tail_drop]
  cases l.drop k with
  |nil=>exact Qbw _
  |cons x r=>simp
 omega
def yl0{α:Type}{f:α->Nat}(x:α):∀(l:List α) (k:Nat),((l.set k x).map f).sum<=(l.map f).sum+f x
 |[],k=>by simp
 |y::l,0=>by simp only[List.set_cons_zero,List.map_cons,List.sum_cons];omega
 |y::l,k+1=>by have:=yl0 (f:=f) x l k;simp only[List.set_cons_succ,List.map_cons,List.sum_cons];omega
def z01p(p:zz0){e:yzh}(m:e.size<=1048575):(zil p e).2.sz<=p.sz+e.size:=by
 have h:=e.size_eq;have j:=zz3.zxg e.rule_;unfold zil;by_cases i:e.kind=1
 ·rw[Qbx i];split
  ·show zz0.sz ⟨_,_⟩<=_;rw[zz0.z01,zz0.z01];dsimp only;rw[yl1];simp only[List.map_cons,List.map_nil,List.sum_cons,List.sum_nil];omega
  ·exact Nat.le_add_right _ _
 rw[Qby i];by_cases d:e.kind=2
 ·rw[Qbx d];split
  ·exact Nat.le_add_right _ _
  ·show zz0.sz ⟨_,_⟩<=_;rw[zz0.z01,zz0.z01];dsimp only;have:=z04k (f:=zz3.sz) p.rules (atI (yz6 p) e.name).toNat;omega
 rw[Qby d];by_cases b:e.kind=3
 ·rw[Qbx b];split
  ·exact Nat.le_add_right _ _
  ·show zz0.sz ⟨_,_⟩<=_;rw[zz0.z01,zz0.z01];dsimp only;have:=yl0 (f:=zz3.sz) e.rule_ p.rules (atI (yz6 p) e.rule_.name).toNat;omega
 rw[Qby b];by_cases a:e.kind=4
 ·rw[Qbx a];split
  ·exact Nat.le_add_right _ _
  ·split
   ·exact Qbk (yvj (by omega) p) (Nat.le_add_right _ _)
   ·exact Nat.le_add_right _ _
 rw[Qby a];split
 ·exact Nat.le_add_right _ _
 ·show zz0.sz ⟨_,_⟩<=_;rw[zz0.z01,zz0.z01];dsimp only;have:=yl0 (f:=yz7.size) (yz7.mk e.name e.value) p.attrs (atI (kzj p) e.name).toNat;rw[yz7.size_eq]at this;dsimp only at this;omega
def ypi{α:Type}{x y:α}:∀{l:List α}{k:Nat},y∈l.set k x->y∈l∨y=x:=λh=>by
 rcases List.mem_or_eq_of_mem_set h with h|h
 ·exact .inl h
 ·exact .inr h
def z03k{p:zz0}{e:yzh}(hp:p.wf)(b:e.wf):(zil p e).2.wf:=by
 rw[yzh.kzn]at b;have a:=hp;rw[zz0.kzn]at a;have n:e.rule_.wf:=b.2.2.2.1;have o:e.value.wf:=b.2.2.2.2;unfold zil;by_cases m:e.kind=1
 ·rw[Qbx m];split
  ·show zz0.wf ⟨_,_⟩;rw[zz0.kzn];refine⟨a.1,λr h =>?_⟩
   rcases Qbb.1 h with h|h
   ·exact a.2 r h
   ·rw[Qbc.1 h];exact n
  ·exact hp
 rw[Qby m];by_cases j:e.kind=2
 ·rw[Qbx j];split
  ·exact hp
  ·show zz0.wf ⟨_,_⟩;rw[zz0.kzn];refine⟨a.1,λr h =>?_⟩
   rcases Qbb.1 h with h|h
   ·exact a.2 r (List.mem_of_mem_take h)
   ·exact a.2 r (List.mem_of_mem_drop h)
 rw[Qby j];by_cases i:e.kind=3
 ·rw[Qbx i];split
  ·exact hp
  ·show zz0.wf ⟨_,_⟩;rw[zz0.kzn];refine⟨a.1,λr h =>?_⟩
   rcases ypi h with h|h
   ·exact a.2 r h
   ·rw[h];exact n
 rw[Qby i];by_cases d:e.kind=4
 ·rw[Qbx d];split
  ·exact hp
  ·split
   ·exact yvb hp
   ·exact hp
 rw[Qby d];split
 ·exact hp
 ·show zz0.wf ⟨_,_⟩;rw[zz0.kzn];refine⟨λr h =>?_,a.2⟩
  rcases ypi h with h|h
  ·exact a.1 r h
  ·rw[h,yz7.kzn];exact⟨trivial,o⟩
def zoj:zv8->zz0->Int×zz0
 |[],p=>if zbw p=0 then (0,p)else (zbw p,⟨[],[]⟩)
 |e::l,p=>if y67 e=true then (if (zil p e).1=0 then zoj l (zil p e).2 else ((zil p e).1,⟨[],[]⟩))else (8,⟨[],[]⟩)
def z043(e:yzh):e.value.size+1<=e.size:=by rw[e.size_eq];omega
def yy9{l:zv8}(hl:∀e∈l,e.wf)(hle:∀e∈l,e.size<=1048575)(u:l.length<=2097152):∀(m k:Nat),k+m=l.length->∀p:zz0,p.wf->p.sz+((l.drop k).map yzh.size).sum<=2097151->Ev (λn=>z7m n (k:Int) l (l.length:Int) ⟨[],[]⟩ p.attrs p.rules) (zoj (l.drop k) p):=by
 intro m
 induction m with
 |zero=>
  intro k o p hp hs;have d:k=l.length:=by omega
  subst d;have c:Ev (λn=>z0t n (zz0.mk p.attrs p.rules)) (zbw p):=zy7 (p:=p) hp (by omega);rw[List.drop_length,zoj,zte,Ev.kz1 (by simp),Ev.kz0 c];by_cases h:zbw p=0
  ·rw[Ev.kz1 (by simpa using h),Qbx h,Ev.yz0]
  ·rw[Ev.zz2 (by simpa using h),Qby h,Ev.yz0]
 |succ m j=>
  intro k o p hp hs;have a:k<l.length:=by omega
  have i:=Qad a;rw[<-Qah (h:=a)]at hs ⊢;simp only[List.map_cons,List.sum_cons]at hs;have s:=z043 l[k];rw[zoj,zte,Ev.zz2 (by simpa using a),Ev.yz2 (zz6 a),yzh.yz3,Ev.kz0 (yrv (by omega))];cases q:y67 l[k]
  ·rw[Ev.zz2 (by rfl),Qby (by simp),Ev.yz0]
  ·rw[Ev.kz1 (by rfl),Qbx rfl,Ev.kz0 (yxj (by omega) (yx5 q))];by_cases b:(zil p l[k]).1=0
   ·have r:=z01p p (e:=l[k]) (hle _ i);rw[Ev.kz1 (by simpa using b),Qbx b,wrk (by omega)];exact j (k+1) (by omega) _ (z03k hp (hl _ i)) (by omega)
   ·rw[Ev.zz2 (by simpa using b),Qby b,Ev.yz0]
def yxy(l:zv8):l.length<=(l.map yzh.size).sum:=zpa (λe=>by rw[e.size_eq];omega) l
def ynf(p:zz0)(l:zv8):Int×zz0:=if zbw p=0 then (if l.length<=40 then zoj l p else (4,⟨[],[]⟩))else (zbw p,⟨[],[]⟩)
section
variable {p:zz0}{l:zv8}(hp:p.wf)(hl:∀ e ∈ l, e.wf)(hle:∀ e ∈ l, e.size ≤ 1048575)(hs:p.sz + (l.map yzh.size).sum ≤ 2097151)
include hp hl hle hs
theorem y2g:Ev (λn=>z89 n p l) (ynf p l):=by
 have b:=yxy l;have c:=zy7 hp (by omega);unfold ynf;rw[yj6,Ev.kz0 c];by_cases h:zbw p=0
 ·rw[Ev.kz1 (by simpa using h),Qbx h];by_cases a:l.length<=40
  ·rw[Ev.kz1 (by simp;omega),Qbx a,Ev.kz0 (yfh (by omega))];exact yy9 hl hle (by omega) l.length 0 (by omega) p hp (by simpa using hs)
  ·rw[Ev.zz2 (by simp;omega),Qby a,Ev.yz0]
 ·rw[Ev.zz2 (by simpa using h),Qby h,Ev.yz0]
end
def y2c{p:zz0}(hs:p.sz<=4000000):Ev (λn=>z8b n p p) true:=by
 have o:=@ztk p;have m:=@zmt p
 have i:∀k,k<=p.rules.length->Ev (λn=>z7y n (k:Int) p p) true :=
  down (by rw[zsi,Ev.kz1 (by simp),Ev.yz0]) λk d h=>by
   have:=zsu (Qad d);have e:=ypo (a:=p.rules[k]) (b:=p.rules[k]) (by omega);rw[zax]at e;rw[zsi,Ev.zz2 (by simpa using d),Ev.yz2 (zz6 d),Ev.yz2 (zz6 d),Ev.kz0 e,Ev.kz1 (by rfl),wrk (by omega)];exact h
 have j:∀k,k<=p.attrs.length->Ev (λn=>z7w n (k:Int) p p) true :=
  down (by rw[zt2,Ev.kz1 (by simp)];exact i 0 (Qbv _)) λk d h=>by
   have:=ydj (Qad d);have:=@yfm p.attrs[k];have e:=y3a p.attrs[k].value p.attrs[k].value (by omega);rw[zax]at e;rw[zt2,Ev.zz2 (by simpa using d),Ev.yz2 (zz6 d),Ev.yz2 (zz6 d),Ev.kz1 (by simp),Ev.yz2 (zz6 d),Ev.yz2 (zz6 d),yz1.yz3,Ev.kz0 e,y60,Ev.kz1 (by rfl),wrk (by omega)];exact h
 rw[yie,Ev.kz1 (by simp)];have e:(((p.rules.length:Int)) != (p.rules.length:Int))=false:=by simp
 rw[e,y6l,Ev.kz1 rfl];exact j 0 (Qbv _)
def z05w{l:List B8}{s:B8}(a:l.length<=8388608):Ev (λn=>z67 n l s) (decide (s∈l)):=by
 rw[y0m,Ev.kz0 (zys a),Ev.yz0];have:=@zfb l s;by_cases h:s∈l
 ·rw[Qbt h];exact Qbt (by have:=mt this.1 (by simpa using h);omega)
 ·rw[Qbs h];exact Qbs (by have:=this.2 h;omega)
def z019{p:zz0}(d:p.wf)(hs:p.sz<=4000000):∃b,Ev (λn=>z3a n p) b∧(b=true->zbw p=0):=by
 have⟨g,a⟩:=great (p:=p) (by omega);cases g
 ·refine⟨zbw p==0,?_,λh=>by simpa using h⟩;rw[zkq,Ev.kz0 a,Ev.zz2 (by rfl),Ev.kz0 (yp8 d (by omega)),Ev.yz0]
 ·exact⟨false,by rw[zkq,Ev.kz0 a,Ev.kz1 (by rfl),Ev.yz0],λh=>by cases h⟩
structure Sound(p:zz0):Prop where
 few:zts p=false
 formed:zdq p=true
 single:yme p=false
 known:zvr p=true
 right:zv1 p=false
def yjq{p:zz0}:zbw p=0↔Sound p:=by
 unfold zbw;constructor
 ·intro h;by_cases i:zts p=true
  ·rw[Qbx i]at h;cases h
  rw[Qby i]at h;by_cases d:zdq p=true
  ·rw[Qbx d]at h;by_cases b:yme p=true
   ·rw[Qbx b]at h;cases h
   rw[Qby b]at h;by_cases a:zvr p=true
   ·rw[Qbx a]at h;by_cases j:zv1 p=true
    ·rw[Qbx j]at h;cases h
    ·exact⟨by simpa using i,d,by simpa using b,a,by simpa using j⟩
   ·rw[Qby a]at h;cases h
  ·rw[Qby d]at h;cases h
 ·rintro ⟨i,d,b,a,j⟩
  rw[i,d,b,a,j];rfl
section
variable {p:zz0}(S:Sound p)
include S
theorem Sound.rule{r:zz3}(h:r∈p.rules):zue r=true:=by
 have:=S.formed;unfold zdq at this;exact Qat.1 (Bool.and_eq_true_iff.1 this).2 r h
theorem Sound.name{s:B8}(h:s∈yz6 p):zaz s=true:=by
 obtain⟨r,a,rfl⟩:=Qbg.1 h;have:=S.rule a;unfold zue at this;exact(Bool.and_eq_true_iff.1 this).1
theorem Sound.call{r:zz3}(h:r∈p.rules){c:B8×Int}(d:c∈zzj r):c.1∈yz6 p∧c.2=yer p c.1:=by
 have a:=S.known;unfold zvr at a;have a:=Qat.1 (Bool.and_eq_true_iff.1 a).2 r h;unfold kR at a;have a:=Qac (Qat.1 (Bool.and_eq_true_iff.1 a).2 c d);refine⟨a,Classical.byContradiction λq =>?_⟩;have b:=S.right;unfold zv1 at b;have b:=List.any_eq_false.1 b r h;unfold zkc at b;exact b (List.any_eq_true.2 ⟨c,d,by simp[a];exact q⟩)
theorem Sound.nodup:(yz6 p).Nodup:=by
 have h:=S.single;unfold yme at h;simp only[Bool.or_eq_false_iff]at h;exact yvh.1 h.2.1
end
def ysg{s:B8}(h:zjk s=true):s.length<=40:=by
 unfold zjk at h;split at h
 ·simp
 ·simp only[Qag,Qar]at h;simp only[List.length_cons]at h ⊢;omega
def ywa{s:B8}(h:zaz s=true):s.length<=40:=ysg (Bool.and_eq_true_iff.1 h).1
def yrw{s:B8}(h:zaz s=true):s≠[]:=λe=>by rw[e,y66]at h;cases h
section
variable {f t:B8}
def z026{a b:B8}(i:a≠t)(d:b≠t)(h:rn f t a=rn f t b):a=b:=by
 unfold rn at h;split at h <;> split at h
 ·rename_i m j;rw[m,j]
 ·exact absurd h.symm d
 ·exact absurd h i
 ·exact h
def ylf{s:B8}(h:s≠t):rn t f (rn f t s)=s:=by
 unfold rn;by_cases e:s=f
 ·rw[Qbx e,Qbx rfl,e]
 ·rw[Qby e,Qby h]
def cr(f t:B8)(c:B8×Int):B8×Int:=(rn f t c.1,c.2)
def yt5(x:zz7):znn (zvb f t x)=(znn x).map (cr f t):=rfl
def yfr{α β:Type}{g:α->α}{h:β->β}{F:α->List β}(e:∀a,F (g a)=(F a).map h)(l:List α):(l.map g).flatMap F=(l.flatMap F).map h:=by
 induction l with
 |nil=>rfl
 |cons x l b=>simp[List.flatMap_cons,b,e]
def y6o{α β:Type}{g:α->α}{F:α->List β}(e:∀a,F (g a)=F a)(l:List α):(l.map g).flatMap F=l.flatMap F:=by
 induction l with
 |nil=>rfl
 |cons x l b=>simp[List.flatMap_cons,b,e]
def ysm(i:f≠[])(d:t≠[])(a:kz2):zc9 (zmu f t a)=(zc9 a).map (cr f t):=by
 have e:(rn f t a.name=[])↔a.name=[]:=by
  unfold rn;split
  ·rename_i h;rw[h];exact⟨λq=>absurd q d,λq=>absurd q i⟩
  ·exact Iff.rfl
 have b:=yfr (g:=zvb f t) (h:=cr f t) (F:=znn) yt5 a.items;unfold zc9;by_cases h:a.name=[]
 ·rw[Qbx (show(zmu f t a).name=[]from e.2 h),Qbx h];exact b
 ·rw[Qby (show ¬(zmu f t a).name=[]from mt e.1 h),Qby h,List.map_append];exact congrArg ([(rn f t a.name,(a.args.length:Int)-own a.kind)] ++ ·) b
def yfy(b:f≠[])(a:t≠[])(r:zz3):zzj (zj2 f t r)=(zzj r).map (cr f t) :=
 yfr (g:=zri f t) (h:=cr f t) (F:=y3p) (λc=>yfr (g:=zmu f t) (h:=cr f t) (F:=zc9) (ysm b a) c.do_) r.cases
def yv0(a:kz2):zh4 (zmu f t a)=zh4 a:=by
 unfold zh4;simp only[zmu];rw[y6o (g:=zvb f t) λ_=>rfl]
def yv8(c:zz4):zd6 (zri f t c)=zd6 c:=by
 unfold zd6;simp only[zri];rw[y6o (g:=zmu f t) yv0]
def yuf(r:zz3):zr8 (zj2 f t r)=zr8 r:=y6o (F:=zd6) yv8 r.cases
def yb7{α:Type}{g:α->α}{F:α->Bool}(e:∀a,F (g a)=F a)(l:List α):(l.map g).any F=l.any F:=by
 induction l with
 |nil=>rfl
 |cons x l b=>simp only[List.map_cons,List.any_cons,b,e]
def z00z(p:zz0):zts (zi5 f t p)=zts p:=by
 have d:∀c,zrd (zri f t c)=zrd c:=λc=>by
  unfold zrd;simp only[zri,Qbd];rw[yb7 (g:=zmu f t) λa=>by simp[zmu]];try rfl
 have b:∀r,zsa (zj2 f t r)=zsa r:=λr=>by
  unfold zsa;simp only[zj2,Qbd];rw[yb7 (g:=zri f t) d];try rfl
 unfold zts;simp only[zi5,Qbd];rw[yb7 (g:=zj2 f t) b];try rfl
def y3j(p:zz0):yz6 (zi5 f t p)=(yz6 p).map (rn f t):=by
 simp only[yz6,zi5,List.map_map];rfl
def yuj{p:zz0}{s:B8}(h:s∈yz6 p):rn f t s∈yz6 (zi5 f t p):=by
 rw[y3j];exact Qbg.2 ⟨s,h,rfl⟩
def z01g{p:zz0}(w:(yz6 p).Nodup)(o:t∉yz6 p){s:B8}(h:s∈yz6 p):yer (zi5 f t p) (rn f t s)=yer p s:=by
 have⟨i,m,_,z,y⟩:=yb3 h;have⟨j,x,_,b,n⟩:=yb3 (yuj (f:=f) (t:=t) h);have a:j<p.rules.length:=by simpa[zi5]using x
 have e:(zi5 f t p).rules[j]=zj2 f t p.rules[j]:=by simp[zi5]
 have d:∀r∈p.rules,r.name≠t:=λr u q=>o (q▸Qbg.2 ⟨r,u,rfl⟩)
 have B:p.rules[j].name=p.rules[i].name:=by
  rw[e]at b;refine z026 (f:=f) (d _ (Qad _)) (d _ (Qad _)) ?_;rw[z];exact b
 have A:i=j:=by
  have hl:i<(yz6 p).length:=by simpa[yz6]using m
  refine(List.getElem?_inj hl w).1 ?_;simp only[yz6,Qan,Qab m,Qab a,Qbr,B]
 rw[n,y,e];subst A;rfl
def yxv{p:zz0}(S:Sound p)(z:f∈yz6 p)(u:t∉yz6 p):(zbw (zi5 f t p)=0∧t≠[])∨zbw (zi5 f t p)=8:=by
 have y:zts (zi5 f t p)=false:=by rw[z00z];exact S.few
 cases s:zdq (zi5 f t p)with
 |false=>right;unfold zbw;rw[y,s];rfl
 |true=>
  have o:=yrw (S.name z)
  have i:t≠[]:=by
   have⟨r,n,C⟩:=Qbg.1 z;have d:=s;unfold zdq at d;have d:=Qat.1 (Bool.and_eq_true_iff.1 d).2 (zj2 f t r) (Qbg.2 ⟨r,n,rfl⟩);unfold zue at d;have d:=(Bool.and_eq_true_iff.1 d).1;have e:(zj2 f t r).name=t:=by simp only[zj2,rn,C,if_true]
   rw[e]at d;exact yrw d
  refine .inl ⟨yjq.2 ⟨y,s,?_,?_,?_⟩,i⟩
  ·have h:=S.single;have B:=S.nodup;unfold yme at h ⊢;simp only[Bool.or_eq_false_iff]at h ⊢;refine⟨h.1,yvh.2 ?_,?_⟩
   ·rw[y3j];refine List.pairwise_map.2 (B.imp_of_mem λ{a b} E D x q=>x (z026 (λe=>u (by rw[<-e];exact E)) (λe=>u (by rw[<-e];exact D)) q))
   ·rw[<-h.2.2];exact yb7 (g:=zj2 f t) (F:=λr:zz3=>dup (r.params++kzj p)) (λr=>rfl) p.rules
  ·have h:=S.known;unfold zvr at h ⊢;refine Bool.and_eq_true_iff.2 ⟨(Bool.and_eq_true_iff.1 h).1,Qat.2 λA j =>?_⟩;obtain⟨r,n,rfl⟩:=Qbg.1 j;have h:=Qat.1 (Bool.and_eq_true_iff.1 h).2 r n;unfold kR at h ⊢;rw[yuf,yfy o i];refine Bool.and_eq_true_iff.2 ⟨(Bool.and_eq_true_iff.1 h).1,Qat.2 λI m =>?_⟩;obtain⟨c,w,rfl⟩:=Qbg.1 m
   exact Qbt (yuj (S.call n w).1)
  ·unfold zv1;refine List.any_eq_false.2 λA j =>?_
   obtain⟨r,n,rfl⟩:=Qbg.1 j;unfold zkc;rw[yfy o i];intro q;have⟨I,m,q⟩:=List.any_eq_true.1 q;obtain⟨c,w,rfl⟩:=Qbg.1 m;have⟨d,G⟩:=S.call n w;have q:=(Bool.and_eq_true_iff.1 q).2
   have e:(cr f t c).2=yer (zi5 f t p) (cr f t c).1:=by
    show c.2=yer (zi5 f t p) (rn f t c.1);rw[z01g S.nodup u d];exact G
   simp[e]at q
def y4o{α:Type}{g h:α->α}(l:List α)(e:∀x∈l,h (g x)=x):(l.map g).map h=l:=by
 induction l with
 |nil=>rfl
 |cons x l a=>simp only[List.map_cons];rw[e x Qak,a λy b=>e y (Qai _ b)]
def yyb{p:zz0}(S:Sound p)(o:t∉yz6 p)(m:t≠[]):zi5 t f (zi5 f t p)=p:=by
 have d:∀r∈p.rules,zj2 t f (zj2 f t r)=r:=λr d=>by
  have s:r.name≠t:=λq=>o (q▸Qbg.2 ⟨r,d,rfl⟩)
  have i:∀c∈r.cases,zri t f (zri f t c)=c:=λc i=>by
   have j:∀a∈c.do_,zmu t f (zmu f t a)=a:=λa j=>by
    have b:∀x∈zc9 a,x.1≠t:=λx h q=>o (q▸(S.call d (List.mem_flatMap.2 ⟨c,i,List.mem_flatMap.2 ⟨a,j,h⟩⟩)).1)
    have w:a.name≠t:=λq=>by
     have n:a.name≠[]:=q▸m;refine b (a.name,(a.args.length:Int)-own a.kind) ?_ q;unfold zc9;rw[Qby n];exact Qak
    have y:∀x∈a.items,zvb t f (zvb f t x)=x:=λx h=>by
     have u:x.name≠t:=λq=>by
      refine b (x.name,(x.args.length:Int)-1) ?_ q;unfold zc9;exact Qbb.2 (.inr (List.mem_flatMap.2 ⟨x,h,Qbc.2 rfl⟩))
     cases x;simp only[zvb]at u ⊢;rw[ylf u]
    have e:=y4o a.items y;cases a;simp only[zmu]at w e ⊢;rw[ylf w,e]
   have e:=y4o c.do_ j;cases c;simp only[zri]at e ⊢;rw[e]
  have e:=y4o r.cases i;cases r;simp only[zj2]at s e ⊢;rw[ylf s,e]
 have e:=y4o p.rules d;cases p;simp only[zi5]at e ⊢;rw[e]
end
end
end Go.Proofs.YthlmhmebajjkbaaGreatDoor
