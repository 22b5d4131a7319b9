/-
  THE PROGRAM READS BACK WHAT IT WRITES.
-/
import Derived.Test.YthphaiccgnkobaaGreatDoorRun4
import Derived.Lib.AtoiTie
import Derived.Test.YthphaiccgnkobaaGreatDoorRun2
set_option linter.defProp false
set_option linter.unusedSimpArgs false
set_option linter.unusedVariables false
namespace Go.Proofs.YthphaiccgnkobaaGreatDoor
open Go Go.Ab
def z09i{p}{w t:B8}(d:w.all p=true)(a:∀c,t.head?=some c->p c=false):(w++t).takeWhile p=w:=by
 induction w with
 |nil=>
  cases t with
  |nil=>rfl
  |cons c t=>rw[Qbz,List.takeWhile_cons,Qbr (by rw[a c rfl];decide)]
 |cons c w b=>
  simp_all
def yhc(t):∀s,scan (esc s++34::t)=some (s,(esc s).length+1)
 |[]=>by rw[esc,Qbz,yg0];rfl
 |c::s=>by
  rw[esc];by_cases h:c=34∨c=92;rw[Qbq h,Qby,Qby,yg4,Qbq h,yhc t s];rfl;rw[Qbr h,Qby,yrz _ (λe=>h (.inl e)) (λe=>h (.inr e)),yhc t s];rfl
def stop(t:B8):Prop:=∀c,t.head?=some c->c=32∨c=44∨c=41∨c=93
def z076:stop []:=λc h=>by cases h
def y3a{c t}(h:c=32∨c=44∨c=41∨c=93):stop (c::t):=λx a=>by
 grind
def z0ab{t}(h:stop t):∀c,t.head?=some c->isNum c=false:=λc a=>by
 rcases h c a with rfl|rfl|rfl|rfl <;> decide
def yjm{t}(h:stop t):∀c,t.head?=some c->zav c=false:=λc a=>by
 rcases h c a with rfl|rfl|rfl|rfl <;> decide
def z0di{t}(h:stop t):([40]:B8).isPrefixOf t=false:=by
 rw[y7x]
 cases a:t.head? with
 |none=>rfl
 |some c=>rcases h c a with rfl|rfl|rfl|rfl <;> decide
theorem y73{r}(h:rok r=true):(z92 r).all isNum=true:=by
 grind[ybk,zgz,y5q,zlx,zxf]
def y7a{r}(h:rok r=true):∃c t,z92 r=c::t∧isNum c=true:=by
 have b:=y73 h
 cases a:z92 r with
 |nil=>
  have⟨c,t,e,_⟩:=yjf r
  grind[zxf]
 |cons c t=>
  grind
def z0cu{r}(h:rok r=true){t}(g:stop t):lit (z92 r++t)=some (yrb r,t):=by
 have⟨c,w,e,b⟩:=y7a h
 have a:(z92 r++t).head?≠some 34:=by
  rw[e,Qby,List.head?_cons];intro q;rw[Option.some.inj q]at b
  revert b;decide
 have d:=z09i (y73 h) (z0ab g);unfold lit;rw[Qbr a,d,yje h,Qbq rfl,List.drop_left]
def z0dp{s t}(h:zbt (y86 s)=0):lit (34::(esc s++34::t))=some (y86 s,t):=by
 simp_all[lit,yhc]
def z0dj{v}(h:zeg v=true)(a:v.kind=1):yrb v.num=v:=by
 rw[ze8,Qbq a]at h;simp[List.isEmpty_iff]at h;have⟨_,e,d,b⟩:=h;have⟨k,q,t,s,l⟩:=v;subst a e d b;rfl
def z05b{v}(h:zeg v=true)(d:v.kind=2):z09b v.truth=v:=by
 rw[ze8,Qbr (by omega),Qbq d]at h;simp[nul,List.isEmpty_iff]at h;have⟨⟨j,i⟩,g,e⟩:=h;have⟨k,q,t,s,l⟩:=v;have⟨a,b⟩:=q;subst d j i g e;rfl
def z0ck{v}(h:zeg v=true)(d:v.kind=3):y86 v.str=v:=by
 rw[ze8,Qbr (by omega),Qbr (by omega),Qbq d]at h;simp[nul,List.isEmpty_iff]at h;have⟨⟨j,i⟩,g,e,_⟩:=h;have⟨k,q,t,s,l⟩:=v;have⟨a,b⟩:=q;subst d j i g e;rfl
def z0ev{w t}(h:zbq w=true)(a:∀c,t.head?=some c->zav c=false):nm (w++t)=w:=by
 cases w with
 |nil=>simp[zbq]at h
 |cons c w=>
  simp only[zbq,Qag]at h;rw[Qby,yfx,Qbq h.1.1,z09i h.1.2 a]
theorem z0ds{c t}(h:isLet c=false):nm (c::t)=[]:=by
 simp_all[yfx]
def yoj{w}(h:zbq w=true):∃c t,w=c::t∧isLet c=true:=by
 cases w with
 |nil=>simp[zbq]at h
 |cons c w=>
  simp[zbq,Qag]at h
  grind
def z0bv{c}(h:isNum c=true):isLet c=false∧c≠40∧c≠91:=by
 rw[ybk]at h;refine⟨?_,?_,?_⟩
 grind[y3k]
 intro e;rw[e]at h;revert h;decide;intro e;rw[e]at h;revert h;decide
def y2p{w t d}(i:zbq w=true)(j:∀c,t.head?=some c->zav c=false)(l:(w++t).length<=4000){r}(b)(u:b=((w==[116,114,117,101])||(w==[102,97,108,115,101])))(h:Ev (λn=>z1d n w (w.length:Int) ((d+1:Nat):Int) b ⟨w++t⟩ E0) r):Ev (λn=>zz8 n ((d+1:Nat):Int) ⟨w++t⟩ E0) r:=by
 have⟨c,m,e,s⟩:=yoj i
 have a:∀k:UInt8,isLet k=false->(w++t).head?≠some k:=λk o q=>by
  grind
 have g:=z0ev i j;refine yog l (a 40 (by decide)) (a 91 (by decide)) ?_;rw[g,zay,Ev.kz0 (by rfl),Ev.yz1 (zld (by simp)),List.take_left,Ev.kz0 (by grind)];simp[zz2.kz3];cases p:w==[116,114,117,101];rw[Ev.kz0 (by rfl)]
 grind
 simp_all[Ev.zz1]
def y3l{w t:B8}:sub (w++t) (w.length:Int) ((w++t).length:Int)=some t:=by
 rw[zo8 (by simp) (Qbp _),List.take_length,List.drop_left]
def z02r(w X:B8):w.isPrefixOf (w++X)=true:=List.isPrefixOf_iff_prefix.2 (List.prefix_append _ _)
def z03r{w X}:Ev (λn=>zze n w ⟨w++X⟩) (true,⟨X⟩):=(z03m (z02r w X)).to (by rw[List.drop_left])
def y8s{c X}:Ev (λn=>zze n [c] ⟨c::X⟩) (true,⟨X⟩):=z03r (w:=[c])
def z03o{w X}:Ev (λn=>yzx n w ⟨w++X⟩) (.ok ⟨X⟩):=(z0c8 (z02r w X)).to (by rw[List.drop_left])
def z03e{c X}:Ev (λn=>yzx n [c] ⟨c::X⟩) (.ok ⟨X⟩):=z03o (w:=[c])
def z0c2{o op:Nat}(b:3<=o)(h:o<op)(a:op<=10){Y}:(zfw (o:Int)++[32]).isPrefixOf (zfw (op:Int)++32::Y)=false:=by
 rcases(show o=3∨o=4∨o=5∨o=6∨o=7∨o=8∨o=9 by omega)with rfl|rfl|rfl|rfl|rfl|rfl|rfl <;>
  rcases(show op=4∨op=5∨op=6∨op=7∨op=8∨op=9∨op=10 by omega)with rfl|rfl|rfl|rfl|rfl|rfl|rfl <;> first|(omega)|rfl
def pick{d}{op:Nat}(g:op<=10){Y e A r}(h:Ev (λn=>z05 n (op:Int) ((d+1:Nat):Int) ⟨zfw (op:Int)++32::Y⟩ e A) r):∀o,o<=op->3<=o->Ev (λn=>z05 n (o:Int) ((d+1:Nat):Int) ⟨zfw (op:Int)++32::Y⟩ e A) r :=
 down (λ_=>h) λo a j i=>by
  have b:=z0c2 (Y:=Y) i a g;have k:=y2x (o:Int);rw[zkg,Ev.zz1 (by simp;omega),Ev.zz0 y36,Ev.yz1 (y2m (by simp;omega)),Ev.zz0 (zw5 b),Ev.kz0 (by rfl),u8k (by omega)]
  grind[zz2.kz3]
def z06l:∀i k:Fin 7,i<k->zif[i.val]'i.isLt≠zif[k.val]'k.isLt:=by decide
def ypv{k}(hk:k<7):Ev (λn=>yz5 n zif (zez ((11+k:Nat):Int))) (k:Int):=by
 rw[z051 k hk,z9q]
 have loop:∀i,i<=k->Ev (λn=>zz7 n (i:Int) zif (zif[k]'hk) 7) (k:Int) :=
  down (by rw[zch,Ev.zz1 (by simp;omega),Ev.yz1 (zz5 (l:=zif) hk),Ev.zz1 (by simp),Ev.yz0]) λi hi ih=>by
   have hi7:=by show i<7;omega
   have hne:=z06l ⟨i,by omega⟩ ⟨k,hk⟩ hi;rw[zch,Ev.zz1 (by simp;omega),Ev.yz1 (zz5 (l:=zif) hi7),Ev.kz0 (by grind),wrk (by omega)];exact ih
 exact loop 0 (Qbo _)
def yot{k}(a:k<7):zbq (zez ((11+k:Nat):Int))=true∧zez ((11+k:Nat):Int)≠[116,114,117,101]∧zez ((11+k:Nat):Int)≠[102,97,108,115,101]:=by
 rcases(show k=0∨k=1∨k=2∨k=3∨k=4∨k=5∨k=6 by omega)with rfl|rfl|rfl|rfl|rfl|rfl|rfl <;> decide
def z05p{l x}(h:x∈l):1+zgh x<=zk0 l:=by
 induction l with
 |nil=>cases h
 |cons y l a=>
  rw[zk0]
  rcases Qbf.1 h with rfl|h
  omega
  grind
def yyh{l x}(h:x∈l):z5r x<=zzo l:=by
 induction l with
 |nil=>cases h
 |cons y l a=>
  rw[zzo]
  rcases Qbf.1 h with rfl|h
  omega
  grind
theorem ysf(l):l.length<=zzo l:=by
 induction l with
 |nil=>simp
 |cons y l a=>grind[zzo,z8g]
def z028{v}(h:zbt v=0):∃c w,zj2 v=c::w∧c≠41∧c≠93:=by
 have⟨d,_,_⟩:=zj0 h;unfold zj2;split;rename_i b;have⟨c,w,e,a⟩:=y7a (zvc d b);refine⟨c,w,e,?_,?_⟩ <;> (intro q;rw[q]at a;revert a;decide)
 split;split
 grind
 grind
 grind
def yyw{e}(p:zcy e=true):∃c w,z3d e=c::w∧c≠41∧c≠93:=by
 have d:=zmh p;have n:=zlf p;rw[zmn];by_cases h:e.op=1;rw[h]at d;rw[Qbq h];exact z028 (own1 d).1;rw[Qbr h]
 have b:∀{w:B8},zbq w=true->∀t,∃c i,w++t=c::i∧c≠41∧c≠93:=λ{w} b t=>by
  have⟨c,i,e,s⟩:=yoj b;refine⟨c,i++t,by rw[e];rfl,?_,?_⟩ <;> (intro q;rw[q]at s;revert s;decide)
 by_cases g:e.op=2;rw[g]at d;have a:=(own2 d).1;unfold zin at a;rw[Qag]at a;rw[Qbq g];have:=b a.1 []
 grind
 rw[Qbr g];by_cases j:3<=e.op∧e.op<=10;have a:=y6x j;have l:zf3 e.op=[40]:=by unfold zf3;rw[Qbq a]
 grind
 have a:=y6u j;by_cases o:e.op=18;have l:zf3 e.op=[91]:=by simp_all[zf3]
 grind
 have x:=zwa n h g j o;obtain⟨k,u,m⟩:∃k:Nat,e.op=((11+k:Nat):Int)∧k<7:=⟨(e.op-11).toNat,by omega,by omega⟩;have l:zf3 e.op=zez e.op++[40]:=by simp_all[zf3]
 rw[l,Qay,u];exact b (yot m).1 _
def RB(d:Nat)(y:zz2):Prop:=∀u,stop u->(z3d y++u).length<=4000->Ev (λn=>zzx n (d:Int) ⟨z3d y++u⟩) (.ok (⟨u⟩,y))
def yuv{d c}(p:c=41∨c=93){t}:∀(l) (x) (a),(∀y,y∈x::l->RB d y)->(z3d x++(z3p [44,32] true l++c::t)).length<=4000->a.length+l.length<=100000 ->
  Ev (λn=>z0i n [c] (d:Int) ⟨z3d x++(z3p [44,32] true l++c::t)⟩ a) (.ok (a++x::l,⟨t⟩)):=by
 intro l
 induction l with
 |nil=>
  intro x a g b j
  have i:stop (z3p [44,32] true []++c::t):=by
   rw[z3p,Qbz];exact y3a (by grind)
  have h:=g x Qak _ i b;rw[zi5];refine(Ev.zz0 h).2 ?_;refine Ev.zt2.2 ?_
  rw[z3p,Qbz,zz2.kz3,Ev.yz1 (z083 (by simp;omega)),Ev.zz0 y8s,Ev.zz1 (by rfl),Ev.yz0]
 |cons y l k=>
  intro x a g b j
  have e:z3p [44,32] true (y::l)++c::t=[44,32]++(z3d y++(z3p [44,32] true l++c::t)):=by
   rw[z3p];simp
  rw[e]at b ⊢;rw[Qap,Qap]at b;rw[List.length_cons]at j;have i:stop ([44,32]++(z3d y++(z3p [44,32] true l++c::t))):=y3a (by simp);have h:=g x Qak _ i (by grind)
  have o:([c]:B8).isPrefixOf ([44,32]++(z3d y++(z3p [44,32] true l++c::t)))=false:=by
   grind
  rw[zi5];refine(Ev.zz0 h).2 ?_;refine Ev.zt2.2 ?_;rw[zz2.kz3,Ev.yz1 (z083 (by simp;omega)),Ev.zz0 (zw5 o),Ev.kz0 (by rfl),Ev.zz0 z03o];refine(k y (a++[x]) (λz m=>g z (Qai _ m)) (by omega) (by simp;omega)).to ?_
  grind
def ydk{d c}(g:c=41∨c=93){t l}(k:∀y,y∈l->RB d y)(j:∀y,y∈l->zcy y=true)(b:(z3p [44,32] false l++c::t).length<=4000)(i:l.length<=5000) :
  Ev (λn=>z2e n (d:Int) [c] ⟨z3p [44,32] false l++c::t⟩) (.ok (l,⟨t⟩)):=by
 cases l with
 |nil=>rw[z3p,Qbz,zl9,Ev.zz0 y8s,Ev.zz1 (by rfl),Ev.yz0]
 |cons x l=>
  have e:z3p [44,32] false (x::l)++c::t=z3d x++(z3p [44,32] true l++c::t):=by
   rw[z3p];simp
  rw[e]at b ⊢
  have h:([c]:B8).isPrefixOf (z3d x++(z3p [44,32] true l++c::t))=false:=by
   have⟨a,w,p,o,m⟩:=yyw (j x Qak);rw[y7x,p,Qby,List.head?_cons,beq_eq_false_iff_ne];intro q;have:=Option.some.inj q
   rcases g with rfl|rfl
   exact o this;exact m this
  rw[List.length_cons]at i;rw[zl9,Ev.zz0 (zw5 h),Ev.kz0 (by rfl)];exact yuv g l x [] k b (by simp;omega)
def z09l{e}(d:e.op=1)(b:e.name=[])(a:e.args=[]):z02w e.value=e:=by
 have⟨op,v,g,l⟩:=e;subst d b a;rfl
def z0d1{e}(d:e.op=2)(b:e.value=v0)(a:e.args=[]):evar e.name=e:=by
 have⟨op,v,g,l⟩:=e;subst d b a;rfl
def ywk{e}(b:e.name=[])(a:e.value=v0):z0ei e.op e.args=e:=by
 have⟨op,v,d,l⟩:=e;subst b a;rfl
def z03p{op}{l:kz9}(h:op=1∨op=2)(b:zq0 op l.length=true):l=[]:=by
 rcases ydm b with ⟨_,a⟩|⟨a,_⟩|⟨a,_⟩|⟨a,_⟩|a
 grind
 rcases h with rfl|rfl <;> exact absurd a (by decide)
 rcases h with rfl|rfl <;> exact absurd a (by decide)
 omega;omega
def z01x{e}(y:zcy e=true)(j:e.op=1){d t}(k:stop t)(g:(z3d e++t).length<=4000):Ev (λn=>zz8 n ((d+1:Nat):Int) ⟨z3d e++t⟩ E0) (.ok (⟨t⟩,e)):=by
 have x:=zmh y;have p:=zlf y;have o:=z03p (.inl j) p;rw[j]at x;have⟨q,B,A⟩:=own1 x;have D:=z09l j A o;have⟨a,_,_⟩:=zj0 q;have m:z3d e=zj2 e.value:=by rw[zmn,Qbq j]
 rw[m]at g ⊢
 suffices h:Ev (λn=>zz8 n ((d+1:Nat):Int) ⟨zj2 e.value++t⟩ E0) (.ok (⟨t⟩,z02w e.value))from h.to (by rw[D])
 rcases zov a with hk|hk|hk|hk
 have u:=zvc a hk;have i:zj2 e.value=z92 e.value.num:=by unfold zj2;rw[Qbq hk]
 have⟨c,w,C,E⟩:=y7a u;have⟨J,I,G⟩:=z0bv E;rw[i]at g ⊢;have F:(z92 e.value.num++t).head?=some c:=by rw[C];rfl
 have:=yu4 (d:=d) g (by grind) (by grind) (by grind[z0ds]);rw[z0cu u k]at this;refine this.to ?_;show(Res.ok ((⟨t⟩:kz2),z02w (yrb e.value.num)):Res (Int×Unit) (kz2×zz2))=_;rw[z0dj a hk]
 have i:zj2 e.value=if e.value.truth then [116,114,117,101]else [102,97,108,115,101]:=by simp_all[zj2]
 have l:=z05b a hk;rw[i]at g ⊢;generalize e.value.truth=b at *;rw[<-l];cases b;rw[Qbr (by decide)]at g ⊢;refine y2p (by decide) (yjm k) g true (by decide) ?_;rw[zb0,Ev.zz1 (by rfl),Ev.yz1 y3l,Ev.zz0 yjl,Ev.yz0,kz1.kz3];rfl;rw[Qbq rfl]at g ⊢;refine y2p (by decide) (yjm k) g true (by decide) ?_;rw[zb0,Ev.zz1 (by rfl),Ev.yz1 y3l,Ev.zz0 yjl,Ev.yz0,kz1.kz3];rfl
 have i:zj2 e.value++t=34::(esc e.value.str++34::t):=by
  simp_all[zj2]
 have s:=z0ck a hk;rw[i]at g ⊢;have:=yu4 (d:=d) g (by simp) (by simp) (z0ds (by decide));rw[z0dp (by rw[s];exact q)]at this;refine this.to ?_;show(Res.ok ((⟨t⟩:kz2),z02w (y86 e.value.str)):Res (Int×Unit) (kz2×zz2))=_;rw[s];exact(B hk).elim
def z05e{e}(o:zcy e=true)(b:e.op=2){d t}(k:stop t)(m:(z3d e++t).length<=4000):Ev (λn=>zz8 n ((d+1:Nat):Int) ⟨z3d e++t⟩ E0) (.ok (⟨t⟩,e)):=by
 have l:=zmh o;have j:=zlf o;have i:=z03p (.inr b) j;rw[b]at l;have⟨a,p⟩:=own2 l;have q:=z0d1 b p i;have g:z3d e=e.name:=by simp_all[zmn]
 rw[g]at m ⊢
 suffices h:Ev (λn=>zz8 n ((d+1:Nat):Int) ⟨e.name++t⟩ E0) (.ok (⟨t⟩,evar e.name))from h.to (by rw[q])
 unfold zin at a;simp[Bool.not_eq_true']at a;refine y2p a.1 (yjm k) m false (by grind) ?_;rw[zb0,Ev.kz0 (by rfl),Ev.yz1 y3l,Ev.zz0 (zw5 (z0di k)),Ev.zz1 (by rfl),Ev.yz0];rfl
def yyg{e}(p:zcy e=true)(i:3<=e.op∧e.op<=10){d}(G:d<=11)(q:∀y,y∈e.args->RB d y){t}(B:(z3d e++t).length<=4000):Ev (λn=>zz8 n ((d+1:Nat):Int) ⟨z3d e++t⟩ E0) (.ok (⟨t⟩,e)):=by
 have A:=zmh p;have m:=zlf p;have F:=y6x i;have⟨x,w⟩:=ownO (by omega) (by omega) A;have h:=ywk x w;have o:=z0el m i
 obtain⟨a,b,g⟩:∃a b,e.args=[a,b]:=by
  match e.args,o with
  |[a,b],_=>exact⟨a,b,rfl⟩
 obtain⟨op,l⟩:∃k:Nat,e.op=(k:Int):=⟨e.op.toNat,by omega⟩
 have j:z3d e++t=40::(z3d a++(32::(zfw (op:Int)++32::(z3d b++41::t)))):=by
  rw[zmn,Qbr (by omega),Qbr (by omega),g]
  simp_all[zf3,zxb,zc2,z3p]
 rw[j]at B ⊢;rw[g]at h;rw[l]at h i;have D:=q a (by rw[g];simp);have C:=q b (by rw[g];simp);have sl:=y2x (op:Int);have u:=D (32::(zfw (op:Int)++32::(z3d b++41::t))) (y3a (by simp)) (by grind);have s:=C (41::t) (y3a (by simp)) (by grind);rw[zes,Ev.zz0 y8s,Ev.zz1 (by rfl),dec1 (by omega)];refine(Ev.zz0 u).2 ?_;refine Ev.zt2.2 ?_;rw[Ev.zz0 z03e]
 refine pick (op:=op) (by omega) ?_ 3 (by omega) (Qbp _);have E:zfw (op:Int)++32::(z3d b++41::t)=(zfw (op:Int)++[32])++(z3d b++41::t):=by simp
 rw[E,zkg,Ev.zz1 (by simp;omega),Ev.zz0 y36,Ev.yz1 (y2m (by simp;omega)),Ev.zz0 z03r,Ev.zz1 (by rfl),dec1 (by omega)];refine(Ev.zz0 s).2 ?_;refine Ev.zt2.2 ?_;rw[Ev.zz0 z03e];simp[zz2.kz3];refine Ev.yz0.2 ?_;rw[<-h];rfl
theorem z05a{e}(o:zcy e=true)(Q:z5r e<=5000)(B:e.op≠1)(A:e.op≠2)(x:¬(3<=e.op∧e.op<=10)){d}(T:d<=11)(w:∀y,y∈e.args->RB d y){t}(g:(z3d e++t).length<=4000):Ev (λn=>zz8 n ((d+1:Nat):Int) ⟨z3d e++t⟩ E0) (.ok (⟨t⟩,e)):=by
 have F:=zmh o;have s:=zlf o;have R:=y6u x;have⟨D,C⟩:=ownO B A F;have l:=ywk D C;have i:=zon o;have a:e.args.length<=5000:=by grind[z8g,ysf]
 have L:zxb e.op=[44,32]:=by simp_all[zxb]
 have K:=zmn e;by_cases j:e.op=18;have J:zc2 e.op=[93]:=by simp_all[zc2]
 have I:zf3 e.op=[91]:=by simp_all[zf3]
 have b:z3d e++t=91::(z3p [44,32] false e.args++93::t):=by grind
 rw[b]at g ⊢;rw[List.length_cons]at g;have m:=ydk (c:=93) (.inr rfl) w i (t:=t) (by omega) a;rw[zes,Ev.zz0 (zw5 (by rw[y7x];rfl)),Ev.kz0 (by rfl),zjp,Ev.zz0 y8s,Ev.zz1 (by rfl),dec1 (by omega)];refine(Ev.zz0 m).2 ?_;refine Ev.zt2.2 ?_;refine Ev.yz0.2 ?_;rw[j]at l;show Res.ok (_,z0ei 18 e.args)=_;rw[l];have O:=zwa s B A x j
 obtain⟨k,G,h⟩:∃k:Nat,e.op=((11+k:Nat):Int)∧k<7:=⟨(e.op-11).toNat,by omega,by omega⟩;have J:zc2 e.op=[41]:=by simp_all[zc2]
 have I:zf3 e.op=zez e.op++[40]:=by simp_all[zf3]
 have b:z3d e++t=zez ((11+k:Nat):Int)++(40::(z3p [44,32] false e.args++41::t)):=by grind
 rw[b]at g ⊢;have⟨E,N,M⟩:=yot h;have p:=g;rw[Qap,List.length_cons]at p;have m:=ydk (c:=41) (.inl rfl) w i (t:=t) (by omega) a;have q:=ypv h;refine y2p E (λc u=>by rw[List.head?_cons]at u;rw[<-Option.some.inj u];decide) g false (by grind) ?_;rw[zb0,Ev.kz0 (by rfl),Ev.yz1 y3l,Ev.zz0 y8s,Ev.kz0 (by rfl),Ev.zz0 ywl,Ev.zz0 q,Ev.kz0 (by simp),zxg,dec1 (by omega)]
 refine(Ev.zz0 m).2 ?_;refine Ev.yz0.2 ?_;rw[w8 (k:=(k:Int)) (by omega),w8 (by omega)];rw[G]at l;rw[<-l];rfl
def z04h:∀e:zz2,zcy e=true->z5r e<=5000->∀d:Nat,zgh e<=d->d<=12->RB d e:=zwf λe i b u d w s t h g=>by
 have p:=z8g e;have q:=y7n e;obtain⟨d,rfl⟩:∃k,d=k+1:=⟨d-1,by omega⟩;have j:=λy a=>i y a (zon b y a) (by have:=yyh a;omega) d (by have:=z05p a;omega) (by omega)
 rw[y4n,Ev.kz0 (by grind)];show Ev (λn=>zz8 n ((d+1:Nat):Int) ⟨z3d e++t⟩ E0) _;by_cases o:e.op=1;exact z01x b o h g;by_cases m:e.op=2;exact z05e b m h g;by_cases l:3<=e.op∧e.op<=10;exact yyg b l (by omega) j g
 grind[z05a]
def acts:List B8:=[[99,97,108,108],[109,111,118,101],[115,105,122,101],[116,117,114,110],[115,112,108,105,116],[108,101,97,102]]
def yov:List B8:=[[102,105,120,101,100],[115,104,97,114,101],[114,101,115,116]]
def z04z:zzf 0 [99,97,108,108,32,109,111,118,101,32,115,105,122,101,32,116,117,114,110,32,115,112,108,105,116,32,108,101,97,102]=some acts:=by decide +kernel
def ywf:Ev (λn=>zzf n [99,97,108,108,32,109,111,118,101,32,115,105,122,101,32,116,117,114,110,32,115,112,108,105,116,32,108,101,97,102]) acts:=⟨0,λ_ _=>z04z⟩
def z052:zzf 0 [102,105,120,101,100,32,115,104,97,114,101,32,114,101,115,116]=some yov:=by decide +kernel
def yio:Ev (λn=>zzf n [102,105,120,101,100,32,115,104,97,114,101,32,114,101,115,116]) yov:=⟨0,λ_ _=>z052⟩
def lnT(ws:List B8):B8:=Lib.join ws [32]++[10]
def zo3(k:Int):B8:=acts.getD (k-1).toNat []
def yb1(k:Int):B8:=yov.getD (k-1).toNat []
def zwl(a:Int):B8:=[UInt8.ofNat (120+a.toNat)]
noncomputable def tx(e:zz2):B8:=(yby e).1
noncomputable def bad(e:zz2):Bool:=(yby e).2 != 0
noncomputable def iT(x:yzq):B8:=lnT [yb1 x.kind,x.name,tx (yzv x.args)]
noncomputable def aT(a:zz4):B8 :=
 if a.kind=6 then lnT [zo3 a.kind,tx (a.args.getD 0 (yzv []))]else if a.kind=5 then lnT [zo3 a.kind,zwl a.axis]++a.items.flatMap iT
 else if a.kind=4 then lnT [zo3 a.kind,zwl a.axis,a.name,tx (yzv a.args)]else lnT [zo3 a.kind,a.name,tx (yzv a.args)]
noncomputable def aB(a:zz4):Bool:=if a.kind=6 then bad (a.args.getD 0 (yzv []))else if a.kind=5 then a.items.any (λx=>bad (yzv x.args))else bad (yzv a.args)
noncomputable def cT(c:kz7):B8:=lnT [[99,97,115,101],Lib.itoa c.weight,tx c.when_]++c.do_.flatMap aT
noncomputable def cB(c:kz7):Bool:=bad c.when_||c.do_.any aB
noncomputable def rT(r:yz7):B8:=lnT ([[114,117,108,101],r.name]++r.params)++r.cases.flatMap cT
noncomputable def rB(r:yz7):Bool:=r.cases.any cB
noncomputable def tT(t:yzl):B8:=lnT [[97,116,116,114],t.name,tx t.value]
noncomputable def pT(p:yz2):B8:=p.attrs.flatMap tT++p.rules.flatMap rT
noncomputable def pB(p:yz2):Bool:=p.attrs.any (λt=>bad t.value)||p.rules.any rB
noncomputable def yyf(b:Bool)(s:B8):B8×Int:=if (b||decide (20000<s.length))=true then ([],4)else (s,0)
noncomputable def zxm(p:yz2):B8×Int:=if zht p≠0 then ([],zht p)else yyf (pB p) (pT p)
theorem zii(e):(tx e).length<=4000:=by
 grind[tx,yby]
theorem join_cons(x y)(l):Lib.join (x::y::l) [32]=x++32::Lib.join (y::l) [32]:=by simp_all[Lib.join]
theorem zjo:∀ws:List B8,(Lib.join ws [32]).length<=(ws.map List.length).sum+ws.length
 |[]=>by simp[Lib.join]
 |[x]=>by simp[Lib.join]
 |x::y::l=>by
  have:=zjo (y::l)
  grind[join_cons]
theorem zr8(ws):(lnT ws).length<=(ws.map List.length).sum+ws.length+1:=by
 grind[zjo,lnT]
def z0dc{ws}(b:ws.length<=1048576)(a:(Lib.join ws [32]).length<=16777216):Ev (λn=>zc7 n ws [32]) (Lib.join ws [32]):=⟨0,λ_ _=>by unfold zc7;grind⟩
def zrd{b a}(g:b.length<=1000)(e:(b.map List.length).sum<=1000000)(d:a.length+(lnT b).length<=268435456):Ev (λn=>z03 n b (kzk a)) (kzk (a++lnT b)):=by
 have:=zjo b;rw[yf9,Ev.zz0 (z0dc (by omega) (by omega)),Ev.yz1 (y2m (by simp;omega)),Ev.zz0 (ws (by unfold lnT at d;simpa using d)),Ev.yz0];rfl
def y3d{e}(a:e.wf)(d:e.size<=8388608)(b):Ev (λn=>z1k n e b) (tx e,b||bad e):=by
 rw[yec,zz2.kz3,Ev.zz0 (z04n a d)];cases b;rw[Ev.kz0 rfl,zq3,Ev.yz0];rfl;rw[Ev.zz1 rfl,zq3,Ev.yz0];rfl
def y6t{l}:Ev (λn=>z4h n l) (yzv l):=by rw[y5j,Ev.yz0];rfl
def yvk{α γ:Type}{L:Nat->Int->Bool->B8->Option γ}{xs:List α}{T B w}
  (i:∀k (h:k<xs.length) b a,a.length+(T xs[k]).length<=268435456->Ev (λn=>L n ((k+1:Nat):Int) (b||B xs[k]) (a++T xs[k])) w->Ev (λn=>L n (k:Int) b a) w)
  (b) (a) (d:a.length+(xs.flatMap T).length<=268435456) (j:Ev (λn=>L n (xs.length:Int) (b||xs.any B) (a++xs.flatMap T)) w):Ev (λn=>L n 0 b a) w:=by
 have:∀k,k<=xs.length->∀b a,a.length+((xs.drop k).flatMap T).length<=268435456->Ev (λn=>L n (xs.length:Int) (b||(xs.drop k).any B) (a++(xs.drop k).flatMap T)) w->Ev (λn=>L n (k:Int) b a) w :=
  down (λb a _ h=>by
   simp_all) λk e g b a d h=>by
   rw[<-Qah (h:=e),List.flatMap_cons,Qap]at d;rw[<-Qah (h:=e),List.flatMap_cons,List.any_cons,<-Bool.or_assoc,<-Qay]at h;exact i k e b a (by omega) (g _ _ (by grind) h)
 exact this 0 (Qbo _) b a (by simpa using d) (by simpa using j)
def z0ej{k}(h:1<=k∧k<=6):ix acts (IntKind.u8.wrap (k-1))=some (zo3 k):=by
 rcases(by omega:k=1∨k=2∨k=3∨k=4∨k=5∨k=6)with rfl|rfl|rfl|rfl|rfl|rfl <;> rfl
def z0er{k}(h:1<=k∧k<=3):ix yov (IntKind.u8.wrap (k-1))=some (yb1 k):=by
 rcases(by omega:k=1∨k=2∨k=3)with rfl|rfl|rfl <;> rfl
def z0d4{k}(h:0<=k∧k<=2):sub [120,121,122] k (IntKind.u8.wrap (k+1))=some (zwl k):=by
 rcases(by omega:k=0∨k=1∨k=2)with rfl|rfl|rfl <;> rfl
def yvx(k)(h:1<=k∧k<=6):(zo3 k).length<=5:=by
 rcases(by omega:k=1∨k=2∨k=3∨k=4∨k=5∨k=6)with rfl|rfl|rfl|rfl|rfl|rfl <;> decide
theorem ywj(k)(h:1<=k∧k<=3):(yb1 k).length<=5:=by
 rcases(by omega:k=1∨k=2∨k=3)with rfl|rfl|rfl <;> decide
theorem zlq{s}(h:zas s=true):s.length<=40:=by
 simp_all[zas,ya1,zin,kept]
def y1o{a}(h:z0q a=true)(d:a.wf):(1<=a.kind∧a.kind<=6)∧(0<=a.axis∧a.axis<=2)∧a.name.length<=40∧(∀x∈a.items,znn x=true)∧(a.kind=6->a.args≠[]):=by
 have i:=z03f d;have⟨k,j,p,o,b,n,m,l⟩:=zj9.1 h;refine⟨k,⟨i.2.1,?_⟩,?_,?_,λe g =>?_⟩;split at j <;> omega
 grind[zlq]
 grind
 rw[e,g]at b;simp[own]at b
def ya9{x}(h:znn x=true):(1<=x.kind∧x.kind<=3)∧x.name.length<=40:=by
 simp_all[znn,zlq]
def w3{a b c A B C}(g:a.length<=A)(e:b.length<=B)(d:c.length<=C):(([a,b,c]:List B8).map List.length).sum<=A+(B+C):=by simp;omega
def w2{a b A B}(e:a.length<=A)(d:b.length<=B):(([a,b]:List B8).map List.length).sum<=A+B:=by simp;omega
def w4{a b c d A B C E}(i:a.length<=A)(h:b.length<=B)(g:c.length<=C)(e:d.length<=E):(([a,b,c,d]:List B8).map List.length).sum<=A+(B+(C+E)):=by simp;omega
def y91(a):(zwl a).length<=1:=by simp[zwl]
def y3m{α β:Type}{g:α->List β}{c}:∀{l:List α},(∀x∈l,(g x).length<=c)->(l.flatMap g).length<=l.length * c
 |[],_=>by simp
 |x::l,h=>by
  have d:=h x Qak;have b:=y3m (l:=l) λy a=>h y (Qai _ a)
  rw[List.flatMap_cons,Qap,List.length_cons,Nat.add_mul,Nat.one_mul];omega
def z0fl{x}(h:znn x=true):(iT x).length<=4060:=by
 have⟨b,a⟩:=ya9 h;have:=zr8 [yb1 x.kind,x.name,tx (yzv x.args)]
 grind[ywj,zii,iT]
def ysm{a}(O:z0q a=true)(q:a.wf)(X:a.size<=4000000)(b)(d)(i:d.length+(aT a).length<=268435456):Ev (λn=>z5e n a b (kzk d)) (b||aB a,kzk (d++aT a)):=by
 have⟨D,N,C,hi,Q⟩:=y1o O q;have R:=@ycx a;have p:(yzv a.args).size<=8388608:=by rw[zew];omega
 have o:=z09k q;have g:=yvx _ D;rw[y0k,Ev.zz0 ywf,Ev.yz1 (z0ej D),Ev.yz1 (z0d4 N)];by_cases m:a.kind=6;have u:=Q m;have F:=List.length_pos_iff.2 u;have E:a.args.getD 0 (yzv [])=a.args[0]:=by grind
 have l:=Qad F;have M:a.args[0].size<=8388608:=by have:=zu9 l;omega
 have e:aT a=lnT [zo3 a.kind,tx a.args[0]]:=by unfold aT;rw[Qbq m,E]
 rw[e]at i;rw[Ev.zz1 (by simp[m]),Ev.yz1 (show ix a.args 0=some a.args[0]from zz5 F),zz2.kz3,Ev.zz0 (y3d (z08m q l) M b),Ev.zz0 (zrd (by simp) (Qbe (w2 g (zii _)) (by omega)) i),Ev.yz0,e];unfold aB;rw[Qbq m,E];rw[Ev.kz0 (by simpa using m)];by_cases I:a.kind=5;have e:aT a=lnT [zo3 a.kind,zwl a.axis]++a.items.flatMap iT:=by unfold aT;grind
 rw[e,Qap]at i;have U:=@y82 a;rw[Ev.zz1 (by simp[I]),Ev.zz0 (zrd (by simp) (Qbe (w2 g (y91 _)) (by omega)) (by omega))]
 have h:=λw=>yvk (L:=λn k b d=>z0s n k a.items (a.items.length:Int) b (kzk d)) (xs:=a.items) (T:=iT) (B:=λx=>bad (yzv x.args)) (w:=w)
  (λk j b d y h=>by
   have l:=Qad j;have s:=hi _ l;have⟨A,K⟩:=ya9 s;have:=y9i l;have:=@ydg a.items[k]
   rw[ziy,Ev.zz1 (by simpa using j),Ev.yz1 (zz5 j),Ev.zz0 yio,Ev.yz1 (z0er A),Ev.zz0 y6t,zz2.kz3,Ev.zz0 (y3d (z0bf (z03q q l)) (by rw[zew];omega) b),
    Ev.zz0 (zrd (by simp) (Qbe (w3 (ywj _ A) K (zii _)) (by omega)) y),wrk (by omega)]
   exact h) b (d++lnT [zo3 a.kind,zwl a.axis]) (by grind)
 simp_all[ziy,Ev.kz0,Ev.yz0,aB]
 rw[Ev.kz0 (by simpa using I)];have G:aB a=bad (yzv a.args):=by unfold aB;grind
 by_cases J:a.kind=4;have e:aT a=lnT [zo3 a.kind,zwl a.axis,a.name,tx (yzv a.args)]:=by simp_all[aT]
 rw[e]at i;rw[Ev.zz1 (by simp[J]),Ev.zz0 y6t,zz2.kz3,Ev.zz0 (y3d o p b),Ev.zz0 (zrd (by simp) (Qbe (w4 g (y91 _) C (zii _)) (by omega)) i),Ev.yz0,e,G];have e:aT a=lnT [zo3 a.kind,a.name,tx (yzv a.args)]:=by simp_all[aT]
 rw[e]at i;rw[Ev.kz0 (by simpa using J),Ev.zz0 y6t,zz2.kz3,Ev.zz0 (y3d o p b),Ev.zz0 (zrd (by simp) (Qbe (w3 g C (zii _)) (by omega)) i),Ev.yz0,e,G]
def z0f9{a}(i:z0q a=true)(h:a.wf)(m:a.items.length<=10):(aT a).length<=44700:=by
 have⟨j,e,k,hi,n⟩:=y1o i h;have b:=yvx _ j;have t1:=zii (yzv a.args);have t2:=zii (a.args.getD 0 (yzv []));have d:=y91 a.axis;unfold aT;split;have:=zr8 [zo3 a.kind,tx (a.args.getD 0 (yzv []))]
 grind
 split;have:=zr8 [zo3 a.kind,zwl a.axis];have:=w2 b d;have:=y3m (l:=a.items) (g:=iT) (c:=4060) λx e=>z0fl (hi x e)
 grind
 split;have:=zr8 [zo3 a.kind,zwl a.axis,a.name,tx (yzv a.args)]
 grind
 have:=zr8 [zo3 a.kind,a.name,tx (yzv a.args)]
 grind
def yrr{w}(h:1<=w∧w<=1000000):(Lib.itoa w).length<=21:=y7y (by omega)
def z0cm{w}(h:1<=w∧w<=1000000):Ev (λn=>zc3 n w) (Lib.itoa w):=⟨0,λ_ _=>by unfold zc3;grind⟩
def ybg{c}(h:zsl c=true):(1<=c.weight∧c.weight<=1000000)∧∀a∈c.do_,z0q a=true:=by
 simp_all[zsl]
def yp4{c}(h:zlo c=false):c.do_.length<=10∧∀a∈c.do_,a.items.length<=10:=by
 simp_all[zlo]
def z0fe{c}(h:zsl c=true)(i:zlo c=false)(e:c.wf):(cT c).length<=452000:=by
 have⟨k,j⟩:=ybg h;have⟨m,d⟩:=yp4 i;have:=zr8 [[99,97,115,101],Lib.itoa c.weight,tx c.when_];have:=w3 (a:=[99,97,115,101]) (A:=4) (by simp) (yrr k) (zii c.when_);have:=y3m (l:=c.do_) (g:=aT) (c:=44700) λa b=>z0f9 (j a b) (ypp e b) (d a b)
 grind[cT]
def y3b{r}(h:zks r=true):r.name.length<=40∧(∀s∈r.params,s.length<=40)∧∀c∈r.cases,zsl c=true:=by
 simp_all[zks,zlq]
def zva{r}(h:zir r=false):r.params.length<=4∧r.cases.length<=6∧∀c∈r.cases,zlo c=false:=by
 grind[zir]
def z0ee:∀{l:List B8},(∀s∈l,s.length<=40)->(l.map List.length).sum<=l.length * 40
 |[],_=>by simp
 |x::l,h=>by
  have b:=z0ee (l:=l) λy a=>h y (Qai _ a)
  grind
def ygl{r}(h:zks r=true)(a:zir r=false):((([[114,117,108,101],r.name]++r.params):List B8).map List.length).sum<=204:=by
 have⟨e,b,_⟩:=y3b h;have⟨d,_,_⟩:=zva a;have:=z0ee b;simp[List.length_nil];omega
def z0ek{r}(h:zks r=true)(b:zir r=false)(e:r.wf):(rT r).length<=2713000:=by
 have⟨n,m,i⟩:=y3b h;have⟨k,j,d⟩:=zva b;have:=zr8 ([[114,117,108,101],r.name]++r.params);have:=ygl h b;have:=y3m (l:=r.cases) (g:=cT) (c:=452000) λc a=>z0fe (i c a) (d c a) (yon e a)
 grind[rT]
def z0en{t}(h:znl t=true):(tT t).length<=4060:=by
 unfold znl at h
 grind[zr8,zlq,zii,tT]
def yb6{p}(h:zui p=false):p.attrs.length<=20∧p.rules.length<=40∧∀r∈p.rules,zir r=false:=by
 grind[zui]
def ybj{p}(h:zet p=true):(∀t∈p.attrs,znl t=true)∧∀r∈p.rules,zks r=true:=by
 simp_all[zet]
def z0fi{p}(h:zet p=true)(e:zui p=false)(d:p.wf):(pT p).length<=110000000:=by
 have⟨f1,f2⟩:=ybj h;have⟨j,i,b⟩:=yb6 e;have:=y3m (l:=p.attrs) (g:=tT) (c:=4060) λt a=>z0en (f1 t a)
 have:=y3m (l:=p.rules) (g:=rT) (c:=2713000) λt a=>z0ek (f2 t a) (b t a) (ypf d a)
 grind[pT]
def ydb{p}(h:zht p=0):zui p=false∧zet p=true:=by
 refine⟨?_,(ywr h).1⟩;unfold zht at h;cases a:zui p;rfl
 grind
def yki{p:yz2}(C:p.wf)(N:p.size<=4000000):Ev (λn=>zb3 n p) (zxm p):=by
 rw[ynd,Ev.zz0 (yy8 C N)];by_cases w:zht p=0
 case neg=>rw[Ev.zz1 (by simpa using w),Ev.yz0];unfold zxm;rw[Qbq w]
 have⟨J,K⟩:=ydb w;have⟨f1,f2⟩:=ybj K;have⟨m1,m2,G⟩:=yb6 J;have hlen:=z0fi K J C;have W:=@y5w p;have P:=@zv4 p;rw[Ev.kz0 (by simpa using w)];have Q:zxm p=yyf (pB p) (pT p):=by unfold zxm;rw[Qbr (by simp[w])]
 rw[Q]
 have I:∀b d,d.length<=268435456->Ev (λn=>z8p n (b||decide (20000<d.length)) (kzk d)) (yyf b d):=λb d _=>by
  rw[ybi];unfold yyf
  cases h:b||decide (20000<d.length)
  rw[Ev.kz0 rfl,Ev.zz0 bstr,Ev.yz0];rfl;rw[Ev.zz1 rfl,Ev.yz0];rfl
 have M:∀b d,d.length+(p.rules.flatMap rT).length<=268435456->Ev (λn=>z5f n 0 p.rules (p.rules.length:Int) b (kzk d)) (yyf (b||p.rules.any rB) (d++p.rules.flatMap rT)):=λb d l=>by
  refine yvk (L:=λn k b d=>z5f n k p.rules (p.rules.length:Int) b (kzk d)) (xs:=p.rules) (T:=rT) (B:=rB) (λk m b d l h =>?_) b d l ?_;have g:=Qad m;have y:=f2 _ g;have E:=ypf C g;have X:=zuw g;have⟨g1,g2,O⟩:=y3b y;have⟨n1,n2,n3⟩:=zva (G _ g);have H:=@y2g p.rules[k]
  have e:rT p.rules[k]=lnT ([[114,117,108,101],p.rules[k].name]++p.rules[k].params)++p.rules[k].cases.flatMap cT:=rfl;rw[e,Qap]at l;rw[e,<-Qay]at h;have h2:=ygl y (G _ g);rw[zu2,Ev.zz1 (by simpa using m),Ev.yz1 (zz5 m),Ev.yz1 (z45 (by simp only[List.length_cons,List.length_nil];omega)),Ev.zz0 (zrd (by simp;omega) (by omega) (by omega))]
  refine yvk (L:=λn j b d=>z8q n j p.rules[k].cases p.rules (p.rules.length:Int) (k:Int) (p.rules[k].cases.length:Int) b (kzk d)) (xs:=p.rules[k].cases) (T:=cT) (B:=cB) (λj D b d l h =>?_) b _ (by rw[Qap];omega) ?_;have q:=Qad D;have F:=O _ q;have x:=yon E q;have Y:=zvo q;have⟨d1,d2⟩:=ybg F;have h4:=@zyv p.rules[k].cases[j]
  have h3:=@yhq p.rules[k].cases[j];have e:cT p.rules[k].cases[j]=lnT [[99,97,115,101],Lib.itoa p.rules[k].cases[j].weight,tx p.rules[k].cases[j].when_]++p.rules[k].cases[j].do_.flatMap aT:=rfl;rw[e,Qap]at l;rw[e,<-Qay]at h
  rw[zv1,Ev.zz1 (by simpa using D),Ev.yz1 (zz5 D),Ev.zz0 (z0cm d1),zz2.kz3,Ev.zz0 (y3d (z02u x) (by omega) b),
   Ev.zz0 (zrd (by simp) (Qbe (w3 (a:=[99,97,115,101]) (A:=4) (by simp) (yrr d1) (zii _)) (by omega)) (by omega))]
  refine yvk (L:=λn i b d=>z86 n i p.rules[k].cases[j].do_ p.rules[k].cases p.rules (p.rules.length:Int) (k:Int) (p.rules[k].cases.length:Int) (j:Int) (p.rules[k].cases[j].do_.length:Int) b (kzk d)) (xs:=p.rules[k].cases[j].do_) (T:=aT) (B:=aB) (λi hi b d l h =>?_) _ _ (by rw[Qap];omega) ?_;have s:=Qad hi;have Z:=zyy s
  rw[zvd,Ev.zz1 (by simpa using hi),Ev.yz1 (zz5 hi),Ev.zz0 (ysm (d2 _ s) (ypp x s) (by omega) b d l),wrk (by omega)];exact h;rw[zvd,Ev.kz0 (by simp),wrk (by omega),Bool.or_assoc];exact h;rw[zv1,Ev.kz0 (by simp),wrk (by omega)];exact h;rw[zu2,Ev.kz0 (by simp)]
  cases b||p.rules.any rB with
  |true=>rw[Ev.zz1 rfl];exact(I true _ (by rw[Qap];omega))
  |false=>
   rw[Ev.kz0 rfl,Ev.zz0 blen];have:=I false (d++p.rules.flatMap rT) (by rw[Qap];omega);rw[Bool.false_or]at this;have e:decide (((d++p.rules.flatMap rT).length:Int)>20000)=decide (20000<(d++p.rules.flatMap rT).length):=decide_eq_decide.2 (by omega);rw[e];exact this
 have h1:(p.attrs.flatMap tT).length+(p.rules.flatMap rT).length<=110000000:=by rw[<-Qap];exact hlen
 refine yvk (L:=λn k b d=>z8b n k p.attrs (p.attrs.length:Int) b p (kzk d)) (xs:=p.attrs) (T:=tT) (B:=λt=>bad t.value) (λk m b d l h =>?_) false [] (by simp only[List.length_nil];omega) ?_;have o:=Qad m;have u:=f1 _ o;have U:=yd2 o;have R:=@ycz p.attrs[k];unfold znl at u;rw[Qag]at u
 rw[zvw,Ev.zz1 (by simpa using m),Ev.yz1 (zz5 m),zz2.kz3,Ev.zz0 (y3d (z02l C o) (by omega) b),Ev.zz0 (zrd (by simp) (Qbe (w3 (a:=[97,116,116,114]) (A:=4) (by simp) (zlq u.1) (zii _)) (by omega)) l),wrk (by omega)];exact h;rw[zvw,Ev.kz0 (by simp)];refine Ev.to (M _ _ (by rw[Qbz];omega)) ?_;rw[Bool.false_or,Qbz];rfl
def ywz{p}(h:(zxm p).2=0):zht p=0∧pB p=false∧(pT p).length<=20000∧zxm p=(pT p,0):=by
 unfold zxm at h ⊢;by_cases b:zht p=0;rw[Qbr (by simp[b])]at h ⊢;unfold yyf at h ⊢;by_cases a:(pB p||decide (20000<(pT p).length))=true
 grind
 rw[Qbr a];simp[decide_eq_false_iff_not]at a
 grind
 grind
def y05{c s}(d:s.length<=1000000):Ev (λn=>z1l n s [c]) (cutAt c s):=by
 have hi:Ev (λn=>kzq n s [c]) (Lib.indexByte s c):=⟨0,λ_ _=>rfl⟩
 have h:Ev (λn=>zzu n s [c]) (cutAt c s):=by
  rw[zg6,Ev.zz0 hi,zox];cases a:s.any (· == c)
  simp_all[yaj,Ev.kz0,Ev.yz0]
  have⟨g,b,e⟩:=y97 a;rw[Qbq rfl,Ev.zz1 (by simp),Ev.yz1 (zld (by omega))];simp only[List.length_cons,List.length_nil];rw[show(((0+1:Nat):Nat):Int)=1 by rfl,wrk (by omega),Ev.yz1 (zo8 (by omega) (Qbp _)),Ev.yz0,b]
  grind[cutAt]
 rw[y1c,Ev.zz0 h,Ev.yz0]
def free(c:UInt8)(s:B8):Prop:=∀x∈s,x≠c
def y8c{c s t}(h:free c s)(k:free c t):free c (s++t):=λx a=>(List.mem_append.1 a).elim (h x) (k x)
def y33{c d t}(h:d≠c)(k:free c t):free c (d::t):=λx hx=>by
 rcases Qbf.1 hx with rfl|hx
 exact h;exact k x hx
def zhx{c p s}(b:p c=false)(h:s.all p=true):free c s:=λx a e=>by
 grind
def zu5{c w t}(h:free c w):cutAt c (w++c::t)=(w,t,true):=by
 have e:∀w:B8,free c w->(w++c::t).takeWhile (· != c)=w∧(w++c::t).dropWhile (· != c)=c::t:=λw=>by
  induction w with
  |nil=>intro _;simp
  |cons x w a=>
   intro h;have d:(x != c)=true:=by simpa using h x Qak
   have:=a λy b=>h y (Qai _ b)
   rw[Qby,List.takeWhile_cons,List.dropWhile_cons,d,Qbq rfl,Qbq rfl,this.1,this.2];exact⟨rfl,rfl⟩
 grind[cutAt]
theorem z092{c w}(h:free c w):cutAt c w=(w,[],false):=yaj (by
 rw[List.any_eq_false];intro x a
 simpa using h x a)
def yg9:∀(l) (x),(∀s∈x::l,free 32 s)->parts 32 (Lib.join (x::l) [32])=x::l
 |[],x,h=>by
  grind[parts_eq,Lib.join_one,z092]
 |y::l,x,h=>by
  rw[join_cons,parts_eq,zu5 (h x Qak)];simp[if_true];rw[yg9 l y λs a=>h s (Qai _ a)]
def z08d{s}(a:s.length<=1000000):Ev (λn=>zbh n s [32]) (parts 32 s):=⟨0,λ_ _=>by unfold zbh;grind⟩
def yr7{c}(h:zdi c=true):Lib.digitVal c=some (c.toNat-48):=by
 simp_all[Lib.digitVal,zgz]
def yd0:∀(l) (a),l.all zdi=true->Lib.decFrom a l=some (val a l)
 |[],a,_=>by rfl
 |c::l,a,h=>by
  simp only[List.all_cons,Qag]at h;rw[Lib.decFrom,yr7 h.1];simp;rw[yd0 l _ h.2,yj4,Nat.mul_comm]
def z03s:∀(k u),u<10 ^ (k+1)->Lib.nDigits u<=k+1
 |0,u,h=>by grind[Lib.nDigits_small]
 |k+1,u,h=>by
  by_cases a:u<10;rw[Lib.nDigits_small a];omega;rw[Lib.nDigits_big a];have:=z03s k (u / 10) (by omega);omega
def z0bz{w}(h:1<=w∧w<=1000000):Ev (λn=>zcc n (Lib.itoa w)) (.ok w):=by
 obtain⟨u,rfl⟩:∃u:Nat,w=(u:Int):=⟨w.toNat,by omega⟩;have e:Lib.itoa (u:Int)=Lib.decDigits u:=by rw[zpg (by omega)];rfl
 have o:(Lib.decDigits u).length<=7:=by
  rw[Lib.decDigits_length];exact z03s 6 u (by omega)
 have m:=zlx u;have g:=z06r u
 have i:Lib.atoi (Lib.decDigits u)=some (u:Int):=by
  cases d:Lib.decDigits u with
  |nil=>exact(g d).elim
  |cons b r=>
   have l:=m;rw[d]at l;have a:zdi b=true:=by simp_all
   have j:=(y9y a).2;have k:b≠43:=λe=>by subst e;revert a;decide
   rw[Lib.atoi,Qbr (by simpa using j),Qbr (by simpa using k)];unfold Lib.decNat;rw[Qbr (by simp),yd0 _ _ l,<-d,yfn];rfl
 refine⟨0,λ_ _ =>?_⟩;unfold zcc;rw[e,Qbq (by omega),Lib.atoiAll_short _ (by omega),i];rfl
def prn(c:UInt8):Bool:=decide (32<=c.toNat)
def prn10:prn 10=false:=rfl
def zx8{p}{s t:B8}(h:s.all p=true)(k:t.all p=true):(s++t).all p=true:=by grind
def z0d7{p q}{s:B8}(b:∀c,p c=true->q c=true)(h:s.all p=true):s.all q=true:=Qat.2 λx a=>b x (Qat.1 h x a)
theorem z0c7{c}(h:isNum c=true):prn c=true:=by
 grind[ybk,prn]
theorem z0f2{c}(h:zvm c=true):prn c=true:=by
 simp_all[zvm,prn]
def z03j:∀s:B8,s.all prn=true->(esc s).all prn=true
 |[],_=>rfl
 |c::s,h=>by
  simp only[List.all_cons,Qag]at h;have:=z03j s h.2;unfold esc;split;simp only[List.all_cons,Qag];exact⟨rfl,h.1,this⟩
  simp_all
theorem z04j{v}(h:zbt v=0):(zj2 v).all prn=true:=by
 have a:=(zj0 h).1;unfold zj2;split
 grind[z0c7,y73,zvc]
 split;split <;> decide
 refine zx8 (s:=[34]) rfl (zx8 (z03j _ ?_) rfl);by_cases d:v.kind=3
 grind[z0f2,yom]
 have b:v.kind=4:=by grind[zov]
 rw[(z0fd a b).2.2.2];rfl
def z0c3{c}(h:zav c=true):prn c=true:=by grind[yaf,prn]
def yp7{s}(h:zbq s=true):s.all zav=true:=by
 cases s with
 |nil=>rfl
 |cons c t=>
  simp_all[zbq,yaf,y3k]
def yu1{s}(h:zbq s=true):s.all prn=true:=z0d7 (λ_=>z0c3) (yp7 h)
def z05u{op}:(zfw op).all prn=true:=by
 unfold zfw;split
 rename_i h;rcases op8 h with rfl|rfl|rfl|rfl|rfl|rfl|rfl|rfl <;> decide
 rfl
def z01u{op}:(zez op).all prn=true:=by
 unfold zez;split
 rename_i h;rcases op7 h with rfl|rfl|rfl|rfl|rfl|rfl|rfl <;> decide
 rfl
def yja{a}(e:a.all prn=true):∀(l) (b),(∀x∈l,(z3d x).all prn=true)->(z3p a b l).all prn=true
 |[],b,_=>by cases b <;> rfl
 |x::l,b,h=>by
  have g:=yja e l true λy d=>h y (Qai _ d)
  grind[z3p]
theorem z06c:∀e:zz2,zcy e=true->(z3d e).all prn=true:=zwf λe g d=>by
 rw[zmn];have a:=zmh d;split
 grind[z04j,own1]
 split;rename_i k j;rw[j]at a;have:=(own2 a).1
 simp_all[zin,yu1]
 have h:=@z05u e.op;have i:=@z01u e.op;refine zx8 ?_ (zx8 (yja ?_ _ _ λx b=>g x b (zon d x b)) ?_);unfold zf3;split;rfl;split;exact zx8 i rfl;rfl;unfold zxb;split;exact zx8 (s:=[32]) rfl (zx8 h rfl);rfl;unfold zc2;split;rfl;split <;> rfl
def z02i{e}(h:bad e=false):z50 e=0∧(z3d e).length<=4000∧tx e=z3d e:=by
 unfold bad tx at *;unfold yby at h ⊢;by_cases a:z50 e=0;rw[Qbr (by simp[a])]at h ⊢;by_cases b:4000<(z3d e).length
 grind
 grind
 grind
def yjq{e}(h:bad e=false):(tx e).all prn=true:=by
 have⟨b,_,a⟩:=z02i h
 grind[z06c,zmo]
def zdx{s}(h:s.all prn=true):free 10 s:=zhx prn10 h
def z08t{e}(b:e.wf)(d:e.size<=8388608)(j:bad e=false):Ev (λn=>zb8 n (tx e)) (0,e):=by
 have⟨i,m,k⟩:=z02i j;have⟨g,l,h⟩:=zmo i;have a:=z04h e g (by omega) 12 h (Qbp _) [] z076 (by grind);rw[List.append_nil]at a;have o:=(yml (s:=z3d e) (by omega) a).2 [] e rfl b d
 simp_all[chk]
def y32{e}(a:e.wf)(d:e.size<=8388608)(g:bad e=false)(b):Ev (λn=>kzu n (tx e) b) (b,e):=by
 rw[y27,Ev.zz0 (z08t a d g),zz2.kz3];cases b;rw[Ev.kz0 rfl,zja,zz2.kz3,Ev.yz0];rw[Ev.zz1 rfl,zja,zz2.kz3,Ev.yz0];rfl
def ybm{nm l}(e:free 32 nm)(h:nm.length<=1000)(a:(yzv l).wf)(d:(yzv l).size<=8388608)(g:bad (yzv l)=false)(b) :
  Ev (λn=>z0f n (nm++32::tx (yzv l)) b) (nm,l,b):=by
 have:=zii (yzv l);rw[y2f,Ev.zz0 (y05 (by simp;omega)),zu5 e,Ev.zz0 (y32 a d g b)];cases b;rw[Ev.kz0 rfl,zj6,Ev.yz0];rfl;rw[Ev.zz1 rfl,zj6,Ev.yz0];rfl
def yoi{a}(h:0<=a∧a<=2)(b):Ev (λn=>z13 n (zwl a) b) (a,b):=by
 have hi:Ev (λn=>zbi n [120,121,122] (zwl a)) a:=by
  rw[ya4]
  have:Ev (λn=>kzq n [120,121,122] (zwl a)) a:=⟨0,λ_ _=>by
   rcases(by omega:a=0∨a=1∨a=2)with rfl|rfl|rfl <;> rfl⟩
  grind
 have d:IntKind.u8.wrap (mxI a 0)=a:=by rcases(by omega:a=0∨a=1∨a=2)with rfl|rfl|rfl <;> rfl
 rw[zyt,Ev.zz0 hi];cases b;rw[Ev.kz0 rfl,zj4,d,Ev.yz0];rw[Ev.zz1 rfl,Ev.zz1 (by rfl),zj4,d,Ev.yz0,Qbm (show a>=0 from h.1)]
theorem zdd{s}(h:zas s=true):free 32 s∧free 10 s:=by
 unfold zas at h;rw[Qag]at h;exact⟨zhx rfl (yp7 h.1),zdx (yu1 h.1)⟩
def yp5{s}(a:s.length<=1000000):Ev (λn=>yzk n (s++[10]) [10]) true:=by
 have e:IntKind.i64.wrap (((s++[10]).length:Int)-(([10]:B8).length:Int))=(s.length:Int):=by
  rw[wI (by simp;omega)];simp
 rw[zjc,Ev.zz1 (by simp;omega),e,Ev.yz1 (zo8 (by simp) (Qbp _)),Ev.yz0,List.take_length,List.drop_left];rfl
def yrf{s}(a:s.length<=1000000):Ev (λn=>z38 n (s++[10]) [10]) true:=by simp_all[y0r,yp5]
def z0d3{s}(a:s.length<=1000000):Ev (λn=>z4e n (s++[10]) [10]) s:=by
 have e:IntKind.i64.wrap (((s++[10]).length:Int)-(([10]:B8).length:Int))=(s.length:Int):=by
  rw[wI (by simp;omega)];simp
 have h:Ev (λn=>zzp n (s++[10]) [10]) s:=by
  rw[zis,Ev.zz0 (yp5 a),Ev.zz1 rfl,e,Ev.yz1 (zld (by simp)),Ev.yz0];simp
 simp_all[zxv]
def z0d9{l t}(h:free 10 l):lnA (l++10::t)=l++[10]∧lnB (l++10::t)=t:=by
 induction l with
 |nil=>exact⟨rfl,rfl⟩
 |cons c l a=>
  have g:(c==10)=false:=by simpa using h c Qak
  have⟨d,b⟩:=a λx e=>h x (Qai _ e)
  simp[lnA,lnB,g,d,b,and_self]
def y28{x y l}(h:free 32 x):cutAt 32 (Lib.join (x::y::l) [32])=(x,Lib.join (y::l) [32],true):=by rw[join_cons,zu5 h]
def zoh{c}(a:(32:UInt8)≠c):∀l:List B8,(∀s∈l,free c s)->free c (Lib.join l [32])
 |[],_=>by intro x b;simp[Lib.join,List.intercalate]at b
 |[x],h=>by grind[Lib.join_one]
 |x::y::l,h=>by
  exact y8c (h x Qak) (y33 a (zoh a (y::l) λs d=>h s (Qai _ d)))
def z00r{a0 l t j i g d a rs b r}(m:free 10 l)(q:l.length+t.length+1<=20000)
  (k:Ev (λn=>zzq n l true d rs) (true,a,b)) (h:Ev (λn=>z09 n a0 t j i g true a b) r):Ev (λn=>z09 n a0 (l++10::t) j i g true d rs) r:=by
 have⟨p,o⟩:=z0d9 (t:=t) m;have e:noS (l++10::t)=false:=by cases l <;> rfl
 rw[zru,Ev.yz1 (show(if (l++10::t).length<=4611686018427387904 then some ()else none)=some ()from Qbq (by simp;omega)),Ev.kz0 e,p,o,Ev.zz0 (z0d3 (by omega)),Ev.zz0 k,Ev.kz0 (by rfl),
  Ev.yz1 (show z03v t t=some ()from Qbq rfl)]
 exact h
def z043{p s d b a}(g:p.wf)(i:p.size<=4000000)(h:zxm p=(s,0)):Ev (λn=>z09 n s [] d b a true p.attrs p.rules) (p,0):=by
 rw[zru,Ev.yz1 (show(if ([]:B8).length<=4611686018427387904 then some ()else none)=some ()from Qbq (by simp)),Ev.zz1 (by rfl)];have e:yz2.mk p.attrs p.rules=p:=by cases p;rfl
 rw[e,Ev.zz0 (yki g i),h,Ev.kz0 (by rfl),Ev.kz0 (by simp),Ev.yz0]
def y7o:B8:=[97,116,116,114]
def y0e:B8:=[114,117,108,101]
def y8m:B8:=[99,97,115,101]
def z03y{t a}(d:znl t=true)(i:bad t.value=false)(g:t.value.wf)(h:t.value.size<=8388608)(o:a.length<=1000) :
  Ev (λn=>zzq n (Lib.join [y7o,t.name,tx t.value] [32]) true a []) (true,a++[t],[]):=by
 unfold znl at d;rw[Qag]at d;have⟨f1,f2⟩:=zdd d.1;have m:=zlq d.1;have l:=zii t.value;have e:=zjo [y7o,t.name,tx t.value];have b:=zjo [t.name,tx t.value];simp[y7o]at e b;have j:free 32 y7o:=zhx (p:=isLet) rfl (by decide);have k:yzl.mk t.name t.value=t:=by cases t;rfl
 rw[zci,Ev.zz0 (y05 (by unfold y7o;omega)),y28 j];dsimp only
 rw[Ev.zz1 (by rfl),z9w,Ev.zz1 (by rfl),Ev.zz0 (y05 (by omega)),y28 f1,Lib.join_one,Ev.zz0 (y32 g h i true),zz2.kz3,
  k,Ev.yz1 (z45 (by grind)),Ev.yz0]
def z041{r a rs}(b:zks r=true)(h:zir r=false)(x:rs.length<=1000) :
  Ev (λn=>zzq n (Lib.join ([y0e,r.name]++r.params) [32]) true a rs) (true,a,rs++[⟨r.name,r.params,[]⟩]):=by
 have u:=ygl b h;have⟨w,_,_⟩:=zva h;unfold zks at b;simp[Qag]at b;have e:=zjo ([y0e,r.name]++r.params);have i:=zjo (r.name::r.params);have m:([y0e,r.name]++r.params:List B8)=y0e::r.name::r.params:=rfl
 have g:∀s∈r.name::r.params,free 32 s:=λs hs=>by
  rcases Qbf.1 hs with rfl|hs
  exact(zdd b.1).1
  grind[zdd]
 rw[m]at e ⊢;have k:free 32 y0e:=zhx (p:=isLet) rfl (by decide)
 have q:(Lib.join (y0e::r.name::r.params) [32]).length<=1000:=by
  grind[y0e]
 have o:(Lib.join (r.name::r.params) [32]).length<=1000:=by
  grind
 have j:=yg9 r.params r.name g;rw[zci,Ev.zz0 (y05 (by omega)),y28 k];dsimp only;rw[Ev.kz0 (by rfl),z9w,Ev.kz0 rfl,Ev.zz1 (by rfl),Ev.zz0 (z08d (by omega)),j,Ev.yz1 (show ix (r.name::r.params) 0=some r.name from rfl)]
 have d:sub (r.name::r.params) 1 ((r.name::r.params).length:Int)=some r.params:=by
  have:=zo8 (l:=r.name::r.params) (lo:=1) (hi:=(r.name::r.params).length) (by simp) (Qbp _);simpa using this
 rw[Ev.yz1 d,Ev.yz1 (z45 (by grind)),Ev.yz0]
def zvy{α:Type}{l}{x:α}(h:l.length<=1000):IntKind.i64.wrap (((l++[x]).length:Int)-1)=(l.length:Int):=by rw[wI (by simp;omega)];simp
def z0l{α}(l)(x:α):ix (l++[x]) (l.length:Int)=some x:=z0bo l x
def yv9{α:Type}(l)(x y:α):(l++[x]).set (Int.toNat (l.length:Int)) y=l++[y]:=z07z l x y
def zt0(k):zmb k k=some ():=Qbq rfl
def z04k{nm d cs w e a rs}(j:1<=w∧w<=1000000)(l:bad e=false)(g:e.wf)(k:e.size<=8388608)(m:rs.length<=1000)(u:cs.length<=1000) :
  Ev (λn=>zzq n (Lib.join [y8m,Lib.itoa w,tx e] [32]) true a (rs++[⟨nm,d,cs⟩])) (true,a,rs++[⟨nm,d,cs++[⟨w,e,[]⟩]⟩]):=by
 have s:=yrr j;have q:=zii e;have i:=zjo [y8m,Lib.itoa w,tx e];have b:=zjo [Lib.itoa w,tx e];simp[y8m]at i b;have o:free 32 y8m:=zhx (p:=isLet) rfl (by decide);have f1:free 32 (Lib.itoa w):=by rw[zpg (by omega)];exact zhx (p:=zdi) rfl (zlx _)
 have h:(((rs++[(⟨nm,d,cs⟩:yz7)]).length:Int)==0)=false:=by simp;omega
 rw[zci,Ev.zz0 (y05 (by unfold y8m;omega)),y28 o];dsimp only;rw[Ev.kz0 (by rfl),z9w,Ev.kz0 rfl,Ev.kz0 (by rfl),Ev.kz0 h,Ev.zz1 (by rfl),Ev.zz0 (y05 (by omega)),y28 f1,Lib.join_one,Ev.zz0 (z0bz j)];refine Ev.zt2.2 ?_
 rw[Ev.zz1 rfl,zum,zvy m,Ev.yz1 (z0l _ _),Ev.yz1 (z0l _ _),Ev.yz1 (zt0 _),Ev.yz1 (z0l _ _),Ev.zz0 (y32 g k l true),zz2.kz3,Ev.yz1 (z45 (by grind)),
  Ev.yz1 (z0l _ _),Ev.yz1 (zt0 _),Ev.yz1 (z0l _ _),Ev.yz1 (z0l _ _),Ev.yz0,yv9]
def strip(a:zz4):zz4:=⟨a.kind,a.axis,a.name,a.args,[]⟩
def y9l{line b rest z a rs nm d cs e c}(g:cutAt 32 line=(b,rest,z))(j:line.length<=1000000)
  (p:(b==y7o)=false) (o:(b==y0e)=false) (m:(b==y8m)=false) (l:rs.length<=1000) (k:cs.length<=1000)
  (h:Ev (λn=>z0c n (cs.length:Int) b rest true (cs++[c]) a (rs++[⟨nm,d,cs++[c]⟩]) (rs.length:Int)) (true,e,a,rs++[⟨nm,d,cs++[c]⟩],(rs.length:Int))) :
  Ev (λn=>zzq n line true a (rs++[⟨nm,d,cs++[c]⟩])) (true,a,rs++[⟨nm,d,e⟩]):=by
 have i:(((rs++[(⟨nm,d,cs++[c]⟩:yz7)]).length:Int)==0)=false:=by simp;omega
 rw[zci,Ev.zz0 (y05 j),g]
 rw[Ev.kz0 (c:=b==[97,116,116,114]) p,z9w,Ev.kz0 rfl,Ev.kz0 (c:=b==[114,117,108,101]) o,Ev.kz0 i,Ev.kz0 (c:=b==[99,97,115,101]) m,zvy l,Ev.yz1 (z0l _ _),Ev.yz1 (z0l _ _),Ev.yz1 (z0l _ _),
  Ev.zz1 (by simp;try omega),Ev.yz1 (z0l _ _),Ev.yz1 (zt0 _),Ev.yz1 (z0l _ _),zvy k,Ev.yz1 (z0l _ _),Ev.zz0 h]
 simp_all[z0l,Ev.yz0]
theorem yfs{cs w e d b rs a k g nm h}(i:d.length<=1000) :
  Ev (λn=>kzj n (cs.length:Int) true (cs++[⟨w,e,d⟩]) b rs a k g nm h []) (true,cs++[⟨w,e,d++[⟨k,g,nm,h,[]⟩]⟩],b,rs,a):=by
 rw[zqi,Ev.yz1 (z0l _ _),Ev.yz1 (zt0 _),Ev.yz1 (z0l _ _),Ev.yz1 (z45 (by grind)),Ev.yz1 (zt0 _),Ev.yz1 (z0l _ _),Ev.yz1 (z0l _ _),Ev.yz1 (z0l _ _),Ev.yz0,zz2.kz3]
 simp_all
noncomputable def zxh(a:zz4):B8:=if a.kind=6 then tx (a.args.getD 0 (yzv []))else if a.kind=5 then zwl a.axis else if a.kind=4 then Lib.join [zwl a.axis,a.name,tx (yzv a.args)] [32]else Lib.join [a.name,tx (yzv a.args)] [32]
noncomputable def yul(a:zz4):B8:=zo3 a.kind++32::zxh a
def yao(a)(h:0<=a∧a<=2):free 32 (zwl a)∧(zwl a).all prn=true:=by
 rcases(by omega:a=0∨a=1∨a=2)with rfl|rfl|rfl <;> exact⟨zhx (p:=isLet) rfl (by decide),by decide⟩
def z0es{k}(h:1<=k∧k<=6):Ev (λn=>yz5 n yov (zo3 k)) (-1)∧Ev (λn=>yz5 n acts (zo3 k)) (k-1)∧IntKind.u8.wrap (IntKind.i64.wrap (k-1+1))=k:=by
 refine⟨Ev.to (y37 (by decide)) ?_,Ev.to (y37 (by decide)) ?_,?_⟩;rcases(by omega:k=1∨k=2∨k=3∨k=4∨k=5∨k=6)with rfl|rfl|rfl|rfl|rfl|rfl <;> decide
 rcases(by omega:k=1∨k=2∨k=3∨k=4∨k=5∨k=6)with rfl|rfl|rfl|rfl|rfl|rfl <;> decide
 rcases(by omega:k=1∨k=2∨k=3∨k=4∨k=5∨k=6)with rfl|rfl|rfl|rfl|rfl|rfl <;> rfl
def yy1{k}(h:1<=k∧k<=6):free 32 (zo3 k)∧(zo3 k).all prn=true∧(zo3 k==y7o)=false∧(zo3 k==y0e)=false∧(zo3 k==y8m)=false:=by
 rcases(by omega:k=1∨k=2∨k=3∨k=4∨k=5∨k=6)with rfl|rfl|rfl|rfl|rfl|rfl <;> exact⟨zhx (p:=isLet) rfl (by decide),by decide,by decide,by decide,by decide⟩
def z0fs{k}(h:1<=k∧k<=3):Ev (λn=>yz5 n yov (yb1 k)) (k-1)∧IntKind.u8.wrap (IntKind.i64.wrap (k-1+1))=k:=by
 refine⟨Ev.to (y37 (by decide)) ?_,?_⟩;rcases(by omega:k=1∨k=2∨k=3)with rfl|rfl|rfl <;> decide
 rcases(by omega:k=1∨k=2∨k=3)with rfl|rfl|rfl <;> rfl
def z0aw{k}(h:1<=k∧k<=3):free 32 (yb1 k)∧(yb1 k).all prn=true∧(yb1 k==y7o)=false∧(yb1 k==y0e)=false∧(yb1 k==y8m)=false:=by
 rcases(by omega:k=1∨k=2∨k=3)with rfl|rfl|rfl <;> exact⟨zhx (p:=isLet) rfl (by decide),by decide,by decide,by decide,by decide⟩
def yj2{a}(d:z0q a=true)(b:a.wf):(a.kind=6->∃e,a.args=[e]∧strip a=⟨6,0,[],[e],[]⟩)∧(a.kind=5->strip a=⟨5,a.axis,[],[],[]⟩)∧(a.kind<=4->zas a.name=true)∧(a.kind<=3->a.axis=0):=by
 have i:=z03f b;have⟨o,h,g,n,m,l,k,j⟩:=zj9.1 d;refine⟨λe =>?_,λe =>?_,λe =>?_,λe =>?_⟩;rw[Qbr (by omega)]at h;rw[Qbr (by omega)]at g
 grind[own,List.length_eq_one_iff,strip]
 simp_all[own,strip]
 grind
 omega
def z0az{a}(B:z0q a=true)(R:aB a=false)(l:a.wf)(O:a.size<=4000000){cs w e s k rs g}(q:s.length<=1000) :
  Ev (λn=>z0c n (cs.length:Int) (zo3 a.kind) (zxh a) true (cs++[⟨w,e,s⟩]) k rs g) (true,cs++[⟨w,e,s++[strip a]⟩],k,rs,g):=by
 have⟨F,p,Q,hi,T⟩:=y1o B l;have⟨f6,f5,f4,f3⟩:=yj2 B l;have⟨K,J,I⟩:=z0es F;have M:=@ycx a;have j:(yzv a.args).size<=8388608:=by rw[zew];omega
 have h:=z09k l;rw[zkl,Ev.zz0 yio,Ev.zz0 K,Ev.kz0 (by decide),Ev.zz0 ywf,Ev.zz0 J];simp only[I];rw[Ev.kz0 (by simp;omega)];by_cases d:a.kind=6;have⟨x,u,y⟩:=f6 d;have G:a.args.getD 0 (yzv [])=x:=by rw[u];rfl
 have E:x∈a.args:=by grind
 have D:x.size<=8388608:=by grind
 have b:zxh a=tx x:=by unfold zxh;rw[Qbq d,G]
 have m:bad x=false:=by simp_all[aB]
 rw[Ev.zz1 (by simp[d]),b,Ev.zz0 (y32 (z08m l E) D m true),zz2.kz3,y,d];exact yfs q;rw[Ev.kz0 (by simpa using d)];by_cases o:a.kind=5;have b:zxh a=zwl a.axis:=by unfold zxh;grind
 rw[Ev.zz1 (by simp[o]),b,Ev.zz0 (yoi p true),f5 o,o];exact yfs q;rw[Ev.kz0 (by simpa using o)];have m:bad (yzv a.args)=false:=by simp_all[aB]
 have A:=f4 (by omega);have i:=(zdd A).1;have L:=zii (yzv a.args);by_cases C:a.kind=4;have b:zxh a=zwl a.axis++32::(a.name++32::tx (yzv a.args)):=by simp_all[zxh,join_cons,Lib.join_one]
 have N:=y91 a.axis;rw[Ev.zz1 (by simp[C]),b,Ev.zz0 (y05 (by grind)),zu5 (yao _ p).1,Ev.zz0 (yoi p true),Ev.zz0 (ybm i (by omega) h j m true)];exact yfs q;have b:zxh a=a.name++32::tx (yzv a.args):=by simp_all[zxh,join_cons,Lib.join_one]
 rw[Ev.kz0 (by simpa using C),b,Ev.zz0 (ybm i (by omega) h j m true)]
 grind[strip,yfs]
def z048{x}(p:znn x=true)(s:bad (yzv x.args)=false)(o:x.wf)(D:x.size<=4000000){cs w e i l an m b h rs d}(k:i.length<=1000)(C:b.length<=1000) :
  Ev (λn=>z0c n (cs.length:Int) (yb1 x.kind) (x.name++32::tx (yzv x.args)) true (cs++[⟨w,e,i++[⟨5,l,an,m,b⟩]⟩]) h rs d) (true,cs++[⟨w,e,i++[⟨5,l,an,m,b++[x]⟩]⟩],h,rs,d):=by
 have a:=p;unfold znn at a;simp[Qar]at a;have q:1<=x.kind∧x.kind<=3:=⟨a.1,a.2.1⟩;have g:=a.2.2.1;have⟨A,y⟩:=z0fs q;have B:=@ydg x;have j:(yzv x.args).size<=8388608:=by rw[zew];omega
 have E:=zlq g;have u:yzq.mk x.kind x.name x.args=x:=by cases x;rfl
 rw[zkl,Ev.zz0 yio,Ev.zz0 A,Ev.zz1 (Qbm (by omega)),Ev.zz0 (ybm (zdd g).1 (by omega) (z0bf o) j s true),Ev.yz1 (z0l _ _),Ev.yz1 (z0l _ _),Ev.zz1 (by simp;try omega),
  Ev.yz1 (zt0 _),Ev.yz1 (z0l _ _),zvy k,Ev.yz1 (z0l _ _),Ev.yz1 (z0l _ _),Ev.yz1 (z0l _ _)]
 rw[zz2.kz3,yv9,zqj,Ev.zz1 (by rfl),zvy k,Ev.yz1 (z0l _ _),Ev.yz1 (z0l _ _),Ev.yz1 (zt0 _),Ev.yz1 (z0l _ _),Ev.yz1 (zt0 _),Ev.yz1 (z0l _ _),Ev.yz1 (z0l _ _),Ev.yz1 (zt0 _),Ev.yz1 (z0l _ _),y,u,
  Ev.yz1 (z45 (by grind)),Ev.yz1 (z0l _ _),Ev.yz1 (zt0 _),Ev.yz1 (z0l _ _),Ev.yz1 (z0l _ _),Ev.yz1 (z0l _ _),Ev.yz0]
 simp_all
def PE(a0:B8)(z:Int×z2f×zzl)(r:yz2×Int)(s:B8)(a:z2f)(rs:zzl):Prop:=Ev (λn=>z09 n a0 s z.1 z.2.1 z.2.2 true a rs) r
def zlm{α:Type}{T}{ok:α->Prop}{F:B8->List α->Prop}{N M}(step:∀(done:List α) (x:α) (t:B8),ok x->done.length<N->(T x++t).length<=M->F t (done++[x])->F (T x++t) done) :
  ∀(l done) (t),(∀x∈l,ok x)->done.length+l.length<=N->(l.flatMap T++t).length<=M->F t (done++l)->F (l.flatMap T++t) done
 |[],done,t,_,_,_,h=>by simpa using h
 |x::l,done,t,a,e,b,h=>by
  rw[List.flatMap_cons,Qay]at b ⊢;rw[List.length_cons]at e;refine step done x _ (a x Qak) (by omega) b (zlm step l (done++[x]) t (λy d=>a y (Qai _ d)) (by grind) ?_ (by simpa using h))
  grind
section
variable {a0:B8}{z:Int × z2f × zzl}{r:yz2 × Int}
def y96{l t d a rs b}(g:free 10 l)(i:(l++10::t).length<=20000)
  (e:Ev (λn=>zzq n l true d rs) (true,a,b)) (h:PE a0 z r t a b):PE a0 z r (l++10::t) d rs :=
 z00r g (by grind) e h
theorem yft(ws)(t):lnT ws++t=Lib.join ws [32]++10::t:=by unfold lnT;simp
def y2h:(32:UInt8)≠10:=by decide
def z0bi{a rs nm k cs w e b o an p}(d:rs.length<=1000)(j:cs.length<=1000)(i:b.length<=1000)
  (done) (x) (t) (y:znn x=true∧bad (yzv x.args)=false∧x.wf∧x.size<=4000000) (E:done.length<1000) (l:(iT x++t).length<=20000)
  (h:PE a0 z r t a (rs++[⟨nm,k,cs++[⟨w,e,b++[⟨5,o,an,p,done++[x]⟩]⟩]⟩])):PE a0 z r (iT x++t) a (rs++[⟨nm,k,cs++[⟨w,e,b++[⟨5,o,an,p,done⟩]⟩]⟩]):=by
 have⟨n,m,B,A⟩:=y;have⟨u,D⟩:=ya9 n
 have g:zas x.name=true:=by
  simp_all[znn]
 have⟨s,w2,w3,w4,q⟩:=z0aw u;have C:iT x++t=(yb1 x.kind++32::(x.name++32::tx (yzv x.args)))++10::t:=by grind[iT,yft,join_cons,Lib.join_one]
 rw[C]at l ⊢;have hlen:(yb1 x.kind++32::(x.name++32::tx (yzv x.args))).length<=1000000:=by grind
 exact y96 (y8c (zdx w2) (y33 y2h (y8c (zdd g).2 (y33 y2h (zdx (yjq m)))))) l
  (y9l (zu5 s) hlen w3 w4 q d j (z048 n m B A i (by omega))) h
def z0c6(a):aT a=yul a++10::(if a.kind=5 then a.items.flatMap iT else []):=by
 unfold aT yul zxh;by_cases b:a.kind=6
 simp_all[lnT,join_cons,Lib.join_one]
 by_cases d:a.kind=5
 simp_all[lnT,join_cons,Lib.join_one]
 by_cases e:a.kind=4
 simp_all[lnT,join_cons]
 simp_all[lnT,join_cons]
def z015{a}(i:z0q a=true)(e:aB a=false)(h:a.wf):free 10 (yul a):=by
 have⟨k,g,n,hi,o⟩:=y1o i h;have⟨f6,f5,f4,f3⟩:=yj2 i h;unfold yul zxh;refine y8c (zdx (yy1 k).2.1) (y33 y2h ?_);unfold aB at e;split
 simp_all[zdx,yjq]
 rename_i l;rw[Qbr l]at e;split;exact zdx (yao _ g).2;rename_i m;rw[Qbr m]at e;have d:=(zdd (f4 (by omega))).2;have j:=zdx (yjq e);split
 exact zoh y2h _ λs b=>by
  simp[or_false]at b
  rcases b with rfl|rfl|rfl
  exact zdx (yao _ g).2;exact d;exact j
 exact zoh y2h _ λs b=>by
  simp[or_false]at b
  rcases b with rfl|rfl
  exact d;exact j
def z0f5{g rs nm n cs w e}(l:rs.length<=1000)(m:cs.length<=1000)
  (done) (a) (t) (E:z0q a=true∧aB a=false∧a.wf∧a.size<=4000000∧a.items.length<=10) (K:done.length<1000) (o:(aT a++t).length<=20000)
  (h:PE a0 z r t g (rs++[⟨nm,n,cs++[⟨w,e,done++[a]⟩]⟩])):PE a0 z r (aT a++t) g (rs++[⟨nm,n,cs++[⟨w,e,done⟩]⟩]):=by
 have⟨k,A,j,G,O⟩:=E;have⟨D,i,J,hi,L⟩:=y1o k j;have⟨f6,f5,f4,f3⟩:=yj2 k j;have⟨C,w2,w3,w4,B⟩:=yy1 D;have hit:=(zj9.1 k).2.2.2.2.2.2.1;rw[z0c6,Qay,Qby]at o ⊢;have hlen:(yul a).length<=1000000:=by grind
 refine y96 (z015 k A j) o (y9l (zu5 C) hlen w3 w4 B l m (z0az k A j G (by omega))) ?_;by_cases p:a.kind=5;rw[Qbq p]at o ⊢;have es:=f5 p;rw[es]
 refine zlm (T:=iT) (ok:=λx=>znn x=true∧bad (yzv x.args)=false∧x.wf∧x.size<=4000000) (F:=λs q=>PE a0 z r s g (rs++[⟨nm,n,cs++[⟨w,e,done++[⟨5,a.axis,[],[],q⟩]⟩]⟩])) (N:=1000) (M:=20000)
  (λd x t i y u I=>z0bi l m (by omega) d x t i y u I) a.items [] t (λx i =>?_) (by simp;omega) (by grind) ?_
 refine⟨hi x i,?_,z03q j i,by have:=y9i i;omega⟩
 simp_all[aB]
 have:(⟨5,a.axis,[],[],[]++a.items⟩:zz4)=a:=by
  have:=congrArg (λb:zz4=>zz4.mk b.kind b.axis b.name b.args a.items) es;simp only[strip]at this;rw[Qbz,<-this]
 rw[this];exact h;rw[Qbr p,Qbz];have:strip a=a:=by unfold strip;cases a;grind
 rw[this];exact h
def z09u{c}(h:cB c=false):bad c.when_=false∧∀a∈c.do_,aB a=false:=by
 grind[cB]
def z0dg{b rs nm i}(g:rs.length<=1000)
  (done) (c) (t) (u:zsl c=true∧cB c=false∧c.wf∧c.size<=4000000∧zlo c=false) (J:done.length<1000) (m:(cT c++t).length<=20000)
  (h:PE a0 z r t b (rs++[⟨nm,i,done++[c]⟩])):PE a0 z r (cT c++t) b (rs++[⟨nm,i,done⟩]):=by
 have⟨A,y,n,K,w⟩:=u;have⟨d1,d2⟩:=ybg A;have⟨b1,b2⟩:=z09u y;have⟨I,o⟩:=yp4 w;have G:=@yhq c;have D:cT c++t=Lib.join [y8m,Lib.itoa c.weight,tx c.when_] [32]++10::(c.do_.flatMap aT++t):=by unfold cT;rw[Qay,yft];rfl
 rw[D]at m ⊢;have C:free 10 (Lib.itoa c.weight):=by rw[zpg (by omega)];exact zhx (p:=zdi) rfl (zlx _)
 refine y96 (zoh y2h _ λs l =>?_) m (z04k d1 b1 (z02u n) (by omega) g (by omega)) ?_;simp[or_false]at l
 rcases l with rfl|rfl|rfl
 exact zdx (by decide);exact C;exact zdx (yjq b1)
 refine zlm (T:=aT) (ok:=λa=>z0q a=true∧aB a=false∧a.wf∧a.size<=4000000∧a.items.length<=10) (F:=λs E=>PE a0 z r s b (rs++[⟨nm,i,done++[⟨c.weight,c.when_,E⟩]⟩])) (N:=1000) (M:=20000)
  (λd x t q k j B=>z0f5 g (by omega) d x t q k j B) c.do_ [] t (λa e=>⟨d2 a e,b2 a e,ypp n e,by have:=zyy e;omega,o a e⟩) (by simp;omega) (by grind) ?_
 exact h
def z0cv{b}(done)(x)(t)(n:zks x=true∧rB x=false∧x.wf∧x.size<=4000000∧zir x=false)(A:done.length<1000)(k:(rT x++t).length<=20000)
  (h:PE a0 z r t b (done++[x])):PE a0 z r (rT x++t) b done:=by
 have⟨g,C,o,B,l⟩:=n;have⟨E,D,q⟩:=y3b g;have⟨y,w,m⟩:=zva l;have u:rT x++t=Lib.join ([y0e,x.name]++x.params) [32]++10::(x.cases.flatMap cT++t):=by unfold rT;rw[Qay,yft];rfl
 rw[u]at k ⊢;have a:=g;unfold zks at a;simp[Qag]at a;refine y96 (zoh y2h _ λs hs =>?_) k (z041 g l (by omega)) ?_;simp[Qbf]at hs
 rcases hs with rfl|rfl|hs
 exact zdx (by decide);exact(zdd a.1).2
 simp_all[zdd]
 refine zlm (T:=cT) (ok:=λc=>zsl c=true∧cB c=false∧c.wf∧c.size<=4000000∧zlo c=false) (F:=λs cs=>PE a0 z r s b (done++[⟨x.name,x.params,cs⟩])) (N:=1000) (M:=20000)
  (λd c t e j i p=>z0dg (by omega) d c t e j i p) x.cases [] t (λc e=>⟨q c e,?_,yon o e,by have:=zvo e;omega,m c e⟩) (by simp;omega) (by grind) ?_
 grind[rB]
 simp_all
def z0dn(done)(x)(t)(i:znl x=true∧bad x.value=false∧x.value.wf∧x.value.size<=4000000)(l:done.length<1000)(d:(tT x++t).length<=20000)
  (h:PE a0 z r t (done++[x]) []):PE a0 z r (tT x++t) done []:=by
 have⟨g,e,j,m⟩:=i;have k:tT x++t=Lib.join [y7o,x.name,tx x.value] [32]++10::t:=by unfold tT;rw[yft];rfl
 rw[k]at d ⊢;have a:=g;unfold znl at a;rw[Qag]at a;refine y96 (zoh y2h _ λs b =>?_) d (z03y g e j (by omega) (by omega)) h;simp[or_false]at b
 rcases b with rfl|rfl|rfl
 exact zdx (by decide);exact(zdd a.1).2;exact zdx (yjq e)
end
def E10(s:B8):Prop:=s=[]∨∃u,s=u++[10]
def E10.app{s t}(h:E10 s)(k:E10 t):E10 (s++t):=by
 rcases k with rfl|⟨u,rfl⟩
 grind
 exact .inr ⟨s++u,by grind⟩
def E10.ln(ws):E10 (lnT ws):=.inr ⟨_,rfl⟩
def E10.flat{α:Type}{T}(h:∀x,E10 (T x)):∀l:List α,E10 (l.flatMap T)
 |[]=>.inl rfl
 |x::l=>by exact(h x).app (E10.flat h l)
def E10.act(a):E10 (aT a):=by
 unfold aT;split;exact .ln _;split;exact(E10.ln _).app (.flat (λ_=>.ln _) _);split <;> exact .ln _
def E10.prog(p):E10 (pT p):=by
 exact(E10.flat (λ_=>.ln _) _).app (.flat (λr=>(E10.ln _).app (.flat (λc=>(E10.ln _).app (.flat .act _)) _)) _)
def yvy{s}:Ev (λn=>ze3 n s) s:=⟨1,λn a=>by
 cases n with
 |zero=>omega
 |succ n=>rfl⟩
def ya7{p}(d:p.wf)(o:p.size<=4000000)(h:(zxm p).2=0):Ev (λn=>zbk n (pT p)) (p,0):=by
 have⟨B,C,w,m⟩:=ywz h;have⟨q,A⟩:=ydb B;have⟨f1,f2⟩:=ybj A;have⟨E,D,k⟩:=yb6 q;unfold pB at C
 have body:∀z,PE (pT p) z (p,0) (pT p) [] []:=λz=>by
  have e:pT p=p.attrs.flatMap tT++(p.rules.flatMap rT++[]):=by unfold pT;rw[List.append_nil]
  have b:=w;rw[e]at b;rw[show PE (pT p) z (p,0) (pT p) [] []=PE (pT p) z (p,0) (p.attrs.flatMap tT++(p.rules.flatMap rT++[])) [] [] by rw[<-e]]
  refine zlm (T:=tT) (ok:=λx=>znl x=true∧bad x.value=false∧x.value.wf∧x.value.size<=4000000) (F:=λs j=>PE (pT p) z (p,0) s j []) (N:=1000) (M:=20000)
   z0dn p.attrs [] _ (λx a=>⟨f1 x a,by grind,z02l d a,by have:=yd2 a;have:=@ycz x;omega⟩) (by simp;omega) b ?_
  rw[Qbz]
  refine zlm (T:=rT) (ok:=λx=>zks x=true∧rB x=false∧x.wf∧x.size<=4000000∧zir x=false) (F:=λs rs=>PE (pT p) z (p,0) s p.attrs rs) (N:=1000) (M:=20000)
   z0cv p.rules [] [] (λx a=>⟨f2 x a,by grind,ypf d a,by have:=zuw a;omega,k x a⟩) (by simp;omega) (by grind) ?_
  rw[Qbz];exact z043 d o m
 rw[yku,Ev.kz0 (by simp;omega)];by_cases g:pT p=[];rw[Ev.kz0 (by simp[g]),Ev.zz0 yvy];exact body (0,[],[]);have⟨u,l⟩:=(E10.prog p).resolve_left g;have i:u.length<=1000000:=by grind
 rw[Ev.zz1 (by simpa using g)];have y:Ev (λn=>z38 n (pT p) [10]) true:=by rw[l];exact yrf i
 rw[Ev.zz0 y,Ev.kz0 (by rfl),Ev.zz0 yvy];exact body (0,[],[])
def z09f{p}(e:p.wf)(j:p.size<=1048576)(alive:Ev (λn=>z0p n) true):Ev (λn=>kzs n p) true:=by
 have⟨b,i,g⟩:=z09n e (by omega);rw[zqg,Ev.zz0 i]
 cases b with
 |false=>simp_all[Ev.zz1]
 |true=>
 have h:=g rfl;rw[Ev.kz0 (by rfl),Ev.zz0 (yki e (by omega))];by_cases d:(zxm p).2=0
 case neg=>
  have k:(zxm p).2=4:=by
   unfold zxm at d ⊢;rw[Qbr (by simp[h])]at d ⊢;unfold yyf at d ⊢;split;rfl
   grind
  simp_all[Ev.zz1]
 rw[Ev.kz0 (by simpa using d),(ywz d).2.2.2,Ev.zz0 (ya7 e (by omega) d),Ev.zz1 (by rfl)];have a:=(yyl (by omega)).to (y30 p);rw[Ev.zz0 a,Ev.zz1 rfl,Ev.zz0 alive,Ev.yz0]
def z014(p)(a:p.wf)(b:p.size<=1048576):∃n,kzs n p=some true:=Ev.get (z09f a b z08k)
end Go.Proofs.YthphaiccgnkobaaGreatDoor
