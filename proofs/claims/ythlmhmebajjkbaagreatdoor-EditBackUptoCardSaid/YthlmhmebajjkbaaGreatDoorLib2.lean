/-
  Texts.
-/
import Derived.Test.YthlmhmebajjkbaaGreatDoorLib1
import Derived.StillTail
import Derived.WalkKit
import Derived.ProofKit
import Derived.OpenShut
import Derived.JoinedCond
import Derived.Carry
set_option linter.defProp false
set_option linter.unusedSimpArgs false
set_option linter.unusedVariables false
namespace Go.Ab
open Go
section
variable {P:Program}{ops:Array Oper}{md:Region.Mode}
def yr3{H:Heap}{ρ ρ':Operand->V}{o:Op}(h:∀x∈o.operands,ρ x=ρ' x):pv P H ρ o=pv P H ρ' o:=by
 cases o
 case move x=>simp only[pv,h x (by simp[Op.operands])]
 case assign x=>simp only[pv,h x (by simp[Op.operands])]
 case pick c a b=>simp only[pv,h c (by simp[Op.operands]),h a (by simp[Op.operands]),h b (by simp[Op.operands])]
 case load t a=>simp only[pv,h a (by simp[Op.operands])]
 case nilCheck x=>simp only[pv,h x (by simp[Op.operands])]
 case binOp op t x y u=>simp only[pv,h x (by simp[Op.operands]),h y (by simp[Op.operands])]
 case unOp op t x=>simp only[pv,h x (by simp[Op.operands])]
 case convert s d x=>simp only[pv,h x (by simp[Op.operands])]
 case makeInterface t x=>simp only[pv,h x (by simp[Op.operands])]
 case makeFunc fn first e=>
  cases fn <;> try rfl
  simp only[pv];have z:first.toList.map ρ=first.toList.map ρ':=List.map_congr_left λx j=>h x (by simp[Op.operands];left;simpa using j)
  have w:e.toList.map ρ=e.toList.map ρ':=List.map_congr_left λx j=>h x (by simp[Op.operands];right;simpa using j)
  rw[z,w]
 case slice t x m r l=>
  simp only[pv]
  have z:m.map ρ=m.map ρ':=by
   cases m with
   |none=>rfl
   |some y=>simp only[Qbr];rw[h y (by simp[Op.operands])]
  have w:r.map ρ=r.map ρ':=by
   cases r with
   |none=>rfl
   |some y=>simp only[Qbr];rw[h y (by simp[Op.operands])]
  have C:l.map ρ=l.map ρ':=by
   cases l with
   |none=>rfl
   |some y=>simp only[Qbr];rw[h y (by simp[Op.operands])]
  rw[h x (by simp[Op.operands]),z,w,C]
 case fieldAddr s x f=>simp only[pv,h x (by simp[Op.operands])]
 case field s x f=>simp only[pv,h x (by simp[Op.operands])]
 case indexAddr t x i=>simp only[pv,h x (by simp[Op.operands]),h i (by simp[Op.operands])]
 case index t x i=>simp only[pv,h x (by simp[Op.operands]),h i (by simp[Op.operands])]
 case lookup t x k ok=>simp only[pv,h x (by simp[Op.operands]),h k (by simp[Op.operands])]
 case typeAssert x t u ok=>simp only[pv,h x (by simp[Op.operands])]
 case extract x i=>simp only[pv,h x (by simp[Op.operands])]
 case build t g=>
  simp only[pv];have:partsOf ρ g=partsOf ρ' g:=List.map_congr_left λp q=>by rw[h p.2 (by simp[Op.operands];exact⟨p.1,by simpa using q⟩)]
  rw[this]
 case buildSlice t len g=>
  simp only[pv];have:partsOf ρ g=partsOf ρ' g:=List.map_congr_left λp q=>by rw[h p.2 (by simp[Op.operands];exact⟨p.1,by simpa using q⟩)]
  rw[this]
 case makeSlice t n c=>simp only[pv,h n (by simp[Op.operands]),h c (by simp[Op.operands])]
 case call c=>
  simp only[pv,zcx];have A:c.args.toList.map ρ=c.args.toList.map ρ':=List.map_congr_left λx j=>h x (by simp[Op.operands,Call.operands];right;simpa using j)
  rw[A];split
  ·split
   ·rename_i x t B D;rw[h x (by simp[Op.operands,Call.operands];right;rw[<-Array.mem_toList_iff,B];simp)]
   ·rfl
  all_goals rfl
 all_goals rfl
def zne{ρ ρ':Operand->V}{c:Call}(h:∀x∈c.operands,ρ x=ρ' x):target ρ c=target ρ' c:=by
 unfold target;have b:c.args.toList.map ρ=c.args.toList.map ρ':=List.map_congr_left λx a=>h x (by simp[Call.operands];right;simpa using a)
 rw[b];split
 ·rename_i f d;rw[h f (by simp[Call.operands,d])]
 ·rfl
def z00k{σ:St}{a:Option Nat}{v:V}{x:Operand}(h:∀d,a=some d->x ≠ .tmp d):(σ.put a v).ev x=σ.ev x:=by
 cases a with
 |none=>rfl
 |some d=>
  cases x with
  |tmp t=>
   simp only[St.put,St.ev];have:d≠t:=λe=>h d rfl (by rw[e])
   rw[Qba,Qbi,Qby this,<-Qba]
  |const v=>rfl
  |global g=>rfl
  |func f=>rfl
def z01v{σ:St}{a:Option Nat}{v:V}:(σ.put a v).H=σ.H:=by cases a <;> rfl
def z06d{σ:St}{a:Option Nat}{v:V}:(σ.put a v).e0=σ.e0:=by cases a <;> rfl
def put_comm{σ:St}{x y:Option Nat}(v u:V)(h:∀d,x=some d->y≠some d):(σ.put x v).put y u=(σ.put y u).put x v:=by
 cases x with
 |none=>cases y <;> rfl
 |some d=>
  cases y with
  |none=>rfl
  |some e=>
   have:d≠e:=λq=>h d rfl (by rw[q])
   simp only[St.put];rw[List.set_comm _ _ this]
def zga{o:Oper}{d:Nat}(h:d∉o.looksAt ops):∀x∈o.op.operands,x ≠ .tmp d:=λx a e=>h (by
 subst e;unfold Oper.looksAt;simp only[Qbb,List.mem_filterMap]
 exact .inl ⟨.tmp d,by simpa using a,rfl⟩)
def y8d{σ:St}{o:Oper}{a:Option Nat}{v:V}(h:∀d,a=some d->d∉o.looksAt ops):z08 ops (σ.put a v) o=z08 ops σ o:=by
 unfold z08;split
 ·rfl
 ·rename_i j want g;split
  ·rename_i k i
   cases a with
   |none=>rfl
   |some d=>
    have b:d≠k:=λe=>h d rfl (by
     unfold Oper.looksAt;simp only[Qbb,g];right
     rw[i,e];simp)
    simp only[St.put];rw[Qba,Qbi,Qby b,<-Qba]
  ·rfl
def QV(P:Program)(σ:St)(o:Oper)(v:V):Prop :=
 pv P σ.H σ.ev o.op=some v∨∃c f args,o.op = .call c∧target σ.ev c=some (f,args)∧y4b P f args σ.H v σ.H
def QY(P:Program)(ops:Array Oper)(σ:St)(o:Oper)(v:V):Prop :=
 (z08 ops σ o=some true∧QV P σ o v)∨(z08 ops σ o=some false∧v = .tup [])
def z013{σ:St}{o:Oper}{b:Option Nat}{u v:V}(h:∀d,b=some d->d∉o.looksAt ops):QY P ops (σ.put b u) o v↔QY P ops σ o v:=by
 have g:∀x∈o.op.operands,(σ.put b u).ev x=σ.ev x:=λx e=>z00k λd k=>zga (h d k) x e
 unfold QY QV;rw[y8d h,yr3 g,z01v];constructor
 ·rintro (⟨h1,a|⟨c,f,args,a,j,i⟩⟩|h1)
  ·exact .inl ⟨h1,.inl a⟩
  ·exact .inl ⟨h1,.inr ⟨c,f,args,a,by rw[<-zne (ρ:=(σ.put b u).ev) (λx e=>g x (by rw[a];exact e))];exact j,i⟩⟩
  ·exact .inr h1
 ·rintro (⟨h1,a|⟨c,f,args,a,j,i⟩⟩|h1)
  ·exact .inl ⟨h1,.inl a⟩
  ·exact .inl ⟨h1,.inr ⟨c,f,args,a,by rw[zne (ρ':=σ.ev) (λx e=>g x (by rw[a];exact e))];exact j,i⟩⟩
  ·exact .inr h1
def qA(P:Program)(ops:Array Oper)(i:Nat)(K:St->Prop)(σ:St):Prop :=
 match ops[i]? with
 |none=>K σ
 |some o=>∃v,QY P ops σ o v∧K (σ.put o.dst v)
def yvi{i:Nat}{σ:St}{K b:St->Prop}(h:∀σ,K σ->b σ)(a:qA P ops i K σ):qA P ops i b σ:=by
 unfold qA at *;split
 ·exact h _ (by simpa[*]using a)
 ·rename_i o d;simp only[d]at a;have⟨v,g,e⟩:=a;exact⟨v,g,h _ e⟩
def QY.qA{i:Nat}{o:Oper}{v:V}{σ:St}(b:ops[i]? = some o)(a:QY P ops σ o v){K:St->Prop}(h:K (σ.put o.dst v)):qA P ops i K σ:=by
 unfold Ab.qA;simp only[b];exact⟨v,a,h⟩
def z01u{j:Nat}{a d:Oper}{v:V}(k:ops[j]? = some d)(b:a.apart ops d=true){K:St->Prop}{σ:St}(e:QY P ops σ a v)(h:qA P ops j K (σ.put a.dst v)) :
  qA P ops j (λσ'=>QY P ops σ' a v∧K (σ'.put a.dst v)) σ:=by
 have⟨n,m,l⟩:=Oper.apart_spec b;unfold qA at *;simp only[k]at *;have⟨u,g,i⟩:=h;refine⟨u,(z013 n).1 g,(z013 l).2 e,?_⟩;rw[<-put_comm v u m];exact i
def yff{W0:World}{g0:Gh}{H0:Heap}{i:Nat}{σ:St}{K:St->Prop}{x:Act->World->Prop}{Q':Exit->Act->World->Prop}
  (B:∀W a g σ,K σ->(σ.e0=H0.E∧Step W0 g0 H0 W g σ.H)->kzu W a g σ->x a W) {W:World}{a:Act}{g:Gh}(j:qA P ops i K σ) (s:σ.e0=H0.E∧Step W0 g0 H0 W g σ.H) (d:kzu W a g σ):wpOp P ops Q' i x a W:=by
 unfold qA at j;unfold wpOp;split
 ·rename_i q;simp only[q]at j;exact B W a g σ j s d
 ·rename_i o q;simp only[q]at j;have⟨v,G,z⟩:=j
  have h:∀c W' g',Step W g σ.H W' g' σ.H->Good W' g' σ.H->Rel W' g' σ.H v c->x (a.put o.dst c) W':=λc W' g' s1 m l=>
   B W' _ g' _ z (by rw[z01v,z06d];exact⟨s.1,s.2.trans s1⟩) (d.next s1 m l o.dst)
  rcases G with ⟨n,p⟩|⟨n,rfl⟩
  ·rw[z0z d n,Qbx rfl];left;unfold Oper.wp
   rcases p with p|⟨c,f,args,y,I,A⟩
   ·have⟨c,W',M,C,L⟩:=y4k (P:=P) d.good (r:=a.eval) d.ev p;rw[M];exact h c W' g C.step (d.good.grow C) L
   ·have⟨b,F,D⟩:=zgh (P:=P) (ty:=o.type) d.ev I
    have k:(execOp a.eval o).run P W=(callFunc f b).run P W:=by
     rw[<-D W];unfold execOp;rw[y]
    rcases A W g b d.good F with ⟨w,u⟩|⟨c,W',g',w,u,O,N⟩
    ·rw[k,w];refine u.mono λe W' ⟨c,g',J,s1,m,l⟩ =>?_
     subst J;exact h c W' g' s1 m l
    ·rw[k,w];exact h c W' g' u O N
  ·rw[z0z d n,Qby (by simp)];have:=h undef W g (.refl _ _ _) d.good (.tup [] #[] rfl (by simp));exact this
def AQ(P:Program)(md:Region.Mode)(ops:Array Oper)(R:St->Prop):Nat->Array Bool->St->Prop
 |0,listed,σ=>Region.ready md ops listed=[]∧R σ
 |fuel+1,listed,σ=>(Region.ready md ops listed=[]->R σ)∧∀i∈Region.ready md ops listed,qA P ops i (AQ P md ops R fuel (listed.setIfInBounds i true)) σ
def y7z{W0:World}{g0:Gh}{H0:Heap}{R:St->Prop}{Q':Exit->Act->World->Prop}(e:∀W a g σ,R σ->(σ.e0=H0.E∧Step W0 g0 H0 W g σ.H)->kzu W a g σ->Q' .normal a W) :
  ∀(fuel:Nat) (listed:Array Bool) (σ:St) (W:World) (a:Act) (g:Gh),AQ P md ops R fuel listed σ->(σ.e0=H0.E∧Step W0 g0 H0 W g σ.H)->kzu W a g σ->wpAny P md ops Q' fuel listed a W
 |0,_,σ,W,a,g,h,b,d=>⟨h.1,e W a g σ h.2 b d⟩
 |fuel+1,listed,σ,W,a,g,h,b,d=>⟨λl=>e W a g σ (h.1 l) b d,λi k=>yff (λW a g σ' j b d=>y7z e fuel _ σ' W a g j b d) (h.2 i k) b d⟩
def z033{R:St->Prop}{i:Nat}{o:Oper}{v:V}(B:ops[i]? = some o) :
  ∀(fuel:Nat) (listed:Array Bool) (σ:St),
   (∀j n,ops[j]? = some n->j≠i->listed.getD j true=false->(∀e∈n.after,Region.binds md e=true->e.on≠i)->o.apart ops n=true) ->
   i∈Region.ready md ops listed->QY P ops σ o v->AQ P md ops R fuel (listed.setIfInBounds i true) (σ.put o.dst v)->AQ P md ops R (fuel+1) listed σ:=by
 intro fuel
 induction fuel with
 |zero=>
  intro listed σ _ m u H;refine⟨λh=>(by rw[h]at m;cases m),λj w =>?_⟩;by_cases a:j=i
  ·subst a;exact u.qA B H
  ·have:=ready_mono w a;rw[H.1]at this
   cases this
 |succ fuel D=>
  intro listed σ b m u H;refine⟨λh=>(by rw[h]at m;cases m),λj w =>?_⟩;by_cases a:j=i
  ·subst a;exact u.qA B H
  ·have x:=H.2 j (ready_mono w a);have⟨l,n,p,s⟩:=mem_ready.1 w;have d:=(mem_ready.1 m).1
   have r:∀e∈n.after,Region.binds md e=true->e.on≠i:=λe F G A=>by
    have x:=s e F G;rw[A,getD_both d]at x;cases x
   have I:=z01u p (b j n p a l r) u x
   have g:∀k ok,ops[k]? = some ok->k≠i->(listed.setIfInBounds j true).getD k true=false ->
     (∀e∈ok.after,Region.binds md e=true->e.on≠i)->o.apart ops ok=true:=λk ok E z d y=>by
    refine b k ok E z ?_ y;by_cases q:j=k
    ·subst q;exact l
    ·rw[getD_set_ne true q]at d;exact d
   refine yvi (λσ' C=>D (listed.setIfInBounds j true) σ' g (ready_mono m (Ne.symm a)) C.1 ?_) I;rw[Array.setIfInBounds_comm _ _ a];exact C.2
def zn4(P:Program)(ops:Array Oper):List Oper->List V->St->Option (St×List V×List Claim)
 |[],a,σ=>some (σ,a,[])
 |o::rest,a,σ=>
  match z08 ops σ o with
  |none=>none
  |some b=>if b then
    (match pv P σ.H σ.ev o.op with
    |some v=>zn4 P ops rest a (σ.put o.dst v)
    |none=>match o.op with
     |.call c=>match target σ.ev c,a with
      |some (f,args),r::d=>match zn4 P ops rest d (σ.put o.dst r)with
       |some (σ',l,cl)=>some (σ',l,⟨f,args,σ.H,r,σ.H⟩::cl)
       |none=>none
      |_,_=>none
     |_=>none)
   else zn4 P ops rest a (σ.put o.dst (.tup []))
def yk1{o:Oper}{rest:List Oper}{d l:List V}{σ σ':St}{cl:List Claim}(h:zn4 P ops (o::rest) d σ=some (σ',l,cl))(i:∀c∈cl,c.ok P) :
  ∃v a e,QY P ops σ o v∧zn4 P ops rest a (σ.put o.dst v)=some (σ',l,e)∧∀c∈e,c.ok P:=by
 simp only[zn4]at h;split at h
 ·cases h
 ·rename_i b j;split at h
  ·rename_i k;subst k;split at h
   ·rename_i v q;exact⟨v,d,cl,.inl ⟨j,.inl q⟩,h,i⟩
   ·split at h
    ·rename_i c m;split at h
     ·rename_i f args r a s;split at h
      ·rename_i u w p g;simp only[Qbu,Qbz]at h;obtain⟨rfl,rfl,rfl⟩:=h;exact⟨r,a,p,.inl ⟨j,.inr ⟨c,f,args,m,s,i _ (.head _)⟩⟩,g,λc n=>i c (.tail _ n)⟩
      ·cases h
     ·cases h
    ·cases h
  ·rename_i k;have:b=false:=by simpa using k
   subst this;exact⟨(.tup []),d,cl,.inr ⟨j,rfl⟩,h,i⟩
def z03b{R:St->Prop}:∀(l:List Oper) (k:Nat) (listed:Array Bool) (σ σ':St) (a rest:List V) (cl:List Claim),(∀j,l[j]? = ops[k+j]?) ->
  Region.lexFrom md ops l.length k listed=true->zn4 P ops l a σ=some (σ',rest,cl)->(∀c∈cl,c.ok P)->R σ'->AQ P md ops R l.length listed σ
 |[],_,_,σ,σ',a,rest,cl,_,e,h,_,g=>by
  simp only[zn4,Qbu,Qbz]at h;obtain⟨rfl,_,_⟩:=h
  exact⟨by simpa[Region.lexFrom]using e,g⟩
 |o::l,k,listed,σ,σ',a,rest,cl,p,e,h,w,g=>by
  have q:ops[k]? = some o:=by simpa using(p 0).symm
  simp only[List.length_cons,Region.lexFrom,Qag]at e;have⟨⟨s,u⟩,m⟩:=e;have⟨v,d,n,r,b,i⟩:=yk1 h w
  exact z033 q l.length listed σ (Region.free_spec q u) (by simpa using s) r
   (z03b l (k+1) _ _ σ' d rest n (λj=>by have:=p (j+1);simpa[Nat.add_assoc,Nat.add_comm 1 j]using this) m b i g)
def kzu.drawn{W:World}{a:Act}{g:Gh}{σ:St}(h:kzu W a g σ)(n:Nat):kzu {W with drawn:=n} a g σ :=
 have s:=(Grow.drawn W n).step (g:=g) (H:=σ.H)
 ⟨h.good.grow (Grow.drawn W n),h.size,λj v d=>(h.tmps j v d).mono s,h.dlen,λj f vs d=>by have⟨b,k,i,e⟩:=h.defs j f vs d;exact⟨b,k,i,e.mono s⟩⟩
def z02o{id:Nat}{σ σ':St}{Q:kze->St->Prop}(m:P.follows .mixedOrders=true)(k:Region.lexB .any ops=true)(b:List V){rest:List V}{cl:List Claim}(h:zn4 P ops ops.toList b σ=some (σ',rest,cl))(n:∀c∈cl,c.ok P)(o:Q .normal σ') :
  Sat P (.region id ops true) σ Q:=λW0 g0 H0 W a g _ d e=>by
 simp only[Region.lexB,Qag]at k;refine zjq zwo m ?_;have j:=e.drawn (W.drawn+1);have i:σ.e0=H0.E∧Step W0 g0 H0 {W with drawn:=W.drawn+1} g σ.H:=⟨d.1,d.2.trans (Grow.drawn W _).step⟩;have:=z03b (P:=P) (md:=.any) (R:=λτ=>τ=σ') ops.toList 0 (Array.replicate ops.size false) σ σ' b rest cl (by simp) (by simpa using k.2) h n rfl;simp only[Array.length_toList]at this
 exact y7z (Q':=yjl W0 g0 H0 Q) (λW a g τ l d e=>by subst l;exact⟨g,_,.normal,.normal,d,e,o⟩) _ _ σ _ a g this i j
def ALt(P:Program)(md:Region.Mode)(ops:Array Oper)(n:Nat)(L:Array Bool->St->Prop):Nat->Array Bool->St->Prop
 |0,listed,σ=>L listed σ
 |f+1,listed,σ=>Region.ready md ops listed≠[]∧∀i∈Region.ready md ops listed,i<n∧qA P ops i (ALt P md ops n L f (listed.setIfInBounds i true)) σ
def zuw{W0:World}{g0:Gh}{H0:Heap}{n k:Nat}{L:Array Bool->St->Prop}{Q':Exit->Act->World->Prop}
  (e:∀listed W a g σ,L listed σ->(σ.e0=H0.E∧Step W0 g0 H0 W g σ.H)->kzu W a g σ->wpAny P md ops Q' k listed a W) :
  ∀(f:Nat) (listed:Array Bool) (σ:St) (W:World) (a:Act) (g:Gh),ALt P md ops n L f listed σ->(σ.e0=H0.E∧Step W0 g0 H0 W g σ.H)->kzu W a g σ->wpAny P md ops Q' (f+k) listed a W
 |0,listed,σ,W,a,g,h,b,d=>by rw[Nat.zero_add];exact e _ _ _ g σ h b d
 |f+1,listed,σ,W,a,g,h,b,d=>by
  rw[show f+1+k=(f+k)+1 by omega];exact⟨λm=>absurd m h.1,λi l=>yff (λW a g σ' j b d=>zuw e f _ σ' W a g j b d) (h.2 i l).2 b d⟩
def yxm{n i:Nat}{u:Oper}{v:V}{L:Array Bool->St->Prop}(J:ops[i]? = some u)
  (G:Region.sinkB md ops n=true) (K:Region.chainB md ops n=true) (I:n<ops.size) (y:i<n)
  (r:∀listed σ,L listed σ->∀j∈Region.ready md ops listed,n<=j) :
  ∀(f:Nat) (listed:Array Bool) (σ:St),HeadInv md ops n listed ->
   (∀j s,ops[j]? = some s->j≠i->listed.getD j true=false->(∀e∈s.after,Region.binds md e=true->e.on≠i)->u.apart ops s=true) ->
   i∈Region.ready md ops listed->QY P ops σ u v->ALt P md ops n L f (listed.setIfInBounds i true) (σ.put u.dst v)->ALt P md ops n L (f+1) listed σ:=by
 intro f
 induction f with
 |zero=>
  intro listed σ g _ o B H;have b:=(mem_ready.1 o).1;refine⟨λh=>(by rw[h]at o;cases o),λj q =>?_⟩
  have l:j<n:=by
   rcases Nat.lt_or_ge j n with h|h
   ·exact h
   ·exact absurd q (tail_waits G K I g _ i rfl y b j h)
  refine⟨l,?_⟩;by_cases a:j=i
  ·subst a;exact B.qA J H
  ·have:=r _ _ H j (ready_mono q a)
   omega
 |succ f N=>
  intro listed σ g d o B H;have b:=(mem_ready.1 o).1;refine⟨λh=>(by rw[h]at o;cases o),λj q =>?_⟩
  have l:j<n:=by
   rcases Nat.lt_or_ge j n with h|h
   ·exact h
   ·exact absurd q (tail_waits G K I g _ i rfl y b j h)
  refine⟨l,?_⟩;by_cases a:j=i
  ·subst a;exact B.qA J H
  ·have C:=(H.2 j (ready_mono q a)).2;have⟨p,s,w,A⟩:=mem_ready.1 q
   have z:∀e∈s.after,Region.binds md e=true->e.on≠i:=λe Q R F=>by
    have C:=A e Q R;rw[F,getD_both b]at C;cases C
   have T:=z01u w (d j s w a p z) B C
   have m:∀k ok,ops[k]? = some ok->k≠i->(listed.setIfInBounds j true).getD k true=false ->
     (∀e∈ok.after,Region.binds md e=true->e.on≠i)->u.apart ops ok=true:=λk ok O E b D=>by
    refine d k ok O E ?_ D;by_cases x:j=k
    ·subst x;exact p
    ·rw[getD_set_ne true x]at b;exact b
   refine yvi (λσ' M=>N (listed.setIfInBounds j true) σ' (g.set q l) m (ready_mono o (Ne.symm a)) M.1 ?_) T;rw[Array.setIfInBounds_comm _ _ a];exact M.2
def yn2{n k0:Nat}{R:St->Prop}(y:Region.sinkB md ops n=true)(B:Region.chainB md ops n=true)(z:n<ops.size) :
  ∀(l:List Oper) (k:Nat) (listed:Array Bool) (σ σ':St) (b rest:List V) (cl:List Claim),(∀j,j<l.length->l[j]? = ops[k+j]?)->k+l.length=n->HeadInv md ops n listed ->
  Region.lexHead md ops k0 l.length k listed=true->zn4 P ops l b σ=some (σ',rest,cl)->(∀c∈cl,c.ok P)->R σ' ->
  ALt P md ops n (λa τ=>Region.seqB md ops k0 n a=true∧R τ) l.length listed σ
 |[],k,listed,σ,σ',b,rest,cl,_,p,_,q,h,_,r=>by
  have:k=n:=by simpa using p
  subst this;simp only[zn4,Qbu,Qbz]at h;obtain⟨rfl,_,_⟩:=h
  exact⟨by simpa[Region.lexHead]using q,r⟩
 |o::l,k,listed,σ,σ',b,rest,cl,A,p,d,q,h,s,r=>by
  have C:ops[k]? = some o:=by simpa using(A 0 (by simp)).symm
  simp only[List.length_cons,Region.lexHead,Qag]at q;have⟨⟨E,F⟩,w⟩:=q;have g:k<n:=by simp only[List.length_cons]at p;omega
  have e:k∈Region.ready md ops listed:=by simpa using E
  have⟨v,m,x,D,i,u⟩:=yk1 h s
  exact yxm C y B z g (λa τ G=>seqB_ready G.1) l.length listed σ d (Region.free_spec C F) e D
   (yn2 y B z l (k+1) _ _ σ' m rest x (λj I=>by have:=A (j+1) (by simp;omega);simpa[Nat.add_assoc,Nat.add_comm 1 j]using this) (by simp only[List.length_cons]at p;omega) (d.set e g) w i u r)
def zs6{Q':Exit->Act->World->Prop}:∀(m k:Nat) (listed:Array Bool) (a:Act) (w:World),k+m=ops.size ->
  Region.seqB md ops m k listed=true->wpOps P ops Q' (List.range' k m) a w->wpAny P md ops Q' m listed a w
 |0,_,_,_,_,_,b,h=>⟨by simpa[Region.seqB]using b,h⟩
 |m+1,k,listed,a,w,p,b,h=>by
  simp only[Region.seqB,Qag,Qar]at b;refine⟨λg=>(by rw[b.1]at g;cases g),λi e =>?_⟩;rw[b.1]at e;have d:i=k:=by simpa using e
  subst d;simp only[List.range'_succ]at h
  have l:wpOp P ops Q' i (wpOps P ops Q' (List.range' (i+1) m)) a w:=by
   unfold wpOp;simp only[wpOps]at h;exact h
  exact wpOp_mono (λo j n=>zs6 m (i+1) _ o j (by omega) b.2 n) l
def z03r{id:Nat}{σ τ σ':St}{Q:kze->St->Prop}(n:Nat)(J:P.follows .mixedOrders=true)(A:Region.lexTailB .any ops n=true)
  (l:List V) {rest:List V}{cl:List Claim}(h:zn4 P ops (ops.toList.take n) l σ=some (τ,rest,cl)) (K:∀c∈cl,c.ok P)
  (e:List (V×Option Heap)) {b:List (V×Option Heap)}{i:List Claim}(O:y2f P ops (ops.toList.drop n) e τ=some (σ',b,i)) (u:∀c∈i,c.ok P) (L:Q .normal σ') :
  Sat P (.region id ops true) σ Q:=λW0 g0 H0 W a g _ p q=>by
 simp only[Region.lexTailB,Qag,Qar]at A;have⟨⟨⟨⟨B,I⟩,G⟩,s⟩,o⟩:=A;have x:=q.drawn (W.drawn+1);have w:σ.e0=H0.E∧Step W0 g0 H0 {W with drawn:=W.drawn+1} g σ.H:=⟨p.1,p.2.trans (Grow.drawn W _).step⟩;have d:(ops.toList.take n).length=n:=by simp;omega
 have m:HeadInv .any ops n (Array.replicate ops.size false) :=
  ⟨by simp,λj U _ y=>(by rw[getD_replicate_false]at y;cases y),λt _ F=>getD_in (by simpa using F) (getD_replicate_false _ _)⟩
 have H:=yn2 (P:=P) (md:=.any) (k0:=ops.size-n) (R:=λυ=>υ=τ) G s I (ops.toList.take n) 0 _ σ τ l rest cl (λj z=>by
  have r:j<n:=by rw[d]at z;exact z
  simp[r]) (by simpa using d) m (by rw[d];exact o) h K rfl
 refine zjq zwo J ?_
 have:=zuw (P:=P) (Q':=yjl W0 g0 H0 Q) (k:=ops.size-n) (λlisted W a g υ M p q=>by
  have⟨T,N⟩:=M;subst N;refine zs6 (ops.size-n) n listed a W (by omega) T ?_;have:=zv9 (P:=P) (ops:=ops) (Q:=yjl W0 g0 H0 Q) (W0:=W0) (g0:=g0) (H0:=H0) (ops.toList.drop n) n e b υ σ' i W a g (λj=>by simp[Qbf]) O u q p (λW' X g' D C=>⟨g',σ',.normal,.normal,D,C,L⟩)
  simpa using this) _ _ σ _ a g H w x
 rw[d,show n+(ops.size-n)=ops.size by omega]at this;exact this
def yhz{id:Nat}{σ τ:St}{Q:kze->St->Prop}(n:Nat)(C:P.follows .mixedOrders=true)(x:Region.lexTailB .any ops n=true)
  (d:List V) {rest:List V}{cl:List Claim}(h:zn4 P ops (ops.toList.take n) d σ=some (τ,rest,cl)) (D:∀c∈cl,c.ok P)
  (F:∀W0 g0 H0 W a g,Base W0 g0 H0->(τ.e0=H0.E∧Step W0 g0 H0 W g τ.H)->kzu W a g τ->wpOps P ops (yjl W0 g0 H0 Q) (List.range' n (ops.size-n)) a W) :
  Sat P (.region id ops true) σ Q:=λW0 g0 H0 W a g s l m=>by
 simp only[Region.lexTailB,Qag,Qar]at x;have⟨⟨⟨⟨y,B⟩,A⟩,p⟩,i⟩:=x;have r:=m.drawn (W.drawn+1);have q:σ.e0=H0.E∧Step W0 g0 H0 {W with drawn:=W.drawn+1} g σ.H:=⟨l.1,l.2.trans (Grow.drawn W _).step⟩;have b:(ops.toList.take n).length=n:=by simp;omega
 have e:HeadInv .any ops n (Array.replicate ops.size false) :=
  ⟨by simp,λj K _ u=>(by rw[getD_replicate_false]at u;cases u),λt _ z=>getD_in (by simpa using z) (getD_replicate_false _ _)⟩
 have H:=yn2 (P:=P) (md:=.any) (k0:=ops.size-n) (R:=λυ=>υ=τ) A p B (ops.toList.take n) 0 _ σ τ d rest cl (λj w=>by
  have o:j<n:=by rw[b]at w;exact w
  simp[o]) (by simpa using b) e (by rw[b];exact i) h D rfl
 refine zjq zwo C ?_
 have:=zuw (P:=P) (Q':=yjl W0 g0 H0 Q) (k:=ops.size-n) (λlisted W a g υ G l m=>by
  have⟨J,I⟩:=G;subst I;refine zs6 (ops.size-n) n listed a W (by omega) J ?_
  exact F W0 g0 H0 W a g s l m) _ _ σ _ a g H q r
 rw[b,show n+(ops.size-n)=ops.size by omega]at this;exact this
def z03x{id:Nat}{σ:St}{Q:kze->St->Prop}(b:P.follows .mixedOrders=true)(g:Region.lexB .any ops=true)(a:List V){r:St×List V×List Claim}(h:zn4 P ops ops.toList a σ=some r)(d:∀c∈r.2.2,c.ok P)(e:Q .normal r.1) :
 Sat P (.region id ops true) σ Q:=z02o b g a (σ':=r.1) (rest:=r.2.1) (cl:=r.2.2) h d e
end
mutual
def zm8{H:Type}:DataW H->Nat
 |.lit (.string bytes)=>bytes.length+1
 |.lit _=>1
 |.nil=>1
 |.ptr d=>zm8 d+1
 |.slice elems spare=>zi1 elems+zi1 spare+1
 |.agg parts=>zi1 parts+1
 |.iface _ d=>zm8 d+1
 |.map entries=>zpb entries+1
 |.held _=>1
def zi1{H:Type}:List (DataW H)->Nat
 |[]=>0
 |d::r=>zm8 d+zi1 r
def zpb{H:Type}:List (Lit×DataW H)->Nat
 |[]=>0
 |x::r=>y63 x+zpb r
def y63{H:Type}:Lit×DataW H->Nat
 |(.string bytes,d)=>bytes.length+zm8 d+1
 |(_,d)=>zm8 d+1
end
def g0:Gh:=⟨λ_ _=>False,λ_ _=>0,λ_ _=>0,λ_ _=>0⟩
def H0:Heap:=⟨0,[],λ_ _=>none⟩
def get0(l i:Nat):H0.get l i=none:=by unfold Heap.get H0;split <;> simp
def own0(g:Gh)(b:Nat):¬Own g H0 b:=λ⟨l,i,o,h,_⟩=>by rw[get0]at h;cases h
def z05c(W:World)(a:zno W g0 H0):Good W g0 H0 where
 dom l i o h:=by rw[get0]at h;cases h
 lt l i o h:=by rw[get0]at h;cases h
 inj l i o b d o' h:=by rw[get0]at h;cases h
 fresh l i h:=h.elim
 obj l i o h:=by rw[get0]at h;cases h
 y3r:=a
def ykj(cs:List V):(V.agg cs).cells=cs:=rfl
structure Ty(α:Type) where
 el:α->V
 len:Nat
 size:α->Nat
 wf:α->Prop
 hlen:∀x,(el x).cells.length=len
def RelC(W:World)(cs:List Value)(o:Nat)(vs:List V):Prop:=∀(j:Nat) (v:V),vs[j]? = some v->∃c,cs[o+j]? = some c∧c.oneCell'=true∧Rel W g0 H0 v c
structure Reads(P:Program)(n t:Nat){α:Type}(T:Ty α):Prop where
 get:∀{H:Type}(enc:TypeId×Value->H) (W:World) (cs:List Value) (d:DataW H) (ps:List MemPlace),DataW.trod enc P W 0 (λ_=>true) true n t cs=some (d,ps) ->
  ∃x,cs.length=T.len∧RelC W cs 0 (T.el x).cells∧T.wf x∧T.size x<=zm8 d
def Ty.int(k:IntKind):Ty Int:=⟨λn=>.int k n,1,λ_=>1,λn=>k.min<=n∧n<=k.max,λ_=>rfl⟩
def Ty.bool:Ty Bool:=⟨λn=>.bool n,1,λ_=>1,λ_=>True,λ_=>rfl⟩
def Ty.str:Ty B8:=⟨λn=>.str n,1,λs=>s.length+1,λ_=>True,λ_=>rfl⟩
def Ty.slice{α:Type}(T:Ty α):Ty (List α):=⟨λxs=>.sl T.len (xs.map T.el) false,1,λxs=>(xs.map T.size).sum+1,λxs=>∀x∈xs,T.wf x,λ_=>rfl⟩
variable {P:Program}
def zxm{W:World}{c:Value}{v:V}(d:c.oneCell'=true)(h:Rel W g0 H0 v c)(b:v.cells=[v]):RelC W [c] 0 v.cells:=λj u a=>by
 rw[b]at a
 cases j with
 |zero=>simp at a;subst a;exact⟨c,rfl,d,h⟩
 |succ j=>simp at a
def zgv{t:Nat}{k:IntKind}(e:P.underlying t=some (.int k))(n:Nat):Reads P n t (.int k):=.mk λenc W cs d i h=>by
 obtain⟨m,rfl,a,b⟩:=DataW.trod_int e h;injection a with g j;subst g;exact⟨m,rfl,zxm rfl (.int _ _) rfl,by simpa[Ty.int,Lit.wf]using b,by simp[Ty.int,zm8]⟩
def yu0{t:Nat}(b:P.underlying t=some .bool)(n:Nat):Reads P n t .bool:=.mk λenc W cs d g h=>by
 obtain⟨m,rfl,a⟩:=DataW.trod_bool b h;injection a with e i;subst e;exact⟨m,rfl,zxm rfl (.bool _) rfl,trivial,by simp[Ty.bool,zm8]⟩
def zis{t:Nat}(b:P.underlying t=some .string)(n:Nat):Reads P n t .str:=.mk λenc W cs d g h=>by
 obtain⟨s,rfl,a,i⟩:=DataW.trod_string b h;injection a with e j;subst e;exact⟨s.data.toList,rfl,zxm rfl (.str _) rfl,trivial,by simp[Ty.str,zm8]⟩
def yk5{W:World}{a:Addr}{n:Nat}{cs:List Value}(h:W.cells? 0 a n=some cs):cs.length=n∧∀i,i<n->W.cell? (a.add i)=cs[i]? := by
 unfold World.cells? at h;rw[Qbx (Qbv _)]at h;exact⟨by simpa using mapM_some_length h,λi b=>mapM_some_get h i i (by simp[b])⟩
def yqi{α:Type}{n:Nat}{p:Nat->α->Prop}(h:∀i,i<n->∃x,p i x):∃xs:List α,xs.length=n∧∀i x,xs[i]? = some x->p i x:=by
 induction n with
 |zero=>exact⟨[],rfl,by simp⟩
 |succ n d=>
  have⟨xs,b,j⟩:=d λi k=>h i (by omega)
  have⟨x,g⟩:=h n (by omega);refine⟨xs++[x],by simp[b],λi y a =>?_⟩;rw[Qbe]at a;split at a
  ·exact j i y a
  ·have:=(Qaa.1 a).1;simp at this;have e:i=n:=by omega
   subst e;rw[b]at a;simp at a;subst a;exact g
def y8i{H:Type}{α:Type}(f:α->Nat):∀(xs:List α) (a:List (DataW H)),xs.length=a.length->(∀(i:Nat) (x:α) (d:DataW H),xs[i]? = some x->a[i]? = some d->f x<=zm8 d)->(xs.map f).sum<=zi1 a
 |[],a,_,_=>by simp
 |x::xs,[],h,_=>by simp at h
 |x::xs,d::a,h,b=>by
  have g:=b 0 x d rfl rfl;have e:=y8i f xs a (by simpa using h) λi x d g e=>b (i+1) x d (by simpa using g) (by simpa using e)
  simp only[List.map_cons,List.sum_cons,zi1];omega
def za5{t e:Nat}(o:P.underlying t=some (.slice e)){α:Type}{T:Ty α}(hc:P.cellsOf e=T.len)(Q:0<T.len){n:Nat}(he:∀m,m<n->Reads P m e T):Reads P n t T.slice:=.mk λenc W cs d ps h=>by
 rcases DataW.trod_slice o h with ⟨rfl,q⟩|⟨a,len,E,elems,rest,m,rfl,rfl,q,_,U,h2,h3,J,h5,_⟩
 ·injection q with U h2;subst U;refine⟨[],rfl,zxm rfl (.slnil _ _) rfl,by simp[Ty.slice],by simp[Ty.slice,zm8]⟩
 ·injection q with M h7;subst M;rw[hc]at J
  have L:∀i,i<len->∃x:α,(∀j v,(T.el x).cells[j]? = some v->∃c,W.cell? (a.add (i * T.len+j))=some c∧c.oneCell'=true∧Rel W g0 H0 v c)∧T.wf x∧(∀d,elems[i]? = some d->T.size x<=zm8 d.1)∧a.spot=none:=λi I=>by
   have R:=J i I;have A:i<elems.length:=by omega
   rw[Qab A,Qce]at R;have⟨O,q1,q2⟩:=R;have⟨k1,k2⟩:=yk5 q1;have⟨x,x1,x2,x3,Z⟩:=(he m (by omega)).get enc W O _ _ q2;refine⟨x,λj v g =>?_,x3,λd s=>by rw[Qab A]at s;cases s;exact Z,?_⟩
   ·have⟨c,l,z,w⟩:=x2 j v g;rw[Nat.zero_add]at l;refine⟨c,?_,z,w⟩;have h8:=(Qaa.1 l).1;rw[<-l,<-k2 j (by omega)];unfold Addr.add;split
    ·rename_i u;have:i * T.len=0:=by omega
     have:j=0:=by omega
     simp[*]
    ·by_cases B:j=0
     ·subst B;rw[Qbx rfl,Qby (by omega)];simp
     ·rw[Qby B];by_cases C:i * T.len=0
      ·simp[C]
      ·rw[Qby C];simp[Nat.add_assoc]
   ·have u:=J 0 (by omega);rw[Qab (show 0<elems.length by omega),Qce]at u;have⟨D,Y,_⟩:=u;have X:=(yk5 Y);have p:=X.2 0 Q;have:D[0]? = some (D[0]'(by omega)):=Qab _;rw[this]at p;simp only[Nat.zero_mul,Addr.add,if_true]at p;unfold World.cell? at p;split at p
    ·split at p
     ·cases p
     ·rename_i r;simpa using r
    ·cases p
  have⟨xs,hl,b⟩:=yqi L;refine⟨xs,rfl,?_,λx q =>?_,?_⟩
  ·refine zxm rfl ?_ rfl;show Rel W g0 H0 (.sl T.len (xs.map T.el) false) _;by_cases u:len=0
   ·have:xs=[]:=Qao (by omega);subst this;subst u;exact .sle _ _ a E (by simp)
   ·have r:a.spot=none:=(b 0 (xs[0]'(by omega)) (Qab _)).2.2.2
    have F:∀k,a.add k=⟨a.block,a.off+k,none⟩:=λk=>by
     unfold Addr.add;split
     ·rename_i hk;subst hk;cases a;simp at r;subst r;rfl
     ·rfl
    have ha:a=⟨a.block,a.off,none⟩:=by cases a;simp at r;subst r;rfl
    have N:len=(xs.map T.el).length:=by simp[hl]
    have K:∀(j:Nat) (x:V) (t:Nat) (v:V),(xs.map T.el)[j]? = some x->x.cells[t]? = some v->∃c,W.cell? ⟨a.block,a.off+j * T.len+t,none⟩=some c∧c.oneCell'=true∧Rel W g0 H0 v c:=λj x t v g o=>by
     rw[Qan,Qaf]at g;obtain⟨y,G,rfl⟩:=g;have⟨c,l,z,w⟩:=(b j y G).1 t v o;rw[F]at l;exact⟨c,by rw[Nat.add_assoc];exact l,z,w⟩
    rw[ha,N];refine .sl T.len (xs.map T.el) false a.block a.off E (λj t=>(W.cell? ⟨a.block,a.off+j * T.len+t,none⟩).getD undef) (own0 _ _) Q (by omega) (by simp) (λj x g =>?_) (λj x t v g o =>?_) (λj x t v g o =>?_) (λj x t v g o =>?_)
    ·rw[Qan,Qaf]at g;obtain⟨y,G,rfl⟩:=g;exact T.hlen y
    ·have⟨c,l,_,_⟩:=K j x t v g o;rw[l];rfl
    ·have⟨c,l,z,_⟩:=K j x t v g o;rw[l];exact z
    ·have⟨c,l,_,w⟩:=K j x t v g o;rw[l];exact w
  ·have⟨i,I⟩:=List.mem_iff_getElem?.1 q;exact(b i x I).2.1
  ·have:=y8i T.size xs (elems.map (·.1)) (by simp;omega) λi x d q s=>by
    rw[Qan,Qaf]at s;obtain⟨y,G,rfl⟩:=s;exact(b i x q).2.2.1 y G
   simp only[Ty.slice,zm8];omega
structure yms(P:Program)(n:Nat)(fs:List Field)(o:Nat){α:Type}(T:Ty α):Prop where
 get:∀{H:Type}(enc:TypeId×Value->H) (W:World) (cs:List Value) (xs:List (DataW H×List MemPlace)),xs.length=fs.length ->
  (∀(i:Nat) (f:Field),fs[i]? = some f->DataW.trod enc P W 0 (λ_=>true) true n f.type ((cs.drop f.offset).take (P.cellsOf f.type))=xs[i]?) ->
  ∃x,RelC W cs o (T.el x).cells∧T.wf x∧T.size x<=zi1 (xs.map (·.1))
def Ty.unit:Ty Unit:=⟨λ_=>.agg [],0,λ_=>0,λ_=>True,λ_=>rfl⟩
def Ty.pair{α β:Type}(A:Ty α)(B:Ty β):Ty (α×β):=⟨λx=>.agg ((A.el x.1).cells++(B.el x.2).cells),A.len+B.len,λx=>A.size x.1+B.size x.2,λx=>A.wf x.1∧B.wf x.2,λx=>by rw[ykj,Qap,A.hlen,B.hlen]⟩
def Ty.struct{α:Type}(A:Ty α):Ty α:=⟨λx=>.agg (A.el x).cells,A.len,λx=>A.size x+1,A.wf,λx=>by rw[ykj,A.hlen]⟩
def zdn{n o:Nat}:yms P n [] o .unit:=.mk λenc W cs xs h _=>by
 have:xs=[]:=Qao (by simpa using h);subst this;exact⟨(),λj v a=>by simp[Ty.unit,V.cells]at a,trivial,by simp[Ty.unit]⟩
def yze{n o:Nat}{f:Field}{m:List Field}{α β:Type}{A:Ty α}{B:Ty β}(u:f.offset=o)(_hk:P.cellsOf f.type=A.len)(D:Reads P n f.type A)(C:yms P n m (o+A.len) B):yms P n (f::m) o (.pair A B):=.mk λenc W cs xs h l=>by
 obtain⟨y,b,rfl⟩:∃y b,xs=y::b:=by
  cases xs with
  |nil=>simp at h
  |cons y b=>exact⟨y,b,rfl⟩
 have⟨x,I,s,r,G⟩:=D.get enc W _ _ _ (l 0 f rfl);have⟨z,q,p,F⟩:=C.get enc W cs b (by simpa using h) λi f w=>by have:=l (i+1) f (by simpa using w);simpa using this
 refine⟨(x,z),λj v d =>?_,⟨r,p⟩,by simp only[Ty.pair,List.map_cons,zi1];omega⟩;rw[show((Ty.pair A B).el (x,z)).cells=(A.el x).cells++(B.el z).cells from rfl,Qbe]at d;split at d
 ·rename_i E;have⟨c,a,g,e⟩:=s j v d;refine⟨c,?_,g,e⟩;rw[Nat.zero_add,Qaw]at a;split at a
  ·rw[Qbf,u]at a;exact a
  ·cases a
 ·rename_i k;have⟨c,a,g,e⟩:=q _ v d;refine⟨c,?_,g,e⟩;rw[A.hlen]at k a;rw[<-a];congr 1;omega
def z9w{t:Nat}{b:Array Field}(k:P.underlying t=some (.struct b)){α:Type}{A:Ty α}(l:P.cellsOf t=A.len){n:Nat}(h:∀m,m<n->yms P m b.toList 0 A):Reads P n t A.struct:=.mk λenc W cs d y p=>by
 obtain⟨xs,m,rfl,j,s,r,q⟩:=DataW.trod_struct k p;injection j with a u;subst a;have⟨x,g,e,w⟩:=(h m (by omega)).get enc W cs xs (by simpa using r) λi f o=>q i f (by simpa using o)
 exact⟨x,by rw[s,l];rfl,g,e,by simp only[Ty.struct,zm8];omega⟩
def Reads.conv{n t:Nat}{α β:Type}{A:Ty α}{B:Ty β}(h:Reads P n t A)(g:α->β)(a:∀x,B.el (g x)=A.el x)(o:B.len=A.len)(l:∀x,A.wf x->B.wf (g x))(m:∀x,B.size (g x)<=A.size x):Reads P n t B:=.mk λenc W cs d k p=>by
 have⟨x,j,i,e,b⟩:=h.get enc W cs d k p;exact⟨g x,by rw[j,o],by rw[a];exact i,l x e,Qbk (m x) b⟩
structure yp6(P:Program)(t:Nat){α:Type}(T:Ty α):Prop where
 get:∀{H:Type}(enc:TypeId×Value->H) (W:World) (base:Nat) (v:Value) (d:DataW H) (ps:List MemPlace),DataW.Trod enc P W 0 (λ_=>true) true t v d ps->Value.okWide P W .any base t v ->
  ∃x,Rel W g0 H0 (T.el x) v∧T.wf x∧T.size x<=zm8 d
def z05v{W:World}{r:Reach}{base t:Nat}{cs:Array Value}(h:Cell.okWide P W r base t (.agg cs)):False:=by
 unfold Cell.okWide at h;split at h <;> try (simp_all;done)
 unfold Cell.ok at h;split at h <;> simp_all
def yre{t:Nat}{α:Type}{T:Ty α}(h:∀n,Reads P n t T)(o:∀x,(T.el x).cells=[T.el x])(i:(match P.underlying t with|some (.struct _)|some (.array _ _)=>false|_=>true)=true):yp6 P t T:=.mk λenc W base v d m e b=>by
 have⟨fuel,e⟩:=e;have⟨x,q,l,k,j⟩:=(h fuel).get enc W _ d m e;refine⟨x,?_,k,j⟩
 have a:v.cells = #[v]:=by
  unfold Value.okWide at b;split at b
  ·simp_all
  ·simp_all
  ·cases v <;> first|rfl|exact(z05v b).elim
 have⟨c,g,r,p⟩:=l 0 (T.el x) (by rw[o];rfl);rw[a]at g;simp at g;subst g;exact p
def yuc{t:Nat}{s:Array Field}{α:Type}{T:Ty α}(q:P.underlying t=some (.struct s))(h:∀n,Reads P n t T)(r:∀x,T.el x = .agg (T.el x).cells):yp6 P t T:=.mk λenc W base v d p e b=>by
 have⟨fuel,e⟩:=e;have⟨x,o,m,l,k⟩:=(h fuel).get enc W _ d p e;refine⟨x,?_,l,k⟩;unfold Value.okWide at b;rw[q]at b;obtain⟨cs,rfl,y,_⟩:=b;rw[r];have g:cs.size=T.len:=by simpa[Value.cells]using o
 have get:∀j v,(T.el x).cells[j]? = some v->(cs.getD j undef).oneCell'=true∧Rel W g0 H0 v (cs.getD j undef):=λj v a=>by
  have⟨c,i,w,u⟩:=m j v a;simp only[Value.cells,Nat.zero_add,Qbh]at i;rw[Qae,i];exact⟨w,u⟩
 exact .agg _ _ (by rw[g,T.hlen]) (λj v a=>(get j v a).1) λj v a=>(get j v a).2
def z03l{fn:Func}{s:ChangeSpec}{W W':World}{args:Array Value}{H:Type}{enc:TypeId×Value->H}{a gs:List (DataW H)}{before:List MemPlace}{tb:Nat}{fresh handsOn:Bool}
  (I:laidOutB P=true) (r:s.vars=[]) (G:∀t∈fn.params.toList,P.readableRec t=true∧t<P.types.size) (n:fn.resultTypes = #[tb]) (m:P.underlying tb=some .bool)
  (j:(s.fn H a).results=[.lit (.bool true)]∧(s.fn H a).args=a∧(s.fn H a).vars=[]) (y:DataW.Whole enc P fn.params.toList s.vars false W args.toList a gs before) (u:RowKit.Below W.heap.size W W') :
  s.post enc P fn false fresh handsOn false W args (.bool true) W':=by
 have g:=y;obtain⟨p,q,K,z,rfl,M,L⟩:=y;rw[r]at z;obtain⟨rfl,rfl⟩:=ChangeShapes.trodVars_none z;have e:=g.lt;simp only[List.append_nil]at e
 have again:∀(ts:List Nat) (vs:List Value) (a:List (DataW H)) (p:List MemPlace),(∀t∈ts,P.readableRec t=true∧t<P.types.size)->(∀x∈p,x.block<W.heap.size)->DataW.TrodAll enc P W 0 (λ_=>true) true ts vs a p ->
   DataW.TrodAll enc P W' 0 (λb=>decide (b<W.heap.size)) true ts vs a p:=by
  intro ts
  induction ts with
  |nil=>intro vs a p _ _ h;obtain⟨rfl,rfl,rfl⟩:=ChangeShapes.trodAll_nil h;exact ChangeShapes.trodAll_mk0
  |cons t ts E=>
   intro vs a p k A h;obtain⟨v,l,d,o,N,B,rfl,rfl,rfl,D,C⟩:=ChangeShapes.trodAll_cons h;exact trodAll_cons_mk (RowKit.Below.trod I (k t (by simp)).1 (k t (by simp)).2 D u λx i=>A x (by simp[i])) (E l o B (λt F=>k t (by simp[F])) (λx i=>A x (by simp[i])) C)
 refine⟨a,[],p++[],[],p,[],g,?_,?_,?_,?_,λh=>by cases h⟩
 ·rw[List.append_nil,j.1,n]
  have J:∀b,DataW.TrodAll enc P W' b (λ_=>false) handsOn [tb] [.bool true] [.lit (.bool true)] []:=λb=>by
   have:=trodAll_cons_mk (P:=P) (enc:=enc) (w:=W') (base:=b) (spare:=λ_=>false) (held:=handsOn) (RowKit.shut_bool m true) ChangeShapes.trodAll_mk0;simpa using this
  exact J _
 ·rw[List.append_nil,j.2.1];exact again _ _ _ _ G e K
 ·rw[List.append_nil,j.2.2,r];rfl
 ·exact u.frame _
def y1j{W W':World}{g g':Gh}{H':Heap}(h:Step W g H0 W' g' H'):RowKit.Below W.heap.size W W' :=
 ⟨h.os,h.tape,h.output,h.size,λk a=>h.block k a (own0 _ _)⟩
def ymw{W:World}{g:Gh}{H:Heap}{vs:List V}{cs:List Value}(h:cs.length=vs.length)(b:∀(j:Nat) (v:V),vs[j]? = some v->∃c,cs[j]? = some c∧Rel W g H v c):zlt W g H vs cs.toArray :=
 ⟨by simpa using h,λj v a=>by have⟨c,e,d⟩:=b j v a;rw[Qae];simpa[e]using d⟩
mutual
def V.ren(a n:Nat):V->V
 |.ptr l i b=>if l=a+1 then .ptr a (n+i) b else .ptr l i b
 |.ref cs b=>.ref (V.zy6 a n cs) b
 |.ap l i d e b=>if l=a+1 then .ap a (n+i) d e b else .ap l i d e b
 |.sl sz xs full=>.sl sz (V.zy6 a n xs) full
 |.hs l i d b m full=>if l=a+1 then .hs a (n+i) d b m full else .hs l i d b m full
 |.map l i=>if l=a+1 then .map a (n+i)else .map l i
 |.fn f x y=>.fn f (V.zy6 a n x) (V.zy6 a n y)
 |.iface t v=>.iface t (V.ren a n v)
 |.agg cs=>.agg (V.zy6 a n cs)
 |.tup vs=>.tup (V.zy6 a n vs)
 |v=>v
def V.zy6(a n:Nat):List V->List V
 |[]=>[]
 |v::vs=>V.ren a n v::V.zy6 a n vs
end
def yz5.ren(a n:Nat):yz5->yz5
 |.cells cs=>.cells (V.zy6 a n cs)
 |.arr d ty sz xs g=>.arr d ty sz (V.zy6 a n xs) g
 |.map es=>.map (es.map λp=>(V.ren a n p.1,V.ren a n p.2))
 |.siter s e=>.siter s e
 |.mit es b=>.mit es b
section
variable {P:Program}
structure BackX(H H':Heap)(σ:St)(v r:V):Prop where
 res:r=V.ren H.lv H.L.length v
 lv:H'.lv=H.lv
 len:H'.L.length=H.L.length+σ.H.L.length
 old:∀l i,(l<H.lv∨(l=H.lv∧i<H.L.length))->∀o',H'.get l i=some o'->∃o,σ.H.E l i=some o∧(o'=yz5.ren H.lv H.L.length o∨(o'=o∧H.get l i=some o))
 new:∀i o',H'.get H.lv (H.L.length+i)=some o'->∃o,σ.H.get (H.lv+1) i=some o∧o'=yz5.ren H.lv H.L.length o
 high:∀l i,H.lv<l->H'.E l i=H.E l i
end
end Go.Ab
namespace Go.Ab
open Go
section
variable {P:Program}
structure zi8 where
 ty:Nat
 sz:Nat
 v:V
 xs:List V
 w:Bool
def yyw(lv:Nat)(L:List (Option yz5))(k:Option Nat)(a:zi8):Prop :=
 match k with
 |none=>(a.v = .nils∧a.xs=[])∨(a.v = .sl a.sz a.xs true∧(a.w=true->a.xs=[]))
 |some i=>∃b d,a.v = .hs lv i b 0 a.xs.length false∧L[i]? = some (some (.arr b a.ty a.sz a.xs d))
def zl3(lv:Nat)(L:List (Option yz5))(d:List zi8)(e:List (Nat×yz5)):Prop :=
 ∃b:List (Option Nat),b.length=d.length∧(∀(j:Nat) (k:Option Nat) (a:zi8),b[j]? = some k->d[j]? = some a->yyw lv L k a) ∧
  (∀(i j:Nat) (n:Nat),b[i]? = some (some n)->b[j]? = some (some n)->i=j)∧(∀p∈e,L[p.1]? = some (some p.2)∧∀j:Nat,b[j]? ≠ some (some p.1))
def yyw.lt{lv:Nat}{L:List (Option yz5)}{i:Nat}{a:zi8}(h:yyw lv L (some i) a):i<L.length:=by
 have⟨b,d,_,h⟩:=h;exact(Qaa.1 h).1
def zl3.nil(lv:Nat)(L:List (Option yz5)):zl3 lv L [] []:=⟨[],rfl,by simp,by simp,by simp⟩
def zl3.cons{lv:Nat}{L:List (Option yz5)}{q:List zi8}{g:List (Nat×yz5)}(h:zl3 lv L q g)(ty sz:Nat)(w:Bool):zl3 lv L (⟨ty,sz,.nils,[],w⟩::q) g:=by
 have⟨r,x,u,s,o⟩:=h;refine⟨none::r,by simp[x],λj k a d e =>?_,λi j n m b =>?_,λp l=>⟨(o p l).1,λj b =>?_⟩⟩
 ·cases j with
  |zero=>simp at d e;subst d;subst e;exact .inl ⟨rfl,rfl⟩
  |succ j=>exact u j k a (by simpa using d) (by simpa using e)
 ·cases i with
  |zero=>simp at m
  |succ i=>cases j with
   |zero=>simp at b
   |succ j=>rw[s i j n (by simpa using m) (by simpa using b)]
 ·cases j with
  |zero=>simp at b
  |succ j=>exact(o p l).2 j (by simpa using b)
def zl3.grow{lv:Nat}{L:List (Option yz5)}{m:List zi8}{l:List (Nat×yz5)}(h:zl3 lv L m l)(x:Option yz5):zl3 lv (L++[x]) m l:=by
 have⟨o,w,u,s,d⟩:=h;refine⟨o,w,λj k a q r =>?_,s,λp b=>⟨?_,(d p b).2⟩⟩
 ·have:=u j k a q r
  cases k with
  |none=>exact this
  |some i=>have⟨e,y,n,g⟩:=this;exact⟨e,y,n,by rw[Qal (Qaa.1 g).1];exact g⟩
 ·rw[Qal (Qaa.1 (d p b).1).1];exact(d p b).1
def zl3.obj{lv:Nat}{L:List (Option yz5)}{b:List zi8}{m:List (Nat×yz5)}(h:zl3 lv L b m)(o:yz5):zl3 lv (L++[some o]) b ((L.length,o)::m):=by
 have⟨s,x,q,w,e⟩:=h;refine⟨s,x,λj k a u d =>?_,w,λp hp =>?_⟩
 ·have:=q j k a u d
  cases k with
  |none=>exact this
  |some i=>have⟨g,y,r,l⟩:=this;exact⟨g,y,r,by rw[Qal (Qaa.1 l).1];exact l⟩
 ·rcases Qbl.1 hp with rfl|hp
  ·refine⟨by simp,λj n =>?_⟩;have z:=(Qaa.1 n).1;have d:b[j]? = some (b[j]'(by omega)):=Qab _;have:=(q j _ _ n d).lt;simp at this
  ·exact⟨by rw[Qal (Qaa.1 (e p hp).1).1];exact(e p hp).1,(e p hp).2⟩
def zl3.get{lv:Nat}{L:List (Option yz5)}{e:List zi8}{a:List (Nat×yz5)}(h:zl3 lv L e a){i:Nat}{o:yz5}(b:(i,o)∈a):L[i]? = some (some o):=by
 have⟨g,l,k,j,d⟩:=h;exact(d _ b).1
def zl3.sub{lv:Nat}{L:List (Option yz5)}{d:List zi8}{b a:List (Nat×yz5)}(h:zl3 lv L d b)(g:∀p∈a,p∈b):zl3 lv L d a:=by
 have⟨e,m,l,k,j⟩:=h;exact⟨e,m,l,k,λp i=>j p (g p i)⟩
def zl3.setObj{lv:Nat}{L:List (Option yz5)}{u:List zi8}{e:List (Nat×yz5)}(h:zl3 lv L u e){i:Nat}{o:yz5}(r:(i,o)∈e)(o':yz5):zl3 lv (L.set i (some o')) u (e.map λp=>if p.1=i then (i,o')else p):=by
 have⟨y,E,D,C,d⟩:=h;have A:=(Qaa.1 (d _ r).1).1;refine⟨y,E,λj k a s B =>?_,C,λp m =>?_⟩
 ·have:=D j k a s B
  cases k with
  |none=>exact this
  |some n=>
   have⟨l,F,x,w⟩:=this;refine⟨l,F,x,?_⟩;have:n≠i:=λb=>(d _ r).2 j (by rw[s,b])
   rw[Qam (Ne.symm this)];exact w
 ·rw[Qbg]at m;obtain⟨q,g,rfl⟩:=m;split
  ·rename_i b;refine⟨by simp[A],λj z =>?_⟩;exact(d q g).2 j (by rw[z,b])
  ·rename_i b;exact⟨by rw[Qam (λh=>b h.symm)];exact(d q g).1,(d q g).2⟩
def zl3.push{lv:Nat}{L:List (Option yz5)}{F:List zi8}{os:List (Nat×yz5)}(h:zl3 lv L F os){j:Nat}{ty sz:Nat}{v:V}{xs:List V}{w:Bool}(hj:F[j]? = some ⟨ty,sz,v,xs,w⟩)(C:List V)(X:xs.length+C.length<=zin)(E:Nat->Nat->Option yz5) :
  ∃v' L',z4m ⟨lv,L,E⟩ ty sz v C=some (v',⟨lv,L',E⟩)∧zl3 lv L' (F.set j ⟨ty,sz,v',xs++C,w⟩) os:=by
 have⟨x,Q,D,I,s⟩:=h;have h6:=(Qaa.1 hj).1;have z:x[j]? = some (x[j]'(by omega)):=Qab _;generalize x[j]'(by omega)=k at z;have Z:=D j k _ z hj
 have m:∀(i:Nat) (a:zi8) (b:zi8),(F.set j b)[i]? = some a->(i=j∧a=b)∨(i≠j∧F[i]? = some a):=λi a b e=>by
  by_cases A:i=j
  ·subst A;rw[Qaq (by omega)]at e;injection e with e;exact .inl ⟨rfl,e.symm⟩
  ·rw[Qam (Ne.symm A)]at e;exact .inr ⟨A,e⟩
 cases k with
 |none=>
  cases C with
  |nil=>
   rcases Z with ⟨hv,G⟩|hv
   ·simp only at hv G;subst hv;subst G;refine⟨.nils,L,rfl,x,by simp[Q],λi k a d l =>?_,I,s⟩
    rcases m i a _ l with ⟨rfl,rfl⟩|⟨_,l⟩
    ·rw[z]at d;injection d with d;subst d;exact .inl ⟨rfl,rfl⟩
    ·exact D i k a d l
   ·have⟨hv,O⟩:=hv;simp only at hv O;subst hv;refine⟨.sl sz xs true,L,by simp[z4m],x,by simp[Q],λi k a d l =>?_,I,s⟩
    rcases m i a _ l with ⟨rfl,rfl⟩|⟨_,l⟩
    ·rw[z]at d;injection d with d;subst d;exact .inr ⟨by simp,by simpa using O⟩
    ·exact D i k a d l
  |cons y r=>
   have M:z4m ⟨lv,L,E⟩ ty sz v (y::r)=some (.hs lv L.length 0 0 (xs.length+(y::r).length) false,⟨lv,L++[some (.arr 0 ty sz (xs++y::r) none)],E⟩):=by
    rcases Z with ⟨hv,G⟩|hv
    ·simp only at hv G;subst hv;subst G;simp only[z4m,Heap.push];rw[Qbx (by simpa using X)];simp
    ·have⟨hv,O⟩:=hv;simp only at hv O;subst hv;simp only[z4m,Heap.push,if_true];rw[Qbx (by simpa using X)]
   refine⟨_,_,M,x.set j (some L.length),by simp[Q],λi k a d l =>?_,λi U n e g =>?_,λp u=>⟨?_,λi e =>?_⟩⟩
   ·rcases m i a _ l with ⟨rfl,rfl⟩|⟨q,l⟩
    ·rw[Qaq (by omega)]at d;injection d with d;subst d
     exact⟨0,none,by simp,by simp⟩
    ·rw[Qam (Ne.symm q)]at d;have:=D i k a d l
     cases k with
     |none=>exact this
     |some n=>have⟨o,cp,T,N⟩:=this;exact⟨o,cp,T,by rw[Qal (Qaa.1 N).1];exact N⟩
   ·have J:∀i n,i≠j->(x.set j (some L.length))[i]? = some (some n)->n<L.length:=λi n q e=>by
     rw[Qam (Ne.symm q)]at e;have hl:=(Qaa.1 e).1;exact(D i _ (F[i]'(by omega)) e (Qab _)).lt
    by_cases B:i=j <;> by_cases R:U=j
    ·rw[B,R]
    ·subst B;rw[Qaq (by omega)]at e;injection e with e;injection e with e
     have:=J U n R g;omega
    ·subst R;rw[Qaq (by omega)]at g;injection g with g;injection g with g
     have:=J i n B e;omega
    ·rw[Qam (Ne.symm B)]at e;rw[Qam (Ne.symm R)]at g;exact I i U n e g
   ·rw[Qal (Qaa.1 (s p u).1).1];exact(s p u).1
   ·have W:=(Qaa.1 (s p u).1).1;by_cases B:i=j
    ·subst B;rw[Qaq (by omega)]at e;injection e with e;injection e with e;omega
    ·rw[Qam (Ne.symm B)]at e;exact(s p u).2 i e
 |some n=>
  have⟨o,cp,hv,Y⟩:=Z;simp only at hv Y;subst hv;have hn:=(Qaa.1 Y).1;refine⟨.hs lv n (o+1) 0 (xs.length+C.length) false,L.set n (some (.arr (o+1) ty sz (xs++C) none)),?_,x,by simp[Q],λi k a d l =>?_,I,λp u=>⟨?_,(s p u).2⟩⟩
  ·simp only[z4m,Heap.get,Heap.set,if_true,Y,Option.join_some];rw[Qbx (by simpa using X)]
  ·rcases m i a _ l with ⟨rfl,rfl⟩|⟨q,l⟩
   ·rw[z]at d;injection d with d;subst d
    exact⟨o+1,none,by simp,by simp[hn]⟩
   ·have:=D i k a d l
    cases k with
    |none=>exact this
    |some n'=>
     have⟨K,h5,T,N⟩:=this;refine⟨K,h5,T,?_⟩;have:n'≠n:=λA=>q (I i j n (by rw[d,A]) z)
     rw[Qam (Ne.symm this)];exact N
  ·have W:=(Qaa.1 (s p u).1).1;have:p.1≠n:=λA=>(s p u).2 j (by rw[z,A])
   rw[Qam (Ne.symm this)];exact(s p u).1
def z4a{D:Nat->Nat->Prop}{α:Type}{f:α->V}{l:List α}(h:∀x∈l,V.kin D (f x)):V.zb1 D (l.map f) :=
 zf2 λv b=>by obtain⟨y,a,rfl⟩:=Qbg.1 b;exact h y a
end
section
variable {P:Program}
end
def ix{α:Type}(l:List α)(i:Int):Option α:=if 0<=i then l[i.toNat]? else none
def sub{α:Type}(l:List α)(a b:Int):Option (List α):=if 0<=a∧a<=b∧b<=l.length then some ((l.take b.toNat).drop a.toNat)else none
def cat(x y:B8):Option B8:=if x.length+y.length<=maxLen then some (x++y)else none
def ext{α:Type}(x y:List α):Option (List α):=if x.length+y.length<=zin then some (x++y)else none
def z6b{T:Type}(m:List (B8×T))(k:B8):Option T:=(m.find? λp=>k==p.1).map (·.2)
def z99{T:Type}(m:List (B8×T))(k:B8)(x:T):List (B8×T):=match m.findIdx? (λp=>k==p.1)with|none=>m++[(k,x)]|some j=>m.set j (k,x)
def quo(k:IntKind)(x y:Int):Option Int:=if y=0 then none else some (k.wrap (x.tdiv y))
def rem(k:IntKind)(x y:Int):Option Int:=if y=0 then none else some (x.tmod y)
def zld{α:Type}{l:List α}{i:Int}{x:α}(h:ix l i=some x):0<=i∧l[i.toNat]? = some x:=by
 unfold ix at h;split at h
 ·exact⟨‹_›,h⟩
 ·cases h
def yr2{α:Type}{l y:List α}{b a:Int}(h:sub l b a=some y):0<=b∧b<=a∧a<=l.length∧y=(l.take a.toNat).drop b.toNat∧0<=a∧b<=(a.toNat:Int):=by
 unfold sub at h;split at h
 ·rename_i q;injection h with h;exact⟨q.1,q.2.1,q.2.2,h.symm,by omega,by omega⟩
 ·cases h
def yyv{x y z:B8}(h:cat x y=some z):x.length+y.length<=maxLen∧z=x++y:=by
 unfold cat at h;split at h
 ·injection h with h;exact⟨‹_›,h.symm⟩
 ·cases h
def y5g{α:Type}{x y z:List α}(h:ext x y=some z):x.length+y.length<=zin∧z=x++y:=by
 unfold ext at h;split at h
 ·injection h with h;exact⟨‹_›,h.symm⟩
 ·cases h
def z01h{k:IntKind}{x y z:Int}(h:quo k x y=some z):y≠0∧z=k.wrap (x.tdiv y):=by
 unfold quo at h;split at h
 ·cases h
 ·injection h with h;exact⟨‹_›,h.symm⟩
def z03m{k:IntKind}{x y z:Int}(h:rem k x y=some z):y≠0∧z=x.tmod y:=by
 unfold rem at h;split at h
 ·cases h
 ·injection h with h;exact⟨‹_›,h.symm⟩
def zrf{α:Type}{o:Option α}{β:Type}{f:α->Option β}{r:β}(h:o.bind f=some r):∃x,o=some x∧f x=some r:=by
 cases o with
 |none=>cases h
 |some x=>exact⟨x,rfl,h⟩
def an:Nat->List V->List V
 |0,l=>l
 |n+1,l=>.any::an n l
structure zc3(lv:Nat)(L:List (Option yz5))(as:List zi8)(os:List (Nat×yz5)):Prop where
 accs:zl3 lv L as os
 nodup:(os.map (·.1)).Nodup
def zc3.nil(lv:Nat):zc3 lv [] [] []:=⟨zl3.nil _ _,by simp⟩
def zc3.get{lv:Nat}{L:List (Option yz5)}{d:List zi8}{a:List (Nat×yz5)}(h:zc3 lv L d a){k i:Nat}{o:yz5}(b:a[k]? = some (i,o)):L[i]? = some (some o) :=
 h.accs.get (Qax b)
def zc3.obj{lv:Nat}{L:List (Option yz5)}{b:List zi8}{a:List (Nat×yz5)}(h:zc3 lv L b a)(o:yz5):zc3 lv (L++[some o]) b ((L.length,o)::a):=by
 refine⟨h.accs.obj o,?_⟩;rw[List.map_cons,List.nodup_cons];refine⟨λe =>?_,h.nodup⟩;have⟨p,d,g⟩:=Qbg.1 e;have:=(Qaa.1 (h.accs.get (show(p.1,p.2)∈a from d))).1;omega
def zc3.upd{lv:Nat}{L:List (Option yz5)}{n:List zi8}{a:List (Nat×yz5)}(h:zc3 lv L n a){k i:Nat}{o:yz5}(b:a[k]? = some (i,o))(o':yz5):zc3 lv (L.set i (some o')) n (a.set k (i,o')):=by
 have r:=Qax b
 have e:a.map (λp=>if p.1=i then (i,o')else p)=a.set k (i,o'):=by
  apply List.ext_getElem?;intro j;rw[Qan,Qbi];by_cases d:k=j
  ·subst d;rw[Qbx rfl,b,Qbx (Qaa.1 b).1];simp
  ·rw[Qby d]
   cases q:a[j]? with
   |none=>rfl
   |some p=>
    simp only[Qbr];rw[Qby];intro s;have m:(a.map (·.1))[j]? = some i:=by rw[Qan,q];simp[s]
    have g:(a.map (·.1))[k]? = some i:=by rw[Qan,b];rfl
    have l:=(Qaa.1 m).1;exact d (((List.getElem?_inj l h.nodup).1 (m.trans g.symm)).symm)
 refine⟨?_,?_⟩
 ·rw[<-e];exact h.accs.setObj r o'
 ·have:(a.set k (i,o')).map (·.1)=a.map (·.1):=by
   rw[List.map_set];apply List.ext_getElem?;intro j;rw[Qbi];split
   ·rename_i d;subst d;have g:(a.map (·.1))[k]? = some i:=by rw[Qan,b];rfl
    rw[Qbx (Qaa.1 g).1,g]
   ·rfl
  rw[this];exact h.nodup
def zc3.pick{lv:Nat}{L:List (Option yz5)}{e:List zi8}{b a:List (Nat×yz5)}(h:zc3 lv L e b)(d:a.Sublist b):zc3 lv L e a :=
 ⟨h.accs.sub λp g=>d.subset g,h.nodup.sublist (d.map _)⟩
def zc3.cons{lv:Nat}{L:List (Option yz5)}{b:List zi8}{a:List (Nat×yz5)}(h:zc3 lv L b a)(ty sz:Nat)(w:Bool):zc3 lv L (⟨ty,sz,.nils,[],w⟩::b) a:=⟨h.accs.cons ty sz w,h.nodup⟩
def zc3.push{lv:Nat}{L:List (Option yz5)}{d:List zi8}{e:List (Nat×yz5)}(h:zc3 lv L d e){j:Nat}{ty sz:Nat}{v:V}{xs:List V}{w:Bool}(i:d[j]? = some ⟨ty,sz,v,xs,w⟩)(a:List V)(g:xs.length+a.length<=zin)(E:Nat->Nat->Option yz5) :
  ∃b L',z4m ⟨lv,L,E⟩ ty sz v a=some (b,⟨lv,L',E⟩)∧zc3 lv L' (d.set j ⟨ty,sz,b,xs++a,w⟩) e:=by
 have⟨b,L',l,k⟩:=h.accs.push i a g E;exact⟨b,L',l,k,h.nodup⟩
def zc3.form{lv:Nat}{L:List (Option yz5)}{l:List zi8}{p:List (Nat×yz5)}(h:zc3 lv L l p){j:Nat}{ty sz:Nat}{v:V}{xs:List V}{w:Bool}(g:l[j]? = some ⟨ty,sz,v,xs,w⟩) :
  (v = .nils∧xs=[])∨(v = .sl sz xs true∧(w=true->xs=[]))∨∃i a d,v = .hs lv i a 0 xs.length false∧L[i]? = some (some (.arr a ty sz xs d)):=by
 have⟨b,x,q,u,s⟩:=h.accs;have r:=(Qaa.1 g).1;have e:b[j]? = some (b[j]'(by omega)):=Qab _;generalize b[j]'(by omega)=k at e;have hA:=q j k _ e g
 cases k with
 |none=>rcases hA with hA|hA
        ·exact .inl hA
        ·exact .inr (.inl hA)
 |some n=>have⟨a,d,o,m⟩:=hA;exact .inr (.inr ⟨n,a,d,o,m⟩)
def zc3.len{P:Program}{lv:Nat}{L:List (Option yz5)}{b:List zi8}{d:List (Nat×yz5)}(h:zc3 lv L b d){j:Nat}{ty sz:Nat}{v:V}{xs:List V}{w:Bool}(g:b[j]? = some ⟨ty,sz,v,xs,w⟩){t e:Nat}(a:P.underlying t=some (.slice e))(E:Nat->Nat->Option yz5) :
  zrn P ⟨lv,L,E⟩ t v=some (.int .i64 xs.length):=by
 rcases h.form g with ⟨rfl,rfl⟩|⟨rfl,m⟩|⟨i,l,n,rfl,k⟩
 ·simp[zrn,a]
 ·simp[zrn,a]
 ·simp[zrn,a,Heap.get,k]
def zc3.whole{lv:Nat}{L:List (Option yz5)}{a:List zi8}{b:List (Nat×yz5)}(h:zc3 lv L a b){j:Nat}{ty sz:Nat}{v:V}{xs:List V}{w:Bool}(d:a[j]? = some ⟨ty,sz,v,xs,w⟩):v.kzl=true∧v.cells=[v]∧v.leaf=true:=by
 rcases h.form d with ⟨rfl,rfl⟩|⟨rfl,g⟩|⟨i,e,l,rfl,k⟩
 ·exact⟨rfl,rfl,rfl⟩
 ·exact⟨rfl,rfl,rfl⟩
 ·exact⟨rfl,rfl,rfl⟩
def zc3.at{P:Program}{lv:Nat}{L:List (Option yz5)}{y:List zi8}{z:List (Nat×yz5)}(h:zc3 lv L y z){j:Nat}{ty sz:Nat}{v:V}{xs:List V}{w:Bool}(A:y[j]? = some ⟨ty,sz,v,xs,w⟩){t e:Nat}(n:P.underlying t=some (.slice e))
  (m:sz=P.cellsOf e) (p:(P.underlying e).isSome=true) {i:Int}{x:V}(u:0<=i) (d:xs[i.toNat]? = some x) (E:Nat->Nat->Option yz5) :
  ∃q:Nat->V,kzs P ⟨lv,L,E⟩ t v (.int .i64 i)=some (q 0)∧(∀s f o a,zug P s f=some o->zbv P s f (q a)=some (q (a+o)))∧∀b a,ze4 P ⟨lv,L,E⟩ b (q a)=rd P b x.cells a:=by
 have B:=(Qaa.1 d).1
 rcases h.form A with ⟨rfl,rfl⟩|⟨rfl,C⟩|⟨k,l,D,rfl,r⟩
 ·simp at d
 ·exact⟨λo=>.ref x.cells o,by simp[kzs,n,u,m,p,d],λs f o a g=>by simp[zbv,g],λb a=>by simp[ze4]⟩
 ·refine⟨λo=>.ap lv k l i.toNat o,?_,λs f o a g=>by simp[zbv,g],λb a=>by simp[ze4,y1a,Heap.get,r,d]⟩;simp[kzs,n,u,m,p,Heap.get,r];omega
def zl3.setAt{lv:Nat}{L:List (Option yz5)}{D:List zi8}{G:List (Nat×yz5)}(h:zl3 lv L D G){j n b:Nat}{a:zi8}{C:Option Nat}(I:D[j]? = some a)(y:a.v = .hs lv n b 0 a.xs.length false)(O:L[n]? = some (some (.arr b a.ty a.sz a.xs C)))(U:a.xs≠[]){x:List V}(E:x.length=a.xs.length) :
  zl3 lv (L.set n (some (.arr b a.ty a.sz x C))) (D.set j ⟨a.ty,a.sz,a.v,x,a.w⟩) G:=by
 have⟨o,Q,K,J,B⟩:=h;have T:=(Qaa.1 I).1;have F:=(Qaa.1 O).1;have g:o[j]? = some (o[j]'(by omega)):=Qab _;generalize o[j]'(by omega)=k at g
 have A:o[j]? = some (some n):=by
  have r:=K j k _ g I
  cases k with
  |none=>rcases r with ⟨h,_⟩|⟨h,_⟩ <;> rw[y]at h <;> cases h
  |some m=>
   have⟨e,s,l,_⟩:=r
   rw[y]at l;injection l with _ l;subst l;exact g
 refine⟨o,by simp[Q],λi k R d u =>?_,J,λp z=>⟨?_,(B p z).2⟩⟩
 ·by_cases q:i=j
  ·subst q;rw[Qaq (by omega)]at u;cases u
   rw[A]at d;cases d
   exact⟨b,C,by rw[y,E],by rw[Qaq F]⟩
  ·rw[Qam (Ne.symm q)]at u;have r:=K i k R d u
   cases k with
   |none=>exact r
   |some m=>
    have⟨e,s,l,M⟩:=r;have:m≠n:=λN=>q (J i j n (by rw[d,N]) A)
    exact⟨e,s,l,by rw[Qam (Ne.symm this)];exact M⟩
 ·have:p.1≠n:=λq=>(B p z).2 j (by rw[A,q])
  rw[Qam (Ne.symm this)];exact(B p z).1
def zc3.put{P:Program}{lv:Nat}{L:List (Option yz5)}{n:List zi8}{u:List (Nat×yz5)}(h:zc3 lv L n u){j:Nat}{ty sz:Nat}{v:V}{xs:List V}(w:n[j]? = some ⟨ty,sz,v,xs,true⟩){t e:Nat}(F:P.underlying t=some (.slice e))
  (C:sz=P.cellsOf e) (J:(P.underlying e).isSome=true) {i:Int}{x:V}(K:0<=i) (d:xs[i.toNat]? = some x) (E:Nat->Nat->Option yz5) :
  ∃q:Nat->V,kzs P ⟨lv,L,E⟩ t v (.int .i64 i)=some (q 0)∧(∀s f o a,zug P s f=some o->zbv P s f (q a)=some (q (a+o)))∧(∀b a,ze4 P ⟨lv,L,E⟩ b (q a)=rd P b x.cells a) ∧
   ∀(b a:Nat) (y:V),y.kzl=true->(P.info? b).isSome=true->y.cells.length=P.cellsOf b->a+y.cells.length<=x.cells.length->fits x (z02 x.cells a y.cells)=true ->
    ∃L',zh5 P ⟨lv,L,E⟩ b (q a) y=some (.any,⟨lv,L',E⟩)∧zc3 lv L' (n.set j ⟨ty,sz,v,xs.set i.toNat (zb6 x (z02 x.cells a y.cells)),true⟩) u:=by
 have N:=(Qaa.1 d).1;have l:xs≠[]:=λG=>by subst G;simp at d
 rcases h.form w with ⟨rfl,rfl⟩|⟨rfl,D⟩|⟨k,g,M,rfl,m⟩
 ·simp at d
 ·exact(l (D rfl)).elim
 ·refine⟨λo=>.ap lv k g i.toNat o,?_,λs f o a I=>by simp[zbv,I],λb a=>by simp[ze4,y1a,Heap.get,m,d],λb a y B A r p z =>?_⟩
  ·simp[kzs,F,K,C,J,Heap.get,m];omega
  ·refine⟨L.set k (some (.arr g ty sz (xs.set i.toNat (zb6 x (z02 x.cells a y.cells))) M)),?_,h.accs.setAt w rfl m l (by simp),h.nodup⟩;simp[zh5,B,A,r,Heap.get,m,d,Heap.set];rw[r]at p;exact⟨p,z⟩
def zc3.arr{lv:Nat}{L:List (Option yz5)}{s:List zi8}{y:List (Nat×yz5)}(h:zc3 lv L s y)(e ty sz:Nat)(xs:List V)(C:Option Nat)(w:Bool) :
  zc3 lv (L++[some (.arr e ty sz xs C)]) (⟨ty,sz,.hs lv L.length e 0 xs.length false,xs,w⟩::s) y:=by
 have⟨⟨z,G,B,F,o⟩,E⟩:=h
 have j:∀(i n:Nat),z[i]? = some (some n)->n<L.length:=λi n b=>by
  have J:=(Qaa.1 b).1;exact(B i _ (s[i]'(by omega)) b (Qab _)).lt
 refine⟨⟨some L.length::z,by simp[G],λi k a q r =>?_,λi g n b d =>?_,λp m=>⟨?_,λi b =>?_⟩⟩,E⟩
 ·cases i with
  |zero=>simp at q r;subst q;subst r;exact⟨e,C,rfl,by simp⟩
  |succ i=>
   have A:=B i k a (by simpa using q) (by simpa using r)
   cases k with
   |none=>exact A
   |some n=>have⟨l,u,D,x⟩:=A;exact⟨l,u,D,by rw[Qal (Qaa.1 x).1];exact x⟩
 ·cases i with
  |zero=>cases g with
   |zero=>rfl
   |succ g=>simp at b;subst b;have:=j g _ (by simpa using d);omega
  |succ i=>cases g with
   |zero=>simp at d;subst d;have:=j i _ (by simpa using b);omega
   |succ g=>rw[F i g n (by simpa using b) (by simpa using d)]
 ·rw[Qal (Qaa.1 (o p m).1).1];exact(o p m).1
 ·have I:=(Qaa.1 (o p m).1).1
  cases i with
  |zero=>simp at b;omega
  |succ i=>exact(o p m).2 i (by simpa using b)
@[simp] def vc_any:V.cells V.any=[V.any]:=rfl
@[simp] def vl_any:V.leaf V.any=false:=rfl
@[simp] def vso_any:V.kzl V.any=false:=rfl
@[simp] def vc_bool (b:Bool):V.cells (V.bool b)=[(V.bool b)]:=rfl
@[simp] def vl_bool (b:Bool):V.leaf (V.bool b)=true:=rfl
@[simp] def vso_bool (b:Bool):V.kzl (V.bool b)=true:=rfl
@[simp] def vc_int (k:IntKind) (n:Int):V.cells (V.int k n)=[(V.int k n)]:=rfl
@[simp] def vl_int (k:IntKind) (n:Int):V.leaf (V.int k n)=true:=rfl
@[simp] def vso_int (k:IntKind) (n:Int):V.kzl (V.int k n)=true:=rfl
@[simp] def vc_str (s:B8):V.cells (V.str s)=[(V.str s)]:=rfl
@[simp] def vl_str (s:B8):V.leaf (V.str s)=true:=rfl
@[simp] def vso_str (s:B8):V.kzl (V.str s)=true:=rfl
@[simp] def vc_nilp:V.cells V.nilp=[V.nilp]:=rfl
@[simp] def vl_nilp:V.leaf V.nilp=true:=rfl
@[simp] def vso_nilp:V.kzl V.nilp=true:=rfl
@[simp] def vc_ptr (l i o:Nat):V.cells (V.ptr l i o)=[(V.ptr l i o)]:=rfl
@[simp] def vl_ptr (l i o:Nat):V.leaf (V.ptr l i o)=true:=rfl
@[simp] def vso_ptr (l i o:Nat):V.kzl (V.ptr l i o)=true:=rfl
@[simp] def vc_ref (cs:List V) (o:Nat):V.cells (V.ref cs o)=[(V.ref cs o)]:=rfl
@[simp] def vl_ref (cs:List V) (o:Nat):V.leaf (V.ref cs o)=true:=rfl
@[simp] def vso_ref (cs:List V) (o:Nat):V.kzl (V.ref cs o)=true:=rfl
@[simp] def vc_ap (l i v x o:Nat):V.cells (V.ap l i v x o)=[(V.ap l i v x o)]:=rfl
@[simp] def vl_ap (l i v x o:Nat):V.leaf (V.ap l i v x o)=true:=rfl
@[simp] def vso_ap (l i v x o:Nat):V.kzl (V.ap l i v x o)=true:=rfl
@[simp] def vc_nils:V.cells V.nils=[V.nils]:=rfl
@[simp] def vl_nils:V.leaf V.nils=true:=rfl
@[simp] def vso_nils:V.kzl V.nils=true:=rfl
@[simp] def vc_sl (z:Nat) (xs:List V) (f:Bool):V.cells (V.sl z xs f)=[(V.sl z xs f)]:=rfl
@[simp] def vl_sl (z:Nat) (xs:List V) (f:Bool):V.leaf (V.sl z xs f)=true:=rfl
@[simp] def vso_sl (z:Nat) (xs:List V) (f:Bool):V.kzl (V.sl z xs f)=true:=rfl
@[simp] def vc_hs (l i v o n:Nat) (f:Bool):V.cells (V.hs l i v o n f)=[(V.hs l i v o n f)]:=rfl
@[simp] def vl_hs (l i v o n:Nat) (f:Bool):V.leaf (V.hs l i v o n f)=true:=rfl
@[simp] def vso_hs (l i v o n:Nat) (f:Bool):V.kzl (V.hs l i v o n f)=true:=rfl
@[simp] def vc_mapn:V.cells V.mapn=[V.mapn]:=rfl
@[simp] def vl_mapn:V.leaf V.mapn=true:=rfl
@[simp] def vso_mapn:V.kzl V.mapn=true:=rfl
@[simp] def vc_map (l i:Nat):V.cells (V.map l i)=[(V.map l i)]:=rfl
@[simp] def vl_map (l i:Nat):V.leaf (V.map l i)=true:=rfl
@[simp] def vso_map (l i:Nat):V.kzl (V.map l i)=true:=rfl
@[simp] def vc_fn (f:Nat) (a b:List V):V.cells (V.fn f a b)=[(V.fn f a b)]:=rfl
@[simp] def vl_fn (f:Nat) (a b:List V):V.leaf (V.fn f a b)=true:=rfl
@[simp] def vso_fn (f:Nat) (a b:List V):V.kzl (V.fn f a b)=true:=rfl
@[simp] def vc_nilf:V.cells V.nilf=[V.nilf]:=rfl
@[simp] def vl_nilf:V.leaf V.nilf=true:=rfl
@[simp] def vso_nilf:V.kzl V.nilf=true:=rfl
@[simp] def vc_iface (t:Nat) (v:V):V.cells (V.iface t v)=[(V.iface t v)]:=rfl
@[simp] def vl_iface (t:Nat) (v:V):V.leaf (V.iface t v)=true:=rfl
@[simp] def z06g (t:Nat) (v:V):V.kzl (V.iface t v)=true:=rfl
@[simp] def vc_nili:V.cells V.nili=[V.nili]:=rfl
@[simp] def vl_nili:V.leaf V.nili=true:=rfl
@[simp] def vso_nili:V.kzl V.nili=true:=rfl
@[simp] def vc_agg (cs:List V):V.cells (V.agg cs)=cs:=rfl
@[simp] def vl_agg (cs:List V):V.leaf (V.agg cs)=false:=rfl
@[simp] def vso_agg (cs:List V):V.kzl (V.agg cs)=true:=rfl
@[simp] def vc_tup (vs:List V):V.cells (V.tup vs)=[(V.tup vs)]:=rfl
@[simp] def vl_tup (vs:List V):V.leaf (V.tup vs)=false:=rfl
@[simp] def vso_tup (vs:List V):V.kzl (V.tup vs)=false:=rfl
section
variable {P:Program}{H:Heap}
@[simp] def z06h (t:Nat) (cs:List V) (o:Nat):ze4 P H t (.ref cs o)=rd P t cs o:=rfl
@[simp] def ywv (t l i o:Nat):ze4 P H t (.ptr l i o)=match H.get l i with|some (.cells cs)=>rd P t cs o|_=>none:=rfl
@[simp] def ydw (t l i v x o:Nat):ze4 P H t (.ap l i v x o)=(y1a H l i v x).bind λp=>rd P t p.2 o:=rfl
@[simp] def z00m (t:Nat) (s:B8):zrn P H t (.str s)=match P.underlying t with|some .string=>some (.int .i64 s.length)|_=>none:=rfl
@[simp] def zyu (t:Nat):zrn P H t .nils=match P.underlying t with|some (.slice _)=>some (.int .i64 0)|_=>none:=rfl
@[simp] def ykz (t z:Nat) (xs:List V) (b:Bool):zrn P H t (.sl z xs b)=match P.underlying t with|some (.slice _)=>some (.int .i64 xs.length)|_=>none:=rfl
@[simp] def z06f (t:Nat):zrn P H t .mapn=match P.underlying t with|some (.map _ _)=>some (.int .i64 0)|_=>none:=rfl
@[simp] def z00h (t:Nat) (cs:List V):zrn P H t (.agg cs)=match P.underlying t with|some (.array n _)=>some (.int .i64 n)|_=>none:=rfl
@[simp] def y23 (t z:Nat) (xs:List V) (b:Bool) (k:IntKind) (n:Int):kzs P H t (.sl z xs b) (.int k n)=if 0<=n then match P.underlying t with
   |some (.slice e)=>if z=P.cellsOf e∧(P.underlying e).isSome then (xs[n.toNat]?).map λy=>.ref y.cells 0 else none
   |some (.array len e)=>if n<len∧(P.underlying e).isSome then none else none
   |_=>none else none:=by unfold kzs;rfl
end
section
variable {P:Program}
def zfh(P:Program)(ops:Array Oper)(k:Nat)(σ:St)(Q:kze->St->Prop):Prop :=
 ∀W0 g0 H0 W a g,Base W0 g0 H0->(σ.e0=H0.E∧Step W0 g0 H0 W g σ.H)->kzu W a g σ->wpOps P ops (yjl W0 g0 H0 Q) (List.range' k (ops.size-k)) a W
def z03a{ops:Array Oper}{k:Nat}{σ:St}{Q:kze->St->Prop}(e:ops.size<=k)(h:Q .normal σ):zfh P ops k σ Q:=λW0 g0 H0 W a g _ b d=>by
 rw[show ops.size-k=0 by omega];exact⟨g,σ,.normal,.normal,b,d,h⟩
def z004{id:Nat}{ops:Array Oper}{σ:St}{Q:kze->St->Prop}(h:zfh P ops 0 σ Q):Sat P (.region id ops false) σ Q:=λW0 g0 H0 W a g e b d=>by
 refine ysn zwo ?_;rw[List.range_eq_range'];have:=h W0 g0 H0 W a g e b d;simpa using this
def zyw{ops:Array Oper}{k:Nat}{σ:St}{Q:kze->St->Prop}(n:Nat)(b:List (V×Option Heap))(d:St)(cl:List Claim)(h:y2f P ops ((ops.toList.drop k).take n) b σ=some (d,[],cl))(q:∀c∈cl,c.ok P)(o:zfh P ops (k+n) d Q):zfh P ops k σ Q:=λW0 g0 H0 W a g u r s=>by
 have hlen:((ops.toList.drop k).take n).length=min n (ops.size-k):=by simp
 have l:List.range' k (ops.size-k)=List.range' k ((ops.toList.drop k).take n).length++List.range' (k+n) (ops.size-(k+n)):=by
  rw[hlen];by_cases m:n<=ops.size-k
  ·rw[Nat.min_eq_left m,show ops.size-k=n+(ops.size-(k+n)) by omega,<-List.range'_append];simp
  ·rw[Nat.min_eq_right (by omega),show ops.size-(k+n)=0 by omega];simp
 rw[l]
 exact y07 (P:=P) _ ((ops.toList.drop k).take n) k b [] σ d cl W a g (λj p=>by
  rw[Qaw,Qbx (by rw[hlen]at p;omega)];simp) h q s r (λW' w g' i e=>o W0 g0 H0 W' w g' u i e)
def z03o{id:Nat}{ops:Array Oper}{σ:St}{Q:kze->St->Prop}(d:P.follows .mixedOrders=true)(i:Region.lexB .any ops=true)(a:List V)(b:St)(cl:List Claim)(h:zn4 P ops ops.toList a σ=some (b,[],cl))(e:∀c∈cl,c.ok P)(g:Q .normal b) :
 Sat P (.region id ops true) σ Q:=z03x d i a h e g
def z016{id:Nat}{ops:Array Oper}{σ:St}{Q:kze->St->Prop}(n:Nat)(d:P.follows .mixedOrders=true)(i:Region.lexTailB .any ops n=true)
  (a:List V) (b:St) (cl:List Claim) (h:zn4 P ops (ops.toList.take n) a σ=some (b,[],cl)) (g:∀c∈cl,c.ok P) (e:zfh P ops n b Q):Sat P (.region id ops true) σ Q :=
 yhz n d i a h g e
inductive VSL (H:Heap) (D:Nat->Nat->Prop):List V->List V->Prop where
 |nil:VSL H D [] []
 |cons {v u:V} {vs us:List V}(h:VS H D v u) (r:VSL H D vs us):VSL H D (v::vs) (u::us)
def VSL.length{H:Heap}{D:Nat->Nat->Prop}{vs a:List V}(h:VSL H D vs a):vs.length=a.length:=by induction h <;> simp_all
def VSL.get{H:Heap}{D:Nat->Nat->Prop}{vs d:List V}(h:VSL H D vs d):∀(j:Nat) (v u:V),vs[j]? = some v->d[j]? = some u->VS H D v u:=by
 induction h with
 |nil=>intro j v u a;simp at a
 |cons h r e=>
  intro j v u a b
  cases j with
  |zero=>simp at a b;subst a;subst b;exact h
  |succ j=>exact e j v u (by simpa using a) (by simpa using b)
def VS.agg'{H:Heap}{D:Nat->Nat->Prop}{vs a:List V}(h:VSL H D vs a):VS H D (.agg vs) (.agg a):=.agg _ _ h.length h.get
def VS.tup'{H:Heap}{D:Nat->Nat->Prop}{vs a:List V}(h:VSL H D vs a):VS H D (.tup vs) (.tup a):=.tup _ _ h.length h.get
end
section
variable {P:Program}
inductive Out where
 |ret (r:V)
 |pan (v:V)
def z01k(W:World)(g:Gh)(H:Heap):Out->Ending->Prop
 |.ret r,e=>∃c,e = .returned c∧Rel W g H r c
 |.pan v,e=>∃c,e = .panicked [{v:=c,recovered:=false}]∧Rel W g H v c
def y0n(P:Program)(f:Nat)(args:List V)(H:Heap)(b:Out->Heap->Prop):Prop :=
 ∀(W:World) (g:Gh) (a:Array Value),Good W g H->zlt W g H args a ->
  (callFunc f a).run P W = .ok (.enter f a) W∧Calls P f a W (λe W'=>∃o H' g',b o H'∧Step W g H W' g' H'∧Good W' g' H'∧z01k W' g' H' o e)
def y0n.mono{f:Nat}{args:List V}{H:Heap}{Q Q':Out->Heap->Prop}(h:y0n P f args H Q)(i:∀o H',Q o H'->Q' o H'):y0n P f args H Q':=λW g a j k=>by
 have⟨m,l⟩:=h W g a j k;exact⟨m,l.mono λe W' ⟨o,H',g',d,b⟩=>⟨o,H',g',i _ _ d,b⟩⟩
def z05d(P:Program)(fn:Func)(a:Out->Heap->Prop)(e:kze)(σ:St):Prop :=
 match e with
 |.normal| .ret=>∃v r,zck P fn σ=some v∧σ.d=[]∧VLe v r∧a (.ret r) σ.H
 |.panic v=>σ.d=[]∧a (.pan v) σ.H
 |.exit _=>False
def ywi{f:Nat}{fn:Func}{c:Code}{n:Nat}(N:P.funcs[f]? = some fn)(O:fn.body=some c)(A:fn.ntmps=n)(x:∀args w,(callFunc f args).run P w = .ok (.enter f args) w){args:List V}{lv:Nat}{L:List (Option yz5)}{E:Nat->Nat->Option yz5}{i:Out->Heap->Prop}
  (h:Sat P c ⟨args++List.replicate (n-args.length) .any,⟨lv,L,E⟩,[],E⟩ (z05d P fn i)):y0n P f args ⟨lv,L,E⟩ i:=by
 intro W g b F z;subst A;refine⟨x b W,calls_of_wp N O ?_⟩
 have C:kzu W {tmps:=b++Array.replicate (fn.ntmps-b.size) undef,defers:=[]} g ⟨args++List.replicate (fn.ntmps-args.length) .any,⟨lv,L,E⟩,[],E⟩:=by
  refine⟨F,by simp[z.1],λj v k =>?_,rfl,by simp⟩;rw[Qbe]at k;split at k
  ·rename_i B;rw[z4i (by rw[z.1];exact B)];exact z.2 j v k
  ·rw[Qbo]at k;split at k
   ·cases k;exact .any _
   ·cases k
 refine wp_mono (h W g ⟨lv,L,E⟩ W _ g ⟨F⟩ ⟨rfl,.refl _ _ _⟩ C).wp λe a W' ⟨G,σ,Q,I,D,p,y⟩ =>?_
 have u:∀v r,zck P fn σ=some v->σ.d=[]->VLe v r->i (.ret r) σ.H->a.defers=[]∧∃c,(results fn a.tmps).run P W' = .ok c W'∧∃o H' g',i o H'∧Step W g ⟨lv,L,E⟩ W' g' H'∧Good W' g' H'∧z01k W' g' H' o (.returned c):=λv r m l s q=>by
  have⟨c,K,J⟩:=zrt p m;exact⟨Qao (by rw[p.dlen,l];rfl),c,K,.ret r,σ.H,G,q,D.2,p.good,c,rfl,s.rel J⟩
 cases I with
 |normal=>have⟨v,r,m,l,s,q⟩:=y;exact u v r m l s q
 |ret=>have⟨v,r,m,l,s,q⟩:=y;exact u v r m l s q
 |exit id=>exact y.elim
 |panic v c M=>
  have⟨m,l⟩:=y;exact⟨Qao (by rw[p.dlen,m];rfl),.pan v,σ.H,G,l,D.2,p.good,c,rfl,M⟩
def yyd{ops:Array Oper}{k:Nat}{σ:St}{Q:kze->St->Prop}{o:Oper}{c:Call}{f:Nat}{args:List V}{b:Out->Heap->Prop}(m:ops[k]? = some o)(A:z08 ops σ o=some true)(p:o.op = .call c)(B:target σ.ev c=some (f,args))(F:y0n P f args σ.H b)
  (C:∀r H',b (.ret r) H'->zfh P ops (k+1) ({σ with H:=H'}.put o.dst r) Q) (D:∀v H',b (.pan v) H'->Q (.panic v) {σ with H:=H'}):zfh P ops k σ Q:=λW0 g0 H0 W a g G l j=>by
 have K:k<ops.size:=by
  rcases Nat.lt_or_ge k ops.size with q|q
  ·exact q
  ·rw[Array.getElem?_eq_none q]at m;cases m
 rw[show ops.size-k=(ops.size-(k+1))+1 by omega,List.range'_succ];simp only[wpOps,m];rw[z0z j A,Qbx rfl];left;unfold Oper.wp;have⟨d,z,y⟩:=zgh (P:=P) (ty:=o.type) j.ev B
 have s:(execOp a.eval o).run P W=(callFunc f d).run P W:=by
  rw[<-y W];unfold execOp;rw[p]
 have⟨J,I⟩:=F W g d j.good z;rw[s,J];refine I.mono λe W' ⟨o',H',g',x,p2,w,u⟩ =>?_
 cases o' with
 |ret r=>
  have⟨n,i,h⟩:=u;subst i
  exact C r H' x W0 g0 H0 W' (a.put o.dst n) g' G (by
   have:({σ with H:=H'}.put o.dst r).H=H':=by cases o.dst <;> rfl
   have i:({σ with H:=H'}.put o.dst r).e0=σ.e0:=by cases o.dst <;> rfl
   rw[this,i];exact⟨l.1,l.2.trans p2⟩) (j.next p2 w h o.dst)
 |pan v=>
  have⟨n,i,h⟩:=u;subst i;have E:=j.next p2 w (.any undef) none;exact⟨g',{σ with H:=H'},.panic v,.panic v n h,⟨l.1,l.2.trans p2⟩,E,D v H' x⟩
def ytj{ops:Array Oper}{k:Nat}{σ:St}{Q:kze->St->Prop}{o:Oper}{x:Operand}{t:Nat}{v:V}(d:ops[k]? = some o)(m:z08 ops σ o=some true)(i:o.op = .panic x)(n:σ.ev x = .iface t v)(p:Q (.panic (.iface t v)) σ):zfh P ops k σ Q:=λW0 g0 H0 W a g u r e=>by
 have s:k<ops.size:=by
  rcases Nat.lt_or_ge k ops.size with q|q
  ·exact q
  ·rw[Array.getElem?_eq_none q]at d;cases d
 rw[show ops.size-k=(ops.size-(k+1))+1 by omega,List.range'_succ];simp only[wpOps,d];rw[z0z e m,Qbx rfl];left;have b:=e.ev x;rw[n]at b;generalize l:a.eval x=w at b
 cases b with
 |iface _ _ c h=>
  unfold Oper.wp
  have j:(execOp a.eval o).run P W = .halt (.panic (.iface t c)) W:=by
   unfold execOp;rw[i];simp[l,Instr.panic,goPanic,Sem.run]
  rw[j];exact⟨g,σ,.panic (.iface t v),.panic _ _ (.iface _ _ _ h),r,e,p⟩
def Rel.y8r{W:World}{g:Gh}{H H':Heap}(q:∀b,Own g H' b->Own g H b)(e:∀l i j ty sz xs z,H'.get l i=some (.arr j ty sz xs z)->H.get l i=some (.arr j ty sz xs z)){v:V}{c:Value}(h:Rel W g H v c):Rel W g H' v c:=by
 induction h with
 |any c=>exact .any c
 |bool b=>exact .bool b
 |int k n=>exact .int k n
 |str s=>exact .str s
 |nilp=>exact .nilp
 |ptr l i d x=>exact .ptr l i d x
 |ref cs d b o c A F y D r=>exact .ref cs d b o c (λJ u=>A J (q b u)) F y r
 |ap l i j I d a x C G=>exact .ap l i j I d a x (λv ty sz xs z w=>C _ _ _ _ _ (e _ _ _ _ _ _ _ w)) λty sz xs z w=>G _ _ _ _ (e _ _ _ _ _ _ _ w)
 |nils=>exact .nils
 |slnil sz full=>exact .slnil sz full
 |sle sz full a p E=>exact .sle sz full a p E
 |sl sz xs full b o p c A O B E hs F y D r=>exact .sl sz xs full b o p c (λu=>A (q b u)) O B E hs F y r
 |hs l i j d n full a m p x C G=>exact .hs l i j d n full a m p x (λv ty sz xs z w=>C _ _ _ _ _ (e _ _ _ _ _ _ _ w)) λty sz xs z w=>G _ _ _ _ (e _ _ _ _ _ _ _ w)
 |mapn=>exact .mapn
 |mapc es b X clock A Q R=>exact .mapc es b X clock (λu=>A (q b u)) Q R
 |map l i x=>exact .map l i x
 |fn f U cs K L y T Z Y N M=>exact .fn f U cs K L y T N M
 |nilf=>exact .nilf
 |iface t v c h r=>exact .iface t v c r
 |nili=>exact .nili
 |agg vs cs u y D r=>exact .agg vs cs u y r
 |tup vs cs u D r=>exact .tup vs cs u r
inductive FV (v r:V):V->V->Prop where
 |keep (x:V):FV v r x x
 |any (x:V):FV v r x .any
 |it:FV v r v r
 |agg (vs us:List V) (hn:vs.length=us.length) (h:∀(j:Nat) (x y:V),vs[j]? = some x->us[j]? = some y->FV v r x y):FV v r (.agg vs) (.agg us)
 |tup (vs us:List V) (hn:vs.length=us.length) (h:∀(j:Nat) (x y:V),vs[j]? = some x->us[j]? = some y->FV v r x y):FV v r (.tup vs) (.tup us)
inductive FVL (v r:V):List V->List V->Prop where
 |nil:FVL v r [] []
 |cons {x y:V} {xs ys:List V}(h:FV v r x y) (t:FVL v r xs ys):FVL v r (x::xs) (y::ys)
def FVL.length{v r:V}{vs a:List V}(h:FVL v r vs a):vs.length=a.length:=by induction h <;> simp_all
def FVL.get{v r:V}{vs d:List V}(h:FVL v r vs d):∀(j:Nat) (x y:V),vs[j]? = some x->d[j]? = some y->FV v r x y:=by
 induction h with
 |nil=>intro j x y a;simp at a
 |cons h t e=>
  intro j x y a b
  cases j with
  |zero=>simp at a b;subst a;subst b;exact h
  |succ j=>exact e j x y (by simpa using a) (by simpa using b)
def FV.agg'{v r:V}{vs a:List V}(h:FVL v r vs a):FV v r (.agg vs) (.agg a):=.agg _ _ h.length h.get
def FV.tup'{v r:V}{vs a:List V}(h:FVL v r vs a):FV v r (.tup vs) (.tup a):=.tup _ _ h.length h.get
def FV.rel{W:World}{g:Gh}{H H':Heap}{v r:V}(o:∀{x:V}{c:Value},Rel W g H x c->Rel W g H' x c)(l:∀{c:Value},Rel W g H v c->Rel W g H' r c){x y:V}(h:FV v r x y):∀{c:Value},Rel W g H x c->Rel W g H' y c:=by
 induction h with
 |keep x=>exact λh=>o h
 |any x=>exact λ_=>.any _
 |it=>exact λh=>l h
 |agg vs k n h d=>
  intro c i
  cases i with
  |agg _ cs m p e=>
   have get:∀j u,k[j]? = some u->∃x,vs[j]? = some x:=λj u a=>by
    have:=(Qaa.1 a).1;exact⟨_,Qab (by omega)⟩
   refine .agg _ cs (by omega) (λj u a =>?_) (λj u a =>?_)
   ·have⟨x,b⟩:=get j u a;exact p j x b
   ·have⟨x,b⟩:=get j u a;exact d j x u b a (e j x b)
 |tup vs k n h d=>
  intro c i
  cases i with
  |tup _ cs m e=>
   refine .tup _ cs (by omega) (λj u a =>?_);have q:=(Qaa.1 a).1;have b:vs[j]? = some (vs[j]'(by omega)):=Qab _;exact d j _ u b a (e j _ b)
def FO(v r:V)(o o':yz5):Prop:=o'=o∨∃cs a,o = .cells cs∧o' = .cells a∧FVL v r cs a
def FO.blk{v r:V}{o o':yz5}(h:FO v r o o')(g:Gh)(l i:Nat):o'.blk g l i=o.blk g l i:=by
 rcases h with rfl|⟨cs,a,rfl,rfl,_⟩ <;> rfl
def FO.arr{v r:V}{o:yz5}{a ty sz:Nat}{xs:List V}{b:Option Nat}(h:FO v r o (.arr a ty sz xs b)):o = .arr a ty sz xs b:=by
 rcases h with h|⟨cs,d,_,h,_⟩
 ·exact h.symm
 ·cases h
def ycv{σ:St}{L':List (Option yz5)}{t':List V}{v r:V}(hlen:L'.length=σ.H.L.length)(hL:∀(k:Nat) (o':yz5),L'[k]? = some (some o')->∃o,σ.H.L[k]? = some (some o)∧FO v r o o')(T:FVL v r σ.t t')(hd:σ.d=[])
  (hv:∀(W:World) (g:Gh),Good W g σ.H->(∀b,Own g ⟨σ.H.lv,L',σ.H.E⟩ b->Own g σ.H b)->(∀{x:V}{c:Value},Rel W g σ.H x c->Rel W g ⟨σ.H.lv,L',σ.H.E⟩ x c)->∀{c:Value},Rel W g σ.H v c->Rel W g ⟨σ.H.lv,L',σ.H.E⟩ r c):zwk σ ⟨t',⟨σ.H.lv,L',σ.H.E⟩,[],σ.e0⟩:=λW0 g0 H0 W a g hB B F=>by
 have m:∀l i o',Heap.get ⟨σ.H.lv,L',σ.H.E⟩ l i=some o'->∃o,σ.H.get l i=some o∧FO v r o o':=λl i o' h=>by
  unfold Heap.get at h ⊢;dsimp only at h;by_cases hl:l=σ.H.lv
  ·rw[Qbx hl]at h ⊢
   cases hq:L'[i]? with
   |none=>rw[hq]at h;simp at h
   |some q=>
    rw[hq]at h
    cases q with
    |none=>simp at h
    |some q=>
     simp at h;subst h;have⟨o,z,D⟩:=hL i q hq;exact⟨o,by rw[z];rfl,D⟩
  ·rw[Qby hl]at h ⊢;exact⟨o',h,.inl rfl⟩
 have w:∀b,Own g ⟨σ.H.lv,L',σ.H.E⟩ b->Own g σ.H b:=λb ⟨l,i,o',K,U⟩=>by
  have⟨o,z,D⟩:=m l i o' K;exact⟨l,i,o,z,by rw[<-D.blk];exact U⟩
 have M:∀l i A ty sz xs R,Heap.get ⟨σ.H.lv,L',σ.H.E⟩ l i=some (.arr A ty sz xs R)->σ.H.get l i=some (.arr A ty sz xs R):=λl i A ty sz xs R h=>by
  have⟨o,z,D⟩:=m l i _ h;rw[D.arr]at z;exact z
 have Q:∀{x:V}{c:Value},Rel W g σ.H x c->Rel W g ⟨σ.H.lv,L',σ.H.E⟩ x c:=λh=>Rel.y8r w M h
 have hr:∀{x y:V},FV v r x y->∀{c:Value},Rel W g σ.H x c->Rel W g ⟨σ.H.lv,L',σ.H.E⟩ y c:=λh=>FV.rel Q (hv W g F.good w Q) h
 have O:Good W g ⟨σ.H.lv,L',σ.H.E⟩:=by
  refine⟨λl i o' h =>?_,λl i o' h =>?_,λl i o1 l' i' o2 z D U =>?_,λl i h =>?_,λl i o' h =>?_,F.good.y3r.y8r w⟩
  ·have⟨o,z,_⟩:=m l i o' h;exact F.good.dom l i o z
  ·have⟨o,z,D⟩:=m l i o' h;rw[D.blk];exact F.good.lt l i o z
  ·have⟨p,C,J⟩:=m l i o1 z;have⟨q,Y,X⟩:=m l' i' o2 D;rw[J.blk,X.blk]at U;exact F.good.inj l i p l' i' q C Y U
  ·rcases F.good.fresh l i h with q|⟨q1,q2⟩
   ·exact .inl q
   ·exact .inr ⟨q1,by show i<L'.length;rw[hlen];exact q2⟩
  ·have⟨o,z,D⟩:=m l i o' h;have K:=F.good.obj l i o z
   rcases D with rfl|⟨cs,h5,rfl,rfl,hc⟩
   ·cases o' with
    |cells cs=>
     have⟨c,ty,C,J,I,G⟩:=K
     exact⟨c,ty,C,J,I,λj x n=>Q (G j x n)⟩
    |arr A ty sz xs R=>
     have⟨c,C,I,G,h3,Z,k6,k7,k8,k9⟩:=K
     exact⟨c,C,I,G,h3,Z,k6,k7,k8,λj x t v n T=>Q (k9 j x t v n T)⟩
    |map es=>
     have⟨en,clock,C,J,I,G,Z⟩:=K;refine⟨en,clock,C,J,I,G,λj p n =>?_⟩;have⟨e,he,Y,X⟩:=Z j p n
     exact⟨e,he,Q Y,Q X⟩
    |siter s h7=>exact K
    |mit es h6=>
     have⟨en,clock,mb,C,J,I,G⟩:=K;exact⟨en,clock,mb,C,λhn=>J (w _ hn),I,G⟩
   ·have⟨c,ty,C,J,I,G⟩:=K;have hl:=hc.length
    have get:∀j u,h5[j]? = some u->∃x,cs[j]? = some x:=λj u n=>by
     have:=(Qaa.1 n).1;exact⟨_,Qab (by omega)⟩
    refine⟨c,ty,C,by omega,λj u n =>?_,λj u n =>?_⟩
    ·have⟨x,N⟩:=get j u n;exact I j x N
    ·have⟨x,N⟩:=get j u n;exact hr (hc.get j x u N n) (G j x N)
 refine⟨g,⟨B.1,⟨B.2.os,B.2.tape,B.2.output,B.2.size,B.2.block,λb h=>B.2.own b (w b h),B.2.dom,B.2.new,B.2.blk,λl i A ty sz xs R hd h=>B.2.arr l i A ty sz xs R hd (M l i _ _ _ _ _ h),B.2.lv⟩⟩,O,F.size.trans T.length,λj u n =>?_,by rw[F.dlen,hd],λj f vs n=>by simp at n⟩;have h4:=(Qaa.1 n).1
 have N:σ.t[j]? = some (σ.t[j]'(by rw[T.length];exact h4)):=Qab _;exact hr (T.get j _ u N n) (F.tmps j _ N)
inductive FOL (v r:V):List (Nat×yz5)->List (Nat×yz5)->Prop where
 |refl (os:List (Nat×yz5)):FOL v r os os
 |cons {i:Nat} {o o':yz5}{os os':List (Nat×yz5)}(h:FO v r o o') (t:FOL v r os os'):FOL v r ((i,o)::os) ((i,o')::os')
def FOL.map{v r:V}{b a:List (Nat×yz5)}(h:FOL v r b a):a.map (·.1)=b.map (·.1):=by
 induction h with
 |refl b=>rfl
 |cons h t d=>simp[d]
def FOL.mem{v r:V}{b a:List (Nat×yz5)}(h:FOL v r b a):∀d∈a,∃o,(d.1,o)∈b∧FO v r o d.2:=by
 induction h with
 |refl b=>exact λp hp=>⟨p.2,hp,.inl rfl⟩
 |cons h t e=>
  intro p hp
  rcases Qbl.1 hp with rfl|hp
  ·exact⟨_,Qak,h⟩
  ·have⟨o,i,g⟩:=e p hp;exact⟨o,Qai _ i,g⟩
def told(L:List (Option yz5))(a:Option Nat)(b:List (Nat×yz5)):List (Option yz5) :=
 (List.range L.length).map λk=>if a=some k then none else match b.find? (λp=>p.1==k)with|some p=>some p.2|none=>(L[k]?).join
def zlp(L:List (Option yz5))(a:Option Nat)(b:List (Nat×yz5)):(told L a b).length=L.length:=by simp[told]
def zhn{L:List (Option yz5)}{a:Option Nat}{b:List (Nat×yz5)}{k:Nat}(d:k<L.length):(told L a b)[k]? = some (if a=some k then none else match b.find? (λp=>p.1==k)with|some p=>some p.2|none=>(L[k]?).join):=by
 simp[told,d]
def zc3.yw1{lv:Nat}{L:List (Option yz5)}{as:List zi8}{os s:List (Nat×yz5)}(h:zc3 lv L as os){j ty sz:Nat}{v:V}{xs:List V}{w:Bool}(D:as[j]? = some ⟨ty,sz,v,xs,w⟩){t t':List V}
  (C:FVL v (.sl sz xs false) t t') (K:FOL v (.sl sz xs false) os s) (E e0:Nat->Nat->Option yz5):∃L',(zc3 lv L' (as.eraseIdx j) s∧zwk ⟨t,⟨lv,L,E⟩,[],e0⟩ ⟨t',⟨lv,L',E⟩,[],e0⟩)∧L'.length=L.length∧∀i,i<L.length->(∀p∈os,p.1≠i)->(∀I n,v ≠ .hs lv i I 0 n false)->L'[i]? = L[i]? := by
 have hA:=h;have⟨⟨Z,h1,h2,h3,h4⟩,h5⟩:=h;have kb:=(Qaa.1 D).1;have hk:Z[j]? = some (Z[j]'(by omega)):=Qab _;generalize Z[j]'(by omega)=k at hk;have he:=h2 j k _ hk D
 have B:∀A∈s,∀t:Nat,Z[t]? ≠ some (some A.1):=λA z t=>by
  have⟨o,X,_⟩:=K.mem A z;exact(h4 _ X).2 t
 have hx:(s.map (·.1)).Nodup:=by rw[K.map];exact h5
 have hh:∀A∈s,s.find? (λp=>p.1==A.1)=some A:=λA z=>by
  cases Q:s.find? (λp=>p.1==A.1)with
  |none=>rw[List.find?_eq_none]at Q;have:=Q A z;simp at this
  |some q=>
   have hu:=List.find?_some Q;have k8:=List.mem_of_find?_eq_some Q;simp at hu;have⟨a,R⟩:=List.mem_iff_getElem?.1 z;have⟨b,hb⟩:=List.mem_iff_getElem?.1 k8;have hy:(s.map (·.1))[a]? = some A.1:=by simp[R]
   have kc:(s.map (·.1))[b]? = some A.1:=by simp[hb,hu]
   have d:=(Qaa.1 hy).1;have:=(List.getElem?_inj d hx).1 (hy.trans kc.symm);subst this;rw[R]at hb;exact hb.symm
 have F:∀n:Nat,n<L.length->k≠some n->(∀A∈s,A.1≠n)->(told L k s)[n]? = some (L[n]?).join:=λn hn h6 h7=>by
  rw[zhn hn,Qby h6]
  have:s.find? (λp=>p.1==n)=none:=by
   rw[List.find?_eq_none];intro p U;have:=h7 p U;simpa using this
  rw[this]
 refine⟨told L k s,⟨⟨⟨Z.eraseIdx j,?_,λt kk a O R =>?_,λt t2 n J k7 =>?_,λA z=>⟨?_,λt J =>?_⟩⟩,hx⟩,?_⟩,zlp _ _ _,λi hi U hv =>?_⟩
 rotate_right
 ·rw[F i hi (λe=>by
   subst e;have⟨I,cp,M,T⟩:=he
   exact hv _ _ M) (λA z e=>by
   have⟨o,X,_⟩:=K.mem A z
   exact U _ X e),Qab hi];rfl
 ·rw[List.length_eraseIdx,List.length_eraseIdx];simp[h1]
 ·obtain⟨t2,e1,e2,e3⟩:∃t2:Nat,t2≠j∧Z[t2]? = some kk∧as[t2]? = some a:=by
   rw[List.getElem?_eraseIdx]at O R;by_cases d:t<j
   ·rw[Qbx d]at O R;exact⟨t,by omega,O,R⟩
   ·rw[Qby d]at O R;exact⟨t+1,by omega,O,R⟩
  have h9:=h2 t2 kk a e2 e3
  cases kk with
  |none=>exact h9
  |some n=>
   have d:=h9.lt;have⟨I,cp,M,T⟩:=h9;refine⟨I,cp,M,?_⟩;rw[F n d (λe=>e1 (h3 t2 j n e2 (by rw[hk,e]))) (λA z e=>B A z t2 (by rw[e2,e])),T];rfl
 ·have hr:∀t:Nat,(Z.eraseIdx j)[t]? = some (some n)->∃t2:Nat,Z[t2]? = some (some n)∧t2=if t<j then t else t+1:=λt C=>by
   rw[List.getElem?_eraseIdx]at C;by_cases d:t<j
   ·rw[Qbx d]at C;exact⟨t,C,by rw[Qbx d]⟩
   ·rw[Qby d]at C;exact⟨t+1,C,by rw[Qby d]⟩
  have⟨a,a1,a2⟩:=hr t J;have⟨b,b1,b2⟩:=hr t2 k7;have:=h3 a b n a1 b1;subst this;split at a2 <;> split at b2 <;> omega
 ·have⟨o,X,_⟩:=K.mem A z;have d:=(Qaa.1 (h4 _ X).1).1;rw[zhn d,Qby (λe=>B A z j (by rw[hk,e])),hh A z]
 ·rw[List.getElem?_eraseIdx]at J;split at J
  ·exact B A z _ J
  ·exact B A z _ J
 ·refine ycv (σ:=⟨t,⟨lv,L,E⟩,[],e0⟩) (v:=v) (r:=.sl sz xs false) (zlp _ _ _) (λm o' G =>?_) C rfl (λW g hG kg hf c hc =>?_)
  ·have d:m<L.length:=by have:=(Qaa.1 G).1;rw[zlp]at this;exact this
   rw[zhn d]at G;injection G with G;split at G
   ·cases G
   ·split at G
    ·rename_i p U;injection G with G;have N:=List.find?_some U;simp at N;have⟨o,X,h8⟩:=K.mem p (List.mem_of_find?_eq_some U);refine⟨o,?_,by rw[<-G];exact h8⟩;have:=(h4 _ X).1;rw[N]at this;exact this
    ·refine⟨o',?_,.inl rfl⟩;show L[m]? = _;rw[Qab d]at G ⊢;simp at G;rw[G]
  ·cases k with
   |none=>
    rcases he with ⟨M,T⟩|⟨M,_⟩
    ·simp only at M T;subst M;subst T;exact(VLe.nil _ _).rel (hf hc)
    ·simp only at M;subst M;exact(VLe.full _ _).rel (hf hc)
   |some i=>
    have⟨I,cp,M,T⟩:=he;simp only at M T;subst M;have hg:Heap.get ⟨lv,L,E⟩ lv i=some (.arr I ty sz xs cp):=by unfold Heap.get;rw[Qbx rfl,T];rfl
    have hi:=(Qaa.1 T).1
    have ka:¬Own g ⟨lv,told L (some i) s,E⟩ (g.ab lv i):=λ⟨l,i',o',x,k9⟩=>by
     have hz:∃o,Heap.get ⟨lv,L,E⟩ l i'=some o∧o'.blk g l i'=o.blk g l i'∧¬(l=lv∧i'=i):=by
      unfold Heap.get at x ⊢;dsimp only at x ⊢;by_cases hl:l=lv
      ·rw[Qbx hl]at x ⊢
       cases Q:(told L (some i) s)[i']? with
       |none=>rw[Q]at x;simp at x
       |some q=>
        have d:i'<L.length:=by have:=(Qaa.1 Q).1;rw[zlp]at this;exact this
        rw[zhn d]at Q;injection Q with Q;rw[zhn d]at x;simp only[Option.join_some]at x;split at x
        ·cases x
        ·rename_i hw;split at x
         ·rename_i p U;injection x with x;have N:=List.find?_some U;simp at N;have⟨o,X,h8⟩:=K.mem p (List.mem_of_find?_eq_some U);have:=(h4 _ X).1;rw[N]at this;exact⟨o,by rw[this];rfl,by rw[<-x];exact h8.blk g l i',λe=>hw (by rw[e.2])⟩
         ·exact⟨o',x,rfl,λe=>hw (by rw[e.2])⟩
      ·rw[Qby hl]at x ⊢;exact⟨o',x,rfl,λe=>hl e.1⟩
     have⟨o,w1,w2,w3⟩:=hz;exact w3 (hG.inj _ _ _ _ _ _ w1 hg (by rw[<-w2];exact k9))
    cases hc with
    |hs _ _ _ _ _ _ a m kd hd hv R=>
     obtain⟨rfl,rfl,⟨kf,ke,km⟩,kl⟩:=R _ _ _ _ hg;have⟨Y,k1,k2,k3,kh,k4,k5,k6⟩:=y4l hG hg
     have cells:∀(j:Nat) (y:V) (t:Nat) (u:V),xs[j]? = some y->y.cells[t]? = some u->Rel W g ⟨lv,told L (some i) s,E⟩ u (Y.getD (j * sz+t) undef)∧(Y.getD (j * sz+t) undef).oneCell'=true∧j * sz+t<Y.size:=λj y t u D C=>by
      have kb:=(Qaa.1 D).1;have ki:=k6.1 _ _ D;have kj:=(Qaa.1 C).1;refine⟨hf (k6.2.2 _ _ _ _ D C),k6.2.1 _ _ _ _ D C,?_⟩;rw[k3];exact y7c (by omega) (by omega)
     refine .sl sz xs false (g.ab lv i) (0 * sz) kd (λj t=>Y.getD (j * sz+t) undef) ka k2 (by omega) (by simp) (λj y D=>k6.1 _ _ D) (λj y t u D C =>?_) (λj y t u D C=>(cells j y t u D C).2.1) (λj y t u D C=>(cells j y t u D C).1);have:=cell_of k1 (cells j y t u D C).2.2;rw[<-this];congr 2;omega
def zc3.freeze{lv:Nat}{L:List (Option yz5)}{b:List zi8}{g a:List (Nat×yz5)}(h:zc3 lv L b g){j ty sz:Nat}{v:V}{xs:List V}{w:Bool}(k:b[j]? = some ⟨ty,sz,v,xs,w⟩){t e:List V}
  (i:FVL v (.sl sz xs false) t e) (d:FOL v (.sl sz xs false) g a) (E e0:Nat->Nat->Option yz5):∃L',zc3 lv L' (b.eraseIdx j) a∧zwk ⟨t,⟨lv,L,E⟩,[],e0⟩ ⟨e,⟨lv,L',E⟩,[],e0⟩:=by
 have⟨L',l,_⟩:=h.yw1 k i d E e0;exact⟨L',l⟩
def z03p{W:World}{g:Gh}{H:Heap}{u v:V}{cs:Array Value}(h:zlt W g H [u,v] cs):∃x y,cs = #[x,y]∧Rel W g H u x∧Rel W g H v y:=by
 have⟨b,a⟩:=h
 cases cs with|mk l=>
 match l,b with
 |[x,y],_=>exact⟨x,y,rfl,a 0 u rfl,a 1 v rfl⟩
def y6h{T:Type}(f:T->V)(k:B8):∀(m:List (B8×T)) (i:Nat),y8t .string (.str k) (m.map λp=>(.str p.1,f p.2)) i =
  some (match m.findIdx? (λp=>k==p.1)with|none=>none|some j=>(m[j]?).map λp=>(i+j,f p.2))
 |[],i=>rfl
 |p::m,i=>by
  simp only[List.map_cons,y8t,ypm]
  cases a:k==p.1 with
  |true=>simp[List.findIdx?_cons,a]
  |false=>
   simp only[Bool.false_eq_true,if_false];rw[y6h f k m (i+1),List.findIdx?_cons,a];simp only[Bool.false_eq_true,if_false]
   cases m.findIdx? (λp=>k==p.1)with
   |none=>rfl
   |some j=>simp;cases m[j]? <;> simp;omega
def z02x{T:Type}(m:List (B8×T))(k:B8):z6b m k=match m.findIdx? (λp=>k==p.1)with|none=>none|some j=>(m[j]?).map (·.2):=by
 unfold z6b
 induction m with
 |nil=>rfl
 |cons p m a=>
  rw[List.find?_cons,List.findIdx?_cons]
  cases b:k==p.1 with
  |true=>simp
  |false=>
   simp only[Bool.false_eq_true,if_false];rw[a]
   cases m.findIdx? (λp=>k==p.1)with
   |none=>rfl
   |some j=>simp
def ysk{T:Type}{f:T->V}{m:List (B8×T)}{H:Heap}{t b e l i:Nat}{z:V}(h:P.underlying t=some (.map b e))(n:P.underlying b=some .string)(g:zeroV P e=some z)(q:H.get l i=some (.map (m.map λp=>(.str p.1,f p.2))))(k:B8)(a:T)(r:f a=z) :
  zv2 P H t (.map l i) (.str k) false=some (f ((z6b m k).getD a))∧zv2 P H t (.map l i) (.str k) true=some (.tup [f ((z6b m k).getD a),.bool (z6b m k).isSome]):=by
 unfold zv2;simp only[h,z03i,q,zyx,n,g,y6h,z02x]
 cases d:m.findIdx? (λp=>k==p.1)with
 |none=>simp[r]
 |some j=>
  have o:j<m.length:=by
   rw[List.findIdx?_eq_some_iff_getElem]at d;exact d.1
  simp[o]
def yte{T:Type}{f:T->V}{m:List (B8×T)}{lv:Nat}{L:List (Option yz5)}{E:Nat->Nat->Option yz5}{t b e i:Nat}(h:P.underlying t=some (.map b e))(l:P.underlying b=some .string)(o:L[i]? = some (some (.map (m.map λp=>(.str p.1,f p.2)))))(k:B8)(x:T){y:V}(g:y=f x) :
  zi2 P ⟨lv,L,E⟩ t (.map lv i) (.str k) y=some (.any,⟨lv,L.set i (some (.map ((z99 m k x).map λp=>(.str p.1,f p.2)))),E⟩):=by
 subst g;have a:Heap.get ⟨lv,L,E⟩ lv i=some (.map (m.map λp=>(.str p.1,f p.2))):=by unfold Heap.get;rw[Qbx rfl,o];rfl
 unfold zi2;simp only[h,a,zyx,l,y6h,z99,Heap.set,if_true]
 cases d:m.findIdx? (λp=>k==p.1)with
 |none=>simp[zxt]
 |some j=>
  have n:j<m.length:=by
   rw[List.findIdx?_eq_some_iff_getElem]at d;exact d.1
  simp[zxt,n,List.map_set]
@[simp] def z02f (t l i:Nat) (H:Heap):zrn P H t (.map l i)=match P.underlying t with|some (.map _ _)=>(match H.get l i with|some (.map es)=>some (.int .i64 es.length)|_=>none)|_=>none:=rfl
end
def y3g{α:Type}(xs:List α)(a b:Int):Option (List α) :=
 if 0<=a∧a<=xs.length∧0<=b∧b<xs.length then
  some (xs.take a.toNat++((xs.drop b.toNat).take (min (xs.length-b.toNat) (xs.length-a.toNat))++xs.drop (a.toNat+min (xs.length-b.toNat) (xs.length-a.toNat))))else none
section
variable {P:Program}
def y3h{t e sz:Nat}{H:Heap}{l i b n:Nat}{ty:Nat}{xs:List V}{p:Option Nat}(g:P.underlying t=some (.slice e))(d:sz=P.cellsOf e)(j:(P.underlying e).isSome=true)(h:H.get l i=some (.arr b ty sz xs p)){a:Int}(o:0<=a)(q:a.toNat<=n) :
  zjb P H t (.hs l i b 0 n false) (some (.int .i64 a)) none none=some (if a.toNat=0∨a.toNat<n then .hs l i b a.toNat (n-a.toNat) false else .sl sz [] false):=by
 have k:zhw n (some (.int .i64 a)) none none=some (a.toNat,n,none):=by
  have m:a<=(n:Int):=by omega
  simp[zhw,bnd,o,m]
 simp only[zjb,g,h];rw[Qbx ⟨trivial,d,j⟩,k];simp only[Option.bind_some,Nat.zero_add,Bool.false_and];split <;> rfl
def zc3.shift{lv:Nat}{L:List (Option yz5)}{l:List zi8}{C:List (Nat×yz5)}(h:zc3 lv L l C){j ty sz:Nat}{v:V}{xs:List V}(u:l[j]? = some ⟨ty,sz,v,xs,true⟩){t e:Nat}(s:P.underlying t=some (.slice e))
  (y:sz=P.cellsOf e) (F:(P.underlying e).isSome=true) (D:(P.info? e).isSome=true) {a b:Int}{p:List V}(d:y3g xs a b=some p) (E:Nat->Nat->Option yz5) :
  ∃(B A:V) (L':List (Option yz5)) (m:Int),zjb P ⟨lv,L,E⟩ t v (some (.int .i64 a)) none none=some B∧zjb P ⟨lv,L,E⟩ t v (some (.int .i64 b)) none none=some A ∧
   y5t P ⟨lv,L,E⟩ t B A=some (.int .i64 m,⟨lv,L',E⟩)∧zc3 lv L' (l.set j ⟨ty,sz,v,p,true⟩) C:=by
 unfold y3g at d;split at d
 ·rename_i N;injection d with d;have⟨T,U,R,Q⟩:=N;have i:xs≠[]:=λM=>by subst M;simp at Q;omega
  rcases h.form u with ⟨rfl,rfl⟩|⟨rfl,J⟩|⟨k,g,I,rfl,G⟩
  ·exact(i rfl).elim
  ·exact(i (J rfl)).elim
  ·have w:(⟨lv,L,E⟩:Heap).get lv k=some (.arr g ty sz xs I):=by simp[Heap.get,G]
   have r:=y3h (n:=xs.length) s y F w T (by omega);have x:=y3h (n:=xs.length) s y F w R (by omega);rw[Qbx (show b.toNat=0∨b.toNat<xs.length by omega)]at x;by_cases o:a.toNat=0∨a.toNat<xs.length
   ·rw[Qbx o]at r;refine⟨_,_,L.set k (some (.arr g ty sz p I)),(min (xs.length-b.toNat) (xs.length-a.toNat):Nat),r,x,?_,h.accs.setAt u rfl G i ?_,h.nodup⟩
    ·simp only[y5t,s,w];rw[Qbx D,Qbx ⟨trivial,trivial,trivial⟩,Qbx ⟨trivial,y⟩];rw[d];simp[Heap.set]
    ·rw[<-d];simp;omega
   ·rw[Qby o]at r;have O:xs.length-a.toNat=0:=by omega
    have z:p=xs:=by
     rw[<-d,O,Nat.min_zero,List.take_zero,List.nil_append,Nat.add_zero,List.take_append_drop]
    refine⟨_,_,L,0,r,x,?_,?_⟩
    ·simp only[y5t,s,w];rw[Qbx D,Qbx trivial]
    ·rw[z]
     have:l.set j ⟨ty,sz,.hs lv k g 0 xs.length false,xs,true⟩=l:=by
      refine List.ext_getElem? λq =>?_
      rw[Qbi];split
      ·rename_i K;subst K;rw[u,Qbx (Qaa.1 u).1]
      ·rfl
     rw[this];exact h
 ·cases d
end
def z000{W:World}{g:Gh}{H H':Heap}(q:∀b,Own g H' b->Own g H b)(r:∀{x:V}{c:Value},Rel W g H x c->Rel W g H' x c){l i:Nat}{o:yz5}(m:zif W g H l i o):zif W g H' l i o:=by
 cases o with
 |cells cs=>
  have⟨c,ty,h,k,d,a⟩:=m
  exact⟨c,ty,h,k,d,λj x n=>r (a j x n)⟩
 |arr L ty sz xs N=>
  have⟨c,h,d,a,y,u,F,E,D,C⟩:=m
  exact⟨c,h,d,a,y,u,F,E,D,λj x t v n G=>r (C j x t v n G)⟩
 |map es=>
  have⟨w,clock,h,k,d,a,u⟩:=m;refine⟨w,clock,h,k,d,a,λj p n =>?_⟩;have⟨e,J,B,A⟩:=u j p n
  exact⟨e,J,r B,r A⟩
 |siter s M=>exact m
 |mit es K=>
  have⟨w,clock,z,h,k,d,a⟩:=m;exact⟨w,clock,z,h,λI=>k (q _ I),d,a⟩
def Heap.y6z(H:Heap)(i:Nat):Heap:=⟨H.lv,H.L.set i none,H.E⟩
def Heap.zhq{H:Heap}{i l k:Nat}{o:yz5}(h:(H.y6z i).get l k=some o):H.get l k=some o∧¬(l=H.lv∧k=i):=by
 unfold Heap.get Heap.y6z at h;dsimp only at h;by_cases a:l=H.lv
 ·rw[Qbx a,Qbi]at h;by_cases b:i=k
  ·subst b;rw[Qbx rfl]at h;split at h <;> simp at h
  ·rw[Qby b]at h;exact⟨by unfold Heap.get;rw[Qbx a];exact h,λe=>b e.2.symm⟩
 ·rw[Qby a]at h;exact⟨by unfold Heap.get;rw[Qby a];exact h,λe=>a e.1⟩
def ywh{W:World}{g:Gh}{H:Heap}{i:Nat}{o:yz5}(j:Good W g H)(A:H.get H.lv i=some o) :
  Good W g (H.y6z i)∧Step W g H W g (H.y6z i)∧(∀{x:V}{c:Value},Rel W g H x c->Rel W g (H.y6z i) x c)∧¬Own g (H.y6z i) (o.blk g H.lv i):=by
 have a:∀b,Own g (H.y6z i) b->Own g H b:=λb ⟨l,k,q,p,m⟩=>⟨l,k,q,(Heap.zhq p).1,m⟩
 have e:∀l k d ty sz xs n,(H.y6z i).get l k=some (.arr d ty sz xs n)->H.get l k=some (.arr d ty sz xs n):=λl k d ty sz xs n h=>(Heap.zhq h).1
 have r:∀{x:V}{c:Value},Rel W g H x c->Rel W g (H.y6z i) x c:=λh=>Rel.y8r a e h
 refine⟨⟨λl k q h=>j.dom l k q (Heap.zhq h).1,λl k q h=>j.lt l k q (Heap.zhq h).1,λl k q y z w h D m=>j.inj l k q y z w (Heap.zhq h).1 (Heap.zhq D).1 m,λl k h =>?_,λl k q h=>z000 a r (j.obj l k q (Heap.zhq h).1),j.y3r.y8r a⟩,
  ⟨rfl,rfl,rfl,Qbw _,λ_ _ _=>rfl,λb h=>.inl (a b h),λ_ _ h=>h,λ_ _ h=>.inl h,λ_ _ _=>rfl,λl k d ty sz xs n E h=>⟨d,xs,n,e _ _ _ _ _ _ _ h,Qbw _,λ_=>⟨rfl,rfl,Qbw _⟩⟩,rfl⟩,r,λ⟨l,k,q,p,m⟩ =>?_⟩
 ·rcases j.fresh l k h with q|⟨u,s⟩
  ·exact .inl q
  ·exact .inr ⟨u,by simpa[Heap.y6z]using s⟩
 ·have⟨C,B⟩:=Heap.zhq p;exact B (j.inj _ _ _ _ _ _ C A m)
end Go.Ab
