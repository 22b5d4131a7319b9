/-
  Texts.
-/
import Derived.Test.YthphaiccgnkobaaGreatDoorLib1
import Derived.StillTail
import Derived.WalkKit
import Derived.ProofKit
import Derived.OpenShut
import Derived.JoinedCond
import Derived.Carry
import Derived.Lib.Builder
import Derived.Lib.UnsafeStr
import Derived.Laws.MakeOwn
import Derived.Laws.IdiomStrings
namespace Go.Ab
open Go
set_option linter.unusedSimpArgs false
set_option linter.unusedVariables false
section
variable {P : Program} {ops : Array Oper} {md : Region.Mode}
theorem zyq{H:Heap}{ρ ρ':Operand->V}{o:Op}(h:∀x∈o.operands,ρ x=ρ' x):pv P H ρ o=pv P H ρ' o:=by
 cases o
 case move x=>simp only[pv,h x (by simp[Op.operands])]
 case assign x=>simp only[pv,h x (by simp[Op.operands])]
 case pick c a b=>simp only[pv,h c (by simp[Op.operands]),h a (by simp[Op.operands]),h b (by simp[Op.operands])]
 case load t a=>simp only[pv,h a (by simp[Op.operands])]
 case nilCheck x=>simp only[pv,h x (by simp[Op.operands])]
 case binOp op t x y u=>simp only[pv,h x (by simp[Op.operands]),h y (by simp[Op.operands])]
 case unOp op t x=>simp only[pv,h x (by simp[Op.operands])]
 case convert s d x=>simp only[pv,h x (by simp[Op.operands])]
 case makeInterface t x=>simp only[pv,h x (by simp[Op.operands])]
 case makeFunc fn first caps=>
  cases fn <;> try rfl
  simp only[pv];have h1:first.toList.map ρ=first.toList.map ρ':=List.map_congr_left λx hx=>h x (by simp[Op.operands];left;simpa using hx)
  have h2:caps.toList.map ρ=caps.toList.map ρ':=List.map_congr_left λx hx=>h x (by simp[Op.operands];right;simpa using hx)
  rw[h1,h2]
 case slice t x lo hi mx=>
  simp only[pv]
  have h1:lo.map ρ=lo.map ρ':=by
   cases lo with
   |none=>rfl
   |some y=>simp only[Qbm];rw[h y (by simp[Op.operands])]
  have h2:hi.map ρ=hi.map ρ':=by
   cases hi with
   |none=>rfl
   |some y=>simp only[Qbm];rw[h y (by simp[Op.operands])]
  have h3:mx.map ρ=mx.map ρ':=by
   cases mx with
   |none=>rfl
   |some y=>simp only[Qbm];rw[h y (by simp[Op.operands])]
  rw[h x (by simp[Op.operands]),h1,h2,h3]
 case fieldAddr s x f=>simp only[pv,h x (by simp[Op.operands])]
 case field s x f=>simp only[pv,h x (by simp[Op.operands])]
 case indexAddr t x i=>simp only[pv,h x (by simp[Op.operands]),h i (by simp[Op.operands])]
 case index t x i=>simp only[pv,h x (by simp[Op.operands]),h i (by simp[Op.operands])]
 case lookup t x k ok=>simp only[pv,h x (by simp[Op.operands]),h k (by simp[Op.operands])]
 case typeAssert x t u ok=>simp only[pv,h x (by simp[Op.operands])]
 case extract x i=>simp only[pv,h x (by simp[Op.operands])]
 case build t ps=>
  simp only[pv];have:partsOf ρ ps=partsOf ρ' ps:=List.map_congr_left λp hp=>by rw[h p.2 (by simp[Op.operands];exact⟨p.1,by simpa using hp⟩)]
  rw[this]
 case buildSlice t len ps=>
  simp only[pv];have:partsOf ρ ps=partsOf ρ' ps:=List.map_congr_left λp hp=>by rw[h p.2 (by simp[Op.operands];exact⟨p.1,by simpa using hp⟩)]
  rw[this]
 case makeSlice t n c=>simp only[pv,h n (by simp[Op.operands]),h c (by simp[Op.operands])]
 case call c=>
  simp only[pv,z4r];have hm:c.args.toList.map ρ=c.args.toList.map ρ':=List.map_congr_left λx hx=>h x (by simp[Op.operands,Call.operands];right;simpa using hx)
  rw[hm];split
  ·split
   ·rename_i x t ha ht;rw[h x (by simp[Op.operands,Call.operands];right;rw[<-Array.mem_toList_iff,ha];simp)]
   ·rfl
  all_goals rfl
 all_goals rfl
theorem zdi{ρ ρ':Operand->V}{c:Call}(h:∀x∈c.operands,ρ x=ρ' x):target ρ c=target ρ' c:=by
 unfold target;have hm:c.args.toList.map ρ=c.args.toList.map ρ':=List.map_congr_left λx hx=>h x (by simp[Call.operands];right;simpa using hx)
 rw[hm];split
 ·rename_i f hf;rw[h f (by simp[Call.operands,hf])]
 ·rfl
theorem y8w{σ:St}{dst:Option Nat}{v:V}{x:Operand}(h:∀d,dst=some d->x ≠ .tmp d):(σ.put dst v).ev x=σ.ev x:=by
 cases dst with
 |none=>rfl
 |some d=>
  cases x with
  |tmp t=>
   simp only[St.put,St.ev];have:d≠t:=λe=>h d rfl (by rw[e])
   rw[Qay,Qbd,Qbr this,<-Qay]
  |const v=>rfl
  |global g=>rfl
  |func f=>rfl
theorem y96{σ:St}{dst:Option Nat}{v:V}:(σ.put dst v).H=σ.H:=by cases dst <;> rfl
theorem ycw{σ:St}{dst:Option Nat}{v:V}:(σ.put dst v).e0=σ.e0:=by cases dst <;> rfl
theorem put_comm{σ:St}{x y:Option Nat}(v u:V)(h:∀d,x=some d->y≠some d):(σ.put x v).put y u=(σ.put y u).put x v:=by
 cases x with
 |none=>cases y <;> rfl
 |some d=>
  cases y with
  |none=>rfl
  |some e=>
   have:d≠e:=λq=>h d rfl (by rw[q])
   simp only[St.put];rw[List.set_comm _ _ this]
theorem z7k{o:Oper}{d:Nat}(h:d∉o.looksAt ops):∀x∈o.op.operands,x ≠ .tmp d:=λx hx e=>h (by
 subst e;unfold Oper.looksAt;simp only[List.mem_append,List.mem_filterMap]
 exact .inl ⟨.tmp d,by simpa using hx,rfl⟩)
theorem zpt{σ:St}{o:Oper}{dst:Option Nat}{v:V}(h:∀d,dst=some d->d∉o.looksAt ops):kzf ops (σ.put dst v) o=kzf ops σ o:=by
 unfold kzf;split
 ·rfl
 ·rename_i j want hg;split
  ·rename_i d' hd
   cases dst with
   |none=>rfl
   |some d=>
    have hne:d≠d':=λe=>h d rfl (by
     unfold Oper.looksAt;simp only[List.mem_append,hg];right
     rw[hd,e];simp)
    simp only[St.put];rw[Qay,Qbd,Qbr hne,<-Qay]
  ·rfl
def QV(P:Program)(σ:St)(o:Oper)(v:V):Prop :=
 pv P σ.H σ.ev o.op=some v∨∃c f args,o.op = .call c∧target σ.ev c=some (f,args)∧zm1 P f args σ.H v σ.H
def QY(P:Program)(ops:Array Oper)(σ:St)(o:Oper)(v:V):Prop :=
 (kzf ops σ o=some true∧QV P σ o v)∨(kzf ops σ o=some false∧v = .tup [])
theorem y8q{σ:St}{o:Oper}{dst:Option Nat}{u v:V}(h:∀d,dst=some d->d∉o.looksAt ops):QY P ops (σ.put dst u) o v↔QY P ops σ o v:=by
 have he:∀x∈o.op.operands,(σ.put dst u).ev x=σ.ev x:=λx hx=>y8w λd hd=>z7k (h d hd) x hx
 unfold QY QV;rw[zpt h,zyq he,y96];constructor
 ·rintro (⟨h1,h2|⟨c,f,args,h2,h3,h4⟩⟩|h1)
  ·exact .inl ⟨h1,.inl h2⟩
  ·exact .inl ⟨h1,.inr ⟨c,f,args,h2,by rw[<-zdi (ρ:=(σ.put dst u).ev) (λx hx=>he x (by rw[h2];exact hx))];exact h3,h4⟩⟩
  ·exact .inr h1
 ·rintro (⟨h1,h2|⟨c,f,args,h2,h3,h4⟩⟩|h1)
  ·exact .inl ⟨h1,.inl h2⟩
  ·exact .inl ⟨h1,.inr ⟨c,f,args,h2,by rw[zdi (ρ':=σ.ev) (λx hx=>he x (by rw[h2];exact hx))];exact h3,h4⟩⟩
  ·exact .inr h1
def qA(P:Program)(ops:Array Oper)(i:Nat)(K:St->Prop)(σ:St):Prop :=
 match ops[i]? with
 |none=>K σ
 |some o=>∃v,QY P ops σ o v∧K (σ.put o.dst v)
theorem y5s{i:Nat}{σ:St}{K K':St->Prop}(h:∀σ,K σ->K' σ)(hh:qA P ops i K σ):qA P ops i K' σ:=by
 unfold qA at *;split
 ·exact h _ (by simpa[*]using hh)
 ·rename_i o ho;simp only[ho]at hh;obtain⟨v,h1,h2⟩:=hh;exact⟨v,h1,h _ h2⟩
theorem QY.qA{i:Nat}{o:Oper}{v:V}{σ:St}(hi:ops[i]? = some o)(hy:QY P ops σ o v){K:St->Prop}(h:K (σ.put o.dst v)):qA P ops i K σ:=by
 unfold Ab.qA;simp only[hi];exact⟨v,hy,h⟩
theorem y9x{j:Nat}{oi oj:Oper}{v:V}(hj:ops[j]? = some oj)(hap:oi.apart ops oj=true){K:St->Prop}{σ:St}(hy:QY P ops σ oi v)(h:qA P ops j K (σ.put oi.dst v)) :
  qA P ops j (λσ'=>QY P ops σ' oi v∧K (σ'.put oi.dst v)) σ:=by
 obtain⟨h1,h2,h3⟩:=Oper.apart_spec hap;unfold qA at *;simp only[hj]at *;obtain⟨u,hu,hk⟩:=h;refine⟨u,(y8q h1).1 hu,(y8q h3).2 hy,?_⟩;rw[<-put_comm v u h2];exact hk
theorem ztt{W0:World}{g0:Gh}{H0:Heap}{i:Nat}{σ:St}{K:St->Prop}{K':Act->World->Prop}{Q':Exit->Act->World->Prop}
  (hk:∀W a g σ,K σ->(σ.e0=H0.E∧Step W0 g0 H0 W g σ.H)->kz5 W a g σ->K' a W) {W:World}{a:Act}{g:Gh}(hh:qA P ops i K σ) (hS:σ.e0=H0.E∧Step W0 g0 H0 W g σ.H) (hG:kz5 W a g σ):wpOp P ops Q' i K' a W:=by
 unfold qA at hh;unfold wpOp;split
 ·rename_i ho;simp only[ho]at hh;exact hk W a g σ hh hS hG
 ·rename_i o ho;simp only[ho]at hh;obtain⟨v,hy,hkk⟩:=hh
  have fin:∀c W' g',Step W g σ.H W' g' σ.H->Good W' g' σ.H->Rel W' g' σ.H v c->K' (a.put o.dst c) W':=λc W' g' s1 s2 s3=>
   hk W' _ g' _ hkk (by rw[y96,ycw];exact⟨hS.1,hS.2.trans s1⟩) (hG.next s1 s2 s3 o.dst)
  rcases hy with ⟨hw,hv⟩|⟨hw,rfl⟩
  ·rw[kzl hG hw,Qbq rfl];left;unfold Oper.wp
   rcases hv with hv|⟨c,f,args,hop,ht,hcl⟩
   ·obtain⟨c,W',h1,h2,h3⟩:=znq (P:=P) hG.good (r:=a.eval) hG.ev hv;rw[h1];exact fin c W' g h2.step (hG.good.grow h2) h3
   ·obtain⟨cargs,k1,k2⟩:=z8f (P:=P) (ty:=o.type) hG.ev ht
    have hex:(execOp a.eval o).run P W=(callFunc f cargs).run P W:=by
     rw[<-k2 W];unfold execOp;rw[hop]
    rcases hcl W g cargs hG.good k1 with ⟨e1,e2⟩|⟨c,W',g',e1,e2,e3,e4⟩
    ·rw[hex,e1];refine e2.mono λe W' ⟨c,g',he,s1,s2,s3⟩ =>?_
     subst he;exact fin c W' g' s1 s2 s3
    ·rw[hex,e1];exact fin c W' g' e2 e3 e4
  ·rw[kzl hG hw,Qbr (by simp)];have:=fin undef W g (.refl _ _ _) hG.good (.tup [] #[] rfl (by simp));exact this
def AQ(P:Program)(md:Region.Mode)(ops:Array Oper)(R:St->Prop):Nat->Array Bool->St->Prop
 |0,listed,σ=>Region.ready md ops listed=[]∧R σ
 |fuel+1,listed,σ=>(Region.ready md ops listed=[]->R σ)∧∀i∈Region.ready md ops listed,qA P ops i (AQ P md ops R fuel (listed.setIfInBounds i true)) σ
theorem zq1{W0:World}{g0:Gh}{H0:Heap}{R:St->Prop}{Q':Exit->Act->World->Prop}(hR:∀W a g σ,R σ->(σ.e0=H0.E∧Step W0 g0 H0 W g σ.H)->kz5 W a g σ->Q' .normal a W) :
  ∀(fuel:Nat) (listed:Array Bool) (σ:St) (W:World) (a:Act) (g:Gh),AQ P md ops R fuel listed σ->(σ.e0=H0.E∧Step W0 g0 H0 W g σ.H)->kz5 W a g σ->wpAny P md ops Q' fuel listed a W
 |0,_,σ,W,a,g,h,hS,hG=>⟨h.1,hR W a g σ h.2 hS hG⟩
 |fuel+1,listed,σ,W,a,g,h,hS,hG=>⟨λh0=>hR W a g σ (h.1 h0) hS hG,λi hi=>ztt (λW a g σ' hk hS hG=>zq1 hR fuel _ σ' W a g hk hS hG) (h.2 i hi) hS hG⟩
theorem yaq{R:St->Prop}{i:Nat}{oi:Oper}{v:V}(hi:ops[i]? = some oi) :
  ∀(fuel:Nat) (listed:Array Bool) (σ:St),
   (∀j oj,ops[j]? = some oj->j≠i->listed.getD j true=false->(∀e∈oj.after,Region.binds md e=true->e.on≠i)->oi.apart ops oj=true) ->
   i∈Region.ready md ops listed->QY P ops σ oi v->AQ P md ops R fuel (listed.setIfInBounds i true) (σ.put oi.dst v)->AQ P md ops R (fuel+1) listed σ:=by
 intro fuel
 induction fuel with
 |zero=>
  intro listed σ _ hr hy H;refine⟨λh=>(by rw[h]at hr;cases hr),λj hj =>?_⟩;by_cases hji:j=i
  ·subst hji;exact hy.qA hi H
  ·have:=ready_mono hj hji;rw[H.1]at this
   cases this
 |succ fuel ih=>
  intro listed σ hfree hr hy H;refine⟨λh=>(by rw[h]at hr;cases hr),λj hj =>?_⟩;by_cases hji:j=i
  ·subst hji;exact hy.qA hi H
  ·have h1:=H.2 j (ready_mono hj hji);obtain⟨hjun,oj,hoj,hall⟩:=mem_ready.1 hj;have hun:=(mem_ready.1 hr).1
   have hnot:∀e∈oj.after,Region.binds md e=true->e.on≠i:=λe he hb heq=>by
    have h1:=hall e he hb;rw[heq,getD_both hun]at h1;cases h1
   have h2:=y9x hoj (hfree j oj hoj hji hjun hnot) hy h1
   have hfree':∀k ok,ops[k]? = some ok->k≠i->(listed.setIfInBounds j true).getD k true=false ->
     (∀e∈ok.after,Region.binds md e=true->e.on≠i)->oi.apart ops ok=true:=λk ok hk hki hun hno=>by
    refine hfree k ok hk hki ?_ hno;by_cases hjk:j=k
    ·subst hjk;exact hjun
    ·rw[getD_set_ne true hjk]at hun;exact hun
   refine y5s (λσ' h3=>ih (listed.setIfInBounds j true) σ' hfree' (ready_mono hr (Ne.symm hji)) h3.1 ?_) h2;rw[Array.setIfInBounds_comm _ _ hji];exact h3.2
def zdm(P:Program)(ops:Array Oper):List Oper->List V->St->Option (St×List V×List Claim)
 |[],ans,σ=>some (σ,ans,[])
 |o::rest,ans,σ=>
  match kzf ops σ o with
  |none=>none
  |some b=>if b then
    (match pv P σ.H σ.ev o.op with
    |some v=>zdm P ops rest ans (σ.put o.dst v)
    |none=>match o.op with
     |.call c=>match target σ.ev c,ans with
      |some (f,args),r::ans'=>match zdm P ops rest ans' (σ.put o.dst r)with
       |some (σ',l,cl)=>some (σ',l,⟨f,args,σ.H,r,σ.H⟩::cl)
       |none=>none
      |_,_=>none
     |_=>none)
   else zdm P ops rest ans (σ.put o.dst (.tup []))
theorem zvg{o:Oper}{rest:List Oper}{ans l:List V}{σ σ':St}{cl:List Claim}(h:zdm P ops (o::rest) ans σ=some (σ',l,cl))(hc:∀c∈cl,c.ok P) :
  ∃v ans' cl',QY P ops σ o v∧zdm P ops rest ans' (σ.put o.dst v)=some (σ',l,cl')∧∀c∈cl',c.ok P:=by
 simp only[zdm]at h;split at h
 ·cases h
 ·rename_i b hw;split at h
  ·rename_i hb;subst hb;split at h
   ·rename_i v hv;exact⟨v,ans,cl,.inl ⟨hw,.inl hv⟩,h,hc⟩
   ·split at h
    ·rename_i c hop;split at h
     ·rename_i f args r ans' ht;split at h
      ·rename_i σ1 l1 cl1 hrun;simp only[Qbn,Qbs]at h;obtain⟨rfl,rfl,rfl⟩:=h;exact⟨r,ans',cl1,.inl ⟨hw,.inr ⟨c,f,args,hop,ht,hc _ (.head _)⟩⟩,hrun,λc hc'=>hc c (.tail _ hc')⟩
      ·cases h
     ·cases h
    ·cases h
  ·rename_i hb;have:b=false:=by simpa using hb
   subst this;exact⟨(.tup []),ans,cl,.inr ⟨hw,rfl⟩,h,hc⟩
theorem y8o{R:St->Prop}:∀(l:List Oper) (k:Nat) (listed:Array Bool) (σ σ':St) (ans rest:List V) (cl:List Claim),(∀j,l[j]? = ops[k+j]?) ->
  Region.lexFrom md ops l.length k listed=true->zdm P ops l ans σ=some (σ',rest,cl)->(∀c∈cl,c.ok P)->R σ'->AQ P md ops R l.length listed σ
 |[],_,_,σ,σ',ans,rest,cl,_,hB,h,_,hR=>by
  simp only[zdm,Qbn,Qbs]at h;obtain⟨rfl,_,_⟩:=h
  exact⟨by simpa[Region.lexFrom]using hB,hR⟩
 |o::l,k,listed,σ,σ',ans,rest,cl,hl,hB,h,hc,hR=>by
  have h0:ops[k]? = some o:=by simpa using(hl 0).symm
  simp only[List.length_cons,Region.lexFrom,Qaf]at hB;obtain⟨⟨hr,hf⟩,hB'⟩:=hB;obtain⟨v,ans',cl',hy,hrun,hc'⟩:=zvg h hc
  exact yaq h0 l.length listed σ (Region.free_spec h0 hf) (by simpa using hr) hy
   (y8o l (k+1) _ _ σ' ans' rest cl' (λj=>by have:=hl (j+1);simpa[Nat.add_assoc,Nat.add_comm 1 j]using this) hB' hrun hc' hR)
theorem kz5.drawn{W:World}{a:Act}{g:Gh}{σ:St}(h:kz5 W a g σ)(n:Nat):kz5 {W with drawn:=n} a g σ :=
 have s:=(Grow.drawn W n).step (g:=g) (H:=σ.H)
 ⟨h.good.grow (Grow.drawn W n),h.size,λj v hj=>(h.tmps j v hj).mono s,h.dlen,λj f vs hj=>(h.defs j f vs hj).mono h.good s⟩
theorem y9r{id:Nat}{σ σ':St}{Q:kz4->St->Prop}(hm:P.follows .mixedOrders=true)(hB:Region.lexB .any ops=true)(ans:List V){rest:List V}{cl:List Claim}(h:zdm P ops ops.toList ans σ=some (σ',rest,cl))(hc:∀c∈cl,c.ok P)(hQ:Q .normal σ') :
  Sat P (.region id ops true) σ Q:=λW0 g0 H0 W a g _ hS hG=>by
 simp only[Region.lexB,Qaf]at hB;refine zbc ziw hm ?_;have hG':=hG.drawn (W.drawn+1);have hS':σ.e0=H0.E∧Step W0 g0 H0 {W with drawn:=W.drawn+1} g σ.H:=⟨hS.1,hS.2.trans (Grow.drawn W _).step⟩;have:=y8o (P:=P) (md:=.any) (R:=λτ=>τ=σ') ops.toList 0 (Array.replicate ops.size false) σ σ' ans rest cl (by simp) (by simpa using hB.2) h hc rfl;simp only[Array.length_toList]at this
 exact zq1 (Q':=zu1 W0 g0 H0 Q) (λW a g τ hτ hS hG=>by subst hτ;exact⟨g,_,.normal,.normal,hS,hG,hQ⟩) _ _ σ _ a g this hS' hG'
def ALt(P:Program)(md:Region.Mode)(ops:Array Oper)(n:Nat)(L:Array Bool->St->Prop):Nat->Array Bool->St->Prop
 |0,listed,σ=>L listed σ
 |f+1,listed,σ=>Region.ready md ops listed≠[]∧∀i∈Region.ready md ops listed,i<n∧qA P ops i (ALt P md ops n L f (listed.setIfInBounds i true)) σ
theorem zhi{W0:World}{g0:Gh}{H0:Heap}{n k:Nat}{L:Array Bool->St->Prop}{Q':Exit->Act->World->Prop}
  (hL:∀listed W a g σ,L listed σ->(σ.e0=H0.E∧Step W0 g0 H0 W g σ.H)->kz5 W a g σ->wpAny P md ops Q' k listed a W) :
  ∀(f:Nat) (listed:Array Bool) (σ:St) (W:World) (a:Act) (g:Gh),ALt P md ops n L f listed σ->(σ.e0=H0.E∧Step W0 g0 H0 W g σ.H)->kz5 W a g σ->wpAny P md ops Q' (f+k) listed a W
 |0,listed,σ,W,a,g,h,hS,hG=>by rw[Nat.zero_add];exact hL _ _ _ g σ h hS hG
 |f+1,listed,σ,W,a,g,h,hS,hG=>by
  rw[show f+1+k=(f+k)+1 by omega];exact⟨λh0=>absurd h0 h.1,λi hi=>ztt (λW a g σ' hk hS hG=>zhi hL f _ σ' W a g hk hS hG) (h.2 i hi).2 hS hG⟩
theorem y74{n i:Nat}{oi:Oper}{v:V}{L:Array Bool->St->Prop}(hi:ops[i]? = some oi)
  (hs:Region.sinkB md ops n=true) (hc:Region.chainB md ops n=true) (hn:n<ops.size) (hin:i<n)
  (hdone:∀listed σ,L listed σ->∀j∈Region.ready md ops listed,n<=j) :
  ∀(f:Nat) (listed:Array Bool) (σ:St),HeadInv md ops n listed ->
   (∀j oj,ops[j]? = some oj->j≠i->listed.getD j true=false->(∀e∈oj.after,Region.binds md e=true->e.on≠i)->oi.apart ops oj=true) ->
   i∈Region.ready md ops listed->QY P ops σ oi v->ALt P md ops n L f (listed.setIfInBounds i true) (σ.put oi.dst v)->ALt P md ops n L (f+1) listed σ:=by
 intro f
 induction f with
 |zero=>
  intro listed σ inv _ hr hy H;have hun:=(mem_ready.1 hr).1;refine⟨λh=>(by rw[h]at hr;cases hr),λj hj =>?_⟩
  have hjn:j<n:=by
   rcases Nat.lt_or_ge j n with h|h
   ·exact h
   ·exact absurd hj (tail_waits hs hc hn inv _ i rfl hin hun j h)
  refine⟨hjn,?_⟩;by_cases hji:j=i
  ·subst hji;exact hy.qA hi H
  ·have:=hdone _ _ H j (ready_mono hj hji)
   omega
 |succ f ih=>
  intro listed σ inv hfree hr hy H;have hun:=(mem_ready.1 hr).1;refine⟨λh=>(by rw[h]at hr;cases hr),λj hj =>?_⟩
  have hjn:j<n:=by
   rcases Nat.lt_or_ge j n with h|h
   ·exact h
   ·exact absurd hj (tail_waits hs hc hn inv _ i rfl hin hun j h)
  refine⟨hjn,?_⟩;by_cases hji:j=i
  ·subst hji;exact hy.qA hi H
  ·have h1:=(H.2 j (ready_mono hj hji)).2;obtain⟨hjun,oj,hoj,hall⟩:=mem_ready.1 hj
   have hnot:∀e∈oj.after,Region.binds md e=true->e.on≠i:=λe he hb heq=>by
    have h1:=hall e he hb;rw[heq,getD_both hun]at h1;cases h1
   have h2:=y9x hoj (hfree j oj hoj hji hjun hnot) hy h1
   have hfree':∀k ok,ops[k]? = some ok->k≠i->(listed.setIfInBounds j true).getD k true=false ->
     (∀e∈ok.after,Region.binds md e=true->e.on≠i)->oi.apart ops ok=true:=λk ok hk hki hun hno=>by
    refine hfree k ok hk hki ?_ hno;by_cases hjk:j=k
    ·subst hjk;exact hjun
    ·rw[getD_set_ne true hjk]at hun;exact hun
   refine y5s (λσ' h3=>ih (listed.setIfInBounds j true) σ' (inv.set hj hjn) hfree' (ready_mono hr (Ne.symm hji)) h3.1 ?_) h2;rw[Array.setIfInBounds_comm _ _ hji];exact h3.2
theorem zwv{n k0:Nat}{R:St->Prop}(hs:Region.sinkB md ops n=true)(hc:Region.chainB md ops n=true)(hn:n<ops.size) :
  ∀(l:List Oper) (k:Nat) (listed:Array Bool) (σ σ':St) (ans rest:List V) (cl:List Claim),(∀j,j<l.length->l[j]? = ops[k+j]?)->k+l.length=n->HeadInv md ops n listed ->
  Region.lexHead md ops k0 l.length k listed=true->zdm P ops l ans σ=some (σ',rest,cl)->(∀c∈cl,c.ok P)->R σ' ->
  ALt P md ops n (λlisted' τ=>Region.seqB md ops k0 n listed'=true∧R τ) l.length listed σ
 |[],k,listed,σ,σ',ans,rest,cl,_,hk,_,hB,h,_,hR=>by
  have:k=n:=by simpa using hk
  subst this;simp only[zdm,Qbn,Qbs]at h;obtain⟨rfl,_,_⟩:=h
  exact⟨by simpa[Region.lexHead]using hB,hR⟩
 |o::l,k,listed,σ,σ',ans,rest,cl,hl,hk,inv,hB,h,hcl,hR=>by
  have h0:ops[k]? = some o:=by simpa using(hl 0 (by simp)).symm
  simp only[List.length_cons,Region.lexHead,Qaf]at hB;obtain⟨⟨hr,hf⟩,hB'⟩:=hB;have hkn:k<n:=by simp only[List.length_cons]at hk;omega
  have hr':k∈Region.ready md ops listed:=by simpa using hr
  obtain⟨v,ans',cl',hy,hrun,hc'⟩:=zvg h hcl
  exact y74 h0 hs hc hn hkn (λlisted' τ hL=>seqB_ready hL.1) l.length listed σ inv (Region.free_spec h0 hf) hr' hy
   (zwv hs hc hn l (k+1) _ _ σ' ans' rest cl' (λj hj=>by have:=hl (j+1) (by simp;omega);simpa[Nat.add_assoc,Nat.add_comm 1 j]using this) (by simp only[List.length_cons]at hk;omega) (inv.set hr' hkn) hB' hrun hc' hR)
theorem zg5{Q':Exit->Act->World->Prop}:∀(m k:Nat) (listed:Array Bool) (a:Act) (w:World),k+m=ops.size ->
  Region.seqB md ops m k listed=true->wpOps P ops Q' (List.range' k m) a w->wpAny P md ops Q' m listed a w
 |0,_,_,_,_,_,hB,h=>⟨by simpa[Region.seqB]using hB,h⟩
 |m+1,k,listed,a,w,hk,hB,h=>by
  simp only[Region.seqB,Qaf,Qap]at hB;refine⟨λh1=>(by rw[hB.1]at h1;cases h1),λi hi =>?_⟩;rw[hB.1]at hi;have hik:i=k:=by simpa using hi
  subst hik;simp only[List.range'_succ]at h
  have hw:wpOp P ops Q' i (wpOps P ops Q' (List.range' (i+1) m)) a w:=by
   unfold wpOp;simp only[wpOps]at h;exact h
  exact wpOp_mono (λa' w' h'=>zg5 m (i+1) _ a' w' (by omega) hB.2 h') hw
theorem ybc{id:Nat}{σ τ σ':St}{Q:kz4->St->Prop}(n:Nat)(hm:P.follows .mixedOrders=true)(hB:Region.lexTailB .any ops n=true)
  (ans:List V) {rest:List V}{cl:List Claim}(h:zdm P ops (ops.toList.take n) ans σ=some (τ,rest,cl)) (hc:∀c∈cl,c.ok P)
  (ans2:List (V×Option Heap)) {rest2:List (V×Option Heap)}{cl2:List Claim}(h2:zmq P ops (ops.toList.drop n) ans2 τ=some (σ',rest2,cl2)) (hc2:∀c∈cl2,c.ok P) (hQ:Q .normal σ') :
  Sat P (.region id ops true) σ Q:=λW0 g0 H0 W a g _ hS hG=>by
 simp only[Region.lexTailB,Qaf,Qap]at hB;obtain⟨⟨⟨⟨hsel,hn⟩,hs⟩,hch⟩,hlex⟩:=hB;have hG':=hG.drawn (W.drawn+1);have hS':σ.e0=H0.E∧Step W0 g0 H0 {W with drawn:=W.drawn+1} g σ.H:=⟨hS.1,hS.2.trans (Grow.drawn W _).step⟩;have htl:(ops.toList.take n).length=n:=by simp;omega
 have inv0:HeadInv .any ops n (Array.replicate ops.size false) :=
  ⟨by simp,λj oj _ hl=>(by rw[getD_replicate_false]at hl;cases hl),λt _ ht=>getD_in (by simpa using ht) (getD_replicate_false _ _)⟩
 have H:=zwv (P:=P) (md:=.any) (k0:=ops.size-n) (R:=λυ=>υ=τ) hs hch hn (ops.toList.take n) 0 _ σ τ ans rest cl (λj hj=>by
  have hj':j<n:=by rw[htl]at hj;exact hj
  simp[hj']) (by simpa using htl) inv0 (by rw[htl];exact hlex) h hc rfl
 refine zbc ziw hm ?_
 have:=zhi (P:=P) (Q':=zu1 W0 g0 H0 Q) (k:=ops.size-n) (λlisted W a g υ hL hS hG=>by
  obtain⟨h1,h3⟩:=hL;subst h3;refine zg5 (ops.size-n) n listed a W (by omega) h1 ?_;have:=zh1 (P:=P) (ops:=ops) (Q:=zu1 W0 g0 H0 Q) (W0:=W0) (g0:=g0) (H0:=H0) (ops.toList.drop n) n ans2 rest2 υ σ' cl2 W a g (λj=>by simp[Qbb]) h2 hc2 hG hS (λW' a' g' s1 s2=>⟨g',σ',.normal,.normal,s1,s2,hQ⟩)
  simpa using this) _ _ σ _ a g H hS' hG'
 rw[htl,show n+(ops.size-n)=ops.size by omega]at this;exact this
theorem zuq{id:Nat}{σ τ:St}{Q:kz4->St->Prop}(n:Nat)(hm:P.follows .mixedOrders=true)(hB:Region.lexTailB .any ops n=true)
  (ans:List V) {rest:List V}{cl:List Claim}(h:zdm P ops (ops.toList.take n) ans σ=some (τ,rest,cl)) (hc:∀c∈cl,c.ok P)
  (hQ:∀W0 g0 H0 W a g,y8b W0 g0 H0->(τ.e0=H0.E∧Step W0 g0 H0 W g τ.H)->kz5 W a g τ->wpOps P ops (zu1 W0 g0 H0 Q) (List.range' n (ops.size-n)) a W) :
  Sat P (.region id ops true) σ Q:=λW0 g0 H0 W a g hBa hS hG=>by
 simp only[Region.lexTailB,Qaf,Qap]at hB;obtain⟨⟨⟨⟨hsel,hn⟩,hs⟩,hch⟩,hlex⟩:=hB;have hG':=hG.drawn (W.drawn+1);have hS':σ.e0=H0.E∧Step W0 g0 H0 {W with drawn:=W.drawn+1} g σ.H:=⟨hS.1,hS.2.trans (Grow.drawn W _).step⟩;have htl:(ops.toList.take n).length=n:=by simp;omega
 have inv0:HeadInv .any ops n (Array.replicate ops.size false) :=
  ⟨by simp,λj oj _ hl=>(by rw[getD_replicate_false]at hl;cases hl),λt _ ht=>getD_in (by simpa using ht) (getD_replicate_false _ _)⟩
 have H:=zwv (P:=P) (md:=.any) (k0:=ops.size-n) (R:=λυ=>υ=τ) hs hch hn (ops.toList.take n) 0 _ σ τ ans rest cl (λj hj=>by
  have hj':j<n:=by rw[htl]at hj;exact hj
  simp[hj']) (by simpa using htl) inv0 (by rw[htl];exact hlex) h hc rfl
 refine zbc ziw hm ?_
 have:=zhi (P:=P) (Q':=zu1 W0 g0 H0 Q) (k:=ops.size-n) (λlisted W a g υ hL hS hG=>by
  obtain⟨h1,h3⟩:=hL;subst h3;refine zg5 (ops.size-n) n listed a W (by omega) h1 ?_
  exact hQ W0 g0 H0 W a g hBa hS hG) _ _ σ _ a g H hS' hG'
 rw[htl,show n+(ops.size-n)=ops.size by omega]at this;exact this
theorem ybn{id:Nat}{σ:St}{Q:kz4->St->Prop}(hm:P.follows .mixedOrders=true)(hB:Region.lexB .any ops=true)(ans:List V){r:St×List V×List Claim}(h:zdm P ops ops.toList ans σ=some r)(hc:∀c∈r.2.2,c.ok P)(hQ:Q .normal r.1) :
 Sat P (.region id ops true) σ Q:=y9r hm hB ans (σ':=r.1) (rest:=r.2.1) (cl:=r.2.2) h hc hQ
end
mutual
def y4m{H:Type}:DataW H->Nat
 |.lit (.string bytes)=>bytes.length+1
 |.lit _=>1
 |.nil=>1
 |.ptr d=>y4m d+1
 |.slice elems spare=>zoa elems+zoa spare+1
 |.agg parts=>zoa parts+1
 |.iface _ d=>y4m d+1
 |.map entries=>zq8 entries+1
 |.held _=>1
def zoa{H:Type}:List (DataW H)->Nat
 |[]=>0
 |d::r=>y4m d+zoa r
def zq8{H:Type}:List (Lit×DataW H)->Nat
 |[]=>0
 |x::r=>y68 x+zq8 r
def y68{H:Type}:Lit×DataW H->Nat
 |(.string bytes,d)=>bytes.length+y4m d+1
 |(_,d)=>y4m d+1
end
def g0:Gh:=⟨λ_ _=>False,λ_ _=>0,λ_ _=>0,λ_ _=>0,0⟩
def H0:Heap:=⟨0,[],λ_ _=>none⟩
theorem y8m(l i:Nat):H0.get l i=none:=by unfold Heap.get H0;split <;> simp
theorem own0(g:Gh)(b:Nat):¬Own g H0 b:=λ⟨l,i,o,h,_⟩=>by rw[y8m]at h;cases h
theorem good0(W:World)(hl:zew W g0 H0):Good W g0 H0 where
 dom l i o h:=by rw[y8m]at h;cases h
 lt l i o h:=by rw[y8m]at h;cases h
 inj l i o l' i' o' h:=by rw[y8m]at h;cases h
 fresh l i h:=h.elim
 obj l i o h:=by rw[y8m]at h;cases h
 zf4:=hl
 base:=Qbo _
theorem y6i(cs:List V):(V.agg cs).cells=cs:=rfl
structure Ty(α:Type) where
 el:α->V
 len:Nat
 size:α->Nat
 wf:α->Prop
 hlen:∀x,(el x).cells.length=len
def RelC(W:World)(cs:List Value)(o:Nat)(vs:List V):Prop:=∀(j:Nat) (v:V),vs[j]? = some v->∃c,cs[o+j]? = some c∧c.oneCell'=true∧Rel W g0 H0 v c
structure Reads(P:Program)(n t:Nat){α:Type}(T:Ty α):Prop where
 get:∀{H:Type}(enc:TypeId×Value->H) (W:World) (cs:List Value) (d:DataW H) (ps:List MemPlace),DataW.trod enc P W 0 (λ_=>true) true n t cs=some (d,ps) ->
  ∃x,cs.length=T.len∧RelC W cs 0 (T.el x).cells∧T.wf x∧T.size x<=y4m d
def Ty.int(k:IntKind):Ty Int:=⟨λn=>.int k n,1,λ_=>1,λn=>k.min<=n∧n<=k.max,λ_=>rfl⟩
def Ty.bool:Ty Bool:=⟨λn=>.bool n,1,λ_=>1,λ_=>True,λ_=>rfl⟩
def Ty.str:Ty B8:=⟨λn=>.str n,1,λs=>s.length+1,λ_=>True,λ_=>rfl⟩
def Ty.slice{α:Type}(T:Ty α):Ty (List α):=⟨λxs=>.sl T.len (xs.map T.el) false,1,λxs=>(xs.map T.size).sum+1,λxs=>∀x∈xs,T.wf x,λ_=>rfl⟩
variable {P : Program}
structure ReadsF(P:Program)(n:Nat)(fs:List Field)(o:Nat){α:Type}(T:Ty α):Prop where
 get:∀{H:Type}(enc:TypeId×Value->H) (W:World) (cs:List Value) (xs:List (DataW H×List MemPlace)),xs.length=fs.length ->
  (∀(i:Nat) (f:Field),fs[i]? = some f->DataW.trod enc P W 0 (λ_=>true) true n f.type ((cs.drop f.offset).take (P.cellsOf f.type))=xs[i]?) ->
  ∃x,RelC W cs o (T.el x).cells∧T.wf x∧T.size x<=zoa (xs.map (·.1))
def Ty.struct{α:Type}(A:Ty α):Ty α:=⟨λx=>.agg (A.el x).cells,A.len,λx=>A.size x+1,A.wf,λx=>by rw[y6i,A.hlen]⟩
structure ArgOf(P:Program)(t:Nat){α:Type}(T:Ty α):Prop where
 get:∀{H:Type}(enc:TypeId×Value->H) (W:World) (base:Nat) (v:Value) (d:DataW H) (ps:List MemPlace),DataW.Trod enc P W 0 (λ_=>true) true t v d ps->Value.okWide P W .any base t v ->
  ∃x,Rel W g0 H0 (T.el x) v∧T.wf x∧T.size x<=y4m d
theorem y9h{fn:Func}{s:ChangeSpec}{W W':World}{args:Array Value}{H:Type}{enc:TypeId×Value->H}{ds gs:List (DataW H)}{before:List MemPlace}{tb:Nat}{fresh handsOn:Bool}
  (hl:laidOutB P=true) (hv:s.vars=[]) (hp:∀t∈fn.params.toList,P.readableRec t=true∧t<P.types.size) (hrt:fn.resultTypes = #[tb]) (htb:P.underlying tb=some .bool)
  (hs:(s.fn H ds).results=[.lit (.bool true)]∧(s.fn H ds).args=ds∧(s.fn H ds).vars=[]) (hW:DataW.Whole enc P fn.params.toList s.vars false W args.toList ds gs before) (hg:RowKit.Below W.heap.size W W') :
  s.post enc P fn false fresh handsOn false W args (.bool true) W':=by
 have hW0:=hW;obtain⟨p,q,hA,hV,rfl,hfz,hnd⟩:=hW;rw[hv]at hV;obtain⟨rfl,rfl⟩:=ChangeShapes.trodVars_none hV;have hlt:=hW0.lt;simp only[List.append_nil]at hlt
 have again:∀(ts:List Nat) (vs:List Value) (ds:List (DataW H)) (p:List MemPlace),(∀t∈ts,P.readableRec t=true∧t<P.types.size)->(∀x∈p,x.block<W.heap.size)->DataW.TrodAll enc P W 0 (λ_=>true) true ts vs ds p ->
   DataW.TrodAll enc P W' 0 (λb=>decide (b<W.heap.size)) true ts vs ds p:=by
  intro ts
  induction ts with
  |nil=>intro vs ds p _ _ h;obtain⟨rfl,rfl,rfl⟩:=ChangeShapes.trodAll_nil h;exact ChangeShapes.trodAll_mk0
  |cons t ts ih=>
   intro vs ds p h1 h2 h;obtain⟨v,vs',d,ds',p',q',rfl,rfl,rfl,k1,k2⟩:=ChangeShapes.trodAll_cons h;exact trodAll_cons_mk (RowKit.Below.trod hl (h1 t (by simp)).1 (h1 t (by simp)).2 k1 hg λx hx=>h2 x (by simp[hx])) (ih vs' ds' q' (λt ht=>h1 t (by simp[ht])) (λx hx=>h2 x (by simp[hx])) k2)
 refine⟨ds,[],p++[],[],p,[],hW0,?_,?_,?_,?_,λh=>by cases h⟩
 ·rw[List.append_nil,hs.1,hrt]
  have hb:∀b,DataW.TrodAll enc P W' b (λ_=>false) handsOn [tb] [.bool true] [.lit (.bool true)] []:=λb=>by
   have:=trodAll_cons_mk (P:=P) (enc:=enc) (w:=W') (base:=b) (spare:=λ_=>false) (held:=handsOn) (RowKit.shut_bool htb true) ChangeShapes.trodAll_mk0;simpa using this
  exact hb _
 ·rw[List.append_nil,hs.2.1];exact again _ _ _ _ hp hlt hA
 ·rw[List.append_nil,hs.2.2,hv];exact rfl
 ·exact hg.frame _
theorem zu3{W W':World}{g g':Gh}{H':Heap}(h:Step W g H0 W' g' H'):RowKit.Below W.heap.size W W' :=
 ⟨h.os,h.tape,h.output,h.size,λk hk=>h.block k hk (own0 _ _)⟩
theorem y6c{f:Nat}{vargs:List V}{H':Heap}{cargs:Array Value}{W:World}(h:zm1 P f vargs H0 (.bool true) H')(hent:∀args w,(callFunc f args).run P w = .ok (.enter f args) w)(ha:zd5 W g0 H0 vargs cargs)(hl:zew W g0 H0) :
  Calls P f cargs W λe W'=>e = .returned (.bool true)∧RowKit.Below W.heap.size W W':=by
 rcases h W g0 cargs (good0 W hl) ha with ⟨_,hc⟩|⟨c,W',g',hc,_⟩
 ·refine hc.mono λe W' ⟨c,g',he,hs,_,hr⟩ =>?_
  cases hr;exact⟨he,zu3 hs⟩
 ·rw[hent]at hc;cases hc
theorem y7t{W:World}{g:Gh}{H:Heap}:zd5 W g H [] #[]:=⟨rfl,by simp⟩
mutual
def V.ren(a n:Nat):V->V
 |.ptr l i off=>if l=a+1 then .ptr a (n+i) off else .ptr l i off
 |.ref cs off=>.ref (V.zit a n cs) off
 |.ap l i ver idx off=>if l=a+1 then .ap a (n+i) ver idx off else .ap l i ver idx off
 |.sl sz xs full=>.sl sz (V.zit a n xs) full
 |.hs l i ver off m full=>if l=a+1 then .hs a (n+i) ver off m full else .hs l i ver off m full
 |.map l i=>if l=a+1 then .map a (n+i)else .map l i
 |.fn f x y=>.fn f (V.zit a n x) (V.zit a n y)
 |.iface t v=>.iface t (V.ren a n v)
 |.agg cs=>.agg (V.zit a n cs)
 |.tup vs=>.tup (V.zit a n vs)
 |v=>v
def V.zit(a n:Nat):List V->List V
 |[]=>[]
 |v::vs=>V.ren a n v::V.zit a n vs
end
def zz2.ren(a n:Nat):zz2->zz2
 |.cells cs=>.cells (V.zit a n cs)
 |.arr ver ty sz xs cp=>.arr ver ty sz (V.zit a n xs) cp
 |.map es=>.map (es.map λp=>(V.ren a n p.1,V.ren a n p.2))
 |.siter s pos=>.siter s pos
 |.mit es vis=>.mit es vis
section
variable {P : Program}
structure BackX(H H':Heap)(σ:St)(v r:V):Prop where
 res:r=V.ren H.lv H.L.length v
 lv:H'.lv=H.lv
 len:H'.L.length=H.L.length+σ.H.L.length
 old:∀l i,(l<H.lv∨(l=H.lv∧i<H.L.length))->∀o',H'.get l i=some o'->∃o,σ.H.E l i=some o∧(o'=zz2.ren H.lv H.L.length o∨(o'=o∧H.get l i=some o))
 new:∀i o',H'.get H.lv (H.L.length+i)=some o'->∃o,σ.H.get (H.lv+1) i=some o∧o'=zz2.ren H.lv H.L.length o
 high:∀l i,H.lv<l->H'.E l i=H.E l i
end
end Go.Ab
namespace Go.Ab
open Go
set_option linter.unusedSimpArgs false
set_option linter.unusedVariables false
section
variable {P : Program}
structure zai where
 ty:Nat
 sz:Nat
 v:V
 xs:List V
 w:Bool
def y8j(lv:Nat)(L:List (Option zz2))(k:Option Nat)(a:zai):Prop :=
 match k with
 |none=>(a.v = .nils∧a.xs=[])∨(a.v = .sl a.sz a.xs true∧(a.w=true->a.xs=[]))
 |some i=>∃ver cp,a.v = .hs lv i ver 0 a.xs.length false∧L[i]? = some (some (.arr ver a.ty a.sz a.xs cp))
def zbq(lv:Nat)(L:List (Option zz2))(as:List zai)(os:List (Nat×zz2)):Prop :=
 ∃ks:List (Option Nat),ks.length=as.length∧(∀(j:Nat) (k:Option Nat) (a:zai),ks[j]? = some k->as[j]? = some a->y8j lv L k a) ∧
  (∀(i j:Nat) (n:Nat),ks[i]? = some (some n)->ks[j]? = some (some n)->i=j)∧(∀p∈os,L[p.1]? = some (some p.2)∧∀j:Nat,ks[j]? ≠ some (some p.1))
theorem y8j.lt{lv:Nat}{L:List (Option zz2)}{i:Nat}{a:zai}(h:y8j lv L (some i) a):i<L.length:=by
 obtain⟨ver,cp,_,h⟩:=h;exact(Qaa.1 h).1
theorem zbq.nil(lv:Nat)(L:List (Option zz2)):zbq lv L [] []:=⟨[],rfl,by simp,by simp,by simp⟩
theorem zbq.cons{lv:Nat}{L:List (Option zz2)}{as:List zai}{os:List (Nat×zz2)}(h:zbq lv L as os)(ty sz:Nat)(w:Bool):zbq lv L (⟨ty,sz,.nils,[],w⟩::as) os:=by
 obtain⟨ks,h1,h2,h3,h4⟩:=h;refine⟨none::ks,by simp[h1],λj k a hk ha =>?_,λi j n hi hj =>?_,λp hp=>⟨(h4 p hp).1,λj hj =>?_⟩⟩
 ·cases j with
  |zero=>simp at hk ha;subst hk;subst ha;exact .inl ⟨rfl,rfl⟩
  |succ j=>exact h2 j k a (by simpa using hk) (by simpa using ha)
 ·cases i with
  |zero=>simp at hi
  |succ i=>cases j with
   |zero=>simp at hj
   |succ j=>rw[h3 i j n (by simpa using hi) (by simpa using hj)]
 ·cases j with
  |zero=>simp at hj
  |succ j=>exact(h4 p hp).2 j (by simpa using hj)
theorem zbq.grow{lv:Nat}{L:List (Option zz2)}{as:List zai}{os:List (Nat×zz2)}(h:zbq lv L as os)(x:Option zz2):zbq lv (L++[x]) as os:=by
 obtain⟨ks,h1,h2,h3,h4⟩:=h;refine⟨ks,h1,λj k a hk ha =>?_,h3,λp hp=>⟨?_,(h4 p hp).2⟩⟩
 ·have:=h2 j k a hk ha
  cases k with
  |none=>exact this
  |some i=>obtain⟨ver,cp,q1,q2⟩:=this;exact⟨ver,cp,q1,by rw[Qaj (Qaa.1 q2).1];exact q2⟩
 ·rw[Qaj (Qaa.1 (h4 p hp).1).1];exact(h4 p hp).1
theorem zbq.obj{lv:Nat}{L:List (Option zz2)}{as:List zai}{os:List (Nat×zz2)}(h:zbq lv L as os)(o:zz2):zbq lv (L++[some o]) as ((L.length,o)::os):=by
 obtain⟨ks,h1,h2,h3,h4⟩:=h;refine⟨ks,h1,λj k a hk ha =>?_,h3,λp hp =>?_⟩
 ·have:=h2 j k a hk ha
  cases k with
  |none=>exact this
  |some i=>obtain⟨ver,cp,q1,q2⟩:=this;exact⟨ver,cp,q1,by rw[Qaj (Qaa.1 q2).1];exact q2⟩
 ·rcases Qbg.1 hp with rfl|hp
  ·refine⟨by simp,λj hj =>?_⟩;have hl:=(Qaa.1 hj).1;have ha:as[j]? = some (as[j]'(by omega)):=Qab _;have:=(h2 j _ _ hj ha).lt;simp at this
  ·exact⟨by rw[Qaj (Qaa.1 (h4 p hp).1).1];exact(h4 p hp).1,(h4 p hp).2⟩
theorem zbq.get{lv:Nat}{L:List (Option zz2)}{as:List zai}{os:List (Nat×zz2)}(h:zbq lv L as os){i:Nat}{o:zz2}(hm:(i,o)∈os):L[i]? = some (some o):=by
 obtain⟨ks,h1,h2,h3,h4⟩:=h;exact(h4 _ hm).1
theorem zbq.sub{lv:Nat}{L:List (Option zz2)}{as:List zai}{os os':List (Nat×zz2)}(h:zbq lv L as os)(hs:∀p∈os',p∈os):zbq lv L as os':=by
 obtain⟨ks,h1,h2,h3,h4⟩:=h;exact⟨ks,h1,h2,h3,λp hp=>h4 p (hs p hp)⟩
theorem zbq.setObj{lv:Nat}{L:List (Option zz2)}{as:List zai}{os:List (Nat×zz2)}(h:zbq lv L as os){i:Nat}{o:zz2}(hm:(i,o)∈os)(o':zz2):zbq lv (L.set i (some o')) as (os.map λp=>if p.1=i then (i,o')else p):=by
 obtain⟨ks,h1,h2,h3,h4⟩:=h;have hi:=(Qaa.1 (h4 _ hm).1).1;refine⟨ks,h1,λj k a hk ha =>?_,h3,λp hp =>?_⟩
 ·have:=h2 j k a hk ha
  cases k with
  |none=>exact this
  |some n=>
   obtain⟨ver,cp,q1,q2⟩:=this;refine⟨ver,cp,q1,?_⟩;have:n≠i:=λhe=>(h4 _ hm).2 j (by rw[hk,he])
   rw[Qak (Ne.symm this)];exact q2
 ·rw[Qbc]at hp;obtain⟨q,hq,rfl⟩:=hp;split
  ·rename_i he;refine⟨by simp[hi],λj hj =>?_⟩;exact(h4 q hq).2 j (by rw[hj,he])
  ·rename_i he;exact⟨by rw[Qak (λh=>he h.symm)];exact(h4 q hq).1,(h4 q hq).2⟩
theorem zbq.push{lv:Nat}{L:List (Option zz2)}{as:List zai}{os:List (Nat×zz2)}(h:zbq lv L as os){j:Nat}{ty sz:Nat}{v:V}{xs:List V}{w:Bool}(hj:as[j]? = some ⟨ty,sz,v,xs,w⟩)(ys:List V)(hr:xs.length+ys.length<=zau)(E:Nat->Nat->Option zz2) :
  ∃v' L',kzt ⟨lv,L,E⟩ ty sz v ys=some (v',⟨lv,L',E⟩)∧zbq lv L' (as.set j ⟨ty,sz,v',xs++ys,w⟩) os:=by
 obtain⟨ks,h1,h2,h3,h4⟩:=h;have hjl:=(Qaa.1 hj).1;have hk:ks[j]? = some (ks[j]'(by omega)):=Qab _;generalize ks[j]'(by omega)=k at hk;have hA:=h2 j k _ hk hj
 have hset:∀(i:Nat) (a:zai) (b:zai),(as.set j b)[i]? = some a->(i=j∧a=b)∨(i≠j∧as[i]? = some a):=λi a b hi=>by
  by_cases he:i=j
  ·subst he;rw[Qao (by omega)]at hi;injection hi with hi;exact .inl ⟨rfl,hi.symm⟩
  ·rw[Qak (Ne.symm he)]at hi;exact .inr ⟨he,hi⟩
 cases k with
 |none=>
  cases ys with
  |nil=>
   rcases hA with ⟨hv,hx⟩|hv
   ·simp only at hv hx;subst hv;subst hx;refine⟨.nils,L,rfl,ks,by simp[h1],λi k a hk' ha =>?_,h3,h4⟩
    rcases hset i a _ ha with ⟨rfl,rfl⟩|⟨_,ha⟩
    ·rw[hk]at hk';injection hk' with hk';subst hk';exact .inl ⟨rfl,rfl⟩
    ·exact h2 i k a hk' ha
   ·obtain⟨hv,hw⟩:=hv;simp only at hv hw;subst hv;refine⟨.sl sz xs true,L,by simp[kzt],ks,by simp[h1],λi k a hk' ha =>?_,h3,h4⟩
    rcases hset i a _ ha with ⟨rfl,rfl⟩|⟨_,ha⟩
    ·rw[hk]at hk';injection hk' with hk';subst hk';exact .inr ⟨by simp,by simpa using hw⟩
    ·exact h2 i k a hk' ha
  |cons y r=>
   have happ:kzt ⟨lv,L,E⟩ ty sz v (y::r)=some (.hs lv L.length 0 0 (xs.length+(y::r).length) false,⟨lv,L++[some (.arr 0 ty sz (xs++y::r) none)],E⟩):=by
    rcases hA with ⟨hv,hx⟩|hv
    ·simp only at hv hx;subst hv;subst hx;simp only[kzt,Heap.push];rw[Qbq (by simpa using hr)];simp
    ·obtain⟨hv,hw⟩:=hv;simp only at hv hw;subst hv;simp only[kzt,Heap.push,if_true];rw[Qbq (by simpa using hr)]
   refine⟨_,_,happ,ks.set j (some L.length),by simp[h1],λi k a hk' ha =>?_,λi i' n hi hi' =>?_,λp hp=>⟨?_,λi hi =>?_⟩⟩
   ·rcases hset i a _ ha with ⟨rfl,rfl⟩|⟨hne,ha⟩
    ·rw[Qao (by omega)]at hk';injection hk' with hk';subst hk'
     exact⟨0,none,by simp,by simp⟩
    ·rw[Qak (Ne.symm hne)]at hk';have:=h2 i k a hk' ha
     cases k with
     |none=>exact this
     |some n=>obtain⟨ver,cp,q1,q2⟩:=this;exact⟨ver,cp,q1,by rw[Qaj (Qaa.1 q2).1];exact q2⟩
   ·have low:∀i n,i≠j->(ks.set j (some L.length))[i]? = some (some n)->n<L.length:=λi n hne hi=>by
     rw[Qak (Ne.symm hne)]at hi;have hl:=(Qaa.1 hi).1;exact(h2 i _ (as[i]'(by omega)) hi (Qab _)).lt
    by_cases e1:i=j <;> by_cases e2:i'=j
    ·rw[e1,e2]
    ·subst e1;rw[Qao (by omega)]at hi;injection hi with hi;injection hi with hi
     have:=low i' n e2 hi';omega
    ·subst e2;rw[Qao (by omega)]at hi';injection hi' with hi';injection hi' with hi'
     have:=low i n e1 hi;omega
    ·rw[Qak (Ne.symm e1)]at hi;rw[Qak (Ne.symm e2)]at hi';exact h3 i i' n hi hi'
   ·rw[Qaj (Qaa.1 (h4 p hp).1).1];exact(h4 p hp).1
   ·have hlt:=(Qaa.1 (h4 p hp).1).1;by_cases e1:i=j
    ·subst e1;rw[Qao (by omega)]at hi;injection hi with hi;injection hi with hi;omega
    ·rw[Qak (Ne.symm e1)]at hi;exact(h4 p hp).2 i hi
 |some n=>
  obtain⟨ver,cp,hv,hL⟩:=hA;simp only at hv hL;subst hv;have hn:=(Qaa.1 hL).1;refine⟨.hs lv n (ver+1) 0 (xs.length+ys.length) false,L.set n (some (.arr (ver+1) ty sz (xs++ys) none)),?_,ks,by simp[h1],λi k a hk' ha =>?_,h3,λp hp=>⟨?_,(h4 p hp).2⟩⟩
  ·simp only[kzt,Heap.get,Heap.set,if_true,hL,Option.join_some];rw[Qbq (by simpa using hr)]
  ·rcases hset i a _ ha with ⟨rfl,rfl⟩|⟨hne,ha⟩
   ·rw[hk]at hk';injection hk' with hk';subst hk'
    exact⟨ver+1,none,by simp,by simp[hn]⟩
   ·have:=h2 i k a hk' ha
    cases k with
    |none=>exact this
    |some n'=>
     obtain⟨ver',cp',q1,q2⟩:=this;refine⟨ver',cp',q1,?_⟩;have:n'≠n:=λhe=>hne (h3 i j n (by rw[hk',he]) hk)
     rw[Qak (Ne.symm this)];exact q2
  ·have hlt:=(Qaa.1 (h4 p hp).1).1;have:p.1≠n:=λhe=>(h4 p hp).2 j (by rw[hk,he])
   rw[Qak (Ne.symm this)];exact(h4 p hp).1
theorem z1r{D:Nat->Nat->Prop}{α:Type}{f:α->V}{l:List α}(h:∀x∈l,V.kin D (f x)):V.z41 D (l.map f) :=
 z6m λv hv=>by obtain⟨y,hy,rfl⟩:=Qbc.1 hv;exact h y hy
end
section
variable {P : Program}
end
def ix{α:Type}(l:List α)(i:Int):Option α:=if 0<=i then l[i.toNat]? else none
def sub{α:Type}(l:List α)(lo hi:Int):Option (List α):=if 0<=lo∧lo<=hi∧hi<=l.length then some ((l.take hi.toNat).drop lo.toNat)else none
def cat(x y:B8):Option B8:=if x.length+y.length<=maxLen then some (x++y)else none
def ext{α:Type}(x y:List α):Option (List α):=if x.length+y.length<=zau then some (x++y)else none
def z9p{T:Type}(m:List (B8×T))(k:B8):Option T:=(m.find? λp=>k==p.1).map (·.2)
def zal{T:Type}(m:List (B8×T))(k:B8)(x:T):List (B8×T):=match m.findIdx? (λp=>k==p.1)with|none=>m++[(k,x)]|some j=>m.set j (k,x)
def quo(k:IntKind)(x y:Int):Option Int:=if y=0 then none else some (k.wrap (x.tdiv y))
def rem(k:IntKind)(x y:Int):Option Int:=if y=0 then none else some (x.tmod y)
theorem zc1{α:Type}{l:List α}{i:Int}{x:α}(h:ix l i=some x):0<=i∧l[i.toNat]? = some x:=by
 unfold ix at h;split at h
 ·exact⟨‹_›,h⟩
 ·cases h
theorem y1a{α:Type}{l y:List α}{lo hi:Int}(h:sub l lo hi=some y):0<=lo∧lo<=hi∧hi<=l.length∧y=(l.take hi.toNat).drop lo.toNat∧0<=hi∧lo<=(hi.toNat:Int):=by
 unfold sub at h;split at h
 ·rename_i q;injection h with h;exact⟨q.1,q.2.1,q.2.2,h.symm,by omega,by omega⟩
 ·cases h
theorem yb6{x y z:B8}(h:cat x y=some z):x.length+y.length<=maxLen∧z=x++y:=by
 unfold cat at h;split at h
 ·injection h with h;exact⟨‹_›,h.symm⟩
 ·cases h
theorem zn4{α:Type}{x y z:List α}(h:ext x y=some z):x.length+y.length<=zau∧z=x++y:=by
 unfold ext at h;split at h
 ·injection h with h;exact⟨‹_›,h.symm⟩
 ·cases h
theorem y7y{k:IntKind}{x y z:Int}(h:quo k x y=some z):y≠0∧z=k.wrap (x.tdiv y):=by
 unfold quo at h;split at h
 ·cases h
 ·injection h with h;exact⟨‹_›,h.symm⟩
theorem yas{k:IntKind}{x y z:Int}(h:rem k x y=some z):y≠0∧z=x.tmod y:=by
 unfold rem at h;split at h
 ·cases h
 ·injection h with h;exact⟨‹_›,h.symm⟩
theorem zfp{α:Type}{o:Option α}{β:Type}{f:α->Option β}{r:β}(h:o.bind f=some r):∃x,o=some x∧f x=some r:=by
 cases o with
 |none=>cases h
 |some x=>exact⟨x,rfl,h⟩
def an:Nat->List V->List V
 |0,l=>l
 |n+1,l=>.any::an n l
structure z4t(lv:Nat)(L:List (Option zz2))(as:List zai)(os:List (Nat×zz2)):Prop where
 accs:zbq lv L as os
 nodup:(os.map (·.1)).Nodup
theorem z4t.nil(lv:Nat):z4t lv [] [] []:=⟨zbq.nil _ _,by simp⟩
theorem z4t.get{lv:Nat}{L:List (Option zz2)}{as:List zai}{os:List (Nat×zz2)}(h:z4t lv L as os){k i:Nat}{o:zz2}(hk:os[k]? = some (i,o)):L[i]? = some (some o) :=
 h.accs.get (Qav hk)
theorem z4t.obj{lv:Nat}{L:List (Option zz2)}{as:List zai}{os:List (Nat×zz2)}(h:z4t lv L as os)(o:zz2):z4t lv (L++[some o]) as ((L.length,o)::os):=by
 refine⟨h.accs.obj o,?_⟩;rw[List.map_cons,List.nodup_cons];refine⟨λha =>?_,h.nodup⟩;obtain⟨p,hp,hq⟩:=Qbc.1 ha;have:=(Qaa.1 (h.accs.get (show(p.1,p.2)∈os from hp))).1;omega
theorem z4t.upd{lv:Nat}{L:List (Option zz2)}{as:List zai}{os:List (Nat×zz2)}(h:z4t lv L as os){k i:Nat}{o:zz2}(hk:os[k]? = some (i,o))(o':zz2):z4t lv (L.set i (some o')) as (os.set k (i,o')):=by
 have hm:=Qav hk
 have hmap:os.map (λp=>if p.1=i then (i,o')else p)=os.set k (i,o'):=by
  apply List.ext_getElem?;intro j;rw[Qal,Qbd];by_cases hj:k=j
  ·subst hj;rw[Qbq rfl,hk,Qbq (Qaa.1 hk).1];simp
  ·rw[Qbr hj]
   cases hq:os[j]? with
   |none=>rfl
   |some p=>
    simp only[Qbm];rw[Qbr];intro he;have h1:(os.map (·.1))[j]? = some i:=by rw[Qal,hq];simp[he]
    have h2:(os.map (·.1))[k]? = some i:=by rw[Qal,hk];rfl
    have hlt:=(Qaa.1 h1).1;exact hj (((List.getElem?_inj hlt h.nodup).1 (h1.trans h2.symm)).symm)
 refine⟨?_,?_⟩
 ·rw[<-hmap];exact h.accs.setObj hm o'
 ·have:(os.set k (i,o')).map (·.1)=os.map (·.1):=by
   rw[List.map_set];apply List.ext_getElem?;intro j;rw[Qbd];split
   ·rename_i hj;subst hj;have h2:(os.map (·.1))[k]? = some i:=by rw[Qal,hk];rfl
    rw[Qbq (Qaa.1 h2).1,h2]
   ·rfl
  rw[this];exact h.nodup
theorem z4t.pick{lv:Nat}{L:List (Option zz2)}{as:List zai}{os os':List (Nat×zz2)}(h:z4t lv L as os)(hs:os'.Sublist os):z4t lv L as os' :=
 ⟨h.accs.sub λp hp=>hs.subset hp,h.nodup.sublist (hs.map _)⟩
theorem z4t.cons{lv:Nat}{L:List (Option zz2)}{as:List zai}{os:List (Nat×zz2)}(h:z4t lv L as os)(ty sz:Nat)(w:Bool):z4t lv L (⟨ty,sz,.nils,[],w⟩::as) os:=⟨h.accs.cons ty sz w,h.nodup⟩
theorem z4t.push{lv:Nat}{L:List (Option zz2)}{as:List zai}{os:List (Nat×zz2)}(h:z4t lv L as os){j:Nat}{ty sz:Nat}{v:V}{xs:List V}{w:Bool}(hj:as[j]? = some ⟨ty,sz,v,xs,w⟩)(ys:List V)(hr:xs.length+ys.length<=zau)(E:Nat->Nat->Option zz2) :
  ∃v' L',kzt ⟨lv,L,E⟩ ty sz v ys=some (v',⟨lv,L',E⟩)∧z4t lv L' (as.set j ⟨ty,sz,v',xs++ys,w⟩) os:=by
 obtain⟨v',L',h1,h2⟩:=h.accs.push hj ys hr E;exact⟨v',L',h1,h2,h.nodup⟩
theorem z4t.form{lv:Nat}{L:List (Option zz2)}{as:List zai}{os:List (Nat×zz2)}(h:z4t lv L as os){j:Nat}{ty sz:Nat}{v:V}{xs:List V}{w:Bool}(hj:as[j]? = some ⟨ty,sz,v,xs,w⟩) :
  (v = .nils∧xs=[])∨(v = .sl sz xs true∧(w=true->xs=[]))∨∃i ver cp,v = .hs lv i ver 0 xs.length false∧L[i]? = some (some (.arr ver ty sz xs cp)):=by
 obtain⟨ks,h1,h2,h3,h4⟩:=h.accs;have hjl:=(Qaa.1 hj).1;have hk:ks[j]? = some (ks[j]'(by omega)):=Qab _;generalize ks[j]'(by omega)=k at hk;have hA:=h2 j k _ hk hj
 cases k with
 |none=>rcases hA with hA|hA
        ·exact .inl hA
        ·exact .inr (.inl hA)
 |some n=>obtain⟨ver,cp,q1,q2⟩:=hA;exact .inr (.inr ⟨n,ver,cp,q1,q2⟩)
theorem z4t.len{P:Program}{lv:Nat}{L:List (Option zz2)}{as:List zai}{os:List (Nat×zz2)}(h:z4t lv L as os){j:Nat}{ty sz:Nat}{v:V}{xs:List V}{w:Bool}(hj:as[j]? = some ⟨ty,sz,v,xs,w⟩){t e:Nat}(ht:P.underlying t=some (.slice e))(E:Nat->Nat->Option zz2) :
  zg8 P ⟨lv,L,E⟩ t v=some (.int .i64 xs.length):=by
 rcases h.form hj with ⟨rfl,rfl⟩|⟨rfl,hw⟩|⟨i,ver,cp,rfl,hL⟩
 ·simp[zg8,ht]
 ·simp[zg8,ht]
 ·simp[zg8,ht,Heap.get,hL]
theorem z4t.at{P:Program}{lv:Nat}{L:List (Option zz2)}{as:List zai}{os:List (Nat×zz2)}(h:z4t lv L as os){j:Nat}{ty sz:Nat}{v:V}{xs:List V}{w:Bool}(hj:as[j]? = some ⟨ty,sz,v,xs,w⟩){t e:Nat}(ht:P.underlying t=some (.slice e))
  (hz:sz=P.cellsOf e) (he:(P.underlying e).isSome=true) {i:Int}{x:V}(h0:0<=i) (hx:xs[i.toNat]? = some x) (E:Nat->Nat->Option zz2) :
  ∃q:Nat->V,yzb P ⟨lv,L,E⟩ t v (.int .i64 i)=some (q 0)∧(∀s f o off,zgk P s f=some o->z4b P s f (q off)=some (q (off+o)))∧∀t' off,z3u P ⟨lv,L,E⟩ t' (q off)=rd P t' x.cells off:=by
 have hlt:=(Qaa.1 hx).1
 rcases h.form hj with ⟨rfl,rfl⟩|⟨rfl,hw⟩|⟨k,ver,cp,rfl,hL⟩
 ·simp at hx
 ·exact⟨λo=>.ref x.cells o,by simp[yzb,ht,h0,hz,he,hx],λs f o off hf=>by simp[z4b,hf],λt' off=>by simp[z3u]⟩
 ·refine⟨λo=>.ap lv k ver i.toNat o,?_,λs f o off hf=>by simp[z4b,hf],λt' off=>by simp[z3u,zlp,Heap.get,hL,hx]⟩;simp[yzb,ht,h0,hz,he,Heap.get,hL];omega
theorem zbq.setAt{lv:Nat}{L:List (Option zz2)}{as:List zai}{os:List (Nat×zz2)}(h:zbq lv L as os){j n ver:Nat}{a:zai}{cp:Option Nat}(hj:as[j]? = some a)(hv:a.v = .hs lv n ver 0 a.xs.length false)(hL:L[n]? = some (some (.arr ver a.ty a.sz a.xs cp)))(hn:a.xs≠[]){ys:List V}(hys:ys.length=a.xs.length) :
  zbq lv (L.set n (some (.arr ver a.ty a.sz ys cp))) (as.set j ⟨a.ty,a.sz,a.v,ys,a.w⟩) os:=by
 obtain⟨ks,h1,h2,h3,h4⟩:=h;have hjl:=(Qaa.1 hj).1;have hnl:=(Qaa.1 hL).1;have hkj:ks[j]? = some (ks[j]'(by omega)):=Qab _;generalize ks[j]'(by omega)=k at hkj
 have hk:ks[j]? = some (some n):=by
  have hA:=h2 j k _ hkj hj
  cases k with
  |none=>rcases hA with ⟨h,_⟩|⟨h,_⟩ <;> rw[hv]at h <;> cases h
  |some m=>
   obtain⟨ver',cp',q1,_⟩:=hA
   rw[hv]at q1;injection q1 with _ q1;subst q1;exact hkj
 refine⟨ks,by simp[h1],λi k a' hki ha =>?_,h3,λp hp=>⟨?_,(h4 p hp).2⟩⟩
 ·by_cases he:i=j
  ·subst he;rw[Qao (by omega)]at ha;injection ha with ha;subst ha
   rw[hk]at hki;injection hki with hki;subst hki
   exact⟨ver,cp,by rw[hv,hys],by rw[Qao hnl]⟩
  ·rw[Qak (Ne.symm he)]at ha;have hA:=h2 i k a' hki ha
   cases k with
   |none=>exact hA
   |some m=>
    obtain⟨ver',cp',q1,q2⟩:=hA;have:m≠n:=λhh=>he (h3 i j n (by rw[hki,hh]) hk)
    exact⟨ver',cp',q1,by rw[Qak (Ne.symm this)];exact q2⟩
 ·have:p.1≠n:=λhe=>(h4 p hp).2 j (by rw[hk,he])
  rw[Qak (Ne.symm this)];exact(h4 p hp).1
theorem z4t.put{P:Program}{lv:Nat}{L:List (Option zz2)}{as:List zai}{os:List (Nat×zz2)}(h:z4t lv L as os){j:Nat}{ty sz:Nat}{v:V}{xs:List V}(hj:as[j]? = some ⟨ty,sz,v,xs,true⟩){t e:Nat}(ht:P.underlying t=some (.slice e))
  (hz:sz=P.cellsOf e) (he:(P.underlying e).isSome=true) {i:Int}{x:V}(h0:0<=i) (hx:xs[i.toNat]? = some x) (E:Nat->Nat->Option zz2) :
  ∃q:Nat->V,yzb P ⟨lv,L,E⟩ t v (.int .i64 i)=some (q 0)∧(∀s f o off,zgk P s f=some o->z4b P s f (q off)=some (q (off+o)))∧(∀t' off,z3u P ⟨lv,L,E⟩ t' (q off)=rd P t' x.cells off) ∧
   ∀(t' off:Nat) (y:V),y.zz7=true->(P.info? t').isSome=true->y.cells.length=P.cellsOf t'->off+y.cells.length<=x.cells.length->fits x (yzf x.cells off y.cells)=true ->
    ∃L',z7h P ⟨lv,L,E⟩ t' (q off) y=some (.any,⟨lv,L',E⟩)∧z4t lv L' (as.set j ⟨ty,sz,v,xs.set i.toNat (z3j x (yzf x.cells off y.cells)),true⟩) os:=by
 have hlt:=(Qaa.1 hx).1;have hne:xs≠[]:=λhh=>by subst hh;simp at hx
 rcases h.form hj with ⟨rfl,rfl⟩|⟨rfl,hw⟩|⟨k,ver,cp,rfl,hL⟩
 ·simp at hx
 ·exact(hne (hw rfl)).elim
 ·refine⟨λo=>.ap lv k ver i.toNat o,?_,λs f o off hf=>by simp[z4b,hf],λt' off=>by simp[z3u,zlp,Heap.get,hL,hx],λt' off y y1 y2 y3 y4 y5 =>?_⟩
  ·simp[yzb,ht,h0,hz,he,Heap.get,hL];omega
  ·refine⟨L.set k (some (.arr ver ty sz (xs.set i.toNat (z3j x (yzf x.cells off y.cells))) cp)),?_,h.accs.setAt hj rfl hL hne (by simp),h.nodup⟩;simp[z7h,y1,y2,y3,Heap.get,hL,hx,Heap.set];rw[y3]at y4;exact⟨y4,y5⟩
theorem z4t.arr{lv:Nat}{L:List (Option zz2)}{as:List zai}{os:List (Nat×zz2)}(h:z4t lv L as os)(ver ty sz:Nat)(xs:List V)(cp:Option Nat)(w:Bool) :
  z4t lv (L++[some (.arr ver ty sz xs cp)]) (⟨ty,sz,.hs lv L.length ver 0 xs.length false,xs,w⟩::as) os:=by
 obtain⟨⟨ks,h1,h2,h3,h4⟩,h5⟩:=h
 have low:∀(i n:Nat),ks[i]? = some (some n)->n<L.length:=λi n hi=>by
  have hl:=(Qaa.1 hi).1;exact(h2 i _ (as[i]'(by omega)) hi (Qab _)).lt
 refine⟨⟨some L.length::ks,by simp[h1],λi k a hk ha =>?_,λi i' n hi hi' =>?_,λp hp=>⟨?_,λi hi =>?_⟩⟩,h5⟩
 ·cases i with
  |zero=>simp at hk ha;subst hk;subst ha;exact⟨ver,cp,rfl,by simp⟩
  |succ i=>
   have hA:=h2 i k a (by simpa using hk) (by simpa using ha)
   cases k with
   |none=>exact hA
   |some n=>obtain⟨ver',cp',q1,q2⟩:=hA;exact⟨ver',cp',q1,by rw[Qaj (Qaa.1 q2).1];exact q2⟩
 ·cases i with
  |zero=>cases i' with
   |zero=>rfl
   |succ i'=>simp at hi;subst hi;have:=low i' _ (by simpa using hi');omega
  |succ i=>cases i' with
   |zero=>simp at hi';subst hi';have:=low i _ (by simpa using hi);omega
   |succ i'=>rw[h3 i i' n (by simpa using hi) (by simpa using hi')]
 ·rw[Qaj (Qaa.1 (h4 p hp).1).1];exact(h4 p hp).1
 ·have hlt:=(Qaa.1 (h4 p hp).1).1
  cases i with
  |zero=>simp at hi;omega
  |succ i=>exact(h4 p hp).2 i (by simpa using hi)
@[simp] theorem vc_any:V.cells V.any=[V.any]:=rfl
@[simp] theorem vl_any:V.leaf V.any=false:=rfl
@[simp] theorem vso_any:V.zz7 V.any=false:=rfl
@[simp] theorem vc_bool (b:Bool):V.cells (V.bool b)=[(V.bool b)]:=rfl
@[simp] theorem vl_bool (b:Bool):V.leaf (V.bool b)=true:=rfl
@[simp] theorem vso_bool (b:Bool):V.zz7 (V.bool b)=true:=rfl
@[simp] theorem vc_int (k:IntKind) (n:Int):V.cells (V.int k n)=[(V.int k n)]:=rfl
@[simp] theorem vl_int (k:IntKind) (n:Int):V.leaf (V.int k n)=true:=rfl
@[simp] theorem vso_int (k:IntKind) (n:Int):V.zz7 (V.int k n)=true:=rfl
@[simp] theorem vc_str (s:B8):V.cells (V.str s)=[(V.str s)]:=rfl
@[simp] theorem vl_str (s:B8):V.leaf (V.str s)=true:=rfl
@[simp] theorem vso_str (s:B8):V.zz7 (V.str s)=true:=rfl
@[simp] theorem vc_nilp:V.cells V.nilp=[V.nilp]:=rfl
@[simp] theorem vl_nilp:V.leaf V.nilp=true:=rfl
@[simp] theorem vso_nilp:V.zz7 V.nilp=true:=rfl
@[simp] theorem vc_ptr (l i o:Nat):V.cells (V.ptr l i o)=[(V.ptr l i o)]:=rfl
@[simp] theorem vl_ptr (l i o:Nat):V.leaf (V.ptr l i o)=true:=rfl
@[simp] theorem vso_ptr (l i o:Nat):V.zz7 (V.ptr l i o)=true:=rfl
@[simp] theorem vc_ref (cs:List V) (o:Nat):V.cells (V.ref cs o)=[(V.ref cs o)]:=rfl
@[simp] theorem vl_ref (cs:List V) (o:Nat):V.leaf (V.ref cs o)=true:=rfl
@[simp] theorem vso_ref (cs:List V) (o:Nat):V.zz7 (V.ref cs o)=true:=rfl
@[simp] theorem vc_ap (l i v x o:Nat):V.cells (V.ap l i v x o)=[(V.ap l i v x o)]:=rfl
@[simp] theorem vl_ap (l i v x o:Nat):V.leaf (V.ap l i v x o)=true:=rfl
@[simp] theorem vso_ap (l i v x o:Nat):V.zz7 (V.ap l i v x o)=true:=rfl
@[simp] theorem vc_nils:V.cells V.nils=[V.nils]:=rfl
@[simp] theorem vl_nils:V.leaf V.nils=true:=rfl
@[simp] theorem vso_nils:V.zz7 V.nils=true:=rfl
@[simp] theorem vc_sl (z:Nat) (xs:List V) (f:Bool):V.cells (V.sl z xs f)=[(V.sl z xs f)]:=rfl
@[simp] theorem vl_sl (z:Nat) (xs:List V) (f:Bool):V.leaf (V.sl z xs f)=true:=rfl
@[simp] theorem vso_sl (z:Nat) (xs:List V) (f:Bool):V.zz7 (V.sl z xs f)=true:=rfl
@[simp] theorem vc_hs (l i v o n:Nat) (f:Bool):V.cells (V.hs l i v o n f)=[(V.hs l i v o n f)]:=rfl
@[simp] theorem vl_hs (l i v o n:Nat) (f:Bool):V.leaf (V.hs l i v o n f)=true:=rfl
@[simp] theorem vso_hs (l i v o n:Nat) (f:Bool):V.zz7 (V.hs l i v o n f)=true:=rfl
@[simp] theorem vc_mapn:V.cells V.mapn=[V.mapn]:=rfl
@[simp] theorem vl_mapn:V.leaf V.mapn=true:=rfl
@[simp] theorem vso_mapn:V.zz7 V.mapn=true:=rfl
@[simp] theorem vc_map (l i:Nat):V.cells (V.map l i)=[(V.map l i)]:=rfl
@[simp] theorem vl_map (l i:Nat):V.leaf (V.map l i)=true:=rfl
@[simp] theorem vso_map (l i:Nat):V.zz7 (V.map l i)=true:=rfl
@[simp] theorem vc_fn (f:Nat) (a b:List V):V.cells (V.fn f a b)=[(V.fn f a b)]:=rfl
@[simp] theorem vl_fn (f:Nat) (a b:List V):V.leaf (V.fn f a b)=true:=rfl
@[simp] theorem vso_fn (f:Nat) (a b:List V):V.zz7 (V.fn f a b)=true:=rfl
@[simp] theorem vc_nilf:V.cells V.nilf=[V.nilf]:=rfl
@[simp] theorem vl_nilf:V.leaf V.nilf=true:=rfl
@[simp] theorem vso_nilf:V.zz7 V.nilf=true:=rfl
@[simp] theorem vc_iface (t:Nat) (v:V):V.cells (V.iface t v)=[(V.iface t v)]:=rfl
@[simp] theorem vl_iface (t:Nat) (v:V):V.leaf (V.iface t v)=true:=rfl
@[simp] theorem yd8 (t:Nat) (v:V):V.zz7 (V.iface t v)=true:=rfl
@[simp] theorem vc_nili:V.cells V.nili=[V.nili]:=rfl
@[simp] theorem vl_nili:V.leaf V.nili=true:=rfl
@[simp] theorem vso_nili:V.zz7 V.nili=true:=rfl
@[simp] theorem vc_agg (cs:List V):V.cells (V.agg cs)=cs:=rfl
@[simp] theorem vl_agg (cs:List V):V.leaf (V.agg cs)=false:=rfl
@[simp] theorem vso_agg (cs:List V):V.zz7 (V.agg cs)=true:=rfl
@[simp] theorem vc_tup (vs:List V):V.cells (V.tup vs)=[(V.tup vs)]:=rfl
@[simp] theorem vl_tup (vs:List V):V.leaf (V.tup vs)=false:=rfl
@[simp] theorem vso_tup (vs:List V):V.zz7 (V.tup vs)=false:=rfl
section
variable {P : Program} {H : Heap}
@[simp] theorem yd5 (t:Nat) (cs:List V) (o:Nat):z3u P H t (.ref cs o)=rd P t cs o:=rfl
@[simp] theorem y7r (t l i o:Nat):z3u P H t (.ptr l i o)=match H.get l i with|some (.cells cs)=>rd P t cs o|_=>none:=rfl
@[simp] theorem zsr (t l i v x o:Nat):z3u P H t (.ap l i v x o)=(zlp H l i v x).bind λp=>rd P t p.2 o:=rfl
@[simp] theorem y97 (t:Nat) (s:B8):zg8 P H t (.str s)=match P.underlying t with|some .string=>some (.int .i64 s.length)|_=>none:=rfl
@[simp] theorem zkh (t:Nat):zg8 P H t .nils=match P.underlying t with|some (.slice _)=>some (.int .i64 0)|_=>none:=rfl
@[simp] theorem zy4 (t z:Nat) (xs:List V) (b:Bool):zg8 P H t (.sl z xs b)=match P.underlying t with|some (.slice _)=>some (.int .i64 xs.length)|_=>none:=rfl
@[simp] theorem yd6 (t:Nat):zg8 P H t .mapn=match P.underlying t with|some (.map _ _)=>some (.int .i64 0)|_=>none:=rfl
@[simp] theorem y9o (t:Nat) (cs:List V):zg8 P H t (.agg cs)=match P.underlying t with|some (.array n _)=>some (.int .i64 n)|_=>none:=rfl
@[simp] theorem zlw (t z:Nat) (xs:List V) (b:Bool) (k:IntKind) (n:Int):yzb P H t (.sl z xs b) (.int k n)=if 0<=n then match P.underlying t with
   |some (.slice e)=>if z=P.cellsOf e∧(P.underlying e).isSome then (xs[n.toNat]?).map λy=>.ref y.cells 0 else none
   |some (.array len e)=>if n<len∧(P.underlying e).isSome then none else none
   |_=>none else none:=by unfold yzb;rfl
end
section
variable {P : Program}
def z74(P:Program)(ops:Array Oper)(k:Nat)(σ:St)(Q:kz4->St->Prop):Prop :=
 ∀W0 g0 H0 W a g,y8b W0 g0 H0->(σ.e0=H0.E∧Step W0 g0 H0 W g σ.H)->kz5 W a g σ->wpOps P ops (zu1 W0 g0 H0 Q) (List.range' k (ops.size-k)) a W
theorem yb7{ops:Array Oper}{k:Nat}{σ:St}{Q:kz4->St->Prop}(hk:ops.size<=k)(h:Q .normal σ):z74 P ops k σ Q:=λW0 g0 H0 W a g _ hS hG=>by
 rw[show ops.size-k=0 by omega];exact⟨g,σ,.normal,.normal,hS,hG,h⟩
theorem y8z{id:Nat}{ops:Array Oper}{σ:St}{Q:kz4->St->Prop}(h:z74 P ops 0 σ Q):Sat P (.region id ops false) σ Q:=λW0 g0 H0 W a g hB hS hG=>by
 refine y3n ziw ?_;rw[List.range_eq_range'];have:=h W0 g0 H0 W a g hB hS hG;simpa using this
theorem zk4{ops:Array Oper}{k:Nat}{σ:St}{Q:kz4->St->Prop}(n:Nat)(ans:List (V×Option Heap))(σ1:St)(cl:List Claim)(h:zmq P ops ((ops.toList.drop k).take n) ans σ=some (σ1,[],cl))(hc:∀c∈cl,c.ok P)(hk:z74 P ops (k+n) σ1 Q):z74 P ops k σ Q:=λW0 g0 H0 W a g hB hS hG=>by
 have hlen:((ops.toList.drop k).take n).length=min n (ops.size-k):=by simp
 have hr:List.range' k (ops.size-k)=List.range' k ((ops.toList.drop k).take n).length++List.range' (k+n) (ops.size-(k+n)):=by
  rw[hlen];by_cases hn:n<=ops.size-k
  ·rw[Nat.min_eq_left hn,show ops.size-k=n+(ops.size-(k+n)) by omega,<-List.range'_append];simp
  ·rw[Nat.min_eq_right (by omega),show ops.size-(k+n)=0 by omega];simp
 rw[hr]
 exact zkl (P:=P) _ ((ops.toList.drop k).take n) k ans [] σ σ1 cl W a g (λj hj=>by
  rw[Qau,Qbq (by rw[hlen]at hj;omega)];simp) h hc hG hS (λW' a' g' s1 s2=>hk W0 g0 H0 W' a' g' hB s1 s2)
theorem ya7{id:Nat}{ops:Array Oper}{σ:St}{Q:kz4->St->Prop}(hm:P.follows .mixedOrders=true)(hB:Region.lexB .any ops=true)(ans:List V)(σ1:St)(cl:List Claim)(h:zdm P ops ops.toList ans σ=some (σ1,[],cl))(hc:∀c∈cl,c.ok P)(hQ:Q .normal σ1) :
 Sat P (.region id ops true) σ Q:=ybn hm hB ans h hc hQ
theorem y91{id:Nat}{ops:Array Oper}{σ:St}{Q:kz4->St->Prop}(n:Nat)(hm:P.follows .mixedOrders=true)(hB:Region.lexTailB .any ops n=true)
  (ans:List V) (σ1:St) (cl:List Claim) (h:zdm P ops (ops.toList.take n) ans σ=some (σ1,[],cl)) (hc:∀c∈cl,c.ok P) (hk:z74 P ops n σ1 Q):Sat P (.region id ops true) σ Q :=
 zuq n hm hB ans h hc hk
inductive VSL (H:Heap) (D:Nat->Nat->Prop):List V->List V->Prop where
 |nil:VSL H D [] []
 |cons {v u:V} {vs us:List V}(h:VS H D v u) (r:VSL H D vs us):VSL H D (v::vs) (u::us)
theorem VSL.length{H:Heap}{D:Nat->Nat->Prop}{vs us:List V}(h:VSL H D vs us):vs.length=us.length:=by induction h <;> simp_all
theorem VSL.get{H:Heap}{D:Nat->Nat->Prop}{vs us:List V}(h:VSL H D vs us):∀(j:Nat) (v u:V),vs[j]? = some v->us[j]? = some u->VS H D v u:=by
 induction h with
 |nil=>intro j v u hj;simp at hj
 |cons h r ih=>
  intro j v u hj hk
  cases j with
  |zero=>simp at hj hk;subst hj;subst hk;exact h
  |succ j=>exact ih j v u (by simpa using hj) (by simpa using hk)
theorem VS.agg'{H:Heap}{D:Nat->Nat->Prop}{vs us:List V}(h:VSL H D vs us):VS H D (.agg vs) (.agg us):=.agg _ _ h.length h.get
theorem VS.yae{H:Heap}{D:Nat->Nat->Prop}{vs us:List V}(h:VSL H D vs us):VS H D (.tup vs) (.tup us):=.tup _ _ h.length h.get
end
section
variable {P : Program}
inductive Out where
 |ret (r:V)
 |pan (v:V)
def y5l(W:World)(g:Gh)(H:Heap):Out->Ending->Prop
 |.ret r,e=>∃c,e = .returned c∧Rel W g H r c
 |.pan v,e=>∃c,e = .panicked [{v:=c,recovered:=false}]∧Rel W g H v c
def zhy(P:Program)(f:Nat)(args:List V)(H:Heap)(Post:Out->Heap->Prop):Prop :=
 ∀(W:World) (g:Gh) (cargs:Array Value),Good W g H->zd5 W g H args cargs ->
  (callFunc f cargs).run P W = .ok (.enter f cargs) W∧Calls P f cargs W (λe W'=>∃o H' g',Post o H'∧Step W g H W' g' H'∧Good W' g' H'∧y5l W' g' H' o e)
theorem zhy.mono{f:Nat}{args:List V}{H:Heap}{Q Q':Out->Heap->Prop}(h:zhy P f args H Q)(hq:∀o H',Q o H'->Q' o H'):zhy P f args H Q':=λW g cargs hG hA=>by
 obtain⟨h1,h2⟩:=h W g cargs hG hA;exact⟨h1,h2.mono λe W' ⟨o,H',g',k1,k2⟩=>⟨o,H',g',hq _ _ k1,k2⟩⟩
def ycg(P:Program)(fn:Func)(Post:Out->Heap->Prop)(e:kz4)(σ:St):Prop :=
 match e with
 |.normal| .ret=>∃v r,yzn P fn σ=some v∧σ.d=[]∧VLe v r∧Post (.ret r) σ.H
 |.panic v=>σ.d=[]∧Post (.pan v) σ.H
 |.exit _=>False
theorem y6x{f:Nat}{fn:Func}{c:Code}{n:Nat}(hf:P.funcs[f]? = some fn)(hb:fn.body=some c)(hnt:fn.ntmps=n)(hent:∀args w,(callFunc f args).run P w = .ok (.enter f args) w){args:List V}{lv:Nat}{L:List (Option zz2)}{E:Nat->Nat->Option zz2}{Post:Out->Heap->Prop}
  (h:Sat P c ⟨args++List.replicate (n-args.length) .any,⟨lv,L,E⟩,[],E⟩ (ycg P fn Post)):zhy P f args ⟨lv,L,E⟩ Post:=by
 intro W g cargs hG hA;subst hnt;refine⟨hent cargs W,calls_of_wp hf hb ?_⟩
 have hgs:kz5 W {tmps:=cargs++Array.replicate (fn.ntmps-cargs.size) undef,defers:=[]} g ⟨args++List.replicate (fn.ntmps-args.length) .any,⟨lv,L,E⟩,[],E⟩:=by
  refine⟨hG,by simp[hA.1],λj v hj =>?_,rfl,by simp⟩;rw[Qba]at hj;split at hj
  ·rename_i hlt;rw[zzt (by rw[hA.1];exact hlt)];exact hA.2 j v hj
  ·rw[Qbj]at hj;split at hj
   ·injection hj with hj;subst hj;exact .any _
   ·cases hj
 refine wp_mono (h W g ⟨lv,L,E⟩ W _ g ⟨hG⟩ ⟨rfl,.refl _ _ _⟩ hgs).wp λe a W' ⟨g1,σ,e',q1,q2,q3,q4⟩ =>?_
 have key:∀v r,yzn P fn σ=some v->σ.d=[]->VLe v r->Post (.ret r) σ.H->a.defers=[]∧∃c,(results fn a.tmps).run P W' = .ok c W'∧∃o H' g',Post o H'∧Step W g ⟨lv,L,E⟩ W' g' H'∧Good W' g' H'∧y5l W' g' H' o (.returned c):=λv r h1 h2 h3 h4=>by
  obtain⟨c,k1,k2⟩:=z5y q3 h1;exact⟨Qam (by rw[q3.dlen,h2];rfl),c,k1,.ret r,σ.H,g1,h4,q2.2,q3.good,c,rfl,h3.rel k2⟩
 cases q1 with
 |normal=>obtain⟨v,r,h1,h2,h3,h4⟩:=q4;exact key v r h1 h2 h3 h4
 |ret=>obtain⟨v,r,h1,h2,h3,h4⟩:=q4;exact key v r h1 h2 h3 h4
 |exit id=>exact q4.elim
 |panic v c hr=>
  obtain⟨h1,h2⟩:=q4;exact⟨Qam (by rw[q3.dlen,h1];rfl),.pan v,σ.H,g1,h2,q2.2,q3.good,c,rfl,hr⟩
theorem y6t{ops:Array Oper}{k:Nat}{σ:St}{Q:kz4->St->Prop}{o:Oper}{c:Call}{f:Nat}{args:List V}{Post:Out->Heap->Prop}(ho:ops[k]? = some o)(hw:kzf ops σ o=some true)(hop:o.op = .call c)(ht:target σ.ev c=some (f,args))(hc:zhy P f args σ.H Post)
  (hr:∀r H',Post (.ret r) H'->z74 P ops (k+1) ({σ with H:=H'}.put o.dst r) Q) (hp:∀v H',Post (.pan v) H'->Q (.panic v) {σ with H:=H'}):z74 P ops k σ Q:=λW0 g0 H0 W a g hB hS hG=>by
 have hk:k<ops.size:=by
  rcases Nat.lt_or_ge k ops.size with q|q
  ·exact q
  ·rw[Array.getElem?_eq_none q]at ho;cases ho
 rw[show ops.size-k=(ops.size-(k+1))+1 by omega,List.range'_succ];simp only[wpOps,ho];rw[kzl hG hw,Qbq rfl];left;unfold Oper.wp;obtain⟨cargs,k1,k2⟩:=z8f (P:=P) (ty:=o.type) hG.ev ht
 have hex:(execOp a.eval o).run P W=(callFunc f cargs).run P W:=by
  rw[<-k2 W];unfold execOp;rw[hop]
 obtain⟨e1,e2⟩:=hc W g cargs hG.good k1;rw[hex,e1];refine e2.mono λe W' ⟨o',H',g',p1,p2,p3,p4⟩ =>?_
 cases o' with
 |ret r=>
  obtain⟨c',he,hr'⟩:=p4;subst he
  exact hr r H' p1 W0 g0 H0 W' (a.put o.dst c') g' hB (by
   have:({σ with H:=H'}.put o.dst r).H=H':=by cases o.dst <;> rfl
   have he:({σ with H:=H'}.put o.dst r).e0=σ.e0:=by cases o.dst <;> rfl
   rw[this,he];exact⟨hS.1,hS.2.trans p2⟩) (hG.next p2 p3 hr' o.dst)
 |pan v=>
  obtain⟨c',he,hr'⟩:=p4;subst he;have hn:=hG.next p2 p3 (.any undef) none;exact⟨g',{σ with H:=H'},.panic v,.panic v c' hr',⟨hS.1,hS.2.trans p2⟩,hn,hp v H' p1⟩
theorem y2o{ops:Array Oper}{k:Nat}{σ:St}{Q:kz4->St->Prop}{o:Oper}{x:Operand}{t:Nat}{v:V}(ho:ops[k]? = some o)(hw:kzf ops σ o=some true)(hop:o.op = .panic x)(hv:σ.ev x = .iface t v)(hp:Q (.panic (.iface t v)) σ):z74 P ops k σ Q:=λW0 g0 H0 W a g hB hS hG=>by
 have hk:k<ops.size:=by
  rcases Nat.lt_or_ge k ops.size with q|q
  ·exact q
  ·rw[Array.getElem?_eq_none q]at ho;cases ho
 rw[show ops.size-k=(ops.size-(k+1))+1 by omega,List.range'_succ];simp only[wpOps,ho];rw[kzl hG hw,Qbq rfl];left;have hr:=hG.ev x;rw[hv]at hr;generalize hcc:a.eval x=cc at hr
 cases hr with
 |iface _ _ c h=>
  unfold Oper.wp
  have hex:(execOp a.eval o).run P W = .halt (.panic (.iface t c)) W:=by
   unfold execOp;rw[hop];simp[hcc,Instr.panic,goPanic,Sem.run]
  rw[hex];exact⟨g,σ,.panic (.iface t v),.panic _ _ (.iface _ _ _ h),hS,hG,hp⟩
theorem Rel.zpm{W:World}{g:Gh}{H H':Heap}(hown:∀b,Own g H' b->Own g H b)(harr:∀l i ver ty sz xs cp,H'.get l i=some (.arr ver ty sz xs cp)->H.get l i=some (.arr ver ty sz xs cp)){v:V}{c:Value}(h:Rel W g H v c):Rel W g H' v c:=by
 induction h with
 |any c=>exact .any c
 |bool b=>exact .bool b
 |int k n=>exact .int k n
 |str s=>exact .str s
 |nilp=>exact .nilp
 |ptr l i off hd=>exact .ptr l i off hd
 |ref cs off b o c hb hc h1 hr ih=>exact .ref cs off b o c (λhne hn=>hb hne (hown b hn)) hc h1 ih
 |ap l i ver idx off a hd hv ha=>exact .ap l i ver idx off a hd (λv ty sz xs cp hg=>hv _ _ _ _ _ (harr _ _ _ _ _ _ _ hg)) λty sz xs cp hg=>ha _ _ _ _ (harr _ _ _ _ _ _ _ hg)
 |nils=>exact .nils
 |slnil sz full=>exact .slnil sz full
 |sle sz full a cap hf=>exact .sle sz full a cap hf
 |sl sz xs full b o cap c hb hz hcap hf hs hc h1 hr ih=>exact .sl sz xs full b o cap c (λhn=>hb (hown b hn)) hz hcap hf hs hc h1 ih
 |hs l i ver off n full a m cap hd hv ha=>exact .hs l i ver off n full a m cap hd (λv ty sz xs cp hg=>hv _ _ _ _ _ (harr _ _ _ _ _ _ _ hg)) λty sz xs cp hg=>ha _ _ _ _ (harr _ _ _ _ _ _ _ hg)
 |mapn=>exact .mapn
 |mapc es b en clock hb hw he=>exact .mapc es b en clock (λhn=>hb (hown b hn)) hw he
 |map l i hd=>exact .map l i hd
 |fn f fs cs fs' cs' h1 h2 r1 r2 i1 i2=>exact .fn f fs cs fs' cs' h1 h2 i1 i2
 |nilf=>exact .nilf
 |iface t v c h ih=>exact .iface t v c ih
 |nili=>exact .nili
 |agg vs cs hn h1 hr ih=>exact .agg vs cs hn h1 ih
 |tup vs cs hn hr ih=>exact .tup vs cs hn ih
inductive FV (v r:V):V->V->Prop where
 |keep (x:V):FV v r x x
 |any (x:V):FV v r x .any
 |it:FV v r v r
 |agg (vs us:List V) (hn:vs.length=us.length) (h:∀(j:Nat) (x y:V),vs[j]? = some x->us[j]? = some y->FV v r x y):FV v r (.agg vs) (.agg us)
 |tup (vs us:List V) (hn:vs.length=us.length) (h:∀(j:Nat) (x y:V),vs[j]? = some x->us[j]? = some y->FV v r x y):FV v r (.tup vs) (.tup us)
inductive FVL (v r:V):List V->List V->Prop where
 |nil:FVL v r [] []
 |cons {x y:V} {xs ys:List V}(h:FV v r x y) (t:FVL v r xs ys):FVL v r (x::xs) (y::ys)
theorem FVL.length{v r:V}{vs us:List V}(h:FVL v r vs us):vs.length=us.length:=by induction h <;> simp_all
theorem FVL.get{v r:V}{vs us:List V}(h:FVL v r vs us):∀(j:Nat) (x y:V),vs[j]? = some x->us[j]? = some y->FV v r x y:=by
 induction h with
 |nil=>intro j x y hj;simp at hj
 |cons h t ih=>
  intro j x y hj hk
  cases j with
  |zero=>simp at hj hk;subst hj;subst hk;exact h
  |succ j=>exact ih j x y (by simpa using hj) (by simpa using hk)
theorem FV.agg'{v r:V}{vs us:List V}(h:FVL v r vs us):FV v r (.agg vs) (.agg us):=.agg _ _ h.length h.get
theorem FV.yae{v r:V}{vs us:List V}(h:FVL v r vs us):FV v r (.tup vs) (.tup us):=.tup _ _ h.length h.get
theorem FV.rel{W:World}{g:Gh}{H H':Heap}{v r:V}(hf:∀{x:V}{c:Value},Rel W g H x c->Rel W g H' x c)(hv:∀{c:Value},Rel W g H v c->Rel W g H' r c){x y:V}(h:FV v r x y):∀{c:Value},Rel W g H x c->Rel W g H' y c:=by
 induction h with
 |keep x=>exact λh=>hf h
 |any x=>exact λ_=>.any _
 |it=>exact λh=>hv h
 |agg vs us hn h ih=>
  intro c hc
  cases hc with
  |agg _ cs hs h1 hr=>
   have get:∀j u,us[j]? = some u->∃x,vs[j]? = some x:=λj u hj=>by
    have:=(Qaa.1 hj).1;exact⟨_,Qab (by omega)⟩
   refine .agg _ cs (by omega) (λj u hj =>?_) (λj u hj =>?_)
   ·obtain⟨x,hx⟩:=get j u hj;exact h1 j x hx
   ·obtain⟨x,hx⟩:=get j u hj;exact ih j x u hx hj (hr j x hx)
 |tup vs us hn h ih=>
  intro c hc
  cases hc with
  |tup _ cs hs hr=>
   refine .tup _ cs (by omega) (λj u hj =>?_);have hlt:=(Qaa.1 hj).1;have hx:vs[j]? = some (vs[j]'(by omega)):=Qab _;exact ih j _ u hx hj (hr j _ hx)
def FO(v r:V)(o o':zz2):Prop:=o'=o∨∃cs cs',o = .cells cs∧o' = .cells cs'∧FVL v r cs cs'
theorem FO.blk{v r:V}{o o':zz2}(h:FO v r o o')(g:Gh)(l i:Nat):o'.blk g l i=o.blk g l i:=by
 rcases h with rfl|⟨cs,cs',rfl,rfl,_⟩ <;> rfl
theorem FO.arr{v r:V}{o:zz2}{ver ty sz:Nat}{xs:List V}{cp:Option Nat}(h:FO v r o (.arr ver ty sz xs cp)):o = .arr ver ty sz xs cp:=by
 rcases h with h|⟨cs,cs',_,h,_⟩
 ·exact h.symm
 ·cases h
theorem ztp{σ:St}{L':List (Option zz2)}{t':List V}{v r:V}(hlen:L'.length=σ.H.L.length)(hL:∀(k:Nat) (o':zz2),L'[k]? = some (some o')->∃o,σ.H.L[k]? = some (some o)∧FO v r o o')(ht:FVL v r σ.t t')(hd:σ.d=[])
  (hv:∀(W:World) (g:Gh),Good W g σ.H->(∀b,Own g ⟨σ.H.lv,L',σ.H.E⟩ b->Own g σ.H b)->(∀{x:V}{c:Value},Rel W g σ.H x c->Rel W g ⟨σ.H.lv,L',σ.H.E⟩ x c)->∀{c:Value},Rel W g σ.H v c->Rel W g ⟨σ.H.lv,L',σ.H.E⟩ r c):zdp σ ⟨t',⟨σ.H.lv,L',σ.H.E⟩,[],σ.e0⟩:=λW0 g0 H0 W a g hB hS hG=>by
 have hget:∀l i o',Heap.get ⟨σ.H.lv,L',σ.H.E⟩ l i=some o'->∃o,σ.H.get l i=some o∧FO v r o o':=λl i o' h=>by
  unfold Heap.get at h ⊢;dsimp only at h;by_cases hl:l=σ.H.lv
  ·rw[Qbq hl]at h ⊢
   cases hq:L'[i]? with
   |none=>rw[hq]at h;simp at h
   |some q=>
    rw[hq]at h
    cases q with
    |none=>simp at h
    |some q=>
     simp at h;subst h;obtain⟨o,h1,h2⟩:=hL i q hq;exact⟨o,by rw[h1];rfl,h2⟩
  ·rw[Qbr hl]at h ⊢;exact⟨o',h,.inl rfl⟩
 have hown:∀b,Own g ⟨σ.H.lv,L',σ.H.E⟩ b->Own g σ.H b:=λb ⟨l,i,o',ho,hb⟩=>by
  obtain⟨o,h1,h2⟩:=hget l i o' ho;exact⟨l,i,o,h1,by rw[<-h2.blk];exact hb⟩
 have harr:∀l i ver ty sz xs cp,Heap.get ⟨σ.H.lv,L',σ.H.E⟩ l i=some (.arr ver ty sz xs cp)->σ.H.get l i=some (.arr ver ty sz xs cp):=λl i ver ty sz xs cp h=>by
  obtain⟨o,h1,h2⟩:=hget l i _ h;rw[h2.arr]at h1;exact h1
 have hf:∀{x:V}{c:Value},Rel W g σ.H x c->Rel W g ⟨σ.H.lv,L',σ.H.E⟩ x c:=λh=>Rel.zpm hown harr h
 have hr:∀{x y:V},FV v r x y->∀{c:Value},Rel W g σ.H x c->Rel W g ⟨σ.H.lv,L',σ.H.E⟩ y c:=λh=>FV.rel hf (hv W g hG.good hown hf) h
 have hGood:Good W g ⟨σ.H.lv,L',σ.H.E⟩:=by
  refine⟨λl i o' h =>?_,λl i o' h =>?_,λl i o1 l' i' o2 h1 h2 hb =>?_,λl i h =>?_,λl i o' h =>?_,hG.good.zf4.zpm hown,hG.good.base⟩
  ·obtain⟨o,h1,_⟩:=hget l i o' h;exact hG.good.dom l i o h1
  ·obtain⟨o,h1,h2⟩:=hget l i o' h;rw[h2.blk];exact hG.good.lt l i o h1
  ·obtain⟨p,k1,k2⟩:=hget l i o1 h1;obtain⟨q,m1,m2⟩:=hget l' i' o2 h2;rw[k2.blk,m2.blk]at hb;exact hG.good.inj l i p l' i' q k1 m1 hb
  ·rcases hG.good.fresh l i h with q|⟨q1,q2⟩
   ·exact .inl q
   ·exact .inr ⟨q1,by show i<L'.length;rw[hlen];exact q2⟩
  ·obtain⟨o,h1,h2⟩:=hget l i o' h;have ho:=hG.good.obj l i o h1
   rcases h2 with rfl|⟨cs,cs',rfl,rfl,hc⟩
   ·cases o' with
    |cells cs=>
     obtain⟨c,ty,k1,k2,k3,k4⟩:=ho
     exact⟨c,ty,k1,k2,k3,λj x hj=>hf (k4 j x hj)⟩
    |arr ver ty sz xs cp=>
     obtain⟨c,k1,k3,k4,k4',k5,k6,k7,k8,k9⟩:=ho
     exact⟨c,k1,k3,k4,k4',k5,k6,k7,k8,λj x t v hj ht=>hf (k9 j x t v hj ht)⟩
    |map es=>
     obtain⟨en,clock,k1,k2,k3,k4,k5⟩:=ho;refine⟨en,clock,k1,k2,k3,k4,λj p hj =>?_⟩;obtain⟨e,he,m1,m2⟩:=k5 j p hj
     exact⟨e,he,hf m1,hf m2⟩
    |siter s pos=>exact ho
    |mit es vis=>
     obtain⟨en,clock,mb,k1,k2,k3,k4⟩:=ho;exact⟨en,clock,mb,k1,λhn=>k2 (hown _ hn),k3,k4⟩
   ·obtain⟨c,ty,k1,k2,k3,k4⟩:=ho;have hl:=hc.length
    have get:∀j u,cs'[j]? = some u->∃x,cs[j]? = some x:=λj u hj=>by
     have:=(Qaa.1 hj).1;exact⟨_,Qab (by omega)⟩
    refine⟨c,ty,k1,by omega,λj u hj =>?_,λj u hj =>?_⟩
    ·obtain⟨x,hx⟩:=get j u hj;exact k3 j x hx
    ·obtain⟨x,hx⟩:=get j u hj;exact hr (hc.get j x u hx hj) (k4 j x hx)
 refine⟨g,⟨hS.1,⟨hS.2.os,hS.2.tape,hS.2.output,hS.2.size,hS.2.block,λb h=>hS.2.own b (hown b h),hS.2.dom,hS.2.new,hS.2.blk,λl i ver ty sz xs cp hd h=>hS.2.arr l i ver ty sz xs cp hd (harr l i _ _ _ _ _ h),hS.2.lv,hS.2.base⟩⟩,hGood,hG.size.trans ht.length,λj u hj =>?_,by rw[hG.dlen,hd],λj f vs hj=>by simp at hj⟩;have hlt:=(Qaa.1 hj).1
 have hx:σ.t[j]? = some (σ.t[j]'(by rw[ht.length];exact hlt)):=Qab _;exact hr (ht.get j _ u hx hj) (hG.tmps j _ hx)
inductive FOL (v r:V):List (Nat×zz2)->List (Nat×zz2)->Prop where
 |refl (os:List (Nat×zz2)):FOL v r os os
 |cons {i:Nat} {o o':zz2}{os os':List (Nat×zz2)}(h:FO v r o o') (t:FOL v r os os'):FOL v r ((i,o)::os) ((i,o')::os')
theorem FOL.map{v r:V}{os os':List (Nat×zz2)}(h:FOL v r os os'):os'.map (·.1)=os.map (·.1):=by
 induction h with
 |refl os=>rfl
 |cons h t ih=>simp[ih]
theorem FOL.mem{v r:V}{os os':List (Nat×zz2)}(h:FOL v r os os'):∀p'∈os',∃o,(p'.1,o)∈os∧FO v r o p'.2:=by
 induction h with
 |refl os=>exact λp hp=>⟨p.2,hp,.inl rfl⟩
 |cons h t ih=>
  intro p hp
  rcases Qbg.1 hp with rfl|hp
  ·exact⟨_,Qai,h⟩
  ·obtain⟨o,h1,h2⟩:=ih p hp;exact⟨o,Qag _ h1,h2⟩
def told(L:List (Option zz2))(rm:Option Nat)(os:List (Nat×zz2)):List (Option zz2) :=
 (List.range L.length).map λk=>if rm=some k then none else match os.find? (λp=>p.1==k)with|some p=>some p.2|none=>(L[k]?).join
theorem zcl(L:List (Option zz2))(rm:Option Nat)(os:List (Nat×zz2)):(told L rm os).length=L.length:=by simp[told]
theorem z9n{L:List (Option zz2)}{rm:Option Nat}{os:List (Nat×zz2)}{k:Nat}(hk:k<L.length):(told L rm os)[k]? = some (if rm=some k then none else match os.find? (λp=>p.1==k)with|some p=>some p.2|none=>(L[k]?).join):=by
 simp[told,hk]
theorem z4t.y4u{lv:Nat}{L:List (Option zz2)}{as:List zai}{os os':List (Nat×zz2)}(h:z4t lv L as os){j ty sz:Nat}{v:V}{xs:List V}{w:Bool}(hj:as[j]? = some ⟨ty,sz,v,xs,w⟩){t t':List V}
  (ht:FVL v (.sl sz xs false) t t') (hos:FOL v (.sl sz xs false) os os') (E e0:Nat->Nat->Option zz2):∃L',(z4t lv L' (as.eraseIdx j) os'∧zdp ⟨t,⟨lv,L,E⟩,[],e0⟩ ⟨t',⟨lv,L',E⟩,[],e0⟩)∧L'.length=L.length∧∀i,i<L.length->(∀p∈os,p.1≠i)->(∀ver n,v ≠ .hs lv i ver 0 n false)->L'[i]? = L[i]? := by
 have hA:=h;obtain⟨⟨ks,h1,h2,h3,h4⟩,h5⟩:=h;have hjl:=(Qaa.1 hj).1;have hk:ks[j]? = some (ks[j]'(by omega)):=Qab _;generalize ks[j]'(by omega)=k at hk;have hAt:=h2 j k _ hk hj
 have hkeys:∀p'∈os',∀t:Nat,ks[t]? ≠ some (some p'.1):=λp' hp' t=>by
  obtain⟨o,ho,_⟩:=hos.mem p' hp';exact(h4 _ ho).2 t
 have hnd:(os'.map (·.1)).Nodup:=by rw[hos.map];exact h5
 have hfind:∀p'∈os',os'.find? (λp=>p.1==p'.1)=some p':=λp' hp'=>by
  cases hq:os'.find? (λp=>p.1==p'.1)with
  |none=>rw[List.find?_eq_none]at hq;have:=hq p' hp';simp at this
  |some q=>
   have hq1:=List.find?_some hq;have hq2:=List.mem_of_find?_eq_some hq;simp at hq1;obtain⟨a,ha⟩:=List.mem_iff_getElem?.1 hp';obtain⟨b,hb⟩:=List.mem_iff_getElem?.1 hq2;have ha':(os'.map (·.1))[a]? = some p'.1:=by simp[ha]
   have hb':(os'.map (·.1))[b]? = some p'.1:=by simp[hb,hq1]
   have hlt:=(Qaa.1 ha').1;have:=(List.getElem?_inj hlt hnd).1 (ha'.trans hb'.symm);subst this;rw[ha]at hb;exact hb.symm
 have hother:∀n:Nat,n<L.length->k≠some n->(∀p'∈os',p'.1≠n)->(told L k os')[n]? = some (L[n]?).join:=λn hn h6 h7=>by
  rw[z9n hn,Qbr h6]
  have:os'.find? (λp=>p.1==n)=none:=by
   rw[List.find?_eq_none];intro p hp;have:=h7 p hp;simpa using this
  rw[this]
 refine⟨told L k os',⟨⟨⟨ks.eraseIdx j,?_,λt kk a hkk ha =>?_,λt t2 n ht1 ht2 =>?_,λp' hp'=>⟨?_,λt ht1 =>?_⟩⟩,hnd⟩,?_⟩,zcl _ _ _,λi hi hp hv =>?_⟩
 rotate_right
 ·rw[hother i hi (λe=>by
   subst e;obtain⟨ver,cp,q1,q2⟩:=hAt
   exact hv _ _ q1) (λp' hp' e=>by
   obtain⟨o,ho,_⟩:=hos.mem p' hp'
   exact hp _ ho e),Qab hi];rfl
 ·rw[List.length_eraseIdx,List.length_eraseIdx];simp[h1]
 ·obtain⟨t2,e1,e2,e3⟩:∃t2:Nat,t2≠j∧ks[t2]? = some kk∧as[t2]? = some a:=by
   rw[List.getElem?_eraseIdx]at hkk ha;by_cases hlt:t<j
   ·rw[Qbq hlt]at hkk ha;exact⟨t,by omega,hkk,ha⟩
   ·rw[Qbr hlt]at hkk ha;exact⟨t+1,by omega,hkk,ha⟩
  have hat:=h2 t2 kk a e2 e3
  cases kk with
  |none=>exact hat
  |some n=>
   have hlt:=hat.lt;obtain⟨ver,cp,q1,q2⟩:=hat;refine⟨ver,cp,q1,?_⟩;rw[hother n hlt (λe=>e1 (h3 t2 j n e2 (by rw[hk,e]))) (λp' hp' e=>hkeys p' hp' t2 (by rw[e2,e])),q2];rfl
 ·have key:∀t:Nat,(ks.eraseIdx j)[t]? = some (some n)->∃t2:Nat,ks[t2]? = some (some n)∧t2=if t<j then t else t+1:=λt ht=>by
   rw[List.getElem?_eraseIdx]at ht;by_cases hlt:t<j
   ·rw[Qbq hlt]at ht;exact⟨t,ht,by rw[Qbq hlt]⟩
   ·rw[Qbr hlt]at ht;exact⟨t+1,ht,by rw[Qbr hlt]⟩
  obtain⟨a,a1,a2⟩:=key t ht1;obtain⟨b,b1,b2⟩:=key t2 ht2;have:=h3 a b n a1 b1;subst this;split at a2 <;> split at b2 <;> omega
 ·obtain⟨o,ho,_⟩:=hos.mem p' hp';have hlt:=(Qaa.1 (h4 _ ho).1).1;rw[z9n hlt,Qbr (λe=>hkeys p' hp' j (by rw[hk,e])),hfind p' hp']
 ·rw[List.getElem?_eraseIdx]at ht1;split at ht1
  ·exact hkeys p' hp' _ ht1
  ·exact hkeys p' hp' _ ht1
 ·refine ztp (σ:=⟨t,⟨lv,L,E⟩,[],e0⟩) (v:=v) (r:=.sl sz xs false) (zcl _ _ _) (λm o' hm =>?_) ht rfl (λW g hG hown hf c hc =>?_)
  ·have hlt:m<L.length:=by have:=(Qaa.1 hm).1;rw[zcl]at this;exact this
   rw[z9n hlt]at hm;injection hm with hm;split at hm
   ·cases hm
   ·split at hm
    ·rename_i p hp;injection hm with hm;have hp1:=List.find?_some hp;simp at hp1;obtain⟨o,ho,hfo⟩:=hos.mem p (List.mem_of_find?_eq_some hp);refine⟨o,?_,by rw[<-hm];exact hfo⟩;have:=(h4 _ ho).1;rw[hp1]at this;exact this
    ·refine⟨o',?_,.inl rfl⟩;show L[m]? = _;rw[Qab hlt]at hm ⊢;simp at hm;rw[hm]
  ·cases k with
   |none=>
    rcases hAt with ⟨q1,q2⟩|⟨q1,_⟩
    ·simp only at q1 q2;subst q1;subst q2;exact(VLe.nil _ _).rel (hf hc)
    ·simp only at q1;subst q1;exact(VLe.full _ _).rel (hf hc)
   |some i=>
    obtain⟨ver,cp,q1,q2⟩:=hAt;simp only at q1 q2;subst q1;have hg:Heap.get ⟨lv,L,E⟩ lv i=some (.arr ver ty sz xs cp):=by unfold Heap.get;rw[Qbq rfl,q2];rfl
    have hi:=(Qaa.1 q2).1
    have hno:¬Own g ⟨lv,told L (some i) os',E⟩ (g.ab lv i):=λ⟨l,i',o',ho',hob⟩=>by
     have hgot:∃o,Heap.get ⟨lv,L,E⟩ l i'=some o∧o'.blk g l i'=o.blk g l i'∧¬(l=lv∧i'=i):=by
      unfold Heap.get at ho' ⊢;dsimp only at ho' ⊢;by_cases hl:l=lv
      ·rw[Qbq hl]at ho' ⊢
       cases hq:(told L (some i) os')[i']? with
       |none=>rw[hq]at ho';simp at ho'
       |some q=>
        have hlt:i'<L.length:=by have:=(Qaa.1 hq).1;rw[zcl]at this;exact this
        rw[z9n hlt]at hq;injection hq with hq;rw[z9n hlt]at ho';simp only[Option.join_some]at ho';split at ho'
        ·cases ho'
        ·rename_i hne;split at ho'
         ·rename_i p hp;injection ho' with ho';have hp1:=List.find?_some hp;simp at hp1;obtain⟨o,ho,hfo⟩:=hos.mem p (List.mem_of_find?_eq_some hp);have:=(h4 _ ho).1;rw[hp1]at this;exact⟨o,by rw[this];rfl,by rw[<-ho'];exact hfo.blk g l i',λe=>hne (by rw[e.2])⟩
         ·exact⟨o',ho',rfl,λe=>hne (by rw[e.2])⟩
      ·rw[Qbr hl]at ho' ⊢;exact⟨o',ho',rfl,λe=>hl e.1⟩
     obtain⟨o,w1,w2,w3⟩:=hgot;exact w3 (hG.inj _ _ _ _ _ _ w1 hg (by rw[<-w2];exact hob))
    cases hc with
    |hs _ _ _ _ _ _ a m cap hd hv ha=>
     obtain⟨rfl,rfl,⟨hcap',hcap2,hff⟩,hle⟩:=ha _ _ _ _ hg;obtain⟨cur,k1,k2,k3,k3',k4,k5,k6⟩:=zn8 hG hg
     have cells:∀(j:Nat) (y:V) (t:Nat) (u:V),xs[j]? = some y->y.cells[t]? = some u->Rel W g ⟨lv,told L (some i) os',E⟩ u (cur.getD (j * sz+t) undef)∧(cur.getD (j * sz+t) undef).oneCell'=true∧j * sz+t<cur.size:=λj y t u hj ht=>by
      have hjl:=(Qaa.1 hj).1;have hxl:=k6.1 _ _ hj;have htl:=(Qaa.1 ht).1;refine⟨hf (k6.2.2 _ _ _ _ hj ht),k6.2.1 _ _ _ _ hj ht,?_⟩;rw[k3];exact zpd (by omega) (by omega)
     refine .sl sz xs false (g.ab lv i) (0 * sz) cap (λj t=>cur.getD (j * sz+t) undef) hno k2 (by omega) (by simp) (λj y hj=>k6.1 _ _ hj) (λj y t u hj ht =>?_) (λj y t u hj ht=>(cells j y t u hj ht).2.1) (λj y t u hj ht=>(cells j y t u hj ht).1);have:=cell_of k1 (cells j y t u hj ht).2.2;rw[<-this];congr 2;omega
theorem z4t.freeze{lv:Nat}{L:List (Option zz2)}{as:List zai}{os os':List (Nat×zz2)}(h:z4t lv L as os){j ty sz:Nat}{v:V}{xs:List V}{w:Bool}(hj:as[j]? = some ⟨ty,sz,v,xs,w⟩){t t':List V}
  (ht:FVL v (.sl sz xs false) t t') (hos:FOL v (.sl sz xs false) os os') (E e0:Nat->Nat->Option zz2):∃L',z4t lv L' (as.eraseIdx j) os'∧zdp ⟨t,⟨lv,L,E⟩,[],e0⟩ ⟨t',⟨lv,L',E⟩,[],e0⟩:=by
 obtain⟨L',h1,_⟩:=h.y4u hj ht hos E e0;exact⟨L',h1⟩
theorem y2b{W:World}{g:Gh}{H:Heap}{u v:V}{cs:Array Value}(h:zd5 W g H [u,v] cs):∃x y,cs = #[x,y]∧Rel W g H u x∧Rel W g H v y:=by
 obtain⟨h1,h2⟩:=h
 cases cs with|mk l=>
 match l,h1 with
 |[x,y],_=>exact⟨x,y,rfl,h2 0 u rfl,h2 1 v rfl⟩
theorem zoy{T:Type}(f:T->V)(k:B8):∀(m:List (B8×T)) (i:Nat),zpv .string (.str k) (m.map λp=>(.str p.1,f p.2)) i =
  some (match m.findIdx? (λp=>k==p.1)with|none=>none|some j=>(m[j]?).map λp=>(i+j,f p.2))
 |[],i=>rfl
 |p::m,i=>by
  simp only[List.map_cons,zpv,y04]
  cases hk:k==p.1 with
  |true=>simp[List.findIdx?_cons,hk]
  |false=>
   simp only[Bool.false_eq_true,if_false];rw[zoy f k m (i+1),List.findIdx?_cons,hk];simp only[Bool.false_eq_true,if_false]
   cases m.findIdx? (λp=>k==p.1)with
   |none=>rfl
   |some j=>simp;cases m[j]? <;> simp;omega
theorem y89{T:Type}(m:List (B8×T))(k:B8):z9p m k=match m.findIdx? (λp=>k==p.1)with|none=>none|some j=>(m[j]?).map (·.2):=by
 unfold z9p
 induction m with
 |nil=>rfl
 |cons p m ih=>
  rw[List.find?_cons,List.findIdx?_cons]
  cases hk:k==p.1 with
  |true=>simp
  |false=>
   simp only[Bool.false_eq_true,if_false];rw[ih]
   cases m.findIdx? (λp=>k==p.1)with
   |none=>rfl
   |some j=>simp
theorem y4c{T:Type}{f:T->V}{m:List (B8×T)}{H:Heap}{t kt e l i:Nat}{z:V}(ht:P.underlying t=some (.map kt e))(hk:P.underlying kt=some .string)(hz:zeroV P e=some z)(hg:H.get l i=some (.map (m.map λp=>(.str p.1,f p.2))))(k:B8)(z0:T)(h0:f z0=z) :
  zhd P H t (.map l i) (.str k) false=some (f ((z9p m k).getD z0))∧zhd P H t (.map l i) (.str k) true=some (.tup [f ((z9p m k).getD z0),.bool (z9p m k).isSome]):=by
 unfold zhd;simp only[ht,y9m,hg,zk7,hk,hz,zoy,y89]
 cases hq:m.findIdx? (λp=>k==p.1)with
 |none=>simp[h0]
 |some j=>
  have hj:j<m.length:=by
   rw[List.findIdx?_eq_some_iff_getElem]at hq;exact hq.1
  simp[hj]
theorem y2x{T:Type}{f:T->V}{m:List (B8×T)}{lv:Nat}{L:List (Option zz2)}{E:Nat->Nat->Option zz2}{t kt e i:Nat}(ht:P.underlying t=some (.map kt e))(hk:P.underlying kt=some .string)(hg:L[i]? = some (some (.map (m.map λp=>(.str p.1,f p.2)))))(k:B8)(x:T){y:V}(hy:y=f x) :
  za6 P ⟨lv,L,E⟩ t (.map lv i) (.str k) y=some (.any,⟨lv,L.set i (some (.map ((zal m k x).map λp=>(.str p.1,f p.2)))),E⟩):=by
 subst hy;have hget:Heap.get ⟨lv,L,E⟩ lv i=some (.map (m.map λp=>(.str p.1,f p.2))):=by unfold Heap.get;rw[Qbq rfl,hg];rfl
 unfold za6;simp only[ht,hget,zk7,hk,zoy,zal,Heap.set,if_true]
 cases hq:m.findIdx? (λp=>k==p.1)with
 |none=>simp[zig]
 |some j=>
  have hj:j<m.length:=by
   rw[List.findIdx?_eq_some_iff_getElem]at hq;exact hq.1
  simp[zig,hj,List.map_set]
@[simp] theorem y8c (t l i:Nat) (H:Heap):zg8 P H t (.map l i)=match P.underlying t with|some (.map _ _)=>(match H.get l i with|some (.map es)=>some (.int .i64 es.length)|_=>none)|_=>none:=rfl
end
def zx7{α:Type}(xs:List α)(a b:Int):Option (List α) :=
 if 0<=a∧a<=xs.length∧0<=b∧b<xs.length then
  some (xs.take a.toNat++((xs.drop b.toNat).take (min (xs.length-b.toNat) (xs.length-a.toNat))++xs.drop (a.toNat+min (xs.length-b.toNat) (xs.length-a.toNat))))else none
section
variable {P : Program}
theorem zmu{t e sz:Nat}{H:Heap}{l i ver n:Nat}{ty:Nat}{xs:List V}{cp:Option Nat}(ht:P.underlying t=some (.slice e))(hz:sz=P.cellsOf e)(he:(P.underlying e).isSome=true)(hg:H.get l i=some (.arr ver ty sz xs cp)){a:Int}(h0:0<=a)(h1:a.toNat<=n) :
  zan P H t (.hs l i ver 0 n false) (some (.int .i64 a)) none none=some (if a.toNat=0∨a.toNat<n then .hs l i ver a.toNat (n-a.toNat) false else .sl sz [] false):=by
 have hb:za0 n (some (.int .i64 a)) none none=some (a.toNat,n,none):=by
  have h2:a<=(n:Int):=by omega
  simp[za0,bnd,h0,h2]
 simp only[zan,ht,hg];rw[Qbq ⟨trivial,hz,he⟩,hb];simp only[Qbl,Nat.zero_add,Bool.false_and];split <;> rfl
theorem z4t.shift{lv:Nat}{L:List (Option zz2)}{al:List zai}{ol:List (Nat×zz2)}(h:z4t lv L al ol){j ty sz:Nat}{v:V}{xs:List V}(hj:al[j]? = some ⟨ty,sz,v,xs,true⟩){t e:Nat}(ht:P.underlying t=some (.slice e))
  (hz:sz=P.cellsOf e) (he:(P.underlying e).isSome=true) (hi:(P.info? e).isSome=true) {a b:Int}{ys:List V}(hs:zx7 xs a b=some ys) (E:Nat->Nat->Option zz2) :
  ∃(q1 q2:V) (L':List (Option zz2)) (m:Int),zan P ⟨lv,L,E⟩ t v (some (.int .i64 a)) none none=some q1∧zan P ⟨lv,L,E⟩ t v (some (.int .i64 b)) none none=some q2 ∧
   znn P ⟨lv,L,E⟩ t q1 q2=some (.int .i64 m,⟨lv,L',E⟩)∧z4t lv L' (al.set j ⟨ty,sz,v,ys,true⟩) ol:=by
 unfold zx7 at hs;split at hs
 ·rename_i hc;injection hs with hs;obtain⟨c1,c2,c3,c4⟩:=hc;have hne:xs≠[]:=λhh=>by subst hh;simp at c4;omega
  rcases h.form hj with ⟨rfl,rfl⟩|⟨rfl,hw⟩|⟨k,ver,cp,rfl,hL⟩
  ·exact(hne rfl).elim
  ·exact(hne (hw rfl)).elim
  ·have hg:(⟨lv,L,E⟩:Heap).get lv k=some (.arr ver ty sz xs cp):=by simp[Heap.get,hL]
   have s1:=zmu (n:=xs.length) ht hz he hg c1 (by omega);have s2:=zmu (n:=xs.length) ht hz he hg c3 (by omega);rw[Qbq (show b.toNat=0∨b.toNat<xs.length by omega)]at s2;by_cases hlt:a.toNat=0∨a.toNat<xs.length
   ·rw[Qbq hlt]at s1;refine⟨_,_,L.set k (some (.arr ver ty sz ys cp)),(min (xs.length-b.toNat) (xs.length-a.toNat):Nat),s1,s2,?_,h.accs.setAt hj rfl hL hne ?_,h.nodup⟩
    ·simp only[znn,ht,hg];rw[Qbq hi,Qbq ⟨trivial,trivial,trivial⟩,Qbq ⟨trivial,hz⟩];rw[hs];simp[Heap.set]
    ·rw[<-hs];simp;omega
   ·rw[Qbr hlt]at s1;have e1:xs.length-a.toNat=0:=by omega
    have hys:ys=xs:=by
     rw[<-hs,e1,Nat.min_zero,List.take_zero,List.nil_append,Nat.add_zero,List.take_append_drop]
    refine⟨_,_,L,0,s1,s2,?_,?_⟩
    ·simp only[znn,ht,hg];rw[Qbq hi,Qbq trivial]
    ·rw[hys]
     have:al.set j ⟨ty,sz,.hs lv k ver 0 xs.length false,xs,true⟩=al:=by
      refine List.ext_getElem? λq =>?_
      rw[Qbd];split
      ·rename_i hq;subst hq;rw[hj,Qbq (Qaa.1 hj).1]
      ·rfl
     rw[this];exact h
 ·cases hs
end
theorem yaf{W:World}{g:Gh}{H H':Heap}(hown:∀b,Own g H' b->Own g H b)(hf:∀{x:V}{c:Value},Rel W g H x c->Rel W g H' x c){l i:Nat}{o:zz2}(ho:z71 W g H l i o):z71 W g H' l i o:=by
 cases o with
 |cells cs=>
  obtain⟨c,ty,k1,k2,k3,k4⟩:=ho
  exact⟨c,ty,k1,k2,k3,λj x hj=>hf (k4 j x hj)⟩
 |arr ver ty sz xs cp=>
  obtain⟨c,k1,k3,k4,k4',k5,k6,k7,k8,k9⟩:=ho
  exact⟨c,k1,k3,k4,k4',k5,k6,k7,k8,λj x t v hj ht=>hf (k9 j x t v hj ht)⟩
 |map es=>
  obtain⟨en,clock,k1,k2,k3,k4,k5⟩:=ho;refine⟨en,clock,k1,k2,k3,k4,λj p hj =>?_⟩;obtain⟨e,he,m1,m2⟩:=k5 j p hj
  exact⟨e,he,hf m1,hf m2⟩
 |siter s pos=>exact ho
 |mit es vis=>
  obtain⟨en,clock,mb,k1,k2,k3,k4⟩:=ho;exact⟨en,clock,mb,k1,λhn=>k2 (hown _ hn),k3,k4⟩
def Heap.zl9(H:Heap)(i:Nat):Heap:=⟨H.lv,H.L.set i none,H.E⟩
theorem Heap.z5r{H:Heap}{i l k:Nat}{o:zz2}(h:(H.zl9 i).get l k=some o):H.get l k=some o∧¬(l=H.lv∧k=i):=by
 unfold Heap.get Heap.zl9 at h;dsimp only at h;by_cases hl:l=H.lv
 ·rw[Qbq hl,Qbd]at h;by_cases hk:i=k
  ·subst hk;rw[Qbq rfl]at h;split at h <;> simp at h
  ·rw[Qbr hk]at h;exact⟨by unfold Heap.get;rw[Qbq hl];exact h,λe=>hk e.2.symm⟩
 ·rw[Qbr hl]at h;exact⟨by unfold Heap.get;rw[Qbr hl];exact h,λe=>hl e.1⟩
theorem zvh{W:World}{g:Gh}{H:Heap}{i:Nat}{o:zz2}(hG:Good W g H)(hi:H.get H.lv i=some o) :
  Good W g (H.zl9 i)∧Step W g H W g (H.zl9 i)∧(∀{x:V}{c:Value},Rel W g H x c->Rel W g (H.zl9 i) x c)∧¬Own g (H.zl9 i) (o.blk g H.lv i):=by
 have hown:∀b,Own g (H.zl9 i) b->Own g H b:=λb ⟨l,k,q,hq,hb⟩=>⟨l,k,q,(Heap.z5r hq).1,hb⟩
 have harr:∀l k ver ty sz xs cp,(H.zl9 i).get l k=some (.arr ver ty sz xs cp)->H.get l k=some (.arr ver ty sz xs cp):=λl k ver ty sz xs cp h=>(Heap.z5r h).1
 have hf:∀{x:V}{c:Value},Rel W g H x c->Rel W g (H.zl9 i) x c:=λh=>Rel.zpm hown harr h
 refine⟨⟨λl k q h=>hG.dom l k q (Heap.z5r h).1,λl k q h=>hG.lt l k q (Heap.z5r h).1,λl k q l' k' q' h h' hb=>hG.inj l k q l' k' q' (Heap.z5r h).1 (Heap.z5r h').1 hb,λl k h =>?_,λl k q h=>yaf hown hf (hG.obj l k q (Heap.z5r h).1),hG.zf4.zpm hown,hG.base⟩,
  ⟨rfl,rfl,rfl,Qbp _,λ_ _ _=>rfl,λb h=>.inl (hown b h),λ_ _ h=>h,λ_ _ h=>.inl h,λ_ _ _=>rfl,λl k ver ty sz xs cp hd h=>⟨ver,xs,cp,harr _ _ _ _ _ _ _ h,Qbp _,λ_=>⟨rfl,rfl,Qbp _⟩⟩,rfl,rfl⟩,hf,λ⟨l,k,q,hq,hb⟩ =>?_⟩
 ·rcases hG.fresh l k h with q|⟨q1,q2⟩
  ·exact .inl q
  ·exact .inr ⟨q1,by simpa[Heap.zl9]using q2⟩
 ·obtain⟨h1,h2⟩:=Heap.z5r hq;exact h2 (hG.inj _ _ _ _ _ _ h1 hi hb)
section
variable {W : World} {g : Gh} {H : Heap} {P : Program}
theorem Rel.yd1(l i:Nat){W':World}{g':Gh}{H':Heap}{ty sz:Nat}{xs:List V}{cp:Option Nat}(hd:g'.dom l i)(hg:H'.get l i=some (.arr 0 ty sz xs cp)):Rel W' g' H' (.ap l i 0 0 0) (.pointer (some ⟨g'.ab l i,0,none⟩)):=by
 refine .ap l i 0 0 0 _ hd (λ_ _ _ _ _ _=>Qbo _) λty sz xs cp _ =>?_
 simp
def yce(P:Program)(t:Nat):Bool:=match P.info? t with
 |some i=>match i.desc with
  |.named n _=>n == "strings.Builder"
  |_=>false
 |none=>false
def zrj(P:Program)(H:Heap)(t:Nat):Option (V×Heap):=match zeroV P t,P.info? t with
 |some z,some i=>if z.zz7&&z.cells.length==i.size&&Nat.blt 0 i.size then some (.ap H.lv H.L.length 0 0 0,H.push (.arr 0 t i.size [z] (some 1)))else none
 |_,_=>none
theorem y01{W':World}{g':Gh}{H':Heap}{l i:Nat}{ver ty sz:Nat}{z:V}{c:Array Value}(hc:g'.cap l i=1)(h:W'.heap[g'.ab l i]? = some (.cells c ty (0,0)))(hsz:0<sz)(hl:z.cells.length=sz)(hr:zjd W' g' H' z.cells c):z71 W' g' H' l i (.arr ver ty sz [z] (some 1)):=by
 have one:∀{j:Nat}{x:V},[z][j]? = some x->j=0∧x=z:=λ{j x} hj=>by
  cases j with
  |zero=>simp at hj;exact⟨rfl,hj.symm⟩
  |succ j=>simp at hj
 refine⟨c,h,hsz,by rw[hr.1,hl,hc,Nat.one_mul],by rw[hc];decide,by rw[hc];simp,λn hn=>by injection hn with hn;rw[hc,hn],λj x hj =>?_,λj x t v hj ht =>?_,λj x t v hj ht =>?_⟩
 ·obtain⟨_,rfl⟩:=one hj;exact hl
 ·obtain⟨rfl,rfl⟩:=one hj;rw[Nat.zero_mul,Nat.zero_add];exact hr.2.1 t v ht
 ·obtain⟨rfl,rfl⟩:=one hj;rw[Nat.zero_mul,Nat.zero_add];exact hr.2.2 t v ht
theorem zxp(hG:Good W g H){t:Nat}{v:V}{H':Heap}(h:zrj P H t=some (v,H')):z1y P W g H (do pure (.value (<-Instr.alloc t true (.tuple #[])))) v H':=by
 unfold zrj at h;split at h
 ·rename_i z i hz hi;split at h
  ·rename_i hc;simp only[Qaf,Qbh,Nat.blt_eq]at hc;obtain⟨⟨c1,c2⟩,c3⟩:=hc;injection h with h;injection h with h1 h2;subst h1;subst h2;obtain⟨zc,hz1,hz2⟩:=zg9 (W:=W) (g:=g) (H:=H) hz;have hr:=z8g c1 hz2
   obtain⟨h1,h2⟩:=zae hG (O:=.cells zc.cells t) (o:=.arr 0 t i.size [z] (some 1)) 1 (λW' g' H' hW hg hH hst=>by
    refine y01 (c:=zc.cells) (by rw[hg];simp[Gh.add]) ?_ c3 c2 (hr.mono hst);rw[hW,hg];simp only[Gh.add,and_self,if_true]
    exact zzy _ _)
   refine⟨.pointer (some ⟨W.heap.size,0,none⟩),_,_,.inl (by simp[Instr.alloc,hz1,newVar,newRow]),h1,h2,?_⟩;have hgt:(H.push (.arr 0 t i.size [z] (some 1))).get H.lv H.L.length=some (.arr 0 t i.size [z] (some 1)):=by rw[Heap.zb9,Qbq ⟨rfl,rfl⟩]
   have:=Rel.yd1 (W':=W.alloc (.cells zc.cells t)) (g':=g.add H.lv H.L.length W.heap.size 1) H.lv H.L.length (.inr ⟨rfl,rfl⟩) hgt;simpa[Gh.add]using this
  ·cases h
 ·cases h
def y5w(H:Heap):V->Option (Nat×Nat×Nat×Nat)
 |.ap l i ver idx off=>match H.get l i with
  |some (.arr ver' ty sz xs cp)=>match Nat.beq ver' ver&&Nat.blt (Nat.add (Nat.mul idx sz) off) (Nat.mul xs.length sz)with
   |true=>some (ty,sz,xs.length,Nat.add (Nat.mul idx sz) off)
   |false=>none
  |_=>none
 |_=>none
theorem zk9(hG:Good W g H){x:V}{c:Value}{ty sz n o:Nat}(h:y5w H x=some (ty,sz,n,o))(hx:Rel W g H x c):∃b q cells,c = .pointer (some ⟨b,o,none⟩)∧W.heap[b]? = some (.cells cells ty (0,0))∧cells.size=q * sz∧n<=q∧0<sz∧o<n * sz:=by
 unfold y5w at h;split at h
 ·rename_i l i ver idx off;split at h
  ·rename_i ver' ty' sz' xs cp hg;split at h
   ·rename_i hc;simp only[Qaf]at hc;have e1:ver'=ver:=Qah hc.1;subst e1;injection h with h;injection h with a1 h;injection h with a2 h;injection h with a3 a4;subst a1;subst a2;subst a3;subst a4
    cases hx with
    |ap _ _ _ _ _ a hd hv ha=>
     obtain rfl:=ha _ _ _ _ hg;obtain⟨cc,k1,k2,k3,k3',k4,k5,k6,k7,k8⟩:=hG.obj _ _ _ hg;exact⟨_,g.cap l i,cc,rfl,k1,k3,k4,k2,by have:=hc.2;rw[Nat.blt_eq]at this;exact this⟩
   ·cases h
  ·cases h
 ·cases h
def y3v:V->V->Bool
 |.ap l i v x o,.ap l' i' v' x' o'=>Nat.beq l l'&&Nat.beq i i'&&Nat.beq v v'&&Nat.beq x x'&&Nat.beq o o'
 |_,_=>false
theorem y6k{x y:V}(h:y3v x y=true):x=y:=by
 unfold y3v at h;split at h
 ·simp only[Qaf]at h;obtain⟨⟨⟨⟨h1,h2⟩,h3⟩,h4⟩,h5⟩:=h;rw[Qah h1,Qah h2,Qah h3,Qah h4,Qah h5]
 ·cases h
def y9p(P:Program)(H:Heap)(op:BinOp)(t:Nat)(x y:V):Option V :=
 match y3v x y,y5w H x,P.underlying t with
 |true,some _,some (.pointer e)=>match (P.info? e).isSome,op with
  |true,.eql=>some (.bool true)
  |true,.neq=>some (.bool false)
  |_,_=>none
 |_,_,_=>none
theorem zr8{tp te:TypeId}{j:TypeInfo}(a:Addr)(hp:P.underlying tp=some (.pointer te))(hte:P.info? te=some j) :
  (binOp .eql tp (.pointer (some a)) (.pointer (some a))).run P W = .ok (.bool true) W:=by
 have h:∀d:Nat,(Op.equalIn (d+1) tp (.pointer (some a)) (.pointer (some a))).run P W = .ok true W:=λd=>by
  simp[Op.equalIn,run_underlying hp,sizeOf,typeInfo,hte,run_sameAddr_same]
 simp only[binOp];simp[Op.equal,Op.maxDepth,h 9999]
theorem y3o(hG:Good W g H){op:BinOp}{t:Nat}{x y:V}{v:V}{a b:Value}(xo yo:Operand)(h:y9p P H op t x y=some v)(hx:Rel W g H x a)(hy:Rel W g H y b) :
  z1y P W g H (do pure (.value (<-(do eqGuard op t xo yo a b;binOp op t a b)))) v H:=by
 unfold y9p at h;split at h
 ·rename_i p e h1 h2 h3;obtain rfl:=y6k h1;obtain⟨ty,sz,n,o⟩:=p;obtain⟨blk,q,cells,rfl,k1,k2,k3,k4,k5⟩:=zk9 hG h2 hx
  have hb:b = .pointer (some ⟨blk,o,none⟩):=by
   obtain⟨blk',q',cells',rfl,m1,m2,m3,m4,m5⟩:=zk9 hG h2 hy;unfold y5w at h2;split at h2
   ·rename_i l i ver idx off;split at h2
    ·rename_i ver' ty' sz' xs cp hg;split at h2
     ·rename_i hc;simp only[Qaf]at hc;obtain rfl:ver'=ver:=Qah hc.1
      cases hx with
      |ap _ _ _ _ _ _ _ _ ha=>
       have e1:=ha _ _ _ _ hg
       cases hy with
       |ap _ _ _ _ _ _ _ _ ha'=>
        have e2:=ha' _ _ _ _ hg;rw[e1,e2]
     ·cases h2
    ·cases h2
   ·cases h2
  subst hb;split at h
  ·rename_i hi;obtain⟨j,hj⟩:=Option.isSome_iff_exists.1 hi;injection h with h;subst h;exact⟨_,W,g,.inl (by simp[eqGuard,zr8 _ h3 hj]),.refl _ _ _,hG,.bool _⟩
  ·rename_i hi;obtain⟨j,hj⟩:=Option.isSome_iff_exists.1 hi;injection h with h;subst h;exact⟨_,W,g,.inl (by simp[eqGuard,Lib.run_neq_ptr_same _ _ h3 hj]),.refl _ _ _,hG,.bool _⟩
  ·cases h
 ·cases h
def y9e(H:Heap):V->Bool
 |.ap l i _ _ _=>match H.get l i with
  |some (.arr _ _ _ _ (some 1))=>true
  |_=>false
 |_=>false
def y94(P:Program)(H:Heap)(s d:Nat)(x:V):Option V :=
 match P.underlying s,P.underlying d,y5w H x with
 |some (.pointer t),some .unsafePointer,some _=>match P.info? t with
  |some j=>match Nat.blt 0 j.size with
   |true=>some x
   |false=>none
  |none=>none
 |some .unsafePointer,some (.pointer u),some (ty,sz,n,o)=>match P.info? u with
  |some _=>match Nat.beq (P.cellsOf ty) sz&&Nat.beq n 1&&y9e H x&&liesAt P P.depth ty 1 o u 1 with
   |true=>some x
   |false=>none
  |none=>none
 |_,_,_=>none
theorem y4g(hG:Good W g H){s d:Nat}{x v:V}{c:Value}(h:y94 P H s d x=some v)(hx:Rel W g H x c):z1y P W g H (do pure (.value (<-convert s d c))) v H:=by
 unfold y94 at h;split at h
 ·rename_i t p hs hd hp;obtain⟨ty,sz,n,o⟩:=p;obtain⟨blk,q,cells,rfl,k1,k2,k3,k4,k5⟩:=zk9 hG hp hx;split at h
  ·rename_i j hj;split at h
   ·rename_i hz;rw[Nat.blt_eq]at hz;injection h with h;subst h;have hlt:o<cells.size:=by rw[k2];exact Qbe k5 (Qas _ k3)
    exact⟨_,W,g,.inl (by simp[Lib.run_to_unsafe W ⟨blk,o,none⟩ hs hd hj (by omega) (show W.shape? blk=some (ty,cells.size) by simp[World.shape?,k1]) hlt]),.refl _ _ _,hG,hx⟩
   ·cases h
  ·cases h
 ·rename_i u ty sz n o hs hd hp;obtain⟨blk,q,cells,rfl,k1,k2,k3,k4,k5⟩:=zk9 hG hp hx;split at h
  ·rename_i j hj;split at h
   ·rename_i hz;simp only[Qaf]at hz;obtain⟨⟨⟨z1,z2⟩,z3⟩,z4⟩:=hz;have e1:P.cellsOf ty=sz:=Qah z1;injection h with h;subst h
    have hcells:cells.size=sz:=by
     unfold y9e at z3;split at z3
     ·rename_i l i ver idx off;split at z3
      ·rename_i ver' ty' sz' xs hg
       cases hx with
       |ap _ _ _ _ _ a _ _ ha=>
        simp only[y5w,hg]at hp;split at hp
        ·rename_i hc;simp only[Qaf]at hc;obtain rfl:ver'=ver:=Qah hc.1;injection hp with hp;injection hp with a1 hp;injection hp with a2 hp;injection hp with a3 a4;have:=ha _ _ _ _ hg;injection this with e1' e2';obtain⟨cc,m1,m2,m3,m3',m4,m5,_⟩:=hG.obj _ _ _ hg;rw[<-e1',k1]at m1;injection m1 with m1;injection m1 with m1 _ _;rw[m1,m3,m5 1 rfl,Nat.one_mul,a2]
        ·cases hp
      ·cases z3
     ·cases z3
    have hq:cells.size / P.cellsOf ty=1:=by rw[hcells,e1];exact Nat.div_self k4
    exact⟨_,W,g,.inl (by simp[Lib.run_from_unsafe W (e:=ty) (cells:=cells.size) ⟨blk,o,none⟩ hs hd hj (by simp[World.shape?,k1]) (by rw[hq];exact z4)]),.refl _ _ _,hG,hx⟩
   ·cases h
  ·cases h
 ·cases h
def zmz(H:Heap)(x:V):Option V:=match x with
 |.nils=>some .nilp
 |.hs l i ver off n full=>match H.get l i with
  |some (.arr ver' _ _ _ _)=>match Nat.beq ver' ver&&Nat.blt 0 n with
   |true=>some (.ap l i ver off 0)
   |false=>none
  |_=>none
 |_=>none
theorem zqf(hG:Good W g H){x v:V}{c:Value}{ts:Array TypeId}{ty:TypeId}(h:zmz H x=some v)(hx:Rel W g H x c):z1y P W g H (do pure (.value (<-Builtin.unsafeSliceData_ ts ty #[c]))) v H:=by
 unfold zmz at h;split at h
 ·injection h with h;subst h
  cases hx with
  |nils=>exact⟨_,W,g,.inl (by simp[Lib.run_unsafeSliceData_nil]),.refl _ _ _,hG,.nilp⟩
 ·rename_i l i ver off n full;split at h
  ·rename_i ver' ty' sz xs cp hg;split at h
   ·rename_i hc;simp only[Qaf]at hc;obtain rfl:ver'=ver:=Qah hc.1;have hn:0<n:=by have:=hc.2;rwa[Nat.blt_eq]at this
    injection h with h;subst h
    cases hx with
    |hs _ _ _ _ _ _ a m cap hd hv ha=>
     obtain⟨rfl,rfl,⟨e1,e2,e3⟩,e4⟩:=ha _ _ _ _ hg;refine⟨_,W,g,.inl (by rw[Qbt,Lib.run_unsafeSliceData_row W ts ty _ _ cap (by omega)];rfl),.refl _ _ _,hG,?_⟩;refine .ap l i ver' off 0 _ hd hv λty2 sz2 xs2 cp2 h2 =>?_
     obtain⟨q1,_⟩:=ha _ _ _ _ h2;injection q1
   ·cases h
  ·cases h
 ·cases h
def zcz:List V->Option B8
 |[]=>some []
 |v::r=>match v,zcz r with
  |.int .u8 (.ofNat m),some s=>match Nat.ble m 255 with
   |true=>some (m.toUInt8::s)
   |false=>none
  |_,_=>none
theorem zff:∀{vs:List V}{s:B8},zcz vs=some s->s.length=vs.length∧∀(j:Nat) (x:UInt8),s[j]? = some x->vs[j]? = some (.int .u8 x.toNat)
 |[],s,h=>by simp only[zcz,Qbn]at h;subst h;exact⟨rfl,by simp⟩
 |v::r,s,h=>by
  simp only[zcz]at h;split at h
  ·rename_i m s' h2;split at h
   ·rename_i hc;injection h with h;subst h;obtain⟨k1,k2⟩:=zff h2;refine⟨by simp[k1],λj x hj =>?_⟩
    cases j with
    |zero=>
     simp only[Qbv,Qbn]at hj ⊢;subst hj;have hc:=Nat.le_of_ble_eq_true hc
     have:(m.toUInt8).toNat=m:=by
      simp only[Nat.toUInt8,UInt8.toNat_ofNat'];omega
     rw[this];rfl
    |succ j=>simpa using k2 j x (by simpa using hj)
   ·cases h
  ·cases h
def y2l(P:Program)(H:Heap)(pt:Nat)(p n:V):Option (V×Heap) :=
 match p,n with
 |.nilp,.int .i64 (.ofNat 0)=>some (.str [],H)
 |.ap l i ver 0 0,.int .i64 (.ofNat m)=>match H.get l i,P.underlying pt with
  |some (.arr ver' ty sz xs cp),some (.pointer e)=>match Nat.beq ver' ver&&Nat.beq sz 1&&Nat.beq l H.lv&&Nat.beq e ty&&Nat.beq (P.cellsOf ty) 1&&Nat.blt 0 m&&Nat.ble m xs.length&&Nat.ble m zau with
   |true=>match zcz (xs.take m)with
    |some s=>some (.str s,H.zl9 i)
    |none=>none
   |false=>none
  |_,_=>none
 |_,_=>none
theorem zyv(hG:Good W g H){pt it ty:Nat}{p n v:V}{H':Heap}{cp cn:Value}(h:y2l P H pt p n=some (v,H'))(hp:Rel W g H p cp)(hn:Rel W g H n cn) :
  z1y P W g H (do pure (.value (<-Builtin.unsafeString_ #[pt,it] ty #[cp,cn]))) v H':=by
 unfold y2l at h;split at h
 ·injection h with h;injection h with h1 h2;subst h1;subst h2;cases hp;cases hn;exact⟨_,W,g,.inl (by rw[Qbt,show Int.ofNat 0=(0:Int)from rfl,Lib.run_unsafeString_none W pt it ty none];rfl),.refl _ _ _,hG,.str []⟩
 ·rename_i l i ver m;split at h
  ·rename_i ver' ty' sz xs cap e hg hpt;split at h
   ·rename_i hc;simp only[Qaf]at hc;obtain⟨⟨⟨⟨⟨⟨⟨c1,c2⟩,c3⟩,c4⟩,c5⟩,c6⟩,c7⟩,c8⟩:=hc;obtain rfl:ver'=ver:=Qah c1;obtain rfl:sz=1:=Qah c2;obtain rfl:l=H.lv:=Qah c3;obtain rfl:e=ty':=Qah c4;have c5:P.cellsOf e=1:=Qah c5;rw[Nat.blt_eq]at c6;have c7:=Nat.le_of_ble_eq_true c7;have c8:=Nat.le_of_ble_eq_true c8
    unfold zau at c8;split at h
    ·rename_i s hs;injection h with h;injection h with h1 h2;subst h1;subst h2;obtain⟨b1,b2⟩:=zff hs;have hsl:s.length=m:=by rw[b1,Qaw];omega
     cases hn
     cases hp with
     |ap _ _ _ _ _ a hd hv ha=>
      obtain rfl:=ha _ _ _ _ hg;obtain⟨cc,k1,k2,k3,k3',k4,k5,k6,k7,k8⟩:=hG.obj _ _ _ hg;have hlt:=hG.lt _ _ _ hg
      have hrun:=Lib.run_unsafeString_row (P:=P) W pt it ty e hpt c5 (g.ab H.lv i) cc.size (by simp[World.shape?,k1]) s (by intro hh;rw[hh]at hsl;simp at hsl;omega) (by rw[hsl,k3];omega) (by omega) (λj x hj=>by
       have hj':=b2 j x hj;have hjm:j<m:=by rw[<-hsl];exact(Qaa.1 hj).1
       rw[Qau,Qbq hjm]at hj';have hrel:=k8 j _ 0 _ hj' rfl;have hadd:(⟨g.ab H.lv i,0,none⟩:Addr).add j=⟨g.ab H.lv i,j,none⟩:=by unfold Addr.add;split <;> simp_all
       have hjc:j<cc.size:=by rw[k3];omega
       rw[hadd,cell_of k1 hjc];rw[Nat.mul_one,Nat.add_zero]at hrel;generalize cc.getD j undef=q at hrel
       cases hrel;rfl)
      rw[hsl]at hrun;obtain⟨g1,g2,g3,g4⟩:=zvh hG hg
      have hfz:∀k,k≠g.ab H.lv i->(W.freeze ⟨g.ab H.lv i,0,none⟩ m).heap[k]? = W.heap[k]? := λk hk=>by
       unfold World.freeze;split
       ·rfl
       ·simp only[Qby];rw[Qbr (λe=>hk e.symm)]
      have hsize:(W.freeze ⟨g.ab H.lv i,0,none⟩ m).heap.size=W.heap.size:=by unfold World.freeze;split <;> simp
      have hos:(W.freeze ⟨g.ab H.lv i,0,none⟩ m).os=W.os∧(W.freeze ⟨g.ab H.lv i,0,none⟩ m).tape=W.tape∧(W.freeze ⟨g.ab H.lv i,0,none⟩ m).output=W.output:=by unfold World.freeze;split <;> exact⟨rfl,rfl,rfl⟩
      have hob:Own g H (g.ab H.lv i):=⟨_,_,_,hg,rfl⟩
      have hst:Step W g H (W.freeze ⟨g.ab H.lv i,0,none⟩ m) g (H.zl9 i) :=
       ⟨hos.1,hos.2.1,hos.2.2,Nat.le_of_eq hsize.symm,λb hb hno=>hfz b (λe=>hno (by rw[e];exact hob)),g2.own,g2.dom,g2.new,g2.blk,g2.arr,g2.lv,rfl⟩
      have hst2:∀l k o,(H.zl9 i).get l k=some o->o.blk g l k≠g.ab H.lv i:=λl k o ho e=>by
       obtain⟨q1,q2⟩:=Heap.z5r ho;exact q2 (hG.inj _ _ _ _ _ _ q1 hg e)
      refine⟨.string ⟨s.toArray⟩,_,g,.inl (by rw[Qbt,show Int.ofNat m=((m:Nat):Int)from rfl,hrun];rfl),hst,⟨g1.dom,λl k o ho=>by rw[hsize];exact g1.lt l k o ho,g1.inj,g1.fresh,λl k o ho =>?_,hG.zf4.step hst,Qbf hG.base hst.size⟩,.str s⟩;have ho':=hG.obj l k o (Heap.z5r ho).1;exact ho'.mono hst (hfz _ (hst2 l k o ho)) rfl rfl rfl
    ·cases h
   ·cases h
  ·cases h
 ·cases h
def zm5(P:Program)(H:Heap)(t:Nat)(n c:V):Option (V×Heap) :=
 match n,c with
 |.int _ (.ofNat n),.int _ (.ofNat c)=>match P.underlying t with
  |some (.slice e)=>match P.info? e,zeroV P e with
   |some i,some z=>match z.zz7&&Nat.beq z.cells.length i.size&&Nat.blt 0 i.size&&Nat.ble n c&&Nat.ble c 1000000&&Nat.ble i.bytes 100000 with
    |true=>some (.hs H.lv H.L.length 0 0 n false,H.push (.arr 0 e i.size (List.replicate n z) none))
    |false=>none
   |_,_=>none
  |_=>none
 |_,_=>none
theorem zqs(hG:Good W g H){t:Nat}{n c v:V}{H':Heap}{cn cc:Value}(h:zm5 P H t n c=some (v,H'))(hn:Rel W g H n cn)(hcc:Rel W g H c cc):z1y P W g H (do pure (.value (<-Instr.makeSlice t cn cc))) v H':=by
 unfold zm5 at h;split at h
 ·rename_i k1 n k2 c;split at h
  ·rename_i e ht;split at h
   ·rename_i i z hi hz;split at h
    ·rename_i hc;simp only[Qaf]at hc;obtain⟨⟨⟨⟨⟨c1,c2⟩,c3⟩,c4⟩,c5⟩,c6⟩:=hc;have c2:=Qah c2;rw[Nat.blt_eq]at c3;have c4:=Nat.le_of_ble_eq_true c4;have c5:=Nat.le_of_ble_eq_true c5;have c6:=Nat.le_of_ble_eq_true c6;injection h with h;injection h with h1 h2;subst h1;subst h2;cases hn;cases hcc
     obtain⟨zc,hz1,hz2⟩:∃zc,i.zero=some zc∧Rel W g H z zc:=by
      simp only[zeroV,hi,Qbl,Qae]at hz;obtain⟨zc,q1,rfl⟩:=hz;exact⟨zc,q1,zfk zc⟩
     obtain⟨r1,r2,r3⟩:=z8g c1 hz2;have hb:i.bytes * c<=100000 * 1000000:=Nat.mul_le_mul c6 c5;have hrun:=run_make (P:=P) W t e i zc ht hi hz1 k1 k2 (Int.ofNat n) (Int.ofNat c) (Int.natCast_nonneg n) (by show((n:Nat):Int)<=(c:Nat);omega) (by show((i.bytes:Nat):Int) * ((c:Nat):Int)<=_;rw[<-Int.natCast_mul];omega) (by show((c:Nat):Int)<=_;omega);simp only[Int.toNat,Int.ofNat_eq_natCast]at hrun
     obtain⟨h1,h2⟩:=zae hG (O:=.cells (madeCells zc.cells (c * i.size)) e) (o:=.arr 0 e i.size (List.replicate n z) none) c (λW' g' H' hW hg hH hst=>by
      have hcap:g'.cap H.lv H.L.length=c:=by rw[hg];simp[Gh.add]
      refine⟨madeCells zc.cells (c * i.size),?_,c3,by rw[hcap,size_madeCells],by rw[hcap];unfold maxLen;omega,by rw[hcap];simpa using c4,by simp,λj x hj =>?_,λj x tt u hj htt =>?_,λj x tt u hj htt =>?_⟩
      ·rw[hW,hg];simp only[Gh.add,and_self,if_true];exact zzy _ _
      all_goals
       rw[Qbj]at hj;split at hj
       ·rename_i hjn;injection hj with hj;subst hj
        first
        |exact c2
        |(have htl:tt<i.size:=by rw[<-c2];exact(Qaa.1 htt).1
          rw[zly zc.cells c j tt i.size (by rw[r1,c2]) htl (by omega)]
          first|exact r2 tt u htt|exact(r3 tt u htt).mono hst)
       ·cases hj)
     refine⟨.slice (some ⟨W.heap.size,0,none⟩) n c,_,_,.inl (by rw[Qbt,show Int.ofNat n=((n:Nat):Int)from rfl,show Int.ofNat c=((c:Nat):Int)from rfl,hrun];rfl),h1,h2,?_⟩;refine .hs H.lv H.L.length 0 0 n false _ n c (.inr ⟨rfl,rfl⟩) (λ_ _ _ _ _ _=>Qbo _) λty2 sz2 xs2 cp2 hg2 =>?_
     rw[Heap.zb9,Qbq ⟨rfl,rfl⟩]at hg2;injection hg2 with hg2;injection hg2 with _ _ _ e4 _;refine⟨by simp[Gh.add],rfl,⟨c4,by simp[Gh.add],λhh=>by cases hh⟩,by rw[<-e4];simp⟩
    ·cases h
   ·cases h
  ·cases h
 ·cases h
theorem zsn(hG:Good W g H){t:Nat}{n c v:V}{cn cc:Value}(h:zbn P t n c=some v)(hn:Rel W g H n cn)(hcc:Rel W g H c cc):z1y P W g H (do pure (.value (<-Instr.makeSlice t cn cc))) v H :=
 (y09 hG h hn hcc).op.turns hG
def isC:Operand->Bool
 |.const _=>true
 |_=>false
def zp0(P:Program)(op:BinOp)(t:Nat)(xo yo:Operand)(x y:V):Option V:=match x,y,isC xo||isC yo,P.underlying t with
 |.nili,.nili,true,some (.interface _)=>match op with
  |.eql=>some (.bool true)
  |.neq=>some (.bool false)
  |_=>none
 |_,_,_,_=>none
theorem y00(hG:Good W g H){op:BinOp}{t:Nat}{xo yo:Operand}{x y v:V}{a b:Value}(h:zp0 P op t xo yo x y=some v)(hx:Rel W g H x a)(hy:Rel W g H y b) :
  z1y P W g H (do pure (.value (<-(do eqGuard op t xo yo a b;binOp op t a b)))) v H:=by
 unfold zp0 at h;split at h
 ·rename_i ms hc hu;cases hx;cases hy
  have hg:(eqGuard op t xo yo .nilIface .nilIface).run P W = .ok () W:=by
   cases xo <;> cases yo <;> first|(simp[isC]at hc;done)|(cases op <;> simp[eqGuard])
  have he:∀d:Nat,(Op.equalIn (d+1) t .nilIface .nilIface).run P W = .ok true W:=λd=>by
   simp[Op.equalIn,zz0 hu]
  have hu':(Op.equal t .nilIface .nilIface).run P W = .ok true W:=he 9999;split at h
  ·injection h with h;subst h;exact⟨_,W,g,.inl (by simp[hg,binOp_eql (a:=.nilIface) rfl,hu']),.refl _ _ _,hG,.bool _⟩
  ·injection h with h;subst h;exact⟨_,W,g,.inl (by simp[hg,binOp_neq (a:=.nilIface) rfl,hu']),.refl _ _ _,hG,.bool _⟩
  ·cases h
 ·cases h
def hEq2(P:Program)(H:Heap)(op:BinOp)(t:Nat)(xo yo:Operand)(x y:V):Option V:=match zp0 P op t xo yo x y with
 |some v=>some v
 |none=>y9p P H op t x y
theorem y7m(hG:Good W g H){op:BinOp}{t:Nat}{xo yo:Operand}{x y v:V}{a b:Value}(h:hEq2 P H op t xo yo x y=some v)(hx:Rel W g H x a)(hy:Rel W g H y b) :
  z1y P W g H (do pure (.value (<-(do eqGuard op t xo yo a b;binOp op t a b)))) v H:=by
 unfold hEq2 at h;split at h
 ·rename_i u hu;injection h with h;subst h;exact y00 hG hu hx hy
 ·exact y3o hG xo yo h hx hy
def y8t(P:Program)(s d:Nat)(x:V):Option V:=match P.underlying s,P.underlying d with
 |some (.slice e),some .string=>match P.underlying e with
  |some (.int .u8)=>match x with
   |.nils=>some (.str [])
   |.sl 1 ws _=>(zcz ws).map .str
   |_=>none
  |_=>none
 |_,_=>none
theorem zm8{s d e:Nat}(a:Option Addr)(c:Nat)(hs:P.underlying s=some (.slice e))(he:P.underlying e=some (.int .u8))(hd:P.underlying d=some .string):(convert s d (.slice a 0 c)).run P W = .ok (.string ⟨#[]⟩) W:=by
 rw[run_convert_bytes_string W s d e _ 0 c hs he hd];cases a <;> simp[Conv.bytesToString,loadCells]
 all_goals rfl
theorem zrr(hG:Good W g H){s d:Nat}{x v:V}{c:Value}(h:y8t P s d x=some v)(hx:Rel W g H x c):z1y P W g H (do pure (.value (<-convert s d c))) v H:=by
 unfold y8t at h;split at h
 ·rename_i e hs hd;split at h
  ·rename_i he;split at h
   ·injection h with h;subst h;cases hx;exact⟨_,W,g,.inl (by simp[zm8 none 0 hs he hd]),.refl _ _ _,hG,.str []⟩
   ·rename_i ws fl;rw[Qae]at h;obtain⟨l,hl,rfl⟩:=h;obtain⟨b1,b2⟩:=zff hl;have nil:ws=[]->l=[]:=λe=>Qam (by rw[b1,e];rfl)
    cases hx with
    |slnil=>
     obtain rfl:=nil rfl
     exact⟨_,W,g,.inl (by simp[zm8 none 0 hs he hd]),.refl _ _ _,hG,.str []⟩
    |sle _ _ a cap hf=>
     obtain rfl:=nil rfl
     exact⟨_,W,g,.inl (by simp[zm8 (some a) cap hs he hd]),.refl _ _ _,hG,.str []⟩
    |sl _ _ _ b o cap cc hb hz hcap hf hss hc h1 hr=>
     have hrun:=run_convert_bytes_back (P:=P) W s d e ⟨b,o,none⟩ cap l hs he hd λj hj=>by
      have e1:ws[j]? = some (.int .u8 l[j].toNat):=b2 j _ (Qab hj);have e2:=hc j _ 0 (.int .u8 l[j].toNat) e1 rfl;have e3:=hr j _ 0 (.int .u8 l[j].toNat) e1 rfl;generalize hq:cc j 0=q at e2 e3;cases e3;rw[<-e2]
      congr 1
      unfold Addr.add;split <;> simp_all
     rw[b1]at hrun;exact⟨_,W,g,.inl (by simp[hrun]),.refl _ _ _,hG,.str l⟩
   ·cases h
  ·cases h
 ·cases h
def y3g(P:Program)(H:Heap)(s d:Nat)(x:V):Option V:=match y94 P H s d x with
 |some v=>some v
 |none=>y8t P s d x
theorem zy8(hG:Good W g H){s d:Nat}{x v:V}{c:Value}(h:y3g P H s d x=some v)(hx:Rel W g H x c):z1y P W g H (do pure (.value (<-convert s d c))) v H:=by
 unfold y3g at h;split at h
 ·rename_i u hu;injection h with h;subst h;exact y4g hG hu hx
 ·exact zrr hG h hx
def zgf(P:Program)(H:Heap)(ρ:Operand->V)(op:Op):Option (V×Heap):=match op with
 |.alloc t=>match yce P t with
  |true=>zrj P H t
  |false=>none
 |.makeSlice t n c=>zm5 P H t (ρ n) (ρ c)
 |.convert s d x=>(y3g P H s d (ρ x)).map λv=>(v,H)
 |.binOp op t x y _=>(hEq2 P H op t x y (ρ x) (ρ y)).map λv=>(v,H)
 |.call c=>match c.callee with
  |.builtin .unsafeSliceData=>match c.args.toList with
   |[x]=>(zmz H (ρ x)).map λv=>(v,H)
   |_=>none
  |.builtin .unsafeString=>match c.args.toList,c.argTypes.toList with
   |[p,n],[pt,_]=>y2l P H pt (ρ p) (ρ n)
   |_,_=>none
  |_=>none
 |_=>none
theorem zhb{ρ:Operand->V}{r:Operand->Value}{o:Oper}{v:V}{H':Heap}(hG:Good W g H)(hρ:∀x,Rel W g H (ρ x) (r x))(h:zgf P H ρ o.op=some (v,H')):z1y P W g H (execOp r o) v H':=by
 have pure':∀{q:Option V},(q.map λv=>(v,H))=some (v,H')->q=some v∧H'=H:=λ{q} h=>by
  simp only[Qae]at h;obtain⟨u,hu,heq⟩:=h;injection heq with h1 h2;exact⟨by rw[hu,h1],h2.symm⟩
 unfold zgf at h;split at h
 ·rename_i t heq;split at h
  ·unfold execOp;rw[heq];exact zxp hG h
  ·cases h
 ·rename_i t n c heq;unfold execOp;rw[heq];exact zqs hG h (hρ n) (hρ c)
 ·rename_i s d x heq;obtain⟨h,rfl⟩:=pure' h;unfold execOp;rw[heq];exact zy8 hG h (hρ x)
 ·rename_i op t x y _ heq;obtain⟨h,rfl⟩:=pure' h;unfold execOp;rw[heq];exact y7m hG h (hρ x) (hρ y)
 ·rename_i c heq;unfold execOp;rw[heq];obtain⟨callee,args,argTypes⟩:=c;simp only at h;split at h
  ·split at h
   ·rename_i x hargs;obtain⟨h,rfl⟩:=pure' h;obtain rfl:=yzk hargs;have:=zqf (P:=P) (ts:=argTypes) (ty:=o.type) hG h (hρ x);obtain⟨c,W',g',h1,h2,h3,h4⟩:=this;refine⟨c,W',g',?_,h2,h3,h4⟩
    rcases h1 with h1|⟨h1,h1'⟩
    ·left;rw[<-h1];simp[resolve,invoke,builtin]
    ·right;refine⟨?_,h1'⟩;rw[<-h1];simp[resolve,invoke,builtin]
   ·cases h
  ·split at h
   ·rename_i p n pt it hargs htys;obtain rfl:=yzk hargs;obtain rfl:=yzk htys;have:=zyv (P:=P) (it:=it) (ty:=o.type) hG h (hρ p) (hρ n);obtain⟨c,W',g',h1,h2,h3,h4⟩:=this;refine⟨c,W',g',?_,h2,h3,h4⟩
    rcases h1 with h1|⟨h1,h1'⟩
    ·left;rw[<-h1];simp[resolve,invoke,builtin]
    ·right;refine⟨?_,h1'⟩;rw[<-h1];simp[resolve,invoke,builtin]
   ·cases h
  ·cases h
 ·cases h
end
end Go.Ab
