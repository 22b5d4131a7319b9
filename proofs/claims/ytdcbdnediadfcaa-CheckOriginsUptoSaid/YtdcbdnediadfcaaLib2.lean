/-
  Texts.
-/
import Derived.Test.YtdcbdnediadfcaaLib1
import Derived.StillTail
import Derived.WalkKit
import Derived.ProofKit
import Derived.OpenShut
import Derived.JoinedCond
import Derived.Carry
namespace Go.Ab
open Go
set_option linter.unusedSimpArgs false
set_option linter.unusedVariables false
section
variable {P : Program} {ops : Array Oper} {md : Region.Mode}
theorem zw8{H:zz2}{ρ ρ':Operand->V}{o:Op}(h:∀x∈o.operands,ρ x=ρ' x):pv P H ρ o=pv P H ρ' o:=by
 cases o
 case move x=>simp only[pv,h x (by simp[Op.operands])]
 case assign x=>simp only[pv,h x (by simp[Op.operands])]
 case pick c a b=>simp only[pv,h c (by simp[Op.operands]),h a (by simp[Op.operands]),h b (by simp[Op.operands])]
 case load t a=>simp only[pv,h a (by simp[Op.operands])]
 case nilCheck x=>simp only[pv,h x (by simp[Op.operands])]
 case binOp op t x y u=>simp only[pv,h x (by simp[Op.operands]),h y (by simp[Op.operands])]
 case unOp op t x=>simp only[pv,h x (by simp[Op.operands])]
 case convert s d x=>simp only[pv,h x (by simp[Op.operands])]
 case makeInterface t x=>simp only[pv,h x (by simp[Op.operands])]
 case makeFunc fn first caps=>
  cases fn <;> try rfl
  simp only[pv];have h1:first.toList.map ρ=first.toList.map ρ':=List.map_congr_left λx hx=>h x (by simp[Op.operands];left;simpa using hx)
  have h2:caps.toList.map ρ=caps.toList.map ρ':=List.map_congr_left λx hx=>h x (by simp[Op.operands];right;simpa using hx)
  rw[h1,h2]
 case slice t x lo hi mx=>
  simp only[pv]
  have h1:lo.map ρ=lo.map ρ':=by
   cases lo with
   |none=>rfl
   |some y=>simp only[Qbn];rw[h y (by simp[Op.operands])]
  have h2:hi.map ρ=hi.map ρ':=by
   cases hi with
   |none=>rfl
   |some y=>simp only[Qbn];rw[h y (by simp[Op.operands])]
  have h3:mx.map ρ=mx.map ρ':=by
   cases mx with
   |none=>rfl
   |some y=>simp only[Qbn];rw[h y (by simp[Op.operands])]
  rw[h x (by simp[Op.operands]),h1,h2,h3]
 case fieldAddr s x f=>simp only[pv,h x (by simp[Op.operands])]
 case field s x f=>simp only[pv,h x (by simp[Op.operands])]
 case indexAddr t x i=>simp only[pv,h x (by simp[Op.operands]),h i (by simp[Op.operands])]
 case index t x i=>simp only[pv,h x (by simp[Op.operands]),h i (by simp[Op.operands])]
 case lookup t x k ok=>simp only[pv,h x (by simp[Op.operands]),h k (by simp[Op.operands])]
 case typeAssert x t u ok=>simp only[pv,h x (by simp[Op.operands])]
 case extract x i=>simp only[pv,h x (by simp[Op.operands])]
 case build t ps=>
  simp only[pv];have:partsOf ρ ps=partsOf ρ' ps:=List.map_congr_left λp hp=>by rw[h p.2 (by simp[Op.operands];exact⟨p.1,by simpa using hp⟩)]
  rw[this]
 case buildSlice t len ps=>
  simp only[pv];have:partsOf ρ ps=partsOf ρ' ps:=List.map_congr_left λp hp=>by rw[h p.2 (by simp[Op.operands];exact⟨p.1,by simpa using hp⟩)]
  rw[this]
 case makeSlice t n c=>simp only[pv,h n (by simp[Op.operands]),h c (by simp[Op.operands])]
 case call c=>
  simp only[pv,z33];have hm:c.args.toList.map ρ=c.args.toList.map ρ':=List.map_congr_left λx hx=>h x (by simp[Op.operands,Call.operands];right;simpa using hx)
  rw[hm];split;split;rename_i x t ha ht;rw[h x (by simp[Op.operands,Call.operands];right;rw[<-Array.mem_toList_iff,ha];simp)];rfl
  all_goals rfl
 all_goals rfl
theorem z8e{ρ ρ':Operand->V}{c:Call}(h:∀x∈c.operands,ρ x=ρ' x):target ρ c=target ρ' c:=by
 unfold target;have hm:c.args.toList.map ρ=c.args.toList.map ρ':=List.map_congr_left λx hx=>h x (by simp[Call.operands];right;simpa using hx)
 rw[hm];split;rename_i f hf;rw[h f (by simp[Call.operands,hf])];rfl
theorem y3e{σ:St}{dst:Option Nat}{v:V}{x:Operand}(h:∀d,dst=some d->x ≠ .tmp d):(σ.put dst v).ev x=σ.ev x:=by
 cases dst with
 |none=>rfl
 |some d=>
  cases x with
  |tmp t=>
   simp only[St.put,St.ev];have:d≠t:=λe=>h d rfl (by rw[e])
   rw[Qba,Qbf,Qbs this,<-Qba]
  |const v=>rfl
  |global g=>rfl
  |func f=>rfl
theorem zyw{σ:St}{dst:Option Nat}{v:V}:(σ.put dst v).H=σ.H:=by cases dst <;> rfl
theorem y94{σ:St}{dst:Option Nat}{v:V}:(σ.put dst v).e0=σ.e0:=by cases dst <;> rfl
theorem put_comm{σ:St}{x y:Option Nat}(v u:V)(h:∀d,x=some d->y≠some d):(σ.put x v).put y u=(σ.put y u).put x v:=by
 cases x with
 |none=>cases y <;> rfl
 |some d=>
  cases y with
  |none=>rfl
  |some e=>
   have:d≠e:=λq=>h d rfl (by rw[q])
   simp only[St.put];rw[List.set_comm _ _ this]
theorem z48{o:Oper}{d:Nat}(h:d∉o.looksAt ops):∀x∈o.op.operands,x ≠ .tmp d:=λx hx e=>h (by
 subst e;unfold Oper.looksAt;simp only[List.mem_append,List.mem_filterMap]
 exact .inl ⟨.tmp d,by simpa using hx,rfl⟩)
theorem zk9{σ:St}{o:Oper}{dst:Option Nat}{v:V}(h:∀d,dst=some d->d∉o.looksAt ops):yzh ops (σ.put dst v) o=yzh ops σ o:=by
 unfold yzh;split;rfl;rename_i j want hg;split;rename_i d' hd
 cases dst with
 |none=>rfl
 |some d=>
  have hne:d≠d':=λe=>h d rfl (by
   unfold Oper.looksAt;simp only[List.mem_append,hg];right
   rw[hd,e];simp)
  simp only[St.put];rw[Qba,Qbf,Qbs hne,<-Qba]
 rfl
def QV(P:Program)(σ:St)(o:Oper)(v:V):Prop :=
 pv P σ.H σ.ev o.op=some v∨∃c f args,o.op = .call c∧target σ.ev c=some (f,args)∧zf7 P f args σ.H v σ.H
def QY(P:Program)(ops:Array Oper)(σ:St)(o:Oper)(v:V):Prop :=
 (yzh ops σ o=some true∧QV P σ o v)∨(yzh ops σ o=some false∧v = .tup [])
theorem y4h{σ:St}{o:Oper}{dst:Option Nat}{u v:V}(h:∀d,dst=some d->d∉o.looksAt ops):QY P ops (σ.put dst u) o v↔QY P ops σ o v:=by
 have he:∀x∈o.op.operands,(σ.put dst u).ev x=σ.ev x:=λx hx=>y3e λd hd=>z48 (h d hd) x hx
 unfold QY QV;rw[zk9 h,zw8 he,zyw];constructor
 rintro (⟨h1,h2|⟨c,f,args,h2,h3,h4⟩⟩|h1)
 exact .inl ⟨h1,.inl h2⟩;exact .inl ⟨h1,.inr ⟨c,f,args,h2,by rw[<-z8e (ρ:=(σ.put dst u).ev) (λx hx=>he x (by rw[h2];exact hx))];exact h3,h4⟩⟩;exact .inr h1
 rintro (⟨h1,h2|⟨c,f,args,h2,h3,h4⟩⟩|h1)
 exact .inl ⟨h1,.inl h2⟩;exact .inl ⟨h1,.inr ⟨c,f,args,h2,by rw[z8e (ρ':=σ.ev) (λx hx=>he x (by rw[h2];exact hx))];exact h3,h4⟩⟩;exact .inr h1
def qA(P:Program)(ops:Array Oper)(i:Nat)(K:St->Prop)(σ:St):Prop :=
 match ops[i]? with
 |none=>K σ
 |some o=>∃v,QY P ops σ o v∧K (σ.put o.dst v)
theorem y0b{i:Nat}{σ:St}{K K':St->Prop}(h:∀σ,K σ->K' σ)(hh:qA P ops i K σ):qA P ops i K' σ:=by
 unfold qA at *;split;exact h _ (by simpa[*]using hh);rename_i o ho;simp only[ho]at hh;obtain⟨v,h1,h2⟩:=hh;exact⟨v,h1,h _ h2⟩
theorem QY.qA{i:Nat}{o:Oper}{v:V}{σ:St}(hi:ops[i]? = some o)(hy:QY P ops σ o v){K:St->Prop}(h:K (σ.put o.dst v)):qA P ops i K σ:=by
 unfold Ab.qA;simp only[hi];exact⟨v,hy,h⟩
theorem y6r{j:Nat}{oi oj:Oper}{v:V}(hj:ops[j]? = some oj)(hap:oi.apart ops oj=true){K:St->Prop}{σ:St}(hy:QY P ops σ oi v)(h:qA P ops j K (σ.put oi.dst v)) :
  qA P ops j (λσ'=>QY P ops σ' oi v∧K (σ'.put oi.dst v)) σ:=by
 obtain⟨h1,h2,h3⟩:=Oper.apart_spec hap;unfold qA at *;simp only[hj]at *;obtain⟨u,hu,hk⟩:=h;refine⟨u,(y4h h1).1 hu,(y4h h3).2 hy,?_⟩;rw[<-put_comm v u h2];exact hk
theorem zo1{W0:World}{g0:Gh}{H0:zz2}{i:Nat}{σ:St}{K:St->Prop}{K':Act->World->Prop}{Q':Exit->Act->World->Prop}
  (hk:∀W a g σ,K σ->(σ.e0=H0.E∧Step W0 g0 H0 W g σ.H)->kz8 W a g σ->K' a W) {W:World}{a:Act}{g:Gh}(hh:qA P ops i K σ) (hS:σ.e0=H0.E∧Step W0 g0 H0 W g σ.H) (hG:kz8 W a g σ):wpOp P ops Q' i K' a W:=by
 unfold qA at hh;unfold wpOp;split;rename_i ho;simp only[ho]at hh;exact hk W a g σ hh hS hG
 ·rename_i o ho;simp only[ho]at hh;obtain⟨v,hy,hkk⟩:=hh
  have fin:∀c W' g',Step W g σ.H W' g' σ.H->Good W' g' σ.H->Rel W' g' σ.H v c->K' (a.put o.dst c) W':=λc W' g' s1 s2 s3=>
   hk W' _ g' _ hkk (by rw[zyw,y94];exact⟨hS.1,hS.2.trans s1⟩) (hG.next s1 s2 s3 o.dst)
  rcases hy with ⟨hw,hv⟩|⟨hw,rfl⟩
  rw[yzn hG hw,Qbr rfl];left;unfold Oper.wp
  rcases hv with hv|⟨c,f,args,hop,ht,hcl⟩
  obtain⟨c,W',h1,h2,h3⟩:=zi3 (P:=P) hG.good (r:=a.eval) hG.ev hv;rw[h1];exact fin c W' g h2.step (hG.good.grow h2) h3;obtain⟨cargs,k1,k2⟩:=z4r (P:=P) (ty:=o.type) hG.ev ht
  have hex:(execOp a.eval o).run P W=(callFunc f cargs).run P W:=by
   rw[<-k2 W];unfold execOp;rw[hop]
  rcases hcl W g cargs hG.good k1 with ⟨e1,e2⟩|⟨c,W',g',e1,e2,e3,e4⟩
  rw[hex,e1];refine e2.mono λe W' ⟨c,g',he,s1,s2,s3⟩ =>?_
  subst he;exact fin c W' g' s1 s2 s3;rw[hex,e1];exact fin c W' g' e2 e3 e4;rw[yzn hG hw,Qbs (by simp)];have:=fin undef W g (.refl _ _ _) hG.good (.tup [] #[] rfl (by simp));exact this
def AQ(P:Program)(md:Region.Mode)(ops:Array Oper)(R:St->Prop):Nat->Array Bool->St->Prop
 |0,listed,σ=>Region.ready md ops listed=[]∧R σ
 |fuel+1,listed,σ=>(Region.ready md ops listed=[]->R σ)∧∀i∈Region.ready md ops listed,qA P ops i (AQ P md ops R fuel (listed.setIfInBounds i true)) σ
theorem zka{W0:World}{g0:Gh}{H0:zz2}{R:St->Prop}{Q':Exit->Act->World->Prop}(hR:∀W a g σ,R σ->(σ.e0=H0.E∧Step W0 g0 H0 W g σ.H)->kz8 W a g σ->Q' .normal a W) :
  ∀(fuel:Nat) (listed:Array Bool) (σ:St) (W:World) (a:Act) (g:Gh),AQ P md ops R fuel listed σ->(σ.e0=H0.E∧Step W0 g0 H0 W g σ.H)->kz8 W a g σ->wpAny P md ops Q' fuel listed a W
 |0,_,σ,W,a,g,h,hS,hG=>⟨h.1,hR W a g σ h.2 hS hG⟩
 |fuel+1,listed,σ,W,a,g,h,hS,hG=>⟨λh0=>hR W a g σ (h.1 h0) hS hG,λi hi=>zo1 (λW a g σ' hk hS hG=>zka hR fuel _ σ' W a g hk hS hG) (h.2 i hi) hS hG⟩
theorem y2q{R:St->Prop}{i:Nat}{oi:Oper}{v:V}(hi:ops[i]? = some oi) :
  ∀(fuel:Nat) (listed:Array Bool) (σ:St),
   (∀j oj,ops[j]? = some oj->j≠i->listed.getD j true=false->(∀e∈oj.after,Region.binds md e=true->e.on≠i)->oi.apart ops oj=true) ->
   i∈Region.ready md ops listed->QY P ops σ oi v->AQ P md ops R fuel (listed.setIfInBounds i true) (σ.put oi.dst v)->AQ P md ops R (fuel+1) listed σ:=by
 intro fuel
 induction fuel with
 |zero=>
  intro listed σ _ hr hy H;refine⟨λh=>(by rw[h]at hr;cases hr),λj hj =>?_⟩;by_cases hji:j=i;subst hji;exact hy.qA hi H;have:=ready_mono hj hji;rw[H.1]at this
  cases this
 |succ fuel ih=>
  intro listed σ hfree hr hy H;refine⟨λh=>(by rw[h]at hr;cases hr),λj hj =>?_⟩;by_cases hji:j=i;subst hji;exact hy.qA hi H;have h1:=H.2 j (ready_mono hj hji);obtain⟨hjun,oj,hoj,hall⟩:=mem_ready.1 hj;have hun:=(mem_ready.1 hr).1
  have hnot:∀e∈oj.after,Region.binds md e=true->e.on≠i:=λe he hb heq=>by
   have h1:=hall e he hb;rw[heq,getD_both hun]at h1;cases h1
  have h2:=y6r hoj (hfree j oj hoj hji hjun hnot) hy h1
  have hfree':∀k ok,ops[k]? = some ok->k≠i->(listed.setIfInBounds j true).getD k true=false ->
    (∀e∈ok.after,Region.binds md e=true->e.on≠i)->oi.apart ops ok=true:=λk ok hk hki hun hno=>by
   refine hfree k ok hk hki ?_ hno;by_cases hjk:j=k;subst hjk;exact hjun;rw[getD_set_ne true hjk]at hun;exact hun
  refine y0b (λσ' h3=>ih (listed.setIfInBounds j true) σ' hfree' (ready_mono hr (Ne.symm hji)) h3.1 ?_) h2;rw[Array.setIfInBounds_comm _ _ hji];exact h3.2
def z8i(P:Program)(ops:Array Oper):List Oper->List V->St->Option (St×List V×List Claim)
 |[],ans,σ=>some (σ,ans,[])
 |o::rest,ans,σ=>
  match yzh ops σ o with
  |none=>none
  |some b=>if b then
    (match pv P σ.H σ.ev o.op with
    |some v=>z8i P ops rest ans (σ.put o.dst v)
    |none=>match o.op with
     |.call c=>match target σ.ev c,ans with
      |some (f,args),r::ans'=>match z8i P ops rest ans' (σ.put o.dst r)with
       |some (σ',l,cl)=>some (σ',l,⟨f,args,σ.H,r,σ.H⟩::cl)
       |none=>none
      |_,_=>none
     |_=>none)
   else z8i P ops rest ans (σ.put o.dst (.tup []))
theorem zqn{o:Oper}{rest:List Oper}{ans l:List V}{σ σ':St}{cl:List Claim}(h:z8i P ops (o::rest) ans σ=some (σ',l,cl))(hc:∀c∈cl,c.ok P) :
  ∃v ans' cl',QY P ops σ o v∧z8i P ops rest ans' (σ.put o.dst v)=some (σ',l,cl')∧∀c∈cl',c.ok P:=by
 simp only[z8i]at h;split at h;cases h;rename_i b hw;split at h;rename_i hb;subst hb;split at h;rename_i v hv;exact⟨v,ans,cl,.inl ⟨hw,.inl hv⟩,h,hc⟩;split at h;rename_i c hop;split at h;rename_i f args r ans' ht;split at h;rename_i σ1 l1 cl1 hrun;simp only[Qbo,Qbt]at h;obtain⟨rfl,rfl,rfl⟩:=h;exact⟨r,ans',cl1,.inl ⟨hw,.inr ⟨c,f,args,hop,ht,hc _ (.head _)⟩⟩,hrun,λc hc'=>hc c (.tail _ hc')⟩
 cases h;cases h;cases h;rename_i hb;have:b=false:=by simpa using hb
 subst this;exact⟨(.tup []),ans,cl,.inr ⟨hw,rfl⟩,h,hc⟩
theorem y4t{R:St->Prop}:∀(l:List Oper) (k:Nat) (listed:Array Bool) (σ σ':St) (ans rest:List V) (cl:List Claim),(∀j,l[j]? = ops[k+j]?) ->
  Region.lexFrom md ops l.length k listed=true->z8i P ops l ans σ=some (σ',rest,cl)->(∀c∈cl,c.ok P)->R σ'->AQ P md ops R l.length listed σ
 |[],_,_,σ,σ',ans,rest,cl,_,hB,h,_,hR=>by
  simp only[z8i,Qbo,Qbt]at h;obtain⟨rfl,_,_⟩:=h
  exact⟨by simpa[Region.lexFrom]using hB,hR⟩
 |o::l,k,listed,σ,σ',ans,rest,cl,hl,hB,h,hc,hR=>by
  have h0:ops[k]? = some o:=by simpa using(hl 0).symm
  simp only[List.length_cons,Region.lexFrom,Qag]at hB;obtain⟨⟨hr,hf⟩,hB'⟩:=hB;obtain⟨v,ans',cl',hy,hrun,hc'⟩:=zqn h hc
  exact y2q h0 l.length listed σ (Region.free_spec h0 hf) (by simpa using hr) hy
   (y4t l (k+1) _ _ σ' ans' rest cl' (λj=>by have:=hl (j+1);simpa[Nat.add_assoc,Nat.add_comm 1 j]using this) hB' hrun hc' hR)
theorem kz8.drawn{W:World}{a:Act}{g:Gh}{σ:St}(h:kz8 W a g σ)(n:Nat):kz8 {W with drawn:=n} a g σ :=
 have s:=(Grow.drawn W n).step (g:=g) (H:=σ.H)
 ⟨h.good.grow (Grow.drawn W n),h.size,λj v hj=>(h.tmps j v hj).mono s,h.dlen,λj f vs hj=>(h.defs j f vs hj).mono h.good s⟩
theorem y3c{id:Nat}{σ σ':St}{Q:zz7->St->Prop}(hm:P.follows .mixedOrders=true)(hB:Region.lexB .any ops=true)(ans:List V){rest:List V}{cl:List Claim}(h:z8i P ops ops.toList ans σ=some (σ',rest,cl))(hc:∀c∈cl,c.ok P)(hQ:Q .normal σ') :
  Sat P (.region id ops true) σ Q:=λW0 g0 H0 W a g _ hS hG=>by
 simp only[Region.lexB,Qag]at hB;refine z6c zcr hm ?_;have hG':=hG.drawn (W.drawn+1);have hS':σ.e0=H0.E∧Step W0 g0 H0 {W with drawn:=W.drawn+1} g σ.H:=⟨hS.1,hS.2.trans (Grow.drawn W _).step⟩;have:=y4t (P:=P) (md:=.any) (R:=λτ=>τ=σ') ops.toList 0 (Array.replicate ops.size false) σ σ' ans rest cl (by simp) (by simpa using hB.2) h hc rfl;simp only[Array.length_toList]at this
 exact zka (Q':=zpz W0 g0 H0 Q) (λW a g τ hτ hS hG=>by subst hτ;exact⟨g,_,.normal,.normal,hS,hG,hQ⟩) _ _ σ _ a g this hS' hG'
def ALt(P:Program)(md:Region.Mode)(ops:Array Oper)(n:Nat)(L:Array Bool->St->Prop):Nat->Array Bool->St->Prop
 |0,listed,σ=>L listed σ
 |f+1,listed,σ=>Region.ready md ops listed≠[]∧∀i∈Region.ready md ops listed,i<n∧qA P ops i (ALt P md ops n L f (listed.setIfInBounds i true)) σ
theorem zc3{W0:World}{g0:Gh}{H0:zz2}{n k:Nat}{L:Array Bool->St->Prop}{Q':Exit->Act->World->Prop}
  (hL:∀listed W a g σ,L listed σ->(σ.e0=H0.E∧Step W0 g0 H0 W g σ.H)->kz8 W a g σ->wpAny P md ops Q' k listed a W) :
  ∀(f:Nat) (listed:Array Bool) (σ:St) (W:World) (a:Act) (g:Gh),ALt P md ops n L f listed σ->(σ.e0=H0.E∧Step W0 g0 H0 W g σ.H)->kz8 W a g σ->wpAny P md ops Q' (f+k) listed a W
 |0,listed,σ,W,a,g,h,hS,hG=>by rw[Nat.zero_add];exact hL _ _ _ g σ h hS hG
 |f+1,listed,σ,W,a,g,h,hS,hG=>by
  rw[show f+1+k=(f+k)+1 by omega];exact⟨λh0=>absurd h0 h.1,λi hi=>zo1 (λW a g σ' hk hS hG=>zc3 hL f _ σ' W a g hk hS hG) (h.2 i hi).2 hS hG⟩
theorem y2o{n i:Nat}{oi:Oper}{v:V}{L:Array Bool->St->Prop}(hi:ops[i]? = some oi)
  (hs:Region.sinkB md ops n=true) (hc:Region.chainB md ops n=true) (hn:n<ops.size) (hin:i<n)
  (hdone:∀listed σ,L listed σ->∀j∈Region.ready md ops listed,n<=j) :
  ∀(f:Nat) (listed:Array Bool) (σ:St),HeadInv md ops n listed ->
   (∀j oj,ops[j]? = some oj->j≠i->listed.getD j true=false->(∀e∈oj.after,Region.binds md e=true->e.on≠i)->oi.apart ops oj=true) ->
   i∈Region.ready md ops listed->QY P ops σ oi v->ALt P md ops n L f (listed.setIfInBounds i true) (σ.put oi.dst v)->ALt P md ops n L (f+1) listed σ:=by
 intro f
 induction f with
 |zero=>
  intro listed σ inv _ hr hy H;have hun:=(mem_ready.1 hr).1;refine⟨λh=>(by rw[h]at hr;cases hr),λj hj =>?_⟩
  have hjn:j<n:=by
   rcases Nat.lt_or_ge j n with h|h
   exact h;exact absurd hj (tail_waits hs hc hn inv _ i rfl hin hun j h)
  refine⟨hjn,?_⟩;by_cases hji:j=i;subst hji;exact hy.qA hi H;have:=hdone _ _ H j (ready_mono hj hji)
  omega
 |succ f ih=>
  intro listed σ inv hfree hr hy H;have hun:=(mem_ready.1 hr).1;refine⟨λh=>(by rw[h]at hr;cases hr),λj hj =>?_⟩
  have hjn:j<n:=by
   rcases Nat.lt_or_ge j n with h|h
   exact h;exact absurd hj (tail_waits hs hc hn inv _ i rfl hin hun j h)
  refine⟨hjn,?_⟩;by_cases hji:j=i;subst hji;exact hy.qA hi H;have h1:=(H.2 j (ready_mono hj hji)).2;obtain⟨hjun,oj,hoj,hall⟩:=mem_ready.1 hj
  have hnot:∀e∈oj.after,Region.binds md e=true->e.on≠i:=λe he hb heq=>by
   have h1:=hall e he hb;rw[heq,getD_both hun]at h1;cases h1
  have h2:=y6r hoj (hfree j oj hoj hji hjun hnot) hy h1
  have hfree':∀k ok,ops[k]? = some ok->k≠i->(listed.setIfInBounds j true).getD k true=false ->
    (∀e∈ok.after,Region.binds md e=true->e.on≠i)->oi.apart ops ok=true:=λk ok hk hki hun hno=>by
   refine hfree k ok hk hki ?_ hno;by_cases hjk:j=k;subst hjk;exact hjun;rw[getD_set_ne true hjk]at hun;exact hun
  refine y0b (λσ' h3=>ih (listed.setIfInBounds j true) σ' (inv.set hj hjn) hfree' (ready_mono hr (Ne.symm hji)) h3.1 ?_) h2;rw[Array.setIfInBounds_comm _ _ hji];exact h3.2
theorem zta{n k0:Nat}{R:St->Prop}(hs:Region.sinkB md ops n=true)(hc:Region.chainB md ops n=true)(hn:n<ops.size) :
  ∀(l:List Oper) (k:Nat) (listed:Array Bool) (σ σ':St) (ans rest:List V) (cl:List Claim),(∀j,j<l.length->l[j]? = ops[k+j]?)->k+l.length=n->HeadInv md ops n listed ->
  Region.lexHead md ops k0 l.length k listed=true->z8i P ops l ans σ=some (σ',rest,cl)->(∀c∈cl,c.ok P)->R σ' ->
  ALt P md ops n (λlisted' τ=>Region.seqB md ops k0 n listed'=true∧R τ) l.length listed σ
 |[],k,listed,σ,σ',ans,rest,cl,_,hk,_,hB,h,_,hR=>by
  have:k=n:=by simpa using hk
  subst this;simp only[z8i,Qbo,Qbt]at h;obtain⟨rfl,_,_⟩:=h
  exact⟨by simpa[Region.lexHead]using hB,hR⟩
 |o::l,k,listed,σ,σ',ans,rest,cl,hl,hk,inv,hB,h,hcl,hR=>by
  have h0:ops[k]? = some o:=by simpa using(hl 0 (by simp)).symm
  simp only[List.length_cons,Region.lexHead,Qag]at hB;obtain⟨⟨hr,hf⟩,hB'⟩:=hB;have hkn:k<n:=by simp only[List.length_cons]at hk;omega
  have hr':k∈Region.ready md ops listed:=by simpa using hr
  obtain⟨v,ans',cl',hy,hrun,hc'⟩:=zqn h hcl
  exact y2o h0 hs hc hn hkn (λlisted' τ hL=>seqB_ready hL.1) l.length listed σ inv (Region.free_spec h0 hf) hr' hy
   (zta hs hc hn l (k+1) _ _ σ' ans' rest cl' (λj hj=>by have:=hl (j+1) (by simp;omega);simpa[Nat.add_assoc,Nat.add_comm 1 j]using this) (by simp only[List.length_cons]at hk;omega) (inv.set hr' hkn) hB' hrun hc' hR)
theorem za7{Q':Exit->Act->World->Prop}:∀(m k:Nat) (listed:Array Bool) (a:Act) (w:World),k+m=ops.size ->
  Region.seqB md ops m k listed=true->wpOps P ops Q' (List.range' k m) a w->wpAny P md ops Q' m listed a w
 |0,_,_,_,_,_,hB,h=>⟨by simpa[Region.seqB]using hB,h⟩
 |m+1,k,listed,a,w,hk,hB,h=>by
  simp only[Region.seqB,Qag,Qar]at hB;refine⟨λh1=>(by rw[hB.1]at h1;cases h1),λi hi =>?_⟩;rw[hB.1]at hi;have hik:i=k:=by simpa using hi
  subst hik;simp only[List.range'_succ]at h
  have hw:wpOp P ops Q' i (wpOps P ops Q' (List.range' (i+1) m)) a w:=by
   unfold wpOp;simp only[wpOps]at h;exact h
  exact wpOp_mono (λa' w' h'=>za7 m (i+1) _ a' w' (by omega) hB.2 h') hw
theorem y7c{id:Nat}{σ τ σ':St}{Q:zz7->St->Prop}(n:Nat)(hm:P.follows .mixedOrders=true)(hB:Region.lexTailB .any ops n=true)
  (ans:List V) {rest:List V}{cl:List Claim}(h:z8i P ops (ops.toList.take n) ans σ=some (τ,rest,cl)) (hc:∀c∈cl,c.ok P)
  (ans2:List (V×Option zz2)) {rest2:List (V×Option zz2)}{cl2:List Claim}(h2:zgs P ops (ops.toList.drop n) ans2 τ=some (σ',rest2,cl2)) (hc2:∀c∈cl2,c.ok P) (hQ:Q .normal σ') :
  Sat P (.region id ops true) σ Q:=λW0 g0 H0 W a g _ hS hG=>by
 simp only[Region.lexTailB,Qag,Qar]at hB;obtain⟨⟨⟨⟨hsel,hn⟩,hs⟩,hch⟩,hlex⟩:=hB;have hG':=hG.drawn (W.drawn+1);have hS':σ.e0=H0.E∧Step W0 g0 H0 {W with drawn:=W.drawn+1} g σ.H:=⟨hS.1,hS.2.trans (Grow.drawn W _).step⟩;have htl:(ops.toList.take n).length=n:=by simp;omega
 have inv0:HeadInv .any ops n (Array.replicate ops.size false) :=
  ⟨by simp,λj oj _ hl=>(by rw[getD_replicate_false]at hl;cases hl),λt _ ht=>getD_in (by simpa using ht) (getD_replicate_false _ _)⟩
 have H:=zta (P:=P) (md:=.any) (k0:=ops.size-n) (R:=λυ=>υ=τ) hs hch hn (ops.toList.take n) 0 _ σ τ ans rest cl (λj hj=>by
  have hj':j<n:=by rw[htl]at hj;exact hj
  simp[hj']) (by simpa using htl) inv0 (by rw[htl];exact hlex) h hc rfl
 refine z6c zcr hm ?_
 have:=zc3 (P:=P) (Q':=zpz W0 g0 H0 Q) (k:=ops.size-n) (λlisted W a g υ hL hS hG=>by
  obtain⟨h1,h3⟩:=hL;subst h3;refine za7 (ops.size-n) n listed a W (by omega) h1 ?_;have:=zc7 (P:=P) (ops:=ops) (Q:=zpz W0 g0 H0 Q) (W0:=W0) (g0:=g0) (H0:=H0) (ops.toList.drop n) n ans2 rest2 υ σ' cl2 W a g (λj=>by simp[Qbc]) h2 hc2 hG hS (λW' a' g' s1 s2=>⟨g',σ',.normal,.normal,s1,s2,hQ⟩)
  simpa using this) _ _ σ _ a g H hS' hG'
 rw[htl,show n+(ops.size-n)=ops.size by omega]at this;exact this
theorem zpi{id:Nat}{σ τ:St}{Q:zz7->St->Prop}(n:Nat)(hm:P.follows .mixedOrders=true)(hB:Region.lexTailB .any ops n=true)
  (ans:List V) {rest:List V}{cl:List Claim}(h:z8i P ops (ops.toList.take n) ans σ=some (τ,rest,cl)) (hc:∀c∈cl,c.ok P)
  (hQ:∀W0 g0 H0 W a g,y3b W0 g0 H0->(τ.e0=H0.E∧Step W0 g0 H0 W g τ.H)->kz8 W a g τ->wpOps P ops (zpz W0 g0 H0 Q) (List.range' n (ops.size-n)) a W) :
  Sat P (.region id ops true) σ Q:=λW0 g0 H0 W a g hBa hS hG=>by
 simp only[Region.lexTailB,Qag,Qar]at hB;obtain⟨⟨⟨⟨hsel,hn⟩,hs⟩,hch⟩,hlex⟩:=hB;have hG':=hG.drawn (W.drawn+1);have hS':σ.e0=H0.E∧Step W0 g0 H0 {W with drawn:=W.drawn+1} g σ.H:=⟨hS.1,hS.2.trans (Grow.drawn W _).step⟩;have htl:(ops.toList.take n).length=n:=by simp;omega
 have inv0:HeadInv .any ops n (Array.replicate ops.size false) :=
  ⟨by simp,λj oj _ hl=>(by rw[getD_replicate_false]at hl;cases hl),λt _ ht=>getD_in (by simpa using ht) (getD_replicate_false _ _)⟩
 have H:=zta (P:=P) (md:=.any) (k0:=ops.size-n) (R:=λυ=>υ=τ) hs hch hn (ops.toList.take n) 0 _ σ τ ans rest cl (λj hj=>by
  have hj':j<n:=by rw[htl]at hj;exact hj
  simp[hj']) (by simpa using htl) inv0 (by rw[htl];exact hlex) h hc rfl
 refine z6c zcr hm ?_
 have:=zc3 (P:=P) (Q':=zpz W0 g0 H0 Q) (k:=ops.size-n) (λlisted W a g υ hL hS hG=>by
  obtain⟨h1,h3⟩:=hL;subst h3;refine za7 (ops.size-n) n listed a W (by omega) h1 ?_
  exact hQ W0 g0 H0 W a g hBa hS hG) _ _ σ _ a g H hS' hG'
 rw[htl,show n+(ops.size-n)=ops.size by omega]at this;exact this
theorem y7o{id:Nat}{σ:St}{Q:zz7->St->Prop}(hm:P.follows .mixedOrders=true)(hB:Region.lexB .any ops=true)(ans:List V){r:St×List V×List Claim}(h:z8i P ops ops.toList ans σ=some r)(hc:∀c∈r.2.2,c.ok P)(hQ:Q .normal r.1) :
 Sat P (.region id ops true) σ Q:=y3c hm hB ans (σ':=r.1) (rest:=r.2.1) (cl:=r.2.2) h hc hQ
end
mutual
def z6i{H:Type}:DataW H->Nat
 |.lit (.string bytes)=>bytes.length+1
 |.lit _=>1
 |.nil=>1
 |.ptr d=>z6i d+1
 |.slice elems spare=>z57 elems+z57 spare+1
 |.agg parts=>z57 parts+1
 |.iface _ d=>z6i d+1
 |.map entries=>z9k entries+1
 |.held _=>1
def z57{H:Type}:List (DataW H)->Nat
 |[]=>0
 |d::r=>z6i d+z57 r
def z9k{H:Type}:List (Lit×DataW H)->Nat
 |[]=>0
 |x::r=>zif x+z9k r
def zif{H:Type}:Lit×DataW H->Nat
 |(.string bytes,d)=>bytes.length+z6i d+1
 |(_,d)=>z6i d+1
end
def g0:Gh:=⟨λ_ _=>False,λ_ _=>0,λ_ _=>0,λ_ _=>0,0⟩
def H0:zz2:=⟨0,[],λ_ _=>none⟩
theorem y3l(l i:Nat):H0.get l i=none:=by unfold zz2.get H0;split <;> simp
theorem own0(g:Gh)(b:Nat):¬Own g H0 b:=λ⟨l,i,o,h,_⟩=>by rw[y3l]at h;cases h
theorem y8f(W:World)(hl:z90 W g0 H0):Good W g0 H0 where
 dom l i o h:=by rw[y3l]at h;cases h
 lt l i o h:=by rw[y3l]at h;cases h
 inj l i o l' i' o' h:=by rw[y3l]at h;cases h
 fresh l i h:=h.elim
 obj l i o h:=by rw[y3l]at h;cases h
 glob:=hl
 base:=Qbp _
theorem zq9(cs:List V):(V.agg cs).cells=cs:=rfl
structure Ty(α:Type) where
 el:α->V
 len:Nat
 size:α->Nat
 wf:α->Prop
 hlen:∀x,(el x).cells.length=len
def RelC(W:World)(cs:List Value)(o:Nat)(vs:List V):Prop:=∀(j:Nat) (v:V),vs[j]? = some v->∃c,cs[o+j]? = some c∧c.oneCell'=true∧Rel W g0 H0 v c
structure Reads(P:Program)(n t:Nat){α:Type}(T:Ty α):Prop where
 get:∀{H:Type}(enc:TypeId×Value->H) (W:World) (cs:List Value) (d:DataW H) (ps:List MemPlace),DataW.trod enc P W 0 (λ_=>true) true n t cs=some (d,ps) ->
  ∃x,cs.length=T.len∧RelC W cs 0 (T.el x).cells∧T.wf x∧T.size x<=z6i d
def Ty.int(k:IntKind):Ty Int:=⟨λn=>.int k n,1,λ_=>1,λn=>k.min<=n∧n<=k.max,λ_=>rfl⟩
def Ty.bool:Ty Bool:=⟨λn=>.bool n,1,λ_=>1,λ_=>True,λ_=>rfl⟩
def Ty.str:Ty B8:=⟨λn=>.str n,1,λs=>s.length+1,λ_=>True,λ_=>rfl⟩
def Ty.slice{α:Type}(T:Ty α):Ty (List α):=⟨λxs=>.sl T.len (xs.map T.el) false,1,λxs=>(xs.map T.size).sum+1,λxs=>∀x∈xs,T.wf x,λ_=>rfl⟩
variable {P : Program}
theorem zcp{W:World}{c:Value}{v:V}(h1:c.oneCell'=true)(h:Rel W g0 H0 v c)(hv:v.cells=[v]):RelC W [c] 0 v.cells:=λj u hj=>by
 rw[hv]at hj
 cases j with
 |zero=>simp at hj;subst hj;exact⟨c,rfl,h1,h⟩
 |succ j=>simp at hj
theorem z5o{t:Nat}{k:IntKind}(ht:P.underlying t=some (.int k))(n:Nat):Reads P n t (.int k):=.mk λenc W cs d ps h=>by
 obtain⟨m,rfl,hx,hw⟩:=DataW.trod_int ht h;injection hx with h1 h2;subst h1;exact⟨m,rfl,zcp rfl (.int _ _) rfl,by simpa[Ty.int,Lit.wf]using hw,by simp[Ty.int,z6i]⟩
theorem znn{t:Nat}(ht:P.underlying t=some .bool)(n:Nat):Reads P n t .bool:=.mk λenc W cs d ps h=>by
 obtain⟨m,rfl,hx⟩:=DataW.trod_bool ht h;injection hx with h1 h2;subst h1;exact⟨m,rfl,zcp rfl (.bool _) rfl,trivial,by simp[Ty.bool,z6i]⟩
theorem zb5{t:Nat}(ht:P.underlying t=some .string)(n:Nat):Reads P n t .str:=.mk λenc W cs d ps h=>by
 obtain⟨s,rfl,hx,hw⟩:=DataW.trod_string ht h;injection hx with h1 h2;subst h1;exact⟨s.data.toList,rfl,zcp rfl (.str _) rfl,trivial,by simp[Ty.str,z6i]⟩
theorem zqh{W:World}{a:Addr}{n:Nat}{cs:List Value}(h:W.cells? 0 a n=some cs):cs.length=n∧∀i,i<n->W.cell? (a.add i)=cs[i]? := by
 unfold World.cells? at h;rw[Qbr (Qbp _)]at h;exact⟨by simpa using mapM_some_length h,λi hi=>mapM_some_get h i i (by simp[hi])⟩
theorem zu1{α:Type}{n:Nat}{p:Nat->α->Prop}(h:∀i,i<n->∃x,p i x):∃xs:List α,xs.length=n∧∀i x,xs[i]? = some x->p i x:=by
 induction n with
 |zero=>exact⟨[],rfl,by simp⟩
 |succ n ih=>
  obtain⟨xs,h1,h2⟩:=ih λi hi=>h i (by omega)
  obtain⟨x,hx⟩:=h n (by omega);refine⟨xs++[x],by simp[h1],λi y hy =>?_⟩;rw[Qbb]at hy;split at hy;exact h2 i y hy;have:=(Qaa.1 hy).1;simp at this;have e:i=n:=by omega
  subst e;rw[h1]at hy;simp at hy;subst hy;exact hx
theorem zjl{H:Type}{α:Type}(f:α->Nat):∀(xs:List α) (ds:List (DataW H)),xs.length=ds.length->(∀(i:Nat) (x:α) (d:DataW H),xs[i]? = some x->ds[i]? = some d->f x<=z6i d)->(xs.map f).sum<=z57 ds
 |[],ds,_,_=>by simp
 |x::xs,[],h,_=>by simp at h
 |x::xs,d::ds,h,hh=>by
  have h1:=hh 0 x d rfl rfl;have h2:=zjl f xs ds (by simpa using h) λi x d h1 h2=>hh (i+1) x d (by simpa using h1) (by simpa using h2)
  simp only[List.map_cons,List.sum_cons,z57];omega
theorem ze6{t e:Nat}(ht:P.underlying t=some (.slice e)){α:Type}{T:Ty α}(hc:P.cellsOf e=T.len)(hz:0<T.len){n:Nat}(he:∀m,m<n->Reads P m e T):Reads P n t T.slice:=.mk λenc W cs d ps h=>by
 rcases DataW.trod_slice ht h with ⟨rfl,hx⟩|⟨a,len,cap,elems,rest,m,rfl,rfl,hx,_,h1,h2,h3,h4,h5,_⟩
 injection hx with h1 h2;subst h1;refine⟨[],rfl,zcp rfl (.slnil _ _) rfl,by simp[Ty.slice],by simp[Ty.slice,z6i]⟩;injection hx with hx1 hx2;subst hx1;rw[hc]at h4
 have key:∀i,i<len->∃x:α,(∀j v,(T.el x).cells[j]? = some v->∃c,W.cell? (a.add (i * T.len+j))=some c∧c.oneCell'=true∧Rel W g0 H0 v c)∧T.wf x∧(∀d,elems[i]? = some d->T.size x<=z6i d.1)∧a.spot=none:=λi hi=>by
  have h6:=h4 i hi;have hlt:i<elems.length:=by omega
  rw[Qab hlt,Qbx]at h6;obtain⟨cs',q1,q2⟩:=h6;obtain⟨k1,k2⟩:=zqh q1;obtain⟨x,x1,x2,x3,x4⟩:=(he m (by omega)).get enc W cs' _ _ q2;refine⟨x,λj v hj =>?_,x3,λd hd=>by rw[Qab hlt]at hd;injection hd with hd;subst hd;exact x4,?_⟩;obtain⟨c,c1,c2,c3⟩:=x2 j v hj;rw[Nat.zero_add]at c1;refine⟨c,?_,c2,c3⟩;have hj':=(Qaa.1 c1).1
  rw[<-c1,<-k2 j (by omega)];unfold Addr.add;split;rename_i h0;have:i * T.len=0:=by omega
  have:j=0:=by omega
  simp[*];by_cases hj0:j=0;subst hj0;rw[Qbr rfl,Qbs (by omega)];simp;rw[Qbs hj0];by_cases hi0:i * T.len=0;simp[hi0];rw[Qbs hi0];simp[Nat.add_assoc];have h0:=h4 0 (by omega);rw[Qab (show 0<elems.length by omega),Qbx]at h0;obtain⟨cs0,z1,_⟩:=h0;have z2:=(zqh z1);have z3:=z2.2 0 hz;have:cs0[0]? = some (cs0[0]'(by omega)):=Qab _;rw[this]at z3
  simp only[Nat.zero_mul,Addr.add,if_true]at z3;unfold World.cell? at z3;split at z3;split at z3;cases z3;rename_i hs;simpa using hs
  cases z3
 obtain⟨xs,hl,hall⟩:=zu1 key;refine⟨xs,rfl,?_,λx hx =>?_,?_⟩;refine zcp rfl ?_ rfl;show Rel W g0 H0 (.sl T.len (xs.map T.el) false) _;by_cases h0:len=0;have:xs=[]:=Qao (by omega);subst this;subst h0;exact .sle _ _ a cap (by simp);have hs:a.spot=none:=(hall 0 (xs[0]'(by omega)) (Qab _)).2.2.2
 have hadd:∀k,a.add k=⟨a.block,a.off+k,none⟩:=λk=>by
  unfold Addr.add;split;rename_i hk;subst hk;cases a;simp at hs;subst hs;rfl;rfl
 have ha:a=⟨a.block,a.off,none⟩:=by cases a;simp at hs;subst hs;rfl
 have hln:len=(xs.map T.el).length:=by simp[hl]
 have e1:∀(j:Nat) (x:V) (t:Nat) (v:V),(xs.map T.el)[j]? = some x->x.cells[t]? = some v->∃c,W.cell? ⟨a.block,a.off+j * T.len+t,none⟩=some c∧c.oneCell'=true∧Rel W g0 H0 v c:=λj x t v hj ht=>by
  rw[Qan,Qaf]at hj;obtain⟨y,hy,rfl⟩:=hj;obtain⟨c,c1,c2,c3⟩:=(hall j y hy).1 t v ht;rw[hadd]at c1;exact⟨c,by rw[Nat.add_assoc];exact c1,c2,c3⟩
 rw[ha,hln];refine .sl T.len (xs.map T.el) false a.block a.off cap (λj t=>(W.cell? ⟨a.block,a.off+j * T.len+t,none⟩).getD undef) (own0 _ _) hz (by omega) (by simp) (λj x hj =>?_) (λj x t v hj ht =>?_) (λj x t v hj ht =>?_) (λj x t v hj ht =>?_);rw[Qan,Qaf]at hj;obtain⟨y,hy,rfl⟩:=hj;exact T.hlen y;obtain⟨c,c1,_,_⟩:=e1 j x t v hj ht;rw[c1];rfl
 obtain⟨c,c1,c2,_⟩:=e1 j x t v hj ht;rw[c1];exact c2;obtain⟨c,c1,_,c3⟩:=e1 j x t v hj ht;rw[c1];exact c3;obtain⟨i,hi⟩:=List.mem_iff_getElem?.1 hx;exact(hall i x hi).2.1
 have:=zjl T.size xs (elems.map (·.1)) (by simp;omega) λi x d hx hd=>by
  rw[Qan,Qaf]at hd;obtain⟨y,hy,rfl⟩:=hd;exact(hall i x hx).2.2.1 y hy
 simp only[Ty.slice,z6i];omega
structure zss(P:Program)(n:Nat)(fs:List Field)(o:Nat){α:Type}(T:Ty α):Prop where
 get:∀{H:Type}(enc:TypeId×Value->H) (W:World) (cs:List Value) (xs:List (DataW H×List MemPlace)),xs.length=fs.length ->
  (∀(i:Nat) (f:Field),fs[i]? = some f->DataW.trod enc P W 0 (λ_=>true) true n f.type ((cs.drop f.offset).take (P.cellsOf f.type))=xs[i]?) ->
  ∃x,RelC W cs o (T.el x).cells∧T.wf x∧T.size x<=z57 (xs.map (·.1))
def Ty.unit:Ty Unit:=⟨λ_=>.agg [],0,λ_=>0,λ_=>True,λ_=>rfl⟩
def Ty.pair{α β:Type}(A:Ty α)(B:Ty β):Ty (α×β):=⟨λx=>.agg ((A.el x.1).cells++(B.el x.2).cells),A.len+B.len,λx=>A.size x.1+B.size x.2,λx=>A.wf x.1∧B.wf x.2,λx=>by rw[zq9,Qap,A.hlen,B.hlen]⟩
def Ty.struct{α:Type}(A:Ty α):Ty α:=⟨λx=>.agg (A.el x).cells,A.len,λx=>A.size x+1,A.wf,λx=>by rw[zq9,A.hlen]⟩
theorem z5c{n o:Nat}:zss P n [] o .unit:=.mk λenc W cs xs h _=>by
 have:xs=[]:=Qao (by simpa using h);subst this;exact⟨(),λj v hj=>by simp[Ty.unit,V.cells]at hj,trivial,by simp[Ty.unit]⟩
theorem yzc{n o:Nat}{f:Field}{fs:List Field}{α β:Type}{A:Ty α}{B:Ty β}(ho:f.offset=o)(_hk:P.cellsOf f.type=A.len)(ha:Reads P n f.type A)(hb:zss P n fs (o+A.len) B):zss P n (f::fs) o (.pair A B):=.mk λenc W cs xs h hh=>by
 obtain⟨y,ys,rfl⟩:∃y ys,xs=y::ys:=by
  cases xs with
  |nil=>simp at h
  |cons y ys=>exact⟨y,ys,rfl⟩
 obtain⟨x,x1,x2,x3,x4⟩:=ha.get enc W _ _ _ (hh 0 f rfl);obtain⟨z,z1,z2,z3⟩:=hb.get enc W cs ys (by simpa using h) λi f hf=>by have:=hh (i+1) f (by simpa using hf);simpa using this
 refine⟨(x,z),λj v hj =>?_,⟨x3,z2⟩,by simp only[Ty.pair,List.map_cons,z57];omega⟩;rw[show((Ty.pair A B).el (x,z)).cells=(A.el x).cells++(B.el z).cells from rfl,Qbb]at hj;split at hj;rename_i hlt;obtain⟨c,c1,c2,c3⟩:=x2 j v hj;refine⟨c,?_,c2,c3⟩;rw[Nat.zero_add,Qaw]at c1;split at c1;rw[Qbc,ho]at c1;exact c1;cases c1;rename_i hge;obtain⟨c,c1,c2,c3⟩:=z1 _ v hj
 refine⟨c,?_,c2,c3⟩;rw[A.hlen]at hge c1;rw[<-c1];congr 1;omega
theorem z3m{t:Nat}{fs:Array Field}(ht:P.underlying t=some (.struct fs)){α:Type}{A:Ty α}(hk:P.cellsOf t=A.len){n:Nat}(h:∀m,m<n->zss P m fs.toList 0 A):Reads P n t A.struct:=.mk λenc W cs d ps hd=>by
 obtain⟨xs,m,rfl,hx,h1,h2,h3⟩:=DataW.trod_struct ht hd;injection hx with hx1 hx2;subst hx1;obtain⟨x,x1,x2,x3⟩:=(h m (by omega)).get enc W cs xs (by simpa using h2) λi f hf=>h3 i f (by simpa using hf)
 exact⟨x,by rw[h1,hk];rfl,x1,x2,by simp only[Ty.struct,z6i];omega⟩
theorem Reads.conv{n t:Nat}{α β:Type}{A:Ty α}{B:Ty β}(h:Reads P n t A)(g:α->β)(hel:∀x,B.el (g x)=A.el x)(hl:B.len=A.len)(hw:∀x,A.wf x->B.wf (g x))(hs:∀x,B.size (g x)<=A.size x):Reads P n t B:=.mk λenc W cs d ps hd=>by
 obtain⟨x,x1,x2,x3,x4⟩:=h.get enc W cs d ps hd;exact⟨g x,by rw[x1,hl],by rw[hel];exact x2,hw x x3,Qbh (hs x) x4⟩
structure ztw(P:Program)(t:Nat){α:Type}(T:Ty α):Prop where
 get:∀{H:Type}(enc:TypeId×Value->H) (W:World) (base:Nat) (v:Value) (d:DataW H) (ps:List MemPlace),DataW.Trod enc P W 0 (λ_=>true) true t v d ps->Value.okWide P W .any base t v ->
  ∃x,Rel W g0 H0 (T.el x) v∧T.wf x∧T.size x<=z6i d
theorem y91{W:World}{r:Reach}{base t:Nat}{cs:Array Value}(h:Cell.okWide P W r base t (.agg cs)):False:=by
 unfold Cell.okWide at h;split at h <;> try (simp_all;done)
 unfold Cell.ok at h;split at h <;> simp_all
theorem zv1{t:Nat}{α:Type}{T:Ty α}(h:∀n,Reads P n t T)(hc:∀x,(T.el x).cells=[T.el x])(hnot:(match P.underlying t with|some (.struct _)|some (.array _ _)=>false|_=>true)=true):ztw P t T:=.mk λenc W base v d ps hd hv=>by
 obtain⟨fuel,hd⟩:=hd;obtain⟨x,x1,x2,x3,x4⟩:=(h fuel).get enc W _ d ps hd;refine⟨x,?_,x3,x4⟩
 have hcell:v.cells = #[v]:=by
  unfold Value.okWide at hv;split at hv
  simp_all
  simp_all
  cases v <;> first|rfl|exact(y91 hv).elim
 obtain⟨c,c1,c2,c3⟩:=x2 0 (T.el x) (by rw[hc];rfl);rw[hcell]at c1;simp at c1;subst c1;exact c3
theorem zxg{t:Nat}{fs:Array Field}{α:Type}{T:Ty α}(ht:P.underlying t=some (.struct fs))(h:∀n,Reads P n t T)(hc:∀x,T.el x = .agg (T.el x).cells):ztw P t T:=.mk λenc W base v d ps hd hv=>by
 obtain⟨fuel,hd⟩:=hd;obtain⟨x,x1,x2,x3,x4⟩:=(h fuel).get enc W _ d ps hd;refine⟨x,?_,x3,x4⟩;unfold Value.okWide at hv;rw[ht]at hv;obtain⟨cs,rfl,h1,_⟩:=hv;rw[hc];have hx1:cs.size=T.len:=by simpa[Value.cells]using x1
 have get:∀j v,(T.el x).cells[j]? = some v->(cs.getD j undef).oneCell'=true∧Rel W g0 H0 v (cs.getD j undef):=λj v hj=>by
  obtain⟨c,c1,c2,c3⟩:=x2 j v hj;simp only[Value.cells,Nat.zero_add,Qbe]at c1;rw[Qae,c1];exact⟨c2,c3⟩
 exact .agg _ _ (by rw[hx1,T.hlen]) (λj v hj=>(get j v hj).1) λj v hj=>(get j v hj).2
theorem y4s{fn:Func}{s:ChangeSpec}{W W':World}{args:Array Value}{H:Type}{enc:TypeId×Value->H}{ds gs:List (DataW H)}{before:List MemPlace}{tb:Nat}{fresh handsOn:Bool}
  (hl:laidOutB P=true) (hv:s.vars=[]) (hp:∀t∈fn.params.toList,P.readableRec t=true∧t<P.types.size) (hrt:fn.resultTypes = #[tb]) (htb:P.underlying tb=some .bool)
  (hs:(s.fn H ds).results=[.lit (.bool true)]∧(s.fn H ds).args=ds∧(s.fn H ds).vars=[]) (hW:DataW.Whole enc P fn.params.toList s.vars false W args.toList ds gs before) (hg:RowKit.Below W.heap.size W W') :
  s.post enc P fn false fresh handsOn false W args (.bool true) W':=by
 have hW0:=hW;obtain⟨p,q,hA,hV,rfl,hfz,hnd⟩:=hW;rw[hv]at hV;obtain⟨rfl,rfl⟩:=ChangeShapes.trodVars_none hV;have hlt:=hW0.lt;simp only[List.append_nil]at hlt
 have again:∀(ts:List Nat) (vs:List Value) (ds:List (DataW H)) (p:List MemPlace),(∀t∈ts,P.readableRec t=true∧t<P.types.size)->(∀x∈p,x.block<W.heap.size)->DataW.TrodAll enc P W 0 (λ_=>true) true ts vs ds p ->
   DataW.TrodAll enc P W' 0 (λb=>decide (b<W.heap.size)) true ts vs ds p:=by
  intro ts
  induction ts with
  |nil=>intro vs ds p _ _ h;obtain⟨rfl,rfl,rfl⟩:=ChangeShapes.trodAll_nil h;exact ChangeShapes.trodAll_mk0
  |cons t ts ih=>
   intro vs ds p h1 h2 h;obtain⟨v,vs',d,ds',p',q',rfl,rfl,rfl,k1,k2⟩:=ChangeShapes.trodAll_cons h;exact trodAll_cons_mk (RowKit.Below.trod hl (h1 t (by simp)).1 (h1 t (by simp)).2 k1 hg λx hx=>h2 x (by simp[hx])) (ih vs' ds' q' (λt ht=>h1 t (by simp[ht])) (λx hx=>h2 x (by simp[hx])) k2)
 refine⟨ds,[],p++[],[],p,[],hW0,?_,?_,?_,?_,λh=>by cases h⟩;rw[List.append_nil,hs.1,hrt]
 have hb:∀b,DataW.TrodAll enc P W' b (λ_=>false) handsOn [tb] [.bool true] [.lit (.bool true)] []:=λb=>by
  have:=trodAll_cons_mk (P:=P) (enc:=enc) (w:=W') (base:=b) (spare:=λ_=>false) (held:=handsOn) (RowKit.shut_bool htb true) ChangeShapes.trodAll_mk0;simpa using this
 exact hb _;rw[List.append_nil,hs.2.1];exact again _ _ _ _ hp hlt hA;rw[List.append_nil,hs.2.2,hv];exact rfl;exact hg.frame _
theorem zfp{W W':World}{g g':Gh}{H':zz2}(h:Step W g H0 W' g' H'):RowKit.Below W.heap.size W W' :=
 ⟨h.os,h.tape,h.output,h.size,λk hk=>h.block k hk (own0 _ _)⟩
theorem y1x{f:Nat}{vargs:List V}{H':zz2}{cargs:Array Value}{W:World}(h:zf7 P f vargs H0 (.bool true) H')(hent:∀args w,(callFunc f args).run P w = .ok (.enter f args) w)(ha:z84 W g0 H0 vargs cargs)(hl:z90 W g0 H0) :
  Calls P f cargs W λe W'=>e = .returned (.bool true)∧RowKit.Below W.heap.size W W':=by
 rcases h W g0 cargs (y8f W hl) ha with ⟨_,hc⟩|⟨c,W',g',hc,_⟩
 refine hc.mono λe W' ⟨c,g',he,hs,_,hr⟩ =>?_
 cases hr;exact⟨he,zfp hs⟩;rw[hent]at hc;cases hc
theorem zsx{W:World}{g:Gh}{H:zz2}{vs:List V}{cs:List Value}(h:cs.length=vs.length)(hh:∀(j:Nat) (v:V),vs[j]? = some v->∃c,cs[j]? = some c∧Rel W g H v c):z84 W g H vs cs.toArray :=
 ⟨by simpa using h,λj v hj=>by obtain⟨c,c1,c2⟩:=hh j v hj;rw[Qae];simpa[c1]using c2⟩
mutual
def V.ren(a n:Nat):V->V
 |.ptr l i off=>if l=a+1 then .ptr a (n+i) off else .ptr l i off
 |.ref cs off=>.ref (V.zcn a n cs) off
 |.ap l i ver idx off=>if l=a+1 then .ap a (n+i) ver idx off else .ap l i ver idx off
 |.sl sz xs full=>.sl sz (V.zcn a n xs) full
 |.hs l i ver off m full=>if l=a+1 then .hs a (n+i) ver off m full else .hs l i ver off m full
 |.map l i=>if l=a+1 then .map a (n+i)else .map l i
 |.fn f x y=>.fn f (V.zcn a n x) (V.zcn a n y)
 |.iface t v=>.iface t (V.ren a n v)
 |.agg cs=>.agg (V.zcn a n cs)
 |.tup vs=>.tup (V.zcn a n vs)
 |v=>v
def V.zcn(a n:Nat):List V->List V
 |[]=>[]
 |v::vs=>V.ren a n v::V.zcn a n vs
end
def yz4.ren(a n:Nat):yz4->yz4
 |.cells cs=>.cells (V.zcn a n cs)
 |.arr ver ty sz xs cp=>.arr ver ty sz (V.zcn a n xs) cp
 |.map es=>.map (es.map λp=>(V.ren a n p.1,V.ren a n p.2))
 |.siter s pos=>.siter s pos
 |.mit es vis=>.mit es vis
section
variable {P : Program}
structure BackX(H H':zz2)(σ:St)(v r:V):Prop where
 res:r=V.ren H.lv H.L.length v
 lv:H'.lv=H.lv
 len:H'.L.length=H.L.length+σ.H.L.length
 old:∀l i,(l<H.lv∨(l=H.lv∧i<H.L.length))->∀o',H'.get l i=some o'->∃o,σ.H.E l i=some o∧(o'=yz4.ren H.lv H.L.length o∨(o'=o∧H.get l i=some o))
 new:∀i o',H'.get H.lv (H.L.length+i)=some o'->∃o,σ.H.get (H.lv+1) i=some o∧o'=yz4.ren H.lv H.L.length o
 high:∀l i,H.lv<l->H'.E l i=H.E l i
end
end Go.Ab
namespace Go.Ab
open Go
set_option linter.unusedSimpArgs false
set_option linter.unusedVariables false
section
variable {P : Program}
structure z5r where
 ty:Nat
 sz:Nat
 v:V
 xs:List V
 w:Bool
def y5l(lv:Nat)(L:List (Option yz4))(k:Option Nat)(a:z5r):Prop :=
 match k with
 |none=>(a.v = .nils∧a.xs=[])∨(a.v = .sl a.sz a.xs true∧(a.w=true->a.xs=[]))
 |some i=>∃ver cp,a.v = .hs lv i ver 0 a.xs.length false∧L[i]? = some (some (.arr ver a.ty a.sz a.xs cp))
def z6u(lv:Nat)(L:List (Option yz4))(as:List z5r)(os:List (Nat×yz4)):Prop :=
 ∃ks:List (Option Nat),ks.length=as.length∧(∀(j:Nat) (k:Option Nat) (a:z5r),ks[j]? = some k->as[j]? = some a->y5l lv L k a) ∧
  (∀(i j:Nat) (n:Nat),ks[i]? = some (some n)->ks[j]? = some (some n)->i=j)∧(∀p∈os,L[p.1]? = some (some p.2)∧∀j:Nat,ks[j]? ≠ some (some p.1))
theorem y5l.lt{lv:Nat}{L:List (Option yz4)}{i:Nat}{a:z5r}(h:y5l lv L (some i) a):i<L.length:=by
 obtain⟨ver,cp,_,h⟩:=h;exact(Qaa.1 h).1
theorem z6u.nil(lv:Nat)(L:List (Option yz4)):z6u lv L [] []:=⟨[],rfl,by simp,by simp,by simp⟩
theorem z6u.cons{lv:Nat}{L:List (Option yz4)}{as:List z5r}{os:List (Nat×yz4)}(h:z6u lv L as os)(ty sz:Nat)(w:Bool):z6u lv L (⟨ty,sz,.nils,[],w⟩::as) os:=by
 obtain⟨ks,h1,h2,h3,h4⟩:=h;refine⟨none::ks,by simp[h1],λj k a hk ha =>?_,λi j n hi hj =>?_,λp hp=>⟨(h4 p hp).1,λj hj =>?_⟩⟩
 cases j with
 |zero=>simp at hk ha;subst hk;subst ha;exact .inl ⟨rfl,rfl⟩
 |succ j=>exact h2 j k a (by simpa using hk) (by simpa using ha)
 cases i with
 |zero=>simp at hi
 |succ i=>cases j with
  |zero=>simp at hj
  |succ j=>rw[h3 i j n (by simpa using hi) (by simpa using hj)]
 cases j with
 |zero=>simp at hj
 |succ j=>exact(h4 p hp).2 j (by simpa using hj)
theorem z6u.grow{lv:Nat}{L:List (Option yz4)}{as:List z5r}{os:List (Nat×yz4)}(h:z6u lv L as os)(x:Option yz4):z6u lv (L++[x]) as os:=by
 obtain⟨ks,h1,h2,h3,h4⟩:=h;refine⟨ks,h1,λj k a hk ha =>?_,h3,λp hp=>⟨?_,(h4 p hp).2⟩⟩;have:=h2 j k a hk ha
 cases k with
 |none=>exact this
 |some i=>obtain⟨ver,cp,q1,q2⟩:=this;exact⟨ver,cp,q1,by rw[Qal (Qaa.1 q2).1];exact q2⟩
 rw[Qal (Qaa.1 (h4 p hp).1).1];exact(h4 p hp).1
theorem z6u.obj{lv:Nat}{L:List (Option yz4)}{as:List z5r}{os:List (Nat×yz4)}(h:z6u lv L as os)(o:yz4):z6u lv (L++[some o]) as ((L.length,o)::os):=by
 obtain⟨ks,h1,h2,h3,h4⟩:=h;refine⟨ks,h1,λj k a hk ha =>?_,h3,λp hp =>?_⟩;have:=h2 j k a hk ha
 cases k with
 |none=>exact this
 |some i=>obtain⟨ver,cp,q1,q2⟩:=this;exact⟨ver,cp,q1,by rw[Qal (Qaa.1 q2).1];exact q2⟩
 rcases Qbi.1 hp with rfl|hp
 refine⟨by simp,λj hj =>?_⟩;have hl:=(Qaa.1 hj).1;have ha:as[j]? = some (as[j]'(by omega)):=Qab _;have:=(h2 j _ _ hj ha).lt;simp at this;exact⟨by rw[Qal (Qaa.1 (h4 p hp).1).1];exact(h4 p hp).1,(h4 p hp).2⟩
theorem z6u.get{lv:Nat}{L:List (Option yz4)}{as:List z5r}{os:List (Nat×yz4)}(h:z6u lv L as os){i:Nat}{o:yz4}(hm:(i,o)∈os):L[i]? = some (some o):=by
 obtain⟨ks,h1,h2,h3,h4⟩:=h;exact(h4 _ hm).1
theorem z6u.sub{lv:Nat}{L:List (Option yz4)}{as:List z5r}{os os':List (Nat×yz4)}(h:z6u lv L as os)(hs:∀p∈os',p∈os):z6u lv L as os':=by
 obtain⟨ks,h1,h2,h3,h4⟩:=h;exact⟨ks,h1,h2,h3,λp hp=>h4 p (hs p hp)⟩
theorem z6u.setObj{lv:Nat}{L:List (Option yz4)}{as:List z5r}{os:List (Nat×yz4)}(h:z6u lv L as os){i:Nat}{o:yz4}(hm:(i,o)∈os)(o':yz4):z6u lv (L.set i (some o')) as (os.map λp=>if p.1=i then (i,o')else p):=by
 obtain⟨ks,h1,h2,h3,h4⟩:=h;have hi:=(Qaa.1 (h4 _ hm).1).1;refine⟨ks,h1,λj k a hk ha =>?_,h3,λp hp =>?_⟩;have:=h2 j k a hk ha
 cases k with
 |none=>exact this
 |some n=>
  obtain⟨ver,cp,q1,q2⟩:=this;refine⟨ver,cp,q1,?_⟩;have:n≠i:=λhe=>(h4 _ hm).2 j (by rw[hk,he])
  rw[Qam (Ne.symm this)];exact q2
 rw[Qbd]at hp;obtain⟨q,hq,rfl⟩:=hp;split;rename_i he;refine⟨by simp[hi],λj hj =>?_⟩;exact(h4 q hq).2 j (by rw[hj,he]);rename_i he;exact⟨by rw[Qam (λh=>he h.symm)];exact(h4 q hq).1,(h4 q hq).2⟩
theorem z6u.push{lv:Nat}{L:List (Option yz4)}{as:List z5r}{os:List (Nat×yz4)}(h:z6u lv L as os){j:Nat}{ty sz:Nat}{v:V}{xs:List V}{w:Bool}(hj:as[j]? = some ⟨ty,sz,v,xs,w⟩)(ys:List V)(hr:xs.length+ys.length<=z4u)(E:Nat->Nat->Option yz4) :
  ∃v' L',yzs ⟨lv,L,E⟩ ty sz v ys=some (v',⟨lv,L',E⟩)∧z6u lv L' (as.set j ⟨ty,sz,v',xs++ys,w⟩) os:=by
 obtain⟨ks,h1,h2,h3,h4⟩:=h;have hjl:=(Qaa.1 hj).1;have hk:ks[j]? = some (ks[j]'(by omega)):=Qab _;generalize ks[j]'(by omega)=k at hk;have hA:=h2 j k _ hk hj
 have hset:∀(i:Nat) (a:z5r) (b:z5r),(as.set j b)[i]? = some a->(i=j∧a=b)∨(i≠j∧as[i]? = some a):=λi a b hi=>by
  by_cases he:i=j
  subst he;rw[Qaq (by omega)]at hi;injection hi with hi;exact .inl ⟨rfl,hi.symm⟩
  rw[Qam (Ne.symm he)]at hi;exact .inr ⟨he,hi⟩
 cases k with
 |none=>
  cases ys with
  |nil=>
   rcases hA with ⟨hv,hx⟩|hv
   simp only at hv hx;subst hv;subst hx;refine⟨.nils,L,rfl,ks,by simp[h1],λi k a hk' ha =>?_,h3,h4⟩
   rcases hset i a _ ha with ⟨rfl,rfl⟩|⟨_,ha⟩
   rw[hk]at hk';injection hk' with hk';subst hk';exact .inl ⟨rfl,rfl⟩
   exact h2 i k a hk' ha;obtain⟨hv,hw⟩:=hv;simp only at hv hw;subst hv;refine⟨.sl sz xs true,L,by simp[yzs],ks,by simp[h1],λi k a hk' ha =>?_,h3,h4⟩
   rcases hset i a _ ha with ⟨rfl,rfl⟩|⟨_,ha⟩
   rw[hk]at hk';injection hk' with hk';subst hk';exact .inr ⟨by simp,by simpa using hw⟩
   exact h2 i k a hk' ha
  |cons y r=>
   have happ:yzs ⟨lv,L,E⟩ ty sz v (y::r)=some (.hs lv L.length 0 0 (xs.length+(y::r).length) false,⟨lv,L++[some (.arr 0 ty sz (xs++y::r) none)],E⟩):=by
    rcases hA with ⟨hv,hx⟩|hv
    simp only at hv hx;subst hv;subst hx;simp only[yzs,zz2.push];rw[Qbr (by simpa using hr)];simp;obtain⟨hv,hw⟩:=hv;simp only at hv hw;subst hv;simp only[yzs,zz2.push,if_true];rw[Qbr (by simpa using hr)]
   refine⟨_,_,happ,ks.set j (some L.length),by simp[h1],λi k a hk' ha =>?_,λi i' n hi hi' =>?_,λp hp=>⟨?_,λi hi =>?_⟩⟩
   rcases hset i a _ ha with ⟨rfl,rfl⟩|⟨hne,ha⟩
   rw[Qaq (by omega)]at hk';injection hk' with hk';subst hk'
   exact⟨0,none,by simp,by simp⟩;rw[Qam (Ne.symm hne)]at hk';have:=h2 i k a hk' ha
   cases k with
   |none=>exact this
   |some n=>obtain⟨ver,cp,q1,q2⟩:=this;exact⟨ver,cp,q1,by rw[Qal (Qaa.1 q2).1];exact q2⟩
   have low:∀i n,i≠j->(ks.set j (some L.length))[i]? = some (some n)->n<L.length:=λi n hne hi=>by
    rw[Qam (Ne.symm hne)]at hi;have hl:=(Qaa.1 hi).1;exact(h2 i _ (as[i]'(by omega)) hi (Qab _)).lt
   by_cases e1:i=j <;> by_cases e2:i'=j
   rw[e1,e2]
   subst e1;rw[Qaq (by omega)]at hi;injection hi with hi;injection hi with hi
   have:=low i' n e2 hi';omega
   subst e2;rw[Qaq (by omega)]at hi';injection hi' with hi';injection hi' with hi'
   have:=low i n e1 hi;omega;rw[Qam (Ne.symm e1)]at hi;rw[Qam (Ne.symm e2)]at hi';exact h3 i i' n hi hi';rw[Qal (Qaa.1 (h4 p hp).1).1];exact(h4 p hp).1;have hlt:=(Qaa.1 (h4 p hp).1).1;by_cases e1:i=j
   subst e1;rw[Qaq (by omega)]at hi;injection hi with hi;injection hi with hi;omega
   rw[Qam (Ne.symm e1)]at hi;exact(h4 p hp).2 i hi
 |some n=>
  obtain⟨ver,cp,hv,hL⟩:=hA;simp only at hv hL;subst hv;have hn:=(Qaa.1 hL).1;refine⟨.hs lv n (ver+1) 0 (xs.length+ys.length) false,L.set n (some (.arr (ver+1) ty sz (xs++ys) none)),?_,ks,by simp[h1],λi k a hk' ha =>?_,h3,λp hp=>⟨?_,(h4 p hp).2⟩⟩;simp only[yzs,zz2.get,zz2.set,if_true,hL,Option.join_some];rw[Qbr (by simpa using hr)]
  rcases hset i a _ ha with ⟨rfl,rfl⟩|⟨hne,ha⟩
  rw[hk]at hk';injection hk' with hk';subst hk'
  exact⟨ver+1,none,by simp,by simp[hn]⟩;have:=h2 i k a hk' ha
  cases k with
  |none=>exact this
  |some n'=>
   obtain⟨ver',cp',q1,q2⟩:=this;refine⟨ver',cp',q1,?_⟩;have:n'≠n:=λhe=>hne (h3 i j n (by rw[hk',he]) hk)
   rw[Qam (Ne.symm this)];exact q2
  have hlt:=(Qaa.1 (h4 p hp).1).1;have:p.1≠n:=λhe=>(h4 p hp).2 j (by rw[hk,he])
  rw[Qam (Ne.symm this)];exact(h4 p hp).1
theorem zuh{D:Nat->Nat->Prop}{α:Type}{f:α->V}{l:List α}(h:∀x∈l,V.kin D (f x)):V.z3h D (l.map f) :=
 z3y λv hv=>by obtain⟨y,hy,rfl⟩:=Qbd.1 hv;exact h y hy
end
section
variable {P : Program}
end
def ix{α:Type}(l:List α)(i:Int):Option α:=if 0<=i then l[i.toNat]? else none
def sub{α:Type}(l:List α)(lo hi:Int):Option (List α):=if 0<=lo∧lo<=hi∧hi<=l.length then some ((l.take hi.toNat).drop lo.toNat)else none
def cat(x y:B8):Option B8:=if x.length+y.length<=maxLen then some (x++y)else none
def ext{α:Type}(x y:List α):Option (List α):=if x.length+y.length<=z4u then some (x++y)else none
def z1x{T:Type}(m:List (B8×T))(k:B8):Option T:=(m.find? λp=>k==p.1).map (·.2)
def z4v{T:Type}(m:List (B8×T))(k:B8)(x:T):List (B8×T):=match m.findIdx? (λp=>k==p.1)with|none=>m++[(k,x)]|some j=>m.set j (k,x)
def quo(k:IntKind)(x y:Int):Option Int:=if y=0 then none else some (k.wrap (x.tdiv y))
def rem(k:IntKind)(x y:Int):Option Int:=if y=0 then none else some (x.tmod y)
theorem z6w{α:Type}{l:List α}{i:Int}{x:α}(h:ix l i=some x):0<=i∧l[i.toNat]? = some x:=by
 unfold ix at h;split at h;exact⟨‹_›,h⟩;cases h
theorem ztl{α:Type}{l y:List α}{lo hi:Int}(h:sub l lo hi=some y):0<=lo∧lo<=hi∧hi<=l.length∧y=(l.take hi.toNat).drop lo.toNat∧0<=hi∧lo<=(hi.toNat:Int):=by
 unfold sub at h;split at h
 rename_i q;injection h with h;exact⟨q.1,q.2.1,q.2.2,h.symm,by omega,by omega⟩
 cases h
theorem y2u{x y z:B8}(h:cat x y=some z):x.length+y.length<=maxLen∧z=x++y:=by
 unfold cat at h;split at h;injection h with h;exact⟨‹_›,h.symm⟩;cases h
theorem zh5{α:Type}{x y z:List α}(h:ext x y=some z):x.length+y.length<=z4u∧z=x++y:=by
 unfold ext at h;split at h;injection h with h;exact⟨‹_›,h.symm⟩;cases h
theorem y4k{k:IntKind}{x y z:Int}(h:quo k x y=some z):y≠0∧z=k.wrap (x.tdiv y):=by
 unfold quo at h;split at h;cases h;injection h with h;exact⟨‹_›,h.symm⟩
theorem y3a{k:IntKind}{x y z:Int}(h:rem k x y=some z):y≠0∧z=x.tmod y:=by
 unfold rem at h;split at h;cases h;injection h with h;exact⟨‹_›,h.symm⟩
theorem zij{α:Type}{o:Option α}{β:Type}{f:α->Option β}{r:β}(h:o.bind f=some r):∃x,o=some x∧f x=some r:=by
 cases o with
 |none=>cases h
 |some x=>exact⟨x,rfl,h⟩
def an:Nat->List V->List V
 |0,l=>l
 |n+1,l=>.any::an n l
structure z30(lv:Nat)(L:List (Option yz4))(as:List z5r)(os:List (Nat×yz4)):Prop where
 accs:z6u lv L as os
 nodup:(os.map (·.1)).Nodup
theorem z30.nil(lv:Nat):z30 lv [] [] []:=⟨z6u.nil _ _,by simp⟩
theorem z30.get{lv:Nat}{L:List (Option yz4)}{as:List z5r}{os:List (Nat×yz4)}(h:z30 lv L as os){k i:Nat}{o:yz4}(hk:os[k]? = some (i,o)):L[i]? = some (some o) :=
 h.accs.get (Qax hk)
theorem z30.obj{lv:Nat}{L:List (Option yz4)}{as:List z5r}{os:List (Nat×yz4)}(h:z30 lv L as os)(o:yz4):z30 lv (L++[some o]) as ((L.length,o)::os):=by
 refine⟨h.accs.obj o,?_⟩;rw[List.map_cons,List.nodup_cons];refine⟨λha =>?_,h.nodup⟩;obtain⟨p,hp,hq⟩:=Qbd.1 ha;have:=(Qaa.1 (h.accs.get (show(p.1,p.2)∈os from hp))).1;omega
theorem z30.upd{lv:Nat}{L:List (Option yz4)}{as:List z5r}{os:List (Nat×yz4)}(h:z30 lv L as os){k i:Nat}{o:yz4}(hk:os[k]? = some (i,o))(o':yz4):z30 lv (L.set i (some o')) as (os.set k (i,o')):=by
 have hm:=Qax hk
 have hmap:os.map (λp=>if p.1=i then (i,o')else p)=os.set k (i,o'):=by
  apply List.ext_getElem?;intro j;rw[Qan,Qbf];by_cases hj:k=j;subst hj;rw[Qbr rfl,hk,Qbr (Qaa.1 hk).1];simp;rw[Qbs hj]
  cases hq:os[j]? with
  |none=>rfl
  |some p=>
   simp only[Qbn];rw[Qbs];intro he;have h1:(os.map (·.1))[j]? = some i:=by rw[Qan,hq];simp[he]
   have h2:(os.map (·.1))[k]? = some i:=by rw[Qan,hk];rfl
   have hlt:=(Qaa.1 h1).1;exact hj (((List.getElem?_inj hlt h.nodup).1 (h1.trans h2.symm)).symm)
 refine⟨?_,?_⟩;rw[<-hmap];exact h.accs.setObj hm o'
 have:(os.set k (i,o')).map (·.1)=os.map (·.1):=by
  rw[List.map_set];apply List.ext_getElem?;intro j;rw[Qbf];split;rename_i hj;subst hj;have h2:(os.map (·.1))[k]? = some i:=by rw[Qan,hk];rfl
  rw[Qbr (Qaa.1 h2).1,h2];rfl
 rw[this];exact h.nodup
theorem z30.pick{lv:Nat}{L:List (Option yz4)}{as:List z5r}{os os':List (Nat×yz4)}(h:z30 lv L as os)(hs:os'.Sublist os):z30 lv L as os' :=
 ⟨h.accs.sub λp hp=>hs.subset hp,h.nodup.sublist (hs.map _)⟩
theorem z30.cons{lv:Nat}{L:List (Option yz4)}{as:List z5r}{os:List (Nat×yz4)}(h:z30 lv L as os)(ty sz:Nat)(w:Bool):z30 lv L (⟨ty,sz,.nils,[],w⟩::as) os:=⟨h.accs.cons ty sz w,h.nodup⟩
theorem z30.push{lv:Nat}{L:List (Option yz4)}{as:List z5r}{os:List (Nat×yz4)}(h:z30 lv L as os){j:Nat}{ty sz:Nat}{v:V}{xs:List V}{w:Bool}(hj:as[j]? = some ⟨ty,sz,v,xs,w⟩)(ys:List V)(hr:xs.length+ys.length<=z4u)(E:Nat->Nat->Option yz4) :
  ∃v' L',yzs ⟨lv,L,E⟩ ty sz v ys=some (v',⟨lv,L',E⟩)∧z30 lv L' (as.set j ⟨ty,sz,v',xs++ys,w⟩) os:=by
 obtain⟨v',L',h1,h2⟩:=h.accs.push hj ys hr E;exact⟨v',L',h1,h2,h.nodup⟩
theorem z30.form{lv:Nat}{L:List (Option yz4)}{as:List z5r}{os:List (Nat×yz4)}(h:z30 lv L as os){j:Nat}{ty sz:Nat}{v:V}{xs:List V}{w:Bool}(hj:as[j]? = some ⟨ty,sz,v,xs,w⟩) :
  (v = .nils∧xs=[])∨(v = .sl sz xs true∧(w=true->xs=[]))∨∃i ver cp,v = .hs lv i ver 0 xs.length false∧L[i]? = some (some (.arr ver ty sz xs cp)):=by
 obtain⟨ks,h1,h2,h3,h4⟩:=h.accs;have hjl:=(Qaa.1 hj).1;have hk:ks[j]? = some (ks[j]'(by omega)):=Qab _;generalize ks[j]'(by omega)=k at hk;have hA:=h2 j k _ hk hj
 cases k with
 |none=>rcases hA with hA|hA
        exact .inl hA
        exact .inr (.inl hA)
 |some n=>obtain⟨ver,cp,q1,q2⟩:=hA;exact .inr (.inr ⟨n,ver,cp,q1,q2⟩)
theorem z30.len{P:Program}{lv:Nat}{L:List (Option yz4)}{as:List z5r}{os:List (Nat×yz4)}(h:z30 lv L as os){j:Nat}{ty sz:Nat}{v:V}{xs:List V}{w:Bool}(hj:as[j]? = some ⟨ty,sz,v,xs,w⟩){t e:Nat}(ht:P.underlying t=some (.slice e))(E:Nat->Nat->Option yz4) :
  za9 P ⟨lv,L,E⟩ t v=some (.int .i64 xs.length):=by
 rcases h.form hj with ⟨rfl,rfl⟩|⟨rfl,hw⟩|⟨i,ver,cp,rfl,hL⟩
 simp[za9,ht];simp[za9,ht];simp[za9,ht,zz2.get,hL]
theorem z30.at{P:Program}{lv:Nat}{L:List (Option yz4)}{as:List z5r}{os:List (Nat×yz4)}(h:z30 lv L as os){j:Nat}{ty sz:Nat}{v:V}{xs:List V}{w:Bool}(hj:as[j]? = some ⟨ty,sz,v,xs,w⟩){t e:Nat}(ht:P.underlying t=some (.slice e))
  (hz:sz=P.cellsOf e) (he:(P.underlying e).isSome=true) {i:Int}{x:V}(h0:0<=i) (hx:xs[i.toNat]? = some x) (E:Nat->Nat->Option yz4) :
  ∃q:Nat->V,yzf P ⟨lv,L,E⟩ t v (.int .i64 i)=some (q 0)∧(∀s f o off,zal P s f=some o->z2p P s f (q off)=some (q (off+o)))∧∀t' off,z2f P ⟨lv,L,E⟩ t' (q off)=rd P t' x.cells off:=by
 have hlt:=(Qaa.1 hx).1
 rcases h.form hj with ⟨rfl,rfl⟩|⟨rfl,hw⟩|⟨k,ver,cp,rfl,hL⟩
 simp at hx;exact⟨λo=>.ref x.cells o,by simp[yzf,ht,h0,hz,he,hx],λs f o off hf=>by simp[z2p,hf],λt' off=>by simp[z2f]⟩;refine⟨λo=>.ap lv k ver i.toNat o,?_,λs f o off hf=>by simp[z2p,hf],λt' off=>by simp[z2f,zfe,zz2.get,hL,hx]⟩;simp[yzf,ht,h0,hz,he,zz2.get,hL];omega
theorem z6u.setAt{lv:Nat}{L:List (Option yz4)}{as:List z5r}{os:List (Nat×yz4)}(h:z6u lv L as os){j n ver:Nat}{a:z5r}{cp:Option Nat}(hj:as[j]? = some a)(hv:a.v = .hs lv n ver 0 a.xs.length false)(hL:L[n]? = some (some (.arr ver a.ty a.sz a.xs cp)))(hn:a.xs≠[]){ys:List V}(hys:ys.length=a.xs.length) :
  z6u lv (L.set n (some (.arr ver a.ty a.sz ys cp))) (as.set j ⟨a.ty,a.sz,a.v,ys,a.w⟩) os:=by
 obtain⟨ks,h1,h2,h3,h4⟩:=h;have hjl:=(Qaa.1 hj).1;have hnl:=(Qaa.1 hL).1;have hkj:ks[j]? = some (ks[j]'(by omega)):=Qab _;generalize ks[j]'(by omega)=k at hkj
 have hk:ks[j]? = some (some n):=by
  have hA:=h2 j k _ hkj hj
  cases k with
  |none=>rcases hA with ⟨h,_⟩|⟨h,_⟩ <;> rw[hv]at h <;> cases h
  |some m=>
   obtain⟨ver',cp',q1,_⟩:=hA
   rw[hv]at q1;injection q1 with _ q1;subst q1;exact hkj
 refine⟨ks,by simp[h1],λi k a' hki ha =>?_,h3,λp hp=>⟨?_,(h4 p hp).2⟩⟩;by_cases he:i=j;subst he;rw[Qaq (by omega)]at ha;injection ha with ha;subst ha
 rw[hk]at hki;injection hki with hki;subst hki
 exact⟨ver,cp,by rw[hv,hys],by rw[Qaq hnl]⟩;rw[Qam (Ne.symm he)]at ha;have hA:=h2 i k a' hki ha
 cases k with
 |none=>exact hA
 |some m=>
  obtain⟨ver',cp',q1,q2⟩:=hA;have:m≠n:=λhh=>he (h3 i j n (by rw[hki,hh]) hk)
  exact⟨ver',cp',q1,by rw[Qam (Ne.symm this)];exact q2⟩
 have:p.1≠n:=λhe=>(h4 p hp).2 j (by rw[hk,he])
 rw[Qam (Ne.symm this)];exact(h4 p hp).1
theorem z30.put{P:Program}{lv:Nat}{L:List (Option yz4)}{as:List z5r}{os:List (Nat×yz4)}(h:z30 lv L as os){j:Nat}{ty sz:Nat}{v:V}{xs:List V}(hj:as[j]? = some ⟨ty,sz,v,xs,true⟩){t e:Nat}(ht:P.underlying t=some (.slice e))
  (hz:sz=P.cellsOf e) (he:(P.underlying e).isSome=true) {i:Int}{x:V}(h0:0<=i) (hx:xs[i.toNat]? = some x) (E:Nat->Nat->Option yz4) :
  ∃q:Nat->V,yzf P ⟨lv,L,E⟩ t v (.int .i64 i)=some (q 0)∧(∀s f o off,zal P s f=some o->z2p P s f (q off)=some (q (off+o)))∧(∀t' off,z2f P ⟨lv,L,E⟩ t' (q off)=rd P t' x.cells off) ∧
   ∀(t' off:Nat) (y:V),y.kz9=true->(P.info? t').isSome=true->y.cells.length=P.cellsOf t'->off+y.cells.length<=x.cells.length->fits x (yzi x.cells off y.cells)=true ->
    ∃L',z4g P ⟨lv,L,E⟩ t' (q off) y=some (.any,⟨lv,L',E⟩)∧z30 lv L' (as.set j ⟨ty,sz,v,xs.set i.toNat (z2c x (yzi x.cells off y.cells)),true⟩) os:=by
 have hlt:=(Qaa.1 hx).1;have hne:xs≠[]:=λhh=>by subst hh;simp at hx
 rcases h.form hj with ⟨rfl,rfl⟩|⟨rfl,hw⟩|⟨k,ver,cp,rfl,hL⟩
 simp at hx;exact(hne (hw rfl)).elim;refine⟨λo=>.ap lv k ver i.toNat o,?_,λs f o off hf=>by simp[z2p,hf],λt' off=>by simp[z2f,zfe,zz2.get,hL,hx],λt' off y y1 y2 y3 y4 y5 =>?_⟩;simp[yzf,ht,h0,hz,he,zz2.get,hL];omega;refine⟨L.set k (some (.arr ver ty sz (xs.set i.toNat (z2c x (yzi x.cells off y.cells))) cp)),?_,h.accs.setAt hj rfl hL hne (by simp),h.nodup⟩;simp[z4g,y1,y2,y3,zz2.get,hL,hx,zz2.set]
 rw[y3]at y4;exact⟨y4,y5⟩
theorem z30.arr{lv:Nat}{L:List (Option yz4)}{as:List z5r}{os:List (Nat×yz4)}(h:z30 lv L as os)(ver ty sz:Nat)(xs:List V)(cp:Option Nat)(w:Bool) :
  z30 lv (L++[some (.arr ver ty sz xs cp)]) (⟨ty,sz,.hs lv L.length ver 0 xs.length false,xs,w⟩::as) os:=by
 obtain⟨⟨ks,h1,h2,h3,h4⟩,h5⟩:=h
 have low:∀(i n:Nat),ks[i]? = some (some n)->n<L.length:=λi n hi=>by
  have hl:=(Qaa.1 hi).1;exact(h2 i _ (as[i]'(by omega)) hi (Qab _)).lt
 refine⟨⟨some L.length::ks,by simp[h1],λi k a hk ha =>?_,λi i' n hi hi' =>?_,λp hp=>⟨?_,λi hi =>?_⟩⟩,h5⟩
 cases i with
 |zero=>simp at hk ha;subst hk;subst ha;exact⟨ver,cp,rfl,by simp⟩
 |succ i=>
  have hA:=h2 i k a (by simpa using hk) (by simpa using ha)
  cases k with
  |none=>exact hA
  |some n=>obtain⟨ver',cp',q1,q2⟩:=hA;exact⟨ver',cp',q1,by rw[Qal (Qaa.1 q2).1];exact q2⟩
 cases i with
 |zero=>cases i' with
  |zero=>rfl
  |succ i'=>simp at hi;subst hi;have:=low i' _ (by simpa using hi');omega
 |succ i=>cases i' with
  |zero=>simp at hi';subst hi';have:=low i _ (by simpa using hi);omega
  |succ i'=>rw[h3 i i' n (by simpa using hi) (by simpa using hi')]
 rw[Qal (Qaa.1 (h4 p hp).1).1];exact(h4 p hp).1;have hlt:=(Qaa.1 (h4 p hp).1).1
 cases i with
 |zero=>simp at hi;omega
 |succ i=>exact(h4 p hp).2 i (by simpa using hi)
@[simp] theorem vc_any:V.cells V.any=[V.any]:=rfl
@[simp] theorem vl_any:V.leaf V.any=false:=rfl
@[simp] theorem vso_any:V.kz9 V.any=false:=rfl
@[simp] theorem vc_bool (b:Bool):V.cells (V.bool b)=[(V.bool b)]:=rfl
@[simp] theorem vl_bool (b:Bool):V.leaf (V.bool b)=true:=rfl
@[simp] theorem vso_bool (b:Bool):V.kz9 (V.bool b)=true:=rfl
@[simp] theorem vc_int (k:IntKind) (n:Int):V.cells (V.int k n)=[(V.int k n)]:=rfl
@[simp] theorem vl_int (k:IntKind) (n:Int):V.leaf (V.int k n)=true:=rfl
@[simp] theorem vso_int (k:IntKind) (n:Int):V.kz9 (V.int k n)=true:=rfl
@[simp] theorem vc_str (s:B8):V.cells (V.str s)=[(V.str s)]:=rfl
@[simp] theorem vl_str (s:B8):V.leaf (V.str s)=true:=rfl
@[simp] theorem vso_str (s:B8):V.kz9 (V.str s)=true:=rfl
@[simp] theorem vc_nilp:V.cells V.nilp=[V.nilp]:=rfl
@[simp] theorem vl_nilp:V.leaf V.nilp=true:=rfl
@[simp] theorem vso_nilp:V.kz9 V.nilp=true:=rfl
@[simp] theorem vc_ptr (l i o:Nat):V.cells (V.ptr l i o)=[(V.ptr l i o)]:=rfl
@[simp] theorem vl_ptr (l i o:Nat):V.leaf (V.ptr l i o)=true:=rfl
@[simp] theorem vso_ptr (l i o:Nat):V.kz9 (V.ptr l i o)=true:=rfl
@[simp] theorem vc_ref (cs:List V) (o:Nat):V.cells (V.ref cs o)=[(V.ref cs o)]:=rfl
@[simp] theorem vl_ref (cs:List V) (o:Nat):V.leaf (V.ref cs o)=true:=rfl
@[simp] theorem vso_ref (cs:List V) (o:Nat):V.kz9 (V.ref cs o)=true:=rfl
@[simp] theorem vc_ap (l i v x o:Nat):V.cells (V.ap l i v x o)=[(V.ap l i v x o)]:=rfl
@[simp] theorem vl_ap (l i v x o:Nat):V.leaf (V.ap l i v x o)=true:=rfl
@[simp] theorem vso_ap (l i v x o:Nat):V.kz9 (V.ap l i v x o)=true:=rfl
@[simp] theorem vc_nils:V.cells V.nils=[V.nils]:=rfl
@[simp] theorem vl_nils:V.leaf V.nils=true:=rfl
@[simp] theorem vso_nils:V.kz9 V.nils=true:=rfl
@[simp] theorem vc_sl (z:Nat) (xs:List V) (f:Bool):V.cells (V.sl z xs f)=[(V.sl z xs f)]:=rfl
@[simp] theorem vl_sl (z:Nat) (xs:List V) (f:Bool):V.leaf (V.sl z xs f)=true:=rfl
@[simp] theorem vso_sl (z:Nat) (xs:List V) (f:Bool):V.kz9 (V.sl z xs f)=true:=rfl
@[simp] theorem vc_hs (l i v o n:Nat) (f:Bool):V.cells (V.hs l i v o n f)=[(V.hs l i v o n f)]:=rfl
@[simp] theorem vl_hs (l i v o n:Nat) (f:Bool):V.leaf (V.hs l i v o n f)=true:=rfl
@[simp] theorem vso_hs (l i v o n:Nat) (f:Bool):V.kz9 (V.hs l i v o n f)=true:=rfl
@[simp] theorem vc_mapn:V.cells V.mapn=[V.mapn]:=rfl
@[simp] theorem vl_mapn:V.leaf V.mapn=true:=rfl
@[simp] theorem vso_mapn:V.kz9 V.mapn=true:=rfl
@[simp] theorem vc_map (l i:Nat):V.cells (V.map l i)=[(V.map l i)]:=rfl
@[simp] theorem vl_map (l i:Nat):V.leaf (V.map l i)=true:=rfl
@[simp] theorem vso_map (l i:Nat):V.kz9 (V.map l i)=true:=rfl
@[simp] theorem vc_fn (f:Nat) (a b:List V):V.cells (V.fn f a b)=[(V.fn f a b)]:=rfl
@[simp] theorem vl_fn (f:Nat) (a b:List V):V.leaf (V.fn f a b)=true:=rfl
@[simp] theorem vso_fn (f:Nat) (a b:List V):V.kz9 (V.fn f a b)=true:=rfl
@[simp] theorem vc_nilf:V.cells V.nilf=[V.nilf]:=rfl
@[simp] theorem vl_nilf:V.leaf V.nilf=true:=rfl
@[simp] theorem vso_nilf:V.kz9 V.nilf=true:=rfl
@[simp] theorem vc_iface (t:Nat) (v:V):V.cells (V.iface t v)=[(V.iface t v)]:=rfl
@[simp] theorem vl_iface (t:Nat) (v:V):V.leaf (V.iface t v)=true:=rfl
@[simp] theorem y9d (t:Nat) (v:V):V.kz9 (V.iface t v)=true:=rfl
@[simp] theorem vc_nili:V.cells V.nili=[V.nili]:=rfl
@[simp] theorem vl_nili:V.leaf V.nili=true:=rfl
@[simp] theorem vso_nili:V.kz9 V.nili=true:=rfl
@[simp] theorem vc_agg (cs:List V):V.cells (V.agg cs)=cs:=rfl
@[simp] theorem vl_agg (cs:List V):V.leaf (V.agg cs)=false:=rfl
@[simp] theorem vso_agg (cs:List V):V.kz9 (V.agg cs)=true:=rfl
@[simp] theorem vc_tup (vs:List V):V.cells (V.tup vs)=[(V.tup vs)]:=rfl
@[simp] theorem vl_tup (vs:List V):V.leaf (V.tup vs)=false:=rfl
@[simp] theorem vso_tup (vs:List V):V.kz9 (V.tup vs)=false:=rfl
section
variable {P : Program} {H : zz2}
@[simp] theorem y9c (t:Nat) (cs:List V) (o:Nat):z2f P H t (.ref cs o)=rd P t cs o:=rfl
@[simp] theorem y0m (t l i o:Nat):z2f P H t (.ptr l i o)=match H.get l i with|some (.cells cs)=>rd P t cs o|_=>none:=rfl
@[simp] theorem zm1 (t l i v x o:Nat):z2f P H t (.ap l i v x o)=(zfe H l i v x).bind λp=>rd P t p.2 o:=rfl
@[simp] theorem y2z (t:Nat) (s:B8):za9 P H t (.str s)=match P.underlying t with|some .string=>some (.int .i64 s.length)|_=>none:=rfl
@[simp] theorem zei (t:Nat):za9 P H t .nils=match P.underlying t with|some (.slice _)=>some (.int .i64 0)|_=>none:=rfl
@[simp] theorem zru (t z:Nat) (xs:List V) (b:Bool):za9 P H t (.sl z xs b)=match P.underlying t with|some (.slice _)=>some (.int .i64 xs.length)|_=>none:=rfl
@[simp] theorem y9b (t:Nat):za9 P H t .mapn=match P.underlying t with|some (.map _ _)=>some (.int .i64 0)|_=>none:=rfl
@[simp] theorem y5x (t:Nat) (cs:List V):za9 P H t (.agg cs)=match P.underlying t with|some (.array n _)=>some (.int .i64 n)|_=>none:=rfl
@[simp] theorem zfv (t z:Nat) (xs:List V) (b:Bool) (k:IntKind) (n:Int):yzf P H t (.sl z xs b) (.int k n)=if 0<=n then match P.underlying t with
   |some (.slice e)=>if z=P.cellsOf e∧(P.underlying e).isSome then (xs[n.toNat]?).map λy=>.ref y.cells 0 else none
   |some (.array len e)=>if n<len∧(P.underlying e).isSome then none else none
   |_=>none else none:=by unfold yzf;rfl
end
section
variable {P : Program}
def z41(P:Program)(ops:Array Oper)(k:Nat)(σ:St)(Q:zz7->St->Prop):Prop :=
 ∀W0 g0 H0 W a g,y3b W0 g0 H0->(σ.e0=H0.E∧Step W0 g0 H0 W g σ.H)->kz8 W a g σ->wpOps P ops (zpz W0 g0 H0 Q) (List.range' k (ops.size-k)) a W
theorem y3u{ops:Array Oper}{k:Nat}{σ:St}{Q:zz7->St->Prop}(hk:ops.size<=k)(h:Q .normal σ):z41 P ops k σ Q:=λW0 g0 H0 W a g _ hS hG=>by
 rw[show ops.size-k=0 by omega];exact⟨g,σ,.normal,.normal,hS,hG,h⟩
theorem y6k{id:Nat}{ops:Array Oper}{σ:St}{Q:zz7->St->Prop}(h:z41 P ops 0 σ Q):Sat P (.region id ops false) σ Q:=λW0 g0 H0 W a g hB hS hG=>by
 refine zya zcr ?_;rw[List.range_eq_range'];have:=h W0 g0 H0 W a g hB hS hG;simpa using this
theorem zeh{ops:Array Oper}{k:Nat}{σ:St}{Q:zz7->St->Prop}(n:Nat)(ans:List (V×Option zz2))(σ1:St)(cl:List Claim)(h:zgs P ops ((ops.toList.drop k).take n) ans σ=some (σ1,[],cl))(hc:∀c∈cl,c.ok P)(hk:z41 P ops (k+n) σ1 Q):z41 P ops k σ Q:=λW0 g0 H0 W a g hB hS hG=>by
 have hlen:((ops.toList.drop k).take n).length=min n (ops.size-k):=by simp
 have hr:List.range' k (ops.size-k)=List.range' k ((ops.toList.drop k).take n).length++List.range' (k+n) (ops.size-(k+n)):=by
  rw[hlen];by_cases hn:n<=ops.size-k;rw[Nat.min_eq_left hn,show ops.size-k=n+(ops.size-(k+n)) by omega,<-List.range'_append];simp;rw[Nat.min_eq_right (by omega),show ops.size-(k+n)=0 by omega];simp
 rw[hr]
 exact zej (P:=P) _ ((ops.toList.drop k).take n) k ans [] σ σ1 cl W a g (λj hj=>by
  rw[Qaw,Qbr (by rw[hlen]at hj;omega)];simp) h hc hG hS (λW' a' g' s1 s2=>hk W0 g0 H0 W' a' g' hB s1 s2)
theorem y4e{id:Nat}{ops:Array Oper}{σ:St}{Q:zz7->St->Prop}(hm:P.follows .mixedOrders=true)(hB:Region.lexB .any ops=true)(ans:List V)(σ1:St)(cl:List Claim)(h:z8i P ops ops.toList ans σ=some (σ1,[],cl))(hc:∀c∈cl,c.ok P)(hQ:Q .normal σ1) :
 Sat P (.region id ops true) σ Q:=y7o hm hB ans h hc hQ
theorem y7b{id:Nat}{ops:Array Oper}{σ:St}{Q:zz7->St->Prop}(n:Nat)(hm:P.follows .mixedOrders=true)(hB:Region.lexTailB .any ops n=true)
  (ans:List V) (σ1:St) (cl:List Claim) (h:z8i P ops (ops.toList.take n) ans σ=some (σ1,[],cl)) (hc:∀c∈cl,c.ok P) (hk:z41 P ops n σ1 Q):Sat P (.region id ops true) σ Q :=
 zpi n hm hB ans h hc hk
inductive VSL (H:zz2) (D:Nat->Nat->Prop):List V->List V->Prop where
 |nil:VSL H D [] []
 |cons {v u:V} {vs us:List V}(h:VS H D v u) (r:VSL H D vs us):VSL H D (v::vs) (u::us)
theorem VSL.length{H:zz2}{D:Nat->Nat->Prop}{vs us:List V}(h:VSL H D vs us):vs.length=us.length:=by induction h <;> simp_all
theorem VSL.get{H:zz2}{D:Nat->Nat->Prop}{vs us:List V}(h:VSL H D vs us):∀(j:Nat) (v u:V),vs[j]? = some v->us[j]? = some u->VS H D v u:=by
 induction h with
 |nil=>intro j v u hj;simp at hj
 |cons h r ih=>
  intro j v u hj hk
  cases j with
  |zero=>simp at hj hk;subst hj;subst hk;exact h
  |succ j=>exact ih j v u (by simpa using hj) (by simpa using hk)
theorem VS.agg'{H:zz2}{D:Nat->Nat->Prop}{vs us:List V}(h:VSL H D vs us):VS H D (.agg vs) (.agg us):=.agg _ _ h.length h.get
theorem VS.y2v{H:zz2}{D:Nat->Nat->Prop}{vs us:List V}(h:VSL H D vs us):VS H D (.tup vs) (.tup us):=.tup _ _ h.length h.get
end
theorem y4r{α:Type}(l:List α)(k:Nat):ix l (k:Int)=l[k]? := by simp[ix]
theorem wrk{k:Nat}(h:k<=4611686018427387904):IntKind.i64.wrap ((k:Int)+1)=((k+1:Nat):Int):=by rw[wr1 h];rfl
theorem zzb{α:Type}{l:List α}{k:Nat}(h:k<l.length):ix l (k:Int)=some l[k]:=by rw[y4r,Qab h]
theorem zn4{α:Type}{x y:List α}(h:x.length+y.length<=1048576):ext x y=some (x++y):=by unfold ext;rw[Qbr];simp[z4u];omega
theorem down{len:Nat}{Q:Nat->Prop}(h0:Q len)(hs:∀k,k<len->Q (k+1)->Q k):∀k,k<=len->Q k:=by
 intro k hk;obtain⟨m,rfl⟩:∃m,k=len-m:=⟨len-k,by omega⟩
 induction m with
 |zero=>exact h0
 |succ m ih=>
  by_cases h:m<len;refine hs _ (by omega) ?_;rw[show len-(m+1)+1=len-m by omega];exact ih (by omega);rw[show len-(m+1)=len-m by omega];exact ih (by omega)
def Ev{α:Type}(f:Nat->Option α)(r:α):Prop:=∃n,∀m,n<=m->f m=some r
section
variable {α β : Type} {r : α}
theorem Ev.get{f:Nat->Option α}(h:Ev f r):∃n,f n=some r:=by obtain⟨n,hn⟩:=h;exact⟨n,hn n (Qbq _)⟩
theorem Ev.succ{f g:Nat->Option α}(h:∀n,f (n+1)=g n)(hg:Ev g r):Ev f r:=by
 obtain⟨n,hn⟩:=hg;refine⟨n+1,λm hm =>?_⟩;obtain⟨q,rfl⟩:∃q,m=q+1:=⟨m-1,by omega⟩;rw[h];exact hn q (by omega)
theorem Ev.same{f g:Nat->Option α}(h:∀n,f n=g n)(hg:Ev g r):Ev f r:=by
 obtain⟨n,hn⟩:=hg;exact⟨n,λm hm=>by rw[h];exact hn m hm⟩
theorem Ev.pure{o:Option α}(h:o=some r):Ev (λ_=>o) r:=⟨0,λ_ _=>h⟩
theorem Ev.bind{a:Nat->Option β}{k:Nat->β->Option α}{y:β}(ha:Ev a y)(hk:Ev (λn=>k n y) r):Ev (λn=>(a n).bind (k n)) r:=by
 obtain⟨n,hn⟩:=ha;obtain⟨q,hq⟩:=hk;exact⟨max n q,λm hm=>by show(a m).bind (k m)=_;rw[hn m (by omega)];exact hq m (by omega)⟩
theorem Ev.opt{o:Option β}{k:Nat->β->Option α}{y:β}(ho:o=some y)(hk:Ev (λn=>k n y) r):Ev (λn=>o.bind (k n)) r:=.bind (.pure ho) hk
theorem Ev.t{c:Bool}{a b:Nat->Option α}(hc:c=true)(ha:Ev a r):Ev (λn=>if c=true then a n else b n) r:=by subst hc;exact ha
theorem Ev.f{c:Bool}{a b:Nat->Option α}(hc:c=false)(ha:Ev b r):Ev (λn=>if c=true then a n else b n) r:=by subst hc;exact ha
theorem Ev.cond{c:Bool}{a b:Nat->Option α}(ht:c=true->Ev a r)(hf:c=false->Ev b r):Ev (λn=>if c=true then a n else b n) r:=by
 cases c;exact hf rfl;exact ht rfl
theorem Ev.to{f:Nat->Option α}{r':α}(h:Ev f r')(e:r'=r):Ev f r:=e▸h
end
section
variable {α β γ : Type} {xs : List α}
end
section
variable {P : Program}
inductive Out where
 |ret (r:V)
 |pan (v:V)
def y3s(W:World)(g:Gh)(H:zz2):Out->Ending->Prop
 |.ret r,e=>∃c,e = .returned c∧Rel W g H r c
 |.pan v,e=>∃c,e = .panicked [{v:=c,recovered:=false}]∧Rel W g H v c
def zkz(P:Program)(f:Nat)(args:List V)(H:zz2)(Post:Out->zz2->Prop):Prop :=
 ∀(W:World) (g:Gh) (cargs:Array Value),Good W g H->z84 W g H args cargs ->
  (callFunc f cargs).run P W = .ok (.enter f cargs) W∧Calls P f cargs W (λe W'=>∃o H' g',Post o H'∧Step W g H W' g' H'∧Good W' g' H'∧y3s W' g' H' o e)
theorem zkz.mono{f:Nat}{args:List V}{H:zz2}{Q Q':Out->zz2->Prop}(h:zkz P f args H Q)(hq:∀o H',Q o H'->Q' o H'):zkz P f args H Q':=λW g cargs hG hA=>by
 obtain⟨h1,h2⟩:=h W g cargs hG hA;exact⟨h1,h2.mono λe W' ⟨o,H',g',k1,k2⟩=>⟨o,H',g',hq _ _ k1,k2⟩⟩
def y8n(P:Program)(fn:Func)(Post:Out->zz2->Prop)(e:zz7)(σ:St):Prop :=
 match e with
 |.normal| .ret=>∃v r,z32 P fn σ=some v∧σ.d=[]∧VLe v r∧Post (.ret r) σ.H
 |.panic v=>σ.d=[]∧Post (.pan v) σ.H
 |.exit _=>False
theorem y2p{f:Nat}{fn:Func}{c:Code}{n:Nat}(hf:P.funcs[f]? = some fn)(hb:fn.body=some c)(hnt:fn.ntmps=n)(hent:∀args w,(callFunc f args).run P w = .ok (.enter f args) w){args:List V}{lv:Nat}{L:List (Option yz4)}{E:Nat->Nat->Option yz4}{Post:Out->zz2->Prop}
  (h:Sat P c ⟨args++List.replicate (n-args.length) .any,⟨lv,L,E⟩,[],E⟩ (y8n P fn Post)):zkz P f args ⟨lv,L,E⟩ Post:=by
 intro W g cargs hG hA;subst hnt;refine⟨hent cargs W,calls_of_wp hf hb ?_⟩
 have hgs:kz8 W {tmps:=cargs++Array.replicate (fn.ntmps-cargs.size) undef,defers:=[]} g ⟨args++List.replicate (fn.ntmps-args.length) .any,⟨lv,L,E⟩,[],E⟩:=by
  refine⟨hG,by simp[hA.1],λj v hj =>?_,rfl,by simp⟩;rw[Qbb]at hj;split at hj;rename_i hlt;rw[zzx (by rw[hA.1];exact hlt)];exact hA.2 j v hj;rw[Qbl]at hj;split at hj;injection hj with hj;subst hj;exact .any _;cases hj
 refine wp_mono (h W g ⟨lv,L,E⟩ W _ g ⟨hG⟩ ⟨rfl,.refl _ _ _⟩ hgs).wp λe a W' ⟨g1,σ,e',q1,q2,q3,q4⟩ =>?_
 have key:∀v r,z32 P fn σ=some v->σ.d=[]->VLe v r->Post (.ret r) σ.H->a.defers=[]∧∃c,(results fn a.tmps).run P W' = .ok c W'∧∃o H' g',Post o H'∧Step W g ⟨lv,L,E⟩ W' g' H'∧Good W' g' H'∧y3s W' g' H' o (.returned c):=λv r h1 h2 h3 h4=>by
  obtain⟨c,k1,k2⟩:=zaa q3 h1;exact⟨Qao (by rw[q3.dlen,h2];rfl),c,k1,.ret r,σ.H,g1,h4,q2.2,q3.good,c,rfl,h3.rel k2⟩
 cases q1 with
 |normal=>obtain⟨v,r,h1,h2,h3,h4⟩:=q4;exact key v r h1 h2 h3 h4
 |ret=>obtain⟨v,r,h1,h2,h3,h4⟩:=q4;exact key v r h1 h2 h3 h4
 |exit id=>exact q4.elim
 |panic v c hr=>
  obtain⟨h1,h2⟩:=q4;exact⟨Qao (by rw[q3.dlen,h1];rfl),.pan v,σ.H,g1,h2,q2.2,q3.good,c,rfl,hr⟩
theorem y2m{ops:Array Oper}{k:Nat}{σ:St}{Q:zz7->St->Prop}{o:Oper}{c:Call}{f:Nat}{args:List V}{Post:Out->zz2->Prop}(ho:ops[k]? = some o)(hw:yzh ops σ o=some true)(hop:o.op = .call c)(ht:target σ.ev c=some (f,args))(hc:zkz P f args σ.H Post)
  (hr:∀r H',Post (.ret r) H'->z41 P ops (k+1) ({σ with H:=H'}.put o.dst r) Q) (hp:∀v H',Post (.pan v) H'->Q (.panic v) {σ with H:=H'}):z41 P ops k σ Q:=λW0 g0 H0 W a g hB hS hG=>by
 have hk:k<ops.size:=by
  rcases Nat.lt_or_ge k ops.size with q|q
  exact q;rw[Array.getElem?_eq_none q]at ho;cases ho
 rw[show ops.size-k=(ops.size-(k+1))+1 by omega,List.range'_succ];simp only[wpOps,ho];rw[yzn hG hw,Qbr rfl];left;unfold Oper.wp;obtain⟨cargs,k1,k2⟩:=z4r (P:=P) (ty:=o.type) hG.ev ht
 have hex:(execOp a.eval o).run P W=(callFunc f cargs).run P W:=by
  rw[<-k2 W];unfold execOp;rw[hop]
 obtain⟨e1,e2⟩:=hc W g cargs hG.good k1;rw[hex,e1];refine e2.mono λe W' ⟨o',H',g',p1,p2,p3,p4⟩ =>?_
 cases o' with
 |ret r=>
  obtain⟨c',he,hr'⟩:=p4;subst he
  exact hr r H' p1 W0 g0 H0 W' (a.put o.dst c') g' hB (by
   have:({σ with H:=H'}.put o.dst r).H=H':=by cases o.dst <;> rfl
   have he:({σ with H:=H'}.put o.dst r).e0=σ.e0:=by cases o.dst <;> rfl
   rw[this,he];exact⟨hS.1,hS.2.trans p2⟩) (hG.next p2 p3 hr' o.dst)
 |pan v=>
  obtain⟨c',he,hr'⟩:=p4;subst he;have hn:=hG.next p2 p3 (.any undef) none;exact⟨g',{σ with H:=H'},.panic v,.panic v c' hr',⟨hS.1,hS.2.trans p2⟩,hn,hp v H' p1⟩
theorem zxt{ops:Array Oper}{k:Nat}{σ:St}{Q:zz7->St->Prop}{o:Oper}{x:Operand}{t:Nat}{v:V}(ho:ops[k]? = some o)(hw:yzh ops σ o=some true)(hop:o.op = .panic x)(hv:σ.ev x = .iface t v)(hp:Q (.panic (.iface t v)) σ):z41 P ops k σ Q:=λW0 g0 H0 W a g hB hS hG=>by
 have hk:k<ops.size:=by
  rcases Nat.lt_or_ge k ops.size with q|q
  exact q;rw[Array.getElem?_eq_none q]at ho;cases ho
 rw[show ops.size-k=(ops.size-(k+1))+1 by omega,List.range'_succ];simp only[wpOps,ho];rw[yzn hG hw,Qbr rfl];left;have hr:=hG.ev x;rw[hv]at hr;generalize hcc:a.eval x=cc at hr
 cases hr with
 |iface _ _ c h=>
  unfold Oper.wp
  have hex:(execOp a.eval o).run P W = .halt (.panic (.iface t c)) W:=by
   unfold execOp;rw[hop];simp[hcc,Instr.panic,goPanic,Sem.run]
  rw[hex];exact⟨g,σ,.panic (.iface t v),.panic _ _ (.iface _ _ _ h),hS,hG,hp⟩
theorem Rel.zk3{W:World}{g:Gh}{H H':zz2}(hown:∀b,Own g H' b->Own g H b)(harr:∀l i ver ty sz xs cp,H'.get l i=some (.arr ver ty sz xs cp)->H.get l i=some (.arr ver ty sz xs cp)){v:V}{c:Value}(h:Rel W g H v c):Rel W g H' v c:=by
 induction h with
 |any c=>exact .any c
 |bool b=>exact .bool b
 |int k n=>exact .int k n
 |str s=>exact .str s
 |nilp=>exact .nilp
 |ptr l i off hd=>exact .ptr l i off hd
 |ref cs off b o c hb hc h1 hr ih=>exact .ref cs off b o c (λhne hn=>hb hne (hown b hn)) hc h1 ih
 |ap l i ver idx off a hd hv ha=>exact .ap l i ver idx off a hd (λv ty sz xs cp hg=>hv _ _ _ _ _ (harr _ _ _ _ _ _ _ hg)) λty sz xs cp hg=>ha _ _ _ _ (harr _ _ _ _ _ _ _ hg)
 |nils=>exact .nils
 |slnil sz full=>exact .slnil sz full
 |sle sz full a cap hf=>exact .sle sz full a cap hf
 |sl sz xs full b o cap c hb hz hcap hf hs hc h1 hr ih=>exact .sl sz xs full b o cap c (λhn=>hb (hown b hn)) hz hcap hf hs hc h1 ih
 |hs l i ver off n full a m cap hd hv ha=>exact .hs l i ver off n full a m cap hd (λv ty sz xs cp hg=>hv _ _ _ _ _ (harr _ _ _ _ _ _ _ hg)) λty sz xs cp hg=>ha _ _ _ _ (harr _ _ _ _ _ _ _ hg)
 |mapn=>exact .mapn
 |mapc es b en clock hb hw he=>exact .mapc es b en clock (λhn=>hb (hown b hn)) hw he
 |map l i hd=>exact .map l i hd
 |fn f fs cs fs' cs' h1 h2 r1 r2 i1 i2=>exact .fn f fs cs fs' cs' h1 h2 i1 i2
 |nilf=>exact .nilf
 |iface t v c h ih=>exact .iface t v c ih
 |nili=>exact .nili
 |agg vs cs hn h1 hr ih=>exact .agg vs cs hn h1 ih
 |tup vs cs hn hr ih=>exact .tup vs cs hn ih
inductive FV (v r:V):V->V->Prop where
 |keep (x:V):FV v r x x
 |any (x:V):FV v r x .any
 |it:FV v r v r
 |agg (vs us:List V) (hn:vs.length=us.length) (h:∀(j:Nat) (x y:V),vs[j]? = some x->us[j]? = some y->FV v r x y):FV v r (.agg vs) (.agg us)
 |tup (vs us:List V) (hn:vs.length=us.length) (h:∀(j:Nat) (x y:V),vs[j]? = some x->us[j]? = some y->FV v r x y):FV v r (.tup vs) (.tup us)
inductive FVL (v r:V):List V->List V->Prop where
 |nil:FVL v r [] []
 |cons {x y:V} {xs ys:List V}(h:FV v r x y) (t:FVL v r xs ys):FVL v r (x::xs) (y::ys)
theorem FVL.length{v r:V}{vs us:List V}(h:FVL v r vs us):vs.length=us.length:=by induction h <;> simp_all
theorem FVL.get{v r:V}{vs us:List V}(h:FVL v r vs us):∀(j:Nat) (x y:V),vs[j]? = some x->us[j]? = some y->FV v r x y:=by
 induction h with
 |nil=>intro j x y hj;simp at hj
 |cons h t ih=>
  intro j x y hj hk
  cases j with
  |zero=>simp at hj hk;subst hj;subst hk;exact h
  |succ j=>exact ih j x y (by simpa using hj) (by simpa using hk)
theorem FV.agg'{v r:V}{vs us:List V}(h:FVL v r vs us):FV v r (.agg vs) (.agg us):=.agg _ _ h.length h.get
theorem FV.y2v{v r:V}{vs us:List V}(h:FVL v r vs us):FV v r (.tup vs) (.tup us):=.tup _ _ h.length h.get
theorem FV.rel{W:World}{g:Gh}{H H':zz2}{v r:V}(hf:∀{x:V}{c:Value},Rel W g H x c->Rel W g H' x c)(hv:∀{c:Value},Rel W g H v c->Rel W g H' r c){x y:V}(h:FV v r x y):∀{c:Value},Rel W g H x c->Rel W g H' y c:=by
 induction h with
 |keep x=>exact λh=>hf h
 |any x=>exact λ_=>.any _
 |it=>exact λh=>hv h
 |agg vs us hn h ih=>
  intro c hc
  cases hc with
  |agg _ cs hs h1 hr=>
   have get:∀j u,us[j]? = some u->∃x,vs[j]? = some x:=λj u hj=>by
    have:=(Qaa.1 hj).1;exact⟨_,Qab (by omega)⟩
   refine .agg _ cs (by omega) (λj u hj =>?_) (λj u hj =>?_);obtain⟨x,hx⟩:=get j u hj;exact h1 j x hx
   obtain⟨x,hx⟩:=get j u hj;exact ih j x u hx hj (hr j x hx)
 |tup vs us hn h ih=>
  intro c hc
  cases hc with
  |tup _ cs hs hr=>
   refine .tup _ cs (by omega) (λj u hj =>?_);have hlt:=(Qaa.1 hj).1;have hx:vs[j]? = some (vs[j]'(by omega)):=Qab _;exact ih j _ u hx hj (hr j _ hx)
def FO(v r:V)(o o':yz4):Prop:=o'=o∨∃cs cs',o = .cells cs∧o' = .cells cs'∧FVL v r cs cs'
theorem FO.blk{v r:V}{o o':yz4}(h:FO v r o o')(g:Gh)(l i:Nat):o'.blk g l i=o.blk g l i:=by
 rcases h with rfl|⟨cs,cs',rfl,rfl,_⟩ <;> rfl
theorem FO.arr{v r:V}{o:yz4}{ver ty sz:Nat}{xs:List V}{cp:Option Nat}(h:FO v r o (.arr ver ty sz xs cp)):o = .arr ver ty sz xs cp:=by
 rcases h with h|⟨cs,cs',_,h,_⟩
 exact h.symm;cases h
theorem zn9{σ:St}{L':List (Option yz4)}{t':List V}{v r:V}(hlen:L'.length=σ.H.L.length)(hL:∀(k:Nat) (o':yz4),L'[k]? = some (some o')->∃o,σ.H.L[k]? = some (some o)∧FO v r o o')(ht:FVL v r σ.t t')(hd:σ.d=[])
  (hv:∀(W:World) (g:Gh),Good W g σ.H->(∀b,Own g ⟨σ.H.lv,L',σ.H.E⟩ b->Own g σ.H b)->(∀{x:V}{c:Value},Rel W g σ.H x c->Rel W g ⟨σ.H.lv,L',σ.H.E⟩ x c)->∀{c:Value},Rel W g σ.H v c->Rel W g ⟨σ.H.lv,L',σ.H.E⟩ r c):zag σ ⟨t',⟨σ.H.lv,L',σ.H.E⟩,[],σ.e0⟩:=λW0 g0 H0 W a g hB hS hG=>by
 have hget:∀l i o',zz2.get ⟨σ.H.lv,L',σ.H.E⟩ l i=some o'->∃o,σ.H.get l i=some o∧FO v r o o':=λl i o' h=>by
  unfold zz2.get at h ⊢;dsimp only at h;by_cases hl:l=σ.H.lv;rw[Qbr hl]at h ⊢
  cases hq:L'[i]? with
  |none=>rw[hq]at h;simp at h
  |some q=>
   rw[hq]at h
   cases q with
   |none=>simp at h
   |some q=>
    simp at h;subst h;obtain⟨o,h1,h2⟩:=hL i q hq;exact⟨o,by rw[h1];rfl,h2⟩
  rw[Qbs hl]at h ⊢;exact⟨o',h,.inl rfl⟩
 have hown:∀b,Own g ⟨σ.H.lv,L',σ.H.E⟩ b->Own g σ.H b:=λb ⟨l,i,o',ho,hb⟩=>by
  obtain⟨o,h1,h2⟩:=hget l i o' ho;exact⟨l,i,o,h1,by rw[<-h2.blk];exact hb⟩
 have harr:∀l i ver ty sz xs cp,zz2.get ⟨σ.H.lv,L',σ.H.E⟩ l i=some (.arr ver ty sz xs cp)->σ.H.get l i=some (.arr ver ty sz xs cp):=λl i ver ty sz xs cp h=>by
  obtain⟨o,h1,h2⟩:=hget l i _ h;rw[h2.arr]at h1;exact h1
 have hf:∀{x:V}{c:Value},Rel W g σ.H x c->Rel W g ⟨σ.H.lv,L',σ.H.E⟩ x c:=λh=>Rel.zk3 hown harr h
 have hr:∀{x y:V},FV v r x y->∀{c:Value},Rel W g σ.H x c->Rel W g ⟨σ.H.lv,L',σ.H.E⟩ y c:=λh=>FV.rel hf (hv W g hG.good hown hf) h
 have hGood:Good W g ⟨σ.H.lv,L',σ.H.E⟩:=by
  refine⟨λl i o' h =>?_,λl i o' h =>?_,λl i o1 l' i' o2 h1 h2 hb =>?_,λl i h =>?_,λl i o' h =>?_,hG.good.glob.zk3 hown,hG.good.base⟩;obtain⟨o,h1,_⟩:=hget l i o' h;exact hG.good.dom l i o h1;obtain⟨o,h1,h2⟩:=hget l i o' h;rw[h2.blk];exact hG.good.lt l i o h1;obtain⟨p,k1,k2⟩:=hget l i o1 h1;obtain⟨q,m1,m2⟩:=hget l' i' o2 h2;rw[k2.blk,m2.blk]at hb;exact hG.good.inj l i p l' i' q k1 m1 hb
  rcases hG.good.fresh l i h with q|⟨q1,q2⟩
  exact .inl q;exact .inr ⟨q1,by show i<L'.length;rw[hlen];exact q2⟩;obtain⟨o,h1,h2⟩:=hget l i o' h;have ho:=hG.good.obj l i o h1
  rcases h2 with rfl|⟨cs,cs',rfl,rfl,hc⟩
  cases o' with
  |cells cs=>
   obtain⟨c,ty,k1,k2,k3,k4⟩:=ho
   exact⟨c,ty,k1,k2,k3,λj x hj=>hf (k4 j x hj)⟩
  |arr ver ty sz xs cp=>
   obtain⟨c,k1,k3,k4,k4',k5,k6,k7,k8,k9⟩:=ho
   exact⟨c,k1,k3,k4,k4',k5,k6,k7,k8,λj x t v hj ht=>hf (k9 j x t v hj ht)⟩
  |map es=>
   obtain⟨en,clock,k1,k2,k3,k4,k5⟩:=ho;refine⟨en,clock,k1,k2,k3,k4,λj p hj =>?_⟩;obtain⟨e,he,m1,m2⟩:=k5 j p hj
   exact⟨e,he,hf m1,hf m2⟩
  |siter s pos=>exact ho
  |mit es vis=>
   obtain⟨en,clock,mb,k1,k2,k3,k4⟩:=ho;exact⟨en,clock,mb,k1,λhn=>k2 (hown _ hn),k3,k4⟩
  obtain⟨c,ty,k1,k2,k3,k4⟩:=ho;have hl:=hc.length
  have get:∀j u,cs'[j]? = some u->∃x,cs[j]? = some x:=λj u hj=>by
   have:=(Qaa.1 hj).1;exact⟨_,Qab (by omega)⟩
  refine⟨c,ty,k1,by omega,λj u hj =>?_,λj u hj =>?_⟩;obtain⟨x,hx⟩:=get j u hj;exact k3 j x hx;obtain⟨x,hx⟩:=get j u hj;exact hr (hc.get j x u hx hj) (k4 j x hx)
 refine⟨g,⟨hS.1,⟨hS.2.os,hS.2.tape,hS.2.output,hS.2.size,hS.2.block,λb h=>hS.2.own b (hown b h),hS.2.dom,hS.2.new,hS.2.blk,λl i ver ty sz xs cp hd h=>hS.2.arr l i ver ty sz xs cp hd (harr l i _ _ _ _ _ h),hS.2.lv,hS.2.base⟩⟩,hGood,hG.size.trans ht.length,λj u hj =>?_,by rw[hG.dlen,hd],λj f vs hj=>by simp at hj⟩;have hlt:=(Qaa.1 hj).1
 have hx:σ.t[j]? = some (σ.t[j]'(by rw[ht.length];exact hlt)):=Qab _;exact hr (ht.get j _ u hx hj) (hG.tmps j _ hx)
inductive FOL (v r:V):List (Nat×yz4)->List (Nat×yz4)->Prop where
 |refl (os:List (Nat×yz4)):FOL v r os os
 |cons {i:Nat} {o o':yz4}{os os':List (Nat×yz4)}(h:FO v r o o') (t:FOL v r os os'):FOL v r ((i,o)::os) ((i,o')::os')
theorem FOL.map{v r:V}{os os':List (Nat×yz4)}(h:FOL v r os os'):os'.map (·.1)=os.map (·.1):=by
 induction h with
 |refl os=>rfl
 |cons h t ih=>simp[ih]
theorem FOL.mem{v r:V}{os os':List (Nat×yz4)}(h:FOL v r os os'):∀p'∈os',∃o,(p'.1,o)∈os∧FO v r o p'.2:=by
 induction h with
 |refl os=>exact λp hp=>⟨p.2,hp,.inl rfl⟩
 |cons h t ih=>
  intro p hp
  rcases Qbi.1 hp with rfl|hp
  exact⟨_,Qak,h⟩;obtain⟨o,h1,h2⟩:=ih p hp;exact⟨o,Qai _ h1,h2⟩
def told(L:List (Option yz4))(rm:Option Nat)(os:List (Nat×yz4)):List (Option yz4) :=
 (List.range L.length).map λk=>if rm=some k then none else match os.find? (λp=>p.1==k)with|some p=>some p.2|none=>(L[k]?).join
theorem z7j(L:List (Option yz4))(rm:Option Nat)(os:List (Nat×yz4)):(told L rm os).length=L.length:=by simp[told]
theorem z4w{L:List (Option yz4)}{rm:Option Nat}{os:List (Nat×yz4)}{k:Nat}(hk:k<L.length):(told L rm os)[k]? = some (if rm=some k then none else match os.find? (λp=>p.1==k)with|some p=>some p.2|none=>(L[k]?).join):=by
 simp[told,hk]
theorem z30.zyq{lv:Nat}{L:List (Option yz4)}{as:List z5r}{os os':List (Nat×yz4)}(h:z30 lv L as os){j ty sz:Nat}{v:V}{xs:List V}{w:Bool}(hj:as[j]? = some ⟨ty,sz,v,xs,w⟩){t t':List V}
  (ht:FVL v (.sl sz xs false) t t') (hos:FOL v (.sl sz xs false) os os') (E e0:Nat->Nat->Option yz4):∃L',(z30 lv L' (as.eraseIdx j) os'∧zag ⟨t,⟨lv,L,E⟩,[],e0⟩ ⟨t',⟨lv,L',E⟩,[],e0⟩)∧L'.length=L.length∧∀i,i<L.length->(∀p∈os,p.1≠i)->(∀ver n,v ≠ .hs lv i ver 0 n false)->L'[i]? = L[i]? := by
 have hA:=h;obtain⟨⟨ks,h1,h2,h3,h4⟩,h5⟩:=h;have hjl:=(Qaa.1 hj).1;have hk:ks[j]? = some (ks[j]'(by omega)):=Qab _;generalize ks[j]'(by omega)=k at hk;have hAt:=h2 j k _ hk hj
 have hkeys:∀p'∈os',∀t:Nat,ks[t]? ≠ some (some p'.1):=λp' hp' t=>by
  obtain⟨o,ho,_⟩:=hos.mem p' hp';exact(h4 _ ho).2 t
 have hnd:(os'.map (·.1)).Nodup:=by rw[hos.map];exact h5
 have hfind:∀p'∈os',os'.find? (λp=>p.1==p'.1)=some p':=λp' hp'=>by
  cases hq:os'.find? (λp=>p.1==p'.1)with
  |none=>rw[List.find?_eq_none]at hq;have:=hq p' hp';simp at this
  |some q=>
   have hq1:=List.find?_some hq;have hq2:=List.mem_of_find?_eq_some hq;simp at hq1;obtain⟨a,ha⟩:=List.mem_iff_getElem?.1 hp';obtain⟨b,hb⟩:=List.mem_iff_getElem?.1 hq2;have ha':(os'.map (·.1))[a]? = some p'.1:=by simp[ha]
   have hb':(os'.map (·.1))[b]? = some p'.1:=by simp[hb,hq1]
   have hlt:=(Qaa.1 ha').1;have:=(List.getElem?_inj hlt hnd).1 (ha'.trans hb'.symm);subst this;rw[ha]at hb;exact hb.symm
 have hother:∀n:Nat,n<L.length->k≠some n->(∀p'∈os',p'.1≠n)->(told L k os')[n]? = some (L[n]?).join:=λn hn h6 h7=>by
  rw[z4w hn,Qbs h6]
  have:os'.find? (λp=>p.1==n)=none:=by
   rw[List.find?_eq_none];intro p hp;have:=h7 p hp;simpa using this
  rw[this]
 refine⟨told L k os',⟨⟨⟨ks.eraseIdx j,?_,λt kk a hkk ha =>?_,λt t2 n ht1 ht2 =>?_,λp' hp'=>⟨?_,λt ht1 =>?_⟩⟩,hnd⟩,?_⟩,z7j _ _ _,λi hi hp hv =>?_⟩
 rotate_right
 rw[hother i hi (λe=>by
  subst e;obtain⟨ver,cp,q1,q2⟩:=hAt
  exact hv _ _ q1) (λp' hp' e=>by
  obtain⟨o,ho,_⟩:=hos.mem p' hp'
  exact hp _ ho e),Qab hi];rfl
 rw[List.length_eraseIdx,List.length_eraseIdx];simp[h1]
 obtain⟨t2,e1,e2,e3⟩:∃t2:Nat,t2≠j∧ks[t2]? = some kk∧as[t2]? = some a:=by
  rw[List.getElem?_eraseIdx]at hkk ha;by_cases hlt:t<j;rw[Qbr hlt]at hkk ha;exact⟨t,by omega,hkk,ha⟩;rw[Qbs hlt]at hkk ha;exact⟨t+1,by omega,hkk,ha⟩
 have hat:=h2 t2 kk a e2 e3
 cases kk with
 |none=>exact hat
 |some n=>
  have hlt:=hat.lt;obtain⟨ver,cp,q1,q2⟩:=hat;refine⟨ver,cp,q1,?_⟩;rw[hother n hlt (λe=>e1 (h3 t2 j n e2 (by rw[hk,e]))) (λp' hp' e=>hkeys p' hp' t2 (by rw[e2,e])),q2];rfl
 have key:∀t:Nat,(ks.eraseIdx j)[t]? = some (some n)->∃t2:Nat,ks[t2]? = some (some n)∧t2=if t<j then t else t+1:=λt ht=>by
  rw[List.getElem?_eraseIdx]at ht;by_cases hlt:t<j;rw[Qbr hlt]at ht;exact⟨t,ht,by rw[Qbr hlt]⟩;rw[Qbs hlt]at ht;exact⟨t+1,ht,by rw[Qbs hlt]⟩
 obtain⟨a,a1,a2⟩:=key t ht1;obtain⟨b,b1,b2⟩:=key t2 ht2;have:=h3 a b n a1 b1;subst this;split at a2 <;> split at b2 <;> omega
 obtain⟨o,ho,_⟩:=hos.mem p' hp';have hlt:=(Qaa.1 (h4 _ ho).1).1;rw[z4w hlt,Qbs (λe=>hkeys p' hp' j (by rw[hk,e])),hfind p' hp'];rw[List.getElem?_eraseIdx]at ht1;split at ht1;exact hkeys p' hp' _ ht1;exact hkeys p' hp' _ ht1;refine zn9 (σ:=⟨t,⟨lv,L,E⟩,[],e0⟩) (v:=v) (r:=.sl sz xs false) (z7j _ _ _) (λm o' hm =>?_) ht rfl (λW g hG hown hf c hc =>?_)
 have hlt:m<L.length:=by have:=(Qaa.1 hm).1;rw[z7j]at this;exact this
 rw[z4w hlt]at hm;injection hm with hm;split at hm;cases hm;split at hm;rename_i p hp;injection hm with hm;have hp1:=List.find?_some hp;simp at hp1;obtain⟨o,ho,hfo⟩:=hos.mem p (List.mem_of_find?_eq_some hp);refine⟨o,?_,by rw[<-hm];exact hfo⟩;have:=(h4 _ ho).1;rw[hp1]at this;exact this;refine⟨o',?_,.inl rfl⟩;show L[m]? = _;rw[Qab hlt]at hm ⊢;simp at hm;rw[hm]
 cases k with
 |none=>
  rcases hAt with ⟨q1,q2⟩|⟨q1,_⟩
  simp only at q1 q2;subst q1;subst q2;exact(VLe.nil _ _).rel (hf hc)
  simp only at q1;subst q1;exact(VLe.full _ _).rel (hf hc)
 |some i=>
  obtain⟨ver,cp,q1,q2⟩:=hAt;simp only at q1 q2;subst q1;have hg:zz2.get ⟨lv,L,E⟩ lv i=some (.arr ver ty sz xs cp):=by unfold zz2.get;rw[Qbr rfl,q2];rfl
  have hi:=(Qaa.1 q2).1
  have hno:¬Own g ⟨lv,told L (some i) os',E⟩ (g.ab lv i):=λ⟨l,i',o',ho',hob⟩=>by
   have hgot:∃o,zz2.get ⟨lv,L,E⟩ l i'=some o∧o'.blk g l i'=o.blk g l i'∧¬(l=lv∧i'=i):=by
    unfold zz2.get at ho' ⊢;dsimp only at ho' ⊢;by_cases hl:l=lv;rw[Qbr hl]at ho' ⊢
    cases hq:(told L (some i) os')[i']? with
    |none=>rw[hq]at ho';simp at ho'
    |some q=>
     have hlt:i'<L.length:=by have:=(Qaa.1 hq).1;rw[z7j]at this;exact this
     rw[z4w hlt]at hq;injection hq with hq;rw[z4w hlt]at ho';simp only[Option.join_some]at ho';split at ho';cases ho';rename_i hne;split at ho';rename_i p hp;injection ho' with ho';have hp1:=List.find?_some hp;simp at hp1;obtain⟨o,ho,hfo⟩:=hos.mem p (List.mem_of_find?_eq_some hp);have:=(h4 _ ho).1;rw[hp1]at this;exact⟨o,by rw[this];rfl,by rw[<-ho'];exact hfo.blk g l i',λe=>hne (by rw[e.2])⟩
     exact⟨o',ho',rfl,λe=>hne (by rw[e.2])⟩
    rw[Qbs hl]at ho' ⊢;exact⟨o',ho',rfl,λe=>hl e.1⟩
   obtain⟨o,w1,w2,w3⟩:=hgot;exact w3 (hG.inj _ _ _ _ _ _ w1 hg (by rw[<-w2];exact hob))
  cases hc with
  |hs _ _ _ _ _ _ a m cap hd hv ha=>
   obtain⟨rfl,rfl,⟨hcap',hcap2,hff⟩,hle⟩:=ha _ _ _ _ hg;obtain⟨cur,k1,k2,k3,k3',k4,k5,k6⟩:=zi8 hG hg
   have cells:∀(j:Nat) (y:V) (t:Nat) (u:V),xs[j]? = some y->y.cells[t]? = some u->Rel W g ⟨lv,told L (some i) os',E⟩ u (cur.getD (j * sz+t) undef)∧(cur.getD (j * sz+t) undef).oneCell'=true∧j * sz+t<cur.size:=λj y t u hj ht=>by
    have hjl:=(Qaa.1 hj).1;have hxl:=k6.1 _ _ hj;have htl:=(Qaa.1 ht).1;refine⟨hf (k6.2.2 _ _ _ _ hj ht),k6.2.1 _ _ _ _ hj ht,?_⟩;rw[k3];exact zii (by omega) (by omega)
   refine .sl sz xs false (g.ab lv i) (0 * sz) cap (λj t=>cur.getD (j * sz+t) undef) hno k2 (by omega) (by simp) (λj y hj=>k6.1 _ _ hj) (λj y t u hj ht =>?_) (λj y t u hj ht=>(cells j y t u hj ht).2.1) (λj y t u hj ht=>(cells j y t u hj ht).1);have:=cell_of k1 (cells j y t u hj ht).2.2;rw[<-this];congr 2;omega
theorem z30.freeze{lv:Nat}{L:List (Option yz4)}{as:List z5r}{os os':List (Nat×yz4)}(h:z30 lv L as os){j ty sz:Nat}{v:V}{xs:List V}{w:Bool}(hj:as[j]? = some ⟨ty,sz,v,xs,w⟩){t t':List V}
  (ht:FVL v (.sl sz xs false) t t') (hos:FOL v (.sl sz xs false) os os') (E e0:Nat->Nat->Option yz4):∃L',z30 lv L' (as.eraseIdx j) os'∧zag ⟨t,⟨lv,L,E⟩,[],e0⟩ ⟨t',⟨lv,L',E⟩,[],e0⟩:=by
 obtain⟨L',h1,_⟩:=h.zyq hj ht hos E e0;exact⟨L',h1⟩
theorem args2{W:World}{g:Gh}{H:zz2}{u v:V}{cs:Array Value}(h:z84 W g H [u,v] cs):∃x y,cs = #[x,y]∧Rel W g H u x∧Rel W g H v y:=by
 obtain⟨h1,h2⟩:=h
 cases cs with|mk l=>
 match l,h1 with
 |[x,y],_=>exact⟨x,y,rfl,h2 0 u rfl,h2 1 v rfl⟩
theorem zix{T:Type}(f:T->V)(k:B8):∀(m:List (B8×T)) (i:Nat),zjx .string (.str k) (m.map λp=>(.str p.1,f p.2)) i =
  some (match m.findIdx? (λp=>k==p.1)with|none=>none|some j=>(m[j]?).map λp=>(i+j,f p.2))
 |[],i=>rfl
 |p::m,i=>by
  simp only[List.map_cons,zjx,zu0]
  cases hk:k==p.1 with
  |true=>simp[List.findIdx?_cons,hk]
  |false=>
   simp only[Bool.false_eq_true,if_false];rw[zix f k m (i+1),List.findIdx?_cons,hk];simp only[Bool.false_eq_true,if_false]
   cases m.findIdx? (λp=>k==p.1)with
   |none=>rfl
   |some j=>simp;cases m[j]? <;> simp;omega
theorem y6z{T:Type}(m:List (B8×T))(k:B8):z1x m k=match m.findIdx? (λp=>k==p.1)with|none=>none|some j=>(m[j]?).map (·.2):=by
 unfold z1x
 induction m with
 |nil=>rfl
 |cons p m ih=>
  rw[List.find?_cons,List.findIdx?_cons]
  cases hk:k==p.1 with
  |true=>simp
  |false=>
   simp only[Bool.false_eq_true,if_false];rw[ih]
   cases m.findIdx? (λp=>k==p.1)with
   |none=>rfl
   |some j=>simp
theorem zwj{T:Type}{f:T->V}{m:List (B8×T)}{H:zz2}{t kt e l i:Nat}{z:V}(ht:P.underlying t=some (.map kt e))(hk:P.underlying kt=some .string)(hz:zeroV P e=some z)(hg:H.get l i=some (.map (m.map λp=>(.str p.1,f p.2))))(k:B8)(z0:T)(h0:f z0=z) :
  zbn P H t (.map l i) (.str k) false=some (f ((z1x m k).getD z0))∧zbn P H t (.map l i) (.str k) true=some (.tup [f ((z1x m k).getD z0),.bool (z1x m k).isSome]):=by
 unfold zbn;simp only[ht,y3o,hg,zem,hk,hz,zix,y6z]
 cases hq:m.findIdx? (λp=>k==p.1)with
 |none=>simp[h0]
 |some j=>
  have hj:j<m.length:=by
   rw[List.findIdx?_eq_some_iff_getElem]at hq;exact hq.1
  simp[hj]
theorem zyb{T:Type}{f:T->V}{m:List (B8×T)}{lv:Nat}{L:List (Option yz4)}{E:Nat->Nat->Option yz4}{t kt e i:Nat}(ht:P.underlying t=some (.map kt e))(hk:P.underlying kt=some .string)(hg:L[i]? = some (some (.map (m.map λp=>(.str p.1,f p.2)))))(k:B8)(x:T){y:V}(hy:y=f x) :
  z5h P ⟨lv,L,E⟩ t (.map lv i) (.str k) y=some (.any,⟨lv,L.set i (some (.map ((z4v m k x).map λp=>(.str p.1,f p.2)))),E⟩):=by
 subst hy;have hget:zz2.get ⟨lv,L,E⟩ lv i=some (.map (m.map λp=>(.str p.1,f p.2))):=by unfold zz2.get;rw[Qbr rfl,hg];rfl
 unfold z5h;simp only[ht,hget,zem,hk,zix,z4v,zz2.set,if_true]
 cases hq:m.findIdx? (λp=>k==p.1)with
 |none=>simp[ze8]
 |some j=>
  have hj:j<m.length:=by
   rw[List.findIdx?_eq_some_iff_getElem]at hq;exact hq.1
  simp[ze8,hj,List.map_set]
@[simp] theorem y3t (t l i:Nat) (H:zz2):za9 P H t (.map l i)=match P.underlying t with|some (.map _ _)=>(match H.get l i with|some (.map es)=>some (.int .i64 es.length)|_=>none)|_=>none:=rfl
end
def zgk{α:Type}(xs:List α)(a b:Int):Option (List α) :=
 if 0<=a∧a<=xs.length∧0<=b∧b<xs.length then
  some (xs.take a.toNat++((xs.drop b.toNat).take (min (xs.length-b.toNat) (xs.length-a.toNat))++xs.drop (a.toNat+min (xs.length-b.toNat) (xs.length-a.toNat))))else none
section
variable {P : Program}
theorem zg8{t e sz:Nat}{H:zz2}{l i ver n:Nat}{ty:Nat}{xs:List V}{cp:Option Nat}(ht:P.underlying t=some (.slice e))(hz:sz=P.cellsOf e)(he:(P.underlying e).isSome=true)(hg:H.get l i=some (.arr ver ty sz xs cp)){a:Int}(h0:0<=a)(h1:a.toNat<=n) :
  z64 P H t (.hs l i ver 0 n false) (some (.int .i64 a)) none none=some (if a.toNat=0∨a.toNat<n then .hs l i ver a.toNat (n-a.toNat) false else .sl sz [] false):=by
 have hb:z55 n (some (.int .i64 a)) none none=some (a.toNat,n,none):=by
  have h2:a<=(n:Int):=by omega
  simp[z55,bnd,h0,h2]
 simp only[z64,ht,hg];rw[Qbr ⟨trivial,hz,he⟩,hb];simp only[Option.bind_some,Nat.zero_add,Bool.false_and];split <;> rfl
theorem z30.shift{lv:Nat}{L:List (Option yz4)}{al:List z5r}{ol:List (Nat×yz4)}(h:z30 lv L al ol){j ty sz:Nat}{v:V}{xs:List V}(hj:al[j]? = some ⟨ty,sz,v,xs,true⟩){t e:Nat}(ht:P.underlying t=some (.slice e))
  (hz:sz=P.cellsOf e) (he:(P.underlying e).isSome=true) (hi:(P.info? e).isSome=true) {a b:Int}{ys:List V}(hs:zgk xs a b=some ys) (E:Nat->Nat->Option yz4) :
  ∃(q1 q2:V) (L':List (Option yz4)) (m:Int),z64 P ⟨lv,L,E⟩ t v (some (.int .i64 a)) none none=some q1∧z64 P ⟨lv,L,E⟩ t v (some (.int .i64 b)) none none=some q2 ∧
   zhm P ⟨lv,L,E⟩ t q1 q2=some (.int .i64 m,⟨lv,L',E⟩)∧z30 lv L' (al.set j ⟨ty,sz,v,ys,true⟩) ol:=by
 unfold zgk at hs;split at hs;rename_i hc;injection hs with hs;obtain⟨c1,c2,c3,c4⟩:=hc;have hne:xs≠[]:=λhh=>by subst hh;simp at c4;omega
 rcases h.form hj with ⟨rfl,rfl⟩|⟨rfl,hw⟩|⟨k,ver,cp,rfl,hL⟩
 exact(hne rfl).elim;exact(hne (hw rfl)).elim;have hg:(⟨lv,L,E⟩:zz2).get lv k=some (.arr ver ty sz xs cp):=by simp[zz2.get,hL]
 have s1:=zg8 (n:=xs.length) ht hz he hg c1 (by omega);have s2:=zg8 (n:=xs.length) ht hz he hg c3 (by omega);rw[Qbr (show b.toNat=0∨b.toNat<xs.length by omega)]at s2;by_cases hlt:a.toNat=0∨a.toNat<xs.length;rw[Qbr hlt]at s1;refine⟨_,_,L.set k (some (.arr ver ty sz ys cp)),(min (xs.length-b.toNat) (xs.length-a.toNat):Nat),s1,s2,?_,h.accs.setAt hj rfl hL hne ?_,h.nodup⟩;simp only[zhm,ht,hg]
 rw[Qbr hi,Qbr ⟨trivial,trivial,trivial⟩,Qbr ⟨trivial,hz⟩];rw[hs];simp[zz2.set];rw[<-hs];simp;omega;rw[Qbs hlt]at s1;have e1:xs.length-a.toNat=0:=by omega
 have hys:ys=xs:=by
  rw[<-hs,e1,Nat.min_zero,List.take_zero,List.nil_append,Nat.add_zero,List.take_append_drop]
 refine⟨_,_,L,0,s1,s2,?_,?_⟩;simp only[zhm,ht,hg];rw[Qbr hi,Qbr trivial];rw[hys]
 have:al.set j ⟨ty,sz,.hs lv k ver 0 xs.length false,xs,true⟩=al:=by
  refine List.ext_getElem? λq =>?_
  rw[Qbf];split;rename_i hq;subst hq;rw[hj,Qbr (Qaa.1 hj).1];rfl
 rw[this];exact h;cases hs
end
theorem y5n{W:World}{g:Gh}{H H':zz2}(hown:∀b,Own g H' b->Own g H b)(hf:∀{x:V}{c:Value},Rel W g H x c->Rel W g H' x c){l i:Nat}{o:yz4}(ho:z42 W g H l i o):z42 W g H' l i o:=by
 cases o with
 |cells cs=>
  obtain⟨c,ty,k1,k2,k3,k4⟩:=ho
  exact⟨c,ty,k1,k2,k3,λj x hj=>hf (k4 j x hj)⟩
 |arr ver ty sz xs cp=>
  obtain⟨c,k1,k3,k4,k4',k5,k6,k7,k8,k9⟩:=ho
  exact⟨c,k1,k3,k4,k4',k5,k6,k7,k8,λj x t v hj ht=>hf (k9 j x t v hj ht)⟩
 |map es=>
  obtain⟨en,clock,k1,k2,k3,k4,k5⟩:=ho;refine⟨en,clock,k1,k2,k3,k4,λj p hj =>?_⟩;obtain⟨e,he,m1,m2⟩:=k5 j p hj
  exact⟨e,he,hf m1,hf m2⟩
 |siter s pos=>exact ho
 |mit es vis=>
  obtain⟨en,clock,mb,k1,k2,k3,k4⟩:=ho;exact⟨en,clock,mb,k1,λhn=>k2 (hown _ hn),k3,k4⟩
def zz2.zj6(H:zz2)(i:Nat):zz2:=⟨H.lv,H.L.set i none,H.E⟩
theorem zz2.z52{H:zz2}{i l k:Nat}{o:yz4}(h:(H.zj6 i).get l k=some o):H.get l k=some o∧¬(l=H.lv∧k=i):=by
 unfold zz2.get zz2.zj6 at h;dsimp only at h;by_cases hl:l=H.lv;rw[Qbr hl,Qbf]at h;by_cases hk:i=k;subst hk;rw[Qbr rfl]at h;split at h <;> simp at h
 rw[Qbs hk]at h;exact⟨by unfold zz2.get;rw[Qbr hl];exact h,λe=>hk e.2.symm⟩;rw[Qbs hl]at h;exact⟨by unfold zz2.get;rw[Qbs hl];exact h,λe=>hl e.1⟩
theorem y1c{W:World}{g:Gh}{H:zz2}{i:Nat}{o:yz4}(hG:Good W g H)(hi:H.get H.lv i=some o) :
  Good W g (H.zj6 i)∧Step W g H W g (H.zj6 i)∧(∀{x:V}{c:Value},Rel W g H x c->Rel W g (H.zj6 i) x c)∧¬Own g (H.zj6 i) (o.blk g H.lv i):=by
 have hown:∀b,Own g (H.zj6 i) b->Own g H b:=λb ⟨l,k,q,hq,hb⟩=>⟨l,k,q,(zz2.z52 hq).1,hb⟩
 have harr:∀l k ver ty sz xs cp,(H.zj6 i).get l k=some (.arr ver ty sz xs cp)->H.get l k=some (.arr ver ty sz xs cp):=λl k ver ty sz xs cp h=>(zz2.z52 h).1
 have hf:∀{x:V}{c:Value},Rel W g H x c->Rel W g (H.zj6 i) x c:=λh=>Rel.zk3 hown harr h
 refine⟨⟨λl k q h=>hG.dom l k q (zz2.z52 h).1,λl k q h=>hG.lt l k q (zz2.z52 h).1,λl k q l' k' q' h h' hb=>hG.inj l k q l' k' q' (zz2.z52 h).1 (zz2.z52 h').1 hb,λl k h =>?_,λl k q h=>y5n hown hf (hG.obj l k q (zz2.z52 h).1),hG.glob.zk3 hown,hG.base⟩,
  ⟨rfl,rfl,rfl,Qbq _,λ_ _ _=>rfl,λb h=>.inl (hown b h),λ_ _ h=>h,λ_ _ h=>.inl h,λ_ _ _=>rfl,λl k ver ty sz xs cp hd h=>⟨ver,xs,cp,harr _ _ _ _ _ _ _ h,Qbq _,λ_=>⟨rfl,rfl,Qbq _⟩⟩,rfl,rfl⟩,hf,λ⟨l,k,q,hq,hb⟩ =>?_⟩
 rcases hG.fresh l k h with q|⟨q1,q2⟩
 exact .inl q;exact .inr ⟨q1,by simpa[zz2.zj6]using q2⟩;obtain⟨h1,h2⟩:=zz2.z52 hq;exact h2 (hG.inj _ _ _ _ _ _ h1 hi hb)
end Go.Ab
