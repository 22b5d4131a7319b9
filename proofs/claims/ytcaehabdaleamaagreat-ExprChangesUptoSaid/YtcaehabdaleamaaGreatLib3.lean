/-
  REGIONS THAT DRAW THEIR ORDER: quiet operations and single effects, any two of which either stand in an order or commute.
-/
import Derived.Test.YtcaehabdaleamaaGreatLib2
import Derived.RangeFuncCalls
import Derived.RangeFuncLeaves
namespace Go.Ab
open Go
set_option linter.unusedSimpArgs false
set_option linter.unusedVariables false
section
variable {P : Program} {ops : Array Oper} {md : Region.Mode}
abbrev Key:=Nat×Option Nat
def cellAt(o:Option (Option kz8))(c:Nat):Option V:=match o with
 |some (some (.cells cs))=>cs[c]?
 |_=>none
def obs(H:kz3)(x:Key):Option (Option kz8)×Option V:=match x.2 with
 |none=>(H.L[x.1]?,none)
 |some c=>(none,cellAt H.L[x.1]? c)
theorem ybu{H H':kz3}{x:Key}(h:H'.L[x.1]? = H.L[x.1]?):obs H' x=obs H x:=by unfold obs;rw[h]
structure Info where
 eff:Bool
 K:Key->Prop
 W:Key->Prop
 call:Bool:=false
def znq(K:Key->Prop)(H H':kz3):Prop:=∀i,K i->obs H' i=obs H i
theorem znq.refl(K:Key->Prop)(H:kz3):znq K H H:=λ_ _=>rfl
theorem znq.trans{K:Key->Prop}{A B C:kz3}(h:znq K A B)(k:znq K B C):znq K A C:=λi hi=>(k i hi).trans (h i hi)
theorem znq.symm{K:Key->Prop}{A B:kz3}(h:znq K A B):znq K B A:=λi hi=>(h i hi).symm
def yoi(op:Op):Bool:=match op with
 |.alloc _| .box _ _| .store _ _ _=>true
 |.call c=>(match c.callee with
  |.builtin .append=>true
  |.builtin .unsafeString=>true
  |_=>false)
 |_=>false
theorem zul{H:kz3}{ρ ρ':Operand->V}{o:Op}(h:∀x∈o.operands,ρ x=ρ' x):zil P H ρ o=zil P H ρ' o:=by
 cases o
 case makeSlice t n c=>simp only[zil,h n (by simp[Op.operands]),h c (by simp[Op.operands])]
 case convert s d x=>simp only[zil,h x (by simp[Op.operands])]
 case binOp op t x y _=>simp only[zil,h x (by simp[Op.operands]),h y (by simp[Op.operands])]
 case call c=>
  simp only[zil];split;split;rename_i x ha;rw[h x (by simp[Op.operands,Call.operands];right;rw[<-Array.mem_toList_iff,ha];simp)];rfl;split;rename_i p n pt it ha ht;rw[h p (by simp[Op.operands,Call.operands];right;rw[<-Array.mem_toList_iff,ha];simp),h n (by simp[Op.operands,Call.operands];right;rw[<-Array.mem_toList_iff,ha];simp)];rfl;rfl
 all_goals rfl
def QP(P:Program)(H:kz3)(ρ:Operand->V)(o:Oper)(v:V):Prop:=pv P H ρ o.op=some v∨(∃c f args,o.op = .call c∧target ρ c=some (f,args)∧zns P f args H v H)∨zil P H ρ o.op=some (v,H)∨(∃t n c,o.op = .makeSlice t n c∧zcx P t (ρ n) (ρ c)=some v)∨∃c s x t u,o.op = .call c∧c.callee = .builtin .append∧c.args.toList=[s,x]∧c.argTypes.toList=[t,u]∧zl6 P t u (ρ s) (ρ x)=some v
theorem zff{H:kz3}{ρ ρ':Operand->V}{o:Oper}{v:V}(h:∀x∈o.op.operands,ρ x=ρ' x)(hq:QP P H ρ o v):QP P H ρ' o v:=by
 rcases hq with hq|⟨c,f,args,h1,h2,h3⟩|hq|⟨t,n,c,h1,h2⟩|⟨c,s,x,t,u,h1,h2,h3,h4,h5⟩
 exact .inl (by rw[<-yhs h];exact hq);exact .inr (.inl ⟨c,f,args,h1,by rw[<-zet (ρ:=ρ) (λx hx=>h x (by rw[h1];exact hx))];exact h2,h3⟩);exact .inr (.inr (.inl (by rw[<-zul h];exact hq)));exact .inr (.inr (.inr (.inl ⟨t,n,c,h1,by rw[<-h n (by rw[h1];simp[Op.operands]),<-h c (by rw[h1];simp[Op.operands])];exact h2⟩)))
 exact .inr (.inr (.inr (.inr ⟨c,s,x,t,u,h1,h2,h3,h4,by
  rw[<-h s (by rw[h1];simp[Op.operands,Call.operands];right;rw[<-Array.mem_toList_iff,h3];simp),<-h x (by rw[h1];simp[Op.operands,Call.operands];right;rw[<-Array.mem_toList_iff,h3];simp)];exact h5⟩)))
def zhi(P:Program)(H:kz3)(ρ:Operand->V)(op:Op)(v:V)(H':kz3):Prop:=∃t len ps e sz ws,op = .buildSlice t len ps∧z7g P t len (partsOf ρ ps)=some (.sl sz ws true)∧len≠0∧P.underlying t=some (.slice e)∧v = .hs H.lv H.L.length 0 0 ws.length false∧H'=H.push (.arr 0 e sz ws (some ws.length))
theorem zhi.sound{W:World}{g:Gh}{H H':kz3}{ρ:Operand->V}{r:Operand->Value}{o:Oper}{v:V}(hG:Good W g H)(hρ:∀x,Rel W g H (ρ x) (r x))(h:zhi P H ρ o.op v H'):z3x P W g H (execOp r o) v H':=by
 obtain⟨t,len,ps,e,sz,ws,hop,b1,hlen,hu,rfl,rfl⟩:=h;unfold execOp;rw[hop];obtain⟨r1,r2⟩:=zf2 hρ ps;exact zl8 hG b1 hlen hu r1 r2
theorem zhi.congr{H H':kz3}{ρ ρ':Operand->V}{o:Op}{v:V}(h:∀x∈o.operands,ρ x=ρ' x)(hx:zhi P H ρ o v H'):zhi P H ρ' o v H':=by
 obtain⟨t,len,ps,e,sz,ws,rfl,b1,b2⟩:=hx;refine⟨t,len,ps,e,sz,ws,rfl,?_,b2⟩;rw[<-b1]
 congr 1
 unfold partsOf;refine List.map_congr_left λp hp =>?_
 rw[h p.2 (List.mem_toArray.2 (Qbc.2 ⟨p,hp,rfl⟩))]
def Eff2(P:Program)(H:kz3)(ρ:Operand->V)(op:Op)(v:V)(H':kz3):Prop:=(yoi op=true∧ox P H ρ op=some (v,H'))∨zil P H ρ op=some (v,H')∨zhi P H ρ op v H'
theorem yqg{H:kz3}{ρ ρ':Operand->V}{o:Op}(he:yoi o=true)(h:∀x∈o.operands,ρ x=ρ' x):ox P H ρ o=ox P H ρ' o:=by
 cases o
 case alloc t=>rfl
 case box t x=>simp only[ox,h x (by simp[Op.operands])]
 case store t a x=>simp only[ox,h x (by simp[Op.operands]),h a (by simp[Op.operands])]
 case call c=>
  simp only[yoi]at he;split at he;rename_i hc;simp only[ox,hc];split;rename_i s x t u ha ht;rw[h s (by simp[Op.operands,Call.operands];right;rw[<-Array.mem_toList_iff,ha];simp),h x (by simp[Op.operands,Call.operands];right;rw[<-Array.mem_toList_iff,ha];simp)];rfl;rename_i hc;simp only[ox,hc,pv,z7x];cases he
 all_goals cases he
theorem zk4{H H':kz3}{ρ ρ':Operand->V}{o:Op}{v:V}(h:∀x∈o.operands,ρ x=ρ' x)(hx:Eff2 P H ρ o v H'):Eff2 P H ρ' o v H' :=
 hx.imp (λq=>⟨q.1,by rw[<-yqg q.1 h];exact q.2⟩) λq=>q.imp (λq=>by rw[<-zul h];exact q) λq=>q.congr h
def MV(P:Program)(ops:Array Oper)(S:kz3->Prop)(c:Info)(σ:St)(o:Oper)(v:V)(H':kz3):Prop :=
 (yzg ops σ o=some false∧v = .tup []∧H'=σ.H) ∨
 (yzg ops σ o=some true∧S σ.H ∧
  ((c.eff=false∧H'=σ.H∧∀H'',S H''->znq c.K σ.H H''->QP P H'' σ.ev o v) ∨
   (c.eff=true∧True∧Eff2 P σ.H σ.ev o.op v H'∧S H'∧∀i,¬c.W i->obs H' i=obs σ.H i)))
def zzt(σ:St)(o:Oper)(v:V)(H':kz3):St:=({σ with H:=H'}:St).put o.dst v
theorem zs9{σ:St}{o:Oper}{v:V}{H':kz3}{x:Operand}(h:∀d,o.dst=some d->x ≠ .tmp d):(zzt σ o v H').ev x=σ.ev x :=
 (ypv (σ:={σ with H:=H'}) h).trans (by cases x <;> rfl)
theorem zc3{σ:St}{o:Oper}{v:V}{H':kz3}:(zzt σ o v H').H=H':=ylc
theorem zee{σ:St}{o oj:Oper}{v:V}{H':kz3}(h:∀d,o.dst=some d->d∉oj.looksAt ops):yzg ops (zzt σ o v H') oj=yzg ops σ oj :=
 (zuf (σ:={σ with H:=H'}) h).trans rfl
theorem zq7{σ:St}{oi oj:Oper}{v u:V}{A B C:kz3}(h:∀d,oi.dst=some d->oj.dst≠some d):zzt (zzt σ oi v A) oj u C=zzt (zzt σ oj u B) oi v C:=by
 have e1:∀(o:Oper) (w:V) (H:kz3),({zzt σ o w H with H:=C}:St)=({σ with H:=C}:St).put o.dst w:=λo w H=>by unfold zzt;cases o.dst <;> rfl
 unfold zzt at e1 ⊢;rw[e1,e1];exact put_comm v u h
theorem ysf{S:kz3->Prop}{ci cj:Info}{oi oj:Oper}(hap:oi.apart ops oj=true)(hee:¬(ci.eff=true∧cj.eff=true))(hij:ci.eff=false->cj.eff=true->∀x,ci.K x->¬cj.W x)(hji:cj.eff=false->ci.eff=true->∀x,cj.K x->¬ci.W x)
  {σ:St} {v u:V}{H1 H2:kz3}(h1:MV P ops S ci σ oi v H1) (h2:MV P ops S cj (zzt σ oi v H1) oj u H2) :
  ∃H1',MV P ops S cj σ oj u H1'∧MV P ops S ci (zzt σ oj u H1') oi v H2:=by
 obtain⟨a1,a2,a3⟩:=Oper.apart_spec hap;have evj:∀{w:V}{H:kz3},∀x∈oj.op.operands,(zzt σ oi w H).ev x=σ.ev x:=λ{w H} x hx=>zs9 λd hd=>z8x (a1 d hd) x hx
 have evi:∀{w:V}{H:kz3},∀x∈oi.op.operands,(zzt σ oj w H).ev x=σ.ev x:=λ{w H} x hx=>zs9 λd hd=>z8x (a3 d hd) x hx
 have wj:∀{w:V}{H:kz3},yzg ops (zzt σ oi w H) oj=yzg ops σ oj:=zee a1;have wi:∀{w:V}{H:kz3},yzg ops (zzt σ oj w H) oi=yzg ops σ oi:=zee a3;unfold MV at h1 h2 ⊢;rw[wj,zc3]at h2;simp only[wi,zc3]
 rcases h1 with ⟨b1,rfl,rfl⟩|⟨b1,bs,⟨b2,rfl,b3⟩|⟨b2,b3,b4,b5,b6⟩⟩
 rcases h2 with ⟨d1,rfl,rfl⟩|⟨d1,ds,⟨d2,rfl,d3⟩|⟨d2,d3,d4,d5,d6⟩⟩
 exact⟨σ.H,.inl ⟨d1,rfl,rfl⟩,.inl ⟨b1,rfl,rfl⟩⟩;exact⟨σ.H,.inr ⟨d1,ds,.inl ⟨d2,rfl,λH'' k1 k2=>zff evj (d3 H'' k1 k2)⟩⟩,.inl ⟨b1,rfl,rfl⟩⟩;exact⟨H2,.inr ⟨d1,ds,.inr ⟨d2,d3,zk4 evj d4,d5,d6⟩⟩,.inl ⟨b1,rfl,rfl⟩⟩
 rcases h2 with ⟨d1,rfl,rfl⟩|⟨d1,ds,⟨d2,rfl,d3⟩|⟨d2,d3,d4,d5,d6⟩⟩
 exact⟨σ.H,.inl ⟨d1,rfl,rfl⟩,.inr ⟨b1,bs,.inl ⟨b2,rfl,λH'' k1 k2=>zff (λx hx=>(evi x hx).symm) (b3 H'' k1 k2)⟩⟩⟩;exact⟨σ.H,.inr ⟨d1,ds,.inl ⟨d2,rfl,λH'' k1 k2=>zff evj (d3 H'' k1 k2)⟩⟩,.inr ⟨b1,bs,.inl ⟨b2,rfl,λH'' k1 k2=>zff (λx hx=>(evi x hx).symm) (b3 H'' k1 k2)⟩⟩⟩
 refine⟨H2,.inr ⟨d1,ds,.inr ⟨d2,d3,zk4 evj d4,d5,d6⟩⟩,.inr ⟨b1,d5,.inl ⟨b2,rfl,λH'' k1 k2=>zff (λx hx=>(evi x hx).symm) (b3 H'' k1 (znq.trans (λx hx=>d6 x (hij b2 d2 x hx)) k2))⟩⟩⟩
 rcases h2 with ⟨d1,rfl,rfl⟩|⟨d1,ds,⟨d2,rfl,d3⟩|⟨d2,d3,d4,d5,d6⟩⟩
 exact⟨σ.H,.inl ⟨d1,rfl,rfl⟩,.inr ⟨b1,bs,.inr ⟨b2,b3,zk4 (λx hx=>(evi x hx).symm) b4,b5,b6⟩⟩⟩;have hs:znq cj.K σ.H H2:=λx hx=>b6 x (hji d2 b2 x hx)
 exact⟨σ.H,.inr ⟨d1,bs,.inl ⟨d2,rfl,λH'' k1 k2=>zff evj (d3 H'' k1 (hs.symm.trans k2))⟩⟩,.inr ⟨b1,bs,.inr ⟨b2,b3,zk4 (λx hx=>(evi x hx).symm) b4,b5,b6⟩⟩⟩;exact(hee ⟨b2,d2⟩).elim
def MC(P:Program)(ops:Array Oper)(S:kz3->Prop)(c:Info)(σ:St)(o:Oper)(K:V->kz3->Prop)(Kp:V->St->Prop):Prop :=
 c.eff=true∧c.call=true∧yzg ops σ o=some true∧∃cl f args Post,o.op = .call cl∧target σ.ev cl=some (f,args)∧znr P f args σ.H Post ∧
  (∀v H',Post (.ret v) H'->S H'∧(∀i,¬c.W i->obs H' i=obs σ.H i)∧K v H')∧∀v H',Post (.pan v) H'->Kp v {σ with H:=H'}
theorem MC.imp{S:kz3->Prop}{c:Info}{σ:St}{o:Oper}{K K':V->kz3->Prop}{Kp:V->St->Prop}(h:MC P ops S c σ o K Kp)(hk:∀v H',S H'->(∀i,¬c.W i->obs H' i=obs σ.H i)->K v H'->K' v H'):MC P ops S c σ o K' Kp:=by
 obtain⟨h1,h2,h3,cl,f,args,Post,h4,h5,h6,h7,h8⟩:=h;exact⟨h1,h2,h3,cl,f,args,Post,h4,h5,h6,λv H' hp=>by obtain⟨a,b,c⟩:=h7 v H' hp;exact⟨a,b,hk v H' a b c⟩,h8⟩
inductive Dep (md:Region.Mode) (ops:Array Oper) (a:Nat):Nat->Prop where
 |one (b:Nat) (o:Oper) (e:Edge) (ho:ops[b]? = some o) (he:e∈o.after) (hb:Region.binds md e=true) (hon:e.on=a):Dep md ops a b
 |more (b:Nat) (o:Oper) (e:Edge) (ho:ops[b]? = some o) (he:e∈o.after) (hb:Region.binds md e=true) (h:Dep md ops a e.on):Dep md ops a b
def y5l(md:Region.Mode)(ops:Array Oper)(i j:Nat):Prop:=¬Dep md ops i j∧¬Dep md ops j i
def Down(md:Region.Mode)(ops:Array Oper)(listed:Array Bool):Prop:=∀b o,ops[b]? = some o->listed.getD b false=true->∀e∈o.after,Region.binds md e=true->listed.getD e.on false=true
theorem Down.dep{listed:Array Bool}(h:Down md ops listed){a b:Nat}(hd:Dep md ops a b):listed.getD b false=true->listed.getD a false=true:=by
 induction hd with
 |one b o e ho he hb hon=>intro hl;subst hon;exact h b o ho hl e he hb
 |more b o e ho he hb _ ih=>intro hl;exact ih (h b o ho hl e he hb)
theorem Down.ready{listed:Array Bool}(h:Down md ops listed){a b:Nat}(hb:b∈Region.ready md ops listed)(hd:Dep md ops a b):listed.getD a false=true:=by
 obtain⟨_,o',ho',hall⟩:=mem_ready.1 hb
 cases hd with
 |one _ o e ho he hb hon=>rw[ho']at ho;injection ho with ho;subst ho;subst hon;exact hall e he hb
 |more _ o e ho he hb hd=>rw[ho']at ho;injection ho with ho;subst ho;exact h.dep hd (hall e he hb)
theorem Down.set{listed:Array Bool}(h:Down md ops listed){k:Nat}(hk:k∈Region.ready md ops listed):Down md ops (listed.setIfInBounds k true):=λb o ho hl e he hb=>by
 obtain⟨_,o',ho',hall⟩:=mem_ready.1 hk
 have up:∀j,listed.getD j false=true->(listed.setIfInBounds k true).getD j false=true:=λj hj=>by
  by_cases hjk:k=j;subst hjk
  rcases Nat.lt_or_ge k listed.size with q|q
  simp[Qae,q];simp[Qae,Array.getElem?_eq_none q]at hj;rw[getD_set_ne false hjk];exact hj
 refine up _ ?_;by_cases hbk:k=b;subst hbk
 rw[ho']at ho;injection ho with ho;subst ho
 exact hall e he hb;rw[getD_set_ne false hbk]at hl;exact h b o ho hl e he hb
def yqk(md:Region.Mode)(ops:Array Oper)(i j:Nat)(ci cj:Info):Prop:=y5l md ops i j->(¬(ci.eff=true∧cj.eff=true))∧(ci.eff=false->cj.eff=true->∀x,ci.K x->¬cj.W x)∧(cj.eff=false->ci.eff=true->∀x,cj.K x->¬ci.W x)
def GP(md:Region.Mode)(ops:Array Oper)(prev:List (Nat×Info))(j:Nat)(c:Info):Prop:=∀p∈prev,yqk md ops p.1 j p.2 c
section
variable (P ops) (md) (S : kz3 → Prop) (G : Nat → Info → Prop) (Kp : V → St → Prop)
def GoA(i:Nat)(K:St->Prop)(σ:St):Prop :=
 match ops[i]? with
 |none=>K σ
 |some o=>∃c,G i c∧((∃v H',c.call=false∧MV P ops S c σ o v H'∧K (zzt σ o v H'))∨MC P ops S c σ o (λv H'=>K (zzt σ o v H')) Kp)
def AM(R:St->Prop):Nat->Array Bool->St->Prop
 |0,listed,σ=>Region.ready md ops listed=[]∧R σ
 |fuel+1,listed,σ=>(Region.ready md ops listed=[]->R σ)∧∀i∈Region.ready md ops listed,GoA P ops S G Kp i (AM R fuel (listed.setIfInBounds i true)) σ
end
variable {S : kz3 → Prop} {G G' : Nat → Info → Prop} {Kp : V → St → Prop}
theorem MV.goA{i:Nat}{o:Oper}{v:V}{σ:St}{c:Info}{H':kz3}(hi:ops[i]? = some o)(hc:G i c)(hcl:c.call=false)(hy:MV P ops S c σ o v H'){K:St->Prop}(h:K (zzt σ o v H')):GoA P ops S G Kp i K σ:=by
 unfold GoA;simp only[hi];exact⟨c,hc,.inl ⟨v,H',hcl,hy,h⟩⟩
theorem AM.mono(hg:∀j c,G' j c->G j c){R:St->Prop}:∀(fuel:Nat) (listed:Array Bool) (σ:St),AM P ops md S G' Kp R fuel listed σ->AM P ops md S G Kp R fuel listed σ
 |0,_,_,h=>h
 |fuel+1,listed,σ,h=>⟨h.1,λi hi=>by
  have h1:=h.2 i hi;unfold GoA at h1 ⊢;split;rename_i ho;simp only[ho]at h1;exact AM.mono hg fuel _ _ h1;rename_i o ho;simp only[ho]at h1;obtain⟨c,h0,⟨v,H',hc,h2,h3⟩|hm⟩:=h1;exact⟨c,hg _ _ h0,.inl ⟨v,H',hc,h2,AM.mono hg fuel _ _ h3⟩⟩
  exact⟨c,hg _ _ h0,.inr (hm.imp λv H' _ _ k=>AM.mono hg fuel _ _ k)⟩⟩
theorem ygs{W0:World}{g0:Gh}{H0:kz3}{i:Nat}{σ:St}{K:St->Prop}{K':Act->World->Prop}{Q':Exit->Act->World->Prop}
  (hk:∀W a g σ,K σ->(σ.e0=H0.E∧Step W0 g0 H0 W g σ.H)->yz7 W a g σ->K' a W) (hkp:∀W a g σ v c,Kp v σ->(σ.e0=H0.E∧Step W0 g0 H0 W g σ.H)->yz7 W a g σ->Rel W g σ.H v c->Q' (.panic [{v:=c,recovered:=false}]) a W)
  {W:World} {a:Act}{g:Gh}(hh:GoA P ops S G Kp i K σ) (hS:σ.e0=H0.E∧Step W0 g0 H0 W g σ.H) (hG:yz7 W a g σ):wpOp P ops Q' i K' a W:=by
 unfold GoA at hh;unfold wpOp;split;rename_i ho;simp only[ho]at hh;exact hk W a g σ hh hS hG
 ·rename_i o ho;simp only[ho]at hh;obtain⟨c0,_,hh⟩:=hh;have he0:∀{v:V}{H':kz3},(zzt σ o v H').e0=σ.e0:=λ{v H'}=>by unfold zzt;cases o.dst <;> rfl
  rcases hh with ⟨v,H',_,hy,hkk⟩|⟨_,_,hw,cl,f,args,Post,hop,ht,hc,hret,hpan⟩
  ·have fin:∀c W' g',Step W g σ.H W' g' H'->Good W' g' H'->Rel W' g' H' v c->K' (a.put o.dst c) W':=λc W' g' s1 s2 s3=>
    hk W' _ g' _ hkk (by rw[zc3,he0];exact⟨hS.1,hS.2.trans s1⟩) (hG.next s1 s2 s3 o.dst)
   rcases hy with ⟨hw,rfl,rfl⟩|⟨hw,hs,⟨_,rfl,hv⟩|⟨_,_,hv,_,_⟩⟩
   rw[yzn hG hw,Qbp (by simp)];exact fin undef W g (.refl _ _ _) hG.good (.tup [] #[] rfl (by simp));rw[yzn hG hw,Qbo rfl];left;unfold Oper.wp
   rcases hv σ.H hs (.refl _ _)with hv|⟨c,f,args,hop,ht,hcl⟩|hv|⟨t,n,cz,hop,hv⟩|⟨cc,s,x,t,u,hop,hcal,hargs,htys,hv⟩
   obtain⟨c,W',h1,h2,h3⟩:=zrc (P:=P) hG.good (r:=a.eval) hG.ev hv;rw[h1];exact fin c W' g h2.step (hG.good.grow h2) h3;obtain⟨cargs,k1,k2⟩:=z9w (P:=P) (ty:=o.type) hG.ev ht
   have hex:(execOp a.eval o).run P W=(callFunc f cargs).run P W:=by
    rw[<-k2 W];unfold execOp;rw[hop]
   rcases hcl W g cargs hG.good k1 with ⟨e1,e2⟩|⟨c,W',g',e1,e2,e3,e4⟩
   rw[hex,e1];refine e2.mono λe W' ⟨c,g',he,s1,s2,s3⟩ =>?_
   subst he;exact fin c W' g' s1 s2 s3;rw[hex,e1];exact fin c W' g' e2 e3 e4;obtain⟨c,W',g',h1,h2,h3,h4⟩:=zjj (P:=P) hG.good hG.ev hv
   rcases h1 with h1|⟨h1,h1'⟩
   rw[h1];exact fin c W' g' h2 h3 h4;rw[h1];subst h1';exact fin _ W' g' h2 h3 h4;obtain⟨c,W',g',h1,h2,h3,h4⟩:=y1j (P:=P) hG.good hv (hG.ev n) (hG.ev cz);have hex:(execOp a.eval o).run P W=(do pure (.value (<-Instr.makeSlice t (a.eval n) (a.eval cz))):Sem Next).run P W:=by unfold execOp;rw[hop]
   rw[hex]
   rcases h1 with h1|⟨h1,h1'⟩
   rw[h1];exact fin c W' g' h2 h3 h4;rw[h1];subst h1';exact fin _ W' g' h2 h3 h4;obtain⟨c,W',g',h1,h2,h3,h4⟩:=y5f (P:=P) (ty:=o.type) hG.good hv (hG.ev s) (hG.ev x)
   have hex:(execOp a.eval o).run P W=(do pure (.value (<-Builtin.append_ #[t,u] o.type #[a.eval s,a.eval x])):Sem Next).run P W:=by
    obtain⟨callee,args,argTypes⟩:=cc;simp only at hcal hargs htys;subst hcal;obtain rfl:=zzm hargs;obtain rfl:=zzm htys;unfold execOp;rw[hop];simp[resolve,invoke,builtin]
   rw[hex]
   rcases h1 with h1|⟨h1,h1'⟩
   rw[h1];exact fin c W' g' h2 h3 h4;rw[h1];subst h1';exact fin _ W' g' h2 h3 h4;rw[yzn hG hw,Qbo rfl];left;unfold Oper.wp;obtain⟨c,W',g',h1,h2,h3,h4⟩:=hv.elim (λq=>y3d (P:=P) hG.good hG.ev q.2) (λq=>q.elim (λq=>zjj (P:=P) hG.good hG.ev q) (λq=>q.sound hG.good hG.ev))
   rcases h1 with h1|⟨h1,h1'⟩
   rw[h1];exact fin c W' g' h2 h3 h4;rw[h1];subst h1';exact fin _ W' g' h2 h3 h4
  ·rw[yzn hG hw,Qbo rfl];left;unfold Oper.wp;obtain⟨cargs,k1,k2⟩:=z9w (P:=P) (ty:=o.type) hG.ev ht
   have hex:(execOp a.eval o).run P W=(callFunc f cargs).run P W:=by
    rw[<-k2 W];unfold execOp;rw[hop]
   obtain⟨e1,e2⟩:=hc W g cargs hG.good k1;rw[hex,e1];refine e2.mono λe W' ⟨o',H',g',p1,p2,p3,p4⟩ =>?_
   cases o' with
   |ret r=>
    obtain⟨c',he,hr'⟩:=p4;subst he
    exact hk W' (a.put o.dst c') g' _ (hret r H' p1).2.2 (by rw[zc3,he0];exact⟨hS.1,hS.2.trans p2⟩) (hG.next p2 p3 hr' o.dst)
   |pan v=>
    obtain⟨c',he,hr'⟩:=p4;subst he;have hn:=hG.next p2 p3 (.any undef) none;exact hkp W' a g' {σ with H:=H'} v c' (hpan v H' p1) ⟨hS.1,hS.2.trans p2⟩ hn hr'
theorem zvk{W0:World}{g0:Gh}{H0:kz3}{R:St->Prop}{Q':Exit->Act->World->Prop}(hR:∀W a g σ,R σ->(σ.e0=H0.E∧Step W0 g0 H0 W g σ.H)->yz7 W a g σ->Q' .normal a W)
  (hkp:∀W a g σ v c,Kp v σ->(σ.e0=H0.E∧Step W0 g0 H0 W g σ.H)->yz7 W a g σ->Rel W g σ.H v c->Q' (.panic [{v:=c,recovered:=false}]) a W) :
  ∀(fuel:Nat) (listed:Array Bool) (σ:St) (W:World) (a:Act) (g:Gh),AM P ops md S G Kp R fuel listed σ->(σ.e0=H0.E∧Step W0 g0 H0 W g σ.H)->yz7 W a g σ->wpAny P md ops Q' fuel listed a W
 |0,_,σ,W,a,g,h,hS,hG=>⟨h.1,hR W a g σ h.2 hS hG⟩
 |fuel+1,listed,σ,W,a,g,h,hS,hG=>⟨λh0=>hR W a g σ (h.1 h0) hS hG,λi hi=>ygs (λW a g σ' hk hS hG=>zvk hR hkp fuel _ σ' W a g hk hS hG) hkp (h.2 i hi) hS hG⟩
theorem yss{ci cj:Info}{oi oj:Oper}(hap:oi.apart ops oj=true)(hci:ci.eff=false)(hij:∀x,ci.K x->¬cj.W x)(hkp:∀v (σ:St) t',Kp v σ->t'.length=σ.t.length->Kp v {σ with t:=t'})
  {σ:St} {v:V}{H1:kz3}(h1:MV P ops S ci σ oi v H1) {K:V->kz3->Prop}(h2:MC P ops S cj (zzt σ oi v H1) oj K Kp):H1=σ.H ∧
  MC P ops S cj σ oj (λu H'=>MV P ops S ci (zzt σ oj u H') oi v H'∧K u H') Kp:=by
 obtain⟨a1,a2,a3⟩:=Oper.apart_spec hap;have evj:∀{w:V}{H:kz3},∀x∈oj.op.operands,(zzt σ oi w H).ev x=σ.ev x:=λ{w H} x hx=>zs9 λd hd=>z8x (a1 d hd) x hx
 have evi:∀{w:V}{H:kz3},∀x∈oi.op.operands,(zzt σ oj w H).ev x=σ.ev x:=λ{w H} x hx=>zs9 λd hd=>z8x (a3 d hd) x hx
 have hH:H1=σ.H:=by
  rcases h1 with ⟨_,_,h⟩|⟨_,_,⟨_,h,_⟩|⟨h,_⟩⟩
  exact h;exact h;rw[hci]at h;cases h
 subst hH;refine⟨rfl,?_⟩;obtain⟨b1,b2,b3,cl,f,args,Post,b4,b5,b6,b7,b8⟩:=h2;rw[zee a1]at b3;rw[zet (ρ':=σ.ev) (λx hx=>evj x (by rw[b4];exact hx))]at b5;rw[zc3]at b6 b7;refine⟨b1,b2,b3,cl,f,args,Post,b4,b5,b6,λu H' hp =>?_,λu H' hp =>?_⟩;obtain⟨c1,c2,c3⟩:=b7 u H' hp;refine⟨c1,c2,?_,c3⟩;unfold MV at h1 ⊢;rw[zee a3,zc3]
 rcases h1 with ⟨d1,d2,_⟩|⟨d1,d2,⟨d3,_,d4⟩|⟨h,_⟩⟩
 exact .inl ⟨d1,d2,rfl⟩;exact .inr ⟨d1,c1,.inl ⟨d3,rfl,λH'' k1 k2=>zff (λx hx=>(evi x hx).symm) (d4 H'' k1 (znq.trans (λx hx=>c2 x (hij x hx)) k2))⟩⟩;rw[hci]at h;cases h;have:=hkp u _ σ.t (b8 u H' hp) (by unfold zzt;cases oi.dst <;> simp[St.put]);have e:({({zzt σ oi v σ.H with H:=H'}:St)with t:=σ.t}:St)={σ with H:=H'}:=by unfold zzt;cases oi.dst <;> rfl
 rw[e]at this;exact this
theorem yoq(hkp:∀v (σ:St) t',Kp v σ->t'.length=σ.t.length->Kp v {σ with t:=t'}){R:St->Prop}{i:Nat}{oi:Oper}{ci:Info}(hi:ops[i]? = some oi)(hci:G i ci)(hcc:ci.call=false)(hg:∀j c,G' j c->G j c∧yqk md ops i j ci c) :
  ∀(fuel:Nat) (listed:Array Bool) (σ:St),Down md ops listed ->
   (∀j oj,ops[j]? = some oj->j≠i->listed.getD j true=false->(∀e∈oj.after,Region.binds md e=true->e.on≠i)->oi.apart ops oj=true) ->
   i∈Region.ready md ops listed->∀v H',MV P ops S ci σ oi v H'->AM P ops md S G' Kp R fuel (listed.setIfInBounds i true) (zzt σ oi v H')->AM P ops md S G Kp R (fuel+1) listed σ:=by
 intro fuel
 induction fuel with
 |zero=>
  intro listed σ _ _ hr v H' hy H;refine⟨λh=>(by rw[h]at hr;cases hr),λj hj =>?_⟩;by_cases hji:j=i;subst hji;exact hy.goA hi hci hcc (AM.mono (λj c h=>(hg j c h).1) _ _ _ H);have:=ready_mono hj hji;rw[H.1]at this
  cases this
 |succ fuel ih=>
  intro listed σ hdown hfree hr v H' hy H;refine⟨λh=>(by rw[h]at hr;cases hr),λj hj =>?_⟩;by_cases hji:j=i;subst hji;exact hy.goA hi hci hcc (AM.mono (λj c h=>(hg j c h).1) _ _ _ H);have h1:=H.2 j (ready_mono hj hji);obtain⟨hjun,oj,hoj,hall⟩:=mem_ready.1 hj;obtain⟨hun,oi',hoi',hall'⟩:=mem_ready.1 hr
  rw[hi]at hoi';injection hoi' with hoi';subst hoi'
  have hnot:∀e∈oj.after,Region.binds md e=true->e.on≠i:=λe he hb heq=>by
   have h1:=hall e he hb;rw[heq,getD_both hun]at h1;cases h1
  have hnot':∀e∈oi.after,Region.binds md e=true->e.on≠j:=λe he hb heq=>by
   have h1:=hall' e he hb;rw[heq,getD_both hjun]at h1;cases h1
  have hfr:y5l md ops i j:=⟨λhd=>(by have:=hdown.ready hj hd;rw[getD_both hun]at this;cases this),λhd=>(by have:=hdown.ready hr hd;rw[getD_both hjun]at this;cases this)⟩;have hap:=hfree j oj hoj hji hjun hnot
  have hfree':∀k ok,ops[k]? = some ok->k≠i->(listed.setIfInBounds j true).getD k true=false ->
    (∀e∈ok.after,Region.binds md e=true->e.on≠i)->oi.apart ops ok=true:=λk ok hk hki hun hno=>by
   refine hfree k ok hk hki ?_ hno;by_cases hjk:j=k;subst hjk;exact hjun;rw[getD_set_ne true hjk]at hun;exact hun
  unfold GoA at h1 ⊢;simp only[hoj]at h1 ⊢;obtain⟨cj,hcj,⟨u,H2,hjc,hm,hk⟩|hm⟩:=h1;obtain⟨hgj,hpair⟩:=hg j cj hcj;obtain⟨p1,p2,p3⟩:=hpair hfr;obtain⟨H1',q1,q2⟩:=ysf hap p1 p2 p3 hy hm;refine⟨cj,hgj,.inl ⟨u,H1',hjc,q1,ih (listed.setIfInBounds j true) _ (hdown.set hj) hfree' (ready_mono hr (Ne.symm hji)) v H2 q2 ?_⟩⟩;rw[Array.setIfInBounds_comm _ _ hji];rw[zq7 (B:=H1') (Oper.apart_spec hap).2.1]at hk;exact hk
  obtain⟨hgj,hpair⟩:=hg j cj hcj;obtain⟨p1,p2,p3⟩:=hpair hfr
  have hie:ci.eff=false:=by
   cases he:ci.eff with
   |false=>rfl
   |true=>exact(p1 ⟨he,hm.1⟩).elim
  obtain⟨rfl,q⟩:=yss (Kp:=Kp) hap hie (p2 hie hm.1) hkp hy hm;refine⟨cj,hgj,.inr (q.imp λu H2 _ _ ⟨q2,hk⟩=>ih (listed.setIfInBounds j true) _ (hdown.set hj) hfree' (ready_mono hr (Ne.symm hji)) v H2 q2 ?_)⟩;rw[Array.setIfInBounds_comm _ _ hji];rw[zq7 (B:=H2) (Oper.apart_spec hap).2.1]at hk;exact hk
theorem zri{listed:Array Bool}{j:Nat}(h:listed.getD j true=false)(hj:j∈Region.ready md ops (listed.setIfInBounds j true)):False:=by
 have h1:=(mem_ready.1 hj).1;by_cases hlt:j<listed.size;simp[Qae,hlt]at h1;simp[Qae,Array.getElem?_eq_none (Nat.le_of_not_lt hlt)]at h
def zq0(md:Region.Mode)(ops:Array Oper):List Nat->Array Bool->Bool
 |[],listed=>(Region.ready md ops listed).isEmpty
 |k::r,listed=>(Region.ready md ops listed).contains k&&Region.free md ops listed k&&zq0 md ops r (listed.setIfInBounds k true)
def ypm(P:Program)(ops:Array Oper)(md:Region.Mode)(S:kz3->Prop)(k b:Nat)(ks:List Nat)(prev:List (Nat×Info))(σ:St)(o:Oper)(c:Info)(K:St->Prop):Prop :=
 c.call=false∧∃ob cb,ops[b]? = some ob∧GP md ops prev b cb∧cb.call=false∧(∀j∈ks,¬y5l md ops k j∧¬y5l md ops b j) ∧
  (∃v H v' H',MV P ops S c σ o v H∧MV P ops S cb (zzt σ o v H) ob v' H'∧K (zzt (zzt σ o v H) ob v' H')) ∧
  ∃v H v' H',MV P ops S cb σ ob v H∧MV P ops S c (zzt σ ob v H) o v' H'∧K (zzt (zzt σ ob v H) o v' H')
def z95(P:Program)(ops:Array Oper)(md:Region.Mode)(S:kz3->Prop)(Kp:V->St->Prop)(R:St->Prop):List Nat->List (Nat×Info)->St->Prop
 |[],_,σ=>R σ
 |[k],prev,σ=>∃o c,ops[k]? = some o∧GP md ops prev k c∧((∃v H',c.call=false∧MV P ops S c σ o v H'∧R (zzt σ o v H'))∨MC P ops S c σ o (λv H'=>R (zzt σ o v H')) Kp)
 |k::b::ks,prev,σ=>∃o c,ops[k]? = some o∧GP md ops prev k c∧((∃v H',c.call=false∧MV P ops S c σ o v H'∧z95 P ops md S Kp R (b::ks) ((k,c)::prev) (zzt σ o v H')) ∨
  ((∀j∈b::ks,¬y5l md ops k j)∧MC P ops S c σ o (λv H'=>z95 P ops md S Kp R (b::ks) ((k,c)::prev) (zzt σ o v H')) Kp) ∨
  ypm P ops md S k b ks prev σ o c (z95 P ops md S Kp R ks prev))
theorem zg1{Kp:V->St->Prop}{R:St->Prop}{k:Nat}{ks:List Nat}{prev:List (Nat×Info)}{σ:St}:z95 P ops md S Kp R (k::ks) prev σ↔∃o c,ops[k]? = some o∧GP md ops prev k c∧((∃v H',c.call=false∧MV P ops S c σ o v H'∧z95 P ops md S Kp R ks ((k,c)::prev) (zzt σ o v H')) ∨
  ((∀j∈ks,¬y5l md ops k j)∧MC P ops S c σ o (λv H'=>z95 P ops md S Kp R ks ((k,c)::prev) (zzt σ o v H')) Kp) ∨
  ∃b l,ks=b::l∧ypm P ops md S k b l prev σ o c (z95 P ops md S Kp R l prev)):=by
 cases ks with
 |nil=>
  constructor
  rintro ⟨o,c,h1,h2,h3|h3⟩
  exact⟨o,c,h1,h2,.inl h3⟩;exact⟨o,c,h1,h2,.inr (.inl ⟨λj h=>(by cases h),h3⟩)⟩
  rintro ⟨o,c,h1,h2,h3|⟨_,h3⟩|⟨b,l,e,_⟩⟩
  exact⟨o,c,h1,h2,.inl h3⟩;exact⟨o,c,h1,h2,.inr h3⟩
  cases e
 |cons b ks=>
  constructor
  rintro ⟨o,c,h1,h2,h3|h3|h3⟩
  exact⟨o,c,h1,h2,.inl h3⟩;exact⟨o,c,h1,h2,.inr (.inl h3)⟩;exact⟨o,c,h1,h2,.inr (.inr ⟨b,ks,rfl,h3⟩)⟩
  rintro ⟨o,c,h1,h2,h3|h3|⟨b',l,e,h3⟩⟩
  exact⟨o,c,h1,h2,.inl h3⟩;exact⟨o,c,h1,h2,.inr (.inl h3)⟩;injection e with e1 e2;subst e1;subst e2;exact⟨o,c,h1,h2,.inr (.inr h3)⟩
theorem yj2(hkp:∀v (σ:St) t',Kp v σ->t'.length=σ.t.length->Kp v {σ with t:=t'}){R:St->Prop}:∀(l:List Nat) (prev:List (Nat×Info)) (listed:Array Bool) (σ:St),Down md ops listed->(∀j,listed.getD j true=false->j∈l) ->
  zq0 md ops l listed=true->z95 P ops md S Kp R l prev σ->AM P ops md S (GP md ops prev) Kp R l.length listed σ
 |[],_,listed,σ,_,_,hB,h=>⟨by simpa[zq0]using hB,h⟩
 |k::l,prev,listed,σ,hdown,hlow,hB,h=>by
  obtain⟨o,c,h0,hc0,h⟩:=zg1.1 h;simp only[zq0,Qag]at hB;obtain⟨⟨hr,hf⟩,hB'⟩:=hB;have hr:k∈Region.ready md ops listed:=by simpa using hr
  have hlow':∀j,(listed.setIfInBounds k true).getD j true=false->j∈l:=λj hj=>by
   by_cases hjk:k=j;subst hjk;by_cases hlt:k<listed.size;simp[Qae,hlt]at hj;simp[Qae,Array.getElem?_eq_none (Nat.le_of_not_lt hlt)]at hj;rw[getD_set_ne true hjk]at hj
   rcases Qbf.1 (hlow j hj)with e|e
   exact(hjk e.symm).elim;exact e
  have rest:∀σ',z95 P ops md S Kp R l ((k,c)::prev) σ'->AM P ops md S (GP md ops ((k,c)::prev)) Kp R l.length (listed.setIfInBounds k true) σ':=λσ' hrest=>
   yj2 hkp l _ _ _ (hdown.set hr) hlow' hB' hrest
  rcases h with ⟨v,H',hc,hy,hrest⟩|⟨hlate,hm⟩|⟨b,l',e,hc,hpp⟩
  rotate_left 2
  ·subst e;obtain⟨ob,cb,hb0,hcb0,hcb,hlate,hA,hB2⟩:=hpp;obtain⟨v,H',u,H'',m1,m2,m3⟩:=hA;obtain⟨v2,H2,u2,H3,n1,n2,n3⟩:=hB2;obtain⟨hun,oi',hoi',hall'⟩:=mem_ready.1 hr;simp only[zq0,Qag]at hB';have hrb:b∈Region.ready md ops (listed.setIfInBounds k true):=by simpa using hB'.1.1
   have hbk:b≠k:=λe=>by subst e;exact(zri hun hrb).elim
   have two:∀j,j∈Region.ready md ops listed->j=k∨j=b:=λj hj=>by
    rcases Classical.em (j=k∨j=b)with q|q
    exact q
    exfalso
    obtain⟨hjun,oj,hoj,hall⟩:=mem_ready.1 hj
    have hm:j∈l':=by
     rcases Qbf.1 (hlow j hjun)with e|e
     exact(q (.inl e)).elim
     rcases Qbf.1 e with e|e
     exact(q (.inr e)).elim;exact e
    exact(hlate j hm).1 ⟨λhd=>(by have:=hdown.ready hj hd;rw[getD_both hun]at this;cases this),λhd=>(by have:=hdown.ready hr hd;rw[getD_both hjun]at this;cases this)⟩
   have later:∀σ',z95 P ops md S Kp R l' prev σ'->AM P ops md S (GP md ops prev) Kp R l'.length ((listed.setIfInBounds k true).setIfInBounds b true) σ':=λσ' h=>
    yj2 hkp l' prev _ σ' ((hdown.set hr).set hrb) (λj hj=>by
     by_cases hjb:b=j;subst hjb;by_cases hlt:b<(listed.setIfInBounds k true).size;simp[Qae,hlt]at hj;simp[Qae,Array.getElem?_eq_none (Nat.le_of_not_lt hlt)]at hj;rw[getD_set_ne true hjb]at hj
     rcases Qbf.1 (hlow' j hj)with e|e
     exact(hjb e.symm).elim
     exact e) hB'.2 h
   have next:∀(x y:Nat) (cy:Info) (oy:Oper) (σ':St) (w:V) (Hw:kz3),ops[y]? = some oy->GP md ops prev y cy->cy.call=false->(∀j,j∈Region.ready md ops (listed.setIfInBounds x true)->j=y)->y∈Region.ready md ops (listed.setIfInBounds x true)->MV P ops S cy σ' oy w Hw ->
     AM P ops md S (GP md ops prev) Kp R l'.length ((listed.setIfInBounds x true).setIfInBounds y true) (zzt σ' oy w Hw)->AM P ops md S (GP md ops prev) Kp R (l'.length+1) (listed.setIfInBounds x true) σ' :=
    λx y cy oy σ' w Hw q1 q2 q3 q4 q5 q6 q7=>⟨λh=>(by rw[h]at q5;cases q5),λj hj=>by
     rw[q4 j hj];exact q6.goA q1 q2 q3 q7⟩
   have ready1:∀(x y:Nat),x∈Region.ready md ops listed->(x=k∧y=b∨x=b∧y=k)->∀j,j∈Region.ready md ops (listed.setIfInBounds x true)->j=y:=λx y hx hxy j hj=>by
    rcases Classical.em (j=y)with q|q
    exact q
    exfalso
    obtain⟨hjun,oj,hoj,hall⟩:=mem_ready.1 hj;have hjx:j≠x:=λe=>by subst e;exact(zri (mem_ready.1 hx).1 hj).elim
    have hjun':listed.getD j true=false:=by rw[getD_set_ne true (Ne.symm hjx)]at hjun;exact hjun
    have hm:j∈l':=by
     rcases Qbf.1 (hlow j hjun')with e|e
     rcases hxy with ⟨e1,e2⟩|⟨e1,e2⟩
     exact(hjx (e.trans e1.symm)).elim;exact(q (e.trans e2.symm)).elim
     rcases Qbf.1 e with e|e
     rcases hxy with ⟨e1,e2⟩|⟨e1,e2⟩
     exact(q (e.trans e2.symm)).elim;exact(hjx (e.trans e1.symm)).elim;exact e
    have hyun:(listed.setIfInBounds x true).getD y false=false:=by
     have hyx:x≠y:=by rcases hxy with ⟨e1,e2⟩|⟨e1,e2⟩ <;> (rw[e1,e2];first|exact Ne.symm hbk|exact hbk)
     rw[getD_set_ne false hyx]
     rcases hxy with ⟨e1,e2⟩|⟨e1,e2⟩
     rw[e2];have:=(mem_ready.1 hrb).1;rw[getD_set_ne true (Ne.symm hbk)]at this;exact getD_both this;rw[e2];exact getD_both hun
    have hfy:¬y5l md ops y j:=by
     rcases hxy with ⟨_,e2⟩|⟨_,e2⟩
     rw[e2];exact(hlate j hm).2;rw[e2];exact(hlate j hm).1
    have hdx:=hdown.set hx;refine hfy ⟨λhd=>(by have:=hdx.ready hj hd;rw[hyun]at this;cases this),λhd =>?_⟩
    rcases hxy with ⟨e1,e2⟩|⟨e1,e2⟩
    subst e1;subst e2;have:=(hdown.set hr).ready hrb hd;rw[getD_both hjun]at this;cases this;subst e2;have:=hdown.ready hr hd;rw[getD_both hjun']at this;cases this
   refine⟨λh=>(by rw[h]at hr;cases hr),λj hj =>?_⟩
   rcases two j hj with e|e
   ·subst e;exact m1.goA h0 hc0 hc (next j b cb ob _ u H'' hb0 hcb0 hcb (ready1 j b hr (.inl ⟨rfl,rfl⟩)) hrb m2 (later _ m3))
   ·subst e;have hrk:k∈Region.ready md ops (listed.setIfInBounds j true):=ready_mono hr (Ne.symm hbk);refine n1.goA hb0 hcb0 hcb (next j k c o _ u2 H3 h0 hc0 hc (ready1 j k hj (.inr ⟨rfl,rfl⟩)) hrk n2 ?_);rw[Array.setIfInBounds_comm _ _ hbk];exact later _ n3
  exact yoq (G:=GP md ops prev) (G':=GP md ops ((k,c)::prev)) hkp h0 hc0 hc (λj c' h'=>⟨λp hp=>h' p (Qai _ hp),h' _ Qak⟩) l.length listed σ hdown (Region.free_spec h0 hf) hr v H' hy (rest _ hrest);refine⟨λh=>(by rw[h]at hr;cases hr),λj hj =>?_⟩;by_cases hjk:j=k;subst hjk;unfold GoA;simp only[h0]
  exact⟨c,hc0,.inr (hm.imp λv H' _ _ hk=>AM.mono (λj' c' h' p hp=>h' p (Qai _ hp)) _ _ _ (rest _ hk))⟩
  exfalso
  obtain⟨hjun,oj,hoj,hall⟩:=mem_ready.1 hj;obtain⟨hun,oi',hoi',hall'⟩:=mem_ready.1 hr;refine hlate j ?_ ⟨λhd=>(by have:=hdown.ready hj hd;rw[getD_both hun]at this;cases this),λhd=>(by have:=hdown.ready hr hd;rw[getD_both hjun]at this;cases this)⟩
  rcases Qbf.1 (hlow j hjun)with e|e
  exact(hjk e).elim;exact e
theorem ypd{id:Nat}{σ:St}{Q:yza->St->Prop}(hm:P.follows .mixedOrders=true)(l:List Nat)(hB:zq0 .any ops l (Array.replicate ops.size false)=true)(hl:l.length=ops.size)(hall:∀j,j<ops.size->j∈l)
  (h:z95 P ops .any S (λv σ=>∀t',t'.length=σ.t.length->Q (.panic v) {σ with t:=t'}) (Q .normal) l [] σ) :
  Sat P (.region id ops true) σ Q:=λW0 g0 H0 W a g _ hS hG=>by
 refine zbz zmb hm ?_;have hG':=hG.drawn (W.drawn+1);have hS':σ.e0=H0.E∧Step W0 g0 H0 {W with drawn:=W.drawn+1} g σ.H:=⟨hS.1,hS.2.trans (Grow.drawn W _).step⟩
 have:=yj2 (P:=P) (md:=.any) (R:=Q .normal) (λv σ t' h ht=>λt'' ht''=>h t'' (ht''.trans ht)) l [] (Array.replicate ops.size false) σ (λb o _ hb=>by rw[getD_replicate_false]at hb;cases hb) (λj hj=>by
  rcases Nat.lt_or_ge j ops.size with q|q
  exact hall j q
  simp[Qae,Array.getElem?_eq_none (xs:=Array.replicate ops.size false) (i:=j) (by simpa using q)]at hj) hB h
 rw[hl]at this;exact zvk (Q':=y4v W0 g0 H0 Q) (λW a g τ hτ hS hG=>⟨g,τ,.normal,.normal,hS,hG,hτ⟩) (λW a g τ v c hτ hS hG hr=>⟨g,τ,.panic v,.panic v c hr,hS,hG,hτ τ.t rfl⟩) _ _ σ _ a g this hS' hG'
theorem y1w{H H':kz3}{t l i off:Nat}(h:H'.get l i=H.get l i):z64 P H' t (.ptr l i off)=z64 P H t (.ptr l i off):=by simp only[z64,h]
theorem yez{off:Nat}{cs cs':List V}(h:cs'[off]? = cs[off]?):(if off+1<=cs'.length then some (V.agg ((cs'.drop off).take 1))else none)=if off+1<=cs.length then some (V.agg ((cs.drop off).take 1))else none:=by
 have e:∀l:List V,(if off+1<=l.length then some (V.agg ((l.drop off).take 1))else none)=l[off]?.map λv=>V.agg [v]:=λl=>by
  by_cases hl:off<l.length;rw[Qbo (by omega),List.drop_eq_getElem_cons hl,Qab hl];rfl;rw[Qbp (by omega),Qbs (by omega)];rfl
 rw[e,e,h]
theorem ys4{t off:Nat}{cs cs':List V}(h1:P.cellsOf t=1)(h:cs'[off]? = cs[off]?):rd P t cs' off=rd P t cs off:=by
 unfold rd;rw[h1];split;rfl;exact yez h;exact yez h;exact h
theorem ymj{t off:Nat}{cs:List V}(h1:P.cellsOf t=1)(h:cs[off]? = none):rd P t cs off=none:=by
 have:=List.getElem?_eq_none_iff.1 h;unfold rd;rw[h1];split;rfl;rw[Qbp (by omega)];rw[Qbp (by omega)];exact h
theorem zx2{H H':kz3}{t i off:Nat}(h1:P.cellsOf t=1)(hl:H'.lv=H.lv)(h:cellAt H'.L[i]? off=cellAt H.L[i]? off):z64 P H' t (.ptr H.lv i off)=z64 P H t (.ptr H.lv i off):=by
 have get:∀{K:kz3},K.lv=H.lv->z64 P K t (.ptr H.lv i off)=(cellAt K.L[i]? off).bind λv=>rd P t (List.replicate off .any++[v]) off:=λ{K} hK=>by
  simp only[z64,kz3.get,hK,if_true]
  cases hk:K.L[i]? with
  |none=>rfl
  |some o=>cases o with
   |none=>rfl
   |some o=>cases o with
    |cells cs=>
     show rd P t cs off=(cs[off]?).bind _
     cases hc:cs[off]? with
     |none=>exact ymj h1 hc
     |some v=>exact ys4 h1 (by rw[hc];simp)
    |_=>rfl
 rw[get hl,get rfl,h]
theorem zm9{H H':kz3}{t:Nat}{cs:List V}{off:Nat}:z64 P H' t (.ref cs off)=z64 P H t (.ref cs off):=rfl
theorem zog{H H':kz3}{t l i ver idx off:Nat}(h:H'.get l i=H.get l i):z64 P H' t (.ap l i ver idx off)=z64 P H t (.ap l i ver idx off):=by simp only[z64,zo6,h]
theorem zq5{H H':kz3}{t l i ver off n:Nat}{full:Bool}{y:V}(h:H'.get l i=H.get l i):kze P H' t (.hs l i ver off n full) y=kze P H t (.hs l i ver off n full) y:=by simp only[kze,h]
theorem ya1{H H':kz3}{t l i ver off n:Nat}{full:Bool}(h:H'.get l i=H.get l i):zgy P H' t (.hs l i ver off n full)=zgy P H t (.hs l i ver off n full):=by simp only[zgy,h]
def V.plain:V->Bool
 |.hs .. | .map .. => false
 |_=>true
theorem yim{H H':kz3}{t:Nat}{x:V}(h:x.plain=true):zgy P H' t x=zgy P H t x:=by cases x <;> first|rfl|cases h
theorem zsu{H H':kz3}{t:Nat}{x y:V}(h:x.plain=true):kze P H' t x y=kze P H t x y:=by cases x <;> first|rfl|cases h
theorem ycl{H H':kz3}{t:Nat}{x:V}{a b c:Option V}(h:x.plain=true):zc2 P H' t x a b c=zc2 P H t x a b c:=by cases x <;> first|rfl|cases h
end
def ylv(all:List Oper)(i j:Nat):Bool:=match all[j]? with
 |some o=>o.after.toList.any λe=>Region.binds .any e&&Nat.beq e.on i
 |none=>false
def yrn(all:List Oper):Nat->Nat->Nat->Bool
 |0,i,j=>ylv all i j
 |n+1,i,j=>ylv all i j||(match all[j]? with
  |some o=>o.after.toList.any λe=>Region.binds .any e&&yrn all n i e.on
  |none=>false)
def zvz(all:List Oper)(i j:Nat):Bool:=yrn all 8 i j||yrn all 8 j i
theorem yie{ops:Array Oper}:∀(n:Nat) {i j:Nat},yrn ops.toList n i j=true->Dep .any ops i j:=λn=>by
 have edge:∀{i j:Nat},ylv ops.toList i j=true->Dep .any ops i j:=λ{i j} h=>by
  unfold ylv at h;split at h;rename_i o ho;rw[List.any_eq_true]at h;obtain⟨e,he,hb⟩:=h;simp only[Qag]at hb;exact .one j o e (by simpa using ho) (by simpa using he) hb.1 (Qaj hb.2);cases h
 induction n with
 |zero=>intro i j h;exact edge h
 |succ n ih=>
  intro i j h;simp only[yrn,Bool.or_eq_true]at h
  rcases h with h|h
  exact edge h;split at h;rename_i o ho;rw[List.any_eq_true]at h;obtain⟨e,he,hb⟩:=h;simp only[Qag]at hb;exact .more j o e (by simpa using ho) (by simpa using he) hb.1 (ih hb.2);cases h
theorem zbk{ops:Array Oper}{i j:Nat}(h:zvz ops.toList i j=true):¬y5l .any ops i j:=λhf=>by
 unfold zvz at h;rw[Bool.or_eq_true]at h
 rcases h with h|h
 exact hf.1 (yie 8 h);exact hf.2 (yie 8 h)
def pIf{α:Type}(b:Bool)(x y:Option α):Option α:=match b with|true=>x|false=>y
theorem zs5{α:Type}(b:Bool)(x y:Option α):pIf b x y=if b then x else y:=by cases b <;> rfl
def z3i{α β:Type}(o:Option α)(k:α->Option β):Option β:=o.bind k
noncomputable def ylf{α R:Type}(es:List (B8×α))(f:B8->α->List (B8×α)->Option R)(g:Option R):Option R :=
 open Classical in
 match es with
 |[]=>g
 |[e]=>f e.1 e.2 []
 |e::e'::r=>if h:∃z,∀i p,(e::e'::r)[i]? = some p->f p.1 p.2 ((e::e'::r).eraseIdx i)=some z then some h.choose else none
def pOp{α:Type}(o:Oper)(x:Option α):Option α:=x
inductive Res (X R:Type) where
 |ok (r:R)
 |pan (x:X)
def z8n{X R S:Type}(o:Res X R)(f:R->Option S)(g:X->Option S):Option S:=match o with
 |.ok r=>f r
 |.pan x=>g x
inductive DTy where
 |bool
 |int (k:IntKind)
 |str
 |nat
 |sl (t:DTy)
 |st (i:Nat)
 deriving DecidableEq
def DTy.S(T:Nat->Type):DTy->Type
 |.bool=>Bool
 |.int _=>Int
 |.str=>B8
 |.nat=>Nat
 |.sl t=>List (t.S T)
 |.st i=>T i
def HL(T:Nat->Type):List DTy->Type
 |[]=>Unit
 |t::l=>t.S T×HL T l
def HL.app{T:Nat->Type}:{a b:List DTy}->HL T a->HL T b->HL T (a++b)
 |[],_,_,y=>y
 |_::_,_,x,y=>(x.1,HL.app x.2 y)
def HL.fst{T:Nat->Type}:(a:List DTy)->{b:List DTy}->HL T (a++b)->HL T a
 |[],_,_=>()
 |_::a,_,x=>(x.1,HL.fst a x.2)
def HL.snd{T:Nat->Type}:(a:List DTy)->{b:List DTy}->HL T (a++b)->HL T b
 |[],_,x=>x
 |_::a,_,x=>HL.snd a x.2
structure Dat where
 T:Nat->Type
 fl:Nat->List DTy
 get:∀i,T i->HL T (fl i)
 make:∀i,HL T (fl i)->T i
 enc:∀i,T i->V
 ty:Nat->Option DTy
 ow:Nat->Nat->Option Nat:=λ_ _=>none
inductive TV (T:Nat->Type):Type where
 |any
 |bool (b:Bool)
 |int (k:IntKind) (n:Int)
 |str (s:B8)
 |nilp
 |nils
 |mapn
 |nilf
 |nili
 |sl (t:DTy) (xs:List (t.S T)) (fl:Nat)
 |own (s:Nat)
 |osl (s:Nat) (lo:Int)
 |ptr (s off:Nat)
 |bp (s off:Nat)
 |ref (cs:List (TV T)) (off:Nat)
 |ap (s:Nat) (t:DTy) (i:Int) (x:t.S T) (off:Nat)
 |map (s:Nat)
 |mc (t:DTy) (es:List (B8×t.S T))
 |fn (f:Nat) (first caps:List (TV T))
 |iface (t:Nat) (v:TV T)
 |agg (cs:List (TV T))
 |tup (vs:List (TV T))
 |dp (s:Nat) (i:Int) (off:Nat)
 |bsl (i:Nat) (cs:List (TV T))
inductive TO (T:Nat->Type):Type where
 |cells (cs:List (TV T))
 |acc (ty:Nat) (t:DTy) (xs:List (t.S T)) (w:Bool)
 |siter (s:B8) (pos:Nat)
 |mp (ty:Nat) (t:DTy) (es:List (B8×t.S T))
 |mit (t:DTy) (last:Option (B8×t.S T)) (es:List (B8×t.S T))
 |bld (ty:Nat) (b:Option Nat)
 |gone
 |rig
 |deep (ty i:Nat) (xs:List (T i)) (h:Option (Int×Nat×Nat))
structure TS(T:Nat->Type) where
 t:List (Nat×TV T)
 o:List (Nat×TO T)
 nx:Nat
 nt:Nat
 d:List (Nat×List (TV T)):=[]
 g:List (Option Nat):=[]
def fnd{α:Type}:List (Nat×α)->Nat->Option α
 |[],_=>none
 |(i,a)::r,j=>match Nat.beq i j with
  |true=>some a
  |false=>fnd r j
section
variable {T : Nat → Type}
def TV.cells:TV T->List (TV T)
 |.agg cs=>cs
 |v=>[v]
def TV.leaf:TV T->Bool
 |.any| .agg _| .tup _=>false
 |_=>true
def TV.kza:TV T->Bool
 |.agg _=>true
 |v=>v.leaf
def TV.z79:Value->TV T
 |.bool b=>.bool b
 |.int k n=>.int k n
 |.string s=>.str s.data.toList
 |.pointer none=>.nilp
 |.slice none 0 0=>.nils
 |.map none=>.mapn
 |.nilFunc=>.nilf
 |.nilIface=>.nili
 |_=>.any
def TV.ofC:Value->TV T
 |.agg cs=>if cs.toList.all (·.oneCell')then .agg (cs.toList.map TV.z79)else .any
 |.tuple cs=>.tup (cs.toList.map TV.z79)
 |.iface t v=>.iface t (TV.z79 v)
 |v=>TV.z79 v
def TS.ev(ts:TS T):Operand->Option (TV T)
 |.tmp t=>fnd ts.t t
 |.const v=>some (TV.ofC v)
 |.func f=>some (.fn f [] [])
 |.global _=>none
def TS.evs(ts:TS T):List Operand->Option (List (TV T))
 |[]=>some []
 |x::xs=>match ts.ev x,ts.evs xs with
  |some v,some vs=>some (v::vs)
  |_,_=>none
inductive FR (α:Type) where
 |ok (a:α)
 |frz (s:Nat)
 |bad
def FR.of{α:Type}:Option α->FR α
 |some a=>.ok a
 |none=>.bad
end
section
variable (D : Dat)
def Dat.owns(q:Nat):Bool:=(List.range (D.fl q).length).any λf=>(D.ow q f).isSome
def Dat.len:DTy->Nat
 |.st i=>(D.fl i).length
 |_=>1
def Dat.el:(t:DTy)->t.S D.T->V
 |.bool,b=>.bool b
 |.int k,n=>.int k n
 |.str,s=>.str s
 |.nat,_=>.any
 |.sl t,xs=>.sl (D.len t) (List.map (Dat.el t) xs) false
 |.st i,x=>D.enc i x
def Dat.els:(l:List DTy)->HL D.T l->List V
 |[],_=>[]
 |t::l,x=>D.el t x.1::Dat.els l x.2
def Dat.leaf:(t:DTy)->t.S D.T->TV D.T
 |.bool,b=>.bool b
 |.int k,n=>.int k n
 |.str,s=>.str s
 |.nat,_=>.any
 |.sl t,xs=>.sl t xs 0
 |.st _,_=>.any
def Dat.leaves:(l:List DTy)->HL D.T l->List (TV D.T)
 |[],_=>[]
 |t::l,x=>D.leaf t x.1::Dat.leaves l x.2
def Dat.tv:(t:DTy)->t.S D.T->TV D.T
 |.st i,x=>.agg (D.leaves (D.fl i) (D.get i x))
 |.bool,b=>.bool b
 |.int k,n=>.int k n
 |.str,s=>.str s
 |.nat,_=>.any
 |.sl t,xs=>.sl t xs 0
def zqr{T:Nat->Type}(a b:DTy)(x:a.S T):Option (b.S T) :=
 if h:a=b then some (h▸x)else none
def zlc{T:Nat->Type}(a b:DTy)(x:List (B8×a.S T)):Option (List (B8×b.S T)) :=
 if h:a=b then some (h▸x)else none
def DTy.flat:DTy->Bool
 |.bool| .int _| .str=>true
 |_=>false
def z9d{T:Nat->Type}(a b:DTy)(x:List (a.S T)):Option (List (b.S T)) :=
 if h:a=b then some (h▸x)else none
def zcz:(t:DTy)->TV D.T->FR (t.S D.T)
 |.bool,.bool b=>.ok b
 |.int k,.int k' n=>if k=k' then .ok n else .bad
 |.str,.str s=>.ok s
 |.sl t,.sl t' xs _=>FR.of (z9d t' t xs)
 |.sl _,.nils=>.ok []
 |.sl _,.own s=>.frz s
 |_,_=>.bad
def z60:(l:List DTy)->List (TV D.T)->FR (HL D.T l)
 |[],[]=>.ok ()
 |t::l,v::vs=>match zcz D t v with
  |.ok x=>match z60 l vs with
   |.ok xs=>.ok (x,xs)
   |.frz s=>.frz s
   |.bad=>.bad
  |.frz s=>.frz s
  |.bad=>.bad
 |_,_=>.bad
def asD:(t:DTy)->TV D.T->FR (t.S D.T)
 |.st i,.agg cs=>match z60 D (D.fl i) cs with
  |.ok x=>.ok (D.make i x)
  |.frz s=>.frz s
  |.bad=>.bad
 |.st _,_=>.bad
 |t,v=>zcz D t v
def y5e(t:DTy):List (TV D.T)->FR (List (t.S D.T))
 |[]=>.ok []
 |v::vs=>match asD D t v with
  |.ok x=>match y5e t vs with
   |.ok xs=>.ok (x::xs)
   |.frz s=>.frz s
   |.bad=>.bad
  |.frz s=>.frz s
  |.bad=>.bad
end
section
variable {T : Nat → Type} (P : Program)
def tRd(t:Nat)(cs:List (TV T))(off:Nat):Option (TV T) :=
 match P.underlying t with
 |none=>none
 |some (.struct _)|some (.array _ _)=>if off+P.cellsOf t<=cs.length then some (.agg ((cs.drop off).take (P.cellsOf t)))else none
 |some _=>cs[off]?
def zow(s f:Nat)(x:TV T):Option (TV T) :=
 match ziq P s f with
 |none=>none
 |some o=>match x with
  |.ref cs off=>some (.ref cs (off+o))
  |.ptr s off=>some (.ptr s (off+o))
  |.ap s t i x off=>some (.ap s t i x (off+o))
  |.bp s off=>some (.bp s (off+o))
  |.dp s i off=>some (.dp s i (off+o))
  |_=>none
def yl2(s f:Nat)(x:TV T):Option (TV T) :=
 match P.underlying s with
 |some (.struct fs)=>match fs[f]? with
  |some y=>match x with
   |.agg cs=>tRd P y.type cs y.offset
   |_=>none
  |none=>none
 |_=>none
def y0v(i:Nat):TV T->Option (TV T)
 |.tup vs=>vs[i]?
 |_=>none
def tNil:TV T->Option (TV T)
 |.ptr s off=>some (.ptr s off)
 |.ref cs off=>some (.ref cs off)
 |.ap s t i x off=>some (.ap s t i x off)
 |.bp s off=>some (.bp s off)
 |.dp s i off=>some (.dp s i off)
 |.fn f a b=>some (.fn f a b)
 |_=>none
def tUn(op:UnOp)(x:TV T):Option (TV T) :=
 match op,x with
 |.neg,.int k n=>some (.int k (k.wrap (0-n)))
 |.not,.bool b=>some (.bool (!b))
 |.xor,.int k n=>some (.int k (bits .xor k (if k.signed then -1 else k.max) n))
 |_,_=>none
def y1u(s d:Nat)(x:TV T):Option (TV T) :=
 match x with
 |.int _ n=>match P.underlying s,P.underlying d with
  |some _,some (.int k)=>some (.int k (k.wrap n))
  |_,_=>none
 |.str a=>match P.underlying s,P.underlying d with
  |some _,some .string=>some (.str a)
  |_,_=>none
 |_=>none
def zmm(x:TV T)(asserted:Nat)(ok:Bool):Option (TV T) :=
 match P.underlying asserted,x with
 |some (.interface _),_=>none
 |some _,.iface t v=>if t=asserted then some (if ok then .tup [v,.bool true]else v)else none
 |_,_=>none
def zx9(max:Bool):List (TV T)->Option (TV T)
 |[.int k x,.int _ y]=>some (.int k (match max with|true=>mxI x y|false=>mnI x y))
 |[.int k x,.int _ y,.int _ z]=>some (.int k (match max with|true=>mxI (mxI x y) z|false=>mnI (mnI x y) z))
 |_=>none
def zd8(cs:List (TV T))(off:Nat)(xs:List (TV T)):List (TV T):=cs.take off++xs++cs.drop (off+xs.length)
def y8r(place:Nat->Option (Nat×Nat))(cells:List (TV T)):List (Nat×TV T)->Option (List (TV T))
 |[]=>some cells
 |(i,x)::rest=>match place i with
  |none=>none
  |some (off,size)=>if x.kza&&x.cells.length==size&&decide (off+size<=cells.length)then y8r place (zd8 cells off x.cells) rest else none
def zoy(ts:TS T):List (Nat×Operand)->Option (List (Nat×TV T))
 |[]=>some []
 |(i,x)::r=>match ts.ev x,zoy ts r with
  |some v,some vs=>some ((i,v)::vs)
  |_,_=>none
def y2z(t:Nat):Option (TV T):=((P.info? t).bind (·.zero)).map TV.ofC
def ykl(t:Nat)(ps:List (Nat×TV T)):Option (TV T) :=
 match y2z (T:=T) P t with
 |some (.agg z)=>match P.underlying t with
  |some (.struct fs)=>match zuz P fs.toList with
   |some places=>(y8r (λi=>places[i]?) z ps).map .agg
   |none=>none
  |some (.array _ e)=>if (P.info? e).isSome then (y8r (λi=>some (i * P.cellsOf e,P.cellsOf e)) z ps).map .agg else none
  |_=>none
 |_=>none
def TV.odd:TV T->Bool
 |.int _ _| .str _| .any=>false
 |_=>true
mutual
def yh1:Nat->Nat->TV T->TV T->Option Bool
 |0,_,_,_=>none
 |d+1,t,x,y=>
  match x,y with
  |.bool a,.bool b=>match P.underlying t with|some .bool=>some (a==b)|_=>none
  |.int k a,.int k' b=>match P.underlying t with|some (.int _)=>if k=k' then some (a==b)else none|_=>none
  |.str a,.str b=>match P.underlying t with|some .string=>some (a==b)|_=>none
  |.agg xs,.agg ys=>match P.underlying t with|some (.struct fs)=>if P.stoodInHeld t then none else y32 d fs.toList xs ys|_=>none
  |.nilp,.nilp=>match P.underlying t with|some (.pointer _)=>some true|_=>none
  |.nilp,.ptr _ _| .nilp,.ref _ _=>match P.underlying t with|some (.pointer _)=>some false|_=>none
  |.ptr _ _,.nilp| .ref _ _,.nilp=>match P.underlying t with|some (.pointer _)=>some false|_=>none
  |.mapn,.mapn=>match P.underlying t with|some (.map _ _)=>some true|_=>none
  |.nilf,.nilf=>match P.underlying t with|some (.func ..)=>some true|_=>none
  |.nilf,.fn _ _ _| .fn _ _ _,.nilf=>match P.underlying t with|some (.func ..)=>some false|_=>none
  |.nili,.iface _ _| .iface _ _,.nili=>match P.underlying t with|some (.interface _)=>some false|_=>none
  |_,_=>none
def y32:Nat->List Field->List (TV T)->List (TV T)->Option Bool
 |0,_,_,_=>none
 |_,[],_,_=>some true
 |d+1,f::fs,xs,ys=>
  if f.name = "_" then y32 d fs xs ys else
  match tRd P f.type xs f.offset,tRd P f.type ys f.offset with
  |some a,some b=>match yh1 d f.type a b,y32 d fs xs ys with
   |some r,some s=>some (r&&s)
   |_,_=>none
  |_,_=>none
end
def zse(t:Nat)(x y:TV T):Bool :=
 match x,y with
 |.agg _,.agg _ => !P.eqGuardType P.depth t
 |.nili,.nili=>false
 |.any,_|_,.any=>false
 |_,_=>true
def shl(k:IntKind)(a b:Int):Option Int:=if b<0 then none else some (k.wrap (a * 2 ^ (min b.toNat k.bits)))
def shr(k:IntKind)(a b:Int):Option Int:=if b<0 then none else some (a.fdiv (2 ^ (min b.toNat k.bits)))
def tBin{R:Type}(op:BinOp)(t:Nat)(x y:TV T)(k:TV T->Option R):Option R :=
 match x,y with
 |.int i a,.int i' b=>match op with
  |.shl=>z3i (shl i a b) λz=>k (.int i z)
  |.shr=>z3i (shr i a b) λz=>k (.int i z)
  |_=>if i=i' then (match op with
   |.add=>k (.int i (i.wrap (a+b)))
   |.sub=>k (.int i (i.wrap (a-b)))
   |.mul=>k (.int i (i.wrap (a * b)))
   |.quo=>z3i (quo i a b) λz=>k (.int i z)
   |.rem=>z3i (rem i a b) λz=>k (.int i z)
   |.eql=>k (.bool (a==b))
   |.neq=>k (.bool (a != b))
   |.lss=>k (.bool (decide (a<b)))
   |.leq=>k (.bool (decide (a<=b)))
   |.gtr=>k (.bool (decide (a>b)))
   |.geq=>k (.bool (decide (a>=b)))
   |.and=>k (.int i (bits .and i a b))
   |.or=>k (.int i (bits .or i a b))
   |.xor=>k (.int i (bits .xor i a b))
   |.andNot=>k (.int i (bits .andNot i a b))
   |_=>none)else none
 |.str a,.str b=>match op with
  |.add=>z3i (cat a b) λz=>k (.str z)
  |.eql=>k (.bool (a==b))
  |.neq=>k (.bool (!(a==b)))
  |.lss=>k (.bool (Op.bytesLess a b))
  |.leq=>k (.bool (Op.bytesLess a b||a==b))
  |.gtr=>k (.bool (!(Op.bytesLess a b||a==b)))
  |.geq=>k (.bool (!Op.bytesLess a b))
  |_=>none
 |x,y=>match op with
  |.eql=>if x.odd&&zse P t x y then (match yh1 P 24 t x y with|some r=>k (.bool r)|none=>none)else none
  |.neq=>if x.odd&&zse P t x y then (match yh1 P 24 t x y with|some r=>k (.bool (!r))|none=>none)else none
  |_=>none
end
section
variable (P : Program) (D : Dat)
def y8x{T:Nat->Type}:Option Nat->TV T
 |none=>.nils
 |some s=>.own s
def yiu(s:B8):List Int:=s.map λb=>((b.toNat:Nat):Int)
def ykp:List Int->Option B8
 |[]=>some []
 |x::r=>match x,ykp r with
  |.ofNat m,some s=>match Nat.ble m 255 with
   |true=>some (m.toUInt8::s)
   |false=>none
  |_,_=>none
def yls(ts:TS D.T)(t:Nat):TV D.T->Option (TV D.T)
 |.ref cs off=>tRd P t cs off
 |.ptr s off=>match fnd ts.o s with
  |some (.cells cs)=>tRd P t cs off
  |_=>none
 |.ap s τ i x off=>match fnd ts.o s with
  |some (.acc _ _ _ _)=>tRd P t (D.tv τ x).cells off
  |_=>none
 |.bp s off=>match fnd ts.o s with
  |some (.bld _ b)=>tRd P t [.any,y8x b] off
  |_=>none
 |_=>none
def znw(q:Nat):(l:List DTy)->HL D.T l->Nat->List (TV D.T)
 |[],_,_=>[]
 |t::l,x,f=>(match D.ow q f with
  |none=>D.leaf t x.1
  |some _=>.any)::znw q l x.2 (f+1)
def yp1(q off:Nat):Nat->List Nat
 |0=>[]
 |n+1=>match D.ow q off with
  |some _=>off::yp1 q (off+1) n
  |none=>yp1 q (off+1) n
def szT(t:Nat):Nat:=match P.underlying t with
 |some (.struct _)|some (.array _ _)=>P.cellsOf t
 |_=>1
def setO{α:Type}(cs:List α):Option (Nat×α)->List α
 |none=>cs
 |some (f,v)=>cs.set f v
def zm6{R:Type}(ts:TS D.T)(t:Nat)(s:Nat)(i:Int)(off:Nat)(set:Option (Nat×TV D.T))(k:TV D.T->Option R):Option R :=
 match fnd ts.o s with
 |some (.deep _ q xs _)=>z3i (ix xs i) λy=>(match tRd P t (setO (znw D q (D.fl q) (D.get q y) 0) set) off with
  |some v=>k v
  |none=>none)
 |_=>none
def y7u(n i:Int):Option Unit:=if n=i then some ()else none
def ykj{R:Type}(ts:TS D.T)(t:Nat)(s:Nat)(i:Int)(off:Nat)(k:TV D.T->Option R):Option R :=
 match fnd ts.o s with
 |some (.deep _ _ _ (some p))=>(match Nat.beq p.2.1 off with
  |true=>z3i (y7u p.1 i) λ_=>zm6 P D ts t s i off (some (off,.own p.2.2)) k
  |false=>zm6 P D ts t s i off none k)
 |_=>zm6 P D ts t s i off none k
def tLen(ts:TS D.T)(t:Nat)(x:TV D.T):Option (TV D.T) :=
 match x with
 |.str s=>match P.underlying t with|some .string=>some (.int .i64 s.length)|_=>none
 |.nils=>match P.underlying t with|some (.slice _)=>some (.int .i64 0)|_=>none
 |.sl _ xs _=>match P.underlying t with|some (.slice _)=>some (.int .i64 xs.length)|_=>none
 |.own s=>match P.underlying t,fnd ts.o s with
  |some (.slice _),some (.acc _ _ xs _)=>some (.int .i64 xs.length)
  |some (.slice _),some (.deep _ _ xs _)=>some (.int .i64 xs.length)
  |_,_=>none
 |.agg _=>match P.underlying t with|some (.array n _)=>some (.int .i64 n)|_=>none
 |.map s=>match P.underlying t,fnd ts.o s with
  |some (.map _ _),some (.mp _ _ es)=>some (.int .i64 es.length)
  |_,_=>none
 |_=>none
def yqa:(t:DTy)->TV D.T->Option (t.S D.T×Option Nat)
 |.sl _,.nils=>some ([],none)
 |.sl _,.own c=>some ([],some c)
 |_,_=>none
def zuq(q:Nat):(l:List DTy)->List (TV D.T)->Nat->FR (HL D.T l×Option (Nat×Nat))
 |[],[],_=>.ok ((),none)
 |t::l,v::vs,f=>(match D.ow q f with
  |none=>(match zcz D t v with
   |.ok x=>(match zuq q l vs (f+1)with
    |.ok r=>.ok ((x,r.1),r.2)
    |.frz s=>.frz s
    |.bad=>.bad)
   |.frz s=>.frz s
   |.bad=>.bad)
  |some _=>(match zuq q l vs (f+1)with
   |.ok r=>(match yqa D t v with
    |some (x,none)=>.ok ((x,r.1),r.2)
    |some (x,some c)=>(match r.2 with
     |none=>.ok ((x,r.1),some (f,c))
     |some _=>.bad)
    |none=>.bad)
   |.frz s=>.frz s
   |.bad=>.bad))
 |_,_,_=>.bad
def rowOf(τ:DTy)(ps:List (Nat×TV D.T)):Option (Nat×List (TV D.T)):=match τ,ps with
 |.st q,[(0,.agg cells)]=>(match D.owns q with
  |true=>(match zuq D q (D.fl q) cells 0 with
   |.ok _=>some (q,cells)
   |_=>none)
  |false=>none)
 |_,_=>none
theorem yix{τ:DTy}{ps:List (Nat×TV D.T)}{q:Nat}{cells:List (TV D.T)}(h:rowOf D τ ps=some (q,cells)):τ = .st q∧ps=[(0,.agg cells)]:=by
 unfold rowOf at h;split at h;split at h;split at h;injection h with h;injection h with h1 h2;subst h1;subst h2;exact⟨rfl,rfl⟩;cases h;cases h;cases h
def zbg(t len:Nat)(ps:List (Nat×TV D.T)):FR (TV D.T) :=
 match P.underlying t with
 |some (.slice e)=>match zeroV P e,D.ty e with
  |some z,some τ=>
   if z.kza&&z.cells.length==P.cellsOf e&&decide (0<P.cellsOf e)&&(P.info? e).isSome&&ps.length==len&&(ps.map (·.1)==List.range len)&&ps.all (λp=>p.2.kza&&p.2.cells.length==P.cellsOf e)&&decide (len * P.cellsOf e<=2 ^ 24)&&D.len τ==P.cellsOf e then
    (match rowOf D τ ps with
    |some (q,cells)=>.ok (.bsl q [.agg cells])
    |none=>match y5e D τ (ps.map (·.2))with
    |.ok xs=>.ok (.sl τ xs (if len=0 then 2 else 1))
    |.frz s=>(match τ,ps with
     |.st q,[(0,.agg cells)]=>(match zuq D q (D.fl q) cells 0 with
      |.ok _=>.ok (.bsl q [.agg cells])
      |.frz s'=>.frz s'
      |.bad=>.frz s)
     |_,_=>.frz s)
    |.bad=>.bad)
   else .bad
  |_,_=>.bad
 |_=>.bad
def ysd(ts:TS D.T):TV D.T->Option Nat
 |.own k=>(match fnd ts.o k with
  |some (.acc _ (.st q) _ _)=>if D.owns q=true then some k else none
  |_=>none)
 |_=>none
def yjy(ts:TS D.T):List (TV D.T)->Option Nat
 |[]=>none
 |v::l=>match ysd D ts v with
  |some k=>some k
  |none=>yjy ts l
def yba(ts:TS D.T)(r:FR (TV D.T)):FR (TV D.T):=match r with
 |.ok (.bsl q [.agg cells])=>(match yjy D ts cells with
  |some k=>.frz k
  |none=>.ok (.bsl q [.agg cells]))
 |r=>r
theorem ykz{ts:TS D.T}{r:FR (TV D.T)}{x:TV D.T}(h:yba D ts r = .ok x):r = .ok x:=by
 unfold yba at h;split at h;split at h;cases h;exact h;exact h
def tMk(t:Nat)(n c:Int):FR (TV D.T) :=
 match n,c with
 |.ofNat n,.ofNat c=>(match P.underlying t with
  |some (.slice e)=>(match P.info? e,y2z (T:=D.T) P e,D.ty e with
   |some i,some z,some τ=>(match z.kza&&Nat.beq z.cells.length i.size&&Nat.blt 0 i.size&&Nat.ble n c&&Nat.ble c 1000000&&Nat.ble i.bytes 100000&&Nat.beq (D.len τ) i.size with
    |true=>(match asD D τ z with
     |.ok x=>.ok (.sl τ (List.replicate n x) 0)
     |.frz s=>.frz s
     |.bad=>.bad)
    |false=>.bad)
   |_,_,_=>.bad)
  |_=>.bad)
 |_,_=>.bad
def tP1(ts:TS D.T)(op:Op):FR (TV D.T) :=
 match op with
 |.move x=>.of (ts.ev x)
 |.assign x=>.of (ts.ev x)
 |.load t a=>match ts.ev a with|some a=>.of (yls P D ts t a)|none=>.bad
 |.nilCheck x=>match ts.ev x with|some x=>.of (tNil x)|none=>.bad
 |.unOp o _ x=>match ts.ev x with|some x=>.of (tUn o x)|none=>.bad
 |.convert s d x=>match ts.ev x with|some x=>.of (y1u P s d x)|none=>.bad
 |.makeInterface t x=>match ts.ev x with|some x=>if P.concrete t then .ok (.iface t x)else .bad|none=>.bad
 |.makeFunc (.func f) first caps=>match ts.evs first.toList,ts.evs caps.toList with
  |some a,some b=>.ok (.fn f a b)
  |_,_=>.bad
 |.fieldAddr s x f=>match ts.ev x with|some x=>.of (zow P s f x)|none=>.bad
 |.field s x f=>match ts.ev x with|some x=>.of (yl2 P s f x)|none=>.bad
 |.typeAssert x _ u ok=>match ts.ev x with|some x=>.of (zmm P x u ok)|none=>.bad
 |.extract x i=>match ts.ev x with|some x=>.of (y0v i x)|none=>.bad
 |.build t ps=>match zoy ts ps.toList with|some ps=>.of (ykl P t ps)|none=>.bad
 |.buildSlice t len ps=>match zoy ts ps.toList with|some ps=>yba D ts (zbg P D t len ps)|none=>.bad
 |.makeSlice t n c=>match ts.ev n,ts.ev c with
  |some (.int _ n),some (.int _ c)=>tMk P D t n c
  |_,_=>.bad
 |.call c=>match c.callee with
  |.builtin .len=>match c.args.toList,c.argTypes.toList with
   |[x],[t]=>match ts.ev x with|some x=>.of (tLen P D ts t x)|none=>.bad
   |_,_=>.bad
  |.builtin .min=>match ts.evs c.args.toList with|some l=>.of (zx9 false l)|none=>.bad
  |.builtin .max=>match ts.evs c.args.toList with|some l=>.of (zx9 true l)|none=>.bad
  |_=>.bad
 |_=>.bad
def zqp{R:Type}:Nat->Int->(Nat->Option R)->Option R
 |0,_,_=>none
 |1,_,f=>f 0
 |m+2,n,f=>pIf (n==Int.ofNat (m+1)) (f (m+1)) (zqp (m+1) n f)
def inR(len:Nat)(n:Int):Option Unit:=if 0<=n∧n<(len:Int)then some ()else none
def strB(P:Program)(e:Nat):Bool:=match P.underlying e with
 |some .string=>true
 |some (.struct _)=>true
 |_=>false
def stB(P:Program)(e:Nat):Bool:=match P.underlying e with
 |some (.struct _)=>true
 |_=>false
def zxj{T:Nat->Type}{R:Type}(P:Program)(len e:Nat)(x:TV T)(k:TV T->Option R)(n:Nat):Option R :=
 if n<len∧(P.underlying e).isSome then (match x with
  |.ref cs off=>k (.ref cs (off+n * P.cellsOf e))
  |.ptr s off=>k (.ptr s (off+n * P.cellsOf e))
  |.ap s t i x off=>k (.ap s t i x (off+n * P.cellsOf e))
  |_=>none)else none
def zpt{R:Type}(ts:TS D.T)(t:Nat)(x i:TV D.T)(k:TV D.T->Option R):Option R :=
 match i with
 |.int _ n=>match P.underlying t with
  |some (.slice e)=>if (P.underlying e).isSome then (match x with
   |.sl τ xs _=>if D.len τ=P.cellsOf e then z3i (ix xs n) λy=>k (.ref (D.tv τ y).cells 0)else none
   |.own s=>match fnd ts.o s with
    |some (.acc _ τ xs _)=>if D.len τ=P.cellsOf e then z3i (ix xs n) λy=>k (.ap s τ n y 0)else none
    |some (.deep _ q xs _)=>if D.len (.st q)=P.cellsOf e then z3i (ix xs n) λ_=>k (.dp s n 0)else none
    |_=>none
   |_=>none)else none
  |some (.array len e)=>match strB P e with
   |true=>z3i (inR len n) λ_=>zqp len n (zxj P len e x k)
   |false=>(match n with
    |.ofNat n=>zxj P len e x k n
    |_=>none)
  |_=>none
 |_=>none
def chunks{T:Nat->Type}(c len:Nat)(cs:List (TV T)):List (TV T):=(List.range len).map λj=>.agg ((cs.drop (j * c)).take c)
def yky{R:Type}(t:Nat)(x i:TV D.T)(k:TV D.T->Option R):Option R :=
 match i with
 |.int _ n=>match x with
  |.str s=>match P.underlying t with
   |some .string=>z3i (ix s n) λb=>k (.int .u8 b.toNat)
   |_=>none
  |.agg cs=>match P.underlying t with
   |some (.array len e)=>match D.ty e with
    |some τ=>if cs.length=len∧P.cellsOf e=1∧(P.underlying e).isSome∧(P.underlying e).any (λd => !TypeDesc.isAgg d)then (match z60 D (List.replicate cs.length τ) cs with
     |.ok _=>match y5e D τ cs with
      |.ok xs=>z3i (ix xs n) λy=>k (D.leaf τ y)
      |_=>none
     |_=>none)else if cs.length=len * P.cellsOf e∧stB P e=true then (match y5e D τ (chunks (P.cellsOf e) len cs)with
      |.ok xs=>z3i (ix xs n) λy=>k (D.tv τ y)
      |_=>none)else none
    |none=>none
   |_=>none
  |_=>none
 |_=>none
def ydm(d:Int):Option (TV D.T)->Option Int
 |none=>some d
 |some (.int _ x)=>some x
 |_=>none
def yks{R:Type}(t:Nat)(x:TV D.T)(lo hi:Option (TV D.T))(k:TV D.T->Option R)(kf:Nat->Option R):Option R :=
 match x with
 |.str s=>match P.underlying t with
  |some .string=>match ydm D 0 lo,ydm D s.length hi with
   |some l,some h=>z3i (sub s l h) λy=>k (.str y)
   |_,_=>none
  |_=>none
 |.sl τ xs fl=>match P.underlying t with
  |some (.slice e)=>if D.len τ=P.cellsOf e∧(P.underlying e).isSome then (match ydm D 0 lo,ydm D xs.length hi with
    |some l,some h=>z3i (sub xs l h) λy=>k (.sl τ y (match hi with|none=>min fl 1|some _=>0))
    |_,_=>none)else none
  |_=>none
 |.own s=>kf s
 |_=>none
def oev(ts:TS D.T):Option Operand->Option (Option (TV D.T))
 |none=>some none
 |some x=>(ts.ev x).map some
def yh7{α:Type}(xs:List α)(a:Int):Option Unit:=if 0<=a∧a<=xs.length∧0<xs.length then some ()else none
def tCut{R:Type}(ts:TS D.T)(t:Nat)(x lo:TV D.T)(k:TV D.T->Option R)(kf:Option R):Option R :=
 match x,lo with
 |.own s,.int .i64 a=>match P.underlying t,fnd ts.o s with
  |some (.slice e),some (.acc _ τ xs true)=>if D.len τ=P.cellsOf e∧(P.underlying e).isSome then z3i (yh7 xs a) λ_=>k (.osl s a)else none
  |_,_=>none
 |_,_=>kf
def ybh{R:Type}(ts:TS D.T)(t:Nat)(x key:TV D.T)(ok:Bool)(k:TV D.T->Option R):Option R :=
 match P.underlying t,key with
 |some (.map kt e),.str s=>match P.underlying kt,y2z (T:=D.T) P e with
  |some .string,some z=>match x with
   |.map q=>match fnd ts.o q with
    |some (.mp _ τ es)=>match asD D τ z with
     |.ok z0=>(match ok with
      |true=>k (.tup [D.tv τ ((zfx es s).getD z0),.bool (zfx es s).isSome])
      |false=>k (D.tv τ ((zfx es s).getD z0)))
     |_=>none
    |_=>none
   |_=>none
  |_,_=>none
 |_,_=>none
def tP{R:Type}(ts:TS D.T)(op:Op)(k:TV D.T->Option R)(kf:Nat->Option R):Option R :=
 match op with
 |.pick c a b=>match ts.ev c,ts.ev a,ts.ev b with
  |some (.bool t),some x,some y=>pIf t (k x) (k y)
  |_,_,_=>none
 |.binOp o t x y _=>match ts.ev x,ts.ev y with
  |some x,some y=>tBin P o t x y k
  |_,_=>none
 |.indexAddr t x i=>match ts.ev x,ts.ev i with
  |some x,some i=>zpt P D ts t x i k
  |_,_=>none
 |.index t x i=>match ts.ev x,ts.ev i with
  |some x,some i=>yky P D t x i k
  |_,_=>none
 |.lookup t x i ok=>match ts.ev x,ts.ev i with
  |some x,some i=>ybh P D ts t x i ok k
  |_,_=>none
 |.slice t x lo hi mx=>match ts.ev x,oev D ts lo,oev D ts hi,mx with
  |some x,some lo,some hi,none=>yks P D t x lo hi k kf
  |_,_,_,_=>none
 |.load t a=>match ts.ev a with
  |some (.dp s i off)=>ykj P D ts t s i off k
  |_=>(match tP1 P D ts (.load t a)with
   |.ok v=>k v
   |.frz s=>kf s
   |.bad=>none)
 |op=>match tP1 P D ts op with
  |.ok v=>k v
  |.frz s=>kf s
  |.bad=>none
mutual
def TV.ren(s s':Nat):TV D.T->TV D.T
 |.own j=>if j=s then .own s' else .own j
 |.dp j i off=>if j=s then .dp s' i off else .dp j i off
 |.agg cs=>.agg (TV.zms s s' cs)
 |.tup cs=>.tup (TV.zms s s' cs)
 |.bsl i cs=>.bsl i (TV.zms s s' cs)
 |v=>v
def TV.zms(s s':Nat):List (TV D.T)->List (TV D.T)
 |[]=>[]
 |v::vs=>TV.ren s s' v::TV.zms s s' vs
end
mutual
def TV.frz(s:Nat)(m:Bool)(z:TV D.T):TV D.T->TV D.T
 |.own j=>match m with
  |true=>.own j
  |false=>if j=s then z else .own j
 |.map j=>match m with
  |true=>if j=s then z else .map j
  |false=>.map j
 |.agg cs=>.agg (TV.yhy s m z cs)
 |.tup cs=>.tup (TV.yhy s m z cs)
 |.bsl _ _=>.any
 |v=>v
def TV.yhy(s:Nat)(m:Bool)(z:TV D.T):List (TV D.T)->List (TV D.T)
 |[]=>[]
 |v::vs=>TV.frz s m z v::TV.yhy s m z vs
end
def TO.map(f:TV D.T->TV D.T):TO D.T->TO D.T
 |.cells cs=>.cells (cs.map f)
 |.bld ty (some s)=>match f (.own s)with
  |.own s'=>.bld ty (some s')
  |_=>.gone
 |.deep ty i xs (some (n,c,s))=>match f (.own s)with
  |.own s'=>.deep ty i xs (some (n,c,s'))
  |_=>.gone
 |o=>o
def gmap(f:TV D.T->TV D.T):Option Nat->Option Nat
 |none=>none
 |some s=>match f (.own s)with
  |.own s'=>some s'
  |_=>none
def TS.z7y(ts:TS D.T)(f:TV D.T->TV D.T):TS D.T :=
 {ts with t:=ts.t.map λp=>(p.1,f p.2),o:=ts.o.map λp=>(p.1,TO.map D f p.2),d:=ts.d.map λp=>(p.1,p.2.map f),g:=ts.g.map (gmap D f)}
def TS.freeze(ts:TS D.T)(s:Nat):Option (TS D.T) :=
 match ts.d,fnd ts.o s with
 |[],some (.acc _ t xs _)=>let ts':=ts.z7y D (TV.frz D s false (.sl t xs 0));some {ts' with o:=(s,.gone)::ts'.o}
 |[],some (.deep _ q xs none)=>let ts':=ts.z7y D (TV.frz D s false (.sl (.st q) xs 0));some {ts' with o:=(s,.gone)::ts'.o}
 |[],some (.mp _ t es)=>if t.flat then (let ts':=ts.z7y D (TV.frz D s true (.mc t es));some {ts' with o:=(s,.gone)::ts'.o})else none
 |_,_=>none
def TS.put(ts:TS D.T)(dst:Option Nat)(v:TV D.T):Option (TS D.T) :=
 match dst with
 |none=>some ts
 |some d=>if d<ts.nt then some {ts with t:=(d,v)::ts.t}else none
def TS.new(ts:TS D.T)(o:TO D.T):TS D.T:={ts with o:=(ts.nx,o)::ts.o,nx:=ts.nx+1}
def TS.set(ts:TS D.T)(s:Nat)(o:TO D.T):TS D.T:={ts with o:=(s,o)::ts.o}
def TS.zts(ts:TS D.T)(s:Nat)(o:TO D.T):TS D.T:=((ts.new D o).set D s .gone).z7y D (TV.ren D s ts.nx)
def ybd{R:Type}(ts:TS D.T)(ty q:Nat)(xs:List (D.T q))(h:Option (Int×Nat×Nat))(s:Nat)(i:Int)(off:Nat)(x:TV D.T)(k:TV D.T->TS D.T->Option R)(kf:Nat->Option R):Option R :=
 match x with
 |.own c=>(match D.ow q off,Nat.blt off (D.fl q).length with
  |some _,true=>(match h with
   |none=>z3i (ix xs i) λ_=>k .any (ts.zts D s (.deep ty q xs (some (i,off,c))))
   |some p=>(match Nat.beq p.2.1 off with
    |true=>z3i (y7u p.1 i) λ_=>z3i (ix xs i) λ_=>k .any (ts.zts D s (.deep ty q xs (some (i,off,c))))
    |false=>kf s))
  |_,_=>none)
 |.agg cells=>(match off with
  |0=>(match h with
   |none=>(match zuq D q (D.fl q) cells 0 with
    |.ok r=>z3i (ix xs i) λ_=>k .any (ts.zts D s (.deep ty q (xs.set i.toNat (D.make q r.1)) (r.2.map λp=>(i,p.1,p.2))))
    |.frz s'=>kf s'
    |.bad=>none)
   |some _=>kf s)
  |_=>none)
 |_=>none
def zyb{R:Type}(ts:TS D.T)(t:Nat)(a x:TV D.T)(k:TV D.T->TS D.T->Option R)(kf:Nat->Option R):Option R :=
 if x.kza&&(P.info? t).isSome&&x.cells.length==P.cellsOf t then
  match a with
  |.ptr s off=>match fnd ts.o s with
   |some (.cells cs)=>if off+x.cells.length<=cs.length then k .any (ts.set D s (.cells (zd8 cs off x.cells)))else none
   |_=>none
  |.ap s τ i y off=>match fnd ts.o s with
   |some (.acc ty τ' xs true)=>if τ=τ'∧τ ≠ .nat∧off+x.cells.length<=(D.tv τ y).cells.length then
     (match asD D τ' (match D.tv τ y with| .agg cs=>.agg (zd8 cs off x.cells)|_=>x)with
     |.ok z=>let ts':=(ts.z7y D (TV.ren D s ts.nx)).new D (.acc ty τ' (xs.set i.toNat z) true);k .any (ts'.set D s .gone)
     |.frz s=>kf s
     |.bad=>none)else none
   |_=>none
  |.dp s i off=>match fnd ts.o s with
   |some (.deep ty q xs h)=>if (List.range x.cells.length).all (λa=>(D.ow q (off+a)).isNone)=true∧off+x.cells.length<=(D.fl q).length then
     z3i (ix xs i) λy=>(match z60 D (D.fl q) (zd8 (D.leaves (D.fl q) (D.get q y)) off x.cells)with
      |.ok z=>k .any (((ts.new D (.deep ty q (xs.set i.toNat (D.make q z)) h)).set D s .gone).z7y D (TV.ren D s ts.nx))
      |.frz s'=>kf s'
      |.bad=>none)else ybd D ts ty q xs h s i off x k kf
   |_=>none
  |.bp s 1=>match fnd ts.o s,x with
   |some (.bld ty b),.own q=>k .any (ts.set D s (.bld ty (some q)))
   |_,_=>none
  |_=>none
 else none
def tSrc(ts:TS D.T)(τ:DTy):TV D.T->Option (List (τ.S D.T))
 |.nils=>some []
 |.sl t xs _=>z9d t τ xs
 |.own s=>match fnd ts.o s with
  |some (.acc _ t xs _)=>z9d t τ xs
  |_=>none
 |.str s=>match τ with
  |.int .u8=>some (yiu s)
  |_=>none
 |_=>none
def tDst(ts:TS D.T)(e:Nat)(τ:DTy):TV D.T->Option (List (τ.S D.T)×Bool×Option Nat)
 |.nils=>some ([],true,none)
 |.sl t xs 1=>if τ = .int .u8 then none else (z9d t τ xs).map λxs=>(xs,false,none)
 |.sl t xs 2=>if τ = .int .u8 then none else (z9d t τ xs).map λxs=>(xs,true,none)
 |.own s=>match fnd ts.o s with
  |some (.acc e' t xs w)=>if e'=e then (z9d t τ xs).map λxs=>(xs,w,some s)else none
  |_=>none
 |_=>none
def yb7{R:Type}(ts:TS D.T)(t u:Nat)(s x:TV D.T)(k:TV D.T->TS D.T->Option R):Option R :=
 match P.underlying t,P.underlying u with
 |some (.slice e),some du=>
  match P.info? e,D.ty e with
  |some i,some τ=>
   match i.zero with
   |some z=>if zkx du&&decide (0<i.size)&&decide (i.bytes<=524288)&&z.cells.size==i.size&&D.len τ==i.size then
     (match tSrc D ts τ x,tDst D ts e τ s with
     |some ys,some (xs,w,old)=>z3i (ext xs ys) λzs=>
      k (.own ts.nx) (match old with|none=>ts.new D (.acc e τ zs w)|some s=>(ts.new D (.acc e τ zs w)).set D s .gone)
     |_,_=>none)else none
   |none=>none
  |_,_=>none
 |_,_=>none
def y1n{R:Type}(ts:TS D.T)(t u:Nat)(s:TV D.T)(q:Nat)(cells:List (TV D.T))(k:TV D.T->TS D.T->Option R)(kf:Nat->Option R):Option R :=
 match P.underlying t,P.underlying u with
 |some (.slice e),some du=>
  match P.info? e with
  |some i=>
   match i.zero with
   |some z=>if zkx du&&decide (0<i.size)&&decide (i.bytes<=524288)&&z.cells.size==i.size&&D.len (.st q)==i.size then
     (match zuq D q (D.fl q) cells 0 with
     |.ok r=>(match s with
      |.nils=>z3i (ext [] [D.make q r.1]) λzs=>k (.own ts.nx) (ts.new D (.deep e q zs (r.2.map λp=>(0,p.1,p.2))))
      |.own s=>(match fnd ts.o s with
       |some (.deep e' q' xs h)=>if e'=e then (match h with
        |none=>(match z9d (.st q') (.st q) xs with
         |some xs=>z3i (ext xs [D.make q r.1]) λzs=>k (.own ts.nx) ((ts.new D (.deep e q zs (r.2.map λp=>((xs.length:Int),p.1,p.2)))).set D s .gone)
         |none=>none)
        |some _=>kf s)else none
       |_=>none)
      |_=>none)
     |.frz s'=>kf s'
     |.bad=>none)else none
   |none=>none
  |none=>none
 |_,_=>none
def yrt{R:Type}(ts:TS D.T)(t:Nat)(d s:TV D.T)(k:TV D.T->TS D.T->Option R):Option R :=
 match d,s with
 |.osl s a,.osl s' b=>if s=s' then (match P.underlying t,fnd ts.o s with
  |some (.slice e),some (.acc ty τ xs true)=>if D.len τ=P.cellsOf e∧(P.info? e).isSome then
    z3i (zp0 xs a b) λys=>k .any (((ts.z7y D (TV.ren D s ts.nx)).new D (.acc ty τ ys true)).set D s .gone)else none
  |_,_=>none)else none
 |_,_=>none
def y1a{R:Type}(ts:TS D.T)(t:Nat)(r:Option (TV D.T))(k:TV D.T->TS D.T->Option R):Option R :=
 match P.underlying t with
 |some (.map _ e)=>match D.ty e,r with
  |some τ,none=>k (.map ts.nx) (ts.new D (.mp t τ []))
  |some τ,some (.int _ _)=>k (.map ts.nx) (ts.new D (.mp t τ []))
  |_,_=>none
 |_=>none
def zxc{R:Type}(ts:TS D.T)(t:Nat)(m key x:TV D.T)(k:TV D.T->TS D.T->Option R):Option R :=
 match P.underlying t,m,key with
 |some (.map kt _),.map q,.str s=>match P.underlying kt,fnd ts.o q with
  |some .string,some (.mp ty τ es)=>match asD D τ x with
   |.ok y=>k .any (ts.set D q (.mp ty τ (zx4 es s y)))
   |_=>none
  |_,_=>none
 |_,_,_=>none
def yrx{R:Type}(ts:TS D.T)(x:TV D.T)(str:Bool)(k:TV D.T->TS D.T->Option R):Option R :=
 match x,str with
 |.ptr s 0,true=>match fnd ts.o s with
  |some (.siter l pos)=>pIf (decide (pos<l.length)) (k (.tup [.bool true,.int .i64 pos,.int .i32 (zef l pos).1]) (ts.set D s (.siter l (pos+(zef l pos).2)))) (k (.tup [.bool false]) ts)
  |_=>none
 |_,_=>none
def tOp{R:Type}(ts:TS D.T)(op:Op)(k:TV D.T->TS D.T->Option R)(kf:Nat->Option R):Option R :=
 match op with
 |.alloc t=>match y2z (T:=D.T) P t with
  |some z=>if z.kza then k (.ptr ts.nx 0) (ts.new D (.cells z.cells))else none
  |none=>none
 |.box _ x=>match ts.ev x with
  |some v=>if v.kza then k (.ptr ts.nx 0) (ts.new D (.cells v.cells))else none
  |none=>none
 |.store t a x=>match ts.ev a,ts.ev x with
  |some a,some x=>zyb P D ts t a x k kf
  |_,_=>none
 |.makeMap t r=>match oev D ts r with
  |some r=>y1a P D ts t r k
  |none=>none
 |.mapUpdate t m i x=>match ts.ev m,ts.ev i,ts.ev x with
  |some m,some i,some x=>zxc P D ts t m i x k
  |_,_,_=>none
 |.insert t m i x=>match ts.ev m,ts.ev i,ts.ev x with
  |some m,some i,some x=>zxc P D ts t m i x k
  |_,_,_=>none
 |.range t x=>match ts.ev x with
  |some (.str s)=>match P.underlying t with
   |some .string=>k (.ptr ts.nx 0) (ts.new D (.siter s 0))
   |_=>none
  |_=>none
 |.next i b=>match ts.ev i with
  |some i=>yrx D ts i b k
  |none=>none
 |op=>match op with
  |.call c=>match c.callee,c.args.toList,c.argTypes.toList with
   |.builtin .append,[s,x],[t,u]=>match ts.ev s,ts.ev x with
    |some s,some (.bsl q [.agg cells])=>y1n P D ts t u s q cells k kf
    |some s,some x=>yb7 P D ts t u s x k
    |_,_=>none
   |.builtin .copy,[d,s],[t,u]=>match ts.ev d,ts.ev s with
    |some d,some s=>yrt P D ts t d s k
    |_,_=>none
   |_,_,_=>tP P D ts op (λv=>k v ts) kf
  |op=>tP P D ts op (λv=>k v ts) kf
end
inductive Sh where
 |any
 |d (t:DTy)
 |own (k:Nat)
 |ptr (k off:Nat)
 |bp (k:Nat)
 |map (k:Nat)
 |mc (t:DTy)
 |nilp
 |nilf
 |nili
 |nils
 |fn (f:Nat) (a b:List Sh)
 |iface (t:Nat) (s:Sh)
 |agg (cs:List Sh)
 |tup (cs:List Sh)
 |ref (cs:List Sh) (off:Nat)
 |dp (k off:Nat)
 |ap (k:Nat) (t:DTy) (off:Nat)
inductive OSh where
 |cells (cs:List Sh)
 |st (i:Nat)
 |acc (ty:Nat) (t:DTy) (w:Bool)
 |siter
 |rig
 |mp (ty:Nat) (t:DTy)
 |mit (t:DTy)
 |bld (ty k:Nat)
 |deep (ty i:Nat)
 |deeph (ty i f k:Nat)
mutual
def Sh.tys:Sh->List DTy
 |.d t=>[t]
 |.mc t=>[.sl .str,.sl t]
 |.fn _ a b=>Sh.z0r a++Sh.z0r b
 |.iface _ s=>s.tys
 |.agg cs=>Sh.z0r cs
 |.tup cs=>Sh.z0r cs
 |.ref cs _=>Sh.z0r cs
 |.dp _ _=>[.int .i64]
 |.ap _ t _=>[.int .i64,t]
 |_=>[]
def Sh.z0r:List Sh->List DTy
 |[]=>[]
 |s::l=>s.tys++Sh.z0r l
end
end Go.Ab
namespace Go.Ab
open Go
set_option linter.unusedVariables false
set_option linter.unusedSimpArgs false
section
variable {α β : Type} {r : α}
theorem Ev.zqn{f g}(h:∀n,f (n+1)=g n):Ev f r↔Ev g r :=
 ⟨λ⟨n,hn⟩=>⟨n,λm hm=>by grind⟩,Ev.succ h⟩
theorem evS(f)(r){g:Nat->Option α}(h:∀n,f (n+1)=g n):Ev f r↔Ev g r:=Ev.zqn h
theorem Ev.kz0{a}{k:Nat->β->Option α}{y}(ha:Ev a y):Ev (λn=>(a n).bind (k n)) r↔Ev (λn=>k n y) r :=
 ⟨λh=>by
  obtain⟨n,hn⟩:=h;obtain⟨q,hq⟩:=ha;refine⟨max n q,λm hm =>?_⟩
  grind,Ev.bind ha⟩
theorem Ev.zz3{o}{k:Nat->β->Option α}{y}(ho:o=some y):Ev (λn=>o.bind (k n)) r↔Ev (λn=>k n y) r:=by grind
theorem Ev.zz2{a b:Nat->Option α}{c}(hc:c=true):Ev (λn=>pIf c (a n) (b n)) r↔Ev a r:=by subst hc;exact Iff.rfl
theorem Ev.kz1{a b:Nat->Option α}{c}(hc:c=false):Ev (λn=>pIf c (a n) (b n)) r↔Ev b r:=by subst hc;exact Iff.rfl
theorem Ev.pif{a b c}:Ev (λn=>pIf c (a n) (b n)) r↔if c=true then Ev a r else Ev b r:=by cases c <;> exact Iff.rfl
theorem Ev.yz0{x}:Ev (λ_=>some x) r↔x=r:=⟨λ⟨n,h⟩=>by have:=h n (Qbn _);injection this,λh=>⟨0,λ_ _=>by rw[h]⟩⟩
theorem Ev.z4k{X R y}{f:Nat->R->Option α}{g:Nat->X->Option α}:Ev (λn=>z8n (.ok y) (f n) (g n)) r↔Ev (λn=>f n y) r:=Iff.rfl
theorem Ev.z0k{X R y}{f:Nat->R->Option α}{g:Nat->X->Option α}:Ev (λn=>z8n (.pan y) (f n) (g n)) r↔Ev (λn=>g n y) r:=Iff.rfl
end
theorem wI{x}(h : -9223372036854775808<=x∧x<=9223372036854775807):IntKind.i64.wrap x=x:=IntWalk.i64_in _ h
theorem wU{x}(h:0<=x∧x<=18446744073709551615):IntKind.u64.wrap x=x:=IntWalk.u64_in _ h
theorem wUn{x}(h : -18446744073709551616<=x∧x<0):IntKind.u64.wrap x=x+18446744073709551616:=by
 unfold IntKind.wrap;simp[IntKind.bits,IntKind.signed,if_false];omega
theorem zxh{a b:Nat}:mxI (a:Int) (b:Int)=((max a b:Nat):Int):=by unfold mxI;split <;> omega
def HL.upd{T}:(l:List DTy)->HL T l->Nat->(t:DTy)->t.S T->Option (HL T l)
 |[],_,_,_,_=>none
 |t::_,x,0,t',y=>(zqr t' t y).map λy=>(y,x.2)
 |_::l,x,j+1,t',y=>(HL.upd l x.2 j t' y).map λz=>(x.1,z)
def HL.at{T}:(l:List DTy)->HL T l->Nat->Option ((t:DTy)×t.S T)
 |[],_,_=>none
 |t::_,x,0=>some ⟨t,x.1⟩
 |_::l,x,j+1=>HL.at l x.2 j
section
variable {D : Dat}
def ybf{T}:List (TO T)->Nat->List (Nat×TO T)
 |[],_=>[]
 |o::r,n=>(n,o)::ybf r (n+1)
def zr2{T}(l:List Nat):List (Nat×TO T):=l.map λs=>(s,.gone)
def TS.zj8(ts:TS D.T)(olds:List Nat)(tos:List (TO D.T)):TS D.T :=
 {ts with o:=ybf tos ts.nx++(zr2 olds++ts.o),nx:=ts.nx+tos.length}
variable (D)
def Dat.zg8:DTy->Bool
 |.st q => !D.owns q
 |_=>true
def TS.fold{R}(ts:TS D.T)(s:Nat)(k:TS D.T->Option R):Option R :=
 match fnd ts.o s with
 |some (.deep ty q xs (some (n,f,c)))=>(match D.ow q f with
  |some ty'=>(match fnd ts.o c with
   |some (.deep ty2 q' ys none)=>if ty'=ty2∧c≠s then z3i (ix xs n) λy=>(match HL.upd (D.fl q) (D.get q y) f (.sl (.st q')) ys with
     |some z=>k ((ts.zj8 [s,c] [.deep ty q (xs.set n.toNat (D.make q z)) none]).z7y D (TV.ren D s ts.nx))
     |none=>none)else none
   |some (.acc ty2 t' ys true)=>if ty'=ty2∧c≠s∧D.zg8 t'=true then z3i (ix xs n) λy=>(match HL.upd (D.fl q) (D.get q y) f (.sl t') ys with
     |some z=>k ((ts.zj8 [s,c] [.deep ty q (xs.set n.toNat (D.make q z)) none]).z7y D (TV.ren D s ts.nx))
     |none=>none)else none
   |_=>none)
  |none=>none)
 |_=>none
def TS.opn{R}(ts:TS D.T)(s:Nat)(n:Int)(f:Nat)(k:TV D.T->TS D.T->Option R):Option R :=
 match fnd ts.o s with
 |some (.deep ty q xs none)=>(match D.ow q f with
  |some ty'=>z3i (ix xs n) λy=>(match HL.at (D.fl q) (D.get q y) f with
   |some ⟨.sl (.st q'),ys⟩=>(match D.owns q' with
    |true=>k (.own (ts.nx+1)) ((ts.zj8 [s] [.deep ty q xs (some (n,f,ts.nx+1)),.deep ty' q' ys none]).z7y D (TV.ren D s ts.nx))
    |false=>k (.own (ts.nx+1)) ((ts.zj8 [s] [.deep ty q xs (some (n,f,ts.nx+1)),.acc ty' (.st q') ys true]).z7y D (TV.ren D s ts.nx)))
   |some ⟨.sl t',ys⟩=>(match D.zg8 t' && !decide (t' = .int .u8)with
    |true=>k (.own (ts.nx+1)) ((ts.zj8 [s] [.deep ty q xs (some (n,f,ts.nx+1)),.acc ty' t' ys true]).z7y D (TV.ren D s ts.nx))
    |false=>none)
   |_=>none)
  |none=>none)
 |_=>none
def TV.pl{T}:TV T->Bool
 |.bool _| .int _ _| .str _| .nilp| .nils| .mapn| .nilf| .nili| .sl _ _ _=>true
 |_=>false
mutual
def TV.see(ts:TS D.T):TV D.T->TV D.T
 |.own s=>(match fnd ts.o s with
  |some (.acc _ t xs _)=>.sl t xs 0
  |some (.deep _ q xs none)=>.sl (.st q) xs 0
  |_=>.any)
 |.agg cs=>.agg (TV.yjf ts cs)
 |.fn f a b=>(match a.all TV.pl&&b.all TV.pl with
  |true=>.fn f a b
  |false=>.any)
 |.bool b=>.bool b
 |.int k n=>.int k n
 |.str s=>.str s
 |.nilp=>.nilp
 |.nils=>.nils
 |.mapn=>.mapn
 |.nilf=>.nilf
 |.nili=>.nili
 |.sl t xs fl=>.sl t xs 0
 |_=>.any
def TV.yjf(ts:TS D.T):List (TV D.T)->List (TV D.T)
 |[]=>[]
 |v::vs=>TV.see ts v::TV.yjf ts vs
end
mutual
def TV.yry{T:Nat->Type}:TV T->List Nat
 |.own s=>[s]
 |.agg cs=>TV.y1r cs
 |_=>[]
def TV.y1r{T:Nat->Type}:List (TV T)->List Nat
 |[]=>[]
 |v::vs=>TV.yry v++TV.y1r vs
end
def isHole{T}(ts:TS T)(s:Nat):Bool:=match fnd ts.o s with
 |some (.deep _ _ _ (some _))=>true
 |_=>false
def yq4{T}(ts:TS T)(s:Nat):Bool:=match fnd ts.o s with
 |some (.deep _ _ _ _)=>true
 |_=>false
def zxd{T}:Nat->TS T->Nat->Nat
 |0,_,s=>s
 |f+1,ts,s=>match fnd ts.o s with
  |some (.deep _ _ _ (some p))=>(match isHole ts p.2.2 with
   |true=>zxd f ts p.2.2
   |false=>s)
  |_=>s
def ykt{R}(P:Program)(ts:TS D.T)(t:Nat)(s:Nat)(i:Int)(off:Nat)(k:TV D.T->TS D.T->Option R)(kf:Nat->Option R):Option R :=
 match fnd ts.o s with
 |some (.deep _ q _ h)=>(match yp1 D q off (szT P t)with
  |[]=>zm6 P D ts t s i off none λv=>k v ts
  |f::_=>(match h with
   |none=>ts.opn D s i f λv ts'=>zm6 P D ts t s i off (some (f,v)) λw=>k w ts'
   |some p=>(match Nat.beq p.2.1 f with
    |true=>z3i (y7u p.1 i) λ_=>zm6 P D ts t s i off (some (f,.own p.2.2)) λw=>k w ts
    |false=>kf s)))
 |_=>none
end
end Go.Ab
namespace Go.Ab
open Go
open Go.RowKit
set_option linter.unusedVariables false
set_option linter.unusedSimpArgs false
def lnA:B8->B8
 |[]=>[]
 |c::r=>match c==10 with
  |true=>[c]
  |false=>c::lnA r
def lnB:B8->B8
 |[]=>[]
 |c::r=>match c==10 with
  |true=>r
  |false=>lnB r
def noS:B8->Bool
 |[]=>true
 |_::_=>false
theorem ypb{s}:noS s=true↔s=[]:=by cases s <;> simp[noS]
theorem yq5:∀s:B8,(lnB s).length<=s.length
 |[]=>Qbn _
 |c::r=>by
  have:=yq5 r
  grind[lnB]
theorem ytd{s}(h:s≠[]):(lnB s).length<s.length:=by
 cases s with
 |nil=>exact(h rfl).elim
 |cons c r=>
  grind[yq5,lnB]
section
def Obj.aside:Obj->Bool
 |.loop _=>true
 |.deferred _=>true
 |_=>false
variable {W W' : World} {g g' : Gh} {H H' : kz3} {l : Nat} {rc : Loop} {z : Obj}
theorem zf1{b:Nat}{o o'}(hl:W.heap[l]? = some (.loop rc))(h:W.heap[b]? = some o)(ho:∀r,o ≠ .loop r):(W.putObj l o').heap[b]? = some o:=by
 grind[World.putObj_heap_other]
theorem z9h{b:Nat}{o o'}(hl:W.heap[l]? = some z)(hz:Obj.aside z=true)(h:W.heap[b]? = some o)(ho:Obj.aside o=false):(W.putObj l o').heap[b]? = some o:=by
 grind[World.putObj_heap_other]
theorem yet{a v o'}(hl:W.heap[l]? = some z)(hz:Obj.aside z=true)(h:W.cell? a=some v):(W.putObj l o').cell? a=some v:=by
 rw[<-h];unfold World.cell? at h ⊢;have:a.block≠l:=λe=>by rw[e,hl]at h;cases z <;> first|(cases hz;done)|(simp at h;done)
 rw[World.putObj_heap_other this]
theorem Rel.put{v c}(h:Rel W g H v c)(hl:W.heap[l]? = some z)(hz:Obj.aside z=true)(o'):Rel (W.putObj l o') g H v c:=by
 induction h with
 |any c=>exact .any c
 |bool b=>exact .bool b
 |int k n=>exact .int k n
 |str s=>exact .str s
 |nilp=>exact .nilp
 |ptr l i off hd=>exact .ptr l i off hd
 |ref cs off b o c hb hc h1 hr ih=>exact .ref cs off b o c hb (λj v hj=>yet hl hz (hc j v hj)) h1 ih
 |ap l i ver idx off a hd hv ha=>exact .ap l i ver idx off a hd hv ha
 |nils=>exact .nils
 |slnil sz full=>exact .slnil sz full
 |sle sz full a cap hf=>exact .sle sz full a cap hf
 |sl sz xs full b o cap c hb hz' hcap hf hs hc h1 hr ih=>exact .sl sz xs full b o cap c hb hz' hcap hf hs (λj x t v hj ht=>yet hl hz (hc j x t v hj ht)) h1 ih
 |hs l i ver off n full a m cap hd hv ha=>exact .hs l i ver off n full a m cap hd hv ha
 |mapn=>exact .mapn
 |map l i hd=>exact .map l i hd
 |mapc es b en clock hb hw he=>exact .mapc es b en clock hb (z9h hl hz hw rfl) he
 |fn f fs cs fs' cs' h1 h2 r1 r2 i1 i2=>exact .fn f fs cs fs' cs' h1 h2 i1 i2
 |nilf=>exact .nilf
 |iface t v c h ih=>exact .iface t v c ih
 |nili=>exact .nili
 |agg vs cs hn h1 hr ih=>exact .agg vs cs hn h1 ih
 |tup vs cs hn hr ih=>exact .tup vs cs hn ih
theorem zah.put{i j o}(h:zah W g H i j o)(hl:W.heap[l]? = some z)(hz:Obj.aside z=true)(o'):zah (W.putObj l o') g H i j o:=by
 cases o with
 |cells cs=>
  obtain⟨c,ty,h1,h2,h3,h4⟩:=h
  exact⟨c,ty,z9h hl hz h1 rfl,h2,h3,λj v hj=>(h4 j v hj).put hl hz o'⟩
 |arr ver ty sz xs cp=>
  obtain⟨c,h1,h2,h3,h4,h5,h6,h7,h8,h9⟩:=h
  exact⟨c,z9h hl hz h1 rfl,h2,h3,h4,h5,h6,h7,h8,λj x t v hj ht=>(h9 j x t v hj ht).put hl hz o'⟩
 |map es=>
  obtain⟨en,clock,h1,h2,h3,h4,h5⟩:=h
  exact⟨en,clock,z9h hl hz h1 rfl,h2,h3,h4,λj p hj=>let ⟨e,a,b,c⟩:=h5 j p hj;⟨e,a,b.put hl hz o',c.put hl hz o'⟩⟩
 |siter s pos=>exact z9h hl hz h rfl
 |mit es vis=>
  obtain⟨en,clock,mb,h1,h2,h3,h4⟩:=h;exact⟨en,clock,mb,z9h hl hz h1 rfl,h2,z9h hl hz h3 rfl,h4⟩
theorem Good.put(h:Good W g H)(hl:W.heap[l]? = some z)(hz:Obj.aside z=true)(o'):Good (W.putObj l o') g H :=
 ⟨h.dom,λl i o ho=>by rw[World.putObj_size];exact h.lt l i o ho,h.inj,h.fresh,λl i o ho=>(h.obj l i o ho).put hl hz o',
  ⟨λk cs hk=>let ⟨a,ty,q,b⟩:=h.glob.1 k cs hk;⟨a,ty,q,z9h hl hz b rfl⟩,λk hk=>let ⟨a,v,ty,q,b,c⟩:=h.glob.2 k hk;⟨a,v,ty,q,z9h hl hz b rfl,c⟩⟩,by rw[World.putObj_size];exact h.base⟩
theorem yz7.yhk{a σ}(h:yz7 W a g σ)(hl:W.heap[l]? = some (.loop rc))(o'):yz7 (W.putObj l o') a g σ :=
 ⟨h.good.put hl rfl o',h.size,λj v hj=>(h.tmps j v hj).put hl rfl o',h.dlen,λj f vs hj=>by
  rcases h.defs j f vs hj with ⟨h0,caps,as,h1,h2⟩|⟨h0,D,h1,h2,h3⟩
  exact .inl ⟨h0,caps,as,h1,h2.1,λj v hj=>(h2.2 j v hj).put hl rfl o'⟩
  exact .inr ⟨h0,D,h1,zf1 hl h2 (λr=>by simp),h3⟩⟩
theorem Step.ymy(h:Step W g H W' g' H')(hl:W.heap.size<=l)(o):Step W g H (W'.putObj l o) g' H' :=
 ⟨h.os,h.tape,h.output,by rw[World.putObj_size];exact h.size,λb hb hn=>(World.putObj_heap_other (by omega)).trans (h.block b hb hn),h.own,h.dom,h.new,h.blk,h.arr,h.lv,h.base⟩
theorem Step.put2(h:Step W g H W' g' H')(hl:l<W.heap.size)(o):Step (W.putObj l o) g H (W'.putObj l o) g' H' :=
 ⟨h.os,h.tape,h.output,by rw[World.putObj_size,World.putObj_size];exact h.size,λb hb hn=>by
  rw[World.putObj_size]at hb;by_cases e:b=l;subst e;rw[World.putObj_heap_same hl,World.putObj_heap_same (Qbe hl h.size)]
  rw[World.putObj_heap_other e,World.putObj_heap_other e];exact h.block b hb hn,λb hb=>by rw[World.putObj_size];exact h.own b hb,h.dom,h.new,h.blk,h.arr,h.lv,h.base⟩
end
theorem zsd{W g H}(hG:Good W g H){b x}(h:W.heap[b]? = some (.loop x)):¬Own g H b:=λ⟨l,i,o,ho,hb⟩=>by
 have hr:=hG.obj l i o ho
 cases o with
 |cells cs=>obtain⟨c,ty,k,_⟩:=hr;rw[show g.blk l i=b from hb,h]at k;cases k
 |arr ver ty sz xs cp=>obtain⟨c,k,_⟩:=hr;rw[show g.ab l i=b from hb,h]at k;cases k
 |map es=>obtain⟨en,clock,k,_⟩:=hr;rw[show g.blk l i=b from hb,h]at k;cases k
 |siter s pos=>have k:W.heap[g.blk l i]? = _:=hr;rw[show g.blk l i=b from hb,h]at k;cases k
 |mit es vis=>obtain⟨en,clock,mb,k,_⟩:=hr;rw[show g.blk l i=b from hb,h]at k;cases k
section
variable {P : Program}
def zlh(P:Program)(lf:Nat):Prop :=
 (∀args w,(callFunc lf args).run P w = .ok (.enter lf args) w) ∧
 ∀(n l Bs) (K:B8->World->Prop) (Kx:World->Prop) (s) (W),
  (∀r W,K r W->W.cell? ⟨Bs,0,none⟩=some (.string ⟨r.toArray⟩)∧W.frozen? ⟨Bs,0,none⟩=false) ->
  (∀r W W',K r W->Grow W W'->K r W') ->
  (∀r W,r≠[]->K r W->YieldAt Fence.wide (n-1) P l #[.string ⟨(lnA r).toArray⟩] (W.setCell ⟨Bs,0,none⟩ (.string ⟨(lnB r).toArray⟩)) λe W'=>
   (e = .returned (.bool true)∧K (lnB r) W')∨(e = .returned (.bool false)∧Kx W')) ->
  s.length<=4611686018427387904->K s W->CallsIn Fence.wide n P lf #[.func (.yield l) #[] #[],.pointer (some ⟨Bs,0,none⟩)] W λe W'=>(∃v,e = .returned v)∧(K [] W'∨Kx W')
def St.marked(σ:St):St:={σ with d:=(y1v,[])::σ.d}
def St.begin(τ:St)(p i:Nat)(r:B8):St:={τ with t:=τ.t.set p (.str (lnA r)),H:=τ.H.set τ.H.lv i (.cells [.str (lnB r)]),d:=[]}
def RQ(τ τs:St)(φ:yza->St->Prop)(e:yza)(σ':St):Prop :=
 (∀v,e ≠ .panic v)∧∀Wb gb W g a a3,Good Wb gb τs.H->(σ'.e0=τs.H.E∧Step Wb gb τs.H W g σ'.H)->yz7 Wb a gb {τ with H:=τs.H}->yz7 W a3 g σ' ->
  ∃σ'' g'',yz7 W a g'' σ''∧(σ''.e0=τs.H.E∧Step Wb gb τs.H W g'' σ''.H)∧φ e σ''
def zqo(P:Program)(lf:Nat)(go:Operand)(p:Nat)(assign body:Code)(Q:yza->St->Prop):Nat->St->Prop
 |k,σ=>∃τ i r,zj1 σ τ∧τ.e0=τ.H.E∧τ.ev go = .fn lf [] [.ptr τ.H.lv i 0]∧τ.H.get τ.H.lv i=some (.cells [.str r])∧r.length<=4611686018427387904∧(r=[]->Q .normal τ.marked) ∧
  (r≠[]->r.length<=k->match k with
   |0=>False
   |k+1=>Sat P assign (τ.begin p i r) (yza.then (λσ1=>Sat P body σ1 (RQ τ (τ.begin p i r) λe σ''=>match e with
    |.normal=>σ''.H.get τ.H.lv i=some (.cells [.str (lnB r)])∧zqo P lf go p assign body Q k σ''
    |e=>Q e σ''.marked)) λ_ _=>False))
theorem yz7.grow{W W' a g σ}(h:yz7 W a g σ)(k:Grow W W'):yz7 W' a g σ :=
 ⟨h.good.grow k,h.size,λj v hj=>(h.tmps j v hj).mono k.step,h.dlen,λj f vs hj=>(h.defs j f vs hj).mono h.good k.step⟩
theorem yz7.later{W W' a g g' σ H'}(h:yz7 W a g σ)(s:Step W g σ.H W' g' H')(hG:Good W' g' H'):yz7 W' a g' {σ with H:=H'} :=
 ⟨hG,h.size,λj v hj=>(h.tmps j v hj).mono s,h.dlen,λj f vs hj=>(h.defs j f vs hj).mono h.good s⟩
theorem yz7.mark{W a g σ}(h:yz7 W a g σ){D}(hD:W.heap[D]? = some (.deferred (some [])))(hb:g.base<=D):yz7 W {a with defers:={target:=.collected D,args := #[]}::a.defers} g σ.marked :=
 ⟨h.good,h.size,h.tmps,by simp[St.marked,h.dlen],λj f vs hj=>by
  cases j with
  |zero=>obtain⟨rfl,rfl⟩:=hj;exact .inr ⟨rfl,D,rfl,hD,hb⟩
  |succ j=>exact h.defs j f vs (by simpa[St.marked]using hj)⟩
theorem yr3{W g H}(hG:Good W g H){l i r x}(h:H.get l i=some (.cells [.str r])) :
  Step W g H (W.setCell ⟨g.blk l i,0,none⟩ (.string ⟨x.toArray⟩)) g (H.set l i (.cells [.str x]))∧Good (W.setCell ⟨g.blk l i,0,none⟩ (.string ⟨x.toArray⟩)) g (H.set l i (.cells [.str x])):=by
 obtain⟨c,ty,h1,h2,h3,h4⟩:=hG.obj _ _ _ h;refine zdm (o':=.cells [.str x]) hG h rfl rfl rfl rfl ?_ (λb hb hne =>?_) (λver ty sz xs cp e=>by cases e) λ_ =>?_
 simp_all
 show(W.heap.modify _ _)[b]? = _;rw[Array.getElem?_modify,Qbp (λe=>hne e.symm)]
 ·refine⟨c.setIfInBounds 0 (.string ⟨x.toArray⟩),ty,?_,by simpa using h2,λj v hj =>?_,λj v hj =>?_⟩;show(W.heap.modify _ _)[g.blk l i]? = _
  grind
  all_goals
   cases j with
   |succ j=>simp at hj
   |zero=>
    simp at hj;subst hj;have hsz:0<c.size:=by rw[h2];simp
    simp[hsz,Option.getD_some]
    first|rfl|exact .str _
theorem zrj{W g H}(hG:Good W g H){l i r}(h:H.get l i=some (.cells [.str r])):W.cell? ⟨g.blk l i,0,none⟩=some (.string ⟨r.toArray⟩)∧W.frozen? ⟨g.blk l i,0,none⟩=false:=by
 obtain⟨c,ty,h1,h2,h3,h4⟩:=hG.obj _ _ _ h;have hsz:0<c.size:=by rw[h2];simp
 have h5:=h4 0 _ rfl;refine⟨?_,?_⟩;unfold World.cell?;simp[h1,if_false];rw[Qae,Qar hsz,Option.getD_some]at h5;rw[Qar hsz];generalize c[0]=z at h5;cases h5;rfl
 grind[World.frozen?]
theorem str_inj{r s:B8}(h:Value.string ⟨r.toArray⟩ = .string ⟨s.toArray⟩):r=s:=by
 grind
theorem ys7{lf go p assign body σ Q}(hL:zlh P lf)(hc:(calm assign&&calm body)=true)
  (h:∀k,zqo P lf go p assign body Q k σ):Sat P (.rangeFunc go #[p] assign body) σ Q:=λW0 g0 H0 W a g hB hS hG=>by
 intro rr hr n;have hr:=hr.resolve_right (by simp[calm]);subst hr;simp[Qag]at hc
 have read:∀{k σ W g},zqo P lf go p assign body Q k σ->(σ.e0=H0.E∧Step W0 g0 H0 W g σ.H)->yz7 W a g σ->∃(g1:Gh) (Bs:Nat) (r:B8),a.eval go = .func (.func lf) #[] #[.pointer (some ⟨Bs,0,none⟩)]∧W.cell? ⟨Bs,0,none⟩=some (.string ⟨r.toArray⟩)∧W.frozen? ⟨Bs,0,none⟩=false∧r.length<=4611686018427387904:=λ{k σ W g} hk hS hG=>by
  unfold zqo at hk;obtain⟨τ,i,r,hw,_,hev,hget,hcap,_⟩:=hk;obtain⟨g1,hS1,hG1⟩:=hw W0 g0 H0 W a g hB hS hG;have he:=hG1.ev go;rw[hev]at he;generalize a.eval go=cg at he
  cases he with
  |fn f fs cs fs' cs' n1 n2 r1 r2=>
   have e1:=r2 0 _ rfl;have hf:=Array.eq_empty_of_size_eq_zero n1
   have hcs:cs' = #[cs'.getD 0 undef]:=by
    obtain⟨l⟩:=cs'
    match l,n2 with
    |[x],_=>rfl
   generalize cs'.getD 0 undef=z at e1 hcs;cases e1;obtain⟨b1,b2⟩:=zrj hG1.good hget;exact⟨g1,_,r,by rw[hf,hcs],b1,b2,hcap⟩
 obtain⟨_,Bs,s0,hev0,hc0,hf0,hcap0⟩:=read (h 0) hS hG;refine wpIn_rangeFunc λfn hfn =>?_
 let rec':LoopState->Option Code->Loop:=λst pe=>{state:=st,pending:=pe,fn,tmps:=a.tmps,params := #[p],assign,body,defers:=W.heap.size}
 obtain⟨W1,hW1⟩:∃W1,(W.alloc (.deferred (some []))).alloc (.loop (rec' .ready none))=W1:=⟨_,rfl⟩
 have hL1:W1.heap[W.heap.size+1]? = some (.loop (rec' .ready none)):=by
  grind[World.alloc_heap_new,World.size_alloc]
 have hK1:W1.heap[W.heap.size]? = some (.deferred (some [])):=by
  grind[Below.heap_alloc,World.alloc_heap_new]
 have hgr:Grow W W1:=by rw[<-hW1];exact(Grow.alloc _ _).trans (Grow.alloc _ _)
 refine⟨W.heap.size+1,[{target:=.collected W.heap.size,args := #[]}],W1,{target:=.fn (.func lf) #[.pointer (some ⟨Bs,0,none⟩)],args := #[.func (.yield (W.heap.size+1)) #[] #[]]},W1,lf,
  #[.func (.yield (W.heap.size+1)) #[] #[]] ++ #[.pointer (some ⟨Bs,0,none⟩)],W1,?_,?_,?_,?_,λh=>(by cases h),?_⟩
 grind[run_enterLoop_outer]
 ·simp[resolve,hev0];simp[go_sem]
 intro f' hf';trivial
 ·simp[invoke,go_sem,hL.1]
 have hlsz:=hS.2.size;have hbase:g0.base<=W.heap.size:=by rw[<-hS.2.base];exact hG.good.base
 let K:=λ(r:B8) W'=>∃k σ' g',r.length<=k∧zqo P lf go p assign body Q k σ'∧(σ'.e0=H0.E∧Step W0 g0 H0 W' g' σ'.H)∧yz7 W' a g' σ' ∧
  W'.heap[W.heap.size+1]? = some (.loop (rec' .ready none))∧W'.heap[W.heap.size]? = some (.deferred (some []))∧W'.cell? ⟨Bs,0,none⟩=some (.string ⟨r.toArray⟩)∧W'.frozen? ⟨Bs,0,none⟩=false
 let Kx:=λW'=>∃c e σ' g',(c = .ret∧e = .ret∨∃id,c = .exit id∧e = .exit id)∧Q e σ'.marked∧(σ'.e0=H0.E∧Step W0 g0 H0 W' g' σ'.H)∧yz7 W' a g' σ' ∧
  W'.heap[W.heap.size+1]? = some (.loop (rec' .done (some c)))∧W'.heap[W.heap.size]? = some (.deferred (some []))
 have hcon:=hL.2 (n-1) (W.heap.size+1) Bs K Kx s0 W1 (λr W' hk =>?cell) (λr W' W'' hk hg =>?grow) (λr W' hne hk =>?round) hcap0 ?start
 case cell=>grind
 case grow=>
  obtain⟨k,σ',g',q1,q2,q3,q4,q5,q6,q7,q8⟩:=hk
  have cg:∀{a:Addr}{v:Value},W'.cell? a=some v->a.block<W'.heap.size:=λ{a v} hc=>by
   grind[World.cell?]
  have hb:=hg.block Bs (cg q7);refine⟨k,σ',g',q1,q2,⟨q3.1,q3.2.trans hg.step⟩,q4.grow hg,(hg.block _ (Qbh.1 q5).1).trans q5,(hg.block _ (Qbh.1 q6).1).trans q6,?_,?_⟩
  grind[World.cell?]
  grind[World.frozen?]
 case start=>
  refine⟨s0.length,σ,g,Qbn _,h _,⟨hS.1,hS.2.trans hgr.step⟩,hG.grow hgr,hL1,hK1,?_,?_⟩;have hlt:=zxa hc0;rw[<-hc0];unfold World.cell?;simp[hgr.block Bs hlt];have hlt:=zxa hc0;rw[<-hf0];unfold World.frozen?;simp[hgr.block Bs hlt]
 case round=>
  obtain⟨k,σ',g',hle,hR,hS',hG',hl,hD,hcell,hfroz⟩:=hk
  cases k with
  |zero=>grind
  |succ k=>
  unfold zqo at hR;obtain⟨τ,i,r2,hw,he0,hev,hget,_,_,hrd⟩:=hR;obtain⟨g1,hS1,hG1⟩:=hw W0 g0 H0 W' a g' hB hS' hG'
  have hBs:g1.blk τ.H.lv i=Bs:=by
   have he:=hG1.ev go;rw[hev,hev0]at he
   cases he with
   |fn f fs cs fs' cs' n1 n2 r1 r2=>
    have e1:=r2 0 _ rfl;simp at e1;cases e1;rfl
  obtain⟨b1,b2⟩:=zrj hG1.good hget;rw[hBs,hcell]at b1;have hr2:=str_inj (Option.some.inj b1);subst hr2;have hsat:=hrd hne hle;obtain⟨st1,gd1⟩:=yr3 (x:=lnB r) hG1.good hget;rw[hBs]at st1 gd1
  have hlB:W.heap.size+1≠Bs:=λe=>by
   grind[World.cell?]
  have hDB:W.heap.size≠Bs:=λe=>by
   grind[World.cell?]
  have hl1:(W'.setCell ⟨Bs,0,none⟩ (.string ⟨(lnB r).toArray⟩)).heap[W.heap.size+1]? = some (.loop (rec' .ready none)):=(Below.heap_setCell _ _ _ _ hlB).trans hl;have hD1:(W'.setCell ⟨Bs,0,none⟩ (.string ⟨(lnB r).toArray⟩)).heap[W.heap.size]? = some (.deferred (some [])):=(Below.heap_setCell _ _ _ _ hDB).trans hD
  generalize hW1:W'.setCell ⟨Bs,0,none⟩ (.string ⟨(lnB r).toArray⟩)=W1 at st1 gd1 hl1 hD1 ⊢
  have hE:(τ.begin p i r).H.E=H0.E:=by
   rw[<-hS1.1,he0];show(τ.H.set τ.H.lv i _).E=_;unfold kz3.set;rw[Qbo rfl]
  have hGh:=hG1.later st1 gd1
  have hGs:yz7 W1 {tmps:=a.tmps.setIfInBounds p (.string ⟨(lnA r).toArray⟩),defers:=[]} g1 (τ.begin p i r):=by
   have h0:yz7 W1 {tmps:=a.tmps,defers:=[]} g1 {τ with H:=(τ.begin p i r).H,d:=[]}:=⟨hGh.good,hGh.size,hGh.tmps,rfl,λj f vs hj=>by simp at hj⟩;exact h0.next (.refl _ _ _) gd1 (.str _) (some p)
  have hl1lt:=(Qbh.1 hl1).1
  have hy:=by
   have:=run_yield (P:=P) (args := #[.string ⟨(lnA r).toArray⟩]) hl1 rfl;simpa[rec']using this
  refine⟨fn,_,assign,body,hy,roundIn_of_wpIn trivial ?_⟩
  let o2:Obj:=.loop (rec' .busy none)
  have a1:=hsat W1 g1 (τ.begin p i r).H W1 _ g1 ⟨gd1⟩ ⟨hS1.1.trans hE.symm,.refl _ _ _⟩ hGs (some (W.heap.size+1)) (.inr hc.1) (n-1-1);refine wpIn_mono (show assign.wpIn (Fence.wide.inRound (W.heap.size+1)) (n-1-1) P _ _ _ from a1) ?_
  rintro e am Wm ⟨gm,σ1,e',q1,q2,q3,q4⟩
  have hlm:=(q2.2.block _ hl1lt (zsd gd1 hl1)).trans hl1
  cases q1 with
  |exit id=>exact q4
  |ret=>exact q4
  |panic v c hr=>exact q4
  |normal=>
  refine⟨Wm.putObj (W.heap.size+1) o2,run_beginRound hlm rfl,?_⟩;have a2:=q4 (W1.putObj (W.heap.size+1) o2) g1 (τ.begin p i r).H (Wm.putObj (W.heap.size+1) o2) am gm ⟨gd1.put hl1 rfl o2⟩ ⟨q2.1,q2.2.put2 hl1lt o2⟩ (q3.yhk hlm o2) (some (W.heap.size+1)) (.inr hc.2) (n-1-1);refine wpIn_mono (show body.wpIn (Fence.wide.inRound (W.heap.size+1)) (n-1-1) P _ _ _ from a2) ?_
  rintro e a3 W3 ⟨g3,σ3,e',k1,k2,k3,k4⟩
  have hl2:(W1.putObj (W.heap.size+1) o2).heap[W.heap.size+1]? = some (.loop (rec' .busy none)):=World.putObj_heap_same hl1lt;have hD2:(W1.putObj (W.heap.size+1) o2).heap[W.heap.size]? = some (.deferred (some [])):=(World.putObj_heap_other (by omega)).trans hD1;have gd2:=gd1.put hl1 rfl o2;have hl3:=(k2.2.block _ (by grind) (zsd gd2 hl2)).trans hl2
  have hD3:=(k2.2.block _ (by grind) (ylu gd2 hD2)).trans hD2;obtain⟨σ'',g'',m1,m2,m3⟩:=k4.2 _ g1 W3 g3 a a3 gd2 k2 (hGh.yhk hl1 o2) k3;have stp:=((hS1.2.trans st1).ymy (by omega) o2).trans m2.2
  have fin:∀jump:Option Code,(Instr.endRound (W.heap.size+1) jump).run P W3 = .ok (.bool jump.isNone) (W3.putObj (W.heap.size+1) (.loop (rec' (if jump.isNone then .ready else .done) jump))):=λjump=>run_endRound jump hl3
  have hlt3:=(Qbh.1 hl3).1
  have out:∀(c:Code) (e:yza),(c = .ret∧e = .ret∨∃id,c = .exit id∧e = .exit id)->Q e σ''.marked->∃v w',(Instr.endRound (W.heap.size+1) (some c)).run P W3 = .ok v w'∧((Ending.returned v = .returned (.bool true)∧K (lnB r) w')∨(Ending.returned v = .returned (.bool false)∧Kx w')):=λc e hce hq=>
   ⟨_,_,fin (some c),.inr ⟨rfl,c,e,σ'',g'',hce,hq,⟨m2.1.trans hE,stp.ymy (by omega) _⟩,m1.yhk hl3 _,World.putObj_heap_same hlt3,zf1 hl3 hD3 λr=>by simp⟩⟩
  cases k1 with
  |normal=>
   obtain⟨y1,y2⟩:=m3;have hgd:=(m1.yhk hl3 (.loop (rec' .ready none))).good;have hbk:g''.blk τ.H.lv i=Bs:=by rw[<-hBs];exact m2.2.blk _ _ (hG1.good.dom _ _ _ hget)
   obtain⟨z1,z2⟩:=zrj hgd y1;rw[hbk]at z1 z2
   exact⟨_,_,fin none,.inl ⟨rfl,k,σ'',g'',by have:=ytd hne;omega,y2,⟨m2.1.trans hE,stp.ymy (by omega) _⟩,m1.yhk hl3 _,World.putObj_heap_same hlt3,zf1 hl3 hD3 λr=>by simp,z1,z2⟩⟩
  |ret=>exact out .ret .ret (.inl ⟨rfl,rfl⟩) m3
  |exit id=>exact out (.exit id) (.exit id) (.inr ⟨id,rfl,rfl⟩) m3
  |panic v c hr=>exact(k4.1 v rfl).elim
 refine(show CallsIn Fence.wide (n-1) P lf _ W1 _ from hcon).mono ?_
 rintro e W2 ⟨⟨v,rfl⟩,hk|hk⟩
 obtain⟨k,σ',g',hle,hR,hS',hG',hl,hD,hcell,hfroz⟩:=hk;unfold zqo at hR;obtain⟨τ,i,r2,hw,he0,hev,hget,_,hq,_⟩:=hR;obtain⟨g1,hS1,hG1⟩:=hw W0 g0 H0 W2 a g' hB hS' hG'
 have hBs:g1.blk τ.H.lv i=Bs:=by
  have he:=hG1.ev go;rw[hev,hev0]at he
  cases he with
  |fn f fs cs fs' cs' n1 n2 r1 r2=>
   have e1:=r2 0 _ rfl;simp at e1;cases e1;rfl
 obtain⟨b1,b2⟩:=zrj hG1.good hget;rw[hBs,hcell]at b1;have hr2:=str_inj (Option.some.inj b1);refine⟨none,_,run_endLoop hl (by simp[rec']),?_⟩;exact⟨g1,τ.marked,.normal,.normal,⟨hS1.1,hS1.2.ymy (by omega) _⟩,(hG1.yhk hl _).mark (zf1 hl hD λr=>by simp) (by rw[hS1.2.base];exact hbase),hq hr2.symm⟩;obtain⟨c,e,σ',g',hce,hq,hS',hG',hl,hD⟩:=hk;refine⟨some c,_,run_endLoop hl (by simp[rec']),?_⟩
 rcases hce with ⟨rfl,rfl⟩|⟨id,rfl,rfl⟩
 exact wpIn_ret ⟨g',σ'.marked,.ret,.ret,⟨hS'.1,hS'.2.ymy (by omega) _⟩,(hG'.yhk hl _).mark (zf1 hl hD λr=>by simp) (by rw[hS'.2.base];exact hbase),hq⟩;exact wpIn_exit ⟨g',σ'.marked,_,.exit id,⟨hS'.1,hS'.2.ymy (by omega) _⟩,(hG'.yhk hl _).mark (zf1 hl hD λr=>by simp) (by rw[hS'.2.base];exact hbase),hq⟩
end
end Go.Ab
