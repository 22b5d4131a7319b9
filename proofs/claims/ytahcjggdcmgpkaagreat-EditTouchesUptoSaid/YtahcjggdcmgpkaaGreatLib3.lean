/-
  REGIONS THAT DRAW THEIR ORDER: quiet operations and single effects, any two of which either stand in an order or commute.
-/
import Derived.Test.YtahcjggdcmgpkaaGreatLib2
import Derived.Recover
import Derived.Maps.RangeRun
namespace Go.Ab
open Go
set_option linter.unusedSimpArgs false
set_option linter.unusedVariables false
section
variable {P : Program} {ops : Array Oper} {md : Region.Mode}
structure Info where
 eff:Bool
 K:Nat->Prop
 W:Nat->Prop
 call:Bool:=false
def y0s (K:Nat->Prop) (H H':yz3):Prop:=∀i,K i->H'.L[i]? = H.L[i]?
theorem y0s.refl (K:Nat->Prop) (H:yz3):y0s K H H:=λ_ _=>rfl
theorem y0s.trans {K:Nat->Prop} {A B C:yz3} (h:y0s K A B) (k:y0s K B C):y0s K A C:=λi hi=>(k i hi).trans (h i hi)
theorem y0s.symm {K:Nat->Prop} {A B:yz3} (h:y0s K A B):y0s K B A:=λi hi=>(h i hi).symm
def yy8 (op:Op):Bool:=match op with
 | .alloc _| .box _ _| .store _ _ _=>true
 | .call c=>(match c.callee with
   | .builtin .append=>true
   | .builtin .unsafeString=>true
   |_=>false)
 |_=>false
theorem y8f {H:yz3} {ρ ρ':Operand->V} {o:Op} (h:∀x∈o.operands,ρ x=ρ' x):zv9 P H ρ o=zv9 P H ρ' o:=by
 cases o
 case makeSlice t n c=>simp only [zv9,h n (by simp [Op.operands]),h c (by simp [Op.operands])]
 case convert s d x=>simp only [zv9,h x (by simp [Op.operands])]
 case binOp op t x y _=>simp only [zv9,h x (by simp [Op.operands]),h y (by simp [Op.operands])]
 case call c =>
  simp only [zv9]
  split
  ·split
   ·rename_i x ha
    rw [h x (by simp [Op.operands,Call.operands];right;rw [<-Array.mem_toList_iff,ha];simp)]
   ·rfl
  ·split
   ·rename_i p n pt it ha ht
    rw [h p (by simp [Op.operands,Call.operands];right;rw [<-Array.mem_toList_iff,ha];simp),h n (by simp [Op.operands,Call.operands];right;rw [<-Array.mem_toList_iff,ha];simp)]
   ·rfl
  ·rfl
 all_goals rfl
def QP (P:Program) (H:yz3) (ρ:Operand->V) (o:Oper) (v:V):Prop:=pv P H ρ o.op=some v∨(∃c f args,o.op = .call c∧target ρ c=some (f,args)∧yn5 P f args H v H)∨zv9 P H ρ o.op=some (v,H)∨(∃t n c,o.op = .makeSlice t n c∧y6z P t (ρ n) (ρ c)=some v)∨∃c s x t u,o.op = .call c∧c.callee = .builtin .append∧c.args.toList=[s,x]∧c.argTypes.toList=[t,u]∧zy4 P t u (ρ s) (ρ x)=some v
theorem zrd {H:yz3} {ρ ρ':Operand->V} {o:Oper} {v:V} (h:∀x∈o.op.operands,ρ x=ρ' x) (hq:QP P H ρ o v):QP P H ρ' o v:=by
 rcases hq with hq|⟨c,f,args,h1,h2,h3⟩|hq|⟨t,n,c,h1,h2⟩|⟨c,s,x,t,u,h1,h2,h3,h4,h5⟩
 ·exact .inl (by rw [<-yv3 h];exact hq)
 ·exact .inr (.inl ⟨c,f,args,h1,by rw [<-zpm (ρ:=ρ) (λx hx=>h x (by rw [h1];exact hx))];exact h2,h3⟩)
 ·exact .inr (.inr (.inl (by rw [<-y8f h];exact hq)))
 ·exact .inr (.inr (.inr (.inl ⟨t,n,c,h1,by rw [<-h n (by rw [h1];simp [Op.operands]),<-h c (by rw [h1];simp [Op.operands])];exact h2⟩)))
 ·exact .inr (.inr (.inr (.inr ⟨c,s,x,t,u,h1,h2,h3,h4,by
   rw [<-h s (by rw [h1];simp [Op.operands,Call.operands];right;rw [<-Array.mem_toList_iff,h3];simp),<-h x (by rw [h1];simp [Op.operands,Call.operands];right;rw [<-Array.mem_toList_iff,h3];simp)];exact h5⟩)))
def Eff2 (P:Program) (H:yz3) (ρ:Operand->V) (op:Op) (v:V) (H':yz3):Prop:=ox P H ρ op=some (v,H')∨zv9 P H ρ op=some (v,H')
theorem z048 {H:yz3} {ρ ρ':Operand->V} {o:Op} (he:yy8 o=true) (h:∀x∈o.operands,ρ x=ρ' x):ox P H ρ o=ox P H ρ' o:=by
 cases o
 case alloc t=>rfl
 case box t x=>simp only [ox,h x (by simp [Op.operands])]
 case store t a x=>simp only [ox,h x (by simp [Op.operands]),h a (by simp [Op.operands])]
 case call c =>
  simp only [yy8] at he
  split at he
  ·rename_i hc
   simp only [ox,hc]
   split
   ·rename_i s x t u ha ht
    rw [h s (by simp [Op.operands,Call.operands];right;rw [<-Array.mem_toList_iff,ha];simp),h x (by simp [Op.operands,Call.operands];right;rw [<-Array.mem_toList_iff,ha];simp)]
   ·rfl
  ·rename_i hc
   simp only [ox,hc,pv,zhj]
  ·cases he
 all_goals cases he
theorem zwo {H H':yz3} {ρ ρ':Operand->V} {o:Op} {v:V} (he:yy8 o=true) (h:∀x∈o.operands,ρ x=ρ' x) (hx:Eff2 P H ρ o v H'):Eff2 P H ρ' o v H' :=
 hx.imp (λq=>by rw [<-z048 he h];exact q) (λq=>by rw [<-y8f h];exact q)
def MV (P:Program) (ops:Array Oper) (S:yz3->Prop) (c:Info) (σ:St) (o:Oper) (v:V) (H':yz3):Prop :=
 (z18 ops σ o=some false∧v = .tup []∧H'=σ.H) ∨
 (z18 ops σ o=some true∧S σ.H ∧
  ((c.eff=false∧H'=σ.H∧∀H'',S H''->y0s c.K σ.H H''->QP P H'' σ.ev o v) ∨
   (c.eff=true∧yy8 o.op=true∧Eff2 P σ.H σ.ev o.op v H'∧S H'∧∀i,¬c.W i->H'.L[i]? = σ.H.L[i]?)))
def zau (σ:St) (o:Oper) (v:V) (H':yz3):St:=({σ with H:=H'}:St).put o.dst v
theorem y4l {σ:St} {o:Oper} {v:V} {H':yz3} {x:Operand} (h:∀d,o.dst=some d->x ≠ .tmp d):(zau σ o v H').ev x=σ.ev x :=
 (z03v (σ:={σ with H:=H'}) h).trans (by cases x <;> rfl)
theorem zyz {σ:St} {o:Oper} {v:V} {H':yz3}:(zau σ o v H').H=H':=z066
theorem zpk {σ:St} {o oj:Oper} {v:V} {H':yz3} (h:∀d,o.dst=some d->d∉oj.looksAt ops):z18 ops (zau σ o v H') oj=z18 ops σ oj :=
 (y7t (σ:={σ with H:=H'}) h).trans rfl
theorem ygu {σ:St} {oi oj:Oper} {v u:V} {A B C:yz3} (h:∀d,oi.dst=some d->oj.dst≠some d):zau (zau σ oi v A) oj u C=zau (zau σ oj u B) oi v C:=by
 have e1:∀(o:Oper) (w:V) (H:yz3),({zau σ o w H with H:=C}:St)=({σ with H:=C}:St).put o.dst w:=λo w H=>by unfold zau;cases o.dst <;> rfl
 unfold zau at e1 ⊢
 rw [e1,e1]
 exact put_comm v u h
theorem z072 {S:yz3->Prop} {ci cj:Info} {oi oj:Oper} (hap:oi.apart ops oj=true) (hee:¬(ci.eff=true∧cj.eff=true)) (hij:ci.eff=false->cj.eff=true->∀x,ci.K x->¬cj.W x) (hji:cj.eff=false->ci.eff=true->∀x,cj.K x->¬ci.W x)
  {σ:St} {v u:V} {H1 H2:yz3} (h1:MV P ops S ci σ oi v H1) (h2:MV P ops S cj (zau σ oi v H1) oj u H2) :
  ∃H1',MV P ops S cj σ oj u H1'∧MV P ops S ci (zau σ oj u H1') oi v H2:=by
 obtain ⟨a1,a2,a3⟩:=Oper.apart_spec hap
 have evj:∀{w:V} {H:yz3},∀x∈oj.op.operands,(zau σ oi w H).ev x=σ.ev x:=λ{w H} x hx=>y4l λd hd=>zia (a1 d hd) x hx
 have evi:∀{w:V} {H:yz3},∀x∈oi.op.operands,(zau σ oj w H).ev x=σ.ev x:=λ{w H} x hx=>y4l λd hd=>zia (a3 d hd) x hx
 have wj:∀{w:V} {H:yz3},z18 ops (zau σ oi w H) oj=z18 ops σ oj:=zpk a1
 have wi:∀{w:V} {H:yz3},z18 ops (zau σ oj w H) oi=z18 ops σ oi:=zpk a3
 unfold MV at h1 h2 ⊢
 rw [wj,zyz] at h2
 simp only [wi,zyz]
 rcases h1 with ⟨b1,rfl,rfl⟩|⟨b1,bs,⟨b2,rfl,b3⟩|⟨b2,b3,b4,b5,b6⟩⟩
 ·rcases h2 with ⟨d1,rfl,rfl⟩|⟨d1,ds,⟨d2,rfl,d3⟩|⟨d2,d3,d4,d5,d6⟩⟩
  ·exact ⟨σ.H,.inl ⟨d1,rfl,rfl⟩,.inl ⟨b1,rfl,rfl⟩⟩
  ·exact ⟨σ.H,.inr ⟨d1,ds,.inl ⟨d2,rfl,λH'' k1 k2=>zrd evj (d3 H'' k1 k2)⟩⟩,.inl ⟨b1,rfl,rfl⟩⟩
  ·exact ⟨H2,.inr ⟨d1,ds,.inr ⟨d2,d3,zwo d3 evj d4,d5,d6⟩⟩,.inl ⟨b1,rfl,rfl⟩⟩
 ·rcases h2 with ⟨d1,rfl,rfl⟩|⟨d1,ds,⟨d2,rfl,d3⟩|⟨d2,d3,d4,d5,d6⟩⟩
  ·exact ⟨σ.H,.inl ⟨d1,rfl,rfl⟩,.inr ⟨b1,bs,.inl ⟨b2,rfl,λH'' k1 k2=>zrd (λx hx=>(evi x hx).symm) (b3 H'' k1 k2)⟩⟩⟩
  ·exact ⟨σ.H,.inr ⟨d1,ds,.inl ⟨d2,rfl,λH'' k1 k2=>zrd evj (d3 H'' k1 k2)⟩⟩,.inr ⟨b1,bs,.inl ⟨b2,rfl,λH'' k1 k2=>zrd (λx hx=>(evi x hx).symm) (b3 H'' k1 k2)⟩⟩⟩
  ·refine ⟨H2,.inr ⟨d1,ds,.inr ⟨d2,d3,zwo d3 evj d4,d5,d6⟩⟩,.inr ⟨b1,d5,.inl ⟨b2,rfl,λH'' k1 k2=>zrd (λx hx=>(evi x hx).symm) (b3 H'' k1 (y0s.trans (λx hx=>d6 x (hij b2 d2 x hx)) k2))⟩⟩⟩
 ·rcases h2 with ⟨d1,rfl,rfl⟩|⟨d1,ds,⟨d2,rfl,d3⟩|⟨d2,d3,d4,d5,d6⟩⟩
  ·exact ⟨σ.H,.inl ⟨d1,rfl,rfl⟩,.inr ⟨b1,bs,.inr ⟨b2,b3,zwo b3 (λx hx=>(evi x hx).symm) b4,b5,b6⟩⟩⟩
  ·have hs:y0s cj.K σ.H H2:=λx hx=>b6 x (hji d2 b2 x hx)
   exact ⟨σ.H,.inr ⟨d1,bs,.inl ⟨d2,rfl,λH'' k1 k2=>zrd evj (d3 H'' k1 (hs.symm.trans k2))⟩⟩,.inr ⟨b1,bs,.inr ⟨b2,b3,zwo b3 (λx hx=>(evi x hx).symm) b4,b5,b6⟩⟩⟩
  ·exact (hee ⟨b2,d2⟩).elim
def MC (P:Program) (ops:Array Oper) (S:yz3->Prop) (c:Info) (σ:St) (o:Oper) (K:V->yz3->Prop) (Kp:V->St->Prop):Prop :=
 c.eff=true∧c.call=true∧z18 ops σ o=some true∧∃cl f args Post,o.op = .call cl∧target σ.ev cl=some (f,args)∧y2x P f args σ.H Post ∧
  (∀v H',Post (.ret v) H'->S H'∧(∀i,¬c.W i->H'.L[i]? = σ.H.L[i]?)∧K v H')∧∀v H',Post (.pan v) H'->Kp v {σ with H:=H'}
theorem MC.imp {S:yz3->Prop} {c:Info} {σ:St} {o:Oper} {K K':V->yz3->Prop} {Kp:V->St->Prop} (h:MC P ops S c σ o K Kp) (hk:∀v H',S H'->(∀i,¬c.W i->H'.L[i]? = σ.H.L[i]?)->K v H'->K' v H'):MC P ops S c σ o K' Kp:=by
 obtain ⟨h1,h2,h3,cl,f,args,Post,h4,h5,h6,h7,h8⟩:=h
 exact ⟨h1,h2,h3,cl,f,args,Post,h4,h5,h6,λv H' hp=>by obtain ⟨a,b,c⟩:=h7 v H' hp;exact ⟨a,b,hk v H' a b c⟩,h8⟩
inductive Dep (md:Region.Mode) (ops:Array Oper) (a:Nat):Nat->Prop where
 |one (b:Nat) (o:Oper) (e:Edge) (ho:ops[b]? = some o) (he:e∈o.after) (hb:Region.binds md e=true) (hon:e.on=a):Dep md ops a b
 |more (b:Nat) (o:Oper) (e:Edge) (ho:ops[b]? = some o) (he:e∈o.after) (hb:Region.binds md e=true) (h:Dep md ops a e.on):Dep md ops a b
def Free (md:Region.Mode) (ops:Array Oper) (i j:Nat):Prop:=¬Dep md ops i j∧¬Dep md ops j i
def Down (md:Region.Mode) (ops:Array Oper) (listed:Array Bool):Prop:=∀b o,ops[b]? = some o->listed.getD b false=true->∀e∈o.after,Region.binds md e=true->listed.getD e.on false=true
theorem Down.dep {listed:Array Bool} (h:Down md ops listed) {a b:Nat} (hd:Dep md ops a b):listed.getD b false=true->listed.getD a false=true:=by
 induction hd with
 |one b o e ho he hb hon=>intro hl;subst hon;exact h b o ho hl e he hb
 |more b o e ho he hb _ ih=>intro hl;exact ih (h b o ho hl e he hb)
theorem Down.ready {listed:Array Bool} (h:Down md ops listed) {a b:Nat} (hb:b∈Region.ready md ops listed) (hd:Dep md ops a b):listed.getD a false=true:=by
 obtain ⟨_,o',ho',hall⟩:=mem_ready.1 hb
 cases hd with
 |one _ o e ho he hb hon=>rw [ho'] at ho;injection ho with ho;subst ho;subst hon;exact hall e he hb
 |more _ o e ho he hb hd=>rw [ho'] at ho;injection ho with ho;subst ho;exact h.dep hd (hall e he hb)
theorem Down.set {listed:Array Bool} (h:Down md ops listed) {k:Nat} (hk:k∈Region.ready md ops listed):Down md ops (listed.setIfInBounds k true):=λb o ho hl e he hb=>by
 obtain ⟨_,o',ho',hall⟩:=mem_ready.1 hk
 have up:∀j,listed.getD j false=true->(listed.setIfInBounds k true).getD j false=true:=λj hj=>by
  by_cases hjk:k=j
  ·subst hjk
   rcases Nat.lt_or_ge k listed.size with q|q
   ·simp [Array.getD_eq_getD_getElem?,q]
   ·simp [Array.getD_eq_getD_getElem?,Array.getElem?_eq_none q] at hj
  ·rw [getD_set_ne false hjk];exact hj
 refine up _ ?_
 by_cases hbk:k=b
 ·subst hbk
  rw [ho'] at ho;injection ho with ho;subst ho
  exact hall e he hb
 ·rw [getD_set_ne false hbk] at hl
  exact h b o ho hl e he hb
def z03i (md:Region.Mode) (ops:Array Oper) (i j:Nat) (ci cj:Info):Prop:=Free md ops i j->(¬(ci.eff=true∧cj.eff=true))∧(ci.eff=false->cj.eff=true->∀x,ci.K x->¬cj.W x)∧(cj.eff=false->ci.eff=true->∀x,cj.K x->¬ci.W x)
def GP (md:Region.Mode) (ops:Array Oper) (prev:List (Nat×Info)) (j:Nat) (c:Info):Prop:=∀p∈prev,z03i md ops p.1 j p.2 c
section
variable (P ops) (md) (S : yz3 → Prop) (G : Nat → Info → Prop) (Kp : V → St → Prop)
def GoA (i:Nat) (K:St->Prop) (σ:St):Prop :=
 match ops[i]? with
 |none=>K σ
 |some o=>∃c,G i c∧((∃v H',c.call=false∧MV P ops S c σ o v H'∧K (zau σ o v H'))∨MC P ops S c σ o (λv H'=>K (zau σ o v H')) Kp)
def AM (R:St->Prop):Nat->Array Bool->St->Prop
 |0,listed,σ=>Region.ready md ops listed=[]∧R σ
 |fuel+1,listed,σ=>(Region.ready md ops listed=[]->R σ)∧∀i∈Region.ready md ops listed,GoA P ops S G Kp i (AM R fuel (listed.setIfInBounds i true)) σ
end
variable {S : yz3 → Prop} {G G' : Nat → Info → Prop} {Kp : V → St → Prop}
theorem MV.goA {i:Nat} {o:Oper} {v:V} {σ:St} {c:Info} {H':yz3} (hi:ops[i]? = some o) (hc:G i c) (hcl:c.call=false) (hy:MV P ops S c σ o v H') {K:St->Prop} (h:K (zau σ o v H')):GoA P ops S G Kp i K σ:=by
 unfold GoA
 simp only [hi]
 exact ⟨c,hc,.inl ⟨v,H',hcl,hy,h⟩⟩
theorem AM.mono (hg:∀j c,G' j c->G j c) {R:St->Prop}:∀(fuel:Nat) (listed:Array Bool) (σ:St),AM P ops md S G' Kp R fuel listed σ->AM P ops md S G Kp R fuel listed σ
 |0,_,_,h=>h
 |fuel+1,listed,σ,h=>⟨h.1,λi hi=>by
  have h1:=h.2 i hi
  unfold GoA at h1 ⊢
  split
  · rename_i ho;simp only [ho] at h1;exact AM.mono hg fuel _ _ h1
  · rename_i o ho
    simp only [ho] at h1
    obtain ⟨c,h0,⟨v,H',hc,h2,h3⟩|hm⟩:=h1
    · exact ⟨c,hg _ _ h0,.inl ⟨v,H',hc,h2,AM.mono hg fuel _ _ h3⟩⟩
    · exact ⟨c,hg _ _ h0,.inr (hm.imp λv H' _ _ k=>AM.mono hg fuel _ _ k)⟩⟩
theorem yu9 {W0:World} {g0:Gh} {H0:yz3} {i:Nat} {σ:St} {K:St->Prop} {K':Act->World->Prop} {Q':Exit->Act->World->Prop}
  (hk:∀W a g σ,K σ->(σ.e0=H0.E∧Step W0 g0 H0 W g σ.H)->z0c W a g σ->K' a W) (hkp:∀W a g σ v c,Kp v σ->(σ.e0=H0.E∧Step W0 g0 H0 W g σ.H)->z0c W a g σ->Rel W g σ.H v c->Q' (.panic [{v:=c,recovered:=false}]) a W)
  {W:World} {a:Act} {g:Gh} (hh:GoA P ops S G Kp i K σ) (hS:σ.e0=H0.E∧Step W0 g0 H0 W g σ.H) (hG:z0c W a g σ):wpOp P ops Q' i K' a W:=by
 unfold GoA at hh
 unfold wpOp
 split
 ·rename_i ho;simp only [ho] at hh;exact hk W a g σ hh hS hG
 ·rename_i o ho
  simp only [ho] at hh
  obtain ⟨c0,_,hh⟩:=hh
  have he0:∀{v:V} {H':yz3},(zau σ o v H').e0=σ.e0:=λ{v H'}=>by unfold zau;cases o.dst <;> rfl
  rcases hh with ⟨v,H',_,hy,hkk⟩|⟨_,_,hw,cl,f,args,Post,hop,ht,hc,hret,hpan⟩
  ·have fin:∀c W' g',Step W g σ.H W' g' H'->Good W' g' H'->Rel W' g' H' v c->K' (a.put o.dst c) W':=λc W' g' s1 s2 s3 =>
    hk W' _ g' _ hkk (by rw [zyz,he0];exact ⟨hS.1,hS.2.trans s1⟩) (hG.next s1 s2 s3 o.dst)
   rcases hy with ⟨hw,rfl,rfl⟩|⟨hw,hs,⟨_,rfl,hv⟩|⟨_,_,hv,_,_⟩⟩
   ·rw [z1v hG hw,if_neg (by simp)]
    exact fin undef W g (.refl _ _ _) hG.good (.tup [] #[] rfl (by simp))
   ·rw [z1v hG hw,if_pos rfl]
    left
    unfold Oper.wp
    rcases hv σ.H hs (.refl _ _) with hv|⟨c,f,args,hop,ht,hcl⟩|hv|⟨t,n,cz,hop,hv⟩|⟨cc,s,x,t,u,hop,hcal,hargs,htys,hv⟩
    ·obtain ⟨c,W',h1,h2,h3⟩:=y3l (P:=P) hG.good (r:=a.eval) hG.ev hv
     rw [h1]
     exact fin c W' g h2.step (hG.good.grow h2) h3
    ·obtain ⟨cargs,k1,k2⟩:=zid (P:=P) (ty:=o.type) hG.ev ht
     have hex:(execOp a.eval o).run P W=(callFunc f cargs).run P W:=by
      rw [<-k2 W];unfold execOp;rw [hop]
     rcases hcl W g cargs hG.good k1 with ⟨e1,e2⟩|⟨c,W',g',e1,e2,e3,e4⟩
     ·rw [hex,e1]
      refine e2.mono λe W' ⟨c,g',he,s1,s2,s3⟩ => ?_
      subst he
      exact fin c W' g' s1 s2 s3
     ·rw [hex,e1]
      exact fin c W' g' e2 e3 e4
    ·obtain ⟨c,W',g',h1,h2,h3,h4⟩:=zww (P:=P) hG.good hG.ev hv
     rcases h1 with h1|⟨h1,h1'⟩
     ·rw [h1];exact fin c W' g' h2 h3 h4
     ·rw [h1];subst h1';exact fin _ W' g' h2 h3 h4
    ·obtain ⟨c,W',g',h1,h2,h3,h4⟩:=yec (P:=P) hG.good hv (hG.ev n) (hG.ev cz)
     have hex:(execOp a.eval o).run P W=(do pure (.value (<-Instr.makeSlice t (a.eval n) (a.eval cz))):Sem Next).run P W:=by unfold execOp;rw [hop]
     rw [hex]
     rcases h1 with h1|⟨h1,h1'⟩
     ·rw [h1];exact fin c W' g' h2 h3 h4
     ·rw [h1];subst h1';exact fin _ W' g' h2 h3 h4
    ·obtain ⟨c,W',g',h1,h2,h3,h4⟩:=yig (P:=P) (ty:=o.type) hG.good hv (hG.ev s) (hG.ev x)
     have hex:(execOp a.eval o).run P W=(do pure (.value (<-Builtin.append_ #[t,u] o.type #[a.eval s,a.eval x])):Sem Next).run P W:=by
      obtain ⟨callee,args,argTypes⟩:=cc
      simp only at hcal hargs htys
      subst hcal
      obtain rfl:=z1l hargs
      obtain rfl:=z1l htys
      unfold execOp;rw [hop]
      simp [resolve,invoke,builtin]
     rw [hex]
     rcases h1 with h1|⟨h1,h1'⟩
     ·rw [h1];exact fin c W' g' h2 h3 h4
     ·rw [h1];subst h1';exact fin _ W' g' h2 h3 h4
   ·rw [z1v hG hw,if_pos rfl]
    left
    unfold Oper.wp
    obtain ⟨c,W',g',h1,h2,h3,h4⟩:=hv.elim (λq=>ygh (P:=P) hG.good hG.ev q) (λq=>zww (P:=P) hG.good hG.ev q)
    rcases h1 with h1|⟨h1,h1'⟩
    ·rw [h1];exact fin c W' g' h2 h3 h4
    ·rw [h1];subst h1';exact fin _ W' g' h2 h3 h4
  ·rw [z1v hG hw,if_pos rfl]
   left
   unfold Oper.wp
   obtain ⟨cargs,k1,k2⟩:=zid (P:=P) (ty:=o.type) hG.ev ht
   have hex:(execOp a.eval o).run P W=(callFunc f cargs).run P W:=by
    rw [<-k2 W];unfold execOp;rw [hop]
   obtain ⟨e1,e2⟩:=hc W g cargs hG.good k1
   rw [hex,e1]
   refine e2.mono λe W' ⟨o',H',g',p1,p2,p3,p4⟩ => ?_
   cases o' with
   |ret r =>
    obtain ⟨c',he,hr'⟩:=p4
    subst he
    exact hk W' (a.put o.dst c') g' _ (hret r H' p1).2.2 (by rw [zyz,he0];exact ⟨hS.1,hS.2.trans p2⟩) (hG.next p2 p3 hr' o.dst)
   |pan v =>
    obtain ⟨c',he,hr'⟩:=p4
    subst he
    have hn:=hG.next p2 p3 (.any undef) none
    exact hkp W' a g' {σ with H:=H'} v c' (hpan v H' p1) ⟨hS.1,hS.2.trans p2⟩ hn hr'
theorem y86 {W0:World} {g0:Gh} {H0:yz3} {R:St->Prop} {Q':Exit->Act->World->Prop} (hR:∀W a g σ,R σ->(σ.e0=H0.E∧Step W0 g0 H0 W g σ.H)->z0c W a g σ->Q' .normal a W)
  (hkp:∀W a g σ v c,Kp v σ->(σ.e0=H0.E∧Step W0 g0 H0 W g σ.H)->z0c W a g σ->Rel W g σ.H v c->Q' (.panic [{v:=c,recovered:=false}]) a W) :
  ∀(fuel:Nat) (listed:Array Bool) (σ:St) (W:World) (a:Act) (g:Gh),AM P ops md S G Kp R fuel listed σ->(σ.e0=H0.E∧Step W0 g0 H0 W g σ.H)->z0c W a g σ->wpAny P md ops Q' fuel listed a W
 |0,_,σ,W,a,g,h,hS,hG=>⟨h.1,hR W a g σ h.2 hS hG⟩
 |fuel+1,listed,σ,W,a,g,h,hS,hG=>⟨λh0=>hR W a g σ (h.1 h0) hS hG,λi hi=>yu9 (λW a g σ' hk hS hG=>y86 hR hkp fuel _ σ' W a g hk hS hG) hkp (h.2 i hi) hS hG⟩
theorem z06d {ci cj:Info} {oi oj:Oper} (hap:oi.apart ops oj=true) (hci:ci.eff=false) (hij:∀x,ci.K x->¬cj.W x) (hkp:∀v (σ:St) t',Kp v σ->t'.length=σ.t.length->Kp v {σ with t:=t'})
  {σ:St} {v:V} {H1:yz3} (h1:MV P ops S ci σ oi v H1) {K:V->yz3->Prop} (h2:MC P ops S cj (zau σ oi v H1) oj K Kp):H1=σ.H ∧
  MC P ops S cj σ oj (λu H'=>MV P ops S ci (zau σ oj u H') oi v H'∧K u H') Kp:=by
 obtain ⟨a1,a2,a3⟩:=Oper.apart_spec hap
 have evj:∀{w:V} {H:yz3},∀x∈oj.op.operands,(zau σ oi w H).ev x=σ.ev x:=λ{w H} x hx=>y4l λd hd=>zia (a1 d hd) x hx
 have evi:∀{w:V} {H:yz3},∀x∈oi.op.operands,(zau σ oj w H).ev x=σ.ev x:=λ{w H} x hx=>y4l λd hd=>zia (a3 d hd) x hx
 have hH:H1=σ.H:=by
  rcases h1 with ⟨_,_,h⟩|⟨_,_,⟨_,h,_⟩|⟨h,_⟩⟩
  ·exact h
  ·exact h
  ·rw [hci] at h;cases h
 subst hH
 refine ⟨rfl,?_⟩
 obtain ⟨b1,b2,b3,cl,f,args,Post,b4,b5,b6,b7,b8⟩:=h2
 rw [zpk a1] at b3
 rw [zpm (ρ':=σ.ev) (λx hx=>evj x (by rw [b4];exact hx))] at b5
 rw [zyz] at b6 b7
 refine ⟨b1,b2,b3,cl,f,args,Post,b4,b5,b6,λu H' hp => ?_,λu H' hp => ?_⟩
 ·obtain ⟨c1,c2,c3⟩:=b7 u H' hp
  refine ⟨c1,c2,?_,c3⟩
  unfold MV at h1 ⊢
  rw [zpk a3,zyz]
  rcases h1 with ⟨d1,d2,_⟩|⟨d1,d2,⟨d3,_,d4⟩|⟨h,_⟩⟩
  ·exact .inl ⟨d1,d2,rfl⟩
  ·exact .inr ⟨d1,c1,.inl ⟨d3,rfl,λH'' k1 k2=>zrd (λx hx=>(evi x hx).symm) (d4 H'' k1 (y0s.trans (λx hx=>c2 x (hij x hx)) k2))⟩⟩
  ·rw [hci] at h;cases h
 ·have:=hkp u _ σ.t (b8 u H' hp) (by unfold zau;cases oi.dst <;> simp [St.put])
  have e:({({zau σ oi v σ.H with H:=H'}:St) with t:=σ.t}:St)={σ with H:=H'}:=by unfold zau;cases oi.dst <;> rfl
  rw [e] at this;exact this
theorem z04h (hkp:∀v (σ:St) t',Kp v σ->t'.length=σ.t.length->Kp v {σ with t:=t'}) {R:St->Prop} {i:Nat} {oi:Oper} {ci:Info} (hi:ops[i]? = some oi) (hci:G i ci) (hcc:ci.call=false) (hg:∀j c,G' j c->G j c∧z03i md ops i j ci c) :
  ∀(fuel:Nat) (listed:Array Bool) (σ:St),Down md ops listed ->
   (∀j oj,ops[j]? = some oj->j≠i->listed.getD j true=false->(∀e∈oj.after,Region.binds md e=true->e.on≠i)->oi.apart ops oj=true) ->
   i∈Region.ready md ops listed->∀v H',MV P ops S ci σ oi v H'->AM P ops md S G' Kp R fuel (listed.setIfInBounds i true) (zau σ oi v H')->AM P ops md S G Kp R (fuel+1) listed σ:=by
 intro fuel
 induction fuel with
 |zero =>
  intro listed σ _ _ hr v H' hy H
  refine ⟨λh=>(by rw [h] at hr;cases hr),λj hj => ?_⟩
  by_cases hji:j=i
  · subst hji;exact hy.goA hi hci hcc (AM.mono (λj c h=>(hg j c h).1) _ _ _ H)
  · have:=ready_mono hj hji
    rw [H.1] at this
    cases this
 |succ fuel ih =>
  intro listed σ hdown hfree hr v H' hy H
  refine ⟨λh=>(by rw [h] at hr;cases hr),λj hj => ?_⟩
  by_cases hji:j=i
  · subst hji;exact hy.goA hi hci hcc (AM.mono (λj c h=>(hg j c h).1) _ _ _ H)
  · have h1:=H.2 j (ready_mono hj hji)
    obtain ⟨hjun,oj,hoj,hall⟩:=mem_ready.1 hj
    obtain ⟨hun,oi',hoi',hall'⟩:=mem_ready.1 hr
    rw [hi] at hoi';injection hoi' with hoi';subst hoi'
    have hnot:∀e∈oj.after,Region.binds md e=true->e.on≠i:=λe he hb heq=>by
     have h1:=hall e he hb
     rw [heq,getD_both hun] at h1
     cases h1
    have hnot':∀e∈oi.after,Region.binds md e=true->e.on≠j:=λe he hb heq=>by
     have h1:=hall' e he hb
     rw [heq,getD_both hjun] at h1
     cases h1
    have hfr:Free md ops i j:=⟨λhd=>(by have:=hdown.ready hj hd;rw [getD_both hun] at this;cases this),λhd=>(by have:=hdown.ready hr hd;rw [getD_both hjun] at this;cases this)⟩
    have hap:=hfree j oj hoj hji hjun hnot
    have hfree':∀k ok,ops[k]? = some ok->k≠i->(listed.setIfInBounds j true).getD k true=false ->
      (∀e∈ok.after,Region.binds md e=true->e.on≠i)->oi.apart ops ok=true:=λk ok hk hki hun hno=>by
     refine hfree k ok hk hki ?_ hno
     by_cases hjk:j=k
     · subst hjk;exact hjun
     · rw [getD_set_ne true hjk] at hun;exact hun
    unfold GoA at h1 ⊢
    simp only [hoj] at h1 ⊢
    obtain ⟨cj,hcj,⟨u,H2,hjc,hm,hk⟩|hm⟩:=h1
    · obtain ⟨hgj,hpair⟩:=hg j cj hcj
      obtain ⟨p1,p2,p3⟩:=hpair hfr
      obtain ⟨H1',q1,q2⟩:=z072 hap p1 p2 p3 hy hm
      refine ⟨cj,hgj,.inl ⟨u,H1',hjc,q1,ih (listed.setIfInBounds j true) _ (hdown.set hj) hfree' (ready_mono hr (Ne.symm hji)) v H2 q2 ?_⟩⟩
      rw [Array.setIfInBounds_comm _ _ hji]
      rw [ygu (B:=H1') (Oper.apart_spec hap).2.1] at hk
      exact hk
    · obtain ⟨hgj,hpair⟩:=hg j cj hcj
      obtain ⟨p1,p2,p3⟩:=hpair hfr
      have hie:ci.eff=false:=by
       cases he:ci.eff with
       |false=>rfl
       |true=>exact (p1 ⟨he,hm.1⟩).elim
      obtain ⟨rfl,q⟩:=z06d (Kp:=Kp) hap hie (p2 hie hm.1) hkp hy hm
      refine ⟨cj,hgj,.inr (q.imp λu H2 _ _ ⟨q2,hk⟩=>ih (listed.setIfInBounds j true) _ (hdown.set hj) hfree' (ready_mono hr (Ne.symm hji)) v H2 q2 ?_)⟩
      rw [Array.setIfInBounds_comm _ _ hji]
      rw [ygu (B:=H2) (Oper.apart_spec hap).2.1] at hk
      exact hk
def y7h (md:Region.Mode) (ops:Array Oper):List Nat->Array Bool->Bool
 |[],listed=>(Region.ready md ops listed).isEmpty
 |k::r,listed=>(Region.ready md ops listed).contains k&&Region.free md ops listed k&&y7h md ops r (listed.setIfInBounds k true)
def zts (P:Program) (ops:Array Oper) (md:Region.Mode) (S:yz3->Prop) (Kp:V->St->Prop) (R:St->Prop):List Nat->List (Nat×Info)->St->Prop
 |[],_,σ=>R σ
 |k::ks,prev,σ=>∃o c,ops[k]? = some o∧GP md ops prev k c∧((∃v H',c.call=false∧MV P ops S c σ o v H'∧zts P ops md S Kp R ks ((k,c)::prev) (zau σ o v H')) ∨
  ((∀j∈ks,¬Free md ops k j)∧MC P ops S c σ o (λv H'=>zts P ops md S Kp R ks ((k,c)::prev) (zau σ o v H')) Kp))
theorem z03r (hkp:∀v (σ:St) t',Kp v σ->t'.length=σ.t.length->Kp v {σ with t:=t'}) {R:St->Prop}:∀(l:List Nat) (prev:List (Nat×Info)) (listed:Array Bool) (σ:St),Down md ops listed->(∀j,listed.getD j true=false->j∈l) ->
  y7h md ops l listed=true->zts P ops md S Kp R l prev σ->AM P ops md S (GP md ops prev) Kp R l.length listed σ
 |[],_,listed,σ,_,_,hB,h=>⟨by simpa [y7h] using hB,h⟩
 |k::l,prev,listed,σ,hdown,hlow,hB,h=>by
  obtain ⟨o,c,h0,hc0,h⟩:=h
  simp only [y7h,Bool.and_eq_true] at hB
  obtain ⟨⟨hr,hf⟩,hB'⟩:=hB
  have hr:k∈Region.ready md ops listed:=by simpa using hr
  have hlow':∀j,(listed.setIfInBounds k true).getD j true=false->j∈l:=λj hj=>by
   by_cases hjk:k=j
   · subst hjk
     by_cases hlt:k<listed.size
     · simp [Array.getD_eq_getD_getElem?,hlt] at hj
     · simp [Array.getD_eq_getD_getElem?,Array.getElem?_eq_none (Nat.le_of_not_lt hlt)] at hj
   · rw [getD_set_ne true hjk] at hj
     rcases List.mem_cons.1 (hlow j hj) with e|e
     · exact (hjk e.symm).elim
     · exact e
  have rest:∀σ',zts P ops md S Kp R l ((k,c)::prev) σ'->AM P ops md S (GP md ops ((k,c)::prev)) Kp R l.length (listed.setIfInBounds k true) σ':=λσ' hrest =>
   z03r hkp l _ _ _ (hdown.set hr) hlow' hB' hrest
  rcases h with ⟨v,H',hc,hy,hrest⟩|⟨hlate,hm⟩
  · exact z04h (G:=GP md ops prev) (G':=GP md ops ((k,c)::prev)) hkp h0 hc0 hc (λj c' h'=>⟨λp hp=>h' p (List.mem_cons_of_mem _ hp),h' _ List.mem_cons_self⟩) l.length listed σ hdown (Region.free_spec h0 hf) hr v H' hy (rest _ hrest)
  · refine ⟨λh=>(by rw [h] at hr;cases hr),λj hj => ?_⟩
    by_cases hjk:j=k
    · subst hjk
      unfold GoA
      simp only [h0]
      exact ⟨c,hc0,.inr (hm.imp λv H' _ _ hk=>AM.mono (λj' c' h' p hp=>h' p (List.mem_cons_of_mem _ hp)) _ _ _ (rest _ hk))⟩
    · exfalso
      obtain ⟨hjun,oj,hoj,hall⟩:=mem_ready.1 hj
      obtain ⟨hun,oi',hoi',hall'⟩:=mem_ready.1 hr
      refine hlate j ?_ ⟨λhd=>(by have:=hdown.ready hj hd;rw [getD_both hun] at this;cases this),λhd=>(by have:=hdown.ready hr hd;rw [getD_both hjun] at this;cases this)⟩
      rcases List.mem_cons.1 (hlow j hjun) with e|e
      · exact (hjk e).elim
      · exact e
theorem z050 {id:Nat} {σ:St} {Q:yzl->St->Prop} (hm:P.follows .mixedOrders=true) (l:List Nat) (hB:y7h .any ops l (Array.replicate ops.size false)=true) (hl:l.length=ops.size) (hall:∀j,j<ops.size->j∈l)
  (h:zts P ops .any S (λv σ=>∀t',t'.length=σ.t.length->Q (.panic v) {σ with t:=t'}) (Q .normal) l [] σ) :
  Sat P (.region id ops true) σ Q:=λW0 g0 H0 W a g _ hS hG=>by
 refine wp_region_any hm ?_
 have hG':=hG.drawn (W.drawn+1)
 have hS':σ.e0=H0.E∧Step W0 g0 H0 {W with drawn:=W.drawn+1} g σ.H:=⟨hS.1,hS.2.trans (Grow.drawn W _).step⟩
 have:=z03r (P:=P) (md:=.any) (R:=Q .normal) (λv σ t' h ht=>λt'' ht''=>h t'' (ht''.trans ht)) l [] (Array.replicate ops.size false) σ (λb o _ hb=>by rw [getD_replicate_false] at hb;cases hb) (λj hj=>by
  rcases Nat.lt_or_ge j ops.size with q|q
  ·exact hall j q
  ·simp [Array.getD_eq_getD_getElem?,Array.getElem?_eq_none (xs:=Array.replicate ops.size false) (i:=j) (by simpa using q)] at hj) hB h
 rw [hl] at this
 exact y86 (Q':=ypp W0 g0 H0 Q) (λW a g τ hτ hS hG=>⟨g,τ,.normal,.normal,hS,hG,hτ⟩) (λW a g τ v c hτ hS hG hr=>⟨g,τ,.panic v,.panic v c hr,hS,hG,hτ τ.t rfl⟩) _ _ σ _ a g this hS' hG'
theorem ygg {H H':yz3} {t l i off:Nat} (h:H'.get l i=H.get l i):ziv P H' t (.ptr l i off)=ziv P H t (.ptr l i off):=by simp only [ziv,h]
theorem zyc {H H':yz3} {t:Nat} {cs:List V} {off:Nat}:ziv P H' t (.ref cs off)=ziv P H t (.ref cs off):=rfl
theorem yk5 {H H':yz3} {t l i ver idx off:Nat} (h:H'.get l i=H.get l i):ziv P H' t (.ap l i ver idx off)=ziv P H t (.ap l i ver idx off):=by simp only [ziv,y3n,h]
theorem y1s {H H':yz3} {t l i ver off n:Nat} {full:Bool} {y:V} (h:H'.get l i=H.get l i):z0h P H' t (.hs l i ver off n full) y=z0h P H t (.hs l i ver off n full) y:=by simp only [z0h,h]
theorem yqf {H H':yz3} {t l i ver off n:Nat} {full:Bool} (h:H'.get l i=H.get l i):zu8 P H' t (.hs l i ver off n full)=zu8 P H t (.hs l i ver off n full):=by simp only [zu8,h]
def V.plain:V->Bool
 | .hs .. | .map .. => false
 |_=>true
theorem yxz {H H':yz3} {t:Nat} {x:V} (h:x.plain=true):zu8 P H' t x=zu8 P H t x:=by cases x <;> first|rfl|cases h
theorem y62 {H H':yz3} {t:Nat} {x y:V} (h:x.plain=true):z0h P H' t x y=z0h P H t x y:=by cases x <;> first|rfl|cases h
theorem ypq {H H':yz3} {t:Nat} {x:V} {a b c:Option V} (h:x.plain=true):zlx P H' t x a b c=zlx P H t x a b c:=by cases x <;> first|rfl|cases h
end
def z00z (all:List Oper) (i j:Nat):Bool:=match all[j]? with
 |some o=>o.after.toList.any λe=>Region.binds .any e&&Nat.beq e.on i
 |none=>false
def depB (all:List Oper):Nat->Nat->Nat->Bool
 |0,i,j=>z00z all i j
 |n+1,i,j=>z00z all i j||(match all[j]? with
  |some o=>o.after.toList.any λe=>Region.binds .any e&&depB all n i e.on
  |none=>false)
def ysb (all:List Oper) (i j:Nat):Bool:=depB all 8 i j||depB all 8 j i
theorem yue {ops:Array Oper}:∀(n:Nat) {i j:Nat},depB ops.toList n i j=true->Dep .any ops i j:=λn=>by
 have edge:∀{i j:Nat},z00z ops.toList i j=true->Dep .any ops i j:=λ{i j} h=>by
  unfold z00z at h
  split at h
  ·rename_i o ho
   rw [List.any_eq_true] at h
   obtain ⟨e,he,hb⟩:=h
   simp only [Bool.and_eq_true] at hb
   exact .one j o e (by simpa using ho) (by simpa using he) hb.1 (Nat.eq_of_beq_eq_true hb.2)
  ·cases h
 induction n with
 |zero=>intro i j h;exact edge h
 |succ n ih =>
  intro i j h
  simp only [depB,Bool.or_eq_true] at h
  rcases h with h|h
  · exact edge h
  · split at h
    · rename_i o ho
      rw [List.any_eq_true] at h
      obtain ⟨e,he,hb⟩:=h
      simp only [Bool.and_eq_true] at hb
      exact .more j o e (by simpa using ho) (by simpa using he) hb.1 (ih hb.2)
    · cases h
theorem zpw {ops:Array Oper} {i j:Nat} (h:ysb ops.toList i j=true):¬Free .any ops i j:=λhf=>by
 unfold ysb at h
 rw [Bool.or_eq_true] at h
 rcases h with h|h
 ·exact hf.1 (yue 8 h)
 ·exact hf.2 (yue 8 h)
end Go.Ab
namespace Go.Ab
open Go
set_option linter.unusedVariables false
set_option linter.unusedSimpArgs false
inductive zu9 where
 |ret
 |pan (v:V) (recovered:Bool)
def zu9.value:zu9->V
 | .pan v false=>v
 |_=>.nili
theorem LetsOut.mono {Q Q':Exit->Act->World->Prop} (hq:∀e a w,Q e a w->Q' e a w) (h:LetsOut Q):LetsOut Q':=by
 obtain ⟨a,w,h⟩:=h;exact ⟨a,w,hq _ _ _ h⟩
def yp6 (W:World) (g:Gh) (H:yz3):zu9->FrameMode->Prop
 | .ret,u=>u = .returning
 | .pan v r,u=>∃c,u = .panicking [{v:=c,recovered:=r}]∧Rel W g H v c
theorem yp6.mono {W:World} {g:Gh} {H:yz3} {m:zu9} {u:FrameMode} (h:yp6 W g H m u) {W':World} {g':Gh} {H':yz3} (s:Step W g H W' g' H'):yp6 W' g' H' m u:=by
 cases m with
 |ret=>exact h
 |pan v r=>obtain ⟨c,h1,h2⟩:=h;exact ⟨c,h1,h2.mono s⟩
theorem yp6.run {W:World} {g:Gh} {H:yz3} {m:zu9} {u:FrameMode} (h:yp6 W g H m u):u ≠ .run:=by
 cases m with
 |ret=>subst h;simp
 |pan v r=>obtain ⟨c,h1,h2⟩:=h;subst h1;simp
def z07f (W0:World) (g0:Gh) (H0:yz3) (c₀:Frame) (cs:List Frame) (Q:yzl->St->Prop) (m':zu9) (e:Exit) (a:Act) (cs':List Frame) (W:World):Prop :=
 ∃g σ e' u',ERel W g σ.H e e'∧(σ.e0=H0.E∧Step W0 g0 H0 W g σ.H)∧z0c W a g σ∧cs'={c₀ with mode:=u'}::cs∧yp6 W g σ.H m' u'∧Q e' σ
theorem z07f.out {W0:World} {g0:Gh} {H0:yz3} {c₀:Frame} {cs:List Frame} {Q:yzl->St->Prop} {m':zu9} {a:Act} {cs':List Frame} {W:World}:¬z07f W0 g0 H0 c₀ cs Q m' .outgrown a cs' W:=λ⟨_,_,_,_,h,_⟩=>by cases h
section
variable {P : Program}
theorem z00g {n:Nat} {W:World} {g:Gh} {H:yz3} {args:List V} {cargs:Array Value} (hG:Good W g H) (hA:zus W g H args cargs):z0c W {tmps:=cargs++Array.replicate (n-cargs.size) undef,defers:=[]} g ⟨args++List.replicate (n-args.length) .any,H,[],H.E⟩:=by
 refine ⟨hG,by simp [hA.1],λj v hj => ?_,rfl,by simp⟩
 rw [List.getElem?_append] at hj
 split at hj
 ·rename_i hlt
  rw [z5a (by rw [hA.1];exact hlt)]
  exact hA.2 j v hj
 ·rw [List.getElem?_replicate] at hj
  split at hj
  ·injection hj with hj;subst hj;exact .any _
  ·cases hj
end
end Go.Ab
namespace Go.Ab
open Go
set_option linter.unusedSimpArgs false
set_option linter.unusedVariables false
def PV.v:PV->V
 | .bool b=>.bool b
 | .int k n=>.int k n
 | .str s=>.str s
theorem PV.rel {W:World} {g:Gh} {H:yz3}:∀p:PV,Rel W g H p.v p.c
 | .bool b=>.bool b
 | .int k n=>.int k n
 | .str s=>.str s
theorem PV.of {W:World} {g:Gh} {H:yz3}:∀{p:PV} {c:Value},Rel W g H p.v c->c=p.c
 | .bool b,c,h=>by cases h;rfl
 | .int k n,c,h=>by cases h;rfl
 | .str s,c,h=>by cases h;rfl
section
variable {P : Program} {W : World} {g : Gh} {H : yz3}
theorem z062 {H':yz3} {i:Nat} {es:List (PV×PV)} (hG:Good W g H) (hget:H.get H.lv i=some (.map (es.map λp=>(p.1.v,p.2.v)))) (hno:¬Own g H' (g.blk H.lv i)) {c:Value} (h:Rel W g H (.map H.lv i) c):Rel W g H' (.mapc es) c:=by
 obtain ⟨en,clock,m1,m2,m3,m4,m5⟩:=hG.obj _ _ _ hget
 cases h with
 |map _ _ hd =>
  refine .mapc es _ en clock hno m1 ⟨by simpa using m2,m3,m4,λj p hj => ?_⟩
  obtain ⟨e,he,r1,r2⟩:=m5 j (p.1.v,p.2.v) (by rw [List.getElem?_map,hj];rfl)
  exact ⟨e,he,PV.of r1,PV.of r2⟩
theorem yvj (hG:Good W g H) {t kt vt:Nat} {es:List (PV×PV)} {c:Value} (ht:P.underlying t=some (.map kt vt)) (hx:Rel W g H (.mapc es) c):zav P W g H (do pure (.value (<-Instr.range t c))) (.ptr H.lv H.L.length 0) (H.push (.mit es [])):=by
 cases hx with
 |mapc _ b en clock hb hw he =>
  obtain ⟨h1,h2⟩:=zlg hG (O:=.mapIter (some b) clock #[] clock) (o:=.mit es []) 0 (λW' g' H' hW hg hH hst=>by
   refine ⟨en,clock,b,?_,?_,?_,he⟩
   · rw [hW,hg]
     simp only [Gh.add,and_self,if_true]
     exact z4h _ _
   · intro hn
     have hlt:b<W.heap.size:=(Array.getElem?_eq_some_iff.1 hw).1
     exact (hst.own _ hn).elim hb (λq=>by omega)
   · have hlt:b<W.heap.size:=(Array.getElem?_eq_some_iff.1 hw).1
     rw [hst.block _ hlt hb];exact hw)
  refine ⟨.pointer (some ⟨W.heap.size,0,none⟩),_,_,.inl ?_,h1,h2,?_⟩
  · simp [Instr.range,zz5 ht,getObj,Sem.run,hw,newObj]
  · have:=Rel.ptr (W:=W.alloc (.mapIter (some b) clock #[] clock)) (g:=g.add H.lv H.L.length W.heap.size 0) (H:=H.push (.mit es [])) H.lv H.L.length 0 (.inr ⟨rfl,rfl⟩)
    simpa [Gh.add] using this
theorem ycq {t len e0 sz:Nat} {ps:List (Nat×V)} {ws:List V} {cps:Array (Nat×Value)} (hG:Good W g H) (h:zhx P t len ps=some (.sl sz ws true)) (hlen0:len≠0) (hu0:P.underlying t=some (.slice e0)) (hl:cps.size=ps.length)
  (hr:∀(j i:Nat) (x:V),ps[j]? = some (i,x)->∃c,cps[j]? = some (i,c)∧Rel W g H x c):zav P W g H (do pure (.value (<-Instr.buildSlice t len cps))) (.hs H.lv H.L.length 0 0 ws.length false) (H.push (.arr 0 e0 sz ws (some ws.length))):=by
 unfold zhx at h
 split at h
 ·rename_i e hu
  split at h
  ·rename_i z hz
   split at h
   ·rename_i hc
    simp only [Bool.and_eq_true,beq_iff_eq,decide_eq_true_eq,List.all_eq_true] at hc
    obtain ⟨⟨⟨⟨⟨⟨⟨c1,c2⟩,c3⟩,c4⟩,c5⟩,c6⟩,c7⟩,c8⟩:=hc
    injection h with h
    obtain ⟨inf,hi⟩:=Option.isSome_iff_exists.1 c4
    have hsz:(sizeOf e).run P W = .ok (P.cellsOf e) W:=by simp [sizeOf,typeInfo,hi,Program.cellsOf]
    obtain ⟨zc,hz1,hz2⟩:=zv3 (W:=W) (g:=g) (H:=H) hz
    obtain ⟨zs1,zs3,zs2⟩:=ziq c1 hz2
    have hbig:¬(len * P.cellsOf e>2 ^ 24):=by omega
    by_cases h0:len=0
    ·exact (hlen0 h0).elim
    ·try rw [if_neg h0] at h
     injection h with hsz' hws _
     subst hsz';subst hws
     have he0:e0=e:=by rw [hu] at hu0;injection hu0 with hu0;injection hu0 with hu0;exact hu0.symm
     rw [he0]
     have hne:¬(len * P.cellsOf e=0):=by
      intro hm
      rcases Nat.mul_eq_zero.1 hm with q|q <;> omega
     let cells0:Array Value:=(Array.range (len * P.cellsOf e)).map (zc.cells[· % zc.cells.size]!)
     let zl:List V:=(List.range (len * P.cellsOf e)).map λi=>z.cells.getD (i % z.cells.length) .any
     have hrel0:zxh W g H zl cells0:=by
      have key:∀j v,zl[j]? = some v->∃k,z.cells[k]? = some v∧cells0.getD j undef=zc.cells.getD k undef:=λj v hj=>by
       have hjl:j<len * P.cellsOf e:=by
        have:=(List.getElem?_eq_some_iff.1 hj).1
        simpa [zl] using this
       simp only [zl,List.getElem?_map,List.getElem?_range hjl,Option.map_some,Option.some.injEq] at hj
       have hm:j % z.cells.length<z.cells.length:=Nat.mod_lt _ (by omega)
       have hv:z.cells[j % z.cells.length]? = some v:=by
        rw [List.getD_eq_getElem?_getD,List.getElem?_eq_getElem hm] at hj
        simp only [Option.getD_some] at hj
        rw [List.getElem?_eq_getElem hm,hj]
       have hm2:j % zc.cells.size<zc.cells.size:=by rw [zs1];exact hm
       refine ⟨_,hv,?_⟩
       have hr:(Array.range (len * P.cellsOf e))[j]? = some j:=by simp [hjl]
       simp only [cells0,Array.getD_eq_getD_getElem?,Array.getElem?_map,hr,Option.map_some,Option.getD_some]
       rw [getElem!_pos zc.cells (j % zc.cells.size) hm2]
       have hz':(zc.cells)[j % z.cells.length]? = some (zc.cells[j % zc.cells.size]):=by
        rw [<-zs1];exact Array.getElem?_eq_getElem hm2
       rw [hz'];rfl
      refine ⟨by simp [zl,cells0],λj v hj => ?_,λj v hj => ?_⟩
      all_goals
       obtain ⟨k,hk1,hk2⟩:=key j v hj
       rw [hk2]
       first|exact zs3 _ _ hk1|exact zs2 _ _ hk1
     have hfv:=zxq ps 0 zl c6 c7 (by simp [zl,c5])
     simp only [Nat.zero_mul,List.take_zero,List.nil_append] at hfv
     obtain ⟨rs,e1,e2⟩:=zqh ps cps.toList zl cells0 _ hfv hrel0 (by simpa using hl) (λj i x hj=>by simpa using hr j i x hj)
     have hxs:∀x∈ps.map (·.2),x.cells.length=P.cellsOf e:=λx hx=>by
      obtain ⟨p,hp,rfl⟩:=List.mem_map.1 hx
      exact (c7 p hp).2
     have hlen:(ps.map (·.2)).length=len:=by simp [c5]
     have hrs:rs.size=len * P.cellsOf e:=by
      rw [e2.1]
      have:∀l:List V,(∀x∈l,x.cells.length=P.cellsOf e)->(l.flatMap V.cells).length=l.length * P.cellsOf e:=by
       intro l
       induction l with
       |nil=>intro _;simp
       |cons x l ih =>
        intro hx
        rw [List.flatMap_cons,List.length_append,ih λy hy=>hx y (by simp [hy]),hx x (by simp),List.length_cons,Nat.succ_mul,Nat.add_comm]
      rw [this _ hxs,hlen]
     have hcl:len<=2 ^ 24:=Nat.le_trans (Nat.le_mul_of_pos_right _ c3) c8
     obtain ⟨g1,g2⟩:=zlg hG (O:=.cells rs e) (o:=.arr 0 e (P.cellsOf e) (ps.map (·.2)) (some (ps.map (·.2)).length)) len (λW' g' H' hW hg hH hst=>by
      have hcap:g'.cap H.lv H.L.length=len:=by rw [hg];simp [Gh.add]
      refine ⟨rs,?_,c3,by rw [hcap,hrs],by rw [hcap];exact Nat.le_trans hcl (by decide),by rw [hcap,hlen];exact Nat.le_refl _,λn hn=>by injection hn with hn;rw [hcap,<-hn,hlen],λj x hj=>hxs x (List.mem_of_getElem? hj),λj x t v hj ht=>e2.2.1 _ _ (zvb _ hxs j t x v hj ht),λj x t v hj ht=>(e2.2.2 _ _ (zvb _ hxs j t x v hj ht)).mono hst⟩
      rw [hW,hg]
      simp only [Gh.add,and_self,if_true]
      exact z4h _ _)
     refine ⟨.slice (some ⟨W.heap.size,0,none⟩) len len,_,_,.inl ?_,g1,g2,?_⟩
     ·have e1':Instr.fill (λi=>some (i * P.cellsOf e,P.cellsOf e)) (Array.map (λx=>zc.cells[x % zc.cells.size]!) (Array.range (len * P.cellsOf e))) cps.toList=some rs:=e1
      simp only [Instr.buildSlice,Sem.run_bind,zz5 hu,Result.andThen_ok,hsz,Sem.run_ite,hbig,hne,if_false,Sem.run_pure,hz1]
      simp [e1',newRow]
     ·rw [hlen]
      refine .hs _ _ _ _ _ _ _ _ _ (.inr ⟨rfl,rfl⟩) (λv ty sz xs cp hg=>Nat.zero_le _) λty sz xs cp hg => ?_
      have hgp:(H.push (.arr 0 e (P.cellsOf e) (ps.map (·.2)) (some len))).get H.lv H.L.length=some (.arr 0 e (P.cellsOf e) (ps.map (·.2)) (some len)):=by
       unfold yz3.get yz3.push;simp
      rw [hgp] at hg
      injection hg with hg;injection hg with _ h2 h3 h4 h5
      subst h4
      refine ⟨by simp [Gh.add],rfl,⟨Nat.le_refl _,by simp [Gh.add],λh=>by cases h⟩,by rw [hlen];omega⟩
   ·cases h
  ·cases h
 ·cases h
theorem z000 {es:List (PV×PV)} {en:Array MapEntry} {clock:Nat} (he:z00i es en clock):(en.toList.map (·.born)).Nodup:=by
 rw [List.Nodup,List.pairwise_iff_getElem]
 intro q q' hq hq' hlt' heq
 have hq2:q<en.size:=by simpa using hq
 have hq2':q'<en.size:=by simpa using hq'
 have:=he.2.2.1 q q' _ _ (Array.getElem?_eq_getElem hq2) (Array.getElem?_eq_getElem hq2') (by simpa using heq)
 omega
theorem ytk (hG:Good W g H) {l i j:Nat} {es:List (PV×PV)} {vis:List Nat} {p:PV×PV} {c:Value} (hg:H.get l i=some (.mit es (vis++[j]))) (hj:es[j]? = some p) (hx:Rel W g H (.ptr l i 0) c):zav P W g H (do pure (.value (<-Instr.entry c))) (.tup [p.1.v,p.2.v]) H:=by
 cases hx with
 |ptr _ _ _ hd =>
  obtain ⟨en,clock,mb,h1,h2,h3,h4⟩:=hG.obj _ _ _ hg
  obtain ⟨e,e1,e2,e3⟩:=h4.2.2.2 j p hj
  have hbj:zb5 en j=e.born:=by simp [zb5,e1]
  have h1':W.heap[g.blk l i]? = some (.mapIter (some mb) clock ((vis.map (zb5 en)).toArray.push e.born) clock):=by
   have:(List.map (zb5 en) (vis++[j])).toArray=(vis.map (zb5 en)).toArray.push e.born:=by simp [hbj]
   rw [<-this];exact h1
  have hent:=run_entry_at (P:=P) W (g.blk l i) mb clock (vis.map (zb5 en)).toArray en clock e h1' h3 (by simpa using Array.mem_of_getElem? e1) (z000 h4)
  refine ⟨.tuple #[e.key,e.val],W,g,.inl (by simp [hent]),.refl _ _ _,hG,.tup _ _ rfl λq v hq => ?_⟩
  match q with
  |0=>simp at hq;subst hq;simp only [e2];exact PV.rel _
  |1=>simp at hq;subst hq;simp only [e3];exact PV.rel _
  |q+2=>simp at hq
end
section
variable {P : Program}
theorem z02y {ops:Array Oper} {k:Nat} {σ:St} {Q:yzl->St->Prop} {o:Oper} {x:Operand} {l i:Nat} {es:List (PV×PV)} {vis:List Nat} (ho:ops[k]? = some o) (hw:z18 ops σ o=some true) (hop:o.op = .next x false) (hx:σ.ev x = .ptr l i 0) (hg:σ.H.get l i=some (.mit es vis))
  (hvis:∀q∈vis,q<es.length)
  (hend:(∀j,j<es.length->j∈vis)->zje P ops (k+1) (σ.put o.dst (.tup [.bool false])) Q)
  (hone:∀j p,es[j]? = some p->j∉vis->zje P ops (k+1) ({σ with H:=σ.H.set l i (.mit es (vis++[j]))}.put o.dst (.tup [.bool true,p.1.v,p.2.v])) Q):zje P ops k σ Q:=λW0 g0 H0 W a g hB hS hG=>by
 have hk:k<ops.size:=by
  rcases Nat.lt_or_ge k ops.size with q|q
  ·exact q
  ·rw [Array.getElem?_eq_none q] at ho;cases ho
 rw [show ops.size-k=(ops.size-(k+1))+1 by omega,List.range'_succ]
 simp only [wpOps,ho]
 rw [z1v hG hw,if_pos rfl]
 left
 unfold Oper.wp
 have hr:=hG.ev x
 rw [hx] at hr
 generalize hit:a.eval x=cx at hr
 cases hr with
 |ptr _ _ _ hd =>
  obtain ⟨en,clock,mb,h1,h2,h3,h4⟩:=hG.good.obj _ _ _ hg
  obtain ⟨m2,m3,m4,m5⟩:=h4
  replace h1:W.heap[g.blk l i]? = some (.mapIter (some mb) clock (vis.map (zb5 en)).toArray clock):=h1
  have hlt:g.blk l i<W.heap.size:=hG.good.lt _ _ _ hg
  have hhold:∀y∈en.toList,y.born<clock:=λy hy=>m3 y (by simpa using hy)
  have hborn:∀j,j<es.length->∃e,en[j]? = some e∧zb5 en j=e.born:=λj hj=>by
   have hj':j<en.size:=by rw [m2];exact hj
   exact ⟨en[j],Array.getElem?_eq_getElem hj',by simp [zb5,hj']⟩
  have hinj:∀j j',j<es.length->j'<es.length->zb5 en j=zb5 en j'->j=j':=λj j' hj hj' he=>by
   obtain ⟨e,e1,e2⟩:=hborn j hj
   obtain ⟨e',e3,e4⟩:=hborn j' hj'
   exact m4 j j' e e' e1 e3 (by rw [<-e2,<-e4,he])
  rcases run_next_at (P:=P) W o.type (g.blk l i) mb clock clock _ en clock h1 h3 hhold (Nat.le_refl _) with ⟨hz,hrr⟩|⟨e,he,w1,hw1,hrr⟩
  · have hall:∀j,j<es.length->j∈vis:=λj hj=>by
     obtain ⟨e,e1,e2⟩:=hborn j hj
     have hno:¬e∈leftOf en (vis.map (zb5 en)).toArray:=λhm=>by
      have:=Array.size_pos_of_mem hm
      omega
     have hmem:e∈en:=Array.mem_of_getElem? e1
     have:(vis.map (zb5 en)).contains e.born=true:=by
      cases hc:(vis.map (zb5 en)).contains e.born
      · exact (hno (by unfold leftOf;rw [Array.mem_filter];exact ⟨hmem,by simpa using hc⟩)).elim
      · rfl
     rw [List.contains_iff_mem,List.mem_map] at this
     obtain ⟨q,hq,hqb⟩:=this
     rw [<-e2] at hqb
     rw [<-hinj q j (hvis q hq) hj hqb];exact hq
    have hex:(execOp a.eval o).run P W = .ok (.value (.tuple #[.bool false])) W:=by unfold execOp;rw [hop];simp [hit,hrr]
    have hn:=hG.next (.refl _ _ _) hG.good (v:=.tup [.bool false]) (c:=.tuple #[.bool false]) (.tup _ _ rfl (λj v hj=>by
     cases j with
     |zero=>simp at hj;subst hj;exact .bool _
     |succ j=>simp at hj)) o.dst
    have hH:(σ.put o.dst (.tup [.bool false])).H=σ.H:=by cases o.dst <;> rfl
    have he0:(σ.put o.dst (.tup [.bool false])).e0=σ.e0:=by cases o.dst <;> rfl
    rw [hex]
    exact hend hall W0 g0 H0 W _ g hB (by rw [hH,he0];exact hS) hn
  · have he2:e∈en∧(vis.map (zb5 en)).contains e.born=false:=by
     have he':e∈leftOf en (vis.map (zb5 en)).toArray:=by simpa using he
     unfold leftOf at he'
     rw [Array.mem_filter] at he'
     exact ⟨he'.1,by simpa using he'.2⟩
    obtain ⟨j,hjl,hje⟩:=Array.getElem_of_mem he2.1
    have hj:j<es.length:=by rw [<-m2];exact hjl
    have hjs:en[j]? = some e:=by rw [Array.getElem?_eq_getElem hjl,hje]
    have hbj:zb5 en j=e.born:=by simp [zb5,hjs]
    have hnv:j∉vis:=λhm=>by
     have:e.born∈vis.map (zb5 en):=List.mem_map.2 ⟨j,hm,hbj⟩
     rw [<-List.contains_iff_mem,he2.2] at this;cases this
    have hp:es[j]? = some es[j]:=List.getElem?_eq_getElem hj
    obtain ⟨e',he',r1,r2⟩:=m5 j _ hp
    obtain rfl:e'=e:=by rw [hjs] at he';injection he' with h;exact h.symm
    have hw1h:w1.heap=W.heap:=by rcases hw1 with rfl|rfl <;> rfl
    have hheap:∀q,q≠g.blk l i->∀O,(Go.ChangeMaps.setBlock w1 (g.blk l i) O).heap[q]? = W.heap[q]? := λq hq O=>by
     show (w1.heap.setIfInBounds (g.blk l i) O)[q]? = _
     rw [Array.getElem?_setIfInBounds_ne (λh=>hq h.symm),hw1h]
    have hat:∀O,(Go.ChangeMaps.setBlock w1 (g.blk l i) O).heap[g.blk l i]? = some O:=λO=>by
     show (w1.heap.setIfInBounds (g.blk l i) O)[g.blk l i]? = _
     rw [Array.getElem?_setIfInBounds_self_of_lt (by rw [hw1h];exact hlt)]
    have hne:mb≠g.blk l i:=λe=>by rw [e,h1] at h3;cases h3
    obtain ⟨s1,s2⟩:=zo9 hG.good (o':=.mit es (vis++[j])) hg rfl (W':=Go.ChangeMaps.setBlock w1 (g.blk l i) (.mapIter (some mb) clock ((vis.map (zb5 en)).toArray.push e'.born) clock))
     (by rcases hw1 with rfl|rfl <;> rfl) (by rcases hw1 with rfl|rfl <;> rfl) (by rcases hw1 with rfl|rfl <;> rfl)
     (by show W.heap.size<=(w1.heap.setIfInBounds _ _).size;rw [Array.size_setIfInBounds,hw1h];exact Nat.le_refl _)
     (λb hb hbn=>hheap b hbn _) (λver ty sz xs cp he=>by cases he) (λhst=>by
       refine ⟨en,clock,mb,?_,λhn=>(hst.own _ hn).elim h2 (λq => ?_),?_,⟨m2,m3,m4,m5⟩⟩
       · rw [hat]
         have:(List.map (zb5 en) (vis++[j])).toArray=(vis.map (zb5 en)).toArray.push e'.born:=by simp [hbj]
         rw [<-this]
       · have:=(Array.getElem?_eq_some_iff.1 h3).1;omega
       · rw [hheap _ hne];exact h3)
    have hex:(execOp a.eval o).run P W = .ok (.value (.tuple #[.bool true,e'.key,e'.val])) (Go.ChangeMaps.setBlock w1 (g.blk l i) (.mapIter (some mb) clock ((vis.map (zb5 en)).toArray.push e'.born) clock)):=by
     unfold execOp;rw [hop];simp [hit,hrr]
    have hn:=hG.next s1 s2 (v:=.tup [.bool true,es[j].1.v,es[j].2.v]) (c:=.tuple #[.bool true,e'.key,e'.val]) (.tup _ _ rfl (λq v hq=>by
     match q with
     |0=>simp at hq;subst hq;exact .bool _
     |1=>simp at hq;subst hq;simp only [r1];exact PV.rel _
     |2=>simp at hq;subst hq;simp only [r2];exact PV.rel _
     |q+3=>simp at hq)) o.dst
    have hH:({σ with H:=σ.H.set l i (.mit es (vis++[j]))}.put o.dst (.tup [.bool true,es[j].1.v,es[j].2.v])).H=σ.H.set l i (.mit es (vis++[j])):=by cases o.dst <;> rfl
    have he0:({σ with H:=σ.H.set l i (.mit es (vis++[j]))}.put o.dst (.tup [.bool true,es[j].1.v,es[j].2.v])).e0=σ.e0:=by cases o.dst <;> rfl
    rw [hex]
    exact hone j es[j] hp hnv W0 g0 H0 _ _ g hB (by rw [hH,he0];exact ⟨hS.1,hS.2.trans s1⟩) hn
end
section
variable {P : Program}
theorem z02p {σ:St} {i:Nat} {es:List (PV×PV)} (hi:σ.H.L[i]? = some (some (.map (es.map λp=>(p.1.v,p.2.v))))) (hd:σ.d=[]) {os os':List (Nat×kz7)} (h5:(os.map (·.1)).Nodup) (hos:FOL (.map σ.H.lv i) (.mapc es) os os') (h4:∀p∈os,σ.H.L[p.1]? = some (some p.2)∧p.1≠i)
  {t':List V} (ht:FVL (.map σ.H.lv i) (.mapc es) σ.t t') :
  zyo σ ⟨t',⟨σ.H.lv,told σ.H.L (some i) os',σ.H.E⟩,[],σ.e0⟩∧(∀p'∈os',(told σ.H.L (some i) os')[p'.1]? = some (some p'.2))∧∀n,n<σ.H.L.length->n≠i->(∀p∈os,p.1≠n)->(told σ.H.L (some i) os')[n]? = σ.H.L[n]? := by
 have hnd:(os'.map (·.1)).Nodup:=by rw [hos.map];exact h5
 have hfind:∀p'∈os',os'.find? (λp=>p.1==p'.1)=some p':=λp' hp'=>by
  cases hq:os'.find? (λp=>p.1==p'.1) with
  |none=>rw [List.find?_eq_none] at hq;have:=hq p' hp';simp at this
  |some q =>
   have hq1:=List.find?_some hq
   have hq2:=List.mem_of_find?_eq_some hq
   simp at hq1
   obtain ⟨a,ha⟩:=List.mem_iff_getElem?.1 hp'
   obtain ⟨b,hb⟩:=List.mem_iff_getElem?.1 hq2
   have ha':(os'.map (·.1))[a]? = some p'.1:=by simp [ha]
   have hb':(os'.map (·.1))[b]? = some p'.1:=by simp [hb,hq1]
   have hlt:=(List.getElem?_eq_some_iff.1 ha').1
   have:=(List.getElem?_inj hlt hnd).1 (ha'.trans hb'.symm)
   subst this
   rw [ha] at hb;exact hb.symm
 have hfor:∀p'∈os',∃o,σ.H.L[p'.1]? = some (some o)∧p'.1≠i∧FO (.map σ.H.lv i) (.mapc es) o p'.2:=λp' hp'=>by
  obtain ⟨o,ho,hf⟩:=hos.mem p' hp'
  exact ⟨o,(h4 _ ho).1,(h4 _ ho).2,hf⟩
 refine ⟨?_,λp' hp' => ?_,λn hn hni hno => ?_⟩
 ·refine ywm (v:=.map σ.H.lv i) (r:=.mapc es) (zo4 _ _ _) (λm o' hm => ?_) ht hd λW g hG hown hf c hc => ?_
  ·have hlt:m<σ.H.L.length:=by have:=(List.getElem?_eq_some_iff.1 hm).1;rw [zo4] at this;exact this
   rw [zkb hlt] at hm
   injection hm with hm
   split at hm
   ·cases hm
   ·split at hm
    ·rename_i p hp
     injection hm with hm
     have hp1:=List.find?_some hp
     simp at hp1
     obtain ⟨o,h1,_,h3⟩:=hfor p (List.mem_of_find?_eq_some hp)
     exact ⟨o,by rw [<-hp1];exact h1,by rw [<-hm];exact h3⟩
    ·refine ⟨o',?_,.inl rfl⟩
     rw [List.getElem?_eq_getElem hlt] at hm ⊢
     simp at hm;rw [hm]
  ·have hget:σ.H.get σ.H.lv i=some (.map (es.map λp=>(p.1.v,p.2.v))):=by unfold yz3.get;rw [if_pos rfl,hi];rfl
   refine z062 hG hget (λ⟨l,i',o',ho',hob⟩ => ?_) hc
   have hgot:∃o,σ.H.get l i'=some o∧o'.blk g l i'=o.blk g l i'∧¬(l=σ.H.lv∧i'=i):=by
    unfold yz3.get at ho' ⊢
    dsimp only at ho' ⊢
    by_cases hl:l=σ.H.lv
    ·rw [if_pos hl] at ho' ⊢
     cases hq:(told σ.H.L (some i) os')[i']? with
     |none=>rw [hq] at ho';simp at ho'
     |some q =>
      have hlt:i'<σ.H.L.length:=by have:=(List.getElem?_eq_some_iff.1 hq).1;rw [zo4] at this;exact this
      rw [zkb hlt] at hq
      injection hq with hq
      rw [zkb hlt] at ho'
      simp only [Option.join_some] at ho'
      split at ho'
      · cases ho'
      · rename_i hne
        split at ho'
        · rename_i p hp
          injection ho' with ho'
          have hp1:=List.find?_some hp
          simp at hp1
          obtain ⟨o,h1,_,h3⟩:=hfor p (List.mem_of_find?_eq_some hp)
          rw [hp1] at h1
          exact ⟨o,by rw [h1];rfl,by rw [<-ho'];exact h3.blk g l i',λe=>hne (by rw [e.2])⟩
        · exact ⟨o',ho',rfl,λe=>hne (by rw [e.2])⟩
    ·rw [if_neg hl] at ho' ⊢
     exact ⟨o',ho',rfl,λe=>hl e.1⟩
   obtain ⟨o,w1,w2,w3⟩:=hgot
   exact w3 (hG.inj _ _ _ _ _ _ w1 hget (by rw [<-w2];exact hob))
 ·obtain ⟨o,h1,h2,_⟩:=hfor p' hp'
  have hlt:=(List.getElem?_eq_some_iff.1 h1).1
  rw [zkb hlt,if_neg (λe=>h2 (by injection e with e;exact e.symm)),hfind p' hp']
 ·rw [zkb hn,if_neg (λe=>hni (by injection e with e;exact e.symm))]
  have:os'.find? (λp=>p.1==n)=none:=by
   rw [List.find?_eq_none];intro p hp
   have:p.1∈os.map (·.1):=by rw [<-hos.map];exact List.mem_map_of_mem hp
   obtain ⟨q,hq,hqn⟩:=List.mem_map.1 this
   have:=hno q hq
   simp;omega
  rw [this,List.getElem?_eq_getElem hn];rfl
end
end Go.Ab
namespace Go.Ab
open Go
set_option linter.unusedVariables false
def pIf {α:Type} (b:Bool) (x y:Option α):Option α:=match b with|true=>x|false=>y
theorem yb7 {α:Type} (b:Bool) (x y:Option α):pIf b x y=if b then x else y:=by cases b <;> rfl
def zmg {α β:Type} (o:Option α) (k:α->Option β):Option β:=o.bind k
noncomputable def y82 {α R:Type} (es:List (List UInt8×α)) (f:List UInt8->α->List (List UInt8×α)->Option R) (g:Option R):Option R :=
 open Classical in
 match es with
 |[]=>g
 |e::r=>if h:∃z,∀i p,(e::r)[i]? = some p->f p.1 p.2 ((e::r).eraseIdx i)=some z then some h.choose else none
def pOp {α:Type} (o:Oper) (x:Option α):Option α:=x
inductive Res (X R:Type) where
 |ok (r:R)
 |pan (x:X)
def y60 {X R S:Type} (o:Res X R) (f:R->Option S) (g:X->Option S):Option S:=match o with
 | .ok r=>f r
 | .pan x=>g x
inductive DTy where
 |bool
 |int (k:IntKind)
 |str
 |nat
 |sl (t:DTy)
 |st (i:Nat)
 deriving DecidableEq
def DTy.S (T:Nat->Type):DTy->Type
 | .bool=>Bool
 | .int _=>Int
 | .str=>List UInt8
 | .nat=>Nat
 | .sl t=>List (t.S T)
 | .st i=>T i
def HL (T:Nat->Type):List DTy->Type
 |[]=>Unit
 |t::l=>t.S T×HL T l
def HL.app {T:Nat->Type}:{a b:List DTy}->HL T a->HL T b->HL T (a++b)
 |[],_,_,y=>y
 |_::_,_,x,y=>(x.1,HL.app x.2 y)
def HL.fst {T:Nat->Type}:(a:List DTy)->{b:List DTy}->HL T (a++b)->HL T a
 |[],_,_=>()
 |_::a,_,x=>(x.1,HL.fst a x.2)
def HL.snd {T:Nat->Type}:(a:List DTy)->{b:List DTy}->HL T (a++b)->HL T b
 |[],_,x=>x
 |_::a,_,x=>HL.snd a x.2
structure Dat where
 T:Nat->Type
 fl:Nat->List DTy
 get:∀i,T i->HL T (fl i)
 make:∀i,HL T (fl i)->T i
 enc:∀i,T i->V
 ty:Nat->Option DTy
inductive TV (T:Nat->Type):Type where
 |any
 |bool (b:Bool)
 |int (k:IntKind) (n:Int)
 |str (s:List UInt8)
 |nilp
 |nils
 |mapn
 |nilf
 |nili
 |sl (t:DTy) (xs:List (t.S T)) (fl:Nat)
 |own (s:Nat)
 |osl (s:Nat) (lo:Int)
 |ptr (s off:Nat)
 |bp (s off:Nat)
 |ref (cs:List (TV T)) (off:Nat)
 |ap (s:Nat) (t:DTy) (i:Int) (x:t.S T) (off:Nat)
 |map (s:Nat)
 |mc (t:DTy) (es:List (List UInt8×t.S T))
 |fn (f:Nat) (first caps:List (TV T))
 |iface (t:Nat) (v:TV T)
 |agg (cs:List (TV T))
 |tup (vs:List (TV T))
inductive TO (T:Nat->Type):Type where
 |cells (cs:List (TV T))
 |acc (ty:Nat) (t:DTy) (xs:List (t.S T)) (w:Bool)
 |siter (s:List UInt8) (pos:Nat)
 |mp (ty:Nat) (t:DTy) (es:List (List UInt8×t.S T))
 |mit (t:DTy) (last:Option (List UInt8×t.S T)) (es:List (List UInt8×t.S T))
 |bld (ty:Nat) (b:Option Nat)
 |gone
structure TS (T:Nat->Type) where
 t:List (Nat×TV T)
 o:List (Nat×TO T)
 nx:Nat
 nt:Nat
 d:List (Nat×List (TV T)):=[]
def fnd {α:Type}:List (Nat×α)->Nat->Option α
 |[],_=>none
 |(i,a)::r,j=>match Nat.beq i j with
  |true=>some a
  |false=>fnd r j
section
variable {T : Nat → Type}
def TV.cells:TV T->List (TV T)
 | .agg cs=>cs
 |v=>[v]
def TV.leaf:TV T->Bool
 | .any| .agg _| .tup _=>false
 |_=>true
def TV.z0g:TV T->Bool
 | .agg _=>true
 |v=>v.leaf
def TV.ze1:Value->TV T
 | .bool b=>.bool b
 | .int k n=>.int k n
 | .string s=>.str s.data.toList
 | .pointer none=>.nilp
 | .slice none 0 0=>.nils
 | .map none=>.mapn
 | .nilFunc=>.nilf
 | .nilIface=>.nili
 |_=>.any
def TV.ofC:Value->TV T
 | .agg cs=>if cs.toList.all (·.oneCell') then .agg (cs.toList.map TV.ze1) else .any
 | .tuple cs=>.tup (cs.toList.map TV.ze1)
 | .iface t v=>.iface t (TV.ze1 v)
 |v=>TV.ze1 v
def TS.ev (ts:TS T):Operand->Option (TV T)
 | .tmp t=>fnd ts.t t
 | .const v=>some (TV.ofC v)
 | .func f=>some (.fn f [] [])
 | .global _=>none
def TS.evs (ts:TS T):List Operand->Option (List (TV T))
 |[]=>some []
 |x::xs=>match ts.ev x,ts.evs xs with
  |some v,some vs=>some (v::vs)
  |_,_=>none
inductive FR (α:Type) where
 |ok (a:α)
 |frz (s:Nat)
 |bad
def FR.of {α:Type}:Option α->FR α
 |some a=>.ok a
 |none=>.bad
end
section
variable (D : Dat)
def Dat.len:DTy->Nat
 | .st i=>(D.fl i).length
 |_=>1
def Dat.el:(t:DTy)->t.S D.T->V
 | .bool,b=>.bool b
 | .int k,n=>.int k n
 | .str,s=>.str s
 | .nat,_=>.any
 | .sl t,xs=>.sl (D.len t) (List.map (Dat.el t) xs) false
 | .st i,x=>D.enc i x
def Dat.els:(l:List DTy)->HL D.T l->List V
 |[],_=>[]
 |t::l,x=>D.el t x.1::Dat.els l x.2
def Dat.leaf:(t:DTy)->t.S D.T->TV D.T
 | .bool,b=>.bool b
 | .int k,n=>.int k n
 | .str,s=>.str s
 | .nat,_=>.any
 | .sl t,xs=>.sl t xs 0
 | .st _,_=>.any
def Dat.leaves:(l:List DTy)->HL D.T l->List (TV D.T)
 |[],_=>[]
 |t::l,x=>D.leaf t x.1::Dat.leaves l x.2
def Dat.tv:(t:DTy)->t.S D.T->TV D.T
 | .st i,x=>.agg (D.leaves (D.fl i) (D.get i x))
 | .bool,b=>.bool b
 | .int k,n=>.int k n
 | .str,s=>.str s
 | .nat,_=>.any
 | .sl t,xs=>.sl t xs 0
def zyr {T:Nat->Type} (a b:DTy) (x:List (List UInt8×a.S T)):Option (List (List UInt8×b.S T)) :=
 if h:a=b then some (h▸x) else none
def DTy.flat:DTy->Bool
 | .bool| .int _| .str=>true
 |_=>false
def zs9 {T:Nat->Type} (a b:DTy) (x:List (a.S T)):Option (List (b.S T)) :=
 if h:a=b then some (h▸x) else none
def yrk:(t:DTy)->TV D.T->FR (t.S D.T)
 | .bool,.bool b=>.ok b
 | .int k,.int k' n=>if k=k' then .ok n else .bad
 | .str,.str s=>.ok s
 | .sl t,.sl t' xs _=>FR.of (zs9 t' t xs)
 | .sl _,.nils=>.ok []
 | .sl _,.own s=>.frz s
 |_,_=>.bad
def zkc:(l:List DTy)->List (TV D.T)->FR (HL D.T l)
 |[],[]=>.ok ()
 |t::l,v::vs=>match yrk D t v with
  | .ok x=>match zkc l vs with
    | .ok xs=>.ok (x,xs)
    | .frz s=>.frz s
    | .bad=>.bad
  | .frz s=>.frz s
  | .bad=>.bad
 |_,_=>.bad
def asD:(t:DTy)->TV D.T->FR (t.S D.T)
 | .st i,.agg cs=>match zkc D (D.fl i) cs with
   | .ok x=>.ok (D.make i x)
   | .frz s=>.frz s
   | .bad=>.bad
 | .st _,_=>.bad
 |t,v=>yrk D t v
def yt2 (t:DTy):List (TV D.T)->FR (List (t.S D.T))
 |[]=>.ok []
 |v::vs=>match asD D t v with
  | .ok x=>match yt2 t vs with
    | .ok xs=>.ok (x::xs)
    | .frz s=>.frz s
    | .bad=>.bad
  | .frz s=>.frz s
  | .bad=>.bad
end
section
variable {T : Nat → Type} (P : Program)
def tRd (t:Nat) (cs:List (TV T)) (off:Nat):Option (TV T) :=
 match P.underlying t with
 |none=>none
 |some (.struct _)|some (.array _ _)=>if off+P.cellsOf t<=cs.length then some (.agg ((cs.drop off).take (P.cellsOf t))) else none
 |some _=>cs[off]?
def y25 (s f:Nat) (x:TV T):Option (TV T) :=
 match zvm P s f with
 |none=>none
 |some o=>match x with
  | .ref cs off=>some (.ref cs (off+o))
  | .ptr s off=>some (.ptr s (off+o))
  | .ap s t i x off=>some (.ap s t i x (off+o))
  | .bp s off=>some (.bp s (off+o))
  |_=>none
def yyu (s f:Nat) (x:TV T):Option (TV T) :=
 match P.underlying s with
 |some (.struct fs)=>match fs[f]? with
  |some y=>match x with
   | .agg cs=>tRd P y.type cs y.offset
   |_=>none
  |none=>none
 |_=>none
def ycv (i:Nat):TV T->Option (TV T)
 | .tup vs=>vs[i]?
 |_=>none
def tNil:TV T->Option (TV T)
 | .ptr s off=>some (.ptr s off)
 | .ref cs off=>some (.ref cs off)
 | .ap s t i x off=>some (.ap s t i x off)
 | .bp s off=>some (.bp s off)
 | .fn f a b=>some (.fn f a b)
 |_=>none
def tUn (op:UnOp) (x:TV T):Option (TV T) :=
 match op,x with
 | .neg,.int k n=>some (.int k (k.wrap (0-n)))
 | .not,.bool b=>some (.bool (!b))
 | .xor,.int k n=>some (.int k (bits .xor k (if k.signed then -1 else k.max) n))
 |_,_=>none
def ydq (s d:Nat) (x:TV T):Option (TV T) :=
 match x with
 | .int _ n=>match P.underlying s,P.underlying d with
   |some _,some (.int k)=>some (.int k (k.wrap n))
   |_,_=>none
 | .str a=>match P.underlying s,P.underlying d with
   |some _,some .string=>some (.str a)
   |_,_=>none
 |_=>none
def zyn (x:TV T) (asserted:Nat) (ok:Bool):Option (TV T) :=
 match P.underlying asserted,x with
 |some (.interface _),_=>none
 |some _,.iface t v=>if t=asserted then some (if ok then .tup [v,.bool true] else v) else none
 |_,_=>none
def ybf (max:Bool):List (TV T)->Option (TV T)
 |[.int k x,.int _ y]=>some (.int k (match max with|true=>mxI x y|false=>mnI x y))
 |[.int k x,.int _ y,.int _ z]=>some (.int k (match max with|true=>mxI (mxI x y) z|false=>mnI (mnI x y) z))
 |_=>none
def zwl (cs:List (TV T)) (off:Nat) (xs:List (TV T)):List (TV T):=cs.take off++xs++cs.drop (off+xs.length)
def ymn (place:Nat->Option (Nat×Nat)) (cells:List (TV T)):List (Nat×TV T)->Option (List (TV T))
 |[]=>some cells
 |(i,x)::rest=>match place i with
  |none=>none
  |some (off,size)=>if x.z0g&&x.cells.length==size&&decide (off+size<=cells.length) then ymn place (zwl cells off x.cells) rest else none
def y23 (ts:TS T):List (Nat×Operand)->Option (List (Nat×TV T))
 |[]=>some []
 |(i,x)::r=>match ts.ev x,y23 ts r with
  |some v,some vs=>some ((i,v)::vs)
  |_,_=>none
def ytx (t:Nat):Option (TV T):=((P.info? t).bind (·.zero)).map TV.ofC
def yxf (t:Nat) (ps:List (Nat×TV T)):Option (TV T) :=
 match ytx (T:=T) P t with
 |some (.agg z)=>match P.underlying t with
  |some (.struct fs)=>match y7v P fs.toList with
   |some places=>(ymn (λi=>places[i]?) z ps).map .agg
   |none=>none
  |some (.array _ e)=>if (P.info? e).isSome then (ymn (λi=>some (i * P.cellsOf e,P.cellsOf e)) z ps).map .agg else none
  |_=>none
 |_=>none
def TV.odd:TV T->Bool
 | .int _ _| .str _| .any=>false
 |_=>true
mutual
def yts:Nat->Nat->TV T->TV T->Option Bool
 |0,_,_,_=>none
 |d+1,t,x,y =>
  match x,y with
  | .bool a,.bool b=>match P.underlying t with|some .bool=>some (a==b)|_=>none
  | .int k a,.int k' b=>match P.underlying t with|some (.int _)=>if k=k' then some (a==b) else none|_=>none
  | .str a,.str b=>match P.underlying t with|some .string=>some (a==b)|_=>none
  | .agg xs,.agg ys=>match P.underlying t with|some (.struct fs)=>if P.stoodInHeld t then none else yct d fs.toList xs ys|_=>none
  | .nilp,.nilp=>match P.underlying t with|some (.pointer _)=>some true|_=>none
  | .nilp,.ptr _ _| .nilp,.ref _ _=>match P.underlying t with|some (.pointer _)=>some false|_=>none
  | .ptr _ _,.nilp| .ref _ _,.nilp=>match P.underlying t with|some (.pointer _)=>some false|_=>none
  | .mapn,.mapn=>match P.underlying t with|some (.map _ _)=>some true|_=>none
  | .nilf,.nilf=>match P.underlying t with|some (.func ..)=>some true|_=>none
  | .nilf,.fn _ _ _| .fn _ _ _,.nilf=>match P.underlying t with|some (.func ..)=>some false|_=>none
  | .nili,.iface _ _| .iface _ _,.nili=>match P.underlying t with|some (.interface _)=>some false|_=>none
  |_,_=>none
def yct:Nat->List Field->List (TV T)->List (TV T)->Option Bool
 |0,_,_,_=>none
 |_,[],_,_=>some true
 |d+1,f::fs,xs,ys =>
  if f.name = "_" then yct d fs xs ys else
  match tRd P f.type xs f.offset,tRd P f.type ys f.offset with
  |some a,some b=>match yts d f.type a b,yct d fs xs ys with
   |some r,some s=>some (r&&s)
   |_,_=>none
  |_,_=>none
end
def y3q (t:Nat) (x y:TV T):Bool :=
 match x,y with
 | .agg _,.agg _ => !P.eqGuardType P.depth t
 | .nili,.nili=>false
 | .any,_|_,.any=>false
 |_,_=>true
def shl (k:IntKind) (a b:Int):Option Int:=if b<0 then none else some (k.wrap (a * 2 ^ (min b.toNat k.bits)))
def shr (k:IntKind) (a b:Int):Option Int:=if b<0 then none else some (a.fdiv (2 ^ (min b.toNat k.bits)))
def tBin {R:Type} (op:BinOp) (t:Nat) (x y:TV T) (k:TV T->Option R):Option R :=
 match x,y with
 | .int i a,.int i' b=>match op with
   | .shl=>zmg (shl i a b) λz=>k (.int i z)
   | .shr=>zmg (shr i a b) λz=>k (.int i z)
   |_=>if i=i' then (match op with
    | .add=>k (.int i (i.wrap (a+b)))
    | .sub=>k (.int i (i.wrap (a-b)))
    | .mul=>k (.int i (i.wrap (a * b)))
    | .quo=>zmg (quo i a b) λz=>k (.int i z)
    | .rem=>zmg (rem i a b) λz=>k (.int i z)
    | .eql=>k (.bool (a==b))
    | .neq=>k (.bool (a != b))
    | .lss=>k (.bool (decide (a<b)))
    | .leq=>k (.bool (decide (a<=b)))
    | .gtr=>k (.bool (decide (a>b)))
    | .geq=>k (.bool (decide (a>=b)))
    | .and=>k (.int i (bits .and i a b))
    | .or=>k (.int i (bits .or i a b))
    | .xor=>k (.int i (bits .xor i a b))
    | .andNot=>k (.int i (bits .andNot i a b))
    |_=>none) else none
 | .str a,.str b=>match op with
   | .add=>zmg (cat a b) λz=>k (.str z)
   | .eql=>k (.bool (a==b))
   | .neq=>k (.bool (!(a==b)))
   | .lss=>k (.bool (Op.bytesLess a b))
   | .leq=>k (.bool (Op.bytesLess a b||a==b))
   | .gtr=>k (.bool (!(Op.bytesLess a b||a==b)))
   | .geq=>k (.bool (!Op.bytesLess a b))
   |_=>none
 |x,y=>match op with
  | .eql=>if x.odd&&y3q P t x y then (match yts P 24 t x y with|some r=>k (.bool r)|none=>none) else none
  | .neq=>if x.odd&&y3q P t x y then (match yts P 24 t x y with|some r=>k (.bool (!r))|none=>none) else none
  |_=>none
end
section
variable (P : Program) (D : Dat)
def ypu {T:Nat->Type}:Option Nat->TV T
 |none=>.nils
 |some s=>.own s
def yyk (s:List UInt8):List Int:=s.map λb=>((b.toNat:Nat):Int)
def yyg:List Int->Option (List UInt8)
 |[]=>some []
 |x::r=>match x,yyg r with
  | .ofNat m,some s=>match Nat.ble m 255 with
    |true=>some (m.toUInt8::s)
    |false=>none
  |_,_=>none
def z00n (ts:TS D.T) (t:Nat):TV D.T->Option (TV D.T)
 | .ref cs off=>tRd P t cs off
 | .ptr s off=>match fnd ts.o s with
   |some (.cells cs)=>tRd P t cs off
   |_=>none
 | .ap s τ i x off=>match fnd ts.o s with
   |some (.acc _ _ _ _)=>tRd P t (D.tv τ x).cells off
   |_=>none
 | .bp s off=>match fnd ts.o s with
   |some (.bld _ b)=>tRd P t [.any,ypu b] off
   |_=>none
 |_=>none
def tLen (ts:TS D.T) (t:Nat) (x:TV D.T):Option (TV D.T) :=
 match x with
 | .str s=>match P.underlying t with|some .string=>some (.int .i64 s.length)|_=>none
 | .nils=>match P.underlying t with|some (.slice _)=>some (.int .i64 0)|_=>none
 | .sl _ xs _=>match P.underlying t with|some (.slice _)=>some (.int .i64 xs.length)|_=>none
 | .own s=>match P.underlying t,fnd ts.o s with
   |some (.slice _),some (.acc _ _ xs _)=>some (.int .i64 xs.length)
   |_,_=>none
 | .agg _=>match P.underlying t with|some (.array n _)=>some (.int .i64 n)|_=>none
 | .map s=>match P.underlying t,fnd ts.o s with
   |some (.map _ _),some (.mp _ _ es)=>some (.int .i64 es.length)
   |_,_=>none
 |_=>none
def zoe (t len:Nat) (ps:List (Nat×TV D.T)):FR (TV D.T) :=
 match P.underlying t with
 |some (.slice e)=>match zeroV P e,D.ty e with
  |some z,some τ =>
   if z.z0g&&z.cells.length==P.cellsOf e&&decide (0<P.cellsOf e)&&(P.info? e).isSome&&ps.length==len&&(ps.map (·.1)==List.range len)&&ps.all (λp=>p.2.z0g&&p.2.cells.length==P.cellsOf e)&&decide (len * P.cellsOf e<=2 ^ 24)&&D.len τ==P.cellsOf e then
    (match yt2 D τ (ps.map (·.2)) with
    | .ok xs=>.ok (.sl τ xs (if len=0 then 2 else 1))
    | .frz s=>.frz s
    | .bad=>.bad)
   else .bad
  |_,_=>.bad
 |_=>.bad
def tP1 (ts:TS D.T) (op:Op):FR (TV D.T) :=
 match op with
 | .move x=>.of (ts.ev x)
 | .assign x=>.of (ts.ev x)
 | .load t a=>match ts.ev a with|some a=>.of (z00n P D ts t a)|none=>.bad
 | .nilCheck x=>match ts.ev x with|some x=>.of (tNil x)|none=>.bad
 | .unOp o _ x=>match ts.ev x with|some x=>.of (tUn o x)|none=>.bad
 | .convert s d x=>match ts.ev x with|some x=>.of (ydq P s d x)|none=>.bad
 | .makeInterface t x=>match ts.ev x with|some x=>if P.concrete t then .ok (.iface t x) else .bad|none=>.bad
 | .makeFunc (.func f) first caps=>match ts.evs first.toList,ts.evs caps.toList with
   |some a,some b=>.ok (.fn f a b)
   |_,_=>.bad
 | .fieldAddr s x f=>match ts.ev x with|some x=>.of (y25 P s f x)|none=>.bad
 | .field s x f=>match ts.ev x with|some x=>.of (yyu P s f x)|none=>.bad
 | .typeAssert x _ u ok=>match ts.ev x with|some x=>.of (zyn P x u ok)|none=>.bad
 | .extract x i=>match ts.ev x with|some x=>.of (ycv i x)|none=>.bad
 | .build t ps=>match y23 ts ps.toList with|some ps=>.of (yxf P t ps)|none=>.bad
 | .buildSlice t len ps=>match y23 ts ps.toList with|some ps=>zoe P D t len ps|none=>.bad
 | .call c=>match c.callee with
   | .builtin .len=>match c.args.toList,c.argTypes.toList with
     |[x],[t]=>match ts.ev x with|some x=>.of (tLen P D ts t x)|none=>.bad
     |_,_=>.bad
   | .builtin .min=>match ts.evs c.args.toList with|some l=>.of (ybf false l)|none=>.bad
   | .builtin .max=>match ts.evs c.args.toList with|some l=>.of (ybf true l)|none=>.bad
   |_=>.bad
 |_=>.bad
def y5e {R:Type}:Nat->Int->(Nat->Option R)->Option R
 |0,_,_=>none
 |1,_,f=>f 0
 |m+2,n,f=>pIf (n==Int.ofNat (m+1)) (f (m+1)) (y5e (m+1) n f)
def inR (len:Nat) (n:Int):Option Unit:=if 0<=n∧n<(len:Int) then some () else none
def strB (P:Program) (e:Nat):Bool:=match P.underlying e with
 |some .string=>true
 |_=>false
def ybi {T:Nat->Type} {R:Type} (P:Program) (len e:Nat) (x:TV T) (k:TV T->Option R) (n:Nat):Option R :=
 if n<len∧(P.underlying e).isSome then (match x with
  | .ref cs off=>k (.ref cs (off+n * P.cellsOf e))
  | .ptr s off=>k (.ptr s (off+n * P.cellsOf e))
  | .ap s t i x off=>k (.ap s t i x (off+n * P.cellsOf e))
  |_=>none) else none
def y2c {R:Type} (ts:TS D.T) (t:Nat) (x i:TV D.T) (k:TV D.T->Option R):Option R :=
 match i with
 | .int _ n=>match P.underlying t with
   |some (.slice e)=>if (P.underlying e).isSome then (match x with
    | .sl τ xs _=>if D.len τ=P.cellsOf e then zmg (ix xs n) λy=>k (.ref (D.tv τ y).cells 0) else none
    | .own s=>match fnd ts.o s with
      |some (.acc _ τ xs _)=>if D.len τ=P.cellsOf e then zmg (ix xs n) λy=>k (.ap s τ n y 0) else none
      |_=>none
    |_=>none) else none
   |some (.array len e)=>match strB P e with
    |true=>zmg (inR len n) λ_=>y5e len n (ybi P len e x k)
    |false=>(match n with
     | .ofNat n=>ybi P len e x k n
     |_=>none)
   |_=>none
 |_=>none
def yyd {R:Type} (t:Nat) (x i:TV D.T) (k:TV D.T->Option R):Option R :=
 match i with
 | .int _ n=>match x with
   | .str s=>match P.underlying t with
     |some .string=>zmg (ix s n) λb=>k (.int .u8 b.toNat)
     |_=>none
   | .agg cs=>match P.underlying t with
     |some (.array len e)=>match D.ty e with
      |some τ=>if cs.length=len∧P.cellsOf e=1∧(P.underlying e).isSome∧(P.underlying e).any (λd => !TypeDesc.isAgg d) then (match zkc D (List.replicate cs.length τ) cs with
       | .ok _=>match yt2 D τ cs with
         | .ok xs=>zmg (ix xs n) λy=>k (D.leaf τ y)
         |_=>none
       |_=>none) else none
      |none=>none
     |_=>none
   |_=>none
 |_=>none
def ys4 (d:Int):Option (TV D.T)->Option Int
 |none=>some d
 |some (.int _ x)=>some x
 |_=>none
def yxx {R:Type} (t:Nat) (x:TV D.T) (lo hi:Option (TV D.T)) (k:TV D.T->Option R) (kf:Nat->Option R):Option R :=
 match x with
 | .str s=>match P.underlying t with
   |some .string=>match ys4 D 0 lo,ys4 D s.length hi with
    |some l,some h=>zmg (sub s l h) λy=>k (.str y)
    |_,_=>none
   |_=>none
 | .sl τ xs fl=>match P.underlying t with
   |some (.slice e)=>if D.len τ=P.cellsOf e∧(P.underlying e).isSome then (match ys4 D 0 lo,ys4 D xs.length hi with
     |some l,some h=>zmg (sub xs l h) λy=>k (.sl τ y (match hi with|none=>min fl 1|some _=>0))
     |_,_=>none) else none
   |_=>none
 | .own s=>kf s
 |_=>none
def oev (ts:TS D.T):Option Operand->Option (Option (TV D.T))
 |none=>some none
 |some x=>(ts.ev x).map some
def y4b {α:Type} (xs:List α) (a:Int):Option Unit:=if 0<=a∧a<=xs.length∧0<xs.length then some () else none
def tCut {R:Type} (ts:TS D.T) (t:Nat) (x lo:TV D.T) (k:TV D.T->Option R) (kf:Option R):Option R :=
 match x,lo with
 | .own s,.int .i64 a=>match P.underlying t,fnd ts.o s with
   |some (.slice e),some (.acc _ τ xs true)=>if D.len τ=P.cellsOf e∧(P.underlying e).isSome then zmg (y4b xs a) λ_=>k (.osl s a) else none
   |_,_=>none
 |_,_=>kf
def ysd {R:Type} (ts:TS D.T) (t:Nat) (x key:TV D.T) (ok:Bool) (k:TV D.T->Option R):Option R :=
 match P.underlying t,key with
 |some (.map kt e),.str s=>match P.underlying kt,ytx (T:=D.T) P e with
  |some .string,some z=>match x with
   | .map q=>match fnd ts.o q with
     |some (.mp _ τ es)=>match asD D τ z with
      | .ok z0=>(match ok with
        |true=>k (.tup [D.tv τ ((z3p es s).getD z0),.bool (z3p es s).isSome])
        |false=>k (D.tv τ ((z3p es s).getD z0)))
      |_=>none
     |_=>none
   |_=>none
  |_,_=>none
 |_,_=>none
def tP {R:Type} (ts:TS D.T) (op:Op) (k:TV D.T->Option R) (kf:Nat->Option R):Option R :=
 match op with
 | .pick c a b=>match ts.ev c,ts.ev a,ts.ev b with
   |some (.bool t),some x,some y=>pIf t (k x) (k y)
   |_,_,_=>none
 | .binOp o t x y _=>match ts.ev x,ts.ev y with
   |some x,some y=>tBin P o t x y k
   |_,_=>none
 | .indexAddr t x i=>match ts.ev x,ts.ev i with
   |some x,some i=>y2c P D ts t x i k
   |_,_=>none
 | .index t x i=>match ts.ev x,ts.ev i with
   |some x,some i=>yyd P D t x i k
   |_,_=>none
 | .lookup t x i ok=>match ts.ev x,ts.ev i with
   |some x,some i=>ysd P D ts t x i ok k
   |_,_=>none
 | .slice t x lo hi mx=>match ts.ev x,oev D ts lo,oev D ts hi,mx with
   |some x,some lo,some hi,none=>yxx P D t x lo hi k kf
   |_,_,_,_=>none
 |op=>match tP1 P D ts op with
  | .ok v=>k v
  | .frz s=>kf s
  | .bad=>none
mutual
def TV.ren (s s':Nat):TV D.T->TV D.T
 | .own j=>if j=s then .own s' else .own j
 | .agg cs=>.agg (TV.y0q s s' cs)
 | .tup cs=>.tup (TV.y0q s s' cs)
 |v=>v
def TV.y0q (s s':Nat):List (TV D.T)->List (TV D.T)
 |[]=>[]
 |v::vs=>TV.ren s s' v::TV.y0q s s' vs
end
mutual
def TV.frz (s:Nat) (m:Bool) (z:TV D.T):TV D.T->TV D.T
 | .own j=>match m with
   |true=>.own j
   |false=>if j=s then z else .own j
 | .map j=>match m with
   |true=>if j=s then z else .map j
   |false=>.map j
 | .agg cs=>.agg (TV.yu5 s m z cs)
 | .tup cs=>.tup (TV.yu5 s m z cs)
 |v=>v
def TV.yu5 (s:Nat) (m:Bool) (z:TV D.T):List (TV D.T)->List (TV D.T)
 |[]=>[]
 |v::vs=>TV.frz s m z v::TV.yu5 s m z vs
end
def TO.map (f:TV D.T->TV D.T):TO D.T->TO D.T
 | .cells cs=>.cells (cs.map f)
 | .bld ty (some s)=>match f (.own s) with
   | .own s'=>.bld ty (some s')
   |_=>.gone
 |o=>o
def TS.zrj (ts:TS D.T) (f:TV D.T->TV D.T):TS D.T :=
 {ts with t:=ts.t.map λp=>(p.1,f p.2),o:=ts.o.map λp=>(p.1,TO.map D f p.2),d:=ts.d.map λp=>(p.1,p.2.map f)}
def TS.freeze (ts:TS D.T) (s:Nat):Option (TS D.T) :=
 match ts.d,fnd ts.o s with
 |[],some (.acc _ t xs _)=>let ts':=ts.zrj D (TV.frz D s false (.sl t xs 0));some {ts' with o:=(s,.gone)::ts'.o}
 |[],some (.mp _ t es)=>if t.flat then (let ts':=ts.zrj D (TV.frz D s true (.mc t es));some {ts' with o:=(s,.gone)::ts'.o}) else none
 |_,_=>none
def TS.put (ts:TS D.T) (dst:Option Nat) (v:TV D.T):Option (TS D.T) :=
 match dst with
 |none=>some ts
 |some d=>if d<ts.nt then some {ts with t:=(d,v)::ts.t} else none
def TS.new (ts:TS D.T) (o:TO D.T):TS D.T:={ts with o:=(ts.nx,o)::ts.o,nx:=ts.nx+1}
def TS.set (ts:TS D.T) (s:Nat) (o:TO D.T):TS D.T:={ts with o:=(s,o)::ts.o}
def yc9 {R:Type} (ts:TS D.T) (t:Nat) (a x:TV D.T) (k:TV D.T->TS D.T->Option R) (kf:Nat->Option R):Option R :=
 if x.z0g&&(P.info? t).isSome&&x.cells.length==P.cellsOf t then
  match a with
  | .ptr s off=>match fnd ts.o s with
    |some (.cells cs)=>if off+x.cells.length<=cs.length then k .any (ts.set D s (.cells (zwl cs off x.cells))) else none
    |_=>none
  | .ap s τ i y off=>match fnd ts.o s with
    |some (.acc ty τ' xs true)=>if τ=τ'∧τ ≠ .nat∧off+x.cells.length<=(D.tv τ y).cells.length then
      (match asD D τ' (match D.tv τ y with| .agg cs=>.agg (zwl cs off x.cells)|_=>x) with
      | .ok z=>let ts':=(ts.zrj D (TV.ren D s ts.nx)).new D (.acc ty τ' (xs.set i.toNat z) true);k .any (ts'.set D s .gone)
      | .frz s=>kf s
      | .bad=>none) else none
    |_=>none
  | .bp s 1=>match fnd ts.o s,x with
    |some (.bld ty b),.own q=>k .any (ts.set D s (.bld ty (some q)))
    |_,_=>none
  |_=>none
 else none
def tSrc (ts:TS D.T) (τ:DTy):TV D.T->Option (List (τ.S D.T))
 | .nils=>some []
 | .sl t xs _=>zs9 t τ xs
 | .own s=>match fnd ts.o s with
   |some (.acc _ t xs _)=>zs9 t τ xs
   |_=>none
 | .str s=>match τ with
   | .int .u8=>some (yyk s)
   |_=>none
 |_=>none
def tDst (ts:TS D.T) (e:Nat) (τ:DTy):TV D.T->Option (List (τ.S D.T)×Bool×Option Nat)
 | .nils=>some ([],true,none)
 | .sl t xs 1=>if τ = .int .u8 then none else (zs9 t τ xs).map λxs=>(xs,false,none)
 | .sl t xs 2=>if τ = .int .u8 then none else (zs9 t τ xs).map λxs=>(xs,true,none)
 | .own s=>match fnd ts.o s with
   |some (.acc e' t xs w)=>if e'=e then (zs9 t τ xs).map λxs=>(xs,w,some s) else none
   |_=>none
 |_=>none
def yq4 {R:Type} (ts:TS D.T) (t u:Nat) (s x:TV D.T) (k:TV D.T->TS D.T->Option R):Option R :=
 match P.underlying t,P.underlying u with
 |some (.slice e),some du =>
  match P.info? e,D.ty e with
  |some i,some τ =>
   match i.zero with
   |some z=>if y2q du&&decide (0<i.size)&&decide (i.bytes<=524288)&&z.cells.size==i.size&&D.len τ==i.size then
     (match tSrc D ts τ x,tDst D ts e τ s with
     |some ys,some (xs,w,old)=>zmg (ext xs ys) λzs =>
      k (.own ts.nx) (match old with|none=>ts.new D (.acc e τ zs w)|some s=>(ts.new D (.acc e τ zs w)).set D s .gone)
     |_,_=>none) else none
   |none=>none
  |_,_=>none
 |_,_=>none
def z05h {R:Type} (ts:TS D.T) (t:Nat) (d s:TV D.T) (k:TV D.T->TS D.T->Option R):Option R :=
 match d,s with
 | .osl s a,.osl s' b=>if s=s' then (match P.underlying t,fnd ts.o s with
   |some (.slice e),some (.acc ty τ xs true)=>if D.len τ=P.cellsOf e∧(P.info? e).isSome then
     zmg (zy0 xs a b) λys=>k .any (((ts.zrj D (TV.ren D s ts.nx)).new D (.acc ty τ ys true)).set D s .gone) else none
   |_,_=>none) else none
 |_,_=>none
def yeh {R:Type} (ts:TS D.T) (t:Nat) (r:Option (TV D.T)) (k:TV D.T->TS D.T->Option R):Option R :=
 match P.underlying t with
 |some (.map _ e)=>match D.ty e,r with
  |some τ,none=>k (.map ts.nx) (ts.new D (.mp t τ []))
  |some τ,some (.int _ _)=>k (.map ts.nx) (ts.new D (.mp t τ []))
  |_,_=>none
 |_=>none
def ybh {R:Type} (ts:TS D.T) (t:Nat) (m key x:TV D.T) (k:TV D.T->TS D.T->Option R):Option R :=
 match P.underlying t,m,key with
 |some (.map kt _),.map q,.str s=>match P.underlying kt,fnd ts.o q with
  |some .string,some (.mp ty τ es)=>match asD D τ x with
   | .ok y=>k .any (ts.set D q (.mp ty τ (z95 es s y)))
   |_=>none
  |_,_=>none
 |_,_,_=>none
def z052 {R:Type} (ts:TS D.T) (x:TV D.T) (str:Bool) (k:TV D.T->TS D.T->Option R):Option R :=
 match x,str with
 | .ptr s 0,true=>match fnd ts.o s with
   |some (.siter l pos)=>pIf (decide (pos<l.length)) (k (.tup [.bool true,.int .i64 pos,.int .i32 (zpn l pos).1]) (ts.set D s (.siter l (pos+(zpn l pos).2)))) (k (.tup [.bool false]) ts)
   |_=>none
 |_,_=>none
def tOp {R:Type} (ts:TS D.T) (op:Op) (k:TV D.T->TS D.T->Option R) (kf:Nat->Option R):Option R :=
 match op with
 | .alloc t=>match ytx (T:=D.T) P t with
   |some z=>if z.z0g then k (.ptr ts.nx 0) (ts.new D (.cells z.cells)) else none
   |none=>none
 | .box _ x=>match ts.ev x with
   |some v=>if v.z0g then k (.ptr ts.nx 0) (ts.new D (.cells v.cells)) else none
   |none=>none
 | .store t a x=>match ts.ev a,ts.ev x with
   |some a,some x=>yc9 P D ts t a x k kf
   |_,_=>none
 | .makeMap t r=>match oev D ts r with
   |some r=>yeh P D ts t r k
   |none=>none
 | .mapUpdate t m i x=>match ts.ev m,ts.ev i,ts.ev x with
   |some m,some i,some x=>ybh P D ts t m i x k
   |_,_,_=>none
 | .insert t m i x=>match ts.ev m,ts.ev i,ts.ev x with
   |some m,some i,some x=>ybh P D ts t m i x k
   |_,_,_=>none
 | .range t x=>match ts.ev x with
   |some (.str s)=>match P.underlying t with
    |some .string=>k (.ptr ts.nx 0) (ts.new D (.siter s 0))
    |_=>none
   |_=>none
 | .next i b=>match ts.ev i with
   |some i=>z052 D ts i b k
   |none=>none
 |op=>match op with
  | .call c=>match c.callee,c.args.toList,c.argTypes.toList with
    | .builtin .append,[s,x],[t,u]=>match ts.ev s,ts.ev x with
      |some s,some x=>yq4 P D ts t u s x k
      |_,_=>none
    | .builtin .copy,[d,s],[t,u]=>match ts.ev d,ts.ev s with
      |some d,some s=>z05h P D ts t d s k
      |_,_=>none
    |_,_,_=>tP P D ts op (λv=>k v ts) kf
  |op=>tP P D ts op (λv=>k v ts) kf
end
inductive Sh where
 |any
 |d (t:DTy)
 |own (k:Nat)
 |ptr (k off:Nat)
 |bp (k:Nat)
 |map (k:Nat)
 |mc (t:DTy)
 |nilp
 |nilf
 |nili
 |nils
 |fn (f:Nat) (a b:List Sh)
 |iface (t:Nat) (s:Sh)
 |agg (cs:List Sh)
 |tup (cs:List Sh)
 |ref (cs:List Sh) (off:Nat)
inductive OSh where
 |cells (cs:List Sh)
 |st (i:Nat)
 |acc (ty:Nat) (t:DTy) (w:Bool)
 |siter
 |mp (ty:Nat) (t:DTy)
 |mit (t:DTy)
 |bld (ty k:Nat)
mutual
def Sh.tys:Sh->List DTy
 | .d t=>[t]
 | .mc t=>[.sl .str,.sl t]
 | .fn _ a b=>Sh.z7d a++Sh.z7d b
 | .iface _ s=>s.tys
 | .agg cs=>Sh.z7d cs
 | .tup cs=>Sh.z7d cs
 | .ref cs _=>Sh.z7d cs
 |_=>[]
def Sh.z7d:List Sh->List DTy
 |[]=>[]
 |s::l=>s.tys++Sh.z7d l
end
end Go.Ab
namespace Go.Ab
open Go
set_option linter.unusedVariables false
def mks {α β:Type} (es:List (α×β)):List α:=es.map Prod.fst
def mvs {α β:Type} (es:List (α×β)):List β:=es.map Prod.snd
theorem kz3 {α β:Type}:∀es:List (α×β),List.zip (mks es) (mvs es)=es
 |[]=>rfl
 |(_,_)::l=>congrArg (_ :: ·) (kz3 l)
inductive Src (T:Nat->Type) where
 |slot (s:Nat)
 |nil
abbrev z9d (T:Nat->Type):=List (Nat×Src T)
section
variable {T : Nat → Type}
def Src.z04y (s:Nat):Src T->Bool
 | .slot s'=>s'==s
 |_=>false
def y54 (n k s:Nat) (M:z9d T):Option (z9d T) :=
 match fnd M k with
 |some (.slot s')=>if s'=s then some M else none
 |some _=>none
 |none=>if k<n∧M.all (λp => !p.2.z04y s) then some ((k,.slot s)::M) else none
def ytz (n k:Nat) (M:z9d T):Option (z9d T) :=
 match fnd M k with
 |some .nil=>some M
 |some _=>none
 |none=>if k<n then some ((k,.nil)::M) else none
def frU (o:Option (z9d T)):FR (z9d T×Unit) :=
 match o with
 |some M=>.ok (M,())
 |none=>.bad
end
def OSh.tys:OSh->List DTy
 | .cells cs=>Sh.z7d cs
 | .st i=>[.st i]
 | .acc _ t _=>[.sl t]
 | .siter=>[.str,.nat]
 | .mp _ t=>[.sl .str,.sl t]
 | .mit t=>[.sl .str,.sl t]
 | .bld _ _=>[]
def z3d:List OSh->List DTy
 |[]=>[]
 |o::l=>o.tys++z3d l
def tysT:List (Nat×Sh)->List DTy
 |[]=>[]
 |p::l=>p.2.tys++tysT l
section
variable (D : Dat)
mutual
def y9l (n:Nat):(sh:Sh)->TV D.T->z9d D.T->FR (z9d D.T×HL D.T sh.tys)
 | .any,_,M=>.ok (M,())
 | .d t,v,M=>match asD D t v with
   | .ok x=>.ok (M,(x,()))
   | .frz s=>.frz s
   | .bad=>.bad
 | .own k,.own s,M=>frU (y54 n k s M)
 | .own k,.nils,M=>frU (ytz n k M)
 | .ptr k off,.ptr s off',M=>if off=off' then frU (y54 n k s M) else .bad
 | .bp k,.bp s 0,M=>frU (y54 n k s M)
 | .map k,.map s,M=>frU (y54 n k s M)
 | .mc t,.mc t' es,M=>match zyr t' t es with
   |some es=>.ok (M,(mks es,(mvs es,())))
   |none=>.bad
 | .mc _,.map s,_=>.frz s
 | .nilp,.nilp,M=>.ok (M,())
 | .nilf,.nilf,M=>.ok (M,())
 | .nili,.nili,M=>.ok (M,())
 | .nils,.nils,M=>.ok (M,())
 | .fn f a b,.fn f' a' b',M=>if f=f' then (match y0f n a a' M with
   | .ok (M,x)=>match y0f n b b' M with
     | .ok (M,y)=>.ok (M,HL.app x y)
     | .frz s=>.frz s
     | .bad=>.bad
   | .frz s=>.frz s
   | .bad=>.bad) else .bad
 | .iface t s,.iface t' v,M=>if t=t' then y9l n s v M else .bad
 | .agg cs,.agg vs,M=>y0f n cs vs M
 | .tup cs,.tup vs,M=>y0f n cs vs M
 | .ref cs off,.ref vs off',M=>if off=off' then y0f n cs vs M else .bad
 |_,_,_=>.bad
def y0f (n:Nat):(l:List Sh)->List (TV D.T)->z9d D.T->FR (z9d D.T×HL D.T (Sh.z7d l))
 |[],[],M=>.ok (M,())
 |sh::l,v::vs,M=>match y9l n sh v M with
  | .ok (M,x)=>match y0f n l vs M with
    | .ok (M,y)=>.ok (M,HL.app x y)
    | .frz s=>.frz s
    | .bad=>.bad
  | .frz s=>.frz s
  | .bad=>.bad
 |_,_,_=>.bad
end
mutual
def zpj (m:Nat->Nat):(sh:Sh)->HL D.T sh.tys->TV D.T
 | .any,_=>.any
 | .d t,x=>D.tv t x.1
 | .own k,_=>.own (m k)
 | .ptr k off,_=>.ptr (m k) off
 | .bp k,_=>.bp (m k) 0
 | .map k,_=>.map (m k)
 | .mc t,x=>.mc t (List.zip x.1 x.2.1)
 | .nilp,_=>.nilp
 | .nilf,_=>.nilf
 | .nili,_=>.nili
 | .nils,_=>.nils
 | .fn f a b,x=>.fn f (z7e m a (HL.fst _ x)) (z7e m b (HL.snd _ x))
 | .iface t s,x=>.iface t (zpj m s x)
 | .agg cs,x=>.agg (z7e m cs x)
 | .tup cs,x=>.tup (z7e m cs x)
 | .ref cs off,x=>.ref (z7e m cs x) off
def z7e (m:Nat->Nat):(l:List Sh)->HL D.T (Sh.z7d l)->List (TV D.T)
 |[],_=>[]
 |sh::l,x=>zpj m sh (HL.fst _ x)::z7e m l (HL.snd _ x)
end
def yiq (n:Nat) (ts:TS D.T):(o:OSh)->Src D.T->z9d D.T->FR (z9d D.T×HL D.T o.tys)
 | .cells cs,.slot s,M=>match fnd ts.o s with
   |some (.cells vs)=>y0f D n cs vs M
   |_=>.bad
 | .st i,.slot s,M=>match fnd ts.o s with
   |some (.cells vs)=>match zkc D (D.fl i) vs with
    | .ok x=>.ok (M,(D.make i x,()))
    | .frz s=>.frz s
    | .bad=>.bad
   |_=>.bad
 | .acc ty t w,.slot s,M=>match fnd ts.o s with
   |some (.acc ty' t' xs w')=>if ty=ty'∧(w=true->w'=true) then (match zs9 t' t xs with|some xs=>.ok (M,(xs,()))|none=>.bad) else .bad
   |_=>.bad
 | .acc _ _ _,.nil,M=>.ok (M,([],()))
 | .siter,.slot s,M=>match fnd ts.o s with
   |some (.siter l pos)=>.ok (M,(l,(pos,())))
   |_=>.bad
 | .mp ty t,.slot s,M=>match fnd ts.o s with
   |some (.mp ty' t' es)=>if ty=ty' then (match zyr t' t es with|some es=>.ok (M,(mks es,(mvs es,())))|none=>.bad) else .bad
   |_=>.bad
 | .mit t,.slot s,M=>match fnd ts.o s with
   |some (.mit t' _ es)=>(match zyr t' t es with|some es=>.ok (M,(mks es,(mvs es,())))|none=>.bad)
   |_=>.bad
 | .bld ty k,.slot s,M=>match fnd ts.o s with
   |some (.bld ty' b)=>if ty=ty' then (match b with
    |some q=>frU (y54 n k q M)
    |none=>frU (ytz n k M)) else .bad
   |_=>.bad
 |_,_,_=>.bad
def yg8 (n:Nat) (ts:TS D.T):(os:List OSh)->Nat->z9d D.T->FR (z9d D.T×HL D.T (z3d os))
 |[],_,M=>.ok (M,())
 |o::os,k,M=>match fnd M k with
  |some src=>match yiq D n ts o src M with
   | .ok (M,x)=>match yg8 n ts os (k+1) M with
     | .ok (M,y)=>.ok (M,HL.app x y)
     | .frz s=>.frz s
     | .bad=>.bad
   | .frz s=>.frz s
   | .bad=>.bad
  |none=>.bad
def yuc (n:Nat) (ts:TS D.T):(l:List (Nat×Sh))->z9d D.T->FR (z9d D.T×HL D.T (tysT l))
 |[],M=>.ok (M,())
 |p::l,M=>match fnd ts.t p.1 with
  |some v=>match y9l D n p.2 v M with
   | .ok (M,x)=>match yuc n ts l M with
     | .ok (M,y)=>.ok (M,HL.app x y)
     | .frz s=>.frz s
     | .bad=>.bad
   | .frz s=>.frz s
   | .bad=>.bad
  |none=>.bad
def ztp (m:Nat->Nat):(o:OSh)->HL D.T o.tys->TO D.T
 | .cells cs,x=>.cells (z7e D m cs x)
 | .st i,x=>.cells (D.leaves (D.fl i) (D.get i x.1))
 | .acc ty t w,x=>.acc ty t x.1 w
 | .siter,x=>.siter x.1 x.2.1
 | .mp ty t,x=>.mp ty t (List.zip x.1 x.2.1)
 | .mit t,x=>.mit t none (List.zip x.1 x.2.1)
 | .bld ty k,_=>.bld ty (some (m k))
def zbb (m:Nat->Nat):(os:List OSh)->Nat->HL D.T (z3d os)->List (Nat×TO D.T)
 |[],_,_=>[]
 |o::os,k,x=>(m k,ztp D m o (HL.fst _ x))::zbb m os (k+1) (HL.snd _ x)
def yu0 (m:Nat->Nat):(l:List (Nat×Sh))->HL D.T (tysT l)->List (Nat×TV D.T)
 |[],_=>[]
 |p::l,x=>(p.1,zpj D m p.2 (HL.fst _ x))::yu0 m l (HL.snd _ x)
end
structure LSh where
 ts:List (Nat×Sh)
 os:List OSh
 pin:Nat
 nt:Nat
def LSh.tys (l:LSh):List DTy:=tysT l.ts++z3d l.os
section
variable (D : Dat)
def LSh.bld (l:LSh) (x:HL D.T l.tys):TS D.T :=
 ⟨yu0 D (λk=>k) l.ts (HL.fst _ x),zbb D (λk=>k) l.os 0 (HL.snd _ x),l.os.length,l.nt,[]⟩
def pins {T:Nat->Type}:Nat->z9d T
 |0=>[]
 |n+1=>(n,.slot n)::pins n
def LSh.fit (l:LSh) (ts:TS D.T):FR (HL D.T l.tys) :=
 if ts.nt=l.nt∧ts.d.isEmpty=true then (match yuc D l.os.length ts l.ts (pins l.pin) with
  | .ok (M,x)=>match yg8 D l.os.length ts l.os 0 M with
    | .ok (_,y)=>.ok (HL.app x y)
    | .frz s=>.frz s
    | .bad=>.bad
  | .frz s=>.frz s
  | .bad=>.bad) else .bad
def LSh.enter {R:Type} (l:LSh) (k:HL D.T l.tys->Option R):Nat->TS D.T->Option R
 |0,_=>none
 |f+1,ts=>match l.fit D ts with
  | .ok x=>k x
  | .frz s=>match ts.freeze D s with
    |some ts'=>LSh.enter l k f ts'
    |none=>none
  | .bad=>none
structure Ent where
 f:Nat
 p:Nat
 args:List Sh
 aos:List OSh
 outs:List Sh
 ros:List OSh
 pan:Sh
 pos:List OSh
 pure:Bool
 go:{R:Type}->HL D.T (Sh.z7d args++z3d aos)->(HL D.T (Sh.z7d outs++z3d ros)->Option R)->(HL D.T (pan.tys++z3d pos)->Option R)->Option R
 ren:List (Nat×Nat):=[]
def Ent.fit (e:Ent D) (vs:List (TV D.T)) (ts:TS D.T):FR (z9d D.T×HL D.T (Sh.z7d e.args++z3d e.aos)) :=
 match y0f D e.aos.length e.args vs [] with
 | .ok (M,x)=>match yg8 D e.aos.length ts e.aos 0 M with
   | .ok (M,y)=>.ok (M,HL.app x y)
   | .frz s=>.frz s
   | .bad=>.bad
 | .frz s=>.frz s
 | .bad=>.bad
def zdw (M:z9d D.T) (p nx k:Nat):Nat :=
 if k<p then (match fnd M k with|some (.slot s)=>s|_=>0) else nx+(k-p)
def zny:z9d D.T->List (Nat×TO D.T)
 |[]=>[]
 |(_,.slot s)::l=>(s,.gone)::zny l
 |(_,.nil)::l=>zny l
def zg8 (M:z9d D.T) (p:Nat) (ts:TS D.T) (os:List OSh) (y:HL D.T (z3d os)):TS D.T :=
 {ts with o:=zbb D (zdw D M p ts.nx) os 0 y++(zny D M++ts.o),nx:=ts.nx+(os.length-p)}
def zhy (M:z9d D.T) (p nx:Nat):List (Nat×Nat)->TS D.T->TS D.T
 |[],ts=>ts
 |q::l,ts=>match fnd M q.1 with
  |some (.slot s)=>zhy M p nx l (ts.zrj D (TV.ren D s (zdw D M p nx q.2)))
  |_=>zhy M p nx l ts
def ypx:List (TV D.T)->TV D.T
 |[v]=>v
 |vs=>.tup vs
def z074 {R:Type} (f:Nat) (vs:List (TV D.T)) (ts:TS D.T) (k kp:TV D.T->TS D.T->Option R) (kf:Nat->Option R):Option R:=none
def y8l {R:Type} (f:Nat) (vs:List (TV D.T)) (ts:TS D.T) (k kp:TV D.T->TS D.T->Option R) (kf:Nat->Option R):List (Ent D)->Option R
 |[]=>z074 D f vs ts k kp kf
 |e::r=>match Nat.beq e.f f with
  |false=>y8l f vs ts k kp kf r
  |true=>match e.fit D vs ts with
   | .bad=>y8l f vs ts k kp kf r
   | .frz s=>kf s
   | .ok (M,x)=>if e.p<=e.aos.length∧e.p<=e.ros.length∧e.p<=e.pos.length∧(List.range e.p).all (λk=>match fnd M k with|some (.slot _)=>true|_=>false) then
       e.go x (λy=>k (ypx D (z7e D (zdw D M e.p ts.nx) e.outs (HL.fst _ y))) (zhy D M e.p ts.nx e.ren (zg8 D M e.p ts e.ros (HL.snd _ y))))
        (λy=>kp (zpj D (zdw D M e.p ts.nx) e.pan (HL.fst _ y)) (zg8 D M e.p ts e.pos (HL.snd _ y)))
       else none
end
section
variable (P : Program) (D : Dat) (tbl : List (Ent D))
noncomputable def yod {R:Type} (op:Op) (k kp:TV D.T->TS D.T->Option R):Nat->TS D.T->Option R
 |0,_=>none
 |fuel+1,ts =>
  let kf:=λs=>match ts.freeze D s with
   |some ts'=>yod op k kp fuel ts'
   |none=>none
  match op with
  | .call c=>match c.callee with
    | .value x=>match ts.ev x,ts.evs c.args.toList with
      |some (.fn f a b),some vs=>y8l D f (a++vs++b) ts k kp kf tbl
      |_,_=>none
    |_=>tOp P D ts op k kf
  | .panic x=>match ts.ev x with
    |some (.iface t v)=>kp (.iface t v) ts
    |_=>none
  | .defer c=>match c.callee with
    | .value x=>match ts.ev x,ts.evs c.args.toList with
      |some (.fn f a b),some vs=>k .any {ts with d:=(f,a++vs++b)::ts.d}
      |_,_=>none
    |_=>none
  | .binOp o t x y _=>match ts.ev x,ts.ev y with
    |some .nili,some .nili=>(match isC x||isC y,P.underlying t with
     |true,some (.interface _)=>(match o with
      | .eql=>k (.bool true) ts
      | .neq=>k (.bool false) ts
      |_=>none)
     |_,_=>none)
    |_,_=>tOp P D ts op k kf
  | .alloc t=>match zeroV P t,P.info? t with
    |some (.agg [.nilp,.nils]),some i=>(match z07k P t&&Nat.beq i.size 2 with
     |true=>k (.bp ts.nx 0) (ts.new D (.bld t none))
     |false=>tOp P D ts op k kf)
    |_,_=>tOp P D ts op k kf
  | .convert s d x=>match ts.ev x with
    |some (.sl (.int .u8) xs _)=>(match P.underlying s,P.underlying d with
     |some (.slice e),some .string=>(match P.underlying e with
      |some (.int .u8)=>zmg (yyg xs) λy=>k (.str y) ts
      |_=>none)
     |_,_=>none)
    |_=>tOp P D ts op k kf
  | .range t x=>match ts.ev x with
    |some (.map q)=>kf q
    |some (.mc τ es)=>(match P.underlying t with
     |some (.map _ _)=>k (.ptr ts.nx 0) (ts.new D (.mit τ none es))
     |_=>none)
    |_=>tOp P D ts op k kf
  | .next x false=>match ts.ev x with
    |some (.ptr s 0)=>(match fnd ts.o s with
     |some (.mit τ _ es)=>y82 es (λa y r=>k (.tup [.bool true,.str a,D.leaf τ y]) (ts.set D s (.mit τ (some (a,y)) r))) (k (.tup [.bool false]) ts)
     |_=>none)
    |_=>none
  | .entry x=>match ts.ev x with
    |some (.ptr s 0)=>(match fnd ts.o s with
     |some (.mit τ (some p) _)=>k (.tup [.str p.1,D.leaf τ p.2]) ts
     |_=>none)
    |_=>none
  |_=>tOp P D ts op k kf
def ycl {R:Type} (all:List Oper) (o:Oper) (ts:TS D.T) (go skip:TS D.T->Option R):Option R :=
 match o.guard with
 |none=>go ts
 |some (j,want)=>match (all[j]?).bind (·.dst) with
  |none=>none
  |some d=>match fnd ts.t d with
   |some (.bool b)=>pIf b (if want then go {ts with t:=(d,.bool true)::ts.t} else skip {ts with t:=(d,.bool true)::ts.t})
     (if want then skip {ts with t:=(d,.bool false)::ts.t} else go {ts with t:=(d,.bool false)::ts.t})
   |some (.tup _)=>skip ts
   |_=>none
def cpB (all:List Oper) (o:Oper):Option (Nat×Operand×Operand):=match o.op,o.dst with
 | .slice t x (some lo) none none,some d=>if all.any (λq=>match q.op with
   | .call c=>(match c.callee with
     | .builtin .copy=>c.args.toList.any λa=>(match a with
       | .tmp i=>Nat.beq i d
       |_=>false)
     |_=>false)
   |_=>false) then some (t,x,lo) else none
 |_,_=>none
def tPC {R:Type} (all:List Oper) (o:Oper) (k:TV D.T->Option R) (ts:TS D.T):Option R:=match cpB all o with
 |some (t,x,lo)=>(match ts.ev x,ts.ev lo with
  |some x,some lo=>tCut P D ts t x lo k (tP P D ts o.op k λ_=>none)
  |_,_=>none)
 |none=>tP P D ts o.op k λ_=>none
def litB (all:List Oper) (o:Oper):Bool:=match o.op,o.dst with
 | .buildSlice _ _ _,some d=>all.any λq=>(match q.op with
   | .assign (.tmp i)=>Nat.beq i d
   |_=>false)
 |_,_=>false
def tLit {R:Type} (ts:TS D.T) (op:Op) (k:TV D.T->TS D.T->Option R) (kf:Option R):Option R:=match op with
 | .buildSlice t len ps=>(match P.underlying t,y23 ts ps.toList with
   |some (.slice e),some qs=>(match zoe P D t len qs with
    | .ok (.sl τ xs 1)=>k (.own ts.nx) (ts.new D (.acc e τ xs true))
    |_=>kf)
   |_,_=>kf)
 |_=>kf
noncomputable def z04z {R:Type} (all:List Oper) (o:Oper) (k kp:TV D.T->TS D.T->Option R) (ts:TS D.T):Option R:=match cpB all o with
 |some (t,x,lo)=>(match ts.ev x,ts.ev lo with
  |some x,some lo=>tCut P D ts t x lo (λv=>k v ts) (yod P D tbl o.op k kp 9 ts)
  |_,_=>none)
 |none=>match litB all o with
  |true=>tLit P D ts o.op k (yod P D tbl o.op k kp 9 ts)
  |false=>yod P D tbl o.op k kp 9 ts
noncomputable def y2p {R:Type} (all:List Oper) (kn:TS D.T->Option R) (kp:TV D.T->TS D.T->Option R):List Oper->TS D.T->Option R
 |[],ts=>kn ts
 |o::rest,ts=>pOp o<|ycl D all o ts
  (λts=>z04z P D tbl all o (λv ts=>match ts.put D o.dst v with|some ts=>y2p all kn kp rest ts|none=>none) kp ts)
  (λts=>match ts.put D o.dst (.tup []) with|some ts=>y2p all kn kp rest ts|none=>none)
def z051 (f:Nat):Bool:=tbl.any λe=>Nat.beq e.f f&&e.pure
def z07x (op:Op):Bool :=
 match op with
 | .alloc _| .box _ _| .store _ _ _| .makeMap _ _| .mapUpdate _ _ _ _| .insert _ _ _ _| .range _ _| .next _ _| .panic _=>false
 | .call c=>match c.callee with
   | .builtin .len| .builtin .min| .builtin .max=>true
   | .value (.func f)=>z051 D tbl f
   |_=>false
 |_=>true
def zpq {R:Type} (all:List Oper) (kn:TS D.T->Option R):List Oper->TS D.T->Option R
 |[],ts=>kn ts
 |o::rest,ts=>pOp o<|ycl D all o ts
  (λts=>match o.op with
   | .call c=>match c.callee with
     | .value x=>match ts.ev x,ts.evs c.args.toList with
       |some (.fn f a b),some vs=>y8l D f (a++vs++b) ts (λv _=>match ts.put D o.dst v with|some ts=>zpq all kn rest ts|none=>none) (λ_ _=>none) (λ_=>none) (tbl.filter (·.pure))
       |_,_=>none
     |_=>tP P D ts o.op (λv=>match ts.put D o.dst v with|some ts=>zpq all kn rest ts|none=>none) (λ_=>none)
   |_=>tPC P D all o (λv=>match ts.put D o.dst v with|some ts=>zpq all kn rest ts|none=>none) ts)
  (λts=>match ts.put D o.dst (.tup []) with|some ts=>zpq all kn rest ts|none=>none)
def z00x:List Oper->Nat
 |[]=>0
 |o::r=>if z07x D tbl o.op then z00x r+1 else 0
def TV.z004 {T:Nat->Type}:TV T->Bool
 | .any| .own _| .osl _ _| .map _| .bp _ _=>false
 |_=>true
def TV.isOwn {T:Nat->Type}:TV T->Bool
 | .own _=>true
 |_=>false
def z7l {T:Nat->Type} (ts:TS T) (s:Nat):Bool:=match fnd ts.o s with
 |some .gone=>false
 |some _=>true
 |none=>false
def yrx {T:Nat->Type} (ts:TS T) (x:Operand):Option (List Nat):=match ts.ev x with
 |some v=>(match v.z004 with
  |true=>some []
  |false=>none)
 |none=>none
def ownO {T:Nat->Type} (ts:TS T) (x:Operand):Option (List Nat):=match ts.ev x with
 |some (.own s)=>(match fnd ts.o s with
  |some (.acc _ _ _ _)=>some [s]
  |_=>none)
 |_=>yrx ts x
def rdK {T:Nat->Type} (ts:TS T) (op:Op):Option (List Nat):=match op with
 | .load _ a=>(match ts.ev a with
   |some (.ptr s _)=>some [s]
   |some (.ap s _ _ _ _)=>some [s]
   |some (.ref _ _)=>some []
   |_=>none)
 | .indexAddr _ x _=>ownO ts x
 | .slice _ x _ _ _=>yrx ts x
 | .call c=>(match c.callee,c.args.toList with
   | .builtin .len,[x]=>ownO ts x
   | .builtin .min,_=>some []
   | .builtin .max,_=>some []
   |_,_=>none)
 | .move _| .assign _| .pick _ _ _| .nilCheck _| .binOp _ _ _ _ _| .unOp _ _ _| .convert _ _ _| .makeInterface _ _| .makeFunc _ _ _| .fieldAddr _ _ _| .field _ _ _| .index _ _ _| .typeAssert _ _ _ _| .extract _ _| .build _ _| .buildSlice _ _ _=>some []
 |_=>none
def wrK {T:Nat->Type} (ts:TS T) (op:Op):Option Nat:=match op with
 | .alloc _=>some ts.nx
 | .box _ _=>some ts.nx
 | .store _ a _=>(match ts.ev a with
   |some (.ptr s _)=>some s
   |_=>none)
 | .call c=>(match c.callee,c.args.toList with
   | .builtin .append,[s,_]=>(match ts.ev s with
     |some (.sl _ _ _)=>some ts.nx
     |some .nils=>some ts.nx
     |_=>none)
   |_,_=>none)
 |_=>none
abbrev Rds:=List (Nat×Option (List Nat))
abbrev Wrs:=List (Nat×Option Nat)
def z078 (all:List Oper) (i:Nat) (w:Option Nat) (rds:Rds):Bool:=rds.all λp=>ysb all p.1 i||(match p.2,w with
 |some [],_=>true
 |some R,some s=>R.all λq => !Nat.beq q s
 |_,_=>false)
def yrz (all:List Oper) (i:Nat) (wrs:Wrs):Bool:=wrs.all λp=>ysb all p.1 i
def rdOk (all:List Oper) (i:Nat) (R:List Nat) (wrs:Wrs):Bool:=wrs.all λp=>ysb all p.1 i||(match R,p.2 with
 |[],_=>true
 |R,some s=>R.all λq => !Nat.beq q s
 |_,_=>false)
def ymp (w:Option Nat) (rds:Rds):Rds:=match w with
 |some _=>rds
 |none=>rds.map λp=>(p.1,match p.2 with|some []=>some []|_=>none)
def ymu (w:Option Nat) (wrs:Wrs):Wrs:=match w with
 |some _=>wrs
 |none=>wrs.map λp=>(p.1,none)
def z06b (all:List Oper) (i:Nat) (rest:List Nat):Bool:=rest.all λj=>ysb all i j
def z04s (all:List Oper) (done:List Nat) (j:Nat):Bool := !done.any (Nat.beq j)&&(match all[j]? with
 |some o=>o.after.toList.all λe => !Region.binds .any e||done.any (Nat.beq e.on)
 |none=>false)
def sched (all:List Oper) (quiet:Op->Bool):Nat->List Nat->List Nat
 |0,_=>[]
 |n+1,done=>match (List.range all.length).find? λj=>z04s all done j&&(match all[j]? with|some o=>quiet o.op|none=>false) with
  |some j=>j::sched all quiet n (j::done)
  |none=>match (List.range all.length).find? λj=>z04s all done j with
   |some j=>j::sched all quiet n (j::done)
   |none=>[]
def z04i {T:Nat->Type} (all:List Oper) (i:Nat) (rds:Rds) (M:z9d T):Bool:=rds.all λp=>ysb all p.1 i||(match p.2 with
 |some R=>R.all λq=>M.all λm=>match m.2 with
  | .slot s => !Nat.beq q s
  | .nil=>true
 |none=>false)
def z05l {R:Type} (f:Nat) (vs:List (TV D.T)) (ts:TS D.T) (chk:z9d D.T->Bool) (k kp:TV D.T->TS D.T->Option R):Option R:=none
def y7d {R:Type} (f:Nat) (vs:List (TV D.T)) (ts:TS D.T) (chk:z9d D.T->Bool) (k kp:TV D.T->TS D.T->Option R):List (Ent D)->Option R
 |[]=>z05l D f vs ts chk k kp
 |e::r=>match Nat.beq e.f f with
  |false=>y7d f vs ts chk k kp r
  |true=>match e.fit D vs ts with
   | .ok (M,x)=>if chk M=true∧e.p<=e.aos.length∧e.p<=e.ros.length∧e.p<=e.pos.length∧(List.range e.p).all (λk=>match fnd M k with|some (.slot _)=>true|_=>false) then
       e.go x (λy=>k (ypx D (z7e D (zdw D M e.p ts.nx) e.outs (HL.fst _ y))) (zhy D M e.p ts.nx e.ren (zg8 D M e.p ts e.ros (HL.snd _ y))))
        (λy=>kp (zpj D (zdw D M e.p ts.nx) e.pan (HL.fst _ y)) (zg8 D M e.p ts e.pos (HL.snd _ y)))
       else none
   |_=>y7d f vs ts chk k kp r
def z07l (τ:DTy):TV D.T->Option (List (τ.S D.T))
 | .nils=>some []
 | .sl t xs _=>zs9 t τ xs
 |_=>none
def z04t {R:Type} (t u:Nat) (s x:TV D.T) (k:TV D.T->Option R):Option R :=
 match s with
 | .sl t' xs 1=>match P.underlying t,P.underlying u with
   |some (.slice e),some du=>match P.info? e,D.ty e with
    |some i,some τ=>match i.zero with
     |some z=>match y2q du&&decide (0<i.size)&&decide (i.bytes<=524288)&&z.cells.size==i.size&&Nat.beq (D.len τ) i.size with
      |true=>(match zs9 t' τ xs,z07l D τ x with
       |some xs,some ys=>zmg (ext xs ys) λzs=>k (.sl τ zs 0)
       |_,_=>none)
      |false=>none
     |none=>none
    |_,_=>none
   |_,_=>none
 |_=>none
def appB (op:Op):Bool:=match op with
 | .call c=>(match c.callee with
   | .builtin .append=>true
   |_=>false)
 |_=>false
def z07v (all:List Oper) (i:Nat):Bool:=(List.range all.length).any λj => !Nat.beq i j&&(match all[j]? with|some o=>yy8 o.op|none=>false) && !ysb all i j && !ysb all j i
def zin {R:Type} (all:List Oper) (kn:TS D.T->Option R) (kp:TV D.T->TS D.T->Option R):List Nat->Rds->Wrs->TS D.T->Option R
 |[],_,_,ts=>kn ts
 |i::rest,rds,wrs,ts=>match all[i]? with
 |none=>none
 |some o=>pOp o<|ycl D all o ts
  (λts=>match yy8 o.op with
   |true=>(match appB o.op&&z07v all i with
    |true=>(match o.op with
     | .call c=>(match c.callee,c.args.toList,c.argTypes.toList with
       | .builtin .append,[s,x],[t,u]=>(match ts.ev s,ts.ev x with
         |some s,some x=>z04t P D t u s x (λv=>match ts.put D o.dst v with
          |some ts2=>zin all kn kp rest ((i,some [])::rds) wrs ts2
          |none=>none)
         |_,_=>none)
       |_,_,_=>none)
     |_=>none)
    |false=>(match z078 all i (wrK ts o.op) rds&&yrz all i wrs with
    |true=>tOp P D ts o.op (λv ts'=>match ts'.put D o.dst v with
     |some ts2=>zin all kn kp rest (ymp (wrK ts o.op) rds) ((i,wrK ts o.op)::ymu (wrK ts o.op) wrs) ts2
     |none=>none) (λ_=>none)
    |false=>none))
   |false=>(match rdK ts o.op with
    |some R=>(match rdOk all i R wrs&&R.all (z7l ts) with
     |true=>tP P D ts o.op (λv=>match ts.put D o.dst v with
      |some ts2=>zin all kn kp rest ((i,some R)::rds) wrs ts2
      |none=>none) (λ_=>none)
     |false=>none)
    |none=>(match o.op with
     | .call c=>(match c.callee with
       | .value x=>(match ts.ev x,ts.evs c.args.toList with
         |some (.fn f a b),some vs=>(match z051 D tbl f && !vs.any TV.isOwn with
          |true=>y8l D f (a++vs++b) ts (λv _=>match ts.put D o.dst v with
           |some ts2=>zin all kn kp rest ((i,some [])::rds) wrs ts2
           |none=>none) (λ_ _=>none) (λ_=>none) (tbl.filter (·.pure))
          |false=>(match z06b all i rest&&yrz all i wrs with
           |true=>y7d D f (a++vs++b) ts (z04i all i rds) (λv ts'=>match ts'.put D o.dst v with
            |some ts2=>zin all kn kp rest (ymp none rds) ((i,none)::ymu none wrs) ts2
            |none=>none) (λz ts'=>kp z {ts' with t:=[]}) (tbl.filter λe => !e.pure)
           |false=>none))
         |_,_=>none)
       |_=>none)
     |_=>none)))
  (λts=>match ts.put D o.dst (.tup []) with
   |some ts2=>zin all kn kp rest ((i,some [])::rds) wrs ts2
   |none=>none)
noncomputable def y7e {R:Type} (ops:Array Oper) (draw:Bool) (ts:TS D.T) (kn:TS D.T->Option R) (kp:TV D.T->TS D.T->Option R):Option R :=
 if draw then
  let n:=z00x D tbl ops.toList
  if P.follows .mixedOrders then
   (if n=ops.size then (if Region.lexB .any ops then zpq P D tbl ops.toList kn ops.toList ts else none)
   else (if Region.lexTailB .any ops n then zpq P D tbl ops.toList (λts=>y2p P D tbl ops.toList kn kp (ops.toList.drop n) ts) (ops.toList.take n) ts
   else (let l:=sched ops.toList (λop => !yy8 op&&(match op with| .call c=>(match c.callee with| .value (.func f)=>z051 D tbl f| .value _=>false|_=>true)|_=>true)) ops.size []
    if y7h .any ops l (Array.replicate ops.size false)&&Nat.beq l.length ops.size&&(List.range ops.size).all (λj=>l.any (Nat.beq j)) then zin P D tbl ops.toList kn kp l [] [] ts else none)))
  else none
 else y2p P D tbl ops.toList kn kp ops.toList ts
end
inductive AC where
 |skip
 |region (id:Nat) (ops:Array Oper) (draw:Bool)
 |seq (a b:AC)
 |cond (c:Operand) (a b:AC)
 |block (id:Nat) (a:AC)
 |loop (a:AC)
 |exit (id:Nat)
 |ret
 |lab (l:Nat) (a:AC)
 |other (c:Code)
def AC.erase:AC->Code
 | .skip=>.skip
 | .region id ops d=>.region id ops d
 | .seq a b=>.seq a.erase b.erase
 | .cond c a b=>.cond c a.erase b.erase
 | .block id a=>.block id a.erase
 | .loop a=>.loop a.erase
 | .exit id=>.exit id
 | .ret=>.ret
 | .lab _ a=>a.erase
 | .other c=>c
def y85 (f:List (Nat×Nat)) (i:Nat) (a:AC):AC :=
 match fnd f i with
 |some l=>.lab l a
 |none=>a
def ann (f:List (Nat×Nat)):Code->Nat->AC×Nat
 | .skip,i=>(y85 f i .skip,i+1)
 | .region id ops d,i=>(y85 f i (.region id ops d),i+1)
 | .seq a b,i =>
   let x:=ann f a (i+1)
   let y:=ann f b x.2
   (y85 f i (.seq x.1 y.1),y.2)
 | .cond c a b,i =>
   let x:=ann f a (i+1)
   let y:=ann f b x.2
   (y85 f i (.cond c x.1 y.1),y.2)
 | .block id a,i =>
   let x:=ann f a (i+1)
   (y85 f i (.block id x.1),x.2)
 | .loop a,i =>
   let x:=ann f a (i+1)
   (y85 f i (.loop x.1),x.2)
 | .exit id,i=>(y85 f i (.exit id),i+1)
 | .ret,i=>(y85 f i .ret,i+1)
 |c,i=>(.other c,i+1)
structure Lb (D:Dat) (R:Type) where
 sh:LSh
 go:HL D.T sh.tys->Option R
def jump (D:Dat) {R:Type} (zgb:List (Nat×Lb D R)) (l:Nat) (ts:TS D.T):Option R :=
 match fnd zgb l with
 |some lb=>lb.sh.enter D lb.go 9 ts
 |none=>none
structure Ks (T:Nat->Type) (R:Type) where
 kn:TS T->Option R
 kx:List (Nat×(TS T->Option R))
 kr:TS T->Option R
 kp:TV T->TS T->Option R
section
variable (P : Program) (D : Dat) (tbl : List (Ent D)) {R : Type} (J : Nat → TS D.T → Option R)
noncomputable def run:AC->TS D.T->Ks D.T R->Option R
 | .skip,ts,K=>K.kn ts
 | .region _ ops d,ts,K=>y7e P D tbl ops d ts K.kn K.kp
 | .seq a b,ts,K=>run a ts {K with kn:=λts=>run b ts K}
 | .cond c a b,ts,K=>match ts.ev c with
   |some (.bool v)=>(match c with
    | .tmp t=>pIf v (run a {ts with t:=(t,.bool true)::ts.t} K) (run b {ts with t:=(t,.bool false)::ts.t} K)
    |_=>pIf v (run a ts K) (run b ts K))
   |_=>none
 | .block id a,ts,K=>run a ts {K with kx:=(id,K.kn)::K.kx}
 | .loop _,_,_=>none
 | .exit id,ts,K=>match fnd K.kx id with
   |some k=>k ts
   |none=>none
 | .ret,ts,K=>K.kr ts
 | .lab l _,ts,_=>J l ts
 | .other _,_,_=>none
noncomputable def z05w (l:Nat) (a:AC) (K:Ks D.T R):TS D.T->Option R:=λts =>
 match a with
 | .loop b=>run P D tbl J b ts {K with kn:=J l}
 |a=>run P D tbl J a ts K
noncomputable def AC.at (l:Nat):AC->Ks D.T R->(TS D.T->Option R)->Option (TS D.T->Option R)
 | .seq a b,K,_=>match AC.at l a {K with kn:=λts=>run P D tbl J b ts K} (λ_=>none) with
   |some x=>some x
   |none=>AC.at l b K (λ_=>none)
 | .cond _ a b,K,_=>match AC.at l a K (λ_=>none) with
   |some x=>some x
   |none=>AC.at l b K (λ_=>none)
 | .block id a,K,_=>AC.at l a {K with kx:=(id,K.kn)::K.kx} (λ_=>none)
 | .loop a,K,kl=>AC.at l a {K with kn:=kl} (λ_=>none)
 | .lab l' a,K,_=>match Nat.beq l' l with
   |true=>some (z05w P D tbl J l' a K)
   |false=>AC.at l a K (J l')
 |_,_,_=>none
end
def argT {α:Type}:List α->Nat->List (Nat×α)
 |[],_=>[]
 |a::l,k=>(k,a)::argT l (k+1)
def entry (D:Dat) (args:List Sh) (aos:List OSh) (nt:Nat) (x:HL D.T (Sh.z7d args++z3d aos)):TS D.T :=
 ⟨argT (z7e D (λk=>k) args (HL.fst _ x)) 0,zbb D (λk=>k) aos 0 (HL.snd _ x),aos.length,nt,[]⟩
def ybz (P:Program) (D:Dat) (ts:TS D.T):List ResultVar->Option (List (TV D.T))
 |[]=>some []
 | .tmp t::rs=>match fnd ts.t t,ybz P D ts rs with
   |some v,some vs=>some (v::vs)
   |_,_=>none
 | .cell a t::rs=>match fnd ts.t a with
   |some p=>match z00n P D ts t p,ybz P D ts rs with
    |some v,some vs=>some (v::vs)
    |_,_=>none
   |none=>none
def yv1 {R:Type} (D:Dat) (l:LSh) (pack:HL D.T l.tys->R):Ks D.T R :=
 ⟨l.enter D (λx=>some (pack x)) 9,[],l.enter D (λx=>some (pack x)) 9,λ_ _=>none⟩
section
variable (D : Dat)
def yxv (pan:Sh) (pos:List OSh) (p:Nat) (z:TV D.T) (ts:TS D.T):Option (HL D.T (pan.tys++z3d pos)) :=
 match ts.d with
 |[]=>match y9l D pos.length pan z (pins p) with
  | .ok (M,x)=>match yg8 D pos.length ts pos 0 M with
    | .ok (_,y)=>some (HL.app x y)
    |_=>none
  |_=>none
 |_=>none
def yba:Option Sh->List DTy
 |none=>[]
 |some s=>s.tys
structure y33 where
 f:Nat
 args:List Sh
 aos:List OSh
 m:Option Sh
 ros:List OSh
 go:HL D.T (Sh.z7d args++z3d aos)->HL D.T (yba m)->Option (HL D.T (z3d ros))
def y33.ent (de:y33 D):Ent D:={f:=de.f,p:=de.aos.length,args:=de.args,aos:=de.aos,outs:=[],ros:=de.ros,pan:=.nilp,pos:=[],pure:=false,go:=λ_ _ _=>none}
def yof:(m:Option Sh)->Option (TV D.T)->Option (HL D.T (yba m))
 |none,none=>some ()
 |some s,some z=>match y9l D 0 s z [] with
  | .ok (_,x)=>some x
  |_=>none
 |_,_=>none
def y5s {R:Type} (f:Nat) (vs:List (TV D.T)) (m:Option (TV D.T)) (ts:TS D.T) (k:TS D.T->Option R):List (y33 D)->Option R
 |[]=>none
 |de::r=>match Nat.beq de.f f with
  |false=>y5s f vs m ts k r
  |true=>match yof D de.m m with
   |none=>y5s f vs m ts k r
   |some mx=>match de.ent.fit D vs ts with
    | .ok (M,x)=>if de.aos.length<=de.ros.length∧(List.range de.aos.length).all (λk=>match fnd M k with|some (.slot _)=>true|_=>false) then
        zmg (de.go x mx) λy=>k (zg8 D M de.aos.length ts de.ros y) else none
    |_=>y5s f vs m ts k r
def zp0 {R:Type} (des:List (y33 D)) (k:TS D.T->Option R) (kp:TV D.T->TS D.T->Option R):List (Nat×List (TV D.T))->Option (TV D.T)->TS D.T->Option R
 |[],none,ts=>k ts
 |[],some z,ts=>kp z ts
 |(f,vs)::r,m,ts=>y5s D f vs m ts (λts'=>zp0 des k kp r none {ts' with d:=r}) des
def panK {X R:Type} (pan:Sh) (pos:List OSh) (p:Nat) (packp:HL D.T (pan.tys++z3d pos)->X) (z:TV D.T) (ts:TS D.T):Option (Res X R):=match yxv D pan pos p z ts with
 |some y=>some (.pan (packp y))
 |none=>none
def z01d {X R:Type} (des:List (y33 D)) (l:LSh) (pack:HL D.T l.tys->R) (pan:Sh) (pos:List OSh) (p:Nat) (packp:HL D.T (pan.tys++z3d pos)->X):Ks D.T (Res X R) :=
 ⟨λts=>zp0 D des (l.enter D (λx=>some (.ok (pack x))) 9) (panK D pan pos p packp) ts.d none ts,[],
  λts=>zp0 D des (l.enter D (λx=>some (.ok (pack x))) 9) (panK D pan pos p packp) ts.d none ts,
  λz ts=>zp0 D des (l.enter D (λx=>some (.ok (pack x))) 9) (panK D pan pos p packp) ts.d (some z) ts⟩
end
end Go.Ab
namespace Go.Ab
open Go
set_option linter.unusedVariables false
set_option linter.unusedSimpArgs false
theorem kzl {α:Type} (i:Nat) (a:α) (r:List (Nat×α)) (j:Nat):fnd ((i,a)::r) j=if i=j then some a else fnd r j:=by
 simp only [fnd]
 cases h:Nat.beq i j with
 |true=>rw [if_pos (Nat.eq_of_beq_eq_true h)]
 |false=>rw [if_neg (λe=>by rw [e,Nat.beq_refl] at h;cases h)]
theorem zwi {α:Type} (f:α->α):∀(l:List (Nat×α)) (j:Nat),fnd (l.map λp=>(p.1,f p.2)) j=(fnd l j).map f
 |[],j=>rfl
 |(i,a)::r,j=>by
  rw [List.map_cons,kzl,kzl]
  split
  · rfl
  · exact zwi f r j
def HL.nth {T:Nat->Type}:(l:List DTy)->HL T l->Nat->Option ((t:DTy)×t.S T)
 |[],_,_=>none
 |t::_,x,0=>some ⟨t,x.1⟩
 |_::l,x,j+1=>HL.nth l x.2 j
theorem HL.yw1 {T:Nat->Type}:∀(l:List DTy) (x:HL T l) (j:Nat) (p:(t:DTy)×t.S T),HL.nth l x j=some p->j<l.length∧l[j]? = some p.1
 |[],_,j,p,h=>by simp [HL.nth] at h
 |t::_,x,0,p,h=>by simp [HL.nth] at h;subst h;simp
 |_::l,x,j+1,p,h=>by
  obtain ⟨h1,h2⟩:=HL.yw1 l x.2 j p h
  exact ⟨by simpa using h1,by simpa using h2⟩
structure Dat.Ok (P:Program) (D:Dat):Prop where
 enc:∀i x,D.enc i x = .agg (D.els (D.fl i) (D.get i x))
 getMake:∀i x,D.get i (D.make i x)=x
 flat:∀i t,t∈D.fl i->(match t with| .st _=>False| .nat=>False|_=>True)
 ty:∀e t,D.ty e=some t->t ≠ .nat
 kin:∀i x (Dm:Nat->Nat->Prop),V.kin Dm (D.enc i x)
section
variable {D : Dat}
theorem yb6:∀(l:List DTy) (x:HL D.T l),(D.els l x).length=l.length
 |[],_=>rfl
 |t::l,x=>by simp [Dat.els,yb6 l x.2]
theorem yo2:∀(l:List DTy) (x:HL D.T l) (j:Nat),(D.els l x)[j]? = (HL.nth l x j).map λp=>D.el p.1 p.2
 |[],_,j=>by simp [Dat.els,HL.nth]
 |t::l,x,0=>by simp [Dat.els,HL.nth]
 |t::l,x,j+1=>by simpa [Dat.els,HL.nth] using yo2 l x.2 j
theorem zwg:∀(l:List DTy) (x:HL D.T l),(D.leaves l x).length=l.length
 |[],_=>rfl
 |t::l,x=>by simp [Dat.leaves,zwg l x.2]
theorem zno:∀(l:List DTy) (x:HL D.T l) (j:Nat),(D.leaves l x)[j]? = (HL.nth l x j).map λp=>D.leaf p.1 p.2
 |[],_,j=>by simp [Dat.leaves,HL.nth]
 |t::l,x,0=>by simp [Dat.leaves,HL.nth]
 |t::l,x,j+1=>by simpa [Dat.leaves,HL.nth] using zno l x.2 j
inductive DR (D:Dat):(t:DTy)->t.S D.T->V->Prop where
 |bool (b:Bool):DR D .bool b (.bool b)
 |int (k:IntKind) (n:Int):DR D (.int k) n (.int k n)
 |str (s:List UInt8):DR D .str s (.str s)
 |nat (n:Nat):DR D .nat n .any
 |nil (t:DTy):DR D (.sl t) ([]:List (t.S D.T)) .nils
 |sl (t:DTy) (xs:List (t.S D.T)) (ws:List V) (full:Bool) (hl:ws.length=xs.length) (h:∀(j:Nat) (x:t.S D.T) (w:V),xs[j]? = some x->ws[j]? = some w->DR D t x w):DR D (.sl t) xs (.sl (D.len t) ws full)
 |st (i:Nat) (x:D.T i) (vs:List V) (hl:vs.length=(D.fl i).length) (h:∀(j:Nat) (p:(t:DTy)×t.S D.T) (v:V),HL.nth (D.fl i) (D.get i x) j=some p->vs[j]? = some v->DR D p.1 p.2 v):DR D (.st i) x (.agg vs)
 |enc (i:Nat) (x:D.T i):DR D (.st i) x (D.enc i x)
variable {P : Program} (hD : D.Ok P)
include hD
theorem yw3 (t:DTy) (x:t.S D.T):(D.el t x).cells.length=D.len t:=by
 cases t with
 |st i=>exact (congrArg (λv=>v.cells.length) (hD.enc i x)).trans (yb6 _ _)
 |_=>rfl
theorem DR.cells {t:DTy} {x:t.S D.T} {v:V} (h:DR D t x v):v.cells.length=D.len t:=by
 cases h with
 |enc i x=>exact yw3 hD (.st i) x
 |st i x vs hl h=>simpa [V.cells,Dat.len] using hl
 |_=>rfl
omit hD in
theorem DR.elsl (t:DTy) (xs:List (t.S D.T)) (h:∀x,DR D t x (D.el t x)):DR D (.sl t) xs (.sl (D.len t) (xs.map (D.el t)) false) :=
 .sl t xs _ false (by simp) λj x w hx hw=>by
   rw [List.getElem?_map,hx] at hw
   injection hw with hw
   subst hw
   exact h x
omit hD in
theorem DR.el:∀(t:DTy) (x:t.S D.T),DR D t x (D.el t x)
 | .bool,b=>.bool b
 | .int k,n=>.int k n
 | .str,s=>.str s
 | .nat,n=>.nat n
 | .sl t,xs=>DR.elsl t xs (DR.el t)
 | .st i,x=>.enc i x
end
end Go.Ab
