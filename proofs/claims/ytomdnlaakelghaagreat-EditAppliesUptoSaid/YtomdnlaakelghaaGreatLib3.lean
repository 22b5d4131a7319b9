/-
  REGIONS THAT DRAW THEIR ORDER: quiet operations and single effects, any two of which either stand in an order or commute.
-/
import Derived.Test.YtomdnlaakelghaaGreatLib2
import Derived.Recover
import Derived.Maps.RangeRun
namespace Go.Ab
open Go
set_option linter.unusedSimpArgs false
set_option linter.unusedVariables false
section
variable {P : Program} {ops : Array Oper} {md : Region.Mode}
structure Info where
 eff:Bool
 K:Nat->Prop
 W:Nat->Prop
 call:Bool:=false
def zv7 (K:Nat->Prop) (H H':kz3):Prop:=∀i,K i->H'.L[i]? = H.L[i]?
theorem zv7.refl (K:Nat->Prop) (H:kz3):zv7 K H H:=λ_ _=>rfl
theorem zv7.trans {K:Nat->Prop} {A B C:kz3} (h:zv7 K A B) (k:zv7 K B C):zv7 K A C:=λi hi=>(k i hi).trans (h i hi)
theorem zv7.symm {K:Nat->Prop} {A B:kz3} (h:zv7 K A B):zv7 K B A:=λi hi=>(h i hi).symm
def ytb (op:Op):Bool:=match op with
 | .alloc _| .box _ _| .store _ _ _=>true
 | .call c=>(match c.callee with
   | .builtin .append=>true
   | .builtin .unsafeString=>true
   |_=>false)
 |_=>false
theorem y3h {H:kz3} {ρ ρ':Operand->V} {o:Op} (h:∀x∈o.operands,ρ x=ρ' x):zq9 P H ρ o=zq9 P H ρ' o:=by
 cases o
 case makeSlice t n c=>simp only [zq9,h n (by simp [Op.operands]),h c (by simp [Op.operands])]
 case convert s d x=>simp only [zq9,h x (by simp [Op.operands])]
 case binOp op t x y _=>simp only [zq9,h x (by simp [Op.operands]),h y (by simp [Op.operands])]
 case call c=>
  simp only [zq9];split
  ·split
   ·rename_i x ha;rw [h x (by simp [Op.operands,Call.operands];right;rw [<-Array.mem_toList_iff,ha];simp)]
   ·rfl
  ·split
   ·rename_i p n pt it ha ht;rw [h p (by simp [Op.operands,Call.operands];right;rw [<-Array.mem_toList_iff,ha];simp),h n (by simp [Op.operands,Call.operands];right;rw [<-Array.mem_toList_iff,ha];simp)]
   ·rfl
  ·rfl
 all_goals rfl
def QP (P:Program) (H:kz3) (ρ:Operand->V) (o:Oper) (v:V):Prop:=pv P H ρ o.op=some v∨(∃c f args,o.op = .call c∧target ρ c=some (f,args)∧zw0 P f args H v H)∨zq9 P H ρ o.op=some (v,H)∨(∃t n c,o.op = .makeSlice t n c∧y2h P t (ρ n) (ρ c)=some v)∨∃c s x t u,o.op = .call c∧c.callee = .builtin .append∧c.args.toList=[s,x]∧c.argTypes.toList=[t,u]∧zt1 P t u (ρ s) (ρ x)=some v
theorem zmu {H:kz3} {ρ ρ':Operand->V} {o:Oper} {v:V} (h:∀x∈o.op.operands,ρ x=ρ' x) (hq:QP P H ρ o v):QP P H ρ' o v:=by
 rcases hq with hq|⟨c,f,args,h1,h2,h3⟩|hq|⟨t,n,c,h1,h2⟩|⟨c,s,x,t,u,h1,h2,h3,h4,h5⟩
 ·exact .inl (by rw [<-yq1 h];exact hq)
 ·exact .inr (.inl ⟨c,f,args,h1,by rw [<-zlg (ρ:=ρ) (λx hx=>h x (by rw [h1];exact hx))];exact h2,h3⟩)
 ·exact .inr (.inr (.inl (by rw [<-y3h h];exact hq)))
 ·exact .inr (.inr (.inr (.inl ⟨t,n,c,h1,by rw [<-h n (by rw [h1];simp [Op.operands]),<-h c (by rw [h1];simp [Op.operands])];exact h2⟩)))
 ·exact .inr (.inr (.inr (.inr ⟨c,s,x,t,u,h1,h2,h3,h4,by
   rw [<-h s (by rw [h1];simp [Op.operands,Call.operands];right;rw [<-Array.mem_toList_iff,h3];simp),<-h x (by rw [h1];simp [Op.operands,Call.operands];right;rw [<-Array.mem_toList_iff,h3];simp)];exact h5⟩)))
def Eff2 (P:Program) (H:kz3) (ρ:Operand->V) (op:Op) (v:V) (H':kz3):Prop:=ox P H ρ op=some (v,H')∨zq9 P H ρ op=some (v,H')
theorem yyk {H:kz3} {ρ ρ':Operand->V} {o:Op} (he:ytb o=true) (h:∀x∈o.operands,ρ x=ρ' x):ox P H ρ o=ox P H ρ' o:=by
 cases o
 case alloc t=>rfl
 case box t x=>simp only [ox,h x (by simp [Op.operands])]
 case store t a x=>simp only [ox,h x (by simp [Op.operands]),h a (by simp [Op.operands])]
 case call c=>
  simp only [ytb] at he;split at he
  ·rename_i hc;simp only [ox,hc];split
   ·rename_i s x t u ha ht;rw [h s (by simp [Op.operands,Call.operands];right;rw [<-Array.mem_toList_iff,ha];simp),h x (by simp [Op.operands,Call.operands];right;rw [<-Array.mem_toList_iff,ha];simp)]
   ·rfl
  ·rename_i hc;simp only [ox,hc,pv,zb4]
  ·cases he
 all_goals cases he
theorem zrx {H H':kz3} {ρ ρ':Operand->V} {o:Op} {v:V} (he:ytb o=true) (h:∀x∈o.operands,ρ x=ρ' x) (hx:Eff2 P H ρ o v H'):Eff2 P H ρ' o v H' :=
 hx.imp (λq=>by rw [<-yyk he h];exact q) (λq=>by rw [<-y3h h];exact q)
def MV (P:Program) (ops:Array Oper) (S:kz3->Prop) (c:Info) (σ:St) (o:Oper) (v:V) (H':kz3):Prop :=
 (yzy ops σ o=some false∧v = .tup []∧H'=σ.H) ∨
 (yzy ops σ o=some true∧S σ.H ∧
  ((c.eff=false∧H'=σ.H∧∀H'',S H''->zv7 c.K σ.H H''->QP P H'' σ.ev o v) ∨
   (c.eff=true∧ytb o.op=true∧Eff2 P σ.H σ.ev o.op v H'∧S H'∧∀i,¬c.W i->H'.L[i]? = σ.H.L[i]?)))
def z7b (σ:St) (o:Oper) (v:V) (H':kz3):St:=({σ with H:=H'}:St).put o.dst v
theorem zyz {σ:St} {o:Oper} {v:V} {H':kz3} {x:Operand} (h:∀d,o.dst=some d->x ≠ .tmp d):(z7b σ o v H').ev x=σ.ev x :=
 (yys (σ:={σ with H:=H'}) h).trans (by cases x <;> rfl)
theorem zuo {σ:St} {o:Oper} {v:V} {H':kz3}:(z7b σ o v H').H=H':=z026
theorem zlp {σ:St} {o oj:Oper} {v:V} {H':kz3} (h:∀d,o.dst=some d->d∉oj.looksAt ops):yzy ops (z7b σ o v H') oj=yzy ops σ oj :=
 (y3e (σ:={σ with H:=H'}) h).trans rfl
theorem yau {σ:St} {oi oj:Oper} {v u:V} {A B C:kz3} (h:∀d,oi.dst=some d->oj.dst≠some d):z7b (z7b σ oi v A) oj u C=z7b (z7b σ oj u B) oi v C:=by
 have e1:∀(o:Oper) (w:V) (H:kz3),({z7b σ o w H with H:=C}:St)=({σ with H:=C}:St).put o.dst w:=λo w H=>by unfold z7b;cases o.dst <;> rfl
 unfold z7b at e1 ⊢;rw [e1,e1];exact put_comm v u h
theorem z03c {S:kz3->Prop} {ci cj:Info} {oi oj:Oper} (hap:oi.apart ops oj=true) (hee:¬(ci.eff=true∧cj.eff=true)) (hij:ci.eff=false->cj.eff=true->∀x,ci.K x->¬cj.W x) (hji:cj.eff=false->ci.eff=true->∀x,cj.K x->¬ci.W x)
  {σ:St} {v u:V} {H1 H2:kz3} (h1:MV P ops S ci σ oi v H1) (h2:MV P ops S cj (z7b σ oi v H1) oj u H2) :
  ∃H1',MV P ops S cj σ oj u H1'∧MV P ops S ci (z7b σ oj u H1') oi v H2:=by
 obtain ⟨a1,a2,a3⟩:=Oper.apart_spec hap;have evj:∀{w:V} {H:kz3},∀x∈oj.op.operands,(z7b σ oi w H).ev x=σ.ev x:=λ{w H} x hx=>zyz λd hd=>zds (a1 d hd) x hx
 have evi:∀{w:V} {H:kz3},∀x∈oi.op.operands,(z7b σ oj w H).ev x=σ.ev x:=λ{w H} x hx=>zyz λd hd=>zds (a3 d hd) x hx
 have wj:∀{w:V} {H:kz3},yzy ops (z7b σ oi w H) oj=yzy ops σ oj:=zlp a1;have wi:∀{w:V} {H:kz3},yzy ops (z7b σ oj w H) oi=yzy ops σ oi:=zlp a3;unfold MV at h1 h2 ⊢;rw [wj,zuo] at h2;simp only [wi,zuo]
 rcases h1 with ⟨b1,rfl,rfl⟩|⟨b1,bs,⟨b2,rfl,b3⟩|⟨b2,b3,b4,b5,b6⟩⟩
 ·rcases h2 with ⟨d1,rfl,rfl⟩|⟨d1,ds,⟨d2,rfl,d3⟩|⟨d2,d3,d4,d5,d6⟩⟩
  ·exact ⟨σ.H,.inl ⟨d1,rfl,rfl⟩,.inl ⟨b1,rfl,rfl⟩⟩
  ·exact ⟨σ.H,.inr ⟨d1,ds,.inl ⟨d2,rfl,λH'' k1 k2=>zmu evj (d3 H'' k1 k2)⟩⟩,.inl ⟨b1,rfl,rfl⟩⟩
  ·exact ⟨H2,.inr ⟨d1,ds,.inr ⟨d2,d3,zrx d3 evj d4,d5,d6⟩⟩,.inl ⟨b1,rfl,rfl⟩⟩
 ·rcases h2 with ⟨d1,rfl,rfl⟩|⟨d1,ds,⟨d2,rfl,d3⟩|⟨d2,d3,d4,d5,d6⟩⟩
  ·exact ⟨σ.H,.inl ⟨d1,rfl,rfl⟩,.inr ⟨b1,bs,.inl ⟨b2,rfl,λH'' k1 k2=>zmu (λx hx=>(evi x hx).symm) (b3 H'' k1 k2)⟩⟩⟩
  ·exact ⟨σ.H,.inr ⟨d1,ds,.inl ⟨d2,rfl,λH'' k1 k2=>zmu evj (d3 H'' k1 k2)⟩⟩,.inr ⟨b1,bs,.inl ⟨b2,rfl,λH'' k1 k2=>zmu (λx hx=>(evi x hx).symm) (b3 H'' k1 k2)⟩⟩⟩
  ·refine ⟨H2,.inr ⟨d1,ds,.inr ⟨d2,d3,zrx d3 evj d4,d5,d6⟩⟩,.inr ⟨b1,d5,.inl ⟨b2,rfl,λH'' k1 k2=>zmu (λx hx=>(evi x hx).symm) (b3 H'' k1 (zv7.trans (λx hx=>d6 x (hij b2 d2 x hx)) k2))⟩⟩⟩
 ·rcases h2 with ⟨d1,rfl,rfl⟩|⟨d1,ds,⟨d2,rfl,d3⟩|⟨d2,d3,d4,d5,d6⟩⟩
  ·exact ⟨σ.H,.inl ⟨d1,rfl,rfl⟩,.inr ⟨b1,bs,.inr ⟨b2,b3,zrx b3 (λx hx=>(evi x hx).symm) b4,b5,b6⟩⟩⟩
  ·have hs:zv7 cj.K σ.H H2:=λx hx=>b6 x (hji d2 b2 x hx)
   exact ⟨σ.H,.inr ⟨d1,bs,.inl ⟨d2,rfl,λH'' k1 k2=>zmu evj (d3 H'' k1 (hs.symm.trans k2))⟩⟩,.inr ⟨b1,bs,.inr ⟨b2,b3,zrx b3 (λx hx=>(evi x hx).symm) b4,b5,b6⟩⟩⟩
  ·exact (hee ⟨b2,d2⟩).elim
def MC (P:Program) (ops:Array Oper) (S:kz3->Prop) (c:Info) (σ:St) (o:Oper) (K:V->kz3->Prop) (Kp:V->St->Prop):Prop :=
 c.eff=true∧c.call=true∧yzy ops σ o=some true∧∃cl f args Post,o.op = .call cl∧target σ.ev cl=some (f,args)∧y5i P f args σ.H Post ∧
  (∀v H',Post (.ret v) H'->S H'∧(∀i,¬c.W i->H'.L[i]? = σ.H.L[i]?)∧K v H')∧∀v H',Post (.pan v) H'->Kp v {σ with H:=H'}
theorem MC.imp {S:kz3->Prop} {c:Info} {σ:St} {o:Oper} {K K':V->kz3->Prop} {Kp:V->St->Prop} (h:MC P ops S c σ o K Kp) (hk:∀v H',S H'->(∀i,¬c.W i->H'.L[i]? = σ.H.L[i]?)->K v H'->K' v H'):MC P ops S c σ o K' Kp:=by
 obtain ⟨h1,h2,h3,cl,f,args,Post,h4,h5,h6,h7,h8⟩:=h;exact ⟨h1,h2,h3,cl,f,args,Post,h4,h5,h6,λv H' hp=>by obtain ⟨a,b,c⟩:=h7 v H' hp;exact ⟨a,b,hk v H' a b c⟩,h8⟩
inductive Dep (md:Region.Mode) (ops:Array Oper) (a:Nat):Nat->Prop where
 |one (b:Nat) (o:Oper) (e:Edge) (ho:ops[b]? = some o) (he:e∈o.after) (hb:Region.binds md e=true) (hon:e.on=a):Dep md ops a b
 |more (b:Nat) (o:Oper) (e:Edge) (ho:ops[b]? = some o) (he:e∈o.after) (hb:Region.binds md e=true) (h:Dep md ops a e.on):Dep md ops a b
def Free (md:Region.Mode) (ops:Array Oper) (i j:Nat):Prop:=¬Dep md ops i j∧¬Dep md ops j i
def Down (md:Region.Mode) (ops:Array Oper) (listed:Array Bool):Prop:=∀b o,ops[b]? = some o->listed.getD b false=true->∀e∈o.after,Region.binds md e=true->listed.getD e.on false=true
theorem Down.dep {listed:Array Bool} (h:Down md ops listed) {a b:Nat} (hd:Dep md ops a b):listed.getD b false=true->listed.getD a false=true:=by
 induction hd with
 |one b o e ho he hb hon=>intro hl;subst hon;exact h b o ho hl e he hb
 |more b o e ho he hb _ ih=>intro hl;exact ih (h b o ho hl e he hb)
theorem Down.ready {listed:Array Bool} (h:Down md ops listed) {a b:Nat} (hb:b∈Region.ready md ops listed) (hd:Dep md ops a b):listed.getD a false=true:=by
 obtain ⟨_,o',ho',hall⟩:=mem_ready.1 hb
 cases hd with
 |one _ o e ho he hb hon=>rw [ho'] at ho;injection ho with ho;subst ho;subst hon;exact hall e he hb
 |more _ o e ho he hb hd=>rw [ho'] at ho;injection ho with ho;subst ho;exact h.dep hd (hall e he hb)
theorem Down.set {listed:Array Bool} (h:Down md ops listed) {k:Nat} (hk:k∈Region.ready md ops listed):Down md ops (listed.setIfInBounds k true):=λb o ho hl e he hb=>by
 obtain ⟨_,o',ho',hall⟩:=mem_ready.1 hk
 have up:∀j,listed.getD j false=true->(listed.setIfInBounds k true).getD j false=true:=λj hj=>by
  by_cases hjk:k=j
  ·subst hjk
   rcases Nat.lt_or_ge k listed.size with q|q
   ·simp [Qae,q]
   ·simp [Qae,Array.getElem?_eq_none q] at hj
  ·rw [getD_set_ne false hjk];exact hj
 refine up _ ?_;by_cases hbk:k=b
 ·subst hbk
  rw [ho'] at ho;injection ho with ho;subst ho
  exact hall e he hb
 ·rw [getD_set_ne false hbk] at hl;exact h b o ho hl e he hb
def z020 (md:Region.Mode) (ops:Array Oper) (i j:Nat) (ci cj:Info):Prop:=Free md ops i j->(¬(ci.eff=true∧cj.eff=true))∧(ci.eff=false->cj.eff=true->∀x,ci.K x->¬cj.W x)∧(cj.eff=false->ci.eff=true->∀x,cj.K x->¬ci.W x)
def GP (md:Region.Mode) (ops:Array Oper) (prev:List (Nat×Info)) (j:Nat) (c:Info):Prop:=∀p∈prev,z020 md ops p.1 j p.2 c
section
variable (P ops) (md) (S : kz3 → Prop) (G : Nat → Info → Prop) (Kp : V → St → Prop)
def GoA (i:Nat) (K:St->Prop) (σ:St):Prop :=
 match ops[i]? with
 |none=>K σ
 |some o=>∃c,G i c∧((∃v H',c.call=false∧MV P ops S c σ o v H'∧K (z7b σ o v H'))∨MC P ops S c σ o (λv H'=>K (z7b σ o v H')) Kp)
def AM (R:St->Prop):Nat->Array Bool->St->Prop
 |0,listed,σ=>Region.ready md ops listed=[]∧R σ
 |fuel+1,listed,σ=>(Region.ready md ops listed=[]->R σ)∧∀i∈Region.ready md ops listed,GoA P ops S G Kp i (AM R fuel (listed.setIfInBounds i true)) σ
end
variable {S : kz3 → Prop} {G G' : Nat → Info → Prop} {Kp : V → St → Prop}
theorem MV.goA {i:Nat} {o:Oper} {v:V} {σ:St} {c:Info} {H':kz3} (hi:ops[i]? = some o) (hc:G i c) (hcl:c.call=false) (hy:MV P ops S c σ o v H') {K:St->Prop} (h:K (z7b σ o v H')):GoA P ops S G Kp i K σ:=by
 unfold GoA;simp only [hi];exact ⟨c,hc,.inl ⟨v,H',hcl,hy,h⟩⟩
theorem AM.mono (hg:∀j c,G' j c->G j c) {R:St->Prop}:∀(fuel:Nat) (listed:Array Bool) (σ:St),AM P ops md S G' Kp R fuel listed σ->AM P ops md S G Kp R fuel listed σ
 |0,_,_,h=>h
 |fuel+1,listed,σ,h=>⟨h.1,λi hi=>by
  have h1:=h.2 i hi;unfold GoA at h1 ⊢;split
  · rename_i ho;simp only [ho] at h1;exact AM.mono hg fuel _ _ h1
  · rename_i o ho;simp only [ho] at h1;obtain ⟨c,h0,⟨v,H',hc,h2,h3⟩|hm⟩:=h1
    · exact ⟨c,hg _ _ h0,.inl ⟨v,H',hc,h2,AM.mono hg fuel _ _ h3⟩⟩
    · exact ⟨c,hg _ _ h0,.inr (hm.imp λv H' _ _ k=>AM.mono hg fuel _ _ k)⟩⟩
theorem yqt {W0:World} {g0:Gh} {H0:kz3} {i:Nat} {σ:St} {K:St->Prop} {K':Act->World->Prop} {Q':Exit->Act->World->Prop}
  (hk:∀W a g σ,K σ->(σ.e0=H0.E∧Step W0 g0 H0 W g σ.H)->z03 W a g σ->K' a W) (hkp:∀W a g σ v c,Kp v σ->(σ.e0=H0.E∧Step W0 g0 H0 W g σ.H)->z03 W a g σ->Rel W g σ.H v c->Q' (.panic [{v:=c,recovered:=false}]) a W)
  {W:World} {a:Act} {g:Gh} (hh:GoA P ops S G Kp i K σ) (hS:σ.e0=H0.E∧Step W0 g0 H0 W g σ.H) (hG:z03 W a g σ):wpOp P ops Q' i K' a W:=by
 unfold GoA at hh;unfold wpOp;split
 ·rename_i ho;simp only [ho] at hh;exact hk W a g σ hh hS hG
 ·rename_i o ho;simp only [ho] at hh;obtain ⟨c0,_,hh⟩:=hh;have he0:∀{v:V} {H':kz3},(z7b σ o v H').e0=σ.e0:=λ{v H'}=>by unfold z7b;cases o.dst <;> rfl
  rcases hh with ⟨v,H',_,hy,hkk⟩|⟨_,_,hw,cl,f,args,Post,hop,ht,hc,hret,hpan⟩
  ·have fin:∀c W' g',Step W g σ.H W' g' H'->Good W' g' H'->Rel W' g' H' v c->K' (a.put o.dst c) W':=λc W' g' s1 s2 s3=>
    hk W' _ g' _ hkk (by rw [zuo,he0];exact ⟨hS.1,hS.2.trans s1⟩) (hG.next s1 s2 s3 o.dst)
   rcases hy with ⟨hw,rfl,rfl⟩|⟨hw,hs,⟨_,rfl,hv⟩|⟨_,_,hv,_,_⟩⟩
   ·rw [z0j hG hw,Qbu (by simp)];exact fin undef W g (.refl _ _ _) hG.good (.tup [] #[] rfl (by simp))
   ·rw [z0j hG hw,Qbt rfl];left;unfold Oper.wp
    rcases hv σ.H hs (.refl _ _) with hv|⟨c,f,args,hop,ht,hcl⟩|hv|⟨t,n,cz,hop,hv⟩|⟨cc,s,x,t,u,hop,hcal,hargs,htys,hv⟩
    ·obtain ⟨c,W',h1,h2,h3⟩:=y03 (P:=P) hG.good (r:=a.eval) hG.ev hv;rw [h1];exact fin c W' g h2.step (hG.good.grow h2) h3
    ·obtain ⟨cargs,k1,k2⟩:=zev (P:=P) (ty:=o.type) hG.ev ht
     have hex:(execOp a.eval o).run P W=(callFunc f cargs).run P W:=by
      rw [<-k2 W];unfold execOp;rw [hop]
     rcases hcl W g cargs hG.good k1 with ⟨e1,e2⟩|⟨c,W',g',e1,e2,e3,e4⟩
     ·rw [hex,e1];refine e2.mono λe W' ⟨c,g',he,s1,s2,s3⟩ => ?_
      subst he;exact fin c W' g' s1 s2 s3
     ·rw [hex,e1];exact fin c W' g' e2 e3 e4
    ·obtain ⟨c,W',g',h1,h2,h3,h4⟩:=zse (P:=P) hG.good hG.ev hv
     rcases h1 with h1|⟨h1,h1'⟩
     ·rw [h1];exact fin c W' g' h2 h3 h4
     ·rw [h1];subst h1';exact fin _ W' g' h2 h3 h4
    ·obtain ⟨c,W',g',h1,h2,h3,h4⟩:=y6y (P:=P) hG.good hv (hG.ev n) (hG.ev cz);have hex:(execOp a.eval o).run P W=(do pure (.value (<-Instr.makeSlice t (a.eval n) (a.eval cz))):Sem Next).run P W:=by unfold execOp;rw [hop]
     rw [hex]
     rcases h1 with h1|⟨h1,h1'⟩
     ·rw [h1];exact fin c W' g' h2 h3 h4
     ·rw [h1];subst h1';exact fin _ W' g' h2 h3 h4
    ·obtain ⟨c,W',g',h1,h2,h3,h4⟩:=yd3 (P:=P) (ty:=o.type) hG.good hv (hG.ev s) (hG.ev x)
     have hex:(execOp a.eval o).run P W=(do pure (.value (<-Builtin.append_ #[t,u] o.type #[a.eval s,a.eval x])):Sem Next).run P W:=by
      obtain ⟨callee,args,argTypes⟩:=cc;simp only at hcal hargs htys;subst hcal;obtain rfl:=z0a hargs;obtain rfl:=z0a htys;unfold execOp;rw [hop];simp [resolve,invoke,builtin]
     rw [hex]
     rcases h1 with h1|⟨h1,h1'⟩
     ·rw [h1];exact fin c W' g' h2 h3 h4
     ·rw [h1];subst h1';exact fin _ W' g' h2 h3 h4
   ·rw [z0j hG hw,Qbt rfl];left;unfold Oper.wp;obtain ⟨c,W',g',h1,h2,h3,h4⟩:=hv.elim (λq=>y8t (P:=P) hG.good hG.ev q) (λq=>zse (P:=P) hG.good hG.ev q)
    rcases h1 with h1|⟨h1,h1'⟩
    ·rw [h1];exact fin c W' g' h2 h3 h4
    ·rw [h1];subst h1';exact fin _ W' g' h2 h3 h4
  ·rw [z0j hG hw,Qbt rfl];left;unfold Oper.wp;obtain ⟨cargs,k1,k2⟩:=zev (P:=P) (ty:=o.type) hG.ev ht
   have hex:(execOp a.eval o).run P W=(callFunc f cargs).run P W:=by
    rw [<-k2 W];unfold execOp;rw [hop]
   obtain ⟨e1,e2⟩:=hc W g cargs hG.good k1;rw [hex,e1];refine e2.mono λe W' ⟨o',H',g',p1,p2,p3,p4⟩ => ?_
   cases o' with
   |ret r=>
    obtain ⟨c',he,hr'⟩:=p4;subst he
    exact hk W' (a.put o.dst c') g' _ (hret r H' p1).2.2 (by rw [zuo,he0];exact ⟨hS.1,hS.2.trans p2⟩) (hG.next p2 p3 hr' o.dst)
   |pan v=>
    obtain ⟨c',he,hr'⟩:=p4;subst he;have hn:=hG.next p2 p3 (.any undef) none;exact hkp W' a g' {σ with H:=H'} v c' (hpan v H' p1) ⟨hS.1,hS.2.trans p2⟩ hn hr'
theorem y3r {W0:World} {g0:Gh} {H0:kz3} {R:St->Prop} {Q':Exit->Act->World->Prop} (hR:∀W a g σ,R σ->(σ.e0=H0.E∧Step W0 g0 H0 W g σ.H)->z03 W a g σ->Q' .normal a W)
  (hkp:∀W a g σ v c,Kp v σ->(σ.e0=H0.E∧Step W0 g0 H0 W g σ.H)->z03 W a g σ->Rel W g σ.H v c->Q' (.panic [{v:=c,recovered:=false}]) a W) :
  ∀(fuel:Nat) (listed:Array Bool) (σ:St) (W:World) (a:Act) (g:Gh),AM P ops md S G Kp R fuel listed σ->(σ.e0=H0.E∧Step W0 g0 H0 W g σ.H)->z03 W a g σ->wpAny P md ops Q' fuel listed a W
 |0,_,σ,W,a,g,h,hS,hG=>⟨h.1,hR W a g σ h.2 hS hG⟩
 |fuel+1,listed,σ,W,a,g,h,hS,hG=>⟨λh0=>hR W a g σ (h.1 h0) hS hG,λi hi=>yqt (λW a g σ' hk hS hG=>y3r hR hkp fuel _ σ' W a g hk hS hG) hkp (h.2 i hi) hS hG⟩
theorem z02y {ci cj:Info} {oi oj:Oper} (hap:oi.apart ops oj=true) (hci:ci.eff=false) (hij:∀x,ci.K x->¬cj.W x) (hkp:∀v (σ:St) t',Kp v σ->t'.length=σ.t.length->Kp v {σ with t:=t'})
  {σ:St} {v:V} {H1:kz3} (h1:MV P ops S ci σ oi v H1) {K:V->kz3->Prop} (h2:MC P ops S cj (z7b σ oi v H1) oj K Kp):H1=σ.H ∧
  MC P ops S cj σ oj (λu H'=>MV P ops S ci (z7b σ oj u H') oi v H'∧K u H') Kp:=by
 obtain ⟨a1,a2,a3⟩:=Oper.apart_spec hap;have evj:∀{w:V} {H:kz3},∀x∈oj.op.operands,(z7b σ oi w H).ev x=σ.ev x:=λ{w H} x hx=>zyz λd hd=>zds (a1 d hd) x hx
 have evi:∀{w:V} {H:kz3},∀x∈oi.op.operands,(z7b σ oj w H).ev x=σ.ev x:=λ{w H} x hx=>zyz λd hd=>zds (a3 d hd) x hx
 have hH:H1=σ.H:=by
  rcases h1 with ⟨_,_,h⟩|⟨_,_,⟨_,h,_⟩|⟨h,_⟩⟩
  ·exact h
  ·exact h
  ·rw [hci] at h;cases h
 subst hH;refine ⟨rfl,?_⟩;obtain ⟨b1,b2,b3,cl,f,args,Post,b4,b5,b6,b7,b8⟩:=h2;rw [zlp a1] at b3;rw [zlg (ρ':=σ.ev) (λx hx=>evj x (by rw [b4];exact hx))] at b5;rw [zuo] at b6 b7;refine ⟨b1,b2,b3,cl,f,args,Post,b4,b5,b6,λu H' hp => ?_,λu H' hp => ?_⟩
 ·obtain ⟨c1,c2,c3⟩:=b7 u H' hp;refine ⟨c1,c2,?_,c3⟩;unfold MV at h1 ⊢;rw [zlp a3,zuo]
  rcases h1 with ⟨d1,d2,_⟩|⟨d1,d2,⟨d3,_,d4⟩|⟨h,_⟩⟩
  ·exact .inl ⟨d1,d2,rfl⟩
  ·exact .inr ⟨d1,c1,.inl ⟨d3,rfl,λH'' k1 k2=>zmu (λx hx=>(evi x hx).symm) (d4 H'' k1 (zv7.trans (λx hx=>c2 x (hij x hx)) k2))⟩⟩
  ·rw [hci] at h;cases h
 ·have:=hkp u _ σ.t (b8 u H' hp) (by unfold z7b;cases oi.dst <;> simp [St.put]);have e:({({z7b σ oi v σ.H with H:=H'}:St) with t:=σ.t}:St)={σ with H:=H'}:=by unfold z7b;cases oi.dst <;> rfl
  rw [e] at this;exact this
theorem z00o (hkp:∀v (σ:St) t',Kp v σ->t'.length=σ.t.length->Kp v {σ with t:=t'}) {R:St->Prop} {i:Nat} {oi:Oper} {ci:Info} (hi:ops[i]? = some oi) (hci:G i ci) (hcc:ci.call=false) (hg:∀j c,G' j c->G j c∧z020 md ops i j ci c) :
  ∀(fuel:Nat) (listed:Array Bool) (σ:St),Down md ops listed ->
   (∀j oj,ops[j]? = some oj->j≠i->listed.getD j true=false->(∀e∈oj.after,Region.binds md e=true->e.on≠i)->oi.apart ops oj=true) ->
   i∈Region.ready md ops listed->∀v H',MV P ops S ci σ oi v H'->AM P ops md S G' Kp R fuel (listed.setIfInBounds i true) (z7b σ oi v H')->AM P ops md S G Kp R (fuel+1) listed σ:=by
 intro fuel
 induction fuel with
 |zero=>
  intro listed σ _ _ hr v H' hy H;refine ⟨λh=>(by rw [h] at hr;cases hr),λj hj => ?_⟩;by_cases hji:j=i
  · subst hji;exact hy.goA hi hci hcc (AM.mono (λj c h=>(hg j c h).1) _ _ _ H)
  · have:=ready_mono hj hji;rw [H.1] at this
    cases this
 |succ fuel ih=>
  intro listed σ hdown hfree hr v H' hy H;refine ⟨λh=>(by rw [h] at hr;cases hr),λj hj => ?_⟩;by_cases hji:j=i
  · subst hji;exact hy.goA hi hci hcc (AM.mono (λj c h=>(hg j c h).1) _ _ _ H)
  · have h1:=H.2 j (ready_mono hj hji);obtain ⟨hjun,oj,hoj,hall⟩:=mem_ready.1 hj;obtain ⟨hun,oi',hoi',hall'⟩:=mem_ready.1 hr
    rw [hi] at hoi';injection hoi' with hoi';subst hoi'
    have hnot:∀e∈oj.after,Region.binds md e=true->e.on≠i:=λe he hb heq=>by
     have h1:=hall e he hb;rw [heq,getD_both hun] at h1;cases h1
    have hnot':∀e∈oi.after,Region.binds md e=true->e.on≠j:=λe he hb heq=>by
     have h1:=hall' e he hb;rw [heq,getD_both hjun] at h1;cases h1
    have hfr:Free md ops i j:=⟨λhd=>(by have:=hdown.ready hj hd;rw [getD_both hun] at this;cases this),λhd=>(by have:=hdown.ready hr hd;rw [getD_both hjun] at this;cases this)⟩;have hap:=hfree j oj hoj hji hjun hnot
    have hfree':∀k ok,ops[k]? = some ok->k≠i->(listed.setIfInBounds j true).getD k true=false ->
      (∀e∈ok.after,Region.binds md e=true->e.on≠i)->oi.apart ops ok=true:=λk ok hk hki hun hno=>by
     refine hfree k ok hk hki ?_ hno;by_cases hjk:j=k
     · subst hjk;exact hjun
     · rw [getD_set_ne true hjk] at hun;exact hun
    unfold GoA at h1 ⊢;simp only [hoj] at h1 ⊢;obtain ⟨cj,hcj,⟨u,H2,hjc,hm,hk⟩|hm⟩:=h1
    · obtain ⟨hgj,hpair⟩:=hg j cj hcj;obtain ⟨p1,p2,p3⟩:=hpair hfr;obtain ⟨H1',q1,q2⟩:=z03c hap p1 p2 p3 hy hm;refine ⟨cj,hgj,.inl ⟨u,H1',hjc,q1,ih (listed.setIfInBounds j true) _ (hdown.set hj) hfree' (ready_mono hr (Ne.symm hji)) v H2 q2 ?_⟩⟩;rw [Array.setIfInBounds_comm _ _ hji];rw [yau (B:=H1') (Oper.apart_spec hap).2.1] at hk;exact hk
    · obtain ⟨hgj,hpair⟩:=hg j cj hcj;obtain ⟨p1,p2,p3⟩:=hpair hfr
      have hie:ci.eff=false:=by
       cases he:ci.eff with
       |false=>rfl
       |true=>exact (p1 ⟨he,hm.1⟩).elim
      obtain ⟨rfl,q⟩:=z02y (Kp:=Kp) hap hie (p2 hie hm.1) hkp hy hm;refine ⟨cj,hgj,.inr (q.imp λu H2 _ _ ⟨q2,hk⟩=>ih (listed.setIfInBounds j true) _ (hdown.set hj) hfree' (ready_mono hr (Ne.symm hji)) v H2 q2 ?_)⟩;rw [Array.setIfInBounds_comm _ _ hji];rw [yau (B:=H2) (Oper.apart_spec hap).2.1] at hk;exact hk
def y1l (md:Region.Mode) (ops:Array Oper):List Nat->Array Bool->Bool
 |[],listed=>(Region.ready md ops listed).isEmpty
 |k::r,listed=>(Region.ready md ops listed).contains k&&Region.free md ops listed k&&y1l md ops r (listed.setIfInBounds k true)
def zp9 (P:Program) (ops:Array Oper) (md:Region.Mode) (S:kz3->Prop) (Kp:V->St->Prop) (R:St->Prop):List Nat->List (Nat×Info)->St->Prop
 |[],_,σ=>R σ
 |k::ks,prev,σ=>∃o c,ops[k]? = some o∧GP md ops prev k c∧((∃v H',c.call=false∧MV P ops S c σ o v H'∧zp9 P ops md S Kp R ks ((k,c)::prev) (z7b σ o v H')) ∨
  ((∀j∈ks,¬Free md ops k j)∧MC P ops S c σ o (λv H'=>zp9 P ops md S Kp R ks ((k,c)::prev) (z7b σ o v H')) Kp))
theorem z01e (hkp:∀v (σ:St) t',Kp v σ->t'.length=σ.t.length->Kp v {σ with t:=t'}) {R:St->Prop}:∀(l:List Nat) (prev:List (Nat×Info)) (listed:Array Bool) (σ:St),Down md ops listed->(∀j,listed.getD j true=false->j∈l) ->
  y1l md ops l listed=true->zp9 P ops md S Kp R l prev σ->AM P ops md S (GP md ops prev) Kp R l.length listed σ
 |[],_,listed,σ,_,_,hB,h=>⟨by simpa [y1l] using hB,h⟩
 |k::l,prev,listed,σ,hdown,hlow,hB,h=>by
  obtain ⟨o,c,h0,hc0,h⟩:=h;simp only [y1l,Qag] at hB;obtain ⟨⟨hr,hf⟩,hB'⟩:=hB;have hr:k∈Region.ready md ops listed:=by simpa using hr
  have hlow':∀j,(listed.setIfInBounds k true).getD j true=false->j∈l:=λj hj=>by
   by_cases hjk:k=j
   · subst hjk;by_cases hlt:k<listed.size
     · simp [Qae,hlt] at hj
     · simp [Qae,Array.getElem?_eq_none (Nat.le_of_not_lt hlt)] at hj
   · rw [getD_set_ne true hjk] at hj
     rcases Qbi.1 (hlow j hj) with e|e
     · exact (hjk e.symm).elim
     · exact e
  have rest:∀σ',zp9 P ops md S Kp R l ((k,c)::prev) σ'->AM P ops md S (GP md ops ((k,c)::prev)) Kp R l.length (listed.setIfInBounds k true) σ':=λσ' hrest=>
   z01e hkp l _ _ _ (hdown.set hr) hlow' hB' hrest
  rcases h with ⟨v,H',hc,hy,hrest⟩|⟨hlate,hm⟩
  · exact z00o (G:=GP md ops prev) (G':=GP md ops ((k,c)::prev)) hkp h0 hc0 hc (λj c' h'=>⟨λp hp=>h' p (Qai _ hp),h' _ Qak⟩) l.length listed σ hdown (Region.free_spec h0 hf) hr v H' hy (rest _ hrest)
  · refine ⟨λh=>(by rw [h] at hr;cases hr),λj hj => ?_⟩;by_cases hjk:j=k
    · subst hjk;unfold GoA;simp only [h0];exact ⟨c,hc0,.inr (hm.imp λv H' _ _ hk=>AM.mono (λj' c' h' p hp=>h' p (Qai _ hp)) _ _ _ (rest _ hk))⟩
    · exfalso
      obtain ⟨hjun,oj,hoj,hall⟩:=mem_ready.1 hj;obtain ⟨hun,oi',hoi',hall'⟩:=mem_ready.1 hr;refine hlate j ?_ ⟨λhd=>(by have:=hdown.ready hj hd;rw [getD_both hun] at this;cases this),λhd=>(by have:=hdown.ready hr hd;rw [getD_both hjun] at this;cases this)⟩
      rcases Qbi.1 (hlow j hjun) with e|e
      · exact (hjk e).elim
      · exact e
theorem z01y {id:Nat} {σ:St} {Q:kzd->St->Prop} (hm:P.follows .mixedOrders=true) (l:List Nat) (hB:y1l .any ops l (Array.replicate ops.size false)=true) (hl:l.length=ops.size) (hall:∀j,j<ops.size->j∈l)
  (h:zp9 P ops .any S (λv σ=>∀t',t'.length=σ.t.length->Q (.panic v) {σ with t:=t'}) (Q .normal) l [] σ) :
  Sat P (.region id ops true) σ Q:=λW0 g0 H0 W a g _ hS hG=>by
 refine wp_region_any hm ?_;have hG':=hG.drawn (W.drawn+1);have hS':σ.e0=H0.E∧Step W0 g0 H0 {W with drawn:=W.drawn+1} g σ.H:=⟨hS.1,hS.2.trans (Grow.drawn W _).step⟩
 have:=z01e (P:=P) (md:=.any) (R:=Q .normal) (λv σ t' h ht=>λt'' ht''=>h t'' (ht''.trans ht)) l [] (Array.replicate ops.size false) σ (λb o _ hb=>by rw [getD_replicate_false] at hb;cases hb) (λj hj=>by
  rcases Nat.lt_or_ge j ops.size with q|q
  ·exact hall j q
  ·simp [Qae,Array.getElem?_eq_none (xs:=Array.replicate ops.size false) (i:=j) (by simpa using q)] at hj) hB h
 rw [hl] at this;exact y3r (Q':=ynq W0 g0 H0 Q) (λW a g τ hτ hS hG=>⟨g,τ,.normal,.normal,hS,hG,hτ⟩) (λW a g τ v c hτ hS hG hr=>⟨g,τ,.panic v,.panic v c hr,hS,hG,hτ τ.t rfl⟩) _ _ σ _ a g this hS' hG'
theorem y9g {H H':kz3} {t l i off:Nat} (h:H'.get l i=H.get l i):zcl P H' t (.ptr l i off)=zcl P H t (.ptr l i off):=by simp only [zcl,h]
theorem zt3 {H H':kz3} {t:Nat} {cs:List V} {off:Nat}:zcl P H' t (.ref cs off)=zcl P H t (.ref cs off):=rfl
theorem yf6 {H H':kz3} {t l i ver idx off:Nat} (h:H'.get l i=H.get l i):zcl P H' t (.ap l i ver idx off)=zcl P H t (.ap l i ver idx off):=by simp only [zcl,zvl,h]
theorem zw6 {H H':kz3} {t l i ver off n:Nat} {full:Bool} {y:V} (h:H'.get l i=H.get l i):kzq P H' t (.hs l i ver off n full) y=kzq P H t (.hs l i ver off n full) y:=by simp only [kzq,h]
theorem ylr {H H':kz3} {t l i ver off n:Nat} {full:Bool} (h:H'.get l i=H.get l i):zpd P H' t (.hs l i ver off n full)=zpd P H t (.hs l i ver off n full):=by simp only [zpd,h]
def V.plain:V->Bool
 | .hs .. | .map .. => false
 |_=>true
theorem ytj {H H':kz3} {t:Nat} {x:V} (h:x.plain=true):zpd P H' t x=zpd P H t x:=by cases x <;> first|rfl|cases h
theorem y2s {H H':kz3} {t:Nat} {x y:V} (h:x.plain=true):kzq P H' t x y=kzq P H t x y:=by cases x <;> first|rfl|cases h
theorem yom {H H':kz3} {t:Nat} {x:V} {a b c:Option V} (h:x.plain=true):zhk P H' t x a b c=zhk P H t x a b c:=by cases x <;> first|rfl|cases h
end
def yvq (all:List Oper) (i j:Nat):Bool:=match all[j]? with
 |some o=>o.after.toList.any λe=>Region.binds .any e&&Nat.beq e.on i
 |none=>false
def yyt (all:List Oper):Nat->Nat->Nat->Bool
 |0,i,j=>yvq all i j
 |n+1,i,j=>yvq all i j||(match all[j]? with
  |some o=>o.after.toList.any λe=>Region.binds .any e&&yyt all n i e.on
  |none=>false)
def ykx (all:List Oper) (i j:Nat):Bool:=yyt all 8 i j||yyt all 8 j i
theorem yp9 {ops:Array Oper}:∀(n:Nat) {i j:Nat},yyt ops.toList n i j=true->Dep .any ops i j:=λn=>by
 have edge:∀{i j:Nat},yvq ops.toList i j=true->Dep .any ops i j:=λ{i j} h=>by
  unfold yvq at h;split at h
  ·rename_i o ho;rw [List.any_eq_true] at h;obtain ⟨e,he,hb⟩:=h;simp only [Qag] at hb;exact .one j o e (by simpa using ho) (by simpa using he) hb.1 (Qaj hb.2)
  ·cases h
 induction n with
 |zero=>intro i j h;exact edge h
 |succ n ih=>
  intro i j h;simp only [yyt,Bool.or_eq_true] at h
  rcases h with h|h
  · exact edge h
  · split at h
    · rename_i o ho;rw [List.any_eq_true] at h;obtain ⟨e,he,hb⟩:=h;simp only [Qag] at hb;exact .more j o e (by simpa using ho) (by simpa using he) hb.1 (ih hb.2)
    · cases h
theorem zlu {ops:Array Oper} {i j:Nat} (h:ykx ops.toList i j=true):¬Free .any ops i j:=λhf=>by
 unfold ykx at h;rw [Bool.or_eq_true] at h
 rcases h with h|h
 ·exact hf.1 (yp9 8 h)
 ·exact hf.2 (yp9 8 h)
inductive y0g where
 |ret
 |pan (v:V) (recovered:Bool)
def y0g.value:y0g->V
 | .pan v false=>v
 |_=>.nili
theorem LetsOut.mono {Q Q':Exit->Act->World->Prop} (hq:∀e a w,Q e a w->Q' e a w) (h:LetsOut Q):LetsOut Q':=by
 obtain ⟨a,w,h⟩:=h;exact ⟨a,w,hq _ _ _ h⟩
def yuv (W:World) (g:Gh) (H:kz3):y0g->FrameMode->Prop
 | .ret,u=>u = .returning
 | .pan v r,u=>∃c,u = .panicking [{v:=c,recovered:=r}]∧Rel W g H v c
theorem yuv.mono {W:World} {g:Gh} {H:kz3} {m:y0g} {u:FrameMode} (h:yuv W g H m u) {W':World} {g':Gh} {H':kz3} (s:Step W g H W' g' H'):yuv W' g' H' m u:=by
 cases m with
 |ret=>exact h
 |pan v r=>obtain ⟨c,h1,h2⟩:=h;exact ⟨c,h1,h2.mono s⟩
theorem yuv.run {W:World} {g:Gh} {H:kz3} {m:y0g} {u:FrameMode} (h:yuv W g H m u):u ≠ .run:=by
 cases m with
 |ret=>subst h;simp
 |pan v r=>obtain ⟨c,h1,h2⟩:=h;subst h1;simp
def z03v (W0:World) (g0:Gh) (H0:kz3) (c₀:Frame) (cs:List Frame) (Q:kzd->St->Prop) (m':y0g) (e:Exit) (a:Act) (cs':List Frame) (W:World):Prop :=
 ∃g σ e' u',yxz W g σ.H e e'∧(σ.e0=H0.E∧Step W0 g0 H0 W g σ.H)∧z03 W a g σ∧cs'={c₀ with mode:=u'}::cs∧yuv W g σ.H m' u'∧Q e' σ
theorem z03v.out {W0:World} {g0:Gh} {H0:kz3} {c₀:Frame} {cs:List Frame} {Q:kzd->St->Prop} {m':y0g} {a:Act} {cs':List Frame} {W:World}:¬z03v W0 g0 H0 c₀ cs Q m' .outgrown a cs' W:=λ⟨_,_,_,_,h,_⟩=>by cases h
section
variable {P : Program}
end
def PV.v:PV->V
 | .bool b=>.bool b
 | .int k n=>.int k n
 | .str s=>.str s
theorem PV.rel {W:World} {g:Gh} {H:kz3}:∀p:PV,Rel W g H p.v p.c
 | .bool b=>.bool b
 | .int k n=>.int k n
 | .str s=>.str s
theorem PV.of {W:World} {g:Gh} {H:kz3}:∀{p:PV} {c:Value},Rel W g H p.v c->c=p.c
 | .bool b,c,h=>by cases h;rfl
 | .int k n,c,h=>by cases h;rfl
 | .str s,c,h=>by cases h;rfl
section
variable {P : Program} {W : World} {g : Gh} {H : kz3}
theorem z029 {H':kz3} {i:Nat} {es:List (PV×PV)} (hG:Good W g H) (hget:H.get H.lv i=some (.map (es.map λp=>(p.1.v,p.2.v)))) (hno:¬Own g H' (g.blk H.lv i)) {c:Value} (h:Rel W g H (.map H.lv i) c):Rel W g H' (.mapc es) c:=by
 obtain ⟨en,clock,m1,m2,m3,m4,m5⟩:=hG.obj _ _ _ hget
 cases h with
 |map _ _ hd=>
  refine .mapc es _ en clock hno m1 ⟨by simpa using m2,m3,m4,λj p hj => ?_⟩;obtain ⟨e,he,r1,r2⟩:=m5 j (p.1.v,p.2.v) (by rw [Qan,hj];rfl);exact ⟨e,he,PV.of r1,PV.of r2⟩
theorem yrr (hG:Good W g H) {t kt vt:Nat} {es:List (PV×PV)} {c:Value} (ht:P.underlying t=some (.map kt vt)) (hx:Rel W g H (.mapc es) c):z82 P W g H (do pure (.value (<-Instr.range t c))) (.ptr H.lv H.L.length 0) (H.push (.mit es [])):=by
 cases hx with
 |mapc _ b en clock hb hw he=>
  obtain ⟨h1,h2⟩:=zhd hG (O:=.mapIter (some b) clock #[] clock) (o:=.mit es []) 0 (λW' g' H' hW hg hH hst=>by
   refine ⟨en,clock,b,?_,?_,?_,he⟩
   · rw [hW,hg];simp only [Gh.add,and_self,if_true];exact z2r _ _
   · intro hn;have hlt:b<W.heap.size:=(Qbk.1 hw).1;exact (hst.own _ hn).elim hb (λq=>by omega)
   · have hlt:b<W.heap.size:=(Qbk.1 hw).1
     rw [hst.block _ hlt hb];exact hw)
  refine ⟨.pointer (some ⟨W.heap.size,0,none⟩),_,_,.inl ?_,h1,h2,?_⟩
  · simp [Instr.range,zz5 ht,getObj,Sem.run,hw,newObj]
  · have:=Rel.ptr (W:=W.alloc (.mapIter (some b) clock #[] clock)) (g:=g.add H.lv H.L.length W.heap.size 0) (H:=H.push (.mit es [])) H.lv H.L.length 0 (.inr ⟨rfl,rfl⟩);simpa [Gh.add] using this
theorem yb5 {t len e0 sz:Nat} {ps:List (Nat×V)} {ws:List V} {cps:Array (Nat×Value)} (hG:Good W g H) (h:zdt P t len ps=some (.sl sz ws true)) (hlen0:len≠0) (hu0:P.underlying t=some (.slice e0)) (hl:cps.size=ps.length)
  (hr:∀(j i:Nat) (x:V),ps[j]? = some (i,x)->∃c,cps[j]? = some (i,c)∧Rel W g H x c):z82 P W g H (do pure (.value (<-Instr.buildSlice t len cps))) (.hs H.lv H.L.length 0 0 ws.length false) (H.push (.arr 0 e0 sz ws (some ws.length))):=by
 unfold zdt at h;split at h
 ·rename_i e hu;split at h
  ·rename_i z hz;split at h
   ·rename_i hc;simp only [Qag,Qbj,Qar,Qat] at hc;obtain ⟨⟨⟨⟨⟨⟨⟨c1,c2⟩,c3⟩,c4⟩,c5⟩,c6⟩,c7⟩,c8⟩:=hc;injection h with h;obtain ⟨inf,hi⟩:=Option.isSome_iff_exists.1 c4;have hsz:(sizeOf e).run P W = .ok (P.cellsOf e) W:=by simp [sizeOf,typeInfo,hi,Program.cellsOf]
    obtain ⟨zc,hz1,hz2⟩:=zrg (W:=W) (g:=g) (H:=H) hz;obtain ⟨zs1,zs3,zs2⟩:=zef c1 hz2;have hbig:¬(len * P.cellsOf e>2 ^ 24):=by omega
    by_cases h0:len=0
    ·exact (hlen0 h0).elim
    ·try rw [Qbu h0] at h
     injection h with hsz' hws _;subst hsz';subst hws
     have he0:e0=e:=by rw [hu] at hu0;injection hu0 with hu0;injection hu0 with hu0;exact hu0.symm
     rw [he0]
     have hne:¬(len * P.cellsOf e=0):=by
      intro hm
      rcases Nat.mul_eq_zero.1 hm with q|q <;> omega
     let cells0:Array Value:=(Array.range (len * P.cellsOf e)).map (zc.cells[· % zc.cells.size]!)
     let zl:List V:=(List.range (len * P.cellsOf e)).map λi=>z.cells.getD (i % z.cells.length) .any
     have hrel0:ztb W g H zl cells0:=by
      have key:∀j v,zl[j]? = some v->∃k,z.cells[k]? = some v∧cells0.getD j undef=zc.cells.getD k undef:=λj v hj=>by
       have hjl:j<len * P.cellsOf e:=by
        have:=(Qaa.1 hj).1;simpa [zl] using this
       simp only [zl,Qan,List.getElem?_range hjl,Qbn,Qbq] at hj;have hm:j % z.cells.length<z.cells.length:=Nat.mod_lt _ (by omega)
       have hv:z.cells[j % z.cells.length]? = some v:=by
        rw [Qba,Qab hm] at hj;simp only [Option.getD_some] at hj;rw [Qab hm,hj]
       have hm2:j % zc.cells.size<zc.cells.size:=by rw [zs1];exact hm
       refine ⟨_,hv,?_⟩;have hr:(Array.range (len * P.cellsOf e))[j]? = some j:=by simp [hjl]
       simp only [cells0,Qae,Array.getElem?_map,hr,Qbn,Option.getD_some];rw [getElem!_pos zc.cells (j % zc.cells.size) hm2]
       have hz':(zc.cells)[j % z.cells.length]? = some (zc.cells[j % zc.cells.size]):=by
        rw [<-zs1];exact Qas hm2
       rw [hz'];rfl
      refine ⟨by simp [zl,cells0],λj v hj => ?_,λj v hj => ?_⟩
      all_goals
       obtain ⟨k,hk1,hk2⟩:=key j v hj;rw [hk2]
       first|exact zs3 _ _ hk1|exact zs2 _ _ hk1
     have hfv:=zu4 ps 0 zl c6 c7 (by simp [zl,c5]);simp only [Nat.zero_mul,List.take_zero,List.nil_append] at hfv;obtain ⟨rs,e1,e2⟩:=zmc ps cps.toList zl cells0 _ hfv hrel0 (by simpa using hl) (λj i x hj=>by simpa using hr j i x hj)
     have hxs:∀x∈ps.map (·.2),x.cells.length=P.cellsOf e:=λx hx=>by
      obtain ⟨p,hp,rfl⟩:=Qbf.1 hx;exact (c7 p hp).2
     have hlen:(ps.map (·.2)).length=len:=by simp [c5]
     have hrs:rs.size=len * P.cellsOf e:=by
      rw [e2.1]
      have:∀l:List V,(∀x∈l,x.cells.length=P.cellsOf e)->(l.flatMap V.cells).length=l.length * P.cellsOf e:=by
       intro l
       induction l with
       |nil=>intro _;simp
       |cons x l ih=>
        intro hx;rw [List.flatMap_cons,Qap,ih λy hy=>hx y (by simp [hy]),hx x (by simp),List.length_cons,Nat.succ_mul,Nat.add_comm]
      rw [this _ hxs,hlen]
     have hcl:len<=2 ^ 24:=Nat.le_trans (Nat.le_mul_of_pos_right _ c3) c8
     obtain ⟨g1,g2⟩:=zhd hG (O:=.cells rs e) (o:=.arr 0 e (P.cellsOf e) (ps.map (·.2)) (some (ps.map (·.2)).length)) len (λW' g' H' hW hg hH hst=>by
      have hcap:g'.cap H.lv H.L.length=len:=by rw [hg];simp [Gh.add]
      refine ⟨rs,?_,c3,by rw [hcap,hrs],by rw [hcap];exact Nat.le_trans hcl (by decide),by rw [hcap,hlen];exact Qbs _,λn hn=>by injection hn with hn;rw [hcap,<-hn,hlen],λj x hj=>hxs x (Qax hj),λj x t v hj ht=>e2.2.1 _ _ (zpw _ hxs j t x v hj ht),λj x t v hj ht=>(e2.2.2 _ _ (zpw _ hxs j t x v hj ht)).mono hst⟩;rw [hW,hg];simp only [Gh.add,and_self,if_true]
      exact z2r _ _)
     refine ⟨.slice (some ⟨W.heap.size,0,none⟩) len len,_,_,.inl ?_,g1,g2,?_⟩
     ·have e1':Instr.fill (λi=>some (i * P.cellsOf e,P.cellsOf e)) (Array.map (λx=>zc.cells[x % zc.cells.size]!) (Array.range (len * P.cellsOf e))) cps.toList=some rs:=e1;simp only [Instr.buildSlice,Qbw,zz5 hu,Qbx,hsz,Sem.run_ite,hbig,hne,if_false,Sem.run_pure,hz1];simp [e1',newRow]
     ·rw [hlen];refine .hs _ _ _ _ _ _ _ _ _ (.inr ⟨rfl,rfl⟩) (λv ty sz xs cp hg=>Qbr _) λty sz xs cp hg => ?_
      have hgp:(H.push (.arr 0 e (P.cellsOf e) (ps.map (·.2)) (some len))).get H.lv H.L.length=some (.arr 0 e (P.cellsOf e) (ps.map (·.2)) (some len)):=by
       unfold kz3.get kz3.push;simp
      rw [hgp] at hg;injection hg with hg;injection hg with _ h2 h3 h4 h5;subst h4;refine ⟨by simp [Gh.add],rfl,⟨Qbs _,by simp [Gh.add],λh=>by cases h⟩,by rw [hlen];omega⟩
   ·cases h
  ·cases h
 ·cases h
theorem ytq {es:List (PV×PV)} {en:Array MapEntry} {clock:Nat} (he:ytk es en clock):(en.toList.map (·.born)).Nodup:=by
 rw [List.Nodup,List.pairwise_iff_getElem];intro q q' hq hq' hlt' heq;have hq2:q<en.size:=by simpa using hq
 have hq2':q'<en.size:=by simpa using hq'
 have:=he.2.2.1 q q' _ _ (Qas hq2) (Qas hq2') (by simpa using heq);omega
theorem yrf (hG:Good W g H) {l i j:Nat} {es:List (PV×PV)} {vis:List Nat} {p:PV×PV} {c:Value} (hg:H.get l i=some (.mit es (vis++[j]))) (hj:es[j]? = some p) (hx:Rel W g H (.ptr l i 0) c):z82 P W g H (do pure (.value (<-Instr.entry c))) (.tup [p.1.v,p.2.v]) H:=by
 cases hx with
 |ptr _ _ _ hd=>
  obtain ⟨en,clock,mb,h1,h2,h3,h4⟩:=hG.obj _ _ _ hg;obtain ⟨e,e1,e2,e3⟩:=h4.2.2.2 j p hj;have hbj:z8a en j=e.born:=by simp [z8a,e1]
  have h1':W.heap[g.blk l i]? = some (.mapIter (some mb) clock ((vis.map (z8a en)).toArray.push e.born) clock):=by
   have:(List.map (z8a en) (vis++[j])).toArray=(vis.map (z8a en)).toArray.push e.born:=by simp [hbj]
   rw [<-this];exact h1
  have hent:=run_entry_at (P:=P) W (g.blk l i) mb clock (vis.map (z8a en)).toArray en clock e h1' h3 (by simpa using Array.mem_of_getElem? e1) (ytq h4);refine ⟨.tuple #[e.key,e.val],W,g,.inl (by simp [hent]),.refl _ _ _,hG,.tup _ _ rfl λq v hq => ?_⟩
  match q with
  |0=>simp at hq;subst hq;simp only [e2];exact PV.rel _
  |1=>simp at hq;subst hq;simp only [e3];exact PV.rel _
  |q+2=>simp at hq
end
section
variable {P : Program}
theorem yx6 {ops:Array Oper} {k:Nat} {σ:St} {Q:kzd->St->Prop} {o:Oper} {x:Operand} {l i:Nat} {es:List (PV×PV)} {vis:List Nat} (ho:ops[k]? = some o) (hw:yzy ops σ o=some true) (hop:o.op = .next x false) (hx:σ.ev x = .ptr l i 0) (hg:σ.H.get l i=some (.mit es vis))
  (hvis:∀q∈vis,q<es.length)
  (hend:(∀j,j<es.length->j∈vis)->zdh P ops (k+1) (σ.put o.dst (.tup [.bool false])) Q)
  (hone:∀j p,es[j]? = some p->j∉vis->zdh P ops (k+1) ({σ with H:=σ.H.set l i (.mit es (vis++[j]))}.put o.dst (.tup [.bool true,p.1.v,p.2.v])) Q):zdh P ops k σ Q:=λW0 g0 H0 W a g hB hS hG=>by
 have hk:k<ops.size:=by
  rcases Nat.lt_or_ge k ops.size with q|q
  ·exact q
  ·rw [Array.getElem?_eq_none q] at ho;cases ho
 rw [show ops.size-k=(ops.size-(k+1))+1 by omega,List.range'_succ];simp only [wpOps,ho];rw [z0j hG hw,Qbt rfl];left;unfold Oper.wp;have hr:=hG.ev x;rw [hx] at hr;generalize hit:a.eval x=cx at hr
 cases hr with
 |ptr _ _ _ hd=>
  obtain ⟨en,clock,mb,h1,h2,h3,h4⟩:=hG.good.obj _ _ _ hg;obtain ⟨m2,m3,m4,m5⟩:=h4;replace h1:W.heap[g.blk l i]? = some (.mapIter (some mb) clock (vis.map (z8a en)).toArray clock):=h1;have hlt:g.blk l i<W.heap.size:=hG.good.lt _ _ _ hg;have hhold:∀y∈en.toList,y.born<clock:=λy hy=>m3 y (by simpa using hy)
  have hborn:∀j,j<es.length->∃e,en[j]? = some e∧z8a en j=e.born:=λj hj=>by
   have hj':j<en.size:=by rw [m2];exact hj
   exact ⟨en[j],Qas hj',by simp [z8a,hj']⟩
  have hinj:∀j j',j<es.length->j'<es.length->z8a en j=z8a en j'->j=j':=λj j' hj hj' he=>by
   obtain ⟨e,e1,e2⟩:=hborn j hj;obtain ⟨e',e3,e4⟩:=hborn j' hj';exact m4 j j' e e' e1 e3 (by rw [<-e2,<-e4,he])
  rcases run_next_at (P:=P) W o.type (g.blk l i) mb clock clock _ en clock h1 h3 hhold (Qbs _) with ⟨hz,hrr⟩|⟨e,he,w1,hw1,hrr⟩
  · have hall:∀j,j<es.length->j∈vis:=λj hj=>by
     obtain ⟨e,e1,e2⟩:=hborn j hj
     have hno:¬e∈leftOf en (vis.map (z8a en)).toArray:=λhm=>by
      have:=Array.size_pos_of_mem hm;omega
     have hmem:e∈en:=Array.mem_of_getElem? e1
     have:(vis.map (z8a en)).contains e.born=true:=by
      cases hc:(vis.map (z8a en)).contains e.born
      · exact (hno (by unfold leftOf;rw [Array.mem_filter];exact ⟨hmem,by simpa using hc⟩)).elim
      · rfl
     rw [List.contains_iff_mem,Qbf] at this;obtain ⟨q,hq,hqb⟩:=this;rw [<-e2] at hqb;rw [<-hinj q j (hvis q hq) hj hqb];exact hq
    have hex:(execOp a.eval o).run P W = .ok (.value (.tuple #[.bool false])) W:=by unfold execOp;rw [hop];simp [hit,hrr]
    have hn:=hG.next (.refl _ _ _) hG.good (v:=.tup [.bool false]) (c:=.tuple #[.bool false]) (.tup _ _ rfl (λj v hj=>by
     cases j with
     |zero=>simp at hj;subst hj;exact .bool _
     |succ j=>simp at hj)) o.dst
    have hH:(σ.put o.dst (.tup [.bool false])).H=σ.H:=by cases o.dst <;> rfl
    have he0:(σ.put o.dst (.tup [.bool false])).e0=σ.e0:=by cases o.dst <;> rfl
    rw [hex];exact hend hall W0 g0 H0 W _ g hB (by rw [hH,he0];exact hS) hn
  · have he2:e∈en∧(vis.map (z8a en)).contains e.born=false:=by
     have he':e∈leftOf en (vis.map (z8a en)).toArray:=by simpa using he
     unfold leftOf at he';rw [Array.mem_filter] at he';exact ⟨he'.1,by simpa using he'.2⟩
    obtain ⟨j,hjl,hje⟩:=Array.getElem_of_mem he2.1;have hj:j<es.length:=by rw [<-m2];exact hjl
    have hjs:en[j]? = some e:=by rw [Qas hjl,hje]
    have hbj:z8a en j=e.born:=by simp [z8a,hjs]
    have hnv:j∉vis:=λhm=>by
     have:e.born∈vis.map (z8a en):=Qbf.2 ⟨j,hm,hbj⟩;rw [<-List.contains_iff_mem,he2.2] at this;cases this
    have hp:es[j]? = some es[j]:=Qab hj;obtain ⟨e',he',r1,r2⟩:=m5 j _ hp
    obtain rfl:e'=e:=by rw [hjs] at he';injection he' with h;exact h.symm
    have hw1h:w1.heap=W.heap:=by rcases hw1 with rfl|rfl <;> rfl
    have hheap:∀q,q≠g.blk l i->∀O,(Go.ChangeMaps.setBlock w1 (g.blk l i) O).heap[q]? = W.heap[q]? := λq hq O=>by
     show (w1.heap.setIfInBounds (g.blk l i) O)[q]? = _;rw [Array.getElem?_setIfInBounds_ne (λh=>hq h.symm),hw1h]
    have hat:∀O,(Go.ChangeMaps.setBlock w1 (g.blk l i) O).heap[g.blk l i]? = some O:=λO=>by
     show (w1.heap.setIfInBounds (g.blk l i) O)[g.blk l i]? = _;rw [Array.getElem?_setIfInBounds_self_of_lt (by rw [hw1h];exact hlt)]
    have hne:mb≠g.blk l i:=λe=>by rw [e,h1] at h3;cases h3
    obtain ⟨s1,s2⟩:=ziq hG.good (o':=.mit es (vis++[j])) hg rfl (W':=Go.ChangeMaps.setBlock w1 (g.blk l i) (.mapIter (some mb) clock ((vis.map (z8a en)).toArray.push e'.born) clock))
     (by rcases hw1 with rfl|rfl <;> rfl) (by rcases hw1 with rfl|rfl <;> rfl) (by rcases hw1 with rfl|rfl <;> rfl)
     (by show W.heap.size<=(w1.heap.setIfInBounds _ _).size;rw [Array.size_setIfInBounds,hw1h];exact Qbs _)
     (λb hb hbn=>hheap b hbn _) (λver ty sz xs cp he=>by cases he) (λhst=>by
       refine ⟨en,clock,mb,?_,λhn=>(hst.own _ hn).elim h2 (λq => ?_),?_,⟨m2,m3,m4,m5⟩⟩
       · rw [hat];have:(List.map (z8a en) (vis++[j])).toArray=(vis.map (z8a en)).toArray.push e'.born:=by simp [hbj]
         rw [<-this]
       · have:=(Qbk.1 h3).1;omega
       · rw [hheap _ hne];exact h3)
    have hex:(execOp a.eval o).run P W = .ok (.value (.tuple #[.bool true,e'.key,e'.val])) (Go.ChangeMaps.setBlock w1 (g.blk l i) (.mapIter (some mb) clock ((vis.map (z8a en)).toArray.push e'.born) clock)):=by
     unfold execOp;rw [hop];simp [hit,hrr]
    have hn:=hG.next s1 s2 (v:=.tup [.bool true,es[j].1.v,es[j].2.v]) (c:=.tuple #[.bool true,e'.key,e'.val]) (.tup _ _ rfl (λq v hq=>by
     match q with
     |0=>simp at hq;subst hq;exact .bool _
     |1=>simp at hq;subst hq;simp only [r1];exact PV.rel _
     |2=>simp at hq;subst hq;simp only [r2];exact PV.rel _
     |q+3=>simp at hq)) o.dst
    have hH:({σ with H:=σ.H.set l i (.mit es (vis++[j]))}.put o.dst (.tup [.bool true,es[j].1.v,es[j].2.v])).H=σ.H.set l i (.mit es (vis++[j])):=by cases o.dst <;> rfl
    have he0:({σ with H:=σ.H.set l i (.mit es (vis++[j]))}.put o.dst (.tup [.bool true,es[j].1.v,es[j].2.v])).e0=σ.e0:=by cases o.dst <;> rfl
    rw [hex];exact hone j es[j] hp hnv W0 g0 H0 _ _ g hB (by rw [hH,he0];exact ⟨hS.1,hS.2.trans s1⟩) hn
end
section
variable {P : Program}
theorem yy8 {σ:St} {i:Nat} {es:List (PV×PV)} (hi:σ.H.L[i]? = some (some (.map (es.map λp=>(p.1.v,p.2.v))))) (hd:σ.d=[]) {os os':List (Nat×zz7)} (h5:(os.map (·.1)).Nodup) (hos:FOL (.map σ.H.lv i) (.mapc es) os os') (h4:∀p∈os,σ.H.L[p.1]? = some (some p.2)∧p.1≠i)
  {t':List V} (ht:FVL (.map σ.H.lv i) (.mapc es) σ.t t') :
  zsy σ ⟨t',⟨σ.H.lv,told σ.H.L (some i) os',σ.H.E⟩,[],σ.e0⟩∧(∀p'∈os',(told σ.H.L (some i) os')[p'.1]? = some (some p'.2))∧∀n,n<σ.H.L.length->n≠i->(∀p∈os,p.1≠n)->(told σ.H.L (some i) os')[n]? = σ.H.L[n]? := by
 have hnd:(os'.map (·.1)).Nodup:=by rw [hos.map];exact h5
 have hfind:∀p'∈os',os'.find? (λp=>p.1==p'.1)=some p':=λp' hp'=>by
  cases hq:os'.find? (λp=>p.1==p'.1) with
  |none=>rw [List.find?_eq_none] at hq;have:=hq p' hp';simp at this
  |some q=>
   have hq1:=List.find?_some hq;have hq2:=List.mem_of_find?_eq_some hq;simp at hq1;obtain ⟨a,ha⟩:=List.mem_iff_getElem?.1 hp';obtain ⟨b,hb⟩:=List.mem_iff_getElem?.1 hq2;have ha':(os'.map (·.1))[a]? = some p'.1:=by simp [ha]
   have hb':(os'.map (·.1))[b]? = some p'.1:=by simp [hb,hq1]
   have hlt:=(Qaa.1 ha').1;have:=(List.getElem?_inj hlt hnd).1 (ha'.trans hb'.symm);subst this;rw [ha] at hb;exact hb.symm
 have hfor:∀p'∈os',∃o,σ.H.L[p'.1]? = some (some o)∧p'.1≠i∧FO (.map σ.H.lv i) (.mapc es) o p'.2:=λp' hp'=>by
  obtain ⟨o,ho,hf⟩:=hos.mem p' hp';exact ⟨o,(h4 _ ho).1,(h4 _ ho).2,hf⟩
 refine ⟨?_,λp' hp' => ?_,λn hn hni hno => ?_⟩
 ·refine y9x (v:=.map σ.H.lv i) (r:=.mapc es) (zk4 _ _ _) (λm o' hm => ?_) ht hd λW g hG hown hf c hc => ?_
  ·have hlt:m<σ.H.L.length:=by have:=(Qaa.1 hm).1;rw [zk4] at this;exact this
   rw [zgq hlt] at hm;injection hm with hm;split at hm
   ·cases hm
   ·split at hm
    ·rename_i p hp;injection hm with hm;have hp1:=List.find?_some hp;simp at hp1;obtain ⟨o,h1,_,h3⟩:=hfor p (List.mem_of_find?_eq_some hp);exact ⟨o,by rw [<-hp1];exact h1,by rw [<-hm];exact h3⟩
    ·refine ⟨o',?_,.inl rfl⟩;rw [Qab hlt] at hm ⊢;simp at hm;rw [hm]
  ·have hget:σ.H.get σ.H.lv i=some (.map (es.map λp=>(p.1.v,p.2.v))):=by unfold kz3.get;rw [Qbt rfl,hi];rfl
   refine z029 hG hget (λ⟨l,i',o',ho',hob⟩ => ?_) hc
   have hgot:∃o,σ.H.get l i'=some o∧o'.blk g l i'=o.blk g l i'∧¬(l=σ.H.lv∧i'=i):=by
    unfold kz3.get at ho' ⊢;dsimp only at ho' ⊢;by_cases hl:l=σ.H.lv
    ·rw [Qbt hl] at ho' ⊢
     cases hq:(told σ.H.L (some i) os')[i']? with
     |none=>rw [hq] at ho';simp at ho'
     |some q=>
      have hlt:i'<σ.H.L.length:=by have:=(Qaa.1 hq).1;rw [zk4] at this;exact this
      rw [zgq hlt] at hq;injection hq with hq;rw [zgq hlt] at ho';simp only [Option.join_some] at ho';split at ho'
      · cases ho'
      · rename_i hne;split at ho'
        · rename_i p hp;injection ho' with ho';have hp1:=List.find?_some hp;simp at hp1;obtain ⟨o,h1,_,h3⟩:=hfor p (List.mem_of_find?_eq_some hp);rw [hp1] at h1;exact ⟨o,by rw [h1];rfl,by rw [<-ho'];exact h3.blk g l i',λe=>hne (by rw [e.2])⟩
        · exact ⟨o',ho',rfl,λe=>hne (by rw [e.2])⟩
    ·rw [Qbu hl] at ho' ⊢;exact ⟨o',ho',rfl,λe=>hl e.1⟩
   obtain ⟨o,w1,w2,w3⟩:=hgot;exact w3 (hG.inj _ _ _ _ _ _ w1 hget (by rw [<-w2];exact hob))
 ·obtain ⟨o,h1,h2,_⟩:=hfor p' hp';have hlt:=(Qaa.1 h1).1;rw [zgq hlt,Qbu (λe=>h2 (by injection e with e;exact e.symm)),hfind p' hp']
 ·rw [zgq hn,Qbu (λe=>hni (by injection e with e;exact e.symm))]
  have:os'.find? (λp=>p.1==n)=none:=by
   rw [List.find?_eq_none];intro p hp;have:p.1∈os.map (·.1):=by rw [<-hos.map];exact List.mem_map_of_mem hp
   obtain ⟨q,hq,hqn⟩:=Qbf.1 this;have:=hno q hq;simp;omega
  rw [this,Qab hn];rfl
end
def pIf {α:Type} (b:Bool) (x y:Option α):Option α:=match b with|true=>x|false=>y
theorem y6g {α:Type} (b:Bool) (x y:Option α):pIf b x y=if b then x else y:=by cases b <;> rfl
def z8g {α β:Type} (o:Option α) (k:α->Option β):Option β:=o.bind k
noncomputable def y3m {α R:Type} (es:List (List UInt8×α)) (f:List UInt8->α->List (List UInt8×α)->Option R) (g:Option R):Option R :=
 open Classical in
 match es with
 |[]=>g
 |e::r=>if h:∃z,∀i p,(e::r)[i]? = some p->f p.1 p.2 ((e::r).eraseIdx i)=some z then some h.choose else none
def pOp {α:Type} (o:Oper) (x:Option α):Option α:=x
inductive Res (X R:Type) where
 |ok (r:R)
 |pan (x:X)
inductive DTy where
 |bool
 |int (k:IntKind)
 |str
 |nat
 |sl (t:DTy)
 |st (i:Nat)
 deriving DecidableEq
def DTy.S (T:Nat->Type):DTy->Type
 | .bool=>Bool
 | .int _=>Int
 | .str=>List UInt8
 | .nat=>Nat
 | .sl t=>List (t.S T)
 | .st i=>T i
def HL (T:Nat->Type):List DTy->Type
 |[]=>Unit
 |t::l=>t.S T×HL T l
def HL.app {T:Nat->Type}:{a b:List DTy}->HL T a->HL T b->HL T (a++b)
 |[],_,_,y=>y
 |_::_,_,x,y=>(x.1,HL.app x.2 y)
def HL.fst {T:Nat->Type}:(a:List DTy)->{b:List DTy}->HL T (a++b)->HL T a
 |[],_,_=>()
 |_::a,_,x=>(x.1,HL.fst a x.2)
def HL.snd {T:Nat->Type}:(a:List DTy)->{b:List DTy}->HL T (a++b)->HL T b
 |[],_,x=>x
 |_::a,_,x=>HL.snd a x.2
structure Dat where
 T:Nat->Type
 fl:Nat->List DTy
 get:∀i,T i->HL T (fl i)
 make:∀i,HL T (fl i)->T i
 enc:∀i,T i->V
 ty:Nat->Option DTy
 ow:Nat->Nat->Option Nat:=λ_ _=>none
inductive TV (T:Nat->Type):Type where
 |any
 |bool (b:Bool)
 |int (k:IntKind) (n:Int)
 |str (s:List UInt8)
 |nilp
 |nils
 |mapn
 |nilf
 |nili
 |sl (t:DTy) (xs:List (t.S T)) (fl:Nat)
 |own (s:Nat)
 |osl (s:Nat) (lo:Int)
 |ptr (s off:Nat)
 |bp (s off:Nat)
 |ref (cs:List (TV T)) (off:Nat)
 |ap (s:Nat) (t:DTy) (i:Int) (x:t.S T) (off:Nat)
 |map (s:Nat)
 |mc (t:DTy) (es:List (List UInt8×t.S T))
 |fn (f:Nat) (first caps:List (TV T))
 |iface (t:Nat) (v:TV T)
 |agg (cs:List (TV T))
 |tup (vs:List (TV T))
 |dp (s:Nat) (i:Int) (off:Nat)
 |bsl (i:Nat) (cs:List (TV T))
inductive TO (T:Nat->Type):Type where
 |cells (cs:List (TV T))
 |acc (ty:Nat) (t:DTy) (xs:List (t.S T)) (w:Bool)
 |siter (s:List UInt8) (pos:Nat)
 |mp (ty:Nat) (t:DTy) (es:List (List UInt8×t.S T))
 |mit (t:DTy) (last:Option (List UInt8×t.S T)) (es:List (List UInt8×t.S T))
 |bld (ty:Nat) (b:Option Nat)
 |gone
 |deep (ty i:Nat) (xs:List (T i)) (h:Option (Int×Nat×Nat))
structure TS (T:Nat->Type) where
 t:List (Nat×TV T)
 o:List (Nat×TO T)
 nx:Nat
 nt:Nat
 d:List (Nat×List (TV T)):=[]
 g:List (Option Nat):=[]
def fnd {α:Type}:List (Nat×α)->Nat->Option α
 |[],_=>none
 |(i,a)::r,j=>match Nat.beq i j with
  |true=>some a
  |false=>fnd r j
section
variable {T : Nat → Type}
def TV.cells:TV T->List (TV T)
 | .agg cs=>cs
 |v=>[v]
def TV.leaf:TV T->Bool
 | .any| .agg _| .tup _=>false
 |_=>true
def TV.zzn:TV T->Bool
 | .agg _=>true
 |v=>v.leaf
def TV.zb8:Value->TV T
 | .bool b=>.bool b
 | .int k n=>.int k n
 | .string s=>.str s.data.toList
 | .pointer none=>.nilp
 | .slice none 0 0=>.nils
 | .map none=>.mapn
 | .nilFunc=>.nilf
 | .nilIface=>.nili
 |_=>.any
def TV.ofC:Value->TV T
 | .agg cs=>if cs.toList.all (·.oneCell') then .agg (cs.toList.map TV.zb8) else .any
 | .tuple cs=>.tup (cs.toList.map TV.zb8)
 | .iface t v=>.iface t (TV.zb8 v)
 |v=>TV.zb8 v
def TS.ev (ts:TS T):Operand->Option (TV T)
 | .tmp t=>fnd ts.t t
 | .const v=>some (TV.ofC v)
 | .func f=>some (.fn f [] [])
 | .global _=>none
def TS.evs (ts:TS T):List Operand->Option (List (TV T))
 |[]=>some []
 |x::xs=>match ts.ev x,ts.evs xs with
  |some v,some vs=>some (v::vs)
  |_,_=>none
inductive FR (α:Type) where
 |ok (a:α)
 |frz (s:Nat)
 |bad
def FR.of {α:Type}:Option α->FR α
 |some a=>.ok a
 |none=>.bad
end
section
variable (D : Dat)
def Dat.len:DTy->Nat
 | .st i=>(D.fl i).length
 |_=>1
def Dat.el:(t:DTy)->t.S D.T->V
 | .bool,b=>.bool b
 | .int k,n=>.int k n
 | .str,s=>.str s
 | .nat,_=>.any
 | .sl t,xs=>.sl (D.len t) (List.map (Dat.el t) xs) false
 | .st i,x=>D.enc i x
def Dat.els:(l:List DTy)->HL D.T l->List V
 |[],_=>[]
 |t::l,x=>D.el t x.1::Dat.els l x.2
def Dat.leaf:(t:DTy)->t.S D.T->TV D.T
 | .bool,b=>.bool b
 | .int k,n=>.int k n
 | .str,s=>.str s
 | .nat,_=>.any
 | .sl t,xs=>.sl t xs 0
 | .st _,_=>.any
def Dat.leaves:(l:List DTy)->HL D.T l->List (TV D.T)
 |[],_=>[]
 |t::l,x=>D.leaf t x.1::Dat.leaves l x.2
def Dat.tv:(t:DTy)->t.S D.T->TV D.T
 | .st i,x=>.agg (D.leaves (D.fl i) (D.get i x))
 | .bool,b=>.bool b
 | .int k,n=>.int k n
 | .str,s=>.str s
 | .nat,_=>.any
 | .sl t,xs=>.sl t xs 0
def y01 {T:Nat->Type} (a b:DTy) (x:a.S T):Option (b.S T) :=
 if h:a=b then some (h▸x) else none
def zt0 {T:Nat->Type} (a b:DTy) (x:List (List UInt8×a.S T)):Option (List (List UInt8×b.S T)) :=
 if h:a=b then some (h▸x) else none
def DTy.flat:DTy->Bool
 | .bool| .int _| .str=>true
 |_=>false
def zdf {T:Nat->Type} (a b:DTy) (x:List (a.S T)):Option (List (b.S T)) :=
 if h:a=b then some (h▸x) else none
def zja:(t:DTy)->TV D.T->FR (t.S D.T)
 | .bool,.bool b=>.ok b
 | .int k,.int k' n=>if k=k' then .ok n else .bad
 | .str,.str s=>.ok s
 | .sl t,.sl t' xs _=>FR.of (zdf t' t xs)
 | .sl _,.nils=>.ok []
 | .sl _,.own s=>.frz s
 |_,_=>.bad
def z9y:(l:List DTy)->List (TV D.T)->FR (HL D.T l)
 |[],[]=>.ok ()
 |t::l,v::vs=>match zja D t v with
  | .ok x=>match z9y l vs with
    | .ok xs=>.ok (x,xs)
    | .frz s=>.frz s
    | .bad=>.bad
  | .frz s=>.frz s
  | .bad=>.bad
 |_,_=>.bad
def asD:(t:DTy)->TV D.T->FR (t.S D.T)
 | .st i,.agg cs=>match z9y D (D.fl i) cs with
   | .ok x=>.ok (D.make i x)
   | .frz s=>.frz s
   | .bad=>.bad
 | .st _,_=>.bad
 |t,v=>zja D t v
def yni (t:DTy):List (TV D.T)->FR (List (t.S D.T))
 |[]=>.ok []
 |v::vs=>match asD D t v with
  | .ok x=>match yni t vs with
    | .ok xs=>.ok (x::xs)
    | .frz s=>.frz s
    | .bad=>.bad
  | .frz s=>.frz s
  | .bad=>.bad
end
section
variable {T : Nat → Type} (P : Program)
def tRd (t:Nat) (cs:List (TV T)) (off:Nat):Option (TV T) :=
 match P.underlying t with
 |none=>none
 |some (.struct _)|some (.array _ _)=>if off+P.cellsOf t<=cs.length then some (.agg ((cs.drop off).take (P.cellsOf t))) else none
 |some _=>cs[off]?
def zxl (s f:Nat) (x:TV T):Option (TV T) :=
 match zq5 P s f with
 |none=>none
 |some o=>match x with
  | .ref cs off=>some (.ref cs (off+o))
  | .ptr s off=>some (.ptr s (off+o))
  | .ap s t i x off=>some (.ap s t i x (off+o))
  | .bp s off=>some (.bp s (off+o))
  | .dp s i off=>some (.dp s i (off+o))
  |_=>none
def ysi (s f:Nat) (x:TV T):Option (TV T) :=
 match P.underlying s with
 |some (.struct fs)=>match fs[f]? with
  |some y=>match x with
   | .agg cs=>tRd P y.type cs y.offset
   |_=>none
  |none=>none
 |_=>none
def y8c (i:Nat):TV T->Option (TV T)
 | .tup vs=>vs[i]?
 |_=>none
def tNil:TV T->Option (TV T)
 | .ptr s off=>some (.ptr s off)
 | .ref cs off=>some (.ref cs off)
 | .ap s t i x off=>some (.ap s t i x off)
 | .bp s off=>some (.bp s off)
 | .dp s i off=>some (.dp s i off)
 | .fn f a b=>some (.fn f a b)
 |_=>none
def tUn (op:UnOp) (x:TV T):Option (TV T) :=
 match op,x with
 | .neg,.int k n=>some (.int k (k.wrap (0-n)))
 | .not,.bool b=>some (.bool (!b))
 | .xor,.int k n=>some (.int k (bits .xor k (if k.signed then -1 else k.max) n))
 |_,_=>none
def y7t (s d:Nat) (x:TV T):Option (TV T) :=
 match x with
 | .int _ n=>match P.underlying s,P.underlying d with
   |some _,some (.int k)=>some (.int k (k.wrap n))
   |_,_=>none
 | .str a=>match P.underlying s,P.underlying d with
   |some _,some .string=>some (.str a)
   |_,_=>none
 |_=>none
def zua (x:TV T) (asserted:Nat) (ok:Bool):Option (TV T) :=
 match P.underlying asserted,x with
 |some (.interface _),_=>none
 |some _,.iface t v=>if t=asserted then some (if ok then .tup [v,.bool true] else v) else none
 |_,_=>none
def y6f (max:Bool):List (TV T)->Option (TV T)
 |[.int k x,.int _ y]=>some (.int k (match max with|true=>mxI x y|false=>mnI x y))
 |[.int k x,.int _ y,.int _ z]=>some (.int k (match max with|true=>mxI (mxI x y) z|false=>mnI (mnI x y) z))
 |_=>none
def zjp (cs:List (TV T)) (off:Nat) (xs:List (TV T)):List (TV T):=cs.take off++xs++cs.drop (off+xs.length)
def yi8 (place:Nat->Option (Nat×Nat)) (cells:List (TV T)):List (Nat×TV T)->Option (List (TV T))
 |[]=>some cells
 |(i,x)::rest=>match place i with
  |none=>none
  |some (off,size)=>if x.zzn&&x.cells.length==size&&decide (off+size<=cells.length) then yi8 place (zjp cells off x.cells) rest else none
def zwu (ts:TS T):List (Nat×Operand)->Option (List (Nat×TV T))
 |[]=>some []
 |(i,x)::r=>match ts.ev x,zwu ts r with
  |some v,some vs=>some ((i,v)::vs)
  |_,_=>none
def yr2 (t:Nat):Option (TV T):=((P.info? t).bind (·.zero)).map TV.ofC
def yur (t:Nat) (ps:List (Nat×TV T)):Option (TV T) :=
 match yr2 (T:=T) P t with
 |some (.agg z)=>match P.underlying t with
  |some (.struct fs)=>match y3w P fs.toList with
   |some places=>(yi8 (λi=>places[i]?) z ps).map .agg
   |none=>none
  |some (.array _ e)=>if (P.info? e).isSome then (yi8 (λi=>some (i * P.cellsOf e,P.cellsOf e)) z ps).map .agg else none
  |_=>none
 |_=>none
def TV.odd:TV T->Bool
 | .int _ _| .str _| .any=>false
 |_=>true
mutual
def ys0:Nat->Nat->TV T->TV T->Option Bool
 |0,_,_,_=>none
 |d+1,t,x,y=>
  match x,y with
  | .bool a,.bool b=>match P.underlying t with|some .bool=>some (a==b)|_=>none
  | .int k a,.int k' b=>match P.underlying t with|some (.int _)=>if k=k' then some (a==b) else none|_=>none
  | .str a,.str b=>match P.underlying t with|some .string=>some (a==b)|_=>none
  | .agg xs,.agg ys=>match P.underlying t with|some (.struct fs)=>if P.stoodInHeld t then none else ya9 d fs.toList xs ys|_=>none
  | .nilp,.nilp=>match P.underlying t with|some (.pointer _)=>some true|_=>none
  | .nilp,.ptr _ _| .nilp,.ref _ _=>match P.underlying t with|some (.pointer _)=>some false|_=>none
  | .ptr _ _,.nilp| .ref _ _,.nilp=>match P.underlying t with|some (.pointer _)=>some false|_=>none
  | .mapn,.mapn=>match P.underlying t with|some (.map _ _)=>some true|_=>none
  | .nilf,.nilf=>match P.underlying t with|some (.func ..)=>some true|_=>none
  | .nilf,.fn _ _ _| .fn _ _ _,.nilf=>match P.underlying t with|some (.func ..)=>some false|_=>none
  | .nili,.iface _ _| .iface _ _,.nili=>match P.underlying t with|some (.interface _)=>some false|_=>none
  |_,_=>none
def ya9:Nat->List Field->List (TV T)->List (TV T)->Option Bool
 |0,_,_,_=>none
 |_,[],_,_=>some true
 |d+1,f::fs,xs,ys=>
  if f.name = "_" then ya9 d fs xs ys else
  match tRd P f.type xs f.offset,tRd P f.type ys f.offset with
  |some a,some b=>match ys0 d f.type a b,ya9 d fs xs ys with
   |some r,some s=>some (r&&s)
   |_,_=>none
  |_,_=>none
end
def zyi (t:Nat) (x y:TV T):Bool :=
 match x,y with
 | .agg _,.agg _ => !P.eqGuardType P.depth t
 | .nili,.nili=>false
 | .any,_|_,.any=>false
 |_,_=>true
def shl (k:IntKind) (a b:Int):Option Int:=if b<0 then none else some (k.wrap (a * 2 ^ (min b.toNat k.bits)))
def shr (k:IntKind) (a b:Int):Option Int:=if b<0 then none else some (a.fdiv (2 ^ (min b.toNat k.bits)))
def tBin {R:Type} (op:BinOp) (t:Nat) (x y:TV T) (k:TV T->Option R):Option R :=
 match x,y with
 | .int i a,.int i' b=>match op with
   | .shl=>z8g (shl i a b) λz=>k (.int i z)
   | .shr=>z8g (shr i a b) λz=>k (.int i z)
   |_=>if i=i' then (match op with
    | .add=>k (.int i (i.wrap (a+b)))
    | .sub=>k (.int i (i.wrap (a-b)))
    | .mul=>k (.int i (i.wrap (a * b)))
    | .quo=>z8g (quo i a b) λz=>k (.int i z)
    | .rem=>z8g (rem i a b) λz=>k (.int i z)
    | .eql=>k (.bool (a==b))
    | .neq=>k (.bool (a != b))
    | .lss=>k (.bool (decide (a<b)))
    | .leq=>k (.bool (decide (a<=b)))
    | .gtr=>k (.bool (decide (a>b)))
    | .geq=>k (.bool (decide (a>=b)))
    | .and=>k (.int i (bits .and i a b))
    | .or=>k (.int i (bits .or i a b))
    | .xor=>k (.int i (bits .xor i a b))
    | .andNot=>k (.int i (bits .andNot i a b))
    |_=>none) else none
 | .str a,.str b=>match op with
   | .add=>z8g (cat a b) λz=>k (.str z)
   | .eql=>k (.bool (a==b))
   | .neq=>k (.bool (!(a==b)))
   | .lss=>k (.bool (Op.bytesLess a b))
   | .leq=>k (.bool (Op.bytesLess a b||a==b))
   | .gtr=>k (.bool (!(Op.bytesLess a b||a==b)))
   | .geq=>k (.bool (!Op.bytesLess a b))
   |_=>none
 |x,y=>match op with
  | .eql=>if x.odd&&zyi P t x y then (match ys0 P 24 t x y with|some r=>k (.bool r)|none=>none) else none
  | .neq=>if x.odd&&zyi P t x y then (match ys0 P 24 t x y with|some r=>k (.bool (!r))|none=>none) else none
  |_=>none
end
section
variable (P : Program) (D : Dat)
def yjx {T:Nat->Type}:Option Nat->TV T
 |none=>.nils
 |some s=>.own s
def yu0 (s:List UInt8):List Int:=s.map λb=>((b.toNat:Nat):Int)
def yu1:List Int->Option (List UInt8)
 |[]=>some []
 |x::r=>match x,yu1 r with
  | .ofNat m,some s=>match Nat.ble m 255 with
    |true=>some (m.toUInt8::s)
    |false=>none
  |_,_=>none
def yvb (ts:TS D.T) (t:Nat):TV D.T->Option (TV D.T)
 | .ref cs off=>tRd P t cs off
 | .ptr s off=>match fnd ts.o s with
   |some (.cells cs)=>tRd P t cs off
   |_=>none
 | .ap s τ i x off=>match fnd ts.o s with
   |some (.acc _ _ _ _)=>tRd P t (D.tv τ x).cells off
   |_=>none
 | .bp s off=>match fnd ts.o s with
   |some (.bld _ b)=>tRd P t [.any,yjx b] off
   |_=>none
 |_=>none
def zv8 (q:Nat):(l:List DTy)->HL D.T l->Nat->List (TV D.T)
 |[],_,_=>[]
 |t::l,x,f=>(match D.ow q f with
  |none=>D.leaf t x.1
  |some _=>.any)::zv8 q l x.2 (f+1)
def z009 (q off:Nat):Nat->List Nat
 |0=>[]
 |n+1=>match D.ow q off with
  |some _=>off::z009 q (off+1) n
  |none=>z009 q (off+1) n
def szT (t:Nat):Nat:=match P.underlying t with
 |some (.struct _)|some (.array _ _)=>P.cellsOf t
 |_=>1
def setO {α:Type} (cs:List α):Option (Nat×α)->List α
 |none=>cs
 |some (f,v)=>cs.set f v
def ztp {R:Type} (ts:TS D.T) (t:Nat) (s:Nat) (i:Int) (off:Nat) (set:Option (Nat×TV D.T)) (k:TV D.T->Option R):Option R :=
 match fnd ts.o s with
 |some (.deep _ q xs _)=>z8g (ix xs i) λy=>(match tRd P t (setO (zv8 D q (D.fl q) (D.get q y) 0) set) off with
  |some v=>k v
  |none=>none)
 |_=>none
def zsn (n i:Int):Option Unit:=if n=i then some () else none
def ysx {R:Type} (ts:TS D.T) (t:Nat) (s:Nat) (i:Int) (off:Nat) (k:TV D.T->Option R):Option R :=
 match fnd ts.o s with
 |some (.deep _ _ _ (some p))=>(match Nat.beq p.2.1 off with
  |true=>z8g (zsn p.1 i) λ_=>ztp P D ts t s i off (some (off,.own p.2.2)) k
  |false=>ztp P D ts t s i off none k)
 |_=>ztp P D ts t s i off none k
def tLen (ts:TS D.T) (t:Nat) (x:TV D.T):Option (TV D.T) :=
 match x with
 | .str s=>match P.underlying t with|some .string=>some (.int .i64 s.length)|_=>none
 | .nils=>match P.underlying t with|some (.slice _)=>some (.int .i64 0)|_=>none
 | .sl _ xs _=>match P.underlying t with|some (.slice _)=>some (.int .i64 xs.length)|_=>none
 | .own s=>match P.underlying t,fnd ts.o s with
   |some (.slice _),some (.acc _ _ xs _)=>some (.int .i64 xs.length)
   |some (.slice _),some (.deep _ _ xs _)=>some (.int .i64 xs.length)
   |_,_=>none
 | .agg _=>match P.underlying t with|some (.array n _)=>some (.int .i64 n)|_=>none
 | .map s=>match P.underlying t,fnd ts.o s with
   |some (.map _ _),some (.mp _ _ es)=>some (.int .i64 es.length)
   |_,_=>none
 |_=>none
def z012:(t:DTy)->TV D.T->Option (t.S D.T×Option Nat)
 | .sl _,.nils=>some ([],none)
 | .sl _,.own c=>some ([],some c)
 |_,_=>none
def y82 (q:Nat):(l:List DTy)->List (TV D.T)->Nat->FR (HL D.T l×Option (Nat×Nat))
 |[],[],_=>.ok ((),none)
 |t::l,v::vs,f=>(match D.ow q f with
  |none=>(match zja D t v with
   | .ok x=>(match y82 q l vs (f+1) with
     | .ok r=>.ok ((x,r.1),r.2)
     | .frz s=>.frz s
     | .bad=>.bad)
   | .frz s=>.frz s
   | .bad=>.bad)
  |some _=>(match y82 q l vs (f+1) with
   | .ok r=>(match z012 D t v with
     |some (x,none)=>.ok ((x,r.1),r.2)
     |some (x,some c)=>(match r.2 with
      |none=>.ok ((x,r.1),some (f,c))
      |some _=>.bad)
     |none=>.bad)
   | .frz s=>.frz s
   | .bad=>.bad))
 |_,_,_=>.bad
def zk0 (t len:Nat) (ps:List (Nat×TV D.T)):FR (TV D.T) :=
 match P.underlying t with
 |some (.slice e)=>match zeroV P e,D.ty e with
  |some z,some τ=>
   if z.zzn&&z.cells.length==P.cellsOf e&&decide (0<P.cellsOf e)&&(P.info? e).isSome&&ps.length==len&&(ps.map (·.1)==List.range len)&&ps.all (λp=>p.2.zzn&&p.2.cells.length==P.cellsOf e)&&decide (len * P.cellsOf e<=2 ^ 24)&&D.len τ==P.cellsOf e then
    (match yni D τ (ps.map (·.2)) with
    | .ok xs=>.ok (.sl τ xs (if len=0 then 2 else 1))
    | .frz s=>(match τ,ps with
      | .st q,[(0,.agg cells)]=>(match y82 D q (D.fl q) cells 0 with
        | .ok _=>.ok (.bsl q [.agg cells])
        | .frz s'=>.frz s'
        | .bad=>.frz s)
      |_,_=>.frz s)
    | .bad=>.bad)
   else .bad
  |_,_=>.bad
 |_=>.bad
def tP1 (ts:TS D.T) (op:Op):FR (TV D.T) :=
 match op with
 | .move x=>.of (ts.ev x)
 | .assign x=>.of (ts.ev x)
 | .load t a=>match ts.ev a with|some a=>.of (yvb P D ts t a)|none=>.bad
 | .nilCheck x=>match ts.ev x with|some x=>.of (tNil x)|none=>.bad
 | .unOp o _ x=>match ts.ev x with|some x=>.of (tUn o x)|none=>.bad
 | .convert s d x=>match ts.ev x with|some x=>.of (y7t P s d x)|none=>.bad
 | .makeInterface t x=>match ts.ev x with|some x=>if P.concrete t then .ok (.iface t x) else .bad|none=>.bad
 | .makeFunc (.func f) first caps=>match ts.evs first.toList,ts.evs caps.toList with
   |some a,some b=>.ok (.fn f a b)
   |_,_=>.bad
 | .fieldAddr s x f=>match ts.ev x with|some x=>.of (zxl P s f x)|none=>.bad
 | .field s x f=>match ts.ev x with|some x=>.of (ysi P s f x)|none=>.bad
 | .typeAssert x _ u ok=>match ts.ev x with|some x=>.of (zua P x u ok)|none=>.bad
 | .extract x i=>match ts.ev x with|some x=>.of (y8c i x)|none=>.bad
 | .build t ps=>match zwu ts ps.toList with|some ps=>.of (yur P t ps)|none=>.bad
 | .buildSlice t len ps=>match zwu ts ps.toList with|some ps=>zk0 P D t len ps|none=>.bad
 | .call c=>match c.callee with
   | .builtin .len=>match c.args.toList,c.argTypes.toList with
     |[x],[t]=>match ts.ev x with|some x=>.of (tLen P D ts t x)|none=>.bad
     |_,_=>.bad
   | .builtin .min=>match ts.evs c.args.toList with|some l=>.of (y6f false l)|none=>.bad
   | .builtin .max=>match ts.evs c.args.toList with|some l=>.of (y6f true l)|none=>.bad
   |_=>.bad
 |_=>.bad
def zxx {R:Type}:Nat->Int->(Nat->Option R)->Option R
 |0,_,_=>none
 |1,_,f=>f 0
 |m+2,n,f=>pIf (n==Int.ofNat (m+1)) (f (m+1)) (zxx (m+1) n f)
def inR (len:Nat) (n:Int):Option Unit:=if 0<=n∧n<(len:Int) then some () else none
def strB (P:Program) (e:Nat):Bool:=match P.underlying e with
 |some .string=>true
 |_=>false
def y69 {T:Nat->Type} {R:Type} (P:Program) (len e:Nat) (x:TV T) (k:TV T->Option R) (n:Nat):Option R :=
 if n<len∧(P.underlying e).isSome then (match x with
  | .ref cs off=>k (.ref cs (off+n * P.cellsOf e))
  | .ptr s off=>k (.ptr s (off+n * P.cellsOf e))
  | .ap s t i x off=>k (.ap s t i x (off+n * P.cellsOf e))
  |_=>none) else none
def zwc {R:Type} (ts:TS D.T) (t:Nat) (x i:TV D.T) (k:TV D.T->Option R):Option R :=
 match i with
 | .int _ n=>match P.underlying t with
   |some (.slice e)=>if (P.underlying e).isSome then (match x with
    | .sl τ xs _=>if D.len τ=P.cellsOf e then z8g (ix xs n) λy=>k (.ref (D.tv τ y).cells 0) else none
    | .own s=>match fnd ts.o s with
      |some (.acc _ τ xs _)=>if D.len τ=P.cellsOf e then z8g (ix xs n) λy=>k (.ap s τ n y 0) else none
      |some (.deep _ q xs _)=>if D.len (.st q)=P.cellsOf e then z8g (ix xs n) λ_=>k (.dp s n 0) else none
      |_=>none
    |_=>none) else none
   |some (.array len e)=>match strB P e with
    |true=>z8g (inR len n) λ_=>zxx len n (y69 P len e x k)
    |false=>(match n with
     | .ofNat n=>y69 P len e x k n
     |_=>none)
   |_=>none
 |_=>none
def yu2 {R:Type} (t:Nat) (x i:TV D.T) (k:TV D.T->Option R):Option R :=
 match i with
 | .int _ n=>match x with
   | .str s=>match P.underlying t with
     |some .string=>z8g (ix s n) λb=>k (.int .u8 b.toNat)
     |_=>none
   | .agg cs=>match P.underlying t with
     |some (.array len e)=>match D.ty e with
      |some τ=>if cs.length=len∧P.cellsOf e=1∧(P.underlying e).isSome∧(P.underlying e).any (λd => !TypeDesc.isAgg d) then (match z9y D (List.replicate cs.length τ) cs with
       | .ok _=>match yni D τ cs with
         | .ok xs=>z8g (ix xs n) λy=>k (D.leaf τ y)
         |_=>none
       |_=>none) else none
      |none=>none
     |_=>none
   |_=>none
 |_=>none
def yk1 (d:Int):Option (TV D.T)->Option Int
 |none=>some d
 |some (.int _ x)=>some x
 |_=>none
def yup {R:Type} (t:Nat) (x:TV D.T) (lo hi:Option (TV D.T)) (k:TV D.T->Option R) (kf:Nat->Option R):Option R :=
 match x with
 | .str s=>match P.underlying t with
   |some .string=>match yk1 D 0 lo,yk1 D s.length hi with
    |some l,some h=>z8g (sub s l h) λy=>k (.str y)
    |_,_=>none
   |_=>none
 | .sl τ xs fl=>match P.underlying t with
   |some (.slice e)=>if D.len τ=P.cellsOf e∧(P.underlying e).isSome then (match yk1 D 0 lo,yk1 D xs.length hi with
     |some l,some h=>z8g (sub xs l h) λy=>k (.sl τ y (match hi with|none=>min fl 1|some _=>0))
     |_,_=>none) else none
   |_=>none
 | .own s=>kf s
 |_=>none
def oev (ts:TS D.T):Option Operand->Option (Option (TV D.T))
 |none=>some none
 |some x=>(ts.ev x).map some
def yqr {α:Type} (xs:List α) (a:Int):Option Unit:=if 0<=a∧a<=xs.length∧0<xs.length then some () else none
def tCut {R:Type} (ts:TS D.T) (t:Nat) (x lo:TV D.T) (k:TV D.T->Option R) (kf:Option R):Option R :=
 match x,lo with
 | .own s,.int .i64 a=>match P.underlying t,fnd ts.o s with
   |some (.slice e),some (.acc _ τ xs true)=>if D.len τ=P.cellsOf e∧(P.underlying e).isSome then z8g (yqr xs a) λ_=>k (.osl s a) else none
   |_,_=>none
 |_,_=>kf
def yiy {R:Type} (ts:TS D.T) (t:Nat) (x key:TV D.T) (ok:Bool) (k:TV D.T->Option R):Option R :=
 match P.underlying t,key with
 |some (.map kt e),.str s=>match P.underlying kt,yr2 (T:=D.T) P e with
  |some .string,some z=>match x with
   | .map q=>match fnd ts.o q with
     |some (.mp _ τ es)=>match asD D τ z with
      | .ok z0=>(match ok with
        |true=>k (.tup [D.tv τ ((z84 es s).getD z0),.bool (z84 es s).isSome])
        |false=>k (D.tv τ ((z84 es s).getD z0)))
      |_=>none
     |_=>none
   |_=>none
  |_,_=>none
 |_,_=>none
def tP {R:Type} (ts:TS D.T) (op:Op) (k:TV D.T->Option R) (kf:Nat->Option R):Option R :=
 match op with
 | .pick c a b=>match ts.ev c,ts.ev a,ts.ev b with
   |some (.bool t),some x,some y=>pIf t (k x) (k y)
   |_,_,_=>none
 | .binOp o t x y _=>match ts.ev x,ts.ev y with
   |some x,some y=>tBin P o t x y k
   |_,_=>none
 | .indexAddr t x i=>match ts.ev x,ts.ev i with
   |some x,some i=>zwc P D ts t x i k
   |_,_=>none
 | .index t x i=>match ts.ev x,ts.ev i with
   |some x,some i=>yu2 P D t x i k
   |_,_=>none
 | .lookup t x i ok=>match ts.ev x,ts.ev i with
   |some x,some i=>yiy P D ts t x i ok k
   |_,_=>none
 | .slice t x lo hi mx=>match ts.ev x,oev D ts lo,oev D ts hi,mx with
   |some x,some lo,some hi,none=>yup P D t x lo hi k kf
   |_,_,_,_=>none
 | .load t a=>match ts.ev a with
   |some (.dp s i off)=>ysx P D ts t s i off k
   |_=>(match tP1 P D ts (.load t a) with
    | .ok v=>k v
    | .frz s=>kf s
    | .bad=>none)
 |op=>match tP1 P D ts op with
  | .ok v=>k v
  | .frz s=>kf s
  | .bad=>none
mutual
def TV.ren (s s':Nat):TV D.T->TV D.T
 | .own j=>if j=s then .own s' else .own j
 | .dp j i off=>if j=s then .dp s' i off else .dp j i off
 | .agg cs=>.agg (TV.zt4 s s' cs)
 | .tup cs=>.tup (TV.zt4 s s' cs)
 | .bsl i cs=>.bsl i (TV.zt4 s s' cs)
 |v=>v
def TV.zt4 (s s':Nat):List (TV D.T)->List (TV D.T)
 |[]=>[]
 |v::vs=>TV.ren s s' v::TV.zt4 s s' vs
end
mutual
def TV.frz (s:Nat) (m:Bool) (z:TV D.T):TV D.T->TV D.T
 | .own j=>match m with
   |true=>.own j
   |false=>if j=s then z else .own j
 | .map j=>match m with
   |true=>if j=s then z else .map j
   |false=>.map j
 | .agg cs=>.agg (TV.yrb s m z cs)
 | .tup cs=>.tup (TV.yrb s m z cs)
 | .bsl _ _=>.any
 |v=>v
def TV.yrb (s:Nat) (m:Bool) (z:TV D.T):List (TV D.T)->List (TV D.T)
 |[]=>[]
 |v::vs=>TV.frz s m z v::TV.yrb s m z vs
end
def TO.map (f:TV D.T->TV D.T):TO D.T->TO D.T
 | .cells cs=>.cells (cs.map f)
 | .bld ty (some s)=>match f (.own s) with
   | .own s'=>.bld ty (some s')
   |_=>.gone
 | .deep ty i xs (some (n,c,s))=>match f (.own s) with
   | .own s'=>.deep ty i xs (some (n,c,s'))
   |_=>.gone
 |o=>o
def gmap (f:TV D.T->TV D.T):Option Nat->Option Nat
 |none=>none
 |some s=>match f (.own s) with
  | .own s'=>some s'
  |_=>none
def TS.zch (ts:TS D.T) (f:TV D.T->TV D.T):TS D.T :=
 {ts with t:=ts.t.map λp=>(p.1,f p.2),o:=ts.o.map λp=>(p.1,TO.map D f p.2),d:=ts.d.map λp=>(p.1,p.2.map f),g:=ts.g.map (gmap D f)}
def TS.freeze (ts:TS D.T) (s:Nat):Option (TS D.T) :=
 match ts.d,fnd ts.o s with
 |[],some (.acc _ t xs _)=>let ts':=ts.zch D (TV.frz D s false (.sl t xs 0));some {ts' with o:=(s,.gone)::ts'.o}
 |[],some (.deep _ q xs none)=>let ts':=ts.zch D (TV.frz D s false (.sl (.st q) xs 0));some {ts' with o:=(s,.gone)::ts'.o}
 |[],some (.mp _ t es)=>if t.flat then (let ts':=ts.zch D (TV.frz D s true (.mc t es));some {ts' with o:=(s,.gone)::ts'.o}) else none
 |_,_=>none
def TS.put (ts:TS D.T) (dst:Option Nat) (v:TV D.T):Option (TS D.T) :=
 match dst with
 |none=>some ts
 |some d=>if d<ts.nt then some {ts with t:=(d,v)::ts.t} else none
def TS.new (ts:TS D.T) (o:TO D.T):TS D.T:={ts with o:=(ts.nx,o)::ts.o,nx:=ts.nx+1}
def TS.set (ts:TS D.T) (s:Nat) (o:TO D.T):TS D.T:={ts with o:=(s,o)::ts.o}
def TS.y24 (ts:TS D.T) (s:Nat) (o:TO D.T):TS D.T:=((ts.new D o).set D s .gone).zch D (TV.ren D s ts.nx)
def ynm {R:Type} (ts:TS D.T) (ty q:Nat) (xs:List (D.T q)) (h:Option (Int×Nat×Nat)) (s:Nat) (i:Int) (off:Nat) (x:TV D.T) (k:TV D.T->TS D.T->Option R) (kf:Nat->Option R):Option R :=
 match x with
 | .own c=>(match D.ow q off,Nat.blt off (D.fl q).length with
   |some _,true=>(match h with
    |none=>z8g (ix xs i) λ_=>k .any (ts.y24 D s (.deep ty q xs (some (i,off,c))))
    |some p=>(match Nat.beq p.2.1 off with
     |true=>z8g (zsn p.1 i) λ_=>z8g (ix xs i) λ_=>k .any (ts.y24 D s (.deep ty q xs (some (i,off,c))))
     |false=>kf s))
   |_,_=>none)
 | .agg cells=>(match off with
   |0=>(match h with
    |none=>(match y82 D q (D.fl q) cells 0 with
     | .ok r=>z8g (ix xs i) λ_=>k .any (ts.y24 D s (.deep ty q (xs.set i.toNat (D.make q r.1)) (r.2.map λp=>(i,p.1,p.2))))
     | .frz s'=>kf s'
     | .bad=>none)
    |some _=>kf s)
   |_=>none)
 |_=>none
def y7f {R:Type} (ts:TS D.T) (t:Nat) (a x:TV D.T) (k:TV D.T->TS D.T->Option R) (kf:Nat->Option R):Option R :=
 if x.zzn&&(P.info? t).isSome&&x.cells.length==P.cellsOf t then
  match a with
  | .ptr s off=>match fnd ts.o s with
    |some (.cells cs)=>if off+x.cells.length<=cs.length then k .any (ts.set D s (.cells (zjp cs off x.cells))) else none
    |_=>none
  | .ap s τ i y off=>match fnd ts.o s with
    |some (.acc ty τ' xs true)=>if τ=τ'∧τ ≠ .nat∧off+x.cells.length<=(D.tv τ y).cells.length then
      (match asD D τ' (match D.tv τ y with| .agg cs=>.agg (zjp cs off x.cells)|_=>x) with
      | .ok z=>let ts':=(ts.zch D (TV.ren D s ts.nx)).new D (.acc ty τ' (xs.set i.toNat z) true);k .any (ts'.set D s .gone)
      | .frz s=>kf s
      | .bad=>none) else none
    |_=>none
  | .dp s i off=>match fnd ts.o s with
    |some (.deep ty q xs h)=>if (List.range x.cells.length).all (λa=>(D.ow q (off+a)).isNone)=true∧off+x.cells.length<=(D.fl q).length then
      z8g (ix xs i) λy=>(match z9y D (D.fl q) (zjp (D.leaves (D.fl q) (D.get q y)) off x.cells) with
       | .ok z=>k .any (((ts.new D (.deep ty q (xs.set i.toNat (D.make q z)) h)).set D s .gone).zch D (TV.ren D s ts.nx))
       | .frz s'=>kf s'
       | .bad=>none) else ynm D ts ty q xs h s i off x k kf
    |_=>none
  | .bp s 1=>match fnd ts.o s,x with
    |some (.bld ty b),.own q=>k .any (ts.set D s (.bld ty (some q)))
    |_,_=>none
  |_=>none
 else none
def tSrc (ts:TS D.T) (τ:DTy):TV D.T->Option (List (τ.S D.T))
 | .nils=>some []
 | .sl t xs _=>zdf t τ xs
 | .own s=>match fnd ts.o s with
   |some (.acc _ t xs _)=>zdf t τ xs
   |_=>none
 | .str s=>match τ with
   | .int .u8=>some (yu0 s)
   |_=>none
 |_=>none
def tDst (ts:TS D.T) (e:Nat) (τ:DTy):TV D.T->Option (List (τ.S D.T)×Bool×Option Nat)
 | .nils=>some ([],true,none)
 | .sl t xs 1=>if τ = .int .u8 then none else (zdf t τ xs).map λxs=>(xs,false,none)
 | .sl t xs 2=>if τ = .int .u8 then none else (zdf t τ xs).map λxs=>(xs,true,none)
 | .own s=>match fnd ts.o s with
   |some (.acc e' t xs w)=>if e'=e then (zdf t τ xs).map λxs=>(xs,w,some s) else none
   |_=>none
 |_=>none
def yl7 {R:Type} (ts:TS D.T) (t u:Nat) (s x:TV D.T) (k:TV D.T->TS D.T->Option R):Option R :=
 match P.underlying t,P.underlying u with
 |some (.slice e),some du=>
  match P.info? e,D.ty e with
  |some i,some τ=>
   match i.zero with
   |some z=>if ztz du&&decide (0<i.size)&&decide (i.bytes<=524288)&&z.cells.size==i.size&&D.len τ==i.size then
     (match tSrc D ts τ x,tDst D ts e τ s with
     |some ys,some (xs,w,old)=>z8g (ext xs ys) λzs=>
      k (.own ts.nx) (match old with|none=>ts.new D (.acc e τ zs w)|some s=>(ts.new D (.acc e τ zs w)).set D s .gone)
     |_,_=>none) else none
   |none=>none
  |_,_=>none
 |_,_=>none
def y9i {R:Type} (ts:TS D.T) (t u:Nat) (s:TV D.T) (q:Nat) (cells:List (TV D.T)) (k:TV D.T->TS D.T->Option R) (kf:Nat->Option R):Option R :=
 match P.underlying t,P.underlying u with
 |some (.slice e),some du=>
  match P.info? e with
  |some i=>
   match i.zero with
   |some z=>if ztz du&&decide (0<i.size)&&decide (i.bytes<=524288)&&z.cells.size==i.size&&D.len (.st q)==i.size then
     (match y82 D q (D.fl q) cells 0 with
     | .ok r=>(match s with
       | .nils=>z8g (ext [] [D.make q r.1]) λzs=>k (.own ts.nx) (ts.new D (.deep e q zs (r.2.map λp=>(0,p.1,p.2))))
       | .own s=>(match fnd ts.o s with
         |some (.deep e' q' xs h)=>if e'=e then (match h with
          |none=>(match zdf (.st q') (.st q) xs with
           |some xs=>z8g (ext xs [D.make q r.1]) λzs=>k (.own ts.nx) ((ts.new D (.deep e q zs (r.2.map λp=>((xs.length:Int),p.1,p.2)))).set D s .gone)
           |none=>none)
          |some _=>kf s) else none
         |_=>none)
       |_=>none)
     | .frz s'=>kf s'
     | .bad=>none) else none
   |none=>none
  |none=>none
 |_,_=>none
def yyq {R:Type} (ts:TS D.T) (t:Nat) (d s:TV D.T) (k:TV D.T->TS D.T->Option R):Option R :=
 match d,s with
 | .osl s a,.osl s' b=>if s=s' then (match P.underlying t,fnd ts.o s with
   |some (.slice e),some (.acc ty τ xs true)=>if D.len τ=P.cellsOf e∧(P.info? e).isSome then
     z8g (zxi xs a b) λys=>k .any (((ts.zch D (TV.ren D s ts.nx)).new D (.acc ty τ ys true)).set D s .gone) else none
   |_,_=>none) else none
 |_,_=>none
def y9v {R:Type} (ts:TS D.T) (t:Nat) (r:Option (TV D.T)) (k:TV D.T->TS D.T->Option R):Option R :=
 match P.underlying t with
 |some (.map _ e)=>match D.ty e,r with
  |some τ,none=>k (.map ts.nx) (ts.new D (.mp t τ []))
  |some τ,some (.int _ _)=>k (.map ts.nx) (ts.new D (.mp t τ []))
  |_,_=>none
 |_=>none
def y6e {R:Type} (ts:TS D.T) (t:Nat) (m key x:TV D.T) (k:TV D.T->TS D.T->Option R):Option R :=
 match P.underlying t,m,key with
 |some (.map kt _),.map q,.str s=>match P.underlying kt,fnd ts.o q with
  |some .string,some (.mp ty τ es)=>match asD D τ x with
   | .ok y=>k .any (ts.set D q (.mp ty τ (zd5 es s y)))
   |_=>none
  |_,_=>none
 |_,_,_=>none
def z01n {R:Type} (ts:TS D.T) (x:TV D.T) (str:Bool) (k:TV D.T->TS D.T->Option R):Option R :=
 match x,str with
 | .ptr s 0,true=>match fnd ts.o s with
   |some (.siter l pos)=>pIf (decide (pos<l.length)) (k (.tup [.bool true,.int .i64 pos,.int .i32 (zl9 l pos).1]) (ts.set D s (.siter l (pos+(zl9 l pos).2)))) (k (.tup [.bool false]) ts)
   |_=>none
 |_,_=>none
def tOp {R:Type} (ts:TS D.T) (op:Op) (k:TV D.T->TS D.T->Option R) (kf:Nat->Option R):Option R :=
 match op with
 | .alloc t=>match yr2 (T:=D.T) P t with
   |some z=>if z.zzn then k (.ptr ts.nx 0) (ts.new D (.cells z.cells)) else none
   |none=>none
 | .box _ x=>match ts.ev x with
   |some v=>if v.zzn then k (.ptr ts.nx 0) (ts.new D (.cells v.cells)) else none
   |none=>none
 | .store t a x=>match ts.ev a,ts.ev x with
   |some a,some x=>y7f P D ts t a x k kf
   |_,_=>none
 | .makeMap t r=>match oev D ts r with
   |some r=>y9v P D ts t r k
   |none=>none
 | .mapUpdate t m i x=>match ts.ev m,ts.ev i,ts.ev x with
   |some m,some i,some x=>y6e P D ts t m i x k
   |_,_,_=>none
 | .insert t m i x=>match ts.ev m,ts.ev i,ts.ev x with
   |some m,some i,some x=>y6e P D ts t m i x k
   |_,_,_=>none
 | .range t x=>match ts.ev x with
   |some (.str s)=>match P.underlying t with
    |some .string=>k (.ptr ts.nx 0) (ts.new D (.siter s 0))
    |_=>none
   |_=>none
 | .next i b=>match ts.ev i with
   |some i=>z01n D ts i b k
   |none=>none
 |op=>match op with
  | .call c=>match c.callee,c.args.toList,c.argTypes.toList with
    | .builtin .append,[s,x],[t,u]=>match ts.ev s,ts.ev x with
      |some s,some (.bsl q [.agg cells])=>y9i P D ts t u s q cells k kf
      |some s,some x=>yl7 P D ts t u s x k
      |_,_=>none
    | .builtin .copy,[d,s],[t,u]=>match ts.ev d,ts.ev s with
      |some d,some s=>yyq P D ts t d s k
      |_,_=>none
    |_,_,_=>tP P D ts op (λv=>k v ts) kf
  |op=>tP P D ts op (λv=>k v ts) kf
end
inductive Sh where
 |any
 |d (t:DTy)
 |own (k:Nat)
 |ptr (k off:Nat)
 |bp (k:Nat)
 |map (k:Nat)
 |mc (t:DTy)
 |nilp
 |nilf
 |nili
 |nils
 |fn (f:Nat) (a b:List Sh)
 |iface (t:Nat) (s:Sh)
 |agg (cs:List Sh)
 |tup (cs:List Sh)
 |ref (cs:List Sh) (off:Nat)
 |dp (k off:Nat)
 |ap (k:Nat) (t:DTy) (off:Nat)
inductive OSh where
 |cells (cs:List Sh)
 |st (i:Nat)
 |acc (ty:Nat) (t:DTy) (w:Bool)
 |siter
 |mp (ty:Nat) (t:DTy)
 |mit (t:DTy)
 |bld (ty k:Nat)
 |deep (ty i:Nat)
 |deeph (ty i f k:Nat)
mutual
def Sh.tys:Sh->List DTy
 | .d t=>[t]
 | .mc t=>[.sl .str,.sl t]
 | .fn _ a b=>Sh.z88 a++Sh.z88 b
 | .iface _ s=>s.tys
 | .agg cs=>Sh.z88 cs
 | .tup cs=>Sh.z88 cs
 | .ref cs _=>Sh.z88 cs
 | .dp _ _=>[.int .i64]
 | .ap _ t _=>[.int .i64,t]
 |_=>[]
def Sh.z88:List Sh->List DTy
 |[]=>[]
 |s::l=>s.tys++Sh.z88 l
end
end Go.Ab
namespace Go.Ab
open Go
set_option linter.unusedVariables false
def HL.upd {T:Nat->Type}:(l:List DTy)->HL T l->Nat->(t:DTy)->t.S T->Option (HL T l)
 |[],_,_,_,_=>none
 |t::_,x,0,t',y=>(y01 t' t y).map λy=>(y,x.2)
 |_::l,x,j+1,t',y=>(HL.upd l x.2 j t' y).map λz=>(x.1,z)
def HL.at {T:Nat->Type}:(l:List DTy)->HL T l->Nat->Option ((t:DTy)×t.S T)
 |[],_,_=>none
 |t::_,x,0=>some ⟨t,x.1⟩
 |_::l,x,j+1=>HL.at l x.2 j
section
variable {D : Dat}
def ymr {T:Nat->Type}:List (TO T)->Nat->List (Nat×TO T)
 |[],_=>[]
 |o::r,n=>(n,o)::ymr r (n+1)
def zyl {T:Nat->Type} (l:List Nat):List (Nat×TO T):=l.map λs=>(s,.gone)
def TS.zsf (ts:TS D.T) (olds:List Nat) (tos:List (TO D.T)):TS D.T :=
 {ts with o:=ymr tos ts.nx++(zyl olds++ts.o),nx:=ts.nx+tos.length}
variable (D)
def Dat.ytf (q:Nat):Bool:=(List.range (D.fl q).length).any λf=>(D.ow q f).isSome
def Dat.zp3:DTy->Bool
 | .st q => !D.ytf q
 |_=>true
def TS.fold {R:Type} (ts:TS D.T) (s:Nat) (k:TS D.T->Option R):Option R :=
 match fnd ts.o s with
 |some (.deep ty q xs (some (n,f,c)))=>(match D.ow q f with
  |some ty'=>(match fnd ts.o c with
   |some (.deep ty2 q' ys none)=>if ty'=ty2∧c≠s then z8g (ix xs n) λy=>(match HL.upd (D.fl q) (D.get q y) f (.sl (.st q')) ys with
     |some z=>k ((ts.zsf [s,c] [.deep ty q (xs.set n.toNat (D.make q z)) none]).zch D (TV.ren D s ts.nx))
     |none=>none) else none
   |some (.acc ty2 t' ys true)=>if ty'=ty2∧c≠s∧D.zp3 t'=true then z8g (ix xs n) λy=>(match HL.upd (D.fl q) (D.get q y) f (.sl t') ys with
     |some z=>k ((ts.zsf [s,c] [.deep ty q (xs.set n.toNat (D.make q z)) none]).zch D (TV.ren D s ts.nx))
     |none=>none) else none
   |_=>none)
  |none=>none)
 |_=>none
def TS.opn {R:Type} (ts:TS D.T) (s:Nat) (n:Int) (f:Nat) (k:TV D.T->TS D.T->Option R):Option R :=
 match fnd ts.o s with
 |some (.deep ty q xs none)=>(match D.ow q f with
  |some ty'=>z8g (ix xs n) λy=>(match HL.at (D.fl q) (D.get q y) f with
   |some ⟨.sl (.st q'),ys⟩=>(match D.ytf q' with
    |true=>k (.own (ts.nx+1)) ((ts.zsf [s] [.deep ty q xs (some (n,f,ts.nx+1)),.deep ty' q' ys none]).zch D (TV.ren D s ts.nx))
    |false=>k (.own (ts.nx+1)) ((ts.zsf [s] [.deep ty q xs (some (n,f,ts.nx+1)),.acc ty' (.st q') ys true]).zch D (TV.ren D s ts.nx)))
   |some ⟨.sl t',ys⟩=>(match D.zp3 t' && !decide (t' = .int .u8) with
    |true=>k (.own (ts.nx+1)) ((ts.zsf [s] [.deep ty q xs (some (n,f,ts.nx+1)),.acc ty' t' ys true]).zch D (TV.ren D s ts.nx))
    |false=>none)
   |_=>none)
  |none=>none)
 |_=>none
def TV.pl {T:Nat->Type}:TV T->Bool
 | .bool _| .int _ _| .str _| .nilp| .nils| .mapn| .nilf| .nili| .sl _ _ _=>true
 |_=>false
mutual
def TV.see (ts:TS D.T):TV D.T->TV D.T
 | .own s=>(match fnd ts.o s with
   |some (.acc _ t xs _)=>.sl t xs 0
   |some (.deep _ q xs none)=>.sl (.st q) xs 0
   |_=>.any)
 | .agg cs=>.agg (TV.ywk ts cs)
 | .fn f a b=>(match a.all TV.pl&&b.all TV.pl with
   |true=>.fn f a b
   |false=>.any)
 | .bool b=>.bool b
 | .int k n=>.int k n
 | .str s=>.str s
 | .nilp=>.nilp
 | .nils=>.nils
 | .mapn=>.mapn
 | .nilf=>.nilf
 | .nili=>.nili
 | .sl t xs fl=>.sl t xs 0
 |_=>.any
def TV.ywk (ts:TS D.T):List (TV D.T)->List (TV D.T)
 |[]=>[]
 |v::vs=>TV.see ts v::TV.ywk ts vs
end
mutual
def TV.z021 {T:Nat->Type}:TV T->List Nat
 | .own s=>[s]
 | .agg cs=>TV.y8w cs
 |_=>[]
def TV.y8w {T:Nat->Type}:List (TV T)->List Nat
 |[]=>[]
 |v::vs=>TV.z021 v++TV.y8w vs
end
def isHole {T:Nat->Type} (ts:TS T) (s:Nat):Bool:=match fnd ts.o s with
 |some (.deep _ _ _ (some _))=>true
 |_=>false
def z00f {T:Nat->Type} (ts:TS T) (s:Nat):Bool:=match fnd ts.o s with
 |some (.deep _ _ _ _)=>true
 |_=>false
def y6b {T:Nat->Type}:Nat->TS T->Nat->Nat
 |0,_,s=>s
 |f+1,ts,s=>match fnd ts.o s with
  |some (.deep _ _ _ (some p))=>(match isHole ts p.2.2 with
   |true=>y6b f ts p.2.2
   |false=>s)
  |_=>s
def yub {R:Type} (P:Program) (ts:TS D.T) (t:Nat) (s:Nat) (i:Int) (off:Nat) (k:TV D.T->TS D.T->Option R) (kf:Nat->Option R):Option R :=
 match fnd ts.o s with
 |some (.deep _ q _ h)=>(match z009 D q off (szT P t) with
  |[]=>ztp P D ts t s i off none λv=>k v ts
  |f::_=>(match h with
   |none=>ts.opn D s i f λv ts'=>ztp P D ts t s i off (some (f,v)) λw=>k w ts'
   |some p=>(match Nat.beq p.2.1 f with
    |true=>z8g (zsn p.1 i) λ_=>ztp P D ts t s i off (some (f,.own p.2.2)) λw=>k w ts
    |false=>kf s)))
 |_=>none
end
def mks {α β:Type} (es:List (α×β)):List α:=es.map Prod.fst
def mvs {α β:Type} (es:List (α×β)):List β:=es.map Prod.snd
theorem zz9 {α β:Type}:∀es:List (α×β),List.zip (mks es) (mvs es)=es
 |[]=>rfl
 |(_,_)::l=>congrArg (_ :: ·) (zz9 l)
inductive Src (T:Nat->Type) where
 |slot (s:Nat)
 |nil
abbrev z5h (T:Nat->Type):=List (Nat×Src T)
section
variable {T : Nat → Type}
def Src.z015 (s:Nat):Src T->Bool
 | .slot s'=>s'==s
 |_=>false
def zf0 (n k s:Nat) (M:z5h T):Option (z5h T) :=
 match fnd M k with
 |some (.slot s')=>if s'=s then some M else none
 |some _=>none
 |none=>if k<n∧M.all (λp => !p.2.z015 s) then some ((k,.slot s)::M) else none
def yr3 (n k:Nat) (M:z5h T):Option (z5h T) :=
 match fnd M k with
 |some .nil=>some M
 |some _=>none
 |none=>if k<n then some ((k,.nil)::M) else none
def frU (o:Option (z5h T)):FR (z5h T×Unit) :=
 match o with
 |some M=>.ok (M,())
 |none=>.bad
end
def OSh.tys:OSh->List DTy
 | .cells cs=>Sh.z88 cs
 | .st i=>[.st i]
 | .acc _ t _=>[.sl t]
 | .siter=>[.str,.nat]
 | .mp _ t=>[.sl .str,.sl t]
 | .mit t=>[.sl .str,.sl t]
 | .bld _ _=>[]
 | .deep _ i=>[.sl (.st i)]
 | .deeph _ i _ _=>[.sl (.st i),.int .i64]
def z8b:List OSh->List DTy
 |[]=>[]
 |o::l=>o.tys++z8b l
def yw6:List (Nat×Sh)->List DTy
 |[]=>[]
 |p::l=>p.2.tys++yw6 l
section
variable (D : Dat)
mutual
def ygm (n:Nat):(sh:Sh)->TV D.T->z5h D.T->FR (z5h D.T×HL D.T sh.tys)
 | .any,_,M=>.ok (M,())
 | .d t,v,M=>match asD D t v with
   | .ok x=>.ok (M,(x,()))
   | .frz s=>.frz s
   | .bad=>.bad
 | .own k,.own s,M=>frU (zf0 n k s M)
 | .own k,.nils,M=>frU (yr3 n k M)
 | .ptr k off,.ptr s off',M=>if off=off' then frU (zf0 n k s M) else .bad
 | .bp k,.bp s 0,M=>frU (zf0 n k s M)
 | .map k,.map s,M=>frU (zf0 n k s M)
 | .mc t,.mc t' es,M=>match zt0 t' t es with
   |some es=>.ok (M,(mks es,(mvs es,())))
   |none=>.bad
 | .mc _,.map s,_=>.frz s
 | .nilp,.nilp,M=>.ok (M,())
 | .nilf,.nilf,M=>.ok (M,())
 | .nili,.nili,M=>.ok (M,())
 | .nils,.nils,M=>.ok (M,())
 | .fn f a b,.fn f' a' b',M=>if f=f' then (match zv2 n a a' M with
   | .ok (M,x)=>match zv2 n b b' M with
     | .ok (M,y)=>.ok (M,HL.app x y)
     | .frz s=>.frz s
     | .bad=>.bad
   | .frz s=>.frz s
   | .bad=>.bad) else .bad
 | .iface t s,.iface t' v,M=>if t=t' then ygm n s v M else .bad
 | .agg cs,.agg vs,M=>zv2 n cs vs M
 | .tup cs,.tup vs,M=>zv2 n cs vs M
 | .ref cs off,.ref vs off',M=>if off=off' then zv2 n cs vs M else .bad
 | .dp k off,.dp s i off',M=>if off=off' then (match zf0 n k s M with
   |some M=>.ok (M,(i,()))
   |none=>.bad) else .bad
 | .ap k t off,.ap s t' i x off',M=>if off=off' then (match y01 t' t x with
   |some x=>(match zf0 n k s M with
    |some M=>.ok (M,(i,(x,())))
    |none=>.bad)
   |none=>.bad) else .bad
 |_,_,_=>.bad
def zv2 (n:Nat):(l:List Sh)->List (TV D.T)->z5h D.T->FR (z5h D.T×HL D.T (Sh.z88 l))
 |[],[],M=>.ok (M,())
 |sh::l,v::vs,M=>match ygm n sh v M with
  | .ok (M,x)=>match zv2 n l vs M with
    | .ok (M,y)=>.ok (M,HL.app x y)
    | .frz s=>.frz s
    | .bad=>.bad
  | .frz s=>.frz s
  | .bad=>.bad
 |_,_,_=>.bad
end
mutual
def zlk (m:Nat->Nat):(sh:Sh)->HL D.T sh.tys->TV D.T
 | .any,_=>.any
 | .d t,x=>D.tv t x.1
 | .own k,_=>.own (m k)
 | .ptr k off,_=>.ptr (m k) off
 | .bp k,_=>.bp (m k) 0
 | .map k,_=>.map (m k)
 | .mc t,x=>.mc t (List.zip x.1 x.2.1)
 | .nilp,_=>.nilp
 | .nilf,_=>.nilf
 | .nili,_=>.nili
 | .nils,_=>.nils
 | .fn f a b,x=>.fn f (z4k m a (HL.fst _ x)) (z4k m b (HL.snd _ x))
 | .iface t s,x=>.iface t (zlk m s x)
 | .agg cs,x=>.agg (z4k m cs x)
 | .tup cs,x=>.tup (z4k m cs x)
 | .ref cs off,x=>.ref (z4k m cs x) off
 | .dp k off,x=>.dp (m k) x.1 off
 | .ap k t off,x=>.ap (m k) t x.1 x.2.1 off
def z4k (m:Nat->Nat):(l:List Sh)->HL D.T (Sh.z88 l)->List (TV D.T)
 |[],_=>[]
 |sh::l,x=>zlk m sh (HL.fst _ x)::z4k m l (HL.snd _ x)
end
def y48 (n:Nat) (ts:TS D.T):(o:OSh)->Src D.T->z5h D.T->FR (z5h D.T×HL D.T o.tys)
 | .cells cs,.slot s,M=>match fnd ts.o s with
   |some (.cells vs)=>zv2 D n cs vs M
   |_=>.bad
 | .st i,.slot s,M=>match fnd ts.o s with
   |some (.cells vs)=>match z9y D (D.fl i) vs with
    | .ok x=>.ok (M,(D.make i x,()))
    | .frz s=>.frz s
    | .bad=>.bad
   |_=>.bad
 | .acc ty t w,.slot s,M=>match fnd ts.o s with
   |some (.acc ty' t' xs w')=>if ty=ty'∧(w=true->w'=true) then (match zdf t' t xs with|some xs=>.ok (M,(xs,()))|none=>.bad) else .bad
   |_=>.bad
 | .acc _ _ _,.nil,M=>.ok (M,([],()))
 | .siter,.slot s,M=>match fnd ts.o s with
   |some (.siter l pos)=>.ok (M,(l,(pos,())))
   |_=>.bad
 | .mp ty t,.slot s,M=>match fnd ts.o s with
   |some (.mp ty' t' es)=>if ty=ty' then (match zt0 t' t es with|some es=>.ok (M,(mks es,(mvs es,())))|none=>.bad) else .bad
   |_=>.bad
 | .mit t,.slot s,M=>match fnd ts.o s with
   |some (.mit t' _ es)=>(match zt0 t' t es with|some es=>.ok (M,(mks es,(mvs es,())))|none=>.bad)
   |_=>.bad
 | .bld ty k,.slot s,M=>match fnd ts.o s with
   |some (.bld ty' b)=>if ty=ty' then (match b with
    |some q=>frU (zf0 n k q M)
    |none=>frU (yr3 n k M)) else .bad
   |_=>.bad
 | .deep ty q,.slot s,M=>match fnd ts.o s with
   |some (.deep ty' q' xs h)=>if ty=ty' then (match h with
    |none=>(match zdf (.st q') (.st q) xs with
     |some xs=>.ok (M,(xs,()))
     |none=>.bad)
    |some _=>.frz s) else .bad
   |_=>.bad
 | .deep _ _,.nil,M=>.ok (M,([],()))
 | .deeph ty q f k,.slot s,M=>match fnd ts.o s with
   |some (.deep ty' q' xs h)=>if ty=ty' then (match h with
    |some p=>if f=p.2.1 then (match zdf (.st q') (.st q) xs with
     |some xs=>(match zf0 n k p.2.2 M with
      |some M=>.ok (M,(xs,(p.1,())))
      |none=>.bad)
     |none=>.bad) else .bad
    |none=>.bad) else .bad
   |_=>.bad
 |_,_,_=>.bad
def yig (n:Nat) (ts:TS D.T):(os:List OSh)->Nat->z5h D.T->FR (z5h D.T×HL D.T (z8b os))
 |[],_,M=>.ok (M,())
 |o::os,k,M=>match fnd M k with
  |some src=>match y48 D n ts o src M with
   | .ok (M,x)=>match yig n ts os (k+1) M with
     | .ok (M,y)=>.ok (M,HL.app x y)
     | .frz s=>.frz s
     | .bad=>.bad
   | .frz s=>.frz s
   | .bad=>.bad
  |none=>.bad
def yqu (n:Nat) (ts:TS D.T):(l:List (Nat×Sh))->z5h D.T->FR (z5h D.T×HL D.T (yw6 l))
 |[],M=>.ok (M,())
 |p::l,M=>match fnd ts.t p.1 with
  |some v=>match ygm D n p.2 v M with
   | .ok (M,x)=>match yqu n ts l M with
     | .ok (M,y)=>.ok (M,HL.app x y)
     | .frz s=>.frz s
     | .bad=>.bad
   | .frz s=>.frz s
   | .bad=>.bad
  |none=>.bad
def zlo (m:Nat->Nat):(o:OSh)->HL D.T o.tys->TO D.T
 | .cells cs,x=>.cells (z4k D m cs x)
 | .st i,x=>.cells (D.leaves (D.fl i) (D.get i x.1))
 | .acc ty t w,x=>.acc ty t x.1 w
 | .siter,x=>.siter x.1 x.2.1
 | .mp ty t,x=>.mp ty t (List.zip x.1 x.2.1)
 | .mit t,x=>.mit t none (List.zip x.1 x.2.1)
 | .bld ty k,_=>.bld ty (some (m k))
 | .deep ty q,x=>.deep ty q x.1 none
 | .deeph ty q f k,x=>.deep ty q x.1 (some (x.2.1,f,m k))
def z9d (m:Nat->Nat):(os:List OSh)->Nat->HL D.T (z8b os)->List (Nat×TO D.T)
 |[],_,_=>[]
 |o::os,k,x=>(m k,zlo D m o (HL.fst _ x))::z9d m os (k+1) (HL.snd _ x)
def ypz (m:Nat->Nat):(l:List (Nat×Sh))->HL D.T (yw6 l)->List (Nat×TV D.T)
 |[],_=>[]
 |p::l,x=>(p.1,zlk D m p.2 (HL.fst _ x))::ypz m l (HL.snd _ x)
end
structure LSh where
 ts:List (Nat×Sh)
 os:List OSh
 pin:Nat
 nt:Nat
 gs:List Nat:=[]
def LSh.tys (l:LSh):List DTy:=yw6 l.ts++z8b l.os
section
variable (D : Dat)
def LSh.bld (l:LSh) (x:HL D.T l.tys):TS D.T :=
 ⟨ypz D (λk=>k) l.ts (HL.fst _ x),z9d D (λk=>k) l.os 0 (HL.snd _ x),l.os.length,l.nt,[],l.gs.map some⟩
def pins {T:Nat->Type}:Nat->z5h T
 |0=>[]
 |n+1=>(n,.slot n)::pins n
def yuo {T:Nat->Type} (n:Nat):List Nat->List (Option Nat)->z5h T->Option (z5h T)
 |[],[],M=>some M
 |k::ks,some s::ss,M=>match zf0 n k s M with
  |some M=>yuo n ks ss M
  |none=>none
 |_,_,_=>none
def LSh.fit (l:LSh) (ts:TS D.T):FR (HL D.T l.tys) :=
 if ts.nt=l.nt∧ts.d.isEmpty=true then (match yqu D l.os.length ts l.ts (pins l.pin) with
  | .ok (M,x)=>match yuo l.os.length l.gs ts.g M with
    |some M=>(match yig D l.os.length ts l.os 0 M with
     | .ok (_,y)=>.ok (HL.app x y)
     | .frz s=>.frz s
     | .bad=>.bad)
    |none=>.bad
  | .frz s=>.frz s
  | .bad=>.bad) else .bad
def LSh.enter {R:Type} (l:LSh) (k:HL D.T l.tys->Option R):Nat->TS D.T->Option R
 |0,_=>none
 |f+1,ts=>match l.fit D ts with
  | .ok x=>k x
  | .frz s=>match isHole ts s with
    |true=>ts.fold D (y6b 9 ts s) λts'=>LSh.enter l k f ts'
    |false=>match ts.freeze D s with
     |some ts'=>LSh.enter l k f ts'
     |none=>none
  | .bad=>none
structure Ent where
 f:Nat
 p:Nat
 args:List Sh
 aos:List OSh
 outs:List Sh
 ros:List OSh
 pan:Sh
 pos:List OSh
 pure:Bool
 go:{R:Type}->HL D.T (Sh.z88 args++z8b aos)->(HL D.T (Sh.z88 outs++z8b ros)->Option R)->(HL D.T (pan.tys++z8b pos)->Option R)->Option R
 ren:List (Nat×Nat):=[]
def Ent.fit (e:Ent D) (vs:List (TV D.T)) (ts:TS D.T):FR (z5h D.T×HL D.T (Sh.z88 e.args++z8b e.aos)) :=
 match zv2 D e.aos.length e.args vs [] with
 | .ok (M,x)=>match yig D e.aos.length ts e.aos 0 M with
   | .ok (M,y)=>.ok (M,HL.app x y)
   | .frz s=>.frz s
   | .bad=>.bad
 | .frz s=>.frz s
 | .bad=>.bad
def zar (M:z5h D.T) (p nx k:Nat):Nat :=
 if k<p then (match fnd M k with|some (.slot s)=>s|_=>0) else nx+(k-p)
def zjv:z5h D.T->List (Nat×TO D.T)
 |[]=>[]
 |(_,.slot s)::l=>(s,.gone)::zjv l
 |(_,.nil)::l=>zjv l
def zha (M:z5h D.T) (p:Nat) (ts:TS D.T) (os:List OSh) (y:HL D.T (z8b os)):TS D.T :=
 {ts with o:=z9d D (zar D M p ts.nx) os 0 y++(zjv D M++ts.o),nx:=ts.nx+(os.length-p)}
def ze1 (M:z5h D.T) (p nx:Nat):List (Nat×Nat)->TS D.T->TS D.T
 |[],ts=>ts
 |q::l,ts=>match fnd M q.1 with
  |some (.slot s)=>ze1 M p nx l (ts.zch D (TV.ren D s (zar D M p nx q.2)))
  |_=>ze1 M p nx l ts
def y7x:List (TV D.T)->TV D.T
 |[v]=>v
 |vs=>.tup vs
def z03w {R:Type} (f:Nat) (vs:List (TV D.T)) (ts:TS D.T) (k kp:TV D.T->TS D.T->Option R) (kf:Nat->Option R):Option R:=none
def zsm {R:Type} (f:Nat) (vs:List (TV D.T)) (ts:TS D.T) (k kp:TV D.T->TS D.T->Option R) (kf:Nat->Option R):List (Ent D)->Option R
 |[]=>z03w D f vs ts k kp kf
 |e::r=>match Nat.beq e.f f with
  |false=>zsm f vs ts k kp kf r
  |true=>match e.fit D vs ts with
   | .bad=>zsm f vs ts k kp kf r
   | .frz s=>kf s
   | .ok (M,x)=>if e.p<=e.aos.length∧e.p<=e.ros.length∧e.p<=e.pos.length∧(List.range e.p).all (λk=>match fnd M k with|some (.slot _)=>true|_=>false) then
       e.go x (λy=>k (y7x D (z4k D (zar D M e.p ts.nx) e.outs (HL.fst _ y))) (ze1 D M e.p ts.nx e.ren (zha D M e.p ts e.ros (HL.snd _ y))))
        (λy=>kp (zlk D (zar D M e.p ts.nx) e.pan (HL.fst _ y)) (zha D M e.p ts e.pos (HL.snd _ y)))
       else none
end
def Sh.z028:Sh->Bool
 | .d t=>t.flat
 |_=>false
def pBor {R:Type} (D:Dat) (f:Nat) (vs:List (TV D.T)) (ts:TS D.T) (k:TV D.T->TS D.T->Option R) (kf:Option R):Option R:=kf
def yxu {R:Type} (D:Dat) (f:Nat) (vs:List (TV D.T)) (ts:TS D.T) (k:TV D.T->TS D.T->Option R) (kf:Option R):List (Ent D)->Option R
 |[]=>pBor D f vs ts k kf
 |e::r=>match Nat.beq e.f f&&e.pure&&e.outs.all Sh.z028 with
  |true=>(match e.fit D (TV.ywk D ts vs) ts with
   | .ok mx=>e.go mx.2 (λy=>k (y7x D (z4k D (λk=>k) e.outs (HL.fst _ y))) ts) (λ_=>none)
   |_=>yxu D f vs ts k kf r)
  |false=>yxu D f vs ts k kf r
section
variable (P : Program) (D : Dat) (tbl : List (Ent D))
noncomputable def y8p {R:Type} (op:Op) (k kp:TV D.T->TS D.T->Option R):Nat->TS D.T->Option R
 |0,_=>none
 |fuel+1,ts=>
  let kf:=λs=>match isHole ts s with
   |true=>ts.fold D (y6b 9 ts s) λts'=>y8p op k kp fuel ts'
   |false=>(match ts.freeze D s with
    |some ts'=>y8p op k kp fuel ts'
    |none=>none)
  match op with
  | .load t a=>(match ts.ev a with
    |some (.dp s i off)=>yub D P ts t s i off k kf
    |_=>tOp P D ts op k kf)
  | .call c=>match c.callee with
    | .value x=>match ts.ev x,ts.evs c.args.toList with
      |some (.fn f a b),some vs=>(match (TV.y8w (a++vs++b)).find? (z00f ts) with
       |some _=>(match (TV.y8w (a++vs++b)).find? (isHole ts) with
        |some s=>kf s
        |none=>yxu D f (a++vs++b) ts k (zsm D f (a++vs++b) ts k kp kf tbl) tbl)
       |none=>zsm D f (a++vs++b) ts k kp kf tbl)
      |_,_=>none
    |_=>tOp P D ts op k kf
  | .panic x=>match ts.ev x with
    |some (.iface t v)=>kp (.iface t v) ts
    |_=>none
  | .defer c=>match c.callee with
    | .value x=>match ts.ev x,ts.evs c.args.toList with
      |some (.fn f a b),some vs=>k .any {ts with d:=(f,a++vs++b)::ts.d}
      |_,_=>none
    |_=>none
  | .binOp o t x y _=>match ts.ev x,ts.ev y with
    |some .nili,some .nili=>(match isC x||isC y,P.underlying t with
     |true,some (.interface _)=>(match o with
      | .eql=>k (.bool true) ts
      | .neq=>k (.bool false) ts
      |_=>none)
     |_,_=>none)
    |_,_=>tOp P D ts op k kf
  | .alloc t=>match zeroV P t,P.info? t with
    |some (.agg [.nilp,.nils]),some i=>(match z03z P t&&Nat.beq i.size 2 with
     |true=>k (.bp ts.nx 0) (ts.new D (.bld t none))
     |false=>tOp P D ts op k kf)
    |_,_=>tOp P D ts op k kf
  | .convert s d x=>match ts.ev x with
    |some (.sl (.int .u8) xs _)=>(match P.underlying s,P.underlying d with
     |some (.slice e),some .string=>(match P.underlying e with
      |some (.int .u8)=>z8g (yu1 xs) λy=>k (.str y) ts
      |_=>none)
     |_,_=>none)
    |_=>tOp P D ts op k kf
  | .range t x=>match ts.ev x with
    |some (.map q)=>kf q
    |some (.mc τ es)=>(match P.underlying t with
     |some (.map _ _)=>k (.ptr ts.nx 0) (ts.new D (.mit τ none es))
     |_=>none)
    |_=>tOp P D ts op k kf
  | .next x false=>match ts.ev x with
    |some (.ptr s 0)=>(match fnd ts.o s with
     |some (.mit τ _ es)=>y3m es (λa y r=>k (.tup [.bool true,.str a,D.leaf τ y]) (ts.set D s (.mit τ (some (a,y)) r))) (k (.tup [.bool false]) ts)
     |_=>none)
    |_=>none
  | .entry x=>match ts.ev x with
    |some (.ptr s 0)=>(match fnd ts.o s with
     |some (.mit τ (some p) _)=>k (.tup [.str p.1,D.leaf τ p.2]) ts
     |_=>none)
    |_=>none
  |_=>tOp P D ts op k kf
def y74 {R:Type} (all:List Oper) (o:Oper) (ts:TS D.T) (go skip:TS D.T->Option R):Option R :=
 match o.guard with
 |none=>go ts
 |some (j,want)=>match (all[j]?).bind (·.dst) with
  |none=>none
  |some d=>match fnd ts.t d with
   |some (.bool b)=>pIf b (if want then go {ts with t:=(d,.bool true)::ts.t} else skip {ts with t:=(d,.bool true)::ts.t})
     (if want then skip {ts with t:=(d,.bool false)::ts.t} else go {ts with t:=(d,.bool false)::ts.t})
   |some (.tup _)=>skip ts
   |_=>none
def cpB (all:List Oper) (o:Oper):Option (Nat×Operand×Operand):=match o.op,o.dst with
 | .slice t x (some lo) none none,some d=>if all.any (λq=>match q.op with
   | .call c=>(match c.callee with
     | .builtin .copy=>c.args.toList.any λa=>(match a with
       | .tmp i=>Nat.beq i d
       |_=>false)
     |_=>false)
   |_=>false) then some (t,x,lo) else none
 |_,_=>none
def tPC {R:Type} (all:List Oper) (o:Oper) (k:TV D.T->Option R) (ts:TS D.T):Option R:=match cpB all o with
 |some (t,x,lo)=>(match ts.ev x,ts.ev lo with
  |some x,some lo=>tCut P D ts t x lo k (tP P D ts o.op k λ_=>none)
  |_,_=>none)
 |none=>tP P D ts o.op k λ_=>none
def litB (all:List Oper) (o:Oper):Bool:=match o.op,o.dst with
 | .buildSlice _ _ _,some d=>all.any λq=>(match q.op with
   | .assign (.tmp i)=>Nat.beq i d
   |_=>false)
 |_,_=>false
def tLit {R:Type} (ts:TS D.T) (op:Op) (k:TV D.T->TS D.T->Option R) (kf:Option R):Option R:=match op with
 | .buildSlice t len ps=>(match P.underlying t,zwu ts ps.toList with
   |some (.slice e),some qs=>(match zk0 P D t len qs with
    | .ok (.sl τ xs 1)=>k (.own ts.nx) (ts.new D (.acc e τ xs true))
    |_=>kf)
   |_,_=>kf)
 |_=>kf
noncomputable def yy9 {R:Type} (all:List Oper) (o:Oper) (k kp:TV D.T->TS D.T->Option R) (ts:TS D.T):Option R:=match cpB all o with
 |some (t,x,lo)=>(match ts.ev x,ts.ev lo with
  |some x,some lo=>tCut P D ts t x lo (λv=>k v ts) (y8p P D tbl o.op k kp 9 ts)
  |_,_=>none)
 |none=>match litB all o with
  |true=>tLit P D ts o.op k (y8p P D tbl o.op k kp 9 ts)
  |false=>y8p P D tbl o.op k kp 9 ts
noncomputable def zwr {R:Type} (all:List Oper) (kn:TS D.T->Option R) (kp:TV D.T->TS D.T->Option R):List Oper->TS D.T->Option R
 |[],ts=>kn ts
 |o::rest,ts=>pOp o<|y74 D all o ts
  (λts=>yy9 P D tbl all o (λv ts=>match ts.put D o.dst v with|some ts=>zwr all kn kp rest ts|none=>none) kp ts)
  (λts=>match ts.put D o.dst (.tup []) with|some ts=>zwr all kn kp rest ts|none=>none)
def yyp (f:Nat):Bool:=tbl.any λe=>Nat.beq e.f f&&e.pure
def z04g (op:Op):Bool :=
 match op with
 | .alloc _| .box _ _| .store _ _ _| .makeMap _ _| .mapUpdate _ _ _ _| .insert _ _ _ _| .range _ _| .next _ _| .panic _=>false
 | .call c=>match c.callee with
   | .builtin .len| .builtin .min| .builtin .max=>true
   | .value (.func f)=>yyp D tbl f
   |_=>false
 |_=>true
def zgr {R:Type} (all:List Oper) (kn:TS D.T->Option R):List Oper->TS D.T->Option R
 |[],ts=>kn ts
 |o::rest,ts=>pOp o<|y74 D all o ts
  (λts=>match o.op with
   | .call c=>match c.callee with
     | .value x=>match ts.ev x,ts.evs c.args.toList with
       |some (.fn f a b),some vs=>(match (TV.y8w (a++vs++b)).find? (z00f ts) with
        |some _=>yxu D f (a++vs++b) ts (λv _=>match ts.put D o.dst v with|some ts=>zgr all kn rest ts|none=>none) (zsm D f (a++vs++b) ts (λv _=>match ts.put D o.dst v with|some ts=>zgr all kn rest ts|none=>none) (λ_ _=>none) (λ_=>none) (tbl.filter (·.pure))) tbl
        |none=>zsm D f (a++vs++b) ts (λv _=>match ts.put D o.dst v with|some ts=>zgr all kn rest ts|none=>none) (λ_ _=>none) (λ_=>none) (tbl.filter (·.pure)))
       |_,_=>none
     |_=>tP P D ts o.op (λv=>match ts.put D o.dst v with|some ts=>zgr all kn rest ts|none=>none) (λ_=>none)
   |_=>tPC P D all o (λv=>match ts.put D o.dst v with|some ts=>zgr all kn rest ts|none=>none) ts)
  (λts=>match ts.put D o.dst (.tup []) with|some ts=>zgr all kn rest ts|none=>none)
def yv7:List Oper->Nat
 |[]=>0
 |o::r=>if z04g D tbl o.op then yv7 r+1 else 0
def TV.yv2 {T:Nat->Type}:TV T->Bool
 | .any| .own _| .osl _ _| .map _| .bp _ _=>false
 |_=>true
def TV.isOwn {T:Nat->Type}:TV T->Bool
 | .own _=>true
 |_=>false
def z5g {T:Nat->Type} (ts:TS T) (s:Nat):Bool:=match fnd ts.o s with
 |some .gone=>false
 |some _=>true
 |none=>false
def yk7 {T:Nat->Type} (ts:TS T) (x:Operand):Option (List Nat):=match ts.ev x with
 |some v=>(match v.yv2 with
  |true=>some []
  |false=>none)
 |none=>none
def ownO {T:Nat->Type} (ts:TS T) (x:Operand):Option (List Nat):=match ts.ev x with
 |some (.own s)=>(match fnd ts.o s with
  |some (.acc _ _ _ _)=>some [s]
  |some (.deep _ _ _ _)=>some [s]
  |_=>none)
 |_=>yk7 ts x
def rdK {T:Nat->Type} (ts:TS T) (op:Op):Option (List Nat):=match op with
 | .load _ a=>(match ts.ev a with
   |some (.ptr s _)=>some [s]
   |some (.ap s _ _ _ _)=>some [s]
   |some (.ref _ _)=>some []
   |_=>none)
 | .indexAddr _ x _=>ownO ts x
 | .slice _ x _ _ _=>yk7 ts x
 | .call c=>(match c.callee,c.args.toList with
   | .builtin .len,[x]=>ownO ts x
   | .builtin .min,_=>some []
   | .builtin .max,_=>some []
   |_,_=>none)
 | .move _| .assign _| .pick _ _ _| .nilCheck _| .binOp _ _ _ _ _| .unOp _ _ _| .convert _ _ _| .makeInterface _ _| .makeFunc _ _ _| .fieldAddr _ _ _| .field _ _ _| .index _ _ _| .typeAssert _ _ _ _| .extract _ _| .build _ _| .buildSlice _ _ _=>some []
 |_=>none
def appW {T:Nat->Type} (nx:Nat):Option (TV T)->Option (TV T)->Option Nat
 |_,some (.bsl _ _)=>none
 |some (.sl _ _ _),_=>some nx
 |some .nils,_=>some nx
 |_,_=>none
def wrK {T:Nat->Type} (ts:TS T) (op:Op):Option Nat:=match op with
 | .alloc _=>some ts.nx
 | .box _ _=>some ts.nx
 | .store _ a _=>(match ts.ev a with
   |some (.ptr s _)=>some s
   |_=>none)
 | .call c=>(match c.callee,c.args.toList with
   | .builtin .append,[s,x]=>appW ts.nx (ts.ev s) (ts.ev x)
   |_,_=>none)
 |_=>none
abbrev Rds:=List (Nat×Option (List Nat))
abbrev Wrs:=List (Nat×Option Nat)
def z03x (all:List Oper) (i:Nat) (w:Option Nat) (rds:Rds):Bool:=rds.all λp=>ykx all p.1 i||(match p.2,w with
 |some [],_=>true
 |some R,some s=>R.all λq => !Nat.beq q s
 |_,_=>false)
def ykd (all:List Oper) (i:Nat) (wrs:Wrs):Bool:=wrs.all λp=>ykx all p.1 i
def rdOk (all:List Oper) (i:Nat) (R:List Nat) (wrs:Wrs):Bool:=wrs.all λp=>ykx all p.1 i||(match R,p.2 with
 |[],_=>true
 |R,some s=>R.all λq => !Nat.beq q s
 |_,_=>false)
def yi6 (w:Option Nat) (rds:Rds):Rds:=match w with
 |some _=>rds
 |none=>rds.map λp=>(p.1,match p.2 with|some []=>some []|_=>none)
def yi7 (w:Option Nat) (wrs:Wrs):Wrs:=match w with
 |some _=>wrs
 |none=>wrs.map λp=>(p.1,none)
def z038 (all:List Oper) (i:Nat) (rest:List Nat):Bool:=rest.all λj=>ykx all i j
def z01b (all:List Oper) (done:List Nat) (j:Nat):Bool := !done.any (Nat.beq j)&&(match all[j]? with
 |some o=>o.after.toList.all λe => !Region.binds .any e||done.any (Nat.beq e.on)
 |none=>false)
def sched (all:List Oper) (quiet:Op->Bool):Nat->List Nat->List Nat
 |0,_=>[]
 |n+1,done=>match (List.range all.length).find? λj=>z01b all done j&&(match all[j]? with|some o=>quiet o.op|none=>false) with
  |some j=>j::sched all quiet n (j::done)
  |none=>match (List.range all.length).find? λj=>z01b all done j with
   |some j=>j::sched all quiet n (j::done)
   |none=>[]
def z01f {T:Nat->Type} (all:List Oper) (i:Nat) (rds:Rds) (M:z5h T):Bool:=rds.all λp=>ykx all p.1 i||(match p.2 with
 |some R=>R.all λq=>M.all λm=>match m.2 with
  | .slot s => !Nat.beq q s
  | .nil=>true
 |none=>false)
def z018 {R:Type} (f:Nat) (vs:List (TV D.T)) (ts:TS D.T) (chk:z5h D.T->Bool) (k kp:TV D.T->TS D.T->Option R):Option R:=none
def y0u {R:Type} (f:Nat) (vs:List (TV D.T)) (ts:TS D.T) (chk:z5h D.T->Bool) (k kp:TV D.T->TS D.T->Option R):List (Ent D)->Option R
 |[]=>z018 D f vs ts chk k kp
 |e::r=>match Nat.beq e.f f with
  |false=>y0u f vs ts chk k kp r
  |true=>match e.fit D vs ts with
   | .ok (M,x)=>if chk M=true∧e.p<=e.aos.length∧e.p<=e.ros.length∧e.p<=e.pos.length∧(List.range e.p).all (λk=>match fnd M k with|some (.slot _)=>true|_=>false) then
       e.go x (λy=>k (y7x D (z4k D (zar D M e.p ts.nx) e.outs (HL.fst _ y))) (ze1 D M e.p ts.nx e.ren (zha D M e.p ts e.ros (HL.snd _ y))))
        (λy=>kp (zlk D (zar D M e.p ts.nx) e.pan (HL.fst _ y)) (zha D M e.p ts e.pos (HL.snd _ y)))
       else none
   |_=>y0u f vs ts chk k kp r
def z03t (τ:DTy):TV D.T->Option (List (τ.S D.T))
 | .nils=>some []
 | .sl t xs _=>zdf t τ xs
 |_=>none
def fl12 (n:Nat):Bool:=match n with
 |1=>true
 |2=>true
 |_=>false
def z008 {R:Type} (t u:Nat) (s x:TV D.T) (k:TV D.T->Option R):Option R :=
 match s with
 | .sl t' xs fl=>(match fl12 fl with
   |true=>(match P.underlying t,P.underlying u with
    |some (.slice e),some du=>(match P.info? e,D.ty e with
     |some i,some τ=>(match i.zero with
      |some z=>(match ztz du&&decide (0<i.size)&&decide (i.bytes<=524288)&&z.cells.size==i.size&&Nat.beq (D.len τ) i.size with
       |true=>(match zdf t' τ xs,z03t D τ x with
        |some xs,some ys=>z8g (ext xs ys) λzs=>k (.sl τ zs 0)
        |_,_=>none)
       |false=>none)
      |none=>none)
     |_,_=>none)
    |_,_=>none)
   |false=>none)
 |_=>none
def appB (op:Op):Bool:=match op with
 | .call c=>(match c.callee with
   | .builtin .append=>true
   |_=>false)
 |_=>false
def z04p (all:List Oper) (i:Nat):Bool:=(List.range all.length).any λj => !Nat.beq i j&&(match all[j]? with|some o=>ytb o.op|none=>false) && !ykx all i j && !ykx all j i
def zeq {R:Type} (all:List Oper) (kn:TS D.T->Option R) (kp:TV D.T->TS D.T->Option R):List Nat->Rds->Wrs->TS D.T->Option R
 |[],_,_,ts=>kn ts
 |i::rest,rds,wrs,ts=>match all[i]? with
 |none=>none
 |some o=>pOp o<|y74 D all o ts
  (λts=>match ytb o.op with
   |true=>(match appB o.op&&z04p all i with
    |true=>(match o.op with
     | .call c=>(match c.callee,c.args.toList,c.argTypes.toList with
       | .builtin .append,[s,x],[t,u]=>(match ts.ev s,ts.ev x with
         |some s,some x=>z008 P D t u s x (λv=>match ts.put D o.dst v with
          |some ts2=>zeq all kn kp rest ((i,some [])::rds) wrs ts2
          |none=>none)
         |_,_=>none)
       |_,_,_=>none)
     |_=>none)
    |false=>(match z03x all i (wrK ts o.op) rds&&ykd all i wrs with
    |true=>tOp P D ts o.op (λv ts'=>match ts'.put D o.dst v with
     |some ts2=>zeq all kn kp rest (yi6 (wrK ts o.op) rds) ((i,wrK ts o.op)::yi7 (wrK ts o.op) wrs) ts2
     |none=>none) (λ_=>none)
    |false=>none))
   |false=>(match rdK ts o.op with
    |some R=>(match rdOk all i R wrs&&R.all (z5g ts) with
     |true=>tP P D ts o.op (λv=>match ts.put D o.dst v with
      |some ts2=>zeq all kn kp rest ((i,some R)::rds) wrs ts2
      |none=>none) (λ_=>none)
     |false=>none)
    |none=>(match o.op with
     | .call c=>(match c.callee with
       | .value x=>(match ts.ev x,ts.evs c.args.toList with
         |some (.fn f a b),some vs=>(match yyp D tbl f && !vs.any TV.isOwn with
          |true=>zsm D f (a++vs++b) ts (λv _=>match ts.put D o.dst v with
           |some ts2=>zeq all kn kp rest ((i,some [])::rds) wrs ts2
           |none=>none) (λ_ _=>none) (λ_=>none) (tbl.filter (·.pure))
          |false=>(match z038 all i rest&&ykd all i wrs with
           |true=>y0u D f (a++vs++b) ts (z01f all i rds) (λv ts'=>match ts'.put D o.dst v with
            |some ts2=>zeq all kn kp rest (yi6 none rds) ((i,none)::yi7 none wrs) ts2
            |none=>none) (λz ts'=>kp z {ts' with t:=[]}) (tbl.filter λe => !e.pure)
           |false=>none))
         |_,_=>none)
       |_=>none)
     |_=>none)))
  (λts=>match ts.put D o.dst (.tup []) with
   |some ts2=>zeq all kn kp rest ((i,some [])::rds) wrs ts2
   |none=>none)
noncomputable def y2j {R:Type} (ops:Array Oper) (draw:Bool) (ts:TS D.T) (kn:TS D.T->Option R) (kp:TV D.T->TS D.T->Option R):Option R :=
 if draw then
  let n:=yv7 D tbl ops.toList
  if P.follows .mixedOrders then
   (if n=ops.size then (if Region.lexB .any ops then zgr P D tbl ops.toList kn ops.toList ts else none)
   else (if Region.lexTailB .any ops n then zgr P D tbl ops.toList (λts=>zwr P D tbl ops.toList kn kp (ops.toList.drop n) ts) (ops.toList.take n) ts
   else (let l:=sched ops.toList (λop => !ytb op&&(match op with| .call c=>(match c.callee with| .value (.func f)=>yyp D tbl f| .value _=>false|_=>true)|_=>true)) ops.size []
    if y1l .any ops l (Array.replicate ops.size false)&&Nat.beq l.length ops.size&&(List.range ops.size).all (λj=>l.any (Nat.beq j)) then zeq P D tbl ops.toList kn kp l [] [] ts else none)))
  else none
 else zwr P D tbl ops.toList kn kp ops.toList ts
end
inductive AC where
 |skip
 |region (id:Nat) (ops:Array Oper) (draw:Bool)
 |seq (a b:AC)
 |cond (c:Operand) (a b:AC)
 |block (id:Nat) (a:AC)
 |loop (a:AC)
 |exit (id:Nat)
 |ret
 |lab (l:Nat) (a:AC)
 |other (c:Code)
def AC.erase:AC->Code
 | .skip=>.skip
 | .region id ops d=>.region id ops d
 | .seq a b=>.seq a.erase b.erase
 | .cond c a b=>.cond c a.erase b.erase
 | .block id a=>.block id a.erase
 | .loop a=>.loop a.erase
 | .exit id=>.exit id
 | .ret=>.ret
 | .lab _ a=>a.erase
 | .other c=>c
def y3y (f:List (Nat×Nat)) (i:Nat) (a:AC):AC :=
 match fnd f i with
 |some l=>.lab l a
 |none=>a
def ann (f:List (Nat×Nat)):Code->Nat->AC×Nat
 | .skip,i=>(y3y f i .skip,i+1)
 | .region id ops d,i=>(y3y f i (.region id ops d),i+1)
 | .seq a b,i=>
   let x:=ann f a (i+1)
   let y:=ann f b x.2
   (y3y f i (.seq x.1 y.1),y.2)
 | .cond c a b,i=>
   let x:=ann f a (i+1)
   let y:=ann f b x.2
   (y3y f i (.cond c x.1 y.1),y.2)
 | .block id a,i=>
   let x:=ann f a (i+1)
   (y3y f i (.block id x.1),x.2)
 | .loop a,i=>
   let x:=ann f a (i+1)
   (y3y f i (.loop x.1),x.2)
 | .exit id,i=>(y3y f i (.exit id),i+1)
 | .ret,i=>(y3y f i .ret,i+1)
 |c,i=>(.other c,i+1)
structure Lb (D:Dat) (R:Type) where
 sh:LSh
 go:HL D.T sh.tys->Option R
def jump (D:Dat) {R:Type} (zk9:List (Nat×Lb D R)) (l:Nat) (ts:TS D.T):Option R :=
 match fnd zk9 l with
 |some lb=>lb.sh.enter D lb.go 9 ts
 |none=>none
structure Ks (T:Nat->Type) (R:Type) where
 kn:TS T->Option R
 kx:List (Nat×(TS T->Option R))
 kr:TS T->Option R
 kp:TV T->TS T->Option R
section
variable (P : Program) (D : Dat) (tbl : List (Ent D)) {R : Type} (J : Nat → TS D.T → Option R)
def preS:List Oper->TS D.T->Option Nat
 |[],_=>none
 |o::r,ts=>match o.op with
  | .slice _ x _ _ _=>(match ts.ev x with
    |some (.own k)=>(match fnd ts.o k with
     |some (.deep _ _ _ _)=>some k
     |_=>none)
    |_=>none)
  | .buildSlice _ _ _=>preS r ts
  | .fieldAddr _ _ _| .load _ _| .move _=>(match tP1 P D ts o.op with
    | .ok v=>(match ts.put D o.dst v with
      |some ts=>preS r ts
      |none=>none)
    |_=>none)
  |_=>none
def pre (ops:Array Oper) (d:Bool) (ts:TS D.T):TS D.T:=match d with
 |true=>(match preS P D ops.toList ts with
  |some s=>(match ts.freeze D s with
   |some ts'=>ts'
   |none=>ts)
  |none=>ts)
 |false=>ts
noncomputable def run:AC->TS D.T->Ks D.T R->Option R
 | .skip,ts,K=>K.kn ts
 | .region _ ops d,ts,K=>y2j P D tbl ops d (pre P D ops d ts) K.kn K.kp
 | .seq a b,ts,K=>run a ts {K with kn:=λts=>run b ts K}
 | .cond c a b,ts,K=>match ts.ev c with
   |some (.bool v)=>(match c with
    | .tmp t=>pIf v (run a {ts with t:=(t,.bool true)::ts.t} K) (run b {ts with t:=(t,.bool false)::ts.t} K)
    |_=>pIf v (run a ts K) (run b ts K))
   |_=>none
 | .block id a,ts,K=>run a ts {K with kx:=(id,K.kn)::K.kx}
 | .loop _,_,_=>none
 | .exit id,ts,K=>match fnd K.kx id with
   |some k=>k ts
   |none=>none
 | .ret,ts,K=>K.kr ts
 | .lab l _,ts,_=>J l ts
 | .other _,_,_=>none
noncomputable def z000 (l:Nat) (a:AC) (K:Ks D.T R):TS D.T->Option R:=λts=>
 match a with
 | .loop b=>run P D tbl J b ts {K with kn:=J l}
 |a=>run P D tbl J a ts K
noncomputable def AC.at (l:Nat):AC->Ks D.T R->(TS D.T->Option R)->Option (TS D.T->Option R)
 | .seq a b,K,_=>match AC.at l a {K with kn:=λts=>run P D tbl J b ts K} (λ_=>none) with
   |some x=>some x
   |none=>AC.at l b K (λ_=>none)
 | .cond _ a b,K,_=>match AC.at l a K (λ_=>none) with
   |some x=>some x
   |none=>AC.at l b K (λ_=>none)
 | .block id a,K,_=>AC.at l a {K with kx:=(id,K.kn)::K.kx} (λ_=>none)
 | .loop a,K,kl=>AC.at l a {K with kn:=kl} (λ_=>none)
 | .lab l' a,K,_=>match Nat.beq l' l with
   |true=>some (z000 P D tbl J l' a K)
   |false=>AC.at l a K (J l')
 |_,_,_=>none
end
def yw9 {α:Type}:List α->Nat->List (Nat×α)
 |[],_=>[]
 |a::l,k=>(k,a)::yw9 l (k+1)
def entry (D:Dat) (args:List Sh) (aos:List OSh) (nt:Nat) (gs:List Nat) (x:HL D.T (Sh.z88 args++z8b aos)):TS D.T :=
 ⟨yw9 (z4k D (λk=>k) args (HL.fst _ x)) 0,z9d D (λk=>k) aos 0 (HL.snd _ x),aos.length,nt,[],gs.map some⟩
def yn8 (P:Program) (D:Dat) (ts:TS D.T):List ResultVar->Option (List (TV D.T))
 |[]=>some []
 | .tmp t::rs=>match fnd ts.t t,yn8 P D ts rs with
   |some v,some vs=>some (v::vs)
   |_,_=>none
 | .cell a t::rs=>match fnd ts.t a with
   |some p=>match yvb P D ts t p,yn8 P D ts rs with
    |some v,some vs=>some (v::vs)
    |_,_=>none
   |none=>none
def yph {R:Type} (D:Dat) (l:LSh) (pack:HL D.T l.tys->R):Ks D.T R :=
 ⟨l.enter D (λx=>some (pack x)) 9,[],l.enter D (λx=>some (pack x)) 9,λ_ _=>none⟩
section
variable (D : Dat)
def yvp:Option Sh->List DTy
 |none=>[]
 |some s=>s.tys
structure yxy where
 f:Nat
 args:List Sh
 aos:List OSh
 m:Option Sh
 ros:List OSh
 go:HL D.T (Sh.z88 args++z8b aos)->HL D.T (yvp m)->Option (HL D.T (z8b ros))
def yxy.ent (de:yxy D):Ent D:={f:=de.f,p:=de.aos.length,args:=de.args,aos:=de.aos,outs:=[],ros:=de.ros,pan:=.nilp,pos:=[],pure:=false,go:=λ_ _ _=>none}
end
end Go.Ab
