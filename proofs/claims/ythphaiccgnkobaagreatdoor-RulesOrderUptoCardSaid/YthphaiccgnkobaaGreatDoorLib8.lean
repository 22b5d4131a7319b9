/-
  THE TYPED MACHINE: regions.
-/
import Derived.Test.YthphaiccgnkobaaGreatDoorLib7
namespace Go.Ab
open Go
set_option linter.unusedVariables false
set_option linter.unusedSimpArgs false
set_option linter.unusedSectionVars false
section
variable {P : Program} {D : Dat} {F : Fr} {ρ : List Slot} {ts : TS D.T} {σ : St} {lv : Nat}
variable (hD : D.Ok P)
include hD
omit hD in
theorem yjw{T:Nat->Type}{nx:Nat}{a b:Option (TV T)}(h:¬appW nx a b=none):appW nx a b=some nx∧∀q,a≠some (.own q):=by
 unfold appW at h ⊢;split at h;exact(h rfl).elim;exact⟨rfl,λq e=>by cases e⟩;exact⟨rfl,λq e=>by cases e⟩;exact(h rfl).elim
omit hD in
theorem yiw{ops:Array Oper}{k:Nat}{σ τ:St}{Q:zz8->St->Prop}(hw:zhe σ τ)(h:zai P ops k τ Q):zai P ops k σ Q:=λW0 g0 H0 W a g hB hS hG=>by
 obtain⟨g',h1,h2⟩:=hw W0 g0 H0 W a g hB hS hG;exact h W0 g0 H0 W a g' hB h1 h2
omit hD in
theorem zfj{ops:Array Oper}{k:Nat}{o:Oper}(ho:ops[k]? = some o):(ops.toList.drop k).take 1=[o]:=by
 have hk:k<ops.size:=by
  rcases Nat.lt_or_ge k ops.size with q|q
  exact q;rw[Array.getElem?_eq_none q]at ho;cases ho
 have hk':k<ops.toList.length:=by simpa using hk
 rw[<-Qah (h:=hk')]
 have:ops.toList[k]=o:=by
  have h2:ops.toList[k]? = some o:=by simpa using ho
  rw[Qab hk']at h2;injection h2
 simp[this]
omit hD in
theorem y9z{ops:Array Oper}{k:Nat}{σ:St}{Q:zz8->St->Prop}{o:Oper}{v:V}{H':Heap}(ho:ops[k]? = some o)(hw:zzt ops σ o=some true)(hox:ox P σ.H σ.ev o.op=some (v,H'))(h:zai P ops (k+1) ({σ with H:=H'}.put o.dst v) Q):zai P ops k σ Q :=
 zqm 1 [] ({σ with H:=H'}.put o.dst v) [] (by rw[zfj ho];simp[zt7,hw,hox]) zn4 h
omit hD in
theorem yjz{ops:Array Oper}{k:Nat}{σ:St}{Q:zz8->St->Prop}{o:Oper}(ho:ops[k]? = some o)(hw:zzt ops σ o=some false)(h:zai P ops (k+1) (σ.put o.dst (.tup [])) Q):zai P ops k σ Q :=
 zqm 1 [] (σ.put o.dst (.tup [])) [] (by rw[zfj ho];simp[zt7,hw]) zn4 h
omit hD in
theorem yfc{ops:Array Oper}{k:Nat}{σ:St}{Q:zz8->St->Prop}{o:Oper}{c:Call}{f:Nat}{args:List V}{v:V}(ho:ops[k]? = some o)(hw:zzt ops σ o=some true)(hop:o.op = .call c)(hcal:∃x,c.callee = .value x)(ht:target σ.ev c=some (f,args))(hc:zsi P f args σ.H v σ.H)
  (h:zai P ops (k+1) (σ.put o.dst v) Q):zai P ops k σ Q:=by
 refine zqm 1 [(v,none)] (σ.put o.dst v) [⟨f,args,σ.H,v,σ.H⟩] ?_ (zje hc zn4) h;obtain⟨x,hx⟩:=hcal;have hox:ox P σ.H σ.ev o.op=none:=by rw[hop];simp only[ox,hx,z8i,Option.map_none]
 rw[zfj ho];rw[hop]at hox;simp only[zt7,hw,if_true,hop,hox,ht,Option.getD_none]
omit hD in
theorem ygh{ops:Array Oper}{k:Nat}{σ:St}{Q:zz8->St->Prop}{o:Oper}{c:Call}{f:Nat}{args:List V}{v:V}(ho:ops[k]? = some o)(hw:zzt ops σ o=some true)(hop:o.op = .call c)(hcal:∃x,c.callee = .value x)(ht:target σ.ev c=some (f,args))(hc:zjt P f args v)
  (h:zai P ops (k+1) (σ.put o.dst v) Q):zai P ops k σ Q:=by
 refine zqm 1 [(v,none)] (σ.put o.dst v) [⟨f,args,σ.H,v,σ.H⟩] ?_ (zje (hc σ.H) zn4) h;obtain⟨x,hx⟩:=hcal;have hox:ox P σ.H σ.ev o.op=none:=by rw[hop];simp only[ox,hx,z8i,Option.map_none]
 rw[zfj ho];rw[hop]at hox;simp only[zt7,hw,if_true,hop,hox,ht,Option.getD_none]
omit hD in
def zpn(ops:Array Oper)(ts:TS D.T)(o:Oper):Prop:=o.guard=none∨∃j want d,o.guard=some (j,want)∧(ops[j]?).bind (·.dst)=some d∧fnd ts.t d=some (.bool want)
omit hD in
theorem TRr.tmp(hR:TRr D F ρ ts σ){d:Nat}{x:TV D.T}(h:fnd ts.t d=some x):VR D ρ F.lv x (σ.t.getD d .any):=hR.ev (o:=.tmp d) h
omit hD in
theorem zpn.wanted(hR:TRr D F ρ ts σ){ops:Array Oper}{o:Oper}(h:zpn ops ts o):zzt ops σ o=some true:=by
 unfold zzt
 rcases h with h|⟨j,want,d,h1,h2,h3⟩
 rw[h];have:=hR.tmp h3;simp only[VR]at this;rw[h1];simp only[h2,this,beq_self_eq_true]
omit hD in
theorem zpn.freeze{ops:Array Oper}{o:Oper}(h:zpn ops ts o){s:Nat}{ts':TS D.T}(hf:ts.freeze D s=some ts'):zpn ops ts' o:=by
 rcases h with h|⟨j,want,d,h1,h2,h3⟩
 exact .inl h
 ·refine .inr ⟨j,want,d,h1,h2,?_⟩;unfold TS.freeze at hf;split at hf;rename_i ty t xs w _ ho;injection hf with hf;subst hf;simp only[TS.z9k];rw[zh2 (TV.frz D s false (.sl t xs 0)),h3];rfl;rename_i ty q xs _ ho;injection hf with hf;subst hf;simp only[TS.z9k];rw[zh2 (TV.frz D s false (.sl (.st q) xs 0)),h3];rfl
  ·rename_i ty t es _ ho;split at hf
   case isFalse=>cases hf
   injection hf with hf;subst hf;simp only[TS.z9k];rw[zh2 (TV.frz D s true (.mc t es)),h3];rfl
  cases hf
omit hD in
theorem zpn.ren{ops:Array Oper}{o:Oper}{ts':TS D.T}(h:zpn ops ts o){s s':Nat}(ht:ts'.t=ts.t.map λp=>(p.1,TV.ren D s s' p.2)):zpn ops ts' o:=by
 rcases h with h|⟨j,want,d,h1,h2,h3⟩
 exact .inl h;refine .inr ⟨j,want,d,h1,h2,?_⟩;rw[ht,zh2 (TV.ren D s s'),h3];rfl
omit hD in
theorem zqt(hR:TRr D F ρ ts σ){c:Call}{x:Operand}{f:Nat}{a b vs:List (TV D.T)}(hc:c.callee = .value x)(h1:ts.ev x=some (.fn f a b))(h2:ts.evs c.args.toList=some vs):∃args,target σ.ev c=some (f,args)∧VRL D ρ F.lv (a++vs++b) args:=by
 have hx:=hR.ev h1;simp only[VR]at hx;obtain⟨as,bs,e1,e2,e3⟩:=hx;exact⟨as++c.args.toList.map σ.ev++bs,by simp only[target,hc,e1],(e2.append (hR.evs h2)).append e3⟩
variable {tbl : List (Ent D)}
omit hD in
theorem y28{W:World}{a:Act}{g:Gh}{c:Call}{f:Nat}{args:List V}{ty:TypeId}(hρ:∀x,Rel W g σ.H (σ.ev x) (a.eval x))(h:target σ.ev c=some (f,args)) :
  ∃caps as,zgc W g σ.H args (as++caps)∧∀w:World,(resolve a.eval c ty).run P w = .ok ⟨.fn (.func f) caps,as⟩ w:=by
 unfold target at h;split at h;rename_i fo hc;split at h;rename_i f' first caps hf;injection h with h;injection h with h1 h2;subst h1;subst h2;have hr:=hρ fo;rw[hf]at hr;generalize hrc:a.eval fo=rc at hr
 cases hr with
 |fn _ _ _ fs cs n1 n2 r1 r2=>
  refine⟨cs,fs++c.args.map a.eval,zkc (zkc ⟨n1,r1⟩ (zq1 hρ c.args)) ⟨n2,r2⟩,λw =>?_⟩;simp[resolve,hc,hrc,Deferred.ofValue]
 cases h;cases h
omit hD in
theorem ydt{ops:Array Oper}{k:Nat}{σ:St}{Q:zz8->St->Prop}{o:Oper}{c:Call}{f:Nat}{args:List V}(ho:ops[k]? = some o)(hw:zzt ops σ o=some true)(hop:o.op = .defer c)(ht:target σ.ev c=some (f,args))(hfm:f<zfp)
  (h:zai P ops (k+1) ({σ with d:=(f,args)::σ.d}.put o.dst .any) Q):zai P ops k σ Q:=λW0 g0 H0 W a g hB hS hG=>by
 have hk:k<ops.size:=by
  rcases Nat.lt_or_ge k ops.size with q|q
  exact q;rw[Array.getElem?_eq_none q]at ho;cases ho
 rw[show ops.size-k=(ops.size-(k+1))+1 by omega,List.range'_succ];simp only[wpOps,ho];rw[kzx hG hw,Qbx rfl];left;unfold Oper.wp;obtain⟨caps,as,k1,k2⟩:=y28 (P:=P) (ty:=o.type) hG.ev ht
 have hex:(execOp a.eval o).run P W = .ok (.defer ⟨.fn (.func f) caps,as⟩) W:=by
  unfold execOp;rw[hop];simp[k2 W]
 rw[hex]
 have hG2:zz9 W {a with defers:=⟨.fn (.func f) caps,as⟩::a.defers} g {σ with d:=(f,args)::σ.d}:=by
  refine⟨hG.good,hG.size,hG.tmps,by simp[hG.dlen],λj f' vs hj =>?_⟩
  cases j with
  |zero=>simp at hj;obtain⟨rfl,rfl⟩:=hj;exact .inl ⟨hfm,caps,as,rfl,k1⟩
  |succ j=>exact hG.defs j f' vs (by simpa using hj)
 have hG3:=hG2.next (.refl _ _ _) hG.good (.any undef) o.dst;have hH:({σ with d:=(f,args)::σ.d}.put o.dst .any).H=σ.H:=by cases o.dst <;> rfl
 have he:({σ with d:=(f,args)::σ.d}.put o.dst .any).e0=σ.e0:=by cases o.dst <;> rfl
 exact h W0 g0 H0 W _ g hB (by rw[hH,he];exact hS) hG3
omit hD in
theorem zf1{ops:Array Oper}{k:Nat}{σ:St}{Q:zz8->St->Prop}{o:Oper}{v:V}{H':Heap}(ho:ops[k]? = some o)(hw:zzt ops σ o=some true)
  (ht:∀W a g,zz9 W a g σ->z5i P W g σ.H (execOp a.eval o) v H') (h:zai P ops (k+1) ({σ with H:=H'}.put o.dst v) Q):zai P ops k σ Q:=λW0 g0 H0 W a g hB hS hG=>by
 have hk:k<ops.size:=by
  rcases Nat.lt_or_ge k ops.size with q|q
  exact q;rw[Array.getElem?_eq_none q]at ho;cases ho
 rw[show ops.size-k=(ops.size-(k+1))+1 by omega,List.range'_succ];simp only[wpOps,ho];rw[kzx hG hw,Qbx rfl];left;unfold Oper.wp;obtain⟨c,W',g',h1,h2,h3,h4⟩:=ht W a g hG;have hn:=hG.next h2 h3 h4 o.dst;have hH:({σ with H:=H'}.put o.dst v).H=H':=by cases o.dst <;> rfl
 have he:({σ with H:=H'}.put o.dst v).e0=σ.e0:=by cases o.dst <;> rfl
 have fin:=h W0 g0 H0 W' (a.put o.dst c) g' hB (by rw[hH,he];exact⟨hS.1,hS.2.trans h2⟩) hn
 rcases h1 with h1|⟨h1,rfl⟩
 rw[h1];exact fin;rw[h1];exact fin
omit hD in
theorem TRr.defer(hR:TRr D F ρ ts σ){f:Nat}{xs:List (TV D.T)}{args:List V}(h:VRL D ρ F.lv xs args):TRr D F ρ {ts with d:=(f,xs)::ts.d} {σ with d:=(f,args)::σ.d} :=
 ⟨hR.nx,hR.nt,hR.tm,hR.ob,hR.inj,hR.mine,hR.lv,hR.E,hR.e0,⟨args,σ.d,rfl,h,hR.d⟩,hR.out,hR.pin,hR.fpl,hR.g⟩
omit hD in
theorem zws:∀(xs:List Int) (ws:List V),ws.length=xs.length->(∀(j:Nat) (x:Int) (w:V),xs[j]? = some x->ws[j]? = some w->DR D (.int .u8) x w)->zgm ws=yat xs
 |[],ws,hl,h=>by obtain rfl:ws=[]:=Qao hl;rfl
 |x::xs,[],hl,h=>by simp at hl
 |x::xs,w::ws,hl,h=>by
  have h0:=h 0 x w rfl rfl;have ih:=zws xs ws (by simpa using hl) λj y u hy hu=>h (j+1) y u (by simpa using hy) (by simpa using hu)
  cases h0;simp only[zgm,yat,ih]
  cases x with
  |ofNat m=>cases yat xs <;> rfl
  |negSucc m=>cases yat xs <;> rfl
omit hD in
theorem yjj{α:Type}(es:List α):es.Perm (((List.range es.length).filter λq => !([]:List Nat).contains q).filterMap λq=>es[q]?):=by
 have h1:((List.range es.length).filter λq => !([]:List Nat).contains q)=List.range es.length:=by simp
 rw[h1]
 have h2:(List.range es.length).filterMap (λq=>es[q]?)=es:=by
  apply List.ext_getElem?;intro n
  have:∀(l:List Nat),(∀q∈l,q<es.length)->(l.filterMap λq=>es[q]?)[n]? = (l[n]?).bind λq=>es[q]? := by
   intro l
   induction l generalizing n with
   |nil=>simp
   |cons a l ih=>
    intro hl;have ha:=hl a (by simp);rw[List.filterMap_cons,Qab ha]
    cases n with
    |zero=>simp[ha]
    |succ n=>simpa using ih n λq hq=>hl q (by simp[hq])
  rw[this _ (by simp)];by_cases hn:n<es.length;simp[hn];simp[hn]
 rw[h2]
omit hD in
theorem yj2{α:Type}{es fs:List α}{vis:List Nat}{j:Nat}{p:α}(h:es.Perm (((List.range fs.length).filter λq => !vis.contains q).filterMap λq=>fs[q]?))(hj:fs[j]? = some p)(hn:j∉vis) :
  ∃m:Nat,es[m]? = some p∧(es.eraseIdx m).Perm (((List.range fs.length).filter λq => !(vis++[j]).contains q).filterMap λq=>fs[q]?):=by
 have hlt:=(Qaa.1 hj).1;have hmem:j∈(List.range fs.length).filter λq => !vis.contains q:=by simp[hlt,hn]
 have hnd:((List.range fs.length).filter λq => !vis.contains q).Nodup:=List.nodup_range.filter _
 have he:((List.range fs.length).filter λq => !(vis++[j]).contains q)=((List.range fs.length).filter λq => !vis.contains q).erase j:=by
  rw[hnd.erase_eq_filter,List.filter_filter];refine List.filter_congr λq _ =>?_
  by_cases e:q=j;subst e;simp;simp[e,bne]
 have hp:=(List.perm_cons_erase hmem).filterMap λq=>fs[q]?
 rw[List.filterMap_cons,hj]at hp;have hp2:=h.trans hp;have hm:p∈es:=hp2.mem_iff.2 (by simp);obtain⟨m,hm⟩:=List.mem_iff_getElem?.1 hm;refine⟨m,hm,?_⟩;rw[he];have hml:=(Qaa.1 hm).1
 have h1:es.Perm (p::es.eraseIdx m):=by
  have hpm:es[m]=p:=by have:=hm;rw[Qab hml]at this;injection this
  have h2:es=es.take m++p::es.drop (m+1):=by
   conv=>lhs;rw[<-List.take_append_drop m es]
   rw[List.drop_eq_getElem_cons hml,hpm]
  rw[List.eraseIdx_eq_take_drop_succ]
  conv=>lhs;rw[h2]
  exact List.perm_middle
 exact(List.perm_cons p).1 (h1.symm.trans hp2)
omit hD in
theorem yjp{α R:Type}{es:List (B8×α)}{f:B8->α->List (B8×α)->Option R}{g:Option R}{r:R}(h:zxw es f g=some r)(he:es=[]):g=some r:=by
 subst he;exact h
omit hD in
theorem yke{α R:Type}{es:List (B8×α)}{f:B8->α->List (B8×α)->Option R}{g:Option R}{r:R}(h:zxw es f g=some r)(m:Nat)(p:B8×α)(hm:es[m]? = some p):f p.1 p.2 (es.eraseIdx m)=some r:=by
 match es,h,hm with
 |[],h,hm=>simp at hm
 |[e],h,hm=>
  cases m with
  |zero=>obtain rfl:e=p:=by simpa using hm
         exact h
  |succ m=>simp at hm
 |e::e'::l,h,hm=>
  simp only[zxw]at h;split at h;rename_i hz;injection h with h;rw[<-h];exact hz.choose_spec m p hm;cases h
omit hD in
theorem yln{α R:Type}{es:List (B8×α)}{f:B8->α->List (B8×α)->Option R}{g:Option R}{r:R}(h0:es=[]->g=some r)(h1:∀(m:Nat) (p:B8×α),es[m]? = some p->f p.1 p.2 (es.eraseIdx m)=some r):zxw es f g=some r:=by
 match es,h0,h1 with
 |[],h0,h1=>exact h0 rfl
 |[e],h0,h1=>exact h1 0 e rfl
 |e::e'::l,h0,h1=>
  have hz:∃z,∀i p,(e::e'::l)[i]? = some p->f p.1 p.2 ((e::e'::l).eraseIdx i)=some z:=⟨r,h1⟩;simp only[zxw];rw[dif_pos hz];have a:=hz.choose_spec 0 e rfl;rw[h1 0 e rfl]at a;exact a.symm
omit hD in
theorem VR.ynm{t:DTy}(hf:t.flat=true)(x:t.S D.T):VR D ρ lv (D.leaf t x) (zyj t x).v:=by
 cases t <;> first|(cases hf;done)|(simp only[Dat.leaf,VR];rfl)
theorem zmi{R:Type}{ops:Array Oper}{n:Nat}{o:Oper}{Q:zz8->St->Prop}{k kp:TV D.T->TS D.T->Option R}{r:R}(ho:ops[n]? = some o)(htbl:∀e∈tbl,e.Ok P)
  (hk:∀z ts' σ' ρ' v,TRr D F ρ' ts' σ'->VR D ρ' F.lv z v->k z ts'=some r->zai P ops (n+1) (σ'.put o.dst v) Q)
  (hkp:∀z ts' σ' ρ' v,TRr D F ρ' ts' σ'->VR D ρ' F.lv z v->kp z ts'=some r->Q (.panic v) σ'):∀(fuel:Nat) {ts:TS D.T}{σ:St}{ρ:List Slot},TRr D F ρ ts σ->zpn ops ts o->y49 P D tbl o.op k kp fuel ts=some r->zai P ops n σ Q
 |0,ts,σ,ρ,hR,hw,h=>by simp[y49]at h
 |fuel+1,ts,σ,ρ,hR,hw,h=>by
  have hkf:∀s,(match isHole ts s with|true=>ts.fold D (y0u 9 ts s) (λts'=>y49 P D tbl o.op k kp fuel ts')|false=>(match ts.freeze D s with|some ts'=>y49 P D tbl o.op k kp fuel ts'|none=>none))=some r->zai P ops n σ Q:=λs hs=>by
   cases hhole:isHole ts s with
   |true=>
    rw[hhole]at hs;obtain⟨ts',ρ',h1,h2,h3,_⟩:=y3q hD hR hs
    exact zmi ho htbl hk hkp fuel h1 (hw.ren h3) h2
   |false=>
   rw[hhole]at hs
   cases hf:ts.freeze D s with
   |none=>rw[hf]at hs;cases hs
   |some ts'=>
    rw[hf]at hs;obtain⟨τ,h1,h2⟩:=zu9 hD hR hf;exact yiw h1 (zmi ho htbl hk hkp fuel h2 (hw.freeze hf) hs)
  have hop:∀{kf:Nat->Option R},(∀s,kf s=some r->zai P ops n σ Q)->tOp P D ts o.op k kf=some r->zai P ops n σ Q:=λ{kf} hkf h=>by
   rcases y87 hD hR h with ⟨z,ts',v,H',ρ',h1,h2,h3,h4⟩|⟨s,hs⟩
   exact y9z ho (hw.wanted hR) h1 (hk z ts' _ ρ' v h3 h2 h4);exact hkf s hs
  unfold y49 at h;simp only at h;split at h;rename_i t a hc;split at h;rename_i s i off ha
  rcases y9j hD hR h (hR.ev ha)with ⟨z,v,ts',ρ',h1,h2,h3,h4⟩|⟨s,hs⟩
  exact y9z ho (hw.wanted hR) (by rw[hc];exact yco (op:=.load t a) h1) (hk z ts' σ ρ' v h3 h2 h4);exact hkf s hs;exact hop hkf h;rename_i c hc;split at h;rename_i x hcal;split at h;rename_i f a b vs hx hvs;obtain⟨args,t1,t2⟩:=zqt hR hcal hx hvs
  have hcall:znw D f (a++vs++b) ts k kp _ tbl=some r->zai P ops n σ Q:=λh=>by
   rcases zga hD hR t2 htbl h with ⟨_,Post,h1,h2,h3⟩|⟨rv,h1,z,ρ',ts',h2,h3,h4,_⟩|⟨s,hs⟩
   refine yku ho (hw.wanted hR) hc t1 h1 (λrv H' hp =>?_) λv H' hp =>?_
   obtain⟨z,ts',ρ',k1,k2,k3⟩:=h2 rv H' hp;exact hk z ts' _ ρ' rv k2 k1 k3;obtain⟨z,ts',ρ',k1,k2,k3⟩:=h3 v H' hp;exact hkp z ts' _ ρ' v k2 k1 k3;exact ygh ho (hw.wanted hR) hc ⟨x,hcal⟩ t1 h1 (hk z ts' σ ρ' rv h3 (h2 _) h4);exact hkf s hs
  split at h;split at h;rename_i s _;exact hkf s h
  rcases zmw hD hR t2 htbl h with ⟨rv,z,h1,h2,h3⟩|h
  exact yfc ho (hw.wanted hR) hc ⟨x,hcal⟩ t1 h1 (hk z ts σ ρ rv hR h2 h3);exact hcall h;exact hcall h;cases h;exact hop hkf h;rename_i x hc;split at h;rename_i t v hx;have hv:=hR.ev hx;simp only[VR]at hv;obtain⟨u,e1,e2⟩:=hv;exact yf1 ho (hw.wanted hR) hc e1 (hkp _ ts σ ρ _ hR (by simp only[VR];exact⟨u,rfl,e2⟩) h);cases h
  ·rename_i c hc;split at h
   ·rename_i x hcal;split at h
    ·rename_i f a b vs hx hvs;split at h
     case h_2=>cases h
     rename_i hfm;have hfm:f<zfp:=by rw[Nat.blt_eq]at hfm;exact hfm
     obtain⟨args,t1,t2⟩:=zqt hR hcal hx hvs;exact ydt ho (hw.wanted hR) hc t1 hfm (hk .any _ _ ρ .any (hR.defer t2) (by simp only[VR]) h)
    cases h
   cases h
  rename_i bo t x y ty hc;split at h;rename_i hx hy;split at h;rename_i hi hu;have h1:=hR.ev hx;have h2:=hR.ev hy;simp only[VR]at h1 h2
  have zn6:∀{b:Bool},zwj P bo t x y .nili .nili=some (.bool b)->k (.bool b) ts=some r->zai P ops n σ Q:=λ{b} hb hkk=>by
   refine zf1 ho (hw.wanted hR) (λW a g hG=>zn7 hG.good hG.ev (v:=.bool b) (H':=σ.H) ?_) (hk (.bool b) ts _ ρ (.bool b) hR (by simp only[VR]) hkk);rw[hc];simp only[zlv,hEq2,h1,h2,hb,Qbr]
  split at h;exact zn6 (by simp only[zwj,hi,hu]) h;exact zn6 (by simp only[zwj,hi,hu]) h;cases h;cases h;exact hop hkf h;rename_i t hc;split at h;rename_i i hz hi;split at h;rename_i hb;simp only[Qag]at hb;have hsz:i.size=2:=Qaj hb.2
  have hm:zlv P σ.H σ.ev o.op=some (.ap σ.H.lv σ.H.L.length 0 0 0,σ.H.push (.arr 0 t 2 [.agg [.nilp,.nils]] (some 1))):=by
   rw[hc];simp only[zlv,hb.1,y0q,hz,hi,hsz];rfl
  refine zf1 ho (hw.wanted hR) (λW a g hG=>zn7 hG.good hG.ev hm) (hk (.bp ts.nx 0) _ _ (ρ++[⟨.any,some σ.H.L.length,[],[]⟩]) _ ?_ ?_ h);refine hR.new _ _ _ hR.lv hR.E (by simp[Heap.push]) (λi hi=>by simp only[Heap.push];rw[Qal hi]) (λi hi=>by injection hi with hi;omega) ?_;simp only[OR];exact⟨σ.H.L.length,.nilp,.nils,rfl,by simp[Heap.push],.inl rfl,by simp only[yan,VR]⟩
  simp only[VR];exact⟨⟨.any,some σ.H.L.length,[],[]⟩,σ.H.L.length,by rw[<-hR.nx];simp,rfl,by rw[hR.lv]⟩;exact hop hkf h;exact hop hkf h;rename_i s d x hc;split at h;rename_i xs fl hx;split at h;rename_i e hus hud;split at h;rename_i hue;obtain⟨y,hy,h⟩:=z0o h;have hv:=hR.ev hx;simp only[VR]at hv
  have hs:ynp P s d (σ.ev x)=some (.str y):=by
   unfold ynp;rw[hus,hud];simp only[hue];obtain⟨hv,_⟩:=hv;generalize σ.ev x=u at hv
   cases hv with
   |nil=>simp only[yat,Qbu]at hy;subst hy;rfl
   |sl _ _ ws full hl hh=>
    simp only[Dat.len];rw[zws xs ws hl hh,hy];rfl
  refine zf1 ho (hw.wanted hR) (λW a g hG =>?_) (hk (.str y) ts _ ρ (.str y) hR (by simp only[VR]) h);have hx':=hG.ev x;unfold execOp;rw[hc];exact y4c hG.good hs hx';cases h;cases h;exact hop hkf h
  ·rename_i t x hc;split at h;exact hkf _ h
   ·rename_i τ es hx;split at h
    ·rename_i kt vt ht;have hv:=hR.ev hx;unfold VR at hv;obtain⟨hfl,hv⟩:=hv;refine zf1 (v:=.ptr σ.H.lv σ.H.L.length 0) (H':=σ.H.push (.mit (es.map λp=>(.str p.1,zyj τ p.2)) [])) ho (hw.wanted hR) (λW a g hG =>?_) (hk (.ptr ts.nx 0) _ _ (ρ++[⟨.any,some σ.H.L.length,[],[]⟩]) _ ?_ ?_ h)
     rotate_left
     refine hR.new _ _ _ hR.lv hR.E (by simp[Heap.push]) (λi hi=>by simp only[Heap.push];rw[Qal hi]) (λi hi=>by injection hi with hi;omega) ?_;simp only[OR];refine⟨σ.H.L.length,es,[],rfl,hfl,by simp[Heap.push],by simp,?_,λp hp=>by cases hp⟩;exact yjj es;simp only[VR];exact⟨⟨.any,some σ.H.L.length,[],[]⟩,σ.H.L.length,by rw[<-hR.nx];simp,rfl,by rw[hR.lv]⟩;have hx':=hG.ev x
     rw[hv]at hx';unfold execOp;rw[hc];exact yeb hG.good ht hx'
    cases h
   exact hop hkf h
  rename_i x hc;split at h;rename_i s hx;split at h;rename_i τ last es hs;have hv:=hR.ev hx;simp only[VR]at hv;obtain⟨sl,i,e1,e2,e3⟩:=hv;obtain⟨sl',k1,k2⟩:=hR.ob s _ hs
  rw[e1]at k1;injection k1 with k1;subst k1
  have k2':=k2;simp only[OR]at k2;obtain⟨i',fs,vis,q1,q2,q3,q4,q5,_⟩:=k2
  rw[e2]at q1;injection q1 with q1;subst q1
  have hlt:=(Qaa.1 q3).1;refine ykc ho (hw.wanted hR) hc e3 (hR.get q3) (λq hq=>by simpa using q4 q hq) (λhall =>?_) λj p hj hnj =>?_
  have hnil:es=[]:=by
   have:(List.filter (λq => !vis.contains q) (List.range fs.length))=[]:=List.filter_eq_nil_iff.2 λq hq=>by
    have:=hall q (by simpa using hq);simpa using this
   rw[this]at q5;simpa using q5
  exact hk (.tup [.bool false]) ts σ ρ _ hR (by simp[VR,VRL]) (yjp h hnil);rw[Qan,Qaf]at hj;obtain⟨p',hp',rfl⟩:=hj;obtain⟨m,hm,hperm⟩:=yj2 q5 hp' hnj;have h':=yke h m p' hm;refine hk _ _ _ ρ _ ?_ ?_ h'
  have hmm:σ.H.set F.lv i (zz4.mit (fs.map λp=>(.str p.1,zyj τ p.2)) (vis++[j]))={σ.H with L:=σ.H.L.set i (some (.mit (fs.map λp=>(.str p.1,zyj τ p.2)) (vis++[j])))}:=by
   unfold Heap.set;rw[Qbx hR.lv.symm]
  rw[hmm]
  exact hR.upd hs trivial e1 e2 (.mit τ (some (p'.1,p'.2)) (es.eraseIdx m)) (.mit (fs.map λp=>(.str p.1,zyj τ p.2)) (vis++[j])) (by
   simp only[OR];refine⟨i,fs,vis++[j],e2,q2,by simp[hlt],λq hq =>?_,hperm,λp hp=>⟨vis,j,rfl,by injection hp with hp;rw[hp',<-hp]⟩⟩
   rcases Qbb.1 hq with hq|hq
   exact q4 q hq
   simp at hq;subst hq;exact(Qaa.1 hp').1)
  simp only[VR,VRL];exact⟨_,rfl,_,_,rfl,rfl,_,_,rfl,rfl,_,_,rfl,VR.ynm q2 _,rfl⟩;cases h;cases h
  ·rename_i x hc;split at h
   ·rename_i s hx;split at h
    ·rename_i τ p es hs;have hv:=hR.ev hx;simp only[VR]at hv;obtain⟨sl,i,e1,e2,e3⟩:=hv;obtain⟨sl',k1,k2⟩:=hR.ob s _ hs
     rw[e1]at k1;injection k1 with k1;subst k1
     simp only[OR]at k2;obtain⟨i',fs,vis,q1,q2,q3,q4,q5,q6⟩:=k2
     rw[e2]at q1;injection q1 with q1;subst q1
     obtain⟨vis',j,rfl,hj⟩:=q6 p rfl;refine zf1 (v:=.tup [.str p.1,(zyj τ p.2).v]) (H':=σ.H) ho (hw.wanted hR) (λW a g hG =>?_) (hk _ ts _ ρ _ hR ?_ h)
     rotate_left
     simp only[VR,VRL];exact⟨_,rfl,_,_,rfl,rfl,_,_,rfl,VR.ynm q2 _,rfl⟩;have hx':=hG.ev x;rw[e3]at hx';unfold execOp;rw[hc];exact ye4 hG.good (hR.get q3) (by rw[Qan,hj];rfl) hx'
    cases h
   cases h
  exact hop hkf h
omit hD in
theorem zoz{R:Type}{ops:Array Oper}{n:Nat}{o:Oper}{go skip:TS D.T->Option R}{r:R}{G:Prop}(hR:TRr D F ρ ts σ)(h:y1u D ops.toList o ts go skip=some r)
  (h1:∀ts',ts'.o=ts.o->TRr D F ρ ts' σ->zpn ops ts' o->go ts'=some r->G) (h2:∀ts',ts'.o=ts.o->TRr D F ρ ts' σ->zzt ops σ o=some false->skip ts'=some r->G):G:=by
 unfold y1u at h;split at h;rename_i hg;exact h1 ts rfl hR (.inl hg) h;rename_i j want hg;have hj:ops.toList[j]? = ops[j]? := by simp
 rw[hj]at h;split at h;cases h;rename_i d hd
 have tell:∀b:Bool,fnd ts.t d=some (.bool b)->TRr D F ρ {ts with t:=(d,.bool b)::ts.t} σ∧fnd ({ts with t:=(d,.bool b)::ts.t}:TS D.T).t d=some (.bool b)∧σ.t.getD d .any = .bool b:=λb hb=>by
  obtain⟨v,e1,e2⟩:=hR.tm d _ hb;refine⟨hR.tell e1 e2,by simp only[yz8,if_true],?_⟩;simp only[VR]at e2;rw[Qba,e1,e2];rfl
 simp only[y0v]at h;split at h;rename_i b hb
 have wf:∀b':Bool,b'=b->(b'==want)=false->zzt ops σ o=some false:=λb' e hne=>by
  unfold zzt;rw[hg];simp only[hd,(tell b hb).2.2];rw[<-e,hne]
 split at h;rename_i hbt;subst hbt;obtain⟨t1,t2,t3⟩:=tell true hb;split at h;rename_i hwt;subst hwt;exact h1 _ (by rfl) t1 (.inr ⟨j,true,d,hg,hd,t2⟩) h;rename_i hwt;exact h2 _ (by rfl) t1 (wf true rfl (by simpa using hwt)) h;rename_i hbf;have hbf:b=false:=by simpa using hbf
 subst hbf;obtain⟨t1,t2,t3⟩:=tell false hb;split at h;rename_i hwt;subst hwt;exact h2 _ (by rfl) t1 (wf false rfl rfl) h;rename_i hwt;have hwt:want=false:=by simpa using hwt
 subst hwt;exact h1 _ (by rfl) t1 (.inr ⟨j,false,d,hg,hd,t2⟩) h;rename_i vs hv;have:=hR.tmp hv;simp only[VR]at this;obtain⟨us,e1,e2⟩:=this;exact h2 ts rfl hR (by unfold zzt;rw[hg];simp only[hd,e1]) h;cases h
theorem yeq{R:Type}{ops:Array Oper}{n:Nat}{o:Oper}{Q:zz8->St->Prop}{k kp:TV D.T->TS D.T->Option R}{r:R}(ho:ops[n]? = some o)(htbl:∀e∈tbl,e.Ok P)
  (hk:∀z ts' σ' ρ' v,TRr D F ρ' ts' σ'->VR D ρ' F.lv z v->k z ts'=some r->zai P ops (n+1) (σ'.put o.dst v) Q) (hkp:∀z ts' σ' ρ' v,TRr D F ρ' ts' σ'->VR D ρ' F.lv z v->kp z ts'=some r->Q (.panic v) σ') {ts:TS D.T}{σ:St}{ρ:List Slot}
  (hR:TRr D F ρ ts σ) (hw:zpn ops ts o) (h:yl6 P D tbl ops.toList o k kp ts=some r):zai P ops n σ Q:=by
 unfold yl6 at h;split at h;rename_i t x lo hcp;split at h;rename_i cx clo hx hlo
 rcases y25 hR h (hR.ev hx) (hR.ev hlo)with ⟨z,v,h1,h2,h3⟩|h
 refine y9z (H':=σ.H) ho (hw.wanted hR) ?_ (hk z ts _ ρ v hR h2 h3);unfold cpB at hcp;split at hcp;rename_i t' x' lo' d hop hdst;split at hcp;injection hcp with hcp;injection hcp with e1 hcp;injection hcp with e2 e3;subst e1;subst e2;subst e3;rw[hop];simp only[ox,pv,Qbr,Option.map_none,h1];cases hcp;cases hcp;exact zmi hD ho htbl hk hkp 9 hR hw h;cases h
 ·have fall:y49 P D tbl o.op k kp 9 ts=some r->zai P ops n σ Q:=zmi hD ho htbl hk hkp 9 hR hw;split at h
  ·unfold tLit at h;split at h
   ·rename_i t len ps hop;split at h
    ·rename_i e qs hu hqs;split at h
     ·rename_i τ xs hb;obtain⟨p1,p2⟩:=hR.parts hqs;obtain⟨v,b1,b2⟩:=zeb hD p1 p2 hb;simp only[VR]at b2;obtain⟨b2,b3,_⟩:=b2;obtain⟨ws,rfl⟩:=b3 (Qbw _)
      cases b2 with
      |sl _ _ _ _ hl hh=>
       have hlen:len≠0:=λe0=>by
        subst e0;unfold zdf at hb
        repeat (split at hb <;> try (first|(cases hb;done)|(injection hb with hb;injection hb with _ _ hb;cases hb;done)))
       refine zf1 (v:=.hs σ.H.lv σ.H.L.length 0 0 ws.length false) (H':=σ.H.push (.arr 0 e (D.len τ) ws (some ws.length))) ho (hw.wanted hR) (λW a g hG =>?_) (hk (.own ts.nx) _ _ (ρ++[⟨.hs σ.H.lv σ.H.L.length 0 0 ws.length false,some σ.H.L.length,ws,[]⟩]) _ ?_ ?_ h);unfold execOp;rw[hop];obtain⟨r1,r2⟩:=zho hG.ev ps;exact zot hG.good b1 hlen hu r1 r2
       refine hR.new _ _ _ hR.lv hR.E (by simp[Heap.push]) (λi hi=>by simp only[Heap.push];rw[Qal hi]) (λi hi=>by injection hi with hi;omega) ?_;simp only[OR];exact⟨hl,hh,0,some ws.length,by rw[hR.lv],by simp[Heap.push]⟩;simp only[VR];exact⟨⟨.hs σ.H.lv σ.H.L.length 0 0 ws.length false,some σ.H.L.length,ws,[]⟩,by rw[<-hR.nx];simp,rfl,rfl⟩
     exact fall h
    exact fall h
   exact fall h
  exact fall h
theorem zdy{R:Type}{ops:Array Oper}{Q:zz8->St->Prop}{kn:TS D.T->Option R}{kp:TV D.T->TS D.T->Option R}{r:R}(htbl:∀e∈tbl,e.Ok P)
  (hkn:∀ts' σ' ρ',TRr D F ρ' ts' σ'->kn ts'=some r->Q .normal σ') (hkp:∀z ts' σ' ρ' v,TRr D F ρ' ts' σ'->VR D ρ' F.lv z v->kp z ts'=some r->Q (.panic v) σ') :
  ∀(l:List Oper) (n:Nat) {ts:TS D.T}{σ:St}{ρ:List Slot},(∀j,l[j]? = ops[n+j]?)->TRr D F ρ ts σ->zme P D tbl ops.toList kn kp l ts=some r->zai P ops n σ Q
 |[],n,ts,σ,ρ,hl,hR,h=>by
  simp only[zme]at h
  exact yp0 (by have:=hl 0;simp at this;exact this) (hkn ts σ ρ hR h)
 |o::l,n,ts,σ,ρ,hl,hR,h=>by
  have ho:ops[n]? = some o:=by simpa using(hl 0).symm
  have hl':∀j,l[j]? = ops[n+1+j]? := λj=>by have:=hl (j+1);simpa[Nat.add_assoc,Nat.add_comm 1 j]using this
  simp only[zme,pOp]at h;refine zoz (n:=n) hR h (λts1 _ hR1 hw h1 =>?_) λts1 _ hR1 hw h1 =>?_
  refine yeq hD ho htbl (λz ts' σ' ρ' v a1 a2 a3 =>?_) hkp hR1 hw h1;split at a3;rename_i ts2 hp;exact zdy htbl hkn hkp l (n+1) hl' (a1.put hp a2) a3;cases a3;split at h1;rename_i ts2 hp;exact yjz ho hw (zdy htbl hkn hkp l (n+1) hl' (hR1.put hp (by simp only[VR];exact⟨[],rfl,by simp only[VRL]⟩)) h1);cases h1
theorem z7v{R:Type}{ops:Array Oper}{kn:TS D.T->Option R}{r:R}(htbl:∀e∈tbl,e.Ok P) :
  ∀(l:List Oper) {ts:TS D.T}{σ:St},TRr D F ρ ts σ->zd1 P D tbl ops.toList kn l ts=some r->∃ans σ' cl ts',zhf P ops l ans σ=some (σ',[],cl)∧(∀c∈cl,c.ok P)∧TRr D F ρ ts' σ'∧kn ts'=some r
 |[],ts,σ,hR,h=>⟨[],σ,[],ts,rfl,by simp,hR,h⟩
 |o::l,ts,σ,hR,h=>by
  simp only[zd1,pOp]at h;refine zoz (ops:=ops) (n:=0) hR h (λts1 _ hR1 hw h1 =>?_) λts1 _ hR1 hw h1 =>?_
  have hwt:=hw.wanted hR1
  have hpv:∀{op:Op},op=o.op->tP P D ts1 op (λv=>match ts1.put D o.dst v with|some ts=>zd1 P D tbl ops.toList kn l ts|none=>none) (λ_=>none)=some r->∃ans σ' cl ts',zhf P ops (o::l) ans σ=some (σ',[],cl)∧(∀c∈cl,c.ok P)∧TRr D F ρ ts' σ'∧kn ts'=some r:=λ{op} he hh=>by
   subst he
   rcases y21 hD hR1 hh with ⟨x,v,a1,a2,a3⟩|⟨s,hs⟩
   cases hp:ts1.put D o.dst x with
   |none=>rw[hp]at a3;cases a3
   |some ts2=>
    rw[hp]at a3;obtain⟨ans,σ',cl,ts',b1,b2,b3,b4⟩:=z7v htbl l (hR1.put hp a2) a3;exact⟨ans,σ',cl,ts',by simp only[zhf,hwt,if_true,a1];exact b1,b2,b3,b4⟩
   cases hs
  split at h1;rename_i c hc;split at h1;rename_i x hcal;split at h1;rename_i f a b vs hx hvs;obtain⟨args,t1,t2⟩:=zqt hR1 hcal hx hvs
  have hcall:znw D f (a++vs++b) ts1 (λv _=>match ts1.put D o.dst v with|some ts=>zd1 P D tbl ops.toList kn l ts|none=>none) (λ_ _=>none) (λ_=>none) (tbl.filter (·.pure))=some r->∃ans σ' cl ts',zhf P ops (o::l) ans σ=some (σ',[],cl)∧(∀c∈cl,c.ok P)∧TRr D F ρ ts' σ'∧kn ts'=some r:=λh1=>by
   rcases zga hD hR1 t2 (λe he=>htbl e (List.mem_filter.1 he).1) h1 with ⟨⟨e,he,hne⟩,_⟩|⟨rv,e1,z,ρ',ts',e2,e3,e4,_⟩|⟨s,hs⟩
   have:=(List.mem_filter.1 he).2;rw[hne]at this;cases this;split at e4;rename_i ts2 hp;obtain⟨ans,σ',cl,ts',b1,b2,b3,b4⟩:=z7v htbl l (hR1.put hp (e2 ρ)) e4;refine⟨rv::ans,σ',⟨f,args,σ.H,rv,σ.H⟩::cl,ts',?_,zje (e1 σ.H) b2,b3,b4⟩;have hpn:pv P σ.H σ.ev (.call c)=none:=by simp[pv,z8i,hcal]
   simp only[zhf,hwt,if_true,hc,hpn,t1,b1];cases e4;cases hs
  split at h1
  rcases zmw hD hR1 t2 htbl h1 with ⟨rv,z,e1,e2,e4⟩|h1
  split at e4;rename_i ts2 hp;obtain⟨ans,σ',cl,ts',b1,b2,b3,b4⟩:=z7v htbl l (hR1.put hp e2) e4;refine⟨rv::ans,σ',⟨f,args,σ.H,rv,σ.H⟩::cl,ts',?_,zje e1 b2,b3,b4⟩;have hpn:pv P σ.H σ.ev (.call c)=none:=by simp[pv,z8i,hcal]
  simp only[zhf,hwt,if_true,hc,hpn,t1,b1];cases e4;exact hcall h1;exact hcall h1;cases h1;exact hpv rfl h1;unfold tPC at h1;split at h1;rename_i t x lo hcp;split at h1;rename_i cx clo hx hlo
  rcases y25 hR1 h1 (hR1.ev hx) (hR1.ev hlo)with ⟨z,v,a1,a2,a3⟩|h1
  cases hp:ts1.put D o.dst z with
  |none=>rw[hp]at a3;cases a3
  |some ts2=>
   rw[hp]at a3;obtain⟨ans,σ',cl,ts',b1,b2,b3,b4⟩:=z7v htbl l (hR1.put hp a2) a3;refine⟨ans,σ',cl,ts',?_,b2,b3,b4⟩
   have hpv':pv P σ.H σ.ev o.op=some v:=by
    unfold cpB at hcp;split at hcp;rename_i t' x' lo' d hop hdst;split at hcp;injection hcp with hcp;injection hcp with e1 hcp;injection hcp with e2 e3;subst e1;subst e2;subst e3;rw[hop];simp only[pv,Qbr,Option.map_none,a1];cases hcp;cases hcp
   simp only[zhf,hwt,if_true,hpv'];exact b1
  exact hpv rfl h1;cases h1;exact hpv rfl h1;split at h1;rename_i ts2 hp;obtain⟨ans,σ',cl,ts',b1,b2,b3,b4⟩:=z7v htbl l (hR1.put hp (v:=.tup []) (by simp only[VR];exact⟨[],rfl,by simp only[VRL]⟩)) h1;exact⟨ans,σ',cl,ts',by simp only[zhf,hw];simpa using b1,b2,b3,b4⟩;cases h1
def Keyed(ρ:List Slot)(s i:Nat):Prop:=∃sl,ρ[s]? = some sl∧sl.has i
def KR(ρ:List Slot)(q:Rd)(x:Key):Prop:=Keyed ρ q.1 x.1∧x.2=q.2∧∀c,q.2=some c->∃sl,ρ[q.1]? = some sl∧sl.k=some x.1
omit hD in
theorem KR.up{ρ ρ':List Slot}{q:Rd}{x:Key}(h:KR ρ q x)(hu:∀(s:Nat) (sl:Slot),ρ[s]? = some sl->ρ'[s]? = some sl):KR ρ' q x :=
 ⟨h.1.imp λsl e=>⟨hu _ _ e.1,e.2⟩,h.2.1,λc e=>(h.2.2 c e).imp λsl e=>⟨hu _ _ e.1,e.2⟩⟩
omit hD in
theorem zl2{ts:TS D.T}{s:Nat}(h:z13 ts s=true):∃o,fnd ts.o s=some o∧o.live:=by
 unfold z13 at h;split at h;cases h;rename_i o hne ho;exact⟨o,ho,by cases o <;> first|trivial|exact(hne ho).elim⟩;cases h
omit hD in
theorem z9x{ts:TS D.T}{s:Nat}{o:TO D.T}(h:fnd ts.o s=some o)(hl:o.live):z13 ts s=true:=by
 unfold z13;rw[h];cases o <;> first|rfl|exact hl.elim
omit hD in
theorem zq6(hR:TRr D F ρ ts σ){s i:Nat}(hl:z13 ts s=true)(hk:Keyed ρ s i):i<σ.H.L.length:=by
 obtain⟨o,h1,h2⟩:=zl2 hl;obtain⟨sl,h3,h4⟩:=hk;exact hR.lt h1 h2 h3 h4
omit hD in
theorem zqk(hR:TRr D F ρ ts σ){s s' i:Nat}(hl:z13 ts s=true)(hl':z13 ts s'=true)(hk:Keyed ρ s i)(hk':Keyed ρ s' i):s=s':=by
 obtain⟨o,h1,h2⟩:=zl2 hl;obtain⟨sl,h3,h4⟩:=hk;obtain⟨o',h1',h2'⟩:=zl2 hl';obtain⟨sl',h3',h4'⟩:=hk';exact hR.inj s s' o o' sl sl' i h1 h1' h2 h2' h3 h3' h4 h4'
structure zrs(ρ:List Slot)(ts:TS D.T)(rds:Rds)(wrs:Wrs)(prev:List (Nat×Info)):Prop where
 q:∀p∈prev,p.2.eff=false->(∀x,¬p.2.K x)∨∃R,(p.1,R)∈rds∧∀l,R=some l->∀x,p.2.K x->∃q∈l,z13 ts q.1=true∧KR ρ q x
 e:∀p∈prev,p.2.eff=true->∃w,(p.1,w)∈wrs∧∀s,w=some s->∀x,p.2.W x->z13 ts s=true∧Keyed ρ s x.1
def zs9(ρ:List Slot)(R:List Rd):Info:=⟨false,λx=>∃q∈R,KR ρ q x,λ_=>False,false⟩
def yor(W:Key->Prop):Info:=⟨true,λ_=>False,W,false⟩
def yqo(W:Key->Prop):Info:=⟨true,λ_=>False,W,true⟩
omit hD in
theorem yhb{q s:Nat}(h:(!Nat.beq q s)=true):q≠s:=λe=>by subst e;rw[Nat.beq_refl]at h;cases h
omit hD in
theorem ydp(hR:TRr D F ρ ts σ){ops:Array Oper}{k:Nat}{rds:Rds}{wrs:Wrs}{prev:List (Nat×Info)}(hp:zrs (D:=D) ρ ts rds wrs prev){R:List Rd}(hok:rdOk ops.toList k R wrs=true)(hlive:R.all (λq=>z13 ts q.1)=true):GP .any ops prev k (zs9 ρ R):=λp hj hf=>by
 refine⟨λh=>(by cases h.2),λ_ h=>(by cases h),λ_ he x ⟨s,hs,hk⟩ hw =>?_⟩;obtain⟨w,hm,hw'⟩:=hp.e p hj he;have h1:=Qat.1 hok (p.1,w) hm;rw[Bool.or_eq_true]at h1
 rcases h1 with h1|h1
 exact zhj h1 hf
 cases w with
 |none=>cases R with
  |nil=>cases hs
  |cons a r=>cases h1
 |some s'=>
  cases R with
  |nil=>cases hs
  |cons a r=>
   have h2:=yhb (Qat.1 h1 s hs);obtain⟨k1,k2⟩:=hw' s' rfl x hw;exact h2 (zqk hR (Qat.1 hlive s hs) k1 hk.1 k2)
omit hD in
theorem y7r{ops:Array Oper}{k:Nat}{rds:Rds}{wrs:Wrs}{prev:List (Nat×Info)}(hp:zrs (D:=D) ρ ts rds wrs prev){w:Option Nat}{W:Key->Prop}(hok:ymz ops.toList k w rds=true)(hes:y3m ops.toList k wrs=true)
  (hW:∀s,w=some s->∀(q:Nat) (x:Key),z13 ts q=true->Keyed ρ q x.1->q≠s->¬W x):GP .any ops prev k (yor W):=λp hj hf=>by
 refine⟨λ⟨h,_⟩ =>?_,λhq _ x hx hw =>?_,λh=>(by cases h)⟩;obtain⟨w',hm,_⟩:=hp.e p hj h;exact zhj (Qat.1 hes (p.1,w') hm) hf
 rcases hp.q p hj hq with h|⟨R,hm,hR⟩
 exact h x hx;have h1:=Qat.1 hok (p.1,R) hm;rw[Bool.or_eq_true]at h1
 rcases h1 with h1|h1
 exact zhj h1 hf
 cases R with
 |none=>cases w <;> cases h1
 |some l=>
  obtain⟨s,hs,k1,k2⟩:=hR l rfl x hx
  cases l with
  |nil=>cases hs
  |cons a r=>
   cases w with
   |none=>cases h1
   |some s'=>exact hW s' rfl s.1 x k1 k2.1 (yhb (Qat.1 h1 s hs)) hw
omit hD in
theorem zrs.quiet{ρ:List Slot}{ts ts':TS D.T}{k:Nat}{rds:Rds}{wrs:Wrs}{prev:List (Nat×Info)}(hp:zrs (D:=D) ρ ts rds wrs prev){R:List Rd}(hlive:R.all (λq=>z13 ts q.1)=true)(ho:ts'.o=ts.o) :
  zrs (D:=D) ρ ts' ((k,some R)::rds) wrs ((k,zs9 ρ R)::prev):=by
 have hl:∀s,z13 ts' s=z13 ts s:=λs=>by unfold z13;rw[ho]
 refine⟨λp hj hq =>?_,λp hj he =>?_⟩
 rcases Qbl.1 hj with rfl|hj
 exact .inr ⟨some R,Qak,λl hl' x ⟨s,hs,hk⟩=>by injection hl' with hl';subst hl';exact⟨s,hs,by rw[hl];exact Qat.1 hlive s hs,hk⟩⟩
 rcases hp.q p hj hq with h|⟨R,hm,hR⟩
 exact .inl h;exact .inr ⟨R,Qai _ hm,λl hl' x hx=>by obtain⟨s,a,b,c⟩:=hR l hl' x hx;exact⟨s,a,by rw[hl];exact b,c⟩⟩
 rcases Qbl.1 hj with rfl|hj
 cases he;obtain⟨w,hm,hw⟩:=hp.e p hj he;exact⟨w,hm,λs hs x hx=>by rw[hl];exact hw s hs x hx⟩
omit hD in
theorem zrs.eff{ρ ρ':List Slot}{ts ts':TS D.T}{k:Nat}{rds:Rds}{wrs:Wrs}{prev:List (Nat×Info)}(hp:zrs (D:=D) ρ ts rds wrs prev){w:Option Nat}{W:Key->Prop}{c:Info}(hc:c.eff=true∧c.W=W)
  (hold:∀s0,w=some s0->(∀s,z13 ts s=true->z13 ts' s=true)∧∀(s:Nat) (sl:Slot),ρ[s]? = some sl->ρ'[s]? = some sl) (hnew:∀s,w=some s->∀x,W x->z13 ts' s=true∧Keyed ρ' s x.1) :
  zrs (D:=D) ρ' ts' (ybg w rds) ((k,w)::y1z w wrs) ((k,c)::prev):=by
 obtain⟨hce,hcW⟩:=hc;refine⟨λp hj hq =>?_,λp hj he =>?_⟩
 rcases Qbl.1 hj with rfl|hj
 rw[hce]at hq;cases hq
 rcases hp.q p hj hq with h|⟨R,hm,hR⟩
 exact .inl h
 cases w with
 |some s0=>exact .inr ⟨R,hm,λl hl x hx=>by obtain⟨s,a,b,c⟩:=hR l hl x hx;exact⟨s,a,(hold s0 rfl).1 _ b,c.up (hold s0 rfl).2⟩⟩
 |none=>
  by_cases hemp:R=some [];subst hemp;exact .inl λx hx=>by obtain⟨s,a,_⟩:=hR [] rfl x hx;cases a
  refine .inr ⟨none,Qbg.2 ⟨(p.1,R),hm,?_⟩,λl hl=>by cases hl⟩
  cases R with
  |none=>rfl
  |some l=>cases l with
   |nil=>exact(hemp rfl).elim
   |cons a r=>rfl
 rcases Qbl.1 hj with rfl|hj
 rw[hcW];exact⟨w,Qak,hnew⟩;obtain⟨w',hm,hw⟩:=hp.e p hj he
 cases w with
 |some s0=>exact⟨w',Qai _ hm,λs hs x hx=>by obtain⟨a,b⟩:=hw s hs x hx;exact⟨(hold s0 rfl).1 _ a,b.imp λsl e=>⟨(hold s0 rfl).2 _ _ e.1,e.2⟩⟩⟩
 |none=>exact⟨none,Qai _ (Qbg.2 ⟨(p.1,w'),hm,rfl⟩),λs hs=>by cases hs⟩
def Lvl(F:Fr)(H:Heap):Prop:=H.lv=F.lv
omit hD in
theorem yo5{ρ:List Slot}{lv:Nat}{x:TV D.T}{v:V}(h:VR D ρ lv x v)(hp:x.ygq=true):v.plain=true:=by
 cases x <;> simp only[TV.ygq,Bool.false_eq_true]at hp
 case sl t xs fl=>simp only[VR]at h;obtain⟨h,_⟩:=h;cases h <;> rfl
 case ap s t i x off=>
  simp only[VR]at h;obtain⟨sl,w,h1,h2,h3,h4,h5⟩:=h;split at h5;subst h5;rfl;obtain⟨ver,n,_,h5⟩:=h5;subst h5;rfl
 case fn f a b=>simp only[VR]at h;obtain⟨as,bs,rfl,_⟩:=h;rfl
 case iface t x=>simp only[VR]at h;obtain⟨y,rfl,_⟩:=h;rfl
 case ref cs off=>simp only[VR]at h;obtain⟨y,rfl,_⟩:=h;rfl
 case ptr s off=>simp only[VR]at h;obtain⟨y,i,_,_,rfl⟩:=h;rfl
 case agg cs=>simp only[VR]at h;obtain⟨y,rfl,_⟩:=h;rfl
 case tup cs=>simp only[VR]at h;obtain⟨y,rfl,_⟩:=h;rfl
 case mc t es=>simp only[VR]at h;obtain⟨_,rfl⟩:=h;rfl
 case dp s i off=>simp only[VR]at h;obtain⟨sl,j,ver,m,_,_,_,_,rfl⟩:=h;rfl
 case bsl q cs=>simp only[VR]at h;obtain⟨vs,rfl,_⟩:=h;rfl
 all_goals (simp only[VR]at h;subst h;rfl)
omit hD in
theorem yd3(hR:TRr D F ρ ts σ){x:Operand}{R:List Nat}(h:plainO ts x=some R):(σ.ev x).plain=true∧R=[]:=by
 unfold plainO at h;split at h;rename_i v hv;split at h
 rename_i hp;injection h with h;exact⟨yo5 (hR.ev hv) hp,h.symm⟩
 cases h;cases h
omit hD in
theorem zlr(hR:TRr D F ρ ts σ){s i:Nat}{R:List Rd}(hk:Keyed ρ s i)(hs0:(s,none)∈R){H:Heap}(hl:Lvl F H)(hs:zrf (zs9 ρ R).K σ.H H):H.get F.lv i=σ.H.get F.lv i:=by
 unfold Heap.get;have hl:H.lv=F.lv:=hl;have:=congrArg Prod.fst (hs (i,none) ⟨(s,none),hs0,hk,rfl,λc e=>by cases e⟩);rw[hl,hR.lv,Qbx rfl,Qbx rfl,show H.L[i]? = σ.H.L[i]? from this]
omit hD in
theorem y7q(hR:TRr D F ρ ts σ){x:Operand}{R:List Nat}(h:ownO ts x=some R){H:Heap}(hl:Lvl F H)(hs:zrf (zs9 ρ (whole R)).K σ.H H) :
  (σ.ev x).plain=true∨∃l i ver off n full,σ.ev x = .hs l i ver off n full∧H.get l i=σ.H.get l i:=by
 unfold ownO at h;split at h;rename_i s hx;split at h;rename_i ty t xs w ho;injection h with h;subst h;have hv:=hR.ev hx;simp only[VR]at hv;obtain⟨sl,h1,h2,h3⟩:=hv;obtain⟨sl',k1,k2⟩:=hR.ob s _ ho
 rw[h1]at k1;injection k1 with k1;subst k1
 rw[h2];simp only[OR]at k2;obtain⟨q1,q2,q3⟩:=k2
 cases hk:sl.k with
 |none=>
  rw[hk]at q3
  rcases q3 with ⟨e,_⟩|⟨⟨e,_⟩,_⟩ <;> (left;rw[e];rfl)
 |some i=>
  rw[hk]at q3;obtain⟨ver,cp,e1,e2⟩:=q3;right;exact⟨_,_,_,_,_,_,e1,zlr hR ⟨sl,h1,.inl hk⟩ (by simp[whole]) hl hs⟩
 rename_i ty q xs w ho;injection h with h;subst h;have hv:=hR.ev hx;simp only[VR]at hv;obtain⟨sl,h1,h2,h3⟩:=hv;obtain⟨sl',k1,k2⟩:=hR.ob s _ ho
 rw[h1]at k1;injection k1 with k1;subst k1
 rw[h2];simp only[OR]at k2;obtain⟨q1,q3⟩:=k2
 cases hk:sl.k with
 |none=>
  rw[hk]at q3
  obtain⟨_,e|e,_⟩:=q3 <;> (left;rw[e];rfl)
 |some i=>
  rw[hk]at q3;obtain⟨ver,cp,fps,e1,e2,_⟩:=q3;right;exact⟨_,_,_,_,_,_,e1,zlr hR ⟨sl,h1,.inl hk⟩ (by simp[whole]) hl hs⟩
 cases h;exact .inl (yd3 hR h).1
omit hD in
theorem ymm(hR:TRr D F ρ ts σ){op:Op}{R:List Rd}(h:rdK P ts op=some R){H:Heap}(hl:Lvl F H)(hs:zrf (zs9 ρ R).K σ.H H):pv P H σ.ev op=pv P σ.H σ.ev op:=by
 cases op <;> simp only[rdK]at h <;> first|(cases h;done)|skip
 case load t a=>
  split at h;rename_i s off ha;have hv:=hR.ev ha;simp only[VR]at hv;obtain⟨sl,i,h1,h2,h3⟩:=hv;simp only[pv,h3];split at h;rename_i hone;injection h with h;subst h;have hone:=Qaj hone;have hl:H.lv=F.lv:=hl;have:=congrArg Prod.snd (hs (i,some off) ⟨(s,some off),by simp,⟨sl,h1,.inl h2⟩,rfl,λc _=>⟨sl,h1,h2⟩⟩);rw[<-hR.lv];exact y04 hone (hl.trans hR.lv.symm) this;injection h with h;subst h
  exact y4q (zlr hR ⟨sl,h1,.inl h2⟩ (by simp) hl hs);rename_i s τ n y off ha;injection h with h;subst h;have hv:=hR.ev ha;simp only[VR]at hv;obtain⟨sl,w,h1,h2,h3,h4,h5⟩:=hv
  cases hk:sl.k with
  |none=>rw[hk]at h5;simp only[pv,h5];exact zpj
  |some j=>
   rw[hk]at h5;obtain⟨ver,m,e1,e2⟩:=h5;simp only[pv,e2];exact zsq (zlr hR ⟨sl,h1,.inl hk⟩ (by simp) hl hs)
  rename_i s n off ha;split at h;rename_i ty q xs hh ho;injection h with h;subst h;have hv:=hR.ev ha;simp only[VR]at hv;obtain⟨sl,j,ver,m,h1,h2,_,_,h5⟩:=hv;obtain⟨sl',g1,g2⟩:=hR.ob s _ ho
  rw[h1]at g1;injection g1 with g1;subst g1
  simp only[OR]at g2;have g3:=g2.2
  cases hk:sl.k with
  |none=>
   rw[hk]at g3
   rcases g3.2.1 with e|e <;> (rw[e]at h2;cases h2)
  |some j'=>
   rw[hk]at g3;obtain⟨ver',cp,fps,e1,_⟩:=g3;rw[h2]at e1;injection e1 with _ e1;subst e1;simp only[pv,h5];exact zsq (zlr hR ⟨sl,h1,.inl hk⟩ (by simp) hl hs)
  cases h;rename_i cs off ha;have hv:=hR.ev ha;simp only[VR]at hv;obtain⟨vs,h3,_⟩:=hv;simp only[pv,h3];exact zpj;cases h
 case indexAddr t x i=>
  simp only[pv];obtain⟨R',h0,rfl⟩:=Qaf.1 h
  rcases y7q hR h0 hl hs with h|⟨l,j,ver,off,n,full,h,hg⟩
  exact zvy h;rw[h];exact ztf hg
 case slice t x lo hi mx=>simp only[pv];obtain⟨R',h0,rfl⟩:=Qaf.1 h;exact yb0 (yd3 hR h0).1
 case call c=>
  simp only[pv,z8i];split at h;rename_i x hc ha;simp only[hc,ha];split;rename_i x' t hx ht;injection hx with hx;subst hx;obtain⟨R',h0,rfl⟩:=Qaf.1 h
  rcases y7q hR h0 hl hs with h|⟨l,j,ver,off,n,full,h,hg⟩
  exact yfa h;rw[h];exact y8x hg;rfl;rename_i hc;simp only[hc];rename_i hc;simp only[hc];cases h
 case makeFunc fn a b=>cases fn <;> rfl
 all_goals rfl
theorem yha{R:Type}(hR:TRr D F ρ ts σ){t s off:Nat}{x:TV D.T}{va vx:V}{k:TV D.T->TS D.T->Option R}{kf:Nat->Option R}{r:R}(h:y4m P D ts t (.ptr s off) x k kf=some r)(ha:VR D ρ F.lv (.ptr s off) va)(hx:VR D ρ F.lv x vx) :
  ∃i cs cs' H',Keyed ρ s i∧fnd ts.o s=some (.cells cs)∧zaz P σ.H t va vx=some (.any,H')∧(∀j,j≠i->H'.L[j]? = σ.H.L[j]?)∧H'.lv=F.lv∧TRr D F ρ (ts.set D s (.cells cs')) {σ with H:=H'}∧k .any (ts.set D s (.cells cs'))=some r:=by
 unfold y4m at h;split at h;rename_i hc;simp only[Qag,Qbm]at hc;obtain⟨⟨c1,c2⟩,c3⟩:=hc;have hcells:=hx.cells c1
 have hcond:(vx.zzi&&(P.info? t).isSome&&vx.cells.length==P.cellsOf t)=true:=by
  simp only[Qag,Qbm];exact⟨⟨hx.zzi c1,c2⟩,by rw[<-hcells.length];exact c3⟩
 simp only[VR]at ha;obtain⟨sl,i,h1,h2,rfl⟩:=ha;simp only at h;split at h;rename_i cs ho;split at h;rename_i hoff;obtain⟨sl',k1,k2⟩:=hR.ob s _ ho
 rw[h1]at k1;injection k1 with k1;subst k1
 simp only[OR]at k2;obtain⟨i',vs,q1,q2,q3⟩:=k2
 rw[h2]at q1;injection q1 with q1;subst q1
 have hlt:=(Qaa.1 q2).1;refine⟨i,cs,_,σ.H.set F.lv i (.cells (yzr vs off vx.cells)),⟨sl,h1,.inl h2⟩,ho,?_,λj hj =>?_,?_,?_,h⟩;unfold zaz;rw[Qbx hcond];simp only[hR.get q2];rw[Qbx (by rw[<-hcells.length,<-q3.length];exact hoff)];rw[hR.zwc];exact Qam (Ne.symm hj);rw[hR.zwc];exact hR.lv;rw[hR.zwc]
 exact hR.upd ho trivial h1 h2 _ _ (by simp only[OR];exact⟨i,_,h2,by simp[hlt],q3.yzr hcells off⟩);cases h;cases h;cases h
omit hD in
theorem y7t{ts ts':TS D.T}{dst:Option Nat}{v:TV D.T}(h:ts.put D dst v=some ts'):ts'.o=ts.o:=by
 unfold TS.put at h;split at h;injection h with h;subst h;rfl;split at h;injection h with h;subst h;rfl;cases h
omit hD in
theorem y4e(hR:TRr D F ρ ts σ){o:TO D.T}{s:Nat}(h:z13 ts s=true):z13 (ts.new D o) s=true:=by
 obtain⟨o',h1,h2⟩:=zl2 h;obtain⟨sl,h3,_⟩:=hR.ob s o' h1;have hlt:=(Qaa.1 h3).1;refine z9x (o:=o') ?_ h2;simp only[TS.new,yz8];rw[Qby (by rw[<-hR.nx];omega)];exact h1
def KpQ(Q:zz8->St->Prop)(v:V)(σ:St):Prop:=∀t',t'.length=σ.t.length->Q (.panic v) {σ with t:=t'}
def yqe(M:z1w D.T)(kc:List (Nat×Nat))(ρ:List Slot)(σ:St)(x:Key):Prop :=
 ¬((x.1<σ.H.L.length∧∀k s sl,(k,Src.slot s)∈M->ρ[s]? = some sl->¬sl.has x.1)∨∃z s sl,z∈kc∧fnd M z.1=some (.slot s)∧x.2=some z.2∧ρ[s]? = some sl∧sl.k=some x.1)
omit hD in
theorem yh3(hR:TRr D F ρ ts σ){ops:Array Oper}{k:Nat}{rds:Rds}{wrs:Wrs}{prev:List (Nat×Info)}(hp:zrs (D:=D) ρ ts rds wrs prev){M:z1w D.T}{kc:List (Nat×Nat)}(hM:∀k s,(k,Src.slot s)∈M->fnd M k=some (.slot s))(hok:yof ops.toList k rds kc M=true)(hes:y3m ops.toList k wrs=true)(hlive:∀k s,(k,Src.slot s)∈M->∃o',fnd ts.o s=some o'∧o'.live) :
  GP .any ops prev k (yqo (yqe M kc ρ σ)):=λp hj hf=>by
 refine⟨λ⟨h,_⟩ =>?_,λhq _ x hx hw =>?_,λh=>(by cases h)⟩;obtain⟨w',hm,_⟩:=hp.e p hj h;exact zhj (Qat.1 hes (p.1,w') hm) hf
 rcases hp.q p hj hq with h|⟨R,hm,hR'⟩
 exact h x hx;have h1:=Qat.1 hok (p.1,R) hm;rw[Bool.or_eq_true]at h1
 rcases h1 with h1|h1
 exact zhj h1 hf
 cases R with
 |none=>cases h1
 |some l=>
  obtain⟨s,hs,k1,k2⟩:=hR' l rfl x hx;by_cases hk0:∃k' s' sl,(k',Src.slot s')∈M∧ρ[s']? = some sl∧sl.has x.1;obtain⟨k',s',sl,hm',hsl,hk⟩:=hk0;have h2:=Qat.1 (Qat.1 h1 s hs) _ hm';obtain⟨o',e1,e2⟩:=hlive k' s' hm';have heq:=zqk hR k1 (z9x e1 e2) k2.1 ⟨sl,hsl,hk⟩;rw[Bool.or_eq_true]at h2
  rcases h2 with h2|h2
  exact yhb h2 heq;unfold yqh at h2;split at h2;rename_i c hc;obtain⟨z,z1,z2⟩:=List.any_eq_true.1 h2;rw[Qag]at z2;have z3:=Qaj z2.1;have z4:=Qaj z2.2;obtain⟨sl1,y1,y2⟩:=k2.2.2 c hc;exact hw (.inr ⟨z,s',sl1,z1,by rw[z3];exact hM _ _ hm',k2.2.1.trans (hc.trans (by rw[z4])),by rw[<-heq];exact y1,y2⟩);cases h2
  exact hw (.inl ⟨zq6 hR k1 k2.1,λk' s' sl a b c=>hk0 ⟨k',s',sl,a,b,c⟩⟩)
omit hD in
theorem ye6{R:Type}{t u:Nat}{s x:TV D.T}{vs vx:V}{k:TV D.T->Option R}{r:R}(h:ymo P D t u s x k=some r)(hs:VR D ρ lv s vs)(hx:VR D ρ lv x vx) :
  ∃z v,zp1 P t u vs vx=some v∧(∀ρ' lv',VR D ρ' lv' z v)∧k z=some r:=by
 unfold ymo at h;split at h
 case h_2=>cases h
 rename_i t' xs fl;split at h
 case h_2=>cases h
 rename_i hfl
 have hfl1:1<=fl:=by
  unfold fl12 at hfl;split at hfl <;> first|omega|cases hfl
 split at h
 case h_2=>cases h
 rename_i e du ht hu;split at h
 case h_2=>cases h
 rename_i i τ hi hτ;split at h
 case h_2=>cases h
 rename_i z hz;split at h
 case h_2=>cases h
 rename_i hc;split at h
 case h_2=>cases h
 rename_i xs' ys hxs hys;obtain⟨zs,hzs,h⟩:=z0o h;obtain⟨hroom,rfl⟩:=zuh hzs;obtain⟨rfl,rfl⟩:=z5w hxs;simp only[Qag,Qbm,Qar]at hc;obtain⟨⟨⟨⟨c1,c2⟩,c3⟩,c4⟩,c5⟩:=hc;have c5:=Qaj c5
 have hsrc:∃us,zgv y1b (D.len t') vx=some us∧DRL D t' ys us:=by
  unfold yqq at hys;split at hys;injection hys with hys;subst hys;simp only[VR]at hx;subst hx;exact⟨[],rfl,DRL.nil _⟩;rename_i t2 ws fl;obtain⟨rfl,rfl⟩:=z5w hys;simp only[VR]at hx;obtain⟨hx,_⟩:=hx
  cases hx with
  |nil=>exact⟨[],rfl,DRL.nil _⟩
  |sl _ _ ws full hl hh=>exact⟨ws,by simp[zgv,z9b],hl,hh⟩
  cases hys
 obtain⟨us,hus,hyu⟩:=hsrc;simp only[VR]at hs;obtain⟨hs,hf,_⟩:=hs;obtain⟨ws,rfl⟩:=hf hfl1
 cases hs with
 |sl _ _ _ _ hl hh=>
  have hxy:=DRL.append (D:=D) ⟨hl,hh⟩ hyu;refine⟨_,.sl (D.len t') (ws++us) false,?_,λρ' lv' =>?_,h⟩;unfold zp1;simp only[ht,hu,hi,hz];rw[<-c5,hus];simp only
  have hb:(zpl du&&decide (0<D.len t')&&decide (i.bytes<=524288)&&z.cells.size==D.len t'&&Nat.beq (D.len t') (D.len t')&&Nat.ble (ws.length+us.length) zdg)=true:=by
   have h1:Nat.beq (D.len t') (D.len t')=true:=Nat.beq_refl _;have h2:Nat.ble (ws.length+us.length) zdg=true:=by rw[Nat.ble_eq,hl,hyu.1];exact hroom
   simp only[Qag,Qbm,Qar];exact⟨⟨⟨⟨⟨c1,by omega⟩,c3⟩,by omega⟩,h1⟩,h2⟩
  rw[hb];simp only[VR];exact⟨.sl _ _ _ _ hxy.1 hxy.2,λh=>by omega,λh=>by cases h⟩
omit hD in
theorem yiu{T:Nat->Type}{ts:TS T}{op:Op}{s:Nat}(h:wrK ts op=some s):ybc ts op=some s:=by unfold ybc;rw[h]
omit hD in
theorem yon(hR:TRr D F ρ ts σ){op:Op}{s j:Nat}(h0:wrK ts op=none)(h:ybc ts op=some s)(hk:Keyed ρ s j):z13 ts s=true:=by
 unfold ybc at h;rw[h0]at h;dsimp only at h
 cases op <;> dsimp only at h <;> first|(cases h;done)|skip
 case store t a x=>
  split at h;split at h
  rename_i hl;injection h with h;subst h;exact hl
  cases h;cases h
 case call c=>
  split at h;split at h;split at h
  rename_i ho;injection h with h;subst h;exact z9x ho trivial
  rename_i ho;injection h with h;subst h;exact z9x ho trivial
  cases h;injection h with h;subst h;obtain⟨sl,h1,_⟩:=hk;have:=(Qaa.1 h1).1;rw[hR.nx]at this;omega;cases h;cases h
omit hD in
theorem y2o{H H':Heap}{e size:Nat}{s v:V}{ys:List V}(h:z0t H e size s ys=some (v,H')){j:Nat}(hj:j≠H.L.length)(hs:∀l i ver n,s = .hs l i ver 0 n false->l=H.lv∧i≠j):H'.L[j]? = H.L[j]? := by
 have push:∀o,(H.push o).L[j]? = H.L[j]? := λo=>by
  simp only[Heap.push];rw[Qbe];split;rfl;rw[Qcf (by simp;omega),Qcf (by omega)]
 unfold z0t at h;split at h;split at h;injection h with h;injection h with _ h;rw[<-h];split at h;injection h with h;injection h with _ h;rw[<-h];exact push _;cases h;split at h;split at h;injection h with h;injection h with _ h;rw[<-h];split at h;injection h with h;injection h with _ h;rw[<-h];exact push _;cases h;cases h;rename_i l i' ver n;obtain⟨hl,hi⟩:=hs _ _ _ _ rfl;split at h;split at h
 injection h with h;injection h with _ h;rw[<-h];unfold Heap.set;rw[Qbx hl];exact Qam hi;cases h;cases h;cases h
omit hD in
theorem yk8(hR:TRr D F ρ ts σ){op:Op}{s:Nat}{v:V}{H':Heap}(h0:wrK ts op=none)(h:ybc ts op=some s)(hx:ox P σ.H σ.ev op=some (v,H')){j:Nat}(hj:¬(Keyed ρ s j∨j=σ.H.L.length)):H'.L[j]? = σ.H.L[j]? := by
 unfold ybc at h;rw[h0]at h;dsimp only at h
 cases op <;> dsimp only at h <;> first|(cases h;done)|skip
 case store t a x=>
  split at h;rename_i s' τ n y off ha;split at h;injection h with h;subst h;have hv:=hR.ev ha;simp only[VR]at hv;obtain⟨sl,w,h1,h2,h3,h4,h5⟩:=hv;simp only[ox]at hx;unfold zaz at hx;split at hx
  cases hk:sl.k with
  |none=>rw[hk]at h5;rw[h5]at hx;cases hx
  |some i=>
   rw[hk]at h5;obtain⟨ver,m,_,h5⟩:=h5;rw[h5]at hx;dsimp only at hx;have hne:i≠j:=λe=>hj (.inl ⟨sl,h1,.inl (by rw[hk,e])⟩)
   split at hx;split at hx;split at hx;split at hx;injection hx with hx;injection hx with _ hx;rw[<-hx];unfold Heap.set;rw[Qbx hR.lv.symm];exact Qam hne;cases hx;cases hx;cases hx;cases hx
  cases hx;cases h;cases h
 case call c=>
  split at h;rename_i sx xx hcal hargs
  have key:∀{vs:V},σ.ev sx=vs->(∀l i ver n,vs = .hs l i ver 0 n false->l=σ.H.lv∧i≠j)->H'.L[j]? = σ.H.L[j]? := λ{vs} e hs=>by
   simp only[ox,hcal,hargs]at hx;split at hx;rename_i s0 x0 t0 u0 he _;injection he with he1 he2;subst he1;unfold hAppend at hx;split at hx;split at hx;split at hx;split at hx;rw[e]at hx;exact y2o hx (λe=>hj (.inr e)) hs;cases hx;cases hx;cases hx;cases hx;cases hx
  have own:∀{q:Nat},ts.ev sx=some (.own q)->(∃sl,ρ[q]? = some sl∧∀l i ver n,sl.v = .hs l i ver 0 n false->l=σ.H.lv∧sl.k=some i)->s=q->H'.L[j]? = σ.H.L[j]? := λ{q} hv ⟨sl,g1,g2⟩ e=>by
   subst e;have hw:=hR.ev hv;simp only[VR]at hw;obtain⟨sl',h1,h2,_⟩:=hw
   rw[g1]at h1;injection h1 with h1;subst h1
   exact key h2 λl i ver n e=>⟨(g2 l i ver n e).1,λe'=>hj (.inl ⟨sl,g1,.inl (by rw[(g2 l i ver n e).2,e'])⟩)⟩
  split at h;rename_i q hv;split at h;rename_i ho;injection h with h;obtain⟨sl,g1,g2⟩:=hR.ob _ _ ho;simp only[OR]at g2;refine own hv ⟨sl,g1,λl i ver n e =>?_⟩ h.symm;have g3:=g2.2.2
  cases hk:sl.k with
  |none=>rw[hk]at g3;rcases g3 with ⟨e',_⟩|⟨⟨e',_⟩,_⟩ <;> (rw[e']at e;cases e)
  |some i'=>rw[hk]at g3;obtain⟨ver',cp,e',_⟩:=g3;rw[e']at e;injection e with e1 e2;exact⟨by rw[hR.lv,e1],by rw[e2]⟩
  rename_i ho;injection h with h;obtain⟨sl,g1,g2⟩:=hR.ob _ _ ho;simp only[OR]at g2;refine own hv ⟨sl,g1,λl i ver n e =>?_⟩ h.symm;have g3:=g2.2
  cases hk:sl.k with
  |none=>rw[hk]at g3;rcases g3.2.1 with e'|e' <;> (rw[e']at e;cases e)
  |some i'=>rw[hk]at g3;obtain⟨ver',cp,fps,e',_⟩:=g3;rw[e']at e;injection e with e1 e2;exact⟨by rw[hR.lv,e1],by rw[e2]⟩
  cases h;rename_i hv;have hw:=hR.ev hv;simp only[VR]at hw;exact key hw λl i ver n e=>by cases e
  cases h;cases h
omit hD in
theorem zrs.call{ρ ρ':List Slot}{ts ts':TS D.T}{k:Nat}{rds:Rds}{wrs:Wrs}{prev:List (Nat×Info)}(hp:zrs (D:=D) ρ ts rds wrs prev){c:Info}(hc:c.eff=true)(hup:∀(s:Nat) (sl:Slot),ρ[s]? = some sl->ρ'[s]? = some sl) :
  zrs (D:=D) ρ' ts' (yqv ts' rds) ((k,none)::y1z none wrs) ((k,c)::prev):=by
 refine⟨λp hj hq =>?_,λp hj he =>?_⟩
 rcases Qbl.1 hj with rfl|hj
 rw[hc]at hq;cases hq
 rcases hp.q p hj hq with h|⟨R,hm,hR⟩
 exact .inl h
 cases R with
 |none=>exact .inr ⟨none,Qbg.2 ⟨(p.1,none),hm,rfl⟩,λl hl=>by cases hl⟩
 |some l=>
  cases hl:l.all (λq=>z13 ts' q.1)with
  |true=>
   refine .inr ⟨some l,Qbg.2 ⟨(p.1,some l),hm,by dsimp only;rw[hl]⟩,λl' e x hx =>?_⟩;injection e with e;subst e;obtain⟨q,a,_,b⟩:=hR l rfl x hx
   exact⟨q,a,Qat.1 hl q a,b.up hup⟩
  |false=>exact .inr ⟨none,Qbg.2 ⟨(p.1,some l),hm,by dsimp only;rw[hl]⟩,λl hl=>by cases hl⟩
 rcases Qbl.1 hj with rfl|hj
 exact⟨none,Qak,λs hs=>by cases hs⟩;obtain⟨w',hm,hw⟩:=hp.e p hj he;exact⟨none,Qai _ (Qbg.2 ⟨(p.1,w'),hm,rfl⟩),λs hs=>by cases hs⟩
theorem zks{R:Type}{ops:Array Oper}{Q:zz8->St->Prop}{kn:TS D.T->Option R}{kp:TV D.T->TS D.T->Option R}{r:R}(htbl:∀e∈tbl,e.Ok P)(hkn:∀ts' σ' ρ',TRr D F ρ' ts' σ'->kn ts'=some r->Q .normal σ')
  (hkp:∀z ts' σ' ρ' v,TRr D F ρ' ts' σ'->VR D ρ' F.lv z v->kp z ts'=some r->Q (.panic v) σ') :
  ∀(l:List Nat) (rds:Rds) (wrs:Wrs) (prev:List (Nat×Info)) {ts:TS D.T}{σ:St}{ρ:List Slot},TRr D F ρ ts σ->zrs (D:=D) ρ ts rds wrs prev->zab P D tbl ops.toList kn kp l rds wrs ts=some r ->
   zky P ops .any (Lvl F) (KpQ Q) (Q .normal) l prev σ
 |[],rds,wrs,prev,ts,σ,ρ,hR,hp,h=>hkn ts σ ρ hR h
 |k::l,rds,wrs,prev,ts,σ,ρ,hR,hp,h=>by
  simp only[zab]at h;split at h;cases h;rename_i o ho';have ho:ops[k]? = some o:=by simpa using ho'
  have one:∀{c:Info}{v:V}{H':Heap}{ts2:TS D.T}{ρ2:List Slot}{rds2:Rds}{wrs2:Wrs},c.call=false->MV P ops (Lvl F) c σ o v H'->GP .any ops prev k c->TRr D F ρ2 ts2 (z50 σ o v H')->zrs (D:=D) ρ2 ts2 rds2 wrs2 ((k,c)::prev)->zab P D tbl ops.toList kn kp l rds2 wrs2 ts2=some r ->
    zky P ops .any (Lvl F) (KpQ Q) (Q .normal) (k::l) prev σ:=λ{c v H' ts2 ρ2 rds2 wrs2} hcc hm hc hR2 hp2 h2=>
   ⟨o,c,ho,hc,.inl ⟨v,H',hcc,hm,zks htbl hkn hkp l rds2 wrs2 _ hR2 hp2 h2⟩⟩
  have emp:GP .any ops prev k (zs9 ρ []):=λp hj hf=>⟨λh=>(by cases h.2),λ_ h=>(by cases h),λ_ _ x ⟨s,hs,_⟩=>(by cases hs)⟩
  have mH:∀{v:V}{ts2:TS D.T}{ρ2:List Slot},TRr D F ρ2 ts2 (σ.put o.dst v)->TRr D F ρ2 ts2 (z50 σ o v σ.H):=λ{v ts2 ρ2} h=>h
  simp only[pOp]at h;refine zoz (n:=k) hR h (λts1 ho1 hR1 hw h1 =>?_) λts1 ho1 hR1 hw h1 =>?_
  ·have hp1:zrs (D:=D) ρ ts1 rds wrs prev:=by
    have hl:∀s,z13 ts1 s=z13 ts s:=λs=>by unfold z13;rw[ho1]
    exact⟨λp hj hq=>(hp.q p hj hq).imp_right λ⟨R,a,b⟩=>⟨R,a,λl e x hx=>by obtain⟨s,c,d,f⟩:=b l e x hx;exact⟨s,c,by rw[hl];exact d,f⟩⟩,λp hj he=>by obtain⟨w,a,b⟩:=hp.e p hj he;exact⟨w,a,λs e x hx=>by rw[hl];exact b s e x hx⟩⟩
   have hwt:=hw.wanted hR1;have hlv:Lvl F σ.H:=hR1.lv;split at h1
   ·rename_i heff;split at h1
    ·
     split at h1
     case h_2=>cases h1
     rename_i c hc;split at h1
     case h_2=>cases h1
     rename_i s x t u hcal hargs htys;split at h1
     case h_2=>cases h1
     rename_i sv xv hs hx;obtain⟨z,v,a1,a2,a3⟩:=ye6 h1 (hR1.ev hs) (hR1.ev hx);split at a3;rename_i ts2 hput;exact one (c:=zs9 ρ []) (v:=v) (H':=σ.H) rfl (.inr ⟨hwt,hlv,.inl ⟨rfl,rfl,λH'' k1 k2=>.inr (.inr (.inr (.inr ⟨c,s,x,t,u,hc,hcal,hargs,htys,a1⟩)))⟩⟩) emp (mH (hR1.put hput (a2 _ _))) (hp1.quiet (R:=[]) rfl (y7t hput)) a3;cases a3
    split at h1;rename_i hc;rw[Qag]at hc;obtain⟨hc1,hc2⟩:=hc
    have fin:∀{W:Nat->Prop}{v:V}{H':Heap}{z:TV D.T}{ts' ts2:TS D.T}{ρ2:List Slot},ox P σ.H σ.ev o.op=some (v,H')->(∀i,¬W i->H'.L[i]? = σ.H.L[i]?)->TRr D F ρ2 ts' {σ with H:=H'}->VR D ρ2 F.lv z v ->
      (∀s0,wrK ts1 o.op=some s0->(∀s,z13 ts1 s=true->z13 ts' s=true)∧∀(s:Nat) (sl:Slot),ρ[s]? = some sl->ρ2[s]? = some sl)->(∀s,wrK ts1 o.op=some s->∀x,W x->z13 ts' s=true∧Keyed ρ2 s x) ->
      (∀s,ybc ts1 o.op=some s->∀q x,z13 ts1 q=true->Keyed ρ q x->q≠s->¬W x)->ts'.put D o.dst z=some ts2->zab P D tbl ops.toList kn kp l (ybg (wrK ts1 o.op) rds) ((k,wrK ts1 o.op)::y1z (wrK ts1 o.op) wrs) ts2=some r ->
      zky P ops .any (Lvl F) (KpQ Q) (Q .normal) (k::l) prev σ :=
     λ{W v H' z ts' ts2 ρ2} g1 g2 g3 g4 g5 g6 g7 g8 g9=>by
      have hH:Lvl F H':=g3.lv;have ho2:=y7t g8;have hl2:∀s,z13 ts2 s=z13 ts' s:=λs=>by unfold z13;rw[ho2]
      exact one (c:=yor λx=>W x.1) rfl (.inr ⟨hwt,hlv,.inr ⟨rfl,trivial,.inl ⟨heff,g1⟩,hH,λx hx=>ygy (g2 x.1 hx)⟩⟩) (y7r hp1 hc1 hc2 λs e q x=>g7 s e q x.1) (g3.put g8 g4) (hp1.eff ⟨rfl,rfl⟩ (λs0 e=>⟨λs a=>by rw[hl2];exact(g5 s0 e).1 s a,(g5 s0 e).2⟩) λs e x hx=>by rw[hl2];exact g6 s e x.1 hx) g9
    have push:∀{cs:List (TV D.T)}{vs:List V}{ts2:TS D.T},wrK ts1 o.op=some ts1.nx->VRL D ρ F.lv cs vs->ox P σ.H σ.ev o.op=some (.ptr σ.H.lv σ.H.L.length 0,σ.H.push (.cells vs))->(ts1.new D (.cells cs)).put D o.dst (.ptr ts1.nx 0)=some ts2 ->
      zab P D tbl ops.toList kn kp l (ybg (wrK ts1 o.op) rds) ((k,wrK ts1 o.op)::y1z (wrK ts1 o.op) wrs) ts2=some r ->
      zky P ops .any (Lvl F) (KpQ Q) (Q .normal) (k::l) prev σ:=λ{cs vs ts2} g0 g1 g2 g3 g4=>by
     obtain⟨h3,h4⟩:=hR1.y1x hD g1;refine fin (W:=λi=>i=σ.H.L.length) g2 (λi hi =>?_) h3 h4 (λs0 _=>⟨λs a=>y4e hR1 a,λs sl h=>lookup_append h⟩) (λs hs x hx =>?_) (λs hs q x a b c e =>?_) g3 g4;simp only[Heap.push];rw[Qbe];split;rfl;rename_i hge;have hi:i≠σ.H.L.length:=hi;rw[Qcf (by simp;omega),Qcf (by omega)]
     rw[g0]at hs;injection hs with hs;subst hs
     refine⟨z9x (o:=.cells cs) (by simp only[TS.new,yz8,if_true]) trivial,⟨.any,some σ.H.L.length,[],[]⟩,by rw[<-hR1.nx];simp,.inl (by rw[hx])⟩;have:=zq6 hR1 a b;have e:x=σ.H.L.length:=e;omega
    have other:wrK ts1 o.op=none->tOp P D ts1 o.op (λv ts'=>match ts'.put D o.dst v with|some ts2=>zab P D tbl ops.toList kn kp l (ybg (wrK ts1 o.op) rds) ((k,wrK ts1 o.op)::y1z (wrK ts1 o.op) wrs) ts2|none=>none) (λ_=>none)=some r ->
      zky P ops .any (Lvl F) (KpQ Q) (Q .normal) (k::l) prev σ:=λg0 hh=>by
     rcases y87 hD hR1 hh with ⟨z,ts',v,H',ρ',a1,a2,a3,a4⟩|⟨s,hs⟩
     split at a4;rename_i ts2 hput;refine fin (W:=λj=>∀s,ybc ts1 o.op=some s->Keyed ρ s j∨j=σ.H.L.length) a1 (λi hi =>?_) a3 a2 (λs0 e=>by rw[g0]at e;cases e) (λs0 e=>by rw[g0]at e;cases e) (λs0 e q x b1 b2 b3 b4 =>?_) hput a4;simp only[Classical.not_forall]at hi;obtain⟨s,hs,hi⟩:=hi;exact yk8 hR1 g0 hs a1 hi;have hlt:=zq6 hR1 b1 b2
     rcases b4 s0 e with h|h
     exact b3 (zqk hR1 b1 (yon hR1 g0 e h) b2 h);omega;cases a4;cases hs
    cases hop:o.op with
    |alloc t=>
     rw[hop]at h1;simp only[tOp]at h1;split at h1;rename_i z hz;split at h1;rename_i hs;obtain⟨v,b1,b2⟩:=zgd (ρ:=ρ) (lv:=F.lv) hz;split at h1;rename_i ts2 hput;rw[<-hop]at h1;exact push (by rw[hop];rfl) (b2.cells hs) (by rw[hop];simp only[ox,y1d,b1];rw[Qbx (b2.zzi hs)]) hput h1;cases h1;cases h1
     cases h1
    |box t x=>
     rw[hop]at h1;simp only[tOp]at h1;split at h1;rename_i v hx;split at h1;rename_i hs;have b2:=hR1.ev hx;split at h1;rename_i ts2 hput;rw[<-hop]at h1;exact push (by rw[hop];rfl) (b2.cells hs) (by rw[hop];simp only[ox,ynb];rw[Qbx (b2.zzi hs)]) hput h1;cases h1;cases h1
     cases h1
    |store t a x=>
     by_cases hw0:wrK ts1 o.op=none;exact other hw0 h1;rw[hop]at h1;simp only[tOp]at h1;split at h1;rename_i av xv ha hx;rw[hop]at hw0;simp only[wrK,ha]at hw0;split at hw0;rename_i s off heq;injection heq with heq;subst heq;have hwk:wrK ts1 o.op=some s:=by rw[hop];simp only[wrK,ha]
     obtain⟨i,cs,cs',H',b1,b2,b3,b4,b5,b6,b7⟩:=yha hD hR1 h1 (hR1.ev ha) (hR1.ev hx);split at b7;rename_i ts2 hput;rw[<-hop]at b7
     have lset:∀q,z13 ts1 q=true->z13 (ts1.set D s (.cells cs')) q=true:=λq hq=>by
      obtain⟨o',c1,c2⟩:=zl2 hq;by_cases e:s=q;exact z9x (o:=.cells cs') (by simp only[TS.set,yz8,Qbx e]) trivial;exact z9x (o:=o') (by simp only[TS.set,yz8,Qby e];exact c1) c2
     have lives:z13 ts1 s=true:=z9x b2 trivial;refine fin (W:=λj=>j=i) (by rw[hop];simp only[ox];exact b3) (λj hj=>b4 j hj) b6 (by simp only[VR]) (λs0 _=>⟨lset,λ_ _ h=>h⟩) (λs0 hs x hx =>?_) (λs0 hs q x a b c e =>?_) hput b7
     rw[hwk]at hs;injection hs with hs;subst hs
     exact⟨lset s lives,by rw[hx];exact b1⟩
     rw[yiu hwk]at hs;injection hs with hs;subst hs
     subst e;exact c (zqk hR1 a lives b b1);cases b7;exact(hw0 rfl).elim
     cases h1
    |call c=>
     by_cases hw0:wrK ts1 o.op=none;exact other hw0 h1;have h1o:=h1;rw[hop]at h1;simp only[tOp]at h1;rw[hop]at hw0;simp only[wrK]at hw0;split at hw0;rename_i sx xx hcal hargs;split at h1;rename_i s x t u hcal' hargs' htys;rw[hargs]at hargs';injection hargs' with e1 e2;subst e1;have e3:=e2;injection e3 with e3 _;subst e3;split at h1;rename_i hs hx;exact(hw0 (by rw[hx];cases ts1.ev sx <;> rfl)).elim
     rename_i sv xv hnb hs hx;have hap:=yjw hw0;have hno:∀q,sv ≠ .own q:=λq e=>hap.2 q (by rw[hs,e])
     have hwk:wrK ts1 o.op=some ts1.nx:=by
      rw[hop];simp only[wrK,hcal,hargs];exact hap.1
     obtain⟨z,ts',v,H',ρ',a1,a2,a3,a4,a5⟩:=zrz hR1 h1 (hR1.ev hs) (hR1.ev hx);obtain⟨sl',o',rfl,rfl,q1,q2,q3⟩:=a5 hno;split at a4;rename_i ts2 hput;refine fin (W:=λi=>sl'.k=some i) (by rw[hop];simp only[ox,hcal,hargs,e2,htys];exact a1) (λi hi=>q3 i hi) a3 a2 (λs0 _=>⟨λs a=>y4e hR1 a,λs sl h=>lookup_append h⟩) (λs hss x hx =>?_) (λs hss q x a b c e =>?_) hput (by rw[hop];exact a4)
     rw[hwk]at hss;injection hss with hss;subst hss
     exact⟨z9x (o:=o') (by simp only[TS.new,yz8,if_true]) q1,sl',by rw[<-hR1.nx];simp,.inl hx⟩;have:=zq6 hR1 a b;have:=q2 x e;omega;cases a4;cases h1;rename_i s x hcal' hargs' htys;rw[hcal]at hcal';cases hcal'
     exfalso;simp[tP,tP1,hcal,FR.of]at h1
     exact(hw0 rfl).elim
    |_=>rw[hop]at heff;cases heff
    cases h1
   ·rename_i heff;split at h1
    ·
     split at h1
     case h_2=>cases h1
     rename_i hc;rw[Qag]at hc;obtain⟨hc1,hc2⟩:=hc;unfold tLit at h1;split at h1
     case h_2=>cases h1
     rename_i t len ps hop;split at h1
     case h_2=>cases h1
     rename_i e qs hu hqs;split at h1
     case h_2=>cases h1
     rename_i τ xs hb;obtain⟨p1,p2⟩:=hR1.parts hqs;obtain⟨v,b1,b2⟩:=zeb hD p1 p2 hb;simp only[VR]at b2;obtain⟨b2,b3,_⟩:=b2;obtain⟨ws,rfl⟩:=b3 (Qbw _)
     cases b2 with
     |sl _ _ _ _ hl hh=>
      have hlen:len≠0:=λe0=>by
       subst e0;unfold zdf at hb
       repeat (split at hb <;> try (first|(cases hb;done)|(injection hb with hb;injection hb with _ _ hb;cases hb;done)))
      have hn:=hR1.new (.acc e τ xs true) ⟨.hs σ.H.lv σ.H.L.length 0 0 ws.length false,some σ.H.L.length,ws,[]⟩ (σ.H.push (.arr 0 e (D.len τ) ws (some ws.length))) hR1.lv hR1.E (by simp[Heap.push]) (λi hi=>by simp only[Heap.push];rw[Qal hi]) (λi hi=>by injection hi with hi;omega) (by
       simp only[OR]
       exact⟨hl,hh,0,some ws.length,by rw[hR1.lv],by simp[Heap.push]⟩)
      dsimp only at h1;split at h1;rename_i ts2 hput;have hput:=hput;have ho2:=y7t hput;have hl2:∀s,z13 ts2 s=z13 (ts1.new D (.acc e τ xs true)) s:=λs=>by unfold z13;rw[ho2]
      refine one (c:=yor λx=>x.1=σ.H.L.length) (v:=.hs σ.H.lv σ.H.L.length 0 0 ws.length false) (H':=σ.H.push (.arr 0 e (D.len τ) ws (some ws.length))) rfl
       (.inr ⟨hwt,hlv,.inr ⟨rfl,trivial,.inr (.inr ⟨t,len,ps,e,D.len τ,ws,hop,b1,hlen,hu,rfl,rfl⟩),hn.lv,λx hx=>ygy (by
          have hx:x.1≠σ.H.L.length:=hx;simp only[Heap.push];rw[Qbe];split;rfl
          rw[Qcf (by simp;omega),Qcf (by omega)])⟩⟩)
       (y7r hp1 hc1 hc2 λs hs q x a b c e=>by
         have:=zq6 hR1 a b;have e:x.1=σ.H.L.length:=e
         omega)
       (hn.put hput (v:=.hs σ.H.lv σ.H.L.length 0 0 ws.length false) (by
         simp only[VR]
         exact⟨⟨.hs σ.H.lv σ.H.L.length 0 0 ws.length false,some σ.H.L.length,ws,[]⟩,by rw[<-hR1.nx];simp,rfl,rfl⟩))
       (hp1.eff (w:=some ts1.nx) ⟨rfl,rfl⟩ (λs0 _=>⟨λs a=>by rw[hl2];exact y4e hR1 a,λs sl h=>lookup_append h⟩) λs e x hx =>?_) h1
      injection e with e;subst e;refine⟨by rw[hl2];exact z9x (o:=.acc e τ xs true) (by simp only[TS.new,yz8,if_true]) trivial,⟨.hs σ.H.lv σ.H.L.length 0 0 ws.length false,some σ.H.L.length,ws,[]⟩,by rw[<-hR1.nx];simp,.inl (by rw[show x.1=σ.H.L.length from hx])⟩;cases h1
    split at h1;rename_i R hR0;split at h1;rename_i hc;rw[Qag]at hc;obtain⟨hc1,hc2⟩:=hc
    rcases y21 hD hR1 h1 with ⟨x,v,a1,a2,a3⟩|⟨s,hs⟩
    split at a3;rename_i ts2 hput;refine one (c:=zs9 ρ R) (v:=v) (H':=σ.H) rfl (.inr ⟨hwt,hlv,.inl ⟨rfl,rfl,λH'' k1 k2=>.inl ?_⟩⟩) (ydp hR1 hp1 hc1 hc2) (mH (hR1.put hput a2)) (hp1.quiet hc2 (y7t hput)) a3;rw[ymm hR1 hR0 k1 k2];exact a1;cases a3;cases hs;cases h1;split at h1;rename_i c hc;split at h1;rename_i x hcal;split at h1;rename_i f a b vs hx hvs;obtain⟨args,t1,t2⟩:=zqt hR1 hcal hx hvs;split at h1
    rcases zga hD hR1 t2 (λe he=>htbl e (List.mem_filter.1 he).1) h1 with ⟨⟨e,he,hne⟩,_⟩|⟨rv,e1,z,ρ',ts',e2,e3,e4,_⟩|⟨s,hs⟩
    have:=(List.mem_filter.1 he).2;rw[hne]at this;cases this;split at e4;rename_i ts2 hput;exact one (c:=zs9 ρ []) (v:=rv) (H':=σ.H) rfl (.inr ⟨hwt,hlv,.inl ⟨rfl,rfl,λH'' k1 k2=>.inr (.inl ⟨c,f,args,hc,t1,e1 _⟩)⟩⟩) emp (mH (hR1.put hput (e2 ρ))) (hp1.quiet (R:=[]) rfl (y7t hput)) e4;cases e4;cases hs;split at h1;rename_i hlat;rw[Qag]at hlat;obtain⟨hlat,hefs⟩:=hlat
    obtain⟨M,kc,Post,m1,m2,m3,m4,m7,m5,m6,m8⟩:=zmt hD hR1 t2 (λe he=>by
     obtain⟨e1,e2⟩:=List.mem_filter.1 he
     exact⟨htbl e e1,by simpa using e2⟩) h1
    have hpairs:=yh3 hR1 hp1 m8 m1 hefs m2;refine⟨o,yqo (yqe M kc ρ σ),ho,hpairs,.inr ⟨λj hj =>?_,rfl,rfl,hwt,c,f,args,Post,hc,t1,m3,λv H' hpo=>⟨(m4 _ H' hpo).1,λi hi =>?_,?_⟩,λv H' hpo =>?_⟩⟩;exact zhj (Qat.1 hlat j hj);have hi:¬¬_:=hi
    rcases Classical.not_not.1 hi with ⟨i1,i2⟩|⟨z,s,sl,z1,z2,z3,z4,z5⟩
    exact ygy ((m4 _ H' hpo).2 i.1 i1 i2);unfold obs;rw[z3];exact congrArg (Prod.mk none) (m7 v H' hpo z z1 s sl i.1 z2 z4 z5);obtain⟨z,ts',ρ',k1,k2,k3,k4⟩:=m5 v H' hpo;split at k3;rename_i ts2 hput;exact zks htbl hkn hkp l _ _ _ (k2.put hput k1) (hp1.call rfl k4) k3;cases k3;obtain⟨z,ts',ρ',k1,k2,k3⟩:=m6 v H' hpo;intro t' ht';refine hkp z _ _ ρ' v ?_ k1 k3
    exact⟨k2.nx,ht'.trans k2.nt,λj x hj=>by simp[fnd]at hj,k2.ob,k2.inj,k2.mine,k2.lv,k2.E,k2.e0,k2.d,k2.out,k2.pin,k2.fpl,k2.g⟩;cases h1;cases h1;cases h1;cases h1
  have hp1:zrs (D:=D) ρ ts1 rds wrs prev:=by
   have hl:∀s,z13 ts1 s=z13 ts s:=λs=>by unfold z13;rw[ho1]
   exact⟨λp hj hq=>(hp.q p hj hq).imp_right λ⟨R,a,b⟩=>⟨R,a,λl e x hx=>by obtain⟨s,c,d,f⟩:=b l e x hx;exact⟨s,c,by rw[hl];exact d,f⟩⟩,λp hj he=>by obtain⟨w,a,b⟩:=hp.e p hj he;exact⟨w,a,λs e x hx=>by rw[hl];exact b s e x hx⟩⟩
  split at h1;rename_i ts2 hput;exact one (c:=zs9 ρ []) (v:=.tup []) (H':=σ.H) rfl (.inl ⟨hw,rfl,rfl⟩) emp (mH (hR1.put hput (v:=.tup []) (by simp only[VR];exact⟨[],rfl,by simp only[VRL]⟩))) (hp1.quiet (R:=[]) rfl (y7t hput)) h1;cases h1
theorem zor{R:Type}{ops:List Oper}{r:R}{k:TS D.T->Option R}:∀(n:Nat) {ts:TS D.T}{ρ:List Slot},TRr D F ρ ts σ->yck P D ops n ts k=some r->∃ts' ρ',TRr D F ρ' ts' σ∧k ts'=some r
 |0,ts,ρ,hR,h=>⟨ts,ρ,hR,h⟩
 |n+1,ts,ρ,hR,h=>by
  rw[yck]at h;split at h;obtain⟨ts',ρ',_,_,_,_,_,_,_,g1,g2,_⟩:=y86 hD hR h;exact zor n g2 g1;exact⟨ts,ρ,hR,h⟩
theorem y0h{R:Type}{id:Nat}{ops:Array Oper}{d:Bool}{Q:zz8->St->Prop}{kn:TS D.T->Option R}{kp:TV D.T->TS D.T->Option R}{r:R}(htbl:∀e∈tbl,e.Ok P)
  (hkn:∀ts' σ' ρ',TRr D F ρ' ts' σ'->kn ts'=some r->Q .normal σ') (hkp:∀z ts' σ' ρ' v,TRr D F ρ' ts' σ'->VR D ρ' F.lv z v->kp z ts'=some r->Q (.panic v) σ')
  (hR:TRr D F ρ ts σ) (h:zw0 P D tbl ops d ts kn kp=some r):Sat P (.region id ops d) σ Q:=by
 unfold zw0 at h;split at h;rename_i hd;subst hd;simp only at h;split at h;rename_i hm;split at h;split at h;rename_i hB;obtain⟨ans,σ',cl,ts',b1,b2,b3,b4⟩:=z7v hD htbl ops.toList hR h;exact yo1 hm hB ans σ' cl b1 b2 (hkn ts' σ' ρ b3 b4);cases h;split at h;rename_i hB;obtain⟨ts',ρ',g2,g1⟩:=zor hD 4 hR h;obtain⟨ans,σ',cl,ts',b1,b2,b3,b4⟩:=z7v hD htbl _ g2 g1
 exact ylw _ hm hB ans σ' cl b1 b2 (zdy hD htbl hkn hkp _ _ (λj=>by simp) b3 b4);split at h;rename_i hB;simp only[Qag]at hB;obtain⟨⟨h1,h2⟩,h3⟩:=hB
 refine yop hm _ h1 (Qaj h2) (λj hj =>?_) (by
  obtain⟨ts',ρ',g2,g1⟩:=zor hD 4 hR h
  exact zks hD htbl hkn hkp _ [] [] [] g2 ⟨λp hp=>(by cases hp),λp hp=>(by cases hp)⟩ g1)
 have h4:=Qat.1 h3 j (List.mem_range.2 hj);obtain⟨q,hq,he⟩:=List.any_eq_true.1 h4;rw[Qaj he];exact hq;cases h;cases h;rename_i hd;have hd:d=false:=by simpa using hd
 subst hd;exact ynk (zdy hD htbl hkn hkp ops.toList 0 (λj=>by simp) hR h)
end
section
variable {P : Program}
def zwn(P:Program)(c:Code)(σ:St)(Q:zz8->St->Prop):Prop :=
 ∀W0 g0 H0 W a g,yov W0 g0 H0->(σ.e0=H0.E∧Step W0 g0 H0 W g σ.H)->zz9 W a g σ->ztt P c (y55 W0 g0 H0 Q) a W
theorem zwn.sat{c:Code}{σ:St}{Q:zz8->St->Prop}(h:zwn P c σ Q):Sat P (.loop c) σ Q:=λW0 g0 H0 W a g hB hS hG=>(h W0 g0 H0 W a g hB hS hG).wp
theorem zwn.round{c:Code}{σ:St}{Q:zz8->St->Prop}(h:Sat P c σ (zz8.then (λσ'=>zwn P c σ' Q) Q)):zwn P c σ Q:=λW0 g0 H0 W a g hB hS hG=>by
 refine ztt.round (zq9 (h W0 g0 H0 W a g hB hS hG) λe a w ⟨g,σ,e',h1,h2,h3,h4⟩ =>?_)
 cases h1 with
 |normal=>exact h4 W0 g0 H0 w a g hB h2 h3
 |exit id=>exact⟨g,σ,_,.exit id,h2,h3,h4⟩
 |ret=>exact⟨g,σ,_,.ret,h2,h3,h4⟩
 |panic v c hr=>exact⟨g,σ,_,.panic v c hr,h2,h3,h4⟩
end
section
variable {P : Program} {D : Dat} {F : Fr} {R : Type}
structure KOk(D:Dat)(F:Fr)(K:Ks D.T R)(Q:zz8->St->Prop)(r:R):Prop where
 kn:∀ts σ,TR D F ts σ->K.kn ts=some r->Q .normal σ
 kx:∀id k ts σ,fnd K.kx id=some k->TR D F ts σ->k ts=some r->Q (.exit id) σ
 kr:∀ts σ,TR D F ts σ->K.kr ts=some r->Q .ret σ
 kp:∀z ts σ ρ v,TRr D F ρ ts σ->VR D ρ F.lv z v->K.kp z ts=some r->Q (.panic v) σ
def AC.Claim(P:Program)(a:AC)(σ:St)(Q:zz8->St->Prop):Prop :=
 match a with
 |.loop b=>zwn P b.erase σ Q
 |.rng lf g p a b=>ze8 P lf∧(calm a.erase&&calm b.erase)=true∧∀k,zv9 P lf g p a.erase b.erase Q k σ
 |a=>Sat P a.erase σ Q
theorem AC.Claim.sat{a:AC}{σ:St}{Q:zz8->St->Prop}(h:a.Claim P σ Q):Sat P a.erase σ Q:=by
 cases a <;> first|exact h|exact zwn.sat h|exact ypq h.1 h.2.1 h.2.2
def zvd(P:Program)(φ:Nat->AC->(zz8->St->Prop)->Prop):AC->(zz8->St->Prop)->Prop
 |.seq a b,Q=>zvd P φ a (zz8.then (λσ=>Sat P b.erase σ Q) Q)∧zvd P φ b Q
 |.cond _ a b,Q=>zvd P φ a Q∧zvd P φ b Q
 |.block id a,Q=>zvd P φ a (zz8.inBlock id Q)
 |.loop a,Q=>zvd P φ a (zz8.then (λσ=>zwn P a.erase σ Q) Q)
 |.lab l a,Q=>φ l a Q∧zvd P φ a Q
 |_,_=>True
def AC.site(P:Program)(l:Nat):AC->(zz8->St->Prop)->Option (AC×(zz8->St->Prop))
 |.seq a b,Q=>match AC.site P l a (zz8.then (λσ=>Sat P b.erase σ Q) Q)with
  |some x=>some x
  |none=>AC.site P l b Q
 |.cond _ a b,Q=>match AC.site P l a Q with
  |some x=>some x
  |none=>AC.site P l b Q
 |.block id a,Q=>AC.site P l a (zz8.inBlock id Q)
 |.loop a,Q=>AC.site P l a (zz8.then (λσ=>zwn P a.erase σ Q) Q)
 |.lab l' a,Q=>match Nat.beq l' l with
  |true=>some (a,Q)
  |false=>AC.site P l a Q
 |_,_=>none
theorem z8h{l:Nat}:∀{c:AC}{Q:zz8->St->Prop}{x:AC×(zz8->St->Prop)},c.site P l Q=some x->l∈c.labels
 |.seq a b,Q,x,h=>by
  simp only[AC.site]at h;split at h;rename_i y hy;exact List.mem_append_left _ (z8h hy)
  exact List.mem_append_right _ (z8h h)
 |.cond _ a b,Q,x,h=>by
  simp only[AC.site]at h;split at h;rename_i y hy;exact List.mem_append_left _ (z8h hy)
  exact List.mem_append_right _ (z8h h)
 |.block id a,Q,x,h=>z8h (c:=a) h
 |.loop a,Q,x,h=>z8h (c:=a) h
 |.lab l' a,Q,x,h=>by
  simp only[AC.site]at h;split at h;rename_i e;rw[Qaj e];exact Qak
  exact Qai _ (z8h h)
 |.skip,Q,x,h=>by cases h
 |.region _ _ _,Q,x,h=>by cases h
 |.exit _,Q,x,h=>by cases h
 |.ret,Q,x,h=>by cases h
 |.rng _ _ _ _ _,Q,x,h=>by cases h
 |.other _,Q,x,h=>by cases h
theorem y89{l:Nat}{c:AC}{Q:zz8->St->Prop}(h:l∉c.labels):c.site P l Q=none:=by
 cases hs:c.site P l Q with
 |none=>rfl
 |some x=>exact(h (z8h hs)).elim
theorem zep{φ:Nat->AC->(zz8->St->Prop)->Prop}:∀{c:AC}{Q:zz8->St->Prop},c.labels.Nodup->(∀l a Q',c.site P l Q=some (a,Q')->φ l a Q')->zvd P φ c Q
 |.seq a b,Q,hn,h=>by
  simp only[AC.labels]at hn;have hn:=List.nodup_append.1 hn;refine⟨zep hn.1 λl x Q' hs=>h l x Q' (by simp only[AC.site,hs]),zep hn.2.1 λl x Q' hs=>h l x Q' ?_⟩;have hl:=z8h hs;simp only[AC.site,y89 (P:=P) (Q:=zz8.then (λσ=>Sat P b.erase σ Q) Q) (λhm=>hn.2.2 l hm l hl rfl)]
  exact hs
 |.cond _ a b,Q,hn,h=>by
  simp only[AC.labels]at hn;have hn:=List.nodup_append.1 hn;refine⟨zep hn.1 λl x Q' hs=>h l x Q' (by simp only[AC.site,hs]),zep hn.2.1 λl x Q' hs=>h l x Q' ?_⟩;have hl:=z8h hs;simp only[AC.site,y89 (P:=P) (Q:=Q) (λhm=>hn.2.2 l hm l hl rfl)]
  exact hs
 |.block id a,Q,hn,h=>zep (c:=a) hn λl x Q' hs=>h l x Q' hs
 |.loop a,Q,hn,h=>zep (c:=a) hn λl x Q' hs=>h l x Q' hs
 |.lab l' a,Q,hn,h=>by
  simp only[AC.labels,List.nodup_cons]at hn;refine⟨h l' a Q (by simp only[AC.site,Nat.beq_refl]),zep hn.2 λl x Q' hs=>h l x Q' ?_⟩;have hl:=z8h hs
  have:Nat.beq l' l=false:=by
   cases e:Nat.beq l' l with
   |false=>rfl
   |true=>have:=Qaj e;subst this;exact(hn.1 hl).elim
  simp only[AC.site,this]
  exact hs
 |.skip,Q,hn,h=>trivial
 |.region _ _ _,Q,hn,h=>trivial
 |.exit _,Q,hn,h=>trivial
 |.ret,Q,hn,h=>trivial
 |.rng _ _ _ _ _,Q,hn,h=>trivial
 |.other _,Q,hn,h=>trivial
variable {J : Nat → TS D.T → Option R} {tbl : List (Ent D)} {r : R} (hD : D.Ok P) (htbl : ∀ e ∈ tbl, e.Ok P)
def LOk(P:Program)(D:Dat)(F:Fr)(J:Nat->TS D.T->Option R)(r:R)(l:Nat)(a:AC)(Q:zz8->St->Prop):Prop:=∀ts σ,TR D F ts σ->J l ts=some r->a.Claim P σ Q
include hD htbl
theorem z5c:∀{c:AC}{ts:TS D.T}{σ:St}{K:Ks D.T R}{Q:zz8->St->Prop},KOk D F K Q r->zvd P (LOk P D F J r) c Q->TR D F ts σ->run P D tbl J c ts K=some r->Sat P c.erase σ Q
 |.skip,ts,σ,K,Q,hK,hL,hT,h=>ymi (hK.kn ts σ hT h)
 |.region id ops d,ts,σ,K,Q,hK,hL,hT,h=>by
  have h1:∀ts,TR D F ts σ->TR D F (pre1 P D tbl ops ts) σ:=λts hT=>by
   unfold pre1;split;split;exact TR.freeze hD hT ‹_›;exact hT;exact hT
  have hT:TR D F (pre P D tbl ops d ts) σ:=by
   unfold pre;split;exact h1 _ (h1 _ hT);exact hT
  obtain⟨τ,ρ,h1,h2⟩:=hT
  exact yby h1 (y0h hD htbl (λts' σ' ρ' hR hk=>hK.kn ts' σ' hR.tr hk) (λz ts' σ' ρ' v=>hK.kp z ts' σ' ρ' v) h2 h)
 |.seq a b,ts,σ,K,Q,hK,hL,hT,h=>by
  simp only[run]at h
  exact yp7 (z5c (K:={K with kn:=λts=>run P D tbl J b ts K}) (Q:=zz8.then (λσ=>Sat P b.erase σ Q) Q) ⟨λts σ hT hk=>z5c hK hL.2 hT hk,hK.kx,hK.kr,hK.kp⟩ hL.1 hT h)
 |.cond c a b,ts,σ,K,Q,hK,hL,hT,h=>by
  simp only[run]at h;obtain⟨τ,ρ,h1,h2⟩:=hT;refine yby h1 ?_;split at h;rename_i v hv;have he:=h2.ev hv;simp only[VR]at he;split at h;rename_i t;obtain⟨w,e1,e2⟩:=h2.tm t _ hv;simp only[VR]at e2;subst e2;refine yev he (λhb =>?_) λhb =>?_
  subst hb;exact z5c hK hL.1 (h2.tell e1 (by simp only[VR])).tr h;subst hb;exact z5c hK hL.2 (h2.tell e1 (by simp only[VR])).tr h;refine yev he (λhb =>?_) λhb =>?_
  subst hb;exact z5c hK hL.1 h2.tr h;subst hb;exact z5c hK hL.2 h2.tr h
  cases h
 |.block id a,ts,σ,K,Q,hK,hL,hT,h=>by
  simp only[run]at h;refine yju (z5c (K:={K with kx:=(id,K.kn)::K.kx}) (Q:=zz8.inBlock id Q) ⟨λts σ hT hk=>hK.kn ts σ hT hk,λid' k ts σ hf hT hk =>?_,hK.kr,hK.kp⟩ hL hT h);replace hf:fnd ((id,K.kn)::K.kx) id'=some k:=hf;rw[yz8]at hf;show ym5 (Nat.beq id' id) (Q .normal σ) (Q (.exit id') σ);split at hf;rename_i e;injection hf with hf;subst hf;subst e;rw[Nat.beq_refl];exact hK.kn ts σ hT hk;rename_i e
  have:Nat.beq id' id=false:=by
   cases e':Nat.beq id' id with
   |false=>rfl
   |true=>exact(e (Qaj e').symm).elim
  rw[this]
  exact hK.kx id' k ts σ hf hT hk
 |.loop a,ts,σ,K,Q,hK,hL,hT,h=>by simp[run]at h
 |.exit id,ts,σ,K,Q,hK,hL,hT,h=>by
  simp only[run]at h;split at h;rename_i k hk;exact yp1 (hK.kx id k ts σ hk hT h)
  cases h
 |.ret,ts,σ,K,Q,hK,hL,hT,h=>yp6 (hK.kr ts σ hT h)
 |.lab l a,ts,σ,K,Q,hK,hL,hT,h=>(hL.1 ts σ hT h).sat
 |.rng _ _ _ _ _,ts,σ,K,Q,hK,hL,hT,h=>by simp[run]at h
 |.other c,ts,σ,K,Q,hK,hL,hT,h=>by simp[run]at h
omit hD htbl in
theorem yrg{ρ ρ':List Slot}(h:∀(j:Nat) (sl:Slot),ρ[j]? = some sl->ρ'[j]? = some sl):ρ'=ρ++ρ'.drop ρ.length:=by
 apply List.ext_getElem?;intro j;rw[Qbe];split;rename_i hj;rw[Qab hj,h j _ (Qab hj)];rename_i hj;rw[Qbf,show ρ.length+(j-ρ.length)=j by omega]
omit hD htbl in
theorem y9q{ρ:List Slot}{ts ts':TS D.T}{τ σ' τs:St}(hR:TRr D F ρ ts τ)(hT:TR D {F with pin:=ρ} ts' σ'){e:zz8}{φ:zz8->St->Prop}(he:∀v,e ≠ .panic v)
  (h:∀σ'' e',TRr D F (ρ++e') (ts.back ts') σ''->φ e σ''):RQ τ τs φ e σ':=by
 refine⟨he,λWb gb W g a a3 gB hS hGb hG3 =>?_⟩;obtain⟨τ',ρ',hw,hR'⟩:=hT;obtain⟨g',hS',hG'⟩:=hw Wb gb τs.H W a3 g ⟨gB⟩ hS hG3;have hρ:=yrg (ρ:=ρ) (ρ':=ρ') λj sl hj=>hR'.pin j sl hj
 refine⟨{τ with H:=τ'.H},g',hGb.later hS'.2 hG'.good,⟨?_,hS'.2⟩,h _ (ρ'.drop ρ.length) ?_⟩;show τ.e0=_;rw[hR.e0,<-hS'.1,hR'.e0];rw[<-hρ]
 exact⟨hR'.nx,hR.nt,λj x hj=>(let ⟨v,h1,h2⟩:=hR.tm j x hj;⟨v,h1,by rw[hρ];exact h2.more _⟩),hR'.ob,hR'.inj,hR'.mine,hR'.lv,hR'.E,hR.e0,by rw[hρ];exact hR.d.more _,hR'.out,
  λj sl hj=>hR'.pin j sl (hR.pin j sl hj),hR'.fpl,hR'.g⟩
omit hD htbl in
theorem TRr.mark{ρ:List Slot}{ts:TS D.T}{σ:St}(hR:TRr D F ρ ts σ):TRr D F ρ ts.mark σ.marked :=
 ⟨hR.nx,hR.nt,hR.tm,hR.ob,hR.inj,hR.mine,hR.lv,hR.E,hR.e0,⟨[],σ.d,rfl,by simp only[VRL],hR.d⟩,hR.out,hR.pin,hR.fpl,hR.g⟩
omit hD htbl in
theorem ybh{α β:Type}(f:α->β):∀(l:List (Nat×α)) (i:Nat) {y:β},fnd (l.map λq=>(q.1,f q.2)) i=some y->∃x,fnd l i=some x∧f x=y
 |[],i,y,h=>by simp[fnd]at h
 |q::l,i,y,h=>by
  rw[List.map_cons,yz8]at h;rw[yz8];split at h
  rename_i e;rw[Qbx e];injection h with h;exact⟨q.2,rfl,h⟩
  rename_i e;rw[Qby e];exact ybh f l i h
theorem ykp{l lf p:Nat}{g:Operand}{a b:AC}{K:Ks D.T R}{ts:TS D.T}{σ:St}{Q:zz8->St->Prop}(hF:F.E=F.e0)(hl:ze8 P lf)(hK:KOk D F K Q r)(hJ:LOk P D F J r l (.rng lf g p a b) Q)(hT:TR D F ts σ)
  (h:yfm P D tbl J l lf g p a b K ts=some r):(AC.rng lf g p a b).Claim P σ Q:=by
 unfold yfm at h;split at h
 case h_2=>cases h
 rename_i hla hlb hcalm;refine⟨hl,hcalm,λn =>?_⟩;split at h
 case h_2=>cases h
 rename_i f k hg;split at h
 case h_2=>cases h
 rename_i s hbeq hobj;have hf:=Qaj hbeq;subst hf;obtain⟨_,hcap,h⟩:=z0o h;unfold capS at hcap;split at hcap
 case isFalse=>cases hcap
 rename_i hcap;obtain⟨τ,ρ,hw,hR⟩:=hT;have hev:=hR.ev hg;simp only[VR,VRL]at hev;obtain⟨as,bs,e1,rfl,v,rr,rfl,⟨sl,i,e2,e3,rfl⟩,rfl⟩:=hev;obtain⟨sl',e4,ho⟩:=hR.ob k _ hobj
 rw[e2]at e4;injection e4 with e4;subst e4
 simp only[OR,VRL,VR]at ho;obtain⟨i',vs,e5,e6,v,rr,rfl,rfl,rfl⟩:=ho
 rw[e3]at e5;injection e5 with e5;subst e5
 have hget:∀{υ:St}{i:Nat}{o:zz4},υ.H.L[i]? = some (some o)->υ.H.get υ.H.lv i=some o:=λ{υ i o} h=>by
  unfold Heap.get;rw[Qbx rfl,h];rfl
 unfold zv9;refine⟨τ,i,s,hw,by rw[hR.e0,hR.E,hF],by rw[e1,hR.lv],hget e6,by assumption,λhs =>?_,λhs hlen =>?_⟩;rw[yld.2 hs]at h;exact hK.kn _ _ hR.mark.tr h
 ·have hns:noS s=false:=by
   cases hq:noS s with
   |false=>rfl
   |true=>exact(hs (yld.1 hq)).elim
  rw[hns]at h;simp only[pIf]at h
  cases n with
  |zero=>exact hs (Qao (by omega))
  |succ n=>
  split at h
  case h_2=>cases h
  rename_i ts1 hput
  have hR0:TRr D {F with pin:=ρ} ρ {ts with d:=[]} {τ with d:=[]} :=
   ⟨hR.nx,hR.nt,hR.tm,hR.ob,hR.inj,hR.mine,hR.lv,hR.E,hR.e0,rfl,hR.out,λj sl hj=>hj,hR.fpl,hR.g⟩
  have hR1:=hR0.put hput (v:=.str (lnA s)) (by simp only[VR])
  have ho1:fnd ts1.o k=some (.cells [.str s]):=by
   simp only[TS.put]at hput;split at hput;injection hput with hput;subst hput;exact hobj;cases hput
  have hR2:=hR1.upd ho1 trivial e2 e3 (.cells [.str (lnB s)]) (.cells [.str (lnB s)]) (by
   simp only[OR,VRL,VR]
   exact⟨i,[.str (lnB s)],e3,Qaq (Qaa.1 e6).1,_,_,rfl,rfl,rfl⟩)
  have hst:(τ.begin p i s)={({τ with d:=[]}:St).put (some p) (.str (lnA s))with H:={τ.H with L:=τ.H.L.set i (some (.cells [.str (lnB s)]))}}:=by
   show St.mk _ _ _ _=St.mk _ _ _ _
   congr 1
   unfold Heap.set;rw[Qbx rfl]
  rw[hst]
  have labs0:∀{c:AC}{Q:zz8->St->Prop},c.labels=[]->zvd P (LOk P D {F with pin:=ρ} J r) c Q:=λ{c Q} hc=>zep (by rw[hc];exact .nil) λl' x Q' hs=>by
   have:=z8h hs;rw[hc]at this;cases this
  refine z5c hD htbl (F:={F with pin:=ρ}) (c:=a) ⟨λts2 σ2 hT2 hk2 =>?_,λid k' ts' σ' hk'=>(by simp[fnd]at hk'),λts' σ' _ hk'=>(by cases hk'),λz ts' σ' ρ' v _ _ hk'=>(by cases hk')⟩ (labs0 hla) hR2.tr h;refine z5c hD htbl (F:={F with pin:=ρ}) (c:=b) ⟨λts' σ' hT' hk' =>?_,λid k' ts' σ' hk' hT' hr' =>?_,λts' σ' hT' hk' =>?_,λz ts' σ' ρ' v _ _ hk'=>(by cases hk')⟩ (labs0 hlb) hT2 hk2
  ·refine y9q hR hT' (λv e=>by cases e) λσ'' e' hR'' =>?_
   dsimp only at hk';split at hk'
   case h_2=>cases hk'
   rename_i s' hs';obtain⟨_,hq,hj⟩:=z0o hk';unfold yll at hq;split at hq
   case isFalse=>cases hq
   rename_i heq;subst heq;obtain⟨sl3,w1,w2⟩:=hR''.ob k _ hs';rw[Qal (Qaa.1 e2).1,e2]at w1;injection w1 with w1;subst w1;simp only[OR,VRL,VR]at w2;obtain⟨i',vs,w3,w4,v,rr,rfl,rfl,rfl⟩:=w2
   rw[e3]at w3;injection w3 with w3;subst w3
   refine⟨?_,(hJ _ _ hR''.tr hj).2.2 n⟩;have:=hget w4;rw[hR''.lv]at this;rw[hR.lv];exact this
  dsimp only at hk';obtain⟨k0,h1,h2⟩:=ybh (λk (ts':TS D.T)=>k (ts.back ts').mark) K.kx id hk';refine y9q hR hT' (λv e=>by cases e) λσ'' e' hR'' =>?_
  subst h2;exact hK.kx id k0 _ _ h1 hR''.mark.tr hr';refine y9q hR hT' (λv e=>by cases e) λσ'' e' hR'' =>?_
  exact hK.kr _ _ hR''.mark.tr hk'
omit hD htbl in
theorem zh0{l:Nat}:∀{c:AC}{K:Ks D.T R}{kl:TS D.T->Option R}{Q:zz8->St->Prop},AC.at P D tbl J l c K kl=none->c.site P l Q=none
 |.seq a b,K,kl,Q,h=>by
  simp only[AC.at]at h;split at h;cases h;rename_i hn;simp only[AC.site];rw[zh0 hn]
  exact zh0 h
 |.cond _ a b,K,kl,Q,h=>by
  simp only[AC.at]at h;split at h;cases h;rename_i hn;simp only[AC.site];rw[zh0 hn]
  exact zh0 h
 |.block id a,K,kl,Q,h=>zh0 (c:=a) (K:={K with kx:=(id,K.kn)::K.kx}) (kl:=λ_=>none) h
 |.loop a,K,kl,Q,h=>zh0 (c:=a) (K:={K with kn:=kl}) (kl:=λ_=>none) h
 |.lab l' a,K,kl,Q,h=>by
  simp only[AC.at]at h;split at h;cases h;rename_i e;simp only[AC.site,e]
  exact zh0 (c:=a) h
 |.skip,K,kl,Q,h=>rfl
 |.region _ _ _,K,kl,Q,h=>rfl
 |.exit _,K,kl,Q,h=>rfl
 |.ret,K,kl,Q,h=>rfl
 |.rng _ _ _ _ _,K,kl,Q,h=>rfl
 |.other _,K,kl,Q,h=>rfl
theorem zfs{l:Nat}:∀{c:AC}{K:Ks D.T R}{kl:TS D.T->Option R}{Q:zz8->St->Prop}{f:TS D.T->Option R},F.E=F.e0->(∀q∈c.zg7,ze8 P q)->KOk D F K Q r->(∀b,c = .loop b->∀ts σ,TR D F ts σ->kl ts=some r->zwn P b.erase σ Q)->zvd P (LOk P D F J r) c Q->AC.at P D tbl J l c K kl=some f ->
  ∃a Q',c.site P l Q=some (a,Q')∧∀ts σ,TR D F ts σ->f ts=some r->a.Claim P σ Q'
 |.seq a b,K,kl,Q,f,hF,hr,hK,hkl,hL,h=>by
  simp only[AC.at]at h;split at h;rename_i g hg;injection h with h;subst h;obtain⟨x,Q',h1,h2⟩:=zfs (c:=a) (K:={K with kn:=λts=>run P D tbl J b ts K}) (Q:=zz8.then (λσ=>Sat P b.erase σ Q) Q) hF (λq hq=>hr q (List.mem_append_left _ hq)) ⟨λts σ hT hk=>z5c hD htbl hK hL.2 hT hk,hK.kx,hK.kr,hK.kp⟩ (λ_ _ ts σ _ hk=>by cases hk) hL.1 hg;exact⟨x,Q',by simp only[AC.site,h1],h2⟩;rename_i hn
  obtain⟨x,Q',h1,h2⟩:=zfs (c:=b) hF (λq hq=>hr q (List.mem_append_right _ hq)) hK (λ_ _ ts σ _ hk=>by cases hk) hL.2 h;refine⟨x,Q',?_,h2⟩;simp only[AC.site];rw[zh0 hn]
  exact h1
 |.cond _ a b,K,kl,Q,f,hF,hr,hK,hkl,hL,h=>by
  simp only[AC.at]at h;split at h;rename_i g hg;injection h with h;subst h;obtain⟨x,Q',h1,h2⟩:=zfs (c:=a) hF (λq hq=>hr q (List.mem_append_left _ hq)) hK (λ_ _ ts σ _ hk=>by cases hk) hL.1 hg;exact⟨x,Q',by simp only[AC.site,h1],h2⟩;rename_i hn;obtain⟨x,Q',h1,h2⟩:=zfs (c:=b) hF (λq hq=>hr q (List.mem_append_right _ hq)) hK (λ_ _ ts σ _ hk=>by cases hk) hL.2 h;refine⟨x,Q',?_,h2⟩;simp only[AC.site];rw[zh0 hn]
  exact h1
 |.block id a,K,kl,Q,f,hF,hr,hK,hkl,hL,h=>by
  simp only[AC.at]at h;refine zfs (c:=a) hF hr (K:={K with kx:=(id,K.kn)::K.kx}) (Q:=zz8.inBlock id Q) ⟨λts σ hT hk=>hK.kn ts σ hT hk,λid' k ts σ hf hT hk =>?_,hK.kr,hK.kp⟩ (λ_ _ ts σ _ hk=>by cases hk) hL h;replace hf:fnd ((id,K.kn)::K.kx) id'=some k:=hf;rw[yz8]at hf;show ym5 (Nat.beq id' id) (Q .normal σ) (Q (.exit id') σ);split at hf;rename_i e;injection hf with hf;subst hf;subst e;rw[Nat.beq_refl]
  exact hK.kn ts σ hT hk;rename_i e
  have:Nat.beq id' id=false:=by
   cases e':Nat.beq id' id with
   |false=>rfl
   |true=>exact(e (Qaj e').symm).elim
  rw[this]
  exact hK.kx id' k ts σ hf hT hk
 |.loop a,K,kl,Q,f,hF,hr,hK,hkl,hL,h=>by
  simp only[AC.at]at h
  exact zfs (c:=a) hF hr (K:={K with kn:=kl}) (Q:=zz8.then (λσ=>zwn P a.erase σ Q) Q) ⟨λts σ hT hk=>hkl a rfl ts σ hT hk,hK.kx,hK.kr,hK.kp⟩ (λ_ _ ts σ _ hk=>by cases hk) hL h
 |.lab l' a,K,kl,Q,f,hF,hr,hK,hkl,hL,h=>by
  simp only[AC.at]at h;split at h;rename_i e;have e:=Qaj e;subst e;injection h with h;subst h;refine⟨a,Q,by simp only[AC.site,Nat.beq_refl],λts σ hT hf =>?_⟩;unfold yl8 at hf;split at hf;rename_i b;exact zwn.round (z5c hD htbl (K:={K with kn:=J l'}) (Q:=zz8.then (λσ=>zwn P b.erase σ Q) Q) ⟨λts σ hT hk=>hL.1 ts σ hT hk,hK.kx,hK.kr,hK.kp⟩ hL.2 hT hf);rename_i lf g p x y
  exact ykp hD htbl hF (hr lf (.head _)) hK hL.1 hT hf;rename_i h1 h2;have:=z5c hD htbl hK hL.2 hT hf
  cases a <;> first|exact this|exact(h1 _ rfl).elim|exact(h2 _ _ _ _ _ rfl).elim
  rename_i e;obtain⟨x,Q',h1,h2⟩:=zfs (c:=a) hF hr hK (λb hb ts σ hT hk=>by subst hb;exact hL.1 ts σ hT hk) hL.2 h
  exact⟨x,Q',by simp only[AC.site,e];exact h1,h2⟩
 |.skip,K,kl,Q,f,hF,hr,hK,hkl,hL,h=>by cases h
 |.region _ _ _,K,kl,Q,f,hF,hr,hK,hkl,hL,h=>by cases h
 |.exit _,K,kl,Q,f,hF,hr,hK,hkl,hL,h=>by cases h
 |.ret,K,kl,Q,f,hF,hr,hK,hkl,hL,h=>by cases h
 |.rng _ _ _ _ _,K,kl,Q,f,hF,hr,hK,hkl,hL,h=>by cases h
 |.other _,K,kl,Q,f,hF,hr,hK,hkl,hL,h=>by cases h
end
section
variable {P : Program} {D : Dat} {F : Fr} {ρ : List Slot} {ts : TS D.T} {σ : St} {lv : Nat} {R : Type}
theorem yd9{α:Type}:∀(l:List α) (k j:Nat) (a:α),fnd (yjt l k) j=some a->k<=j∧l[j-k]? = some a
 |[],k,j,a,h=>by simp[yjt,fnd]at h
 |b::l,k,j,a,h=>by
  simp only[yjt,yz8]at h;split at h
  rename_i e;injection h with h;subst h;subst e;simp
  obtain⟨h1,h2⟩:=yd9 l (k+1) j a h;refine⟨by omega,?_⟩;rw[show j-k=(j-(k+1))+1 by omega];simpa using h2
theorem zx5:∀(os:List OSh) {k:Nat}{x:HL D.T (yzj os)}{j:Nat},k<=j->j<k+os.length->∃o,fnd (z1j D (λk=>k) os k x) j=some o∧o.live
 |[],k,x,j,h1,h2=>by simp at h2;omega
 |o::os,k,x,j,h1,h2=>by
  show ∃o',fnd ((k,zgp D (λk=>k) o (HL.fst _ x))::z1j D (λk=>k) os (k+1) (HL.snd _ x)) j=some o'∧o'.live;rw[yz8];split;exact⟨_,rfl,y7u⟩;exact zx5 os (by omega) (by simp only[List.length_cons]at h2;omega)
theorem zx3:∀(os:List OSh) {k:Nat}{x:HL D.T (yzj os)}{j:Nat}{o:TO D.T},(j,o)∈z1j D (λk=>k) os k x->fnd (z1j D (λk=>k) os k x) j=some o
 |[],k,x,j,o,h=>by cases h
 |osh::os,k,x,j,o,h=>by
  replace h:(j,o)∈(k,zgp D (λk=>k) osh (HL.fst _ x))::z1j D (λk=>k) os (k+1) (HL.snd _ x):=h;show fnd ((k,zgp D (λk=>k) osh (HL.fst _ x))::z1j D (λk=>k) os (k+1) (HL.snd _ x)) j=some o;rw[yz8]
  rcases Qbl.1 h with h|h
  injection h with h1 h2;subst h1;subst h2;rw[Qbx rfl];obtain⟨j',h1,_,h3,_⟩:=zlm os h;rw[Qby (by omega)];exact zx3 os h
theorem zd6(hD:D.Ok P)(hR:TRr D F ρ ts σ):∀{rs:List ResultVar}{cs:List (TV D.T)},zoh P D ts rs=some cs->∃vs,zuq P σ rs=some vs∧VRL D ρ F.lv cs vs
 |[],cs,h=>by simp only[zoh,Qbu]at h;subst h;exact⟨[],rfl,by simp only[VRL]⟩
 |.tmp t::rs,cs,h=>by
  simp only[zoh]at h;split at h;rename_i v vs hv hvs;injection h with h;subst h;obtain⟨us,h1,h2⟩:=zd6 hD hR hvs;exact⟨σ.t.getD t .any::us,by simp only[zuq,ylk,h1],by simp only[VRL];exact⟨_,_,rfl,hR.tmp hv,h2⟩⟩
  cases h
 |.cell a t::rs,cs,h=>by
  simp only[zoh]at h;split at h;rename_i p hp;split at h;rename_i v vs hv hvs;injection h with h;subst h;obtain⟨us,h1,h2⟩:=zd6 hD hR hvs;obtain⟨u,h3,h4⟩:=zyb hD hR hv (hR.tmp hp);exact⟨u::us,by simp only[zuq,ylk,h3,h1],by simp only[VRL];exact⟨_,_,rfl,h4,h2⟩⟩;cases h;cases h
theorem y34{c:Code}{σ:St}{Q:zz8->St->Prop}(h:Sat P c σ λe σ=>∃τ,zhe σ τ∧(∀v,e ≠ .panic v)∧Q e τ):Sat P c σ Q:=λW0 g0 H0 W a g hB hS hG=>by
 refine zq9 (h W0 g0 H0 W a g hB hS hG) λe a w ⟨g,σ,e',h1,h2,h3,τ,h4,h5,h6⟩ =>?_
 obtain⟨g',k1,k2⟩:=h4 W0 g0 H0 w a g hB h2 h3;refine⟨g',τ,e',?_,k1,k2,h6⟩
 cases h1 with
 |normal=>exact .normal
 |exit id=>exact .exit id
 |ret=>exact .ret
 |panic v c hr=>exact(h5 v rfl).elim
def y9o(D:Dat)(F:Fr)(l:LSh)(pack:HL D.T l.tys->R)(r:R)(e:zz8)(σ:St):Prop :=
 match e with
 |.normal| .ret=>∃x,pack x=r∧TR D F (l.bld D x) σ
 |_=>False
theorem y0s(hD:D.Ok P){l:LSh}(hp:F.pin.length<=l.pin)(hp2:l.pin<=l.os.length){pack:HL D.T l.tys->R}{r:R}:KOk D F (zq8 D l pack) (y9o D F l pack r) r:=by
 refine⟨λts σ hT h =>?_,λid k ts σ h=>by simp[zq8,fnd]at h,λts σ hT h =>?_,λz ts σ ρ v _ _ h=>by simp[zq8]at h⟩;obtain⟨x,h1,h2⟩:=LSh.z8w hD hp hp2 hT h;injection h1 with h1;exact⟨x,h1,h2⟩;obtain⟨x,h1,h2⟩:=LSh.z8w hD hp hp2 hT h;injection h1 with h1;exact⟨x,h1,h2⟩
def ya4(P:Program)(D:Dat)(c:Code)(p:Nat)(args:List Sh)(aos:List OSh)(nt:Nat)(gs:List Nat)(K:Ks D.T R)(go:HL D.T (Sh.zzl args++yzj aos)->Option R):Prop :=
 ∀F Q r,F.E=F.e0->F.pin.length<=p->KOk D F K Q r->∀x σ,TR D F (entry D args aos nt gs x) σ->go x=some r->Sat P c σ Q
theorem zj8{args:List V}{n:Nat}(cs:List (TV D.T))(h:VRL D ρ lv cs args):∀(j:Nat) (x:TV D.T),fnd (yjt cs 0) j=some x->∃v,(args++List.replicate n V.any)[j]? = some v∧VR D ρ lv x v:=λj x hj=>by
 obtain⟨_,h1⟩:=yd9 cs 0 j x hj;obtain⟨v,h2,h3⟩:=h.get j x (by simpa using h1);exact⟨v,by rw[Qal (Qaa.1 h2).1];exact h2,h3⟩
def gsB(aos:List OSh)(k:Nat):Bool:=match aos[k]? with
 |some (.acc _ _ _)=>true
 |some (.deep _ _)=>true
 |some .rig=>true
 |_=>false
theorem ynr{L:List (Option zz4)}{gs:List Nat}{aos:List OSh}{ρ0:List Slot}{y:HL D.T (yzj aos)}(hgb:gs.all (gsB aos)=true)(k1:ρ0.length=aos.length)(k3:∀j o,(j,o)∈z1j D (λk=>k) aos 0 y->∃sl,ρ0[j]? = some sl∧OR D ρ0 lv L sl o) :
  ∀(i s:Nat) (v:V),(gs.map some)[i]? = some (some s)->(gs.map λk=>(ρ0[k]?.map (·.v)).getD .any)[i]? = some v->VR D ρ0 lv (.own s) v:=λi s v h1 h2=>by
 rw[Qan,Qaf]at h1 h2;obtain⟨k,hk,e⟩:=h1;injection e with e;subst e;obtain⟨k',hk',e⟩:=h2
 rw[hk]at hk';injection hk' with hk';subst hk'
 have hb:=Qat.1 hgb k (Qax hk)
 have leaf:∀{sl:Slot}{os:OSh}{z:HL D.T os.tys},(match os with| .acc _ _ _=>true| .deep _ _=>true| .rig=>true|_=>false)=true->OR D ρ0 lv L sl (zgp D (λk=>k) os z)->sl.v.leaf=true:=λ{sl os z} hc ho=>by
  cases os <;> simp only[Bool.false_eq_true]at hc
  case acc ty t w=>
   simp only[zgp,OR]at ho;obtain⟨_,_,ho⟩:=ho
   cases hk:sl.k with
   |none=>rw[hk]at ho;rcases ho with ⟨e,_⟩|⟨⟨e,_⟩,_⟩ <;> (rw[e];rfl)
   |some i=>rw[hk]at ho;obtain⟨ver,cp,e,_⟩:=ho;rw[e];rfl
  case rig=>
   simp only[zgp,OR]at ho;exact ho.2.2
  case deep ty q=>
   replace ho:OR D ρ0 lv L sl (.deep ty q z.1 none):=ho;simp only[OR]at ho;have ho:=ho.2
   cases hk:sl.k with
   |none=>rw[hk]at ho;rcases ho.2.1 with e|e <;> (rw[e];rfl)
   |some i=>rw[hk]at ho;obtain⟨ver,cp,_,e,_⟩:=ho;rw[e];rfl
 have at_:∀(aos:List OSh) (m k:Nat) (os:OSh) (y:HL D.T (yzj aos)),aos[k]? = some os->∃z:HL D.T os.tys,(m+k,zgp D (λk=>k) os z)∈z1j D (λk=>k) aos m y:=λaos=>by
  induction aos with
  |nil=>intro m k os y h;simp at h
  |cons o r ih=>
   intro m k os y h
   cases k with
   |zero=>simp at h;subst h;exact⟨_,Qak⟩
   |succ k=>
    obtain⟨z,hz⟩:=ih (m+1) k os (HL.snd _ y) (by simpa using h);exact⟨z,by rw[show m+(k+1)=m+1+k by omega];exact Qai _ hz⟩
 unfold gsB at hb
 cases ho:aos[k]? with
 |none=>rw[ho]at hb;cases hb
 |some os=>
  rw[ho]at hb;obtain⟨z,hz⟩:=at_ aos 0 k os y ho;obtain⟨sl,e1,e2⟩:=k3 _ _ hz;rw[Nat.zero_add]at e1;rw[e1]at e;simp only[VR];refine⟨sl,e1,e.symm,?_⟩;have:=leaf (by cases os <;> simp_all) e2;rw[<-e];exact this
theorem ym4{gs:List Nat}{l:LSh}{x:HL D.T l.tys}{ρ0 ρ':List Slot}{ren:List (Nat×Nat)}(hren:ren=gs.map λk=>(k,k))(hgs:l.gs=gs)(h:∀(i s:Nat) (v:V),(l.bld D x).g[i]? = some (some s)->(gs.map λk=>(ρ0[k]?.map (·.v)).getD .any)[i]? = some v->VR D ρ' lv (.own s) v) :
  ∀q∈ren,∀sl,ρ0[q.1]? = some sl->∃sl',ρ'[q.2]? = some sl'∧sl'.v=sl.v:=λq hq sl hs=>by
 rw[hren]at hq;obtain⟨k,hk,rfl⟩:=Qbg.1 hq;obtain⟨i,hi⟩:=Qbp hk;have:=h i k sl.v (by show(l.gs.map some)[i]? = _;rw[hgs,Qan,hi];rfl) (by rw[Qan,hi];simp only[Qbr];rw[show ρ0[k]? = some sl from hs];rfl);simp only[VR]at this;obtain⟨sl',e1,e2,_⟩:=this;exact⟨sl',e1,e2.symm⟩
theorem ypp(hD:D.Ok P){e:Ent D}{fn:Func}{code:Code}{nt:Nat}{gs:List Nat}{l:LSh}{pack:HL D.T l.tys->R}{un:R->HL D.T (Sh.zzl e.outs++yzj e.ros)}{go:HL D.T (Sh.zzl e.args++yzj e.aos)->Option R}
  (hf:P.funcs[e.f]? = some fn) (hb:fn.body=some code) (hnt:fn.ntmps=nt) (hent:∀args w,(callFunc e.f args).run P w = .ok (.enter e.f args) w) (hargs:e.args.length<=nt)
  (hgo:∀(R':Type) (x:HL D.T (Sh.zzl e.args++yzj e.aos)) (k:HL D.T (Sh.zzl e.outs++yzj e.ros)->Option R') (kp:HL D.T (e.pan.tys++yzj e.pos)->Option R'),e.go x k kp=(go x).bind λr=>k (un r))
  (hpure:e.pure=false) (hkc:e.kc=[]) (hren:e.ren=gs.map λk=>(k,k)) (hgs:l.gs=gs) (hgb:gs.all (gsB e.aos)=true) (hp1:e.p<=l.pin) (hp2:l.pin<=l.os.length) (hlen:l.os.length=e.ros.length)
  (hout:∀x,zoh P D (l.bld D x) fn.results.toList=some (z08 D (λk=>k) e.outs (HL.fst _ (un (pack x))))∧(l.bld D x).o=z1j D (λk=>k) e.ros 0 (HL.snd _ (un (pack x))))
  (hrun:ya4 P D code e.p e.args e.aos nt gs (zq8 D l pack) go):e.Ok P:=λR' x k kp r h=>by
 rw[hpure];rw[hgo]at h;obtain⟨r0,h1,h2⟩:=zkj h;refine .inl ⟨un r0,h2,λlv L E ρ0 vargs k1 k2 k3 k4 _ =>?_⟩
 have hvl:vargs.length=e.args.length:=by
  rw[<-k2.length]
  have:∀(l:List Sh) (y:HL D.T (Sh.zzl l)),(z08 D (λk=>k) l y).length=l.length:=λl=>by
   induction l with
   |nil=>intro y;rfl
   |cons s l ih=>intro y;show(zg4 D (λk=>k) s (HL.fst _ y)::z08 D (λk=>k) l (HL.snd _ y)).length=_;rw[List.length_cons,ih,List.length_cons]
  exact this _ _
 let F:Fr:=⟨lv,E,E,L,λi=>i<L.length∧∀(k:Nat) (sl0:Slot),ρ0[k]? = some sl0->¬sl0.has i,ρ0.take e.p,gs.map λk=>(ρ0[k]?.map (·.v)).getD .any⟩
 have hobj:∀s o,fnd (z1j D (λk=>k) e.aos 0 (HL.snd _ x)) s=some o->∃sl,ρ0[s]? = some sl∧OR D ρ0 lv L sl o:=λs o ho=>k3 s o (z1i ho)
 have hR0:TRr D F ρ0 (entry D e.args e.aos nt gs x) ⟨vargs++List.replicate (nt-vargs.length) .any,⟨lv,L,E⟩,[],E⟩:=by
  refine⟨k1,by simp only[entry,Qap,List.length_replicate];omega,zj8 _ k2,hobj,λs s' o o' sl sl' i a1 a2 l1 l2 r1 r2=>k4.1 s s' sl sl' i r1 r2,λs o sl i a1 l1 r1 hk ho=>ho.2 s sl r1 hk,rfl,rfl,rfl,rfl,λi hi=>⟨hi.1,rfl⟩,λj sl hj =>?_,λs o sl i a1 l1 r1 hk=>k4.2 s sl i r1 hk,ynr hgb k1 k3⟩;simp only[F,Qaw]at hj;split at hj;exact hj;cases hj
 refine yje hf hb hnt hent (y34 ((hrun F _ r0 rfl (by simp only[F,Qay];omega) (y0s hD (by simp only[F,Qay];omega) hp2) x _ hR0.tr h1).mono λex σ hq =>?_))
 have key:∀ex,(ex = .normal∨ex = .ret)->(∃x,pack x=r0∧TR D F (l.bld D x) σ)->∃τ,zhe σ τ∧(∀v,ex ≠ .panic v)∧yqj P fn (λout H'=>∃L' ρ',H'=⟨lv,L',E⟩∧Left D lv L ρ0 e.p L' ρ' e.ros (HL.snd _ (un r0))∧((∀q∈e.ren,∀sl,ρ0[q.1]? = some sl->∃sl',ρ'[q.2]? = some sl'∧sl'.v=sl.v)∧zv5 L L' ρ0 e.kc)∧∃vs,out = .ret (z6c vs)∧VRL D ρ' lv (z08 D (λk=>k) e.outs (HL.fst _ (un r0))) vs) ex τ:=λex hex ⟨y,hy,τ,ρ',w1,w2⟩=>by
  subst hy;obtain⟨o1,o2⟩:=hout y;obtain⟨vs,q1,q2⟩:=zd6 hD w2 o1;have hH:τ.H=⟨lv,τ.H.L,E⟩:=zlh (F:=F) τ.H w2.lv w2.E
  have hleft:Left D lv L ρ0 e.p τ.H.L ρ' e.ros (HL.snd _ (un (pack y))):=by
   have hlen':ρ'.length=e.ros.length:=by rw[w2.nx,<-hlen];rfl
   have live:∀s sl,ρ'[s]? = some sl->∃o,fnd (l.bld D y).o s=some o∧o.live:=λs sl hs=>by
    rw[o2];exact zx5 e.ros (Qbv _) (by rw[Nat.zero_add,<-hlen'];exact(Qaa.1 hs).1)
   refine⟨hlen',λj o hm =>?_,λs s' sl sl' i r1 r2 c1 c2 =>?_,λs sl i r1 c1 =>?_,λi hi hno=>w2.out i ⟨hi,hno⟩,λj sl hj hs =>?_,λs sl i r1 c1=>by
    obtain⟨o,a1,a2⟩:=live s sl r1
    exact w2.fpl s o sl i a1 a2 r1 c1⟩
   exact w2.ob j o (by rw[o2];exact zx3 e.ros hm);obtain⟨o,a1,a2⟩:=live s sl r1;obtain⟨o',b1,b2⟩:=live s' sl' r2;exact w2.inj s s' o o' sl sl' i a1 b1 a2 b2 r1 r2 c1 c2;obtain⟨o,a1,a2⟩:=live s sl r1;have:=w2.mine s o sl i a1 a2 r1 c1;by_cases hlt:i<L.length;right;by_cases hex:∃(k:Nat) (sl0:Slot),ρ0[k]? = some sl0∧sl0.has i;exact hex;exact(this ⟨hlt,λk sl0 e1 e2=>hex ⟨k,sl0,e1,e2⟩⟩).elim;left;omega
   exact w2.pin j sl (by simp only[F,Qaw];rw[Qbx hj];exact hs)
  refine⟨τ,w1,λv e=>by rcases hex with h|h <;> (rw[h]at e;cases e),?_⟩
  rcases hex with rfl|rfl
  exact⟨z6c vs,z6c vs,by simp only[z06,q1,Qbr],w2.d,.refl _,τ.H.L,ρ',hH,hleft,⟨ym4 hren hgs (λi s v a b=>w2.g i s v a b),by rw[hkc];exact .nil⟩,vs,rfl,q2⟩;exact⟨z6c vs,z6c vs,by simp only[z06,q1,Qbr],w2.d,.refl _,τ.H.L,ρ',hH,hleft,⟨ym4 hren hgs (λi s v a b=>w2.g i s v a b),by rw[hkc];exact .nil⟩,vs,rfl,q2⟩
 cases ex with
 |normal=>exact key _ (.inl rfl) hq
 |ret=>exact key _ (.inr rfl) hq
 |exit id=>exact hq.elim
 |panic v=>exact hq.elim
mutual
theorem VRn.lvl{lv':Nat}:∀{x:TV D.T}{v:V},VR D [] lv x v->VR D [] lv' x v
 |.own s,v,h=>by simp only[VR]at h;obtain⟨sl,h1,_⟩:=h;simp at h1
 |.osl s lo,v,h=>by simp only[VR]at h;obtain⟨sl,j,ver,h1,_⟩:=h;simp at h1
 |.ptr s off,v,h=>by simp only[VR]at h;obtain⟨sl,i,h1,_⟩:=h;simp at h1
 |.bp s off,v,h=>by simp only[VR]at h;obtain⟨sl,i,h1,_⟩:=h;simp at h1
 |.map s,v,h=>by simp only[VR]at h;obtain⟨sl,i,h1,_⟩:=h;simp at h1
 |.mc t es,v,h=>by unfold VR at h ⊢;exact h
 |.ap s t i x off,v,h=>by simp only[VR]at h;obtain⟨sl,w,h1,_⟩:=h;simp at h1
 |.dp s i off,v,h=>by simp only[VR]at h;obtain⟨sl,j,ver,m,h1,_⟩:=h;simp at h1
 |.bsl q cs,v,h=>by simp only[VR]at h ⊢;obtain⟨vs,h1,h2⟩:=h;exact⟨vs,h1,VRLn.lvl h2⟩
 |.ref cs off,v,h=>by simp only[VR]at h ⊢;obtain⟨vs,h1,h2⟩:=h;exact⟨vs,h1,VRLn.lvl h2⟩
 |.fn f a b,v,h=>by simp only[VR]at h ⊢;obtain⟨as,bs,h1,h2,h3⟩:=h;exact⟨as,bs,h1,VRLn.lvl h2,VRLn.lvl h3⟩
 |.iface t x,v,h=>by simp only[VR]at h ⊢;obtain⟨y,h1,h2⟩:=h;exact⟨y,h1,VRn.lvl h2⟩
 |.agg cs,v,h=>by simp only[VR]at h ⊢;obtain⟨vs,h1,h2⟩:=h;exact⟨vs,h1,VRLn.lvl h2⟩
 |.tup cs,v,h=>by simp only[VR]at h ⊢;obtain⟨vs,h1,h2⟩:=h;exact⟨vs,h1,VRLn.lvl h2⟩
 |.any,v,h=>by simp only[VR]
 |.bool b,v,h=>by simpa only[VR]using h
 |.int k n,v,h=>by simpa only[VR]using h
 |.str b,v,h=>by simpa only[VR]using h
 |.nilp,v,h=>by simpa only[VR]using h
 |.nils,v,h=>by simpa only[VR]using h
 |.mapn,v,h=>by simpa only[VR]using h
 |.nilf,v,h=>by simpa only[VR]using h
 |.nili,v,h=>by simpa only[VR]using h
 |.sl t xs fl,v,h=>by simpa only[VR]using h
theorem VRLn.lvl{lv':Nat}:∀{cs:List (TV D.T)}{vs:List V},VRL D [] lv cs vs->VRL D [] lv' cs vs
 |[],vs,h=>by simpa only[VRL]using h
 |c::cs,vs,h=>by simp only[VRL]at h ⊢;obtain⟨v,r,h1,h2,h3⟩:=h;exact⟨v,r,h1,VRn.lvl h2,VRLn.lvl h3⟩
end
theorem DR.vs(hD:D.Ok P){H:Heap}{Dm:Nat->Nat->Prop}{t:DTy}{x:t.S D.T}{v:V}(h:DR D t x v) :
  VS H Dm v (D.el t x)∧∀(j:Nat) (u u':V),v.cells[j]? = some u->(D.el t x).cells[j]? = some u'->VS H Dm u u':=by
 have one:∀{t:DTy}{x:t.S D.T}{v:V},v.cells=[v]->(D.el t x).cells=[D.el t x]->VS H Dm v (D.el t x) ->
   VS H Dm v (D.el t x)∧∀(j:Nat) (u u':V),v.cells[j]? = some u->(D.el t x).cells[j]? = some u'->VS H Dm u u':=λ{t x v} h1 h2 h=>⟨h,λj u u' hu hu'=>by
  rw[h1]at hu;rw[h2]at hu'
  cases j with
  |zero=>simp at hu hu';subst hu;subst hu';exact h
  |succ j=>simp at hu⟩
 induction h with
 |bool b=>exact one rfl rfl (.keep _ (by simp[V.kin]))
 |int k n=>exact one rfl rfl (.keep _ (by simp[V.kin]))
 |str s=>exact one rfl rfl (.keep _ (by simp[V.kin]))
 |nat n=>exact one (t:=.nat) rfl rfl (.any _)
 |nil t=>exact one rfl rfl (.nil _ _)
 |sl t xs ws full hl h ih=>
  refine one rfl rfl (.sl _ _ _ _ (by simp[hl]) (λj a b ha hb =>?_) λj a b q v u ha hb hv hu =>?_);rw[Qan,Qaf]at hb;obtain⟨x,hx,rfl⟩:=hb;rw[(h j x a hx ha).cells hD,ye5 hD];rw[Qan,Qaf]at hb;obtain⟨x,hx,rfl⟩:=hb
  exact(ih j x a hx ha).2 q v u hv hu
 |st i x vs hl h ih=>
  have cell:∀(j:Nat) (u u':V),vs[j]? = some u->(D.els (D.fl i) (D.get i x))[j]? = some u'->VS H Dm u u':=λj u u' hu hu'=>by
   rw[y9d,Qaf]at hu';obtain⟨p,hp,rfl⟩:=hu';exact(ih j p u hp hu).1
  have e:D.el (.st i) x = .agg (D.els (D.fl i) (D.get i x)):=hD.enc i x;rw[e]
  exact⟨.agg _ _ (by rw[y0r,hl]) cell,λj u u' hu hu'=>cell j u u' hu hu'⟩
 |enc i x=>exact⟨.keep _ (hD.kin i x _),λj u u' hu hu'=>by
  rw[show D.el (.st i) x=D.enc i x from rfl,hu]at hu';injection hu' with hu';subst hu'
  exact .keep _ (z7p (zlq (hD.kin i x _)) j u hu)⟩
theorem VR.toDR(hD:D.Ok P){t:DTy}{x:t.S D.T}{v:V}(ht:t ≠ .nat)(h:VR D ρ lv (D.tv t x) v):DR D t x v:=by
 have leaf:∀{t:DTy}{x:t.S D.T}{v:V},t ≠ .nat->(∀i,t ≠ .st i)->VR D ρ lv (D.leaf t x) v->DR D t x v:=λ{t x v} h1 h2 h=>by
  cases t with
  |bool=>simp only[Dat.leaf,VR]at h;subst h;exact .bool _
  |int k=>simp only[Dat.leaf,VR]at h;subst h;exact .int _ _
  |str=>simp only[Dat.leaf,VR]at h;subst h;exact .str _
  |nat=>exact(h1 rfl).elim
  |sl t=>simp only[Dat.leaf,VR]at h;exact h.1
  |st i=>exact(h2 i rfl).elim
 cases t with
 |st i=>
  simp only[Dat.tv,VR]at h;obtain⟨vs,rfl,h⟩:=h;refine .st i x vs (by rw[<-h.length,z82]) λj p u hp hu =>?_
  have hm:=hD.flat i p.1 (Qax (HL.zay _ _ _ _ hp).2);have:=h.zte (j:=j) (c:=D.leaf p.1 p.2) (by rw[zdb,hp];rfl) hu;obtain⟨t,y⟩:=p;refine leaf (λe =>?_) (λi e =>?_) this;subst e;exact hm.elim
  subst e;exact hm.elim
 |nat=>exact(ht rfl).elim
 |bool=>exact leaf ht (by simp) h
 |int k=>exact leaf ht (by simp) h
 |str=>exact leaf ht (by simp) h
 |sl t=>exact leaf ht (by simp) h
def zyd:List Sh->Bool
 |[]=>true
 |.d t::l => !decide (t = .nat)&&zyd l
 |_=>false
def canon(D:Dat):(l:List Sh)->HL D.T (Sh.zzl l)->List V
 |[],_=>[]
 |.d t::l,x=>D.el t (HL.fst (Sh.tys (.d t)) x).1::canon D l (HL.snd (Sh.tys (.d t)) x)
 |s::l,x=>.any::canon D l (HL.snd s.tys x)
theorem VRL.lvl{lv':Nat}{cs:List (TV D.T)}{vs:List V}(h:VRL D [] lv cs vs):VRL D [] lv' cs vs:=VRLn.lvl h
theorem zwb(hD:D.Ok P):∀{l:List Sh}{x:HL D.T (Sh.zzl l)},zyd l=true->VRL D ρ lv (z08 D (λk=>k) l x) (canon D l x)
 |[],x,h=>(by simp only[VRL]:VRL D ρ lv [] [])
 |.d t::l,x,h=>by
  simp only[zyd,Qag]at h;show VRL D ρ lv (D.tv t (HL.fst (Sh.tys (.d t)) x).1::z08 D (λk=>k) l (HL.snd (Sh.tys (.d t)) x)) (D.el t (HL.fst (Sh.tys (.d t)) x).1::canon D l (HL.snd (Sh.tys (.d t)) x));simp only[VRL];exact⟨_,_,rfl,VR.tv hD (DR.el t _),zwb hD h.2⟩
theorem y4h(hD:D.Ok P){H:Heap}{Dm:Nat->Nat->Prop}:∀{l:List Sh}{x:HL D.T (Sh.zzl l)}{vs:List V},zyd l=true->VRL D ρ lv (z08 D (λk=>k) l x) vs->VSL H Dm vs (canon D l x)
 |[],x,vs,h,hv=>by
  replace hv:VRL D ρ lv [] vs:=hv
  simp only[VRL]at hv;subst hv;exact .nil
 |.d t::l,x,vs,h,hv=>by
  simp only[zyd,Qag,Bool.not_eq_true',decide_eq_false_iff_not]at h;replace hv:VRL D ρ lv (D.tv t (HL.fst (Sh.tys (.d t)) x).1::z08 D (λk=>k) l (HL.snd (Sh.tys (.d t)) x)) vs:=hv;simp only[VRL]at hv;obtain⟨v,r,rfl,h1,h2⟩:=hv;exact .cons ((VR.toDR hD h.1 h1).vs hD).1 (y4h hD h.2 h2)
theorem yec{H:Heap}{Dm:Nat->Nat->Prop}{vs us:List V}(h:VSL H Dm vs us):VS H Dm (z6c vs) (z6c us):=by
 cases h with
 |nil=>exact .yma .nil
 |cons h1 r=>
  cases r with
  |nil=>exact h1
  |cons h2 r=>exact .yma (.cons h1 (.cons h2 r))
theorem yp9(hD:D.Ok P){e:Ent D}{fn:Func}{code:Code}{nt:Nat}{l:LSh}{pack:HL D.T l.tys->R}{un:R->HL D.T (Sh.zzl e.outs++yzj e.ros)}{go:HL D.T (Sh.zzl e.args++yzj e.aos)->Option R}
  (hf:P.funcs[e.f]? = some fn) (hb:fn.body=some code) (hnt:fn.ntmps=nt) (hent:∀args w,(callFunc e.f args).run P w = .ok (.enter e.f args) w) (hargs:e.args.length<=nt)
  (hgo:∀(R':Type) (x:HL D.T (Sh.zzl e.args++yzj e.aos)) (k:HL D.T (Sh.zzl e.outs++yzj e.ros)->Option R') (kp:HL D.T (e.pan.tys++yzj e.pos)->Option R'),e.go x k kp=(go x).bind λr=>k (un r))
  (hpure:e.pure=true) (hren:e.ren=[]) (haos:e.aos=[]) (hros:e.ros=[]) (houts:zyd e.outs=true) (hp2:l.pin<=l.os.length)
  (hout:∀x,zoh P D (l.bld D x) fn.results.toList=some (z08 D (λk=>k) e.outs (HL.fst _ (un (pack x)))))
  (hrun:ya4 P D code e.p e.args e.aos nt [] (zq8 D l pack) go):e.Ok P:=λR' x k kp r h=>by
 rw[hpure];rw[hgo]at h;obtain⟨r0,h1,h2⟩:=zkj h;refine⟨un r0,h2,haos,hros,hren,λlv0 vargs k2=>⟨canon D e.outs (HL.fst _ (un r0)),λρ lv=>zwb hD houts,?_⟩⟩
 have hvl:vargs.length=e.args.length:=by
  rw[<-k2.length]
  have:∀(l:List Sh) (y:HL D.T (Sh.zzl l)),(z08 D (λk=>k) l y).length=l.length:=λl=>by
   induction l with
   |nil=>intro y;rfl
   |cons s l ih=>intro y;show(zg4 D (λk=>k) s (HL.fst _ y)::z08 D (λk=>k) l (HL.snd _ y)).length=_;rw[List.length_cons,ih,List.length_cons]
  exact this _ _
 refine ym0 hf hb hnt hent λlv E =>?_
 let F:Fr:=⟨lv+1,E,E,[],λi=>False,[],[]⟩
 have hnob:∀s (o:TO D.T),fnd (z1j D (λk=>k) e.aos 0 (HL.snd _ x)) s=some o->False:=λs o ho=>by
  obtain⟨j,_,hlt,_⟩:=zlm e.aos (z1i ho);rw[haos]at hlt;simp at hlt
 have k2':VRL D [] (lv+1) (z08 D (λk=>k) e.args (HL.fst _ x)) vargs:=VRL.lvl k2
 have hR0:TRr D F [] (entry D e.args e.aos nt [] x) ⟨vargs++List.replicate (nt-vargs.length) .any,⟨lv+1,[],E⟩,[],E⟩:=by
  refine⟨by simp only[entry,haos];rfl,by simp only[entry,Qap,List.length_replicate];omega,zj8 _ k2',λs o ho=>(hnob s o ho).elim,λs s' o o' sl sl' i a1=>(hnob s o a1).elim,λs o sl i a1=>(hnob s o a1).elim,rfl,rfl,rfl,rfl,λi hi=>hi.elim,λj sl hj=>by simp[F]at hj,λs o sl i a1=>(hnob s o a1).elim,λi s v h=>by simp[entry]at h⟩
 refine y34 ((hrun F _ r0 rfl (by simp[F]) (y0s hD (by simp[F]) hp2) x _ hR0.tr h1).mono λex σ hq =>?_)
 have key:∀ex,(ex = .normal∨ex = .ret)->(∃x,pack x=r0∧TR D F (l.bld D x) σ)->∃τ,zhe σ τ∧(∀v,ex ≠ .panic v)∧Ends P fn lv E (z6c (canon D e.outs (HL.fst _ (un r0)))) ex τ:=λex hex ⟨y,hy,τ,ρ',w1,w2⟩=>by
  subst hy;obtain⟨vs,q1,q2⟩:=zd6 hD w2 (hout y);have hv:=yec (y4h hD (H:=τ.H) (Dm:=outer lv) houts q2);refine⟨τ,w1,λv e=>by rcases hex with h|h <;> (rw[h]at e;cases e),?_⟩
  rcases hex with rfl|rfl
  exact⟨z6c vs,by simp only[z06,q1,Qbr],w2.d,w2.E,hv⟩;exact⟨z6c vs,by simp only[z06,q1,Qbr],w2.d,w2.E,hv⟩
 cases ex with
 |normal=>exact key _ (.inl rfl) hq
 |ret=>exact key _ (.inr rfl) hq
 |exit id=>exact hq.elim
 |panic v=>exact hq.elim
structure FI(D:Dat) where
 R:Type
 ent:Nat->Ent D
 c:AC
 K:Ks D.T R
 p:Nat
 args:List Sh
 aos:List OSh
 nt:Nat
 gs:List Nat:=[]
 z02:Nat->List (Nat×Lb D R)
 go:Nat->HL D.T (Sh.zzl args++yzj aos)->Option R
def zol{α:Type}(φ:Nat->α->Prop):List (Nat×α)->Prop
 |[]=>True
 |p::l=>φ p.1 p.2∧zol φ l
theorem zol.get{α:Type}{φ:Nat->α->Prop}:∀{l:List (Nat×α)}{j:Nat}{a:α},zol φ l->(j,a)∈l->φ j a
 |p::l,j,a,h,hm=>by
  rcases Qbl.1 hm with hm|hm
  subst hm;exact h.1;exact zol.get h.2 hm
noncomputable def zpr(P:Program)(D:Dat){R:Type}(tbl:List (Ent D))(J:Nat->TS D.T->Option R)(l:Nat)(c:AC)(K:Ks D.T R)(ts:TS D.T):Option R :=
 match AC.at P D tbl J l c K (λ_=>none)with
 |some g=>g ts
 |none=>none
structure FI.Good(P:Program)(D:Dat)(tbl:Nat->List (Ent D))(f:FI D):Prop where
 nodup:f.c.labels.Nodup
 zero:∀x,f.go 0 x=none
 lzero:∀l lb x,fnd (f.z02 0) l=some lb->lb.go x=none
 pins:∀n l lb,fnd (f.z02 n) l=some lb->f.p<=lb.sh.pin∧lb.sh.pin<=lb.sh.os.length
 step:∀n x,f.go (n+1) x=run P D (tbl n) (jump D (f.z02 n)) f.c (entry D f.args f.aos f.nt f.gs x) f.K
 lstep:∀n l lb x,fnd (f.z02 (n+1)) l=some lb->lb.go x=zpr P D (tbl n) (jump D (f.z02 n)) l f.c f.K (lb.sh.bld D x)
 ok:∀n,ya4 P D f.c.erase f.p f.args f.aos f.nt f.gs f.K (f.go n)->(f.ent n).Ok P
 zg7:∀q∈f.c.zg7,ze8 P q
def FI.zvd(P:Program)(D:Dat)(f:FI D)(n:Nat):Prop :=
 ∀F Q r,F.E=F.e0->F.pin.length<=f.p->KOk D F f.K Q r->∀l a Q',f.c.site P l Q=some (a,Q')->∀ts σ,TR D F ts σ->jump D (f.z02 n) l ts=some r->a.Claim P σ Q'
theorem FI.Good.z02(hD:D.Ok P){tbl:Nat->List (Ent D)}{f:FI D}(h:f.Good P D tbl):∀n,(∀m,m<n->∀e∈tbl m,e.Ok P)->f.zvd P D n
 |0,_=>λF Q r hF hp hK l a Q' hs ts σ hT hj=>by
  unfold jump at hj;split at hj;rename_i lb hlb;obtain⟨p1,p2⟩:=h.pins 0 l lb hlb;obtain⟨x,h1,_⟩:=LSh.z8w hD (by omega) p2 hT hj;rw[h.lzero l lb x hlb]at h1;cases h1
  cases hj
 |n+1,ht=>λF Q r hF hp hK l a Q' hs ts σ hT hj=>by
  have ih:=FI.Good.z02 hD h n λm hm=>ht m (by omega)
  unfold jump at hj;split at hj;rename_i lb hlb;obtain⟨p1,p2⟩:=h.pins (n+1) l lb hlb;obtain⟨x,h1,h2⟩:=LSh.z8w hD (by omega) p2 hT hj;rw[h.lstep n l lb x hlb]at h1;unfold zpr at h1;split at h1;rename_i g hg
  obtain⟨a',Q'',e1,e2⟩:=zfs hD (ht n (by omega)) hF h.zg7 hK (λb _ ts σ _ hk=>by cases hk) (zep (P:=P) (φ:=LOk P D F (jump D (f.z02 n)) r) h.nodup λl a Q' hs ts σ hT hj=>ih F Q r hF hp hK l a Q' hs ts σ hT hj) hg
  rw[hs]at e1;injection e1 with e1;injection e1 with e1 e3;subst e1;subst e3
  exact e2 _ σ h2 h1;cases h1;cases hj
theorem FI.Good.runs(hD:D.Ok P){tbl:Nat->List (Ent D)}{f:FI D}(h:f.Good P D tbl):∀n,(∀m,m<n->∀e∈tbl m,e.Ok P)->ya4 P D f.c.erase f.p f.args f.aos f.nt f.gs f.K (f.go n)
 |0,_=>λF Q r hF hp hK x σ hT hg=>by rw[h.zero]at hg;cases hg
 |n+1,ht=>λF Q r hF hp hK x σ hT hg=>by
  rw[h.step]at hg;have ih:=h.z02 hD n λm hm=>ht m (by omega)
  exact z5c hD (ht n (by omega)) hK (zep (P:=P) (φ:=LOk P D F (jump D (f.z02 n)) r) h.nodup λl a Q' hs ts σ hT hj=>ih F Q r hF hp hK l a Q' hs ts σ hT hj) hT hg
theorem ring(hD:D.Ok P){fs:List (FI D)}{base:Nat->List (Ent D)}(hb:∀n,∀e∈base n,e.Ok P)(h:∀f∈fs,f.Good P D λn=>fs.map (·.ent n)++base n):∀n,∀f∈fs,(f.ent n).Ok P:=λn=>by
 induction n using Nat.strongRecOn with
 |ind n ih=>
  intro f hf;refine(h f hf).ok n ((h f hf).runs hD n λm hm e he =>?_)
  rcases Qbb.1 he with he|he
  obtain⟨g,hg,rfl⟩:=Qbg.1 he;exact ih m hm g hg;exact hb m e he
end
end Go.Ab
