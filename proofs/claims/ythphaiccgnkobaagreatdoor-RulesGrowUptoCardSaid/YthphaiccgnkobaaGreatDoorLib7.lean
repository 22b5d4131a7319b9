/-
  THE TYPED MACHINE: regions.
-/
import Derived.Test.YthphaiccgnkobaaGreatDoorLib6
import Derived.KernelRfl
namespace Go.Ab
open Go
set_option linter.unusedVariables false
set_option linter.unusedSimpArgs false
set_option linter.unusedSectionVars false
section
variable {P : Program} {D : Dat} {F : Fr} {ρ : List Slot} {ts : TS D.T} {σ : St} {lv : Nat}
variable (hD : D.Ok P)
include hD
omit hD in
theorem ywc{T nx}{a b:Option (TV T)}(h:¬appW nx a b=none):appW nx a b=some nx∧∀q,a≠some (.own q):=by
 unfold appW at h ⊢;split at h;exact(h rfl).elim
 grind
 grind
 exact(h rfl).elim
omit hD in
theorem ywm{ops k σ τ Q}(hw:zlf σ τ)(h:zes P ops k τ Q):zes P ops k σ Q:=λW0 g0 H0 W a g hB hS hG=>by
 obtain⟨g',h1,h2⟩:=hw W0 g0 H0 W a g hB hS hG;exact h W0 g0 H0 W a g' hB h1 h2
omit hD in
theorem zjp{ops:Array Oper}{k o}(ho:ops[k]? = some o):(ops.toList.drop k).take 1=[o]:=by
 have hk:k<ops.size:=by
  grind
 have hk':=by simpa using hk
 rw[<-Qah (h:=hk')]
 grind
omit hD in
theorem ync{ops k σ Q o v H'}(ho:ops[k]? = some o)(hw:yzu ops σ o=some true)(hox:ox P σ.H σ.ev o.op=some (v,H'))(h:zes P ops (k+1) ({σ with H:=H'}.put o.dst v) Q):zes P ops k σ Q :=
 zy5 1 [] ({σ with H:=H'}.put o.dst v) [] (by simp_all[zjp,y1v]) zts h
omit hD in
theorem ywq{ops k σ Q o}(ho:ops[k]? = some o)(hw:yzu ops σ o=some false)(h:zes P ops (k+1) (σ.put o.dst (.tup [])) Q):zes P ops k σ Q :=
 zy5 1 [] (σ.put o.dst (.tup [])) [] (by rw[zjp ho];simp[y1v,hw]) zts h
omit hD in
theorem ysx{ops k σ Q o c f args v}(ho:ops[k]? = some o)(hw:yzu ops σ o=some true)(hop:o.op = .call c)(hcal:∃x,c.callee = .value x)(ht:target σ.ev c=some (f,args))(hc:y0g P f args σ.H v σ.H)
  (h:zes P ops (k+1) (σ.put o.dst v) Q):zes P ops k σ Q:=by
 refine zy5 1 [(v,none)] (σ.put o.dst v) [⟨f,args,σ.H,v,σ.H⟩] ?_ (zp8 hc zts) h;obtain⟨x,hx⟩:=hcal
 simp_all[ox,zda,zjp,y1v]
omit hD in
theorem yso{ops k σ Q o c f args v}(ho:ops[k]? = some o)(hw:yzu ops σ o=some true)(hop:o.op = .call c)(hcal:∃x,c.callee = .value x)(ht:target σ.ev c=some (f,args))(hc:zpq P f args v)
  (h:zes P ops (k+1) (σ.put o.dst v) Q):zes P ops k σ Q:=by
 refine zy5 1 [(v,none)] (σ.put o.dst v) [⟨f,args,σ.H,v,σ.H⟩] ?_ (zp8 (hc σ.H) zts) h;obtain⟨x,hx⟩:=hcal
 simp_all[ox,zda,zjp,y1v]
omit hD in
def zxb(ops:Array Oper)(ts:TS D.T)(o:Oper):Prop:=o.guard=none∨∃j want d,o.guard=some (j,want)∧(ops[j]?).bind (·.dst)=some d∧fnd ts.t d=some (.bool want)
omit hD in
theorem TRr.tmp(hR:TRr D F ρ ts σ){d x}(h:fnd ts.t d=some x):VR D ρ F.lv x (σ.t.getD d .any):=hR.ev (o:=.tmp d) h
omit hD in
theorem zxb.wanted(hR:TRr D F ρ ts σ){ops o}(h:zxb ops ts o):yzu ops σ o=some true:=by
 unfold yzu
 rcases h with h|⟨j,want,d,h1,h2,h3⟩
 rw[h];have:=hR.tmp h3
 simp_all[VR]
omit hD in
theorem zxb.freeze{ops o}(h:zxb ops ts o){s ts'}(hf:ts.freeze D s=some ts'):zxb ops ts' o:=by
 rcases h with h|⟨j,want,d,h1,h2,h3⟩
 exact .inl h
 ·refine .inr ⟨j,want,d,h1,h2,?_⟩;unfold TS.freeze at hf;split at hf;rename_i ty t xs w _ ho;cases hf
  simp_all[TS.zdi,zlp,TV.frz]
  rename_i ty q xs _ ho;cases hf
  simp_all[TS.zdi,zlp,TV.frz]
  ·rename_i ty t es _ ho;split at hf
   case isFalse=>cases hf
   cases hf
   simp_all[TS.zdi,zlp,TV.frz]
  cases hf
omit hD in
theorem zxb.ren{ops o ts'}(h:zxb ops ts o){s s'}(ht:ts'.t=ts.t.map λp=>(p.1,TV.ren D s s' p.2)):zxb ops ts' o:=by
 rcases h with h|⟨j,want,d,h1,h2,h3⟩
 exact .inl h;refine .inr ⟨j,want,d,h1,h2,?_⟩
 simp_all[zlp,TV.ren]
omit hD in
theorem zy9(hR:TRr D F ρ ts σ){c x f a b vs}(hc:c.callee = .value x)(h1:ts.ev x=some (.fn f a b))(h2:ts.evs c.args.toList=some vs):∃args,target σ.ev c=some (f,args)∧VRL D ρ F.lv (a++vs++b) args:=by
 have hx:=hR.ev h1;obtain⟨as,bs,e1,e2,e3⟩:=hx;exact⟨as++c.args.toList.map σ.ev++bs,by simp[target,hc,e1],(e2.append (hR.evs h2)).append e3⟩
variable {tbl : List (Ent D)}
omit hD in
theorem ydi{W}{a:Act}{g c f args ty}(hρ:∀x,Rel W g σ.H (σ.ev x) (a.eval x))(h:target σ.ev c=some (f,args)) :
  ∃caps as,zk0 W g σ.H args (as++caps)∧∀w:World,(resolve a.eval c ty).run P w = .ok ⟨.fn (.func f) caps,as⟩ w:=by
 unfold target at h;split at h;rename_i fo hc;split at h;rename_i f' first caps hf;injection h with h;cases h;have hr:=hρ fo;rw[hf]at hr;generalize hrc:a.eval fo=rc at hr
 cases hr with
 |fn _ _ _ fs cs n1 n2 r1 r2=>
  refine⟨cs,fs++c.args.map a.eval,zof (zof ⟨n1,r1⟩ (zx0 hρ c.args)) ⟨n2,r2⟩,λw =>?_⟩;simp[resolve,hc,hrc,Deferred.ofValue]
 cases h;cases h
omit hD in
theorem ynz{ops k σ Q o c f args}(ho:ops[k]? = some o)(hw:yzu ops σ o=some true)(hop:o.op = .defer c)(ht:target σ.ev c=some (f,args))(hfm:f<zl8)
  (h:zes P ops (k+1) ({σ with d:=(f,args)::σ.d}.put o.dst .any) Q):zes P ops k σ Q:=λW0 g0 H0 W a g hB hS hG=>by
 have hk:k<ops.size:=by
  grind
 rw[show ops.size-k=(ops.size-(k+1))+1 by omega,List.range'_succ];simp[wpOps,ho];rw[z0c hG hw,Qbq rfl];left;unfold Oper.wp;obtain⟨caps,as,k1,k2⟩:=ydi (P:=P) (ty:=o.type) hG.ev ht
 have hex:(execOp a.eval o).run P W = .ok (.defer ⟨.fn (.func f) caps,as⟩) W:=by
  unfold execOp;rw[hop];simp[k2 W]
 rw[hex]
 have hG2:zzb W {a with defers:=⟨.fn (.func f) caps,as⟩::a.defers} g {σ with d:=(f,args)::σ.d}:=by
  refine⟨hG.good,hG.size,hG.tmps,by simp[hG.dlen],λj f' vs hj =>?_⟩
  cases j with
  |zero=>simp at hj;obtain⟨rfl,rfl⟩:=hj;exact .inl ⟨hfm,caps,as,rfl,k1⟩
  |succ j=>exact hG.defs j f' vs (by simpa using hj)
 have hG3:=hG2.next (.refl _ _ _) hG.good (.any undef) o.dst;have hH:({σ with d:=(f,args)::σ.d}.put o.dst .any).H=σ.H:=by cases o.dst <;> rfl
 have he:({σ with d:=(f,args)::σ.d}.put o.dst .any).e0=σ.e0:=by cases o.dst <;> rfl
 exact h W0 g0 H0 W _ g hB (by rw[hH,he];exact hS) hG3
omit hD in
theorem ziz{ops k σ Q o v H'}(ho:ops[k]? = some o)(hw:yzu ops σ o=some true)
  (ht:∀W a g,zzb W a g σ->z8c P W g σ.H (execOp a.eval o) v H') (h:zes P ops (k+1) ({σ with H:=H'}.put o.dst v) Q):zes P ops k σ Q:=λW0 g0 H0 W a g hB hS hG=>by
 have hk:k<ops.size:=by
  grind
 rw[show ops.size-k=(ops.size-(k+1))+1 by omega,List.range'_succ];simp[wpOps,ho];rw[z0c hG hw,Qbq rfl];left;unfold Oper.wp;obtain⟨c,W',g',h1,h2,h3,h4⟩:=ht W a g hG;have hn:=hG.next h2 h3 h4 o.dst;have hH:({σ with H:=H'}.put o.dst v).H=H':=by cases o.dst <;> rfl
 have he:({σ with H:=H'}.put o.dst v).e0=σ.e0:=by cases o.dst <;> rfl
 have fin:=h W0 g0 H0 W' (a.put o.dst c) g' hB (by rw[hH,he];exact⟨hS.1,hS.2.trans h2⟩) hn
 rcases h1 with h1|⟨h1,rfl⟩
 rw[h1];exact fin;rw[h1];exact fin
omit hD in
theorem TRr.defer(hR:TRr D F ρ ts σ){f xs args}(h:VRL D ρ F.lv xs args):TRr D F ρ {ts with d:=(f,xs)::ts.d} {σ with d:=(f,args)::σ.d} :=
 ⟨hR.nx,hR.nt,hR.tm,hR.ob,hR.inj,hR.mine,hR.lv,hR.E,hR.e0,⟨args,σ.d,rfl,h,hR.d⟩,hR.out,hR.pin,hR.fpl,hR.g⟩
omit hD in
theorem y6a:∀(xs) (ws),ws.length=xs.length->(∀(j:Nat) (x:Int) (w),xs[j]? = some x->ws[j]? = some w->DR D (.int .u8) x w)->zkq ws=yby xs
 |[],ws,hl,h=>by obtain rfl:ws=[]:=Qao hl;rfl
 |x::xs,[],hl,h=>by simp at hl
 |x::xs,w::ws,hl,h=>by
  have h0:=h 0 x w rfl rfl;have ih:=y6a xs ws (by simpa using hl) λj y u hy hu=>h (j+1) y u (by simpa using hy) (by simpa using hu)
  cases h0;simp[zkq,yby,ih]
  cases x with
  |ofNat m=>cases yby xs <;> rfl
  |negSucc m=>cases yby xs <;> rfl
omit hD in
theorem yxd{α:Type}(es:List α):es.Perm (((List.range es.length).filter λq => !([]:List Nat).contains q).filterMap λq=>es[q]?):=by
 have h1:((List.range es.length).filter λq => !([]:List Nat).contains q)=List.range es.length:=by simp
 rw[h1]
 have h2:(List.range es.length).filterMap (λq=>es[q]?)=es:=by
  apply List.ext_getElem?;intro n
  have:∀(l:List Nat),(∀q∈l,q<es.length)->(l.filterMap λq=>es[q]?)[n]? = (l[n]?).bind λq=>es[q]? := by
   intro l
   induction l generalizing n with
   |nil=>simp
   |cons a l ih=>
    grind
  grind
 rw[h2]
omit hD in
theorem yxo{α:Type}{es fs:List α}{vis j p}(h:es.Perm (((List.range fs.length).filter λq => !vis.contains q).filterMap λq=>fs[q]?))(hj:fs[j]? = some p)(hn:j∉vis) :
  ∃m:Nat,es[m]? = some p∧(es.eraseIdx m).Perm (((List.range fs.length).filter λq => !(vis++[j]).contains q).filterMap λq=>fs[q]?):=by
 have hlt:=(Qaa.1 hj).1;have hmem:j∈(List.range fs.length).filter λq => !vis.contains q:=by simp[hlt,hn]
 have hnd:((List.range fs.length).filter λq => !vis.contains q).Nodup:=List.nodup_range.filter _
 have he:((List.range fs.length).filter λq => !(vis++[j]).contains q)=((List.range fs.length).filter λq => !vis.contains q).erase j:=by
  rw[hnd.erase_eq_filter,List.filter_filter];refine List.filter_congr λq _ =>?_
  grind
 have hp:=(List.perm_cons_erase hmem).filterMap λq=>fs[q]?
 rw[List.filterMap_cons,hj]at hp;have hp2:=h.trans hp;have hm:p∈es:=hp2.mem_iff.2 (by simp);obtain⟨m,hm⟩:=List.mem_iff_getElem?.1 hm;refine⟨m,hm,?_⟩;rw[he]
 have h1:es.Perm (p::es.eraseIdx m):=by
  grind[List.take_append_drop,List.drop_eq_getElem_cons,List.eraseIdx_eq_take_drop_succ,List.perm_middle]
 exact(List.perm_cons p).1 (h1.symm.trans hp2)
omit hD in
theorem yxk{α R es}{f:B8->α->List (B8×α)->Option R}{g r}(h:y8h es f g=some r)(he:es=[]):g=some r:=by
 subst he;exact h
omit hD in
theorem ywi{α R es f g}{r:R}(h:y8h es f g=some r)(m)(p:B8×α)(hm:es[m]? = some p):f p.1 p.2 (es.eraseIdx m)=some r:=by
 match es,h,hm with
 |[],h,hm=>simp at hm
 |[e],h,hm=>
  cases m with
  |zero=>obtain rfl:e=p:=by simpa using hm
         exact h
  |succ m=>simp at hm
 |e::e'::l,h,hm=>
  simp only[y8h]at h;split at h
  grind
  cases h
omit hD in
theorem z010{α R es f g}{r:R}(h0:es=[]->g=some r)(h1:∀(m:Nat) (p:B8×α),es[m]? = some p->f p.1 p.2 (es.eraseIdx m)=some r):y8h es f g=some r:=by
 match es,h0,h1 with
 |[],h0,h1=>exact h0 rfl
 |[e],h0,h1=>exact h1 0 e rfl
 |e::e'::l,h0,h1=>
  have hz:∃z,∀i p,(e::e'::l)[i]? = some p->f p.1 p.2 ((e::e'::l).eraseIdx i)=some z:=⟨r,h1⟩;simp only[y8h];have a:=hz.choose_spec 0 e rfl
  grind
omit hD in
theorem VR.z01o{t}(hf:t.flat=true)(x):VR D ρ lv (D.leaf t x) (y8t t x).v:=by
 cases t <;> first|(cases hf;done)|(rfl)
theorem zu9{R ops n o Q k kp}{r:R}(ho:ops[n]? = some o)(htbl:∀e∈tbl,e.Ok P)
  (hk:∀z ts' σ' ρ' v,TRr D F ρ' ts' σ'->VR D ρ' F.lv z v->k z ts'=some r->zes P ops (n+1) (σ'.put o.dst v) Q)
  (hkp:∀z ts' σ' ρ' v,TRr D F ρ' ts' σ'->VR D ρ' F.lv z v->kp z ts'=some r->Q (.panic v) σ'):∀(fuel:Nat) {ts:TS D.T}{σ:St}{ρ:List Slot},TRr D F ρ ts σ->zxb ops ts o->yhc P D tbl o.op k kp fuel ts=some r->zes P ops n σ Q
 |0,ts,σ,ρ,hR,hw,h=>by simp[yhc]at h
 |fuel+1,ts,σ,ρ,hR,hw,h=>by
  have hkf:∀s,(match isHole ts s with|true=>ts.fold D (yap 9 ts s) (λts'=>yhc P D tbl o.op k kp fuel ts')|false=>(match ts.freeze D s with|some ts'=>yhc P D tbl o.op k kp fuel ts'|none=>none))=some r->zes P ops n σ Q:=λs hs=>by
   cases hhole:isHole ts s with
   |true=>
    rw[hhole]at hs;obtain⟨ts',ρ',h1,h2,h3,_⟩:=yc9 hD hR hs
    exact zu9 ho htbl hk hkp fuel h1 (hw.ren h3) h2
   |false=>
   rw[hhole]at hs
   cases hf:ts.freeze D s with
   |none=>rw[hf]at hs;cases hs
   |some ts'=>
    rw[hf]at hs;obtain⟨τ,h1,h2⟩:=y38 hD hR hf;exact ywm h1 (zu9 ho htbl hk hkp fuel h2 (hw.freeze hf) hs)
  have hop:∀{kf:Nat->Option R},(∀s,kf s=some r->zes P ops n σ Q)->tOp P D ts o.op k kf=some r->zes P ops n σ Q:=λ{kf} hkf h=>by
   rcases yjj hD hR h with ⟨z,ts',v,H',ρ',h1,h2,h3,h4⟩|⟨s,hs⟩
   exact ync ho (hw.wanted hR) h1 (hk z ts' _ ρ' v h3 h2 h4);exact hkf s hs
  unfold yhc at h;simp only at h;split at h;rename_i t a hc;split at h;rename_i s i off ha
  rcases ynr hD hR h (hR.ev ha)with ⟨z,v,ts',ρ',h1,h2,h3,h4⟩|⟨s,hs⟩
  exact ync ho (hw.wanted hR) (by rw[hc];exact yre (op:=.load t a) h1) (hk z ts' σ ρ' v h3 h2 h4);exact hkf s hs;exact hop hkf h;rename_i c hc;split at h;rename_i x hcal;split at h;rename_i f a b vs hx hvs;obtain⟨args,t1,t2⟩:=zy9 hR hcal hx hvs
  have hcall:zuc D f (a++vs++b) ts k kp _ tbl=some r->zes P ops n σ Q:=λh=>by
   rcases zkc hD hR t2 htbl h with ⟨_,Post,h1,h2,h3⟩|⟨rv,h1,z,ρ',ts',h2,h3,h4,_⟩|⟨s,hs⟩
   refine yy8 ho (hw.wanted hR) hc t1 h1 (λrv H' hp =>?_) λv H' hp =>?_
   obtain⟨z,ts',ρ',k1,k2,k3⟩:=h2 rv H' hp;exact hk z ts' _ ρ' rv k2 k1 k3;obtain⟨z,ts',ρ',k1,k2,k3⟩:=h3 v H' hp;exact hkp z ts' _ ρ' v k2 k1 k3;exact yso ho (hw.wanted hR) hc ⟨x,hcal⟩ t1 h1 (hk z ts' σ ρ' rv h3 (h2 _) h4);exact hkf s hs
  split at h;split at h;rename_i s _;exact hkf s h
  rcases ztv hD hR t2 htbl h with ⟨rv,z,h1,h2,h3⟩|h
  exact ysx ho (hw.wanted hR) hc ⟨x,hcal⟩ t1 h1 (hk z ts σ ρ rv hR h2 h3);exact hcall h;exact hcall h;cases h;exact hop hkf h;rename_i x hc;split at h;rename_i t v hx;have hv:=hR.ev hx;simp only[VR]at hv;obtain⟨u,e1,e2⟩:=hv;exact yt7 ho (hw.wanted hR) hc e1 (hkp _ ts σ ρ _ hR (by simp only[VR];exact⟨u,rfl,e2⟩) h);cases h
  ·rename_i c hc;split at h
   ·rename_i x hcal;split at h
    ·rename_i f a b vs hx hvs;split at h
     case h_2=>cases h
     rename_i hfm;have hfm:f<zl8:=by rw[Nat.blt_eq]at hfm;exact hfm
     obtain⟨args,t1,t2⟩:=zy9 hR hcal hx hvs;exact ynz ho (hw.wanted hR) hc t1 hfm (hk .any _ _ ρ .any (hR.defer t2) (by simp only[VR]) h)
    cases h
   cases h
  rename_i bo t x y ty hc;split at h;rename_i hx hy;split at h;rename_i hi hu;have h1:=hR.ev hx;have h2:=hR.ev hy;simp only[VR]at h1 h2
  have ztp:∀{b:Bool},y79 P bo t x y .nili .nili=some (.bool b)->k (.bool b) ts=some r->zes P ops n σ Q:=λ{b} hb hkk=>by
   refine ziz ho (hw.wanted hR) (λW a g hG=>ztx hG.good hG.ev (v:=.bool b) (H':=σ.H) ?_) (hk (.bool b) ts _ ρ (.bool b) hR (by simp only[VR]) hkk);rw[hc];simp only[zqt,hEq2,h1,h2,hb,Qbk]
  split at h;exact ztp (by simp only[y79,hi,hu]) h;exact ztp (by simp only[y79,hi,hu]) h;cases h;cases h;exact hop hkf h;rename_i t hc;split at h;rename_i i hz hi;split at h;rename_i hb;simp only[Qag]at hb;have hsz:i.size=2:=Qaj hb.2
  have hm:zqt P σ.H σ.ev o.op=some (.ap σ.H.lv σ.H.L.length 0 0 0,σ.H.push (.arr 0 t 2 [.agg [.nilp,.nils]] (some 1))):=by
   rw[hc];simp only[zqt,hb.1,yah,hz,hi,hsz];rfl
  refine ziz ho (hw.wanted hR) (λW a g hG=>ztx hG.good hG.ev hm) (hk (.bp ts.nx 0) _ _ (ρ++[⟨.any,some σ.H.L.length,[],[]⟩]) _ ?_ ?_ h);refine hR.new _ _ _ hR.lv hR.E (by simp[Heap.push]) (λi hi=>by simp only[Heap.push];rw[Qal hi]) (λi hi=>by injection hi with hi;omega) ?_;simp only[OR];exact⟨σ.H.L.length,.nilp,.nils,rfl,by simp[Heap.push],.inl rfl,by simp only[ymn,VR]⟩
  simp only[VR];exact⟨⟨.any,some σ.H.L.length,[],[]⟩,σ.H.L.length,by rw[<-hR.nx];simp,rfl,by rw[hR.lv]⟩;exact hop hkf h;exact hop hkf h;rename_i s d x hc;split at h;rename_i xs fl hx;split at h;rename_i e hus hud;split at h;rename_i hue;obtain⟨y,hy,h⟩:=z1p h;have hv:=hR.ev hx;simp only[VR]at hv
  have hs:hStr P s d (σ.ev x)=some (.str y):=by
   unfold hStr;rw[hus,hud];simp only[hue];obtain⟨hv,_⟩:=hv;generalize σ.ev x=u at hv
   cases hv with
   |nil=>simp only[yby,Qbn]at hy;subst hy;rfl
   |sl _ _ ws full hl hh=>
    simp only[Dat.len];rw[y6a xs ws hl hh,hy];rfl
  refine ziz ho (hw.wanted hR) (λW a g hG =>?_) (hk (.str y) ts _ ρ (.str y) hR (by simp only[VR]) h);have hx':=hG.ev x;unfold execOp;rw[hc];exact yf4 hG.good hs hx';cases h;cases h;exact hop hkf h
  ·rename_i t x hc;split at h;exact hkf _ h
   ·rename_i τ es hx;split at h
    ·rename_i kt vt ht;have hv:=hR.ev hx;unfold VR at hv;obtain⟨hfl,hv⟩:=hv;refine ziz (v:=.ptr σ.H.lv σ.H.L.length 0) (H':=σ.H.push (.mit (es.map λp=>(.str p.1,y8t τ p.2)) [])) ho (hw.wanted hR) (λW a g hG =>?_) (hk (.ptr ts.nx 0) _ _ (ρ++[⟨.any,some σ.H.L.length,[],[]⟩]) _ ?_ ?_ h)
     rotate_left
     refine hR.new _ _ _ hR.lv hR.E (by simp[Heap.push]) (λi hi=>by simp only[Heap.push];rw[Qal hi]) (λi hi=>by injection hi with hi;omega) ?_;simp only[OR];refine⟨σ.H.L.length,es,[],rfl,hfl,by simp[Heap.push],by simp,?_,λp hp=>by cases hp⟩;exact yxd es;simp only[VR];exact⟨⟨.any,some σ.H.L.length,[],[]⟩,σ.H.L.length,by rw[<-hR.nx];simp,rfl,by rw[hR.lv]⟩;have hx':=hG.ev x
     rw[hv]at hx';unfold execOp;rw[hc];exact yoy hG.good ht hx'
    cases h
   exact hop hkf h
  rename_i x hc;split at h;rename_i s hx;split at h;rename_i τ last es hs;have hv:=hR.ev hx;simp only[VR]at hv;obtain⟨sl,i,e1,e2,e3⟩:=hv;obtain⟨sl',k1,k2⟩:=hR.ob s _ hs
  rw[e1]at k1;injection k1 with k1;subst k1
  have k2':=k2;simp only[OR]at k2;obtain⟨i',fs,vis,q1,q2,q3,q4,q5,_⟩:=k2
  rw[e2]at q1;injection q1 with q1;subst q1
  have hlt:=(Qaa.1 q3).1;refine yvw ho (hw.wanted hR) hc e3 (hR.get q3) (λq hq=>by simpa using q4 q hq) (λhall =>?_) λj p hj hnj =>?_
  have hnil:es=[]:=by
   have:(List.filter (λq => !vis.contains q) (List.range fs.length))=[]:=List.filter_eq_nil_iff.2 λq hq=>by
    have:=hall q (by simpa using hq);simpa using this
   rw[this]at q5;simpa using q5
  exact hk (.tup [.bool false]) ts σ ρ _ hR (by simp[VR,VRL]) (yxk h hnil);rw[Qan,Qaf]at hj;obtain⟨p',hp',rfl⟩:=hj;obtain⟨m,hm,hperm⟩:=yxo q5 hp' hnj;have h':=ywi h m p' hm;refine hk _ _ _ ρ _ ?_ ?_ h'
  have hmm:σ.H.set F.lv i (kzg.mit (fs.map λp=>(.str p.1,y8t τ p.2)) (vis++[j]))={σ.H with L:=σ.H.L.set i (some (.mit (fs.map λp=>(.str p.1,y8t τ p.2)) (vis++[j])))}:=by
   unfold Heap.set;rw[Qbq hR.lv.symm]
  rw[hmm]
  exact hR.upd hs trivial e1 e2 (.mit τ (some (p'.1,p'.2)) (es.eraseIdx m)) (.mit (fs.map λp=>(.str p.1,y8t τ p.2)) (vis++[j])) (by
   simp only[OR];refine⟨i,fs,vis++[j],e2,q2,by simp[hlt],λq hq =>?_,hperm,λp hp=>⟨vis,j,rfl,by injection hp with hp;rw[hp',<-hp]⟩⟩
   rcases List.mem_append.1 hq with hq|hq
   exact q4 q hq
   simp at hq;subst hq;exact(Qaa.1 hp').1)
  simp only[VR,VRL];exact⟨_,rfl,_,_,rfl,rfl,_,_,rfl,rfl,_,_,rfl,VR.z01o q2 _,rfl⟩;cases h;cases h
  ·rename_i x hc;split at h
   ·rename_i s hx;split at h
    ·rename_i τ p es hs;have hv:=hR.ev hx;simp only[VR]at hv;obtain⟨sl,i,e1,e2,e3⟩:=hv;obtain⟨sl',k1,k2⟩:=hR.ob s _ hs
     rw[e1]at k1;injection k1 with k1;subst k1
     simp only[OR]at k2;obtain⟨i',fs,vis,q1,q2,q3,q4,q5,q6⟩:=k2
     rw[e2]at q1;injection q1 with q1;subst q1
     obtain⟨vis',j,rfl,hj⟩:=q6 p rfl;refine ziz (v:=.tup [.str p.1,(y8t τ p.2).v]) (H':=σ.H) ho (hw.wanted hR) (λW a g hG =>?_) (hk _ ts _ ρ _ hR ?_ h)
     rotate_left
     simp only[VR,VRL];exact⟨_,rfl,_,_,rfl,rfl,_,_,rfl,VR.z01o q2 _,rfl⟩;have hx':=hG.ev x;rw[e3]at hx';unfold execOp;rw[hc];exact yq0 hG.good (hR.get q3) (by rw[Qan,hj];rfl) hx'
    cases h
   cases h
  exact hop hkf h
omit hD in
theorem zx2{R ops}{n:Nat}{o go skip}{r:R}{G:Prop}(hR:TRr D F ρ ts σ)(h:ycm D ops.toList o ts go skip=some r)
  (h1:∀ts',ts'.o=ts.o->TRr D F ρ ts' σ->zxb ops ts' o->go ts'=some r->G) (h2:∀ts',ts'.o=ts.o->TRr D F ρ ts' σ->yzu ops σ o=some false->skip ts'=some r->G):G:=by
 unfold ycm at h;split at h;rename_i hg;exact h1 ts rfl hR (.inl hg) h;rename_i j want hg;have hj:ops.toList[j]? = ops[j]? := by simp
 rw[hj]at h;split at h;cases h;rename_i d hd
 have tell:∀b:Bool,fnd ts.t d=some (.bool b)->TRr D F ρ {ts with t:=(d,.bool b)::ts.t} σ∧fnd ({ts with t:=(d,.bool b)::ts.t}:TS D.T).t d=some (.bool b)∧σ.t.getD d .any = .bool b:=λb hb=>by
  obtain⟨v,e1,e2⟩:=hR.tm d _ hb;refine⟨hR.tell e1 e2,by simp[zz9,if_true],?_⟩
  grind[VR]
 simp[yag]at h;split at h;rename_i b hb
 have wf:∀b':Bool,b'=b->(b'==want)=false->yzu ops σ o=some false:=λb' e hne=>by
  grind[yzu]
 split at h;rename_i hbt;subst hbt;obtain⟨t1,t2,t3⟩:=tell true hb;split at h;rename_i hwt;subst hwt;exact h1 _ (by rfl) t1 (.inr ⟨j,true,d,hg,hd,t2⟩) h;rename_i hwt;grind;rename_i hbf;have hbf:=by simpa using hbf
 subst hbf;obtain⟨t1,t2,t3⟩:=tell false hb;split at h;rename_i hwt;grind;rename_i hwt;have hwt:=by simpa using hwt
 subst hwt;exact h1 _ (by rfl) t1 (.inr ⟨j,false,d,hg,hd,t2⟩) h;rename_i vs hv;have:=hR.tmp hv;simp[VR]at this;obtain⟨us,e1,e2⟩:=this;exact h2 ts rfl hR (by grind[yzu]) h;cases h
theorem yq9{R ops n o Q k kp}{r:R}(ho:ops[n]? = some o)(htbl:∀e∈tbl,e.Ok P)
  (hk:∀z ts' σ' ρ' v,TRr D F ρ' ts' σ'->VR D ρ' F.lv z v->k z ts'=some r->zes P ops (n+1) (σ'.put o.dst v) Q) (hkp:∀z ts' σ' ρ' v,TRr D F ρ' ts' σ'->VR D ρ' F.lv z v->kp z ts'=some r->Q (.panic v) σ') {ts σ ρ}
  (hR:TRr D F ρ ts σ) (hw:zxb ops ts o) (h:z01k P D tbl ops.toList o k kp ts=some r):zes P ops n σ Q:=by
 unfold z01k at h;split at h;rename_i t x lo hcp;split at h;rename_i cx clo hx hlo
 rcases yej hR h (hR.ev hx) (hR.ev hlo)with ⟨z,v,h1,h2,h3⟩|h
 refine ync (H':=σ.H) ho (hw.wanted hR) ?_ (hk z ts _ ρ v hR h2 h3)
 grind[cpB,ox,pv]
 grind[zu9]
 cases h;have fall:=zu9 hD ho htbl hk hkp 9 hR hw;split at h;unfold tLit at h;split at h;rename_i t len ps hop;split at h;rename_i e qs hu hqs;split at h;rename_i τ xs hb;obtain⟨p1,p2⟩:=hR.parts hqs;obtain⟨v,b1,b2⟩:=zij hD p1 p2 hb;simp only[VR]at b2;obtain⟨b2,b3,_⟩:=b2;obtain⟨ws,rfl⟩:=b3 (Qbp _)
 cases b2 with
 |sl _ _ _ _ hl hh=>
  have hlen:len≠0:=λe0=>by
   subst e0;unfold zh4 at hb
   grind
  refine ziz (v:=.hs σ.H.lv σ.H.L.length 0 0 ws.length false) (H':=σ.H.push (.arr 0 e (D.len τ) ws (some ws.length))) ho (hw.wanted hR) (λW a g hG =>?_) (hk (.own ts.nx) _ _ (ρ++[⟨.hs σ.H.lv σ.H.L.length 0 0 ws.length false,some σ.H.L.length,ws,[]⟩]) _ ?_ ?_ h);unfold execOp;rw[hop];obtain⟨r1,r2⟩:=zly hG.ev ps;exact zvr hG.good b1 hlen hu r1 r2
  refine hR.new _ _ _ hR.lv hR.E (by simp[Heap.push]) (λi hi=>by grind[Heap.push]) (λi hi=>by grind) ?_;simp only[OR];exact⟨hl,hh,0,some ws.length,by rw[hR.lv],by simp[Heap.push]⟩;simp only[VR];exact⟨⟨.hs σ.H.lv σ.H.L.length 0 0 ws.length false,some σ.H.L.length,ws,[]⟩,by rw[<-hR.nx];simp,rfl,rfl⟩
 exact fall h;exact fall h;exact fall h;exact fall h
theorem zhg{R ops Q kn kp}{r:R}(htbl:∀e∈tbl,e.Ok P)
  (hkn:∀ts' σ' ρ',TRr D F ρ' ts' σ'->kn ts'=some r->Q .normal σ') (hkp:∀z ts' σ' ρ' v,TRr D F ρ' ts' σ'->VR D ρ' F.lv z v->kp z ts'=some r->Q (.panic v) σ') :
  ∀(l) (n) {ts σ ρ},(∀j,l[j]? = ops[n+j]?)->TRr D F ρ ts σ->zvu P D tbl ops.toList kn kp l ts=some r->zes P ops n σ Q
 |[],n,ts,σ,ρ,hl,hR,h=>by
  exact z02i (by have:=hl 0;grind) (hkn ts σ ρ hR h)
 |o::l,n,ts,σ,ρ,hl,hR,h=>by
  have ho:=by simpa using(hl 0).symm
  have hl':∀j,l[j]? = ops[n+1+j]? := λj=>by have:=hl (j+1);grind
  simp[zvu,pOp]at h;refine zx2 (n:=n) hR h (λts1 _ hR1 hw h1 =>?_) λts1 _ hR1 hw h1 =>?_
  refine yq9 hD ho htbl (λz ts' σ' ρ' v a1 a2 a3 =>?_) hkp hR1 hw h1;split at a3;rename_i ts2 hp;exact zhg htbl hkn hkp l (n+1) hl' (a1.put hp a2) a3;cases a3;split at h1;rename_i ts2 hp;exact ywq ho hw (zhg htbl hkn hkp l (n+1) hl' (hR1.put hp (by simp only[VR];exact⟨[],rfl,by simp[VRL]⟩)) h1);cases h1
theorem zbq{R ops kn}{r:R}(htbl:∀e∈tbl,e.Ok P) :
  ∀(l) {ts σ},TRr D F ρ ts σ->zgl P D tbl ops.toList kn l ts=some r->∃ans σ' cl ts',znu P ops l ans σ=some (σ',[],cl)∧(∀c∈cl,c.ok P)∧TRr D F ρ ts' σ'∧kn ts'=some r
 |[],ts,σ,hR,h=>⟨[],σ,[],ts,rfl,by simp,hR,h⟩
 |o::l,ts,σ,hR,h=>by
  simp only[zgl,pOp]at h;refine zx2 (ops:=ops) (n:=0) hR h (λts1 _ hR1 hw h1 =>?_) λts1 _ hR1 hw h1 =>?_
  have hwt:=hw.wanted hR1
  have hpv:∀{op:Op},op=o.op->tP P D ts1 op (λv=>match ts1.put D o.dst v with|some ts=>zgl P D tbl ops.toList kn l ts|none=>none) (λ_=>none)=some r->∃ans σ' cl ts',znu P ops (o::l) ans σ=some (σ',[],cl)∧(∀c∈cl,c.ok P)∧TRr D F ρ ts' σ'∧kn ts'=some r:=λ{op} he hh=>by
   subst he
   rcases ycs hD hR1 hh with ⟨x,v,a1,a2,a3⟩|⟨s,hs⟩
   cases hp:ts1.put D o.dst x with
   |none=>grind
   |some ts2=>
    rw[hp]at a3;obtain⟨ans,σ',cl,ts',b1,b2,b3,b4⟩:=zbq htbl l (hR1.put hp a2) a3;exact⟨ans,σ',cl,ts',by simp[znu,hwt,a1];exact b1,b2,b3,b4⟩
   cases hs
  split at h1;rename_i c hc;split at h1;rename_i x hcal;split at h1;rename_i f a b vs hx hvs;obtain⟨args,t1,t2⟩:=zy9 hR1 hcal hx hvs
  have hcall:zuc D f (a++vs++b) ts1 (λv _=>match ts1.put D o.dst v with|some ts=>zgl P D tbl ops.toList kn l ts|none=>none) (λ_ _=>none) (λ_=>none) (tbl.filter (·.pure))=some r->∃ans σ' cl ts',znu P ops (o::l) ans σ=some (σ',[],cl)∧(∀c∈cl,c.ok P)∧TRr D F ρ ts' σ'∧kn ts'=some r:=λh1=>by
   rcases zkc hD hR1 t2 (λe he=>htbl e (List.mem_filter.1 he).1) h1 with ⟨⟨e,he,hne⟩,_⟩|⟨rv,e1,z,ρ',ts',e2,e3,e4,_⟩|⟨s,hs⟩
   grind
   split at e4;rename_i ts2 hp;obtain⟨ans,σ',cl,ts',b1,b2,b3,b4⟩:=zbq htbl l (hR1.put hp (e2 ρ)) e4;refine⟨rv::ans,σ',⟨f,args,σ.H,rv,σ.H⟩::cl,ts',?_,zp8 (e1 σ.H) b2,b3,b4⟩;have hpn:pv P σ.H σ.ev (.call c)=none:=by simp[pv,zda,hcal]
   simp[znu,hwt,hc,hpn,t1,b1];cases e4;cases hs
  split at h1
  rcases ztv hD hR1 t2 htbl h1 with ⟨rv,z,e1,e2,e4⟩|h1
  split at e4;rename_i ts2 hp;obtain⟨ans,σ',cl,ts',b1,b2,b3,b4⟩:=zbq htbl l (hR1.put hp e2) e4;refine⟨rv::ans,σ',⟨f,args,σ.H,rv,σ.H⟩::cl,ts',?_,zp8 e1 b2,b3,b4⟩;have hpn:pv P σ.H σ.ev (.call c)=none:=by simp[pv,zda,hcal]
  simp[znu,hwt,hc,hpn,t1,b1];cases e4;exact hcall h1;exact hcall h1;cases h1;exact hpv rfl h1;unfold tPC at h1;split at h1;rename_i t x lo hcp;split at h1;rename_i cx clo hx hlo
  rcases yej hR1 h1 (hR1.ev hx) (hR1.ev hlo)with ⟨z,v,a1,a2,a3⟩|h1
  cases hp:ts1.put D o.dst z with
  |none=>grind
  |some ts2=>
   rw[hp]at a3;obtain⟨ans,σ',cl,ts',b1,b2,b3,b4⟩:=zbq htbl l (hR1.put hp a2) a3;refine⟨ans,σ',cl,ts',?_,b2,b3,b4⟩
   have hpv':pv P σ.H σ.ev o.op=some v:=by
    grind[cpB,pv]
   simp_all[znu]
  exact hpv rfl h1;cases h1;exact hpv rfl h1;split at h1;rename_i ts2 hp;obtain⟨ans,σ',cl,ts',b1,b2,b3,b4⟩:=zbq htbl l (hR1.put hp (v:=.tup []) (by simp only[VR];exact⟨[],rfl,by simp[VRL]⟩)) h1;exact⟨ans,σ',cl,ts',by simp[znu,hw];simpa using b1,b2,b3,b4⟩;cases h1
def Keyed(ρ:List Slot)(s i:Nat):Prop:=∃sl,ρ[s]? = some sl∧sl.has i
def KR(ρ:List Slot)(q:Rd)(x:Key):Prop:=Keyed ρ q.1 x.1∧x.2=q.2∧∀c,q.2=some c->∃sl,ρ[q.1]? = some sl∧sl.k=some x.1
omit hD in
theorem KR.up{ρ ρ' q x}(h:KR ρ q x)(hu:∀(s:Nat) (sl:Slot),ρ[s]? = some sl->ρ'[s]? = some sl):KR ρ' q x :=
 ⟨h.1.imp λsl e=>⟨hu _ _ e.1,e.2⟩,h.2.1,λc e=>(h.2.2 c e).imp λsl e=>⟨hu _ _ e.1,e.2⟩⟩
omit hD in
theorem zsa{ts:TS D.T}{s}(h:z1y ts s=true):∃o,fnd ts.o s=some o∧o.live:=by
 unfold z1y at h;split at h;cases h;rename_i o hne ho;exact⟨o,ho,by cases o <;> first|trivial|exact(hne ho).elim⟩;cases h
omit hD in
theorem zdk{ts s}{o:TO D.T}(h:fnd ts.o s=some o)(hl:o.live):z1y ts s=true:=by
 unfold z1y;rw[h];cases o <;> first|rfl|exact hl.elim
omit hD in
theorem zx4(hR:TRr D F ρ ts σ){s i}(hl:z1y ts s=true)(hk:Keyed ρ s i):i<σ.H.L.length:=by
 obtain⟨o,h1,h2⟩:=zsa hl;obtain⟨sl,h3,h4⟩:=hk;exact hR.lt h1 h2 h3 h4
omit hD in
theorem zyf(hR:TRr D F ρ ts σ){s s' i}(hl:z1y ts s=true)(hl':z1y ts s'=true)(hk:Keyed ρ s i)(hk':Keyed ρ s' i):s=s':=by
 obtain⟨o,h1,h2⟩:=zsa hl;obtain⟨sl,h3,h4⟩:=hk;obtain⟨o',h1',h2'⟩:=zsa hl';obtain⟨sl',h3',h4'⟩:=hk';exact hR.inj s s' o o' sl sl' i h1 h1' h2 h2' h3 h3' h4 h4'
structure y03(ρ:List Slot)(ts:TS D.T)(rds:Rds)(wrs:Wrs)(prev:List (Nat×Info)):Prop where
 q:∀p∈prev,p.2.eff=false->(∀x,¬p.2.K x)∨∃R,(p.1,R)∈rds∧∀l,R=some l->∀x,p.2.K x->∃q∈l,z1y ts q.1=true∧KR ρ q x
 e:∀p∈prev,p.2.eff=true->∃w,(p.1,w)∈wrs∧∀s,w=some s->∀x,p.2.W x->z1y ts s=true∧Keyed ρ s x.1
def y0e(ρ:List Slot)(R:List Rd):Info:=⟨false,λx=>∃q∈R,KR ρ q x,λ_=>False,false⟩
def yyq(W:Key->Prop):Info:=⟨true,λ_=>False,W,false⟩
def z05e(W:Key->Prop):Info:=⟨true,λ_=>False,W,true⟩
omit hD in
theorem yts{q s:Nat}(h:(!Nat.beq q s)=true):q≠s:=λe=>by simp_all
omit hD in
theorem ypq(hR:TRr D F ρ ts σ){ops k rds wrs prev}(hp:y03 (D:=D) ρ ts rds wrs prev){R}(hok:rdOk ops.toList k R wrs=true)(hlive:R.all (λq=>z1y ts q.1)=true):GP .any ops prev k (y0e ρ R):=λp hj hf=>by
 refine⟨λh=>(by cases h.2),λ_ h=>(by cases h),λ_ he x ⟨s,hs,hk⟩ hw =>?_⟩;obtain⟨w,hm,hw'⟩:=hp.e p hj he;have h1:=Qat.1 hok (p.1,w) hm;rw[Bool.or_eq_true]at h1
 rcases h1 with h1|h1
 exact zlx h1 hf
 cases w with
 |none=>grind
 |some s'=>
  cases R with
  |nil=>cases hs
  |cons a r=>
   have h2:=yts (Qat.1 h1 s hs);obtain⟨k1,k2⟩:=hw' s' rfl x hw;exact h2 (zyf hR (Qat.1 hlive s hs) k1 hk.1 k2)
omit hD in
theorem yiz{ops k rds wrs prev}(hp:y03 (D:=D) ρ ts rds wrs prev){w W}(hok:yyi ops.toList k w rds=true)(hes:yb2 ops.toList k wrs=true)
  (hW:∀s,w=some s->∀(q:Nat) (x:Key),z1y ts q=true->Keyed ρ q x.1->q≠s->¬W x):GP .any ops prev k (yyq W):=λp hj hf=>by
 refine⟨λ⟨h,_⟩ =>?_,λhq _ x hx hw =>?_,λh=>(by cases h)⟩;obtain⟨w',hm,_⟩:=hp.e p hj h;exact zlx (Qat.1 hes (p.1,w') hm) hf
 rcases hp.q p hj hq with h|⟨R,hm,hR⟩
 exact h x hx;have h1:=Qat.1 hok (p.1,R) hm;rw[Bool.or_eq_true]at h1
 rcases h1 with h1|h1
 exact zlx h1 hf
 cases R with
 |none=>cases w <;> cases h1
 |some l=>
  obtain⟨s,hs,k1,k2⟩:=hR l rfl x hx
  cases l with
  |nil=>cases hs
  |cons a r=>
   cases w with
   |none=>cases h1
   |some s'=>exact hW s' rfl s.1 x k1 k2.1 (yts (Qat.1 h1 s hs)) hw
omit hD in
theorem y03.quiet{ρ ts ts' k rds wrs prev}(hp:y03 (D:=D) ρ ts rds wrs prev){R}(hlive:R.all (λq=>z1y ts q.1)=true)(ho:ts'.o=ts.o) :
  y03 (D:=D) ρ ts' ((k,some R)::rds) wrs ((k,y0e ρ R)::prev):=by
 have hl:∀s,z1y ts' s=z1y ts s:=λs=>by unfold z1y;rw[ho]
 refine⟨λp hj hq =>?_,λp hj he =>?_⟩
 rcases Qbg.1 hj with rfl|hj
 exact .inr ⟨some R,Qak,λl hl' x ⟨s,hs,hk⟩=>by grind⟩
 rcases hp.q p hj hq with h|⟨R,hm,hR⟩
 exact .inl h
 grind
 rcases Qbg.1 hj with rfl|hj
 cases he;obtain⟨w,hm,hw⟩:=hp.e p hj he
 grind
omit hD in
theorem y03.eff{ρ ρ' ts ts' k rds wrs prev}(hp:y03 (D:=D) ρ ts rds wrs prev){w W c}(hc:c.eff=true∧c.W=W)
  (hold:∀s0,w=some s0->(∀s,z1y ts s=true->z1y ts' s=true)∧∀(s:Nat) (sl:Slot),ρ[s]? = some sl->ρ'[s]? = some sl) (hnew:∀s,w=some s->∀x,W x->z1y ts' s=true∧Keyed ρ' s x.1) :
  y03 (D:=D) ρ' ts' (ypk w rds) ((k,w)::yet w wrs) ((k,c)::prev):=by
 obtain⟨hce,hcW⟩:=hc;refine⟨λp hj hq =>?_,λp hj he =>?_⟩
 rcases Qbg.1 hj with rfl|hj
 grind
 rcases hp.q p hj hq with h|⟨R,hm,hR⟩
 exact .inl h
 cases w with
 |some s0=>exact .inr ⟨R,hm,λl hl x hx=>by obtain⟨s,a,b,c⟩:=hR l hl x hx;exact⟨s,a,(hold s0 rfl).1 _ b,c.up (hold s0 rfl).2⟩⟩
 |none=>
  by_cases hemp:R=some [];subst hemp;exact .inl λx hx=>by grind
  refine .inr ⟨none,Qbc.2 ⟨(p.1,R),hm,?_⟩,λl hl=>by cases hl⟩
  cases R with
  |none=>rfl
  |some l=>cases l with
   |nil=>exact(hemp rfl).elim
   |cons a r=>rfl
 rcases Qbg.1 hj with rfl|hj
 rw[hcW]
 grind
 obtain⟨w',hm,hw⟩:=hp.e p hj he
 cases w with
 |some s0=>exact⟨w',Qai _ hm,λs hs x hx=>by obtain⟨a,b⟩:=hw s hs x hx;exact⟨(hold s0 rfl).1 _ a,b.imp λsl e=>⟨(hold s0 rfl).2 _ _ e.1,e.2⟩⟩⟩
 |none=>exact⟨none,Qai _ (Qbc.2 ⟨(p.1,w'),hm,rfl⟩),λs hs=>by cases hs⟩
def Lvl(F:Fr)(H:Heap):Prop:=H.lv=F.lv
omit hD in
theorem z02d{ρ lv x v}(h:VR D ρ lv x v)(hp:x.ytr=true):v.plain=true:=by
 cases x <;> simp[TV.ytr,Bool.false_eq_true]at hp
 case sl t xs fl=>simp[VR]at h;obtain⟨h,_⟩:=h;cases h <;> rfl
 case ap s t i x off=>
  simp only[VR]at h;obtain⟨sl,w,h1,h2,h3,h4,h5⟩:=h;split at h5;subst h5;rfl;obtain⟨ver,n,_,h5⟩:=h5;subst h5;rfl
 case fn f a b=>simp[VR]at h;obtain⟨as,bs,rfl,_⟩:=h;rfl
 case iface t x=>simp[VR]at h;obtain⟨y,rfl,_⟩:=h;rfl
 case ref cs off=>simp[VR]at h;obtain⟨y,rfl,_⟩:=h;rfl
 case ptr s off=>simp[VR]at h;obtain⟨y,i,_,_,rfl⟩:=h;rfl
 case agg cs=>simp[VR]at h;obtain⟨y,rfl,_⟩:=h;rfl
 case tup cs=>simp[VR]at h;obtain⟨y,rfl,_⟩:=h;rfl
 case mc t es=>simp[VR]at h;obtain⟨_,rfl⟩:=h;rfl
 case dp s i off=>simp[VR]at h;obtain⟨sl,j,ver,m,_,_,_,_,rfl⟩:=h;rfl
 case bsl q cs=>simp[VR]at h;obtain⟨vs,rfl,_⟩:=h;rfl
 all_goals (subst h;rfl)
omit hD in
theorem ypb(hR:TRr D F ρ ts σ){x R}(h:plainO ts x=some R):(σ.ev x).plain=true∧R=[]:=by
 unfold plainO at h;split at h;rename_i v hv;split at h
 rename_i hp;injection h with h;exact⟨z02d (hR.ev hv) hp,h.symm⟩
 cases h;cases h
omit hD in
theorem zrl(hR:TRr D F ρ ts σ){s i R}(hk:Keyed ρ s i)(hs0:(s,none)∈R){H}(hl:Lvl F H)(hs:zyv (y0e ρ R).K σ.H H):H.get F.lv i=σ.H.get F.lv i:=by
 unfold Heap.get;have:=congrArg Prod.fst (hs (i,none) ⟨(s,none),hs0,hk,rfl,λc e=>by cases e⟩);rw[hl,hR.lv,Qbq rfl,Qbq rfl,show H.L[i]? = σ.H.L[i]? from this]
omit hD in
theorem yj6(hR:TRr D F ρ ts σ){x R}(h:ownO ts x=some R){H}(hl:Lvl F H)(hs:zyv (y0e ρ (whole R)).K σ.H H) :
  (σ.ev x).plain=true∨∃l i ver off n full,σ.ev x = .hs l i ver off n full∧H.get l i=σ.H.get l i:=by
 unfold ownO at h;split at h;rename_i s hx;split at h;rename_i ty t xs w ho;cases h;have hv:=hR.ev hx;simp[VR]at hv;obtain⟨sl,h1,h2,h3⟩:=hv;obtain⟨sl',k1,k2⟩:=hR.ob s _ ho;rw[h1]at k1;cases k1;rw[h2];simp only[OR]at k2;obtain⟨q1,q2,q3⟩:=k2
 cases hk:sl.k with
 |none=>
  rw[hk]at q3
  rcases q3 with ⟨e,_⟩|⟨⟨e,_⟩,_⟩ <;> (left;rw[e];rfl)
 |some i=>
  rw[hk]at q3;obtain⟨ver,cp,e1,e2⟩:=q3;right;exact⟨_,_,_,_,_,_,e1,zrl hR ⟨sl,h1,.inl hk⟩ (by simp[whole]) hl hs⟩
 rename_i ty q xs w ho;cases h;have hv:=hR.ev hx;simp[VR]at hv;obtain⟨sl,h1,h2,h3⟩:=hv;obtain⟨sl',k1,k2⟩:=hR.ob s _ ho;rw[h1]at k1;cases k1;rw[h2];simp only[OR]at k2;obtain⟨q1,q3⟩:=k2
 cases hk:sl.k with
 |none=>
  rw[hk]at q3
  obtain⟨_,e|e,_⟩:=q3 <;> (left;rw[e];rfl)
 |some i=>
  rw[hk]at q3;obtain⟨ver,cp,fps,e1,e2,_⟩:=q3;right;exact⟨_,_,_,_,_,_,e1,zrl hR ⟨sl,h1,.inl hk⟩ (by simp[whole]) hl hs⟩
 cases h;exact .inl (ypb hR h).1
omit hD in
theorem z01r(hR:TRr D F ρ ts σ){op R}(h:rdK P ts op=some R){H}(hl:Lvl F H)(hs:zyv (y0e ρ R).K σ.H H):pv P H σ.ev op=pv P σ.H σ.ev op:=by
 cases op <;> simp only[rdK]at h <;> first|(cases h;done)|skip
 case load t a=>
  split at h;rename_i s off ha;have hv:=hR.ev ha;simp only[VR]at hv;obtain⟨sl,i,h1,h2,h3⟩:=hv;simp[pv,h3];split at h;rename_i hone;cases h;have hone:=Qaj hone;have hl:=hl;have:=congrArg Prod.snd (hs (i,some off) ⟨(s,some off),by simp,⟨sl,h1,.inl h2⟩,rfl,λc _=>⟨sl,h1,h2⟩⟩);rw[<-hR.lv];exact y9b hone (hl.trans hR.lv.symm) this;cases h;exact ye4 (zrl hR ⟨sl,h1,.inl h2⟩ (by simp) hl hs)
  rename_i s τ n y off ha;cases h;have hv:=hR.ev ha;simp only[VR]at hv;obtain⟨sl,w,h1,h2,h3,h4,h5⟩:=hv
  cases hk:sl.k with
  |none=>grind[pv,zv6]
  |some j=>
   rw[hk]at h5;obtain⟨ver,m,e1,e2⟩:=h5;simp[pv,e2];exact y0q (zrl hR ⟨sl,h1,.inl hk⟩ (by simp) hl hs)
  rename_i s n off ha;split at h;rename_i ty q xs hh ho;cases h;have hv:=hR.ev ha;simp only[VR]at hv;obtain⟨sl,j,ver,m,h1,h2,_,_,h5⟩:=hv;obtain⟨sl',g1,g2⟩:=hR.ob s _ ho;rw[h1]at g1;cases g1;simp only[OR]at g2;have g3:=g2.2
  cases hk:sl.k with
  |none=>
   grind
  |some j'=>
   rw[hk]at g3;obtain⟨ver',cp,fps,e1,_⟩:=g3;rw[h2]at e1;cases e1;simp[pv,h5];exact y0q (zrl hR ⟨sl,h1,.inl hk⟩ (by simp) hl hs)
  cases h;rename_i cs off ha;have hv:=hR.ev ha
  grind[VR,pv,zv6]
  cases h
 case indexAddr t x i=>
  simp[pv];obtain⟨R',h0,rfl⟩:=Qaf.1 h
  grind[yj6,y6i,y2l]
 case slice t x lo hi mx=>simp[pv];obtain⟨R',h0,rfl⟩:=Qaf.1 h;exact ykm (ypb hR h0).1
 case call c=>
  simp[pv,zda];split at h;rename_i x hc ha;simp[hc,ha];split;rename_i x' t hx ht;cases hx;obtain⟨R',h0,rfl⟩:=Qaf.1 h
  rcases yj6 hR h0 hl hs with h|⟨l,j,ver,off,n,full,h,hg⟩
  exact yrz h;rw[h];exact ynn hg;rfl
  grind
  grind
  cases h
 case makeFunc fn a b=>cases fn <;> rfl
 all_goals rfl
theorem ytd{R}(hR:TRr D F ρ ts σ){t s off x va vx k kf}{r:R}(h:ydj P D ts t (.ptr s off) x k kf=some r)(ha:VR D ρ F.lv (.ptr s off) va)(hx:VR D ρ F.lv x vx) :
  ∃i cs cs' H',Keyed ρ s i∧fnd ts.o s=some (.cells cs)∧zey P σ.H t va vx=some (.any,H')∧(∀j,j≠i->H'.L[j]? = σ.H.L[j]?)∧H'.lv=F.lv∧TRr D F ρ (ts.set D s (.cells cs')) {σ with H:=H'}∧k .any (ts.set D s (.cells cs'))=some r:=by
 unfold ydj at h;split at h;rename_i hc;simp[beq_iff_eq]at hc;obtain⟨⟨c1,c2⟩,c3⟩:=hc;have hcells:=hx.cells c1
 have hcond:(vx.kzh&&(P.info? t).isSome&&vx.cells.length==P.cellsOf t)=true:=by
  simp[beq_iff_eq];exact⟨⟨hx.kzh c1,c2⟩,by rw[<-hcells.length];exact c3⟩
 simp only[VR]at ha;obtain⟨sl,i,h1,h2,rfl⟩:=ha;simp at h;split at h;rename_i cs ho;split at h;rename_i hoff;obtain⟨sl',k1,k2⟩:=hR.ob s _ ho;rw[h1]at k1;cases k1;simp only[OR]at k2;obtain⟨i',vs,q1,q2,q3⟩:=k2;rw[h2]at q1;cases q1;have hlt:=(Qaa.1 q2).1;refine⟨i,cs,_,σ.H.set F.lv i (.cells (kzt vs off vx.cells)),⟨sl,h1,.inl h2⟩,ho,?_,λj hj =>?_,?_,?_,h⟩;unfold zey;rw[Qbq hcond]
 simp only[hR.get q2];rw[Qbq (by rw[<-hcells.length,<-q3.length];exact hoff)];rw[hR.y6y];grind;rw[hR.y6y];exact hR.lv;rw[hR.y6y];exact hR.upd ho trivial h1 h2 _ _ (by simp only[OR];exact⟨i,_,h2,by simp[hlt],q3.kzt hcells off⟩);cases h;cases h;cases h
omit hD in
theorem yja{ts ts':TS D.T}{dst v}(h:ts.put D dst v=some ts'):ts'.o=ts.o:=by
 unfold TS.put at h;split at h
 grind
 grind
omit hD in
theorem yeu(hR:TRr D F ρ ts σ){o s}(h:z1y ts s=true):z1y (ts.new D o) s=true:=by
 obtain⟨o',h1,h2⟩:=zsa h;obtain⟨sl,h3,_⟩:=hR.ob s o' h1;have hlt:=(Qaa.1 h3).1;refine zdk (o:=o') ?_ h2;simp[TS.new,zz9];rw[Qbr (by rw[<-hR.nx];omega)];exact h1
def KpQ(Q:z0j->St->Prop)(v:V)(σ:St):Prop:=∀t',t'.length=σ.t.length->Q (.panic v) {σ with t:=t'}
def z050(M:z8s D.T)(kc:List (Nat×Nat))(ρ:List Slot)(σ:St)(x:Key):Prop :=
 ¬((x.1<σ.H.L.length∧∀k s sl,(k,Src.slot s)∈M->ρ[s]? = some sl->¬sl.has x.1)∨∃z s sl,z∈kc∧fnd M z.1=some (.slot s)∧x.2=some z.2∧ρ[s]? = some sl∧sl.k=some x.1)
omit hD in
theorem ysc(hR:TRr D F ρ ts σ){ops k rds wrs prev}(hp:y03 (D:=D) ρ ts rds wrs prev){M:z8s D.T}{kc}(hM:∀k s,(k,Src.slot s)∈M->fnd M k=some (.slot s))(hok:yye ops.toList k rds kc M=true)(hes:yb2 ops.toList k wrs=true)(hlive:∀k s,(k,Src.slot s)∈M->∃o',fnd ts.o s=some o'∧o'.live) :
  GP .any ops prev k (z05e (z050 M kc ρ σ)):=λp hj hf=>by
 refine⟨λ⟨h,_⟩ =>?_,λhq _ x hx hw =>?_,λh=>(by cases h)⟩;obtain⟨w',hm,_⟩:=hp.e p hj h;exact zlx (Qat.1 hes (p.1,w') hm) hf
 rcases hp.q p hj hq with h|⟨R,hm,hR'⟩
 exact h x hx;have h1:=Qat.1 hok (p.1,R) hm;rw[Bool.or_eq_true]at h1
 rcases h1 with h1|h1
 exact zlx h1 hf
 cases R with
 |none=>cases h1
 |some l=>
  obtain⟨s,hs,k1,k2⟩:=hR' l rfl x hx;by_cases hk0:∃k' s' sl,(k',Src.slot s')∈M∧ρ[s']? = some sl∧sl.has x.1;obtain⟨k',s',sl,hm',hsl,hk⟩:=hk0;have h2:=Qat.1 (Qat.1 h1 s hs) _ hm';obtain⟨o',e1,e2⟩:=hlive k' s' hm';have heq:=zyf hR k1 (zdk e1 e2) k2.1 ⟨sl,hsl,hk⟩;rw[Bool.or_eq_true]at h2
  rcases h2 with h2|h2
  exact yts h2 heq;unfold z05i at h2;split at h2;rename_i c hc;obtain⟨z,z1,z2⟩:=List.any_eq_true.1 h2;rw[Qag]at z2;have z3:=Qaj z2.1;have z4:=Qaj z2.2;obtain⟨sl1,y1,y2⟩:=k2.2.2 c hc;exact hw (.inr ⟨z,s',sl1,z1,by grind,k2.2.1.trans (hc.trans (by rw[z4])),by grind,y2⟩);cases h2;exact hw (.inl ⟨zx4 hR k1 k2.1,λk' s' sl a b c=>hk0 ⟨k',s',sl,a,b,c⟩⟩)
omit hD in
theorem yo2{R t u s x vs vx k}{r:R}(h:z00f P D t u s x k=some r)(hs:VR D ρ lv s vs)(hx:VR D ρ lv x vx) :
  ∃z v,zwc P t u vs vx=some v∧(∀ρ' lv',VR D ρ' lv' z v)∧k z=some r:=by
 unfold z00f at h;split at h
 case h_2=>cases h
 rename_i t' xs fl;split at h
 case h_2=>cases h
 have hfl1:1<=fl:=by
  grind[fl12]
 split at h
 case h_2=>cases h
 rename_i e du ht hu;split at h
 case h_2=>cases h
 rename_i i τ hi hτ;split at h
 case h_2=>cases h
 rename_i z hz;split at h
 case h_2=>cases h
 rename_i hc;split at h
 case h_2=>cases h
 rename_i xs' ys hxs hys;obtain⟨zs,hzs,h⟩:=z1p h;obtain⟨hroom,rfl⟩:=y3c hzs;obtain⟨rfl,rfl⟩:=z8t hxs;simp only[Qag,Qar]at hc;obtain⟨⟨⟨⟨c1,c2⟩,c3⟩,c4⟩,c5⟩:=hc;have c5:=Qaj c5
 have hsrc:∃us,zmi ybl (D.len t') vx=some us∧DRL D t' ys us:=by
  unfold z05d at hys;split at hys;cases hys;simp[VR]at hx;subst hx;exact⟨[],rfl,DRL.nil _⟩;rename_i t2 ws fl;obtain⟨rfl,rfl⟩:=z8t hys;simp[VR]at hx;obtain⟨hx,_⟩:=hx
  cases hx with
  |nil=>exact⟨[],rfl,DRL.nil _⟩
  |sl _ _ ws full hl hh=>exact⟨ws,by simp[zmi,zd3],hl,hh⟩
  cases hys
 obtain⟨us,hus,hyu⟩:=hsrc;obtain⟨hs,hf,_⟩:=hs;obtain⟨ws,rfl⟩:=hf hfl1
 cases hs with
 |sl _ _ _ _ hl hh=>
  have hxy:=DRL.append (D:=D) ⟨hl,hh⟩ hyu;refine⟨_,.sl (D.len t') (ws++us) false,?_,λρ' lv' =>?_,h⟩;unfold zwc;simp[ht,hu,hi,hz];rw[<-c5,hus];simp only
  have hb:(zx1 du&&decide (0<D.len t')&&decide (i.bytes<=524288)&&z.cells.size==D.len t'&&Nat.beq (D.len t') (D.len t')&&Nat.ble (ws.length+us.length) zh1)=true:=by
   have h1:Nat.beq (D.len t') (D.len t')=true:=Nat.beq_refl _;have h2:Nat.ble (ws.length+us.length) zh1=true:=by rw[Nat.ble_eq,hl,hyu.1];exact hroom
   simp_all
  rw[hb];exact⟨.sl _ _ _ _ hxy.1 hxy.2,λh=>by omega,λh=>by cases h⟩
omit hD in
theorem yy6{T}{ts:TS T}{op s}(h:wrK ts op=some s):ynh ts op=some s:=by unfold ynh;rw[h]
omit hD in
theorem z00b(hR:TRr D F ρ ts σ){op s j}(h0:wrK ts op=none)(h:ynh ts op=some s)(hk:Keyed ρ s j):z1y ts s=true:=by
 unfold ynh at h;rw[h0]at h
 cases op <;> dsimp only at h <;> first|(cases h;done)|skip
 case store t a x=>
  grind
 case call c=>
  split at h;split at h;split at h;rename_i ho;cases h;exact zdk ho trivial;rename_i ho;cases h;exact zdk ho trivial;cases h;cases h;obtain⟨sl,h1,_⟩:=hk;have:=(Qaa.1 h1).1;rw[hR.nx]at this;omega;cases h;cases h
omit hD in
theorem ydv{H H' e size s v ys}(h:z1t H e size s ys=some (v,H')){j}(hj:j≠H.L.length)(hs:∀l i ver n,s = .hs l i ver 0 n false->l=H.lv∧i≠j):H'.L[j]? = H.L[j]? := by
 have push:∀o,(H.push o).L[j]? = H.L[j]? := λo=>by
  grind[Heap.push]
 unfold z1t at h;split at h
 grind
 grind
 rename_i l i' ver n;obtain⟨hl,hi⟩:=hs _ _ _ _ rfl;split at h;split at h;injection h with h;injection h with _ h;rw[<-h];unfold Heap.set
 grind
 cases h;cases h;cases h
omit hD in
theorem yvy(hR:TRr D F ρ ts σ){op s v H'}(h0:wrK ts op=none)(h:ynh ts op=some s)(hx:ox P σ.H σ.ev op=some (v,H')){j}(hj:¬(Keyed ρ s j∨j=σ.H.L.length)):H'.L[j]? = σ.H.L[j]? := by
 unfold ynh at h;rw[h0]at h;dsimp only at h
 cases op <;> dsimp only at h <;> first|(cases h;done)|skip
 case store t a x=>
  split at h;rename_i s' τ n y off ha;split at h;cases h;have hv:=hR.ev ha;simp only[VR]at hv;obtain⟨sl,w,h1,h2,h3,h4,h5⟩:=hv;simp[ox]at hx;unfold zey at hx;split at hx
  cases hk:sl.k with
  |none=>grind
  |some i=>
   rw[hk]at h5;obtain⟨ver,m,_,h5⟩:=h5;rw[h5]at hx;dsimp only at hx;have hne:i≠j:=λe=>hj (.inl ⟨sl,h1,.inl (by rw[hk,e])⟩)
   split at hx;split at hx;split at hx;split at hx;injection hx with hx;injection hx with _ hx;rw[<-hx];unfold Heap.set;rw[Qbq hR.lv.symm]
   grind
   cases hx;cases hx;cases hx;cases hx
  cases hx;cases h;cases h
 case call c=>
  split at h;rename_i sx xx hcal hargs
  have key:∀{vs:V},σ.ev sx=vs->(∀l i ver n,vs = .hs l i ver 0 n false->l=σ.H.lv∧i≠j)->H'.L[j]? = σ.H.L[j]? := λ{vs} e hs=>by
   simp[ox,hcal,hargs]at hx;split at hx;rename_i s0 x0 t0 u0 he _;cases he;unfold hAppend at hx;split at hx
   grind[ydv]
   cases hx;cases hx
  have own:∀{q:Nat},ts.ev sx=some (.own q)->(∃sl,ρ[q]? = some sl∧∀l i ver n,sl.v = .hs l i ver 0 n false->l=σ.H.lv∧sl.k=some i)->s=q->H'.L[j]? = σ.H.L[j]? := λ{q} hv ⟨sl,g1,g2⟩ e=>by
   subst e;have hw:=hR.ev hv;simp[VR]at hw;obtain⟨sl',h1,h2,_⟩:=hw;rw[g1]at h1;cases h1;exact key h2 λl i ver n e=>⟨(g2 l i ver n e).1,λe'=>hj (.inl ⟨sl,g1,.inl (by grind)⟩)⟩
  split at h;rename_i q hv;split at h;rename_i ho;injection h with h;obtain⟨sl,g1,g2⟩:=hR.ob _ _ ho;simp only[OR]at g2;refine own hv ⟨sl,g1,λl i ver n e =>?_⟩ h.symm;have g3:=g2.2.2
  cases hk:sl.k with
  |none=>grind
  |some i'=>rw[hk]at g3;obtain⟨ver',cp,e',_⟩:=g3;rw[e']at e;injection e with e1 e2;exact⟨by rw[hR.lv,e1],by rw[e2]⟩
  rename_i ho;injection h with h;obtain⟨sl,g1,g2⟩:=hR.ob _ _ ho;simp only[OR]at g2;refine own hv ⟨sl,g1,λl i ver n e =>?_⟩ h.symm;have g3:=g2.2
  cases hk:sl.k with
  |none=>grind
  |some i'=>rw[hk]at g3;obtain⟨ver',cp,fps,e',_⟩:=g3;rw[e']at e;injection e with e1 e2;exact⟨by rw[hR.lv,e1],by rw[e2]⟩
  cases h;rename_i hv;have hw:=hR.ev hv
  grind[VR]
  cases h;cases h
omit hD in
theorem y03.call{ρ ρ' ts ts' k rds wrs prev}(hp:y03 (D:=D) ρ ts rds wrs prev){c}(hc:c.eff=true)(hup:∀(s:Nat) (sl:Slot),ρ[s]? = some sl->ρ'[s]? = some sl) :
  y03 (D:=D) ρ' ts' (z04z ts' rds) ((k,none)::yet none wrs) ((k,c)::prev):=by
 refine⟨λp hj hq =>?_,λp hj he =>?_⟩
 rcases Qbg.1 hj with rfl|hj
 grind
 rcases hp.q p hj hq with h|⟨R,hm,hR⟩
 exact .inl h
 cases R with
 |none=>exact .inr ⟨none,Qbc.2 ⟨(p.1,none),hm,rfl⟩,λl hl=>by cases hl⟩
 |some l=>
  cases hl:l.all (λq=>z1y ts' q.1)with
  |true=>
   refine .inr ⟨some l,Qbc.2 ⟨(p.1,some l),hm,by dsimp only;rw[hl]⟩,λl' e x hx =>?_⟩;cases e;obtain⟨q,a,_,b⟩:=hR l rfl x hx
   exact⟨q,a,Qat.1 hl q a,b.up hup⟩
  |false=>exact .inr ⟨none,Qbc.2 ⟨(p.1,some l),hm,by dsimp only;rw[hl]⟩,λl hl=>by cases hl⟩
 rcases Qbg.1 hj with rfl|hj
 grind
 obtain⟨w',hm,hw⟩:=hp.e p hj he;exact⟨none,Qai _ (Qbc.2 ⟨(p.1,w'),hm,rfl⟩),λs hs=>by cases hs⟩
theorem zq8{R ops Q kn kp}{r:R}(htbl:∀e∈tbl,e.Ok P)(hkn:∀ts' σ' ρ',TRr D F ρ' ts' σ'->kn ts'=some r->Q .normal σ')
  (hkp:∀z ts' σ' ρ' v,TRr D F ρ' ts' σ'->VR D ρ' F.lv z v->kp z ts'=some r->Q (.panic v) σ') :
  ∀(l) (rds) (wrs) (prev) {ts σ ρ},TRr D F ρ ts σ->y03 (D:=D) ρ ts rds wrs prev->ze9 P D tbl ops.toList kn kp l rds wrs ts=some r ->
   zq6 P ops .any (Lvl F) (KpQ Q) (Q .normal) l prev σ
 |[],rds,wrs,prev,ts,σ,ρ,hR,hp,h=>hkn ts σ ρ hR h
 |k::l,rds,wrs,prev,ts,σ,ρ,hR,hp,h=>by
  simp only[ze9]at h;split at h;cases h;rename_i o ho';have ho:=by simpa using ho'
  have one:∀{c:Info}{v:V}{H':Heap}{ts2:TS D.T}{ρ2:List Slot}{rds2:Rds}{wrs2:Wrs},c.call=false->MV P ops (Lvl F) c σ o v H'->GP .any ops prev k c->TRr D F ρ2 ts2 (z7s σ o v H')->y03 (D:=D) ρ2 ts2 rds2 wrs2 ((k,c)::prev)->ze9 P D tbl ops.toList kn kp l rds2 wrs2 ts2=some r ->
    zq6 P ops .any (Lvl F) (KpQ Q) (Q .normal) (k::l) prev σ:=λ{c v H' ts2 ρ2 rds2 wrs2} hcc hm hc hR2 hp2 h2=>
   ⟨o,c,ho,hc,.inl ⟨v,H',hcc,hm,zq8 htbl hkn hkp l rds2 wrs2 _ hR2 hp2 h2⟩⟩
  have emp:GP .any ops prev k (y0e ρ []):=λp hj hf=>⟨λh=>(by cases h.2),λ_ h=>(by cases h),λ_ _ x ⟨s,hs,_⟩=>(by cases hs)⟩
  have mH:∀{v:V}{ts2:TS D.T}{ρ2:List Slot},TRr D F ρ2 ts2 (σ.put o.dst v)->TRr D F ρ2 ts2 (z7s σ o v σ.H):=λ{v ts2 ρ2} h=>h
  simp only[pOp]at h;refine zx2 (n:=k) hR h (λts1 ho1 hR1 hw h1 =>?_) λts1 ho1 hR1 hw h1 =>?_
  ·have hp1:y03 (D:=D) ρ ts1 rds wrs prev:=by
    have hl:∀s,z1y ts1 s=z1y ts s:=λs=>by unfold z1y;rw[ho1]
    exact⟨λp hj hq=>(hp.q p hj hq).imp_right λ⟨R,a,b⟩=>⟨R,a,λl e x hx=>by grind⟩,λp hj he=>by obtain⟨w,a,b⟩:=hp.e p hj he;exact⟨w,a,λs e x hx=>by grind⟩⟩
   have hwt:=hw.wanted hR1;have hlv:=hR1.lv;split at h1
   ·rename_i heff;split at h1
    ·
     split at h1
     case h_2=>cases h1
     rename_i c hc;split at h1
     case h_2=>cases h1
     rename_i s x t u hcal hargs htys;split at h1
     case h_2=>cases h1
     rename_i sv xv hs hx;obtain⟨z,v,a1,a2,a3⟩:=yo2 h1 (hR1.ev hs) (hR1.ev hx);split at a3;rename_i ts2 hput;exact one (c:=y0e ρ []) (v:=v) (H':=σ.H) rfl (.inr ⟨hwt,hlv,.inl ⟨rfl,rfl,λH'' k1 k2=>.inr (.inr (.inr (.inr ⟨c,s,x,t,u,hc,hcal,hargs,htys,a1⟩)))⟩⟩) emp (mH (hR1.put hput (a2 _ _))) (hp1.quiet (R:=[]) rfl (yja hput)) a3;cases a3
    split at h1;rename_i hc;rw[Qag]at hc;obtain⟨hc1,hc2⟩:=hc
    have fin:∀{W:Nat->Prop}{v:V}{H':Heap}{z:TV D.T}{ts' ts2:TS D.T}{ρ2:List Slot},ox P σ.H σ.ev o.op=some (v,H')->(∀i,¬W i->H'.L[i]? = σ.H.L[i]?)->TRr D F ρ2 ts' {σ with H:=H'}->VR D ρ2 F.lv z v ->
      (∀s0,wrK ts1 o.op=some s0->(∀s,z1y ts1 s=true->z1y ts' s=true)∧∀(s:Nat) (sl:Slot),ρ[s]? = some sl->ρ2[s]? = some sl)->(∀s,wrK ts1 o.op=some s->∀x,W x->z1y ts' s=true∧Keyed ρ2 s x) ->
      (∀s,ynh ts1 o.op=some s->∀q x,z1y ts1 q=true->Keyed ρ q x->q≠s->¬W x)->ts'.put D o.dst z=some ts2->ze9 P D tbl ops.toList kn kp l (ypk (wrK ts1 o.op) rds) ((k,wrK ts1 o.op)::yet (wrK ts1 o.op) wrs) ts2=some r ->
      zq6 P ops .any (Lvl F) (KpQ Q) (Q .normal) (k::l) prev σ :=
     λ{W v H' z ts' ts2 ρ2} g1 g2 g3 g4 g5 g6 g7 g8 g9=>by
      have hH:=g3.lv;have ho2:=yja g8;have hl2:∀s,z1y ts2 s=z1y ts' s:=λs=>by unfold z1y;rw[ho2]
      exact one (c:=yyq λx=>W x.1) rfl (.inr ⟨hwt,hlv,.inr ⟨rfl,trivial,.inl ⟨heff,g1⟩,hH,λx hx=>yua (g2 x.1 hx)⟩⟩) (yiz hp1 hc1 hc2 λs e q x=>g7 s e q x.1) (g3.put g8 g4) (hp1.eff ⟨rfl,rfl⟩ (λs0 e=>⟨λs a=>by grind,(g5 s0 e).2⟩) λs e x hx=>by rw[hl2];exact g6 s e x.1 hx) g9
    have push:∀{cs:List (TV D.T)}{vs:List V}{ts2:TS D.T},wrK ts1 o.op=some ts1.nx->VRL D ρ F.lv cs vs->ox P σ.H σ.ev o.op=some (.ptr σ.H.lv σ.H.L.length 0,σ.H.push (.cells vs))->(ts1.new D (.cells cs)).put D o.dst (.ptr ts1.nx 0)=some ts2 ->
      ze9 P D tbl ops.toList kn kp l (ypk (wrK ts1 o.op) rds) ((k,wrK ts1 o.op)::yet (wrK ts1 o.op) wrs) ts2=some r ->
      zq6 P ops .any (Lvl F) (KpQ Q) (Q .normal) (k::l) prev σ:=λ{cs vs ts2} g0 g1 g2 g3 g4=>by
     obtain⟨h3,h4⟩:=hR1.yd2 hD g1;refine fin (W:=λi=>i=σ.H.L.length) g2 (λi hi =>?_) h3 h4 (λs0 _=>⟨λs a=>yeu hR1 a,λs sl h=>lookup_append h⟩) (λs hs x hx =>?_) (λs hs q x a b c e =>?_) g3 g4
     grind[Heap.push]
     rw[g0]at hs;cases hs;refine⟨zdk (o:=.cells cs) (by simp[TS.new,zz9,if_true]) trivial,⟨.any,some σ.H.L.length,[],[]⟩,by rw[<-hR1.nx];simp,.inl (by rw[hx])⟩;have:=zx4 hR1 a b;omega
    have other:wrK ts1 o.op=none->tOp P D ts1 o.op (λv ts'=>match ts'.put D o.dst v with|some ts2=>ze9 P D tbl ops.toList kn kp l (ypk (wrK ts1 o.op) rds) ((k,wrK ts1 o.op)::yet (wrK ts1 o.op) wrs) ts2|none=>none) (λ_=>none)=some r ->
      zq6 P ops .any (Lvl F) (KpQ Q) (Q .normal) (k::l) prev σ:=λg0 hh=>by
     rcases yjj hD hR1 hh with ⟨z,ts',v,H',ρ',a1,a2,a3,a4⟩|⟨s,hs⟩
     split at a4;rename_i ts2 hput;refine fin (W:=λj=>∀s,ynh ts1 o.op=some s->Keyed ρ s j∨j=σ.H.L.length) a1 (λi hi =>?_) a3 a2 (λs0 e=>by rw[g0]at e;cases e) (λs0 e=>by rw[g0]at e;cases e) (λs0 e q x b1 b2 b3 b4 =>?_) hput a4;simp[Classical.not_forall]at hi
     grind[yvy]
     have hlt:=zx4 hR1 b1 b2
     rcases b4 s0 e with h|h
     exact b3 (zyf hR1 b1 (z00b hR1 g0 e h) b2 h);omega;cases a4;cases hs
    cases hop:o.op with
    |alloc t=>
     rw[hop]at h1;simp[tOp]at h1;split at h1;rename_i z hz;split at h1;rename_i hs;obtain⟨v,b1,b2⟩:=zk8 (ρ:=ρ) (lv:=F.lv) hz;split at h1;rename_i ts2 hput;rw[<-hop]at h1;exact push (by rw[hop];rfl) (b2.cells hs) (by rw[hop];simp only[ox,ye0,b1];rw[Qbq (b2.kzh hs)]) hput h1;cases h1;cases h1
     cases h1
    |box t x=>
     rw[hop]at h1;simp[tOp]at h1;split at h1;rename_i v hx;split at h1;rename_i hs;have b2:=hR1.ev hx;split at h1;rename_i ts2 hput;rw[<-hop]at h1;exact push (by rw[hop];rfl) (b2.cells hs) (by rw[hop];simp only[ox,hBox];rw[Qbq (b2.kzh hs)]) hput h1;cases h1;cases h1
     cases h1
    |store t a x=>
     by_cases hw0:wrK ts1 o.op=none;exact other hw0 h1;rw[hop]at h1;simp[tOp]at h1;split at h1;rename_i av xv ha hx;rw[hop]at hw0;simp[wrK,ha]at hw0;split at hw0;rename_i s off heq;injection heq with heq;subst heq;have hwk:wrK ts1 o.op=some s:=by rw[hop];simp only[wrK,ha]
     obtain⟨i,cs,cs',H',b1,b2,b3,b4,b5,b6,b7⟩:=ytd hD hR1 h1 (hR1.ev ha) (hR1.ev hx);split at b7;rename_i ts2 hput;rw[<-hop]at b7
     have lset:∀q,z1y ts1 q=true->z1y (ts1.set D s (.cells cs')) q=true:=λq hq=>by
      obtain⟨o',c1,c2⟩:=zsa hq;by_cases e:s=q;exact zdk (o:=.cells cs') (by simp only[TS.set,zz9,Qbq e]) trivial;exact zdk (o:=o') (by simp only[TS.set,zz9,Qbr e];exact c1) c2
     have lives:z1y ts1 s=true:=zdk b2 trivial;refine fin (W:=λj=>j=i) (by rw[hop];simp only[ox];exact b3) (λj hj=>b4 j hj) b6 (by simp only[VR]) (λs0 _=>⟨lset,λ_ _ h=>h⟩) (λs0 hs x hx =>?_) (λs0 hs q x a b c e =>?_) hput b7
     grind
     grind[yy6,zyf]
     cases b7
     grind
     cases h1
    |call c=>
     by_cases hw0:wrK ts1 o.op=none;exact other hw0 h1;have h1o:=h1;rw[hop]at h1;simp only[tOp]at h1;rw[hop]at hw0;simp only[wrK]at hw0;split at hw0;rename_i sx xx hcal hargs;split at h1;rename_i s x t u hcal' hargs' htys;rw[hargs]at hargs';injection hargs' with e1 e2;subst e1;have e3:=e2;injection e3 with e3 _;subst e3;split at h1;rename_i hs hx;exact(hw0 (by rw[hx];cases ts1.ev sx <;> rfl)).elim
     rename_i sv xv hnb hs hx;have hap:=ywc hw0;have hno:∀q,sv ≠ .own q:=λq e=>hap.2 q (by rw[hs,e])
     have hwk:wrK ts1 o.op=some ts1.nx:=by
      grind[wrK]
     obtain⟨z,ts',v,H',ρ',a1,a2,a3,a4,a5⟩:=y0i hR1 h1 (hR1.ev hs) (hR1.ev hx);obtain⟨sl',o',rfl,rfl,q1,q2,q3⟩:=a5 hno;split at a4;rename_i ts2 hput;refine fin (W:=λi=>sl'.k=some i) (by rw[hop];simp only[ox,hcal,hargs,e2,htys];exact a1) (λi hi=>q3 i hi) a3 a2 (λs0 _=>⟨λs a=>yeu hR1 a,λs sl h=>lookup_append h⟩) (λs hss x hx =>?_) (λs hss q x a b c e =>?_) hput (by rw[hop];exact a4)
     rw[hwk]at hss;injection hss with hss;subst hss
     exact⟨zdk (o:=o') (by simp only[TS.new,zz9,if_true]) q1,sl',by rw[<-hR1.nx];simp,.inl hx⟩
     grind[zx4]
     cases a4;cases h1
     grind
     exfalso;simp[tP,tP1,hcal,FR.of]at h1
     exact(hw0 rfl).elim
    |_=>rw[hop]at heff;cases heff
    cases h1
   ·rename_i heff;split at h1
    ·
     split at h1
     case h_2=>cases h1
     rename_i hc;rw[Qag]at hc;obtain⟨hc1,hc2⟩:=hc;unfold tLit at h1;split at h1
     case h_2=>cases h1
     rename_i t len ps hop;split at h1
     case h_2=>cases h1
     rename_i e qs hu hqs;split at h1
     case h_2=>cases h1
     rename_i τ xs hb;obtain⟨p1,p2⟩:=hR1.parts hqs;obtain⟨v,b1,b2⟩:=zij hD p1 p2 hb;simp only[VR]at b2;obtain⟨b2,b3,_⟩:=b2;obtain⟨ws,rfl⟩:=b3 (Qbp _)
     cases b2 with
     |sl _ _ _ _ hl hh=>
      have hlen:len≠0:=λe0=>by
       subst e0;unfold zh4 at hb
       grind
      have hn:=hR1.new (.acc e τ xs true) ⟨.hs σ.H.lv σ.H.L.length 0 0 ws.length false,some σ.H.L.length,ws,[]⟩ (σ.H.push (.arr 0 e (D.len τ) ws (some ws.length))) hR1.lv hR1.E (by simp[Heap.push]) (λi hi=>by grind[Heap.push]) (λi hi=>by grind) (by
       simp only[OR]
       exact⟨hl,hh,0,some ws.length,by rw[hR1.lv],by simp[Heap.push]⟩)
      dsimp only at h1;split at h1;rename_i ts2 hput;have hput:=hput;have ho2:=yja hput;have hl2:∀s,z1y ts2 s=z1y (ts1.new D (.acc e τ xs true)) s:=λs=>by unfold z1y;rw[ho2]
      refine one (c:=yyq λx=>x.1=σ.H.L.length) (v:=.hs σ.H.lv σ.H.L.length 0 0 ws.length false) (H':=σ.H.push (.arr 0 e (D.len τ) ws (some ws.length))) rfl
       (.inr ⟨hwt,hlv,.inr ⟨rfl,trivial,.inr (.inr ⟨t,len,ps,e,D.len τ,ws,hop,b1,hlen,hu,rfl,rfl⟩),hn.lv,λx hx=>yua (by
          have hx:x.1≠σ.H.L.length:=hx
          grind[Heap.push])⟩⟩)
       (yiz hp1 hc1 hc2 λs hs q x a b c e=>by
         have:=zx4 hR1 a b
         omega)
       (hn.put hput (v:=.hs σ.H.lv σ.H.L.length 0 0 ws.length false) (by
         simp only[VR]
         exact⟨⟨.hs σ.H.lv σ.H.L.length 0 0 ws.length false,some σ.H.L.length,ws,[]⟩,by rw[<-hR1.nx];simp,rfl,rfl⟩))
       (hp1.eff (w:=some ts1.nx) ⟨rfl,rfl⟩ (λs0 _=>⟨λs a=>by rw[hl2];exact yeu hR1 a,λs sl h=>lookup_append h⟩) λs e x hx =>?_) h1
      injection e with e;subst e;refine⟨by rw[hl2];exact zdk (o:=.acc e τ xs true) (by simp only[TS.new,zz9,if_true]) trivial,⟨.hs σ.H.lv σ.H.L.length 0 0 ws.length false,some σ.H.L.length,ws,[]⟩,by rw[<-hR1.nx];simp,.inl (by rw[show x.1=σ.H.L.length from hx])⟩;cases h1
    split at h1;rename_i R hR0;split at h1;rename_i hc;rw[Qag]at hc;obtain⟨hc1,hc2⟩:=hc
    rcases ycs hD hR1 h1 with ⟨x,v,a1,a2,a3⟩|⟨s,hs⟩
    split at a3;rename_i ts2 hput;refine one (c:=y0e ρ R) (v:=v) (H':=σ.H) rfl (.inr ⟨hwt,hlv,.inl ⟨rfl,rfl,λH'' k1 k2=>.inl ?_⟩⟩) (ypq hR1 hp1 hc1 hc2) (mH (hR1.put hput a2)) (hp1.quiet hc2 (yja hput)) a3;rw[z01r hR1 hR0 k1 k2];exact a1;cases a3;cases hs;cases h1;split at h1;rename_i c hc;split at h1;rename_i x hcal;split at h1;rename_i f a b vs hx hvs;obtain⟨args,t1,t2⟩:=zy9 hR1 hcal hx hvs;split at h1
    rcases zkc hD hR1 t2 (λe he=>htbl e (List.mem_filter.1 he).1) h1 with ⟨⟨e,he,hne⟩,_⟩|⟨rv,e1,z,ρ',ts',e2,e3,e4,_⟩|⟨s,hs⟩
    grind
    split at e4;rename_i ts2 hput;exact one (c:=y0e ρ []) (v:=rv) (H':=σ.H) rfl (.inr ⟨hwt,hlv,.inl ⟨rfl,rfl,λH'' k1 k2=>.inr (.inl ⟨c,f,args,hc,t1,e1 _⟩)⟩⟩) emp (mH (hR1.put hput (e2 ρ))) (hp1.quiet (R:=[]) rfl (yja hput)) e4;cases e4;cases hs;split at h1;rename_i hlat;rw[Qag]at hlat;obtain⟨hlat,hefs⟩:=hlat
    obtain⟨M,kc,Post,m1,m2,m3,m4,m7,m5,m6,m8⟩:=zu8 hD hR1 t2 (λe he=>by
     grind) h1
    have hpairs:=ysc hR1 hp1 m8 m1 hefs m2;refine⟨o,z05e (z050 M kc ρ σ),ho,hpairs,.inr ⟨λj hj =>?_,rfl,rfl,hwt,c,f,args,Post,hc,t1,m3,λv H' hpo=>⟨(m4 _ H' hpo).1,λi hi =>?_,?_⟩,λv H' hpo =>?_⟩⟩;exact zlx (Qat.1 hlat j hj);have hi:¬¬_:=hi
    rcases Classical.not_not.1 hi with ⟨i1,i2⟩|⟨z,s,sl,z1,z2,z3,z4,z5⟩
    exact yua ((m4 _ H' hpo).2 i.1 i1 i2);unfold obs;rw[z3];exact congrArg (Prod.mk none) (m7 v H' hpo z z1 s sl i.1 z2 z4 z5);obtain⟨z,ts',ρ',k1,k2,k3,k4⟩:=m5 v H' hpo;split at k3;rename_i ts2 hput;exact zq8 htbl hkn hkp l _ _ _ (k2.put hput k1) (hp1.call rfl k4) k3;cases k3;obtain⟨z,ts',ρ',k1,k2,k3⟩:=m6 v H' hpo;intro t' ht';refine hkp z _ _ ρ' v ?_ k1 k3
    exact⟨k2.nx,ht'.trans k2.nt,λj x hj=>by simp[fnd]at hj,k2.ob,k2.inj,k2.mine,k2.lv,k2.E,k2.e0,k2.d,k2.out,k2.pin,k2.fpl,k2.g⟩;cases h1;cases h1;cases h1;cases h1
  have hp1:y03 (D:=D) ρ ts1 rds wrs prev:=by
   have hl:∀s,z1y ts1 s=z1y ts s:=λs=>by unfold z1y;rw[ho1]
   exact⟨λp hj hq=>(hp.q p hj hq).imp_right λ⟨R,a,b⟩=>⟨R,a,λl e x hx=>by grind⟩,λp hj he=>by obtain⟨w,a,b⟩:=hp.e p hj he;grind⟩
  split at h1;rename_i ts2 hput;exact one (c:=y0e ρ []) (v:=.tup []) (H':=σ.H) rfl (.inl ⟨hw,rfl,rfl⟩) emp (mH (hR1.put hput (v:=.tup []) (by simp only[VR];exact⟨[],rfl,by simp only[VRL]⟩))) (hp1.quiet (R:=[]) rfl (yja hput)) h1;cases h1
theorem zwb{R ops r}{k:TS D.T->Option R}:∀(n) {ts ρ},TRr D F ρ ts σ->ypj P D ops n ts k=some r->∃ts' ρ',TRr D F ρ' ts' σ∧k ts'=some r
 |0,ts,ρ,hR,h=>⟨ts,ρ,hR,h⟩
 |n+1,ts,ρ,hR,h=>by
  rw[ypj]at h;split at h;obtain⟨ts',ρ',_,_,_,_,_,_,_,g1,g2,_⟩:=yjl hD hR h;exact zwb n g2 g1
  grind
theorem y8r{R id ops d Q kn kp}{r:R}(htbl:∀e∈tbl,e.Ok P)
  (hkn:∀ts' σ' ρ',TRr D F ρ' ts' σ'->kn ts'=some r->Q .normal σ') (hkp:∀z ts' σ' ρ' v,TRr D F ρ' ts' σ'->VR D ρ' F.lv z v->kp z ts'=some r->Q (.panic v) σ')
  (hR:TRr D F ρ ts σ) (h:y6h P D tbl ops d ts kn kp=some r):Sat P (.region id ops d) σ Q:=by
 unfold y6h at h;split at h;rename_i hd;subst hd;simp only at h;split at h;rename_i hm;split at h
 grind[zbq,z00h]
 split at h
 grind[zwb,zbq,z02a,zhg]
 split at h;rename_i hB;simp only[Qag]at hB;obtain⟨⟨h1,h2⟩,h3⟩:=hB
 refine yyj hm _ h1 (Qaj h2) (λj hj =>?_) (by
  obtain⟨ts',ρ',g2,g1⟩:=zwb hD 4 hR h
  exact zq8 hD htbl hkn hkp _ [] [] [] g2 ⟨λp hp=>(by cases hp),λp hp=>(by cases hp)⟩ g1)
 simp_all
 cases h;cases h
 grind[yyr,zhg]
end
section
variable {P : Program}
def y61(P:Program)(c:Code)(σ:St)(Q:z0j->St->Prop):Prop :=
 ∀W0 g0 H0 W a g,Base W0 g0 H0->(σ.e0=H0.E∧Step W0 g0 H0 W g σ.H)->zzb W a g σ->y2m P c (yil W0 g0 H0 Q) a W
theorem y61.sat{c σ Q}(h:y61 P c σ Q):Sat P (.loop c) σ Q:=λW0 g0 H0 W a g hB hS hG=>(h W0 g0 H0 W a g hB hS hG).wp
theorem y61.round{c σ Q}(h:Sat P c σ (z0j.then (λσ'=>y61 P c σ' Q) Q)):y61 P c σ Q:=λW0 g0 H0 W a g hB hS hG=>by
 refine y2m.round (zws (h W0 g0 H0 W a g hB hS hG) λe a w ⟨g,σ,e',h1,h2,h3,h4⟩ =>?_)
 cases h1 with
 |normal=>exact h4 W0 g0 H0 w a g hB h2 h3
 |exit id=>exact⟨g,σ,_,.exit id,h2,h3,h4⟩
 |ret=>exact⟨g,σ,_,.ret,h2,h3,h4⟩
 |panic v c hr=>exact⟨g,σ,_,.panic v c hr,h2,h3,h4⟩
end
section
variable {P : Program} {D : Dat} {F : Fr} {R : Type}
structure KOk(D:Dat)(F:Fr)(K:Ks D.T R)(Q:z0j->St->Prop)(r:R):Prop where
 kn:∀ts σ,TR D F ts σ->K.kn ts=some r->Q .normal σ
 kx:∀id k ts σ,fnd K.kx id=some k->TR D F ts σ->k ts=some r->Q (.exit id) σ
 kr:∀ts σ,TR D F ts σ->K.kr ts=some r->Q .ret σ
 kp:∀z ts σ ρ v,TRr D F ρ ts σ->VR D ρ F.lv z v->K.kp z ts=some r->Q (.panic v) σ
def AC.Claim(P:Program)(a:AC)(σ:St)(Q:z0j->St->Prop):Prop :=
 match a with
 |.loop b=>y61 P b.erase σ Q
 |.rng lf g p a b=>zhd P lf∧(calm a.erase&&calm b.erase)=true∧∀k,y3n P lf g p a.erase b.erase Q k σ
 |a=>Sat P a.erase σ Q
theorem AC.Claim.sat{a:AC}{σ Q}(h:a.Claim P σ Q):Sat P a.erase σ Q:=by
 cases a <;> first|exact h|exact y61.sat h|exact z03r h.1 h.2.1 h.2.2
def y57(P:Program)(φ:Nat->AC->(z0j->St->Prop)->Prop):AC->(z0j->St->Prop)->Prop
 |.seq a b,Q=>y57 P φ a (z0j.then (λσ=>Sat P b.erase σ Q) Q)∧y57 P φ b Q
 |.cond _ a b,Q=>y57 P φ a Q∧y57 P φ b Q
 |.block id a,Q=>y57 P φ a (z0j.inBlock id Q)
 |.loop a,Q=>y57 P φ a (z0j.then (λσ=>y61 P a.erase σ Q) Q)
 |.lab l a,Q=>φ l a Q∧y57 P φ a Q
 |_,_=>True
def AC.site(P:Program)(l:Nat):AC->(z0j->St->Prop)->Option (AC×(z0j->St->Prop))
 |.seq a b,Q=>match AC.site P l a (z0j.then (λσ=>Sat P b.erase σ Q) Q)with
  |some x=>some x
  |none=>AC.site P l b Q
 |.cond _ a b,Q=>match AC.site P l a Q with
  |some x=>some x
  |none=>AC.site P l b Q
 |.block id a,Q=>AC.site P l a (z0j.inBlock id Q)
 |.loop a,Q=>AC.site P l a (z0j.then (λσ=>y61 P a.erase σ Q) Q)
 |.lab l' a,Q=>match Nat.beq l' l with
  |true=>some (a,Q)
  |false=>AC.site P l a Q
 |_,_=>none
theorem zcg{l}:∀{c:AC}{Q x},c.site P l Q=some x->l∈c.labels
 |.seq a b,Q,x,h=>by
  simp[AC.site]at h;split at h;rename_i y hy;exact List.mem_append_left _ (zcg hy)
  exact List.mem_append_right _ (zcg h)
 |.cond _ a b,Q,x,h=>by
  simp[AC.site]at h;split at h;rename_i y hy;exact List.mem_append_left _ (zcg hy)
  exact List.mem_append_right _ (zcg h)
 |.block id a,Q,x,h=>zcg (c:=a) h
 |.loop a,Q,x,h=>zcg (c:=a) h
 |.lab l' a,Q,x,h=>by
  simp[AC.site]at h;split at h;rename_i e;rw[Qaj e];exact Qak
  exact Qai _ (zcg h)
 |.skip,Q,x,h=>by cases h
 |.region _ _ _,Q,x,h=>by cases h
 |.exit _,Q,x,h=>by cases h
 |.ret,Q,x,h=>by cases h
 |.rng _ _ _ _ _,Q,x,h=>by cases h
 |.other _,Q,x,h=>by cases h
theorem yir{l}{c:AC}{Q}(h:l∉c.labels):c.site P l Q=none:=by
 cases hs:c.site P l Q with
 |none=>rfl
 |some x=>exact(h (zcg hs)).elim
theorem zhm{φ}:∀{c Q},c.labels.Nodup->(∀l a Q',c.site P l Q=some (a,Q')->φ l a Q')->y57 P φ c Q
 |.seq a b,Q,hn,h=>by
  have hn:=List.nodup_append.1 hn;refine⟨zhm hn.1 λl x Q' hs=>h l x Q' (by simp[AC.site,hs]),zhm hn.2.1 λl x Q' hs=>h l x Q' ?_⟩;have hl:=zcg hs;simp[AC.site,yir (P:=P) (Q:=z0j.then (λσ=>Sat P b.erase σ Q) Q) (λhm=>hn.2.2 l hm l hl rfl)]
  exact hs
 |.cond _ a b,Q,hn,h=>by
  have hn:=List.nodup_append.1 hn;refine⟨zhm hn.1 λl x Q' hs=>h l x Q' (by simp[AC.site,hs]),zhm hn.2.1 λl x Q' hs=>h l x Q' ?_⟩;have hl:=zcg hs;simp[AC.site,yir (P:=P) (Q:=Q) (λhm=>hn.2.2 l hm l hl rfl)]
  exact hs
 |.block id a,Q,hn,h=>zhm (c:=a) hn λl x Q' hs=>h l x Q' hs
 |.loop a,Q,hn,h=>zhm (c:=a) hn λl x Q' hs=>h l x Q' hs
 |.lab l' a,Q,hn,h=>by
  simp[AC.labels,List.nodup_cons]at hn;refine⟨h l' a Q (by simp[AC.site,Nat.beq_refl]),zhm hn.2 λl x Q' hs=>h l x Q' ?_⟩
  grind[zcg,Qaj,AC.site]
 |.skip,Q,hn,h=>trivial
 |.region _ _ _,Q,hn,h=>trivial
 |.exit _,Q,hn,h=>trivial
 |.ret,Q,hn,h=>trivial
 |.rng _ _ _ _ _,Q,hn,h=>trivial
 |.other _,Q,hn,h=>trivial
variable {J : Nat → TS D.T → Option R} {tbl : List (Ent D)} {r : R} (hD : D.Ok P) (htbl : ∀ e ∈ tbl, e.Ok P)
def LOk(P:Program)(D:Dat)(F:Fr)(J:Nat->TS D.T->Option R)(r:R)(l:Nat)(a:AC)(Q:z0j->St->Prop):Prop:=∀ts σ,TR D F ts σ->J l ts=some r->a.Claim P σ Q
include hD htbl
theorem z8b:∀{c ts σ K Q},KOk D F K Q r->y57 P (LOk P D F J r) c Q->TR D F ts σ->run P D tbl J c ts K=some r->Sat P c.erase σ Q
 |.skip,ts,σ,K,Q,hK,hL,hT,h=>z01e (hK.kn ts σ hT h)
 |.region id ops d,ts,σ,K,Q,hK,hL,hT,h=>by
  have h1:∀ts,TR D F ts σ->TR D F (pre1 P D tbl ops ts) σ:=λts hT=>by
   grind[pre1,TR.freeze]
  have hT:TR D F (pre P D tbl ops d ts) σ:=by
   unfold pre;split;exact h1 _ (h1 _ hT);exact hT
  obtain⟨τ,ρ,h1,h2⟩:=hT
  exact yqg h1 (y8r hD htbl (λts' σ' ρ' hR hk=>hK.kn ts' σ' hR.tr hk) (λz ts' σ' ρ' v=>hK.kp z ts' σ' ρ' v) h2 h)
 |.seq a b,ts,σ,K,Q,hK,hL,hT,h=>by
  exact z04l (z8b (K:={K with kn:=λts=>run P D tbl J b ts K}) (Q:=z0j.then (λσ=>Sat P b.erase σ Q) Q) ⟨λts σ hT hk=>z8b hK hL.2 hT hk,hK.kx,hK.kr,hK.kp⟩ hL.1 hT h)
 |.cond c a b,ts,σ,K,Q,hK,hL,hT,h=>by
  simp[run]at h;obtain⟨τ,ρ,h1,h2⟩:=hT;refine yqg h1 ?_;split at h;rename_i v hv;have he:=h2.ev hv;simp[VR]at he;split at h;rename_i t;obtain⟨w,e1,e2⟩:=h2.tm t _ hv;simp[VR]at e2;subst e2;refine yqe he (λhb =>?_) λhb =>?_
  subst hb;exact z8b hK hL.1 (h2.tell e1 (by simp[VR])).tr h;subst hb;exact z8b hK hL.2 (h2.tell e1 (by simp[VR])).tr h;refine yqe he (λhb =>?_) λhb =>?_
  subst hb;exact z8b hK hL.1 h2.tr h;subst hb;exact z8b hK hL.2 h2.tr h
  cases h
 |.block id a,ts,σ,K,Q,hK,hL,hT,h=>by
  refine yxg (z8b (K:={K with kx:=(id,K.kn)::K.kx}) (Q:=z0j.inBlock id Q) ⟨λts σ hT hk=>hK.kn ts σ hT hk,λid' k ts σ hf hT hk =>?_,hK.kr,hK.kp⟩ hL hT h);rw[zz9]at hf;show z031 (Nat.beq id' id) (Q .normal σ) (Q (.exit id') σ);split at hf;rename_i e;injection hf with hf;subst hf;subst e;rw[Nat.beq_refl];exact hK.kn ts σ hT hk
  have:Nat.beq id' id=false:=by
   grind[Qaj]
  rw[this]
  exact hK.kx id' k ts σ hf hT hk
 |.loop a,ts,σ,K,Q,hK,hL,hT,h=>by simp[run]at h
 |.exit id,ts,σ,K,Q,hK,hL,hT,h=>by
  simp[run]at h;split at h;rename_i k hk;exact z01m (hK.kx id k ts σ hk hT h)
  cases h
 |.ret,ts,σ,K,Q,hK,hL,hT,h=>z03t (hK.kr ts σ hT h)
 |.lab l a,ts,σ,K,Q,hK,hL,hT,h=>(hL.1 ts σ hT h).sat
 |.rng _ _ _ _ _,ts,σ,K,Q,hK,hL,hT,h=>by simp[run]at h
 |.other c,ts,σ,K,Q,hK,hL,hT,h=>by simp[run]at h
omit hD htbl in
theorem z060{ρ ρ':List Slot}(h:∀(j:Nat) (sl:Slot),ρ[j]? = some sl->ρ'[j]? = some sl):ρ'=ρ++ρ'.drop ρ.length:=by
 apply List.ext_getElem?
 grind
omit hD htbl in
theorem yli{ρ ts ts' τ σ' τs}(hR:TRr D F ρ ts τ)(hT:TR D {F with pin:=ρ} ts' σ'){e φ}(he:∀v,e ≠ .panic v)
  (h:∀σ'' e',TRr D F (ρ++e') (ts.back ts') σ''->φ e σ''):RQ τ τs φ e σ':=by
 refine⟨he,λWb gb W g a a3 gB hS hGb hG3 =>?_⟩;obtain⟨τ',ρ',hw,hR'⟩:=hT;obtain⟨g',hS',hG'⟩:=hw Wb gb τs.H W a3 g ⟨gB⟩ hS hG3;have hρ:=z060 (ρ:=ρ) (ρ':=ρ') λj sl hj=>hR'.pin j sl hj
 refine⟨{τ with H:=τ'.H},g',hGb.later hS'.2 hG'.good,⟨?_,hS'.2⟩,h _ (ρ'.drop ρ.length) ?_⟩;show τ.e0=_;rw[hR.e0,<-hS'.1,hR'.e0];rw[<-hρ]
 exact⟨hR'.nx,hR.nt,λj x hj=>(let ⟨v,h1,h2⟩:=hR.tm j x hj;⟨v,h1,by rw[hρ];exact h2.more _⟩),hR'.ob,hR'.inj,hR'.mine,hR'.lv,hR'.E,hR.e0,by rw[hρ];exact hR.d.more _,hR'.out,
  λj sl hj=>hR'.pin j sl (hR.pin j sl hj),hR'.fpl,hR'.g⟩
omit hD htbl in
theorem TRr.mark{ρ ts σ}(hR:TRr D F ρ ts σ):TRr D F ρ ts.mark σ.marked :=
 ⟨hR.nx,hR.nt,hR.tm,hR.ob,hR.inj,hR.mine,hR.lv,hR.E,hR.e0,⟨[],σ.d,rfl,by simp[VRL],hR.d⟩,hR.out,hR.pin,hR.fpl,hR.g⟩
omit hD htbl in
theorem yrb{α β}(f:α->β):∀(l) (i) {y},fnd (l.map λq=>(q.1,f q.2)) i=some y->∃x,fnd l i=some x∧f x=y
 |[],i,y,h=>by simp[fnd]at h
 |q::l,i,y,h=>by
  rw[List.map_cons,zz9]at h;rw[zz9];split at h;rename_i e;grind;rename_i e;rw[Qbr e];exact yrb f l i h
theorem yxq{l lf p g a b K ts σ Q}(hF:F.E=F.e0)(hl:zhd P lf)(hK:KOk D F K Q r)(hJ:LOk P D F J r l (.rng lf g p a b) Q)(hT:TR D F ts σ)
  (h:ysw P D tbl J l lf g p a b K ts=some r):(AC.rng lf g p a b).Claim P σ Q:=by
 unfold ysw at h;split at h
 case h_2=>cases h
 rename_i hla hlb hcalm;refine⟨hl,hcalm,λn =>?_⟩;split at h
 case h_2=>cases h
 rename_i f k hg;split at h
 case h_2=>cases h
 rename_i s hbeq hobj;have hf:=Qaj hbeq;subst hf;obtain⟨_,hcap,h⟩:=z1p h;unfold capS at hcap;split at hcap
 case isFalse=>cases hcap
 obtain⟨τ,ρ,hw,hR⟩:=hT;have hev:=hR.ev hg;obtain⟨as,bs,e1,rfl,v,rr,rfl,⟨sl,i,e2,e3,rfl⟩,rfl⟩:=hev;obtain⟨sl',e4,ho⟩:=hR.ob k _ hobj;rw[e2]at e4;cases e4;obtain⟨i',vs,e5,e6,v,rr,rfl,rfl,rfl⟩:=ho;rw[e3]at e5;cases e5
 have hget:∀{υ:St}{i:Nat}{o:kzg},υ.H.L[i]? = some (some o)->υ.H.get υ.H.lv i=some o:=λ{υ i o} h=>by
  unfold Heap.get
  grind
 unfold y3n;refine⟨τ,i,s,hw,by rw[hR.e0,hR.E,hF],by rw[e1,hR.lv],hget e6,by assumption,λhs =>?_,λhs hlen =>?_⟩;rw[yyn.2 hs]at h;exact hK.kn _ _ hR.mark.tr h
 ·have hns:noS s=false:=by
   grind[yyn]
  rw[hns]at h
  cases n with
  |zero=>grind
  |succ n=>
  split at h
  case h_2=>cases h
  rename_i ts1 hput
  have hR0:TRr D {F with pin:=ρ} ρ {ts with d:=[]} {τ with d:=[]} :=
   ⟨hR.nx,hR.nt,hR.tm,hR.ob,hR.inj,hR.mine,hR.lv,hR.E,hR.e0,rfl,hR.out,λj sl hj=>hj,hR.fpl,hR.g⟩
  have hR1:=hR0.put hput (v:=.str (lnA s)) (by simp[VR])
  have ho1:fnd ts1.o k=some (.cells [.str s]):=by
   grind[TS.put]
  have hR2:=hR1.upd ho1 trivial e2 e3 (.cells [.str (lnB s)]) (.cells [.str (lnB s)]) (by
   simp only[VR]
   exact⟨i,[.str (lnB s)],e3,Qaq (Qaa.1 e6).1,_,_,rfl,rfl,rfl⟩)
  have hst:(τ.begin p i s)={({τ with d:=[]}:St).put (some p) (.str (lnA s))with H:={τ.H with L:=τ.H.L.set i (some (.cells [.str (lnB s)]))}}:=by
   show St.mk _ _ _ _=St.mk _ _ _ _
   congr 1
   unfold Heap.set;rw[Qbq rfl]
  rw[hst]
  have labs0:∀{c:AC}{Q:z0j->St->Prop},c.labels=[]->y57 P (LOk P D {F with pin:=ρ} J r) c Q:=λ{c Q} hc=>zhm (by rw[hc];exact .nil) λl' x Q' hs=>by
   have:=zcg hs;grind
  refine z8b hD htbl (F:={F with pin:=ρ}) (c:=a) ⟨λts2 σ2 hT2 hk2 =>?_,λid k' ts' σ' hk'=>(by simp[fnd]at hk'),λts' σ' _ hk'=>(by cases hk'),λz ts' σ' ρ' v _ _ hk'=>(by cases hk')⟩ (labs0 hla) hR2.tr h;refine z8b hD htbl (F:={F with pin:=ρ}) (c:=b) ⟨λts' σ' hT' hk' =>?_,λid k' ts' σ' hk' hT' hr' =>?_,λts' σ' hT' hk' =>?_,λz ts' σ' ρ' v _ _ hk'=>(by cases hk')⟩ (labs0 hlb) hT2 hk2
  ·refine yli hR hT' (λv e=>by cases e) λσ'' e' hR'' =>?_
   dsimp only at hk';split at hk'
   case h_2=>cases hk'
   rename_i s' hs';obtain⟨_,hq,hj⟩:=z1p hk';unfold z023 at hq;split at hq
   case isFalse=>cases hq
   rename_i heq;subst heq;obtain⟨sl3,w1,w2⟩:=hR''.ob k _ hs';rw[Qal (Qaa.1 e2).1,e2]at w1;cases w1;simp only[OR,VR]at w2;obtain⟨i',vs,w3,w4,v,rr,rfl,rfl,rfl⟩:=w2;rw[e3]at w3;cases w3;refine⟨?_,(hJ _ _ hR''.tr hj).2.2 n⟩;have:=hget w4;rw[hR''.lv]at this;rw[hR.lv];exact this
  dsimp only at hk';obtain⟨k0,h1,h2⟩:=yrb (λk ts'=>k (ts.back ts').mark) K.kx id hk';refine yli hR hT' (λv e=>by cases e) λσ'' e' hR'' =>?_
  subst h2;exact hK.kx id k0 _ _ h1 hR''.mark.tr hr';refine yli hR hT' (λv e=>by cases e) λσ'' e' hR'' =>?_
  exact hK.kr _ _ hR''.mark.tr hk'
omit hD htbl in
theorem zlg{l}:∀{c K kl Q},AC.at P D tbl J l c K kl=none->c.site P l Q=none
 |.seq a b,K,kl,Q,h=>by
  simp[AC.at]at h;split at h;cases h;rename_i hn;simp[AC.site];rw[zlg hn]
  exact zlg h
 |.cond _ a b,K,kl,Q,h=>by
  simp[AC.at]at h;split at h;cases h;rename_i hn;simp[AC.site];rw[zlg hn]
  exact zlg h
 |.block id a,K,kl,Q,h=>zlg (c:=a) (K:={K with kx:=(id,K.kn)::K.kx}) (kl:=λ_=>none) h
 |.loop a,K,kl,Q,h=>zlg (c:=a) (K:={K with kn:=kl}) (kl:=λ_=>none) h
 |.lab l' a,K,kl,Q,h=>by
  simp[AC.at]at h;split at h;cases h;rename_i e;simp[AC.site,e]
  exact zlg (c:=a) h
 |.skip,K,kl,Q,h=>rfl
 |.region _ _ _,K,kl,Q,h=>rfl
 |.exit _,K,kl,Q,h=>rfl
 |.ret,K,kl,Q,h=>rfl
 |.rng _ _ _ _ _,K,kl,Q,h=>rfl
 |.other _,K,kl,Q,h=>rfl
theorem zk5{l}:∀{c K kl Q f},F.E=F.e0->(∀q∈c.zke,zhd P q)->KOk D F K Q r->(∀b,c = .loop b->∀ts σ,TR D F ts σ->kl ts=some r->y61 P b.erase σ Q)->y57 P (LOk P D F J r) c Q->AC.at P D tbl J l c K kl=some f ->
  ∃a Q',c.site P l Q=some (a,Q')∧∀ts σ,TR D F ts σ->f ts=some r->a.Claim P σ Q'
 |.seq a b,K,kl,Q,f,hF,hr,hK,hkl,hL,h=>by
  simp[AC.at]at h;split at h;rename_i g hg;cases h;obtain⟨x,Q',h1,h2⟩:=zk5 (c:=a) (K:={K with kn:=λts=>run P D tbl J b ts K}) (Q:=z0j.then (λσ=>Sat P b.erase σ Q) Q) hF (λq hq=>hr q (List.mem_append_left _ hq)) ⟨λts σ hT hk=>z8b hD htbl hK hL.2 hT hk,hK.kx,hK.kr,hK.kp⟩ (λ_ _ ts σ _ hk=>by cases hk) hL.1 hg
  grind[AC.site]
  obtain⟨x,Q',h1,h2⟩:=zk5 (c:=b) hF (λq hq=>hr q (List.mem_append_right _ hq)) hK (λ_ _ ts σ _ hk=>by cases hk) hL.2 h
  grind[AC.site,zlg]
 |.cond _ a b,K,kl,Q,f,hF,hr,hK,hkl,hL,h=>by
  simp[AC.at]at h;split at h;rename_i g hg;cases h;obtain⟨x,Q',h1,h2⟩:=zk5 (c:=a) hF (λq hq=>hr q (List.mem_append_left _ hq)) hK (λ_ _ ts σ _ hk=>by cases hk) hL.1 hg
  grind[AC.site]
  obtain⟨x,Q',h1,h2⟩:=zk5 (c:=b) hF (λq hq=>hr q (List.mem_append_right _ hq)) hK (λ_ _ ts σ _ hk=>by cases hk) hL.2 h
  grind[AC.site,zlg]
 |.block id a,K,kl,Q,f,hF,hr,hK,hkl,hL,h=>by
  refine zk5 (c:=a) hF hr (K:={K with kx:=(id,K.kn)::K.kx}) (Q:=z0j.inBlock id Q) ⟨λts σ hT hk=>hK.kn ts σ hT hk,λid' k ts σ hf hT hk =>?_,hK.kr,hK.kp⟩ (λ_ _ ts σ _ hk=>by cases hk) hL h;rw[zz9]at hf;show z031 (Nat.beq id' id) (Q .normal σ) (Q (.exit id') σ);split at hf;rename_i e;injection hf with hf;subst hf;subst e;rw[Nat.beq_refl];exact hK.kn ts σ hT hk
  have:Nat.beq id' id=false:=by
   grind[Qaj]
  rw[this]
  exact hK.kx id' k ts σ hf hT hk
 |.loop a,K,kl,Q,f,hF,hr,hK,hkl,hL,h=>by
  exact zk5 (c:=a) hF hr (K:={K with kn:=kl}) (Q:=z0j.then (λσ=>y61 P a.erase σ Q) Q) ⟨λts σ hT hk=>hkl a rfl ts σ hT hk,hK.kx,hK.kr,hK.kp⟩ (λ_ _ ts σ _ hk=>by cases hk) hL h
 |.lab l' a,K,kl,Q,f,hF,hr,hK,hkl,hL,h=>by
  simp[AC.at]at h;split at h;rename_i e;have e:=Qaj e;subst e;cases h;refine⟨a,Q,by simp[AC.site,Nat.beq_refl],λts σ hT hf =>?_⟩;unfold z01w at hf;split at hf;rename_i b;exact y61.round (z8b hD htbl (K:={K with kn:=J l'}) (Q:=z0j.then (λσ=>y61 P b.erase σ Q) Q) ⟨λts σ hT hk=>hL.1 ts σ hT hk,hK.kx,hK.kr,hK.kp⟩ hL.2 hT hf);rename_i lf g p x y
  exact yxq hD htbl hF (hr lf (.head _)) hK hL.1 hT hf;rename_i h1 h2;have:=z8b hD htbl hK hL.2 hT hf
  cases a <;> first|exact this|exact(h1 _ rfl).elim|grind
  obtain⟨x,Q',h1,h2⟩:=zk5 (c:=a) hF hr hK (λb hb ts σ hT hk=>by subst hb;exact hL.1 ts σ hT hk) hL.2 h
  grind[AC.site]
 |.skip,K,kl,Q,f,hF,hr,hK,hkl,hL,h=>by cases h
 |.region _ _ _,K,kl,Q,f,hF,hr,hK,hkl,hL,h=>by cases h
 |.exit _,K,kl,Q,f,hF,hr,hK,hkl,hL,h=>by cases h
 |.ret,K,kl,Q,f,hF,hr,hK,hkl,hL,h=>by cases h
 |.rng _ _ _ _ _,K,kl,Q,f,hF,hr,hK,hkl,hL,h=>by cases h
 |.other _,K,kl,Q,f,hF,hr,hK,hkl,hL,h=>by cases h
end
section
variable {P : Program} {D : Dat} {F : Fr} {ρ : List Slot} {ts : TS D.T} {σ : St} {lv : Nat} {R : Type}
theorem yrj{α}:∀(l) (k j) (a:α),fnd (yxy l k) j=some a->k<=j∧l[j-k]? = some a
 |[],k,j,a,h=>by simp[yxy,fnd]at h
 |b::l,k,j,a,h=>by
  simp[yxy,zz9]at h;split at h
  grind
  obtain⟨h1,h2⟩:=yrj l (k+1) j a h
  grind
theorem y7a:∀(os) {k x j},k<=j->j<k+os.length->∃o,fnd (z55 D (λk=>k) os k x) j=some o∧o.live
 |[],k,x,j,h1,h2=>by simp at h2;omega
 |o::os,k,x,j,h1,h2=>by
  show ∃o',fnd ((k,zuv D (λk=>k) o (HL.fst _ x))::z55 D (λk=>k) os (k+1) (HL.snd _ x)) j=some o'∧o'.live;rw[zz9];split;exact⟨_,rfl,yjn⟩;exact y7a os (by omega) (by grind)
theorem y5z:∀(os) {k x j o},(j,o)∈z55 D (λk=>k) os k x->fnd (z55 D (λk=>k) os k x) j=some o
 |[],k,x,j,o,h=>by cases h
 |osh::os,k,x,j,o,h=>by
  show fnd ((k,zuv D (λk=>k) osh (HL.fst _ x))::z55 D (λk=>k) os (k+1) (HL.snd _ x)) j=some o;rw[zz9]
  rcases Qbg.1 h with h|h
  grind
  obtain⟨j',h1,_,h3,_⟩:=zsp os h;rw[Qbr (by omega)];exact y5z os h
theorem zgo(hD:D.Ok P)(hR:TRr D F ρ ts σ):∀{rs cs},zxd P D ts rs=some cs->∃vs,y3h P σ rs=some vs∧VRL D ρ F.lv cs vs
 |[],cs,h=>by simp[zxd,Qbn]at h;subst h;exact⟨[],rfl,by simp[VRL]⟩
 |.tmp t::rs,cs,h=>by
  simp[zxd]at h;split at h;rename_i v vs hv hvs;cases h;obtain⟨us,h1,h2⟩:=zgo hD hR hvs;exact⟨σ.t.getD t .any::us,by simp[y3h,resV,h1],by simp only[VRL];exact⟨_,_,rfl,hR.tmp hv,h2⟩⟩
  cases h
 |.cell a t::rs,cs,h=>by
  simp[zxd]at h;split at h;rename_i p hp;split at h;rename_i v vs hv hvs;cases h;obtain⟨us,h1,h2⟩:=zgo hD hR hvs;obtain⟨u,h3,h4⟩:=y7p hD hR hv (hR.tmp hp);exact⟨u::us,by simp only[y3h,resV,h3,h1],by simp[VRL];grind⟩;cases h;cases h
theorem ydk{c σ Q}(h:Sat P c σ λe σ=>∃τ,zlf σ τ∧(∀v,e ≠ .panic v)∧Q e τ):Sat P c σ Q:=λW0 g0 H0 W a g hB hS hG=>by
 refine zws (h W0 g0 H0 W a g hB hS hG) λe a w ⟨g,σ,e',h1,h2,h3,τ,h4,h5,h6⟩ =>?_
 obtain⟨g',k1,k2⟩:=h4 W0 g0 H0 w a g hB h2 h3;refine⟨g',τ,e',?_,k1,k2,h6⟩
 cases h1 with
 |normal=>exact .normal
 |exit id=>exact .exit id
 |ret=>exact .ret
 |panic v c hr=>exact(h5 v rfl).elim
def yky(D:Dat)(F:Fr)(l:LSh)(pack:HL D.T l.tys->R)(r:R)(e:z0j)(σ:St):Prop :=
 match e with
 |.normal| .ret=>∃x,pack x=r∧TR D F (l.bld D x) σ
 |_=>False
theorem yac(hD:D.Ok P){l}(hp:F.pin.length<=l.pin)(hp2:l.pin<=l.os.length){pack}{r:R}:KOk D F (zwx D l pack) (yky D F l pack r) r:=by
 refine⟨λts σ hT h =>?_,λid k ts σ h=>by simp[zwx,fnd]at h,λts σ hT h =>?_,λz ts σ ρ v _ _ h=>by simp[zwx]at h⟩;obtain⟨x,h1,h2⟩:=LSh.zcn hD hp hp2 hT h;injection h1 with h1;exact⟨x,h1,h2⟩;obtain⟨x,h1,h2⟩:=LSh.zcn hD hp hp2 hT h;injection h1 with h1;exact⟨x,h1,h2⟩
def ym2(P:Program)(D:Dat)(c:Code)(p:Nat)(args)(aos)(nt:Nat)(gs:List Nat)(K:Ks D.T R)(go:HL D.T (Sh.z04 args++z03 aos)->Option R):Prop :=
 ∀F Q r,F.E=F.e0->F.pin.length<=p->KOk D F K Q r->∀x σ,TR D F (entry D args aos nt gs x) σ->go x=some r->Sat P c σ Q
theorem zo0{args n}(cs)(h:VRL D ρ lv cs args):∀(j) (x),fnd (yxy cs 0) j=some x->∃v,(args++List.replicate n V.any)[j]? = some v∧VR D ρ lv x v:=λj x hj=>by
 obtain⟨_,h1⟩:=yrj cs 0 j x hj;obtain⟨v,h2,h3⟩:=h.get j x (by simpa using h1)
 grind
def gsB(aos:List OSh)(k:Nat):Bool:=match aos[k]? with
 |some (.acc _ _ _)=>true
 |some (.deep _ _)=>true
 |some .rig=>true
 |_=>false
theorem z01q{L}{gs:List Nat}{aos ρ0 y}(hgb:gs.all (gsB aos)=true)(k1:ρ0.length=aos.length)(k3:∀j o,(j,o)∈z55 D (λk=>k) aos 0 y->∃sl,ρ0[j]? = some sl∧OR D ρ0 lv L sl o) :
  ∀(i s:Nat) (v),(gs.map some)[i]? = some (some s)->(gs.map λk=>(ρ0[k]?.map (·.v)).getD .any)[i]? = some v->VR D ρ0 lv (.own s) v:=λi s v h1 h2=>by
 rw[Qan,Qaf]at h1 h2;obtain⟨k,hk,e⟩:=h1;have hb:=Qat.1 hgb k (Qax hk)
 have leaf:∀{sl:Slot}{os:OSh}{z:HL D.T os.tys},(match os with| .acc _ _ _=>true| .deep _ _=>true| .rig=>true|_=>false)=true->OR D ρ0 lv L sl (zuv D (λk=>k) os z)->sl.v.leaf=true:=λ{sl os z} hc ho=>by
  cases os <;> simp[Bool.false_eq_true]at hc
  case acc ty t w=>
   simp only[OR]at ho;obtain⟨_,_,ho⟩:=ho
   cases hk:sl.k with
   |none=>rw[hk]at ho;rcases ho with ⟨e,_⟩|⟨⟨e,_⟩,_⟩ <;> (rw[e];rfl)
   |some i=>rw[hk]at ho;obtain⟨ver,cp,e,_⟩:=ho;rw[e];rfl
  case rig=>
   grind[zuv,OR]
  case deep ty q=>
   replace ho:=ho;simp only[OR]at ho;have ho:=ho.2
   cases hk:sl.k with
   |none=>rw[hk]at ho;rcases ho.2.1 with e|e <;> (rw[e];rfl)
   |some i=>rw[hk]at ho;obtain⟨ver,cp,_,e,_⟩:=ho;rw[e];rfl
 have at_:∀(aos:List OSh) (m k:Nat) (os:OSh) (y:HL D.T (z03 aos)),aos[k]? = some os->∃z:HL D.T os.tys,(m+k,zuv D (λk=>k) os z)∈z55 D (λk=>k) aos m y:=λaos=>by
  induction aos with
  |nil=>grind
  |cons o r ih=>
   intro m k os y h
   cases k with
   |zero=>simp at h;subst h;exact⟨_,Qak⟩
   |succ k=>
    obtain⟨z,hz⟩:=ih (m+1) k os (HL.snd _ y) (by simpa using h);exact⟨z,by rw[show m+(k+1)=m+1+k by omega];exact Qai _ hz⟩
 unfold gsB at hb
 cases ho:aos[k]? with
 |none=>grind
 |some os=>
  obtain⟨z,hz⟩:=at_ aos 0 k os y ho
  grind[VR]
theorem z004{gs}{l:LSh}{x}{ρ0 ρ':List Slot}{ren}(hren:ren=gs.map λk=>(k,k))(hgs:l.gs=gs)(h:∀(i s:Nat) (v:V),(l.bld D x).g[i]? = some (some s)->(gs.map λk=>(ρ0[k]?.map (·.v)).getD .any)[i]? = some v->VR D ρ' lv (.own s) v) :
  ∀q∈ren,∀sl,ρ0[q.1]? = some sl->∃sl',ρ'[q.2]? = some sl'∧sl'.v=sl.v:=λq hq sl hs=>by
 rw[hren]at hq;obtain⟨k,hk,rfl⟩:=Qbc.1 hq;obtain⟨i,hi⟩:=Qbj hk;have:=h i k sl.v (by show(l.gs.map some)[i]? = _;grind) (by grind)
 grind[VR]
theorem z03y(hD:D.Ok P){e:Ent D}{fn code nt gs l pack}{un:R->HL D.T (Sh.z04 e.outs++z03 e.ros)}{go}
  (hf:P.funcs[e.f]? = some fn) (hb:fn.body=some code) (hnt:fn.ntmps=nt) (hent:∀args w,(callFunc e.f args).run P w = .ok (.enter e.f args) w) (hargs:e.args.length<=nt)
  (hgo:∀(R':Type) (x:HL D.T (Sh.z04 e.args++z03 e.aos)) (k:HL D.T (Sh.z04 e.outs++z03 e.ros)->Option R') (kp:HL D.T (e.pan.tys++z03 e.pos)->Option R'),e.go x k kp=(go x).bind λr=>k (un r))
  (hpure:e.pure=false) (hkc:e.kc=[]) (hren:e.ren=gs.map λk=>(k,k)) (hgs:l.gs=gs) (hgb:gs.all (gsB e.aos)=true) (hp1:e.p<=l.pin) (hp2:l.pin<=l.os.length) (hlen:l.os.length=e.ros.length)
  (hout:∀x,zxd P D (l.bld D x) fn.results.toList=some (z1u D (λk=>k) e.outs (HL.fst _ (un (pack x))))∧(l.bld D x).o=z55 D (λk=>k) e.ros 0 (HL.snd _ (un (pack x))))
  (hrun:ym2 P D code e.p e.args e.aos nt gs (zwx D l pack) go):e.Ok P:=λR' x k kp r h=>by
 rw[hpure];rw[hgo]at h;obtain⟨r0,h1,h2⟩:=zqg h;refine .inl ⟨un r0,h2,λlv L E ρ0 vargs k1 k2 k3 k4 _ =>?_⟩
 have hvl:vargs.length=e.args.length:=by
  rw[<-k2.length]
  have:∀(l:List Sh) (y:HL D.T (Sh.z04 l)),(z1u D (λk=>k) l y).length=l.length:=λl=>by
   induction l with
   |nil=>intro y;rfl
   |cons s l ih=>grind[z1u]
  exact this _ _
 let F:Fr:=⟨lv,E,E,L,λi=>i<L.length∧∀(k:Nat) (sl0),ρ0[k]? = some sl0->¬sl0.has i,ρ0.take e.p,gs.map λk=>(ρ0[k]?.map (·.v)).getD .any⟩
 have hobj:=λs o ho=>k3 s o (z2o ho)
 have hR0:TRr D F ρ0 (entry D e.args e.aos nt gs x) ⟨vargs++List.replicate (nt-vargs.length) .any,⟨lv,L,E⟩,[],E⟩:=by
  refine⟨k1,by grind[entry],zo0 _ k2,hobj,λs s' o o' sl sl' i a1 a2 l1 l2 r1 r2=>k4.1 s s' sl sl' i r1 r2,λs o sl i a1 l1 r1 hk ho=>ho.2 s sl r1 hk,rfl,rfl,rfl,rfl,λi hi=>⟨hi.1,rfl⟩,λj sl hj =>?_,λs o sl i a1 l1 r1 hk=>k4.2 s sl i r1 hk,z01q hgb k1 k3⟩
  grind
 refine yy0 hf hb hnt hent (ydk ((hrun F _ r0 rfl (by grind) (yac hD (by grind) hp2) x _ hR0.tr h1).mono λex σ hq =>?_))
 have key:∀ex,(ex = .normal∨ex = .ret)->(∃x,pack x=r0∧TR D F (l.bld D x) σ)->∃τ,zlf σ τ∧(∀v,ex ≠ .panic v)∧z05a P fn (λout H'=>∃L' ρ',H'=⟨lv,L',E⟩∧Left D lv L ρ0 e.p L' ρ' e.ros (HL.snd _ (un r0))∧((∀q∈e.ren,∀sl,ρ0[q.1]? = some sl->∃sl',ρ'[q.2]? = some sl'∧sl'.v=sl.v)∧y7n L L' ρ0 e.kc)∧∃vs,out = .ret (z9y vs)∧VRL D ρ' lv (z1u D (λk=>k) e.outs (HL.fst _ (un r0))) vs) ex τ:=λex hex ⟨y,hy,τ,ρ',w1,w2⟩=>by
  subst hy;obtain⟨o1,o2⟩:=hout y;obtain⟨vs,q1,q2⟩:=zgo hD w2 o1;have hH:=zqy (F:=F) τ.H w2.lv w2.E
  have hleft:Left D lv L ρ0 e.p τ.H.L ρ' e.ros (HL.snd _ (un (pack y))):=by
   have hlen':ρ'.length=e.ros.length:=by rw[w2.nx,<-hlen];rfl
   have live:∀s sl,ρ'[s]? = some sl->∃o,fnd (l.bld D y).o s=some o∧o.live:=λs sl hs=>by
    rw[o2];exact y7a e.ros (Qbo _) (by rw[Nat.zero_add,<-hlen'];grind)
   refine⟨hlen',λj o hm =>?_,λs s' sl sl' i r1 r2 c1 c2 =>?_,λs sl i r1 c1 =>?_,λi hi hno=>w2.out i ⟨hi,hno⟩,λj sl hj hs =>?_,λs sl i r1 c1=>by
    obtain⟨o,a1,a2⟩:=live s sl r1
    exact w2.fpl s o sl i a1 a2 r1 c1⟩
   exact w2.ob j o (by rw[o2];exact y5z e.ros hm);obtain⟨o,a1,a2⟩:=live s sl r1;obtain⟨o',b1,b2⟩:=live s' sl' r2;exact w2.inj s s' o o' sl sl' i a1 b1 a2 b2 r1 r2 c1 c2;obtain⟨o,a1,a2⟩:=live s sl r1;have:=w2.mine s o sl i a1 a2 r1 c1
   grind
   exact w2.pin j sl (by grind)
  refine⟨τ,w1,λv e=>by grind,?_⟩
  rcases hex with rfl|rfl
  exact⟨z9y vs,z9y vs,by grind[z0w],w2.d,.refl _,τ.H.L,ρ',hH,hleft,⟨z004 hren hgs (λi s v a b=>w2.g i s v a b),by rw[hkc];exact .nil⟩,vs,rfl,q2⟩;exact⟨z9y vs,z9y vs,by grind[z0w],w2.d,.refl _,τ.H.L,ρ',hH,hleft,⟨z004 hren hgs (λi s v a b=>w2.g i s v a b),by rw[hkc];exact .nil⟩,vs,rfl,q2⟩
 cases ex with
 |normal=>exact key _ (.inl rfl) hq
 |ret=>exact key _ (.inr rfl) hq
 |exit id=>exact hq.elim
 |panic v=>exact hq.elim
mutual
theorem VRn.lvl{lv':Nat}:∀{x:TV D.T}{v:V},VR D [] lv x v->VR D [] lv' x v
 |.own s,v,h=>by simp only[VR]at h;obtain⟨sl,h1,_⟩:=h;simp at h1
 |.osl s lo,v,h=>by simp only[VR]at h;obtain⟨sl,j,ver,h1,_⟩:=h;simp at h1
 |.ptr s off,v,h=>by simp only[VR]at h;obtain⟨sl,i,h1,_⟩:=h;simp at h1
 |.bp s off,v,h=>by simp only[VR]at h;obtain⟨sl,i,h1,_⟩:=h;simp at h1
 |.map s,v,h=>by simp only[VR]at h;obtain⟨sl,i,h1,_⟩:=h;simp at h1
 |.mc t es,v,h=>by unfold VR at h ⊢;exact h
 |.ap s t i x off,v,h=>by simp only[VR]at h;obtain⟨sl,w,h1,_⟩:=h;simp at h1
 |.dp s i off,v,h=>by simp only[VR]at h;obtain⟨sl,j,ver,m,h1,_⟩:=h;simp at h1
 |.bsl q cs,v,h=>by simp only[VR]at h ⊢;obtain⟨vs,h1,h2⟩:=h;exact⟨vs,h1,VRLn.lvl h2⟩
 |.ref cs off,v,h=>by simp only[VR]at h ⊢;obtain⟨vs,h1,h2⟩:=h;exact⟨vs,h1,VRLn.lvl h2⟩
 |.fn f a b,v,h=>by simp only[VR]at h ⊢;obtain⟨as,bs,h1,h2,h3⟩:=h;exact⟨as,bs,h1,VRLn.lvl h2,VRLn.lvl h3⟩
 |.iface t x,v,h=>by simp only[VR]at h ⊢;obtain⟨y,h1,h2⟩:=h;exact⟨y,h1,VRn.lvl h2⟩
 |.agg cs,v,h=>by simp only[VR]at h ⊢;obtain⟨vs,h1,h2⟩:=h;exact⟨vs,h1,VRLn.lvl h2⟩
 |.tup cs,v,h=>by simp only[VR]at h ⊢;obtain⟨vs,h1,h2⟩:=h;exact⟨vs,h1,VRLn.lvl h2⟩
 |.any,v,h=>by simp only[VR]
 |.bool b,v,h=>by simpa only[VR]using h
 |.int k n,v,h=>by simpa only[VR]using h
 |.str b,v,h=>by simpa only[VR]using h
 |.nilp,v,h=>by simpa only[VR]using h
 |.nils,v,h=>by simpa only[VR]using h
 |.mapn,v,h=>by simpa only[VR]using h
 |.nilf,v,h=>by simpa only[VR]using h
 |.nili,v,h=>by simpa only[VR]using h
 |.sl t xs fl,v,h=>by simpa only[VR]using h
theorem VRLn.lvl{lv':Nat}:∀{cs:List (TV D.T)}{vs:List V},VRL D [] lv cs vs->VRL D [] lv' cs vs
 |[],vs,h=>by simpa only[VRL]using h
 |c::cs,vs,h=>by simp only[VRL]at h ⊢;obtain⟨v,r,h1,h2,h3⟩:=h;exact⟨v,r,h1,VRn.lvl h2,VRLn.lvl h3⟩
end
theorem DR.vs(hD:D.Ok P){H Dm t x v}(h:DR D t x v) :
  VS H Dm v (D.el t x)∧∀(j:Nat) (u u'),v.cells[j]? = some u->(D.el t x).cells[j]? = some u'->VS H Dm u u':=by
 have one:∀{t:DTy}{x:t.S D.T}{v:V},v.cells=[v]->(D.el t x).cells=[D.el t x]->VS H Dm v (D.el t x) ->
   VS H Dm v (D.el t x)∧∀(j:Nat) (u u':V),v.cells[j]? = some u->(D.el t x).cells[j]? = some u'->VS H Dm u u':=λ{t x v} h1 h2 h=>⟨h,λj u u' hu hu'=>by
  grind⟩
 induction h with
 |bool b=>exact one rfl rfl (.keep _ (by simp[V.kin]))
 |int k n=>exact one rfl rfl (.keep _ (by simp[V.kin]))
 |str s=>exact one rfl rfl (.keep _ (by simp[V.kin]))
 |nat n=>exact one (t:=.nat) rfl rfl (.any _)
 |nil t=>exact one rfl rfl (.nil _ _)
 |sl t xs ws full hl h ih=>
  refine one rfl rfl (.sl _ _ _ _ (by simp[hl]) (λj a b ha hb =>?_) λj a b q v u ha hb hv hu =>?_);rw[Qan,Qaf]at hb;obtain⟨x,hx,rfl⟩:=hb
  grind[cells,yr3]
  grind
 |st i x vs hl h ih=>
  have cell:∀(j:Nat) (u u':V),vs[j]? = some u->(D.els (D.fl i) (D.get i x))[j]? = some u'->VS H Dm u u':=λj u u' hu hu'=>by
   rw[ykf,Qaf]at hu';obtain⟨p,hp,rfl⟩:=hu'
   grind
  have e:D.el (.st i) x = .agg (D.els (D.fl i) (D.get i x)):=hD.enc i x;rw[e]
  exact⟨.agg _ _ (by rw[yai,hl]) cell,λj u u' hu hu'=>cell j u u' hu hu'⟩
 |enc i x=>exact⟨.keep _ (hD.kin i x _),λj u u' hu hu'=>by
  rw[show D.el (.st i) x=D.enc i x from rfl,hu]at hu';cases hu'
  exact .keep _ (zb7 (zsx (hD.kin i x _)) j u hu)⟩
theorem VR.toDR(hD:D.Ok P){t x v}(ht:t ≠ .nat)(h:VR D ρ lv (D.tv t x) v):DR D t x v:=by
 have leaf:∀{t:DTy}{x:t.S D.T}{v:V},t ≠ .nat->(∀i,t ≠ .st i)->VR D ρ lv (D.leaf t x) v->DR D t x v:=λ{t x v} h1 h2 h=>by
  cases t with
  |bool=>simp[Dat.leaf,VR]at h;subst h;exact .bool _
  |int k=>simp[Dat.leaf,VR]at h;subst h;exact .int _ _
  |str=>simp[Dat.leaf,VR]at h;subst h;exact .str _
  |nat=>exact(h1 rfl).elim
  |sl t=>grind[Dat.leaf,VR]
  |st i=>exact(h2 i rfl).elim
 cases t with
 |st i=>
  obtain⟨vs,rfl,h⟩:=h;refine .st i x vs (by rw[<-h.length,zeh]) λj p u hp hu =>?_
  have hm:=hD.flat i p.1 (Qax (HL.zg4 _ _ _ _ hp).2);have:=h.y1r (j:=j) (c:=D.leaf p.1 p.2) (by rw[zgq,hp];rfl) hu
  grind
 |nat=>exact(ht rfl).elim
 |bool=>exact leaf ht (by simp) h
 |int k=>exact leaf ht (by simp) h
 |str=>exact leaf ht (by simp) h
 |sl t=>exact leaf ht (by simp) h
def y9v:List Sh->Bool
 |[]=>true
 |.d t::l => !decide (t = .nat)&&y9v l
 |_=>false
def canon(D:Dat):(l:List Sh)->HL D.T (Sh.z04 l)->List V
 |[],_=>[]
 |.d t::l,x=>D.el t (HL.fst (Sh.tys (.d t)) x).1::canon D l (HL.snd (Sh.tys (.d t)) x)
 |s::l,x=>.any::canon D l (HL.snd s.tys x)
theorem VRL.lvl{lv' cs vs}(h:VRL D [] lv cs vs):VRL D [] lv' cs vs:=VRLn.lvl h
theorem y6k(hD:D.Ok P):∀{l x},y9v l=true->VRL D ρ lv (z1u D (λk=>k) l x) (canon D l x)
 |[],x,h=>(by simp[VRL]:VRL D ρ lv [] [])
 |.d t::l,x,h=>by
  simp[y9v,Qag]at h;exact⟨_,_,rfl,VR.tv hD (DR.el t _),y6k hD h.2⟩
theorem ydn(hD:D.Ok P){H Dm}:∀{l x vs},y9v l=true->VRL D ρ lv (z1u D (λk=>k) l x) vs->VSL H Dm vs (canon D l x)
 |[],x,vs,h,hv=>by
  subst hv;exact .nil
 |.d t::l,x,vs,h,hv=>by
  simp[y9v,decide_eq_false_iff_not]at h;obtain⟨v,r,rfl,h1,h2⟩:=hv;exact .cons ((VR.toDR hD h.1 h1).vs hD).1 (ydn hD h.2 h2)
theorem yr5{H Dm vs us}(h:VSL H Dm vs us):VS H Dm (z9y vs) (z9y us):=by
 cases h with
 |nil=>exact .tup' .nil
 |cons h1 r=>
  cases r with
  |nil=>exact h1
  |cons h2 r=>exact .tup' (.cons h1 (.cons h2 r))
theorem z04b(hD:D.Ok P){e:Ent D}{fn code nt l pack}{un:R->HL D.T (Sh.z04 e.outs++z03 e.ros)}{go}
  (hf:P.funcs[e.f]? = some fn) (hb:fn.body=some code) (hnt:fn.ntmps=nt) (hent:∀args w,(callFunc e.f args).run P w = .ok (.enter e.f args) w) (hargs:e.args.length<=nt)
  (hgo:∀(R':Type) (x:HL D.T (Sh.z04 e.args++z03 e.aos)) (k:HL D.T (Sh.z04 e.outs++z03 e.ros)->Option R') (kp:HL D.T (e.pan.tys++z03 e.pos)->Option R'),e.go x k kp=(go x).bind λr=>k (un r))
  (hpure:e.pure=true) (hren:e.ren=[]) (haos:e.aos=[]) (hros:e.ros=[]) (houts:y9v e.outs=true) (hp2:l.pin<=l.os.length)
  (hout:∀x,zxd P D (l.bld D x) fn.results.toList=some (z1u D (λk=>k) e.outs (HL.fst _ (un (pack x)))))
  (hrun:ym2 P D code e.p e.args e.aos nt [] (zwx D l pack) go):e.Ok P:=λR' x k kp r h=>by
 rw[hpure];rw[hgo]at h;obtain⟨r0,h1,h2⟩:=zqg h;refine⟨un r0,h2,haos,hros,hren,λlv0 vargs k2=>⟨canon D e.outs (HL.fst _ (un r0)),λρ lv=>y6k hD houts,?_⟩⟩
 have hvl:vargs.length=e.args.length:=by
  rw[<-k2.length]
  have:∀(l:List Sh) (y:HL D.T (Sh.z04 l)),(z1u D (λk=>k) l y).length=l.length:=λl=>by
   induction l with
   |nil=>intro y;rfl
   |cons s l ih=>grind[z1u]
  exact this _ _
 refine z008 hf hb hnt hent λlv E =>?_
 let F:Fr:=⟨lv+1,E,E,[],λi=>False,[],[]⟩
 have hnob:∀s (o:TO D.T),fnd (z55 D (λk=>k) e.aos 0 (HL.snd _ x)) s=some o->False:=λs o ho=>by
  obtain⟨j,_,hlt,_⟩:=zsp e.aos (z2o ho)
  grind
 have k2':VRL D [] (lv+1) (z1u D (λk=>k) e.args (HL.fst _ x)) vargs:=VRL.lvl k2
 have hR0:TRr D F [] (entry D e.args e.aos nt [] x) ⟨vargs++List.replicate (nt-vargs.length) .any,⟨lv+1,[],E⟩,[],E⟩:=by
  refine⟨by simp only[entry,haos];rfl,by grind[entry],zo0 _ k2',λs o ho=>(hnob s o ho).elim,λs s' o o' sl sl' i a1=>(hnob s o a1).elim,λs o sl i a1=>(hnob s o a1).elim,rfl,rfl,rfl,rfl,λi hi=>hi.elim,λj sl hj=>by simp[F]at hj,λs o sl i a1=>(hnob s o a1).elim,λi s v h=>by simp[entry]at h⟩
 refine ydk ((hrun F _ r0 rfl (by simp[F]) (yac hD (by simp[F]) hp2) x _ hR0.tr h1).mono λex σ hq =>?_)
 have key:∀ex,(ex = .normal∨ex = .ret)->(∃x,pack x=r0∧TR D F (l.bld D x) σ)->∃τ,zlf σ τ∧(∀v,ex ≠ .panic v)∧Ends P fn lv E (z9y (canon D e.outs (HL.fst _ (un r0)))) ex τ:=λex hex ⟨y,hy,τ,ρ',w1,w2⟩=>by
  subst hy;obtain⟨vs,q1,q2⟩:=zgo hD w2 (hout y);have hv:=yr5 (ydn hD (H:=τ.H) (Dm:=outer lv) houts q2);refine⟨τ,w1,λv e=>by grind,?_⟩
  rcases hex with rfl|rfl
  exact⟨z9y vs,by grind[z0w],w2.d,w2.E,hv⟩;exact⟨z9y vs,by grind[z0w],w2.d,w2.E,hv⟩
 cases ex with
 |normal=>exact key _ (.inl rfl) hq
 |ret=>exact key _ (.inr rfl) hq
 |exit id=>exact hq.elim
 |panic v=>exact hq.elim
structure FI(D:Dat) where
 R:Type
 ent:Nat->Ent D
 c:AC
 K:Ks D.T R
 p:Nat
 args:List Sh
 aos:List OSh
 nt:Nat
 gs:List Nat:=[]
 z0s:Nat->List (Nat×Lb D R)
 go:Nat->HL D.T (Sh.z04 args++z03 aos)->Option R
def zvn{α:Type}(φ:Nat->α->Prop):List (Nat×α)->Prop
 |[]=>True
 |p::l=>φ p.1 p.2∧zvn φ l
theorem zvn.get{α φ}:∀{l j} {a:α},zvn φ l->(j,a)∈l->φ j a
 |p::l,j,a,h,hm=>by
  rcases Qbg.1 hm with hm|hm
  subst hm;exact h.1;exact zvn.get h.2 hm
noncomputable def zxp(P:Program)(D){R}(tbl:List (Ent D))(J:Nat->TS D.T->Option R)(l:Nat)(c:AC)(K:Ks D.T R)(ts:TS D.T):Option R :=
 match AC.at P D tbl J l c K (λ_=>none)with
 |some g=>g ts
 |none=>none
structure FI.Good(P:Program)(D:Dat)(tbl:Nat->List (Ent D))(f:FI D):Prop where
 nodup:f.c.labels.Nodup
 zero:∀x,f.go 0 x=none
 lzero:∀l lb x,fnd (f.z0s 0) l=some lb->lb.go x=none
 pins:∀n l lb,fnd (f.z0s n) l=some lb->f.p<=lb.sh.pin∧lb.sh.pin<=lb.sh.os.length
 step:∀n x,f.go (n+1) x=run P D (tbl n) (jump D (f.z0s n)) f.c (entry D f.args f.aos f.nt f.gs x) f.K
 lstep:∀n l lb x,fnd (f.z0s (n+1)) l=some lb->lb.go x=zxp P D (tbl n) (jump D (f.z0s n)) l f.c f.K (lb.sh.bld D x)
 ok:∀n,ym2 P D f.c.erase f.p f.args f.aos f.nt f.gs f.K (f.go n)->(f.ent n).Ok P
 zke:∀q∈f.c.zke,zhd P q
def FI.y57(P:Program)(D)(f:FI D)(n:Nat):Prop :=
 ∀F Q r,F.E=F.e0->F.pin.length<=f.p->KOk D F f.K Q r->∀l a Q',f.c.site P l Q=some (a,Q')->∀ts σ,TR D F ts σ->jump D (f.z0s n) l ts=some r->a.Claim P σ Q'
theorem FI.Good.z0s(hD:D.Ok P){tbl}{f:FI D}(h:f.Good P D tbl):∀n,(∀m,m<n->∀e∈tbl m,e.Ok P)->f.y57 P D n
 |0,_=>λF Q r hF hp hK l a Q' hs ts σ hT hj=>by
  unfold jump at hj;split at hj;rename_i lb hlb;obtain⟨p1,p2⟩:=h.pins 0 l lb hlb;obtain⟨x,h1,_⟩:=LSh.zcn hD (by omega) p2 hT hj;rw[h.lzero l lb x hlb]at h1;cases h1
  cases hj
 |n+1,ht=>λF Q r hF hp hK l a Q' hs ts σ hT hj=>by
  have ih:=FI.Good.z0s hD h n λm hm=>ht m (by omega)
  unfold jump at hj;split at hj;rename_i lb hlb;obtain⟨p1,p2⟩:=h.pins (n+1) l lb hlb;obtain⟨x,h1,h2⟩:=LSh.zcn hD (by omega) p2 hT hj;rw[h.lstep n l lb x hlb]at h1;unfold zxp at h1;split at h1;rename_i g hg
  obtain⟨a',Q'',e1,e2⟩:=zk5 hD (ht n (by omega)) hF h.zke hK (λb _ ts σ _ hk=>by cases hk) (zhm (P:=P) (φ:=LOk P D F (jump D (f.z0s n)) r) h.nodup λl a Q' hs ts σ hT hj=>ih F Q r hF hp hK l a Q' hs ts σ hT hj) hg
  grind
  cases h1;cases hj
theorem FI.Good.runs(hD:D.Ok P){tbl}{f:FI D}(h:f.Good P D tbl):∀n,(∀m,m<n->∀e∈tbl m,e.Ok P)->ym2 P D f.c.erase f.p f.args f.aos f.nt f.gs f.K (f.go n)
 |0,_=>λF Q r hF hp hK x σ hT hg=>by rw[h.zero]at hg;cases hg
 |n+1,ht=>λF Q r hF hp hK x σ hT hg=>by
  rw[h.step]at hg;have ih:=h.z0s hD n λm hm=>ht m (by omega)
  exact z8b hD (ht n (by omega)) hK (zhm (P:=P) (φ:=LOk P D F (jump D (f.z0s n)) r) h.nodup λl a Q' hs ts σ hT hj=>ih F Q r hF hp hK l a Q' hs ts σ hT hj) hT hg
theorem ring(hD:D.Ok P){fs:List (FI D)}{base:Nat->List (Ent D)}(hb:∀n,∀e∈base n,e.Ok P)(h:∀f∈fs,f.Good P D λn=>fs.map (·.ent n)++base n):∀n,∀f∈fs,(f.ent n).Ok P:=λn=>by
 induction n using Nat.strongRecOn with
 |ind n ih=>
  intro f hf;refine(h f hf).ok n ((h f hf).runs hD n λm hm e he =>?_)
  rcases List.mem_append.1 he with he|he
  obtain⟨g,hg,rfl⟩:=Qbc.1 he;exact ih m hm g hg;exact hb m e he
end
section
variable {P : Program} {D : Dat} {R : Type}
def FI.of(D)(f nt p:Nat)(args)(aos)(outs)(ros)(pure:Bool)(l:LSh){R}(pack:HL D.T l.tys->R)(un:R->HL D.T (Sh.z04 outs++z03 ros))
  (go:Nat->HL D.T (Sh.z04 args++z03 aos)->Option R) (z0s:Nat->List (Nat×Lb D R)) (c:AC) (gs:List Nat:=[]):FI D :=
 {R:=R,ent:=λn=>{f:=f,p:=p,args:=args,aos:=aos,outs:=outs,ros:=ros,pan:=.nilp,pos:=ros,pure:=pure,go:=λx k _=>(go n x).bind λr=>k (un r),ren:=gs.map λk=>(k,k)},
   c:=c,K:=zwx D l pack,p:=p,args:=args,aos:=aos,nt:=nt,gs:=gs,z0s:=z0s,go:=go}
def tb(l:List (FI D))(n:Nat):List (Ent D):=l.map (·.ent n)
def FOk(P:Program)(f:FI D):Prop:=∀n,(f.ent n).Ok P
def OkL(P:Program):List (FI D)->Prop
 |[]=>True
 |f::l=>FOk P f∧OkL P l
def yps(P:Program)(tbl:Nat->List (Ent D)):List (FI D)->Prop
 |[]=>True
 |f::l=>f.Good P D tbl∧yps P tbl l
theorem OkL.get:∀{l} {f:FI D},OkL P l->f∈l->FOk P f
 |g::l,f,h,hm=>by
  rcases Qbg.1 hm with rfl|hm
  exact h.1;exact OkL.get h.2 hm
theorem OkL.of:∀{l:List (FI D)},(∀f∈l,FOk P f)->OkL P l
 |[],h=>trivial
 |f::l,h=>⟨h f Qak,OkL.of λg hg=>h g (Qai _ hg)⟩
theorem yps.get{tbl}:∀{l f},yps P tbl l->f∈l->f.Good P D tbl
 |g::l,f,h,hm=>by
  rcases Qbg.1 hm with rfl|hm
  exact h.1;exact yps.get h.2 hm
theorem z5k(hD:D.Ok P){fs bs:List (FI D)}(hb:OkL P bs)(h:yps P (tb (fs++bs)) fs):OkL P fs :=
 OkL.of λf hf n=>ring hD (base:=λn=>bs.map (·.ent n)) (λn e he=>by
  obtain⟨b,hm,rfl⟩:=Qbc.1 he
  exact hb.get hm n) (λg hg=>by
  have:=h.get hg;have e:(tb (fs++bs))=λn=>fs.map (·.ent n)++bs.map (·.ent n):=by funext n;simp[tb]
  grind) n f hf
def yux:List Nat->List Nat->Bool
 |[],[]=>true
 |a::l,b::r=>Nat.beq a b&&yux l r
 |_,_=>false
theorem yog:∀{a b},yux a b=true->a=b
 |[],[],_=>rfl
 |[],_::_,h=>by cases h
 |_::_,[],h=>by cases h
 |a::l,b::r,h=>by
  simp only[yux,Qag]at h;rw[Qaj h.1,yog h.2]
def yrf(p nt:Nat)(args outs:List Sh)(aos ros:List OSh)(pure:Bool)(l:LSh)(c:AC)(gs:List Nat):Bool :=
 Nat.ble args.length nt&&Nat.ble p l.pin&&Nat.ble l.pin l.os.length &&
 (match pure with
  |true=>aos.isEmpty&&ros.isEmpty&&y9v outs&&gs.isEmpty
  |false=>Nat.beq l.os.length ros.length&&yux l.gs gs&&gs.all (gsB aos))
def y3l(p:Nat):List (Nat×Lb D R)->Bool
 |[]=>true
 |(_,lb)::r=>Nat.ble p lb.sh.pin&&Nat.ble lb.sh.pin lb.sh.os.length&&y3l p r
theorem zsu{p}:∀{l:List (Nat×Lb D R)},y3l p l=true->zvn (λ_ lb=>p<=lb.sh.pin∧lb.sh.pin<=lb.sh.os.length) l
 |[],h=>trivial
 |(_,lb)::r,h=>by
  simp[y3l,Nat.ble_eq]at h;exact⟨h.1,zsu h.2⟩
theorem FI.z0t{hD:D.Ok P}{f nt p:Nat}{args aos outs ros pure l pack un go}{z0s:Nat->List (Nat×Lb D R)}{c gs tbl fn}
  (hf:P.funcs[f]? = some fn) (hnt:fn.ntmps=nt) (hent:∀args w,(callFunc f args).run P w = .ok (.enter f args) w)
  (hb:fn.body=some c.erase) (hnd:c.labels.Nodup) (hchk:yrf p nt args outs aos ros pure l c gs=true) (hp:∀n,y3l p (z0s n)=true)
  (hout:∀x,zxd P D (l.bld D x) fn.results.toList=some (z1u D (λk=>k) outs (HL.fst _ (un (pack x)))))
  (hz:∀x,go 0 x=none) (hlz:zvn (λ_ lb=>∀x,lb.go x=none) (z0s 0))
  (hs:∀n x,go (n+1) x=run P D (tbl n) (jump D (z0s n)) c (entry D args aos nt gs x) (zwx D l pack))
  (hls:∀n,zvn (λj lb=>∀x,lb.go x=zxp P D (tbl n) (jump D (z0s n)) j c (zwx D l pack) (lb.sh.bld D x)) (z0s (n+1)))
  (hros:∀x,pure=true∨(l.bld D x).o=z55 D (λk=>k) ros 0 (HL.snd _ (un (pack x)))) (hrng:c.zke=[]:=by kernel_rfl) :
  (FI.of D f nt p args aos outs ros pure l pack un go z0s c gs).Good P D tbl where
 nodup:=hnd
 zke:=λq hq=>by replace hq:q∈c.zke:=hq;grind
 zero:=hz
 lzero:=λj lb x h=>hlz.get (z2o h) x
 pins:=λn j lb h=>(zsu (hp n)).get (z2o h)
 step:=hs
 lstep:=λn j lb x h=>(hls n).get (z2o h) x
 ok:=λn h=>by
  simp[yrf,Nat.ble_eq]at hchk;obtain⟨⟨⟨h1,h2⟩,h3⟩,h4⟩:=hchk
  cases pure with
  |true=>
   simp[List.isEmpty_iff]at h4;obtain⟨⟨⟨rfl,rfl⟩,h6⟩,rfl⟩:=h4
   exact z04b (l:=l) (pack:=pack) (un:=un) (go:=go n) (code:=c.erase) hD hf hb hnt hent h1 (λ_ _ _ _=>rfl) rfl rfl rfl rfl h6 h3 hout h
  |false=>
   simp only[Qag]at h4;obtain⟨⟨h4,h5⟩,h6⟩:=h4;exact z03y (gs:=gs) (l:=l) (pack:=pack) (un:=un) (go:=go n) (code:=c.erase) hD hf hb hnt hent h1 (λ_ _ _ _=>rfl) rfl rfl rfl (yog h5) h6 h2 h3 (Qaj h4) (λx=>⟨hout x,(hros x).resolve_left (by simp)⟩) h
end
end Go.Ab
