/-
  THE TYPED MACHINE: regions.
-/
import Derived.Test.YthphaiccgnkobaaGreatDoorLib6
import Derived.KernelRfl
set_option linter.defProp false
set_option linter.unusedSectionVars false
set_option linter.unusedSimpArgs false
set_option linter.unusedVariables false
namespace Go.Ab
open Go
section
variable {P:Program}{D:Dat}{F:Fr}{ρ:List Slot}{ts:TS D.T}{σ:St}{lv:Nat}
variable (hD:D.Ok P)
include hD
omit hD in
theorem z05j{T nx}{a b:Option (TV T)}(h:¬appW nx a b=none):appW nx a b=some nx∧∀q,a≠some (.own q):=by
 unfold appW at h ⊢;split at h;exact(h rfl).elim
 grind
 grind
 exact(h rfl).elim
omit hD in
theorem z056{ops k σ τ Q}(d:znz σ τ)(h:zgn P ops k τ Q):zgn P ops k σ Q:=λW0 g0 H0 W a g b i j=>by
 have⟨g',m,l⟩:=d W0 g0 H0 W a g b i j;exact h W0 g0 H0 W a g' b m l
omit hD in
theorem zm7{ops:Array Oper}{k o}(d:ops[k]? = some o):(ops.toList.drop k).take 1=[o]:=by
 have b:k<ops.size:=by
  grind
 have a:=by simpa using b
 rw[<-Qah (h:=a)]
 grind
omit hD in
theorem yqk{ops k σ Q o v H'}(d:ops[k]? = some o)(b:z0r ops σ o=some true)(a:ox P σ.H σ.ev o.op=some (v,H'))(h:zgn P ops (k+1) ({σ with H:=H'}.put o.dst v) Q):zgn P ops k σ Q :=
 y31 1 [] ({σ with H:=H'}.put o.dst v) [] (by simp_all[zm7,y7c]) zw2 h
omit hD in
theorem z04f{ops k σ Q o}(b:ops[k]? = some o)(a:z0r ops σ o=some false)(h:zgn P ops (k+1) (σ.put o.dst (.tup [])) Q):zgn P ops k σ Q :=
 y31 1 [] (σ.put o.dst (.tup [])) [] (by rw[zm7 b];simp[y7c,a]) zw2 h
omit hD in
theorem z00z{ops k σ Q o c f args v}(l:ops[k]? = some o)(i:z0r ops σ o=some true)(d:o.op = .call c)(a:∃x,c.callee = .value x)(j:target σ.ev c=some (f,args))(b:y4u P f args σ.H v σ.H)
  (h:zgn P ops (k+1) (σ.put o.dst v) Q):zgn P ops k σ Q:=by
 refine y31 1 [(v,none)] (σ.put o.dst v) [⟨f,args,σ.H,v,σ.H⟩] ?_ (zs7 b zw2) h;have⟨x,g⟩:=a
 simp_all[ox,zf9,zm7,y7c]
omit hD in
theorem yyd{ops k σ Q o c f args v}(l:ops[k]? = some o)(i:z0r ops σ o=some true)(d:o.op = .call c)(a:∃x,c.callee = .value x)(j:target σ.ev c=some (f,args))(b:zrw P f args v)
  (h:zgn P ops (k+1) (σ.put o.dst v) Q):zgn P ops k σ Q:=by
 refine y31 1 [(v,none)] (σ.put o.dst v) [⟨f,args,σ.H,v,σ.H⟩] ?_ (zs7 (b σ.H) zw2) h;have⟨x,g⟩:=a
 simp_all[ox,zf9,zm7,y7c]
omit hD in
def y2b(ops:Array Oper)(ts:TS D.T)(o:Oper):Prop:=o.guard=none∨∃j want d,o.guard=some (j,want)∧(ops[j]?).bind (·.dst)=some d∧fnd ts.t d=some (.bool want)
omit hD in
theorem TRr.tmp(a:TRr D F ρ ts σ){d x}(h:fnd ts.t d=some x):VR D ρ F.lv x (σ.t.getD d .any):=a.ev (o:=.tmp d) h
omit hD in
theorem y2b.wanted(a:TRr D F ρ ts σ){ops o}(h:y2b ops ts o):z0r ops σ o=some true:=by
 unfold z0r
 rcases h with h|⟨j,want,d,i,g,b⟩
 rw[h];have:=a.tmp b
 simp_all[VR]
omit hD in
theorem y2b.freeze{ops o}(h:y2b ops ts o){s b}(a:ts.freeze D s=some b):y2b ops b o:=by
 rcases h with h|⟨j,want,d,k,i,l⟩
 exact .inl h
 ·refine .inr ⟨j,want,d,k,i,?_⟩;unfold TS.freeze at a;split at a;rename_i ty t xs w _ g;cases a
  simp_all[TS.zf2,zo5,TV.frz]
  rename_i ty q xs _ g;cases a
  simp_all[TS.zf2,zo5,TV.frz]
  ·rename_i ty t es _ g;split at a
   case isFalse=>cases a
   cases a
   simp_all[TS.zf2,zo5,TV.frz]
  cases a
omit hD in
theorem y2b.ren{ops o a}(h:y2b ops ts o){s b}(k:a.t=ts.t.map λp=>(p.1,TV.ren D s b p.2)):y2b ops a o:=by
 rcases h with h|⟨j,want,d,i,g,l⟩
 exact .inl h;refine .inr ⟨j,want,d,i,g,?_⟩
 simp_all[zo5,TV.ren]
omit hD in
theorem y2t(d:TRr D F ρ ts σ){c x f a b vs}(h:c.callee = .value x)(j:ts.ev x=some (.fn f a b))(i:ts.evs c.args.toList=some vs):∃args,target σ.ev c=some (f,args)∧VRL D ρ F.lv (a++vs++b) args:=by
 have g:=d.ev j;have⟨n,bs,m,l,k⟩:=g;exact⟨n++c.args.toList.map σ.ev++bs,by simp[target,h,m],(l.append (d.evs i)).append k⟩
variable {tbl:List (Ent D)}
omit hD in
theorem ykx{W}{a:Act}{g c f args ty}(j:∀x,Rel W g σ.H (σ.ev x) (a.eval x))(h:target σ.ev c=some (f,args)) :
  ∃b l,zmy W g σ.H args (l++b)∧∀w:World,(resolve a.eval c ty).run P w = .ok ⟨.fn (.func f) b,l⟩ w:=by
 unfold target at h;split at h;rename_i k s;split at h;rename_i z first b q;injection h with h;cases h;have d:=j k;rw[q]at d;generalize i:a.eval k=y at d
 cases d with
 |fn _ _ _ u cs p o n m=>
  refine⟨cs,u++c.args.map a.eval,zr1 (zr1 ⟨p,n⟩ (zyw j c.args)) ⟨o,m⟩,λw =>?_⟩;simp[resolve,s,i,Deferred.ofValue]
 cases h;cases h
omit hD in
theorem ywh{ops k σ Q o c f args}(A:ops[k]? = some o)(y:z0r ops σ o=some true)(n:o.op = .defer c)(z:target σ.ev c=some (f,args))(p:f<znq)
  (h:zgn P ops (k+1) ({σ with d:=(f,args)::σ.d}.put o.dst .any) Q):zgn P ops k σ Q:=λW0 g0 H0 W a g G C i=>by
 have K:k<ops.size:=by
  grind
 rw[show ops.size-k=(ops.size-(k+1))+1 by omega,List.range'_succ];simp[wpOps,A];rw[z1u i y,Qbq rfl];left;unfold Oper.wp;have⟨b,m,x,w⟩:=ykx (P:=P) (ty:=o.type) i.ev z
 have q:(execOp a.eval o).run P W = .ok (.defer ⟨.fn (.func f) b,m⟩) W:=by
  unfold execOp;rw[n];simp[w W]
 rw[q]
 have u:yze W {a with defers:=⟨.fn (.func f) b,m⟩::a.defers} g {σ with d:=(f,args)::σ.d}:=by
  refine⟨i.good,i.size,i.tmps,by simp[i.dlen],λj I vs l =>?_⟩
  cases j with
  |zero=>simp at l;obtain⟨rfl,rfl⟩:=l;exact .inl ⟨p,b,m,rfl,x⟩
  |succ j=>exact i.defs j I vs (by simpa using l)
 have s:=u.next (.refl _ _ _) i.good (.any undef) o.dst;have E:({σ with d:=(f,args)::σ.d}.put o.dst .any).H=σ.H:=by cases o.dst <;> rfl
 have B:({σ with d:=(f,args)::σ.d}.put o.dst .any).e0=σ.e0:=by cases o.dst <;> rfl
 exact h W0 g0 H0 W _ g G (by rw[E,B];exact C) s
omit hD in
theorem zlr{ops k σ Q o v H'}(n:ops[k]? = some o)(l:z0r ops σ o=some true)
  (m:∀W a g,yze W a g σ->za2 P W g σ.H (execOp a.eval o) v H') (h:zgn P ops (k+1) ({σ with H:=H'}.put o.dst v) Q):zgn P ops k σ Q:=λW0 g0 H0 W a g u j i=>by
 have y:k<ops.size:=by
  grind
 rw[show ops.size-k=(ops.size-(k+1))+1 by omega,List.range'_succ];simp[wpOps,n];rw[z1u i l,Qbq rfl];left;unfold Oper.wp;have⟨c,W',g',b,h2,x,w⟩:=m W a g i;have p:=i.next h2 x w o.dst;have s:({σ with H:=H'}.put o.dst v).H=H':=by cases o.dst <;> rfl
 have q:({σ with H:=H'}.put o.dst v).e0=σ.e0:=by cases o.dst <;> rfl
 have d:=h W0 g0 H0 W' (a.put o.dst c) g' u (by rw[s,q];exact⟨j.1,j.2.trans h2⟩) p
 rcases b with b|⟨b,rfl⟩
 rw[b];exact d;rw[b];exact d
omit hD in
theorem TRr.defer(a:TRr D F ρ ts σ){f xs args}(h:VRL D ρ F.lv xs args):TRr D F ρ {ts with d:=(f,xs)::ts.d} {σ with d:=(f,args)::σ.d} :=
 ⟨a.nx,a.nt,a.tm,a.ob,a.inj,a.mine,a.lv,a.E,a.e0,⟨args,σ.d,rfl,h,a.d⟩,a.out,a.pin,a.fpl,a.g⟩
omit hD in
theorem yc1:∀(xs) (ws),ws.length=xs.length->(∀(j:Nat) (x:Int) (w),xs[j]? = some x->ws[j]? = some w->DR D (.int .u8) x w)->zn5 ws=yiu xs
 |[],ws,a,h=>by obtain rfl:ws=[]:=Qao a;rfl
 |x::xs,[],a,h=>by simp at a
 |x::xs,w::ws,a,h=>by
  have i:=h 0 x w rfl rfl;have b:=yc1 xs ws (by simpa using a) λj y u d g=>h (j+1) y u (by simpa using d) (by simpa using g)
  cases i;simp[zn5,yiu,b]
  cases x with
  |ofNat m=>cases yiu xs <;> rfl
  |negSucc m=>cases yiu xs <;> rfl
omit hD in
theorem z05g{α:Type}(es:List α):es.Perm (((List.range es.length).filter λq => !([]:List Nat).contains q).filterMap λq=>es[q]?):=by
 have d:((List.range es.length).filter λq => !([]:List Nat).contains q)=List.range es.length:=by simp
 rw[d]
 have b:(List.range es.length).filterMap (λq=>es[q]?)=es:=by
  apply List.ext_getElem?;intro n
  have:∀(l:List Nat),(∀q∈l,q<es.length)->(l.filterMap λq=>es[q]?)[n]? = (l[n]?).bind λq=>es[q]? := by
   intro l
   induction l generalizing n with
   |nil=>simp
   |cons a l g=>
    grind
  grind
 rw[b]
omit hD in
theorem z04g{α:Type}{es b:List α}{a j p}(h:es.Perm (((List.range b.length).filter λq => !a.contains q).filterMap λq=>b[q]?))(o:b[j]? = some p)(s:j∉a) :
  ∃m:Nat,es[m]? = some p∧(es.eraseIdx m).Perm (((List.range b.length).filter λq => !(a++[j]).contains q).filterMap λq=>b[q]?):=by
 have l:=(Qaa.1 o).1;have g:j∈(List.range b.length).filter λq => !a.contains q:=by simp[l,s]
 have k:((List.range b.length).filter λq => !a.contains q).Nodup:=List.nodup_range.filter _
 have u:((List.range b.length).filter λq => !(a++[j]).contains q)=((List.range b.length).filter λq => !a.contains q).erase j:=by
  rw[k.erase_eq_filter,List.filter_filter];refine List.filter_congr λq _ =>?_
  grind
 have n:=(List.perm_cons_erase g).filterMap λq=>b[q]?
 rw[List.filterMap_cons,o]at n;have d:=h.trans n;have i:p∈es:=d.mem_iff.2 (by simp);have⟨m,i⟩:=List.mem_iff_getElem?.1 i;refine⟨m,i,?_⟩;rw[u]
 have w:es.Perm (p::es.eraseIdx m):=by
  grind[List.take_append_drop,List.drop_eq_getElem_cons,List.eraseIdx_eq_take_drop_succ,List.perm_middle]
 exact(List.perm_cons p).1 (w.symm.trans d)
omit hD in
theorem z06g{α R es}{f:B8->α->List (B8×α)->Option R}{g r}(h:yd9 es f g=some r)(a:es=[]):g=some r:=by
 subst a;exact h
omit hD in
theorem z061{α R es f g}{r:R}(h:yd9 es f g=some r)(m)(p:B8×α)(a:es[m]? = some p):f p.1 p.2 (es.eraseIdx m)=some r:=by
 match es,h,a with
 |[],h,a=>simp at a
 |[e],h,a=>
  cases m with
  |zero=>obtain rfl:e=p:=by simpa using a
         exact h
  |succ m=>simp at a
 |e::b::l,h,a=>
  simp only[yd9]at h;split at h
  grind
  cases h
omit hD in
theorem z08r{α R es f g}{r:R}(d:es=[]->g=some r)(b:∀(m:Nat) (p:B8×α),es[m]? = some p->f p.1 p.2 (es.eraseIdx m)=some r):yd9 es f g=some r:=by
 match es,d,b with
 |[],d,b=>exact d rfl
 |[e],d,b=>exact b 0 e rfl
 |e::h::l,d,b=>
  have j:∃z,∀i p,(e::h::l)[i]? = some p->f p.1 p.2 ((e::h::l).eraseIdx i)=some z:=⟨r,b⟩;simp only[yd9];have a:=j.choose_spec 0 e rfl
  grind
omit hD in
theorem VR.z09x{t}(a:t.flat=true)(x):VR D ρ lv (D.leaf t x) (yeh t x).v:=by
 cases t <;> first|(cases a;done)|(rfl)
theorem zwj{R ops n o Q k kp}{r:R}(X:ops[n]? = some o)(htbl:∀e∈tbl,e.Ok P)
  (Y:∀z w σ' ρ' v,TRr D F ρ' w σ'->VR D ρ' F.lv z v->k z w=some r->zgn P ops (n+1) (σ'.put o.dst v) Q)
  (h8:∀z w σ' ρ' v,TRr D F ρ' w σ'->VR D ρ' F.lv z v->kp z w=some r->Q (.panic v) σ'):∀(fuel:Nat) {ts:TS D.T}{σ:St}{ρ:List Slot},TRr D F ρ ts σ->y2b ops ts o->yo0 P D tbl o.op k kp fuel ts=some r->zgn P ops n σ Q
 |0,ts,σ,ρ,l,M,h=>by simp[yo0]at h
 |fuel+1,ts,σ,ρ,l,M,h=>by
  have A:∀s,(match isHole ts s with|true=>ts.fold D (yfw 9 ts s) (λw=>yo0 P D tbl o.op k kp fuel w)|false=>(match ts.freeze D s with|some w=>yo0 P D tbl o.op k kp fuel w|none=>none))=some r->zgn P ops n σ Q:=λs C=>by
   cases h6:isHole ts s with
   |true=>
    rw[h6]at C;have⟨w,ρ',O,N,h3,_⟩:=ykn hD l C
    exact zwj X htbl Y h8 fuel O (M.ren h3) N
   |false=>
   rw[h6]at C
   cases hf:ts.freeze D s with
   |none=>rw[hf]at C;cases C
   |some w=>
    rw[hf]at C;have⟨τ,O,N⟩:=y7k hD l hf;exact z056 O (zwj X htbl Y h8 fuel N (M.freeze hf) C)
  have I:∀{kf:Nat->Option R},(∀s,kf s=some r->zgn P ops n σ Q)->tOp P D ts o.op k kf=some r->zgn P ops n σ Q:=λ{kf} A h=>by
   rcases yp3 hD l h with ⟨z,w,v,H',ρ',O,N,h3,h4⟩|⟨s,C⟩
   exact yqk X (M.wanted l) O (Y z w _ ρ' v h3 N h4);exact A s C
  unfold yo0 at h;simp only at h;split at h;rename_i t a B;split at h;rename_i s i kg ha
  rcases yq5 hD l h (l.ev ha)with ⟨z,v,w,ρ',O,N,h3,h4⟩|⟨s,C⟩
  exact yqk X (M.wanted l) (by rw[B];exact yxb (op:=.load t a) O) (Y z w σ ρ' v h3 N h4);exact A s C;exact I A h;rename_i c B;split at h;rename_i x K;split at h;rename_i f a b vs U hd;have⟨args,t1,t2⟩:=y2t l K U hd
  have h7:zxj D f (a++vs++b) ts k kp _ tbl=some r->zgn P ops n σ Q:=λh=>by
   rcases zmc hD l t2 htbl h with ⟨_,ke,O,N,h3⟩|⟨rv,O,z,ρ',w,N,h3,h4,_⟩|⟨s,C⟩
   refine z06b X (M.wanted l) B t1 O (λrv H' hp =>?_) λv H' hp =>?_
   have⟨z,w,ρ',k1,k2,k3⟩:=N rv H' hp;exact Y z w _ ρ' rv k2 k1 k3;have⟨z,w,ρ',k1,k2,k3⟩:=h3 v H' hp;exact h8 z w _ ρ' v k2 k1 k3;exact yyd X (M.wanted l) B ⟨x,K⟩ t1 O (Y z w σ ρ' rv h3 (N _) h4);exact A s C
  split at h;split at h;rename_i s _;exact A s h
  rcases zw1 hD l t2 htbl h with ⟨rv,z,O,N,h3⟩|h
  exact z00z X (M.wanted l) B ⟨x,K⟩ t1 O (Y z ts σ ρ rv l N h3);exact h7 h;exact h7 h;cases h;exact I A h;rename_i x B;split at h;rename_i t v U;have G:=l.ev U;simp only[VR]at G;have⟨u,e1,e2⟩:=G;exact z02a X (M.wanted l) B e1 (h8 _ ts σ ρ _ l (by simp only[VR];exact⟨u,rfl,e2⟩) h);cases h
  ·rename_i c B;split at h
   ·rename_i x K;split at h
    ·rename_i f a b vs U hd;split at h
     case h_2=>cases h
     rename_i h9;have h9:f<znq:=by rw[Nat.blt_eq]at h9;exact h9
     have⟨args,t1,t2⟩:=y2t l K U hd;exact ywh X (M.wanted l) B t1 h9 (Y .any _ _ ρ .any (l.defer t2) (by simp only[VR]) h)
    cases h
   cases h
  rename_i bo t x y ty B;split at h;rename_i U hy;split at h;rename_i hi hu;have O:=l.ev U;have N:=l.ev hy;simp only[VR]at O N
  have zxe:∀{b:Bool},yc2 P bo t x y .nili .nili=some (.bool b)->k (.bool b) ts=some r->zgn P ops n σ Q:=λ{b} hb kb=>by
   refine zlr X (M.wanted l) (λW a g hG=>zx2 hG.good hG.ev (v:=.bool b) (H':=σ.H) ?_) (Y (.bool b) ts _ ρ (.bool b) l (by simp only[VR]) kb);rw[B];simp only[zu0,hEq2,O,N,hb,Qbk]
  split at h;exact zxe (by simp only[yc2,hi,hu]) h;exact zxe (by simp only[yc2,hi,hu]) h;cases h;cases h;exact I A h;rename_i t B;split at h;rename_i i hz hi;split at h;rename_i hb;simp only[Qag]at hb;have k7:i.size=2:=Qaj hb.2
  have hm:zu0 P σ.H σ.ev o.op=some (.ap σ.H.lv σ.H.L.length 0 0 0,σ.H.push (.arr 0 t 2 [.agg [.nilp,.nils]] (some 1))):=by
   rw[B];simp only[zu0,hb.1,yg3,hz,hi,k7];rfl
  refine zlr X (M.wanted l) (λW a g hG=>zx2 hG.good hG.ev hm) (Y (.bp ts.nx 0) _ _ (ρ++[⟨.any,some σ.H.L.length,[],[]⟩]) _ ?_ ?_ h);refine l.new _ _ _ l.lv l.E (by simp[Heap.push]) (λi hi=>by simp only[Heap.push];rw[Qal hi]) (λi hi=>by injection hi with hi;omega) ?_;simp only[OR];exact⟨σ.H.L.length,.nilp,.nils,rfl,by simp[Heap.push],.inl rfl,by simp only[yqn,VR]⟩
  simp only[VR];exact⟨⟨.any,some σ.H.L.length,[],[]⟩,σ.H.L.length,by rw[<-l.nx];simp,rfl,by rw[l.lv]⟩;exact I A h;exact I A h;rename_i s d x B;split at h;rename_i xs fl U;split at h;rename_i e k4 k6;split at h;rename_i k5;have⟨y,hy,h⟩:=z3f h;have G:=l.ev U;simp only[VR]at G
  have C:hStr P s d (σ.ev x)=some (.str y):=by
   unfold hStr;rw[k4,k6];simp only[k5];have⟨G,_⟩:=G;generalize σ.ev x=u at G
   cases G with
   |nil=>simp only[yiu,Qbn]at hy;subst hy;rfl
   |sl _ _ ws full hl hh=>
    simp only[Dat.len];rw[yc1 xs ws hl hh,hy];rfl
  refine zlr X (M.wanted l) (λW a g hG =>?_) (Y (.str y) ts _ ρ (.str y) l (by simp only[VR]) h);have h5:=hG.ev x;unfold execOp;rw[B];exact ykj hG.good C h5;cases h;cases h;exact I A h
  ·rename_i t x B;split at h;exact A _ h
   ·rename_i τ es U;split at h
    ·rename_i kt vt ht;have G:=l.ev U;unfold VR at G;have⟨kc,G⟩:=G;refine zlr (v:=.ptr σ.H.lv σ.H.L.length 0) (H':=σ.H.push (.mit (es.map λp=>(.str p.1,yeh τ p.2)) [])) X (M.wanted l) (λW a g hG =>?_) (Y (.ptr ts.nx 0) _ _ (ρ++[⟨.any,some σ.H.L.length,[],[]⟩]) _ ?_ ?_ h)
     rotate_left
     refine l.new _ _ _ l.lv l.E (by simp[Heap.push]) (λi hi=>by simp only[Heap.push];rw[Qal hi]) (λi hi=>by injection hi with hi;omega) ?_;simp only[OR];refine⟨σ.H.L.length,es,[],rfl,kc,by simp[Heap.push],by simp,?_,λp hp=>by cases hp⟩;exact z05g es;simp only[VR];exact⟨⟨.any,some σ.H.L.length,[],[]⟩,σ.H.L.length,by rw[<-l.nx];simp,rfl,by rw[l.lv]⟩;have h5:=hG.ev x
     rw[G]at h5;unfold execOp;rw[B];exact yy5 hG.good ht h5
    cases h
   exact I A h
  rename_i x B;split at h;rename_i s U;split at h;rename_i τ last es C;have G:=l.ev U;simp only[VR]at G;have⟨sl,i,e1,e2,e3⟩:=G;have⟨sl',k1,k2⟩:=l.ob s _ C
  rw[e1]at k1;cases k1
  have kh:=k2;simp only[OR]at k2;have⟨i',fs,Z,q1,q2,q3,q4,q5,_⟩:=k2
  rw[e2]at q1;cases q1
  have ka:=(Qaa.1 q3).1;refine z05m X (M.wanted l) B e3 (l.get q3) (λq hq=>by simpa using q4 q hq) (λhr =>?_) λj p hj k8 =>?_
  have hn:es=[]:=by
   have:(List.filter (λq => !Z.contains q) (List.range fs.length))=[]:=List.filter_eq_nil_iff.2 λq hq=>by
    have:=hr q (by simpa using hq);simpa using this
   rw[this]at q5;simpa using q5
  exact Y (.tup [.bool false]) ts σ ρ _ l (by simp[VR,VRL]) (z06g h hn);rw[Qan,Qaf]at hj;obtain⟨p',he,rfl⟩:=hj;have⟨m,hm,hg⟩:=z04g q5 he k8;have h':=z061 h m p' hm;refine Y _ _ _ ρ _ ?_ ?_ h'
  have k9:σ.H.set F.lv i (yzm.mit (fs.map λp=>(.str p.1,yeh τ p.2)) (Z++[j]))={σ.H with L:=σ.H.L.set i (some (.mit (fs.map λp=>(.str p.1,yeh τ p.2)) (Z++[j])))}:=by
   unfold Heap.set;rw[Qbq l.lv.symm]
  rw[k9]
  exact l.upd C trivial e1 e2 (.mit τ (some (p'.1,p'.2)) (es.eraseIdx m)) (.mit (fs.map λp=>(.str p.1,yeh τ p.2)) (Z++[j])) (by
   simp only[OR];refine⟨i,fs,Z++[j],e2,q2,by simp[ka],λq hq =>?_,hg,λp hp=>⟨Z,j,rfl,by injection hp with hp;rw[he,<-hp]⟩⟩
   rcases List.mem_append.1 hq with hq|hq
   exact q4 q hq
   simp at hq;subst hq;exact(Qaa.1 he).1)
  simp only[VR,VRL];exact⟨_,rfl,_,_,rfl,rfl,_,_,rfl,rfl,_,_,rfl,VR.z09x q2 _,rfl⟩;cases h;cases h
  ·rename_i x B;split at h
   ·rename_i s U;split at h
    ·rename_i τ p es C;have G:=l.ev U;simp only[VR]at G;have⟨sl,i,e1,e2,e3⟩:=G;have⟨sl',k1,k2⟩:=l.ob s _ C
     rw[e1]at k1;cases k1
     simp only[OR]at k2;have⟨i',fs,Z,q1,q2,q3,q4,q5,q6⟩:=k2
     rw[e2]at q1;cases q1
     obtain⟨kd,j,rfl,hj⟩:=q6 p rfl;refine zlr (v:=.tup [.str p.1,(yeh τ p.2).v]) (H':=σ.H) X (M.wanted l) (λW a g hG =>?_) (Y _ ts _ ρ _ l ?_ h)
     rotate_left
     simp only[VR,VRL];exact⟨_,rfl,_,_,rfl,rfl,_,_,rfl,VR.z09x q2 _,rfl⟩;have h5:=hG.ev x;rw[e3]at h5;unfold execOp;rw[B];exact yxd hG.good (l.get q3) (by rw[Qan,hj];rfl) h5
    cases h
   cases h
  exact I A h
omit hD in
theorem y1z{R ops}{n:Nat}{o go skip}{r:R}{G:Prop}(k:TRr D F ρ ts σ)(h:ykp D ops.toList o ts go skip=some r)
  (p:∀a,a.o=ts.o->TRr D F ρ a σ->y2b ops a o->go a=some r->G) (A:∀a,a.o=ts.o->TRr D F ρ a σ->z0r ops σ o=some false->skip a=some r->G):G:=by
 unfold ykp at h;split at h;rename_i l;exact p ts rfl k (.inl l) h;rename_i j want l;have z:ops.toList[j]? = ops[j]? := by simp
 rw[z]at h;split at h;cases h;rename_i d u
 have tell:∀b:Bool,fnd ts.t d=some (.bool b)->TRr D F ρ {ts with t:=(d,.bool b)::ts.t} σ∧fnd ({ts with t:=(d,.bool b)::ts.t}:TS D.T).t d=some (.bool b)∧σ.t.getD d .any = .bool b:=λb m=>by
  have⟨v,x,w⟩:=k.tm d _ m;refine⟨k.tell x w,by simp[yzc,if_true],?_⟩
  grind[VR]
 simp[yfq]at h;split at h;rename_i b m
 have wf:∀q:Bool,q=b->(q==want)=false->z0r ops σ o=some false:=λq e B=>by
  grind[z0r]
 split at h;rename_i s;subst s;have⟨t1,t2,t3⟩:=tell true m;split at h;rename_i g;subst g;exact p _ (by rfl) t1 (.inr ⟨j,true,d,l,u,t2⟩) h;rename_i g;grind;rename_i i;have i:=by simpa using i
 subst i;have⟨t1,t2,t3⟩:=tell false m;split at h;rename_i g;grind;rename_i g;have g:=by simpa using g
 subst g;exact p _ (by rfl) t1 (.inr ⟨j,false,d,l,u,t2⟩) h;rename_i vs y;have:=k.tmp y;simp[VR]at this;have⟨C,x,w⟩:=this;exact A ts rfl k (by grind[z0r]) h;cases h
theorem yv7{R ops n o Q k y}{r:R}(m:ops[n]? = some o)(htbl:∀e∈tbl,e.Ok P)
  (p:∀z j σ' ρ' v,TRr D F ρ' j σ'->VR D ρ' F.lv z v->k z j=some r->zgn P ops (n+1) (σ'.put o.dst v) Q) (w:∀z j σ' ρ' v,TRr D F ρ' j σ'->VR D ρ' F.lv z v->y z j=some r->Q (.panic v) σ') {ts σ ρ}
  (d:TRr D F ρ ts σ) (l:y2b ops ts o) (h:z0ba P D tbl ops.toList o k y ts=some r):zgn P ops n σ Q:=by
 unfold z0ba at h;split at h;rename_i t x lo h4;split at h;rename_i cx h5 N u
 rcases yh3 d h (d.ev N) (d.ev u)with ⟨z,v,h1,Z,Y⟩|h
 refine yqk (H':=σ.H) m (l.wanted d) ?_ (p z ts _ ρ v d Z Y)
 grind[cpB,ox,pv]
 grind[zwj]
 cases h;have b:=zwj hD m htbl p w 9 d l;split at h;unfold tLit at h;split at h;rename_i t len I s;split at h;rename_i e qs O q;split at h;rename_i τ xs A;have⟨M,K⟩:=d.parts q;have⟨v,b1,b2⟩:=zkw hD M K A;simp only[VR]at b2;have⟨b2,b3,_⟩:=b2;obtain⟨ws,rfl⟩:=b3 (Qbp _)
 cases b2 with
 |sl _ _ _ _ U X=>
  have hlen:len≠0:=λe0=>by
   subst e0;unfold zj7 at A
   grind
  refine zlr (v:=.hs σ.H.lv σ.H.L.length 0 0 ws.length false) (H':=σ.H.push (.arr 0 e (D.len τ) ws (some ws.length))) m (l.wanted d) (λW a g B =>?_) (p (.own ts.nx) _ _ (ρ++[⟨.hs σ.H.lv σ.H.L.length 0 0 ws.length false,some σ.H.L.length,ws,[]⟩]) _ ?_ ?_ h);unfold execOp;rw[s];have⟨G,C⟩:=zol B.ev I;exact zy8 B.good b1 hlen O G C
  refine d.new _ _ _ d.lv d.E (by simp[Heap.push]) (λi hi=>by grind[Heap.push]) (λi hi=>by grind) ?_;simp only[OR];exact⟨U,X,0,some ws.length,by rw[d.lv],by simp[Heap.push]⟩;simp only[VR];exact⟨⟨.hs σ.H.lv σ.H.L.length 0 0 ws.length false,some σ.H.L.length,ws,[]⟩,by rw[<-d.nx];simp,rfl,rfl⟩
 exact b h;exact b h;exact b h;exact b h
theorem zky{R ops Q A y}{r:R}(htbl:∀e∈tbl,e.Ok P)
  (d:∀a σ' ρ',TRr D F ρ' a σ'->A a=some r->Q .normal σ') (b:∀z a σ' ρ' v,TRr D F ρ' a σ'->VR D ρ' F.lv z v->y z a=some r->Q (.panic v) σ') :
  ∀(l) (n) {ts σ ρ},(∀j,l[j]? = ops[n+j]?)->TRr D F ρ ts σ->y00 P D tbl ops.toList A y l ts=some r->zgn P ops n σ Q
 |[],n,ts,σ,ρ,m,s,h=>by
  exact z070 (by have:=m 0;grind) (d ts σ ρ s h)
 |o::l,n,ts,σ,ρ,m,s,h=>by
  have B:=by simpa using(m 0).symm
  have k:∀j,l[j]? = ops[n+1+j]? := λj=>by have:=m (j+1);grind
  simp[y00,pOp]at h;refine y1z (n:=n) s h (λx _ g p i =>?_) λx _ g p i =>?_
  refine yv7 hD B htbl (λz a σ' ρ' v E C u =>?_) b g p i;split at u;rename_i w q;exact zky htbl d b l (n+1) k (E.put q C) u;cases u;split at i;rename_i w q;exact z04f B p (zky htbl d b l (n+1) k (g.put q (by simp only[VR];exact⟨[],rfl,by simp[VRL]⟩)) i);cases i
theorem zd9{R ops E}{r:R}(htbl:∀e∈tbl,e.Ok P) :
  ∀(l) {ts σ},TRr D F ρ ts σ->zig P D tbl ops.toList E l ts=some r->∃g σ' cl d,zqn P ops l g σ=some (σ',[],cl)∧(∀c∈cl,c.ok P)∧TRr D F ρ d σ'∧E d=some r
 |[],ts,σ,N,h=>⟨[],σ,[],ts,rfl,by simp,N,h⟩
 |o::l,ts,σ,N,h=>by
  simp only[zig,pOp]at h;refine y1z (ops:=ops) (n:=0) N h (λj _ i L h1 =>?_) λj _ i L h1 =>?_
  have A:=L.wanted i
  have B:∀{op:Op},op=o.op->tP P D j op (λv=>match j.put D o.dst v with|some ts=>zig P D tbl ops.toList E l ts|none=>none) (λ_=>none)=some r->∃g σ' cl d,zqn P ops (o::l) g σ=some (σ',[],cl)∧(∀c∈cl,c.ok P)∧TRr D F ρ d σ'∧E d=some r:=λ{op} I hh=>by
   subst I
   rcases yhh hD i hh with ⟨x,v,W,U,G⟩|⟨s,M⟩
   cases k:j.put D o.dst x with
   |none=>grind
   |some w=>
    rw[k]at G;have⟨g,σ',cl,d,b1,b2,u,q⟩:=zd9 htbl l (i.put k U) G;exact⟨g,σ',cl,d,by simp[zqn,A,W];exact b1,b2,u,q⟩
   cases M
  split at h1;rename_i c Z;split at h1;rename_i x m;split at h1;rename_i f a b vs K X;have⟨args,t1,t2⟩:=y2t i m K X
  have p:zxj D f (a++vs++b) j (λv _=>match j.put D o.dst v with|some ts=>zig P D tbl ops.toList E l ts|none=>none) (λ_ _=>none) (λ_=>none) (tbl.filter (·.pure))=some r->∃g σ' cl d,zqn P ops (o::l) g σ=some (σ',[],cl)∧(∀c∈cl,c.ok P)∧TRr D F ρ d σ'∧E d=some r:=λh1=>by
   rcases zmc hD i t2 (λe I=>htbl e (List.mem_filter.1 I).1) h1 with ⟨⟨e,I,h3⟩,_⟩|⟨rv,Q,z,ρ',d,O,e3,y,_⟩|⟨s,M⟩
   grind
   split at y;rename_i w k;have⟨g,σ',cl,d,b1,b2,u,q⟩:=zd9 htbl l (i.put k (O ρ)) y;refine⟨rv::g,σ',⟨f,args,σ.H,rv,σ.H⟩::cl,d,?_,zs7 (Q σ.H) b2,u,q⟩;have C:pv P σ.H σ.ev (.call c)=none:=by simp[pv,zf9,m]
   simp[zqn,A,Z,C,t1,b1];cases y;cases M
  split at h1
  rcases zw1 hD i t2 htbl h1 with ⟨rv,z,Q,O,y⟩|h1
  split at y;rename_i w k;have⟨g,σ',cl,d,b1,b2,u,q⟩:=zd9 htbl l (i.put k O) y;refine⟨rv::g,σ',⟨f,args,σ.H,rv,σ.H⟩::cl,d,?_,zs7 Q b2,u,q⟩;have C:pv P σ.H σ.ev (.call c)=none:=by simp[pv,zf9,m]
  simp[zqn,A,Z,C,t1,b1];cases y;exact p h1;exact p h1;cases h1;exact B rfl h1;unfold tPC at h1;split at h1;rename_i t x lo h4;split at h1;rename_i cx h5 K Y
  rcases yh3 i h1 (i.ev K) (i.ev Y)with ⟨z,v,W,U,G⟩|h1
  cases k:j.put D o.dst z with
  |none=>grind
  |some w=>
   rw[k]at G;have⟨g,σ',cl,d,b1,b2,u,q⟩:=zd9 htbl l (i.put k U) G;refine⟨g,σ',cl,d,?_,b2,u,q⟩
   have h2:pv P σ.H σ.ev o.op=some v:=by
    grind[cpB,pv]
   simp_all[zqn]
  exact B rfl h1;cases h1;exact B rfl h1;split at h1;rename_i w k;have⟨g,σ',cl,d,b1,b2,u,q⟩:=zd9 htbl l (i.put k (v:=.tup []) (by simp only[VR];exact⟨[],rfl,by simp[VRL]⟩)) h1;exact⟨g,σ',cl,d,by simp[zqn,L];simpa using b1,b2,u,q⟩;cases h1
def Keyed(ρ:List Slot)(s i:Nat):Prop:=∃sl,ρ[s]? = some sl∧sl.has i
def KR(ρ:List Slot)(q:Rd)(x:Key):Prop:=Keyed ρ q.1 x.1∧x.2=q.2∧∀c,q.2=some c->∃sl,ρ[q.1]? = some sl∧sl.k=some x.1
omit hD in
theorem KR.up{ρ ρ' q x}(h:KR ρ q x)(a:∀(s:Nat) (sl:Slot),ρ[s]? = some sl->ρ'[s]? = some sl):KR ρ' q x :=
 ⟨h.1.imp λsl e=>⟨a _ _ e.1,e.2⟩,h.2.1,λc e=>(h.2.2 c e).imp λsl e=>⟨a _ _ e.1,e.2⟩⟩
omit hD in
theorem ztw{ts:TS D.T}{s}(h:z4a ts s=true):∃o,fnd ts.o s=some o∧o.live:=by
 unfold z4a at h;split at h;cases h;rename_i o a b;exact⟨o,b,by cases o <;> first|trivial|exact(a b).elim⟩;cases h
omit hD in
theorem zfj{ts s}{o:TO D.T}(h:fnd ts.o s=some o)(a:o.live):z4a ts s=true:=by
 unfold z4a;rw[h];cases o <;> first|rfl|exact a.elim
omit hD in
theorem zyx(d:TRr D F ρ ts σ){s i}(a:z4a ts s=true)(b:Keyed ρ s i):i<σ.H.L.length:=by
 have⟨o,k,j⟩:=ztw a;have⟨sl,h,g⟩:=b;exact d.lt k j h g
omit hD in
theorem y3i(n:TRr D F ρ ts σ){s a i}(l:z4a ts s=true)(b:z4a ts a=true)(m:Keyed ρ s i)(d:Keyed ρ a i):s=a:=by
 have⟨o,w,u⟩:=ztw l;have⟨sl,q,p⟩:=m;have⟨o',k,j⟩:=ztw b;have⟨sl',h,g⟩:=d;exact n.inj s a o o' sl sl' i w k u j q h p g
structure y3v(ρ:List Slot)(ts:TS D.T)(rds:Rds)(wrs:Wrs)(prev:List (Nat×Info)):Prop where
 q:∀p∈prev,p.2.eff=false->(∀x,¬p.2.K x)∨∃R,(p.1,R)∈rds∧∀l,R=some l->∀x,p.2.K x->∃q∈l,z4a ts q.1=true∧KR ρ q x
 e:∀p∈prev,p.2.eff=true->∃w,(p.1,w)∈wrs∧∀s,w=some s->∀x,p.2.W x->z4a ts s=true∧Keyed ρ s x.1
def y56(ρ:List Slot)(R:List Rd):Info:=⟨false,λx=>∃q∈R,KR ρ q x,λ_=>False,false⟩
def z0ao(W:Key->Prop):Info:=⟨true,λ_=>False,W,false⟩
def z0dz(W:Key->Prop):Info:=⟨true,λ_=>False,W,true⟩
omit hD in
theorem yyp{q s:Nat}(h:(!Nat.beq q s)=true):q≠s:=λe=>by simp_all
omit hD in
theorem ywx(G:TRr D F ρ ts σ){ops k i d prev}(y:y3v (D:=D) ρ ts i d prev){R}(l:rdOk ops.toList k R d=true)(b:R.all (λq=>z4a ts q.1)=true):GP .any ops prev k (y56 ρ R):=λp B C=>by
 refine⟨λh=>(by cases h.2),λ_ h=>(by cases h),λ_ E x ⟨s,g,A⟩ u =>?_⟩;have⟨w,z,j⟩:=y.e p B E;have h1:=Qat.1 l (p.1,w) z;rw[Bool.or_eq_true]at h1
 rcases h1 with h1|h1
 exact zoi h1 C
 cases w with
 |none=>grind
 |some m=>
  cases R with
  |nil=>cases g
  |cons a r=>
   have I:=yyp (Qat.1 h1 s g);have⟨o,n⟩:=j m rfl x u;exact I (y3i G (Qat.1 b s g) o A.1 n)
omit hD in
theorem yph{ops k d b prev}(o:y3v (D:=D) ρ ts d b prev){w W}(i:z08s ops.toList k w d=true)(j:yij ops.toList k b=true)
  (I:∀s,w=some s->∀(q:Nat) (x:Key),z4a ts q=true->Keyed ρ q x.1->q≠s->¬W x):GP .any ops prev k (z0ao W):=λp u y=>by
 refine⟨λ⟨h,_⟩ =>?_,λG _ x m E =>?_,λh=>(by cases h)⟩;have⟨z,g,_⟩:=o.e p u h;exact zoi (Qat.1 j (p.1,z) g) y
 rcases o.q p u G with h|⟨R,g,K⟩
 exact h x m;have h1:=Qat.1 i (p.1,R) g;rw[Bool.or_eq_true]at h1
 rcases h1 with h1|h1
 exact zoi h1 y
 cases R with
 |none=>cases w <;> cases h1
 |some l=>
  have⟨s,n,C,B⟩:=K l rfl x m
  cases l with
  |nil=>cases n
  |cons a r=>
   cases w with
   |none=>cases h1
   |some A=>exact I A rfl s.1 x C B.1 (yyp (Qat.1 h1 s n)) E
omit hD in
theorem y3v.quiet{ρ ts a k d b prev}(i:y3v (D:=D) ρ ts d b prev){R}(g:R.all (λq=>z4a ts q.1)=true)(n:a.o=ts.o) :
  y3v (D:=D) ρ a ((k,some R)::d) b ((k,y56 ρ R)::prev):=by
 have B:∀s,z4a a s=z4a ts s:=λs=>by unfold z4a;rw[n]
 refine⟨λp hj m =>?_,λp hj j =>?_⟩
 rcases Qbf.1 hj with rfl|hj
 exact .inr ⟨some R,Qak,λl y x ⟨s,A,C⟩=>by grind⟩
 rcases i.q p hj m with h|⟨R,u,E⟩
 exact .inl h
 grind
 rcases Qbf.1 hj with rfl|hj
 cases j;have⟨w,u,z⟩:=i.e p hj j
 grind
omit hD in
theorem y3v.eff{ρ ρ' ts i k n m prev}(B:y3v (D:=D) ρ ts n m prev){w W c}(K:c.eff=true∧c.W=W)
  (hold:∀g,w=some g->(∀s,z4a ts s=true->z4a i s=true)∧∀(s:Nat) (sl:Slot),ρ[s]? = some sl->ρ'[s]? = some sl) (C:∀s,w=some s->∀x,W x->z4a i s=true∧Keyed ρ' s x.1) :
  y3v (D:=D) ρ' i (yun w n) ((k,w)::yk3 w m) ((k,c)::prev):=by
 have⟨M,z⟩:=K;refine⟨λp hj G =>?_,λp hj I =>?_⟩
 rcases Qbf.1 hj with rfl|hj
 grind
 rcases B.q p hj G with h|⟨R,j,L⟩
 exact .inl h
 cases w with
 |some g=>exact .inr ⟨R,j,λl y x o=>by have⟨s,a,b,c⟩:=L l y x o;exact⟨s,a,(hold g rfl).1 _ b,c.up (hold g rfl).2⟩⟩
 |none=>
  by_cases d:R=some [];subst d;exact .inl λx o=>by grind
  refine .inr ⟨none,Qbb.2 ⟨(p.1,R),j,?_⟩,λl y=>by cases y⟩
  cases R with
  |none=>rfl
  |some l=>cases l with
   |nil=>exact(d rfl).elim
   |cons a r=>rfl
 rcases Qbf.1 hj with rfl|hj
 rw[z]
 grind
 have⟨A,j,E⟩:=B.e p hj I
 cases w with
 |some g=>exact⟨A,Qai _ j,λs u x o=>by have⟨a,b⟩:=E s u x o;exact⟨(hold g rfl).1 _ a,b.imp λsl e=>⟨(hold g rfl).2 _ _ e.1,e.2⟩⟩⟩
 |none=>exact⟨none,Qai _ (Qbb.2 ⟨(p.1,A),j,rfl⟩),λs u=>by cases u⟩
def Lvl(F:Fr)(H:Heap):Prop:=H.lv=F.lv
omit hD in
theorem z08p{ρ lv x v}(h:VR D ρ lv x v)(l:x.z00u=true):v.plain=true:=by
 cases x <;> simp[TV.z00u,Bool.false_eq_true]at l
 case sl t xs A=>simp[VR]at h;have⟨h,_⟩:=h;cases h <;> rfl
 case ap s t i x d=>
  simp only[VR]at h;have⟨sl,w,z,u,p,o,g⟩:=h;split at g;subst g;rfl;have⟨k,n,_,g⟩:=g;subst g;rfl
 case fn f a b=>simp[VR]at h;obtain⟨B,bs,rfl,_⟩:=h;rfl
 case iface t x=>simp[VR]at h;obtain⟨y,rfl,_⟩:=h;rfl
 case ref cs d=>simp[VR]at h;obtain⟨y,rfl,_⟩:=h;rfl
 case ptr s d=>simp[VR]at h;obtain⟨y,i,_,_,rfl⟩:=h;rfl
 case agg cs=>simp[VR]at h;obtain⟨y,rfl,_⟩:=h;rfl
 case tup cs=>simp[VR]at h;obtain⟨y,rfl,_⟩:=h;rfl
 case mc t es=>simp[VR]at h;obtain⟨_,rfl⟩:=h;rfl
 case dp s i d=>simp[VR]at h;obtain⟨sl,j,k,m,_,_,_,_,rfl⟩:=h;rfl
 case bsl q cs=>simp[VR]at h;obtain⟨vs,rfl,_⟩:=h;rfl
 all_goals (subst h;rfl)
omit hD in
theorem yv2(d:TRr D F ρ ts σ){x R}(h:plainO ts x=some R):(σ.ev x).plain=true∧R=[]:=by
 unfold plainO at h;split at h;rename_i v a;split at h
 rename_i b;injection h with h;exact⟨z08p (d.ev a) b,h.symm⟩
 cases h;cases h
omit hD in
theorem zvn(h:TRr D F ρ ts σ){s i R}(g:Keyed ρ s i)(a:(s,none)∈R){H}(d:Lvl F H)(b:y4a (y56 ρ R).K σ.H H):H.get F.lv i=σ.H.get F.lv i:=by
 unfold Heap.get;have:=congrArg Prod.fst (b (i,none) ⟨(s,none),a,g,rfl,λc e=>by cases e⟩);rw[d,h.lv,Qbq rfl,Qbq rfl,show H.L[i]? = σ.H.L[i]? from this]
omit hD in
theorem yp9(d:TRr D F ρ ts σ){x R}(h:ownO ts x=some R){H}(E:Lvl F H)(C:y4a (y56 ρ (whole R)).K σ.H H) :
  (σ.ev x).plain=true∨∃l i g A n full,σ.ev x = .hs l i g A n full∧H.get l i=σ.H.get l i:=by
 unfold ownO at h;split at h;rename_i s B;split at h;rename_i ty t xs w u;cases h;have o:=d.ev B;simp[VR]at o;have⟨sl,p,y,I⟩:=o;have⟨sl',m,j⟩:=d.ob s _ u;rw[p]at m;cases m;rw[y];simp only[OR]at j;have⟨G,N,a⟩:=j
 cases b:sl.k with
 |none=>
  rw[b]at a
  rcases a with ⟨e,_⟩|⟨⟨e,_⟩,_⟩ <;> (left;rw[e];rfl)
 |some i=>
  rw[b]at a;have⟨g,M,z,L⟩:=a;right;exact⟨_,_,_,_,_,_,z,zvn d ⟨sl,p,.inl b⟩ (by simp[whole]) E C⟩
 rename_i ty q xs w u;cases h;have o:=d.ev B;simp[VR]at o;have⟨sl,p,y,I⟩:=o;have⟨sl',m,j⟩:=d.ob s _ u;rw[p]at m;cases m;rw[y];simp only[OR]at j;have⟨G,a⟩:=j
 cases b:sl.k with
 |none=>
  rw[b]at a
  obtain⟨_,e|e,_⟩:=a <;> (left;rw[e];rfl)
 |some i=>
  rw[b]at a;have⟨g,M,fps,z,L,_⟩:=a;right;exact⟨_,_,_,_,_,_,z,zvn d ⟨sl,p,.inl b⟩ (by simp[whole]) E C⟩
 cases h;exact .inl (yv2 d h).1
omit hD in
theorem z095(g:TRr D F ρ ts σ){op R}(h:rdK P ts op=some R){H}(A:Lvl F H)(C:y4a (y56 ρ R).K σ.H H):pv P H σ.ev op=pv P σ.H σ.ev op:=by
 cases op <;> simp only[rdK]at h <;> first|(cases h;done)|skip
 case load t a=>
  split at h;rename_i s d u;have p:=g.ev u;simp only[VR]at p;have⟨sl,i,z,B,N⟩:=p;simp[pv,N];split at h;rename_i o;cases h;have o:=Qaj o;have A:=A;have:=congrArg Prod.snd (C (i,some d) ⟨(s,some d),by simp,⟨sl,z,.inl B⟩,rfl,λc _=>⟨sl,z,B⟩⟩);rw[<-g.lv];exact ydy o (A.trans g.lv.symm) this;cases h;exact yha (zvn g ⟨sl,z,.inl B⟩ (by simp) A C)
  rename_i s τ n y d u;cases h;have p:=g.ev u;simp only[VR]at p;have⟨sl,w,z,B,N,h4,I⟩:=p
  cases E:sl.k with
  |none=>grind[pv,y2i]
  |some j=>
   rw[E]at I;have⟨G,m,M,e2⟩:=I;simp[pv,e2];exact y52 (zvn g ⟨sl,z,.inl E⟩ (by simp) A C)
  rename_i s n d u;split at h;rename_i ty q xs hh Z;cases h;have p:=g.ev u;simp only[VR]at p;have⟨sl,j,G,m,z,B,_,_,I⟩:=p;have⟨sl',U,Q⟩:=g.ob s _ Z;rw[z]at U;cases U;simp only[OR]at Q;have O:=Q.2
  cases E:sl.k with
  |none=>
   grind
  |some j'=>
   rw[E]at O;have⟨X,cp,fps,M,_⟩:=O;rw[B]at M;cases M;simp[pv,I];exact y52 (zvn g ⟨sl,z,.inl E⟩ (by simp) A C)
  cases h;rename_i cs d u;have p:=g.ev u
  grind[VR,pv,y2i]
  cases h
 case indexAddr t x i=>
  simp[pv];obtain⟨R',L,rfl⟩:=Qaf.1 h
  grind[yp9,yb3,y6i]
 case slice t x lo hi mx=>simp[pv];obtain⟨R',L,rfl⟩:=Qaf.1 h;exact yrv (yv2 g L).1
 case call c=>
  simp[pv,zf9];split at h;rename_i x hc u;simp[hc,u];split;rename_i x' t Y ht;cases Y;obtain⟨R',L,rfl⟩:=Qaf.1 h
  rcases yp9 g L A C with h|⟨l,j,G,d,n,full,h,W⟩
  exact z00p h;rw[h];exact ysq W;rfl
  grind
  grind
  cases h
 case makeFunc fn a b=>cases fn <;> rfl
 all_goals rfl
theorem z00q{R}(d:TRr D F ρ ts σ){t s b x y l k N}{r:R}(h:yhv P D ts t (.ptr s b) x k N=some r)(K:VR D ρ F.lv (.ptr s b) y)(G:VR D ρ F.lv x l) :
  ∃i cs m H',Keyed ρ s i∧fnd ts.o s=some (.cells cs)∧zgl P σ.H t y l=some (.any,H')∧(∀j,j≠i->H'.L[j]? = σ.H.L[j]?)∧H'.lv=F.lv∧TRr D F ρ (ts.set D s (.cells m)) {σ with H:=H'}∧k .any (ts.set D s (.cells m))=some r:=by
 unfold yhv at h;split at h;rename_i I;simp[Qbg]at I;have⟨⟨M,Q⟩,O⟩:=I;have a:=G.cells M
 have g:(l.yzo&&(P.info? t).isSome&&l.cells.length==P.cellsOf t)=true:=by
  simp[Qbg];exact⟨⟨G.yzo M,Q⟩,by rw[<-a.length];exact O⟩
 simp only[VR]at K;obtain⟨sl,i,u,p,rfl⟩:=K;simp at h;split at h;rename_i cs q;split at h;rename_i n;have⟨sl',E,C⟩:=d.ob s _ q;rw[u]at E;cases E;simp only[OR]at C;have⟨U,vs,B,A,z⟩:=C;rw[p]at B;cases B;have w:=(Qaa.1 A).1;refine⟨i,cs,_,σ.H.set F.lv i (.cells (z0m vs b l.cells)),⟨sl,u,.inl p⟩,q,?_,λj X =>?_,?_,?_,h⟩;unfold zgl;rw[Qbq g]
 simp only[d.get A];rw[Qbq (by rw[<-a.length,<-z.length];exact n)];rw[d.yaz];grind;rw[d.yaz];exact d.lv;rw[d.yaz];exact d.upd q trivial u p _ _ (by simp only[OR];exact⟨i,_,p,by simp[w],z.z0m a b⟩);cases h;cases h;cases h
omit hD in
theorem ypa{ts a:TS D.T}{b v}(h:ts.put D b v=some a):a.o=ts.o:=by
 unfold TS.put at h;split at h
 grind
 grind
omit hD in
theorem ygi(a:TRr D F ρ ts σ){o s}(h:z4a ts s=true):z4a (ts.new D o) s=true:=by
 have⟨o',b,g⟩:=ztw h;have⟨sl,d,_⟩:=a.ob s o' b;have i:=(Qaa.1 d).1;refine zfj (o:=o') ?_ g;simp[TS.new,yzc];rw[Qbr (by rw[<-a.nx];omega)];exact b
def KpQ(Q:z27->St->Prop)(v:V)(σ:St):Prop:=∀a,a.length=σ.t.length->Q (.panic v) {σ with t:=a}
def z0dv(M:za9 D.T)(a:List (Nat×Nat))(ρ:List Slot)(σ:St)(x:Key):Prop :=
 ¬((x.1<σ.H.L.length∧∀k s sl,(k,Src.slot s)∈M->ρ[s]? = some sl->¬sl.has x.1)∨∃z s sl,z∈a∧fnd M z.1=some (.slot s)∧x.2=some z.2∧ρ[s]? = some sl∧sl.k=some x.1)
omit hD in
theorem z01h(H:TRr D F ρ ts σ){ops k m j prev}(U:y3v (D:=D) ρ ts m j prev){M:za9 D.T}{L}(hM:∀k s,(k,Src.slot s)∈M->fnd M k=some (.slot s))(E:z0b4 ops.toList k m L M=true)(G:yij ops.toList k j=true)(g:∀k s,(k,Src.slot s)∈M->∃o',fnd ts.o s=some o'∧o'.live) :
  GP .any ops prev k (z0dz (z0dv M L ρ σ)):=λp X Y=>by
 refine⟨λ⟨h,_⟩ =>?_,λhq _ x O Q =>?_,λh=>(by cases h)⟩;have⟨w',A,_⟩:=U.e p X h;exact zoi (Qat.1 G (p.1,w') A) Y
 rcases U.q p X hq with h|⟨R,A,K⟩
 exact h x O;have h1:=Qat.1 E (p.1,R) A;rw[Bool.or_eq_true]at h1
 rcases h1 with h1|h1
 exact zoi h1 Y
 cases R with
 |none=>cases h1
 |some l=>
  have⟨s,hs,N,w⟩:=K l rfl x O;by_cases u:∃i d sl,(i,Src.slot d)∈M∧ρ[d]? = some sl∧sl.has x.1;have⟨i,d,sl,n,C,hk⟩:=u;have h2:=Qat.1 (Qat.1 h1 s hs) _ n;have⟨o',e1,e2⟩:=g i d n;have I:=y3i H N (zfj e1 e2) w.1 ⟨sl,C,hk⟩;rw[Bool.or_eq_true]at h2
  rcases h2 with h2|h2
  exact yyp h2 I;unfold z0ef at h2;split at h2;rename_i c Z;have⟨z,z1,y⟩:=List.any_eq_true.1 h2;rw[Qag]at y;have z3:=Qaj y.1;have W:=Qaj y.2;have⟨B,y1,y2⟩:=w.2.2 c Z;exact Q (.inr ⟨z,d,B,z1,by grind,w.2.1.trans (Z.trans (by rw[W])),by grind,y2⟩);cases h2;exact Q (.inl ⟨zyx H N w.1,λi d sl a b c=>u ⟨i,d,sl,a,b,c⟩⟩)
omit hD in
theorem ywa{R t u s x vs w k}{r:R}(h:z0ar P D t u s x k=some r)(y:VR D ρ lv s vs)(j:VR D ρ lv x w) :
  ∃z v,y1j P t u vs w=some v∧(∀ρ' l,VR D ρ' l z v)∧k z=some r:=by
 unfold z0ar at h;split at h
 case h_2=>cases h
 rename_i b xs K;split at h
 case h_2=>cases h
 have p:1<=K:=by
  grind[fl12]
 split at h
 case h_2=>cases h
 rename_i e X O N;split at h
 case h_2=>cases h
 rename_i i τ hi Z;split at h
 case h_2=>cases h
 rename_i z M;split at h
 case h_2=>cases h
 rename_i I;split at h
 case h_2=>cases h
 rename_i Y L E a;have⟨zs,C,h⟩:=z3f h;obtain⟨d,rfl⟩:=y80 C;obtain⟨rfl,rfl⟩:=zad E;simp only[Qag,Qar]at I;have⟨⟨⟨⟨c1,c2⟩,c3⟩,c4⟩,B⟩:=I;have B:=Qaj B
 have o:∃g,zqe ygs (D.len b) w=some g∧DRL D b L g:=by
  unfold z0eh at a;split at a;cases a;simp[VR]at j;subst j;exact⟨[],rfl,DRL.nil _⟩;rename_i t2 ws K;obtain⟨rfl,rfl⟩:=zad a;simp[VR]at j;have⟨j,_⟩:=j
  cases j with
  |nil=>exact⟨[],rfl,DRL.nil _⟩
  |sl _ _ ws full q A=>exact⟨ws,by simp[zqe,zeo],q,A⟩
  cases a
 have⟨g,G,m⟩:=o;have⟨y,Q,_⟩:=y;obtain⟨ws,rfl⟩:=Q p
 cases y with
 |sl _ _ _ _ q A=>
  have n:=DRL.append (D:=D) ⟨q,A⟩ m;refine⟨_,.sl (D.len b) (ws++g) false,?_,λρ' l =>?_,h⟩;unfold y1j;simp[O,N,hi,M];rw[<-B,G];simp only
  have U:(y0t X&&decide (0<D.len b)&&decide (i.bytes<=524288)&&z.cells.size==D.len b&&Nat.beq (D.len b) (D.len b)&&Nat.ble (ws.length+g.length) zi7)=true:=by
   have W:Nat.beq (D.len b) (D.len b)=true:=Nat.beq_refl _;have H:Nat.ble (ws.length+g.length) zi7=true:=by rw[Nat.ble_eq,q,m.1];exact d
   simp_all
  rw[U];exact⟨.sl _ _ _ _ n.1 n.2,λh=>by omega,λh=>by cases h⟩
omit hD in
theorem z05o{T}{ts:TS T}{op s}(h:wrK ts op=some s):yq8 ts op=some s:=by unfold yq8;rw[h]
omit hD in
theorem z07n(g:TRr D F ρ ts σ){op s j}(k:wrK ts op=none)(h:yq8 ts op=some s)(d:Keyed ρ s j):z4a ts s=true:=by
 unfold yq8 at h;rw[k]at h
 cases op <;> dsimp only at h <;> first|(cases h;done)|skip
 case store t a x=>
  grind
 case call c=>
  split at h;split at h;split at h;rename_i b;cases h;exact zfj b trivial;rename_i b;cases h;exact zfj b trivial;cases h;cases h;have⟨sl,i,_⟩:=d;have:=(Qaa.1 i).1;rw[g.nx]at this;omega;cases h;cases h
omit hD in
theorem yhd{H H' e size s v b}(h:z3o H e size s b=some (v,H')){j}(m:j≠H.L.length)(d:∀l i a n,s = .hs l i a 0 n false->l=H.lv∧i≠j):H'.L[j]? = H.L[j]? := by
 have push:∀o,(H.push o).L[j]? = H.L[j]? := λo=>by
  grind[Heap.push]
 unfold z3o at h;split at h
 grind
 grind
 rename_i l g a n;have⟨k,hi⟩:=d _ _ _ _ rfl;split at h;split at h;injection h with h;injection h with _ h;rw[<-h];unfold Heap.set
 grind
 cases h;cases h;cases h
omit hD in
theorem z05v(o:TRr D F ρ ts σ){op s v H'}(h0:wrK ts op=none)(h:yq8 ts op=some s)(b:ox P σ.H σ.ev op=some (v,H')){j}(Y:¬(Keyed ρ s j∨j=σ.H.L.length)):H'.L[j]? = σ.H.L[j]? := by
 unfold yq8 at h;rw[h0]at h;dsimp only at h
 cases op <;> dsimp only at h <;> first|(cases h;done)|skip
 case store t a x=>
  split at h;rename_i s' τ n y h6 ha;split at h;cases h;have g:=o.ev ha;simp only[VR]at g;have⟨sl,w,I,Z,h3,h4,G⟩:=g;simp[ox]at b;unfold zgl at b;split at b
  cases z:sl.k with
  |none=>grind
  |some i=>
   rw[z]at G;have⟨d,m,_,G⟩:=G;rw[G]at b;dsimp only at b;have h7:i≠j:=λe=>Y (.inl ⟨sl,I,.inl (by rw[z,e])⟩)
   split at b;split at b;split at b;split at b;injection b with b;injection b with _ b;rw[<-b];unfold Heap.set;rw[Qbq o.lv.symm]
   grind
   cases b;cases b;cases b;cases b
  cases b;cases h;cases h
 case call c=>
  split at h;rename_i X xx E u
  have U:∀{vs:V},σ.ev X=vs->(∀l i d n,vs = .hs l i d 0 n false->l=σ.H.lv∧i≠j)->H'.L[j]? = σ.H.L[j]? := λ{vs} e hs=>by
   simp[ox,E,u]at b;split at b;rename_i s0 x0 t0 u0 he _;cases he;unfold hAppend at b;split at b
   grind[yhd]
   cases b;cases b
  have own:∀{q:Nat},ts.ev X=some (.own q)->(∃sl,ρ[q]? = some sl∧∀l i d n,sl.v = .hs l i d 0 n false->l=σ.H.lv∧sl.k=some i)->s=q->H'.L[j]? = σ.H.L[j]? := λ{q} g ⟨sl,A,p⟩ e=>by
   subst e;have M:=o.ev g;simp[VR]at M;have⟨sl',I,Z,_⟩:=M;rw[A]at I;cases I;exact U Z λl i d n e=>⟨(p l i d n e).1,λK=>Y (.inl ⟨sl,A,.inl (by grind)⟩)⟩
  split at h;rename_i q g;split at h;rename_i N;injection h with h;have⟨sl,A,p⟩:=o.ob _ _ N;simp only[OR]at p;refine own g ⟨sl,A,λl i d n e =>?_⟩ h.symm;have B:=p.2.2
  cases z:sl.k with
  |none=>grind
  |some W=>rw[z]at B;have⟨C,cp,K,_⟩:=B;rw[K]at e;injection e with Q O;exact⟨by rw[o.lv,Q],by rw[O]⟩
  rename_i N;injection h with h;have⟨sl,A,p⟩:=o.ob _ _ N;simp only[OR]at p;refine own g ⟨sl,A,λl i d n e =>?_⟩ h.symm;have B:=p.2
  cases z:sl.k with
  |none=>grind
  |some W=>rw[z]at B;have⟨C,cp,fps,K,_⟩:=B;rw[K]at e;injection e with Q O;exact⟨by rw[o.lv,Q],by rw[O]⟩
  cases h;rename_i g;have M:=o.ev g
  grind[VR]
  cases h;cases h
omit hD in
theorem y3v.call{ρ ρ' ts g k m j prev}(o:y3v (D:=D) ρ ts m j prev){c}(G:c.eff=true)(n:∀(s:Nat) (sl:Slot),ρ[s]? = some sl->ρ'[s]? = some sl) :
  y3v (D:=D) ρ' g (z0eb g m) ((k,none)::yk3 none j) ((k,c)::prev):=by
 refine⟨λp hj z =>?_,λp hj A =>?_⟩
 rcases Qbf.1 hj with rfl|hj
 grind
 rcases o.q p hj z with h|⟨R,i,B⟩
 exact .inl h
 cases R with
 |none=>exact .inr ⟨none,Qbb.2 ⟨(p.1,none),i,rfl⟩,λl d=>by cases d⟩
 |some l=>
  cases d:l.all (λq=>z4a g q.1)with
  |true=>
   refine .inr ⟨some l,Qbb.2 ⟨(p.1,some l),i,by dsimp only;rw[d]⟩,λC e x w =>?_⟩;cases e;have⟨q,a,_,b⟩:=B l rfl x w
   exact⟨q,a,Qat.1 d q a,b.up n⟩
  |false=>exact .inr ⟨none,Qbb.2 ⟨(p.1,some l),i,by dsimp only;rw[d]⟩,λl d=>by cases d⟩
 rcases Qbf.1 hj with rfl|hj
 grind
 have⟨u,i,E⟩:=o.e p hj A;exact⟨none,Qai _ (Qbb.2 ⟨(p.1,u),i,rfl⟩),λs y=>by cases y⟩
theorem zt8{R ops Q kn kp}{r:R}(htbl:∀e∈tbl,e.Ok P)(ke:∀I σ' ρ',TRr D F ρ' I σ'->kn I=some r->Q .normal σ')
  (kd:∀z I σ' ρ' v,TRr D F ρ' I σ'->VR D ρ' F.lv z v->kp z I=some r->Q (.panic v) σ') :
  ∀(l) (h5) (Z) (prev) {ts σ ρ},TRr D F ρ ts σ->y3v (D:=D) ρ ts h5 Z prev->zg0 P D tbl ops.toList kn kp l h5 Z ts=some r ->
   ztf P ops .any (Lvl F) (KpQ Q) (Q .normal) l prev σ
 |[],h5,Z,prev,ts,σ,ρ,hR,hp,h=>ke ts σ ρ hR h
 |k::l,h5,Z,prev,ts,σ,ρ,hR,hp,h=>by
  simp only[zg0]at h;split at h;cases h;rename_i o ks;have ho:=by simpa using ks
  have one:∀{c:Info}{v:V}{H':Heap}{C:TS D.T}{ρ2:List Slot}{h8:Rds}{h7:Wrs},c.call=false->MV P ops (Lvl F) c σ o v H'->GP .any ops prev k c->TRr D F ρ2 C (z9n σ o v H')->y3v (D:=D) ρ2 C h8 h7 ((k,c)::prev)->zg0 P D tbl ops.toList kn kp l h8 h7 C=some r ->
    ztf P ops .any (Lvl F) (KpQ Q) (Q .normal) (k::l) prev σ:=λ{c v H' C ρ2 h8 h7} kv hm hc kx kr h2=>
   ⟨o,c,ho,hc,.inl ⟨v,H',kv,hm,zt8 htbl ke kd l h8 h7 _ kx kr h2⟩⟩
  have kf:GP .any ops prev k (y56 ρ []):=λp hj hf=>⟨λh=>(by cases h.2),λ_ h=>(by cases h),λ_ _ x ⟨s,N,_⟩=>(by cases N)⟩
  have mH:∀{v:V}{C:TS D.T}{ρ2:List Slot},TRr D F ρ2 C (σ.put o.dst v)->TRr D F ρ2 C (z9n σ o v σ.H):=λ{v C ρ2} h=>h
  simp only[pOp]at h;refine y1z (n:=k) hR h (λB kb y hw A =>?_) λB kb y hw A =>?_
  ·have U:y3v (D:=D) ρ B h5 Z prev:=by
    have hl:∀s,z4a B s=z4a ts s:=λs=>by unfold z4a;rw[kb]
    exact⟨λp hj hq=>(hp.q p hj hq).imp_right λ⟨R,a,b⟩=>⟨R,a,λl e x K=>by grind⟩,λp hj he=>by have⟨w,a,b⟩:=hp.e p hj he;exact⟨w,a,λs e x K=>by grind⟩⟩
   have hk:=hw.wanted y;have hv:=y.lv;split at A
   ·rename_i hd;split at A
    ·
     split at A
     case h_2=>cases A
     rename_i c hc;split at A
     case h_2=>cases A
     rename_i s x t u X h6 k5;split at A
     case h_2=>cases A
     rename_i sv xv N K;have⟨z,v,a1,a2,a3⟩:=ywa A (y.ev N) (y.ev K);split at a3;rename_i C m;exact one (c:=y56 ρ []) (v:=v) (H':=σ.H) rfl (.inr ⟨hk,hv,.inl ⟨rfl,rfl,λki k1 Y=>.inr (.inr (.inr (.inr ⟨c,s,x,t,u,hc,X,h6,k5,a1⟩)))⟩⟩) kf (mH (y.put m (a2 _ _))) (U.quiet (R:=[]) rfl (ypa m)) a3;cases a3
    split at A;rename_i hc;rw[Qag]at hc;have⟨hy,ht⟩:=hc
    have k7:∀{W:Nat->Prop}{v:V}{H':Heap}{z:TV D.T}{I C:TS D.T}{ρ2:List Slot},ox P σ.H σ.ev o.op=some (v,H')->(∀i,¬W i->H'.L[i]? = σ.H.L[i]?)->TRr D F ρ2 I {σ with H:=H'}->VR D ρ2 F.lv z v ->
      (∀s0,wrK B o.op=some s0->(∀s,z4a B s=true->z4a I s=true)∧∀(s:Nat) (sl:Slot),ρ[s]? = some sl->ρ2[s]? = some sl)->(∀s,wrK B o.op=some s->∀x,W x->z4a I s=true∧Keyed ρ2 s x) ->
      (∀s,yq8 B o.op=some s->∀q x,z4a B q=true->Keyed ρ q x->q≠s->¬W x)->I.put D o.dst z=some C->zg0 P D tbl ops.toList kn kp l (yun (wrK B o.op) h5) ((k,wrK B o.op)::yk3 (wrK B o.op) Z) C=some r ->
      ztf P ops .any (Lvl F) (KpQ Q) (Q .normal) (k::l) prev σ :=
     λ{W v H' z I C ρ2} g1 g2 g3 g4 g5 g6 g7 g8 g9=>by
      have hH:=g3.lv;have ka:=ypa g8;have k6:∀s,z4a C s=z4a I s:=λs=>by unfold z4a;rw[ka]
      exact one (c:=z0ao λx=>W x.1) rfl (.inr ⟨hk,hv,.inr ⟨rfl,trivial,.inl ⟨hd,g1⟩,hH,λx K=>z00y (g2 x.1 K)⟩⟩) (yph U hy ht λs e q x=>g7 s e q x.1) (g3.put g8 g4) (U.eff ⟨rfl,rfl⟩ (λs0 e=>⟨λs a=>by grind,(g5 s0 e).2⟩) λs e x K=>by rw[k6];exact g6 s e x.1 K) g9
    have push:∀{cs:List (TV D.T)}{vs:List V}{C:TS D.T},wrK B o.op=some B.nx->VRL D ρ F.lv cs vs->ox P σ.H σ.ev o.op=some (.ptr σ.H.lv σ.H.L.length 0,σ.H.push (.cells vs))->(B.new D (.cells cs)).put D o.dst (.ptr B.nx 0)=some C ->
      zg0 P D tbl ops.toList kn kp l (yun (wrK B o.op) h5) ((k,wrK B o.op)::yk3 (wrK B o.op) Z) C=some r ->
      ztf P ops .any (Lvl F) (KpQ Q) (Q .normal) (k::l) prev σ:=λ{cs vs C} g0 g1 g2 g3 g4=>by
     have⟨h3,h4⟩:=y.yho hD g1;refine k7 (W:=λi=>i=σ.H.L.length) g2 (λi hi =>?_) h3 h4 (λs0 _=>⟨λs a=>ygi y a,λs sl h=>lookup_append h⟩) (λs N x K =>?_) (λs N q x a b c e =>?_) g3 g4
     grind[Heap.push]
     rw[g0]at N;cases N;refine⟨zfj (o:=.cells cs) (by simp[TS.new,yzc,if_true]) trivial,⟨.any,some σ.H.L.length,[],[]⟩,by rw[<-y.nx];simp,.inl (by rw[K])⟩;have:=zyx y a b;omega
    have other:wrK B o.op=none->tOp P D B o.op (λv I=>match I.put D o.dst v with|some C=>zg0 P D tbl ops.toList kn kp l (yun (wrK B o.op) h5) ((k,wrK B o.op)::yk3 (wrK B o.op) Z) C|none=>none) (λ_=>none)=some r ->
      ztf P ops .any (Lvl F) (KpQ Q) (Q .normal) (k::l) prev σ:=λg0 hh=>by
     rcases yp3 hD y hh with ⟨z,I,v,H',ρ',a1,a2,a3,a4⟩|⟨s,N⟩
     split at a4;rename_i C m;refine k7 (W:=λj=>∀s,yq8 B o.op=some s->Keyed ρ s j∨j=σ.H.L.length) a1 (λi hi =>?_) a3 a2 (λs0 e=>by rw[g0]at e;cases e) (λs0 e=>by rw[g0]at e;cases e) (λs0 e q x b1 b2 b3 b4 =>?_) m a4;simp[Classical.not_forall]at hi
     grind[z05v]
     have aa:=zyx y b1 b2
     rcases b4 s0 e with h|h
     exact b3 (y3i y b1 (z07n y g0 e h) b2 h);omega;cases a4;cases N
    cases G:o.op with
    |alloc t=>
     rw[G]at A;simp[tOp]at A;split at A;rename_i z hz;split at A;rename_i N;have⟨v,b1,b2⟩:=zn1 (ρ:=ρ) (lv:=F.lv) hz;split at A;rename_i C m;rw[<-G]at A;exact push (by rw[G];rfl) (b2.cells N) (by rw[G];simp only[ox,yhe,b1];rw[Qbq (b2.yzo N)]) m A;cases A;cases A
     cases A
    |box t x=>
     rw[G]at A;simp[tOp]at A;split at A;rename_i v K;split at A;rename_i N;have b2:=y.ev K;split at A;rename_i C m;rw[<-G]at A;exact push (by rw[G];rfl) (b2.cells N) (by rw[G];simp only[ox,hBox];rw[Qbq (b2.yzo N)]) m A;cases A;cases A
     cases A
    |store t a x=>
     by_cases O:wrK B o.op=none;exact other O A;rw[G]at A;simp[tOp]at A;split at A;rename_i av xv ha K;rw[G]at O;simp[wrK,ha]at O;split at O;rename_i s a7 ku;cases ku;have kg:wrK B o.op=some s:=by rw[G];simp only[wrK,ha]
     have⟨i,cs,kh,H',b1,b2,b3,b4,b5,b6,b7⟩:=z00q hD y A (y.ev ha) (y.ev K);split at b7;rename_i C m;rw[<-G]at b7
     have kj:∀q,z4a B q=true->z4a (B.set D s (.cells kh)) q=true:=λq hq=>by
      have⟨o',c1,c2⟩:=ztw hq;by_cases e:s=q;exact zfj (o:=.cells kh) (by simp only[TS.set,yzc,Qbq e]) trivial;exact zfj (o:=o') (by simp only[TS.set,yzc,Qbr e];exact c1) c2
     have kz:z4a B s=true:=zfj b2 trivial;refine k7 (W:=λj=>j=i) (by rw[G];simp only[ox];exact b3) (λj hj=>b4 j hj) b6 (by simp only[VR]) (λs0 _=>⟨kj,λ_ _ h=>h⟩) (λs0 N x K =>?_) (λs0 N q x a b c e =>?_) m b7
     grind
     grind[z05o,y3i]
     cases b7
     grind
     cases A
    |call c=>
     by_cases O:wrK B o.op=none;exact other O A;have ab:=A;rw[G]at A;simp only[tOp]at A;rw[G]at O;simp only[wrK]at O;split at O;rename_i sx xx X h6;split at A;rename_i s x t u a6 hg k5;rw[h6]at hg;injection hg with e1 e2;subst e1;have e3:=e2;injection e3 with e3 _;subst e3;split at A;rename_i N K;exact(O (by rw[K];cases B.ev sx <;> rfl)).elim
     rename_i sv xv a9 N K;have kw:=z05j O;have kt:∀q,sv ≠ .own q:=λq e=>kw.2 q (by rw[N,e])
     have kg:wrK B o.op=some B.nx:=by
      grind[wrK]
     have⟨z,I,v,H',ρ',a1,a2,a3,a4,a5⟩:=y57 y A (y.ev N) (y.ev K);obtain⟨sl',o',rfl,rfl,q1,q2,q3⟩:=a5 kt;split at a4;rename_i C m;refine k7 (W:=λi=>sl'.k=some i) (by rw[G];simp only[ox,X,h6,e2,k5];exact a1) (λi hi=>q3 i hi) a3 a2 (λs0 _=>⟨λs a=>ygi y a,λs sl h=>lookup_append h⟩) (λs k9 x K =>?_) (λs k9 q x a b c e =>?_) m (by rw[G];exact a4)
     rw[kg]at k9;cases k9
     exact⟨zfj (o:=o') (by simp only[TS.new,yzc,if_true]) q1,sl',by rw[<-y.nx];simp,.inl K⟩
     grind[zyx]
     cases a4;cases A
     grind
     exfalso;simp[tP,tP1,X,FR.of]at A
     exact(O rfl).elim
    |_=>rw[G]at hd;cases hd
    cases A
   ·rename_i hd;split at A
    ·
     split at A
     case h_2=>cases A
     rename_i hc;rw[Qag]at hc;have⟨hy,ht⟩:=hc;unfold tLit at A;split at A
     case h_2=>cases A
     rename_i t len ps G;split at A
     case h_2=>cases A
     rename_i e qs hu kq;split at A
     case h_2=>cases A
     rename_i τ xs hb;have⟨p1,p2⟩:=y.parts kq;have⟨v,b1,b2⟩:=zkw hD p1 p2 hb;simp only[VR]at b2;have⟨b2,b3,_⟩:=b2;obtain⟨ws,rfl⟩:=b3 (Qbp _)
     cases b2 with
     |sl _ _ _ _ hl hh=>
      have hlen:len≠0:=λe0=>by
       subst e0;unfold zj7 at hb
       grind
      have hn:=y.new (.acc e τ xs true) ⟨.hs σ.H.lv σ.H.L.length 0 0 ws.length false,some σ.H.L.length,ws,[]⟩ (σ.H.push (.arr 0 e (D.len τ) ws (some ws.length))) y.lv y.E (by simp[Heap.push]) (λi hi=>by grind[Heap.push]) (λi hi=>by grind) (by
       simp only[OR]
       exact⟨hl,hh,0,some ws.length,by rw[y.lv],by simp[Heap.push]⟩)
      dsimp only at A;split at A;rename_i C m;have m:=m;have ka:=ypa m;have k6:∀s,z4a C s=z4a (B.new D (.acc e τ xs true)) s:=λs=>by unfold z4a;rw[ka]
      refine one (c:=z0ao λx=>x.1=σ.H.L.length) (v:=.hs σ.H.lv σ.H.L.length 0 0 ws.length false) (H':=σ.H.push (.arr 0 e (D.len τ) ws (some ws.length))) rfl
       (.inr ⟨hk,hv,.inr ⟨rfl,trivial,.inr (.inr ⟨t,len,ps,e,D.len τ,ws,G,b1,hlen,hu,rfl,rfl⟩),hn.lv,λx K=>z00y (by
          have K:x.1≠σ.H.L.length:=K
          grind[Heap.push])⟩⟩)
       (yph U hy ht λs N q x a b c e=>by
         have:=zyx y a b
         omega)
       (hn.put m (v:=.hs σ.H.lv σ.H.L.length 0 0 ws.length false) (by
         simp only[VR]
         exact⟨⟨.hs σ.H.lv σ.H.L.length 0 0 ws.length false,some σ.H.L.length,ws,[]⟩,by rw[<-y.nx];simp,rfl,rfl⟩))
       (U.eff (w:=some B.nx) ⟨rfl,rfl⟩ (λs0 _=>⟨λs a=>by rw[k6];exact ygi y a,λs sl h=>lookup_append h⟩) λs e x K =>?_) A
      cases e;refine⟨by rw[k6];exact zfj (o:=.acc e τ xs true) (by simp only[TS.new,yzc,if_true]) trivial,⟨.hs σ.H.lv σ.H.L.length 0 0 ws.length false,some σ.H.L.length,ws,[]⟩,by rw[<-y.nx];simp,.inl (by rw[show x.1=σ.H.L.length from K])⟩;cases A
    split at A;rename_i R ky;split at A;rename_i hc;rw[Qag]at hc;have⟨hy,ht⟩:=hc
    rcases yhh hD y A with ⟨x,v,a1,a2,a3⟩|⟨s,N⟩
    split at a3;rename_i C m;refine one (c:=y56 ρ R) (v:=v) (H':=σ.H) rfl (.inr ⟨hk,hv,.inl ⟨rfl,rfl,λki k1 Y=>.inl ?_⟩⟩) (ywx y U hy ht) (mH (y.put m a2)) (U.quiet ht (ypa m)) a3;rw[z095 y ky k1 Y];exact a1;cases a3;cases N;cases A;split at A;rename_i c hc;split at A;rename_i x X;split at A;rename_i f a b vs K km;have⟨args,t1,t2⟩:=y2t y X K km;split at A
    rcases zmc hD y t2 (λe he=>htbl e (List.mem_filter.1 he).1) A with ⟨⟨e,he,a8⟩,_⟩|⟨rv,e1,z,ρ',I,e2,e3,e4,_⟩|⟨s,N⟩
    grind
    split at e4;rename_i C m;exact one (c:=y56 ρ []) (v:=rv) (H':=σ.H) rfl (.inr ⟨hk,hv,.inl ⟨rfl,rfl,λki k1 Y=>.inr (.inl ⟨c,f,args,hc,t1,e1 _⟩)⟩⟩) kf (mH (y.put m (e2 ρ))) (U.quiet (R:=[]) rfl (ypa m)) e4;cases e4;cases N;split at A;rename_i h9;rw[Qag]at h9;have⟨h9,kk⟩:=h9
    have⟨M,kc,kl,m1,m2,m3,m4,m7,m5,m6,m8⟩:=zwt hD y t2 (λe he=>by
     grind) A
    have k8:=z01h y U m8 m1 kk m2;refine⟨o,z0dz (z0dv M kc ρ σ),ho,k8,.inr ⟨λj hj =>?_,rfl,rfl,hk,c,f,args,kl,hc,t1,m3,λv H' hr=>⟨(m4 _ H' hr).1,λi hi =>?_,?_⟩,λv H' hr =>?_⟩⟩;exact zoi (Qat.1 h9 j hj);have hi:¬¬_:=hi
    rcases Classical.not_not.1 hi with ⟨i1,i2⟩|⟨z,s,sl,z1,z2,z3,z4,z5⟩
    exact z00y ((m4 _ H' hr).2 i.1 i1 i2);unfold obs;rw[z3];exact congrArg (Prod.mk none) (m7 v H' hr z z1 s sl i.1 z2 z4 z5);have⟨z,I,ρ',k1,Y,k3,k4⟩:=m5 v H' hr;split at k3;rename_i C m;exact zt8 htbl ke kd l _ _ _ (Y.put m k1) (U.call rfl k4) k3;cases k3;have⟨z,I,ρ',k1,Y,k3⟩:=m6 v H' hr;intro t' ko;refine kd z _ _ ρ' v ?_ k1 k3
    exact⟨Y.nx,ko.trans Y.nt,λj x hj=>by simp[fnd]at hj,Y.ob,Y.inj,Y.mine,Y.lv,Y.E,Y.e0,Y.d,Y.out,Y.pin,Y.fpl,Y.g⟩;cases A;cases A;cases A;cases A
  have U:y3v (D:=D) ρ B h5 Z prev:=by
   have hl:∀s,z4a B s=z4a ts s:=λs=>by unfold z4a;rw[kb]
   exact⟨λp hj hq=>(hp.q p hj hq).imp_right λ⟨R,a,b⟩=>⟨R,a,λl e x K=>by grind⟩,λp hj he=>by have⟨w,a,b⟩:=hp.e p hj he;grind⟩
  split at A;rename_i C m;exact one (c:=y56 ρ []) (v:=.tup []) (H':=σ.H) rfl (.inl ⟨hw,rfl,rfl⟩) kf (mH (y.put m (v:=.tup []) (by simp only[VR];exact⟨[],rfl,by simp only[VRL]⟩))) (U.quiet (R:=[]) rfl (ypa m)) A;cases A
theorem zyi{R ops r}{k:TS D.T->Option R}:∀(n) {ts ρ},TRr D F ρ ts σ->yvz P D ops n ts k=some r->∃a ρ',TRr D F ρ' a σ∧k a=some r
 |0,ts,ρ,b,h=>⟨ts,ρ,b,h⟩
 |n+1,ts,ρ,b,h=>by
  rw[yvz]at h;split at h;have⟨a,ρ',_,_,_,_,_,_,_,g,d,_⟩:=yof hD b h;exact zyi n d g
  grind
theorem yds{R id ops d Q l k}{r:R}(htbl:∀e∈tbl,e.Ok P)
  (i:∀a σ' ρ',TRr D F ρ' a σ'->l a=some r->Q .normal σ') (g:∀z a σ' ρ' v,TRr D F ρ' a σ'->VR D ρ' F.lv z v->k z a=some r->Q (.panic v) σ')
  (q:TRr D F ρ ts σ) (h:ya6 P D tbl ops d ts l k=some r):Sat P (.region id ops d) σ Q:=by
 unfold ya6 at h;split at h;rename_i o;subst o;simp only at h;split at h;rename_i n;split at h
 grind[zd9,z0b8]
 split at h
 grind[zyi,zd9,z0ax,zky]
 split at h;rename_i m;simp only[Qag]at m;have⟨⟨u,s⟩,A⟩:=m
 refine z086 n _ u (Qaj s) (λj y =>?_) (by
  have⟨a,ρ',w,x⟩:=zyi hD 4 q h
  exact zt8 hD htbl i g _ [] [] [] w ⟨λp b=>(by cases b),λp b=>(by cases b)⟩ x)
 simp_all
 cases h;cases h
 grind[z07h,zky]
end
section
variable {P:Program}
def yam(P:Program)(c:Code)(σ:St)(Q:z27->St->Prop):Prop :=
 ∀W0 g0 H0 W a g,Base W0 g0 H0->(σ.e0=H0.E∧Step W0 g0 H0 W g σ.H)->yze W a g σ->y71 P c (ylf W0 g0 H0 Q) a W
def yam.sat{c σ Q}(h:yam P c σ Q):Sat P (.loop c) σ Q:=λW0 g0 H0 W a g i b d=>(h W0 g0 H0 W a g i b d).wp
def yam.round{c σ Q}(h:Sat P c σ (z27.then (λσ'=>yam P c σ' Q) Q)):yam P c σ Q:=λW0 g0 H0 W a g j l m=>by
 refine y71.round (y01 (h W0 g0 H0 W a g j l m) λe a w ⟨g,σ,o,n,i,d,b⟩ =>?_)
 cases n with
 |normal=>exact b W0 g0 H0 w a g j i d
 |exit id=>exact⟨g,σ,_,.exit id,i,d,b⟩
 |ret=>exact⟨g,σ,_,.ret,i,d,b⟩
 |panic v c k=>exact⟨g,σ,_,.panic v c k,i,d,b⟩
end
section
variable {P:Program}{D:Dat}{F:Fr}{R:Type}
structure KOk(D:Dat)(F:Fr)(K:Ks D.T R)(Q:z27->St->Prop)(r:R):Prop where
 kn:∀ts σ,TR D F ts σ->K.kn ts=some r->Q .normal σ
 kx:∀id k ts σ,fnd K.kx id=some k->TR D F ts σ->k ts=some r->Q (.exit id) σ
 kr:∀ts σ,TR D F ts σ->K.kr ts=some r->Q .ret σ
 kp:∀z ts σ ρ v,TRr D F ρ ts σ->VR D ρ F.lv z v->K.kp z ts=some r->Q (.panic v) σ
def AC.Claim(P:Program)(a:AC)(σ:St)(Q:z27->St->Prop):Prop :=
 match a with
 |.loop b=>yam P b.erase σ Q
 |.rng d g p a b=>zjm P d∧(calm a.erase&&calm b.erase)=true∧∀k,y9j P d g p a.erase b.erase Q k σ
 |a=>Sat P a.erase σ Q
def AC.Claim.sat{a:AC}{σ Q}(h:a.Claim P σ Q):Sat P a.erase σ Q:=by
 cases a <;> first|exact h|exact yam.sat h|exact z0cd h.1 h.2.1 h.2.2
def y8r(P:Program)(φ:Nat->AC->(z27->St->Prop)->Prop):AC->(z27->St->Prop)->Prop
 |.seq a b,Q=>y8r P φ a (z27.then (λσ=>Sat P b.erase σ Q) Q)∧y8r P φ b Q
 |.cond _ a b,Q=>y8r P φ a Q∧y8r P φ b Q
 |.block id a,Q=>y8r P φ a (z27.inBlock id Q)
 |.loop a,Q=>y8r P φ a (z27.then (λσ=>yam P a.erase σ Q) Q)
 |.lab l a,Q=>φ l a Q∧y8r P φ a Q
 |_,_=>True
def AC.site(P:Program)(l:Nat):AC->(z27->St->Prop)->Option (AC×(z27->St->Prop))
 |.seq a b,Q=>match AC.site P l a (z27.then (λσ=>Sat P b.erase σ Q) Q)with
  |some x=>some x
  |none=>AC.site P l b Q
 |.cond _ a b,Q=>match AC.site P l a Q with
  |some x=>some x
  |none=>AC.site P l b Q
 |.block id a,Q=>AC.site P l a (z27.inBlock id Q)
 |.loop a,Q=>AC.site P l a (z27.then (λσ=>yam P a.erase σ Q) Q)
 |.lab d a,Q=>match Nat.beq d l with
  |true=>some (a,Q)
  |false=>AC.site P l a Q
 |_,_=>none
theorem zdv{l}:∀{c:AC}{Q x},c.site P l Q=some x->l∈c.labels
 |.seq a b,Q,x,h=>by
  simp[AC.site]at h;split at h;rename_i y d;exact List.mem_append_left _ (zdv d)
  exact List.mem_append_right _ (zdv h)
 |.cond _ a b,Q,x,h=>by
  simp[AC.site]at h;split at h;rename_i y d;exact List.mem_append_left _ (zdv d)
  exact List.mem_append_right _ (zdv h)
 |.block id a,Q,x,h=>zdv (c:=a) h
 |.loop a,Q,x,h=>zdv (c:=a) h
 |.lab g a,Q,x,h=>by
  simp[AC.site]at h;split at h;rename_i e;rw[Qaj e];exact Qak
  exact Qai _ (zdv h)
 |.skip,Q,x,h=>by cases h
 |.region _ _ _,Q,x,h=>by cases h
 |.exit _,Q,x,h=>by cases h
 |.ret,Q,x,h=>by cases h
 |.rng _ _ _ _ _,Q,x,h=>by cases h
 |.other _,Q,x,h=>by cases h
def ypt{l}{c:AC}{Q}(h:l∉c.labels):c.site P l Q=none:=by
 cases a:c.site P l Q with
 |none=>rfl
 |some x=>exact(h (zdv a)).elim
def zk1{φ}:∀{c Q},c.labels.Nodup->(∀l a Q',c.site P l Q=some (a,Q')->φ l a Q')->y8r P φ c Q
 |.seq a b,Q,d,h=>by
  have d:=List.nodup_append.1 d;refine⟨zk1 d.1 λl x Q' g=>h l x Q' (by simp[AC.site,g]),zk1 d.2.1 λl x Q' g=>h l x Q' ?_⟩;have j:=zdv g;simp[AC.site,ypt (P:=P) (Q:=z27.then (λσ=>Sat P b.erase σ Q) Q) (λi=>d.2.2 l i l j rfl)]
  exact g
 |.cond _ a b,Q,d,h=>by
  have d:=List.nodup_append.1 d;refine⟨zk1 d.1 λl x Q' g=>h l x Q' (by simp[AC.site,g]),zk1 d.2.1 λl x Q' g=>h l x Q' ?_⟩;have j:=zdv g;simp[AC.site,ypt (P:=P) (Q:=Q) (λi=>d.2.2 l i l j rfl)]
  exact g
 |.block id a,Q,d,h=>zk1 (c:=a) d λl x Q' g=>h l x Q' g
 |.loop a,Q,d,h=>zk1 (c:=a) d λl x Q' g=>h l x Q' g
 |.lab k a,Q,d,h=>by
  simp[AC.labels,List.nodup_cons]at d;refine⟨h k a Q (by simp[AC.site,Nat.beq_refl]),zk1 d.2 λl x Q' g=>h l x Q' ?_⟩
  grind[zdv,Qaj,AC.site]
 |.skip,Q,d,h=>trivial
 |.region _ _ _,Q,d,h=>trivial
 |.exit _,Q,d,h=>trivial
 |.ret,Q,d,h=>trivial
 |.rng _ _ _ _ _,Q,d,h=>trivial
 |.other _,Q,d,h=>trivial
variable {J:Nat → TS D.T → Option R}{tbl:List (Ent D)}{r:R}(hD:D.Ok P)(htbl:∀ e ∈ tbl, e.Ok P)
def LOk(P:Program)(D:Dat)(F:Fr)(J:Nat->TS D.T->Option R)(r:R)(l:Nat)(a:AC)(Q:z27->St->Prop):Prop:=∀ts σ,TR D F ts σ->J l ts=some r->a.Claim P σ Q
include hD htbl
theorem za1:∀{c ts σ K Q},KOk D F K Q r->y8r P (LOk P D F J r) c Q->TR D F ts σ->run P D tbl J c ts K=some r->Sat P c.erase σ Q
 |.skip,ts,σ,K,Q,i,j,g,h=>z072 (i.kn ts σ g h)
 |.region id ops d,ts,σ,K,Q,i,j,g,h=>by
  have s:∀ts,TR D F ts σ->TR D F (pre1 P D tbl ops ts) σ:=λts g=>by
   grind[pre1,TR.freeze]
  have g:TR D F (pre P D tbl ops d ts) σ:=by
   unfold pre;split;exact s _ (s _ g);exact g
  have⟨τ,ρ,s,o⟩:=g
  exact ywb s (yds hD htbl (λq σ' ρ' C m=>i.kn q σ' C.tr m) (λz q σ' ρ' v=>i.kp z q σ' ρ' v) o h)
 |.seq a b,ts,σ,K,Q,i,j,g,h=>by
  exact z0br (za1 (K:={K with kn:=λts=>run P D tbl J b ts K}) (Q:=z27.then (λσ=>Sat P b.erase σ Q) Q) ⟨λts σ g m=>za1 i j.2 g m,i.kx,i.kr,i.kp⟩ j.1 g h)
 |.cond c a b,ts,σ,K,Q,i,j,g,h=>by
  simp[run]at h;have⟨τ,ρ,s,o⟩:=g;refine ywb s ?_;split at h;rename_i v y;have x:=o.ev y;simp[VR]at x;split at h;rename_i t;have⟨w,B,A⟩:=o.tm t _ y;simp[VR]at A;subst A;refine yw6 x (λp =>?_) λp =>?_
  subst p;exact za1 i j.1 (o.tell B (by simp[VR])).tr h;subst p;exact za1 i j.2 (o.tell B (by simp[VR])).tr h;refine yw6 x (λp =>?_) λp =>?_
  subst p;exact za1 i j.1 o.tr h;subst p;exact za1 i j.2 o.tr h
  cases h
 |.block id a,ts,σ,K,Q,i,j,g,h=>by
  refine z049 (za1 (K:={K with kx:=(id,K.kn)::K.kx}) (Q:=z27.inBlock id Q) ⟨λts σ g m=>i.kn ts σ g m,λn k ts σ u g m =>?_,i.kr,i.kp⟩ j g h);rw[yzc]at u;show z07y (Nat.beq n id) (Q .normal σ) (Q (.exit n) σ);split at u;rename_i e;cases u;subst e;rw[Nat.beq_refl];exact i.kn ts σ g m
  have:Nat.beq n id=false:=by
   grind[Qaj]
  rw[this]
  exact i.kx n k ts σ u g m
 |.loop a,ts,σ,K,Q,i,j,g,h=>by simp[run]at h
 |.exit id,ts,σ,K,Q,i,j,g,h=>by
  simp[run]at h;split at h;rename_i k m;exact z0b5 (i.kx id k ts σ m g h)
  cases h
 |.ret,ts,σ,K,Q,i,j,g,h=>z0cn (i.kr ts σ g h)
 |.lab l a,ts,σ,K,Q,i,j,g,h=>(j.1 ts σ g h).sat
 |.rng _ _ _ _ _,ts,σ,K,Q,i,j,g,h=>by simp[run]at h
 |.other c,ts,σ,K,Q,i,j,g,h=>by simp[run]at h
omit hD htbl in
theorem z0ft{ρ ρ':List Slot}(h:∀(j:Nat) (sl:Slot),ρ[j]? = some sl->ρ'[j]? = some sl):ρ'=ρ++ρ'.drop ρ.length:=by
 apply List.ext_getElem?
 grind
omit hD htbl in
theorem ytf{ρ ts n τ σ' u}(k:TRr D F ρ ts τ)(A:TR D {F with pin:=ρ} n σ'){e φ}(z:∀v,e ≠ .panic v)
  (h:∀m L,TRr D F (ρ++L) (ts.back n) m->φ e m):RQ τ u φ e σ':=by
 refine⟨z,λN I W g a M K B p q =>?_⟩;have⟨w,ρ',y,b⟩:=A;have⟨g',i,s⟩:=y N I u.H W M g ⟨K⟩ B q;have o:=z0ft (ρ:=ρ) (ρ':=ρ') λj sl l=>b.pin j sl l
 refine⟨{τ with H:=w.H},g',p.later i.2 s.good,⟨?_,i.2⟩,h _ (ρ'.drop ρ.length) ?_⟩;show τ.e0=_;rw[k.e0,<-i.1,b.e0];rw[<-o]
 exact⟨b.nx,k.nt,λj x l=>(let ⟨v,G,C⟩:=k.tm j x l;⟨v,G,by rw[o];exact C.more _⟩),b.ob,b.inj,b.mine,b.lv,b.E,k.e0,by rw[o];exact k.d.more _,b.out,
  λj sl l=>b.pin j sl (k.pin j sl l),b.fpl,b.g⟩
omit hD htbl in
theorem TRr.mark{ρ ts σ}(a:TRr D F ρ ts σ):TRr D F ρ ts.mark σ.marked :=
 ⟨a.nx,a.nt,a.tm,a.ob,a.inj,a.mine,a.lv,a.E,a.e0,⟨[],σ.d,rfl,by simp[VRL],a.d⟩,a.out,a.pin,a.fpl,a.g⟩
omit hD htbl in
theorem yv8{α β}(f:α->β):∀(l) (i) {y},fnd (l.map λq=>(q.1,f q.2)) i=some y->∃x,fnd l i=some x∧f x=y
 |[],i,y,h=>by simp[fnd]at h
 |q::l,i,y,h=>by
  rw[List.map_cons,yzc]at h;rw[yzc];split at h;rename_i e;grind;rename_i e;rw[Qbr e];exact yv8 f l i h
theorem z05s{l U p g a b K ts σ Q}(hF:F.E=F.e0)(hl:zjm P U)(hK:KOk D F K Q r)(hJ:LOk P D F J r l (.rng U g p a b) Q)(hT:TR D F ts σ)
  (h:z025 P D tbl J l U g p a b K ts=some r):(AC.rng U g p a b).Claim P σ Q:=by
 unfold z025 at h;split at h
 case h_2=>cases h
 rename_i ha h9 G;refine⟨hl,G,λn =>?_⟩;split at h
 case h_2=>cases h
 rename_i f k hg;split at h
 case h_2=>cases h
 rename_i s O N;have hf:=Qaj O;subst hf;have⟨_,A,h⟩:=z3f h;unfold capS at A;split at A
 case isFalse=>cases A
 have⟨τ,ρ,hw,u⟩:=hT;have hd:=u.ev hg;obtain⟨as,bs,e1,rfl,v,rr,rfl,⟨sl,i,Z,Y,rfl⟩,rfl⟩:=hd;have⟨sl',e4,ho⟩:=u.ob k _ N;rw[Z]at e4;cases e4;obtain⟨i',vs,e5,e6,v,rr,rfl,rfl,rfl⟩:=ho;rw[Y]at e5;cases e5
 have C:∀{υ:St}{i:Nat}{o:yzm},υ.H.L[i]? = some (some o)->υ.H.get υ.H.lv i=some o:=λ{υ i o} h=>by
  unfold Heap.get
  grind
 unfold y9j;refine⟨τ,i,s,hw,by rw[u.e0,u.E,hF],by rw[e1,u.lv],C e6,by assumption,λX =>?_,λX hlen =>?_⟩;rw[z07q.2 X]at h;exact hK.kn _ _ u.mark.tr h
 ·have h8:noS s=false:=by
   grind[z07q]
  rw[h8]at h
  cases n with
  |zero=>grind
  |succ n=>
  split at h
  case h_2=>cases h
  rename_i h3 M
  have hm:TRr D {F with pin:=ρ} ρ {ts with d:=[]} {τ with d:=[]} :=
   ⟨u.nx,u.nt,u.tm,u.ob,u.inj,u.mine,u.lv,u.E,u.e0,rfl,u.out,λj sl hj=>hj,u.fpl,u.g⟩
  have hk:=hm.put M (v:=.str (lnA s)) (by simp[VR])
  have h7:fnd h3.o k=some (.cells [.str s]):=by
   grind[TS.put]
  have hi:=hk.upd h7 trivial Z Y (.cells [.str (lnB s)]) (.cells [.str (lnB s)]) (by
   simp only[VR]
   exact⟨i,[.str (lnB s)],Y,Qaq (Qaa.1 e6).1,_,_,rfl,rfl,rfl⟩)
  have h4:(τ.begin p i s)={({τ with d:=[]}:St).put (some p) (.str (lnA s))with H:={τ.H with L:=τ.H.L.set i (some (.cells [.str (lnB s)]))}}:=by
   show St.mk _ _ _ _=St.mk _ _ _ _
   congr 1
   unfold Heap.set;rw[Qbq rfl]
  rw[h4]
  have B:∀{c:AC}{Q:z27->St->Prop},c.labels=[]->y8r P (LOk P D {F with pin:=ρ} J r) c Q:=λ{c Q} hc=>zk1 (by rw[hc];exact .nil) λl' x Q' X=>by
   have:=zdv X;grind
  refine za1 hD htbl (F:={F with pin:=ρ}) (c:=a) ⟨λhn σ2 hh hb =>?_,λid k' w σ' m=>(by simp[fnd]at m),λw σ' _ m=>(by cases m),λz w σ' ρ' v _ _ m=>(by cases m)⟩ (B ha) hi.tr h;refine za1 hD htbl (F:={F with pin:=ρ}) (c:=b) ⟨λw σ' y m =>?_,λid k' w σ' m y h6 =>?_,λw σ' y m =>?_,λz w σ' ρ' v _ _ m=>(by cases m)⟩ (B h9) hh hb
  ·refine ytf u y (λv e=>by cases e) λI e' q =>?_
   dsimp only at m;split at m
   case h_2=>cases m
   rename_i s' h5;have⟨_,W,hj⟩:=z3f m;unfold z03v at W;split at W
   case isFalse=>cases W
   rename_i he;subst he;have⟨hp,w1,w2⟩:=q.ob k _ h5;rw[Qal (Qaa.1 Z).1,Z]at w1;cases w1;simp only[OR,VR]at w2;obtain⟨i',vs,w3,w4,v,rr,rfl,rfl,rfl⟩:=w2;rw[Y]at w3;cases w3;refine⟨?_,(hJ _ _ q.tr hj).2.2 n⟩;have:=C w4;rw[q.lv]at this;rw[u.lv];exact this
  dsimp only at m;have⟨k0,h1,h2⟩:=yv8 (λk w=>k (ts.back w).mark) K.kx id m;refine ytf u y (λv e=>by cases e) λI e' q =>?_
  subst h2;exact hK.kx id k0 _ _ h1 q.mark.tr h6;refine ytf u y (λv e=>by cases e) λI e' q =>?_
  exact hK.kr _ _ q.mark.tr m
omit hD htbl in
theorem zo6{l}:∀{c K kl Q},AC.at P D tbl J l c K kl=none->c.site P l Q=none
 |.seq a b,K,kl,Q,h=>by
  simp[AC.at]at h;split at h;cases h;rename_i d;simp[AC.site];rw[zo6 d]
  exact zo6 h
 |.cond _ a b,K,kl,Q,h=>by
  simp[AC.at]at h;split at h;cases h;rename_i d;simp[AC.site];rw[zo6 d]
  exact zo6 h
 |.block id a,K,kl,Q,h=>zo6 (c:=a) (K:={K with kx:=(id,K.kn)::K.kx}) (kl:=λ_=>none) h
 |.loop a,K,kl,Q,h=>zo6 (c:=a) (K:={K with kn:=kl}) (kl:=λ_=>none) h
 |.lab g a,K,kl,Q,h=>by
  simp[AC.at]at h;split at h;cases h;rename_i e;simp[AC.site,e]
  exact zo6 (c:=a) h
 |.skip,K,kl,Q,h=>rfl
 |.region _ _ _,K,kl,Q,h=>rfl
 |.exit _,K,kl,Q,h=>rfl
 |.ret,K,kl,Q,h=>rfl
 |.rng _ _ _ _ _,K,kl,Q,h=>rfl
 |.other _,K,kl,Q,h=>rfl
theorem zmm{l}:∀{c K kl Q f},F.E=F.e0->(∀q∈c.zn2,zjm P q)->KOk D F K Q r->(∀b,c = .loop b->∀ts σ,TR D F ts σ->kl ts=some r->yam P b.erase σ Q)->y8r P (LOk P D F J r) c Q->AC.at P D tbl J l c K kl=some f ->
  ∃a Q',c.site P l Q=some (a,Q')∧∀ts σ,TR D F ts σ->f ts=some r->a.Claim P σ Q'
 |.seq a b,K,kl,Q,f,o,n,d,m,j,h=>by
  simp[AC.at]at h;split at h;rename_i g C;cases h;have⟨x,Q',A,B⟩:=zmm (c:=a) (K:={K with kn:=λts=>run P D tbl J b ts K}) (Q:=z27.then (λσ=>Sat P b.erase σ Q) Q) o (λq z=>n q (List.mem_append_left _ z)) ⟨λts σ s i=>za1 hD htbl d j.2 s i,d.kx,d.kr,d.kp⟩ (λ_ _ ts σ _ i=>by cases i) j.1 C
  grind[AC.site]
  have⟨x,Q',A,B⟩:=zmm (c:=b) o (λq z=>n q (List.mem_append_right _ z)) d (λ_ _ ts σ _ i=>by cases i) j.2 h
  grind[AC.site,zo6]
 |.cond _ a b,K,kl,Q,f,o,n,d,m,j,h=>by
  simp[AC.at]at h;split at h;rename_i g C;cases h;have⟨x,Q',A,B⟩:=zmm (c:=a) o (λq z=>n q (List.mem_append_left _ z)) d (λ_ _ ts σ _ i=>by cases i) j.1 C
  grind[AC.site]
  have⟨x,Q',A,B⟩:=zmm (c:=b) o (λq z=>n q (List.mem_append_right _ z)) d (λ_ _ ts σ _ i=>by cases i) j.2 h
  grind[AC.site,zo6]
 |.block id a,K,kl,Q,f,o,n,d,m,j,h=>by
  refine zmm (c:=a) o n (K:={K with kx:=(id,K.kn)::K.kx}) (Q:=z27.inBlock id Q) ⟨λts σ s i=>d.kn ts σ s i,λw k ts σ u s i =>?_,d.kr,d.kp⟩ (λ_ _ ts σ _ i=>by cases i) j h;rw[yzc]at u;show z07y (Nat.beq w id) (Q .normal σ) (Q (.exit w) σ);split at u;rename_i e;cases u;subst e;rw[Nat.beq_refl];exact d.kn ts σ s i
  have:Nat.beq w id=false:=by
   grind[Qaj]
  rw[this]
  exact d.kx w k ts σ u s i
 |.loop a,K,kl,Q,f,o,n,d,m,j,h=>by
  exact zmm (c:=a) o n (K:={K with kn:=kl}) (Q:=z27.then (λσ=>yam P a.erase σ Q) Q) ⟨λts σ s i=>m a rfl ts σ s i,d.kx,d.kr,d.kp⟩ (λ_ _ ts σ _ i=>by cases i) j h
 |.lab I a,K,kl,Q,f,o,n,d,m,j,h=>by
  simp[AC.at]at h;split at h;rename_i e;have e:=Qaj e;subst e;cases h;refine⟨a,Q,by simp[AC.site,Nat.beq_refl],λts σ s u =>?_⟩;unfold z0ad at u;split at u;rename_i b;exact yam.round (za1 hD htbl (K:={K with kn:=J I}) (Q:=z27.then (λσ=>yam P b.erase σ Q) Q) ⟨λts σ s i=>j.1 ts σ s i,d.kx,d.kr,d.kp⟩ j.2 s u);rename_i G g p x y
  exact z05s hD htbl o (n G (.head _)) d j.1 s u;rename_i A B;have:=za1 hD htbl d j.2 s u
  cases a <;> first|exact this|exact(A _ rfl).elim|grind
  have⟨x,Q',A,B⟩:=zmm (c:=a) o n d (λb L ts σ s i=>by subst L;exact j.1 ts σ s i) j.2 h
  grind[AC.site]
 |.skip,K,kl,Q,f,o,n,d,m,j,h=>by cases h
 |.region _ _ _,K,kl,Q,f,o,n,d,m,j,h=>by cases h
 |.exit _,K,kl,Q,f,o,n,d,m,j,h=>by cases h
 |.ret,K,kl,Q,f,o,n,d,m,j,h=>by cases h
 |.rng _ _ _ _ _,K,kl,Q,f,o,n,d,m,j,h=>by cases h
 |.other _,K,kl,Q,f,o,n,d,m,j,h=>by cases h
end
section
variable {P:Program}{D:Dat}{F:Fr}{ρ:List Slot}{ts:TS D.T}{σ:St}{lv:Nat}{R:Type}
def ywd{α}:∀(l) (k j) (a:α),fnd (argT l k) j=some a->k<=j∧l[j-k]? = some a
 |[],k,j,a,h=>by simp[argT,fnd]at h
 |b::l,k,j,a,h=>by
  simp[argT,yzc]at h;split at h
  grind
  have⟨g,d⟩:=ywd l (k+1) j a h
  grind
def yaq:∀(a) {k x j},k<=j->j<k+a.length->∃o,fnd (z6j D (λk=>k) a k x) j=some o∧o.live
 |[],k,x,j,d,b=>by simp at b;omega
 |o::a,k,x,j,d,b=>by
  show ∃o',fnd ((k,zxs D (λk=>k) o (HL.fst _ x))::z6j D (λk=>k) a (k+1) (HL.snd _ x)) j=some o'∧o'.live;rw[yzc];split;exact⟨_,rfl,ypb⟩;exact yaq a (by omega) (by grind)
def yc3:∀(a) {k x j o},(j,o)∈z6j D (λk=>k) a k x->fnd (z6j D (λk=>k) a k x) j=some o
 |[],k,x,j,o,h=>by cases h
 |osh::a,k,x,j,o,h=>by
  show fnd ((k,zxs D (λk=>k) osh (HL.fst _ x))::z6j D (λk=>k) a (k+1) (HL.snd _ x)) j=some o;rw[yzc]
  rcases Qbf.1 h with h|h
  grind
  have⟨b,g,_,d,_⟩:=zv6 a h;rw[Qbr (by omega)];exact yc3 a h
def zio(hD:D.Ok P)(d:TRr D F ρ ts σ):∀{rs cs},y1h P D ts rs=some cs->∃vs,y7m P σ rs=some vs∧VRL D ρ F.lv cs vs
 |[],cs,h=>by simp[y1h,Qbn]at h;subst h;exact⟨[],rfl,by simp[VRL]⟩
 |.tmp t::rs,cs,h=>by
  simp[y1h]at h;split at h;rename_i v vs i b;cases h;have⟨g,j,k⟩:=zio hD d b;exact⟨σ.t.getD t .any::g,by simp[y7m,resV,j],by simp only[VRL];exact⟨_,_,rfl,d.tmp i,k⟩⟩
  cases h
 |.cell a t::rs,cs,h=>by
  simp[y1h]at h;split at h;rename_i p l;split at h;rename_i v vs i b;cases h;have⟨g,j,k⟩:=zio hD d b;have⟨u,m,n⟩:=ycq hD d i (d.tmp l);exact⟨u::g,by simp only[y7m,resV,m,j],by simp[VRL];grind⟩;cases h;cases h
def ykf{c σ Q}(h:Sat P c σ λe σ=>∃τ,znz σ τ∧(∀v,e ≠ .panic v)∧Q e τ):Sat P c σ Q:=λW0 g0 H0 W a g b j k=>by
 refine y01 (h W0 g0 H0 W a g b j k) λe a w ⟨g,σ,s,q,p,o,τ,n,m,l⟩ =>?_
 have⟨g',i,d⟩:=n W0 g0 H0 w a g b p o;refine⟨g',τ,s,?_,i,d,l⟩
 cases q with
 |normal=>exact .normal
 |exit id=>exact .exit id
 |ret=>exact .ret
 |panic v c u=>exact(m v rfl).elim
def yr9(D:Dat)(F:Fr)(l:LSh)(pack:HL D.T l.tys->R)(r:R)(e:z27)(σ:St):Prop :=
 match e with
 |.normal| .ret=>∃x,pack x=r∧TR D F (l.bld D x) σ
 |_=>False
def yfv(hD:D.Ok P){l}(i:F.pin.length<=l.pin)(b:l.pin<=l.os.length){pack}{r:R}:KOk D F (y06 D l pack) (yr9 D F l pack r) r:=by
 refine⟨λts σ d h =>?_,λid k ts σ h=>by simp[y06,fnd]at h,λts σ d h =>?_,λz ts σ ρ v _ _ h=>by simp[y06]at h⟩;have⟨x,a,g⟩:=LSh.zeh hD i b d h;injection a with a;exact⟨x,a,g⟩;have⟨x,a,g⟩:=LSh.zeh hD i b d h;injection a with a;exact⟨x,a,g⟩
def ysw(P:Program)(D:Dat)(c:Code)(p:Nat)(args)(aos)(a:Nat)(gs:List Nat)(K:Ks D.T R)(go:HL D.T (Sh.z1i args++z1j aos)->Option R):Prop :=
 ∀F Q r,F.E=F.e0->F.pin.length<=p->KOk D F K Q r->∀x σ,TR D F (entry D args aos a gs x) σ->go x=some r->Sat P c σ Q
def zrl{args n}(cs)(h:VRL D ρ lv cs args):∀(j) (x),fnd (argT cs 0) j=some x->∃v,(args++List.replicate n V.any)[j]? = some v∧VR D ρ lv x v:=λj x a=>by
 have⟨_,b⟩:=ywd cs 0 j x a;have⟨v,g,d⟩:=h.get j x (by simpa using b)
 grind
def gsB(aos:List OSh)(k:Nat):Bool:=match aos[k]? with
 |some (.acc _ _ _)=>true
 |some (.deep _ _)=>true
 |some .rig=>true
 |_=>false
def z09s{L}{gs:List Nat}{aos ρ0 y}(l:gs.all (gsB aos)=true)(I:ρ0.length=aos.length)(G:∀j o,(j,o)∈z6j D (λk=>k) aos 0 y->∃sl,ρ0[j]? = some sl∧OR D ρ0 lv L sl o) :
  ∀(i s:Nat) (v),(gs.map some)[i]? = some (some s)->(gs.map λk=>(ρ0[k]?.map (·.v)).getD .any)[i]? = some v->VR D ρ0 lv (.own s) v:=λi s v u C=>by
 rw[Qan,Qaf]at u C;have⟨k,d,e⟩:=u;have B:=Qat.1 l k (Qax d)
 have leaf:∀{sl:Slot}{b:OSh}{z:HL D.T b.tys},(match b with| .acc _ _ _=>true| .deep _ _=>true| .rig=>true|_=>false)=true->OR D ρ0 lv L sl (zxs D (λk=>k) b z)->sl.v.leaf=true:=λ{sl b z} A a=>by
  cases b <;> simp[Bool.false_eq_true]at A
  case acc ty t w=>
   simp only[OR]at a;have⟨_,_,a⟩:=a
   cases d:sl.k with
   |none=>rw[d]at a;rcases a with ⟨e,_⟩|⟨⟨e,_⟩,_⟩ <;> (rw[e];rfl)
   |some i=>rw[d]at a;have⟨g,E,e,_⟩:=a;rw[e];rfl
  case rig=>
   grind[zxs,OR]
  case deep ty q=>
   replace a:=a;simp only[OR]at a;have a:=a.2
   cases d:sl.k with
   |none=>rw[d]at a;rcases a.2.1 with e|e <;> (rw[e];rfl)
   |some i=>rw[d]at a;have⟨g,E,_,e,_⟩:=a;rw[e];rfl
 have n:∀(aos:List OSh) (m k:Nat) (b:OSh) (y:HL D.T (z1j aos)),aos[k]? = some b->∃z:HL D.T b.tys,(m+k,zxs D (λk=>k) b z)∈z6j D (λk=>k) aos m y:=λaos=>by
  induction aos with
  |nil=>grind
  |cons o r x=>
   intro m k b y h
   cases k with
   |zero=>simp at h;subst h;exact⟨_,Qak⟩
   |succ k=>
    have⟨z,p⟩:=x (m+1) k b (HL.snd _ y) (by simpa using h);exact⟨z,by rw[show m+(k+1)=m+1+k by omega];exact Qai _ p⟩
 unfold gsB at B
 cases a:aos[k]? with
 |none=>grind
 |some b=>
  have⟨z,p⟩:=n aos 0 k b y a
  grind[VR]
def z098{gs}{l:LSh}{x}{ρ0 ρ':List Slot}{ren}(a:ren=gs.map λk=>(k,k))(j:l.gs=gs)(h:∀(i s:Nat) (v:V),(l.bld D x).g[i]? = some (some s)->(gs.map λk=>(ρ0[k]?.map (·.v)).getD .any)[i]? = some v->VR D ρ' lv (.own s) v) :
  ∀q∈ren,∀sl,ρ0[q.1]? = some sl->∃sl',ρ'[q.2]? = some sl'∧sl'.v=sl.v:=λq b sl m=>by
 rw[a]at b;obtain⟨k,d,rfl⟩:=Qbb.1 b;have⟨i,hi⟩:=Qbj d;have:=h i k sl.v (by show(l.gs.map some)[i]? = _;grind) (by grind)
 grind[VR]
def z0bq(hD:D.Ok P){e:Ent D}{fn code K gs l pack}{un:R->HL D.T (Sh.z1i e.outs++z1j e.ros)}{go}
  (hf:P.funcs[e.f]? = some fn) (hb:fn.body=some code) (h4:fn.ntmps=K) (W:∀args w,(callFunc e.f args).run P w = .ok (.enter e.f args) w) (ha:e.args.length<=K)
  (h6:∀(R':Type) (x:HL D.T (Sh.z1i e.args++z1j e.aos)) (k:HL D.T (Sh.z1i e.outs++z1j e.ros)->Option R') (kp:HL D.T (e.pan.tys++z1j e.pos)->Option R'),e.go x k kp=(go x).bind λr=>k (un r))
  (G:e.pure=false) (Q:e.kc=[]) (B:e.ren=gs.map λk=>(k,k)) (U:l.gs=gs) (h7:gs.all (gsB e.aos)=true) (hd:e.p<=l.pin) (h3:l.pin<=l.os.length) (hlen:l.os.length=e.ros.length)
  (Y:∀x,y1h P D (l.bld D x) fn.results.toList=some (z3n D (λk=>k) e.outs (HL.fst _ (un (pack x))))∧(l.bld D x).o=z6j D (λk=>k) e.ros 0 (HL.snd _ (un (pack x))))
  (X:ysw P D code e.p e.args e.aos K gs (y06 D l pack) go):e.Ok P:=λR' x k kp r h=>by
 rw[G];rw[h6]at h;have⟨r0,h1,h2⟩:=ztc h;refine .inl ⟨un r0,h2,λlv L E ρ0 m k1 k2 k3 k4 _ =>?_⟩
 have hc:m.length=e.args.length:=by
  rw[<-k2.length]
  have:∀(l:List Sh) (y:HL D.T (Sh.z1i l)),(z3n D (λk=>k) l y).length=l.length:=λl=>by
   induction l with
   |nil=>intro y;rfl
   |cons s l ih=>grind[z3n]
  exact this _ _
 let F:Fr:=⟨lv,E,E,L,λi=>i<L.length∧∀(k:Nat) (N),ρ0[k]? = some N->¬N.has i,ρ0.take e.p,gs.map λk=>(ρ0[k]?.map (·.v)).getD .any⟩
 have Z:=λs o ho=>k3 s o (z4o ho)
 have h9:TRr D F ρ0 (entry D e.args e.aos K gs x) ⟨m++List.replicate (K-m.length) .any,⟨lv,L,E⟩,[],E⟩:=by
  refine⟨k1,by grind[entry],zrl _ k2,Z,λs s' o o' sl sl' i A I l1 l2 n r2=>k4.1 s s' sl sl' i n r2,λs o sl i A l1 n hk ho=>ho.2 s sl n hk,rfl,rfl,rfl,rfl,λi hi=>⟨hi.1,rfl⟩,λj sl hj =>?_,λs o sl i A l1 n hk=>k4.2 s sl i n hk,z09s h7 k1 k3⟩
  grind
 refine z05z hf hb h4 W (ykf ((X F _ r0 rfl (by grind) (yfv hD (by grind) h3) x _ h9.tr h1).mono λC σ hq =>?_))
 have O:∀C,(C = .normal∨C = .ret)->(∃x,pack x=r0∧TR D F (l.bld D x) σ)->∃τ,znz σ τ∧(∀v,C ≠ .panic v)∧z0du P fn (λout H'=>∃L' ρ',H'=⟨lv,L',E⟩∧Left D lv L ρ0 e.p L' ρ' e.ros (HL.snd _ (un r0))∧((∀q∈e.ren,∀sl,ρ0[q.1]? = some sl->∃sl',ρ'[q.2]? = some sl'∧sl'.v=sl.v)∧yd8 L L' ρ0 e.kc)∧∃vs,out = .ret (zbp vs)∧VRL D ρ' lv (z3n D (λk=>k) e.outs (HL.fst _ (un r0))) vs) C τ:=λC h8 ⟨y,hy,τ,ρ',w1,w2⟩=>by
  subst hy;have⟨o1,o2⟩:=Y y;have⟨vs,q1,q2⟩:=zio hD w2 o1;have hH:=ztz (F:=F) τ.H w2.lv w2.E
  have z:Left D lv L ρ0 e.p τ.H.L ρ' e.ros (HL.snd _ (un (pack y))):=by
   have u:ρ'.length=e.ros.length:=by rw[w2.nx,<-hlen];rfl
   have live:∀s sl,ρ'[s]? = some sl->∃o,fnd (l.bld D y).o s=some o∧o.live:=λs sl hs=>by
    rw[o2];exact yaq e.ros (Qbo _) (by rw[Nat.zero_add,<-u];grind)
   refine⟨u,λj o hm =>?_,λs s' sl sl' i n r2 M c2 =>?_,λs sl i n M =>?_,λi hi h5=>w2.out i ⟨hi,h5⟩,λj sl hj hs =>?_,λs sl i n M=>by
    have⟨o,A,I⟩:=live s sl n
    exact w2.fpl s o sl i A I n M⟩
   exact w2.ob j o (by rw[o2];exact yc3 e.ros hm);have⟨o,A,I⟩:=live s sl n;have⟨o',b1,b2⟩:=live s' sl' r2;exact w2.inj s s' o o' sl sl' i A b1 I b2 n r2 M c2;have⟨o,A,I⟩:=live s sl n;have:=w2.mine s o sl i A I n M
   grind
   exact w2.pin j sl (by grind)
  refine⟨τ,w1,λv e=>by grind,?_⟩
  rcases h8 with rfl|rfl
  exact⟨zbp vs,zbp vs,by grind[z2g],w2.d,.refl _,τ.H.L,ρ',hH,z,⟨z098 B U (λi s v a b=>w2.g i s v a b),by rw[Q];exact .nil⟩,vs,rfl,q2⟩;exact⟨zbp vs,zbp vs,by grind[z2g],w2.d,.refl _,τ.H.L,ρ',hH,z,⟨z098 B U (λi s v a b=>w2.g i s v a b),by rw[Q];exact .nil⟩,vs,rfl,q2⟩
 cases C with
 |normal=>exact O _ (.inl rfl) hq
 |ret=>exact O _ (.inr rfl) hq
 |exit id=>exact hq.elim
 |panic v=>exact hq.elim
mutual
def VRn.lvl{p:Nat}:∀{x:TV D.T}{v:V},VR D [] lv x v->VR D [] p x v
 |.own s,v,h=>by simp only[VR]at h;have⟨sl,d,_⟩:=h;simp at d
 |.osl s lo,v,h=>by simp only[VR]at h;have⟨sl,j,o,d,_⟩:=h;simp at d
 |.ptr s l,v,h=>by simp only[VR]at h;have⟨sl,i,d,_⟩:=h;simp at d
 |.bp s l,v,h=>by simp only[VR]at h;have⟨sl,i,d,_⟩:=h;simp at d
 |.map s,v,h=>by simp only[VR]at h;have⟨sl,i,d,_⟩:=h;simp at d
 |.mc t es,v,h=>by unfold VR at h ⊢;exact h
 |.ap s t i x l,v,h=>by simp only[VR]at h;have⟨sl,w,d,_⟩:=h;simp at d
 |.dp s i l,v,h=>by simp only[VR]at h;have⟨sl,j,o,m,d,_⟩:=h;simp at d
 |.bsl q cs,v,h=>by simp only[VR]at h ⊢;have⟨vs,d,g⟩:=h;exact⟨vs,d,VRLn.lvl g⟩
 |.ref cs l,v,h=>by simp only[VR]at h ⊢;have⟨vs,d,g⟩:=h;exact⟨vs,d,VRLn.lvl g⟩
 |.fn f a b,v,h=>by simp only[VR]at h ⊢;have⟨z,bs,d,g,u⟩:=h;exact⟨z,bs,d,VRLn.lvl g,VRLn.lvl u⟩
 |.iface t x,v,h=>by simp only[VR]at h ⊢;have⟨y,d,g⟩:=h;exact⟨y,d,VRn.lvl g⟩
 |.agg cs,v,h=>by simp only[VR]at h ⊢;have⟨vs,d,g⟩:=h;exact⟨vs,d,VRLn.lvl g⟩
 |.tup cs,v,h=>by simp only[VR]at h ⊢;have⟨vs,d,g⟩:=h;exact⟨vs,d,VRLn.lvl g⟩
 |.any,v,h=>by simp only[VR]
 |.bool b,v,h=>by simpa only[VR]using h
 |.int k n,v,h=>by simpa only[VR]using h
 |.str b,v,h=>by simpa only[VR]using h
 |.nilp,v,h=>by simpa only[VR]using h
 |.nils,v,h=>by simpa only[VR]using h
 |.mapn,v,h=>by simpa only[VR]using h
 |.nilf,v,h=>by simpa only[VR]using h
 |.nili,v,h=>by simpa only[VR]using h
 |.sl t xs A,v,h=>by simpa only[VR]using h
def VRLn.lvl{a:Nat}:∀{cs:List (TV D.T)}{vs:List V},VRL D [] lv cs vs->VRL D [] a cs vs
 |[],vs,h=>by simpa only[VRL]using h
 |c::cs,vs,h=>by simp only[VRL]at h ⊢;have⟨v,r,g,d,b⟩:=h;exact⟨v,r,g,VRn.lvl d,VRLn.lvl b⟩
end
def DR.vs(hD:D.Ok P){H Dm t x v}(h:DR D t x v) :
  VS H Dm v (D.el t x)∧∀(j:Nat) (u g),v.cells[j]? = some u->(D.el t x).cells[j]? = some g->VS H Dm u g:=by
 have one:∀{t:DTy}{x:t.S D.T}{v:V},v.cells=[v]->(D.el t x).cells=[D.el t x]->VS H Dm v (D.el t x) ->
   VS H Dm v (D.el t x)∧∀(j:Nat) (u g:V),v.cells[j]? = some u->(D.el t x).cells[j]? = some g->VS H Dm u g:=λ{t x v} E C h=>⟨h,λj u g l d=>by
  grind⟩
 induction h with
 |bool b=>exact one rfl rfl (.keep _ (by simp[V.kin]))
 |int k n=>exact one rfl rfl (.keep _ (by simp[V.kin]))
 |str s=>exact one rfl rfl (.keep _ (by simp[V.kin]))
 |nat n=>exact one (t:=.nat) rfl rfl (.any _)
 |nil t=>exact one rfl rfl (.nil _ _)
 |sl t xs ws full m h w=>
  refine one rfl rfl (.sl _ _ _ _ (by simp[m]) (λj a b y o =>?_) λj a b q v u y o A l =>?_);rw[Qan,Qaf]at o;obtain⟨x,z,rfl⟩:=o
  grind[cells,yxi]
  grind
 |st i x vs m h w=>
  have cell:∀(j:Nat) (u g:V),vs[j]? = some u->(D.els (D.fl i) (D.get i x))[j]? = some g->VS H Dm u g:=λj u g l d=>by
   rw[yr6,Qaf]at d;obtain⟨p,B,rfl⟩:=d
   grind
  have e:D.el (.st i) x = .agg (D.els (D.fl i) (D.get i x)):=hD.enc i x;rw[e]
  exact⟨.agg _ _ (by rw[yg1,m]) cell,λj u g l d=>cell j u g l d⟩
 |enc i x=>exact⟨.keep _ (hD.kin i x _),λj u g l d=>by
  rw[show D.el (.st i) x=D.enc i x from rfl,l]at d;cases d
  exact .keep _ (zco (zuz (hD.kin i x _)) j u l)⟩
def VR.toDR(hD:D.Ok P){t x v}(a:t ≠ .nat)(h:VR D ρ lv (D.tv t x) v):DR D t x v:=by
 have leaf:∀{t:DTy}{x:t.S D.T}{v:V},t ≠ .nat->(∀i,t ≠ .st i)->VR D ρ lv (D.leaf t x) v->DR D t x v:=λ{t x v} l g h=>by
  cases t with
  |bool=>simp[Dat.leaf,VR]at h;subst h;exact .bool _
  |int k=>simp[Dat.leaf,VR]at h;subst h;exact .int _ _
  |str=>simp[Dat.leaf,VR]at h;subst h;exact .str _
  |nat=>exact(l rfl).elim
  |sl t=>grind[Dat.leaf,VR]
  |st i=>exact(g i rfl).elim
 cases t with
 |st i=>
  obtain⟨vs,rfl,h⟩:=h;refine .st i x vs (by rw[<-h.length,zgi]) λj p u b d =>?_
  have m:=hD.flat i p.1 (Qax (HL.zic _ _ _ _ b).2);have:=h.y63 (j:=j) (c:=D.leaf p.1 p.2) (by rw[ziu,b];rfl) d
  grind
 |nat=>exact(a rfl).elim
 |bool=>exact leaf a (by simp) h
 |int k=>exact leaf a (by simp) h
 |str=>exact leaf a (by simp) h
 |sl t=>exact leaf a (by simp) h
def yff:List Sh->Bool
 |[]=>true
 |.d t::l => !decide (t = .nat)&&yff l
 |_=>false
def canon(D:Dat):(l:List Sh)->HL D.T (Sh.z1i l)->List V
 |[],_=>[]
 |.d t::l,x=>D.el t (HL.fst (Sh.tys (.d t)) x).1::canon D l (HL.snd (Sh.tys (.d t)) x)
 |s::l,x=>.any::canon D l (HL.snd s.tys x)
def VRL.lvl{a cs vs}(h:VRL D [] lv cs vs):VRL D [] a cs vs:=VRLn.lvl h
def ybb(hD:D.Ok P):∀{l x},yff l=true->VRL D ρ lv (z3n D (λk=>k) l x) (canon D l x)
 |[],x,h=>(by simp[VRL]:VRL D ρ lv [] [])
 |.d t::l,x,h=>by
  simp[yff,Qag]at h;exact⟨_,_,rfl,VR.tv hD (DR.el t _),ybb hD h.2⟩
def ygn(hD:D.Ok P){H Dm}:∀{l x vs},yff l=true->VRL D ρ lv (z3n D (λk=>k) l x) vs->VSL H Dm vs (canon D l x)
 |[],x,vs,h,a=>by
  subst a;exact .nil
 |.d t::l,x,vs,h,a=>by
  simp[yff,decide_eq_false_iff_not]at h;obtain⟨v,r,rfl,g,b⟩:=a;exact .cons ((VR.toDR hD h.1 g).vs hD).1 (ygn hD h.2 b)
def ywp{H Dm vs a}(h:VSL H Dm vs a):VS H Dm (zbp vs) (zbp a):=by
 cases h with
 |nil=>exact .tup' .nil
 |cons b r=>
  cases r with
  |nil=>exact b
  |cons d r=>exact .tup' (.cons b (.cons d r))
def z0c1(hD:D.Ok P){e:Ent D}{fn code u l pack}{un:R->HL D.T (Sh.z1i e.outs++z1j e.ros)}{go}
  (hf:P.funcs[e.f]? = some fn) (hb:fn.body=some code) (Q:fn.ntmps=u) (K:∀args w,(callFunc e.f args).run P w = .ok (.enter e.f args) w) (Z:e.args.length<=u)
  (U:∀(R':Type) (x:HL D.T (Sh.z1i e.args++z1j e.aos)) (k:HL D.T (Sh.z1i e.outs++z1j e.ros)->Option R') (W:HL D.T (e.pan.tys++z1j e.pos)->Option R'),e.go x k W=(go x).bind λr=>k (un r))
  (q:e.pure=true) (G:e.ren=[]) (m:e.aos=[]) (C:e.ros=[]) (g:yff e.outs=true) (O:l.pin<=l.os.length)
  (I:∀x,y1h P D (l.bld D x) fn.results.toList=some (z3n D (λk=>k) e.outs (HL.fst _ (un (pack x)))))
  (B:ysw P D code e.p e.args e.aos u [] (y06 D l pack) go):e.Ok P:=λR' x k W r h=>by
 rw[q];rw[U]at h;have⟨r0,h1,h2⟩:=ztc h;refine⟨un r0,h2,m,C,G,λh3 a k2=>⟨canon D e.outs (HL.fst _ (un r0)),λρ lv=>ybb hD g,?_⟩⟩
 have h4:a.length=e.args.length:=by
  rw[<-k2.length]
  have:∀(l:List Sh) (y:HL D.T (Sh.z1i l)),(z3n D (λk=>k) l y).length=l.length:=λl=>by
   induction l with
   |nil=>intro y;rfl
   |cons s l ih=>grind[z3n]
  exact this _ _
 refine z094 hf hb Q K λlv E =>?_
 let F:Fr:=⟨lv+1,E,E,[],λi=>False,[],[]⟩
 have b:∀s (o:TO D.T),fnd (z6j D (λk=>k) e.aos 0 (HL.snd _ x)) s=some o->False:=λs o M=>by
  have⟨j,_,h5,_⟩:=zv6 e.aos (z4o M)
  grind
 have N:VRL D [] (lv+1) (z3n D (λk=>k) e.args (HL.fst _ x)) a:=VRL.lvl k2
 have Y:TRr D F [] (entry D e.args e.aos u [] x) ⟨a++List.replicate (u-a.length) .any,⟨lv+1,[],E⟩,[],E⟩:=by
  refine⟨by simp only[entry,m];rfl,by grind[entry],zrl _ N,λs o M=>(b s o M).elim,λs s' o o' sl sl' i z=>(b s o z).elim,λs o sl i z=>(b s o z).elim,rfl,rfl,rfl,rfl,λi hi=>hi.elim,λj sl hj=>by simp[F]at hj,λs o sl i z=>(b s o z).elim,λi s v h=>by simp[entry]at h⟩
 refine ykf ((B F _ r0 rfl (by simp[F]) (yfv hD (by simp[F]) O) x _ Y.tr h1).mono λn σ L =>?_)
 have A:∀n,(n = .normal∨n = .ret)->(∃x,pack x=r0∧TR D F (l.bld D x) σ)->∃τ,znz σ τ∧(∀v,n ≠ .panic v)∧Ends P fn lv E (zbp (canon D e.outs (HL.fst _ (un r0)))) n τ:=λn X ⟨y,hy,τ,ρ',w1,w2⟩=>by
  subst hy;have⟨vs,q1,q2⟩:=zio hD w2 (I y);have hv:=ywp (ygn hD (H:=τ.H) (Dm:=outer lv) g q2);refine⟨τ,w1,λv e=>by grind,?_⟩
  rcases X with rfl|rfl
  exact⟨zbp vs,by grind[z2g],w2.d,w2.E,hv⟩;exact⟨zbp vs,by grind[z2g],w2.d,w2.E,hv⟩
 cases n with
 |normal=>exact A _ (.inl rfl) L
 |ret=>exact A _ (.inr rfl) L
 |exit id=>exact L.elim
 |panic v=>exact L.elim
structure FI(D:Dat) where
 R:Type
 ent:Nat->Ent D
 c:AC
 K:Ks D.T R
 p:Nat
 args:List Sh
 aos:List OSh
 nt:Nat
 gs:List Nat:=[]
 z2k:Nat->List (Nat×Lb D R)
 go:Nat->HL D.T (Sh.z1i args++z1j aos)->Option R
def y2a{α:Type}(φ:Nat->α->Prop):List (Nat×α)->Prop
 |[]=>True
 |p::l=>φ p.1 p.2∧y2a φ l
theorem y2a.get{α φ}:∀{l j} {a:α},y2a φ l->(j,a)∈l->φ j a
 |p::l,j,a,h,hm=>by
  rcases Qbf.1 hm with hm|hm
  subst hm;exact h.1;exact y2a.get h.2 hm
noncomputable def zyl(P:Program)(D){R}(tbl:List (Ent D))(J:Nat->TS D.T->Option R)(l:Nat)(c:AC)(K:Ks D.T R)(ts:TS D.T):Option R :=
 match AC.at P D tbl J l c K (λ_=>none)with
 |some g=>g ts
 |none=>none
structure FI.Good(P:Program)(D:Dat)(tbl:Nat->List (Ent D))(f:FI D):Prop where
 nodup:f.c.labels.Nodup
 zero:∀x,f.go 0 x=none
 lzero:∀l lb x,fnd (f.z2k 0) l=some lb->lb.go x=none
 pins:∀n l lb,fnd (f.z2k n) l=some lb->f.p<=lb.sh.pin∧lb.sh.pin<=lb.sh.os.length
 step:∀n x,f.go (n+1) x=run P D (tbl n) (jump D (f.z2k n)) f.c (entry D f.args f.aos f.nt f.gs x) f.K
 lstep:∀n l lb x,fnd (f.z2k (n+1)) l=some lb->lb.go x=zyl P D (tbl n) (jump D (f.z2k n)) l f.c f.K (lb.sh.bld D x)
 ok:∀n,ysw P D f.c.erase f.p f.args f.aos f.nt f.gs f.K (f.go n)->(f.ent n).Ok P
 zn2:∀q∈f.c.zn2,zjm P q
def FI.y8r(P:Program)(D)(f:FI D)(n:Nat):Prop :=
 ∀F Q r,F.E=F.e0->F.pin.length<=f.p->KOk D F f.K Q r->∀l a Q',f.c.site P l Q=some (a,Q')->∀ts σ,TR D F ts σ->jump D (f.z2k n) l ts=some r->a.Claim P σ Q'
def FI.Good.z2k(hD:D.Ok P){tbl}{f:FI D}(h:f.Good P D tbl):∀n,(∀m,m<n->∀e∈tbl m,e.Ok P)->f.y8r P D n
 |0,_=>λF Q r u y s l a Q' q ts σ o d=>by
  unfold jump at d;split at d;rename_i k i;have⟨z,p⟩:=h.pins 0 l k i;have⟨x,j,_⟩:=LSh.zeh hD (by omega) p o d;rw[h.lzero l k x i]at j;cases j
  cases d
 |n+1,w=>λF Q r u y s l a Q' q ts σ o d=>by
  have A:=FI.Good.z2k hD h n λm G=>w m (by omega)
  unfold jump at d;split at d;rename_i k i;have⟨z,p⟩:=h.pins (n+1) l k i;have⟨x,j,I⟩:=LSh.zeh hD (by omega) p o d;rw[h.lstep n l k x i]at j;unfold zyl at j;split at j;rename_i g C
  have⟨M,E,L,K⟩:=zmm hD (w n (by omega)) u h.zn2 s (λb _ ts σ _ B=>by cases B) (zk1 (P:=P) (φ:=LOk P D F (jump D (f.z2k n)) r) h.nodup λl a Q' q ts σ o d=>A F Q r u y s l a Q' q ts σ o d) C
  grind
  cases j;cases d
def FI.Good.runs(hD:D.Ok P){tbl}{f:FI D}(h:f.Good P D tbl):∀n,(∀m,m<n->∀e∈tbl m,e.Ok P)->ysw P D f.c.erase f.p f.args f.aos f.nt f.gs f.K (f.go n)
 |0,_=>λF Q r k j g x σ d b=>by rw[h.zero]at b;cases b
 |n+1,i=>λF Q r k j g x σ d b=>by
  rw[h.step]at b;have o:=h.z2k hD n λm u=>i m (by omega)
  exact za1 hD (i n (by omega)) g (zk1 (P:=P) (φ:=LOk P D F (jump D (f.z2k n)) r) h.nodup λl a Q' q ts σ d s=>o F Q r k j g l a Q' q ts σ d s) d b
def ring(hD:D.Ok P){a:List (FI D)}{base:Nat->List (Ent D)}(k:∀n,∀e∈base n,e.Ok P)(h:∀f∈a,f.Good P D λn=>a.map (·.ent n)++base n):∀n,∀f∈a,(f.ent n).Ok P:=λn=>by
 induction n using Nat.strongRecOn with
 |ind n d=>
  intro f b;refine(h f b).ok n ((h f b).runs hD n λm i e he =>?_)
  rcases List.mem_append.1 he with he|he
  obtain⟨g,j,rfl⟩:=Qbb.1 he;exact d m i g j;exact k m e he
end
section
variable {P:Program}{D:Dat}{R:Type}
def FI.of(D)(f nt p:Nat)(args)(aos)(outs)(ros)(pure:Bool)(l:LSh){R}(pack:HL D.T l.tys->R)(un:R->HL D.T (Sh.z1i outs++z1j ros))
  (go:Nat->HL D.T (Sh.z1i args++z1j aos)->Option R) (z2k:Nat->List (Nat×Lb D R)) (c:AC) (gs:List Nat:=[]):FI D :=
 {R:=R,ent:=λn=>{f:=f,p:=p,args:=args,aos:=aos,outs:=outs,ros:=ros,pan:=.nilp,pos:=ros,pure:=pure,go:=λx k _=>(go n x).bind λr=>k (un r),ren:=gs.map λk=>(k,k)},
   c:=c,K:=y06 D l pack,p:=p,args:=args,aos:=aos,nt:=nt,gs:=gs,z2k:=z2k,go:=go}
def tb(l:List (FI D))(n:Nat):List (Ent D):=l.map (·.ent n)
def FOk(P:Program)(f:FI D):Prop:=∀n,(f.ent n).Ok P
def OkL(P:Program):List (FI D)->Prop
 |[]=>True
 |f::l=>FOk P f∧OkL P l
def yui(P:Program)(tbl:Nat->List (Ent D)):List (FI D)->Prop
 |[]=>True
 |f::l=>f.Good P D tbl∧yui P tbl l
theorem OkL.get:∀{l} {f:FI D},OkL P l->f∈l->FOk P f
 |g::l,f,h,hm=>by
  rcases Qbf.1 hm with rfl|hm
  exact h.1;exact OkL.get h.2 hm
def OkL.of:∀{l:List (FI D)},(∀f∈l,FOk P f)->OkL P l
 |[],h=>trivial
 |f::l,h=>⟨h f Qak,OkL.of λg a=>h g (Qai _ a)⟩
theorem yui.get{tbl}:∀{l f},yui P tbl l->f∈l->f.Good P D tbl
 |g::l,f,h,hm=>by
  rcases Qbf.1 hm with rfl|hm
  exact h.1;exact yui.get h.2 hm
def z98(hD:D.Ok P){a bs:List (FI D)}(l:OkL P bs)(h:yui P (tb (a++bs)) a):OkL P a :=
 OkL.of λf j n=>ring hD (base:=λn=>bs.map (·.ent n)) (λn e k=>by
  obtain⟨b,d,rfl⟩:=Qbb.1 k
  exact l.get d n) (λg i=>by
  have:=h.get i;have e:(tb (a++bs))=λn=>a.map (·.ent n)++bs.map (·.ent n):=by funext n;simp[tb]
  grind) n f j
def z02q:List Nat->List Nat->Bool
 |[],[]=>true
 |a::l,b::r=>Nat.beq a b&&z02q l r
 |_,_=>false
def yxr:∀{a b},z02q a b=true->a=b
 |[],[],_=>rfl
 |[],_::_,h=>by cases h
 |_::_,[],h=>by cases h
 |a::l,b::r,h=>by
  simp only[z02q,Qag]at h;rw[Qaj h.1,yxr h.2]
def ywq(p a:Nat)(args outs:List Sh)(aos ros:List OSh)(pure:Bool)(l:LSh)(c:AC)(gs:List Nat):Bool :=
 Nat.ble args.length a&&Nat.ble p l.pin&&Nat.ble l.pin l.os.length &&
 (match pure with
  |true=>aos.isEmpty&&ros.isEmpty&&yff outs&&gs.isEmpty
  |false=>Nat.beq l.os.length ros.length&&z02q l.gs gs&&gs.all (gsB aos))
def y92(p:Nat):List (Nat×Lb D R)->Bool
 |[]=>true
 |(_,a)::r=>Nat.ble p a.sh.pin&&Nat.ble a.sh.pin a.sh.os.length&&y92 p r
def zuy{p}:∀{l:List (Nat×Lb D R)},y92 p l=true->y2a (λ_ a=>p<=a.sh.pin∧a.sh.pin<=a.sh.os.length) l
 |[],h=>trivial
 |(_,a)::r,h=>by
  simp[y92,Nat.ble_eq]at h;exact⟨h.1,zuy h.2⟩
def FI.z2i{hD:D.Ok P}{f u p:Nat}{args aos outs ros pure l pack un go}{z2k:Nat->List (Nat×Lb D R)}{c gs tbl fn}
  (E:P.funcs[f]? = some fn) (m:fn.ntmps=u) (b:∀args w,(callFunc f args).run P w = .ok (.enter f args) w)
  (G:fn.body=some c.erase) (z:c.labels.Nodup) (d:ywq p u args outs aos ros pure l c gs=true) (O:∀n,y92 p (z2k n)=true)
  (a:∀x,y1h P D (l.bld D x) fn.results.toList=some (z3n D (λk=>k) outs (HL.fst _ (un (pack x)))))
  (M:∀x,go 0 x=none) (A:y2a (λ_ g=>∀x,g.go x=none) (z2k 0))
  (N:∀n x,go (n+1) x=run P D (tbl n) (jump D (z2k n)) c (entry D args aos u gs x) (y06 D l pack))
  (B:∀n,y2a (λj g=>∀x,g.go x=zyl P D (tbl n) (jump D (z2k n)) j c (y06 D l pack) (g.sh.bld D x)) (z2k (n+1)))
  (s:∀x,pure=true∨(l.bld D x).o=z6j D (λk=>k) ros 0 (HL.snd _ (un (pack x)))) (L:c.zn2=[]:=by kernel_rfl) :
  (FI.of D f u p args aos outs ros pure l pack un go z2k c gs).Good P D tbl where
 nodup:=z
 zn2:=λq C=>by replace C:q∈c.zn2:=C;grind
 zero:=M
 lzero:=λj g x h=>A.get (z4o h) x
 pins:=λn j g h=>(zuy (O n)).get (z4o h)
 step:=N
 lstep:=λn j g x h=>(B n).get (z4o h) x
 ok:=λn h=>by
  simp[ywq,Nat.ble_eq]at d;have⟨⟨⟨K,U⟩,I⟩,i⟩:=d
  cases pure with
  |true=>
   simp[List.isEmpty_iff]at i;obtain⟨⟨⟨rfl,rfl⟩,y⟩,rfl⟩:=i
   exact z0c1 (l:=l) (pack:=pack) (un:=un) (go:=go n) (code:=c.erase) hD E G m b K (λ_ _ _ _=>rfl) rfl rfl rfl rfl y I a h
  |false=>
   simp only[Qag]at i;have⟨⟨i,Q⟩,y⟩:=i;exact z0bq (gs:=gs) (l:=l) (pack:=pack) (un:=un) (go:=go n) (code:=c.erase) hD E G m b K (λ_ _ _ _=>rfl) rfl rfl rfl (yxr Q) y U I (Qaj i) (λx=>⟨a x,(s x).resolve_left (by simp)⟩) h
end
end Go.Ab
