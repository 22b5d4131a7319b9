/-
  THE TYPED MACHINE: functions.
-/
import Derived.Test.YtdcbdnediadfcaaLib8
import Derived.KernelRfl
namespace Go.Ab
open Go
set_option linter.unusedVariables false
set_option linter.unusedSimpArgs false
set_option linter.unusedSectionVars false
section
variable {P : Program} {D : Dat} {F : Fr} {ρ : List Slot} {ts : TS D.T} {σ : St} {lv : Nat} {R : Type}
theorem zvb{α:Type}:∀(l:List α) (k j:Nat) (a:α),fnd (y1r l k) j=some a->k<=j∧l[j-k]? = some a
 |[],k,j,a,h=>by simp[y1r,fnd]at h
 |b::l,k,j,a,h=>by
  simp only[y1r,yz6]at h;split at h
  rename_i e;injection h with h;subst h;subst e;simp
  obtain⟨h1,h2⟩:=zvb l (k+1) j a h;refine⟨by omega,?_⟩;rw[show j-k=(j-(k+1))+1 by omega];simpa using h2
theorem zis:∀(os:List OSh) {k:Nat}{x:HL D.T (zzl os)}{j:Nat},k<=j->j<k+os.length->∃o,fnd (z0c D (λk=>k) os k x) j=some o∧o.live
 |[],k,x,j,h1,h2=>by simp at h2;omega
 |o::os,k,x,j,h1,h2=>by
  show ∃o',fnd ((k,z7n D (λk=>k) o (HL.fst _ x))::z0c D (λk=>k) os (k+1) (HL.snd _ x)) j=some o'∧o'.live;rw[yz6];split;exact⟨_,rfl,zr2⟩;exact zis os (by omega) (by simp only[List.length_cons]at h2;omega)
theorem zj0:∀(os:List OSh) {k:Nat}{x:HL D.T (zzl os)}{j:Nat}{o:TO D.T},(j,o)∈z0c D (λk=>k) os k x->fnd (z0c D (λk=>k) os k x) j=some o
 |[],k,x,j,o,h=>by cases h
 |osh::os,k,x,j,o,h=>by
  replace h:(j,o)∈(k,z7n D (λk=>k) osh (HL.fst _ x))::z0c D (λk=>k) os (k+1) (HL.snd _ x):=h;show fnd ((k,z7n D (λk=>k) osh (HL.fst _ x))::z0c D (λk=>k) os (k+1) (HL.snd _ x)) j=some o;rw[yz6]
  rcases Qbi.1 h with h|h
  injection h with h1 h2;subst h1;subst h2;rw[Qbr rfl];obtain⟨j',h1,_,h3,_⟩:=zd4 os h;rw[Qbs (by omega)];exact zj0 os h
theorem z5f(hD:D.Ok P)(hR:TRr D F ρ ts σ):∀{rs:List ResultVar}{cs:List (TV D.T)},zg9 P D ts rs=some cs->∃vs,zt6 P σ rs=some vs∧VRL D ρ F.lv cs vs
 |[],cs,h=>by simp only[zg9,Qbo]at h;subst h;exact⟨[],rfl,by simp only[VRL]⟩
 |.tmp t::rs,cs,h=>by
  simp only[zg9]at h;split at h;rename_i v vs hv hvs;injection h with h;subst h;obtain⟨us,h1,h2⟩:=z5f hD hR hvs;exact⟨σ.t.getD t .any::us,by simp only[zt6,y4m,h1],by simp only[VRL];exact⟨_,_,rfl,hR.tmp hv,h2⟩⟩
  cases h
 |.cell a t::rs,cs,h=>by
  simp only[zg9]at h;split at h;rename_i p hp;split at h;rename_i v vs hv hvs;injection h with h;subst h;obtain⟨us,h1,h2⟩:=z5f hD hR hvs;obtain⟨u,h3,h4⟩:=zjr hD hR hv (hR.tmp hp);exact⟨u::us,by simp only[zt6,y4m,h3,h1],by simp only[VRL];exact⟨_,_,rfl,h4,h2⟩⟩;cases h;cases h
theorem zuc{c:Code}{σ:St}{Q:zz7->St->Prop}(h:Sat P c σ λe σ=>∃τ,zag σ τ∧(∀v,e ≠ .panic v)∧Q e τ):Sat P c σ Q:=λW0 g0 H0 W a g hB hS hG=>by
 refine zco (h W0 g0 H0 W a g hB hS hG) λe a w ⟨g,σ,e',h1,h2,h3,τ,h4,h5,h6⟩ =>?_
 obtain⟨g',k1,k2⟩:=h4 W0 g0 H0 w a g hB h2 h3;refine⟨g',τ,e',?_,k1,k2,h6⟩
 cases h1 with
 |normal=>exact .normal
 |exit id=>exact .exit id
 |ret=>exact .ret
 |panic v c hr=>exact(h5 v rfl).elim
def EndQ(D:Dat)(F:Fr)(l:LSh)(pack:HL D.T l.tys->R)(r:R)(e:zz7)(σ:St):Prop :=
 match e with
 |.normal| .ret=>∃x,pack x=r∧TR D F (l.bld D x) σ
 |_=>False
theorem zym(hD:D.Ok P){l:LSh}(hp:F.pin.length<=l.pin)(hp2:l.pin<=l.os.length){pack:HL D.T l.tys->R}{r:R}:KOk D F (zl0 D l pack) (EndQ D F l pack r) r:=by
 refine⟨λts σ hT h =>?_,λid k ts σ h=>by simp[zl0,fnd]at h,λts σ hT h =>?_,λz ts σ ρ v _ _ h=>by simp[zl0]at h⟩;obtain⟨x,h1,h2⟩:=LSh.z1b hD hp hp2 hT h;injection h1 with h1;exact⟨x,h1,h2⟩;obtain⟨x,h1,h2⟩:=LSh.z1b hD hp hp2 hT h;injection h1 with h1;exact⟨x,h1,h2⟩
def zy5(P:Program)(D:Dat)(c:Code)(p:Nat)(args:List Sh)(aos:List OSh)(nt:Nat)(gs:List Nat)(K:Ks D.T R)(go:HL D.T (Sh.kzs args++zzl aos)->Option R):Prop :=
 ∀F Q r,F.E=F.e0->F.pin.length<=p->KOk D F K Q r->∀x σ,TR D F (entry D args aos nt gs x) σ->go x=some r->Sat P c σ Q
theorem zcx{args:List V}{n:Nat}(cs:List (TV D.T))(h:VRL D ρ lv cs args):∀(j:Nat) (x:TV D.T),fnd (y1r cs 0) j=some x->∃v,(args++List.replicate n V.any)[j]? = some v∧VR D ρ lv x v:=λj x hj=>by
 obtain⟨_,h1⟩:=zvb cs 0 j x hj;obtain⟨v,h2,h3⟩:=h.get j x (by simpa using h1);exact⟨v,by rw[Qal (Qaa.1 h2).1];exact h2,h3⟩
def gsB(aos:List OSh)(k:Nat):Bool:=match aos[k]? with
 |some (.acc _ _ _)=>true
 |some (.deep _ _)=>true
 |some .rig=>true
 |_=>false
theorem y2r{L:List (Option yz4)}{gs:List Nat}{aos:List OSh}{ρ0:List Slot}{y:HL D.T (zzl aos)}(hgb:gs.all (gsB aos)=true)(k1:ρ0.length=aos.length)(k3:∀j o,(j,o)∈z0c D (λk=>k) aos 0 y->∃sl,ρ0[j]? = some sl∧OR D ρ0 lv L sl o) :
  ∀(i s:Nat) (v:V),(gs.map some)[i]? = some (some s)->(gs.map λk=>(ρ0[k]?.map (·.v)).getD .any)[i]? = some v->VR D ρ0 lv (.own s) v:=λi s v h1 h2=>by
 rw[Qan,Qaf]at h1 h2;obtain⟨k,hk,e⟩:=h1;injection e with e;subst e;obtain⟨k',hk',e⟩:=h2
 rw[hk]at hk';injection hk' with hk';subst hk'
 have hb:=Qat.1 hgb k (Qax hk)
 have leaf:∀{sl:Slot}{os:OSh}{z:HL D.T os.tys},(match os with| .acc _ _ _=>true| .deep _ _=>true| .rig=>true|_=>false)=true->OR D ρ0 lv L sl (z7n D (λk=>k) os z)->sl.v.leaf=true:=λ{sl os z} hc ho=>by
  cases os <;> simp only[Bool.false_eq_true]at hc
  case acc ty t w=>
   simp only[z7n,OR]at ho;obtain⟨_,_,ho⟩:=ho
   cases hk:sl.k with
   |none=>rw[hk]at ho;rcases ho with ⟨e,_⟩|⟨⟨e,_⟩,_⟩ <;> (rw[e];rfl)
   |some i=>rw[hk]at ho;obtain⟨ver,cp,e,_⟩:=ho;rw[e];rfl
  case rig=>
   simp only[z7n,OR]at ho;exact ho.2.2
  case deep ty q=>
   replace ho:OR D ρ0 lv L sl (.deep ty q z.1 none):=ho;simp only[OR]at ho;have ho:=ho.2
   cases hk:sl.k with
   |none=>rw[hk]at ho;rcases ho.2.1 with e|e <;> (rw[e];rfl)
   |some i=>rw[hk]at ho;obtain⟨ver,cp,_,e,_⟩:=ho;rw[e];rfl
 have at_:∀(aos:List OSh) (m k:Nat) (os:OSh) (y:HL D.T (zzl aos)),aos[k]? = some os->∃z:HL D.T os.tys,(m+k,z7n D (λk=>k) os z)∈z0c D (λk=>k) aos m y:=λaos=>by
  induction aos with
  |nil=>intro m k os y h;simp at h
  |cons o r ih=>
   intro m k os y h
   cases k with
   |zero=>simp at h;subst h;exact⟨_,Qak⟩
   |succ k=>
    obtain⟨z,hz⟩:=ih (m+1) k os (HL.snd _ y) (by simpa using h);exact⟨z,by rw[show m+(k+1)=m+1+k by omega];exact Qai _ hz⟩
 unfold gsB at hb
 cases ho:aos[k]? with
 |none=>rw[ho]at hb;cases hb
 |some os=>
  rw[ho]at hb;obtain⟨z,hz⟩:=at_ aos 0 k os y ho;obtain⟨sl,e1,e2⟩:=k3 _ _ hz;rw[Nat.zero_add]at e1;rw[e1]at e;simp only[VR];refine⟨sl,e1,e.symm,?_⟩;have:=leaf (by cases os <;> simp_all) e2;rw[<-e];exact this
theorem y4b{gs:List Nat}{l:LSh}{x:HL D.T l.tys}{ρ0 ρ':List Slot}{ren:List (Nat×Nat)}(hren:ren=gs.map λk=>(k,k))(hgs:l.gs=gs)(h:∀(i s:Nat) (v:V),(l.bld D x).g[i]? = some (some s)->(gs.map λk=>(ρ0[k]?.map (·.v)).getD .any)[i]? = some v->VR D ρ' lv (.own s) v) :
  ∀q∈ren,∀sl,ρ0[q.1]? = some sl->∃sl',ρ'[q.2]? = some sl'∧sl'.v=sl.v:=λq hq sl hs=>by
 rw[hren]at hq;obtain⟨k,hk,rfl⟩:=Qbd.1 hq;obtain⟨i,hi⟩:=Qbm hk;have:=h i k sl.v (by show(l.gs.map some)[i]? = _;rw[hgs,Qan,hi];rfl) (by rw[Qan,hi];simp only[Qbn];rw[show ρ0[k]? = some sl from hs];rfl);simp only[VR]at this;obtain⟨sl',e1,e2,_⟩:=this;exact⟨sl',e1,e2.symm⟩
theorem y86(hD:D.Ok P){e:Ent D}{fn:Func}{code:Code}{nt:Nat}{gs:List Nat}{l:LSh}{pack:HL D.T l.tys->R}{un:R->HL D.T (Sh.kzs e.outs++zzl e.ros)}{go:HL D.T (Sh.kzs e.args++zzl e.aos)->Option R}
  (hf:P.funcs[e.f]? = some fn) (hb:fn.body=some code) (hnt:fn.ntmps=nt) (hent:∀args w,(callFunc e.f args).run P w = .ok (.enter e.f args) w) (hargs:e.args.length<=nt)
  (hgo:∀(R':Type) (x:HL D.T (Sh.kzs e.args++zzl e.aos)) (k:HL D.T (Sh.kzs e.outs++zzl e.ros)->Option R') (kp:HL D.T (e.pan.tys++zzl e.pos)->Option R'),e.go x k kp=(go x).bind λr=>k (un r))
  (hpure:e.pure=false) (hkc:e.kc=[]) (hren:e.ren=gs.map λk=>(k,k)) (hgs:l.gs=gs) (hgb:gs.all (gsB e.aos)=true) (hp1:e.p<=l.pin) (hp2:l.pin<=l.os.length) (hlen:l.os.length=e.ros.length)
  (hout:∀x,zg9 P D (l.bld D x) fn.results.toList=some (yzu D (λk=>k) e.outs (HL.fst _ (un (pack x))))∧(l.bld D x).o=z0c D (λk=>k) e.ros 0 (HL.snd _ (un (pack x))))
  (hrun:zy5 P D code e.p e.args e.aos nt gs (zl0 D l pack) go):e.Ok P:=λR' x k kp r h=>by
 rw[hpure];rw[hgo]at h;obtain⟨r0,h1,h2⟩:=zij h;refine .inl ⟨un r0,h2,λlv L E ρ0 vargs k1 k2 k3 k4 _ =>?_⟩
 have hvl:vargs.length=e.args.length:=by
  rw[<-k2.length]
  have:∀(l:List Sh) (y:HL D.T (Sh.kzs l)),(yzu D (λk=>k) l y).length=l.length:=λl=>by
   induction l with
   |nil=>intro y;rfl
   |cons s l ih=>intro y;show(z7q D (λk=>k) s (HL.fst _ y)::yzu D (λk=>k) l (HL.snd _ y)).length=_;rw[List.length_cons,ih,List.length_cons]
  exact this _ _
 let F:Fr:=⟨lv,E,E,L,λi=>i<L.length∧∀(k:Nat) (sl0:Slot),ρ0[k]? = some sl0->¬sl0.has i,ρ0.take e.p,gs.map λk=>(ρ0[k]?.map (·.v)).getD .any⟩
 have hobj:∀s o,fnd (z0c D (λk=>k) e.aos 0 (HL.snd _ x)) s=some o->∃sl,ρ0[s]? = some sl∧OR D ρ0 lv L sl o:=λs o ho=>k3 s o (z1w ho)
 have hR0:TRr D F ρ0 (entry D e.args e.aos nt gs x) ⟨vargs++List.replicate (nt-vargs.length) .any,⟨lv,L,E⟩,[],E⟩:=by
  refine⟨k1,by simp only[entry,Qap,List.length_replicate];omega,zcx _ k2,hobj,λs s' o o' sl sl' i a1 a2 l1 l2 r1 r2=>k4.1 s s' sl sl' i r1 r2,λs o sl i a1 l1 r1 hk ho=>ho.2 s sl r1 hk,rfl,rfl,rfl,rfl,λi hi=>⟨hi.1,rfl⟩,λj sl hj =>?_,λs o sl i a1 l1 r1 hk=>k4.2 s sl i r1 hk,y2r hgb k1 k3⟩;simp only[F,Qaw]at hj;split at hj;exact hj;cases hj
 refine y2p hf hb hnt hent (zuc ((hrun F _ r0 rfl (by simp only[F,Qay];omega) (zym hD (by simp only[F,Qay];omega) hp2) x _ hR0.tr h1).mono λex σ hq =>?_))
 have key:∀ex,(ex = .normal∨ex = .ret)->(∃x,pack x=r0∧TR D F (l.bld D x) σ)->∃τ,zag σ τ∧(∀v,ex ≠ .panic v)∧y8n P fn (λout H'=>∃L' ρ',H'=⟨lv,L',E⟩∧Left D lv L ρ0 e.p L' ρ' e.ros (HL.snd _ (un r0))∧((∀q∈e.ren,∀sl,ρ0[q.1]? = some sl->∃sl',ρ'[q.2]? = some sl'∧sl'.v=sl.v)∧zk8 L L' ρ0 e.kc)∧∃vs,out = .ret (z3x vs)∧VRL D ρ' lv (yzu D (λk=>k) e.outs (HL.fst _ (un r0))) vs) ex τ:=λex hex ⟨y,hy,τ,ρ',w1,w2⟩=>by
  subst hy;obtain⟨o1,o2⟩:=hout y;obtain⟨vs,q1,q2⟩:=z5f hD w2 o1;have hH:τ.H=⟨lv,τ.H.L,E⟩:=zar (F:=F) τ.H w2.lv w2.E
  have hleft:Left D lv L ρ0 e.p τ.H.L ρ' e.ros (HL.snd _ (un (pack y))):=by
   have hlen':ρ'.length=e.ros.length:=by rw[w2.nx,<-hlen];rfl
   have live:∀s sl,ρ'[s]? = some sl->∃o,fnd (l.bld D y).o s=some o∧o.live:=λs sl hs=>by
    rw[o2];exact zis e.ros (Qbp _) (by rw[Nat.zero_add,<-hlen'];exact(Qaa.1 hs).1)
   refine⟨hlen',λj o hm =>?_,λs s' sl sl' i r1 r2 c1 c2 =>?_,λs sl i r1 c1 =>?_,λi hi hno=>w2.out i ⟨hi,hno⟩,λj sl hj hs =>?_,λs sl i r1 c1=>by
    obtain⟨o,a1,a2⟩:=live s sl r1
    exact w2.fpl s o sl i a1 a2 r1 c1⟩
   exact w2.ob j o (by rw[o2];exact zj0 e.ros hm);obtain⟨o,a1,a2⟩:=live s sl r1;obtain⟨o',b1,b2⟩:=live s' sl' r2;exact w2.inj s s' o o' sl sl' i a1 b1 a2 b2 r1 r2 c1 c2;obtain⟨o,a1,a2⟩:=live s sl r1;have:=w2.mine s o sl i a1 a2 r1 c1;by_cases hlt:i<L.length;right;by_cases hex:∃(k:Nat) (sl0:Slot),ρ0[k]? = some sl0∧sl0.has i;exact hex;exact(this ⟨hlt,λk sl0 e1 e2=>hex ⟨k,sl0,e1,e2⟩⟩).elim;left;omega
   exact w2.pin j sl (by simp only[F,Qaw];rw[Qbr hj];exact hs)
  refine⟨τ,w1,λv e=>by rcases hex with h|h <;> (rw[h]at e;cases e),?_⟩
  rcases hex with rfl|rfl
  exact⟨z3x vs,z3x vs,by simp only[z32,q1,Qbn],w2.d,.refl _,τ.H.L,ρ',hH,hleft,⟨y4b hren hgs (λi s v a b=>w2.g i s v a b),by rw[hkc];exact .nil⟩,vs,rfl,q2⟩;exact⟨z3x vs,z3x vs,by simp only[z32,q1,Qbn],w2.d,.refl _,τ.H.L,ρ',hH,hleft,⟨y4b hren hgs (λi s v a b=>w2.g i s v a b),by rw[hkc];exact .nil⟩,vs,rfl,q2⟩
 cases ex with
 |normal=>exact key _ (.inl rfl) hq
 |ret=>exact key _ (.inr rfl) hq
 |exit id=>exact hq.elim
 |panic v=>exact hq.elim
mutual
theorem VRn.lvl{lv':Nat}:∀{x:TV D.T}{v:V},VR D [] lv x v->VR D [] lv' x v
 |.own s,v,h=>by simp only[VR]at h;obtain⟨sl,h1,_⟩:=h;simp at h1
 |.osl s lo,v,h=>by simp only[VR]at h;obtain⟨sl,j,ver,h1,_⟩:=h;simp at h1
 |.ptr s off,v,h=>by simp only[VR]at h;obtain⟨sl,i,h1,_⟩:=h;simp at h1
 |.bp s off,v,h=>by simp only[VR]at h;obtain⟨sl,i,h1,_⟩:=h;simp at h1
 |.map s,v,h=>by simp only[VR]at h;obtain⟨sl,i,h1,_⟩:=h;simp at h1
 |.mc t es,v,h=>by unfold VR at h ⊢;exact h
 |.ap s t i x off,v,h=>by simp only[VR]at h;obtain⟨sl,w,h1,_⟩:=h;simp at h1
 |.dp s i off,v,h=>by simp only[VR]at h;obtain⟨sl,j,ver,m,h1,_⟩:=h;simp at h1
 |.bsl q cs,v,h=>by simp only[VR]at h ⊢;obtain⟨vs,h1,h2⟩:=h;exact⟨vs,h1,VRLn.lvl h2⟩
 |.ref cs off,v,h=>by simp only[VR]at h ⊢;obtain⟨vs,h1,h2⟩:=h;exact⟨vs,h1,VRLn.lvl h2⟩
 |.fn f a b,v,h=>by simp only[VR]at h ⊢;obtain⟨as,bs,h1,h2,h3⟩:=h;exact⟨as,bs,h1,VRLn.lvl h2,VRLn.lvl h3⟩
 |.iface t x,v,h=>by simp only[VR]at h ⊢;obtain⟨y,h1,h2⟩:=h;exact⟨y,h1,VRn.lvl h2⟩
 |.agg cs,v,h=>by simp only[VR]at h ⊢;obtain⟨vs,h1,h2⟩:=h;exact⟨vs,h1,VRLn.lvl h2⟩
 |.tup cs,v,h=>by simp only[VR]at h ⊢;obtain⟨vs,h1,h2⟩:=h;exact⟨vs,h1,VRLn.lvl h2⟩
 |.any,v,h=>by simp only[VR]
 |.bool b,v,h=>by simpa only[VR]using h
 |.int k n,v,h=>by simpa only[VR]using h
 |.str b,v,h=>by simpa only[VR]using h
 |.nilp,v,h=>by simpa only[VR]using h
 |.nils,v,h=>by simpa only[VR]using h
 |.mapn,v,h=>by simpa only[VR]using h
 |.nilf,v,h=>by simpa only[VR]using h
 |.nili,v,h=>by simpa only[VR]using h
 |.sl t xs fl,v,h=>by simpa only[VR]using h
theorem VRLn.lvl{lv':Nat}:∀{cs:List (TV D.T)}{vs:List V},VRL D [] lv cs vs->VRL D [] lv' cs vs
 |[],vs,h=>by simpa only[VRL]using h
 |c::cs,vs,h=>by simp only[VRL]at h ⊢;obtain⟨v,r,h1,h2,h3⟩:=h;exact⟨v,r,h1,VRn.lvl h2,VRLn.lvl h3⟩
end
theorem DR.vs(hD:D.Ok P){H:zz2}{Dm:Nat->Nat->Prop}{t:DTy}{x:t.S D.T}{v:V}(h:DR D t x v) :
  VS H Dm v (D.el t x)∧∀(j:Nat) (u u':V),v.cells[j]? = some u->(D.el t x).cells[j]? = some u'->VS H Dm u u':=by
 have one:∀{t:DTy}{x:t.S D.T}{v:V},v.cells=[v]->(D.el t x).cells=[D.el t x]->VS H Dm v (D.el t x) ->
   VS H Dm v (D.el t x)∧∀(j:Nat) (u u':V),v.cells[j]? = some u->(D.el t x).cells[j]? = some u'->VS H Dm u u':=λ{t x v} h1 h2 h=>⟨h,λj u u' hu hu'=>by
  rw[h1]at hu;rw[h2]at hu'
  cases j with
  |zero=>simp at hu hu';subst hu;subst hu';exact h
  |succ j=>simp at hu⟩
 induction h with
 |bool b=>exact one rfl rfl (.keep _ (by simp[V.kin]))
 |int k n=>exact one rfl rfl (.keep _ (by simp[V.kin]))
 |str s=>exact one rfl rfl (.keep _ (by simp[V.kin]))
 |nat n=>exact one (t:=.nat) rfl rfl (.any _)
 |nil t=>exact one rfl rfl (.nil _ _)
 |sl t xs ws full hl h ih=>
  refine one rfl rfl (.sl _ _ _ _ (by simp[hl]) (λj a b ha hb =>?_) λj a b q v u ha hb hv hu =>?_);rw[Qan,Qaf]at hb;obtain⟨x,hx,rfl⟩:=hb;rw[(h j x a hx ha).cells hD,zw0 hD];rw[Qan,Qaf]at hb;obtain⟨x,hx,rfl⟩:=hb
  exact(ih j x a hx ha).2 q v u hv hu
 |st i x vs hl h ih=>
  have cell:∀(j:Nat) (u u':V),vs[j]? = some u->(D.els (D.fl i) (D.get i x))[j]? = some u'->VS H Dm u u':=λj u u' hu hu'=>by
   rw[zs9,Qaf]at hu';obtain⟨p,hp,rfl⟩:=hu';exact(ih j p u hp hu).1
  have e:D.el (.st i) x = .agg (D.els (D.fl i) (D.get i x)):=hD.enc i x;rw[e]
  exact⟨.agg _ _ (by rw[zli,hl]) cell,λj u u' hu hu'=>cell j u u' hu hu'⟩
 |enc i x=>exact⟨.keep _ (hD.kin i x _),λj u u' hu hu'=>by
  rw[show D.el (.st i) x=D.enc i x from rfl,hu]at hu';injection hu' with hu';subst hu'
  exact .keep _ (z2j (zax (hD.kin i x _)) j u hu)⟩
theorem VR.toDR(hD:D.Ok P){t:DTy}{x:t.S D.T}{v:V}(ht:t ≠ .nat)(h:VR D ρ lv (D.tv t x) v):DR D t x v:=by
 have leaf:∀{t:DTy}{x:t.S D.T}{v:V},t ≠ .nat->(∀i,t ≠ .st i)->VR D ρ lv (D.leaf t x) v->DR D t x v:=λ{t x v} h1 h2 h=>by
  cases t with
  |bool=>simp only[Dat.leaf,VR]at h;subst h;exact .bool _
  |int k=>simp only[Dat.leaf,VR]at h;subst h;exact .int _ _
  |str=>simp only[Dat.leaf,VR]at h;subst h;exact .str _
  |nat=>exact(h1 rfl).elim
  |sl t=>simp only[Dat.leaf,VR]at h;exact h.1
  |st i=>exact(h2 i rfl).elim
 cases t with
 |st i=>
  simp only[Dat.tv,VR]at h;obtain⟨vs,rfl,h⟩:=h;refine .st i x vs (by rw[<-h.length,z2s]) λj p u hp hu =>?_
  have hm:=hD.flat i p.1 (Qax (HL.z47 _ _ _ _ hp).2);have:=h.zg7 (j:=j) (c:=D.leaf p.1 p.2) (by rw[z5g,hp];rfl) hu;obtain⟨t,y⟩:=p;refine leaf (λe =>?_) (λi e =>?_) this;subst e;exact hm.elim
  subst e;exact hm.elim
 |nat=>exact(ht rfl).elim
 |bool=>exact leaf ht (by simp) h
 |int k=>exact leaf ht (by simp) h
 |str=>exact leaf ht (by simp) h
 |sl t=>exact leaf ht (by simp) h
def zx4:List Sh->Bool
 |[]=>true
 |.d t::l => !decide (t = .nat)&&zx4 l
 |_=>false
def canon(D:Dat):(l:List Sh)->HL D.T (Sh.kzs l)->List V
 |[],_=>[]
 |.d t::l,x=>D.el t (HL.fst (Sh.tys (.d t)) x).1::canon D l (HL.snd (Sh.tys (.d t)) x)
 |s::l,x=>.any::canon D l (HL.snd s.tys x)
theorem VRL.lvl{lv':Nat}{cs:List (TV D.T)}{vs:List V}(h:VRL D [] lv cs vs):VRL D [] lv' cs vs:=VRLn.lvl h
theorem zq8(hD:D.Ok P):∀{l:List Sh}{x:HL D.T (Sh.kzs l)},zx4 l=true->VRL D ρ lv (yzu D (λk=>k) l x) (canon D l x)
 |[],x,h=>(by simp only[VRL]:VRL D ρ lv [] [])
 |.d t::l,x,h=>by
  simp only[zx4,Qag]at h;show VRL D ρ lv (D.tv t (HL.fst (Sh.tys (.d t)) x).1::yzu D (λk=>k) l (HL.snd (Sh.tys (.d t)) x)) (D.el t (HL.fst (Sh.tys (.d t)) x).1::canon D l (HL.snd (Sh.tys (.d t)) x));simp only[VRL];exact⟨_,_,rfl,VR.tv hD (DR.el t _),zq8 hD h.2⟩
theorem zu2(hD:D.Ok P){H:zz2}{Dm:Nat->Nat->Prop}:∀{l:List Sh}{x:HL D.T (Sh.kzs l)}{vs:List V},zx4 l=true->VRL D ρ lv (yzu D (λk=>k) l x) vs->VSL H Dm vs (canon D l x)
 |[],x,vs,h,hv=>by
  replace hv:VRL D ρ lv [] vs:=hv
  simp only[VRL]at hv;subst hv;exact .nil
 |.d t::l,x,vs,h,hv=>by
  simp only[zx4,Qag,Bool.not_eq_true',decide_eq_false_iff_not]at h;replace hv:VRL D ρ lv (D.tv t (HL.fst (Sh.tys (.d t)) x).1::yzu D (λk=>k) l (HL.snd (Sh.tys (.d t)) x)) vs:=hv;simp only[VRL]at hv;obtain⟨v,r,rfl,h1,h2⟩:=hv;exact .cons ((VR.toDR hD h.1 h1).vs hD).1 (zu2 hD h.2 h2)
theorem y6l{H:zz2}{Dm:Nat->Nat->Prop}{vs us:List V}(h:VSL H Dm vs us):VS H Dm (z3x vs) (z3x us):=by
 cases h with
 |nil=>exact .y2v .nil
 |cons h1 r=>
  cases r with
  |nil=>exact h1
  |cons h2 r=>exact .y2v (.cons h1 (.cons h2 r))
theorem y7d(hD:D.Ok P){e:Ent D}{fn:Func}{code:Code}{nt:Nat}{l:LSh}{pack:HL D.T l.tys->R}{un:R->HL D.T (Sh.kzs e.outs++zzl e.ros)}{go:HL D.T (Sh.kzs e.args++zzl e.aos)->Option R}
  (hf:P.funcs[e.f]? = some fn) (hb:fn.body=some code) (hnt:fn.ntmps=nt) (hent:∀args w,(callFunc e.f args).run P w = .ok (.enter e.f args) w) (hargs:e.args.length<=nt)
  (hgo:∀(R':Type) (x:HL D.T (Sh.kzs e.args++zzl e.aos)) (k:HL D.T (Sh.kzs e.outs++zzl e.ros)->Option R') (kp:HL D.T (e.pan.tys++zzl e.pos)->Option R'),e.go x k kp=(go x).bind λr=>k (un r))
  (hpure:e.pure=true) (hren:e.ren=[]) (haos:e.aos=[]) (hros:e.ros=[]) (houts:zx4 e.outs=true) (hp2:l.pin<=l.os.length)
  (hout:∀x,zg9 P D (l.bld D x) fn.results.toList=some (yzu D (λk=>k) e.outs (HL.fst _ (un (pack x)))))
  (hrun:zy5 P D code e.p e.args e.aos nt [] (zl0 D l pack) go):e.Ok P:=λR' x k kp r h=>by
 rw[hpure];rw[hgo]at h;obtain⟨r0,h1,h2⟩:=zij h;refine⟨un r0,h2,haos,hros,hren,λlv0 vargs k2=>⟨canon D e.outs (HL.fst _ (un r0)),λρ lv=>zq8 hD houts,?_⟩⟩
 have hvl:vargs.length=e.args.length:=by
  rw[<-k2.length]
  have:∀(l:List Sh) (y:HL D.T (Sh.kzs l)),(yzu D (λk=>k) l y).length=l.length:=λl=>by
   induction l with
   |nil=>intro y;rfl
   |cons s l ih=>intro y;show(z7q D (λk=>k) s (HL.fst _ y)::yzu D (λk=>k) l (HL.snd _ y)).length=_;rw[List.length_cons,ih,List.length_cons]
  exact this _ _
 refine y3y hf hb hnt hent λlv E =>?_
 let F:Fr:=⟨lv+1,E,E,[],λi=>False,[],[]⟩
 have hnob:∀s (o:TO D.T),fnd (z0c D (λk=>k) e.aos 0 (HL.snd _ x)) s=some o->False:=λs o ho=>by
  obtain⟨j,_,hlt,_⟩:=zd4 e.aos (z1w ho);rw[haos]at hlt;simp at hlt
 have k2':VRL D [] (lv+1) (yzu D (λk=>k) e.args (HL.fst _ x)) vargs:=VRL.lvl k2
 have hR0:TRr D F [] (entry D e.args e.aos nt [] x) ⟨vargs++List.replicate (nt-vargs.length) .any,⟨lv+1,[],E⟩,[],E⟩:=by
  refine⟨by simp only[entry,haos];rfl,by simp only[entry,Qap,List.length_replicate];omega,zcx _ k2',λs o ho=>(hnob s o ho).elim,λs s' o o' sl sl' i a1=>(hnob s o a1).elim,λs o sl i a1=>(hnob s o a1).elim,rfl,rfl,rfl,rfl,λi hi=>hi.elim,λj sl hj=>by simp[F]at hj,λs o sl i a1=>(hnob s o a1).elim,λi s v h=>by simp[entry]at h⟩
 refine zuc ((hrun F _ r0 rfl (by simp[F]) (zym hD (by simp[F]) hp2) x _ hR0.tr h1).mono λex σ hq =>?_)
 have key:∀ex,(ex = .normal∨ex = .ret)->(∃x,pack x=r0∧TR D F (l.bld D x) σ)->∃τ,zag σ τ∧(∀v,ex ≠ .panic v)∧Ends P fn lv E (z3x (canon D e.outs (HL.fst _ (un r0)))) ex τ:=λex hex ⟨y,hy,τ,ρ',w1,w2⟩=>by
  subst hy;obtain⟨vs,q1,q2⟩:=z5f hD w2 (hout y);have hv:=y6l (zu2 hD (H:=τ.H) (Dm:=outer lv) houts q2);refine⟨τ,w1,λv e=>by rcases hex with h|h <;> (rw[h]at e;cases e),?_⟩
  rcases hex with rfl|rfl
  exact⟨z3x vs,by simp only[z32,q1,Qbn],w2.d,w2.E,hv⟩;exact⟨z3x vs,by simp only[z32,q1,Qbn],w2.d,w2.E,hv⟩
 cases ex with
 |normal=>exact key _ (.inl rfl) hq
 |ret=>exact key _ (.inr rfl) hq
 |exit id=>exact hq.elim
 |panic v=>exact hq.elim
structure FI(D:Dat) where
 R:Type
 ent:Nat->Ent D
 c:AC
 K:Ks D.T R
 p:Nat
 args:List Sh
 aos:List OSh
 nt:Nat
 gs:List Nat:=[]
 z16:Nat->List (Nat×Lb D R)
 go:Nat->HL D.T (Sh.kzs args++zzl aos)->Option R
def zjg{α:Type}(φ:Nat->α->Prop):List (Nat×α)->Prop
 |[]=>True
 |p::l=>φ p.1 p.2∧zjg φ l
theorem zjg.get{α:Type}{φ:Nat->α->Prop}:∀{l:List (Nat×α)}{j:Nat}{a:α},zjg φ l->(j,a)∈l->φ j a
 |p::l,j,a,h,hm=>by
  rcases Qbi.1 hm with hm|hm
  subst hm;exact h.1;exact zjg.get h.2 hm
noncomputable def zih(P:Program)(D:Dat){R:Type}(tbl:List (Ent D))(J:Nat->TS D.T->Option R)(l:Nat)(c:AC)(K:Ks D.T R)(ts:TS D.T):Option R :=
 match AC.at P D tbl J l c K (λ_=>none)with
 |some g=>g ts
 |none=>none
structure FI.Good(P:Program)(D:Dat)(tbl:Nat->List (Ent D))(f:FI D):Prop where
 nodup:f.c.labels.Nodup
 zero:∀x,f.go 0 x=none
 lzero:∀l lb x,fnd (f.z16 0) l=some lb->lb.go x=none
 pins:∀n l lb,fnd (f.z16 n) l=some lb->f.p<=lb.sh.pin∧lb.sh.pin<=lb.sh.os.length
 step:∀n x,f.go (n+1) x=run P D (tbl n) (jump D (f.z16 n)) f.c (entry D f.args f.aos f.nt f.gs x) f.K
 lstep:∀n l lb x,fnd (f.z16 (n+1)) l=some lb->lb.go x=zih P D (tbl n) (jump D (f.z16 n)) l f.c f.K (lb.sh.bld D x)
 ok:∀n,zy5 P D f.c.erase f.p f.args f.aos f.nt f.gs f.K (f.go n)->(f.ent n).Ok P
 zbp:∀q∈f.c.zbp,zd1 P q
def FI.zjf(P:Program)(D:Dat)(f:FI D)(n:Nat):Prop :=
 ∀F Q r,F.E=F.e0->F.pin.length<=f.p->KOk D F f.K Q r->∀l a Q',f.c.site P l Q=some (a,Q')->∀ts σ,TR D F ts σ->jump D (f.z16 n) l ts=some r->a.Claim P σ Q'
theorem FI.Good.z16(hD:D.Ok P){tbl:Nat->List (Ent D)}{f:FI D}(h:f.Good P D tbl):∀n,(∀m,m<n->∀e∈tbl m,e.Ok P)->f.zjf P D n
 |0,_=>λF Q r hF hp hK l a Q' hs ts σ hT hj=>by
  unfold jump at hj;split at hj;rename_i lb hlb;obtain⟨p1,p2⟩:=h.pins 0 l lb hlb;obtain⟨x,h1,_⟩:=LSh.z1b hD (by omega) p2 hT hj;rw[h.lzero l lb x hlb]at h1;cases h1
  cases hj
 |n+1,ht=>λF Q r hF hp hK l a Q' hs ts σ hT hj=>by
  have ih:=FI.Good.z16 hD h n λm hm=>ht m (by omega)
  unfold jump at hj;split at hj;rename_i lb hlb;obtain⟨p1,p2⟩:=h.pins (n+1) l lb hlb;obtain⟨x,h1,h2⟩:=LSh.z1b hD (by omega) p2 hT hj;rw[h.lstep n l lb x hlb]at h1;unfold zih at h1;split at h1;rename_i g hg
  obtain⟨a',Q'',e1,e2⟩:=z7a hD (ht n (by omega)) hF h.zbp hK (λb _ ts σ _ hk=>by cases hk) (z6a (P:=P) (φ:=LOk P D F (jump D (f.z16 n)) r) h.nodup λl a Q' hs ts σ hT hj=>ih F Q r hF hp hK l a Q' hs ts σ hT hj) hg
  rw[hs]at e1;injection e1 with e1;injection e1 with e1 e3;subst e1;subst e3
  exact e2 _ σ h2 h1;cases h1;cases hj
theorem FI.Good.runs(hD:D.Ok P){tbl:Nat->List (Ent D)}{f:FI D}(h:f.Good P D tbl):∀n,(∀m,m<n->∀e∈tbl m,e.Ok P)->zy5 P D f.c.erase f.p f.args f.aos f.nt f.gs f.K (f.go n)
 |0,_=>λF Q r hF hp hK x σ hT hg=>by rw[h.zero]at hg;cases hg
 |n+1,ht=>λF Q r hF hp hK x σ hT hg=>by
  rw[h.step]at hg;have ih:=h.z16 hD n λm hm=>ht m (by omega)
  exact z0w hD (ht n (by omega)) hK (z6a (P:=P) (φ:=LOk P D F (jump D (f.z16 n)) r) h.nodup λl a Q' hs ts σ hT hj=>ih F Q r hF hp hK l a Q' hs ts σ hT hj) hT hg
theorem ring(hD:D.Ok P){fs:List (FI D)}{base:Nat->List (Ent D)}(hb:∀n,∀e∈base n,e.Ok P)(h:∀f∈fs,f.Good P D λn=>fs.map (·.ent n)++base n):∀n,∀f∈fs,(f.ent n).Ok P:=λn=>by
 induction n using Nat.strongRecOn with
 |ind n ih=>
  intro f hf;refine(h f hf).ok n ((h f hf).runs hD n λm hm e he =>?_)
  rcases List.mem_append.1 he with he|he
  obtain⟨g,hg,rfl⟩:=Qbd.1 he;exact ih m hm g hg;exact hb m e he
end
section
variable {P : Program} {D : Dat} {R : Type}
def FI.of(D:Dat)(f nt p:Nat)(args:List Sh)(aos:List OSh)(outs:List Sh)(ros:List OSh)(pure:Bool)(l:LSh){R:Type}(pack:HL D.T l.tys->R)(un:R->HL D.T (Sh.kzs outs++zzl ros))
  (go:Nat->HL D.T (Sh.kzs args++zzl aos)->Option R) (z16:Nat->List (Nat×Lb D R)) (c:AC) (gs:List Nat:=[]):FI D :=
 {R:=R,ent:=λn=>{f:=f,p:=p,args:=args,aos:=aos,outs:=outs,ros:=ros,pan:=.nilp,pos:=ros,pure:=pure,go:=λx k _=>(go n x).bind λr=>k (un r),ren:=gs.map λk=>(k,k)},
   c:=c,K:=zl0 D l pack,p:=p,args:=args,aos:=aos,nt:=nt,gs:=gs,z16:=z16,go:=go}
def tb(l:List (FI D))(n:Nat):List (Ent D):=l.map (·.ent n)
def FOk(P:Program)(f:FI D):Prop:=∀n,(f.ent n).Ok P
def OkL(P:Program):List (FI D)->Prop
 |[]=>True
 |f::l=>FOk P f∧OkL P l
def zvr(P:Program)(tbl:Nat->List (Ent D)):List (FI D)->Prop
 |[]=>True
 |f::l=>f.Good P D tbl∧zvr P tbl l
theorem OkL.get:∀{l:List (FI D)}{f:FI D},OkL P l->f∈l->FOk P f
 |g::l,f,h,hm=>by
  rcases Qbi.1 hm with rfl|hm
  exact h.1;exact OkL.get h.2 hm
theorem OkL.of:∀{l:List (FI D)},(∀f∈l,FOk P f)->OkL P l
 |[],h=>trivial
 |f::l,h=>⟨h f Qak,OkL.of λg hg=>h g (Qai _ hg)⟩
theorem zvr.get{tbl:Nat->List (Ent D)}:∀{l:List (FI D)}{f:FI D},zvr P tbl l->f∈l->f.Good P D tbl
 |g::l,f,h,hm=>by
  rcases Qbi.1 hm with rfl|hm
  exact h.1;exact zvr.get h.2 hm
theorem y09(hD:D.Ok P){fs bs:List (FI D)}(hb:OkL P bs)(h:zvr P (tb (fs++bs)) fs):OkL P fs :=
 OkL.of λf hf n=>ring hD (base:=λn=>bs.map (·.ent n)) (λn e he=>by
  obtain⟨b,hm,rfl⟩:=Qbd.1 he
  exact hb.get hm n) (λg hg=>by
  have:=h.get hg;have e:(tb (fs++bs))=λn=>fs.map (·.ent n)++bs.map (·.ent n):=by funext n;simp[tb]
  rw[e]at this
  exact this) n f hf
def y08:List Nat->List Nat->Bool
 |[],[]=>true
 |a::l,b::r=>Nat.beq a b&&y08 l r
 |_,_=>false
theorem zuv:∀{a b:List Nat},y08 a b=true->a=b
 |[],[],_=>rfl
 |[],_::_,h=>by cases h
 |_::_,[],h=>by cases h
 |a::l,b::r,h=>by
  simp only[y08,Qag]at h;rw[Qaj h.1,zuv h.2]
def chkB(p nt:Nat)(args outs:List Sh)(aos ros:List OSh)(pure:Bool)(l:LSh)(c:AC)(gs:List Nat):Bool :=
 Nat.ble args.length nt&&Nat.ble p l.pin&&Nat.ble l.pin l.os.length &&
 (match pure with
  |true=>aos.isEmpty&&ros.isEmpty&&zx4 outs&&gs.isEmpty
  |false=>Nat.beq l.os.length ros.length&&y08 l.gs gs&&gs.all (gsB aos))
def zmx(p:Nat):List (Nat×Lb D R)->Bool
 |[]=>true
 |(_,lb)::r=>Nat.ble p lb.sh.pin&&Nat.ble lb.sh.pin lb.sh.os.length&&zmx p r
theorem zig{p:Nat}:∀{l:List (Nat×Lb D R)},zmx p l=true->zjg (λ_ lb=>p<=lb.sh.pin∧lb.sh.pin<=lb.sh.os.length) l
 |[],h=>trivial
 |(_,lb)::r,h=>by
  simp only[zmx,Qag,Nat.ble_eq]at h;exact⟨h.1,zig h.2⟩
theorem FI.zro{hD:D.Ok P}{f nt p:Nat}{args:List Sh}{aos:List OSh}{outs:List Sh}{ros:List OSh}{pure:Bool}{l:LSh}{pack:HL D.T l.tys->R}{un:R->HL D.T (Sh.kzs outs++zzl ros)}
  {go:Nat->HL D.T (Sh.kzs args++zzl aos)->Option R} {z16:Nat->List (Nat×Lb D R)}{c:AC}{gs:List Nat}{tbl:Nat->List (Ent D)}{fn:Func}
  (hf:P.funcs[f]? = some fn) (hnt:fn.ntmps=nt) (hent:∀args w,(callFunc f args).run P w = .ok (.enter f args) w)
  (hb:fn.body=some c.erase) (hnd:c.labels.Nodup) (hchk:chkB p nt args outs aos ros pure l c gs=true) (hp:∀n,zmx p (z16 n)=true)
  (hout:∀x,zg9 P D (l.bld D x) fn.results.toList=some (yzu D (λk=>k) outs (HL.fst _ (un (pack x)))))
  (hz:∀x,go 0 x=none) (hlz:zjg (λ_ lb=>∀x,lb.go x=none) (z16 0))
  (hs:∀n x,go (n+1) x=run P D (tbl n) (jump D (z16 n)) c (entry D args aos nt gs x) (zl0 D l pack))
  (hls:∀n,zjg (λj lb=>∀x,lb.go x=zih P D (tbl n) (jump D (z16 n)) j c (zl0 D l pack) (lb.sh.bld D x)) (z16 (n+1)))
  (hros:∀x,pure=true∨(l.bld D x).o=z0c D (λk=>k) ros 0 (HL.snd _ (un (pack x)))) (hrng:c.zbp=[]:=by kernel_rfl) :
  (FI.of D f nt p args aos outs ros pure l pack un go z16 c gs).Good P D tbl where
 nodup:=hnd
 zbp:=λq hq=>by replace hq:q∈c.zbp:=hq;rw[hrng]at hq;cases hq
 zero:=hz
 lzero:=λj lb x h=>hlz.get (z1w h) x
 pins:=λn j lb h=>(zig (hp n)).get (z1w h)
 step:=hs
 lstep:=λn j lb x h=>(hls n).get (z1w h) x
 ok:=λn h=>by
  simp only[chkB,Qag,Nat.ble_eq]at hchk;obtain⟨⟨⟨h1,h2⟩,h3⟩,h4⟩:=hchk
  cases pure with
  |true=>
   simp only[Qag,List.isEmpty_iff]at h4;obtain⟨⟨⟨rfl,rfl⟩,h6⟩,rfl⟩:=h4
   exact y7d (l:=l) (pack:=pack) (un:=un) (go:=go n) (code:=c.erase) hD hf hb hnt hent h1 (λ_ _ _ _=>rfl) rfl rfl rfl rfl h6 h3 hout h
  |false=>
   simp only[Qag]at h4;obtain⟨⟨h4,h5⟩,h6⟩:=h4;exact y86 (gs:=gs) (l:=l) (pack:=pack) (un:=un) (go:=go n) (code:=c.erase) hD hf hb hnt hent h1 (λ_ _ _ _=>rfl) rfl rfl rfl (zuv h5) h6 h2 h3 (Qaj h4) (λx=>⟨hout x,(hros x).resolve_left (by simp)⟩) h
end
section
variable {P : Program} {D : Dat} {F : Fr} {ρ : List Slot} {ts : TS D.T} {σ : St} {lv : Nat} {R X : Type}
theorem zie(hD:D.Ok P)(hR:TRr D F ρ ts σ){pan:Sh}{pos:List OSh}{p:Nat}{z:TV D.T}{v:V}{x:HL D.T (pan.tys++zzl pos)}(hp:F.pin.length<=p)(hp2:p<=pos.length)(hz:VR D ρ F.lv z v)(h:zwo D pan pos p z ts=some x) :
  ∃ρ',TRr D F ρ' ⟨[],z0c D (λk=>k) pos 0 (HL.snd _ x),pos.length,ts.nt,[],[]⟩ σ∧VR D ρ' F.lv (z7q D (λk=>k) pan (HL.fst _ x)) v:=by
 unfold zwo at h;split at h
 ·rename_i hde;split at h
  ·rename_i M y hy;split at h
   ·rename_i M' w hw;injection h with h;subst h;obtain⟨a1,a2,a3⟩:=z94 hD pan hy hz;obtain⟨b1,b2,b3,b4⟩:=z9m hD hR pos hw;have hM:MOk pos.length M':=b2 (a2 ⟨λk src h=>by have:=(z7f h).1;omega,λk k' s h h'=>by have e:=(z7f h).2;have e':=(z7f h').2;injection e with e;injection e' with e';omega,λk src hm=>zm4 hm⟩);obtain⟨ρ',c1,c2,c3⟩:=zx5 hR hM λj hj=>by simpa using b3 j hj
    rw[HL.z9u,HL.z9y]
    have place:∀s sl i,ρ'[s]? = some sl->sl.has i->∃s0 o0,fnd M' s=some (.slot s0)∧fnd ts.o s0=some o0∧o0.live∧ρ[s0]? = some sl:=λs sl i hs hk=>by
     obtain⟨src,e1,e2⟩:=c3 s sl hs
     cases src with
     |nil=>simp only[Src.is]at e2;subst e2;rcases hk with h|h <;> cases h
     |slot s0=>
      obtain⟨src',e3,e4⟩:=b3 s (by rw[<-c1];exact(Qaa.1 hs).1)
      rw[Nat.zero_add,e1]at e3;injection e3 with e3;subst e3
      obtain⟨o0,f1,f2⟩:=e4 s0 rfl;exact⟨s0,o0,e1,f1,f2,e2⟩
    refine⟨ρ',⟨c1,hR.nt,λj c hj=>by simp[fnd]at hj,λs o ho =>?_,λs s' o o' sl sl' i h1 h2 l1 l2 r1 r2 k1 k2 =>?_,λs o sl i h1 l1 r1 k1 =>?_,hR.lv,hR.E,hR.e0,(by have:=hR.d;rw[hde]at this;exact this),hR.out,λj sl hj =>?_,λs o sl i h1 l1 r1 k1=>by
     obtain⟨s0,o0,d1,d2,d3,d4⟩:=place s sl i r1 (.inr k1)
     exact hR.fpl s0 o0 sl i d2 d3 d4 k1,λi s v h=>by simp at h⟩,a3 ρ' (b1.agr c2)⟩
    rotate_right
    have hlt:=(Qaa.1 hj).1;obtain⟨sl',e1,e2⟩:=c2 j _ (b1 _ _ (a1 _ _ (zjb (n:=p) (k:=j) (by omega))));simp only[Src.is]at e2
    rw[hR.pin j sl hj]at e2;injection e2 with e2;subst e2;exact e1
    obtain⟨_,_,_,sl,e1,e2⟩:=b4 ρ' c2 s o (z1w ho);exact⟨sl,e1,e2⟩;obtain⟨s0,o0,d1,d2,d3,d4⟩:=place s sl i r1 k1;obtain⟨s1,o1,e1,e2,e3,e4⟩:=place s' sl' i r2 k2;have:=hR.inj s0 s1 o0 o1 sl sl' i d2 e2 d3 e3 d4 e4 k1 k2;subst this;exact hM.inj s s' s0 d1 e1;obtain⟨s0,o0,d1,d2,d3,d4⟩:=place s sl i r1 k1;exact hR.mine s0 o0 sl i d2 d3 d4 k1
   cases h
  cases h
 cases h
def z2k(lv:Nat)(L:List (Option yz4))(E:Nat->Nat->Option yz4)(ρ0:List Slot)(p:Nat):Fr :=
 ⟨lv,E,E,L,λi=>i<L.length∧∀(k:Nat) (sl0:Slot),ρ0[k]? = some sl0->¬sl0.has i,ρ0.take p,[]⟩
theorem zlh{L:List (Option yz4)}{E:Nat->Nat->Option yz4}{ρ0 ρ':List Slot}{p:Nat}{os:List OSh}{y:HL D.T (zzl os)}{τ:St}(hR:TRr D (z2k lv L E ρ0 p) ρ' ts τ)(ho:ts.o=z0c D (λk=>k) os 0 y)(hnx:ts.nx=os.length) :
  τ.H=⟨lv,τ.H.L,E⟩∧Left D lv L ρ0 p τ.H.L ρ' os y:=by
 have hlen':ρ'.length=os.length:=by rw[hR.nx,hnx]
 have live:∀s sl,ρ'[s]? = some sl->∃o,fnd ts.o s=some o∧o.live:=λs sl hs=>by
  rw[ho];exact zis os (Qbp _) (by rw[Nat.zero_add,<-hlen'];exact(Qaa.1 hs).1)
 refine⟨zar (F:=z2k lv L E ρ0 p) τ.H hR.lv hR.E,hlen',λj o hm =>?_,λs s' sl sl' i r1 r2 c1 c2 =>?_,λs sl i r1 c1 =>?_,λi hi hno=>hR.out i ⟨hi,hno⟩,λj sl hj hs =>?_,λs sl i r1 c1=>by
  obtain⟨o,a1,a2⟩:=live s sl r1
  exact hR.fpl s o sl i a1 a2 r1 c1⟩
 exact hR.ob j o (by rw[ho];exact zj0 os hm);obtain⟨o,a1,a2⟩:=live s sl r1;obtain⟨o',b1,b2⟩:=live s' sl' r2;exact hR.inj s s' o o' sl sl' i a1 b1 a2 b2 r1 r2 c1 c2;obtain⟨o,a1,a2⟩:=live s sl r1;have:=hR.mine s o sl i a1 a2 r1 c1;by_cases hlt:i<L.length;right;by_cases hex:∃(k:Nat) (sl0:Slot),ρ0[k]? = some sl0∧sl0.has i;exact hex;exact(this ⟨hlt,λk sl0 e1 e2=>hex ⟨k,sl0,e1,e2⟩⟩).elim;left;omega
 exact hR.pin j sl (by simp only[z2k,Qaw];rw[Qbr hj];exact hs)
theorem zke:∀(l:List Sh) (y:HL D.T (Sh.kzs l)),(yzu D (λk=>k) l y).length=l.length
 |[],_=>rfl
 |s::l,y=>by
  show(z7q D (λk=>k) s (HL.fst _ y)::yzu D (λk=>k) l (HL.snd _ y)).length=_;rw[List.length_cons,zke l,List.length_cons]
structure zvc(D:Dat)(lv:Nat)(L:List (Option yz4))(ρ0:List Slot)(args:List Sh)(aos:List OSh)(x:HL D.T (Sh.kzs args++zzl aos))(vargs:List V):Prop where
 len:ρ0.length=aos.length
 args:VRL D ρ0 lv (yzu D (λk=>k) args (HL.fst _ x)) vargs
 ob:∀j o,(j,o)∈z0c D (λk=>k) aos 0 (HL.snd _ x)->∃sl,ρ0[j]? = some sl∧OR D ρ0 lv L sl o
 inj:SlOk L ρ0
theorem zvc.entry{L:List (Option yz4)}{E:Nat->Nat->Option yz4}{ρ0:List Slot}{args:List Sh}{aos:List OSh}{x:HL D.T (Sh.kzs args++zzl aos)}{vargs:List V}(h:zvc D lv L ρ0 args aos x vargs)(p:Nat){nt:Nat}(hargs:args.length<=nt) :
  TRr D (z2k lv L E ρ0 p) ρ0 (entry D args aos nt [] x) ⟨vargs++List.replicate (nt-vargs.length) .any,⟨lv,L,E⟩,[],E⟩:=by
 have hvl:vargs.length=args.length:=by rw[<-h.args.length];exact zke _ _
 refine⟨h.len,by simp only[Ab.entry,Qap,List.length_replicate];omega,zcx _ h.args,λs o ho=>h.ob s o (z1w ho),λs s' o o' sl sl' i a1 a2 l1 l2 r1 r2=>h.inj.1 s s' sl sl' i r1 r2,λs o sl i a1 l1 r1 hk ho=>ho.2 s sl r1 hk,rfl,rfl,rfl,rfl,λi hi=>⟨hi.1,rfl⟩,λj sl hj =>?_,λs o sl i a1 l1 r1 hk=>h.inj.2 s sl i r1 hk,λi s v hi=>by simp[Ab.entry]at hi⟩;simp only[z2k,Qaw]at hj
 split at hj;exact hj;cases hj
def y2x(D:Dat)(lv:Nat):(m:Option Sh)->HL D.T (zle m)->zb4->Prop
 |none,_,am=>am = .ret
 |some s,x,am=>∃v,am = .pan v false∧VR D [] lv (z7q D (λk=>k) s x) v
def zji.Ok(P:Program)(de:zji D):Prop:=∀x mx y,de.go x mx=some y->∀(lv:Nat) (L:List (Option yz4)) (E:Nat->Nat->Option yz4) (ρ0:List Slot) (vargs:List V),zvc D lv L ρ0 de.args de.aos x vargs ->
 ∀(am:zb4),y2x D lv de.m mx am->∀(W:World) (g:Gh) (cargs:Array Value) (u:FrameMode),Good W g ⟨lv,L,E⟩->z84 W g ⟨lv,L,E⟩ vargs cargs->zri W g ⟨lv,L,E⟩ am u ->
  (∀w,(callFunc de.f cargs).run P w = .ok (.enter de.f cargs) w)∧CallsD P de.f cargs u W (λe u' W'=>∃v L' g' ρ',e = .returned v∧Step W g ⟨lv,L,E⟩ W' g' ⟨lv,L',E⟩∧Good W' g' ⟨lv,L',E⟩∧settle u' = .returning∧Left D lv L ρ0 de.aos.length L' ρ' de.ros y)
def y6q(D:Dat)(ρ:List Slot)(lv:Nat)(z:Option (TV D.T))(am:zb4):Prop:=match z with
 |none=>am = .ret
 |some z=>∃v,am = .pan v false∧VR D ρ lv z v
theorem zpv(hD:D.Ok P){m:Option Sh}{z:Option (TV D.T)}{mx:HL D.T (zle m)}(h:zt2 D m z=some mx){am:zb4}(hz:y6q D ρ lv z am):y2x D lv m mx am:=by
 cases m with
 |none=>
  cases z with
  |none=>exact hz
  |some z=>cases h
 |some s=>
  cases z with
  |none=>cases h
  |some z=>
   simp only[zt2]at h;split at h;rename_i M x hx;injection h with h;subst h;obtain⟨v,h1,h2⟩:=hz;obtain⟨a1,a2,a3⟩:=z94 hD s hx h2;refine⟨v,h1,a3 [] λk src hk =>?_⟩;have hM:=a2 ⟨λk src h=>by simp[fnd]at h,λk k' s h=>by simp[fnd]at h,λk src h=>by cases h⟩;exact absurd (hM.lt k src hk) (by omega);cases h
theorem zk0(hD:D.Ok P){des:List (zji D)}(hdes:∀de∈des,de.Ok P){fn:Func}{tm:Array Value}{k:TS D.T->Option R}{kp:TV D.T->TS D.T->Option R}{r:R}{R':Ending->World->Prop}{W0:World}{g0:Gh}{H0:zz2}
  (hk:∀ts σ ρ a W g,TRr D F ρ ts σ->kz8 W a g σ->Step W0 g0 H0 W g σ.H->a.tmps=tm->k ts=some r->∃c,(results fn tm).run P W = .ok c W∧R' (.returned c) W)
  (hkp:∀z ts σ ρ a W g v c,TRr D F ρ ts σ->kz8 W a g σ->Step W0 g0 H0 W g σ.H->VR D ρ F.lv z v->Rel W g σ.H v c->kp z ts=some r->R' (.panicked [{v:=c,recovered:=false}]) W) :
  ∀(l:List (Nat×List (TV D.T))) (z:Option (TV D.T)) (am:zb4) (ts:TS D.T) (σ:St) (ρ:List Slot) (a:Act) (W:World) (g:Gh) (u:FrameMode),ts.d=l->TRr D F ρ ts σ->kz8 W a g σ->Step W0 g0 H0 W g σ.H->a.tmps=tm->zri W g σ.H am u ->
   y6q D ρ F.lv z am->z5e D des k kp l z ts=some r->Leaves P fn tm R' a.defers u W
 |[],z,am,ts,σ,ρ,a,W,g,u,hd,hR,hG,hS,htm,hM,hz,h=>by
  have hd0:σ.d=[]:=by have:=hR.d;rw[hd]at this;exact this
  have hd1:a.defers=[]:=Qao (by rw[hG.dlen,hd0];rfl);rw[hd1]
  cases z with
  |none=>
   have hz:am = .ret:=hz;subst hz;have hu:u = .returning:=hM;subst hu
   exact hk ts σ ρ a W g hR hG hS htm h
  |some z=>
   obtain⟨v,rfl,hv⟩:=hz;obtain⟨c,h1,h2⟩:=hM;subst h1
   exact hkp z ts σ ρ a W g v c hR hG hS hv h2 h
 |(f,vs)::l,z,am,ts,σ,ρ,a,W,g,u,hd,hR,hG,hS,htm,hM,hz,h=>by
  simp only[z5e]at h;have hdl:=hR.d;rw[hd]at hdl;obtain⟨vargs,s,hs1,hs2,hs3⟩:=hdl;split at h
  case h_2=>cases h
  rename_i hfm;have hfm:f<zn6:=by rw[Nat.blt_eq]at hfm;exact hfm
  obtain⟨caps,as,k1,k2⟩:=(hG.defs 0 f vargs (by rw[hs1];rfl)).fn hfm
  obtain⟨d0,ds0,hds⟩:∃d0 ds0,a.defers=d0::ds0:=by
   cases hq:a.defers with
   |nil=>rw[hq]at k1;cases k1
   |cons d0 ds0=>exact⟨d0,ds0,rfl⟩
  rw[hds]at k1;simp only[Qbw,Qbo]at k1;subst k1
  have look:∀des':List (zji D),(∀de∈des',de∈des)->ziu D f vs z ts (λts'=>z5e D des k kp l none {ts' with d:=l}) des'=some r->Leaves P fn tm R' a.defers u W:=λdes'=>by
   induction des' with
   |nil=>intro _ h;cases h
   |cons de rest ih=>
    intro hmem h;have ih:=ih λe he=>hmem e (Qai _ he)
    simp only[ziu]at h;split at h;exact ih h;rename_i hf;have hf:=Qaj hf;split at h;exact ih h;rename_i mx hmx;split at h;rename_i M x hfit;split at h;rename_i hc;obtain⟨c1,c2⟩:=hc;obtain⟨y,hy,h⟩:=zzs h;obtain⟨hMok,ρ0,d1,d2,d3,d4,d5⟩:=Ent.z8p hD hR (e:=de.ent) hs2 hfit
    have hp:∀k,k<de.aos.length->∃s,fnd M k=some (.slot s):=λk hk=>by
     have:=Qat.1 c2 k (List.mem_range.2 hk);split at this;rename_i s hs;exact⟨s,hs⟩;cases this
    have hHeap:σ.H=⟨F.lv,σ.H.L,F.E⟩:=zar σ.H hR.lv hR.E;have hgiven:zvc D F.lv σ.H.L ρ0 de.args de.aos x vargs:=⟨d1,d4,d5,zj2 hR hMok d3⟩;have hde:=hdes de (hmem de Qak)
    have hmode:am = .ret∨∃v,am = .pan v false:=by
     cases z with
     |none=>exact .inl hz
     |some z=>obtain⟨v,h1,_⟩:=hz;exact .inr ⟨v,h1⟩
    have hG0:=hG.good;rw[hHeap]at hG0 k2 hM;obtain⟨e1,e2⟩:=hde x mx y hy F.lv σ.H.L F.E ρ0 vargs hgiven am (zpv hD hmx hz) W g (as++caps) u hG0 k2 hM;rw[hf]at e1 e2;rw[hds];have hu:u ≠ .run:=hM.run;refine leaves_cons hu (by show(callFunc f (as++caps)).run P W=_;exact e1 W) (e2.mono λe u' W' ⟨v,L',g',ρ',q1,q2,q3,q4,q5⟩ =>?_);subst q1;rw[<-hHeap]at q2
    obtain⟨g1,g2⟩:=TRr.after hR hD hMok d2 d3 (λk s hm=>hMok.one k _ hm) hp c1 q5
    have hR2:TRr D F (ρ++ρ'.drop de.aos.length) {z3s D M de.aos.length ts de.ros y with d:=l} {σ with H:=⟨F.lv,L',F.E⟩,d:=s}:=by
     have hd2:DfL D ρ F.lv l s:=hs3;exact⟨g1.nx,g1.nt,g1.tm,g1.ob,g1.inj,g1.mine,g1.lv,g1.E,g1.e0,hd2.more _,g1.out,g1.pin,g1.fpl,g1.g⟩
    have hG2:kz8 W' {a with defers:=ds0} g' {σ with H:=⟨F.lv,L',F.E⟩,d:=s}:=by
     have hl:=hG.dlen;rw[hds,hs1]at hl;refine⟨q3,hG.size,λj v hj=>(hG.tmps j v hj).mono q2,by simpa using hl,λj f' vs' hj =>?_⟩;have z1:=hG.defs (j+1) f' vs' (by rw[hs1];simpa using hj);rw[hds,List.getElem?_cons_succ]at z1;exact z1.mono hG.good q2
    exact zk0 hD hdes hk hkp l none .ret _ {σ with H:=⟨F.lv,L',F.E⟩,d:=s} _ {a with defers:=ds0} W' g' (settle u') rfl hR2 hG2 (hS.trans q2) htm q4 rfl h;cases h;exact ih h
  exact look des (λde h=>h) h
def EndQP(D:Dat)(F:Fr){Z:Type}(K:Ks D.T Z)(r:Z)(e:zz7)(σ:St):Prop :=
 match e with
 |.normal=>∃ts,TR D F ts σ∧K.kn ts=some r
 |.ret=>∃ts,TR D F ts σ∧K.kr ts=some r
 |.panic v=>∃ts ρ z,TRr D F ρ ts σ∧VR D ρ F.lv z v∧K.kp z ts=some r
 |.exit _=>False
theorem y5i{Z:Type}{K:Ks D.T Z}(hkx:K.kx=[]){r:Z}:KOk D F K (EndQP D F K r) r :=
 ⟨λts σ hT h=>⟨ts,hT,h⟩,λid k ts σ h=>by rw[hkx]at h;simp[fnd]at h,λts σ hT h=>⟨ts,hT,h⟩,λz ts σ ρ v hR hv h=>⟨ts,ρ,z,hR,hv,h⟩⟩
theorem zen(hD:D.Ok P){Z:Type}{f p nt:Nat}{args:List Sh}{aos:List OSh}{fn:Func}{code:Code}{kfin:TS D.T->Option Z}{kpan:TV D.T->TS D.T->Option Z}{des:List (zji D)}{go:HL D.T (Sh.kzs args++zzl aos)->Option Z}{K:Ks D.T Z}
  (hf:P.funcs[f]? = some fn) (hb:fn.body=some code) (hnt:fn.ntmps=nt) (hent:∀args w,(callFunc f args).run P w = .ok (.enter f args) w) (hargs:args.length<=nt)
  (hK:K=⟨λts=>z5e D des kfin kpan ts.d none ts,[],λts=>z5e D des kfin kpan ts.d none ts,λz ts=>z5e D des kfin kpan ts.d (some z) ts⟩)
  (hdes:∀de∈des,de.Ok P) (hrun:zy5 P D code p args aos nt [] K go) {x:HL D.T (Sh.kzs args++zzl aos)}{z0:Z}(hz:go x=some z0) {lv:Nat}{L:List (Option yz4)}{E:Nat->Nat->Option yz4}{ρ0:List Slot}{vargs:List V}(hg:zvc D lv L ρ0 args aos x vargs) {Post:Out->zz2->Prop}
  (hret:∀ts σ ρ,TRr D (z2k lv L E ρ0 p) ρ ts σ->kfin ts=some z0->∃υ vs,zag σ υ∧zt6 P υ fn.results.toList=some vs∧Post (.ret (z3x vs)) υ.H)
  (hpan:∀z ts σ ρ v,TRr D (z2k lv L E ρ0 p) ρ ts σ->VR D ρ lv z v->kpan z ts=some z0->Post (.pan v) σ.H):zkz P f vargs ⟨lv,L,E⟩ Post:=λW g cargs hG hA=>by
 subst hnt;refine⟨hent cargs W,calls_of_wp_defers hf hb ?_⟩;have hpl:(z2k lv L E ρ0 p).pin.length<=p:=by simp only[z2k,Qay];omega
 have hkx:K.kx=[]:=by rw[hK]
 have hsat:=hrun (z2k lv L E ρ0 p) _ z0 rfl hpl (y5i (K:=K) hkx) x _ (hg.entry (E:=E) p hargs).tr hz;refine wp_mono (hsat W g ⟨lv,L,E⟩ W _ g ⟨hG⟩ ⟨rfl,.refl _ _ _⟩ (zwu hG hA)).wp λex a W' ⟨g1,σ,e',q1,q2,q3,q4⟩ =>?_
 let PostE:Ending->World->Prop:=λen W'=>∃o H' g',Post o H'∧Step W g ⟨lv,L,E⟩ W' g' H'∧Good W' g' H'∧y3s W' g' H' o en
 have done:∀(z:Option (TV D.T)) (am:zb4) (u:FrameMode) (ts:TS D.T) (τ:St) (ρ:List Slot) (g2:Gh),TRr D (z2k lv L E ρ0 p) ρ ts τ->kz8 W' a g2 τ->Step W g ⟨lv,L,E⟩ W' g2 τ.H->zri W' g2 τ.H am u->y6q D ρ lv z am ->
   z5e D des kfin kpan ts.d z ts=some z0->Leaves P fn a.tmps PostE a.defers u W':=λz am u ts τ ρ g2 hR hG2 hS2 hM hz hl=>by
  refine zk0 (F:=z2k lv L E ρ0 p) (R':=PostE) (W0:=W) (g0:=g) (H0:=⟨lv,L,E⟩) hD hdes (λts σ ρ a W2 g2 t1 t2 t3 t4 t5 =>?_) (λz ts σ ρ a W2 g2 v c t1 t2 t3 t4 t5 t6 =>?_) ts.d z am ts τ ρ a W' g2 u rfl hR hG2 hS2 rfl hM hz hl;obtain⟨υ,vs,w1,r1,r2⟩:=hret ts σ ρ t1 t5;obtain⟨g3,w3,w4⟩:=w1 W g ⟨lv,L,E⟩ W2 a g2 ⟨hG⟩ ⟨t1.e0,t3⟩ t2
  obtain⟨c,z1,z2⟩:=zaa (P:=P) (fn:=fn) (v:=z3x vs) w4 (by simp only[z32,r1,Qbn]);rw[t4]at z1;exact⟨c,z1,.ret (z3x vs),υ.H,g3,r2,w3.2,w4.good,c,rfl,z2⟩;exact⟨.pan v,σ.H,g2,hpan z ts σ ρ v t1 t4 t6,t3,t2.good,c,rfl,t5⟩
 have back:∀{ts:TS D.T},TR D (z2k lv L E ρ0 p) ts σ->z5e D des kfin kpan ts.d none ts=some z0->Leaves P fn a.tmps PostE a.defers .returning W':=λ{ts} hT hl=>by
  obtain⟨τ,ρ,w1,w2⟩:=hT;obtain⟨g2,w3,w4⟩:=w1 W g ⟨lv,L,E⟩ W' a g1 ⟨hG⟩ q2 q3;exact done none .ret .returning ts τ ρ g2 w2 w4 w3.2 rfl rfl hl
 subst hK
 cases q1 with
 |normal=>obtain⟨ts,hT,hl⟩:=q4;exact back hT hl
 |ret=>obtain⟨ts,hT,hl⟩:=q4;exact back hT hl
 |exit id=>exact q4.elim
 |panic v c hr=>
  obtain⟨ts,ρ,z,hR,hv,hl⟩:=q4;exact done (some z) (.pan v false) _ ts σ ρ g1 hR q3 q2.2 ⟨c,rfl,hr⟩ ⟨v,rfl,hv⟩ hl
theorem zas{L:List (Option yz4)}{E:Nat->Nat->Option yz4}{ρ0:List Slot}{p:Nat}:(z2k lv L E ρ0 p).pin.length<=p:=by simp only[z2k,Qay];omega
theorem flat_okP(hD:D.Ok P){e:Ent D}{fn:Func}{code:Code}{nt:Nat}{l:LSh}{pack:HL D.T l.tys->R}{un:R->HL D.T (Sh.kzs e.outs++zzl e.ros)}{des:List (zji D)}
  {go:HL D.T (Sh.kzs e.args++zzl e.aos)->Option (Res (HL D.T (e.pan.tys++zzl e.pos)) R)}
  (hf:P.funcs[e.f]? = some fn) (hb:fn.body=some code) (hnt:fn.ntmps=nt) (hent:∀args w,(callFunc e.f args).run P w = .ok (.enter e.f args) w) (hargs:e.args.length<=nt)
  (hgo:∀(R':Type) (x:HL D.T (Sh.kzs e.args++zzl e.aos)) (k:HL D.T (Sh.kzs e.outs++zzl e.ros)->Option R') (kp:HL D.T (e.pan.tys++zzl e.pos)->Option R'),e.go x k kp=(go x).bind λo=>zvo o (λr=>k (un r)) (λy=>kp y))
  (hpure:e.pure=false) (hkc:e.kc=[]) (hpt:(match e.pan with| .tup _=>false|_=>true)=true) (hren:e.ren=[]) (hp1:e.p<=l.pin) (hp2:l.pin<=l.os.length) (hlen:l.os.length=e.ros.length) (hp3:e.p<=e.pos.length)
  (hout:∀x,zg9 P D (l.bld D x) fn.results.toList=some (yzu D (λk=>k) e.outs (HL.fst _ (un (pack x))))∧(l.bld D x).o=z0c D (λk=>k) e.ros 0 (HL.snd _ (un (pack x))))
  (hdes:∀de∈des,de.Ok P) (hrun:zy5 P D code e.p e.args e.aos nt [] (endKP D des l pack e.pan e.pos e.p (λy=>y)) go):e.Ok P:=λR' x k kp r h=>by
 rw[hpure];rw[hgo]at h;obtain⟨o0,h1,h2⟩:=zij h
 cases o0 with
 |ok r0=>
  refine .inl ⟨un r0,h2,λlv L E ρ0 vargs k1 k2 k3 k4 _=>zen (p:=e.p) hD hf hb hnt hent hargs rfl hdes hrun h1 ⟨k1,k2,k3,k4⟩ (λts σ ρ t1 t5 =>?_) λz ts σ ρ v _ _ hk =>?_⟩;obtain⟨y,hy,υ,ρ',w1,w2⟩:=LSh.z1b hD (Qbh zas hp1) hp2 t1.tr t5;injection hy with hy;injection hy with hy;subst hy;obtain⟨o1,o2⟩:=hout y;obtain⟨vs,r1,r2⟩:=z5f hD w2 o1;obtain⟨l1,l2⟩:=zlh w2 o2 hlen
  exact⟨υ,vs,w1,r1,υ.H.L,ρ',l1,l2,⟨(by rw[hren];intro q hq;cases hq),by rw[hkc];exact .nil⟩,vs,rfl,r2⟩;unfold zvi at hk
  split at hk <;> cases hk
 |pan y0=>
  refine .inr ⟨y0,h2,λlv L E ρ0 vargs k1 k2 k3 k4 _=>zen (p:=e.p) hD hf hb hnt hent hargs rfl hdes hrun h1 ⟨k1,k2,k3,k4⟩ (λts σ ρ t1 t5=>(by
   obtain⟨y,hy,_⟩:=LSh.z1b hD (Qbh zas hp1) hp2 t1.tr t5
   cases hy)) λz ts σ ρ v t1 t4 hk =>?_⟩
  unfold zvi at hk;split at hk;rename_i y hy;injection hk with hk;injection hk with hk;subst hk;have hpl:(z2k lv L E ρ0 e.p).pin.length<=e.p:=by simp only[z2k,Qay];omega
  obtain⟨ρ',w1,w2⟩:=zie hD t1 hpl hp3 t4 hy;obtain⟨l1,l2⟩:=zlh w1 rfl rfl;exact⟨σ.H.L,ρ',l1,l2,v,(y3q hpt).symm,w2⟩;cases hk
theorem y6u{pan:Sh}{v:V}(h:(match pan with| .tup _=>true|_=>false)=true):zwf pan v = .ret v:=by cases pan <;> first|rfl|cases h
theorem y6g(hD:D.Ok P){e:Ent D}{fn:Func}{code:Code}{nt:Nat}{rs:List ResultVar}{l:LSh}{pack:HL D.T l.tys->R}{un:R->HL D.T (Sh.kzs e.outs++zzl e.ros)}
  {go:HL D.T (Sh.kzs e.args++zzl e.aos)->Option (Res (HL D.T (e.pan.tys++zzl e.pos)) R)}
  (hf:P.funcs[e.f]? = some fn) (hb:fn.body=some code) (hnt:fn.ntmps=nt) (hrs:fn.results.toList=rs) (hent:∀args w,(callFunc e.f args).run P w = .ok (.enter e.f args) w) (hargs:e.args.length<=nt)
  (hgo:∀(R':Type) (x:HL D.T (Sh.kzs e.args++zzl e.aos)) (k:HL D.T (Sh.kzs e.outs++zzl e.ros)->Option R') (kp:HL D.T (e.pan.tys++zzl e.pos)->Option R'),e.go x k kp=(go x).bind λo=>zvo o (λr=>k (un r)) (λy=>kp y))
  (hpure:e.pure=false) (hkc:e.kc=[]) (hpt:(match e.pan with| .tup _=>true|_=>false)=true) (hren:e.ren=[]) (hp1:e.p<=l.pin) (hp2:l.pin<=l.os.length) (hlen:l.os.length=e.ros.length) (hp3:e.p<=e.pos.length)
  (hout:∀x,zg9 P D (l.bld D x) fn.results.toList=some (yzu D (λk=>k) e.outs (HL.fst _ (un (pack x))))∧(l.bld D x).o=z0c D (λk=>k) e.ros 0 (HL.snd _ (un (pack x))))
  (hrun:zy5 P D code e.p e.args e.aos nt [] (end2 D P rs l pack e.pan e.pos e.p) go):e.Ok P:=λR' x k kp r h=>by
 rw[hpure];rw[hgo]at h;obtain⟨o0,h1,h2⟩:=zij h
 cases o0 with
 |ok r0=>
  refine .inl ⟨un r0,h2,λlv L E ρ0 vargs k1 k2 k3 k4 _=>zen (p:=e.p) (des:=[]) hD hf hb hnt hent hargs rfl (λde h=>by cases h) hrun h1 ⟨k1,k2,k3,k4⟩ (λts σ ρ t1 t5 =>?_) λz ts σ ρ v _ _ hk=>(by cases hk)⟩;unfold y6d at t5;split at t5;rename_i z hz;injection t5 with t5;subst t5;obtain⟨y,hy,υ,ρ',w1,w2⟩:=LSh.z1b hD (Qbh zas hp1) hp2 t1.tr hz;injection hy with hy;injection hy with hy;subst hy
  obtain⟨o1,o2⟩:=hout y;obtain⟨vs,r1,r2⟩:=z5f hD w2 o1;obtain⟨l1,l2⟩:=zlh w2 o2 hlen;exact⟨υ,vs,w1,r1,υ.H.L,ρ',l1,l2,⟨(by rw[hren];intro q hq;cases hq),by rw[hkc];exact .nil⟩,vs,rfl,r2⟩;split at t5;unfold zvi at t5;split at t5 <;> cases t5
  cases t5
 |pan y0=>
  refine .inr ⟨y0,h2,λlv L E ρ0 vargs k1 k2 k3 k4 _=>zen (p:=e.p) (des:=[]) hD hf hb hnt hent hargs rfl (λde h=>by cases h) hrun h1 ⟨k1,k2,k3,k4⟩ (λts σ ρ t1 t5 =>?_) λz ts σ ρ v _ _ hk=>(by cases hk)⟩;unfold y6d at t5;split at t5;rename_i z hz;injection t5 with t5;subst t5;obtain⟨y,hy,_⟩:=LSh.z1b hD (Qbh zas hp1) hp2 t1.tr hz;cases hy;split at t5;rename_i cs hcs;unfold zvi at t5;split at t5
  rename_i y hy;injection t5 with t5;injection t5 with t5;subst t5;rw[<-hrs]at hcs;obtain⟨vs,r1,r2⟩:=z5f hD t1 hcs;obtain⟨ρ',w1,w2⟩:=zie hD t1 zas hp3 (VR.zje hD r2) hy;obtain⟨l1,l2⟩:=zlh w1 rfl rfl;exact⟨σ,vs,zag.refl σ,r1,σ.H.L,ρ',l1,l2,z3x vs,(y6u hpt).symm,w2⟩;cases t5;cases t5
def y0c(P:Program):List (zji D)->Prop
 |[]=>True
 |d::l=>d.Ok P∧y0c P l
theorem y0c.get:∀{l:List (zji D)},y0c P l->∀d∈l,d.Ok P
 |d::l,h,e,he=>by
  rcases Qbi.1 he with rfl|he
  exact h.1;exact y0c.get h.2 e he
def chkP(p nt:Nat)(args:List Sh)(ros pos:List OSh)(l:LSh):Bool :=
 Nat.ble args.length nt&&Nat.ble p l.pin&&Nat.ble l.pin l.os.length&&Nat.beq l.os.length ros.length&&Nat.ble p pos.length
def FI.of2(P:Program)(D:Dat)(f nt p:Nat)(args:List Sh)(aos:List OSh)(outs:List Sh)(ros:List OSh)(pan:Sh)(pos:List OSh)(rs:List ResultVar)(l:LSh){R:Type}(pack:HL D.T l.tys->R)(un:R->HL D.T (Sh.kzs outs++zzl ros))
  (go:Nat->HL D.T (Sh.kzs args++zzl aos)->Option (Res (HL D.T (pan.tys++zzl pos)) R)) (z16:Nat->List (Nat×Lb D (Res (HL D.T (pan.tys++zzl pos)) R))) (c:AC):FI D :=
 {R:=Res (HL D.T (pan.tys++zzl pos)) R,ent:=λn=>{f:=f,p:=p,args:=args,aos:=aos,outs:=outs,ros:=ros,pan:=pan,pos:=pos,pure:=false,go:=λx k kp=>(go n x).bind λo=>zvo o (λr=>k (un r)) (λy=>kp y)},
   c:=c,K:=end2 D P rs l pack pan pos p,p:=p,args:=args,aos:=aos,nt:=nt,z16:=z16,go:=go}
theorem FI.y3w{hD:D.Ok P}{f nt p:Nat}{args:List Sh}{aos:List OSh}{outs:List Sh}{ros:List OSh}{pan:Sh}{pos:List OSh}{rs:List ResultVar}{l:LSh}{pack:HL D.T l.tys->R}{un:R->HL D.T (Sh.kzs outs++zzl ros)}
  {go:Nat->HL D.T (Sh.kzs args++zzl aos)->Option (Res (HL D.T (pan.tys++zzl pos)) R)} {z16:Nat->List (Nat×Lb D (Res (HL D.T (pan.tys++zzl pos)) R))}{c:AC}{tbl:Nat->List (Ent D)}{fn:Func}
  (hf:P.funcs[f]? = some fn) (hnt:fn.ntmps=nt) (hent:∀args w,(callFunc f args).run P w = .ok (.enter f args) w)
  (hb:fn.body=some c.erase) (hnd:c.labels.Nodup) (hchk:chkP p nt args ros pos l=true) (hp:∀n,zmx p (z16 n)=true)
  (hout:∀x,zg9 P D (l.bld D x) fn.results.toList=some (yzu D (λk=>k) outs (HL.fst _ (un (pack x)))))
  (hz:∀x,go 0 x=none) (hlz:zjg (λ_ lb=>∀x,lb.go x=none) (z16 0))
  (hs:∀n x,go (n+1) x=run P D (tbl n) (jump D (z16 n)) c (entry D args aos nt [] x) (end2 D P rs l pack pan pos p))
  (hls:∀n,zjg (λj lb=>∀x,lb.go x=zih P D (tbl n) (jump D (z16 n)) j c (end2 D P rs l pack pan pos p) (lb.sh.bld D x)) (z16 (n+1)))
  (hros:∀x,(l.bld D x).o=z0c D (λk=>k) ros 0 (HL.snd _ (un (pack x)))) (hrs:fn.results.toList=rs:=by rfl) (hpt:(match pan with| .tup _=>true|_=>false)=true:=by rfl) (hrng:c.zbp=[]:=by kernel_rfl) :
  (FI.of2 P D f nt p args aos outs ros pan pos rs l pack un go z16 c).Good P D tbl where
 nodup:=hnd
 zbp:=λq hq=>by replace hq:q∈c.zbp:=hq;rw[hrng]at hq;cases hq
 zero:=hz
 lzero:=λj lb x h=>hlz.get (z1w h) x
 pins:=λn j lb h=>(zig (hp n)).get (z1w h)
 step:=hs
 lstep:=λn j lb x h=>(hls n).get (z1w h) x
 ok:=λn h=>by
  simp only[chkP,Qag,Nat.ble_eq]at hchk;obtain⟨⟨⟨⟨h1,h2⟩,h3⟩,h4⟩,h5⟩:=hchk;exact y6g (l:=l) (pack:=pack) (un:=un) (go:=go n) (code:=c.erase) hD hf hb hnt hrs hent h1 (λ_ _ _ _=>rfl) rfl rfl hpt rfl h2 h3 (Qaj h4) h5 (λx=>⟨hout x,hros x⟩) h
end
theorem y3j{P:Program}{D:Dat}(hD:D.Ok P){f:FI D}{bs:List (FI D)}(hb:OkL P bs)(h:f.Good P D (tb bs)):OkL P [f] :=
 ⟨λn=>h.ok n (h.runs hD n λm _ e he=>by
  obtain⟨b,hm,rfl⟩:=Qbd.1 he
  exact hb.get hm m),trivial⟩
end Go.Ab
