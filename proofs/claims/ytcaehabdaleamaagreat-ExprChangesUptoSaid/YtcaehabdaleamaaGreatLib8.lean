/-
  THE TYPED MACHINE: functions.
-/
import Derived.Test.YtcaehabdaleamaaGreatLib7
import Derived.KernelRfl
import Derived.Test.YtcaehabdaleamaaGreatLib2
import Derived.Test.YtcaehabdaleamaaGreatLib1
import Derived.Lib.Bytealg
import Derived.Laws.RangeAny
namespace Go.Ab
open Go
set_option linter.unusedVariables false
set_option linter.unusedSimpArgs false
set_option linter.unusedSectionVars false
section
variable {P : Program} {D : Dat} {F : Fr} {ρ : List Slot} {ts : TS D.T} {σ : St} {lv : Nat} {R : Type}
theorem yf8{α}:∀(l) (k j) (a:α),fnd (yo1 l k) j=some a->k<=j∧l[j-k]? = some a
 |[],k,j,a,h=>by simp[yo1,fnd]at h
 |b::l,k,j,a,h=>by
  simp[yo1,kz5]at h;split at h
  grind
  obtain⟨h1,h2⟩:=yf8 l (k+1) j a h
  grind
theorem zu8:∀(os) {k x j},k<=j->j<k+os.length->∃o,fnd (z1g D (λk=>k) os k x) j=some o∧o.live
 |[],k,x,j,h1,h2=>by simp at h2;omega
 |o::os,k,x,j,h1,h2=>by
  show ∃o',fnd ((k,zko D (λk=>k) o (HL.fst _ x))::z1g D (λk=>k) os (k+1) (HL.snd _ x)) j=some o'∧o'.live;rw[kz5];split;exact⟨_,rfl,y8c⟩;exact zu8 os (by omega) (by grind)
theorem zu4:∀(os) {k x j o},(j,o)∈z1g D (λk=>k) os k x->fnd (z1g D (λk=>k) os k x) j=some o
 |[],k,x,j,o,h=>by cases h
 |osh::os,k,x,j,o,h=>by
  show fnd ((k,zko D (λk=>k) osh (HL.fst _ x))::z1g D (λk=>k) os (k+1) (HL.snd _ x)) j=some o;rw[kz5]
  rcases Qbf.1 h with h|h
  grind
  obtain⟨j',h1,_,h3,_⟩:=zmk os h;rw[Qbp (by omega)];exact zu4 os h
theorem zd3(hD:D.Ok P)(hR:TRr D F ρ ts σ):∀{rs cs},zpa P D ts rs=some cs->∃vs,zyh P σ rs=some vs∧VRL D ρ F.lv cs vs
 |[],cs,h=>by simp[zpa,Qbl]at h;subst h;exact⟨[],rfl,by simp[VRL]⟩
 |.tmp t::rs,cs,h=>by
  simp[zpa]at h;split at h;rename_i v vs hv hvs;cases h;obtain⟨us,h1,h2⟩:=zd3 hD hR hvs;exact⟨σ.t.getD t .any::us,by simp[zyh,yre,h1],by simp only[VRL];exact⟨_,_,rfl,hR.tmp hv,h2⟩⟩
  cases h
 |.cell a t::rs,cs,h=>by
  simp[zpa]at h;split at h;rename_i p hp;split at h;rename_i v vs hv hvs;cases h;obtain⟨us,h1,h2⟩:=zd3 hD hR hvs;obtain⟨u,h3,h4⟩:=zvf hD hR hv (hR.tmp hp);exact⟨u::us,by simp only[zyh,yre,h3,h1],by simp[VRL];grind⟩;cases h;cases h
theorem yfa{c σ Q}(h:Sat P c σ λe σ=>∃τ,zj1 σ τ∧(∀v,e ≠ .panic v)∧Q e τ):Sat P c σ Q:=λW0 g0 H0 W a g hB hS hG=>by
 refine zlb (h W0 g0 H0 W a g hB hS hG) λe a w ⟨g,σ,e',h1,h2,h3,τ,h4,h5,h6⟩ =>?_
 obtain⟨g',k1,k2⟩:=h4 W0 g0 H0 w a g hB h2 h3;refine⟨g',τ,e',?_,k1,k2,h6⟩
 cases h1 with
 |normal=>exact .normal
 |exit id=>exact .exit id
 |ret=>exact .ret
 |panic v c hr=>exact(h5 v rfl).elim
def ycy(D:Dat)(F:Fr)(l:LSh)(pack:HL D.T l.tys->R)(r:R)(e:yza)(σ:St):Prop :=
 match e with
 |.normal| .ret=>∃x,pack x=r∧TR D F (l.bld D x) σ
 |_=>False
theorem zx8(hD:D.Ok P){l}(hp:F.pin.length<=l.pin)(hp2:l.pin<=l.os.length){pack}{r:R}:KOk D F (zmq D l pack) (ycy D F l pack r) r:=by
 refine⟨λts σ hT h =>?_,λid k ts σ h=>by simp[zmq,fnd]at h,λts σ hT h =>?_,λz ts σ ρ v _ _ h=>by simp[zmq]at h⟩;obtain⟨x,h1,h2⟩:=LSh.z66 hD hp hp2 hT h;injection h1 with h1;exact⟨x,h1,h2⟩;obtain⟨x,h1,h2⟩:=LSh.z66 hD hp hp2 hT h;injection h1 with h1;exact⟨x,h1,h2⟩
def y96(P:Program)(D:Dat)(c:Code)(p:Nat)(args)(aos)(nt:Nat)(gs:List Nat)(K:Ks D.T R)(go:HL D.T (Sh.z0r args++yzq aos)->Option R):Prop :=
 ∀F Q r,F.E=F.e0->F.pin.length<=p->KOk D F K Q r->∀x σ,TR D F (entry D args aos nt gs x) σ->go x=some r->Sat P c σ Q
theorem zme{args n}(cs)(h:VRL D ρ lv cs args):∀(j) (x),fnd (yo1 cs 0) j=some x->∃v,(args++List.replicate n V.any)[j]? = some v∧VR D ρ lv x v:=λj x hj=>by
 obtain⟨_,h1⟩:=yf8 cs 0 j x hj;obtain⟨v,h2,h3⟩:=h.get j x (by simpa using h1)
 grind
def gsB(aos:List OSh)(k:Nat):Bool:=match aos[k]? with
 |some (.acc _ _ _)=>true
 |some (.deep _ _)=>true
 |some .rig=>true
 |_=>false
theorem yp7{L}{gs:List Nat}{aos ρ0 y}(hgb:gs.all (gsB aos)=true)(k1:ρ0.length=aos.length)(k3:∀j o,(j,o)∈z1g D (λk=>k) aos 0 y->∃sl,ρ0[j]? = some sl∧OR D ρ0 lv L sl o) :
  ∀(i s:Nat) (v),(gs.map some)[i]? = some (some s)->(gs.map λk=>(ρ0[k]?.map (·.v)).getD .any)[i]? = some v->VR D ρ0 lv (.own s) v:=λi s v h1 h2=>by
 rw[Qan,Qaf]at h1 h2;obtain⟨k,hk,e⟩:=h1;have hb:=Qas.1 hgb k (Qaw hk)
 have leaf:∀{sl:Slot}{os:OSh}{z:HL D.T os.tys},(match os with| .acc _ _ _=>true| .deep _ _=>true| .rig=>true|_=>false)=true->OR D ρ0 lv L sl (zko D (λk=>k) os z)->sl.v.leaf=true:=λ{sl os z} hc ho=>by
  cases os <;> simp[Bool.false_eq_true]at hc
  case acc ty t w=>
   simp only[OR]at ho;obtain⟨_,_,ho⟩:=ho
   cases hk:sl.k with
   |none=>rw[hk]at ho;rcases ho with ⟨e,_⟩|⟨⟨e,_⟩,_⟩ <;> (rw[e];rfl)
   |some i=>rw[hk]at ho;obtain⟨ver,cp,e,_⟩:=ho;rw[e];rfl
  case rig=>
   grind[zko,OR]
  case deep ty q=>
   replace ho:=ho;simp only[OR]at ho;have ho:=ho.2
   cases hk:sl.k with
   |none=>rw[hk]at ho;rcases ho.2.1 with e|e <;> (rw[e];rfl)
   |some i=>rw[hk]at ho;obtain⟨ver,cp,_,e,_⟩:=ho;rw[e];rfl
 have at_:∀(aos:List OSh) (m k:Nat) (os:OSh) (y:HL D.T (yzq aos)),aos[k]? = some os->∃z:HL D.T os.tys,(m+k,zko D (λk=>k) os z)∈z1g D (λk=>k) aos m y:=λaos=>by
  induction aos with
  |nil=>grind
  |cons o r ih=>
   intro m k os y h
   cases k with
   |zero=>simp at h;subst h;exact⟨_,Qak⟩
   |succ k=>
    obtain⟨z,hz⟩:=ih (m+1) k os (HL.snd _ y) (by simpa using h);exact⟨z,by rw[show m+(k+1)=m+1+k by omega];exact Qai _ hz⟩
 unfold gsB at hb
 cases ho:aos[k]? with
 |none=>grind
 |some os=>
  obtain⟨z,hz⟩:=at_ aos 0 k os y ho
  grind[VR]
theorem yrd{gs}{l:LSh}{x}{ρ0 ρ':List Slot}{ren}(hren:ren=gs.map λk=>(k,k))(hgs:l.gs=gs)(h:∀(i s:Nat) (v:V),(l.bld D x).g[i]? = some (some s)->(gs.map λk=>(ρ0[k]?.map (·.v)).getD .any)[i]? = some v->VR D ρ' lv (.own s) v) :
  ∀q∈ren,∀sl,ρ0[q.1]? = some sl->∃sl',ρ'[q.2]? = some sl'∧sl'.v=sl.v:=λq hq sl hs=>by
 rw[hren]at hq;obtain⟨k,hk,rfl⟩:=Qbc.1 hq;obtain⟨i,hi⟩:=Qbj hk;have:=h i k sl.v (by show(l.gs.map some)[i]? = _;grind) (by grind)
 grind[VR]
theorem ysv(hD:D.Ok P){e:Ent D}{fn code nt gs l pack}{un:R->HL D.T (Sh.z0r e.outs++yzq e.ros)}{go}
  (hf:P.funcs[e.f]? = some fn) (hb:fn.body=some code) (hnt:fn.ntmps=nt) (hent:∀args w,(callFunc e.f args).run P w = .ok (.enter e.f args) w) (hargs:e.args.length<=nt)
  (hgo:∀(R':Type) (x:HL D.T (Sh.z0r e.args++yzq e.aos)) (k:HL D.T (Sh.z0r e.outs++yzq e.ros)->Option R') (kp:HL D.T (e.pan.tys++yzq e.pos)->Option R'),e.go x k kp=(go x).bind λr=>k (un r))
  (hpure:e.pure=false) (hkc:e.kc=[]) (hren:e.ren=gs.map λk=>(k,k)) (hgs:l.gs=gs) (hgb:gs.all (gsB e.aos)=true) (hp1:e.p<=l.pin) (hp2:l.pin<=l.os.length) (hlen:l.os.length=e.ros.length)
  (hout:∀x,zpa P D (l.bld D x) fn.results.toList=some (z01 D (λk=>k) e.outs (HL.fst _ (un (pack x))))∧(l.bld D x).o=z1g D (λk=>k) e.ros 0 (HL.snd _ (un (pack x))))
  (hrun:y96 P D code e.p e.args e.aos nt gs (zmq D l pack) go):e.Ok P:=λR' x k kp r h=>by
 rw[hpure];rw[hgo]at h;obtain⟨r0,h1,h2⟩:=zpk h;refine .inl ⟨un r0,h2,λlv L E ρ0 vargs k1 k2 k3 k4 _ =>?_⟩
 have hvl:vargs.length=e.args.length:=by
  rw[<-k2.length]
  have:∀(l:List Sh) (y:HL D.T (Sh.z0r l)),(z01 D (λk=>k) l y).length=l.length:=λl=>by
   induction l with
   |nil=>intro y;rfl
   |cons s l ih=>grind[z01]
  exact this _ _
 let F:Fr:=⟨lv,E,E,L,λi=>i<L.length∧∀(k:Nat) (sl0),ρ0[k]? = some sl0->¬sl0.has i,ρ0.take e.p,gs.map λk=>(ρ0[k]?.map (·.v)).getD .any⟩
 have hobj:=λs o ho=>k3 s o (z3m ho)
 have hR0:TRr D F ρ0 (entry D e.args e.aos nt gs x) ⟨vargs++List.replicate (nt-vargs.length) .any,⟨lv,L,E⟩,[],E⟩:=by
  refine⟨k1,by grind[entry],zme _ k2,hobj,λs s' o o' sl sl' i a1 a2 l1 l2 r1 r2=>k4.1 s s' sl sl' i r1 r2,λs o sl i a1 l1 r1 hk ho=>ho.2 s sl r1 hk,rfl,rfl,rfl,rfl,λi hi=>⟨hi.1,rfl⟩,λj sl hj =>?_,λs o sl i a1 l1 r1 hk=>k4.2 s sl i r1 hk,yp7 hgb k1 k3⟩
  grind
 refine ymt hf hb hnt hent (yfa ((hrun F _ r0 rfl (by grind) (zx8 hD (by grind) hp2) x _ hR0.tr h1).mono λex σ hq =>?_))
 have key:∀ex,(ex = .normal∨ex = .ret)->(∃x,pack x=r0∧TR D F (l.bld D x) σ)->∃τ,zj1 σ τ∧(∀v,ex ≠ .panic v)∧ysz P fn (λout H'=>∃L' ρ',H'=⟨lv,L',E⟩∧Left D lv L ρ0 e.p L' ρ' e.ros (HL.snd _ (un r0))∧((∀q∈e.ren,∀sl,ρ0[q.1]? = some sl->∃sl',ρ'[q.2]? = some sl'∧sl'.v=sl.v)∧ygl L L' ρ0 e.kc)∧∃vs,out = .ret (z9a vs)∧VRL D ρ' lv (z01 D (λk=>k) e.outs (HL.fst _ (un r0))) vs) ex τ:=λex hex ⟨y,hy,τ,ρ',w1,w2⟩=>by
  subst hy;obtain⟨o1,o2⟩:=hout y;obtain⟨vs,q1,q2⟩:=zd3 hD w2 o1;have hH:=zht (F:=F) τ.H w2.lv w2.E
  have hleft:Left D lv L ρ0 e.p τ.H.L ρ' e.ros (HL.snd _ (un (pack y))):=by
   have hlen':ρ'.length=e.ros.length:=by rw[w2.nx,<-hlen];rfl
   have live:∀s sl,ρ'[s]? = some sl->∃o,fnd (l.bld D y).o s=some o∧o.live:=λs sl hs=>by
    rw[o2];exact zu8 e.ros (Qbm _) (by rw[Nat.zero_add,<-hlen'];grind)
   refine⟨hlen',λj o hm =>?_,λs s' sl sl' i r1 r2 c1 c2 =>?_,λs sl i r1 c1 =>?_,λi hi hno=>w2.out i ⟨hi,hno⟩,λj sl hj hs =>?_,λs sl i r1 c1=>by
    obtain⟨o,a1,a2⟩:=live s sl r1
    exact w2.fpl s o sl i a1 a2 r1 c1⟩
   exact w2.ob j o (by rw[o2];exact zu4 e.ros hm);obtain⟨o,a1,a2⟩:=live s sl r1;obtain⟨o',b1,b2⟩:=live s' sl' r2;exact w2.inj s s' o o' sl sl' i a1 b1 a2 b2 r1 r2 c1 c2;obtain⟨o,a1,a2⟩:=live s sl r1;have:=w2.mine s o sl i a1 a2 r1 c1
   grind
   exact w2.pin j sl (by grind)
  refine⟨τ,w1,λv e=>by grind,?_⟩
  rcases hex with rfl|rfl
  exact⟨z9a vs,z9a vs,by grind[z5g],w2.d,.refl _,τ.H.L,ρ',hH,hleft,⟨yrd hren hgs (λi s v a b=>w2.g i s v a b),by rw[hkc];exact .nil⟩,vs,rfl,q2⟩;exact⟨z9a vs,z9a vs,by grind[z5g],w2.d,.refl _,τ.H.L,ρ',hH,hleft,⟨yrd hren hgs (λi s v a b=>w2.g i s v a b),by rw[hkc];exact .nil⟩,vs,rfl,q2⟩
 cases ex with
 |normal=>exact key _ (.inl rfl) hq
 |ret=>exact key _ (.inr rfl) hq
 |exit id=>exact hq.elim
 |panic v=>exact hq.elim
mutual
theorem VRn.lvl{lv':Nat}:∀{x:TV D.T}{v:V},VR D [] lv x v->VR D [] lv' x v
 |.own s,v,h=>by simp only[VR]at h;obtain⟨sl,h1,_⟩:=h;simp at h1
 |.osl s lo,v,h=>by simp only[VR]at h;obtain⟨sl,j,ver,h1,_⟩:=h;simp at h1
 |.ptr s off,v,h=>by simp only[VR]at h;obtain⟨sl,i,h1,_⟩:=h;simp at h1
 |.bp s off,v,h=>by simp only[VR]at h;obtain⟨sl,i,h1,_⟩:=h;simp at h1
 |.map s,v,h=>by simp only[VR]at h;obtain⟨sl,i,h1,_⟩:=h;simp at h1
 |.mc t es,v,h=>by unfold VR at h ⊢;exact h
 |.ap s t i x off,v,h=>by simp only[VR]at h;obtain⟨sl,w,h1,_⟩:=h;simp at h1
 |.dp s i off,v,h=>by simp only[VR]at h;obtain⟨sl,j,ver,m,h1,_⟩:=h;simp at h1
 |.bsl q cs,v,h=>by simp only[VR]at h ⊢;obtain⟨vs,h1,h2⟩:=h;exact⟨vs,h1,VRLn.lvl h2⟩
 |.ref cs off,v,h=>by simp only[VR]at h ⊢;obtain⟨vs,h1,h2⟩:=h;exact⟨vs,h1,VRLn.lvl h2⟩
 |.fn f a b,v,h=>by simp only[VR]at h ⊢;obtain⟨as,bs,h1,h2,h3⟩:=h;exact⟨as,bs,h1,VRLn.lvl h2,VRLn.lvl h3⟩
 |.iface t x,v,h=>by simp only[VR]at h ⊢;obtain⟨y,h1,h2⟩:=h;exact⟨y,h1,VRn.lvl h2⟩
 |.agg cs,v,h=>by simp only[VR]at h ⊢;obtain⟨vs,h1,h2⟩:=h;exact⟨vs,h1,VRLn.lvl h2⟩
 |.tup cs,v,h=>by simp only[VR]at h ⊢;obtain⟨vs,h1,h2⟩:=h;exact⟨vs,h1,VRLn.lvl h2⟩
 |.any,v,h=>by simp only[VR]
 |.bool b,v,h=>by simpa only[VR]using h
 |.int k n,v,h=>by simpa only[VR]using h
 |.str b,v,h=>by simpa only[VR]using h
 |.nilp,v,h=>by simpa only[VR]using h
 |.nils,v,h=>by simpa only[VR]using h
 |.mapn,v,h=>by simpa only[VR]using h
 |.nilf,v,h=>by simpa only[VR]using h
 |.nili,v,h=>by simpa only[VR]using h
 |.sl t xs fl,v,h=>by simpa only[VR]using h
theorem VRLn.lvl{lv':Nat}:∀{cs:List (TV D.T)}{vs:List V},VRL D [] lv cs vs->VRL D [] lv' cs vs
 |[],vs,h=>by simpa only[VRL]using h
 |c::cs,vs,h=>by simp only[VRL]at h ⊢;obtain⟨v,r,h1,h2,h3⟩:=h;exact⟨v,r,h1,VRn.lvl h2,VRLn.lvl h3⟩
end
theorem DR.vs(hD:D.Ok P){H Dm t x v}(h:DR D t x v) :
  VS H Dm v (D.el t x)∧∀(j:Nat) (u u'),v.cells[j]? = some u->(D.el t x).cells[j]? = some u'->VS H Dm u u':=by
 have one:∀{t:DTy}{x:t.S D.T}{v:V},v.cells=[v]->(D.el t x).cells=[D.el t x]->VS H Dm v (D.el t x) ->
   VS H Dm v (D.el t x)∧∀(j:Nat) (u u':V),v.cells[j]? = some u->(D.el t x).cells[j]? = some u'->VS H Dm u u':=λ{t x v} h1 h2 h=>⟨h,λj u u' hu hu'=>by
  grind⟩
 induction h with
 |bool b=>exact one rfl rfl (.keep _ (by simp[V.kin]))
 |int k n=>exact one rfl rfl (.keep _ (by simp[V.kin]))
 |str s=>exact one rfl rfl (.keep _ (by simp[V.kin]))
 |nat n=>exact one (t:=.nat) rfl rfl (.any _)
 |nil t=>exact one rfl rfl (.nil _ _)
 |sl t xs ws full hl h ih=>
  refine one rfl rfl (.sl _ _ _ _ (by simp[hl]) (λj a b ha hb =>?_) λj a b q v u ha hb hv hu =>?_);rw[Qan,Qaf]at hb;obtain⟨x,hx,rfl⟩:=hb
  grind[cells,yf9]
  grind
 |st i x vs hl h ih=>
  have cell:∀(j:Nat) (u u':V),vs[j]? = some u->(D.els (D.fl i) (D.get i x))[j]? = some u'->VS H Dm u u':=λj u u' hu hu'=>by
   rw[y8y,Qaf]at hu';obtain⟨p,hp,rfl⟩:=hu'
   grind
  have e:D.el (.st i) x = .agg (D.els (D.fl i) (D.get i x)):=hD.enc i x;rw[e]
  exact⟨.agg _ _ (by rw[zxi,hl]) cell,λj u u' hu hu'=>cell j u u' hu hu'⟩
 |enc i x=>exact⟨.keep _ (hD.kin i x _),λj u u' hu hu'=>by
  rw[show D.el (.st i) x=D.enc i x from rfl,hu]at hu';cases hu'
  exact .keep _ (z65 (zhg (hD.kin i x _)) j u hu)⟩
theorem VR.toDR(hD:D.Ok P){t x v}(ht:t ≠ .nat)(h:VR D ρ lv (D.tv t x) v):DR D t x v:=by
 have leaf:∀{t:DTy}{x:t.S D.T}{v:V},t ≠ .nat->(∀i,t ≠ .st i)->VR D ρ lv (D.leaf t x) v->DR D t x v:=λ{t x v} h1 h2 h=>by
  cases t with
  |bool=>simp[Dat.leaf,VR]at h;subst h;exact .bool _
  |int k=>simp[Dat.leaf,VR]at h;subst h;exact .int _ _
  |str=>simp[Dat.leaf,VR]at h;subst h;exact .str _
  |nat=>exact(h1 rfl).elim
  |sl t=>grind[Dat.leaf,VR]
  |st i=>exact(h2 i rfl).elim
 cases t with
 |st i=>
  obtain⟨vs,rfl,h⟩:=h;refine .st i x vs (by rw[<-h.length,z99]) λj p u hp hu =>?_
  have hm:=hD.flat i p.1 (Qaw (HL.zb1 _ _ _ _ hp).2);have:=h.zp9 (j:=j) (c:=D.leaf p.1 p.2) (by rw[zbb,hp];rfl) hu
  grind
 |nat=>exact(ht rfl).elim
 |bool=>exact leaf ht (by simp) h
 |int k=>exact leaf ht (by simp) h
 |str=>exact leaf ht (by simp) h
 |sl t=>exact leaf ht (by simp) h
def yji:List Sh->Bool
 |[]=>true
 |.d t::l => !decide (t = .nat)&&yji l
 |_=>false
def canon(D:Dat):(l:List Sh)->HL D.T (Sh.z0r l)->List V
 |[],_=>[]
 |.d t::l,x=>D.el t (HL.fst (Sh.tys (.d t)) x).1::canon D l (HL.snd (Sh.tys (.d t)) x)
 |s::l,x=>.any::canon D l (HL.snd s.tys x)
theorem VRL.lvl{lv' cs vs}(h:VRL D [] lv cs vs):VRL D [] lv' cs vs:=VRLn.lvl h
theorem y8l(hD:D.Ok P):∀{l x},yji l=true->VRL D ρ lv (z01 D (λk=>k) l x) (canon D l x)
 |[],x,h=>(by simp[VRL]:VRL D ρ lv [] [])
 |.d t::l,x,h=>by
  simp[yji,Qag]at h;exact⟨_,_,rfl,VR.tv hD (DR.el t _),y8l hD h.2⟩
theorem yg3(hD:D.Ok P){H Dm}:∀{l x vs},yji l=true->VRL D ρ lv (z01 D (λk=>k) l x) vs->VSL H Dm vs (canon D l x)
 |[],x,vs,h,hv=>by
  subst hv;exact .nil
 |.d t::l,x,vs,h,hv=>by
  simp[yji,decide_eq_false_iff_not]at h;obtain⟨v,r,rfl,h1,h2⟩:=hv;exact .cons ((VR.toDR hD h.1 h1).vs hD).1 (yg3 hD h.2 h2)
theorem ys1{H Dm vs us}(h:VSL H Dm vs us):VS H Dm (z9a vs) (z9a us):=by
 cases h with
 |nil=>exact .ypu .nil
 |cons h1 r=>
  cases r with
  |nil=>exact h1
  |cons h2 r=>exact .ypu (.cons h1 (.cons h2 r))
theorem ysh(hD:D.Ok P){e:Ent D}{fn code nt l pack}{un:R->HL D.T (Sh.z0r e.outs++yzq e.ros)}{go}
  (hf:P.funcs[e.f]? = some fn) (hb:fn.body=some code) (hnt:fn.ntmps=nt) (hent:∀args w,(callFunc e.f args).run P w = .ok (.enter e.f args) w) (hargs:e.args.length<=nt)
  (hgo:∀(R':Type) (x:HL D.T (Sh.z0r e.args++yzq e.aos)) (k:HL D.T (Sh.z0r e.outs++yzq e.ros)->Option R') (kp:HL D.T (e.pan.tys++yzq e.pos)->Option R'),e.go x k kp=(go x).bind λr=>k (un r))
  (hpure:e.pure=true) (hren:e.ren=[]) (haos:e.aos=[]) (hros:e.ros=[]) (houts:yji e.outs=true) (hp2:l.pin<=l.os.length)
  (hout:∀x,zpa P D (l.bld D x) fn.results.toList=some (z01 D (λk=>k) e.outs (HL.fst _ (un (pack x)))))
  (hrun:y96 P D code e.p e.args e.aos nt [] (zmq D l pack) go):e.Ok P:=λR' x k kp r h=>by
 rw[hpure];rw[hgo]at h;obtain⟨r0,h1,h2⟩:=zpk h;refine⟨un r0,h2,haos,hros,hren,λlv0 vargs k2=>⟨canon D e.outs (HL.fst _ (un r0)),λρ lv=>y8l hD houts,?_⟩⟩
 have hvl:vargs.length=e.args.length:=by
  rw[<-k2.length]
  have:∀(l:List Sh) (y:HL D.T (Sh.z0r l)),(z01 D (λk=>k) l y).length=l.length:=λl=>by
   induction l with
   |nil=>intro y;rfl
   |cons s l ih=>grind[z01]
  exact this _ _
 refine ype hf hb hnt hent λlv E =>?_
 let F:Fr:=⟨lv+1,E,E,[],λi=>False,[],[]⟩
 have hnob:∀s (o:TO D.T),fnd (z1g D (λk=>k) e.aos 0 (HL.snd _ x)) s=some o->False:=λs o ho=>by
  obtain⟨j,_,hlt,_⟩:=zmk e.aos (z3m ho)
  grind
 have k2':VRL D [] (lv+1) (z01 D (λk=>k) e.args (HL.fst _ x)) vargs:=VRL.lvl k2
 have hR0:TRr D F [] (entry D e.args e.aos nt [] x) ⟨vargs++List.replicate (nt-vargs.length) .any,⟨lv+1,[],E⟩,[],E⟩:=by
  refine⟨by simp only[entry,haos];rfl,by grind[entry],zme _ k2',λs o ho=>(hnob s o ho).elim,λs s' o o' sl sl' i a1=>(hnob s o a1).elim,λs o sl i a1=>(hnob s o a1).elim,rfl,rfl,rfl,rfl,λi hi=>hi.elim,λj sl hj=>by simp[F]at hj,λs o sl i a1=>(hnob s o a1).elim,λi s v h=>by simp[entry]at h⟩
 refine yfa ((hrun F _ r0 rfl (by simp[F]) (zx8 hD (by simp[F]) hp2) x _ hR0.tr h1).mono λex σ hq =>?_)
 have key:∀ex,(ex = .normal∨ex = .ret)->(∃x,pack x=r0∧TR D F (l.bld D x) σ)->∃τ,zj1 σ τ∧(∀v,ex ≠ .panic v)∧Ends P fn lv E (z9a (canon D e.outs (HL.fst _ (un r0)))) ex τ:=λex hex ⟨y,hy,τ,ρ',w1,w2⟩=>by
  subst hy;obtain⟨vs,q1,q2⟩:=zd3 hD w2 (hout y);have hv:=ys1 (yg3 hD (H:=τ.H) (Dm:=outer lv) houts q2);refine⟨τ,w1,λv e=>by grind,?_⟩
  rcases hex with rfl|rfl
  exact⟨z9a vs,by grind[z5g],w2.d,w2.E,hv⟩;exact⟨z9a vs,by grind[z5g],w2.d,w2.E,hv⟩
 cases ex with
 |normal=>exact key _ (.inl rfl) hq
 |ret=>exact key _ (.inr rfl) hq
 |exit id=>exact hq.elim
 |panic v=>exact hq.elim
structure FI(D:Dat) where
 R:Type
 ent:Nat->Ent D
 c:AC
 K:Ks D.T R
 p:Nat
 args:List Sh
 aos:List OSh
 nt:Nat
 gs:List Nat:=[]
 z1l:Nat->List (Nat×Lb D R)
 go:Nat->HL D.T (Sh.z0r args++yzq aos)->Option R
def zp6{α:Type}(φ:Nat->α->Prop):List (Nat×α)->Prop
 |[]=>True
 |p::l=>φ p.1 p.2∧zp6 φ l
theorem zp6.get{α φ}:∀{l j} {a:α},zp6 φ l->(j,a)∈l->φ j a
 |p::l,j,a,h,hm=>by
  rcases Qbf.1 hm with hm|hm
  subst hm;exact h.1;exact zp6.get h.2 hm
noncomputable def zoz(P:Program)(D){R}(tbl:List (Ent D))(J:Nat->TS D.T->Option R)(l:Nat)(c:AC)(K:Ks D.T R)(ts:TS D.T):Option R :=
 match AC.at P D tbl J l c K (λ_=>none)with
 |some g=>g ts
 |none=>none
structure FI.Good(P:Program)(D:Dat)(tbl:Nat->List (Ent D))(f:FI D):Prop where
 nodup:f.c.labels.Nodup
 zero:∀x,f.go 0 x=none
 lzero:∀l lb x,fnd (f.z1l 0) l=some lb->lb.go x=none
 pins:∀n l lb,fnd (f.z1l n) l=some lb->f.p<=lb.sh.pin∧lb.sh.pin<=lb.sh.os.length
 step:∀n x,f.go (n+1) x=run P D (tbl n) (jump D (f.z1l n)) f.c (entry D f.args f.aos f.nt f.gs x) f.K
 lstep:∀n l lb x,fnd (f.z1l (n+1)) l=some lb->lb.go x=zoz P D (tbl n) (jump D (f.z1l n)) l f.c f.K (lb.sh.bld D x)
 ok:∀n,y96 P D f.c.erase f.p f.args f.aos f.nt f.gs f.K (f.go n)->(f.ent n).Ok P
 zfz:∀q∈f.c.zfz,zlh P q
def FI.zqd(P:Program)(D)(f:FI D)(n:Nat):Prop :=
 ∀F Q r,F.E=F.e0->F.pin.length<=f.p->KOk D F f.K Q r->∀l a Q',f.c.site P l Q=some (a,Q')->∀ts σ,TR D F ts σ->jump D (f.z1l n) l ts=some r->a.Claim P σ Q'
theorem FI.Good.z1l(hD:D.Ok P){tbl}{f:FI D}(h:f.Good P D tbl):∀n,(∀m,m<n->∀e∈tbl m,e.Ok P)->f.zqd P D n
 |0,_=>λF Q r hF hp hK l a Q' hs ts σ hT hj=>by
  unfold jump at hj;split at hj;rename_i lb hlb;obtain⟨p1,p2⟩:=h.pins 0 l lb hlb;obtain⟨x,h1,_⟩:=LSh.z66 hD (by omega) p2 hT hj;rw[h.lzero l lb x hlb]at h1;cases h1
  cases hj
 |n+1,ht=>λF Q r hF hp hK l a Q' hs ts σ hT hj=>by
  have ih:=FI.Good.z1l hD h n λm hm=>ht m (by omega)
  unfold jump at hj;split at hj;rename_i lb hlb;obtain⟨p1,p2⟩:=h.pins (n+1) l lb hlb;obtain⟨x,h1,h2⟩:=LSh.z66 hD (by omega) p2 hT hj;rw[h.lstep n l lb x hlb]at h1;unfold zoz at h1;split at h1;rename_i g hg
  obtain⟨a',Q'',e1,e2⟩:=zdr hD (ht n (by omega)) hF h.zfz hK (λb _ ts σ _ hk=>by cases hk) (zb6 (P:=P) (φ:=LOk P D F (jump D (f.z1l n)) r) h.nodup λl a Q' hs ts σ hT hj=>ih F Q r hF hp hK l a Q' hs ts σ hT hj) hg
  grind
  cases h1;cases hj
theorem FI.Good.runs(hD:D.Ok P){tbl}{f:FI D}(h:f.Good P D tbl):∀n,(∀m,m<n->∀e∈tbl m,e.Ok P)->y96 P D f.c.erase f.p f.args f.aos f.nt f.gs f.K (f.go n)
 |0,_=>λF Q r hF hp hK x σ hT hg=>by rw[h.zero]at hg;cases hg
 |n+1,ht=>λF Q r hF hp hK x σ hT hg=>by
  rw[h.step]at hg;have ih:=h.z1l hD n λm hm=>ht m (by omega)
  exact z2j hD (ht n (by omega)) hK (zb6 (P:=P) (φ:=LOk P D F (jump D (f.z1l n)) r) h.nodup λl a Q' hs ts σ hT hj=>ih F Q r hF hp hK l a Q' hs ts σ hT hj) hT hg
theorem ring(hD:D.Ok P){fs:List (FI D)}{base:Nat->List (Ent D)}(hb:∀n,∀e∈base n,e.Ok P)(h:∀f∈fs,f.Good P D λn=>fs.map (·.ent n)++base n):∀n,∀f∈fs,(f.ent n).Ok P:=λn=>by
 induction n using Nat.strongRecOn with
 |ind n ih=>
  intro f hf;refine(h f hf).ok n ((h f hf).runs hD n λm hm e he =>?_)
  rcases List.mem_append.1 he with he|he
  obtain⟨g,hg,rfl⟩:=Qbc.1 he;exact ih m hm g hg;exact hb m e he
end
section
variable {P : Program} {D : Dat} {R : Type}
def FI.of(D)(f nt p:Nat)(args)(aos)(outs)(ros)(pure:Bool)(l:LSh){R}(pack:HL D.T l.tys->R)(un:R->HL D.T (Sh.z0r outs++yzq ros))
  (go:Nat->HL D.T (Sh.z0r args++yzq aos)->Option R) (z1l:Nat->List (Nat×Lb D R)) (c:AC) (gs:List Nat:=[]):FI D :=
 {R:=R,ent:=λn=>{f:=f,p:=p,args:=args,aos:=aos,outs:=outs,ros:=ros,pan:=.nilp,pos:=ros,pure:=pure,go:=λx k _=>(go n x).bind λr=>k (un r),ren:=gs.map λk=>(k,k)},
   c:=c,K:=zmq D l pack,p:=p,args:=args,aos:=aos,nt:=nt,gs:=gs,z1l:=z1l,go:=go}
def tb(l:List (FI D))(n:Nat):List (Ent D):=l.map (·.ent n)
def FOk(P:Program)(f:FI D):Prop:=∀n,(f.ent n).Ok P
def OkL(P:Program):List (FI D)->Prop
 |[]=>True
 |f::l=>FOk P f∧OkL P l
def yh0(P:Program)(tbl:Nat->List (Ent D)):List (FI D)->Prop
 |[]=>True
 |f::l=>f.Good P D tbl∧yh0 P tbl l
theorem OkL.get:∀{l} {f:FI D},OkL P l->f∈l->FOk P f
 |g::l,f,h,hm=>by
  rcases Qbf.1 hm with rfl|hm
  exact h.1;exact OkL.get h.2 hm
theorem OkL.of:∀{l:List (FI D)},(∀f∈l,FOk P f)->OkL P l
 |[],h=>trivial
 |f::l,h=>⟨h f Qak,OkL.of λg hg=>h g (Qai _ hg)⟩
theorem yh0.get{tbl}:∀{l f},yh0 P tbl l->f∈l->f.Good P D tbl
 |g::l,f,h,hm=>by
  rcases Qbf.1 hm with rfl|hm
  exact h.1;exact yh0.get h.2 hm
theorem yzh(hD:D.Ok P){fs bs:List (FI D)}(hb:OkL P bs)(h:yh0 P (tb (fs++bs)) fs):OkL P fs :=
 OkL.of λf hf n=>ring hD (base:=λn=>bs.map (·.ent n)) (λn e he=>by
  obtain⟨b,hm,rfl⟩:=Qbc.1 he
  exact hb.get hm n) (λg hg=>by
  have:=h.get hg;have e:(tb (fs++bs))=λn=>fs.map (·.ent n)++bs.map (·.ent n):=by funext n;simp[tb]
  grind) n f hf
def yl8:List Nat->List Nat->Bool
 |[],[]=>true
 |a::l,b::r=>Nat.beq a b&&yl8 l r
 |_,_=>false
theorem yej:∀{a b},yl8 a b=true->a=b
 |[],[],_=>rfl
 |[],_::_,h=>by cases h
 |_::_,[],h=>by cases h
 |a::l,b::r,h=>by
  simp only[yl8,Qag]at h;rw[Qaj h.1,yej h.2]
def yn9(p nt:Nat)(args outs:List Sh)(aos ros:List OSh)(pure:Bool)(l:LSh)(c:AC)(gs:List Nat):Bool :=
 Nat.ble args.length nt&&Nat.ble p l.pin&&Nat.ble l.pin l.os.length &&
 (match pure with
  |true=>aos.isEmpty&&ros.isEmpty&&yji outs&&gs.isEmpty
  |false=>Nat.beq l.os.length ros.length&&yl8 l.gs gs&&gs.all (gsB aos))
def zvj(p:Nat):List (Nat×Lb D R)->Bool
 |[]=>true
 |(_,lb)::r=>Nat.ble p lb.sh.pin&&Nat.ble lb.sh.pin lb.sh.os.length&&zvj p r
theorem znb{p}:∀{l:List (Nat×Lb D R)},zvj p l=true->zp6 (λ_ lb=>p<=lb.sh.pin∧lb.sh.pin<=lb.sh.os.length) l
 |[],h=>trivial
 |(_,lb)::r,h=>by
  simp[zvj,Nat.ble_eq]at h;exact⟨h.1,znb h.2⟩
theorem FI.kzd{hD:D.Ok P}{f nt p:Nat}{args aos outs ros pure l pack un go}{z1l:Nat->List (Nat×Lb D R)}{c gs tbl fn}
  (hf:P.funcs[f]? = some fn) (hnt:fn.ntmps=nt) (hent:∀args w,(callFunc f args).run P w = .ok (.enter f args) w)
  (hb:fn.body=some c.erase) (hnd:c.labels.Nodup) (hchk:yn9 p nt args outs aos ros pure l c gs=true) (hp:∀n,zvj p (z1l n)=true)
  (hout:∀x,zpa P D (l.bld D x) fn.results.toList=some (z01 D (λk=>k) outs (HL.fst _ (un (pack x)))))
  (hz:∀x,go 0 x=none) (hlz:zp6 (λ_ lb=>∀x,lb.go x=none) (z1l 0))
  (hs:∀n x,go (n+1) x=run P D (tbl n) (jump D (z1l n)) c (entry D args aos nt gs x) (zmq D l pack))
  (hls:∀n,zp6 (λj lb=>∀x,lb.go x=zoz P D (tbl n) (jump D (z1l n)) j c (zmq D l pack) (lb.sh.bld D x)) (z1l (n+1)))
  (hros:∀x,pure=true∨(l.bld D x).o=z1g D (λk=>k) ros 0 (HL.snd _ (un (pack x)))) (hrng:c.zfz=[]:=by kernel_rfl) :
  (FI.of D f nt p args aos outs ros pure l pack un go z1l c gs).Good P D tbl where
 nodup:=hnd
 zfz:=λq hq=>by replace hq:q∈c.zfz:=hq;grind
 zero:=hz
 lzero:=λj lb x h=>hlz.get (z3m h) x
 pins:=λn j lb h=>(znb (hp n)).get (z3m h)
 step:=hs
 lstep:=λn j lb x h=>(hls n).get (z3m h) x
 ok:=λn h=>by
  simp[yn9,Nat.ble_eq]at hchk;obtain⟨⟨⟨h1,h2⟩,h3⟩,h4⟩:=hchk
  cases pure with
  |true=>
   simp[List.isEmpty_iff]at h4;obtain⟨⟨⟨rfl,rfl⟩,h6⟩,rfl⟩:=h4
   exact ysh (l:=l) (pack:=pack) (un:=un) (go:=go n) (code:=c.erase) hD hf hb hnt hent h1 (λ_ _ _ _=>rfl) rfl rfl rfl rfl h6 h3 hout h
  |false=>
   simp only[Qag]at h4;obtain⟨⟨h4,h5⟩,h6⟩:=h4;exact ysv (gs:=gs) (l:=l) (pack:=pack) (un:=un) (go:=go n) (code:=c.erase) hD hf hb hnt hent h1 (λ_ _ _ _=>rfl) rfl rfl rfl (yej h5) h6 h2 h3 (Qaj h4) (λx=>⟨hout x,(hros x).resolve_left (by simp)⟩) h
end
section
variable {P : Program} {D : Dat} {F : Fr} {ρ : List Slot} {ts : TS D.T} {σ : St} {lv : Nat} {R X : Type}
theorem y91(hD:D.Ok P)(hR:TRr D F ρ ts σ){pan:Sh}{pos:List OSh}{p:Nat}{z:TV D.T}{v:V}{x:HL D.T (pan.tys++yzq pos)}(hp:F.pin.length<=p)(hp2:p<=pos.length)(hz:VR D ρ F.lv z v)(h:yjb D pan pos p z ts=some x) :
  ∃ρ',TRr D F ρ' ⟨[],z1g D (λk=>k) pos 0 (HL.snd _ x),pos.length,ts.nt,[],[]⟩ σ∧VR D ρ' F.lv (zeo D (λk=>k) pan (HL.fst _ x)) v:=by
 unfold yjb at h;split at h
 ·rename_i hde;split at h
  ·rename_i M y hy;split at h
   ·rename_i M' w hw;injection h with h;subst h;obtain⟨a1,a2,a3⟩:=zfe hD pan hy hz;obtain⟨b1,b2,b3,b4⟩:=zgt hD hR pos hw;have hM:MOk pos.length M':=b2 (a2 ⟨λk src h=>by have:=(zdx h).1;omega,λk k' s h h'=>by have e:=(zdx h).2;have e':=(zdx h').2;injection e with e;injection e' with e';omega,λk src hm=>zxo hm⟩);obtain⟨ρ',c1,c2,c3⟩:=yj7 hR hM λj hj=>by simpa using b3 j hj
    rw[HL.zgn,HL.zgg]
    have place:∀s sl i,ρ'[s]? = some sl->sl.has i->∃s0 o0,fnd M' s=some (.slot s0)∧fnd ts.o s0=some o0∧o0.live∧ρ[s0]? = some sl:=λs sl i hs hk=>by
     obtain⟨src,e1,e2⟩:=c3 s sl hs
     cases src with
     |nil=>simp only[Src.is]at e2;subst e2;rcases hk with h|h <;> cases h
     |slot s0=>
      obtain⟨src',e3,e4⟩:=b3 s (by rw[<-c1];exact(Qaa.1 hs).1)
      rw[Nat.zero_add,e1]at e3;injection e3 with e3;subst e3
      obtain⟨o0,f1,f2⟩:=e4 s0 rfl;exact⟨s0,o0,e1,f1,f2,e2⟩
    refine⟨ρ',⟨c1,hR.nt,λj c hj=>by simp[fnd]at hj,λs o ho =>?_,λs s' o o' sl sl' i h1 h2 l1 l2 r1 r2 k1 k2 =>?_,λs o sl i h1 l1 r1 k1 =>?_,hR.lv,hR.E,hR.e0,(by have:=hR.d;rw[hde]at this;exact this),hR.out,λj sl hj =>?_,λs o sl i h1 l1 r1 k1=>by
     obtain⟨s0,o0,d1,d2,d3,d4⟩:=place s sl i r1 (.inr k1)
     exact hR.fpl s0 o0 sl i d2 d3 d4 k1,λi s v h=>by simp at h⟩,a3 ρ' (b1.agr c2)⟩
    rotate_right
    have hlt:=(Qaa.1 hj).1;obtain⟨sl',e1,e2⟩:=c2 j _ (b1 _ _ (a1 _ _ (zsk (n:=p) (k:=j) (by omega))));simp only[Src.is]at e2
    rw[hR.pin j sl hj]at e2;injection e2 with e2;subst e2;exact e1
    obtain⟨_,_,_,sl,e1,e2⟩:=b4 ρ' c2 s o (z3m ho);exact⟨sl,e1,e2⟩;obtain⟨s0,o0,d1,d2,d3,d4⟩:=place s sl i r1 k1;obtain⟨s1,o1,e1,e2,e3,e4⟩:=place s' sl' i r2 k2;have:=hR.inj s0 s1 o0 o1 sl sl' i d2 e2 d3 e3 d4 e4 k1 k2;subst this;exact hM.inj s s' s0 d1 e1;obtain⟨s0,o0,d1,d2,d3,d4⟩:=place s sl i r1 k1;exact hR.mine s0 o0 sl i d2 d3 d4 k1
   cases h
  cases h
 cases h
def z1m(lv:Nat)(L:List (Option kz8))(E:Nat->Nat->Option kz8)(ρ0:List Slot)(p:Nat):Fr :=
 ⟨lv,E,E,L,λi=>i<L.length∧∀(k:Nat) (sl0:Slot),ρ0[k]? = some sl0->¬sl0.has i,ρ0.take p,[]⟩
theorem zqa{L:List (Option kz8)}{E:Nat->Nat->Option kz8}{ρ0 ρ':List Slot}{p:Nat}{os:List OSh}{y:HL D.T (yzq os)}{τ:St}(hR:TRr D (z1m lv L E ρ0 p) ρ' ts τ)(ho:ts.o=z1g D (λk=>k) os 0 y)(hnx:ts.nx=os.length) :
  τ.H=⟨lv,τ.H.L,E⟩∧Left D lv L ρ0 p τ.H.L ρ' os y:=by
 have hlen':ρ'.length=os.length:=by rw[hR.nx,hnx]
 have live:∀s sl,ρ'[s]? = some sl->∃o,fnd ts.o s=some o∧o.live:=λs sl hs=>by
  rw[ho];exact zu8 os (Qbm _) (by rw[Nat.zero_add,<-hlen'];exact(Qaa.1 hs).1)
 refine⟨zht (F:=z1m lv L E ρ0 p) τ.H hR.lv hR.E,hlen',λj o hm =>?_,λs s' sl sl' i r1 r2 c1 c2 =>?_,λs sl i r1 c1 =>?_,λi hi hno=>hR.out i ⟨hi,hno⟩,λj sl hj hs =>?_,λs sl i r1 c1=>by
  obtain⟨o,a1,a2⟩:=live s sl r1
  exact hR.fpl s o sl i a1 a2 r1 c1⟩
 exact hR.ob j o (by rw[ho];exact zu4 os hm);obtain⟨o,a1,a2⟩:=live s sl r1;obtain⟨o',b1,b2⟩:=live s' sl' r2;exact hR.inj s s' o o' sl sl' i a1 b1 a2 b2 r1 r2 c1 c2;obtain⟨o,a1,a2⟩:=live s sl r1;have:=hR.mine s o sl i a1 a2 r1 c1;by_cases hlt:i<L.length;right;by_cases hex:∃(k:Nat) (sl0:Slot),ρ0[k]? = some sl0∧sl0.has i;exact hex;exact(this ⟨hlt,λk sl0 e1 e2=>hex ⟨k,sl0,e1,e2⟩⟩).elim;left;omega
 exact hR.pin j sl (by simp only[z1m,Qav];rw[Qbo hj];exact hs)
theorem zvh:∀(l:List Sh) (y:HL D.T (Sh.z0r l)),(z01 D (λk=>k) l y).length=l.length
 |[],_=>rfl
 |s::l,y=>by
  show(zeo D (λk=>k) s (HL.fst _ y)::z01 D (λk=>k) l (HL.snd _ y)).length=_;rw[List.length_cons,zvh l,List.length_cons]
structure ygj(D:Dat)(lv:Nat)(L:List (Option kz8))(ρ0:List Slot)(args:List Sh)(aos:List OSh)(x:HL D.T (Sh.z0r args++yzq aos))(vargs:List V):Prop where
 len:ρ0.length=aos.length
 args:VRL D ρ0 lv (z01 D (λk=>k) args (HL.fst _ x)) vargs
 ob:∀j o,(j,o)∈z1g D (λk=>k) aos 0 (HL.snd _ x)->∃sl,ρ0[j]? = some sl∧OR D ρ0 lv L sl o
 inj:SlOk L ρ0
theorem ygj.entry{L:List (Option kz8)}{E:Nat->Nat->Option kz8}{ρ0:List Slot}{args:List Sh}{aos:List OSh}{x:HL D.T (Sh.z0r args++yzq aos)}{vargs:List V}(h:ygj D lv L ρ0 args aos x vargs)(p:Nat){nt:Nat}(hargs:args.length<=nt) :
  TRr D (z1m lv L E ρ0 p) ρ0 (entry D args aos nt [] x) ⟨vargs++List.replicate (nt-vargs.length) .any,⟨lv,L,E⟩,[],E⟩:=by
 have hvl:vargs.length=args.length:=by rw[<-h.args.length];exact zvh _ _
 refine⟨h.len,by simp only[Ab.entry,List.length_append,List.length_replicate];omega,zme _ h.args,λs o ho=>h.ob s o (z3m ho),λs s' o o' sl sl' i a1 a2 l1 l2 r1 r2=>h.inj.1 s s' sl sl' i r1 r2,λs o sl i a1 l1 r1 hk ho=>ho.2 s sl r1 hk,rfl,rfl,rfl,rfl,λi hi=>⟨hi.1,rfl⟩,λj sl hj =>?_,λs o sl i a1 l1 r1 hk=>h.inj.2 s sl i r1 hk,λi s v hi=>by simp[Ab.entry]at hi⟩;simp only[z1m,Qav]at hj
 split at hj;exact hj;cases hj
def ypt(D:Dat)(lv:Nat):(m:Option Sh)->HL D.T (zna m)->zc6->Prop
 |none,_,am=>am = .ret
 |some s,x,am=>∃v,am = .pan v false∧VR D [] lv (zeo D (λk=>k) s x) v
def zes.Ok(P:Program)(de:zes D):Prop:=∀x mx y,de.go x mx=some y->∀(lv:Nat) (L:List (Option kz8)) (E:Nat->Nat->Option kz8) (ρ0:List Slot) (vargs:List V),ygj D lv L ρ0 de.args de.aos x vargs ->
 ∀(am:zc6),ypt D lv de.m mx am->∀(W:World) (g:Gh) (cargs:Array Value) (u:FrameMode),Good W g ⟨lv,L,E⟩->zi0 W g ⟨lv,L,E⟩ vargs cargs->zqq W g ⟨lv,L,E⟩ am u ->
  (∀w,(callFunc de.f cargs).run P w = .ok (.enter de.f cargs) w)∧CallsD P de.f cargs u W (λe u' W'=>∃v L' g' ρ',e = .returned v∧Step W g ⟨lv,L,E⟩ W' g' ⟨lv,L',E⟩∧Good W' g' ⟨lv,L',E⟩∧settle u' = .returning∧Left D lv L ρ0 de.aos.length L' ρ' de.ros y)
def yqm(D:Dat)(ρ:List Slot)(lv:Nat)(z:Option (TV D.T))(am:zc6):Prop:=match z with
 |none=>am = .ret
 |some z=>∃v,am = .pan v false∧VR D ρ lv z v
theorem y4c(hD:D.Ok P){m:Option Sh}{z:Option (TV D.T)}{mx:HL D.T (zna m)}(h:y9k D m z=some mx){am:zc6}(hz:yqm D ρ lv z am):ypt D lv m mx am:=by
 cases m with
 |none=>
  cases z with
  |none=>exact hz
  |some z=>cases h
 |some s=>
  cases z with
  |none=>cases h
  |some z=>
   simp only[y9k]at h;split at h;rename_i M x hx;injection h with h;subst h;obtain⟨v,h1,h2⟩:=hz;obtain⟨a1,a2,a3⟩:=zfe hD s hx h2;refine⟨v,h1,a3 [] λk src hk =>?_⟩;have hM:=a2 ⟨λk src h=>by simp[fnd]at h,λk k' s h=>by simp[fnd]at h,λk src h=>by cases h⟩;exact absurd (hM.lt k src hk) (by omega);cases h
theorem y3p{am:zc6}(h:am = .ret∨∃v,am = .pan v false):am.zk1.settle = .ret:=by
 rcases h with rfl|⟨v,rfl⟩ <;> rfl
theorem zv0(hD:D.Ok P){des:List (zes D)}(hdes:∀de∈des,de.Ok P){fn:Func}{tm:Array Value}{k:TS D.T->Option R}{kp:TV D.T->TS D.T->Option R}{r:R}{R':Ending->World->Prop}{W0:World}{g0:Gh}{H0:kz3}
  (hk:∀ts σ ρ a W g,TRr D F ρ ts σ->yz7 W a g σ->Step W0 g0 H0 W g σ.H->a.tmps=tm->k ts=some r->∃c,(results fn tm).run P W = .ok c W∧R' (.returned c) W)
  (hkp:∀z ts σ ρ a W g v c,TRr D F ρ ts σ->yz7 W a g σ->Step W0 g0 H0 W g σ.H->VR D ρ F.lv z v->Rel W g σ.H v c->kp z ts=some r->R' (.panicked [{v:=c,recovered:=false}]) W) :
  ∀(l:List (Nat×List (TV D.T))) (z:Option (TV D.T)) (am:zc6) (ts:TS D.T) (σ:St) (ρ:List Slot) (a:Act) (W:World) (g:Gh) (u:FrameMode),ts.d=l->TRr D F ρ ts σ->yz7 W a g σ->Step W0 g0 H0 W g σ.H->a.tmps=tm->zqq W g σ.H am u ->
   yqm D ρ F.lv z am->zb8 D des k kp l z ts=some r->Leaves P fn tm R' a.defers u W
 |[],z,am,ts,σ,ρ,a,W,g,u,hd,hR,hG,hS,htm,hM,hz,h=>by
  have hd0:σ.d=[]:=by have:=hR.d;rw[hd]at this;exact this
  have hd1:a.defers=[]:=Qao (by rw[hG.dlen,hd0];rfl);rw[hd1]
  cases z with
  |none=>
   have hz:am = .ret:=hz;subst hz;have hu:u = .returning:=hM;subst hu
   exact hk ts σ ρ a W g hR hG hS htm h
  |some z=>
   obtain⟨v,rfl,hv⟩:=hz;obtain⟨c,h1,h2⟩:=hM;subst h1
   exact hkp z ts σ ρ a W g v c hR hG hS hv h2 h
 |(f,vs)::l,z,am,ts,σ,ρ,a,W,g,u,hd,hR,hG,hS,htm,hM,hz,h=>by
  simp only[zb8]at h;have hdl:=hR.d;rw[hd]at hdl;obtain⟨vargs,s,hs1,hs2,hs3⟩:=hdl;split at h
  case h_2=>cases h
  rename_i hfm;have hfm:f<y1v:=by rw[Nat.blt_eq]at hfm;exact hfm
  obtain⟨caps,as,k1,k2⟩:=(hG.defs 0 f vargs (by rw[hs1];rfl)).fn hfm
  obtain⟨d0,ds0,hds⟩:∃d0 ds0,a.defers=d0::ds0:=by
   cases hq:a.defers with
   |nil=>rw[hq]at k1;cases k1
   |cons d0 ds0=>exact⟨d0,ds0,rfl⟩
  rw[hds]at k1;simp only[List.getElem?_cons_zero,Qbl]at k1;subst k1
  have look:∀des':List (zes D),(∀de∈des',de∈des)->zsl D f vs z ts (λts'=>zb8 D des k kp l none {ts' with d:=l}) des'=some r->Leaves P fn tm R' a.defers u W:=λdes'=>by
   induction des' with
   |nil=>intro _ h;cases h
   |cons de rest ih=>
    intro hmem h;have ih:=ih λe he=>hmem e (Qai _ he)
    simp only[zsl]at h;split at h;exact ih h;rename_i hf;have hf:=Qaj hf;split at h;exact ih h;rename_i mx hmx;split at h;rename_i M x hfit;split at h;rename_i hc;obtain⟨c1,c2⟩:=hc;obtain⟨y,hy,h⟩:=yzv h;obtain⟨hMok,ρ0,d1,d2,d3,d4,d5⟩:=Ent.zd6 hD hR (e:=de.ent) hs2 hfit
    have hp:∀k,k<de.aos.length->∃s,fnd M k=some (.slot s):=λk hk=>by
     have:=Qas.1 c2 k (List.mem_range.2 hk);split at this;rename_i s hs;exact⟨s,hs⟩;cases this
    have hHeap:σ.H=⟨F.lv,σ.H.L,F.E⟩:=zht σ.H hR.lv hR.E;have hgiven:ygj D F.lv σ.H.L ρ0 de.args de.aos x vargs:=⟨d1,d4,d5,zu3 hR hMok d3⟩;have hde:=hdes de (hmem de Qak)
    have hmode:am = .ret∨∃v,am = .pan v false:=by
     cases z with
     |none=>exact .inl hz
     |some z=>obtain⟨v,h1,_⟩:=hz;exact .inr ⟨v,h1⟩
    have hG0:=hG.good;rw[hHeap]at hG0 k2 hM;obtain⟨e1,e2⟩:=hde x mx y hy F.lv σ.H.L F.E ρ0 vargs hgiven am (y4c hD hmx hz) W g (as++caps) u hG0 k2 hM;rw[hf]at e1 e2;rw[hds];have hu:u ≠ .run:=hM.run;refine leaves_cons hu (by show(callFunc f (as++caps)).run P W=_;exact e1 W) (e2.mono λe u' W' ⟨v,L',g',ρ',q1,q2,q3,q4,q5⟩ =>?_);subst q1;rw[<-hHeap]at q2
    obtain⟨g1,g2⟩:=TRr.after hR hD hMok d2 d3 (λk s hm=>hMok.one k _ hm) hp c1 q5
    have hR2:TRr D F (ρ++ρ'.drop de.aos.length) {z8d D M de.aos.length ts de.ros y with d:=l} {σ with H:=⟨F.lv,L',F.E⟩,d:=s}:=by
     have hd2:DfL D ρ F.lv l s:=hs3;exact⟨g1.nx,g1.nt,g1.tm,g1.ob,g1.inj,g1.mine,g1.lv,g1.E,g1.e0,hd2.more _,g1.out,g1.pin,g1.fpl,g1.g⟩
    have hG2:yz7 W' {a with defers:=ds0} g' {σ with H:=⟨F.lv,L',F.E⟩,d:=s}:=by
     have hl:=hG.dlen;rw[hds,hs1]at hl;refine⟨q3,hG.size,λj v hj=>(hG.tmps j v hj).mono q2,by simpa using hl,λj f' vs' hj =>?_⟩;have z1:=hG.defs (j+1) f' vs' (by rw[hs1];simpa using hj);rw[hds,List.getElem?_cons_succ]at z1;exact z1.mono hG.good q2
    exact zv0 hD hdes hk hkp l none .ret _ {σ with H:=⟨F.lv,L',F.E⟩,d:=s} _ {a with defers:=ds0} W' g' (settle u') rfl hR2 hG2 (hS.trans q2) htm q4 rfl h;cases h;exact ih h
  exact look des (λde h=>h) h
def EndQP(D:Dat)(F:Fr){Z:Type}(K:Ks D.T Z)(r:Z)(e:yza)(σ:St):Prop :=
 match e with
 |.normal=>∃ts,TR D F ts σ∧K.kn ts=some r
 |.ret=>∃ts,TR D F ts σ∧K.kr ts=some r
 |.panic v=>∃ts ρ z,TRr D F ρ ts σ∧VR D ρ F.lv z v∧K.kp z ts=some r
 |.exit _=>False
theorem yqu{Z:Type}{K:Ks D.T Z}(hkx:K.kx=[]){r:Z}:KOk D F K (EndQP D F K r) r :=
 ⟨λts σ hT h=>⟨ts,hT,h⟩,λid k ts σ h=>by rw[hkx]at h;simp[fnd]at h,λts σ hT h=>⟨ts,hT,h⟩,λz ts σ ρ v hR hv h=>⟨ts,ρ,z,hR,hv,h⟩⟩
theorem zt2(hD:D.Ok P){Z:Type}{f p nt:Nat}{args:List Sh}{aos:List OSh}{fn:Func}{code:Code}{kfin:TS D.T->Option Z}{kpan:TV D.T->TS D.T->Option Z}{des:List (zes D)}{go:HL D.T (Sh.z0r args++yzq aos)->Option Z}{K:Ks D.T Z}
  (hf:P.funcs[f]? = some fn) (hb:fn.body=some code) (hnt:fn.ntmps=nt) (hent:∀args w,(callFunc f args).run P w = .ok (.enter f args) w) (hargs:args.length<=nt)
  (hK:K=⟨λts=>zb8 D des kfin kpan ts.d none ts,[],λts=>zb8 D des kfin kpan ts.d none ts,λz ts=>zb8 D des kfin kpan ts.d (some z) ts⟩)
  (hdes:∀de∈des,de.Ok P) (hrun:y96 P D code p args aos nt [] K go) {x:HL D.T (Sh.z0r args++yzq aos)}{z0:Z}(hz:go x=some z0) {lv:Nat}{L:List (Option kz8)}{E:Nat->Nat->Option kz8}{ρ0:List Slot}{vargs:List V}(hg:ygj D lv L ρ0 args aos x vargs) {Post:Out->kz3->Prop}
  (hret:∀ts σ ρ,TRr D (z1m lv L E ρ0 p) ρ ts σ->kfin ts=some z0->∃υ vs,zj1 σ υ∧zyh P υ fn.results.toList=some vs∧Post (.ret (z9a vs)) υ.H)
  (hpan:∀z ts σ ρ v,TRr D (z1m lv L E ρ0 p) ρ ts σ->VR D ρ lv z v->kpan z ts=some z0->Post (.pan v) σ.H):znr P f vargs ⟨lv,L,E⟩ Post:=λW g cargs hG hA=>by
 subst hnt;refine⟨hent cargs W,calls_of_wp_defers hf hb ?_⟩;have hpl:(z1m lv L E ρ0 p).pin.length<=p:=by simp only[z1m,Qax];omega
 have hkx:K.kx=[]:=by rw[hK]
 have hsat:=hrun (z1m lv L E ρ0 p) _ z0 rfl hpl (yqu (K:=K) hkx) x _ (hg.entry (E:=E) p hargs).tr hz;refine wp_mono (hsat W g ⟨lv,L,E⟩ W _ g ⟨hG⟩ ⟨rfl,.refl _ _ _⟩ (zpz hG hA)).wp λex a W' ⟨g1,σ,e',q1,q2,q3,q4⟩ =>?_
 let PostE:Ending->World->Prop:=λen W'=>∃o H' g',Post o H'∧Step W g ⟨lv,L,E⟩ W' g' H'∧Good W' g' H'∧yqw W' g' H' o en
 have done:∀(z:Option (TV D.T)) (am:zc6) (u:FrameMode) (ts:TS D.T) (τ:St) (ρ:List Slot) (g2:Gh),TRr D (z1m lv L E ρ0 p) ρ ts τ->yz7 W' a g2 τ->Step W g ⟨lv,L,E⟩ W' g2 τ.H->zqq W' g2 τ.H am u->yqm D ρ lv z am ->
   zb8 D des kfin kpan ts.d z ts=some z0->Leaves P fn a.tmps PostE a.defers u W':=λz am u ts τ ρ g2 hR hG2 hS2 hM hz hl=>by
  refine zv0 (F:=z1m lv L E ρ0 p) (R':=PostE) (W0:=W) (g0:=g) (H0:=⟨lv,L,E⟩) hD hdes (λts σ ρ a W2 g2 t1 t2 t3 t4 t5 =>?_) (λz ts σ ρ a W2 g2 v c t1 t2 t3 t4 t5 t6 =>?_) ts.d z am ts τ ρ a W' g2 u rfl hR hG2 hS2 rfl hM hz hl;obtain⟨υ,vs,w1,r1,r2⟩:=hret ts σ ρ t1 t5;obtain⟨g3,w3,w4⟩:=w1 W g ⟨lv,L,E⟩ W2 a g2 ⟨hG⟩ ⟨t1.e0,t3⟩ t2
  obtain⟨c,z1,z2⟩:=zaz (P:=P) (fn:=fn) (v:=z9a vs) w4 (by simp only[z5g,r1,Qbk]);rw[t4]at z1;exact⟨c,z1,.ret (z9a vs),υ.H,g3,r2,w3.2,w4.good,c,rfl,z2⟩;exact⟨.pan v,σ.H,g2,hpan z ts σ ρ v t1 t4 t6,t3,t2.good,c,rfl,t5⟩
 have back:∀{ts:TS D.T},TR D (z1m lv L E ρ0 p) ts σ->zb8 D des kfin kpan ts.d none ts=some z0->Leaves P fn a.tmps PostE a.defers .returning W':=λ{ts} hT hl=>by
  obtain⟨τ,ρ,w1,w2⟩:=hT;obtain⟨g2,w3,w4⟩:=w1 W g ⟨lv,L,E⟩ W' a g1 ⟨hG⟩ q2 q3;exact done none .ret .returning ts τ ρ g2 w2 w4 w3.2 rfl rfl hl
 subst hK
 cases q1 with
 |normal=>obtain⟨ts,hT,hl⟩:=q4;exact back hT hl
 |ret=>obtain⟨ts,hT,hl⟩:=q4;exact back hT hl
 |exit id=>exact q4.elim
 |panic v c hr=>
  obtain⟨ts,ρ,z,hR,hv,hl⟩:=q4;exact done (some z) (.pan v false) _ ts σ ρ g1 hR q3 q2.2 ⟨c,rfl,hr⟩ ⟨v,rfl,hv⟩ hl
theorem zt8{L:List (Option kz8)}{E:Nat->Nat->Option kz8}{ρ0:List Slot}{p:Nat}:(z1m lv L E ρ0 p).pin.length<=p:=by simp only[z1m,Qax];omega
theorem yp3(hD:D.Ok P){e:Ent D}{fn:Func}{code:Code}{nt:Nat}{l:LSh}{pack:HL D.T l.tys->R}{un:R->HL D.T (Sh.z0r e.outs++yzq e.ros)}{des:List (zes D)}
  {go:HL D.T (Sh.z0r e.args++yzq e.aos)->Option (Res (HL D.T (e.pan.tys++yzq e.pos)) R)}
  (hf:P.funcs[e.f]? = some fn) (hb:fn.body=some code) (hnt:fn.ntmps=nt) (hent:∀args w,(callFunc e.f args).run P w = .ok (.enter e.f args) w) (hargs:e.args.length<=nt)
  (hgo:∀(R':Type) (x:HL D.T (Sh.z0r e.args++yzq e.aos)) (k:HL D.T (Sh.z0r e.outs++yzq e.ros)->Option R') (kp:HL D.T (e.pan.tys++yzq e.pos)->Option R'),e.go x k kp=(go x).bind λo=>z8n o (λr=>k (un r)) (λy=>kp y))
  (hpure:e.pure=false) (hkc:e.kc=[]) (hpt:(match e.pan with| .tup _=>false|_=>true)=true) (hren:e.ren=[]) (hp1:e.p<=l.pin) (hp2:l.pin<=l.os.length) (hlen:l.os.length=e.ros.length) (hp3:e.p<=e.pos.length)
  (hout:∀x,zpa P D (l.bld D x) fn.results.toList=some (z01 D (λk=>k) e.outs (HL.fst _ (un (pack x))))∧(l.bld D x).o=z1g D (λk=>k) e.ros 0 (HL.snd _ (un (pack x))))
  (hdes:∀de∈des,de.Ok P) (hrun:y96 P D code e.p e.args e.aos nt [] (yl7 D des l pack e.pan e.pos e.p (λy=>y)) go):e.Ok P:=λR' x k kp r h=>by
 rw[hpure];rw[hgo]at h;obtain⟨o0,h1,h2⟩:=zpk h
 cases o0 with
 |ok r0=>
  refine .inl ⟨un r0,h2,λlv L E ρ0 vargs k1 k2 k3 k4 _=>zt2 (p:=e.p) hD hf hb hnt hent hargs rfl hdes hrun h1 ⟨k1,k2,k3,k4⟩ (λts σ ρ t1 t5 =>?_) λz ts σ ρ v _ _ hk =>?_⟩;obtain⟨y,hy,υ,ρ',w1,w2⟩:=LSh.z66 hD (Nat.le_trans zt8 hp1) hp2 t1.tr t5;injection hy with hy;injection hy with hy;subst hy;obtain⟨o1,o2⟩:=hout y;obtain⟨vs,r1,r2⟩:=zd3 hD w2 o1;obtain⟨l1,l2⟩:=zqa w2 o2 hlen
  exact⟨υ,vs,w1,r1,υ.H.L,ρ',l1,l2,⟨(by rw[hren];intro q hq;cases hq),by rw[hkc];exact .nil⟩,vs,rfl,r2⟩;unfold ypa at hk
  split at hk <;> cases hk
 |pan y0=>
  refine .inr ⟨y0,h2,λlv L E ρ0 vargs k1 k2 k3 k4 _=>zt2 (p:=e.p) hD hf hb hnt hent hargs rfl hdes hrun h1 ⟨k1,k2,k3,k4⟩ (λts σ ρ t1 t5=>(by
   obtain⟨y,hy,_⟩:=LSh.z66 hD (Nat.le_trans zt8 hp1) hp2 t1.tr t5
   cases hy)) λz ts σ ρ v t1 t4 hk =>?_⟩
  unfold ypa at hk;split at hk;rename_i y hy;injection hk with hk;injection hk with hk;subst hk;have hpl:(z1m lv L E ρ0 e.p).pin.length<=e.p:=by simp only[z1m,Qax];omega
  obtain⟨ρ',w1,w2⟩:=y91 hD t1 hpl hp3 t4 hy;obtain⟨l1,l2⟩:=zqa w1 rfl rfl;exact⟨σ.H.L,ρ',l1,l2,v,(yr0 hpt).symm,w2⟩;cases hk
theorem yql(hD:D.Ok P){e:Ent D}{fn:Func}{code:Code}{nt:Nat}{l:LSh}{pack:HL D.T l.tys->R}{un:R->HL D.T (Sh.z0r e.outs++yzq e.ros)}{des:List (zes D)}{go:HL D.T (Sh.z0r e.args++yzq e.aos)->Option R}
  (hf:P.funcs[e.f]? = some fn) (hb:fn.body=some code) (hnt:fn.ntmps=nt) (hent:∀args w,(callFunc e.f args).run P w = .ok (.enter e.f args) w) (hargs:e.args.length<=nt)
  (hgo:∀(R':Type) (x:HL D.T (Sh.z0r e.args++yzq e.aos)) (k:HL D.T (Sh.z0r e.outs++yzq e.ros)->Option R') (kp:HL D.T (e.pan.tys++yzq e.pos)->Option R'),e.go x k kp=(go x).bind λr=>k (un r))
  (hpure:e.pure=false) (hkc:e.kc=[]) (hren:e.ren=[]) (hp1:e.p<=l.pin) (hp2:l.pin<=l.os.length) (hlen:l.os.length=e.ros.length)
  (hout:∀x,zpa P D (l.bld D x) fn.results.toList=some (z01 D (λk=>k) e.outs (HL.fst _ (un (pack x))))∧(l.bld D x).o=z1g D (λk=>k) e.ros 0 (HL.snd _ (un (pack x))))
  (hdes:∀de∈des,de.Ok P) (hrun:y96 P D code e.p e.args e.aos nt [] (ylb D des l pack) go):e.Ok P:=λR' x k kp r h=>by
 rw[hpure];rw[hgo]at h;obtain⟨r0,h1,h2⟩:=zpk h;refine .inl ⟨un r0,h2,λlv L E ρ0 vargs k1 k2 k3 k4 _=>zt2 (p:=e.p) hD hf hb hnt hent hargs rfl hdes hrun h1 ⟨k1,k2,k3,k4⟩ (λts σ ρ t1 t5 =>?_) λz ts σ ρ v _ _ hk=>(by cases hk)⟩;obtain⟨y,hy,υ,ρ',w1,w2⟩:=LSh.z66 hD (Nat.le_trans zt8 hp1) hp2 t1.tr t5;injection hy with hy;subst hy;obtain⟨o1,o2⟩:=hout y;obtain⟨vs,r1,r2⟩:=zd3 hD w2 o1;obtain⟨l1,l2⟩:=zqa w2 o2 hlen
 exact⟨υ,vs,w1,r1,υ.H.L,ρ',l1,l2,⟨(by rw[hren];intro q hq;cases hq),by rw[hkc];exact .nil⟩,vs,rfl,r2⟩
theorem yms(hD:D.Ok P){f:Nat}{fn:Func}{code:Code}{nt:Nat}{args:List Sh}{aos ros:List OSh}{l:LSh}{pack:HL D.T l.tys->R}{un:R->HL D.T (yzq ros)}{go:HL D.T (Sh.z0r args++yzq aos)->Option R}
  (hf:P.funcs[f]? = some fn) (hb:fn.body=some code) (hnt:fn.ntmps=nt) (hent:∀args w,(callFunc f args).run P w = .ok (.enter f args) w) (hargs:args.length<=nt)
  (hp1:aos.length<=l.pin) (hp2:l.pin<=l.os.length) (hlen:l.os.length=ros.length) (hres:fn.results.toList=[]) (hout:∀x,(l.bld D x).o=z1g D (λk=>k) ros 0 (un (pack x)))
  (hrun:y96 P D code aos.length args aos nt [] (zmq D l pack) go):zes.Ok P {f:=f,args:=args,aos:=aos,m:=none,ros:=ros,go:=λx _=>(go x).bind λr=>some (un r)}:=λx mx y hgo lv L E ρ0 vargs hg am hm W g cargs u hG hA hM=>by
 obtain⟨r,h1,h2⟩:=zpk hgo;injection h2 with h2;have hm:am = .ret:=hm;subst hm;have hu:u = .returning:=hM;subst hu;subst hnt;refine⟨λw=>hent cargs w,(callsD_of_wp (R:=λe W'=>∃v L' g' ρ',e = .returned v∧Step W g ⟨lv,L,E⟩ W' g' ⟨lv,L',E⟩∧Good W' g' ⟨lv,L',E⟩∧Left D lv L ρ0 aos.length L' ρ' ros y) hf hb ?_).mono λe u' W' ⟨q1,v,L',g',ρ',q2,q3,q4,q5⟩=>⟨v,L',g',ρ',q2,q3,q4,by rw[q1];rfl,q5⟩⟩
 have hpl:(z1m lv L E ρ0 aos.length).pin.length<=aos.length:=by simp only[z1m,Qax];omega
 refine wp_mono (hrun (z1m lv L E ρ0 aos.length) _ r rfl hpl (zx8 hD (by omega) hp2) x _ (hg.entry (E:=E) aos.length hargs).tr h1 W g ⟨lv,L,E⟩ W _ g ⟨hG⟩ ⟨rfl,.refl _ _ _⟩ (zpz hG hA)).wp λex a W' ⟨g1,σ,e',q1,q2,q3,q4⟩ =>?_
 have key:(∃x,pack x=r∧TR D (z1m lv L E ρ0 aos.length) (l.bld D x) σ)->a.defers=[]∧∃v,(results fn a.tmps).run P W' = .ok v W'∧∃v' L' g' ρ',Ending.returned v = .returned v'∧Step W g ⟨lv,L,E⟩ W' g' ⟨lv,L',E⟩∧Good W' g' ⟨lv,L',E⟩∧Left D lv L ρ0 aos.length L' ρ' ros y:=λ⟨z,hz,υ,ρ',w1,w2⟩=>by
  subst hz;obtain⟨g3,w3,w4⟩:=w1 W g ⟨lv,L,E⟩ W' a g1 ⟨hG⟩ q2 q3;obtain⟨c,z1,z2⟩:=zaz (P:=P) (fn:=fn) (v:=z9a []) w4 (by simp only[z5g,hres,zyh,Qbk]);obtain⟨l1,l2⟩:=zqa w2 (hout z) hlen;have hd:υ.d=[]:=w2.d;rw[h2]at l2;have w5:=w3.2;have w6:=w4.good;rw[l1]at w5 w6;exact⟨Qao (by rw[w4.dlen,hd];rfl),c,z1,c,υ.H.L,g3,ρ',rfl,w5,w6,l2⟩
 cases q1 with
 |normal=>exact key q4
 |ret=>exact key q4
 |exit id=>exact q4.elim
 |panic v c hr=>exact q4.elim
def mvOf(D:Dat):(m:Option Sh)->HL D.T (zna m)->TV D.T
 |none,_=>.nili
 |some s,x=>zeo D (λk=>k) s x
theorem ymd{tbl:List (Ent D)}{J:Nat->TS D.T->Option R}{mv:TV D.T}{c:AC}{K:Ks D.T R}{r:R}(h:runS D P tbl J mv c ts K=some r) :
  ∃id ops b o rest ts1,c = .seq (.region id ops false) b∧ops.toList=o::rest∧isRec o=true∧ts.put D o.dst mv=some ts1∧zk6 P D tbl ops.toList (λts=>run P D tbl J b ts K) K.kp rest ts1=some r:=by
 unfold runS at h;split at h;split at h;rename_i hl;split at h;rename_i hrec;split at h;rename_i ts1 hput;exact⟨_,_,_,_,_,ts1,rfl,hl,hrec,hput,h⟩;cases h;cases h;cases h;cases h
theorem yi3(hm:P.follows .mixedOrders=true)(hD:D.Ok P){f:Nat}{fn:Func}{c:AC}{nt:Nat}{args:List Sh}{aos ros:List OSh}{m:Option Sh}{l:LSh}{pack:HL D.T l.tys->R}{un:R->HL D.T (yzq ros)}{go:HL D.T (Sh.z0r args++yzq aos)->HL D.T (zna m)->Option R}
  (hf:P.funcs[f]? = some fn) (hb:fn.body=some c.erase) (hnt:fn.ntmps=nt) (hent:∀args w,(callFunc f args).run P w = .ok (.enter f args) w) (hargs:args.length<=nt)
  (hp1:aos.length<=l.pin) (hp2:l.pin<=l.os.length) (hlen:l.os.length=ros.length) (hres:fn.results.toList=[]) (hlab:c.labels=[]) (hmode:(match m with|some (.iface _ _)=>true|some _=>false|none=>true)=true) (hout:∀x,(l.bld D x).o=z1g D (λk=>k) ros 0 (un (pack x)))
  (hgo:∀x mx,go x mx=runS D P [] (λ_ _=>none) (mvOf D m mx) c (entry D args aos nt [] x) (zmq D l pack)):zes.Ok P {f:=f,args:=args,aos:=aos,m:=m,ros:=ros,go:=λx mx=>(go x mx).bind λr=>some (un r)}:=λx mx y hgo' lv L E ρ0 vargs hg am ham W g cargs u hG hA hM=>by
 obtain⟨r,h1,h2⟩:=zpk hgo';injection h2 with h2;subst hnt;rw[hgo]at h1;refine⟨λw=>hent cargs w,callsD_of_wpS hf hb λc₀ cs hu =>?_⟩
 let F:=z1m lv L E ρ0 aos.length
 have hpl:F.pin.length<=aos.length:=by simp only[F,z1m,Qax];omega
 have hK:KOk D F (zmq D l pack) (ycy D F l pack r) r:=zx8 hD (by omega) hp2;have hR0:TRr D F ρ0 (entry D args aos fn.ntmps [] x) _:=hg.entry (E:=E) aos.length hargs
 have hmv:VR D ρ0 F.lv (mvOf D m mx) am.value:=by
  cases m with
  |none=>have ham:am = .ret:=ham;subst ham;simp only[mvOf,zc6.value,VR]
  |some s=>obtain⟨v,h3,h4⟩:=ham;subst h3;exact(h4.more ρ0:VR D ([]++ρ0) lv _ v)
 obtain⟨id,ops,b,o,rest,ts1,rfl,hl,hrec,hput,h1⟩:=ymd h1
 have ho:ops[0]? = some o:=by
  have:=congrArg (λx=>x[0]?) hl;simpa using this
 have hsz:ops.size=rest.length+1:=by
  have:=congrArg List.length hl;simpa using this
 have hlab':b.labels=[]:=by
  simp only[AC.labels,List.nil_append]at hlab;exact hlab
 have z1l:zqd P (LOk P D F (λ_ _=>none) r) b (ycy D F l pack r):=zb6 (by rw[hlab'];exact .nil) λl' a Q' hs=>by
  have:=z68 hs;rw[hlab']at this;cases this
 have behind:∀(σ':St) (ts':TS D.T) (ρ':List Slot),TRr D F ρ' ts' σ'->run P D [] (λ_ _=>none) b ts' (zmq D l pack)=some r->∀(W':World) (a':Act) (g':Gh) (u':FrameMode),Step W g ⟨lv,L,E⟩ W' g' σ'.H->yz7 W' a' g' σ'->zqq W' g' σ'.H am.zk1 u' ->
   b.erase.wpS P (zrx W g ⟨lv,L,E⟩ c₀ cs (ycy D F l pack r) am.zk1) a' ({c₀ with mode:=u'}::cs) W':=λσ' ts' ρ' hR' hrun W' a' g' u' hS' hG' hM'=>by
  have hs:=z2j (J:=λ_ _=>none) (tbl:=[]) (c:=b) hD (λe he=>by cases he) hK z1l hR'.tr hrun;refine wpS_of_wp (wp_mono (hs W' g' σ'.H W' a' g' ⟨hG'.good⟩ ⟨by rw[hR'.e0,hR'.E];rfl,.refl _ _ _⟩ hG').wp λe a'' W'' ⟨g'',σ'',e'',q1,q2,q3,q4⟩ =>?_);exact⟨g'',σ'',e'',u',q1,⟨by rw[q2.1,hR'.E];rfl,hS'.trans q2.2⟩,q3,rfl,hM'.mono q2.2,q4⟩
 have fin:∀a0:Act,yz7 W a0 g ⟨vargs++List.replicate (fn.ntmps-vargs.length) .any,⟨lv,L,E⟩,[],E⟩->(AC.seq (.region id ops false) b).erase.wpS P (zrx W g ⟨lv,L,E⟩ c₀ cs (ycy D F l pack r) am.zk1) a0 (c₀::cs) W:=λa0 hG0=>by
  refine wpS_seq (wpS_region ?_);rw[List.range_eq_range',hsz,List.range'_succ];simp only[wpOpsS,ho];unfold isRec at hrec;split at hrec
  ·rename_i cl hop;split at hrec
   ·rename_i hcal;simp only[Qag,Option.isNone_iff_eq_none,Array.isEmpty_iff]at hrec;have hwant:Region.wanted o (yielded ops a0.tmps)=true:=by unfold Region.wanted;rw[hrec.1]
    have hex:(execOp a0.eval o).run P W = .ok .recover W:=by
     unfold execOp;rw[hop];obtain⟨callee,as,argTypes⟩:=cl;simp only at hcal hrec;obtain⟨_,rfl⟩:=hrec;subst hcal;simp[resolve,invoke,builtin]
    rw[Qbo hwant,hex];simp only
    have rest':∀(cv:Value) (u':FrameMode),Rel W g ⟨lv,L,E⟩ am.value cv->zqq W g ⟨lv,L,E⟩ am.zk1 u'->wpOpsS P ops (Exit.thenS (b.erase.wpS P (zrx W g ⟨lv,L,E⟩ c₀ cs (ycy D F l pack r) am.zk1)) (zrx W g ⟨lv,L,E⟩ c₀ cs (ycy D F l pack r) am.zk1)) (List.range' (0+1) rest.length) (a0.put o.dst cv) ({c₀ with mode:=u'}::cs) W:=λcv u' hv hM'=>by
     have hR1:=hR0.put hput hmv;have hG1:yz7 W (a0.put o.dst cv) g (St.put ⟨vargs++List.replicate (fn.ntmps-vargs.length) .any,⟨lv,L,E⟩,[],E⟩ o.dst am.value):=hG0.next (.refl _ _ _) hG0.good hv o.dst
     have hs:=zcf (Q:=λe σ'=>e = .normal∧∃ts' ρ',TRr D F ρ' ts' σ'∧run P D [] (λ_ _=>none) b ts' (zmq D l pack)=some r) hD (tbl:=[]) (r:=r) (λe he=>by cases he) (λts' σ' ρ' hR' hk=>⟨rfl,ts',ρ',hR',hk⟩) (λz ts' σ' ρ' v _ _ hk=>by cases hk) rest 1 (λj=>by
      have:=congrArg (λx=>x[1+j]?) hl
      simpa[Nat.add_comm 1 j]using this.symm) hR1 h1
     have hH:(St.put ⟨vargs++List.replicate (fn.ntmps-vargs.length) .any,⟨lv,L,E⟩,[],E⟩ o.dst am.value).H=⟨lv,L,E⟩:=by cases o.dst <;> rfl
     have he:(St.put ⟨vargs++List.replicate (fn.ntmps-vargs.length) .any,⟨lv,L,E⟩,[],E⟩ o.dst am.value).e0=E:=by cases o.dst <;> rfl
     have hs2:=hs W g ⟨lv,L,E⟩ W (a0.put o.dst cv) g ⟨hG⟩ ⟨by rw[he],by rw[hH];exact .refl _ _ _⟩ hG1;rw[show ops.size-1=rest.length by omega]at hs2;refine zni (Q:=Exit.thenS (b.erase.wpS P (zrx W g ⟨lv,L,E⟩ c₀ cs (ycy D F l pack r) am.zk1)) (zrx W g ⟨lv,L,E⟩ c₀ cs (ycy D F l pack r) am.zk1)) (λa w h=>zrx.out h) _ _ _ (zju (λe a' W' ⟨g',σ',e',q1,q2,q3,q4⟩ =>?_) _ _ _ hs2);obtain⟨rfl,ts',ρ',q5,q6⟩:=q4
     cases q1;exact behind σ' ts' ρ' q5 q6 W' a' g' u' q2.2 q3 (hM'.mono q2.2)
    cases am with
    |ret=>
     have hmd:c₀.mode = .returning:=by rw[hu];exact hM
     have hrd:recoverD (c₀::cs)=none:=by simp[recoverD,hmd]
     rw[hrd]
     exact rest' .nilIface c₀.mode .nili hmd
    |pan v rc=>
     have hrc:rc=false:=by
      cases m with
      |none=>cases (show zc6.pan v rc = .ret from ham)
      |some s=>obtain⟨v',h3,_⟩:=ham;injection h3
     subst hrc;obtain⟨cv,h3,h4⟩:=hM;have h3:c₀.mode=_:=hu.trans h3;have hrd:recoverD (c₀::cs)=some (cv,{c₀ with mode:=.panicking [{v:=cv,recovered:=true}]}::cs):=by simp[recoverD,h3]
     rw[hrd];exact rest' cv _ h4 ⟨cv,rfl,h4⟩
   cases hrec
  cases hrec
 refine yqe (fin _ (zpz hG hA)) λex a' cs' W' ⟨g',σ',e',u',q1,q2,q3,q4,q5,q6⟩ =>?_
 subst q4
 have hmode:am = .ret∨∃v,am = .pan v false:=by
  cases m with
  |none=>exact .inl ham
  |some s=>obtain⟨v,h3,_⟩:=ham;exact .inr ⟨v,h3⟩
 have hset:=q5.settle;rw[y3p hmode]at hset
 have key:(∃x,pack x=r∧TR D F (l.bld D x) σ')->a'.defers=[]∧∃u'',({c₀ with mode:=u'}::cs:List Frame)={c₀ with mode:=u''}::cs∧∃v,(results fn a'.tmps).run P W' = .ok v W'∧∃v' L' g' ρ',Ending.returned v = .returned v'∧Step W g ⟨lv,L,E⟩ W' g' ⟨lv,L',E⟩∧Good W' g' ⟨lv,L',E⟩∧settle u'' = .returning∧Left D lv L ρ0 aos.length L' ρ' ros y:=λ⟨z,hz,υ,ρ',w1,w2⟩=>by
  subst hz;obtain⟨g3,w3,w4⟩:=w1 W g ⟨lv,L,E⟩ W' a' g' ⟨hG⟩ q2 q3;obtain⟨c,z1,z2⟩:=zaz (P:=P) (fn:=fn) (v:=z9a []) w4 (by simp only[z5g,hres,zyh,Qbk]);obtain⟨l1,l2⟩:=zqa w2 (hout z) hlen;have hd:υ.d=[]:=w2.d;rw[h2]at l2;have w5:=w3.2;have w6:=w4.good;rw[l1]at w5 w6;exact⟨Qao (by rw[w4.dlen,hd];rfl),u',rfl,c,z1,c,υ.H.L,g3,ρ',rfl,w5,w6,hset,l2⟩
 cases q1 with
 |normal=>exact key q6
 |ret=>exact key q6
 |exit id=>exact q6.elim
 |panic v c hr=>exact q6.elim
def FI.ofP(D:Dat)(f nt p:Nat)(args:List Sh)(aos:List OSh)(outs:List Sh)(ros:List OSh)(pan:Sh)(pos:List OSh)(des:List (zes D))(l:LSh){R:Type}(pack:HL D.T l.tys->R)(un:R->HL D.T (Sh.z0r outs++yzq ros))
  (go:Nat->HL D.T (Sh.z0r args++yzq aos)->Option (Res (HL D.T (pan.tys++yzq pos)) R)) (z1l:Nat->List (Nat×Lb D (Res (HL D.T (pan.tys++yzq pos)) R))) (c:AC):FI D :=
 {R:=Res (HL D.T (pan.tys++yzq pos)) R,ent:=λn=>{f:=f,p:=p,args:=args,aos:=aos,outs:=outs,ros:=ros,pan:=pan,pos:=pos,pure:=false,go:=λx k kp=>(go n x).bind λo=>z8n o (λr=>k (un r)) (λy=>kp y)},
   c:=c,K:=yl7 D des l pack pan pos p (λy=>y),p:=p,args:=args,aos:=aos,nt:=nt,z1l:=z1l,go:=go}
def y7h(P:Program):List (zes D)->Prop
 |[]=>True
 |d::l=>d.Ok P∧y7h P l
theorem y7h.get:∀{l:List (zes D)},y7h P l->∀d∈l,d.Ok P
 |d::l,h,e,he=>by
  rcases Qbf.1 he with rfl|he
  exact h.1;exact y7h.get h.2 e he
def chkP(p nt:Nat)(args:List Sh)(ros pos:List OSh)(l:LSh):Bool :=
 Nat.ble args.length nt&&Nat.ble p l.pin&&Nat.ble l.pin l.os.length&&Nat.beq l.os.length ros.length&&Nat.ble p pos.length
theorem FI.zlf{hD:D.Ok P}{f nt p:Nat}{args:List Sh}{aos:List OSh}{outs:List Sh}{ros:List OSh}{pan:Sh}{pos:List OSh}{des:List (zes D)}{l:LSh}{pack:HL D.T l.tys->R}{un:R->HL D.T (Sh.z0r outs++yzq ros)}
  {go:Nat->HL D.T (Sh.z0r args++yzq aos)->Option (Res (HL D.T (pan.tys++yzq pos)) R)} {z1l:Nat->List (Nat×Lb D (Res (HL D.T (pan.tys++yzq pos)) R))}{c:AC}{tbl:Nat->List (Ent D)}{fn:Func}
  (hf:P.funcs[f]? = some fn) (hnt:fn.ntmps=nt) (hent:∀args w,(callFunc f args).run P w = .ok (.enter f args) w)
  (hb:fn.body=some c.erase) (hnd:c.labels.Nodup) (hchk:chkP p nt args ros pos l=true) (hp:∀n,zvj p (z1l n)=true) (hdes:y7h P des)
  (hout:∀x,zpa P D (l.bld D x) fn.results.toList=some (z01 D (λk=>k) outs (HL.fst _ (un (pack x)))))
  (hz:∀x,go 0 x=none) (hlz:zp6 (λ_ lb=>∀x,lb.go x=none) (z1l 0))
  (hs:∀n x,go (n+1) x=run P D (tbl n) (jump D (z1l n)) c (entry D args aos nt [] x) (yl7 D des l pack pan pos p (λy=>y)))
  (hls:∀n,zp6 (λj lb=>∀x,lb.go x=zoz P D (tbl n) (jump D (z1l n)) j c (yl7 D des l pack pan pos p (λy=>y)) (lb.sh.bld D x)) (z1l (n+1)))
  (hros:∀x,(l.bld D x).o=z1g D (λk=>k) ros 0 (HL.snd _ (un (pack x)))) (hpt:(match pan with| .tup _=>false|_=>true)=true:=by rfl) (hrng:c.zfz=[]:=by kernel_rfl) :
  (FI.ofP D f nt p args aos outs ros pan pos des l pack un go z1l c).Good P D tbl where
 nodup:=hnd
 zfz:=λq hq=>by replace hq:q∈c.zfz:=hq;rw[hrng]at hq;cases hq
 zero:=hz
 lzero:=λj lb x h=>hlz.get (z3m h) x
 pins:=λn j lb h=>(znb (hp n)).get (z3m h)
 step:=hs
 lstep:=λn j lb x h=>(hls n).get (z3m h) x
 ok:=λn h=>by
  simp only[chkP,Qag,Nat.ble_eq]at hchk;obtain⟨⟨⟨⟨h1,h2⟩,h3⟩,h4⟩,h5⟩:=hchk;exact yp3 (l:=l) (pack:=pack) (un:=un) (go:=go n) (code:=c.erase) (des:=des) hD hf hb hnt hent h1 (λ_ _ _ _=>rfl) rfl rfl hpt rfl h2 h3 (Qaj h4) h5 (λx=>⟨hout x,hros x⟩) hdes.get h
def FI.ofD(D:Dat)(f nt p:Nat)(args:List Sh)(aos:List OSh)(outs:List Sh)(ros:List OSh)(des:List (zes D))(l:LSh){R:Type}(pack:HL D.T l.tys->R)(un:R->HL D.T (Sh.z0r outs++yzq ros))
  (go:Nat->HL D.T (Sh.z0r args++yzq aos)->Option R) (z1l:Nat->List (Nat×Lb D R)) (c:AC):FI D :=
 {R:=R,ent:=λn=>{f:=f,p:=p,args:=args,aos:=aos,outs:=outs,ros:=ros,pan:=.nilp,pos:=ros,pure:=false,go:=λx k _=>(go n x).bind λr=>k (un r)},
   c:=c,K:=ylb D des l pack,p:=p,args:=args,aos:=aos,nt:=nt,z1l:=z1l,go:=go}
theorem FI.zlu{hD:D.Ok P}{f nt p:Nat}{args:List Sh}{aos:List OSh}{outs:List Sh}{ros:List OSh}{des:List (zes D)}{l:LSh}{pack:HL D.T l.tys->R}{un:R->HL D.T (Sh.z0r outs++yzq ros)}
  {go:Nat->HL D.T (Sh.z0r args++yzq aos)->Option R} {z1l:Nat->List (Nat×Lb D R)}{c:AC}{tbl:Nat->List (Ent D)}{fn:Func}
  (hf:P.funcs[f]? = some fn) (hnt:fn.ntmps=nt) (hent:∀args w,(callFunc f args).run P w = .ok (.enter f args) w)
  (hb:fn.body=some c.erase) (hnd:c.labels.Nodup) (hchk:yn9 p nt args outs aos ros false l c []=true) (hp:∀n,zvj p (z1l n)=true) (hdes:y7h P des)
  (hout:∀x,zpa P D (l.bld D x) fn.results.toList=some (z01 D (λk=>k) outs (HL.fst _ (un (pack x)))))
  (hz:∀x,go 0 x=none) (hlz:zp6 (λ_ lb=>∀x,lb.go x=none) (z1l 0))
  (hs:∀n x,go (n+1) x=run P D (tbl n) (jump D (z1l n)) c (entry D args aos nt [] x) (ylb D des l pack))
  (hls:∀n,zp6 (λj lb=>∀x,lb.go x=zoz P D (tbl n) (jump D (z1l n)) j c (ylb D des l pack) (lb.sh.bld D x)) (z1l (n+1)))
  (hros:∀x,(l.bld D x).o=z1g D (λk=>k) ros 0 (HL.snd _ (un (pack x)))) (hrng:c.zfz=[]:=by kernel_rfl) :
  (FI.ofD D f nt p args aos outs ros des l pack un go z1l c).Good P D tbl where
 nodup:=hnd
 zfz:=λq hq=>by replace hq:q∈c.zfz:=hq;rw[hrng]at hq;cases hq
 zero:=hz
 lzero:=λj lb x h=>hlz.get (z3m h) x
 pins:=λn j lb h=>(znb (hp n)).get (z3m h)
 step:=hs
 lstep:=λn j lb x h=>(hls n).get (z3m h) x
 ok:=λn h=>by
  simp only[yn9,Qag,Nat.ble_eq]at hchk;obtain⟨⟨⟨h1,h2⟩,h3⟩,h4⟩:=hchk;exact yql (l:=l) (pack:=pack) (un:=un) (go:=go n) (code:=c.erase) (des:=des) hD hf hb hnt hent h1 (λ_ _ _ _=>rfl) rfl rfl rfl h2 h3 (Qaj h4.1.1) (λx=>⟨hout x,hros x⟩) hdes.get h
theorem ys3(hD:D.Ok P){f:FI D}{t:List (FI D)}(h:f.Good P D (tb t))(hok:OkL P t)(n:Nat):y96 P D f.c.erase f.p f.args f.aos f.nt f.gs f.K (f.go n) :=
 h.runs hD n λm _ e he=>by
  obtain⟨b,hm,rfl⟩:=Qbc.1 he;exact hok.get hm m
end
theorem zh2{P:Program}{D:Dat}(hD:D.Ok P){f:FI D}{bs:List (FI D)}(hb:OkL P bs)(h:f.Good P D (tb bs)):OkL P [f] :=
 ⟨λn=>h.ok n (h.runs hD n λm _ e he=>by
  obtain⟨b,hm,rfl⟩:=Qbc.1 he
  exact hb.get hm m),trivial⟩
def isLet(c:UInt8):Bool:=decide (97<=c.toNat)&&decide (c.toNat<=122)
def y7y(c:UInt8):Bool:=decide (48<=c.toNat)&&decide (c.toNat<=57)
def zan(c:UInt8):Bool:=isLet c||c==45||y7y c
def zfc(s:B8):Bool:=match s with
 |[]=>false
 |c::t=>isLet c&&t.all zan&&decide (s.length<=40)
def parts(b:UInt8):B8->List B8
 |[]=>[[]]
 |c::t=>if c==b then []::parts b t else match parts b t with
  |h::r=>(c::h)::r
  |[]=>[[c]]
def steps(s:B8):List B8:=if s==[]then []else parts 47 s
theorem ys0{s k}(h)(ha:s[k].toNat<128):zef s k=(s[k].toNat,1):=by
 have h':=by simpa[ByteArray.size]using h
 have e:(ByteArray.mk s.toArray)[k]=s[k]:=rfl;have:=decode_ascii ⟨s.toArray⟩ k h' (by rw[e];exact ha);exact this
theorem ym4{s k}(h)(ha:128<=s[k].toNat):128<=(zef s k).1∧1<=(zef s k).2:=by
 have h':=by simpa[ByteArray.size]using h
 exact decode_high ⟨s.toArray⟩ k h' (by exact ha)
end Go.Ab
