/-
  THE TYPED MACHINE: the operations on own objects do what the abstract machine does.
-/
import Derived.Test.YtdcbdnediadfcaaLib5
import Derived.Test.YtdcbdnediadfcaaLib4
namespace Go.Ab
open Go
set_option linter.unusedVariables false
set_option linter.unusedSimpArgs false
set_option linter.unusedSectionVars false
section
variable {P : Program} {D : Dat} {F : Fr} {ρ : List Slot} {ts : TS D.T} {σ : St} {lv : Nat}
theorem zul{H:zz2}{f:Operand->V}{op:Op}{v:V}(h:pv P H f op=some v):ox P H f op=some (v,H):=by
 cases op
 case call c=>
  simp only[pv]at h;unfold ox;simp only;split;rename_i hcal;simp[z33,hcal]at h;rename_i hcal;simp[z33,hcal]at h;rw[h];rfl
 all_goals first
  |(unfold ox;simp only[h,Qbn];done)
  |(simp[pv]at h;done)
theorem zar(H:zz2)(hlv:H.lv=F.lv)(hE:H.E=F.E):H=⟨F.lv,H.L,F.E⟩:=by cases H;simp only at hlv hE;subst hlv;subst hE;rfl
theorem TRr.zj5(hR:TRr D F ρ ts σ)(i:Nat)(o:yz4):σ.H.set F.lv i o={σ.H with L:=σ.H.L.set i (some o)}:=by
 unfold zz2.set;rw[Qbr hR.lv.symm]
variable (hD : D.Ok P)
include hD
theorem TRr.zdy(hR:TRr D F ρ ts σ){cs:List (TV D.T)}{vs:List V}(h:VRL D ρ F.lv cs vs) :
  TRr D F (ρ++[⟨.any,some σ.H.L.length,[],[]⟩]) (ts.new D (.cells cs)) {σ with H:=σ.H.push (.cells vs)}∧VR D (ρ++[⟨.any,some σ.H.L.length,[],[]⟩]) F.lv (.ptr ts.nx 0) (.ptr σ.H.lv σ.H.L.length 0):=by
 refine⟨hR.new _ _ _ hR.lv hR.E (by simp[zz2.push]) (λi hi=>by simp only[zz2.push];rw[Qal hi]) (λi hi=>by injection hi with hi;omega) ?_,?_⟩;simp only[OR];exact⟨σ.H.L.length,vs,rfl,by simp[zz2.push],h.more _⟩;simp only[VR];exact⟨⟨.any,some σ.H.L.length,[],[]⟩,σ.H.L.length,by rw[<-hR.nx];simp,rfl,by rw[hR.lv]⟩
omit hD in
theorem DR.one{t:DTy}{x:t.S D.T}{v:V}(h:DR D t x v)(ht:∀i,t ≠ .st i)(hn:t ≠ .nat):v.cells=[v]∧v.leaf=true∧(∀c,z2c v [c]=c)∧∀c:V,c.leaf=true->fits v [c]=true:=by
 cases h with
 |st=>exact(ht _ rfl).elim
 |enc=>exact(ht _ rfl).elim
 |nat=>exact(hn rfl).elim
 |_=>exact⟨rfl,rfl,λ_=>rfl,λc hc=>hc⟩
theorem DR.z2c{t:DTy}{y z:t.S D.T}{w vx:V}{x:TV D.T}{off:Nat}(hw:DR D t y w)(hx:VR D ρ lv x vx)(hsol:x.kz9=true)(hoff:off+x.cells.length<=(D.tv t y).cells.length)
  (hz:asD D t (match D.tv t y with| .agg cs'=>.agg (z6y cs' off x.cells)|_=>x) = .ok z) (ht:t ≠ .nat) :
  DR D t z (Go.Ab.z2c w (yzi w.cells off vx.cells))∧fits w (yzi w.cells off vx.cells)=true∧off+vx.cells.length<=w.cells.length:=by
 have hc:=VR.zrz (ρ:=ρ) (lv:=lv) hD hw;have hxc:=hx.cells hsol;have hlen:=hxc.length;have hlen2:=hc.length;refine⟨?_,?_,by omega⟩
 all_goals
  by_cases hst:∃i,t = .st i;obtain⟨i,rfl⟩:=hst;obtain⟨us,rfl,k1,k2⟩:=DR.agg hD hw
  first
   |rfl
   |(simp only[Dat.tv]at hz
     refine z6m (ρ:=ρ) (lv:=lv) hD hz ?_;simp only[Go.Ab.z2c,VR]
     exact⟨_,rfl,VRL.yzi (by simpa[Dat.tv,TV.cells,V.cells]using hc) hxc off⟩)
  have hne:∀i,t ≠ .st i:=λi e=>hst ⟨i,e⟩
  have hnagg:(match D.tv t y with| .agg cs'=>TV.agg (z6y cs' off x.cells)|_=>x)=x:=by
   cases t with
   |st i=>exact(hne i rfl).elim
   |_=>rfl
  rw[hnagg]at hz;have hd:=z6m hD hz hx;obtain⟨a1,a2,a3,a4⟩:=hw.one hne ht;obtain⟨b1,b2,b3,b4⟩:=hd.one hne ht;have l1:w.cells.length=1:=by rw[a1];rfl
  have l2:vx.cells.length=1:=by rw[b1];rfl
  have hoff0:off=0:=by omega
  subst hoff0;rw[a1,b1];have:yzi [w] 0 [vx]=[vx]:=rfl;rw[this]
  first
   |(rw[a3];exact hd)
   |exact a4 _ b2
theorem zxd(hR:TRr D F ρ ts σ){s j ty q off:Nat}{i:Int}{xs:List (D.T q)}{h:Option (Int×Nat×Nat)}{sl:Slot}{ver:Nat}{cp:Option Nat}{fps:List (List Nat)}(ho:fnd ts.o s=some (.deep ty q xs h))(h1:ρ[s]? = some sl)(hk:sl.k=some j)
  (q1:sl.ws.length=xs.length) (e1:sl.v = .hs F.lv j ver 0 sl.ws.length false) (e2:σ.H.L[j]? = some (some (.arr ver ty (D.len (.st q)) sl.ws cp))) (e3:fps.length=xs.length) (e4:sl.fp=fps.flatten) (e5:sl.fp.Nodup)
  (e6:∀(n:Nat) (x:D.T q) (w:V) (c:List Nat),xs[n]? = some x->sl.ws[n]? = some w->fps[n]? = some c->EO D ρ F.lv σ.H.L q h n x w c) (hh:h=none∨∃c',h=some (i,off,c')) {y:D.T q}(p1:0<=i) (p2:xs[i.toNat]? = some y) (how:(D.ow q off).isSome=true)
  {c:Nat} {slc:Slot}(hc:ρ[c]? = some slc) (hcl:slc.v.leaf=true) {vs:List V}{cs:List (List Nat)}(b1:sl.ws[i.toNat]? = some (.agg vs)) (b2:vs.length=(D.fl q).length) (b3:cs.length=(D.fl q).length) (b4:fps[i.toNat]? = some cs.flatten) (hoff:off<(D.fl q).length)
  (b5:∀(f:Nat) (p:(t:DTy)×t.S D.T) (u:V) (b:List Nat),HL.nth (D.fl q) (D.get q y) f=some p->vs[f]? = some u->cs[f]? = some b->f≠off->DO D F.lv σ.H.L (y0g (D.ow q f)) p.1 p.2 u b) :
  TRr D F (ρ++[⟨sl.v,some j,sl.ws.set i.toNat (.agg (vs.set off slc.v)),(fps.set i.toNat (cs.set off []).flatten).flatten⟩]) (ts.zj9 D s (.deep ty q xs (some (i,off,c)))) {σ with H:={σ.H with L:=σ.H.L.set j (some (.arr ver ty (D.len (.st q)) (sl.ws.set i.toNat (.agg (vs.set off slc.v))) cp))}}:=by
 have hlt:i.toNat<xs.length:=(Qaa.1 p2).1;have hjl:=(Qaa.1 e2).1;have hb:cs[off]? = some (cs[off]'(by omega)):=Qab (by omega);have perm0:sl.fp.Perm ((cs[off]'(by omega))++(fps.set i.toNat (cs.set off []).flatten).flatten):=by rw[e4];exact z3e fps i.toNat _ _ _ b4 (z3e cs off _ _ [] hb (by simp))
 have hnd:=(List.nodup_append.1 (perm0.nodup_iff.1 e5)).2.1;have hin2:∀n,n∈(fps.set i.toNat (cs.set off []).flatten).flatten->n∈sl.fp:=λn h=>perm0.mem_iff.2 (List.mem_append_right _ h)
 let ws':=sl.ws.set i.toNat (.agg (vs.set off slc.v))
 let sl':Slot:=⟨sl.v,some j,ws',(fps.set i.toNat (cs.set off []).flatten).flatten⟩
 have hL':∀n∈sl.fp,(σ.H.L.set j (some (.arr ver ty (D.len (.st q)) ws' cp)))[n]? = σ.H.L[n]? := λn hn=>by
  rw[Qam (λe=>(hR.fpl s _ sl n ho trivial h1 hn).1 (by rw[hk,e]))]
 have hor:OR D (ρ++[sl']) F.lv (σ.H.L.set j (some (.arr ver ty (D.len (.st q)) ws' cp))) sl' (.deep ty q xs (some (i,off,c))):=by
  simp only[OR];refine⟨by simp[sl',ws',q1],ver,cp,fps.set i.toNat (cs.set off []).flatten,by simp[sl',ws',e1],by simp[sl',hjl],by simpa using e3,rfl,hnd,λm x w' c' m1 m2 m3 =>?_,λn' f' s' e =>?_⟩;have hcL:∀n∈c',(σ.H.L.set j (some (.arr ver ty (D.len (.st q)) ws' cp)))[n]? = σ.H.L[n]? := λn hn=>hL' n (hin2 n (List.mem_flatten.2 ⟨c',Qax m3,hn⟩))
  refine EO.mono (L:=σ.H.L) [sl'] ?_ hcL;by_cases hm:i.toNat=m;subst hm
  rw[p2]at m1;injection m1 with m1;subst m1
  rw[Qaq (by omega)]at m3;injection m3 with m3;subst m3
  simp only[sl',ws']at m2
  rw[Qaq (by omega)]at m2;injection m2 with m2;subst m2
  refine⟨vs.set off slc.v,cs.set off [],rfl,by simpa using b2,by simpa using b3,rfl,λf' p' u' b' r1 r2 r3 =>?_⟩;by_cases hff:off=f';subst hff;rw[show yzq (some (i,off,c)) i.toNat off=some c by simp[yzq]];rw[Qaq (by omega)]at r2 r3;injection r2 with r2;injection r3 with r3;subst r2;subst r3;exact⟨rfl,how,hcl,slc,hc,rfl⟩
  rw[show yzq (some (i,off,c)) i.toNat f'=none by simp[yzq];exact hff];rw[Qam hff]at r2 r3;exact b5 f' p' u' b' r1 r2 r3 (λe=>hff e.symm);simp only[sl',ws']at m2;rw[Qam hm]at m2 m3;have:=e6 m x w' c' m1 m2 m3
  have hno:EO D ρ F.lv σ.H.L q none m x w' c':=by
   rcases hh with rfl|⟨c2,rfl⟩
   exact this;obtain⟨vs',cs',d1,d2,d3,d4,d5⟩:=this;refine⟨vs',cs',d1,d2,d3,d4,λf' p' u' b' r1 r2 r3 =>?_⟩;have:=d5 f' p' u' b' r1 r2 r3;rw[show yzq (some (i,off,c2)) m f'=none by simp[yzq];exact λe=>(hm e).elim]at this;exact this
  exact hno.zmu _ λn' f' s' e=>(by injection e with e;injection e with e e';subst e;exact hm)
  injection e with e;injection e with e e';subst e;exact⟨p1,hlt⟩
 have hm:=hR.move ho trivial h1 hk (.deep ty q xs (some (i,off,c))) (.arr ver ty (D.len (.st q)) ws' cp) sl' rfl hor hin2;exact hm.z3p (TV.ren D s ts.nx) λx v hxv=>VR.ren (lookup_append h1) (sl':=sl') (by rw[<-hR.nx];simp) rfl hxv
theorem y2n(hR:TRr D F ρ ts σ){s j ty q:Nat}{i:Int}{xs:List (D.T q)}{sl:Slot}{ver:Nat}{cp:Option Nat}{fps:List (List Nat)}(ho:fnd ts.o s=some (.deep ty q xs none))(h1:ρ[s]? = some sl)(hk:sl.k=some j)
  (q1:sl.ws.length=xs.length) (e1:sl.v = .hs F.lv j ver 0 sl.ws.length false) (e2:σ.H.L[j]? = some (some (.arr ver ty (D.len (.st q)) sl.ws cp))) (e3:fps.length=xs.length) (e4:sl.fp=fps.flatten) (e5:sl.fp.Nodup)
  (e6:∀(n:Nat) (x:D.T q) (w:V) (c:List Nat),xs[n]? = some x->sl.ws[n]? = some w->fps[n]? = some c->EO D ρ F.lv σ.H.L q none n x w c) (p1:0<=i) (hlt:i.toNat<xs.length) {x:HL D.T (D.fl q)}{hole:Option (Nat×Nat)}{us:List V}(hl:us.length=(D.fl q).length)
  (hrow:∀(f:Nat) (p:(t:DTy)×t.S D.T) (u:V),HL.nth (D.fl q) x f=some p->us[f]? = some u->za8 D ρ F.lv σ.H.L q f hole p u) :
  TRr D F (ρ++[⟨sl.v,some j,sl.ws.set i.toNat (.agg us),(fps.set i.toNat []).flatten⟩]) (ts.zj9 D s (.deep ty q (xs.set i.toNat (D.make q x)) (hole.map λp=>(i,p.1,p.2)))) {σ with H:={σ.H with L:=σ.H.L.set j (some (.arr ver ty (D.len (.st q)) (sl.ws.set i.toNat (.agg us)) cp))}}:=by
 have hjl:=(Qaa.1 e2).1;have b4:fps[i.toNat]? = some (fps[i.toNat]'(by omega)):=Qab (by omega);have perm0:sl.fp.Perm ((fps[i.toNat]'(by omega))++(fps.set i.toNat []).flatten):=by rw[e4];exact z3e fps i.toNat _ _ [] b4 (by simp)
 have hnd:=(List.nodup_append.1 (perm0.nodup_iff.1 e5)).2.1;have hin2:∀n,n∈(fps.set i.toNat []).flatten->n∈sl.fp:=λn h=>perm0.mem_iff.2 (List.mem_append_right _ h)
 let ws':=sl.ws.set i.toNat (.agg us)
 let sl':Slot:=⟨sl.v,some j,ws',(fps.set i.toNat []).flatten⟩
 have hL':∀n∈sl.fp,(σ.H.L.set j (some (.arr ver ty (D.len (.st q)) ws' cp)))[n]? = σ.H.L[n]? := λn hn=>by
  rw[Qam (λe=>(hR.fpl s _ sl n ho trivial h1 hn).1 (by rw[hk,e]))]
 have hor:OR D (ρ++[sl']) F.lv (σ.H.L.set j (some (.arr ver ty (D.len (.st q)) ws' cp))) sl' (.deep ty q (xs.set i.toNat (D.make q x)) (hole.map λp=>(i,p.1,p.2))):=by
  simp only[OR];refine⟨by simp[sl',ws',q1],ver,cp,fps.set i.toNat [],by simp[sl',ws',e1],by simp[sl',hjl],by simpa using e3,rfl,hnd,λm x' w' c' m1 m2 m3 =>?_,λn' f' s' e =>?_⟩;have hcL:∀n∈c',(σ.H.L.set j (some (.arr ver ty (D.len (.st q)) ws' cp)))[n]? = σ.H.L[n]? := λn hn=>hL' n (hin2 n (List.mem_flatten.2 ⟨c',Qax m3,hn⟩))
  refine EO.mono (L:=σ.H.L) [sl'] ?_ hcL;simp only[sl',ws']at m2;by_cases hm:i.toNat=m;subst hm;rw[Qaq (by omega)]at m1 m2 m3;injection m1 with m1;injection m2 with m2;injection m3 with m3;subst m1;subst m2;subst m3;exact y6c hD rfl hl hrow;rw[Qam hm]at m1 m2 m3
  exact(e6 m x' w' c' m1 m2 m3).zmu _ λn' f' s' e=>(by
   rw[Qaf]at e;obtain⟨g,_,e⟩:=e
   injection e with e e';subst e;exact hm)
  rw[Qaf]at e;obtain⟨g,_,e⟩:=e;injection e with e e';subst e;exact⟨p1,by simpa using hlt⟩
 have hm:=hR.move ho trivial h1 hk (.deep ty q (xs.set i.toNat (D.make q x)) (hole.map λp=>(i,p.1,p.2))) (.arr ver ty (D.len (.st q)) ws' cp) sl' rfl hor hin2;exact hm.z3p (TV.ren D s ts.nx) λx v hxv=>VR.ren (lookup_append h1) (sl':=sl') (by rw[<-hR.nx];simp) rfl hxv
theorem zp8{R:Type}(hR:TRr D F ρ ts σ){t s ty q off:Nat}{i:Int}{xs:List (D.T q)}{hh:Option (Int×Nat×Nat)}{x:TV D.T}{va vx:V}{k:TV D.T->TS D.T->Option R}{kf:Nat->Option R}{r:R}(h:zsr D ts ty q xs hh s i off x k kf=some r)(ho:fnd ts.o s=some (.deep ty q xs hh))
  (ha:VR D ρ F.lv (.dp s i off) va) (hx:VR D ρ F.lv x vx) (hs:x.kz9=true) (hcond:(vx.kz9&&(P.info? t).isSome&&vx.cells.length==P.cellsOf t)=true) :
  (∃z ts' v H' ρ',z4g P σ.H t va vx=some (v,H')∧VR D ρ' F.lv z v∧TRr D F ρ' ts' {σ with H:=H'}∧k z ts'=some r)∨∃s,kf s=some r:=by
 simp only[VR]at ha;obtain⟨sl,j',ver',m,h1,g1,g2,g3,rfl⟩:=ha;obtain⟨sl',k1,k2⟩:=hR.ob s _ ho
 rw[h1]at k1;injection k1 with k1;subst k1
 simp only[OR]at k2;obtain⟨q1,q3⟩:=k2
 have base:∀{y:D.T q},xs[i.toNat]? = some y->∃(j ver:Nat) (cp:Option Nat) (fps:List (List Nat)),sl.k=some j∧sl.v = .hs F.lv j ver 0 sl.ws.length false∧σ.H.L[j]? = some (some (.arr ver ty (D.len (.st q)) sl.ws cp))∧fps.length=xs.length∧sl.fp=fps.flatten∧sl.fp.Nodup ∧
   (∀(n:Nat) (x:D.T q) (w:V) (c:List Nat),xs[n]? = some x->sl.ws[n]? = some w->fps[n]? = some c->EO D ρ F.lv σ.H.L q hh n x w c)∧j'=j∧ver'=ver:=λ{y} p2=>by
  cases hk:sl.k with
  |none=>rw[hk]at q3;rw[q3.1]at p2;simp at p2
  |some j=>
   rw[hk]at q3;obtain⟨ver,cp,fps,e1,e2,e3,e4,e5,e6,e7⟩:=q3;have g1':=g1
   rw[e1]at g1';injection g1' with _ a1 a4 _ a5
   exact⟨j,ver,cp,fps,rfl,e1,e2,e3,e4,e5,e6,a1.symm,a4.symm⟩
 unfold zsr at h;split at h;rename_i c;simp only[VR]at hx;obtain⟨slc,c1,rfl,c3⟩:=hx;have hvc:slc.v.cells=[slc.v]:=by cases hv:slc.v <;> first|rfl|(rw[hv]at c3;simp[V.leaf]at c3)
 split at h;rename_i ty' how hblt;have hofl:off<(D.fl q).length:=Nat.le_of_ble_eq_true hblt
 have core:(hh=none∨∃c',hh=some (i,off,c'))->∀{y:D.T q},ix xs i=some y->k .any (ts.zj9 D s (.deep ty q xs (some (i,off,c))))=some r->∃z ts' v H' ρ',z4g P σ.H t (.ap F.lv j' ver' i.toNat off) slc.v=some (v,H')∧VR D ρ' F.lv z v∧TRr D F ρ' ts' {σ with H:=H'}∧k z ts'=some r:=λhhc {y} hy hk'=>by
  obtain⟨p1,p2⟩:=z6w hy;obtain⟨j,ver,cp,fps,hk,e1,e2,e3,e4,e5,e6,rfl,rfl⟩:=base p2;have hlt:i.toNat<xs.length:=(Qaa.1 p2).1;have hw:sl.ws[i.toNat]? = some (sl.ws[i.toNat]'(by omega)):=Qab (by omega);have hc0:fps[i.toNat]? = some (fps[i.toNat]'(by omega)):=Qab (by omega);obtain⟨vs,cs,b1,b2,b3,b4,b5⟩:=e6 i.toNat y _ _ p2 hw hc0;rw[b1]at hw
  rw[b4]at hc0
  have hsp:yzi vs off slc.v.cells=vs.set off slc.v:=by
   rw[hvc];unfold yzi;rw[List.set_eq_take_append_cons_drop,Qbr (by omega)];simp
  refine⟨.any,_,.any,σ.H.set F.lv j' (.arr ver' ty (D.len (.st q)) (sl.ws.set i.toNat (.agg (vs.set off slc.v))) cp),ρ++[⟨sl.v,some j',sl.ws.set i.toNat (.agg (vs.set off slc.v)),(fps.set i.toNat (cs.set off []).flatten).flatten⟩],?_,by simp only[VR],?_,hk'⟩;unfold z4g;rw[Qbr hcond];simp only[hR.get e2,if_true,hw];rw[Qbr ⟨by rw[hvc];show off+1<=vs.length;omega,rfl⟩]
  show some (V.any,σ.H.set F.lv j' (.arr ver' ty (D.len (.st q)) (sl.ws.set i.toNat (.agg (yzi vs off slc.v.cells))) cp))=_;rw[hsp];rw[hR.zj5];refine zxd hD hR ho h1 hk q1 e1 e2 e3 e4 e5 e6 hhc p1 p2 (by rw[how];rfl) c1 c3 hw b2 b3 hc0 hofl λf p u b t1 t2 t3 hne =>?_
  have:=b5 f p u b t1 t2 t3
  have hno:yzq hh i.toNat f=none:=by
   rcases hhc with rfl|⟨c',rfl⟩
   rfl;simp[yzq];exact λe=>hne e.symm
  rw[hno]at this;exact this
 split at h;obtain⟨y,hy,h⟩:=zzs h;exact .inl (core (.inl rfl) hy h);rename_i p;obtain⟨n,f',c'⟩:=p;split at h;rename_i hff;have hff:f'=off:=Qaj hff;subst hff;obtain⟨_,hs,h⟩:=zzs h
 have hni:n=i:=by
  unfold zr0 at hs;split at hs;rename_i e;exact e;cases hs
 subst hni;obtain⟨y,hy,h⟩:=zzs h;exact .inl (core (.inr ⟨c',rfl⟩) hy h);exact .inr ⟨s,h⟩;cases h;rename_i cells;simp only[VR]at hx;obtain⟨us,rfl,hx⟩:=hx;split at h;split at h;split at h;rename_i rr hrr;obtain⟨y,hy,h⟩:=zzs h;obtain⟨p1,p2⟩:=z6w hy;obtain⟨j,ver,cp,fps,hk,e1,e2,e3,e4,e5,e6,rfl,rfl⟩:=base p2;have hlt:i.toNat<xs.length:=(Qaa.1 p2).1;obtain⟨a1,a2,a3⟩:=za5 (L:=σ.H.L) hrr hx
 have hw:sl.ws[i.toNat]? = some (sl.ws[i.toNat]'(by omega)):=Qab (by omega);obtain⟨vs,cs,b1,b2,b3,b4,b5⟩:=e6 i.toNat y _ _ p2 hw (Qab (show i.toNat<fps.length by omega));rw[b1]at hw;have hul:us.length=(D.fl q).length:=by rw[<-hx.length];exact a1
 have hsp:yzi vs 0 us=us:=by
  unfold yzi;simp[List.drop_eq_nil_of_le (show vs.length<=us.length by omega)]
 refine .inl ⟨.any,_,.any,σ.H.set F.lv j' (.arr ver' ty (D.len (.st q)) (sl.ws.set i.toNat (.agg us)) cp),ρ++[⟨sl.v,some j',sl.ws.set i.toNat (.agg us),(fps.set i.toNat []).flatten⟩],?_,by simp only[VR],?_,h⟩;unfold z4g;rw[Qbr hcond];simp only[hR.get e2,if_true,hw];rw[Qbr ⟨by show 0+us.length<=vs.length;omega,rfl⟩]
 show some (V.any,σ.H.set F.lv j' (.arr ver' ty (D.len (.st q)) (sl.ws.set i.toNat (.agg (yzi vs 0 us))) cp))=_;rw[hsp];rw[hR.zj5]
 exact y2n hD hR ho h1 hk q1 e1 e2 e3 e4 e5 e6 p1 hlt hul λf p u t1 t2=>by
  have:=a3 f p u t1 t2;rwa[Nat.zero_add]at this
 exact .inr ⟨_,h⟩;cases h;exact .inr ⟨s,h⟩;cases h;cases h
theorem zsj{R:Type}(hR:TRr D F ρ ts σ){t:Nat}{a x:TV D.T}{va vx:V}{k:TV D.T->TS D.T->Option R}{kf:Nat->Option R}{r:R}(h:zob P D ts t a x k kf=some r)(ha:VR D ρ F.lv a va)(hx:VR D ρ F.lv x vx) :
  (∃z ts' v H' ρ',z4g P σ.H t va vx=some (v,H')∧VR D ρ' F.lv z v∧TRr D F ρ' ts' {σ with H:=H'}∧k z ts'=some r)∨∃s,kf s=some r:=by
 unfold zob at h;split at h;rename_i hc;simp only[Qag,Qbj]at hc;obtain⟨⟨c1,c2⟩,c3⟩:=hc;have hcells:=hx.cells c1
 have hcond:(vx.kz9&&(P.info? t).isSome&&vx.cells.length==P.cellsOf t)=true:=by
  simp only[Qag,Qbj];exact⟨⟨hx.kz9 c1,c2⟩,by rw[<-hcells.length];exact c3⟩
 split at h;rename_i s off;simp only[VR]at ha;obtain⟨sl,i,h1,h2,rfl⟩:=ha;split at h;rename_i cs ho;split at h;rename_i hoff;left;obtain⟨sl',k1,k2⟩:=hR.ob s _ ho
 rw[h1]at k1;injection k1 with k1;subst k1
 simp only[OR]at k2;obtain⟨i',vs,q1,q2,q3⟩:=k2
 rw[h2]at q1;injection q1 with q1;subst q1
 have hlt:=(Qaa.1 q2).1;refine⟨.any,_,.any,σ.H.set F.lv i (.cells (yzi vs off vx.cells)),ρ,?_,by simp only[VR],?_,h⟩;unfold z4g;rw[Qbr hcond];simp only[hR.get q2];rw[Qbr (by rw[<-hcells.length,<-q3.length];exact hoff)];rw[hR.zj5];exact hR.upd ho trivial h1 h2 _ _ (by simp only[OR];exact⟨i,_,h2,by simp[hlt],q3.yzi hcells off⟩);cases h;cases h;rename_i s τ i y off;simp only[VR]at ha
 obtain⟨sl,w,h1,h2,h3,h4,h5⟩:=ha;split at h;rename_i ty τ' xs ho;split at h;rename_i hoff;obtain⟨sl',k1,k2⟩:=hR.ob s _ ho
 rw[h1]at k1;injection k1 with k1;subst k1
 simp only[OR]at k2;obtain⟨q1,q2,q3⟩:=k2;obtain⟨rfl,hnat,hoff⟩:=hoff;split at h;rename_i z hz;left;obtain⟨d1,d2,d3⟩:=DR.z2c hD h4 hx c1 hoff hz hnat
 cases hk:sl.k with
 |none=>
  rw[hk]at q3
  rcases q3 with ⟨e1,e2⟩|⟨e1,e2⟩
  rw[e2]at h3;simp at h3
  rw[e2 trivial]at h3;simp at h3
 |some j=>
  rw[hk]at q3 h5;obtain⟨ver,cp,e1,e2⟩:=q3;obtain⟨ver',n,e3,rfl⟩:=h5
  rw[e1]at e3;injection e3 with _ _ e3 _ e4;subst e3;subst e4
  have hlt:=(Qaa.1 e2).1;have hit:=(Qaa.1 h3).1
  let ws':=sl.ws.set i.toNat (Go.Ab.z2c w (yzi w.cells off vx.cells))
  let sl':Slot:=⟨sl.v,some j,ws',[]⟩
  have hor:OR D (ρ++[sl']) F.lv (σ.H.L.set j (some (.arr ver ty (D.len τ) ws' cp))) sl' (.acc ty τ (xs.set i.toNat z) true):=by
   simp only[OR];refine⟨by simp[sl',ws',q1],λa x' v' ha hv' =>?_,ver,cp,by simp[sl',ws',e1],by simp[sl',hlt]⟩;simp only[sl',ws']at hv';by_cases hia:i.toNat=a;subst hia;rw[Qaq (by rw[<-q1];exact hit)]at ha;rw[Qaq hit]at hv';injection ha with ha;injection hv' with hv';subst ha;subst hv';exact d1;rw[Qam hia]at ha hv';exact q2 a x' v' ha hv'
  have hm:=hR.move ho trivial h1 hk (.acc ty τ (xs.set i.toNat z) true) (.arr ver ty (D.len τ) ws' cp) sl' rfl hor;refine⟨.any,_,.any,σ.H.set F.lv j (.arr ver ty (D.len τ) ws' cp),ρ++[sl'],?_,by simp only[VR],?_,h⟩;unfold z4g;rw[Qbr hcond];simp only[hR.get e2,if_true,h3];rw[Qbr ⟨d3,d2⟩];rw[hR.zj5]
  have:=hm.z3p (TV.ren D s ts.nx) λx v hxv=>VR.ren (lookup_append h1) (sl':=sl') (by rw[<-hR.nx];simp) rfl hxv
  exact this
 exact .inr ⟨_,h⟩;cases h;cases h;cases h;rename_i s i off;simp only[VR]at ha;obtain⟨sl,j',ver',m,h1,g1,g2,g3,rfl⟩:=ha;split at h;rename_i ty q xs hh ho;split at h;rename_i hoff;obtain⟨hflat,hoff⟩:=hoff;obtain⟨y,hy,h⟩:=zzs h;obtain⟨sl',k1,k2⟩:=hR.ob s _ ho
 rw[h1]at k1;injection k1 with k1;subst k1
 simp only[OR]at k2;obtain⟨q1,q3⟩:=k2;obtain⟨p1,p2⟩:=z6w hy;have hlt:i.toNat<xs.length:=(Qaa.1 p2).1;split at h
 ·rename_i z hz;left
  cases hk:sl.k with
  |none=>rw[hk]at q3;rw[q3.1]at hlt;simp at hlt
  |some j=>
  rw[hk]at q3;obtain⟨ver,cp,fps,e1,e2,e3,e4,e5,e6,e7⟩:=q3
  rw[e1]at g1;injection g1 with _ g1 g4 _ g5;subst g1;subst g4
  have hw:sl.ws[i.toNat]? = some (sl.ws[i.toNat]'(by omega)):=Qab (by omega);have hc0:fps[i.toNat]? = some (fps[i.toNat]'(by omega)):=Qab (by omega);obtain⟨vs,cs,b1,b2,b3,b4,b5⟩:=e6 i.toNat y _ _ p2 hw hc0;have hlen:=hcells.length;have hjl:=(Qaa.1 e2).1
  let w':V:=.agg (yzi vs off vx.cells)
  let ws':=sl.ws.set i.toNat w'
  let sl':Slot:=⟨sl.v,some j,ws',sl.fp⟩
  have hsp:(yzi vs off vx.cells).length=vs.length:=by
   unfold yzi;simp only[Qap,Qay,List.length_drop];omega
  have hor:OR D (ρ++[sl']) F.lv (σ.H.L.set j (some (.arr ver ty (D.len (.st q)) ws' cp))) sl' (.deep ty q (xs.set i.toNat (D.make q z)) hh):=by
   have hL':∀n∈sl.fp,(σ.H.L.set j (some (.arr ver ty (D.len (.st q)) ws' cp)))[n]? = σ.H.L[n]? := λn hn=>by
    rw[Qam (λe=>(hR.fpl s _ sl n ho trivial h1 hn).1 (by rw[hk,e]))]
   simp only[OR];refine⟨by simp[sl',ws',q1],ver,cp,fps,by simp[sl',ws',e1],by simp[sl',hjl],by simpa using e3,e4,e5,λa x' u' c' r1 r2 r3 =>?_,λn f s' e=>by have:=e7 n f s' e;simpa using this⟩;have hcL:∀n∈c',(σ.H.L.set j (some (.arr ver ty (D.len (.st q)) ws' cp)))[n]? = σ.H.L[n]? := λn hn=>hL' n (by rw[e4];exact List.mem_flatten.2 ⟨c',Qax r3,hn⟩)
   simp only[sl',ws']at r2;by_cases hia:i.toNat=a;subst hia;rw[Qaq hlt]at r1;rw[Qaq (by omega)]at r2;injection r1 with r1;injection r2 with r2;subst r1;subst r2
   rw[hc0]at r3;injection r3 with r3;subst r3
   refine EO.mono (L:=σ.H.L) [sl'] ⟨_,cs,rfl,by rw[hsp];exact b2,b3,b4,λf p u b t1 t2 t3 =>?_⟩ hcL;rw[hD.getMake]at t1;obtain⟨c,u1,u2⟩:=zi7 hz f p t1;have hf:=(HL.z47 _ _ _ _ t1).1;by_cases hin:off<=f∧f<off+x.cells.length
   have hown:D.ow q f=none:=by
    have:=Qat.1 hflat (f-off) (List.mem_range.2 (by omega));rw[show off+(f-off)=f by omega]at this;simpa using this
   have hnh:yzq hh i.toNat f=none:=by
    cases hho:yzq hh i.toNat f with
    |none=>rfl
    |some s'=>
     obtain⟨pf,hpf,_⟩:=HL.z7o (D.fl q) (D.get q y) f hf;have:=b5 f pf _ _ hpf (Qab (show f<vs.length by omega)) (Qab (show f<cs.length by omega));rw[hho]at this;obtain⟨_,h9,_⟩:=this;rw[hown]at h9;cases h9
   obtain⟨pf,hpf,_⟩:=HL.z7o (D.fl q) (D.get q y) f hf;have hbb:=b5 f pf _ b hpf (Qab (show f<vs.length by omega)) t3;rw[hnh]at hbb ⊢;simp only at hbb ⊢;rw[hown]at hbb ⊢;have hb0:b=[]:=by cases hbb;rfl
   subst hb0
   have v1:x.cells[f-off]? = some c:=by
    unfold z6y at u1;rw[Qal (by simp only[Qap,Qay,z2s];omega),Qav (by simp only[Qay,z2s];omega)]at u1;rw[<-u1];congr 1;simp only[Qay,z2s];omega
   have v2:vx.cells[f-off]? = some u:=by
    unfold yzi at t2;rw[Qal (by simp only[Qap,Qay];omega),Qav (by simp only[Qay];omega)]at t2;rw[<-t2];congr 1;simp only[Qay];omega
   exact .dat (z8l u2 (hcells.zg7 v1 v2))
   have v1:(D.leaves (D.fl q) (D.get q y))[f]? = some c:=by
    unfold z6y at u1;by_cases hlo:f<off;rw[Qaz,Qal (by simp only[Qay,z2s];omega),Qaw,Qbr hlo]at u1;exact u1;rw[Qav (by simp only[Qap,Qay,z2s];omega),Qbc]at u1;rw[<-u1];congr 1;simp only[Qap,Qay,z2s];omega
   have v2:vs[f]? = some u:=by
    unfold yzi at t2;by_cases hlo:f<off;rw[Qaz,Qal (by simp only[Qay];omega),Qaw,Qbr hlo]at t2;exact t2;rw[Qav (by simp only[Qap,Qay];omega),Qbc]at t2;rw[<-t2];congr 1;simp only[Qap,Qay];omega
   rw[z5g,Qaf]at v1;obtain⟨py,v3,v4⟩:=v1
   have hty:py.1=p.1:=by
    have h8:=(HL.z47 _ _ _ _ v3).2;have h9:=(HL.z47 _ _ _ _ t1).2;rw[h8]at h9;injection h9
   obtain⟨ty1,a1⟩:=py;obtain⟨ty2,a2⟩:=p;simp only at hty;subst hty;rw[<-v4]at u2;have:=ztx u2;subst this;exact b5 f _ u b v3 v2 t3;rw[Qam hia]at r1 r2;exact EO.mono (L:=σ.H.L) [sl'] (e6 a x' u' c' r1 r2 r3) hcL
  have hm:=hR.move ho trivial h1 hk (.deep ty q (xs.set i.toNat (D.make q z)) hh) (.arr ver ty (D.len (.st q)) ws' cp) sl' rfl hor (λ_ h=>h);refine⟨.any,_,.any,σ.H.set F.lv j (.arr ver ty (D.len (.st q)) ws' cp),ρ++[sl'],?_,by simp only[VR],?_,h⟩;unfold z4g;rw[Qbr hcond];simp only[hR.get e2,if_true,hw];rw[Qbr ⟨by rw[b1];show off+vx.cells.length<=vs.length;omega,by rw[b1];rfl⟩];rw[b1];rfl;rw[hR.zj5]
  have:=hm.z3p (TV.ren D s ts.nx) λx v hxv=>VR.ren (lookup_append h1) (sl':=sl') (by rw[<-hR.nx];simp) rfl hxv
  exact this
 exact .inr ⟨_,h⟩;cases h;exact zp8 hD hR h ho (by simp only[VR];exact⟨sl,j',ver',m,h1,g1,g2,g3,rfl⟩) hx c1 hcond;cases h;rename_i s;simp only[VR]at ha;obtain⟨sl,i,h1,h2,rfl⟩:=ha;split at h;rename_i ty b q ho;left;obtain⟨sl',k1,k2⟩:=hR.ob s _ ho
 rw[h1]at k1;injection k1 with k1;subst k1
 simp only[OR]at k2;obtain⟨i',u,c,q1,q2,q3,q4⟩:=k2
 rw[h2]at q1;injection q1 with q1;subst q1
 have hlt:=(Qaa.1 q2).1
 have hxl:vx.cells=[vx]:=by
  have h3:=hx;simp only[VR]at h3;obtain⟨_,_,_,h4⟩:=h3
  cases vx <;> first|rfl|(simp[V.leaf]at h4)
 refine⟨.any,_,.any,σ.H.set F.lv i (.arr 0 ty 2 [.agg [u,vx]] (some 1)),ρ,?_,by simp only[VR],?_,h⟩;unfold z4g;rw[Qbr hcond];simp only[hR.get q2,if_true,Qbw];rw[Qbr (by rw[hxl];exact⟨by simp[V.cells],rfl⟩),hxl];rfl;rw[hR.zj5];exact hR.upd ho trivial h1 h2 _ _ (by simp only[OR];exact⟨i,u,vx,h2,by simp[hlt],q3,hx⟩);cases h;cases h;cases h
def DRL(D:Dat)(t:DTy)(xs:List (t.S D.T))(ws:List V):Prop:=ws.length=xs.length∧∀(j:Nat) (x:t.S D.T) (w:V),xs[j]? = some x->ws[j]? = some w->DR D t x w
omit hD in
theorem DRL.append{t:DTy}{xs ys:List (t.S D.T)}{ws us:List V}(h:DRL D t xs ws)(k:DRL D t ys us):DRL D t (xs++ys) (ws++us):=by
 refine⟨by simp[h.1,k.1],λj x w hx hw =>?_⟩;rw[Qbb]at hx hw;rw[h.1]at hw;split at hx;rw[Qbr ‹_›]at hw;exact h.2 j x w hx hw;rw[Qbs ‹_›]at hw;exact k.2 _ x w hx hw
omit hD in
theorem DRL.nil(t:DTy):DRL D t ([]:List (t.S D.T)) []:=⟨rfl,λj x w hx=>by simp at hx⟩
omit hD in
theorem zwx(hR:TRr D F ρ ts σ){τ:DTy}{x:TV D.T}{vx:V}{ys:List (τ.S D.T)}(h:tSrc D ts τ x=some ys)(hx:VR D ρ F.lv x vx):∃us,z7x σ.H (D.len τ) vx=some us∧DRL D τ ys us:=by
 unfold tSrc at h;split at h;injection h with h;subst h;simp only[VR]at hx;subst hx;exact⟨[],rfl,DRL.nil _⟩;rename_i t xs fl;obtain⟨rfl,rfl⟩:=z13 h;simp only[VR]at hx;obtain⟨hx,_⟩:=hx
 cases hx with
 |nil=>exact⟨[],rfl,DRL.nil _⟩
 |sl _ _ ws full hl hh=>exact⟨ws,by simp[z7x,z3l],hl,hh⟩
 rename_i s;split at h;rename_i ty t xs w ho;obtain⟨rfl,rfl⟩:=z13 h;simp only[VR]at hx;obtain⟨sl,h1,rfl,hleaf⟩:=hx;obtain⟨sl',k1,k2⟩:=hR.ob s _ ho
 rw[h1]at k1;injection k1 with k1;subst k1
 simp only[OR]at k2;obtain⟨q1,q2,q3⟩:=k2;refine⟨sl.ws,?_,q1,q2⟩
 cases hk:sl.k with
 |none=>
  rw[hk]at q3
  rcases q3 with ⟨e1,e2⟩|⟨e1,e2⟩
  rw[e1,e2];rfl
  rw[e1.1];simp[z7x,z3l]
 |some j=>
  rw[hk]at q3;obtain⟨ver,cp,e1,e2⟩:=q3;rw[e1];simp[z7x,z3l,hR.get e2]
 cases h;rename_i s;split at h;injection h with h;subst h;simp only[VR]at hx;subst hx;refine⟨s.map λb=>.int .u8 b.toNat,by simp[z7x,Dat.len],?_,λj x w hx hw =>?_⟩;rw[List.length_map];show s.length=(zxn s).length;rw[zxn,List.length_map];replace hx:(s.map λb=>((b.toNat:Nat):Int))[j]? = some x:=hx;rw[Qan]at hx hw
 cases hb:s[j]? with
 |none=>rw[hb]at hx;cases hx
 |some b=>
  rw[hb]at hx hw;injection hx with hx;injection hw with hw;subst hx;subst hw;exact .int .u8 _
 cases h;cases h
omit hD in
theorem z86(hR:TRr D F ρ ts σ){τ:DTy}{e:Nat}{v:V}{xs ys:List (τ.S D.T)}{ws us:List V}{w:Bool}(hx:DRL D τ xs ws)(hy:DRL D τ ys us)(hroom:xs.length+ys.length<=z4u)
  (hv:(v = .nils∧ws=[])∨((v = .sl (D.len τ) ws true∧τ ≠ .int .u8)∧(w=true->ws=[]))) :
  ∃v' H' sl',yzs σ.H e (D.len τ) v us=some (v',H')∧v'.leaf=true∧sl'.v=v'∧TRr D F (ρ++[sl']) (ts.new D (.acc e τ (xs++ys) w)) {σ with H:=H'}∧(∀i,sl'.k=some i->i=σ.H.L.length)∧∀i,sl'.k≠some i->H'.L[i]? = σ.H.L[i]? := by
 have hxy:=hx.append hy
 cases us with
 |nil=>
  have hy0:ys=[]:=Qao (by rw[<-hy.1];rfl);subst hy0;refine⟨v,σ.H,⟨v,none,ws,[]⟩,?_,?_,rfl,?_,(λi h=>by cases h),λi _=>rfl⟩
  rcases hv with ⟨rfl,_⟩|⟨⟨rfl,_⟩,_⟩ <;> simp[yzs]
  rcases hv with ⟨rfl,_⟩|⟨⟨rfl,_⟩,_⟩ <;> rfl
  have:=hR.new (.acc e τ (xs++[]) w) ⟨v,none,ws,[]⟩ σ.H hR.lv hR.E (Qbq _) (λ_ _=>rfl) (by simp) (by simp only[OR,List.append_nil];exact⟨hx.1,hx.2,hv⟩)
  exact this
 |cons y r=>
  have hlen:ws.length+(y::r).length<=z4u:=by rw[hx.1,hy.1];exact hroom
  refine⟨.hs F.lv σ.H.L.length 0 0 (ws++y::r).length false,σ.H.push (.arr 0 e (D.len τ) (ws++y::r) none),⟨.hs F.lv σ.H.L.length 0 0 (ws++y::r).length false,some σ.H.L.length,ws++y::r,[]⟩,?_,rfl,rfl,?_,(λi h=>by injection h with h;exact h.symm),λi h =>?_⟩
  rcases hv with ⟨rfl,rfl⟩|⟨⟨rfl,_⟩,_⟩
  simp only[yzs];rw[Qbr (by simpa using hlen)];simp[hR.lv];simp only[yzs,if_true];rw[Qbr (by simpa using hlen)];simp[hR.lv]
  exact hR.new _ _ _ hR.lv hR.E (by simp[zz2.push]) (λi hi=>by simp only[zz2.push];rw[Qal hi]) (λi hi=>by injection hi with hi;omega)
   (by simp only[OR];exact⟨hxy.1,hxy.2,0,none,rfl,by simp[zz2.push]⟩)
  have hi:i≠σ.H.L.length:=λe=>h (by rw[e])
  simp only[zz2.push];rw[Qbb];split;rfl;rw[Qby (by simp;omega),Qby (by omega)]
theorem y3z{q e:Nat}{x:HL D.T (D.fl q)}{hole:Option (Nat×Nat)}{us ws:List V}{xs:List (D.T q)}{fps:List (List Nat)}{L L':List (Option yz4)}(sl':Slot)(q1:ws.length=xs.length)(e3:fps.length=xs.length)(hl:us.length=(D.fl q).length)
  (hrow:∀(f:Nat) (p:(t:DTy)×t.S D.T) (u:V),HL.nth (D.fl q) x f=some p->us[f]? = some u->za8 D ρ lv L q f hole p u) (hL:∀i∈fps.flatten,L'[i]? = L[i]?)
  (e6:∀(n:Nat) (x:D.T q) (w:V) (c:List Nat),xs[n]? = some x->ws[n]? = some w->fps[n]? = some c->EO D ρ lv L q none n x w c) :
  ∀(n:Nat) (y:D.T q) (w:V) (c:List Nat),(xs++[D.make q x])[n]? = some y->(ws++[.agg us])[n]? = some w->(fps++[[]])[n]? = some c->EO D (ρ++[sl']) lv L' q (hole.map λp=>((xs.length:Int),p.1,p.2)) n y w c:=λn y w c h1 h2 h3=>by
 rw[Qbb]at h1 h2 h3;by_cases hn:n<xs.length;rw[Qbr hn]at h1;rw[Qbr (by omega)]at h2 h3
 exact EO.mono (L:=L) [sl'] ((e6 n y w c h1 h2 h3).zmu _ λn' f' s' e=>(by
  rw[Qaf]at e;obtain⟨g,_,e⟩:=e;injection e with e e';subst e
  rw[Int.toNat_natCast];omega)) λi hi=>hL i (List.mem_flatten.2 ⟨c,Qax h3,hi⟩)
 rw[Qbs hn]at h1;rw[Qbs (by omega)]at h2 h3
 have hn0:n=xs.length:=by
  have:=(Qaa.1 h1).1;simp at this;omega
 subst hn0;rw[Nat.sub_self]at h1;rw[q1,Nat.sub_self]at h2;rw[e3,Nat.sub_self]at h3;simp at h1 h2 h3;subst h1;subst h2;subst h3;exact EO.mono (L:=L) [sl'] (y6c hD (by simp) hl hrow) (by simp)
theorem zmn{R:Type}(hR:TRr D F ρ ts σ){t u q:Nat}{s:TV D.T}{cells:List (TV D.T)}{vs vx:V}{k:TV D.T->TS D.T->Option R}{kf:Nat->Option R}{r:R}(h:znt P D ts t u s q cells k kf=some r)(hs:VR D ρ F.lv s vs)(hx:VR D ρ F.lv (.bsl q [.agg cells]) vx) :
  (∃z ts' v H' ρ',hAppend P σ.H t u vs vx=some (v,H')∧VR D ρ' F.lv z v∧TRr D F ρ' ts' {σ with H:=H'}∧k z ts'=some r)∨∃s,kf s=some r:=by
 simp only[VR,VRL]at hx;obtain⟨ws0,rfl,w0,r0,rfl,⟨us,rfl,hx⟩,rfl⟩:=hx;unfold znt at h;split at h;rename_i e du hu hdu;split at h;rename_i i hi;split at h;rename_i z hz;split at h;rename_i hc;simp only[Qag,Qbj,Qar]at hc;obtain⟨⟨⟨⟨c1,c2⟩,c3⟩,c4⟩,c5⟩:=hc
 have happ:∀v' H',yzs σ.H e (D.len (.st q)) vs [.agg us]=some (v',H')->hAppend P σ.H t u vs (.sl (D.len (.st q)) [.agg us] true)=some (v',H'):=λv' H' ha=>by
  unfold hAppend;rw[hu,hdu];simp only[hi,hz];rw[<-c5,show z7x σ.H (D.len (.st q)) (.sl (D.len (.st q)) [.agg us] true)=some [.agg us] by simp[z7x,z3l]];simp only;rw[Qbr (by simp only[Qag,Qbj,Qar];exact⟨⟨⟨c1,by omega⟩,c3⟩,by omega⟩)];exact ha
 have own:∀(sl':Slot) (v':V),sl'.v=v'->v'.leaf=true->VR D (ρ++[sl']) F.lv (.own ts.nx) v':=λsl' v' h1 h2=>by
  simp only[VR];exact⟨sl',by rw[<-hR.nx];simp,h1.symm,h2⟩
 split at h;rename_i rr hrr;obtain⟨a1,a2,a3⟩:=za5 (L:=σ.H.L) hrr hx;have hul:us.length=(D.fl q).length:=by rw[<-hx.length];exact a1
 have hrow:∀(f:Nat) (p:(t:DTy)×t.S D.T) (u:V),HL.nth (D.fl q) rr.1 f=some p->us[f]? = some u->za8 D ρ F.lv σ.H.L q f rr.2 p u:=λf p u t1 t2=>by
  have:=a3 f p u t1 t2;rwa[Nat.zero_add]at this
 have fresh:1<=z4u->(vs = .nils∨vs = .sl (D.len (.st q)) [] true)->∃v' H' sl',yzs σ.H e (D.len (.st q)) vs [.agg us]=some (v',H')∧v'.leaf=true∧sl'.v=v'∧TRr D F (ρ++[sl']) (ts.new D (.deep e q ([]++[D.make q rr.1]) (rr.2.map λp=>((([]:List (D.T q)).length:Int),p.1,p.2)))) {σ with H:=H'}:=λhroom hv=>by
  refine⟨.hs F.lv σ.H.L.length 0 0 1 false,σ.H.push (.arr 0 e (D.len (.st q)) [.agg us] none),⟨.hs F.lv σ.H.L.length 0 0 1 false,some σ.H.L.length,[.agg us],[]⟩,?_,rfl,rfl,?_⟩
  rcases hv with rfl|rfl
  simp only[yzs];rw[Qbr (by simpa using hroom)];simp[hR.lv];simp only[yzs,if_true];rw[Qbr (by simpa using hroom)];simp[hR.lv];refine hR.new _ _ _ hR.lv hR.E (by simp[zz2.push]) (λi hi=>by simp only[zz2.push];rw[Qal hi]) (λi hi=>by injection hi with hi;omega) ?_;simp only[OR];refine⟨rfl,0,none,[[]],rfl,by simp[zz2.push],rfl,rfl,List.nodup_nil,?_,λn f s' e =>?_⟩
  exact y3z hD (e:=e) (xs:=[]) (ws:=[]) (fps:=[]) (L:=σ.H.L) _ rfl rfl hul hrow (by simp) (λn x w c h=>by simp at h);rw[Qaf]at e;obtain⟨g,_,e⟩:=e;injection e with e e';subst e;simp
 split at h;obtain⟨zs,hzs,h⟩:=zzs h;obtain⟨hroom,rfl⟩:=zh5 hzs;simp only[VR]at hs;subst hs;obtain⟨v',H',sl',b1,b2,b3,b4⟩:=fresh (by simpa using hroom) (.inl rfl);exact .inl ⟨_,_,v',H',_,happ _ _ b1,own sl' v' b3 b2,b4,h⟩;rename_i s;split at h;rename_i e' q' xs' hh ho;split at h;rename_i he;subst he;split at h;split at h;rename_i xs hl;obtain⟨zs,hzs,h⟩:=zzs h;obtain⟨hroom,rfl⟩:=zh5 hzs;obtain⟨eq1,eq2⟩:=z13 hl
 injection eq1 with eq1;subst eq1;replace eq2:xs'=xs:=eq2.symm;subst eq2;simp only[VR]at hs;obtain⟨sl,h1,rfl,hleaf⟩:=hs;obtain⟨sl',k1,k2⟩:=hR.ob s _ ho
 rw[h1]at k1;injection k1 with k1;subst k1
 simp only[OR]at k2;obtain⟨q1,q3⟩:=k2
 have hsn:∀o,s<(ts.new D o).nx:=λo=>by
  have:=(Qaa.1 h1).1;simp only[TS.new];rw[<-hR.nx];omega
 cases hk:sl.k with
 |none=>
  rw[hk]at q3;obtain⟨rfl,hv,_,_⟩:=q3;obtain⟨v',H',sl',b1,b2,b3,b4⟩:=fresh hroom hv
  exact .inl ⟨_,_,v',H',_,happ _ _ b1,own sl' v' b3 b2,b4.drop s (hsn _),h⟩
 |some j=>
  rw[hk]at q3;obtain⟨ver,cp,fps,e1,e2,e3,e4,e5,e6,e7⟩:=q3;have hlt:=(Qaa.1 e2).1;have hlen:sl.ws.length+[V.agg us].length<=z4u:=by rw[q1];exact hroom
  let sl':Slot:=⟨.hs F.lv j (ver+1) 0 (sl.ws++[V.agg us]).length false,some j,sl.ws++[V.agg us],sl.fp⟩
  have hL':∀n∈sl.fp,(σ.H.L.set j (some (.arr (ver+1) e' (D.len (.st q')) (sl.ws++[V.agg us]) none)))[n]? = σ.H.L[n]? := λn hn=>by
   rw[Qam (λe=>(hR.fpl s _ sl n ho trivial h1 hn).1 (by rw[hk,e]))]
  have hm:=hR.move ho trivial h1 hk (.deep e' q' (xs'++[D.make q' rr.1]) (rr.2.map λp=>((xs'.length:Int),p.1,p.2))) (.arr (ver+1) e' (D.len (.st q')) (sl.ws++[V.agg us]) none) sl' rfl
   (by
     simp only[OR];refine⟨by simp[sl',q1],ver+1,none,fps++[[]],rfl,by simp[sl',hlt],by simp[e3],by simp[sl',e4],e5,?_,λn f s' e =>?_⟩;exact y3z hD (e:=e') (L:=σ.H.L) sl' q1 e3 hul hrow (λn hn=>hL' n (by rw[e4];exact hn)) e6;rw[Qaf]at e;obtain⟨g,_,e⟩:=e;injection e with e e';subst e
     simp) (λ_ h=>h)
  refine .inl ⟨_,_,sl'.v,σ.H.set F.lv j (.arr (ver+1) e' (D.len (.st q')) (sl.ws++[V.agg us]) none),_,happ _ _ ?_,own sl' sl'.v rfl rfl,by rw[hR.zj5];exact hm,h⟩;rw[e1];simp only[yzs,hR.get e2,true_and];rw[Qbr hlen];simp[sl']
 cases h;exact .inr ⟨s,h⟩;cases h;cases h;cases h;exact .inr ⟨_,h⟩;cases h;cases h;cases h;cases h;cases h
omit hD in
theorem zfs{R:Type}(hR:TRr D F ρ ts σ){t u:Nat}{s x:TV D.T}{vs vx:V}{k:TV D.T->TS D.T->Option R}{r:R}(h:zsq P D ts t u s x k=some r)(hs:VR D ρ F.lv s vs)(hx:VR D ρ F.lv x vx) :
  ∃z ts' v H' ρ',hAppend P σ.H t u vs vx=some (v,H')∧VR D ρ' F.lv z v∧TRr D F ρ' ts' {σ with H:=H'}∧k z ts'=some r ∧
   ((∀q,s ≠ .own q)->∃sl' o,ρ'=ρ++[sl']∧ts'=ts.new D o∧o.live∧(∀i,sl'.k=some i->i=σ.H.L.length)∧∀i,sl'.k≠some i->H'.L[i]? = σ.H.L[i]?):=by
 unfold zsq at h;split at h;rename_i e du hu hdu;split at h;rename_i i τ hi hτ;split at h;rename_i z hz;split at h;rename_i hc;simp only[Qag,Qbj,Qar]at hc;obtain⟨⟨⟨⟨c1,c2⟩,c3⟩,c4⟩,c5⟩:=hc;split at h;rename_i ys xs w old hys hdst;obtain⟨zs,hzs,h⟩:=zzs h;obtain⟨hroom,rfl⟩:=zh5 hzs;obtain⟨us,hus,hyu⟩:=zwx hR hys hx
 have happ:∀v' H',yzs σ.H e (D.len τ) vs us=some (v',H')->hAppend P σ.H t u vs vx=some (v',H'):=λv' H' ha=>by
  unfold hAppend;rw[hu,hdu];simp only[hi,hz];rw[<-c5,hus];simp only;rw[Qbr (by simp only[Qag,Qbj,Qar];exact⟨⟨⟨c1,by omega⟩,c3⟩,by omega⟩)];exact ha
 have own:∀(sl':Slot) (v':V),sl'.v=v'->v'.leaf=true->VR D (ρ++[sl']) F.lv (.own ts.nx) v':=λsl' v' h1 h2=>by
  simp only[VR];exact⟨sl',by rw[<-hR.nx];simp,h1.symm,h2⟩
 unfold tDst at hdst;split at hdst;simp only[Qbo,Qbt]at hdst;obtain⟨rfl,rfl,rfl⟩:=hdst;simp only[VR]at hs;subst hs;obtain⟨v',H',sl',a1,a2,a3,a4,a5⟩:=z86 (e:=e) hR (w:=true) (DRL.nil τ) hyu hroom (.inl ⟨rfl,rfl⟩);exact⟨_,_,v',H',_,happ _ _ a1,own sl' v' a3 a2,a4,h,λ_=>⟨sl',_,rfl,rfl,trivial,a5⟩⟩;by_cases hu8:τ = .int .u8;rw[Qbr hu8]at hdst;cases hdst
 rw[Qbs hu8,Qaf]at hdst;obtain⟨xs',hl,hdst⟩:=hdst;simp only[Qbt]at hdst;obtain⟨rfl,rfl,rfl⟩:=hdst;obtain⟨rfl,rfl⟩:=z13 hl;simp only[VR]at hs;obtain⟨hs,hf,_⟩:=hs;obtain⟨ws,rfl⟩:=hf (by omega)
 cases hs with
 |sl _ _ _ _ hl hh=>
  obtain⟨v',H',sl',a1,a2,a3,a4,a5⟩:=z86 (e:=e) hR (w:=false) ⟨hl,hh⟩ hyu hroom (.inr ⟨⟨rfl,hu8⟩,by simp⟩);exact⟨_,_,v',H',_,happ _ _ a1,own sl' v' a3 a2,a4,h,λ_=>⟨sl',_,rfl,rfl,trivial,a5⟩⟩
 by_cases hu8:τ = .int .u8;rw[Qbr hu8]at hdst;cases hdst;rw[Qbs hu8,Qaf]at hdst;obtain⟨xs',hl,hdst⟩:=hdst;simp only[Qbt]at hdst;obtain⟨rfl,rfl,rfl⟩:=hdst;obtain⟨rfl,rfl⟩:=z13 hl;simp only[VR]at hs;obtain⟨hs,hf,hf2⟩:=hs;obtain⟨ws,rfl⟩:=hf (by omega);have hx0:=hf2 trivial
 cases hs with
 |sl _ _ _ _ hl hh=>
  obtain⟨v',H',sl',a1,a2,a3,a4,a5⟩:=z86 (e:=e) hR (w:=true) ⟨hl,hh⟩ hyu hroom (.inr ⟨⟨rfl,hu8⟩,λ_=>Qao (by rw[hl,hx0];rfl)⟩);exact⟨_,_,v',H',_,happ _ _ a1,own sl' v' a3 a2,a4,h,λ_=>⟨sl',_,rfl,rfl,trivial,a5⟩⟩
 rename_i s;split at hdst;rename_i e' t' xs' w' ho;split at hdst;rename_i he;subst he;rw[Qaf]at hdst;obtain⟨xs'',hl,hdst⟩:=hdst;simp only[Qbt]at hdst;obtain⟨rfl,rfl,rfl⟩:=hdst;obtain⟨rfl,rfl⟩:=z13 hl;simp only[VR]at hs;obtain⟨sl,h1,rfl,hleaf⟩:=hs;obtain⟨sl',k1,k2⟩:=hR.ob s _ ho
 rw[h1]at k1;injection k1 with k1;subst k1
 simp only[OR]at k2;obtain⟨q1,q2,q3⟩:=k2
 have hsn:∀o,s<(ts.new D o).nx:=λo=>by
  have:=(Qaa.1 h1).1;simp only[TS.new];rw[<-hR.nx];omega
 cases hk:sl.k with
 |none=>
  rw[hk]at q3;obtain⟨v',H',sl',a1,a2,a3,a4,a5⟩:=z86 (e:=e') hR (w:=w') ⟨q1,q2⟩ hyu hroom q3
  exact⟨_,_,v',H',_,happ _ _ a1,own sl' v' a3 a2,a4.drop s (hsn _),h,λq=>(q s rfl).elim⟩
 |some j=>
  rw[hk]at q3;obtain⟨ver,cp,e1,e2⟩:=q3;have hlt:=(Qaa.1 e2).1;have hxy:=DRL.append ⟨q1,q2⟩ hyu;have hlen:sl.ws.length+us.length<=z4u:=by rw[q1,hyu.1];exact hroom
  let sl':Slot:=⟨.hs F.lv j (ver+1) 0 (sl.ws++us).length false,some j,sl.ws++us,[]⟩
  have hm:=hR.move ho trivial h1 hk (.acc e' _ (_++ys) w') (.arr (ver+1) e' (D.len t') (sl.ws++us) none) sl' rfl
   (by simp only[OR];exact⟨hxy.1,hxy.2,ver+1,none,rfl,by simp[sl',hlt]⟩)
  refine⟨_,_,sl'.v,σ.H.set F.lv j (.arr (ver+1) e' (D.len t') (sl.ws++us) none),_,happ _ _ ?_,own sl' sl'.v rfl rfl,by rw[hR.zj5];exact hm,h,λq=>(q s rfl).elim⟩;rw[e1];simp only[yzs,hR.get e2,true_and];rw[Qbr hlen];simp[sl']
 cases hdst;cases hdst;cases hdst;cases h;cases h;cases h;cases h;cases h
omit hD in
theorem y2y(hR:TRr D F ρ ts σ){t:Nat}{τ:DTy}:VR D (ρ++[⟨.any,some σ.H.L.length,[],[]⟩]) F.lv (TV.map ts.nx:TV D.T) (.map σ.H.lv σ.H.L.length)∧TRr D F (ρ++[⟨.any,some σ.H.L.length,[],[]⟩]) (ts.new D (.mp t τ [])) {σ with H:=σ.H.push (.map [])}:=by
 refine⟨?_,?_⟩;simp only[VR];exact⟨⟨.any,some σ.H.L.length,[],[]⟩,σ.H.L.length,by rw[<-hR.nx];simp,rfl,by rw[hR.lv]⟩
 exact hR.new _ _ _ hR.lv hR.E (by simp[zz2.push]) (λi hi=>by simp only[zz2.push];rw[Qal hi]) (λi hi=>by injection hi with hi;omega)
  (by simp only[OR];exact⟨σ.H.L.length,[],rfl,rfl,(by simp),(by simp[zz2.push])⟩)
omit hD in
theorem zn8{R:Type}(hR:TRr D F ρ ts σ){t:Nat}{r':Option (TV D.T)}{vr:Option V}{k:TV D.T->TS D.T->Option R}{r:R}(h:zni P D ts t r' k=some r)(h1:∀z,r'=some z->∃v,vr=some v∧VR D ρ F.lv z v)(h2:r'=none->vr=none) :
  ∃z ts' v H' ρ',ze5 P σ.H t vr=some (v,H')∧VR D ρ' F.lv z v∧TRr D F ρ' ts' {σ with H:=H'}∧k z ts'=some r:=by
 unfold zni at h;split at h;rename_i kt e hu;split at h;rename_i τ hτ;obtain⟨a1,a2⟩:=y2y hR (t:=t) (τ:=τ);exact⟨_,_,_,_,_,by rw[h2 rfl];rfl,a1,a2,h⟩;rename_i τ q n hτ;obtain⟨a1,a2⟩:=y2y hR (t:=t) (τ:=τ);obtain⟨v,e1,e2⟩:=h1 _ rfl;simp only[VR]at e2;subst e2;exact⟨_,_,_,_,_,by rw[e1];simp only[ze5,hu],a1,a2,h⟩;cases h;cases h
theorem zfw{R:Type}(hR:TRr D F ρ ts σ){t:Nat}{m key x:TV D.T}{vm vk vx:V}{k:TV D.T->TS D.T->Option R}{r:R}(h:zln P D ts t m key x k=some r)(hm:VR D ρ F.lv m vm)(hk:VR D ρ F.lv key vk)(hx:VR D ρ F.lv x vx) :
  ∃z ts' v H' ρ',z5h P σ.H t vm vk vx=some (v,H')∧VR D ρ' F.lv z v∧TRr D F ρ' ts' {σ with H:=H'}∧k z ts'=some r:=by
 unfold zln at h;split at h;rename_i kt e q s hu;simp only[VR]at hk;subst hk;split at h;rename_i ty τ es hkt ho;split at h;rename_i y hy;simp only[VR]at hm;obtain⟨sl,i,h1,h2,rfl⟩:=hm;obtain⟨sl',k1,k2⟩:=hR.ob _ _ ho
 rw[h1]at k1;injection k1 with k1;subst k1
 simp only[OR]at k2;obtain⟨i',ms,q1,q2,q4,q3⟩:=k2
 rw[h2]at q1;injection q1 with q1;subst q1
 have hv:=z6m hD hy hx;have hlt:=(Qaa.1 q3).1;have hup:=zyb (P:=P) (f:=λx:τ.S D.T×V=>x.2) (lv:=σ.H.lv) (E:=σ.H.E) hu hkt q3 s (y,vx) rfl;refine⟨.any,_,.any,{σ.H with L:=σ.H.L.set i (some (.map ((z4v ms s (y,vx)).map λp=>(.str p.1,p.2.2))))},ρ,?_,by simp only[VR],?_,h⟩;rw[<-hR.lv];exact hup
 exact hR.upd ho trivial h1 h2 (.mp ty τ (z4v es s y)) (.map ((z4v ms s (y,vx)).map λp=>(.str p.1,p.2.2))) (by
  simp only[OR];refine⟨i,z4v ms s (y,vx),h2,?_,λp hp =>?_,by simp[hlt]⟩;rw[q2];exact y5z Prod.fst s (y,vx) ms
  rcases y5f hp with h|h
  rw[h];exact hv
  exact q4 p h)
 cases h;cases h;cases h
omit hD in
theorem zut{R:Type}(hR:TRr D F ρ ts σ){b:Bool}{x:TV D.T}{vx:V}{k:TV D.T->TS D.T->Option R}{r:R}(h:y6a D ts x b k=some r)(hx:VR D ρ F.lv x vx) :
  ∃z ts' v H' ρ',zqz σ.H vx b=some (v,H')∧VR D ρ' F.lv z v∧TRr D F ρ' ts' {σ with H:=H'}∧k z ts'=some r:=by
 unfold y6a at h;split at h;rename_i s;simp only[VR]at hx;obtain⟨sl,i,h1,h2,rfl⟩:=hx;split at h;rename_i l pos ho;obtain⟨sl',k1,k2⟩:=hR.ob s _ ho
 rw[h1]at k1;injection k1 with k1;subst k1
 simp only[OR]at k2;obtain⟨i',q1,q2⟩:=k2
 rw[h2]at q1;injection q1 with q1;subst q1
 have hlt:=(Qaa.1 q2).1;rw[zlf]at h;split at h;rename_i hc;have hc':pos<l.length:=Qac hc;refine⟨_,_,.tup [.bool true,.int .i64 pos,.int .i32 (z43 l pos).1],σ.H.set F.lv i (.siter l (pos+(z43 l pos).2)),ρ,?_,?_,?_,h⟩;simp only[zqz,hR.get q2];rw[Qbr hc'];simp only[VR,VRL];exact⟨_,rfl,_,_,rfl,rfl,_,_,rfl,rfl,_,_,rfl,rfl,rfl⟩;rw[hR.zj5]
 exact hR.upd ho trivial h1 h2 _ _ (by simp only[OR];exact⟨i,h2,by simp[hlt]⟩);rename_i hc;have hc':¬pos<l.length:=λh=>hc (decide_eq_true h)
 refine⟨_,_,.tup [.bool false],σ.H,ρ,?_,?_,hR,h⟩;simp only[zqz,hR.get q2];rw[Qbs hc'];simp only[VR,VRL];exact⟨_,rfl,_,_,rfl,rfl,rfl⟩;cases h;cases h
omit hD in
theorem DRL.take{t:DTy}{xs:List (t.S D.T)}{ws:List V}(h:DRL D t xs ws)(n:Nat):DRL D t (xs.take n) (ws.take n):=by
 refine⟨by simp[h.1],λj x w hx hw =>?_⟩;rw[Qaw]at hx hw;split at hx;rename_i hj;rw[Qbr hj]at hw;exact h.2 j x w hx hw;cases hx
omit hD in
theorem DRL.drop{t:DTy}{xs:List (t.S D.T)}{ws:List V}(h:DRL D t xs ws)(n:Nat):DRL D t (xs.drop n) (ws.drop n):=by
 refine⟨by simp[h.1],λj x w hx hw =>?_⟩;rw[Qbc]at hx hw;exact h.2 _ x w hx hw
omit hD in
theorem zof{R:Type}(hR:TRr D F ρ ts σ){t:Nat}{x lo:TV D.T}{vx vlo:V}{k:TV D.T->Option R}{kf:Option R}{r:R}(h:tCut P D ts t x lo k kf=some r)(hx:VR D ρ F.lv x vx)(hlo:VR D ρ F.lv lo vlo) :
  (∃z v,z64 P σ.H t vx (some vlo) none none=some v∧VR D ρ F.lv z v∧k z=some r)∨kf=some r:=by
 unfold tCut at h;split at h;rename_i s a;split at h;rename_i e ty τ xs hu ho;split at h;rename_i hc;left;obtain⟨_,hcut,h⟩:=zzs h;unfold zv4 at hcut;split at hcut;rename_i hcut';obtain⟨c1,c2,c3⟩:=hcut';simp only[VR]at hx hlo;subst hlo;obtain⟨sl,h1,rfl,hleaf⟩:=hx;obtain⟨sl',k1,k2⟩:=hR.ob s _ ho
 rw[h1]at k1;injection k1 with k1;subst k1
 simp only[OR]at k2;obtain⟨q1,q2,q3⟩:=k2
 cases hk:sl.k with
 |none=>
  rw[hk]at q3
  rcases q3 with ⟨_,e2⟩|⟨_,e2⟩
  rw[e2]at q1;simp at q1;omega
  rw[e2 trivial]at q1;simp at q1;omega
 |some j=>
  rw[hk]at q3;obtain⟨ver,cp,e1,e2⟩:=q3;have hp:=zg8 (P:=P) (n:=sl.ws.length) hu hc.1 hc.2 (hR.get e2) (a:=a) c1 (by omega);refine⟨_,_,by rw[e1];exact hp,?_,h⟩;simp only[VR];refine⟨sl,j,ver,h1,hk,e1,c1,by omega,?_⟩;split;exact .inl rfl;exact .inr ⟨by omega,_,rfl⟩
 cases hcut;cases h;cases h;exact .inr h
omit hD in
theorem ztp{R:Type}(hR:TRr D F ρ ts σ){t:Nat}{d s:TV D.T}{vd vs:V}{k:TV D.T->TS D.T->Option R}{r:R}(h:y6i P D ts t d s k=some r)(hd:VR D ρ F.lv d vd)(hs:VR D ρ F.lv s vs) :
  ∃z ts' v H' ρ',zhm P σ.H t vd vs=some (v,H')∧VR D ρ' F.lv z v∧TRr D F ρ' ts' {σ with H:=H'}∧k z ts'=some r:=by
 unfold y6i at h;split at h;rename_i s a s' b;split at h;rename_i hss;subst hss;split at h;rename_i e ty τ xs hu ho;split at h;rename_i hc;obtain⟨ys,hys,h⟩:=zzs h;unfold zgk at hys;split at hys;rename_i hb;injection hys with hys;obtain⟨b1,b2,b3,b4⟩:=hb;simp only[VR]at hd hs;obtain⟨sl,j,ver,d1,d2,d3,d4,d5,d6⟩:=hd;obtain⟨sl1,j1,ver1,f1,f2,f3,f4,f5,f6⟩:=hs
 rw[d1]at f1;injection f1 with f1;subst f1
 rw[d2]at f2;injection f2 with f2;subst f2
 rw[d3]at f3;injection f3 with _ _ f3;subst f3
 obtain⟨sl',k1,k2⟩:=hR.ob s _ ho
 rw[d1]at k1;injection k1 with k1;subst k1
 simp only[OR]at k2;obtain⟨q1,q2,q3⟩:=k2;rw[d2]at q3;obtain⟨ver',cp,e1,e2⟩:=q3
 rw[d3]at e1;injection e1 with _ _ e1;subst e1
 have hlt:=(Qaa.1 e2).1
 have f6':vs = .hs F.lv j ver b.toNat (sl.ws.length-b.toNat) false:=by
  rcases f6 with f6|⟨f6,_⟩
  exact f6;omega
 subst f6'
 let n:=min (sl.ws.length-b.toNat) (sl.ws.length-a.toNat)
 let ws':=sl.ws.take a.toNat++((sl.ws.drop b.toNat).take n++sl.ws.drop (a.toNat+n))
 let sl':Slot:=⟨sl.v,some j,ws',[]⟩
 have hwl:ws'.length=sl.ws.length:=by simp only[ws',n,Qap,Qay,List.length_drop];omega
 have hdrl:DRL D τ ys ws':=by
  rw[<-hys];simp only[ws',n,q1];exact(DRL.take ⟨q1,q2⟩ _).append (((DRL.drop ⟨q1,q2⟩ _).take _).append (DRL.drop ⟨q1,q2⟩ _))
 have hor:OR D (ρ++[sl']) F.lv (σ.H.L.set j (some (.arr ver ty (D.len τ) ws' cp))) sl' (.acc ty τ ys true):=by
  simp only[OR];refine⟨hdrl.1,hdrl.2,ver,cp,?_,by simp[sl',hlt]⟩;show sl.v = .hs F.lv j ver 0 ws'.length false;rw[hwl];exact d3
 have hm:=hR.move ho trivial d1 d2 (.acc ty τ ys true) (.arr ver ty (D.len τ) ws' cp) sl' rfl hor;have hm2:=hm.z3p (TV.ren D s ts.nx) λx v hxv=>VR.ren (lookup_append d1) (sl':=sl') (by rw[<-hR.nx];simp) rfl hxv
 have hget:=hR.get e2
 rcases d6 with d6|⟨d6,sz,rfl⟩
 subst d6;refine⟨.any,_,.int .i64 (min (sl.ws.length-b.toNat) (sl.ws.length-a.toNat):Nat),σ.H.set F.lv j (.arr ver ty (D.len τ) ws' cp),ρ++[sl'],?_,by simp only[VR],?_,h⟩;simp only[zhm,hu,hget];rw[Qbr hc.2,Qbr ⟨trivial,trivial,trivial⟩,Qbr ⟨trivial,hc.1⟩];rw[hR.zj5];exact hm2;have hn:n=0:=by simp only[n];omega
 have hws:ws'=sl.ws:=by
  simp only[ws',hn,List.take_zero,List.nil_append,Nat.add_zero,List.take_append_drop]
 have hset:σ.H.L.set j (some (.arr ver ty (D.len τ) ws' cp))=σ.H.L:=by
  rw[hws];refine List.ext_getElem? λq =>?_
  rw[Qbf];split;rename_i hq;rw[<-hq,e2];rfl
 rw[hset]at hm2;refine⟨.any,_,.int .i64 0,σ.H,ρ++[sl'],?_,by simp only[VR],hm2,h⟩;simp only[zhm,hu,hget];rw[Qbr hc.2,Qbr trivial];cases hys;cases h;cases h;cases h;cases h
theorem zqm{R:Type}(hR:TRr D F ρ ts σ){op:Op}{k:TV D.T->TS D.T->Option R}{kf:Nat->Option R}{r:R}(h:tOp P D ts op k kf=some r) :
  (∃z ts' v H' ρ',ox P σ.H σ.ev op=some (v,H')∧VR D ρ' F.lv z v∧TRr D F ρ' ts' {σ with H:=H'}∧k z ts'=some r)∨∃s,kf s=some r:=by
 have pure:∀{op:Op},tP P D ts op (λv=>k v ts) kf=some r->(∃z ts' v H' ρ',ox P σ.H σ.ev op=some (v,H')∧VR D ρ' F.lv z v∧TRr D F ρ' ts' {σ with H:=H'}∧k z ts'=some r)∨∃s,kf s=some r:=λ{op} h=>by
  rcases zlv hD hR h with ⟨x,v,h1,h2,h3⟩|h
  exact .inl ⟨x,ts,v,σ.H,ρ,zul h1,h2,hR,h3⟩;exact .inr h
 unfold tOp at h;split at h;split at h;rename_i z hz;split at h;rename_i hs;left;obtain⟨v,h1,h2⟩:=z5j (ρ:=ρ) (lv:=F.lv) hz;obtain⟨h3,h4⟩:=hR.zdy hD (h2.cells hs);exact⟨_,_,_,_,_,by simp only[ox,zgc,h1];rw[Qbr (h2.kz9 hs)],h4,h3,h⟩;cases h;cases h;split at h;rename_i x hx;split at h;rename_i hs;left;have h2:=hR.ev hx;obtain⟨h3,h4⟩:=hR.zdy hD (h2.cells hs)
 exact⟨_,_,_,_,_,by simp only[ox,y3i];rw[Qbr (h2.kz9 hs)],h4,h3,h⟩;cases h;cases h;split at h;rename_i ha hx
 rcases zsj hD hR h (hR.ev ha) (hR.ev hx)with ⟨z,ts',v,H',ρ',h1,h2⟩|h
 exact .inl ⟨z,ts',v,H',ρ',by simp only[ox];exact h1,h2⟩;exact .inr h;cases h;split at h;rename_i r' hr;left;obtain⟨a1,a2⟩:=hR.oev hr;obtain⟨z,ts',v,H',ρ',h1,h2⟩:=zn8 hR h a1 a2;exact⟨z,ts',v,H',ρ',by simp only[ox];exact h1,h2⟩;cases h;split at h;rename_i hm hk hx;left;obtain⟨z,ts',v,H',ρ',h1,h2⟩:=zfw hD hR h (hR.ev hm) (hR.ev hk) (hR.ev hx);exact⟨z,ts',v,H',ρ',by simp only[ox];exact h1,h2⟩;cases h;split at h
 rename_i hm hk hx;left;obtain⟨z,ts',v,H',ρ',h1,h2⟩:=zfw hD hR h (hR.ev hm) (hR.ev hk) (hR.ev hx);exact⟨z,ts',v,H',ρ',by simp only[ox];exact h1,h2⟩;cases h;split at h;rename_i str hx;split at h;rename_i hu;left;have h1:=hR.ev hx;simp only[VR]at h1;refine⟨_,_,.ptr σ.H.lv σ.H.L.length 0,σ.H.push (.siter str 0),ρ++[⟨.any,some σ.H.L.length,[],[]⟩],by simp only[ox,zrh,h1,hu],?_,?_,h⟩;simp only[VR]
 exact⟨⟨.any,some σ.H.L.length,[],[]⟩,σ.H.L.length,by rw[<-hR.nx];simp,rfl,by rw[hR.lv]⟩
 exact hR.new _ _ _ hR.lv hR.E (by simp[zz2.push]) (λi hi=>by simp only[zz2.push];rw[Qal hi]) (λi hi=>by injection hi with hi;omega)
  (by simp only[OR];exact⟨σ.H.L.length,rfl,by simp[zz2.push]⟩)
 cases h;cases h;split at h;rename_i hi;left;obtain⟨z,ts',v,H',ρ',h1,h2⟩:=zut hR h (hR.ev hi);exact⟨z,ts',v,H',ρ',by simp only[ox];exact h1,h2⟩;cases h;split at h;rename_i c;split at h;rename_i s x t u hcal hargs htys;split at h;rename_i hs hx
 rcases zmn hD hR h (hR.ev hs) (hR.ev hx)with ⟨z,ts',v,H',ρ',h1,h2⟩|h
 exact .inl ⟨z,ts',v,H',ρ',by simp only[ox,hcal,hargs,htys];exact h1,h2⟩;exact .inr h;rename_i hs hx;left;obtain⟨z,ts',v,H',ρ',h1,h2,h2b,h2c,_⟩:=zfs hR h (hR.ev hs) (hR.ev hx);replace h2:=And.intro h2 (And.intro h2b h2c);exact⟨z,ts',v,H',ρ',by simp only[ox,hcal,hargs,htys];exact h1,h2⟩;cases h;rename_i d s t u hcal hargs htys;split at h;rename_i hd hs;left
 obtain⟨z,ts',v,H',ρ',h1,h2⟩:=ztp hR h (hR.ev hd) (hR.ev hs);exact⟨z,ts',v,H',ρ',by simp only[ox,hcal,hargs,htys];exact h1,h2⟩;cases h;exact pure h;exact pure h
end
def zbh(H:zz2):zz2:=⟨H.lv,[],λ_ _=>none⟩
def y4x(g:Gh):Gh:={g with dom:=λ_ _=>False}
theorem z9c(H:zz2)(l i:Nat):(zbh H).get l i=none:=by
 unfold zz2.get zbh;split <;> simp
theorem zyt{g:Gh}{H:zz2}{b:Nat}:¬Own g (zbh H) b:=λ⟨l,i,o,ho,_⟩=>by rw[z9c]at ho;cases ho
theorem y0u{W:World}{g:Gh}{H:zz2}(h:Good W g H):Good W (y4x g) (zbh H) :=
 ⟨λl i o ho=>(by rw[z9c]at ho;cases ho),λl i o ho=>(by rw[z9c]at ho;cases ho),λl i o l' i' o' ho=>(by rw[z9c]at ho;cases ho),λl i hd=>hd.elim,λl i o ho=>(by rw[z9c]at ho;cases ho),h.glob.zk3 (λb hb=>(zyt hb).elim),h.base⟩
theorem y6b{W:World}{g:Gh}{H:zz2}{v u:V}{c:Value}(hG:Good W g H)(h:VS H (λ_ _=>False) v u)(hr:Rel W g H v c):Rel W (y4x g) (zbh H) u c :=
 VS.rel hG (λ_ _ h=>h.elim) (λ_ _ h=>h.elim) (λ_ _ h=>h.elim) (λ_ _ h=>h.elim) (λ_ _ h=>h.elim) (λb hb=>(zyt hb).elim) (λi o _ hb=>zyt hb) h hr
inductive VFl:V->Prop where
 |bool (b:Bool):VFl (.bool b)
 |int (k:IntKind) (n:Int):VFl (.int k n)
 |str (s:B8):VFl (.str s)
 |tup (vs:List V) (h:∀(j:Nat) (v:V),vs[j]? = some v->VFl v):VFl (.tup vs)
theorem VFl.rel{v:V}(h:VFl v){W W':World}{g g':Gh}{H H':zz2}:∀{c:Value},Rel W g H v c->Rel W' g' H' v c:=by
 induction h with
 |bool b=>intro c hc;cases hc;exact .bool _
 |int k n=>intro c hc;cases hc;exact .int _ _
 |str s=>intro c hc;cases hc;exact .str _
 |tup vs h ih=>
  intro c hc
  cases hc with
  |tup _ cs hn hr=>exact .tup vs cs hn λj v hj=>ih j v hj (hr j v hj)
theorem zrs{P:Program}{f:Nat}{vs us:List V}{r:V}{H:zz2}(hc:zd6 P f us r)(h:VSL H (λ_ _=>False) vs us)(hr:VFl r):zf7 P f vs H r H:=λW g cargs hG hA=>by
 have hlen:=h.length
 have hA':z84 W (y4x g) (zbh H) us cargs:=⟨hA.1.trans hlen,λj u hj=>by
  have hlt:=(Qaa.1 hj).1;have hv:vs[j]? = some (vs[j]'(by omega)):=Qab _
  exact y6b hG (h.get j _ u hv hj) (hA.2 j _ hv)⟩
 have grow:∀{W':World}{g':Gh},Step W (y4x g) (zbh H) W' g' (zbh H)->Grow W W':=λst=>⟨st.os,st.tape,st.output,st.size,λb hb=>st.block b hb zyt⟩
 rcases hc (zbh H) W (y4x g) cargs (y0u hG) hA' with ⟨e,hcalls⟩|⟨c,W',g',e,st,gd,rl⟩
 exact .inl ⟨e,hcalls.mono λe W' ⟨c,g',e1,st,gd,rl⟩=>⟨c,g,e1,(grow st).step,hG.grow (grow st),hr.rel rl⟩⟩;exact .inr ⟨c,W',g,e,(grow st).step,hG.grow (grow st),hr.rel rl⟩
section
variable {P : Program} {D : Dat} {F : Fr} {ρ : List Slot} {ts : TS D.T} {σ : St} {lv : Nat} {L : List (Option yz4)} {E : Nat → Nat → Option yz4}
theorem z79{α:Type}{Q:Nat->α->Prop}:∀n:Nat,(∀j,j<n->∃a,Q j a)->∃l:List α,l.length=n∧∀j a,l[j]? = some a->Q j a
 |0,_=>⟨[],rfl,λj a h=>by simp at h⟩
 |n+1,h=>by
  obtain⟨l,h1,h2⟩:=z79 n λj hj=>h j (by omega)
  obtain⟨a,ha⟩:=h n (by omega);refine⟨l++[a],by simp[h1],λj b hb =>?_⟩;rw[Qbb]at hb;split at hb;exact h2 j b hb;rename_i hj;rw[h1]at hb hj
  have:j-n=0:=by
   rcases Nat.eq_zero_or_pos (j-n)with q|q
   exact q;rw[Qby (by simp;omega)]at hb;cases hb
  have hjn:j=n:=by omega
  subst hjn;simp at hb;subst hb;exact ha
theorem DR.kin(hD:D.Ok P){t:DTy}{x:t.S D.T}{v:V}(h:DR D t x v)(Dm:Nat->Nat->Prop):V.kin Dm v:=by
 induction h with
 |bool|int|str|nat|nil=>simp[V.kin]
 |sl t xs ws full hl h ih=>
  simp only[V.kin]
  exact z3y λw hw=>by
   obtain⟨j,hj⟩:=Qbm hw;have hlt:=(Qaa.1 hj).1
   exact ih j _ w (Qab (by omega)) hj
 |st i x vs hl h ih=>
  simp only[V.kin]
  exact z3y λw hw=>by
   obtain⟨j,hj⟩:=Qbm hw;have hlt:=(Qaa.1 hj).1;obtain⟨p,hp,_⟩:=HL.z7o (D.fl i) (D.get i x) j (by omega)
   exact ih j p w hp hj
 |enc i x=>exact hD.kin i x Dm
def Seen(H:zz2):OM->V->V->Prop
 |.el,v,u=>v.cells.length=u.cells.length∧∀(j:Nat) (a b:V),v.cells[j]? = some a->u.cells[j]? = some b->VS H (λ_ _=>False) a b
 |.dat,v,u=>VS H (λ_ _=>False) v u
 |.own _,v,u=>VS H (λ_ _=>False) v u
theorem DO.see(hD:D.Ok P){m:OM}{t:DTy}{x:t.S D.T}{v:V}{fp:List Nat}(h:DO D lv L m t x v fp) :
  ∃u,DR D t x u∧Seen ⟨lv,L,E⟩ m v u:=by
 induction h with
 |dat h=>exact⟨_,h,.keep _ (h.kin hD _)⟩
 |nil h hv=>exact⟨_,h,.keep _ (h.kin hD _)⟩
 | @own ty t xs j ver cp ws fps hL hl hf he ih=>
   obtain⟨us,e1,e2⟩:=z79 (Q:=λn u=>∀(x:t.S D.T) (w:V),xs[n]? = some x->ws[n]? = some w->DR D t x u∧w.cells.length=u.cells.length∧∀(j:Nat) (a b:V),w.cells[j]? = some a->u.cells[j]? = some b->VS ⟨lv,L,E⟩ (λ_ _=>False) a b) xs.length λn hn=>by
    obtain⟨u,h1,h2⟩:=ih n _ _ _ (Qab hn) (Qab (show n<ws.length by omega)) (Qab (show n<fps.length by omega));refine⟨u,λx w hx hw =>?_⟩
    rw[Qab hn]at hx;injection hx with hx;subst hx
    rw[Qab (show n<ws.length by omega)]at hw;injection hw with hw;subst hw
    exact⟨h1,h2⟩
   refine⟨.sl (D.len t) us false,.sl t xs us false e1 λn x u hx hu =>?_,?_⟩;have hn:=(Qaa.1 hx).1;exact(e2 n u hu x _ hx (Qab (show n<ws.length by omega))).1;refine .hs lv j ver ty (D.len t) 0 ws.length false ws us cp rfl ?_ (by omega) (λn w u hw hu =>?_) λn w u c a b hw hu ha hb =>?_
   show(if lv=lv then (L[j]?).join else _)=_;rw[Qbr rfl,hL];rfl;rw[Nat.zero_add]at hw;have hn:=(Qaa.1 hw).1;exact(e2 n u hu _ w (Qab (show n<xs.length by omega)) hw).2.1;rw[Nat.zero_add]at hw;have hn:=(Qaa.1 hw).1
   exact(e2 n u hu _ w (Qab (show n<xs.length by omega)) hw).2.2 c a b ha hb
 | @el i x vs cs hl hc h ih=>
   obtain⟨us,e1,e2⟩:=z79 (Q:=λf u=>∀(p:(t:DTy)×t.S D.T) (w:V),HL.nth (D.fl i) (D.get i x) f=some p->vs[f]? = some w->DR D p.1 p.2 u∧VS ⟨lv,L,E⟩ (λ_ _=>False) w u) (D.fl i).length λf hf=>by
    obtain⟨p,hp,_⟩:=HL.z7o (D.fl i) (D.get i x) f hf;obtain⟨u,h1,h2⟩:=ih f p _ _ hp (Qab (show f<vs.length by omega)) (Qab (show f<cs.length by omega));refine⟨u,λp' w hp' hw =>?_⟩
    rw[hp]at hp';injection hp' with hp';subst hp'
    rw[Qab (show f<vs.length by omega)]at hw;injection hw with hw;subst hw
    refine⟨h1,?_⟩
    cases how:D.ow i f with
    |none=>rw[how]at h2;exact h2
    |some ty=>rw[how]at h2;exact h2
   refine⟨.agg us,.st i x us e1 λf p u hp hu =>?_,?_⟩;have hf:=(HL.z47 _ _ _ _ hp).1;exact(e2 f u hu p _ hp (Qab (show f<vs.length by omega))).1;refine⟨by show vs.length=us.length;omega,λf a b ha hb =>?_⟩;replace ha:vs[f]? = some a:=ha;replace hb:us[f]? = some b:=hb;have hf:=(Qaa.1 ha).1;obtain⟨p,hp,_⟩:=HL.z7o (D.fl i) (D.get i x) f (by omega)
   exact(e2 f b hb p a hp ha).2
 |elf ht h=>exact⟨_,h,rfl,λj a b ha hb=>by rw[ha]at hb;injection hb with hb;subst hb;exact .keep _ (z2j (zax (h.kin hD _)) j a ha)⟩
end
section
variable {P : Program} {D : Dat} {F : Fr} {ρ : List Slot} {ts : TS D.T} {σ : St} {lv : Nat} {L : List (Option yz4)}
def Slot.all(sl:Slot):List Nat:=sl.k.toList++sl.fp
theorem Slot.zes{sl:Slot}{i:Nat}:i∈sl.all↔sl.has i:=by
 unfold Slot.all Slot.has;rw[List.mem_append]
 cases sl.k with
 |none=>simp
 |some j=>simp[eq_comm]
theorem zgt{t:DTy}(h:D.z9v t=true):∀i f,f<(D.fl i).length->t = .st i->D.ow i f=none:=λi f hf e=>by
 subst e;simp only[Dat.z9v,Dat.owns,Bool.not_eq_true']at h;have:=List.any_eq_false.1 h f (List.mem_range.2 hf)
 cases ho:D.ow i f with
 |none=>rfl
 |some y=>rw[ho]at this;simp at this
theorem y8y{ty:Nat}{t:DTy}{xs:List (t.S D.T)}{sl:Slot}(h:OR D ρ lv L sl (.acc ty t xs true))(ht:D.z9v t=true):DO D lv L (.own ty) (.sl t) xs sl.v sl.k.toList:=by
 simp only[OR]at h;obtain⟨h1,h2,h3⟩:=h
 cases hk:sl.k with
 |none=>
  rw[hk]at h3;have hx:sl.ws=[]->xs=[]:=λe=>Qao (by rw[<-h1,e];rfl)
  rcases h3 with ⟨e1,e2⟩|⟨⟨e1,_⟩,e2⟩
  have:=hx e2;subst this;rw[e1];exact .nil (.nil _) (.inl rfl);have e3:=e2 trivial;have:=hx e3;subst this;rw[e1,e3]
  exact .nil (.sl _ _ _ _ rfl (λj x w hj=>by simp at hj)) (.inr rfl)
 |some j=>
  rw[hk]at h3;obtain⟨ver,cp,e1,e2⟩:=h3;rw[e1]
  have hr:([]:List Nat)=(List.replicate xs.length ([]:List Nat)).flatten:=by
   symm;rw[List.flatten_eq_nil_iff];intro l hl;exact(List.mem_replicate.1 hl).2
  show DO D lv L (.own ty) (.sl t) xs _ (j::[]);rw[hr];refine .own e2 h1 (by simp) λn x w c a1 a2 a3 =>?_
  rw[Qbl]at a3;split at a3;injection a3 with a3;subst a3;have hdr:=h2 n x w a1 a2
  cases t with
  |st i=>
   cases hdr with
   |st _ _ vs hl h=>
    have hr2:([]:List Nat)=(List.replicate (D.fl i).length ([]:List Nat)).flatten:=by
     symm;rw[List.flatten_eq_nil_iff];intro l hl;exact(List.mem_replicate.1 hl).2
    rw[hr2];refine .el hl (by simp) λf p u b b1 b2 b3 =>?_
    rw[Qbl]at b3;split at b3;rename_i hf;injection b3 with b3;subst b3;rw[zgt ht i f hf rfl];exact .dat (h f p u b1 b2)
    cases b3
   |enc=>exact .elf (zgt ht) (.enc i x)
  |_=>exact .elf (λi f _ e=>by cases e) hdr
  cases a3
theorem zsu{ty q:Nat}{xs:List (D.T q)}{sl:Slot}(h:OR D ρ lv L sl (.deep ty q xs none)):DO D lv L (.own ty) (.sl (.st q)) xs sl.v sl.all:=by
 simp only[OR]at h;obtain⟨h1,h3⟩:=h;unfold Slot.all
 cases hk:sl.k with
 |none=>
  rw[hk]at h3;obtain⟨rfl,e2,e3,_⟩:=h3;rw[e3]
  rcases e2 with e2|e2
  rw[e2];exact .nil (.nil _) (.inl rfl)
  rw[e2];exact .nil (.sl _ _ _ _ rfl (λj x w hj=>by simp at hj)) (.inr rfl)
 |some j=>
  rw[hk]at h3;obtain⟨ver,cp,fps,e1,e2,e3,e4,e5,e6,e7⟩:=h3;rw[e1,e4];refine .own e2 h1 e3 λn x w c a1 a2 a3 =>?_
  obtain⟨vs,cs,rfl,b2,b3,rfl,b5⟩:=e6 n x w c a1 a2 a3;exact .el b2 b3 λf p u b g1 g2 g3=>b5 f p u b g1 g2 g3
inductive VH (lv:Nat) (L:List (Option yz4)) (R:Nat->Prop):V->V->Prop where
 |keep (v:V):VH lv L R v v
 |hs (i ver ty sz n:Nat) (full:Bool) (xs ys:List V) (cp:Option Nat) (hR:R i) (hg:L[i]? = some (some (.arr ver ty sz xs cp))) (hn:ys.length=n)
  (h1:∀(j:Nat) (x y:V),xs[j]? = some x->ys[j]? = some y->x.cells.length=y.cells.length) (h2:∀(j:Nat) (x y:V) (t:Nat) (v u:V),xs[j]? = some x->ys[j]? = some y->x.cells[t]? = some v->y.cells[t]? = some u->VH lv L R v u) :
  VH lv L R (.hs lv i ver 0 n full) (.sl sz ys false)
theorem VH.rel{W:World}{g:Gh}{H H':zz2}{R:Nat->Prop}(hGood:Good W g H)(hlv:H.lv=lv)(hL:H.L=L)(hf:∀{x:V}{c:Value},Rel W g H x c->Rel W g H' x c)(hloc:∀i o,R i->H.get H.lv i=some o->¬Own g H' (o.blk g H.lv i)){v u:V}(h:VH lv L R v u):∀{c:Value},Rel W g H v c->Rel W g H' u c:=by
 induction h with
 |keep v=>exact λh=>hf h
 |hs i ver ty sz n full xs ys cp hR hg' hn h1 h2 ih=>
  intro c hc
  have hg:H.get H.lv i=some (.arr ver ty sz xs cp):=by
   unfold zz2.get;rw[Qbr rfl,hL,hg'];rfl
  subst hlv
  cases hc with
  |hs _ _ _ _ _ _ a m cap hd hv ha=>
   obtain⟨rfl,rfl,⟨hcap',hcap2,hff⟩,hle⟩:=ha _ _ _ _ hg;obtain⟨cur,k1,k2,k3,k3',k4,k5,k6⟩:=zi8 hGood hg
   have get:∀j y,ys[j]? = some y->∃x,xs[j]? = some x∧j<m:=λj y hj=>by
    have:=(Qaa.1 hj).1;exact⟨_,Qab (by omega),by omega⟩
   have cells:∀(j:Nat) (y:V) (t:Nat) (u:V),ys[j]? = some y->y.cells[t]? = some u->∃x v,xs[j]? = some x∧x.cells[t]? = some v∧Rel W g H' u (cur.getD (j * sz+t) undef)∧(cur.getD (j * sz+t) undef).oneCell'=true∧j * sz+t<cur.size:=λj y t u hj ht=>by
    obtain⟨x,hx,hjm⟩:=get j y hj;have hl:=h1 j x y hx hj;have hxl:=k6.1 _ _ hx;have htl:=(Qaa.1 ht).1;have hv':x.cells[t]? = some (x.cells[t]'(by omega)):=Qab _;refine⟨x,_,hx,hv',ih j x y t _ u hx hj hv' ht (k6.2.2 _ _ _ _ hx hv'),k6.2.1 _ _ _ _ hx hv',?_⟩;rw[k3];exact zii (by omega) (by omega)
   rw[<-hn];refine .sl sz ys false (g.ab H.lv i) (0 * sz) cap (λj t=>cur.getD (j * sz+t) undef) (λho=>hloc i _ hR hg ho) k2 (by omega) (by simp) (λj y hj =>?_) (λj y t u hj ht =>?_) (λj y t u hj ht =>?_) (λj y t u hj ht =>?_);obtain⟨x,hx,_⟩:=get j y hj;rw[<-h1 j x y hx hj];exact k6.1 _ _ hx;obtain⟨x,v,_,_,_,_,e⟩:=cells j y t u hj ht;have:=cell_of k1 e;rw[<-this];congr 2;omega
   obtain⟨x,v,_,_,_,e,_⟩:=cells j y t u hj ht;exact e;obtain⟨x,v,_,_,e,_,_⟩:=cells j y t u hj ht;exact e
def SeenH(lv:Nat)(L:List (Option yz4))(R:Nat->Prop):OM->V->V->Prop
 |.el,v,u=>v.cells.length=u.cells.length∧∀(j:Nat) (a b:V),v.cells[j]? = some a->u.cells[j]? = some b->VH lv L R a b
 |.dat,v,u=>VH lv L R v u
 |.own _,v,u=>VH lv L R v u
theorem DO.seeH{R:Nat->Prop}{m:OM}{t:DTy}{x:t.S D.T}{v:V}{fp:List Nat}(h:DO D lv L m t x v fp):(∀i∈fp,R i)->∃u,DR D t x u∧SeenH lv L R m v u:=by
 induction h with
 |dat h=>exact λ_=>⟨_,h,.keep _⟩
 |nil h hv=>exact λ_=>⟨_,h,.keep _⟩
 | @own ty t xs j ver cp ws fps hL hl hf he ih=>
   intro hR
   obtain⟨us,e1,e2⟩:=z79 (Q:=λn u=>∀(x:t.S D.T) (w:V),xs[n]? = some x->ws[n]? = some w->DR D t x u∧w.cells.length=u.cells.length∧∀(j:Nat) (a b:V),w.cells[j]? = some a->u.cells[j]? = some b->VH lv L R a b) xs.length λn hn=>by
    have hc:fps[n]? = some (fps[n]'(by omega)):=Qab (show n<fps.length by omega);obtain⟨u,h1,h2⟩:=ih n _ _ _ (Qab hn) (Qab (show n<ws.length by omega)) hc (λi hi=>hR i (Qai _ (List.mem_flatten.2 ⟨_,Qax hc,hi⟩)));refine⟨u,λx w hx hw =>?_⟩
    rw[Qab hn]at hx;injection hx with hx;subst hx
    rw[Qab (show n<ws.length by omega)]at hw;injection hw with hw;subst hw
    exact⟨h1,h2⟩
   refine⟨.sl (D.len t) us false,.sl t xs us false e1 λn x u hx hu =>?_,?_⟩;have hn:=(Qaa.1 hx).1;exact(e2 n u hu x _ hx (Qab (show n<ws.length by omega))).1;refine .hs j ver ty (D.len t) ws.length false ws us cp (hR j Qak) hL (by omega) (λn w u hw hu =>?_) λn w u c a b hw hu ha hb =>?_
   have hn:=(Qaa.1 hw).1;exact(e2 n u hu _ w (Qab (show n<xs.length by omega)) hw).2.1;have hn:=(Qaa.1 hw).1
   exact(e2 n u hu _ w (Qab (show n<xs.length by omega)) hw).2.2 c a b ha hb
 | @el i x vs cs hl hc h ih=>
   intro hR
   obtain⟨us,e1,e2⟩:=z79 (Q:=λf u=>∀(p:(t:DTy)×t.S D.T) (w:V),HL.nth (D.fl i) (D.get i x) f=some p->vs[f]? = some w->DR D p.1 p.2 u∧VH lv L R w u) (D.fl i).length λf hf=>by
    obtain⟨p,hp,_⟩:=HL.z7o (D.fl i) (D.get i x) f hf;have hcf:cs[f]? = some (cs[f]'(by omega)):=Qab (show f<cs.length by omega);obtain⟨u,h1,h2⟩:=ih f p _ _ hp (Qab (show f<vs.length by omega)) hcf (λi hi=>hR i (List.mem_flatten.2 ⟨_,Qax hcf,hi⟩));refine⟨u,λp' w hp' hw =>?_⟩
    rw[hp]at hp';injection hp' with hp';subst hp'
    rw[Qab (show f<vs.length by omega)]at hw;injection hw with hw;subst hw
    refine⟨h1,?_⟩
    cases how:D.ow i f with
    |none=>rw[how]at h2;exact h2
    |some ty=>rw[how]at h2;exact h2
   refine⟨.agg us,.st i x us e1 λf p u hp hu =>?_,?_⟩;have hf:=(HL.z47 _ _ _ _ hp).1;exact(e2 f u hu p _ hp (Qab (show f<vs.length by omega))).1;refine⟨by show vs.length=us.length;omega,λf a b ha hb =>?_⟩;replace ha:vs[f]? = some a:=ha;replace hb:us[f]? = some b:=hb;have hf:=(Qaa.1 ha).1;obtain⟨p,hp,_⟩:=HL.z7o (D.fl i) (D.get i x) f (by omega)
   exact(e2 f b hb p a hp ha).2
 |elf ht h=>exact λ_=>⟨_,h,rfl,λj a b ha hb=>by rw[ha]at hb;injection hb with hb;subst hb;exact .keep _⟩
def zk1(L:List (Option yz4))(all:List Nat)(os:List (Nat×yz4)):List (Option yz4):=(List.range L.length).map λk=>if k∈all then none else match os.find? (λp=>p.1==k)with|some p=>some p.2|none=>(L[k]?).join
theorem zep(L:List (Option yz4))(all:List Nat)(os:List (Nat×yz4)):(zk1 L all os).length=L.length:=by simp[zk1]
theorem zek{L:List (Option yz4)}{all:List Nat}{os:List (Nat×yz4)}{k:Nat}(hk:k<L.length):(zk1 L all os)[k]? = some (if k∈all then none else match os.find? (λp=>p.1==k)with|some p=>some p.2|none=>(L[k]?).join):=by
 unfold zk1;rw[Qan,List.getElem?_range hk];rfl
theorem y1t{σ:St}{all:List Nat}{v r:V}(hd:σ.d=[])(hv:VH σ.H.lv σ.H.L (· ∈ all) v r){os os':List (Nat×yz4)}(h5:(os.map (·.1)).Nodup)(hos:FOL v r os os')(h4:∀p∈os,σ.H.L[p.1]? = some (some p.2)∧p.1∉all)
  {t':List V} (ht:FVL v r σ.t t') :
  zag σ ⟨t',⟨σ.H.lv,zk1 σ.H.L all os',σ.H.E⟩,[],σ.e0⟩∧(∀p'∈os',(zk1 σ.H.L all os')[p'.1]? = some (some p'.2))∧∀n,n<σ.H.L.length->n∉all->(∀p∈os,p.1≠n)->(zk1 σ.H.L all os')[n]? = σ.H.L[n]? := by
 have hnd:(os'.map (·.1)).Nodup:=by rw[hos.map];exact h5
 have hfind:∀p'∈os',os'.find? (λp=>p.1==p'.1)=some p':=λp' hp'=>by
  cases hq:os'.find? (λp=>p.1==p'.1)with
  |none=>rw[List.find?_eq_none]at hq;have:=hq p' hp';simp at this
  |some q=>
   have hq1:=List.find?_some hq;have hq2:=List.mem_of_find?_eq_some hq;simp at hq1;obtain⟨a,ha⟩:=List.mem_iff_getElem?.1 hp';obtain⟨b,hb⟩:=List.mem_iff_getElem?.1 hq2;have ha':(os'.map (·.1))[a]? = some p'.1:=by simp[ha]
   have hb':(os'.map (·.1))[b]? = some p'.1:=by simp[hb,hq1]
   have hlt:=(Qaa.1 ha').1;have:=(List.getElem?_inj hlt hnd).1 (ha'.trans hb'.symm);subst this;rw[ha]at hb;exact hb.symm
 have hfor:∀p'∈os',∃o,σ.H.L[p'.1]? = some (some o)∧p'.1∉all∧FO v r o p'.2:=λp' hp'=>by
  obtain⟨o,ho,hf⟩:=hos.mem p' hp';exact⟨o,(h4 _ ho).1,(h4 _ ho).2,hf⟩
 refine⟨?_,λp' hp' =>?_,λn hn hni hno =>?_⟩;refine zn9 (v:=v) (r:=r) (zep _ _ _) (λm o' hm =>?_) ht hd λW g hG hown hf c hc =>?_
 have hlt:m<σ.H.L.length:=by have:=(Qaa.1 hm).1;rw[zep]at this;exact this
 rw[zek hlt]at hm;injection hm with hm;split at hm;cases hm;split at hm;rename_i p hp;injection hm with hm;have hp1:=List.find?_some hp;simp at hp1;obtain⟨o,h1,_,h3⟩:=hfor p (List.mem_of_find?_eq_some hp);exact⟨o,by rw[<-hp1];exact h1,by rw[<-hm];exact h3⟩;refine⟨o',?_,.inl rfl⟩;rw[Qab hlt]at hm ⊢;simp at hm;rw[hm];refine VH.rel hG rfl rfl hf (λi o hi hget ⟨l,i',o',ho',hob⟩ =>?_) hv hc
 have hgot:∃o,σ.H.get l i'=some o∧o'.blk g l i'=o.blk g l i'∧¬(l=σ.H.lv∧i'∈all):=by
  unfold zz2.get at ho' ⊢;dsimp only at ho' ⊢;by_cases hl:l=σ.H.lv;rw[Qbr hl]at ho' ⊢
  cases hq:(zk1 σ.H.L all os')[i']? with
  |none=>rw[hq]at ho';simp at ho'
  |some q=>
   have hlt:i'<σ.H.L.length:=by have:=(Qaa.1 hq).1;rw[zep]at this;exact this
   rw[zek hlt]at ho';simp only[Option.join_some]at ho';split at ho';cases ho';rename_i hne;split at ho';rename_i p hp;injection ho' with ho';have hp1:=List.find?_some hp;simp at hp1;obtain⟨o,h1,_,h3⟩:=hfor p (List.mem_of_find?_eq_some hp);rw[hp1]at h1;exact⟨o,by rw[h1];rfl,by rw[<-ho'];exact h3.blk g l i',λe=>hne e.2⟩;exact⟨o',ho',rfl,λe=>hne e.2⟩
  rw[Qbs hl]at ho' ⊢;exact⟨o',ho',rfl,λe=>hl e.1⟩
 obtain⟨o2,w1,w2,w3⟩:=hgot;obtain⟨e1,e2⟩:=hG.inj _ _ _ _ _ _ w1 hget (by rw[<-w2];exact hob);exact w3 ⟨e1,by rw[e2];exact hi⟩;obtain⟨o,h1,h2,_⟩:=hfor p' hp';have hlt:=(Qaa.1 h1).1;rw[zek hlt,Qbs h2,hfind p' hp'];rw[zek hn,Qbs hni]
 have:os'.find? (λp=>p.1==n)=none:=by
  rw[List.find?_eq_none];intro p hp;have:p.1∈os.map (·.1):=by rw[<-hos.map];exact List.mem_map_of_mem hp
  obtain⟨q,hq,hqn⟩:=Qbd.1 this;have:=hno q hq;simp;omega
 rw[this,Qab hn];rfl
end
section
variable {P : Program} {D : Dat} {F : Fr} {ρ : List Slot} {ts : TS D.T} {σ : St} {lv : Nat}
mutual
theorem y01{s:Nat}{m:Bool}{z:TV D.T}{v0 r:V}(h1:∀v,VR D ρ lv (match m with|true=>TV.map s|false=>TV.own s) v->v=v0)(hr:VR D ρ lv z r):∀{x:TV D.T}{v:V},VR D ρ lv x v->∃v',FV v0 r v v'∧VR D ρ lv (TV.frz D s m z x) v'
 |.own j,v,h=>by
  cases m with
  |true=>exact⟨v,.keep _,by simpa only[TV.frz]using h⟩
  |false=>
   simp only[TV.frz];split;rename_i hj;subst hj;obtain rfl:=h1 v h;exact⟨r,.it,hr⟩
   exact⟨v,.keep _,h⟩
 |.map j,v,h=>by
  cases m with
  |false=>exact⟨v,.keep _,by simpa only[TV.frz]using h⟩
  |true=>
   simp only[TV.frz];split;rename_i hj;subst hj;obtain rfl:=h1 v h;exact⟨r,.it,hr⟩
   exact⟨v,.keep _,h⟩
 |.agg cs,v,h=>by
  simp only[TV.frz,VR]at h ⊢;obtain⟨vs,rfl,k2⟩:=h;obtain⟨us,q1,q2⟩:=zhi h1 hr k2
  exact⟨.agg us,.agg' q1,us,rfl,q2⟩
 |.tup cs,v,h=>by
  simp only[TV.frz,VR]at h ⊢;obtain⟨vs,rfl,k2⟩:=h;obtain⟨us,q1,q2⟩:=zhi h1 hr k2
  exact⟨.tup us,.y2v q1,us,rfl,q2⟩
 |.dp j i off,v,h=>⟨v,.keep _,by simpa only[TV.frz]using h⟩
 |.bsl q cs,v,h=>⟨v,.keep _,by simp only[TV.frz,VR]⟩
 |.any,v,h=>⟨v,.keep _,by simpa only[TV.frz]using h⟩
 |.bool b,v,h=>⟨v,.keep _,by simpa only[TV.frz]using h⟩
 |.int k n,v,h=>⟨v,.keep _,by simpa only[TV.frz]using h⟩
 |.str b,v,h=>⟨v,.keep _,by simpa only[TV.frz]using h⟩
 |.nilp,v,h=>⟨v,.keep _,by simpa only[TV.frz]using h⟩
 |.nils,v,h=>⟨v,.keep _,by simpa only[TV.frz]using h⟩
 |.mapn,v,h=>⟨v,.keep _,by simpa only[TV.frz]using h⟩
 |.nilf,v,h=>⟨v,.keep _,by simpa only[TV.frz]using h⟩
 |.nili,v,h=>⟨v,.keep _,by simpa only[TV.frz]using h⟩
 |.sl t' ys fl,v,h=>⟨v,.keep _,by simpa only[TV.frz]using h⟩
 |.ptr j off,v,h=>⟨v,.keep _,by simpa only[TV.frz]using h⟩
 |.bp j off,v,h=>⟨v,.keep _,by simpa only[TV.frz]using h⟩
 |.osl j lo,v,h=>⟨v,.keep _,by simpa only[TV.frz]using h⟩
 |.mc t' es,v,h=>⟨v,.keep _,by simpa only[TV.frz]using h⟩
 |.ref cs off,v,h=>⟨v,.keep _,by simpa only[TV.frz]using h⟩
 |.ap j t' i x off,v,h=>⟨v,.keep _,by simpa only[TV.frz]using h⟩
 |.fn f a b,v,h=>⟨v,.keep _,by simpa only[TV.frz]using h⟩
 |.iface t' x,v,h=>⟨v,.keep _,by simpa only[TV.frz]using h⟩
theorem zhi{s:Nat}{m:Bool}{z:TV D.T}{v0 r:V}(h1:∀v,VR D ρ lv (match m with|true=>TV.map s|false=>TV.own s) v->v=v0)(hr:VR D ρ lv z r):∀{cs:List (TV D.T)}{vs:List V},VRL D ρ lv cs vs->∃us,FVL v0 r vs us∧VRL D ρ lv (TV.zwa D s m z cs) us
 |[],vs,h=>by simp only[TV.zwa,VRL]at h ⊢;subst h;exact⟨[],.nil,rfl⟩
 |c::cs,vs,h=>by
  simp only[TV.zwa,VRL]at h ⊢;obtain⟨v,q,rfl,k2,k3⟩:=h;obtain⟨v',a1,a2⟩:=y01 h1 hr k2;obtain⟨us,b1,b2⟩:=zhi h1 hr k3;exact⟨v'::us,.cons a1 b1,v',us,rfl,a2,b2⟩
end
theorem zus(s:Nat)(m:Bool)(z:TV D.T):∀cs:List (TV D.T),TV.zwa D s m z cs=cs.map (TV.frz D s m z)
 |[]=>rfl
 |c::cs=>by simp only[TV.zwa,List.map_cons,zus s m z cs]
theorem zgv{s:Nat}{m:Bool}{z:TV D.T}{v0 r:V}(h1:∀v,VR D ρ lv (match m with|true=>TV.map s|false=>TV.own s) v->v=v0)(hr:VR D ρ lv z r)(f:Nat->Option (TV D.T)):∀(l:List V) (k:Nat),(∀j x v,f (k+j)=some x->l[j]? = some v->VR D ρ lv x v) ->
  ∃l',FVL v0 r l l'∧∀j x v,f (k+j)=some x->l'[j]? = some v->VR D ρ lv (TV.frz D s m z x) v
 |[],k,h=>⟨[],.nil,λj x v _ hv=>by simp at hv⟩
 |u::l,k,h=>by
  obtain⟨l',a1,a2⟩:=zgv h1 hr f l (k+1) λj x v hx hv=>h (j+1) x v (by rw[<-hx];congr 1;omega) (by simpa using hv)
  cases hf:f k with
  |none=>
   refine⟨u::l',.cons (.keep _) a1,λj x v hx hv =>?_⟩
   cases j with
   |zero=>rw[Nat.add_zero,hf]at hx;cases hx
   |succ j=>exact a2 j x v (by rw[<-hx];congr 1;omega) (by simpa using hv)
  |some y=>
   obtain⟨u',b1,b2⟩:=y01 h1 hr (h 0 y u (by simpa using hf) rfl);refine⟨u'::l',.cons b1 a1,λj x v hx hv =>?_⟩
   cases j with
   |zero=>rw[Nat.add_zero,hf]at hx;injection hx with hx;subst hx;simp at hv;subst hv;exact b2
   |succ j=>exact a2 j x v (by rw[<-hx];congr 1;omega) (by simpa using hv)
theorem zhx(hR:TRr D F ρ ts σ){s:Nat}{m:Bool}{z:TV D.T}{v0 r:V}(hz:∀q,z ≠ .own q)(h1:∀v,VR D ρ F.lv (match m with|true=>TV.map s|false=>TV.own s) v->v=v0)(hr:VR D ρ F.lv z r):∀n:Nat,∃os os':List (Nat×yz4),FOL v0 r os os'∧(os.map (·.1)).Nodup ∧
  (∀p∈os,σ.H.L[p.1]? = some (some p.2)∧∃s' o sl',s'<n∧s'≠s∧fnd ts.o s'=some o∧o.live∧ρ[s']? = some sl'∧sl'.k=some p.1) ∧
  ∀s' o sl' i,s'<n->s'≠s->fnd ts.o s'=some o->o.live->ρ[s']? = some sl'->sl'.k=some i->∃ao,(i,ao)∈os'∧∀L',L'[i]? = some (some ao)->(∀j∈sl'.fp,L'[j]? = σ.H.L[j]?)->OR D ρ F.lv L' sl' (TO.map D (TV.frz D s m z) o)
 |0=>⟨[],[],.refl _,by simp,by simp,λs' o sl' i h=>by omega⟩
 |n+1=>by
  obtain⟨os,os',a1,a2,a3,a4⟩:=zhx hR hz h1 hr n
  have skip:(∀o sl' i,n≠s->fnd ts.o n=some o->o.live->ρ[n]? = some sl'->sl'.k=some i->False)->∃os os':List (Nat×yz4),FOL v0 r os os'∧(os.map (·.1)).Nodup ∧
    (∀p∈os,σ.H.L[p.1]? = some (some p.2)∧∃s' o sl',s'<n+1∧s'≠s∧fnd ts.o s'=some o∧o.live∧ρ[s']? = some sl'∧sl'.k=some p.1) ∧
    ∀s' o sl' i,s'<n+1->s'≠s->fnd ts.o s'=some o->o.live->ρ[s']? = some sl'->sl'.k=some i->∃ao,(i,ao)∈os'∧∀L',L'[i]? = some (some ao)->(∀j∈sl'.fp,L'[j]? = σ.H.L[j]?)->OR D ρ F.lv L' sl' (TO.map D (TV.frz D s m z) o):=λhno=>
   ⟨os,os',a1,a2,λp hp=>by obtain⟨b1,s',o,sl',b2,b3⟩:=a3 p hp;exact⟨b1,s',o,sl',by omega,b3⟩,λs' o sl' i c1 c2 c3 c4 c5 c6=>by
     by_cases e:s'=n;subst e;exact(hno o sl' i c2 c3 c4 c5 c6).elim
     exact a4 s' o sl' i (by omega) c2 c3 c4 c5 c6⟩
  by_cases hns:n=s;exact skip λo sl' i hne=>(hne hns).elim
  ·cases ho:fnd ts.o n with
   |none=>exact skip λo sl' i _ h=>by rw[ho]at h;cases h
   |some o=>
    obtain⟨sl',k1,k2⟩:=hR.ob n o ho;by_cases hl:o.live
    ·cases hk:sl'.k with
     |none=>exact skip λo' sl2 i _ h hl' h2 h3=>by rw[k1]at h2;injection h2 with h2;subst h2;rw[hk]at h3;cases h3
     |some i=>
      obtain⟨a,ha⟩:=k2.at hl hk
      have hfresh:i∉os.map (·.1):=λhm=>by
       obtain⟨p,hp,hpi⟩:=Qbd.1 hm;obtain⟨b1,s',o',sl2,b2,b3,b4,b5,b6,b7⟩:=a3 p hp;have:=hR.inj n s' o o' sl' sl2 i ho b4 hl b5 k1 b6 (.inl hk) (.inl (by rw[b7,hpi]));omega
      have step:∀a':yz4,FO v0 r a a'->(∀L':List (Option yz4),L'[i]? = some (some a')->(∀j∈sl'.fp,L'[j]? = σ.H.L[j]?)->OR D ρ F.lv L' sl' (TO.map D (TV.frz D s m z) o))->∃os os':List (Nat×yz4),FOL v0 r os os'∧(os.map (·.1)).Nodup ∧
        (∀p∈os,σ.H.L[p.1]? = some (some p.2)∧∃s' o sl',s'<n+1∧s'≠s∧fnd ts.o s'=some o∧o.live∧ρ[s']? = some sl'∧sl'.k=some p.1) ∧
        ∀s' o sl' i,s'<n+1->s'≠s->fnd ts.o s'=some o->o.live->ρ[s']? = some sl'->sl'.k=some i->∃ao,(i,ao)∈os'∧∀L',L'[i]? = some (some ao)->(∀j∈sl'.fp,L'[j]? = σ.H.L[j]?)->OR D ρ F.lv L' sl' (TO.map D (TV.frz D s m z) o):=λa' hfo hor=>
       ⟨(i,a)::os,(i,a')::os',.cons hfo a1,by simp only[List.map_cons,List.nodup_cons];exact⟨hfresh,a2⟩,λp hp=>by
         rcases Qbi.1 hp with rfl|hp
         exact⟨ha,n,o,sl',by omega,hns,ho,hl,k1,hk⟩
         obtain⟨b1,s',o,sl',b2,b3⟩:=a3 p hp;exact⟨b1,s',o,sl',by omega,b3⟩,λs' o2 sl2 i2 c1 c2 c3 c4 c5 c6=>by
         by_cases e:s'=n;subst e
         rw[ho]at c3;injection c3 with c3;subst c3
         rw[k1]at c5;injection c5 with c5;subst c5
         rw[hk]at c6;injection c6 with c6;subst c6
         exact⟨a',Qak,hor⟩;obtain⟨ao,d1,d2⟩:=a4 s' o2 sl2 i2 (by omega) c2 c3 c4 c5 c6
         exact⟨ao,Qai _ d1,d2⟩⟩
      cases o with
      |cells cs=>
       simp only[OR]at k2;obtain⟨i',vs,e1,e2,e3⟩:=k2
       rw[hk]at e1;injection e1 with e1;subst e1
       rw[ha]at e2;injection e2 with e2;injection e2 with e2;subst e2
       obtain⟨us,f1,f2⟩:=zhi h1 hr e3;rw[zus]at f2
       exact step (.cells us) (.inr ⟨vs,us,rfl,rfl,f1⟩) λL' hL' hL2=>by simp only[TO.map,OR];exact⟨i,us,hk,hL',f2⟩
      |acc ty' t' xs' w'=>
       have:=k2;refine step a (.inl rfl) λL' hL' hL2 =>?_
       simp only[OR,hk]at k2;simp only[TO.map,OR,hk];obtain⟨e1,e2,ver,cp,e3,e4⟩:=k2;rw[ha]at e4
       exact⟨e1,e2,ver,cp,e3,hL'.trans e4⟩
      |rig=>simp only[OR]at k2;rw[k2.1]at hk;cases hk
      |siter l pos=>
       refine step a (.inl rfl) λL' hL' hL2 =>?_
       simp only[OR]at k2;simp only[TO.map,OR];obtain⟨i',e1,e2⟩:=k2
       rw[hk]at e1;injection e1 with e1;subst e1
       rw[ha]at e2
       exact⟨i,hk,hL'.trans e2⟩
      |mp ty' t' es'=>
       refine step a (.inl rfl) λL' hL' hL2 =>?_
       simp only[OR]at k2;simp only[TO.map,OR];obtain⟨i',ms,e1,e0,e3,e2⟩:=k2
       rw[hk]at e1;injection e1 with e1;subst e1
       rw[ha]at e2
       exact⟨i,ms,hk,e0,e3,hL'.trans e2⟩
      |mit t' last es'=>
       refine step a (.inl rfl) λL' hL' hL2 =>?_
       simp only[OR]at k2;simp only[TO.map,OR];obtain⟨i',fs,vis,e1,e0,e2,e3⟩:=k2
       rw[hk]at e1;injection e1 with e1;subst e1
       rw[ha]at e2
       exact⟨i,fs,vis,hk,e0,hL'.trans e2,e3⟩
      |bld ty' b'=>
       refine step a (.inl rfl) λL' hL' hL2 =>?_
       simp only[OR]at k2;obtain⟨i',u,c,e1,e2,e3,e4⟩:=k2
       rw[hk]at e1;injection e1 with e1;subst e1
       rw[ha]at e2
       cases b' with
       |none=>simp only[TO.map,OR];exact⟨i,u,c,hk,hL'.trans e2,e3,e4⟩
       |some q=>
        cases m with
        |true=>simp only[TO.map,TV.frz,OR];exact⟨i,u,c,hk,hL'.trans e2,e3,e4⟩
        |false=>
         simp only[TO.map,TV.frz];by_cases hq:q=s
         ·rw[Qbr hq];cases z <;> simp only[OR]
          case own q'=>exact(hz q' rfl).elim
         rw[Qbs hq];simp only[OR];exact⟨i,u,c,hk,hL'.trans e2,e3,e4⟩
      |gone=>exact hl.elim
      |deep ty' q' xs' h'=>
       have hsame:∀L':List (Option yz4),L'[i]? = some (some a)->(∀j∈sl'.fp,L'[j]? = σ.H.L[j]?)->OR D ρ F.lv L' sl' (.deep ty' q' xs' h'):=λL' hL' hL2=>by
        have:=k2.mono (L':=L') [] λj hj _=>by
         rcases hj with hj|hj
         rw[hk]at hj;injection hj with hj;subst hj;exact hL'.trans ha.symm
         exact hL2 j hj
        simpa using this
       refine step a (.inl rfl) λL' hL' hL2 =>?_
       cases h' with
       |none=>exact hsame L' hL' hL2
       |some p=>
        obtain⟨n',c',s0⟩:=p;simp only[TO.map]
        cases m with
        |true=>simp only[TV.frz];exact hsame L' hL' hL2
        |false=>
         simp only[TV.frz];by_cases hq:s0=s
         ·rw[Qbr hq];cases z <;> simp only[OR]
          case own q'=>exact(hz q' rfl).elim
         rw[Qbs hq];exact hsame L' hL' hL2
    exact skip λo' sl2 i _ h hl'=>by rw[ho]at h;injection h with h;subst h;exact(hl hl').elim
theorem zna(hR:TRr D F ρ ts σ){s:Nat}{m:Bool}{z:TV D.T}(hz:∀q,z ≠ .own q){v0 r:V}{sl:Slot}(k1:ρ[s]? = some sl)(hd0:ts.d=[]){os':List (Nat×yz4)}
  (a4:∀s' o sl' i,s'<ts.nx->s'≠s->fnd ts.o s'=some o->o.live->ρ[s']? = some sl'->sl'.k=some i->∃ao,(i,ao)∈os'∧∀L',L'[i]? = some (some ao)->(∀j∈sl'.fp,L'[j]? = σ.H.L[j]?)->OR D ρ F.lv L' sl' (TO.map D (TV.frz D s m z) o))
  {t':List V} (c1:FVL v0 r σ.t t') (c2:∀j x v,fnd ts.t (0+j)=some x->t'[j]? = some v->VR D ρ F.lv (TV.frz D s m z x) v) {L':List (Option yz4)}(d1:∀p'∈os',L'[p'.1]? = some (some p'.2)) (d3:L'.length=σ.H.L.length) (d4:∀i,F.out i->L'[i]? = σ.H.L[i]?) (d5:∀s' o sl' i,s'≠s->fnd ts.o s'=some o->o.live->ρ[s']? = some sl'->i∈sl'.fp->L'[i]? = σ.H.L[i]?) :
  TRr D F ρ {ts.z3p D (TV.frz D s m z)with o:=(s,TO.gone)::(ts.z3p D (TV.frz D s m z)).o} ⟨t',⟨F.lv,L',σ.H.E⟩,[],σ.e0⟩:=by
 have hob:∀s' o,fnd ((s,TO.gone)::(ts.z3p D (TV.frz D s m z)).o) s'=some o->(s'=s∧o = .gone)∨(s'≠s∧∃o',fnd ts.o s'=some o'∧o=TO.map D (TV.frz D s m z) o'):=λs' o h=>by
  rw[yz6]at h;split at h
  rename_i e;injection h with h;exact .inl ⟨e.symm,h.symm⟩
  rename_i e;simp only[TS.z3p]at h;rw[z8b (TO.map D (TV.frz D s m z)),Qaf]at h;obtain⟨o',h1,h2⟩:=h;exact .inr ⟨λe'=>e e'.symm,o',h1,h2.symm⟩
 have hlive:∀o:TO D.T,(TO.map D (TV.frz D s m z) o).live->o.live:=λo h=>by cases o <;> first|exact h|trivial
 have old:∀s' o,fnd ((s,TO.gone)::(ts.z3p D (TV.frz D s m z)).o) s'=some o->o.live->s'≠s∧∃o',fnd ts.o s'=some o'∧o'.live∧o=TO.map D (TV.frz D s m z) o':=λs' o h hl=>by
  rcases hob s' o h with ⟨_,rfl⟩|⟨h1,o',h2,rfl⟩
  exact hl.elim;exact⟨h1,o',h2,hlive o' hl,rfl⟩
 refine⟨hR.nx,c1.length.symm.trans hR.nt,λj x hj =>?_,λs' o h =>?_,λs1 s2 o1 o2 sl1 sl2 i h1 h2 l1 l2 r1 r2 =>?_,λs1 o1 sl1 i h1 l1 r1 =>?_,rfl,hR.E,hR.e0,(by simp only[TS.z3p,hd0,List.map_nil];rfl),λi hi =>?_,hR.pin,λs1 o1 sl1 i h1 l1 r1 k1 =>?_,λi s1 v h1 h2=>zyv (f:=TV.frz D s m z) (λs0 s' e u hu=>by
  cases m with
  |true=>simp only[TV.frz,TV.own.injEq]at e;subst e;exact hu
  |false=>
   simp only[TV.frz]at e;split at e;exact(hz _ e).elim
   simp only[TV.own.injEq]at e;subst e;exact hu) (λs0 e=>hR.g i s0 v e h2) h1⟩
 simp only[TS.z3p]at hj;rw[z8b (TV.frz D s m z),Qaf]at hj;obtain⟨y,hy,rfl⟩:=hj;obtain⟨u,e1,e2⟩:=hR.tm j y hy;have hlt:j<t'.length:=by rw[<-c1.length];exact(Qaa.1 e1).1
 exact⟨t'[j],Qab hlt,c2 j y _ (by simpa using hy) (Qab hlt)⟩
 rcases hob s' o h with ⟨rfl,rfl⟩|⟨h1,o',h2,rfl⟩
 exact⟨sl,k1,by simp only[OR]⟩;obtain⟨sl',m1,m2⟩:=hR.ob s' o' h2;refine⟨sl',m1,?_⟩;by_cases hl:o'.live
 cases hk:sl'.k with
 |some i=>
  obtain⟨ao,n1,n2⟩:=a4 s' o' sl' i (by rw[<-hR.nx];exact(Qaa.1 m1).1) h1 h2 hl m1 hk
  exact n2 L' (d1 _ n1) λj hj=>d5 s' o' sl' j h1 h2 hl m1 hj
 |none=>
  cases o' with
  |cells cs=>simp only[OR]at m2;obtain⟨i,_,e,_⟩:=m2;rw[hk]at e;cases e
  |acc ty' t'' xs' w'=>simp only[OR,hk]at m2;simp only[TO.map,OR,hk];exact m2
  |siter l pos=>simp only[OR]at m2;obtain⟨i,e,_⟩:=m2;rw[hk]at e;cases e
  |rig=>exact m2
  |mp ty' t' es'=>simp only[OR]at m2;obtain⟨i,_,e,_⟩:=m2;rw[hk]at e;cases e
  |mit t' last es'=>simp only[OR]at m2;obtain⟨i,_,_,e,_⟩:=m2;rw[hk]at e;cases e
  |bld ty' b'=>simp only[OR]at m2;obtain⟨i,_,_,e,_⟩:=m2;rw[hk]at e;cases e
  |gone=>simp only[TO.map,OR]
  |deep ty' q' xs' h'=>
   simp only[OR,hk]at m2;obtain⟨e1,e2,e3,e4,rfl⟩:=m2;simp only[TO.map,OR,hk];exact⟨e1,e2,e3,e4,trivial⟩
 cases o' with
 |gone=>simp only[TO.map,OR]
 |_=>exact(hl trivial).elim
 obtain⟨_,o1',e1,f1,_⟩:=old s1 o1 h1 l1;obtain⟨_,o2',e2,f2,_⟩:=old s2 o2 h2 l2;exact hR.inj s1 s2 o1' o2' sl1 sl2 i e1 e2 f1 f2 r1 r2;obtain⟨_,o1',e1,f1,_⟩:=old s1 o1 h1 l1;exact hR.mine s1 o1' sl1 i e1 f1 r1;obtain⟨h1,h2⟩:=hR.out i hi;exact⟨by show i<L'.length;rw[d3];exact h1,(d4 i hi).trans h2⟩;obtain⟨hne,o1',e1,f1,_⟩:=old s1 o1 h1 l1;have hq:=hR.fpl s1 o1' sl1 i e1 f1 r1 k1
 exact⟨hq.1,by show ∃a,L'[i]? = _;rw[d5 s1 o1' sl1 i hne e1 f1 r1 k1];exact hq.2⟩
theorem zh9(hD:D.Ok P){s:Nat}{ts':TS D.T}(hR:TRr D F ρ ts σ)(h:ts.freeze D s=some ts'):∃τ,zag σ τ∧TRr D F ρ ts' τ:=by
 unfold TS.freeze at h;split at h;rename_i ty t xs w hd0 ho;injection h with h;subst h;have hd1:σ.d=[]:=by have:=hR.d;rw[hd0]at this;exact this
 obtain⟨sl,k1,k2⟩:=hR.ob s _ ho;have hor:=k2;simp only[OR]at k2;obtain⟨q1,q2,q3⟩:=k2;have hsn:s<ρ.length:=(Qaa.1 k1).1
 have hr:VR D ρ F.lv (.sl t xs 0) (.sl (D.len t) sl.ws false):=by
  simp only[VR];exact⟨.sl t xs sl.ws false q1 q2,by omega,by omega⟩
 obtain⟨os,os',a1,a2,a3,a4⟩:=zhx hR (s:=s) (m:=false) (z:=.sl t xs 0) (v0:=sl.v) (λq h=>by cases h) (λv h=>by
  simp only[VR]at h;obtain⟨q,e1,e2,_⟩:=h;rw[k1]at e1;injection e1 with e1;subst e1;exact e2) hr ts.nx
 have hacc:z30 F.lv σ.H.L [⟨ty,D.len t,sl.v,sl.ws,w⟩] os:=by
  refine⟨⟨[sl.k],rfl,λj k a hj ha =>?_,λi j n hi hj =>?_,λp hp=>⟨(a3 p hp).1,λj hj =>?_⟩⟩,a2⟩
  cases j with
  |zero=>
   simp at hj ha;subst hj;subst ha
   cases hk:sl.k with
   |none=>rw[hk]at q3;exact q3.imp id λq=>⟨q.1.1,q.2⟩
   |some i=>rw[hk]at q3;obtain⟨ver,cp,e1,e2⟩:=q3;exact⟨ver,cp,e1,e2⟩
  |succ j=>simp at hj
  cases i <;> cases j <;> simp at hi hj <;> rfl
  obtain⟨_,s',o,sl',b2,b3,b4,b5,b6,b7⟩:=a3 p hp
  cases j with
  |zero=>
   simp at hj
   exact b3 (hR.inj s' s o _ sl' sl p.1 b4 ho b5 trivial b6 k1 (.inl b7) (.inl hj))
  |succ j=>simp at hj
 obtain⟨t',c1,c2⟩:=zgv (s:=s) (m:=false) (z:=.sl t xs 0) (v0:=sl.v) (λv h=>by
  simp only[VR]at h;obtain⟨q,e1,e2,_⟩:=h;rw[k1]at e1;injection e1 with e1;subst e1;exact e2) hr (fnd ts.t) σ.t 0 λj x v hx hv=>by
  obtain⟨u,e1,e2⟩:=hR.tm j x (by simpa using hx)
  rw[hv]at e1;injection e1 with e1;subst e1;exact e2
 obtain⟨L',⟨d1,d2⟩,d3,d4⟩:=hacc.zyq (j:=0) rfl c1 a1 σ.H.E σ.e0
 have hσ:σ=⟨σ.t,⟨F.lv,σ.H.L,σ.H.E⟩,[],σ.e0⟩:=by
  have e1:=hR.lv;have e2:=hd1;obtain⟨t,⟨l,L,E⟩,d,e0⟩:=σ;simp only at e1 e2;subst e1;subst e2;rfl
 rw[<-hσ]at d2;refine⟨_,d2,?_⟩
 have hfp:∀s' o sl' i,s'≠s->fnd ts.o s'=some o->o.live->ρ[s']? = some sl'->i∈sl'.fp->L'[i]? = σ.H.L[i]? := λs' o' sl' i hne ho' hl' hs' hi=>by
  obtain⟨f1,f2⟩:=hR.fpl s' o' sl' i ho' hl' hs' hi;refine d4 i (hR.lt ho' hl' hs' (.inr hi)) (λp hp e =>?_) λver n e =>?_
  obtain⟨_,s2,o2,sl2,b2,b3,b4,b5,b6,b7⟩:=a3 p hp;have:=hR.inj s2 s' o2 o' sl2 sl' i b4 ho' b5 hl' b6 hs' (.inl (by rw[b7,e])) (.inr hi);subst this
  rw[hs']at b6;injection b6 with b6;subst b6
  exact f1 (by rw[b7,e])
  cases hk:sl.k with
  |none=>rw[hk]at q3;rcases q3 with ⟨q,_⟩|⟨⟨q,_⟩,_⟩ <;> (rw[e]at q;cases q)
  |some j=>
   rw[hk]at q3;obtain⟨ver',cp,q,_⟩:=q3
   rw[e]at q;injection q with _ q;subst q
   exact hne (hR.inj s' s o' _ sl' sl i ho' ho hl' trivial hs' k1 (.inr hi) (.inl hk))
 refine zna hR (λq h=>by cases h) k1 hd0 a4 c1 c2 (λp' hp'=>d1.accs.get (by exact hp')) d3 (λi hi =>?_) hfp;refine d4 i (hR.out i hi).1 (λp hp e =>?_) λver n e =>?_
 obtain⟨_,s',o,sl',b2,b3,b4,b5,b6,b7⟩:=a3 p hp;exact hR.mine s' o sl' i b4 b5 b6 (.inl (by rw[b7,e])) hi
 cases hk:sl.k with
 |none=>rw[hk]at q3;rcases q3 with ⟨q,_⟩|⟨⟨q,_⟩,_⟩ <;> (rw[e]at q;cases q)
 |some j=>
  rw[hk]at q3;obtain⟨ver',cp,q,_⟩:=q3
  rw[e]at q;injection q with _ q;subst q
  exact hR.mine s _ sl i ho trivial k1 (.inl hk) hi
 rename_i ty q xs hd0 ho;injection h with h;subst h;have hd1:σ.d=[]:=by have:=hR.d;rw[hd0]at this;exact this
 obtain⟨sl,k1,k2⟩:=hR.ob s _ ho;obtain⟨u,u1,u2⟩:=(zsu k2).seeH (R:=(· ∈ sl.all)) (λi hi=>hi)
 have hr:VR D ρ F.lv (.sl (.st q) xs 0) u:=by
  simp only[VR];exact⟨u1,by omega,by omega⟩
 have hit:∀v,VR D ρ F.lv (match false with|true=>TV.map s|false=>TV.own s:TV D.T) v->v=sl.v:=λv h=>by
  simp only[VR]at h;obtain⟨q,e1,e2,_⟩:=h;rw[k1]at e1;injection e1 with e1;subst e1;exact e2
 obtain⟨os,os',a1,a2,a3,a4⟩:=zhx hR (s:=s) (m:=false) (z:=.sl (.st q) xs 0) (v0:=sl.v) (λq h=>by cases h) hit hr ts.nx
 obtain⟨t',c1,c2⟩:=zgv (s:=s) (m:=false) (z:=.sl (.st q) xs 0) (v0:=sl.v) hit hr (fnd ts.t) σ.t 0 λj x v hx hv=>by
  obtain⟨u,e1,e2⟩:=hR.tm j x (by simpa using hx)
  rw[hv]at e1;injection e1 with e1;subst e1;exact e2
 have hu2:VH σ.H.lv σ.H.L (· ∈ sl.all) sl.v u:=by rw[hR.lv];exact u2
 obtain⟨d1,d2,d3⟩:=y1t hd1 hu2 a2 a1 (λp hp=>⟨(a3 p hp).1,λhm=>by
  obtain⟨_,s',o,sl',b2,b3,b4,b5,b6,b7⟩:=a3 p hp
  exact b3 (hR.inj s' s o _ sl' sl p.1 b4 ho b5 trivial b6 k1 (.inl b7) (Slot.zes.1 hm))⟩) c1
 rw[hR.lv]at d1;refine⟨_,d1,?_⟩
 have hfp:∀s' o sl' n,s'≠s->fnd ts.o s'=some o->o.live->ρ[s']? = some sl'->n∈sl'.fp->_:=λs' o' sl' n hne ho' hl' hs' hi=>by
  obtain⟨f1,f2⟩:=hR.fpl s' o' sl' n ho' hl' hs' hi;refine d3 n (hR.lt ho' hl' hs' (.inr hi)) (λhm =>?_) λp hp e =>?_
  exact hne (hR.inj s' s o' _ sl' sl n ho' ho hl' trivial hs' k1 (.inr hi) (Slot.zes.1 hm));obtain⟨_,s2,o2,sl2,b2,b3,b4,b5,b6,b7⟩:=a3 p hp;have:=hR.inj s2 s' o2 o' sl2 sl' n b4 ho' b5 hl' b6 hs' (.inl (by rw[b7,e])) (.inr hi);subst this
  rw[hs']at b6;injection b6 with b6;subst b6
  exact f1 (by rw[b7,e])
 refine zna hR (λq h=>by cases h) k1 hd0 a4 c1 c2 d2 (zep _ _ _) (λn hn =>?_) hfp;refine d3 n (hR.out n hn).1 (λhm =>?_) λp hp e =>?_
 exact hR.mine s _ sl n ho trivial k1 (Slot.zes.1 hm) hn;obtain⟨_,s',o,sl',b2,b3,b4,b5,b6,b7⟩:=a3 p hp;exact hR.mine s' o sl' n b4 b5 b6 (.inl (by rw[b7,e])) hn
 ·rename_i ty t es hd0 ho;split at h
  case isFalse=>cases h
  rename_i hfl;injection h with h;subst h;have hd1:σ.d=[]:=by have:=hR.d;rw[hd0]at this;exact this
  obtain⟨sl,k1,k2⟩:=hR.ob s _ ho;simp only[OR]at k2;obtain⟨i,ms,q1,q2',q4,q3⟩:=k2;have q2:=hfl;have hr:VR D ρ F.lv (.mc t es) (.mapc (es.map λp=>(.str p.1,zkq t p.2))):=by unfold VR;exact⟨q2,rfl⟩
  have hit:∀v,VR D ρ F.lv (match true with|true=>TV.map s|false=>TV.own s:TV D.T) v->v = .map F.lv i:=λv h=>by
   simp only[VR]at h;obtain⟨q,i',e1,e2,e3⟩:=h;rw[k1]at e1;injection e1 with e1;subst e1;rw[q1]at e2;injection e2 with e2;subst e2;exact e3
  obtain⟨os,os',a1,a2,a3,a4⟩:=zhx hR (s:=s) (m:=true) (z:=.mc t es) (λq h=>by cases h) hit hr ts.nx
  obtain⟨t',c1,c2⟩:=zgv (s:=s) (m:=true) (z:=.mc t es) hit hr (fnd ts.t) σ.t 0 λj x v hx hv=>by
   obtain⟨u,e1,e2⟩:=hR.tm j x (by simpa using hx)
   rw[hv]at e1;injection e1 with e1;subst e1;exact e2
  rw[<-hR.lv]at a1 c1
  have q3':σ.H.L[i]? = some (some (.map ((es.map λp=>((.str p.1:PV),zkq t p.2)).map λp=>(p.1.v,p.2.v)))):=by
   rw[q3,List.map_map,q2',List.map_map]
   congr 3
   exact List.map_congr_left λp hp=>by show _=(V.str p.1,(zkq t p.2.1).v);rw[y7t D q2,DR.flat q2 (q4 p hp)]
  obtain⟨d1,d2,d3⟩:=y1v q3' hd1 a2 a1 (λp hp=>⟨(a3 p hp).1,λe=>by
   obtain⟨_,s',o,sl',b2,b3,b4,b5,b6,b7⟩:=a3 p hp
   exact b3 (hR.inj s' s o _ sl' sl p.1 b4 ho b5 trivial b6 k1 (.inl b7) (.inl (by rw[e];exact q1)))⟩) c1
  rw[hR.lv]at d1;refine⟨_,d1,?_⟩
  have hfp:∀s' o sl' n,s'≠s->fnd ts.o s'=some o->o.live->ρ[s']? = some sl'->n∈sl'.fp->_:=λs' o' sl' n hne ho' hl' hs' hi=>by
   obtain⟨f1,f2⟩:=hR.fpl s' o' sl' n ho' hl' hs' hi;refine d3 n (hR.lt ho' hl' hs' (.inr hi)) (λe =>?_) λp hp e =>?_
   subst e;exact hne (hR.inj s' s o' _ sl' sl n ho' ho hl' trivial hs' k1 (.inr hi) (.inl q1));obtain⟨_,s2,o2,sl2,b2,b3,b4,b5,b6,b7⟩:=a3 p hp;have:=hR.inj s2 s' o2 o' sl2 sl' n b4 ho' b5 hl' b6 hs' (.inl (by rw[b7,e])) (.inr hi);subst this
   rw[hs']at b6;injection b6 with b6;subst b6
   exact f1 (by rw[b7,e])
  refine zna hR (λq h=>by cases h) k1 hd0 a4 c1 c2 d2 (z7j _ _ _) (λn hn =>?_) hfp;refine d3 n (hR.out n hn).1 (λe =>?_) λp hp e =>?_
  subst e;exact hR.mine s _ sl n ho trivial k1 (.inl q1) hn;obtain⟨_,s',o,sl',b2,b3,b4,b5,b6,b7⟩:=a3 p hp;exact hR.mine s' o sl' n b4 b5 b6 (.inl (by rw[b7,e])) hn
 cases h
end
section
variable {P : Program} {D : Dat} {F : Fr} {ρ : List Slot} {ts : TS D.T} {σ : St} {lv : Nat}
theorem z9h{α:Type}:∀(a b:List (Nat×α)) (j:Nat),fnd (a++b) j=match fnd a j with|some x=>some x|none=>fnd b j
 |[],b,j=>rfl
 |(i,x)::a,b,j=>by
  rw[List.cons_append,yz6,yz6];split;rfl;exact z9h a b j
theorem zo2{T:Nat->Type}:∀(tos:List (TO T)) (n s:Nat) (o:TO T),fnd (zsc tos n) s=some o->∃a,s=n+a∧tos[a]? = some o
 |[],n,s,o,h=>by cases h
 |t::r,n,s,o,h=>by
  simp only[zsc,yz6]at h;split at h
  rename_i e;injection h with h;subst h;subst e;exact⟨0,rfl,rfl⟩
  obtain⟨a,h1,h2⟩:=zo2 r (n+1) s o h;exact⟨a+1,by omega,by simpa using h2⟩
theorem zk7{T:Nat->Type}:∀(l:List Nat) (s:Nat) (o:TO T),fnd (zhr l) s=some o->o = .gone∧s∈l
 |[],s,o,h=>by cases h
 |t::r,s,o,h=>by
  simp only[zhr,List.map_cons,yz6]at h;split at h
  rename_i e;injection h with h;subst h;subst e;exact⟨rfl,Qak⟩
  obtain⟨h1,h2⟩:=zk7 r s o h;exact⟨h1,Qai _ h2⟩
theorem zh3{T:Nat->Type}:∀(l:List Nat) (s:Nat),fnd (zhr (T:=T) l) s=none->s∉l
 |[],s,h=>by simp
 |t::r,s,h=>by
  simp only[zhr,List.map_cons,yz6]at h;split at h;cases h;rename_i e;intro hm
  rcases Qbi.1 hm with rfl|hm
  exact e rfl;exact zh3 r s h hm
theorem TRr.z15(hR:TRr D F ρ ts σ)(olds:List Nat)(hold:∀s∈olds,∃o sl,fnd ts.o s=some o∧o.live∧ρ[s]? = some sl)(news:List (TO D.T×Slot))(H':zz2)(hlv:H'.lv=F.lv)(hE:H'.E=F.E)(hlen:σ.H.L.length<=H'.L.length)
  (hL:∀i,i<σ.H.L.length->(∀s∈olds,∀sl,ρ[s]? = some sl->¬sl.has i)->H'.L[i]? = σ.H.L[i]?)
  (hhas:∀p∈news,∀i,p.2.has i->σ.H.L.length<=i∨∃s∈olds,∃sl,ρ[s]? = some sl∧sl.has i)
  (hdis:∀(a b:Nat) (p p':TO D.T×Slot) (i:Nat),news[a]? = some p->news[b]? = some p'->p.2.has i->p'.2.has i->a=b)
  (hor:∀p∈news,OR D (ρ++news.map (·.2)) F.lv H'.L p.2 p.1)
  (hfp:∀p∈news,∀i∈p.2.fp,p.2.k≠some i∧∃a,H'.L[i]? = some (some a)) :
  TRr D F (ρ++news.map (·.2)) (ts.z15 olds (news.map (·.1))) {σ with H:=H'}:=by
 have kinds:∀s o,fnd (ts.z15 olds (news.map (·.1))).o s=some o->(∃a p,s=ts.nx+a∧news[a]? = some p∧p.1=o)∨(o = .gone∧s∈olds)∨(s∉olds∧fnd ts.o s=some o):=λs o h=>by
  simp only[TS.z15]at h;rw[z9h]at h;split at h;rename_i o' ho';injection h with h;subst h;obtain⟨a,h1,h2⟩:=zo2 _ _ _ _ ho';rw[Qan,Qaf]at h2;obtain⟨p,h3,h4⟩:=h2;exact .inl ⟨a,p,h1,h3,h4⟩;rw[z9h]at h;split at h;rename_i o' ho';injection h with h;subst h;exact .inr (.inl (zk7 _ _ _ ho'));rename_i hn;exact .inr (.inr ⟨zh3 _ _ hn,h⟩)
 have slotNew:∀(a:Nat) (p:TO D.T×Slot),news[a]? = some p->(ρ++news.map (·.2))[ts.nx+a]? = some p.2:=λa p h=>by
  rw[<-hR.nx,Qav (by omega),show ρ.length+a-ρ.length=a by omega,Qan,h];rfl
 have slotOld:∀s o sl,fnd ts.o s=some o->(ρ++news.map (·.2))[s]? = some sl->ρ[s]? = some sl:=λs o sl ho h=>by
  obtain⟨q,h1,h2⟩:=hR.ob s o ho;rw[lookup_append h1]at h;rw[h1,h]
 have apart:∀s o sl i,fnd ts.o s=some o->o.live->s∉olds->ρ[s]? = some sl->sl.has i->∀s0∈olds,∀sl0,ρ[s0]? = some sl0->¬sl0.has i:=λs o sl i ho hl hno hs hk s0 h0 sl0 h1 h2=>by
  obtain⟨o0,sl1,e1,e2,e3⟩:=hold s0 h0
  rw[h1]at e3;injection e3 with e3;subst e3
  have:=hR.inj s s0 o o0 sl sl0 i ho e1 hl e2 hs h1 hk h2;subst this;exact hno h0
 have mem:∀{a:Nat}{p:TO D.T×Slot},news[a]? = some p->p∈news:=λh=>Qax h
 have newold:∀(a:Nat) (p:TO D.T×Slot) s o sl i,news[a]? = some p->p.2.has i->fnd ts.o s=some o->o.live->s∉olds->ρ[s]? = some sl->sl.has i->False:=λa p s o sl i hp hi ho hl hno hs hk=>by
  rcases hhas p (mem hp) i hi with h|⟨s0,h0,sl0,h1,h2⟩
  have:=hR.lt ho hl hs hk;omega;exact apart s o sl i ho hl hno hs hk s0 h0 sl0 h1 h2
 refine⟨by simp[TS.z15,hR.nx],hR.nt,λj x hj =>?_,λs o ho =>?_,λs s' o o' sl sl' i h1 h2 l1 l2 r1 r2 k1 k2 =>?_,λs o sl i h1 l1 r1 k1 =>?_,hlv,hE,hR.e0,hR.d.more _,λi hi =>?_,λj sl hj=>lookup_append (hR.pin j sl hj),λs o sl i h1 l1 r1 k1 =>?_,λi s v h1 h2=>(hR.g i s v h1 h2).more _⟩;obtain⟨v,h1,h2⟩:=hR.tm j x hj;exact⟨v,h1,h2.more _⟩
 rcases kinds s o ho with ⟨a,p,rfl,h2,rfl⟩|⟨rfl,h1⟩|⟨h1,h2⟩
 exact⟨p.2,slotNew a p h2,hor p (mem h2)⟩;obtain⟨o0,sl,e1,e2,e3⟩:=hold s h1;exact⟨sl,lookup_append e3,by simp only[OR]⟩;obtain⟨q,e1,e2⟩:=hR.ob s o h2;exact⟨q,lookup_append e1,e2.mono _ λi hi hl=>hL i (hR.lt h2 hl e1 hi) (apart s o q i h2 hl h1 e1 hi)⟩
 rcases kinds s o h1 with ⟨a,p,rfl,a2,rfl⟩|⟨rfl,a1⟩|⟨a1,a2⟩
 rw[slotNew a p a2]at r1;injection r1 with r1;subst r1
 rcases kinds s' o' h2 with ⟨b,p',rfl,b2,rfl⟩|⟨rfl,b1⟩|⟨b1,b2⟩
 rw[slotNew b p' b2]at r2;injection r2 with r2;subst r2
 rw[hdis a b p p' i a2 b2 k1 k2];exact l2.elim;exact(newold a p s' o' sl' i a2 k1 b2 l2 b1 (slotOld _ _ _ b2 r2) k2).elim;exact l1.elim
 rcases kinds s' o' h2 with ⟨b,p',rfl,b2,rfl⟩|⟨rfl,b1⟩|⟨b1,b2⟩
 rw[slotNew b p' b2]at r2;injection r2 with r2;subst r2
 exact(newold b p' s o sl i b2 k2 a2 l1 a1 (slotOld _ _ _ a2 r1) k1).elim;exact l2.elim;exact hR.inj s s' o o' sl sl' i a2 b2 l1 l2 (slotOld _ _ _ a2 r1) (slotOld _ _ _ b2 r2) k1 k2
 rcases kinds s o h1 with ⟨a,p,rfl,a2,rfl⟩|⟨rfl,a1⟩|⟨a1,a2⟩
 rw[slotNew a p a2]at r1;injection r1 with r1;subst r1
 intro ho
 rcases hhas p (mem a2) i k1 with h|⟨s0,h0,sl0,h3,h4⟩
 have:=(hR.out i ho).1;omega;obtain⟨o0,sl1,e1,e2,e3⟩:=hold s0 h0;exact hR.mine s0 o0 sl0 i e1 e2 h3 h4 ho;exact l1.elim;exact hR.mine s o sl i a2 l1 (slotOld _ _ _ a2 r1) k1;obtain⟨h1,h2⟩:=hR.out i hi;refine⟨Qbg h1 hlen,(hL i h1 λs0 h0 sl0 h3 h4 =>?_).trans h2⟩;obtain⟨o0,sl1,e1,e2,e3⟩:=hold s0 h0;exact hR.mine s0 o0 sl0 i e1 e2 h3 h4 hi
 rcases kinds s o h1 with ⟨a,p,rfl,a2,rfl⟩|⟨rfl,a1⟩|⟨a1,a2⟩
 rw[slotNew a p a2]at r1;injection r1 with r1;subst r1
 exact hfp p (mem a2) i k1;exact l1.elim;have q1:=slotOld _ _ _ a2 r1;have hq:=hR.fpl s o sl i a2 l1 q1 k1;refine⟨hq.1,?_⟩;show ∃a,H'.L[i]? = _;rw[hL i (hR.lt a2 l1 q1 (.inr k1)) (apart s o sl i a2 l1 a1 q1 (.inr k1))];exact hq.2
end
theorem zxh{T:Nat->Type}{a b:DTy}{x:a.S T}{y:b.S T}(h:zi5 a b x=some y):∃e:a=b,y=e▸x:=by
 unfold zi5 at h;split at h
 rename_i e;injection h with h;exact⟨e,h.symm⟩
 cases h
theorem zyp{T:Nat->Type}:∀{l:List DTy}{x z:HL T l}{f:Nat}{t:DTy}{y:t.S T},HL.upd l x f t y=some z->∀j,HL.nth l z j=if j=f then some ⟨t,y⟩else HL.nth l x j
 |[],x,z,f,t,y,h=>by cases h
 |t0::l,x,z,0,t,y,h=>by
  unfold HL.upd at h
  cases h1:zi5 t t0 y with
  |none=>rw[h1]at h;cases h
  |some y'=>
  rw[h1]at h;injection h with h;subst h;obtain⟨e1,e2⟩:=zxh h1;subst e1;subst e2;intro j
  cases j with
  |zero=>rfl
  |succ j=>rfl
 |t0::l,x,z,f+1,t,y,h=>by
  unfold HL.upd at h
  cases h1:HL.upd l x.2 f t y with
  |none=>rw[h1]at h;cases h
  |some z'=>
  rw[h1]at h;injection h with h;subst h;intro j
  cases j with
  |zero=>rfl
  |succ j=>
   have:=zyp h1 j;simp only[HL.nth,this,Nat.add_right_cancel_iff]
theorem y6j{T:Nat->Type}:∀(l:List DTy) (x:HL T l) (j:Nat),HL.at l x j=HL.nth l x j
 |[],_,_=>rfl
 |_::_,_,0=>rfl
 |_::l,x,j+1=>y6j l x.2 j
section
variable {P : Program} {D : Dat} {F : Fr} {ρ : List Slot} {ts : TS D.T} {σ : St} {lv : Nat} {L : List (Option yz4)}
theorem y3h{T:Nat->Type}:∀{l:List DTy}{x z:HL T l}{f:Nat}{t:DTy}{y:t.S T},HL.upd l x f t y=some z->f<l.length
 |[],x,z,f,t,y,h=>by cases h
 |t0::l,x,z,0,t,y,h=>by simp
 |t0::l,x,z,f+1,t,y,h=>by
  unfold HL.upd at h
  cases h1:HL.upd l x.2 f t y with
  |none=>rw[h1]at h;cases h
  |some z'=>have:=y3h h1;simp;omega
theorem zv2{α:Type}{l:List α}{n:Nat}{a:α}(h:l[n]? = some a):l.set n a=l:=by
 apply List.ext_getElem?;intro i;rw[Qbf];split;rename_i e;subst e;rw[Qbr (Qaa.1 h).1,h];rfl
theorem zqu(hD:D.Ok P)(hR:TRr D F ρ ts σ){s c ty q f:Nat}{n:Int}{xs:List (D.T q)}(hs:fnd ts.o s=some (.deep ty q xs (some (n,f,c)))){o:TO D.T}(hc:fnd ts.o c=some o)(hol:o.live)(hne:c≠s){ty':Nat}{t':DTy}{ys:List (t'.S D.T)}(how:D.ow q f=some ty')
  {slc:Slot} (hslc:ρ[c]? = some slc) {fpc:List Nat}(hdo:DO D F.lv σ.H.L (.own ty') (.sl t') ys slc.v fpc) (hfpc:∀i∈fpc,slc.has i) (hnd:fpc.Nodup) {y:D.T q}{z:HL D.T (D.fl q)}(hy:ix xs n=some y) (hz:HL.upd (D.fl q) (D.get q y) f (.sl t') ys=some z) :
  ∃ρ',TRr D F ρ' ((ts.z15 [s,c] [.deep ty q (xs.set n.toNat (D.make q z)) none]).z3p D (TV.ren D s ts.nx)) σ:=by
 obtain⟨sl,k1,k2⟩:=hR.ob s _ hs;simp only[OR]at k2;obtain⟨q1,q3⟩:=k2
 cases hk:sl.k with
 |none=>rw[hk]at q3;cases q3.2.2.2
 |some j=>
 rw[hk]at q3;obtain⟨ver,cp,fps,e1,e2,e3,e4,e5,e6,e7⟩:=q3;obtain⟨p1,p2⟩:=z6w hy;have hlt:n.toNat<xs.length:=(Qaa.1 p2).1;have hw:sl.ws[n.toNat]? = some (sl.ws[n.toNat]'(by omega)):=Qab (by omega);have hc0:fps[n.toNat]? = some (fps[n.toNat]'(by omega)):=Qab (by omega);obtain⟨vs,cs,b1,b2,b3,b4,b5⟩:=e6 n.toNat y _ _ p2 hw hc0;have hf:=y3h hz
 obtain⟨pf,hpf,_⟩:=HL.z7o (D.fl q) (D.get q y) f hf;have hu:vs[f]? = some (vs[f]'(by omega)):=Qab (by omega);have hb:cs[f]? = some (cs[f]'(by omega)):=Qab (by omega);have hole:=b5 f pf _ _ hpf hu hb;rw[show yzq (some (n,f,c)) n.toNat f=some c by simp[yzq]]at hole;obtain⟨g1,g2,g3,sl2,g4,g5⟩:=hole
 rw[hslc]at g4;injection g4 with g4;subst g4
 rw[g1]at hb;rw[g5]at hu;have hcs:(cs.set f fpc)[f]? = some fpc:=Qaq (by omega);have hback:(cs.set f fpc).set f []=cs:=by rw[List.set_set];exact zv2 hb
 have perm1:(cs.set f fpc).flatten.Perm (fpc++cs.flatten):=by
  have:=z3e (cs.set f fpc) f fpc fpc [] hcs (by simp);rw[hback]at this;exact this
 rw[b4]at hc0;have hfs:(fps.set n.toNat (cs.set f fpc).flatten)[n.toNat]? = some (cs.set f fpc).flatten:=Qaq (by omega)
 have perm2:(fps.set n.toNat (cs.set f fpc).flatten).flatten.Perm (fpc++sl.fp):=by
  have:=z3e _ n.toNat _ fpc cs.flatten hfs perm1;rw[List.set_set,zv2 hc0,<-e4]at this;exact this
 have hmem:∀i,i∈(fps.set n.toNat (cs.set f fpc).flatten).flatten->i∈fpc∨i∈sl.fp:=λi hi=>List.mem_append.1 (perm2.mem_iff.1 hi)
 have hap:∀i,slc.has i->sl.has i->False:=λi h1 h2=>hne (hR.inj c s o _ slc sl i hc hs hol trivial hslc k1 h1 h2)
 let sl':Slot:=⟨sl.v,sl.k,sl.ws,(fps.set n.toNat (cs.set f fpc).flatten).flatten⟩
 have hT:=hR.z15 [s,c] (λs0 h0=>by
  rcases Qbi.1 h0 with rfl|h0
  exact⟨_,sl,hs,trivial,k1⟩
  rcases Qbi.1 h0 with rfl|h0
  exact⟨o,slc,hc,hol,hslc⟩
  cases h0) [((.deep ty q (xs.set n.toNat (D.make q z)) none:TO D.T),sl')] σ.H hR.lv hR.E (Qbq _) (λ_ _ _=>rfl)
  (λp hp i hi=>by
   rcases Qbi.1 hp with rfl|hp
   rcases hi with hi|hi
   exact .inr ⟨s,Qak,sl,k1,.inl hi⟩
   rcases hmem i hi with hi|hi
   exact .inr ⟨c,Qai _ Qak,slc,hslc,hfpc i hi⟩;exact .inr ⟨s,Qak,sl,k1,.inr hi⟩
   cases hp)
  (λa b p p' i ha hb' _ _=>by
   have h1:=(Qaa.1 ha).1;have h2:=(Qaa.1 hb').1
   simp at h1 h2;omega)
  (λp hp=>by
   rcases Qbi.1 hp with rfl|hp
   simp only[OR];refine⟨by simpa using q1,?_⟩;show(match sl.k with|none=>_|some j=>_);rw[hk];refine⟨ver,cp,fps.set n.toNat (cs.set f fpc).flatten,e1,e2,by simpa using e3,rfl,?_,λm x w' c' m1 m2 m3 =>?_,λ_ _ _ h=>by cases h⟩;refine perm2.nodup_iff.2 (List.nodup_append.2 ⟨hnd,e5,λa ha b hb' e =>?_⟩);subst e;exact hap a (hfpc a ha) (.inr hb');by_cases hm:n.toNat=m;subst hm
   rw[Qaq hlt]at m1;injection m1 with m1;subst m1
   rw[hfs]at m3;injection m3 with m3;subst m3
   have m2':sl.ws[n.toNat]? = some w':=m2
   rw[hw]at m2';injection m2' with m2'
   refine⟨vs,cs.set f fpc,m2'.symm.trans b1,b2,by simpa using b3,rfl,λf' p' u' b' r1 r2 r3 =>?_⟩;show DO D F.lv σ.H.L (y0g (D.ow q f')) p'.1 p'.2 u' b';rw[hD.getMake,zyp hz]at r1;by_cases hff:f'=f;subst hff
   rw[Qbr rfl]at r1;injection r1 with r1;subst r1
   rw[hu]at r2;injection r2 with r2;subst r2
   rw[hcs]at r3;injection r3 with r3;subst r3
   rw[how];exact hdo;rw[Qbs hff]at r1;rw[Qam (λe=>hff e.symm)]at r3;have:=b5 f' p' u' b' r1 r2 r3;rw[show yzq (some (n,f,c)) n.toNat f'=none by simp[yzq];exact λe=>hff e.symm]at this;exact this;rw[Qam hm]at m1;rw[Qam hm]at m3;obtain⟨vs',cs',d1,d2,d3,d4,d5⟩:=e6 m x w' c' m1 m2 m3;refine⟨vs',cs',d1,d2,d3,d4,λf' p' u' b' r1 r2 r3 =>?_⟩
   have:=d5 f' p' u' b' r1 r2 r3;rw[show yzq (some (n,f,c)) m f'=none by simp[yzq];exact λe=>(hm e).elim]at this;exact this
   cases hp)
  (λp hp i hi=>by
   rcases Qbi.1 hp with rfl|hp
   rcases hmem i hi with hi|hi
   refine⟨λe=>hap i (hfpc i hi) (.inl e),?_⟩;exact hR.at hc hol hslc (hfpc i hi);exact hR.fpl s _ sl i hs trivial k1 hi
   cases hp)
 refine⟨_,hT.z3p (TV.ren D s ts.nx) λx v h=>VR.ren (sl:=sl) (sl':=sl') (lookup_append k1) ?_ rfl h⟩;rw[<-hR.nx];simp
theorem TRr.y0p(hR:TRr D F ρ ts σ){s:Nat}{o:TO D.T}{sl:Slot}(hs:fnd ts.o s=some o)(hl:o.live)(h:ρ[s]? = some sl)(hn:sl.fp.Nodup):sl.all.Nodup:=by
 unfold Slot.all
 cases hk:sl.k with
 |none=>simpa using hn
 |some j=>
  show(j::sl.fp).Nodup;refine List.nodup_cons.2 ⟨λhm =>?_,hn⟩;exact(hR.fpl s o sl j hs hl h hm).1 hk
theorem zlr{R:Type}(hD:D.Ok P)(hR:TRr D F ρ ts σ){s:Nat}{k:TS D.T->Option R}{r:R}(h:ts.fold D s k=some r):∃ts' ρ',TRr D F ρ' ts' σ∧k ts'=some r∧ts'.t=ts.t.map (λp=>(p.1,TV.ren D s ts.nx p.2))∧ts'.nt=ts.nt:=by
 unfold TS.fold at h;split at h;rename_i ty q xs n f c hs;split at h;rename_i ty' how;split at h;rename_i ty2 q' ys hc;split at h;rename_i hcc;obtain⟨rfl,hne⟩:=hcc;obtain⟨y,hy,h⟩:=zzs h;split at h;rename_i z hz;obtain⟨slc,c1,c2⟩:=hR.ob c _ hc
 have hn:slc.fp.Nodup:=by
  have c3:=c2;simp only[OR]at c3;have c4:=c3.2
  cases hk:slc.k with
  |none=>rw[hk]at c4;rw[c4.2.2.1];exact List.nodup_nil
  |some j=>rw[hk]at c4;obtain⟨_,_,_,_,_,_,_,c5,_⟩:=c4;exact c5
 obtain⟨ρ',w⟩:=zqu hD hR hs hc trivial hne how c1 (zsu c2) (λi hi=>Slot.zes.1 hi) (hR.y0p hc trivial c1 hn) hy hz;exact⟨_,ρ',w,h,rfl,rfl⟩;cases h;cases h;rename_i ty2 t' ys hc;split at h;rename_i hcc;obtain⟨rfl,hne,hpl⟩:=hcc;obtain⟨y,hy,h⟩:=zzs h;split at h;rename_i z hz;obtain⟨slc,c1,c2⟩:=hR.ob c _ hc
 obtain⟨ρ',w⟩:=zqu hD hR hs hc trivial hne how c1 (y8y c2 hpl) (λi hi=>.inl (by cases hk:slc.k <;> rw[hk]at hi <;> simp at hi;rw[hi])) (by cases slc.k <;> simp) hy hz;exact⟨_,ρ',w,h,rfl,rfl⟩;cases h;cases h;cases h;cases h;cases h
end
end Go.Ab
