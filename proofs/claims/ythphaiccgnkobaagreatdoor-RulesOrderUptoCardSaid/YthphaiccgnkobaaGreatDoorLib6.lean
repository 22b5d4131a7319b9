/-
  THE TYPED MACHINE: the operations on own objects do what the abstract machine does.
-/
import Derived.Test.YthphaiccgnkobaaGreatDoorLib5
import Derived.Test.YthphaiccgnkobaaGreatDoorLib4
namespace Go.Ab
open Go
set_option linter.unusedVariables false
set_option linter.unusedSimpArgs false
set_option linter.unusedSectionVars false
section
variable {P : Program} {D : Dat} {F : Fr} {ρ : List Slot} {ts : TS D.T} {σ : St} {lv : Nat}
theorem yco{H:Heap}{f:Operand->V}{op:Op}{v:V}(h:pv P H f op=some v):ox P H f op=some (v,H):=by
 cases op
 case call c=>
  simp only[pv]at h;unfold ox;simp only;split;rename_i hcal;simp[z8i,hcal]at h;rename_i hcal;simp[z8i,hcal]at h;rw[h];rfl
 all_goals first
  |(unfold ox;simp only[h,Qbr];done)
  |(simp[pv]at h;done)
theorem zlh(H:Heap)(hlv:H.lv=F.lv)(hE:H.E=F.E):H=⟨F.lv,H.L,F.E⟩:=by cases H;simp only at hlv hE;subst hlv;subst hE;rfl
theorem TRr.zwc(hR:TRr D F ρ ts σ)(i:Nat)(o:zz4):σ.H.set F.lv i o={σ.H with L:=σ.H.L.set i (some o)}:=by
 unfold Heap.set;rw[Qbx hR.lv.symm]
variable (hD : D.Ok P)
include hD
theorem TRr.y1x(hR:TRr D F ρ ts σ){cs:List (TV D.T)}{vs:List V}(h:VRL D ρ F.lv cs vs) :
  TRr D F (ρ++[⟨.any,some σ.H.L.length,[],[]⟩]) (ts.new D (.cells cs)) {σ with H:=σ.H.push (.cells vs)}∧VR D (ρ++[⟨.any,some σ.H.L.length,[],[]⟩]) F.lv (.ptr ts.nx 0) (.ptr σ.H.lv σ.H.L.length 0):=by
 refine⟨hR.new _ _ _ hR.lv hR.E (by simp[Heap.push]) (λi hi=>by simp only[Heap.push];rw[Qal hi]) (λi hi=>by injection hi with hi;omega) ?_,?_⟩;simp only[OR];exact⟨σ.H.L.length,vs,rfl,by simp[Heap.push],h.more _⟩;simp only[VR];exact⟨⟨.any,some σ.H.L.length,[],[]⟩,σ.H.L.length,by rw[<-hR.nx];simp,rfl,by rw[hR.lv]⟩
omit hD in
theorem DR.one{t:DTy}{x:t.S D.T}{v:V}(h:DR D t x v)(ht:∀i,t ≠ .st i)(hn:t ≠ .nat):v.cells=[v]∧v.leaf=true∧(∀c,z74 v [c]=c)∧∀c:V,c.leaf=true->fits v [c]=true:=by
 cases h with
 |st=>exact(ht _ rfl).elim
 |enc=>exact(ht _ rfl).elim
 |nat=>exact(hn rfl).elim
 |_=>exact⟨rfl,rfl,λ_=>rfl,λc hc=>hc⟩
theorem DR.z74{t:DTy}{y z:t.S D.T}{w vx:V}{x:TV D.T}{off:Nat}(hw:DR D t y w)(hx:VR D ρ lv x vx)(hsol:x.zzi=true)(hoff:off+x.cells.length<=(D.tv t y).cells.length)
  (hz:asD D t (match D.tv t y with| .agg cs'=>.agg (zfa cs' off x.cells)|_=>x) = .ok z) (ht:t ≠ .nat) :
  DR D t z (Go.Ab.z74 w (yzr w.cells off vx.cells))∧fits w (yzr w.cells off vx.cells)=true∧off+vx.cells.length<=w.cells.length:=by
 have hc:=VR.y8w (ρ:=ρ) (lv:=lv) hD hw;have hxc:=hx.cells hsol;have hlen:=hxc.length;have hlen2:=hc.length;refine⟨?_,?_,by omega⟩
 all_goals
  by_cases hst:∃i,t = .st i;obtain⟨i,rfl⟩:=hst;obtain⟨us,rfl,k1,k2⟩:=DR.agg hD hw
  first
   |rfl
   |(simp only[Dat.tv]at hz
     refine zf2 (ρ:=ρ) (lv:=lv) hD hz ?_;simp only[Go.Ab.z74,VR]
     exact⟨_,rfl,VRL.yzr (by simpa[Dat.tv,TV.cells,V.cells]using hc) hxc off⟩)
  have hne:∀i,t ≠ .st i:=λi e=>hst ⟨i,e⟩
  have hnagg:(match D.tv t y with| .agg cs'=>TV.agg (zfa cs' off x.cells)|_=>x)=x:=by
   cases t with
   |st i=>exact(hne i rfl).elim
   |_=>rfl
  rw[hnagg]at hz;have hd:=zf2 hD hz hx;obtain⟨a1,a2,a3,a4⟩:=hw.one hne ht;obtain⟨b1,b2,b3,b4⟩:=hd.one hne ht;have l1:w.cells.length=1:=by rw[a1];rfl
  have l2:vx.cells.length=1:=by rw[b1];rfl
  have hoff0:off=0:=by omega
  subst hoff0;rw[a1,b1];have:yzr [w] 0 [vx]=[vx]:=rfl;rw[this]
  first
   |(rw[a3];exact hd)
   |exact a4 _ b2
theorem yhi(hR:TRr D F ρ ts σ){s j ty q off:Nat}{i:Int}{xs:List (D.T q)}{h:Option (Int×Nat×Nat)}{sl:Slot}{ver:Nat}{cp:Option Nat}{fps:List (List Nat)}(ho:fnd ts.o s=some (.deep ty q xs h))(h1:ρ[s]? = some sl)(hk:sl.k=some j)
  (q1:sl.ws.length=xs.length) (e1:sl.v = .hs F.lv j ver 0 sl.ws.length false) (e2:σ.H.L[j]? = some (some (.arr ver ty (D.len (.st q)) sl.ws cp))) (e3:fps.length=xs.length) (e4:sl.fp=fps.flatten) (e5:sl.fp.Nodup)
  (e6:∀(n:Nat) (x:D.T q) (w:V) (c:List Nat),xs[n]? = some x->sl.ws[n]? = some w->fps[n]? = some c->EO D ρ F.lv σ.H.L q h n x w c) (hh:h=none∨∃c',h=some (i,off,c')) {y:D.T q}(p1:0<=i) (p2:xs[i.toNat]? = some y) (how:(D.ow q off).isSome=true)
  {c:Nat} {slc:Slot}(hc:ρ[c]? = some slc) (hcl:slc.v.leaf=true) {vs:List V}{cs:List (List Nat)}(b1:sl.ws[i.toNat]? = some (.agg vs)) (b2:vs.length=(D.fl q).length) (b3:cs.length=(D.fl q).length) (b4:fps[i.toNat]? = some cs.flatten) (hoff:off<(D.fl q).length)
  (b5:∀(f:Nat) (p:(t:DTy)×t.S D.T) (u:V) (b:List Nat),HL.nth (D.fl q) (D.get q y) f=some p->vs[f]? = some u->cs[f]? = some b->f≠off->DO D F.lv σ.H.L (ykf (D.ow q f)) p.1 p.2 u b) :
  TRr D F (ρ++[⟨sl.v,some j,sl.ws.set i.toNat (.agg (vs.set off slc.v)),(fps.set i.toNat (cs.set off []).flatten).flatten⟩]) (ts.zwv D s (.deep ty q xs (some (i,off,c)))) {σ with H:={σ.H with L:=σ.H.L.set j (some (.arr ver ty (D.len (.st q)) (sl.ws.set i.toNat (.agg (vs.set off slc.v))) cp))}}:=by
 have hlt:i.toNat<xs.length:=(Qaa.1 p2).1;have hjl:=(Qaa.1 e2).1;have hb:cs[off]? = some (cs[off]'(by omega)):=Qab (by omega);have perm0:sl.fp.Perm ((cs[off]'(by omega))++(fps.set i.toNat (cs.set off []).flatten).flatten):=by rw[e4];exact z8z fps i.toNat _ _ _ b4 (z8z cs off _ _ [] hb (by simp))
 have hnd:=(List.nodup_append.1 (perm0.nodup_iff.1 e5)).2.1;have hin2:∀n,n∈(fps.set i.toNat (cs.set off []).flatten).flatten->n∈sl.fp:=λn h=>perm0.mem_iff.2 (List.mem_append_right _ h)
 let ws':=sl.ws.set i.toNat (.agg (vs.set off slc.v))
 let sl':Slot:=⟨sl.v,some j,ws',(fps.set i.toNat (cs.set off []).flatten).flatten⟩
 have hL':∀n∈sl.fp,(σ.H.L.set j (some (.arr ver ty (D.len (.st q)) ws' cp)))[n]? = σ.H.L[n]? := λn hn=>by
  rw[Qam (λe=>(hR.fpl s _ sl n ho trivial h1 hn).1 (by rw[hk,e]))]
 have hor:OR D (ρ++[sl']) F.lv (σ.H.L.set j (some (.arr ver ty (D.len (.st q)) ws' cp))) sl' (.deep ty q xs (some (i,off,c))):=by
  simp only[OR];refine⟨by simp[sl',ws',q1],ver,cp,fps.set i.toNat (cs.set off []).flatten,by simp[sl',ws',e1],by simp[sl',hjl],by simpa using e3,rfl,hnd,λm x w' c' m1 m2 m3 =>?_,λn' f' s' e =>?_⟩;have hcL:∀n∈c',(σ.H.L.set j (some (.arr ver ty (D.len (.st q)) ws' cp)))[n]? = σ.H.L[n]? := λn hn=>hL' n (hin2 n (List.mem_flatten.2 ⟨c',Qax m3,hn⟩))
  refine EO.mono (L:=σ.H.L) [sl'] ?_ hcL;by_cases hm:i.toNat=m;subst hm
  rw[p2]at m1;injection m1 with m1;subst m1
  rw[Qaq (by omega)]at m3;injection m3 with m3;subst m3
  simp only[sl',ws']at m2
  rw[Qaq (by omega)]at m2;injection m2 with m2;subst m2
  refine⟨vs.set off slc.v,cs.set off [],rfl,by simpa using b2,by simpa using b3,rfl,λf' p' u' b' r1 r2 r3 =>?_⟩;by_cases hff:off=f';subst hff;rw[show z0g (some (i,off,c)) i.toNat off=some c by simp[z0g]];rw[Qaq (by omega)]at r2 r3;injection r2 with r2;injection r3 with r3;subst r2;subst r3;exact⟨rfl,how,hcl,slc,hc,rfl⟩
  rw[show z0g (some (i,off,c)) i.toNat f'=none by simp[z0g];exact hff];rw[Qam hff]at r2 r3;exact b5 f' p' u' b' r1 r2 r3 (λe=>hff e.symm);simp only[sl',ws']at m2;rw[Qam hm]at m2 m3;have:=e6 m x w' c' m1 m2 m3
  have hno:EO D ρ F.lv σ.H.L q none m x w' c':=by
   rcases hh with rfl|⟨c2,rfl⟩
   exact this;obtain⟨vs',cs',d1,d2,d3,d4,d5⟩:=this;refine⟨vs',cs',d1,d2,d3,d4,λf' p' u' b' r1 r2 r3 =>?_⟩;have:=d5 f' p' u' b' r1 r2 r3;rw[show z0g (some (i,off,c2)) m f'=none by simp[z0g];exact λe=>(hm e).elim]at this;exact this
  exact hno.y32 _ λn' f' s' e=>(by injection e with e;injection e with e e';subst e;exact hm)
  injection e with e;injection e with e e';subst e;exact⟨p1,hlt⟩
 have hm:=hR.move ho trivial h1 hk (.deep ty q xs (some (i,off,c))) (.arr ver ty (D.len (.st q)) ws' cp) sl' rfl hor hin2;exact hm.z9k (TV.ren D s ts.nx) λx v hxv=>VR.ren (lookup_append h1) (sl':=sl') (by rw[<-hR.nx];simp) rfl hxv
theorem yit(hR:TRr D F ρ ts σ){s j ty q:Nat}{i:Int}{xs:List (D.T q)}{sl:Slot}{ver:Nat}{cp:Option Nat}{fps:List (List Nat)}(ho:fnd ts.o s=some (.deep ty q xs none))(h1:ρ[s]? = some sl)(hk:sl.k=some j)
  (q1:sl.ws.length=xs.length) (e1:sl.v = .hs F.lv j ver 0 sl.ws.length false) (e2:σ.H.L[j]? = some (some (.arr ver ty (D.len (.st q)) sl.ws cp))) (e3:fps.length=xs.length) (e4:sl.fp=fps.flatten) (e5:sl.fp.Nodup)
  (e6:∀(n:Nat) (x:D.T q) (w:V) (c:List Nat),xs[n]? = some x->sl.ws[n]? = some w->fps[n]? = some c->EO D ρ F.lv σ.H.L q none n x w c) (p1:0<=i) (hlt:i.toNat<xs.length) {x:HL D.T (D.fl q)}{hole:Option (Nat×Nat)}{us:List V}(hl:us.length=(D.fl q).length)
  (hrow:∀(f:Nat) (p:(t:DTy)×t.S D.T) (u:V),HL.nth (D.fl q) x f=some p->us[f]? = some u->zku D ρ F.lv σ.H.L q f hole p u) :
  TRr D F (ρ++[⟨sl.v,some j,sl.ws.set i.toNat (.agg us),(fps.set i.toNat []).flatten⟩]) (ts.zwv D s (.deep ty q (xs.set i.toNat (D.make q x)) (hole.map λp=>(i,p.1,p.2)))) {σ with H:={σ.H with L:=σ.H.L.set j (some (.arr ver ty (D.len (.st q)) (sl.ws.set i.toNat (.agg us)) cp))}}:=by
 have hjl:=(Qaa.1 e2).1;have b4:fps[i.toNat]? = some (fps[i.toNat]'(by omega)):=Qab (by omega);have perm0:sl.fp.Perm ((fps[i.toNat]'(by omega))++(fps.set i.toNat []).flatten):=by rw[e4];exact z8z fps i.toNat _ _ [] b4 (by simp)
 have hnd:=(List.nodup_append.1 (perm0.nodup_iff.1 e5)).2.1;have hin2:∀n,n∈(fps.set i.toNat []).flatten->n∈sl.fp:=λn h=>perm0.mem_iff.2 (List.mem_append_right _ h)
 let ws':=sl.ws.set i.toNat (.agg us)
 let sl':Slot:=⟨sl.v,some j,ws',(fps.set i.toNat []).flatten⟩
 have hL':∀n∈sl.fp,(σ.H.L.set j (some (.arr ver ty (D.len (.st q)) ws' cp)))[n]? = σ.H.L[n]? := λn hn=>by
  rw[Qam (λe=>(hR.fpl s _ sl n ho trivial h1 hn).1 (by rw[hk,e]))]
 have hor:OR D (ρ++[sl']) F.lv (σ.H.L.set j (some (.arr ver ty (D.len (.st q)) ws' cp))) sl' (.deep ty q (xs.set i.toNat (D.make q x)) (hole.map λp=>(i,p.1,p.2))):=by
  simp only[OR];refine⟨by simp[sl',ws',q1],ver,cp,fps.set i.toNat [],by simp[sl',ws',e1],by simp[sl',hjl],by simpa using e3,rfl,hnd,λm x' w' c' m1 m2 m3 =>?_,λn' f' s' e =>?_⟩;have hcL:∀n∈c',(σ.H.L.set j (some (.arr ver ty (D.len (.st q)) ws' cp)))[n]? = σ.H.L[n]? := λn hn=>hL' n (hin2 n (List.mem_flatten.2 ⟨c',Qax m3,hn⟩))
  refine EO.mono (L:=σ.H.L) [sl'] ?_ hcL;simp only[sl',ws']at m2;by_cases hm:i.toNat=m;subst hm;rw[Qaq (by omega)]at m1 m2 m3;injection m1 with m1;injection m2 with m2;injection m3 with m3;subst m1;subst m2;subst m3;exact yn4 hD rfl hl hrow;rw[Qam hm]at m1 m2 m3
  exact(e6 m x' w' c' m1 m2 m3).y32 _ λn' f' s' e=>(by
   rw[Qaf]at e;obtain⟨g,_,e⟩:=e
   injection e with e e';subst e;exact hm)
  rw[Qaf]at e;obtain⟨g,_,e⟩:=e;injection e with e e';subst e;exact⟨p1,by simpa using hlt⟩
 have hm:=hR.move ho trivial h1 hk (.deep ty q (xs.set i.toNat (D.make q x)) (hole.map λp=>(i,p.1,p.2))) (.arr ver ty (D.len (.st q)) ws' cp) sl' rfl hor hin2;exact hm.z9k (TV.ren D s ts.nx) λx v hxv=>VR.ren (lookup_append h1) (sl':=sl') (by rw[<-hR.nx];simp) rfl hxv
theorem y6d{R:Type}(hR:TRr D F ρ ts σ){t s ty q off:Nat}{i:Int}{xs:List (D.T q)}{hh:Option (Int×Nat×Nat)}{x:TV D.T}{va vx:V}{k:TV D.T->TS D.T->Option R}{kf:Nat->Option R}{r:R}(h:yb1 D ts ty q xs hh s i off x k kf=some r)(ho:fnd ts.o s=some (.deep ty q xs hh))
  (ha:VR D ρ F.lv (.dp s i off) va) (hx:VR D ρ F.lv x vx) (hs:x.zzi=true) (hcond:(vx.zzi&&(P.info? t).isSome&&vx.cells.length==P.cellsOf t)=true) :
  (∃z ts' v H' ρ',zaz P σ.H t va vx=some (v,H')∧VR D ρ' F.lv z v∧TRr D F ρ' ts' {σ with H:=H'}∧k z ts'=some r)∨∃s,kf s=some r:=by
 simp only[VR]at ha;obtain⟨sl,j',ver',m,h1,g1,g2,g3,rfl⟩:=ha;obtain⟨sl',k1,k2⟩:=hR.ob s _ ho
 rw[h1]at k1;injection k1 with k1;subst k1
 simp only[OR]at k2;obtain⟨q1,q3⟩:=k2
 have base:∀{y:D.T q},xs[i.toNat]? = some y->∃(j ver:Nat) (cp:Option Nat) (fps:List (List Nat)),sl.k=some j∧sl.v = .hs F.lv j ver 0 sl.ws.length false∧σ.H.L[j]? = some (some (.arr ver ty (D.len (.st q)) sl.ws cp))∧fps.length=xs.length∧sl.fp=fps.flatten∧sl.fp.Nodup ∧
   (∀(n:Nat) (x:D.T q) (w:V) (c:List Nat),xs[n]? = some x->sl.ws[n]? = some w->fps[n]? = some c->EO D ρ F.lv σ.H.L q hh n x w c)∧j'=j∧ver'=ver:=λ{y} p2=>by
  cases hk:sl.k with
  |none=>rw[hk]at q3;rw[q3.1]at p2;simp at p2
  |some j=>
   rw[hk]at q3;obtain⟨ver,cp,fps,e1,e2,e3,e4,e5,e6,e7⟩:=q3;have g1':=g1
   rw[e1]at g1';injection g1' with _ a1 a4 _ a5
   exact⟨j,ver,cp,fps,rfl,e1,e2,e3,e4,e5,e6,a1.symm,a4.symm⟩
 unfold yb1 at h;split at h;rename_i c;simp only[VR]at hx;obtain⟨slc,c1,rfl,c3⟩:=hx;have hvc:slc.v.cells=[slc.v]:=by cases hv:slc.v <;> first|rfl|(rw[hv]at c3;simp[V.leaf]at c3)
 split at h;rename_i ty' how hblt;have hofl:off<(D.fl q).length:=Nat.le_of_ble_eq_true hblt
 have core:(hh=none∨∃c',hh=some (i,off,c'))->∀{y:D.T q},ix xs i=some y->k .any (ts.zwv D s (.deep ty q xs (some (i,off,c))))=some r->∃z ts' v H' ρ',zaz P σ.H t (.ap F.lv j' ver' i.toNat off) slc.v=some (v,H')∧VR D ρ' F.lv z v∧TRr D F ρ' ts' {σ with H:=H'}∧k z ts'=some r:=λhhc {y} hy hk'=>by
  obtain⟨p1,p2⟩:=zfe hy;obtain⟨j,ver,cp,fps,hk,e1,e2,e3,e4,e5,e6,rfl,rfl⟩:=base p2;have hlt:i.toNat<xs.length:=(Qaa.1 p2).1;have hw:sl.ws[i.toNat]? = some (sl.ws[i.toNat]'(by omega)):=Qab (by omega);have hc0:fps[i.toNat]? = some (fps[i.toNat]'(by omega)):=Qab (by omega);obtain⟨vs,cs,b1,b2,b3,b4,b5⟩:=e6 i.toNat y _ _ p2 hw hc0;rw[b1]at hw
  rw[b4]at hc0
  have hsp:yzr vs off slc.v.cells=vs.set off slc.v:=by
   rw[hvc];unfold yzr;rw[List.set_eq_take_append_cons_drop,Qbx (by omega)];simp
  refine⟨.any,_,.any,σ.H.set F.lv j' (.arr ver' ty (D.len (.st q)) (sl.ws.set i.toNat (.agg (vs.set off slc.v))) cp),ρ++[⟨sl.v,some j',sl.ws.set i.toNat (.agg (vs.set off slc.v)),(fps.set i.toNat (cs.set off []).flatten).flatten⟩],?_,by simp only[VR],?_,hk'⟩;unfold zaz;rw[Qbx hcond];simp only[hR.get e2,if_true,hw];rw[Qbx ⟨by rw[hvc];show off+1<=vs.length;omega,rfl⟩]
  show some (V.any,σ.H.set F.lv j' (.arr ver' ty (D.len (.st q)) (sl.ws.set i.toNat (.agg (yzr vs off slc.v.cells))) cp))=_;rw[hsp];rw[hR.zwc];refine yhi hD hR ho h1 hk q1 e1 e2 e3 e4 e5 e6 hhc p1 p2 (by rw[how];rfl) c1 c3 hw b2 b3 hc0 hofl λf p u b t1 t2 t3 hne =>?_
  have:=b5 f p u b t1 t2 t3
  have hno:z0g hh i.toNat f=none:=by
   rcases hhc with rfl|⟨c',rfl⟩
   rfl;simp[z0g];exact λe=>hne e.symm
  rw[hno]at this;exact this
 split at h;obtain⟨y,hy,h⟩:=z0o h;exact .inl (core (.inl rfl) hy h);rename_i p;obtain⟨n,f',c'⟩:=p;split at h;rename_i hff;have hff:f'=off:=Qaj hff;subst hff;obtain⟨_,hs,h⟩:=z0o h
 have hni:n=i:=by
  unfold zgw at hs;split at hs;rename_i e;exact e;cases hs
 subst hni;obtain⟨y,hy,h⟩:=z0o h;exact .inl (core (.inr ⟨c',rfl⟩) hy h);exact .inr ⟨s,h⟩;cases h;rename_i cells;simp only[VR]at hx;obtain⟨us,rfl,hx⟩:=hx;split at h;split at h;split at h;rename_i rr hrr;obtain⟨y,hy,h⟩:=z0o h;obtain⟨p1,p2⟩:=zfe hy;obtain⟨j,ver,cp,fps,hk,e1,e2,e3,e4,e5,e6,rfl,rfl⟩:=base p2;have hlt:i.toNat<xs.length:=(Qaa.1 p2).1;obtain⟨a1,a2,a3⟩:=zju (L:=σ.H.L) hrr hx
 have hw:sl.ws[i.toNat]? = some (sl.ws[i.toNat]'(by omega)):=Qab (by omega);obtain⟨vs,cs,b1,b2,b3,b4,b5⟩:=e6 i.toNat y _ _ p2 hw (Qab (show i.toNat<fps.length by omega));rw[b1]at hw;have hul:us.length=(D.fl q).length:=by rw[<-hx.length];exact a1
 have hsp:yzr vs 0 us=us:=by
  unfold yzr;simp[List.drop_eq_nil_of_le (show vs.length<=us.length by omega)]
 refine .inl ⟨.any,_,.any,σ.H.set F.lv j' (.arr ver' ty (D.len (.st q)) (sl.ws.set i.toNat (.agg us)) cp),ρ++[⟨sl.v,some j',sl.ws.set i.toNat (.agg us),(fps.set i.toNat []).flatten⟩],?_,by simp only[VR],?_,h⟩;unfold zaz;rw[Qbx hcond];simp only[hR.get e2,if_true,hw];rw[Qbx ⟨by show 0+us.length<=vs.length;omega,rfl⟩]
 show some (V.any,σ.H.set F.lv j' (.arr ver' ty (D.len (.st q)) (sl.ws.set i.toNat (.agg (yzr vs 0 us))) cp))=_;rw[hsp];rw[hR.zwc]
 exact yit hD hR ho h1 hk q1 e1 e2 e3 e4 e5 e6 p1 hlt hul λf p u t1 t2=>by
  have:=a3 f p u t1 t2;rwa[Nat.zero_add]at this
 exact .inr ⟨_,h⟩;cases h;exact .inr ⟨s,h⟩;cases h;cases h
theorem yaq{R:Type}(hR:TRr D F ρ ts σ){t:Nat}{a x:TV D.T}{va vx:V}{k:TV D.T->TS D.T->Option R}{kf:Nat->Option R}{r:R}(h:y4m P D ts t a x k kf=some r)(ha:VR D ρ F.lv a va)(hx:VR D ρ F.lv x vx) :
  (∃z ts' v H' ρ',zaz P σ.H t va vx=some (v,H')∧VR D ρ' F.lv z v∧TRr D F ρ' ts' {σ with H:=H'}∧k z ts'=some r)∨∃s,kf s=some r:=by
 unfold y4m at h;split at h;rename_i hc;simp only[Qag,Qbm]at hc;obtain⟨⟨c1,c2⟩,c3⟩:=hc;have hcells:=hx.cells c1
 have hcond:(vx.zzi&&(P.info? t).isSome&&vx.cells.length==P.cellsOf t)=true:=by
  simp only[Qag,Qbm];exact⟨⟨hx.zzi c1,c2⟩,by rw[<-hcells.length];exact c3⟩
 split at h;rename_i s off;simp only[VR]at ha;obtain⟨sl,i,h1,h2,rfl⟩:=ha;split at h;rename_i cs ho;split at h;rename_i hoff;left;obtain⟨sl',k1,k2⟩:=hR.ob s _ ho
 rw[h1]at k1;injection k1 with k1;subst k1
 simp only[OR]at k2;obtain⟨i',vs,q1,q2,q3⟩:=k2
 rw[h2]at q1;injection q1 with q1;subst q1
 have hlt:=(Qaa.1 q2).1;refine⟨.any,_,.any,σ.H.set F.lv i (.cells (yzr vs off vx.cells)),ρ,?_,by simp only[VR],?_,h⟩;unfold zaz;rw[Qbx hcond];simp only[hR.get q2];rw[Qbx (by rw[<-hcells.length,<-q3.length];exact hoff)];rw[hR.zwc];exact hR.upd ho trivial h1 h2 _ _ (by simp only[OR];exact⟨i,_,h2,by simp[hlt],q3.yzr hcells off⟩);cases h;cases h;rename_i s τ i y off;simp only[VR]at ha
 obtain⟨sl,w,h1,h2,h3,h4,h5⟩:=ha;split at h;rename_i ty τ' xs ho;split at h;rename_i hoff;obtain⟨sl',k1,k2⟩:=hR.ob s _ ho
 rw[h1]at k1;injection k1 with k1;subst k1
 simp only[OR]at k2;obtain⟨q1,q2,q3⟩:=k2;obtain⟨rfl,hnat,hoff⟩:=hoff;split at h;rename_i z hz;left;obtain⟨d1,d2,d3⟩:=DR.z74 hD h4 hx c1 hoff hz hnat
 cases hk:sl.k with
 |none=>
  rw[hk]at q3
  rcases q3 with ⟨e1,e2⟩|⟨e1,e2⟩
  rw[e2]at h3;simp at h3
  rw[e2 trivial]at h3;simp at h3
 |some j=>
  rw[hk]at q3 h5;obtain⟨ver,cp,e1,e2⟩:=q3;obtain⟨ver',n,e3,rfl⟩:=h5
  rw[e1]at e3;injection e3 with _ _ e3 _ e4;subst e3;subst e4
  have hlt:=(Qaa.1 e2).1;have hit:=(Qaa.1 h3).1
  let ws':=sl.ws.set i.toNat (Go.Ab.z74 w (yzr w.cells off vx.cells))
  let sl':Slot:=⟨sl.v,some j,ws',[]⟩
  have hor:OR D (ρ++[sl']) F.lv (σ.H.L.set j (some (.arr ver ty (D.len τ) ws' cp))) sl' (.acc ty τ (xs.set i.toNat z) true):=by
   simp only[OR];refine⟨by simp[sl',ws',q1],λa x' v' ha hv' =>?_,ver,cp,by simp[sl',ws',e1],by simp[sl',hlt]⟩;simp only[sl',ws']at hv';by_cases hia:i.toNat=a;subst hia;rw[Qaq (by rw[<-q1];exact hit)]at ha;rw[Qaq hit]at hv';injection ha with ha;injection hv' with hv';subst ha;subst hv';exact d1;rw[Qam hia]at ha hv';exact q2 a x' v' ha hv'
  have hm:=hR.move ho trivial h1 hk (.acc ty τ (xs.set i.toNat z) true) (.arr ver ty (D.len τ) ws' cp) sl' rfl hor;refine⟨.any,_,.any,σ.H.set F.lv j (.arr ver ty (D.len τ) ws' cp),ρ++[sl'],?_,by simp only[VR],?_,h⟩;unfold zaz;rw[Qbx hcond];simp only[hR.get e2,if_true,h3];rw[Qbx ⟨d3,d2⟩];rw[hR.zwc]
  have:=hm.z9k (TV.ren D s ts.nx) λx v hxv=>VR.ren (lookup_append h1) (sl':=sl') (by rw[<-hR.nx];simp) rfl hxv
  exact this
 exact .inr ⟨_,h⟩;cases h;cases h;cases h;rename_i s i off;simp only[VR]at ha;obtain⟨sl,j',ver',m,h1,g1,g2,g3,rfl⟩:=ha;split at h;rename_i ty q xs hh ho;split at h;rename_i hoff;obtain⟨hflat,hoff⟩:=hoff;obtain⟨y,hy,h⟩:=z0o h;obtain⟨sl',k1,k2⟩:=hR.ob s _ ho
 rw[h1]at k1;injection k1 with k1;subst k1
 simp only[OR]at k2;obtain⟨q1,q3⟩:=k2;obtain⟨p1,p2⟩:=zfe hy;have hlt:i.toNat<xs.length:=(Qaa.1 p2).1;split at h
 ·rename_i z hz;left
  cases hk:sl.k with
  |none=>rw[hk]at q3;rw[q3.1]at hlt;simp at hlt
  |some j=>
  rw[hk]at q3;obtain⟨ver,cp,fps,e1,e2,e3,e4,e5,e6,e7⟩:=q3
  rw[e1]at g1;injection g1 with _ g1 g4 _ g5;subst g1;subst g4
  have hw:sl.ws[i.toNat]? = some (sl.ws[i.toNat]'(by omega)):=Qab (by omega);have hc0:fps[i.toNat]? = some (fps[i.toNat]'(by omega)):=Qab (by omega);obtain⟨vs,cs,b1,b2,b3,b4,b5⟩:=e6 i.toNat y _ _ p2 hw hc0;have hlen:=hcells.length;have hjl:=(Qaa.1 e2).1
  let w':V:=.agg (yzr vs off vx.cells)
  let ws':=sl.ws.set i.toNat w'
  let sl':Slot:=⟨sl.v,some j,ws',sl.fp⟩
  have hsp:(yzr vs off vx.cells).length=vs.length:=by
   unfold yzr;simp only[Qap,Qay,List.length_drop];omega
  have hor:OR D (ρ++[sl']) F.lv (σ.H.L.set j (some (.arr ver ty (D.len (.st q)) ws' cp))) sl' (.deep ty q (xs.set i.toNat (D.make q z)) hh):=by
   have hL':∀n∈sl.fp,(σ.H.L.set j (some (.arr ver ty (D.len (.st q)) ws' cp)))[n]? = σ.H.L[n]? := λn hn=>by
    rw[Qam (λe=>(hR.fpl s _ sl n ho trivial h1 hn).1 (by rw[hk,e]))]
   simp only[OR];refine⟨by simp[sl',ws',q1],ver,cp,fps,by simp[sl',ws',e1],by simp[sl',hjl],by simpa using e3,e4,e5,λa x' u' c' r1 r2 r3 =>?_,λn f s' e=>by have:=e7 n f s' e;simpa using this⟩;have hcL:∀n∈c',(σ.H.L.set j (some (.arr ver ty (D.len (.st q)) ws' cp)))[n]? = σ.H.L[n]? := λn hn=>hL' n (by rw[e4];exact List.mem_flatten.2 ⟨c',Qax r3,hn⟩)
   simp only[sl',ws']at r2;by_cases hia:i.toNat=a;subst hia;rw[Qaq hlt]at r1;rw[Qaq (by omega)]at r2;injection r1 with r1;injection r2 with r2;subst r1;subst r2
   rw[hc0]at r3;injection r3 with r3;subst r3
   refine EO.mono (L:=σ.H.L) [sl'] ⟨_,cs,rfl,by rw[hsp];exact b2,b3,b4,λf p u b t1 t2 t3 =>?_⟩ hcL;rw[hD.getMake]at t1;obtain⟨c,u1,u2⟩:=zui hz f p t1;have hf:=(HL.zay _ _ _ _ t1).1;by_cases hin:off<=f∧f<off+x.cells.length
   have hown:D.ow q f=none:=by
    have:=Qat.1 hflat (f-off) (List.mem_range.2 (by omega));rw[show off+(f-off)=f by omega]at this;simpa using this
   have hnh:z0g hh i.toNat f=none:=by
    cases hho:z0g hh i.toNat f with
    |none=>rfl
    |some s'=>
     obtain⟨pf,hpf,_⟩:=HL.zgi (D.fl q) (D.get q y) f hf;have:=b5 f pf _ _ hpf (Qab (show f<vs.length by omega)) (Qab (show f<cs.length by omega));rw[hho]at this;obtain⟨_,h9,_⟩:=this;rw[hown]at h9;cases h9
   obtain⟨pf,hpf,_⟩:=HL.zgi (D.fl q) (D.get q y) f hf;have hbb:=b5 f pf _ b hpf (Qab (show f<vs.length by omega)) t3;rw[hnh]at hbb ⊢;simp only at hbb ⊢;rw[hown]at hbb ⊢;have hb0:b=[]:=by cases hbb;rfl
   subst hb0
   have v1:x.cells[f-off]? = some c:=by
    unfold zfa at u1;rw[Qal (by simp only[Qap,Qay,z82];omega),Qav (by simp only[Qay,z82];omega)]at u1;rw[<-u1];congr 1;simp only[Qay,z82];omega
   have v2:vx.cells[f-off]? = some u:=by
    unfold yzr at t2;rw[Qal (by simp only[Qap,Qay];omega),Qav (by simp only[Qay];omega)]at t2;rw[<-t2];congr 1;simp only[Qay];omega
   exact .dat (zh3 u2 (hcells.zte v1 v2))
   have v1:(D.leaves (D.fl q) (D.get q y))[f]? = some c:=by
    unfold zfa at u1;by_cases hlo:f<off;rw[Qaz,Qal (by simp only[Qay,z82];omega),Qaw,Qbx hlo]at u1;exact u1;rw[Qav (by simp only[Qap,Qay,z82];omega),Qbf]at u1;rw[<-u1];congr 1;simp only[Qap,Qay,z82];omega
   have v2:vs[f]? = some u:=by
    unfold yzr at t2;by_cases hlo:f<off;rw[Qaz,Qal (by simp only[Qay];omega),Qaw,Qbx hlo]at t2;exact t2;rw[Qav (by simp only[Qap,Qay];omega),Qbf]at t2;rw[<-t2];congr 1;simp only[Qap,Qay];omega
   rw[zdb,Qaf]at v1;obtain⟨py,v3,v4⟩:=v1
   have hty:py.1=p.1:=by
    have h8:=(HL.zay _ _ _ _ v3).2;have h9:=(HL.zay _ _ _ _ t1).2;rw[h8]at h9;injection h9
   obtain⟨ty1,a1⟩:=py;obtain⟨ty2,a2⟩:=p;simp only at hty;subst hty;rw[<-v4]at u2;have:=yea u2;subst this;exact b5 f _ u b v3 v2 t3;rw[Qam hia]at r1 r2;exact EO.mono (L:=σ.H.L) [sl'] (e6 a x' u' c' r1 r2 r3) hcL
  have hm:=hR.move ho trivial h1 hk (.deep ty q (xs.set i.toNat (D.make q z)) hh) (.arr ver ty (D.len (.st q)) ws' cp) sl' rfl hor (λ_ h=>h);refine⟨.any,_,.any,σ.H.set F.lv j (.arr ver ty (D.len (.st q)) ws' cp),ρ++[sl'],?_,by simp only[VR],?_,h⟩;unfold zaz;rw[Qbx hcond];simp only[hR.get e2,if_true,hw];rw[Qbx ⟨by rw[b1];show off+vx.cells.length<=vs.length;omega,by rw[b1];rfl⟩];rw[b1];rfl;rw[hR.zwc]
  have:=hm.z9k (TV.ren D s ts.nx) λx v hxv=>VR.ren (lookup_append h1) (sl':=sl') (by rw[<-hR.nx];simp) rfl hxv
  exact this
 exact .inr ⟨_,h⟩;cases h;exact y6d hD hR h ho (by simp only[VR];exact⟨sl,j',ver',m,h1,g1,g2,g3,rfl⟩) hx c1 hcond;cases h;rename_i s;simp only[VR]at ha;obtain⟨sl,i,h1,h2,rfl⟩:=ha;split at h;rename_i ty b q ho;left;obtain⟨sl',k1,k2⟩:=hR.ob s _ ho
 rw[h1]at k1;injection k1 with k1;subst k1
 simp only[OR]at k2;obtain⟨i',u,c,q1,q2,q3,q4⟩:=k2
 rw[h2]at q1;injection q1 with q1;subst q1
 have hlt:=(Qaa.1 q2).1
 have hxl:vx.cells=[vx]:=by
  have h3:=hx;simp only[VR]at h3;obtain⟨_,_,_,h4⟩:=h3
  cases vx <;> first|rfl|(simp[V.leaf]at h4)
 refine⟨.any,_,.any,σ.H.set F.lv i (.arr 0 ty 2 [.agg [u,vx]] (some 1)),ρ,?_,by simp only[VR],?_,h⟩;unfold zaz;rw[Qbx hcond];simp only[hR.get q2,if_true,Qcd];rw[Qbx (by rw[hxl];exact⟨by simp[V.cells],rfl⟩),hxl];rfl;rw[hR.zwc];exact hR.upd ho trivial h1 h2 _ _ (by simp only[OR];exact⟨i,u,vx,h2,by simp[hlt],q3,hx⟩);cases h;cases h;cases h
def DRL(D:Dat)(t:DTy)(xs:List (t.S D.T))(ws:List V):Prop:=ws.length=xs.length∧∀(j:Nat) (x:t.S D.T) (w:V),xs[j]? = some x->ws[j]? = some w->DR D t x w
omit hD in
theorem DRL.append{t:DTy}{xs ys:List (t.S D.T)}{ws us:List V}(h:DRL D t xs ws)(k:DRL D t ys us):DRL D t (xs++ys) (ws++us):=by
 refine⟨by simp[h.1,k.1],λj x w hx hw =>?_⟩;rw[Qbe]at hx hw;rw[h.1]at hw;split at hx;rw[Qbx ‹_›]at hw;exact h.2 j x w hx hw;rw[Qby ‹_›]at hw;exact k.2 _ x w hx hw
omit hD in
theorem DRL.nil(t:DTy):DRL D t ([]:List (t.S D.T)) []:=⟨rfl,λj x w hx=>by simp at hx⟩
omit hD in
theorem yfi(hR:TRr D F ρ ts σ){τ:DTy}{x:TV D.T}{vx:V}{ys:List (τ.S D.T)}(h:tSrc D ts τ x=some ys)(hx:VR D ρ F.lv x vx):∃us,zgv σ.H (D.len τ) vx=some us∧DRL D τ ys us:=by
 unfold tSrc at h;split at h;injection h with h;subst h;simp only[VR]at hx;subst hx;exact⟨[],rfl,DRL.nil _⟩;rename_i t xs fl;obtain⟨rfl,rfl⟩:=z5w h;simp only[VR]at hx;obtain⟨hx,_⟩:=hx
 cases hx with
 |nil=>exact⟨[],rfl,DRL.nil _⟩
 |sl _ _ ws full hl hh=>exact⟨ws,by simp[zgv,z9b],hl,hh⟩
 rename_i s;split at h;rename_i ty t xs w ho;obtain⟨rfl,rfl⟩:=z5w h;simp only[VR]at hx;obtain⟨sl,h1,rfl,hleaf⟩:=hx;obtain⟨sl',k1,k2⟩:=hR.ob s _ ho
 rw[h1]at k1;injection k1 with k1;subst k1
 simp only[OR]at k2;obtain⟨q1,q2,q3⟩:=k2;refine⟨sl.ws,?_,q1,q2⟩
 cases hk:sl.k with
 |none=>
  rw[hk]at q3
  rcases q3 with ⟨e1,e2⟩|⟨e1,e2⟩
  rw[e1,e2];rfl
  rw[e1.1];simp[zgv,z9b]
 |some j=>
  rw[hk]at q3;obtain⟨ver,cp,e1,e2⟩:=q3;rw[e1];simp[zgv,z9b,hR.get e2]
 cases h;rename_i s;split at h;injection h with h;subst h;simp only[VR]at hx;subst hx;refine⟨s.map λb=>.int .u8 b.toNat,by simp[zgv,Dat.len],?_,λj x w hx hw =>?_⟩;rw[Qbd];show s.length=(yac s).length;rw[yac,Qbd];replace hx:(s.map λb=>((b.toNat:Nat):Int))[j]? = some x:=hx;rw[Qan]at hx hw
 cases hb:s[j]? with
 |none=>rw[hb]at hx;cases hx
 |some b=>
  rw[hb]at hx hw;injection hx with hx;injection hw with hw;subst hx;subst hw;exact .int .u8 _
 cases h;cases h
omit hD in
theorem zh8(hR:TRr D F ρ ts σ){τ:DTy}{e:Nat}{v:V}{xs ys:List (τ.S D.T)}{ws us:List V}{w:Bool}(hx:DRL D τ xs ws)(hy:DRL D τ ys us)(hroom:xs.length+ys.length<=zdg)
  (hv:(v = .nils∧ws=[])∨((v = .sl (D.len τ) ws true∧τ ≠ .int .u8)∧(w=true->ws=[]))) :
  ∃v' H' sl',z0t σ.H e (D.len τ) v us=some (v',H')∧v'.leaf=true∧sl'.v=v'∧TRr D F (ρ++[sl']) (ts.new D (.acc e τ (xs++ys) w)) {σ with H:=H'}∧(∀i,sl'.k=some i->i=σ.H.L.length)∧∀i,sl'.k≠some i->H'.L[i]? = σ.H.L[i]? := by
 have hxy:=hx.append hy
 cases us with
 |nil=>
  have hy0:ys=[]:=Qao (by rw[<-hy.1];rfl);subst hy0;refine⟨v,σ.H,⟨v,none,ws,[]⟩,?_,?_,rfl,?_,(λi h=>by cases h),λi _=>rfl⟩
  rcases hv with ⟨rfl,_⟩|⟨⟨rfl,_⟩,_⟩ <;> simp[z0t]
  rcases hv with ⟨rfl,_⟩|⟨⟨rfl,_⟩,_⟩ <;> rfl
  have:=hR.new (.acc e τ (xs++[]) w) ⟨v,none,ws,[]⟩ σ.H hR.lv hR.E (Qbw _) (λ_ _=>rfl) (by simp) (by simp only[OR,List.append_nil];exact⟨hx.1,hx.2,hv⟩)
  exact this
 |cons y r=>
  have hlen:ws.length+(y::r).length<=zdg:=by rw[hx.1,hy.1];exact hroom
  refine⟨.hs F.lv σ.H.L.length 0 0 (ws++y::r).length false,σ.H.push (.arr 0 e (D.len τ) (ws++y::r) none),⟨.hs F.lv σ.H.L.length 0 0 (ws++y::r).length false,some σ.H.L.length,ws++y::r,[]⟩,?_,rfl,rfl,?_,(λi h=>by injection h with h;exact h.symm),λi h =>?_⟩
  rcases hv with ⟨rfl,rfl⟩|⟨⟨rfl,_⟩,_⟩
  simp only[z0t];rw[Qbx (by simpa using hlen)];simp[hR.lv];simp only[z0t,if_true];rw[Qbx (by simpa using hlen)];simp[hR.lv]
  exact hR.new _ _ _ hR.lv hR.E (by simp[Heap.push]) (λi hi=>by simp only[Heap.push];rw[Qal hi]) (λi hi=>by injection hi with hi;omega)
   (by simp only[OR];exact⟨hxy.1,hxy.2,0,none,rfl,by simp[Heap.push]⟩)
  have hi:i≠σ.H.L.length:=λe=>h (by rw[e])
  simp only[Heap.push];rw[Qbe];split;rfl;rw[Qcf (by simp;omega),Qcf (by omega)]
theorem ynu{q e:Nat}{x:HL D.T (D.fl q)}{hole:Option (Nat×Nat)}{us ws:List V}{xs:List (D.T q)}{fps:List (List Nat)}{L L':List (Option zz4)}(sl':Slot)(q1:ws.length=xs.length)(e3:fps.length=xs.length)(hl:us.length=(D.fl q).length)
  (hrow:∀(f:Nat) (p:(t:DTy)×t.S D.T) (u:V),HL.nth (D.fl q) x f=some p->us[f]? = some u->zku D ρ lv L q f hole p u) (hL:∀i∈fps.flatten,L'[i]? = L[i]?)
  (e6:∀(n:Nat) (x:D.T q) (w:V) (c:List Nat),xs[n]? = some x->ws[n]? = some w->fps[n]? = some c->EO D ρ lv L q none n x w c) :
  ∀(n:Nat) (y:D.T q) (w:V) (c:List Nat),(xs++[D.make q x])[n]? = some y->(ws++[.agg us])[n]? = some w->(fps++[[]])[n]? = some c->EO D (ρ++[sl']) lv L' q (hole.map λp=>((xs.length:Int),p.1,p.2)) n y w c:=λn y w c h1 h2 h3=>by
 rw[Qbe]at h1 h2 h3;by_cases hn:n<xs.length;rw[Qbx hn]at h1;rw[Qbx (by omega)]at h2 h3
 exact EO.mono (L:=L) [sl'] ((e6 n y w c h1 h2 h3).y32 _ λn' f' s' e=>(by
  rw[Qaf]at e;obtain⟨g,_,e⟩:=e;injection e with e e';subst e
  rw[Int.toNat_natCast];omega)) λi hi=>hL i (List.mem_flatten.2 ⟨c,Qax h3,hi⟩)
 rw[Qby hn]at h1;rw[Qby (by omega)]at h2 h3
 have hn0:n=xs.length:=by
  have:=(Qaa.1 h1).1;simp at this;omega
 subst hn0;rw[Nat.sub_self]at h1;rw[q1,Nat.sub_self]at h2;rw[e3,Nat.sub_self]at h3;simp at h1 h2 h3;subst h1;subst h2;subst h3;exact EO.mono (L:=L) [sl'] (yn4 hD (by simp) hl hrow) (by simp)
theorem y2n{R:Type}(hR:TRr D F ρ ts σ){t u q:Nat}{s:TV D.T}{cells:List (TV D.T)}{vs vx:V}{k:TV D.T->TS D.T->Option R}{kf:Nat->Option R}{r:R}(h:y1a P D ts t u s q cells k kf=some r)(hs:VR D ρ F.lv s vs)(hx:VR D ρ F.lv (.bsl q [.agg cells]) vx) :
  (∃z ts' v H' ρ',hAppend P σ.H t u vs vx=some (v,H')∧VR D ρ' F.lv z v∧TRr D F ρ' ts' {σ with H:=H'}∧k z ts'=some r)∨∃s,kf s=some r:=by
 simp only[VR,VRL]at hx;obtain⟨ws0,rfl,w0,r0,rfl,⟨us,rfl,hx⟩,rfl⟩:=hx;unfold y1a at h;split at h;rename_i e du hu hdu;split at h;rename_i i hi;split at h;rename_i z hz;split at h;rename_i hc;simp only[Qag,Qbm,Qar]at hc;obtain⟨⟨⟨⟨c1,c2⟩,c3⟩,c4⟩,c5⟩:=hc
 have happ:∀v' H',z0t σ.H e (D.len (.st q)) vs [.agg us]=some (v',H')->hAppend P σ.H t u vs (.sl (D.len (.st q)) [.agg us] true)=some (v',H'):=λv' H' ha=>by
  unfold hAppend;rw[hu,hdu];simp only[hi,hz];rw[<-c5,show zgv σ.H (D.len (.st q)) (.sl (D.len (.st q)) [.agg us] true)=some [.agg us] by simp[zgv,z9b]];simp only;rw[Qbx (by simp only[Qag,Qbm,Qar];exact⟨⟨⟨c1,by omega⟩,c3⟩,by omega⟩)];exact ha
 have own:∀(sl':Slot) (v':V),sl'.v=v'->v'.leaf=true->VR D (ρ++[sl']) F.lv (.own ts.nx) v':=λsl' v' h1 h2=>by
  simp only[VR];exact⟨sl',by rw[<-hR.nx];simp,h1.symm,h2⟩
 split at h;rename_i rr hrr;obtain⟨a1,a2,a3⟩:=zju (L:=σ.H.L) hrr hx;have hul:us.length=(D.fl q).length:=by rw[<-hx.length];exact a1
 have hrow:∀(f:Nat) (p:(t:DTy)×t.S D.T) (u:V),HL.nth (D.fl q) rr.1 f=some p->us[f]? = some u->zku D ρ F.lv σ.H.L q f rr.2 p u:=λf p u t1 t2=>by
  have:=a3 f p u t1 t2;rwa[Nat.zero_add]at this
 have fresh:1<=zdg->(vs = .nils∨vs = .sl (D.len (.st q)) [] true)->∃v' H' sl',z0t σ.H e (D.len (.st q)) vs [.agg us]=some (v',H')∧v'.leaf=true∧sl'.v=v'∧TRr D F (ρ++[sl']) (ts.new D (.deep e q ([]++[D.make q rr.1]) (rr.2.map λp=>((([]:List (D.T q)).length:Int),p.1,p.2)))) {σ with H:=H'}:=λhroom hv=>by
  refine⟨.hs F.lv σ.H.L.length 0 0 1 false,σ.H.push (.arr 0 e (D.len (.st q)) [.agg us] none),⟨.hs F.lv σ.H.L.length 0 0 1 false,some σ.H.L.length,[.agg us],[]⟩,?_,rfl,rfl,?_⟩
  rcases hv with rfl|rfl
  simp only[z0t];rw[Qbx (by simpa using hroom)];simp[hR.lv];simp only[z0t,if_true];rw[Qbx (by simpa using hroom)];simp[hR.lv];refine hR.new _ _ _ hR.lv hR.E (by simp[Heap.push]) (λi hi=>by simp only[Heap.push];rw[Qal hi]) (λi hi=>by injection hi with hi;omega) ?_;simp only[OR];refine⟨rfl,0,none,[[]],rfl,by simp[Heap.push],rfl,rfl,List.nodup_nil,?_,λn f s' e =>?_⟩
  exact ynu hD (e:=e) (xs:=[]) (ws:=[]) (fps:=[]) (L:=σ.H.L) _ rfl rfl hul hrow (by simp) (λn x w c h=>by simp at h);rw[Qaf]at e;obtain⟨g,_,e⟩:=e;injection e with e e';subst e;simp
 split at h;obtain⟨zs,hzs,h⟩:=z0o h;obtain⟨hroom,rfl⟩:=zuh hzs;simp only[VR]at hs;subst hs;obtain⟨v',H',sl',b1,b2,b3,b4⟩:=fresh (by simpa using hroom) (.inl rfl);exact .inl ⟨_,_,v',H',_,happ _ _ b1,own sl' v' b3 b2,b4,h⟩;rename_i s;split at h;rename_i e' q' xs' hh ho;split at h;rename_i he;subst he;split at h;split at h;rename_i xs hl;obtain⟨zs,hzs,h⟩:=z0o h;obtain⟨hroom,rfl⟩:=zuh hzs;obtain⟨eq1,eq2⟩:=z5w hl
 injection eq1 with eq1;subst eq1;replace eq2:xs'=xs:=eq2.symm;subst eq2;simp only[VR]at hs;obtain⟨sl,h1,rfl,hleaf⟩:=hs;obtain⟨sl',k1,k2⟩:=hR.ob s _ ho
 rw[h1]at k1;injection k1 with k1;subst k1
 simp only[OR]at k2;obtain⟨q1,q3⟩:=k2
 have hsn:∀o,s<(ts.new D o).nx:=λo=>by
  have:=(Qaa.1 h1).1;simp only[TS.new];rw[<-hR.nx];omega
 cases hk:sl.k with
 |none=>
  rw[hk]at q3;obtain⟨rfl,hv,_,_⟩:=q3;obtain⟨v',H',sl',b1,b2,b3,b4⟩:=fresh hroom hv
  exact .inl ⟨_,_,v',H',_,happ _ _ b1,own sl' v' b3 b2,b4.drop s (hsn _),h⟩
 |some j=>
  rw[hk]at q3;obtain⟨ver,cp,fps,e1,e2,e3,e4,e5,e6,e7⟩:=q3;have hlt:=(Qaa.1 e2).1;have hlen:sl.ws.length+[V.agg us].length<=zdg:=by rw[q1];exact hroom
  let sl':Slot:=⟨.hs F.lv j (ver+1) 0 (sl.ws++[V.agg us]).length false,some j,sl.ws++[V.agg us],sl.fp⟩
  have hL':∀n∈sl.fp,(σ.H.L.set j (some (.arr (ver+1) e' (D.len (.st q')) (sl.ws++[V.agg us]) none)))[n]? = σ.H.L[n]? := λn hn=>by
   rw[Qam (λe=>(hR.fpl s _ sl n ho trivial h1 hn).1 (by rw[hk,e]))]
  have hm:=hR.move ho trivial h1 hk (.deep e' q' (xs'++[D.make q' rr.1]) (rr.2.map λp=>((xs'.length:Int),p.1,p.2))) (.arr (ver+1) e' (D.len (.st q')) (sl.ws++[V.agg us]) none) sl' rfl
   (by
     simp only[OR];refine⟨by simp[sl',q1],ver+1,none,fps++[[]],rfl,by simp[sl',hlt],by simp[e3],by simp[sl',e4],e5,?_,λn f s' e =>?_⟩;exact ynu hD (e:=e') (L:=σ.H.L) sl' q1 e3 hul hrow (λn hn=>hL' n (by rw[e4];exact hn)) e6;rw[Qaf]at e;obtain⟨g,_,e⟩:=e;injection e with e e';subst e
     simp) (λ_ h=>h)
  refine .inl ⟨_,_,sl'.v,σ.H.set F.lv j (.arr (ver+1) e' (D.len (.st q')) (sl.ws++[V.agg us]) none),_,happ _ _ ?_,own sl' sl'.v rfl rfl,by rw[hR.zwc];exact hm,h⟩;rw[e1];simp only[z0t,hR.get e2,true_and];rw[Qbx hlen];simp[sl']
 cases h;exact .inr ⟨s,h⟩;cases h;cases h;cases h;exact .inr ⟨_,h⟩;cases h;cases h;cases h;cases h;cases h
omit hD in
theorem zrz{R:Type}(hR:TRr D F ρ ts σ){t u:Nat}{s x:TV D.T}{vs vx:V}{k:TV D.T->TS D.T->Option R}{r:R}(h:y8y P D ts t u s x k=some r)(hs:VR D ρ F.lv s vs)(hx:VR D ρ F.lv x vx) :
  ∃z ts' v H' ρ',hAppend P σ.H t u vs vx=some (v,H')∧VR D ρ' F.lv z v∧TRr D F ρ' ts' {σ with H:=H'}∧k z ts'=some r ∧
   ((∀q,s ≠ .own q)->∃sl' o,ρ'=ρ++[sl']∧ts'=ts.new D o∧o.live∧(∀i,sl'.k=some i->i=σ.H.L.length)∧∀i,sl'.k≠some i->H'.L[i]? = σ.H.L[i]?):=by
 unfold y8y at h;split at h;rename_i e du hu hdu;split at h;rename_i i τ hi hτ;split at h;rename_i z hz;split at h;rename_i hc;simp only[Qag,Qbm,Qar]at hc;obtain⟨⟨⟨⟨c1,c2⟩,c3⟩,c4⟩,c5⟩:=hc;split at h;rename_i ys xs w old hys hdst;obtain⟨zs,hzs,h⟩:=z0o h;obtain⟨hroom,rfl⟩:=zuh hzs;obtain⟨us,hus,hyu⟩:=yfi hR hys hx
 have happ:∀v' H',z0t σ.H e (D.len τ) vs us=some (v',H')->hAppend P σ.H t u vs vx=some (v',H'):=λv' H' ha=>by
  unfold hAppend;rw[hu,hdu];simp only[hi,hz];rw[<-c5,hus];simp only;rw[Qbx (by simp only[Qag,Qbm,Qar];exact⟨⟨⟨c1,by omega⟩,c3⟩,by omega⟩)];exact ha
 have own:∀(sl':Slot) (v':V),sl'.v=v'->v'.leaf=true->VR D (ρ++[sl']) F.lv (.own ts.nx) v':=λsl' v' h1 h2=>by
  simp only[VR];exact⟨sl',by rw[<-hR.nx];simp,h1.symm,h2⟩
 unfold tDst at hdst;split at hdst;simp only[Qbu,Qbz]at hdst;obtain⟨rfl,rfl,rfl⟩:=hdst;simp only[VR]at hs;subst hs;obtain⟨v',H',sl',a1,a2,a3,a4,a5⟩:=zh8 (e:=e) hR (w:=true) (DRL.nil τ) hyu hroom (.inl ⟨rfl,rfl⟩);exact⟨_,_,v',H',_,happ _ _ a1,own sl' v' a3 a2,a4,h,λ_=>⟨sl',_,rfl,rfl,trivial,a5⟩⟩;by_cases hu8:τ = .int .u8;rw[Qbx hu8]at hdst;cases hdst
 rw[Qby hu8,Qaf]at hdst;obtain⟨xs',hl,hdst⟩:=hdst;simp only[Qbz]at hdst;obtain⟨rfl,rfl,rfl⟩:=hdst;obtain⟨rfl,rfl⟩:=z5w hl;simp only[VR]at hs;obtain⟨hs,hf,_⟩:=hs;obtain⟨ws,rfl⟩:=hf (by omega)
 cases hs with
 |sl _ _ _ _ hl hh=>
  obtain⟨v',H',sl',a1,a2,a3,a4,a5⟩:=zh8 (e:=e) hR (w:=false) ⟨hl,hh⟩ hyu hroom (.inr ⟨⟨rfl,hu8⟩,by simp⟩);exact⟨_,_,v',H',_,happ _ _ a1,own sl' v' a3 a2,a4,h,λ_=>⟨sl',_,rfl,rfl,trivial,a5⟩⟩
 by_cases hu8:τ = .int .u8;rw[Qbx hu8]at hdst;cases hdst;rw[Qby hu8,Qaf]at hdst;obtain⟨xs',hl,hdst⟩:=hdst;simp only[Qbz]at hdst;obtain⟨rfl,rfl,rfl⟩:=hdst;obtain⟨rfl,rfl⟩:=z5w hl;simp only[VR]at hs;obtain⟨hs,hf,hf2⟩:=hs;obtain⟨ws,rfl⟩:=hf (by omega);have hx0:=hf2 trivial
 cases hs with
 |sl _ _ _ _ hl hh=>
  obtain⟨v',H',sl',a1,a2,a3,a4,a5⟩:=zh8 (e:=e) hR (w:=true) ⟨hl,hh⟩ hyu hroom (.inr ⟨⟨rfl,hu8⟩,λ_=>Qao (by rw[hl,hx0];rfl)⟩);exact⟨_,_,v',H',_,happ _ _ a1,own sl' v' a3 a2,a4,h,λ_=>⟨sl',_,rfl,rfl,trivial,a5⟩⟩
 rename_i s;split at hdst;rename_i e' t' xs' w' ho;split at hdst;rename_i he;subst he;rw[Qaf]at hdst;obtain⟨xs'',hl,hdst⟩:=hdst;simp only[Qbz]at hdst;obtain⟨rfl,rfl,rfl⟩:=hdst;obtain⟨rfl,rfl⟩:=z5w hl;simp only[VR]at hs;obtain⟨sl,h1,rfl,hleaf⟩:=hs;obtain⟨sl',k1,k2⟩:=hR.ob s _ ho
 rw[h1]at k1;injection k1 with k1;subst k1
 simp only[OR]at k2;obtain⟨q1,q2,q3⟩:=k2
 have hsn:∀o,s<(ts.new D o).nx:=λo=>by
  have:=(Qaa.1 h1).1;simp only[TS.new];rw[<-hR.nx];omega
 cases hk:sl.k with
 |none=>
  rw[hk]at q3;obtain⟨v',H',sl',a1,a2,a3,a4,a5⟩:=zh8 (e:=e') hR (w:=w') ⟨q1,q2⟩ hyu hroom q3
  exact⟨_,_,v',H',_,happ _ _ a1,own sl' v' a3 a2,a4.drop s (hsn _),h,λq=>(q s rfl).elim⟩
 |some j=>
  rw[hk]at q3;obtain⟨ver,cp,e1,e2⟩:=q3;have hlt:=(Qaa.1 e2).1;have hxy:=DRL.append ⟨q1,q2⟩ hyu;have hlen:sl.ws.length+us.length<=zdg:=by rw[q1,hyu.1];exact hroom
  let sl':Slot:=⟨.hs F.lv j (ver+1) 0 (sl.ws++us).length false,some j,sl.ws++us,[]⟩
  have hm:=hR.move ho trivial h1 hk (.acc e' _ (_++ys) w') (.arr (ver+1) e' (D.len t') (sl.ws++us) none) sl' rfl
   (by simp only[OR];exact⟨hxy.1,hxy.2,ver+1,none,rfl,by simp[sl',hlt]⟩)
  refine⟨_,_,sl'.v,σ.H.set F.lv j (.arr (ver+1) e' (D.len t') (sl.ws++us) none),_,happ _ _ ?_,own sl' sl'.v rfl rfl,by rw[hR.zwc];exact hm,h,λq=>(q s rfl).elim⟩;rw[e1];simp only[z0t,hR.get e2,true_and];rw[Qbx hlen];simp[sl']
 cases hdst;cases hdst;cases hdst;cases h;cases h;cases h;cases h;cases h
omit hD in
theorem yox(hR:TRr D F ρ ts σ){t:Nat}{τ:DTy}:VR D (ρ++[⟨.any,some σ.H.L.length,[],[]⟩]) F.lv (TV.map ts.nx:TV D.T) (.map σ.H.lv σ.H.L.length)∧TRr D F (ρ++[⟨.any,some σ.H.L.length,[],[]⟩]) (ts.new D (.mp t τ [])) {σ with H:=σ.H.push (.map [])}:=by
 refine⟨?_,?_⟩;simp only[VR];exact⟨⟨.any,some σ.H.L.length,[],[]⟩,σ.H.L.length,by rw[<-hR.nx];simp,rfl,by rw[hR.lv]⟩
 exact hR.new _ _ _ hR.lv hR.E (by simp[Heap.push]) (λi hi=>by simp only[Heap.push];rw[Qal hi]) (λi hi=>by injection hi with hi;omega)
  (by simp only[OR];exact⟨σ.H.L.length,[],rfl,rfl,(by simp),(by simp[Heap.push])⟩)
omit hD in
theorem y31{R:Type}(hR:TRr D F ρ ts σ){t:Nat}{r':Option (TV D.T)}{vr:Option V}{k:TV D.T->TS D.T->Option R}{r:R}(h:y0z P D ts t r' k=some r)(h1:∀z,r'=some z->∃v,vr=some v∧VR D ρ F.lv z v)(h2:r'=none->vr=none) :
  ∃z ts' v H' ρ',zpi P σ.H t vr=some (v,H')∧VR D ρ' F.lv z v∧TRr D F ρ' ts' {σ with H:=H'}∧k z ts'=some r:=by
 unfold y0z at h;split at h;rename_i kt e hu;split at h;rename_i τ hτ;obtain⟨a1,a2⟩:=yox hR (t:=t) (τ:=τ);exact⟨_,_,_,_,_,by rw[h2 rfl];rfl,a1,a2,h⟩;rename_i τ q n hτ;obtain⟨a1,a2⟩:=yox hR (t:=t) (τ:=τ);obtain⟨v,e1,e2⟩:=h1 _ rfl;simp only[VR]at e2;subst e2;exact⟨_,_,_,_,_,by rw[e1];simp only[zpi,hu],a1,a2,h⟩;cases h;cases h
theorem zsa{R:Type}(hR:TRr D F ρ ts σ){t:Nat}{m key x:TV D.T}{vm vk vx:V}{k:TV D.T->TS D.T->Option R}{r:R}(h:y0n P D ts t m key x k=some r)(hm:VR D ρ F.lv m vm)(hk:VR D ρ F.lv key vk)(hx:VR D ρ F.lv x vx) :
  ∃z ts' v H' ρ',zd4 P σ.H t vm vk vx=some (v,H')∧VR D ρ' F.lv z v∧TRr D F ρ' ts' {σ with H:=H'}∧k z ts'=some r:=by
 unfold y0n at h;split at h;rename_i kt e q s hu;simp only[VR]at hk;subst hk;split at h;rename_i ty τ es hkt ho;split at h;rename_i y hy;simp only[VR]at hm;obtain⟨sl,i,h1,h2,rfl⟩:=hm;obtain⟨sl',k1,k2⟩:=hR.ob _ _ ho
 rw[h1]at k1;injection k1 with k1;subst k1
 simp only[OR]at k2;obtain⟨i',ms,q1,q2,q4,q3⟩:=k2
 rw[h2]at q1;injection q1 with q1;subst q1
 have hv:=zf2 hD hy hx;have hlt:=(Qaa.1 q3).1;have hup:=yfl (P:=P) (f:=λx:τ.S D.T×V=>x.2) (lv:=σ.H.lv) (E:=σ.H.E) hu hkt q3 s (y,vx) rfl;refine⟨.any,_,.any,{σ.H with L:=σ.H.L.set i (some (.map ((z8l ms s (y,vx)).map λp=>(.str p.1,p.2.2))))},ρ,?_,by simp only[VR],?_,h⟩;rw[<-hR.lv];exact hup
 exact hR.upd ho trivial h1 h2 (.mp ty τ (z8l es s y)) (.map ((z8l ms s (y,vx)).map λp=>(.str p.1,p.2.2))) (by
  simp only[OR];refine⟨i,z8l ms s (y,vx),h2,?_,λp hp =>?_,by simp[hlt]⟩;rw[q2];exact ymr Prod.fst s (y,vx) ms
  rcases ylz hp with h|h
  rw[h];exact hv
  exact q4 p h)
 cases h;cases h;cases h
omit hD in
theorem yc5{R:Type}(hR:TRr D F ρ ts σ){b:Bool}{x:TV D.T}{vx:V}{k:TV D.T->TS D.T->Option R}{r:R}(h:you D ts x b k=some r)(hx:VR D ρ F.lv x vx) :
  ∃z ts' v H' ρ',y7o σ.H vx b=some (v,H')∧VR D ρ' F.lv z v∧TRr D F ρ' ts' {σ with H:=H'}∧k z ts'=some r:=by
 unfold you at h;split at h;rename_i s;simp only[VR]at hx;obtain⟨sl,i,h1,h2,rfl⟩:=hx;split at h;rename_i l pos ho;obtain⟨sl',k1,k2⟩:=hR.ob s _ ho
 rw[h1]at k1;injection k1 with k1;subst k1
 simp only[OR]at k2;obtain⟨i',q1,q2⟩:=k2
 rw[h2]at q1;injection q1 with q1;subst q1
 have hlt:=(Qaa.1 q2).1;rw[y0v]at h;split at h;rename_i hc;have hc':pos<l.length:=Qac hc;refine⟨_,_,.tup [.bool true,.int .i64 pos,.int .i32 (z9m l pos).1],σ.H.set F.lv i (.siter l (pos+(z9m l pos).2)),ρ,?_,?_,?_,h⟩;simp only[y7o,hR.get q2];rw[Qbx hc'];simp only[VR,VRL];exact⟨_,rfl,_,_,rfl,rfl,_,_,rfl,rfl,_,_,rfl,rfl,rfl⟩;rw[hR.zwc]
 exact hR.upd ho trivial h1 h2 _ _ (by simp only[OR];exact⟨i,h2,by simp[hlt]⟩);rename_i hc;have hc':¬pos<l.length:=λh=>hc (Qbt h)
 refine⟨_,_,.tup [.bool false],σ.H,ρ,?_,?_,hR,h⟩;simp only[y7o,hR.get q2];rw[Qby hc'];simp only[VR,VRL];exact⟨_,rfl,_,_,rfl,rfl,rfl⟩;cases h;cases h
omit hD in
theorem DRL.take{t:DTy}{xs:List (t.S D.T)}{ws:List V}(h:DRL D t xs ws)(n:Nat):DRL D t (xs.take n) (ws.take n):=by
 refine⟨by simp[h.1],λj x w hx hw =>?_⟩;rw[Qaw]at hx hw;split at hx;rename_i hj;rw[Qbx hj]at hw;exact h.2 j x w hx hw;cases hx
omit hD in
theorem DRL.drop{t:DTy}{xs:List (t.S D.T)}{ws:List V}(h:DRL D t xs ws)(n:Nat):DRL D t (xs.drop n) (ws.drop n):=by
 refine⟨by simp[h.1],λj x w hx hw =>?_⟩;rw[Qbf]at hx hw;exact h.2 _ x w hx hw
omit hD in
theorem y25{R:Type}(hR:TRr D F ρ ts σ){t:Nat}{x lo:TV D.T}{vx vlo:V}{k:TV D.T->Option R}{kf:Option R}{r:R}(h:tCut P D ts t x lo k kf=some r)(hx:VR D ρ F.lv x vx)(hlo:VR D ρ F.lv lo vlo) :
  (∃z v,zdu P σ.H t vx (some vlo) none none=some v∧VR D ρ F.lv z v∧k z=some r)∨kf=some r:=by
 unfold tCut at h;split at h;rename_i s a;split at h;rename_i e ty τ xs hu ho;split at h;rename_i hc;left;obtain⟨_,hcut,h⟩:=z0o h;unfold cutO at hcut;split at hcut;rename_i hcut';obtain⟨c1,c2,c3⟩:=hcut';simp only[VR]at hx hlo;subst hlo;obtain⟨sl,h1,rfl,hleaf⟩:=hx;obtain⟨sl',k1,k2⟩:=hR.ob s _ ho
 rw[h1]at k1;injection k1 with k1;subst k1
 simp only[OR]at k2;obtain⟨q1,q2,q3⟩:=k2
 cases hk:sl.k with
 |none=>
  rw[hk]at q3
  rcases q3 with ⟨_,e2⟩|⟨_,e2⟩
  rw[e2]at q1;simp at q1;omega
  rw[e2 trivial]at q1;simp at q1;omega
 |some j=>
  rw[hk]at q3;obtain⟨ver,cp,e1,e2⟩:=q3;have hp:=zti (P:=P) (n:=sl.ws.length) hu hc.1 hc.2 (hR.get e2) (a:=a) c1 (by omega);refine⟨_,_,by rw[e1];exact hp,?_,h⟩;simp only[VR];refine⟨sl,j,ver,h1,hk,e1,c1,by omega,?_⟩;split;exact .inl rfl;exact .inr ⟨by omega,_,rfl⟩
 cases hcut;cases h;cases h;exact .inr h
omit hD in
theorem yeh{R:Type}(hR:TRr D F ρ ts σ){t:Nat}{d s:TV D.T}{vd vs:V}{k:TV D.T->TS D.T->Option R}{r:R}(h:ym2 P D ts t d s k=some r)(hd:VR D ρ F.lv d vd)(hs:VR D ρ F.lv s vs) :
  ∃z ts' v H' ρ',zvp P σ.H t vd vs=some (v,H')∧VR D ρ' F.lv z v∧TRr D F ρ' ts' {σ with H:=H'}∧k z ts'=some r:=by
 unfold ym2 at h;split at h;rename_i s a s' b;split at h;rename_i hss;subst hss;split at h;rename_i e ty τ xs hu ho;split at h;rename_i hc;obtain⟨ys,hys,h⟩:=z0o h;unfold ya9 at hys;split at hys;rename_i hb;injection hys with hys;obtain⟨b1,b2,b3,b4⟩:=hb;simp only[VR]at hd hs;obtain⟨sl,j,ver,d1,d2,d3,d4,d5,d6⟩:=hd;obtain⟨sl1,j1,ver1,f1,f2,f3,f4,f5,f6⟩:=hs
 rw[d1]at f1;injection f1 with f1;subst f1
 rw[d2]at f2;injection f2 with f2;subst f2
 rw[d3]at f3;injection f3 with _ _ f3;subst f3
 obtain⟨sl',k1,k2⟩:=hR.ob s _ ho
 rw[d1]at k1;injection k1 with k1;subst k1
 simp only[OR]at k2;obtain⟨q1,q2,q3⟩:=k2;rw[d2]at q3;obtain⟨ver',cp,e1,e2⟩:=q3
 rw[d3]at e1;injection e1 with _ _ e1;subst e1
 have hlt:=(Qaa.1 e2).1
 have f6':vs = .hs F.lv j ver b.toNat (sl.ws.length-b.toNat) false:=by
  rcases f6 with f6|⟨f6,_⟩
  exact f6;omega
 subst f6'
 let n:=min (sl.ws.length-b.toNat) (sl.ws.length-a.toNat)
 let ws':=sl.ws.take a.toNat++((sl.ws.drop b.toNat).take n++sl.ws.drop (a.toNat+n))
 let sl':Slot:=⟨sl.v,some j,ws',[]⟩
 have hwl:ws'.length=sl.ws.length:=by simp only[ws',n,Qap,Qay,List.length_drop];omega
 have hdrl:DRL D τ ys ws':=by
  rw[<-hys];simp only[ws',n,q1];exact(DRL.take ⟨q1,q2⟩ _).append (((DRL.drop ⟨q1,q2⟩ _).take _).append (DRL.drop ⟨q1,q2⟩ _))
 have hor:OR D (ρ++[sl']) F.lv (σ.H.L.set j (some (.arr ver ty (D.len τ) ws' cp))) sl' (.acc ty τ ys true):=by
  simp only[OR];refine⟨hdrl.1,hdrl.2,ver,cp,?_,by simp[sl',hlt]⟩;show sl.v = .hs F.lv j ver 0 ws'.length false;rw[hwl];exact d3
 have hm:=hR.move ho trivial d1 d2 (.acc ty τ ys true) (.arr ver ty (D.len τ) ws' cp) sl' rfl hor;have hm2:=hm.z9k (TV.ren D s ts.nx) λx v hxv=>VR.ren (lookup_append d1) (sl':=sl') (by rw[<-hR.nx];simp) rfl hxv
 have hget:=hR.get e2
 rcases d6 with d6|⟨d6,sz,rfl⟩
 subst d6;refine⟨.any,_,.int .i64 (min (sl.ws.length-b.toNat) (sl.ws.length-a.toNat):Nat),σ.H.set F.lv j (.arr ver ty (D.len τ) ws' cp),ρ++[sl'],?_,by simp only[VR],?_,h⟩;simp only[zvp,hu,hget];rw[Qbx hc.2,Qbx ⟨trivial,trivial,trivial⟩,Qbx ⟨trivial,hc.1⟩];rw[hR.zwc];exact hm2;have hn:n=0:=by simp only[n];omega
 have hws:ws'=sl.ws:=by
  simp only[ws',hn,List.take_zero,List.nil_append,Nat.add_zero,List.take_append_drop]
 have hset:σ.H.L.set j (some (.arr ver ty (D.len τ) ws' cp))=σ.H.L:=by
  rw[hws];refine List.ext_getElem? λq =>?_
  rw[Qbi];split;rename_i hq;rw[<-hq,e2];rfl
 rw[hset]at hm2;refine⟨.any,_,.int .i64 0,σ.H,ρ++[sl'],?_,by simp only[VR],hm2,h⟩;simp only[zvp,hu,hget];rw[Qbx hc.2,Qbx trivial];cases hys;cases h;cases h;cases h;cases h
theorem y87{R:Type}(hR:TRr D F ρ ts σ){op:Op}{k:TV D.T->TS D.T->Option R}{kf:Nat->Option R}{r:R}(h:tOp P D ts op k kf=some r) :
  (∃z ts' v H' ρ',ox P σ.H σ.ev op=some (v,H')∧VR D ρ' F.lv z v∧TRr D F ρ' ts' {σ with H:=H'}∧k z ts'=some r)∨∃s,kf s=some r:=by
 have pure:∀{op:Op},tP P D ts op (λv=>k v ts) kf=some r->(∃z ts' v H' ρ',ox P σ.H σ.ev op=some (v,H')∧VR D ρ' F.lv z v∧TRr D F ρ' ts' {σ with H:=H'}∧k z ts'=some r)∨∃s,kf s=some r:=λ{op} h=>by
  rcases y21 hD hR h with ⟨x,v,h1,h2,h3⟩|h
  exact .inl ⟨x,ts,v,σ.H,ρ,yco h1,h2,hR,h3⟩;exact .inr h
 unfold tOp at h;split at h;split at h;rename_i z hz;split at h;rename_i hs;left;obtain⟨v,h1,h2⟩:=zgd (ρ:=ρ) (lv:=F.lv) hz;obtain⟨h3,h4⟩:=hR.y1x hD (h2.cells hs);exact⟨_,_,_,_,_,by simp only[ox,y1d,h1];rw[Qbx (h2.zzi hs)],h4,h3,h⟩;cases h;cases h;split at h;rename_i x hx;split at h;rename_i hs;left;have h2:=hR.ev hx;obtain⟨h3,h4⟩:=hR.y1x hD (h2.cells hs)
 exact⟨_,_,_,_,_,by simp only[ox,ynb];rw[Qbx (h2.zzi hs)],h4,h3,h⟩;cases h;cases h;split at h;rename_i ha hx
 rcases yaq hD hR h (hR.ev ha) (hR.ev hx)with ⟨z,ts',v,H',ρ',h1,h2⟩|h
 exact .inl ⟨z,ts',v,H',ρ',by simp only[ox];exact h1,h2⟩;exact .inr h;cases h;split at h;rename_i r' hr;left;obtain⟨a1,a2⟩:=hR.oev hr;obtain⟨z,ts',v,H',ρ',h1,h2⟩:=y31 hR h a1 a2;exact⟨z,ts',v,H',ρ',by simp only[ox];exact h1,h2⟩;cases h;split at h;rename_i hm hk hx;left;obtain⟨z,ts',v,H',ρ',h1,h2⟩:=zsa hD hR h (hR.ev hm) (hR.ev hk) (hR.ev hx);exact⟨z,ts',v,H',ρ',by simp only[ox];exact h1,h2⟩;cases h;split at h
 rename_i hm hk hx;left;obtain⟨z,ts',v,H',ρ',h1,h2⟩:=zsa hD hR h (hR.ev hm) (hR.ev hk) (hR.ev hx);exact⟨z,ts',v,H',ρ',by simp only[ox];exact h1,h2⟩;cases h;split at h;rename_i str hx;split at h;rename_i hu;left;have h1:=hR.ev hx;simp only[VR]at h1;refine⟨_,_,.ptr σ.H.lv σ.H.L.length 0,σ.H.push (.siter str 0),ρ++[⟨.any,some σ.H.L.length,[],[]⟩],by simp only[ox,y8r,h1,hu],?_,?_,h⟩;simp only[VR]
 exact⟨⟨.any,some σ.H.L.length,[],[]⟩,σ.H.L.length,by rw[<-hR.nx];simp,rfl,by rw[hR.lv]⟩
 exact hR.new _ _ _ hR.lv hR.E (by simp[Heap.push]) (λi hi=>by simp only[Heap.push];rw[Qal hi]) (λi hi=>by injection hi with hi;omega)
  (by simp only[OR];exact⟨σ.H.L.length,rfl,by simp[Heap.push]⟩)
 cases h;cases h;split at h;rename_i hi;left;obtain⟨z,ts',v,H',ρ',h1,h2⟩:=yc5 hR h (hR.ev hi);exact⟨z,ts',v,H',ρ',by simp only[ox];exact h1,h2⟩;cases h;split at h;rename_i c;split at h;rename_i s x t u hcal hargs htys;split at h;rename_i hs hx
 rcases y2n hD hR h (hR.ev hs) (hR.ev hx)with ⟨z,ts',v,H',ρ',h1,h2⟩|h
 exact .inl ⟨z,ts',v,H',ρ',by simp only[ox,hcal,hargs,htys];exact h1,h2⟩;exact .inr h;rename_i hs hx;left;obtain⟨z,ts',v,H',ρ',h1,h2,h2b,h2c,_⟩:=zrz hR h (hR.ev hs) (hR.ev hx);replace h2:=And.intro h2 (And.intro h2b h2c);exact⟨z,ts',v,H',ρ',by simp only[ox,hcal,hargs,htys];exact h1,h2⟩;cases h;rename_i d s t u hcal hargs htys;split at h;rename_i hd hs;left
 obtain⟨z,ts',v,H',ρ',h1,h2⟩:=yeh hR h (hR.ev hd) (hR.ev hs);exact⟨z,ts',v,H',ρ',by simp only[ox,hcal,hargs,htys];exact h1,h2⟩;cases h;exact pure h;exact pure h
end
section
variable {P : Program} {D : Dat} {F : Fr} {ρ : List Slot} {ts : TS D.T} {σ : St} {lv : Nat} {L : List (Option zz4)}
def Slot.all(sl:Slot):List Nat:=sl.k.toList++sl.fp
theorem Slot.zqw{sl:Slot}{i:Nat}:i∈sl.all↔sl.has i:=by
 unfold Slot.all Slot.has;rw[Qbb]
 cases sl.k with
 |none=>simp
 |some j=>simp[eq_comm]
theorem ztq{t:DTy}(h:D.zjs t=true):∀i f,f<(D.fl i).length->t = .st i->D.ow i f=none:=λi f hf e=>by
 subst e;simp only[Dat.zjs,Dat.owns,Bool.not_eq_true']at h;have:=List.any_eq_false.1 h f (List.mem_range.2 hf)
 cases ho:D.ow i f with
 |none=>rfl
 |some y=>rw[ho]at this;simp at this
theorem yr7{ty:Nat}{t:DTy}{xs:List (t.S D.T)}{sl:Slot}(h:OR D ρ lv L sl (.acc ty t xs true))(ht:D.zjs t=true):DO D lv L (.own ty) (.sl t) xs sl.v sl.k.toList:=by
 simp only[OR]at h;obtain⟨h1,h2,h3⟩:=h
 cases hk:sl.k with
 |none=>
  rw[hk]at h3;have hx:sl.ws=[]->xs=[]:=λe=>Qao (by rw[<-h1,e];rfl)
  rcases h3 with ⟨e1,e2⟩|⟨⟨e1,_⟩,e2⟩
  have:=hx e2;subst this;rw[e1];exact .nil (.nil _) (.inl rfl);have e3:=e2 trivial;have:=hx e3;subst this;rw[e1,e3]
  exact .nil (.sl _ _ _ _ rfl (λj x w hj=>by simp at hj)) (.inr rfl)
 |some j=>
  rw[hk]at h3;obtain⟨ver,cp,e1,e2⟩:=h3;rw[e1]
  have hr:([]:List Nat)=(List.replicate xs.length ([]:List Nat)).flatten:=by
   symm;rw[List.flatten_eq_nil_iff];intro l hl;exact(List.mem_replicate.1 hl).2
  show DO D lv L (.own ty) (.sl t) xs _ (j::[]);rw[hr];refine .own e2 h1 (by simp) λn x w c a1 a2 a3 =>?_
  rw[Qbo]at a3;split at a3;injection a3 with a3;subst a3;have hdr:=h2 n x w a1 a2
  cases t with
  |st i=>
   cases hdr with
   |st _ _ vs hl h=>
    have hr2:([]:List Nat)=(List.replicate (D.fl i).length ([]:List Nat)).flatten:=by
     symm;rw[List.flatten_eq_nil_iff];intro l hl;exact(List.mem_replicate.1 hl).2
    rw[hr2];refine .el hl (by simp) λf p u b b1 b2 b3 =>?_
    rw[Qbo]at b3;split at b3;rename_i hf;injection b3 with b3;subst b3;rw[ztq ht i f hf rfl];exact .dat (h f p u b1 b2)
    cases b3
   |enc=>exact .elf (ztq ht) (.enc i x)
  |_=>exact .elf (λi f _ e=>by cases e) hdr
  cases a3
theorem yav{ty q:Nat}{xs:List (D.T q)}{sl:Slot}(h:OR D ρ lv L sl (.deep ty q xs none)):DO D lv L (.own ty) (.sl (.st q)) xs sl.v sl.all:=by
 simp only[OR]at h;obtain⟨h1,h3⟩:=h;unfold Slot.all
 cases hk:sl.k with
 |none=>
  rw[hk]at h3;obtain⟨rfl,e2,e3,_⟩:=h3;rw[e3]
  rcases e2 with e2|e2
  rw[e2];exact .nil (.nil _) (.inl rfl)
  rw[e2];exact .nil (.sl _ _ _ _ rfl (λj x w hj=>by simp at hj)) (.inr rfl)
 |some j=>
  rw[hk]at h3;obtain⟨ver,cp,fps,e1,e2,e3,e4,e5,e6,e7⟩:=h3;rw[e1,e4];refine .own e2 h1 e3 λn x w c a1 a2 a3 =>?_
  obtain⟨vs,cs,rfl,b2,b3,rfl,b5⟩:=e6 n x w c a1 a2 a3;exact .el b2 b3 λf p u b g1 g2 g3=>b5 f p u b g1 g2 g3
inductive VH (lv:Nat) (L:List (Option zz4)) (R:Nat->Prop):V->V->Prop where
 |keep (v:V):VH lv L R v v
 |hs (i ver ty sz n:Nat) (full:Bool) (xs ys:List V) (cp:Option Nat) (hR:R i) (hg:L[i]? = some (some (.arr ver ty sz xs cp))) (hn:ys.length=n)
  (h1:∀(j:Nat) (x y:V),xs[j]? = some x->ys[j]? = some y->x.cells.length=y.cells.length) (h2:∀(j:Nat) (x y:V) (t:Nat) (v u:V),xs[j]? = some x->ys[j]? = some y->x.cells[t]? = some v->y.cells[t]? = some u->VH lv L R v u) :
  VH lv L R (.hs lv i ver 0 n full) (.sl sz ys false)
theorem VH.rel{W:World}{g:Gh}{H H':Heap}{R:Nat->Prop}(hGood:Good W g H)(hlv:H.lv=lv)(hL:H.L=L)(hf:∀{x:V}{c:Value},Rel W g H x c->Rel W g H' x c)(hloc:∀i o,R i->H.get H.lv i=some o->¬Own g H' (o.blk g H.lv i)){v u:V}(h:VH lv L R v u):∀{c:Value},Rel W g H v c->Rel W g H' u c:=by
 induction h with
 |keep v=>exact λh=>hf h
 |hs i ver ty sz n full xs ys cp hR hg' hn h1 h2 ih=>
  intro c hc
  have hg:H.get H.lv i=some (.arr ver ty sz xs cp):=by
   unfold Heap.get;rw[Qbx rfl,hL,hg'];rfl
  subst hlv
  cases hc with
  |hs _ _ _ _ _ _ a m cap hd hv ha=>
   obtain⟨rfl,rfl,⟨hcap',hcap2,hff⟩,hle⟩:=ha _ _ _ _ hg;obtain⟨cur,k1,k2,k3,k3',k4,k5,k6⟩:=zu4 hGood hg
   have get:∀j y,ys[j]? = some y->∃x,xs[j]? = some x∧j<m:=λj y hj=>by
    have:=(Qaa.1 hj).1;exact⟨_,Qab (by omega),by omega⟩
   have cells:∀(j:Nat) (y:V) (t:Nat) (u:V),ys[j]? = some y->y.cells[t]? = some u->∃x v,xs[j]? = some x∧x.cells[t]? = some v∧Rel W g H' u (cur.getD (j * sz+t) undef)∧(cur.getD (j * sz+t) undef).oneCell'=true∧j * sz+t<cur.size:=λj y t u hj ht=>by
    obtain⟨x,hx,hjm⟩:=get j y hj;have hl:=h1 j x y hx hj;have hxl:=k6.1 _ _ hx;have htl:=(Qaa.1 ht).1;have hv':x.cells[t]? = some (x.cells[t]'(by omega)):=Qab _;refine⟨x,_,hx,hv',ih j x y t _ u hx hj hv' ht (k6.2.2 _ _ _ _ hx hv'),k6.2.1 _ _ _ _ hx hv',?_⟩;rw[k3];exact zw2 (by omega) (by omega)
   rw[<-hn];refine .sl sz ys false (g.ab H.lv i) (0 * sz) cap (λj t=>cur.getD (j * sz+t) undef) (λho=>hloc i _ hR hg ho) k2 (by omega) (by simp) (λj y hj =>?_) (λj y t u hj ht =>?_) (λj y t u hj ht =>?_) (λj y t u hj ht =>?_);obtain⟨x,hx,_⟩:=get j y hj;rw[<-h1 j x y hx hj];exact k6.1 _ _ hx;obtain⟨x,v,_,_,_,_,e⟩:=cells j y t u hj ht;have:=cell_of k1 e;rw[<-this];congr 2;omega
   obtain⟨x,v,_,_,_,e,_⟩:=cells j y t u hj ht;exact e;obtain⟨x,v,_,_,e,_,_⟩:=cells j y t u hj ht;exact e
def SeenH(lv:Nat)(L:List (Option zz4))(R:Nat->Prop):OM->V->V->Prop
 |.el,v,u=>v.cells.length=u.cells.length∧∀(j:Nat) (a b:V),v.cells[j]? = some a->u.cells[j]? = some b->VH lv L R a b
 |.dat,v,u=>VH lv L R v u
 |.own _,v,u=>VH lv L R v u
theorem DO.seeH{R:Nat->Prop}{m:OM}{t:DTy}{x:t.S D.T}{v:V}{fp:List Nat}(h:DO D lv L m t x v fp):(∀i∈fp,R i)->∃u,DR D t x u∧SeenH lv L R m v u:=by
 induction h with
 |dat h=>exact λ_=>⟨_,h,.keep _⟩
 |nil h hv=>exact λ_=>⟨_,h,.keep _⟩
 | @own ty t xs j ver cp ws fps hL hl hf he ih=>
   intro hR
   obtain⟨us,e1,e2⟩:=zfu (Q:=λn u=>∀(x:t.S D.T) (w:V),xs[n]? = some x->ws[n]? = some w->DR D t x u∧w.cells.length=u.cells.length∧∀(j:Nat) (a b:V),w.cells[j]? = some a->u.cells[j]? = some b->VH lv L R a b) xs.length λn hn=>by
    have hc:fps[n]? = some (fps[n]'(by omega)):=Qab (show n<fps.length by omega);obtain⟨u,h1,h2⟩:=ih n _ _ _ (Qab hn) (Qab (show n<ws.length by omega)) hc (λi hi=>hR i (Qai _ (List.mem_flatten.2 ⟨_,Qax hc,hi⟩)));refine⟨u,λx w hx hw =>?_⟩
    rw[Qab hn]at hx;injection hx with hx;subst hx
    rw[Qab (show n<ws.length by omega)]at hw;injection hw with hw;subst hw
    exact⟨h1,h2⟩
   refine⟨.sl (D.len t) us false,.sl t xs us false e1 λn x u hx hu =>?_,?_⟩;have hn:=(Qaa.1 hx).1;exact(e2 n u hu x _ hx (Qab (show n<ws.length by omega))).1;refine .hs j ver ty (D.len t) ws.length false ws us cp (hR j Qak) hL (by omega) (λn w u hw hu =>?_) λn w u c a b hw hu ha hb =>?_
   have hn:=(Qaa.1 hw).1;exact(e2 n u hu _ w (Qab (show n<xs.length by omega)) hw).2.1;have hn:=(Qaa.1 hw).1
   exact(e2 n u hu _ w (Qab (show n<xs.length by omega)) hw).2.2 c a b ha hb
 | @el i x vs cs hl hc h ih=>
   intro hR
   obtain⟨us,e1,e2⟩:=zfu (Q:=λf u=>∀(p:(t:DTy)×t.S D.T) (w:V),HL.nth (D.fl i) (D.get i x) f=some p->vs[f]? = some w->DR D p.1 p.2 u∧VH lv L R w u) (D.fl i).length λf hf=>by
    obtain⟨p,hp,_⟩:=HL.zgi (D.fl i) (D.get i x) f hf;have hcf:cs[f]? = some (cs[f]'(by omega)):=Qab (show f<cs.length by omega);obtain⟨u,h1,h2⟩:=ih f p _ _ hp (Qab (show f<vs.length by omega)) hcf (λi hi=>hR i (List.mem_flatten.2 ⟨_,Qax hcf,hi⟩));refine⟨u,λp' w hp' hw =>?_⟩
    rw[hp]at hp';injection hp' with hp';subst hp'
    rw[Qab (show f<vs.length by omega)]at hw;injection hw with hw;subst hw
    refine⟨h1,?_⟩
    cases how:D.ow i f with
    |none=>rw[how]at h2;exact h2
    |some ty=>rw[how]at h2;exact h2
   refine⟨.agg us,.st i x us e1 λf p u hp hu =>?_,?_⟩;have hf:=(HL.zay _ _ _ _ hp).1;exact(e2 f u hu p _ hp (Qab (show f<vs.length by omega))).1;refine⟨by show vs.length=us.length;omega,λf a b ha hb =>?_⟩;replace ha:vs[f]? = some a:=ha;replace hb:us[f]? = some b:=hb;have hf:=(Qaa.1 ha).1;obtain⟨p,hp,_⟩:=HL.zgi (D.fl i) (D.get i x) f (by omega)
   exact(e2 f b hb p a hp ha).2
 |elf ht h=>exact λ_=>⟨_,h,rfl,λj a b ha hb=>by rw[ha]at hb;injection hb with hb;subst hb;exact .keep _⟩
def zxr(L:List (Option zz4))(all:List Nat)(os:List (Nat×zz4)):List (Option zz4):=(List.range L.length).map λk=>if k∈all then none else match os.find? (λp=>p.1==k)with|some p=>some p.2|none=>(L[k]?).join
theorem zqg(L:List (Option zz4))(all:List Nat)(os:List (Nat×zz4)):(zxr L all os).length=L.length:=by simp[zxr]
theorem zr0{L:List (Option zz4)}{all:List Nat}{os:List (Nat×zz4)}{k:Nat}(hk:k<L.length):(zxr L all os)[k]? = some (if k∈all then none else match os.find? (λp=>p.1==k)with|some p=>some p.2|none=>(L[k]?).join):=by
 unfold zxr;rw[Qan,List.getElem?_range hk];rfl
theorem yix{σ:St}{all:List Nat}{v r:V}(hd:σ.d=[])(hv:VH σ.H.lv σ.H.L (· ∈ all) v r){os os':List (Nat×zz4)}(h5:(os.map (·.1)).Nodup)(hos:FOL v r os os')(h4:∀p∈os,σ.H.L[p.1]? = some (some p.2)∧p.1∉all)
  {t':List V} (ht:FVL v r σ.t t') :
  zhe σ ⟨t',⟨σ.H.lv,zxr σ.H.L all os',σ.H.E⟩,[],σ.e0⟩∧(∀p'∈os',(zxr σ.H.L all os')[p'.1]? = some (some p'.2))∧∀n,n<σ.H.L.length->n∉all->(∀p∈os,p.1≠n)->(zxr σ.H.L all os')[n]? = σ.H.L[n]? := by
 have hnd:(os'.map (·.1)).Nodup:=by rw[hos.map];exact h5
 have hfind:∀p'∈os',os'.find? (λp=>p.1==p'.1)=some p':=λp' hp'=>by
  cases hq:os'.find? (λp=>p.1==p'.1)with
  |none=>rw[List.find?_eq_none]at hq;have:=hq p' hp';simp at this
  |some q=>
   have hq1:=List.find?_some hq;have hq2:=List.mem_of_find?_eq_some hq;simp at hq1;obtain⟨a,ha⟩:=List.mem_iff_getElem?.1 hp';obtain⟨b,hb⟩:=List.mem_iff_getElem?.1 hq2;have ha':(os'.map (·.1))[a]? = some p'.1:=by simp[ha]
   have hb':(os'.map (·.1))[b]? = some p'.1:=by simp[hb,hq1]
   have hlt:=(Qaa.1 ha').1;have:=(List.getElem?_inj hlt hnd).1 (ha'.trans hb'.symm);subst this;rw[ha]at hb;exact hb.symm
 have hfor:∀p'∈os',∃o,σ.H.L[p'.1]? = some (some o)∧p'.1∉all∧FO v r o p'.2:=λp' hp'=>by
  obtain⟨o,ho,hf⟩:=hos.mem p' hp';exact⟨o,(h4 _ ho).1,(h4 _ ho).2,hf⟩
 refine⟨?_,λp' hp' =>?_,λn hn hni hno =>?_⟩;refine y46 (v:=v) (r:=r) (zqg _ _ _) (λm o' hm =>?_) ht hd λW g hG hown hf c hc =>?_
 have hlt:m<σ.H.L.length:=by have:=(Qaa.1 hm).1;rw[zqg]at this;exact this
 rw[zr0 hlt]at hm;injection hm with hm;split at hm;cases hm;split at hm;rename_i p hp;injection hm with hm;have hp1:=List.find?_some hp;simp at hp1;obtain⟨o,h1,_,h3⟩:=hfor p (List.mem_of_find?_eq_some hp);exact⟨o,by rw[<-hp1];exact h1,by rw[<-hm];exact h3⟩;refine⟨o',?_,.inl rfl⟩;rw[Qab hlt]at hm ⊢;simp at hm;rw[hm];refine VH.rel hG rfl rfl hf (λi o hi hget ⟨l,i',o',ho',hob⟩ =>?_) hv hc
 have hgot:∃o,σ.H.get l i'=some o∧o'.blk g l i'=o.blk g l i'∧¬(l=σ.H.lv∧i'∈all):=by
  unfold Heap.get at ho' ⊢;dsimp only at ho' ⊢;by_cases hl:l=σ.H.lv;rw[Qbx hl]at ho' ⊢
  cases hq:(zxr σ.H.L all os')[i']? with
  |none=>rw[hq]at ho';simp at ho'
  |some q=>
   have hlt:i'<σ.H.L.length:=by have:=(Qaa.1 hq).1;rw[zqg]at this;exact this
   rw[zr0 hlt]at ho';simp only[Option.join_some]at ho';split at ho';cases ho';rename_i hne;split at ho';rename_i p hp;injection ho' with ho';have hp1:=List.find?_some hp;simp at hp1;obtain⟨o,h1,_,h3⟩:=hfor p (List.mem_of_find?_eq_some hp);rw[hp1]at h1;exact⟨o,by rw[h1];rfl,by rw[<-ho'];exact h3.blk g l i',λe=>hne e.2⟩;exact⟨o',ho',rfl,λe=>hne e.2⟩
  rw[Qby hl]at ho' ⊢;exact⟨o',ho',rfl,λe=>hl e.1⟩
 obtain⟨o2,w1,w2,w3⟩:=hgot;obtain⟨e1,e2⟩:=hG.inj _ _ _ _ _ _ w1 hget (by rw[<-w2];exact hob);exact w3 ⟨e1,by rw[e2];exact hi⟩;obtain⟨o,h1,h2,_⟩:=hfor p' hp';have hlt:=(Qaa.1 h1).1;rw[zr0 hlt,Qby h2,hfind p' hp'];rw[zr0 hn,Qby hni]
 have:os'.find? (λp=>p.1==n)=none:=by
  rw[List.find?_eq_none];intro p hp;have:p.1∈os.map (·.1):=by rw[<-hos.map];exact List.mem_map_of_mem hp
  obtain⟨q,hq,hqn⟩:=Qbg.1 this;have:=hno q hq;simp;omega
 rw[this,Qab hn];rfl
end
section
variable {P : Program} {D : Dat} {F : Fr} {ρ : List Slot} {ts : TS D.T} {σ : St} {lv : Nat}
mutual
theorem yi7{s:Nat}{m:Bool}{z:TV D.T}{v0 r:V}(h1:∀v,VR D ρ lv (match m with|true=>TV.map s|false=>TV.own s) v->v=v0)(hr:VR D ρ lv z r):∀{x:TV D.T}{v:V},VR D ρ lv x v->∃v',FV v0 r v v'∧VR D ρ lv (TV.frz D s m z x) v'
 |.own j,v,h=>by
  cases m with
  |true=>exact⟨v,.keep _,by simpa only[TV.frz]using h⟩
  |false=>
   simp only[TV.frz];split;rename_i hj;subst hj;obtain rfl:=h1 v h;exact⟨r,.it,hr⟩
   exact⟨v,.keep _,h⟩
 |.map j,v,h=>by
  cases m with
  |false=>exact⟨v,.keep _,by simpa only[TV.frz]using h⟩
  |true=>
   simp only[TV.frz];split;rename_i hj;subst hj;obtain rfl:=h1 v h;exact⟨r,.it,hr⟩
   exact⟨v,.keep _,h⟩
 |.agg cs,v,h=>by
  simp only[TV.frz,VR]at h ⊢;obtain⟨vs,rfl,k2⟩:=h;obtain⟨us,q1,q2⟩:=zu1 h1 hr k2
  exact⟨.agg us,.agg' q1,us,rfl,q2⟩
 |.tup cs,v,h=>by
  simp only[TV.frz,VR]at h ⊢;obtain⟨vs,rfl,k2⟩:=h;obtain⟨us,q1,q2⟩:=zu1 h1 hr k2
  exact⟨.tup us,.yma q1,us,rfl,q2⟩
 |.dp j i off,v,h=>⟨v,.keep _,by simpa only[TV.frz]using h⟩
 |.bsl q cs,v,h=>⟨v,.keep _,by simp only[TV.frz,VR]⟩
 |.any,v,h=>⟨v,.keep _,by simpa only[TV.frz]using h⟩
 |.bool b,v,h=>⟨v,.keep _,by simpa only[TV.frz]using h⟩
 |.int k n,v,h=>⟨v,.keep _,by simpa only[TV.frz]using h⟩
 |.str b,v,h=>⟨v,.keep _,by simpa only[TV.frz]using h⟩
 |.nilp,v,h=>⟨v,.keep _,by simpa only[TV.frz]using h⟩
 |.nils,v,h=>⟨v,.keep _,by simpa only[TV.frz]using h⟩
 |.mapn,v,h=>⟨v,.keep _,by simpa only[TV.frz]using h⟩
 |.nilf,v,h=>⟨v,.keep _,by simpa only[TV.frz]using h⟩
 |.nili,v,h=>⟨v,.keep _,by simpa only[TV.frz]using h⟩
 |.sl t' ys fl,v,h=>⟨v,.keep _,by simpa only[TV.frz]using h⟩
 |.ptr j off,v,h=>⟨v,.keep _,by simpa only[TV.frz]using h⟩
 |.bp j off,v,h=>⟨v,.keep _,by simpa only[TV.frz]using h⟩
 |.osl j lo,v,h=>⟨v,.keep _,by simpa only[TV.frz]using h⟩
 |.mc t' es,v,h=>⟨v,.keep _,by simpa only[TV.frz]using h⟩
 |.ref cs off,v,h=>⟨v,.keep _,by simpa only[TV.frz]using h⟩
 |.ap j t' i x off,v,h=>⟨v,.keep _,by simpa only[TV.frz]using h⟩
 |.fn f a b,v,h=>⟨v,.keep _,by simpa only[TV.frz]using h⟩
 |.iface t' x,v,h=>⟨v,.keep _,by simpa only[TV.frz]using h⟩
theorem zu1{s:Nat}{m:Bool}{z:TV D.T}{v0 r:V}(h1:∀v,VR D ρ lv (match m with|true=>TV.map s|false=>TV.own s) v->v=v0)(hr:VR D ρ lv z r):∀{cs:List (TV D.T)}{vs:List V},VRL D ρ lv cs vs->∃us,FVL v0 r vs us∧VRL D ρ lv (TV.ycu D s m z cs) us
 |[],vs,h=>by simp only[TV.ycu,VRL]at h ⊢;subst h;exact⟨[],.nil,rfl⟩
 |c::cs,vs,h=>by
  simp only[TV.ycu,VRL]at h ⊢;obtain⟨v,q,rfl,k2,k3⟩:=h;obtain⟨v',a1,a2⟩:=yi7 h1 hr k2;obtain⟨us,b1,b2⟩:=zu1 h1 hr k3;exact⟨v'::us,.cons a1 b1,v',us,rfl,a2,b2⟩
end
theorem yej(s:Nat)(m:Bool)(z:TV D.T):∀cs:List (TV D.T),TV.ycu D s m z cs=cs.map (TV.frz D s m z)
 |[]=>rfl
 |c::cs=>by simp only[TV.ycu,List.map_cons,yej s m z cs]
theorem zuc{s:Nat}{m:Bool}{z:TV D.T}{v0 r:V}(h1:∀v,VR D ρ lv (match m with|true=>TV.map s|false=>TV.own s) v->v=v0)(hr:VR D ρ lv z r)(f:Nat->Option (TV D.T)):∀(l:List V) (k:Nat),(∀j x v,f (k+j)=some x->l[j]? = some v->VR D ρ lv x v) ->
  ∃l',FVL v0 r l l'∧∀j x v,f (k+j)=some x->l'[j]? = some v->VR D ρ lv (TV.frz D s m z x) v
 |[],k,h=>⟨[],.nil,λj x v _ hv=>by simp at hv⟩
 |u::l,k,h=>by
  obtain⟨l',a1,a2⟩:=zuc h1 hr f l (k+1) λj x v hx hv=>h (j+1) x v (by rw[<-hx];congr 1;omega) (by simpa using hv)
  cases hf:f k with
  |none=>
   refine⟨u::l',.cons (.keep _) a1,λj x v hx hv =>?_⟩
   cases j with
   |zero=>rw[Nat.add_zero,hf]at hx;cases hx
   |succ j=>exact a2 j x v (by rw[<-hx];congr 1;omega) (by simpa using hv)
  |some y=>
   obtain⟨u',b1,b2⟩:=yi7 h1 hr (h 0 y u (by simpa using hf) rfl);refine⟨u'::l',.cons b1 a1,λj x v hx hv =>?_⟩
   cases j with
   |zero=>rw[Nat.add_zero,hf]at hx;injection hx with hx;subst hx;simp at hv;subst hv;exact b2
   |succ j=>exact a2 j x v (by rw[<-hx];congr 1;omega) (by simpa using hv)
theorem zum(hR:TRr D F ρ ts σ){s:Nat}{m:Bool}{z:TV D.T}{v0 r:V}(hz:∀q,z ≠ .own q)(h1:∀v,VR D ρ F.lv (match m with|true=>TV.map s|false=>TV.own s) v->v=v0)(hr:VR D ρ F.lv z r):∀n:Nat,∃os os':List (Nat×zz4),FOL v0 r os os'∧(os.map (·.1)).Nodup ∧
  (∀p∈os,σ.H.L[p.1]? = some (some p.2)∧∃s' o sl',s'<n∧s'≠s∧fnd ts.o s'=some o∧o.live∧ρ[s']? = some sl'∧sl'.k=some p.1) ∧
  ∀s' o sl' i,s'<n->s'≠s->fnd ts.o s'=some o->o.live->ρ[s']? = some sl'->sl'.k=some i->∃ao,(i,ao)∈os'∧∀L',L'[i]? = some (some ao)->(∀j∈sl'.fp,L'[j]? = σ.H.L[j]?)->OR D ρ F.lv L' sl' (TO.map D (TV.frz D s m z) o)
 |0=>⟨[],[],.refl _,by simp,by simp,λs' o sl' i h=>by omega⟩
 |n+1=>by
  obtain⟨os,os',a1,a2,a3,a4⟩:=zum hR hz h1 hr n
  have skip:(∀o sl' i,n≠s->fnd ts.o n=some o->o.live->ρ[n]? = some sl'->sl'.k=some i->False)->∃os os':List (Nat×zz4),FOL v0 r os os'∧(os.map (·.1)).Nodup ∧
    (∀p∈os,σ.H.L[p.1]? = some (some p.2)∧∃s' o sl',s'<n+1∧s'≠s∧fnd ts.o s'=some o∧o.live∧ρ[s']? = some sl'∧sl'.k=some p.1) ∧
    ∀s' o sl' i,s'<n+1->s'≠s->fnd ts.o s'=some o->o.live->ρ[s']? = some sl'->sl'.k=some i->∃ao,(i,ao)∈os'∧∀L',L'[i]? = some (some ao)->(∀j∈sl'.fp,L'[j]? = σ.H.L[j]?)->OR D ρ F.lv L' sl' (TO.map D (TV.frz D s m z) o):=λhno=>
   ⟨os,os',a1,a2,λp hp=>by obtain⟨b1,s',o,sl',b2,b3⟩:=a3 p hp;exact⟨b1,s',o,sl',by omega,b3⟩,λs' o sl' i c1 c2 c3 c4 c5 c6=>by
     by_cases e:s'=n;subst e;exact(hno o sl' i c2 c3 c4 c5 c6).elim
     exact a4 s' o sl' i (by omega) c2 c3 c4 c5 c6⟩
  by_cases hns:n=s;exact skip λo sl' i hne=>(hne hns).elim
  ·cases ho:fnd ts.o n with
   |none=>exact skip λo sl' i _ h=>by rw[ho]at h;cases h
   |some o=>
    obtain⟨sl',k1,k2⟩:=hR.ob n o ho;by_cases hl:o.live
    ·cases hk:sl'.k with
     |none=>exact skip λo' sl2 i _ h hl' h2 h3=>by rw[k1]at h2;injection h2 with h2;subst h2;rw[hk]at h3;cases h3
     |some i=>
      obtain⟨a,ha⟩:=k2.at hl hk
      have hfresh:i∉os.map (·.1):=λhm=>by
       obtain⟨p,hp,hpi⟩:=Qbg.1 hm;obtain⟨b1,s',o',sl2,b2,b3,b4,b5,b6,b7⟩:=a3 p hp;have:=hR.inj n s' o o' sl' sl2 i ho b4 hl b5 k1 b6 (.inl hk) (.inl (by rw[b7,hpi]));omega
      have step:∀a':zz4,FO v0 r a a'->(∀L':List (Option zz4),L'[i]? = some (some a')->(∀j∈sl'.fp,L'[j]? = σ.H.L[j]?)->OR D ρ F.lv L' sl' (TO.map D (TV.frz D s m z) o))->∃os os':List (Nat×zz4),FOL v0 r os os'∧(os.map (·.1)).Nodup ∧
        (∀p∈os,σ.H.L[p.1]? = some (some p.2)∧∃s' o sl',s'<n+1∧s'≠s∧fnd ts.o s'=some o∧o.live∧ρ[s']? = some sl'∧sl'.k=some p.1) ∧
        ∀s' o sl' i,s'<n+1->s'≠s->fnd ts.o s'=some o->o.live->ρ[s']? = some sl'->sl'.k=some i->∃ao,(i,ao)∈os'∧∀L',L'[i]? = some (some ao)->(∀j∈sl'.fp,L'[j]? = σ.H.L[j]?)->OR D ρ F.lv L' sl' (TO.map D (TV.frz D s m z) o):=λa' hfo hor=>
       ⟨(i,a)::os,(i,a')::os',.cons hfo a1,by simp only[List.map_cons,List.nodup_cons];exact⟨hfresh,a2⟩,λp hp=>by
         rcases Qbl.1 hp with rfl|hp
         exact⟨ha,n,o,sl',by omega,hns,ho,hl,k1,hk⟩
         obtain⟨b1,s',o,sl',b2,b3⟩:=a3 p hp;exact⟨b1,s',o,sl',by omega,b3⟩,λs' o2 sl2 i2 c1 c2 c3 c4 c5 c6=>by
         by_cases e:s'=n;subst e
         rw[ho]at c3;injection c3 with c3;subst c3
         rw[k1]at c5;injection c5 with c5;subst c5
         rw[hk]at c6;injection c6 with c6;subst c6
         exact⟨a',Qak,hor⟩;obtain⟨ao,d1,d2⟩:=a4 s' o2 sl2 i2 (by omega) c2 c3 c4 c5 c6
         exact⟨ao,Qai _ d1,d2⟩⟩
      cases o with
      |cells cs=>
       simp only[OR]at k2;obtain⟨i',vs,e1,e2,e3⟩:=k2
       rw[hk]at e1;injection e1 with e1;subst e1
       rw[ha]at e2;injection e2 with e2;injection e2 with e2;subst e2
       obtain⟨us,f1,f2⟩:=zu1 h1 hr e3;rw[yej]at f2
       exact step (.cells us) (.inr ⟨vs,us,rfl,rfl,f1⟩) λL' hL' hL2=>by simp only[TO.map,OR];exact⟨i,us,hk,hL',f2⟩
      |acc ty' t' xs' w'=>
       have:=k2;refine step a (.inl rfl) λL' hL' hL2 =>?_
       simp only[OR,hk]at k2;simp only[TO.map,OR,hk];obtain⟨e1,e2,ver,cp,e3,e4⟩:=k2;rw[ha]at e4
       exact⟨e1,e2,ver,cp,e3,hL'.trans e4⟩
      |rig=>simp only[OR]at k2;rw[k2.1]at hk;cases hk
      |siter l pos=>
       refine step a (.inl rfl) λL' hL' hL2 =>?_
       simp only[OR]at k2;simp only[TO.map,OR];obtain⟨i',e1,e2⟩:=k2
       rw[hk]at e1;injection e1 with e1;subst e1
       rw[ha]at e2
       exact⟨i,hk,hL'.trans e2⟩
      |mp ty' t' es'=>
       refine step a (.inl rfl) λL' hL' hL2 =>?_
       simp only[OR]at k2;simp only[TO.map,OR];obtain⟨i',ms,e1,e0,e3,e2⟩:=k2
       rw[hk]at e1;injection e1 with e1;subst e1
       rw[ha]at e2
       exact⟨i,ms,hk,e0,e3,hL'.trans e2⟩
      |mit t' last es'=>
       refine step a (.inl rfl) λL' hL' hL2 =>?_
       simp only[OR]at k2;simp only[TO.map,OR];obtain⟨i',fs,vis,e1,e0,e2,e3⟩:=k2
       rw[hk]at e1;injection e1 with e1;subst e1
       rw[ha]at e2
       exact⟨i,fs,vis,hk,e0,hL'.trans e2,e3⟩
      |bld ty' b'=>
       refine step a (.inl rfl) λL' hL' hL2 =>?_
       simp only[OR]at k2;obtain⟨i',u,c,e1,e2,e3,e4⟩:=k2
       rw[hk]at e1;injection e1 with e1;subst e1
       rw[ha]at e2
       cases b' with
       |none=>simp only[TO.map,OR];exact⟨i,u,c,hk,hL'.trans e2,e3,e4⟩
       |some q=>
        cases m with
        |true=>simp only[TO.map,TV.frz,OR];exact⟨i,u,c,hk,hL'.trans e2,e3,e4⟩
        |false=>
         simp only[TO.map,TV.frz];by_cases hq:q=s
         ·rw[Qbx hq];cases z <;> simp only[OR]
          case own q'=>exact(hz q' rfl).elim
         rw[Qby hq];simp only[OR];exact⟨i,u,c,hk,hL'.trans e2,e3,e4⟩
      |gone=>exact hl.elim
      |deep ty' q' xs' h'=>
       have hsame:∀L':List (Option zz4),L'[i]? = some (some a)->(∀j∈sl'.fp,L'[j]? = σ.H.L[j]?)->OR D ρ F.lv L' sl' (.deep ty' q' xs' h'):=λL' hL' hL2=>by
        have:=k2.mono (L':=L') [] λj hj _=>by
         rcases hj with hj|hj
         rw[hk]at hj;injection hj with hj;subst hj;exact hL'.trans ha.symm
         exact hL2 j hj
        simpa using this
       refine step a (.inl rfl) λL' hL' hL2 =>?_
       cases h' with
       |none=>exact hsame L' hL' hL2
       |some p=>
        obtain⟨n',c',s0⟩:=p;simp only[TO.map]
        cases m with
        |true=>simp only[TV.frz];exact hsame L' hL' hL2
        |false=>
         simp only[TV.frz];by_cases hq:s0=s
         ·rw[Qbx hq];cases z <;> simp only[OR]
          case own q'=>exact(hz q' rfl).elim
         rw[Qby hq];exact hsame L' hL' hL2
    exact skip λo' sl2 i _ h hl'=>by rw[ho]at h;injection h with h;subst h;exact(hl hl').elim
theorem y2a(hR:TRr D F ρ ts σ){s:Nat}{m:Bool}{z:TV D.T}(hz:∀q,z ≠ .own q){v0 r:V}{sl:Slot}(k1:ρ[s]? = some sl)(hd0:ts.d=[]){os':List (Nat×zz4)}
  (a4:∀s' o sl' i,s'<ts.nx->s'≠s->fnd ts.o s'=some o->o.live->ρ[s']? = some sl'->sl'.k=some i->∃ao,(i,ao)∈os'∧∀L',L'[i]? = some (some ao)->(∀j∈sl'.fp,L'[j]? = σ.H.L[j]?)->OR D ρ F.lv L' sl' (TO.map D (TV.frz D s m z) o))
  {t':List V} (c1:FVL v0 r σ.t t') (c2:∀j x v,fnd ts.t (0+j)=some x->t'[j]? = some v->VR D ρ F.lv (TV.frz D s m z x) v) {L':List (Option zz4)}(d1:∀p'∈os',L'[p'.1]? = some (some p'.2)) (d3:L'.length=σ.H.L.length) (d4:∀i,F.out i->L'[i]? = σ.H.L[i]?) (d5:∀s' o sl' i,s'≠s->fnd ts.o s'=some o->o.live->ρ[s']? = some sl'->i∈sl'.fp->L'[i]? = σ.H.L[i]?) :
  TRr D F ρ {ts.z9k D (TV.frz D s m z)with o:=(s,TO.gone)::(ts.z9k D (TV.frz D s m z)).o} ⟨t',⟨F.lv,L',σ.H.E⟩,[],σ.e0⟩:=by
 have hob:∀s' o,fnd ((s,TO.gone)::(ts.z9k D (TV.frz D s m z)).o) s'=some o->(s'=s∧o = .gone)∨(s'≠s∧∃o',fnd ts.o s'=some o'∧o=TO.map D (TV.frz D s m z) o'):=λs' o h=>by
  rw[yz8]at h;split at h
  rename_i e;injection h with h;exact .inl ⟨e.symm,h.symm⟩
  rename_i e;simp only[TS.z9k]at h;rw[zh2 (TO.map D (TV.frz D s m z)),Qaf]at h;obtain⟨o',h1,h2⟩:=h;exact .inr ⟨λe'=>e e'.symm,o',h1,h2.symm⟩
 have hlive:∀o:TO D.T,(TO.map D (TV.frz D s m z) o).live->o.live:=λo h=>by cases o <;> first|exact h|trivial
 have old:∀s' o,fnd ((s,TO.gone)::(ts.z9k D (TV.frz D s m z)).o) s'=some o->o.live->s'≠s∧∃o',fnd ts.o s'=some o'∧o'.live∧o=TO.map D (TV.frz D s m z) o':=λs' o h hl=>by
  rcases hob s' o h with ⟨_,rfl⟩|⟨h1,o',h2,rfl⟩
  exact hl.elim;exact⟨h1,o',h2,hlive o' hl,rfl⟩
 refine⟨hR.nx,c1.length.symm.trans hR.nt,λj x hj =>?_,λs' o h =>?_,λs1 s2 o1 o2 sl1 sl2 i h1 h2 l1 l2 r1 r2 =>?_,λs1 o1 sl1 i h1 l1 r1 =>?_,rfl,hR.E,hR.e0,(by simp only[TS.z9k,hd0,List.map_nil];rfl),λi hi =>?_,hR.pin,λs1 o1 sl1 i h1 l1 r1 k1 =>?_,λi s1 v h1 h2=>yij (f:=TV.frz D s m z) (λs0 s' e u hu=>by
  cases m with
  |true=>simp only[TV.frz,TV.own.injEq]at e;subst e;exact hu
  |false=>
   simp only[TV.frz]at e;split at e;exact(hz _ e).elim
   simp only[TV.own.injEq]at e;subst e;exact hu) (λs0 e=>hR.g i s0 v e h2) h1⟩
 simp only[TS.z9k]at hj;rw[zh2 (TV.frz D s m z),Qaf]at hj;obtain⟨y,hy,rfl⟩:=hj;obtain⟨u,e1,e2⟩:=hR.tm j y hy;have hlt:j<t'.length:=by rw[<-c1.length];exact(Qaa.1 e1).1
 exact⟨t'[j],Qab hlt,c2 j y _ (by simpa using hy) (Qab hlt)⟩
 rcases hob s' o h with ⟨rfl,rfl⟩|⟨h1,o',h2,rfl⟩
 exact⟨sl,k1,by simp only[OR]⟩;obtain⟨sl',m1,m2⟩:=hR.ob s' o' h2;refine⟨sl',m1,?_⟩;by_cases hl:o'.live
 cases hk:sl'.k with
 |some i=>
  obtain⟨ao,n1,n2⟩:=a4 s' o' sl' i (by rw[<-hR.nx];exact(Qaa.1 m1).1) h1 h2 hl m1 hk
  exact n2 L' (d1 _ n1) λj hj=>d5 s' o' sl' j h1 h2 hl m1 hj
 |none=>
  cases o' with
  |cells cs=>simp only[OR]at m2;obtain⟨i,_,e,_⟩:=m2;rw[hk]at e;cases e
  |acc ty' t'' xs' w'=>simp only[OR,hk]at m2;simp only[TO.map,OR,hk];exact m2
  |siter l pos=>simp only[OR]at m2;obtain⟨i,e,_⟩:=m2;rw[hk]at e;cases e
  |rig=>exact m2
  |mp ty' t' es'=>simp only[OR]at m2;obtain⟨i,_,e,_⟩:=m2;rw[hk]at e;cases e
  |mit t' last es'=>simp only[OR]at m2;obtain⟨i,_,_,e,_⟩:=m2;rw[hk]at e;cases e
  |bld ty' b'=>simp only[OR]at m2;obtain⟨i,_,_,e,_⟩:=m2;rw[hk]at e;cases e
  |gone=>simp only[TO.map,OR]
  |deep ty' q' xs' h'=>
   simp only[OR,hk]at m2;obtain⟨e1,e2,e3,e4,rfl⟩:=m2;simp only[TO.map,OR,hk];exact⟨e1,e2,e3,e4,trivial⟩
 cases o' with
 |gone=>simp only[TO.map,OR]
 |_=>exact(hl trivial).elim
 obtain⟨_,o1',e1,f1,_⟩:=old s1 o1 h1 l1;obtain⟨_,o2',e2,f2,_⟩:=old s2 o2 h2 l2;exact hR.inj s1 s2 o1' o2' sl1 sl2 i e1 e2 f1 f2 r1 r2;obtain⟨_,o1',e1,f1,_⟩:=old s1 o1 h1 l1;exact hR.mine s1 o1' sl1 i e1 f1 r1;obtain⟨h1,h2⟩:=hR.out i hi;exact⟨by show i<L'.length;rw[d3];exact h1,(d4 i hi).trans h2⟩;obtain⟨hne,o1',e1,f1,_⟩:=old s1 o1 h1 l1;have hq:=hR.fpl s1 o1' sl1 i e1 f1 r1 k1
 exact⟨hq.1,by show ∃a,L'[i]? = _;rw[d5 s1 o1' sl1 i hne e1 f1 r1 k1];exact hq.2⟩
theorem zu9(hD:D.Ok P){s:Nat}{ts':TS D.T}(hR:TRr D F ρ ts σ)(h:ts.freeze D s=some ts'):∃τ,zhe σ τ∧TRr D F ρ ts' τ:=by
 unfold TS.freeze at h;split at h;rename_i ty t xs w hd0 ho;injection h with h;subst h;have hd1:σ.d=[]:=by have:=hR.d;rw[hd0]at this;exact this
 obtain⟨sl,k1,k2⟩:=hR.ob s _ ho;have hor:=k2;simp only[OR]at k2;obtain⟨q1,q2,q3⟩:=k2;have hsn:s<ρ.length:=(Qaa.1 k1).1
 have hr:VR D ρ F.lv (.sl t xs 0) (.sl (D.len t) sl.ws false):=by
  simp only[VR];exact⟨.sl t xs sl.ws false q1 q2,by omega,by omega⟩
 obtain⟨os,os',a1,a2,a3,a4⟩:=zum hR (s:=s) (m:=false) (z:=.sl t xs 0) (v0:=sl.v) (λq h=>by cases h) (λv h=>by
  simp only[VR]at h;obtain⟨q,e1,e2,_⟩:=h;rw[k1]at e1;injection e1 with e1;subst e1;exact e2) hr ts.nx
 have hacc:z7x F.lv σ.H.L [⟨ty,D.len t,sl.v,sl.ws,w⟩] os:=by
  refine⟨⟨[sl.k],rfl,λj k a hj ha =>?_,λi j n hi hj =>?_,λp hp=>⟨(a3 p hp).1,λj hj =>?_⟩⟩,a2⟩
  cases j with
  |zero=>
   simp at hj ha;subst hj;subst ha
   cases hk:sl.k with
   |none=>rw[hk]at q3;exact q3.imp id λq=>⟨q.1.1,q.2⟩
   |some i=>rw[hk]at q3;obtain⟨ver,cp,e1,e2⟩:=q3;exact⟨ver,cp,e1,e2⟩
  |succ j=>simp at hj
  cases i <;> cases j <;> simp at hi hj <;> rfl
  obtain⟨_,s',o,sl',b2,b3,b4,b5,b6,b7⟩:=a3 p hp
  cases j with
  |zero=>
   simp at hj
   exact b3 (hR.inj s' s o _ sl' sl p.1 b4 ho b5 trivial b6 k1 (.inl b7) (.inl hj))
  |succ j=>simp at hj
 obtain⟨t',c1,c2⟩:=zuc (s:=s) (m:=false) (z:=.sl t xs 0) (v0:=sl.v) (λv h=>by
  simp only[VR]at h;obtain⟨q,e1,e2,_⟩:=h;rw[k1]at e1;injection e1 with e1;subst e1;exact e2) hr (fnd ts.t) σ.t 0 λj x v hx hv=>by
  obtain⟨u,e1,e2⟩:=hR.tm j x (by simpa using hx)
  rw[hv]at e1;injection e1 with e1;subst e1;exact e2
 obtain⟨L',⟨d1,d2⟩,d3,d4⟩:=hacc.yie (j:=0) rfl c1 a1 σ.H.E σ.e0
 have hσ:σ=⟨σ.t,⟨F.lv,σ.H.L,σ.H.E⟩,[],σ.e0⟩:=by
  have e1:=hR.lv;have e2:=hd1;obtain⟨t,⟨l,L,E⟩,d,e0⟩:=σ;simp only at e1 e2;subst e1;subst e2;rfl
 rw[<-hσ]at d2;refine⟨_,d2,?_⟩
 have hfp:∀s' o sl' i,s'≠s->fnd ts.o s'=some o->o.live->ρ[s']? = some sl'->i∈sl'.fp->L'[i]? = σ.H.L[i]? := λs' o' sl' i hne ho' hl' hs' hi=>by
  obtain⟨f1,f2⟩:=hR.fpl s' o' sl' i ho' hl' hs' hi;refine d4 i (hR.lt ho' hl' hs' (.inr hi)) (λp hp e =>?_) λver n e =>?_
  obtain⟨_,s2,o2,sl2,b2,b3,b4,b5,b6,b7⟩:=a3 p hp;have:=hR.inj s2 s' o2 o' sl2 sl' i b4 ho' b5 hl' b6 hs' (.inl (by rw[b7,e])) (.inr hi);subst this
  rw[hs']at b6;injection b6 with b6;subst b6
  exact f1 (by rw[b7,e])
  cases hk:sl.k with
  |none=>rw[hk]at q3;rcases q3 with ⟨q,_⟩|⟨⟨q,_⟩,_⟩ <;> (rw[e]at q;cases q)
  |some j=>
   rw[hk]at q3;obtain⟨ver',cp,q,_⟩:=q3
   rw[e]at q;injection q with _ q;subst q
   exact hne (hR.inj s' s o' _ sl' sl i ho' ho hl' trivial hs' k1 (.inr hi) (.inl hk))
 refine y2a hR (λq h=>by cases h) k1 hd0 a4 c1 c2 (λp' hp'=>d1.accs.get (by exact hp')) d3 (λi hi =>?_) hfp;refine d4 i (hR.out i hi).1 (λp hp e =>?_) λver n e =>?_
 obtain⟨_,s',o,sl',b2,b3,b4,b5,b6,b7⟩:=a3 p hp;exact hR.mine s' o sl' i b4 b5 b6 (.inl (by rw[b7,e])) hi
 cases hk:sl.k with
 |none=>rw[hk]at q3;rcases q3 with ⟨q,_⟩|⟨⟨q,_⟩,_⟩ <;> (rw[e]at q;cases q)
 |some j=>
  rw[hk]at q3;obtain⟨ver',cp,q,_⟩:=q3
  rw[e]at q;injection q with _ q;subst q
  exact hR.mine s _ sl i ho trivial k1 (.inl hk) hi
 rename_i ty q xs hd0 ho;injection h with h;subst h;have hd1:σ.d=[]:=by have:=hR.d;rw[hd0]at this;exact this
 obtain⟨sl,k1,k2⟩:=hR.ob s _ ho;obtain⟨u,u1,u2⟩:=(yav k2).seeH (R:=(· ∈ sl.all)) (λi hi=>hi)
 have hr:VR D ρ F.lv (.sl (.st q) xs 0) u:=by
  simp only[VR];exact⟨u1,by omega,by omega⟩
 have hit:∀v,VR D ρ F.lv (match false with|true=>TV.map s|false=>TV.own s:TV D.T) v->v=sl.v:=λv h=>by
  simp only[VR]at h;obtain⟨q,e1,e2,_⟩:=h;rw[k1]at e1;injection e1 with e1;subst e1;exact e2
 obtain⟨os,os',a1,a2,a3,a4⟩:=zum hR (s:=s) (m:=false) (z:=.sl (.st q) xs 0) (v0:=sl.v) (λq h=>by cases h) hit hr ts.nx
 obtain⟨t',c1,c2⟩:=zuc (s:=s) (m:=false) (z:=.sl (.st q) xs 0) (v0:=sl.v) hit hr (fnd ts.t) σ.t 0 λj x v hx hv=>by
  obtain⟨u,e1,e2⟩:=hR.tm j x (by simpa using hx)
  rw[hv]at e1;injection e1 with e1;subst e1;exact e2
 have hu2:VH σ.H.lv σ.H.L (· ∈ sl.all) sl.v u:=by rw[hR.lv];exact u2
 obtain⟨d1,d2,d3⟩:=yix hd1 hu2 a2 a1 (λp hp=>⟨(a3 p hp).1,λhm=>by
  obtain⟨_,s',o,sl',b2,b3,b4,b5,b6,b7⟩:=a3 p hp
  exact b3 (hR.inj s' s o _ sl' sl p.1 b4 ho b5 trivial b6 k1 (.inl b7) (Slot.zqw.1 hm))⟩) c1
 rw[hR.lv]at d1;refine⟨_,d1,?_⟩
 have hfp:∀s' o sl' n,s'≠s->fnd ts.o s'=some o->o.live->ρ[s']? = some sl'->n∈sl'.fp->_:=λs' o' sl' n hne ho' hl' hs' hi=>by
  obtain⟨f1,f2⟩:=hR.fpl s' o' sl' n ho' hl' hs' hi;refine d3 n (hR.lt ho' hl' hs' (.inr hi)) (λhm =>?_) λp hp e =>?_
  exact hne (hR.inj s' s o' _ sl' sl n ho' ho hl' trivial hs' k1 (.inr hi) (Slot.zqw.1 hm));obtain⟨_,s2,o2,sl2,b2,b3,b4,b5,b6,b7⟩:=a3 p hp;have:=hR.inj s2 s' o2 o' sl2 sl' n b4 ho' b5 hl' b6 hs' (.inl (by rw[b7,e])) (.inr hi);subst this
  rw[hs']at b6;injection b6 with b6;subst b6
  exact f1 (by rw[b7,e])
 refine y2a hR (λq h=>by cases h) k1 hd0 a4 c1 c2 d2 (zqg _ _ _) (λn hn =>?_) hfp;refine d3 n (hR.out n hn).1 (λhm =>?_) λp hp e =>?_
 exact hR.mine s _ sl n ho trivial k1 (Slot.zqw.1 hm) hn;obtain⟨_,s',o,sl',b2,b3,b4,b5,b6,b7⟩:=a3 p hp;exact hR.mine s' o sl' n b4 b5 b6 (.inl (by rw[b7,e])) hn
 ·rename_i ty t es hd0 ho;split at h
  case isFalse=>cases h
  rename_i hfl;injection h with h;subst h;have hd1:σ.d=[]:=by have:=hR.d;rw[hd0]at this;exact this
  obtain⟨sl,k1,k2⟩:=hR.ob s _ ho;simp only[OR]at k2;obtain⟨i,ms,q1,q2',q4,q3⟩:=k2;have q2:=hfl;have hr:VR D ρ F.lv (.mc t es) (.mapc (es.map λp=>(.str p.1,zyj t p.2))):=by unfold VR;exact⟨q2,rfl⟩
  have hit:∀v,VR D ρ F.lv (match true with|true=>TV.map s|false=>TV.own s:TV D.T) v->v = .map F.lv i:=λv h=>by
   simp only[VR]at h;obtain⟨q,i',e1,e2,e3⟩:=h;rw[k1]at e1;injection e1 with e1;subst e1;rw[q1]at e2;injection e2 with e2;subst e2;exact e3
  obtain⟨os,os',a1,a2,a3,a4⟩:=zum hR (s:=s) (m:=true) (z:=.mc t es) (λq h=>by cases h) hit hr ts.nx
  obtain⟨t',c1,c2⟩:=zuc (s:=s) (m:=true) (z:=.mc t es) hit hr (fnd ts.t) σ.t 0 λj x v hx hv=>by
   obtain⟨u,e1,e2⟩:=hR.tm j x (by simpa using hx)
   rw[hv]at e1;injection e1 with e1;subst e1;exact e2
  rw[<-hR.lv]at a1 c1
  have q3':σ.H.L[i]? = some (some (.map ((es.map λp=>((.str p.1:PV),zyj t p.2)).map λp=>(p.1.v,p.2.v)))):=by
   rw[q3,List.map_map,q2',List.map_map]
   congr 3
   exact List.map_congr_left λp hp=>by show _=(V.str p.1,(zyj t p.2.1).v);rw[yq7 D q2,DR.flat q2 (q4 p hp)]
  obtain⟨d1,d2,d3⟩:=ykk q3' hd1 a2 a1 (λp hp=>⟨(a3 p hp).1,λe=>by
   obtain⟨_,s',o,sl',b2,b3,b4,b5,b6,b7⟩:=a3 p hp
   exact b3 (hR.inj s' s o _ sl' sl p.1 b4 ho b5 trivial b6 k1 (.inl b7) (.inl (by rw[e];exact q1)))⟩) c1
  rw[hR.lv]at d1;refine⟨_,d1,?_⟩
  have hfp:∀s' o sl' n,s'≠s->fnd ts.o s'=some o->o.live->ρ[s']? = some sl'->n∈sl'.fp->_:=λs' o' sl' n hne ho' hl' hs' hi=>by
   obtain⟨f1,f2⟩:=hR.fpl s' o' sl' n ho' hl' hs' hi;refine d3 n (hR.lt ho' hl' hs' (.inr hi)) (λe =>?_) λp hp e =>?_
   subst e;exact hne (hR.inj s' s o' _ sl' sl n ho' ho hl' trivial hs' k1 (.inr hi) (.inl q1));obtain⟨_,s2,o2,sl2,b2,b3,b4,b5,b6,b7⟩:=a3 p hp;have:=hR.inj s2 s' o2 o' sl2 sl' n b4 ho' b5 hl' b6 hs' (.inl (by rw[b7,e])) (.inr hi);subst this
   rw[hs']at b6;injection b6 with b6;subst b6
   exact f1 (by rw[b7,e])
  refine y2a hR (λq h=>by cases h) k1 hd0 a4 c1 c2 d2 (zft _ _ _) (λn hn =>?_) hfp;refine d3 n (hR.out n hn).1 (λe =>?_) λp hp e =>?_
  subst e;exact hR.mine s _ sl n ho trivial k1 (.inl q1) hn;obtain⟨_,s',o,sl',b2,b3,b4,b5,b6,b7⟩:=a3 p hp;exact hR.mine s' o sl' n b4 b5 b6 (.inl (by rw[b7,e])) hn
 cases h
end
section
variable {P : Program} {D : Dat} {F : Fr} {ρ : List Slot} {ts : TS D.T} {σ : St} {lv : Nat}
theorem zhx{α:Type}:∀(a b:List (Nat×α)) (j:Nat),fnd (a++b) j=match fnd a j with|some x=>some x|none=>fnd b j
 |[],b,j=>rfl
 |(i,x)::a,b,j=>by
  rw[List.cons_append,yz8,yz8];split;rfl;exact zhx a b j
theorem y3x{T:Nat->Type}:∀(tos:List (TO T)) (n s:Nat) (o:TO T),fnd (ya3 tos n) s=some o->∃a,s=n+a∧tos[a]? = some o
 |[],n,s,o,h=>by cases h
 |t::r,n,s,o,h=>by
  simp only[ya3,yz8]at h;split at h
  rename_i e;injection h with h;subst h;subst e;exact⟨0,rfl,rfl⟩
  obtain⟨a,h1,h2⟩:=y3x r (n+1) s o h;exact⟨a+1,by omega,by simpa using h2⟩
theorem zxq{T:Nat->Type}:∀(l:List Nat) (s:Nat) (o:TO T),fnd (zve l) s=some o->o = .gone∧s∈l
 |[],s,o,h=>by cases h
 |t::r,s,o,h=>by
  simp only[zve,List.map_cons,yz8]at h;split at h
  rename_i e;injection h with h;subst h;subst e;exact⟨rfl,Qak⟩
  obtain⟨h1,h2⟩:=zxq r s o h;exact⟨h1,Qai _ h2⟩
theorem zuj{T:Nat->Type}:∀(l:List Nat) (s:Nat),fnd (zve (T:=T) l) s=none->s∉l
 |[],s,h=>by simp
 |t::r,s,h=>by
  simp only[zve,List.map_cons,yz8]at h;split at h;cases h;rename_i e;intro hm
  rcases Qbl.1 hm with rfl|hm
  exact e rfl;exact zuj r s h hm
theorem TRr.zn6(hR:TRr D F ρ ts σ)(olds:List Nat)(hold:∀s∈olds,∃o sl,fnd ts.o s=some o∧o.live∧ρ[s]? = some sl)(news:List (TO D.T×Slot))(H':Heap)(hlv:H'.lv=F.lv)(hE:H'.E=F.E)(hlen:σ.H.L.length<=H'.L.length)
  (hL:∀i,i<σ.H.L.length->(∀s∈olds,∀sl,ρ[s]? = some sl->¬sl.has i)->H'.L[i]? = σ.H.L[i]?)
  (hhas:∀p∈news,∀i,p.2.has i->σ.H.L.length<=i∨∃s∈olds,∃sl,ρ[s]? = some sl∧sl.has i)
  (hdis:∀(a b:Nat) (p p':TO D.T×Slot) (i:Nat),news[a]? = some p->news[b]? = some p'->p.2.has i->p'.2.has i->a=b)
  (hor:∀p∈news,OR D (ρ++news.map (·.2)) F.lv H'.L p.2 p.1)
  (hfp:∀p∈news,∀i∈p.2.fp,p.2.k≠some i∧∃a,H'.L[i]? = some (some a)) :
  TRr D F (ρ++news.map (·.2)) (ts.zn6 olds (news.map (·.1))) {σ with H:=H'}:=by
 have kinds:∀s o,fnd (ts.zn6 olds (news.map (·.1))).o s=some o->(∃a p,s=ts.nx+a∧news[a]? = some p∧p.1=o)∨(o = .gone∧s∈olds)∨(s∉olds∧fnd ts.o s=some o):=λs o h=>by
  simp only[TS.zn6]at h;rw[zhx]at h;split at h;rename_i o' ho';injection h with h;subst h;obtain⟨a,h1,h2⟩:=y3x _ _ _ _ ho';rw[Qan,Qaf]at h2;obtain⟨p,h3,h4⟩:=h2;exact .inl ⟨a,p,h1,h3,h4⟩;rw[zhx]at h;split at h;rename_i o' ho';injection h with h;subst h;exact .inr (.inl (zxq _ _ _ ho'));rename_i hn;exact .inr (.inr ⟨zuj _ _ hn,h⟩)
 have slotNew:∀(a:Nat) (p:TO D.T×Slot),news[a]? = some p->(ρ++news.map (·.2))[ts.nx+a]? = some p.2:=λa p h=>by
  rw[<-hR.nx,Qav (by omega),show ρ.length+a-ρ.length=a by omega,Qan,h];rfl
 have slotOld:∀s o sl,fnd ts.o s=some o->(ρ++news.map (·.2))[s]? = some sl->ρ[s]? = some sl:=λs o sl ho h=>by
  obtain⟨q,h1,h2⟩:=hR.ob s o ho;rw[lookup_append h1]at h;rw[h1,h]
 have apart:∀s o sl i,fnd ts.o s=some o->o.live->s∉olds->ρ[s]? = some sl->sl.has i->∀s0∈olds,∀sl0,ρ[s0]? = some sl0->¬sl0.has i:=λs o sl i ho hl hno hs hk s0 h0 sl0 h1 h2=>by
  obtain⟨o0,sl1,e1,e2,e3⟩:=hold s0 h0
  rw[h1]at e3;injection e3 with e3;subst e3
  have:=hR.inj s s0 o o0 sl sl0 i ho e1 hl e2 hs h1 hk h2;subst this;exact hno h0
 have mem:∀{a:Nat}{p:TO D.T×Slot},news[a]? = some p->p∈news:=λh=>Qax h
 have newold:∀(a:Nat) (p:TO D.T×Slot) s o sl i,news[a]? = some p->p.2.has i->fnd ts.o s=some o->o.live->s∉olds->ρ[s]? = some sl->sl.has i->False:=λa p s o sl i hp hi ho hl hno hs hk=>by
  rcases hhas p (mem hp) i hi with h|⟨s0,h0,sl0,h1,h2⟩
  have:=hR.lt ho hl hs hk;omega;exact apart s o sl i ho hl hno hs hk s0 h0 sl0 h1 h2
 refine⟨by simp[TS.zn6,hR.nx],hR.nt,λj x hj =>?_,λs o ho =>?_,λs s' o o' sl sl' i h1 h2 l1 l2 r1 r2 k1 k2 =>?_,λs o sl i h1 l1 r1 k1 =>?_,hlv,hE,hR.e0,hR.d.more _,λi hi =>?_,λj sl hj=>lookup_append (hR.pin j sl hj),λs o sl i h1 l1 r1 k1 =>?_,λi s v h1 h2=>(hR.g i s v h1 h2).more _⟩;obtain⟨v,h1,h2⟩:=hR.tm j x hj;exact⟨v,h1,h2.more _⟩
 rcases kinds s o ho with ⟨a,p,rfl,h2,rfl⟩|⟨rfl,h1⟩|⟨h1,h2⟩
 exact⟨p.2,slotNew a p h2,hor p (mem h2)⟩;obtain⟨o0,sl,e1,e2,e3⟩:=hold s h1;exact⟨sl,lookup_append e3,by simp only[OR]⟩;obtain⟨q,e1,e2⟩:=hR.ob s o h2;exact⟨q,lookup_append e1,e2.mono _ λi hi hl=>hL i (hR.lt h2 hl e1 hi) (apart s o q i h2 hl h1 e1 hi)⟩
 rcases kinds s o h1 with ⟨a,p,rfl,a2,rfl⟩|⟨rfl,a1⟩|⟨a1,a2⟩
 rw[slotNew a p a2]at r1;injection r1 with r1;subst r1
 rcases kinds s' o' h2 with ⟨b,p',rfl,b2,rfl⟩|⟨rfl,b1⟩|⟨b1,b2⟩
 rw[slotNew b p' b2]at r2;injection r2 with r2;subst r2
 rw[hdis a b p p' i a2 b2 k1 k2];exact l2.elim;exact(newold a p s' o' sl' i a2 k1 b2 l2 b1 (slotOld _ _ _ b2 r2) k2).elim;exact l1.elim
 rcases kinds s' o' h2 with ⟨b,p',rfl,b2,rfl⟩|⟨rfl,b1⟩|⟨b1,b2⟩
 rw[slotNew b p' b2]at r2;injection r2 with r2;subst r2
 exact(newold b p' s o sl i b2 k2 a2 l1 a1 (slotOld _ _ _ a2 r1) k1).elim;exact l2.elim;exact hR.inj s s' o o' sl sl' i a2 b2 l1 l2 (slotOld _ _ _ a2 r1) (slotOld _ _ _ b2 r2) k1 k2
 rcases kinds s o h1 with ⟨a,p,rfl,a2,rfl⟩|⟨rfl,a1⟩|⟨a1,a2⟩
 rw[slotNew a p a2]at r1;injection r1 with r1;subst r1
 intro ho
 rcases hhas p (mem a2) i k1 with h|⟨s0,h0,sl0,h3,h4⟩
 have:=(hR.out i ho).1;omega;obtain⟨o0,sl1,e1,e2,e3⟩:=hold s0 h0;exact hR.mine s0 o0 sl0 i e1 e2 h3 h4 ho;exact l1.elim;exact hR.mine s o sl i a2 l1 (slotOld _ _ _ a2 r1) k1;obtain⟨h1,h2⟩:=hR.out i hi;refine⟨Qbj h1 hlen,(hL i h1 λs0 h0 sl0 h3 h4 =>?_).trans h2⟩;obtain⟨o0,sl1,e1,e2,e3⟩:=hold s0 h0;exact hR.mine s0 o0 sl0 i e1 e2 h3 h4 hi
 rcases kinds s o h1 with ⟨a,p,rfl,a2,rfl⟩|⟨rfl,a1⟩|⟨a1,a2⟩
 rw[slotNew a p a2]at r1;injection r1 with r1;subst r1
 exact hfp p (mem a2) i k1;exact l1.elim;have q1:=slotOld _ _ _ a2 r1;have hq:=hR.fpl s o sl i a2 l1 q1 k1;refine⟨hq.1,?_⟩;show ∃a,H'.L[i]? = _;rw[hL i (hR.lt a2 l1 q1 (.inr k1)) (apart s o sl i a2 l1 a1 q1 (.inr k1))];exact hq.2
end
theorem yfz{T:Nat->Type}{a b:DTy}{x:a.S T}{y:b.S T}(h:zus a b x=some y):∃e:a=b,y=e▸x:=by
 unfold zus at h;split at h
 rename_i e;injection h with h;exact⟨e,h.symm⟩
 cases h
theorem yi9{T:Nat->Type}:∀{l:List DTy}{x z:HL T l}{f:Nat}{t:DTy}{y:t.S T},HL.upd l x f t y=some z->∀j,HL.nth l z j=if j=f then some ⟨t,y⟩else HL.nth l x j
 |[],x,z,f,t,y,h=>by cases h
 |t0::l,x,z,0,t,y,h=>by
  unfold HL.upd at h
  cases h1:zus t t0 y with
  |none=>rw[h1]at h;cases h
  |some y'=>
  rw[h1]at h;injection h with h;subst h;obtain⟨e1,e2⟩:=yfz h1;subst e1;subst e2;intro j
  cases j with
  |zero=>rfl
  |succ j=>rfl
 |t0::l,x,z,f+1,t,y,h=>by
  unfold HL.upd at h
  cases h1:HL.upd l x.2 f t y with
  |none=>rw[h1]at h;cases h
  |some z'=>
  rw[h1]at h;injection h with h;subst h;intro j
  cases j with
  |zero=>rfl
  |succ j=>
   have:=yi9 h1 j;simp only[HL.nth,this,Nat.add_right_cancel_iff]
theorem yow{T:Nat->Type}:∀(l:List DTy) (x:HL T l) (j:Nat),HL.at l x j=HL.nth l x j
 |[],_,_=>rfl
 |_::_,_,0=>rfl
 |_::l,x,j+1=>yow l x.2 j
section
variable {P : Program} {D : Dat} {F : Fr} {ρ : List Slot} {ts : TS D.T} {σ : St} {lv : Nat} {L : List (Option zz4)}
theorem yns{T:Nat->Type}:∀{l:List DTy}{x z:HL T l}{f:Nat}{t:DTy}{y:t.S T},HL.upd l x f t y=some z->f<l.length
 |[],x,z,f,t,y,h=>by cases h
 |t0::l,x,z,0,t,y,h=>by simp
 |t0::l,x,z,f+1,t,y,h=>by
  unfold HL.upd at h
  cases h1:HL.upd l x.2 f t y with
  |none=>rw[h1]at h;cases h
  |some z'=>have:=yns h1;simp;omega
theorem zup{α:Type}{l:List α}{n:Nat}{a:α}(h:l[n]? = some a):l.set n a=l:=by
 apply List.ext_getElem?;intro i;rw[Qbi];split;rename_i e;subst e;rw[Qbx (Qaa.1 h).1,h];rfl
theorem y88(hD:D.Ok P)(hR:TRr D F ρ ts σ){s c ty q f:Nat}{n:Int}{xs:List (D.T q)}(hs:fnd ts.o s=some (.deep ty q xs (some (n,f,c)))){o:TO D.T}(hc:fnd ts.o c=some o)(hol:o.live)(hne:c≠s){ty':Nat}{t':DTy}{ys:List (t'.S D.T)}(how:D.ow q f=some ty')
  {slc:Slot} (hslc:ρ[c]? = some slc) {fpc:List Nat}(hdo:DO D F.lv σ.H.L (.own ty') (.sl t') ys slc.v fpc) (hfpc:∀i∈fpc,slc.has i) (hnd:fpc.Nodup) {y:D.T q}{z:HL D.T (D.fl q)}(hy:ix xs n=some y) (hz:HL.upd (D.fl q) (D.get q y) f (.sl t') ys=some z) :
  ∃ρ',TRr D F ρ' ((ts.zn6 [s,c] [.deep ty q (xs.set n.toNat (D.make q z)) none]).z9k D (TV.ren D s ts.nx)) σ:=by
 obtain⟨sl,k1,k2⟩:=hR.ob s _ hs;simp only[OR]at k2;obtain⟨q1,q3⟩:=k2
 cases hk:sl.k with
 |none=>rw[hk]at q3;cases q3.2.2.2
 |some j=>
 rw[hk]at q3;obtain⟨ver,cp,fps,e1,e2,e3,e4,e5,e6,e7⟩:=q3;obtain⟨p1,p2⟩:=zfe hy;have hlt:n.toNat<xs.length:=(Qaa.1 p2).1;have hw:sl.ws[n.toNat]? = some (sl.ws[n.toNat]'(by omega)):=Qab (by omega);have hc0:fps[n.toNat]? = some (fps[n.toNat]'(by omega)):=Qab (by omega);obtain⟨vs,cs,b1,b2,b3,b4,b5⟩:=e6 n.toNat y _ _ p2 hw hc0;have hf:=yns hz
 obtain⟨pf,hpf,_⟩:=HL.zgi (D.fl q) (D.get q y) f hf;have hu:vs[f]? = some (vs[f]'(by omega)):=Qab (by omega);have hb:cs[f]? = some (cs[f]'(by omega)):=Qab (by omega);have hole:=b5 f pf _ _ hpf hu hb;rw[show z0g (some (n,f,c)) n.toNat f=some c by simp[z0g]]at hole;obtain⟨g1,g2,g3,sl2,g4,g5⟩:=hole
 rw[hslc]at g4;injection g4 with g4;subst g4
 rw[g1]at hb;rw[g5]at hu;have hcs:(cs.set f fpc)[f]? = some fpc:=Qaq (by omega);have hback:(cs.set f fpc).set f []=cs:=by rw[List.set_set];exact zup hb
 have perm1:(cs.set f fpc).flatten.Perm (fpc++cs.flatten):=by
  have:=z8z (cs.set f fpc) f fpc fpc [] hcs (by simp);rw[hback]at this;exact this
 rw[b4]at hc0;have hfs:(fps.set n.toNat (cs.set f fpc).flatten)[n.toNat]? = some (cs.set f fpc).flatten:=Qaq (by omega)
 have perm2:(fps.set n.toNat (cs.set f fpc).flatten).flatten.Perm (fpc++sl.fp):=by
  have:=z8z _ n.toNat _ fpc cs.flatten hfs perm1;rw[List.set_set,zup hc0,<-e4]at this;exact this
 have hmem:∀i,i∈(fps.set n.toNat (cs.set f fpc).flatten).flatten->i∈fpc∨i∈sl.fp:=λi hi=>Qbb.1 (perm2.mem_iff.1 hi)
 have hap:∀i,slc.has i->sl.has i->False:=λi h1 h2=>hne (hR.inj c s o _ slc sl i hc hs hol trivial hslc k1 h1 h2)
 let sl':Slot:=⟨sl.v,sl.k,sl.ws,(fps.set n.toNat (cs.set f fpc).flatten).flatten⟩
 have hT:=hR.zn6 [s,c] (λs0 h0=>by
  rcases Qbl.1 h0 with rfl|h0
  exact⟨_,sl,hs,trivial,k1⟩
  rcases Qbl.1 h0 with rfl|h0
  exact⟨o,slc,hc,hol,hslc⟩
  cases h0) [((.deep ty q (xs.set n.toNat (D.make q z)) none:TO D.T),sl')] σ.H hR.lv hR.E (Qbw _) (λ_ _ _=>rfl)
  (λp hp i hi=>by
   rcases Qbl.1 hp with rfl|hp
   rcases hi with hi|hi
   exact .inr ⟨s,Qak,sl,k1,.inl hi⟩
   rcases hmem i hi with hi|hi
   exact .inr ⟨c,Qai _ Qak,slc,hslc,hfpc i hi⟩;exact .inr ⟨s,Qak,sl,k1,.inr hi⟩
   cases hp)
  (λa b p p' i ha hb' _ _=>by
   have h1:=(Qaa.1 ha).1;have h2:=(Qaa.1 hb').1
   simp at h1 h2;omega)
  (λp hp=>by
   rcases Qbl.1 hp with rfl|hp
   simp only[OR];refine⟨by simpa using q1,?_⟩;show(match sl.k with|none=>_|some j=>_);rw[hk];refine⟨ver,cp,fps.set n.toNat (cs.set f fpc).flatten,e1,e2,by simpa using e3,rfl,?_,λm x w' c' m1 m2 m3 =>?_,λ_ _ _ h=>by cases h⟩;refine perm2.nodup_iff.2 (List.nodup_append.2 ⟨hnd,e5,λa ha b hb' e =>?_⟩);subst e;exact hap a (hfpc a ha) (.inr hb');by_cases hm:n.toNat=m;subst hm
   rw[Qaq hlt]at m1;injection m1 with m1;subst m1
   rw[hfs]at m3;injection m3 with m3;subst m3
   have m2':sl.ws[n.toNat]? = some w':=m2
   rw[hw]at m2';injection m2' with m2'
   refine⟨vs,cs.set f fpc,m2'.symm.trans b1,b2,by simpa using b3,rfl,λf' p' u' b' r1 r2 r3 =>?_⟩;show DO D F.lv σ.H.L (ykf (D.ow q f')) p'.1 p'.2 u' b';rw[hD.getMake,yi9 hz]at r1;by_cases hff:f'=f;subst hff
   rw[Qbx rfl]at r1;injection r1 with r1;subst r1
   rw[hu]at r2;injection r2 with r2;subst r2
   rw[hcs]at r3;injection r3 with r3;subst r3
   rw[how];exact hdo;rw[Qby hff]at r1;rw[Qam (λe=>hff e.symm)]at r3;have:=b5 f' p' u' b' r1 r2 r3;rw[show z0g (some (n,f,c)) n.toNat f'=none by simp[z0g];exact λe=>hff e.symm]at this;exact this;rw[Qam hm]at m1;rw[Qam hm]at m3;obtain⟨vs',cs',d1,d2,d3,d4,d5⟩:=e6 m x w' c' m1 m2 m3;refine⟨vs',cs',d1,d2,d3,d4,λf' p' u' b' r1 r2 r3 =>?_⟩
   have:=d5 f' p' u' b' r1 r2 r3;rw[show z0g (some (n,f,c)) m f'=none by simp[z0g];exact λe=>(hm e).elim]at this;exact this
   cases hp)
  (λp hp i hi=>by
   rcases Qbl.1 hp with rfl|hp
   rcases hmem i hi with hi|hi
   refine⟨λe=>hap i (hfpc i hi) (.inl e),?_⟩;exact hR.at hc hol hslc (hfpc i hi);exact hR.fpl s _ sl i hs trivial k1 hi
   cases hp)
 refine⟨_,hT.z9k (TV.ren D s ts.nx) λx v h=>VR.ren (sl:=sl) (sl':=sl') (lookup_append k1) ?_ rfl h⟩;rw[<-hR.nx];simp
theorem TRr.yj7(hR:TRr D F ρ ts σ){s:Nat}{o:TO D.T}{sl:Slot}(hs:fnd ts.o s=some o)(hl:o.live)(h:ρ[s]? = some sl)(hn:sl.fp.Nodup):sl.all.Nodup:=by
 unfold Slot.all
 cases hk:sl.k with
 |none=>simpa using hn
 |some j=>
  show(j::sl.fp).Nodup;refine List.nodup_cons.2 ⟨λhm =>?_,hn⟩;exact(hR.fpl s o sl j hs hl h hm).1 hk
theorem y3q{R:Type}(hD:D.Ok P)(hR:TRr D F ρ ts σ){s:Nat}{k:TS D.T->Option R}{r:R}(h:ts.fold D s k=some r):∃ts' ρ',TRr D F ρ' ts' σ∧k ts'=some r∧ts'.t=ts.t.map (λp=>(p.1,TV.ren D s ts.nx p.2))∧ts'.nt=ts.nt:=by
 unfold TS.fold at h;split at h;rename_i ty q xs n f c hs;split at h;rename_i ty' how;split at h;rename_i ty2 q' ys hc;split at h;rename_i hcc;obtain⟨rfl,hne⟩:=hcc;obtain⟨y,hy,h⟩:=z0o h;split at h;rename_i z hz;obtain⟨slc,c1,c2⟩:=hR.ob c _ hc
 have hn:slc.fp.Nodup:=by
  have c3:=c2;simp only[OR]at c3;have c4:=c3.2
  cases hk:slc.k with
  |none=>rw[hk]at c4;rw[c4.2.2.1];exact List.nodup_nil
  |some j=>rw[hk]at c4;obtain⟨_,_,_,_,_,_,_,c5,_⟩:=c4;exact c5
 obtain⟨ρ',w⟩:=y88 hD hR hs hc trivial hne how c1 (yav c2) (λi hi=>Slot.zqw.1 hi) (hR.yj7 hc trivial c1 hn) hy hz;exact⟨_,ρ',w,h,rfl,rfl⟩;cases h;cases h;rename_i ty2 t' ys hc;split at h;rename_i hcc;obtain⟨rfl,hne,hpl⟩:=hcc;obtain⟨y,hy,h⟩:=z0o h;split at h;rename_i z hz;obtain⟨slc,c1,c2⟩:=hR.ob c _ hc
 obtain⟨ρ',w⟩:=y88 hD hR hs hc trivial hne how c1 (yr7 c2 hpl) (λi hi=>.inl (by cases hk:slc.k <;> rw[hk]at hi <;> simp at hi;rw[hi])) (by cases slc.k <;> simp) hy hz;exact⟨_,ρ',w,h,rfl,rfl⟩;cases h;cases h;cases h;cases h;cases h
end
section
variable {P : Program} {D : Dat} {F : Fr} {ρ : List Slot} {ts : TS D.T} {σ : St} {lv : Nat} {L : List (Option zz4)}
theorem ydi{t:DTy}{x:t.S D.T}{w:V}{c:List Nat}(h:DO D lv L .el t x w c)(ht:D.zjs t=true):DR D t x w:=by
 cases h with
 |elf _ h=>exact h
 |el hl hc h=>
  rename_i i y vs cs;refine .st _ _ _ hl λf p u h1 h2 =>?_
  have hf:f<(D.fl i).length:=(HL.zay _ _ _ _ h1).1;obtain⟨b,hb⟩:∃b,cs[f]? = some b:=⟨_,Qab (show f<cs.length by omega)⟩;have:=h f p u b h1 h2 hb;rw[ztq ht i f hf rfl]at this
  cases this with
  |dat h=>exact h
theorem yg4{q:Nat}{x:D.T q}{w:V}{c:List Nat}(h:DO D lv L .el (.st q) x w c)(ht:D.owns q=true)(ρ:List Slot)(n:Nat):EO D ρ lv L q none n x w c:=by
 cases h with
 |elf h1 h=>
  simp only[Dat.owns,List.any_eq_true,List.mem_range]at ht;obtain⟨f,hf,ho⟩:=ht
  rw[h1 q f hf rfl]at ho;cases ho
 |el hl hc h=>exact⟨_,_,rfl,hl,hc,rfl,λf p u b h1 h2 h3=>h f p u b h1 h2 h3⟩
theorem ymy{ty:Nat}{t:DTy}{xs:List (t.S D.T)}{v:V}{fp:List Nat}(h:DO D lv L (.own ty) (.sl t) xs v fp)(h1:D.zjs t=true)(hu:t ≠ .int .u8):∃sl:Slot,sl.v=v∧v.leaf=true∧sl.all=fp∧∀ρ,OR D ρ lv L sl (.acc ty t xs true):=by
 cases h with
 |nil h hv=>
  refine⟨⟨v,none,[],[]⟩,rfl,by rcases hv with rfl|rfl <;> rfl,rfl,λρ =>?_⟩;unfold OR;refine⟨rfl,λj x w hj=>by simp at hj,?_⟩
  rcases hv with rfl|rfl
  exact .inl ⟨rfl,rfl⟩
  exact .inr ⟨⟨rfl,hu⟩,λ_=>rfl⟩
 |own hL hl hf he=>
  rename_i j ver cp ws fps;refine⟨⟨.hs lv j ver 0 ws.length false,some j,ws,fps.flatten⟩,rfl,rfl,rfl,λρ =>?_⟩;unfold OR;refine⟨hl,λn x w h2 h3 =>?_,ver,cp,rfl,hL⟩;have hn:n<fps.length:=by rw[hf];exact(Qaa.1 h2).1
  exact ydi (he n x w _ h2 h3 (Qab hn)) h1
theorem ypa{ty q:Nat}{xs:List (D.T q)}{v:V}{fp:List Nat}(h:DO D lv L (.own ty) (.sl (.st q)) xs v fp)(h1:D.owns q=true)(hn:fp.Nodup):∃sl:Slot,sl.v=v∧v.leaf=true∧sl.all=fp∧∀ρ,OR D ρ lv L sl (.deep ty q xs none):=by
 cases h with
 |nil h hv=>
  refine⟨⟨v,none,[],[]⟩,rfl,by rcases hv with rfl|rfl <;> rfl,rfl,λρ =>?_⟩;unfold OR
  exact⟨rfl,rfl,hv,rfl,rfl⟩
 |own hL hl hf he=>
  rename_i j ver cp ws fps;refine⟨⟨.hs lv j ver 0 ws.length false,some j,ws,fps.flatten⟩,rfl,rfl,rfl,λρ =>?_⟩;unfold OR;exact⟨hl,ver,cp,fps,rfl,hL,hf,rfl,(List.nodup_cons.1 hn).2,λn x w c h2 h3 h4=>yg4 (he n x w c h2 h3 h4) h1 ρ n,λ_ _ _ h=>by cases h⟩
theorem y1r(hD:D.Ok P)(hR:TRr D F ρ ts σ){s ty q f:Nat}{n:Int}{xs:List (D.T q)}(hs:fnd ts.o s=some (.deep ty q xs none)){ty':Nat}{t':DTy}{ys:List (t'.S D.T)}(how:D.ow q f=some ty')
  {y:D.T q} (hy:ix xs n=some y) (hz:HL.nth (D.fl q) (D.get q y) f=some ⟨.sl t',ys⟩) {to:TO D.T}(hto:∀v fp,DO D F.lv σ.H.L (.own ty') (.sl t') ys v fp->fp.Nodup->∃slc:Slot,slc.v=v∧v.leaf=true∧slc.all=fp∧∀ρ,OR D ρ F.lv σ.H.L slc to) :
  ∃ρ',TRr D F ρ' ((ts.zn6 [s] [.deep ty q xs (some (n,f,ts.nx+1)),to]).z9k D (TV.ren D s ts.nx)) σ∧∃j ver m w u,σ.H.L[j]? = some (some (.arr ver ty (D.len (.st q)) m w))∧(∃sl,ρ[s]? = some sl∧sl.v = .hs F.lv j ver 0 m.length false)∧(m[n.toNat]?.bind λx=>x.cells[f]?)=some u∧VR D ρ' F.lv (.own (ts.nx+1)) u:=by
 obtain⟨sl,k1,k2⟩:=hR.ob s _ hs;simp only[OR]at k2;obtain⟨q1,q3⟩:=k2;obtain⟨p1,p2⟩:=zfe hy;have hlt:n.toNat<xs.length:=(Qaa.1 p2).1
 cases hk:sl.k with
 |none=>rw[hk]at q3;rw[q3.1]at hlt;simp at hlt
 |some j=>
 rw[hk]at q3;obtain⟨ver,cp,fps,e1,e2,e3,e4,e5,e6,e7⟩:=q3;have hw:sl.ws[n.toNat]? = some (sl.ws[n.toNat]'(by omega)):=Qab (by omega);have hc0:fps[n.toNat]? = some (fps[n.toNat]'(by omega)):=Qab (by omega);obtain⟨vs,cs,b1,b2,b3,b4,b5⟩:=e6 n.toNat y _ _ p2 hw hc0;have hf:=(HL.zay _ _ _ _ hz).1
 have hu:vs[f]? = some (vs[f]'(by omega)):=Qab (by omega);have hb:cs[f]? = some (cs[f]'(by omega)):=Qab (by omega);have hdo:DO D F.lv σ.H.L (ykf (D.ow q f)) (.sl t') ys _ _:=b5 f ⟨.sl t',ys⟩ _ _ hz hu hb;rw[how]at hdo;rw[b4]at hc0
 have perm0:sl.fp.Perm ((cs[f]'(by omega))++(fps.set n.toNat (cs.set f []).flatten).flatten):=by rw[e4];exact z8z fps n.toNat _ _ _ hc0 (z8z cs f _ _ [] hb (by simp))
 obtain⟨slc,c1,c2,c3,c4⟩:=hto _ _ hdo (List.nodup_append.1 (perm0.nodup_iff.1 e5)).1;have perm2:sl.fp.Perm (slc.all++(fps.set n.toNat (cs.set f []).flatten).flatten):=by rw[c3];exact perm0
 have hnd:=perm2.nodup_iff.1 e5;obtain⟨hn1,hn2,hn3⟩:=List.nodup_append.1 hnd;have hin:∀i,slc.has i->i∈sl.fp:=λi h=>perm2.mem_iff.2 (List.mem_append_left _ (Slot.zqw.2 h))
 have hin2:∀i,i∈(fps.set n.toNat (cs.set f []).flatten).flatten->i∈sl.fp:=λi h=>perm2.mem_iff.2 (List.mem_append_right _ h)
 let sl':Slot:=⟨sl.v,sl.k,sl.ws,(fps.set n.toNat (cs.set f []).flatten).flatten⟩
 have hkn:∀i,i∈sl.fp->sl.k≠some i:=λi h=>(hR.fpl s _ sl i hs trivial k1 h).1
 have hget1:(ρ++[sl',slc])[ts.nx]? = some sl':=by rw[<-hR.nx];simp
 have hget2:(ρ++[sl',slc])[ts.nx+1]? = some slc:=by rw[<-hR.nx,Qav (by omega)];simp
 have hT:=hR.zn6 [s] (λs0 h0=>by
  rcases Qbl.1 h0 with rfl|h0
  exact⟨_,sl,hs,trivial,k1⟩
  cases h0) [((.deep ty q xs (some (n,f,ts.nx+1)):TO D.T),sl'),(to,slc)] σ.H hR.lv hR.E (Qbw _) (λ_ _ _=>rfl)
  (λp hp i hi=>by
   refine .inr ⟨s,Qak,sl,k1,?_⟩
   rcases Qbl.1 hp with rfl|hp
   rcases hi with hi|hi
   exact .inl hi;exact .inr (hin2 i hi)
   rcases Qbl.1 hp with rfl|hp
   exact .inr (hin i hi)
   cases hp)
  (λa b p p' i ha hb' h1 h2=>by
   have apart:sl'.has i->slc.has i->False:=λh1 h2=>by
    rcases h1 with h1|h1
    exact hkn i (hin i h2) h1;exact hn3 i (Slot.zqw.2 h2) i h1 rfl
   have l1:=(Qaa.1 ha).1;have l2:=(Qaa.1 hb').1;simp at l1 l2
   match a,b,ha,hb',l1,l2 with
   |0,0,_,_,_,_=>rfl
   |1,1,_,_,_,_=>rfl
   |0,1,ha,hb',_,_=>simp at ha hb';subst ha;subst hb';exact(apart h1 h2).elim
   |1,0,ha,hb',_,_=>simp at ha hb';subst ha;subst hb';exact(apart h2 h1).elim
   |a+2,_,_,_,l1,_=>omega
   |0,b+2,_,_,_,l2=>omega
   |1,b+2,_,_,_,l2=>omega)
  (λp hp=>by
   rcases Qbl.1 hp with rfl|hp
   simp only[OR];refine⟨q1,?_⟩;show(match sl.k with|none=>_|some j=>_);rw[hk];refine⟨ver,cp,fps.set n.toNat (cs.set f []).flatten,e1,e2,by simpa using e3,rfl,hn2,λm x w' c' m1 m2 m3 =>?_,λn' f' s' e =>?_⟩;by_cases hm:n.toNat=m;subst hm
   rw[p2]at m1;injection m1 with m1;subst m1
   rw[Qaq (by omega)]at m3;injection m3 with m3;subst m3
   have m2':sl.ws[n.toNat]? = some w':=m2
   rw[hw]at m2';injection m2' with m2'
   refine⟨vs,cs.set f [],m2'.symm.trans b1,b2,by simpa using b3,rfl,λf' p' u' b' r1 r2 r3 =>?_⟩;by_cases hff:f'=f;subst hff;rw[show z0g (some (n,f',ts.nx+1)) n.toNat f'=some (ts.nx+1) by simp[z0g]]
   rw[Qaq (by omega)]at r3;injection r3 with r3;subst r3
   rw[hu]at r2;injection r2 with r2;subst r2
   exact⟨rfl,by rw[how];rfl,c2,slc,hget2,c1.symm⟩;rw[show z0g (some (n,f,ts.nx+1)) n.toNat f'=none by simp[z0g];exact λe=>hff e.symm];rw[Qam (λe=>hff e.symm)]at r3;exact b5 f' p' u' b' r1 r2 r3;rw[Qam hm]at m3;obtain⟨vs',cs',d1,d2,d3,d4,d5⟩:=e6 m x w' c' m1 m2 m3;refine⟨vs',cs',d1,d2,d3,d4,λf' p' u' b' r1 r2 r3 =>?_⟩
   rw[show z0g (some (n,f,ts.nx+1)) m f'=none by simp[z0g];exact λe=>(hm e).elim];exact d5 f' p' u' b' r1 r2 r3;simp only[Qbu,Qbz]at e;obtain⟨rfl,rfl,rfl⟩:=e;exact⟨p1,hlt⟩
   rcases Qbl.1 hp with rfl|hp
   exact c4 _
   cases hp)
  (λp hp i hi=>by
   rcases Qbl.1 hp with rfl|hp
   exact hR.fpl s _ sl i hs trivial k1 (hin2 i hi)
   rcases Qbl.1 hp with rfl|hp
   refine⟨λe =>?_,(hR.fpl s _ sl i hs trivial k1 (hin i (.inr hi))).2⟩;have:slc.all=i::slc.fp:=by unfold Slot.all;rw[e];rfl
   rw[this]at hn1;exact(List.nodup_cons.1 hn1).1 hi
   cases hp)
 refine⟨_,hT.z9k (TV.ren D s ts.nx) λx v h=>VR.ren (sl:=sl) (sl':=sl') (lookup_append k1) hget1 rfl h,j,ver,sl.ws,cp,vs[f]'(by omega),e2,⟨sl,k1,e1⟩,?_,?_⟩;rw[hw];show(sl.ws[n.toNat]'(by omega)).cells[f]? = _;rw[b1];exact hu;simp only[VR];exact⟨slc,hget2,c1.symm,c2⟩
theorem y86{R:Type}(hD:D.Ok P)(hR:TRr D F ρ ts σ){s f:Nat}{n:Int}{k:TV D.T->TS D.T->Option R}{r:R}(h:ts.opn D s n f k=some r) :
  ∃ts' ρ' ty q j ver cp m u,k (.own (ts.nx+1)) ts'=some r∧TRr D F ρ' ts' σ∧σ.H.L[j]? = some (some (.arr ver ty (D.len (.st q)) m cp))∧(∃sl,ρ[s]? = some sl∧sl.v = .hs F.lv j ver 0 m.length false)∧(m[n.toNat]?.bind λx=>x.cells[f]?)=some u∧VR D ρ' F.lv (.own (ts.nx+1)) u:=by
 unfold TS.opn at h;split at h;rename_i ty q xs hs;split at h;rename_i ty' how;obtain⟨y,hy,h⟩:=z0o h;rw[yow]at h;split at h;rename_i q' ys hz;split at h;rename_i ho;obtain⟨ρ',w1,j,ver,m,w,u,w2,w3,w4,w5⟩:=y1r hD hR hs how hy hz λv fp hd hn=>ypa hd ho hn
 exact⟨_,ρ',ty,q,j,ver,w,m,u,h,w1,w2,w3,w4,w5⟩;rename_i ho;obtain⟨ρ',w1,j,ver,m,w,u,w2,w3,w4,w5⟩:=y1r hD hR hs how hy hz λv fp hd hn=>ymy hd (by simp[Dat.zjs,ho]) (by intro e;cases e)
 exact⟨_,ρ',ty,q,j,ver,w,m,u,h,w1,w2,w3,w4,w5⟩;rename_i t' ys _ hz;split at h;rename_i hc;simp only[Qag,Bool.not_eq_true',decide_eq_false_iff_not]at hc;obtain⟨ρ',w1,j,ver,m,w,u,w2,w3,w4,w5⟩:=y1r hD hR hs how hy hz λv fp hd hn=>ymy hd hc.1 hc.2
 exact⟨_,ρ',ty,q,j,ver,w,m,u,h,w1,w2,w3,w4,w5⟩;cases h;cases h;cases h;cases h
end
end Go.Ab
