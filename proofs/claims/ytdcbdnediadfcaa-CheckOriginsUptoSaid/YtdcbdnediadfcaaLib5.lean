/-
  THE TYPED MACHINE: what its states say of abstract states; operations that z15 nothing.
-/
import Derived.Test.YtdcbdnediadfcaaLib4
namespace Go.Ab
open Go
set_option linter.unusedVariables false
set_option linter.unusedSimpArgs false
structure Slot where
 v:V
 k:Option Nat
 ws:List V
 fp:List Nat:=[]
def Slot.has(sl:Slot)(i:Nat):Prop:=sl.k=some i∨i∈sl.fp
def zkq{T:Nat->Type}:(t:DTy)->t.S T->PV
 |.bool,b=>.bool b
 |.int k,n=>.int k n
 |.str,s=>.str s
 |_,_=>.bool false
theorem y7t(D:Dat):∀{t:DTy},t.flat=true->∀x:t.S D.T,(zkq t x).v=D.el t x
 |.bool,_,_=>rfl
 |.int _,_,_=>rfl
 |.str,_,_=>rfl
section
variable (D : Dat) (ρ : List Slot) (lv : Nat)
mutual
def VR:TV D.T->V->Prop
 |.any,_=>True
 |.bool b,v=>v = .bool b
 |.int k n,v=>v = .int k n
 |.str s,v=>v = .str s
 |.nilp,v=>v = .nilp
 |.nils,v=>v = .nils
 |.mapn,v=>v = .mapn
 |.nilf,v=>v = .nilf
 |.nili,v=>v = .nili
 |.sl t xs fl,v=>DR D (.sl t) xs v∧(1<=fl->∃ws,v = .sl (D.len t) ws true)∧(fl=2->xs=[])
 |.own s,v=>∃sl,ρ[s]? = some sl∧v=sl.v∧v.leaf=true
 |.osl s lo,v=>∃sl j ver,ρ[s]? = some sl∧sl.k=some j∧sl.v = .hs lv j ver 0 sl.ws.length false∧0<=lo∧lo.toNat<=sl.ws.length∧(v = .hs lv j ver lo.toNat (sl.ws.length-lo.toNat) false∨(lo.toNat=sl.ws.length∧∃sz,v = .sl sz [] false))
 |.ptr s off,v=>∃sl i,ρ[s]? = some sl∧sl.k=some i∧v = .ptr lv i off
 |.bp s off,v=>∃sl i,ρ[s]? = some sl∧sl.k=some i∧v = .ap lv i 0 0 off
 |.map s,v=>∃sl i,ρ[s]? = some sl∧sl.k=some i∧v = .map lv i
 |.mc t es,v=>t.flat=true∧v = .mapc (es.map λp=>(.str p.1,zkq t p.2))
 |.ref cs off,v=>∃vs,v = .ref vs off∧VRL cs vs
 |.ap s t i x off,v=>∃sl w,ρ[s]? = some sl∧0<=i∧sl.ws[i.toNat]? = some w∧DR D t x w ∧
  (match sl.k with
  |none=>v = .ref w.cells off
  |some j=>∃ver n,sl.v = .hs lv j ver 0 n false∧v = .ap lv j ver i.toNat off)
 |.fn f a b,v=>∃as bs,v = .fn f as bs∧VRL a as∧VRL b bs
 |.iface t x,v=>∃y,v = .iface t y∧VR x y
 |.agg cs,v=>∃vs,v = .agg vs∧VRL cs vs
 |.tup cs,v=>∃vs,v = .tup vs∧VRL cs vs
 |.dp s i off,v=>∃sl j ver m,ρ[s]? = some sl∧sl.v = .hs lv j ver 0 m false∧0<=i∧i.toNat<m∧v = .ap lv j ver i.toNat off
 |.bsl q cs,v=>∃vs,v = .sl (D.len (.st q)) vs true∧VRL cs vs
def VRL:List (TV D.T)->List V->Prop
 |[],vs=>vs=[]
 |c::cs,vs=>∃v r,vs=v::r∧VR c v∧VRL cs r
end
end
section
variable {D : Dat} {ρ : List Slot} {lv : Nat}
theorem VRL.length:∀{cs:List (TV D.T)}{vs:List V},VRL D ρ lv cs vs->cs.length=vs.length
 |[],vs,h=>by simp only[VRL]at h;subst h;rfl
 |c::cs,vs,h=>by
  simp only[VRL]at h;obtain⟨v,r,rfl,_,h2⟩:=h;simp[VRL.length h2]
theorem VRL.get:∀{cs:List (TV D.T)}{vs:List V},VRL D ρ lv cs vs->∀(j:Nat) (c:TV D.T),cs[j]? = some c->∃v,vs[j]? = some v∧VR D ρ lv c v
 |[],vs,h,j,c,hj=>by simp at hj
 |c::cs,vs,h,0,d,hj=>by
  simp only[VRL]at h;obtain⟨v,r,rfl,h1,h2⟩:=h;simp at hj;subst hj
  exact⟨v,rfl,h1⟩
 |c::cs,vs,h,j+1,d,hj=>by
  simp only[VRL]at h;obtain⟨v,r,rfl,h1,h2⟩:=h;obtain⟨u,hu,hr⟩:=VRL.get h2 j d (by simpa using hj);exact⟨u,by simpa using hu,hr⟩
theorem VRL.of:∀{cs:List (TV D.T)}{vs:List V},cs.length=vs.length->(∀(j:Nat) (c:TV D.T) (v:V),cs[j]? = some c->vs[j]? = some v->VR D ρ lv c v)->VRL D ρ lv cs vs
 |[],[],_,_=>by simp[VRL]
 |[],v::vs,h,_=>by simp at h
 |c::cs,[],h,_=>by simp at h
 |c::cs,v::vs,h,k=>by
  simp only[VRL];exact⟨v,vs,rfl,k 0 c v rfl rfl,VRL.of (by simpa using h) λj c' v' hc hv=>k (j+1) c' v' (by simpa using hc) (by simpa using hv)⟩
theorem VRL.zg7{cs:List (TV D.T)}{vs:List V}(h:VRL D ρ lv cs vs){j:Nat}{c:TV D.T}{v:V}(hc:cs[j]? = some c)(hv:vs[j]? = some v):VR D ρ lv c v:=by
 obtain⟨u,hu,hr⟩:=h.get j c hc
 rw[hv]at hu;injection hu with hu;subst hu;exact hr
theorem VRL.take{cs:List (TV D.T)}{vs:List V}(h:VRL D ρ lv cs vs)(n:Nat):VRL D ρ lv (cs.take n) (vs.take n) :=
 .of (by simp[h.length]) λj c v hc hv=>by
   rw[Qaw]at hc hv;split at hc;rw[Qbr ‹_›]at hv;exact h.zg7 hc hv;cases hc
theorem VRL.drop{cs:List (TV D.T)}{vs:List V}(h:VRL D ρ lv cs vs)(n:Nat):VRL D ρ lv (cs.drop n) (vs.drop n) :=
 .of (by simp[h.length]) λj c v hc hv=>by
   rw[Qbc]at hc hv;exact h.zg7 hc hv
theorem VRL.append{a b:List (TV D.T)}{x y:List V}(h:VRL D ρ lv a x)(k:VRL D ρ lv b y):VRL D ρ lv (a++b) (x++y) :=
 .of (by simp[h.length,k.length]) λj c v hc hv=>by
   rw[Qbb]at hc hv;rw[<-h.length]at hv;split at hc;rw[Qbr ‹_›]at hv;exact h.zg7 hc hv;rw[Qbs ‹_›]at hv;exact k.zg7 hc hv
theorem VRL.yzi{a b:List (TV D.T)}{x y:List V}(h:VRL D ρ lv a x)(k:VRL D ρ lv b y)(off:Nat):VRL D ρ lv (z6y a off b) (yzi x off y):=by
 unfold z6y Go.Ab.yzi;rw[k.length];exact((h.take off).append k).append (h.drop _)
theorem lookup_append{ρ e:List Slot}{s:Nat}{sl:Slot}(h:ρ[s]? = some sl):(ρ++e)[s]? = some sl:=by
 rw[Qal (Qaa.1 h).1];exact h
mutual
theorem VR.more(e:List Slot):∀{x:TV D.T}{v:V},VR D ρ lv x v->VR D (ρ++e) lv x v
 |.any,_,_=>by simp only[VR]
 |.bool b,_,h=>by simpa only[VR]using h
 |.int k n,_,h=>by simpa only[VR]using h
 |.str s,_,h=>by simpa only[VR]using h
 |.nilp,_,h=>by simpa only[VR]using h
 |.nils,_,h=>by simpa only[VR]using h
 |.mapn,_,h=>by simpa only[VR]using h
 |.nilf,_,h=>by simpa only[VR]using h
 |.nili,_,h=>by simpa only[VR]using h
 |.sl t xs fl,_,h=>by simpa only[VR]using h
 |.own s,_,h=>by simp only[VR]at h ⊢;obtain⟨sl,h1,h2⟩:=h;exact⟨sl,lookup_append h1,h2⟩
 |.osl s lo,_,h=>by simp only[VR]at h ⊢;obtain⟨sl,j,ver,h1,h2⟩:=h;exact⟨sl,j,ver,lookup_append h1,h2⟩
 |.ptr s off,_,h=>by simp only[VR]at h ⊢;obtain⟨sl,i,h1,h2⟩:=h;exact⟨sl,i,lookup_append h1,h2⟩
 |.bp s off,_,h=>by simp only[VR]at h ⊢;obtain⟨sl,i,h1,h2⟩:=h;exact⟨sl,i,lookup_append h1,h2⟩
 |.map s,_,h=>by simp only[VR]at h ⊢;obtain⟨sl,i,h1,h2⟩:=h;exact⟨sl,i,lookup_append h1,h2⟩
 |.mc t es,_,h=>by simpa only[VR]using h
 |.ref cs off,_,h=>by simp only[VR]at h ⊢;obtain⟨vs,h1,h2⟩:=h;exact⟨vs,h1,VRL.more e h2⟩
 |.ap s t i x off,_,h=>by simp only[VR]at h ⊢;obtain⟨sl,w,h1,h2⟩:=h;exact⟨sl,w,lookup_append h1,h2⟩
 |.fn f a b,_,h=>by simp only[VR]at h ⊢;obtain⟨as,bs,h1,h2,h3⟩:=h;exact⟨as,bs,h1,VRL.more e h2,VRL.more e h3⟩
 |.iface t x,_,h=>by simp only[VR]at h ⊢;obtain⟨y,h1,h2⟩:=h;exact⟨y,h1,VR.more e h2⟩
 |.agg cs,_,h=>by simp only[VR]at h ⊢;obtain⟨vs,h1,h2⟩:=h;exact⟨vs,h1,VRL.more e h2⟩
 |.tup cs,_,h=>by simp only[VR]at h ⊢;obtain⟨vs,h1,h2⟩:=h;exact⟨vs,h1,VRL.more e h2⟩
 |.dp s i off,_,h=>by simp only[VR]at h ⊢;obtain⟨sl,j,ver,m,h1,h2⟩:=h;exact⟨sl,j,ver,m,lookup_append h1,h2⟩
 |.bsl q cs,_,h=>by simp only[VR]at h ⊢;obtain⟨vs,h1,h2⟩:=h;exact⟨vs,h1,VRL.more e h2⟩
theorem VRL.more(e:List Slot):∀{cs:List (TV D.T)}{vs:List V},VRL D ρ lv cs vs->VRL D (ρ++e) lv cs vs
 |[],_,h=>by simpa only[VRL]using h
 |c::cs,_,h=>by simp only[VRL]at h ⊢;obtain⟨v,r,h1,h2,h3⟩:=h;exact⟨v,r,h1,VR.more e h2,VRL.more e h3⟩
end
theorem VR.cells{x:TV D.T}{v:V}(h:VR D ρ lv x v)(hs:x.kz9=true):VRL D ρ lv x.cells v.cells:=by
 have one:∀{x:TV D.T}{v:V},VR D ρ lv x v->v.cells=[v]->x.cells=[x]->VRL D ρ lv x.cells v.cells:=λ{x v} h h1 h2=>by
  rw[h1,h2];simp only[VRL];exact⟨v,[],rfl,h,rfl⟩
 cases x <;> simp only[TV.kz9,TV.leaf,Bool.false_eq_true]at hs
 case agg cs=>simp only[VR]at h;obtain⟨vs,rfl,h2⟩:=h;exact h2
 case sl t xs fl=>exact one h (by simp only[VR]at h;obtain⟨h,_⟩:=h;cases h <;> rfl) rfl
 case own s=>
  refine one h ?_ rfl;simp only[VR]at h;obtain⟨sl,_,_,h⟩:=h
  cases v <;> first|rfl|(simp[V.leaf]at h)
 case ap s t i x off=>
  refine one h ?_ rfl;simp only[VR]at h;obtain⟨sl,w,h1,h2,h3,h4,h5⟩:=h;split at h5;subst h5;rfl;obtain⟨ver,n,_,h5⟩:=h5;subst h5;rfl
 case fn f a b=>refine one h ?_ rfl;simp only[VR]at h;obtain⟨as,bs,rfl,_⟩:=h;rfl
 case iface t x=>refine one h ?_ rfl;simp only[VR]at h;obtain⟨y,rfl,_⟩:=h;rfl
 case ref cs off=>refine one h ?_ rfl;simp only[VR]at h;obtain⟨y,rfl,_⟩:=h;rfl
 case osl s lo=>refine one h ?_ rfl;simp only[VR]at h;obtain⟨y,i,ver,_,_,_,_,_,h⟩:=h;rcases h with rfl|⟨_,sz,rfl⟩ <;> rfl
 case ptr s off=>refine one h ?_ rfl;simp only[VR]at h;obtain⟨y,i,_,_,rfl⟩:=h;rfl
 case map s=>refine one h ?_ rfl;simp only[VR]at h;obtain⟨y,i,_,_,rfl⟩:=h;rfl
 case mc t es=>refine one h ?_ rfl;simp only[VR]at h;obtain⟨_,rfl⟩:=h;rfl
 case bp s off=>refine one h ?_ rfl;simp only[VR]at h;obtain⟨y,i,_,_,rfl⟩:=h;rfl
 case dp s i off=>refine one h ?_ rfl;simp only[VR]at h;obtain⟨y,j,ver,m,_,_,_,_,rfl⟩:=h;rfl
 case bsl q cs=>refine one h ?_ rfl;simp only[VR]at h;obtain⟨vs,rfl,_⟩:=h;rfl
 all_goals (refine one h ?_ rfl;simp only[VR]at h;subst h;rfl)
theorem VR.kz9{x:TV D.T}{v:V}(h:VR D ρ lv x v)(hs:x.kz9=true):v.kz9=true:=by
 have one:∀{v:V},v.leaf=true->v.kz9=true:=λ{v} h=>by cases v <;> first|rfl|exact h
 cases x <;> simp only[TV.kz9,TV.leaf,Bool.false_eq_true]at hs
 case agg cs=>simp only[VR]at h;obtain⟨vs,rfl,h2⟩:=h;rfl
 case sl t xs fl=>simp only[VR]at h;obtain⟨h,_⟩:=h;cases h <;> rfl
 case own s=>simp only[VR]at h;obtain⟨sl,_,_,h⟩:=h;exact one h
 case ap s t i x off=>
  simp only[VR]at h;obtain⟨sl,w,h1,h2,h3,h4,h5⟩:=h;split at h5;subst h5;rfl;obtain⟨ver,n,_,h5⟩:=h5;subst h5;rfl
 case fn f a b=>simp only[VR]at h;obtain⟨as,bs,rfl,_⟩:=h;rfl
 case iface t x=>simp only[VR]at h;obtain⟨y,rfl,_⟩:=h;rfl
 case ref cs off=>simp only[VR]at h;obtain⟨y,rfl,_⟩:=h;rfl
 case osl s lo=>simp only[VR]at h;obtain⟨y,i,ver,_,_,_,_,_,h⟩:=h;rcases h with rfl|⟨_,sz,rfl⟩ <;> rfl
 case ptr s off=>simp only[VR]at h;obtain⟨y,i,_,_,rfl⟩:=h;rfl
 case map s=>simp only[VR]at h;obtain⟨y,i,_,_,rfl⟩:=h;rfl
 case mc t es=>simp only[VR]at h;obtain⟨_,rfl⟩:=h;rfl
 case bp s off=>simp only[VR]at h;obtain⟨y,i,_,_,rfl⟩:=h;rfl
 case dp s i off=>simp only[VR]at h;obtain⟨y,j,ver,m,_,_,_,_,rfl⟩:=h;rfl
 case bsl q cs=>simp only[VR]at h;obtain⟨vs,rfl,_⟩:=h;rfl
 all_goals (simp only[VR]at h;subst h;rfl)
theorem VR.z34(v:Value):VR D ρ lv (TV.z34 v) (Go.Ab.z34 v):=by
 unfold TV.z34 Go.Ab.z34;split <;> simp only[VR]
theorem VRL.map{α:Type}(f:α->TV D.T)(g:α->V)(h:∀x,VR D ρ lv (f x) (g x)):∀l:List α,VRL D ρ lv (l.map f) (l.map g)
 |[]=>by simp[VRL]
 |x::l=>by simp only[List.map_cons,VRL];exact⟨_,_,rfl,h x,VRL.map f g h l⟩
theorem VR.ofC(v:Value):VR D ρ lv (TV.ofC v) (ofConst v):=by
 cases v with
 |agg cs=>
  simp only[TV.ofC,ofConst];split;simp only[VR];exact⟨_,rfl,VRL.map _ _ VR.z34 _⟩
  simp only[VR]
 |tuple cs=>simp only[TV.ofC,ofConst,VR];exact⟨_,rfl,VRL.map _ _ VR.z34 _⟩
 |iface t v=>simp only[TV.ofC,ofConst,VR];exact⟨_,rfl,VR.z34 _⟩
 |_=>simp only[TV.ofC,ofConst];exact VR.z34 _
theorem VR.leaf{t:DTy}{x:t.S D.T}{v:V}(h:DR D t x v):VR D ρ lv (D.leaf t x) v:=by
 cases t with
 |bool=>cases h;simp[Dat.leaf,VR]
 |int k=>cases h;simp[Dat.leaf,VR]
 |str=>cases h;simp[Dat.leaf,VR]
 |nat=>simp[Dat.leaf,VR]
 |st i=>simp[Dat.leaf,VR]
 |sl t=>simp only[Dat.leaf,VR];exact⟨h,by omega,by omega⟩
variable {P : Program} (hD : D.Ok P)
include hD
theorem DR.agg{i:Nat}{x:D.T i}{v:V}(h:DR D (.st i) x v):∃vs,v = .agg vs∧vs.length=(D.fl i).length∧∀(j:Nat) (p:(t:DTy)×t.S D.T) (u:V),HL.nth (D.fl i) (D.get i x) j=some p->vs[j]? = some u->DR D p.1 p.2 u:=by
 cases h with
 |st _ _ vs hl h=>exact⟨vs,rfl,hl,h⟩
 |enc=>exact⟨_,hD.enc i x,zli _ _,λj p u hp hu=>by
  rw[zs9,hp]at hu;injection hu with hu;subst hu
  exact DR.el _ _⟩
theorem VR.tv{t:DTy}{x:t.S D.T}{v:V}(h:DR D t x v):VR D ρ lv (D.tv t x) v:=by
 cases t with
 |st i=>
  obtain⟨vs,rfl,h1,h2⟩:=DR.agg hD h;simp only[Dat.tv,VR];refine⟨vs,rfl,.of (by rw[z2s,h1]) λj c u hc hu =>?_⟩;rw[z5g,Qaf]at hc;obtain⟨p,hp,rfl⟩:=hc
  exact .leaf (h2 j p u hp hu)
 |bool=>exact VR.leaf h
 |int k=>exact VR.leaf h
 |str=>exact VR.leaf h
 |nat=>exact VR.leaf h
 |sl t=>exact VR.leaf h
omit hD in
theorem zgn{T:Nat->Type}{a b:DTy}{x:List (B8×a.S T)}{y:List (B8×b.S T)}(h:zdb a b x=some y):∃e:a=b,y=e▸x:=by
 unfold zdb at h;split at h
 rename_i e;injection h with h;exact⟨e,h.symm⟩
 cases h
omit hD in
theorem zhf{α β:Type}:∀l:List (α×β),List.zip (l.map (·.1)) (l.map (·.2))=l
 |[]=>rfl
 |p::l=>by
  show(p.1,p.2)::List.zip (l.map (·.1)) (l.map (·.2))=p::l;rw[zhf l]
omit hD in
theorem z13{T:Nat->Type}{a b:DTy}{x:List (a.S T)}{y:List (b.S T)}(h:z3v a b x=some y):∃e:a=b,y=e▸x:=by
 unfold z3v at h;split at h
 rename_i e;injection h with h;exact⟨e,h.symm⟩
 cases h
omit hD in
theorem z8l{t:DTy}{c:TV D.T}{x:t.S D.T}{v:V}(h:z6s D t c = .ok x)(hv:VR D ρ lv c v):DR D t x v:=by
 unfold z6s at h;split at h;injection h with h;subst h;simp only[VR]at hv;subst hv;exact .bool _;split at h
 rename_i hk;injection h with h;subst h;subst hk;simp only[VR]at hv;subst hv;exact .int _ _
 cases h;injection h with h;subst h;simp only[VR]at hv;subst hv;exact .str _;rename_i t t' xs fl
 cases hl:z3v t' t xs with
 |none=>rw[hl]at h;cases h
 |some y=>
  rw[hl]at h;injection h with h;subst h;obtain⟨rfl,rfl⟩:=z13 hl;simp only[VR]at hv;exact hv.1
 injection h with h;subst h;simp only[VR]at hv;subst hv;exact .nil _;cases h;cases h
omit hD in
theorem z96:∀{l:List DTy}{cs:List (TV D.T)}{x:HL D.T l}{vs:List V},z2i D l cs = .ok x->VRL D ρ lv cs vs->vs.length=l.length∧∀(j:Nat) (p:(t:DTy)×t.S D.T) (u:V),HL.nth l x j=some p->vs[j]? = some u->DR D p.1 p.2 u
 |[],[],x,vs,h,hv=>by simp only[VRL]at hv;subst hv;exact⟨rfl,λj p u _ hu=>by simp at hu⟩
 |[],c::cs,x,vs,h,hv=>by simp[z2i]at h
 |t::l,[],x,vs,h,hv=>by simp[z2i]at h
 |t::l,c::cs,x,vs,h,hv=>by
  simp only[VRL]at hv;obtain⟨v,r,rfl,h1,h2⟩:=hv;simp only[z2i]at h;split at h;rename_i y hy;split at h;rename_i ys hys;injection h with h;subst h;obtain⟨k1,k2⟩:=z96 hys h2;refine⟨by simp[k1],λj p u hp hu =>?_⟩
  cases j with
  |zero=>simp only[HL.nth,Qbo]at hp;subst hp;simp at hu;subst hu;exact z8l hy h1
  |succ j=>exact k2 j p u hp (by simpa using hu)
  cases h;cases h;cases h;cases h
theorem z6m{t:DTy}{c:TV D.T}{x:t.S D.T}{v:V}(h:asD D t c = .ok x)(hv:VR D ρ lv c v):DR D t x v:=by
 unfold asD at h;split at h;rename_i i cs;split at h;rename_i y hy;injection h with h;subst h;simp only[VR]at hv;obtain⟨vs,rfl,hv⟩:=hv;obtain⟨k1,k2⟩:=z96 hy hv;exact .st i _ vs k1 (by rw[hD.getMake];exact k2);cases h;cases h;cases h;exact z8l h hv
theorem zc1{t:DTy}:∀{cs:List (TV D.T)}{xs:List (t.S D.T)}{vs:List V},zpg D t cs = .ok xs->VRL D ρ lv cs vs->vs.length=xs.length∧∀(j:Nat) (x:t.S D.T) (w:V),xs[j]? = some x->vs[j]? = some w->DR D t x w
 |[],xs,vs,h,hv=>by simp only[VRL]at hv;subst hv;simp only[zpg]at h;injection h with h;subst h;exact⟨rfl,λj x w hx=>by simp at hx⟩
 |c::cs,xs,vs,h,hv=>by
  simp only[VRL]at hv;obtain⟨v,r,rfl,h1,h2⟩:=hv;simp only[zpg]at h;split at h;rename_i y hy;split at h;rename_i ys hys;injection h with h;subst h;obtain⟨k1,k2⟩:=zc1 hys h2;refine⟨by simp[k1],λj x w hx hw =>?_⟩
  cases j with
  |zero=>simp at hx hw;subst hx;subst hw;exact z6m hD hy h1
  |succ j=>exact k2 j x w (by simpa using hx) (by simpa using hw)
  cases h;cases h;cases h;cases h
end
end Go.Ab
namespace Go.Ab
open Go
set_option linter.unusedVariables false
set_option linter.unusedSimpArgs false
structure Fr where
 lv:Nat
 E:Nat->Nat->Option yz4
 e0:Nat->Nat->Option yz4
 L0:List (Option yz4)
 out:Nat->Prop
 pin:List Slot
 gv:List V
theorem zvw{T S:Type}(g:T->S)(k:B8):∀ms:List (B8×T),z1x (ms.map λp=>(p.1,g p.2)) k=(z1x ms k).map g
 |[]=>rfl
 |p::ms=>by
  have ih:=zvw g k ms;unfold z1x at ih ⊢;rw[List.map_cons,List.find?_cons,List.find?_cons];cases k==p.1;exact ih;rfl
theorem ztu{T:Type}{k:B8}{x:T}:∀{ms:List (B8×T)},z1x ms k=some x->∃p∈ms,p.2=x
 |[],h=>by cases h
 |p::ms,h=>by
  unfold z1x at h;rw[List.find?_cons]at h;cases hk:k==p.1 <;> rw[hk]at h
  obtain⟨q,h1,h2⟩:=ztu (ms:=ms) (by unfold z1x;exact h);exact⟨q,Qai _ h1,h2⟩;exact⟨p,Qak,by simpa using h⟩
theorem y5z{T S:Type}(g:T->S)(k:B8)(x:T)(ms:List (B8×T)):z4v (ms.map λp=>(p.1,g p.2)) k (g x)=(z4v ms k x).map λp=>(p.1,g p.2):=by
 unfold z4v;rw[List.findIdx?_map];show(match ms.findIdx? (λp=>k==p.1)with|none=>_|some j=>_)=_
 cases ms.findIdx? (λp=>k==p.1)with
 |none=>simp
 |some j=>simp[List.map_set]
theorem y5f{T:Type}{k:B8}{x:T}{ms:List (B8×T)}{p:B8×T}(h:p∈z4v ms k x):p=(k,x)∨p∈ms:=by
 unfold z4v at h;split at h
 rcases List.mem_append.1 h with h|h
 exact .inr h;exact .inl (List.mem_singleton.1 h)
 rcases List.mem_or_eq_of_mem_set h with h|h
 exact .inr h;exact .inl h
inductive OM where
 |dat
 |own (ty:Nat)
 |el
def y0g:Option Nat->OM
 |none=>.dat
 |some ty=>.own ty
inductive DO (D:Dat) (lv:Nat) (L:List (Option yz4)):OM->(t:DTy)->t.S D.T->V->List Nat->Prop where
 |dat {t:DTy} {x:t.S D.T}{v:V}(h:DR D t x v):DO D lv L .dat t x v []
 |nil {ty:Nat} {t:DTy}{v:V}(h:DR D (.sl t) ([]:List (t.S D.T)) v) (hv:v = .nils∨v = .sl (D.len t) [] true):DO D lv L (.own ty) (.sl t) ([]:List (t.S D.T)) v []
 |own {ty:Nat} {t:DTy}{xs:List (t.S D.T)}{j ver:Nat}{cp:Option Nat}{ws:List V}{fps:List (List Nat)}(hL:L[j]? = some (some (.arr ver ty (D.len t) ws cp))) (hl:ws.length=xs.length) (hf:fps.length=xs.length)
  (he:∀(n:Nat) (x:t.S D.T) (w:V) (c:List Nat),xs[n]? = some x->ws[n]? = some w->fps[n]? = some c->DO D lv L .el t x w c):DO D lv L (.own ty) (.sl t) xs (.hs lv j ver 0 ws.length false) (j::fps.flatten)
 |el {i:Nat} {x:D.T i}{vs:List V}{cs:List (List Nat)}(hl:vs.length=(D.fl i).length) (hc:cs.length=(D.fl i).length)
  (h:∀(f:Nat) (p:(t:DTy)×t.S D.T) (u:V) (b:List Nat),HL.nth (D.fl i) (D.get i x) f=some p->vs[f]? = some u->cs[f]? = some b->DO D lv L (y0g (D.ow i f)) p.1 p.2 u b):DO D lv L .el (.st i) x (.agg vs) cs.flatten
 |elf {t:DTy} {x:t.S D.T}{v:V}(ht:∀i f,f<(D.fl i).length->t = .st i->D.ow i f=none) (h:DR D t x v):DO D lv L .el t x v []
section
variable (D : Dat) (ρ : List Slot) (lv : Nat) (L : List (Option yz4))
def yzq(h:Option (Int×Nat×Nat))(n f:Nat):Option Nat:=match h with
 |some (n',f',s)=>if n'.toNat=n∧f'=f then some s else none
 |none=>none
def EO(q:Nat)(h:Option (Int×Nat×Nat))(n:Nat)(x:D.T q)(w:V)(c:List Nat):Prop :=
 ∃(vs:List V) (cs:List (List Nat)),w = .agg vs∧vs.length=(D.fl q).length∧cs.length=(D.fl q).length∧c=cs.flatten ∧
  ∀(f:Nat) (p:(t:DTy)×t.S D.T) (u:V) (b:List Nat),HL.nth (D.fl q) (D.get q x) f=some p->vs[f]? = some u->cs[f]? = some b ->
   match yzq h n f with
   |some s=>b=[]∧(D.ow q f).isSome=true∧u.leaf=true∧∃sl',ρ[s]? = some sl'∧u=sl'.v
   |none=>DO D lv L (y0g (D.ow q f)) p.1 p.2 u b
def OR(sl:Slot):TO D.T->Prop
 |.cells cs=>∃i vs,sl.k=some i∧L[i]? = some (some (.cells vs))∧VRL D ρ lv cs vs
 |.acc ty t xs w=>sl.ws.length=xs.length∧(∀(j:Nat) (x:t.S D.T) (v:V),xs[j]? = some x->sl.ws[j]? = some v->DR D t x v) ∧
  (match sl.k with
  |none=>(sl.v = .nils∧sl.ws=[])∨((sl.v = .sl (D.len t) sl.ws true∧t ≠ .int .u8)∧(w=true->sl.ws=[]))
  |some i=>∃ver cp,sl.v = .hs lv i ver 0 sl.ws.length false∧L[i]? = some (some (.arr ver ty (D.len t) sl.ws cp)))
 |.siter s pos=>∃i,sl.k=some i∧L[i]? = some (some (.siter s pos))
 |.mp ty t es=>∃(i:Nat) (ms:List (B8×(t.S D.T×V))),sl.k=some i∧es=ms.map (λp=>(p.1,p.2.1))∧(∀p∈ms,DR D t p.2.1 p.2.2)∧L[i]? = some (some (.map (ms.map λp=>(.str p.1,p.2.2))))
 |.mit t last es=>∃(i:Nat) (fs:List (B8×t.S D.T)) (vis:List Nat),sl.k=some i∧t.flat=true∧L[i]? = some (some (.mit (fs.map λp=>(.str p.1,zkq t p.2)) vis))∧(∀q∈vis,q<fs.length)∧es.Perm (((List.range fs.length).filter λq => !vis.contains q).filterMap λq=>fs[q]?)∧∀p,last=some p->∃(vis':List Nat) (j:Nat),vis=vis'++[j]∧fs[j]? = some p
 |.bld ty b=>∃i a c,sl.k=some i∧L[i]? = some (some (.arr 0 ty 2 [.agg [a,c]] (some 1)))∧(a = .nilp∨a = .ap lv i 0 0 0)∧VR D ρ lv (zsf b) c
 |.gone=>True
 |.rig=>sl.k=none∧sl.fp=[]∧sl.v.leaf=true
 |.deep ty q xs h=>sl.ws.length=xs.length∧(match sl.k with
  |none=>xs=[]∧(sl.v = .nils∨sl.v = .sl (D.len (.st q)) [] true)∧sl.fp=[]∧h=none
  |some j=>∃(ver:Nat) (cp:Option Nat) (fps:List (List Nat)),sl.v = .hs lv j ver 0 sl.ws.length false∧L[j]? = some (some (.arr ver ty (D.len (.st q)) sl.ws cp))∧fps.length=xs.length∧sl.fp=fps.flatten∧sl.fp.Nodup ∧
   (∀(n:Nat) (x:D.T q) (w:V) (c:List Nat),xs[n]? = some x->sl.ws[n]? = some w->fps[n]? = some c->EO D ρ lv L q h n x w c) ∧
   ∀n f s,h=some (n,f,s)->0<=n∧n.toNat<xs.length)
end
def TO.live{T:Nat->Type}:TO T->Prop
 |.gone=>False
 |_=>True
def DfL(D:Dat)(ρ:List Slot)(lv:Nat):List (Nat×List (TV D.T))->List (Nat×List V)->Prop
 |[],ds=>ds=[]
 |p::r,ds=>∃vs s,ds=(p.1,vs)::s∧VRL D ρ lv p.2 vs∧DfL D ρ lv r s
theorem DfL.imp{D:Dat}{ρ ρ':List Slot}{lv:Nat}(f:List (TV D.T)->List (TV D.T))(hf:∀xs vs,VRL D ρ lv xs vs->VRL D ρ' lv (f xs) vs):∀{l:List (Nat×List (TV D.T))}{ds:List (Nat×List V)},DfL D ρ lv l ds->DfL D ρ' lv (l.map λp=>(p.1,f p.2)) ds
 |[],ds,h=>h
 |p::r,ds,h=>by
  obtain⟨vs,s,h1,h2,h3⟩:=h;exact⟨vs,s,h1,hf _ _ h2,DfL.imp f hf h3⟩
theorem DfL.more{D:Dat}{ρ:List Slot}{lv:Nat}(e:List Slot){l:List (Nat×List (TV D.T))}{ds:List (Nat×List V)}(h:DfL D ρ lv l ds):DfL D (ρ++e) lv l ds:=by
 have:=h.imp (ρ':=ρ++e) (λxs=>xs) (λxs vs k=>k.more e);simpa using this
structure TRr(D:Dat)(F:Fr)(ρ:List Slot)(ts:TS D.T)(σ:St):Prop where
 nx:ρ.length=ts.nx
 nt:σ.t.length=ts.nt
 tm:∀(j:Nat) (x:TV D.T),fnd ts.t j=some x->∃v,σ.t[j]? = some v∧VR D ρ F.lv x v
 ob:∀(s:Nat) (o:TO D.T),fnd ts.o s=some o->∃sl,ρ[s]? = some sl∧OR D ρ F.lv σ.H.L sl o
 inj:∀(s s':Nat) (o o':TO D.T) (sl sl':Slot) (i:Nat),fnd ts.o s=some o->fnd ts.o s'=some o'->o.live->o'.live->ρ[s]? = some sl->ρ[s']? = some sl'->sl.has i->sl'.has i->s=s'
 mine:∀(s:Nat) (o:TO D.T) (sl:Slot) (i:Nat),fnd ts.o s=some o->o.live->ρ[s]? = some sl->sl.has i->¬F.out i
 lv:σ.H.lv=F.lv
 E:σ.H.E=F.E
 e0:σ.e0=F.e0
 d:DfL D ρ F.lv ts.d σ.d
 out:∀i,F.out i->i<σ.H.L.length∧σ.H.L[i]? = F.L0[i]?
 pin:∀(j:Nat) (sl:Slot),F.pin[j]? = some sl->ρ[j]? = some sl
 fpl:∀(s:Nat) (o:TO D.T) (sl:Slot) (i:Nat),fnd ts.o s=some o->o.live->ρ[s]? = some sl->i∈sl.fp->sl.k≠some i∧∃a,σ.H.L[i]? = some (some a)
 g:∀(i s:Nat) (v:V),ts.g[i]? = some (some s)->F.gv[i]? = some v->VR D ρ F.lv (.own s) v
section
variable {P : Program} {D : Dat} {F : Fr} {ρ : List Slot} {ts : TS D.T} {σ : St} {lv : Nat}
theorem z4i{t off:Nat}{cs:List (TV D.T)}{vs:List V}{x:TV D.T}(hv:VRL D ρ lv cs vs)(h:tRd P t cs off=some x):∃v,rd P t vs off=some v∧VR D ρ lv x v:=by
 unfold tRd at h;unfold rd;split at h;cases h;rename_i heq;rw[heq];split at h;rename_i hl;injection h with h;subst h;refine⟨_,by simp only;rw[Qbr (by rw[<-hv.length];exact hl)],?_⟩;simp only[VR];exact⟨_,rfl,(hv.drop _).take _⟩;cases h;rename_i heq;rw[heq];split at h;rename_i hl;injection h with h;subst h;refine⟨_,by simp only;rw[Qbr (by rw[<-hv.length];exact hl)],?_⟩;simp only[VR]
 exact⟨_,rfl,(hv.drop _).take _⟩;cases h;rename_i h1 h2 heq;obtain⟨v,k1,k2⟩:=hv.get off x h;rw[heq]
 cases hd:‹TypeDesc› <;> first|exact(h1 _ hd).elim|exact(h2 _ _ hd).elim|exact⟨v,k1,k2⟩
theorem TRr.ev(hR:TRr D F ρ ts σ){o:Operand}{x:TV D.T}(h:ts.ev o=some x):VR D ρ F.lv x (σ.ev o):=by
 cases o with
 |tmp t=>
  obtain⟨v,h1,h2⟩:=hR.tm t x h;simp only[St.ev,Qba,h1,Option.getD_some]
  exact h2
 |const v=>simp only[TS.ev,Qbo]at h;subst h;exact .ofC v
 |func f=>simp only[TS.ev,Qbo]at h;subst h;simp only[St.ev,VR];exact⟨[],[],rfl,by simp[VRL],by simp[VRL]⟩
 |global g=>simp[TS.ev]at h
theorem TRr.evs(hR:TRr D F ρ ts σ):∀{l:List Operand}{xs:List (TV D.T)},ts.evs l=some xs->VRL D ρ F.lv xs (l.map σ.ev)
 |[],xs,h=>by simp only[TS.evs,Qbo]at h;subst h;simp[VRL]
 |o::l,xs,h=>by
  simp only[TS.evs]at h;split at h;rename_i v vs hv hvs;injection h with h;subst h;simp only[List.map_cons,VRL];exact⟨_,_,rfl,hR.ev hv,hR.evs hvs⟩;cases h
theorem TRr.get(hR:TRr D F ρ ts σ){i:Nat}{o:yz4}(h:σ.H.L[i]? = some (some o)):σ.H.get F.lv i=some o:=by
 unfold zz2.get;rw[Qbr hR.lv.symm,h];rfl
variable (hD : D.Ok P)
include hD
theorem VR.zrz{t:DTy}{x:t.S D.T}{v:V}(h:DR D t x v):VRL D ρ lv (D.tv t x).cells v.cells:=by
 cases t with
 |nat=>cases h;simp only[Dat.tv,TV.cells,V.cells,VRL];exact⟨_,_,rfl,by simp only[VR],rfl⟩
 |st i=>exact(VR.tv hD h).cells rfl
 |bool=>exact(VR.tv hD h).cells rfl
 |int k=>exact(VR.tv hD h).cells rfl
 |str=>exact(VR.tv hD h).cells rfl
 |sl t=>exact(VR.tv hD h).cells rfl
theorem zjr(hR:TRr D F ρ ts σ){t:Nat}{a x:TV D.T}{va:V}(h:y05 P D ts t a=some x)(ha:VR D ρ F.lv a va):∃v,z2f P σ.H t va=some v∧VR D ρ F.lv x v:=by
 unfold y05 at h;split at h;simp only[VR]at ha;obtain⟨vs,rfl,hv⟩:=ha;exact z4i hv h;rename_i s off;split at h;rename_i cs ho;simp only[VR]at ha;obtain⟨sl,i,h1,h2,rfl⟩:=ha;obtain⟨sl',k1,k2⟩:=hR.ob s _ ho
 rw[h1]at k1;injection k1 with k1;subst k1
 simp only[OR]at k2;obtain⟨i',vs,q1,q2,q3⟩:=k2
 rw[h2]at q1;injection q1 with q1;subst q1
 simp only[y0m,hR.get q2];exact z4i q3 h;cases h;rename_i s τ i y off;split at h;rename_i ty t' xs w ho;simp only[VR]at ha;obtain⟨sl,u,h1,h2,h3,h4,h5⟩:=ha;obtain⟨sl',k1,k2⟩:=hR.ob s _ ho
 rw[h1]at k1;injection k1 with k1;subst k1
 simp only[OR]at k2;obtain⟨q1,q2,q3⟩:=k2;have hc:=VR.zrz (ρ:=ρ) (lv:=F.lv) hD h4
 cases hk:sl.k with
 |none=>
  rw[hk]at h5;simp only at h5;subst h5
  exact z4i hc h
 |some j=>
  rw[hk]at h5 q3;obtain⟨ver,n,e1,rfl⟩:=h5;obtain⟨ver',cp,e2,e3⟩:=q3
  rw[e1]at e2;injection e2 with _ _ e2;subst e2
  simp only[zm1,zfe,hR.get e3,if_true,h3,Qbn,Option.bind_some];exact z4i hc h
 cases h;rename_i s off;split at h;rename_i ty b ho;simp only[VR]at ha;obtain⟨sl,i,h1,h2,rfl⟩:=ha;obtain⟨sl',k1,k2⟩:=hR.ob s _ ho
 rw[h1]at k1;injection k1 with k1;subst k1
 simp only[OR]at k2;obtain⟨i',u,c,q1,q2,q3,q4⟩:=k2
 rw[h2]at q1;injection q1 with q1;subst q1
 have hv:VRL D ρ F.lv [.any,zsf b] [u,c]:=by
  simp only[VRL];exact⟨u,[c],rfl,by simp only[VR],c,[],rfl,q4,rfl⟩
 obtain⟨v,w1,w2⟩:=z4i hv h;refine⟨v,?_,w2⟩;simp only[zm1,zfe,hR.get q2,if_true,Qbw,Qbn,Option.bind_some,V.cells];exact w1;cases h;cases h
omit hD in
theorem zim{s f:Nat}{x y:TV D.T}{vx:V}(h:zg2 P s f x=some y)(hx:VR D ρ lv x vx):∃v,z2p P s f vx=some v∧VR D ρ lv y v:=by
 unfold zg2 at h;unfold z2p;split at h;cases h;rename_i o ho;rw[ho];split at h;injection h with h;subst h;simp only[VR]at hx ⊢;obtain⟨vs,rfl,hv⟩:=hx;exact⟨_,rfl,vs,rfl,hv⟩;injection h with h;subst h;simp only[VR]at hx ⊢;obtain⟨sl,i,h1,h2,rfl⟩:=hx;exact⟨_,rfl,sl,i,h1,h2,rfl⟩;injection h with h;subst h;simp only[VR]at hx ⊢;obtain⟨sl,w,h1,h2,h3,h4,h5⟩:=hx
 cases hk:sl.k with
 |none=>rw[hk]at h5;simp only at h5;subst h5;exact⟨_,rfl,sl,w,h1,h2,h3,h4,by rw[hk]⟩
 |some j=>rw[hk]at h5;obtain⟨ver,n,e1,rfl⟩:=h5;exact⟨_,rfl,sl,w,h1,h2,h3,h4,by rw[hk];exact⟨ver,n,e1,rfl⟩⟩
 injection h with h;subst h;simp only[VR]at hx ⊢;obtain⟨sl,i,h1,h2,rfl⟩:=hx;exact⟨_,rfl,sl,i,h1,h2,rfl⟩;injection h with h;subst h;simp only[VR]at hx ⊢;obtain⟨sl,j,ver,m,h1,h2,h3,h4,rfl⟩:=hx;exact⟨_,rfl,sl,j,ver,m,h1,h2,h3,h4,rfl⟩;cases h
omit hD in
theorem zt9{s f:Nat}{x y:TV D.T}{vx:V}(h:zwz P s f x=some y)(hx:VR D ρ lv x vx):∃v,zno P s f vx=some v∧VR D ρ lv y v:=by
 unfold zwz at h;unfold zno;split at h;rename_i fs hu;rw[hu];simp only;split at h;rename_i fd hf;rw[hf];split at h;simp only[VR]at hx;obtain⟨vs,rfl,hv⟩:=hx;exact z4i hv h;cases h;cases h;cases h
omit hD in
theorem zn5{i:Nat}{x y:TV D.T}{vx:V}(h:znx i x=some y)(hx:VR D ρ lv x vx):∃v,zia i vx=some v∧VR D ρ lv y v:=by
 unfold znx at h;split at h;simp only[VR]at hx;obtain⟨vs,rfl,hv⟩:=hx;exact hv.get i y h;cases h
omit hD in
theorem zxa{x y:TV D.T}{vx:V}(h:tNil x=some y)(hx:VR D ρ lv x vx):∃v,zj4 vx=some v∧VR D ρ lv y v:=by
 unfold tNil at h;split at h;injection h with h;subst h;refine⟨vx,?_,hx⟩;simp only[VR]at hx;obtain⟨sl,i,h1,h2,rfl⟩:=hx;rfl;injection h with h;subst h;refine⟨vx,?_,hx⟩;simp only[VR]at hx;obtain⟨vs,rfl,hv⟩:=hx;rfl;injection h with h;subst h;refine⟨vx,?_,hx⟩;simp only[VR]at hx;obtain⟨sl,w,h1,h2,h3,h4,h5⟩:=hx;split at h5;subst h5;rfl;obtain⟨ver,n,e1,rfl⟩:=h5;rfl;injection h with h;subst h;refine⟨vx,?_,hx⟩
 simp only[VR]at hx;obtain⟨sl,i,h1,h2,rfl⟩:=hx;rfl;injection h with h;subst h;refine⟨vx,?_,hx⟩;simp only[VR]at hx;obtain⟨sl,j,ver,m,h1,h2,h3,h4,rfl⟩:=hx;rfl;injection h with h;subst h;refine⟨vx,?_,hx⟩;simp only[VR]at hx;obtain⟨as,bs,rfl,_⟩:=hx;rfl;cases h
omit hD in
theorem y1g{op:UnOp}{x y:TV D.T}{vx:V}(h:tUn op x=some y)(hx:VR D ρ lv x vx):∃v,pUn op vx=some v∧VR D ρ lv y v:=by
 unfold tUn at h;split at h;injection h with h;subst h;simp only[VR]at hx;subst hx;exact⟨_,rfl,by simp only[VR]⟩;injection h with h;subst h;simp only[VR]at hx;subst hx;exact⟨_,rfl,by simp only[VR]⟩;injection h with h;subst h;simp only[VR]at hx;subst hx;exact⟨_,rfl,by simp only[VR]⟩;cases h
omit hD in
theorem zoi{s d:Nat}{x y:TV D.T}{vx:V}(h:zoa P s d x=some y)(hx:VR D ρ lv x vx):∃v,zd3 P s d vx=some v∧VR D ρ lv y v:=by
 unfold zoa at h;unfold zd3;split at h;simp only[VR]at hx;subst hx;split at h;rename_i h1 h2;injection h with h;subst h;simp only[h1,h2];exact⟨_,rfl,by simp only[VR]⟩;cases h;simp only[VR]at hx;subst hx;split at h;rename_i h1 h2;injection h with h;subst h;simp only[h1,h2];exact⟨_,rfl,by simp only[VR]⟩;cases h;cases h
omit hD in
theorem zib{u:Nat}{ok:Bool}{x y:TV D.T}{vx:V}(h:zcy P x u ok=some y)(hx:VR D ρ lv x vx):∃v,z7h P vx u ok=some v∧VR D ρ lv y v:=by
 unfold zcy at h;unfold z7h;split at h;cases h;rename_i d t z hni hu;simp only[VR]at hx;obtain⟨w,rfl,hw⟩:=hx;split at h;rename_i ht;injection h with h;subst h;rw[hu]
 cases d <;> first
  |exact(hni _ rfl).elim
  |(refine⟨_,by simp only;rw[Qbr ht],?_⟩
    cases ok;exact hw
    simp only[if_true,VR,VRL];exact⟨_,rfl,_,_,rfl,hw,_,_,rfl,rfl,rfl⟩)
 cases h;cases h
omit hD in
theorem zf6{m:Bool}{xs:List (TV D.T)}{vs:List V}{y:TV D.T}(h:zll m xs=some y)(hx:VRL D ρ lv xs vs):∃v,zc5 m vs=some v∧VR D ρ lv y v:=by
 unfold zll at h;split at h;injection h with h;subst h;simp only[VRL,VR]at hx;obtain⟨_,_,rfl,rfl,_,_,rfl,rfl,rfl⟩:=hx;exact⟨_,rfl,by simp only[VR];cases m <;> rfl⟩;injection h with h;subst h;simp only[VRL,VR]at hx;obtain⟨_,_,rfl,rfl,_,_,rfl,rfl,_,_,rfl,rfl,rfl⟩:=hx;exact⟨_,rfl,by simp only[VR];cases m <;> rfl⟩;cases h
omit hD in
theorem TRr.parts(hR:TRr D F ρ ts σ):∀{l:List (Nat×Operand)}{xs:List (Nat×TV D.T)},zg5 ts l=some xs->xs.map (·.1)=(l.map λp=>(p.1,σ.ev p.2)).map (·.1)∧VRL D ρ F.lv (xs.map (·.2)) ((l.map λp=>(p.1,σ.ev p.2)).map (·.2))
 |[],xs,h=>by simp only[zg5,Qbo]at h;subst h;simp[VRL]
 |(i,o)::l,xs,h=>by
  simp only[zg5]at h;split at h;rename_i v vs hv hvs;injection h with h;subst h;obtain⟨h1,h2⟩:=hR.parts hvs;simp only[List.map_cons,VRL];exact⟨by rw[h1],_,_,rfl,hR.ev hv,h2⟩;cases h
omit hD in
theorem zds{place:Nat->Option (Nat×Nat)}:∀{ps:List (Nat×TV D.T)}{qs:List (Nat×V)}{cs r:List (TV D.T)}{vs:List V},ps.map (·.1)=qs.map (·.1)->VRL D ρ lv (ps.map (·.2)) (qs.map (·.2))->VRL D ρ lv cs vs->zqd place cs ps=some r->∃r',zdp place vs qs=some r'∧VRL D ρ lv r r'
 |[],[],cs,r,vs,_,_,hc,h=>by simp only[zqd,Qbo]at h;subst h;exact⟨vs,rfl,hc⟩
 |[],q::qs,cs,r,vs,h1,_,_,_=>by simp at h1
 |p::ps,[],cs,r,vs,h1,_,_,_=>by simp at h1
 |(i,x)::ps,(i',v)::qs,cs,r,vs,h1,h2,hc,h=>by
  simp only[List.map_cons,List.cons.injEq]at h1;obtain⟨rfl,h1⟩:=h1;simp only[List.map_cons,VRL]at h2;obtain⟨u,us,he,h2,h3⟩:=h2;injection he with he1 he2;subst he1;subst he2;simp only[zqd]at h;simp only[zdp];split at h;cases h;rename_i off size hp;split at h;rename_i hcond;simp only[Qag,Qbj,Qar]at hcond;have hcells:=h2.cells hcond.1.1;rw[hp];simp only
  rw[Qbr (by simp only[Qag,Qbj,Qar];exact⟨⟨h2.kz9 hcond.1.1,by rw[<-hcells.length];exact hcond.1.2⟩,by rw[<-hc.length];exact hcond.2⟩)];exact zds h1 h3 (hc.yzi hcells off) h;cases h
omit hD in
theorem z5j{t:Nat}{x:TV D.T}(h:zmf P t=some x):∃v,zeroV P t=some v∧VR D ρ lv x v:=by
 unfold zmf at h;unfold zeroV;rw[Qaf]at h;obtain⟨z,hz,rfl⟩:=h;exact⟨_,by rw[hz];rfl,.ofC z⟩
omit hD in
theorem zrb{t:Nat}{ps:List (Nat×TV D.T)}{qs:List (Nat×V)}{y:TV D.T}(h1:ps.map (·.1)=qs.map (·.1))(h2:VRL D ρ lv (ps.map (·.2)) (qs.map (·.2)))(h:zxf P t ps=some y):∃v,znk P t qs=some v∧VR D ρ lv y v:=by
 unfold zxf at h;unfold znk;split at h;rename_i z hz;obtain⟨v,hv,hr⟩:=z5j (ρ:=ρ) (lv:=lv) hz;simp only[VR]at hr;obtain⟨vs,rfl,hr⟩:=hr;rw[hv];simp only;split at h;rename_i fs hu;rw[hu];simp only;split at h;rename_i places hp;rw[hp];rw[Qaf]at h;obtain⟨r,hr',rfl⟩:=h;obtain⟨r',k1,k2⟩:=zds h1 h2 hr hr';exact⟨.agg r',by simp only[k1,Qbn],by simp only[VR];exact⟨r',rfl,k2⟩⟩;cases h
 rename_i n e hu;rw[hu];simp only;split at h;rename_i hi;rw[Qbr hi];rw[Qaf]at h;obtain⟨r,hr',rfl⟩:=h;obtain⟨r',k1,k2⟩:=zds h1 h2 hr hr';exact⟨.agg r',by simp only[k1,Qbn],by simp only[VR];exact⟨r',rfl,k2⟩⟩;cases h;cases h;cases h
omit hD in
theorem zwn(hR:TRr D F ρ ts σ){t:Nat}{x y:TV D.T}{vx:V}(h:tLen P D ts t x=some y)(hx:VR D ρ F.lv x vx):∃v,za9 P σ.H t vx=some v∧VR D ρ F.lv y v:=by
 unfold tLen at h;split at h;split at h
 rename_i hu;injection h with h;subst h;simp only[VR]at hx;subst hx;exact⟨_,by rw[y2z,hu],by simp only[VR]⟩
 cases h;split at h
 rename_i hu;injection h with h;subst h;simp only[VR]at hx;subst hx;exact⟨_,by rw[zei,hu],by simp only[VR]⟩
 cases h;split at h;rename_i hu;injection h with h;subst h;simp only[VR]at hx;obtain⟨hx,_⟩:=hx
 cases hx with
 |nil=>exact⟨_,by rw[zei,hu],by simp only[VR];rfl⟩
 |sl _ _ ws full hl hh=>exact⟨_,by rw[zru,hu],by simp only[VR,hl]⟩
 cases h;split at h;rename_i hu ho;injection h with h;subst h;simp only[VR]at hx;obtain⟨sl,h1,rfl,hleaf⟩:=hx;obtain⟨sl',k1,k2⟩:=hR.ob _ _ ho
 rw[h1]at k1;injection k1 with k1;subst k1
 simp only[OR]at k2;obtain⟨q1,q2,q3⟩:=k2
 cases hk:sl.k with
 |none=>
  rw[hk]at q3
  rcases q3 with ⟨e1,e2⟩|⟨e1,e2⟩
  rw[e1,zei,hu];exact⟨_,rfl,by simp only[VR];rw[<-q1,e2];rfl⟩;rw[e1.1,zru,hu]
  exact⟨_,rfl,by simp only[VR];rw[q1]⟩
 |some j=>
  rw[hk]at q3;obtain⟨ver,cp,e1,e2⟩:=q3;rw[e1];refine⟨.int .i64 sl.ws.length,?_,by simp only[VR];rw[q1]⟩;simp only[za9,hu,hR.get e2,if_true]
 rename_i hu ho;injection h with h;subst h;simp only[VR]at hx;obtain⟨sl,h1,rfl,hleaf⟩:=hx;obtain⟨sl',k1,k2⟩:=hR.ob _ _ ho
 rw[h1]at k1;injection k1 with k1;subst k1
 simp only[OR]at k2;obtain⟨q1,q3⟩:=k2
 cases hk:sl.k with
 |none=>
  rw[hk]at q3;obtain⟨e1,e2,_⟩:=q3
  rcases e2 with e2|e2
  rw[e2,zei,hu];exact⟨_,rfl,by simp only[VR];rw[e1];rfl⟩;rw[e2,zru,hu]
  exact⟨_,rfl,by simp only[VR];rw[e1];rfl⟩
 |some j=>
  rw[hk]at q3;obtain⟨ver,cp,fps,e1,e2,_⟩:=q3;rw[e1];refine⟨.int .i64 sl.ws.length,?_,by simp only[VR];rw[q1]⟩;simp only[za9,hu,hR.get e2,if_true]
 cases h;split at h
 rename_i hu;injection h with h;subst h;simp only[VR]at hx;obtain⟨vs,rfl,_⟩:=hx;exact⟨_,by rw[y5x,hu],by simp only[VR]⟩
 cases h;split at h;rename_i hu ho;injection h with h;subst h;simp only[VR]at hx;obtain⟨sl,i,h1,h2,rfl⟩:=hx;obtain⟨sl',k1,k2⟩:=hR.ob _ _ ho
 rw[h1]at k1;injection k1 with k1;subst k1
 simp only[OR]at k2;obtain⟨i',ms,q1,q2,q4,q3⟩:=k2
 rw[h2]at q1;injection q1 with q1;subst q1
 exact⟨_,by rw[y3t,hu];simp only[hR.get q3];rfl,by simp only[VR];rw[q2];simp⟩;cases h;cases h
omit hD in
theorem z6x:∀(ps:List (Nat×V)) (k n:Nat),ps.map (·.1)=List.range' k n->z8f k ps=true
 |[],_,_,_=>rfl
 |(i,v)::r,k,n,h=>by
  cases n with
  |zero=>simp at h
  |succ n=>
   simp only[List.map_cons,List.range'_succ,List.cons.injEq]at h;simp only[z8f,h.1,beq_self_eq_true,Bool.true_and];exact z6x r (k+1) n h.2
theorem z5u{t len:Nat}{ps:List (Nat×TV D.T)}{qs:List (Nat×V)}{y:TV D.T}(h1:ps.map (·.1)=qs.map (·.1))(h2:VRL D ρ lv (ps.map (·.2)) (qs.map (·.2)))(h:z5n P D t len ps = .ok y):∃v,z3d P t len qs=some v∧VR D ρ lv y v:=by
 unfold z5n at h;unfold z3d;split at h;rename_i e hu;rw[hu];simp only;split at h;rename_i z τ hz hτ;rw[hz];simp only;split at h;rename_i hc;simp only[Qag,Qbj,Qar,Qat]at hc;obtain⟨⟨⟨⟨⟨⟨⟨⟨c1,c2⟩,c3⟩,c4⟩,c5⟩,c6⟩,c7⟩,c8⟩,c9⟩:=hc;have hlen:ps.length=qs.length:=by have:=congrArg List.length h1;simpa using this
 split at h;rename_i q cells hrow;obtain⟨rfl,rfl⟩:=zy9 D hrow;injection h with h;subst h;have hql:qs.length=len:=by omega
 have hall:∀p∈qs,p.2.kz9=true∧p.2.cells.length=P.cellsOf e:=λp hp=>by
  obtain⟨j,hj⟩:=Qbm hp;have hlt:j<[(0,TV.agg cells)].length:=by rw[hlen];exact(Qaa.1 hj).1
  have hq:=c7 [(0,TV.agg cells)][j] (Qad hlt);have hr:VR D ρ lv [(0,TV.agg cells)][j].2 p.2:=h2.zg7 (j:=j) (by rw[Qan,Qab hlt];rfl) (by simp[hj]);exact⟨hr.kz9 hq.1,by rw[<-(hr.cells hq.1).length];exact hq.2⟩
 have hcond:(z.kz9&&z.cells.length==P.cellsOf e&&decide (0<P.cellsOf e)&&(P.info? e).isSome&&qs.length==len&&z8f 0 qs&&qs.all (λp=>p.2.kz9&&p.2.cells.length==P.cellsOf e)&&decide (len * P.cellsOf e<=2 ^ 24))=true:=by
  simp only[Qag,Qbj,Qar,Qat];exact⟨⟨⟨⟨⟨⟨⟨c1,c2⟩,c3⟩,c4⟩,hql⟩,z6x qs 0 len (by rw[<-h1,c6,List.range_eq_range'])⟩,hall⟩,c8⟩
 rw[Qbr hcond];refine⟨_,rfl,?_⟩;simp only[List.length_cons,List.length_nil]at c5;rw[Qbs (by omega),<-c9];simp only[VR];exact⟨_,rfl,h2⟩;rename_i hnorow;split at h;rename_i xs hxs;injection h with h;subst h;obtain⟨k1,k2⟩:=zc1 hD hxs h2;have hql:qs.length=len:=by omega
 have hall:∀p∈qs,p.2.kz9=true∧p.2.cells.length=P.cellsOf e:=λp hp=>by
  obtain⟨j,hj⟩:=Qbm hp;have hlt:j<ps.length:=by rw[hlen];exact(Qaa.1 hj).1
  have hq:=c7 ps[j] (Qad hlt);have hr:VR D ρ lv ps[j].2 p.2:=h2.zg7 (j:=j) (by simp[hlt]) (by simp[hj]);exact⟨hr.kz9 hq.1,by rw[<-(hr.cells hq.1).length];exact hq.2⟩
 have hcond:(z.kz9&&z.cells.length==P.cellsOf e&&decide (0<P.cellsOf e)&&(P.info? e).isSome&&qs.length==len&&z8f 0 qs&&qs.all (λp=>p.2.kz9&&p.2.cells.length==P.cellsOf e)&&decide (len * P.cellsOf e<=2 ^ 24))=true:=by
  simp only[Qag,Qbj,Qar,Qat];exact⟨⟨⟨⟨⟨⟨⟨c1,c2⟩,c3⟩,c4⟩,hql⟩,z6x qs 0 len (by rw[<-h1,c6,List.range_eq_range'])⟩,hall⟩,c8⟩
 rw[Qbr hcond];refine⟨_,rfl,?_⟩;simp only[List.length_map]at k1;by_cases hl0:len=0;rw[Qbr hl0,Qbr hl0,<-c9];have:xs=[]:=Qao (by omega);subst this;simp only[VR];exact⟨.sl τ [] [] true rfl (by simp),λ_=>⟨[],rfl⟩,λ_=>trivial⟩;rw[Qbs hl0,Qbs hl0,<-c9];simp only[VR];exact⟨.sl τ xs _ true (by simpa using k1) k2,λ_=>⟨_,rfl⟩,by simp⟩;have hql:qs.length=len:=by omega
 have hall:∀p∈qs,p.2.kz9=true∧p.2.cells.length=P.cellsOf e:=λp hp=>by
  obtain⟨j,hj⟩:=Qbm hp;have hlt:j<ps.length:=by rw[hlen];exact(Qaa.1 hj).1
  have hq:=c7 ps[j] (Qad hlt);have hr:VR D ρ lv ps[j].2 p.2:=h2.zg7 (j:=j) (by simp[hlt]) (by simp[hj]);exact⟨hr.kz9 hq.1,by rw[<-(hr.cells hq.1).length];exact hq.2⟩
 have hcond:(z.kz9&&z.cells.length==P.cellsOf e&&decide (0<P.cellsOf e)&&(P.info? e).isSome&&qs.length==len&&z8f 0 qs&&qs.all (λp=>p.2.kz9&&p.2.cells.length==P.cellsOf e)&&decide (len * P.cellsOf e<=2 ^ 24))=true:=by
  simp only[Qag,Qbj,Qar,Qat];exact⟨⟨⟨⟨⟨⟨⟨c1,c2⟩,c3⟩,c4⟩,hql⟩,z6x qs 0 len (by rw[<-h1,c6,List.range_eq_range'])⟩,hall⟩,c8⟩
 rw[Qbr hcond];split at h;rename_i s0 _ _ q cells;split at h;injection h with h;subst h;refine⟨_,rfl,?_⟩;simp only[List.length_cons,List.length_nil]at c5;rw[Qbs (by omega),<-c9];simp only[VR];exact⟨_,rfl,h2⟩;cases h;cases h;cases h;cases h;cases h;cases h;cases h
omit hD in
theorem FR.za2{α:Type}{o:Option α}{a:α}(h:FR.of o = .ok a):o=some a:=by
 cases o with
 |none=>cases h
 |some b=>injection h with h;rw[h]
theorem y1h{t:Nat}{n c:Int}{k1 k2:IntKind}{y:TV D.T}(h:tMk P D t n c = .ok y):∃v,z6p P t (.int k1 n) (.int k2 c)=some v∧VR D ρ lv y v:=by
 unfold tMk at h;split at h
 case h_2=>cases h
 rename_i n c;split at h
 case h_2=>cases h
 rename_i e ht;split at h
 case h_2=>cases h
 rename_i i z τ hi hz hτ;split at h
 case h_2=>cases h
 rename_i hc;simp only[Qag]at hc;obtain⟨⟨⟨⟨⟨⟨c1,c2⟩,c3⟩,c4⟩,c5⟩,c6⟩,c7⟩:=hc;split at h
 case h_2=>cases h
 case h_3=>cases h
 rename_i x hx;injection h with h;subst h;obtain⟨v,b1,b2⟩:=z5j (D:=D) (ρ:=ρ) (lv:=lv) hz;have hl:=(b2.cells c1).length;have hd:=z6m hD hx b2;refine⟨.sl i.size (List.replicate n v) (Nat.beq n c),?_,?_⟩;simp only[z6p,ht,hi,b1]
 have hb:(v.kz9&&Nat.beq v.cells.length i.size&&Nat.blt 0 i.size&&Nat.ble n c&&Nat.ble c 1000000&&Nat.ble i.bytes 100000)=true:=by
  simp only[Qag];exact⟨⟨⟨⟨⟨b2.kz9 c1,by rw[<-hl];exact c2⟩,c3⟩,c4⟩,c5⟩,c6⟩
 rw[hb];rw[<-Qaj c7];simp only[VR];refine⟨.sl _ _ _ _ (by simp) λj a w h1 h2 =>?_,λh=>by omega,λh=>by cases h⟩;rw[Qbl]at h1 h2;split at h1;rename_i hj;rw[Qbr hj]at h2;injection h1 with h1;injection h2 with h2;subst h1;subst h2;exact hd;cases h1
theorem zqj(hR:TRr D F ρ ts σ){op:Op}{x:TV D.T}(h:tP1 P D ts op = .ok x):∃v,pv P σ.H σ.ev op=some v∧VR D ρ F.lv x v:=by
 unfold tP1 at h;unfold pv;split at h;exact⟨_,rfl,hR.ev (FR.za2 h)⟩;exact⟨_,rfl,hR.ev (FR.za2 h)⟩;split at h;rename_i ha;exact zjr hD hR (FR.za2 h) (hR.ev ha);cases h;split at h;rename_i ha;exact zxa (FR.za2 h) (hR.ev ha);cases h;split at h;rename_i ha;exact y1g (FR.za2 h) (hR.ev ha);cases h;split at h;rename_i ha;exact zoi (FR.za2 h) (hR.ev ha);cases h;split at h;rename_i ha;split at h;rename_i hc
 injection h with h;subst h;exact⟨_,by simp only[z63];rw[Qbr hc],by simp only[VR];exact⟨_,rfl,hR.ev ha⟩⟩;cases h;cases h;split at h;rename_i ha hb;injection h with h;subst h;exact⟨_,rfl,by simp only[VR];exact⟨_,_,rfl,hR.evs ha,hR.evs hb⟩⟩;cases h;split at h;rename_i ha;exact zim (FR.za2 h) (hR.ev ha);cases h;split at h;rename_i ha;exact zt9 (FR.za2 h) (hR.ev ha);cases h;split at h
 rename_i ha;exact zib (FR.za2 h) (hR.ev ha);cases h;split at h;rename_i ha;exact zn5 (FR.za2 h) (hR.ev ha);cases h;split at h;rename_i ha;obtain⟨h1,h2⟩:=hR.parts ha;exact zrb h1 h2 (FR.za2 h);cases h;split at h;rename_i ha;obtain⟨h1,h2⟩:=hR.parts ha;exact z5u hD h1 h2 (zyi _ h);cases h;split at h;rename_i ha hb;have e1:=hR.ev ha;have e2:=hR.ev hb;simp only[VR]at e1 e2;obtain⟨v,a1,a2⟩:=y1h (ρ:=ρ) (lv:=F.lv) hD h
 exact⟨v,by rw[<-e1,<-e2]at a1;exact a1,a2⟩;cases h;unfold z33;split at h;rename_i hcal;split at h;rename_i o t hargs htys;split at h;rename_i ha;simp only[hcal,hargs,htys];exact zwn hR (FR.za2 h) (hR.ev ha);cases h;cases h;rename_i hcal;split at h;rename_i ha;simp only[hcal];exact zf6 (FR.za2 h) (hR.evs ha);cases h;rename_i hcal;split at h;rename_i ha;simp only[hcal];exact zf6 (FR.za2 h) (hR.evs ha);cases h;cases h
 cases h
end
section
variable {P : Program} {D : Dat} {F : Fr} {ρ : List Slot} {ts : TS D.T} {σ : St} {lv : Nat}
mutual
theorem zg6:∀{d t:Nat}{x y:TV D.T}{vx vy:V}{b:Bool},zu7 P d t x y=some b->VR D ρ lv x vx->VR D ρ lv y vy->eqv P d t vx vy=some b
 |0,t,x,y,vx,vy,b,h,hx,hy=>by simp[zu7]at h
 |d+1,t,x,y,vx,vy,b,h,hx,hy=>by
  simp only[zu7]at h;split at h;simp only[VR]at hx hy;subst hx;subst hy;(simp only[eqv];split at h <;> first|(rename_i hu;simp only[hu];exact h)|cases h);simp only[VR]at hx hy;subst hx;subst hy;(simp only[eqv];split at h <;> first|(rename_i hu;simp only[hu];exact h)|cases h);simp only[VR]at hx hy;subst hx;subst hy;(simp only[eqv];split at h <;> first|(rename_i hu;simp only[hu];exact h)|cases h)
  simp only[VR]at hx hy;obtain⟨xs,rfl,hx⟩:=hx;obtain⟨ys,rfl,hy⟩:=hy;simp only[eqv];split at h;rename_i hu;simp only[hu];split at h;cases h;rename_i hs;rw[Qbs hs];exact zdd h hx hy;cases h;simp only[VR]at hx hy;subst hx;subst hy;(simp only[eqv];split at h <;> first|(rename_i hu;simp only[hu];exact h)|cases h)
  simp only[VR]at hx hy;subst hx;obtain⟨_,_,_,_,rfl⟩:=hy;(simp only[eqv];split at h <;> first|(rename_i hu;simp only[hu];exact h)|cases h);simp only[VR]at hx hy;subst hx;obtain⟨_,rfl,_⟩:=hy;(simp only[eqv];split at h <;> first|(rename_i hu;simp only[hu];exact h)|cases h)
  simp only[VR]at hx hy;subst hy;obtain⟨_,_,_,_,rfl⟩:=hx;(simp only[eqv];split at h <;> first|(rename_i hu;simp only[hu];exact h)|cases h);simp only[VR]at hx hy;subst hy;obtain⟨_,rfl,_⟩:=hx;(simp only[eqv];split at h <;> first|(rename_i hu;simp only[hu];exact h)|cases h);simp only[VR]at hx hy;subst hx;subst hy;(simp only[eqv];split at h <;> first|(rename_i hu;simp only[hu];exact h)|cases h)
  simp only[VR]at hx hy;subst hx;subst hy;(simp only[eqv];split at h <;> first|(rename_i hu;simp only[hu];exact h)|cases h);simp only[VR]at hx hy;subst hx;obtain⟨_,_,rfl,_⟩:=hy;(simp only[eqv];split at h <;> first|(rename_i hu;simp only[hu];exact h)|cases h);simp only[VR]at hx hy;subst hy;obtain⟨_,_,rfl,_⟩:=hx;(simp only[eqv];split at h <;> first|(rename_i hu;simp only[hu];exact h)|cases h)
  simp only[VR]at hx hy;subst hx;obtain⟨_,rfl,_⟩:=hy;(simp only[eqv];split at h <;> first|(rename_i hu;simp only[hu];exact h)|cases h);simp only[VR]at hx hy;subst hy;obtain⟨_,rfl,_⟩:=hx;(simp only[eqv];split at h <;> first|(rename_i hu;simp only[hu];exact h)|cases h);cases h
theorem zdd:∀{d:Nat}{fs:List Field}{xs ys:List (TV D.T)}{vx vy:List V}{b:Bool},zlt P d fs xs ys=some b->VRL D ρ lv xs vx->VRL D ρ lv ys vy->zoo P d fs vx vy=some b
 |0,fs,xs,ys,vx,vy,b,h,hx,hy=>by simp[zlt]at h
 |d+1,[],xs,ys,vx,vy,b,h,hx,hy=>by simpa only[zoo,zlt]using h
 |d+1,f::fs,xs,ys,vx,vy,b,h,hx,hy=>by
  simp only[zlt]at h;simp only[zoo];split at h;rename_i hf;rw[Qbr hf];exact zdd h hx hy;rename_i hf;rw[Qbs hf];split at h;rename_i a c ha hc;obtain⟨va,k1,k2⟩:=z4i hx ha;obtain⟨vc,k3,k4⟩:=z4i hy hc;rw[k1,k3];split at h;rename_i r s hr hs;simp only[zg6 hr k2 k4,zdd hs hx hy];exact h;cases h;cases h
end
theorem zvz{t:Nat}{x y:TV D.T}{vx vy:V}{b:Bool}(h:zu7 P 24 t x y=some b)(ho:(x.odd&&zgz P t x y)=true)(hx:VR D ρ lv x vx)(hy:VR D ρ lv y vy) :
  (∀k k' a c,vx = .int k a->vy = .int k' c->False)∧(∀a c,vx = .str a->vy = .str c->False)∧(vx.odd&&z8g P t vx vy)=true:=by
 simp only[zu7]at h;split at h <;> (try simp only[TV.odd,zgz,Qag,Bool.false_eq_true,false_and,true_and,Bool.and_true,Bool.and_false,Bool.true_and]at ho) <;> (try simp only[VR]at hx hy)
 subst hx;subst hy;exact⟨by simp,by simp,rfl⟩;obtain⟨xs,rfl,hx⟩:=hx;obtain⟨ys,rfl,hy⟩:=hy;exact⟨by simp,by simp,by simpa[V.odd,z8g]using ho⟩;subst hx;subst hy;exact⟨by simp,by simp,rfl⟩;subst hx;obtain⟨_,_,_,_,rfl⟩:=hy;exact⟨by simp,by simp,rfl⟩;subst hx;obtain⟨_,rfl,_⟩:=hy;exact⟨by simp,by simp,rfl⟩;subst hy;obtain⟨_,_,_,_,rfl⟩:=hx;exact⟨by simp,by simp,rfl⟩
 subst hy;obtain⟨_,rfl,_⟩:=hx;exact⟨by simp,by simp,rfl⟩;subst hx;subst hy;exact⟨by simp,by simp,rfl⟩;subst hx;subst hy;exact⟨by simp,by simp,rfl⟩;subst hx;obtain⟨_,_,rfl,_⟩:=hy;exact⟨by simp,by simp,rfl⟩;subst hy;obtain⟨_,_,rfl,_⟩:=hx;exact⟨by simp,by simp,rfl⟩;subst hx;obtain⟨_,rfl,_⟩:=hy;exact⟨by simp,by simp,rfl⟩;subst hy;obtain⟨_,rfl,_⟩:=hx;exact⟨by simp,by simp,rfl⟩;cases h
theorem zzs{α:Type}{o:Option α}{β:Type}{f:α->Option β}{r:β}(h:z0p o f=some r):∃x,o=some x∧f x=some r:=zij h
theorem y3g{t:Nat}{x y:V}{b:Bool}(h1:∀k k' a c,x = .int k a->y = .int k' c->False)(h2:∀a c,x = .str a->y = .str c->False)(h3:(x.odd&&z8g P t x y)=true)(h4:eqv P 24 t x y=some b):ziz P .eql t x y=some (.bool b):=by
 unfold ziz;split;exact(h1 _ _ _ _ rfl rfl).elim;exact(h2 _ _ rfl rfl).elim;simp only;rw[Qbr h3,h4];rfl
theorem y5j{t:Nat}{x y:V}{b:Bool}(h1:∀k k' a c,x = .int k a->y = .int k' c->False)(h2:∀a c,x = .str a->y = .str c->False)(h3:(x.odd&&z8g P t x y)=true)(h4:eqv P 24 t x y=some b):ziz P .neq t x y=some (.bool (!b)):=by
 unfold ziz;split;exact(h1 _ _ _ _ rfl rfl).elim;exact(h2 _ _ rfl rfl).elim;simp only;rw[Qbr h3,h4];rfl
theorem zy0{R:Type}{op:BinOp}{t:Nat}{x y:TV D.T}{vx vy:V}{k:TV D.T->Option R}{r:R}(h:tBin P op t x y k=some r)(hx:VR D ρ lv x vx)(hy:VR D ρ lv y vy) :
  ∃z v,ziz P op t vx vy=some v∧VR D ρ lv z v∧k z=some r:=by
 unfold tBin at h;split at h
 ·rename_i i a i' b;simp only[VR]at hx hy;subst hx;subst hy;split at h;obtain⟨z,h1,h2⟩:=zzs h;unfold shl at h1;split at h1;cases h1;rename_i hb;injection h1 with h1;subst h1;exact⟨_,_,by simp only[ziz];rw[Qbs hb],by simp only[VR],h2⟩;obtain⟨z,h1,h2⟩:=zzs h;unfold shr at h1;split at h1;cases h1;rename_i hb;injection h1 with h1;subst h1;exact⟨_,_,by simp only[ziz];rw[Qbs hb],by simp only[VR],h2⟩
  ·rename_i hn1 hn2;split at h
   ·rename_i hi;subst hi
    have key:∀v,zn0 op i a b=some v->ziz P op t (.int i a) (.int i b)=some v:=λv hv=>by
     unfold ziz
     cases op <;> first|exact(hn1 rfl).elim|exact(hn2 rfl).elim|(simp only[if_true];exact hv)
    split at h
    all_goals first
     |(refine⟨_,_,key _ rfl,by simp only[VR],h⟩;done)
     |skip
    obtain⟨z,h1,h2⟩:=zzs h;obtain⟨h3,rfl⟩:=y4k h1;exact⟨_,_,key _ (by simp only[zn0];rw[Qbs h3]),by simp only[VR],h2⟩;obtain⟨z,h1,h2⟩:=zzs h;obtain⟨h3,rfl⟩:=y3a h1;exact⟨_,_,key _ (by simp only[zn0];rw[Qbs h3]),by simp only[VR],h2⟩;cases h
   cases h
 rename_i a b;simp only[VR]at hx hy;subst hx;subst hy;split at h;obtain⟨z,h1,h2⟩:=zzs h;obtain⟨h3,rfl⟩:=y2u h1;exact⟨_,_,by simp only[ziz,zxy];rw[Qbr h3],by simp only[VR],h2⟩;exact⟨_,_,rfl,by simp only[VR],h⟩;exact⟨_,_,rfl,by simp only[VR],h⟩;exact⟨_,_,rfl,by simp only[VR],h⟩;exact⟨_,_,rfl,by simp only[VR],h⟩;exact⟨_,_,rfl,by simp only[VR],h⟩;exact⟨_,_,rfl,by simp only[VR],h⟩;cases h;split at h;split at h
 rename_i ho;split at h;rename_i b hb;obtain⟨h1,h2,h3⟩:=zvz hb ho hx hy;exact⟨_,_,y3g h1 h2 h3 (zg6 hb hx hy),by simp only[VR],h⟩;cases h;cases h;split at h;rename_i ho;split at h;rename_i b hb;obtain⟨h1,h2,h3⟩:=zvz hb ho hx hy;exact⟨_,_,y5j h1 h2 h3 (zg6 hb hx hy),by simp only[VR],h⟩;cases h;cases h;cases h
variable (hD : D.Ok P)
include hD
omit hD in
theorem zs5{t:DTy}{xs:List (t.S D.T)}{ws:List V}(hl:ws.length=xs.length)(h:∀(j:Nat) (x:t.S D.T) (w:V),xs[j]? = some x->ws[j]? = some w->DR D t x w){n:Int}{y:t.S D.T}(hy:ix xs n=some y):0<=n∧n.toNat<ws.length∧∃w,ws[n.toNat]? = some w∧DR D t y w:=by
 obtain⟨h1,h2⟩:=z6w hy;have hlt:n.toNat<ws.length:=by rw[hl];exact(Qaa.1 h2).1
 exact⟨h1,hlt,ws[n.toNat],Qab hlt,h _ _ _ h2 (Qab hlt)⟩
omit hD in
theorem zfb{R:Type}{r:R}:∀{len:Nat}{n:Int}{f:Nat->Option R},0<=n->n<(len:Int)->zh8 len n f=some r->∃m,m<len∧n=Int.ofNat m∧f m=some r
 |0,_,_,_,_,h=>by cases h
 |1,n,f,h0,h1,h=>⟨0,by omega,by simp only[Int.ofNat_eq_natCast];omega,h⟩
 |len+2,n,f,h0,h1,h=>by
  simp only[zh8]at h;rw[zlf]at h;split at h;rename_i hc;exact⟨len+1,by omega,by simpa using hc,h⟩;rename_i hc;have hne:n≠((len+1:Nat):Int):=by simpa using hc
  obtain⟨m,h2,h3,h4⟩:=zfb h0 (by omega) h;exact⟨m,by omega,h3,h4⟩
omit hD in
theorem zfx{R:Type}{t len e:Nat}{ik:IntKind}{H:zz2}{x:TV D.T}{vx:V}{k:TV D.T->Option R}{r:R}{m:Nat}(hu:P.underlying t=some (.array len e))(h:zlk P len e x k m=some r)(hx:VR D ρ lv x vx) :
  ∃z v,yzf P H t vx (.int ik (Int.ofNat m))=some v∧VR D ρ lv z v∧k z=some r:=by
 unfold zlk at h;split at h;rename_i hc;have hn0:(0:Int)<=Int.ofNat m:=Int.natCast_nonneg m;have hlt:Int.ofNat m<(len:Int):=Int.ofNat_lt.2 hc.1;split at h;rename_i cs off;simp only[VR]at hx;obtain⟨vs,rfl,hv⟩:=hx;exact⟨_,.ref vs (off+m * P.cellsOf e),by unfold yzf;simp only;rw[Qbr hn0,hu];simp only;rw[Qbr ⟨hlt,hc.2⟩];rfl,by simp only[VR];exact⟨vs,rfl,hv⟩,h⟩;rename_i s off;simp only[VR]at hx
 obtain⟨sl,j,h1,h2,rfl⟩:=hx;exact⟨_,.ptr lv j (off+m * P.cellsOf e),by unfold yzf;simp only;rw[Qbr hn0,hu];simp only;rw[Qbr ⟨hlt,hc.2⟩];rfl,by simp only[VR];exact⟨sl,j,h1,h2,rfl⟩,h⟩;rename_i s τ i' x' off;simp only[VR]at hx;obtain⟨sl,w,h1,h2,h3,h4,h5⟩:=hx
 cases hk:sl.k with
 |none=>
  rw[hk]at h5;simp only at h5;subst h5
  exact⟨_,.ref w.cells (off+m * P.cellsOf e),by unfold yzf;simp only;rw[Qbr hn0,hu];simp only;rw[Qbr ⟨hlt,hc.2⟩];rfl,by simp only[VR];exact⟨sl,w,h1,h2,h3,h4,by rw[hk]⟩,h⟩
 |some j=>
  rw[hk]at h5;obtain⟨ver,n,e1,rfl⟩:=h5;exact⟨_,.ap lv j ver i'.toNat (off+m * P.cellsOf e),by unfold yzf;simp only;rw[Qbr hn0,hu];simp only;rw[Qbr ⟨hlt,hc.2⟩];rfl,by simp only[VR];exact⟨sl,w,h1,h2,h3,h4,by rw[hk];exact⟨ver,n,e1,rfl⟩⟩,h⟩
 cases h;cases h
theorem zj3{R:Type}(hR:TRr D F ρ ts σ){t:Nat}{x i:TV D.T}{vx vi:V}{k:TV D.T->Option R}{r:R}(h:zfz P D ts t x i k=some r)(hx:VR D ρ F.lv x vx)(hi:VR D ρ F.lv i vi) :
  ∃z v,yzf P σ.H t vx vi=some v∧VR D ρ F.lv z v∧k z=some r:=by
 unfold zfz at h;split at h;rename_i ik n;simp only[VR]at hi;subst hi;split at h;rename_i e hu;split at h;rename_i he;split at h;rename_i τ xs fl;split at h;rename_i hz;obtain⟨y,hy,h⟩:=zzs h;simp only[VR]at hx;obtain⟨hx,_⟩:=hx
 cases hx with
 |nil=>obtain⟨_,h2⟩:=z6w hy;simp at h2
 |sl _ _ ws full hl hh=>
  obtain⟨h1,h2,w,h3,h4⟩:=zs5 hl hh hy;refine⟨_,.ref w.cells 0,?_,?_,h⟩;rw[zfv,Qbr h1,hu];simp only;rw[Qbr ⟨hz,he⟩,h3];rfl;simp only[VR];exact⟨_,rfl,VR.zrz hD h4⟩
 cases h;rename_i s;split at h;rename_i ty τ xs w ho;split at h;rename_i hz;obtain⟨y,hy,h⟩:=zzs h;simp only[VR]at hx;obtain⟨sl,h1,rfl,hleaf⟩:=hx;obtain⟨sl',k1,k2⟩:=hR.ob _ _ ho
 rw[h1]at k1;injection k1 with k1;subst k1
 simp only[OR]at k2;obtain⟨q1,q2,q3⟩:=k2;obtain⟨p1,p2,u,p3,p4⟩:=zs5 q1 q2 hy
 cases hk:sl.k with
 |none=>
  rw[hk]at q3
  rcases q3 with ⟨e1,e2⟩|⟨e1,e2⟩
  rw[e2]at p3;simp at p3;refine⟨_,.ref u.cells 0,?_,?_,h⟩;rw[e1.1,zfv,Qbr p1,hu];simp only;rw[Qbr ⟨hz,he⟩,p3];rfl
  simp only[VR];exact⟨sl,u,h1,p1,p3,p4,by rw[hk]⟩
 |some j=>
  rw[hk]at q3;obtain⟨ver,cp,e1,e2⟩:=q3;refine⟨_,.ap F.lv j ver n.toNat 0,?_,?_,h⟩;rw[e1];unfold yzf;simp only;rw[Qbr p1,hu];simp only[hR.get e2];rw[Qbr ⟨trivial,hz,he,by omega⟩];simp;simp only[VR];exact⟨sl,u,h1,p1,p3,p4,by rw[hk];exact⟨ver,_,e1,by simp⟩⟩
 cases h;rename_i ty q xs hh ho;split at h;rename_i hz;obtain⟨y,hy,h⟩:=zzs h;simp only[VR]at hx;obtain⟨sl,h1,rfl,hleaf⟩:=hx;obtain⟨sl',k1,k2⟩:=hR.ob _ _ ho
 rw[h1]at k1;injection k1 with k1;subst k1
 simp only[OR]at k2;obtain⟨q1,q3⟩:=k2;obtain⟨p1,p2⟩:=z6w hy;have hlt:n.toNat<sl.ws.length:=by rw[q1];exact(Qaa.1 p2).1
 cases hk:sl.k with
 |none=>
  rw[hk]at q3;obtain⟨e1,_⟩:=q3
  rw[e1]at p2;simp at p2
 |some j=>
  rw[hk]at q3;obtain⟨ver,cp,fps,e1,e2,_⟩:=q3;refine⟨_,.ap F.lv j ver n.toNat 0,?_,?_,h⟩;rw[e1];unfold yzf;simp only;rw[Qbr p1,hu];simp only[hR.get e2];rw[Qbr ⟨trivial,hz,he,by omega⟩];simp;simp only[VR];exact⟨sl,j,ver,_,h1,e1,p1,hlt,by simp⟩
 cases h;cases h;cases h;cases h;rename_i len e hu;split at h;obtain⟨_,hr,h⟩:=zzs h;unfold inR at hr;split at hr;rename_i hc;obtain⟨m,hm,rfl,h2⟩:=zfb hc.1 hc.2 h;exact zfx hu h2 hx;cases hr;split at h;exact zfx hu h hx;cases h;cases h;cases h
omit hD in
theorem ztq{t:DTy}:∀{cs:List (TV D.T)}{xs:List (t.S D.T)},zpg D t cs = .ok xs->xs.length=cs.length
 |[],xs,h=>by simp only[zpg]at h;injection h with h;subst h;rfl
 |c::cs,xs,h=>by
  simp only[zpg]at h;split at h;split at h
  rename_i ys hys;injection h with h;subst h;simp[ztq hys]
  cases h;cases h;cases h;cases h
omit hD in
theorem zx8{c:Nat}{cs:List (TV D.T)}{vs:List V}(len:Nat)(h:VRL D ρ lv cs vs):VRL D ρ lv (chunks c len cs) ((List.range len).map λj=>V.agg ((vs.drop (j * c)).take c)):=by
 unfold chunks;refine .of (by simp) λj x v hx hv =>?_
 rw[Qan,Qaf]at hx hv;obtain⟨i,h1,rfl⟩:=hx;obtain⟨i',h2,rfl⟩:=hv
 rw[h1]at h2;injection h2 with h2;subst h2
 simp only[VR];exact⟨_,rfl,(h.drop _).take _⟩
theorem zth{R:Type}{t:Nat}{x i:TV D.T}{vx vi:V}{k:TV D.T->Option R}{r:R}(h:zxw P D t x i k=some r)(hx:VR D ρ lv x vx)(hi:VR D ρ lv i vi) :
  ∃z v,zgq P t vx vi=some v∧VR D ρ lv z v∧k z=some r:=by
 unfold zxw at h;split at h;rename_i ik n;simp only[VR]at hi;subst hi;split at h;rename_i s;simp only[VR]at hx;subst hx;split at h;rename_i hu;obtain⟨b,hb,h⟩:=zzs h;obtain⟨h1,h2⟩:=z6w hb;refine⟨_,.int .u8 b.toNat,?_,by simp only[VR],h⟩;unfold zgq;simp only;rw[Qbr h1,hu];simp only[h2];rfl;cases h;rename_i cs;simp only[VR]at hx;obtain⟨vs,rfl,hx⟩:=hx;split at h;rename_i len e hu;split at h;rename_i τ hτ;split at h
 rename_i hc;obtain⟨c1,c2,c3,c4⟩:=hc;split at h;split at h;rename_i xs hxs;obtain⟨y,hy,h⟩:=zzs h;obtain⟨k1,k2⟩:=zc1 hD hxs hx;obtain⟨p1,p2,u,p3,p4⟩:=zs5 k1 k2 hy;have hlen:vs.length=len:=by rw[k1,ztq hxs,c1]
 refine⟨_,u,?_,VR.leaf p4,h⟩;unfold zgq;simp only;rw[Qbr p1,hu];simp only;rw[Qbr ⟨by omega,c3⟩,c2,Nat.mul_one];unfold rd;rw[Option.any_eq_true]at c4;obtain⟨d,hd,hag⟩:=c4;rw[hd]
 cases d <;> first|exact p3|(simp[TypeDesc.isAgg]at hag)
 cases h;cases h;split at h;rename_i hc;obtain⟨c1,c2⟩:=hc;split at h;rename_i xs hxs;obtain⟨y,hy,h⟩:=zzs h;obtain⟨k1,k2⟩:=zc1 hD hxs (zx8 len hx);obtain⟨p1,p2,u,p3,p4⟩:=zs5 k1 k2 hy;rw[Qan,Qaf]at p3;obtain⟨j,p5,rfl⟩:=p3;obtain⟨p6,p7⟩:=Qaa.1 p5;rw[List.getElem_range]at p7;rw[List.length_range]at p6;subst p7;refine⟨_,_,?_,VR.tv hD p4,h⟩
 unfold zgq;simp only;rw[Qbr p1,hu];simp only
 have hle:n.toNat * P.cellsOf e+P.cellsOf e<=len * P.cellsOf e:=by
  have:=Qau (P.cellsOf e) (show n.toNat+1<=len by omega);rw[Nat.succ_mul]at this;exact this
 unfold stB at c2;unfold rd;split at c2;rename_i hs;rw[Qbr ⟨by omega,by rw[hs];rfl⟩,hs];simp only;rw[Qbr (by rw[<-hx.length,c1];exact hle)];cases c2;cases h;cases h;cases h;cases h;cases h;cases h
omit hD in
theorem y43{d n:Nat}{o:Option (TV D.T)}{l:Int}{vo:Option V}(hd:d<=n)(h:zrf D (d:Int) o=some l)(hv:∀x,o=some x->∃v,vo=some v∧VR D ρ lv x v)(hn:o=none->vo=none)(h0:0<=l)(hl:l<=n):bnd n d vo=some l.toNat:=by
 unfold zrf at h;split at h;injection h with h;subst h;rw[hn rfl];simp[bnd];rename_i ik x;injection h with h;subst h;obtain⟨v,e1,e2⟩:=hv _ rfl;simp only[VR]at e2;subst e2;rw[e1];simp only[bnd];rw[Qbr ⟨h0,hl⟩];cases h
omit hD in
theorem zrd{R:Type}{t:Nat}{x:TV D.T}{lo hi:Option (TV D.T)}{vx:V}{vlo vhi:Option V}{k:TV D.T->Option R}{kf:Nat->Option R}{r:R}(h:zy1 P D t x lo hi k kf=some r)(hx:VR D ρ lv x vx)
  (hlo:∀y,lo=some y->∃v,vlo=some v∧VR D ρ lv y v) (hlo0:lo=none->vlo=none) (hhi:∀y,hi=some y->∃v,vhi=some v∧VR D ρ lv y v) (hhi0:hi=none->vhi=none) (H:zz2) :
  (∃z v,z64 P H t vx vlo vhi none=some v∧VR D ρ lv z v∧k z=some r)∨∃s,kf s=some r:=by
 unfold zy1 at h
 have bounds:∀{n:Nat}{l q:Int},zrf D 0 lo=some l->zrf D (n:Int) hi=some q->0<=l->l<=q->q<=n->z55 n vlo vhi none=some (l.toNat,q.toNat,none):=λ{n l q} hl hq h1 h2 h3=>by
  simp only[z55];rw[y43 (Qbq n) hq hhi hhi0 (by omega) h3];simp only[Option.bind_some];rw[y43 (d:=0) (n:=q.toNat) (Qbp _) hl hlo hlo0 h1 (by omega)];rfl
 split at h;rename_i s;simp only[VR]at hx;subst hx;split at h;rename_i hu;split at h;rename_i l q hl hq;obtain⟨y,hy,h⟩:=zzs h;obtain⟨h1,h2,h3,rfl,_⟩:=ztl hy;left;exact⟨_,.str ((s.take q.toNat).drop l.toNat),by simp only[z64,hu,bounds hl hq h1 h2 h3,Qbn],by simp only[VR],h⟩;cases h;cases h
 ·rename_i τ xs fl;simp only[VR]at hx;obtain⟨hx,hf1,hf2⟩:=hx;split at h
  ·rename_i e hu;split at h
   ·rename_i hz;split at h
    ·rename_i l q hl hq;obtain⟨y,hy,h⟩:=zzs h;obtain⟨h1,h2,h3,rfl,_⟩:=ztl hy;left
     cases hx with
     |nil=>
      refine⟨_,.nils,?_,?_,h⟩;have hb:z55 0 vlo vhi none=some (l.toNat,q.toNat,none):=bounds hl hq h1 h2 h3;simp only[z64,hu];rw[Qbr hz.2,hb];rfl;simp only[VR];refine⟨by simp only[List.take_nil,List.drop_nil];exact .nil τ,λhfl =>?_,λhfl=>by simp⟩
      have:1<=fl:=by
       split at hfl;omega;omega
      obtain⟨ws,hw⟩:=hf1 this
      cases hw
     |sl _ _ ws full hlw hh=>
      refine⟨_,.sl (D.len τ) ((ws.take q.toNat).drop l.toNat) (full&&q.toNat==ws.length),?_,?_,h⟩
      rotate_left
      simp only[VR];refine⟨.sl τ _ ((ws.take q.toNat).drop l.toNat) (full&&q.toNat==ws.length) (by simp[hlw]) λj x w hx hw =>?_,λhfl =>?_,λhfl =>?_⟩;rw[Qbc,Qaw]at hx hw;split at hx;rw[Qbr ‹_›]at hw;exact hh _ _ _ hx hw;cases hx
      have hfl':hi=none∧1<=fl:=by
       split at hfl;exact⟨by first|assumption|rfl,by omega⟩;omega
      obtain⟨ws',hw'⟩:=hf1 hfl'.2;injection hw' with _ _ hw';subst hw'
      have hqn:q=xs.length:=by
       rw[hfl'.1]at hq;simp only[zrf,Qbo]at hq;exact hq.symm
      refine⟨(ws.take q.toNat).drop l.toNat,?_⟩;have:(q.toNat==ws.length)=true:=by rw[hqn,hlw];simp
      rw[this];rfl
      exfalso
      split at hfl;omega;omega;have hb:z55 ws.length vlo vhi none=some (l.toNat,q.toNat,none):=by rw[hlw];exact bounds hl hq h1 h2 h3
      simp only[z64,hu];rw[Qbr hz,hb];simp
    cases h
   cases h
  cases h
 exact .inr ⟨_,h⟩;cases h
omit hD in
theorem TRr.oev(hR:TRr D F ρ ts σ){o:Option Operand}{x:Option (TV D.T)}(h:oev D ts o=some x):(∀y,x=some y->∃v,o.map σ.ev=some v∧VR D ρ F.lv y v)∧(x=none->o.map σ.ev=none):=by
 cases o with
 |none=>simp only[Go.Ab.oev,Qbo]at h;subst h;exact⟨by simp,λ_=>rfl⟩
 |some o=>
  simp only[Go.Ab.oev,Qaf]at h;obtain⟨y,hy,rfl⟩:=h;exact⟨λz hz=>by injection hz with hz;subst hz;exact⟨_,rfl,hR.ev hy⟩,by simp⟩
omit hD in
theorem DR.flat{t:DTy}(ht:t.flat=true){x:t.S D.T}{v:V}(h:DR D t x v):v=D.el t x:=by
 cases h <;> first|rfl|cases ht
theorem zpc{R:Type}(hR:TRr D F ρ ts σ){t:Nat}{x key:TV D.T}{vx vk:V}{ok:Bool}{k:TV D.T->Option R}{r:R}(h:zsz P D ts t x key ok k=some r)(hx:VR D ρ F.lv x vx)(hk:VR D ρ F.lv key vk) :
  ∃z v,zbn P σ.H t vx vk ok=some v∧VR D ρ F.lv z v∧k z=some r:=by
 unfold zsz at h;split at h;rename_i kt e s hu;simp only[VR]at hk;subst hk;split at h;rename_i z hkt hz;obtain⟨vz,hz1,hz2⟩:=z5j (ρ:=ρ) (lv:=F.lv) hz;split at h;rename_i q;split at h;rename_i ty τ es ho;simp only[VR]at hx;obtain⟨sl,i,h1,h2,rfl⟩:=hx;obtain⟨sl',k1,k2⟩:=hR.ob _ _ ho
 rw[h1]at k1;injection k1 with k1;subst k1
 simp only[OR]at k2;obtain⟨i',ms,q1,q2,q4,q3⟩:=k2
 rw[h2]at q1;injection q1 with q1;subst q1
 split at h;rename_i z0 hz0;have h0:DR D τ z0 vz:=z6m hD hz0 hz2;obtain⟨l1,l2⟩:=zwj (P:=P) (f:=λx:τ.S D.T×V=>x.2) (m:=ms) hu hkt hz1 (hR.get q3) s (z0,vz) rfl;have eg:z1x es s=(z1x ms s).map Prod.fst:=by rw[q2];exact zvw Prod.fst s ms
 have hv:VR D ρ F.lv (D.tv τ ((z1x es s).getD z0)) ((z1x ms s).getD (z0,vz)).2:=by
  rw[eg]
  cases hm:z1x ms s with
  |none=>exact VR.tv hD h0
  |some p=>
   obtain⟨q,a1,a2⟩:=ztu hm;subst a2;exact VR.tv hD (q4 q a1)
 have hs:(z1x es s).isSome=(z1x ms s).isSome:=by rw[eg];cases z1x ms s <;> rfl
 cases ok;exact⟨_,_,l1,hv,h⟩
 exact⟨_,_,l2,by
  simp only[VR,VRL]
  exact⟨_,rfl,_,_,rfl,hv,_,_,rfl,by rw[hs],rfl⟩,h⟩
 cases h;cases h;cases h;cases h;cases h
omit hD in
theorem DO.datE{L:List (Option yz4)}{t:DTy}{x:t.S D.T}{v:V}{c:List Nat}(h:DO D lv L .dat t x v c):DR D t x v:=by
 cases h with
 |dat h=>exact h
omit hD in
theorem zet(q:Nat):∀(l:List DTy) (x:HL D.T l) (f j:Nat),(zfk D q l x f)[j]? = (HL.nth l x j).map λp=>match D.ow q (f+j)with|none=>D.leaf p.1 p.2|some _=>.any
 |[],_,_,j=>by simp[zfk,HL.nth]
 |t::l,x,f,0=>by simp only[zfk,HL.nth,Qbw,Qbn,Nat.add_zero];rfl
 |t::l,x,f,j+1=>by
  have:=zet q l x.2 (f+1) j;simp only[zfk,HL.nth,List.getElem?_cons_succ,this];rw[show f+1+j=f+(j+1) by omega]
omit hD in
theorem zv9{ρ0 ρ':List Slot}{L:List (Option yz4)}{q n:Nat}{h:Option (Int×Nat×Nat)}{x:D.T q}{w:V}{c:List Nat}(hE:EO D ρ0 lv L q h n x w c):VRL D ρ' lv (zfk D q (D.fl q) (D.get q x) 0) w.cells:=by
 obtain⟨vs,cs,rfl,h2,h3,h4,h5⟩:=hE;refine .of ?_ λj y v hy hv =>?_
 show(zfk D q (D.fl q) (D.get q x) 0).length=vs.length;rw[h2];apply Nat.le_antisymm;apply Nat.le_of_not_lt;intro hlt;have:=zet (D:=D) q (D.fl q) (D.get q x) 0 (D.fl q).length;rw[Qab hlt]at this
 cases hn:HL.nth (D.fl q) (D.get q x) (D.fl q).length with
 |none=>rw[hn]at this;cases this
 |some p=>have:=(HL.z47 _ _ _ _ hn).1;omega
 apply Nat.le_of_not_lt;intro hlt;obtain⟨p,hp,_⟩:=HL.z7o (D.fl q) (D.get q x) _ hlt;have:=zet (D:=D) q (D.fl q) (D.get q x) 0 (zfk D q (D.fl q) (D.get q x) 0).length;rw[hp,Qby (Qbq _)]at this;cases this;rw[zet,Qaf]at hy;obtain⟨p,hp,rfl⟩:=hy;replace hv:vs[j]? = some v:=hv;have hj:=(HL.z47 _ _ _ _ hp).1;rw[Nat.zero_add]
 cases how:D.ow q j with
 |some ty=>simp only[VR]
 |none=>
  have:=h5 j p v _ hp hv (Qab (show j<cs.length by omega));rw[how]at this;split at this;have:=this.2.1;cases this;exact VR.leaf this.datE
omit hD in
theorem z4o{R:Type}(hR:TRr D F ρ ts σ){ρ':List Slot}{t s off:Nat}{i:Int}{set:Option (Nat×TV D.T)}{k:TV D.T->Option R}{r:R}{va:V}(hset:∀f v sl w u,set=some (f,v)->ρ[s]? = some sl->sl.ws[i.toNat]? = some w->w.cells[f]? = some u->VR D ρ' F.lv v u)
  (h:ze2 P D ts t s i off set k=some r) (ha:VR D ρ F.lv (.dp s i off) va):∃x v,z2f P σ.H t va=some v∧VR D ρ' F.lv x v∧k x=some r:=by
 unfold ze2 at h;split at h;rename_i ty q xs hh ho;obtain⟨y,hy,h⟩:=zzs h;split at h;rename_i x hx;simp only[VR]at ha;obtain⟨sl,j,ver,m,a1,a2,a3,a4,rfl⟩:=ha;obtain⟨sl',b1,b2⟩:=hR.ob s _ ho
 rw[a1]at b1;injection b1 with b1;subst b1
 simp only[OR]at b2;obtain⟨c1,c2⟩:=b2;obtain⟨p1,p2⟩:=z6w hy
 cases hk:sl.k with
 |none=>rw[hk]at c2;rw[c2.1]at p2;simp at p2
 |some j'=>
  rw[hk]at c2;obtain⟨ver',cp,fps,d1,d2,d3,d4,d5,d6,d7⟩:=c2
  rw[a2]at d1;injection d1 with _ e1 e2 _ e3 _
  subst e1;subst e2;subst e3;have hw:sl.ws[i.toNat]? = some (sl.ws[i.toNat]'a4):=Qab a4;have hE:=d6 i.toNat y _ _ p2 hw (Qab (show i.toNat<fps.length by omega));have hm:=zv9 (ρ':=ρ') hE
  have hs:VRL D ρ' F.lv (setO (zfk D q (D.fl q) (D.get q y) 0) set) (sl.ws[i.toNat]'a4).cells:=by
   cases set with
   |none=>exact hm
   |some p=>
    obtain⟨f,v⟩:=p;refine .of (by simp[setO,hm.length]) λn c u hc hu =>?_
    simp only[setO]at hc;rw[Qbf]at hc;split at hc;rename_i e;subst e;split at hc;injection hc with hc;subst hc;exact hset _ _ sl _ u rfl a1 hw hu;cases hc;exact hm.zg7 hc hu
  obtain⟨v,v1,v2⟩:=z4i hs hx;refine⟨x,v,?_,v2,h⟩;simp only[zm1,zfe,hR.get d2,if_true,hw,Qbn,Option.bind_some];exact v1
 cases h;cases h
omit hD in
theorem zrv{R:Type}(hR:TRr D F ρ ts σ){t s off:Nat}{i:Int}{k:TV D.T->Option R}{r:R}{va:V}
  (h:zwk P D ts t s i off k=some r) (ha:VR D ρ F.lv (.dp s i off) va):∃x v,z2f P σ.H t va=some v∧VR D ρ F.lv x v∧k x=some r:=by
 unfold zwk at h;split at h;rename_i ty q xs p ho;obtain⟨n,f',c⟩:=p;split at h;rename_i hff;have hff:f'=off:=Qaj hff;subst hff;obtain⟨_,hs,h⟩:=zzs h
 have hni:n=i:=by
  unfold zr0 at hs;split at hs;rename_i e;exact e;cases hs
 subst hni;refine z4o hR (ρ':=ρ) (λf2 v sl w u' e hsl hw hu =>?_) h ha;injection e with e;injection e with e4 e5;subst e4;subst e5;obtain⟨sl',b1,b2⟩:=hR.ob s _ ho
 rw[hsl]at b1;injection b1 with b1;subst b1
 simp only[OR]at b2;obtain⟨c1,c2⟩:=b2
 cases hk:sl.k with
 |none=>rw[hk]at c2;cases c2.2.2.2
 |some j'=>
  rw[hk]at c2;obtain⟨ver',cp',fps,d1,d2,d3,d4,d5,d6,d7⟩:=c2;have hlt:=(d7 _ _ _ rfl).2;obtain⟨vs,cs,g1,g2,g3,g4,g5⟩:=d6 n.toNat _ w _ (Qab hlt) hw (Qab (show n.toNat<fps.length by omega));subst g1;replace hu:vs[f']? = some u':=hu;have hfl:=(Qaa.1 hu).1;obtain⟨p,hp,_⟩:=HL.z7o (D.fl q) (D.get q xs[n.toNat]) f' (by omega)
  have:=g5 f' p u' _ hp hu (Qab (show f'<cs.length by omega));rw[show yzq (some (n,f',c)) n.toNat f'=some c by simp[yzq]]at this;obtain⟨_,_,a3,sl2,a4,a5⟩:=this;simp only[VR];exact⟨sl2,a4,a5,a3⟩
 exact z4o hR (ρ':=ρ) (λf v _ _ _ e=>by cases e) h ha;exact z4o hR (ρ':=ρ) (λf v _ _ _ e=>by cases e) h ha
theorem zlv{R:Type}(hR:TRr D F ρ ts σ){op:Op}{k:TV D.T->Option R}{kf:Nat->Option R}{r:R}(h:tP P D ts op k kf=some r) :
  (∃x v,pv P σ.H σ.ev op=some v∧VR D ρ F.lv x v∧k x=some r)∨∃s,kf s=some r:=by
 unfold tP at h;split at h;rename_i c a b;split at h;rename_i t x y hc hx hy;have h1:=hR.ev hc;simp only[VR]at h1;left;rw[zlf]at h;split at h;rename_i ht;exact⟨x,_,by simp only[pv,h1];rw[Qbr ht],hR.ev hx,h⟩;rename_i ht;exact⟨y,_,by simp only[pv,h1];rw[Qbs ht],hR.ev hy,h⟩;cases h;split at h;rename_i hx hy;left;obtain⟨z,v,h1,h2,h3⟩:=zy0 h (hR.ev hx) (hR.ev hy);exact⟨z,v,h1,h2,h3⟩;cases h;split at h;rename_i hx hy
 left;obtain⟨z,v,h1,h2,h3⟩:=zj3 hD hR h (hR.ev hx) (hR.ev hy);exact⟨z,v,h1,h2,h3⟩;cases h;split at h;rename_i hx hy;left;obtain⟨z,v,h1,h2,h3⟩:=zth hD h (hR.ev hx) (hR.ev hy);exact⟨z,v,h1,h2,h3⟩;cases h;split at h;rename_i hx hy;left;obtain⟨z,v,h1,h2,h3⟩:=zpc hD hR h (hR.ev hx) (hR.ev hy);exact⟨z,v,h1,h2,h3⟩;cases h;split at h;rename_i hx hlo hhi;obtain⟨a1,a2⟩:=hR.oev hlo;obtain⟨b1,b2⟩:=hR.oev hhi
 exact zrd h (hR.ev hx) a1 a2 b1 b2 σ.H;cases h;split at h;rename_i hx;left;exact zrv hR h (hR.ev hx);split at h;rename_i v hv;obtain⟨u,h1,h2⟩:=zqj hD hR hv;exact .inl ⟨v,u,h1,h2,h⟩;exact .inr ⟨_,h⟩;cases h;split at h;rename_i v hv;obtain⟨u,h1,h2⟩:=zqj hD hR hv;exact .inl ⟨v,u,h1,h2,h⟩;exact .inr ⟨_,h⟩;cases h
end
end Go.Ab
namespace Go.Ab
open Go
set_option linter.unusedVariables false
set_option linter.unusedSimpArgs false
set_option linter.unusedSectionVars false
section
variable {P : Program} {D : Dat} {F : Fr} {ρ : List Slot} {ts : TS D.T} {σ : St} {lv : Nat}
theorem DO.mono{L L':List (Option yz4)}{m:OM}{t:DTy}{x:t.S D.T}{v:V}{fp:List Nat}(h:DO D lv L m t x v fp)(hL:∀i∈fp,L'[i]? = L[i]?):DO D lv L' m t x v fp:=by
 induction h with
 |dat h=>exact .dat h
 |nil h hv=>exact .nil h hv
 |own hj hl hf he ih=>
  exact .own (by rw[hL _ Qak];exact hj) hl hf λn x w c h1 h2 h3=>ih n x w c h1 h2 h3 λi hi=>hL i (Qai _ (List.mem_flatten.2 ⟨c,Qax h3,hi⟩))
 |el hl hc h ih=>exact .el hl hc λf p u b h1 h2 h3=>ih f p u b h1 h2 h3 λi hi=>hL i (List.mem_flatten.2 ⟨b,Qax h3,hi⟩)
 |elf ht h=>exact .elf ht h
theorem EO.mono{L L':List (Option yz4)}{q:Nat}{h:Option (Int×Nat×Nat)}{n:Nat}{x:D.T q}{w:V}{c:List Nat}(e:List Slot)(hE:EO D ρ lv L q h n x w c)(hL:∀i∈c,L'[i]? = L[i]?):EO D (ρ++e) lv L' q h n x w c:=by
 obtain⟨vs,cs,h1,h2,h3,rfl,h4⟩:=hE;refine⟨vs,cs,h1,h2,h3,rfl,λf p u b k1 k2 k3 =>?_⟩;have:=h4 f p u b k1 k2 k3;split at this;rename_i s hs;obtain⟨a1,a2,a0,sl',a3,a4⟩:=this;exact⟨a1,a2,a0,sl',lookup_append a3,a4⟩;exact this.mono λi hi=>hL i (List.mem_flatten.2 ⟨b,Qax k3,hi⟩)
theorem OR.mono{L L':List (Option yz4)}{sl:Slot}{o:TO D.T}(h:OR D ρ lv L sl o)(e:List Slot)(hL:∀i,sl.has i->o.live->L'[i]? = L[i]?):OR D (ρ++e) lv L' sl o:=by
 cases o with
 |cells cs=>
  simp only[OR]at h ⊢;obtain⟨i,vs,h1,h2,h3⟩:=h
  exact⟨i,vs,h1,by rw[hL i (.inl h1) trivial];exact h2,h3.more e⟩
 |acc ty t xs w=>
  simp only[OR]at h ⊢;obtain⟨h1,h2,h3⟩:=h;refine⟨h1,h2,?_⟩
  cases hk:sl.k with
  |none=>rw[hk]at h3;exact h3
  |some i=>
   rw[hk]at h3;obtain⟨ver,cp,k1,k2⟩:=h3
   exact⟨ver,cp,k1,by rw[hL i (.inl hk) trivial];exact k2⟩
 |siter s pos=>
  simp only[OR]at h ⊢;obtain⟨i,h1,h2⟩:=h
  exact⟨i,h1,by rw[hL i (.inl h1) trivial];exact h2⟩
 |mp ty t es=>
  simp only[OR]at h ⊢;obtain⟨i,ms,h1,h2,h4,h3⟩:=h
  exact⟨i,ms,h1,h2,h4,by rw[hL i (.inl h1) trivial];exact h3⟩
 |mit t last es=>
  simp only[OR]at h ⊢;obtain⟨i,fs,vis,h1,h2,h3,h4⟩:=h
  exact⟨i,fs,vis,h1,h2,by rw[hL i (.inl h1) trivial];exact h3,h4⟩
 |bld ty b=>
  simp only[OR]at h ⊢;obtain⟨i,a,c,h1,h2,h3,h4⟩:=h
  exact⟨i,a,c,h1,by rw[hL i (.inl h1) trivial];exact h2,h3,VR.more e h4⟩
 |gone=>simp only[OR]
 |rig=>exact h
 |deep ty q xs hh=>
  simp only[OR]at h ⊢;obtain⟨h1,h3⟩:=h;refine⟨h1,?_⟩
  cases hk:sl.k with
  |none=>rw[hk]at h3;exact h3
  |some i=>
   rw[hk]at h3;obtain⟨ver,cp,fps,k1,k2,k3,k4,k5,k6,k7⟩:=h3;refine⟨ver,cp,fps,k1,by rw[hL i (.inl hk) trivial];exact k2,k3,k4,k5,λn x w c a1 a2 a3=>(k6 n x w c a1 a2 a3).mono e λj hj=>hL j (.inr ?_) trivial,k7⟩;rw[k4];exact List.mem_flatten.2 ⟨c,Qax a3,hj⟩
theorem OR.at{L:List (Option yz4)}{sl:Slot}{o:TO D.T}{i:Nat}(h:OR D ρ lv L sl o)(hl:o.live)(hk:sl.k=some i):∃a,L[i]? = some (some a):=by
 cases o with
 |cells cs=>
  simp only[OR]at h;obtain⟨i',vs,h1,h2,h3⟩:=h
  rw[hk]at h1;injection h1 with h1;subst h1
  exact⟨_,h2⟩
 |acc ty t xs w=>
  simp only[OR]at h;obtain⟨h1,h2,h3⟩:=h;rw[hk]at h3;obtain⟨ver,cp,k1,k2⟩:=h3
  exact⟨_,k2⟩
 |siter s pos=>
  simp only[OR]at h;obtain⟨i',h1,h2⟩:=h
  rw[hk]at h1;injection h1 with h1;subst h1
  exact⟨_,h2⟩
 |mp ty t es=>
  simp only[OR]at h;obtain⟨i',ms,h1,_,_,h2⟩:=h
  rw[hk]at h1;injection h1 with h1;subst h1
  exact⟨_,h2⟩
 |mit t last es=>
  simp only[OR]at h;obtain⟨i',fs,vis,h1,_,h2,_⟩:=h
  rw[hk]at h1;injection h1 with h1;subst h1
  exact⟨_,h2⟩
 |bld ty b=>
  simp only[OR]at h;obtain⟨i',a,c,h1,h2,h3⟩:=h
  rw[hk]at h1;injection h1 with h1;subst h1
  exact⟨_,h2⟩
 |gone=>exact hl.elim
 |rig=>simp only[OR]at h;rw[h.1]at hk;cases hk
 |deep ty q xs hh=>
  simp only[OR]at h;obtain⟨h1,h3⟩:=h;rw[hk]at h3;obtain⟨ver,cp,fps,k1,k2,k3⟩:=h3;exact⟨_,k2⟩
theorem OR.lt{L:List (Option yz4)}{sl:Slot}{o:TO D.T}{i:Nat}(h:OR D ρ lv L sl o)(hl:o.live)(hk:sl.k=some i):i<L.length:=by
 obtain⟨a,ha⟩:=h.at hl hk;exact(Qaa.1 ha).1
theorem TRr.at(hR:TRr D F ρ ts σ){s i:Nat}{o:TO D.T}{sl:Slot}(ho:fnd ts.o s=some o)(hl:o.live)(hs:ρ[s]? = some sl)(hk:sl.has i):∃a,σ.H.L[i]? = some (some a):=by
 rcases hk with hk|hk
 obtain⟨q,h1,h2⟩:=hR.ob s o ho
 rw[hs]at h1;injection h1 with h1;subst h1
 exact h2.at hl hk;exact(hR.fpl s o sl i ho hl hs hk).2
theorem TRr.lt(hR:TRr D F ρ ts σ){s i:Nat}{o:TO D.T}{sl:Slot}(ho:fnd ts.o s=some o)(hl:o.live)(hs:ρ[s]? = some sl)(hk:sl.has i):i<σ.H.L.length:=by
 obtain⟨a,ha⟩:=hR.at ho hl hs hk;exact(Qaa.1 ha).1
theorem Slot.z9t{sl:Slot}(h:sl.fp=[]){i:Nat}(hk:sl.has i):sl.k=some i:=by
 rcases hk with hk|hk
 exact hk;rw[h]at hk;cases hk
theorem TRr.new(hR:TRr D F ρ ts σ)(to:TO D.T)(sl:Slot)(H':zz2)(hlv:H'.lv=F.lv)(hE:H'.E=F.E)(hlen:σ.H.L.length<=H'.L.length)(hL:∀i,i<σ.H.L.length->H'.L[i]? = σ.H.L[i]?)
  (hk:∀i,sl.k=some i->σ.H.L.length<=i) (hor:OR D (ρ++[sl]) F.lv H'.L sl to) (hfp:sl.fp=[]:=by rfl):TRr D F (ρ++[sl]) (ts.new D to) {σ with H:=H'}:=by
 have hget:(ρ++[sl])[ts.nx]? = some sl:=by rw[<-hR.nx];simp
 have old:∀s o sl',fnd ts.o s=some o->ρ[s]? = some sl'->∀i,sl'.has i->o.live->i<σ.H.L.length:=λs o sl' ho hs i hi hl=>hR.lt ho hl hs hi
 have hlk:∀s o,ts.nx≠s->fnd (ts.new D to).o s=some o->fnd ts.o s=some o:=λs o hne h=>by
  simp only[TS.new,yz6,Qbs hne]at h;exact h
 have hslot:∀s o sl',fnd ts.o s=some o->(ρ++[sl])[s]? = some sl'->ρ[s]? = some sl':=λs o sl' ho h=>by
  obtain⟨q,h1,h2⟩:=hR.ob s o ho;rw[lookup_append h1]at h;rw[h1,h]
 refine⟨by simp[TS.new,hR.nx],hR.nt,λj x hj =>?_,λs o ho =>?_,λs s' o o' sl1 sl2 i h1 h2 l1 l2 r1 r2 k1 k2 =>?_,λs o sl1 i h1 l1 r1 k1 =>?_,hlv,hE,hR.e0,hR.d.more _,λi hi =>?_,λj sl hj=>lookup_append (hR.pin j sl hj),λs o sl1 i h1 l1 r1 k1 =>?_,λi s v h1 h2=>(hR.g i s v h1 h2).more _⟩;obtain⟨v,h1,h2⟩:=hR.tm j x hj;exact⟨v,h1,h2.more _⟩;by_cases hs:ts.nx=s;subst hs
 simp only[TS.new,yz6,if_true,Qbo]at ho;subst ho;exact⟨sl,hget,hor⟩;obtain⟨q,h1,h2⟩:=hR.ob s o (hlk s o hs ho);exact⟨q,lookup_append h1,h2.mono _ λi hi hl=>hL i (hR.lt (hlk s o hs ho) hl h1 hi)⟩;by_cases hs:ts.nx=s <;> by_cases hs':ts.nx=s'
 rw[<-hs,<-hs'];subst hs
 rw[hget]at r1;injection r1 with r1;subst r1
 have hq:=hlk s' o' hs' h2;have:=old s' o' sl2 hq (hslot s' o' sl2 hq r2) i k2 l2;have:=hk i (Slot.z9t hfp k1);omega;subst hs'
 rw[hget]at r2;injection r2 with r2;subst r2
 have hq:=hlk s o hs h1;have:=old s o sl1 hq (hslot s o sl1 hq r1) i k1 l1;have:=hk i (Slot.z9t hfp k2);omega;have q1:=hlk s o hs h1;have q2:=hlk s' o' hs' h2;exact hR.inj s s' o o' sl1 sl2 i q1 q2 l1 l2 (hslot s o sl1 q1 r1) (hslot s' o' sl2 q2 r2) k1 k2;by_cases hs:ts.nx=s;subst hs
 rw[hget]at r1;injection r1 with r1;subst r1
 intro ho;have:=(hR.out i ho).1;have:=hk i (Slot.z9t hfp k1);omega;have q1:=hlk s o hs h1;exact hR.mine s o sl1 i q1 l1 (hslot s o sl1 q1 r1) k1;obtain⟨h1,h2⟩:=hR.out i hi;exact⟨Qbg h1 hlen,(hL i h1).trans h2⟩;by_cases hs:ts.nx=s;subst hs
 rw[hget]at r1;injection r1 with r1;subst r1
 rw[hfp]at k1;cases k1;have q1:=hlk s o hs h1;have r:=hslot s o sl1 q1 r1;obtain⟨hne,a,ha⟩:=hR.fpl s o sl1 i q1 l1 r k1;exact⟨hne,a,by rw[hL i (Qaa.1 ha).1];exact ha⟩
theorem TRr.more(hR:TRr D F ρ ts σ)(to:TO D.T)(sl:Slot)(hk:∀i,sl.k=some i->¬F.out i∧∀s o sl',fnd ts.o s=some o->o.live->ρ[s]? = some sl'->¬sl'.has i)(hor:OR D (ρ++[sl]) F.lv σ.H.L sl to)(hfp:sl.fp=[]:=by rfl):TRr D F (ρ++[sl]) (ts.new D to) σ:=by
 have hget:(ρ++[sl])[ts.nx]? = some sl:=by rw[<-hR.nx];simp
 have hlk:∀s o,ts.nx≠s->fnd (ts.new D to).o s=some o->fnd ts.o s=some o:=λs o hne h=>by
  simp only[TS.new,yz6,Qbs hne]at h;exact h
 have hslot:∀s o sl',fnd ts.o s=some o->(ρ++[sl])[s]? = some sl'->ρ[s]? = some sl':=λs o sl' ho h=>by
  obtain⟨q,h1,h2⟩:=hR.ob s o ho;rw[lookup_append h1]at h;rw[h1,h]
 refine⟨by simp[TS.new,hR.nx],hR.nt,λj x hj =>?_,λs o ho =>?_,λs s' o o' sl1 sl2 i h1 h2 l1 l2 r1 r2 k1 k2 =>?_,λs o sl1 i h1 l1 r1 k1 =>?_,hR.lv,hR.E,hR.e0,hR.d.more _,hR.out,λj sl hj=>lookup_append (hR.pin j sl hj),λs o sl1 i h1 l1 r1 k1 =>?_,λi s v h1 h2=>(hR.g i s v h1 h2).more _⟩;obtain⟨v,h1,h2⟩:=hR.tm j x hj;exact⟨v,h1,h2.more _⟩;by_cases hs:ts.nx=s;subst hs
 simp only[TS.new,yz6,if_true,Qbo]at ho;subst ho;exact⟨sl,hget,hor⟩;obtain⟨q,h1,h2⟩:=hR.ob s o (hlk s o hs ho);exact⟨q,lookup_append h1,h2.mono _ λi hi hl=>rfl⟩;by_cases hs:ts.nx=s <;> by_cases hs':ts.nx=s'
 rw[<-hs,<-hs'];subst hs
 rw[hget]at r1;injection r1 with r1;subst r1
 have hq:=hlk s' o' hs' h2;exact((hk i (Slot.z9t hfp k1)).2 s' o' sl2 hq l2 (hslot s' o' sl2 hq r2) k2).elim;subst hs'
 rw[hget]at r2;injection r2 with r2;subst r2
 have hq:=hlk s o hs h1;exact((hk i (Slot.z9t hfp k2)).2 s o sl1 hq l1 (hslot s o sl1 hq r1) k1).elim;have q1:=hlk s o hs h1;have q2:=hlk s' o' hs' h2;exact hR.inj s s' o o' sl1 sl2 i q1 q2 l1 l2 (hslot s o sl1 q1 r1) (hslot s' o' sl2 q2 r2) k1 k2;by_cases hs:ts.nx=s;subst hs
 rw[hget]at r1;injection r1 with r1;subst r1
 exact(hk i (Slot.z9t hfp k1)).1;have q1:=hlk s o hs h1;exact hR.mine s o sl1 i q1 l1 (hslot s o sl1 q1 r1) k1;by_cases hs:ts.nx=s;subst hs
 rw[hget]at r1;injection r1 with r1;subst r1
 rw[hfp]at k1;cases k1;have q1:=hlk s o hs h1;exact hR.fpl s o sl1 i q1 l1 (hslot s o sl1 q1 r1) k1
theorem zws{L:List (Option yz4)}{i j:Nat}(h:∃a,L[j]? = some (some a))(ao:yz4):∃a,(L.set i (some ao))[j]? = some (some a):=by
 obtain⟨a,ha⟩:=h;by_cases e:i=j;subst e;exact⟨ao,Qaq (Qaa.1 ha).1⟩;exact⟨a,by rw[Qam e];exact ha⟩
theorem TRr.upd(hR:TRr D F ρ ts σ){s i:Nat}{o0:TO D.T}{sl:Slot}(hs:fnd ts.o s=some o0)(hl:o0.live)(hr:ρ[s]? = some sl)(hk:sl.k=some i)(to:TO D.T)(ao:yz4)
  (hor:OR D ρ F.lv (σ.H.L.set i (some ao)) sl to):TRr D F ρ (ts.set D s to) {σ with H:={σ.H with L:=σ.H.L.set i (some ao)}}:=by
 have hlk:∀s' o,s≠s'->fnd (ts.set D s to).o s'=some o->fnd ts.o s'=some o:=λs' o hne h=>by
  simp only[TS.set,yz6,Qbs hne]at h;exact h
 have live':∀s' o,fnd (ts.set D s to).o s'=some o->o.live->∃o',fnd ts.o s'=some o'∧o'.live:=λs' o h l=>by
  by_cases he:s=s';subst he;exact⟨o0,hs,hl⟩;exact⟨o,hlk s' o he h,l⟩
 refine⟨hR.nx,hR.nt,hR.tm,λs' o ho =>?_,λs1 s2 o1 o2 sl1 sl2 i' h1 h2 l1 l2 r1 r2 k1 k2 =>?_,λs1 o1 sl1 i1 h1 l1 r1 k1 =>?_,hR.lv,hR.E,hR.e0,hR.d,λj hj =>?_,hR.pin,λs1 o1 sl1 i1 h1 l1 r1 k1 =>?_,hR.g⟩;by_cases he:s=s';subst he;simp only[TS.set,yz6,if_true,Qbo]at ho;subst ho;exact⟨sl,hr,hor⟩;have hq:=hlk s' o he ho;obtain⟨q,h1,h2⟩:=hR.ob s' o hq;refine⟨q,h1,?_⟩
 have:=h2.mono (L':=σ.H.L.set i (some ao)) [] λj hj hl' =>?_
 simpa using this
 have hne:i≠j:=λe=>by
  subst e;exact he (hR.inj s s' o0 o sl q i hs hq hl hl' hr h1 (.inl hk) hj)
 rw[Qam hne];obtain⟨o1',q1,l1'⟩:=live' s1 o1 h1 l1;obtain⟨o2',q2,l2'⟩:=live' s2 o2 h2 l2;exact hR.inj s1 s2 o1' o2' sl1 sl2 i' q1 q2 l1' l2' r1 r2 k1 k2;obtain⟨o1',q1,l1'⟩:=live' s1 o1 h1 l1;exact hR.mine s1 o1' sl1 i1 q1 l1' r1 k1;obtain⟨h1,h2⟩:=hR.out j hj;refine⟨by simpa using h1,?_⟩;have hne:i≠j:=λe=>by subst e;exact hR.mine s o0 sl i hs hl hr (.inl hk) hj
 show(σ.H.L.set i (some ao))[j]? = _;rw[Qam hne];exact h2;obtain⟨o1',q1,l1'⟩:=live' s1 o1 h1 l1;have hq:=hR.fpl s1 o1' sl1 i1 q1 l1' r1 k1;exact⟨hq.1,zws hq.2 ao⟩
theorem TRr.move(hR:TRr D F ρ ts σ){s i:Nat}{o0:TO D.T}{sl:Slot}(hs:fnd ts.o s=some o0)(hl:o0.live)(hr:ρ[s]? = some sl)(hk:sl.k=some i)(to:TO D.T)(ao:yz4)(sl':Slot)(hk':sl'.k=some i)
  (hor:OR D (ρ++[sl']) F.lv (σ.H.L.set i (some ao)) sl' to) (hfp:∀x,x∈sl'.fp->x∈sl.fp:=by exact λ_ h=>by cases h):TRr D F (ρ++[sl']) ((ts.new D to).set D s .gone) {σ with H:={σ.H with L:=σ.H.L.set i (some ao)}}:=by
 have hsub:∀x,sl'.has x->sl.has x:=λx h=>h.elim (λh=>.inl (by rw[<-h,hk',hk])) λh=>.inr (hfp x h)
 have hget:(ρ++[sl'])[ts.nx]? = some sl':=by rw[<-hR.nx];simp
 have hsn:s≠ts.nx:=λe=>by
  have:=(Qaa.1 hr).1;rw[hR.nx,e]at this;omega
 have hlk:∀s' o,o.live->fnd ((ts.new D to).set D s .gone).o s'=some o->s≠s'∧((ts.nx=s'∧o=to)∨(ts.nx≠s'∧fnd ts.o s'=some o)):=λs' o hlo h=>by
  by_cases he:s=s';subst he;simp only[TS.set,yz6,if_true,Qbo]at h;subst h;exact hlo.elim;simp only[TS.set,TS.new,yz6,Qbs he]at h;by_cases hn:ts.nx=s'
  rw[Qbr hn]at h;injection h with h;exact⟨he,.inl ⟨hn,h.symm⟩⟩
  rw[Qbs hn]at h;exact⟨he,.inr ⟨hn,h⟩⟩
 have hslot:∀s o sl1,fnd ts.o s=some o->(ρ++[sl'])[s]? = some sl1->ρ[s]? = some sl1:=λs o sl1 ho h=>by
  obtain⟨q,h1,h2⟩:=hR.ob s o ho;rw[lookup_append h1]at h;rw[h1,h]
 refine⟨by simp[TS.new,TS.set,hR.nx],hR.nt,λj x hj =>?_,λs' o ho =>?_,λs1 s2 o1 o2 sl1 sl2 i' h1 h2 l1 l2 r1 r2 k1 k2 =>?_,λs1 o1 sl1 i1 h1 l1 r1 k1 =>?_,hR.lv,hR.E,hR.e0,hR.d.more _,λj hj =>?_,λj sl hj=>lookup_append (hR.pin j sl hj),λs1 o1 sl1 i1 h1 l1 r1 k1 =>?_,λi s v h1 h2=>(hR.g i s v h1 h2).more _⟩;obtain⟨v,h1,h2⟩:=hR.tm j x hj;exact⟨v,h1,h2.more _⟩;by_cases hlo:o.live
 rcases(hlk s' o hlo ho).2 with ⟨hn,rfl⟩|⟨hn,hq⟩
 subst hn;exact⟨sl',hget,hor⟩;obtain⟨q,h1,h2⟩:=hR.ob s' o hq;refine⟨q,lookup_append h1,h2.mono [sl'] λj hj hl' =>?_⟩
 have hne:i≠j:=λe=>by
  subst e;exact(hlk s' o hlo ho).1 (hR.inj s s' o0 o sl q i hs hq hl hl' hr h1 (.inl hk) hj)
 rw[Qam hne];have hg:o = .gone:=by cases o <;> first|rfl|exact(hlo trivial).elim
 subst hg;by_cases he:s=s';subst he;exact⟨sl,lookup_append hr,by simp only[OR]⟩;simp only[TS.set,TS.new,yz6,Qbs he]at ho;by_cases hn:ts.nx=s';subst hn;exact⟨sl',hget,by simp only[OR]⟩;rw[Qbs hn]at ho;obtain⟨q,h1,h2⟩:=hR.ob s' _ ho;exact⟨q,lookup_append h1,by simp only[OR]⟩;obtain⟨n1,c1⟩:=hlk s1 o1 l1 h1;obtain⟨n2,c2⟩:=hlk s2 o2 l2 h2
 rcases c1 with ⟨e1,rfl⟩|⟨e1,q1⟩ <;> rcases c2 with ⟨e2,rfl⟩|⟨e2,q2⟩
 rw[<-e1,<-e2];subst e1
 rw[hget]at r1;injection r1 with r1;subst r1
 exact(n2 (hR.inj s s2 o0 o2 sl sl2 i' hs q2 hl l2 hr (hslot _ _ _ q2 r2) (hsub _ k1) k2)).elim;subst e2
 rw[hget]at r2;injection r2 with r2;subst r2
 exact(n1 (hR.inj s s1 o0 o1 sl sl1 i' hs q1 hl l1 hr (hslot _ _ _ q1 r1) (hsub _ k2) k1)).elim;exact hR.inj s1 s2 o1 o2 sl1 sl2 i' q1 q2 l1 l2 (hslot _ _ _ q1 r1) (hslot _ _ _ q2 r2) k1 k2;obtain⟨n1,c1⟩:=hlk s1 o1 l1 h1
 rcases c1 with ⟨e1,rfl⟩|⟨e1,q1⟩
 subst e1
 rw[hget]at r1;injection r1 with r1;subst r1
 exact hR.mine s o0 sl i1 hs hl hr (hsub _ k1);exact hR.mine s1 o1 sl1 i1 q1 l1 (hslot _ _ _ q1 r1) k1;obtain⟨h1,h2⟩:=hR.out j hj;refine⟨by simpa using h1,?_⟩;have hne:i≠j:=λe=>by subst e;exact hR.mine s o0 sl i hs hl hr (.inl hk) hj
 show(σ.H.L.set i (some ao))[j]? = _;rw[Qam hne];exact h2;obtain⟨n1,c1⟩:=hlk s1 o1 l1 h1
 rcases c1 with ⟨e1,rfl⟩|⟨e1,q1⟩
 subst e1
 rw[hget]at r1;injection r1 with r1;subst r1
 have hq:=hR.fpl s o0 sl i1 hs hl hr (hfp _ k1);exact⟨by rw[hk',<-hk];exact hq.1,zws hq.2 ao⟩;have hq:=hR.fpl s1 o1 sl1 i1 q1 l1 (hslot _ _ _ q1 r1) k1;exact⟨hq.1,zws hq.2 ao⟩
theorem TRr.drop(hR:TRr D F ρ ts σ)(s:Nat)(hs:s<ts.nx):TRr D F ρ (ts.set D s .gone) σ:=by
 have hlk:∀s' o,o.live->fnd (ts.set D s .gone).o s'=some o->fnd ts.o s'=some o:=λs' o hl h=>by
  simp only[TS.set,yz6]at h;split at h;injection h with h;subst h;exact hl.elim;exact h
 refine⟨hR.nx,hR.nt,hR.tm,λs' o ho =>?_,λs1 s2 o1 o2 sl1 sl2 i' h1 h2 l1 l2=>hR.inj s1 s2 o1 o2 sl1 sl2 i' (hlk _ _ l1 h1) (hlk _ _ l2 h2) l1 l2,λs1 o1 sl1 i1 h1 l1=>hR.mine s1 o1 sl1 i1 (hlk _ _ l1 h1) l1,hR.lv,hR.E,hR.e0,hR.d,hR.out,hR.pin,λs1 o1 sl1 i1 h1 l1=>hR.fpl s1 o1 sl1 i1 (hlk _ _ l1 h1) l1,hR.g⟩;simp only[TS.set,yz6]at ho;split at ho;rename_i he;injection ho with ho;subst ho;subst he
 have:s<ρ.length:=by rw[hR.nx];exact hs
 exact⟨ρ[s],Qab this,by simp only[OR]⟩;exact hR.ob s' o ho
mutual
theorem VR.ren{s s':Nat}{sl sl':Slot}(h1:ρ[s]? = some sl)(h2:ρ[s']? = some sl')(he:sl'.v=sl.v):∀{x:TV D.T}{v:V},VR D ρ lv x v->VR D ρ lv (TV.ren D s s' x) v
 |.own j,v,h=>by
  simp only[TV.ren];split;rename_i hj;subst hj;simp only[VR]at h ⊢;obtain⟨q,k1,k2,k3⟩:=h
  rw[h1]at k1;injection k1 with k1;subst k1
  exact⟨sl',h2,by rw[he];exact k2,k3⟩
  exact h
 |.dp j i off,v,h=>by
  simp only[TV.ren];split;rename_i hj;subst hj;simp only[VR]at h ⊢;obtain⟨q,j',ver,m,k1,k2⟩:=h
  rw[h1]at k1;injection k1 with k1;subst k1
  exact⟨sl',j',ver,m,h2,by rw[he];exact k2⟩
  exact h
 |.bsl q cs,v,h=>by simp only[TV.ren,VR]at h ⊢;obtain⟨vs,k1,k2⟩:=h;exact⟨vs,k1,VRL.ren h1 h2 he k2⟩
 |.agg cs,v,h=>by simp only[TV.ren,VR]at h ⊢;obtain⟨vs,k1,k2⟩:=h;exact⟨vs,k1,VRL.ren h1 h2 he k2⟩
 |.tup cs,v,h=>by simp only[TV.ren,VR]at h ⊢;obtain⟨vs,k1,k2⟩:=h;exact⟨vs,k1,VRL.ren h1 h2 he k2⟩
 |.any,v,h=>by simpa only[TV.ren]using h
 |.bool b,v,h=>by simpa only[TV.ren]using h
 |.int k n,v,h=>by simpa only[TV.ren]using h
 |.str b,v,h=>by simpa only[TV.ren]using h
 |.nilp,v,h=>by simpa only[TV.ren]using h
 |.nils,v,h=>by simpa only[TV.ren]using h
 |.mapn,v,h=>by simpa only[TV.ren]using h
 |.nilf,v,h=>by simpa only[TV.ren]using h
 |.nili,v,h=>by simpa only[TV.ren]using h
 |.sl t xs fl,v,h=>by simpa only[TV.ren]using h
 |.ptr j off,v,h=>by simpa only[TV.ren]using h
 |.bp j off,v,h=>by simpa only[TV.ren]using h
 |.osl j lo,v,h=>by simpa only[TV.ren]using h
 |.map j,v,h=>by simpa only[TV.ren]using h
 |.mc t es,v,h=>by simpa only[TV.ren]using h
 |.ref cs off,v,h=>by simpa only[TV.ren]using h
 |.ap j t i x off,v,h=>by simpa only[TV.ren]using h
 |.fn f a b,v,h=>by simpa only[TV.ren]using h
 |.iface t x,v,h=>by simpa only[TV.ren]using h
theorem VRL.ren{s s':Nat}{sl sl':Slot}(h1:ρ[s]? = some sl)(h2:ρ[s']? = some sl')(he:sl'.v=sl.v):∀{cs:List (TV D.T)}{vs:List V},VRL D ρ lv cs vs->VRL D ρ lv (TV.zcn D s s' cs) vs
 |[],vs,h=>by simpa only[TV.zcn]using h
 |c::cs,vs,h=>by simp only[TV.zcn,VRL]at h ⊢;obtain⟨v,r,k1,k2,k3⟩:=h;exact⟨v,r,k1,VR.ren h1 h2 he k2,VRL.ren h1 h2 he k3⟩
end
theorem zyv{ρ ρ':List Slot}{g:List (Option Nat)}{f:TV D.T->TV D.T}{i s:Nat}{v:V}(hf:∀s0 s',f (.own s0) = .own s'->∀u,VR D ρ lv (.own s0) u->VR D ρ' lv (.own s') u)(hg:∀s0,g[i]? = some (some s0)->VR D ρ lv (.own s0) v)(h:(g.map (gmap D f))[i]? = some (some s)):VR D ρ' lv (.own s) v:=by
 rw[Qan,Qaf]at h;obtain⟨o,h1,h2⟩:=h
 cases o with
 |none=>cases h2
 |some s0=>
  simp only[gmap]at h2;split at h2;rename_i s' e;injection h2 with h2;subst h2;exact hf s0 s' e v (hg s0 h1);cases h2
theorem TRr.z3p(hR:TRr D F ρ ts σ)(f:TV D.T->TV D.T)(hf:∀x v,VR D ρ F.lv x v->VR D ρ F.lv (f x) v):TRr D F ρ (ts.z3p D f) σ:=by
 have hlive:∀o:TO D.T,(TO.map D f o).live->o.live:=λo h=>by cases o <;> first|exact h|trivial
 have hob:∀s o,fnd (ts.z3p D f).o s=some o->∃o',fnd ts.o s=some o'∧o=TO.map D f o':=λs o h=>by
  simp only[TS.z3p]at h;rw[z8b (TO.map D f),Qaf]at h;obtain⟨o',h1,h2⟩:=h;exact⟨o',h1,h2.symm⟩
 refine⟨hR.nx,hR.nt,λj x hj =>?_,λs o ho =>?_,λs1 s2 o1 o2 sl1 sl2 i h1 h2 l1 l2 =>?_,λs1 o1 sl1 i h1 l1 =>?_,hR.lv,hR.E,hR.e0,hR.d.imp _ (λxs vs k=>VRL.of (by simp[k.length]) λj c v hc hv=>by
  rw[Qan,Qaf]at hc;obtain⟨c0,hc0,rfl⟩:=hc
  exact hf _ _ (k.zg7 hc0 hv)),hR.out,hR.pin,λs1 o1 sl1 i h1 l1 =>?_,λi s v h1 h2=>zyv (λs0 s' e u hu=>by have:=hf _ _ hu;rwa[e]at this) (λs0 e=>hR.g i s0 v e h2) h1⟩
 simp only[TS.z3p]at hj;rw[z8b f,Qaf]at hj;obtain⟨y,hy,rfl⟩:=hj;obtain⟨v,h1,h2⟩:=hR.tm j y hy;exact⟨v,h1,hf _ _ h2⟩;obtain⟨o',h1,rfl⟩:=hob s o ho;obtain⟨sl,k1,k2⟩:=hR.ob s o' h1;refine⟨sl,k1,?_⟩
 cases o' with
 |cells cs=>
  simp only[TO.map,OR]at k2 ⊢;obtain⟨i,vs,q1,q2,q3⟩:=k2;refine⟨i,vs,q1,q2,.of (by simp[q3.length]) λj c v hc hv =>?_⟩;rw[Qan,Qaf]at hc;obtain⟨c',hc',rfl⟩:=hc
  exact hf _ _ (q3.zg7 hc' hv)
 |acc ty t xs w=>exact k2
 |siter s pos=>exact k2
 |rig=>exact k2
 |mp ty t es=>exact k2
 |mit t last es=>exact k2
 |bld ty b=>
  cases b with
  |none=>exact k2
  |some q=>
   simp only[OR]at k2;obtain⟨i,a,c,q1,q2,q3,q4⟩:=k2;have h5:VR D ρ F.lv (f (.own q)) c:=hf _ _ q4;simp only[TO.map];split;rename_i s' hs';rw[hs']at h5;simp only[OR];exact⟨i,a,c,q1,q2,q3,h5⟩
   simp only[OR]
 |gone=>exact k2
 |deep ty q xs hh=>
  cases hh with
  |none=>exact k2
  |some p=>
   obtain⟨n,c,s0⟩:=p;simp only[TO.map];split;rename_i s1 hs1;simp only[OR]at k2 ⊢;refine⟨k2.1,?_⟩;have k3:=k2.2
   cases hk:sl.k with
   |none=>rw[hk]at k3;cases k3.2.2.2
   |some j=>
    rw[hk]at k3;obtain⟨ver,cp,fps,a1,a2,a3,a4,a5,a6,a7⟩:=k3;refine⟨ver,cp,fps,a1,a2,a3,a4,a5,λm x w b e1 e2 e3 =>?_,λn' f' s' e =>?_⟩;obtain⟨vs,cs,b1,b2,b3,b4,b5⟩:=a6 m x w b e1 e2 e3;refine⟨vs,cs,b1,b2,b3,b4,λf p u d g1 g2 g3 =>?_⟩;have:=b5 f p u d g1 g2 g3;unfold yzq at this ⊢;simp only at this ⊢;split at this;rename_i s2 hs2;split at hs2;rename_i hc;injection hs2 with hs2;subst hs2;rw[Qbr hc]
    obtain⟨d1,d2,hlf,sl2,d3,d4⟩:=this;have h5:=hf (.own s0) u (by simp only[VR];exact⟨sl2,d3,d4,hlf⟩);rw[hs1]at h5;simp only[VR]at h5;obtain⟨sl3,d5,d6,_⟩:=h5;exact⟨d1,d2,hlf,sl3,d5,d6⟩;cases hs2;rename_i hs2;split at hs2;cases hs2;rename_i hc;rw[Qbs hc];exact this;simp only[Qbo,Qbt]at e;obtain⟨rfl,rfl,rfl⟩:=e;exact a7 n c s0 rfl
   simp only[OR]
 obtain⟨o1',q1,rfl⟩:=hob s1 o1 h1;obtain⟨o2',q2,rfl⟩:=hob s2 o2 h2;exact hR.inj s1 s2 o1' o2' sl1 sl2 i q1 q2 (hlive _ l1) (hlive _ l2);obtain⟨o1',q1,rfl⟩:=hob s1 o1 h1;exact hR.mine s1 o1' sl1 i q1 (hlive _ l1);obtain⟨o1',q1,rfl⟩:=hob s1 o1 h1;exact hR.fpl s1 o1' sl1 i q1 (hlive _ l1)
theorem TRr.put(hR:TRr D F ρ ts σ){dst:Option Nat}{x:TV D.T}{v:V}{ts':TS D.T}(h:ts.put D dst x=some ts')(hx:VR D ρ F.lv x v):TRr D F ρ ts' (σ.put dst v):=by
 cases dst with
 |none=>simp only[TS.put,Qbo]at h;subst h;exact hR
 |some d=>
  simp only[TS.put]at h;split at h;rename_i hd;injection h with h;subst h;refine⟨hR.nx,by simp[St.put,hR.nt],λj y hj =>?_,hR.ob,hR.inj,hR.mine,hR.lv,hR.E,hR.e0,hR.d,hR.out,hR.pin,hR.fpl,hR.g⟩;rw[yz6]at hj;simp only[St.put];split at hj;rename_i he;injection hj with hj;subst hj;subst he;exact⟨v,by rw[Qaq (by rw[hR.nt];exact hd)],hx⟩;rename_i he;obtain⟨u,h1,h2⟩:=hR.tm j y hj
  exact⟨u,by rw[Qam he];exact h1,h2⟩;cases h
theorem TRr.tell(hR:TRr D F ρ ts σ){d:Nat}{x:TV D.T}{v:V}(h:σ.t[d]? = some v)(hx:VR D ρ F.lv x v):TRr D F ρ {ts with t:=(d,x)::ts.t} σ:=by
 refine⟨hR.nx,hR.nt,λj y hj =>?_,hR.ob,hR.inj,hR.mine,hR.lv,hR.E,hR.e0,hR.d,hR.out,hR.pin,hR.fpl,hR.g⟩;rw[yz6]at hj;split at hj
 rename_i he;injection hj with hj;subst hj;subst he;exact⟨v,h,hx⟩
 exact hR.tm j y hj
end
section
variable {P : Program} {D : Dat}
theorem zi7:∀{l:List DTy}{cs:List (TV D.T)}{z:HL D.T l},z2i D l cs = .ok z->∀(j:Nat) (p:(t:DTy)×t.S D.T),HL.nth l z j=some p->∃c,cs[j]? = some c∧z6s D p.1 c = .ok p.2
 |[],cs,z,h,j,p,hp=>by simp[HL.nth]at hp
 |t::l,[],z,h,j,p,hp=>by simp[z2i]at h
 |t::l,c::cs,z,h,j,p,hp=>by
  simp only[z2i]at h;split at h;rename_i y hy;split at h;rename_i ys hys;injection h with h;subst h
  cases j with
  |zero=>simp only[HL.nth,Qbo]at hp;subst hp;exact⟨c,rfl,hy⟩
  |succ j=>
   obtain⟨c',h1,h2⟩:=zi7 hys j p hp;exact⟨c',by simpa using h1,h2⟩
  cases h;cases h;cases h;cases h
theorem ztx{t:DTy}{x y:t.S D.T}(h:z6s D t (D.leaf t x) = .ok y):y=x:=by
 cases t with
 |bool=>simp only[Dat.leaf,z6s]at h;injection h with h;exact h.symm
 |int k=>simp only[Dat.leaf,z6s,if_true]at h;injection h with h;exact h.symm
 |str=>simp only[Dat.leaf,z6s]at h;injection h with h;exact h.symm
 |nat=>simp[Dat.leaf,z6s]at h
 |st i=>simp[Dat.leaf,z6s]at h
 |sl t=>
  simp only[Dat.leaf,z6s,z3v,dite_true,FR.of]at h;injection h with h;exact h.symm
end
theorem z3e:∀(l:List (List Nat)) (n:Nat) (c a c':List Nat),l[n]? = some c->c.Perm (a++c')->l.flatten.Perm (a++(l.set n c').flatten)
 |[],n,c,a,c',h,_=>by simp at h
 |x::l,0,c,a,c',h,hp=>by
  simp at h;subst h;simp only[List.set_cons_zero,List.flatten_cons,<-Qaz]
  exact hp.append_right _
 |x::l,n+1,c,a,c',h,hp=>by
  simp only[List.set_cons_succ,List.flatten_cons];refine((z3e l n c a c' (by simpa using h) hp).append_left x).trans ?_;rw[<-Qaz,<-Qaz];exact List.perm_append_comm.append_right _
section
variable {P : Program} {D : Dat} {F : Fr} {ρ : List Slot} {ts : TS D.T} {σ : St} {lv : Nat} {L : List (Option yz4)}
def za8(D:Dat)(ρ:List Slot)(lv:Nat)(L:List (Option yz4))(q f:Nat)(hole:Option (Nat×Nat))(p:(t:DTy)×t.S D.T)(u:V):Prop :=
 match (match hole with|some (f',c)=>(if f'=f then some c else none)|none=>none)with
 |some c=>(D.ow q f).isSome=true∧u.leaf=true∧∃sl,ρ[c]? = some sl∧u=sl.v
 |none=>DO D lv L (y0g (D.ow q f)) p.1 p.2 u []
theorem za5{q:Nat}:∀{l:List DTy}{cs:List (TV D.T)}{vs:List V}{f0:Nat}{r:HL D.T l×Option (Nat×Nat)},zk6 D q l cs f0 = .ok r->VRL D ρ lv cs vs ->
  cs.length=l.length∧(∀g c,r.2=some (g,c)->f0<=g∧g<f0+l.length)∧∀(f:Nat) (p:(t:DTy)×t.S D.T) (u:V),HL.nth l r.1 f=some p->vs[f]? = some u->za8 D ρ lv L q (f0+f) r.2 p u
 |[],[],vs,f0,r,h,hv=>by
  cases h
  exact⟨rfl,λg c e=>(by cases e),λf p u hp=>(by simp[HL.nth]at hp)⟩
 |[],c::cs,vs,f0,r,h,hv=>by cases h
 |t::l,[],vs,f0,r,h,hv=>by cases h
 |t::l,c::cs,vs,f0,r,h,hv=>by
  simp only[VRL]at hv;obtain⟨v,us,rfl,hv1,hv2⟩:=hv;unfold zk6 at h;split at h;rename_i how;split at h;rename_i x hx;split at h;rename_i r' hr';injection h with h;subst h;obtain⟨a1,a2,a3⟩:=za5 hr' hv2;refine⟨by simp[a1],λg c' e=>by have:=a2 g c' e;simp only[List.length_cons];omega,λf p u hp hu =>?_⟩
  cases f with
  |zero=>
   simp only[HL.nth,Qbo]at hp;simp only[Qbw,Qbo]at hu;subst hp;subst hu;unfold za8
   have hno:(match r'.2 with|some (f',c)=>(if f'=f0+0 then some c else none)|none=>none)=none:=by
    cases hh:r'.2 with
    |none=>rfl
    |some g=>have:=a2 g.1 g.2 hh;simp only;rw[Qbs (by omega)]
   simp only[hno];rw[Nat.add_zero,how]
   exact .dat (z8l hx hv1)
  |succ f=>
   have:=a3 f p u (by simpa[HL.nth]using hp) (by simpa using hu);rw[show f0+(f+1)=f0+1+f by omega];exact this
  cases h;cases h;cases h;cases h;rename_i ty how;split at h;rename_i r' hr';obtain⟨a1,a2,a3⟩:=za5 hr' hv2
  have hno:(match r'.2 with|some (f',c)=>(if f'=f0+0 then some c else none)|none=>none)=none:=by
   cases hh:r'.2 with
   |none=>rfl
   |some g=>have:=a2 g.1 g.2 hh;simp only;rw[Qbs (by omega)]
  split at h;rename_i x hn;injection h with h;subst h;refine⟨by simp[a1],λg c' e=>by have:=a2 g c' e;simp only[List.length_cons];omega,λf p u hp hu =>?_⟩
  cases f with
  |zero=>
   simp only[HL.nth,Qbo]at hp;simp only[Qbw,Qbo]at hu;subst hp;subst hu;unfold za8;simp only[hno];rw[Nat.add_zero,how];unfold y4f at hn;split at hn;injection hn with hn;injection hn with hn;subst hn;simp only[VR]at hv1;subst hv1;exact .nil (.nil _) (.inl rfl);injection hn with hn;injection hn with _ hn;cases hn
   cases hn
  |succ f=>
   have:=a3 f p u (by simpa[HL.nth]using hp) (by simpa using hu);rw[show f0+(f+1)=f0+1+f by omega];exact this
  rename_i x c' hn;split at h;rename_i hr2;injection h with h;subst h;refine⟨by simp[a1],λg c2 e=>(by injection e with e;injection e with e1 e2;simp only[List.length_cons];omega),λf p u hp hu =>?_⟩
  cases f with
  |zero=>
   simp only[HL.nth,Qbo]at hp;simp only[Qbw,Qbo]at hu;subst hp;subst hu;unfold za8;simp only[Nat.add_zero,if_true];unfold y4f at hn;split at hn;injection hn with hn;injection hn with _ hn;cases hn;injection hn with hn;injection hn with _ hn;injection hn with hn;subst hn;simp only[VR]at hv1;obtain⟨sl,e1,e2,e3⟩:=hv1;exact⟨by rw[how];rfl,e3,sl,e1,e2⟩
   cases hn
  |succ f=>
   have:=a3 f p u (by simpa[HL.nth]using hp) (by simpa using hu);rw[show f0+(f+1)=f0+1+f by omega];unfold za8 at this ⊢;rw[hr2]at this;simp only at this ⊢;rw[Qbs (by omega)];exact this
  cases h;cases h;cases h;cases h
theorem y6c{q n:Nat}{x:HL D.T (D.fl q)}{hole:Option (Nat×Nat)}{i:Int}{us:List V}(hD:D.Ok P)(hi:i.toNat=n)(hl:us.length=(D.fl q).length)(h:∀(f:Nat) (p:(t:DTy)×t.S D.T) (u:V),HL.nth (D.fl q) x f=some p->us[f]? = some u->za8 D ρ lv L q f hole p u) :
  EO D ρ lv L q (hole.map λp=>(i,p.1,p.2)) n (D.make q x) (.agg us) []:=by
 have hr2:([]:List Nat)=(List.replicate (D.fl q).length ([]:List Nat)).flatten:=by
  symm;rw[List.flatten_eq_nil_iff];intro l hl;exact(List.mem_replicate.1 hl).2
 refine⟨us,List.replicate (D.fl q).length [],rfl,hl,by simp,hr2,λf p u b h1 h2 h3 =>?_⟩;rw[hD.getMake]at h1
 have hb:b=[]:=by
  rw[Qbl]at h3;split at h3;injection h3 with h3;exact h3.symm;cases h3
 subst hb;have:=h f p u h1 h2;unfold za8 at this
 cases hole with
 |none=>exact this
 |some g=>
  obtain⟨f',c⟩:=g;simp only[Qbn,yzq]at this ⊢;by_cases hf:f'=f;rw[Qbr ⟨hi,hf⟩];rw[Qbr hf]at this;exact⟨trivial,this⟩;rw[Qbs (λe=>hf e.2)];rw[Qbs hf]at this;exact this
theorem EO.zmu{q n:Nat}{x:D.T q}{w:V}{c:List Nat}(h:EO D ρ lv L q none n x w c)(hh:Option (Int×Nat×Nat))(hn:∀n' f' s',hh=some (n',f',s')->n'.toNat≠n):EO D ρ lv L q hh n x w c:=by
 obtain⟨vs,cs,a1,a2,a3,a4,a5⟩:=h;refine⟨vs,cs,a1,a2,a3,a4,λf p u b e1 e2 e3 =>?_⟩;have:=a5 f p u b e1 e2 e3
 have hno:yzq hh n f=none:=by
  cases hh with
  |none=>rfl
  |some g=>obtain⟨n',f',s'⟩:=g;simp only[yzq];rw[Qbs (λe=>hn _ _ _ rfl e.1)]
 rw[hno];exact this
end
end Go.Ab
