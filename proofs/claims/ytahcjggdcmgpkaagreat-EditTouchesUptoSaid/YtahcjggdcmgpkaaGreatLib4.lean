/-
  THE TYPED MACHINE: what its states say of abstract states; operations that turn nothing.
-/
import Derived.Test.YtahcjggdcmgpkaaGreatLib3
namespace Go.Ab
open Go
set_option linter.unusedVariables false
set_option linter.unusedSimpArgs false
structure Slot where
 v:V
 k:Option Nat
 ws:List V
def y94 {T:Nat->Type}:(t:DTy)->t.S T->PV
 | .bool,b=>.bool b
 | .int k,n=>.int k n
 | .str,s=>.str s
 |_,_=>.bool false
theorem z06g (D:Dat):∀{t:DTy},t.flat=true->∀x:t.S D.T,(y94 t x).v=D.el t x
 | .bool,_,_=>rfl
 | .int _,_,_=>rfl
 | .str,_,_=>rfl
section
variable (D : Dat) (ρ : List Slot) (lv : Nat)
mutual
def VR:TV D.T->V->Prop
 | .any,_=>True
 | .bool b,v=>v = .bool b
 | .int k n,v=>v = .int k n
 | .str s,v=>v = .str s
 | .nilp,v=>v = .nilp
 | .nils,v=>v = .nils
 | .mapn,v=>v = .mapn
 | .nilf,v=>v = .nilf
 | .nili,v=>v = .nili
 | .sl t xs fl,v=>DR D (.sl t) xs v∧(1<=fl->∃ws,v = .sl (D.len t) ws true)∧(fl=2->xs=[])
 | .own s,v=>∃sl,ρ[s]? = some sl∧v=sl.v∧v.leaf=true
 | .osl s lo,v=>∃sl j ver,ρ[s]? = some sl∧sl.k=some j∧sl.v = .hs lv j ver 0 sl.ws.length false∧0<=lo∧lo.toNat<=sl.ws.length∧(v = .hs lv j ver lo.toNat (sl.ws.length-lo.toNat) false∨(lo.toNat=sl.ws.length∧∃sz,v = .sl sz [] false))
 | .ptr s off,v=>∃sl i,ρ[s]? = some sl∧sl.k=some i∧v = .ptr lv i off
 | .bp s off,v=>∃sl i,ρ[s]? = some sl∧sl.k=some i∧v = .ap lv i 0 0 off
 | .map s,v=>∃sl i,ρ[s]? = some sl∧sl.k=some i∧v = .map lv i
 | .mc t es,v=>t.flat=true∧v = .mapc (es.map λp=>(.str p.1,y94 t p.2))
 | .ref cs off,v=>∃vs,v = .ref vs off∧VRL cs vs
 | .ap s t i x off,v=>∃sl w,ρ[s]? = some sl∧0<=i∧sl.ws[i.toNat]? = some w∧DR D t x w ∧
   (match sl.k with
   |none=>v = .ref w.cells off
   |some j=>∃ver n,sl.v = .hs lv j ver 0 n false∧v = .ap lv j ver i.toNat off)
 | .fn f a b,v=>∃as bs,v = .fn f as bs∧VRL a as∧VRL b bs
 | .iface t x,v=>∃y,v = .iface t y∧VR x y
 | .agg cs,v=>∃vs,v = .agg vs∧VRL cs vs
 | .tup cs,v=>∃vs,v = .tup vs∧VRL cs vs
def VRL:List (TV D.T)->List V->Prop
 |[],vs=>vs=[]
 |c::cs,vs=>∃v r,vs=v::r∧VR c v∧VRL cs r
end
end
section
variable {D : Dat} {ρ : List Slot} {lv : Nat}
theorem VRL.length:∀{cs:List (TV D.T)} {vs:List V},VRL D ρ lv cs vs->cs.length=vs.length
 |[],vs,h=>by simp only [VRL] at h;subst h;rfl
 |c::cs,vs,h=>by
  simp only [VRL] at h
  obtain ⟨v,r,rfl,_,h2⟩:=h
  simp [VRL.length h2]
theorem VRL.get:∀{cs:List (TV D.T)} {vs:List V},VRL D ρ lv cs vs->∀(j:Nat) (c:TV D.T),cs[j]? = some c->∃v,vs[j]? = some v∧VR D ρ lv c v
 |[],vs,h,j,c,hj=>by simp at hj
 |c::cs,vs,h,0,d,hj=>by
  simp only [VRL] at h
  obtain ⟨v,r,rfl,h1,h2⟩:=h
  simp at hj;subst hj
  exact ⟨v,rfl,h1⟩
 |c::cs,vs,h,j+1,d,hj=>by
  simp only [VRL] at h
  obtain ⟨v,r,rfl,h1,h2⟩:=h
  obtain ⟨u,hu,hr⟩:=VRL.get h2 j d (by simpa using hj)
  exact ⟨u,by simpa using hu,hr⟩
theorem VRL.of:∀{cs:List (TV D.T)} {vs:List V},cs.length=vs.length->(∀(j:Nat) (c:TV D.T) (v:V),cs[j]? = some c->vs[j]? = some v->VR D ρ lv c v)->VRL D ρ lv cs vs
 |[],[],_,_=>by simp [VRL]
 |[],v::vs,h,_=>by simp at h
 |c::cs,[],h,_=>by simp at h
 |c::cs,v::vs,h,k=>by
  simp only [VRL]
  exact ⟨v,vs,rfl,k 0 c v rfl rfl,VRL.of (by simpa using h) λj c' v' hc hv=>k (j+1) c' v' (by simpa using hc) (by simpa using hv)⟩
theorem VRL.ylf {cs:List (TV D.T)} {vs:List V} (h:VRL D ρ lv cs vs) {j:Nat} {c:TV D.T} {v:V} (hc:cs[j]? = some c) (hv:vs[j]? = some v):VR D ρ lv c v:=by
 obtain ⟨u,hu,hr⟩:=h.get j c hc
 rw [hv] at hu;injection hu with hu;subst hu;exact hr
theorem VRL.take {cs:List (TV D.T)} {vs:List V} (h:VRL D ρ lv cs vs) (n:Nat):VRL D ρ lv (cs.take n) (vs.take n) :=
 .of (by simp [h.length]) λj c v hc hv=>by
   rw [List.getElem?_take] at hc hv
   split at hc
   ·rw [if_pos ‹_›] at hv;exact h.ylf hc hv
   ·cases hc
theorem VRL.drop {cs:List (TV D.T)} {vs:List V} (h:VRL D ρ lv cs vs) (n:Nat):VRL D ρ lv (cs.drop n) (vs.drop n) :=
 .of (by simp [h.length]) λj c v hc hv=>by
   rw [List.getElem?_drop] at hc hv
   exact h.ylf hc hv
theorem VRL.append {a b:List (TV D.T)} {x y:List V} (h:VRL D ρ lv a x) (k:VRL D ρ lv b y):VRL D ρ lv (a++b) (x++y) :=
 .of (by simp [h.length,k.length]) λj c v hc hv=>by
   rw [List.getElem?_append] at hc hv
   rw [<-h.length] at hv
   split at hc
   ·rw [if_pos ‹_›] at hv;exact h.ylf hc hv
   ·rw [if_neg ‹_›] at hv;exact k.ylf hc hv
theorem VRL.z4k {a b:List (TV D.T)} {x y:List V} (h:VRL D ρ lv a x) (k:VRL D ρ lv b y) (off:Nat):VRL D ρ lv (zwl a off b) (z4k x off y):=by
 unfold zwl Go.Ab.z4k
 rw [k.length]
 exact ((h.take off).append k).append (h.drop _)
theorem lookup_append {ρ e:List Slot} {s:Nat} {sl:Slot} (h:ρ[s]? = some sl):(ρ++e)[s]? = some sl:=by
 rw [List.getElem?_append_left (List.getElem?_eq_some_iff.1 h).1];exact h
mutual
theorem VR.more (e:List Slot):∀{x:TV D.T} {v:V},VR D ρ lv x v->VR D (ρ++e) lv x v
 | .any,_,_=>by simp only [VR]
 | .bool b,_,h=>by simpa only [VR] using h
 | .int k n,_,h=>by simpa only [VR] using h
 | .str s,_,h=>by simpa only [VR] using h
 | .nilp,_,h=>by simpa only [VR] using h
 | .nils,_,h=>by simpa only [VR] using h
 | .mapn,_,h=>by simpa only [VR] using h
 | .nilf,_,h=>by simpa only [VR] using h
 | .nili,_,h=>by simpa only [VR] using h
 | .sl t xs fl,_,h=>by simpa only [VR] using h
 | .own s,_,h=>by simp only [VR] at h ⊢;obtain ⟨sl,h1,h2⟩:=h;exact ⟨sl,lookup_append h1,h2⟩
 | .osl s lo,_,h=>by simp only [VR] at h ⊢;obtain ⟨sl,j,ver,h1,h2⟩:=h;exact ⟨sl,j,ver,lookup_append h1,h2⟩
 | .ptr s off,_,h=>by simp only [VR] at h ⊢;obtain ⟨sl,i,h1,h2⟩:=h;exact ⟨sl,i,lookup_append h1,h2⟩
 | .bp s off,_,h=>by simp only [VR] at h ⊢;obtain ⟨sl,i,h1,h2⟩:=h;exact ⟨sl,i,lookup_append h1,h2⟩
 | .map s,_,h=>by simp only [VR] at h ⊢;obtain ⟨sl,i,h1,h2⟩:=h;exact ⟨sl,i,lookup_append h1,h2⟩
 | .mc t es,_,h=>by simpa only [VR] using h
 | .ref cs off,_,h=>by simp only [VR] at h ⊢;obtain ⟨vs,h1,h2⟩:=h;exact ⟨vs,h1,VRL.more e h2⟩
 | .ap s t i x off,_,h=>by simp only [VR] at h ⊢;obtain ⟨sl,w,h1,h2⟩:=h;exact ⟨sl,w,lookup_append h1,h2⟩
 | .fn f a b,_,h=>by simp only [VR] at h ⊢;obtain ⟨as,bs,h1,h2,h3⟩:=h;exact ⟨as,bs,h1,VRL.more e h2,VRL.more e h3⟩
 | .iface t x,_,h=>by simp only [VR] at h ⊢;obtain ⟨y,h1,h2⟩:=h;exact ⟨y,h1,VR.more e h2⟩
 | .agg cs,_,h=>by simp only [VR] at h ⊢;obtain ⟨vs,h1,h2⟩:=h;exact ⟨vs,h1,VRL.more e h2⟩
 | .tup cs,_,h=>by simp only [VR] at h ⊢;obtain ⟨vs,h1,h2⟩:=h;exact ⟨vs,h1,VRL.more e h2⟩
theorem VRL.more (e:List Slot):∀{cs:List (TV D.T)} {vs:List V},VRL D ρ lv cs vs->VRL D (ρ++e) lv cs vs
 |[],_,h=>by simpa only [VRL] using h
 |c::cs,_,h=>by simp only [VRL] at h ⊢;obtain ⟨v,r,h1,h2,h3⟩:=h;exact ⟨v,r,h1,VR.more e h2,VRL.more e h3⟩
end
theorem VR.cells {x:TV D.T} {v:V} (h:VR D ρ lv x v) (hs:x.z0g=true):VRL D ρ lv x.cells v.cells:=by
 have one:∀{x:TV D.T} {v:V},VR D ρ lv x v->v.cells=[v]->x.cells=[x]->VRL D ρ lv x.cells v.cells:=λ{x v} h h1 h2=>by
  rw [h1,h2];simp only [VRL];exact ⟨v,[],rfl,h,rfl⟩
 cases x <;> simp only [TV.z0g,TV.leaf,Bool.false_eq_true] at hs
 case agg cs=>simp only [VR] at h;obtain ⟨vs,rfl,h2⟩:=h;exact h2
 case sl t xs fl=>exact one h (by simp only [VR] at h;obtain ⟨h,_⟩:=h;cases h <;> rfl) rfl
 case own s =>
  refine one h ?_ rfl
  simp only [VR] at h
  obtain ⟨sl,_,_,h⟩:=h
  cases v <;> first|rfl|(simp [V.leaf] at h)
 case ap s t i x off =>
  refine one h ?_ rfl
  simp only [VR] at h
  obtain ⟨sl,w,h1,h2,h3,h4,h5⟩:=h
  split at h5
  ·subst h5;rfl
  ·obtain ⟨ver,n,_,h5⟩:=h5;subst h5;rfl
 case fn f a b=>refine one h ?_ rfl;simp only [VR] at h;obtain ⟨as,bs,rfl,_⟩:=h;rfl
 case iface t x=>refine one h ?_ rfl;simp only [VR] at h;obtain ⟨y,rfl,_⟩:=h;rfl
 case ref cs off=>refine one h ?_ rfl;simp only [VR] at h;obtain ⟨y,rfl,_⟩:=h;rfl
 case osl s lo=>refine one h ?_ rfl;simp only [VR] at h;obtain ⟨y,i,ver,_,_,_,_,_,h⟩:=h;rcases h with rfl|⟨_,sz,rfl⟩ <;> rfl
 case ptr s off=>refine one h ?_ rfl;simp only [VR] at h;obtain ⟨y,i,_,_,rfl⟩:=h;rfl
 case map s=>refine one h ?_ rfl;simp only [VR] at h;obtain ⟨y,i,_,_,rfl⟩:=h;rfl
 case mc t es=>refine one h ?_ rfl;simp only [VR] at h;obtain ⟨_,rfl⟩:=h;rfl
 case bp s off=>refine one h ?_ rfl;simp only [VR] at h;obtain ⟨y,i,_,_,rfl⟩:=h;rfl
 all_goals (refine one h ?_ rfl;simp only [VR] at h;subst h;rfl)
theorem VR.z0g {x:TV D.T} {v:V} (h:VR D ρ lv x v) (hs:x.z0g=true):v.z0g=true:=by
 have one:∀{v:V},v.leaf=true->v.z0g=true:=λ{v} h=>by cases v <;> first|rfl|exact h
 cases x <;> simp only [TV.z0g,TV.leaf,Bool.false_eq_true] at hs
 case agg cs=>simp only [VR] at h;obtain ⟨vs,rfl,h2⟩:=h;rfl
 case sl t xs fl=>simp only [VR] at h;obtain ⟨h,_⟩:=h;cases h <;> rfl
 case own s=>simp only [VR] at h;obtain ⟨sl,_,_,h⟩:=h;exact one h
 case ap s t i x off =>
  simp only [VR] at h
  obtain ⟨sl,w,h1,h2,h3,h4,h5⟩:=h
  split at h5
  ·subst h5;rfl
  ·obtain ⟨ver,n,_,h5⟩:=h5;subst h5;rfl
 case fn f a b=>simp only [VR] at h;obtain ⟨as,bs,rfl,_⟩:=h;rfl
 case iface t x=>simp only [VR] at h;obtain ⟨y,rfl,_⟩:=h;rfl
 case ref cs off=>simp only [VR] at h;obtain ⟨y,rfl,_⟩:=h;rfl
 case osl s lo=>simp only [VR] at h;obtain ⟨y,i,ver,_,_,_,_,_,h⟩:=h;rcases h with rfl|⟨_,sz,rfl⟩ <;> rfl
 case ptr s off=>simp only [VR] at h;obtain ⟨y,i,_,_,rfl⟩:=h;rfl
 case map s=>simp only [VR] at h;obtain ⟨y,i,_,_,rfl⟩:=h;rfl
 case mc t es=>simp only [VR] at h;obtain ⟨_,rfl⟩:=h;rfl
 case bp s off=>simp only [VR] at h;obtain ⟨y,i,_,_,rfl⟩:=h;rfl
 all_goals (simp only [VR] at h;subst h;rfl)
theorem VR.ze1 (v:Value):VR D ρ lv (TV.ze1 v) (Go.Ab.ze1 v):=by
 unfold TV.ze1 Go.Ab.ze1
 split <;> simp only [VR]
theorem VRL.map {α:Type} (f:α->TV D.T) (g:α->V) (h:∀x,VR D ρ lv (f x) (g x)):∀l:List α,VRL D ρ lv (l.map f) (l.map g)
 |[]=>by simp [VRL]
 |x::l=>by simp only [List.map_cons,VRL];exact ⟨_,_,rfl,h x,VRL.map f g h l⟩
theorem VR.ofC (v:Value):VR D ρ lv (TV.ofC v) (ofConst v):=by
 cases v with
 |agg cs =>
  simp only [TV.ofC,ofConst]
  split
  · simp only [VR];exact ⟨_,rfl,VRL.map _ _ VR.ze1 _⟩
  · simp only [VR]
 |tuple cs=>simp only [TV.ofC,ofConst,VR];exact ⟨_,rfl,VRL.map _ _ VR.ze1 _⟩
 |iface t v=>simp only [TV.ofC,ofConst,VR];exact ⟨_,rfl,VR.ze1 _⟩
 |_=>simp only [TV.ofC,ofConst];exact VR.ze1 _
theorem VR.leaf {t:DTy} {x:t.S D.T} {v:V} (h:DR D t x v):VR D ρ lv (D.leaf t x) v:=by
 cases t with
 |bool=>cases h;simp [Dat.leaf,VR]
 |int k=>cases h;simp [Dat.leaf,VR]
 |str=>cases h;simp [Dat.leaf,VR]
 |nat=>simp [Dat.leaf,VR]
 |st i=>simp [Dat.leaf,VR]
 |sl t=>simp only [Dat.leaf,VR];exact ⟨h,by omega,by omega⟩
variable {P : Program} (hD : D.Ok P)
include hD
theorem DR.agg {i:Nat} {x:D.T i} {v:V} (h:DR D (.st i) x v):∃vs,v = .agg vs∧vs.length=(D.fl i).length∧∀(j:Nat) (p:(t:DTy)×t.S D.T) (u:V),HL.nth (D.fl i) (D.get i x) j=some p->vs[j]? = some u->DR D p.1 p.2 u:=by
 cases h with
 |st _ _ vs hl h=>exact ⟨vs,rfl,hl,h⟩
 |enc=>exact ⟨_,hD.enc i x,yb6 _ _,λj p u hp hu=>by
  rw [yo2,hp] at hu
  injection hu with hu
  subst hu
  exact DR.el _ _⟩
theorem VR.tv {t:DTy} {x:t.S D.T} {v:V} (h:DR D t x v):VR D ρ lv (D.tv t x) v:=by
 cases t with
 |st i =>
  obtain ⟨vs,rfl,h1,h2⟩:=DR.agg hD h
  simp only [Dat.tv,VR]
  refine ⟨vs,rfl,.of (by rw [zwg,h1]) λj c u hc hu => ?_⟩
  rw [zno,Option.map_eq_some_iff] at hc
  obtain ⟨p,hp,rfl⟩:=hc
  exact .leaf (h2 j p u hp hu)
 |bool=>exact VR.leaf h
 |int k=>exact VR.leaf h
 |str=>exact VR.leaf h
 |nat=>exact VR.leaf h
 |sl t=>exact VR.leaf h
omit hD in
theorem y1o {T:Nat->Type} {a b:DTy} {x:List (List UInt8×a.S T)} {y:List (List UInt8×b.S T)} (h:zyr a b x=some y):∃e:a=b,y=e▸x:=by
 unfold zyr at h
 split at h
 ·rename_i e;injection h with h;exact ⟨e,h.symm⟩
 ·cases h
omit hD in
theorem y45 {α β:Type}:∀l:List (α×β),List.zip (l.map (·.1)) (l.map (·.2))=l
 |[]=>rfl
 |p::l=>by
  show (p.1,p.2)::List.zip (l.map (·.1)) (l.map (·.2))=p::l
  rw [y45 l]
omit hD in
theorem zf5 {T:Nat->Type} {a b:DTy} {x:List (a.S T)} {y:List (b.S T)} (h:zs9 a b x=some y):∃e:a=b,y=e▸x:=by
 unfold zs9 at h
 split at h
 ·rename_i e;injection h with h;exact ⟨e,h.symm⟩
 ·cases h
omit hD in
theorem y44 {t:DTy} {c:TV D.T} {x:t.S D.T} {v:V} (h:yrk D t c = .ok x) (hv:VR D ρ lv c v):DR D t x v:=by
 unfold yrk at h
 split at h
 ·injection h with h;subst h;simp only [VR] at hv;subst hv;exact .bool _
 ·split at h
  ·rename_i hk;injection h with h;subst h;subst hk;simp only [VR] at hv;subst hv;exact .int _ _
  ·cases h
 ·injection h with h;subst h;simp only [VR] at hv;subst hv;exact .str _
 ·rename_i t t' xs fl
  cases hl:zs9 t' t xs with
  |none=>rw [hl] at h;cases h
  |some y =>
   rw [hl] at h
   injection h with h
   subst h
   obtain ⟨rfl,rfl⟩:=zf5 hl
   simp only [VR] at hv
   exact hv.1
 ·injection h with h;subst h;simp only [VR] at hv;subst hv;exact .nil _
 ·cases h
 ·cases h
omit hD in
theorem zqd:∀{l:List DTy} {cs:List (TV D.T)} {x:HL D.T l} {vs:List V},zkc D l cs = .ok x->VRL D ρ lv cs vs->vs.length=l.length∧∀(j:Nat) (p:(t:DTy)×t.S D.T) (u:V),HL.nth l x j=some p->vs[j]? = some u->DR D p.1 p.2 u
 |[],[],x,vs,h,hv=>by simp only [VRL] at hv;subst hv;exact ⟨rfl,λj p u _ hu=>by simp at hu⟩
 |[],c::cs,x,vs,h,hv=>by simp [zkc] at h
 |t::l,[],x,vs,h,hv=>by simp [zkc] at h
 |t::l,c::cs,x,vs,h,hv=>by
  simp only [VRL] at hv
  obtain ⟨v,r,rfl,h1,h2⟩:=hv
  simp only [zkc] at h
  split at h
  · rename_i y hy
    split at h
    · rename_i ys hys
      injection h with h
      subst h
      obtain ⟨k1,k2⟩:=zqd hys h2
      refine ⟨by simp [k1],λj p u hp hu => ?_⟩
      cases j with
      |zero=>simp only [HL.nth,Option.some.injEq] at hp;subst hp;simp at hu;subst hu;exact y44 hy h1
      |succ j=>exact k2 j p u hp (by simpa using hu)
    · cases h
    · cases h
  · cases h
  · cases h
theorem zpu {t:DTy} {c:TV D.T} {x:t.S D.T} {v:V} (h:asD D t c = .ok x) (hv:VR D ρ lv c v):DR D t x v:=by
 unfold asD at h
 split at h
 ·rename_i i cs
  split at h
  ·rename_i y hy
   injection h with h
   subst h
   simp only [VR] at hv
   obtain ⟨vs,rfl,hv⟩:=hv
   obtain ⟨k1,k2⟩:=zqd hy hv
   exact .st i _ vs k1 (by rw [hD.getMake];exact k2)
  ·cases h
  ·cases h
 ·cases h
 ·exact y44 h hv
theorem y29 {t:DTy}:∀{cs:List (TV D.T)} {xs:List (t.S D.T)} {vs:List V},yt2 D t cs = .ok xs->VRL D ρ lv cs vs->vs.length=xs.length∧∀(j:Nat) (x:t.S D.T) (w:V),xs[j]? = some x->vs[j]? = some w->DR D t x w
 |[],xs,vs,h,hv=>by simp only [VRL] at hv;subst hv;simp only [yt2] at h;injection h with h;subst h;exact ⟨rfl,λj x w hx=>by simp at hx⟩
 |c::cs,xs,vs,h,hv=>by
  simp only [VRL] at hv
  obtain ⟨v,r,rfl,h1,h2⟩:=hv
  simp only [yt2] at h
  split at h
  · rename_i y hy
    split at h
    · rename_i ys hys
      injection h with h
      subst h
      obtain ⟨k1,k2⟩:=y29 hys h2
      refine ⟨by simp [k1],λj x w hx hw => ?_⟩
      cases j with
      |zero=>simp at hx hw;subst hx;subst hw;exact zpu hD hy h1
      |succ j=>exact k2 j x w (by simpa using hx) (by simpa using hw)
    · cases h
    · cases h
  · cases h
  · cases h
end
end Go.Ab
namespace Go.Ab
open Go
set_option linter.unusedVariables false
set_option linter.unusedSimpArgs false
structure Fr where
 lv:Nat
 E:Nat->Nat->Option kz7
 e0:Nat->Nat->Option kz7
 L0:List (Option kz7)
 out:Nat->Prop
 pin:List Slot
theorem yun {T S:Type} (g:T->S) (k:List UInt8):∀ms:List (List UInt8×T),z3p (ms.map λp=>(p.1,g p.2)) k=(z3p ms k).map g
 |[]=>rfl
 |p::ms=>by
  have ih:=yun g k ms
  unfold z3p at ih ⊢
  rw [List.map_cons,List.find?_cons,List.find?_cons]
  cases k==p.1
  · exact ih
  · rfl
theorem ydy {T:Type} {k:List UInt8} {x:T}:∀{ms:List (List UInt8×T)},z3p ms k=some x->∃p∈ms,p.2=x
 |[],h=>by cases h
 |p::ms,h=>by
  unfold z3p at h
  rw [List.find?_cons] at h
  cases hk:k==p.1 <;> rw [hk] at h
  · obtain ⟨q,h1,h2⟩:=ydy (ms:=ms) (by unfold z3p;exact h)
    exact ⟨q,List.mem_cons_of_mem _ h1,h2⟩
  · exact ⟨p,List.mem_cons_self,by simpa using h⟩
theorem z05n {T S:Type} (g:T->S) (k:List UInt8) (x:T) (ms:List (List UInt8×T)):z95 (ms.map λp=>(p.1,g p.2)) k (g x)=(z95 ms k x).map λp=>(p.1,g p.2):=by
 unfold z95
 rw [List.findIdx?_map]
 show (match ms.findIdx? (λp=>k==p.1) with|none=>_|some j=>_)=_
 cases ms.findIdx? (λp=>k==p.1) with
 |none=>simp
 |some j=>simp [List.map_set]
theorem yv9 {T:Type} {k:List UInt8} {x:T} {ms:List (List UInt8×T)} {p:List UInt8×T} (h:p∈z95 ms k x):p=(k,x)∨p∈ms:=by
 unfold z95 at h
 split at h
 ·rcases List.mem_append.1 h with h|h
  ·exact .inr h
  ·exact .inl (List.mem_singleton.1 h)
 ·rcases List.mem_or_eq_of_mem_set h with h|h
  ·exact .inr h
  ·exact .inl h
section
variable (D : Dat) (ρ : List Slot) (lv : Nat) (L : List (Option kz7))
def OR (sl:Slot):TO D.T->Prop
 | .cells cs=>∃i vs,sl.k=some i∧L[i]? = some (some (.cells vs))∧VRL D ρ lv cs vs
 | .acc ty t xs w=>sl.ws.length=xs.length∧(∀(j:Nat) (x:t.S D.T) (v:V),xs[j]? = some x->sl.ws[j]? = some v->DR D t x v) ∧
   (match sl.k with
   |none=>(sl.v = .nils∧sl.ws=[])∨((sl.v = .sl (D.len t) sl.ws true∧t ≠ .int .u8)∧(w=true->sl.ws=[]))
   |some i=>∃ver cp,sl.v = .hs lv i ver 0 sl.ws.length false∧L[i]? = some (some (.arr ver ty (D.len t) sl.ws cp)))
 | .siter s pos=>∃i,sl.k=some i∧L[i]? = some (some (.siter s pos))
 | .mp ty t es=>∃(i:Nat) (ms:List (List UInt8×(t.S D.T×V))),sl.k=some i∧es=ms.map (λp=>(p.1,p.2.1))∧(∀p∈ms,DR D t p.2.1 p.2.2)∧L[i]? = some (some (.map (ms.map λp=>(.str p.1,p.2.2))))
 | .mit t last es=>∃(i:Nat) (fs:List (List UInt8×t.S D.T)) (vis:List Nat),sl.k=some i∧t.flat=true∧L[i]? = some (some (.mit (fs.map λp=>(.str p.1,y94 t p.2)) vis))∧(∀q∈vis,q<fs.length)∧es.Perm (((List.range fs.length).filter λq => !vis.contains q).filterMap λq=>fs[q]?)∧∀p,last=some p->∃(vis':List Nat) (j:Nat),vis=vis'++[j]∧fs[j]? = some p
 | .bld ty b=>∃i a c,sl.k=some i∧L[i]? = some (some (.arr 0 ty 2 [.agg [a,c]] (some 1)))∧(a = .nilp∨a = .ap lv i 0 0 0)∧VR D ρ lv (ypu b) c
 | .gone=>True
end
def TO.live {T:Nat->Type}:TO T->Prop
 | .gone=>False
 |_=>True
def DfL (D:Dat) (ρ:List Slot) (lv:Nat):List (Nat×List (TV D.T))->List (Nat×List V)->Prop
 |[],ds=>ds=[]
 |p::r,ds=>∃vs s,ds=(p.1,vs)::s∧VRL D ρ lv p.2 vs∧DfL D ρ lv r s
theorem DfL.imp {D:Dat} {ρ ρ':List Slot} {lv:Nat} (f:List (TV D.T)->List (TV D.T)) (hf:∀xs vs,VRL D ρ lv xs vs->VRL D ρ' lv (f xs) vs):∀{l:List (Nat×List (TV D.T))} {ds:List (Nat×List V)},DfL D ρ lv l ds->DfL D ρ' lv (l.map λp=>(p.1,f p.2)) ds
 |[],ds,h=>h
 |p::r,ds,h=>by
  obtain ⟨vs,s,h1,h2,h3⟩:=h
  exact ⟨vs,s,h1,hf _ _ h2,DfL.imp f hf h3⟩
theorem DfL.more {D:Dat} {ρ:List Slot} {lv:Nat} (e:List Slot) {l:List (Nat×List (TV D.T))} {ds:List (Nat×List V)} (h:DfL D ρ lv l ds):DfL D (ρ++e) lv l ds:=by
 have:=h.imp (ρ':=ρ++e) (λxs=>xs) (λxs vs k=>k.more e)
 simpa using this
structure TRr (D:Dat) (F:Fr) (ρ:List Slot) (ts:TS D.T) (σ:St):Prop where
 nx:ρ.length=ts.nx
 nt:σ.t.length=ts.nt
 tm:∀(j:Nat) (x:TV D.T),fnd ts.t j=some x->∃v,σ.t[j]? = some v∧VR D ρ F.lv x v
 ob:∀(s:Nat) (o:TO D.T),fnd ts.o s=some o->∃sl,ρ[s]? = some sl∧OR D ρ F.lv σ.H.L sl o
 inj:∀(s s':Nat) (o o':TO D.T) (sl sl':Slot) (i:Nat),fnd ts.o s=some o->fnd ts.o s'=some o'->o.live->o'.live->ρ[s]? = some sl->ρ[s']? = some sl'->sl.k=some i->sl'.k=some i->s=s'
 mine:∀(s:Nat) (o:TO D.T) (sl:Slot) (i:Nat),fnd ts.o s=some o->o.live->ρ[s]? = some sl->sl.k=some i->¬F.out i
 lv:σ.H.lv=F.lv
 E:σ.H.E=F.E
 e0:σ.e0=F.e0
 d:DfL D ρ F.lv ts.d σ.d
 out:∀i,F.out i->i<σ.H.L.length∧σ.H.L[i]? = F.L0[i]?
 pin:∀(j:Nat) (sl:Slot),F.pin[j]? = some sl->ρ[j]? = some sl
section
variable {P : Program} {D : Dat} {F : Fr} {ρ : List Slot} {ts : TS D.T} {σ : St} {lv : Nat}
theorem zld {t off:Nat} {cs:List (TV D.T)} {vs:List V} {x:TV D.T} (hv:VRL D ρ lv cs vs) (h:tRd P t cs off=some x):∃v,rd P t vs off=some v∧VR D ρ lv x v:=by
 unfold tRd at h
 unfold rd
 split at h
 ·cases h
 ·rename_i heq
  rw [heq]
  split at h
  ·rename_i hl
   injection h with h;subst h
   refine ⟨_,by simp only;rw [if_pos (by rw [<-hv.length];exact hl)],?_⟩
   simp only [VR]
   exact ⟨_,rfl,(hv.drop _).take _⟩
  ·cases h
 ·rename_i heq
  rw [heq]
  split at h
  ·rename_i hl
   injection h with h;subst h
   refine ⟨_,by simp only;rw [if_pos (by rw [<-hv.length];exact hl)],?_⟩
   simp only [VR]
   exact ⟨_,rfl,(hv.drop _).take _⟩
  ·cases h
 ·rename_i h1 h2 heq
  obtain ⟨v,k1,k2⟩:=hv.get off x h
  rw [heq]
  cases hd:‹TypeDesc› <;> first|exact (h1 _ hd).elim|exact (h2 _ _ hd).elim|exact ⟨v,k1,k2⟩
theorem TRr.ev (hR:TRr D F ρ ts σ) {o:Operand} {x:TV D.T} (h:ts.ev o=some x):VR D ρ F.lv x (σ.ev o):=by
 cases o with
 |tmp t =>
  obtain ⟨v,h1,h2⟩:=hR.tm t x h
  simp only [St.ev,List.getD_eq_getElem?_getD,h1,Option.getD_some]
  exact h2
 |const v=>simp only [TS.ev,Option.some.injEq] at h;subst h;exact .ofC v
 |func f=>simp only [TS.ev,Option.some.injEq] at h;subst h;simp only [St.ev,VR];exact ⟨[],[],rfl,by simp [VRL],by simp [VRL]⟩
 |global g=>simp [TS.ev] at h
theorem TRr.evs (hR:TRr D F ρ ts σ):∀{l:List Operand} {xs:List (TV D.T)},ts.evs l=some xs->VRL D ρ F.lv xs (l.map σ.ev)
 |[],xs,h=>by simp only [TS.evs,Option.some.injEq] at h;subst h;simp [VRL]
 |o::l,xs,h=>by
  simp only [TS.evs] at h
  split at h
  · rename_i v vs hv hvs
    injection h with h;subst h
    simp only [List.map_cons,VRL]
    exact ⟨_,_,rfl,hR.ev hv,hR.evs hvs⟩
  · cases h
theorem TRr.get (hR:TRr D F ρ ts σ) {i:Nat} {o:kz7} (h:σ.H.L[i]? = some (some o)):σ.H.get F.lv i=some o:=by
 unfold yz3.get;rw [if_pos hR.lv.symm,h];rfl
variable (hD : D.Ok P)
include hD
theorem VR.ypj {t:DTy} {x:t.S D.T} {v:V} (h:DR D t x v):VRL D ρ lv (D.tv t x).cells v.cells:=by
 cases t with
 |nat=>cases h;simp only [Dat.tv,TV.cells,V.cells,VRL];exact ⟨_,_,rfl,by simp only [VR],rfl⟩
 |st i=>exact (VR.tv hD h).cells rfl
 |bool=>exact (VR.tv hD h).cells rfl
 |int k=>exact (VR.tv hD h).cells rfl
 |str=>exact (VR.tv hD h).cells rfl
 |sl t=>exact (VR.tv hD h).cells rfl
theorem y7w (hR:TRr D F ρ ts σ) {t:Nat} {a x:TV D.T} {va:V} (h:z00n P D ts t a=some x) (ha:VR D ρ F.lv a va):∃v,ziv P σ.H t va=some v∧VR D ρ F.lv x v:=by
 unfold z00n at h
 split at h
 ·simp only [VR] at ha
  obtain ⟨vs,rfl,hv⟩:=ha
  exact zld hv h
 ·rename_i s off
  split at h
  ·rename_i cs ho
   simp only [VR] at ha
   obtain ⟨sl,i,h1,h2,rfl⟩:=ha
   obtain ⟨sl',k1,k2⟩:=hR.ob s _ ho
   rw [h1] at k1;injection k1 with k1;subst k1
   simp only [OR] at k2
   obtain ⟨i',vs,q1,q2,q3⟩:=k2
   rw [h2] at q1;injection q1 with q1;subst q1
   simp only [z039,hR.get q2]
   exact zld q3 h
  ·cases h
 ·rename_i s τ i y off
  split at h
  ·rename_i ty t' xs w ho
   simp only [VR] at ha
   obtain ⟨sl,u,h1,h2,h3,h4,h5⟩:=ha
   obtain ⟨sl',k1,k2⟩:=hR.ob s _ ho
   rw [h1] at k1;injection k1 with k1;subst k1
   simp only [OR] at k2
   obtain ⟨q1,q2,q3⟩:=k2
   have hc:=VR.ypj (ρ:=ρ) (lv:=F.lv) hD h4
   cases hk:sl.k with
   |none =>
    rw [hk] at h5
    simp only at h5
    subst h5
    exact zld hc h
   |some j =>
    rw [hk] at h5 q3
    obtain ⟨ver,n,e1,rfl⟩:=h5
    obtain ⟨ver',cp,e2,e3⟩:=q3
    rw [e1] at e2;injection e2 with _ _ e2;subst e2
    simp only [yvx,y3n,hR.get e3,if_true,h3,Option.map_some,Option.bind_some]
    exact zld hc h
  ·cases h
 ·rename_i s off
  split at h
  ·rename_i ty b ho
   simp only [VR] at ha
   obtain ⟨sl,i,h1,h2,rfl⟩:=ha
   obtain ⟨sl',k1,k2⟩:=hR.ob s _ ho
   rw [h1] at k1;injection k1 with k1;subst k1
   simp only [OR] at k2
   obtain ⟨i',u,c,q1,q2,q3,q4⟩:=k2
   rw [h2] at q1;injection q1 with q1;subst q1
   have hv:VRL D ρ F.lv [.any,ypu b] [u,c]:=by
    simp only [VRL]
    exact ⟨u,[c],rfl,by simp only [VR],c,[],rfl,q4,rfl⟩
   obtain ⟨v,w1,w2⟩:=zld hv h
   refine ⟨v,?_,w2⟩
   simp only [yvx,y3n,hR.get q2,if_true,List.getElem?_cons_zero,Option.map_some,Option.bind_some,V.cells]
   exact w1
  ·cases h
 ·cases h
omit hD in
theorem y6o {s f:Nat} {x y:TV D.T} {vx:V} (h:y25 P s f x=some y) (hx:VR D ρ lv x vx):∃v,zdh P s f vx=some v∧VR D ρ lv y v:=by
 unfold y25 at h
 unfold zdh
 split at h
 ·cases h
 ·rename_i o ho
  rw [ho]
  split at h
  ·injection h with h;subst h
   simp only [VR] at hx ⊢
   obtain ⟨vs,rfl,hv⟩:=hx
   exact ⟨_,rfl,vs,rfl,hv⟩
  ·injection h with h;subst h
   simp only [VR] at hx ⊢
   obtain ⟨sl,i,h1,h2,rfl⟩:=hx
   exact ⟨_,rfl,sl,i,h1,h2,rfl⟩
  ·injection h with h;subst h
   simp only [VR] at hx ⊢
   obtain ⟨sl,w,h1,h2,h3,h4,h5⟩:=hx
   cases hk:sl.k with
   |none=>rw [hk] at h5;simp only at h5;subst h5;exact ⟨_,rfl,sl,w,h1,h2,h3,h4,by rw [hk]⟩
   |some j=>rw [hk] at h5;obtain ⟨ver,n,e1,rfl⟩:=h5;exact ⟨_,rfl,sl,w,h1,h2,h3,h4,by rw [hk];exact ⟨ver,n,e1,rfl⟩⟩
  ·injection h with h;subst h
   simp only [VR] at hx ⊢
   obtain ⟨sl,i,h1,h2,rfl⟩:=hx
   exact ⟨_,rfl,sl,i,h1,h2,rfl⟩
  ·cases h
omit hD in
theorem yqv {s f:Nat} {x y:TV D.T} {vx:V} (h:yyu P s f x=some y) (hx:VR D ρ lv x vx):∃v,yf3 P s f vx=some v∧VR D ρ lv y v:=by
 unfold yyu at h
 unfold yf3
 split at h
 ·rename_i fs hu
  rw [hu]
  simp only
  split at h
  ·rename_i fd hf
   rw [hf]
   split at h
   ·simp only [VR] at hx
    obtain ⟨vs,rfl,hv⟩:=hx
    exact zld hv h
   ·cases h
  ·cases h
 ·cases h
omit hD in
theorem yg3 {i:Nat} {x y:TV D.T} {vx:V} (h:ycv i x=some y) (hx:VR D ρ lv x vx):∃v,y55 i vx=some v∧VR D ρ lv y v:=by
 unfold ycv at h
 split at h
 ·simp only [VR] at hx
  obtain ⟨vs,rfl,hv⟩:=hx
  exact hv.get i y h
 ·cases h
omit hD in
theorem yyp {x y:TV D.T} {vx:V} (h:tNil x=some y) (hx:VR D ρ lv x vx):∃v,y75 vx=some v∧VR D ρ lv y v:=by
 unfold tNil at h
 split at h
 ·injection h with h;subst h
  refine ⟨vx,?_,hx⟩
  simp only [VR] at hx;obtain ⟨sl,i,h1,h2,rfl⟩:=hx;rfl
 ·injection h with h;subst h
  refine ⟨vx,?_,hx⟩
  simp only [VR] at hx;obtain ⟨vs,rfl,hv⟩:=hx;rfl
 ·injection h with h;subst h
  refine ⟨vx,?_,hx⟩
  simp only [VR] at hx;obtain ⟨sl,w,h1,h2,h3,h4,h5⟩:=hx
  split at h5
  ·subst h5;rfl
  ·obtain ⟨ver,n,e1,rfl⟩:=h5;rfl
 ·injection h with h;subst h
  refine ⟨vx,?_,hx⟩
  simp only [VR] at hx;obtain ⟨sl,i,h1,h2,rfl⟩:=hx;rfl
 ·injection h with h;subst h
  refine ⟨vx,?_,hx⟩
  simp only [VR] at hx;obtain ⟨as,bs,rfl,_⟩:=hx;rfl
 ·cases h
omit hD in
theorem z02i {op:UnOp} {x y:TV D.T} {vx:V} (h:tUn op x=some y) (hx:VR D ρ lv x vx):∃v,pUn op vx=some v∧VR D ρ lv y v:=by
 unfold tUn at h
 split at h
 ·injection h with h;subst h;simp only [VR] at hx;subst hx;exact ⟨_,rfl,by simp only [VR]⟩
 ·injection h with h;subst h;simp only [VR] at hx;subst hx;exact ⟨_,rfl,by simp only [VR]⟩
 ·injection h with h;subst h;simp only [VR] at hx;subst hx;exact ⟨_,rfl,by simp only [VR]⟩
 ·cases h
omit hD in
theorem ygm {s d:Nat} {x y:TV D.T} {vx:V} (h:ydq P s d x=some y) (hx:VR D ρ lv x vx):∃v,zyj P s d vx=some v∧VR D ρ lv y v:=by
 unfold ydq at h
 unfold zyj
 split at h
 ·simp only [VR] at hx;subst hx
  split at h
  ·rename_i h1 h2
   injection h with h;subst h
   simp only [h1,h2]
   exact ⟨_,rfl,by simp only [VR]⟩
  ·cases h
 ·simp only [VR] at hx;subst hx
  split at h
  ·rename_i h1 h2
   injection h with h;subst h
   simp only [h1,h2]
   exact ⟨_,rfl,by simp only [VR]⟩
  ·cases h
 ·cases h
omit hD in
theorem y4c {u:Nat} {ok:Bool} {x y:TV D.T} {vx:V} (h:zyn P x u ok=some y) (hx:VR D ρ lv x vx):∃v,zoi P vx u ok=some v∧VR D ρ lv y v:=by
 unfold zyn at h
 unfold zoi
 split at h
 ·cases h
 ·rename_i d t z hni hu
  simp only [VR] at hx
  obtain ⟨w,rfl,hw⟩:=hx
  split at h
  ·rename_i ht
   injection h with h;subst h
   rw [hu]
   cases d <;> first
    |exact (hni _ rfl).elim
    |(refine ⟨_,by simp only;rw [if_pos ht],?_⟩
      cases ok
      · exact hw
      · simp only [if_true,VR,VRL];exact ⟨_,rfl,_,_,rfl,hw,_,_,rfl,rfl,rfl⟩)
  ·cases h
 ·cases h
omit hD in
theorem y1n {m:Bool} {xs:List (TV D.T)} {vs:List V} {y:TV D.T} (h:ybf m xs=some y) (hx:VRL D ρ lv xs vs):∃v,zw4 m vs=some v∧VR D ρ lv y v:=by
 unfold ybf at h
 split at h
 ·injection h with h;subst h
  simp only [VRL,VR] at hx
  obtain ⟨_,_,rfl,rfl,_,_,rfl,rfl,rfl⟩:=hx
  exact ⟨_,rfl,by simp only [VR];cases m <;> rfl⟩
 ·injection h with h;subst h
  simp only [VRL,VR] at hx
  obtain ⟨_,_,rfl,rfl,_,_,rfl,rfl,_,_,rfl,rfl,rfl⟩:=hx
  exact ⟨_,rfl,by simp only [VR];cases m <;> rfl⟩
 ·cases h
omit hD in
theorem TRr.parts (hR:TRr D F ρ ts σ):∀{l:List (Nat×Operand)} {xs:List (Nat×TV D.T)},y23 ts l=some xs->xs.map (·.1)=(l.map λp=>(p.1,σ.ev p.2)).map (·.1)∧VRL D ρ F.lv (xs.map (·.2)) ((l.map λp=>(p.1,σ.ev p.2)).map (·.2))
 |[],xs,h=>by simp only [y23,Option.some.injEq] at h;subst h;simp [VRL]
 |(i,o)::l,xs,h=>by
  simp only [y23] at h
  split at h
  · rename_i v vs hv hvs
    injection h with h;subst h
    obtain ⟨h1,h2⟩:=hR.parts hvs
    simp only [List.map_cons,VRL]
    exact ⟨by rw [h1],_,_,rfl,hR.ev hv,h2⟩
  · cases h
omit hD in
theorem zym {place:Nat->Option (Nat×Nat)}:∀{ps:List (Nat×TV D.T)} {qs:List (Nat×V)} {cs r:List (TV D.T)} {vs:List V},ps.map (·.1)=qs.map (·.1)->VRL D ρ lv (ps.map (·.2)) (qs.map (·.2))->VRL D ρ lv cs vs->ymn place cs ps=some r->∃r',zy6 place vs qs=some r'∧VRL D ρ lv r r'
 |[],[],cs,r,vs,_,_,hc,h=>by simp only [ymn,Option.some.injEq] at h;subst h;exact ⟨vs,rfl,hc⟩
 |[],q::qs,cs,r,vs,h1,_,_,_=>by simp at h1
 |p::ps,[],cs,r,vs,h1,_,_,_=>by simp at h1
 |(i,x)::ps,(i',v)::qs,cs,r,vs,h1,h2,hc,h=>by
  simp only [List.map_cons,List.cons.injEq] at h1
  obtain ⟨rfl,h1⟩:=h1
  simp only [List.map_cons,VRL] at h2
  obtain ⟨u,us,he,h2,h3⟩:=h2
  injection he with he1 he2
  subst he1;subst he2
  simp only [ymn] at h
  simp only [zy6]
  split at h
  · cases h
  · rename_i off size hp
    split at h
    · rename_i hcond
      simp only [Bool.and_eq_true,beq_iff_eq,decide_eq_true_eq] at hcond
      have hcells:=h2.cells hcond.1.1
      rw [hp]
      simp only
      rw [if_pos (by simp only [Bool.and_eq_true,beq_iff_eq,decide_eq_true_eq];exact ⟨⟨h2.z0g hcond.1.1,by rw [<-hcells.length];exact hcond.1.2⟩,by rw [<-hc.length];exact hcond.2⟩)]
      exact zym h1 h3 (hc.z4k hcells off) h
    · cases h
omit hD in
theorem zrq {t:Nat} {x:TV D.T} (h:ytx P t=some x):∃v,zeroV P t=some v∧VR D ρ lv x v:=by
 unfold ytx at h
 unfold zeroV
 rw [Option.map_eq_some_iff] at h
 obtain ⟨z,hz,rfl⟩:=h
 exact ⟨_,by rw [hz];rfl,.ofC z⟩
omit hD in
theorem yq7 {t:Nat} {ps:List (Nat×TV D.T)} {qs:List (Nat×V)} {y:TV D.T} (h1:ps.map (·.1)=qs.map (·.1)) (h2:VRL D ρ lv (ps.map (·.2)) (qs.map (·.2))) (h:yxf P t ps=some y):∃v,ydk P t qs=some v∧VR D ρ lv y v:=by
 unfold yxf at h
 unfold ydk
 split at h
 ·rename_i z hz
  obtain ⟨v,hv,hr⟩:=zrq (ρ:=ρ) (lv:=lv) hz
  simp only [VR] at hr
  obtain ⟨vs,rfl,hr⟩:=hr
  rw [hv]
  simp only
  split at h
  ·rename_i fs hu
   rw [hu]
   simp only
   split at h
   ·rename_i places hp
    rw [hp]
    rw [Option.map_eq_some_iff] at h
    obtain ⟨r,hr',rfl⟩:=h
    obtain ⟨r',k1,k2⟩:=zym h1 h2 hr hr'
    exact ⟨.agg r',by simp only [k1,Option.map_some],by simp only [VR];exact ⟨r',rfl,k2⟩⟩
   ·cases h
  ·rename_i n e hu
   rw [hu]
   simp only
   split at h
   ·rename_i hi
    rw [if_pos hi]
    rw [Option.map_eq_some_iff] at h
    obtain ⟨r,hr',rfl⟩:=h
    obtain ⟨r',k1,k2⟩:=zym h1 h2 hr hr'
    exact ⟨.agg r',by simp only [k1,Option.map_some],by simp only [VR];exact ⟨r',rfl,k2⟩⟩
   ·cases h
  ·cases h
 ·cases h
omit hD in
theorem yym (hR:TRr D F ρ ts σ) {t:Nat} {x y:TV D.T} {vx:V} (h:tLen P D ts t x=some y) (hx:VR D ρ F.lv x vx):∃v,zu8 P σ.H t vx=some v∧VR D ρ F.lv y v:=by
 unfold tLen at h
 split at h
 ·split at h
  ·rename_i hu;injection h with h;subst h;simp only [VR] at hx;subst hx;exact ⟨_,by rw [z05m,hu],by simp only [VR]⟩
  ·cases h
 ·split at h
  ·rename_i hu;injection h with h;subst h;simp only [VR] at hx;subst hx;exact ⟨_,by rw [y7n,hu],by simp only [VR]⟩
  ·cases h
 ·split at h
  ·rename_i hu
   injection h with h;subst h
   simp only [VR] at hx
   obtain ⟨hx,_⟩:=hx
   cases hx with
   |nil=>exact ⟨_,by rw [y7n,hu],by simp only [VR];rfl⟩
   |sl _ _ ws full hl hh=>exact ⟨_,by rw [z00y,hu],by simp only [VR,hl]⟩
  ·cases h
 ·split at h
  ·rename_i hu ho
   injection h with h;subst h
   simp only [VR] at hx
   obtain ⟨sl,h1,rfl,hleaf⟩:=hx
   obtain ⟨sl',k1,k2⟩:=hR.ob _ _ ho
   rw [h1] at k1;injection k1 with k1;subst k1
   simp only [OR] at k2
   obtain ⟨q1,q2,q3⟩:=k2
   cases hk:sl.k with
   |none =>
    rw [hk] at q3
    rcases q3 with ⟨e1,e2⟩|⟨e1,e2⟩
    · rw [e1,y7n,hu]
      exact ⟨_,rfl,by simp only [VR];rw [<-q1,e2];rfl⟩
    · rw [e1.1,z00y,hu]
      exact ⟨_,rfl,by simp only [VR];rw [q1]⟩
   |some j =>
    rw [hk] at q3
    obtain ⟨ver,cp,e1,e2⟩:=q3
    rw [e1]
    refine ⟨.int .i64 sl.ws.length,?_,by simp only [VR];rw [q1]⟩
    simp only [zu8,hu,hR.get e2,if_true]
  ·cases h
 ·split at h
  ·rename_i hu;injection h with h;subst h;simp only [VR] at hx;obtain ⟨vs,rfl,_⟩:=hx;exact ⟨_,by rw [z03u,hu],by simp only [VR]⟩
  ·cases h
 ·split at h
  ·rename_i hu ho
   injection h with h;subst h
   simp only [VR] at hx
   obtain ⟨sl,i,h1,h2,rfl⟩:=hx
   obtain ⟨sl',k1,k2⟩:=hR.ob _ _ ho
   rw [h1] at k1;injection k1 with k1;subst k1
   simp only [OR] at k2
   obtain ⟨i',ms,q1,q2,q4,q3⟩:=k2
   rw [h2] at q1;injection q1 with q1;subst q1
   exact ⟨_,by rw [z065,hu];simp only [hR.get q3];rfl,by simp only [VR];rw [q2];simp⟩
  ·cases h
 ·cases h
omit hD in
theorem y1g:∀(ps:List (Nat×V)) (k n:Nat),ps.map (·.1)=List.range' k n->zwj k ps=true
 |[],_,_,_=>rfl
 |(i,v)::r,k,n,h=>by
  cases n with
  |zero=>simp at h
  |succ n =>
   simp only [List.map_cons,List.range'_succ,List.cons.injEq] at h
   simp only [zwj,h.1,beq_self_eq_true,Bool.true_and]
   exact y1g r (k+1) n h.2
theorem zrk {t len:Nat} {ps:List (Nat×TV D.T)} {qs:List (Nat×V)} {y:TV D.T} (h1:ps.map (·.1)=qs.map (·.1)) (h2:VRL D ρ lv (ps.map (·.2)) (qs.map (·.2))) (h:zoe P D t len ps = .ok y):∃v,zhx P t len qs=some v∧VR D ρ lv y v:=by
 unfold zoe at h
 unfold zhx
 split at h
 ·rename_i e hu
  rw [hu]
  simp only
  split at h
  ·rename_i z τ hz hτ
   rw [hz]
   simp only
   split at h
   ·rename_i hc
    simp only [Bool.and_eq_true,beq_iff_eq,decide_eq_true_eq,List.all_eq_true] at hc
    obtain ⟨⟨⟨⟨⟨⟨⟨⟨c1,c2⟩,c3⟩,c4⟩,c5⟩,c6⟩,c7⟩,c8⟩,c9⟩:=hc
    have hlen:ps.length=qs.length:=by have:=congrArg List.length h1;simpa using this
    split at h
    ·rename_i xs hxs
     injection h with h
     subst h
     obtain ⟨k1,k2⟩:=y29 hD hxs h2
     have hql:qs.length=len:=by omega
     have hall:∀p∈qs,p.2.z0g=true∧p.2.cells.length=P.cellsOf e:=λp hp=>by
      obtain ⟨j,hj⟩:=List.getElem?_of_mem hp
      have hlt:j<ps.length:=by rw [hlen];exact (List.getElem?_eq_some_iff.1 hj).1
      have hq:=c7 ps[j] (List.getElem_mem hlt)
      have hr:VR D ρ lv ps[j].2 p.2:=h2.ylf (j:=j) (by simp [hlt]) (by simp [hj])
      exact ⟨hr.z0g hq.1,by rw [<-(hr.cells hq.1).length];exact hq.2⟩
     have hcond:(z.z0g&&z.cells.length==P.cellsOf e&&decide (0<P.cellsOf e)&&(P.info? e).isSome&&qs.length==len&&zwj 0 qs&&qs.all (λp=>p.2.z0g&&p.2.cells.length==P.cellsOf e)&&decide (len * P.cellsOf e<=2 ^ 24))=true:=by
      simp only [Bool.and_eq_true,beq_iff_eq,decide_eq_true_eq,List.all_eq_true]
      exact ⟨⟨⟨⟨⟨⟨⟨c1,c2⟩,c3⟩,c4⟩,hql⟩,y1g qs 0 len (by rw [<-h1,c6,List.range_eq_range'])⟩,hall⟩,c8⟩
     rw [if_pos hcond]
     refine ⟨_,rfl,?_⟩
     simp only [List.length_map] at k1
     by_cases hl0:len=0
     ·rw [if_pos hl0,if_pos hl0,<-c9]
      have:xs=[]:=List.eq_nil_of_length_eq_zero (by omega)
      subst this
      simp only [VR]
      exact ⟨.sl τ [] [] true rfl (by simp),λ_=>⟨[],rfl⟩,λ_=>trivial⟩
     ·rw [if_neg hl0,if_neg hl0,<-c9]
      simp only [VR]
      exact ⟨.sl τ xs _ true (by simpa using k1) k2,λ_=>⟨_,rfl⟩,by simp⟩
    ·cases h
    ·cases h
   ·cases h
  ·cases h
 ·cases h
omit hD in
theorem FR.zsd {α:Type} {o:Option α} {a:α} (h:FR.of o = .ok a):o=some a:=by
 cases o with
 |none=>cases h
 |some b=>injection h with h;rw [h]
theorem z01y (hR:TRr D F ρ ts σ) {op:Op} {x:TV D.T} (h:tP1 P D ts op = .ok x):∃v,pv P σ.H σ.ev op=some v∧VR D ρ F.lv x v:=by
 unfold tP1 at h
 unfold pv
 split at h
 ·exact ⟨_,rfl,hR.ev (FR.zsd h)⟩
 ·exact ⟨_,rfl,hR.ev (FR.zsd h)⟩
 ·split at h
  ·rename_i ha;exact y7w hD hR (FR.zsd h) (hR.ev ha)
  ·cases h
 ·split at h
  ·rename_i ha;exact yyp (FR.zsd h) (hR.ev ha)
  ·cases h
 ·split at h
  ·rename_i ha;exact z02i (FR.zsd h) (hR.ev ha)
  ·cases h
 ·split at h
  ·rename_i ha;exact ygm (FR.zsd h) (hR.ev ha)
  ·cases h
 ·split at h
  ·rename_i ha
   split at h
   ·rename_i hc
    injection h with h;subst h
    exact ⟨_,by simp only [zmm];rw [if_pos hc],by simp only [VR];exact ⟨_,rfl,hR.ev ha⟩⟩
   ·cases h
  ·cases h
 ·split at h
  ·rename_i ha hb
   injection h with h;subst h
   exact ⟨_,rfl,by simp only [VR];exact ⟨_,_,rfl,hR.evs ha,hR.evs hb⟩⟩
  ·cases h
 ·split at h
  ·rename_i ha;exact y6o (FR.zsd h) (hR.ev ha)
  ·cases h
 ·split at h
  ·rename_i ha;exact yqv (FR.zsd h) (hR.ev ha)
  ·cases h
 ·split at h
  ·rename_i ha;exact y4c (FR.zsd h) (hR.ev ha)
  ·cases h
 ·split at h
  ·rename_i ha;exact yg3 (FR.zsd h) (hR.ev ha)
  ·cases h
 ·split at h
  ·rename_i ha;obtain ⟨h1,h2⟩:=hR.parts ha;exact yq7 h1 h2 (FR.zsd h)
  ·cases h
 ·split at h
  ·rename_i ha;obtain ⟨h1,h2⟩:=hR.parts ha;exact zrk hD h1 h2 h
  ·cases h
 ·unfold zhj
  split at h
  ·rename_i hcal
   split at h
   ·rename_i o t hargs htys
    split at h
    ·rename_i ha
     simp only [hcal,hargs,htys]
     exact yym hR (FR.zsd h) (hR.ev ha)
    ·cases h
   ·cases h
  ·rename_i hcal
   split at h
   ·rename_i ha;simp only [hcal];exact y1n (FR.zsd h) (hR.evs ha)
   ·cases h
  ·rename_i hcal
   split at h
   ·rename_i ha;simp only [hcal];exact y1n (FR.zsd h) (hR.evs ha)
   ·cases h
  ·cases h
 ·cases h
end
end Go.Ab
namespace Go.Ab
open Go
set_option linter.unusedVariables false
set_option linter.unusedSimpArgs false
section
variable {P : Program} {D : Dat} {F : Fr} {ρ : List Slot} {ts : TS D.T} {σ : St} {lv : Nat}
mutual
theorem y37:∀{d t:Nat} {x y:TV D.T} {vx vy:V} {b:Bool},yts P d t x y=some b->VR D ρ lv x vx->VR D ρ lv y vy->eqv P d t vx vy=some b
 |0,t,x,y,vx,vy,b,h,hx,hy=>by simp [yts] at h
 |d+1,t,x,y,vx,vy,b,h,hx,hy=>by
  simp only [yts] at h
  split at h
  · simp only [VR] at hx hy;subst hx;subst hy;(simp only [eqv];split at h <;> first|(rename_i hu;simp only [hu];exact h)|cases h)
  · simp only [VR] at hx hy;subst hx;subst hy;(simp only [eqv];split at h <;> first|(rename_i hu;simp only [hu];exact h)|cases h)
  · simp only [VR] at hx hy;subst hx;subst hy;(simp only [eqv];split at h <;> first|(rename_i hu;simp only [hu];exact h)|cases h)
  · simp only [VR] at hx hy
    obtain ⟨xs,rfl,hx⟩:=hx
    obtain ⟨ys,rfl,hy⟩:=hy
    simp only [eqv]
    split at h
    · rename_i hu
      simp only [hu]
      split at h
      · cases h
      · rename_i hs
        rw [if_neg hs]
        exact zxf h hx hy
    · cases h
  · simp only [VR] at hx hy;subst hx;subst hy;(simp only [eqv];split at h <;> first|(rename_i hu;simp only [hu];exact h)|cases h)
  · simp only [VR] at hx hy;subst hx;obtain ⟨_,_,_,_,rfl⟩:=hy;(simp only [eqv];split at h <;> first|(rename_i hu;simp only [hu];exact h)|cases h)
  · simp only [VR] at hx hy;subst hx;obtain ⟨_,rfl,_⟩:=hy;(simp only [eqv];split at h <;> first|(rename_i hu;simp only [hu];exact h)|cases h)
  · simp only [VR] at hx hy;subst hy;obtain ⟨_,_,_,_,rfl⟩:=hx;(simp only [eqv];split at h <;> first|(rename_i hu;simp only [hu];exact h)|cases h)
  · simp only [VR] at hx hy;subst hy;obtain ⟨_,rfl,_⟩:=hx;(simp only [eqv];split at h <;> first|(rename_i hu;simp only [hu];exact h)|cases h)
  · simp only [VR] at hx hy;subst hx;subst hy;(simp only [eqv];split at h <;> first|(rename_i hu;simp only [hu];exact h)|cases h)
  · simp only [VR] at hx hy;subst hx;subst hy;(simp only [eqv];split at h <;> first|(rename_i hu;simp only [hu];exact h)|cases h)
  · simp only [VR] at hx hy;subst hx;obtain ⟨_,_,rfl,_⟩:=hy;(simp only [eqv];split at h <;> first|(rename_i hu;simp only [hu];exact h)|cases h)
  · simp only [VR] at hx hy;subst hy;obtain ⟨_,_,rfl,_⟩:=hx;(simp only [eqv];split at h <;> first|(rename_i hu;simp only [hu];exact h)|cases h)
  · simp only [VR] at hx hy;subst hx;obtain ⟨_,rfl,_⟩:=hy;(simp only [eqv];split at h <;> first|(rename_i hu;simp only [hu];exact h)|cases h)
  · simp only [VR] at hx hy;subst hy;obtain ⟨_,rfl,_⟩:=hx;(simp only [eqv];split at h <;> first|(rename_i hu;simp only [hu];exact h)|cases h)
  · cases h
theorem zxf:∀{d:Nat} {fs:List Field} {xs ys:List (TV D.T)} {vx vy:List V} {b:Bool},yct P d fs xs ys=some b->VRL D ρ lv xs vx->VRL D ρ lv ys vy->yh9 P d fs vx vy=some b
 |0,fs,xs,ys,vx,vy,b,h,hx,hy=>by simp [yct] at h
 |d+1,[],xs,ys,vx,vy,b,h,hx,hy=>by simpa only [yh9,yct] using h
 |d+1,f::fs,xs,ys,vx,vy,b,h,hx,hy=>by
  simp only [yct] at h
  simp only [yh9]
  split at h
  · rename_i hf
    rw [if_pos hf]
    exact zxf h hx hy
  · rename_i hf
    rw [if_neg hf]
    split at h
    · rename_i a c ha hc
      obtain ⟨va,k1,k2⟩:=zld hx ha
      obtain ⟨vc,k3,k4⟩:=zld hy hc
      rw [k1,k3]
      split at h
      · rename_i r s hr hs
        simp only [y37 hr k2 k4,zxf hs hx hy]
        exact h
      · cases h
    · cases h
end
theorem yvo {t:Nat} {x y:TV D.T} {vx vy:V} {b:Bool} (h:yts P 24 t x y=some b) (ho:(x.odd&&y3q P t x y)=true) (hx:VR D ρ lv x vx) (hy:VR D ρ lv y vy) :
  (∀k k' a c,vx = .int k a->vy = .int k' c->False)∧(∀a c,vx = .str a->vy = .str c->False)∧(vx.odd&&zpi P t vx vy)=true:=by
 simp only [yts] at h
 split at h <;> (try simp only [TV.odd,y3q,Bool.and_eq_true,Bool.false_eq_true,false_and,true_and,Bool.and_true,Bool.and_false,Bool.true_and] at ho) <;> (try simp only [VR] at hx hy)
 ·subst hx;subst hy;exact ⟨by simp,by simp,rfl⟩
 ·obtain ⟨xs,rfl,hx⟩:=hx
  obtain ⟨ys,rfl,hy⟩:=hy
  exact ⟨by simp,by simp,by simpa [V.odd,zpi] using ho⟩
 ·subst hx;subst hy;exact ⟨by simp,by simp,rfl⟩
 ·subst hx;obtain ⟨_,_,_,_,rfl⟩:=hy;exact ⟨by simp,by simp,rfl⟩
 ·subst hx;obtain ⟨_,rfl,_⟩:=hy;exact ⟨by simp,by simp,rfl⟩
 ·subst hy;obtain ⟨_,_,_,_,rfl⟩:=hx;exact ⟨by simp,by simp,rfl⟩
 ·subst hy;obtain ⟨_,rfl,_⟩:=hx;exact ⟨by simp,by simp,rfl⟩
 ·subst hx;subst hy;exact ⟨by simp,by simp,rfl⟩
 ·subst hx;subst hy;exact ⟨by simp,by simp,rfl⟩
 ·subst hx;obtain ⟨_,_,rfl,_⟩:=hy;exact ⟨by simp,by simp,rfl⟩
 ·subst hy;obtain ⟨_,_,rfl,_⟩:=hx;exact ⟨by simp,by simp,rfl⟩
 ·subst hx;obtain ⟨_,rfl,_⟩:=hy;exact ⟨by simp,by simp,rfl⟩
 ·subst hy;obtain ⟨_,rfl,_⟩:=hx;exact ⟨by simp,by simp,rfl⟩
 ·cases h
theorem zgf {α:Type} {o:Option α} {β:Type} {f:α->Option β} {r:β} (h:zmg o f=some r):∃x,o=some x∧f x=some r:=zxm h
theorem z05c {t:Nat} {x y:V} {b:Bool} (h1:∀k k' a c,x = .int k a->y = .int k' c->False) (h2:∀a c,x = .str a->y = .str c->False) (h3:(x.odd&&zpi P t x y)=true) (h4:eqv P 24 t x y=some b):y6s P .eql t x y=some (.bool b):=by
 unfold y6s
 split
 ·exact (h1 _ _ _ _ rfl rfl).elim
 ·exact (h2 _ _ rfl rfl).elim
 ·simp only;rw [if_pos h3,h4];rfl
theorem z03p {t:Nat} {x y:V} {b:Bool} (h1:∀k k' a c,x = .int k a->y = .int k' c->False) (h2:∀a c,x = .str a->y = .str c->False) (h3:(x.odd&&zpi P t x y)=true) (h4:eqv P 24 t x y=some b):y6s P .neq t x y=some (.bool (!b)):=by
 unfold y6s
 split
 ·exact (h1 _ _ _ _ rfl rfl).elim
 ·exact (h2 _ _ rfl rfl).elim
 ·simp only;rw [if_pos h3,h4];rfl
theorem yy6 {R:Type} {op:BinOp} {t:Nat} {x y:TV D.T} {vx vy:V} {k:TV D.T->Option R} {r:R} (h:tBin P op t x y k=some r) (hx:VR D ρ lv x vx) (hy:VR D ρ lv y vy) :
  ∃z v,y6s P op t vx vy=some v∧VR D ρ lv z v∧k z=some r:=by
 unfold tBin at h
 split at h
 ·rename_i i a i' b
  simp only [VR] at hx hy;subst hx;subst hy
  split at h
  ·obtain ⟨z,h1,h2⟩:=zgf h
   unfold shl at h1
   split at h1
   ·cases h1
   ·rename_i hb
    injection h1 with h1;subst h1
    exact ⟨_,_,by simp only [y6s];rw [if_neg hb],by simp only [VR],h2⟩
  ·obtain ⟨z,h1,h2⟩:=zgf h
   unfold shr at h1
   split at h1
   ·cases h1
   ·rename_i hb
    injection h1 with h1;subst h1
    exact ⟨_,_,by simp only [y6s];rw [if_neg hb],by simp only [VR],h2⟩
  ·rename_i hn1 hn2
   split at h
   ·rename_i hi
    subst hi
    have key:∀v,yfa op i a b=some v->y6s P op t (.int i a) (.int i b)=some v:=λv hv=>by
     unfold y6s
     cases op <;> first|exact (hn1 rfl).elim|exact (hn2 rfl).elim|(simp only [if_true];exact hv)
    split at h
    all_goals first
     |(refine ⟨_,_,key _ rfl,by simp only [VR],h⟩;done)
     |skip
    ·obtain ⟨z,h1,h2⟩:=zgf h
     obtain ⟨h3,rfl⟩:=z03s h1
     exact ⟨_,_,key _ (by simp only [yfa];rw [if_neg h3]),by simp only [VR],h2⟩
    ·obtain ⟨z,h1,h2⟩:=zgf h
     obtain ⟨h3,rfl⟩:=z05f h1
     exact ⟨_,_,key _ (by simp only [yfa];rw [if_neg h3]),by simp only [VR],h2⟩
    ·cases h
   ·cases h
 ·rename_i a b
  simp only [VR] at hx hy;subst hx;subst hy
  split at h
  ·obtain ⟨z,h1,h2⟩:=zgf h
   obtain ⟨h3,rfl⟩:=z05v h1
   exact ⟨_,_,by simp only [y6s,yyr];rw [if_pos h3],by simp only [VR],h2⟩
  ·exact ⟨_,_,rfl,by simp only [VR],h⟩
  ·exact ⟨_,_,rfl,by simp only [VR],h⟩
  ·exact ⟨_,_,rfl,by simp only [VR],h⟩
  ·exact ⟨_,_,rfl,by simp only [VR],h⟩
  ·exact ⟨_,_,rfl,by simp only [VR],h⟩
  ·exact ⟨_,_,rfl,by simp only [VR],h⟩
  ·cases h
 ·split at h
  ·split at h
   ·rename_i ho
    split at h
    ·rename_i b hb
     obtain ⟨h1,h2,h3⟩:=yvo hb ho hx hy
     exact ⟨_,_,z05c h1 h2 h3 (y37 hb hx hy),by simp only [VR],h⟩
    ·cases h
   ·cases h
  ·split at h
   ·rename_i ho
    split at h
    ·rename_i b hb
     obtain ⟨h1,h2,h3⟩:=yvo hb ho hx hy
     exact ⟨_,_,z03p h1 h2 h3 (y37 hb hx hy),by simp only [VR],h⟩
    ·cases h
   ·cases h
  ·cases h
variable (hD : D.Ok P)
include hD
omit hD in
theorem yyn {t:DTy} {xs:List (t.S D.T)} {ws:List V} (hl:ws.length=xs.length) (h:∀(j:Nat) (x:t.S D.T) (w:V),xs[j]? = some x->ws[j]? = some w->DR D t x w) {n:Int} {y:t.S D.T} (hy:ix xs n=some y):0<=n∧n.toNat<ws.length∧∃w,ws[n.toNat]? = some w∧DR D t y w:=by
 obtain ⟨h1,h2⟩:=yo5 hy
 have hlt:n.toNat<ws.length:=by rw [hl];exact (List.getElem?_eq_some_iff.1 h2).1
 exact ⟨h1,hlt,ws[n.toNat],List.getElem?_eq_getElem hlt,h _ _ _ h2 (List.getElem?_eq_getElem hlt)⟩
omit hD in
theorem y1a {R:Type} {r:R}:∀{len:Nat} {n:Int} {f:Nat->Option R},0<=n->n<(len:Int)->y5e len n f=some r->∃m,m<len∧n=Int.ofNat m∧f m=some r
 |0,_,_,_,_,h=>by cases h
 |1,n,f,h0,h1,h=>⟨0,by omega,by simp only [Int.ofNat_eq_natCast];omega,h⟩
 |len+2,n,f,h0,h1,h=>by
  simp only [y5e] at h
  rw [yb7] at h
  split at h
  · rename_i hc;exact ⟨len+1,by omega,by simpa using hc,h⟩
  · rename_i hc
    have hne:n≠((len+1:Nat):Int):=by simpa using hc
    obtain ⟨m,h2,h3,h4⟩:=y1a h0 (by omega) h
    exact ⟨m,by omega,h3,h4⟩
omit hD in
theorem y0w {R:Type} {t len e:Nat} {ik:IntKind} {H:yz3} {x:TV D.T} {vx:V} {k:TV D.T->Option R} {r:R} {m:Nat} (hu:P.underlying t=some (.array len e)) (h:ybi P len e x k m=some r) (hx:VR D ρ lv x vx) :
  ∃z v,z0h P H t vx (.int ik (Int.ofNat m))=some v∧VR D ρ lv z v∧k z=some r:=by
 unfold ybi at h
 split at h
 ·rename_i hc
  have hn0:(0:Int)<=Int.ofNat m:=Int.natCast_nonneg m
  have hlt:Int.ofNat m<(len:Int):=Int.ofNat_lt.2 hc.1
  split at h
  ·rename_i cs off
   simp only [VR] at hx
   obtain ⟨vs,rfl,hv⟩:=hx
   exact ⟨_,.ref vs (off+m * P.cellsOf e),by unfold z0h;simp only;rw [if_pos hn0,hu];simp only;rw [if_pos ⟨hlt,hc.2⟩];rfl,by simp only [VR];exact ⟨vs,rfl,hv⟩,h⟩
  ·rename_i s off
   simp only [VR] at hx
   obtain ⟨sl,j,h1,h2,rfl⟩:=hx
   exact ⟨_,.ptr lv j (off+m * P.cellsOf e),by unfold z0h;simp only;rw [if_pos hn0,hu];simp only;rw [if_pos ⟨hlt,hc.2⟩];rfl,by simp only [VR];exact ⟨sl,j,h1,h2,rfl⟩,h⟩
  ·rename_i s τ i' x' off
   simp only [VR] at hx
   obtain ⟨sl,w,h1,h2,h3,h4,h5⟩:=hx
   cases hk:sl.k with
   |none =>
    rw [hk] at h5;simp only at h5;subst h5
    exact ⟨_,.ref w.cells (off+m * P.cellsOf e),by unfold z0h;simp only;rw [if_pos hn0,hu];simp only;rw [if_pos ⟨hlt,hc.2⟩];rfl,by simp only [VR];exact ⟨sl,w,h1,h2,h3,h4,by rw [hk]⟩,h⟩
   |some j =>
    rw [hk] at h5
    obtain ⟨ver,n,e1,rfl⟩:=h5
    exact ⟨_,.ap lv j ver i'.toNat (off+m * P.cellsOf e),by unfold z0h;simp only;rw [if_pos hn0,hu];simp only;rw [if_pos ⟨hlt,hc.2⟩];rfl,by simp only [VR];exact ⟨sl,w,h1,h2,h3,h4,by rw [hk];exact ⟨ver,n,e1,rfl⟩⟩,h⟩
  ·cases h
 ·cases h
theorem y5x {R:Type} (hR:TRr D F ρ ts σ) {t:Nat} {x i:TV D.T} {vx vi:V} {k:TV D.T->Option R} {r:R} (h:y2c P D ts t x i k=some r) (hx:VR D ρ F.lv x vx) (hi:VR D ρ F.lv i vi) :
  ∃z v,z0h P σ.H t vx vi=some v∧VR D ρ F.lv z v∧k z=some r:=by
 unfold y2c at h
 split at h
 ·rename_i ik n
  simp only [VR] at hi;subst hi
  split at h
  ·rename_i e hu
   split at h
   ·rename_i he
    split at h
    ·rename_i τ xs fl
     split at h
     ·rename_i hz
      obtain ⟨y,hy,h⟩:=zgf h
      simp only [VR] at hx
      obtain ⟨hx,_⟩:=hx
      cases hx with
      |nil=>obtain ⟨_,h2⟩:=yo5 hy;simp at h2
      |sl _ _ ws full hl hh =>
       obtain ⟨h1,h2,w,h3,h4⟩:=yyn hl hh hy
       refine ⟨_,.ref w.cells 0,?_,?_,h⟩
       · rw [y1b,if_pos h1,hu]
         simp only
         rw [if_pos ⟨hz,he⟩,h3];rfl
       · simp only [VR];exact ⟨_,rfl,VR.ypj hD h4⟩
     ·cases h
    ·rename_i s
     split at h
     ·rename_i ty τ xs w ho
      split at h
      ·rename_i hz
       obtain ⟨y,hy,h⟩:=zgf h
       simp only [VR] at hx
       obtain ⟨sl,h1,rfl,hleaf⟩:=hx
       obtain ⟨sl',k1,k2⟩:=hR.ob _ _ ho
       rw [h1] at k1;injection k1 with k1;subst k1
       simp only [OR] at k2
       obtain ⟨q1,q2,q3⟩:=k2
       obtain ⟨p1,p2,u,p3,p4⟩:=yyn q1 q2 hy
       cases hk:sl.k with
       |none =>
        rw [hk] at q3
        rcases q3 with ⟨e1,e2⟩|⟨e1,e2⟩
        · rw [e2] at p3;simp at p3
        · refine ⟨_,.ref u.cells 0,?_,?_,h⟩
          · rw [e1.1,y1b,if_pos p1,hu]
            simp only
            rw [if_pos ⟨hz,he⟩,p3];rfl
          · simp only [VR];exact ⟨sl,u,h1,p1,p3,p4,by rw [hk]⟩
       |some j =>
        rw [hk] at q3
        obtain ⟨ver,cp,e1,e2⟩:=q3
        refine ⟨_,.ap F.lv j ver n.toNat 0,?_,?_,h⟩
        · rw [e1]
          unfold z0h
          simp only
          rw [if_pos p1,hu]
          simp only [hR.get e2]
          rw [if_pos ⟨trivial,hz,he,by omega⟩];simp
        · simp only [VR];exact ⟨sl,u,h1,p1,p3,p4,by rw [hk];exact ⟨ver,_,e1,by simp⟩⟩
      ·cases h
     ·cases h
    ·cases h
   ·cases h
  ·rename_i len e hu
   split at h
   ·obtain ⟨_,hr,h⟩:=zgf h
    unfold inR at hr
    split at hr
    ·rename_i hc
     obtain ⟨m,hm,rfl,h2⟩:=y1a hc.1 hc.2 h
     exact y0w hu h2 hx
    ·cases hr
   ·split at h
    ·exact y0w hu h hx
    ·cases h
  ·cases h
 ·cases h
omit hD in
theorem yx4 {t:DTy}:∀{cs:List (TV D.T)} {xs:List (t.S D.T)},yt2 D t cs = .ok xs->xs.length=cs.length
 |[],xs,h=>by simp only [yt2] at h;injection h with h;subst h;rfl
 |c::cs,xs,h=>by
  simp only [yt2] at h
  split at h
  · split at h
    · rename_i ys hys;injection h with h;subst h;simp [yx4 hys]
    · cases h
    · cases h
  · cases h
  · cases h
theorem ypt {R:Type} {t:Nat} {x i:TV D.T} {vx vi:V} {k:TV D.T->Option R} {r:R} (h:yyd P D t x i k=some r) (hx:VR D ρ lv x vx) (hi:VR D ρ lv i vi) :
  ∃z v,y79 P t vx vi=some v∧VR D ρ lv z v∧k z=some r:=by
 unfold yyd at h
 split at h
 ·rename_i ik n
  simp only [VR] at hi;subst hi
  split at h
  ·rename_i s
   simp only [VR] at hx;subst hx
   split at h
   ·rename_i hu
    obtain ⟨b,hb,h⟩:=zgf h
    obtain ⟨h1,h2⟩:=yo5 hb
    refine ⟨_,.int .u8 b.toNat,?_,by simp only [VR],h⟩
    unfold y79;simp only;rw [if_pos h1,hu];simp only [h2];rfl
   ·cases h
  ·rename_i cs
   simp only [VR] at hx
   obtain ⟨vs,rfl,hx⟩:=hx
   split at h
   ·rename_i len e hu
    split at h
    ·rename_i τ hτ
     split at h
     ·rename_i hc
      obtain ⟨c1,c2,c3,c4⟩:=hc
      split at h
      ·split at h
       ·rename_i xs hxs
        obtain ⟨y,hy,h⟩:=zgf h
        obtain ⟨k1,k2⟩:=y29 hD hxs hx
        obtain ⟨p1,p2,u,p3,p4⟩:=yyn k1 k2 hy
        have hlen:vs.length=len:=by rw [k1,yx4 hxs,c1]
        refine ⟨_,u,?_,VR.leaf p4,h⟩
        unfold y79;simp only;rw [if_pos p1,hu];simp only
        rw [if_pos ⟨by omega,c3⟩,c2,Nat.mul_one]
        unfold rd
        rw [Option.any_eq_true] at c4
        obtain ⟨d,hd,hag⟩:=c4
        rw [hd]
        cases d <;> first|exact p3|(simp [TypeDesc.isAgg] at hag)
       ·cases h
      ·cases h
     ·cases h
    ·cases h
   ·cases h
  ·cases h
 ·cases h
omit hD in
theorem z03z {d n:Nat} {o:Option (TV D.T)} {l:Int} {vo:Option V} (hd:d<=n) (h:ys4 D (d:Int) o=some l) (hv:∀x,o=some x->∃v,vo=some v∧VR D ρ lv x v) (hn:o=none->vo=none) (h0:0<=l) (hl:l<=n):bnd n d vo=some l.toNat:=by
 unfold ys4 at h
 split at h
 ·injection h with h;subst h;rw [hn rfl];simp [bnd]
 ·rename_i ik x
  injection h with h;subst h
  obtain ⟨v,e1,e2⟩:=hv _ rfl
  simp only [VR] at e2
  subst e2
  rw [e1]
  simp only [bnd];rw [if_pos ⟨h0,hl⟩]
 ·cases h
omit hD in
theorem ytb {R:Type} {t:Nat} {x:TV D.T} {lo hi:Option (TV D.T)} {vx:V} {vlo vhi:Option V} {k:TV D.T->Option R} {kf:Nat->Option R} {r:R} (h:yxx P D t x lo hi k kf=some r) (hx:VR D ρ lv x vx)
  (hlo:∀y,lo=some y->∃v,vlo=some v∧VR D ρ lv y v) (hlo0:lo=none->vlo=none) (hhi:∀y,hi=some y->∃v,vhi=some v∧VR D ρ lv y v) (hhi0:hi=none->vhi=none) (H:yz3) :
  (∃z v,zlx P H t vx vlo vhi none=some v∧VR D ρ lv z v∧k z=some r)∨∃s,kf s=some r:=by
 unfold yxx at h
 have bounds:∀{n:Nat} {l q:Int},ys4 D 0 lo=some l->ys4 D (n:Int) hi=some q->0<=l->l<=q->q<=n->zkm n vlo vhi none=some (l.toNat,q.toNat,none):=λ{n l q} hl hq h1 h2 h3=>by
  simp only [zkm]
  rw [z03z (Nat.le_refl n) hq hhi hhi0 (by omega) h3]
  simp only [Option.bind_some]
  rw [z03z (d:=0) (n:=q.toNat) (Nat.zero_le _) hl hlo hlo0 h1 (by omega)]
  rfl
 split at h
 ·rename_i s
  simp only [VR] at hx;subst hx
  split at h
  ·rename_i hu
   split at h
   ·rename_i l q hl hq
    obtain ⟨y,hy,h⟩:=zgf h
    obtain ⟨h1,h2,h3,rfl,_⟩:=yvh hy
    left
    exact ⟨_,.str ((s.take q.toNat).drop l.toNat),by simp only [zlx,hu,bounds hl hq h1 h2 h3,Option.map_some],by simp only [VR],h⟩
   ·cases h
  ·cases h
 ·rename_i τ xs fl
  simp only [VR] at hx
  obtain ⟨hx,hf1,hf2⟩:=hx
  split at h
  ·rename_i e hu
   split at h
   ·rename_i hz
    split at h
    ·rename_i l q hl hq
     obtain ⟨y,hy,h⟩:=zgf h
     obtain ⟨h1,h2,h3,rfl,_⟩:=yvh hy
     left
     cases hx with
     |nil =>
      refine ⟨_,.nils,?_,?_,h⟩
      · have hb:zkm 0 vlo vhi none=some (l.toNat,q.toNat,none):=bounds hl hq h1 h2 h3
        simp only [zlx,hu];rw [if_pos hz.2,hb];rfl
      · simp only [VR]
        refine ⟨by simp only [List.take_nil,List.drop_nil];exact .nil τ,λhfl => ?_,λhfl=>by simp⟩
        have:1<=fl:=by
         split at hfl
         · omega
         · omega
        obtain ⟨ws,hw⟩:=hf1 this
        cases hw
     |sl _ _ ws full hlw hh =>
      refine ⟨_,.sl (D.len τ) ((ws.take q.toNat).drop l.toNat) (full&&q.toNat==ws.length),?_,?_,h⟩
      rotate_left
      · simp only [VR]
        refine ⟨.sl τ _ ((ws.take q.toNat).drop l.toNat) (full&&q.toNat==ws.length) (by simp [hlw]) λj x w hx hw => ?_,λhfl => ?_,λhfl => ?_⟩
        · rw [List.getElem?_drop,List.getElem?_take] at hx hw
          split at hx
          · rw [if_pos ‹_›] at hw;exact hh _ _ _ hx hw
          · cases hx
        · have hfl':hi=none∧1<=fl:=by
           split at hfl
           · exact ⟨by first|assumption|rfl,by omega⟩
           · omega
          obtain ⟨ws',hw'⟩:=hf1 hfl'.2
          injection hw' with _ _ hw'
          subst hw'
          have hqn:q=xs.length:=by
           rw [hfl'.1] at hq
           simp only [ys4,Option.some.injEq] at hq
           exact hq.symm
          refine ⟨(ws.take q.toNat).drop l.toNat,?_⟩
          have:(q.toNat==ws.length)=true:=by rw [hqn,hlw];simp
          rw [this];rfl
        · exfalso
          split at hfl
          · omega
          · omega
      · have hb:zkm ws.length vlo vhi none=some (l.toNat,q.toNat,none):=by rw [hlw];exact bounds hl hq h1 h2 h3
        simp only [zlx,hu];rw [if_pos hz,hb];simp
    ·cases h
   ·cases h
  ·cases h
 ·exact .inr ⟨_,h⟩
 ·cases h
omit hD in
theorem TRr.oev (hR:TRr D F ρ ts σ) {o:Option Operand} {x:Option (TV D.T)} (h:oev D ts o=some x):(∀y,x=some y->∃v,o.map σ.ev=some v∧VR D ρ F.lv y v)∧(x=none->o.map σ.ev=none):=by
 cases o with
 |none=>simp only [Go.Ab.oev,Option.some.injEq] at h;subst h;exact ⟨by simp,λ_=>rfl⟩
 |some o =>
  simp only [Go.Ab.oev,Option.map_eq_some_iff] at h
  obtain ⟨y,hy,rfl⟩:=h
  exact ⟨λz hz=>by injection hz with hz;subst hz;exact ⟨_,rfl,hR.ev hy⟩,by simp⟩
omit hD in
theorem DR.flat {t:DTy} (ht:t.flat=true) {x:t.S D.T} {v:V} (h:DR D t x v):v=D.el t x:=by
 cases h <;> first|rfl|cases ht
theorem yhh {R:Type} (hR:TRr D F ρ ts σ) {t:Nat} {x key:TV D.T} {vx vk:V} {ok:Bool} {k:TV D.T->Option R} {r:R} (h:ysd P D ts t x key ok k=some r) (hx:VR D ρ F.lv x vx) (hk:VR D ρ F.lv key vk) :
  ∃z v,zwc P σ.H t vx vk ok=some v∧VR D ρ F.lv z v∧k z=some r:=by
 unfold ysd at h
 split at h
 ·rename_i kt e s hu
  simp only [VR] at hk;subst hk
  split at h
  ·rename_i z hkt hz
   obtain ⟨vz,hz1,hz2⟩:=zrq (ρ:=ρ) (lv:=F.lv) hz
   split at h
   ·rename_i q
    split at h
    ·rename_i ty τ es ho
     simp only [VR] at hx
     obtain ⟨sl,i,h1,h2,rfl⟩:=hx
     obtain ⟨sl',k1,k2⟩:=hR.ob _ _ ho
     rw [h1] at k1;injection k1 with k1;subst k1
     simp only [OR] at k2
     obtain ⟨i',ms,q1,q2,q4,q3⟩:=k2
     rw [h2] at q1;injection q1 with q1;subst q1
     split at h
     ·rename_i z0 hz0
      have h0:DR D τ z0 vz:=zpu hD hz0 hz2
      obtain ⟨l1,l2⟩:=z001 (P:=P) (f:=λx:τ.S D.T×V=>x.2) (m:=ms) hu hkt hz1 (hR.get q3) s (z0,vz) rfl
      have eg:z3p es s=(z3p ms s).map Prod.fst:=by rw [q2];exact yun Prod.fst s ms
      have hv:VR D ρ F.lv (D.tv τ ((z3p es s).getD z0)) ((z3p ms s).getD (z0,vz)).2:=by
       rw [eg]
       cases hm:z3p ms s with
       |none=>exact VR.tv hD h0
       |some p =>
        obtain ⟨q,a1,a2⟩:=ydy hm
        subst a2
        exact VR.tv hD (q4 q a1)
      have hs:(z3p es s).isSome=(z3p ms s).isSome:=by rw [eg];cases z3p ms s <;> rfl
      cases ok
      ·exact ⟨_,_,l1,hv,h⟩
      ·exact ⟨_,_,l2,by
        simp only [VR,VRL]
        exact ⟨_,rfl,_,_,rfl,hv,_,_,rfl,by rw [hs],rfl⟩,h⟩
     ·cases h
    ·cases h
   ·cases h
  ·cases h
 ·cases h
theorem yd0 {R:Type} (hR:TRr D F ρ ts σ) {op:Op} {k:TV D.T->Option R} {kf:Nat->Option R} {r:R} (h:tP P D ts op k kf=some r) :
  (∃x v,pv P σ.H σ.ev op=some v∧VR D ρ F.lv x v∧k x=some r)∨∃s,kf s=some r:=by
 unfold tP at h
 split at h
 ·rename_i c a b
  split at h
  ·rename_i t x y hc hx hy
   have h1:=hR.ev hc
   simp only [VR] at h1
   left
   rw [yb7] at h
   split at h
   ·rename_i ht;exact ⟨x,_,by simp only [pv,h1];rw [if_pos ht],hR.ev hx,h⟩
   ·rename_i ht;exact ⟨y,_,by simp only [pv,h1];rw [if_neg ht],hR.ev hy,h⟩
  ·cases h
 ·split at h
  ·rename_i hx hy
   left
   obtain ⟨z,v,h1,h2,h3⟩:=yy6 h (hR.ev hx) (hR.ev hy)
   exact ⟨z,v,h1,h2,h3⟩
  ·cases h
 ·split at h
  ·rename_i hx hy
   left
   obtain ⟨z,v,h1,h2,h3⟩:=y5x hD hR h (hR.ev hx) (hR.ev hy)
   exact ⟨z,v,h1,h2,h3⟩
  ·cases h
 ·split at h
  ·rename_i hx hy
   left
   obtain ⟨z,v,h1,h2,h3⟩:=ypt hD h (hR.ev hx) (hR.ev hy)
   exact ⟨z,v,h1,h2,h3⟩
  ·cases h
 ·split at h
  ·rename_i hx hy
   left
   obtain ⟨z,v,h1,h2,h3⟩:=yhh hD hR h (hR.ev hx) (hR.ev hy)
   exact ⟨z,v,h1,h2,h3⟩
  ·cases h
 ·split at h
  ·rename_i hx hlo hhi
   obtain ⟨a1,a2⟩:=hR.oev hlo
   obtain ⟨b1,b2⟩:=hR.oev hhi
   exact ytb h (hR.ev hx) a1 a2 b1 b2 σ.H
  ·cases h
 ·split at h
  ·rename_i v hv
   obtain ⟨u,h1,h2⟩:=z01y hD hR hv
   exact .inl ⟨v,u,h1,h2,h⟩
  ·exact .inr ⟨_,h⟩
  ·cases h
end
end Go.Ab
namespace Go.Ab
open Go
set_option linter.unusedVariables false
set_option linter.unusedSimpArgs false
set_option linter.unusedSectionVars false
section
variable {P : Program} {D : Dat} {F : Fr} {ρ : List Slot} {ts : TS D.T} {σ : St} {lv : Nat}
theorem OR.mono {L L':List (Option kz7)} {sl:Slot} {o:TO D.T} (h:OR D ρ lv L sl o) (e:List Slot) (hL:∀i,sl.k=some i->o.live->L'[i]? = L[i]?):OR D (ρ++e) lv L' sl o:=by
 cases o with
 |cells cs =>
  simp only [OR] at h ⊢
  obtain ⟨i,vs,h1,h2,h3⟩:=h
  exact ⟨i,vs,h1,by rw [hL i h1 trivial];exact h2,h3.more e⟩
 |acc ty t xs w =>
  simp only [OR] at h ⊢
  obtain ⟨h1,h2,h3⟩:=h
  refine ⟨h1,h2,?_⟩
  cases hk:sl.k with
  |none=>rw [hk] at h3;exact h3
  |some i =>
   rw [hk] at h3
   obtain ⟨ver,cp,k1,k2⟩:=h3
   exact ⟨ver,cp,k1,by rw [hL i hk trivial];exact k2⟩
 |siter s pos =>
  simp only [OR] at h ⊢
  obtain ⟨i,h1,h2⟩:=h
  exact ⟨i,h1,by rw [hL i h1 trivial];exact h2⟩
 |mp ty t es =>
  simp only [OR] at h ⊢
  obtain ⟨i,ms,h1,h2,h4,h3⟩:=h
  exact ⟨i,ms,h1,h2,h4,by rw [hL i h1 trivial];exact h3⟩
 |mit t last es =>
  simp only [OR] at h ⊢
  obtain ⟨i,fs,vis,h1,h2,h3,h4⟩:=h
  exact ⟨i,fs,vis,h1,h2,by rw [hL i h1 trivial];exact h3,h4⟩
 |bld ty b =>
  simp only [OR] at h ⊢
  obtain ⟨i,a,c,h1,h2,h3,h4⟩:=h
  exact ⟨i,a,c,h1,by rw [hL i h1 trivial];exact h2,h3,VR.more e h4⟩
 |gone=>simp only [OR]
theorem OR.at {L:List (Option kz7)} {sl:Slot} {o:TO D.T} {i:Nat} (h:OR D ρ lv L sl o) (hl:o.live) (hk:sl.k=some i):∃a,L[i]? = some (some a):=by
 cases o with
 |cells cs =>
  simp only [OR] at h
  obtain ⟨i',vs,h1,h2,h3⟩:=h
  rw [hk] at h1;injection h1 with h1;subst h1
  exact ⟨_,h2⟩
 |acc ty t xs w =>
  simp only [OR] at h
  obtain ⟨h1,h2,h3⟩:=h
  rw [hk] at h3
  obtain ⟨ver,cp,k1,k2⟩:=h3
  exact ⟨_,k2⟩
 |siter s pos =>
  simp only [OR] at h
  obtain ⟨i',h1,h2⟩:=h
  rw [hk] at h1;injection h1 with h1;subst h1
  exact ⟨_,h2⟩
 |mp ty t es =>
  simp only [OR] at h
  obtain ⟨i',ms,h1,_,_,h2⟩:=h
  rw [hk] at h1;injection h1 with h1;subst h1
  exact ⟨_,h2⟩
 |mit t last es =>
  simp only [OR] at h
  obtain ⟨i',fs,vis,h1,_,h2,_⟩:=h
  rw [hk] at h1;injection h1 with h1;subst h1
  exact ⟨_,h2⟩
 |bld ty b =>
  simp only [OR] at h
  obtain ⟨i',a,c,h1,h2,h3⟩:=h
  rw [hk] at h1;injection h1 with h1;subst h1
  exact ⟨_,h2⟩
 |gone=>exact hl.elim
theorem OR.lt {L:List (Option kz7)} {sl:Slot} {o:TO D.T} {i:Nat} (h:OR D ρ lv L sl o) (hl:o.live) (hk:sl.k=some i):i<L.length:=by
 obtain ⟨a,ha⟩:=h.at hl hk
 exact (List.getElem?_eq_some_iff.1 ha).1
theorem TRr.new (hR:TRr D F ρ ts σ) (to:TO D.T) (sl:Slot) (H':yz3) (hlv:H'.lv=F.lv) (hE:H'.E=F.E) (hlen:σ.H.L.length<=H'.L.length) (hL:∀i,i<σ.H.L.length->H'.L[i]? = σ.H.L[i]?)
  (hk:∀i,sl.k=some i->σ.H.L.length<=i) (hor:OR D (ρ++[sl]) F.lv H'.L sl to):TRr D F (ρ++[sl]) (ts.new D to) {σ with H:=H'}:=by
 have hget:(ρ++[sl])[ts.nx]? = some sl:=by rw [<-hR.nx];simp
 have old:∀s o sl',fnd ts.o s=some o->ρ[s]? = some sl'->∀i,sl'.k=some i->o.live->i<σ.H.L.length:=λs o sl' ho hs i hi hl=>by
  obtain ⟨q,h1,h2⟩:=hR.ob s o ho
  rw [hs] at h1;injection h1 with h1;subst h1
  exact h2.lt hl hi
 have hlk:∀s o,ts.nx≠s->fnd (ts.new D to).o s=some o->fnd ts.o s=some o:=λs o hne h=>by
  simp only [TS.new,kzl,if_neg hne] at h;exact h
 have hslot:∀s o sl',fnd ts.o s=some o->(ρ++[sl])[s]? = some sl'->ρ[s]? = some sl':=λs o sl' ho h=>by
  obtain ⟨q,h1,h2⟩:=hR.ob s o ho
  rw [lookup_append h1] at h;rw [h1,h]
 refine ⟨by simp [TS.new,hR.nx],hR.nt,λj x hj => ?_,λs o ho => ?_,λs s' o o' sl1 sl2 i h1 h2 l1 l2 r1 r2 k1 k2 => ?_,λs o sl1 i h1 l1 r1 k1 => ?_,hlv,hE,hR.e0,hR.d.more _,λi hi => ?_,λj sl hj=>lookup_append (hR.pin j sl hj)⟩
 ·obtain ⟨v,h1,h2⟩:=hR.tm j x hj
  exact ⟨v,h1,h2.more _⟩
 ·by_cases hs:ts.nx=s
  ·subst hs
   simp only [TS.new,kzl,if_true,Option.some.injEq] at ho
   subst ho
   exact ⟨sl,hget,hor⟩
  ·obtain ⟨q,h1,h2⟩:=hR.ob s o (hlk s o hs ho)
   exact ⟨q,lookup_append h1,h2.mono _ λi hi hl=>hL i (h2.lt hl hi)⟩
 ·by_cases hs:ts.nx=s <;> by_cases hs':ts.nx=s'
  ·rw [<-hs,<-hs']
  ·subst hs
   rw [hget] at r1;injection r1 with r1;subst r1
   have hq:=hlk s' o' hs' h2
   have:=old s' o' sl2 hq (hslot s' o' sl2 hq r2) i k2 l2
   have:=hk i k1
   omega
  ·subst hs'
   rw [hget] at r2;injection r2 with r2;subst r2
   have hq:=hlk s o hs h1
   have:=old s o sl1 hq (hslot s o sl1 hq r1) i k1 l1
   have:=hk i k2
   omega
  ·have q1:=hlk s o hs h1
   have q2:=hlk s' o' hs' h2
   exact hR.inj s s' o o' sl1 sl2 i q1 q2 l1 l2 (hslot s o sl1 q1 r1) (hslot s' o' sl2 q2 r2) k1 k2
 ·by_cases hs:ts.nx=s
  ·subst hs
   rw [hget] at r1;injection r1 with r1;subst r1
   intro ho
   have:=(hR.out i ho).1
   have:=hk i k1
   omega
  ·have q1:=hlk s o hs h1
   exact hR.mine s o sl1 i q1 l1 (hslot s o sl1 q1 r1) k1
 ·obtain ⟨h1,h2⟩:=hR.out i hi
  exact ⟨Nat.lt_of_lt_of_le h1 hlen,(hL i h1).trans h2⟩
theorem TRr.upd (hR:TRr D F ρ ts σ) {s i:Nat} {o0:TO D.T} {sl:Slot} (hs:fnd ts.o s=some o0) (hl:o0.live) (hr:ρ[s]? = some sl) (hk:sl.k=some i) (to:TO D.T) (ao:kz7)
  (hor:OR D ρ F.lv (σ.H.L.set i (some ao)) sl to):TRr D F ρ (ts.set D s to) {σ with H:={σ.H with L:=σ.H.L.set i (some ao)}}:=by
 have hlk:∀s' o,s≠s'->fnd (ts.set D s to).o s'=some o->fnd ts.o s'=some o:=λs' o hne h=>by
  simp only [TS.set,kzl,if_neg hne] at h;exact h
 have live':∀s' o,fnd (ts.set D s to).o s'=some o->o.live->∃o',fnd ts.o s'=some o'∧o'.live:=λs' o h l=>by
  by_cases he:s=s'
  ·subst he;exact ⟨o0,hs,hl⟩
  ·exact ⟨o,hlk s' o he h,l⟩
 refine ⟨hR.nx,hR.nt,hR.tm,λs' o ho => ?_,λs1 s2 o1 o2 sl1 sl2 i' h1 h2 l1 l2 r1 r2 k1 k2 => ?_,λs1 o1 sl1 i1 h1 l1 r1 k1 => ?_,hR.lv,hR.E,hR.e0,hR.d,λj hj => ?_,hR.pin⟩
 ·by_cases he:s=s'
  ·subst he
   simp only [TS.set,kzl,if_true,Option.some.injEq] at ho
   subst ho
   exact ⟨sl,hr,hor⟩
  ·have hq:=hlk s' o he ho
   obtain ⟨q,h1,h2⟩:=hR.ob s' o hq
   refine ⟨q,h1,?_⟩
   have:=h2.mono (L':=σ.H.L.set i (some ao)) [] λj hj hl' => ?_
   ·simpa using this
   ·have hne:i≠j:=λe=>by
     subst e
     exact he (hR.inj s s' o0 o sl q i hs hq hl hl' hr h1 hk hj)
    rw [List.getElem?_set_ne hne]
 ·obtain ⟨o1',q1,l1'⟩:=live' s1 o1 h1 l1
  obtain ⟨o2',q2,l2'⟩:=live' s2 o2 h2 l2
  exact hR.inj s1 s2 o1' o2' sl1 sl2 i' q1 q2 l1' l2' r1 r2 k1 k2
 ·obtain ⟨o1',q1,l1'⟩:=live' s1 o1 h1 l1
  exact hR.mine s1 o1' sl1 i1 q1 l1' r1 k1
 ·obtain ⟨h1,h2⟩:=hR.out j hj
  refine ⟨by simpa using h1,?_⟩
  have hne:i≠j:=λe=>by subst e;exact hR.mine s o0 sl i hs hl hr hk hj
  show (σ.H.L.set i (some ao))[j]? = _
  rw [List.getElem?_set_ne hne];exact h2
theorem TRr.move (hR:TRr D F ρ ts σ) {s i:Nat} {o0:TO D.T} {sl:Slot} (hs:fnd ts.o s=some o0) (hl:o0.live) (hr:ρ[s]? = some sl) (hk:sl.k=some i) (to:TO D.T) (ao:kz7) (sl':Slot) (hk':sl'.k=some i)
  (hor:OR D (ρ++[sl']) F.lv (σ.H.L.set i (some ao)) sl' to):TRr D F (ρ++[sl']) ((ts.new D to).set D s .gone) {σ with H:={σ.H with L:=σ.H.L.set i (some ao)}}:=by
 have hget:(ρ++[sl'])[ts.nx]? = some sl':=by rw [<-hR.nx];simp
 have hsn:s≠ts.nx:=λe=>by
  have:=(List.getElem?_eq_some_iff.1 hr).1
  rw [hR.nx,e] at this;omega
 have hlk:∀s' o,o.live->fnd ((ts.new D to).set D s .gone).o s'=some o->s≠s'∧((ts.nx=s'∧o=to)∨(ts.nx≠s'∧fnd ts.o s'=some o)):=λs' o hlo h=>by
  by_cases he:s=s'
  ·subst he
   simp only [TS.set,kzl,if_true,Option.some.injEq] at h
   subst h;exact hlo.elim
  ·simp only [TS.set,TS.new,kzl,if_neg he] at h
   by_cases hn:ts.nx=s'
   ·rw [if_pos hn] at h;injection h with h;exact ⟨he,.inl ⟨hn,h.symm⟩⟩
   ·rw [if_neg hn] at h;exact ⟨he,.inr ⟨hn,h⟩⟩
 have hslot:∀s o sl1,fnd ts.o s=some o->(ρ++[sl'])[s]? = some sl1->ρ[s]? = some sl1:=λs o sl1 ho h=>by
  obtain ⟨q,h1,h2⟩:=hR.ob s o ho
  rw [lookup_append h1] at h;rw [h1,h]
 refine ⟨by simp [TS.new,TS.set,hR.nx],hR.nt,λj x hj => ?_,λs' o ho => ?_,λs1 s2 o1 o2 sl1 sl2 i' h1 h2 l1 l2 r1 r2 k1 k2 => ?_,λs1 o1 sl1 i1 h1 l1 r1 k1 => ?_,hR.lv,hR.E,hR.e0,hR.d.more _,λj hj => ?_,λj sl hj=>lookup_append (hR.pin j sl hj)⟩
 ·obtain ⟨v,h1,h2⟩:=hR.tm j x hj
  exact ⟨v,h1,h2.more _⟩
 ·by_cases hlo:o.live
  ·rcases (hlk s' o hlo ho).2 with ⟨hn,rfl⟩|⟨hn,hq⟩
   ·subst hn;exact ⟨sl',hget,hor⟩
   ·obtain ⟨q,h1,h2⟩:=hR.ob s' o hq
    refine ⟨q,lookup_append h1,h2.mono [sl'] λj hj hl' => ?_⟩
    have hne:i≠j:=λe=>by
     subst e
     exact (hlk s' o hlo ho).1 (hR.inj s s' o0 o sl q i hs hq hl hl' hr h1 hk hj)
    rw [List.getElem?_set_ne hne]
  ·have hg:o = .gone:=by cases o <;> first|rfl|exact (hlo trivial).elim
   subst hg
   by_cases he:s=s'
   ·subst he;exact ⟨sl,lookup_append hr,by simp only [OR]⟩
   ·simp only [TS.set,TS.new,kzl,if_neg he] at ho
    by_cases hn:ts.nx=s'
    ·subst hn;exact ⟨sl',hget,by simp only [OR]⟩
    ·rw [if_neg hn] at ho
     obtain ⟨q,h1,h2⟩:=hR.ob s' _ ho
     exact ⟨q,lookup_append h1,by simp only [OR]⟩
 ·obtain ⟨n1,c1⟩:=hlk s1 o1 l1 h1
  obtain ⟨n2,c2⟩:=hlk s2 o2 l2 h2
  rcases c1 with ⟨e1,rfl⟩|⟨e1,q1⟩ <;> rcases c2 with ⟨e2,rfl⟩|⟨e2,q2⟩
  ·rw [<-e1,<-e2]
  ·subst e1
   rw [hget] at r1;injection r1 with r1;subst r1
   rw [hk'] at k1;injection k1 with k1;subst k1
   exact (n2 (hR.inj s s2 o0 o2 sl sl2 i hs q2 hl l2 hr (hslot _ _ _ q2 r2) hk k2)).elim
  ·subst e2
   rw [hget] at r2;injection r2 with r2;subst r2
   rw [hk'] at k2;injection k2 with k2;subst k2
   exact (n1 (hR.inj s s1 o0 o1 sl sl1 i hs q1 hl l1 hr (hslot _ _ _ q1 r1) hk k1)).elim
  ·exact hR.inj s1 s2 o1 o2 sl1 sl2 i' q1 q2 l1 l2 (hslot _ _ _ q1 r1) (hslot _ _ _ q2 r2) k1 k2
 ·obtain ⟨n1,c1⟩:=hlk s1 o1 l1 h1
  rcases c1 with ⟨e1,rfl⟩|⟨e1,q1⟩
  ·subst e1
   rw [hget] at r1;injection r1 with r1;subst r1
   rw [hk'] at k1;injection k1 with k1;subst k1
   exact hR.mine s o0 sl i hs hl hr hk
  ·exact hR.mine s1 o1 sl1 i1 q1 l1 (hslot _ _ _ q1 r1) k1
 ·obtain ⟨h1,h2⟩:=hR.out j hj
  refine ⟨by simpa using h1,?_⟩
  have hne:i≠j:=λe=>by subst e;exact hR.mine s o0 sl i hs hl hr hk hj
  show (σ.H.L.set i (some ao))[j]? = _
  rw [List.getElem?_set_ne hne];exact h2
theorem TRr.drop (hR:TRr D F ρ ts σ) (s:Nat) (hs:s<ts.nx):TRr D F ρ (ts.set D s .gone) σ:=by
 have hlk:∀s' o,o.live->fnd (ts.set D s .gone).o s'=some o->fnd ts.o s'=some o:=λs' o hl h=>by
  simp only [TS.set,kzl] at h
  split at h
  ·injection h with h;subst h;exact hl.elim
  ·exact h
 refine ⟨hR.nx,hR.nt,hR.tm,λs' o ho => ?_,λs1 s2 o1 o2 sl1 sl2 i' h1 h2 l1 l2=>hR.inj s1 s2 o1 o2 sl1 sl2 i' (hlk _ _ l1 h1) (hlk _ _ l2 h2) l1 l2,λs1 o1 sl1 i1 h1 l1=>hR.mine s1 o1 sl1 i1 (hlk _ _ l1 h1) l1,hR.lv,hR.E,hR.e0,hR.d,hR.out,hR.pin⟩
 simp only [TS.set,kzl] at ho
 split at ho
 ·rename_i he
  injection ho with ho;subst ho;subst he
  have:s<ρ.length:=by rw [hR.nx];exact hs
  exact ⟨ρ[s],List.getElem?_eq_getElem this,by simp only [OR]⟩
 ·exact hR.ob s' o ho
mutual
theorem VR.ren {s s':Nat} {sl sl':Slot} (h1:ρ[s]? = some sl) (h2:ρ[s']? = some sl') (he:sl'.v=sl.v):∀{x:TV D.T} {v:V},VR D ρ lv x v->VR D ρ lv (TV.ren D s s' x) v
 | .own j,v,h=>by
   simp only [TV.ren]
   split
   · rename_i hj
     subst hj
     simp only [VR] at h ⊢
     obtain ⟨q,k1,k2,k3⟩:=h
     rw [h1] at k1;injection k1 with k1;subst k1
     exact ⟨sl',h2,by rw [he];exact k2,k3⟩
   · exact h
 | .agg cs,v,h=>by simp only [TV.ren,VR] at h ⊢;obtain ⟨vs,k1,k2⟩:=h;exact ⟨vs,k1,VRL.ren h1 h2 he k2⟩
 | .tup cs,v,h=>by simp only [TV.ren,VR] at h ⊢;obtain ⟨vs,k1,k2⟩:=h;exact ⟨vs,k1,VRL.ren h1 h2 he k2⟩
 | .any,v,h=>by simpa only [TV.ren] using h
 | .bool b,v,h=>by simpa only [TV.ren] using h
 | .int k n,v,h=>by simpa only [TV.ren] using h
 | .str b,v,h=>by simpa only [TV.ren] using h
 | .nilp,v,h=>by simpa only [TV.ren] using h
 | .nils,v,h=>by simpa only [TV.ren] using h
 | .mapn,v,h=>by simpa only [TV.ren] using h
 | .nilf,v,h=>by simpa only [TV.ren] using h
 | .nili,v,h=>by simpa only [TV.ren] using h
 | .sl t xs fl,v,h=>by simpa only [TV.ren] using h
 | .ptr j off,v,h=>by simpa only [TV.ren] using h
 | .bp j off,v,h=>by simpa only [TV.ren] using h
 | .osl j lo,v,h=>by simpa only [TV.ren] using h
 | .map j,v,h=>by simpa only [TV.ren] using h
 | .mc t es,v,h=>by simpa only [TV.ren] using h
 | .ref cs off,v,h=>by simpa only [TV.ren] using h
 | .ap j t i x off,v,h=>by simpa only [TV.ren] using h
 | .fn f a b,v,h=>by simpa only [TV.ren] using h
 | .iface t x,v,h=>by simpa only [TV.ren] using h
theorem VRL.ren {s s':Nat} {sl sl':Slot} (h1:ρ[s]? = some sl) (h2:ρ[s']? = some sl') (he:sl'.v=sl.v):∀{cs:List (TV D.T)} {vs:List V},VRL D ρ lv cs vs->VRL D ρ lv (TV.y0q D s s' cs) vs
 |[],vs,h=>by simpa only [TV.y0q] using h
 |c::cs,vs,h=>by simp only [TV.y0q,VRL] at h ⊢;obtain ⟨v,r,k1,k2,k3⟩:=h;exact ⟨v,r,k1,VR.ren h1 h2 he k2,VRL.ren h1 h2 he k3⟩
end
theorem TRr.zrj (hR:TRr D F ρ ts σ) (f:TV D.T->TV D.T) (hf:∀x v,VR D ρ F.lv x v->VR D ρ F.lv (f x) v):TRr D F ρ (ts.zrj D f) σ:=by
 have hlive:∀o:TO D.T,(TO.map D f o).live->o.live:=λo h=>by cases o <;> first|exact h|trivial
 have hob:∀s o,fnd (ts.zrj D f).o s=some o->∃o',fnd ts.o s=some o'∧o=TO.map D f o':=λs o h=>by
  simp only [TS.zrj] at h
  rw [zwi (TO.map D f),Option.map_eq_some_iff] at h
  obtain ⟨o',h1,h2⟩:=h
  exact ⟨o',h1,h2.symm⟩
 refine ⟨hR.nx,hR.nt,λj x hj => ?_,λs o ho => ?_,λs1 s2 o1 o2 sl1 sl2 i h1 h2 l1 l2 => ?_,λs1 o1 sl1 i h1 l1 => ?_,hR.lv,hR.E,hR.e0,hR.d.imp _ (λxs vs k=>VRL.of (by simp [k.length]) λj c v hc hv=>by
  rw [List.getElem?_map,Option.map_eq_some_iff] at hc
  obtain ⟨c0,hc0,rfl⟩:=hc
  exact hf _ _ (k.ylf hc0 hv)),hR.out,hR.pin⟩
 ·simp only [TS.zrj] at hj
  rw [zwi f,Option.map_eq_some_iff] at hj
  obtain ⟨y,hy,rfl⟩:=hj
  obtain ⟨v,h1,h2⟩:=hR.tm j y hy
  exact ⟨v,h1,hf _ _ h2⟩
 ·obtain ⟨o',h1,rfl⟩:=hob s o ho
  obtain ⟨sl,k1,k2⟩:=hR.ob s o' h1
  refine ⟨sl,k1,?_⟩
  cases o' with
  |cells cs =>
   simp only [TO.map,OR] at k2 ⊢
   obtain ⟨i,vs,q1,q2,q3⟩:=k2
   refine ⟨i,vs,q1,q2,.of (by simp [q3.length]) λj c v hc hv => ?_⟩
   rw [List.getElem?_map,Option.map_eq_some_iff] at hc
   obtain ⟨c',hc',rfl⟩:=hc
   exact hf _ _ (q3.ylf hc' hv)
  |acc ty t xs w=>exact k2
  |siter s pos=>exact k2
  |mp ty t es=>exact k2
  |mit t last es=>exact k2
  |bld ty b =>
   cases b with
   |none=>exact k2
   |some q =>
    simp only [OR] at k2
    obtain ⟨i,a,c,q1,q2,q3,q4⟩:=k2
    have h5:VR D ρ F.lv (f (.own q)) c:=hf _ _ q4
    simp only [TO.map]
    split
    · rename_i s' hs'
      rw [hs'] at h5
      simp only [OR]
      exact ⟨i,a,c,q1,q2,q3,h5⟩
    · simp only [OR]
  |gone=>exact k2
 ·obtain ⟨o1',q1,rfl⟩:=hob s1 o1 h1
  obtain ⟨o2',q2,rfl⟩:=hob s2 o2 h2
  exact hR.inj s1 s2 o1' o2' sl1 sl2 i q1 q2 (hlive _ l1) (hlive _ l2)
 ·obtain ⟨o1',q1,rfl⟩:=hob s1 o1 h1
  exact hR.mine s1 o1' sl1 i q1 (hlive _ l1)
theorem TRr.put (hR:TRr D F ρ ts σ) {dst:Option Nat} {x:TV D.T} {v:V} {ts':TS D.T} (h:ts.put D dst x=some ts') (hx:VR D ρ F.lv x v):TRr D F ρ ts' (σ.put dst v):=by
 cases dst with
 |none=>simp only [TS.put,Option.some.injEq] at h;subst h;exact hR
 |some d =>
  simp only [TS.put] at h
  split at h
  · rename_i hd
    injection h with h;subst h
    refine ⟨hR.nx,by simp [St.put,hR.nt],λj y hj => ?_,hR.ob,hR.inj,hR.mine,hR.lv,hR.E,hR.e0,hR.d,hR.out,hR.pin⟩
    rw [kzl] at hj
    simp only [St.put]
    split at hj
    · rename_i he
      injection hj with hj;subst hj;subst he
      exact ⟨v,by rw [List.getElem?_set_self (by rw [hR.nt];exact hd)],hx⟩
    · rename_i he
      obtain ⟨u,h1,h2⟩:=hR.tm j y hj
      exact ⟨u,by rw [List.getElem?_set_ne he];exact h1,h2⟩
  · cases h
theorem TRr.tell (hR:TRr D F ρ ts σ) {d:Nat} {x:TV D.T} {v:V} (h:σ.t[d]? = some v) (hx:VR D ρ F.lv x v):TRr D F ρ {ts with t:=(d,x)::ts.t} σ:=by
 refine ⟨hR.nx,hR.nt,λj y hj => ?_,hR.ob,hR.inj,hR.mine,hR.lv,hR.E,hR.e0,hR.d,hR.out,hR.pin⟩
 rw [kzl] at hj
 split at hj
 ·rename_i he;injection hj with hj;subst hj;subst he;exact ⟨v,h,hx⟩
 ·exact hR.tm j y hj
end
end Go.Ab
namespace Go.Ab
open Go
set_option linter.unusedVariables false
set_option linter.unusedSimpArgs false
set_option linter.unusedSectionVars false
section
variable {P : Program} {D : Dat} {F : Fr} {ρ : List Slot} {ts : TS D.T} {σ : St} {lv : Nat}
theorem z04k {H:yz3} {f:Operand->V} {op:Op} {v:V} (h:pv P H f op=some v):ox P H f op=some (v,H):=by
 cases op
 case call c =>
  simp only [pv] at h
  unfold ox
  simp only
  split
  ·rename_i hcal;simp [zhj,hcal] at h
  ·rename_i hcal;simp [zhj,hcal] at h
  ·rw [h];rfl
 all_goals first
  |(unfold ox;simp only [h,Option.map_some];done)
  |(simp [pv] at h;done)
theorem zy7 (H:yz3) (hlv:H.lv=F.lv) (hE:H.E=F.E):H=⟨F.lv,H.L,F.E⟩:=by cases H;simp only at hlv hE;subst hlv;subst hE;rfl
theorem TRr.ys6 (hR:TRr D F ρ ts σ) (i:Nat) (o:kz7):σ.H.set F.lv i o={σ.H with L:=σ.H.L.set i (some o)}:=by
 unfold yz3.set;rw [if_pos hR.lv.symm]
variable (hD : D.Ok P)
include hD
theorem TRr.yc0 (hR:TRr D F ρ ts σ) {cs:List (TV D.T)} {vs:List V} (h:VRL D ρ F.lv cs vs) :
  TRr D F (ρ++[⟨.any,some σ.H.L.length,[]⟩]) (ts.new D (.cells cs)) {σ with H:=σ.H.push (.cells vs)}∧VR D (ρ++[⟨.any,some σ.H.L.length,[]⟩]) F.lv (.ptr ts.nx 0) (.ptr σ.H.lv σ.H.L.length 0):=by
 refine ⟨hR.new _ _ _ hR.lv hR.E (by simp [yz3.push]) (λi hi=>by simp only [yz3.push];rw [List.getElem?_append_left hi]) (λi hi=>by injection hi with hi;omega) ?_,?_⟩
 ·simp only [OR]
  exact ⟨σ.H.L.length,vs,rfl,by simp [yz3.push],h.more _⟩
 ·simp only [VR]
  exact ⟨⟨.any,some σ.H.L.length,[]⟩,σ.H.L.length,by rw [<-hR.nx];simp,rfl,by rw [hR.lv]⟩
omit hD in
theorem DR.one {t:DTy} {x:t.S D.T} {v:V} (h:DR D t x v) (ht:∀i,t ≠ .st i) (hn:t ≠ .nat):v.cells=[v]∧v.leaf=true∧(∀c,zce v [c]=c)∧∀c:V,c.leaf=true->fits v [c]=true:=by
 cases h with
 |st=>exact (ht _ rfl).elim
 |enc=>exact (ht _ rfl).elim
 |nat=>exact (hn rfl).elim
 |_=>exact ⟨rfl,rfl,λ_=>rfl,λc hc=>hc⟩
theorem DR.zce {t:DTy} {y z:t.S D.T} {w vx:V} {x:TV D.T} {off:Nat} (hw:DR D t y w) (hx:VR D ρ lv x vx) (hsol:x.z0g=true) (hoff:off+x.cells.length<=(D.tv t y).cells.length)
  (hz:asD D t (match D.tv t y with| .agg cs'=>.agg (zwl cs' off x.cells)|_=>x) = .ok z) (ht:t ≠ .nat) :
  DR D t z (Go.Ab.zce w (z4k w.cells off vx.cells))∧fits w (z4k w.cells off vx.cells)=true∧off+vx.cells.length<=w.cells.length:=by
 have hc:=VR.ypj (ρ:=ρ) (lv:=lv) hD hw
 have hxc:=hx.cells hsol
 have hlen:=hxc.length
 have hlen2:=hc.length
 refine ⟨?_,?_,by omega⟩
 all_goals
  by_cases hst:∃i,t = .st i
  ·obtain ⟨i,rfl⟩:=hst
   obtain ⟨us,rfl,k1,k2⟩:=DR.agg hD hw
   first
    |rfl
    |(simp only [Dat.tv] at hz
      refine zpu (ρ:=ρ) (lv:=lv) hD hz ?_
      simp only [Go.Ab.zce,VR]
      exact ⟨_,rfl,VRL.z4k (by simpa [Dat.tv,TV.cells,V.cells] using hc) hxc off⟩)
  ·have hne:∀i,t ≠ .st i:=λi e=>hst ⟨i,e⟩
   have hnagg:(match D.tv t y with| .agg cs'=>TV.agg (zwl cs' off x.cells)|_=>x)=x:=by
    cases t with
    |st i=>exact (hne i rfl).elim
    |_=>rfl
   rw [hnagg] at hz
   have hd:=zpu hD hz hx
   obtain ⟨a1,a2,a3,a4⟩:=hw.one hne ht
   obtain ⟨b1,b2,b3,b4⟩:=hd.one hne ht
   have l1:w.cells.length=1:=by rw [a1];rfl
   have l2:vx.cells.length=1:=by rw [b1];rfl
   have hoff0:off=0:=by omega
   subst hoff0
   rw [a1,b1]
   have:z4k [w] 0 [vx]=[vx]:=rfl
   rw [this]
   first
    |(rw [a3];exact hd)
    |exact a4 _ b2
theorem yrv {R:Type} (hR:TRr D F ρ ts σ) {t:Nat} {a x:TV D.T} {va vx:V} {k:TV D.T->TS D.T->Option R} {kf:Nat->Option R} {r:R} (h:yc9 P D ts t a x k kf=some r) (ha:VR D ρ F.lv a va) (hx:VR D ρ F.lv x vx) :
  (∃z ts' v H' ρ',zqa P σ.H t va vx=some (v,H')∧VR D ρ' F.lv z v∧TRr D F ρ' ts' {σ with H:=H'}∧k z ts'=some r)∨∃s,kf s=some r:=by
 unfold yc9 at h
 split at h
 ·rename_i hc
  simp only [Bool.and_eq_true,beq_iff_eq] at hc
  obtain ⟨⟨c1,c2⟩,c3⟩:=hc
  have hcells:=hx.cells c1
  have hcond:(vx.z0g&&(P.info? t).isSome&&vx.cells.length==P.cellsOf t)=true:=by
   simp only [Bool.and_eq_true,beq_iff_eq];exact ⟨⟨hx.z0g c1,c2⟩,by rw [<-hcells.length];exact c3⟩
  split at h
  ·rename_i s off
   simp only [VR] at ha
   obtain ⟨sl,i,h1,h2,rfl⟩:=ha
   split at h
   ·rename_i cs ho
    split at h
    ·rename_i hoff
     left
     obtain ⟨sl',k1,k2⟩:=hR.ob s _ ho
     rw [h1] at k1;injection k1 with k1;subst k1
     simp only [OR] at k2
     obtain ⟨i',vs,q1,q2,q3⟩:=k2
     rw [h2] at q1;injection q1 with q1;subst q1
     have hlt:=(List.getElem?_eq_some_iff.1 q2).1
     refine ⟨.any,_,.any,σ.H.set F.lv i (.cells (z4k vs off vx.cells)),ρ,?_,by simp only [VR],?_,h⟩
     ·unfold zqa
      rw [if_pos hcond]
      simp only [hR.get q2]
      rw [if_pos (by rw [<-hcells.length,<-q3.length];exact hoff)]
     ·rw [hR.ys6]
      exact hR.upd ho trivial h1 h2 _ _ (by simp only [OR];exact ⟨i,_,h2,by simp [hlt],q3.z4k hcells off⟩)
    ·cases h
   ·cases h
  ·rename_i s τ i y off
   simp only [VR] at ha
   obtain ⟨sl,w,h1,h2,h3,h4,h5⟩:=ha
   split at h
   ·rename_i ty τ' xs ho
    split at h
    ·rename_i hoff
     obtain ⟨sl',k1,k2⟩:=hR.ob s _ ho
     rw [h1] at k1;injection k1 with k1;subst k1
     simp only [OR] at k2
     obtain ⟨q1,q2,q3⟩:=k2
     obtain ⟨rfl,hnat,hoff⟩:=hoff
     split at h
     ·rename_i z hz
      left
      obtain ⟨d1,d2,d3⟩:=DR.zce hD h4 hx c1 hoff hz hnat
      cases hk:sl.k with
      |none =>
       rw [hk] at q3
       rcases q3 with ⟨e1,e2⟩|⟨e1,e2⟩
       · rw [e2] at h3;simp at h3
       · rw [e2 trivial] at h3;simp at h3
      |some j =>
       rw [hk] at q3 h5
       obtain ⟨ver,cp,e1,e2⟩:=q3
       obtain ⟨ver',n,e3,rfl⟩:=h5
       rw [e1] at e3;injection e3 with _ _ e3 _ e4;subst e3;subst e4
       have hlt:=(List.getElem?_eq_some_iff.1 e2).1
       have hit:=(List.getElem?_eq_some_iff.1 h3).1
       let ws':=sl.ws.set i.toNat (Go.Ab.zce w (z4k w.cells off vx.cells))
       let sl':Slot:=⟨sl.v,some j,ws'⟩
       have hor:OR D (ρ++[sl']) F.lv (σ.H.L.set j (some (.arr ver ty (D.len τ) ws' cp))) sl' (.acc ty τ (xs.set i.toNat z) true):=by
        simp only [OR]
        refine ⟨by simp [sl',ws',q1],λa x' v' ha hv' => ?_,ver,cp,by simp [sl',ws',e1],by simp [sl',hlt]⟩
        simp only [sl',ws'] at hv'
        by_cases hia:i.toNat=a
        · subst hia
          rw [List.getElem?_set_self (by rw [<-q1];exact hit)] at ha
          rw [List.getElem?_set_self hit] at hv'
          injection ha with ha;injection hv' with hv';subst ha;subst hv'
          exact d1
        · rw [List.getElem?_set_ne hia] at ha hv'
          exact q2 a x' v' ha hv'
       have hm:=hR.move ho trivial h1 hk (.acc ty τ (xs.set i.toNat z) true) (.arr ver ty (D.len τ) ws' cp) sl' rfl hor
       refine ⟨.any,_,.any,σ.H.set F.lv j (.arr ver ty (D.len τ) ws' cp),ρ++[sl'],?_,by simp only [VR],?_,h⟩
       · unfold zqa
         rw [if_pos hcond]
         simp only [hR.get e2,if_true,h3]
         rw [if_pos ⟨d3,d2⟩]
       · rw [hR.ys6]
         have:=hm.zrj (TV.ren D s ts.nx) λx v hxv=>VR.ren (lookup_append h1) (sl':=sl') (by rw [<-hR.nx];simp) rfl hxv
         exact this
     ·exact .inr ⟨_,h⟩
     ·cases h
    ·cases h
   ·cases h
  ·rename_i s
   simp only [VR] at ha
   obtain ⟨sl,i,h1,h2,rfl⟩:=ha
   split at h
   ·rename_i ty b q ho
    left
    obtain ⟨sl',k1,k2⟩:=hR.ob s _ ho
    rw [h1] at k1;injection k1 with k1;subst k1
    simp only [OR] at k2
    obtain ⟨i',u,c,q1,q2,q3,q4⟩:=k2
    rw [h2] at q1;injection q1 with q1;subst q1
    have hlt:=(List.getElem?_eq_some_iff.1 q2).1
    have hxl:vx.cells=[vx]:=by
     have h3:=hx
     simp only [VR] at h3
     obtain ⟨_,_,_,h4⟩:=h3
     cases vx <;> first|rfl|(simp [V.leaf] at h4)
    refine ⟨.any,_,.any,σ.H.set F.lv i (.arr 0 ty 2 [.agg [u,vx]] (some 1)),ρ,?_,by simp only [VR],?_,h⟩
    ·unfold zqa
     rw [if_pos hcond]
     simp only [hR.get q2,if_true,List.getElem?_cons_zero]
     rw [if_pos (by rw [hxl];exact ⟨by simp [V.cells],rfl⟩),hxl]
     rfl
    ·rw [hR.ys6]
     exact hR.upd ho trivial h1 h2 _ _ (by simp only [OR];exact ⟨i,u,vx,h2,by simp [hlt],q3,hx⟩)
   ·cases h
  ·cases h
 ·cases h
def DRL (D:Dat) (t:DTy) (xs:List (t.S D.T)) (ws:List V):Prop:=ws.length=xs.length∧∀(j:Nat) (x:t.S D.T) (w:V),xs[j]? = some x->ws[j]? = some w->DR D t x w
omit hD in
theorem DRL.append {t:DTy} {xs ys:List (t.S D.T)} {ws us:List V} (h:DRL D t xs ws) (k:DRL D t ys us):DRL D t (xs++ys) (ws++us):=by
 refine ⟨by simp [h.1,k.1],λj x w hx hw => ?_⟩
 rw [List.getElem?_append] at hx hw
 rw [h.1] at hw
 split at hx
 ·rw [if_pos ‹_›] at hw;exact h.2 j x w hx hw
 ·rw [if_neg ‹_›] at hw;exact k.2 _ x w hx hw
omit hD in
theorem DRL.nil (t:DTy):DRL D t ([]:List (t.S D.T)) []:=⟨rfl,λj x w hx=>by simp at hx⟩
omit hD in
theorem yyv (hR:TRr D F ρ ts σ) {τ:DTy} {x:TV D.T} {vx:V} {ys:List (τ.S D.T)} (h:tSrc D ts τ x=some ys) (hx:VR D ρ F.lv x vx):∃us,ztb σ.H (D.len τ) vx=some us∧DRL D τ ys us:=by
 unfold tSrc at h
 split at h
 ·injection h with h;subst h
  simp only [VR] at hx;subst hx
  exact ⟨[],rfl,DRL.nil _⟩
 ·rename_i t xs fl
  obtain ⟨rfl,rfl⟩:=zf5 h
  simp only [VR] at hx
  obtain ⟨hx,_⟩:=hx
  cases hx with
  |nil=>exact ⟨[],rfl,DRL.nil _⟩
  |sl _ _ ws full hl hh=>exact ⟨ws,by simp [ztb,zgn],hl,hh⟩
 ·rename_i s
  split at h
  ·rename_i ty t xs w ho
   obtain ⟨rfl,rfl⟩:=zf5 h
   simp only [VR] at hx
   obtain ⟨sl,h1,rfl,hleaf⟩:=hx
   obtain ⟨sl',k1,k2⟩:=hR.ob s _ ho
   rw [h1] at k1;injection k1 with k1;subst k1
   simp only [OR] at k2
   obtain ⟨q1,q2,q3⟩:=k2
   refine ⟨sl.ws,?_,q1,q2⟩
   cases hk:sl.k with
   |none =>
    rw [hk] at q3
    rcases q3 with ⟨e1,e2⟩|⟨e1,e2⟩
    · rw [e1,e2];rfl
    · rw [e1.1];simp [ztb,zgn]
   |some j =>
    rw [hk] at q3
    obtain ⟨ver,cp,e1,e2⟩:=q3
    rw [e1]
    simp [ztb,zgn,hR.get e2]
  ·cases h
 ·rename_i s
  split at h
  ·injection h with h;subst h
   simp only [VR] at hx;subst hx
   refine ⟨s.map λb=>.int .u8 b.toNat,by simp [ztb,Dat.len],?_,λj x w hx hw => ?_⟩
   ·rw [List.length_map]
    show s.length=(yyk s).length
    rw [yyk,List.length_map]
   ·replace hx:(s.map λb=>((b.toNat:Nat):Int))[j]? = some x:=hx
    rw [List.getElem?_map] at hx hw
    cases hb:s[j]? with
    |none=>rw [hb] at hx;cases hx
    |some b =>
     rw [hb] at hx hw
     injection hx with hx;injection hw with hw
     subst hx;subst hw
     exact .int .u8 _
  ·cases h
 ·cases h
omit hD in
theorem zpd (hR:TRr D F ρ ts σ) {τ:DTy} {e:Nat} {v:V} {xs ys:List (τ.S D.T)} {ws us:List V} {w:Bool} (hx:DRL D τ xs ws) (hy:DRL D τ ys us) (hroom:xs.length+ys.length<=zni)
  (hv:(v = .nils∧ws=[])∨((v = .sl (D.len τ) ws true∧τ ≠ .int .u8)∧(w=true->ws=[]))) :
  ∃v' H' sl',zbm σ.H e (D.len τ) v us=some (v',H')∧v'.leaf=true∧sl'.v=v'∧TRr D F (ρ++[sl']) (ts.new D (.acc e τ (xs++ys) w)) {σ with H:=H'}∧(∀i,sl'.k=some i->i=σ.H.L.length)∧∀i,sl'.k≠some i->H'.L[i]? = σ.H.L[i]? := by
 have hxy:=hx.append hy
 cases us with
 |nil =>
  have hy0:ys=[]:=List.eq_nil_of_length_eq_zero (by rw [<-hy.1];rfl)
  subst hy0
  refine ⟨v,σ.H,⟨v,none,ws⟩,?_,?_,rfl,?_,(λi h=>by cases h),λi _=>rfl⟩
  · rcases hv with ⟨rfl,_⟩|⟨⟨rfl,_⟩,_⟩ <;> simp [zbm]
  · rcases hv with ⟨rfl,_⟩|⟨⟨rfl,_⟩,_⟩ <;> rfl
  · have:=hR.new (.acc e τ (xs++[]) w) ⟨v,none,ws⟩ σ.H hR.lv hR.E (Nat.le_refl _) (λ_ _=>rfl) (by simp) (by simp only [OR,List.append_nil];exact ⟨hx.1,hx.2,hv⟩)
    exact this
 |cons y r =>
  have hlen:ws.length+(y::r).length<=zni:=by rw [hx.1,hy.1];exact hroom
  refine ⟨.hs F.lv σ.H.L.length 0 0 (ws++y::r).length false,σ.H.push (.arr 0 e (D.len τ) (ws++y::r) none),⟨.hs F.lv σ.H.L.length 0 0 (ws++y::r).length false,some σ.H.L.length,ws++y::r⟩,?_,rfl,rfl,?_,(λi h=>by injection h with h;exact h.symm),λi h => ?_⟩
  · rcases hv with ⟨rfl,rfl⟩|⟨⟨rfl,_⟩,_⟩
    · simp only [zbm];rw [if_pos (by simpa using hlen)];simp [hR.lv]
    · simp only [zbm,if_true];rw [if_pos (by simpa using hlen)];simp [hR.lv]
  · exact hR.new _ _ _ hR.lv hR.E (by simp [yz3.push]) (λi hi=>by simp only [yz3.push];rw [List.getElem?_append_left hi]) (λi hi=>by injection hi with hi;omega)
     (by simp only [OR];exact ⟨hxy.1,hxy.2,0,none,rfl,by simp [yz3.push]⟩)
  · have hi:i≠σ.H.L.length:=λe=>h (by rw [e])
    simp only [yz3.push]
    rw [List.getElem?_append]
    split
    · rfl
    · rw [List.getElem?_eq_none (by simp;omega),List.getElem?_eq_none (by omega)]
omit hD in
theorem y1i {R:Type} (hR:TRr D F ρ ts σ) {t u:Nat} {s x:TV D.T} {vs vx:V} {k:TV D.T->TS D.T->Option R} {r:R} (h:yq4 P D ts t u s x k=some r) (hs:VR D ρ F.lv s vs) (hx:VR D ρ F.lv x vx) :
  ∃z ts' v H' ρ',hAppend P σ.H t u vs vx=some (v,H')∧VR D ρ' F.lv z v∧TRr D F ρ' ts' {σ with H:=H'}∧k z ts'=some r ∧
   ((∀q,s ≠ .own q)->∃sl' o,ρ'=ρ++[sl']∧ts'=ts.new D o∧o.live∧(∀i,sl'.k=some i->i=σ.H.L.length)∧∀i,sl'.k≠some i->H'.L[i]? = σ.H.L[i]?):=by
 unfold yq4 at h
 split at h
 ·rename_i e du hu hdu
  split at h
  ·rename_i i τ hi hτ
   split at h
   ·rename_i z hz
    split at h
    ·rename_i hc
     simp only [Bool.and_eq_true,beq_iff_eq,decide_eq_true_eq] at hc
     obtain ⟨⟨⟨⟨c1,c2⟩,c3⟩,c4⟩,c5⟩:=hc
     split at h
     ·rename_i ys xs w old hys hdst
      obtain ⟨zs,hzs,h⟩:=zgf h
      obtain ⟨hroom,rfl⟩:=yx0 hzs
      obtain ⟨us,hus,hyu⟩:=yyv hR hys hx
      have happ:∀v' H',zbm σ.H e (D.len τ) vs us=some (v',H')->hAppend P σ.H t u vs vx=some (v',H'):=λv' H' ha=>by
       unfold hAppend
       rw [hu,hdu]
       simp only [hi,hz]
       rw [<-c5,hus]
       simp only
       rw [if_pos (by simp only [Bool.and_eq_true,beq_iff_eq,decide_eq_true_eq];exact ⟨⟨⟨c1,by omega⟩,c3⟩,by omega⟩)]
       exact ha
      have own:∀(sl':Slot) (v':V),sl'.v=v'->v'.leaf=true->VR D (ρ++[sl']) F.lv (.own ts.nx) v':=λsl' v' h1 h2=>by
       simp only [VR]
       exact ⟨sl',by rw [<-hR.nx];simp,h1.symm,h2⟩
      unfold tDst at hdst
      split at hdst
      ·simp only [Option.some.injEq,Prod.mk.injEq] at hdst
       obtain ⟨rfl,rfl,rfl⟩:=hdst
       simp only [VR] at hs
       subst hs
       obtain ⟨v',H',sl',a1,a2,a3,a4,a5⟩:=zpd (e:=e) hR (w:=true) (DRL.nil τ) hyu hroom (.inl ⟨rfl,rfl⟩)
       exact ⟨_,_,v',H',_,happ _ _ a1,own sl' v' a3 a2,a4,h,λ_=>⟨sl',_,rfl,rfl,trivial,a5⟩⟩
      ·by_cases hu8:τ = .int .u8
       ·rw [if_pos hu8] at hdst;cases hdst
       rw [if_neg hu8,Option.map_eq_some_iff] at hdst
       obtain ⟨xs',hl,hdst⟩:=hdst
       simp only [Prod.mk.injEq] at hdst
       obtain ⟨rfl,rfl,rfl⟩:=hdst
       obtain ⟨rfl,rfl⟩:=zf5 hl
       simp only [VR] at hs
       obtain ⟨hs,hf,_⟩:=hs
       obtain ⟨ws,rfl⟩:=hf (by omega)
       cases hs with
       |sl _ _ _ _ hl hh =>
        obtain ⟨v',H',sl',a1,a2,a3,a4,a5⟩:=zpd (e:=e) hR (w:=false) ⟨hl,hh⟩ hyu hroom (.inr ⟨⟨rfl,hu8⟩,by simp⟩)
        exact ⟨_,_,v',H',_,happ _ _ a1,own sl' v' a3 a2,a4,h,λ_=>⟨sl',_,rfl,rfl,trivial,a5⟩⟩
      ·by_cases hu8:τ = .int .u8
       ·rw [if_pos hu8] at hdst;cases hdst
       rw [if_neg hu8,Option.map_eq_some_iff] at hdst
       obtain ⟨xs',hl,hdst⟩:=hdst
       simp only [Prod.mk.injEq] at hdst
       obtain ⟨rfl,rfl,rfl⟩:=hdst
       obtain ⟨rfl,rfl⟩:=zf5 hl
       simp only [VR] at hs
       obtain ⟨hs,hf,hf2⟩:=hs
       obtain ⟨ws,rfl⟩:=hf (by omega)
       have hx0:=hf2 trivial
       cases hs with
       |sl _ _ _ _ hl hh =>
        obtain ⟨v',H',sl',a1,a2,a3,a4,a5⟩:=zpd (e:=e) hR (w:=true) ⟨hl,hh⟩ hyu hroom (.inr ⟨⟨rfl,hu8⟩,λ_=>List.eq_nil_of_length_eq_zero (by rw [hl,hx0];rfl)⟩)
        exact ⟨_,_,v',H',_,happ _ _ a1,own sl' v' a3 a2,a4,h,λ_=>⟨sl',_,rfl,rfl,trivial,a5⟩⟩
      ·rename_i s
       split at hdst
       ·rename_i e' t' xs' w' ho
        split at hdst
        ·rename_i he
         subst he
         rw [Option.map_eq_some_iff] at hdst
         obtain ⟨xs'',hl,hdst⟩:=hdst
         simp only [Prod.mk.injEq] at hdst
         obtain ⟨rfl,rfl,rfl⟩:=hdst
         obtain ⟨rfl,rfl⟩:=zf5 hl
         simp only [VR] at hs
         obtain ⟨sl,h1,rfl,hleaf⟩:=hs
         obtain ⟨sl',k1,k2⟩:=hR.ob s _ ho
         rw [h1] at k1;injection k1 with k1;subst k1
         simp only [OR] at k2
         obtain ⟨q1,q2,q3⟩:=k2
         have hsn:∀o,s<(ts.new D o).nx:=λo=>by
          have:=(List.getElem?_eq_some_iff.1 h1).1
          simp only [TS.new];rw [<-hR.nx];omega
         cases hk:sl.k with
         |none =>
          rw [hk] at q3
          obtain ⟨v',H',sl',a1,a2,a3,a4,a5⟩:=zpd (e:=e') hR (w:=w') ⟨q1,q2⟩ hyu hroom q3
          exact ⟨_,_,v',H',_,happ _ _ a1,own sl' v' a3 a2,a4.drop s (hsn _),h,λq=>(q s rfl).elim⟩
         |some j =>
          rw [hk] at q3
          obtain ⟨ver,cp,e1,e2⟩:=q3
          have hlt:=(List.getElem?_eq_some_iff.1 e2).1
          have hxy:=DRL.append ⟨q1,q2⟩ hyu
          have hlen:sl.ws.length+us.length<=zni:=by rw [q1,hyu.1];exact hroom
          let sl':Slot:=⟨.hs F.lv j (ver+1) 0 (sl.ws++us).length false,some j,sl.ws++us⟩
          have hm:=hR.move ho trivial h1 hk (.acc e' _ (_++ys) w') (.arr (ver+1) e' (D.len t') (sl.ws++us) none) sl' rfl
           (by simp only [OR];exact ⟨hxy.1,hxy.2,ver+1,none,rfl,by simp [sl',hlt]⟩)
          refine ⟨_,_,sl'.v,σ.H.set F.lv j (.arr (ver+1) e' (D.len t') (sl.ws++us) none),_,happ _ _ ?_,own sl' sl'.v rfl rfl,by rw [hR.ys6];exact hm,h,λq=>(q s rfl).elim⟩
          rw [e1]
          simp only [zbm,hR.get e2,true_and]
          rw [if_pos hlen]
          simp [sl']
        ·cases hdst
       ·cases hdst
      ·cases hdst
     ·cases h
    ·cases h
   ·cases h
  ·cases h
 ·cases h
omit hD in
theorem z04g (hR:TRr D F ρ ts σ) {t:Nat} {τ:DTy}:VR D (ρ++[⟨.any,some σ.H.L.length,[]⟩]) F.lv (TV.map ts.nx:TV D.T) (.map σ.H.lv σ.H.L.length)∧TRr D F (ρ++[⟨.any,some σ.H.L.length,[]⟩]) (ts.new D (.mp t τ [])) {σ with H:=σ.H.push (.map [])}:=by
 refine ⟨?_,?_⟩
 ·simp only [VR]
  exact ⟨⟨.any,some σ.H.L.length,[]⟩,σ.H.L.length,by rw [<-hR.nx];simp,rfl,by rw [hR.lv]⟩
 ·exact hR.new _ _ _ hR.lv hR.E (by simp [yz3.push]) (λi hi=>by simp only [yz3.push];rw [List.getElem?_append_left hi]) (λi hi=>by injection hi with hi;omega)
   (by simp only [OR];exact ⟨σ.H.L.length,[],rfl,rfl,(by simp),(by simp [yz3.push])⟩)
omit hD in
theorem ybw {R:Type} (hR:TRr D F ρ ts σ) {t:Nat} {r':Option (TV D.T)} {vr:Option V} {k:TV D.T->TS D.T->Option R} {r:R} (h:yeh P D ts t r' k=some r) (h1:∀z,r'=some z->∃v,vr=some v∧VR D ρ F.lv z v) (h2:r'=none->vr=none) :
  ∃z ts' v H' ρ',zyd P σ.H t vr=some (v,H')∧VR D ρ' F.lv z v∧TRr D F ρ' ts' {σ with H:=H'}∧k z ts'=some r:=by
 unfold yeh at h
 split at h
 ·rename_i kt e hu
  split at h
  ·rename_i τ hτ
   obtain ⟨a1,a2⟩:=z04g hR (t:=t) (τ:=τ)
   exact ⟨_,_,_,_,_,by rw [h2 rfl];rfl,a1,a2,h⟩
  ·rename_i τ q n hτ
   obtain ⟨a1,a2⟩:=z04g hR (t:=t) (τ:=τ)
   obtain ⟨v,e1,e2⟩:=h1 _ rfl
   simp only [VR] at e2
   subst e2
   exact ⟨_,_,_,_,_,by rw [e1];simp only [zyd,hu],a1,a2,h⟩
  ·cases h
 ·cases h
theorem y1l {R:Type} (hR:TRr D F ρ ts σ) {t:Nat} {m key x:TV D.T} {vm vk vx:V} {k:TV D.T->TS D.T->Option R} {r:R} (h:ybh P D ts t m key x k=some r) (hm:VR D ρ F.lv m vm) (hk:VR D ρ F.lv key vk) (hx:VR D ρ F.lv x vx) :
  ∃z ts' v H' ρ',zl0 P σ.H t vm vk vx=some (v,H')∧VR D ρ' F.lv z v∧TRr D F ρ' ts' {σ with H:=H'}∧k z ts'=some r:=by
 unfold ybh at h
 split at h
 ·rename_i kt e q s hu
  simp only [VR] at hk;subst hk
  split at h
  ·rename_i ty τ es hkt ho
   split at h
   ·rename_i y hy
    simp only [VR] at hm
    obtain ⟨sl,i,h1,h2,rfl⟩:=hm
    obtain ⟨sl',k1,k2⟩:=hR.ob _ _ ho
    rw [h1] at k1;injection k1 with k1;subst k1
    simp only [OR] at k2
    obtain ⟨i',ms,q1,q2,q4,q3⟩:=k2
    rw [h2] at q1;injection q1 with q1;subst q1
    have hv:=zpu hD hy hx
    have hlt:=(List.getElem?_eq_some_iff.1 q3).1
    have hup:=yxk (P:=P) (f:=λx:τ.S D.T×V=>x.2) (lv:=σ.H.lv) (E:=σ.H.E) hu hkt q3 s (y,vx) rfl
    refine ⟨.any,_,.any,{σ.H with L:=σ.H.L.set i (some (.map ((z95 ms s (y,vx)).map λp=>(.str p.1,p.2.2))))},ρ,?_,by simp only [VR],?_,h⟩
    ·rw [<-hR.lv];exact hup
    ·exact hR.upd ho trivial h1 h2 (.mp ty τ (z95 es s y)) (.map ((z95 ms s (y,vx)).map λp=>(.str p.1,p.2.2))) (by
      simp only [OR]
      refine ⟨i,z95 ms s (y,vx),h2,?_,λp hp => ?_,by simp [hlt]⟩
      ·rw [q2];exact z05n Prod.fst s (y,vx) ms
      ·rcases yv9 hp with h|h
       ·rw [h];exact hv
       ·exact q4 p h)
   ·cases h
  ·cases h
 ·cases h
omit hD in
theorem yw5 {R:Type} (hR:TRr D F ρ ts σ) {b:Bool} {x:TV D.T} {vx:V} {k:TV D.T->TS D.T->Option R} {r:R} (h:z052 D ts x b k=some r) (hx:VR D ρ F.lv x vx) :
  ∃z ts' v H' ρ',ymx σ.H vx b=some (v,H')∧VR D ρ' F.lv z v∧TRr D F ρ' ts' {σ with H:=H'}∧k z ts'=some r:=by
 unfold z052 at h
 split at h
 ·rename_i s
  simp only [VR] at hx
  obtain ⟨sl,i,h1,h2,rfl⟩:=hx
  split at h
  ·rename_i l pos ho
   obtain ⟨sl',k1,k2⟩:=hR.ob s _ ho
   rw [h1] at k1;injection k1 with k1;subst k1
   simp only [OR] at k2
   obtain ⟨i',q1,q2⟩:=k2
   rw [h2] at q1;injection q1 with q1;subst q1
   have hlt:=(List.getElem?_eq_some_iff.1 q2).1
   rw [yb7] at h
   split at h
   ·rename_i hc
    have hc':pos<l.length:=of_decide_eq_true hc
    refine ⟨_,_,.tup [.bool true,.int .i64 pos,.int .i32 (zpn l pos).1],σ.H.set F.lv i (.siter l (pos+(zpn l pos).2)),ρ,?_,?_,?_,h⟩
    ·simp only [ymx,hR.get q2];rw [if_pos hc']
    ·simp only [VR,VRL];exact ⟨_,rfl,_,_,rfl,rfl,_,_,rfl,rfl,_,_,rfl,rfl,rfl⟩
    ·rw [hR.ys6]
     exact hR.upd ho trivial h1 h2 _ _ (by simp only [OR];exact ⟨i,h2,by simp [hlt]⟩)
   ·rename_i hc
    have hc':¬pos<l.length:=λh=>hc (decide_eq_true h)
    refine ⟨_,_,.tup [.bool false],σ.H,ρ,?_,?_,hR,h⟩
    ·simp only [ymx,hR.get q2];rw [if_neg hc']
    ·simp only [VR,VRL];exact ⟨_,rfl,_,_,rfl,rfl,rfl⟩
  ·cases h
 ·cases h
omit hD in
theorem DRL.take {t:DTy} {xs:List (t.S D.T)} {ws:List V} (h:DRL D t xs ws) (n:Nat):DRL D t (xs.take n) (ws.take n):=by
 refine ⟨by simp [h.1],λj x w hx hw => ?_⟩
 rw [List.getElem?_take] at hx hw
 split at hx
 ·rename_i hj;rw [if_pos hj] at hw;exact h.2 j x w hx hw
 ·cases hx
omit hD in
theorem DRL.drop {t:DTy} {xs:List (t.S D.T)} {ws:List V} (h:DRL D t xs ws) (n:Nat):DRL D t (xs.drop n) (ws.drop n):=by
 refine ⟨by simp [h.1],λj x w hx hw => ?_⟩
 rw [List.getElem?_drop] at hx hw
 exact h.2 _ x w hx hw
omit hD in
theorem yfj {R:Type} (hR:TRr D F ρ ts σ) {t:Nat} {x lo:TV D.T} {vx vlo:V} {k:TV D.T->Option R} {kf:Option R} {r:R} (h:tCut P D ts t x lo k kf=some r) (hx:VR D ρ F.lv x vx) (hlo:VR D ρ F.lv lo vlo) :
  (∃z v,zlx P σ.H t vx (some vlo) none none=some v∧VR D ρ F.lv z v∧k z=some r)∨kf=some r:=by
 unfold tCut at h
 split at h
 ·rename_i s a
  split at h
  ·rename_i e ty τ xs hu ho
   split at h
   ·rename_i hc
    left
    obtain ⟨_,hcut,h⟩:=zgf h
    unfold y4b at hcut
    split at hcut
    ·rename_i hcut'
     obtain ⟨c1,c2,c3⟩:=hcut'
     simp only [VR] at hx hlo
     subst hlo
     obtain ⟨sl,h1,rfl,hleaf⟩:=hx
     obtain ⟨sl',k1,k2⟩:=hR.ob s _ ho
     rw [h1] at k1;injection k1 with k1;subst k1
     simp only [OR] at k2
     obtain ⟨q1,q2,q3⟩:=k2
     cases hk:sl.k with
     |none =>
      rw [hk] at q3
      rcases q3 with ⟨_,e2⟩|⟨_,e2⟩
      · rw [e2] at q1;simp at q1;omega
      · rw [e2 trivial] at q1;simp at q1;omega
     |some j =>
      rw [hk] at q3
      obtain ⟨ver,cp,e1,e2⟩:=q3
      have hp:=y2m (P:=P) (n:=sl.ws.length) hu hc.1 hc.2 (hR.get e2) (a:=a) c1 (by omega)
      refine ⟨_,_,by rw [e1];exact hp,?_,h⟩
      simp only [VR]
      refine ⟨sl,j,ver,h1,hk,e1,c1,by omega,?_⟩
      split
      · exact .inl rfl
      · exact .inr ⟨by omega,_,rfl⟩
    ·cases hcut
   ·cases h
  ·cases h
 ·exact .inr h
omit hD in
theorem yvu {R:Type} (hR:TRr D F ρ ts σ) {t:Nat} {d s:TV D.T} {vd vs:V} {k:TV D.T->TS D.T->Option R} {r:R} (h:z05h P D ts t d s k=some r) (hd:VR D ρ F.lv d vd) (hs:VR D ρ F.lv s vs) :
  ∃z ts' v H' ρ',y41 P σ.H t vd vs=some (v,H')∧VR D ρ' F.lv z v∧TRr D F ρ' ts' {σ with H:=H'}∧k z ts'=some r:=by
 unfold z05h at h
 split at h
 ·rename_i s a s' b
  split at h
  ·rename_i hss
   subst hss
   split at h
   ·rename_i e ty τ xs hu ho
    split at h
    ·rename_i hc
     obtain ⟨ys,hys,h⟩:=zgf h
     unfold zy0 at hys
     split at hys
     ·rename_i hb
      injection hys with hys
      obtain ⟨b1,b2,b3,b4⟩:=hb
      simp only [VR] at hd hs
      obtain ⟨sl,j,ver,d1,d2,d3,d4,d5,d6⟩:=hd
      obtain ⟨sl1,j1,ver1,f1,f2,f3,f4,f5,f6⟩:=hs
      rw [d1] at f1;injection f1 with f1;subst f1
      rw [d2] at f2;injection f2 with f2;subst f2
      rw [d3] at f3;injection f3 with _ _ f3;subst f3
      obtain ⟨sl',k1,k2⟩:=hR.ob s _ ho
      rw [d1] at k1;injection k1 with k1;subst k1
      simp only [OR] at k2
      obtain ⟨q1,q2,q3⟩:=k2
      rw [d2] at q3
      obtain ⟨ver',cp,e1,e2⟩:=q3
      rw [d3] at e1;injection e1 with _ _ e1;subst e1
      have hlt:=(List.getElem?_eq_some_iff.1 e2).1
      have f6':vs = .hs F.lv j ver b.toNat (sl.ws.length-b.toNat) false:=by
       rcases f6 with f6|⟨f6,_⟩
       ·exact f6
       ·omega
      subst f6'
      let n:=min (sl.ws.length-b.toNat) (sl.ws.length-a.toNat)
      let ws':=sl.ws.take a.toNat++((sl.ws.drop b.toNat).take n++sl.ws.drop (a.toNat+n))
      let sl':Slot:=⟨sl.v,some j,ws'⟩
      have hwl:ws'.length=sl.ws.length:=by simp only [ws',n,List.length_append,List.length_take,List.length_drop];omega
      have hdrl:DRL D τ ys ws':=by
       rw [<-hys]
       simp only [ws',n,q1]
       exact (DRL.take ⟨q1,q2⟩ _).append (((DRL.drop ⟨q1,q2⟩ _).take _).append (DRL.drop ⟨q1,q2⟩ _))
      have hor:OR D (ρ++[sl']) F.lv (σ.H.L.set j (some (.arr ver ty (D.len τ) ws' cp))) sl' (.acc ty τ ys true):=by
       simp only [OR]
       refine ⟨hdrl.1,hdrl.2,ver,cp,?_,by simp [sl',hlt]⟩
       show sl.v = .hs F.lv j ver 0 ws'.length false
       rw [hwl];exact d3
      have hm:=hR.move ho trivial d1 d2 (.acc ty τ ys true) (.arr ver ty (D.len τ) ws' cp) sl' rfl hor
      have hm2:=hm.zrj (TV.ren D s ts.nx) λx v hxv=>VR.ren (lookup_append d1) (sl':=sl') (by rw [<-hR.nx];simp) rfl hxv
      have hget:=hR.get e2
      rcases d6 with d6|⟨d6,sz,rfl⟩
      ·subst d6
       refine ⟨.any,_,.int .i64 (min (sl.ws.length-b.toNat) (sl.ws.length-a.toNat):Nat),σ.H.set F.lv j (.arr ver ty (D.len τ) ws' cp),ρ++[sl'],?_,by simp only [VR],?_,h⟩
       ·simp only [y41,hu,hget]
        rw [if_pos hc.2,if_pos ⟨trivial,trivial,trivial⟩,if_pos ⟨trivial,hc.1⟩]
       ·rw [hR.ys6];exact hm2
      ·have hn:n=0:=by simp only [n];omega
       have hws:ws'=sl.ws:=by
        simp only [ws',hn,List.take_zero,List.nil_append,Nat.add_zero,List.take_append_drop]
       have hset:σ.H.L.set j (some (.arr ver ty (D.len τ) ws' cp))=σ.H.L:=by
        rw [hws]
        refine List.ext_getElem? λq => ?_
        rw [List.getElem?_set]
        split
        ·rename_i hq;rw [<-hq,e2]
        ·rfl
       rw [hset] at hm2
       refine ⟨.any,_,.int .i64 0,σ.H,ρ++[sl'],?_,by simp only [VR],hm2,h⟩
       simp only [y41,hu,hget]
       rw [if_pos hc.2,if_pos trivial]
     ·cases hys
    ·cases h
   ·cases h
  ·cases h
 ·cases h
theorem ymr {R:Type} (hR:TRr D F ρ ts σ) {op:Op} {k:TV D.T->TS D.T->Option R} {kf:Nat->Option R} {r:R} (h:tOp P D ts op k kf=some r) :
  (∃z ts' v H' ρ',ox P σ.H σ.ev op=some (v,H')∧VR D ρ' F.lv z v∧TRr D F ρ' ts' {σ with H:=H'}∧k z ts'=some r)∨∃s,kf s=some r:=by
 have pure:∀{op:Op},tP P D ts op (λv=>k v ts) kf=some r->(∃z ts' v H' ρ',ox P σ.H σ.ev op=some (v,H')∧VR D ρ' F.lv z v∧TRr D F ρ' ts' {σ with H:=H'}∧k z ts'=some r)∨∃s,kf s=some r:=λ{op} h=>by
  rcases yd0 hD hR h with ⟨x,v,h1,h2,h3⟩|h
  ·exact .inl ⟨x,ts,v,σ.H,ρ,z04k h1,h2,hR,h3⟩
  ·exact .inr h
 unfold tOp at h
 split at h
 ·split at h
  ·rename_i z hz
   split at h
   ·rename_i hs
    left
    obtain ⟨v,h1,h2⟩:=zrq (ρ:=ρ) (lv:=F.lv) hz
    obtain ⟨h3,h4⟩:=hR.yc0 hD (h2.cells hs)
    exact ⟨_,_,_,_,_,by simp only [ox,yef,h1];rw [if_pos (h2.z0g hs)],h4,h3,h⟩
   ·cases h
  ·cases h
 ·split at h
  ·rename_i x hx
   split at h
   ·rename_i hs
    left
    have h2:=hR.ev hx
    obtain ⟨h3,h4⟩:=hR.yc0 hD (h2.cells hs)
    exact ⟨_,_,_,_,_,by simp only [ox,hBox];rw [if_pos (h2.z0g hs)],h4,h3,h⟩
   ·cases h
  ·cases h
 ·split at h
  ·rename_i ha hx
   rcases yrv hD hR h (hR.ev ha) (hR.ev hx) with ⟨z,ts',v,H',ρ',h1,h2⟩|h
   ·exact .inl ⟨z,ts',v,H',ρ',by simp only [ox];exact h1,h2⟩
   ·exact .inr h
  ·cases h
 ·split at h
  ·rename_i r' hr
   left
   obtain ⟨a1,a2⟩:=hR.oev hr
   obtain ⟨z,ts',v,H',ρ',h1,h2⟩:=ybw hR h a1 a2
   exact ⟨z,ts',v,H',ρ',by simp only [ox];exact h1,h2⟩
  ·cases h
 ·split at h
  ·rename_i hm hk hx
   left
   obtain ⟨z,ts',v,H',ρ',h1,h2⟩:=y1l hD hR h (hR.ev hm) (hR.ev hk) (hR.ev hx)
   exact ⟨z,ts',v,H',ρ',by simp only [ox];exact h1,h2⟩
  ·cases h
 ·split at h
  ·rename_i hm hk hx
   left
   obtain ⟨z,ts',v,H',ρ',h1,h2⟩:=y1l hD hR h (hR.ev hm) (hR.ev hk) (hR.ev hx)
   exact ⟨z,ts',v,H',ρ',by simp only [ox];exact h1,h2⟩
  ·cases h
 ·split at h
  ·rename_i str hx
   split at h
   ·rename_i hu
    left
    have h1:=hR.ev hx
    simp only [VR] at h1
    refine ⟨_,_,.ptr σ.H.lv σ.H.L.length 0,σ.H.push (.siter str 0),ρ++[⟨.any,some σ.H.L.length,[]⟩],by simp only [ox,yol,h1,hu],?_,?_,h⟩
    ·simp only [VR]
     exact ⟨⟨.any,some σ.H.L.length,[]⟩,σ.H.L.length,by rw [<-hR.nx];simp,rfl,by rw [hR.lv]⟩
    ·exact hR.new _ _ _ hR.lv hR.E (by simp [yz3.push]) (λi hi=>by simp only [yz3.push];rw [List.getElem?_append_left hi]) (λi hi=>by injection hi with hi;omega)
      (by simp only [OR];exact ⟨σ.H.L.length,rfl,by simp [yz3.push]⟩)
   ·cases h
  ·cases h
 ·split at h
  ·rename_i hi
   left
   obtain ⟨z,ts',v,H',ρ',h1,h2⟩:=yw5 hR h (hR.ev hi)
   exact ⟨z,ts',v,H',ρ',by simp only [ox];exact h1,h2⟩
  ·cases h
 ·split at h
  ·rename_i c
   split at h
   ·rename_i s x t u hcal hargs htys
    split at h
    ·rename_i hs hx
     left
     obtain ⟨z,ts',v,H',ρ',h1,h2,h2b,h2c,_⟩:=y1i hR h (hR.ev hs) (hR.ev hx)
     replace h2:=And.intro h2 (And.intro h2b h2c)
     exact ⟨z,ts',v,H',ρ',by simp only [ox,hcal,hargs,htys];exact h1,h2⟩
    ·cases h
   ·rename_i d s t u hcal hargs htys
    split at h
    ·rename_i hd hs
     left
     obtain ⟨z,ts',v,H',ρ',h1,h2⟩:=yvu hR h (hR.ev hd) (hR.ev hs)
     exact ⟨z,ts',v,H',ρ',by simp only [ox,hcal,hargs,htys];exact h1,h2⟩
    ·cases h
   ·exact pure h
  ·exact pure h
end
end Go.Ab
