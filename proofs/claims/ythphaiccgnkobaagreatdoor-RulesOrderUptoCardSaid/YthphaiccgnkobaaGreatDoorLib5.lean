/-
  THE TYPED MACHINE: operations that zn6 nothing say what the abstract machine does.
-/
import Derived.Test.YthphaiccgnkobaaGreatDoorLib4
namespace Go.Ab
open Go
set_option linter.unusedVariables false
set_option linter.unusedSimpArgs false
structure Fr where
 lv:Nat
 E:Nat->Nat->Option zz4
 e0:Nat->Nat->Option zz4
 L0:List (Option zz4)
 out:Nat->Prop
 pin:List Slot
 gv:List V
theorem ybq{T S:Type}(g:T->S)(k:B8):∀ms:List (B8×T),z58 (ms.map λp=>(p.1,g p.2)) k=(z58 ms k).map g
 |[]=>rfl
 |p::ms=>by
  have ih:=ybq g k ms;unfold z58 at ih ⊢;rw[List.map_cons,List.find?_cons,List.find?_cons];cases k==p.1;exact ih;rfl
theorem ydy{T:Type}{k:B8}{x:T}:∀{ms:List (B8×T)},z58 ms k=some x->∃p∈ms,p.2=x
 |[],h=>by cases h
 |p::ms,h=>by
  unfold z58 at h;rw[List.find?_cons]at h;cases hk:k==p.1 <;> rw[hk]at h
  obtain⟨q,h1,h2⟩:=ydy (ms:=ms) (by unfold z58;exact h);exact⟨q,Qai _ h1,h2⟩;exact⟨p,Qak,by simpa using h⟩
theorem ymr{T S:Type}(g:T->S)(k:B8)(x:T)(ms:List (B8×T)):z8l (ms.map λp=>(p.1,g p.2)) k (g x)=(z8l ms k x).map λp=>(p.1,g p.2):=by
 unfold z8l;rw[List.findIdx?_map];show(match ms.findIdx? (λp=>k==p.1)with|none=>_|some j=>_)=_
 cases ms.findIdx? (λp=>k==p.1)with
 |none=>simp
 |some j=>simp[List.map_set]
theorem ylz{T:Type}{k:B8}{x:T}{ms:List (B8×T)}{p:B8×T}(h:p∈z8l ms k x):p=(k,x)∨p∈ms:=by
 unfold z8l at h;split at h
 rcases Qbb.1 h with h|h
 exact .inr h;exact .inl (Qbc.1 h)
 rcases List.mem_or_eq_of_mem_set h with h|h
 exact .inr h;exact .inl h
inductive OM where
 |dat
 |own (ty:Nat)
 |el
def ykf:Option Nat->OM
 |none=>.dat
 |some ty=>.own ty
inductive DO (D:Dat) (lv:Nat) (L:List (Option zz4)):OM->(t:DTy)->t.S D.T->V->List Nat->Prop where
 |dat {t:DTy} {x:t.S D.T}{v:V}(h:DR D t x v):DO D lv L .dat t x v []
 |nil {ty:Nat} {t:DTy}{v:V}(h:DR D (.sl t) ([]:List (t.S D.T)) v) (hv:v = .nils∨v = .sl (D.len t) [] true):DO D lv L (.own ty) (.sl t) ([]:List (t.S D.T)) v []
 |own {ty:Nat} {t:DTy}{xs:List (t.S D.T)}{j ver:Nat}{cp:Option Nat}{ws:List V}{fps:List (List Nat)}(hL:L[j]? = some (some (.arr ver ty (D.len t) ws cp))) (hl:ws.length=xs.length) (hf:fps.length=xs.length)
  (he:∀(n:Nat) (x:t.S D.T) (w:V) (c:List Nat),xs[n]? = some x->ws[n]? = some w->fps[n]? = some c->DO D lv L .el t x w c):DO D lv L (.own ty) (.sl t) xs (.hs lv j ver 0 ws.length false) (j::fps.flatten)
 |el {i:Nat} {x:D.T i}{vs:List V}{cs:List (List Nat)}(hl:vs.length=(D.fl i).length) (hc:cs.length=(D.fl i).length)
  (h:∀(f:Nat) (p:(t:DTy)×t.S D.T) (u:V) (b:List Nat),HL.nth (D.fl i) (D.get i x) f=some p->vs[f]? = some u->cs[f]? = some b->DO D lv L (ykf (D.ow i f)) p.1 p.2 u b):DO D lv L .el (.st i) x (.agg vs) cs.flatten
 |elf {t:DTy} {x:t.S D.T}{v:V}(ht:∀i f,f<(D.fl i).length->t = .st i->D.ow i f=none) (h:DR D t x v):DO D lv L .el t x v []
section
variable (D : Dat) (ρ : List Slot) (lv : Nat) (L : List (Option zz4))
def z0g(h:Option (Int×Nat×Nat))(n f:Nat):Option Nat:=match h with
 |some (n',f',s)=>if n'.toNat=n∧f'=f then some s else none
 |none=>none
def EO(q:Nat)(h:Option (Int×Nat×Nat))(n:Nat)(x:D.T q)(w:V)(c:List Nat):Prop :=
 ∃(vs:List V) (cs:List (List Nat)),w = .agg vs∧vs.length=(D.fl q).length∧cs.length=(D.fl q).length∧c=cs.flatten ∧
  ∀(f:Nat) (p:(t:DTy)×t.S D.T) (u:V) (b:List Nat),HL.nth (D.fl q) (D.get q x) f=some p->vs[f]? = some u->cs[f]? = some b ->
   match z0g h n f with
   |some s=>b=[]∧(D.ow q f).isSome=true∧u.leaf=true∧∃sl',ρ[s]? = some sl'∧u=sl'.v
   |none=>DO D lv L (ykf (D.ow q f)) p.1 p.2 u b
def OR(sl:Slot):TO D.T->Prop
 |.cells cs=>∃i vs,sl.k=some i∧L[i]? = some (some (.cells vs))∧VRL D ρ lv cs vs
 |.acc ty t xs w=>sl.ws.length=xs.length∧(∀(j:Nat) (x:t.S D.T) (v:V),xs[j]? = some x->sl.ws[j]? = some v->DR D t x v) ∧
  (match sl.k with
  |none=>(sl.v = .nils∧sl.ws=[])∨((sl.v = .sl (D.len t) sl.ws true∧t ≠ .int .u8)∧(w=true->sl.ws=[]))
  |some i=>∃ver cp,sl.v = .hs lv i ver 0 sl.ws.length false∧L[i]? = some (some (.arr ver ty (D.len t) sl.ws cp)))
 |.siter s pos=>∃i,sl.k=some i∧L[i]? = some (some (.siter s pos))
 |.mp ty t es=>∃(i:Nat) (ms:List (B8×(t.S D.T×V))),sl.k=some i∧es=ms.map (λp=>(p.1,p.2.1))∧(∀p∈ms,DR D t p.2.1 p.2.2)∧L[i]? = some (some (.map (ms.map λp=>(.str p.1,p.2.2))))
 |.mit t last es=>∃(i:Nat) (fs:List (B8×t.S D.T)) (vis:List Nat),sl.k=some i∧t.flat=true∧L[i]? = some (some (.mit (fs.map λp=>(.str p.1,zyj t p.2)) vis))∧(∀q∈vis,q<fs.length)∧es.Perm (((List.range fs.length).filter λq => !vis.contains q).filterMap λq=>fs[q]?)∧∀p,last=some p->∃(vis':List Nat) (j:Nat),vis=vis'++[j]∧fs[j]? = some p
 |.bld ty b=>∃i a c,sl.k=some i∧L[i]? = some (some (.arr 0 ty 2 [.agg [a,c]] (some 1)))∧(a = .nilp∨a = .ap lv i 0 0 0)∧VR D ρ lv (yan b) c
 |.gone=>True
 |.rig=>sl.k=none∧sl.fp=[]∧sl.v.leaf=true
 |.deep ty q xs h=>sl.ws.length=xs.length∧(match sl.k with
  |none=>xs=[]∧(sl.v = .nils∨sl.v = .sl (D.len (.st q)) [] true)∧sl.fp=[]∧h=none
  |some j=>∃(ver:Nat) (cp:Option Nat) (fps:List (List Nat)),sl.v = .hs lv j ver 0 sl.ws.length false∧L[j]? = some (some (.arr ver ty (D.len (.st q)) sl.ws cp))∧fps.length=xs.length∧sl.fp=fps.flatten∧sl.fp.Nodup ∧
   (∀(n:Nat) (x:D.T q) (w:V) (c:List Nat),xs[n]? = some x->sl.ws[n]? = some w->fps[n]? = some c->EO D ρ lv L q h n x w c) ∧
   ∀n f s,h=some (n,f,s)->0<=n∧n.toNat<xs.length)
end
def TO.live{T:Nat->Type}:TO T->Prop
 |.gone=>False
 |_=>True
def DfL(D:Dat)(ρ:List Slot)(lv:Nat):List (Nat×List (TV D.T))->List (Nat×List V)->Prop
 |[],ds=>ds=[]
 |p::r,ds=>∃vs s,ds=(p.1,vs)::s∧VRL D ρ lv p.2 vs∧DfL D ρ lv r s
theorem DfL.imp{D:Dat}{ρ ρ':List Slot}{lv:Nat}(f:List (TV D.T)->List (TV D.T))(hf:∀xs vs,VRL D ρ lv xs vs->VRL D ρ' lv (f xs) vs):∀{l:List (Nat×List (TV D.T))}{ds:List (Nat×List V)},DfL D ρ lv l ds->DfL D ρ' lv (l.map λp=>(p.1,f p.2)) ds
 |[],ds,h=>h
 |p::r,ds,h=>by
  obtain⟨vs,s,h1,h2,h3⟩:=h;exact⟨vs,s,h1,hf _ _ h2,DfL.imp f hf h3⟩
theorem DfL.more{D:Dat}{ρ:List Slot}{lv:Nat}(e:List Slot){l:List (Nat×List (TV D.T))}{ds:List (Nat×List V)}(h:DfL D ρ lv l ds):DfL D (ρ++e) lv l ds:=by
 have:=h.imp (ρ':=ρ++e) (λxs=>xs) (λxs vs k=>k.more e);simpa using this
structure TRr(D:Dat)(F:Fr)(ρ:List Slot)(ts:TS D.T)(σ:St):Prop where
 nx:ρ.length=ts.nx
 nt:σ.t.length=ts.nt
 tm:∀(j:Nat) (x:TV D.T),fnd ts.t j=some x->∃v,σ.t[j]? = some v∧VR D ρ F.lv x v
 ob:∀(s:Nat) (o:TO D.T),fnd ts.o s=some o->∃sl,ρ[s]? = some sl∧OR D ρ F.lv σ.H.L sl o
 inj:∀(s s':Nat) (o o':TO D.T) (sl sl':Slot) (i:Nat),fnd ts.o s=some o->fnd ts.o s'=some o'->o.live->o'.live->ρ[s]? = some sl->ρ[s']? = some sl'->sl.has i->sl'.has i->s=s'
 mine:∀(s:Nat) (o:TO D.T) (sl:Slot) (i:Nat),fnd ts.o s=some o->o.live->ρ[s]? = some sl->sl.has i->¬F.out i
 lv:σ.H.lv=F.lv
 E:σ.H.E=F.E
 e0:σ.e0=F.e0
 d:DfL D ρ F.lv ts.d σ.d
 out:∀i,F.out i->i<σ.H.L.length∧σ.H.L[i]? = F.L0[i]?
 pin:∀(j:Nat) (sl:Slot),F.pin[j]? = some sl->ρ[j]? = some sl
 fpl:∀(s:Nat) (o:TO D.T) (sl:Slot) (i:Nat),fnd ts.o s=some o->o.live->ρ[s]? = some sl->i∈sl.fp->sl.k≠some i∧∃a,σ.H.L[i]? = some (some a)
 g:∀(i s:Nat) (v:V),ts.g[i]? = some (some s)->F.gv[i]? = some v->VR D ρ F.lv (.own s) v
section
variable {P : Program} {D : Dat} {F : Fr} {ρ : List Slot} {ts : TS D.T} {σ : St} {lv : Nat}
theorem zbn{t off:Nat}{cs:List (TV D.T)}{vs:List V}{x:TV D.T}(hv:VRL D ρ lv cs vs)(h:tRd P t cs off=some x):∃v,rd P t vs off=some v∧VR D ρ lv x v:=by
 unfold tRd at h;unfold rd;split at h;cases h;rename_i heq;rw[heq];split at h;rename_i hl;injection h with h;subst h;refine⟨_,by simp only;rw[Qbx (by rw[<-hv.length];exact hl)],?_⟩;simp only[VR];exact⟨_,rfl,(hv.drop _).take _⟩;cases h;rename_i heq;rw[heq];split at h;rename_i hl;injection h with h;subst h;refine⟨_,by simp only;rw[Qbx (by rw[<-hv.length];exact hl)],?_⟩;simp only[VR]
 exact⟨_,rfl,(hv.drop _).take _⟩;cases h;rename_i h1 h2 heq;obtain⟨v,k1,k2⟩:=hv.get off x h;rw[heq]
 cases hd:‹TypeDesc› <;> first|exact(h1 _ hd).elim|exact(h2 _ _ hd).elim|exact⟨v,k1,k2⟩
theorem TRr.ev(hR:TRr D F ρ ts σ){o:Operand}{x:TV D.T}(h:ts.ev o=some x):VR D ρ F.lv x (σ.ev o):=by
 cases o with
 |tmp t=>
  obtain⟨v,h1,h2⟩:=hR.tm t x h;simp only[St.ev,Qba,h1,Option.getD_some]
  exact h2
 |const v=>simp only[TS.ev,Qbu]at h;subst h;exact .ofC v
 |func f=>simp only[TS.ev,Qbu]at h;subst h;simp only[St.ev,VR];exact⟨[],[],rfl,by simp[VRL],by simp[VRL]⟩
 |global g=>simp[TS.ev]at h
theorem TRr.evs(hR:TRr D F ρ ts σ):∀{l:List Operand}{xs:List (TV D.T)},ts.evs l=some xs->VRL D ρ F.lv xs (l.map σ.ev)
 |[],xs,h=>by simp only[TS.evs,Qbu]at h;subst h;simp[VRL]
 |o::l,xs,h=>by
  simp only[TS.evs]at h;split at h;rename_i v vs hv hvs;injection h with h;subst h;simp only[List.map_cons,VRL];exact⟨_,_,rfl,hR.ev hv,hR.evs hvs⟩;cases h
theorem TRr.get(hR:TRr D F ρ ts σ){i:Nat}{o:zz4}(h:σ.H.L[i]? = some (some o)):σ.H.get F.lv i=some o:=by
 unfold Heap.get;rw[Qbx hR.lv.symm,h];rfl
variable (hD : D.Ok P)
include hD
theorem VR.y8w{t:DTy}{x:t.S D.T}{v:V}(h:DR D t x v):VRL D ρ lv (D.tv t x).cells v.cells:=by
 cases t with
 |nat=>cases h;simp only[Dat.tv,TV.cells,V.cells,VRL];exact⟨_,_,rfl,by simp only[VR],rfl⟩
 |st i=>exact(VR.tv hD h).cells rfl
 |bool=>exact(VR.tv hD h).cells rfl
 |int k=>exact(VR.tv hD h).cells rfl
 |str=>exact(VR.tv hD h).cells rfl
 |sl t=>exact(VR.tv hD h).cells rfl
theorem zyb(hR:TRr D F ρ ts σ){t:Nat}{a x:TV D.T}{va:V}(h:yi1 P D ts t a=some x)(ha:VR D ρ F.lv a va):∃v,z7g P σ.H t va=some v∧VR D ρ F.lv x v:=by
 unfold yi1 at h;split at h;simp only[VR]at ha;obtain⟨vs,rfl,hv⟩:=ha;exact zbn hv h;rename_i s off;split at h;rename_i cs ho;simp only[VR]at ha;obtain⟨sl,i,h1,h2,rfl⟩:=ha;obtain⟨sl',k1,k2⟩:=hR.ob s _ ho
 rw[h1]at k1;injection k1 with k1;subst k1
 simp only[OR]at k2;obtain⟨i',vs,q1,q2,q3⟩:=k2
 rw[h2]at q1;injection q1 with q1;subst q1
 simp only[yjc,hR.get q2];exact zbn q3 h;cases h;rename_i s τ i y off;split at h;rename_i ty t' xs w ho;simp only[VR]at ha;obtain⟨sl,u,h1,h2,h3,h4,h5⟩:=ha;obtain⟨sl',k1,k2⟩:=hR.ob s _ ho
 rw[h1]at k1;injection k1 with k1;subst k1
 simp only[OR]at k2;obtain⟨q1,q2,q3⟩:=k2;have hc:=VR.y8w (ρ:=ρ) (lv:=F.lv) hD h4
 cases hk:sl.k with
 |none=>
  rw[hk]at h5;simp only at h5;subst h5
  exact zbn hc h
 |some j=>
  rw[hk]at h5 q3;obtain⟨ver,n,e1,rfl⟩:=h5;obtain⟨ver',cp,e2,e3⟩:=q3
  rw[e1]at e2;injection e2 with _ _ e2;subst e2
  simp only[y38,zse,hR.get e3,if_true,h3,Qbr,Qbq];exact zbn hc h
 cases h;rename_i s off;split at h;rename_i ty b ho;simp only[VR]at ha;obtain⟨sl,i,h1,h2,rfl⟩:=ha;obtain⟨sl',k1,k2⟩:=hR.ob s _ ho
 rw[h1]at k1;injection k1 with k1;subst k1
 simp only[OR]at k2;obtain⟨i',u,c,q1,q2,q3,q4⟩:=k2
 rw[h2]at q1;injection q1 with q1;subst q1
 have hv:VRL D ρ F.lv [.any,yan b] [u,c]:=by
  simp only[VRL];exact⟨u,[c],rfl,by simp only[VR],c,[],rfl,q4,rfl⟩
 obtain⟨v,w1,w2⟩:=zbn hv h;refine⟨v,?_,w2⟩;simp only[y38,zse,hR.get q2,if_true,Qcd,Qbr,Qbq,V.cells];exact w1;cases h;cases h
omit hD in
theorem zxb{s f:Nat}{x y:TV D.T}{vx:V}(h:ztj P s f x=some y)(hx:VR D ρ lv x vx):∃v,z88 P s f vx=some v∧VR D ρ lv y v:=by
 unfold ztj at h;unfold z88;split at h;cases h;rename_i o ho;rw[ho];split at h;injection h with h;subst h;simp only[VR]at hx ⊢;obtain⟨vs,rfl,hv⟩:=hx;exact⟨_,rfl,vs,rfl,hv⟩;injection h with h;subst h;simp only[VR]at hx ⊢;obtain⟨sl,i,h1,h2,rfl⟩:=hx;exact⟨_,rfl,sl,i,h1,h2,rfl⟩;injection h with h;subst h;simp only[VR]at hx ⊢;obtain⟨sl,w,h1,h2,h3,h4,h5⟩:=hx
 cases hk:sl.k with
 |none=>rw[hk]at h5;simp only at h5;subst h5;exact⟨_,rfl,sl,w,h1,h2,h3,h4,by rw[hk]⟩
 |some j=>rw[hk]at h5;obtain⟨ver,n,e1,rfl⟩:=h5;exact⟨_,rfl,sl,w,h1,h2,h3,h4,by rw[hk];exact⟨ver,n,e1,rfl⟩⟩
 injection h with h;subst h;simp only[VR]at hx ⊢;obtain⟨sl,i,h1,h2,rfl⟩:=hx;exact⟨_,rfl,sl,i,h1,h2,rfl⟩;injection h with h;subst h;simp only[VR]at hx ⊢;obtain⟨sl,j,ver,m,h1,h2,h3,h4,rfl⟩:=hx;exact⟨_,rfl,sl,j,ver,m,h1,h2,h3,h4,rfl⟩;cases h
omit hD in
theorem y8k{s f:Nat}{x y:TV D.T}{vx:V}(h:ygj P s f x=some y)(hx:VR D ρ lv x vx):∃v,y1j P s f vx=some v∧VR D ρ lv y v:=by
 unfold ygj at h;unfold y1j;split at h;rename_i fs hu;rw[hu];simp only;split at h;rename_i fd hf;rw[hf];split at h;simp only[VR]at hx;obtain⟨vs,rfl,hv⟩:=hx;exact zbn hv h;cases h;cases h;cases h
omit hD in
theorem y2t{i:Nat}{x y:TV D.T}{vx:V}(h:y3r i x=some y)(hx:VR D ρ lv x vx):∃v,zu5 i vx=some v∧VR D ρ lv y v:=by
 unfold y3r at h;split at h;simp only[VR]at hx;obtain⟨vs,rfl,hv⟩:=hx;exact hv.get i y h;cases h
omit hD in
theorem yft{x y:TV D.T}{vx:V}(h:tNil x=some y)(hx:VR D ρ lv x vx):∃v,zx0 vx=some v∧VR D ρ lv y v:=by
 unfold tNil at h;split at h;injection h with h;subst h;refine⟨vx,?_,hx⟩;simp only[VR]at hx;obtain⟨sl,i,h1,h2,rfl⟩:=hx;rfl;injection h with h;subst h;refine⟨vx,?_,hx⟩;simp only[VR]at hx;obtain⟨vs,rfl,hv⟩:=hx;rfl;injection h with h;subst h;refine⟨vx,?_,hx⟩;simp only[VR]at hx;obtain⟨sl,w,h1,h2,h3,h4,h5⟩:=hx;split at h5;subst h5;rfl;obtain⟨ver,n,e1,rfl⟩:=h5;rfl;injection h with h;subst h;refine⟨vx,?_,hx⟩
 simp only[VR]at hx;obtain⟨sl,i,h1,h2,rfl⟩:=hx;rfl;injection h with h;subst h;refine⟨vx,?_,hx⟩;simp only[VR]at hx;obtain⟨sl,j,ver,m,h1,h2,h3,h4,rfl⟩:=hx;rfl;injection h with h;subst h;refine⟨vx,?_,hx⟩;simp only[VR]at hx;obtain⟨as,bs,rfl,_⟩:=hx;rfl;cases h
omit hD in
theorem yiq{op:UnOp}{x y:TV D.T}{vx:V}(h:tUn op x=some y)(hx:VR D ρ lv x vx):∃v,pUn op vx=some v∧VR D ρ lv y v:=by
 unfold tUn at h;split at h;injection h with h;subst h;simp only[VR]at hx;subst hx;exact⟨_,rfl,by simp only[VR]⟩;injection h with h;subst h;simp only[VR]at hx;subst hx;exact⟨_,rfl,by simp only[VR]⟩;injection h with h;subst h;simp only[VR]at hx;subst hx;exact⟨_,rfl,by simp only[VR]⟩;cases h
omit hD in
theorem y3s{s d:Nat}{x y:TV D.T}{vx:V}(h:y4j P s d x=some y)(hx:VR D ρ lv x vx):∃v,zop P s d vx=some v∧VR D ρ lv y v:=by
 unfold y4j at h;unfold zop;split at h;simp only[VR]at hx;subst hx;split at h;rename_i h1 h2;injection h with h;subst h;simp only[h1,h2];exact⟨_,rfl,by simp only[VR]⟩;cases h;simp only[VR]at hx;subst hx;split at h;rename_i h1 h2;injection h with h;subst h;simp only[h1,h2];exact⟨_,rfl,by simp only[VR]⟩;cases h;cases h
omit hD in
theorem zvs{u:Nat}{ok:Bool}{x y:TV D.T}{vx:V}(h:zoj P x u ok=some y)(hx:VR D ρ lv x vx):∃v,zfq P vx u ok=some v∧VR D ρ lv y v:=by
 unfold zoj at h;unfold zfq;split at h;cases h;rename_i d t z hni hu;simp only[VR]at hx;obtain⟨w,rfl,hw⟩:=hx;split at h;rename_i ht;injection h with h;subst h;rw[hu]
 cases d <;> first
  |exact(hni _ rfl).elim
  |(refine⟨_,by simp only;rw[Qbx ht],?_⟩
    cases ok;exact hw
    simp only[if_true,VR,VRL];exact⟨_,rfl,_,_,rfl,hw,_,_,rfl,rfl,rfl⟩)
 cases h;cases h
omit hD in
theorem zs7{m:Bool}{xs:List (TV D.T)}{vs:List V}{y:TV D.T}(h:y0x m xs=some y)(hx:VRL D ρ lv xs vs):∃v,zmh m vs=some v∧VR D ρ lv y v:=by
 unfold y0x at h;split at h;injection h with h;subst h;simp only[VRL,VR]at hx;obtain⟨_,_,rfl,rfl,_,_,rfl,rfl,rfl⟩:=hx;exact⟨_,rfl,by simp only[VR];cases m <;> rfl⟩;injection h with h;subst h;simp only[VRL,VR]at hx;obtain⟨_,_,rfl,rfl,_,_,rfl,rfl,_,_,rfl,rfl,rfl⟩:=hx;exact⟨_,rfl,by simp only[VR];cases m <;> rfl⟩;cases h
omit hD in
theorem TRr.parts(hR:TRr D F ρ ts σ):∀{l:List (Nat×Operand)}{xs:List (Nat×TV D.T)},ztw ts l=some xs->xs.map (·.1)=(l.map λp=>(p.1,σ.ev p.2)).map (·.1)∧VRL D ρ F.lv (xs.map (·.2)) ((l.map λp=>(p.1,σ.ev p.2)).map (·.2))
 |[],xs,h=>by simp only[ztw,Qbu]at h;subst h;simp[VRL]
 |(i,o)::l,xs,h=>by
  simp only[ztw]at h;split at h;rename_i v vs hv hvs;injection h with h;subst h;obtain⟨h1,h2⟩:=hR.parts hvs;simp only[List.map_cons,VRL];exact⟨by rw[h1],_,_,rfl,hR.ev hv,h2⟩;cases h
omit hD in
theorem zpt{place:Nat->Option (Nat×Nat)}:∀{ps:List (Nat×TV D.T)}{qs:List (Nat×V)}{cs r:List (TV D.T)}{vs:List V},ps.map (·.1)=qs.map (·.1)->VRL D ρ lv (ps.map (·.2)) (qs.map (·.2))->VRL D ρ lv cs vs->y7v place cs ps=some r->∃r',zpp place vs qs=some r'∧VRL D ρ lv r r'
 |[],[],cs,r,vs,_,_,hc,h=>by simp only[y7v,Qbu]at h;subst h;exact⟨vs,rfl,hc⟩
 |[],q::qs,cs,r,vs,h1,_,_,_=>by simp at h1
 |p::ps,[],cs,r,vs,h1,_,_,_=>by simp at h1
 |(i,x)::ps,(i',v)::qs,cs,r,vs,h1,h2,hc,h=>by
  simp only[List.map_cons,List.cons.injEq]at h1;obtain⟨rfl,h1⟩:=h1;simp only[List.map_cons,VRL]at h2;obtain⟨u,us,he,h2,h3⟩:=h2;injection he with he1 he2;subst he1;subst he2;simp only[y7v]at h;simp only[zpp];split at h;cases h;rename_i off size hp;split at h;rename_i hcond;simp only[Qag,Qbm,Qar]at hcond;have hcells:=h2.cells hcond.1.1;rw[hp];simp only
  rw[Qbx (by simp only[Qag,Qbm,Qar];exact⟨⟨h2.zzi hcond.1.1,by rw[<-hcells.length];exact hcond.1.2⟩,by rw[<-hc.length];exact hcond.2⟩)];exact zpt h1 h3 (hc.yzr hcells off) h;cases h
omit hD in
theorem zgd{t:Nat}{x:TV D.T}(h:y7f P t=some x):∃v,zeroV P t=some v∧VR D ρ lv x v:=by
 unfold y7f at h;unfold zeroV;rw[Qaf]at h;obtain⟨z,hz,rfl⟩:=h;exact⟨_,by rw[hz];rfl,.ofC z⟩
omit hD in
theorem yae{t:Nat}{ps:List (Nat×TV D.T)}{qs:List (Nat×V)}{y:TV D.T}(h1:ps.map (·.1)=qs.map (·.1))(h2:VRL D ρ lv (ps.map (·.2)) (qs.map (·.2)))(h:ygv P t ps=some y):∃v,y1y P t qs=some v∧VR D ρ lv y v:=by
 unfold ygv at h;unfold y1y;split at h;rename_i z hz;obtain⟨v,hv,hr⟩:=zgd (ρ:=ρ) (lv:=lv) hz;simp only[VR]at hr;obtain⟨vs,rfl,hr⟩:=hr;rw[hv];simp only;split at h;rename_i fs hu;rw[hu];simp only;split at h;rename_i places hp;rw[hp];rw[Qaf]at h;obtain⟨r,hr',rfl⟩:=h;obtain⟨r',k1,k2⟩:=zpt h1 h2 hr hr';exact⟨.agg r',by simp only[k1,Qbr],by simp only[VR];exact⟨r',rfl,k2⟩⟩;cases h
 rename_i n e hu;rw[hu];simp only;split at h;rename_i hi;rw[Qbx hi];rw[Qaf]at h;obtain⟨r,hr',rfl⟩:=h;obtain⟨r',k1,k2⟩:=zpt h1 h2 hr hr';exact⟨.agg r',by simp only[k1,Qbr],by simp only[VR];exact⟨r',rfl,k2⟩⟩;cases h;cases h;cases h
omit hD in
theorem yh2(hR:TRr D F ρ ts σ){t:Nat}{x y:TV D.T}{vx:V}(h:tLen P D ts t x=some y)(hx:VR D ρ F.lv x vx):∃v,zkr P σ.H t vx=some v∧VR D ρ F.lv y v:=by
 unfold tLen at h;split at h;split at h
 rename_i hu;injection h with h;subst h;simp only[VR]at hx;subst hx;exact⟨_,by rw[ym1,hu],by simp only[VR]⟩
 cases h;split at h
 rename_i hu;injection h with h;subst h;simp only[VR]at hx;subst hx;exact⟨_,by rw[zqx,hu],by simp only[VR]⟩
 cases h;split at h;rename_i hu;injection h with h;subst h;simp only[VR]at hx;obtain⟨hx,_⟩:=hx
 cases hx with
 |nil=>exact⟨_,by rw[zqx,hu],by simp only[VR];rfl⟩
 |sl _ _ ws full hl hh=>exact⟨_,by rw[y9m,hu],by simp only[VR,hl]⟩
 cases h;split at h;rename_i hu ho;injection h with h;subst h;simp only[VR]at hx;obtain⟨sl,h1,rfl,hleaf⟩:=hx;obtain⟨sl',k1,k2⟩:=hR.ob _ _ ho
 rw[h1]at k1;injection k1 with k1;subst k1
 simp only[OR]at k2;obtain⟨q1,q2,q3⟩:=k2
 cases hk:sl.k with
 |none=>
  rw[hk]at q3
  rcases q3 with ⟨e1,e2⟩|⟨e1,e2⟩
  rw[e1,zqx,hu];exact⟨_,rfl,by simp only[VR];rw[<-q1,e2];rfl⟩;rw[e1.1,y9m,hu]
  exact⟨_,rfl,by simp only[VR];rw[q1]⟩
 |some j=>
  rw[hk]at q3;obtain⟨ver,cp,e1,e2⟩:=q3;rw[e1];refine⟨.int .i64 sl.ws.length,?_,by simp only[VR];rw[q1]⟩;simp only[zkr,hu,hR.get e2,if_true]
 rename_i hu ho;injection h with h;subst h;simp only[VR]at hx;obtain⟨sl,h1,rfl,hleaf⟩:=hx;obtain⟨sl',k1,k2⟩:=hR.ob _ _ ho
 rw[h1]at k1;injection k1 with k1;subst k1
 simp only[OR]at k2;obtain⟨q1,q3⟩:=k2
 cases hk:sl.k with
 |none=>
  rw[hk]at q3;obtain⟨e1,e2,_⟩:=q3
  rcases e2 with e2|e2
  rw[e2,zqx,hu];exact⟨_,rfl,by simp only[VR];rw[e1];rfl⟩;rw[e2,y9m,hu]
  exact⟨_,rfl,by simp only[VR];rw[e1];rfl⟩
 |some j=>
  rw[hk]at q3;obtain⟨ver,cp,fps,e1,e2,_⟩:=q3;rw[e1];refine⟨.int .i64 sl.ws.length,?_,by simp only[VR];rw[q1]⟩;simp only[zkr,hu,hR.get e2,if_true]
 cases h;split at h
 rename_i hu;injection h with h;subst h;simp only[VR]at hx;obtain⟨vs,rfl,_⟩:=hx;exact⟨_,by rw[ylx,hu],by simp only[VR]⟩
 cases h;split at h;rename_i hu ho;injection h with h;subst h;simp only[VR]at hx;obtain⟨sl,i,h1,h2,rfl⟩:=hx;obtain⟨sl',k1,k2⟩:=hR.ob _ _ ho
 rw[h1]at k1;injection k1 with k1;subst k1
 simp only[OR]at k2;obtain⟨i',ms,q1,q2,q4,q3⟩:=k2
 rw[h2]at q1;injection q1 with q1;subst q1
 exact⟨_,by rw[ymb,hu];simp only[hR.get q3];rfl,by simp only[VR];rw[q2];simp⟩;cases h;cases h
omit hD in
theorem zfk:∀(ps:List (Nat×V)) (k n:Nat),ps.map (·.1)=List.range' k n->zha k ps=true
 |[],_,_,_=>rfl
 |(i,v)::r,k,n,h=>by
  cases n with
  |zero=>simp at h
  |succ n=>
   simp only[List.map_cons,List.range'_succ,List.cons.injEq]at h;simp only[zha,h.1,beq_self_eq_true,Bool.true_and];exact zfk r (k+1) n h.2
theorem zeb{t len:Nat}{ps:List (Nat×TV D.T)}{qs:List (Nat×V)}{y:TV D.T}(h1:ps.map (·.1)=qs.map (·.1))(h2:VRL D ρ lv (ps.map (·.2)) (qs.map (·.2)))(h:zdf P D t len ps = .ok y):∃v,z90 P t len qs=some v∧VR D ρ lv y v:=by
 unfold zdf at h;unfold z90;split at h;rename_i e hu;rw[hu];simp only;split at h;rename_i z τ hz hτ;rw[hz];simp only;split at h;rename_i hc;simp only[Qag,Qbm,Qar,Qat]at hc;obtain⟨⟨⟨⟨⟨⟨⟨⟨c1,c2⟩,c3⟩,c4⟩,c5⟩,c6⟩,c7⟩,c8⟩,c9⟩:=hc;have hlen:ps.length=qs.length:=by have:=congrArg List.length h1;simpa using this
 split at h;rename_i q cells hrow;obtain⟨rfl,rfl⟩:=yf5 D hrow;injection h with h;subst h;have hql:qs.length=len:=by omega
 have hall:∀p∈qs,p.2.zzi=true∧p.2.cells.length=P.cellsOf e:=λp hp=>by
  obtain⟨j,hj⟩:=Qbp hp;have hlt:j<[(0,TV.agg cells)].length:=by rw[hlen];exact(Qaa.1 hj).1
  have hq:=c7 [(0,TV.agg cells)][j] (Qad hlt);have hr:VR D ρ lv [(0,TV.agg cells)][j].2 p.2:=h2.zte (j:=j) (by rw[Qan,Qab hlt];rfl) (by simp[hj]);exact⟨hr.zzi hq.1,by rw[<-(hr.cells hq.1).length];exact hq.2⟩
 have hcond:(z.zzi&&z.cells.length==P.cellsOf e&&decide (0<P.cellsOf e)&&(P.info? e).isSome&&qs.length==len&&zha 0 qs&&qs.all (λp=>p.2.zzi&&p.2.cells.length==P.cellsOf e)&&decide (len * P.cellsOf e<=2 ^ 24))=true:=by
  simp only[Qag,Qbm,Qar,Qat];exact⟨⟨⟨⟨⟨⟨⟨c1,c2⟩,c3⟩,c4⟩,hql⟩,zfk qs 0 len (by rw[<-h1,c6,List.range_eq_range'])⟩,hall⟩,c8⟩
 rw[Qbx hcond];refine⟨_,rfl,?_⟩;simp only[List.length_cons,Qcc]at c5;rw[Qby (by omega),<-c9];simp only[VR];exact⟨_,rfl,h2⟩;rename_i hnorow;split at h;rename_i xs hxs;injection h with h;subst h;obtain⟨k1,k2⟩:=zsz hD hxs h2;have hql:qs.length=len:=by omega
 have hall:∀p∈qs,p.2.zzi=true∧p.2.cells.length=P.cellsOf e:=λp hp=>by
  obtain⟨j,hj⟩:=Qbp hp;have hlt:j<ps.length:=by rw[hlen];exact(Qaa.1 hj).1
  have hq:=c7 ps[j] (Qad hlt);have hr:VR D ρ lv ps[j].2 p.2:=h2.zte (j:=j) (by simp[hlt]) (by simp[hj]);exact⟨hr.zzi hq.1,by rw[<-(hr.cells hq.1).length];exact hq.2⟩
 have hcond:(z.zzi&&z.cells.length==P.cellsOf e&&decide (0<P.cellsOf e)&&(P.info? e).isSome&&qs.length==len&&zha 0 qs&&qs.all (λp=>p.2.zzi&&p.2.cells.length==P.cellsOf e)&&decide (len * P.cellsOf e<=2 ^ 24))=true:=by
  simp only[Qag,Qbm,Qar,Qat];exact⟨⟨⟨⟨⟨⟨⟨c1,c2⟩,c3⟩,c4⟩,hql⟩,zfk qs 0 len (by rw[<-h1,c6,List.range_eq_range'])⟩,hall⟩,c8⟩
 rw[Qbx hcond];refine⟨_,rfl,?_⟩;simp only[Qbd]at k1;by_cases hl0:len=0;rw[Qbx hl0,Qbx hl0,<-c9];have:xs=[]:=Qao (by omega);subst this;simp only[VR];exact⟨.sl τ [] [] true rfl (by simp),λ_=>⟨[],rfl⟩,λ_=>trivial⟩;rw[Qby hl0,Qby hl0,<-c9];simp only[VR];exact⟨.sl τ xs _ true (by simpa using k1) k2,λ_=>⟨_,rfl⟩,by simp⟩;have hql:qs.length=len:=by omega
 have hall:∀p∈qs,p.2.zzi=true∧p.2.cells.length=P.cellsOf e:=λp hp=>by
  obtain⟨j,hj⟩:=Qbp hp;have hlt:j<ps.length:=by rw[hlen];exact(Qaa.1 hj).1
  have hq:=c7 ps[j] (Qad hlt);have hr:VR D ρ lv ps[j].2 p.2:=h2.zte (j:=j) (by simp[hlt]) (by simp[hj]);exact⟨hr.zzi hq.1,by rw[<-(hr.cells hq.1).length];exact hq.2⟩
 have hcond:(z.zzi&&z.cells.length==P.cellsOf e&&decide (0<P.cellsOf e)&&(P.info? e).isSome&&qs.length==len&&zha 0 qs&&qs.all (λp=>p.2.zzi&&p.2.cells.length==P.cellsOf e)&&decide (len * P.cellsOf e<=2 ^ 24))=true:=by
  simp only[Qag,Qbm,Qar,Qat];exact⟨⟨⟨⟨⟨⟨⟨c1,c2⟩,c3⟩,c4⟩,hql⟩,zfk qs 0 len (by rw[<-h1,c6,List.range_eq_range'])⟩,hall⟩,c8⟩
 rw[Qbx hcond];split at h;rename_i s0 _ _ q cells;split at h;injection h with h;subst h;refine⟨_,rfl,?_⟩;simp only[List.length_cons,Qcc]at c5;rw[Qby (by omega),<-c9];simp only[VR];exact⟨_,rfl,h2⟩;cases h;cases h;cases h;cases h;cases h;cases h;cases h
omit hD in
theorem FR.zk5{α:Type}{o:Option α}{a:α}(h:FR.of o = .ok a):o=some a:=by
 cases o with
 |none=>cases h
 |some b=>injection h with h;rw[h]
theorem yj8{t:Nat}{n c:Int}{k1 k2:IntKind}{y:TV D.T}(h:tMk P D t n c = .ok y):∃v,zf8 P t (.int k1 n) (.int k2 c)=some v∧VR D ρ lv y v:=by
 unfold tMk at h;split at h
 case h_2=>cases h
 rename_i n c;split at h
 case h_2=>cases h
 rename_i e ht;split at h
 case h_2=>cases h
 rename_i i z τ hi hz hτ;split at h
 case h_2=>cases h
 rename_i hc;simp only[Qag]at hc;obtain⟨⟨⟨⟨⟨⟨c1,c2⟩,c3⟩,c4⟩,c5⟩,c6⟩,c7⟩:=hc;split at h
 case h_2=>cases h
 case h_3=>cases h
 rename_i x hx;injection h with h;subst h;obtain⟨v,b1,b2⟩:=zgd (D:=D) (ρ:=ρ) (lv:=lv) hz;have hl:=(b2.cells c1).length;have hd:=zf2 hD hx b2;refine⟨.sl i.size (List.replicate n v) (Nat.beq n c),?_,?_⟩;simp only[zf8,ht,hi,b1]
 have hb:(v.zzi&&Nat.beq v.cells.length i.size&&Nat.blt 0 i.size&&Nat.ble n c&&Nat.ble c 1000000&&Nat.ble i.bytes 100000)=true:=by
  simp only[Qag];exact⟨⟨⟨⟨⟨b2.zzi c1,by rw[<-hl];exact c2⟩,c3⟩,c4⟩,c5⟩,c6⟩
 rw[hb];rw[<-Qaj c7];simp only[VR];refine⟨.sl _ _ _ _ (by simp) λj a w h1 h2 =>?_,λh=>by omega,λh=>by cases h⟩;rw[Qbo]at h1 h2;split at h1;rename_i hj;rw[Qbx hj]at h2;injection h1 with h1;injection h2 with h2;subst h1;subst h2;exact hd;cases h1
theorem y7w(hR:TRr D F ρ ts σ){op:Op}{x:TV D.T}(h:tP1 P D ts op = .ok x):∃v,pv P σ.H σ.ev op=some v∧VR D ρ F.lv x v:=by
 unfold tP1 at h;unfold pv;split at h;exact⟨_,rfl,hR.ev (FR.zk5 h)⟩;exact⟨_,rfl,hR.ev (FR.zk5 h)⟩;split at h;rename_i ha;exact zyb hD hR (FR.zk5 h) (hR.ev ha);cases h;split at h;rename_i ha;exact yft (FR.zk5 h) (hR.ev ha);cases h;split at h;rename_i ha;exact yiq (FR.zk5 h) (hR.ev ha);cases h;split at h;rename_i ha;exact y3s (FR.zk5 h) (hR.ev ha);cases h;split at h;rename_i ha;split at h;rename_i hc
 injection h with h;subst h;exact⟨_,by simp only[ze9];rw[Qbx hc],by simp only[VR];exact⟨_,rfl,hR.ev ha⟩⟩;cases h;cases h;split at h;rename_i ha hb;injection h with h;subst h;exact⟨_,rfl,by simp only[VR];exact⟨_,_,rfl,hR.evs ha,hR.evs hb⟩⟩;cases h;split at h;rename_i ha;exact zxb (FR.zk5 h) (hR.ev ha);cases h;split at h;rename_i ha;exact y8k (FR.zk5 h) (hR.ev ha);cases h;split at h
 rename_i ha;exact zvs (FR.zk5 h) (hR.ev ha);cases h;split at h;rename_i ha;exact y2t (FR.zk5 h) (hR.ev ha);cases h;split at h;rename_i ha;obtain⟨h1,h2⟩:=hR.parts ha;exact yae h1 h2 (FR.zk5 h);cases h;split at h;rename_i ha;obtain⟨h1,h2⟩:=hR.parts ha;exact zeb hD h1 h2 (ygz _ h);cases h;split at h;rename_i ha hb;have e1:=hR.ev ha;have e2:=hR.ev hb;simp only[VR]at e1 e2;obtain⟨v,a1,a2⟩:=yj8 (ρ:=ρ) (lv:=F.lv) hD h
 exact⟨v,by rw[<-e1,<-e2]at a1;exact a1,a2⟩;cases h;unfold z8i;split at h;rename_i hcal;split at h;rename_i o t hargs htys;split at h;rename_i ha;simp only[hcal,hargs,htys];exact yh2 hR (FR.zk5 h) (hR.ev ha);cases h;cases h;rename_i hcal;split at h;rename_i ha;simp only[hcal];exact zs7 (FR.zk5 h) (hR.evs ha);cases h;rename_i hcal;split at h;rename_i ha;simp only[hcal];exact zs7 (FR.zk5 h) (hR.evs ha);cases h;cases h
 cases h
end
set_option linter.unusedSectionVars false
def zns(H:Heap):Heap:=⟨H.lv,[],λ_ _=>none⟩
def ymv(g:Gh):Gh:={g with dom:=λ_ _=>False}
theorem zig(H:Heap)(l i:Nat):(zns H).get l i=none:=by
 unfold Heap.get zns;split <;> simp
theorem yhu{g:Gh}{H:Heap}{b:Nat}:¬Own g (zns H) b:=λ⟨l,i,o,ho,_⟩=>by rw[zig]at ho;cases ho
theorem ykm{W:World}{g:Gh}{H:Heap}(h:Good W g H):Good W (ymv g) (zns H) :=
 ⟨λl i o ho=>(by rw[zig]at ho;cases ho),λl i o ho=>(by rw[zig]at ho;cases ho),λl i o l' i' o' ho=>(by rw[zig]at ho;cases ho),λl i hd=>hd.elim,λl i o ho=>(by rw[zig]at ho;cases ho),h.ziy.zxt (λb hb=>(yhu hb).elim),h.base⟩
theorem yno{W:World}{g:Gh}{H:Heap}{v u:V}{c:Value}(hG:Good W g H)(h:VS H (λ_ _=>False) v u)(hr:Rel W g H v c):Rel W (ymv g) (zns H) u c :=
 VS.rel hG (λ_ _ h=>h.elim) (λ_ _ h=>h.elim) (λ_ _ h=>h.elim) (λ_ _ h=>h.elim) (λ_ _ h=>h.elim) (λb hb=>(yhu hb).elim) (λi o _ hb=>yhu hb) h hr
inductive VFl:V->Prop where
 |bool (b:Bool):VFl (.bool b)
 |int (k:IntKind) (n:Int):VFl (.int k n)
 |str (s:B8):VFl (.str s)
 |tup (vs:List V) (h:∀(j:Nat) (v:V),vs[j]? = some v->VFl v):VFl (.tup vs)
theorem VFl.rel{v:V}(h:VFl v){W W':World}{g g':Gh}{H H':Heap}:∀{c:Value},Rel W g H v c->Rel W' g' H' v c:=by
 induction h with
 |bool b=>intro c hc;cases hc;exact .bool _
 |int k n=>intro c hc;cases hc;exact .int _ _
 |str s=>intro c hc;cases hc;exact .str _
 |tup vs h ih=>
  intro c hc
  cases hc with
  |tup _ cs hn hr=>exact .tup vs cs hn λj v hj=>ih j v hj (hr j v hj)
theorem y9v{P:Program}{f:Nat}{vs us:List V}{r:V}{H:Heap}(hc:zjt P f us r)(h:VSL H (λ_ _=>False) vs us)(hr:VFl r):zsi P f vs H r H:=λW g cargs hG hA=>by
 have hlen:=h.length
 have hA':zgc W (ymv g) (zns H) us cargs:=⟨hA.1.trans hlen,λj u hj=>by
  have hlt:=(Qaa.1 hj).1;have hv:vs[j]? = some (vs[j]'(by omega)):=Qab _
  exact yno hG (h.get j _ u hv hj) (hA.2 j _ hv)⟩
 have grow:∀{W':World}{g':Gh},Step W (ymv g) (zns H) W' g' (zns H)->Grow W W':=λst=>⟨st.os,st.tape,st.output,st.size,λb hb=>st.block b hb yhu⟩
 rcases hc (zns H) W (ymv g) cargs (ykm hG) hA' with ⟨e,hcalls⟩|⟨c,W',g',e,st,gd,rl⟩
 exact .inl ⟨e,hcalls.mono λe W' ⟨c,g',e1,st,gd,rl⟩=>⟨c,g,e1,(grow st).step,hG.grow (grow st),hr.rel rl⟩⟩;exact .inr ⟨c,W',g,e,(grow st).step,hG.grow (grow st),hr.rel rl⟩
section
variable {P : Program} {D : Dat} {F : Fr} {ρ : List Slot} {ts : TS D.T} {σ : St} {lv : Nat} {L : List (Option zz4)} {E : Nat → Nat → Option zz4}
theorem zfu{α:Type}{Q:Nat->α->Prop}:∀n:Nat,(∀j,j<n->∃a,Q j a)->∃l:List α,l.length=n∧∀j a,l[j]? = some a->Q j a
 |0,_=>⟨[],rfl,λj a h=>by simp at h⟩
 |n+1,h=>by
  obtain⟨l,h1,h2⟩:=zfu n λj hj=>h j (by omega)
  obtain⟨a,ha⟩:=h n (by omega);refine⟨l++[a],by simp[h1],λj b hb =>?_⟩;rw[Qbe]at hb;split at hb;exact h2 j b hb;rename_i hj;rw[h1]at hb hj
  have:j-n=0:=by
   rcases Nat.eq_zero_or_pos (j-n)with q|q
   exact q;rw[Qcf (by simp;omega)]at hb;cases hb
  have hjn:j=n:=by omega
  subst hjn;simp at hb;subst hb;exact ha
theorem DR.kin(hD:D.Ok P){t:DTy}{x:t.S D.T}{v:V}(h:DR D t x v)(Dm:Nat->Nat->Prop):V.kin Dm v:=by
 induction h with
 |bool|int|str|nat|nil=>simp[V.kin]
 |sl t xs ws full hl h ih=>
  simp only[V.kin]
  exact za7 λw hw=>by
   obtain⟨j,hj⟩:=Qbp hw;have hlt:=(Qaa.1 hj).1
   exact ih j _ w (Qab (by omega)) hj
 |st i x vs hl h ih=>
  simp only[V.kin]
  exact za7 λw hw=>by
   obtain⟨j,hj⟩:=Qbp hw;have hlt:=(Qaa.1 hj).1;obtain⟨p,hp,_⟩:=HL.zgi (D.fl i) (D.get i x) j (by omega)
   exact ih j p w hp hj
 |enc i x=>exact hD.kin i x Dm
def Seen(H:Heap):OM->V->V->Prop
 |.el,v,u=>v.cells.length=u.cells.length∧∀(j:Nat) (a b:V),v.cells[j]? = some a->u.cells[j]? = some b->VS H (λ_ _=>False) a b
 |.dat,v,u=>VS H (λ_ _=>False) v u
 |.own _,v,u=>VS H (λ_ _=>False) v u
theorem DO.see(hD:D.Ok P){m:OM}{t:DTy}{x:t.S D.T}{v:V}{fp:List Nat}(h:DO D lv L m t x v fp) :
  ∃u,DR D t x u∧Seen ⟨lv,L,E⟩ m v u:=by
 induction h with
 |dat h=>exact⟨_,h,.keep _ (h.kin hD _)⟩
 |nil h hv=>exact⟨_,h,.keep _ (h.kin hD _)⟩
 | @own ty t xs j ver cp ws fps hL hl hf he ih=>
   obtain⟨us,e1,e2⟩:=zfu (Q:=λn u=>∀(x:t.S D.T) (w:V),xs[n]? = some x->ws[n]? = some w->DR D t x u∧w.cells.length=u.cells.length∧∀(j:Nat) (a b:V),w.cells[j]? = some a->u.cells[j]? = some b->VS ⟨lv,L,E⟩ (λ_ _=>False) a b) xs.length λn hn=>by
    obtain⟨u,h1,h2⟩:=ih n _ _ _ (Qab hn) (Qab (show n<ws.length by omega)) (Qab (show n<fps.length by omega));refine⟨u,λx w hx hw =>?_⟩
    rw[Qab hn]at hx;injection hx with hx;subst hx
    rw[Qab (show n<ws.length by omega)]at hw;injection hw with hw;subst hw
    exact⟨h1,h2⟩
   refine⟨.sl (D.len t) us false,.sl t xs us false e1 λn x u hx hu =>?_,?_⟩;have hn:=(Qaa.1 hx).1;exact(e2 n u hu x _ hx (Qab (show n<ws.length by omega))).1;refine .hs lv j ver ty (D.len t) 0 ws.length false ws us cp rfl ?_ (by omega) (λn w u hw hu =>?_) λn w u c a b hw hu ha hb =>?_
   show(if lv=lv then (L[j]?).join else _)=_;rw[Qbx rfl,hL];rfl;rw[Nat.zero_add]at hw;have hn:=(Qaa.1 hw).1;exact(e2 n u hu _ w (Qab (show n<xs.length by omega)) hw).2.1;rw[Nat.zero_add]at hw;have hn:=(Qaa.1 hw).1
   exact(e2 n u hu _ w (Qab (show n<xs.length by omega)) hw).2.2 c a b ha hb
 | @el i x vs cs hl hc h ih=>
   obtain⟨us,e1,e2⟩:=zfu (Q:=λf u=>∀(p:(t:DTy)×t.S D.T) (w:V),HL.nth (D.fl i) (D.get i x) f=some p->vs[f]? = some w->DR D p.1 p.2 u∧VS ⟨lv,L,E⟩ (λ_ _=>False) w u) (D.fl i).length λf hf=>by
    obtain⟨p,hp,_⟩:=HL.zgi (D.fl i) (D.get i x) f hf;obtain⟨u,h1,h2⟩:=ih f p _ _ hp (Qab (show f<vs.length by omega)) (Qab (show f<cs.length by omega));refine⟨u,λp' w hp' hw =>?_⟩
    rw[hp]at hp';injection hp' with hp';subst hp'
    rw[Qab (show f<vs.length by omega)]at hw;injection hw with hw;subst hw
    refine⟨h1,?_⟩
    cases how:D.ow i f with
    |none=>rw[how]at h2;exact h2
    |some ty=>rw[how]at h2;exact h2
   refine⟨.agg us,.st i x us e1 λf p u hp hu =>?_,?_⟩;have hf:=(HL.zay _ _ _ _ hp).1;exact(e2 f u hu p _ hp (Qab (show f<vs.length by omega))).1;refine⟨by show vs.length=us.length;omega,λf a b ha hb =>?_⟩;replace ha:vs[f]? = some a:=ha;replace hb:us[f]? = some b:=hb;have hf:=(Qaa.1 ha).1;obtain⟨p,hp,_⟩:=HL.zgi (D.fl i) (D.get i x) f (by omega)
   exact(e2 f b hb p a hp ha).2
 |elf ht h=>exact⟨_,h,rfl,λj a b ha hb=>by rw[ha]at hb;injection hb with hb;subst hb;exact .keep _ (z7p (zlq (h.kin hD _)) j a ha)⟩
end
section
variable {P : Program} {D : Dat} {F : Fr} {ρ : List Slot} {ts : TS D.T} {σ : St} {lv : Nat}
mutual
theorem zsy:∀{d t:Nat}{x y:TV D.T}{vx vy:V}{b:Bool},ybl P d t x y=some b->VR D ρ lv x vx->VR D ρ lv y vy->eqv P d t vx vy=some b
 |0,t,x,y,vx,vy,b,h,hx,hy=>by simp[ybl]at h
 |d+1,t,x,y,vx,vy,b,h,hx,hy=>by
  simp only[ybl]at h;split at h;simp only[VR]at hx hy;subst hx;subst hy;(simp only[eqv];split at h <;> first|(rename_i hu;simp only[hu];exact h)|cases h);simp only[VR]at hx hy;subst hx;subst hy;(simp only[eqv];split at h <;> first|(rename_i hu;simp only[hu];exact h)|cases h);simp only[VR]at hx hy;subst hx;subst hy;(simp only[eqv];split at h <;> first|(rename_i hu;simp only[hu];exact h)|cases h)
  simp only[VR]at hx hy;obtain⟨xs,rfl,hx⟩:=hx;obtain⟨ys,rfl,hy⟩:=hy;simp only[eqv];split at h;rename_i hu;simp only[hu];split at h;cases h;rename_i hs;rw[Qby hs];exact zof h hx hy;cases h;simp only[VR]at hx hy;subst hx;subst hy;(simp only[eqv];split at h <;> first|(rename_i hu;simp only[hu];exact h)|cases h)
  simp only[VR]at hx hy;subst hx;obtain⟨_,_,_,_,rfl⟩:=hy;(simp only[eqv];split at h <;> first|(rename_i hu;simp only[hu];exact h)|cases h);simp only[VR]at hx hy;subst hx;obtain⟨_,rfl,_⟩:=hy;(simp only[eqv];split at h <;> first|(rename_i hu;simp only[hu];exact h)|cases h)
  simp only[VR]at hx hy;subst hy;obtain⟨_,_,_,_,rfl⟩:=hx;(simp only[eqv];split at h <;> first|(rename_i hu;simp only[hu];exact h)|cases h);simp only[VR]at hx hy;subst hy;obtain⟨_,rfl,_⟩:=hx;(simp only[eqv];split at h <;> first|(rename_i hu;simp only[hu];exact h)|cases h);simp only[VR]at hx hy;subst hx;subst hy;(simp only[eqv];split at h <;> first|(rename_i hu;simp only[hu];exact h)|cases h)
  simp only[VR]at hx hy;subst hx;subst hy;(simp only[eqv];split at h <;> first|(rename_i hu;simp only[hu];exact h)|cases h);simp only[VR]at hx hy;subst hx;obtain⟨_,_,rfl,_⟩:=hy;(simp only[eqv];split at h <;> first|(rename_i hu;simp only[hu];exact h)|cases h);simp only[VR]at hx hy;subst hy;obtain⟨_,_,rfl,_⟩:=hx;(simp only[eqv];split at h <;> first|(rename_i hu;simp only[hu];exact h)|cases h)
  simp only[VR]at hx hy;subst hx;obtain⟨_,rfl,_⟩:=hy;(simp only[eqv];split at h <;> first|(rename_i hu;simp only[hu];exact h)|cases h);simp only[VR]at hx hy;subst hy;obtain⟨_,rfl,_⟩:=hx;(simp only[eqv];split at h <;> first|(rename_i hu;simp only[hu];exact h)|cases h);cases h
theorem zof:∀{d:Nat}{fs:List Field}{xs ys:List (TV D.T)}{vx vy:List V}{b:Bool},y4i P d fs xs ys=some b->VRL D ρ lv xs vx->VRL D ρ lv ys vy->y6t P d fs vx vy=some b
 |0,fs,xs,ys,vx,vy,b,h,hx,hy=>by simp[y4i]at h
 |d+1,[],xs,ys,vx,vy,b,h,hx,hy=>by simpa only[y6t,y4i]using h
 |d+1,f::fs,xs,ys,vx,vy,b,h,hx,hy=>by
  simp only[y4i]at h;simp only[y6t];split at h;rename_i hf;rw[Qbx hf];exact zof h hx hy;rename_i hf;rw[Qby hf];split at h;rename_i a c ha hc;obtain⟨va,k1,k2⟩:=zbn hx ha;obtain⟨vc,k3,k4⟩:=zbn hy hc;rw[k1,k3];split at h;rename_i r s hr hs;simp only[zsy hr k2 k4,zof hs hx hy];exact h;cases h;cases h
end
theorem yel{t:Nat}{x y:TV D.T}{vx vy:V}{b:Bool}(h:ybl P 24 t x y=some b)(ho:(x.odd&&zv4 P t x y)=true)(hx:VR D ρ lv x vx)(hy:VR D ρ lv y vy) :
  (∀k k' a c,vx = .int k a->vy = .int k' c->False)∧(∀a c,vx = .str a->vy = .str c->False)∧(vx.odd&&zgz P t vx vy)=true:=by
 simp only[ybl]at h;split at h <;> (try simp only[TV.odd,zv4,Qag,Bool.false_eq_true,false_and,true_and,Bool.and_true,Bool.and_false,Bool.true_and]at ho) <;> (try simp only[VR]at hx hy)
 subst hx;subst hy;exact⟨by simp,by simp,rfl⟩;obtain⟨xs,rfl,hx⟩:=hx;obtain⟨ys,rfl,hy⟩:=hy;exact⟨by simp,by simp,by simpa[V.odd,zgz]using ho⟩;subst hx;subst hy;exact⟨by simp,by simp,rfl⟩;subst hx;obtain⟨_,_,_,_,rfl⟩:=hy;exact⟨by simp,by simp,rfl⟩;subst hx;obtain⟨_,rfl,_⟩:=hy;exact⟨by simp,by simp,rfl⟩;subst hy;obtain⟨_,_,_,_,rfl⟩:=hx;exact⟨by simp,by simp,rfl⟩
 subst hy;obtain⟨_,rfl,_⟩:=hx;exact⟨by simp,by simp,rfl⟩;subst hx;subst hy;exact⟨by simp,by simp,rfl⟩;subst hx;subst hy;exact⟨by simp,by simp,rfl⟩;subst hx;obtain⟨_,_,rfl,_⟩:=hy;exact⟨by simp,by simp,rfl⟩;subst hy;obtain⟨_,_,rfl,_⟩:=hx;exact⟨by simp,by simp,rfl⟩;subst hx;obtain⟨_,rfl,_⟩:=hy;exact⟨by simp,by simp,rfl⟩;subst hy;obtain⟨_,rfl,_⟩:=hx;exact⟨by simp,by simp,rfl⟩;cases h
theorem z0o{α:Type}{o:Option α}{β:Type}{f:α->Option β}{r:β}(h:z57 o f=some r):∃x,o=some x∧f x=some r:=zkj h
theorem yly{t:Nat}{x y:V}{b:Bool}(h1:∀k k' a c,x = .int k a->y = .int k' c->False)(h2:∀a c,x = .str a->y = .str c->False)(h3:(x.odd&&zgz P t x y)=true)(h4:eqv P 24 t x y=some b):zx8 P .eql t x y=some (.bool b):=by
 unfold zx8;split;exact(h1 _ _ _ _ rfl rfl).elim;exact(h2 _ _ rfl rfl).elim;simp only;rw[Qbx h3,h4];rfl
theorem yoo{t:Nat}{x y:V}{b:Bool}(h1:∀k k' a c,x = .int k a->y = .int k' c->False)(h2:∀a c,x = .str a->y = .str c->False)(h3:(x.odd&&zgz P t x y)=true)(h4:eqv P 24 t x y=some b):zx8 P .neq t x y=some (.bool (!b)):=by
 unfold zx8;split;exact(h1 _ _ _ _ rfl rfl).elim;exact(h2 _ _ rfl rfl).elim;simp only;rw[Qbx h3,h4];rfl
theorem yge{R:Type}{op:BinOp}{t:Nat}{x y:TV D.T}{vx vy:V}{k:TV D.T->Option R}{r:R}(h:tBin P op t x y k=some r)(hx:VR D ρ lv x vx)(hy:VR D ρ lv y vy) :
  ∃z v,zx8 P op t vx vy=some v∧VR D ρ lv z v∧k z=some r:=by
 unfold tBin at h;split at h
 ·rename_i i a i' b;simp only[VR]at hx hy;subst hx;subst hy;split at h;obtain⟨z,h1,h2⟩:=z0o h;unfold shl at h1;split at h1;cases h1;rename_i hb;injection h1 with h1;subst h1;exact⟨_,_,by simp only[zx8];rw[Qby hb],by simp only[VR],h2⟩;obtain⟨z,h1,h2⟩:=z0o h;unfold shr at h1;split at h1;cases h1;rename_i hb;injection h1 with h1;subst h1;exact⟨_,_,by simp only[zx8];rw[Qby hb],by simp only[VR],h2⟩
  ·rename_i hn1 hn2;split at h
   ·rename_i hi;subst hi
    have key:∀v,y2h op i a b=some v->zx8 P op t (.int i a) (.int i b)=some v:=λv hv=>by
     unfold zx8
     cases op <;> first|exact(hn1 rfl).elim|exact(hn2 rfl).elim|(simp only[if_true];exact hv)
    split at h
    all_goals first
     |(refine⟨_,_,key _ rfl,by simp only[VR],h⟩;done)
     |skip
    obtain⟨z,h1,h2⟩:=z0o h;obtain⟨h3,rfl⟩:=yoq h1;exact⟨_,_,key _ (by simp only[y2h];rw[Qby h3]),by simp only[VR],h2⟩;obtain⟨z,h1,h2⟩:=z0o h;obtain⟨h3,rfl⟩:=ylu h1;exact⟨_,_,key _ (by simp only[y2h];rw[Qby h3]),by simp only[VR],h2⟩;cases h
   cases h
 rename_i a b;simp only[VR]at hx hy;subst hx;subst hy;split at h;obtain⟨z,h1,h2⟩:=z0o h;obtain⟨h3,rfl⟩:=yn1 h1;exact⟨_,_,by simp only[zx8,yh8];rw[Qbx h3],by simp only[VR],h2⟩;exact⟨_,_,rfl,by simp only[VR],h⟩;exact⟨_,_,rfl,by simp only[VR],h⟩;exact⟨_,_,rfl,by simp only[VR],h⟩;exact⟨_,_,rfl,by simp only[VR],h⟩;exact⟨_,_,rfl,by simp only[VR],h⟩;exact⟨_,_,rfl,by simp only[VR],h⟩;cases h;split at h;split at h
 rename_i ho;split at h;rename_i b hb;obtain⟨h1,h2,h3⟩:=yel hb ho hx hy;exact⟨_,_,yly h1 h2 h3 (zsy hb hx hy),by simp only[VR],h⟩;cases h;cases h;split at h;rename_i ho;split at h;rename_i b hb;obtain⟨h1,h2,h3⟩:=yel hb ho hx hy;exact⟨_,_,yoo h1 h2 h3 (zsy hb hx hy),by simp only[VR],h⟩;cases h;cases h;cases h
variable (hD : D.Ok P)
include hD
omit hD in
theorem yg7{t:DTy}{xs:List (t.S D.T)}{ws:List V}(hl:ws.length=xs.length)(h:∀(j:Nat) (x:t.S D.T) (w:V),xs[j]? = some x->ws[j]? = some w->DR D t x w){n:Int}{y:t.S D.T}(hy:ix xs n=some y):0<=n∧n.toNat<ws.length∧∃w,ws[n.toNat]? = some w∧DR D t y w:=by
 obtain⟨h1,h2⟩:=zfe hy;have hlt:n.toNat<ws.length:=by rw[hl];exact(Qaa.1 h2).1
 exact⟨h1,hlt,ws[n.toNat],Qab hlt,h _ _ _ h2 (Qab hlt)⟩
omit hD in
theorem zsk{R:Type}{r:R}:∀{len:Nat}{n:Int}{f:Nat->Option R},0<=n->n<(len:Int)->zvm len n f=some r->∃m,m<len∧n=Int.ofNat m∧f m=some r
 |0,_,_,_,_,h=>by cases h
 |1,n,f,h0,h1,h=>⟨0,by omega,by simp only[Int.ofNat_eq_natCast];omega,h⟩
 |len+2,n,f,h0,h1,h=>by
  simp only[zvm]at h;rw[y0v]at h;split at h;rename_i hc;exact⟨len+1,by omega,by simpa using hc,h⟩;rename_i hc;have hne:n≠((len+1:Nat):Int):=by simpa using hc
  obtain⟨m,h2,h3,h4⟩:=zsk h0 (by omega) h;exact⟨m,by omega,h3,h4⟩
omit hD in
theorem zsr{R:Type}{t len e:Nat}{ik:IntKind}{H:Heap}{x:TV D.T}{vx:V}{k:TV D.T->Option R}{r:R}{m:Nat}(hu:P.underlying t=some (.array len e))(h:y0o P len e x k m=some r)(hx:VR D ρ lv x vx) :
  ∃z v,kzm P H t vx (.int ik (Int.ofNat m))=some v∧VR D ρ lv z v∧k z=some r:=by
 unfold y0o at h;split at h;rename_i hc;have hn0:(0:Int)<=Int.ofNat m:=Int.natCast_nonneg m;have hlt:Int.ofNat m<(len:Int):=Int.ofNat_lt.2 hc.1;split at h;rename_i cs off;simp only[VR]at hx;obtain⟨vs,rfl,hv⟩:=hx;exact⟨_,.ref vs (off+m * P.cellsOf e),by unfold kzm;simp only;rw[Qbx hn0,hu];simp only;rw[Qbx ⟨hlt,hc.2⟩];rfl,by simp only[VR];exact⟨vs,rfl,hv⟩,h⟩;rename_i s off;simp only[VR]at hx
 obtain⟨sl,j,h1,h2,rfl⟩:=hx;exact⟨_,.ptr lv j (off+m * P.cellsOf e),by unfold kzm;simp only;rw[Qbx hn0,hu];simp only;rw[Qbx ⟨hlt,hc.2⟩];rfl,by simp only[VR];exact⟨sl,j,h1,h2,rfl⟩,h⟩;rename_i s τ i' x' off;simp only[VR]at hx;obtain⟨sl,w,h1,h2,h3,h4,h5⟩:=hx
 cases hk:sl.k with
 |none=>
  rw[hk]at h5;simp only at h5;subst h5
  exact⟨_,.ref w.cells (off+m * P.cellsOf e),by unfold kzm;simp only;rw[Qbx hn0,hu];simp only;rw[Qbx ⟨hlt,hc.2⟩];rfl,by simp only[VR];exact⟨sl,w,h1,h2,h3,h4,by rw[hk]⟩,h⟩
 |some j=>
  rw[hk]at h5;obtain⟨ver,n,e1,rfl⟩:=h5;exact⟨_,.ap lv j ver i'.toNat (off+m * P.cellsOf e),by unfold kzm;simp only;rw[Qbx hn0,hu];simp only;rw[Qbx ⟨hlt,hc.2⟩];rfl,by simp only[VR];exact⟨sl,w,h1,h2,h3,h4,by rw[hk];exact⟨ver,n,e1,rfl⟩⟩,h⟩
 cases h;cases h
theorem zvx{R:Type}(hR:TRr D F ρ ts σ){t:Nat}{x i:TV D.T}{vx vi:V}{k:TV D.T->Option R}{r:R}(h:zts P D ts t x i k=some r)(hx:VR D ρ F.lv x vx)(hi:VR D ρ F.lv i vi) :
  ∃z v,kzm P σ.H t vx vi=some v∧VR D ρ F.lv z v∧k z=some r:=by
 unfold zts at h;split at h;rename_i ik n;simp only[VR]at hi;subst hi;split at h;rename_i e hu;split at h;rename_i he;split at h;rename_i τ xs fl;split at h;rename_i hz;obtain⟨y,hy,h⟩:=z0o h;simp only[VR]at hx;obtain⟨hx,_⟩:=hx
 cases hx with
 |nil=>obtain⟨_,h2⟩:=zfe hy;simp at h2
 |sl _ _ ws full hl hh=>
  obtain⟨h1,h2,w,h3,h4⟩:=yg7 hl hh hy;refine⟨_,.ref w.cells 0,?_,?_,h⟩;rw[zsm,Qbx h1,hu];simp only;rw[Qbx ⟨hz,he⟩,h3];rfl;simp only[VR];exact⟨_,rfl,VR.y8w hD h4⟩
 cases h;rename_i s;split at h;rename_i ty τ xs w ho;split at h;rename_i hz;obtain⟨y,hy,h⟩:=z0o h;simp only[VR]at hx;obtain⟨sl,h1,rfl,hleaf⟩:=hx;obtain⟨sl',k1,k2⟩:=hR.ob _ _ ho
 rw[h1]at k1;injection k1 with k1;subst k1
 simp only[OR]at k2;obtain⟨q1,q2,q3⟩:=k2;obtain⟨p1,p2,u,p3,p4⟩:=yg7 q1 q2 hy
 cases hk:sl.k with
 |none=>
  rw[hk]at q3
  rcases q3 with ⟨e1,e2⟩|⟨e1,e2⟩
  rw[e2]at p3;simp at p3;refine⟨_,.ref u.cells 0,?_,?_,h⟩;rw[e1.1,zsm,Qbx p1,hu];simp only;rw[Qbx ⟨hz,he⟩,p3];rfl
  simp only[VR];exact⟨sl,u,h1,p1,p3,p4,by rw[hk]⟩
 |some j=>
  rw[hk]at q3;obtain⟨ver,cp,e1,e2⟩:=q3;refine⟨_,.ap F.lv j ver n.toNat 0,?_,?_,h⟩;rw[e1];unfold kzm;simp only;rw[Qbx p1,hu];simp only[hR.get e2];rw[Qbx ⟨trivial,hz,he,by omega⟩];simp;simp only[VR];exact⟨sl,u,h1,p1,p3,p4,by rw[hk];exact⟨ver,_,e1,by simp⟩⟩
 cases h;rename_i ty q xs hh ho;split at h;rename_i hz;obtain⟨y,hy,h⟩:=z0o h;simp only[VR]at hx;obtain⟨sl,h1,rfl,hleaf⟩:=hx;obtain⟨sl',k1,k2⟩:=hR.ob _ _ ho
 rw[h1]at k1;injection k1 with k1;subst k1
 simp only[OR]at k2;obtain⟨q1,q3⟩:=k2;obtain⟨p1,p2⟩:=zfe hy;have hlt:n.toNat<sl.ws.length:=by rw[q1];exact(Qaa.1 p2).1
 cases hk:sl.k with
 |none=>
  rw[hk]at q3;obtain⟨e1,_⟩:=q3
  rw[e1]at p2;simp at p2
 |some j=>
  rw[hk]at q3;obtain⟨ver,cp,fps,e1,e2,_⟩:=q3;refine⟨_,.ap F.lv j ver n.toNat 0,?_,?_,h⟩;rw[e1];unfold kzm;simp only;rw[Qbx p1,hu];simp only[hR.get e2];rw[Qbx ⟨trivial,hz,he,by omega⟩];simp;simp only[VR];exact⟨sl,j,ver,_,h1,e1,p1,hlt,by simp⟩
 cases h;cases h;cases h;cases h;rename_i len e hu;split at h;obtain⟨_,hr,h⟩:=z0o h;unfold inR at hr;split at hr;rename_i hc;obtain⟨m,hm,rfl,h2⟩:=zsk hc.1 hc.2 h;exact zsr hu h2 hx;cases hr;split at h;exact zsr hu h hx;cases h;cases h;cases h
omit hD in
theorem yd1{t:DTy}:∀{cs:List (TV D.T)}{xs:List (t.S D.T)},y9h D t cs = .ok xs->xs.length=cs.length
 |[],xs,h=>by simp only[y9h]at h;injection h with h;subst h;rfl
 |c::cs,xs,h=>by
  simp only[y9h]at h;split at h;split at h
  rename_i ys hys;injection h with h;subst h;simp[yd1 hys]
  cases h;cases h;cases h;cases h
theorem ya6{R:Type}{t:Nat}{x i:TV D.T}{vx vi:V}{k:TV D.T->Option R}{r:R}(h:yh7 P D t x i k=some r)(hx:VR D ρ lv x vx)(hi:VR D ρ lv i vi) :
  ∃z v,zwf P t vx vi=some v∧VR D ρ lv z v∧k z=some r:=by
 unfold yh7 at h;split at h;rename_i ik n;simp only[VR]at hi;subst hi;split at h;rename_i s;simp only[VR]at hx;subst hx;split at h;rename_i hu;obtain⟨b,hb,h⟩:=z0o h;obtain⟨h1,h2⟩:=zfe hb;refine⟨_,.int .u8 b.toNat,?_,by simp only[VR],h⟩;unfold zwf;simp only;rw[Qbx h1,hu];simp only[h2];rfl;cases h;rename_i cs;simp only[VR]at hx;obtain⟨vs,rfl,hx⟩:=hx;split at h;rename_i len e hu;split at h;rename_i τ hτ;split at h
 rename_i hc;obtain⟨c1,c2,c3,c4⟩:=hc;split at h;split at h;rename_i xs hxs;obtain⟨y,hy,h⟩:=z0o h;obtain⟨k1,k2⟩:=zsz hD hxs hx;obtain⟨p1,p2,u,p3,p4⟩:=yg7 k1 k2 hy;have hlen:vs.length=len:=by rw[k1,yd1 hxs,c1]
 refine⟨_,u,?_,VR.leaf p4,h⟩;unfold zwf;simp only;rw[Qbx p1,hu];simp only;rw[Qbx ⟨by omega,c3⟩,c2,Nat.mul_one];unfold rd;rw[Option.any_eq_true]at c4;obtain⟨d,hd,hag⟩:=c4;rw[hd]
 cases d <;> first|exact p3|(simp[TypeDesc.isAgg]at hag)
 cases h;cases h;cases h;cases h;cases h;cases h;cases h
omit hD in
theorem yoh{d n:Nat}{o:Option (TV D.T)}{l:Int}{vo:Option V}(hd:d<=n)(h:yal D (d:Int) o=some l)(hv:∀x,o=some x->∃v,vo=some v∧VR D ρ lv x v)(hn:o=none->vo=none)(h0:0<=l)(hl:l<=n):bnd n d vo=some l.toNat:=by
 unfold yal at h;split at h;injection h with h;subst h;rw[hn rfl];simp[bnd];rename_i ik x;injection h with h;subst h;obtain⟨v,e1,e2⟩:=hv _ rfl;simp only[VR]at e2;subst e2;rw[e1];simp only[bnd];rw[Qbx ⟨h0,hl⟩];cases h
omit hD in
theorem yb7{R:Type}{t:Nat}{x:TV D.T}{lo hi:Option (TV D.T)}{vx:V}{vlo vhi:Option V}{k:TV D.T->Option R}{kf:Nat->Option R}{r:R}(h:yh1 P D t x lo hi k kf=some r)(hx:VR D ρ lv x vx)
  (hlo:∀y,lo=some y->∃v,vlo=some v∧VR D ρ lv y v) (hlo0:lo=none->vlo=none) (hhi:∀y,hi=some y->∃v,vhi=some v∧VR D ρ lv y v) (hhi0:hi=none->vhi=none) (H:Heap) :
  (∃z v,zdu P H t vx vlo vhi none=some v∧VR D ρ lv z v∧k z=some r)∨∃s,kf s=some r:=by
 unfold yh1 at h
 have bounds:∀{n:Nat}{l q:Int},yal D 0 lo=some l->yal D (n:Int) hi=some q->0<=l->l<=q->q<=n->zcx n vlo vhi none=some (l.toNat,q.toNat,none):=λ{n l q} hl hq h1 h2 h3=>by
  simp only[zcx];rw[yoh (Qbw n) hq hhi hhi0 (by omega) h3];simp only[Qbq];rw[yoh (d:=0) (n:=q.toNat) (Qbv _) hl hlo hlo0 h1 (by omega)];rfl
 split at h;rename_i s;simp only[VR]at hx;subst hx;split at h;rename_i hu;split at h;rename_i l q hl hq;obtain⟨y,hy,h⟩:=z0o h;obtain⟨h1,h2,h3,rfl,_⟩:=ydu hy;left;exact⟨_,.str ((s.take q.toNat).drop l.toNat),by simp only[zdu,hu,bounds hl hq h1 h2 h3,Qbr],by simp only[VR],h⟩;cases h;cases h
 ·rename_i τ xs fl;simp only[VR]at hx;obtain⟨hx,hf1,hf2⟩:=hx;split at h
  ·rename_i e hu;split at h
   ·rename_i hz;split at h
    ·rename_i l q hl hq;obtain⟨y,hy,h⟩:=z0o h;obtain⟨h1,h2,h3,rfl,_⟩:=ydu hy;left
     cases hx with
     |nil=>
      refine⟨_,.nils,?_,?_,h⟩;have hb:zcx 0 vlo vhi none=some (l.toNat,q.toNat,none):=bounds hl hq h1 h2 h3;simp only[zdu,hu];rw[Qbx hz.2,hb];rfl;simp only[VR];refine⟨by simp only[List.take_nil,List.drop_nil];exact .nil τ,λhfl =>?_,λhfl=>by simp⟩
      have:1<=fl:=by
       split at hfl;omega;omega
      obtain⟨ws,hw⟩:=hf1 this
      cases hw
     |sl _ _ ws full hlw hh=>
      refine⟨_,.sl (D.len τ) ((ws.take q.toNat).drop l.toNat) (full&&q.toNat==ws.length),?_,?_,h⟩
      rotate_left
      simp only[VR];refine⟨.sl τ _ ((ws.take q.toNat).drop l.toNat) (full&&q.toNat==ws.length) (by simp[hlw]) λj x w hx hw =>?_,λhfl =>?_,λhfl =>?_⟩;rw[Qbf,Qaw]at hx hw;split at hx;rw[Qbx ‹_›]at hw;exact hh _ _ _ hx hw;cases hx
      have hfl':hi=none∧1<=fl:=by
       split at hfl;exact⟨by first|assumption|rfl,by omega⟩;omega
      obtain⟨ws',hw'⟩:=hf1 hfl'.2;injection hw' with _ _ hw';subst hw'
      have hqn:q=xs.length:=by
       rw[hfl'.1]at hq;simp only[yal,Qbu]at hq;exact hq.symm
      refine⟨(ws.take q.toNat).drop l.toNat,?_⟩;have:(q.toNat==ws.length)=true:=by rw[hqn,hlw];simp
      rw[this];rfl
      exfalso
      split at hfl;omega;omega;have hb:zcx ws.length vlo vhi none=some (l.toNat,q.toNat,none):=by rw[hlw];exact bounds hl hq h1 h2 h3
      simp only[zdu,hu];rw[Qbx hz,hb];simp
    cases h
   cases h
  cases h
 exact .inr ⟨_,h⟩;cases h
omit hD in
theorem TRr.oev(hR:TRr D F ρ ts σ){o:Option Operand}{x:Option (TV D.T)}(h:oev D ts o=some x):(∀y,x=some y->∃v,o.map σ.ev=some v∧VR D ρ F.lv y v)∧(x=none->o.map σ.ev=none):=by
 cases o with
 |none=>simp only[Go.Ab.oev,Qbu]at h;subst h;exact⟨by simp,λ_=>rfl⟩
 |some o=>
  simp only[Go.Ab.oev,Qaf]at h;obtain⟨y,hy,rfl⟩:=h;exact⟨λz hz=>by injection hz with hz;subst hz;exact⟨_,rfl,hR.ev hy⟩,by simp⟩
omit hD in
theorem DR.flat{t:DTy}(ht:t.flat=true){x:t.S D.T}{v:V}(h:DR D t x v):v=D.el t x:=by
 cases h <;> first|rfl|cases ht
theorem y57{R:Type}(hR:TRr D F ρ ts σ){t:Nat}{x key:TV D.T}{vx vk:V}{ok:Bool}{k:TV D.T->Option R}{r:R}(h:y8g P D ts t x key ok k=some r)(hx:VR D ρ F.lv x vx)(hk:VR D ρ F.lv key vk) :
  ∃z v,znb P σ.H t vx vk ok=some v∧VR D ρ F.lv z v∧k z=some r:=by
 unfold y8g at h;split at h;rename_i kt e s hu;simp only[VR]at hk;subst hk;split at h;rename_i z hkt hz;obtain⟨vz,hz1,hz2⟩:=zgd (ρ:=ρ) (lv:=F.lv) hz;split at h;rename_i q;split at h;rename_i ty τ es ho;simp only[VR]at hx;obtain⟨sl,i,h1,h2,rfl⟩:=hx;obtain⟨sl',k1,k2⟩:=hR.ob _ _ ho
 rw[h1]at k1;injection k1 with k1;subst k1
 simp only[OR]at k2;obtain⟨i',ms,q1,q2,q4,q3⟩:=k2
 rw[h2]at q1;injection q1 with q1;subst q1
 split at h;rename_i z0 hz0;have h0:DR D τ z0 vz:=zf2 hD hz0 hz2;obtain⟨l1,l2⟩:=ygl (P:=P) (f:=λx:τ.S D.T×V=>x.2) (m:=ms) hu hkt hz1 (hR.get q3) s (z0,vz) rfl;have eg:z58 es s=(z58 ms s).map Prod.fst:=by rw[q2];exact ybq Prod.fst s ms
 have hv:VR D ρ F.lv (D.tv τ ((z58 es s).getD z0)) ((z58 ms s).getD (z0,vz)).2:=by
  rw[eg]
  cases hm:z58 ms s with
  |none=>exact VR.tv hD h0
  |some p=>
   obtain⟨q,a1,a2⟩:=ydy hm;subst a2;exact VR.tv hD (q4 q a1)
 have hs:(z58 es s).isSome=(z58 ms s).isSome:=by rw[eg];cases z58 ms s <;> rfl
 cases ok;exact⟨_,_,l1,hv,h⟩
 exact⟨_,_,l2,by
  simp only[VR,VRL]
  exact⟨_,rfl,_,_,rfl,hv,_,_,rfl,by rw[hs],rfl⟩,h⟩
 cases h;cases h;cases h;cases h;cases h
omit hD in
theorem DO.datE{L:List (Option zz4)}{t:DTy}{x:t.S D.T}{v:V}{c:List Nat}(h:DO D lv L .dat t x v c):DR D t x v:=by
 cases h with
 |dat h=>exact h
omit hD in
theorem zqp(q:Nat):∀(l:List DTy) (x:HL D.T l) (f j:Nat),(zsl D q l x f)[j]? = (HL.nth l x j).map λp=>match D.ow q (f+j)with|none=>D.leaf p.1 p.2|some _=>.any
 |[],_,_,j=>by simp[zsl,HL.nth]
 |t::l,x,f,0=>by simp only[zsl,HL.nth,Qcd,Qbr,Nat.add_zero];rfl
 |t::l,x,f,j+1=>by
  have:=zqp q l x.2 (f+1) j;simp only[zsl,HL.nth,List.getElem?_cons_succ,this];rw[show f+1+j=f+(j+1) by omega]
omit hD in
theorem ydb{ρ0 ρ':List Slot}{L:List (Option zz4)}{q n:Nat}{h:Option (Int×Nat×Nat)}{x:D.T q}{w:V}{c:List Nat}(hE:EO D ρ0 lv L q h n x w c):VRL D ρ' lv (zsl D q (D.fl q) (D.get q x) 0) w.cells:=by
 obtain⟨vs,cs,rfl,h2,h3,h4,h5⟩:=hE;refine .of ?_ λj y v hy hv =>?_
 show(zsl D q (D.fl q) (D.get q x) 0).length=vs.length;rw[h2];apply Nat.le_antisymm;apply Nat.le_of_not_lt;intro hlt;have:=zqp (D:=D) q (D.fl q) (D.get q x) 0 (D.fl q).length;rw[Qab hlt]at this
 cases hn:HL.nth (D.fl q) (D.get q x) (D.fl q).length with
 |none=>rw[hn]at this;cases this
 |some p=>have:=(HL.zay _ _ _ _ hn).1;omega
 apply Nat.le_of_not_lt;intro hlt;obtain⟨p,hp,_⟩:=HL.zgi (D.fl q) (D.get q x) _ hlt;have:=zqp (D:=D) q (D.fl q) (D.get q x) 0 (zsl D q (D.fl q) (D.get q x) 0).length;rw[hp,Qcf (Qbw _)]at this;cases this;rw[zqp,Qaf]at hy;obtain⟨p,hp,rfl⟩:=hy;replace hv:vs[j]? = some v:=hv;have hj:=(HL.zay _ _ _ _ hp).1;rw[Nat.zero_add]
 cases how:D.ow q j with
 |some ty=>simp only[VR]
 |none=>
  have:=h5 j p v _ hp hv (Qab (show j<cs.length by omega));rw[how]at this;split at this;have:=this.2.1;cases this;exact VR.leaf this.datE
omit hD in
theorem zbd{R:Type}(hR:TRr D F ρ ts σ){ρ':List Slot}{t s off:Nat}{i:Int}{set:Option (Nat×TV D.T)}{k:TV D.T->Option R}{r:R}{va:V}(hset:∀f v sl w u,set=some (f,v)->ρ[s]? = some sl->sl.ws[i.toNat]? = some w->w.cells[f]? = some u->VR D ρ' F.lv v u)
  (h:zp5 P D ts t s i off set k=some r) (ha:VR D ρ F.lv (.dp s i off) va):∃x v,z7g P σ.H t va=some v∧VR D ρ' F.lv x v∧k x=some r:=by
 unfold zp5 at h;split at h;rename_i ty q xs hh ho;obtain⟨y,hy,h⟩:=z0o h;split at h;rename_i x hx;simp only[VR]at ha;obtain⟨sl,j,ver,m,a1,a2,a3,a4,rfl⟩:=ha;obtain⟨sl',b1,b2⟩:=hR.ob s _ ho
 rw[a1]at b1;injection b1 with b1;subst b1
 simp only[OR]at b2;obtain⟨c1,c2⟩:=b2;obtain⟨p1,p2⟩:=zfe hy
 cases hk:sl.k with
 |none=>rw[hk]at c2;rw[c2.1]at p2;simp at p2
 |some j'=>
  rw[hk]at c2;obtain⟨ver',cp,fps,d1,d2,d3,d4,d5,d6,d7⟩:=c2
  rw[a2]at d1;injection d1 with _ e1 e2 _ e3 _
  subst e1;subst e2;subst e3;have hw:sl.ws[i.toNat]? = some (sl.ws[i.toNat]'a4):=Qab a4;have hE:=d6 i.toNat y _ _ p2 hw (Qab (show i.toNat<fps.length by omega));have hm:=ydb (ρ':=ρ') hE
  have hs:VRL D ρ' F.lv (setO (zsl D q (D.fl q) (D.get q y) 0) set) (sl.ws[i.toNat]'a4).cells:=by
   cases set with
   |none=>exact hm
   |some p=>
    obtain⟨f,v⟩:=p;refine .of (by simp[setO,hm.length]) λn c u hc hu =>?_
    simp only[setO]at hc;rw[Qbi]at hc;split at hc;rename_i e;subst e;split at hc;injection hc with hc;subst hc;exact hset _ _ sl _ u rfl a1 hw hu;cases hc;exact hm.zte hc hu
  obtain⟨v,v1,v2⟩:=zbn hs hx;refine⟨x,v,?_,v2,h⟩;simp only[y38,zse,hR.get d2,if_true,hw,Qbr,Qbq];exact v1
 cases h;cases h
omit hD in
theorem yb3{R:Type}(hR:TRr D F ρ ts σ){t s off:Nat}{i:Int}{k:TV D.T->Option R}{r:R}{va:V}
  (h:yfu P D ts t s i off k=some r) (ha:VR D ρ F.lv (.dp s i off) va):∃x v,z7g P σ.H t va=some v∧VR D ρ F.lv x v∧k x=some r:=by
 unfold yfu at h;split at h;rename_i ty q xs p ho;obtain⟨n,f',c⟩:=p;split at h;rename_i hff;have hff:f'=off:=Qaj hff;subst hff;obtain⟨_,hs,h⟩:=z0o h
 have hni:n=i:=by
  unfold zgw at hs;split at hs;rename_i e;exact e;cases hs
 subst hni;refine zbd hR (ρ':=ρ) (λf2 v sl w u' e hsl hw hu =>?_) h ha;injection e with e;injection e with e4 e5;subst e4;subst e5;obtain⟨sl',b1,b2⟩:=hR.ob s _ ho
 rw[hsl]at b1;injection b1 with b1;subst b1
 simp only[OR]at b2;obtain⟨c1,c2⟩:=b2
 cases hk:sl.k with
 |none=>rw[hk]at c2;cases c2.2.2.2
 |some j'=>
  rw[hk]at c2;obtain⟨ver',cp',fps,d1,d2,d3,d4,d5,d6,d7⟩:=c2;have hlt:=(d7 _ _ _ rfl).2;obtain⟨vs,cs,g1,g2,g3,g4,g5⟩:=d6 n.toNat _ w _ (Qab hlt) hw (Qab (show n.toNat<fps.length by omega));subst g1;replace hu:vs[f']? = some u':=hu;have hfl:=(Qaa.1 hu).1;obtain⟨p,hp,_⟩:=HL.zgi (D.fl q) (D.get q xs[n.toNat]) f' (by omega)
  have:=g5 f' p u' _ hp hu (Qab (show f'<cs.length by omega));rw[show z0g (some (n,f',c)) n.toNat f'=some c by simp[z0g]]at this;obtain⟨_,_,a3,sl2,a4,a5⟩:=this;simp only[VR];exact⟨sl2,a4,a5,a3⟩
 exact zbd hR (ρ':=ρ) (λf v _ _ _ e=>by cases e) h ha;exact zbd hR (ρ':=ρ) (λf v _ _ _ e=>by cases e) h ha
theorem y21{R:Type}(hR:TRr D F ρ ts σ){op:Op}{k:TV D.T->Option R}{kf:Nat->Option R}{r:R}(h:tP P D ts op k kf=some r) :
  (∃x v,pv P σ.H σ.ev op=some v∧VR D ρ F.lv x v∧k x=some r)∨∃s,kf s=some r:=by
 unfold tP at h;split at h;rename_i c a b;split at h;rename_i t x y hc hx hy;have h1:=hR.ev hc;simp only[VR]at h1;left;rw[y0v]at h;split at h;rename_i ht;exact⟨x,_,by simp only[pv,h1];rw[Qbx ht],hR.ev hx,h⟩;rename_i ht;exact⟨y,_,by simp only[pv,h1];rw[Qby ht],hR.ev hy,h⟩;cases h;split at h;rename_i hx hy;left;obtain⟨z,v,h1,h2,h3⟩:=yge h (hR.ev hx) (hR.ev hy);exact⟨z,v,h1,h2,h3⟩;cases h;split at h;rename_i hx hy
 left;obtain⟨z,v,h1,h2,h3⟩:=zvx hD hR h (hR.ev hx) (hR.ev hy);exact⟨z,v,h1,h2,h3⟩;cases h;split at h;rename_i hx hy;left;obtain⟨z,v,h1,h2,h3⟩:=ya6 hD h (hR.ev hx) (hR.ev hy);exact⟨z,v,h1,h2,h3⟩;cases h;split at h;rename_i hx hy;left;obtain⟨z,v,h1,h2,h3⟩:=y57 hD hR h (hR.ev hx) (hR.ev hy);exact⟨z,v,h1,h2,h3⟩;cases h;split at h;rename_i hx hlo hhi;obtain⟨a1,a2⟩:=hR.oev hlo;obtain⟨b1,b2⟩:=hR.oev hhi
 exact yb7 h (hR.ev hx) a1 a2 b1 b2 σ.H;cases h;split at h;rename_i hx;left;exact yb3 hR h (hR.ev hx);split at h;rename_i v hv;obtain⟨u,h1,h2⟩:=y7w hD hR hv;exact .inl ⟨v,u,h1,h2,h⟩;exact .inr ⟨_,h⟩;cases h;split at h;rename_i v hv;obtain⟨u,h1,h2⟩:=y7w hD hR hv;exact .inl ⟨v,u,h1,h2,h⟩;exact .inr ⟨_,h⟩;cases h
end
end Go.Ab
namespace Go.Ab
open Go
set_option linter.unusedVariables false
set_option linter.unusedSimpArgs false
set_option linter.unusedSectionVars false
section
variable {P : Program} {D : Dat} {F : Fr} {ρ : List Slot} {ts : TS D.T} {σ : St} {lv : Nat}
theorem DO.mono{L L':List (Option zz4)}{m:OM}{t:DTy}{x:t.S D.T}{v:V}{fp:List Nat}(h:DO D lv L m t x v fp)(hL:∀i∈fp,L'[i]? = L[i]?):DO D lv L' m t x v fp:=by
 induction h with
 |dat h=>exact .dat h
 |nil h hv=>exact .nil h hv
 |own hj hl hf he ih=>
  exact .own (by rw[hL _ Qak];exact hj) hl hf λn x w c h1 h2 h3=>ih n x w c h1 h2 h3 λi hi=>hL i (Qai _ (List.mem_flatten.2 ⟨c,Qax h3,hi⟩))
 |el hl hc h ih=>exact .el hl hc λf p u b h1 h2 h3=>ih f p u b h1 h2 h3 λi hi=>hL i (List.mem_flatten.2 ⟨b,Qax h3,hi⟩)
 |elf ht h=>exact .elf ht h
theorem EO.mono{L L':List (Option zz4)}{q:Nat}{h:Option (Int×Nat×Nat)}{n:Nat}{x:D.T q}{w:V}{c:List Nat}(e:List Slot)(hE:EO D ρ lv L q h n x w c)(hL:∀i∈c,L'[i]? = L[i]?):EO D (ρ++e) lv L' q h n x w c:=by
 obtain⟨vs,cs,h1,h2,h3,rfl,h4⟩:=hE;refine⟨vs,cs,h1,h2,h3,rfl,λf p u b k1 k2 k3 =>?_⟩;have:=h4 f p u b k1 k2 k3;split at this;rename_i s hs;obtain⟨a1,a2,a0,sl',a3,a4⟩:=this;exact⟨a1,a2,a0,sl',lookup_append a3,a4⟩;exact this.mono λi hi=>hL i (List.mem_flatten.2 ⟨b,Qax k3,hi⟩)
theorem OR.mono{L L':List (Option zz4)}{sl:Slot}{o:TO D.T}(h:OR D ρ lv L sl o)(e:List Slot)(hL:∀i,sl.has i->o.live->L'[i]? = L[i]?):OR D (ρ++e) lv L' sl o:=by
 cases o with
 |cells cs=>
  simp only[OR]at h ⊢;obtain⟨i,vs,h1,h2,h3⟩:=h
  exact⟨i,vs,h1,by rw[hL i (.inl h1) trivial];exact h2,h3.more e⟩
 |acc ty t xs w=>
  simp only[OR]at h ⊢;obtain⟨h1,h2,h3⟩:=h;refine⟨h1,h2,?_⟩
  cases hk:sl.k with
  |none=>rw[hk]at h3;exact h3
  |some i=>
   rw[hk]at h3;obtain⟨ver,cp,k1,k2⟩:=h3
   exact⟨ver,cp,k1,by rw[hL i (.inl hk) trivial];exact k2⟩
 |siter s pos=>
  simp only[OR]at h ⊢;obtain⟨i,h1,h2⟩:=h
  exact⟨i,h1,by rw[hL i (.inl h1) trivial];exact h2⟩
 |mp ty t es=>
  simp only[OR]at h ⊢;obtain⟨i,ms,h1,h2,h4,h3⟩:=h
  exact⟨i,ms,h1,h2,h4,by rw[hL i (.inl h1) trivial];exact h3⟩
 |mit t last es=>
  simp only[OR]at h ⊢;obtain⟨i,fs,vis,h1,h2,h3,h4⟩:=h
  exact⟨i,fs,vis,h1,h2,by rw[hL i (.inl h1) trivial];exact h3,h4⟩
 |bld ty b=>
  simp only[OR]at h ⊢;obtain⟨i,a,c,h1,h2,h3,h4⟩:=h
  exact⟨i,a,c,h1,by rw[hL i (.inl h1) trivial];exact h2,h3,VR.more e h4⟩
 |gone=>simp only[OR]
 |rig=>exact h
 |deep ty q xs hh=>
  simp only[OR]at h ⊢;obtain⟨h1,h3⟩:=h;refine⟨h1,?_⟩
  cases hk:sl.k with
  |none=>rw[hk]at h3;exact h3
  |some i=>
   rw[hk]at h3;obtain⟨ver,cp,fps,k1,k2,k3,k4,k5,k6,k7⟩:=h3;refine⟨ver,cp,fps,k1,by rw[hL i (.inl hk) trivial];exact k2,k3,k4,k5,λn x w c a1 a2 a3=>(k6 n x w c a1 a2 a3).mono e λj hj=>hL j (.inr ?_) trivial,k7⟩;rw[k4];exact List.mem_flatten.2 ⟨c,Qax a3,hj⟩
theorem OR.at{L:List (Option zz4)}{sl:Slot}{o:TO D.T}{i:Nat}(h:OR D ρ lv L sl o)(hl:o.live)(hk:sl.k=some i):∃a,L[i]? = some (some a):=by
 cases o with
 |cells cs=>
  simp only[OR]at h;obtain⟨i',vs,h1,h2,h3⟩:=h
  rw[hk]at h1;injection h1 with h1;subst h1
  exact⟨_,h2⟩
 |acc ty t xs w=>
  simp only[OR]at h;obtain⟨h1,h2,h3⟩:=h;rw[hk]at h3;obtain⟨ver,cp,k1,k2⟩:=h3
  exact⟨_,k2⟩
 |siter s pos=>
  simp only[OR]at h;obtain⟨i',h1,h2⟩:=h
  rw[hk]at h1;injection h1 with h1;subst h1
  exact⟨_,h2⟩
 |mp ty t es=>
  simp only[OR]at h;obtain⟨i',ms,h1,_,_,h2⟩:=h
  rw[hk]at h1;injection h1 with h1;subst h1
  exact⟨_,h2⟩
 |mit t last es=>
  simp only[OR]at h;obtain⟨i',fs,vis,h1,_,h2,_⟩:=h
  rw[hk]at h1;injection h1 with h1;subst h1
  exact⟨_,h2⟩
 |bld ty b=>
  simp only[OR]at h;obtain⟨i',a,c,h1,h2,h3⟩:=h
  rw[hk]at h1;injection h1 with h1;subst h1
  exact⟨_,h2⟩
 |gone=>exact hl.elim
 |rig=>simp only[OR]at h;rw[h.1]at hk;cases hk
 |deep ty q xs hh=>
  simp only[OR]at h;obtain⟨h1,h3⟩:=h;rw[hk]at h3;obtain⟨ver,cp,fps,k1,k2,k3⟩:=h3;exact⟨_,k2⟩
theorem OR.lt{L:List (Option zz4)}{sl:Slot}{o:TO D.T}{i:Nat}(h:OR D ρ lv L sl o)(hl:o.live)(hk:sl.k=some i):i<L.length:=by
 obtain⟨a,ha⟩:=h.at hl hk;exact(Qaa.1 ha).1
theorem TRr.at(hR:TRr D F ρ ts σ){s i:Nat}{o:TO D.T}{sl:Slot}(ho:fnd ts.o s=some o)(hl:o.live)(hs:ρ[s]? = some sl)(hk:sl.has i):∃a,σ.H.L[i]? = some (some a):=by
 rcases hk with hk|hk
 obtain⟨q,h1,h2⟩:=hR.ob s o ho
 rw[hs]at h1;injection h1 with h1;subst h1
 exact h2.at hl hk;exact(hR.fpl s o sl i ho hl hs hk).2
theorem TRr.lt(hR:TRr D F ρ ts σ){s i:Nat}{o:TO D.T}{sl:Slot}(ho:fnd ts.o s=some o)(hl:o.live)(hs:ρ[s]? = some sl)(hk:sl.has i):i<σ.H.L.length:=by
 obtain⟨a,ha⟩:=hR.at ho hl hs hk;exact(Qaa.1 ha).1
theorem Slot.zva{sl:Slot}(h:sl.fp=[]){i:Nat}(hk:sl.has i):sl.k=some i:=by
 rcases hk with hk|hk
 exact hk;rw[h]at hk;cases hk
theorem TRr.new(hR:TRr D F ρ ts σ)(to:TO D.T)(sl:Slot)(H':Heap)(hlv:H'.lv=F.lv)(hE:H'.E=F.E)(hlen:σ.H.L.length<=H'.L.length)(hL:∀i,i<σ.H.L.length->H'.L[i]? = σ.H.L[i]?)
  (hk:∀i,sl.k=some i->σ.H.L.length<=i) (hor:OR D (ρ++[sl]) F.lv H'.L sl to) (hfp:sl.fp=[]:=by rfl):TRr D F (ρ++[sl]) (ts.new D to) {σ with H:=H'}:=by
 have hget:(ρ++[sl])[ts.nx]? = some sl:=by rw[<-hR.nx];simp
 have old:∀s o sl',fnd ts.o s=some o->ρ[s]? = some sl'->∀i,sl'.has i->o.live->i<σ.H.L.length:=λs o sl' ho hs i hi hl=>hR.lt ho hl hs hi
 have hlk:∀s o,ts.nx≠s->fnd (ts.new D to).o s=some o->fnd ts.o s=some o:=λs o hne h=>by
  simp only[TS.new,yz8,Qby hne]at h;exact h
 have hslot:∀s o sl',fnd ts.o s=some o->(ρ++[sl])[s]? = some sl'->ρ[s]? = some sl':=λs o sl' ho h=>by
  obtain⟨q,h1,h2⟩:=hR.ob s o ho;rw[lookup_append h1]at h;rw[h1,h]
 refine⟨by simp[TS.new,hR.nx],hR.nt,λj x hj =>?_,λs o ho =>?_,λs s' o o' sl1 sl2 i h1 h2 l1 l2 r1 r2 k1 k2 =>?_,λs o sl1 i h1 l1 r1 k1 =>?_,hlv,hE,hR.e0,hR.d.more _,λi hi =>?_,λj sl hj=>lookup_append (hR.pin j sl hj),λs o sl1 i h1 l1 r1 k1 =>?_,λi s v h1 h2=>(hR.g i s v h1 h2).more _⟩;obtain⟨v,h1,h2⟩:=hR.tm j x hj;exact⟨v,h1,h2.more _⟩;by_cases hs:ts.nx=s;subst hs
 simp only[TS.new,yz8,if_true,Qbu]at ho;subst ho;exact⟨sl,hget,hor⟩;obtain⟨q,h1,h2⟩:=hR.ob s o (hlk s o hs ho);exact⟨q,lookup_append h1,h2.mono _ λi hi hl=>hL i (hR.lt (hlk s o hs ho) hl h1 hi)⟩;by_cases hs:ts.nx=s <;> by_cases hs':ts.nx=s'
 rw[<-hs,<-hs'];subst hs
 rw[hget]at r1;injection r1 with r1;subst r1
 have hq:=hlk s' o' hs' h2;have:=old s' o' sl2 hq (hslot s' o' sl2 hq r2) i k2 l2;have:=hk i (Slot.zva hfp k1);omega;subst hs'
 rw[hget]at r2;injection r2 with r2;subst r2
 have hq:=hlk s o hs h1;have:=old s o sl1 hq (hslot s o sl1 hq r1) i k1 l1;have:=hk i (Slot.zva hfp k2);omega;have q1:=hlk s o hs h1;have q2:=hlk s' o' hs' h2;exact hR.inj s s' o o' sl1 sl2 i q1 q2 l1 l2 (hslot s o sl1 q1 r1) (hslot s' o' sl2 q2 r2) k1 k2;by_cases hs:ts.nx=s;subst hs
 rw[hget]at r1;injection r1 with r1;subst r1
 intro ho;have:=(hR.out i ho).1;have:=hk i (Slot.zva hfp k1);omega;have q1:=hlk s o hs h1;exact hR.mine s o sl1 i q1 l1 (hslot s o sl1 q1 r1) k1;obtain⟨h1,h2⟩:=hR.out i hi;exact⟨Qbj h1 hlen,(hL i h1).trans h2⟩;by_cases hs:ts.nx=s;subst hs
 rw[hget]at r1;injection r1 with r1;subst r1
 rw[hfp]at k1;cases k1;have q1:=hlk s o hs h1;have r:=hslot s o sl1 q1 r1;obtain⟨hne,a,ha⟩:=hR.fpl s o sl1 i q1 l1 r k1;exact⟨hne,a,by rw[hL i (Qaa.1 ha).1];exact ha⟩
theorem yhf{L:List (Option zz4)}{i j:Nat}(h:∃a,L[j]? = some (some a))(ao:zz4):∃a,(L.set i (some ao))[j]? = some (some a):=by
 obtain⟨a,ha⟩:=h;by_cases e:i=j;subst e;exact⟨ao,Qaq (Qaa.1 ha).1⟩;exact⟨a,by rw[Qam e];exact ha⟩
theorem TRr.upd(hR:TRr D F ρ ts σ){s i:Nat}{o0:TO D.T}{sl:Slot}(hs:fnd ts.o s=some o0)(hl:o0.live)(hr:ρ[s]? = some sl)(hk:sl.k=some i)(to:TO D.T)(ao:zz4)
  (hor:OR D ρ F.lv (σ.H.L.set i (some ao)) sl to):TRr D F ρ (ts.set D s to) {σ with H:={σ.H with L:=σ.H.L.set i (some ao)}}:=by
 have hlk:∀s' o,s≠s'->fnd (ts.set D s to).o s'=some o->fnd ts.o s'=some o:=λs' o hne h=>by
  simp only[TS.set,yz8,Qby hne]at h;exact h
 have live':∀s' o,fnd (ts.set D s to).o s'=some o->o.live->∃o',fnd ts.o s'=some o'∧o'.live:=λs' o h l=>by
  by_cases he:s=s';subst he;exact⟨o0,hs,hl⟩;exact⟨o,hlk s' o he h,l⟩
 refine⟨hR.nx,hR.nt,hR.tm,λs' o ho =>?_,λs1 s2 o1 o2 sl1 sl2 i' h1 h2 l1 l2 r1 r2 k1 k2 =>?_,λs1 o1 sl1 i1 h1 l1 r1 k1 =>?_,hR.lv,hR.E,hR.e0,hR.d,λj hj =>?_,hR.pin,λs1 o1 sl1 i1 h1 l1 r1 k1 =>?_,hR.g⟩;by_cases he:s=s';subst he;simp only[TS.set,yz8,if_true,Qbu]at ho;subst ho;exact⟨sl,hr,hor⟩;have hq:=hlk s' o he ho;obtain⟨q,h1,h2⟩:=hR.ob s' o hq;refine⟨q,h1,?_⟩
 have:=h2.mono (L':=σ.H.L.set i (some ao)) [] λj hj hl' =>?_
 simpa using this
 have hne:i≠j:=λe=>by
  subst e;exact he (hR.inj s s' o0 o sl q i hs hq hl hl' hr h1 (.inl hk) hj)
 rw[Qam hne];obtain⟨o1',q1,l1'⟩:=live' s1 o1 h1 l1;obtain⟨o2',q2,l2'⟩:=live' s2 o2 h2 l2;exact hR.inj s1 s2 o1' o2' sl1 sl2 i' q1 q2 l1' l2' r1 r2 k1 k2;obtain⟨o1',q1,l1'⟩:=live' s1 o1 h1 l1;exact hR.mine s1 o1' sl1 i1 q1 l1' r1 k1;obtain⟨h1,h2⟩:=hR.out j hj;refine⟨by simpa using h1,?_⟩;have hne:i≠j:=λe=>by subst e;exact hR.mine s o0 sl i hs hl hr (.inl hk) hj
 show(σ.H.L.set i (some ao))[j]? = _;rw[Qam hne];exact h2;obtain⟨o1',q1,l1'⟩:=live' s1 o1 h1 l1;have hq:=hR.fpl s1 o1' sl1 i1 q1 l1' r1 k1;exact⟨hq.1,yhf hq.2 ao⟩
theorem TRr.move(hR:TRr D F ρ ts σ){s i:Nat}{o0:TO D.T}{sl:Slot}(hs:fnd ts.o s=some o0)(hl:o0.live)(hr:ρ[s]? = some sl)(hk:sl.k=some i)(to:TO D.T)(ao:zz4)(sl':Slot)(hk':sl'.k=some i)
  (hor:OR D (ρ++[sl']) F.lv (σ.H.L.set i (some ao)) sl' to) (hfp:∀x,x∈sl'.fp->x∈sl.fp:=by exact λ_ h=>by cases h):TRr D F (ρ++[sl']) ((ts.new D to).set D s .gone) {σ with H:={σ.H with L:=σ.H.L.set i (some ao)}}:=by
 have hsub:∀x,sl'.has x->sl.has x:=λx h=>h.elim (λh=>.inl (by rw[<-h,hk',hk])) λh=>.inr (hfp x h)
 have hget:(ρ++[sl'])[ts.nx]? = some sl':=by rw[<-hR.nx];simp
 have hsn:s≠ts.nx:=λe=>by
  have:=(Qaa.1 hr).1;rw[hR.nx,e]at this;omega
 have hlk:∀s' o,o.live->fnd ((ts.new D to).set D s .gone).o s'=some o->s≠s'∧((ts.nx=s'∧o=to)∨(ts.nx≠s'∧fnd ts.o s'=some o)):=λs' o hlo h=>by
  by_cases he:s=s';subst he;simp only[TS.set,yz8,if_true,Qbu]at h;subst h;exact hlo.elim;simp only[TS.set,TS.new,yz8,Qby he]at h;by_cases hn:ts.nx=s'
  rw[Qbx hn]at h;injection h with h;exact⟨he,.inl ⟨hn,h.symm⟩⟩
  rw[Qby hn]at h;exact⟨he,.inr ⟨hn,h⟩⟩
 have hslot:∀s o sl1,fnd ts.o s=some o->(ρ++[sl'])[s]? = some sl1->ρ[s]? = some sl1:=λs o sl1 ho h=>by
  obtain⟨q,h1,h2⟩:=hR.ob s o ho;rw[lookup_append h1]at h;rw[h1,h]
 refine⟨by simp[TS.new,TS.set,hR.nx],hR.nt,λj x hj =>?_,λs' o ho =>?_,λs1 s2 o1 o2 sl1 sl2 i' h1 h2 l1 l2 r1 r2 k1 k2 =>?_,λs1 o1 sl1 i1 h1 l1 r1 k1 =>?_,hR.lv,hR.E,hR.e0,hR.d.more _,λj hj =>?_,λj sl hj=>lookup_append (hR.pin j sl hj),λs1 o1 sl1 i1 h1 l1 r1 k1 =>?_,λi s v h1 h2=>(hR.g i s v h1 h2).more _⟩;obtain⟨v,h1,h2⟩:=hR.tm j x hj;exact⟨v,h1,h2.more _⟩;by_cases hlo:o.live
 rcases(hlk s' o hlo ho).2 with ⟨hn,rfl⟩|⟨hn,hq⟩
 subst hn;exact⟨sl',hget,hor⟩;obtain⟨q,h1,h2⟩:=hR.ob s' o hq;refine⟨q,lookup_append h1,h2.mono [sl'] λj hj hl' =>?_⟩
 have hne:i≠j:=λe=>by
  subst e;exact(hlk s' o hlo ho).1 (hR.inj s s' o0 o sl q i hs hq hl hl' hr h1 (.inl hk) hj)
 rw[Qam hne];have hg:o = .gone:=by cases o <;> first|rfl|exact(hlo trivial).elim
 subst hg;by_cases he:s=s';subst he;exact⟨sl,lookup_append hr,by simp only[OR]⟩;simp only[TS.set,TS.new,yz8,Qby he]at ho;by_cases hn:ts.nx=s';subst hn;exact⟨sl',hget,by simp only[OR]⟩;rw[Qby hn]at ho;obtain⟨q,h1,h2⟩:=hR.ob s' _ ho;exact⟨q,lookup_append h1,by simp only[OR]⟩;obtain⟨n1,c1⟩:=hlk s1 o1 l1 h1;obtain⟨n2,c2⟩:=hlk s2 o2 l2 h2
 rcases c1 with ⟨e1,rfl⟩|⟨e1,q1⟩ <;> rcases c2 with ⟨e2,rfl⟩|⟨e2,q2⟩
 rw[<-e1,<-e2];subst e1
 rw[hget]at r1;injection r1 with r1;subst r1
 exact(n2 (hR.inj s s2 o0 o2 sl sl2 i' hs q2 hl l2 hr (hslot _ _ _ q2 r2) (hsub _ k1) k2)).elim;subst e2
 rw[hget]at r2;injection r2 with r2;subst r2
 exact(n1 (hR.inj s s1 o0 o1 sl sl1 i' hs q1 hl l1 hr (hslot _ _ _ q1 r1) (hsub _ k2) k1)).elim;exact hR.inj s1 s2 o1 o2 sl1 sl2 i' q1 q2 l1 l2 (hslot _ _ _ q1 r1) (hslot _ _ _ q2 r2) k1 k2;obtain⟨n1,c1⟩:=hlk s1 o1 l1 h1
 rcases c1 with ⟨e1,rfl⟩|⟨e1,q1⟩
 subst e1
 rw[hget]at r1;injection r1 with r1;subst r1
 exact hR.mine s o0 sl i1 hs hl hr (hsub _ k1);exact hR.mine s1 o1 sl1 i1 q1 l1 (hslot _ _ _ q1 r1) k1;obtain⟨h1,h2⟩:=hR.out j hj;refine⟨by simpa using h1,?_⟩;have hne:i≠j:=λe=>by subst e;exact hR.mine s o0 sl i hs hl hr (.inl hk) hj
 show(σ.H.L.set i (some ao))[j]? = _;rw[Qam hne];exact h2;obtain⟨n1,c1⟩:=hlk s1 o1 l1 h1
 rcases c1 with ⟨e1,rfl⟩|⟨e1,q1⟩
 subst e1
 rw[hget]at r1;injection r1 with r1;subst r1
 have hq:=hR.fpl s o0 sl i1 hs hl hr (hfp _ k1);exact⟨by rw[hk',<-hk];exact hq.1,yhf hq.2 ao⟩;have hq:=hR.fpl s1 o1 sl1 i1 q1 l1 (hslot _ _ _ q1 r1) k1;exact⟨hq.1,yhf hq.2 ao⟩
theorem TRr.drop(hR:TRr D F ρ ts σ)(s:Nat)(hs:s<ts.nx):TRr D F ρ (ts.set D s .gone) σ:=by
 have hlk:∀s' o,o.live->fnd (ts.set D s .gone).o s'=some o->fnd ts.o s'=some o:=λs' o hl h=>by
  simp only[TS.set,yz8]at h;split at h;injection h with h;subst h;exact hl.elim;exact h
 refine⟨hR.nx,hR.nt,hR.tm,λs' o ho =>?_,λs1 s2 o1 o2 sl1 sl2 i' h1 h2 l1 l2=>hR.inj s1 s2 o1 o2 sl1 sl2 i' (hlk _ _ l1 h1) (hlk _ _ l2 h2) l1 l2,λs1 o1 sl1 i1 h1 l1=>hR.mine s1 o1 sl1 i1 (hlk _ _ l1 h1) l1,hR.lv,hR.E,hR.e0,hR.d,hR.out,hR.pin,λs1 o1 sl1 i1 h1 l1=>hR.fpl s1 o1 sl1 i1 (hlk _ _ l1 h1) l1,hR.g⟩;simp only[TS.set,yz8]at ho;split at ho;rename_i he;injection ho with ho;subst ho;subst he
 have:s<ρ.length:=by rw[hR.nx];exact hs
 exact⟨ρ[s],Qab this,by simp only[OR]⟩;exact hR.ob s' o ho
mutual
theorem VR.ren{s s':Nat}{sl sl':Slot}(h1:ρ[s]? = some sl)(h2:ρ[s']? = some sl')(he:sl'.v=sl.v):∀{x:TV D.T}{v:V},VR D ρ lv x v->VR D ρ lv (TV.ren D s s' x) v
 |.own j,v,h=>by
  simp only[TV.ren];split;rename_i hj;subst hj;simp only[VR]at h ⊢;obtain⟨q,k1,k2,k3⟩:=h
  rw[h1]at k1;injection k1 with k1;subst k1
  exact⟨sl',h2,by rw[he];exact k2,k3⟩
  exact h
 |.dp j i off,v,h=>by
  simp only[TV.ren];split;rename_i hj;subst hj;simp only[VR]at h ⊢;obtain⟨q,j',ver,m,k1,k2⟩:=h
  rw[h1]at k1;injection k1 with k1;subst k1
  exact⟨sl',j',ver,m,h2,by rw[he];exact k2⟩
  exact h
 |.bsl q cs,v,h=>by simp only[TV.ren,VR]at h ⊢;obtain⟨vs,k1,k2⟩:=h;exact⟨vs,k1,VRL.ren h1 h2 he k2⟩
 |.agg cs,v,h=>by simp only[TV.ren,VR]at h ⊢;obtain⟨vs,k1,k2⟩:=h;exact⟨vs,k1,VRL.ren h1 h2 he k2⟩
 |.tup cs,v,h=>by simp only[TV.ren,VR]at h ⊢;obtain⟨vs,k1,k2⟩:=h;exact⟨vs,k1,VRL.ren h1 h2 he k2⟩
 |.any,v,h=>by simpa only[TV.ren]using h
 |.bool b,v,h=>by simpa only[TV.ren]using h
 |.int k n,v,h=>by simpa only[TV.ren]using h
 |.str b,v,h=>by simpa only[TV.ren]using h
 |.nilp,v,h=>by simpa only[TV.ren]using h
 |.nils,v,h=>by simpa only[TV.ren]using h
 |.mapn,v,h=>by simpa only[TV.ren]using h
 |.nilf,v,h=>by simpa only[TV.ren]using h
 |.nili,v,h=>by simpa only[TV.ren]using h
 |.sl t xs fl,v,h=>by simpa only[TV.ren]using h
 |.ptr j off,v,h=>by simpa only[TV.ren]using h
 |.bp j off,v,h=>by simpa only[TV.ren]using h
 |.osl j lo,v,h=>by simpa only[TV.ren]using h
 |.map j,v,h=>by simpa only[TV.ren]using h
 |.mc t es,v,h=>by simpa only[TV.ren]using h
 |.ref cs off,v,h=>by simpa only[TV.ren]using h
 |.ap j t i x off,v,h=>by simpa only[TV.ren]using h
 |.fn f a b,v,h=>by simpa only[TV.ren]using h
 |.iface t x,v,h=>by simpa only[TV.ren]using h
theorem VRL.ren{s s':Nat}{sl sl':Slot}(h1:ρ[s]? = some sl)(h2:ρ[s']? = some sl')(he:sl'.v=sl.v):∀{cs:List (TV D.T)}{vs:List V},VRL D ρ lv cs vs->VRL D ρ lv (TV.zpe D s s' cs) vs
 |[],vs,h=>by simpa only[TV.zpe]using h
 |c::cs,vs,h=>by simp only[TV.zpe,VRL]at h ⊢;obtain⟨v,r,k1,k2,k3⟩:=h;exact⟨v,r,k1,VR.ren h1 h2 he k2,VRL.ren h1 h2 he k3⟩
end
theorem yij{ρ ρ':List Slot}{g:List (Option Nat)}{f:TV D.T->TV D.T}{i s:Nat}{v:V}(hf:∀s0 s',f (.own s0) = .own s'->∀u,VR D ρ lv (.own s0) u->VR D ρ' lv (.own s') u)(hg:∀s0,g[i]? = some (some s0)->VR D ρ lv (.own s0) v)(h:(g.map (gmap D f))[i]? = some (some s)):VR D ρ' lv (.own s) v:=by
 rw[Qan,Qaf]at h;obtain⟨o,h1,h2⟩:=h
 cases o with
 |none=>cases h2
 |some s0=>
  simp only[gmap]at h2;split at h2;rename_i s' e;injection h2 with h2;subst h2;exact hf s0 s' e v (hg s0 h1);cases h2
theorem TRr.z9k(hR:TRr D F ρ ts σ)(f:TV D.T->TV D.T)(hf:∀x v,VR D ρ F.lv x v->VR D ρ F.lv (f x) v):TRr D F ρ (ts.z9k D f) σ:=by
 have hlive:∀o:TO D.T,(TO.map D f o).live->o.live:=λo h=>by cases o <;> first|exact h|trivial
 have hob:∀s o,fnd (ts.z9k D f).o s=some o->∃o',fnd ts.o s=some o'∧o=TO.map D f o':=λs o h=>by
  simp only[TS.z9k]at h;rw[zh2 (TO.map D f),Qaf]at h;obtain⟨o',h1,h2⟩:=h;exact⟨o',h1,h2.symm⟩
 refine⟨hR.nx,hR.nt,λj x hj =>?_,λs o ho =>?_,λs1 s2 o1 o2 sl1 sl2 i h1 h2 l1 l2 =>?_,λs1 o1 sl1 i h1 l1 =>?_,hR.lv,hR.E,hR.e0,hR.d.imp _ (λxs vs k=>VRL.of (by simp[k.length]) λj c v hc hv=>by
  rw[Qan,Qaf]at hc;obtain⟨c0,hc0,rfl⟩:=hc
  exact hf _ _ (k.zte hc0 hv)),hR.out,hR.pin,λs1 o1 sl1 i h1 l1 =>?_,λi s v h1 h2=>yij (λs0 s' e u hu=>by have:=hf _ _ hu;rwa[e]at this) (λs0 e=>hR.g i s0 v e h2) h1⟩
 simp only[TS.z9k]at hj;rw[zh2 f,Qaf]at hj;obtain⟨y,hy,rfl⟩:=hj;obtain⟨v,h1,h2⟩:=hR.tm j y hy;exact⟨v,h1,hf _ _ h2⟩;obtain⟨o',h1,rfl⟩:=hob s o ho;obtain⟨sl,k1,k2⟩:=hR.ob s o' h1;refine⟨sl,k1,?_⟩
 cases o' with
 |cells cs=>
  simp only[TO.map,OR]at k2 ⊢;obtain⟨i,vs,q1,q2,q3⟩:=k2;refine⟨i,vs,q1,q2,.of (by simp[q3.length]) λj c v hc hv =>?_⟩;rw[Qan,Qaf]at hc;obtain⟨c',hc',rfl⟩:=hc
  exact hf _ _ (q3.zte hc' hv)
 |acc ty t xs w=>exact k2
 |siter s pos=>exact k2
 |rig=>exact k2
 |mp ty t es=>exact k2
 |mit t last es=>exact k2
 |bld ty b=>
  cases b with
  |none=>exact k2
  |some q=>
   simp only[OR]at k2;obtain⟨i,a,c,q1,q2,q3,q4⟩:=k2;have h5:VR D ρ F.lv (f (.own q)) c:=hf _ _ q4;simp only[TO.map];split;rename_i s' hs';rw[hs']at h5;simp only[OR];exact⟨i,a,c,q1,q2,q3,h5⟩
   simp only[OR]
 |gone=>exact k2
 |deep ty q xs hh=>
  cases hh with
  |none=>exact k2
  |some p=>
   obtain⟨n,c,s0⟩:=p;simp only[TO.map];split;rename_i s1 hs1;simp only[OR]at k2 ⊢;refine⟨k2.1,?_⟩;have k3:=k2.2
   cases hk:sl.k with
   |none=>rw[hk]at k3;cases k3.2.2.2
   |some j=>
    rw[hk]at k3;obtain⟨ver,cp,fps,a1,a2,a3,a4,a5,a6,a7⟩:=k3;refine⟨ver,cp,fps,a1,a2,a3,a4,a5,λm x w b e1 e2 e3 =>?_,λn' f' s' e =>?_⟩;obtain⟨vs,cs,b1,b2,b3,b4,b5⟩:=a6 m x w b e1 e2 e3;refine⟨vs,cs,b1,b2,b3,b4,λf p u d g1 g2 g3 =>?_⟩;have:=b5 f p u d g1 g2 g3;unfold z0g at this ⊢;simp only at this ⊢;split at this;rename_i s2 hs2;split at hs2;rename_i hc;injection hs2 with hs2;subst hs2;rw[Qbx hc]
    obtain⟨d1,d2,hlf,sl2,d3,d4⟩:=this;have h5:=hf (.own s0) u (by simp only[VR];exact⟨sl2,d3,d4,hlf⟩);rw[hs1]at h5;simp only[VR]at h5;obtain⟨sl3,d5,d6,_⟩:=h5;exact⟨d1,d2,hlf,sl3,d5,d6⟩;cases hs2;rename_i hs2;split at hs2;cases hs2;rename_i hc;rw[Qby hc];exact this;simp only[Qbu,Qbz]at e;obtain⟨rfl,rfl,rfl⟩:=e;exact a7 n c s0 rfl
   simp only[OR]
 obtain⟨o1',q1,rfl⟩:=hob s1 o1 h1;obtain⟨o2',q2,rfl⟩:=hob s2 o2 h2;exact hR.inj s1 s2 o1' o2' sl1 sl2 i q1 q2 (hlive _ l1) (hlive _ l2);obtain⟨o1',q1,rfl⟩:=hob s1 o1 h1;exact hR.mine s1 o1' sl1 i q1 (hlive _ l1);obtain⟨o1',q1,rfl⟩:=hob s1 o1 h1;exact hR.fpl s1 o1' sl1 i q1 (hlive _ l1)
theorem TRr.put(hR:TRr D F ρ ts σ){dst:Option Nat}{x:TV D.T}{v:V}{ts':TS D.T}(h:ts.put D dst x=some ts')(hx:VR D ρ F.lv x v):TRr D F ρ ts' (σ.put dst v):=by
 cases dst with
 |none=>simp only[TS.put,Qbu]at h;subst h;exact hR
 |some d=>
  simp only[TS.put]at h;split at h;rename_i hd;injection h with h;subst h;refine⟨hR.nx,by simp[St.put,hR.nt],λj y hj =>?_,hR.ob,hR.inj,hR.mine,hR.lv,hR.E,hR.e0,hR.d,hR.out,hR.pin,hR.fpl,hR.g⟩;rw[yz8]at hj;simp only[St.put];split at hj;rename_i he;injection hj with hj;subst hj;subst he;exact⟨v,by rw[Qaq (by rw[hR.nt];exact hd)],hx⟩;rename_i he;obtain⟨u,h1,h2⟩:=hR.tm j y hj
  exact⟨u,by rw[Qam he];exact h1,h2⟩;cases h
theorem TRr.tell(hR:TRr D F ρ ts σ){d:Nat}{x:TV D.T}{v:V}(h:σ.t[d]? = some v)(hx:VR D ρ F.lv x v):TRr D F ρ {ts with t:=(d,x)::ts.t} σ:=by
 refine⟨hR.nx,hR.nt,λj y hj =>?_,hR.ob,hR.inj,hR.mine,hR.lv,hR.E,hR.e0,hR.d,hR.out,hR.pin,hR.fpl,hR.g⟩;rw[yz8]at hj;split at hj
 rename_i he;injection hj with hj;subst hj;subst he;exact⟨v,h,hx⟩
 exact hR.tm j y hj
end
section
variable {P : Program} {D : Dat}
theorem zui:∀{l:List DTy}{cs:List (TV D.T)}{z:HL D.T l},z7i D l cs = .ok z->∀(j:Nat) (p:(t:DTy)×t.S D.T),HL.nth l z j=some p->∃c,cs[j]? = some c∧zf7 D p.1 c = .ok p.2
 |[],cs,z,h,j,p,hp=>by simp[HL.nth]at hp
 |t::l,[],z,h,j,p,hp=>by simp[z7i]at h
 |t::l,c::cs,z,h,j,p,hp=>by
  simp only[z7i]at h;split at h;rename_i y hy;split at h;rename_i ys hys;injection h with h;subst h
  cases j with
  |zero=>simp only[HL.nth,Qbu]at hp;subst hp;exact⟨c,rfl,hy⟩
  |succ j=>
   obtain⟨c',h1,h2⟩:=zui hys j p hp;exact⟨c',by simpa using h1,h2⟩
  cases h;cases h;cases h;cases h
theorem yea{t:DTy}{x y:t.S D.T}(h:zf7 D t (D.leaf t x) = .ok y):y=x:=by
 cases t with
 |bool=>simp only[Dat.leaf,zf7]at h;injection h with h;exact h.symm
 |int k=>simp only[Dat.leaf,zf7,if_true]at h;injection h with h;exact h.symm
 |str=>simp only[Dat.leaf,zf7]at h;injection h with h;exact h.symm
 |nat=>simp[Dat.leaf,zf7]at h
 |st i=>simp[Dat.leaf,zf7]at h
 |sl t=>
  simp only[Dat.leaf,zf7,za8,dite_true,FR.of]at h;injection h with h;exact h.symm
end
theorem z8z:∀(l:List (List Nat)) (n:Nat) (c a c':List Nat),l[n]? = some c->c.Perm (a++c')->l.flatten.Perm (a++(l.set n c').flatten)
 |[],n,c,a,c',h,_=>by simp at h
 |x::l,0,c,a,c',h,hp=>by
  simp at h;subst h;simp only[List.set_cons_zero,List.flatten_cons,<-Qaz]
  exact hp.append_right _
 |x::l,n+1,c,a,c',h,hp=>by
  simp only[List.set_cons_succ,List.flatten_cons];refine((z8z l n c a c' (by simpa using h) hp).append_left x).trans ?_;rw[<-Qaz,<-Qaz];exact List.perm_append_comm.append_right _
section
variable {P : Program} {D : Dat} {F : Fr} {ρ : List Slot} {ts : TS D.T} {σ : St} {lv : Nat} {L : List (Option zz4)}
def zku(D:Dat)(ρ:List Slot)(lv:Nat)(L:List (Option zz4))(q f:Nat)(hole:Option (Nat×Nat))(p:(t:DTy)×t.S D.T)(u:V):Prop :=
 match (match hole with|some (f',c)=>(if f'=f then some c else none)|none=>none)with
 |some c=>(D.ow q f).isSome=true∧u.leaf=true∧∃sl,ρ[c]? = some sl∧u=sl.v
 |none=>DO D lv L (ykf (D.ow q f)) p.1 p.2 u []
theorem zju{q:Nat}:∀{l:List DTy}{cs:List (TV D.T)}{vs:List V}{f0:Nat}{r:HL D.T l×Option (Nat×Nat)},zy4 D q l cs f0 = .ok r->VRL D ρ lv cs vs ->
  cs.length=l.length∧(∀g c,r.2=some (g,c)->f0<=g∧g<f0+l.length)∧∀(f:Nat) (p:(t:DTy)×t.S D.T) (u:V),HL.nth l r.1 f=some p->vs[f]? = some u->zku D ρ lv L q (f0+f) r.2 p u
 |[],[],vs,f0,r,h,hv=>by
  cases h
  exact⟨rfl,λg c e=>(by cases e),λf p u hp=>(by simp[HL.nth]at hp)⟩
 |[],c::cs,vs,f0,r,h,hv=>by cases h
 |t::l,[],vs,f0,r,h,hv=>by cases h
 |t::l,c::cs,vs,f0,r,h,hv=>by
  simp only[VRL]at hv;obtain⟨v,us,rfl,hv1,hv2⟩:=hv;unfold zy4 at h;split at h;rename_i how;split at h;rename_i x hx;split at h;rename_i r' hr';injection h with h;subst h;obtain⟨a1,a2,a3⟩:=zju hr' hv2;refine⟨by simp[a1],λg c' e=>by have:=a2 g c' e;simp only[List.length_cons];omega,λf p u hp hu =>?_⟩
  cases f with
  |zero=>
   simp only[HL.nth,Qbu]at hp;simp only[Qcd,Qbu]at hu;subst hp;subst hu;unfold zku
   have hno:(match r'.2 with|some (f',c)=>(if f'=f0+0 then some c else none)|none=>none)=none:=by
    cases hh:r'.2 with
    |none=>rfl
    |some g=>have:=a2 g.1 g.2 hh;simp only;rw[Qby (by omega)]
   simp only[hno];rw[Nat.add_zero,how]
   exact .dat (zh3 hx hv1)
  |succ f=>
   have:=a3 f p u (by simpa[HL.nth]using hp) (by simpa using hu);rw[show f0+(f+1)=f0+1+f by omega];exact this
  cases h;cases h;cases h;cases h;rename_i ty how;split at h;rename_i r' hr';obtain⟨a1,a2,a3⟩:=zju hr' hv2
  have hno:(match r'.2 with|some (f',c)=>(if f'=f0+0 then some c else none)|none=>none)=none:=by
   cases hh:r'.2 with
   |none=>rfl
   |some g=>have:=a2 g.1 g.2 hh;simp only;rw[Qby (by omega)]
  split at h;rename_i x hn;injection h with h;subst h;refine⟨by simp[a1],λg c' e=>by have:=a2 g c' e;simp only[List.length_cons];omega,λf p u hp hu =>?_⟩
  cases f with
  |zero=>
   simp only[HL.nth,Qbu]at hp;simp only[Qcd,Qbu]at hu;subst hp;subst hu;unfold zku;simp only[hno];rw[Nat.add_zero,how];unfold yol at hn;split at hn;injection hn with hn;injection hn with hn;subst hn;simp only[VR]at hv1;subst hv1;exact .nil (.nil _) (.inl rfl);injection hn with hn;injection hn with _ hn;cases hn
   cases hn
  |succ f=>
   have:=a3 f p u (by simpa[HL.nth]using hp) (by simpa using hu);rw[show f0+(f+1)=f0+1+f by omega];exact this
  rename_i x c' hn;split at h;rename_i hr2;injection h with h;subst h;refine⟨by simp[a1],λg c2 e=>(by injection e with e;injection e with e1 e2;simp only[List.length_cons];omega),λf p u hp hu =>?_⟩
  cases f with
  |zero=>
   simp only[HL.nth,Qbu]at hp;simp only[Qcd,Qbu]at hu;subst hp;subst hu;unfold zku;simp only[Nat.add_zero,if_true];unfold yol at hn;split at hn;injection hn with hn;injection hn with _ hn;cases hn;injection hn with hn;injection hn with _ hn;injection hn with hn;subst hn;simp only[VR]at hv1;obtain⟨sl,e1,e2,e3⟩:=hv1;exact⟨by rw[how];rfl,e3,sl,e1,e2⟩
   cases hn
  |succ f=>
   have:=a3 f p u (by simpa[HL.nth]using hp) (by simpa using hu);rw[show f0+(f+1)=f0+1+f by omega];unfold zku at this ⊢;rw[hr2]at this;simp only at this ⊢;rw[Qby (by omega)];exact this
  cases h;cases h;cases h;cases h
theorem yn4{q n:Nat}{x:HL D.T (D.fl q)}{hole:Option (Nat×Nat)}{i:Int}{us:List V}(hD:D.Ok P)(hi:i.toNat=n)(hl:us.length=(D.fl q).length)(h:∀(f:Nat) (p:(t:DTy)×t.S D.T) (u:V),HL.nth (D.fl q) x f=some p->us[f]? = some u->zku D ρ lv L q f hole p u) :
  EO D ρ lv L q (hole.map λp=>(i,p.1,p.2)) n (D.make q x) (.agg us) []:=by
 have hr2:([]:List Nat)=(List.replicate (D.fl q).length ([]:List Nat)).flatten:=by
  symm;rw[List.flatten_eq_nil_iff];intro l hl;exact(List.mem_replicate.1 hl).2
 refine⟨us,List.replicate (D.fl q).length [],rfl,hl,by simp,hr2,λf p u b h1 h2 h3 =>?_⟩;rw[hD.getMake]at h1
 have hb:b=[]:=by
  rw[Qbo]at h3;split at h3;injection h3 with h3;exact h3.symm;cases h3
 subst hb;have:=h f p u h1 h2;unfold zku at this
 cases hole with
 |none=>exact this
 |some g=>
  obtain⟨f',c⟩:=g;simp only[Qbr,z0g]at this ⊢;by_cases hf:f'=f;rw[Qbx ⟨hi,hf⟩];rw[Qbx hf]at this;exact⟨trivial,this⟩;rw[Qby (λe=>hf e.2)];rw[Qby hf]at this;exact this
theorem EO.y32{q n:Nat}{x:D.T q}{w:V}{c:List Nat}(h:EO D ρ lv L q none n x w c)(hh:Option (Int×Nat×Nat))(hn:∀n' f' s',hh=some (n',f',s')->n'.toNat≠n):EO D ρ lv L q hh n x w c:=by
 obtain⟨vs,cs,a1,a2,a3,a4,a5⟩:=h;refine⟨vs,cs,a1,a2,a3,a4,λf p u b e1 e2 e3 =>?_⟩;have:=a5 f p u b e1 e2 e3
 have hno:z0g hh n f=none:=by
  cases hh with
  |none=>rfl
  |some g=>obtain⟨n',f',s'⟩:=g;simp only[z0g];rw[Qby (λe=>hn _ _ _ rfl e.1)]
 rw[hno];exact this
end
end Go.Ab
