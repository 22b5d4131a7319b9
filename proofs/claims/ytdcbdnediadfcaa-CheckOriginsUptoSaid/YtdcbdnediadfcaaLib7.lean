/-
  DEEP OWN MEMORY: opening.
-/
import Derived.Test.YtdcbdnediadfcaaLib6
namespace Go.Ab
open Go
set_option linter.unusedVariables false
set_option linter.unusedSimpArgs false
set_option linter.unusedSectionVars false
section
variable {P : Program} {D : Dat} {F : Fr} {ρ : List Slot} {ts : TS D.T} {σ : St} {lv : Nat} {L : List (Option yz4)}
theorem zvy{t:DTy}{x:t.S D.T}{w:V}{c:List Nat}(h:DO D lv L .el t x w c)(ht:D.z9v t=true):DR D t x w:=by
 cases h with
 |elf _ h=>exact h
 |el hl hc h=>
  rename_i i y vs cs;refine .st _ _ _ hl λf p u h1 h2 =>?_
  have hf:f<(D.fl i).length:=(HL.z47 _ _ _ _ h1).1;obtain⟨b,hb⟩:∃b,cs[f]? = some b:=⟨_,Qab (show f<cs.length by omega)⟩;have:=h f p u b h1 h2 hb;rw[zgt ht i f hf rfl]at this
  cases this with
  |dat h=>exact h
theorem zx0{q:Nat}{x:D.T q}{w:V}{c:List Nat}(h:DO D lv L .el (.st q) x w c)(ht:D.owns q=true)(ρ:List Slot)(n:Nat):EO D ρ lv L q none n x w c:=by
 cases h with
 |elf h1 h=>
  simp only[Dat.owns,List.any_eq_true,List.mem_range]at ht;obtain⟨f,hf,ho⟩:=ht
  rw[h1 q f hf rfl]at ho;cases ho
 |el hl hc h=>exact⟨_,_,rfl,hl,hc,rfl,λf p u b h1 h2 h3=>h f p u b h1 h2 h3⟩
theorem y6f{ty:Nat}{t:DTy}{xs:List (t.S D.T)}{v:V}{fp:List Nat}(h:DO D lv L (.own ty) (.sl t) xs v fp)(h1:D.z9v t=true)(hu:t ≠ .int .u8):∃sl:Slot,sl.v=v∧v.leaf=true∧sl.all=fp∧∀ρ,OR D ρ lv L sl (.acc ty t xs true):=by
 cases h with
 |nil h hv=>
  refine⟨⟨v,none,[],[]⟩,rfl,by rcases hv with rfl|rfl <;> rfl,rfl,λρ =>?_⟩;unfold OR;refine⟨rfl,λj x w hj=>by simp at hj,?_⟩
  rcases hv with rfl|rfl
  exact .inl ⟨rfl,rfl⟩
  exact .inr ⟨⟨rfl,hu⟩,λ_=>rfl⟩
 |own hL hl hf he=>
  rename_i j ver cp ws fps;refine⟨⟨.hs lv j ver 0 ws.length false,some j,ws,fps.flatten⟩,rfl,rfl,rfl,λρ =>?_⟩;unfold OR;refine⟨hl,λn x w h2 h3 =>?_,ver,cp,rfl,hL⟩;have hn:n<fps.length:=by rw[hf];exact(Qaa.1 h2).1
  exact zvy (he n x w _ h2 h3 (Qab hn)) h1
theorem y7m{ty q:Nat}{xs:List (D.T q)}{v:V}{fp:List Nat}(h:DO D lv L (.own ty) (.sl (.st q)) xs v fp)(h1:D.owns q=true)(hn:fp.Nodup):∃sl:Slot,sl.v=v∧v.leaf=true∧sl.all=fp∧∀ρ,OR D ρ lv L sl (.deep ty q xs none):=by
 cases h with
 |nil h hv=>
  refine⟨⟨v,none,[],[]⟩,rfl,by rcases hv with rfl|rfl <;> rfl,rfl,λρ =>?_⟩;unfold OR
  exact⟨rfl,rfl,hv,rfl,rfl⟩
 |own hL hl hf he=>
  rename_i j ver cp ws fps;refine⟨⟨.hs lv j ver 0 ws.length false,some j,ws,fps.flatten⟩,rfl,rfl,rfl,λρ =>?_⟩;unfold OR;exact⟨hl,ver,cp,fps,rfl,hL,hf,rfl,(List.nodup_cons.1 hn).2,λn x w c h2 h3 h4=>zx0 (he n x w c h2 h3 h4) h1 ρ n,λ_ _ _ h=>by cases h⟩
theorem zma(hD:D.Ok P)(hR:TRr D F ρ ts σ){s ty q f:Nat}{n:Int}{xs:List (D.T q)}(hs:fnd ts.o s=some (.deep ty q xs none)){ty':Nat}{t':DTy}{ys:List (t'.S D.T)}(how:D.ow q f=some ty')
  {y:D.T q} (hy:ix xs n=some y) (hz:HL.nth (D.fl q) (D.get q y) f=some ⟨.sl t',ys⟩) {to:TO D.T}(hto:∀v fp,DO D F.lv σ.H.L (.own ty') (.sl t') ys v fp->fp.Nodup->∃slc:Slot,slc.v=v∧v.leaf=true∧slc.all=fp∧∀ρ,OR D ρ F.lv σ.H.L slc to) :
  ∃ρ',TRr D F ρ' ((ts.z15 [s] [.deep ty q xs (some (n,f,ts.nx+1)),to]).z3p D (TV.ren D s ts.nx)) σ∧∃j ver m w u,σ.H.L[j]? = some (some (.arr ver ty (D.len (.st q)) m w))∧(∃sl,ρ[s]? = some sl∧sl.v = .hs F.lv j ver 0 m.length false)∧(m[n.toNat]?.bind λx=>x.cells[f]?)=some u∧VR D ρ' F.lv (.own (ts.nx+1)) u:=by
 obtain⟨sl,k1,k2⟩:=hR.ob s _ hs;simp only[OR]at k2;obtain⟨q1,q3⟩:=k2;obtain⟨p1,p2⟩:=z6w hy;have hlt:n.toNat<xs.length:=(Qaa.1 p2).1
 cases hk:sl.k with
 |none=>rw[hk]at q3;rw[q3.1]at hlt;simp at hlt
 |some j=>
 rw[hk]at q3;obtain⟨ver,cp,fps,e1,e2,e3,e4,e5,e6,e7⟩:=q3;have hw:sl.ws[n.toNat]? = some (sl.ws[n.toNat]'(by omega)):=Qab (by omega);have hc0:fps[n.toNat]? = some (fps[n.toNat]'(by omega)):=Qab (by omega);obtain⟨vs,cs,b1,b2,b3,b4,b5⟩:=e6 n.toNat y _ _ p2 hw hc0;have hf:=(HL.z47 _ _ _ _ hz).1
 have hu:vs[f]? = some (vs[f]'(by omega)):=Qab (by omega);have hb:cs[f]? = some (cs[f]'(by omega)):=Qab (by omega);have hdo:DO D F.lv σ.H.L (y0g (D.ow q f)) (.sl t') ys _ _:=b5 f ⟨.sl t',ys⟩ _ _ hz hu hb;rw[how]at hdo;rw[b4]at hc0
 have perm0:sl.fp.Perm ((cs[f]'(by omega))++(fps.set n.toNat (cs.set f []).flatten).flatten):=by rw[e4];exact z3e fps n.toNat _ _ _ hc0 (z3e cs f _ _ [] hb (by simp))
 obtain⟨slc,c1,c2,c3,c4⟩:=hto _ _ hdo (List.nodup_append.1 (perm0.nodup_iff.1 e5)).1;have perm2:sl.fp.Perm (slc.all++(fps.set n.toNat (cs.set f []).flatten).flatten):=by rw[c3];exact perm0
 have hnd:=perm2.nodup_iff.1 e5;obtain⟨hn1,hn2,hn3⟩:=List.nodup_append.1 hnd;have hin:∀i,slc.has i->i∈sl.fp:=λi h=>perm2.mem_iff.2 (List.mem_append_left _ (Slot.zes.2 h))
 have hin2:∀i,i∈(fps.set n.toNat (cs.set f []).flatten).flatten->i∈sl.fp:=λi h=>perm2.mem_iff.2 (List.mem_append_right _ h)
 let sl':Slot:=⟨sl.v,sl.k,sl.ws,(fps.set n.toNat (cs.set f []).flatten).flatten⟩
 have hkn:∀i,i∈sl.fp->sl.k≠some i:=λi h=>(hR.fpl s _ sl i hs trivial k1 h).1
 have hget1:(ρ++[sl',slc])[ts.nx]? = some sl':=by rw[<-hR.nx];simp
 have hget2:(ρ++[sl',slc])[ts.nx+1]? = some slc:=by rw[<-hR.nx,Qav (by omega)];simp
 have hT:=hR.z15 [s] (λs0 h0=>by
  rcases Qbi.1 h0 with rfl|h0
  exact⟨_,sl,hs,trivial,k1⟩
  cases h0) [((.deep ty q xs (some (n,f,ts.nx+1)):TO D.T),sl'),(to,slc)] σ.H hR.lv hR.E (Qbq _) (λ_ _ _=>rfl)
  (λp hp i hi=>by
   refine .inr ⟨s,Qak,sl,k1,?_⟩
   rcases Qbi.1 hp with rfl|hp
   rcases hi with hi|hi
   exact .inl hi;exact .inr (hin2 i hi)
   rcases Qbi.1 hp with rfl|hp
   exact .inr (hin i hi)
   cases hp)
  (λa b p p' i ha hb' h1 h2=>by
   have apart:sl'.has i->slc.has i->False:=λh1 h2=>by
    rcases h1 with h1|h1
    exact hkn i (hin i h2) h1;exact hn3 i (Slot.zes.2 h2) i h1 rfl
   have l1:=(Qaa.1 ha).1;have l2:=(Qaa.1 hb').1;simp at l1 l2
   match a,b,ha,hb',l1,l2 with
   |0,0,_,_,_,_=>rfl
   |1,1,_,_,_,_=>rfl
   |0,1,ha,hb',_,_=>simp at ha hb';subst ha;subst hb';exact(apart h1 h2).elim
   |1,0,ha,hb',_,_=>simp at ha hb';subst ha;subst hb';exact(apart h2 h1).elim
   |a+2,_,_,_,l1,_=>omega
   |0,b+2,_,_,_,l2=>omega
   |1,b+2,_,_,_,l2=>omega)
  (λp hp=>by
   rcases Qbi.1 hp with rfl|hp
   simp only[OR];refine⟨q1,?_⟩;show(match sl.k with|none=>_|some j=>_);rw[hk];refine⟨ver,cp,fps.set n.toNat (cs.set f []).flatten,e1,e2,by simpa using e3,rfl,hn2,λm x w' c' m1 m2 m3 =>?_,λn' f' s' e =>?_⟩;by_cases hm:n.toNat=m;subst hm
   rw[p2]at m1;injection m1 with m1;subst m1
   rw[Qaq (by omega)]at m3;injection m3 with m3;subst m3
   have m2':sl.ws[n.toNat]? = some w':=m2
   rw[hw]at m2';injection m2' with m2'
   refine⟨vs,cs.set f [],m2'.symm.trans b1,b2,by simpa using b3,rfl,λf' p' u' b' r1 r2 r3 =>?_⟩;by_cases hff:f'=f;subst hff;rw[show yzq (some (n,f',ts.nx+1)) n.toNat f'=some (ts.nx+1) by simp[yzq]]
   rw[Qaq (by omega)]at r3;injection r3 with r3;subst r3
   rw[hu]at r2;injection r2 with r2;subst r2
   exact⟨rfl,by rw[how];rfl,c2,slc,hget2,c1.symm⟩;rw[show yzq (some (n,f,ts.nx+1)) n.toNat f'=none by simp[yzq];exact λe=>hff e.symm];rw[Qam (λe=>hff e.symm)]at r3;exact b5 f' p' u' b' r1 r2 r3;rw[Qam hm]at m3;obtain⟨vs',cs',d1,d2,d3,d4,d5⟩:=e6 m x w' c' m1 m2 m3;refine⟨vs',cs',d1,d2,d3,d4,λf' p' u' b' r1 r2 r3 =>?_⟩
   rw[show yzq (some (n,f,ts.nx+1)) m f'=none by simp[yzq];exact λe=>(hm e).elim];exact d5 f' p' u' b' r1 r2 r3;simp only[Qbo,Qbt]at e;obtain⟨rfl,rfl,rfl⟩:=e;exact⟨p1,hlt⟩
   rcases Qbi.1 hp with rfl|hp
   exact c4 _
   cases hp)
  (λp hp i hi=>by
   rcases Qbi.1 hp with rfl|hp
   exact hR.fpl s _ sl i hs trivial k1 (hin2 i hi)
   rcases Qbi.1 hp with rfl|hp
   refine⟨λe =>?_,(hR.fpl s _ sl i hs trivial k1 (hin i (.inr hi))).2⟩;have:slc.all=i::slc.fp:=by unfold Slot.all;rw[e];rfl
   rw[this]at hn1;exact(List.nodup_cons.1 hn1).1 hi
   cases hp)
 refine⟨_,hT.z3p (TV.ren D s ts.nx) λx v h=>VR.ren (sl:=sl) (sl':=sl') (lookup_append k1) hget1 rfl h,j,ver,sl.ws,cp,vs[f]'(by omega),e2,⟨sl,k1,e1⟩,?_,?_⟩;rw[hw];show(sl.ws[n.toNat]'(by omega)).cells[f]? = _;rw[b1];exact hu;simp only[VR];exact⟨slc,hget2,c1.symm,c2⟩
theorem zqg{R:Type}(hD:D.Ok P)(hR:TRr D F ρ ts σ){s f:Nat}{n:Int}{k:TV D.T->TS D.T->Option R}{r:R}(h:ts.opn D s n f k=some r) :
  ∃ts' ρ' ty q j ver cp m u,k (.own (ts.nx+1)) ts'=some r∧TRr D F ρ' ts' σ∧σ.H.L[j]? = some (some (.arr ver ty (D.len (.st q)) m cp))∧(∃sl,ρ[s]? = some sl∧sl.v = .hs F.lv j ver 0 m.length false)∧(m[n.toNat]?.bind λx=>x.cells[f]?)=some u∧VR D ρ' F.lv (.own (ts.nx+1)) u:=by
 unfold TS.opn at h;split at h;rename_i ty q xs hs;split at h;rename_i ty' how;obtain⟨y,hy,h⟩:=zzs h;rw[y6j]at h;split at h;rename_i q' ys hz;split at h;rename_i ho;obtain⟨ρ',w1,j,ver,m,w,u,w2,w3,w4,w5⟩:=zma hD hR hs how hy hz λv fp hd hn=>y7m hd ho hn
 exact⟨_,ρ',ty,q,j,ver,w,m,u,h,w1,w2,w3,w4,w5⟩;rename_i ho;obtain⟨ρ',w1,j,ver,m,w,u,w2,w3,w4,w5⟩:=zma hD hR hs how hy hz λv fp hd hn=>y6f hd (by simp[Dat.z9v,ho]) (by intro e;cases e)
 exact⟨_,ρ',ty,q,j,ver,w,m,u,h,w1,w2,w3,w4,w5⟩;rename_i t' ys _ hz;split at h;rename_i hc;simp only[Qag,Bool.not_eq_true',decide_eq_false_iff_not]at hc;obtain⟨ρ',w1,j,ver,m,w,u,w2,w3,w4,w5⟩:=zma hD hR hs how hy hz λv fp hd hn=>y6f hd hc.1 hc.2
 exact⟨_,ρ',ty,q,j,ver,w,m,u,h,w1,w2,w3,w4,w5⟩;cases h;cases h;cases h;cases h
end
theorem y79{T:Nat->Type}{a b:DTy}{x:a.S T}{y:b.S T}(h:zi5 a b x=some y):∃e:a=b,y=e▸x:=by
 unfold zi5 at h;split at h
 rename_i e;injection h with h;exact⟨e,h.symm⟩
 cases h
theorem HL.z9u{T:Nat->Type}:∀{a b:List DTy}(x:HL T a) (y:HL T b),HL.fst a (HL.app x y)=x
 |[],_,_,_=>rfl
 |_::_,_,x,y=>by simp only[HL.app,HL.fst];rw[HL.z9u];rfl
theorem HL.z9y{T:Nat->Type}:∀{a b:List DTy}(x:HL T a) (y:HL T b),HL.snd a (HL.app x y)=y
 |[],_,_,_=>rfl
 |_::_,_,x,y=>by simp only[HL.app,HL.snd];rw[HL.z9y]
section
variable (D : Dat) (n : Nat) (M : yzw D.T) (c : TV D.T)
theorem y6x:zkh D n .any c M = .ok (M,()):=rfl
theorem y8x(t:DTy):zkh D n (.d t) c M=(match asD D t c with
 |.ok x=>.ok (M,(x,()))
 |.frz s=>.frz s
 |.bad=>.bad):=rfl
theorem y7v(f:Nat)(a b:List Sh)(f':Nat)(a' b':List (TV D.T)):zkh D n (.fn f a b) (.fn f' a' b') M=if f=f' then (match zez D n a a' M with
 |.ok (M,x)=>match zez D n b b' M with
  |.ok (M,y)=>.ok (M,HL.app x y)
  |.frz s=>.frz s
  |.bad=>.bad
 |.frz s=>.frz s
 |.bad=>.bad)else .bad:=rfl
theorem y2i(cs:List (TV D.T))(sh:Sh)(l:List Sh):zez D n (sh::l) (c::cs) M=(match zkh D n sh c M with
 |.ok (M,x)=>match zez D n l cs M with
  |.ok (M,y)=>.ok (M,HL.app x y)
  |.frz s=>.frz s
  |.bad=>.bad
 |.frz s=>.frz s
 |.bad=>.bad):=rfl
variable (m : Nat → Nat)
theorem y7s(f:Nat)(a b:List Sh)(x:HL D.T (Sh.kzs a))(y:HL D.T (Sh.kzs b)):z7q D m (.fn f a b) (HL.app x y) = .fn f (yzu D m a x) (yzu D m b y):=by
 show TV.fn f (yzu D m a (HL.fst _ (HL.app x y))) (yzu D m b (HL.snd _ (HL.app x y)))=_;rw[HL.z9u,HL.z9y]
theorem y16(sh:Sh)(l:List Sh)(x:HL D.T sh.tys)(y:HL D.T (Sh.kzs l)):yzu D m (sh::l) (HL.app x y)=z7q D m sh x::yzu D m l y:=by
 show z7q D m sh (HL.fst _ (HL.app x y))::yzu D m l (HL.snd _ (HL.app x y))=_;rw[HL.z9u,HL.z9y]
end
theorem z1w{α:Type}:∀{l:List (Nat×α)}{j:Nat}{a:α},fnd l j=some a->(j,a)∈l
 |[],j,a,h=>by simp[fnd]at h
 |(i,b)::r,j,a,h=>by
  rw[yz6]at h;split at h
  rename_i e;injection h with h;subst h;subst e;exact Qak
  exact Qai _ (z1w h)
section
variable {P : Program} {D : Dat} {F : Fr} {ρ : List Slot} {ts : TS D.T} {σ : St} {lv : Nat} {T : Nat → Type}
def z9j:Slot:=⟨.nils,none,[],[]⟩
def Src.is(ρ:List Slot)(sl:Slot):Src T->Prop
 |.slot s=>ρ[s]? = some sl
 |.nil=>sl=z9j
def Agr(ρ:List Slot)(M:yzw T)(ρ':List Slot):Prop:=∀(k:Nat) (src:Src T),fnd M k=some src->∃sl,ρ'[k]? = some sl∧src.is ρ sl
structure MOk(n:Nat)(M:yzw T):Prop where
 lt:∀k src,fnd M k=some src->k<n
 inj:∀k k' s,fnd M k=some (.slot s)->fnd M k'=some (.slot s)->k=k'
 one:∀k src,(k,src)∈M->fnd M k=some src
def znf(M M':yzw T):Prop:=∀k src,fnd M k=some src->fnd M' k=some src
theorem znf.agr{M M':yzw T}(h:znf M M'){ρ':List Slot}(k:Agr ρ M' ρ'):Agr ρ M ρ':=λj src hj=>k j src (h j src hj)
theorem z2h{n k s:Nat}{M M':yzw T}(h:z4s n k s M=some M'):znf M M'∧fnd M' k=some (.slot s)∧(MOk n M->MOk n M'):=by
 unfold z4s at h;split at h;rename_i s' hk;split at h
 rename_i e;injection h with h;subst h;subst e;exact⟨λ_ _ h=>h,hk,λh=>h⟩
 cases h;cases h;rename_i hk;split at h;rename_i hc;injection h with h;subst h
 refine⟨λj src hj =>?_,by rw[yz6,Qbr rfl],λhM=>⟨λj src hj =>?_,λj j' q hj hj' =>?_,λj src hm=>by
  rw[yz6]
  rcases Qbi.1 hm with hm|hm
  injection hm with h1 h2;subst h1;subst h2;rw[Qbr rfl];have:=hM.one j src hm;split;rename_i e;subst e;rw[hk]at this;cases this
  exact this⟩⟩
 rw[yz6];split;rename_i e;subst e;rw[hk]at hj;cases hj;exact hj;rw[yz6]at hj;split at hj;rename_i e;subst e;exact hc.1;exact hM.lt j src hj
 have hno:∀j',fnd M j'≠some (.slot s):=λj' hj'=>by
  have:=Qat.1 hc.2 _ (z1w hj');simp[Src.y4g]at this
 rw[yz6]at hj hj';split at hj <;> split at hj'
 rename_i e1 e2;rw[<-e1,<-e2];injection hj with hj;injection hj with hj;subst hj;exact(hno _ hj').elim;injection hj' with hj';injection hj' with hj';subst hj';exact(hno _ hj).elim;exact hM.inj j j' q hj hj';cases h
theorem zkc{n k:Nat}{M M':yzw T}(h:ztn n k M=some M'):znf M M'∧fnd M' k=some .nil∧(MOk n M->MOk n M'):=by
 unfold ztn at h;split at h
 rename_i hk;injection h with h;subst h;exact⟨λ_ _ h=>h,hk,λh=>h⟩
 cases h;rename_i hk;split at h;rename_i hc;injection h with h;subst h
 refine⟨λj src hj =>?_,by rw[yz6,Qbr rfl],λhM=>⟨λj src hj =>?_,λj j' q hj hj' =>?_,λj src hm=>by
  rw[yz6]
  rcases Qbi.1 hm with hm|hm
  injection hm with h1 h2;subst h1;subst h2;rw[Qbr rfl];have:=hM.one j src hm;split;rename_i e;subst e;rw[hk]at this;cases this
  exact this⟩⟩
 rw[yz6];split;rename_i e;subst e;rw[hk]at hj;cases hj;exact hj;rw[yz6]at hj;split at hj;rename_i e;subst e;exact hc;exact hM.lt j src hj;rw[yz6]at hj hj';split at hj;injection hj with hj;cases hj;split at hj';injection hj' with hj';cases hj';exact hM.inj j j' q hj hj';cases h
theorem FR.inj{α:Type}{a b:α}(h:FR.ok a=FR.ok b):a=b:=by cases h;rfl
theorem FR.pair{α β:Type}{a c:α}{b d:β}(h:FR.ok (a,b)=FR.ok (c,d)):a=c∧b=d:=⟨congrArg Prod.fst (FR.inj h),congrArg Prod.snd (FR.inj h)⟩
theorem zga{o:Option (yzw T)}{M:yzw T}{u:Unit}(h:frU o = .ok (M,u)):o=some M:=by
 unfold frU at h;split at h;injection h with h;injection h with h;rw[h];cases h
def zg3(D:Dat)(ρ:List Slot)(lv n:Nat)(M M':yzw D.T)(x:TV D.T)(v:V):Prop:=znf M M'∧(MOk n M->MOk n M')∧∀ρ',Agr ρ M' ρ'->VR D ρ' lv x v
def FitL(D:Dat)(ρ:List Slot)(lv n:Nat)(M M':yzw D.T)(xs:List (TV D.T))(vs:List V):Prop:=znf M M'∧(MOk n M->MOk n M')∧∀ρ',Agr ρ M' ρ'->VRL D ρ' lv xs vs
theorem EO.y8w{ρ':List Slot}{L:List (Option yz4)}{q n:Nat}{x:D.T q}{w:V}{c:List Nat}(h:EO D ρ lv L q none n x w c):EO D ρ' lv L q none n x w c:=h
theorem EO.zzq{ρ':List Slot}{L:List (Option yz4)}{q n f s s':Nat}{i:Int}{x:D.T q}{w:V}{c:List Nat}{sl:Slot}(h:EO D ρ lv L q (some (i,f,s)) n x w c)(h1:ρ[s]? = some sl)(h2:ρ'[s']? = some sl):EO D ρ' lv L q (some (i,f,s')) n x w c:=by
 obtain⟨vs,cs,a1,a2,a3,a4,a5⟩:=h;refine⟨vs,cs,a1,a2,a3,a4,λf' p u b e1 e2 e3 =>?_⟩;have:=a5 f' p u b e1 e2 e3;by_cases hc:i.toNat=n∧f=f';simp only[yzq,Qbr hc]at this ⊢;obtain⟨g1,g2,g3,sl',g4,g5⟩:=this
 rw[h1]at g4;injection g4 with g4;subst g4
 exact⟨g1,g2,g3,sl,h2,g5⟩;simp only[yzq,Qbs hc]at this ⊢;exact this
variable (hD : D.Ok P)
include hD
mutual
theorem z94{n:Nat}:∀(sh:Sh) {c:TV D.T}{v:V}{M M':yzw D.T}{x:HL D.T sh.tys},zkh D n sh c M = .ok (M',x)->VR D ρ lv c v->zg3 D ρ lv n M M' (z7q D (λk=>k) sh x) v
 |.any,c,v,M,M',x,h,hv=>by
  rw[y6x]at h;cases h
  exact⟨λ_ _ h=>h,λh=>h,λρ' _=>(by simp only[VR]:VR D ρ' lv .any v)⟩
 |.d t,c,v,M,M',x,h,hv=>by
  rw[y8x]at h;split at h;rename_i y hy;cases h;exact⟨λ_ _ h=>h,λh=>h,λρ' _=>(VR.tv hD (z6m hD hy hv):VR D ρ' lv (D.tv t y) v)⟩;cases h
  cases h
 |.own k,c,v,M,M',x,h,hv=>by
  show zg3 D ρ lv n M M' (.own k) v
  cases c <;> first|(cases h;done)|skip
  case own s=>
   obtain⟨h1,h2,h3⟩:=z2h (zga h);refine⟨h1,h3,λρ' ha =>?_⟩;obtain⟨sl,e1,e2⟩:=ha k _ h2;simp only[Src.is]at e2;simp only[VR]at hv;obtain⟨sl',e3,e4,e5⟩:=hv
   rw[e2]at e3;injection e3 with e3;subst e3
   simp only[VR];exact⟨sl,e1,e4,e5⟩
  case nils=>
   obtain⟨h1,h2,h3⟩:=zkc (zga h);refine⟨h1,h3,λρ' ha =>?_⟩;obtain⟨sl,e1,e2⟩:=ha k _ h2;simp only[Src.is]at e2;subst e2;simp only[VR]at hv;subst hv;simp only[VR]
   exact⟨z9j,e1,rfl,rfl⟩
 |.ptr k off,c,v,M,M',x,h,hv=>by
  show zg3 D ρ lv n M M' (.ptr k off) v
  cases c <;> first|(cases h;done)|skip
  case ptr s off'=>
   replace h:(if off=off' then frU (z4s n k s M)else .bad) = .ok (M',()):=h;by_cases e:off=off';rw[Qbr e]at h;subst e;obtain⟨h1,h2,h3⟩:=z2h (zga h);refine⟨h1,h3,λρ' ha =>?_⟩;obtain⟨sl,e1,e2⟩:=ha k _ h2;simp only[Src.is]at e2;simp only[VR]at hv;obtain⟨sl',i,e3,e4,e5⟩:=hv
   rw[e2]at e3;injection e3 with e3;subst e3
   simp only[VR];exact⟨sl,i,e1,e4,e5⟩
   rw[Qbs e]at h;cases h
 |.map k,c,v,M,M',x,h,hv=>by
  show zg3 D ρ lv n M M' (.map k) v
  cases c <;> first|(cases h;done)|skip
  case map s=>
   obtain⟨h1,h2,h3⟩:=z2h (zga h);refine⟨h1,h3,λρ' ha =>?_⟩;obtain⟨sl,e1,e2⟩:=ha k _ h2;simp only[Src.is]at e2;simp only[VR]at hv;obtain⟨sl',i,e3,e4,e5⟩:=hv
   rw[e2]at e3;injection e3 with e3;subst e3
   simp only[VR]
   exact⟨sl,i,e1,e4,e5⟩
 |.mc t,c,v,M,M',x,h,hv=>by
  cases c <;> first|(cases h;done)|skip
  case mc t' es=>
   replace h:(match zdb t' t es with|some es=>FR.ok (M,(List.map Prod.fst es,(List.map Prod.snd es,())))|none=>.bad) = .ok (M',x):=h
   cases hys:zdb t' t es with
   |none=>rw[hys]at h;cases h
   |some ys=>
    rw[hys]at h;obtain⟨e1,e2⟩:=zgn hys;subst e1;replace e2:ys=es:=e2;subst e2;cases h;refine⟨λ_ _ h=>h,λh=>h,λρ' ha =>?_⟩;show VR D ρ' lv (.mc t' (List.zip (List.map Prod.fst ys) (List.map Prod.snd ys))) v;rw[show List.zip (List.map Prod.fst ys) (List.map Prod.snd ys)=ys from zhf ys];unfold VR at hv ⊢
    exact hv
 |.bp k,c,v,M,M',x,h,hv=>by
  show zg3 D ρ lv n M M' (.bp k 0) v
  cases c <;> first|(cases h;done)|skip
  case bp s off=>
   cases off with
   |succ off=>cases h
   |zero=>
   obtain⟨h1,h2,h3⟩:=z2h (zga h);refine⟨h1,h3,λρ' ha =>?_⟩;obtain⟨sl,e1,e2⟩:=ha k _ h2;simp only[Src.is]at e2;simp only[VR]at hv;obtain⟨sl',i,e3,e4,e5⟩:=hv
   rw[e2]at e3;injection e3 with e3;subst e3
   simp only[VR]
   exact⟨sl,i,e1,e4,e5⟩
 |.nilp,c,v,M,M',x,h,hv=>by
  show zg3 D ρ lv n M M' .nilp v
  cases c <;> first|(cases h;done)|skip
  cases h;exact⟨λ_ _ h=>h,λh=>h,λρ' _=>by simpa only[VR]using hv⟩
 |.nilf,c,v,M,M',x,h,hv=>by
  show zg3 D ρ lv n M M' .nilf v
  cases c <;> first|(cases h;done)|skip
  cases h;exact⟨λ_ _ h=>h,λh=>h,λρ' _=>by simpa only[VR]using hv⟩
 |.nili,c,v,M,M',x,h,hv=>by
  show zg3 D ρ lv n M M' .nili v
  cases c <;> first|(cases h;done)|skip
  cases h;exact⟨λ_ _ h=>h,λh=>h,λρ' _=>by simpa only[VR]using hv⟩
 |.nils,c,v,M,M',x,h,hv=>by
  show zg3 D ρ lv n M M' .nils v
  cases c <;> first|(cases h;done)|skip
  cases h;exact⟨λ_ _ h=>h,λh=>h,λρ' _=>by simpa only[VR]using hv⟩
 |.fn f a b,c,v,M,M',x,h,hv=>by
  cases c <;> first|(cases h;done)|skip
  case fn f' a' b'=>
   rw[y7v]at h;by_cases e:f=f';rw[Qbr e]at h;subst e;split at h;rename_i M1 y hy;split at h;rename_i M2 z hz;cases h;simp only[VR]at hv;obtain⟨as,bs,rfl,k1,k2⟩:=hv;obtain⟨a1,a2,a3⟩:=z4a a hy k1;obtain⟨b1,b2,b3⟩:=z4a b hz k2;refine⟨λj src hj=>b1 j src (a1 j src hj),λh=>b2 (a2 h),λρ' ha =>?_⟩;rw[y7s];simp only[VR];exact⟨as,bs,rfl,a3 ρ' (b1.agr ha),b3 ρ' ha⟩;cases h;cases h;cases h;cases h
   rw[Qbs e]at h;cases h
 |.iface t s,c,v,M,M',x,h,hv=>by
  show zg3 D ρ lv n M M' (.iface t (z7q D (λk=>k) s x)) v
  cases c <;> first|(cases h;done)|skip
  case iface t' y'=>
   replace h:(if t=t' then zkh D n s y' M else .bad) = .ok (M',x):=h;by_cases e:t=t';rw[Qbr e]at h;subst e;simp only[VR]at hv;obtain⟨y,rfl,k1⟩:=hv;obtain⟨a1,a2,a3⟩:=z94 s h k1;exact⟨a1,a2,λρ' ha=>by simp only[VR];exact⟨y,rfl,a3 ρ' ha⟩⟩
   rw[Qbs e]at h;cases h
 |.agg cs,c,v,M,M',x,h,hv=>by
  show zg3 D ρ lv n M M' (.agg (yzu D (λk=>k) cs x)) v
  cases c <;> first|(cases h;done)|skip
  case agg vs=>
   replace h:zez D n cs vs M = .ok (M',x):=h;simp only[VR]at hv;obtain⟨y,rfl,k1⟩:=hv;obtain⟨a1,a2,a3⟩:=z4a cs h k1
   exact⟨a1,a2,λρ' ha=>by simp only[VR];exact⟨y,rfl,a3 ρ' ha⟩⟩
 |.tup cs,c,v,M,M',x,h,hv=>by
  show zg3 D ρ lv n M M' (.tup (yzu D (λk=>k) cs x)) v
  cases c <;> first|(cases h;done)|skip
  case tup vs=>
   replace h:zez D n cs vs M = .ok (M',x):=h;simp only[VR]at hv;obtain⟨y,rfl,k1⟩:=hv;obtain⟨a1,a2,a3⟩:=z4a cs h k1
   exact⟨a1,a2,λρ' ha=>by simp only[VR];exact⟨y,rfl,a3 ρ' ha⟩⟩
 |.ref cs off,c,v,M,M',x,h,hv=>by
  show zg3 D ρ lv n M M' (.ref (yzu D (λk=>k) cs x) off) v
  cases c <;> first|(cases h;done)|skip
  case ref vs off'=>
   replace h:(if off=off' then zez D n cs vs M else .bad) = .ok (M',x):=h;by_cases e:off=off';rw[Qbr e]at h;subst e;simp only[VR]at hv;obtain⟨y,rfl,k1⟩:=hv;obtain⟨a1,a2,a3⟩:=z4a cs h k1;exact⟨a1,a2,λρ' ha=>by simp only[VR];exact⟨y,rfl,a3 ρ' ha⟩⟩
   rw[Qbs e]at h;cases h
 |.dp k off,c,v,M,M',x,h,hv=>by
  show zg3 D ρ lv n M M' (.dp k x.1 off) v
  cases c <;> first|(cases h;done)|skip
  case dp s i off'=>
   replace h:(if off=off' then (match z4s n k s M with|some M=>FR.ok (M,((i,()):HL D.T [.int .i64]))|none=>.bad)else .bad) = .ok (M',x):=h;by_cases e:off=off';rw[Qbr e]at h;subst e
   cases hb:z4s n k s M with
   |none=>rw[hb]at h;cases h
   |some M1=>
    rw[hb]at h;cases h;obtain⟨h1,h2,h3⟩:=z2h hb;refine⟨h1,h3,λρ' ha =>?_⟩;obtain⟨sl,e1,e2⟩:=ha k _ h2;simp only[Src.is]at e2;simp only[VR]at hv;obtain⟨sl',j,ver,m,e3,e4⟩:=hv
    rw[e2]at e3;injection e3 with e3;subst e3
    show VR D ρ' lv (.dp k i off) v;simp only[VR];exact⟨sl,j,ver,m,e1,e4⟩
   rw[Qbs e]at h;cases h
 |.ap k t off,c,v,M,M',x,h,hv=>by
  show zg3 D ρ lv n M M' (.ap k t x.1 x.2.1 off) v
  cases c <;> first|(cases h;done)|skip
  case ap s t' i y off'=>
   replace h:(if off=off' then (match zi5 t' t y with|some y=>(match z4s n k s M with|some M=>FR.ok (M,((i,(y,())):HL D.T [.int .i64,t]))|none=>.bad)|none=>.bad)else .bad) = .ok (M',x):=h;by_cases e:off=off'
   ·rw[Qbr e]at h;subst e
    cases hc:zi5 t' t y with
    |none=>rw[hc]at h;cases h
    |some z=>
    rw[hc]at h;obtain⟨et,ez⟩:=y79 hc;subst et;replace ez:z=y:=ez;subst ez;replace h:(match z4s n k s M with|some M=>FR.ok (M,((i,(z,())):HL D.T [.int .i64,t']))|none=>.bad) = .ok (M',x):=h
    cases hb:z4s n k s M with
    |none=>rw[hb]at h;cases h
    |some M1=>
     rw[hb]at h;cases h;obtain⟨h1,h2,h3⟩:=z2h hb;refine⟨h1,h3,λρ' ha =>?_⟩;obtain⟨sl,e1,e2⟩:=ha k _ h2;simp only[Src.is]at e2;simp only[VR]at hv;obtain⟨sl',w,e3,e4⟩:=hv
     rw[e2]at e3;injection e3 with e3;subst e3
     show VR D ρ' lv (.ap k t' i z off) v;simp only[VR];exact⟨sl,w,e1,e4⟩
   rw[Qbs e]at h;cases h
theorem z4a{n:Nat}:∀(l:List Sh) {cs:List (TV D.T)}{vs:List V}{M M':yzw D.T}{x:HL D.T (Sh.kzs l)},zez D n l cs M = .ok (M',x)->VRL D ρ lv cs vs->FitL D ρ lv n M M' (yzu D (λk=>k) l x) vs
 |[],cs,vs,M,M',x,h,hv=>by
  cases cs with
  |nil=>cases h;exact⟨λ_ _ h=>h,λh=>h,λρ' _=>(by simpa only[VRL]using hv:VRL D ρ' lv [] vs)⟩
  |cons c cs=>cases h
 |sh::l,cs,vs,M,M',x,h,hv=>by
  cases cs with
  |nil=>cases h
  |cons c cs=>
   simp only[VRL]at hv;obtain⟨v,r,rfl,k1,k2⟩:=hv;rw[y2i]at h;split at h;rename_i M1 y hy;split at h;rename_i M2 z hz;cases h;obtain⟨a1,a2,a3⟩:=z94 sh hy k1;obtain⟨b1,b2,b3⟩:=z4a l hz k2;refine⟨λj src hj=>b1 j src (a1 j src hj),λh=>b2 (a2 h),λρ' ha =>?_⟩;rw[y16];simp only[VRL];exact⟨v,r,rfl,a3 ρ' (b1.agr ha),b3 ρ' ha⟩;cases h;cases h;cases h;cases h
end
theorem zy3{n:Nat}(hR:TRr D F ρ ts σ){o:OSh}{src:Src D.T}{M M':yzw D.T}{x:HL D.T o.tys}(h:zjd D n ts o src M = .ok (M',x)) :
  znf M M'∧(MOk n M->MOk n M')∧(∀s,src = .slot s->∃o',fnd ts.o s=some o'∧o'.live)∧∀ρ' sl,Agr ρ M' ρ'->src.is ρ sl->OR D ρ' F.lv σ.H.L sl (z7n D (λk=>k) o x):=by
 cases o with
 |cells cs=>
  cases src with
  |nil=>cases h
  |slot s=>
   simp only[zjd]at h
   cases ho:fnd ts.o s with
   |none=>rw[ho]at h;cases h
   |some o'=>
    rw[ho]at h
    cases o' <;> first|(cases h;done)|skip
    rename_i vs;obtain⟨sl',k1,k2⟩:=hR.ob s _ ho;simp only[OR]at k2;obtain⟨i,us,q1,q2,q3⟩:=k2;obtain⟨a1,a2,a3⟩:=z4a hD cs h q3;refine⟨a1,a2,λs' e=>by injection e with e;subst e;exact⟨_,ho,trivial⟩,λρ' sl ha hs =>?_⟩;simp only[Src.is]at hs
    rw[k1]at hs;injection hs with hs;subst hs
    simp only[z7n,OR]
    exact⟨i,us,q1,q2,a3 ρ' ha⟩
 |st i=>
  cases src with
  |nil=>cases h
  |slot s=>
   simp only[zjd]at h
   cases ho:fnd ts.o s with
   |none=>rw[ho]at h;cases h
   |some o'=>
    rw[ho]at h
    cases o' <;> first|(cases h;done)|skip
    rename_i vs;replace h:(match z2i D (D.fl i) vs with| .ok x=>FR.ok (M,(D.make i x,()))| .frz s=>.frz s| .bad=>.bad) = .ok (M',x):=h;obtain⟨sl',k1,k2⟩:=hR.ob s _ ho;simp only[OR]at k2;obtain⟨i',us,q1,q2,q3⟩:=k2
    cases hl:z2i D (D.fl i) vs with
    |frz s=>rw[hl]at h;cases h
    |bad=>rw[hl]at h;cases h
    |ok y=>
     rw[hl]at h;cases h;refine⟨λ_ _ h=>h,λh=>h,λs' e=>by injection e with e;subst e;exact⟨_,ho,trivial⟩,λρ' sl ha hs =>?_⟩;simp only[Src.is]at hs
     rw[k1]at hs;injection hs with hs;subst hs
     obtain⟨m1,m2⟩:=z96 hl q3;show OR D ρ' F.lv σ.H.L sl' (.cells (D.leaves (D.fl i) (D.get i (D.make i y))));rw[hD.getMake];simp only[OR];refine⟨i',us,q1,q2,.of (by rw[z2s,m1]) λj c v hc hv =>?_⟩;rw[z5g,Qaf]at hc;obtain⟨p,hp,rfl⟩:=hc
     exact VR.leaf (m2 j p v hp hv)
 |acc ty t w=>
  cases src with
  |nil=>
   cases h;refine⟨λ_ _ h=>h,λh=>h,λs e=>(by cases e),λρ' sl ha hs =>?_⟩;simp only[Src.is]at hs;subst hs;show OR D ρ' F.lv σ.H.L z9j (.acc ty t [] w);simp only[OR,z9j]
   exact⟨rfl,λj x v hx=>by simp at hx,.inl ⟨trivial,trivial⟩⟩
  |slot s=>
   simp only[zjd]at h
   cases ho:fnd ts.o s with
   |none=>rw[ho]at h;cases h
   |some o'=>
    rw[ho]at h
    cases o' <;> first|(cases h;done)|skip
    rename_i ty' t' xs w';replace h:(if ty=ty'∧(w=true->w'=true)then (match z3v t' t xs with|some xs=>FR.ok (M,(xs,()))|none=>.bad)else .bad) = .ok (M',x):=h;by_cases hc:ty=ty'∧(w=true->w'=true);rw[Qbr hc]at h
    cases hys:z3v t' t xs with
    |none=>rw[hys]at h;cases h
    |some ys=>
     rw[hys]at h;obtain⟨e1,e2⟩:=z13 hys;subst e1;replace e2:ys=xs:=e2;subst e2;cases h;obtain⟨sl',k1,k2⟩:=hR.ob s _ ho;refine⟨λ_ _ h=>h,λh=>h,λs' e=>by injection e with e;subst e;exact⟨_,ho,trivial⟩,λρ' sl ha hs =>?_⟩;simp only[Src.is]at hs
     rw[k1]at hs;injection hs with hs;subst hs
     obtain⟨hty,hw⟩:=hc;subst hty;simp only[OR]at k2;obtain⟨q1,q2,q3⟩:=k2;show OR D ρ' F.lv σ.H.L sl' (.acc ty t' ys w);simp only[OR];refine⟨q1,q2,?_⟩
     cases hk:sl'.k with
     |none=>
      rw[hk]at q3
      rcases q3 with q|⟨q,q'⟩
      exact .inl q
      exact .inr ⟨q,λe=>q' (hw e)⟩
     |some i=>rw[hk]at q3;exact q3
    rw[Qbs hc]at h;cases h
 |rig=>
  cases src with
  |nil=>cases h
  |slot s=>
   simp only[zjd]at h
   cases ho:fnd ts.o s with
   |none=>rw[ho]at h;cases h
   |some o'=>
    rw[ho]at h
    cases o' <;> first|(cases h;done)|skip
    cases h;obtain⟨sl',k1,k2⟩:=hR.ob s _ ho;refine⟨λ_ _ h=>h,λh=>h,λs' e=>by injection e with e;subst e;exact⟨_,ho,trivial⟩,λρ' sl ha hs =>?_⟩;simp only[Src.is]at hs
    rw[k1]at hs;injection hs with hs;subst hs
    exact k2
 |siter=>
  cases src with
  |nil=>cases h
  |slot s=>
   simp only[zjd]at h
   cases ho:fnd ts.o s with
   |none=>rw[ho]at h;cases h
   |some o'=>
    rw[ho]at h
    cases o' <;> first|(cases h;done)|skip
    rename_i l pos;cases h;obtain⟨sl',k1,k2⟩:=hR.ob s _ ho;refine⟨λ_ _ h=>h,λh=>h,λs' e=>by injection e with e;subst e;exact⟨_,ho,trivial⟩,λρ' sl ha hs =>?_⟩;simp only[Src.is]at hs
    rw[k1]at hs;injection hs with hs;subst hs
    exact k2
 |mp ty t=>
  cases src with
  |nil=>cases h
  |slot s=>
   simp only[zjd]at h
   cases ho:fnd ts.o s with
   |none=>rw[ho]at h;cases h
   |some o'=>
    rw[ho]at h
    cases o' <;> first|(cases h;done)|skip
    rename_i ty' t' es;replace h:(if ty=ty' then (match zdb t' t es with|some es=>FR.ok (M,(List.map Prod.fst es,(List.map Prod.snd es,())))|none=>.bad)else .bad) = .ok (M',x):=h;by_cases hc:ty=ty';rw[Qbr hc]at h
    cases hys:zdb t' t es with
    |none=>rw[hys]at h;cases h
    |some ys=>
     rw[hys]at h;obtain⟨e1,e2⟩:=zgn hys;subst e1;replace e2:ys=es:=e2;subst e2;cases h;obtain⟨sl',k1,k2⟩:=hR.ob s _ ho;refine⟨λ_ _ h=>h,λh=>h,λs' e=>by injection e with e;subst e;exact⟨_,ho,trivial⟩,λρ' sl ha hs =>?_⟩;simp only[Src.is]at hs
     rw[k1]at hs;injection hs with hs;subst hs
     subst hc;show OR D ρ' F.lv σ.H.L sl' (.mp ty t' (List.zip (List.map Prod.fst ys) (List.map Prod.snd ys)));rw[show List.zip (List.map Prod.fst ys) (List.map Prod.snd ys)=ys from zhf ys];exact k2
    rw[Qbs hc]at h;cases h
 |mit t=>
  cases src with
  |nil=>cases h
  |slot s=>
   simp only[zjd]at h
   cases ho:fnd ts.o s with
   |none=>rw[ho]at h;cases h
   |some o'=>
    rw[ho]at h
    cases o' <;> first|(cases h;done)|skip
    rename_i t' last es;replace h:(match zdb t' t es with|some es=>FR.ok (M,(List.map Prod.fst es,(List.map Prod.snd es,())))|none=>.bad) = .ok (M',x):=h
    cases hys:zdb t' t es with
    |none=>rw[hys]at h;cases h
    |some ys=>
     rw[hys]at h;obtain⟨e1,e2⟩:=zgn hys;subst e1;replace e2:ys=es:=e2;subst e2;cases h;obtain⟨sl',k1,k2⟩:=hR.ob s _ ho;refine⟨λ_ _ h=>h,λh=>h,λs' e=>by injection e with e;subst e;exact⟨_,ho,trivial⟩,λρ' sl ha hs =>?_⟩;simp only[Src.is]at hs
     rw[k1]at hs;injection hs with hs;subst hs
     show OR D ρ' F.lv σ.H.L sl' (.mit t' none (List.zip (List.map Prod.fst ys) (List.map Prod.snd ys)));rw[show List.zip (List.map Prod.fst ys) (List.map Prod.snd ys)=ys from zhf ys];simp only[OR]at k2 ⊢;obtain⟨i,fs,vis,q1,q2,q3,q4,q5,_⟩:=k2
     exact⟨i,fs,vis,q1,q2,q3,q4,q5,λp hp=>by cases hp⟩
 |bld ty k=>
  cases src with
  |nil=>cases h
  |slot s=>
   simp only[zjd]at h
   cases ho:fnd ts.o s with
   |none=>rw[ho]at h;cases h
   |some o'=>
    rw[ho]at h
    cases o' <;> first|(cases h;done)|skip
    rename_i ty' b;replace h:(if ty=ty' then (match b with|some q=>frU (z4s n k q M)|none=>frU (ztn n k M))else .bad) = .ok (M',x):=h;by_cases hty:ty=ty';rw[Qbr hty]at h;subst hty;obtain⟨sl',k1,k2⟩:=hR.ob s _ ho;simp only[OR]at k2;obtain⟨i,u,c,q1,q2,q3,q4⟩:=k2
    cases b with
    |some q=>
     obtain⟨h1,h2,h3⟩:=z2h (zga h);refine⟨h1,h3,λs' e=>by injection e with e;subst e;exact⟨_,ho,trivial⟩,λρ' sl ha hs =>?_⟩;simp only[Src.is]at hs
     rw[k1]at hs;injection hs with hs;subst hs
     obtain⟨sq,e1,e2⟩:=ha k _ h2;simp only[Src.is]at e2;simp only[zsf,VR]at q4;obtain⟨sq',e3,e4,e5⟩:=q4
     rw[e2]at e3;injection e3 with e3;subst e3
     simp only[z7n,OR]
     exact⟨i,u,c,q1,q2,q3,by simp only[zsf,VR];exact⟨sq,e1,e4,e5⟩⟩
    |none=>
     obtain⟨h1,h2,h3⟩:=zkc (zga h);refine⟨h1,h3,λs' e=>by injection e with e;subst e;exact⟨_,ho,trivial⟩,λρ' sl ha hs =>?_⟩;simp only[Src.is]at hs
     rw[k1]at hs;injection hs with hs;subst hs
     obtain⟨sq,e1,e2⟩:=ha k _ h2;simp only[Src.is]at e2;subst e2;simp only[zsf,VR]at q4;subst q4;simp only[z7n,OR];exact⟨i,u,_,q1,q2,q3,by simp only[zsf,VR];exact⟨z9j,e1,rfl,rfl⟩⟩
    rw[Qbs hty]at h;cases h
 |deep ty q=>
  cases src with
  |nil=>
   cases h;refine⟨λ_ _ h=>h,λh=>h,λs e=>(by cases e),λρ' sl ha hs =>?_⟩;simp only[Src.is]at hs;subst hs;show OR D ρ' F.lv σ.H.L z9j (.deep ty q [] none);simp only[OR,z9j]
   exact⟨rfl,trivial,.inl trivial,trivial,trivial⟩
  |slot s=>
   simp only[zjd]at h
   cases ho:fnd ts.o s with
   |none=>rw[ho]at h;cases h
   |some o'=>
    rw[ho]at h
    cases o' <;> first|(cases h;done)|skip
    rename_i ty' q' xs h';replace h:(if ty=ty' then (match h' with|none=>(match z3v (.st q') (.st q) xs with|some xs=>FR.ok (M,((xs,()):HL D.T [.sl (.st q)]))|none=>.bad)|some _=>.frz s)else .bad) = .ok (M',x):=h;by_cases hc:ty=ty'
    ·rw[Qbr hc]at h;subst hc
     cases h' with
     |some p=>cases h
     |none=>
     replace h:(match z3v (.st q') (.st q) xs with|some xs=>FR.ok (M,((xs,()):HL D.T [.sl (.st q)]))|none=>.bad) = .ok (M',x):=h
     cases hys:z3v (.st q') (.st q) xs with
     |none=>rw[hys]at h;cases h
     |some ys=>
      rw[hys]at h;obtain⟨e1,e2⟩:=z13 hys;injection e1 with e1;subst e1;replace e2:ys=xs:=e2;subst e2;cases h;obtain⟨sl',k1,k2⟩:=hR.ob s _ ho;refine⟨λ_ _ h=>h,λh=>h,λs' e=>by injection e with e;subst e;exact⟨_,ho,trivial⟩,λρ' sl ha hs =>?_⟩;simp only[Src.is]at hs
      rw[k1]at hs;injection hs with hs;subst hs
      show OR D ρ' F.lv σ.H.L sl' (.deep ty q' ys none);simp only[OR]at k2 ⊢;refine⟨k2.1,?_⟩;have k3:=k2.2
      cases hk:sl'.k with
      |none=>rw[hk]at k3;exact k3
      |some j=>
       rw[hk]at k3;obtain⟨ver,cp,fps,q1,q2,q3,q4,q5,q6,q7⟩:=k3;exact⟨ver,cp,fps,q1,q2,q3,q4,q5,λn x w c a b d=>(q6 n x w c a b d).y8w,q7⟩
    rw[Qbs hc]at h;cases h
 |deeph ty q f k=>
  cases src with
  |nil=>cases h
  |slot s=>
   simp only[zjd]at h
   cases ho:fnd ts.o s with
   |none=>rw[ho]at h;cases h
   |some o'=>
    rw[ho]at h
    cases o' <;> first|(cases h;done)|skip
    rename_i ty' q' xs h';replace h:(if ty=ty' then (match h' with|some p=>if f=p.2.1 then (match z3v (.st q') (.st q) xs with|some xs=>(match z4s n k p.2.2 M with|some M=>FR.ok (M,((xs,(p.1,())):HL D.T [.sl (.st q),.int .i64]))|none=>.bad)|none=>.bad)else .bad|none=>.bad)else .bad) = .ok (M',x):=h;by_cases hc:ty=ty'
    ·rw[Qbr hc]at h;subst hc
     cases h' with
     |none=>cases h
     |some p=>
     obtain⟨i,f',c⟩:=p;replace h:(if f=f' then (match z3v (.st q') (.st q) xs with|some xs=>(match z4s n k c M with|some M=>FR.ok (M,((xs,(i,())):HL D.T [.sl (.st q),.int .i64]))|none=>.bad)|none=>.bad)else .bad) = .ok (M',x):=h;by_cases hf:f=f';rw[Qbr hf]at h;subst hf
     cases hys:z3v (.st q') (.st q) xs with
     |none=>rw[hys]at h;cases h
     |some ys=>
      rw[hys]at h;obtain⟨e1,e2⟩:=z13 hys;injection e1 with e1;subst e1;replace e2:ys=xs:=e2;subst e2;replace h:(match z4s n k c M with|some M=>FR.ok (M,((ys,(i,())):HL D.T [.sl (.st q'),.int .i64]))|none=>.bad) = .ok (M',x):=h
      cases hb:z4s n k c M with
      |none=>rw[hb]at h;cases h
      |some M1=>
      rw[hb]at h;cases h;obtain⟨h1,h2,h3⟩:=z2h hb;obtain⟨sl',k1,k2⟩:=hR.ob s _ ho;refine⟨h1,h3,λs' e=>by injection e with e;subst e;exact⟨_,ho,trivial⟩,λρ' sl ha hs =>?_⟩;simp only[Src.is]at hs
      rw[k1]at hs;injection hs with hs;subst hs
      obtain⟨slc,d1,d2⟩:=ha k _ h2;simp only[Src.is]at d2;show OR D ρ' F.lv σ.H.L sl' (.deep ty q' ys (some (i,f,k)));simp only[OR]at k2 ⊢;refine⟨k2.1,?_⟩;have k3:=k2.2
      cases hk:sl'.k with
      |none=>rw[hk]at k3;cases k3.2.2.2
      |some j=>
       rw[hk]at k3;obtain⟨ver,cp,fps,q1,q2,q3,q4,q5,q6,q7⟩:=k3;exact⟨ver,cp,fps,q1,q2,q3,q4,q5,λn x w cc a b d=>(q6 n x w cc a b d).zzq d2 d1,λn' f' s' e=>by injection e with e;injection e with e4 e5;subst e4;exact q7 _ _ _ rfl⟩
     rw[Qbs hf]at h;cases h
    rw[Qbs hc]at h;cases h
omit hD in
theorem zr2{m:Nat->Nat}{o:OSh}{x:HL D.T o.tys}:(z7n D m o x).live:=by cases o <;> trivial
omit hD in
theorem zx6(n:Nat)(o:OSh)(os:List OSh)(k:Nat)(M:yzw D.T):zm5 D n ts (o::os) k M=(match fnd M k with
 |some src=>match zjd D n ts o src M with
  |.ok (M,x)=>match zm5 D n ts os (k+1) M with
   |.ok (M,y)=>.ok (M,HL.app x y)
   |.frz s=>.frz s
   |.bad=>.bad
  |.frz s=>.frz s
  |.bad=>.bad
 |none=>.bad):=rfl
omit hD in
theorem zx1(m:Nat->Nat)(o:OSh)(os:List OSh)(k:Nat)(x:HL D.T o.tys)(y:HL D.T (zzl os)):z0c D m (o::os) k (HL.app x y)=(m k,z7n D m o x)::z0c D m os (k+1) y:=by
 show(m k,z7n D m o (HL.fst _ (HL.app x y)))::z0c D m os (k+1) (HL.snd _ (HL.app x y))=_;rw[HL.z9u,HL.z9y]
theorem z9m{n:Nat}(hR:TRr D F ρ ts σ):∀(os:List OSh) {k:Nat}{M M':yzw D.T}{x:HL D.T (zzl os)},zm5 D n ts os k M = .ok (M',x) ->
  znf M M'∧(MOk n M->MOk n M')∧(∀j,j<os.length->∃src,fnd M' (k+j)=some src∧∀s,src = .slot s->∃o',fnd ts.o s=some o'∧o'.live) ∧
  (∀ρ',Agr ρ M' ρ'->∀j o,(j,o)∈z0c D (λk=>k) os k x->k<=j∧j<k+os.length∧o.live∧∃sl,ρ'[j]? = some sl∧OR D ρ' F.lv σ.H.L sl o)
 |[],k,M,M',x,h=>by
  cases h
  exact⟨λ_ _ h=>h,λh=>h,λj hj=>by simp at hj,λρ' _ j o hm=>by cases hm⟩
 |o::os,k,M,M',x,h=>by
  rw[zx6]at h;split at h;rename_i src hsrc;split at h;rename_i M1 y hy;split at h;rename_i M2 z hz;cases h;obtain⟨a1,a2,a3,a4⟩:=zy3 hD hR hy;obtain⟨b1,b2,b3,b4⟩:=z9m hR os hz;refine⟨λj s hj=>b1 j s (a1 j s hj),λh=>b2 (a2 h),λj hj =>?_,λρ' ha j o' hm =>?_⟩
  cases j with
  |zero=>exact⟨src,b1 _ _ (a1 _ _ hsrc),a3⟩
  |succ j=>
   obtain⟨src',e1,e2⟩:=b3 j (by simpa using hj);exact⟨src',by rw[<-e1];congr 1;omega,e2⟩
  rw[zx1]at hm
  rcases Qbi.1 hm with hm|hm
  injection hm with h1 h2;subst h1;subst h2;obtain⟨sl,e1,e2⟩:=ha j src (b1 _ _ (a1 _ _ hsrc));exact⟨Qbq _,by simp,zr2,sl,e1,a4 ρ' sl (b1.agr ha) e2⟩;obtain⟨e1,e2,e3⟩:=b4 ρ' ha j o' hm;exact⟨by omega,by simp only[List.length_cons];omega,e3⟩;cases h;cases h;cases h;cases h;cases h
omit hD in
theorem zwy(n:Nat)(p:Nat×Sh)(l:List (Nat×Sh))(M:yzw D.T):zw6 D n ts (p::l) M=(match fnd ts.t p.1 with
 |some v=>match zkh D n p.2 v M with
  |.ok (M,x)=>match zw6 D n ts l M with
   |.ok (M,y)=>.ok (M,HL.app x y)
   |.frz s=>.frz s
   |.bad=>.bad
  |.frz s=>.frz s
  |.bad=>.bad
 |none=>.bad):=rfl
omit hD in
theorem y1m(m:Nat->Nat)(p:Nat×Sh)(l:List (Nat×Sh))(x:HL D.T p.2.tys)(y:HL D.T (y1y l)):zuo D m (p::l) (HL.app x y)=(p.1,z7q D m p.2 x)::zuo D m l y:=by
 show(p.1,z7q D m p.2 (HL.fst _ (HL.app x y)))::zuo D m l (HL.snd _ (HL.app x y))=_;rw[HL.z9u,HL.z9y]
theorem zju{n:Nat}(hR:TRr D F ρ ts σ):∀(l:List (Nat×Sh)) {M M':yzw D.T}{x:HL D.T (y1y l)},zw6 D n ts l M = .ok (M',x) ->
  znf M M'∧(MOk n M->MOk n M')∧∀ρ',Agr ρ M' ρ'->∀j c,(j,c)∈zuo D (λk=>k) l x->∃v,σ.t[j]? = some v∧VR D ρ' F.lv c v
 |[],M,M',x,h=>by
  cases h
  exact⟨λ_ _ h=>h,λh=>h,λρ' _ j o hm=>by cases hm⟩
 |p::l,M,M',x,h=>by
  rw[zwy]at h;split at h;rename_i c hc;split at h;rename_i M1 y hy;split at h;rename_i M2 z hz;cases h;obtain⟨v,k1,k2⟩:=hR.tm _ _ hc;obtain⟨a1,a2,a3⟩:=z94 hD p.2 hy k2;obtain⟨b1,b2,b3⟩:=zju hR l hz;refine⟨λj s hj=>b1 j s (a1 j s hj),λh=>b2 (a2 h),λρ' ha j c' hm =>?_⟩;rw[y1m]at hm
  rcases Qbi.1 hm with hm|hm
  injection hm with h1 h2;subst h1;subst h2;exact⟨v,k1,a3 ρ' (b1.agr ha)⟩;exact b3 ρ' ha j c' hm;cases h;cases h;cases h;cases h;cases h
omit hD in
theorem zx5(hR:TRr D F ρ ts σ){M:yzw D.T}{n:Nat}(hM:MOk n M)(hall:∀j,j<n->∃src,fnd M j=some src∧∀s,src = .slot s->∃o',fnd ts.o s=some o'∧o'.live) :
  ∃ρ':List Slot,ρ'.length=n∧Agr ρ M ρ'∧∀j sl,ρ'[j]? = some sl->∃src,fnd M j=some src∧src.is ρ sl:=by
 have step:∀m,m<=n->∃ρ':List Slot,ρ'.length=m∧∀j,j<m->∃sl src,ρ'[j]? = some sl∧fnd M j=some src∧src.is ρ sl:=λm=>by
  induction m with
  |zero=>exact λ_=>⟨[],rfl,λj hj=>by omega⟩
  |succ m ih=>
   intro hm;obtain⟨ρ',h1,h2⟩:=ih (by omega);obtain⟨src,k1,k2⟩:=hall m (by omega)
   have hsl:∃sl,src.is ρ sl:=by
    cases src with
    |nil=>exact⟨z9j,rfl⟩
    |slot s=>
     obtain⟨o',e1,_⟩:=k2 s rfl;obtain⟨sl,e2,_⟩:=hR.ob s o' e1;exact⟨sl,e2⟩
   obtain⟨sl,hsl⟩:=hsl;refine⟨ρ'++[sl],by simp[h1],λj hj =>?_⟩;by_cases e:j=m;subst e;exact⟨sl,src,by rw[<-h1];simp,k1,hsl⟩;obtain⟨sl',src',e1,e2,e3⟩:=h2 j (by omega);exact⟨sl',src',lookup_append e1,e2,e3⟩
 obtain⟨ρ',h1,h2⟩:=step n (Qbq _);refine⟨ρ',h1,λk src hk =>?_,λj sl hj =>?_⟩;obtain⟨sl,src',e1,e2,e3⟩:=h2 k (hM.lt k src hk)
 rw[hk]at e2;injection e2 with e2;subst e2
 exact⟨sl,e1,e3⟩;obtain⟨sl',src',e1,e2,e3⟩:=h2 j (by rw[<-h1];exact(Qaa.1 hj).1)
 rw[hj]at e1;injection e1 with e1;subst e1
 exact⟨src',e2,e3⟩
omit hD in
theorem z7f:∀{n k:Nat}{src:Src T},fnd (pins n) k=some src->k<n∧src = .slot k
 |0,k,src,h=>by simp[pins,fnd]at h
 |n+1,k,src,h=>by
  simp only[pins,yz6]at h;split at h
  rename_i e;injection h with h;subst e;exact⟨by omega,h.symm⟩
  obtain⟨h1,h2⟩:=z7f h;exact⟨by omega,h2⟩
omit hD in
theorem zjb:∀{n k:Nat},k<n->fnd (pins (T:=T) n) k=some (.slot k)
 |0,k,h=>by omega
 |n+1,k,h=>by
  simp only[pins,yz6];split;rename_i e;rw[e];exact zjb (by omega)
omit hD in
theorem zm4:∀{n k:Nat}{src:Src T},(k,src)∈pins (T:=T) n->fnd (pins n) k=some src
 |0,k,src,h=>by cases h
 |n+1,k,src,h=>by
  simp only[pins,yz6]
  rcases Qbi.1 h with h|h
  injection h with h1 h2;subst h1;subst h2;rw[Qbr rfl];have:=zm4 h;split;rename_i e;subst e;have:=(z7f this).1;omega;exact this
omit hD in
theorem zo6{n:Nat}:∀{gs:List Nat}{g:List (Option Nat)}{M M':yzw T},zwv n gs g M=some M'->znf M M'∧(MOk n M->MOk n M')∧∀(i k:Nat),gs[i]? = some k->∃s:Nat,g[i]? = some (some s)∧fnd M' k=some (.slot s)
 |[],[],M,M',h=>by
  injection h with h;subst h
  exact⟨λ_ _ h=>h,λh=>h,λi k hk=>by simp at hk⟩
 |[],_::_,M,M',h=>by simp[zwv]at h
 |k::ks,[],M,M',h=>by simp[zwv]at h
 |k::ks,none::ss,M,M',h=>by simp[zwv]at h
 |k::ks,some s::ss,M,M',h=>by
  simp only[zwv]at h;split at h;rename_i M1 hM1;obtain⟨a1,a2,a3⟩:=z2h hM1;obtain⟨b1,b2,b3⟩:=zo6 h;refine⟨λj src hj=>b1 j src (a1 j src hj),λh=>b2 (a3 h),λi k' hk =>?_⟩
  cases i with
  |zero=>simp at hk;subst hk;exact⟨s,rfl,b1 _ _ a2⟩
  |succ i=>exact b3 i k' (by simpa using hk)
  cases h
theorem LSh.z8p(hR:TRr D F ρ ts σ){l:LSh}{x:HL D.T l.tys}(hp:F.pin.length<=l.pin)(hp2:l.pin<=l.os.length)(h:l.fit D ts = .ok x):∃ρ',TRr D F ρ' (l.bld D x) σ:=by
 unfold LSh.fit at h;by_cases hnt0:ts.nt=l.nt∧ts.d.isEmpty=true
 rotate_left
 rw[Qbs hnt0]at h;cases h;rw[Qbr hnt0]at h;obtain⟨hnt,hde⟩:=hnt0;have hde:ts.d=[]:=by simpa using hde
 split at h
 ·rename_i M y hy;split at h
  case h_2=>cases h
  rename_i Mg hMg;obtain⟨c1g,c2g,c3g⟩:=zo6 hMg;split at h
  ·rename_i M' z hz;cases h;obtain⟨a1',a2',a3⟩:=zju hD hR l.ts hy;have a1:znf (pins l.pin) Mg:=λj src hj=>c1g j src (a1' j src hj)
   have a2:MOk l.os.length (pins l.pin)->MOk l.os.length Mg:=λh=>c2g (a2' h)
   obtain⟨b1,b2,b3,b4⟩:=z9m hD hR l.os hz;have hM:MOk l.os.length M':=b2 (a2 ⟨λk src h=>by have:=(z7f h).1;omega,λk k' s h h'=>by have e:=(z7f h).2;have e':=(z7f h').2;injection e with e;injection e' with e';omega,λk src hm=>zm4 hm⟩);obtain⟨ρ',c1,c2,c3⟩:=zx5 hR hM λj hj=>by simpa using b3 j hj
   have hb:l.bld D (HL.app y z)=⟨zuo D (λk=>k) l.ts y,z0c D (λk=>k) l.os 0 z,l.os.length,l.nt,[],l.gs.map some⟩:=by
    show(⟨zuo D (λk=>k) l.ts (HL.fst _ (HL.app y z)),z0c D (λk=>k) l.os 0 (HL.snd _ (HL.app y z)),l.os.length,l.nt,[],l.gs.map some⟩:TS D.T)=_;rw[HL.z9u,HL.z9y]
   rw[hb]
   have place:∀s sl i,ρ'[s]? = some sl->sl.has i->∃s0 o0,fnd M' s=some (.slot s0)∧fnd ts.o s0=some o0∧o0.live∧ρ[s0]? = some sl:=λs sl i hs hk=>by
    obtain⟨src,e1,e2⟩:=c3 s sl hs
    cases src with
    |nil=>simp only[Src.is]at e2;subst e2;rcases hk with h|h <;> cases h
    |slot s0=>
     obtain⟨src',e3,e4⟩:=b3 s (by rw[<-c1];exact(Qaa.1 hs).1)
     rw[Nat.zero_add,e1]at e3;injection e3 with e3;subst e3
     obtain⟨o0,f1,f2⟩:=e4 s0 rfl;exact⟨s0,o0,e1,f1,f2,e2⟩
   refine⟨ρ',c1,hR.nt.trans hnt,λj c hj=>a3 ρ' (c1g.agr (b1.agr c2)) j c (z1w hj),λs o ho =>?_,λs s' o o' sl sl' i h1 h2 l1 l2 r1 r2 k1 k2 =>?_,λs o sl i h1 l1 r1 k1 =>?_,hR.lv,hR.E,hR.e0,(by have:=hR.d;rw[hde]at this;exact this),hR.out,λj sl hj =>?_,λs o sl i h1 l1 r1 k1=>by
    obtain⟨s0,o0,d1,d2,d3,d4⟩:=place s sl i r1 (.inr k1)
    exact hR.fpl s0 o0 sl i d2 d3 d4 k1,λi s v h1 h2=>by
    rw[Qan,Qaf]at h1;obtain⟨k,hk,e⟩:=h1;injection e with e;subst e;obtain⟨s0,d1,d2⟩:=c3g i k hk;have:=hR.g i s0 v d1 h2;simp only[VR]at this ⊢;obtain⟨sl,f1,f2⟩:=this;obtain⟨sl',f3,f4⟩:=c2 k _ (b1 _ _ d2);simp only[Src.is]at f4
    rw[f1]at f4;injection f4 with f4;subst f4
    exact⟨sl,f3,f2⟩⟩
   rotate_right
   have hlt:=(Qaa.1 hj).1;obtain⟨sl',e1,e2⟩:=c2 j _ (b1 _ _ (a1 _ _ (zjb (n:=l.pin) (k:=j) (by omega))));simp only[Src.is]at e2
   rw[hR.pin j sl hj]at e2;injection e2 with e2;subst e2;exact e1
   obtain⟨_,_,_,sl,e1,e2⟩:=b4 ρ' c2 s o (z1w ho);exact⟨sl,e1,e2⟩;obtain⟨s0,o0,d1,d2,d3,d4⟩:=place s sl i r1 k1;obtain⟨s1,o1,e1,e2,e3,e4⟩:=place s' sl' i r2 k2;have:=hR.inj s0 s1 o0 o1 sl sl' i d2 e2 d3 e3 d4 e4 k1 k2;subst this;exact hM.inj s s' s0 d1 e1;obtain⟨s0,o0,d1,d2,d3,d4⟩:=place s sl i r1 k1;exact hR.mine s0 o0 sl i d2 d3 d4 k1
  cases h;cases h
 cases h;cases h
omit hD in
def TR(D:Dat)(F:Fr)(ts:TS D.T)(σ:St):Prop:=∃τ ρ,zag σ τ∧TRr D F ρ ts τ
omit hD in
theorem TRr.tr(hR:TRr D F ρ ts σ):TR D F ts σ:=⟨σ,ρ,.refl σ,hR⟩
theorem TR.freeze(h:TR D F ts σ){s:Nat}{ts':TS D.T}(hf:ts.freeze D s=some ts'):TR D F ts' σ:=by
 obtain⟨τ,ρ,h1,h2⟩:=h;obtain⟨υ,h3,h4⟩:=zh9 hD h2 hf;exact⟨υ,ρ,h1.trans h3,h4⟩
theorem TR.fold{R:Type}(h:TR D F ts σ){s:Nat}{k:TS D.T->Option R}{r:R}(hf:ts.fold D s k=some r):∃ts',TR D F ts' σ∧k ts'=some r:=by
 obtain⟨τ,ρ,h1,h2⟩:=h;obtain⟨ts',ρ',h3,h4,_⟩:=zlr hD h2 hf;exact⟨ts',⟨τ,ρ',h1,h3⟩,h4⟩
theorem LSh.z1b{R:Type}{l:LSh}(hp:F.pin.length<=l.pin)(hp2:l.pin<=l.os.length){k:HL D.T l.tys->Option R}{r:R}:∀{f:Nat}{ts:TS D.T},TR D F ts σ->LSh.enter D l k f ts=some r->∃x,k x=some r∧TR D F (l.bld D x) σ
 |0,ts,hT,h=>by simp[LSh.enter]at h
 |f+1,ts,hT,h=>by
  simp only[LSh.enter]at h;split at h;rename_i x hx;obtain⟨τ,ρ,h1,h2⟩:=hT;obtain⟨ρ',h3⟩:=LSh.z8p hD h2 hp hp2 hx;exact⟨x,h,τ,ρ',h1,h3⟩;split at h;obtain⟨ts',h1,h2⟩:=hT.fold hD h;exact LSh.z1b hp hp2 h1 h2;split at h;rename_i s _ _ ts' hf;obtain⟨x,h1,h2⟩:=LSh.z1b hp hp2 (hT.freeze hD hf) h;exact⟨x,h1,h2⟩;cases h;cases h
end
section
variable {P : Program} {D : Dat} {F : Fr} {ρ : List Slot} {ts : TS D.T} {σ : St} {lv : Nat} {T : Nat → Type}
theorem VR.z99{ρ':List Slot}{lv':Nat}{t:DTy}{x:t.S D.T}{v:V}(h:VR D ρ lv (D.leaf t x) v):VR D ρ' lv' (D.leaf t x) v:=by
 cases t <;> first|(simp only[Dat.leaf,VR];done)|simpa only[Dat.leaf,VR]using h
theorem VR.data{ρ':List Slot}{lv':Nat}{t:DTy}{x:t.S D.T}{v:V}(hD:D.Ok P)(h:VR D ρ lv (D.tv t x) v):VR D ρ' lv' (D.tv t x) v:=by
 cases t with
 |st i=>
  simp only[Dat.tv,VR]at h ⊢;obtain⟨vs,rfl,h⟩:=h;refine⟨vs,rfl,.of h.length λj c v hc hv =>?_⟩;have:=h.zg7 hc hv;rw[z5g,Qaf]at hc;obtain⟨p,hp,rfl⟩:=hc
  exact VR.z99 this
 |bool=>exact VR.z99 (t:=.bool) h
 |int k=>exact VR.z99 (t:=.int k) h
 |str=>exact VR.z99 (t:=.str) h
 |nat=>exact VR.z99 (t:=.nat) (x:=x) h
 |sl t=>exact VR.z99 (t:=.sl t) h
def Maps(m:Nat->Nat)(ρ ρ':List Slot):Prop:=∀(j:Nat) (sl:Slot),ρ[j]? = some sl->ρ'[m j]? = some sl
variable {m : Nat → Nat} {ρ' : List Slot}
mutual
theorem VR.maps(hm:Maps m ρ ρ')(hD:D.Ok P):∀(sh:Sh) {x:HL D.T sh.tys}{v:V},VR D ρ lv (z7q D (λk=>k) sh x) v->VR D ρ' lv (z7q D m sh x) v
 |.any,x,v,h=>(by simp only[VR]:VR D ρ' lv .any v)
 |.d t,x,v,h=>by
  replace h:VR D ρ lv (D.tv t x.1) v:=h;show VR D ρ' lv (D.tv t x.1) v
  exact VR.data hD h
 |.own k,x,v,h=>by
  replace h:VR D ρ lv (.own k) v:=h;show VR D ρ' lv (.own (m k)) v;simp only[VR]at h ⊢;obtain⟨sl,h1,h2⟩:=h
  exact⟨sl,hm k sl h1,h2⟩
 |.ptr k off,x,v,h=>by
  replace h:VR D ρ lv (.ptr k off) v:=h;show VR D ρ' lv (.ptr (m k) off) v;simp only[VR]at h ⊢;obtain⟨sl,i,h1,h2⟩:=h
  exact⟨sl,i,hm k sl h1,h2⟩
 |.map k,x,v,h=>by
  replace h:VR D ρ lv (.map k) v:=h;show VR D ρ' lv (.map (m k)) v;simp only[VR]at h ⊢;obtain⟨sl,i,h1,h2⟩:=h
  exact⟨sl,i,hm k sl h1,h2⟩
 |.mc t,x,v,h=>by
  replace h:VR D ρ lv (.mc t (List.zip x.1 x.2.1)) v:=h;show VR D ρ' lv (.mc t (List.zip x.1 x.2.1)) v;unfold VR at h ⊢
  exact h
 |.bp k,x,v,h=>by
  replace h:VR D ρ lv (.bp k 0) v:=h;show VR D ρ' lv (.bp (m k) 0) v;simp only[VR]at h ⊢;obtain⟨sl,i,h1,h2⟩:=h
  exact⟨sl,i,hm k sl h1,h2⟩
 |.nilp,x,v,h=>by
  replace h:VR D ρ lv .nilp v:=h;show VR D ρ' lv .nilp v
  simpa only[VR]using h
 |.nilf,x,v,h=>by
  replace h:VR D ρ lv .nilf v:=h;show VR D ρ' lv .nilf v
  simpa only[VR]using h
 |.nili,x,v,h=>by
  replace h:VR D ρ lv .nili v:=h;show VR D ρ' lv .nili v
  simpa only[VR]using h
 |.nils,x,v,h=>by
  replace h:VR D ρ lv .nils v:=h;show VR D ρ' lv .nils v
  simpa only[VR]using h
 |.fn f a b,x,v,h=>by
  replace h:VR D ρ lv (.fn f (yzu D (λk=>k) a (HL.fst _ x)) (yzu D (λk=>k) b (HL.snd _ x))) v:=h;show VR D ρ' lv (.fn f (yzu D m a (HL.fst _ x)) (yzu D m b (HL.snd _ x))) v;simp only[VR]at h ⊢;obtain⟨as,bs,h1,h2,h3⟩:=h
  exact⟨as,bs,h1,VRL.maps hm hD a h2,VRL.maps hm hD b h3⟩
 |.iface t s,x,v,h=>by
  replace h:VR D ρ lv (.iface t (z7q D (λk=>k) s x)) v:=h;show VR D ρ' lv (.iface t (z7q D m s x)) v;simp only[VR]at h ⊢;obtain⟨y,h1,h2⟩:=h
  exact⟨y,h1,VR.maps hm hD s h2⟩
 |.agg cs,x,v,h=>by
  replace h:VR D ρ lv (.agg (yzu D (λk=>k) cs x)) v:=h;show VR D ρ' lv (.agg (yzu D m cs x)) v;simp only[VR]at h ⊢;obtain⟨y,h1,h2⟩:=h
  exact⟨y,h1,VRL.maps hm hD cs h2⟩
 |.tup cs,x,v,h=>by
  replace h:VR D ρ lv (.tup (yzu D (λk=>k) cs x)) v:=h;show VR D ρ' lv (.tup (yzu D m cs x)) v;simp only[VR]at h ⊢;obtain⟨y,h1,h2⟩:=h
  exact⟨y,h1,VRL.maps hm hD cs h2⟩
 |.ref cs off,x,v,h=>by
  replace h:VR D ρ lv (.ref (yzu D (λk=>k) cs x) off) v:=h;show VR D ρ' lv (.ref (yzu D m cs x) off) v;simp only[VR]at h ⊢;obtain⟨y,h1,h2⟩:=h
  exact⟨y,h1,VRL.maps hm hD cs h2⟩
 |.dp k off,x,v,h=>by
  replace h:VR D ρ lv (.dp k x.1 off) v:=h;show VR D ρ' lv (.dp (m k) x.1 off) v;simp only[VR]at h ⊢;obtain⟨sl,j,ver,n,h1,h2⟩:=h
  exact⟨sl,j,ver,n,hm k sl h1,h2⟩
 |.ap k t off,x,v,h=>by
  replace h:VR D ρ lv (.ap k t x.1 x.2.1 off) v:=h;show VR D ρ' lv (.ap (m k) t x.1 x.2.1 off) v;simp only[VR]at h ⊢;obtain⟨sl,w,h1,h2⟩:=h;exact⟨sl,w,hm k sl h1,h2⟩
theorem VRL.maps(hm:Maps m ρ ρ')(hD:D.Ok P):∀(l:List Sh) {x:HL D.T (Sh.kzs l)}{vs:List V},VRL D ρ lv (yzu D (λk=>k) l x) vs->VRL D ρ' lv (yzu D m l x) vs
 |[],x,vs,h=>by
  replace h:VRL D ρ lv [] vs:=h;show VRL D ρ' lv [] vs
  simpa only[VRL]using h
 |sh::l,x,vs,h=>by
  replace h:VRL D ρ lv (z7q D (λk=>k) sh (HL.fst _ x)::yzu D (λk=>k) l (HL.snd _ x)) vs:=h;show VRL D ρ' lv (z7q D m sh (HL.fst _ x)::yzu D m l (HL.snd _ x)) vs;simp only[VRL]at h ⊢;obtain⟨v,r,h1,h2,h3⟩:=h;exact⟨v,r,h1,VR.maps hm hD sh h2,VRL.maps hm hD l h3⟩
end
theorem OR.maps(hm:Maps m ρ ρ')(hD:D.Ok P){L:List (Option yz4)}{sl:Slot}{o:OSh}{x:HL D.T o.tys}(h:OR D ρ lv L sl (z7n D (λk=>k) o x)):OR D ρ' lv L sl (z7n D m o x):=by
 cases o with
 |cells cs=>
  simp only[z7n,OR]at h ⊢;obtain⟨i,vs,h1,h2,h3⟩:=h
  exact⟨i,vs,h1,h2,VRL.maps hm hD cs h3⟩
 |st i=>
  simp only[z7n,OR]at h ⊢;obtain⟨j,vs,h1,h2,h3⟩:=h;refine⟨j,vs,h1,h2,.of h3.length λk c v hc hv =>?_⟩;have:=h3.zg7 hc hv;rw[z5g,Qaf]at hc;obtain⟨p,hp,rfl⟩:=hc
  exact VR.z99 this
 |acc ty t w=>exact h
 |siter=>exact h
 |rig=>exact h
 |mp ty t=>exact h
 |mit t=>exact h
 |bld ty k=>
  simp only[z7n,OR]at h ⊢;obtain⟨i,u,c,h1,h2,h3,h4⟩:=h;refine⟨i,u,c,h1,h2,h3,?_⟩;simp only[zsf,VR]at h4 ⊢;obtain⟨sl,k1,k2⟩:=h4
  exact⟨sl,hm k sl k1,k2⟩
 |deep ty q=>
  replace h:OR D ρ lv L sl (.deep ty q x.1 none):=h;show OR D ρ' lv L sl (.deep ty q x.1 none);simp only[OR]at h ⊢;refine⟨h.1,?_⟩;have k3:=h.2
  cases hk:sl.k with
  |none=>rw[hk]at k3;exact k3
  |some j=>rw[hk]at k3;exact k3
 |deeph ty q f k=>
  replace h:OR D ρ lv L sl (.deep ty q x.1 (some (x.2.1,f,k))):=h;show OR D ρ' lv L sl (.deep ty q x.1 (some (x.2.1,f,m k)));simp only[OR]at h ⊢;refine⟨h.1,?_⟩;have k3:=h.2
  cases hk:sl.k with
  |none=>rw[hk]at k3;cases k3.2.2.2
  |some j=>
   rw[hk]at k3;obtain⟨ver,cp,fps,q1,q2,q3,q4,q5,q6,q7⟩:=k3;refine⟨ver,cp,fps,q1,q2,q3,q4,q5,λn x' w c a b d =>?_,λn' f' s' e=>by injection e with e;injection e with e4 e5;subst e4;exact q7 _ _ _ rfl⟩;obtain⟨vs,cs,a1,a2,a3,a4,a5⟩:=q6 n x' w c a b d;refine⟨vs,cs,a1,a2,a3,a4,λf' p u b e1 e2 e3 =>?_⟩;have:=a5 f' p u b e1 e2 e3;by_cases hc:x.2.1.toNat=n∧f=f';simp only[yzq,Qbr hc]at this ⊢
   obtain⟨g1,g2,g3,sl',g4,g5⟩:=this;exact⟨g1,g2,g3,sl',hm _ _ g4,g5⟩;simp only[yzq,Qbs hc]at this ⊢;exact this
theorem zd4:∀(os:List OSh) {k:Nat}{x:HL D.T (zzl os)}{s:Nat}{o:TO D.T},(s,o)∈z0c D m os k x->∃j,k<=j∧j<k+os.length∧s=m j∧∃(osh:OSh) (y:HL D.T osh.tys),o=z7n D m osh y∧(j,z7n D (λk=>k) osh y)∈z0c D (λk=>k) os k x
 |[],k,x,s,o,h=>by cases h
 |osh::os,k,x,s,o,h=>by
  replace h:(s,o)∈(m k,z7n D m osh (HL.fst _ x))::z0c D m os (k+1) (HL.snd _ x):=h
  rcases Qbi.1 h with h|h
  injection h with h1 h2;exact⟨k,Qbq _,by simp,h1,osh,HL.fst _ x,h2,Qak⟩;obtain⟨j,h1,h2,h3,osh',y,h4,h5⟩:=zd4 os h;exact⟨j,by omega,by simp only[List.length_cons];omega,h3,osh',y,h4,Qai _ h5⟩
theorem zdt:∀{M:yzw D.T}{s:Nat}{o:TO D.T},fnd (z78 D M) s=some o->o = .gone∧∃k,(k,Src.slot s)∈M
 |[],s,o,h=>by simp[z78,fnd]at h
 |(k,.slot s')::M,s,o,h=>by
  simp only[z78,yz6]at h;split at h
  rename_i e;injection h with h;subst e;exact⟨h.symm,k,Qak⟩
  obtain⟨h1,k',h2⟩:=zdt h;exact⟨h1,k',Qai _ h2⟩
 |(k,.nil)::M,s,o,h=>by
  simp only[z78]at h;obtain⟨h1,k',h2⟩:=zdt h;exact⟨h1,k',Qai _ h2⟩
theorem zbg:∀{M:yzw D.T}{s:Nat},fnd (z78 D M) s=none->∀k,(k,Src.slot s)∉M
 |[],s,h,k,hm=>by cases hm
 |(k',.slot s')::M,s,h,k,hm=>by
  simp only[z78,yz6]at h;split at h;cases h;rename_i e
  rcases Qbi.1 hm with hm|hm
  injection hm with _ hm;injection hm with hm;exact e hm.symm
  exact zbg h k hm
 |(k',.nil)::M,s,h,k,hm=>by
  simp only[z78]at h
  rcases Qbi.1 hm with hm|hm
  injection hm with _ hm;cases hm;exact zbg h k hm
structure Left(D:Dat)(lv:Nat)(L:List (Option yz4))(ρ:List Slot)(p:Nat)(L':List (Option yz4))(ρ':List Slot)(os:List OSh)(y:HL D.T (zzl os)):Prop where
 len:ρ'.length=os.length
 ob:∀j o,(j,o)∈z0c D (λk=>k) os 0 y->∃sl,ρ'[j]? = some sl∧OR D ρ' lv L' sl o
 inj:∀(s s':Nat) (sl sl':Slot) (i:Nat),ρ'[s]? = some sl->ρ'[s']? = some sl'->sl.has i->sl'.has i->s=s'
 mine:∀(s:Nat) (sl:Slot) (i:Nat),ρ'[s]? = some sl->sl.has i->L.length<=i∨∃(k:Nat) (sl0:Slot),ρ[k]? = some sl0∧sl0.has i
 out:∀i,i<L.length->(∀(k:Nat) (sl0:Slot),ρ[k]? = some sl0->¬sl0.has i)->i<L'.length∧L'[i]? = L[i]?
 pin:∀(j:Nat) (sl:Slot),j<p->ρ[j]? = some sl->ρ'[j]? = some sl
 fpl:∀(s:Nat) (sl:Slot) (i:Nat),ρ'[s]? = some sl->i∈sl.fp->sl.k≠some i∧∃a,L'[i]? = some (some a)
theorem TRr.after(hR:TRr D F ρ ts σ)(hD:D.Ok P){M:yzw D.T}{n p:Nat}(hM:MOk n M){ρ0:List Slot}(hA:Agr ρ M ρ0)(h0:∀j sl,ρ0[j]? = some sl->∃src,fnd M j=some src∧src.is ρ sl∧∀s,src = .slot s->∃o',fnd ts.o s=some o'∧o'.live)
  (hMk:∀k s,(k,Src.slot s)∈M->fnd M k=some (.slot s)) (hp:∀k,k<p->∃s,fnd M k=some (.slot s)) {L':List (Option yz4)}{ρ':List Slot}{os:List OSh}{y:HL D.T (zzl os)}(hpo:p<=os.length) (hL:Left D F.lv σ.H.L ρ0 p L' ρ' os y) :
  TRr D F (ρ++ρ'.drop p) (z3s D M p ts os y) {σ with H:=⟨F.lv,L',F.E⟩}∧Maps (z2x D M p ts.nx) ρ' (ρ++ρ'.drop p):=by
 have hmaps:Maps (z2x D M p ts.nx) ρ' (ρ++ρ'.drop p):=λj sl hj=>by
  unfold z2x;by_cases hjp:j<p;rw[Qbr hjp];obtain⟨s,hs⟩:=hp j hjp;obtain⟨sl0,e1,e2⟩:=hA j _ hs;have:=hL.pin j sl0 hjp e1
  rw[hj]at this;injection this with this;subst this
  rw[hs];exact lookup_append e2;rw[Qbs hjp,<-hR.nx,Qav (by omega),Qbc];rw[<-hj];congr 1;omega
 have minj:∀j j',j<os.length->j'<os.length->z2x D M p ts.nx j=z2x D M p ts.nx j'->j=j':=λj j' hj hj' h=>by
  unfold z2x at h
  have low:∀j s,fnd M j=some (.slot s)->s<ts.nx:=λj s hs=>by
   obtain⟨sl0,e1,e2⟩:=hA j _ hs;rw[<-hR.nx];exact(Qaa.1 e2).1
  by_cases h1:j<p <;> by_cases h2:j'<p
  rw[Qbr h1,Qbr h2]at h;obtain⟨s,hs⟩:=hp j h1;obtain⟨s',hs'⟩:=hp j' h2;rw[hs,hs']at h;simp only at h;subst h;exact hM.inj j j' s hs hs';obtain⟨s,hs⟩:=hp j h1;rw[Qbr h1,Qbs h2,hs]at h;simp only at h;have:=low j s hs;omega;obtain⟨s,hs⟩:=hp j' h2;rw[Qbs h1,Qbr h2,hs]at h;simp only at h;have:=low j' s hs;omega;rw[Qbs h1,Qbs h2]at h;omega
 have kinds:∀s o,fnd (z3s D M p ts os y).o s=some o->(∃j,j<os.length∧s=z2x D M p ts.nx j∧∃(osh:OSh) (z:HL D.T osh.tys),o=z7n D (z2x D M p ts.nx) osh z∧(j,z7n D (λk=>k) osh z)∈z0c D (λk=>k) os 0 y)∨(o = .gone∧∃k,(k,Src.slot s)∈M)∨(fnd ts.o s=some o∧∀k,(k,Src.slot s)∉M):=λs o h=>by
  simp only[z3s]at h;rw[z9h]at h;split at h;rename_i o' ho';injection h with h;subst h;obtain⟨j,h1,h2,h3,h4⟩:=zd4 os (z1w ho');exact .inl ⟨j,by omega,h3,h4⟩;rw[z9h]at h;split at h;rename_i o' ho';injection h with h;subst h;obtain⟨h1,h2⟩:=zdt ho';exact .inr (.inl ⟨h1,h2⟩);rename_i hn;exact .inr (.inr ⟨h,zbg hn⟩)
 have apart:∀s o sl i,fnd ts.o s=some o->o.live->(∀k,(k,Src.slot s)∉M)->ρ[s]? = some sl->sl.has i->∀(k:Nat) (sl0:Slot),ρ0[k]? = some sl0->¬sl0.has i:=λs o sl i ho hl hno hs hk k sl0 h1 h2=>by
  obtain⟨src,e1,e2,e3⟩:=h0 k sl0 h1
  cases src with
  |nil=>simp only[Src.is]at e2;subst e2;rcases h2 with h|h <;> cases h
  |slot s0=>
   obtain⟨o',f1,f2⟩:=e3 s0 rfl;have:=hR.inj s s0 o o' sl sl0 i ho f1 hl f2 hs e2 hk h2;subst this;exact hno k (z1w e1)
 have passed:∀(k:Nat) (sl0:Slot) (i:Nat),ρ0[k]? = some sl0->sl0.has i->¬F.out i:=λk sl0 i h1 h2=>by
  obtain⟨src,e1,e2,e3⟩:=h0 k sl0 h1
  cases src with
  |nil=>simp only[Src.is]at e2;subst e2;rcases h2 with h|h <;> cases h
  |slot s0=>
   obtain⟨o',f1,f2⟩:=e3 s0 rfl;exact hR.mine s0 o' sl0 i f1 f2 e2 h2
 have oldlt:∀s o sl i,fnd ts.o s=some o->o.live->ρ[s]? = some sl->sl.has i->i<σ.H.L.length:=λs o sl i ho hl hs hk=>hR.lt ho hl hs hk
 have slotOld:∀s o sl,fnd ts.o s=some o->(ρ++ρ'.drop p)[s]? = some sl->ρ[s]? = some sl:=λs o sl ho h=>by
  obtain⟨q,h1,h2⟩:=hR.ob s o ho;rw[lookup_append h1]at h;rw[h1,h]
 have slotNew:∀j sl,j<os.length->(ρ++ρ'.drop p)[z2x D M p ts.nx j]? = some sl->ρ'[j]? = some sl:=λj sl hj h=>by
  have hlt:j<ρ'.length:=by rw[hL.len];exact hj
  have:=hmaps j ρ'[j] (Qab hlt)
  rw[this]at h;injection h with h;rw[<-h];exact Qab hlt
 refine⟨⟨?_,hR.nt,λj x hj =>?_,λs o ho =>?_,λs s' o o' sl sl' i h1 h2 l1 l2 r1 r2 k1 k2 =>?_,λs o sl i h1 l1 r1 k1 =>?_,rfl,rfl,hR.e0,hR.d.more _,λi hi =>?_,λj sl hj=>lookup_append (hR.pin j sl hj),λs o sl i h1 l1 r1 k1 =>?_,λi s v h1 h2=>(hR.g i s v h1 h2).more _⟩,hmaps⟩;simp only[z3s,Qap,List.length_drop,hL.len,hR.nx];obtain⟨v,h1,h2⟩:=hR.tm j x hj;exact⟨v,h1,h2.more _⟩
 rcases kinds s o ho with ⟨j,h1,h2,osh,z,h3,h4⟩|⟨rfl,k,h1⟩|⟨h1,h2⟩
 obtain⟨sl,e1,e2⟩:=hL.ob j _ h4;refine⟨sl,by rw[h2];exact hmaps j sl e1,?_⟩;rw[h3];exact OR.maps hmaps hD e2;obtain⟨sl0,e1,e2⟩:=hA k _ (hMk k s h1);exact⟨sl0,lookup_append e2,by simp only[OR]⟩;obtain⟨q,e1,e2⟩:=hR.ob s o h1;exact⟨q,lookup_append e1,e2.mono _ λi hi hl=>(hL.out i (hR.lt h1 hl e1 hi) (apart s o q i h1 hl h2 e1 hi)).2⟩
 rcases kinds s o h1 with ⟨j,a1,a2,osh,z,a3,a4⟩|⟨rfl,k,a1⟩|⟨a1,a2⟩
 rcases kinds s' o' h2 with ⟨j',b1,b2,osh',z',b3,b4⟩|⟨rfl,k',b1⟩|⟨b1,b2⟩
 rw[a2,b2]
 congr 1
 rw[a2]at r1;rw[b2]at r2;exact hL.inj j j' sl sl' i (slotNew j sl a1 r1) (slotNew j' sl' b1 r2) k1 k2;exact l2.elim
 exfalso
 rw[a2]at r1;have q2:=slotOld s' o' sl' b1 r2
 rcases hL.mine j sl i (slotNew j sl a1 r1) k1 with h|⟨k,sl0,e1,e2⟩
 have:=oldlt s' o' sl' i b1 l2 q2 k2;omega;exact apart s' o' sl' i b1 l2 b2 q2 k2 k sl0 e1 e2;exact l1.elim
 rcases kinds s' o' h2 with ⟨j',b1,b2,osh',z',b3,b4⟩|⟨rfl,k',b1⟩|⟨b1,b2⟩
 exfalso
 rw[b2]at r2;have q1:=slotOld s o sl a1 r1
 rcases hL.mine j' sl' i (slotNew j' sl' b1 r2) k2 with h|⟨k,sl0,e1,e2⟩
 have:=oldlt s o sl i a1 l1 q1 k1;omega;exact apart s o sl i a1 l1 a2 q1 k1 k sl0 e1 e2;exact l2.elim;exact hR.inj s s' o o' sl sl' i a1 b1 l1 l2 (slotOld _ _ _ a1 r1) (slotOld _ _ _ b1 r2) k1 k2
 rcases kinds s o h1 with ⟨j,a1,a2,osh,z,a3,a4⟩|⟨rfl,k,a1⟩|⟨a1,a2⟩
 rw[a2]at r1
 rcases hL.mine j sl i (slotNew j sl a1 r1) k1 with h|⟨k,sl0,e1,e2⟩
 intro ho;have:=(hR.out i ho).1;omega;exact passed k sl0 i e1 e2;exact l1.elim;exact hR.mine s o sl i a1 l1 (slotOld _ _ _ a1 r1) k1;obtain⟨h1,h2⟩:=hR.out i hi;obtain⟨h3,h4⟩:=hL.out i h1 λk sl0 e1 e2=>passed k sl0 i e1 e2 hi
 exact⟨h3,h4.trans h2⟩
 rcases kinds s o h1 with ⟨j,a1,a2,osh,z,a3,a4⟩|⟨rfl,k,a1⟩|⟨a1,a2⟩
 rw[a2]at r1;exact hL.fpl j sl i (slotNew j sl a1 r1) k1;exact l1.elim;have q1:=slotOld _ _ _ a1 r1;have hq:=hR.fpl s o sl i a1 l1 q1 k1;refine⟨hq.1,?_⟩;show ∃a,L'[i]? = _;rw[(hL.out i (hR.lt a1 l1 q1 (.inr k1)) (apart s o sl i a1 l1 a2 q1 (.inr k1))).2];exact hq.2
end
section
variable {P : Program} {D : Dat} {F : Fr} {ρ : List Slot} {ts : TS D.T} {σ : St} {lv : Nat}
def SlOk(L:List (Option yz4))(ρ0:List Slot):Prop :=
 (∀(s s':Nat) (sl sl':Slot) (i:Nat),ρ0[s]? = some sl->ρ0[s']? = some sl'->sl.has i->sl'.has i->s=s') ∧
 ∀(s:Nat) (sl:Slot) (i:Nat),ρ0[s]? = some sl->i∈sl.fp->sl.k≠some i∧∃a,L[i]? = some (some a)
def zk8(L L':List (Option yz4))(ρ0:List Slot)(kc:List (Nat×Nat)):Prop:=∀q∈kc,∀sl i,ρ0[q.1]? = some sl->sl.k=some i->cellAt L'[i]? q.2=cellAt L[i]? q.2
def zrq(L:List (Option yz4))(ρ0:List Slot)(kc:List (Nat×Nat)):Prop:=∀q∈kc,∃sl i u,ρ0[q.1]? = some sl∧sl.k=some i∧cellAt L[i]? q.2=some u∧u.leaf=true
theorem zrq.nil{L:List (Option yz4)}{ρ0:List Slot}:zrq L ρ0 []:=λq hq=>by cases hq
theorem zk8.nil{L L':List (Option yz4)}{ρ0:List Slot}:zk8 L L' ρ0 []:=λq hq=>by cases hq
def zwf(pan:Sh)(v:V):Out:=match pan with
 |.tup _=>.ret v
 |_=>.pan v
theorem zue{pan:Sh}{v w:V}(h:Out.ret w=zwf pan v):v=w∧∀{R:Type}(k kp:TV D.T->TS D.T->Option R),altK D pan k kp=k:=by
 cases pan <;> simp only[zwf]at h <;> first|(cases h;done)|(injection h with h;exact⟨h.symm,λ_ _=>rfl⟩)
theorem zqp{pan:Sh}{v w:V}(h:Out.pan w=zwf pan v):v=w∧∀{R:Type}(k kp:TV D.T->TS D.T->Option R),altK D pan k kp=kp:=by
 cases pan <;> simp only[zwf]at h <;> first|(cases h;done)|(injection h with h;exact⟨h.symm,λ_ _=>rfl⟩)
theorem zme{M:yzw D.T}{old:TS D.T}(h:∀k s,fnd M k≠some (.slot s)):∀(l:List (Nat×Nat)) (ts:TS D.T),Go.Ab.z2m D M old l ts=ts
 |[],ts=>rfl
 |q::l,ts=>by
  simp only[Go.Ab.z2m];split;rename_i s hs;exact(h _ _ hs).elim;exact zme h l ts
theorem y3q{pan:Sh}{v:V}(h:(match pan with| .tup _=>false|_=>true)=true):zwf pan v = .pan v:=by cases pan <;> first|rfl|cases h
def Ent.Flat(P:Program)(e:Ent D)(x:HL D.T (Sh.kzs e.args++zzl e.aos))(o:HL D.T (Sh.kzs e.outs++zzl e.ros) ⊕ HL D.T (e.pan.tys++zzl e.pos)):Prop :=
 ∀(lv:Nat) (L:List (Option yz4)) (E:Nat->Nat->Option yz4) (ρ0:List Slot) (vargs:List V),ρ0.length=e.aos.length->VRL D ρ0 lv (yzu D (λk=>k) e.args (HL.fst _ x)) vargs ->
  (∀j o,(j,o)∈z0c D (λk=>k) e.aos 0 (HL.snd _ x)->∃sl,ρ0[j]? = some sl∧OR D ρ0 lv L sl o) ->
  SlOk L ρ0->zrq L ρ0 e.kc ->
  zkz P e.f vargs ⟨lv,L,E⟩ λout H'=>∃L' ρ',H'=⟨lv,L',E⟩ ∧
   match o with
   |.inl y=>Left D lv L ρ0 e.p L' ρ' e.ros (HL.snd _ y)∧((∀q∈e.ren,∀sl,ρ0[q.1]? = some sl->∃sl',ρ'[q.2]? = some sl'∧sl'.v=sl.v)∧zk8 L L' ρ0 e.kc)∧∃vs,out = .ret (z3x vs)∧VRL D ρ' lv (yzu D (λk=>k) e.outs (HL.fst _ y)) vs
   |.inr y=>Left D lv L ρ0 e.p L' ρ' e.pos (HL.snd _ y)∧∃v,out=zwf e.pan v∧VR D ρ' lv (z7q D (λk=>k) e.pan (HL.fst _ y)) v
def Ent.Pure(P:Program)(e:Ent D)(x:HL D.T (Sh.kzs e.args++zzl e.aos))(y:HL D.T (Sh.kzs e.outs++zzl e.ros)):Prop :=
 e.aos=[]∧e.ros=[]∧e.ren=[]∧∀(lv:Nat) (vargs:List V),VRL D [] lv (yzu D (λk=>k) e.args (HL.fst _ x)) vargs->∃vs,(∀ρ lv',VRL D ρ lv' (yzu D (λk=>k) e.outs (HL.fst _ y)) vs)∧zd6 P e.f vargs (z3x vs)
def Ent.Ok(P:Program)(e:Ent D):Prop:=∀(R:Type) (x:HL D.T (Sh.kzs e.args++zzl e.aos)) (k:HL D.T (Sh.kzs e.outs++zzl e.ros)->Option R) (kp:HL D.T (e.pan.tys++zzl e.pos)->Option R) (r:R),e.go x k kp=some r ->
 match e.pure with
 |true=>∃y,k y=some r∧e.Pure P x y
 |false=>(∃y,k y=some r∧e.Flat P x (.inl y))∨∃y,kp y=some r∧e.Flat P x (.inr y)
theorem TRr.z2m{M:yzw D.T}{old:TS D.T}{ρ0 ρ':List Slot}{σ':St}(hold:TRr D F ρ old σ)(hA:∀k s,fnd M k=some (.slot s)->∃sl,ρ0[k]? = some sl∧ρ[s]? = some sl)(hm:∀(s:Nat) (sl:Slot),ρ[s]? = some sl->ρ'[s]? = some sl)
  (hv:∀x v,VR D ρ F.lv x v->VR D ρ' F.lv x v):∀(l:List (Nat×Nat)) {ts:TS D.T},zk8 σ.H.L σ'.H.L ρ0 l->TRr D F ρ' ts σ'->TRr D F ρ' (Go.Ab.z2m D M old l ts) σ'
 |[],ts,_,hR=>hR
 |q::l,ts,h,hR=>by
  have hl:zk8 σ.H.L σ'.H.L ρ0 l:=λq hq=>h q (Qai _ hq)
  simp only[Go.Ab.z2m];split;rename_i s hs;split;rename_i olds news h1 h2;split;rename_i v hv1;refine TRr.z2m hold hA hm hv l hl ?_;obtain⟨sl,e1,e2⟩:=hA _ _ hs;obtain⟨sl1,f1,f2⟩:=hold.ob s _ h1
  rw[e2]at f1;injection f1 with f1;subst f1
  obtain⟨sl2,g1,g2⟩:=hR.ob s _ h2
  rw[hm _ _ e2]at g1;injection g1 with g1;subst g1
  simp only[OR]at f2 g2;obtain⟨i,vs,f3,f4,f5⟩:=f2;obtain⟨i',vs',g3,g4,g5⟩:=g2
  rw[f3]at g3;injection g3 with g3;subst g3
  have hk:=h q Qak sl i e1 f3;rw[f4,g4]at hk;have hk:vs'[q.2]? = vs[q.2]? := hk
  have hset:σ'.H.L.set i (some (.cells vs'))=σ'.H.L:=by
   obtain⟨hlt,he⟩:=Qaa.1 g4;rw[<-he];exact List.set_getElem_self hlt
  have hup:=hR.upd h2 trivial (hm _ _ e2) f3 (.cells (news.set q.2 v)) (.cells vs') (by
   simp only[OR];refine⟨i,vs',f3,by rw[hset];exact g4,VRL.of (by rw[List.length_set];exact g5.length) λj c u hj hu =>?_⟩;rw[Qbf]at hj;split at hj;rename_i hjq;subst hjq;split at hj;injection hj with hj;subst hj;obtain⟨w,w1,w2⟩:=f5.get _ _ hv1;rw[hk,w1]at hu;injection hu with hu;subst hu;exact hv _ _ w2;cases hj
   exact g5.zg7 hj hu)
  rw[hset]at hup;exact hup;exact TRr.z2m hold hA hm hv l hl hR;exact TRr.z2m hold hA hm hv l hl hR;exact TRr.z2m hold hA hm hv l hl hR
theorem TRr.z4c{M:yzw D.T}{p nx:Nat}{ρ0 ρ':List Slot}(hA:∀k s,fnd M k=some (.slot s)->∃sl,ρ0[k]? = some sl∧ρ[s]? = some sl)(hm:Maps (z2x D M p nx) ρ' ρ):∀(l:List (Nat×Nat)) {ts:TS D.T},(∀q∈l,∀sl,ρ0[q.1]? = some sl->∃sl',ρ'[q.2]? = some sl'∧sl'.v=sl.v)->TRr D F ρ ts σ->TRr D F ρ (Go.Ab.z4c D M p nx l ts) σ
 |[],ts,_,hR=>hR
 |q::l,ts,h,hR=>by
  simp only[Go.Ab.z4c];split;rename_i s hs;obtain⟨sl,h1,h2⟩:=hA _ _ hs;obtain⟨sl',h3,h4⟩:=h q Qak sl h1;exact TRr.z4c hA hm l (λq hq=>h q (Qai _ hq)) (hR.z3p _ λx v hx=>VR.ren h2 (hm _ _ h3) h4 hx);exact TRr.z4c hA hm l (λq hq=>h q (Qai _ hq)) hR
variable (hD : D.Ok P)
include hD
theorem VR.zje{cs:List (TV D.T)}{vs:List V}(h:VRL D ρ lv cs vs):VR D ρ lv (Go.Ab.zje D cs) (z3x vs):=by
 cases cs with
 |nil=>simp only[VRL]at h;subst h;simp only[Go.Ab.zje,z3x,VR];exact⟨[],rfl,by simp only[VRL]⟩
 |cons c cs=>
  have h0:=h;simp only[VRL]at h;obtain⟨v,r,rfl,h1,h2⟩:=h
  cases cs with
  |nil=>simp only[VRL]at h2;subst h2;exact h1
  |cons d ds=>
   have h20:=h2;simp only[VRL]at h2;obtain⟨v',r',rfl,_,_⟩:=h2;simp only[Go.Ab.zje,z3x,VR];exact⟨_,rfl,h0⟩
theorem Ent.z8p(hR:TRr D F ρ ts σ){e:Ent D}{vs:List (TV D.T)}{vargs:List V}{M:yzw D.T}{x:HL D.T (Sh.kzs e.args++zzl e.aos)}(hv:VRL D ρ F.lv vs vargs)(h:e.fit D vs ts = .ok (M,x)) :
  MOk e.aos.length M∧∃ρ0:List Slot,ρ0.length=e.aos.length∧Agr ρ M ρ0∧(∀j sl,ρ0[j]? = some sl->∃src,fnd M j=some src∧src.is ρ sl∧∀s,src = .slot s->∃o',fnd ts.o s=some o'∧o'.live) ∧
   VRL D ρ0 F.lv (yzu D (λk=>k) e.args (HL.fst _ x)) vargs∧∀j o,(j,o)∈z0c D (λk=>k) e.aos 0 (HL.snd _ x)->∃sl,ρ0[j]? = some sl∧OR D ρ0 F.lv σ.H.L sl o:=by
 unfold Ent.fit at h;split at h;rename_i M1 y hy;split at h;rename_i M2 z hz;cases h;obtain⟨a1,a2,a3⟩:=z4a hD e.args hy hv;obtain⟨b1,b2,b3,b4⟩:=z9m hD hR e.aos hz;have hM:MOk e.aos.length M:=b2 (a2 ⟨λk src h=>by simp[fnd]at h,λk k' s h=>by simp[fnd]at h,λk src h=>by cases h⟩);obtain⟨ρ0,c1,c2,c3⟩:=zx5 hR hM λj hj=>by simpa using b3 j hj
 refine⟨hM,ρ0,c1,c2,λj sl hj =>?_,by rw[HL.z9u];exact a3 ρ0 (b1.agr c2),λj o hm =>?_⟩;obtain⟨src,e1,e2⟩:=c3 j sl hj;obtain⟨src',e3,e4⟩:=b3 j (by rw[<-c1];exact(Qaa.1 hj).1)
 rw[Nat.zero_add,e1]at e3;injection e3 with e3;subst e3
 exact⟨src,e1,e2,e4⟩;rw[HL.z9y]at hm;obtain⟨_,_,_,e5⟩:=b4 ρ0 c2 j o hm;exact e5;cases h;cases h;cases h;cases h
omit hD in
theorem y0x(hR:TRr D F ρ ts σ):{σ with H:=⟨F.lv,σ.H.L,F.E⟩}=σ:=by
 have e1:=hR.lv;have e2:=hR.E;obtain⟨t,⟨l,L,E⟩,d,e0⟩:=σ;simp only at e1 e2;subst e1;subst e2;rfl
omit hD in
theorem zj2(hR:TRr D F ρ ts σ){M:yzw D.T}{n:Nat}(hM:MOk n M){ρ0:List Slot}(h0:∀j sl,ρ0[j]? = some sl->∃src,fnd M j=some src∧src.is ρ sl∧∀s,src = .slot s->∃o',fnd ts.o s=some o'∧o'.live) :
  SlOk σ.H.L ρ0:=⟨λs s' sl sl' i h1 h2 k1 k2=>by
 obtain⟨src,e1,e2,e3⟩:=h0 s sl h1;obtain⟨src',f1,f2,f3⟩:=h0 s' sl' h2
 cases src with
 |nil=>simp only[Src.is]at e2;subst e2;rcases k1 with h|h <;> cases h
 |slot q=>
  cases src' with
  |nil=>simp only[Src.is]at f2;subst f2;rcases k2 with h|h <;> cases h
  |slot q'=>
   obtain⟨o,g1,g2⟩:=e3 q rfl;obtain⟨o',g3,g4⟩:=f3 q' rfl;have:=hR.inj q q' o o' sl sl' i g1 g3 g2 g4 e2 f2 k1 k2;subst this
   exact hM.inj s s' q e1 f1,λs sl i h1 k1=>by
 obtain⟨src,e1,e2,e3⟩:=h0 s sl h1
 cases src with
 |nil=>simp only[Src.is]at e2;subst e2;cases k1
 |slot q=>
  obtain⟨o,g1,g2⟩:=e3 q rfl
  exact hR.fpl q o sl i g1 g2 e2 k1⟩
omit hD in
theorem z9b(hR:TRr D F ρ ts σ){M:yzw D.T}{ρ0:List Slot}(hA:Agr ρ M ρ0):∀{kc:List (Nat×Nat)},zwh D M ts kc=true->zrq σ.H.L ρ0 kc
 |[],_=>.nil
 |q::l,h=>by
  simp only[zwh]at h;split at h;rename_i s hs;split at h;rename_i olds ho;split at h;rename_i s' hv;intro q' hq'
  rcases Qbi.1 hq' with rfl|hq'
  obtain⟨sl,e1,e2⟩:=hA _ _ hs;obtain⟨sl',k1,k2⟩:=hR.ob s _ ho;simp only[OR]at k2;obtain⟨i,vs,k2,k3,k4⟩:=k2;have e2:ρ[s]? = some sl:=e2
  rw[k1]at e2;injection e2 with e2;subst e2
  obtain⟨u,u1,u2⟩:=k4.get _ _ hv;simp only[VR]at u2;obtain⟨_,_,_,u3⟩:=u2;exact⟨sl',i,u,e1,k2,by simp only[cellAt,k3];exact u1,u3⟩;exact z9b hR hA h q' hq';cases h;cases h;cases h
theorem z7d{R:Type}(hR:TRr D F ρ ts σ){f:Nat}{vs:List (TV D.T)}{vargs:List V}{k kp:TV D.T->TS D.T->Option R}{kf:Nat->Option R}{r:R}(hv:VRL D ρ F.lv vs vargs):∀{tbl:List (Ent D)},(∀e∈tbl,e.Ok P)->zcf D f vs ts k kp kf tbl=some r ->
  ((∃e∈tbl,e.pure=false)∧∃(Post:Out->zz2->Prop),zkz P f vargs σ.H Post∧(∀rv H',Post (.ret rv) H'->∃z ts' ρ',VR D ρ' F.lv z rv∧TRr D F ρ' ts' {σ with H:=H'}∧k z ts'=some r) ∧
    (∀v H',Post (.pan v) H'->∃z ts' ρ',VR D ρ' F.lv z v∧TRr D F ρ' ts' {σ with H:=H'}∧kp z ts'=some r)) ∨
  (∃rv,zd6 P f vargs rv∧∃z ρ' ts',(∀ρ',VR D ρ' F.lv z rv)∧TRr D F ρ' ts' σ∧k z ts'=some r∧ts'.t=ts.t∧ts'.nt=ts.nt)∨∃s,kf s=some r
 |[],_,h=>by simp[zcf,y8h]at h
 |e::tbl,htbl,h=>by
  have up:∀{A B:Prop},(((∃e∈tbl,e.pure=false)∧A)∨B)->((∃e'∈e::tbl,e'.pure=false)∧A)∨B:=λ{A B} h=>h.imp (λ⟨⟨e',h1,h2⟩,h3⟩=>⟨⟨e',Qai _ h1,h2⟩,h3⟩) λh=>h
  simp only[zcf]at h;split at h;exact up (z7d hR hv (λe he=>htbl e (Qai _ he)) h);rename_i hf;have hf:=Qaj hf;subst hf;split at h;exact up (z7d hR hv (λe he=>htbl e (Qai _ he)) h);exact .inr (.inr ⟨_,h⟩);rename_i M x hfit;split at h;rename_i hc;obtain⟨ck,c1,c2,c3,c4⟩:=hc;obtain⟨hM,ρ0,d1,d2,d3,d4,d5⟩:=Ent.z8p hD hR hv hfit
  have hp:∀k,k<e.p->∃s,fnd M k=some (.slot s):=λk hk=>by
   have:=Qat.1 c4 k (List.mem_range.2 hk);split at this;rename_i s hs;exact⟨s,hs⟩;cases this
  have hmk:∀k s,(k,Src.slot s)∈M->fnd M k=some (.slot s):=λk s hm=>hM.one k _ hm
  have hinj:=zj2 hR hM d3;have hok:=htbl e Qak _ _ _ _ _ h
  cases hpure:e.pure with
  |true=>
   rw[hpure]at hok;obtain⟨y,hy,e1,e2,en,e3⟩:=hok;have hr0:ρ0=[]:=Qao (by rw[d1,e1];rfl);rw[hr0]at d4;obtain⟨us,f1,f2⟩:=e3 F.lv vargs d4
   have hleft:Left D F.lv σ.H.L ρ0 e.p σ.H.L [] e.ros (HL.snd _ y):=by
    refine⟨by rw[e2];rfl,λj o hm =>?_,λs s' sl sl' i h1=>by simp at h1,λs sl i h1=>by simp at h1,λi hi _=>⟨hi,rfl⟩,λj sl hj hs =>?_,λs sl i h1=>by simp at h1⟩;obtain⟨j',_,hlt,_⟩:=zd4 e.ros hm;rw[e2]at hlt;simp at hlt;rw[hr0]at hs;simp at hs
   obtain⟨g1,g2⟩:=TRr.after hR hD hM d2 d3 hmk hp c2 hleft;rw[y0x hR]at g1;rw[en,zme (λk s hk=>by have:=hM.lt k _ hk;rw[e1]at this;simp at this)]at hy
   exact .inr (.inl ⟨_,f2,_,_,_,λρ'=>VR.zje hD (VRL.maps (ρ:=[]) (λj sl hj=>by simp at hj) hD e.outs (f1 _ _)),g1,hy,rfl,rfl⟩)
  |false=>
   rw[hpure]at hok;have hHeap:σ.H=⟨F.lv,σ.H.L,F.E⟩:=zar σ.H hR.lv hR.E;refine .inl ⟨⟨e,Qak,hpure⟩,?_⟩
   rcases hok with ⟨y,hy,hflat⟩|⟨y,hy,hflat⟩
   have hh:=hflat F.lv σ.H.L F.E ρ0 vargs d1 d4 d5 hinj (z9b hR d2 ck);rw[<-hHeap]at hh;refine⟨_,hh,λrv H' ⟨L',ρ',e1,e2,⟨en,ek⟩,vs',e3,e4⟩ =>?_,λv H' ⟨L',ρ',e1,e2,en,vs',e3,e4⟩=>(by cases e3)⟩;injection e3 with e3;subst e1;subst e3;obtain⟨g1,g2⟩:=TRr.after hR hD hM d2 d3 hmk hp c2 e2
   exact⟨_,_,_,VR.zje hD (VRL.maps g2 hD e.outs e4),(TRr.z2m (ρ0:=ρ0) hR (λk s hk=>d2 k _ hk) (λs sl h=>lookup_append h) (λx v h=>h.more _) e.kc ek g1).z4c (λk s hk=>(d2 k _ hk).imp λsl h=>⟨h.1,lookup_append h.2⟩) g2 _ en,hy⟩;have hh:=hflat F.lv σ.H.L F.E ρ0 vargs d1 d4 d5 hinj (z9b hR d2 ck);rw[<-hHeap]at hh;refine⟨_,hh,λrv H' ⟨L',ρ',e1,e2,vs',e3,e4⟩ =>?_,λrv H' ⟨L',ρ',e1,e2,vs',e3,e4⟩ =>?_⟩
   obtain⟨e3,e5⟩:=zue (D:=D) e3;subst e1;subst e3;rw[e5]at hy;obtain⟨g1,g2⟩:=TRr.after hR hD hM d2 d3 hmk hp c3 e2;exact⟨_,_,_,VR.maps g2 hD e.pan e4,g1,hy⟩;obtain⟨e3,e5⟩:=zqp (D:=D) e3;subst e1;subst e3;rw[e5]at hy;obtain⟨g1,g2⟩:=TRr.after hR hD hM d2 d3 hmk hp c3 e2;exact⟨_,_,_,VR.maps g2 hD e.pan e4,g1,hy⟩
  cases h
theorem zbt{R:Type}(hR:TRr D F ρ ts σ){f:Nat}{vs:List (TV D.T)}{vargs:List V}{chk:List (Nat×Nat)->yzw D.T->Bool}{k kp:TV D.T->TS D.T->Option R}{r:R}(hv:VRL D ρ F.lv vs vargs):∀{tbl:List (Ent D)},(∀e∈tbl,e.Ok P∧e.pure=false)->zin D f vs ts chk k kp tbl=some r ->
  ∃(M:yzw D.T) (kc:List (Nat×Nat)) (Post:Out->zz2->Prop),chk kc M=true∧(∀k s,(k,Src.slot s)∈M->∃o',fnd ts.o s=some o'∧o'.live)∧zkz P f vargs σ.H Post ∧
   (∀out H',Post out H'->H'.lv=F.lv∧∀i,i<σ.H.L.length->(∀k s sl,(k,Src.slot s)∈M->ρ[s]? = some sl->¬sl.has i)->H'.L[i]? = σ.H.L[i]?) ∧
   (∀rv H',Post (.ret rv) H'->∀q∈kc,∀s sl i,fnd M q.1=some (.slot s)->ρ[s]? = some sl->sl.k=some i->cellAt H'.L[i]? q.2=cellAt σ.H.L[i]? q.2) ∧
   (∀rv H',Post (.ret rv) H'->∃z ts' ρ',VR D ρ' F.lv z rv∧TRr D F ρ' ts' {σ with H:=H'}∧k z ts'=some r∧∀(s:Nat) (sl:Slot),ρ[s]? = some sl->ρ'[s]? = some sl) ∧
   (∀v H',Post (.pan v) H'->∃z ts' ρ',VR D ρ' F.lv z v∧TRr D F ρ' ts' {σ with H:=H'}∧kp z ts'=some r)∧∀k s,(k,Src.slot s)∈M->fnd M k=some (.slot s)
 |[],_,h=>by simp[zin,y61]at h
 |e::tbl,htbl,h=>by
  simp only[zin]at h;split at h;exact zbt hR hv (λe he=>htbl e (Qai _ he)) h;rename_i hf;have hf:=Qaj hf;subst hf;split at h;rename_i M x hfit;split at h;rename_i hc;obtain⟨c0,ck,c1,c2,c3,c4⟩:=hc;obtain⟨hM,ρ0,d1,d2,d3,d4,d5⟩:=Ent.z8p hD hR hv hfit
  have hp:∀k,k<e.p->∃s,fnd M k=some (.slot s):=λk hk=>by
   have:=Qat.1 c4 k (List.mem_range.2 hk);split at this;rename_i s hs;exact⟨s,hs⟩;cases this
  have hmk:∀k s,(k,Src.slot s)∈M->fnd M k=some (.slot s):=λk s hm=>hM.one k _ hm
  have hinj:=zj2 hR hM d3;obtain⟨hok,hpure⟩:=htbl e Qak;have hok:=hok _ _ _ _ _ h;rw[hpure]at hok;have hHeap:σ.H=⟨F.lv,σ.H.L,F.E⟩:=zar σ.H hR.lv hR.E
  have hlive:∀k s,(k,Src.slot s)∈M->∃o',fnd ts.o s=some o'∧o'.live:=λk s hm=>by
   obtain⟨sl,e1,e2⟩:=d2 k _ (hmk k s hm);obtain⟨src,f1,_,f3⟩:=d3 k sl e1
   rw[hmk k s hm]at f1;injection f1 with f1
   exact f3 s f1.symm
  have frame:∀{p:Nat}{L':List (Option yz4)}{ρ':List Slot}{os:List OSh}{y:HL D.T (zzl os)},Left D F.lv σ.H.L ρ0 p L' ρ' os y->∀i,i<σ.H.L.length->(∀k s sl,(k,Src.slot s)∈M->ρ[s]? = some sl->¬sl.has i)->L'[i]? = σ.H.L[i]? := λ{p L' ρ' os y} hl i hi hno=>by
   refine(hl.out i hi λk sl0 e1 e2 =>?_).2;obtain⟨src,f1,f2,f3⟩:=d3 k sl0 e1
   cases src with
   |nil=>simp only[Src.is]at f2;subst f2;rcases e2 with h|h <;> cases h
   |slot s=>exact hno k s sl0 (z1w f1) f2 e2
  rcases hok with ⟨y,hy,hflat⟩|⟨y,hy,hflat⟩
  have hh:=hflat F.lv σ.H.L F.E ρ0 vargs d1 d4 d5 hinj (z9b hR d2 ck);rw[<-hHeap]at hh;refine⟨M,_,_,c0,hlive,hh,λout H' ⟨L',ρ',e1,e2,_⟩=>⟨by rw[e1],λi hi hno=>by rw[e1];exact frame e2 i hi hno⟩,λrv H' ⟨L',ρ',e1,e2,⟨en,ek⟩,_⟩ q hq s sl i hs h1 h2 =>?_,λrv H' ⟨L',ρ',e1,e2,⟨en,ek⟩,vs',e3,e4⟩ =>?_,λv H' ⟨L',ρ',e1,e2,en,vs',e3,e4⟩=>(by cases e3),hmk⟩
  have hq:q∈e.kc:=by
   unfold kcC at hq;split at hq;cases hq;exact hq
  obtain⟨sl0,w1,w2⟩:=d2 q.1 _ hs;have w2:ρ[s]? = some sl0:=w2
  rw[h1]at w2;injection w2 with w2;subst w2
  rw[e1];exact ek q hq sl i w1 h2;injection e3 with e3;subst e1;subst e3;obtain⟨g1,g2⟩:=TRr.after hR hD hM d2 d3 hmk hp c2 e2;exact⟨_,_,_,VR.zje hD (VRL.maps g2 hD e.outs e4),(TRr.z2m (ρ0:=ρ0) hR (λk s hk=>d2 k _ hk) (λs sl h=>lookup_append h) (λx v h=>h.more _) e.kc ek g1).z4c (λk s hk=>(d2 k _ hk).imp λsl h=>⟨h.1,lookup_append h.2⟩) g2 _ en,hy,λs sl h=>lookup_append h⟩
  have hh:=hflat F.lv σ.H.L F.E ρ0 vargs d1 d4 d5 hinj (z9b hR d2 ck);rw[<-hHeap]at hh;refine⟨M,_,_,c0,hlive,hh,λout H' ⟨L',ρ',e1,e2,_⟩=>⟨by rw[e1],λi hi hno=>by rw[e1];exact frame e2 i hi hno⟩,λrv H' ⟨L',ρ',e1,e2,vs',e3,e4⟩ q hq =>?_,λrv H' ⟨L',ρ',e1,e2,vs',e3,e4⟩ =>?_,λrv H' ⟨L',ρ',e1,e2,vs',e3,e4⟩ =>?_,hmk⟩
  cases hp:e.pan <;> rw[hp]at e3 <;> simp only[zwf]at e3 <;> first|(cases e3;done)|(unfold kcC at hq;rw[hp]at hq;cases hq)
  obtain⟨e3,e5⟩:=zue (D:=D) e3;subst e1;subst e3;rw[e5]at hy;obtain⟨g1,g2⟩:=TRr.after hR hD hM d2 d3 hmk hp c3 e2;exact⟨_,_,_,VR.maps g2 hD e.pan e4,g1,hy,λs sl h=>lookup_append h⟩;obtain⟨e3,e5⟩:=zqp (D:=D) e3;subst e1;subst e3;rw[e5]at hy;obtain⟨g1,g2⟩:=TRr.after hR hD hM d2 d3 hmk hp c3 e2;exact⟨_,_,_,VR.maps g2 hD e.pan e4,g1,hy⟩;cases h;exact zbt hR hv (λe he=>htbl e (Qai _ he)) h
end
section
variable {P : Program} {D : Dat} {F : Fr} {ρ : List Slot} {ts : TS D.T} {σ : St} {lv : Nat} {L : List (Option yz4)}
theorem zrl{R:Type}(hD:D.Ok P)(hR:TRr D F ρ ts σ){t s off:Nat}{i:Int}{k:TV D.T->TS D.T->Option R}{kf:Nat->Option R}{r:R}{va:V}(h:zxs D P ts t s i off k kf=some r)(ha:VR D ρ F.lv (.dp s i off) va) :
  (∃z v ts' ρ',z2f P σ.H t va=some v∧VR D ρ' F.lv z v∧TRr D F ρ' ts' σ∧k z ts'=some r)∨∃s,kf s=some r:=by
 unfold zxs at h;split at h;rename_i ty q xs hh ho;split at h;obtain⟨z,v,h1,h2,h3⟩:=z4o hR (ρ':=ρ) (λf v _ _ _ e=>by cases e) h ha;exact .inl ⟨z,v,ts,ρ,h1,h2,hR,h3⟩;rename_i f fs hf;split at h;obtain⟨ts',ρ',ty',q',j,ver,cp,m,u,h1,h2,h3,⟨sl0,h4,h5⟩,h6,h7⟩:=zqg hD hR h
 obtain⟨z,v,e1,e2,e3⟩:=z4o hR (ρ':=ρ') (λf' v sl w u' e hsl hw hu=>by
  injection e with e;injection e with e4 e5;subst e4;subst e5
  rw[h4]at hsl;injection hsl with hsl;subst hsl
  obtain⟨sl',b1,b2⟩:=hR.ob s _ ho
  rw[h4]at b1;injection b1 with b1;subst b1
  simp only[OR]at b2;obtain⟨c1,c2⟩:=b2
  cases hk:sl0.k with
  |none=>
   rw[hk]at c2;have:=c2.2.1;rw[h5]at this
   rcases this with q|q <;> cases q
  |some j'=>
   rw[hk]at c2;obtain⟨ver',cp',fps,d1,d2,_⟩:=c2
   rw[h5]at d1;injection d1 with _ g1 g2 _ g3 _
   subst g1;subst g2
   rw[h3]at d2;injection d2 with d2;injection d2 with d2;injection d2 with _ _ _ d2 _
   subst d2;rw[hw]at h6;replace h6:w.cells[f]? = some u:=h6
   rw[hu]at h6;injection h6 with h6;subst h6
   exact h7) h1 ha
 exact .inl ⟨z,v,ts',ρ',e1,e2,h2,e3⟩;rename_i p;obtain⟨n,f',c⟩:=p;split at h;rename_i hff;have hff:f'=f:=Qaj hff;subst hff;obtain⟨_,hs,h⟩:=zzs h
 have hni:n=i:=by
  unfold zr0 at hs;split at hs;rename_i e;exact e;cases hs
 subst hni
 obtain⟨z,v,e1,e2,e3⟩:=z4o hR (ρ':=ρ) (λf2 v sl w u' e hsl hw hu=>by
  injection e with e;injection e with e4 e5;subst e4;subst e5;obtain⟨sl',b1,b2⟩:=hR.ob s _ ho
  rw[hsl]at b1;injection b1 with b1;subst b1
  simp only[OR]at b2;obtain⟨c1,c2⟩:=b2
  cases hk:sl.k with
  |none=>rw[hk]at c2;cases c2.2.2.2
  |some j'=>
   rw[hk]at c2;obtain⟨ver',cp',fps,d1,d2,d3,d4,d5,d6,d7⟩:=c2;have hlt:=(d7 _ _ _ rfl).2;obtain⟨vs,cs,g1,g2,g3,g4,g5⟩:=d6 n.toNat _ w _ (Qab hlt) hw (Qab (show n.toNat<fps.length by omega));subst g1;replace hu:vs[f']? = some u':=hu;have hfl:=(Qaa.1 hu).1;obtain⟨p,hp,_⟩:=HL.z7o (D.fl q) (D.get q xs[n.toNat]) f' (by omega)
   have:=g5 f' p u' _ hp hu (Qab (show f'<cs.length by omega));rw[show yzq (some (n,f',c)) n.toNat f'=some c by simp[yzq]]at this;obtain⟨_,_,a3,sl2,a4,a5⟩:=this;simp only[VR]
   exact⟨sl2,a4,a5,a3⟩) h ha
 exact .inl ⟨z,v,ts,ρ,e1,e2,hR,e3⟩;exact .inr ⟨s,h⟩;cases h
theorem VR.plk(hD:D.Ok P){x:TV D.T}{v:V}(h:VR D ρ lv x v)(hx:x.pl=true)(Dm:Nat->Nat->Prop):V.kin Dm v∧∀ρ' lv',VR D ρ' lv' x v:=by
 cases x <;> simp only[TV.pl,Bool.false_eq_true]at hx
 case sl t xs fl=>
  simp only[VR]at h ⊢;exact⟨h.1.kin hD Dm,λ_ _=>h⟩
 all_goals (simp only[VR]at h ⊢;subst h;exact⟨by simp[V.kin],λ_ _=>rfl⟩)
theorem VRL.plk(hD:D.Ok P):∀{xs:List (TV D.T)}{vs:List V},VRL D ρ lv xs vs->xs.all TV.pl=true->∀(Dm:Nat->Nat->Prop),V.z3h Dm vs∧∀ρ' lv',VRL D ρ' lv' xs vs
 |[],vs,h,_,Dm=>by simp only[VRL]at h ⊢;subst h;exact⟨by simp[V.z3h],λ_ _=>rfl⟩
 |x::xs,vs,h,ha,Dm=>by
  simp only[VRL]at h ⊢;obtain⟨v,r,rfl,h1,h2⟩:=h;simp only[List.all_cons,Qag]at ha;obtain⟨a1,a2⟩:=h1.plk hD ha.1 Dm;obtain⟨b1,b2⟩:=VRL.plk hD h2 ha.2 Dm;exact⟨by simp only[V.z3h];exact⟨a1,b1⟩,λρ' lv'=>⟨v,r,rfl,a2 _ _,b2 _ _⟩⟩
theorem y89(hD:D.Ok P)(hR:TRr D F ρ ts σ){s:Nat}{v:V}(h:VR D ρ F.lv (.own s) v):∃u,VS σ.H (λ_ _=>False) v u∧∀ρ' lv',VR D ρ' lv' (TV.see D ts (.own s)) u:=by
 have hH:=zar σ.H hR.lv hR.E;simp only[VR]at h;obtain⟨sl,h1,rfl,h2⟩:=h;unfold TV.see;split;rename_i ty t xs w ho;obtain⟨sl',b1,b2⟩:=hR.ob s _ ho
 rw[h1]at b1;injection b1 with b1;subst b1
 simp only[OR]at b2;obtain⟨q1,q2,q3⟩:=b2;have hdr:DR D (.sl t) xs (.sl (D.len t) sl.ws false):=.sl t xs sl.ws false q1 q2
 cases hk:sl.k with
 |none=>
  rw[hk]at q3
  rcases q3 with ⟨e1,e2⟩|⟨⟨e1,_⟩,_⟩
  rw[e1];have:xs=[]:=Qao (by rw[<-q1,e2];rfl);subst this;exact⟨.nils,.keep _ (by simp[V.kin]),λ_ _=>by simp only[VR];exact⟨.nil t,by omega,by omega⟩⟩;rw[e1];have hdr2:DR D (.sl t) xs (.sl (D.len t) sl.ws true):=.sl t xs sl.ws true q1 q2
  exact⟨_,.keep _ (hdr2.kin hD _),λ_ _=>by simp only[VR];exact⟨hdr2,by omega,by omega⟩⟩
 |some i=>
  rw[hk]at q3;obtain⟨ver,cp,e1,e2⟩:=q3;rw[e1];refine⟨.sl (D.len t) sl.ws false,?_,λ_ _=>by simp only[VR];exact⟨hdr,by omega,by omega⟩⟩;rw[hH];refine .hs _ i ver ty (D.len t) 0 _ false sl.ws sl.ws cp rfl ?_ rfl (λn w u hw hu =>?_) λn w u c a b hw hu ha hb =>?_
  show(if F.lv=F.lv then (σ.H.L[i]?).join else _)=_;rw[Qbr rfl,e2];rfl
  rw[Nat.zero_add,hu]at hw;injection hw with hw;subst hw;rfl
  rw[Nat.zero_add,hu]at hw;injection hw with hw;subst hw
  rw[ha]at hb;injection hb with hb;subst hb
  have hn:=(Qaa.1 hu).1;exact .keep _ (z2j (zax ((q2 n _ u (Qab (show n<xs.length by omega)) hu).kin hD _)) c a ha)
 rename_i ty q xs ho;obtain⟨sl',b1,b2⟩:=hR.ob s _ ho
 rw[h1]at b1;injection b1 with b1;subst b1
 obtain⟨u,e1,e2⟩:=(zsu b2).see (E:=F.E) hD;rw[<-hH]at e2;exact⟨u,e2,λ_ _=>by simp only[VR];exact⟨e1,by omega,by omega⟩⟩;exact⟨.any,.any _,λ_ _=>by simp only[VR]⟩
mutual
theorem y1q(hD:D.Ok P)(hR:TRr D F ρ ts σ):∀{x:TV D.T}{v:V},VR D ρ F.lv x v->∃u,VS σ.H (λ_ _=>False) v u∧∀ρ' lv',VR D ρ' lv' (TV.see D ts x) u
 |.own s,v,h=>y89 hD hR h
 |.agg cs,v,h=>by
  simp only[VR]at h;obtain⟨vs,rfl,h⟩:=h;obtain⟨us,h1,h2⟩:=zgf hD hR h
  exact⟨.agg us,.agg _ _ h1.length h1.get,λρ' lv'=>by simp only[TV.see,VR];exact⟨us,rfl,h2 _ _⟩⟩
 |.fn f a b,v,h=>by
  unfold TV.see;split;rename_i hc;simp only[Qag]at hc;simp only[VR]at h;obtain⟨as,bs,rfl,h1,h2⟩:=h;obtain⟨a1,a2⟩:=h1.plk hD hc.1 (λ_ _=>False);obtain⟨b1,b2⟩:=h2.plk hD hc.2 (λ_ _=>False);exact⟨_,.keep _ (by simp only[V.kin];exact⟨a1,b1⟩),λ_ _=>by simp only[VR];exact⟨as,bs,rfl,a2 _ _,b2 _ _⟩⟩
  exact⟨.any,.any _,λ_ _=>by simp only[VR]⟩
 |.sl t xs fl,v,h=>by
  simp only[VR]at h
  exact⟨v,.keep _ (h.1.kin hD _),λ_ _=>by simp only[TV.see,VR];exact⟨h.1,by omega,by omega⟩⟩
 |.bool b,v,h=>⟨v,.keep _ (h.plk hD rfl _).1,λ_ _=>by simpa only[TV.see]using(h.plk hD rfl (λ_ _=>False)).2 _ _⟩
 |.int k n,v,h=>⟨v,.keep _ (h.plk hD rfl _).1,λ_ _=>by simpa only[TV.see]using(h.plk hD rfl (λ_ _=>False)).2 _ _⟩
 |.str b,v,h=>⟨v,.keep _ (h.plk hD rfl _).1,λ_ _=>by simpa only[TV.see]using(h.plk hD rfl (λ_ _=>False)).2 _ _⟩
 |.nilp,v,h=>⟨v,.keep _ (h.plk hD rfl _).1,λ_ _=>by simpa only[TV.see]using(h.plk hD rfl (λ_ _=>False)).2 _ _⟩
 |.nils,v,h=>⟨v,.keep _ (h.plk hD rfl _).1,λ_ _=>by simpa only[TV.see]using(h.plk hD rfl (λ_ _=>False)).2 _ _⟩
 |.mapn,v,h=>⟨v,.keep _ (h.plk hD rfl _).1,λ_ _=>by simpa only[TV.see]using(h.plk hD rfl (λ_ _=>False)).2 _ _⟩
 |.nilf,v,h=>⟨v,.keep _ (h.plk hD rfl _).1,λ_ _=>by simpa only[TV.see]using(h.plk hD rfl (λ_ _=>False)).2 _ _⟩
 |.nili,v,h=>⟨v,.keep _ (h.plk hD rfl _).1,λ_ _=>by simpa only[TV.see]using(h.plk hD rfl (λ_ _=>False)).2 _ _⟩
 |.any,v,h=>⟨.any,.any _,λ_ _=>by simp only[TV.see,VR]⟩
 |.osl _ _,v,h=>⟨.any,.any _,λ_ _=>by simp only[TV.see,VR]⟩
 |.ptr _ _,v,h=>⟨.any,.any _,λ_ _=>by simp only[TV.see,VR]⟩
 |.bp _ _,v,h=>⟨.any,.any _,λ_ _=>by simp only[TV.see,VR]⟩
 |.ref _ _,v,h=>⟨.any,.any _,λ_ _=>by simp only[TV.see,VR]⟩
 |.ap _ _ _ _ _,v,h=>⟨.any,.any _,λ_ _=>by simp only[TV.see,VR]⟩
 |.map _,v,h=>⟨.any,.any _,λ_ _=>by simp only[TV.see,VR]⟩
 |.mc _ _,v,h=>⟨.any,.any _,λ_ _=>by simp only[TV.see,VR]⟩
 |.iface _ _,v,h=>⟨.any,.any _,λ_ _=>by simp only[TV.see,VR]⟩
 |.tup _,v,h=>⟨.any,.any _,λ_ _=>by simp only[TV.see,VR]⟩
 |.dp _ _ _,v,h=>⟨.any,.any _,λ_ _=>by simp only[TV.see,VR]⟩
 |.bsl _ _,v,h=>⟨.any,.any _,λ_ _=>by simp only[TV.see,VR]⟩
theorem zgf(hD:D.Ok P)(hR:TRr D F ρ ts σ):∀{xs:List (TV D.T)}{vs:List V},VRL D ρ F.lv xs vs->∃us,VSL σ.H (λ_ _=>False) vs us∧∀ρ' lv',VRL D ρ' lv' (TV.y0k D ts xs) us
 |[],vs,h=>by
  simp only[VRL]at h;subst h
  exact⟨[],.nil,λ_ _=>by simp only[TV.y0k,VRL]⟩
 |x::xs,vs,h=>by
  simp only[VRL]at h;obtain⟨v,r,rfl,h1,h2⟩:=h;obtain⟨u,a1,a2⟩:=y1q hD hR h1;obtain⟨us,b1,b2⟩:=zgf hD hR h2;exact⟨u::us,.cons a1 b1,λρ' lv'=>by simp only[TV.y0k,VRL];exact⟨u,us,rfl,a2 _ _,b2 _ _⟩⟩
end
theorem y8b{t:DTy}(h:t.flat=true){x:t.S D.T}{v:V}(hv:VR D ρ lv (D.tv t x) v):VFl v:=by
 cases t <;> simp only[DTy.flat,Bool.false_eq_true]at h
 simp only[Dat.tv,VR]at hv;subst hv;exact .bool _;simp only[Dat.tv,VR]at hv;subst hv;exact .int _ _;simp only[Dat.tv,VR]at hv;subst hv;exact .str _
theorem zva:∀(l:List Sh) {y:HL D.T (Sh.kzs l)}{vs:List V},l.all Sh.y5u=true->VRL D ρ lv (yzu D (λk=>k) l y) vs->∀v∈vs,VFl v
 |[],y,vs,_,h,v,hm=>by
  replace h:VRL D ρ lv [] vs:=h
  simp only[VRL]at h;subst h;cases hm
 |sh::l,y,vs,ha,h,v,hm=>by
  simp only[List.all_cons,Qag]at ha;replace h:VRL D ρ lv (z7q D (λk=>k) sh (HL.fst _ y)::yzu D (λk=>k) l (HL.snd _ y)) vs:=h;simp only[VRL]at h;obtain⟨u,r,rfl,h1,h2⟩:=h
  rcases Qbi.1 hm with rfl|hm
  ·cases sh <;> simp only[Sh.y5u,Bool.false_eq_true]at ha <;> first|exact ha.1.elim|skip
   case d t=>
    replace h1:VR D ρ lv (D.tv t (HL.fst _ y).1) v:=h1;exact y8b ha.1 h1
  exact zva l ha.2 h2 v hm
theorem y5y{vs:List V}(h:∀v∈vs,VFl v):VFl (z3x vs):=by
 unfold z3x;split;exact h _ (List.mem_singleton.2 rfl);exact .tup _ λj v hj=>h v (Qax hj)
theorem zc0{R:Type}(hD:D.Ok P)(hR:TRr D F ρ ts σ){f:Nat}{vs:List (TV D.T)}{vargs:List V}{k:TV D.T->TS D.T->Option R}{kf:Option R}{r:R}(hv:VRL D ρ F.lv vs vargs):∀{tbl:List (Ent D)},(∀e∈tbl,e.Ok P)->y1k D f vs ts k kf tbl=some r ->
  (∃rv z,zf7 P f vargs σ.H rv σ.H∧VR D ρ F.lv z rv∧k z ts=some r)∨kf=some r
 |[],_,h=>.inr h
 |e::tbl,htbl,h=>by
  simp only[y1k]at h;split at h;rename_i hc;simp only[Qag]at hc;obtain⟨⟨c1,c2⟩,c3⟩:=hc;have c1:=Qaj c1;subst c1;split at h;rename_i mx hfit;obtain⟨M,x⟩:=mx;have hok:=htbl e Qak _ _ _ _ _ h;rw[c2]at hok;obtain⟨y,hy,e1,e2,en,e3⟩:=hok;obtain⟨us,a1,a2⟩:=zgf hD hR hv;obtain⟨_,ρ0,d1,d2,d3,d4,d5⟩:=Ent.z8p hD hR (a2 ρ F.lv) hfit
  have hr0:ρ0=[]:=Qao (by rw[d1,e1];rfl);rw[hr0]at d4;obtain⟨ws,f1,f2⟩:=e3 F.lv us d4;refine .inl ⟨z3x ws,_,zrs f2 a1 (y5y (zva e.outs c3 (f1 [] F.lv))),VR.zje hD (f1 _ _),hy⟩;exact zc0 hD hR hv (λe he=>htbl e (Qai _ he)) h;exact zc0 hD hR hv (λe he=>htbl e (Qai _ he)) h
end
end Go.Ab
