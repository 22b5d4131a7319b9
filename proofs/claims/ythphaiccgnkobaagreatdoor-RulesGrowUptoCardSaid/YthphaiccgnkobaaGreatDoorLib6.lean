/-
  DEEP OWN MEMORY: folding and opening say nothing else of memory.
-/
import Derived.Test.YthphaiccgnkobaaGreatDoorLib5
import Derived.Test.YthphaiccgnkobaaGreatDoorLib4
namespace Go.Ab
open Go
set_option linter.unusedVariables false
set_option linter.unusedSimpArgs false
set_option linter.unusedSectionVars false
theorem yu3{T a b x}{y:b.S T}(h:y4a a b x=some y):∃e:a=b,y=e▸x:=by
 grind[y4a]
theorem yvi{T}:∀{l x z f t} {y:t.S T},HL.upd l x f t y=some z->∀j,HL.nth l z j=if j=f then some ⟨t,y⟩else HL.nth l x j
 |[],x,z,f,t,y,h=>by cases h
 |t0::l,x,z,0,t,y,h=>by
  unfold HL.upd at h
  cases h1:y4a t t0 y with
  |none=>rw[h1]at h;cases h
  |some y'=>
  rw[h1]at h;cases h;obtain⟨e1,e2⟩:=yu3 h1;subst e1;subst e2;intro j
  cases j with
  |zero=>rfl
  |succ j=>rfl
 |t0::l,x,z,f+1,t,y,h=>by
  unfold HL.upd at h
  cases h1:HL.upd l x.2 f t y with
  |none=>rw[h1]at h;cases h
  |some z'=>
  rw[h1]at h;cases h;intro j
  cases j with
  |zero=>rfl
  |succ j=>
   have:=yvi h1 j
   simp_all[HL.nth]
theorem z01y{T}:∀(l) (x:HL T l) (j),HL.at l x j=HL.nth l x j
 |[],_,_=>rfl
 |_::_,_,0=>rfl
 |_::l,x,j+1=>z01y l x.2 j
section
variable {P : Program} {D : Dat} {F : Fr} {ρ : List Slot} {ts : TS D.T} {σ : St} {lv : Nat} {L : List (Option kzg)}
theorem yyf{T}:∀{l x z f t} {y:t.S T},HL.upd l x f t y=some z->f<l.length
 |[],x,z,f,t,y,h=>by cases h
 |t0::l,x,z,0,t,y,h=>by simp
 |t0::l,x,z,f+1,t,y,h=>by
  unfold HL.upd at h
  cases h1:HL.upd l x.2 f t y with
  |none=>rw[h1]at h;cases h
  |some z'=>have:=yyf h1;simp;omega
theorem y3g{α:Type}{l:List α}{n a}(h:l[n]? = some a):l.set n a=l:=by
 apply List.ext_getElem?;intro i;rw[Qbd];split;rename_i e;subst e
 grind
 rfl
theorem yjc(hD:D.Ok P)(hR:TRr D F ρ ts σ){s c ty q f:Nat}{n:Int}{xs:List (D.T q)}(hs:fnd ts.o s=some (.deep ty q xs (some (n,f,c)))){o:TO D.T}(hc:fnd ts.o c=some o)(hol:o.live)(hne:c≠s){ty':Nat}{t':DTy}{ys:List (t'.S D.T)}(how:D.ow q f=some ty')
  {slc:Slot} (hslc:ρ[c]? = some slc) {fpc:List Nat}(hdo:DO D F.lv σ.H.L (.own ty') (.sl t') ys slc.v fpc) (hfpc:∀i∈fpc,slc.has i) (hnd:fpc.Nodup) {y:D.T q}{z:HL D.T (D.fl q)}(hy:ix xs n=some y) (hz:HL.upd (D.fl q) (D.get q y) f (.sl t') ys=some z) :
  ∃ρ',TRr D F ρ' ((ts.ztp [s,c] [.deep ty q (xs.set n.toNat (D.make q z)) none]).zdi D (TV.ren D s ts.nx)) σ:=by
 obtain⟨sl,k1,k2⟩:=hR.ob s _ hs;simp only[OR]at k2;obtain⟨q1,q3⟩:=k2
 cases hk:sl.k with
 |none=>rw[hk]at q3;cases q3.2.2.2
 |some j=>
 rw[hk]at q3;obtain⟨ver,cp,fps,e1,e2,e3,e4,e5,e6,e7⟩:=q3;obtain⟨p1,p2⟩:=zje hy;have hlt:n.toNat<xs.length:=(Qaa.1 p2).1;have hw:sl.ws[n.toNat]? = some (sl.ws[n.toNat]'(by omega)):=Qab (by omega);have hc0:fps[n.toNat]? = some (fps[n.toNat]'(by omega)):=Qab (by omega);obtain⟨vs,cs,b1,b2,b3,b4,b5⟩:=e6 n.toNat y _ _ p2 hw hc0;have hf:=yyf hz
 obtain⟨pf,hpf,_⟩:=HL.zkl (D.fl q) (D.get q y) f hf;have hu:vs[f]? = some (vs[f]'(by omega)):=Qab (by omega);have hb:cs[f]? = some (cs[f]'(by omega)):=Qab (by omega);have hole:=b5 f pf _ _ hpf hu hb;rw[show z2h (some (n,f,c)) n.toNat f=some c by simp[z2h]]at hole;obtain⟨g1,g2,g3,sl2,g4,g5⟩:=hole
 rw[hslc]at g4;injection g4 with g4;subst g4
 rw[g1]at hb;rw[g5]at hu;have hcs:(cs.set f fpc)[f]? = some fpc:=Qaq (by omega);have hback:(cs.set f fpc).set f []=cs:=by rw[List.set_set];exact y3g hb
 have perm1:(cs.set f fpc).flatten.Perm (fpc++cs.flatten):=by
  have:=zet (cs.set f fpc) f fpc fpc [] hcs (by simp);rw[hback]at this;exact this
 rw[b4]at hc0;have hfs:(fps.set n.toNat (cs.set f fpc).flatten)[n.toNat]? = some (cs.set f fpc).flatten:=Qaq (by omega)
 have perm2:(fps.set n.toNat (cs.set f fpc).flatten).flatten.Perm (fpc++sl.fp):=by
  have:=zet _ n.toNat _ fpc cs.flatten hfs perm1;rw[List.set_set,y3g hc0,<-e4]at this;exact this
 have hmem:∀i,i∈(fps.set n.toNat (cs.set f fpc).flatten).flatten->i∈fpc∨i∈sl.fp:=λi hi=>List.mem_append.1 (perm2.mem_iff.1 hi)
 have hap:∀i,slc.has i->sl.has i->False:=λi h1 h2=>hne (hR.inj c s o _ slc sl i hc hs hol trivial hslc k1 h1 h2)
 let sl':Slot:=⟨sl.v,sl.k,sl.ws,(fps.set n.toNat (cs.set f fpc).flatten).flatten⟩
 have hT:=hR.ztp [s,c] (λs0 h0=>by
  rcases Qbg.1 h0 with rfl|h0
  exact⟨_,sl,hs,trivial,k1⟩
  rcases Qbg.1 h0 with rfl|h0
  exact⟨o,slc,hc,hol,hslc⟩
  cases h0) [((.deep ty q (xs.set n.toNat (D.make q z)) none:TO D.T),sl')] σ.H hR.lv hR.E (Qbp _) (λ_ _ _=>rfl)
  (λp hp i hi=>by
   rcases Qbg.1 hp with rfl|hp
   rcases hi with hi|hi
   exact .inr ⟨s,Qak,sl,k1,.inl hi⟩
   rcases hmem i hi with hi|hi
   exact .inr ⟨c,Qai _ Qak,slc,hslc,hfpc i hi⟩;exact .inr ⟨s,Qak,sl,k1,.inr hi⟩
   cases hp)
  (λa b p p' i ha hb' _ _=>by
   have h1:=(Qaa.1 ha).1;have h2:=(Qaa.1 hb').1
   simp at h1 h2;omega)
  (λp hp=>by
   rcases Qbg.1 hp with rfl|hp
   simp only[OR];refine⟨by simpa using q1,?_⟩;show(match sl.k with|none=>_|some j=>_);rw[hk];refine⟨ver,cp,fps.set n.toNat (cs.set f fpc).flatten,e1,e2,by simpa using e3,rfl,?_,λm x w' c' m1 m2 m3 =>?_,λ_ _ _ h=>by cases h⟩;refine perm2.nodup_iff.2 (List.nodup_append.2 ⟨hnd,e5,λa ha b hb' e =>?_⟩);subst e;exact hap a (hfpc a ha) (.inr hb');by_cases hm:n.toNat=m;subst hm
   rw[Qaq hlt]at m1;injection m1 with m1;subst m1
   rw[hfs]at m3;injection m3 with m3;subst m3
   have m2':sl.ws[n.toNat]? = some w':=m2
   rw[hw]at m2';injection m2' with m2'
   refine⟨vs,cs.set f fpc,m2'.symm.trans b1,b2,by simpa using b3,rfl,λf' p' u' b' r1 r2 r3 =>?_⟩;show DO D F.lv σ.H.L (ywn (D.ow q f')) p'.1 p'.2 u' b';rw[hD.getMake,yvi hz]at r1;by_cases hff:f'=f;subst hff
   rw[Qbq rfl]at r1;injection r1 with r1;subst r1
   rw[hu]at r2;injection r2 with r2;subst r2
   rw[hcs]at r3;injection r3 with r3;subst r3
   rw[how];exact hdo;rw[Qbr hff]at r1;rw[Qam (λe=>hff e.symm)]at r3;have:=b5 f' p' u' b' r1 r2 r3;rw[show z2h (some (n,f,c)) n.toNat f'=none by simp[z2h];exact λe=>hff e.symm]at this;exact this;rw[Qam hm]at m1;rw[Qam hm]at m3;obtain⟨vs',cs',d1,d2,d3,d4,d5⟩:=e6 m x w' c' m1 m2 m3;refine⟨vs',cs',d1,d2,d3,d4,λf' p' u' b' r1 r2 r3 =>?_⟩
   have:=d5 f' p' u' b' r1 r2 r3;rw[show z2h (some (n,f,c)) m f'=none by simp[z2h];exact λe=>(hm e).elim]at this;exact this
   cases hp)
  (λp hp i hi=>by
   rcases Qbg.1 hp with rfl|hp
   rcases hmem i hi with hi|hi
   refine⟨λe=>hap i (hfpc i hi) (.inl e),?_⟩;exact hR.at hc hol hslc (hfpc i hi);exact hR.fpl s _ sl i hs trivial k1 hi
   cases hp)
 refine⟨_,hT.zdi (TV.ren D s ts.nx) λx v h=>VR.ren (sl:=sl) (sl':=sl') (lookup_append k1) ?_ rfl h⟩;rw[<-hR.nx];simp
theorem TRr.yw0(hR:TRr D F ρ ts σ){s o sl}(hs:fnd ts.o s=some o)(hl:o.live)(h:ρ[s]? = some sl)(hn:sl.fp.Nodup):sl.all.Nodup:=by
 unfold Slot.all
 cases hk:sl.k with
 |none=>simpa using hn
 |some j=>
  refine List.nodup_cons.2 ⟨λhm =>?_,hn⟩;exact(hR.fpl s o sl j hs hl h hm).1 hk
theorem yc9{R}(hD:D.Ok P)(hR:TRr D F ρ ts σ){s k}{r:R}(h:ts.fold D s k=some r):∃ts' ρ',TRr D F ρ' ts' σ∧k ts'=some r∧ts'.t=ts.t.map (λp=>(p.1,TV.ren D s ts.nx p.2))∧ts'.nt=ts.nt:=by
 unfold TS.fold at h;split at h;rename_i ty q xs n f c hs;split at h;rename_i ty' how;split at h;rename_i ty2 q' ys hc;split at h;rename_i hcc;obtain⟨rfl,hne⟩:=hcc;obtain⟨y,hy,h⟩:=z1p h;split at h;rename_i z hz;obtain⟨slc,c1,c2⟩:=hR.ob c _ hc
 have hn:slc.fp.Nodup:=by
  grind[OR]
 obtain⟨ρ',w⟩:=yjc hD hR hs hc trivial hne how c1 (ymz c2) (λi hi=>Slot.zyb.1 hi) (hR.yw0 hc trivial c1 hn) hy hz;exact⟨_,ρ',w,h,rfl,rfl⟩;cases h;cases h;rename_i ty2 t' ys hc;split at h;rename_i hcc;obtain⟨rfl,hne,hpl⟩:=hcc;obtain⟨y,hy,h⟩:=z1p h;split at h;rename_i z hz;obtain⟨slc,c1,c2⟩:=hR.ob c _ hc
 obtain⟨ρ',w⟩:=yjc hD hR hs hc trivial hne how c1 (z05x c2 hpl) (λi hi=>.inl (by grind)) (by cases slc.k <;> simp) hy hz;exact⟨_,ρ',w,h,rfl,rfl⟩;cases h;cases h;cases h;cases h;cases h
end
section
variable {P : Program} {D : Dat} {F : Fr} {ρ : List Slot} {ts : TS D.T} {σ : St} {lv : Nat} {L : List (Option kzg)}
theorem yp0{t x w c}(h:DO D lv L .el t x w c)(ht:D.zo4 t=true):DR D t x w:=by
 cases h with
 |elf _ h=>exact h
 |el hl hc h=>
  rename_i i y vs cs;refine .st _ _ _ hl λf p u h1 h2 =>?_
  have hf:=(HL.zg4 _ _ _ _ h1).1;obtain⟨b,hb⟩:∃b,cs[f]? = some b:=⟨_,Qab (show f<cs.length by omega)⟩;have:=h f p u b h1 h2 hb;rw[y2s ht i f hf rfl]at this
  cases this with
  |dat h=>exact h
theorem ysg{q}{x:D.T q}{w c}(h:DO D lv L .el (.st q) x w c)(ht:D.owns q=true)(ρ)(n):EO D ρ lv L q none n x w c:=by
 cases h with
 |elf h1 h=>
  simp[Dat.owns,List.mem_range]at ht
  grind
 |el hl hc h=>exact⟨_,_,rfl,hl,hc,rfl,λf p u b h1 h2 h3=>h f p u b h1 h2 h3⟩
theorem z02b{ty}{t:DTy}{xs:List (t.S D.T)}{v fp}(h:DO D lv L (.own ty) (.sl t) xs v fp)(h1:D.zo4 t=true)(hu:t ≠ .int .u8):∃sl:Slot,sl.v=v∧v.leaf=true∧sl.all=fp∧∀ρ,OR D ρ lv L sl (.acc ty t xs true):=by
 cases h with
 |nil h hv=>
  refine⟨⟨v,none,[],[]⟩,rfl,by rcases hv with rfl|rfl <;> rfl,rfl,λρ =>?_⟩;unfold OR
  rcases hv with rfl|rfl
  grind
  grind
 |own hL hl hf he=>
  rename_i j ver cp ws fps;refine⟨⟨.hs lv j ver 0 ws.length false,some j,ws,fps.flatten⟩,rfl,rfl,rfl,λρ =>?_⟩;refine⟨hl,λn x w h2 h3 =>?_,ver,cp,rfl,hL⟩;have hn:n<fps.length:=by grind
  exact yp0 (he n x w _ h2 h3 (Qab hn)) h1
theorem z041{ty q}{xs:List (D.T q)}{v fp}(h:DO D lv L (.own ty) (.sl (.st q)) xs v fp)(h1:D.owns q=true)(hn:fp.Nodup):∃sl:Slot,sl.v=v∧v.leaf=true∧sl.all=fp∧∀ρ,OR D ρ lv L sl (.deep ty q xs none):=by
 cases h with
 |nil h hv=>
  refine⟨⟨v,none,[],[]⟩,rfl,by rcases hv with rfl|rfl <;> rfl,rfl,λρ =>?_⟩
  exact⟨rfl,rfl,hv,rfl,rfl⟩
 |own hL hl hf he=>
  rename_i j ver cp ws fps;refine⟨⟨.hs lv j ver 0 ws.length false,some j,ws,fps.flatten⟩,rfl,rfl,rfl,λρ =>?_⟩;exact⟨hl,ver,cp,fps,rfl,hL,hf,rfl,(List.nodup_cons.1 hn).2,λn x w c h2 h3 h4=>ysg (he n x w c h2 h3 h4) h1 ρ n,λ_ _ _ h=>by cases h⟩
theorem ybw(hD:D.Ok P)(hR:TRr D F ρ ts σ){s ty q f:Nat}{n:Int}{xs:List (D.T q)}(hs:fnd ts.o s=some (.deep ty q xs none)){ty':Nat}{t':DTy}{ys:List (t'.S D.T)}(how:D.ow q f=some ty')
  {y:D.T q} (hy:ix xs n=some y) (hz:HL.nth (D.fl q) (D.get q y) f=some ⟨.sl t',ys⟩) {to:TO D.T}(hto:∀v fp,DO D F.lv σ.H.L (.own ty') (.sl t') ys v fp->fp.Nodup->∃slc:Slot,slc.v=v∧v.leaf=true∧slc.all=fp∧∀ρ,OR D ρ F.lv σ.H.L slc to) :
  ∃ρ',TRr D F ρ' ((ts.ztp [s] [.deep ty q xs (some (n,f,ts.nx+1)),to]).zdi D (TV.ren D s ts.nx)) σ∧∃j ver m w u,σ.H.L[j]? = some (some (.arr ver ty (D.len (.st q)) m w))∧(∃sl,ρ[s]? = some sl∧sl.v = .hs F.lv j ver 0 m.length false)∧(m[n.toNat]?.bind λx=>x.cells[f]?)=some u∧VR D ρ' F.lv (.own (ts.nx+1)) u:=by
 obtain⟨sl,k1,k2⟩:=hR.ob s _ hs;simp only[OR]at k2;obtain⟨q1,q3⟩:=k2;obtain⟨p1,p2⟩:=zje hy;have hlt:n.toNat<xs.length:=(Qaa.1 p2).1
 cases hk:sl.k with
 |none=>rw[hk]at q3;rw[q3.1]at hlt;simp at hlt
 |some j=>
 rw[hk]at q3;obtain⟨ver,cp,fps,e1,e2,e3,e4,e5,e6,e7⟩:=q3;have hw:sl.ws[n.toNat]? = some (sl.ws[n.toNat]'(by omega)):=Qab (by omega);have hc0:fps[n.toNat]? = some (fps[n.toNat]'(by omega)):=Qab (by omega);obtain⟨vs,cs,b1,b2,b3,b4,b5⟩:=e6 n.toNat y _ _ p2 hw hc0;have hf:=(HL.zg4 _ _ _ _ hz).1
 have hu:vs[f]? = some (vs[f]'(by omega)):=Qab (by omega);have hb:cs[f]? = some (cs[f]'(by omega)):=Qab (by omega);have hdo:DO D F.lv σ.H.L (ywn (D.ow q f)) (.sl t') ys _ _:=b5 f ⟨.sl t',ys⟩ _ _ hz hu hb;rw[how]at hdo;rw[b4]at hc0
 have perm0:sl.fp.Perm ((cs[f]'(by omega))++(fps.set n.toNat (cs.set f []).flatten).flatten):=by rw[e4];exact zet fps n.toNat _ _ _ hc0 (zet cs f _ _ [] hb (by simp))
 obtain⟨slc,c1,c2,c3,c4⟩:=hto _ _ hdo (List.nodup_append.1 (perm0.nodup_iff.1 e5)).1;have perm2:sl.fp.Perm (slc.all++(fps.set n.toNat (cs.set f []).flatten).flatten):=by rw[c3];exact perm0
 have hnd:=perm2.nodup_iff.1 e5;obtain⟨hn1,hn2,hn3⟩:=List.nodup_append.1 hnd;have hin:∀i,slc.has i->i∈sl.fp:=λi h=>perm2.mem_iff.2 (List.mem_append_left _ (Slot.zyb.2 h))
 have hin2:∀i,i∈(fps.set n.toNat (cs.set f []).flatten).flatten->i∈sl.fp:=λi h=>perm2.mem_iff.2 (List.mem_append_right _ h)
 let sl':Slot:=⟨sl.v,sl.k,sl.ws,(fps.set n.toNat (cs.set f []).flatten).flatten⟩
 have hkn:∀i,i∈sl.fp->sl.k≠some i:=λi h=>(hR.fpl s _ sl i hs trivial k1 h).1
 have hget1:(ρ++[sl',slc])[ts.nx]? = some sl':=by rw[<-hR.nx];simp
 have hget2:(ρ++[sl',slc])[ts.nx+1]? = some slc:=by rw[<-hR.nx,Qav (by omega)];simp
 have hT:=hR.ztp [s] (λs0 h0=>by
  rcases Qbg.1 h0 with rfl|h0
  exact⟨_,sl,hs,trivial,k1⟩
  cases h0) [((.deep ty q xs (some (n,f,ts.nx+1)):TO D.T),sl'),(to,slc)] σ.H hR.lv hR.E (Qbp _) (λ_ _ _=>rfl)
  (λp hp i hi=>by
   refine .inr ⟨s,Qak,sl,k1,?_⟩
   rcases Qbg.1 hp with rfl|hp
   rcases hi with hi|hi
   exact .inl hi;exact .inr (hin2 i hi)
   rcases Qbg.1 hp with rfl|hp
   exact .inr (hin i hi)
   cases hp)
  (λa b p p' i ha hb' h1 h2=>by
   have apart:sl'.has i->slc.has i->False:=λh1 h2=>by
    rcases h1 with h1|h1
    exact hkn i (hin i h2) h1;exact hn3 i (Slot.zyb.2 h2) i h1 rfl
   have l1:=(Qaa.1 ha).1;have l2:=(Qaa.1 hb').1;simp at l1 l2
   match a,b,ha,hb',l1,l2 with
   |0,0,_,_,_,_=>rfl
   |1,1,_,_,_,_=>rfl
   |0,1,ha,hb',_,_=>simp at ha hb';subst ha;subst hb';exact(apart h1 h2).elim
   |1,0,ha,hb',_,_=>simp at ha hb';subst ha;subst hb';exact(apart h2 h1).elim
   |a+2,_,_,_,l1,_=>omega
   |0,b+2,_,_,_,l2=>omega
   |1,b+2,_,_,_,l2=>omega)
  (λp hp=>by
   rcases Qbg.1 hp with rfl|hp
   simp only[OR];refine⟨q1,?_⟩;show(match sl.k with|none=>_|some j=>_);rw[hk];refine⟨ver,cp,fps.set n.toNat (cs.set f []).flatten,e1,e2,by simpa using e3,rfl,hn2,λm x w' c' m1 m2 m3 =>?_,λn' f' s' e =>?_⟩;by_cases hm:n.toNat=m;subst hm
   rw[p2]at m1;injection m1 with m1;subst m1
   rw[Qaq (by omega)]at m3;injection m3 with m3;subst m3
   have m2':sl.ws[n.toNat]? = some w':=m2
   rw[hw]at m2';injection m2' with m2'
   refine⟨vs,cs.set f [],m2'.symm.trans b1,b2,by simpa using b3,rfl,λf' p' u' b' r1 r2 r3 =>?_⟩;by_cases hff:f'=f;subst hff;rw[show z2h (some (n,f',ts.nx+1)) n.toNat f'=some (ts.nx+1) by simp[z2h]]
   rw[Qaq (by omega)]at r3;injection r3 with r3;subst r3
   rw[hu]at r2;injection r2 with r2;subst r2
   exact⟨rfl,by rw[how];rfl,c2,slc,hget2,c1.symm⟩;rw[show z2h (some (n,f,ts.nx+1)) n.toNat f'=none by simp[z2h];exact λe=>hff e.symm];rw[Qam (λe=>hff e.symm)]at r3;exact b5 f' p' u' b' r1 r2 r3;rw[Qam hm]at m3;obtain⟨vs',cs',d1,d2,d3,d4,d5⟩:=e6 m x w' c' m1 m2 m3;refine⟨vs',cs',d1,d2,d3,d4,λf' p' u' b' r1 r2 r3 =>?_⟩
   rw[show z2h (some (n,f,ts.nx+1)) m f'=none by simp[z2h];exact λe=>(hm e).elim];exact d5 f' p' u' b' r1 r2 r3;simp only[Qbn,Qbs]at e;obtain⟨rfl,rfl,rfl⟩:=e;exact⟨p1,hlt⟩
   rcases Qbg.1 hp with rfl|hp
   exact c4 _
   cases hp)
  (λp hp i hi=>by
   rcases Qbg.1 hp with rfl|hp
   exact hR.fpl s _ sl i hs trivial k1 (hin2 i hi)
   rcases Qbg.1 hp with rfl|hp
   refine⟨λe =>?_,(hR.fpl s _ sl i hs trivial k1 (hin i (.inr hi))).2⟩;have:slc.all=i::slc.fp:=by unfold Slot.all;rw[e];rfl
   rw[this]at hn1;exact(List.nodup_cons.1 hn1).1 hi
   cases hp)
 refine⟨_,hT.zdi (TV.ren D s ts.nx) λx v h=>VR.ren (sl:=sl) (sl':=sl') (lookup_append k1) hget1 rfl h,j,ver,sl.ws,cp,vs[f]'(by omega),e2,⟨sl,k1,e1⟩,?_,?_⟩;rw[hw];show(sl.ws[n.toNat]'(by omega)).cells[f]? = _;rw[b1];exact hu;simp only[VR];exact⟨slc,hget2,c1.symm,c2⟩
theorem yjl{R}(hD:D.Ok P)(hR:TRr D F ρ ts σ){s f n k}{r:R}(h:ts.opn D s n f k=some r) :
  ∃ts' ρ' ty q j ver cp m u,k (.own (ts.nx+1)) ts'=some r∧TRr D F ρ' ts' σ∧σ.H.L[j]? = some (some (.arr ver ty (D.len (.st q)) m cp))∧(∃sl,ρ[s]? = some sl∧sl.v = .hs F.lv j ver 0 m.length false)∧(m[n.toNat]?.bind λx=>x.cells[f]?)=some u∧VR D ρ' F.lv (.own (ts.nx+1)) u:=by
 unfold TS.opn at h;split at h;rename_i ty q xs hs;split at h;rename_i ty' how;obtain⟨y,hy,h⟩:=z1p h;rw[z01y]at h;split at h;rename_i q' ys hz;split at h;rename_i ho;obtain⟨ρ',w1,j,ver,m,w,u,w2,w3,w4,w5⟩:=ybw hD hR hs how hy hz λv fp hd hn=>z041 hd ho hn
 grind
 rename_i ho;obtain⟨ρ',w1,j,ver,m,w,u,w2,w3,w4,w5⟩:=ybw hD hR hs how hy hz λv fp hd hn=>z02b hd (by simp[Dat.zo4,ho]) (by intro e;cases e)
 grind
 rename_i t' ys _ hz;split at h;rename_i hc;simp[decide_eq_false_iff_not]at hc;obtain⟨ρ',w1,j,ver,m,w,u,w2,w3,w4,w5⟩:=ybw hD hR hs how hy hz λv fp hd hn=>z02b hd hc.1 hc.2
 grind
 cases h;cases h;cases h;cases h
end
theorem z012{T a b x}{y:b.S T}(h:y4a a b x=some y):∃e:a=b,y=e▸x:=by
 grind[y4a]
theorem HL.zlq{T}:∀{a b} (x) (y:HL T b),HL.fst a (HL.app x y)=x
 |[],_,_,_=>rfl
 |_::_,_,x,y=>by simp[HL.app,HL.fst];rw[HL.zlq];rfl
theorem HL.zls{T}:∀{a b} (x) (y:HL T b),HL.snd a (HL.app x y)=y
 |[],_,_,_=>rfl
 |_::_,_,x,y=>by simp[HL.app,HL.snd];rw[HL.zls]
section
variable (D : Dat) (n : Nat) (M : z8s D.T) (c : TV D.T)
theorem z022:y9x D n .any c M = .ok (M,()):=rfl
theorem z062(t):y9x D n (.d t) c M=(match asD D t c with
 |.ok x=>.ok (M,(x,()))
 |.frz s=>.frz s
 |.bad=>.bad):=rfl
theorem z04u(f)(a b)(f')(a' b'):y9x D n (.fn f a b) (.fn f' a' b') M=if f=f' then (match zyw D n a a' M with
 |.ok (M,x)=>match zyw D n b b' M with
  |.ok (M,y)=>.ok (M,HL.app x y)
  |.frz s=>.frz s
  |.bad=>.bad
 |.frz s=>.frz s
 |.bad=>.bad)else .bad:=rfl
theorem yx5(cs)(sh)(l):zyw D n (sh::l) (c::cs) M=(match y9x D n sh c M with
 |.ok (M,x)=>match zyw D n l cs M with
  |.ok (M,y)=>.ok (M,HL.app x y)
  |.frz s=>.frz s
  |.bad=>.bad
 |.frz s=>.frz s
 |.bad=>.bad):=rfl
variable (m : Nat → Nat)
theorem z042(f)(a b)(x)(y):zq2 D m (.fn f a b) (HL.app x y) = .fn f (z1u D m a x) (z1u D m b y):=by
 show TV.fn f (z1u D m a (HL.fst _ (HL.app x y))) (z1u D m b (HL.snd _ (HL.app x y)))=_;rw[HL.zlq,HL.zls]
theorem ywd(sh)(l)(x)(y):z1u D m (sh::l) (HL.app x y)=zq2 D m sh x::z1u D m l y:=by
 grind[z1u,HL.zlq,HL.zls]
end
theorem z2o{α}:∀{l j} {a:α},fnd l j=some a->(j,a)∈l
 |[],j,a,h=>by simp[fnd]at h
 |(i,b)::r,j,a,h=>by
  rw[zz9]at h;split at h
  grind
  exact Qai _ (z2o h)
section
variable {P : Program} {D : Dat} {F : Fr} {ρ : List Slot} {ts : TS D.T} {σ : St} {lv : Nat} {T : Nat → Type}
def zo8:Slot:=⟨.nils,none,[],[]⟩
def Src.is(ρ:List Slot)(sl:Slot):Src T->Prop
 |.slot s=>ρ[s]? = some sl
 |.nil=>sl=zo8
def Agr(ρ:List Slot)(M:z8s T)(ρ':List Slot):Prop:=∀(k) (src),fnd M k=some src->∃sl,ρ'[k]? = some sl∧src.is ρ sl
structure MOk(n:Nat)(M:z8s T):Prop where
 lt:∀k src,fnd M k=some src->k<n
 inj:∀k k' s,fnd M k=some (.slot s)->fnd M k'=some (.slot s)->k=k'
 one:∀k src,(k,src)∈M->fnd M k=some src
def yfs(M M':z8s T):Prop:=∀k src,fnd M k=some src->fnd M' k=some src
theorem yfs.agr{M M':z8s T}(h:yfs M M'){ρ'}(k:Agr ρ M' ρ'):Agr ρ M ρ':=λj src hj=>k j src (h j src hj)
theorem zat{n k s}{M M':z8s T}(h:zg8 n k s M=some M'):yfs M M'∧fnd M' k=some (.slot s)∧(MOk n M->MOk n M'):=by
 unfold zg8 at h;split at h;rename_i s' hk;split at h
 rename_i e;injection h with h;subst h;subst e;exact⟨λ_ _ h=>h,hk,λh=>h⟩
 cases h;cases h;split at h;rename_i hc;cases h
 refine⟨λj src hj =>?_,by rw[zz9,Qbq rfl],λhM=>⟨λj src hj =>?_,λj j' q hj hj' =>?_,λj src hm=>by
  rw[zz9]
  rcases Qbg.1 hm with hm|hm
  injection hm with h1 h2;grind;have:=hM.one j src hm;split
  grind
  exact this⟩⟩
 grind[zz9]
 rw[zz9]at hj;split at hj;omega;exact hM.lt j src hj
 have hno:∀j',fnd M j'≠some (.slot s):=λj' hj'=>by
  have:=Qat.1 hc.2 _ (z2o hj');simp[Src.z026]at this
 rw[zz9]at hj hj';split at hj <;> split at hj'
 omega
 grind
 grind
 exact hM.inj j j' q hj hj';cases h
theorem y8l{n k}{M M':z8s T}(h:yrx n k M=some M'):yfs M M'∧fnd M' k=some .nil∧(MOk n M->MOk n M'):=by
 unfold yrx at h;split at h;rename_i hk;cases h;exact⟨λ_ _ h=>h,hk,λh=>h⟩;cases h;split at h;rename_i hc;cases h
 refine⟨λj src hj =>?_,by rw[zz9,Qbq rfl],λhM=>⟨λj src hj =>?_,λj j' q hj hj' =>?_,λj src hm=>by
  rw[zz9]
  rcases Qbg.1 hm with hm|hm
  injection hm with h1 h2;grind;have:=hM.one j src hm;split
  grind
  exact this⟩⟩
 grind[zz9]
 rw[zz9]at hj;split at hj;omega;exact hM.lt j src hj;rw[zz9]at hj hj';split at hj
 grind
 split at hj'
 grind
 exact hM.inj j j' q hj hj';cases h
theorem FR.inj{α}{a b:α}(h:FR.ok a=FR.ok b):a=b:=by cases h;rfl
theorem FR.pair{α β}{a c:α}{b d:β}(h:FR.ok (a,b)=FR.ok (c,d)):a=c∧b=d:=⟨congrArg Prod.fst (FR.inj h),congrArg Prod.snd (FR.inj h)⟩
theorem y2v{o}{M:z8s T}{u}(h:frU o = .ok (M,u)):o=some M:=by
 unfold frU at h;split at h
 grind
 cases h
def y2c(D:Dat)(ρ:List Slot)(lv n:Nat)(M M':z8s D.T)(x:TV D.T)(v:V):Prop:=yfs M M'∧(MOk n M->MOk n M')∧∀ρ',Agr ρ M' ρ'->VR D ρ' lv x v
def FitL(D:Dat)(ρ:List Slot)(lv n:Nat)(M M':z8s D.T)(xs:List (TV D.T))(vs:List V):Prop:=yfs M M'∧(MOk n M->MOk n M')∧∀ρ',Agr ρ M' ρ'->VRL D ρ' lv xs vs
theorem EO.z05u{ρ' L q n x w c}(h:EO D ρ lv L q none n x w c):EO D ρ' lv L q none n x w c:=h
theorem EO.z7s{ρ' L q n f s s' i x w c sl}(h:EO D ρ lv L q (some (i,f,s)) n x w c)(h1:ρ[s]? = some sl)(h2:ρ'[s']? = some sl):EO D ρ' lv L q (some (i,f,s')) n x w c:=by
 obtain⟨vs,cs,a1,a2,a3,a4,a5⟩:=h;refine⟨vs,cs,a1,a2,a3,a4,λf' p u b e1 e2 e3 =>?_⟩;have:=a5 f' p u b e1 e2 e3;by_cases hc:i.toNat=n∧f=f';simp[z2h,Qbq hc]at this ⊢
 grind
 simp_all[z2h,Qbr]
variable (hD : D.Ok P)
include hD
mutual
theorem znk{n:Nat}:∀(sh:Sh) {c:TV D.T}{v:V}{M M':z8s D.T}{x:HL D.T sh.tys},y9x D n sh c M = .ok (M',x)->VR D ρ lv c v->y2c D ρ lv n M M' (zq2 D (λk=>k) sh x) v
 |.any,c,v,M,M',x,h,hv=>by
  rw[z022]at h;cases h
  exact⟨λ_ _ h=>h,λh=>h,λρ' _=>(by simp only[VR]:VR D ρ' lv .any v)⟩
 |.d t,c,v,M,M',x,h,hv=>by
  rw[z062]at h;split at h;rename_i y hy;cases h;exact⟨λ_ _ h=>h,λh=>h,λρ' _=>(VR.tv hD (zj0 hD hy hv):VR D ρ' lv (D.tv t y) v)⟩;cases h
  cases h
 |.own k,c,v,M,M',x,h,hv=>by
  show y2c D ρ lv n M M' (.own k) v
  cases c <;> first|(cases h;done)|skip
  case own s=>
   obtain⟨h1,h2,h3⟩:=zat (y2v h);refine⟨h1,h3,λρ' ha =>?_⟩;obtain⟨sl,e1,e2⟩:=ha k _ h2;simp only[Src.is]at e2;simp only[VR]at hv;obtain⟨sl',e3,e4,e5⟩:=hv
   rw[e2]at e3;injection e3 with e3;subst e3
   simp only[VR];exact⟨sl,e1,e4,e5⟩
  case nils=>
   obtain⟨h1,h2,h3⟩:=y8l (y2v h);refine⟨h1,h3,λρ' ha =>?_⟩;obtain⟨sl,e1,e2⟩:=ha k _ h2;simp only[Src.is]at e2;subst e2;simp only[VR]at hv;subst hv;simp only[VR]
   exact⟨zo8,e1,rfl,rfl⟩
 |.ptr k off,c,v,M,M',x,h,hv=>by
  show y2c D ρ lv n M M' (.ptr k off) v
  cases c <;> first|(cases h;done)|skip
  case ptr s off'=>
   replace h:(if off=off' then frU (zg8 n k s M)else .bad) = .ok (M',()):=h;by_cases e:off=off';rw[Qbq e]at h;subst e;obtain⟨h1,h2,h3⟩:=zat (y2v h);refine⟨h1,h3,λρ' ha =>?_⟩;obtain⟨sl,e1,e2⟩:=ha k _ h2;simp only[Src.is]at e2;simp only[VR]at hv;obtain⟨sl',i,e3,e4,e5⟩:=hv
   rw[e2]at e3;injection e3 with e3;subst e3
   simp only[VR];exact⟨sl,i,e1,e4,e5⟩
   rw[Qbr e]at h;cases h
 |.map k,c,v,M,M',x,h,hv=>by
  show y2c D ρ lv n M M' (.map k) v
  cases c <;> first|(cases h;done)|skip
  case map s=>
   obtain⟨h1,h2,h3⟩:=zat (y2v h);refine⟨h1,h3,λρ' ha =>?_⟩;obtain⟨sl,e1,e2⟩:=ha k _ h2;simp only[Src.is]at e2;simp only[VR]at hv;obtain⟨sl',i,e3,e4,e5⟩:=hv
   rw[e2]at e3;injection e3 with e3;subst e3
   simp only[VR]
   exact⟨sl,i,e1,e4,e5⟩
 |.mc t,c,v,M,M',x,h,hv=>by
  cases c <;> first|(cases h;done)|skip
  case mc t' es=>
   replace h:(match zvs t' t es with|some es=>FR.ok (M,(List.map Prod.fst es,(List.map Prod.snd es,())))|none=>.bad) = .ok (M',x):=h
   cases hys:zvs t' t es with
   |none=>rw[hys]at h;cases h
   |some ys=>
    rw[hys]at h;obtain⟨e1,e2⟩:=y1m hys;subst e1;replace e2:ys=es:=e2;subst e2;cases h;refine⟨λ_ _ h=>h,λh=>h,λρ' ha =>?_⟩;show VR D ρ' lv (.mc t' (List.zip (List.map Prod.fst ys) (List.map Prod.snd ys))) v;rw[show List.zip (List.map Prod.fst ys) (List.map Prod.snd ys)=ys from yea ys];unfold VR at hv ⊢
    exact hv
 |.bp k,c,v,M,M',x,h,hv=>by
  show y2c D ρ lv n M M' (.bp k 0) v
  cases c <;> first|(cases h;done)|skip
  case bp s off=>
   cases off with
   |succ off=>cases h
   |zero=>
   obtain⟨h1,h2,h3⟩:=zat (y2v h);refine⟨h1,h3,λρ' ha =>?_⟩;obtain⟨sl,e1,e2⟩:=ha k _ h2;simp only[Src.is]at e2;simp only[VR]at hv;obtain⟨sl',i,e3,e4,e5⟩:=hv
   rw[e2]at e3;injection e3 with e3;subst e3
   simp only[VR]
   exact⟨sl,i,e1,e4,e5⟩
 |.nilp,c,v,M,M',x,h,hv=>by
  show y2c D ρ lv n M M' .nilp v
  cases c <;> first|(cases h;done)|skip
  cases h;exact⟨λ_ _ h=>h,λh=>h,λρ' _=>by simpa only[VR]using hv⟩
 |.nilf,c,v,M,M',x,h,hv=>by
  show y2c D ρ lv n M M' .nilf v
  cases c <;> first|(cases h;done)|skip
  cases h;exact⟨λ_ _ h=>h,λh=>h,λρ' _=>by simpa only[VR]using hv⟩
 |.nili,c,v,M,M',x,h,hv=>by
  show y2c D ρ lv n M M' .nili v
  cases c <;> first|(cases h;done)|skip
  cases h;exact⟨λ_ _ h=>h,λh=>h,λρ' _=>by simpa only[VR]using hv⟩
 |.nils,c,v,M,M',x,h,hv=>by
  show y2c D ρ lv n M M' .nils v
  cases c <;> first|(cases h;done)|skip
  cases h;exact⟨λ_ _ h=>h,λh=>h,λρ' _=>by simpa only[VR]using hv⟩
 |.fn f a b,c,v,M,M',x,h,hv=>by
  cases c <;> first|(cases h;done)|skip
  case fn f' a' b'=>
   rw[z04u]at h;by_cases e:f=f';rw[Qbq e]at h;subst e;split at h;rename_i M1 y hy;split at h;rename_i M2 z hz;cases h;simp only[VR]at hv;obtain⟨as,bs,rfl,k1,k2⟩:=hv;obtain⟨a1,a2,a3⟩:=zeo a hy k1;obtain⟨b1,b2,b3⟩:=zeo b hz k2;refine⟨λj src hj=>b1 j src (a1 j src hj),λh=>b2 (a2 h),λρ' ha =>?_⟩;rw[z042];simp only[VR];exact⟨as,bs,rfl,a3 ρ' (b1.agr ha),b3 ρ' ha⟩;cases h;cases h;cases h;cases h
   rw[Qbr e]at h;cases h
 |.iface t s,c,v,M,M',x,h,hv=>by
  show y2c D ρ lv n M M' (.iface t (zq2 D (λk=>k) s x)) v
  cases c <;> first|(cases h;done)|skip
  case iface t' y'=>
   replace h:(if t=t' then y9x D n s y' M else .bad) = .ok (M',x):=h;by_cases e:t=t';rw[Qbq e]at h;subst e;simp only[VR]at hv;obtain⟨y,rfl,k1⟩:=hv;obtain⟨a1,a2,a3⟩:=znk s h k1;exact⟨a1,a2,λρ' ha=>by simp only[VR];exact⟨y,rfl,a3 ρ' ha⟩⟩
   rw[Qbr e]at h;cases h
 |.agg cs,c,v,M,M',x,h,hv=>by
  show y2c D ρ lv n M M' (.agg (z1u D (λk=>k) cs x)) v
  cases c <;> first|(cases h;done)|skip
  case agg vs=>
   replace h:zyw D n cs vs M = .ok (M',x):=h;simp only[VR]at hv;obtain⟨y,rfl,k1⟩:=hv;obtain⟨a1,a2,a3⟩:=zeo cs h k1
   exact⟨a1,a2,λρ' ha=>by simp only[VR];exact⟨y,rfl,a3 ρ' ha⟩⟩
 |.tup cs,c,v,M,M',x,h,hv=>by
  show y2c D ρ lv n M M' (.tup (z1u D (λk=>k) cs x)) v
  cases c <;> first|(cases h;done)|skip
  case tup vs=>
   replace h:zyw D n cs vs M = .ok (M',x):=h;simp only[VR]at hv;obtain⟨y,rfl,k1⟩:=hv;obtain⟨a1,a2,a3⟩:=zeo cs h k1
   exact⟨a1,a2,λρ' ha=>by simp only[VR];exact⟨y,rfl,a3 ρ' ha⟩⟩
 |.ref cs off,c,v,M,M',x,h,hv=>by
  show y2c D ρ lv n M M' (.ref (z1u D (λk=>k) cs x) off) v
  cases c <;> first|(cases h;done)|skip
  case ref vs off'=>
   replace h:(if off=off' then zyw D n cs vs M else .bad) = .ok (M',x):=h;by_cases e:off=off';rw[Qbq e]at h;subst e;simp only[VR]at hv;obtain⟨y,rfl,k1⟩:=hv;obtain⟨a1,a2,a3⟩:=zeo cs h k1;exact⟨a1,a2,λρ' ha=>by simp only[VR];exact⟨y,rfl,a3 ρ' ha⟩⟩
   rw[Qbr e]at h;cases h
 |.dp k off,c,v,M,M',x,h,hv=>by
  show y2c D ρ lv n M M' (.dp k x.1 off) v
  cases c <;> first|(cases h;done)|skip
  case dp s i off'=>
   replace h:(if off=off' then (match zg8 n k s M with|some M=>FR.ok (M,((i,()):HL D.T [.int .i64]))|none=>.bad)else .bad) = .ok (M',x):=h;by_cases e:off=off';rw[Qbq e]at h;subst e
   cases hb:zg8 n k s M with
   |none=>rw[hb]at h;cases h
   |some M1=>
    rw[hb]at h;cases h;obtain⟨h1,h2,h3⟩:=zat hb;refine⟨h1,h3,λρ' ha =>?_⟩;obtain⟨sl,e1,e2⟩:=ha k _ h2;simp only[Src.is]at e2;simp only[VR]at hv;obtain⟨sl',j,ver,m,e3,e4⟩:=hv
    rw[e2]at e3;injection e3 with e3;subst e3
    show VR D ρ' lv (.dp k i off) v;simp only[VR];exact⟨sl,j,ver,m,e1,e4⟩
   rw[Qbr e]at h;cases h
 |.ap k t off,c,v,M,M',x,h,hv=>by
  show y2c D ρ lv n M M' (.ap k t x.1 x.2.1 off) v
  cases c <;> first|(cases h;done)|skip
  case ap s t' i y off'=>
   replace h:(if off=off' then (match y4a t' t y with|some y=>(match zg8 n k s M with|some M=>FR.ok (M,((i,(y,())):HL D.T [.int .i64,t]))|none=>.bad)|none=>.bad)else .bad) = .ok (M',x):=h;by_cases e:off=off'
   ·rw[Qbq e]at h;subst e
    cases hc:y4a t' t y with
    |none=>rw[hc]at h;cases h
    |some z=>
    rw[hc]at h;obtain⟨et,ez⟩:=z012 hc;subst et;replace ez:z=y:=ez;subst ez;replace h:(match zg8 n k s M with|some M=>FR.ok (M,((i,(z,())):HL D.T [.int .i64,t']))|none=>.bad) = .ok (M',x):=h
    cases hb:zg8 n k s M with
    |none=>rw[hb]at h;cases h
    |some M1=>
     rw[hb]at h;cases h;obtain⟨h1,h2,h3⟩:=zat hb;refine⟨h1,h3,λρ' ha =>?_⟩;obtain⟨sl,e1,e2⟩:=ha k _ h2;simp only[Src.is]at e2;simp only[VR]at hv;obtain⟨sl',w,e3,e4⟩:=hv
     rw[e2]at e3;injection e3 with e3;subst e3
     show VR D ρ' lv (.ap k t' i z off) v;simp only[VR];exact⟨sl,w,e1,e4⟩
   rw[Qbr e]at h;cases h
theorem zeo{n:Nat}:∀(l:List Sh) {cs:List (TV D.T)}{vs:List V}{M M':z8s D.T}{x:HL D.T (Sh.z04 l)},zyw D n l cs M = .ok (M',x)->VRL D ρ lv cs vs->FitL D ρ lv n M M' (z1u D (λk=>k) l x) vs
 |[],cs,vs,M,M',x,h,hv=>by
  cases cs with
  |nil=>cases h;exact⟨λ_ _ h=>h,λh=>h,λρ' _=>(by simpa only[VRL]using hv:VRL D ρ' lv [] vs)⟩
  |cons c cs=>cases h
 |sh::l,cs,vs,M,M',x,h,hv=>by
  cases cs with
  |nil=>cases h
  |cons c cs=>
   simp only[VRL]at hv;obtain⟨v,r,rfl,k1,k2⟩:=hv;rw[yx5]at h;split at h;rename_i M1 y hy;split at h;rename_i M2 z hz;cases h;obtain⟨a1,a2,a3⟩:=znk sh hy k1;obtain⟨b1,b2,b3⟩:=zeo l hz k2;refine⟨λj src hj=>b1 j src (a1 j src hj),λh=>b2 (a2 h),λρ' ha =>?_⟩;rw[ywd];simp only[VRL];exact⟨v,r,rfl,a3 ρ' (b1.agr ha),b3 ρ' ha⟩;cases h;cases h;cases h;cases h
end
theorem ytu{n}(hR:TRr D F ρ ts σ){o src M M' x}(h:y5y D n ts o src M = .ok (M',x)) :
  yfs M M'∧(MOk n M->MOk n M')∧(∀s,src = .slot s->∃o',fnd ts.o s=some o'∧o'.live)∧∀ρ' sl,Agr ρ M' ρ'->src.is ρ sl->OR D ρ' F.lv σ.H.L sl (zuv D (λk=>k) o x):=by
 cases o with
 |cells cs=>
  cases src with
  |nil=>cases h
  |slot s=>
   simp[y5y]at h
   cases ho:fnd ts.o s with
   |none=>rw[ho]at h;cases h
   |some o'=>
    rw[ho]at h
    cases o' <;> first|(cases h;done)|skip
    rename_i vs;obtain⟨sl',k1,k2⟩:=hR.ob s _ ho;simp[OR]at k2;obtain⟨i,us,q1,q2,q3⟩:=k2;obtain⟨a1,a2,a3⟩:=zeo hD cs h q3;refine⟨a1,a2,λs' e=>by cases e;exact⟨_,ho,trivial⟩,λρ' sl ha hs =>?_⟩
    grind[Src.is,zuv,OR]
 |st i=>
  cases src with
  |nil=>cases h
  |slot s=>
   simp[y5y]at h
   cases ho:fnd ts.o s with
   |none=>rw[ho]at h;cases h
   |some o'=>
    rw[ho]at h
    cases o' <;> first|(cases h;done)|skip
    rename_i vs;replace h:(match zb3 D (D.fl i) vs with| .ok x=>FR.ok (M,(D.make i x,()))| .frz s=>.frz s| .bad=>.bad) = .ok (M',x):=h;obtain⟨sl',k1,k2⟩:=hR.ob s _ ho;simp only[OR]at k2;obtain⟨i',us,q1,q2,q3⟩:=k2
    cases hl:zb3 D (D.fl i) vs with
    |frz s=>rw[hl]at h;cases h
    |bad=>rw[hl]at h;cases h
    |ok y=>
     rw[hl]at h;cases h;refine⟨λ_ _ h=>h,λh=>h,λs' e=>by cases e;exact⟨_,ho,trivial⟩,λρ' sl ha hs =>?_⟩;simp[Src.is]at hs;rw[k1]at hs;cases hs;obtain⟨m1,m2⟩:=znp hl q3;show OR D ρ' F.lv σ.H.L sl' (.cells (D.leaves (D.fl i) (D.get i (D.make i y))));rw[hD.getMake];simp only[OR];refine⟨i',us,q1,q2,.of (by rw[zeh,m1]) λj c v hc hv =>?_⟩;rw[zgq,Qaf]at hc;obtain⟨p,hp,rfl⟩:=hc
     exact VR.leaf (m2 j p v hp hv)
 |acc ty t w=>
  cases src with
  |nil=>
   cases h;refine⟨λ_ _ h=>h,λh=>h,λs e=>(by cases e),λρ' sl ha hs =>?_⟩;simp[Src.is]at hs;subst hs;show OR D ρ' F.lv σ.H.L zo8 (.acc ty t [] w);simp only[OR,zo8]
   exact⟨rfl,λj x v hx=>by simp at hx,.inl ⟨trivial,trivial⟩⟩
  |slot s=>
   simp[y5y]at h
   cases ho:fnd ts.o s with
   |none=>rw[ho]at h;cases h
   |some o'=>
    rw[ho]at h
    cases o' <;> first|(cases h;done)|skip
    rename_i ty' t' xs w';replace h:(if ty=ty'∧(w=true->w'=true)then (match zer t' t xs with|some xs=>FR.ok (M,(xs,()))|none=>.bad)else .bad) = .ok (M',x):=h;by_cases hc:ty=ty'∧(w=true->w'=true);rw[Qbq hc]at h
    cases hys:zer t' t xs with
    |none=>grind
    |some ys=>
     rw[hys]at h;obtain⟨e1,e2⟩:=z8t hys;subst e1;replace e2:=e2;subst e2;cases h;obtain⟨sl',k1,k2⟩:=hR.ob s _ ho;refine⟨λ_ _ h=>h,λh=>h,λs' e=>by cases e;exact⟨_,ho,trivial⟩,λρ' sl ha hs =>?_⟩;simp[Src.is]at hs;rw[k1]at hs;cases hs;obtain⟨hty,hw⟩:=hc;subst hty;simp[OR]at k2;obtain⟨q1,q2,q3⟩:=k2;show OR D ρ' F.lv σ.H.L sl' (.acc ty t' ys w)
     grind[OR]
    grind
 |rig=>
  cases src with
  |nil=>cases h
  |slot s=>
   simp[y5y]at h
   cases ho:fnd ts.o s with
   |none=>rw[ho]at h;cases h
   |some o'=>
    rw[ho]at h
    cases o' <;> first|(cases h;done)|skip
    cases h;obtain⟨sl',k1,k2⟩:=hR.ob s _ ho;refine⟨λ_ _ h=>h,λh=>h,λs' e=>by cases e;exact⟨_,ho,trivial⟩,λρ' sl ha hs =>?_⟩;simp[Src.is]at hs;rw[k1]at hs;cases hs
    exact k2
 |siter=>
  cases src with
  |nil=>cases h
  |slot s=>
   simp[y5y]at h
   cases ho:fnd ts.o s with
   |none=>rw[ho]at h;cases h
   |some o'=>
    rw[ho]at h
    cases o' <;> first|(cases h;done)|skip
    rename_i l pos;cases h;obtain⟨sl',k1,k2⟩:=hR.ob s _ ho;refine⟨λ_ _ h=>h,λh=>h,λs' e=>by cases e;exact⟨_,ho,trivial⟩,λρ' sl ha hs =>?_⟩;simp[Src.is]at hs;rw[k1]at hs;cases hs
    exact k2
 |mp ty t=>
  cases src with
  |nil=>cases h
  |slot s=>
   simp[y5y]at h
   cases ho:fnd ts.o s with
   |none=>rw[ho]at h;cases h
   |some o'=>
    rw[ho]at h
    cases o' <;> first|(cases h;done)|skip
    rename_i ty' t' es;replace h:(if ty=ty' then (match zvs t' t es with|some es=>FR.ok (M,(List.map Prod.fst es,(List.map Prod.snd es,())))|none=>.bad)else .bad) = .ok (M',x):=h;by_cases hc:ty=ty';rw[Qbq hc]at h
    cases hys:zvs t' t es with
    |none=>grind
    |some ys=>
     rw[hys]at h;obtain⟨e1,e2⟩:=y1m hys;subst e1;replace e2:=e2;subst e2;cases h;obtain⟨sl',k1,k2⟩:=hR.ob s _ ho;refine⟨λ_ _ h=>h,λh=>h,λs' e=>by cases e;exact⟨_,ho,trivial⟩,λρ' sl ha hs =>?_⟩;simp[Src.is]at hs;rw[k1]at hs;cases hs;show OR D ρ' F.lv σ.H.L sl' (.mp ty t' (List.zip (List.map Prod.fst ys) (List.map Prod.snd ys)));rw[show List.zip (List.map Prod.fst ys) (List.map Prod.snd ys)=ys from yea ys]
     exact k2
    grind
 |mit t=>
  cases src with
  |nil=>cases h
  |slot s=>
   simp[y5y]at h
   cases ho:fnd ts.o s with
   |none=>rw[ho]at h;cases h
   |some o'=>
    rw[ho]at h
    cases o' <;> first|(cases h;done)|skip
    rename_i t' last es;replace h:(match zvs t' t es with|some es=>FR.ok (M,(List.map Prod.fst es,(List.map Prod.snd es,())))|none=>.bad) = .ok (M',x):=h
    cases hys:zvs t' t es with
    |none=>grind
    |some ys=>
     rw[hys]at h;obtain⟨e1,e2⟩:=y1m hys;subst e1;replace e2:=e2;subst e2;cases h;obtain⟨sl',k1,k2⟩:=hR.ob s _ ho;refine⟨λ_ _ h=>h,λh=>h,λs' e=>by cases e;exact⟨_,ho,trivial⟩,λρ' sl ha hs =>?_⟩;simp[Src.is]at hs;rw[k1]at hs;cases hs;show OR D ρ' F.lv σ.H.L sl' (.mit t' none (List.zip (List.map Prod.fst ys) (List.map Prod.snd ys)));rw[show List.zip (List.map Prod.fst ys) (List.map Prod.snd ys)=ys from yea ys]
     grind[OR]
 |bld ty k=>
  cases src with
  |nil=>cases h
  |slot s=>
   simp[y5y]at h
   cases ho:fnd ts.o s with
   |none=>rw[ho]at h;cases h
   |some o'=>
    rw[ho]at h
    cases o' <;> first|(cases h;done)|skip
    rename_i ty' b;replace h:(if ty=ty' then (match b with|some q=>frU (zg8 n k q M)|none=>frU (yrx n k M))else .bad) = .ok (M',x):=h;by_cases hty:ty=ty';rw[Qbq hty]at h;subst hty;obtain⟨sl',k1,k2⟩:=hR.ob s _ ho;simp only[OR]at k2;obtain⟨i,u,c,q1,q2,q3,q4⟩:=k2
    cases b with
    |some q=>
     obtain⟨h1,h2,h3⟩:=zat (y2v h);refine⟨h1,h3,λs' e=>by cases e;exact⟨_,ho,trivial⟩,λρ' sl ha hs =>?_⟩;simp[Src.is]at hs;rw[k1]at hs;cases hs;obtain⟨sq,e1,e2⟩:=ha k _ h2;simp[Src.is]at e2;simp[ymn,VR]at q4;obtain⟨sq',e3,e4,e5⟩:=q4;rw[e2]at e3;cases e3;simp only[OR]
     exact⟨i,u,c,q1,q2,q3,by grind[ymn,VR]⟩
    |none=>
     obtain⟨h1,h2,h3⟩:=y8l (y2v h);refine⟨h1,h3,λs' e=>by cases e;exact⟨_,ho,trivial⟩,λρ' sl ha hs =>?_⟩;simp[Src.is]at hs;rw[k1]at hs;cases hs;obtain⟨sq,e1,e2⟩:=ha k _ h2;simp[Src.is]at e2;subst e2;simp[ymn,VR]at q4;subst q4;simp only[OR];exact⟨i,u,_,q1,q2,q3,by simp only[ymn,VR];exact⟨zo8,e1,rfl,rfl⟩⟩
    grind
 |deep ty q=>
  cases src with
  |nil=>
   cases h;refine⟨λ_ _ h=>h,λh=>h,λs e=>(by cases e),λρ' sl ha hs =>?_⟩;simp[Src.is]at hs;subst hs;show OR D ρ' F.lv σ.H.L zo8 (.deep ty q [] none);simp only[OR,zo8]
   grind
  |slot s=>
   simp[y5y]at h
   cases ho:fnd ts.o s with
   |none=>rw[ho]at h;cases h
   |some o'=>
    rw[ho]at h
    cases o' <;> first|(cases h;done)|skip
    rename_i ty' q' xs h';replace h:(if ty=ty' then (match h' with|none=>(match zer (.st q') (.st q) xs with|some xs=>FR.ok (M,((xs,()):HL D.T [.sl (.st q)]))|none=>.bad)|some _=>.frz s)else .bad) = .ok (M',x):=h;by_cases hc:ty=ty'
    ·rw[Qbq hc]at h;subst hc
     cases h' with
     |some p=>cases h
     |none=>
     replace h:=h
     cases hys:zer (.st q') (.st q) xs with
     |none=>grind
     |some ys=>
      rw[hys]at h;obtain⟨e1,e2⟩:=z8t hys;injection e1 with e1;subst e1;replace e2:=e2;subst e2;cases h;obtain⟨sl',k1,k2⟩:=hR.ob s _ ho;refine⟨λ_ _ h=>h,λh=>h,λs' e=>by cases e;exact⟨_,ho,trivial⟩,λρ' sl ha hs =>?_⟩;simp[Src.is]at hs;rw[k1]at hs;cases hs;show OR D ρ' F.lv σ.H.L sl' (.deep ty q' ys none);simp only[OR]at k2 ⊢;refine⟨k2.1,?_⟩;have k3:=k2.2
      cases hk:sl'.k with
      |none=>grind
      |some j=>
       rw[hk]at k3;obtain⟨ver,cp,fps,q1,q2,q3,q4,q5,q6,q7⟩:=k3;exact⟨ver,cp,fps,q1,q2,q3,q4,q5,λn x w c a b d=>(q6 n x w c a b d).z05u,q7⟩
    grind
 |deeph ty q f k=>
  cases src with
  |nil=>cases h
  |slot s=>
   simp[y5y]at h
   cases ho:fnd ts.o s with
   |none=>rw[ho]at h;cases h
   |some o'=>
    rw[ho]at h
    cases o' <;> first|(cases h;done)|skip
    rename_i ty' q' xs h';replace h:(if ty=ty' then (match h' with|some p=>if f=p.2.1 then (match zer (.st q') (.st q) xs with|some xs=>(match zg8 n k p.2.2 M with|some M=>FR.ok (M,((xs,(p.1,())):HL D.T [.sl (.st q),.int .i64]))|none=>.bad)|none=>.bad)else .bad|none=>.bad)else .bad) = .ok (M',x):=h;by_cases hc:ty=ty'
    ·rw[Qbq hc]at h;subst hc
     cases h' with
     |none=>cases h
     |some p=>
     obtain⟨i,f',c⟩:=p;replace h:(if f=f' then (match zer (.st q') (.st q) xs with|some xs=>(match zg8 n k c M with|some M=>FR.ok (M,((xs,(i,())):HL D.T [.sl (.st q),.int .i64]))|none=>.bad)|none=>.bad)else .bad) = .ok (M',x):=h;by_cases hf:f=f';rw[Qbq hf]at h;subst hf
     cases hys:zer (.st q') (.st q) xs with
     |none=>grind
     |some ys=>
      rw[hys]at h;obtain⟨e1,e2⟩:=z8t hys;injection e1 with e1;subst e1;replace e2:=e2;subst e2;replace h:=h
      cases hb:zg8 n k c M with
      |none=>rw[hb]at h;cases h
      |some M1=>
      rw[hb]at h;cases h;obtain⟨h1,h2,h3⟩:=zat hb;obtain⟨sl',k1,k2⟩:=hR.ob s _ ho;refine⟨h1,h3,λs' e=>by cases e;exact⟨_,ho,trivial⟩,λρ' sl ha hs =>?_⟩;simp[Src.is]at hs;rw[k1]at hs;cases hs;obtain⟨slc,d1,d2⟩:=ha k _ h2;simp[Src.is]at d2;show OR D ρ' F.lv σ.H.L sl' (.deep ty q' ys (some (i,f,k)));simp only[OR]at k2 ⊢;refine⟨k2.1,?_⟩;have k3:=k2.2
      cases hk:sl'.k with
      |none=>grind
      |some j=>
       rw[hk]at k3;obtain⟨ver,cp,fps,q1,q2,q3,q4,q5,q6,q7⟩:=k3;exact⟨ver,cp,fps,q1,q2,q3,q4,q5,λn x w cc a b d=>(q6 n x w cc a b d).z7s d2 d1,λn' f' s' e=>by injection e with e;grind⟩
     grind
    grind
omit hD in
theorem yjn{m o x}:(zuv D m o x).live:=by cases o <;> trivial
omit hD in
theorem ys9(n)(o)(os)(k)(M):ye5 D n ts (o::os) k M=(match fnd M k with
 |some src=>match y5y D n ts o src M with
  |.ok (M,x)=>match ye5 D n ts os (k+1) M with
   |.ok (M,y)=>.ok (M,HL.app x y)
   |.frz s=>.frz s
   |.bad=>.bad
  |.frz s=>.frz s
  |.bad=>.bad
 |none=>.bad):=rfl
omit hD in
theorem yt2(m)(o)(os)(k)(x)(y):z55 D m (o::os) k (HL.app x y)=(m k,zuv D m o x)::z55 D m os (k+1) y:=by
 grind[z55,HL.zlq,HL.zls]
theorem zoj{n}(hR:TRr D F ρ ts σ):∀(os) {k M M' x},ye5 D n ts os k M = .ok (M',x) ->
  yfs M M'∧(MOk n M->MOk n M')∧(∀j,j<os.length->∃src,fnd M' (k+j)=some src∧∀s,src = .slot s->∃o',fnd ts.o s=some o'∧o'.live) ∧
  (∀ρ',Agr ρ M' ρ'->∀j o,(j,o)∈z55 D (λk=>k) os k x->k<=j∧j<k+os.length∧o.live∧∃sl,ρ'[j]? = some sl∧OR D ρ' F.lv σ.H.L sl o)
 |[],k,M,M',x,h=>by
  cases h
  exact⟨λ_ _ h=>h,λh=>h,λj hj=>by simp at hj,λρ' _ j o hm=>by cases hm⟩
 |o::os,k,M,M',x,h=>by
  rw[ys9]at h;split at h;rename_i src hsrc;split at h;rename_i M1 y hy;split at h;rename_i M2 z hz;cases h;obtain⟨a1,a2,a3,a4⟩:=ytu hD hR hy;obtain⟨b1,b2,b3,b4⟩:=zoj hR os hz;refine⟨λj s hj=>b1 j s (a1 j s hj),λh=>b2 (a2 h),λj hj =>?_,λρ' ha j o' hm =>?_⟩
  cases j with
  |zero=>exact⟨src,b1 _ _ (a1 _ _ hsrc),a3⟩
  |succ j=>
   obtain⟨src',e1,e2⟩:=b3 j (by simpa using hj)
   grind
  rw[yt2]at hm
  rcases Qbg.1 hm with hm|hm
  injection hm with h1 h2;subst h1;subst h2;obtain⟨sl,e1,e2⟩:=ha j src (b1 _ _ (a1 _ _ hsrc));exact⟨Qbp _,by simp,yjn,sl,e1,a4 ρ' sl (b1.agr ha) e2⟩
  grind
  cases h;cases h;cases h;cases h;cases h
omit hD in
theorem ytl(n)(p)(l)(M):ypp D n ts (p::l) M=(match fnd ts.t p.1 with
 |some v=>match y9x D n p.2 v M with
  |.ok (M,x)=>match ypp D n ts l M with
   |.ok (M,y)=>.ok (M,HL.app x y)
   |.frz s=>.frz s
   |.bad=>.bad
  |.frz s=>.frz s
  |.bad=>.bad
 |none=>.bad):=rfl
omit hD in
theorem ywz(m)(p)(l)(x)(y):yqa D m (p::l) (HL.app x y)=(p.1,zq2 D m p.2 x)::yqa D m l y:=by
 simp_all[yqa,HL.zlq,HL.zls]
theorem y7o{n}(hR:TRr D F ρ ts σ):∀(l) {M M' x},ypp D n ts l M = .ok (M',x) ->
  yfs M M'∧(MOk n M->MOk n M')∧∀ρ',Agr ρ M' ρ'->∀j c,(j,c)∈yqa D (λk=>k) l x->∃v,σ.t[j]? = some v∧VR D ρ' F.lv c v
 |[],M,M',x,h=>by
  cases h
  exact⟨λ_ _ h=>h,λh=>h,λρ' _ j o hm=>by cases hm⟩
 |p::l,M,M',x,h=>by
  rw[ytl]at h;split at h;rename_i c hc;split at h;rename_i M1 y hy;split at h;rename_i M2 z hz;cases h;obtain⟨v,k1,k2⟩:=hR.tm _ _ hc;obtain⟨a1,a2,a3⟩:=znk hD p.2 hy k2;obtain⟨b1,b2,b3⟩:=y7o hR l hz;refine⟨λj s hj=>b1 j s (a1 j s hj),λh=>b2 (a2 h),λρ' ha j c' hm =>?_⟩;rw[ywz]at hm
  rcases Qbg.1 hm with hm|hm
  cases hm;exact⟨v,k1,a3 ρ' (b1.agr ha)⟩
  grind
  cases h;cases h;cases h;cases h;cases h
omit hD in
theorem ysv(hR:TRr D F ρ ts σ){M:z8s D.T}{n}(hM:MOk n M)(hall:∀j,j<n->∃src,fnd M j=some src∧∀s,src = .slot s->∃o',fnd ts.o s=some o'∧o'.live) :
  ∃ρ':List Slot,ρ'.length=n∧Agr ρ M ρ'∧∀j sl,ρ'[j]? = some sl->∃src,fnd M j=some src∧src.is ρ sl:=by
 have step:∀m,m<=n->∃ρ':List Slot,ρ'.length=m∧∀j,j<m->∃sl src,ρ'[j]? = some sl∧fnd M j=some src∧src.is ρ sl:=λm=>by
  induction m with
  |zero=>simp_all
  |succ m ih=>
   intro hm;obtain⟨ρ',h1,h2⟩:=ih (by omega);obtain⟨src,k1,k2⟩:=hall m (by omega)
   have hsl:∃sl,src.is ρ sl:=by
    cases src with
    |nil=>exact⟨zo8,rfl⟩
    |slot s=>
     obtain⟨o',e1,_⟩:=k2 s rfl;obtain⟨sl,e2,_⟩:=hR.ob s o' e1;exact⟨sl,e2⟩
   obtain⟨sl,hsl⟩:=hsl;refine⟨ρ'++[sl],by simp[h1],λj hj =>?_⟩
   grind
 obtain⟨ρ',h1,h2⟩:=step n (Qbp _);refine⟨ρ',h1,λk src hk =>?_,λj sl hj =>?_⟩;obtain⟨sl,src',e1,e2,e3⟩:=h2 k (hM.lt k src hk)
 grind
 grind
omit hD in
theorem zk4:∀{n k} {src:Src T},fnd (pins n) k=some src->k<n∧src = .slot k
 |0,k,src,h=>by simp[pins,fnd]at h
 |n+1,k,src,h=>by
  simp[pins,zz9]at h;split at h
  grind
  obtain⟨h1,h2⟩:=zk4 h;grind
omit hD in
theorem y5m:∀{n k},k<n->fnd (pins (T:=T) n) k=some (.slot k)
 |0,k,h=>by omega
 |n+1,k,h=>by
  simp[pins,zz9];split;rename_i e;rw[e];exact y5m (by omega)
omit hD in
theorem yb9:∀{n k src},(k,src)∈pins (T:=T) n->fnd (pins n) k=some src
 |0,k,src,h=>by cases h
 |n+1,k,src,h=>by
  simp[pins,zz9]
  rcases Qbg.1 h with h|h
  grind
  have:=yb9 h;split;rename_i e;subst e;have:=(zk4 this).1;omega;exact this
omit hD in
theorem ybv{n}:∀{gs g} {M M':z8s T},yun n gs g M=some M'->yfs M M'∧(MOk n M->MOk n M')∧∀(i k:Nat),gs[i]? = some k->∃s:Nat,g[i]? = some (some s)∧fnd M' k=some (.slot s)
 |[],[],M,M',h=>by
  cases h
  exact⟨λ_ _ h=>h,λh=>h,λi k hk=>by simp at hk⟩
 |[],_::_,M,M',h=>by simp[yun]at h
 |k::ks,[],M,M',h=>by simp[yun]at h
 |k::ks,none::ss,M,M',h=>by simp[yun]at h
 |k::ks,some s::ss,M,M',h=>by
  simp[yun]at h;split at h;rename_i M1 hM1;obtain⟨a1,a2,a3⟩:=zat hM1;obtain⟨b1,b2,b3⟩:=ybv h;refine⟨λj src hj=>b1 j src (a1 j src hj),λh=>b2 (a3 h),λi k' hk =>?_⟩
  cases i with
  |zero=>simp at hk;subst hk;exact⟨s,rfl,b1 _ _ a2⟩
  |succ i=>grind
  cases h
theorem LSh.zm0(hR:TRr D F ρ ts σ){l:LSh}{x}(hp:F.pin.length<=l.pin)(hp2:l.pin<=l.os.length)(h:l.fit D ts = .ok x):∃ρ',TRr D F ρ' (l.bld D x) σ:=by
 unfold LSh.fit at h;by_cases hnt0:ts.nt=l.nt∧ts.d.isEmpty=true
 rotate_left
 grind
 rw[Qbq hnt0]at h;obtain⟨hnt,hde⟩:=hnt0;have hde:=by simpa using hde
 split at h
 ·rename_i M y hy;split at h
  case h_2=>cases h
  rename_i Mg hMg;obtain⟨c1g,c2g,c3g⟩:=ybv hMg;split at h
  ·rename_i M' z hz;cases h;obtain⟨a1',a2',a3⟩:=y7o hD hR l.ts hy;have a1:=λj src hj=>c1g j src (a1' j src hj)
   have a2:=λh=>c2g (a2' h)
   obtain⟨b1,b2,b3,b4⟩:=zoj hD hR l.os hz;have hM:=b2 (a2 ⟨λk src h=>by have:=(zk4 h).1;omega,λk k' s h h'=>by have e:=(zk4 h).2;have e':=(zk4 h').2;grind,λk src hm=>yb9 hm⟩);obtain⟨ρ',c1,c2,c3⟩:=ysv hR hM λj hj=>by simpa using b3 j hj
   have hb:l.bld D (HL.app y z)=⟨yqa D (λk=>k) l.ts y,z55 D (λk=>k) l.os 0 z,l.os.length,l.nt,[],l.gs.map some⟩:=by
    show(⟨yqa D (λk=>k) l.ts (HL.fst _ (HL.app y z)),z55 D (λk=>k) l.os 0 (HL.snd _ (HL.app y z)),l.os.length,l.nt,[],l.gs.map some⟩:TS D.T)=_;rw[HL.zlq,HL.zls]
   rw[hb]
   have place:∀s sl i,ρ'[s]? = some sl->sl.has i->∃s0 o0,fnd M' s=some (.slot s0)∧fnd ts.o s0=some o0∧o0.live∧ρ[s0]? = some sl:=λs sl i hs hk=>by
    obtain⟨src,e1,e2⟩:=c3 s sl hs
    cases src with
    |nil=>simp[Src.is]at e2;subst e2;rcases hk with h|h <;> cases h
    |slot s0=>
     obtain⟨src',e3,e4⟩:=b3 s (by grind);rw[Nat.zero_add,e1]at e3;cases e3;obtain⟨o0,f1,f2⟩:=e4 s0 rfl;exact⟨s0,o0,e1,f1,f2,e2⟩
   refine⟨ρ',c1,hR.nt.trans hnt,λj c hj=>a3 ρ' (c1g.agr (b1.agr c2)) j c (z2o hj),λs o ho =>?_,λs s' o o' sl sl' i h1 h2 l1 l2 r1 r2 k1 k2 =>?_,λs o sl i h1 l1 r1 k1 =>?_,hR.lv,hR.E,hR.e0,(by have:=hR.d;rw[hde]at this;exact this),hR.out,λj sl hj =>?_,λs o sl i h1 l1 r1 k1=>by
    obtain⟨s0,o0,d1,d2,d3,d4⟩:=place s sl i r1 (.inr k1)
    exact hR.fpl s0 o0 sl i d2 d3 d4 k1,λi s v h1 h2=>by
    rw[Qan,Qaf]at h1;obtain⟨k,hk,e⟩:=h1;injection e with e;subst e;obtain⟨s0,d1,d2⟩:=c3g i k hk;have:=hR.g i s0 v d1 h2;simp[VR]at this ⊢;obtain⟨sl,f1,f2⟩:=this;obtain⟨sl',f3,f4⟩:=c2 k _ (b1 _ _ d2)
    grind[Src.is]⟩
   rotate_right
   have hlt:=(Qaa.1 hj).1;obtain⟨sl',e1,e2⟩:=c2 j _ (b1 _ _ (a1 _ _ (y5m (n:=l.pin) (k:=j) (by omega))));simp[Src.is]at e2;rw[hR.pin j sl hj]at e2;cases e2;exact e1
   simp_all[z2o]
   obtain⟨s0,o0,d1,d2,d3,d4⟩:=place s sl i r1 k1;obtain⟨s1,o1,e1,e2,e3,e4⟩:=place s' sl' i r2 k2;have:=hR.inj s0 s1 o0 o1 sl sl' i d2 e2 d3 e3 d4 e4 k1 k2;subst this;exact hM.inj s s' s0 d1 e1;obtain⟨s0,o0,d1,d2,d3,d4⟩:=place s sl i r1 k1;exact hR.mine s0 o0 sl i d2 d3 d4 k1
  cases h;cases h
 cases h;cases h
omit hD in
def TR(D:Dat)(F:Fr)(ts:TS D.T)(σ:St):Prop:=∃τ ρ,zlf σ τ∧TRr D F ρ ts τ
omit hD in
theorem TRr.tr(hR:TRr D F ρ ts σ):TR D F ts σ:=⟨σ,ρ,.refl σ,hR⟩
theorem TR.freeze(h:TR D F ts σ){s ts'}(hf:ts.freeze D s=some ts'):TR D F ts' σ:=by
 obtain⟨τ,ρ,h1,h2⟩:=h;obtain⟨υ,h3,h4⟩:=y38 hD h2 hf;exact⟨υ,ρ,h1.trans h3,h4⟩
theorem TR.fold{R}(h:TR D F ts σ){s k}{r:R}(hf:ts.fold D s k=some r):∃ts',TR D F ts' σ∧k ts'=some r:=by
 obtain⟨τ,ρ,h1,h2⟩:=h;obtain⟨ts',ρ',h3,h4,_⟩:=yc9 hD h2 hf;exact⟨ts',⟨τ,ρ',h1,h3⟩,h4⟩
theorem LSh.zcn{R l}(hp:F.pin.length<=l.pin)(hp2:l.pin<=l.os.length){k}{r:R}:∀{f ts},TR D F ts σ->LSh.enter D l k f ts=some r->∃x,k x=some r∧TR D F (l.bld D x) σ
 |0,ts,hT,h=>by simp[LSh.enter]at h
 |f+1,ts,hT,h=>by
  simp[LSh.enter]at h;split at h;rename_i x hx;obtain⟨τ,ρ,h1,h2⟩:=hT;obtain⟨ρ',h3⟩:=LSh.zm0 hD h2 hp hp2 hx;exact⟨x,h,τ,ρ',h1,h3⟩;split at h;obtain⟨ts',h1,h2⟩:=hT.fold hD h;exact LSh.zcn hp hp2 h1 h2;split at h;rename_i s _ _ ts' hf;obtain⟨x,h1,h2⟩:=LSh.zcn hp hp2 (hT.freeze hD hf) h;exact⟨x,h1,h2⟩;cases h;cases h
end
section
variable {P : Program} {D : Dat} {F : Fr} {ρ : List Slot} {ts : TS D.T} {σ : St} {lv : Nat} {T : Nat → Type}
theorem VR.zm4{ρ' lv' t x v}(h:VR D ρ lv (D.leaf t x) v):VR D ρ' lv' (D.leaf t x) v:=by
 cases t <;> first|(simp only[Dat.leaf,VR];done)|simpa only[Dat.leaf,VR]using h
theorem VR.data{ρ' lv' t x v}(hD:D.Ok P)(h:VR D ρ lv (D.tv t x) v):VR D ρ' lv' (D.tv t x) v:=by
 cases t with
 |st i=>
  obtain⟨vs,rfl,h⟩:=h;refine⟨vs,rfl,.of h.length λj c v hc hv =>?_⟩;have:=h.y1r hc hv;rw[zgq,Qaf]at hc;obtain⟨p,hp,rfl⟩:=hc
  exact VR.zm4 this
 |bool=>exact VR.zm4 (t:=.bool) h
 |int k=>exact VR.zm4 (t:=.int k) h
 |str=>exact VR.zm4 (t:=.str) h
 |nat=>exact VR.zm4 (t:=.nat) (x:=x) h
 |sl t=>exact VR.zm4 (t:=.sl t) h
def Maps(m:Nat->Nat)(ρ ρ':List Slot):Prop:=∀(j) (sl),ρ[j]? = some sl->ρ'[m j]? = some sl
variable {m : Nat → Nat} {ρ' : List Slot}
mutual
theorem VR.maps(hm:Maps m ρ ρ')(hD:D.Ok P):∀(sh:Sh) {x:HL D.T sh.tys}{v:V},VR D ρ lv (zq2 D (λk=>k) sh x) v->VR D ρ' lv (zq2 D m sh x) v
 |.any,x,v,h=>(by simp only[VR]:VR D ρ' lv .any v)
 |.d t,x,v,h=>by
  replace h:VR D ρ lv (D.tv t x.1) v:=h;show VR D ρ' lv (D.tv t x.1) v
  exact VR.data hD h
 |.own k,x,v,h=>by
  replace h:VR D ρ lv (.own k) v:=h;show VR D ρ' lv (.own (m k)) v;simp only[VR]at h ⊢;obtain⟨sl,h1,h2⟩:=h
  exact⟨sl,hm k sl h1,h2⟩
 |.ptr k off,x,v,h=>by
  replace h:VR D ρ lv (.ptr k off) v:=h;show VR D ρ' lv (.ptr (m k) off) v;simp only[VR]at h ⊢;obtain⟨sl,i,h1,h2⟩:=h
  exact⟨sl,i,hm k sl h1,h2⟩
 |.map k,x,v,h=>by
  replace h:VR D ρ lv (.map k) v:=h;show VR D ρ' lv (.map (m k)) v;simp only[VR]at h ⊢;obtain⟨sl,i,h1,h2⟩:=h
  exact⟨sl,i,hm k sl h1,h2⟩
 |.mc t,x,v,h=>by
  replace h:VR D ρ lv (.mc t (List.zip x.1 x.2.1)) v:=h;show VR D ρ' lv (.mc t (List.zip x.1 x.2.1)) v;unfold VR at h ⊢
  exact h
 |.bp k,x,v,h=>by
  replace h:VR D ρ lv (.bp k 0) v:=h;show VR D ρ' lv (.bp (m k) 0) v;simp only[VR]at h ⊢;obtain⟨sl,i,h1,h2⟩:=h
  exact⟨sl,i,hm k sl h1,h2⟩
 |.nilp,x,v,h=>by
  replace h:VR D ρ lv .nilp v:=h;show VR D ρ' lv .nilp v
  simpa only[VR]using h
 |.nilf,x,v,h=>by
  replace h:VR D ρ lv .nilf v:=h;show VR D ρ' lv .nilf v
  simpa only[VR]using h
 |.nili,x,v,h=>by
  replace h:VR D ρ lv .nili v:=h;show VR D ρ' lv .nili v
  simpa only[VR]using h
 |.nils,x,v,h=>by
  replace h:VR D ρ lv .nils v:=h;show VR D ρ' lv .nils v
  simpa only[VR]using h
 |.fn f a b,x,v,h=>by
  replace h:VR D ρ lv (.fn f (z1u D (λk=>k) a (HL.fst _ x)) (z1u D (λk=>k) b (HL.snd _ x))) v:=h;show VR D ρ' lv (.fn f (z1u D m a (HL.fst _ x)) (z1u D m b (HL.snd _ x))) v;simp only[VR]at h ⊢;obtain⟨as,bs,h1,h2,h3⟩:=h
  exact⟨as,bs,h1,VRL.maps hm hD a h2,VRL.maps hm hD b h3⟩
 |.iface t s,x,v,h=>by
  replace h:VR D ρ lv (.iface t (zq2 D (λk=>k) s x)) v:=h;show VR D ρ' lv (.iface t (zq2 D m s x)) v;simp only[VR]at h ⊢;obtain⟨y,h1,h2⟩:=h
  exact⟨y,h1,VR.maps hm hD s h2⟩
 |.agg cs,x,v,h=>by
  replace h:VR D ρ lv (.agg (z1u D (λk=>k) cs x)) v:=h;show VR D ρ' lv (.agg (z1u D m cs x)) v;simp only[VR]at h ⊢;obtain⟨y,h1,h2⟩:=h
  exact⟨y,h1,VRL.maps hm hD cs h2⟩
 |.tup cs,x,v,h=>by
  replace h:VR D ρ lv (.tup (z1u D (λk=>k) cs x)) v:=h;show VR D ρ' lv (.tup (z1u D m cs x)) v;simp only[VR]at h ⊢;obtain⟨y,h1,h2⟩:=h
  exact⟨y,h1,VRL.maps hm hD cs h2⟩
 |.ref cs off,x,v,h=>by
  replace h:VR D ρ lv (.ref (z1u D (λk=>k) cs x) off) v:=h;show VR D ρ' lv (.ref (z1u D m cs x) off) v;simp only[VR]at h ⊢;obtain⟨y,h1,h2⟩:=h
  exact⟨y,h1,VRL.maps hm hD cs h2⟩
 |.dp k off,x,v,h=>by
  replace h:VR D ρ lv (.dp k x.1 off) v:=h;show VR D ρ' lv (.dp (m k) x.1 off) v;simp only[VR]at h ⊢;obtain⟨sl,j,ver,n,h1,h2⟩:=h
  exact⟨sl,j,ver,n,hm k sl h1,h2⟩
 |.ap k t off,x,v,h=>by
  replace h:VR D ρ lv (.ap k t x.1 x.2.1 off) v:=h;show VR D ρ' lv (.ap (m k) t x.1 x.2.1 off) v;simp only[VR]at h ⊢;obtain⟨sl,w,h1,h2⟩:=h;exact⟨sl,w,hm k sl h1,h2⟩
theorem VRL.maps(hm:Maps m ρ ρ')(hD:D.Ok P):∀(l:List Sh) {x:HL D.T (Sh.z04 l)}{vs:List V},VRL D ρ lv (z1u D (λk=>k) l x) vs->VRL D ρ' lv (z1u D m l x) vs
 |[],x,vs,h=>by
  replace h:VRL D ρ lv [] vs:=h;show VRL D ρ' lv [] vs
  simpa only[VRL]using h
 |sh::l,x,vs,h=>by
  replace h:VRL D ρ lv (zq2 D (λk=>k) sh (HL.fst _ x)::z1u D (λk=>k) l (HL.snd _ x)) vs:=h;show VRL D ρ' lv (zq2 D m sh (HL.fst _ x)::z1u D m l (HL.snd _ x)) vs;simp only[VRL]at h ⊢;obtain⟨v,r,h1,h2,h3⟩:=h;exact⟨v,r,h1,VR.maps hm hD sh h2,VRL.maps hm hD l h3⟩
end
theorem OR.maps(hm:Maps m ρ ρ')(hD:D.Ok P){L sl o x}(h:OR D ρ lv L sl (zuv D (λk=>k) o x)):OR D ρ' lv L sl (zuv D m o x):=by
 cases o with
 |cells cs=>
  grind[zuv,OR,VRL.maps]
 |st i=>
  simp[zuv,OR]at h ⊢;obtain⟨j,vs,h1,h2,h3⟩:=h;refine⟨j,vs,h1,h2,.of h3.length λk c v hc hv =>?_⟩;have:=h3.y1r hc hv;rw[zgq,Qaf]at hc;obtain⟨p,hp,rfl⟩:=hc
  exact VR.zm4 this
 |acc ty t w=>exact h
 |siter=>exact h
 |rig=>exact h
 |mp ty t=>exact h
 |mit t=>exact h
 |bld ty k=>
  simp[OR]at h ⊢;obtain⟨i,u,c,h1,h2,h3,h4⟩:=h;refine⟨i,u,c,h1,h2,h3,?_⟩;simp[ymn,VR]at h4 ⊢;obtain⟨sl,k1,k2⟩:=h4
  exact⟨sl,hm k sl k1,k2⟩
 |deep ty q=>
  replace h:=h;show OR D ρ' lv L sl (.deep ty q x.1 none);simp only[OR]at h ⊢;refine⟨h.1,?_⟩;have k3:=h.2
  cases hk:sl.k with
  |none=>grind
  |some j=>rw[hk]at k3;exact k3
 |deeph ty q f k=>
  replace h:=h;show OR D ρ' lv L sl (.deep ty q x.1 (some (x.2.1,f,m k)));simp only[OR]at h ⊢;refine⟨h.1,?_⟩;have k3:=h.2
  cases hk:sl.k with
  |none=>grind
  |some j=>
   rw[hk]at k3;obtain⟨ver,cp,fps,q1,q2,q3,q4,q5,q6,q7⟩:=k3;refine⟨ver,cp,fps,q1,q2,q3,q4,q5,λn x' w c a b d =>?_,λn' f' s' e=>by injection e with e;grind⟩;obtain⟨vs,cs,a1,a2,a3,a4,a5⟩:=q6 n x' w c a b d;refine⟨vs,cs,a1,a2,a3,a4,λf' p u b e1 e2 e3 =>?_⟩;have:=a5 f' p u b e1 e2 e3;by_cases hc:x.2.1.toNat=n∧f=f';simp[z2h,Qbq hc]at this ⊢;obtain⟨g1,g2,g3,sl',g4,g5⟩:=this;exact⟨g1,g2,g3,sl',hm _ _ g4,g5⟩
   simp[z2h,Qbr hc]at this ⊢;exact this
theorem zsp:∀(os) {k x s o},(s,o)∈z55 D m os k x->∃j,k<=j∧j<k+os.length∧s=m j∧∃(osh:OSh) (y:HL D.T osh.tys),o=zuv D m osh y∧(j,zuv D (λk=>k) osh y)∈z55 D (λk=>k) os k x
 |[],k,x,s,o,h=>by cases h
 |osh::os,k,x,s,o,h=>by
  rcases Qbg.1 h with h|h
  injection h with h1 h2;exact⟨k,Qbp _,by simp,h1,osh,HL.fst _ x,h2,Qak⟩;obtain⟨j,h1,h2,h3,osh',y,h4,h5⟩:=zsp os h;exact⟨j,by omega,by grind,h3,osh',y,h4,Qai _ h5⟩
theorem zxt:∀{M s o},fnd (zjo D M) s=some o->o = .gone∧∃k,(k,Src.slot s)∈M
 |[],s,o,h=>by simp[zjo,fnd]at h
 |(k,.slot s')::M,s,o,h=>by
  simp[zjo,zz9]at h;split at h
  grind
  obtain⟨h1,k',h2⟩:=zxt h;grind
 |(k,.nil)::M,s,o,h=>by
  simp[zjo]at h;obtain⟨h1,k',h2⟩:=zxt h
  grind
theorem zta:∀{M s},fnd (zjo D M) s=none->∀k,(k,Src.slot s)∉M
 |[],s,h,k,hm=>by cases hm
 |(k',.slot s')::M,s,h,k,hm=>by
  simp[zjo,zz9]at h;split at h;cases h
  rcases Qbg.1 hm with hm|hm
  grind
  exact zta h k hm
 |(k',.nil)::M,s,h,k,hm=>by
  simp[zjo]at h
  rcases Qbg.1 hm with hm|hm
  grind
  exact zta h k hm
structure Left(D:Dat)(lv:Nat)(L:List (Option kzg))(ρ:List Slot)(p:Nat)(L':List (Option kzg))(ρ':List Slot)(os:List OSh)(y:HL D.T (z03 os)):Prop where
 len:ρ'.length=os.length
 ob:∀j o,(j,o)∈z55 D (λk=>k) os 0 y->∃sl,ρ'[j]? = some sl∧OR D ρ' lv L' sl o
 inj:∀(s s':Nat) (sl sl':Slot) (i:Nat),ρ'[s]? = some sl->ρ'[s']? = some sl'->sl.has i->sl'.has i->s=s'
 mine:∀(s:Nat) (sl:Slot) (i:Nat),ρ'[s]? = some sl->sl.has i->L.length<=i∨∃(k:Nat) (sl0:Slot),ρ[k]? = some sl0∧sl0.has i
 out:∀i,i<L.length->(∀(k:Nat) (sl0:Slot),ρ[k]? = some sl0->¬sl0.has i)->i<L'.length∧L'[i]? = L[i]?
 pin:∀(j:Nat) (sl:Slot),j<p->ρ[j]? = some sl->ρ'[j]? = some sl
 fpl:∀(s:Nat) (sl:Slot) (i:Nat),ρ'[s]? = some sl->i∈sl.fp->sl.k≠some i∧∃a,L'[i]? = some (some a)
theorem TRr.after(hR:TRr D F ρ ts σ)(hD:D.Ok P){M:z8s D.T}{n p:Nat}(hM:MOk n M){ρ0:List Slot}(hA:Agr ρ M ρ0)(h0:∀j sl,ρ0[j]? = some sl->∃src,fnd M j=some src∧src.is ρ sl∧∀s,src = .slot s->∃o',fnd ts.o s=some o'∧o'.live)
  (hMk:∀k s,(k,Src.slot s)∈M->fnd M k=some (.slot s)) (hp:∀k,k<p->∃s,fnd M k=some (.slot s)) {L':List (Option kzg)}{ρ':List Slot}{os:List OSh}{y:HL D.T (z03 os)}(hpo:p<=os.length) (hL:Left D F.lv σ.H.L ρ0 p L' ρ' os y) :
  TRr D F (ρ++ρ'.drop p) (zdp D M p ts os y) {σ with H:=⟨F.lv,L',F.E⟩}∧Maps (zbx D M p ts.nx) ρ' (ρ++ρ'.drop p):=by
 have hmaps:Maps (zbx D M p ts.nx) ρ' (ρ++ρ'.drop p):=λj sl hj=>by
  unfold zbx;by_cases hjp:j<p;rw[Qbq hjp];obtain⟨s,hs⟩:=hp j hjp;obtain⟨sl0,e1,e2⟩:=hA j _ hs;have:=hL.pin j sl0 hjp e1
  rw[hj]at this;injection this with this;subst this
  rw[hs];exact lookup_append e2;rw[Qbr hjp,<-hR.nx,Qav (by omega),Qbb];rw[<-hj];congr 1;omega
 have minj:∀j j',j<os.length->j'<os.length->zbx D M p ts.nx j=zbx D M p ts.nx j'->j=j':=λj j' hj hj' h=>by
  unfold zbx at h
  have low:∀j s,fnd M j=some (.slot s)->s<ts.nx:=λj s hs=>by
   obtain⟨sl0,e1,e2⟩:=hA j _ hs;rw[<-hR.nx];exact(Qaa.1 e2).1
  by_cases h1:j<p <;> by_cases h2:j'<p
  rw[Qbq h1,Qbq h2]at h;obtain⟨s,hs⟩:=hp j h1;obtain⟨s',hs'⟩:=hp j' h2;rw[hs,hs']at h;simp only at h;subst h;exact hM.inj j j' s hs hs';obtain⟨s,hs⟩:=hp j h1;rw[Qbq h1,Qbr h2,hs]at h;simp only at h;have:=low j s hs;omega;obtain⟨s,hs⟩:=hp j' h2;rw[Qbr h1,Qbq h2,hs]at h;simp only at h;have:=low j' s hs;omega;rw[Qbr h1,Qbr h2]at h;omega
 have kinds:∀s o,fnd (zdp D M p ts os y).o s=some o->(∃j,j<os.length∧s=zbx D M p ts.nx j∧∃(osh:OSh) (z:HL D.T osh.tys),o=zuv D (zbx D M p ts.nx) osh z∧(j,zuv D (λk=>k) osh z)∈z55 D (λk=>k) os 0 y)∨(o = .gone∧∃k,(k,Src.slot s)∈M)∨(fnd ts.o s=some o∧∀k,(k,Src.slot s)∉M):=λs o h=>by
  simp only[zdp]at h;rw[zn9]at h;split at h;rename_i o' ho';injection h with h;subst h;obtain⟨j,h1,h2,h3,h4⟩:=zsp os (z2o ho');exact .inl ⟨j,by omega,h3,h4⟩;rw[zn9]at h;split at h;rename_i o' ho';injection h with h;subst h;obtain⟨h1,h2⟩:=zxt ho';exact .inr (.inl ⟨h1,h2⟩);rename_i hn;exact .inr (.inr ⟨h,zta hn⟩)
 have apart:∀s o sl i,fnd ts.o s=some o->o.live->(∀k,(k,Src.slot s)∉M)->ρ[s]? = some sl->sl.has i->∀(k:Nat) (sl0:Slot),ρ0[k]? = some sl0->¬sl0.has i:=λs o sl i ho hl hno hs hk k sl0 h1 h2=>by
  obtain⟨src,e1,e2,e3⟩:=h0 k sl0 h1
  cases src with
  |nil=>simp only[Src.is]at e2;subst e2;rcases h2 with h|h <;> cases h
  |slot s0=>
   obtain⟨o',f1,f2⟩:=e3 s0 rfl;have:=hR.inj s s0 o o' sl sl0 i ho f1 hl f2 hs e2 hk h2;subst this;exact hno k (z2o e1)
 have passed:∀(k:Nat) (sl0:Slot) (i:Nat),ρ0[k]? = some sl0->sl0.has i->¬F.out i:=λk sl0 i h1 h2=>by
  obtain⟨src,e1,e2,e3⟩:=h0 k sl0 h1
  cases src with
  |nil=>simp only[Src.is]at e2;subst e2;rcases h2 with h|h <;> cases h
  |slot s0=>
   obtain⟨o',f1,f2⟩:=e3 s0 rfl;exact hR.mine s0 o' sl0 i f1 f2 e2 h2
 have oldlt:∀s o sl i,fnd ts.o s=some o->o.live->ρ[s]? = some sl->sl.has i->i<σ.H.L.length:=λs o sl i ho hl hs hk=>hR.lt ho hl hs hk
 have slotOld:∀s o sl,fnd ts.o s=some o->(ρ++ρ'.drop p)[s]? = some sl->ρ[s]? = some sl:=λs o sl ho h=>by
  obtain⟨q,h1,h2⟩:=hR.ob s o ho;rw[lookup_append h1]at h;rw[h1,h]
 have slotNew:∀j sl,j<os.length->(ρ++ρ'.drop p)[zbx D M p ts.nx j]? = some sl->ρ'[j]? = some sl:=λj sl hj h=>by
  have hlt:j<ρ'.length:=by rw[hL.len];exact hj
  have:=hmaps j ρ'[j] (Qab hlt)
  rw[this]at h;injection h with h;rw[<-h];exact Qab hlt
 refine⟨⟨?_,hR.nt,λj x hj =>?_,λs o ho =>?_,λs s' o o' sl sl' i h1 h2 l1 l2 r1 r2 k1 k2 =>?_,λs o sl i h1 l1 r1 k1 =>?_,rfl,rfl,hR.e0,hR.d.more _,λi hi =>?_,λj sl hj=>lookup_append (hR.pin j sl hj),λs o sl i h1 l1 r1 k1 =>?_,λi s v h1 h2=>(hR.g i s v h1 h2).more _⟩,hmaps⟩;simp only[zdp,Qap,List.length_drop,hL.len,hR.nx];obtain⟨v,h1,h2⟩:=hR.tm j x hj;exact⟨v,h1,h2.more _⟩
 rcases kinds s o ho with ⟨j,h1,h2,osh,z,h3,h4⟩|⟨rfl,k,h1⟩|⟨h1,h2⟩
 obtain⟨sl,e1,e2⟩:=hL.ob j _ h4;refine⟨sl,by rw[h2];exact hmaps j sl e1,?_⟩;rw[h3];exact OR.maps hmaps hD e2;obtain⟨sl0,e1,e2⟩:=hA k _ (hMk k s h1);exact⟨sl0,lookup_append e2,by simp only[OR]⟩;obtain⟨q,e1,e2⟩:=hR.ob s o h1;exact⟨q,lookup_append e1,e2.mono _ λi hi hl=>(hL.out i (hR.lt h1 hl e1 hi) (apart s o q i h1 hl h2 e1 hi)).2⟩
 rcases kinds s o h1 with ⟨j,a1,a2,osh,z,a3,a4⟩|⟨rfl,k,a1⟩|⟨a1,a2⟩
 rcases kinds s' o' h2 with ⟨j',b1,b2,osh',z',b3,b4⟩|⟨rfl,k',b1⟩|⟨b1,b2⟩
 rw[a2,b2]
 congr 1
 rw[a2]at r1;rw[b2]at r2;exact hL.inj j j' sl sl' i (slotNew j sl a1 r1) (slotNew j' sl' b1 r2) k1 k2;exact l2.elim
 exfalso
 rw[a2]at r1;have q2:=slotOld s' o' sl' b1 r2
 rcases hL.mine j sl i (slotNew j sl a1 r1) k1 with h|⟨k,sl0,e1,e2⟩
 have:=oldlt s' o' sl' i b1 l2 q2 k2;omega;exact apart s' o' sl' i b1 l2 b2 q2 k2 k sl0 e1 e2;exact l1.elim
 rcases kinds s' o' h2 with ⟨j',b1,b2,osh',z',b3,b4⟩|⟨rfl,k',b1⟩|⟨b1,b2⟩
 exfalso
 rw[b2]at r2;have q1:=slotOld s o sl a1 r1
 rcases hL.mine j' sl' i (slotNew j' sl' b1 r2) k2 with h|⟨k,sl0,e1,e2⟩
 have:=oldlt s o sl i a1 l1 q1 k1;omega;exact apart s o sl i a1 l1 a2 q1 k1 k sl0 e1 e2;exact l2.elim;exact hR.inj s s' o o' sl sl' i a1 b1 l1 l2 (slotOld _ _ _ a1 r1) (slotOld _ _ _ b1 r2) k1 k2
 rcases kinds s o h1 with ⟨j,a1,a2,osh,z,a3,a4⟩|⟨rfl,k,a1⟩|⟨a1,a2⟩
 rw[a2]at r1
 rcases hL.mine j sl i (slotNew j sl a1 r1) k1 with h|⟨k,sl0,e1,e2⟩
 intro ho;have:=(hR.out i ho).1;omega;exact passed k sl0 i e1 e2;exact l1.elim;exact hR.mine s o sl i a1 l1 (slotOld _ _ _ a1 r1) k1;obtain⟨h1,h2⟩:=hR.out i hi;obtain⟨h3,h4⟩:=hL.out i h1 λk sl0 e1 e2=>passed k sl0 i e1 e2 hi
 exact⟨h3,h4.trans h2⟩
 rcases kinds s o h1 with ⟨j,a1,a2,osh,z,a3,a4⟩|⟨rfl,k,a1⟩|⟨a1,a2⟩
 rw[a2]at r1;exact hL.fpl j sl i (slotNew j sl a1 r1) k1;exact l1.elim;have q1:=slotOld _ _ _ a1 r1;have hq:=hR.fpl s o sl i a1 l1 q1 k1;refine⟨hq.1,?_⟩;show ∃a,L'[i]? = _;rw[(hL.out i (hR.lt a1 l1 q1 (.inr k1)) (apart s o sl i a1 l1 a2 q1 (.inr k1))).2];exact hq.2
end
section
variable {P : Program} {D : Dat} {F : Fr} {ρ : List Slot} {ts : TS D.T} {σ : St} {lv : Nat}
def SlOk(L:List (Option kzg))(ρ0:List Slot):Prop :=
 (∀(s s':Nat) (sl sl') (i),ρ0[s]? = some sl->ρ0[s']? = some sl'->sl.has i->sl'.has i->s=s') ∧
 ∀(s:Nat) (sl) (i),ρ0[s]? = some sl->i∈sl.fp->sl.k≠some i∧∃a,L[i]? = some (some a)
def y7n(L L':List (Option kzg))(ρ0:List Slot)(kc:List (Nat×Nat)):Prop:=∀q∈kc,∀sl i,ρ0[q.1]? = some sl->sl.k=some i->cellAt L'[i]? q.2=cellAt L[i]? q.2
def ynm(L:List (Option kzg))(ρ0:List Slot)(kc:List (Nat×Nat)):Prop:=∀q∈kc,∃sl i u,ρ0[q.1]? = some sl∧sl.k=some i∧cellAt L[i]? q.2=some u∧u.leaf=true
theorem ynm.nil{L ρ0}:ynm L ρ0 []:=λq hq=>by cases hq
theorem y7n.nil{L L' ρ0}:y7n L L' ρ0 []:=λq hq=>by cases hq
def ysa(pan:Sh)(v:V):Out:=match pan with
 |.tup _=>.ret v
 |_=>.pan v
theorem yow{pan v w}(h:Out.ret w=ysa pan v):v=w∧∀{R} (k kp:TV D.T->TS D.T->Option R),altK D pan k kp=k:=by
 cases pan <;> simp only[ysa]at h <;> first|(cases h;done)|(injection h with h;exact⟨h.symm,λ_ _=>rfl⟩)
theorem yjq{pan v w}(h:Out.pan w=ysa pan v):v=w∧∀{R} (k kp:TV D.T->TS D.T->Option R),altK D pan k kp=kp:=by
 cases pan <;> simp only[ysa]at h <;> first|(cases h;done)|(injection h with h;exact⟨h.symm,λ_ _=>rfl⟩)
theorem ydu{M:z8s D.T}{old}(h:∀k s,fnd M k≠some (.slot s)):∀(l) (ts),Go.Ab.zb6 D M old l ts=ts
 |[],ts=>rfl
 |q::l,ts=>by
  simp[Go.Ab.zb6];split
  grind
  exact ydu h l ts
theorem z02j{pan v}(h:(match pan with| .tup _=>false|_=>true)=true):ysa pan v = .pan v:=by cases pan <;> first|rfl|cases h
def Ent.Flat(P:Program)(e:Ent D)(x:HL D.T (Sh.z04 e.args++z03 e.aos))(o:HL D.T (Sh.z04 e.outs++z03 e.ros) ⊕ HL D.T (e.pan.tys++z03 e.pos)):Prop :=
 ∀(lv) (L) (E) (ρ0) (vargs),ρ0.length=e.aos.length->VRL D ρ0 lv (z1u D (λk=>k) e.args (HL.fst _ x)) vargs ->
  (∀j o,(j,o)∈z55 D (λk=>k) e.aos 0 (HL.snd _ x)->∃sl,ρ0[j]? = some sl∧OR D ρ0 lv L sl o) ->
  SlOk L ρ0->ynm L ρ0 e.kc ->
  znq P e.f vargs ⟨lv,L,E⟩ λout H'=>∃L' ρ',H'=⟨lv,L',E⟩ ∧
   match o with
   |.inl y=>Left D lv L ρ0 e.p L' ρ' e.ros (HL.snd _ y)∧((∀q∈e.ren,∀sl,ρ0[q.1]? = some sl->∃sl',ρ'[q.2]? = some sl'∧sl'.v=sl.v)∧y7n L L' ρ0 e.kc)∧∃vs,out = .ret (z9y vs)∧VRL D ρ' lv (z1u D (λk=>k) e.outs (HL.fst _ y)) vs
   |.inr y=>Left D lv L ρ0 e.p L' ρ' e.pos (HL.snd _ y)∧∃v,out=ysa e.pan v∧VR D ρ' lv (zq2 D (λk=>k) e.pan (HL.fst _ y)) v
def Ent.Pure(P:Program)(e:Ent D)(x:HL D.T (Sh.z04 e.args++z03 e.aos))(y:HL D.T (Sh.z04 e.outs++z03 e.ros)):Prop :=
 e.aos=[]∧e.ros=[]∧e.ren=[]∧∀(lv) (vargs),VRL D [] lv (z1u D (λk=>k) e.args (HL.fst _ x)) vargs->∃vs,(∀ρ lv',VRL D ρ lv' (z1u D (λk=>k) e.outs (HL.fst _ y)) vs)∧zpq P e.f vargs (z9y vs)
def Ent.Ok(P:Program)(e:Ent D):Prop:=∀(R) (x) (k) (kp) (r:R),e.go x k kp=some r ->
 match e.pure with
 |true=>∃y,k y=some r∧e.Pure P x y
 |false=>(∃y,k y=some r∧e.Flat P x (.inl y))∨∃y,kp y=some r∧e.Flat P x (.inr y)
theorem TRr.zb6{M:z8s D.T}{old ρ0 ρ' σ'}(hold:TRr D F ρ old σ)(hA:∀k s,fnd M k=some (.slot s)->∃sl,ρ0[k]? = some sl∧ρ[s]? = some sl)(hm:∀(s:Nat) (sl:Slot),ρ[s]? = some sl->ρ'[s]? = some sl)
  (hv:∀x v,VR D ρ F.lv x v->VR D ρ' F.lv x v):∀(l) {ts},y7n σ.H.L σ'.H.L ρ0 l->TRr D F ρ' ts σ'->TRr D F ρ' (Go.Ab.zb6 D M old l ts) σ'
 |[],ts,_,hR=>hR
 |q::l,ts,h,hR=>by
  have hl:=λq hq=>h q (Qai _ hq)
  simp[Go.Ab.zb6];split;rename_i s hs;split;rename_i olds news h1 h2;split;rename_i v hv1;refine TRr.zb6 hold hA hm hv l hl ?_;obtain⟨sl,e1,e2⟩:=hA _ _ hs;obtain⟨sl1,f1,f2⟩:=hold.ob s _ h1;rw[e2]at f1;cases f1;obtain⟨sl2,g1,g2⟩:=hR.ob s _ h2;rw[hm _ _ e2]at g1;cases g1;simp only[OR]at f2 g2;obtain⟨i,vs,f3,f4,f5⟩:=f2;obtain⟨i',vs',g3,g4,g5⟩:=g2;rw[f3]at g3;cases g3;have hk:=h q Qak sl i e1 f3
  rw[f4,g4]at hk;have hk:vs'[q.2]? = vs[q.2]? := hk
  have hset:σ'.H.L.set i (some (.cells vs'))=σ'.H.L:=by
   grind[List.set_getElem_self]
  have hup:=hR.upd h2 trivial (hm _ _ e2) f3 (.cells (news.set q.2 v)) (.cells vs') (by
   simp only[OR];refine⟨i,vs',f3,by rw[hset];exact g4,VRL.of (by rw[List.length_set];exact g5.length) λj c u hj hu =>?_⟩;rw[Qbd]at hj;split at hj;rename_i hjq;subst hjq;split at hj;cases hj;obtain⟨w,w1,w2⟩:=f5.get _ _ hv1
   grind
   cases hj
   exact g5.y1r hj hu)
  simp_all
  exact TRr.zb6 hold hA hm hv l hl hR;exact TRr.zb6 hold hA hm hv l hl hR;exact TRr.zb6 hold hA hm hv l hl hR
theorem TRr.zem{M:z8s D.T}{p nx}{ρ0 ρ':List Slot}(hA:∀k s,fnd M k=some (.slot s)->∃sl,ρ0[k]? = some sl∧ρ[s]? = some sl)(hm:Maps (zbx D M p nx) ρ' ρ):∀(l) {ts},(∀q∈l,∀sl,ρ0[q.1]? = some sl->∃sl',ρ'[q.2]? = some sl'∧sl'.v=sl.v)->TRr D F ρ ts σ->TRr D F ρ (Go.Ab.zem D M p nx l ts) σ
 |[],ts,_,hR=>hR
 |q::l,ts,h,hR=>by
  simp[Go.Ab.zem];split;rename_i s hs;obtain⟨sl,h1,h2⟩:=hA _ _ hs;obtain⟨sl',h3,h4⟩:=h q Qak sl h1;exact TRr.zem hA hm l (λq hq=>h q (Qai _ hq)) (hR.zdi _ λx v hx=>VR.ren h2 (hm _ _ h3) h4 hx);exact TRr.zem hA hm l (λq hq=>h q (Qai _ hq)) hR
variable (hD : D.Ok P)
include hD
theorem VR.yff{cs vs}(h:VRL D ρ lv cs vs):VR D ρ lv (Go.Ab.yff D cs) (z9y vs):=by
 cases cs with
 |nil=>subst h;exact⟨[],rfl,by simp[VRL]⟩
 |cons c cs=>
  have h0:=h;obtain⟨v,r,rfl,h1,h2⟩:=h
  cases cs with
  |nil=>subst h2;exact h1
  |cons d ds=>
   simp[VRL]at h2;simp[Go.Ab.yff,z9y,VR]
   grind
theorem Ent.zm0(hR:TRr D F ρ ts σ){e:Ent D}{vs vargs M x}(hv:VRL D ρ F.lv vs vargs)(h:e.fit D vs ts = .ok (M,x)) :
  MOk e.aos.length M∧∃ρ0:List Slot,ρ0.length=e.aos.length∧Agr ρ M ρ0∧(∀j sl,ρ0[j]? = some sl->∃src,fnd M j=some src∧src.is ρ sl∧∀s,src = .slot s->∃o',fnd ts.o s=some o'∧o'.live) ∧
   VRL D ρ0 F.lv (z1u D (λk=>k) e.args (HL.fst _ x)) vargs∧∀j o,(j,o)∈z55 D (λk=>k) e.aos 0 (HL.snd _ x)->∃sl,ρ0[j]? = some sl∧OR D ρ0 F.lv σ.H.L sl o:=by
 unfold Ent.fit at h;split at h;rename_i M1 y hy;split at h;rename_i M2 z hz;cases h;obtain⟨a1,a2,a3⟩:=zeo hD e.args hy hv;obtain⟨b1,b2,b3,b4⟩:=zoj hD hR e.aos hz;have hM:=b2 (a2 ⟨λk src h=>by simp[fnd]at h,λk k' s h=>by simp[fnd]at h,λk src h=>by cases h⟩);obtain⟨ρ0,c1,c2,c3⟩:=ysv hR hM λj hj=>by simpa using b3 j hj
 refine⟨hM,ρ0,c1,c2,λj sl hj =>?_,by rw[HL.zlq];exact a3 ρ0 (b1.agr c2),λj o hm =>?_⟩;obtain⟨src,e1,e2⟩:=c3 j sl hj;obtain⟨src',e3,e4⟩:=b3 j (by grind)
 simp_all
 grind[HL.zls]
 cases h;cases h;cases h;cases h
omit hD in
theorem yxt(hR:TRr D F ρ ts σ):{σ with H:=⟨F.lv,σ.H.L,F.E⟩}=σ:=by
 have e1:=hR.lv;have e2:=hR.E;obtain⟨t,⟨l,L,E⟩,d,e0⟩:=σ
 grind
omit hD in
theorem y5f(hR:TRr D F ρ ts σ){M:z8s D.T}{n}(hM:MOk n M){ρ0}(h0:∀j sl,ρ0[j]? = some sl->∃src,fnd M j=some src∧src.is ρ sl∧∀s,src = .slot s->∃o',fnd ts.o s=some o'∧o'.live) :
  SlOk σ.H.L ρ0:=⟨λs s' sl sl' i h1 h2 k1 k2=>by
 obtain⟨src,e1,e2,e3⟩:=h0 s sl h1;obtain⟨src',f1,f2,f3⟩:=h0 s' sl' h2
 cases src with
 |nil=>subst e2;rcases k1 with h|h <;> cases h
 |slot q=>
  cases src' with
  |nil=>subst f2;rcases k2 with h|h <;> cases h
  |slot q'=>
   obtain⟨o,g1,g2⟩:=e3 q rfl;obtain⟨o',g3,g4⟩:=f3 q' rfl;have:=hR.inj q q' o o' sl sl' i g1 g3 g2 g4 e2 f2 k1 k2;subst this
   exact hM.inj s s' q e1 f1,λs sl i h1 k1=>by
 obtain⟨src,e1,e2,e3⟩:=h0 s sl h1
 cases src with
 |nil=>subst e2;cases k1
 |slot q=>
  obtain⟨o,g1,g2⟩:=e3 q rfl
  exact hR.fpl q o sl i g1 g2 e2 k1⟩
omit hD in
theorem zmu(hR:TRr D F ρ ts σ){M ρ0}(hA:Agr ρ M ρ0):∀{kc},ypf D M ts kc=true->ynm σ.H.L ρ0 kc
 |[],_=>.nil
 |q::l,h=>by
  simp[ypf]at h;split at h;rename_i s hs;split at h;rename_i olds ho;split at h;rename_i s' hv;intro q' hq'
  rcases Qbg.1 hq' with rfl|hq'
  obtain⟨sl,e1,e2⟩:=hA _ _ hs;obtain⟨sl',k1,k2⟩:=hR.ob s _ ho;simp[OR]at k2;obtain⟨i,vs,k2,k3,k4⟩:=k2;have e2:ρ[s]? = some sl:=e2;rw[k1]at e2;cases e2;obtain⟨u,u1,u2⟩:=k4.get _ _ hv
  grind[VR,cellAt]
  exact zmu hR hA h q' hq';cases h;cases h;cases h
theorem zkc{R}(hR:TRr D F ρ ts σ){f vs vargs k kp kf}{r:R}(hv:VRL D ρ F.lv vs vargs):∀{tbl},(∀e∈tbl,e.Ok P)->zuc D f vs ts k kp kf tbl=some r ->
  ((∃e∈tbl,e.pure=false)∧∃(Post:Out->Heap->Prop),znq P f vargs σ.H Post∧(∀rv H',Post (.ret rv) H'->∃z ts' ρ',VR D ρ' F.lv z rv∧TRr D F ρ' ts' {σ with H:=H'}∧k z ts'=some r) ∧
    (∀v H',Post (.pan v) H'->∃z ts' ρ',VR D ρ' F.lv z v∧TRr D F ρ' ts' {σ with H:=H'}∧kp z ts'=some r)) ∨
  (∃rv,zpq P f vargs rv∧∃z ρ' ts',(∀ρ',VR D ρ' F.lv z rv)∧TRr D F ρ' ts' σ∧k z ts'=some r∧ts'.t=ts.t∧ts'.nt=ts.nt)∨∃s,kf s=some r
 |[],_,h=>by simp[zuc,z05g]at h
 |e::tbl,htbl,h=>by
  have up:∀{A B:Prop},(((∃e∈tbl,e.pure=false)∧A)∨B)->((∃e'∈e::tbl,e'.pure=false)∧A)∨B:=λ{A B} h=>h.imp (λ⟨⟨e',h1,h2⟩,h3⟩=>⟨⟨e',Qai _ h1,h2⟩,h3⟩) λh=>h
  simp only[zuc]at h;split at h;exact up (zkc hR hv (λe he=>htbl e (Qai _ he)) h);rename_i hf;have hf:=Qaj hf;subst hf;split at h;exact up (zkc hR hv (λe he=>htbl e (Qai _ he)) h)
  grind
  rename_i M x hfit;split at h;rename_i hc;obtain⟨ck,c1,c2,c3,c4⟩:=hc;obtain⟨hM,ρ0,d1,d2,d3,d4,d5⟩:=Ent.zm0 hD hR hv hfit
  have hp:∀k,k<e.p->∃s,fnd M k=some (.slot s):=λk hk=>by
   have:=Qat.1 c4 k (List.mem_range.2 hk);split at this
   grind
   cases this
  have hmk:∀k s,(k,Src.slot s)∈M->fnd M k=some (.slot s):=λk s hm=>hM.one k _ hm
  have hinj:=y5f hR hM d3;have hok:=htbl e Qak _ _ _ _ _ h
  cases hpure:e.pure with
  |true=>
   rw[hpure]at hok;obtain⟨y,hy,e1,e2,en,e3⟩:=hok;have hr0:=Qao (by rw[d1,e1];rfl);rw[hr0]at d4;obtain⟨us,f1,f2⟩:=e3 F.lv vargs d4
   have hleft:Left D F.lv σ.H.L ρ0 e.p σ.H.L [] e.ros (HL.snd _ y):=by
    refine⟨by rw[e2];rfl,λj o hm =>?_,λs s' sl sl' i h1=>by simp at h1,λs sl i h1=>by simp at h1,λi hi _=>⟨hi,rfl⟩,λj sl hj hs =>?_,λs sl i h1=>by simp at h1⟩
    grind[zsp]
    grind
   obtain⟨g1,g2⟩:=TRr.after hR hD hM d2 d3 hmk hp c2 hleft;rw[yxt hR]at g1;rw[en,ydu (λk s hk=>by have:=hM.lt k _ hk;grind)]at hy
   exact .inr (.inl ⟨_,f2,_,_,_,λρ'=>VR.yff hD (VRL.maps (ρ:=[]) (λj sl hj=>by simp at hj) hD e.outs (f1 _ _)),g1,hy,rfl,rfl⟩)
  |false=>
   rw[hpure]at hok;have hHeap:=zqy σ.H hR.lv hR.E;refine .inl ⟨⟨e,Qak,hpure⟩,?_⟩
   rcases hok with ⟨y,hy,hflat⟩|⟨y,hy,hflat⟩
   have hh:=hflat F.lv σ.H.L F.E ρ0 vargs d1 d4 d5 hinj (zmu hR d2 ck);rw[<-hHeap]at hh;refine⟨_,hh,λrv H' ⟨L',ρ',e1,e2,⟨en,ek⟩,vs',e3,e4⟩ =>?_,λv H' ⟨L',ρ',e1,e2,en,vs',e3,e4⟩=>(by cases e3)⟩;injection e3 with e3;subst e1;subst e3;obtain⟨g1,g2⟩:=TRr.after hR hD hM d2 d3 hmk hp c2 e2
   exact⟨_,_,_,VR.yff hD (VRL.maps g2 hD e.outs e4),(TRr.zb6 (ρ0:=ρ0) hR (λk s hk=>d2 k _ hk) (λs sl h=>lookup_append h) (λx v h=>h.more _) e.kc ek g1).zem (λk s hk=>(d2 k _ hk).imp λsl h=>⟨h.1,lookup_append h.2⟩) g2 _ en,hy⟩;have hh:=hflat F.lv σ.H.L F.E ρ0 vargs d1 d4 d5 hinj (zmu hR d2 ck);rw[<-hHeap]at hh;refine⟨_,hh,λrv H' ⟨L',ρ',e1,e2,vs',e3,e4⟩ =>?_,λrv H' ⟨L',ρ',e1,e2,vs',e3,e4⟩ =>?_⟩
   obtain⟨e3,e5⟩:=yow (D:=D) e3;subst e1;subst e3;rw[e5]at hy;obtain⟨g1,g2⟩:=TRr.after hR hD hM d2 d3 hmk hp c3 e2
   grind[VR.maps]
   obtain⟨e3,e5⟩:=yjq (D:=D) e3;subst e1;subst e3;rw[e5]at hy;obtain⟨g1,g2⟩:=TRr.after hR hD hM d2 d3 hmk hp c3 e2
   grind[VR.maps]
  cases h
theorem zu8{R}(hR:TRr D F ρ ts σ){f vs vargs chk k kp}{r:R}(hv:VRL D ρ F.lv vs vargs):∀{tbl},(∀e∈tbl,e.Ok P∧e.pure=false)->y6t D f vs ts chk k kp tbl=some r ->
  ∃(M:z8s D.T) (kc:List (Nat×Nat)) (Post:Out->Heap->Prop),chk kc M=true∧(∀k s,(k,Src.slot s)∈M->∃o',fnd ts.o s=some o'∧o'.live)∧znq P f vargs σ.H Post ∧
   (∀out H',Post out H'->H'.lv=F.lv∧∀i,i<σ.H.L.length->(∀k s sl,(k,Src.slot s)∈M->ρ[s]? = some sl->¬sl.has i)->H'.L[i]? = σ.H.L[i]?) ∧
   (∀rv H',Post (.ret rv) H'->∀q∈kc,∀s sl i,fnd M q.1=some (.slot s)->ρ[s]? = some sl->sl.k=some i->cellAt H'.L[i]? q.2=cellAt σ.H.L[i]? q.2) ∧
   (∀rv H',Post (.ret rv) H'->∃z ts' ρ',VR D ρ' F.lv z rv∧TRr D F ρ' ts' {σ with H:=H'}∧k z ts'=some r∧∀(s:Nat) (sl),ρ[s]? = some sl->ρ'[s]? = some sl) ∧
   (∀v H',Post (.pan v) H'->∃z ts' ρ',VR D ρ' F.lv z v∧TRr D F ρ' ts' {σ with H:=H'}∧kp z ts'=some r)∧∀k s,(k,Src.slot s)∈M->fnd M k=some (.slot s)
 |[],_,h=>by simp[y6t,z02v]at h
 |e::tbl,htbl,h=>by
  simp only[y6t]at h;split at h;exact zu8 hR hv (λe he=>htbl e (Qai _ he)) h;rename_i hf;have hf:=Qaj hf;subst hf;split at h;rename_i M x hfit;split at h;rename_i hc;obtain⟨c0,ck,c1,c2,c3,c4⟩:=hc;obtain⟨hM,ρ0,d1,d2,d3,d4,d5⟩:=Ent.zm0 hD hR hv hfit
  have hp:∀k,k<e.p->∃s,fnd M k=some (.slot s):=λk hk=>by
   have:=Qat.1 c4 k (List.mem_range.2 hk);split at this
   grind
   cases this
  have hmk:∀k s,(k,Src.slot s)∈M->fnd M k=some (.slot s):=λk s hm=>hM.one k _ hm
  have hinj:=y5f hR hM d3;obtain⟨hok,hpure⟩:=htbl e Qak;have hok:=hok _ _ _ _ _ h;rw[hpure]at hok;have hHeap:=zqy σ.H hR.lv hR.E
  have hlive:∀k s,(k,Src.slot s)∈M->∃o',fnd ts.o s=some o'∧o'.live:=λk s hm=>by
   obtain⟨sl,e1,e2⟩:=d2 k _ (hmk k s hm)
   grind
  have frame:∀{p:Nat}{L':List (Option kzg)}{ρ':List Slot}{os:List OSh}{y:HL D.T (z03 os)},Left D F.lv σ.H.L ρ0 p L' ρ' os y->∀i,i<σ.H.L.length->(∀k s sl,(k,Src.slot s)∈M->ρ[s]? = some sl->¬sl.has i)->L'[i]? = σ.H.L[i]? := λ{p L' ρ' os y} hl i hi hno=>by
   refine(hl.out i hi λk sl0 e1 e2 =>?_).2;obtain⟨src,f1,f2,f3⟩:=d3 k sl0 e1
   cases src with
   |nil=>simp[Src.is]at f2;subst f2;rcases e2 with h|h <;> cases h
   |slot s=>exact hno k s sl0 (z2o f1) f2 e2
  rcases hok with ⟨y,hy,hflat⟩|⟨y,hy,hflat⟩
  have hh:=hflat F.lv σ.H.L F.E ρ0 vargs d1 d4 d5 hinj (zmu hR d2 ck);rw[<-hHeap]at hh;refine⟨M,_,_,c0,hlive,hh,λout H' ⟨L',ρ',e1,e2,_⟩=>⟨by rw[e1],λi hi hno=>by rw[e1];grind⟩,λrv H' ⟨L',ρ',e1,e2,⟨en,ek⟩,_⟩ q hq s sl i hs h1 h2 =>?_,λrv H' ⟨L',ρ',e1,e2,⟨en,ek⟩,vs',e3,e4⟩ =>?_,λv H' ⟨L',ρ',e1,e2,en,vs',e3,e4⟩=>(by cases e3),hmk⟩
  have hq:q∈e.kc:=by
   grind[kcC]
  obtain⟨sl0,w1,w2⟩:=d2 q.1 _ hs;have w2:ρ[s]? = some sl0:=w2;rw[h1]at w2;cases w2;rw[e1];exact ek q hq sl i w1 h2;injection e3 with e3;subst e1;subst e3;obtain⟨g1,g2⟩:=TRr.after hR hD hM d2 d3 hmk hp c2 e2
  exact⟨_,_,_,VR.yff hD (VRL.maps g2 hD e.outs e4),(TRr.zb6 (ρ0:=ρ0) hR (λk s hk=>d2 k _ hk) (λs sl h=>lookup_append h) (λx v h=>h.more _) e.kc ek g1).zem (λk s hk=>(d2 k _ hk).imp λsl h=>⟨h.1,lookup_append h.2⟩) g2 _ en,hy,λs sl h=>lookup_append h⟩;have hh:=hflat F.lv σ.H.L F.E ρ0 vargs d1 d4 d5 hinj (zmu hR d2 ck);rw[<-hHeap]at hh
  refine⟨M,_,_,c0,hlive,hh,λout H' ⟨L',ρ',e1,e2,_⟩=>⟨by rw[e1],λi hi hno=>by grind⟩,λrv H' ⟨L',ρ',e1,e2,vs',e3,e4⟩ q hq =>?_,λrv H' ⟨L',ρ',e1,e2,vs',e3,e4⟩ =>?_,λrv H' ⟨L',ρ',e1,e2,vs',e3,e4⟩ =>?_,hmk⟩
  grind[ysa,kcC]
  obtain⟨e3,e5⟩:=yow (D:=D) e3;subst e1;subst e3;rw[e5]at hy;obtain⟨g1,g2⟩:=TRr.after hR hD hM d2 d3 hmk hp c3 e2
  grind[VR.maps]
  obtain⟨e3,e5⟩:=yjq (D:=D) e3;subst e1;subst e3;rw[e5]at hy;obtain⟨g1,g2⟩:=TRr.after hR hD hM d2 d3 hmk hp c3 e2
  grind[VR.maps]
  cases h;exact zu8 hR hv (λe he=>htbl e (Qai _ he)) h
end
section
variable {P : Program} {D : Dat} {F : Fr} {ρ : List Slot} {ts : TS D.T} {σ : St} {lv : Nat} {L : List (Option kzg)}
theorem ynr{R:Type}(hD:D.Ok P)(hR:TRr D F ρ ts σ){t s off:Nat}{i:Int}{k:TV D.T->TS D.T->Option R}{kf:Nat->Option R}{r:R}{va:V}(h:yuf D P ts t s i off k kf=some r)(ha:VR D ρ F.lv (.dp s i off) va) :
  (∃z v ts' ρ',zco P σ.H t va=some v∧VR D ρ' F.lv z v∧TRr D F ρ' ts' σ∧k z ts'=some r)∨∃s,kf s=some r:=by
 unfold yuf at h;split at h;rename_i ty q xs hh ho;split at h;obtain⟨z,v,h1,h2,h3⟩:=zf9 hR (ρ':=ρ) (λf v _ _ _ e=>by cases e) h ha;exact .inl ⟨z,v,ts,ρ,h1,h2,hR,h3⟩;rename_i f fs hf;split at h;obtain⟨ts',ρ',ty',q',j,ver,cp,m,u,h1,h2,h3,⟨sl0,h4,h5⟩,h6,h7⟩:=yjl hD hR h
 obtain⟨z,v,e1,e2,e3⟩:=zf9 hR (ρ':=ρ') (λf' v sl w u' e hsl hw hu=>by
  injection e with e;injection e with e4 e5;subst e4;subst e5
  rw[h4]at hsl;injection hsl with hsl;subst hsl
  obtain⟨sl',b1,b2⟩:=hR.ob s _ ho
  rw[h4]at b1;injection b1 with b1;subst b1
  simp only[OR]at b2;obtain⟨c1,c2⟩:=b2
  cases hk:sl0.k with
  |none=>
   rw[hk]at c2;have:=c2.2.1;rw[h5]at this
   rcases this with q|q <;> cases q
  |some j'=>
   rw[hk]at c2;obtain⟨ver',cp',fps,d1,d2,_⟩:=c2
   rw[h5]at d1;injection d1 with _ g1 g2 _ g3 _
   subst g1;subst g2
   rw[h3]at d2;injection d2 with d2;injection d2 with d2;injection d2 with _ _ _ d2 _
   subst d2;rw[hw]at h6;replace h6:w.cells[f]? = some u:=h6
   rw[hu]at h6;injection h6 with h6;subst h6
   exact h7) h1 ha
 exact .inl ⟨z,v,ts',ρ',e1,e2,h2,e3⟩;rename_i p;obtain⟨n,f',c⟩:=p;split at h;rename_i hff;have hff:f'=f:=Qaj hff;subst hff;obtain⟨_,hs,h⟩:=z1p h
 have hni:n=i:=by
  unfold zlb at hs;split at hs;rename_i e;exact e;cases hs
 subst hni
 obtain⟨z,v,e1,e2,e3⟩:=zf9 hR (ρ':=ρ) (λf2 v sl w u' e hsl hw hu=>by
  injection e with e;injection e with e4 e5;subst e4;subst e5;obtain⟨sl',b1,b2⟩:=hR.ob s _ ho
  rw[hsl]at b1;injection b1 with b1;subst b1
  simp only[OR]at b2;obtain⟨c1,c2⟩:=b2
  cases hk:sl.k with
  |none=>rw[hk]at c2;cases c2.2.2.2
  |some j'=>
   rw[hk]at c2;obtain⟨ver',cp',fps,d1,d2,d3,d4,d5,d6,d7⟩:=c2;have hlt:=(d7 _ _ _ rfl).2;obtain⟨vs,cs,g1,g2,g3,g4,g5⟩:=d6 n.toNat _ w _ (Qab hlt) hw (Qab (show n.toNat<fps.length by omega));subst g1;replace hu:vs[f']? = some u':=hu;have hfl:=(Qaa.1 hu).1;obtain⟨p,hp,_⟩:=HL.zkl (D.fl q) (D.get q xs[n.toNat]) f' (by omega)
   have:=g5 f' p u' _ hp hu (Qab (show f'<cs.length by omega));rw[show z2h (some (n,f',c)) n.toNat f'=some c by simp[z2h]]at this;obtain⟨_,_,a3,sl2,a4,a5⟩:=this;simp only[VR]
   exact⟨sl2,a4,a5,a3⟩) h ha
 exact .inl ⟨z,v,ts,ρ,e1,e2,hR,e3⟩;exact .inr ⟨s,h⟩;cases h
theorem VR.plk(hD:D.Ok P){x v}(h:VR D ρ lv x v)(hx:x.pl=true)(Dm):V.kin Dm v∧∀ρ' lv',VR D ρ' lv' x v:=by
 cases x <;> simp[TV.pl,Bool.false_eq_true]at hx
 case sl t xs fl=>
  simp only[VR]at h ⊢;exact⟨h.1.kin hD Dm,λ_ _=>h⟩
 all_goals (subst h;exact⟨by simp[V.kin],λ_ _=>rfl⟩)
theorem VRL.plk(hD:D.Ok P):∀{xs vs},VRL D ρ lv xs vs->xs.all TV.pl=true->∀(Dm),V.zcd Dm vs∧∀ρ' lv',VRL D ρ' lv' xs vs
 |[],vs,h,_,Dm=>by subst h;exact⟨by simp[V.zcd],λ_ _=>rfl⟩
 |x::xs,vs,h,ha,Dm=>by
  obtain⟨v,r,rfl,h1,h2⟩:=h;simp only[List.all_cons,Qag]at ha;obtain⟨a1,a2⟩:=h1.plk hD ha.1 Dm;obtain⟨b1,b2⟩:=VRL.plk hD h2 ha.2 Dm;exact⟨by exact⟨a1,b1⟩,λρ' lv'=>⟨v,r,rfl,a2 _ _,b2 _ _⟩⟩
theorem z04c(hD:D.Ok P)(hR:TRr D F ρ ts σ){s v}(h:VR D ρ F.lv (.own s) v):∃u,VS σ.H (λ_ _=>False) v u∧∀ρ' lv',VR D ρ' lv' (TV.see D ts (.own s)) u:=by
 have hH:=zqy σ.H hR.lv hR.E;obtain⟨sl,h1,rfl,h2⟩:=h;unfold TV.see;split;rename_i ty t xs w ho;obtain⟨sl',b1,b2⟩:=hR.ob s _ ho;rw[h1]at b1;cases b1;simp only[OR]at b2;obtain⟨q1,q2,q3⟩:=b2;have hdr:DR D (.sl t) xs (.sl (D.len t) sl.ws false):=.sl t xs sl.ws false q1 q2
 cases hk:sl.k with
 |none=>
  rw[hk]at q3
  rcases q3 with ⟨e1,e2⟩|⟨⟨e1,_⟩,_⟩
  rw[e1];have:=Qao (by rw[<-q1,e2];rfl);subst this;exact⟨.nils,.keep _ (by simp[V.kin]),λ_ _=>by simp only[VR];exact⟨.nil t,by omega,by omega⟩⟩;rw[e1];have hdr2:DR D (.sl t) xs (.sl (D.len t) sl.ws true):=.sl t xs sl.ws true q1 q2
  exact⟨_,.keep _ (hdr2.kin hD _),λ_ _=>by grind[VR]⟩
 |some i=>
  rw[hk]at q3;obtain⟨ver,cp,e1,e2⟩:=q3;rw[e1];refine⟨.sl (D.len t) sl.ws false,?_,λ_ _=>by grind[VR]⟩;rw[hH];refine .hs _ i ver ty (D.len t) 0 _ false sl.ws sl.ws cp rfl ?_ rfl (λn w u hw hu =>?_) λn w u c a b hw hu ha hb =>?_
  show(if F.lv=F.lv then (σ.H.L[i]?).join else _)=_
  grind
  rw[Nat.zero_add,hu]at hw;cases hw;rfl
  rw[Nat.zero_add,hu]at hw;injection hw with hw;subst hw
  rw[ha]at hb;cases hb;have hn:=(Qaa.1 hu).1;exact .keep _ (zb7 (zsx ((q2 n _ u (Qab (show n<xs.length by omega)) hu).kin hD _)) c a ha)
 rename_i ty q xs ho;obtain⟨sl',b1,b2⟩:=hR.ob s _ ho;rw[h1]at b1;cases b1;obtain⟨u,e1,e2⟩:=(ymz b2).see (E:=F.E) hD;rw[<-hH]at e2;exact⟨u,e2,λ_ _=>by grind[VR]⟩;exact⟨.any,.any _,λ_ _=>by simp[VR]⟩
mutual
theorem yx2(hD:D.Ok P)(hR:TRr D F ρ ts σ):∀{x:TV D.T}{v:V},VR D ρ F.lv x v->∃u,VS σ.H (λ_ _=>False) v u∧∀ρ' lv',VR D ρ' lv' (TV.see D ts x) u
 |.own s,v,h=>z04c hD hR h
 |.agg cs,v,h=>by
  simp only[VR]at h;obtain⟨vs,rfl,h⟩:=h;obtain⟨us,h1,h2⟩:=y1n hD hR h
  exact⟨.agg us,.agg _ _ h1.length h1.get,λρ' lv'=>by simp only[TV.see,VR];exact⟨us,rfl,h2 _ _⟩⟩
 |.fn f a b,v,h=>by
  unfold TV.see;split;rename_i hc;simp only[Qag]at hc;simp only[VR]at h;obtain⟨as,bs,rfl,h1,h2⟩:=h;obtain⟨a1,a2⟩:=h1.plk hD hc.1 (λ_ _=>False);obtain⟨b1,b2⟩:=h2.plk hD hc.2 (λ_ _=>False);exact⟨_,.keep _ (by simp only[V.kin];exact⟨a1,b1⟩),λ_ _=>by simp only[VR];exact⟨as,bs,rfl,a2 _ _,b2 _ _⟩⟩
  exact⟨.any,.any _,λ_ _=>by simp only[VR]⟩
 |.sl t xs fl,v,h=>by
  simp only[VR]at h
  exact⟨v,.keep _ (h.1.kin hD _),λ_ _=>by simp only[TV.see,VR];exact⟨h.1,by omega,by omega⟩⟩
 |.bool b,v,h=>⟨v,.keep _ (h.plk hD rfl _).1,λ_ _=>by simpa only[TV.see]using(h.plk hD rfl (λ_ _=>False)).2 _ _⟩
 |.int k n,v,h=>⟨v,.keep _ (h.plk hD rfl _).1,λ_ _=>by simpa only[TV.see]using(h.plk hD rfl (λ_ _=>False)).2 _ _⟩
 |.str b,v,h=>⟨v,.keep _ (h.plk hD rfl _).1,λ_ _=>by simpa only[TV.see]using(h.plk hD rfl (λ_ _=>False)).2 _ _⟩
 |.nilp,v,h=>⟨v,.keep _ (h.plk hD rfl _).1,λ_ _=>by simpa only[TV.see]using(h.plk hD rfl (λ_ _=>False)).2 _ _⟩
 |.nils,v,h=>⟨v,.keep _ (h.plk hD rfl _).1,λ_ _=>by simpa only[TV.see]using(h.plk hD rfl (λ_ _=>False)).2 _ _⟩
 |.mapn,v,h=>⟨v,.keep _ (h.plk hD rfl _).1,λ_ _=>by simpa only[TV.see]using(h.plk hD rfl (λ_ _=>False)).2 _ _⟩
 |.nilf,v,h=>⟨v,.keep _ (h.plk hD rfl _).1,λ_ _=>by simpa only[TV.see]using(h.plk hD rfl (λ_ _=>False)).2 _ _⟩
 |.nili,v,h=>⟨v,.keep _ (h.plk hD rfl _).1,λ_ _=>by simpa only[TV.see]using(h.plk hD rfl (λ_ _=>False)).2 _ _⟩
 |.any,v,h=>⟨.any,.any _,λ_ _=>by simp only[TV.see,VR]⟩
 |.osl _ _,v,h=>⟨.any,.any _,λ_ _=>by simp only[TV.see,VR]⟩
 |.ptr _ _,v,h=>⟨.any,.any _,λ_ _=>by simp only[TV.see,VR]⟩
 |.bp _ _,v,h=>⟨.any,.any _,λ_ _=>by simp only[TV.see,VR]⟩
 |.ref _ _,v,h=>⟨.any,.any _,λ_ _=>by simp only[TV.see,VR]⟩
 |.ap _ _ _ _ _,v,h=>⟨.any,.any _,λ_ _=>by simp only[TV.see,VR]⟩
 |.map _,v,h=>⟨.any,.any _,λ_ _=>by simp only[TV.see,VR]⟩
 |.mc _ _,v,h=>⟨.any,.any _,λ_ _=>by simp only[TV.see,VR]⟩
 |.iface _ _,v,h=>⟨.any,.any _,λ_ _=>by simp only[TV.see,VR]⟩
 |.tup _,v,h=>⟨.any,.any _,λ_ _=>by simp only[TV.see,VR]⟩
 |.dp _ _ _,v,h=>⟨.any,.any _,λ_ _=>by simp only[TV.see,VR]⟩
 |.bsl _ _,v,h=>⟨.any,.any _,λ_ _=>by simp only[TV.see,VR]⟩
theorem y1n(hD:D.Ok P)(hR:TRr D F ρ ts σ):∀{xs:List (TV D.T)}{vs:List V},VRL D ρ F.lv xs vs->∃us,VSL σ.H (λ_ _=>False) vs us∧∀ρ' lv',VRL D ρ' lv' (TV.ywe D ts xs) us
 |[],vs,h=>by
  simp only[VRL]at h;subst h
  exact⟨[],.nil,λ_ _=>by simp only[TV.ywe,VRL]⟩
 |x::xs,vs,h=>by
  simp only[VRL]at h;obtain⟨v,r,rfl,h1,h2⟩:=h;obtain⟨u,a1,a2⟩:=yx2 hD hR h1;obtain⟨us,b1,b2⟩:=y1n hD hR h2;exact⟨u::us,.cons a1 b1,λρ' lv'=>by simp only[TV.ywe,VRL];exact⟨u,us,rfl,a2 _ _,b2 _ _⟩⟩
end
theorem z04k{t}(h:t.flat=true){x v}(hv:VR D ρ lv (D.tv t x) v):VFl v:=by
 cases t <;> simp[DTy.flat,Bool.false_eq_true]at h
 simp[Dat.tv,VR]at hv;subst hv;exact .bool _;simp[Dat.tv,VR]at hv;subst hv;exact .int _ _;subst hv;exact .str _
theorem yqr:∀(l) {y vs},l.all Sh.z00s=true->VRL D ρ lv (z1u D (λk=>k) l y) vs->∀v∈vs,VFl v
 |[],y,vs,_,h,v,hm=>by
  subst h;cases hm
 |sh::l,y,vs,ha,h,v,hm=>by
  simp only[List.all_cons,Qag]at ha;obtain⟨u,r,rfl,h1,h2⟩:=h
  rcases Qbg.1 hm with rfl|hm
  ·cases sh <;> simp[Sh.z00s,Bool.false_eq_true]at ha <;> first|exact ha.1.elim|skip
   case d t=>
    replace h1:=h1;exact z04k ha.1 h1
  exact yqr l ha.2 h2 v hm
theorem z03i{vs}(h:∀v∈vs,VFl v):VFl (z9y vs):=by
 unfold z9y;split
 grind
 exact .tup _ λj v hj=>h v (Qax hj)
theorem ztv{R}(hD:D.Ok P)(hR:TRr D F ρ ts σ){f vs vargs k kf}{r:R}(hv:VRL D ρ F.lv vs vargs):∀{tbl},(∀e∈tbl,e.Ok P)->yxz D f vs ts k kf tbl=some r ->
  (∃rv z,y0g P f vargs σ.H rv σ.H∧VR D ρ F.lv z rv∧k z ts=some r)∨kf=some r
 |[],_,h=>.inr h
 |e::tbl,htbl,h=>by
  simp[yxz]at h;split at h;rename_i hc;simp only[Qag]at hc;obtain⟨⟨c1,c2⟩,c3⟩:=hc;have c1:=Qaj c1;subst c1;split at h;rename_i mx hfit;obtain⟨M,x⟩:=mx;have hok:=htbl e Qak _ _ _ _ _ h;rw[c2]at hok;obtain⟨y,hy,e1,e2,en,e3⟩:=hok;obtain⟨us,a1,a2⟩:=y1n hD hR hv;obtain⟨_,ρ0,d1,d2,d3,d4,d5⟩:=Ent.zm0 hD hR (a2 ρ F.lv) hfit
  have hr0:=Qao (by rw[d1,e1];rfl);rw[hr0]at d4;obtain⟨ws,f1,f2⟩:=e3 F.lv us d4;refine .inl ⟨z9y ws,_,yn0 f2 a1 (z03i (yqr e.outs c3 (f1 [] F.lv))),VR.yff hD (f1 _ _),hy⟩;exact ztv hD hR hv (λe he=>htbl e (Qai _ he)) h;exact ztv hD hR hv (λe he=>htbl e (Qai _ he)) h
end
end Go.Ab
