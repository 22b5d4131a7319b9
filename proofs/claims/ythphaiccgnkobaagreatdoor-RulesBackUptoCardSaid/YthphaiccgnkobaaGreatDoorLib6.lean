/-
  DEEP OWN MEMORY: folding and opening say nothing else of memory.
-/
import Derived.Test.YthphaiccgnkobaaGreatDoorLib5
import Derived.Test.YthphaiccgnkobaaGreatDoorLib4
set_option linter.defProp false
set_option linter.unusedSectionVars false
set_option linter.unusedSimpArgs false
set_option linter.unusedVariables false
namespace Go.Ab
open Go
def z00b{T a b x}{y:b.S T}(h:y99 a b x=some y):∃e:a=b,y=e▸x:=by
 grind[y99]
def z035{T}:∀{l x z f t} {y:t.S T},HL.upd l x f t y=some z->∀j,HL.nth l z j=if j=f then some ⟨t,y⟩else HL.nth l x j
 |[],x,z,f,t,y,h=>by cases h
 |t0::l,x,z,0,t,y,h=>by
  unfold HL.upd at h
  cases a:y99 t t0 y with
  |none=>rw[a]at h;cases h
  |some g=>
  rw[a]at h;cases h;have⟨d,b⟩:=z00b a;subst d;subst b;intro j
  cases j with
  |zero=>rfl
  |succ j=>rfl
 |t0::l,x,z,f+1,t,y,h=>by
  unfold HL.upd at h
  cases a:HL.upd l x.2 f t y with
  |none=>rw[a]at h;cases h
  |some e=>
  rw[a]at h;cases h;intro j
  cases j with
  |zero=>rfl
  |succ j=>
   have:=z035 a j
   simp_all[HL.nth]
def z08f{T}:∀(l) (x:HL T l) (j),HL.at l x j=HL.nth l x j
 |[],_,_=>rfl
 |_::_,_,0=>rfl
 |_::l,x,j+1=>z08f l x.2 j
section
variable {P:Program}{D:Dat}{F:Fr}{ρ:List Slot}{ts:TS D.T}{σ:St}{lv:Nat}{L:List (Option yzm)}
def z08j{T}:∀{l x z f t} {y:t.S T},HL.upd l x f t y=some z->f<l.length
 |[],x,z,f,t,y,h=>by cases h
 |t0::l,x,z,0,t,y,h=>by simp
 |t0::l,x,z,f+1,t,y,h=>by
  unfold HL.upd at h
  cases a:HL.upd l x.2 f t y with
  |none=>rw[a]at h;cases h
  |some b=>have:=z08j a;simp;omega
def y9e{α:Type}{l:List α}{n a}(h:l[n]? = some a):l.set n a=l:=by
 apply List.ext_getElem?;intro i;rw[Qbc];split;rename_i e;subst e
 grind
 rfl
def yol(hD:D.Ok P)(B:TRr D F ρ ts σ){s c ty q f:Nat}{n:Int}{xs:List (D.T q)}(hs:fnd ts.o s=some (.deep ty q xs (some (n,f,c)))){o:TO D.T}(hc:fnd ts.o c=some o)(J:o.live)(h9:c≠s){Z:Nat}{t':DTy}{ys:List (t'.S D.T)}(h8:D.ow q f=some Z)
  {l:Slot} (g:ρ[c]? = some l) {d:List Nat}(hg:DO D F.lv σ.H.L (.own Z) (.sl t') ys l.v d) (r:∀i∈d,l.has i) (hd:d.Nodup) {y:D.T q}{z:HL D.T (D.fl q)}(hy:ix xs n=some y) (hz:HL.upd (D.fl q) (D.get q y) f (.sl t') ys=some z) :
  ∃ρ',TRr D F ρ' ((ts.zxe [s,c] [.deep ty q (xs.set n.toNat (D.make q z)) none]).zf2 D (TV.ren D s ts.nx)) σ:=by
 have⟨sl,X,k2⟩:=B.ob s _ hs;simp only[OR]at k2;have⟨q1,q3⟩:=k2
 cases hk:sl.k with
 |none=>rw[hk]at q3;cases q3.2.2.2
 |some j=>
 rw[hk]at q3;have⟨h6,cp,fps,e1,e2,e3,e4,e5,e6,e7⟩:=q3;have⟨p1,p2⟩:=zm4 hy;have he:n.toNat<xs.length:=(Qaa.1 p2).1;have hw:sl.ws[n.toNat]? = some (sl.ws[n.toNat]'(by omega)):=Qab (by omega);have K:fps[n.toNat]? = some (fps[n.toNat]'(by omega)):=Qab (by omega);have⟨vs,cs,b1,b2,b3,b4,b5⟩:=e6 n.toNat y _ _ p2 hw K;have hf:=z08j hz
 have⟨pf,h7,_⟩:=HL.zn7 (D.fl q) (D.get q y) f hf;have hu:vs[f]? = some (vs[f]'(by omega)):=Qab (by omega);have hb:cs[f]? = some (cs[f]'(by omega)):=Qab (by omega);have hole:=b5 f pf _ _ h7 hu hb;rw[show z4j (some (n,f,c)) n.toNat f=some c by simp[z4j]]at hole;have⟨g1,g2,g3,hj,g4,g5⟩:=hole
 rw[g]at g4;cases g4
 rw[g1]at hb;rw[g5]at hu;have h3:(cs.set f d)[f]? = some d:=Qaq (by omega);have Q:(cs.set f d).set f []=cs:=by rw[List.set_set];exact y9e hb
 have O:(cs.set f d).flatten.Perm (d++cs.flatten):=by
  have:=zgs (cs.set f d) f d d [] h3 (by simp);rw[Q]at this;exact this
 rw[b4]at K;have W:(fps.set n.toNat (cs.set f d).flatten)[n.toNat]? = some (cs.set f d).flatten:=Qaq (by omega)
 have u:(fps.set n.toNat (cs.set f d).flatten).flatten.Perm (d++sl.fp):=by
  have:=zgs _ n.toNat _ d cs.flatten W O;rw[List.set_set,y9e K,<-e4]at this;exact this
 have C:∀i,i∈(fps.set n.toNat (cs.set f d).flatten).flatten->i∈d∨i∈sl.fp:=λi hi=>List.mem_append.1 (u.mem_iff.1 hi)
 have h4:∀i,l.has i->sl.has i->False:=λi h1 h2=>h9 (B.inj c s o _ l sl i hc hs J trivial g X h1 h2)
 let sl':Slot:=⟨sl.v,sl.k,sl.ws,(fps.set n.toNat (cs.set f d).flatten).flatten⟩
 have hT:=B.zxe [s,c] (λs0 h0=>by
  rcases Qbf.1 h0 with rfl|h0
  exact⟨_,sl,hs,trivial,X⟩
  rcases Qbf.1 h0 with rfl|h0
  exact⟨o,l,hc,J,g⟩
  cases h0) [((.deep ty q (xs.set n.toNat (D.make q z)) none:TO D.T),sl')] σ.H B.lv B.E (Qbp _) (λ_ _ _=>rfl)
  (λp hp i hi=>by
   rcases Qbf.1 hp with rfl|hp
   rcases hi with hi|hi
   exact .inr ⟨s,Qak,sl,X,.inl hi⟩
   rcases C i hi with hi|hi
   exact .inr ⟨c,Qai _ Qak,l,g,r i hi⟩;exact .inr ⟨s,Qak,sl,X,.inr hi⟩
   cases hp)
  (λa b p U i ha N _ _=>by
   have h1:=(Qaa.1 ha).1;have h2:=(Qaa.1 N).1
   simp at h1 h2;omega)
  (λp hp=>by
   rcases Qbf.1 hp with rfl|hp
   simp only[OR];refine⟨by simpa using q1,?_⟩;show(match sl.k with|none=>_|some j=>_);rw[hk];refine⟨h6,cp,fps.set n.toNat (cs.set f d).flatten,e1,e2,by simpa using e3,rfl,?_,λm x w' c' m1 m2 m3 =>?_,λ_ _ _ h=>by cases h⟩;refine u.nodup_iff.2 (List.nodup_append.2 ⟨hd,e5,λa ha b N e =>?_⟩);subst e;exact h4 a (r a ha) (.inr N);by_cases hm:n.toNat=m;subst hm
   rw[Qaq he]at m1;cases m1
   rw[W]at m3;cases m3
   have w:sl.ws[n.toNat]? = some w':=m2
   rw[hw]at w;injection w with w
   refine⟨vs,cs.set f d,w.symm.trans b1,b2,by simpa using b3,rfl,λI U u' b' G Y R =>?_⟩;show DO D F.lv σ.H.L (omOf (D.ow q I)) U.1 U.2 u' b';rw[hD.getMake,z035 hz]at G;by_cases A:I=f;subst A
   rw[Qbq rfl]at G;cases G
   rw[hu]at Y;cases Y
   rw[h3]at R;cases R
   rw[h8];exact hg;rw[Qbr A]at G;rw[Qam (λe=>A e.symm)]at R;have:=b5 I U u' b' G Y R;rw[show z4j (some (n,f,c)) n.toNat I=none by simp[z4j];exact λe=>A e.symm]at this;exact this;rw[Qam hm]at m1;rw[Qam hm]at m3;have⟨h5,hh,d1,d2,d3,d4,d5⟩:=e6 m x w' c' m1 m2 m3;refine⟨h5,hh,d1,d2,d3,d4,λI U u' b' G Y R =>?_⟩
   have:=d5 I U u' b' G Y R;rw[show z4j (some (n,f,c)) m I=none by simp[z4j];exact λe=>(hm e).elim]at this;exact this
   cases hp)
  (λp hp i hi=>by
   rcases Qbf.1 hp with rfl|hp
   rcases C i hi with hi|hi
   refine⟨λe=>h4 i (r i hi) (.inl e),?_⟩;exact B.at hc J g (r i hi);exact B.fpl s _ sl i hs trivial X hi
   cases hp)
 refine⟨_,hT.zf2 (TV.ren D s ts.nx) λx v h=>VR.ren (sl:=sl) (sl':=sl') (lookup_append X) ?_ rfl h⟩;rw[<-B.nx];simp
def TRr.z05c(i:TRr D F ρ ts σ){s o sl}(b:fnd ts.o s=some o)(e:o.live)(h:ρ[s]? = some sl)(a:sl.fp.Nodup):sl.all.Nodup:=by
 unfold Slot.all
 cases g:sl.k with
 |none=>simpa using a
 |some j=>
  refine List.nodup_cons.2 ⟨λd =>?_,a⟩;exact(i.fpl s o sl j b e h d).1 g
def ykn{R}(hD:D.Ok P)(j:TRr D F ρ ts σ){s k}{r:R}(h:ts.fold D s k=some r):∃a ρ',TRr D F ρ' a σ∧k a=some r∧a.t=ts.t.map (λp=>(p.1,TV.ren D s ts.nx p.2))∧a.nt=ts.nt:=by
 unfold TS.fold at h;split at h;rename_i ty q xs n f c E;split at h;rename_i J l;split at h;rename_i B N G g;split at h;rename_i e;obtain⟨rfl,d⟩:=e;have⟨y,x,h⟩:=z3f h;split at h;rename_i z u;have⟨b,o,A⟩:=j.ob c _ g
 have I:b.fp.Nodup:=by
  grind[OR]
 have⟨ρ',w⟩:=yol hD j E g trivial d l o (ys3 A) (λi hi=>Slot.y2s.1 hi) (j.z05c g trivial o I) x u;exact⟨_,ρ',w,h,rfl,rfl⟩;cases h;cases h;rename_i B K G g;split at h;rename_i e;obtain⟨rfl,d,C⟩:=e;have⟨y,x,h⟩:=z3f h;split at h;rename_i z u;have⟨b,o,A⟩:=j.ob c _ g
 have⟨ρ',w⟩:=yol hD j E g trivial d l o (z0eo A C) (λi hi=>.inl (by grind)) (by cases b.k <;> simp) x u;exact⟨_,ρ',w,h,rfl,rfl⟩;cases h;cases h;cases h;cases h;cases h
end
section
variable {P:Program}{D:Dat}{F:Fr}{ρ:List Slot}{ts:TS D.T}{σ:St}{lv:Nat}{L:List (Option yzm)}
def yw3{t x w c}(h:DO D lv L .el t x w c)(d:D.zrs t=true):DR D t x w:=by
 cases h with
 |elf _ h=>exact h
 |el e l h=>
  rename_i i y vs cs;refine .st _ _ _ e λf p u a k =>?_
  have g:=(HL.zic _ _ _ _ a).1;obtain⟨b,j⟩:∃b,cs[f]? = some b:=⟨_,Qab (show f<cs.length by omega)⟩;have:=h f p u b a k j;rw[y6m d i f g rfl]at this
  cases this with
  |dat h=>exact h
def yyv{q}{x:D.T q}{w c}(h:DO D lv L .el (.st q) x w c)(d:D.owns q=true)(ρ)(n):EO D ρ lv L q none n x w c:=by
 cases h with
 |elf a h=>
  simp[Dat.owns,List.mem_range]at d
  grind
 |el e g h=>exact⟨_,_,rfl,e,g,rfl,λf p u b a j i=>h f p u b a j i⟩
def z07a{ty}{t:DTy}{xs:List (t.S D.T)}{v d}(h:DO D lv L (.own ty) (.sl t) xs v d)(p:D.zrs t=true)(r:t ≠ .int .u8):∃sl:Slot,sl.v=v∧v.leaf=true∧sl.all=d∧∀ρ,OR D ρ lv L sl (.acc ty t xs true):=by
 cases h with
 |nil h b=>
  refine⟨⟨v,none,[],[]⟩,rfl,by rcases b with rfl|rfl <;> rfl,rfl,λρ =>?_⟩;unfold OR
  rcases b with rfl|rfl
  grind
  grind
 |own k g s i=>
  rename_i j a q ws fps;refine⟨⟨.hs lv j a 0 ws.length false,some j,ws,fps.flatten⟩,rfl,rfl,rfl,λρ =>?_⟩;refine⟨g,λn x w o l =>?_,a,q,rfl,k⟩;have e:n<fps.length:=by grind
  exact yw3 (i n x w _ o l (Qab e)) p
def z0d6{ty q}{xs:List (D.T q)}{v b}(h:DO D lv L (.own ty) (.sl (.st q)) xs v b)(s:D.owns q=true)(e:b.Nodup):∃sl:Slot,sl.v=v∧v.leaf=true∧sl.all=b∧∀ρ,OR D ρ lv L sl (.deep ty q xs none):=by
 cases h with
 |nil h d=>
  refine⟨⟨v,none,[],[]⟩,rfl,by rcases d with rfl|rfl <;> rfl,rfl,λρ =>?_⟩
  exact⟨rfl,rfl,d,rfl,rfl⟩
 |own l g i k=>
  rename_i j a u ws fps;refine⟨⟨.hs lv j a 0 ws.length false,some j,ws,fps.flatten⟩,rfl,rfl,rfl,λρ =>?_⟩;exact⟨g,a,u,fps,rfl,l,i,rfl,(List.nodup_cons.1 e).2,λn x w c r p o=>yyv (k n x w c r p o) s ρ n,λ_ _ _ h=>by cases h⟩
def yj0(hD:D.Ok P)(B:TRr D F ρ ts σ){s ty q f:Nat}{n:Int}{xs:List (D.T q)}(W:fnd ts.o s=some (.deep ty q xs none)){h3:Nat}{Y:DTy}{ys:List (Y.S D.T)}(h4:D.ow q f=some h3)
  {y:D.T q} (hy:ix xs n=some y) (hz:HL.nth (D.fl q) (D.get q y) f=some ⟨.sl Y,ys⟩) {to:TO D.T}(h8:∀v fp,DO D F.lv σ.H.L (.own h3) (.sl Y) ys v fp->fp.Nodup->∃d:Slot,d.v=v∧v.leaf=true∧d.all=fp∧∀ρ,OR D ρ F.lv σ.H.L d to) :
  ∃ρ',TRr D F ρ' ((ts.zxe [s] [.deep ty q xs (some (n,f,ts.nx+1)),to]).zf2 D (TV.ren D s ts.nx)) σ∧∃j r m w u,σ.H.L[j]? = some (some (.arr r ty (D.len (.st q)) m w))∧(∃sl,ρ[s]? = some sl∧sl.v = .hs F.lv j r 0 m.length false)∧(m[n.toNat]?.bind λx=>x.cells[f]?)=some u∧VR D ρ' F.lv (.own (ts.nx+1)) u:=by
 have⟨sl,K,k2⟩:=B.ob s _ W;simp only[OR]at k2;have⟨q1,q3⟩:=k2;have⟨p1,p2⟩:=zm4 hy;have N:n.toNat<xs.length:=(Qaa.1 p2).1
 cases hk:sl.k with
 |none=>rw[hk]at q3;rw[q3.1]at N;simp at N
 |some j=>
 rw[hk]at q3;have⟨r,cp,fps,e1,e2,e3,e4,e5,e6,e7⟩:=q3;have hw:sl.ws[n.toNat]? = some (sl.ws[n.toNat]'(by omega)):=Qab (by omega);have R:fps[n.toNat]? = some (fps[n.toNat]'(by omega)):=Qab (by omega);have⟨vs,cs,b1,b2,b3,b4,b5⟩:=e6 n.toNat y _ _ p2 hw R;have hf:=(HL.zic _ _ _ _ hz).1
 have hu:vs[f]? = some (vs[f]'(by omega)):=Qab (by omega);have hb:cs[f]? = some (cs[f]'(by omega)):=Qab (by omega);have h6:DO D F.lv σ.H.L (omOf (D.ow q f)) (.sl Y) ys _ _:=b5 f ⟨.sl Y,ys⟩ _ _ hz hu hb;rw[h4]at h6;rw[b4]at R
 have z:sl.fp.Perm ((cs[f]'(by omega))++(fps.set n.toNat (cs.set f []).flatten).flatten):=by rw[e4];exact zgs fps n.toNat _ _ _ R (zgs cs f _ _ [] hb (by simp))
 have⟨d,c1,c2,c3,c4⟩:=h8 _ _ h6 (List.nodup_append.1 (z.nodup_iff.1 e5)).1;have l:sl.fp.Perm (d.all++(fps.set n.toNat (cs.set f []).flatten).flatten):=by rw[c3];exact z
 have h9:=l.nodup_iff.1 e5;have⟨h5,hd,hc⟩:=List.nodup_append.1 h9;have O:∀i,d.has i->i∈sl.fp:=λi h=>l.mem_iff.2 (List.mem_append_left _ (Slot.y2s.2 h))
 have J:∀i,i∈(fps.set n.toNat (cs.set f []).flatten).flatten->i∈sl.fp:=λi h=>l.mem_iff.2 (List.mem_append_right _ h)
 let sl':Slot:=⟨sl.v,sl.k,sl.ws,(fps.set n.toNat (cs.set f []).flatten).flatten⟩
 have he:∀i,i∈sl.fp->sl.k≠some i:=λi h=>(B.fpl s _ sl i W trivial K h).1
 have U:(ρ++[sl',d])[ts.nx]? = some sl':=by rw[<-B.nx];simp
 have A:(ρ++[sl',d])[ts.nx+1]? = some d:=by rw[<-B.nx,Qav (by omega)];simp
 have hT:=B.zxe [s] (λs0 h0=>by
  rcases Qbf.1 h0 with rfl|h0
  exact⟨_,sl,W,trivial,K⟩
  cases h0) [((.deep ty q xs (some (n,f,ts.nx+1)):TO D.T),sl'),(to,d)] σ.H B.lv B.E (Qbp _) (λ_ _ _=>rfl)
  (λp hp i hi=>by
   refine .inr ⟨s,Qak,sl,K,?_⟩
   rcases Qbf.1 hp with rfl|hp
   rcases hi with hi|hi
   exact .inl hi;exact .inr (J i hi)
   rcases Qbf.1 hp with rfl|hp
   exact .inr (O i hi)
   cases hp)
  (λa b p p' i I g h1 h2=>by
   have apart:sl'.has i->d.has i->False:=λh1 h2=>by
    rcases h1 with h1|h1
    exact he i (O i h2) h1;exact hc i (Slot.y2s.2 h2) i h1 rfl
   have l1:=(Qaa.1 I).1;have l2:=(Qaa.1 g).1;simp at l1 l2
   match a,b,I,g,l1,l2 with
   |0,0,_,_,_,_=>rfl
   |1,1,_,_,_,_=>rfl
   |0,1,I,g,_,_=>simp at I g;subst I;subst g;exact(apart h1 h2).elim
   |1,0,I,g,_,_=>simp at I g;subst I;subst g;exact(apart h2 h1).elim
   |a+2,_,_,_,l1,_=>omega
   |0,b+2,_,_,_,l2=>omega
   |1,b+2,_,_,_,l2=>omega)
  (λp hp=>by
   rcases Qbf.1 hp with rfl|hp
   simp only[OR];refine⟨q1,?_⟩;show(match sl.k with|none=>_|some j=>_);rw[hk];refine⟨r,cp,fps.set n.toNat (cs.set f []).flatten,e1,e2,by simpa using e3,rfl,hd,λm x w' c' m1 m2 m3 =>?_,λn' C s' e =>?_⟩;by_cases hm:n.toNat=m;subst hm
   rw[p2]at m1;cases m1
   rw[Qaq (by omega)]at m3;cases m3
   have G:sl.ws[n.toNat]? = some w':=m2
   rw[hw]at G;injection G with G
   refine⟨vs,cs.set f [],G.symm.trans b1,b2,by simpa using b3,rfl,λC p' u' b' r1 Z X =>?_⟩;by_cases Q:C=f;subst Q;rw[show z4j (some (n,C,ts.nx+1)) n.toNat C=some (ts.nx+1) by simp[z4j]]
   rw[Qaq (by omega)]at X;cases X
   rw[hu]at Z;cases Z
   exact⟨rfl,by rw[h4];rfl,c2,d,A,c1.symm⟩;rw[show z4j (some (n,f,ts.nx+1)) n.toNat C=none by simp[z4j];exact λe=>Q e.symm];rw[Qam (λe=>Q e.symm)]at X;exact b5 C p' u' b' r1 Z X;rw[Qam hm]at m3;have⟨h7,hg,d1,d2,d3,d4,d5⟩:=e6 m x w' c' m1 m2 m3;refine⟨h7,hg,d1,d2,d3,d4,λC p' u' b' r1 Z X =>?_⟩
   rw[show z4j (some (n,f,ts.nx+1)) m C=none by simp[z4j];exact λe=>(hm e).elim];exact d5 C p' u' b' r1 Z X;simp only[Qbn,Qbs]at e;obtain⟨rfl,rfl,rfl⟩:=e;exact⟨p1,N⟩
   rcases Qbf.1 hp with rfl|hp
   exact c4 _
   cases hp)
  (λp hp i hi=>by
   rcases Qbf.1 hp with rfl|hp
   exact B.fpl s _ sl i W trivial K (J i hi)
   rcases Qbf.1 hp with rfl|hp
   refine⟨λe =>?_,(B.fpl s _ sl i W trivial K (O i (.inr hi))).2⟩;have:d.all=i::d.fp:=by unfold Slot.all;rw[e];rfl
   rw[this]at h5;exact(List.nodup_cons.1 h5).1 hi
   cases hp)
 refine⟨_,hT.zf2 (TV.ren D s ts.nx) λx v h=>VR.ren (sl:=sl) (sl':=sl') (lookup_append K) U rfl h,j,r,sl.ws,cp,vs[f]'(by omega),e2,⟨sl,K,e1⟩,?_,?_⟩;rw[hw];show(sl.ws[n.toNat]'(by omega)).cells[f]? = _;rw[b1];exact hu;simp only[VR];exact⟨d,A,c1.symm,c2⟩
def yof{R}(hD:D.Ok P)(B:TRr D F ρ ts σ){s f n k}{r:R}(h:ts.opn D s n f k=some r) :
  ∃g ρ' ty q j a J m u,k (.own (ts.nx+1)) g=some r∧TRr D F ρ' g σ∧σ.H.L[j]? = some (some (.arr a ty (D.len (.st q)) m J))∧(∃sl,ρ[s]? = some sl∧sl.v = .hs F.lv j a 0 m.length false)∧(m[n.toNat]?.bind λx=>x.cells[f]?)=some u∧VR D ρ' F.lv (.own (ts.nx+1)) u:=by
 unfold TS.opn at h;split at h;rename_i ty q xs o;split at h;rename_i K b;have⟨y,l,h⟩:=z3f h;rw[z08f]at h;split at h;rename_i O I i;split at h;rename_i p;have⟨ρ',E,j,a,m,w,u,w2,w3,w4,C⟩:=yj0 hD B o b l i λv G d z=>z0d6 d p z
 grind
 rename_i p;have⟨ρ',E,j,a,m,w,u,w2,w3,w4,C⟩:=yj0 hD B o b l i λv G d z=>z07a d (by simp[Dat.zrs,p]) (by intro e;cases e)
 grind
 rename_i N I _ i;split at h;rename_i A;simp[decide_eq_false_iff_not]at A;have⟨ρ',E,j,a,m,w,u,w2,w3,w4,C⟩:=yj0 hD B o b l i λv G d z=>z07a d A.1 A.2
 grind
 cases h;cases h;cases h;cases h
end
def z0be{T a b x}{y:b.S T}(h:y99 a b x=some y):∃e:a=b,y=e▸x:=by
 grind[y99]
theorem HL.zo2{T}:∀{a b} (x) (y:HL T b),HL.fst a (HL.app x y)=x
 |[],_,_,_=>rfl
 |_::_,_,x,y=>by simp[HL.app,HL.fst];rw[HL.zo2];rfl
theorem HL.zoc{T}:∀{a b} (x) (y:HL T b),HL.snd a (HL.app x y)=y
 |[],_,_,_=>rfl
 |_::_,_,x,y=>by simp[HL.app,HL.snd];rw[HL.zoc]
section
variable (D:Dat)(n:Nat)(M:za9 D.T)(c:TV D.T)
def z09y:ye8 D n .any c M = .ok (M,()):=rfl
def z0fo(t):ye8 D n (.d t) c M=(match asD D t c with
 |.ok x=>.ok (M,(x,()))
 |.frz s=>.frz s
 |.bad=>.bad):=rfl
def z0cq(f)(a b)(d)(g e):ye8 D n (.fn f a b) (.fn d g e) M=if f=d then (match y4t D n a g M with
 |.ok (M,x)=>match y4t D n b e M with
  |.ok (M,y)=>.ok (M,HL.app x y)
  |.frz s=>.frz s
  |.bad=>.bad
 |.frz s=>.frz s
 |.bad=>.bad)else .bad:=rfl
def z04b(cs)(a)(l):y4t D n (a::l) (c::cs) M=(match ye8 D n a c M with
 |.ok (M,x)=>match y4t D n l cs M with
  |.ok (M,y)=>.ok (M,HL.app x y)
  |.frz s=>.frz s
  |.bad=>.bad
 |.frz s=>.frz s
 |.bad=>.bad):=rfl
variable (m:Nat → Nat)
def z0ch(f)(a b)(x)(y):zt5 D m (.fn f a b) (HL.app x y) = .fn f (z3n D m a x) (z3n D m b y):=by
 show TV.fn f (z3n D m a (HL.fst _ (HL.app x y))) (z3n D m b (HL.snd _ (HL.app x y)))=_;rw[HL.zo2,HL.zoc]
def z03z(a)(l)(x)(y):z3n D m (a::l) (HL.app x y)=zt5 D m a x::z3n D m l y:=by
 grind[z3n,HL.zo2,HL.zoc]
end
def z4o{α}:∀{l j} {a:α},fnd l j=some a->(j,a)∈l
 |[],j,a,h=>by simp[fnd]at h
 |(i,b)::r,j,a,h=>by
  rw[yzc]at h;split at h
  grind
  exact Qai _ (z4o h)
section
variable {P:Program}{D:Dat}{F:Fr}{ρ:List Slot}{ts:TS D.T}{σ:St}{lv:Nat}{T:Nat → Type}
def zs9:Slot:=⟨.nils,none,[],[]⟩
def Src.is(ρ:List Slot)(sl:Slot):Src T->Prop
 |.slot s=>ρ[s]? = some sl
 |.nil=>sl=zs9
def Agr(ρ:List Slot)(M:za9 T)(ρ':List Slot):Prop:=∀(k) (src),fnd M k=some src->∃sl,ρ'[k]? = some sl∧src.is ρ sl
structure MOk(n:Nat)(M:za9 T):Prop where
 lt:∀k src,fnd M k=some src->k<n
 inj:∀k k' s,fnd M k=some (.slot s)->fnd M k'=some (.slot s)->k=k'
 one:∀k src,(k,src)∈M->fnd M k=some src
def ylk(M a:za9 T):Prop:=∀k src,fnd M k=some src->fnd a k=some src
def ylk.agr{M a:za9 T}(h:ylk M a){ρ'}(k:Agr ρ a ρ'):Agr ρ M ρ':=λj src b=>k j src (h j src b)
def zcg{n k s}{M g:za9 T}(h:zid n k s M=some g):ylk M g∧fnd g k=some (.slot s)∧(MOk n M->MOk n g):=by
 unfold zid at h;split at h;rename_i r l;split at h
 rename_i e;cases h;subst e;exact⟨λ_ _ h=>h,l,λh=>h⟩
 cases h;cases h;split at h;rename_i o;cases h
 refine⟨λj src b =>?_,by rw[yzc,Qbq rfl],λi=>⟨λj src b =>?_,λj d q b a =>?_,λj src hm=>by
  rw[yzc]
  rcases Qbf.1 hm with hm|hm
  injection hm with w u;grind;have:=i.one j src hm;split
  grind
  exact this⟩⟩
 grind[yzc]
 rw[yzc]at b;split at b;omega;exact i.lt j src b
 have p:∀d,fnd M d≠some (.slot s):=λd a=>by
  have:=Qat.1 o.2 _ (z4o a);simp[Src.z091]at this
 rw[yzc]at b a;split at b <;> split at a
 omega
 grind
 grind
 exact i.inj j d q b a;cases h
def ycv{n k}{M d:za9 T}(h:yux n k M=some d):ylk M d∧fnd d k=some .nil∧(MOk n M->MOk n d):=by
 unfold yux at h;split at h;rename_i i;cases h;exact⟨λ_ _ h=>h,i,λh=>h⟩;cases h;split at h;rename_i l;cases h
 refine⟨λj src a =>?_,by rw[yzc,Qbq rfl],λe=>⟨λj src a =>?_,λj g q a b =>?_,λj src hm=>by
  rw[yzc]
  rcases Qbf.1 hm with hm|hm
  injection hm with p o;grind;have:=e.one j src hm;split
  grind
  exact this⟩⟩
 grind[yzc]
 rw[yzc]at a;split at a;omega;exact e.lt j src a;rw[yzc]at a b;split at a
 grind
 split at b
 grind
 exact e.inj j g q a b;cases h
def FR.inj{α}{a b:α}(h:FR.ok a=FR.ok b):a=b:=by cases h;rfl
theorem FR.pair{α β}{a c:α}{b d:β}(h:FR.ok (a,b)=FR.ok (c,d)):a=c∧b=d:=⟨congrArg Prod.fst (FR.inj h),congrArg Prod.snd (FR.inj h)⟩
def y68{o}{M:za9 T}{u}(h:frU o = .ok (M,u)):o=some M:=by
 unfold frU at h;split at h
 grind
 cases h
def y67(D:Dat)(ρ:List Slot)(lv n:Nat)(M a:za9 D.T)(x:TV D.T)(v:V):Prop:=ylk M a∧(MOk n M->MOk n a)∧∀ρ',Agr ρ a ρ'->VR D ρ' lv x v
def FitL(D:Dat)(ρ:List Slot)(lv n:Nat)(M a:za9 D.T)(xs:List (TV D.T))(vs:List V):Prop:=ylk M a∧(MOk n M->MOk n a)∧∀ρ',Agr ρ a ρ'->VRL D ρ' lv xs vs
def EO.z0fj{ρ' L q n x w c}(h:EO D ρ lv L q none n x w c):EO D ρ' lv L q none n x w c:=h
def EO.z9n{ρ' L q n f s a i x w c sl}(h:EO D ρ lv L q (some (i,f,s)) n x w c)(B:ρ[s]? = some sl)(A:ρ'[a]? = some sl):EO D ρ' lv L q (some (i,f,a)) n x w c:=by
 have⟨vs,cs,z,y,r,o,l⟩:=h;refine⟨vs,cs,z,y,r,o,λd p u b k j g =>?_⟩;have:=l d p u b k j g;by_cases e:i.toNat=n∧f=d;simp[z4j,Qbq e]at this ⊢
 grind
 simp_all[z4j,Qbr]
variable (hD:D.Ok P)
include hD
mutual
theorem zpd{n:Nat}:∀(Y:Sh) {c:TV D.T}{v:V}{M l:za9 D.T}{x:HL D.T Y.tys},ye8 D n Y c M = .ok (l,x)->VR D ρ lv c v->y67 D ρ lv n M l (zt5 D (λk=>k) Y x) v
 |.any,c,v,M,l,x,h,g=>by
  rw[z09y]at h;cases h
  exact⟨λ_ _ h=>h,λh=>h,λρ' _=>(by simp only[VR]:VR D ρ' lv .any v)⟩
 |.d t,c,v,M,l,x,h,g=>by
  rw[z0fo]at h;split at h;rename_i y Z;cases h;exact⟨λ_ _ h=>h,λh=>h,λρ' _=>(VR.tv hD (zli hD Z g):VR D ρ' lv (D.tv t y) v)⟩;cases h
  cases h
 |.own k,c,v,M,l,x,h,g=>by
  show y67 D ρ lv n M l (.own k) v
  cases c <;> first|(cases h;done)|skip
  case own s=>
   have⟨E,C,B⟩:=zcg (y68 h);refine⟨E,B,λρ' q =>?_⟩;have⟨sl,A,r⟩:=q k _ C;simp only[Src.is]at r;simp only[VR]at g;have⟨sl',u,I,U⟩:=g
   rw[r]at u;cases u
   simp only[VR];exact⟨sl,A,I,U⟩
  case nils=>
   have⟨E,C,B⟩:=ycv (y68 h);refine⟨E,B,λρ' q =>?_⟩;have⟨sl,A,r⟩:=q k _ C;simp only[Src.is]at r;subst r;simp only[VR]at g;subst g;simp only[VR]
   exact⟨zs9,A,rfl,rfl⟩
 |.ptr k o,c,v,M,l,x,h,g=>by
  show y67 D ρ lv n M l (.ptr k o) v
  cases c <;> first|(cases h;done)|skip
  case ptr s p=>
   replace h:(if o=p then frU (zid n k s M)else .bad) = .ok (l,()):=h;by_cases e:o=p;rw[Qbq e]at h;subst e;have⟨E,C,B⟩:=zcg (y68 h);refine⟨E,B,λρ' q =>?_⟩;have⟨sl,A,r⟩:=q k _ C;simp only[Src.is]at r;simp only[VR]at g;have⟨sl',i,u,I,U⟩:=g
   rw[r]at u;cases u
   simp only[VR];exact⟨sl,i,A,I,U⟩
   rw[Qbr e]at h;cases h
 |.map k,c,v,M,l,x,h,g=>by
  show y67 D ρ lv n M l (.map k) v
  cases c <;> first|(cases h;done)|skip
  case map s=>
   have⟨E,C,B⟩:=zcg (y68 h);refine⟨E,B,λρ' q =>?_⟩;have⟨sl,A,r⟩:=q k _ C;simp only[Src.is]at r;simp only[VR]at g;have⟨sl',i,u,I,U⟩:=g
   rw[r]at u;cases u
   simp only[VR]
   exact⟨sl,i,A,I,U⟩
 |.mc t,c,v,M,l,x,h,g=>by
  cases c <;> first|(cases h;done)|skip
  case mc G es=>
   replace h:(match zya G t es with|some es=>FR.ok (M,(List.map Prod.fst es,(List.map Prod.snd es,())))|none=>.bad) = .ok (l,x):=h
   cases X:zya G t es with
   |none=>rw[X]at h;cases h
   |some Q=>
    rw[X]at h;have⟨A,r⟩:=y6v X;subst A;replace r:Q=es:=r;subst r;cases h;refine⟨λ_ _ h=>h,λh=>h,λρ' q =>?_⟩;show VR D ρ' lv (.mc G (List.zip (List.map Prod.fst Q) (List.map Prod.snd Q))) v;rw[show List.zip (List.map Prod.fst Q) (List.map Prod.snd Q)=Q from yi6 Q];unfold VR at g ⊢
    exact g
 |.bp k,c,v,M,l,x,h,g=>by
  show y67 D ρ lv n M l (.bp k 0) v
  cases c <;> first|(cases h;done)|skip
  case bp s o=>
   cases o with
   |succ o=>cases h
   |zero=>
   have⟨E,C,B⟩:=zcg (y68 h);refine⟨E,B,λρ' q =>?_⟩;have⟨sl,A,r⟩:=q k _ C;simp only[Src.is]at r;simp only[VR]at g;have⟨sl',i,u,I,U⟩:=g
   rw[r]at u;cases u
   simp only[VR]
   exact⟨sl,i,A,I,U⟩
 |.nilp,c,v,M,l,x,h,g=>by
  show y67 D ρ lv n M l .nilp v
  cases c <;> first|(cases h;done)|skip
  cases h;exact⟨λ_ _ h=>h,λh=>h,λρ' _=>by simpa only[VR]using g⟩
 |.nilf,c,v,M,l,x,h,g=>by
  show y67 D ρ lv n M l .nilf v
  cases c <;> first|(cases h;done)|skip
  cases h;exact⟨λ_ _ h=>h,λh=>h,λρ' _=>by simpa only[VR]using g⟩
 |.nili,c,v,M,l,x,h,g=>by
  show y67 D ρ lv n M l .nili v
  cases c <;> first|(cases h;done)|skip
  cases h;exact⟨λ_ _ h=>h,λh=>h,λρ' _=>by simpa only[VR]using g⟩
 |.nils,c,v,M,l,x,h,g=>by
  show y67 D ρ lv n M l .nils v
  cases c <;> first|(cases h;done)|skip
  cases h;exact⟨λ_ _ h=>h,λh=>h,λρ' _=>by simpa only[VR]using g⟩
 |.fn f a b,c,v,M,l,x,h,g=>by
  cases c <;> first|(cases h;done)|skip
  case fn f' a' b'=>
   rw[z0cq]at h;by_cases e:f=f';rw[Qbq e]at h;subst e;split at h;rename_i M1 y Z;split at h;rename_i M2 z hz;cases h;simp only[VR]at g;obtain⟨as,bs,rfl,J,k2⟩:=g;have⟨O,N,K⟩:=zge a Z J;have⟨b1,b2,b3⟩:=zge b hz k2;refine⟨λj src hj=>b1 j src (O j src hj),λh=>b2 (N h),λρ' q =>?_⟩;rw[z0ch];simp only[VR];exact⟨as,bs,rfl,K ρ' (b1.agr q),b3 ρ' q⟩;cases h;cases h;cases h;cases h
   rw[Qbr e]at h;cases h
 |.iface t s,c,v,M,l,x,h,g=>by
  show y67 D ρ lv n M l (.iface t (zt5 D (λk=>k) s x)) v
  cases c <;> first|(cases h;done)|skip
  case iface G y'=>
   replace h:(if t=G then ye8 D n s y' M else .bad) = .ok (l,x):=h;by_cases e:t=G;rw[Qbq e]at h;subst e;simp only[VR]at g;obtain⟨y,rfl,J⟩:=g;have⟨O,N,K⟩:=zpd s h J;exact⟨O,N,λρ' q=>by simp only[VR];exact⟨y,rfl,K ρ' q⟩⟩
   rw[Qbr e]at h;cases h
 |.agg cs,c,v,M,l,x,h,g=>by
  show y67 D ρ lv n M l (.agg (z3n D (λk=>k) cs x)) v
  cases c <;> first|(cases h;done)|skip
  case agg vs=>
   replace h:y4t D n cs vs M = .ok (l,x):=h;simp only[VR]at g;obtain⟨y,rfl,J⟩:=g;have⟨O,N,K⟩:=zge cs h J
   exact⟨O,N,λρ' q=>by simp only[VR];exact⟨y,rfl,K ρ' q⟩⟩
 |.tup cs,c,v,M,l,x,h,g=>by
  show y67 D ρ lv n M l (.tup (z3n D (λk=>k) cs x)) v
  cases c <;> first|(cases h;done)|skip
  case tup vs=>
   replace h:y4t D n cs vs M = .ok (l,x):=h;simp only[VR]at g;obtain⟨y,rfl,J⟩:=g;have⟨O,N,K⟩:=zge cs h J
   exact⟨O,N,λρ' q=>by simp only[VR];exact⟨y,rfl,K ρ' q⟩⟩
 |.ref cs o,c,v,M,l,x,h,g=>by
  show y67 D ρ lv n M l (.ref (z3n D (λk=>k) cs x) o) v
  cases c <;> first|(cases h;done)|skip
  case ref vs p=>
   replace h:(if o=p then y4t D n cs vs M else .bad) = .ok (l,x):=h;by_cases e:o=p;rw[Qbq e]at h;subst e;simp only[VR]at g;obtain⟨y,rfl,J⟩:=g;have⟨O,N,K⟩:=zge cs h J;exact⟨O,N,λρ' q=>by simp only[VR];exact⟨y,rfl,K ρ' q⟩⟩
   rw[Qbr e]at h;cases h
 |.dp k o,c,v,M,l,x,h,g=>by
  show y67 D ρ lv n M l (.dp k x.1 o) v
  cases c <;> first|(cases h;done)|skip
  case dp s i p=>
   replace h:(if o=p then (match zid n k s M with|some M=>FR.ok (M,((i,()):HL D.T [.int .i64]))|none=>.bad)else .bad) = .ok (l,x):=h;by_cases e:o=p;rw[Qbq e]at h;subst e
   cases R:zid n k s M with
   |none=>rw[R]at h;cases h
   |some M1=>
    rw[R]at h;cases h;have⟨E,C,B⟩:=zcg R;refine⟨E,B,λρ' q =>?_⟩;have⟨sl,A,r⟩:=q k _ C;simp only[Src.is]at r;simp only[VR]at g;have⟨sl',j,h4,m,u,I⟩:=g
    rw[r]at u;cases u
    show VR D ρ' lv (.dp k i o) v;simp only[VR];exact⟨sl,j,h4,m,A,I⟩
   rw[Qbr e]at h;cases h
 |.ap k t o,c,v,M,l,x,h,g=>by
  show y67 D ρ lv n M l (.ap k t x.1 x.2.1 o) v
  cases c <;> first|(cases h;done)|skip
  case ap s G i y p=>
   replace h:(if o=p then (match y99 G t y with|some y=>(match zid n k s M with|some M=>FR.ok (M,((i,(y,())):HL D.T [.int .i64,t]))|none=>.bad)|none=>.bad)else .bad) = .ok (l,x):=h;by_cases e:o=p
   ·rw[Qbq e]at h;subst e
    cases H:y99 G t y with
    |none=>rw[H]at h;cases h
    |some z=>
    rw[H]at h;have⟨et,W⟩:=z0be H;subst et;replace W:z=y:=W;subst W;replace h:(match zid n k s M with|some M=>FR.ok (M,((i,(z,())):HL D.T [.int .i64,G]))|none=>.bad) = .ok (l,x):=h
    cases R:zid n k s M with
    |none=>rw[R]at h;cases h
    |some M1=>
     rw[R]at h;cases h;have⟨E,C,B⟩:=zcg R;refine⟨E,B,λρ' q =>?_⟩;have⟨sl,A,r⟩:=q k _ C;simp only[Src.is]at r;simp only[VR]at g;have⟨sl',w,u,I⟩:=g
     rw[r]at u;cases u
     show VR D ρ' lv (.ap k G i z o) v;simp only[VR];exact⟨sl,w,A,I⟩
   rw[Qbr e]at h;cases h
theorem zge{n:Nat}:∀(l:List Sh) {cs:List (TV D.T)}{vs:List V}{M b:za9 D.T}{x:HL D.T (Sh.z1i l)},y4t D n l cs M = .ok (b,x)->VRL D ρ lv cs vs->FitL D ρ lv n M b (z3n D (λk=>k) l x) vs
 |[],cs,vs,M,b,x,h,a=>by
  cases cs with
  |nil=>cases h;exact⟨λ_ _ h=>h,λh=>h,λρ' _=>(by simpa only[VRL]using a:VRL D ρ' lv [] vs)⟩
  |cons c cs=>cases h
 |sh::l,cs,vs,M,b,x,h,a=>by
  cases cs with
  |nil=>cases h
  |cons c cs=>
   simp only[VRL]at a;obtain⟨v,r,rfl,g,e⟩:=a;rw[z04b]at h;split at h;rename_i B y o;split at h;rename_i A z i;cases h;have⟨w,u,s⟩:=zpd sh o g;have⟨b1,b2,q⟩:=zge l i e;refine⟨λj src p=>b1 j src (w j src p),λh=>b2 (u h),λρ' d =>?_⟩;rw[z03z];simp only[VRL];exact⟨v,r,rfl,s ρ' (b1.agr d),q ρ' d⟩;cases h;cases h;cases h;cases h
end
theorem z002{n}(Y:TRr D F ρ ts σ){o src M N x}(h:ybc D n ts o src M = .ok (N,x)) :
  ylk M N∧(MOk n M->MOk n N)∧(∀s,src = .slot s->∃o',fnd ts.o s=some o'∧o'.live)∧∀ρ' sl,Agr ρ N ρ'->src.is ρ sl->OR D ρ' F.lv σ.H.L sl (zxs D (λk=>k) o x):=by
 cases o with
 |cells cs=>
  cases src with
  |nil=>cases h
  |slot s=>
   simp[ybc]at h
   cases g:fnd ts.o s with
   |none=>rw[g]at h;cases h
   |some o'=>
    rw[g]at h
    cases o' <;> first|(cases h;done)|skip
    rename_i vs;obtain⟨sl',G,B⟩:=Y.ob s _ g;simp[OR]at B;obtain⟨i,us,X,U,R⟩:=B;obtain⟨a1,a2,a3⟩:=zge hD cs h R;refine⟨a1,a2,λQ e=>by cases e;exact⟨_,g,trivial⟩,λρ' sl J r =>?_⟩
    grind[Src.is,zxs,OR]
 |st i=>
  cases src with
  |nil=>cases h
  |slot s=>
   simp[ybc]at h
   cases g:fnd ts.o s with
   |none=>rw[g]at h;cases h
   |some o'=>
    rw[g]at h
    cases o' <;> first|(cases h;done)|skip
    rename_i vs;replace h:(match zcr D (D.fl i) vs with| .ok x=>FR.ok (M,(D.make i x,()))| .frz s=>.frz s| .bad=>.bad) = .ok (N,x):=h;obtain⟨sl',G,B⟩:=Y.ob s _ g;simp only[OR]at B;obtain⟨i',us,X,U,R⟩:=B
    cases hl:zcr D (D.fl i) vs with
    |frz s=>rw[hl]at h;cases h
    |bad=>rw[hl]at h;cases h
    |ok y=>
     rw[hl]at h;cases h;refine⟨λ_ _ h=>h,λh=>h,λQ e=>by cases e;exact⟨_,g,trivial⟩,λρ' sl J r =>?_⟩;simp[Src.is]at r;rw[G]at r;cases r;obtain⟨m1,m2⟩:=zpv hl R;show OR D ρ' F.lv σ.H.L sl' (.cells (D.leaves (D.fl i) (D.get i (D.make i y))));rw[hD.getMake];simp only[OR];refine⟨i',us,X,U,.of (by rw[zgi,m1]) λj c v K hv =>?_⟩;rw[ziu,Qaf]at K;obtain⟨p,hp,rfl⟩:=K
     exact VR.leaf (m2 j p v hp hv)
 |acc ty t w=>
  cases src with
  |nil=>
   cases h;refine⟨λ_ _ h=>h,λh=>h,λs e=>(by cases e),λρ' sl J r =>?_⟩;simp[Src.is]at r;subst r;show OR D ρ' F.lv σ.H.L zs9 (.acc ty t [] w);simp only[OR,zs9]
   exact⟨rfl,λj x v hx=>by simp at hx,.inl ⟨trivial,trivial⟩⟩
  |slot s=>
   simp[ybc]at h
   cases g:fnd ts.o s with
   |none=>rw[g]at h;cases h
   |some o'=>
    rw[g]at h
    cases o' <;> first|(cases h;done)|skip
    rename_i z O xs w';replace h:(if ty=z∧(w=true->w'=true)then (match zgp O t xs with|some xs=>FR.ok (M,(xs,()))|none=>.bad)else .bad) = .ok (N,x):=h;by_cases K:ty=z∧(w=true->w'=true);rw[Qbq K]at h
    cases A:zgp O t xs with
    |none=>grind
    |some E=>
     rw[A]at h;obtain⟨I,C⟩:=zad A;subst I;replace C:=C;subst C;cases h;obtain⟨sl',G,B⟩:=Y.ob s _ g;refine⟨λ_ _ h=>h,λh=>h,λQ e=>by cases e;exact⟨_,g,trivial⟩,λρ' sl J r =>?_⟩;simp[Src.is]at r;rw[G]at r;cases r;obtain⟨Z,hw⟩:=K;subst Z;simp[OR]at B;obtain⟨X,U,R⟩:=B;show OR D ρ' F.lv σ.H.L sl' (.acc ty O E w)
     grind[OR]
    grind
 |rig=>
  cases src with
  |nil=>cases h
  |slot s=>
   simp[ybc]at h
   cases g:fnd ts.o s with
   |none=>rw[g]at h;cases h
   |some o'=>
    rw[g]at h
    cases o' <;> first|(cases h;done)|skip
    cases h;obtain⟨sl',G,B⟩:=Y.ob s _ g;refine⟨λ_ _ h=>h,λh=>h,λQ e=>by cases e;exact⟨_,g,trivial⟩,λρ' sl J r =>?_⟩;simp[Src.is]at r;rw[G]at r;cases r
    exact B
 |siter=>
  cases src with
  |nil=>cases h
  |slot s=>
   simp[ybc]at h
   cases g:fnd ts.o s with
   |none=>rw[g]at h;cases h
   |some o'=>
    rw[g]at h
    cases o' <;> first|(cases h;done)|skip
    rename_i l h7;cases h;obtain⟨sl',G,B⟩:=Y.ob s _ g;refine⟨λ_ _ h=>h,λh=>h,λQ e=>by cases e;exact⟨_,g,trivial⟩,λρ' sl J r =>?_⟩;simp[Src.is]at r;rw[G]at r;cases r
    exact B
 |mp ty t=>
  cases src with
  |nil=>cases h
  |slot s=>
   simp[ybc]at h
   cases g:fnd ts.o s with
   |none=>rw[g]at h;cases h
   |some o'=>
    rw[g]at h
    cases o' <;> first|(cases h;done)|skip
    rename_i z O es;replace h:(if ty=z then (match zya O t es with|some es=>FR.ok (M,(List.map Prod.fst es,(List.map Prod.snd es,())))|none=>.bad)else .bad) = .ok (N,x):=h;by_cases K:ty=z;rw[Qbq K]at h
    cases A:zya O t es with
    |none=>grind
    |some E=>
     rw[A]at h;obtain⟨I,C⟩:=y6v A;subst I;replace C:=C;subst C;cases h;obtain⟨sl',G,B⟩:=Y.ob s _ g;refine⟨λ_ _ h=>h,λh=>h,λQ e=>by cases e;exact⟨_,g,trivial⟩,λρ' sl J r =>?_⟩;simp[Src.is]at r;rw[G]at r;cases r;show OR D ρ' F.lv σ.H.L sl' (.mp ty O (List.zip (List.map Prod.fst E) (List.map Prod.snd E)));rw[show List.zip (List.map Prod.fst E) (List.map Prod.snd E)=E from yi6 E]
     exact B
    grind
 |mit t=>
  cases src with
  |nil=>cases h
  |slot s=>
   simp[ybc]at h
   cases g:fnd ts.o s with
   |none=>rw[g]at h;cases h
   |some o'=>
    rw[g]at h
    cases o' <;> first|(cases h;done)|skip
    rename_i O last es;replace h:(match zya O t es with|some es=>FR.ok (M,(List.map Prod.fst es,(List.map Prod.snd es,())))|none=>.bad) = .ok (N,x):=h
    cases A:zya O t es with
    |none=>grind
    |some E=>
     rw[A]at h;obtain⟨I,C⟩:=y6v A;subst I;replace C:=C;subst C;cases h;obtain⟨sl',G,B⟩:=Y.ob s _ g;refine⟨λ_ _ h=>h,λh=>h,λQ e=>by cases e;exact⟨_,g,trivial⟩,λρ' sl J r =>?_⟩;simp[Src.is]at r;rw[G]at r;cases r;show OR D ρ' F.lv σ.H.L sl' (.mit O none (List.zip (List.map Prod.fst E) (List.map Prod.snd E)));rw[show List.zip (List.map Prod.fst E) (List.map Prod.snd E)=E from yi6 E]
     grind[OR]
 |bld ty k=>
  cases src with
  |nil=>cases h
  |slot s=>
   simp[ybc]at h
   cases g:fnd ts.o s with
   |none=>rw[g]at h;cases h
   |some o'=>
    rw[g]at h
    cases o' <;> first|(cases h;done)|skip
    rename_i z b;replace h:(if ty=z then (match b with|some q=>frU (zid n k q M)|none=>frU (yux n k M))else .bad) = .ok (N,x):=h;by_cases Z:ty=z;rw[Qbq Z]at h;subst Z;obtain⟨sl',G,B⟩:=Y.ob s _ g;simp only[OR]at B;obtain⟨i,u,c,X,U,R,W⟩:=B
    cases b with
    |some q=>
     obtain⟨h1,h2,h3⟩:=zcg (y68 h);refine⟨h1,h3,λQ e=>by cases e;exact⟨_,g,trivial⟩,λρ' sl J r =>?_⟩;simp[Src.is]at r;rw[G]at r;cases r;obtain⟨sq,I,C⟩:=J k _ h2;simp[Src.is]at C;simp[yqn,VR]at W;obtain⟨h5,e3,e4,e5⟩:=W;rw[C]at e3;cases e3;simp only[OR]
     exact⟨i,u,c,X,U,R,by grind[yqn,VR]⟩
    |none=>
     obtain⟨h1,h2,h3⟩:=ycv (y68 h);refine⟨h1,h3,λQ e=>by cases e;exact⟨_,g,trivial⟩,λρ' sl J r =>?_⟩;simp[Src.is]at r;rw[G]at r;cases r;obtain⟨sq,I,C⟩:=J k _ h2;simp[Src.is]at C;subst C;simp[yqn,VR]at W;subst W;simp only[OR];exact⟨i,u,_,X,U,R,by simp only[yqn,VR];exact⟨zs9,I,rfl,rfl⟩⟩
    grind
 |deep ty q=>
  cases src with
  |nil=>
   cases h;refine⟨λ_ _ h=>h,λh=>h,λs e=>(by cases e),λρ' sl J r =>?_⟩;simp[Src.is]at r;subst r;show OR D ρ' F.lv σ.H.L zs9 (.deep ty q [] none);simp only[OR,zs9]
   grind
  |slot s=>
   simp[ybc]at h
   cases g:fnd ts.o s with
   |none=>rw[g]at h;cases h
   |some o'=>
    rw[g]at h
    cases o' <;> first|(cases h;done)|skip
    rename_i z q' xs h';replace h:(if ty=z then (match h' with|none=>(match zgp (.st q') (.st q) xs with|some xs=>FR.ok (M,((xs,()):HL D.T [.sl (.st q)]))|none=>.bad)|some _=>.frz s)else .bad) = .ok (N,x):=h;by_cases K:ty=z
    ·rw[Qbq K]at h;subst K
     cases h' with
     |some p=>cases h
     |none=>
     replace h:=h
     cases A:zgp (.st q') (.st q) xs with
     |none=>grind
     |some E=>
      rw[A]at h;obtain⟨I,C⟩:=zad A;injection I with I;subst I;replace C:=C;subst C;cases h;obtain⟨sl',G,B⟩:=Y.ob s _ g;refine⟨λ_ _ h=>h,λh=>h,λQ e=>by cases e;exact⟨_,g,trivial⟩,λρ' sl J r =>?_⟩;simp[Src.is]at r;rw[G]at r;cases r;show OR D ρ' F.lv σ.H.L sl' (.deep ty q' E none);simp only[OR]at B ⊢;refine⟨B.1,?_⟩;have k3:=B.2
      cases hk:sl'.k with
      |none=>grind
      |some j=>
       rw[hk]at k3;obtain⟨h4,cp,fps,X,U,R,W,q5,q6,q7⟩:=k3;exact⟨h4,cp,fps,X,U,R,W,q5,λn x w c a b d=>(q6 n x w c a b d).z0fj,q7⟩
    grind
 |deeph ty q f k=>
  cases src with
  |nil=>cases h
  |slot s=>
   simp[ybc]at h
   cases g:fnd ts.o s with
   |none=>rw[g]at h;cases h
   |some o'=>
    rw[g]at h
    cases o' <;> first|(cases h;done)|skip
    rename_i z q' xs h';replace h:(if ty=z then (match h' with|some p=>if f=p.2.1 then (match zgp (.st q') (.st q) xs with|some xs=>(match zid n k p.2.2 M with|some M=>FR.ok (M,((xs,(p.1,())):HL D.T [.sl (.st q),.int .i64]))|none=>.bad)|none=>.bad)else .bad|none=>.bad)else .bad) = .ok (N,x):=h;by_cases K:ty=z
    ·rw[Qbq K]at h;subst K
     cases h' with
     |none=>cases h
     |some p=>
     obtain⟨i,f',c⟩:=p;replace h:(if f=f' then (match zgp (.st q') (.st q) xs with|some xs=>(match zid n k c M with|some M=>FR.ok (M,((xs,(i,())):HL D.T [.sl (.st q),.int .i64]))|none=>.bad)|none=>.bad)else .bad) = .ok (N,x):=h;by_cases hf:f=f';rw[Qbq hf]at h;subst hf
     cases A:zgp (.st q') (.st q) xs with
     |none=>grind
     |some E=>
      rw[A]at h;obtain⟨I,C⟩:=zad A;injection I with I;subst I;replace C:=C;subst C;replace h:=h
      cases hb:zid n k c M with
      |none=>rw[hb]at h;cases h
      |some M1=>
      rw[hb]at h;cases h;obtain⟨h1,h2,h3⟩:=zcg hb;obtain⟨sl',G,B⟩:=Y.ob s _ g;refine⟨h1,h3,λQ e=>by cases e;exact⟨_,g,trivial⟩,λρ' sl J r =>?_⟩;simp[Src.is]at r;rw[G]at r;cases r;obtain⟨h6,d1,d2⟩:=J k _ h2;simp[Src.is]at d2;show OR D ρ' F.lv σ.H.L sl' (.deep ty q' E (some (i,f,k)));simp only[OR]at B ⊢;refine⟨B.1,?_⟩;have k3:=B.2
      cases hk:sl'.k with
      |none=>grind
      |some j=>
       rw[hk]at k3;obtain⟨h4,cp,fps,X,U,R,W,q5,q6,q7⟩:=k3;exact⟨h4,cp,fps,X,U,R,W,q5,λn x w cc a b d=>(q6 n x w cc a b d).z9n d2 d1,λn' f' Q e=>by injection e with e;grind⟩
     grind
    grind
omit hD in
theorem ypb{m o x}:(zxs D m o x).live:=by cases o <;> trivial
omit hD in
theorem yys(n)(o)(a)(k)(M):ygt D n ts (o::a) k M=(match fnd M k with
 |some src=>match ybc D n ts o src M with
  |.ok (M,x)=>match ygt D n ts a (k+1) M with
   |.ok (M,y)=>.ok (M,HL.app x y)
   |.frz s=>.frz s
   |.bad=>.bad
  |.frz s=>.frz s
  |.bad=>.bad
 |none=>.bad):=rfl
omit hD in
theorem z01m(m)(o)(a)(k)(x)(y):z6j D m (o::a) k (HL.app x y)=(m k,zxs D m o x)::z6j D m a (k+1) y:=by
 grind[z6j,HL.zo2,HL.zoc]
theorem zr0{n}(l:TRr D F ρ ts σ):∀(d) {k M b x},ygt D n ts d k M = .ok (b,x) ->
  ylk M b∧(MOk n M->MOk n b)∧(∀j,j<d.length->∃src,fnd b (k+j)=some src∧∀s,src = .slot s->∃o',fnd ts.o s=some o'∧o'.live) ∧
  (∀ρ',Agr ρ b ρ'->∀j o,(j,o)∈z6j D (λk=>k) d k x->k<=j∧j<k+d.length∧o.live∧∃sl,ρ'[j]? = some sl∧OR D ρ' F.lv σ.H.L sl o)
 |[],k,M,b,x,h=>by
  cases h
  exact⟨λ_ _ h=>h,λh=>h,λj e=>by simp at e,λρ' _ j o hm=>by cases hm⟩
 |o::d,k,M,b,x,h=>by
  rw[yys]at h;split at h;rename_i src a;split at h;rename_i N y w;split at h;rename_i K z u;cases h;have⟨g,I,G,E⟩:=z002 hD l w;have⟨b1,b2,C,J⟩:=zr0 l d u;refine⟨λj s e=>b1 j s (g j s e),λh=>b2 (I h),λj e =>?_,λρ' i j o' hm =>?_⟩
  cases j with
  |zero=>exact⟨src,b1 _ _ (g _ _ a),G⟩
  |succ j=>
   have⟨r,q,p⟩:=C j (by simpa using e)
   grind
  rw[z01m]at hm
  rcases Qbf.1 hm with hm|hm
  injection hm with B A;subst B;subst A;have⟨sl,q,p⟩:=i j src (b1 _ _ (g _ _ a));exact⟨Qbp _,by simp,ypb,sl,q,E ρ' sl (b1.agr i) p⟩
  grind
  cases h;cases h;cases h;cases h;cases h
omit hD in
theorem z022(n)(p)(l)(M):yx4 D n ts (p::l) M=(match fnd ts.t p.1 with
 |some v=>match ye8 D n p.2 v M with
  |.ok (M,x)=>match yx4 D n ts l M with
   |.ok (M,y)=>.ok (M,HL.app x y)
   |.frz s=>.frz s
   |.bad=>.bad
  |.frz s=>.frz s
  |.bad=>.bad
 |none=>.bad):=rfl
omit hD in
theorem z05d(m)(p)(l)(x)(y):yv3 D m (p::l) (HL.app x y)=(p.1,zt5 D m p.2 x)::yv3 D m l y:=by
 simp_all[yv3,HL.zo2,HL.zoc]
theorem ycp{n}(b:TRr D F ρ ts σ):∀(l) {M a x},yx4 D n ts l M = .ok (a,x) ->
  ylk M a∧(MOk n M->MOk n a)∧∀ρ',Agr ρ a ρ'->∀j c,(j,c)∈yv3 D (λk=>k) l x->∃v,σ.t[j]? = some v∧VR D ρ' F.lv c v
 |[],M,a,x,h=>by
  cases h
  exact⟨λ_ _ h=>h,λh=>h,λρ' _ j o hm=>by cases hm⟩
 |p::l,M,a,x,h=>by
  rw[z022]at h;split at h;rename_i c r;split at h;rename_i I y i;split at h;rename_i G z g;cases h;have⟨v,e,d⟩:=b.tm _ _ r;have⟨B,A,w⟩:=zpd hD p.2 i d;have⟨b1,b2,E⟩:=ycp b l g;refine⟨λj s q=>b1 j s (B j s q),λh=>b2 (A h),λρ' u j C hm =>?_⟩;rw[z05d]at hm
  rcases Qbf.1 hm with hm|hm
  cases hm;exact⟨v,e,w ρ' (b1.agr u)⟩
  grind
  cases h;cases h;cases h;cases h;cases h
omit hD in
theorem yyi(u:TRr D F ρ ts σ){M:za9 D.T}{n}(w:MOk n M)(b:∀j,j<n->∃src,fnd M j=some src∧∀s,src = .slot s->∃o',fnd ts.o s=some o'∧o'.live) :
  ∃ρ':List Slot,ρ'.length=n∧Agr ρ M ρ'∧∀j sl,ρ'[j]? = some sl->∃src,fnd M j=some src∧src.is ρ sl:=by
 have step:∀m,m<=n->∃ρ':List Slot,ρ'.length=m∧∀j,j<m->∃sl src,ρ'[j]? = some sl∧fnd M j=some src∧src.is ρ sl:=λm=>by
  induction m with
  |zero=>simp_all
  |succ m p=>
   intro y;have⟨ρ',d,e⟩:=p (by omega);have⟨src,x,l⟩:=b m (by omega)
   have a:∃sl,src.is ρ sl:=by
    cases src with
    |nil=>exact⟨zs9,rfl⟩
    |slot s=>
     have⟨o',h,_⟩:=l s rfl;have⟨sl,g,_⟩:=u.ob s o' h;exact⟨sl,g⟩
   have⟨sl,a⟩:=a;refine⟨ρ'++[sl],by simp[d],λj r =>?_⟩
   grind
 have⟨ρ',d,e⟩:=step n (Qbp _);refine⟨ρ',d,λk src q =>?_,λj sl r =>?_⟩;have⟨sl,i,h,g,z⟩:=e k (w.lt k src q)
 grind
 grind
omit hD in
theorem zms:∀{n k} {src:Src T},fnd (pins n) k=some src->k<n∧src = .slot k
 |0,k,src,h=>by simp[pins,fnd]at h
 |n+1,k,src,h=>by
  simp[pins,yzc]at h;split at h
  grind
  have⟨b,a⟩:=zms h;grind
omit hD in
theorem ybs:∀{n k},k<n->fnd (pins (T:=T) n) k=some (.slot k)
 |0,k,h=>by omega
 |n+1,k,h=>by
  simp[pins,yzc];split;rename_i e;rw[e];exact ybs (by omega)
omit hD in
theorem ygy:∀{n k src},(k,src)∈pins (T:=T) n->fnd (pins n) k=some src
 |0,k,src,h=>by cases h
 |n+1,k,src,h=>by
  simp[pins,yzc]
  rcases Qbf.1 h with h|h
  grind
  have:=ygy h;split;rename_i e;subst e;have:=(zms this).1;omega;exact this
omit hD in
theorem yhn{n}:∀{gs g} {M a:za9 T},fitG n gs g M=some a->ylk M a∧(MOk n M->MOk n a)∧∀(i k:Nat),gs[i]? = some k->∃s:Nat,g[i]? = some (some s)∧fnd a k=some (.slot s)
 |[],[],M,a,h=>by
  cases h
  exact⟨λ_ _ h=>h,λh=>h,λi k b=>by simp at b⟩
 |[],_::_,M,a,h=>by simp[fitG]at h
 |k::e,[],M,a,h=>by simp[fitG]at h
 |k::e,none::l,M,a,h=>by simp[fitG]at h
 |k::e,some s::l,M,a,h=>by
  simp[fitG]at h;split at h;rename_i x d;have⟨r,q,p⟩:=zcg d;have⟨b1,b2,w⟩:=yhn h;refine⟨λj src o=>b1 j src (r j src o),λh=>b2 (p h),λi u b =>?_⟩
  cases i with
  |zero=>simp at b;subst b;exact⟨s,rfl,b1 _ _ q⟩
  |succ i=>grind
  cases h
theorem LSh.zoj(b:TRr D F ρ ts σ){l:LSh}{x}(hp:F.pin.length<=l.pin)(h4:l.pin<=l.os.length)(h:l.fit D ts = .ok x):∃ρ',TRr D F ρ' (l.bld D x) σ:=by
 unfold LSh.fit at h;by_cases w:ts.nt=l.nt∧ts.d.isEmpty=true
 rotate_left
 grind
 rw[Qbq w]at h;obtain⟨Q,A⟩:=w;have A:=by simpa using A
 split at h
 ·rename_i M y hy;split at h
  case h_2=>cases h
  rename_i Mg R;obtain⟨I,X,U⟩:=yhn R;split at h
  ·rename_i M' z hz;cases h;obtain⟨Z,Y,a3⟩:=ycp hD b l.ts hy;have a1:=λj src u=>I j src (Z j src u)
   have a2:=λh=>X (Y h)
   obtain⟨b1,b2,b3,b4⟩:=zr0 hD b l.os hz;have hM:=b2 (a2 ⟨λk src h=>by have:=(zms h).1;omega,λk k' s h h'=>by have e:=(zms h).2;have e':=(zms h').2;grind,λk src hm=>ygy hm⟩);obtain⟨ρ',c1,O,c3⟩:=yyi b hM λj u=>by simpa using b3 j u
   have hb:l.bld D (HL.app y z)=⟨yv3 D (λk=>k) l.ts y,z6j D (λk=>k) l.os 0 z,l.os.length,l.nt,[],l.gs.map some⟩:=by
    show(⟨yv3 D (λk=>k) l.ts (HL.fst _ (HL.app y z)),z6j D (λk=>k) l.os 0 (HL.snd _ (HL.app y z)),l.os.length,l.nt,[],l.gs.map some⟩:TS D.T)=_;rw[HL.zo2,HL.zoc]
   rw[hb]
   have place:∀s sl i,ρ'[s]? = some sl->sl.has i->∃a p,fnd M' s=some (.slot a)∧fnd ts.o a=some p∧p.live∧ρ[a]? = some sl:=λs sl i hs K=>by
    obtain⟨src,B,q⟩:=c3 s sl hs
    cases src with
    |nil=>simp[Src.is]at q;subst q;rcases K with h|h <;> cases h
    |slot a=>
     obtain⟨h3,J,N⟩:=b3 s (by grind);rw[Nat.zero_add,B]at J;cases J;obtain⟨p,f1,f2⟩:=N a rfl;exact⟨a,p,B,f1,f2,q⟩
   refine⟨ρ',c1,b.nt.trans Q,λj c u=>a3 ρ' (I.agr (b1.agr O)) j c (z4o u),λs o ho =>?_,λs H o o' sl sl' i G h2 W l2 C r2 r k2 =>?_,λs o sl i G W C r =>?_,b.lv,b.E,b.e0,(by have:=b.d;rw[A]at this;exact this),b.out,λj sl u =>?_,λs o sl i G W C r=>by
    obtain⟨a,p,d1,d2,d3,d4⟩:=place s sl i C (.inr r)
    exact b.fpl a p sl i d2 d3 d4 r,λi s v G h2=>by
    rw[Qan,Qaf]at G;obtain⟨k,K,e⟩:=G;injection e with e;subst e;obtain⟨a,d1,d2⟩:=U i k K;have:=b.g i a v d1 h2;simp[VR]at this ⊢;obtain⟨sl,f1,f2⟩:=this;obtain⟨sl',f3,f4⟩:=O k _ (b1 _ _ d2)
    grind[Src.is]⟩
   rotate_right
   have h5:=(Qaa.1 u).1;obtain⟨sl',B,q⟩:=O j _ (b1 _ _ (a1 _ _ (ybs (n:=l.pin) (k:=j) (by omega))));simp[Src.is]at q;rw[b.pin j sl u]at q;cases q;exact B
   simp_all[z4o]
   obtain⟨a,p,d1,d2,d3,d4⟩:=place s sl i C r;obtain⟨s1,o1,B,q,J,N⟩:=place H sl' i r2 k2;have:=b.inj a s1 p o1 sl sl' i d2 q d3 J d4 N r k2;subst this;exact hM.inj s H a d1 B;obtain⟨a,p,d1,d2,d3,d4⟩:=place s sl i C r;exact b.mine a p sl i d2 d3 d4 r
  cases h;cases h
 cases h;cases h
omit hD in
def TR(D:Dat)(F:Fr)(ts:TS D.T)(σ:St):Prop:=∃τ ρ,znz σ τ∧TRr D F ρ ts τ
omit hD in
theorem TRr.tr(a:TRr D F ρ ts σ):TR D F ts σ:=⟨σ,ρ,.refl σ,a⟩
theorem TR.freeze(h:TR D F ts σ){s a}(b:ts.freeze D s=some a):TR D F a σ:=by
 have⟨τ,ρ,i,g⟩:=h;have⟨υ,e,d⟩:=y7k hD g b;exact⟨υ,ρ,i.trans e,d⟩
theorem TR.fold{R}(h:TR D F ts σ){s k}{r:R}(b:ts.fold D s k=some r):∃a,TR D F a σ∧k a=some r:=by
 have⟨τ,ρ,i,g⟩:=h;have⟨a,ρ',e,d,_⟩:=ykn hD g b;exact⟨a,⟨τ,ρ',i,e⟩,d⟩
theorem LSh.zeh{R l}(g:F.pin.length<=l.pin)(a:l.pin<=l.os.length){k}{r:R}:∀{f ts},TR D F ts σ->LSh.enter D l k f ts=some r->∃x,k x=some r∧TR D F (l.bld D x) σ
 |0,ts,e,h=>by simp[LSh.enter]at h
 |f+1,ts,e,h=>by
  simp[LSh.enter]at h;split at h;rename_i x j;have⟨τ,ρ,d,b⟩:=e;have⟨ρ',p⟩:=LSh.zoj hD b g a j;exact⟨x,h,τ,ρ',d,p⟩;split at h;have⟨i,d,b⟩:=e.fold hD h;exact LSh.zeh g a d b;split at h;rename_i s _ _ i o;have⟨x,d,b⟩:=LSh.zeh g a (e.freeze hD o) h;exact⟨x,d,b⟩;cases h;cases h
end
section
variable {P:Program}{D:Dat}{F:Fr}{ρ:List Slot}{ts:TS D.T}{σ:St}{lv:Nat}{T:Nat → Type}
def VR.zpy{ρ' a t x v}(h:VR D ρ lv (D.leaf t x) v):VR D ρ' a (D.leaf t x) v:=by
 cases t <;> first|(simp only[Dat.leaf,VR];done)|simpa only[Dat.leaf,VR]using h
def VR.data{ρ' b t x v}(hD:D.Ok P)(h:VR D ρ lv (D.tv t x) v):VR D ρ' b (D.tv t x) v:=by
 cases t with
 |st i=>
  obtain⟨vs,rfl,h⟩:=h;refine⟨vs,rfl,.of h.length λj c v a d =>?_⟩;have:=h.y63 a d;rw[ziu,Qaf]at a;obtain⟨p,e,rfl⟩:=a
  exact VR.zpy this
 |bool=>exact VR.zpy (t:=.bool) h
 |int k=>exact VR.zpy (t:=.int k) h
 |str=>exact VR.zpy (t:=.str) h
 |nat=>exact VR.zpy (t:=.nat) (x:=x) h
 |sl t=>exact VR.zpy (t:=.sl t) h
def Maps(m:Nat->Nat)(ρ ρ':List Slot):Prop:=∀(j) (sl),ρ[j]? = some sl->ρ'[m j]? = some sl
variable {m:Nat → Nat}{ρ':List Slot}
mutual
theorem VR.maps(o:Maps m ρ ρ')(hD:D.Ok P):∀(p:Sh) {x:HL D.T p.tys}{v:V},VR D ρ lv (zt5 D (λk=>k) p x) v->VR D ρ' lv (zt5 D m p x) v
 |.any,x,v,h=>(by simp only[VR]:VR D ρ' lv .any v)
 |.d t,x,v,h=>by
  replace h:VR D ρ lv (D.tv t x.1) v:=h;show VR D ρ' lv (D.tv t x.1) v
  exact VR.data hD h
 |.own k,x,v,h=>by
  replace h:VR D ρ lv (.own k) v:=h;show VR D ρ' lv (.own (m k)) v;simp only[VR]at h ⊢;have⟨sl,l,g⟩:=h
  exact⟨sl,o k sl l,g⟩
 |.ptr k e,x,v,h=>by
  replace h:VR D ρ lv (.ptr k e) v:=h;show VR D ρ' lv (.ptr (m k) e) v;simp only[VR]at h ⊢;have⟨sl,i,l,g⟩:=h
  exact⟨sl,i,o k sl l,g⟩
 |.map k,x,v,h=>by
  replace h:VR D ρ lv (.map k) v:=h;show VR D ρ' lv (.map (m k)) v;simp only[VR]at h ⊢;have⟨sl,i,l,g⟩:=h
  exact⟨sl,i,o k sl l,g⟩
 |.mc t,x,v,h=>by
  replace h:VR D ρ lv (.mc t (List.zip x.1 x.2.1)) v:=h;show VR D ρ' lv (.mc t (List.zip x.1 x.2.1)) v;unfold VR at h ⊢
  exact h
 |.bp k,x,v,h=>by
  replace h:VR D ρ lv (.bp k 0) v:=h;show VR D ρ' lv (.bp (m k) 0) v;simp only[VR]at h ⊢;have⟨sl,i,l,g⟩:=h
  exact⟨sl,i,o k sl l,g⟩
 |.nilp,x,v,h=>by
  replace h:VR D ρ lv .nilp v:=h;show VR D ρ' lv .nilp v
  simpa only[VR]using h
 |.nilf,x,v,h=>by
  replace h:VR D ρ lv .nilf v:=h;show VR D ρ' lv .nilf v
  simpa only[VR]using h
 |.nili,x,v,h=>by
  replace h:VR D ρ lv .nili v:=h;show VR D ρ' lv .nili v
  simpa only[VR]using h
 |.nils,x,v,h=>by
  replace h:VR D ρ lv .nils v:=h;show VR D ρ' lv .nils v
  simpa only[VR]using h
 |.fn f a b,x,v,h=>by
  replace h:VR D ρ lv (.fn f (z3n D (λk=>k) a (HL.fst _ x)) (z3n D (λk=>k) b (HL.snd _ x))) v:=h;show VR D ρ' lv (.fn f (z3n D m a (HL.fst _ x)) (z3n D m b (HL.snd _ x))) v;simp only[VR]at h ⊢;have⟨u,bs,l,g,r⟩:=h
  exact⟨u,bs,l,VRL.maps o hD a g,VRL.maps o hD b r⟩
 |.iface t s,x,v,h=>by
  replace h:VR D ρ lv (.iface t (zt5 D (λk=>k) s x)) v:=h;show VR D ρ' lv (.iface t (zt5 D m s x)) v;simp only[VR]at h ⊢;have⟨y,l,g⟩:=h
  exact⟨y,l,VR.maps o hD s g⟩
 |.agg cs,x,v,h=>by
  replace h:VR D ρ lv (.agg (z3n D (λk=>k) cs x)) v:=h;show VR D ρ' lv (.agg (z3n D m cs x)) v;simp only[VR]at h ⊢;have⟨y,l,g⟩:=h
  exact⟨y,l,VRL.maps o hD cs g⟩
 |.tup cs,x,v,h=>by
  replace h:VR D ρ lv (.tup (z3n D (λk=>k) cs x)) v:=h;show VR D ρ' lv (.tup (z3n D m cs x)) v;simp only[VR]at h ⊢;have⟨y,l,g⟩:=h
  exact⟨y,l,VRL.maps o hD cs g⟩
 |.ref cs e,x,v,h=>by
  replace h:VR D ρ lv (.ref (z3n D (λk=>k) cs x) e) v:=h;show VR D ρ' lv (.ref (z3n D m cs x) e) v;simp only[VR]at h ⊢;have⟨y,l,g⟩:=h
  exact⟨y,l,VRL.maps o hD cs g⟩
 |.dp k e,x,v,h=>by
  replace h:VR D ρ lv (.dp k x.1 e) v:=h;show VR D ρ' lv (.dp (m k) x.1 e) v;simp only[VR]at h ⊢;have⟨sl,j,q,n,l,g⟩:=h
  exact⟨sl,j,q,n,o k sl l,g⟩
 |.ap k t e,x,v,h=>by
  replace h:VR D ρ lv (.ap k t x.1 x.2.1 e) v:=h;show VR D ρ' lv (.ap (m k) t x.1 x.2.1 e) v;simp only[VR]at h ⊢;have⟨sl,w,l,g⟩:=h;exact⟨sl,w,o k sl l,g⟩
theorem VRL.maps(a:Maps m ρ ρ')(hD:D.Ok P):∀(l:List Sh) {x:HL D.T (Sh.z1i l)}{vs:List V},VRL D ρ lv (z3n D (λk=>k) l x) vs->VRL D ρ' lv (z3n D m l x) vs
 |[],x,vs,h=>by
  replace h:VRL D ρ lv [] vs:=h;show VRL D ρ' lv [] vs
  simpa only[VRL]using h
 |sh::l,x,vs,h=>by
  replace h:VRL D ρ lv (zt5 D (λk=>k) sh (HL.fst _ x)::z3n D (λk=>k) l (HL.snd _ x)) vs:=h;show VRL D ρ' lv (zt5 D m sh (HL.fst _ x)::z3n D m l (HL.snd _ x)) vs;simp only[VRL]at h ⊢;have⟨v,r,e,d,b⟩:=h;exact⟨v,r,e,VR.maps a hD sh d,VRL.maps a hD l b⟩
end
theorem OR.maps(C:Maps m ρ ρ')(hD:D.Ok P){L sl o x}(h:OR D ρ lv L sl (zxs D (λk=>k) o x)):OR D ρ' lv L sl (zxs D m o x):=by
 cases o with
 |cells cs=>
  grind[zxs,OR,VRL.maps]
 |st i=>
  simp[zxs,OR]at h ⊢;have⟨j,vs,z,y,r⟩:=h;refine⟨j,vs,z,y,.of r.length λk c v g X =>?_⟩;have:=r.y63 g X;rw[ziu,Qaf]at g;obtain⟨p,hp,rfl⟩:=g
  exact VR.zpy this
 |acc ty t w=>exact h
 |siter=>exact h
 |rig=>exact h
 |mp ty t=>exact h
 |mit t=>exact h
 |bld ty k=>
  simp[OR]at h ⊢;have⟨i,u,c,z,y,r,E⟩:=h;refine⟨i,u,c,z,y,r,?_⟩;simp[yqn,VR]at E ⊢;have⟨sl,U,R⟩:=E
  exact⟨sl,C k sl U,R⟩
 |deep ty q=>
  replace h:=h;show OR D ρ' lv L sl (.deep ty q x.1 none);simp only[OR]at h ⊢;refine⟨h.1,?_⟩;have l:=h.2
  cases s:sl.k with
  |none=>grind
  |some j=>rw[s]at l;exact l
 |deeph ty q f k=>
  replace h:=h;show OR D ρ' lv L sl (.deep ty q x.1 (some (x.2.1,f,m k)));simp only[OR]at h ⊢;refine⟨h.1,?_⟩;have l:=h.2
  cases s:sl.k with
  |none=>grind
  |some j=>
   rw[s]at l;have⟨B,cp,fps,Q,O,N,K,J,I,q7⟩:=l;refine⟨B,cp,fps,Q,O,N,K,J,λn G w c a b d =>?_,λn' A s' e=>by injection e with e;grind⟩;have⟨vs,cs,a1,a2,a3,a4,a5⟩:=I n G w c a b d;refine⟨vs,cs,a1,a2,a3,a4,λA p u b e1 e2 e3 =>?_⟩;have:=a5 A p u b e1 e2 e3;by_cases g:x.2.1.toNat=n∧f=A;simp[z4j,Qbq g]at this ⊢;have⟨g1,W,H,sl',Z,Y⟩:=this;exact⟨g1,W,H,sl',C _ _ Z,Y⟩
   simp[z4j,Qbr g]at this ⊢;exact this
theorem zv6:∀(a) {k x s o},(s,o)∈z6j D m a k x->∃j,k<=j∧j<k+a.length∧s=m j∧∃(osh:OSh) (y:HL D.T osh.tys),o=zxs D m osh y∧(j,zxs D (λk=>k) osh y)∈z6j D (λk=>k) a k x
 |[],k,x,s,o,h=>by cases h
 |osh::a,k,x,s,o,h=>by
  rcases Qbf.1 h with h|h
  injection h with e d;exact⟨k,Qbp _,by simp,e,osh,HL.fst _ x,d,Qak⟩;have⟨j,e,d,l,b,y,i,g⟩:=zv6 a h;exact⟨j,by omega,by grind,l,b,y,i,Qai _ g⟩
def y1t:∀{M s o},fnd (zlw D M) s=some o->o = .gone∧∃k,(k,Src.slot s)∈M
 |[],s,o,h=>by simp[zlw,fnd]at h
 |(k,.slot e)::M,s,o,h=>by
  simp[zlw,yzc]at h;split at h
  grind
  have⟨d,a,b⟩:=y1t h;grind
 |(k,.nil)::M,s,o,h=>by
  simp[zlw]at h;have⟨d,a,b⟩:=y1t h
  grind
def zwr:∀{M s},fnd (zlw D M) s=none->∀k,(k,Src.slot s)∉M
 |[],s,h,k,hm=>by cases hm
 |(a,.slot b)::M,s,h,k,hm=>by
  simp[zlw,yzc]at h;split at h;cases h
  rcases Qbf.1 hm with hm|hm
  grind
  exact zwr h k hm
 |(a,.nil)::M,s,h,k,hm=>by
  simp[zlw]at h
  rcases Qbf.1 hm with hm|hm
  grind
  exact zwr h k hm
structure Left(D:Dat)(lv:Nat)(L:List (Option yzm))(ρ:List Slot)(p:Nat)(L':List (Option yzm))(ρ':List Slot)(os:List OSh)(y:HL D.T (z1j os)):Prop where
 len:ρ'.length=os.length
 ob:∀j o,(j,o)∈z6j D (λk=>k) os 0 y->∃sl,ρ'[j]? = some sl∧OR D ρ' lv L' sl o
 inj:∀(s s':Nat) (sl sl':Slot) (i:Nat),ρ'[s]? = some sl->ρ'[s']? = some sl'->sl.has i->sl'.has i->s=s'
 mine:∀(s:Nat) (sl:Slot) (i:Nat),ρ'[s]? = some sl->sl.has i->L.length<=i∨∃(k:Nat) (sl0:Slot),ρ[k]? = some sl0∧sl0.has i
 out:∀i,i<L.length->(∀(k:Nat) (sl0:Slot),ρ[k]? = some sl0->¬sl0.has i)->i<L'.length∧L'[i]? = L[i]?
 pin:∀(j:Nat) (sl:Slot),j<p->ρ[j]? = some sl->ρ'[j]? = some sl
 fpl:∀(s:Nat) (sl:Slot) (i:Nat),ρ'[s]? = some sl->i∈sl.fp->sl.k≠some i∧∃a,L'[i]? = some (some a)
def TRr.after(B:TRr D F ρ ts σ)(hD:D.Ok P){M:za9 D.T}{n p:Nat}(hM:MOk n M){ρ0:List Slot}(hA:Agr ρ M ρ0)(h0:∀j sl,ρ0[j]? = some sl->∃src,fnd M j=some src∧src.is ρ sl∧∀s,src = .slot s->∃o',fnd ts.o s=some o'∧o'.live)
  (hc:∀k s,(k,Src.slot s)∈M->fnd M k=some (.slot s)) (hp:∀k,k<p->∃s,fnd M k=some (.slot s)) {L':List (Option yzm)}{ρ':List Slot}{Y:List OSh}{y:HL D.T (z1j Y)}(he:p<=Y.length) (U:Left D F.lv σ.H.L ρ0 p L' ρ' Y y) :
  TRr D F (ρ++ρ'.drop p) (zfh D M p ts Y y) {σ with H:=⟨F.lv,L',F.E⟩}∧Maps (zdm D M p ts.nx) ρ' (ρ++ρ'.drop p):=by
 have G:Maps (zdm D M p ts.nx) ρ' (ρ++ρ'.drop p):=λj sl hj=>by
  unfold zdm;by_cases h5:j<p;rw[Qbq h5];have⟨s,I⟩:=hp j h5;have⟨b,C,w⟩:=hA j _ I;have:=U.pin j b h5 C
  rw[hj]at this;cases this
  rw[I];exact lookup_append w;rw[Qbr h5,<-B.nx,Qav (by omega),Qba];rw[<-hj];congr 1;omega
 have hd:∀j J,j<Y.length->J<Y.length->zdm D M p ts.nx j=zdm D M p ts.nx J->j=J:=λj J hj hf h=>by
  unfold zdm at h
  have h7:∀j s,fnd M j=some (.slot s)->s<ts.nx:=λj s I=>by
   have⟨b,C,w⟩:=hA j _ I;rw[<-B.nx];exact(Qaa.1 w).1
  by_cases r:j<p <;> by_cases u:J<p
  rw[Qbq r,Qbq u]at h;have⟨s,I⟩:=hp j r;have⟨s',h8⟩:=hp J u;rw[I,h8]at h;simp only at h;subst h;exact hM.inj j J s I h8;have⟨s,I⟩:=hp j r;rw[Qbq r,Qbr u,I]at h;simp only at h;have:=h7 j s I;omega;have⟨s,I⟩:=hp J u;rw[Qbr r,Qbq u,I]at h;simp only at h;have:=h7 J s I;omega;rw[Qbr r,Qbr u]at h;omega
 have kinds:∀s o,fnd (zfh D M p ts Y y).o s=some o->(∃j,j<Y.length∧s=zdm D M p ts.nx j∧∃(K:OSh) (z:HL D.T K.tys),o=zxs D (zdm D M p ts.nx) K z∧(j,zxs D (λk=>k) K z)∈z6j D (λk=>k) Y 0 y)∨(o = .gone∧∃k,(k,Src.slot s)∈M)∨(fnd ts.o s=some o∧∀k,(k,Src.slot s)∉M):=λs o h=>by
  simp only[zfh]at h;rw[zpk]at h;split at h;rename_i o' h6;cases h;have⟨j,r,u,h3,h4⟩:=zv6 Y (z4o h6);exact .inl ⟨j,by omega,h3,h4⟩;rw[zpk]at h;split at h;rename_i o' h6;cases h;have⟨r,u⟩:=y1t h6;exact .inr (.inl ⟨r,u⟩);rename_i hn;exact .inr (.inr ⟨h,zwr hn⟩)
 have apart:∀s o sl i,fnd ts.o s=some o->o.live->(∀k,(k,Src.slot s)∉M)->ρ[s]? = some sl->sl.has i->∀(k:Nat) (b:Slot),ρ0[k]? = some b->¬b.has i:=λs o sl i W hl hb I hk k b r u=>by
  have⟨src,C,w,e3⟩:=h0 k b r
  cases src with
  |nil=>simp only[Src.is]at w;subst w;rcases u with h|h <;> cases h
  |slot s0=>
   have⟨o',f1,f2⟩:=e3 s0 rfl;have:=B.inj s s0 o o' sl b i W f1 hl f2 I w hk u;subst this;exact hb k (z4o C)
 have O:∀(k:Nat) (b:Slot) (i:Nat),ρ0[k]? = some b->b.has i->¬F.out i:=λk b i r u=>by
  have⟨src,C,w,e3⟩:=h0 k b r
  cases src with
  |nil=>simp only[Src.is]at w;subst w;rcases u with h|h <;> cases h
  |slot s0=>
   have⟨o',f1,f2⟩:=e3 s0 rfl;exact B.mine s0 o' b i f1 f2 w u
 have Z:∀s o sl i,fnd ts.o s=some o->o.live->ρ[s]? = some sl->sl.has i->i<σ.H.L.length:=λs o sl i W hl I hk=>B.lt W hl I hk
 have e:∀s o sl,fnd ts.o s=some o->(ρ++ρ'.drop p)[s]? = some sl->ρ[s]? = some sl:=λs o sl W h=>by
  have⟨q,r,u⟩:=B.ob s o W;rw[lookup_append r]at h;rw[r,h]
 have l:∀j sl,j<Y.length->(ρ++ρ'.drop p)[zdm D M p ts.nx j]? = some sl->ρ'[j]? = some sl:=λj sl hj h=>by
  have h9:j<ρ'.length:=by rw[U.len];exact hj
  have:=G j ρ'[j] (Qab h9)
  rw[this]at h;injection h with h;rw[<-h];exact Qab h9
 refine⟨⟨?_,B.nt,λj x hj =>?_,λs o W =>?_,λs s' o o' sl sl' i r u R l2 N r2 Q k2 =>?_,λs o sl i r R N Q =>?_,rfl,rfl,B.e0,B.d.more _,λi hi =>?_,λj sl hj=>lookup_append (B.pin j sl hj),λs o sl i r R N Q =>?_,λi s v r u=>(B.g i s v r u).more _⟩,G⟩;simp only[zfh,Qap,List.length_drop,U.len,B.nx];have⟨v,r,u⟩:=B.tm j x hj;exact⟨v,r,u.more _⟩
 rcases kinds s o W with ⟨j,r,u,K,z,h3,h4⟩|⟨rfl,k,r⟩|⟨r,u⟩
 have⟨sl,C,w⟩:=U.ob j _ h4;refine⟨sl,by rw[u];exact G j sl C,?_⟩;rw[h3];exact OR.maps G hD w;have⟨b,C,w⟩:=hA k _ (hc k s r);exact⟨b,lookup_append w,by simp only[OR]⟩;have⟨q,C,w⟩:=B.ob s o r;exact⟨q,lookup_append C,w.mono _ λi hi hl=>(U.out i (B.lt r hl C hi) (apart s o q i r hl u C hi)).2⟩
 rcases kinds s o r with ⟨j,A,X,K,z,a3,a4⟩|⟨rfl,k,A⟩|⟨A,X⟩
 rcases kinds s' o' u with ⟨J,b1,b2,ha,z',b3,b4⟩|⟨rfl,k',b1⟩|⟨b1,b2⟩
 rw[X,b2]
 congr 1
 rw[X]at N;rw[b2]at r2;exact U.inj j J sl sl' i (l j sl A N) (l J sl' b1 r2) Q k2;exact l2.elim
 exfalso
 rw[X]at N;have q2:=e s' o' sl' b1 r2
 rcases U.mine j sl i (l j sl A N) Q with h|⟨k,b,C,w⟩
 have:=Z s' o' sl' i b1 l2 q2 k2;omega;exact apart s' o' sl' i b1 l2 b2 q2 k2 k b C w;exact R.elim
 rcases kinds s' o' u with ⟨J,b1,b2,ha,z',b3,b4⟩|⟨rfl,k',b1⟩|⟨b1,b2⟩
 exfalso
 rw[b2]at r2;have q1:=e s o sl A N
 rcases U.mine J sl' i (l J sl' b1 r2) k2 with h|⟨k,b,C,w⟩
 have:=Z s o sl i A R q1 Q;omega;exact apart s o sl i A R X q1 Q k b C w;exact l2.elim;exact B.inj s s' o o' sl sl' i A b1 R l2 (e _ _ _ A N) (e _ _ _ b1 r2) Q k2
 rcases kinds s o r with ⟨j,A,X,K,z,a3,a4⟩|⟨rfl,k,A⟩|⟨A,X⟩
 rw[X]at N
 rcases U.mine j sl i (l j sl A N) Q with h|⟨k,b,C,w⟩
 intro W;have:=(B.out i W).1;omega;exact O k b i C w;exact R.elim;exact B.mine s o sl i A R (e _ _ _ A N) Q;have⟨r,u⟩:=B.out i hi;have⟨h3,h4⟩:=U.out i r λk b C w=>O k b i C w hi
 exact⟨h3,h4.trans u⟩
 rcases kinds s o r with ⟨j,A,X,K,z,a3,a4⟩|⟨rfl,k,A⟩|⟨A,X⟩
 rw[X]at N;exact U.fpl j sl i (l j sl A N) Q;exact R.elim;have q1:=e _ _ _ A N;have hq:=B.fpl s o sl i A R q1 Q;refine⟨hq.1,?_⟩;show ∃a,L'[i]? = _;rw[(U.out i (B.lt A R q1 (.inr Q)) (apart s o sl i A R X q1 (.inr Q))).2];exact hq.2
end
section
variable {P:Program}{D:Dat}{F:Fr}{ρ:List Slot}{ts:TS D.T}{σ:St}{lv:Nat}
def SlOk(L:List (Option yzm))(ρ0:List Slot):Prop :=
 (∀(s b:Nat) (sl sl') (i),ρ0[s]? = some sl->ρ0[b]? = some sl'->sl.has i->sl'.has i->s=b) ∧
 ∀(s:Nat) (sl) (i),ρ0[s]? = some sl->i∈sl.fp->sl.k≠some i∧∃a,L[i]? = some (some a)
def yd8(L L':List (Option yzm))(ρ0:List Slot)(a:List (Nat×Nat)):Prop:=∀q∈a,∀sl i,ρ0[q.1]? = some sl->sl.k=some i->cellAt L'[i]? q.2=cellAt L[i]? q.2
def yqx(L:List (Option yzm))(ρ0:List Slot)(a:List (Nat×Nat)):Prop:=∀q∈a,∃sl i u,ρ0[q.1]? = some sl∧sl.k=some i∧cellAt L[i]? q.2=some u∧u.leaf=true
def yqx.nil{L ρ0}:yqx L ρ0 []:=λq a=>by cases a
def yd8.nil{L L' ρ0}:yd8 L L' ρ0 []:=λq a=>by cases a
def altO(a:Sh)(v:V):Out:=match a with
 |.tup _=>.ret v
 |_=>.pan v
def yw0{a v w}(h:Out.ret w=altO a v):v=w∧∀{R} (k b:TV D.T->TS D.T->Option R),altK D a k b=k:=by
 cases a <;> simp only[altO]at h <;> first|(cases h;done)|(injection h with h;exact⟨h.symm,λ_ _=>rfl⟩)
def ypn{a v w}(h:Out.pan w=altO a v):v=w∧∀{R} (k b:TV D.T->TS D.T->Option R),altK D a k b=b:=by
 cases a <;> simp only[altO]at h <;> first|(cases h;done)|(injection h with h;exact⟨h.symm,λ_ _=>rfl⟩)
def yge{M:za9 D.T}{a}(h:∀k s,fnd M k≠some (.slot s)):∀(l) (ts),Go.Ab.zcs D M a l ts=ts
 |[],ts=>rfl
 |q::l,ts=>by
  simp[Go.Ab.zcs];split
  grind
  exact yge h l ts
def z07e{a v}(h:(match a with| .tup _=>false|_=>true)=true):altO a v = .pan v:=by cases a <;> first|rfl|cases h
def Ent.Flat(P:Program)(e:Ent D)(x:HL D.T (Sh.z1i e.args++z1j e.aos))(o:HL D.T (Sh.z1i e.outs++z1j e.ros) ⊕ HL D.T (e.pan.tys++z1j e.pos)):Prop :=
 ∀(lv) (L) (E) (ρ0) (a),ρ0.length=e.aos.length->VRL D ρ0 lv (z3n D (λk=>k) e.args (HL.fst _ x)) a ->
  (∀j o,(j,o)∈z6j D (λk=>k) e.aos 0 (HL.snd _ x)->∃sl,ρ0[j]? = some sl∧OR D ρ0 lv L sl o) ->
  SlOk L ρ0->yqx L ρ0 e.kc ->
  zqp P e.f a ⟨lv,L,E⟩ λout H'=>∃L' ρ',H'=⟨lv,L',E⟩ ∧
   match o with
   |.inl y=>Left D lv L ρ0 e.p L' ρ' e.ros (HL.snd _ y)∧((∀q∈e.ren,∀sl,ρ0[q.1]? = some sl->∃sl',ρ'[q.2]? = some sl'∧sl'.v=sl.v)∧yd8 L L' ρ0 e.kc)∧∃vs,out = .ret (zbp vs)∧VRL D ρ' lv (z3n D (λk=>k) e.outs (HL.fst _ y)) vs
   |.inr y=>Left D lv L ρ0 e.p L' ρ' e.pos (HL.snd _ y)∧∃v,out=altO e.pan v∧VR D ρ' lv (zt5 D (λk=>k) e.pan (HL.fst _ y)) v
def Ent.Pure(P:Program)(e:Ent D)(x:HL D.T (Sh.z1i e.args++z1j e.aos))(y:HL D.T (Sh.z1i e.outs++z1j e.ros)):Prop :=
 e.aos=[]∧e.ros=[]∧e.ren=[]∧∀(lv) (a),VRL D [] lv (z3n D (λk=>k) e.args (HL.fst _ x)) a->∃vs,(∀ρ b,VRL D ρ b (z3n D (λk=>k) e.outs (HL.fst _ y)) vs)∧zrw P e.f a (zbp vs)
def Ent.Ok(P:Program)(e:Ent D):Prop:=∀(R) (x) (k) (a) (r:R),e.go x k a=some r ->
 match e.pure with
 |true=>∃y,k y=some r∧e.Pure P x y
 |false=>(∃y,k y=some r∧e.Flat P x (.inl y))∨∃y,a y=some r∧e.Flat P x (.inr y)
def TRr.zcs{M:za9 D.T}{o ρ0 ρ' σ'}(hold:TRr D F ρ o σ)(g:∀k s,fnd M k=some (.slot s)->∃sl,ρ0[k]? = some sl∧ρ[s]? = some sl)(d:∀(s:Nat) (sl:Slot),ρ[s]? = some sl->ρ'[s]? = some sl)
  (r:∀x v,VR D ρ F.lv x v->VR D ρ' F.lv x v):∀(l) {ts},yd8 σ.H.L σ'.H.L ρ0 l->TRr D F ρ' ts σ'->TRr D F ρ' (Go.Ab.zcs D M o l ts) σ'
 |[],ts,_,b=>b
 |q::l,ts,h,b=>by
  have y:=λq U=>h q (Qai _ U)
  simp[Go.Ab.zcs];split;rename_i s R;split;rename_i O news X E;split;rename_i v B;refine TRr.zcs hold g d r l y ?_;have⟨sl,Y,A⟩:=g _ _ R;have⟨W,f1,f2⟩:=hold.ob s _ X;rw[A]at f1;cases f1;have⟨Z,N,K⟩:=b.ob s _ E;rw[d _ _ A]at N;cases N;simp only[OR]at f2 K;have⟨i,vs,f3,f4,f5⟩:=f2;have⟨i',a,J,I,G⟩:=K;rw[f3]at J;cases J;have z:=h q Qak sl i Y f3
  rw[f4,I]at z;have z:a[q.2]? = vs[q.2]? := z
  have p:σ'.H.L.set i (some (.cells a))=σ'.H.L:=by
   grind[List.set_getElem_self]
  have h3:=b.upd E trivial (d _ _ A) f3 (.cells (news.set q.2 v)) (.cells a) (by
   simp only[OR];refine⟨i,a,f3,by rw[p];exact I,VRL.of (by rw[List.length_set];exact G.length) λj c u e Q =>?_⟩;rw[Qbc]at e;split at e;rename_i C;subst C;split at e;cases e;have⟨w,w1,w2⟩:=f5.get _ _ B
   grind
   cases e
   exact G.y63 e Q)
  simp_all
  exact TRr.zcs hold g d r l y b;exact TRr.zcs hold g d r l y b;exact TRr.zcs hold g d r l y b
def TRr.zgj{M:za9 D.T}{p nx}{ρ0 ρ':List Slot}(e:∀k s,fnd M k=some (.slot s)->∃sl,ρ0[k]? = some sl∧ρ[s]? = some sl)(d:Maps (zdm D M p nx) ρ' ρ):∀(l) {ts},(∀q∈l,∀sl,ρ0[q.1]? = some sl->∃sl',ρ'[q.2]? = some sl'∧sl'.v=sl.v)->TRr D F ρ ts σ->TRr D F ρ (Go.Ab.zgj D M p nx l ts) σ
 |[],ts,_,a=>a
 |q::l,ts,h,a=>by
  simp[Go.Ab.zgj];split;rename_i s i;have⟨sl,u,r⟩:=e _ _ i;have⟨sl',o,j⟩:=h q Qak sl u;exact TRr.zgj e d l (λq b=>h q (Qai _ b)) (a.zf2 _ λx v g=>VR.ren r (d _ _ o) j g);exact TRr.zgj e d l (λq b=>h q (Qai _ b)) a
variable (hD:D.Ok P)
include hD
theorem VR.yly{cs vs}(h:VRL D ρ lv cs vs):VR D ρ lv (Go.Ab.yly D cs) (zbp vs):=by
 cases cs with
 |nil=>subst h;exact⟨[],rfl,by simp[VRL]⟩
 |cons c cs=>
  have e:=h;obtain⟨v,r,rfl,b,a⟩:=h
  cases cs with
  |nil=>subst a;exact b
  |cons d g=>
   simp[VRL]at a;simp[Go.Ab.yly,zbp,VR]
   grind
theorem Ent.zoj(d:TRr D F ρ ts σ){e:Ent D}{vs a M x}(u:VRL D ρ F.lv vs a)(h:e.fit D vs ts = .ok (M,x)) :
  MOk e.aos.length M∧∃ρ0:List Slot,ρ0.length=e.aos.length∧Agr ρ M ρ0∧(∀j sl,ρ0[j]? = some sl->∃src,fnd M j=some src∧src.is ρ sl∧∀s,src = .slot s->∃o',fnd ts.o s=some o'∧o'.live) ∧
   VRL D ρ0 F.lv (z3n D (λk=>k) e.args (HL.fst _ x)) a∧∀j o,(j,o)∈z6j D (λk=>k) e.aos 0 (HL.snd _ x)->∃sl,ρ0[j]? = some sl∧OR D ρ0 F.lv σ.H.L sl o:=by
 unfold Ent.fit at h;split at h;rename_i U y r;split at h;rename_i R z q;cases h;have⟨Q,C,B⟩:=zge hD e.args r u;have⟨b1,b2,l,O⟩:=zr0 hD d e.aos q;have g:=b2 (C ⟨λk src h=>by simp[fnd]at h,λk E s h=>by simp[fnd]at h,λk src h=>by cases h⟩);have⟨ρ0,A,i,w⟩:=yyi d g λj b=>by simpa using l j b
 refine⟨g,ρ0,A,i,λj sl b =>?_,by rw[HL.zo2];exact B ρ0 (b1.agr i),λj o G =>?_⟩;have⟨src,N,K⟩:=w j sl b;have⟨p,J,I⟩:=l j (by grind)
 simp_all
 grind[HL.zoc]
 cases h;cases h;cases h;cases h
omit hD in
theorem z05h(a:TRr D F ρ ts σ):{σ with H:=⟨F.lv,σ.H.L,F.E⟩}=σ:=by
 have e:=a.lv;have b:=a.E;have⟨t,⟨l,L,E⟩,d,g⟩:=σ
 grind
omit hD in
theorem yb0(x:TRr D F ρ ts σ){M:za9 D.T}{n}(z:MOk n M){ρ0}(g:∀j sl,ρ0[j]? = some sl->∃src,fnd M j=some src∧src.is ρ sl∧∀s,src = .slot s->∃o',fnd ts.o s=some o'∧o'.live) :
  SlOk σ.H.L ρ0:=⟨λs r sl sl' i e A a w=>by
 have⟨src,y,b,p⟩:=g s sl e;have⟨d,f1,f2,f3⟩:=g r sl' A
 cases src with
 |nil=>subst b;rcases a with h|h <;> cases h
 |slot q=>
  cases d with
  |nil=>subst f2;rcases w with h|h <;> cases h
  |slot u=>
   have⟨o,l,k⟩:=p q rfl;have⟨o',C,B⟩:=f3 u rfl;have:=x.inj q u o o' sl sl' i l C k B b f2 a w;subst this
   exact z.inj s r q y f1,λs sl i e a=>by
 have⟨src,y,b,p⟩:=g s sl e
 cases src with
 |nil=>subst b;cases a
 |slot q=>
  have⟨o,l,k⟩:=p q rfl
  exact x.fpl q o sl i l k b a⟩
omit hD in
theorem zq9(e:TRr D F ρ ts σ){M ρ0}(g:Agr ρ M ρ0):∀{d},yua D M ts d=true->yqx σ.H.L ρ0 d
 |[],_=>.nil
 |q::l,h=>by
  simp[yua]at h;split at h;rename_i s w;split at h;rename_i j x;split at h;rename_i y r;intro k hq'
  rcases Qbf.1 hq' with rfl|hq'
  have⟨sl,A,a⟩:=g _ _ w;have⟨sl',p,b⟩:=e.ob s _ x;simp[OR]at b;have⟨i,vs,b,z,o⟩:=b;have a:ρ[s]? = some sl:=a;rw[p]at a;cases a;have⟨u,u1,u2⟩:=o.get _ _ r
  grind[VR,cellAt]
  exact zq9 e g h k hq';cases h;cases h;cases h
theorem zmc{R}(q:TRr D F ρ ts σ){f vs a k kp kf}{r:R}(hv:VRL D ρ F.lv vs a):∀{tbl},(∀e∈tbl,e.Ok P)->zxj D f vs ts k kp kf tbl=some r ->
  ((∃e∈tbl,e.pure=false)∧∃(w:Out->Heap->Prop),zqp P f a σ.H w∧(∀rv H',w (.ret rv) H'->∃z b ρ',VR D ρ' F.lv z rv∧TRr D F ρ' b {σ with H:=H'}∧k z b=some r) ∧
    (∀v H',w (.pan v) H'->∃z b ρ',VR D ρ' F.lv z v∧TRr D F ρ' b {σ with H:=H'}∧kp z b=some r)) ∨
  (∃rv,zrw P f a rv∧∃z ρ' b,(∀ρ',VR D ρ' F.lv z rv)∧TRr D F ρ' b σ∧k z b=some r∧b.t=ts.t∧b.nt=ts.nt)∨∃s,kf s=some r
 |[],_,h=>by simp[zxj,z0e3]at h
 |e::tbl,u,h=>by
  have up:∀{A B:Prop},(((∃e∈tbl,e.pure=false)∧A)∨B)->((∃e'∈e::tbl,e'.pure=false)∧A)∨B:=λ{A B} h=>h.imp (λ⟨⟨e',U,h2⟩,h3⟩=>⟨⟨e',Qai _ U,h2⟩,h3⟩) λh=>h
  simp only[zxj]at h;split at h;exact up (zmc q hv (λe he=>u e (Qai _ he)) h);rename_i hf;have hf:=Qaj hf;subst hf;split at h;exact up (zmc q hv (λe he=>u e (Qai _ he)) h)
  grind
  rename_i M x h4;split at h;rename_i hc;have⟨ck,c1,c2,c3,c4⟩:=hc;have⟨Q,ρ0,d1,d2,d3,d4,d5⟩:=Ent.zoj hD q hv h4
  have hp:∀k,k<e.p->∃s,fnd M k=some (.slot s):=λk O=>by
   have:=Qat.1 c4 k (List.mem_range.2 O);split at this
   grind
   cases this
  have I:∀k s,(k,Src.slot s)∈M->fnd M k=some (.slot s):=λk s hm=>Q.one k _ hm
  have hinj:=yb0 q Q d3;have G:=u e Qak _ _ _ _ _ h
  cases g:e.pure with
  |true=>
   rw[g]at G;have⟨y,N,K,J,en,d⟩:=G;have h5:=Qao (by rw[d1,K];rfl);rw[h5]at d4;have⟨us,f1,f2⟩:=d F.lv a d4
   have Y:Left D F.lv σ.H.L ρ0 e.p σ.H.L [] e.ros (HL.snd _ y):=by
    refine⟨by rw[J];rfl,λj o hm =>?_,λs s' sl sl' i U=>by simp at U,λs sl i U=>by simp at U,λi hi _=>⟨hi,rfl⟩,λj sl hj hs =>?_,λs sl i U=>by simp at U⟩
    grind[zv6]
    grind
   have⟨Z,g2⟩:=TRr.after q hD Q d2 d3 I hp c2 Y;rw[z05h q]at Z;rw[en,yge (λk s O=>by have:=Q.lt k _ O;grind)]at N
   exact .inr (.inl ⟨_,f2,_,_,_,λρ'=>VR.yly hD (VRL.maps (ρ:=[]) (λj sl hj=>by simp at hj) hD e.outs (f1 _ _)),Z,N,rfl,rfl⟩)
  |false=>
   rw[g]at G;have C:=ztz σ.H q.lv q.E;refine .inl ⟨⟨e,Qak,g⟩,?_⟩
   rcases G with ⟨y,N,l⟩|⟨y,N,l⟩
   have W:=l F.lv σ.H.L F.E ρ0 a d1 d4 d5 hinj (zq9 q d2 ck);rw[<-C]at W;refine⟨_,W,λrv H' ⟨L',ρ',K,J,⟨en,ek⟩,X,d,e4⟩ =>?_,λv H' ⟨L',ρ',K,J,en,X,d,e4⟩=>(by cases d)⟩;injection d with d;subst K;subst d;have⟨Z,g2⟩:=TRr.after q hD Q d2 d3 I hp c2 J
   exact⟨_,_,_,VR.yly hD (VRL.maps g2 hD e.outs e4),(TRr.zcs (ρ0:=ρ0) q (λk s O=>d2 k _ O) (λs sl h=>lookup_append h) (λx v h=>h.more _) e.kc ek Z).zgj (λk s O=>(d2 k _ O).imp λsl h=>⟨h.1,lookup_append h.2⟩) g2 _ en,N⟩;have W:=l F.lv σ.H.L F.E ρ0 a d1 d4 d5 hinj (zq9 q d2 ck);rw[<-C]at W;refine⟨_,W,λrv H' ⟨L',ρ',K,J,X,d,e4⟩ =>?_,λrv H' ⟨L',ρ',K,J,X,d,e4⟩ =>?_⟩
   have⟨d,e5⟩:=yw0 (D:=D) d;subst K;subst d;rw[e5]at N;have⟨Z,g2⟩:=TRr.after q hD Q d2 d3 I hp c3 J
   grind[VR.maps]
   have⟨d,e5⟩:=ypn (D:=D) d;subst K;subst d;rw[e5]at N;have⟨Z,g2⟩:=TRr.after q hD Q d2 d3 I hp c3 J
   grind[VR.maps]
  cases h
theorem zwt{R}(w:TRr D F ρ ts σ){f vs a chk k kp}{r:R}(hv:VRL D ρ F.lv vs a):∀{tbl},(∀e∈tbl,e.Ok P∧e.pure=false)->yax D f vs ts chk k kp tbl=some r ->
  ∃(M:za9 D.T) (kc:List (Nat×Nat)) (d:Out->Heap->Prop),chk kc M=true∧(∀k s,(k,Src.slot s)∈M->∃o',fnd ts.o s=some o'∧o'.live)∧zqp P f a σ.H d ∧
   (∀out H',d out H'->H'.lv=F.lv∧∀i,i<σ.H.L.length->(∀k s sl,(k,Src.slot s)∈M->ρ[s]? = some sl->¬sl.has i)->H'.L[i]? = σ.H.L[i]?) ∧
   (∀rv H',d (.ret rv) H'->∀q∈kc,∀s sl i,fnd M q.1=some (.slot s)->ρ[s]? = some sl->sl.k=some i->cellAt H'.L[i]? q.2=cellAt σ.H.L[i]? q.2) ∧
   (∀rv H',d (.ret rv) H'->∃z A ρ',VR D ρ' F.lv z rv∧TRr D F ρ' A {σ with H:=H'}∧k z A=some r∧∀(s:Nat) (sl),ρ[s]? = some sl->ρ'[s]? = some sl) ∧
   (∀v H',d (.pan v) H'->∃z A ρ',VR D ρ' F.lv z v∧TRr D F ρ' A {σ with H:=H'}∧kp z A=some r)∧∀k s,(k,Src.slot s)∈M->fnd M k=some (.slot s)
 |[],_,h=>by simp[yax,z0a1]at h
 |e::tbl,B,h=>by
  simp only[yax]at h;split at h;exact zwt w hv (λe he=>B e (Qai _ he)) h;rename_i hf;have hf:=Qaj hf;subst hf;split at h;rename_i M x Z;split at h;rename_i hc;have⟨c0,ck,c1,c2,c3,c4⟩:=hc;have⟨X,ρ0,d1,d2,d3,d4,d5⟩:=Ent.zoj hD w hv Z
  have hp:∀k,k<e.p->∃s,fnd M k=some (.slot s):=λk Q=>by
   have:=Qat.1 c4 k (List.mem_range.2 Q);split at this
   grind
   cases this
  have u:∀k s,(k,Src.slot s)∈M->fnd M k=some (.slot s):=λk s hm=>X.one k _ hm
  have hinj:=yb0 w X d3;have⟨K,O⟩:=B e Qak;have K:=K _ _ _ _ _ h;rw[O]at K;have G:=ztz σ.H w.lv w.E
  have C:∀k s,(k,Src.slot s)∈M->∃o',fnd ts.o s=some o'∧o'.live:=λk s hm=>by
   have⟨sl,b,l⟩:=d2 k _ (u k s hm)
   grind
  have frame:∀{p:Nat}{L':List (Option yzm)}{ρ':List Slot}{os:List OSh}{y:HL D.T (z1j os)},Left D F.lv σ.H.L ρ0 p L' ρ' os y->∀i,i<σ.H.L.length->(∀k s sl,(k,Src.slot s)∈M->ρ[s]? = some sl->¬sl.has i)->L'[i]? = σ.H.L[i]? := λ{p L' ρ' os y} hl i hi N=>by
   refine(hl.out i hi λk J b l =>?_).2;have⟨src,f1,f2,f3⟩:=d3 k J b
   cases src with
   |nil=>simp[Src.is]at f2;subst f2;rcases l with h|h <;> cases h
   |slot s=>exact N k s J (z4o f1) f2 l
  rcases K with ⟨y,W,g⟩|⟨y,W,g⟩
  have U:=g F.lv σ.H.L F.E ρ0 a d1 d4 d5 hinj (zq9 w d2 ck);rw[<-G]at U;refine⟨M,_,_,c0,C,U,λout H' ⟨L',ρ',b,l,_⟩=>⟨by rw[b],λi hi N=>by rw[b];grind⟩,λrv H' ⟨L',ρ',b,l,⟨en,ek⟩,_⟩ q hq s sl i hs h1 h2 =>?_,λrv H' ⟨L',ρ',b,l,⟨en,ek⟩,I,j,Y⟩ =>?_,λv H' ⟨L',ρ',b,l,en,I,j,Y⟩=>(by cases j),u⟩
  have hq:q∈e.kc:=by
   grind[kcC]
  have⟨J,w1,w2⟩:=d2 q.1 _ hs;have w2:ρ[s]? = some J:=w2;rw[h1]at w2;cases w2;rw[b];exact ek q hq sl i w1 h2;injection j with j;subst b;subst j;have⟨g1,g2⟩:=TRr.after w hD X d2 d3 u hp c2 l
  exact⟨_,_,_,VR.yly hD (VRL.maps g2 hD e.outs Y),(TRr.zcs (ρ0:=ρ0) w (λk s Q=>d2 k _ Q) (λs sl h=>lookup_append h) (λx v h=>h.more _) e.kc ek g1).zgj (λk s Q=>(d2 k _ Q).imp λsl h=>⟨h.1,lookup_append h.2⟩) g2 _ en,W,λs sl h=>lookup_append h⟩;have U:=g F.lv σ.H.L F.E ρ0 a d1 d4 d5 hinj (zq9 w d2 ck);rw[<-G]at U
  refine⟨M,_,_,c0,C,U,λout H' ⟨L',ρ',b,l,_⟩=>⟨by rw[b],λi hi N=>by grind⟩,λrv H' ⟨L',ρ',b,l,I,j,Y⟩ q hq =>?_,λrv H' ⟨L',ρ',b,l,I,j,Y⟩ =>?_,λrv H' ⟨L',ρ',b,l,I,j,Y⟩ =>?_,u⟩
  grind[altO,kcC]
  have⟨j,e5⟩:=yw0 (D:=D) j;subst b;subst j;rw[e5]at W;have⟨g1,g2⟩:=TRr.after w hD X d2 d3 u hp c3 l
  grind[VR.maps]
  have⟨j,e5⟩:=ypn (D:=D) j;subst b;subst j;rw[e5]at W;have⟨g1,g2⟩:=TRr.after w hD X d2 d3 u hp c3 l
  grind[VR.maps]
  cases h;exact zwt w hv (λe he=>B e (Qai _ he)) h
end
section
variable {P:Program}{D:Dat}{F:Fr}{ρ:List Slot}{ts:TS D.T}{σ:St}{lv:Nat}{L:List (Option yzm)}
def yq5{R:Type}(hD:D.Ok P)(g:TRr D F ρ ts σ){t s B:Nat}{i:Int}{k:TV D.T->TS D.T->Option R}{kf:Nat->Option R}{r:R}{va:V}(h:z018 D P ts t s i B k kf=some r)(J:VR D ρ F.lv (.dp s i B) va) :
  (∃z v b ρ',zej P σ.H t va=some v∧VR D ρ' F.lv z v∧TRr D F ρ' b σ∧k z b=some r)∨∃s,kf s=some r:=by
 unfold z018 at h;split at h;rename_i ty q xs hh ho;split at h;have⟨z,v,O,N,K⟩:=zhc g (ρ':=ρ) (λf v _ _ _ e=>by cases e) h J;exact .inl ⟨z,v,ts,ρ,O,N,g,K⟩;rename_i f fs hf;split at h;have⟨b,ρ',hd,q',j,hc,cp,m,u,O,N,K,⟨W,h4,h5⟩,A,h7⟩:=yof hD g h
 have⟨z,v,Y,X,U⟩:=zhc g (ρ':=ρ') (λl v sl w E e d G x=>by
  cases e
  rw[h4]at d;cases d
  have⟨sl',b1,b2⟩:=g.ob s _ ho
  rw[h4]at b1;cases b1
  simp only[OR]at b2;have⟨c1,a⟩:=b2
  cases y:W.k with
  |none=>
   rw[y]at a;have:=a.2.1;rw[h5]at this
   rcases this with q|q <;> cases q
  |some j'=>
   rw[y]at a;have⟨C,hb,fps,d1,d2,_⟩:=a
   rw[h5]at d1;injection d1 with _ Q g2 _ g3 _
   subst Q;subst g2
   rw[K]at d2;injection d2 with d2;injection d2 with d2;injection d2 with _ _ _ d2 _
   subst d2;rw[G]at A;replace A:w.cells[f]? = some u:=A
   rw[x]at A;cases A
   exact h7) O J
 exact .inl ⟨z,v,b,ρ',Y,X,N,U⟩;rename_i p;have⟨n,l,c⟩:=p;split at h;rename_i o;have o:l=f:=Qaj o;subst o;have⟨_,I,h⟩:=z3f h
 have h8:n=i:=by
  unfold zmb at I;split at I;rename_i e;exact e;cases I
 subst h8
 have⟨z,v,Y,X,U⟩:=zhc g (ρ':=ρ) (λf2 v sl w E e d G x=>by
  cases e;have⟨sl',b1,b2⟩:=g.ob s _ ho
  rw[d]at b1;cases b1
  simp only[OR]at b2;have⟨c1,a⟩:=b2
  cases y:sl.k with
  |none=>rw[y]at a;cases a.2.2.2
  |some j'=>
   rw[y]at a;have⟨C,hb,fps,d1,d2,d3,d4,d5,d6,d7⟩:=a;have h9:=(d7 _ _ _ rfl).2;have⟨vs,cs,Q,g2,g3,g4,g5⟩:=d6 n.toNat _ w _ (Qab h9) G (Qab (show n.toNat<fps.length by omega));subst Q;replace x:vs[l]? = some E:=x;have he:=(Qaa.1 x).1;have⟨p,hp,_⟩:=HL.zn7 (D.fl q) (D.get q xs[n.toNat]) l (by omega)
   have:=g5 l p E _ hp x (Qab (show l<cs.length by omega));rw[show z4j (some (n,l,c)) n.toNat l=some c by simp[z4j]]at this;have⟨_,_,a3,Z,a4,a5⟩:=this;simp only[VR]
   exact⟨Z,a4,a5,a3⟩) h J
 exact .inl ⟨z,v,ts,ρ,Y,X,g,U⟩;exact .inr ⟨s,h⟩;cases h
def VR.plk(hD:D.Ok P){x v}(h:VR D ρ lv x v)(b:x.pl=true)(Dm):V.kin Dm v∧∀ρ' a,VR D ρ' a x v:=by
 cases x <;> simp[TV.pl,Bool.false_eq_true]at b
 case sl t xs d=>
  simp only[VR]at h ⊢;exact⟨h.1.kin hD Dm,λ_ _=>h⟩
 all_goals (subst h;exact⟨by simp[V.kin],λ_ _=>rfl⟩)
def VRL.plk(hD:D.Ok P):∀{xs vs},VRL D ρ lv xs vs->xs.all TV.pl=true->∀(Dm),V.ze2 Dm vs∧∀ρ' a,VRL D ρ' a xs vs
 |[],vs,h,_,Dm=>by subst h;exact⟨by simp[V.ze2],λ_ _=>rfl⟩
 |x::xs,vs,h,b,Dm=>by
  obtain⟨v,r,rfl,e,d⟩:=h;simp only[List.all_cons,Qag]at b;have⟨i,g⟩:=e.plk hD b.1 Dm;have⟨b1,b2⟩:=VRL.plk hD d b.2 Dm;exact⟨by exact⟨i,b1⟩,λρ' a=>⟨v,r,rfl,g _ _,b2 _ _⟩⟩
def z0d2(hD:D.Ok P)(p:TRr D F ρ ts σ){s v}(h:VR D ρ F.lv (.own s) v):∃u,VS σ.H (λ_ _=>False) v u∧∀ρ' A,VR D ρ' A (TV.see D ts (.own s)) u:=by
 have I:=ztz σ.H p.lv p.E;obtain⟨sl,J,rfl,Q⟩:=h;unfold TV.see;split;rename_i ty t xs w y;obtain⟨sl',b1,b2⟩:=p.ob s _ y;rw[J]at b1;cases b1;simp only[OR]at b2;obtain⟨x,r,o⟩:=b2;have N:DR D (.sl t) xs (.sl (D.len t) sl.ws false):=.sl t xs sl.ws false x r
 cases B:sl.k with
 |none=>
  rw[B]at o
  rcases o with ⟨e,j⟩|⟨⟨e,_⟩,_⟩
  rw[e];have:=Qao (by rw[<-x,j];rfl);subst this;exact⟨.nils,.keep _ (by simp[V.kin]),λ_ _=>by simp only[VR];exact⟨.nil t,by omega,by omega⟩⟩;rw[e];have l:DR D (.sl t) xs (.sl (D.len t) sl.ws true):=.sl t xs sl.ws true x r
  exact⟨_,.keep _ (l.kin hD _),λ_ _=>by grind[VR]⟩
 |some i=>
  rw[B]at o;obtain⟨z,K,e,j⟩:=o;rw[e];refine⟨.sl (D.len t) sl.ws false,?_,λ_ _=>by grind[VR]⟩;rw[I];refine .hs _ i z ty (D.len t) 0 _ false sl.ws sl.ws K rfl ?_ rfl (λn w u d g =>?_) λn w u c a b d g G C =>?_
  show(if F.lv=F.lv then (σ.H.L[i]?).join else _)=_
  grind
  rw[Nat.zero_add,g]at d;cases d;rfl
  rw[Nat.zero_add,g]at d;injection d with d;subst d
  rw[G]at C;cases C;have O:=(Qaa.1 g).1;exact .keep _ (zco (zuz ((r n _ u (Qab (show n<xs.length by omega)) g).kin hD _)) c a G)
 rename_i ty q xs y;obtain⟨sl',b1,b2⟩:=p.ob s _ y;rw[J]at b1;cases b1;obtain⟨u,e,j⟩:=(ys3 b2).see (E:=F.E) hD;rw[<-I]at j;exact⟨u,j,λ_ _=>by grind[VR]⟩;exact⟨.any,.any _,λ_ _=>by simp[VR]⟩
mutual
def z058(hD:D.Ok P)(l:TRr D F ρ ts σ):∀{x:TV D.T}{v:V},VR D ρ F.lv x v->∃u,VS σ.H (λ_ _=>False) v u∧∀ρ' d,VR D ρ' d (TV.see D ts x) u
 |.own s,v,h=>z0d2 hD l h
 |.agg cs,v,h=>by
  simp only[VR]at h;obtain⟨vs,rfl,h⟩:=h;have⟨j,e,i⟩:=y77 hD l h
  exact⟨.agg j,.agg _ _ e.length e.get,λρ' d=>by simp only[TV.see,VR];exact⟨j,rfl,i _ _⟩⟩
 |.fn f a b,v,h=>by
  unfold TV.see;split;rename_i g;simp only[Qag]at g;simp only[VR]at h;obtain⟨o,bs,rfl,e,i⟩:=h;have⟨q,p⟩:=e.plk hD g.1 (λ_ _=>False);have⟨b1,b2⟩:=i.plk hD g.2 (λ_ _=>False);exact⟨_,.keep _ (by simp only[V.kin];exact⟨q,b1⟩),λ_ _=>by simp only[VR];exact⟨o,bs,rfl,p _ _,b2 _ _⟩⟩
  exact⟨.any,.any _,λ_ _=>by simp only[VR]⟩
 |.sl t xs r,v,h=>by
  simp only[VR]at h
  exact⟨v,.keep _ (h.1.kin hD _),λ_ _=>by simp only[TV.see,VR];exact⟨h.1,by omega,by omega⟩⟩
 |.bool b,v,h=>⟨v,.keep _ (h.plk hD rfl _).1,λ_ _=>by simpa only[TV.see]using(h.plk hD rfl (λ_ _=>False)).2 _ _⟩
 |.int k n,v,h=>⟨v,.keep _ (h.plk hD rfl _).1,λ_ _=>by simpa only[TV.see]using(h.plk hD rfl (λ_ _=>False)).2 _ _⟩
 |.str b,v,h=>⟨v,.keep _ (h.plk hD rfl _).1,λ_ _=>by simpa only[TV.see]using(h.plk hD rfl (λ_ _=>False)).2 _ _⟩
 |.nilp,v,h=>⟨v,.keep _ (h.plk hD rfl _).1,λ_ _=>by simpa only[TV.see]using(h.plk hD rfl (λ_ _=>False)).2 _ _⟩
 |.nils,v,h=>⟨v,.keep _ (h.plk hD rfl _).1,λ_ _=>by simpa only[TV.see]using(h.plk hD rfl (λ_ _=>False)).2 _ _⟩
 |.mapn,v,h=>⟨v,.keep _ (h.plk hD rfl _).1,λ_ _=>by simpa only[TV.see]using(h.plk hD rfl (λ_ _=>False)).2 _ _⟩
 |.nilf,v,h=>⟨v,.keep _ (h.plk hD rfl _).1,λ_ _=>by simpa only[TV.see]using(h.plk hD rfl (λ_ _=>False)).2 _ _⟩
 |.nili,v,h=>⟨v,.keep _ (h.plk hD rfl _).1,λ_ _=>by simpa only[TV.see]using(h.plk hD rfl (λ_ _=>False)).2 _ _⟩
 |.any,v,h=>⟨.any,.any _,λ_ _=>by simp only[TV.see,VR]⟩
 |.osl _ _,v,h=>⟨.any,.any _,λ_ _=>by simp only[TV.see,VR]⟩
 |.ptr _ _,v,h=>⟨.any,.any _,λ_ _=>by simp only[TV.see,VR]⟩
 |.bp _ _,v,h=>⟨.any,.any _,λ_ _=>by simp only[TV.see,VR]⟩
 |.ref _ _,v,h=>⟨.any,.any _,λ_ _=>by simp only[TV.see,VR]⟩
 |.ap _ _ _ _ _,v,h=>⟨.any,.any _,λ_ _=>by simp only[TV.see,VR]⟩
 |.map _,v,h=>⟨.any,.any _,λ_ _=>by simp only[TV.see,VR]⟩
 |.mc _ _,v,h=>⟨.any,.any _,λ_ _=>by simp only[TV.see,VR]⟩
 |.iface _ _,v,h=>⟨.any,.any _,λ_ _=>by simp only[TV.see,VR]⟩
 |.tup _,v,h=>⟨.any,.any _,λ_ _=>by simp only[TV.see,VR]⟩
 |.dp _ _ _,v,h=>⟨.any,.any _,λ_ _=>by simp only[TV.see,VR]⟩
 |.bsl _ _,v,h=>⟨.any,.any _,λ_ _=>by simp only[TV.see,VR]⟩
def y77(hD:D.Ok P)(d:TRr D F ρ ts σ):∀{xs:List (TV D.T)}{vs:List V},VRL D ρ F.lv xs vs->∃a,VSL σ.H (λ_ _=>False) vs a∧∀ρ' b,VRL D ρ' b (TV.seeL D ts xs) a
 |[],vs,h=>by
  simp only[VRL]at h;subst h
  exact⟨[],.nil,λ_ _=>by simp only[TV.seeL,VRL]⟩
 |x::xs,vs,h=>by
  simp only[VRL]at h;obtain⟨v,r,rfl,g,e⟩:=h;have⟨u,j,i⟩:=z058 hD d g;have⟨a,b1,b2⟩:=y77 hD d e;exact⟨u::a,.cons j b1,λρ' b=>by simp only[TV.seeL,VRL];exact⟨u,a,rfl,i _ _,b2 _ _⟩⟩
end
def z0c5{t}(h:t.flat=true){x v}(a:VR D ρ lv (D.tv t x) v):VFl v:=by
 cases t <;> simp[DTy.flat,Bool.false_eq_true]at h
 simp[Dat.tv,VR]at a;subst a;exact .bool _;simp[Dat.tv,VR]at a;subst a;exact .int _ _;subst a;exact .str _
def yws:∀(l) {y vs},l.all Sh.z0af=true->VRL D ρ lv (z3n D (λk=>k) l y) vs->∀v∈vs,VFl v
 |[],y,vs,_,h,v,hm=>by
  subst h;cases hm
 |sh::l,y,vs,a,h,v,hm=>by
  simp only[List.all_cons,Qag]at a;obtain⟨u,r,rfl,b,e⟩:=h
  rcases Qbf.1 hm with rfl|hm
  ·cases sh <;> simp[Sh.z0af,Bool.false_eq_true]at a <;> first|exact a.1.elim|skip
   case d t=>
    replace b:=b;exact z0c5 a.1 b
  exact yws l a.2 e v hm
def z096{vs}(h:∀v∈vs,VFl v):VFl (zbp vs):=by
 unfold zbp;split
 grind
 exact .tup _ λj v a=>h v (Qax a)
def zw1{R}(hD:D.Ok P)(i:TRr D F ρ ts σ){f vs b k q}{r:R}(j:VRL D ρ F.lv vs b):∀{tbl},(∀e∈tbl,e.Ok P)->tBor D f vs ts k q tbl=some r ->
  (∃rv z,y4u P f b σ.H rv σ.H∧VR D ρ F.lv z rv∧k z ts=some r)∨q=some r
 |[],_,h=>.inr h
 |e::tbl,a,h=>by
  simp[tBor]at h;split at h;rename_i s;simp only[Qag]at s;have⟨⟨o,G⟩,E⟩:=s;have o:=Qaj o;subst o;split at h;rename_i w g;have⟨M,x⟩:=w;have d:=a e Qak _ _ _ _ _ h;rw[G]at d;have⟨y,A,C,N,K,B⟩:=d;have⟨u,J,I⟩:=y77 hD i j;have⟨_,ρ0,d1,d2,d3,d4,d5⟩:=Ent.zoj hD i (I ρ F.lv) g
  have p:=Qao (by rw[d1,C];rfl);rw[p]at d4;have⟨ws,f1,f2⟩:=B F.lv u d4;refine .inl ⟨zbp ws,_,yts f2 J (z096 (yws e.outs E (f1 [] F.lv))),VR.yly hD (f1 _ _),A⟩;exact zw1 hD i j (λe l=>a e (Qai _ l)) h;exact zw1 hD i j (λe l=>a e (Qai _ l)) h
end
end Go.Ab
