/-
  slices.Sort OF STRINGS ON A SLICE OF OURS, out of a y0q of the kit's kind.
-/
import Derived.Test.YtomdnlaakelghaaGreatLib7
import Derived.Shelf.Sort.Plain
import Derived.Sort.Walk0
import Derived.Laws.AppendOwn
namespace Go.Ab
open Go Go.RowKit Go.Sort Go.Proofs
set_option linter.unusedVariables false
set_option linter.unusedSimpArgs false
def z71 (ss:List (List UInt8)):List (List UInt8):=ss.mergeSort λx y=>decide (x<=y)
theorem zsj (ss:List (List UInt8)):(z71 ss).Perm ss:=List.mergeSort_perm _ _
theorem yyj {P:Program} {f ty:Nat} (hent:∀args W,(callFunc f args).run P W = .ok (.enter f args) W)
  (hcon:∀(blk cap:Nat) (ss:List (List UInt8)) (w:World),Holds encStr w blk 0 ss.toArray->blk<w.heap.size->ss.length<4611686018427387904 ->
   Calls P f #[.slice (some ⟨blk,0,none⟩) ss.length cap] w λe w'=>e = .returned (.tuple #[])∧∃n os,w'=grow (putRow encStr (Sort.ahead w n) blk 0 (ss.mergeSort λx y=>decide (x<=y)).toArray) os)
  {lv k ver n:Nat} {L:List (Option zz7)} {E:Nat->Nat->Option zz7} {xs:List (List UInt8)} {cp:Option Nat} (hL:L[k]? = some (some (.arr ver ty 1 (xs.map V.str) cp))) (hlen:xs.length<4611686018427387904) (hn:n=xs.length) :
  y5i P f [.hs lv k ver 0 n false] ⟨lv,L,E⟩ λo H'=>o = .ret (.tup [])∧H'=⟨lv,L.set k (some (.arr ver ty 1 ((z71 xs).map V.str) cp)),E⟩:=by
 intro W g cargs hG hR;have hg:(⟨lv,L,E⟩:kz3).get lv k=some (.arr ver ty 1 (xs.map V.str) cp):=by simp [kz3.get,hL]
 obtain ⟨x,rfl,h0⟩:∃x,cargs = #[x]∧Rel W g ⟨lv,L,E⟩ (.hs lv k ver 0 n false) x:=by
  obtain ⟨h1,h2⟩:=hR;have hsz:cargs.toList.length=1:=by simpa using h1
  obtain ⟨c,hc⟩:=List.length_eq_one_iff.1 hsz;have hc':cargs = #[c]:=by rw [<-Array.toList_inj,hc]
  subst hc';exact ⟨c,rfl,by simpa using h2 0 _ rfl⟩
 refine ⟨hent _ _,?_⟩
 cases h0 with
 |hs _ _ _ _ _ _ a m cap hd hv ha=>
  obtain ⟨rfl,rfl,⟨a1,a2,_⟩,a3⟩:=ha _ _ _ _ hg;obtain ⟨cur,k1,k2,k3,k3',k4,k5,k6,k7,k8⟩:=hG.obj _ _ _ hg;rw [List.length_map] at k4
  have hH:Holds encStr W (g.ab lv k) 0 xs.toArray:=λj hj=>by
   have hj':j<xs.length:=by simpa using hj
   have e1:(xs.map V.str)[j]? = some (.str xs[j]):=by rw [Qan,Qab hj'];rfl
   have e2:=k8 j _ 0 (.str xs[j]) e1 rfl;have hlt:j<cur.size:=by rw [k3];omega
   refine ⟨?_,by simp [World.frozen?,k1]⟩;rw [getElem!_pos xs.toArray j hj]
   cases e2h:cur.getD (j * 1+0) undef with
   |string s=>
    rw [e2h] at e2;cases e2;rw [Qae] at e2h;rw [show j * 1+0=j by omega,Qas hlt] at e2h;simp only [Option.getD_some] at e2h
    simp [World.cell?,k1,hlt,e2h,encStr]
   |_=>rw [e2h] at e2;cases e2
  have hb:g.ab lv k<W.heap.size:=(Qbk.1 k1).1;have hc:=hcon (g.ab lv k) cap xs W hH hb hlen;have hsp:=zsj xs;have hsl:(z71 xs).length=xs.length:=hsp.length_eq;subst hn;refine hc.mono ?_
  rintro e W' ⟨rfl,nn,os,rfl⟩
  have hheap:(grow (putRow encStr (Sort.ahead W nn) (g.ab lv k) 0 (z71 xs).toArray) os).heap=W.heap.modify (g.ab lv k) (onCells (Go.Sort.putCells encStr 0 (z71 xs).toArray))++os:=rfl
  have hW':(grow (putRow encStr (Sort.ahead W nn) (g.ab lv k) 0 (z71 xs).toArray) os).heap[g.ab lv k]? = some (.cells (Go.Sort.putCells encStr 0 (z71 xs).toArray cur) ty (0,0)):=by
   rw [hheap,Array.getElem?_append_left (by simpa using hb),Array.getElem?_modify,Qbt rfl,k1];rfl
  have hcur:∀j (hj:j<(z71 xs).length),(Go.Sort.putCells encStr 0 (z71 xs).toArray cur).getD (j * 1+0) undef = .string ⟨((z71 xs)[j]).toArray⟩:=λj hj=>by
   have hlt2:j * 1+0<cur.size:=by rw [k3];omega
   rw [Qae,Go.Sort.putCells,Array.getElem?_mapIdx,Qas hlt2];simp only [Qbn,Option.getD_some,Nat.sub_zero];rw [Qbt ⟨Qbr _,by simp;omega⟩,getElem!_pos (z71 xs).toArray _ (by simp;omega)];simp [encStr]
  have hys:∀(j:Nat) (x:V),((z71 xs).map V.str)[j]? = some x->∃hj:j<(z71 xs).length,x = .str (z71 xs)[j]:=λj x hj=>by
   rw [Qan,Qaf] at hj;obtain ⟨y,hy,rfl⟩:=hj;obtain ⟨h1,h2⟩:=Qaa.1 hy;exact ⟨h1,by rw [h2]⟩
  obtain ⟨q1,q2⟩:=ziq (W':=grow (putRow encStr (Sort.ahead W nn) (g.ab lv k) 0 (z71 xs).toArray) os) hG (o':=.arr ver ty 1 ((z71 xs).map V.str) cp) hg rfl rfl rfl rfl (by rw [hheap];simp) (λb hb1 hb2=>by
    rw [hheap,Array.getElem?_append_left (by simpa using hb1),Array.getElem?_modify,Qbu (λh=>hb2 h.symm)])
   (λver ty sz zs cp' he=>by injection he with e1 e2 e3 e4 e5;subst e1;subst e2;subst e3;subst e4;exact ⟨_,_,_,rfl,Qbs _,λ_=>by simp [hsl]⟩) (λhst=>by
   refine ⟨_,hW',by decide,by rw [Go.Sort.putCells,Array.size_mapIdx];exact k3,k3',by rw [List.length_map,hsl];exact k4,k5,λj x hj => ?_,λj x t v hj htv => ?_,λj x t v hj htv => ?_⟩
   · obtain ⟨_,rfl⟩:=hys j x hj;rfl
   · obtain ⟨hj',rfl⟩:=hys j x hj
     have ht:t=0:=by
      cases t with
      |zero=>rfl
      |succ t=>simp [V.cells] at htv
     subst ht;rw [hcur j hj'];rfl
   · obtain ⟨hj',rfl⟩:=hys j x hj
     have ht:t=0:=by
      cases t with
      |zero=>rfl
      |succ t=>simp [V.cells] at htv
     subst ht;simp [V.cells] at htv;subst htv;rw [hcur j hj']
     exact .str _)
  refine ⟨.ret (.tup []),_,g,⟨rfl,rfl⟩,?_,?_,_,rfl,.tup [] #[] rfl (by simp)⟩
  · have:=q1;simp only [kz3.set,Qbt] at this;exact this
  · have:=q2;simp only [kz3.set,Qbt] at this;exact this
def ysh (D:Dat) (f ty:Nat) (go:Nat->List (List UInt8)->Option (List (List UInt8))):FI D :=
 {R:=List (List UInt8),ent:=λn=>{f:=f,p:=0,args:=[.own 0],aos:=[.acc ty .str true],outs:=[],ros:=[.acc ty .str true],pan:=.nilp,pos:=[.acc ty .str true],pure:=false,go:=λx k _=>(go n x.1).bind λr=>k (r,()),ren:=[(0,0)]},
   c:=.skip,K:=⟨λ_=>none,[],λ_=>none,λ_ _=>none⟩,p:=0,args:=[],aos:=[],nt:=0,zk9:=λ_=>[],go:=λ_ _=>none}
theorem z036 {D:Dat} {xs:List (List UInt8)} {ws:List V} (hl:ws.length=xs.length) (h:∀(j:Nat) (x:List UInt8) (v:V),xs[j]? = some x->ws[j]? = some v->DR D .str x v):ws=xs.map V.str:=by
 refine List.ext_getElem? λj => ?_
 rw [Qan]
 cases hx:xs[j]? with
 |none=>
  rw [List.getElem?_eq_none_iff] at hx;simp only [Option.map_none]
  rw [List.getElem?_eq_none_iff];omega
 |some x=>
  have hlt:=(Qaa.1 hx).1;have hw:ws[j]? = some ws[j]:=Qab (by omega);have:=h j x _ hx hw;rw [hw]
  cases hv:ws[j] with
  |str s=>rw [hv] at this;cases this;rfl
  |_=>rw [hv] at this;cases this
theorem yxw {P:Program} {D:Dat} {f ty:Nat} (hent:∀args W,(callFunc f args).run P W = .ok (.enter f args) W)
  (hcon:∀(blk cap:Nat) (ss:List (List UInt8)) (w:World),Holds encStr w blk 0 ss.toArray->blk<w.heap.size->ss.length<4611686018427387904 ->
   Calls P f #[.slice (some ⟨blk,0,none⟩) ss.length cap] w λe w'=>e = .returned (.tuple #[])∧∃n os,w'=grow (putRow encStr (Sort.ahead w n) blk 0 (ss.mergeSort λx y=>decide (x<=y)).toArray) os)
  (hnone:∀(p:Option Addr) (cap:Nat) (w:World),Calls P f #[.slice p 0 cap] w λe w'=>e = .returned (.tuple #[])∧w'=w)
  (xs:List (List UInt8)) (hlen:xs.length<4611686018427387904) (go:Nat->List (List UInt8)->Option (List (List UInt8))) (n:Nat):((ysh D f ty go).ent n).Flat P ((xs,()):HL D.T [.sl .str]) (.inl ((z71 xs,()):HL D.T [.sl .str])):=λlv L E ρ0 vargs k1 k2 k3 k4=>by
 have k1:ρ0.length=1:=k1;obtain ⟨sl,rfl⟩:=List.length_eq_one_iff.1 k1;have k2:VRL D [sl] lv [.own 0] vargs:=k2;simp only [VRL,VR] at k2;obtain ⟨v,rr,rfl,⟨sl',e1,e2,e3⟩,rfl⟩:=k2;obtain rfl:sl=sl':=by simpa using e1
 subst e2;obtain ⟨sl',e4,e5⟩:=k3 0 (.acc ty .str xs true) (Qak);obtain rfl:sl=sl':=by simpa using e4
 simp only [OR] at e5;obtain ⟨o1,o2,o3⟩:=e5;have o1:sl.ws.length=xs.length:=o1;have o2:∀(j:Nat) (x:List UInt8) (v:V),xs[j]? = some x->sl.ws[j]? = some v->DR D .str x v:=o2;have hws:=z036 o1 o2;have hsl:(z71 xs).length=xs.length:=(zsj xs).length_eq
 have left:∀(L':List (Option zz7)) (sl':Slot),sl'.v=sl.v->sl'.k=sl.k->sl'.fp=[]->sl'.ws=(z71 xs).map V.str->(∀i,(∀j,sl.k=some j->j≠i)->L'[i]? = L[i]?)->L'.length=L.length ->
   (match sl'.k with
   |none=>(sl'.v = .nils∧sl'.ws=[])∨((sl'.v = .sl (D.len .str) sl'.ws true∧DTy.str ≠ .int .u8)∧(True->sl'.ws=[]))
   |some i=>∃ver cp,sl'.v = .hs lv i ver 0 sl'.ws.length false∧L'[i]? = some (some (.arr ver ty (D.len .str) sl'.ws cp))) ->
   Left D lv L [sl] 0 L' [sl'] [.acc ty .str true] ((z71 xs,()):HL D.T [.sl .str])∧(∀q∈[((0:Nat),(0:Nat))],∀s0,[sl][q.1]? = some s0->∃s1,[sl'][q.2]? = some s1∧s1.v=s0.v):=λL' sl' a1 a2 a0 a3 a4 a5 a6=>by
  refine ⟨⟨rfl,λj o hm => ?_,λs s' t t' i r1 r2 _ _ => ?_,λs t i r1 c1 => ?_,λi hi hno => ?_,λj t hj=>absurd hj (Nat.not_lt_zero _),λs t i r1 c1 => ?_⟩,λq hq s0 hs0 => ?_⟩
  ·have hm:(j,o)∈[(0,(TO.acc ty .str (z71 xs) true:TO D.T))]:=hm;simp only [Qbc,Qbv] at hm;obtain ⟨rfl,rfl⟩:=hm;refine ⟨sl',rfl,?_⟩;simp only [OR];refine ⟨by rw [a3];exact List.length_map _,λj y v hy hv => ?_,a6⟩;have hy:(z71 xs)[j]? = some y:=hy;rw [a3,Qan,hy] at hv;injection hv with hv;subst hv;exact .str _
  ·have l1:=(Qaa.1 r1).1;have l2:=(Qaa.1 r2).1;simp at l1 l2;omega
  ·have l1:=(Qaa.1 r1).1;have:s=0:=by simp at l1;omega
   subst this;obtain rfl:sl'=t:=by simpa using r1
   exact .inr ⟨0,sl,rfl,.inl (by rw [<-a2];exact Slot.y6a a0 c1)⟩
  ·refine ⟨by rw [a5];exact hi,a4 i λj hj hji=>hno 0 sl rfl (.inl (by rw [hj,hji]))⟩
  ·have l1:=(Qaa.1 r1).1;have:s=0:=by simp at l1;omega
   subst this;obtain rfl:sl'=t:=by simpa using r1
   rw [a0] at c1;cases c1
  ·simp only [Qbc] at hq;subst hq;obtain rfl:sl=s0:=by simpa using hs0
   exact ⟨sl',rfl,a1⟩
 have nothing:xs=[]->(∀W g cargs,zql W g ⟨lv,L,E⟩ [sl.v] cargs->∃p cap,cargs = #[.slice p 0 cap])->y5i P f [sl.v] ⟨lv,L,E⟩ λout H'=>∃L' ρ',H'=⟨lv,L',E⟩∧(Left D lv L [sl] 0 L' ρ' [.acc ty .str true] ((z71 xs,()):HL D.T [.sl .str])∧(∀q∈[((0:Nat),(0:Nat))],∀s0,[sl][q.1]? = some s0->∃s1,ρ'[q.2]? = some s1∧s1.v=s0.v)∧∃vs,out = .ret (zhc vs)∧VRL D ρ' lv [] vs):=λhx hc W g cargs hG hR=>by
  obtain ⟨p,cap,rfl⟩:=hc W g cargs hR;refine ⟨hent _ _,(hnone p cap W).mono ?_⟩
  rintro e W' ⟨rfl,rfl⟩
  have hs:z71 xs=[]:=Qao (by rw [hsl,hx];rfl);obtain ⟨l1,l2⟩:=left L ⟨sl.v,sl.k,sl.ws,[]⟩ rfl rfl rfl (by show sl.ws=_;rw [hs,hws,hx]) (λ_ _=>rfl) rfl o3;exact ⟨.ret (.tup []),⟨lv,L,E⟩,g,⟨L,[⟨sl.v,sl.k,sl.ws,[]⟩],rfl,l1,l2,[],rfl,(by simp only [VRL]:VRL D [⟨sl.v,sl.k,sl.ws,[]⟩] lv [] [])⟩,.refl _ _ _,hG,_,rfl,.tup [] #[] rfl (by simp)⟩
 have one:∀{W:World} {g:Gh} {cargs:Array Value},zql W g ⟨lv,L,E⟩ [sl.v] cargs->∃c,cargs = #[c]∧Rel W g ⟨lv,L,E⟩ sl.v c:=λ{W g cargs} hR=>by
  obtain ⟨h1,h2⟩:=hR;have hsz:cargs.toList.length=1:=by simpa using h1
  obtain ⟨c,hc⟩:=List.length_eq_one_iff.1 hsz;have hc':cargs = #[c]:=by rw [<-Array.toList_inj,hc]
  subst hc';exact ⟨c,rfl,by simpa using h2 0 _ rfl⟩
 cases hk:sl.k with
 |none=>
  rw [hk] at o3
  rcases o3 with ⟨v1,v2⟩|⟨v1,v2⟩
  · refine nothing (by rw [hws] at v2;simpa using v2) λW g cargs hR => ?_
    obtain ⟨c,rfl,hc⟩:=one hR;rw [v1] at hc;cases hc;exact ⟨_,_,rfl⟩
  · have v3:=v2 trivial;refine nothing (by rw [hws] at v3;simpa using v3) λW g cargs hR => ?_
    obtain ⟨c,rfl,hc⟩:=one hR;rw [v1.1,v3] at hc
    cases hc with
    |slnil=>exact ⟨_,_,rfl⟩
    |sle _ _ a cap hf=>exact ⟨_,_,rfl⟩
    |sl _ _ _ b o cap c=>exact ⟨_,_,rfl⟩
 |some i=>
  rw [hk] at o3;obtain ⟨ver,cp,v1,v2⟩:=o3;have hi:=(Qaa.1 v2).1;rw [hws] at v2;have hh:=yyj (P:=P) (f:=f) (ty:=ty) hent hcon (lv:=lv) (E:=E) (n:=sl.ws.length) v2 hlen (by rw [hws];simp);rw [<-v1] at hh;refine hh.mono λo H' ⟨e1,e2⟩ => ?_
  subst e1;subst e2
  obtain ⟨l1,l2⟩:=left (L.set i (some (.arr ver ty 1 ((z71 xs).map V.str) cp))) ⟨sl.v,sl.k,(z71 xs).map V.str,[]⟩ rfl rfl rfl rfl (λj hj=>Qam (hj i hk)) (by simp) (by
   simp only [hk]
   exact ⟨ver,cp,by rw [v1,hws];simp [hsl],by simp [hi,Dat.len]⟩)
  exact ⟨_,[⟨sl.v,sl.k,(z71 xs).map V.str,[]⟩],rfl,l1,l2,[],rfl,(by simp only [VRL]:VRL D [⟨sl.v,sl.k,(z71 xs).map V.str,[]⟩] lv [] [])⟩
theorem z030 {P:Program} {D:Dat} {f ty:Nat} (hent:∀args W,(callFunc f args).run P W = .ok (.enter f args) W)
  (hcon:∀(blk cap:Nat) (ss:List (List UInt8)) (w:World),Holds encStr w blk 0 ss.toArray->blk<w.heap.size->ss.length<4611686018427387904 ->
   Calls P f #[.slice (some ⟨blk,0,none⟩) ss.length cap] w λe w'=>e = .returned (.tuple #[])∧∃n os,w'=grow (putRow encStr (Sort.ahead w n) blk 0 (ss.mergeSort λx y=>decide (x<=y)).toArray) os)
  (hnone:∀(p:Option Addr) (cap:Nat) (w:World),Calls P f #[.slice p 0 cap] w λe w'=>e = .returned (.tuple #[])∧w'=w) :
  FOk P (ysh D f ty λ_ xs=>if xs.length<4611686018427387904 then some (z71 xs) else none):=λn R x k kp r h=>by
 have h:((if x.1.length<4611686018427387904 then some (z71 x.1) else none).bind λr=>k (r,()))=some r:=h;obtain ⟨r0,h1,h2⟩:=y2a h;split at h1
 ·rename_i hlen;injection h1 with h1;subst h1;exact .inl ⟨(z71 x.1,()),h2,yxw hent hcon hnone x.1 hlen _ n⟩
 ·cases h1
end Go.Ab
namespace Go.Ab
open Go
set_option linter.unusedVariables false
set_option linter.unusedSimpArgs false
theorem zuc:∀a:List UInt8,Op.bytesLess a a=false
 |[]=>rfl
 |x::a=>by simp [Op.bytesLess,zuc a]
theorem y0p:∀{a b c:List UInt8},Op.bytesLess a b=true->Op.bytesLess b c=true->Op.bytesLess a c=true
 |_,[],_,h,_=>by simp [Op.bytesLess] at h
 |_,_::_,[],_,h=>by simp [Op.bytesLess] at h
 |[],_::_,_::_,_,_=>by simp [Op.bytesLess]
 |x::a,y::b,z::c,h1,h2=>by
  simp only [Op.bytesLess,Bool.or_eq_true,Qar,Qag,Qbj] at h1 h2 ⊢
  rcases h1 with h1|⟨rfl,h1⟩
  · rcases h2 with h2|⟨rfl,h2⟩
    · exact .inl (by rw [UInt8.lt_iff_toNat_lt] at *;omega)
    · exact .inl h1
  · rcases h2 with h2|⟨rfl,h2⟩
    · exact .inl h2
    · exact .inr ⟨rfl,y0p h1 h2⟩
theorem y0f:∀{a b:List UInt8},Op.bytesLess a b=false->Op.bytesLess b a=false->a=b
 |[],[],_,_=>rfl
 |[],_::_,h,_=>by simp [Op.bytesLess] at h
 |_::_,[],_,h=>by simp [Op.bytesLess] at h
 |x::a,y::b,h1,h2=>by
  simp only [Op.bytesLess,Bool.or_eq_false_iff,decide_eq_false_iff_not,Bool.and_eq_false_iff,beq_eq_false_iff_ne] at h1 h2;have hxy:x=y:=UInt8.toNat_inj.1 (by have:=h1.1;have:=h2.1;simp only [UInt8.lt_iff_toNat_lt] at *;omega);subst hxy
  have e1:Op.bytesLess a b=false:=by rcases h1.2 with h|h;exact absurd rfl h;exact h
  have e2:Op.bytesLess b a=false:=by rcases h2.2 with h|h;exact absurd rfl h;exact h
  rw [y0f e1 e2]
theorem yrw {a b:List UInt8} (h:Op.bytesLess a b=true):Op.bytesLess b a=false:=by
 cases h2:Op.bytesLess b a
 ·rfl
 ·have:=y0p h h2;rw [zuc] at this;cases this
theorem yvw {a b c:List UInt8} (h1:Op.bytesLess a b=false) (h2:Op.bytesLess b c=false):Op.bytesLess a c=false:=by
 cases h:Op.bytesLess a c
 ·rfl
 ·cases h3:Op.bytesLess b a
  ·rw [y0f h1 h3] at h;rw [h] at h2;cases h2
  ·rw [y0p h3 h] at h2;cases h2
theorem yvd (x y:List UInt8):decide (x<=y) = !Op.bytesLess y x:=by
 rw [Go.Proofs.bytesLess_eq];by_cases h:y<x
 ·have:¬x<=y:=List.not_le.2 h;simp [h,this]
 ·have:x<=y:=List.not_lt.1 h;simp [h,this]
def zkn (l:List (List UInt8)):Prop:=l.Pairwise λx y=>Op.bytesLess x y=true
theorem zve:∀{l m:List (List UInt8)},zkn l->zkn m->(∀x,x∈l↔x∈m)->l=m
 |[],[],_,_,_=>rfl
 |[],y::m,_,_,h=>by have:=(h y).2 Qak;cases this
 |x::l,[],_,_,h=>by have:=(h x).1 Qak;cases this
 |x::l,y::m,h1,h2,h=>by
  have a1:=List.pairwise_cons.1 h1;have a2:=List.pairwise_cons.1 h2
  have hxy:x=y:=by
   rcases Qbi.1 ((h x).1 Qak) with e|e
   · exact e
   · rcases Qbi.1 ((h y).2 Qak) with e'|e'
     · exact e'.symm
     · have b1:=a2.1 x e;have b2:=a1.1 y e';rw [yrw b1] at b2;cases b2
  subst hxy;refine congrArg (x :: ·) (zve a1.2 a2.2 λz=>⟨λhz => ?_,λhz => ?_⟩)
  · rcases Qbi.1 ((h z).1 (Qai _ hz)) with e|e
    · subst e;have:=a1.1 z hz;rw [zuc] at this;cases this
    · exact e
  · rcases Qbi.1 ((h z).2 (Qai _ hz)) with e|e
    · subst e;have:=a2.1 z hz;rw [zuc] at this;cases this
    · exact e
theorem yjl {l:List (List UInt8)} (h:l.Nodup):zkn (z71 l):=by
 have hp:(z71 l).Pairwise λx y=>decide (x<=y)=true:=List.pairwise_mergeSort (λa b c h1 h2=>by
  rw [yvd,Bool.not_eq_true'] at *
  exact yvw h2 h1) (λa b=>by
  rw [yvd,yvd];cases h:Op.bytesLess b a
  ·rfl
  ·rw [yrw h];rfl) l
 have hn:(z71 l).Nodup:=(zsj l).nodup_iff.2 h;unfold zkn;refine List.Pairwise.imp₂ (R:=λx y=>decide (x<=y)=true) (S:=(· ≠ ·)) (λx y h1 h2 => ?_) hp hn;rw [yvd,Bool.not_eq_true'] at h1;cases h3:Op.bytesLess x y
 ·exact (h2 (y0f h3 h1)).elim
 ·rfl
def ins:List (List UInt8)->List UInt8->List (List UInt8)
 |[],s=>[s]
 |x::l,s=>if Op.bytesLess x s then x::ins l s else if x=s then x::l else s::x::l
theorem y6d (s:List UInt8):∀(l:List (List UInt8)) (z:List UInt8),z∈ins l s↔z∈l∨z=s
 |[],z=>by simp [ins]
 |x::l,z=>by
  rw [ins];split
  · rw [Qbi,Qbi,y6d s l z,or_assoc]
  · split
    · rename_i h;subst h;constructor
      · exact .inl
      · rintro (h|rfl)
        · exact h
        · exact Qak
    · rw [Qbi,or_comm]
theorem zw3 {s:List UInt8}:∀{l:List (List UInt8)},zkn l->zkn (ins l s)
 |[],_=>by simp [ins,zkn]
 |x::l,h=>by
  have a:=List.pairwise_cons.1 h;rw [ins];split
  · rename_i hx;refine List.pairwise_cons.2 ⟨λz hz => ?_,zw3 a.2⟩
    rcases (y6d s l z).1 hz with hz|rfl
    · exact a.1 z hz
    · exact hx
  · split
    · exact h
    · rename_i h1 h2;have h1:Op.bytesLess x s=false:=by simpa using h1
      have hs:Op.bytesLess s x=true:=by
       cases h3:Op.bytesLess s x
       · exact (h2 (y0f h1 h3)).elim
       · rfl
      refine List.pairwise_cons.2 ⟨λz hz => ?_,h⟩
      rcases Qbi.1 hz with rfl|hz
      · exact hs
      · exact y0p hs (a.1 z hz)
theorem zya (s:List UInt8):∀l:List (List UInt8),(ins l s).length<=l.length+1
 |[]=>by simp [ins]
 |x::l=>by
  have:=zya s l;rw [ins];split
  · simp;omega
  · split <;> simp
theorem z02a (s:List UInt8):∀l:List (List UInt8),ins l s=if (l.dropWhile (λx=>Op.bytesLess x s)).head?=some s then l else l.takeWhile (λx=>Op.bytesLess x s)++s::l.dropWhile (λx=>Op.bytesLess x s)
 |[]=>by simp [ins]
 |x::l=>by
  rw [ins];cases h:Op.bytesLess x s
  · rw [List.dropWhile_cons_of_neg (by simp [h]),List.takeWhile_cons_of_neg (by simp [h])];by_cases hx:x=s
    · simp [hx]
    · simp [hx]
  · rw [List.dropWhile_cons_of_pos (by simp [h]),List.takeWhile_cons_of_pos (by simp [h]),Qbt rfl,z02a s l];split <;> rfl
end Go.Ab
namespace Go.Ab
open Go Go.RowKit
set_option linter.unusedVariables false
set_option linter.unusedSimpArgs false
theorem ydk {W W':World} (h:Below W.heap.size W W'):Grow W W':=⟨h.os,h.tape,h.output,h.size,h.block⟩
def yvv (W:World) (g:Gh) (H:kz3) (sz:Nat) (ws:List V) (cells:List Value):Prop :=
 cells.length=ws.length * sz∧∀(j:Nat) (x:V) (t:Nat) (v:V),ws[j]? = some x->x.cells[t]? = some v->∃c,cells[j * sz+t]? = some c∧c.oneCell'=true∧Rel W g H v c
theorem z03r {W:World} {g:Gh} {H:kz3} {v:V} {cargs:Array Value} (hR:zql W g H [v] cargs):∃c,cargs = #[c]∧Rel W g H v c:=by
 obtain ⟨h1,h2⟩:=hR;have hsz:cargs.toList.length=1:=by simpa using h1
 obtain ⟨c,hc⟩:=List.length_eq_one_iff.1 hsz;have hc':cargs = #[c]:=by rw [<-Array.toList_inj,hc]
 subst hc';exact ⟨c,rfl,by simpa using h2 0 _ rfl⟩
theorem ywg {P:Program} {f:Nat} {vargs:List V} {ty sz:Nat} {ws:List V} (hsz:0<sz) (hws:∀(j:Nat) (x:V),ws[j]? = some x->x.cells.length=sz)
  (hent:∀args W,(callFunc f args).run P W = .ok (.enter f args) W)
  (hcon:∀H W g cargs,Good W g H->zql W g H vargs cargs->∃cells,yvv W g H sz ws cells ∧
   Calls P f cargs W λe W'=>∃v',e = .returned v'∧W'.ownsRow W.heap.size ty sz v' ws.length cells∧Below W.heap.size W W') :
  ya5 P f vargs (.sl sz ws false):=λH W g cargs hG hA=>by
 obtain ⟨cells,⟨c1,c2⟩,hc⟩:=hcon H W g cargs hG hA;refine .inl ⟨hent _ _,hc.mono ?_⟩
 rintro e W' ⟨v',rfl,⟨r0,hrow⟩,hb⟩
 have hgr:=ydk hb;refine ⟨v',g,rfl,hgr.step,hG.grow hgr,?_⟩
 rcases hrow with ⟨rfl,hn⟩|⟨gb,cap,cur,rfl,hbase,hgb,hn,hcap,hcs,htk⟩
 ·obtain rfl:=Qao hn;exact .slnil _ _
 ·have hlt:gb<W'.heap.size:=(Qbk.1 hgb).1
  have at_:∀(j:Nat) (x:V) (t:Nat) (v:V),ws[j]? = some x->x.cells[t]? = some v->∃c,cur[j * sz+t]? = some c∧c.oneCell'=true∧Rel W g H v c:=λj x t v hj ht=>by
   obtain ⟨c,h1,h2,h3⟩:=c2 j x t v hj ht;refine ⟨c,?_,h2,h3⟩;rw [<-htk] at h1;rw [Qaw] at h1;split at h1
   ·rw [Qbg] at h1;exact h1
   ·cases h1
  have get:∀(j:Nat) (x:V) (t:Nat) (v:V),ws[j]? = some x->x.cells[t]? = some v->cur[j * sz+t]? = some (cur.getD (j * sz+t) undef)∧(cur.getD (j * sz+t) undef).oneCell'=true∧Rel W g H v (cur.getD (j * sz+t) undef):=λj x t v hj ht=>by
   obtain ⟨c,h1,h2,h3⟩:=at_ j x t v hj ht;rw [Qae,h1];exact ⟨rfl,h2,h3⟩
  refine .sl sz ws false gb 0 cap (λj t=>cur.getD (j * sz+t) undef) ?_ hsz hn (λh=>by cases h) hws (λj x t v hj ht => ?_) (λj x t v hj ht=>(get j x t v hj ht).2.1) λj x t v hj ht=>(get j x t v hj ht).2.2.mono hgr.step
  ·rintro ⟨l,i,o,h,h2⟩
   have:=hG.lt l i o h;omega
  ·rw [Nat.zero_add,<-(get j x t v hj ht).1];simp only [World.cell?,hgb];rfl
def ypr (D:Dat) (f:Nat) (τ:DTy) (go:Nat->List (τ.S D.T)->Option (List (τ.S D.T))):FI D :=
 {R:=List (τ.S D.T),ent:=λn=>{f:=f,p:=0,args:=[.d (.sl τ)],aos:=[],outs:=[.d (.sl τ)],ros:=[],pan:=.nilp,pos:=[],pure:=true,go:=λx k _=>(go n x.1).bind λr=>k (r,())},
   c:=.skip,K:=⟨λ_=>none,[],λ_=>none,λ_ _=>none⟩,p:=0,args:=[],aos:=[],nt:=0,zk9:=λ_=>[],go:=λ_ _=>none}
theorem ywp {P:Program} {D:Dat} (hD:D.Ok P) {f ty bytes:Nat} {τ:DTy} (hpos:0<D.len τ) (hbyt:bytes<=524288) (hent:∀args W,(callFunc f args).run P W = .ok (.enter f args) W)
  (hcon:∀(a:Addr) (n c:Nat) (cells:List Value) (w:World),cells.length=n * D.len τ->(∀j u,cells[j]? = some u->w.cell? (a.add j)=some u)->(∀u∈cells,u.oneCell'=true)->n<=maxLen->n * bytes<=140737488355328 ->
   Calls P f #[.slice (some a) n c] w λe w'=>∃v',e = .returned v'∧w'.ownsRow w.heap.size ty (D.len τ) v' n cells∧Below w.heap.size w w')
  (hnone:∀(w:World),Calls P f #[.slice none 0 0] w λe w'=>e = .returned (.slice none 0 0)∧w'=w) :
  FOk P (ypr D f τ λ_ xs=>if xs.length<=8388608 then some xs else none):=λn R x k kp r h=>by
 have h:((if x.1.length<=8388608 then some x.1 else none).bind λr=>k (r,()))=some r:=h;obtain ⟨r0,h1,h2⟩:=y2a h;split at h1
 case isFalse=>cases h1
 rename_i hlen;injection h1 with h1;subst h1;obtain ⟨xs,u⟩:=x;change List (τ.S D.T) at xs;refine ⟨(xs,()),h2,rfl,rfl,rfl,λlv vargs k2 => ?_⟩;have k2:VRL D [] lv [.sl τ xs 0] vargs:=k2;simp only [VRL,VR] at k2;obtain ⟨v,rr,rfl,⟨hv,_,_⟩,rfl⟩:=k2;have hlen:xs.length<=8388608:=hlen
 have hw:∃ws:List V,ws.length=xs.length∧(∀(j:Nat) (y:τ.S D.T) (u:V),xs[j]? = some y->ws[j]? = some u->DR D τ y u)∧(∀(j:Nat) (u:V),ws[j]? = some u->u.cells.length=D.len τ)∧((v = .nils∧ws=[])∨∃full,v = .sl (D.len τ) ws full):=by
  have hv':DR D (.sl τ) xs v:=hv;clear hv hlen
  cases hv' with
  |nil=>exact ⟨[],rfl,λj y u hj=>by simp at hj,λj u hj=>by simp at hj,.inl ⟨rfl,rfl⟩⟩
  |sl _ _ ws full hl hd=>
   refine ⟨ws,hl,hd,λj u hj => ?_,.inr ⟨full,rfl⟩⟩;have hlt:=(Qaa.1 hj).1;exact (hd j _ u (Qab (by omega)) hj).cells hD
 obtain ⟨ws,w1,w2,w3,w4⟩:=hw;have hlen':ws.length<=8388608:=by rw [w1];exact hlen
 have hml:ws.length<=maxLen:=by simp only [maxLen];omega
 have hby:ws.length * bytes<=140737488355328:=Nat.le_trans (Nat.mul_le_mul hlen' hbyt) (by decide);refine ⟨[.sl (D.len τ) ws false],λρ lv' => ?_,?_⟩
 ·show VRL D ρ lv' [TV.sl τ xs 0] _;simp only [VRL,VR];exact ⟨_,_,rfl,⟨.sl _ _ _ _ w1 w2,(λh=>absurd h (by decide)),(λh=>absurd h (by decide))⟩,rfl⟩
 refine ywg (ty:=ty) hpos w3 hent λH W g cargs hG hA=>by
  obtain ⟨c,rfl,hc⟩:=z03r hA
  have empty:ws=[]->∃cells,yvv W g H (D.len τ) ws cells∧∀(a:Option Addr) (cap:Nat),(a=none->cap=0)->Calls P f #[.slice a 0 cap] W λe W'=>∃v',e = .returned v'∧W'.ownsRow W.heap.size ty (D.len τ) v' ws.length cells∧Below W.heap.size W W':=λhe=>by
   subst he;refine ⟨[],⟨by simp,λj y t u hj=>by simp at hj⟩,λa cap ha => ?_⟩
   cases a with
   |none=>
    obtain rfl:=ha rfl;refine (hnone W).mono ?_
    rintro e W' ⟨rfl,rfl⟩
    exact ⟨_,rfl,⟨by simp,.inl ⟨rfl,rfl⟩⟩,.refl _ _⟩
   |some a=>exact hcon a 0 cap [] W (by simp) (by simp) (by simp) (Qbr _) (by simp)
  rcases w4 with ⟨rfl,he⟩|⟨full,rfl⟩
  ·obtain ⟨cells,e1,e2⟩:=empty he;cases hc;exact ⟨cells,e1,e2 none 0 λ_=>rfl⟩
  ·cases hc with
   |slnil=>obtain ⟨cells,e1,e2⟩:=empty rfl;exact ⟨cells,e1,e2 none 0 λ_=>rfl⟩
   |sle _ _ a cap hf=>obtain ⟨cells,e1,e2⟩:=empty rfl;exact ⟨cells,e1,e2 (some a) cap λh=>by cases h⟩
   |sl _ _ _ b o cap c hb hz hcap hf hs hcell ho1 hr=>
    have get:∀q,q<ws.length * D.len τ->∃(j t:Nat) (y u:V),ws[j]? = some y∧y.cells[t]? = some u∧q=j * D.len τ+t∧t<D.len τ:=λq hq=>by
     have hj:q / D.len τ<ws.length:=Nat.div_lt_of_lt_mul (by rw [Nat.mul_comm];exact hq);have ht:q % D.len τ<D.len τ:=Nat.mod_lt _ hpos;have hy:=Qab hj;have hcl:=w3 _ _ hy;have hu:=Qab (l:=(ws[q / D.len τ]).cells) (i:=q % D.len τ) (by rw [hcl];exact ht);exact ⟨q / D.len τ,q % D.len τ,_,_,hy,hu,by rw [Nat.mul_comm];exact (Nat.div_add_mod q (D.len τ)).symm,ht⟩
    have cellq:∀q,q<ws.length * D.len τ->∃u,W.cell? ⟨b,o+q,none⟩=some u∧u.oneCell'=true:=λq hq=>by
     obtain ⟨j,t,y,u,h1,h2,h3,_⟩:=get q hq;exact ⟨_,by rw [h3,<-Nat.add_assoc];exact hcell j y t u h1 h2,ho1 j y t u h1 h2⟩
    let cells:List Value:=(List.range (ws.length * D.len τ)).map λq=>(W.cell? ⟨b,o+q,none⟩).getD undef
    have hcl:cells.length=ws.length * D.len τ:=by simp [cells]
    have hce:∀q u,cells[q]? = some u->W.cell? ⟨b,o+q,none⟩=some u∧u.oneCell'=true:=λq u hq=>by
     have hlt:q<ws.length * D.len τ:=by rw [<-hcl];exact (Qaa.1 hq).1
     obtain ⟨w,e1,e2⟩:=cellq q hlt;have:cells[q]? = some w:=by simp [cells,hlt,e1]
     rw [hq] at this;injection this with this;subst this
     exact ⟨e1,e2⟩
    refine ⟨cells,⟨hcl,λj y t u hj ht => ?_⟩,hcon ⟨b,o,none⟩ ws.length cap cells W hcl (λq u hq => ?_) (λu hu => ?_) hml hby⟩
    · have e:=hcell j y t u hj ht;have hjl:=(Qaa.1 hj).1;have htl:t<D.len τ:=by rw [<-w3 j y hj];exact (Qaa.1 ht).1
      have hlt:j * D.len τ+t<ws.length * D.len τ:=by
       have:(j+1) * D.len τ<=ws.length * D.len τ:=Qau _ hjl;rw [Nat.add_mul] at this;omega
      refine ⟨c j t,by simp [cells,hlt,<-Nat.add_assoc,e],ho1 j y t u hj ht,hr j y t u hj ht⟩
    · have e:(⟨b,o,none⟩:Addr).add q=⟨b,o+q,none⟩:=by simp [Addr.add]
      rw [e];exact (hce q u hq).1
    · obtain ⟨q,hq⟩:=List.mem_iff_getElem?.1 hu;exact (hce q u hq).2
def yk3 (P:Program) (f sz:Nat):Prop:=∀(blk cap i j n:Nat) (cur:Array Value) (ty:TypeId) (w:World),w.heap[blk]? = some (.cells cur ty (0,0))->n<=cap->cap * sz<=cur.size->cap<=9223372036854775807->i<j->j<=n ->
 (∀t,t<n * sz->(cur.getD t undef).oneCell'=true)->Calls P f #[.slice (some ⟨blk,0,none⟩) n cap,.int .i64 i,.int .i64 j] w λe w'=>e = .returned (.slice (some ⟨blk,0,none⟩) (n-(j-i)) cap) ∧
  w'.os=w.os∧w'.tape=w.tape∧w'.output=w.output∧w'.heap.size=w.heap.size∧(∀b,b≠blk->w'.heap[b]? = w.heap[b]?) ∧
  ∃cur':Array Value,w'.heap[blk]? = some (.cells cur' ty (0,0))∧cur'.size=cur.size∧(∀t,t<i * sz->cur'[t]? = cur[t]?)∧∀t,t<(n-j) * sz->cur'[i * sz+t]? = cur[j * sz+t]?
theorem zs9 {α:Type} (l:List α) (i j t:Nat) (hij:i<=j) (x:α) (h:(l.take i++l.drop j)[t]? = some x):(t<i∧l[t]? = some x)∨(i<=t∧i<=l.length∧l[j+(t-i)]? = some x):=by
 rw [Qbd] at h;simp only [Qay] at h;split at h
 ·rename_i ht;rw [Qaw] at h;split at h
  ·exact .inl ⟨‹_›,h⟩
  ·cases h
 ·rename_i ht;rw [Qbe] at h;by_cases hl:i<=l.length
  ·rw [show min i l.length=i by omega] at h;exact .inr ⟨by omega,hl,h⟩
  ·have:=(Qaa.1 h).1;omega
theorem z00e {P:Program} {f sz ty:Nat} (hsz:0<sz) (hent:∀args W,(callFunc f args).run P W = .ok (.enter f args) W) (hcon:yk3 P f sz)
  {lv k ver n i j:Nat} {L:List (Option zz7)} {E:Nat->Nat->Option zz7} {ws:List V} {cp:Option Nat} (hL:L[k]? = some (some (.arr ver ty sz ws cp))) (hn:n=ws.length) (hij:i<j) (hj:j<=n) :
  y5i P f [.hs lv k ver 0 n false,.int .i64 i,.int .i64 j] ⟨lv,L,E⟩ λo H'=>o = .ret (.hs lv k (ver+1) 0 (n-(j-i)) false)∧H'=⟨lv,L.set k (some (.arr (ver+1) ty sz (ws.take i++ws.drop j) none)),E⟩:=by
 intro W g cargs hG hR;have hg:(⟨lv,L,E⟩:kz3).get lv k=some (.arr ver ty sz ws cp):=by simp [kz3.get,hL]
 obtain ⟨x,rfl,h0⟩:∃x,cargs = #[x,.int .i64 i,.int .i64 j]∧Rel W g ⟨lv,L,E⟩ (.hs lv k ver 0 n false) x:=by
  obtain ⟨h1,h2⟩:=hR;have h2a:=h2 0 _ rfl;have h2b:=h2 1 _ rfl;have h2c:=h2 2 _ rfl;obtain ⟨l⟩:=cargs
  match l,h1 with
  |[a,b,c],_=>
   have e1:Rel W g ⟨lv,L,E⟩ (.int .i64 i) b:=h2b;have e2:Rel W g ⟨lv,L,E⟩ (.int .i64 j) c:=h2c;cases e1;cases e2;exact ⟨a,rfl,h2a⟩
 refine ⟨hent _ _,?_⟩
 cases h0 with
 |hs _ _ _ _ _ _ a m cap hd hv ha=>
  obtain ⟨rfl,rfl,⟨a1,a2,_⟩,a3⟩:=ha _ _ _ _ hg;obtain ⟨cur,k1,k2,k3,k3',k4,k5,k6,k7,k8⟩:=hG.obj _ _ _ hg;rw [Nat.zero_mul];have hcap:cap * sz<=cur.size:=by rw [k3];exact Qau _ (by omega)
  have hb:g.ab lv k<W.heap.size:=(Qbk.1 k1).1
  have hcm:cap<=9223372036854775807:=by
   have:maxLen<=9223372036854775807:=by decide
   omega
  refine (hcon (g.ab lv k) cap i j m cur ty W k1 a1 hcap hcm hij hj (λt ht => ?_)).mono ?_
  · have hq:t / sz<ws.length:=by rw [<-hn];exact (Nat.div_lt_iff_lt_mul hsz).2 ht
    have hx:ws[t / sz]? = some (ws[t / sz]'hq):=Qab hq;have hl:=k6 _ _ hx;have hr:t % sz<(ws[t / sz]'hq).cells.length:=by rw [hl];exact Nat.mod_lt _ hsz
    have:=k7 _ _ (t % sz) _ hx (Qab hr);rw [show t / sz * sz+t % sz=t from Nat.div_add_mod' t sz] at this;exact this
  rintro e W' ⟨rfl,w1,w2,w3,w4,w5,cur',w6,w7,w8,w9⟩
  have get1:∀t,t<i * sz->cur'.getD t undef=cur.getD t undef:=λt ht=>by rw [Qae,Qae,w8 t ht]
  have zw8:∀t,t<(m-j) * sz->cur'.getD (i * sz+t) undef=cur.getD (j * sz+t) undef:=λt ht=>by rw [Qae,Qae,w9 t ht]
  have place:∀(t:Nat) (x:V) (u:Nat),(ws.take i++ws.drop j)[t]? = some x->u<sz->∃t',ws[t']? = some x∧cur'.getD (t * sz+u) undef=cur.getD (t' * sz+u) undef:=λt x u ht hu=>by
   rcases zs9 ws i j t (by omega) x ht with ⟨h1,h2⟩|⟨h1,h2,h3⟩
   · refine ⟨t,h2,get1 _ ?_⟩
     calc t * sz+u<t * sz+sz:=by omega
      _=(t+1) * sz:=by rw [Nat.succ_mul]
      _<=i * sz:=Qau _ h1
   · refine ⟨_,h3,?_⟩;have hlt:=(Qaa.1 h3).1
     have:=zw8 ((t-i) * sz+u) (by
      calc (t-i) * sz+u<(t-i) * sz+sz:=by omega
       _=(t-i+1) * sz:=by rw [Nat.succ_mul]
       _<=(m-j) * sz:=Qau _ (by omega))
     rw [show i * sz+((t-i) * sz+u)=t * sz+u by rw [<-Nat.add_assoc,<-Nat.add_mul];congr 2;omega,show j * sz+((t-i) * sz+u)=(j+(t-i)) * sz+u by rw [<-Nat.add_assoc,<-Nat.add_mul]] at this;exact this
  have hlen:(ws.take i++ws.drop j).length=m-(j-i):=by simp;omega
  obtain ⟨q1,q2⟩:=ziq (W':=W') hG (o':=.arr (ver+1) ty sz (ws.take i++ws.drop j) none) hg rfl w1 w2 w3 (by omega) (λb hb1 hb2=>w5 b hb2)
   (λver' ty' sz' zs cp' he=>by injection he with e1 e2 e3 e4 e5;subst e1;subst e2;subst e3;subst e4;exact ⟨_,_,_,rfl,by omega,λe=>by omega⟩) (λhst=>by
   refine ⟨cur',w6,hsz,by rw [w7];exact k3,k3',by rw [hlen];omega,λn hn=>by (cases hn),λt x ht => ?_,λt x u v ht hu => ?_,λt x u v ht hu => ?_⟩
   · rcases zs9 ws i j t (by omega) x ht with ⟨h1,h2⟩|⟨h1,h2,h3⟩
     · exact k6 _ _ h2
     · exact k6 _ _ h3
   · have hxl:x.cells.length=sz:=by
      rcases zs9 ws i j t (by omega) x ht with ⟨h1,h2⟩|⟨h1,h2,h3⟩
      · exact k6 _ _ h2
      · exact k6 _ _ h3
     have hul:=(Qaa.1 hu).1;obtain ⟨t',e1,e2⟩:=place t x u ht (by omega);rw [e2];exact k7 t' x u v e1 hu
   · have hxl:x.cells.length=sz:=by
      rcases zs9 ws i j t (by omega) x ht with ⟨h1,h2⟩|⟨h1,h2,h3⟩
      · exact k6 _ _ h2
      · exact k6 _ _ h3
     have hul:=(Qaa.1 hu).1;obtain ⟨t',e1,e2⟩:=place t x u ht (by omega)
     rw [e2];exact (k8 t' x u v e1 hu).mono hst)
  have hset:(⟨lv,L,E⟩:kz3).set lv k (.arr (ver+1) ty sz (ws.take i++ws.drop j) none)=⟨lv,L.set k (some (.arr (ver+1) ty sz (ws.take i++ws.drop j) none)),E⟩:=by simp only [kz3.set,Qbt]
  rw [hset] at q1 q2;have hlt:=(Qaa.1 hL).1;refine ⟨.ret (.hs lv k (ver+1) 0 (m-(j-i)) false),_,g,⟨rfl,rfl⟩,q1,q2,_,rfl,?_⟩;refine .hs _ _ _ _ _ _ _ _ _ hd (λv' ty' sz' xs' cp' hg' => ?_) λty' sz' xs' cp' hg' => ?_
  · simp [kz3.get,hlt] at hg';omega
  · simp only [kz3.get,if_true,Qaq hlt,Option.join_some,Qbq,zz7.arr.injEq] at hg';obtain ⟨_,_,rfl,rfl,rfl⟩:=hg';exact ⟨by rw [Nat.zero_mul],rfl,⟨by omega,by omega,λh=>by cases h⟩,by rw [hlen];omega⟩
def yyv (D:Dat) (f ty q:Nat) (go:Nat->List (D.T q)->Int->Int->Option (List (D.T q))):FI D :=
 {R:=List (D.T q),ent:=λn=>{f:=f,p:=0,args:=[.own 0,.d (.int .i64),.d (.int .i64)],aos:=[.deep ty q],outs:=[.own 0],ros:=[.deep ty q],pan:=.nilp,pos:=[.deep ty q],pure:=false,go:=λx k _=>(go n x.2.2.1 x.1 x.2.1).bind λr=>k (r,())},
   c:=.skip,K:=⟨λ_=>none,[],λ_=>none,λ_ _=>none⟩,p:=0,args:=[],aos:=[],nt:=0,zk9:=λ_=>[],go:=λ_ _=>none}
theorem z00w {P:Program} {D:Dat} {f ty q:Nat} (hsz:0<D.len (.st q)) (hent:∀args W,(callFunc f args).run P W = .ok (.enter f args) W) (hcon:yk3 P f (D.len (.st q)))
  (xs:List (D.T q)) (i j:Nat) (hij:i<j) (hj:j<=xs.length) (go:Nat->List (D.T q)->Int->Int->Option (List (D.T q))) (n:Nat) :
  ((yyv D f ty q go).ent n).Flat P (((i:Int),((j:Int),(xs,()))):HL D.T [.int .i64,.int .i64,.sl (.st q)]) (.inl ((xs.take i++xs.drop j,()):HL D.T [.sl (.st q)])):=λlv L E ρ0 vargs k1 k2 k3 k4=>by
 have k1:ρ0.length=1:=k1;obtain ⟨sl,rfl⟩:=List.length_eq_one_iff.1 k1;have k2:VRL D [sl] lv [.own 0,.int .i64 i,.int .i64 j] vargs:=k2;simp only [VRL,VR] at k2;obtain ⟨v,rr,rfl,⟨sl',e1,e2,e3⟩,v1,r1,rfl,rfl,v2,r2,rfl,rfl,rfl⟩:=k2;obtain rfl:sl=sl':=by simpa using e1
 subst e2;obtain ⟨sl',e4,e5⟩:=k3 0 (.deep ty q xs none) (Qak);obtain rfl:sl=sl':=by simpa using e4
 simp only [OR] at e5;obtain ⟨o1,o3⟩:=e5
 cases hk:sl.k with
 |none=>rw [hk] at o3;rw [o3.1] at hj;simp at hj;omega
 |some a=>
 rw [hk] at o3;obtain ⟨ver,cp,fps,q1,q2,q3,q4,q5,q6,q7⟩:=o3;have hh:=z00e (P:=P) (f:=f) (ty:=ty) hsz hent hcon (lv:=lv) (E:=E) (n:=sl.ws.length) (i:=i) (j:=j) q2 rfl hij (by rw [o1];exact hj);rw [<-q1] at hh;refine hh.mono λo H' ⟨e1,e2⟩ => ?_
 subst e1;subst e2;have hal:=(Qaa.1 q2).1
 have hperm:sl.fp.Perm (((fps.drop i).take (j-i)).flatten++(fps.take i++fps.drop j).flatten):=by
  rw [q4]
  have:fps=fps.take i++((fps.drop i).take (j-i)++fps.drop j):=by
   conv=>lhs;rw [<-List.take_append_drop i fps]
   congr 1
   conv=>lhs;rw [<-List.take_append_drop (j-i) (fps.drop i)]
   rw [List.drop_drop];congr 2;omega
  conv=>lhs;rw [this]
  rw [List.flatten_append,List.flatten_append,List.flatten_append,<-Qaz,<-Qaz];exact List.perm_append_comm.append_right _
 have hin:∀x,x∈(fps.take i++fps.drop j).flatten->x∈sl.fp:=λx h=>hperm.mem_iff.2 (List.mem_append_right _ h)
 have hnd:=(List.nodup_append.1 (hperm.nodup_iff.1 q5)).2.1;have hfpa:∀x∈sl.fp,x≠a:=λx hx e=>(k4.2 0 sl x rfl hx).1 (by rw [hk,e])
 let ws':=sl.ws.take i++sl.ws.drop j
 let L':=L.set a (some (zz7.arr (ver+1) ty (D.len (.st q)) ws' none))
 let sl':Slot:=⟨.hs lv a (ver+1) 0 (sl.ws.length-(j-i)) false,some a,ws',(fps.take i++fps.drop j).flatten⟩
 have hwl:ws'.length=sl.ws.length-(j-i):=by simp [ws'];omega
 have hL':∀x∈sl.fp,L'[x]? = L[x]? := λx hx=>Qam (λe=>hfpa x hx e.symm)
 have hhas:∀x,sl'.has x->sl.has x:=λx h=>h.elim (λh=>.inl (by rw [hk];exact h)) λh=>.inr (hin x h)
 refine ⟨L',[sl'],rfl,⟨rfl,λb o hm => ?_,λs s' t t' x r1 r2 _ _ => ?_,λs t x r1 c1 => ?_,λx hx hno => ?_,λb t hb=>absurd hb (Nat.not_lt_zero _),λs t x r1 c1 => ?_⟩,λp hp=>(by cases hp),[.hs lv a (ver+1) 0 (sl.ws.length-(j-i)) false],rfl,?_⟩
 ·have hm:(b,o)∈[(0,(TO.deep ty q (xs.take i++xs.drop j) none:TO D.T))]:=hm;simp only [Qbc,Qbv] at hm;obtain ⟨rfl,rfl⟩:=hm;refine ⟨sl',rfl,?_⟩;simp only [OR];refine ⟨by simp [sl',ws',o1],ver+1,none,fps.take i++fps.drop j,by rw [hwl],by simp [L',hal,sl'],by simp [q3],rfl,hnd,λm x w c h1 h2 h3 => ?_,λ_ _ _ h=>by cases h⟩
  have key:∃m':Nat,xs[m']? = some x∧sl.ws[m']? = some w∧fps[m']? = some c:=by
   rcases zs9 xs i j m (by omega) x h1 with ⟨a1,a2⟩|⟨a1,a1',a2⟩ <;> rcases zs9 sl.ws i j m (by omega) w h2 with ⟨b1,b2⟩|⟨b1,b1',b2⟩ <;> rcases zs9 fps i j m (by omega) c h3 with ⟨c1,c2⟩|⟨c1,c1',c2⟩ <;> first|omega|exact ⟨_,a2,b2,c2⟩
  obtain ⟨m',h1,h2,h3⟩:=key;have:=EO.mono (L:=L) (L':=L') [] (q6 m' x w c h1 h2 h3) λy hy=>hL' y (by rw [q4];exact List.mem_flatten.2 ⟨c,Qax h3,hy⟩)
  obtain ⟨vs,cs,d1,d2,d3,d4,d5⟩:=this;exact ⟨vs,cs,d1,d2,d3,d4,λf' p u b r1 r2 r3=>d5 f' p u b r1 r2 r3⟩
 ·have l1:=(Qaa.1 r1).1;have l2:=(Qaa.1 r2).1;simp at l1 l2;omega
 ·have l1:=(Qaa.1 r1).1;have:s=0:=by simp at l1;omega
  subst this;obtain rfl:sl'=t:=by simpa using r1
  exact .inr ⟨0,sl,rfl,hhas x c1⟩
 ·refine ⟨by simp [L'];exact hx,Qam λe=>hno 0 sl rfl (.inl (by rw [hk,e]))⟩
 ·have l1:=(Qaa.1 r1).1;have:s=0:=by simp at l1;omega
  subst this;obtain rfl:sl'=t:=by simpa using r1
  have:=k4.2 0 sl x rfl (hin x c1);exact ⟨by rw [hk] at this;exact this.1,by rw [hL' x (hin x c1)];exact this.2⟩
 ·show VRL D [sl'] lv [.own 0] _;simp only [VRL,VR];exact ⟨_,[],rfl,⟨sl',rfl,rfl,rfl⟩,rfl⟩
def yiv {α:Type} (xs:List α) (i j:Int):Option (List α):=if 0<=i∧i<j∧j<=xs.length then some (xs.take i.toNat++xs.drop j.toNat) else none
theorem z04j {P:Program} {D:Dat} {f ty q:Nat} (hsz:0<D.len (.st q)) (hent:∀args W,(callFunc f args).run P W = .ok (.enter f args) W) (hcon:yk3 P f (D.len (.st q))):FOk P (yyv D f ty q λ_ xs i j=>yiv xs i j):=λn R x k kp r h=>by
 obtain ⟨i,j,xs,u⟩:=x;have h:((yiv xs i j).bind λr=>k (r,()))=some r:=h;obtain ⟨r0,h1,h2⟩:=y2a h;unfold yiv at h1;split at h1
 ·rename_i hc;injection h1 with h1;subst h1;obtain ⟨i',rfl⟩:∃i':Nat,(i:Int)=(i':Int):=⟨Int.toNat i,(Int.toNat_of_nonneg hc.1).symm⟩;have hc2:=hc.2.1;obtain ⟨j',rfl⟩:∃j':Nat,(j:Int)=(j':Int):=⟨Int.toNat j,(Int.toNat_of_nonneg (Int.le_trans hc.1 (Int.le_of_lt hc.2.1))).symm⟩;rw [Qbm,Qbm] at h2
  exact .inl ⟨(xs.take i'++xs.drop j',()),h2,z00w hsz hent hcon xs i' j' (Int.ofNat_lt.1 hc.2.1) (Int.ofNat_le.1 hc.2.2) _ n⟩
 ·cases h1
end Go.Ab
