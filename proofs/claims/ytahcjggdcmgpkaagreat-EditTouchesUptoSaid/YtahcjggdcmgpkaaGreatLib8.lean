/-
  slices.Sort OF STRINGS ON A SLICE OF OURS, out of a y3f of the kit's kind.
-/
import Derived.Test.YtahcjggdcmgpkaaGreatLib7
import Derived.Shelf.Sort.Plain
import Derived.Sort.Walk0
import Derived.Laws.AppendOwn
import Derived.Maps.Own
import Derived.Sort.KeysCollected
namespace Go.Ab
open Go Go.RowKit Go.Sort Go.Proofs
set_option linter.unusedVariables false
set_option linter.unusedSimpArgs false
def z01 (ss:List (List UInt8)):List (List UInt8):=ss.mergeSort λx y=>decide (x<=y)
theorem zd6 (ss:List (List UInt8)):(z01 ss).Perm ss:=List.mergeSort_perm _ _
theorem z04j {P:Program} {f ty:Nat} (hent:∀args W,(callFunc f args).run P W = .ok (.enter f args) W)
  (hcon:∀(blk cap:Nat) (ss:List (List UInt8)) (w:World),Holds encStr w blk 0 ss.toArray->blk<w.heap.size->ss.length<4611686018427387904 ->
   Calls P f #[.slice (some ⟨blk,0,none⟩) ss.length cap] w λe w'=>e = .returned (.tuple #[])∧∃n os,w'=grow (putRow encStr (Sort.ahead w n) blk 0 (ss.mergeSort λx y=>decide (x<=y)).toArray) os)
  {lv k ver n:Nat} {L:List (Option kz7)} {E:Nat->Nat->Option kz7} {xs:List (List UInt8)} {cp:Option Nat} (hL:L[k]? = some (some (.arr ver ty 1 (xs.map V.str) cp))) (hlen:xs.length<4611686018427387904) (hn:n=xs.length) :
  y2x P f [.hs lv k ver 0 n false] ⟨lv,L,E⟩ λo H'=>o = .ret (.tup [])∧H'=⟨lv,L.set k (some (.arr ver ty 1 ((z01 xs).map V.str) cp)),E⟩:=by
 intro W g cargs hG hR
 have hg:(⟨lv,L,E⟩:yz3).get lv k=some (.arr ver ty 1 (xs.map V.str) cp):=by simp [yz3.get,hL]
 obtain ⟨x,rfl,h0⟩:∃x,cargs = #[x]∧Rel W g ⟨lv,L,E⟩ (.hs lv k ver 0 n false) x:=by
  obtain ⟨h1,h2⟩:=hR
  have hsz:cargs.toList.length=1:=by simpa using h1
  obtain ⟨c,hc⟩:=List.length_eq_one_iff.1 hsz
  have hc':cargs = #[c]:=by rw [<-Array.toList_inj,hc]
  subst hc'
  exact ⟨c,rfl,by simpa using h2 0 _ rfl⟩
 refine ⟨hent _ _,?_⟩
 cases h0 with
 |hs _ _ _ _ _ _ a m cap hd hv ha =>
  obtain ⟨rfl,rfl,⟨a1,a2,_⟩,a3⟩:=ha _ _ _ _ hg
  obtain ⟨cur,k1,k2,k3,k3',k4,k5,k6,k7,k8⟩:=hG.obj _ _ _ hg
  rw [List.length_map] at k4
  have hH:Holds encStr W (g.ab lv k) 0 xs.toArray:=λj hj=>by
   have hj':j<xs.length:=by simpa using hj
   have e1:(xs.map V.str)[j]? = some (.str xs[j]):=by rw [List.getElem?_map,List.getElem?_eq_getElem hj'];rfl
   have e2:=k8 j _ 0 (.str xs[j]) e1 rfl
   have hlt:j<cur.size:=by rw [k3];omega
   refine ⟨?_,by simp [World.frozen?,k1]⟩
   rw [getElem!_pos xs.toArray j hj]
   cases e2h:cur.getD (j * 1+0) undef with
   |string s =>
    rw [e2h] at e2
    cases e2
    rw [Array.getD_eq_getD_getElem?] at e2h
    rw [show j * 1+0=j by omega,Array.getElem?_eq_getElem hlt] at e2h
    simp only [Option.getD_some] at e2h
    simp [World.cell?,k1,hlt,e2h,encStr]
   |_=>rw [e2h] at e2;cases e2
  have hb:g.ab lv k<W.heap.size:=(Array.getElem?_eq_some_iff.1 k1).1
  have hc:=hcon (g.ab lv k) cap xs W hH hb hlen
  have hsp:=zd6 xs
  have hsl:(z01 xs).length=xs.length:=hsp.length_eq
  subst hn
  refine hc.mono ?_
  rintro e W' ⟨rfl,nn,os,rfl⟩
  have hheap:(grow (putRow encStr (Sort.ahead W nn) (g.ab lv k) 0 (z01 xs).toArray) os).heap=W.heap.modify (g.ab lv k) (onCells (Go.Sort.putCells encStr 0 (z01 xs).toArray))++os:=rfl
  have hW':(grow (putRow encStr (Sort.ahead W nn) (g.ab lv k) 0 (z01 xs).toArray) os).heap[g.ab lv k]? = some (.cells (Go.Sort.putCells encStr 0 (z01 xs).toArray cur) ty (0,0)):=by
   rw [hheap,Array.getElem?_append_left (by simpa using hb),Array.getElem?_modify,if_pos rfl,k1];rfl
  have hcur:∀j (hj:j<(z01 xs).length),(Go.Sort.putCells encStr 0 (z01 xs).toArray cur).getD (j * 1+0) undef = .string ⟨((z01 xs)[j]).toArray⟩:=λj hj=>by
   have hlt2:j * 1+0<cur.size:=by rw [k3];omega
   rw [Array.getD_eq_getD_getElem?,Go.Sort.putCells,Array.getElem?_mapIdx,Array.getElem?_eq_getElem hlt2]
   simp only [Option.map_some,Option.getD_some,Nat.sub_zero]
   rw [if_pos ⟨Nat.zero_le _,by simp;omega⟩,getElem!_pos (z01 xs).toArray _ (by simp;omega)]
   simp [encStr]
  have hys:∀(j:Nat) (x:V),((z01 xs).map V.str)[j]? = some x->∃hj:j<(z01 xs).length,x = .str (z01 xs)[j]:=λj x hj=>by
   rw [List.getElem?_map,Option.map_eq_some_iff] at hj
   obtain ⟨y,hy,rfl⟩:=hj
   obtain ⟨h1,h2⟩:=List.getElem?_eq_some_iff.1 hy
   exact ⟨h1,by rw [h2]⟩
  obtain ⟨q1,q2⟩:=zo9 (W':=grow (putRow encStr (Sort.ahead W nn) (g.ab lv k) 0 (z01 xs).toArray) os) hG (o':=.arr ver ty 1 ((z01 xs).map V.str) cp) hg rfl rfl rfl rfl (by rw [hheap];simp) (λb hb1 hb2=>by
    rw [hheap,Array.getElem?_append_left (by simpa using hb1),Array.getElem?_modify,if_neg (λh=>hb2 h.symm)])
   (λver ty sz zs cp' he=>by injection he with e1 e2 e3 e4 e5;subst e1;subst e2;subst e3;subst e4;exact ⟨_,_,_,rfl,Nat.le_refl _,λ_=>by simp [hsl]⟩) (λhst=>by
   refine ⟨_,hW',by decide,by rw [Go.Sort.putCells,Array.size_mapIdx];exact k3,k3',by rw [List.length_map,hsl];exact k4,k5,λj x hj => ?_,λj x t v hj htv => ?_,λj x t v hj htv => ?_⟩
   · obtain ⟨_,rfl⟩:=hys j x hj;rfl
   · obtain ⟨hj',rfl⟩:=hys j x hj
     have ht:t=0:=by
      cases t with
      |zero=>rfl
      |succ t=>simp [V.cells] at htv
     subst ht
     rw [hcur j hj'];rfl
   · obtain ⟨hj',rfl⟩:=hys j x hj
     have ht:t=0:=by
      cases t with
      |zero=>rfl
      |succ t=>simp [V.cells] at htv
     subst ht
     simp [V.cells] at htv
     subst htv
     rw [hcur j hj']
     exact .str _)
  refine ⟨.ret (.tup []),_,g,⟨rfl,rfl⟩,?_,?_,_,rfl,.tup [] #[] rfl (by simp)⟩
  · have:=q1;simp only [yz3.set,if_pos] at this;exact this
  · have:=q2;simp only [yz3.set,if_pos] at this;exact this
def yx8 (D:Dat) (f ty:Nat) (go:Nat->List (List UInt8)->Option (List (List UInt8))):FI D :=
 {R:=List (List UInt8),ent:=λn=>{f:=f,p:=0,args:=[.own 0],aos:=[.acc ty .str true],outs:=[],ros:=[.acc ty .str true],pan:=.nilp,pos:=[.acc ty .str true],pure:=false,go:=λx k _=>(go n x.1).bind λr=>k (r,()),ren:=[(0,0)]},
   c:=.skip,K:=⟨λ_=>none,[],λ_=>none,λ_ _=>none⟩,p:=0,args:=[],aos:=[],nt:=0,zgb:=λ_=>[],go:=λ_ _=>none}
theorem z06v {D:Dat} {xs:List (List UInt8)} {ws:List V} (hl:ws.length=xs.length) (h:∀(j:Nat) (x:List UInt8) (v:V),xs[j]? = some x->ws[j]? = some v->DR D .str x v):ws=xs.map V.str:=by
 refine List.ext_getElem? λj => ?_
 rw [List.getElem?_map]
 cases hx:xs[j]? with
 |none =>
  rw [List.getElem?_eq_none_iff] at hx
  simp only [Option.map_none]
  rw [List.getElem?_eq_none_iff];omega
 |some x =>
  have hlt:=(List.getElem?_eq_some_iff.1 hx).1
  have hw:ws[j]? = some ws[j]:=List.getElem?_eq_getElem (by omega)
  have:=h j x _ hx hw
  rw [hw]
  cases hv:ws[j] with
  |str s=>rw [hv] at this;cases this;rfl
  |_=>rw [hv] at this;cases this
theorem z02d {P:Program} {D:Dat} {f ty:Nat} (hent:∀args W,(callFunc f args).run P W = .ok (.enter f args) W)
  (hcon:∀(blk cap:Nat) (ss:List (List UInt8)) (w:World),Holds encStr w blk 0 ss.toArray->blk<w.heap.size->ss.length<4611686018427387904 ->
   Calls P f #[.slice (some ⟨blk,0,none⟩) ss.length cap] w λe w'=>e = .returned (.tuple #[])∧∃n os,w'=grow (putRow encStr (Sort.ahead w n) blk 0 (ss.mergeSort λx y=>decide (x<=y)).toArray) os)
  (hnone:∀(p:Option Addr) (cap:Nat) (w:World),Calls P f #[.slice p 0 cap] w λe w'=>e = .returned (.tuple #[])∧w'=w)
  (xs:List (List UInt8)) (hlen:xs.length<4611686018427387904) (go:Nat->List (List UInt8)->Option (List (List UInt8))) (n:Nat):((yx8 D f ty go).ent n).Flat P ((xs,()):HL D.T [.sl .str]) (.inl ((z01 xs,()):HL D.T [.sl .str])):=λlv L E ρ0 vargs k1 k2 k3 k4=>by
 have k1:ρ0.length=1:=k1
 obtain ⟨sl,rfl⟩:=List.length_eq_one_iff.1 k1
 have k2:VRL D [sl] lv [.own 0] vargs:=k2
 simp only [VRL,VR] at k2
 obtain ⟨v,rr,rfl,⟨sl',e1,e2,e3⟩,rfl⟩:=k2
 obtain rfl:sl=sl':=by simpa using e1
 subst e2
 obtain ⟨sl',e4,e5⟩:=k3 0 (.acc ty .str xs true) (List.mem_cons_self)
 obtain rfl:sl=sl':=by simpa using e4
 simp only [OR] at e5
 obtain ⟨o1,o2,o3⟩:=e5
 have o1:sl.ws.length=xs.length:=o1
 have o2:∀(j:Nat) (x:List UInt8) (v:V),xs[j]? = some x->sl.ws[j]? = some v->DR D .str x v:=o2
 have hws:=z06v o1 o2
 have hsl:(z01 xs).length=xs.length:=(zd6 xs).length_eq
 have left:∀(L':List (Option kz7)) (sl':Slot),sl'.v=sl.v->sl'.k=sl.k->sl'.ws=(z01 xs).map V.str->(∀i,(∀j,sl.k=some j->j≠i)->L'[i]? = L[i]?)->L'.length=L.length ->
   (match sl'.k with
   |none=>(sl'.v = .nils∧sl'.ws=[])∨((sl'.v = .sl (D.len .str) sl'.ws true∧DTy.str ≠ .int .u8)∧(True->sl'.ws=[]))
   |some i=>∃ver cp,sl'.v = .hs lv i ver 0 sl'.ws.length false∧L'[i]? = some (some (.arr ver ty (D.len .str) sl'.ws cp))) ->
   Left D lv L [sl] 0 L' [sl'] [.acc ty .str true] ((z01 xs,()):HL D.T [.sl .str])∧(∀q∈[((0:Nat),(0:Nat))],∀s0,[sl][q.1]? = some s0->∃s1,[sl'][q.2]? = some s1∧s1.v=s0.v):=λL' sl' a1 a2 a3 a4 a5 a6=>by
  refine ⟨⟨rfl,λj o hm => ?_,λs s' t t' i r1 r2 _ _ => ?_,λs t i r1 c1 => ?_,λi hi hno => ?_,λj t hj=>absurd hj (Nat.not_lt_zero _)⟩,λq hq s0 hs0 => ?_⟩
  ·have hm:(j,o)∈[(0,(TO.acc ty .str (z01 xs) true:TO D.T))]:=hm
   simp only [List.mem_singleton,Prod.mk.injEq] at hm
   obtain ⟨rfl,rfl⟩:=hm
   refine ⟨sl',rfl,?_⟩
   simp only [OR]
   refine ⟨by rw [a3];exact List.length_map _,λj y v hy hv => ?_,a6⟩
   have hy:(z01 xs)[j]? = some y:=hy
   rw [a3,List.getElem?_map,hy] at hv
   injection hv with hv
   subst hv
   exact .str _
  ·have l1:=(List.getElem?_eq_some_iff.1 r1).1
   have l2:=(List.getElem?_eq_some_iff.1 r2).1
   simp at l1 l2;omega
  ·have l1:=(List.getElem?_eq_some_iff.1 r1).1
   have:s=0:=by simp at l1;omega
   subst this
   obtain rfl:sl'=t:=by simpa using r1
   exact .inr ⟨0,sl,rfl,by rw [<-a2];exact c1⟩
  ·refine ⟨by rw [a5];exact hi,a4 i λj hj hji=>hno 0 sl rfl (by rw [hj,hji])⟩
  ·simp only [List.mem_singleton] at hq
   subst hq
   obtain rfl:sl=s0:=by simpa using hs0
   exact ⟨sl',rfl,a1⟩
 have nothing:xs=[]->(∀W g cargs,zus W g ⟨lv,L,E⟩ [sl.v] cargs->∃p cap,cargs = #[.slice p 0 cap])->y2x P f [sl.v] ⟨lv,L,E⟩ λout H'=>∃L' ρ',H'=⟨lv,L',E⟩∧(Left D lv L [sl] 0 L' ρ' [.acc ty .str true] ((z01 xs,()):HL D.T [.sl .str])∧(∀q∈[((0:Nat),(0:Nat))],∀s0,[sl][q.1]? = some s0->∃s1,ρ'[q.2]? = some s1∧s1.v=s0.v)∧∃vs,out = .ret (ziw vs)∧VRL D ρ' lv [] vs):=λhx hc W g cargs hG hR=>by
  obtain ⟨p,cap,rfl⟩:=hc W g cargs hR
  refine ⟨hent _ _,(hnone p cap W).mono ?_⟩
  rintro e W' ⟨rfl,rfl⟩
  have hs:z01 xs=[]:=List.eq_nil_of_length_eq_zero (by rw [hsl,hx];rfl)
  obtain ⟨l1,l2⟩:=left L sl rfl rfl (by rw [hs,hws,hx]) (λ_ _=>rfl) rfl o3
  exact ⟨.ret (.tup []),⟨lv,L,E⟩,g,⟨L,[sl],rfl,l1,l2,[],rfl,(by simp only [VRL]:VRL D [sl] lv [] [])⟩,.refl _ _ _,hG,_,rfl,.tup [] #[] rfl (by simp)⟩
 have one:∀{W:World} {g:Gh} {cargs:Array Value},zus W g ⟨lv,L,E⟩ [sl.v] cargs->∃c,cargs = #[c]∧Rel W g ⟨lv,L,E⟩ sl.v c:=λ{W g cargs} hR=>by
  obtain ⟨h1,h2⟩:=hR
  have hsz:cargs.toList.length=1:=by simpa using h1
  obtain ⟨c,hc⟩:=List.length_eq_one_iff.1 hsz
  have hc':cargs = #[c]:=by rw [<-Array.toList_inj,hc]
  subst hc'
  exact ⟨c,rfl,by simpa using h2 0 _ rfl⟩
 cases hk:sl.k with
 |none =>
  rw [hk] at o3
  rcases o3 with ⟨v1,v2⟩|⟨v1,v2⟩
  · refine nothing (by rw [hws] at v2;simpa using v2) λW g cargs hR => ?_
    obtain ⟨c,rfl,hc⟩:=one hR
    rw [v1] at hc
    cases hc
    exact ⟨_,_,rfl⟩
  · have v3:=v2 trivial
    refine nothing (by rw [hws] at v3;simpa using v3) λW g cargs hR => ?_
    obtain ⟨c,rfl,hc⟩:=one hR
    rw [v1.1,v3] at hc
    cases hc with
    |slnil=>exact ⟨_,_,rfl⟩
    |sle _ _ a cap hf=>exact ⟨_,_,rfl⟩
    |sl _ _ _ b o cap c=>exact ⟨_,_,rfl⟩
 |some i =>
  rw [hk] at o3
  obtain ⟨ver,cp,v1,v2⟩:=o3
  have hi:=(List.getElem?_eq_some_iff.1 v2).1
  rw [hws] at v2
  have hh:=z04j (P:=P) (f:=f) (ty:=ty) hent hcon (lv:=lv) (E:=E) (n:=sl.ws.length) v2 hlen (by rw [hws];simp)
  rw [<-v1] at hh
  refine hh.mono λo H' ⟨e1,e2⟩ => ?_
  subst e1;subst e2
  obtain ⟨l1,l2⟩:=left (L.set i (some (.arr ver ty 1 ((z01 xs).map V.str) cp))) ⟨sl.v,sl.k,(z01 xs).map V.str⟩ rfl rfl rfl (λj hj=>List.getElem?_set_ne (hj i hk)) (by simp) (by
   simp only [hk]
   exact ⟨ver,cp,by rw [v1,hws];simp [hsl],by simp [hi,Dat.len]⟩)
  exact ⟨_,[⟨sl.v,sl.k,(z01 xs).map V.str⟩],rfl,l1,l2,[],rfl,(by simp only [VRL]:VRL D [⟨sl.v,sl.k,(z01 xs).map V.str⟩] lv [] [])⟩
theorem z06q {P:Program} {D:Dat} {f ty:Nat} (hent:∀args W,(callFunc f args).run P W = .ok (.enter f args) W)
  (hcon:∀(blk cap:Nat) (ss:List (List UInt8)) (w:World),Holds encStr w blk 0 ss.toArray->blk<w.heap.size->ss.length<4611686018427387904 ->
   Calls P f #[.slice (some ⟨blk,0,none⟩) ss.length cap] w λe w'=>e = .returned (.tuple #[])∧∃n os,w'=grow (putRow encStr (Sort.ahead w n) blk 0 (ss.mergeSort λx y=>decide (x<=y)).toArray) os)
  (hnone:∀(p:Option Addr) (cap:Nat) (w:World),Calls P f #[.slice p 0 cap] w λe w'=>e = .returned (.tuple #[])∧w'=w) :
  FOk P (yx8 D f ty λ_ xs=>if xs.length<4611686018427387904 then some (z01 xs) else none):=λn R x k kp r h=>by
 have h:((if x.1.length<4611686018427387904 then some (z01 x.1) else none).bind λr=>k (r,()))=some r:=h
 obtain ⟨r0,h1,h2⟩:=zxm h
 split at h1
 ·rename_i hlen
  injection h1 with h1
  subst h1
  exact .inl ⟨(z01 x.1,()),h2,z02d hent hcon hnone x.1 hlen _ n⟩
 ·cases h1
end Go.Ab
namespace Go.Ab
open Go
set_option linter.unusedVariables false
set_option linter.unusedSimpArgs false
theorem ztv:∀a:List UInt8,Op.bytesLess a a=false
 |[]=>rfl
 |x::a=>by simp [Op.bytesLess,ztv a]
theorem y3s:∀{a b c:List UInt8},Op.bytesLess a b=true->Op.bytesLess b c=true->Op.bytesLess a c=true
 |_,[],_,h,_=>by simp [Op.bytesLess] at h
 |_,_::_,[],_,h=>by simp [Op.bytesLess] at h
 |[],_::_,_::_,_,_=>by simp [Op.bytesLess]
 |x::a,y::b,z::c,h1,h2=>by
  simp only [Op.bytesLess,Bool.or_eq_true,decide_eq_true_eq,Bool.and_eq_true,beq_iff_eq] at h1 h2 ⊢
  rcases h1 with h1|⟨rfl,h1⟩
  · rcases h2 with h2|⟨rfl,h2⟩
    · exact .inl (by rw [UInt8.lt_iff_toNat_lt] at *;omega)
    · exact .inl h1
  · rcases h2 with h2|⟨rfl,h2⟩
    · exact .inl h2
    · exact .inr ⟨rfl,y3s h1 h2⟩
theorem y4u:∀{a b:List UInt8},Op.bytesLess a b=false->Op.bytesLess b a=false->a=b
 |[],[],_,_=>rfl
 |[],_::_,h,_=>by simp [Op.bytesLess] at h
 |_::_,[],_,h=>by simp [Op.bytesLess] at h
 |x::a,y::b,h1,h2=>by
  simp only [Op.bytesLess,Bool.or_eq_false_iff,decide_eq_false_iff_not,Bool.and_eq_false_iff,beq_eq_false_iff_ne] at h1 h2
  have hxy:x=y:=UInt8.toNat_inj.1 (by have:=h1.1;have:=h2.1;simp only [UInt8.lt_iff_toNat_lt] at *;omega)
  subst hxy
  have e1:Op.bytesLess a b=false:=by rcases h1.2 with h|h;exact absurd rfl h;exact h
  have e2:Op.bytesLess b a=false:=by rcases h2.2 with h|h;exact absurd rfl h;exact h
  rw [y4u e1 e2]
theorem yux {a b:List UInt8} (h:Op.bytesLess a b=true):Op.bytesLess b a=false:=by
 cases h2:Op.bytesLess b a
 ·rfl
 ·have:=y3s h h2;rw [ztv] at this;cases this
theorem z027 {a b c:List UInt8} (h1:Op.bytesLess a b=false) (h2:Op.bytesLess b c=false):Op.bytesLess a c=false:=by
 cases h:Op.bytesLess a c
 ·rfl
 ·cases h3:Op.bytesLess b a
  ·rw [y4u h1 h3] at h;rw [h] at h2;cases h2
  ·rw [y3s h3 h] at h2;cases h2
theorem z014 (x y:List UInt8):decide (x<=y) = !Op.bytesLess y x:=by
 rw [Go.Proofs.bytesLess_eq]
 by_cases h:y<x
 ·have:¬x<=y:=List.not_le.2 h
  simp [h,this]
 ·have:x<=y:=List.not_lt.1 h
  simp [h,this]
def zdm (l:List (List UInt8)):Prop:=l.Pairwise λx y=>Op.bytesLess x y=true
theorem zk9:∀{l m:List (List UInt8)},zdm l->zdm m->(∀x,x∈l↔x∈m)->l=m
 |[],[],_,_,_=>rfl
 |[],y::m,_,_,h=>by have:=(h y).2 List.mem_cons_self;cases this
 |x::l,[],_,_,h=>by have:=(h x).1 List.mem_cons_self;cases this
 |x::l,y::m,h1,h2,h=>by
  have a1:=List.pairwise_cons.1 h1
  have a2:=List.pairwise_cons.1 h2
  have hxy:x=y:=by
   rcases List.mem_cons.1 ((h x).1 List.mem_cons_self) with e|e
   · exact e
   · rcases List.mem_cons.1 ((h y).2 List.mem_cons_self) with e'|e'
     · exact e'.symm
     · have b1:=a2.1 x e;have b2:=a1.1 y e'
       rw [yux b1] at b2;cases b2
  subst hxy
  refine congrArg (x :: ·) (zk9 a1.2 a2.2 λz=>⟨λhz => ?_,λhz => ?_⟩)
  · rcases List.mem_cons.1 ((h z).1 (List.mem_cons_of_mem _ hz)) with e|e
    · subst e;have:=a1.1 z hz;rw [ztv] at this;cases this
    · exact e
  · rcases List.mem_cons.1 ((h z).2 (List.mem_cons_of_mem _ hz)) with e|e
    · subst e;have:=a2.1 z hz;rw [ztv] at this;cases this
    · exact e
theorem zif {l:List (List UInt8)} (h:l.Nodup):zdm (z01 l):=by
 have hp:(z01 l).Pairwise λx y=>decide (x<=y)=true:=List.pairwise_mergeSort (λa b c h1 h2=>by
  rw [z014,Bool.not_eq_true'] at *
  exact z027 h2 h1) (λa b=>by
  rw [z014,z014]
  cases h:Op.bytesLess b a
  ·rfl
  ·rw [yux h];rfl) l
 have hn:(z01 l).Nodup:=(zd6 l).nodup_iff.2 h
 unfold zdm
 refine List.Pairwise.imp₂ (R:=λx y=>decide (x<=y)=true) (S:=(· ≠ ·)) (λx y h1 h2 => ?_) hp hn
 rw [z014,Bool.not_eq_true'] at h1
 cases h3:Op.bytesLess x y
 ·exact (h2 (y4u h3 h1)).elim
 ·rfl
def ins:List (List UInt8)->List UInt8->List (List UInt8)
 |[],s=>[s]
 |x::l,s=>if Op.bytesLess x s then x::ins l s else if x=s then x::l else s::x::l
theorem zo1 (s:List UInt8):∀(l:List (List UInt8)) (z:List UInt8),z∈ins l s↔z∈l∨z=s
 |[],z=>by simp [ins]
 |x::l,z=>by
  rw [ins]
  split
  · rw [List.mem_cons,List.mem_cons,zo1 s l z,or_assoc]
  · split
    · rename_i h;subst h
      constructor
      · exact .inl
      · rintro (h|rfl)
        · exact h
        · exact List.mem_cons_self
    · rw [List.mem_cons,or_comm]
theorem znp {s:List UInt8}:∀{l:List (List UInt8)},zdm l->zdm (ins l s)
 |[],_=>by simp [ins,zdm]
 |x::l,h=>by
  have a:=List.pairwise_cons.1 h
  rw [ins]
  split
  · rename_i hx
    refine List.pairwise_cons.2 ⟨λz hz => ?_,znp a.2⟩
    rcases (zo1 s l z).1 hz with hz|rfl
    · exact a.1 z hz
    · exact hx
  · split
    · exact h
    · rename_i h1 h2
      have h1:Op.bytesLess x s=false:=by simpa using h1
      have hs:Op.bytesLess s x=true:=by
       cases h3:Op.bytesLess s x
       · exact (h2 (y4u h1 h3)).elim
       · rfl
      refine List.pairwise_cons.2 ⟨λz hz => ?_,h⟩
      rcases List.mem_cons.1 hz with rfl|hz
      · exact hs
      · exact y3s hs (a.1 z hz)
theorem y00 (s:List UInt8):∀l:List (List UInt8),(ins l s).length<=l.length+1
 |[]=>by simp [ins]
 |x::l=>by
  have:=y00 s l
  rw [ins];split
  · simp;omega
  · split <;> simp
theorem yqw (s:List UInt8):∀l:List (List UInt8),ins l s=if (l.dropWhile (λx=>Op.bytesLess x s)).head?=some s then l else l.takeWhile (λx=>Op.bytesLess x s)++s::l.dropWhile (λx=>Op.bytesLess x s)
 |[]=>by simp [ins]
 |x::l=>by
  rw [ins]
  cases h:Op.bytesLess x s
  · rw [List.dropWhile_cons_of_neg (by simp [h]),List.takeWhile_cons_of_neg (by simp [h])]
    by_cases hx:x=s
    · simp [hx]
    · simp [hx]
  · rw [List.dropWhile_cons_of_pos (by simp [h]),List.takeWhile_cons_of_pos (by simp [h]),if_pos rfl,yqw s l]
    split <;> rfl
end Go.Ab
namespace Go.Ab
open Go Go.RowKit
set_option linter.unusedVariables false
set_option linter.unusedSimpArgs false
theorem y15 {W W':World} (h:Below W.heap.size W W'):Grow W W':=⟨h.os,h.tape,h.output,h.size,h.block⟩
theorem good_row {W W':World} {g:Gh} {H:yz3} (hG:Good W g H) (hgr:Grow W W') {gb:Nat} (h1:W.heap.size<=gb) (h2:gb<W'.heap.size) {o:kz7} (c:Nat)
  (ho:∀(g':Gh) (H':yz3),g'=g.add H.lv H.L.length gb c->H'=H.push o->Step W g H W' g' H'->zkt W' g' H' H.lv H.L.length o) :
  Step W g H W' (g.add H.lv H.L.length gb c) (H.push o)∧Good W' (g.add H.lv H.L.length gb c) (H.push o):=by
 have hnew:¬g.dom H.lv H.L.length:=λh=>by rcases hG.fresh _ _ h with h|⟨_,h⟩ <;> omega
 have hne:∀l i,g.dom l i->¬(l=H.lv∧i=H.L.length):=λl i h q=>hnew (by rw [<-q.1,<-q.2];exact h)
 have hstep:Step W g H W' (g.add H.lv H.L.length gb c) (H.push o):=by
  refine ⟨hgr.os,hgr.tape,hgr.output,hgr.size,λb hb _=>hgr.block b hb,λb hb => ?_,λl i h=>.inl h,λl i h=>h.elim .inl (λq=>.inr q.1),λl i h=>by simp [Gh.add,hne l i h],λl i ver ty sz xs cp hd hg => ?_,rfl⟩
  ·obtain ⟨l,i,q,hq,hqb⟩:=hb
   rw [yz3.zax] at hq
   split at hq
   ·rename_i hk
    injection hq with hq;subst hq
    obtain ⟨rfl,rfl⟩:=hk
    rw [kz7.zcn] at hqb
    right;omega
   ·rename_i hk
    rw [kz7.zkp hk] at hqb
    exact .inl ⟨l,i,q,hq,hqb⟩
  ·rw [yz3.zax,if_neg (hne l i hd)] at hg
   exact ⟨ver,xs,cp,hg,Nat.le_refl _,λ_=>⟨by simp [Gh.add,hne l i hd],by simp [Gh.add,hne l i hd],Nat.le_refl _⟩⟩
 refine ⟨hstep,?_,?_,?_,?_,?_,hG.glob.step hstep⟩
 ·intro l i q hq
  rw [yz3.zax] at hq
  split at hq
  ·rename_i hk;exact .inr hk
  ·exact .inl (hG.dom l i q hq)
 ·intro l i q hq
  rw [yz3.zax] at hq
  split at hq
  ·rename_i hk
   obtain ⟨rfl,rfl⟩:=hk
   rw [kz7.zcn];exact h2
  ·rename_i hk
   rw [kz7.zkp hk]
   exact Nat.lt_of_lt_of_le (hG.lt l i q hq) hgr.size
 ·intro l i q l' i' q' hq hq' hb
  rw [yz3.zax] at hq hq'
  split at hq
  ·rename_i hk
   obtain ⟨rfl,rfl⟩:=hk
   split at hq'
   ·rename_i hk'
    exact ⟨hk'.1.symm,hk'.2.symm⟩
   ·rename_i hk'
    rw [kz7.zcn,kz7.zkp hk'] at hb
    have:=hG.lt _ _ _ hq'
    omega
  ·rename_i hk
   split at hq'
   ·rename_i hk'
    obtain ⟨rfl,rfl⟩:=hk'
    rw [kz7.zkp hk,kz7.zcn] at hb
    have:=hG.lt _ _ _ hq
    omega
   ·rename_i hk'
    rw [kz7.zkp hk,kz7.zkp hk'] at hb
    exact hG.inj _ _ _ _ _ _ hq hq' hb
 ·intro l i h
  show l<H.lv∨(l=H.lv∧i<(H.L++[some o]).length)
  rcases h with h|⟨h1,h2⟩
  ·rcases hG.fresh l i h with q|⟨q1,q2⟩
   ·exact .inl q
   ·exact .inr ⟨q1,by simp;omega⟩
  ·exact .inr ⟨h1,by simp;omega⟩
 ·intro l i q hq
  rw [yz3.zax] at hq
  split at hq
  ·rename_i hk
   obtain ⟨rfl,rfl⟩:=hk
   injection hq with hq;subst hq
   exact ho _ _ rfl rfl hstep
  ·rename_i hk
   have h1:=hG.obj l i q hq
   exact h1.mono hstep (hgr.block _ (hG.lt l i q hq)) (by simp [Gh.add,hk]) (by simp [Gh.add,hk]) (by simp [Gh.add,hk])
def z00t (W:World) (g:Gh) (H:yz3) (sz:Nat) (ws:List V) (cells:List Value):Prop :=
 cells.length=ws.length * sz∧∀(j:Nat) (x:V) (t:Nat) (v:V),ws[j]? = some x->x.cells[t]? = some v->∃c,cells[j * sz+t]? = some c∧c.oneCell'=true∧Rel W g H v c
theorem yva {P:Program} {f:Nat} {vargs:List V} {lv:Nat} {L:List (Option kz7)} {E:Nat->Nat->Option kz7} {ty sz:Nat} {ws:List V} (hsz:0<sz) (hws:∀(j:Nat) (x:V),ws[j]? = some x->x.cells.length=sz)
  (hent:∀args W,(callFunc f args).run P W = .ok (.enter f args) W)
  (hcon:∀W g cargs,Good W g ⟨lv,L,E⟩->zus W g ⟨lv,L,E⟩ vargs cargs->∃cells,z00t W g ⟨lv,L,E⟩ sz ws cells ∧
   Calls P f cargs W λe W'=>∃v',e = .returned v'∧W'.ownsRow W.heap.size ty sz v' ws.length cells∧Below W.heap.size W W') :
  y2x P f vargs ⟨lv,L,E⟩ λout H'=>(ws=[]∧out = .ret .nils∧H'=⟨lv,L,E⟩)∨(out = .ret (.hs lv L.length 0 0 ws.length false)∧H'=⟨lv,L++[some (.arr 0 ty sz ws none)],E⟩):=λW g cargs hG hA=>by
 obtain ⟨cells,⟨c1,c2⟩,hc⟩:=hcon W g cargs hG hA
 refine ⟨hent _ _,hc.mono ?_⟩
 rintro e W' ⟨v',rfl,⟨r0,hrow⟩,hb⟩
 have hgr:=y15 hb
 rcases hrow with ⟨rfl,hn⟩|⟨gb,cap,cur,rfl,hbase,hgb,hn,hcap,hcs,htk⟩
 ·exact ⟨.ret .nils,⟨lv,L,E⟩,g,.inl ⟨List.eq_nil_of_length_eq_zero hn,rfl,rfl⟩,hgr.step,hG.grow hgr,_,rfl,.nils⟩
 ·have hlt:gb<W'.heap.size:=(Array.getElem?_eq_some_iff.1 hgb).1
  have at_:∀(j:Nat) (x:V) (t:Nat) (v:V),ws[j]? = some x->x.cells[t]? = some v->∃c,cur.getD (j * sz+t) undef=c∧c.oneCell'=true∧Rel W g ⟨lv,L,E⟩ v c:=λj x t v hj ht=>by
   obtain ⟨c,h1,h2,h3⟩:=c2 j x t v hj ht
   refine ⟨c,?_,h2,h3⟩
   rw [<-htk] at h1
   rw [List.getElem?_take] at h1
   split at h1
   ·rw [Array.getElem?_toList] at h1
    rw [Array.getD_eq_getD_getElem?,h1];rfl
   ·cases h1
  obtain ⟨s1,s2⟩:=good_row hG hgr hbase hlt (o:=.arr 0 ty sz ws none) cap λg' H' eg eH hs=>by
   subst eg
   have hab:(g.add lv L.length gb cap).ab lv L.length=gb:=by simp [Gh.add]
   have hcp:(g.add lv L.length gb cap).cap lv L.length=cap:=by simp [Gh.add]
   refine ⟨cur,by show W'.heap[(g.add lv L.length gb cap).ab lv L.length]? = _;rw [hab];exact hgb,hsz,by show cur.size=(g.add lv L.length gb cap).cap lv L.length * sz;rw [hcp];exact hcs,by show (g.add lv L.length gb cap).cap lv L.length<=_;rw [hcp];exact hcap,by show _<=(g.add lv L.length gb cap).cap lv L.length;rw [hcp];exact hn,λn h=>(by cases h),hws,λj x t v hj ht => ?_,λj x t v hj ht => ?_⟩
   ·obtain ⟨c,h1,h2,_⟩:=at_ j x t v hj ht;rw [h1];exact h2
   ·obtain ⟨c,h1,_,h3⟩:=at_ j x t v hj ht;rw [h1];exact h3.mono hs
  refine ⟨.ret (.hs lv L.length 0 0 ws.length false),⟨lv,L++[some (.arr 0 ty sz ws none)],E⟩,_,.inr ⟨rfl,rfl⟩,s1,s2,_,rfl,?_⟩
  refine .hs lv L.length 0 0 ws.length false _ _ _ (.inr ⟨rfl,rfl⟩) (λv ty' sz' xs cp h => ?_) λty' sz' xs cp h => ?_
  ·exact Nat.zero_le _
  ·have h:(yz3.push ⟨lv,L,E⟩ (.arr 0 ty sz ws none)).get lv L.length=some (.arr 0 ty' sz' xs cp):=h
   rw [yz3.zax,if_pos ⟨rfl,rfl⟩] at h
   injection h with h
   injection h with _ h2 h3 h4 h5
   subst h2;subst h3;subst h4;subst h5
   refine ⟨by simp [Gh.add],rfl,⟨hn,?_,λh=>by cases h⟩,by omega⟩
   show 0+cap<=(g.add lv L.length gb cap).cap lv L.length
   simp [Gh.add]
theorem z018 {W:World} {g:Gh} {H:yz3} {v:V} {cargs:Array Value} (hR:zus W g H [v] cargs):∃c,cargs = #[c]∧Rel W g H v c:=by
 obtain ⟨h1,h2⟩:=hR
 have hsz:cargs.toList.length=1:=by simpa using h1
 obtain ⟨c,hc⟩:=List.length_eq_one_iff.1 hsz
 have hc':cargs = #[c]:=by rw [<-Array.toList_inj,hc]
 subst hc'
 exact ⟨c,rfl,by simpa using h2 0 _ rfl⟩
theorem ynd {D:Dat} {lv:Nat} {L:List (Option kz7)} {ty:Nat} {τ:DTy} {xs:List (τ.S D.T)} {ws:List V} (hl:ws.length=xs.length) (hd:∀(j:Nat) (x:τ.S D.T) (v:V),xs[j]? = some x->ws[j]? = some v->DR D τ x v) {out:Out} {E:Nat->Nat->Option kz7} {H':yz3}
  (h:(ws=[]∧out = .ret .nils∧H'=⟨lv,L,E⟩)∨(out = .ret (.hs lv L.length 0 0 ws.length false)∧H'=⟨lv,L++[some (.arr 0 ty (D.len τ) ws none)],E⟩)) :
  ∃L' ρ',H'=⟨lv,L',E⟩∧Left D lv L [] 0 L' ρ' [.acc ty τ true] ((xs,()):HL D.T [.sl τ])∧∃vs,out = .ret (ziw vs)∧VRL D ρ' lv [.own 0] vs:=by
 have main:∀(L':List (Option kz7)) (sl:Slot),L.length<=L'.length->(∀i,i<L.length->L'[i]? = L[i]?)->(∀i,sl.k=some i->L.length<=i)->OR D [sl] lv L' sl (.acc ty τ xs true)->sl.v.leaf=true->out = .ret sl.v->H'=⟨lv,L',E⟩ ->
   ∃L' ρ',H'=⟨lv,L',E⟩∧Left D lv L [] 0 L' ρ' [.acc ty τ true] ((xs,()):HL D.T [.sl τ])∧∃vs,out = .ret (ziw vs)∧VRL D ρ' lv [.own 0] vs:=λL' sl a1 a2 a3 a4 a5 a6 a7=>by
  refine ⟨L',[sl],a7,⟨rfl,λj o hm => ?_,λs s' t t' i r1 r2 _ _ => ?_,λs t i r1 c1 => ?_,λi hi _=>⟨by omega,a2 i hi⟩,λj t hj=>absurd hj (Nat.not_lt_zero _)⟩,[sl.v],a6,?_⟩
  ·have hm:(j,o)∈[(0,(TO.acc ty τ xs true:TO D.T))]:=hm
   simp only [List.mem_singleton,Prod.mk.injEq] at hm
   obtain ⟨rfl,rfl⟩:=hm
   exact ⟨sl,rfl,a4⟩
  ·have l1:=(List.getElem?_eq_some_iff.1 r1).1
   have l2:=(List.getElem?_eq_some_iff.1 r2).1
   simp at l1 l2;omega
  ·have l1:=(List.getElem?_eq_some_iff.1 r1).1
   have:s=0:=by simp at l1;omega
   subst this
   obtain rfl:sl=t:=by simpa using r1
   exact .inl (a3 i c1)
  ·simp only [VRL,VR]
   exact ⟨_,_,rfl,⟨sl,rfl,rfl,a5⟩,rfl⟩
 rcases h with ⟨e1,e2,e3⟩|⟨e1,e2⟩
 ·refine main L ⟨.nils,none,[]⟩ (Nat.le_refl _) (λ_ _=>rfl) (λi h=>by cases h) ?_ rfl e2 e3
  simp only [OR]
  have hx:xs=[]:=List.eq_nil_of_length_eq_zero (by rw [<-hl,e1];rfl)
  refine ⟨by rw [hx];rfl,λj x v hj hv=>(by simp at hv),?_⟩
  exact .inl ⟨trivial,trivial⟩
 ·refine main _ ⟨.hs lv L.length 0 0 ws.length false,some L.length,ws⟩ (by simp) (λi hi=>by rw [List.getElem?_append_left hi]) (λi h=>by injection h with h;omega) ?_ rfl e1 e2
  simp only [OR]
  exact ⟨hl,hd,0,none,rfl,by simp⟩
def yq8 (D:Dat) (f ty:Nat) (τ:DTy) (go:Nat->List (τ.S D.T)->Option (List (τ.S D.T))):FI D :=
 {R:=List (τ.S D.T),ent:=λn=>{f:=f,p:=0,args:=[.d (.sl τ)],aos:=[],outs:=[.own 0],ros:=[.acc ty τ true],pan:=.nilp,pos:=[],pure:=false,go:=λx k _=>(go n x.1).bind λr=>k (r,())},
   c:=.skip,K:=⟨λ_=>none,[],λ_=>none,λ_ _=>none⟩,p:=0,args:=[],aos:=[],nt:=0,zgb:=λ_=>[],go:=λ_ _=>none}
theorem yxs {P:Program} {D:Dat} (hD:D.Ok P) {f ty bytes:Nat} {τ:DTy} (hpos:0<D.len τ) (hbyt:bytes<=524288) (hent:∀args W,(callFunc f args).run P W = .ok (.enter f args) W)
  (hcon:∀(a:Addr) (n c:Nat) (cells:List Value) (w:World),cells.length=n * D.len τ->(∀j u,cells[j]? = some u->w.cell? (a.add j)=some u)->(∀u∈cells,u.oneCell'=true)->n<=maxLen->n * bytes<=140737488355328 ->
   Calls P f #[.slice (some a) n c] w λe w'=>∃v',e = .returned v'∧w'.ownsRow w.heap.size ty (D.len τ) v' n cells∧Below w.heap.size w w')
  (hnone:∀(w:World),Calls P f #[.slice none 0 0] w λe w'=>e = .returned (.slice none 0 0)∧w'=w)
  (xs:List (τ.S D.T)) (hlen:xs.length<=8388608) (go:Nat->List (τ.S D.T)->Option (List (τ.S D.T))) (n:Nat):((yq8 D f ty τ go).ent n).Flat P ((xs,()):HL D.T [.sl τ]) (.inl ((xs,()):HL D.T [.sl τ])):=by
 intro lv L E ρ0 vargs k1 k2 k3 k4
 obtain rfl:ρ0=[]:=List.eq_nil_of_length_eq_zero k1
 have k2:VRL D [] lv [.sl τ xs 0] vargs:=k2
 simp only [VRL,VR] at k2
 obtain ⟨v,rr,rfl,⟨hv,_,_⟩,rfl⟩:=k2
 have hw:∃ws:List V,ws.length=xs.length∧(∀(j:Nat) (y:τ.S D.T) (u:V),xs[j]? = some y->ws[j]? = some u->DR D τ y u)∧(∀(j:Nat) (u:V),ws[j]? = some u->u.cells.length=D.len τ)∧((v = .nils∧ws=[])∨∃full,v = .sl (D.len τ) ws full):=by
  have hv':DR D (.sl τ) xs v:=hv
  clear hv hlen
  cases hv' with
  |nil=>exact ⟨[],rfl,λj y u hj=>by simp at hj,λj u hj=>by simp at hj,.inl ⟨rfl,rfl⟩⟩
  |sl _ _ ws full hl hd =>
   refine ⟨ws,hl,hd,λj u hj => ?_,.inr ⟨full,rfl⟩⟩
   have hlt:=(List.getElem?_eq_some_iff.1 hj).1
   exact (hd j _ u (List.getElem?_eq_getElem (by omega)) hj).cells hD
 obtain ⟨ws,w1,w2,w3,w4⟩:=hw
 have hlen':ws.length<=8388608:=by rw [w1];exact hlen
 have hml:ws.length<=maxLen:=by simp only [maxLen];omega
 have hby:ws.length * bytes<=140737488355328:=Nat.le_trans (Nat.mul_le_mul hlen' hbyt) (by decide)
 have hh:=yva (P:=P) (f:=f) (vargs:=[v]) (lv:=lv) (L:=L) (E:=E) (ty:=ty) (ws:=ws) hpos w3 hent λW g cargs hG hA=>by
  obtain ⟨c,rfl,hc⟩:=z018 hA
  have empty:ws=[]->∃cells,z00t W g ⟨lv,L,E⟩ (D.len τ) ws cells∧∀(a:Option Addr) (cap:Nat),(a=none->cap=0)->Calls P f #[.slice a 0 cap] W λe W'=>∃v',e = .returned v'∧W'.ownsRow W.heap.size ty (D.len τ) v' ws.length cells∧Below W.heap.size W W':=λhe=>by
   subst he
   refine ⟨[],⟨by simp,λj y t u hj=>by simp at hj⟩,λa cap ha => ?_⟩
   cases a with
   |none =>
    obtain rfl:=ha rfl
    refine (hnone W).mono ?_
    rintro e W' ⟨rfl,rfl⟩
    exact ⟨_,rfl,⟨by simp,.inl ⟨rfl,rfl⟩⟩,.refl _ _⟩
   |some a=>exact hcon a 0 cap [] W (by simp) (by simp) (by simp) (Nat.zero_le _) (by simp)
  rcases w4 with ⟨rfl,he⟩|⟨full,rfl⟩
  ·obtain ⟨cells,e1,e2⟩:=empty he
   cases hc
   exact ⟨cells,e1,e2 none 0 λ_=>rfl⟩
  ·cases hc with
   |slnil=>obtain ⟨cells,e1,e2⟩:=empty rfl;exact ⟨cells,e1,e2 none 0 λ_=>rfl⟩
   |sle _ _ a cap hf=>obtain ⟨cells,e1,e2⟩:=empty rfl;exact ⟨cells,e1,e2 (some a) cap λh=>by cases h⟩
   |sl _ _ _ b o cap c hb hz hcap hf hs hcell ho1 hr =>
    have get:∀q,q<ws.length * D.len τ->∃(j t:Nat) (y u:V),ws[j]? = some y∧y.cells[t]? = some u∧q=j * D.len τ+t∧t<D.len τ:=λq hq=>by
     have hj:q / D.len τ<ws.length:=Nat.div_lt_of_lt_mul (by rw [Nat.mul_comm];exact hq)
     have ht:q % D.len τ<D.len τ:=Nat.mod_lt _ hpos
     have hy:=List.getElem?_eq_getElem hj
     have hcl:=w3 _ _ hy
     have hu:=List.getElem?_eq_getElem (l:=(ws[q / D.len τ]).cells) (i:=q % D.len τ) (by rw [hcl];exact ht)
     exact ⟨q / D.len τ,q % D.len τ,_,_,hy,hu,by rw [Nat.mul_comm];exact (Nat.div_add_mod q (D.len τ)).symm,ht⟩
    have cellq:∀q,q<ws.length * D.len τ->∃u,W.cell? ⟨b,o+q,none⟩=some u∧u.oneCell'=true:=λq hq=>by
     obtain ⟨j,t,y,u,h1,h2,h3,_⟩:=get q hq
     exact ⟨_,by rw [h3,<-Nat.add_assoc];exact hcell j y t u h1 h2,ho1 j y t u h1 h2⟩
    let cells:List Value:=(List.range (ws.length * D.len τ)).map λq=>(W.cell? ⟨b,o+q,none⟩).getD undef
    have hcl:cells.length=ws.length * D.len τ:=by simp [cells]
    have hce:∀q u,cells[q]? = some u->W.cell? ⟨b,o+q,none⟩=some u∧u.oneCell'=true:=λq u hq=>by
     have hlt:q<ws.length * D.len τ:=by rw [<-hcl];exact (List.getElem?_eq_some_iff.1 hq).1
     obtain ⟨w,e1,e2⟩:=cellq q hlt
     have:cells[q]? = some w:=by simp [cells,hlt,e1]
     rw [hq] at this;injection this with this;subst this
     exact ⟨e1,e2⟩
    refine ⟨cells,⟨hcl,λj y t u hj ht => ?_⟩,hcon ⟨b,o,none⟩ ws.length cap cells W hcl (λq u hq => ?_) (λu hu => ?_) hml hby⟩
    · have e:=hcell j y t u hj ht
      have hjl:=(List.getElem?_eq_some_iff.1 hj).1
      have htl:t<D.len τ:=by rw [<-w3 j y hj];exact (List.getElem?_eq_some_iff.1 ht).1
      have hlt:j * D.len τ+t<ws.length * D.len τ:=by
       have:(j+1) * D.len τ<=ws.length * D.len τ:=Nat.mul_le_mul_right _ hjl
       rw [Nat.add_mul] at this;omega
      refine ⟨c j t,by simp [cells,hlt,<-Nat.add_assoc,e],ho1 j y t u hj ht,hr j y t u hj ht⟩
    · have e:(⟨b,o,none⟩:Addr).add q=⟨b,o+q,none⟩:=by simp [Addr.add]
      rw [e]
      exact (hce q u hq).1
    · obtain ⟨q,hq⟩:=List.mem_iff_getElem?.1 hu
      exact (hce q u hq).2
 refine hh.mono λout H' ho => ?_
 obtain ⟨L',ρ',e1,e2,e3⟩:=ynd (D:=D) (xs:=xs) w1 w2 ho
 exact ⟨L',ρ',e1,e2,(λq hq=>by cases hq),e3⟩
theorem z060 {P:Program} {D:Dat} (hD:D.Ok P) {f ty bytes:Nat} {τ:DTy} (hpos:0<D.len τ) (hbyt:bytes<=524288) (hent:∀args W,(callFunc f args).run P W = .ok (.enter f args) W)
  (hcon:∀(a:Addr) (n c:Nat) (cells:List Value) (w:World),cells.length=n * D.len τ->(∀j u,cells[j]? = some u->w.cell? (a.add j)=some u)->(∀u∈cells,u.oneCell'=true)->n<=maxLen->n * bytes<=140737488355328 ->
   Calls P f #[.slice (some a) n c] w λe w'=>∃v',e = .returned v'∧w'.ownsRow w.heap.size ty (D.len τ) v' n cells∧Below w.heap.size w w')
  (hnone:∀(w:World),Calls P f #[.slice none 0 0] w λe w'=>e = .returned (.slice none 0 0)∧w'=w) :
  FOk P (yq8 D f ty τ λ_ xs=>if xs.length<=8388608 then some xs else none):=λn R x k kp r h=>by
 have h:((if x.1.length<=8388608 then some x.1 else none).bind λr=>k (r,()))=some r:=h
 obtain ⟨r0,h1,h2⟩:=zxm h
 split at h1
 case isFalse=>cases h1
 rename_i hlen
 injection h1 with h1
 subst h1
 exact .inl ⟨(x.1,()),h2,yxs hD hpos hbyt hent hcon hnone x.1 hlen _ n⟩
def yo4 (D:Dat) (f ty:Nat) (τ:DTy) (go:Nat->Int->Option (List (τ.S D.T))):FI D :=
 {R:=List (τ.S D.T),ent:=λn=>{f:=f,p:=0,args:=[.nils,.d (.int .i64)],aos:=[],outs:=[.own 0],ros:=[.acc ty τ true],pan:=.nilp,pos:=[],pure:=false,go:=λx k _=>(go n x.1).bind λr=>k (r,())},
   c:=.skip,K:=⟨λ_=>none,[],λ_=>none,λ_ _=>none⟩,p:=0,args:=[],aos:=[],nt:=0,zgb:=λ_=>[],go:=λ_ _=>none}
theorem z033 {P:Program} {D:Dat} {f ty:Nat} {τ:DTy} (hpos:0<D.len τ) (hent:∀args W,(callFunc f args).run P W = .ok (.enter f args) W)
  (hcon:∀(n:Nat) (w:World),n<=8388608->Calls P f #[.slice none 0 0,.int .i64 n] w λe w'=>∃v',e = .returned v'∧w'.ownsRow w.heap.size ty (D.len τ) v' 0 []∧Below w.heap.size w w')
  (m:Int) (hlen:0<=m∧m<=8388608) (go:Nat->Int->Option (List (τ.S D.T))) (n:Nat):((yo4 D f ty τ go).ent n).Flat P ((m,()):HL D.T [.int .i64]) (.inl ((([]:List (τ.S D.T)),()):HL D.T [.sl τ])):=by
 intro lv L E ρ0 vargs k1 k2 k3 k4
 obtain rfl:ρ0=[]:=List.eq_nil_of_length_eq_zero k1
 have k2:VRL D [] lv [.nils,.int .i64 m] vargs:=k2
 simp only [VRL,VR] at k2
 obtain ⟨v,rr,rfl,rfl,v2,r2,rfl,rfl,rfl⟩:=k2
 have hh:=yva (P:=P) (f:=f) (vargs:=[.nils,.int .i64 m]) (lv:=lv) (L:=L) (E:=E) (ty:=ty) (ws:=[]) hpos (λj u hj=>by simp at hj) hent λW g cargs hG hA=>by
  refine ⟨[],⟨by simp,λj y t u hj=>by simp at hj⟩,?_⟩
  obtain ⟨h1,h2⟩:=hA
  have hsz:cargs.toList.length=2:=by simpa using h1
  obtain ⟨a,b,hc⟩:∃a b,cargs.toList=[a,b]:=by
   match h:cargs.toList,hsz with
   |[a,b],_=>exact ⟨a,b,rfl⟩
  have hc':cargs = #[a,b]:=by rw [<-Array.toList_inj,hc]
  subst hc'
  have ha:=h2 0 _ rfl
  have hb:=h2 1 _ rfl
  simp at ha hb
  cases ha
  cases hb
  obtain ⟨q,hq⟩:=Int.eq_ofNat_of_zero_le hlen.1
  rw [hq]
  exact hcon q W (by omega)
 refine hh.mono λout H' ho => ?_
 obtain ⟨L',ρ',e1,e2,e3⟩:=ynd (D:=D) (xs:=([]:List (τ.S D.T))) (ws:=[]) rfl (λj y u hj=>by simp at hj) ho
 exact ⟨L',ρ',e1,e2,(λq hq=>by cases hq),e3⟩
theorem z012 {P:Program} {D:Dat} {f ty:Nat} {τ:DTy} (hpos:0<D.len τ) (hent:∀args W,(callFunc f args).run P W = .ok (.enter f args) W)
  (hcon:∀(n:Nat) (w:World),n<=8388608->Calls P f #[.slice none 0 0,.int .i64 n] w λe w'=>∃v',e = .returned v'∧w'.ownsRow w.heap.size ty (D.len τ) v' 0 []∧Below w.heap.size w w') :
  FOk P (yo4 D f ty τ λ_ n=>if 0<=n∧n<=8388608 then some [] else none):=λn R x k kp r h=>by
 obtain ⟨m,u⟩:=x
 change Int at m
 have h:((if 0<=m∧m<=8388608 then some ([]:List (τ.S D.T)) else none).bind λr=>k (r,()))=some r:=h
 obtain ⟨r0,h1,h2⟩:=zxm h
 split at h1
 case isFalse=>cases h1
 rename_i hlen
 injection h1 with h1
 subst h1
 exact .inl ⟨([],()),h2,z033 hpos hent hcon m hlen _ n⟩
end Go.Ab
namespace Go.Ab
open Go Go.RowKit Go.Sort Go.Proofs
set_option linter.unusedVariables false
set_option linter.unusedSimpArgs false
theorem insert_perm {H:Type} (x:Lit×DataW H):∀l:List (Lit×DataW H),(DataW.insert x l).Perm (x::l)
 |[]=>.refl _
 |y::r=>by
  unfold DataW.insert
  split
  · exact .refl _
  · exact ((insert_perm x r).cons y).trans (.swap x y r)
theorem zw3 {H:Type}:∀l:List (Lit×DataW H),(l.foldr DataW.insert []).Perm l
 |[]=>.refl _
 |x::r=>(insert_perm x _).trans ((zw3 r).cons x)
def zwq {H:Type}:Value->Option (DataW H×List MemPlace):=λ_=>some (.nil,[])
def z00b (D:Dat) (f mt:Nat) (go:Nat->List (List UInt8)->List Bool->Option (List (List UInt8)×List (List UInt8)×List Bool)):FI D :=
 {R:=List (List UInt8)×List (List UInt8)×List Bool,ent:=λn=>{f:=f,p:=1,args:=[.map 0],aos:=[.mp mt .bool],outs:=[.d (.sl .str)],ros:=[.mp mt .bool],pan:=.nilp,pos:=[.mp mt .bool],pure:=false,go:=λx k _=>(go n x.1 x.2.1).bind λr=>k (r.1,r.2.1,r.2.2,())},
   c:=.skip,K:=⟨λ_=>none,[],λ_=>none,λ_ _=>none⟩,p:=0,args:=[],aos:=[],nt:=0,zgb:=λ_=>[],go:=λ_ _=>none}
def ysg (P:Program) (f kt:Nat):Prop:=∀(b:Nat) (es:Array MapEntry) (clock:Nat) (w:World),w.heap[b]? = some (.map es clock)->WideElems.Fit P kt (zwq (H:=Unit)) es clock->es.size<=8388608 ->
 Calls P f #[.map (some b)] w λe w'=>∃(v:Value) (ss:List (List UInt8)),e = .returned v∧ss.Perm (strKeys (DataW.map ((es.toList.map (WideElems.rg P kt (zwq (H:=Unit)))).foldr DataW.insert []))) ∧
  w'.ownsRow w.heap.size kt 1 v ss.length ((ss.mergeSort (λx y=>decide (x<=y))).map encStr)∧Below w.heap.size w w'
theorem z021 {P:Program} {D:Dat} {f mt kt:Nat} (hkt:P.underlying kt=some .string) (hent:∀args W,(callFunc f args).run P W = .ok (.enter f args) W) (hcon:ysg P f kt)
  (ks:List (List UInt8)) (vs:List Bool) (hn:ks.Nodup) (hlv:ks.length=vs.length) (hlen:ks.length<=8388608) (hs:∀s∈ks,s.length<=8388608) (go:Nat->List (List UInt8)->List Bool->Option (List (List UInt8)×List (List UInt8)×List Bool)) (n:Nat) :
  ((z00b D f mt go).ent n).Flat P ((ks,vs,()):HL D.T [.sl .str,.sl .bool]) (.inl ((z01 ks,ks,vs,()):HL D.T [.sl .str,.sl .str,.sl .bool])):=by
 intro lv L E ρ0 vargs k1 k2 k3 k4
 have k1:ρ0.length=1:=k1
 obtain ⟨sl,rfl⟩:=List.length_eq_one_iff.1 k1
 have k2:VRL D [sl] lv [.map 0] vargs:=k2
 simp only [VRL,VR] at k2
 obtain ⟨v,rr,rfl,⟨sl',i,e1,e2,e3⟩,rfl⟩:=k2
 obtain rfl:sl=sl':=by simpa using e1
 subst e3
 obtain ⟨sl',e4,e5⟩:=k3 0 (.mp mt .bool (List.zip ks vs)) (List.mem_cons_self)
 obtain rfl:sl=sl':=by simpa using e4
 have e5':=e5
 simp only [OR] at e5
 obtain ⟨i',ms,o1,o2,o3,o4⟩:=e5
 rw [e2] at o1;injection o1 with o1;subst o1
 have hzl:(List.zip ks vs).map (·.1)=ks:=by rw [List.map_fst_zip];omega
 have hms:ms.map (·.1)=ks:=by
  have h1:List.map (λx:List UInt8×DTy.S D.T .bool=>x.1) (List.zip ks vs)=List.map (λx=>x.1) (ms.map λp=>(p.1,p.2.1)):=congrArg _ o2
  rw [List.map_map] at h1
  exact (h1.symm.trans hzl)
 have hml:ms.length=ks.length:=by rw [<-hms,List.length_map]
 have hlv':L[i]? = some (some (.map (ms.map λp=>(V.str p.1,p.2.2)))):=o4
 intro W g cargs hG hA
 obtain ⟨c,rfl,hc⟩:=z018 hA
 cases hc with
 |map _ _ hd =>
 have hget:yz3.get ⟨lv,L,E⟩ lv i=some (.map (ms.map λp=>(V.str p.1,p.2.2))):=by unfold yz3.get;rw [if_pos rfl,hlv'];rfl
 obtain ⟨en,clock,b1,b2,b3,b4,b5⟩:=hG.obj lv i _ hget
 have hsz:en.size=ks.length:=by rw [b2,List.length_map,hml]
 have key:∀(j:Nat) (s:List UInt8),ks[j]? = some s->∃e,en[j]? = some e∧e.key = .string ⟨s.toArray⟩:=λj s hj=>by
  rw [<-hms,List.getElem?_map,Option.map_eq_some_iff] at hj
  obtain ⟨p,hp,rfl⟩:=hj
  obtain ⟨e,h1,h2,_⟩:=b5 j (V.str p.1,p.2.2) (by rw [List.getElem?_map,hp];rfl)
  refine ⟨e,h1,?_⟩
  generalize hk:e.key=q at h2
  cases h2;rfl
 have keys:en.toList.map (·.key)=ks.map λs=>Value.string ⟨s.toArray⟩:=by
  refine List.ext_getElem? λj => ?_
  rw [List.getElem?_map,List.getElem?_map]
  cases hj:ks[j]? with
  |none =>
   rw [List.getElem?_eq_none_iff] at hj
   rw [List.getElem?_eq_none (by rw [Array.length_toList];omega)];rfl
  |some s =>
   obtain ⟨e,h1,h2⟩:=key j s hj
   rw [Array.getElem?_toList,h1]
   simp [h2]
 have inj:Function.Injective λs:List UInt8=>Value.string ⟨s.toArray⟩:=λa b h=>by
  injection h with h;injection h with h;injection h
 have ft:WideElems.Fit P kt (zwq (H:=Unit)) en clock:=by
  refine ⟨by simp only [maxLen];omega,⟨λe he=>b3 e (by simpa using he),?_,?_⟩,λe he => ?_⟩
  ·rw [List.nodup_iff_pairwise_ne,List.pairwise_iff_getElem]
   intro j k hj hk hjk h
   simp only [List.length_map,Array.length_toList] at hj hk
   have:=b4 j k en[j] en[k] (Array.getElem?_eq_getElem hj) (Array.getElem?_eq_getElem hk) (by simpa using h)
   omega
  ·rw [keys]
   exact List.pairwise_map.2 (List.Pairwise.imp (λ{a b} h e=>h (inj e)) hn)
  ·obtain ⟨j,hj,e1⟩:=List.mem_iff_getElem.1 he
   have hj':j<ks.length:=by rw [Array.length_toList] at hj;omega
   obtain ⟨e',h1,h2⟩:=key j _ (List.getElem?_eq_getElem hj')
   have:e'=e:=by
    rw [Array.length_toList] at hj
    rw [Array.getElem?_eq_getElem hj] at h1
    injection h1 with h1
    rw [<-h1,<-e1];simp
   subst this
   have hbs:=hs _ (List.getElem_mem hj')
   refine ⟨(.string (ks[j]'hj'),.nil),?_⟩
   unfold WideElems.rd
   rw [h2]
   have hk:keyOf P kt (.string ⟨(ks[j]'hj').toArray⟩)=some (.string (ks[j]'hj')):=by
    unfold keyOf
    rw [hkt]
    show mapKey P kt _=_
    unfold mapKey
    rw [hkt]
    simp [ByteArray.size,maxLen]
    omega
   rw [hk];rfl
 have rgs:en.toList.map (WideElems.rg P kt (zwq (H:=Unit)))=ks.map λs=>(Lit.string s,DataW.nil):=by
  refine List.ext_getElem? λj => ?_
  rw [List.getElem?_map,List.getElem?_map]
  cases hj:ks[j]? with
  |none =>
   rw [List.getElem?_eq_none_iff] at hj
   rw [List.getElem?_eq_none (by rw [Array.length_toList];omega)];rfl
  |some s =>
   obtain ⟨e,h1,h2⟩:=key j s hj
   rw [Array.getElem?_toList,h1]
   have hbs:=hs s (List.mem_of_getElem? hj)
   have hk:keyOf P kt (.string ⟨s.toArray⟩)=some (.string s):=by
    unfold keyOf
    rw [hkt]
    show mapKey P kt _=_
    unfold mapKey
    rw [hkt]
    simp [ByteArray.size,maxLen]
    omega
   have:WideElems.rd P kt (zwq (H:=Unit)) e=some (.string s,.nil):=by
    unfold WideElems.rd;rw [h2,hk];rfl
   simp [WideElems.rg,this]
 refine ⟨hent _ _,(hcon (g.blk lv i) en clock W b1 ft (by omega)).mono ?_⟩
 rintro e W' ⟨v',ss,rfl,hperm,⟨r0,hrow⟩,hb⟩
 have hgr:=y15 hb
 have hpk:ss.Perm ks:=by
  refine hperm.trans ?_
  rw [rgs]
  show (((ks.map λs=>(Lit.string s,(DataW.nil:DataW Unit))).foldr DataW.insert []).map λp=>strOf p.1).Perm ks
  refine ((zw3 _).map _).trans ?_
  rw [List.map_map]
  have:(ks.map ((λp:Lit×DataW Unit=>strOf p.1)∘λs=>(Lit.string s,DataW.nil)))=ks:=by
   conv=>rhs;rw [<-List.map_id ks]
   rfl
  rw [this]
 have hsort:ss.mergeSort (λx y=>decide (x<=y))=z01 ks:=by
  show z01 ss=z01 ks
  exact zk9 (zif (hpk.nodup_iff.2 hn)) (zif hn) λx=>by rw [(zd6 ss).mem_iff,(zd6 ks).mem_iff,hpk.mem_iff]
 rw [hsort] at r0 hrow
 have hsl:(z01 ks).length=ss.length:=by rw [(zd6 ks).length_eq,hpk.length_eq]
 have left:Left D lv L [sl] 1 L [sl] [.mp mt .bool] ((ks,vs,()):HL D.T [.sl .str,.sl .bool]):=by
  refine ⟨rfl,λj o hm => ?_,k4,λs t j r1 c1=>.inr ⟨s,t,r1,c1⟩,λj hj _=>⟨hj,rfl⟩,λj t hj ht=>ht⟩
  have hm:(j,o)∈[(0,(TO.mp mt .bool (List.zip ks vs):TO D.T))]:=hm
  simp only [List.mem_singleton,Prod.mk.injEq] at hm
  obtain ⟨rfl,rfl⟩:=hm
  exact ⟨sl,rfl,e5'⟩
 refine ⟨.ret (.sl 1 ((z01 ks).map V.str) false),⟨lv,L,E⟩,g,⟨L,[sl],rfl,left,(λq hq=>by cases hq),[.sl 1 ((z01 ks).map V.str) false],rfl,?_⟩,hgr.step,hG.grow hgr,v',rfl,?_⟩
 ·show VRL D [sl] lv [.sl .str (z01 ks) 0] _
  simp only [VRL,VR]
  exact ⟨_,_,rfl,⟨DR.elsl .str _ λx=>.str x,λh=>(by omega),λh=>(by omega)⟩,rfl⟩
 ·rcases hrow with ⟨rfl,hn0⟩|⟨gb,cap,cur,rfl,hbase,hgb,hnc,hcap,hcs,htk⟩
  ·have:z01 ks=[]:=List.eq_nil_of_length_eq_zero (by omega)
   rw [this];exact .slnil 1 false
  ·have hown:¬Own g ⟨lv,L,E⟩ gb:=by
    rintro ⟨l',i',o',h1,h2⟩
    have:=hG.lt l' i' o' h1
    omega
   rw [show ss.length=((z01 ks).map V.str).length by rw [List.length_map,hsl]]
   have cell:∀(j:Nat) (s:List UInt8),(z01 ks)[j]? = some s->W'.cell? ⟨gb,0+j * 1+0,none⟩=some (.string ⟨s.toArray⟩):=λj s hj=>by
    have h1:((z01 ks).map encStr)[j]? = some (.string ⟨s.toArray⟩):=by rw [List.getElem?_map,hj];rfl
    rw [<-htk,List.getElem?_take] at h1
    split at h1
    ·rw [Array.getElem?_toList] at h1
     unfold World.cell?
     simp only [hgb]
     simpa using h1
    ·cases h1
   refine .sl 1 _ false gb 0 cap (λj _=>.string ⟨((z01 ks)[j]?.getD []).toArray⟩) hown (by omega) (by rw [List.length_map,hsl];exact hnc) (λh=>by cases h) (λj x hj => ?_) (λj x t u hj ht => ?_) (λj x t u hj ht => ?_) λj x t u hj ht => ?_
   all_goals rw [List.getElem?_map,Option.map_eq_some_iff] at hj;obtain ⟨s,hs1,rfl⟩:=hj
   ·rfl
   ·have ht0:t=0:=by
     have:=(List.getElem?_eq_some_iff.1 ht).1
     simp [V.cells] at this;exact this
    subst ht0
    rw [hs1];exact cell j s hs1
   ·rw [hs1];rfl
   ·have ht0:t=0:=by
     have:=(List.getElem?_eq_some_iff.1 ht).1
     simp [V.cells] at this;exact this
    subst ht0
    simp only [V.cells,List.getElem?_cons_zero,Option.some.injEq] at ht
    subst ht
    rw [hs1];exact .str s
theorem z06i {P:Program} {D:Dat} {f mt kt:Nat} (hkt:P.underlying kt=some .string) (hent:∀args W,(callFunc f args).run P W = .ok (.enter f args) W) (hcon:ysg P f kt) :
  FOk P (z00b D f mt λ_ ks vs=>if ks.Nodup∧ks.length=vs.length∧ks.length<=8388608∧(∀s∈ks,s.length<=8388608) then some (z01 ks,ks,vs) else none):=λn R x k kp r h=>by
 obtain ⟨ks,vs,u⟩:=x
 change List (List UInt8) at ks
 change List Bool at vs
 have h:((if ks.Nodup∧ks.length=vs.length∧ks.length<=8388608∧(∀s∈ks,s.length<=8388608) then some (z01 ks,ks,vs) else none).bind λr=>k (r.1,r.2.1,r.2.2,()))=some r:=h
 obtain ⟨r0,h1,h2⟩:=zxm h
 split at h1
 case isFalse=>cases h1
 rename_i hh
 obtain ⟨a1,a2,a3,a4⟩:=hh
 injection h1 with h1
 subst h1
 exact .inl ⟨(z01 ks,ks,vs,()),h2,z021 hkt hent hcon ks vs a1 a2 a3 a4 _ n⟩
end Go.Ab
