/-
  slices.Sort OF STRINGS ON A SLICE OF OURS, out of a contract of the kit's kind.
-/
import Derived.Test.YthlmhmebajjkbaaGreatDoorLib8
import Derived.Shelf.Sort.Plain
import Derived.Sort.Walk0
import Derived.Laws.AppendOwn
import Derived.Maps.Own
import Derived.Sort.KeysCollected
namespace Go.Ab
open Go Go.RowKit Go.Sort Go.Proofs
set_option linter.unusedVariables false
set_option linter.unusedSimpArgs false
def zzw (ss:List (List UInt8)):List (List UInt8):=ss.mergeSort λx y=>decide (x<=y)
theorem zei (ss:List (List UInt8)):(zzw ss).Perm ss:=List.mergeSort_perm _ _
theorem yic {P:Program} {f ty:Nat} (hent:∀args W,(callFunc f args).run P W = .ok (.enter f args) W)
  (hcon:∀(blk cap:Nat) (ss:List (List UInt8)) (w:World),Holds encStr w blk 0 ss.toArray->blk<w.heap.size->ss.length<4611686018427387904 ->
   Calls P f #[.slice (some ⟨blk,0,none⟩) ss.length cap] w λe w'=>e = .returned (.tuple #[])∧∃n os,w'=grow (putRow encStr (Sort.ahead w n) blk 0 (ss.mergeSort λx y=>decide (x<=y)).toArray) os)
  {lv k ver n:Nat} {L:List (Option kz2)} {E:Nat->Nat->Option kz2} {xs:List (List UInt8)} {cp:Option Nat} (hL:L[k]? = some (some (.arr ver ty 1 (xs.map V.str) cp))) (hlen:xs.length<4611686018427387904) (hn:n=xs.length) :
  zn2 P f [.hs lv k ver 0 n false] ⟨lv,L,E⟩ λo H'=>o = .ret (.tup [])∧H'=⟨lv,L.set k (some (.arr ver ty 1 ((zzw xs).map V.str) cp)),E⟩:=by
 intro W g cargs hG hR;have hg:(⟨lv,L,E⟩:Heap).get lv k=some (.arr ver ty 1 (xs.map V.str) cp):=by simp [Heap.get,hL]
 obtain ⟨x,rfl,h0⟩:∃x,cargs = #[x]∧Rel W g ⟨lv,L,E⟩ (.hs lv k ver 0 n false) x:=by
  obtain ⟨h1,h2⟩:=hR;have hsz:cargs.toList.length=1:=by simpa using h1
  obtain ⟨c,hc⟩:=List.length_eq_one_iff.1 hsz;have hc':cargs = #[c]:=by rw [<-Array.toList_inj,hc]
  subst hc';exact ⟨c,rfl,by simpa using h2 0 _ rfl⟩
 refine ⟨hent _ _,?_⟩
 cases h0 with
 |hs _ _ _ _ _ _ a m cap hd hv ha=>
  obtain ⟨rfl,rfl,⟨a1,a2,_⟩,a3⟩:=ha _ _ _ _ hg;obtain ⟨cur,k1,k2,k3,k3',k4,k5,k6,k7,k8⟩:=hG.obj _ _ _ hg;rw [Qaz] at k4
  have hH:Holds encStr W (g.ab lv k) 0 xs.toArray:=λj hj=>by
   have hj':j<xs.length:=by simpa using hj
   have e1:(xs.map V.str)[j]? = some (.str xs[j]):=by rw [Qal,Qab hj'];rfl
   have e2:=k8 j _ 0 (.str xs[j]) e1 rfl;have hlt:j<cur.size:=by rw [k3];omega
   refine ⟨?_,by simp [World.frozen?,k1]⟩;rw [getElem!_pos xs.toArray j hj]
   cases e2h:cur.getD (j * 1+0) undef with
   |string s=>
    rw [e2h] at e2;cases e2;rw [Qad] at e2h;rw [show j * 1+0=j by omega,Qaq hlt] at e2h;simp only [Option.getD_some] at e2h
    simp [World.cell?,k1,hlt,e2h,encStr]
   |_=>rw [e2h] at e2;cases e2
  have hb:g.ab lv k<W.heap.size:=(Qbi.1 k1).1;have hc:=hcon (g.ab lv k) cap xs W hH hb hlen;have hsp:=zei xs;have hsl:(zzw xs).length=xs.length:=hsp.length_eq;subst hn;refine hc.mono ?_
  rintro e W' ⟨rfl,nn,os,rfl⟩
  have hheap:(grow (putRow encStr (Sort.ahead W nn) (g.ab lv k) 0 (zzw xs).toArray) os).heap=W.heap.modify (g.ab lv k) (onCells (Go.Sort.putCells encStr 0 (zzw xs).toArray))++os:=rfl
  have hW':(grow (putRow encStr (Sort.ahead W nn) (g.ab lv k) 0 (zzw xs).toArray) os).heap[g.ab lv k]? = some (.cells (Go.Sort.putCells encStr 0 (zzw xs).toArray cur) ty (0,0)):=by
   rw [hheap,Array.getElem?_append_left (by simpa using hb),Array.getElem?_modify,Qbp rfl,k1];rfl
  have hcur:∀j (hj:j<(zzw xs).length),(Go.Sort.putCells encStr 0 (zzw xs).toArray cur).getD (j * 1+0) undef = .string ⟨((zzw xs)[j]).toArray⟩:=λj hj=>by
   have hlt2:j * 1+0<cur.size:=by rw [k3];omega
   rw [Qad,Go.Sort.putCells,Array.getElem?_mapIdx,Qaq hlt2];simp only [Qbl,Option.getD_some,Nat.sub_zero];rw [Qbp ⟨Qbn _,by simp;omega⟩,getElem!_pos (zzw xs).toArray _ (by simp;omega)];simp [encStr]
  have hys:∀(j:Nat) (x:V),((zzw xs).map V.str)[j]? = some x->∃hj:j<(zzw xs).length,x = .str (zzw xs)[j]:=λj x hj=>by
   rw [Qal,Qae] at hj;obtain ⟨y,hy,rfl⟩:=hj;obtain ⟨h1,h2⟩:=Qaa.1 hy;exact ⟨h1,by rw [h2]⟩
  obtain ⟨q1,q2⟩:=zfh (W':=grow (putRow encStr (Sort.ahead W nn) (g.ab lv k) 0 (zzw xs).toArray) os) hG (o':=.arr ver ty 1 ((zzw xs).map V.str) cp) hg rfl rfl rfl rfl (by rw [hheap];simp) (λb hb1 hb2=>by
    rw [hheap,Array.getElem?_append_left (by simpa using hb1),Array.getElem?_modify,Qbq (λh=>hb2 h.symm)])
   (λver ty sz zs cp' he=>by injection he with e1 e2 e3 e4 e5;subst e1;subst e2;subst e3;subst e4;exact ⟨_,_,_,rfl,Qbo _,λ_=>by simp [hsl]⟩) (λhst=>by
   refine ⟨_,hW',by decide,by rw [Go.Sort.putCells,Array.size_mapIdx];exact k3,k3',by rw [Qaz,hsl];exact k4,k5,λj x hj => ?_,λj x t v hj htv => ?_,λj x t v hj htv => ?_⟩
   · obtain ⟨_,rfl⟩:=hys j x hj;rfl
   · obtain ⟨hj',rfl⟩:=hys j x hj
     have ht:t=0:=by
      cases t with
      |zero=>rfl
      |succ t=>simp [V.cells] at htv
     subst ht;rw [hcur j hj'];rfl
   · obtain ⟨hj',rfl⟩:=hys j x hj
     have ht:t=0:=by
      cases t with
      |zero=>rfl
      |succ t=>simp [V.cells] at htv
     subst ht;simp [V.cells] at htv;subst htv;rw [hcur j hj']
     exact .str _)
  refine ⟨.ret (.tup []),_,g,⟨rfl,rfl⟩,?_,?_,_,rfl,.tup [] #[] rfl (by simp)⟩
  · have:=q1;simp only [Heap.set,Qbp] at this;exact this
  · have:=q2;simp only [Heap.set,Qbp] at this;exact this
def ybz (D:Dat) (f ty:Nat) (go:Nat->List (List UInt8)->Option (List (List UInt8))):FI D :=
 {R:=List (List UInt8),ent:=λn=>{f:=f,p:=0,args:=[.own 0],aos:=[.acc ty .str true],outs:=[],ros:=[.acc ty .str true],pan:=.nilp,pos:=[.acc ty .str true],pure:=false,go:=λx k _=>(go n x.1).bind λr=>k (r,()),ren:=[(0,0)]},
   c:=.skip,K:=⟨λ_=>none,[],λ_=>none,λ_ _=>none⟩,p:=0,args:=[],aos:=[],nt:=0,z5h:=λ_=>[],go:=λ_ _=>none}
theorem yih {D:Dat} {xs:List (List UInt8)} {ws:List V} (hl:ws.length=xs.length) (h:∀(j:Nat) (x:List UInt8) (v:V),xs[j]? = some x->ws[j]? = some v->DR D .str x v):ws=xs.map V.str:=by
 refine List.ext_getElem? λj => ?_
 rw [Qal]
 cases hx:xs[j]? with
 |none=>
  rw [List.getElem?_eq_none_iff] at hx;simp only [Option.map_none]
  rw [List.getElem?_eq_none_iff];omega
 |some x=>
  have hlt:=(Qaa.1 hx).1;have hw:ws[j]? = some ws[j]:=Qab (by omega);have:=h j x _ hx hw;rw [hw]
  cases hv:ws[j] with
  |str s=>rw [hv] at this;cases this;rfl
  |_=>rw [hv] at this;cases this
theorem yf1 {P:Program} {D:Dat} {f ty:Nat} (hent:∀args W,(callFunc f args).run P W = .ok (.enter f args) W)
  (hcon:∀(blk cap:Nat) (ss:List (List UInt8)) (w:World),Holds encStr w blk 0 ss.toArray->blk<w.heap.size->ss.length<4611686018427387904 ->
   Calls P f #[.slice (some ⟨blk,0,none⟩) ss.length cap] w λe w'=>e = .returned (.tuple #[])∧∃n os,w'=grow (putRow encStr (Sort.ahead w n) blk 0 (ss.mergeSort λx y=>decide (x<=y)).toArray) os)
  (hnone:∀(p:Option Addr) (cap:Nat) (w:World),Calls P f #[.slice p 0 cap] w λe w'=>e = .returned (.tuple #[])∧w'=w)
  (xs:List (List UInt8)) (hlen:xs.length<4611686018427387904) (go:Nat->List (List UInt8)->Option (List (List UInt8))) (n:Nat):((ybz D f ty go).ent n).Flat P ((xs,()):HL D.T [.sl .str]) (.inl ((zzw xs,()):HL D.T [.sl .str])):=λlv L E ρ0 vargs k1 k2 k3 k4=>by
 have k1:ρ0.length=1:=k1;obtain ⟨sl,rfl⟩:=List.length_eq_one_iff.1 k1;have k2:VRL D [sl] lv [.own 0] vargs:=k2;simp only [VRL,VR] at k2;obtain ⟨v,rr,rfl,⟨sl',e1,e2,e3⟩,rfl⟩:=k2;obtain rfl:sl=sl':=by simpa using e1
 subst e2;obtain ⟨sl',e4,e5⟩:=k3 0 (.acc ty .str xs true) (Qai);obtain rfl:sl=sl':=by simpa using e4
 simp only [OR] at e5;obtain ⟨o1,o2,o3⟩:=e5;have o1:sl.ws.length=xs.length:=o1;have o2:∀(j:Nat) (x:List UInt8) (v:V),xs[j]? = some x->sl.ws[j]? = some v->DR D .str x v:=o2;have hws:=yih o1 o2;have hsl:(zzw xs).length=xs.length:=(zei xs).length_eq
 have left:∀(L':List (Option kz2)) (sl':Slot),sl'.v=sl.v->sl'.k=sl.k->sl'.fp=[]->sl'.ws=(zzw xs).map V.str->(∀i,(∀j,sl.k=some j->j≠i)->L'[i]? = L[i]?)->L'.length=L.length ->
   (match sl'.k with
   |none=>(sl'.v = .nils∧sl'.ws=[])∨((sl'.v = .sl (D.len .str) sl'.ws true∧DTy.str ≠ .int .u8)∧(True->sl'.ws=[]))
   |some i=>∃ver cp,sl'.v = .hs lv i ver 0 sl'.ws.length false∧L'[i]? = some (some (.arr ver ty (D.len .str) sl'.ws cp))) ->
   Left D lv L [sl] 0 L' [sl'] [.acc ty .str true] ((zzw xs,()):HL D.T [.sl .str])∧(∀q∈[((0:Nat),(0:Nat))],∀s0,[sl][q.1]? = some s0->∃s1,[sl'][q.2]? = some s1∧s1.v=s0.v):=λL' sl' a1 a2 a0 a3 a4 a5 a6=>by
  refine ⟨⟨rfl,λj o hm => ?_,λs s' t t' i r1 r2 _ _ => ?_,λs t i r1 c1 => ?_,λi hi hno => ?_,λj t hj=>absurd hj (Nat.not_lt_zero _),λs t i r1 c1 => ?_⟩,λq hq s0 hs0 => ?_⟩
  ·have hm:(j,o)∈[(0,(TO.acc ty .str (zzw xs) true:TO D.T))]:=hm;simp only [List.mem_singleton,Qbr] at hm;obtain ⟨rfl,rfl⟩:=hm;refine ⟨sl',rfl,?_⟩;simp only [OR];refine ⟨by rw [a3];exact Qaz _,λj y v hy hv => ?_,a6⟩;have hy:(zzw xs)[j]? = some y:=hy;rw [a3,Qal,hy] at hv;injection hv with hv;subst hv;exact .str _
  ·have l1:=(Qaa.1 r1).1;have l2:=(Qaa.1 r2).1;simp at l1 l2;omega
  ·have l1:=(Qaa.1 r1).1;have:s=0:=by simp at l1;omega
   subst this;obtain rfl:sl'=t:=by simpa using r1
   exact .inr ⟨0,sl,rfl,.inl (by rw [<-a2];exact Slot.zvz a0 c1)⟩
  ·refine ⟨by rw [a5];exact hi,a4 i λj hj hji=>hno 0 sl rfl (.inl (by rw [hj,hji]))⟩
  ·have l1:=(Qaa.1 r1).1;have:s=0:=by simp at l1;omega
   subst this;obtain rfl:sl'=t:=by simpa using r1
   rw [a0] at c1;cases c1
  ·simp only [List.mem_singleton] at hq;subst hq;obtain rfl:sl=s0:=by simpa using hs0
   exact ⟨sl',rfl,a1⟩
 have nothing:xs=[]->(∀W g cargs,zgl W g ⟨lv,L,E⟩ [sl.v] cargs->∃p cap,cargs = #[.slice p 0 cap])->zn2 P f [sl.v] ⟨lv,L,E⟩ λout H'=>∃L' ρ',H'=⟨lv,L',E⟩∧(Left D lv L [sl] 0 L' ρ' [.acc ty .str true] ((zzw xs,()):HL D.T [.sl .str])∧(∀q∈[((0:Nat),(0:Nat))],∀s0,[sl][q.1]? = some s0->∃s1,ρ'[q.2]? = some s1∧s1.v=s0.v)∧∃vs,out = .ret (z7d vs)∧VRL D ρ' lv [] vs):=λhx hc W g cargs hG hR=>by
  obtain ⟨p,cap,rfl⟩:=hc W g cargs hR;refine ⟨hent _ _,(hnone p cap W).mono ?_⟩
  rintro e W' ⟨rfl,rfl⟩
  have hs:zzw xs=[]:=Qam (by rw [hsl,hx];rfl);obtain ⟨l1,l2⟩:=left L ⟨sl.v,sl.k,sl.ws,[]⟩ rfl rfl rfl (by show sl.ws=_;rw [hs,hws,hx]) (λ_ _=>rfl) rfl o3;exact ⟨.ret (.tup []),⟨lv,L,E⟩,g,⟨L,[⟨sl.v,sl.k,sl.ws,[]⟩],rfl,l1,l2,[],rfl,(by simp only [VRL]:VRL D [⟨sl.v,sl.k,sl.ws,[]⟩] lv [] [])⟩,.refl _ _ _,hG,_,rfl,.tup [] #[] rfl (by simp)⟩
 have one:∀{W:World} {g:Gh} {cargs:Array Value},zgl W g ⟨lv,L,E⟩ [sl.v] cargs->∃c,cargs = #[c]∧Rel W g ⟨lv,L,E⟩ sl.v c:=λ{W g cargs} hR=>by
  obtain ⟨h1,h2⟩:=hR;have hsz:cargs.toList.length=1:=by simpa using h1
  obtain ⟨c,hc⟩:=List.length_eq_one_iff.1 hsz;have hc':cargs = #[c]:=by rw [<-Array.toList_inj,hc]
  subst hc';exact ⟨c,rfl,by simpa using h2 0 _ rfl⟩
 cases hk:sl.k with
 |none=>
  rw [hk] at o3
  rcases o3 with ⟨v1,v2⟩|⟨v1,v2⟩
  · refine nothing (by rw [hws] at v2;simpa using v2) λW g cargs hR => ?_
    obtain ⟨c,rfl,hc⟩:=one hR;rw [v1] at hc;cases hc;exact ⟨_,_,rfl⟩
  · have v3:=v2 trivial;refine nothing (by rw [hws] at v3;simpa using v3) λW g cargs hR => ?_
    obtain ⟨c,rfl,hc⟩:=one hR;rw [v1.1,v3] at hc
    cases hc with
    |slnil=>exact ⟨_,_,rfl⟩
    |sle _ _ a cap hf=>exact ⟨_,_,rfl⟩
    |sl _ _ _ b o cap c=>exact ⟨_,_,rfl⟩
 |some i=>
  rw [hk] at o3;obtain ⟨ver,cp,v1,v2⟩:=o3;have hi:=(Qaa.1 v2).1;rw [hws] at v2;have hh:=yic (P:=P) (f:=f) (ty:=ty) hent hcon (lv:=lv) (E:=E) (n:=sl.ws.length) v2 hlen (by rw [hws];simp);rw [<-v1] at hh;refine hh.mono λo H' ⟨e1,e2⟩ => ?_
  subst e1;subst e2
  obtain ⟨l1,l2⟩:=left (L.set i (some (.arr ver ty 1 ((zzw xs).map V.str) cp))) ⟨sl.v,sl.k,(zzw xs).map V.str,[]⟩ rfl rfl rfl rfl (λj hj=>Qak (hj i hk)) (by simp) (by
   simp only [hk]
   exact ⟨ver,cp,by rw [v1,hws];simp [hsl],by simp [hi,Dat.len]⟩)
  exact ⟨_,[⟨sl.v,sl.k,(zzw xs).map V.str,[]⟩],rfl,l1,l2,[],rfl,(by simp only [VRL]:VRL D [⟨sl.v,sl.k,(zzw xs).map V.str,[]⟩] lv [] [])⟩
theorem yig {P:Program} {D:Dat} {f ty:Nat} (hent:∀args W,(callFunc f args).run P W = .ok (.enter f args) W)
  (hcon:∀(blk cap:Nat) (ss:List (List UInt8)) (w:World),Holds encStr w blk 0 ss.toArray->blk<w.heap.size->ss.length<4611686018427387904 ->
   Calls P f #[.slice (some ⟨blk,0,none⟩) ss.length cap] w λe w'=>e = .returned (.tuple #[])∧∃n os,w'=grow (putRow encStr (Sort.ahead w n) blk 0 (ss.mergeSort λx y=>decide (x<=y)).toArray) os)
  (hnone:∀(p:Option Addr) (cap:Nat) (w:World),Calls P f #[.slice p 0 cap] w λe w'=>e = .returned (.tuple #[])∧w'=w) :
  FOk P (ybz D f ty λ_ xs=>if xs.length<4611686018427387904 then some (zzw xs) else none):=λn R x k kp r h=>by
 have h:((if x.1.length<4611686018427387904 then some (zzw x.1) else none).bind λr=>k (r,()))=some r:=h;obtain ⟨r0,h1,h2⟩:=zkn h;split at h1
 ·rename_i hlen;injection h1 with h1;subst h1;exact .inl ⟨(zzw x.1,()),h2,yf1 hent hcon hnone x.1 hlen _ n⟩
 ·cases h1
end Go.Ab
namespace Go.Ab
open Go
def ycx (x:List UInt8):List (List UInt8)->List (List UInt8)
 |[]=>[x]
 |y::l=>if decide (x<=y)=true then x::y::l else y::ycx x l
def y3f:List (List UInt8)->List (List UInt8)
 |[]=>[]
 |x::l=>ycx x (y3f l)
theorem zt6 (x:List UInt8):∀l,(ycx x l).Perm (x::l)
 |[]=>.refl _
 |y::l=>by
  unfold ycx;split
  · exact .refl _
  · exact ((zt6 x l).cons y).trans (.swap x y l)
theorem zy9:∀l,(y3f l).Perm l
 |[]=>.refl _
 |x::l=>(zt6 x _).trans ((zy9 l).cons x)
theorem yga (x y:List UInt8):(decide (x<=y)||decide (y<=x))=true:=by
 rcases List.le_total x y with h|h <;> simp [h]
theorem y93 (x:List UInt8):∀l,l.Pairwise (λx y=>decide (x<=y)=true)->(ycx x l).Pairwise λx y=>decide (x<=y)=true
 |[],_=>by simp [ycx]
 |y::l,h=>by
  have ih:=y93 x l (List.pairwise_cons.1 h).2;unfold ycx;split
  · rename_i hxy;refine List.pairwise_cons.2 ⟨λz hz => ?_,h⟩
    rcases Qbg.1 hz with rfl|hz
    · exact hxy
    · have:=(List.pairwise_cons.1 h).1 z hz;exact decide_eq_true (List.le_trans (Qac hxy) (Qac this))
  · rename_i hxy;refine List.pairwise_cons.2 ⟨λz hz => ?_,ih⟩
    rcases Qbg.1 ((zt6 x l).mem_iff.1 hz) with rfl|hz
    · have:=yga z y;rw [Bool.or_eq_true] at this;exact this.resolve_left hxy
    · exact (List.pairwise_cons.1 h).1 z hz
theorem y3e:∀l,(y3f l).Pairwise λx y=>decide (x<=y)=true
 |[]=>.nil
 |x::l=>y93 x _ (y3e l)
theorem y9y (l:List (List UInt8)):y3f l=zzw l:=by
 refine List.Perm.eq_of_pairwise (le:=λx y=>decide (x<=y)=true) (λa b _ _ h1 h2=>List.le_antisymm (Qac h1) (Qac h2)) (y3e l) ?_ ((zy9 l).trans (zei l).symm);exact List.pairwise_mergeSort (le:=λx y=>decide (x<=y)) (λa b c h1 h2=>decide_eq_true (List.le_trans (Qac h1) (Qac h2))) yga l
set_option linter.unusedVariables false
set_option linter.unusedSimpArgs false
theorem zo2:∀a:List UInt8,Op.bytesLess a a=false
 |[]=>rfl
 |x::a=>by simp [Op.bytesLess,zo2 a]
theorem zyn:∀{a b c:List UInt8},Op.bytesLess a b=true->Op.bytesLess b c=true->Op.bytesLess a c=true
 |_,[],_,h,_=>by simp [Op.bytesLess] at h
 |_,_::_,[],_,h=>by simp [Op.bytesLess] at h
 |[],_::_,_::_,_,_=>by simp [Op.bytesLess]
 |x::a,y::b,z::c,h1,h2=>by
  simp only [Op.bytesLess,Bool.or_eq_true,Qap,Qaf,Qbh] at h1 h2 ⊢
  rcases h1 with h1|⟨rfl,h1⟩
  · rcases h2 with h2|⟨rfl,h2⟩
    · exact .inl (by rw [UInt8.lt_iff_toNat_lt] at *;omega)
    · exact .inl h1
  · rcases h2 with h2|⟨rfl,h2⟩
    · exact .inl h2
    · exact .inr ⟨rfl,zyn h1 h2⟩
theorem zwo:∀{a b:List UInt8},Op.bytesLess a b=false->Op.bytesLess b a=false->a=b
 |[],[],_,_=>rfl
 |[],_::_,h,_=>by simp [Op.bytesLess] at h
 |_::_,[],_,h=>by simp [Op.bytesLess] at h
 |x::a,y::b,h1,h2=>by
  simp only [Op.bytesLess,Bool.or_eq_false_iff,decide_eq_false_iff_not,Bool.and_eq_false_iff,beq_eq_false_iff_ne] at h1 h2;have hxy:x=y:=UInt8.toNat_inj.1 (by have:=h1.1;have:=h2.1;simp only [UInt8.lt_iff_toNat_lt] at *;omega);subst hxy
  have e1:Op.bytesLess a b=false:=by rcases h1.2 with h|h;exact absurd rfl h;exact h
  have e2:Op.bytesLess b a=false:=by rcases h2.2 with h|h;exact absurd rfl h;exact h
  rw [zwo e1 e2]
theorem y8t {a b:List UInt8} (h:Op.bytesLess a b=true):Op.bytesLess b a=false:=by
 cases h2:Op.bytesLess b a
 ·rfl
 ·have:=zyn h h2;rw [zo2] at this;cases this
theorem ydt {a b c:List UInt8} (h1:Op.bytesLess a b=false) (h2:Op.bytesLess b c=false):Op.bytesLess a c=false:=by
 cases h:Op.bytesLess a c
 ·rfl
 ·cases h3:Op.bytesLess b a
  ·rw [zwo h1 h3] at h;rw [h] at h2;cases h2
  ·rw [zyn h3 h] at h2;cases h2
theorem ydg (x y:List UInt8):decide (x<=y) = !Op.bytesLess y x:=by
 rw [Go.Proofs.bytesLess_eq];by_cases h:y<x
 ·have:¬x<=y:=List.not_le.2 h;simp [h,this]
 ·have:x<=y:=List.not_lt.1 h;simp [h,this]
def y7g (l:List (List UInt8)):Prop:=l.Pairwise λx y=>Op.bytesLess x y=true
theorem zp0:∀{l m:List (List UInt8)},y7g l->y7g m->(∀x,x∈l↔x∈m)->l=m
 |[],[],_,_,_=>rfl
 |[],y::m,_,_,h=>by have:=(h y).2 Qai;cases this
 |x::l,[],_,_,h=>by have:=(h x).1 Qai;cases this
 |x::l,y::m,h1,h2,h=>by
  have a1:=List.pairwise_cons.1 h1;have a2:=List.pairwise_cons.1 h2
  have hxy:x=y:=by
   rcases Qbg.1 ((h x).1 Qai) with e|e
   · exact e
   · rcases Qbg.1 ((h y).2 Qai) with e'|e'
     · exact e'.symm
     · have b1:=a2.1 x e;have b2:=a1.1 y e';rw [y8t b1] at b2;cases b2
  subst hxy;refine congrArg (x :: ·) (zp0 a1.2 a2.2 λz=>⟨λhz => ?_,λhz => ?_⟩)
  · rcases Qbg.1 ((h z).1 (Qag _ hz)) with e|e
    · subst e;have:=a1.1 z hz;rw [zo2] at this;cases this
    · exact e
  · rcases Qbg.1 ((h z).2 (Qag _ hz)) with e|e
    · subst e;have:=a2.1 z hz;rw [zo2] at this;cases this
    · exact e
theorem zr7 {l:List (List UInt8)} (h:l.Nodup):y7g (zzw l):=by
 have hp:(zzw l).Pairwise λx y=>decide (x<=y)=true:=List.pairwise_mergeSort (λa b c h1 h2=>by
  rw [ydg,Bool.not_eq_true'] at *
  exact ydt h2 h1) (λa b=>by
  rw [ydg,ydg];cases h:Op.bytesLess b a
  ·rfl
  ·rw [y8t h];rfl) l
 have hn:(zzw l).Nodup:=(zei l).nodup_iff.2 h;unfold y7g;refine List.Pairwise.imp₂ (R:=λx y=>decide (x<=y)=true) (S:=(· ≠ ·)) (λx y h1 h2 => ?_) hp hn;rw [ydg,Bool.not_eq_true'] at h1;cases h3:Op.bytesLess x y
 ·exact (h2 (zwo h3 h1)).elim
 ·rfl
end Go.Ab
namespace Go.Ab
open Go Go.RowKit
set_option linter.unusedVariables false
set_option linter.unusedSimpArgs false
theorem zkb {W W':World} (h:Below W.heap.size W W'):Grow W W':=⟨h.os,h.tape,h.output,h.size,h.block⟩
theorem good_row {W W':World} {g:Gh} {H:Heap} (hG:Good W g H) (hgr:Grow W W') {gb:Nat} (h1:W.heap.size<=gb) (h2:gb<W'.heap.size) {o:kz2} (c:Nat)
  (ho:∀(g':Gh) (H':Heap),g'=g.add H.lv H.L.length gb c->H'=H.push o->Step W g H W' g' H'->zeb W' g' H' H.lv H.L.length o) :
  Step W g H W' (g.add H.lv H.L.length gb c) (H.push o)∧Good W' (g.add H.lv H.L.length gb c) (H.push o):=by
 have hnew:¬g.dom H.lv H.L.length:=λh=>by rcases hG.fresh _ _ h with h|⟨_,h⟩ <;> omega
 have hne:∀l i,g.dom l i->¬(l=H.lv∧i=H.L.length):=λl i h q=>hnew (by rw [<-q.1,<-q.2];exact h)
 have hstep:Step W g H W' (g.add H.lv H.L.length gb c) (H.push o):=by
  refine ⟨hgr.os,hgr.tape,hgr.output,hgr.size,λb hb _=>hgr.block b hb,λb hb => ?_,λl i h=>.inl h,λl i h=>h.elim .inl (λq=>.inr q.1),λl i h=>by simp [Gh.add,hne l i h],λl i ver ty sz xs cp hd hg => ?_,rfl⟩
  ·obtain ⟨l,i,q,hq,hqb⟩:=hb;rw [Heap.z3n] at hq;split at hq
   ·rename_i hk;injection hq with hq;subst hq;obtain ⟨rfl,rfl⟩:=hk;rw [kz2.z4w] at hqb;right;omega
   ·rename_i hk;rw [kz2.zdp hk] at hqb;exact .inl ⟨l,i,q,hq,hqb⟩
  ·rw [Heap.z3n,Qbq (hne l i hd)] at hg;exact ⟨ver,xs,cp,hg,Qbo _,λ_=>⟨by simp [Gh.add,hne l i hd],by simp [Gh.add,hne l i hd],Qbo _⟩⟩
 refine ⟨hstep,?_,?_,?_,?_,?_,hG.glob.step hstep⟩
 ·intro l i q hq;rw [Heap.z3n] at hq;split at hq
  ·rename_i hk;exact .inr hk
  ·exact .inl (hG.dom l i q hq)
 ·intro l i q hq;rw [Heap.z3n] at hq;split at hq
  ·rename_i hk;obtain ⟨rfl,rfl⟩:=hk;rw [kz2.z4w];exact h2
  ·rename_i hk;rw [kz2.zdp hk];exact Qbf (hG.lt l i q hq) hgr.size
 ·intro l i q l' i' q' hq hq' hb;rw [Heap.z3n] at hq hq';split at hq
  ·rename_i hk;obtain ⟨rfl,rfl⟩:=hk;split at hq'
   ·rename_i hk';exact ⟨hk'.1.symm,hk'.2.symm⟩
   ·rename_i hk';rw [kz2.z4w,kz2.zdp hk'] at hb;have:=hG.lt _ _ _ hq';omega
  ·rename_i hk;split at hq'
   ·rename_i hk';obtain ⟨rfl,rfl⟩:=hk';rw [kz2.zdp hk,kz2.z4w] at hb;have:=hG.lt _ _ _ hq;omega
   ·rename_i hk';rw [kz2.zdp hk,kz2.zdp hk'] at hb;exact hG.inj _ _ _ _ _ _ hq hq' hb
 ·intro l i h;show l<H.lv∨(l=H.lv∧i<(H.L++[some o]).length)
  rcases h with h|⟨h1,h2⟩
  ·rcases hG.fresh l i h with q|⟨q1,q2⟩
   ·exact .inl q
   ·exact .inr ⟨q1,by simp;omega⟩
  ·exact .inr ⟨h1,by simp;omega⟩
 ·intro l i q hq;rw [Heap.z3n] at hq;split at hq
  ·rename_i hk;obtain ⟨rfl,rfl⟩:=hk;injection hq with hq;subst hq;exact ho _ _ rfl rfl hstep
  ·rename_i hk;have h1:=hG.obj l i q hq;exact h1.mono hstep (hgr.block _ (hG.lt l i q hq)) (by simp [Gh.add,hk]) (by simp [Gh.add,hk]) (by simp [Gh.add,hk])
def zvv (W:World) (g:Gh) (H:Heap) (sz:Nat) (ws:List V) (cells:List Value):Prop :=
 cells.length=ws.length * sz∧∀(j:Nat) (x:V) (t:Nat) (v:V),ws[j]? = some x->x.cells[t]? = some v->∃c,cells[j * sz+t]? = some c∧c.oneCell'=true∧Rel W g H v c
theorem zyp {P:Program} {f:Nat} {vargs:List V} {lv:Nat} {L:List (Option kz2)} {E:Nat->Nat->Option kz2} {ty sz:Nat} {ws:List V} (hsz:0<sz) (hws:∀(j:Nat) (x:V),ws[j]? = some x->x.cells.length=sz)
  (hent:∀args W,(callFunc f args).run P W = .ok (.enter f args) W)
  (hcon:∀W g cargs,Good W g ⟨lv,L,E⟩->zgl W g ⟨lv,L,E⟩ vargs cargs->∃cells,zvv W g ⟨lv,L,E⟩ sz ws cells ∧
   Calls P f cargs W λe W'=>∃v',e = .returned v'∧W'.ownsRow W.heap.size ty sz v' ws.length cells∧Below W.heap.size W W') :
  zn2 P f vargs ⟨lv,L,E⟩ λout H'=>(ws=[]∧out = .ret .nils∧H'=⟨lv,L,E⟩)∨(out = .ret (.hs lv L.length 0 0 ws.length false)∧H'=⟨lv,L++[some (.arr 0 ty sz ws none)],E⟩):=λW g cargs hG hA=>by
 obtain ⟨cells,⟨c1,c2⟩,hc⟩:=hcon W g cargs hG hA;refine ⟨hent _ _,hc.mono ?_⟩
 rintro e W' ⟨v',rfl,⟨r0,hrow⟩,hb⟩
 have hgr:=zkb hb
 rcases hrow with ⟨rfl,hn⟩|⟨gb,cap,cur,rfl,hbase,hgb,hn,hcap,hcs,htk⟩
 ·exact ⟨.ret .nils,⟨lv,L,E⟩,g,.inl ⟨Qam hn,rfl,rfl⟩,hgr.step,hG.grow hgr,_,rfl,.nils⟩
 ·have hlt:gb<W'.heap.size:=(Qbi.1 hgb).1
  have at_:∀(j:Nat) (x:V) (t:Nat) (v:V),ws[j]? = some x->x.cells[t]? = some v->∃c,cur.getD (j * sz+t) undef=c∧c.oneCell'=true∧Rel W g ⟨lv,L,E⟩ v c:=λj x t v hj ht=>by
   obtain ⟨c,h1,h2,h3⟩:=c2 j x t v hj ht;refine ⟨c,?_,h2,h3⟩;rw [<-htk] at h1;rw [Qau] at h1;split at h1
   ·rw [Qbd] at h1;rw [Qad,h1];rfl
   ·cases h1
  obtain ⟨s1,s2⟩:=good_row hG hgr hbase hlt (o:=.arr 0 ty sz ws none) cap λg' H' eg eH hs=>by
   subst eg;have hab:(g.add lv L.length gb cap).ab lv L.length=gb:=by simp [Gh.add]
   have hcp:(g.add lv L.length gb cap).cap lv L.length=cap:=by simp [Gh.add]
   refine ⟨cur,by show W'.heap[(g.add lv L.length gb cap).ab lv L.length]? = _;rw [hab];exact hgb,hsz,by show cur.size=(g.add lv L.length gb cap).cap lv L.length * sz;rw [hcp];exact hcs,by show (g.add lv L.length gb cap).cap lv L.length<=_;rw [hcp];exact hcap,by show _<=(g.add lv L.length gb cap).cap lv L.length;rw [hcp];exact hn,λn h=>(by cases h),hws,λj x t v hj ht => ?_,λj x t v hj ht => ?_⟩
   ·obtain ⟨c,h1,h2,_⟩:=at_ j x t v hj ht;rw [h1];exact h2
   ·obtain ⟨c,h1,_,h3⟩:=at_ j x t v hj ht;rw [h1];exact h3.mono hs
  refine ⟨.ret (.hs lv L.length 0 0 ws.length false),⟨lv,L++[some (.arr 0 ty sz ws none)],E⟩,_,.inr ⟨rfl,rfl⟩,s1,s2,_,rfl,?_⟩;refine .hs lv L.length 0 0 ws.length false _ _ _ (.inr ⟨rfl,rfl⟩) (λv ty' sz' xs cp h => ?_) λty' sz' xs cp h => ?_
  ·exact Qbn _
  ·have h:(Heap.push ⟨lv,L,E⟩ (.arr 0 ty sz ws none)).get lv L.length=some (.arr 0 ty' sz' xs cp):=h;rw [Heap.z3n,Qbp ⟨rfl,rfl⟩] at h;injection h with h;injection h with _ h2 h3 h4 h5;subst h2;subst h3;subst h4;subst h5;refine ⟨by simp [Gh.add],rfl,⟨hn,?_,λh=>by cases h⟩,by omega⟩;show 0+cap<=(g.add lv L.length gb cap).cap lv L.length;simp [Gh.add]
theorem y7a {W:World} {g:Gh} {H:Heap} {v:V} {cargs:Array Value} (hR:zgl W g H [v] cargs):∃c,cargs = #[c]∧Rel W g H v c:=by
 obtain ⟨h1,h2⟩:=hR;have hsz:cargs.toList.length=1:=by simpa using h1
 obtain ⟨c,hc⟩:=List.length_eq_one_iff.1 hsz;have hc':cargs = #[c]:=by rw [<-Array.toList_inj,hc]
 subst hc';exact ⟨c,rfl,by simpa using h2 0 _ rfl⟩
theorem zt5 {D:Dat} {lv:Nat} {L:List (Option kz2)} {ty:Nat} {τ:DTy} {xs:List (τ.S D.T)} {ws:List V} (hl:ws.length=xs.length) (hd:∀(j:Nat) (x:τ.S D.T) (v:V),xs[j]? = some x->ws[j]? = some v->DR D τ x v) {out:Out} {E:Nat->Nat->Option kz2} {H':Heap}
  (h:(ws=[]∧out = .ret .nils∧H'=⟨lv,L,E⟩)∨(out = .ret (.hs lv L.length 0 0 ws.length false)∧H'=⟨lv,L++[some (.arr 0 ty (D.len τ) ws none)],E⟩)) :
  ∃L' ρ',H'=⟨lv,L',E⟩∧Left D lv L [] 0 L' ρ' [.acc ty τ true] ((xs,()):HL D.T [.sl τ])∧∃vs,out = .ret (z7d vs)∧VRL D ρ' lv [.own 0] vs:=by
 have main:∀(L':List (Option kz2)) (sl:Slot),L.length<=L'.length->(∀i,i<L.length->L'[i]? = L[i]?)->(∀i,sl.has i->L.length<=i)->sl.fp=[]->OR D [sl] lv L' sl (.acc ty τ xs true)->sl.v.leaf=true->out = .ret sl.v->H'=⟨lv,L',E⟩ ->
   ∃L' ρ',H'=⟨lv,L',E⟩∧Left D lv L [] 0 L' ρ' [.acc ty τ true] ((xs,()):HL D.T [.sl τ])∧∃vs,out = .ret (z7d vs)∧VRL D ρ' lv [.own 0] vs:=λL' sl a1 a2 a3 a0 a4 a5 a6 a7=>by
  refine ⟨L',[sl],a7,⟨rfl,λj o hm => ?_,λs s' t t' i r1 r2 _ _ => ?_,λs t i r1 c1 => ?_,λi hi _=>⟨by omega,a2 i hi⟩,λj t hj=>absurd hj (Nat.not_lt_zero _),λs t i r1 c1 => ?_⟩,[sl.v],a6,?_⟩
  ·have hm:(j,o)∈[(0,(TO.acc ty τ xs true:TO D.T))]:=hm;simp only [List.mem_singleton,Qbr] at hm;obtain ⟨rfl,rfl⟩:=hm;exact ⟨sl,rfl,a4⟩
  ·have l1:=(Qaa.1 r1).1;have l2:=(Qaa.1 r2).1;simp at l1 l2;omega
  ·have l1:=(Qaa.1 r1).1;have:s=0:=by simp at l1;omega
   subst this;obtain rfl:sl=t:=by simpa using r1
   exact .inl (a3 i c1)
  ·have l1:=(Qaa.1 r1).1;have:s=0:=by simp at l1;omega
   subst this;obtain rfl:sl=t:=by simpa using r1
   rw [a0] at c1;cases c1
  ·simp only [VRL,VR];exact ⟨_,_,rfl,⟨sl,rfl,rfl,a5⟩,rfl⟩
 rcases h with ⟨e1,e2,e3⟩|⟨e1,e2⟩
 ·refine main L ⟨.nils,none,[],[]⟩ (Qbo _) (λ_ _=>rfl) (λi h=>by rcases h with h|h <;> cases h) rfl ?_ rfl e2 e3;simp only [OR];have hx:xs=[]:=Qam (by rw [<-hl,e1];rfl);refine ⟨by rw [hx];rfl,λj x v hj hv=>(by simp at hv),?_⟩;exact .inl ⟨trivial,trivial⟩
 ·refine main _ ⟨.hs lv L.length 0 0 ws.length false,some L.length,ws,[]⟩ (by simp) (λi hi=>by rw [Qaj hi]) (λi h=>by rcases h with h|h;(injection h with h;omega);cases h) rfl ?_ rfl e1 e2;simp only [OR];exact ⟨hl,hd,0,none,rfl,by simp⟩
def y5u (D:Dat) (f ty:Nat) (τ:DTy) (go:Nat->List (τ.S D.T)->Option (List (τ.S D.T))):FI D :=
 {R:=List (τ.S D.T),ent:=λn=>{f:=f,p:=0,args:=[.d (.sl τ)],aos:=[],outs:=[.own 0],ros:=[.acc ty τ true],pan:=.nilp,pos:=[],pure:=false,go:=λx k _=>(go n x.1).bind λr=>k (r,())},
   c:=.skip,K:=⟨λ_=>none,[],λ_=>none,λ_ _=>none⟩,p:=0,args:=[],aos:=[],nt:=0,z5h:=λ_=>[],go:=λ_ _=>none}
theorem ybt {P:Program} {D:Dat} (hD:D.Ok P) {f ty bytes:Nat} {τ:DTy} (hpos:0<D.len τ) (hbyt:bytes<=524288) (hent:∀args W,(callFunc f args).run P W = .ok (.enter f args) W)
  (hcon:∀(a:Addr) (n c:Nat) (cells:List Value) (w:World),cells.length=n * D.len τ->(∀j u,cells[j]? = some u->w.cell? (a.add j)=some u)->(∀u∈cells,u.oneCell'=true)->n<=maxLen->n * bytes<=140737488355328 ->
   Calls P f #[.slice (some a) n c] w λe w'=>∃v',e = .returned v'∧w'.ownsRow w.heap.size ty (D.len τ) v' n cells∧Below w.heap.size w w')
  (hnone:∀(w:World),Calls P f #[.slice none 0 0] w λe w'=>e = .returned (.slice none 0 0)∧w'=w)
  (xs:List (τ.S D.T)) (hlen:xs.length<=8388608) (go:Nat->List (τ.S D.T)->Option (List (τ.S D.T))) (n:Nat):((y5u D f ty τ go).ent n).Flat P ((xs,()):HL D.T [.sl τ]) (.inl ((xs,()):HL D.T [.sl τ])):=by
 intro lv L E ρ0 vargs k1 k2 k3 k4;obtain rfl:ρ0=[]:=Qam k1;have k2:VRL D [] lv [.sl τ xs 0] vargs:=k2;simp only [VRL,VR] at k2;obtain ⟨v,rr,rfl,⟨hv,_,_⟩,rfl⟩:=k2
 have hw:∃ws:List V,ws.length=xs.length∧(∀(j:Nat) (y:τ.S D.T) (u:V),xs[j]? = some y->ws[j]? = some u->DR D τ y u)∧(∀(j:Nat) (u:V),ws[j]? = some u->u.cells.length=D.len τ)∧((v = .nils∧ws=[])∨∃full,v = .sl (D.len τ) ws full):=by
  have hv':DR D (.sl τ) xs v:=hv;clear hv hlen
  cases hv' with
  |nil=>exact ⟨[],rfl,λj y u hj=>by simp at hj,λj u hj=>by simp at hj,.inl ⟨rfl,rfl⟩⟩
  |sl _ _ ws full hl hd=>
   refine ⟨ws,hl,hd,λj u hj => ?_,.inr ⟨full,rfl⟩⟩;have hlt:=(Qaa.1 hj).1;exact (hd j _ u (Qab (by omega)) hj).cells hD
 obtain ⟨ws,w1,w2,w3,w4⟩:=hw;have hlen':ws.length<=8388608:=by rw [w1];exact hlen
 have hml:ws.length<=maxLen:=by simp only [maxLen];omega
 have hby:ws.length * bytes<=140737488355328:=Nat.le_trans (Nat.mul_le_mul hlen' hbyt) (by decide)
 have hh:=zyp (P:=P) (f:=f) (vargs:=[v]) (lv:=lv) (L:=L) (E:=E) (ty:=ty) (ws:=ws) hpos w3 hent λW g cargs hG hA=>by
  obtain ⟨c,rfl,hc⟩:=y7a hA
  have empty:ws=[]->∃cells,zvv W g ⟨lv,L,E⟩ (D.len τ) ws cells∧∀(a:Option Addr) (cap:Nat),(a=none->cap=0)->Calls P f #[.slice a 0 cap] W λe W'=>∃v',e = .returned v'∧W'.ownsRow W.heap.size ty (D.len τ) v' ws.length cells∧Below W.heap.size W W':=λhe=>by
   subst he;refine ⟨[],⟨by simp,λj y t u hj=>by simp at hj⟩,λa cap ha => ?_⟩
   cases a with
   |none=>
    obtain rfl:=ha rfl;refine (hnone W).mono ?_
    rintro e W' ⟨rfl,rfl⟩
    exact ⟨_,rfl,⟨by simp,.inl ⟨rfl,rfl⟩⟩,.refl _ _⟩
   |some a=>exact hcon a 0 cap [] W (by simp) (by simp) (by simp) (Qbn _) (by simp)
  rcases w4 with ⟨rfl,he⟩|⟨full,rfl⟩
  ·obtain ⟨cells,e1,e2⟩:=empty he;cases hc;exact ⟨cells,e1,e2 none 0 λ_=>rfl⟩
  ·cases hc with
   |slnil=>obtain ⟨cells,e1,e2⟩:=empty rfl;exact ⟨cells,e1,e2 none 0 λ_=>rfl⟩
   |sle _ _ a cap hf=>obtain ⟨cells,e1,e2⟩:=empty rfl;exact ⟨cells,e1,e2 (some a) cap λh=>by cases h⟩
   |sl _ _ _ b o cap c hb hz hcap hf hs hcell ho1 hr=>
    have get:∀q,q<ws.length * D.len τ->∃(j t:Nat) (y u:V),ws[j]? = some y∧y.cells[t]? = some u∧q=j * D.len τ+t∧t<D.len τ:=λq hq=>by
     have hj:q / D.len τ<ws.length:=Nat.div_lt_of_lt_mul (by rw [Nat.mul_comm];exact hq);have ht:q % D.len τ<D.len τ:=Nat.mod_lt _ hpos;have hy:=Qab hj;have hcl:=w3 _ _ hy;have hu:=Qab (l:=(ws[q / D.len τ]).cells) (i:=q % D.len τ) (by rw [hcl];exact ht);exact ⟨q / D.len τ,q % D.len τ,_,_,hy,hu,by rw [Nat.mul_comm];exact (Nat.div_add_mod q (D.len τ)).symm,ht⟩
    have cellq:∀q,q<ws.length * D.len τ->∃u,W.cell? ⟨b,o+q,none⟩=some u∧u.oneCell'=true:=λq hq=>by
     obtain ⟨j,t,y,u,h1,h2,h3,_⟩:=get q hq;exact ⟨_,by rw [h3,<-Nat.add_assoc];exact hcell j y t u h1 h2,ho1 j y t u h1 h2⟩
    let cells:List Value:=(List.range (ws.length * D.len τ)).map λq=>(W.cell? ⟨b,o+q,none⟩).getD undef
    have hcl:cells.length=ws.length * D.len τ:=by simp [cells]
    have hce:∀q u,cells[q]? = some u->W.cell? ⟨b,o+q,none⟩=some u∧u.oneCell'=true:=λq u hq=>by
     have hlt:q<ws.length * D.len τ:=by rw [<-hcl];exact (Qaa.1 hq).1
     obtain ⟨w,e1,e2⟩:=cellq q hlt;have:cells[q]? = some w:=by simp [cells,hlt,e1]
     rw [hq] at this;injection this with this;subst this
     exact ⟨e1,e2⟩
    refine ⟨cells,⟨hcl,λj y t u hj ht => ?_⟩,hcon ⟨b,o,none⟩ ws.length cap cells W hcl (λq u hq => ?_) (λu hu => ?_) hml hby⟩
    · have e:=hcell j y t u hj ht;have hjl:=(Qaa.1 hj).1;have htl:t<D.len τ:=by rw [<-w3 j y hj];exact (Qaa.1 ht).1
      have hlt:j * D.len τ+t<ws.length * D.len τ:=by
       have:(j+1) * D.len τ<=ws.length * D.len τ:=Qas _ hjl;rw [Nat.add_mul] at this;omega
      refine ⟨c j t,by simp [cells,hlt,<-Nat.add_assoc,e],ho1 j y t u hj ht,hr j y t u hj ht⟩
    · have e:(⟨b,o,none⟩:Addr).add q=⟨b,o+q,none⟩:=by simp [Addr.add]
      rw [e];exact (hce q u hq).1
    · obtain ⟨q,hq⟩:=List.mem_iff_getElem?.1 hu;exact (hce q u hq).2
 refine hh.mono λout H' ho => ?_
 obtain ⟨L',ρ',e1,e2,e3⟩:=zt5 (D:=D) (xs:=xs) w1 w2 ho;exact ⟨L',ρ',e1,e2,(λq hq=>by cases hq),e3⟩
theorem yhq {P:Program} {D:Dat} (hD:D.Ok P) {f ty bytes:Nat} {τ:DTy} (hpos:0<D.len τ) (hbyt:bytes<=524288) (hent:∀args W,(callFunc f args).run P W = .ok (.enter f args) W)
  (hcon:∀(a:Addr) (n c:Nat) (cells:List Value) (w:World),cells.length=n * D.len τ->(∀j u,cells[j]? = some u->w.cell? (a.add j)=some u)->(∀u∈cells,u.oneCell'=true)->n<=maxLen->n * bytes<=140737488355328 ->
   Calls P f #[.slice (some a) n c] w λe w'=>∃v',e = .returned v'∧w'.ownsRow w.heap.size ty (D.len τ) v' n cells∧Below w.heap.size w w')
  (hnone:∀(w:World),Calls P f #[.slice none 0 0] w λe w'=>e = .returned (.slice none 0 0)∧w'=w) :
  FOk P (y5u D f ty τ λ_ xs=>if xs.length<=8388608 then some xs else none):=λn R x k kp r h=>by
 have h:((if x.1.length<=8388608 then some x.1 else none).bind λr=>k (r,()))=some r:=h;obtain ⟨r0,h1,h2⟩:=zkn h;split at h1
 case isFalse=>cases h1
 rename_i hlen;injection h1 with h1;subst h1;exact .inl ⟨(x.1,()),h2,ybt hD hpos hbyt hent hcon hnone x.1 hlen _ n⟩
def y45 (D:Dat) (f ty:Nat) (τ:DTy) (go:Nat->Int->Option (List (τ.S D.T))):FI D :=
 {R:=List (τ.S D.T),ent:=λn=>{f:=f,p:=0,args:=[.nils,.d (.int .i64)],aos:=[],outs:=[.own 0],ros:=[.acc ty τ true],pan:=.nilp,pos:=[],pure:=false,go:=λx k _=>(go n x.1).bind λr=>k (r,())},
   c:=.skip,K:=⟨λ_=>none,[],λ_=>none,λ_ _=>none⟩,p:=0,args:=[],aos:=[],nt:=0,z5h:=λ_=>[],go:=λ_ _=>none}
theorem yeg {P:Program} {D:Dat} {f ty:Nat} {τ:DTy} (hpos:0<D.len τ) (hent:∀args W,(callFunc f args).run P W = .ok (.enter f args) W)
  (hcon:∀(n:Nat) (w:World),n<=8388608->Calls P f #[.slice none 0 0,.int .i64 n] w λe w'=>∃v',e = .returned v'∧w'.ownsRow w.heap.size ty (D.len τ) v' 0 []∧Below w.heap.size w w')
  (m:Int) (hlen:0<=m∧m<=8388608) (go:Nat->Int->Option (List (τ.S D.T))) (n:Nat):((y45 D f ty τ go).ent n).Flat P ((m,()):HL D.T [.int .i64]) (.inl ((([]:List (τ.S D.T)),()):HL D.T [.sl τ])):=by
 intro lv L E ρ0 vargs k1 k2 k3 k4;obtain rfl:ρ0=[]:=Qam k1;have k2:VRL D [] lv [.nils,.int .i64 m] vargs:=k2;simp only [VRL,VR] at k2;obtain ⟨v,rr,rfl,rfl,v2,r2,rfl,rfl,rfl⟩:=k2
 have hh:=zyp (P:=P) (f:=f) (vargs:=[.nils,.int .i64 m]) (lv:=lv) (L:=L) (E:=E) (ty:=ty) (ws:=[]) hpos (λj u hj=>by simp at hj) hent λW g cargs hG hA=>by
  refine ⟨[],⟨by simp,λj y t u hj=>by simp at hj⟩,?_⟩;obtain ⟨h1,h2⟩:=hA;have hsz:cargs.toList.length=2:=by simpa using h1
  obtain ⟨a,b,hc⟩:∃a b,cargs.toList=[a,b]:=by
   match h:cargs.toList,hsz with
   |[a,b],_=>exact ⟨a,b,rfl⟩
  have hc':cargs = #[a,b]:=by rw [<-Array.toList_inj,hc]
  subst hc';have ha:=h2 0 _ rfl;have hb:=h2 1 _ rfl;simp at ha hb;cases ha;cases hb;obtain ⟨q,hq⟩:=Int.eq_ofNat_of_zero_le hlen.1;rw [hq];exact hcon q W (by omega)
 refine hh.mono λout H' ho => ?_
 obtain ⟨L',ρ',e1,e2,e3⟩:=zt5 (D:=D) (xs:=([]:List (τ.S D.T))) (ws:=[]) rfl (λj y u hj=>by simp at hj) ho;exact ⟨L',ρ',e1,e2,(λq hq=>by cases hq),e3⟩
theorem ydf {P:Program} {D:Dat} {f ty:Nat} {τ:DTy} (hpos:0<D.len τ) (hent:∀args W,(callFunc f args).run P W = .ok (.enter f args) W)
  (hcon:∀(n:Nat) (w:World),n<=8388608->Calls P f #[.slice none 0 0,.int .i64 n] w λe w'=>∃v',e = .returned v'∧w'.ownsRow w.heap.size ty (D.len τ) v' 0 []∧Below w.heap.size w w') :
  FOk P (y45 D f ty τ λ_ n=>if 0<=n∧n<=8388608 then some [] else none):=λn R x k kp r h=>by
 obtain ⟨m,u⟩:=x;change Int at m;have h:((if 0<=m∧m<=8388608 then some ([]:List (τ.S D.T)) else none).bind λr=>k (r,()))=some r:=h;obtain ⟨r0,h1,h2⟩:=zkn h;split at h1
 case isFalse=>cases h1
 rename_i hlen;injection h1 with h1;subst h1;exact .inl ⟨([],()),h2,yeg hpos hent hcon m hlen _ n⟩
theorem yds {P:Program} {f:Nat} {vargs:List V} {ty sz:Nat} {ws:List V} (hsz:0<sz) (hws:∀(j:Nat) (x:V),ws[j]? = some x->x.cells.length=sz)
  (hent:∀args W,(callFunc f args).run P W = .ok (.enter f args) W)
  (hcon:∀H W g cargs,Good W g H->zgl W g H vargs cargs->∃cells,zvv W g H sz ws cells ∧
   Calls P f cargs W λe W'=>∃v',e = .returned v'∧W'.ownsRow W.heap.size ty sz v' ws.length cells∧Below W.heap.size W W') :
  zly P f vargs (.sl sz ws false):=λH W g cargs hG hA=>by
 obtain ⟨cells,⟨c1,c2⟩,hc⟩:=hcon H W g cargs hG hA;refine .inl ⟨hent _ _,hc.mono ?_⟩
 rintro e W' ⟨v',rfl,⟨r0,hrow⟩,hb⟩
 have hgr:=zkb hb;refine ⟨v',g,rfl,hgr.step,hG.grow hgr,?_⟩
 rcases hrow with ⟨rfl,hn⟩|⟨gb,cap,cur,rfl,hbase,hgb,hn,hcap,hcs,htk⟩
 ·obtain rfl:=Qam hn;exact .slnil _ _
 ·have hlt:gb<W'.heap.size:=(Qbi.1 hgb).1
  have at_:∀(j:Nat) (x:V) (t:Nat) (v:V),ws[j]? = some x->x.cells[t]? = some v->∃c,cur[j * sz+t]? = some c∧c.oneCell'=true∧Rel W g H v c:=λj x t v hj ht=>by
   obtain ⟨c,h1,h2,h3⟩:=c2 j x t v hj ht;refine ⟨c,?_,h2,h3⟩;rw [<-htk] at h1;rw [Qau] at h1;split at h1
   ·rw [Qbd] at h1;exact h1
   ·cases h1
  have get:∀(j:Nat) (x:V) (t:Nat) (v:V),ws[j]? = some x->x.cells[t]? = some v->cur[j * sz+t]? = some (cur.getD (j * sz+t) undef)∧(cur.getD (j * sz+t) undef).oneCell'=true∧Rel W g H v (cur.getD (j * sz+t) undef):=λj x t v hj ht=>by
   obtain ⟨c,h1,h2,h3⟩:=at_ j x t v hj ht;rw [Qad,h1];exact ⟨rfl,h2,h3⟩
  refine .sl sz ws false gb 0 cap (λj t=>cur.getD (j * sz+t) undef) ?_ hsz hn (λh=>by cases h) hws (λj x t v hj ht => ?_) (λj x t v hj ht=>(get j x t v hj ht).2.1) λj x t v hj ht=>(get j x t v hj ht).2.2.mono hgr.step
  ·rintro ⟨l,i,o,h,h2⟩
   have:=hG.lt l i o h;omega
  ·rw [Nat.zero_add,<-(get j x t v hj ht).1];simp only [World.cell?,hgb];rfl
def yah (D:Dat) (f:Nat) (τ:DTy) (go:Nat->List (τ.S D.T)->Option (List (τ.S D.T))):FI D :=
 {R:=List (τ.S D.T),ent:=λn=>{f:=f,p:=0,args:=[.d (.sl τ)],aos:=[],outs:=[.d (.sl τ)],ros:=[],pan:=.nilp,pos:=[],pure:=true,go:=λx k _=>(go n x.1).bind λr=>k (r,())},
   c:=.skip,K:=⟨λ_=>none,[],λ_=>none,λ_ _=>none⟩,p:=0,args:=[],aos:=[],nt:=0,z5h:=λ_=>[],go:=λ_ _=>none}
theorem yei {P:Program} {D:Dat} (hD:D.Ok P) {f ty bytes:Nat} {τ:DTy} (hpos:0<D.len τ) (hbyt:bytes<=524288) (hent:∀args W,(callFunc f args).run P W = .ok (.enter f args) W)
  (hcon:∀(a:Addr) (n c:Nat) (cells:List Value) (w:World),cells.length=n * D.len τ->(∀j u,cells[j]? = some u->w.cell? (a.add j)=some u)->(∀u∈cells,u.oneCell'=true)->n<=maxLen->n * bytes<=140737488355328 ->
   Calls P f #[.slice (some a) n c] w λe w'=>∃v',e = .returned v'∧w'.ownsRow w.heap.size ty (D.len τ) v' n cells∧Below w.heap.size w w')
  (hnone:∀(w:World),Calls P f #[.slice none 0 0] w λe w'=>e = .returned (.slice none 0 0)∧w'=w) :
  FOk P (yah D f τ λ_ xs=>if xs.length<=8388608 then some xs else none):=λn R x k kp r h=>by
 have h:((if x.1.length<=8388608 then some x.1 else none).bind λr=>k (r,()))=some r:=h;obtain ⟨r0,h1,h2⟩:=zkn h;split at h1
 case isFalse=>cases h1
 rename_i hlen;injection h1 with h1;subst h1;obtain ⟨xs,u⟩:=x;change List (τ.S D.T) at xs;refine ⟨(xs,()),h2,rfl,rfl,rfl,λlv vargs k2 => ?_⟩;have k2:VRL D [] lv [.sl τ xs 0] vargs:=k2;simp only [VRL,VR] at k2;obtain ⟨v,rr,rfl,⟨hv,_,_⟩,rfl⟩:=k2;have hlen:xs.length<=8388608:=hlen
 have hw:∃ws:List V,ws.length=xs.length∧(∀(j:Nat) (y:τ.S D.T) (u:V),xs[j]? = some y->ws[j]? = some u->DR D τ y u)∧(∀(j:Nat) (u:V),ws[j]? = some u->u.cells.length=D.len τ)∧((v = .nils∧ws=[])∨∃full,v = .sl (D.len τ) ws full):=by
  have hv':DR D (.sl τ) xs v:=hv;clear hv hlen
  cases hv' with
  |nil=>exact ⟨[],rfl,λj y u hj=>by simp at hj,λj u hj=>by simp at hj,.inl ⟨rfl,rfl⟩⟩
  |sl _ _ ws full hl hd=>
   refine ⟨ws,hl,hd,λj u hj => ?_,.inr ⟨full,rfl⟩⟩;have hlt:=(Qaa.1 hj).1;exact (hd j _ u (Qab (by omega)) hj).cells hD
 obtain ⟨ws,w1,w2,w3,w4⟩:=hw;have hlen':ws.length<=8388608:=by rw [w1];exact hlen
 have hml:ws.length<=maxLen:=by simp only [maxLen];omega
 have hby:ws.length * bytes<=140737488355328:=Nat.le_trans (Nat.mul_le_mul hlen' hbyt) (by decide);refine ⟨[.sl (D.len τ) ws false],λρ lv' => ?_,?_⟩
 ·show VRL D ρ lv' [TV.sl τ xs 0] _;simp only [VRL,VR];exact ⟨_,_,rfl,⟨.sl _ _ _ _ w1 w2,(λh=>absurd h (by decide)),(λh=>absurd h (by decide))⟩,rfl⟩
 refine yds (ty:=ty) hpos w3 hent λH W g cargs hG hA=>by
  obtain ⟨c,rfl,hc⟩:=y7a hA
  have empty:ws=[]->∃cells,zvv W g H (D.len τ) ws cells∧∀(a:Option Addr) (cap:Nat),(a=none->cap=0)->Calls P f #[.slice a 0 cap] W λe W'=>∃v',e = .returned v'∧W'.ownsRow W.heap.size ty (D.len τ) v' ws.length cells∧Below W.heap.size W W':=λhe=>by
   subst he;refine ⟨[],⟨by simp,λj y t u hj=>by simp at hj⟩,λa cap ha => ?_⟩
   cases a with
   |none=>
    obtain rfl:=ha rfl;refine (hnone W).mono ?_
    rintro e W' ⟨rfl,rfl⟩
    exact ⟨_,rfl,⟨by simp,.inl ⟨rfl,rfl⟩⟩,.refl _ _⟩
   |some a=>exact hcon a 0 cap [] W (by simp) (by simp) (by simp) (Qbn _) (by simp)
  rcases w4 with ⟨rfl,he⟩|⟨full,rfl⟩
  ·obtain ⟨cells,e1,e2⟩:=empty he;cases hc;exact ⟨cells,e1,e2 none 0 λ_=>rfl⟩
  ·cases hc with
   |slnil=>obtain ⟨cells,e1,e2⟩:=empty rfl;exact ⟨cells,e1,e2 none 0 λ_=>rfl⟩
   |sle _ _ a cap hf=>obtain ⟨cells,e1,e2⟩:=empty rfl;exact ⟨cells,e1,e2 (some a) cap λh=>by cases h⟩
   |sl _ _ _ b o cap c hb hz hcap hf hs hcell ho1 hr=>
    have get:∀q,q<ws.length * D.len τ->∃(j t:Nat) (y u:V),ws[j]? = some y∧y.cells[t]? = some u∧q=j * D.len τ+t∧t<D.len τ:=λq hq=>by
     have hj:q / D.len τ<ws.length:=Nat.div_lt_of_lt_mul (by rw [Nat.mul_comm];exact hq);have ht:q % D.len τ<D.len τ:=Nat.mod_lt _ hpos;have hy:=Qab hj;have hcl:=w3 _ _ hy;have hu:=Qab (l:=(ws[q / D.len τ]).cells) (i:=q % D.len τ) (by rw [hcl];exact ht);exact ⟨q / D.len τ,q % D.len τ,_,_,hy,hu,by rw [Nat.mul_comm];exact (Nat.div_add_mod q (D.len τ)).symm,ht⟩
    have cellq:∀q,q<ws.length * D.len τ->∃u,W.cell? ⟨b,o+q,none⟩=some u∧u.oneCell'=true:=λq hq=>by
     obtain ⟨j,t,y,u,h1,h2,h3,_⟩:=get q hq;exact ⟨_,by rw [h3,<-Nat.add_assoc];exact hcell j y t u h1 h2,ho1 j y t u h1 h2⟩
    let cells:List Value:=(List.range (ws.length * D.len τ)).map λq=>(W.cell? ⟨b,o+q,none⟩).getD undef
    have hcl:cells.length=ws.length * D.len τ:=by simp [cells]
    have hce:∀q u,cells[q]? = some u->W.cell? ⟨b,o+q,none⟩=some u∧u.oneCell'=true:=λq u hq=>by
     have hlt:q<ws.length * D.len τ:=by rw [<-hcl];exact (Qaa.1 hq).1
     obtain ⟨w,e1,e2⟩:=cellq q hlt;have:cells[q]? = some w:=by simp [cells,hlt,e1]
     rw [hq] at this;injection this with this;subst this
     exact ⟨e1,e2⟩
    refine ⟨cells,⟨hcl,λj y t u hj ht => ?_⟩,hcon ⟨b,o,none⟩ ws.length cap cells W hcl (λq u hq => ?_) (λu hu => ?_) hml hby⟩
    · have e:=hcell j y t u hj ht;have hjl:=(Qaa.1 hj).1;have htl:t<D.len τ:=by rw [<-w3 j y hj];exact (Qaa.1 ht).1
      have hlt:j * D.len τ+t<ws.length * D.len τ:=by
       have:(j+1) * D.len τ<=ws.length * D.len τ:=Qas _ hjl;rw [Nat.add_mul] at this;omega
      refine ⟨c j t,by simp [cells,hlt,<-Nat.add_assoc,e],ho1 j y t u hj ht,hr j y t u hj ht⟩
    · have e:(⟨b,o,none⟩:Addr).add q=⟨b,o+q,none⟩:=by simp [Addr.add]
      rw [e];exact (hce q u hq).1
    · obtain ⟨q,hq⟩:=List.mem_iff_getElem?.1 hu;exact (hce q u hq).2
def y4z (P:Program) (f sz:Nat):Prop:=∀(blk cap i j n:Nat) (cur:Array Value) (ty:TypeId) (w:World),w.heap[blk]? = some (.cells cur ty (0,0))->n<=cap->cap * sz<=cur.size->cap<=9223372036854775807->i<j->j<=n ->
 (∀t,t<n * sz->(cur.getD t undef).oneCell'=true)->Calls P f #[.slice (some ⟨blk,0,none⟩) n cap,.int .i64 i,.int .i64 j] w λe w'=>e = .returned (.slice (some ⟨blk,0,none⟩) (n-(j-i)) cap) ∧
  w'.os=w.os∧w'.tape=w.tape∧w'.output=w.output∧w'.heap.size=w.heap.size∧(∀b,b≠blk->w'.heap[b]? = w.heap[b]?) ∧
  ∃cur':Array Value,w'.heap[blk]? = some (.cells cur' ty (0,0))∧cur'.size=cur.size∧(∀t,t<i * sz->cur'[t]? = cur[t]?)∧∀t,t<(n-j) * sz->cur'[i * sz+t]? = cur[j * sz+t]?
theorem zlv {α:Type} (l:List α) (i j t:Nat) (hij:i<=j) (x:α) (h:(l.take i++l.drop j)[t]? = some x):(t<i∧l[t]? = some x)∨(i<=t∧i<=l.length∧l[j+(t-i)]? = some x):=by
 rw [Qba] at h;simp only [Qaw] at h;split at h
 ·rename_i ht;rw [Qau] at h;split at h
  ·exact .inl ⟨‹_›,h⟩
  ·cases h
 ·rename_i ht;rw [Qbb] at h;by_cases hl:i<=l.length
  ·rw [show min i l.length=i by omega] at h;exact .inr ⟨by omega,hl,h⟩
  ·have:=(Qaa.1 h).1;omega
theorem yi6 {P:Program} {f sz ty:Nat} (hsz:0<sz) (hent:∀args W,(callFunc f args).run P W = .ok (.enter f args) W) (hcon:y4z P f sz)
  {lv k ver n i j:Nat} {L:List (Option kz2)} {E:Nat->Nat->Option kz2} {ws:List V} {cp:Option Nat} (hL:L[k]? = some (some (.arr ver ty sz ws cp))) (hn:n=ws.length) (hij:i<j) (hj:j<=n) :
  zn2 P f [.hs lv k ver 0 n false,.int .i64 i,.int .i64 j] ⟨lv,L,E⟩ λo H'=>o = .ret (.hs lv k (ver+1) 0 (n-(j-i)) false)∧H'=⟨lv,L.set k (some (.arr (ver+1) ty sz (ws.take i++ws.drop j) none)),E⟩:=by
 intro W g cargs hG hR;have hg:(⟨lv,L,E⟩:Heap).get lv k=some (.arr ver ty sz ws cp):=by simp [Heap.get,hL]
 obtain ⟨x,rfl,h0⟩:∃x,cargs = #[x,.int .i64 i,.int .i64 j]∧Rel W g ⟨lv,L,E⟩ (.hs lv k ver 0 n false) x:=by
  obtain ⟨h1,h2⟩:=hR;have h2a:=h2 0 _ rfl;have h2b:=h2 1 _ rfl;have h2c:=h2 2 _ rfl;obtain ⟨l⟩:=cargs
  match l,h1 with
  |[a,b,c],_=>
   have e1:Rel W g ⟨lv,L,E⟩ (.int .i64 i) b:=h2b;have e2:Rel W g ⟨lv,L,E⟩ (.int .i64 j) c:=h2c;cases e1;cases e2;exact ⟨a,rfl,h2a⟩
 refine ⟨hent _ _,?_⟩
 cases h0 with
 |hs _ _ _ _ _ _ a m cap hd hv ha=>
  obtain ⟨rfl,rfl,⟨a1,a2,_⟩,a3⟩:=ha _ _ _ _ hg;obtain ⟨cur,k1,k2,k3,k3',k4,k5,k6,k7,k8⟩:=hG.obj _ _ _ hg;rw [Nat.zero_mul];have hcap:cap * sz<=cur.size:=by rw [k3];exact Qas _ (by omega)
  have hb:g.ab lv k<W.heap.size:=(Qbi.1 k1).1
  have hcm:cap<=9223372036854775807:=by
   have:maxLen<=9223372036854775807:=by decide
   omega
  refine (hcon (g.ab lv k) cap i j m cur ty W k1 a1 hcap hcm hij hj (λt ht => ?_)).mono ?_
  · have hq:t / sz<ws.length:=by rw [<-hn];exact (Nat.div_lt_iff_lt_mul hsz).2 ht
    have hx:ws[t / sz]? = some (ws[t / sz]'hq):=Qab hq;have hl:=k6 _ _ hx;have hr:t % sz<(ws[t / sz]'hq).cells.length:=by rw [hl];exact Nat.mod_lt _ hsz
    have:=k7 _ _ (t % sz) _ hx (Qab hr);rw [show t / sz * sz+t % sz=t from Nat.div_add_mod' t sz] at this;exact this
  rintro e W' ⟨rfl,w1,w2,w3,w4,w5,cur',w6,w7,w8,w9⟩
  have get1:∀t,t<i * sz->cur'.getD t undef=cur.getD t undef:=λt ht=>by rw [Qad,Qad,w8 t ht]
  have zqa:∀t,t<(m-j) * sz->cur'.getD (i * sz+t) undef=cur.getD (j * sz+t) undef:=λt ht=>by rw [Qad,Qad,w9 t ht]
  have place:∀(t:Nat) (x:V) (u:Nat),(ws.take i++ws.drop j)[t]? = some x->u<sz->∃t',ws[t']? = some x∧cur'.getD (t * sz+u) undef=cur.getD (t' * sz+u) undef:=λt x u ht hu=>by
   rcases zlv ws i j t (by omega) x ht with ⟨h1,h2⟩|⟨h1,h2,h3⟩
   · refine ⟨t,h2,get1 _ ?_⟩
     calc t * sz+u<t * sz+sz:=by omega
      _=(t+1) * sz:=by rw [Nat.succ_mul]
      _<=i * sz:=Qas _ h1
   · refine ⟨_,h3,?_⟩;have hlt:=(Qaa.1 h3).1
     have:=zqa ((t-i) * sz+u) (by
      calc (t-i) * sz+u<(t-i) * sz+sz:=by omega
       _=(t-i+1) * sz:=by rw [Nat.succ_mul]
       _<=(m-j) * sz:=Qas _ (by omega))
     rw [show i * sz+((t-i) * sz+u)=t * sz+u by rw [<-Nat.add_assoc,<-Nat.add_mul];congr 2;omega,show j * sz+((t-i) * sz+u)=(j+(t-i)) * sz+u by rw [<-Nat.add_assoc,<-Nat.add_mul]] at this;exact this
  have hlen:(ws.take i++ws.drop j).length=m-(j-i):=by simp;omega
  obtain ⟨q1,q2⟩:=zfh (W':=W') hG (o':=.arr (ver+1) ty sz (ws.take i++ws.drop j) none) hg rfl w1 w2 w3 (by omega) (λb hb1 hb2=>w5 b hb2)
   (λver' ty' sz' zs cp' he=>by injection he with e1 e2 e3 e4 e5;subst e1;subst e2;subst e3;subst e4;exact ⟨_,_,_,rfl,by omega,λe=>by omega⟩) (λhst=>by
   refine ⟨cur',w6,hsz,by rw [w7];exact k3,k3',by rw [hlen];omega,λn hn=>by (cases hn),λt x ht => ?_,λt x u v ht hu => ?_,λt x u v ht hu => ?_⟩
   · rcases zlv ws i j t (by omega) x ht with ⟨h1,h2⟩|⟨h1,h2,h3⟩
     · exact k6 _ _ h2
     · exact k6 _ _ h3
   · have hxl:x.cells.length=sz:=by
      rcases zlv ws i j t (by omega) x ht with ⟨h1,h2⟩|⟨h1,h2,h3⟩
      · exact k6 _ _ h2
      · exact k6 _ _ h3
     have hul:=(Qaa.1 hu).1;obtain ⟨t',e1,e2⟩:=place t x u ht (by omega);rw [e2];exact k7 t' x u v e1 hu
   · have hxl:x.cells.length=sz:=by
      rcases zlv ws i j t (by omega) x ht with ⟨h1,h2⟩|⟨h1,h2,h3⟩
      · exact k6 _ _ h2
      · exact k6 _ _ h3
     have hul:=(Qaa.1 hu).1;obtain ⟨t',e1,e2⟩:=place t x u ht (by omega)
     rw [e2];exact (k8 t' x u v e1 hu).mono hst)
  have hset:(⟨lv,L,E⟩:Heap).set lv k (.arr (ver+1) ty sz (ws.take i++ws.drop j) none)=⟨lv,L.set k (some (.arr (ver+1) ty sz (ws.take i++ws.drop j) none)),E⟩:=by simp only [Heap.set,Qbp]
  rw [hset] at q1 q2;have hlt:=(Qaa.1 hL).1;refine ⟨.ret (.hs lv k (ver+1) 0 (m-(j-i)) false),_,g,⟨rfl,rfl⟩,q1,q2,_,rfl,?_⟩;refine .hs _ _ _ _ _ _ _ _ _ hd (λv' ty' sz' xs' cp' hg' => ?_) λty' sz' xs' cp' hg' => ?_
  · simp [Heap.get,hlt] at hg';omega
  · simp only [Heap.get,if_true,Qao hlt,Option.join_some,Qbm,kz2.arr.injEq] at hg';obtain ⟨_,_,rfl,rfl,rfl⟩:=hg';exact ⟨by rw [Nat.zero_mul],rfl,⟨by omega,by omega,λh=>by cases h⟩,by rw [hlen];omega⟩
def ygc (D:Dat) (f ty q:Nat) (go:Nat->List (D.T q)->Int->Int->Option (List (D.T q))):FI D :=
 {R:=List (D.T q),ent:=λn=>{f:=f,p:=0,args:=[.own 0,.d (.int .i64),.d (.int .i64)],aos:=[.deep ty q],outs:=[.own 0],ros:=[.deep ty q],pan:=.nilp,pos:=[.deep ty q],pure:=false,go:=λx k _=>(go n x.2.2.1 x.1 x.2.1).bind λr=>k (r,())},
   c:=.skip,K:=⟨λ_=>none,[],λ_=>none,λ_ _=>none⟩,p:=0,args:=[],aos:=[],nt:=0,z5h:=λ_=>[],go:=λ_ _=>none}
theorem yg0 {P:Program} {D:Dat} {f ty q:Nat} (hsz:0<D.len (.st q)) (hent:∀args W,(callFunc f args).run P W = .ok (.enter f args) W) (hcon:y4z P f (D.len (.st q)))
  (xs:List (D.T q)) (i j:Nat) (hij:i<j) (hj:j<=xs.length) (go:Nat->List (D.T q)->Int->Int->Option (List (D.T q))) (n:Nat) :
  ((ygc D f ty q go).ent n).Flat P (((i:Int),((j:Int),(xs,()))):HL D.T [.int .i64,.int .i64,.sl (.st q)]) (.inl ((xs.take i++xs.drop j,()):HL D.T [.sl (.st q)])):=λlv L E ρ0 vargs k1 k2 k3 k4=>by
 have k1:ρ0.length=1:=k1;obtain ⟨sl,rfl⟩:=List.length_eq_one_iff.1 k1;have k2:VRL D [sl] lv [.own 0,.int .i64 i,.int .i64 j] vargs:=k2;simp only [VRL,VR] at k2;obtain ⟨v,rr,rfl,⟨sl',e1,e2,e3⟩,v1,r1,rfl,rfl,v2,r2,rfl,rfl,rfl⟩:=k2;obtain rfl:sl=sl':=by simpa using e1
 subst e2;obtain ⟨sl',e4,e5⟩:=k3 0 (.deep ty q xs none) (Qai);obtain rfl:sl=sl':=by simpa using e4
 simp only [OR] at e5;obtain ⟨o1,o3⟩:=e5
 cases hk:sl.k with
 |none=>rw [hk] at o3;rw [o3.1] at hj;simp at hj;omega
 |some a=>
 rw [hk] at o3;obtain ⟨ver,cp,fps,q1,q2,q3,q4,q5,q6,q7⟩:=o3;have hh:=yi6 (P:=P) (f:=f) (ty:=ty) hsz hent hcon (lv:=lv) (E:=E) (n:=sl.ws.length) (i:=i) (j:=j) q2 rfl hij (by rw [o1];exact hj);rw [<-q1] at hh;refine hh.mono λo H' ⟨e1,e2⟩ => ?_
 subst e1;subst e2;have hal:=(Qaa.1 q2).1
 have hperm:sl.fp.Perm (((fps.drop i).take (j-i)).flatten++(fps.take i++fps.drop j).flatten):=by
  rw [q4]
  have:fps=fps.take i++((fps.drop i).take (j-i)++fps.drop j):=by
   conv=>lhs;rw [<-List.take_append_drop i fps]
   congr 1
   conv=>lhs;rw [<-List.take_append_drop (j-i) (fps.drop i)]
   rw [List.drop_drop];congr 2;omega
  conv=>lhs;rw [this]
  rw [List.flatten_append,List.flatten_append,List.flatten_append,<-Qax,<-Qax];exact List.perm_append_comm.append_right _
 have hin:∀x,x∈(fps.take i++fps.drop j).flatten->x∈sl.fp:=λx h=>hperm.mem_iff.2 (List.mem_append_right _ h)
 have hnd:=(List.nodup_append.1 (hperm.nodup_iff.1 q5)).2.1;have hfpa:∀x∈sl.fp,x≠a:=λx hx e=>(k4.2 0 sl x rfl hx).1 (by rw [hk,e])
 let ws':=sl.ws.take i++sl.ws.drop j
 let L':=L.set a (some (kz2.arr (ver+1) ty (D.len (.st q)) ws' none))
 let sl':Slot:=⟨.hs lv a (ver+1) 0 (sl.ws.length-(j-i)) false,some a,ws',(fps.take i++fps.drop j).flatten⟩
 have hwl:ws'.length=sl.ws.length-(j-i):=by simp [ws'];omega
 have hL':∀x∈sl.fp,L'[x]? = L[x]? := λx hx=>Qak (λe=>hfpa x hx e.symm)
 have hhas:∀x,sl'.has x->sl.has x:=λx h=>h.elim (λh=>.inl (by rw [hk];exact h)) λh=>.inr (hin x h)
 refine ⟨L',[sl'],rfl,⟨rfl,λb o hm => ?_,λs s' t t' x r1 r2 _ _ => ?_,λs t x r1 c1 => ?_,λx hx hno => ?_,λb t hb=>absurd hb (Nat.not_lt_zero _),λs t x r1 c1 => ?_⟩,λp hp=>(by cases hp),[.hs lv a (ver+1) 0 (sl.ws.length-(j-i)) false],rfl,?_⟩
 ·have hm:(b,o)∈[(0,(TO.deep ty q (xs.take i++xs.drop j) none:TO D.T))]:=hm;simp only [List.mem_singleton,Qbr] at hm;obtain ⟨rfl,rfl⟩:=hm;refine ⟨sl',rfl,?_⟩;simp only [OR];refine ⟨by simp [sl',ws',o1],ver+1,none,fps.take i++fps.drop j,by rw [hwl],by simp [L',hal,sl'],by simp [q3],rfl,hnd,λm x w c h1 h2 h3 => ?_,λ_ _ _ h=>by cases h⟩
  have key:∃m':Nat,xs[m']? = some x∧sl.ws[m']? = some w∧fps[m']? = some c:=by
   rcases zlv xs i j m (by omega) x h1 with ⟨a1,a2⟩|⟨a1,a1',a2⟩ <;> rcases zlv sl.ws i j m (by omega) w h2 with ⟨b1,b2⟩|⟨b1,b1',b2⟩ <;> rcases zlv fps i j m (by omega) c h3 with ⟨c1,c2⟩|⟨c1,c1',c2⟩ <;> first|omega|exact ⟨_,a2,b2,c2⟩
  obtain ⟨m',h1,h2,h3⟩:=key;have:=EO.mono (L:=L) (L':=L') [] (q6 m' x w c h1 h2 h3) λy hy=>hL' y (by rw [q4];exact List.mem_flatten.2 ⟨c,Qav h3,hy⟩)
  obtain ⟨vs,cs,d1,d2,d3,d4,d5⟩:=this;exact ⟨vs,cs,d1,d2,d3,d4,λf' p u b r1 r2 r3=>d5 f' p u b r1 r2 r3⟩
 ·have l1:=(Qaa.1 r1).1;have l2:=(Qaa.1 r2).1;simp at l1 l2;omega
 ·have l1:=(Qaa.1 r1).1;have:s=0:=by simp at l1;omega
  subst this;obtain rfl:sl'=t:=by simpa using r1
  exact .inr ⟨0,sl,rfl,hhas x c1⟩
 ·refine ⟨by simp [L'];exact hx,Qak λe=>hno 0 sl rfl (.inl (by rw [hk,e]))⟩
 ·have l1:=(Qaa.1 r1).1;have:s=0:=by simp at l1;omega
  subst this;obtain rfl:sl'=t:=by simpa using r1
  have:=k4.2 0 sl x rfl (hin x c1);exact ⟨by rw [hk] at this;exact this.1,by rw [hL' x (hin x c1)];exact this.2⟩
 ·show VRL D [sl'] lv [.own 0] _;simp only [VRL,VR];exact ⟨_,[],rfl,⟨sl',rfl,rfl,rfl⟩,rfl⟩
def ydj {α:Type} (xs:List α) (i j:Int):Option (List α):=if 0<=i∧i<j∧j<=xs.length then some (xs.take i.toNat++xs.drop j.toNat) else none
theorem yjk {P:Program} {D:Dat} {f ty q:Nat} (hsz:0<D.len (.st q)) (hent:∀args W,(callFunc f args).run P W = .ok (.enter f args) W) (hcon:y4z P f (D.len (.st q))):FOk P (ygc D f ty q λ_ xs i j=>ydj xs i j):=λn R x k kp r h=>by
 obtain ⟨i,j,xs,u⟩:=x;have h:((ydj xs i j).bind λr=>k (r,()))=some r:=h;obtain ⟨r0,h1,h2⟩:=zkn h;unfold ydj at h1;split at h1
 ·rename_i hc;injection h1 with h1;subst h1;obtain ⟨i',rfl⟩:∃i':Nat,(i:Int)=(i':Int):=⟨Int.toNat i,(Int.toNat_of_nonneg hc.1).symm⟩;have hc2:=hc.2.1;obtain ⟨j',rfl⟩:∃j':Nat,(j:Int)=(j':Int):=⟨Int.toNat j,(Int.toNat_of_nonneg (Int.le_trans hc.1 (Int.le_of_lt hc.2.1))).symm⟩;rw [Int.toNat_natCast,Int.toNat_natCast] at h2
  exact .inl ⟨(xs.take i'++xs.drop j',()),h2,yg0 hsz hent hcon xs i' j' (Int.ofNat_lt.1 hc.2.1) (Int.ofNat_le.1 hc.2.2) _ n⟩
 ·cases h1
end Go.Ab
namespace Go.Ab
open Go Go.RowKit Go.Sort Go.Proofs
set_option linter.unusedVariables false
set_option linter.unusedSimpArgs false
theorem insert_perm {H:Type} (x:Lit×DataW H):∀l:List (Lit×DataW H),(DataW.insert x l).Perm (x::l)
 |[]=>.refl _
 |y::r=>by
  unfold DataW.insert;split
  · exact .refl _
  · exact ((insert_perm x r).cons y).trans (.swap x y r)
theorem zlo {H:Type}:∀l:List (Lit×DataW H),(l.foldr DataW.insert []).Perm l
 |[]=>.refl _
 |x::r=>(insert_perm x _).trans ((zlo r).cons x)
def zlp {H:Type}:Value->Option (DataW H×List MemPlace):=λ_=>some (.nil,[])
def ycg (D:Dat) (f mt:Nat) (go:Nat->List (List UInt8)->List Bool->Option (List (List UInt8)×List (List UInt8)×List Bool)):FI D :=
 {R:=List (List UInt8)×List (List UInt8)×List Bool,ent:=λn=>{f:=f,p:=1,args:=[.map 0],aos:=[.mp mt .bool],outs:=[.d (.sl .str)],ros:=[.mp mt .bool],pan:=.nilp,pos:=[.mp mt .bool],pure:=false,go:=λx k _=>(go n x.1 x.2.1).bind λr=>k (r.1,r.2.1,r.2.2,())},
   c:=.skip,K:=⟨λ_=>none,[],λ_=>none,λ_ _=>none⟩,p:=0,args:=[],aos:=[],nt:=0,z5h:=λ_=>[],go:=λ_ _=>none}
def y4c (P:Program) (f kt:Nat):Prop:=∀(b:Nat) (es:Array MapEntry) (clock:Nat) (w:World),w.heap[b]? = some (.map es clock)->WideElems.Fit P kt (zlp (H:=Unit)) es clock->es.size<=8388608 ->
 Calls P f #[.map (some b)] w λe w'=>∃(v:Value) (ss:List (List UInt8)),e = .returned v∧ss.Perm (strKeys (DataW.map ((es.toList.map (WideElems.rg P kt (zlp (H:=Unit)))).foldr DataW.insert []))) ∧
  w'.ownsRow w.heap.size kt 1 v ss.length ((ss.mergeSort (λx y=>decide (x<=y))).map encStr)∧Below w.heap.size w w'
theorem ye8 {P:Program} {D:Dat} {f mt kt:Nat} (hkt:P.underlying kt=some .string) (hent:∀args W,(callFunc f args).run P W = .ok (.enter f args) W) (hcon:y4c P f kt)
  (ks:List (List UInt8)) (vs:List Bool) (hn:ks.Nodup) (hlv:ks.length=vs.length) (hlen:ks.length<=8388608) (hs:∀s∈ks,s.length<=8388608) (go:Nat->List (List UInt8)->List Bool->Option (List (List UInt8)×List (List UInt8)×List Bool)) (n:Nat) :
  ((ycg D f mt go).ent n).Flat P ((ks,vs,()):HL D.T [.sl .str,.sl .bool]) (.inl ((zzw ks,ks,vs,()):HL D.T [.sl .str,.sl .str,.sl .bool])):=by
 intro lv L E ρ0 vargs k1 k2 k3 k4;have k1:ρ0.length=1:=k1;obtain ⟨sl,rfl⟩:=List.length_eq_one_iff.1 k1;have k2:VRL D [sl] lv [.map 0] vargs:=k2;simp only [VRL,VR] at k2;obtain ⟨v,rr,rfl,⟨sl',i,e1,e2,e3⟩,rfl⟩:=k2;obtain rfl:sl=sl':=by simpa using e1
 subst e3;obtain ⟨sl',e4,e5⟩:=k3 0 (.mp mt .bool (List.zip ks vs)) (Qai);obtain rfl:sl=sl':=by simpa using e4
 have e5':=e5;simp only [OR] at e5;obtain ⟨i',ms,o1,o2,o3,o4⟩:=e5
 rw [e2] at o1;injection o1 with o1;subst o1
 have hzl:(List.zip ks vs).map (·.1)=ks:=by rw [List.map_fst_zip];omega
 have hms:ms.map (·.1)=ks:=by
  have h1:List.map (λx:List UInt8×DTy.S D.T .bool=>x.1) (List.zip ks vs)=List.map (λx=>x.1) (ms.map λp=>(p.1,p.2.1)):=congrArg _ o2;rw [List.map_map] at h1;exact (h1.symm.trans hzl)
 have hml:ms.length=ks.length:=by rw [<-hms,Qaz]
 have hlv':L[i]? = some (some (.map (ms.map λp=>(V.str p.1,p.2.2)))):=o4;intro W g cargs hG hA;obtain ⟨c,rfl,hc⟩:=y7a hA
 cases hc with
 |map _ _ hd=>
 have hget:Heap.get ⟨lv,L,E⟩ lv i=some (.map (ms.map λp=>(V.str p.1,p.2.2))):=by unfold Heap.get;rw [Qbp rfl,hlv'];rfl
 obtain ⟨en,clock,b1,b2,b3,b4,b5⟩:=hG.obj lv i _ hget;have hsz:en.size=ks.length:=by rw [b2,Qaz,hml]
 have key:∀(j:Nat) (s:List UInt8),ks[j]? = some s->∃e,en[j]? = some e∧e.key = .string ⟨s.toArray⟩:=λj s hj=>by
  rw [<-hms,Qal,Qae] at hj;obtain ⟨p,hp,rfl⟩:=hj;obtain ⟨e,h1,h2,_⟩:=b5 j (V.str p.1,p.2.2) (by rw [Qal,hp];rfl);refine ⟨e,h1,?_⟩;generalize hk:e.key=q at h2;cases h2;rfl
 have keys:en.toList.map (·.key)=ks.map λs=>Value.string ⟨s.toArray⟩:=by
  refine List.ext_getElem? λj => ?_
  rw [Qal,Qal]
  cases hj:ks[j]? with
  |none=>
   rw [List.getElem?_eq_none_iff] at hj
   rw [Qbw (by rw [Array.length_toList];omega)];rfl
  |some s=>
   obtain ⟨e,h1,h2⟩:=key j s hj;rw [Qbd,h1];simp [h2]
 have inj:Function.Injective λs:List UInt8=>Value.string ⟨s.toArray⟩:=λa b h=>by
  injection h with h;injection h with h;injection h
 have ft:WideElems.Fit P kt (zlp (H:=Unit)) en clock:=by
  refine ⟨by simp only [maxLen];omega,⟨λe he=>b3 e (by simpa using he),?_,?_⟩,λe he => ?_⟩
  ·rw [List.nodup_iff_pairwise_ne,List.pairwise_iff_getElem];intro j k hj hk hjk h;simp only [Qaz,Array.length_toList] at hj hk;have:=b4 j k en[j] en[k] (Qaq hj) (Qaq hk) (by simpa using h);omega
  ·rw [keys];exact List.pairwise_map.2 (List.Pairwise.imp (λ{a b} h e=>h (inj e)) hn)
  ·obtain ⟨j,hj,e1⟩:=List.mem_iff_getElem.1 he;have hj':j<ks.length:=by rw [Array.length_toList] at hj;omega
   obtain ⟨e',h1,h2⟩:=key j _ (Qab hj')
   have:e'=e:=by
    rw [Array.length_toList] at hj;rw [Qaq hj] at h1;injection h1 with h1;rw [<-h1,<-e1];simp
   subst this;have hbs:=hs _ (List.getElem_mem hj');refine ⟨(.string (ks[j]'hj'),.nil),?_⟩;unfold WideElems.rd;rw [h2]
   have hk:keyOf P kt (.string ⟨(ks[j]'hj').toArray⟩)=some (.string (ks[j]'hj')):=by
    unfold keyOf;rw [hkt];show mapKey P kt _=_;unfold mapKey;rw [hkt];simp [ByteArray.size,maxLen];omega
   rw [hk];rfl
 have rgs:en.toList.map (WideElems.rg P kt (zlp (H:=Unit)))=ks.map λs=>(Lit.string s,DataW.nil):=by
  refine List.ext_getElem? λj => ?_
  rw [Qal,Qal]
  cases hj:ks[j]? with
  |none=>
   rw [List.getElem?_eq_none_iff] at hj
   rw [Qbw (by rw [Array.length_toList];omega)];rfl
  |some s=>
   obtain ⟨e,h1,h2⟩:=key j s hj;rw [Qbd,h1];have hbs:=hs s (Qav hj)
   have hk:keyOf P kt (.string ⟨s.toArray⟩)=some (.string s):=by
    unfold keyOf;rw [hkt];show mapKey P kt _=_;unfold mapKey;rw [hkt];simp [ByteArray.size,maxLen];omega
   have:WideElems.rd P kt (zlp (H:=Unit)) e=some (.string s,.nil):=by
    unfold WideElems.rd;rw [h2,hk];rfl
   simp [WideElems.rg,this]
 refine ⟨hent _ _,(hcon (g.blk lv i) en clock W b1 ft (by omega)).mono ?_⟩
 rintro e W' ⟨v',ss,rfl,hperm,⟨r0,hrow⟩,hb⟩
 have hgr:=zkb hb
 have hpk:ss.Perm ks:=by
  refine hperm.trans ?_;rw [rgs];show (((ks.map λs=>(Lit.string s,(DataW.nil:DataW Unit))).foldr DataW.insert []).map λp=>strOf p.1).Perm ks;refine ((zlo _).map _).trans ?_;rw [List.map_map]
  have:(ks.map ((λp:Lit×DataW Unit=>strOf p.1)∘λs=>(Lit.string s,DataW.nil)))=ks:=by
   conv=>rhs;rw [<-List.map_id ks]
   rfl
  rw [this]
 have hsort:ss.mergeSort (λx y=>decide (x<=y))=zzw ks:=by
  show zzw ss=zzw ks;exact zp0 (zr7 (hpk.nodup_iff.2 hn)) (zr7 hn) λx=>by rw [(zei ss).mem_iff,(zei ks).mem_iff,hpk.mem_iff]
 rw [hsort] at r0 hrow;have hsl:(zzw ks).length=ss.length:=by rw [(zei ks).length_eq,hpk.length_eq]
 have left:Left D lv L [sl] 1 L [sl] [.mp mt .bool] ((ks,vs,()):HL D.T [.sl .str,.sl .bool]):=by
  refine ⟨rfl,λj o hm => ?_,k4.1,λs t j r1 c1=>.inr ⟨s,t,r1,c1⟩,λj hj _=>⟨hj,rfl⟩,λj t hj ht=>ht,k4.2⟩;have hm:(j,o)∈[(0,(TO.mp mt .bool (List.zip ks vs):TO D.T))]:=hm;simp only [List.mem_singleton,Qbr] at hm;obtain ⟨rfl,rfl⟩:=hm;exact ⟨sl,rfl,e5'⟩
 refine ⟨.ret (.sl 1 ((zzw ks).map V.str) false),⟨lv,L,E⟩,g,⟨L,[sl],rfl,left,(λq hq=>by cases hq),[.sl 1 ((zzw ks).map V.str) false],rfl,?_⟩,hgr.step,hG.grow hgr,v',rfl,?_⟩
 ·show VRL D [sl] lv [.sl .str (zzw ks) 0] _;simp only [VRL,VR];exact ⟨_,_,rfl,⟨DR.elsl .str _ λx=>.str x,λh=>(by omega),λh=>(by omega)⟩,rfl⟩
 ·rcases hrow with ⟨rfl,hn0⟩|⟨gb,cap,cur,rfl,hbase,hgb,hnc,hcap,hcs,htk⟩
  ·have:zzw ks=[]:=Qam (by omega);rw [this];exact .slnil 1 false
  ·have hown:¬Own g ⟨lv,L,E⟩ gb:=by
    rintro ⟨l',i',o',h1,h2⟩
    have:=hG.lt l' i' o' h1;omega
   rw [show ss.length=((zzw ks).map V.str).length by rw [Qaz,hsl]]
   have cell:∀(j:Nat) (s:List UInt8),(zzw ks)[j]? = some s->W'.cell? ⟨gb,0+j * 1+0,none⟩=some (.string ⟨s.toArray⟩):=λj s hj=>by
    have h1:((zzw ks).map encStr)[j]? = some (.string ⟨s.toArray⟩):=by rw [Qal,hj];rfl
    rw [<-htk,Qau] at h1;split at h1
    ·rw [Qbd] at h1;unfold World.cell?;simp only [hgb];simpa using h1
    ·cases h1
   refine .sl 1 _ false gb 0 cap (λj _=>.string ⟨((zzw ks)[j]?.getD []).toArray⟩) hown (by omega) (by rw [Qaz,hsl];exact hnc) (λh=>by cases h) (λj x hj => ?_) (λj x t u hj ht => ?_) (λj x t u hj ht => ?_) λj x t u hj ht => ?_
   all_goals rw [Qal,Qae] at hj;obtain ⟨s,hs1,rfl⟩:=hj
   ·rfl
   ·have ht0:t=0:=by
     have:=(Qaa.1 ht).1;simp [V.cells] at this;exact this
    subst ht0;rw [hs1];exact cell j s hs1
   ·rw [hs1];rfl
   ·have ht0:t=0:=by
     have:=(Qaa.1 ht).1;simp [V.cells] at this;exact this
    subst ht0;simp only [V.cells,Qbu,Qbm] at ht;subst ht;rw [hs1];exact .str s
theorem yii {P:Program} {D:Dat} {f mt kt:Nat} (hkt:P.underlying kt=some .string) (hent:∀args W,(callFunc f args).run P W = .ok (.enter f args) W) (hcon:y4c P f kt) :
  FOk P (ycg D f mt λ_ ks vs=>if ks.Nodup∧ks.length=vs.length∧ks.length<=8388608∧(∀s∈ks,s.length<=8388608) then some (zzw ks,ks,vs) else none):=λn R x k kp r h=>by
 obtain ⟨ks,vs,u⟩:=x;change List (List UInt8) at ks;change List Bool at vs;have h:((if ks.Nodup∧ks.length=vs.length∧ks.length<=8388608∧(∀s∈ks,s.length<=8388608) then some (zzw ks,ks,vs) else none).bind λr=>k (r.1,r.2.1,r.2.2,()))=some r:=h;obtain ⟨r0,h1,h2⟩:=zkn h;split at h1
 case isFalse=>cases h1
 rename_i hh;obtain ⟨a1,a2,a3,a4⟩:=hh;injection h1 with h1;subst h1;exact .inl ⟨(zzw ks,ks,vs,()),h2,ye8 hkt hent hcon ks vs a1 a2 a3 a4 _ n⟩
end Go.Ab
