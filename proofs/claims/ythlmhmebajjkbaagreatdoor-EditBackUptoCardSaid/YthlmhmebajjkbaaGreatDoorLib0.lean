/-
  PACKAGE-LEVEL VARIABLES THAT THE CLAIM KNOWS THE CELLS OF, by their numbers: none (a claim's own text of this name may say more): tables of integers (gl), variables that hold an error (gle).
-/
import Derived.Calls
import Derived.Below
import Derived.Laws.Slices
import Derived.Laws.Strings
import Derived.Laws.Cells
import Derived.WideLaws
import Derived.Laws.StructEq
import Derived.Laws.Build
import Derived.MapKept
import Derived.Laws.Tables
import Derived.Laws.MakeOwn
import Derived.Laws.AppendOwn
import Derived.Laws.CopyRow
set_option linter.defProp false
set_option linter.unusedSimpArgs false
set_option linter.unusedVariables false
namespace Go.Ab
def Qaa:type_of% @List.getElem?_eq_some_iff:=@List.getElem?_eq_some_iff
def Qab:type_of% @List.getElem?_eq_getElem:=@List.getElem?_eq_getElem
def Qac:type_of% @of_decide_eq_true:=@of_decide_eq_true
def Qad:type_of% @List.getElem_mem:=@List.getElem_mem
def Qae:type_of% @Array.getD_eq_getD_getElem?:=@Array.getD_eq_getD_getElem?
def Qaf:type_of% @Option.map_eq_some_iff:=@Option.map_eq_some_iff
def Qag:type_of% @Bool.and_eq_true:=@Bool.and_eq_true
def Qah:type_of% @List.getElem_cons_drop:=@List.getElem_cons_drop
def Qai:type_of% @List.mem_cons_of_mem:=@List.mem_cons_of_mem
def Qaj:type_of% @Nat.eq_of_beq_eq_true:=@Nat.eq_of_beq_eq_true
def Qak:type_of% @List.mem_cons_self:=@List.mem_cons_self
def Qal:type_of% @List.getElem?_append_left:=@List.getElem?_append_left
def Qam:type_of% @List.getElem?_set_ne:=@List.getElem?_set_ne
def Qan:type_of% @List.getElem?_map:=@List.getElem?_map
def Qao:type_of% @List.eq_nil_of_length_eq_zero:=@List.eq_nil_of_length_eq_zero
def Qap:type_of% @List.length_append:=@List.length_append
def Qaq:type_of% @List.getElem?_set_self:=@List.getElem?_set_self
def Qar:type_of% @decide_eq_true_eq:=@decide_eq_true_eq
def Qas:type_of% @Array.getElem?_eq_getElem:=@Array.getElem?_eq_getElem
def Qat:type_of% @List.all_eq_true:=@List.all_eq_true
def Qau:type_of% @Nat.mul_le_mul_right:=@Nat.mul_le_mul_right
def Qav:type_of% @List.getElem?_append_right:=@List.getElem?_append_right
def Qaw:type_of% @List.getElem?_take:=@List.getElem?_take
def Qax:type_of% @List.mem_of_getElem?:=@List.mem_of_getElem?
def Qay:type_of% @List.length_take:=@List.length_take
def Qaz:type_of% @List.append_assoc:=@List.append_assoc
def Qba:type_of% @List.getD_eq_getElem?_getD:=@List.getD_eq_getElem?_getD
def Qbb:type_of% @List.mem_append:=@List.mem_append
def Qbc:type_of% @List.mem_singleton:=@List.mem_singleton
def Qbd:type_of% @List.length_map:=@List.length_map
def Qbe:type_of% @List.getElem?_append:=@List.getElem?_append
def Qbf:type_of% @List.getElem?_drop:=@List.getElem?_drop
def Qbg:type_of% @List.mem_map:=@List.mem_map
def Qbh:type_of% @Array.getElem?_toList:=@Array.getElem?_toList
def Qbi:type_of% @List.getElem?_set:=@List.getElem?_set
def Qbj:type_of% @Nat.lt_of_lt_of_le:=@Nat.lt_of_lt_of_le
def Qbk:type_of% @Nat.le_trans:=@Nat.le_trans
def Qbl:type_of% @List.mem_cons:=@List.mem_cons
def Qbm:type_of% @beq_iff_eq:=@beq_iff_eq
def Qbn:type_of% @Array.getElem?_eq_some_iff:=@Array.getElem?_eq_some_iff
def Qbo:type_of% @List.getElem?_replicate:=@List.getElem?_replicate
def Qbp:type_of% @List.getElem?_of_mem:=@List.getElem?_of_mem
def Qbq:type_of% @Int.toNat_natCast:=@Int.toNat_natCast
def Qbr:type_of% @Option.map_some:=@Option.map_some
def Qbs:type_of% @decide_eq_false:=@decide_eq_false
def Qbt:type_of% @decide_eq_true:=@decide_eq_true
def Qbu:type_of% @Option.some.injEq:=@Option.some.injEq
def Qbv:type_of% @Nat.zero_le:=@Nat.zero_le
def Qbw:type_of% @Nat.le_refl:=@Nat.le_refl
def Qbx:type_of% @if_pos:=@if_pos
def Qby:type_of% @if_neg:=@if_neg
def Qbz:type_of% @Prod.mk.injEq:=@Prod.mk.injEq
def Qca:type_of% @Sem.run_bind:=@Sem.run_bind
def Qcb:type_of% @Result.andThen_ok:=@Result.andThen_ok
def Qcc:type_of% @List.length_nil:=@List.length_nil
def Qcd:type_of% @List.getElem?_cons_zero:=@List.getElem?_cons_zero
def Qce:type_of% @Option.bind_eq_some_iff:=@Option.bind_eq_some_iff
def Qcf:type_of% @List.getElem?_eq_none:=@List.getElem?_eq_none
abbrev B8:=List UInt8
def gl:Nat->Option (List (IntKind×Int)):=λ_=>none
def gle:Nat->Bool:=λ_=>false
inductive PV:Type where
 |bool (b:Bool)
 |int (k:IntKind) (n:Int)
 |str (s:B8)
 deriving Inhabited,DecidableEq
def PV.c:PV->Value
 |.bool b=>.bool b
 |.int k n=>.int k n
 |.str s=>.string ⟨s.toArray⟩
inductive V:Type where
 |any
 |bool (b:Bool)
 |int (k:IntKind) (n:Int)
 |str (s:B8)
 |nilp
 |ptr (l i off:Nat)
 |ref (cs:List V) (off:Nat)
 |ap (l i ver idx off:Nat)
 |nils
 |sl (sz:Nat) (xs:List V) (full:Bool)
 |hs (l i ver off n:Nat) (full:Bool)
 |mapn
 |map (l i:Nat)
 |mapc (es:List (PV×PV))
 |fn (f:Nat) (first caps:List V)
 |nilf
 |iface (t:Nat) (v:V)
 |nili
 |agg (cs:List V)
 |tup (vs:List V)
 deriving Inhabited
def V.cells:V->List V
 |.agg cs=>cs
 |v=>[v]
def V.leaf:V->Bool
 |.any| .agg _| .tup _=>false
 |_=>true
inductive yz5:Type where
 |cells (cs:List V)
 |arr (ver ty sz:Nat) (xs:List V) (cap:Option Nat)
 |map (es:List (V×V))
 |siter (s:B8) (pos:Nat)
 |mit (es:List (PV×PV)) (vis:List Nat)
structure Heap where
 lv:Nat
 L:List (Option yz5)
 E:Nat->Nat->Option yz5
def Heap.get(H:Heap)(l i:Nat):Option yz5:=if l=H.lv then (H.L[i]?).join else H.E l i
structure Gh where
 dom:Nat->Nat->Prop
 blk:Nat->Nat->Nat
 ab:Nat->Nat->Nat
 cap:Nat->Nat->Nat
def yz5.blk(g:Gh)(l i:Nat):yz5->Nat
 |.arr .. => g.ab l i
 |_=>g.blk l i
def Own(g:Gh)(H:Heap)(b:Nat):Prop:=∃l i o,H.get l i=some o∧o.blk g l i=b
def yuk(es:List (PV×PV))(a:Array MapEntry)(clock:Nat):Prop :=
 a.size=es.length∧(∀e∈a,e.born<clock)∧(∀(j k:Nat) (e f:MapEntry),a[j]? = some e->a[k]? = some f->e.born=f.born->j=k) ∧
  (∀(j:Nat) (p:PV×PV),es[j]? = some p->∃e,a[j]? = some e∧e.key=p.1.c∧e.val=p.2.c)
def z9y(a:Array MapEntry)(j:Nat):Nat:=(a[j]?.map (·.born)).getD 0
inductive Rel (W:World) (g:Gh) (H:Heap):V->Value->Prop where
 |any (c:Value):Rel W g H .any c
 |bool (b:Bool):Rel W g H (.bool b) (.bool b)
 |int (k:IntKind) (n:Int):Rel W g H (.int k n) (.int k n)
 |str (s:B8):Rel W g H (.str s) (.string ⟨s.toArray⟩)
 |nilp:Rel W g H .nilp (.pointer none)
 |ptr (l i off:Nat) (hd:g.dom l i):Rel W g H (.ptr l i off) (.pointer (some ⟨g.blk l i,off,none⟩))
 |ref (cs:List V) (off b o:Nat) (c:Nat->Value) (hb:cs≠[]->¬Own g H b) (hc:∀j v,cs[j]? = some v->W.cell? ⟨b,o+j,none⟩=some (c j)) (h1:∀j v,cs[j]? = some v->(c j).oneCell'=true) (hr:∀j v,cs[j]? = some v->Rel W g H v (c j)):Rel W g H (.ref cs off) (.pointer (some ⟨b,o+off,none⟩))
 |ap (l i ver idx off:Nat) (a:Addr) (hd:g.dom l i) (hv:∀v ty sz xs cp,H.get l i=some (.arr v ty sz xs cp)->ver<=v) (ha:∀ty sz xs cp,H.get l i=some (.arr ver ty sz xs cp)->a=⟨g.ab l i,idx * sz+off,none⟩):Rel W g H (.ap l i ver idx off) (.pointer (some a))
 |nils:Rel W g H .nils (.slice none 0 0)
 |slnil (sz:Nat) (full:Bool):Rel W g H (.sl sz [] full) (.slice none 0 0)
 |sle (sz:Nat) (full:Bool) (a:Addr) (cap:Nat) (hf:full=true->cap=0):Rel W g H (.sl sz [] full) (.slice (some a) 0 cap)
 |sl (sz:Nat) (xs:List V) (full:Bool) (b o cap:Nat) (c:Nat->Nat->Value) (hb:¬Own g H b) (hz:0<sz) (hcap:xs.length<=cap) (hf:full=true->cap=xs.length)
  (hs:∀(j:Nat) (x:V),xs[j]? = some x->x.cells.length=sz) (hc:∀(j:Nat) (x:V) (t:Nat) (v:V),xs[j]? = some x->x.cells[t]? = some v->W.cell? ⟨b,o+j * sz+t,none⟩=some (c j t))
  (h1:∀(j:Nat) (x:V) (t:Nat) (v:V),xs[j]? = some x->x.cells[t]? = some v->(c j t).oneCell'=true)
  (hr:∀(j:Nat) (x:V) (t:Nat) (v:V),xs[j]? = some x->x.cells[t]? = some v->Rel W g H v (c j t)):Rel W g H (.sl sz xs full) (.slice (some ⟨b,o,none⟩) xs.length cap)
 |hs (l i ver off n:Nat) (full:Bool) (a:Option Addr) (m cap:Nat) (hd:g.dom l i) (hv:∀v ty sz xs cp,H.get l i=some (.arr v ty sz xs cp)->ver<=v)
  (ha:∀ty sz xs cp,H.get l i=some (.arr ver ty sz xs cp)->a=some ⟨g.ab l i,off * sz,none⟩∧m=n∧(n<=cap∧off+cap<=g.cap l i∧(full=true->cap=n))∧off+n<=xs.length):Rel W g H (.hs l i ver off n full) (.slice a m cap)
 |mapn:Rel W g H .mapn (.map none)
 |map (l i:Nat) (hd:g.dom l i):Rel W g H (.map l i) (.map (some (g.blk l i)))
 |mapc (es:List (PV×PV)) (b:Nat) (en:Array MapEntry) (clock:Nat) (hb:¬Own g H b) (hw:W.heap[b]? = some (.map en clock)) (he:yuk es en clock):Rel W g H (.mapc es) (.map (some b))
 |fn (f:Nat) (fs cs:List V) (fs' cs':Array Value) (h1:fs'.size=fs.length) (h2:cs'.size=cs.length) (r1:∀j v,fs[j]? = some v->Rel W g H v (fs'.getD j undef)) (r2:∀j v,cs[j]? = some v->Rel W g H v (cs'.getD j undef)):Rel W g H (.fn f fs cs) (.func (.func f) fs' cs')
 |nilf:Rel W g H .nilf .nilFunc
 |iface (t:Nat) (v:V) (c:Value) (h:Rel W g H v c):Rel W g H (.iface t v) (.iface t c)
 |nili:Rel W g H .nili .nilIface
 |agg (vs:List V) (cs:Array Value) (hn:cs.size=vs.length) (h1:∀j v,vs[j]? = some v->(cs.getD j undef).oneCell'=true) (hr:∀j v,vs[j]? = some v->Rel W g H v (cs.getD j undef)):Rel W g H (.agg vs) (.agg cs)
 |tup (vs:List V) (cs:Array Value) (hn:cs.size=vs.length) (hr:∀j v,vs[j]? = some v->Rel W g H v (cs.getD j undef)):Rel W g H (.tup vs) (.tuple cs)
def zif(W:World)(g:Gh)(H:Heap)(l i:Nat):yz5->Prop
 |.cells cs=>∃c ty,W.heap[g.blk l i]? = some (.cells c ty (0,0))∧c.size=cs.length∧(∀j v,cs[j]? = some v->(c.getD j undef).oneCell'=true)∧∀j v,cs[j]? = some v->Rel W g H v (c.getD j undef)
 |.arr _ ty sz xs m=>∃c,W.heap[g.ab l i]? = some (.cells c ty (0,0))∧0<sz∧c.size=g.cap l i * sz∧g.cap l i<=maxLen∧xs.length<=g.cap l i∧(∀n,m=some n->g.cap l i=n) ∧
  (∀(j:Nat) (x:V),xs[j]? = some x->x.cells.length=sz)∧(∀(j:Nat) (x:V) (t:Nat) (v:V),xs[j]? = some x->x.cells[t]? = some v->(c.getD (j * sz+t) undef).oneCell'=true) ∧
  ∀(j:Nat) (x:V) (t:Nat) (v:V),xs[j]? = some x->x.cells[t]? = some v->Rel W g H v (c.getD (j * sz+t) undef)
 |.map es=>∃a clock,W.heap[g.blk l i]? = some (.map a clock)∧a.size=es.length∧(∀e∈a,e.born<clock)∧(∀(j k:Nat) (e f:MapEntry),a[j]? = some e->a[k]? = some f->e.born=f.born->j=k) ∧
  (∀(j:Nat) (p:V×V),es[j]? = some p->∃e,a[j]? = some e∧Rel W g H p.1 e.key∧Rel W g H p.2 e.val)
 |.siter s h=>W.heap[g.blk l i]? = some (.stringIter ⟨s.toArray⟩ h)
 |.mit es d=>∃a clock b,W.heap[g.blk l i]? = some (.mapIter (some b) clock (d.map (z9y a)).toArray clock)∧¬Own g H b∧W.heap[b]? = some (.map a clock)∧yuk es a clock
def GlobI(W:World)(g:Gh)(H:Heap):Prop:=∀k cs,gl k=some cs->¬Own g H k∧∃ty q,W.heap[k]? = some (.cells (cs.map λp=>Value.int p.1 p.2).toArray ty q)
def GlobE(W:World)(g:Gh)(H:Heap):Prop:=∀k,gle k=true->¬Own g H k∧∃v ty q,W.heap[k]? = some (.cells #[v] ty q)∧(v = .nilIface∨∃a b,v = .iface a b)
def zno(W:World)(g:Gh)(H:Heap):Prop:=GlobI W g H∧GlobE W g H
structure Good(W:World)(g:Gh)(H:Heap):Prop where
 dom:∀l i o,H.get l i=some o->g.dom l i
 lt:∀l i o,H.get l i=some o->o.blk g l i<W.heap.size
 inj:∀l i o l' i' o',H.get l i=some o->H.get l' i'=some o'->o.blk g l i=o'.blk g l' i'->l=l'∧i=i'
 fresh:∀l i,g.dom l i->l<H.lv∨(l=H.lv∧i<H.L.length)
 obj:∀l i o,H.get l i=some o->zif W g H l i o
 y3r:zno W g H
structure Step(W:World)(g:Gh)(H:Heap)(W':World)(g':Gh)(H':Heap):Prop where
 os:W'.os=W.os
 tape:W'.tape=W.tape
 output:W'.output=W.output
 size:W.heap.size<=W'.heap.size
 block:∀b,b<W.heap.size->¬Own g H b->W'.heap[b]? = W.heap[b]?
 own:∀b,Own g' H' b->Own g H b∨W.heap.size<=b
 dom:∀l i,g.dom l i->g'.dom l i
 new:∀l i,g'.dom l i->g.dom l i∨l=H.lv
 blk:∀l i,g.dom l i->g'.blk l i=g.blk l i
 arr:∀l i ver ty sz xs cp,g.dom l i->H'.get l i=some (.arr ver ty sz xs cp)->∃v ys cp',H.get l i=some (.arr v ty sz ys cp')∧v<=ver∧(v=ver->g'.ab l i=g.ab l i∧g'.cap l i=g.cap l i∧ys.length<=xs.length)
 lv:H'.lv=H.lv
def zno.step{W:World}{g:Gh}{H:Heap}(h:zno W g H){W':World}{g':Gh}{H':Heap}(s:Step W g H W' g' H'):zno W' g' H':=by
 have lt:∀{k:Nat}{o:Obj},W.heap[k]? = some o->k<W.heap.size:=λ{k o} b=>by
  rcases Nat.lt_or_ge k W.heap.size with a|a
  ·exact a
  ·rw[Array.getElem?_eq_none a]at b;cases b
 refine⟨λk cs j =>?_,λk j =>?_⟩
 ·have⟨e,ty,q,b⟩:=h.1 k cs j;have d:=lt b;exact⟨λi=>(s.own k i).elim e (λa=>by omega),ty,q,by rw[s.block k d e];exact b⟩
 ·have⟨e,v,ty,q,b,l⟩:=h.2 k j;have d:=lt b;exact⟨λi=>(s.own k i).elim e (λa=>by omega),v,ty,q,by rw[s.block k d e];exact b,l⟩
def zno.y8r{W:World}{g g':Gh}{H H':Heap}(h:zno W g H)(a:∀b,Own g' H' b->Own g H b):zno W g' H':=by
 refine⟨λk cs e =>?_,λk e =>?_⟩
 ·have⟨j,i⟩:=h.1 k cs e;exact⟨λd=>j (a k d),i⟩
 ·have⟨j,i⟩:=h.2 k e;exact⟨λd=>j (a k d),i⟩
def Step.refl(W:World)(g:Gh)(H:Heap):Step W g H W g H :=
 ⟨rfl,rfl,rfl,Qbw _,λ_ _ _=>rfl,λ_ h=>.inl h,λ_ _ h=>h,λ_ _ h=>.inl h,λ_ _ _=>rfl,λ_ _ a _ _ xs b _ h=>⟨a,xs,b,h,Qbw _,λ_=>⟨rfl,rfl,Qbw _⟩⟩,rfl⟩
def Step.trans{W W' m:World}{g g' j:Gh}{H H' n:Heap}(h:Step W g H W' g' H')(k:Step W' g' H' m j n):Step W g H m j n where
 os:=k.os.trans h.os
 tape:=k.tape.trans h.tape
 output:=k.output.trans h.output
 size:=Qbk h.size k.size
 block:=λb p r=>by
  rw[k.block b (Qbj p h.size) (λB =>?_),h.block b p r]
  rcases h.own b B with h1|h1
  ·exact r h1
  ·omega
 own:=λb p=>by
  rcases k.own b p with h1|h1
  ·rcases h.own b h1 with h2|h2
   ·exact .inl h2
   ·exact .inr h2
  ·exact .inr (Qbk h.size h1)
 dom:=λl i a=>k.dom l i (h.dom l i a)
 new:=λl i a=>by
  rcases k.new l i a with h1|h1
  ·exact h.new l i h1
  ·exact .inr (h1.trans h.lv)
 blk:=λl i a=>(k.blk l i (h.dom l i a)).trans (h.blk l i a)
 arr:=λl i d ty sz xs E a C=>by
  have⟨v,s,q,h1,h2,D⟩:=k.arr l i d ty sz xs E (h.dom l i a) C;have⟨u,zs,o,y,x,w⟩:=h.arr l i v ty sz s q a h1;refine⟨u,zs,o,y,Qbk x h2,λe =>?_⟩;have z:v=d:=by omega
  have A:u=v:=by omega
  have⟨L,K,J⟩:=D z;have⟨I,G,F⟩:=w A;exact⟨L.trans I,K.trans G,Qbk F J⟩
 lv:=k.lv.trans h.lv
def yl7{W:World}{b o:Nat}{v:Value}(h:W.cell? ⟨b,o,none⟩=some v):b<W.heap.size:=by
 unfold World.cell? at h
 rcases Nat.lt_or_ge b W.heap.size with h1|h1
 ·exact h1
 ·simp[Array.getElem?_eq_none h1]at h
def ykb{W W':World}{b o:Nat}(h:W'.heap[b]? = W.heap[b]?):W'.cell? ⟨b,o,none⟩=W.cell? ⟨b,o,none⟩:=by
 unfold World.cell?;simp only[h]
def Rel.mono{W:World}{g:Gh}{H:Heap}{v:V}{c:Value}(h:Rel W g H v c){W':World}{g':Gh}{H':Heap}(s:Step W g H W' g' H'):Rel W' g' H' v c:=by
 induction h with
 |any c=>exact .any c
 |bool b=>exact .bool b
 |int k n=>exact .int k n
 |str s=>exact .str s
 |nilp=>exact .nilp
 |ptr l i d r=>rw[<-s.blk l i r];exact .ptr l i d (s.dom l i r)
 |ref cs d b o c A I w N y=>
  cases cs with
  |nil=>exact .ref [] d b o c (λh=>absurd rfl h) (by simp) (by simp) (by simp)
  |cons x xs=>
   have e:=yl7 (I 0 x rfl)
   exact .ref _ d b o c (λ_ z=>(s.own b z).elim (A (by simp)) (by omega)) (λj v O=>by rw[ykb (s.block b e (A (by simp)))];exact I j v O) w y
 |ap l i p T d a r G Q=>
  refine .ap l i p T d a (s.dom l i r) (λv ty sz xs D B =>?_) λty sz xs D B =>?_
  ·have⟨F,M,E,e,C,_⟩:=s.arr l i v ty sz xs D r B;exact Qbk (G _ _ _ _ _ e) C
  ·have⟨F,M,E,e,C,R⟩:=s.arr l i p ty sz xs D r B;have X:=G _ _ _ _ _ e;obtain rfl:F=p:=by omega
   rw[(R rfl).1];exact Q _ _ _ _ e
 |nils=>exact .nils
 |slnil sz full=>exact .slnil sz full
 |sle sz full a u L=>exact .sle sz full a u L
 |sl sz xs full b o u c A hz K L hs I w N y=>
  cases xs with
  |nil=>exact .sle sz full _ u (by simpa using L)
  |cons x xs=>
   have hx:=hs 0 x rfl
   have e:b<W.heap.size:=by
    cases J:x.cells with
    |nil=>rw[J]at hx;simp at hx;omega
    |cons v vs=>exact yl7 (I 0 x 0 v rfl (by rw[J];rfl))
   exact .sl sz _ full b o u c (λz=>(s.own b z).elim A (by omega)) hz K L hs (λj x t v O ht=>by rw[ykb (s.block b e A)];exact I j x t v O ht) w y
 |hs l i p d n full a m u r G Q=>
  refine .hs l i p d n full a m u (s.dom l i r) (λv ty sz xs D B =>?_) λty sz xs D B =>?_
  ·have⟨F,M,E,e,C,_⟩:=s.arr l i v ty sz xs D r B;exact Qbk (G _ _ _ _ _ e) C
  ·have⟨F,M,E,e,C,R⟩:=s.arr l i p ty sz xs D r B;have X:=G _ _ _ _ _ e;obtain rfl:F=p:=by omega
   have⟨e1,e2,e3⟩:=R rfl;rw[e1,e2];have⟨k1,k2,k3,k4⟩:=Q _ _ _ _ e
   exact⟨k1,k2,k3,Qbk k4 e3⟩
 |mapn=>exact .mapn
 |map l i r=>rw[<-s.blk l i r];exact .map l i (s.dom l i r)
 |mapc es b en clock A hw he=>
  have U:b<W.heap.size:=(Qbn.1 hw).1
  exact .mapc es b en clock (λz=>(s.own _ z).elim A (λq=>by omega)) (by rw[s.block _ U A];exact hw) he
 |fn f fs cs Y Z e C r1 r2 i1 i2=>exact .fn f fs cs Y Z e C i1 i2
 |nilf=>exact .nilf
 |iface t v c h y=>exact .iface t v c y
 |nili=>exact .nili
 |agg vs cs z w N y=>exact .agg vs cs z w y
 |tup vs cs z N y=>exact .tup vs cs z y
structure Grow(W W':World):Prop where
 os:W'.os=W.os
 tape:W'.tape=W.tape
 output:W'.output=W.output
 size:W.heap.size<=W'.heap.size
 block:∀b,b<W.heap.size->W'.heap[b]? = W.heap[b]?
def Grow.refl(W:World):Grow W W:=⟨rfl,rfl,rfl,Qbw _,λ_ _=>rfl⟩
def Grow.trans{a b c:World}(h:Grow a b)(k:Grow b c):Grow a c :=
 ⟨k.os.trans h.os,k.tape.trans h.tape,k.output.trans h.output,Qbk h.size k.size,λi d=>(k.block i (Qbj d h.size)).trans (h.block i d)⟩
def Grow.alloc(W:World)(o:Obj):Grow W (W.alloc o) :=
 ⟨rfl,rfl,rfl,by simp,λb a=>by show(W.heap.push o)[b]? = _;rw[Array.getElem?_push,Qby (by omega)]⟩
def Grow.drawn(W:World)(n:Nat):Grow W {W with drawn:=n}:=⟨rfl,rfl,rfl,Qbw _,λ_ _=>rfl⟩
def Grow.step{W W':World}{g:Gh}{H:Heap}(h:Grow W W'):Step W g H W' g H :=
 ⟨h.os,h.tape,h.output,h.size,λb d _=>h.block b d,λ_ h=>.inl h,λ_ _ h=>h,λ_ _ h=>.inl h,λ_ _ _=>rfl,λ_ _ a _ _ xs e _ h=>⟨a,xs,e,h,Qbw _,λ_=>⟨rfl,rfl,Qbw _⟩⟩,rfl⟩
def zif.mono{W:World}{g:Gh}{H:Heap}{l i:Nat}{o:yz5}(h:zif W g H l i o){W':World}{g':Gh}{H':Heap}(s:Step W g H W' g' H')
  (m:W'.heap[o.blk g l i]? = W.heap[o.blk g l i]?) (r:g'.blk l i=g.blk l i) (I:g'.ab l i=g.ab l i) (u:g'.cap l i=g.cap l i):zif W' g' H' l i o:=by
 cases o with
 |cells cs=>
  have⟨c,ty,d,w,b,a⟩:=h
  exact⟨c,ty,by rw[r];exact m.trans d,w,b,λj v k=>(a j v k).mono s⟩
 |arr O ty sz xs R=>
  have⟨c,d,b,a,A,n,M,L,K,J⟩:=h
  exact⟨c,by rw[I];exact m.trans d,b,by rw[u];exact a,by rw[u];exact A,by rw[u];exact n,by rw[u];exact M,L,K,λj x t v k E=>(J j x t v k E).mono s⟩
 |map es=>
  have⟨y,clock,d,w,b,a,n⟩:=h;refine⟨y,clock,by rw[r];exact m.trans d,w,b,a,λj p k =>?_⟩;have⟨e,G,D,C⟩:=n j p k
  exact⟨e,G,D.mono s,C.mono s⟩
 |siter s Q=>exact(show W'.heap[g'.blk l i]? = _ by rw[r];exact m.trans h)
 |mit es N=>
  have⟨y,clock,B,d,b,a,n⟩:=h;have z:B<W.heap.size:=(Qbn.1 a).1;exact⟨y,clock,B,by rw[r];exact m.trans d,λF=>(s.own _ F).elim b (λq=>by omega),by rw[s.block _ z b];exact a,n⟩
def Good.grow{W W':World}{g:Gh}{H:Heap}(h:Good W g H)(k:Grow W W'):Good W' g H :=
 ⟨h.dom,λl i o a=>Qbj (h.lt l i o a) k.size,h.inj,h.fresh,λl i o a=>(h.obj l i o a).mono k.step (k.block _ (h.lt l i o a)) rfl rfl rfl,h.y3r.step k.step⟩
end Go.Ab
namespace Go.Ab
open Go
def zd8:Value->V
 |.bool b=>.bool b
 |.int k n=>.int k n
 |.string s=>.str s.data.toList
 |.pointer none=>.nilp
 |.slice none 0 0=>.nils
 |.map none=>.mapn
 |.nilFunc=>.nilf
 |.nilIface=>.nili
 |_=>.any
def ofConst:Value->V
 |.agg cs=>if cs.toList.all (·.oneCell')then .agg (cs.toList.map zd8)else .any
 |.tuple cs=>.tup (cs.toList.map zd8)
 |.iface t v=>.iface t (zd8 v)
 |v=>zd8 v
section
variable {W:World}{g:Gh}{H:Heap}{P:Program}
def zv3(v:Value):Rel W g H (zd8 v) v:=by
 unfold zd8;split
 ·exact .bool _
 ·exact .int _ _
 ·exact .str _
 ·exact .nilp
 ·exact .nils
 ·exact .mapn
 ·exact .nilf
 ·exact .nili
 ·exact .any _
def zph(v:Value):Rel W g H (ofConst v) v:=by
 unfold ofConst;split
 ·rename_i cs;split
  ·rename_i e;refine .agg _ _ (by simp) (λj v b =>?_) λj v b =>?_
   all_goals
    simp only[Qan,Qaf]at b;obtain⟨a,d,rfl⟩:=b;rw[Qbh]at d;simp only[Qae,d,Option.getD_some]
   ·exact Qat.1 e a (by rw[Array.mem_toList_iff];exact Array.mem_of_getElem? d)
   ·exact zv3 _
  ·exact .any _
 ·rename_i cs;refine .tup _ _ (by simp) λj v b =>?_
  simp only[Qan,Qaf]at b;obtain⟨a,d,rfl⟩:=b;rw[Qbh]at d;simp only[Qae,d,Option.getD_some];exact zv3 _
 ·exact .iface _ _ _ (zv3 _)
 ·exact zv3 _
def rd(P:Program)(t:Nat)(cs:List V)(a:Nat):Option V :=
 match P.underlying t with
 |none=>none
 |some (.struct _)|some (.array _ _)=>if a+P.cellsOf t<=cs.length then some (.agg ((cs.drop a).take (P.cellsOf t)))else none
 |some _=>cs[a]?
def info_of_underlying{t:Nat}{d:TypeDesc}(h:P.underlying t=some d):∃i,P.info? t=some i∧P.cellsOf t=i.size:=by
 unfold Program.underlying at h;unfold Program.cellsOf
 cases a:P.info? t with
 |none=>simp[a]at h
 |some i=>exact⟨i,rfl,by simp⟩
def kz3{t:Nat}{d:TypeDesc}(h:P.underlying t=some d):(underlying t).run P W = .ok d W:=by
 simp[underlying,h]
def za1{t:Nat}{d:TypeDesc}(h:P.underlying t=some d):(sizeOf t).run P W = .ok (P.cellsOf t) W:=by
 have⟨i,a,b⟩:=info_of_underlying h;simp[sizeOf,typeInfo,a,b]
def TypeDesc.isAgg:TypeDesc->Bool
 |.struct _| .array _ _=>true
 |_=>false
def zv7{t:Nat}{d:TypeDesc}(h:P.underlying t=some d):(isAgg t).run P W = .ok (TypeDesc.isAgg d) W:=by
 simp[isAgg,underlying,h];cases d <;> simp[TypeDesc.isAgg]
def yvx{t:Nat}{cs:List V}{a:Nat}{v:V}(h:rd P t cs a=some v):∃d,P.underlying t=some d ∧
  ((TypeDesc.isAgg d=true∧a+P.cellsOf t<=cs.length∧v = .agg ((cs.drop a).take (P.cellsOf t)))∨(TypeDesc.isAgg d=false∧cs[a]? = some v)):=by
 unfold rd at h;split at h
 ·cases h
 ·rename_i e;split at h
  ·rename_i b;injection h with h;exact⟨_,e,.inl ⟨rfl,b,h.symm⟩⟩
  ·cases h
 ·rename_i e;split at h
  ·rename_i b;injection h with h;exact⟨_,e,.inl ⟨rfl,b,h.symm⟩⟩
  ·cases h
 ·rename_i d j i e;refine⟨d,e,.inr ⟨?_,h⟩⟩
  cases d <;> first|rfl|(exact(j _ rfl).elim)|(exact(i _ _ rfl).elim)
def zm9{t:Nat}{cs:List V}{a:Nat}{v:V}{b o:Nat}{c:Nat->Value}(h:rd P t cs a=some v)
  (q:∀j x,cs[j]? = some x->W.cell? ⟨b,o+j,none⟩=some (c j)) (m:∀j x,cs[j]? = some x->(c j).oneCell'=true) (p:∀j x,cs[j]? = some x->Rel W g H x (c j)) :
  ∃u,(loadVar t ⟨b,o+a,none⟩).run P W = .ok u W∧Rel W g H v u:=by
 obtain⟨d,k,⟨l,w,rfl⟩|⟨l,n⟩⟩:=yvx h
 ·have r:∀j,j<P.cellsOf t->W.cell? ((⟨b,o+a,none⟩:Addr).add j)=some (c (a+j)):=λj e=>by
   have:=q (a+j) (cs[a+j]'(by omega)) (by rw[Qab]);unfold Addr.add;split
   ·rename_i s;subst s;simpa using this
   ·simpa[Nat.add_assoc]using this
  refine⟨.agg ((List.range (P.cellsOf t)).map λj=>c (a+j)).toArray,?_,?_⟩
  ·simp[loadVar,zv7 k,l,za1 k,run_loadCells W _ _ _ r]
  ·refine .agg _ _ (by simp;omega) (λj x e =>?_) λj x e =>?_
   ·rw[Qaw]at e;split at e
    ·rename_i i;rw[Qbf]at e;have:=m _ _ e;simpa[i]using this
    ·cases e
   ·rw[Qaw]at e;split at e
    ·rename_i i;rw[Qbf]at e;have:=p _ _ e;simpa[i]using this
    ·cases e
 ·refine⟨c a,?_,p _ _ n⟩;simp[loadVar,zv7 k,l,q _ _ n]
def zn1{t:Nat}{cs:List V}{b:Nat}{v:V}{a:Array Value}(h:rd P t cs b=some v)(q:a.size=cs.length)
  (n:∀j x,cs[j]? = some x->(a.getD j undef).oneCell'=true) (p:∀j x,cs[j]? = some x->Rel W g H x (a.getD j undef)):∃u,(part t a b).run P W = .ok u W∧Rel W g H v u:=by
 obtain⟨d,k,⟨l,s,rfl⟩|⟨l,o⟩⟩:=yvx h
 ·refine⟨.agg (a.extract b (b+P.cellsOf t)),by simp[part,zv7 k,l,za1 k],?_⟩
  have r:∀j,j<P.cellsOf t->(a.extract b (b+P.cellsOf t)).getD j undef=a.getD (b+j) undef:=λj e=>by
   simp only[Qae];rw[Array.getElem?_extract];rw[Qbx (by omega)]
  refine .agg _ _ (by simp;omega) (λj x e =>?_) λj x e =>?_
  all_goals
   rw[Qaw]at e;split at e
   ·rename_i i;rw[Qbf]at e;rw[r j i]
    first|exact n _ _ e|exact p _ _ e
   ·cases e
 ·have m:b<a.size:=by rw[q];exact(Qaa.1 o).1
  refine⟨a.getD b undef,?_,p _ _ o⟩;simp[part,zv7 k,l,Qas m]
def Yields(P:Program)(W:World)(g:Gh)(H:Heap)(s:Sem Value)(v:V):Prop:=∃c W',s.run P W = .ok c W'∧Grow W W'∧Rel W' g H v c
def Yields.same{s:Sem Value}{v:V}{c:Value}(h:s.run P W = .ok c W)(a:Rel W g H v c):Yields P W g H s v:=⟨c,W,h,.refl W,a⟩
def y1a(H:Heap)(l i b d:Nat):Option (Nat×List V) :=
 match H.get l i with
 |some (.arr a _ sz xs _)=>if a=b then (xs[d]?).map λx=>(sz,x.cells)else none
 |_=>none
def ze4(P:Program)(H:Heap)(t:Nat):V->Option V
 |.ref cs a=>rd P t cs a
 |.ptr l i a=>match H.get l i with
  |some (.cells cs)=>rd P t cs a
  |_=>none
 |.ap l i b d a=>(y1a H l i b d).bind λp=>rd P t p.2 a
 |_=>none
def cell_of{b j:Nat}{c:Array Value}{ty:TypeId}{f:Nat×Nat}(h:W.heap[b]? = some (.cells c ty f))(a:j<c.size):W.cell? ⟨b,j,none⟩=some (c.getD j undef):=by
 simp[World.cell?,h,a]
def ytv(o:Good W g H){l i d a:Nat}{p:Nat×List V}(h:y1a H l i d a=some p) :
  ∃ty sz xs j x,H.get l i=some (.arr d ty sz xs j)∧xs[a]? = some x∧p=(sz,x.cells)∧x.cells.length=sz ∧
   ∃c,W.heap[g.ab l i]? = some (.cells c ty (0,0))∧a * sz+sz<=c.size∧(∀t v,x.cells[t]? = some v->(c.getD (a * sz+t) undef).oneCell'=true)∧∀t v,x.cells[t]? = some v->Rel W g H v (c.getD (a * sz+t) undef):=by
 unfold y1a at h;split at h
 ·rename_i m ty sz xs j k;split at h
  ·rename_i n;subst n;simp only[Qaf]at h;obtain⟨x,b,rfl⟩:=h;have⟨c,w,B,u,y,A,z,s,r,q⟩:=o.obj l i _ k;refine⟨ty,sz,xs,j,x,k,b,rfl,s _ _ b,c,w,?_,λt v e=>r _ _ _ _ b e,λt v e=>q _ _ _ _ b e⟩;have:=(Qaa.1 b).1;rw[u]
   calc a * sz+sz=(a+1) * sz:=by rw[Nat.succ_mul]
    _<=_:=Qau _ (by omega)
  ·cases h
 ·cases h
def y8g(C:Good W g H){t:Nat}{x v:V}{c:Value}(h:ze4 P H t x=some v)(s:Rel W g H x c):∃a u,c = .pointer (some a)∧(loadVar t a).run P W = .ok u W∧Rel W g H v u:=by
 unfold ze4 at h;split at h
 ·cases s with
  |ref cs m b o c Q G B D=>
   have⟨u,k,K⟩:=zm9 h G B D;exact⟨_,u,rfl,k,K⟩
 ·rename_i l i m;split at h
  ·rename_i cs w
   cases s with
   |ptr _ _ _ F=>
    have⟨a,ty,k,J,e,A⟩:=C.obj l i _ w
    have⟨u,q,r⟩:=zm9 (b:=g.blk l i) (o:=0) (c:=λj=>a.getD j undef) h (λj y d=>by
     have:=(Qaa.1 d).1
     simpa using cell_of k (by omega)) (λj y d=>e _ _ d) (λj y d=>A _ _ d)
    rw[Nat.zero_add]at q;exact⟨_,u,rfl,q,r⟩
  ·cases h
 ·rename_i l i L n m;simp only[Qce]at h;have⟨p,E,h⟩:=h;obtain⟨ty,sz,xs,R,y,w,M,rfl,O,a,k,J,e,A⟩:=ytv C E
  cases s with
  |ap _ _ _ _ _ T F N I=>
   obtain rfl:=I _ _ _ _ w
   have⟨u,q,r⟩:=zm9 (b:=g.ab l i) (o:=n * sz) (c:=λj=>a.getD (n * sz+j) undef) h (λj z d=>by
    have:=(Qaa.1 d).1;simp only at this
    exact cell_of k (by omega)) (λj z d=>e _ _ d) (λj z d=>A _ _ d)
   exact⟨_,u,rfl,q,r⟩
 ·cases h
def ysh(d:Good W g H){t:Nat}{x v:V}{c:Value}(h:ze4 P H t x=some v)(b:Rel W g H x c):Yields P W g H (Instr.loadAt t c) v:=by
 obtain⟨a,u,rfl,i,e⟩:=y8g d h b;exact .same (c:=u) (by simp[Instr.loadAt,Instr.sureAddr,i]) e
def zug(P:Program)(s f:Nat):Option Nat :=
 match P.underlying s with
 |some (.struct a)=>match a[f]? with
  |some x=>if (P.underlying x.type).isSome&&P.cellsOf x.type != 0 then some x.offset else none
  |none=>none
 |_=>none
def zbv(P:Program)(s f:Nat)(x:V):Option V :=
 match zug P s f with
 |none=>none
 |some o=>match x with
  |.ref cs a=>some (.ref cs (a+o))
  |.ptr l i a=>some (.ptr l i (a+o))
  |.ap l i b d a=>some (.ap l i b d (a+o))
  |_=>none
def add_eq(b o n:Nat):(⟨b,o,none⟩:Addr).add n=⟨b,o+n,none⟩:=by
 unfold Addr.add;split
 ·rename_i h;subst h;rfl
 ·rfl
def zyi{s f:Nat}{o:Nat}{a:Addr}(h:zug P s f=some o):(Instr.fieldAt s (.pointer (some a)) f).run P W = .ok (.pointer (some (a.add o))) W:=by
 unfold zug at h;split at h
 ·rename_i k i;split at h
  ·rename_i x e;split at h
   ·rename_i b;simp only[Qag,bne_iff_ne,ne_eq]at b;cases h;have⟨d,j⟩:=Option.isSome_iff_exists.1 b.1;simp[Instr.fieldAt,kz3 i,e,Instr.sureAddr,fieldPlace,za1 j,b.2]
   ·cases h
  ·cases h
 ·cases h
def y95{s f:Nat}{x v:V}{c:Value}(h:zbv P s f x=some v)(a:Rel W g H x c):Yields P W g H (Instr.fieldAt s c f) v:=by
 unfold zbv at h;split at h
 ·cases h
 ·rename_i o d;split at h
  ·cases h
   cases a with
   |ref _ _ b q c y w n r=>
    refine .same (zyi d) ?_;rw[add_eq,Nat.add_assoc];exact .ref _ _ b q c y w n r
  ·cases h
   cases a with
   |ptr _ _ _ e=>
    refine .same (zyi d) ?_;rw[add_eq];exact .ptr _ _ _ e
  ·rename_i l i j m k;cases h
   cases a with
   |ap _ _ _ _ _ B e p z=>
    refine .same (zyi d) (.ap l i j m (k+o) _ e p λty sz xs A u =>?_);rw[z _ _ _ _ u,add_eq,Nat.add_assoc]
  ·cases h
end
section
variable {W:World}{g:Gh}{H:Heap}{P:Program}
def yfk(P:Program)(s f:Nat)(x:V):Option V :=
 match P.underlying s with
 |some (.struct a)=>match a[f]? with
  |some y=>match x with
   |.agg cs=>rd P y.type cs y.offset
   |_=>none
  |none=>none
 |_=>none
def yow{s f:Nat}{x v:V}{c:Value}(h:yfk P s f x=some v)(e:Rel W g H x c):Yields P W g H (Instr.field s c f) v:=by
 unfold yfk at h;split at h
 ·rename_i n i;split at h
  ·rename_i y d;split at h
   ·cases e with
    |agg _ a k b j=>
     have⟨u,m,l⟩:=zn1 h k b j;exact .same (c:=u) (by simp[Instr.field,kz3 i,d,asAgg,m]) l
   ·cases h
  ·cases h
 ·cases h
def kzs(P:Program)(H:Heap)(t:Nat)(x i:V):Option V :=
 match i with
 |.int _ n=>if 0<=n then match P.underlying t with
  |some (.slice e)=>match x with
   |.sl sz xs _=>if sz=P.cellsOf e∧(P.underlying e).isSome then (xs[n.toNat]?).map λy=>.ref y.cells 0 else none
   |.hs l i b a m _=>match H.get l i with
    |some (.arr d _ sz _ _)=>if d=b∧sz=P.cellsOf e∧(P.underlying e).isSome∧n<m then some (.ap l i b (a+n.toNat) 0)else none
    |_=>none
   |_=>none
  |some (.array len e)=>if n<len∧(P.underlying e).isSome then match x with
   |.ref cs a=>some (.ref cs (a+n.toNat * P.cellsOf e))
   |.ptr l i a=>some (.ptr l i (a+n.toNat * P.cellsOf e))
   |.ap l i b h a=>some (.ap l i b h (a+n.toNat * P.cellsOf e))
   |_=>none else none
  |_=>none else none
 |_=>none
def run_indexAt_slice{t e:Nat}{a:Addr}{m b:Nat}{k:IntKind}{n:Int}(h:P.underlying t=some (.slice e))(i:(P.underlying e).isSome=true)(o:0<=n)(l:n<m) :
  (Instr.indexAt t (.slice (some a) m b) (.int k n)).run P W = .ok (.pointer (some (a.add (n.toNat * P.cellsOf e)))) W:=by
 have⟨d,j⟩:=Option.isSome_iff_exists.1 i;simp[Instr.indexAt,asIntOf,kz3 h,o,l,za1 j]
def run_indexAt_array{t e len:Nat}{a:Addr}{k:IntKind}{n:Int}(b:P.underlying t=some (.array len e))(h:(P.underlying e).isSome=true)(l:0<=n)(j:n<len) :
  (Instr.indexAt t (.pointer (some a)) (.int k n)).run P W = .ok (.pointer (some (a.add (n.toNat * P.cellsOf e)))) W:=by
 have⟨d,i⟩:=Option.isSome_iff_exists.1 h;simp[Instr.indexAt,asIntOf,kz3 b,l,j,za1 i,Instr.sureAddr]
def y92{t:Nat}{x i v:V}{c Q:Value}(h:kzs P H t x i=some v)(A:Rel W g H x c)(U:Rel W g H i Q):Yields P W g H (Instr.indexAt t c Q) v:=by
 unfold kzs at h;split at h
 ·rename_i k n;cases U;split at h
  ·rename_i E;split at h
   ·rename_i e z;split at h
    ·rename_i sz xs full;split at h
     ·rename_i D;obtain⟨rfl,q⟩:=D;simp only[Qaf]at h;obtain⟨y,w,rfl⟩:=h;have d:=(Qaa.1 w).1
      cases A with
      |slnil=>simp at w
      |sle=>simp at w
      |sl _ _ _ b o N X J hz F hf hs s r I=>
       refine .same (run_indexAt_slice z q E (by omega)) ?_;rw[add_eq];exact .ref _ 0 b _ (X n.toNat) (λ_=>J) (λj u B=>s _ _ _ _ w B) (λj u B=>r _ _ _ _ w B) (λj u B=>I _ _ _ _ w B)
     ·cases h
    ·rename_i l i Y h1 m full;split at h
     ·rename_i R ty sz xs cp O;split at h
      ·rename_i D;obtain⟨rfl,rfl,q,d⟩:=D;cases h
       cases A with
       |hs _ _ _ _ _ _ a m' N C G K=>
        obtain⟨rfl,rfl,F,h2⟩:=K _ _ _ _ O;refine .same (run_indexAt_slice z q E d) (.ap _ _ _ _ _ _ C G λZ sz T M p =>?_);rw[O]at p;injection p with p;injection p with _ _ L _ _;rw[add_eq,<-L,Nat.add_mul,Nat.add_zero]
      ·cases h
     ·cases h
    ·cases h
   ·rename_i len e z;split at h
    ·rename_i D;have⟨d,q⟩:=D;split at h
     ·cases h
      cases A with
      |ref _ _ b o c J s r I=>
       refine .same (run_indexAt_array z q E d) ?_;rw[add_eq,Nat.add_assoc];exact .ref _ _ b o c J s r I
     ·cases h
      cases A with
      |ptr _ _ _ C=>
       refine .same (run_indexAt_array z q E d) ?_;rw[add_eq];exact .ptr _ _ _ C
     ·cases h
      cases A with
      |ap _ _ _ _ _ a C G K=>
       refine .same (run_indexAt_array z q E d) (.ap _ _ _ _ _ _ C G λty sz T M p =>?_);rw[K _ _ _ _ p,add_eq,Nat.add_assoc]
     ·cases h
    ·cases h
   ·cases h
  ·cases h
 ·cases h
def y7f(P:Program)(t:Nat)(x i:V):Option V :=
 match i with
 |.int _ n=>if 0<=n then match x with
  |.str s=>match P.underlying t with
   |some .string=>(s[n.toNat]?).map λb=>.int .u8 b.toNat
   |_=>none
  |.agg cs=>match P.underlying t with
   |some (.array len e)=>if n<len∧(P.underlying e).isSome then rd P e cs (n.toNat * P.cellsOf e)else none
   |_=>none
  |_=>none else none
 |_=>none
def yq1{t:Nat}{x i v:V}{c r:Value}(h:y7f P t x i=some v)(o:Rel W g H x c)(z:Rel W g H i r):Yields P W g H (Instr.index t c r) v:=by
 unfold y7f at h;split at h
 ·rename_i k n;cases z;split at h
  ·rename_i q;split at h
   ·rename_i s;split at h
    ·rename_i l;simp only[Qaf]at h;obtain⟨b,p,rfl⟩:=h;cases o;have j:=(Qaa.1 p).1;refine .same (c:=.int .u8 b.toNat) ?_ (.int _ _);rw[run_index_string W t _ k n l,dif_pos ⟨q,by simp[ByteArray.size];omega⟩]
     have:(⟨s.toArray⟩:ByteArray)[n.toNat]'(by simp[ByteArray.size];omega)=b:=by
      have:=List.getElem_of_getElem? p;have⟨_,this⟩:=this;exact this
     rw[this]
    ·cases h
   ·rename_i cs;split at h
    ·rename_i len e l;split at h
     ·rename_i C;have⟨j,A⟩:=C;have⟨d,B⟩:=Option.isSome_iff_exists.1 A
      cases o with
      |agg _ a y m w=>
       have⟨u,E,D⟩:=zn1 h y m w;exact .same (c:=u) (by simp[Instr.index,asIntOf,kz3 l,q,j,za1 B,E]) D
     ·cases h
    ·cases h
   ·cases h
  ·cases h
 ·cases h
def y41(i:Nat):V->Option V
 |.tup vs=>vs[i]?
 |_=>none
def yjd{i:Nat}{x v:V}{c:Value}(h:y41 i x=some v)(b:Rel W g H x c):Yields P W g H (Instr.extract c i) v:=by
 unfold y41 at h;split at h
 ·cases b with
  |tup _ a j d=>
   have e:=(Qaa.1 h).1;refine .same (c:=a.getD i undef) ?_ (d _ _ h);simp[Instr.extract,Qas (show i<a.size by omega),show i<a.size by omega]
 ·cases h
def y6u:V->Option V
 |.ptr l i d=>some (.ptr l i d)
 |.ref cs d=>some (.ref cs d)
 |.ap l i e h d=>some (.ap l i e h d)
 |.fn f a b=>some (.fn f a b)
 |_=>none
def yc9(op:BinOp)(k:IntKind)(x y:Int):Option V :=
 match op with
 |.add=>some (.int k (k.wrap (x+y)))
 |.sub=>some (.int k (k.wrap (x-y)))
 |.mul=>some (.int k (k.wrap (x * y)))
 |.quo=>if y=0 then none else some (.int k (k.wrap (x.tdiv y)))
 |.rem=>if y=0 then none else some (.int k (x.tmod y))
 |.eql=>some (.bool (x==y))
 |.neq=>some (.bool (x != y))
 |.lss=>some (.bool (decide (x<y)))
 |.leq=>some (.bool (decide (x<=y)))
 |.gtr=>some (.bool (decide (x>y)))
 |.geq=>some (.bool (decide (x>=y)))
 |.and=>some (.int k (bits .and k x y))
 |.or=>some (.int k (bits .or k x y))
 |.xor=>some (.int k (bits .xor k x y))
 |.andNot=>some (.int k (bits .andNot k x y))
 |_=>none
def yu7(op:BinOp)(x y:B8):Option V :=
 match op with
 |.add=>if x.length+y.length<=maxLen then some (.str (x++y))else none
 |.eql=>some (.bool (x==y))
 |.neq=>some (.bool (!(x==y)))
 |.lss=>some (.bool (Op.bytesLess x y))
 |.leq=>some (.bool (Op.bytesLess x y||x==y))
 |.gtr=>some (.bool (!(Op.bytesLess x y||x==y)))
 |.geq=>some (.bool (!Op.bytesLess x y))
 |_=>none
end
section
variable {W:World}{g:Gh}{H:Heap}{P:Program}
mutual
def eqv(P:Program):Nat->Nat->V->V->Option Bool
 |0,_,_,_=>none
 |d+1,t,x,y=>
  match x,y with
  |.bool a,.bool b=>match P.underlying t with|some .bool=>some (a==b)|_=>none
  |.int k a,.int h b=>match P.underlying t with|some (.int _)=>if k=h then some (a==b)else none|_=>none
  |.str a,.str b=>match P.underlying t with|some .string=>some (a==b)|_=>none
  |.agg xs,.agg e=>match P.underlying t with|some (.struct i)=>if P.stoodInHeld t then none else ygw P d i.toList xs e|_=>none
  |.nilp,.nilp=>match P.underlying t with|some (.pointer _)=>some true|_=>none
  |.nilp,.ptr _ _ _| .nilp,.ref _ _| .nilp,.ap _ _ _ _ _=>match P.underlying t with|some (.pointer _)=>some false|_=>none
  |.ptr _ _ _,.nilp| .ref _ _,.nilp| .ap _ _ _ _ _,.nilp=>match P.underlying t with|some (.pointer _)=>some false|_=>none
  |.nils,.nils=>match P.underlying t with|some (.slice _)=>some true|_=>none
  |.nils,.sl _ (_::_) _| .sl _ (_::_) _,.nils=>match P.underlying t with|some (.slice _)=>some false|_=>none
  |.mapn,.mapn=>match P.underlying t with|some (.map _ _)=>some true|_=>none
  |.mapn,.map _ _| .map _ _,.mapn=>match P.underlying t with|some (.map _ _)=>some false|_=>none
  |.nilf,.nilf=>match P.underlying t with|some (.func ..)=>some true|_=>none
  |.nilf,.fn _ _ _| .fn _ _ _,.nilf=>match P.underlying t with|some (.func ..)=>some false|_=>none
  |.nili,.iface _ _| .iface _ _,.nili=>match P.underlying t with|some (.interface _)=>some false|_=>none
  |_,_=>none
def ygw(P:Program):Nat->List Field->List V->List V->Option Bool
 |0,_,_,_=>none
 |_,[],_,_=>some true
 |d+1,f::h,xs,e=>
  if f.name = "_" then ygw P d h xs e else
  match rd P f.type xs f.offset,rd P f.type e f.offset with
  |some a,some b=>match eqv P d f.type a b,ygw P d h xs e with
   |some r,some s=>some (r&&s)
   |_,_=>none
  |_,_=>none
end
def y7q:∀(d:Nat),(∀(D t:Nat) (x y:V) (r:Bool) (c e:Value),d<=D->eqv P d t x y=some r->Rel W g H x c->Rel W g H y e->(Op.equalIn D t c e).run P W = .ok r W) ∧
  (∀(D:Nat) (p:List Field) (xs q:List V) (r:Bool) (cs es:Array Value),d<=D->ygw P d p xs q=some r->cs.size=xs.length->es.size=q.length->(∀j v,xs[j]? = some v->(cs.getD j undef).oneCell'=true)->(∀j v,q[j]? = some v->(es.getD j undef).oneCell'=true)->(∀j v,xs[j]? = some v->Rel W g H v (cs.getD j undef)) ->
   (∀j v,q[j]? = some v->Rel W g H v (es.getD j undef))->(Op.eqFields D cs es p).run P W = .ok r W)
 |0=>by constructor <;> (intros;rename_i h;simp[eqv,ygw]at *)
 |d+1=>by
  have⟨C,s⟩:=y7q d;constructor
  ·intro D t x y r c e hD h z w;obtain⟨D,rfl⟩:∃X,D=X+1:=⟨D-1,by omega⟩;unfold eqv at h;split at h
   ·split at h
    ·rename_i l;cases h;cases z;cases w;exact run_equalIn_bool' W D t _ _ l
    ·cases h
   ·split at h
    ·rename_i l;split at h
     ·rename_i O;subst O;cases h;cases z;cases w;exact run_equalIn_int W D t _ _ _ _ l
     ·cases h
    ·cases h
   ·split at h
    ·rename_i l;cases h;cases z;cases w
     rw[run_equalIn_string W D t _ _ l];simp
    ·cases h
   ·rename_i xs q;split at h
    ·rename_i p l;split at h
     ·cases h
     ·rename_i N
      cases z with
      |agg _ a B n A=>
       cases w with
       |agg _ b o i m=>
        have G:P.fieldsOf t=p:=by simp[Program.fieldsOf,l]
        rw[run_equalIn_struct W D t a b (by rw[G];exact l) (by simpa using N),G];exact s D p.toList xs q r a b (by omega) h B o n i A m
    ·cases h
   all_goals first
    |(split at h
      ·rename_i l;cases h;cases z <;> cases w <;> simp[Op.equalIn,kz3 l]
      ·cases h)
    |cases h
  ·intro D p xs q r cs es hD h B o n i A m
   cases p with
   |nil=>simp only[ygw,Qbu]at h;subst h;simp[Op.eqFields]
   |cons f p=>
    simp only[ygw]at h;split at h
    ·rename_i k;simp only[Op.eqFields,k];simp only[ne_eq,not_true_eq_false,if_false];exact s D p _ _ r cs es (by omega) h B o n i A m
    ·rename_i k;split at h
     ·rename_i a b R Q;split at h
      ·rename_i J I U T;cases h;have⟨u,l,F⟩:=zn1 (W:=W) R B n A;have⟨v,M,E⟩:=zn1 (W:=W) Q o i m;have L:=C D _ _ _ _ u v (by omega) U F E;have K:=s D p _ _ I cs es (by omega) T B o n i A m;simp only[Op.eqFields,ne_eq,k,not_false_eq_true,if_true,Qca,l,M,L,Qcb];cases J <;> simp[K]
      ·cases h
     ·cases h
def Value.odd:Value->Bool
 |.int _ _| .float _ _| .complex _ _ _| .string _=>false
 |_=>true
def binOp_eql{t:TypeId}{a b:Value}(h:Value.odd a=true):binOp .eql t a b=(do pure (.bool (<-Op.equal t a b))):=by
 cases a <;> first|(simp[Value.odd]at h;done)|rfl|(cases b <;> rfl)
def binOp_neq{t:TypeId}{a b:Value}(h:Value.odd a=true):binOp .neq t a b=(do pure (.bool (!(<-Op.equal t a b)))):=by
 cases a <;> first|(simp[Value.odd]at h;done)|rfl|(cases b <;> rfl)
def V.odd:V->Bool
 |.int _ _| .str _| .any=>false
 |_=>true
def z021{x:V}{a:Value}(h:x.odd=true)(b:Rel W g H x a):Value.odd a=true:=by
 cases b <;> first|rfl|(simp[V.odd]at h;done)
def zmy(P:Program)(t:Nat)(x y:V):Bool :=
 match x,y with
 |.agg _,.agg _ => !P.eqGuardType P.depth t
 |.nili,.nili=>false
 |.any,_|_,.any=>false
 |_,_=>true
def y64(P:Program)(op:BinOp)(t:Nat)(x y:V):Option V :=
 match x,y with
 |.int k a,.int d b=>match op with
  |.shl=>if b<0 then none else some (.int k (k.wrap (a * 2 ^ (min b.toNat k.bits))))
  |.shr=>if b<0 then none else some (.int k (a.fdiv (2 ^ (min b.toNat k.bits))))
  |_=>if k=d then yc9 op k a b else none
 |.str a,.str b=>yu7 op a b
 |x,y=>match op with
  |.eql=>if x.odd&&zmy P t x y then (eqv P 24 t x y).map .bool else none
  |.neq=>if x.odd&&zmy P t x y then (eqv P 24 t x y).map λr=>.bool (!r)else none
  |_=>none
def y7t{op:BinOp}{t:Nat}{x y:V}{a b:Value}(e d:Operand)(h:zmy P t x y=true)(j:Rel W g H x a)(i:Rel W g H y b):(eqGuard op t e d a b).run P W = .ok () W:=by
 unfold eqGuard;cases op <;> (try simp;done)
 all_goals
  simp only[Bool.not_true,Bool.false_eq_true,if_false]
  cases j <;> cases i <;> first|(simp[zmy]at h;done)|(simp;done)|(simp[zmy]at h;simp[h];done)
def ywm{op:BinOp}{t:Nat}{x y v:V}{a b:Value}(o n:Operand)(h:y64 P op t x y=some v)(d:Rel W g H x a)(m:Rel W g H y b) :
  Yields P W g H (do eqGuard op t o n a b;binOp op t a b) v:=by
 unfold y64 at h;split at h
 ·rename_i k l w j;cases d;cases m;have e:(eqGuard op t o n (.int k l) (.int w j)).run P W = .ok () W:=by unfold eqGuard;cases op <;> simp
  split at h
  ·split at h
   ·cases h
   ·rename_i s;cases h
    exact .same (by simp[e,binOp,Op.shift,s]) (.int _ _)
  ·split at h
   ·cases h
   ·rename_i s;cases h
    exact .same (by simp[e,binOp,Op.shift,s]) (.int _ _)
  ·split at h
   ·rename_i B;subst B;unfold yc9 at h;split at h
    all_goals first
     |(split at h
       ·cases h
       ·rename_i z;cases h
        exact .same (by simp only[Qca,e,Qcb];simp[binOp,Op.intDiv,z]) (.int _ _))
     |(cases h
       first
       |exact .same (by simp only[Qca,e,Qcb];simp[binOp,Op.intArith,Op.intCmp,Op.intBits,bits]) (.int _ _)
       |exact .same (by simp only[Qca,e,Qcb];simp[binOp,Op.intArith,Op.intCmp,Op.intBits,bits]) (.bool _))
     |cases h
   ·cases h
 ·rename_i l j;cases d;cases m;have e:(eqGuard op t o n (.string ⟨l.toArray⟩) (.string ⟨j.toArray⟩)).run P W = .ok () W:=by unfold eqGuard;cases op <;> simp
  unfold yu7 at h;split at h
  ·split at h
   ·rename_i A;cases h;refine .same (c:=.string ⟨(l++j).toArray⟩) ?_ (.str _);simp only[Qca,e,Qcb]
    have u:¬((l.length+j.length:Nat):Int)>IntKind.i64.max:=by
     have:IntKind.i64.max=9223372036854775807:=by decide
     rw[this];unfold maxLen at A;omega
    have p:(⟨l.toArray⟩:ByteArray)++⟨j.toArray⟩=⟨(l++j).toArray⟩:=by
     apply ByteArray.ext;simp
    simp only[binOp,Op.stringOp,ByteArray.size,List.size_toArray,Sem.run_ite,u,if_false,p,Sem.run_pure]
   ·cases h
  all_goals first
   |(cases h
     exact .same (by simp only[Qca,e,Qcb];simp[binOp,Op.stringOp]) (.bool _))
   |cases h
 ·split at h
  ·split at h
   ·rename_i i;simp only[Qag]at i;simp only[Qaf]at h;obtain⟨r,q,rfl⟩:=h;refine .same (c:=.bool r) ?_ (.bool r);have:=(y7q (P:=P) 24).1 Op.maxDepth _ _ _ r a b (by decide) q d m;simp only[Qca,y7t o n i.2 d m,Qcb,binOp_eql (z021 i.1 d),Op.equal,this,Sem.run_pure]
   ·cases h
  ·split at h
   ·rename_i i;simp only[Qag]at i;simp only[Qaf]at h;obtain⟨r,q,rfl⟩:=h;refine .same (c:=.bool (!r)) ?_ (.bool (!r));have:=(y7q (P:=P) 24).1 Op.maxDepth _ _ _ r a b (by decide) q d m;simp only[Qca,y7t o n i.2 d m,Qcb,binOp_neq (z021 i.1 d),Op.equal,this,Sem.run_pure]
   ·cases h
  ·cases h
end
section
variable {W:World}{g:Gh}{H:Heap}{P:Program}
def pUn(op:UnOp)(x:V):Option V :=
 match op,x with
 |.neg,.int k n=>some (.int k (k.wrap (0-n)))
 |.not,.bool b=>some (.bool (!b))
 |.xor,.int k n=>some (.int k (bits .xor k (if k.signed then -1 else k.max) n))
 |_,_=>none
def z03d{op:UnOp}{x v:V}{c:Value}(h:pUn op x=some v)(a:Rel W g H x c):Yields P W g H (Op.unary op c) v:=by
 unfold pUn at h;split at h
 ·cases h;cases a;exact .same rfl (.int _ _)
 ·cases h;cases a;exact .same rfl (.bool _)
 ·cases h;cases a;exact .same rfl (.int _ _)
 ·cases h
def zrn(P:Program)(H:Heap)(t:Nat)(x:V):Option V :=
 match x with
 |.str s=>match P.underlying t with|some .string=>some (.int .i64 s.length)|_=>none
 |.nils=>match P.underlying t with|some (.slice _)=>some (.int .i64 0)|_=>none
 |.sl _ xs _=>match P.underlying t with|some (.slice _)=>some (.int .i64 xs.length)|_=>none
 |.hs l i b _ n _=>match P.underlying t with
  |some (.slice _)=>match H.get l i with|some (.arr a _ _ _ _)=>if a=b then some (.int .i64 n)else none|_=>none
  |_=>none
 |.mapn=>match P.underlying t with|some (.map _ _)=>some (.int .i64 0)|_=>none
 |.map l i=>match P.underlying t with
  |some (.map _ _)=>match H.get l i with|some (.map es)=>some (.int .i64 es.length)|_=>none
  |_=>none
 |.agg _=>match P.underlying t with|some (.array n _)=>some (.int .i64 n)|_=>none
 |_=>none
def ywj(k:Good W g H){t ty:Nat}{x v:V}{c:Value}(h:zrn P H t x=some v)(d:Rel W g H x c):Yields P W g H (Builtin.len_ #[t] ty #[c]) v:=by
 unfold zrn at h;split at h
 ·split at h
  ·rename_i b;cases h;cases d
   exact .same (by rw[run_len_string (P:=P) W t ty _ b];simp[goInt,ByteArray.size]) (.int _ _)
  ·cases h
 ·split at h
  ·rename_i b;cases h;cases d
   exact .same (by simp[Builtin.len_,kz3 b,goInt]) (.int _ _)
  ·cases h
 ·split at h
  ·rename_i b;cases h
   cases d <;> exact .same (by simp[Builtin.len_,kz3 b,goInt]) (.int _ _)
  ·cases h
 ·split at h
  ·rename_i b;split at h
   ·rename_i e;split at h
    ·rename_i i;subst i;cases h
     cases d with
     |hs _ _ _ _ _ _ a m p q i j=>
      obtain⟨_,rfl,_⟩:=j _ _ _ _ e;exact .same (by simp[Builtin.len_,kz3 b,goInt]) (.int _ _)
    ·cases h
   ·cases h
  ·cases h
 ·split at h
  ·rename_i b;cases h;cases d
   exact .same (by simp[Builtin.len_,kz3 b,goInt]) (.int _ _)
  ·cases h
 ·split at h
  ·rename_i b;split at h
   ·rename_i es e;cases h;cases d;have⟨o,clock,n,l,_⟩:=k.obj _ _ _ e;exact .same (c:=.int .i64 o.size) (by simp[Builtin.len_,kz3 b,goInt,run_getObj_map W _ _ _ n]) (by rw[l];exact .int _ _)
   ·cases h
  ·cases h
 ·split at h
  ·rename_i b;cases h;cases d
   exact .same (by simp[Builtin.len_,kz3 b,goInt]) (.int _ _)
  ·cases h
 ·cases h
def bnd(y d:Nat):Option V->Option Nat
 |none=>some d
 |some (.int _ x)=>if 0<=x∧x<=y then some x.toNat else none
 |_=>none
def zhw(n:Nat)(a b d:Option V):Option (Nat×Nat×Option Nat) :=
 match d with
 |none=>(bnd n n b).bind λh=>(bnd h 0 a).bind λl=>some (l,h,none)
 |some m=>(bnd n n (some m)).bind λm=>match b with
  |none=>none
  |some h=>(bnd m n (some h)).bind λh=>(bnd h 0 a).bind λl=>some (l,h,some m)
inductive zif? (W:World) (g:Gh) (H:Heap):Option V->Option Value->Prop where
 |none:zif? W g H none none
 |some {v:V} {c:Value}(h:Rel W g H v c):zif? W g H (some v) (some c)
def zyy{y d Y:Nat}{v:V}{c:Value}{r:Nat}{code:BoundsCode}(i:y<=Y)(h:bnd y d (some v)=some r)(b:Rel W g H v c):(Instr.sliceBound c Y code).run P W = .ok r W∧r<=y:=by
 unfold bnd at h;split at h
 ·rename_i a;cases a
 ·rename_i a;cases a;split at h
  ·rename_i e;cases h;cases b;refine⟨run_sliceBound W _ _ _ _ e.1 (by omega),by omega⟩
  ·cases h
 ·cases h
def zl7{n e:Nat}{A C x:Option V}{q s p:Option Value}{r:Nat×Nat×Option Nat}(b:Bool)(B:n<=e)(h:zhw n A C x=some r)(w:zif? W g H A q)(D:zif? W g H C s)(G:zif? W g H x p) :
  (Instr.sliceBounds b n e q s p).run P W = .ok (r.1,r.2.1,r.2.2.getD e) W∧r.1<=r.2.1∧r.2.1<=n∧(∀m,r.2.2=some m->r.2.1<=m∧m<=n):=by
 unfold zhw at h
 cases G with
 |none=>
  simp only[Qce]at h;have⟨I,j,l,a,d⟩:=h;cases d
  cases D with
  |none=>
   simp only[bnd,Qbu]at j;subst j
   cases w with
   |none=>simp only[bnd,Qbu]at a;subst a;simp[Instr.sliceBounds]
   |some i=>
    have⟨o,k⟩:=zyy (P:=P) (code:=.sliceB) (Qbw _) a i
    simp[Instr.sliceBounds,o,k]
  |some u=>
   have⟨f1,f2⟩:=zyy (P:=P) (code:=if b then .sliceAcap else .sliceAlen) B j u
   cases w with
   |none=>simp only[bnd,Qbu]at a;subst a;simp[Instr.sliceBounds,f1,f2]
   |some i=>
    have⟨o,k⟩:=zyy (P:=P) (code:=.sliceB) (Qbw _) a i
    simp[Instr.sliceBounds,o,k,f1,f2]
 |some E=>
  simp only[Qce]at h;have⟨m,F,h⟩:=h;have⟨z,y⟩:=zyy (P:=P) (code:=if b then .slice3Acap else .slice3Alen) B F E
  cases D with
  |none=>cases h
  |some u=>
   simp only[Qce]at h;have⟨I,j,l,a,d⟩:=h;cases d;have⟨f1,f2⟩:=zyy (P:=P) (code:=.slice3B) (Qbw _) j u
   cases w with
   |none=>simp only[bnd,Qbu]at a;subst a;simp[Instr.sliceBounds,f1,f2,z,y];omega
   |some i=>
    have⟨o,k⟩:=zyy (P:=P) (code:=.slice3C) (Qbw _) a i;simp[Instr.sliceBounds,o,k,f1,f2,z,y];omega
def zjb(P:Program)(H:Heap)(t:Nat)(x:V)(h j d:Option V):Option V :=
 match x with
 |.str s=>match P.underlying t,d with
  |some .string,none=>(zhw s.length h j none).map λr=>.str ((s.take r.2.1).drop r.1)
  |_,_=>none
 |.nils=>match P.underlying t with
  |some (.slice e)=>if (P.underlying e).isSome then (zhw 0 h j d).map λ_=>.nils else none
  |_=>none
 |.sl sz xs full=>match P.underlying t with
  |some (.slice e)=>if sz=P.cellsOf e∧(P.underlying e).isSome then (zhw xs.length h j d).map λr=>
    .sl sz ((xs.take r.2.1).drop r.1) (match r.2.2 with|some m=>m==r.2.1|none=>full&&r.2.1==xs.length)
   else none
  |_=>none
 |.hs l i a k n full=>match P.underlying t with
  |some (.slice e)=>match H.get l i with
   |some (.arr b _ sz _ _)=>if b=a∧sz=P.cellsOf e∧(P.underlying e).isSome then (zhw n h j d).bind λr=>
     if r.1=0∨r.1<r.2.1 then some (.hs l i a (k+r.1) (r.2.1-r.1) (match r.2.2 with|some m=>m==r.2.1|none=>full&&r.2.1==n))else some (.sl sz [] false)
    else none
   |_=>none
  |_=>none
 |_=>none
def yox(s:B8)(l h:Nat):(⟨s.toArray⟩:ByteArray).extract l h=⟨((s.take h).drop l).toArray⟩:=by
 apply ByteArray.ext;rw[ByteArray.data_extract];apply Array.ext';simp[List.drop_take]
def yau{ρ:Operand->V}{r:Operand->Value}(a:∀x,Rel W g H (ρ x) (r x))(o:Option Operand):zif? W g H (o.map ρ) (o.map r):=by
 cases o with
 |none=>exact .none
 |some x=>exact .some (a x)
def zle{xs:List V}{l h j:Nat}{x:V}(a:((xs.take h).drop l)[j]? = some x):xs[l+j]? = some x∧l+j<h:=by
 rw[Qbf,Qaw]at a;split at a
 ·exact⟨a,by assumption⟩
 ·cases a
def yrs(hG:Good W g H){t:Nat}{x v:V}{lo hi mx:Option V}{c:Value}{M N L:Option Value}(h:zjb P H t x lo hi mx=some v)(hx:Rel W g H x c)
  (Z:zif? W g H lo M) (Y:zif? W g H hi N) (X:zif? W g H mx L):Yields P W g H (Instr.sliceAt t c M N L) v:=by
 unfold zjb at h;split at h
 ·rename_i s;split at h
  ·rename_i y;simp only[Qaf]at h;obtain⟨r,F,rfl⟩:=h;cases hx;cases X;have⟨I,e2,e3,_⟩:=zl7 (P:=P) false (Qbw _) F Z Y .none;refine .same (c:=.string ((⟨s.toArray⟩:ByteArray).extract r.1 r.2.1)) ?_ ?_
   ·rw[run_sliceAt_string W t _ _ _ _ y];have hs:(⟨s.toArray⟩:ByteArray).size=s.length:=by simp[ByteArray.size]
    simp[Instr.slice,kz3 y,hs,I]
   ·rw[yox];exact .str _
  ·cases h
 ·split at h
  ·rename_i e y;split at h
   ·rename_i he;have⟨d,U⟩:=Option.isSome_iff_exists.1 he;simp only[Qaf]at h;obtain⟨r,F,rfl⟩:=h;cases hx;have⟨I,e2,e3,e4⟩:=zl7 (P:=P) true (Qbw 0) F Z Y X;refine .same (c:=.slice none 0 0) ?_ .nils;have A:P.elem t=e:=by simp[Program.elem,y]
    rw[run_sliceAt_slice W t _ _ _ _ (by rw[A];exact y)];have k1:r.1=0:=by omega
    have k2:r.2.1=0:=by omega
    have k3:r.2.2.getD 0=0:=by
     cases G:r.2.2 with
     |none=>rfl
     |some m=>have:=e4 m G;simp;omega
    simp[Instr.slice,kz3 y,I,za1 U,k1,k2,k3]
   ·cases h
  ·cases h
 ·rename_i sz xs full;split at h
  ·rename_i e y;split at h
   ·rename_i hc;obtain⟨rfl,he⟩:=hc;have⟨d,U⟩:=Option.isSome_iff_exists.1 he;simp only[Qaf]at h;obtain⟨r,F,rfl⟩:=h;have A:P.elem t=e:=by simp[Program.elem,y]
    have z:∀(a:Option Addr) (k:Nat),xs.length<=k->(Instr.sliceAt t (.slice a xs.length k) M N L).run P W =
      .ok (.slice (if r.2.2.getD k=r.1 then a else a.map (·.add (r.1 * P.cellsOf e))) (r.2.1-r.1) (r.2.2.getD k-r.1)) W:=λa k p=>by
     have⟨I,e2,e3,_⟩:=zl7 (P:=P) true p F Z Y X;rw[run_sliceAt_slice W t _ _ _ _ (by rw[A];exact y)];simp[Instr.slice,kz3 y,I,za1 U]
    have O:∀k,xs.length<=k->r.1<=r.2.1∧r.2.1<=xs.length∧(∀m,r.2.2=some m->r.2.1<=m∧m<=xs.length):=λk p=>(zl7 (P:=P) true p F Z Y X).2
    have hlen:((xs.take r.2.1).drop r.1).length=r.2.1-r.1:=by
     have⟨b1,b2,_⟩:=O _ (Qbw _);simp;omega
    have D:∀k,xs.length<=k->(full=true->k=xs.length)->(match r.2.2 with|some m=>m==r.2.1|none=>full&&r.2.1==xs.length)=true->r.2.2.getD k-r.1=r.2.1-r.1:=λk p B G=>by
     cases u:r.2.2 with
     |none=>
      simp only[u,Qag,Qbm]at G;have:=B G.1
      simp;omega
     |some m=>
      simp only[u,Qbm]at G;simp;omega
    have w:∀(a:Option Addr) (k:Nat),xs.length<=k->(full=true->k=xs.length)->(a=none->k=0)->r.2.1-r.1=0 ->
      Rel W g H (.sl (P.cellsOf e) ((xs.take r.2.1).drop r.1) (match r.2.2 with|some m=>m==r.2.1|none=>full&&r.2.1==xs.length))
       (.slice (if r.2.2.getD k=r.1 then a else a.map (·.add (r.1 * P.cellsOf e))) (r.2.1-r.1) (r.2.2.getD k-r.1)):=λa k p B ha h0=>by
     have h5:(xs.take r.2.1).drop r.1=[]:=Qao (by omega);rw[h5,h0];have C:=D k p B
     cases a with
     |none=>
      have:=ha rfl;subst this
      have:r.2.2.getD 0-r.1=0:=by
       cases u:r.2.2 with
       |none=>simp
       |some m=>have:=(O _ p).2.2 m u;simp;omega
      rw[this];simp only[Option.map_none,ite_self]
      exact .slnil _ _
     |some b=>
      generalize Q:(if r.2.2.getD k=r.1 then some b else (some b).map (·.add (r.1 * P.cellsOf e)))=q at *
      cases q with
      |none=>split at Q <;> simp at Q
      |some b'=>exact .sle _ _ b' _ (λG=>by rw[C G];exact h0)
    cases hx with
    |slnil=>exact .same (z none 0 (by simp)) (w none 0 (by simp) (by simp) (by simp) (by have:=(O _ (Qbw _)).2.1;simp at this;omega))
    |sle _ _ a k B=>exact .same (z (some a) k (by simp)) (w (some a) k (by simp) (by simpa using B) (by simp) (by have:=(O _ (Qbw _)).2.1;simp at this;omega))
    |sl _ _ _ b o k cc h9 hz p B hs hn hh h8=>
     refine .same (z _ k p) ?_;by_cases h0:r.2.1-r.1=0
     ·exact w _ k p B (by simp) h0
     ·have G:r.2.2.getD k≠r.1:=by
       cases u:r.2.2 with
       |none=>have:=(O _ p);simp;omega
       |some m=>have:=(O _ p).2.2 m u;simp;omega
      rw[Qby G];simp only[Qbr,add_eq];have C:=D k p B;generalize k5:(match r.2.2 with|some m=>m==r.2.1|none=>full&&r.2.1==xs.length)=fu at *;rw[<-hlen]
      refine .sl _ _ fu b (o+r.1 * P.cellsOf e) _ (λj t=>cc (r.1+j) t) h9 hz ?_ (λhl =>?_) (λj x R=>hs _ _ (zle R).1) (λj x t v R ht =>?_) (λj x t v R ht=>hh _ _ _ _ (zle R).1 ht) (λj x t v R ht=>h8 _ _ _ _ (zle R).1 ht)
      ·rw[hlen]
       cases u:r.2.2 with
       |none=>have:=(O _ p);simp;omega
       |some m=>have:=(O _ p).2.2 m u;simp;omega
      ·rw[hlen];exact C hl
      ·have:=hn _ _ _ _ (zle R).1 ht;rw[Nat.add_mul]at this;rw[<-this];congr 2;omega
   ·cases h
  ·cases h
 ·rename_i l i hq J n full;split at h
  ·rename_i e y;split at h
   ·rename_i ho ty sz xs cp hg;split at h
    ·rename_i hc;obtain⟨rfl,rfl,he⟩:=hc;have⟨d,U⟩:=Option.isSome_iff_exists.1 he;simp only[Qce]at h;have⟨r,F,h⟩:=h;split at h
     ·rename_i E;cases h;have A:P.elem t=e:=by simp[Program.elem,y]
      cases hx with
      |hs _ _ _ _ _ _ a m k h4 hv ha=>
       obtain⟨rfl,rfl,⟨p,T,C⟩,hk⟩:=ha _ _ _ _ hg;have⟨I,e2,e3,e4⟩:=zl7 (P:=P) true p F Z Y X
       have k4:r.2.1<=r.2.2.getD k∧r.2.2.getD k<=k:=by
        cases u:r.2.2 with
        |none=>simp;omega
        |some m'=>have:=e4 m' u;simp;omega
       refine .same (c:=.slice (some ⟨g.ab l i,(J+r.1) * P.cellsOf e,none⟩) (r.2.1-r.1) (r.2.2.getD k-r.1)) ?_ ?_
       ·rw[run_sliceAt_slice W t _ _ _ _ (by rw[A];exact y)];simp only[Instr.slice,Qca,kz3 y,Qcb,I,za1 U,Sem.run_pure]
        congr 2
        split
        ·rename_i k6
         have:r.1=0:=by
          rcases E with h0|h0
          ·exact h0
          ·omega
         rw[this,Nat.add_zero]
        ·simp only[Qbr,add_eq,Nat.add_mul]
       ·refine .hs _ _ _ _ _ _ _ _ _ h4 hv λhw hy hp k7 K =>?_
        rw[hg]at K;injection K with K;injection K with _ _ h7 h6 _
        subst h6;refine⟨by rw[h7],rfl,⟨by omega,by omega,λB =>?_⟩,by omega⟩
        cases u:r.2.2 with
        |none=>
         simp only[u,Qag,Qbm]at B;have:=C B.1
         simp;omega
        |some m'=>
         simp only[u,Qbm]at B;simp;omega
     ·rename_i E;cases h;have A:P.elem t=e:=by simp[Program.elem,y]
      cases hx with
      |hs _ _ _ _ _ _ a m k h4 hv ha=>
       obtain⟨rfl,rfl,⟨p,T,C⟩,hk⟩:=ha _ _ _ _ hg;have⟨I,e2,e3,e4⟩:=zl7 (P:=P) true p F Z Y X;have h0:r.2.1-r.1=0:=by omega
       have z:(Instr.sliceAt t (.slice (some ⟨g.ab l i,J * P.cellsOf e,none⟩) m k) M N L).run P W =
         .ok (.slice (if r.2.2.getD k=r.1 then some ⟨g.ab l i,J * P.cellsOf e,none⟩else (some ⟨g.ab l i,J * P.cellsOf e,none⟩:Option Addr).map (·.add (r.1 * P.cellsOf e))) (r.2.1-r.1) (r.2.2.getD k-r.1)) W:=by
        rw[run_sliceAt_slice W t _ _ _ _ (by rw[A];exact y)];simp[Instr.slice,kz3 y,I,za1 U]
       refine .same z ?_;rw[h0];split <;> exact .sle _ _ _ _ (λB=>by cases B)
    ·cases h
   ·cases h
  ·cases h
 ·cases h
end
section
variable {W:World}{g:Gh}{H:Heap}{P:Program}
def ypm(d:TypeDesc)(x y:V):Option Bool :=
 match x,y with
 |.int k a,.int e b=>match d with| .int _=>if k=e then some (a==b)else none|_=>none
 |.str a,.str b=>match d with| .string=>some (a==b)|_=>none
 |.bool a,.bool b=>match d with| .bool=>some (a==b)|_=>none
 |_,_=>none
def y8t(d:TypeDesc)(k:V):List (V×V)->Nat->Option (Option (Nat×V))
 |[],_=>some none
 |e::es,i=>match ypm d k e.1 with
  |some b=>if b then some (some (i,e.2))else y8t d k es (i+1)
  |none=>none
def y8k{d:TypeDesc}{x y:V}{a b:Value}{r:Bool}(h:ypm d x y=some r)(i:Rel W g H x a)(e:Rel W g H y b):Instr.sameNow d a b=some r:=by
 unfold ypm at h;split at h
 ·cases i;cases e;split at h
  ·simpa[Instr.sameNow]using h
  ·cases h
 ·cases i;cases e;split at h
  ·cases h;simp only[Instr.sameNow,Qbu];show((⟨_⟩:ByteArray)==⟨_⟩)=_;rw[beq_toListBytes];simp
  ·cases h
 ·cases i;cases e;split at h
  ·simpa[Instr.sameNow]using h
  ·cases h
 ·cases h
def zyq{d:TypeDesc}{k:V}{s:Value}(x:Rel W g H k s):∀(es:List (V×V)) (a:List MapEntry) (i:Nat) (r:Option (Nat×V)),y8t d k es i=some r->a.length=es.length ->
  (∀(j:Nat) (p:V×V),es[j]? = some p->∃e,a[j]? = some e∧Rel W g H p.1 e.key∧Rel W g H p.2 e.val) ->
  match r with
  |none=>Instr.findNow d s a i=some none
  |some (j,v)=>∃e,Instr.findNow d s a i=some (some (j,e.val))∧Rel W g H v e.val∧i<=j∧a[j-i]? = some e∧∃p,es[j-i]? = some p∧ypm d k p.1=some true
 |[],a,i,r,h,n,_=>by
  simp only[y8t,Qbu]at h;subst h
  cases a with
  |nil=>rfl
  |cons=>simp at n
 |e::es,a,i,r,h,n,w=>by
  cases a with
  |nil=>simp at n
  |cons f a=>
   have⟨L,y,I,G⟩:=w 0 e rfl;simp only[Qcd,Qbu]at y;subst y;simp only[y8t]at h;split at h
   ·rename_i b z;have o:=y8k z x I;split at h
    ·rename_i l;subst l;simp only[Qbu]at h;subst h;exact⟨f,by simp[Instr.findNow,o],G,Qbw _,by simp,e,by simp,z⟩
    ·rename_i l;have u:b=false:=by simpa using l
     subst u;have m:=zyq x es a (i+1) r h (by simpa using n) (λj p F=>by simpa using w (j+1) p (by simpa using F))
     cases r with
     |none=>simp only at m ⊢;simp[Instr.findNow,o,m]
     |some q=>
      have⟨j,v⟩:=q;simp only at m ⊢;have⟨J,E,D,K,C,p,B,A⟩:=m;refine⟨J,by simp[Instr.findNow,o,E],D,by omega,?_,p,?_,A⟩
      ·rw[show j-i=(j-(i+1))+1 by omega];simpa using C
      ·rw[show j-i=(j-(i+1))+1 by omega];simpa using B
   ·cases h
def zeroV(P:Program)(t:Nat):Option V:=((P.info? t).bind (·.zero)).map ofConst
def zta{t:Nat}{v:V}(h:zeroV P t=some v):∃z,(zeroValue t).run P W = .ok z W∧Rel W g H v z:=by
 simp only[zeroV,Qaf,Qce]at h;obtain⟨z,⟨i,b,a⟩,rfl⟩:=h;exact⟨z,by simp[zeroValue,typeInfo,b,a],zph z⟩
def zyx(P:Program)(k:Nat)(x:V):Option TypeDesc :=
 match P.underlying k,x with
 |some (.int q),.int _ _=>some (.int q)
 |some .string,.str _=>some .string
 |some .bool,.bool _=>some .bool
 |_,_=>none
def y4d{k:Nat}{x:V}{d:TypeDesc}{c:Value}(h:zyx P k x=some d)(b:Rel W g H x c):P.underlying k=some d∧∀e n,(Instr.checkKey e (n+1) k c).run P W = .ok () W:=by
 unfold zyx at h;split at h
 ·rename_i a;cases h;cases b;exact⟨a,λe n=>by simp[Instr.checkKey,kz3 a]⟩
 ·rename_i a;cases h;cases b;exact⟨a,λe n=>by simp[Instr.checkKey,kz3 a]⟩
 ·rename_i a;cases h;cases b;exact⟨a,λe n=>by simp[Instr.checkKey,kz3 a]⟩
 ·cases h
def z03i(H:Heap):V->Option (List (V×V))
 |.mapn=>some []
 |.map l i=>match H.get l i with
  |some (.map es)=>some es
  |_=>none
 |_=>none
def zv2(P:Program)(H:Heap)(t:Nat)(x k:V)(ok:Bool):Option V :=
 match P.underlying t with
 |some (.map a e)=>match z03i H x,zyx P a k,zeroV P e with
  |some es,some d,some z=>match y8t d k es 0 with
   |some r=>some (match r with
    |some p=>if ok then .tup [p.2,.bool true]else p.2
    |none=>if ok then .tup [z,.bool false]else z)
   |none=>none
  |_,_,_=>none
 |_=>none
def ybs{a b:V}{x y:Value}(h:Rel W g H a x)(e:Rel W g H b y):Rel W g H (.tup [a,b]) (.tuple #[x,y]) :=
 .tup _ _ rfl λj v d=>by
   match j with
   |0=>simp at d;subst d;exact h
   |1=>simp at d;subst d;exact e
   |n+2=>simp at d
def yn5(X:Good W g H){t:Nat}{x k v:V}{ok:Bool}{c D:Value}(h:zv2 P H t x k ok=some v)(J:Rel W g H x c)(L:Rel W g H k D):Yields P W g H (Instr.lookup t c D ok) v:=by
 unfold zv2 at h;split at h
 ·rename_i kt e K;split at h
  ·rename_i es d z b E N;split at h
   ·rename_i r U;injection h with h;have⟨G,q,o⟩:=zta (W:=W) (g:=g) (H:=H) N;have⟨s,A⟩:=y4d E L
    have B:∀(m:List MapEntry),m.length=es.length->(∀(j:Nat) (p:V×V),es[j]? = some p->∃e,m[j]? = some e∧Rel W g H p.1 e.key∧Rel W g H p.2 e.val) ->
      ∃R,Instr.findNow d D m 0=some R∧Rel W g H v (match R with|some (_,u)=>if ok then .tuple #[u,.bool true]else u|none=>if ok then .tuple #[G,.bool false]else G):=λm O a=>by
     have y:=zyq (d:=d) L es m 0 r U O a
     cases r with
     |none=>
      refine⟨none,y,?_⟩;subst h;cases ok
      ·exact o
      ·exact ybs o (.bool false)
     |some p=>
      have⟨j,u⟩:=p;have⟨e',M,I,_⟩:=y;refine⟨some (j,e'.val),M,?_⟩;subst h;cases ok
      ·exact I
      ·exact ybs I (.bool true)
    unfold z03i at b;split at b
    ·cases b;cases J;have⟨R,C,a⟩:=B [] rfl (by simp);refine .same ?_ a;have n:=MapKept.run_findKey (P:=P) (w:=W) (l:=[]) s C;cases R <;> simp[Instr.lookup,kz3 K,A,n,q] <;> cases ok <;> rfl
    ·split at b
     ·rename_i l i h3 T;cases b;cases J;have⟨m,clock,h1,Z,_,_,Y⟩:=X.obj _ _ _ T;have⟨R,C,a⟩:=B m.toList (by simpa using Z) (λj p Q=>by simpa using Y j p Q);refine .same ?_ a;have n:=MapKept.run_findKey (P:=P) (w:=W) (l:=m.toList) s C;have F:=run_getObj_map (P:=P) W _ _ _ h1
      cases R <;> simp[Instr.lookup,kz3 K,A,n,q,F] <;> cases ok <;> rfl
     ·cases b
    ·cases b
   ·cases h
  ·cases h
 ·cases h
def zjg(P:Program)(t:Nat)(x:V):Option V:=if P.concrete t then some (.iface t x)else none
def y0j{t:Nat}{x v:V}{c:Value}(h:zjg P t x=some v)(a:Rel W g H x c):Yields P W g H (Instr.makeInterface t c) v:=by
 unfold zjg at h;split at h
 ·rename_i b;cases h
  exact .same (run_makeInterface W t c b) (.iface _ _ _ a)
 ·cases h
def zlx(P:Program)(x:V)(asserted:Nat)(ok:Bool):Option V :=
 match P.underlying asserted,x with
 |some (.interface _),_=>none
 |some _,.iface t v=>if t=asserted then some (if ok then .tup [v,.bool true]else v)else none
 |_,_=>none
def y62{t u:Nat}{x v:V}{ok:Bool}{c:Value}(h:zlx P x u ok=some v)(e:Rel W g H x c):Yields P W g H (Instr.typeAssert c t u ok) v:=by
 unfold zlx at h;split at h
 ·cases h
 ·rename_i d m l k i;split at h
  ·rename_i j;subst j;cases h
   cases e with
   |iface _ _ b a=>
    refine .same (c:=if ok then .tuple #[b,.bool true]else b) ?_ ?_
    ·cases d <;> first|(exact(k _ rfl).elim)|(simp[Instr.typeAssert,kz3 i])
    ·cases ok
     ·exact a
     ·exact ybs a (.bool true)
  ·cases h
 ·cases h
def zwp(P:Program)(s d:Nat)(x:V):Option V :=
 match x with
 |.int _ n=>match P.underlying s,P.underlying d with
  |some _,some (.int k)=>some (.int k (k.wrap n))
  |_,_=>none
 |.str a=>match P.underlying s,P.underlying d with
  |some _,some .string=>some (.str a)
  |_,_=>none
 |_=>none
def yhb{s d:Nat}{x v:V}{c:Value}(h:zwp P s d x=some v)(e:Rel W g H x c):Yields P W g H (convert s d c) v:=by
 unfold zwp at h;split at h
 ·split at h
  ·rename_i a b;cases h;cases e
   exact .same (by simp[convert,kz3 a,kz3 b,Conv.intToInt]) (.int _ _)
  ·cases h
 ·split at h
  ·rename_i a b;cases h;cases e
   exact .same (by simp[convert,kz3 a,kz3 b]) (.str _)
  ·cases h
 ·cases h
def mxI(x y:Int):Int:=if y>x then y else x
def mnI(x y:Int):Int:=if y<x then y else x
def zv6(max:Bool):List V->Option V
 |[.int k x,.int _ y]=>some (.int k (match max with|true=>mxI x y|false=>mnI x y))
 |[.int k x,.int _ y,.int _ z]=>some (.int k (match max with|true=>mxI (mxI x y) z|false=>mnI (mnI x y) z))
 |_=>none
def yw4{xs:List V}{v:V}{cs:Array Value}{t:Array TypeId}{ty:TypeId}(h:zv6 false xs=some v)(o:cs.size=xs.length)(d:∀j x,xs[j]? = some x->Rel W g H x (cs.getD j undef)):Yields P W g H (Builtin.min_ t ty cs) v:=by
 unfold zv6 at h;split at h
 ·rename_i k x e y;cases h
  obtain⟨a,b,rfl⟩:∃a b,cs = #[a,b]:=by
   cases cs with|mk l=>match l,o with|[a,b],_=>exact⟨a,b,rfl⟩
  have m:Rel W g H (.int k x) a:=d 0 _ rfl;have i:Rel W g H (.int e y) b:=d 1 _ rfl;cases m;cases i;exact .same (by simp[Builtin.min_,Builtin.min2,mnI]) (.int _ _)
 ·rename_i k x e y n z;cases h
  obtain⟨a,b,c,rfl⟩:∃a b c,cs = #[a,b,c]:=by
   cases cs with|mk l=>match l,o with|[a,b,c],_=>exact⟨a,b,c,rfl⟩
  have m:Rel W g H (.int k x) a:=d 0 _ rfl;have i:Rel W g H (.int e y) b:=d 1 _ rfl;have p:Rel W g H (.int n z) c:=d 2 _ rfl;cases m;cases i;cases p;exact .same (by simp[Builtin.min_,Builtin.min2,mnI] <;> (repeat' split) <;> rfl) (.int _ _)
 ·cases h
def yx1{xs:List V}{v:V}{cs:Array Value}{t:Array TypeId}{ty:TypeId}(h:zv6 true xs=some v)(o:cs.size=xs.length)(d:∀j x,xs[j]? = some x->Rel W g H x (cs.getD j undef)):Yields P W g H (Builtin.max_ t ty cs) v:=by
 unfold zv6 at h;split at h
 ·rename_i k x e y;cases h
  obtain⟨a,b,rfl⟩:∃a b,cs = #[a,b]:=by
   cases cs with|mk l=>match l,o with|[a,b],_=>exact⟨a,b,rfl⟩
  have m:Rel W g H (.int k x) a:=d 0 _ rfl;have i:Rel W g H (.int e y) b:=d 1 _ rfl;cases m;cases i;exact .same (by simp[Builtin.max_,Builtin.max2,mxI]) (.int _ _)
 ·rename_i k x e y n z;cases h
  obtain⟨a,b,c,rfl⟩:∃a b c,cs = #[a,b,c]:=by
   cases cs with|mk l=>match l,o with|[a,b,c],_=>exact⟨a,b,c,rfl⟩
  have m:Rel W g H (.int k x) a:=d 0 _ rfl;have i:Rel W g H (.int e y) b:=d 1 _ rfl;have p:Rel W g H (.int n z) c:=d 2 _ rfl;cases m;cases i;cases p;exact .same (by simp[Builtin.max_,Builtin.max2,mxI] <;> (repeat' split) <;> rfl) (.int _ _)
 ·cases h
end
section
variable {W:World}{g:Gh}{H:Heap}{P:Program}
def V.kzl:V->Bool
 |.agg _=>true
 |v=>v.leaf
def zy3(W:World)(g:Gh)(H:Heap)(vs:List V)(cs:Array Value):Prop :=
 cs.size=vs.length∧(∀j v,vs[j]? = some v->(cs.getD j undef).oneCell'=true)∧∀j v,vs[j]? = some v->Rel W g H v (cs.getD j undef)
def zlt(W:World)(g:Gh)(H:Heap)(vs:List V)(cs:Array Value):Prop:=cs.size=vs.length∧∀j v,vs[j]? = some v->Rel W g H v (cs.getD j undef)
def zgl{x:V}{c:Value}(h:x.kzl=true)(d:Rel W g H x c):zy3 W g H x.cells c.cells:=by
 cases d
 case agg vs cs i b e=>exact⟨i,b,e⟩
 case any=>simp[V.kzl,V.leaf]at h
 case tup=>simp[V.kzl,V.leaf]at h
 all_goals
  refine⟨rfl,λj v a =>?_,λj v a =>?_⟩
  ·match j with
   |0=>rfl
   |n+1=>simp[V.cells]at a
  ·match j with
   |0=>
    simp only[V.cells,Qcd,Qbu]at a;subst a
    first
     |exact .bool _|exact .int _ _|exact .str _|exact .nilp|exact .nils|exact .mapn|exact .nilf|exact .nili
     |(constructor <;> assumption)
   |n+1=>simp[V.cells]at a
def z02(cs:List V)(a:Nat)(xs:List V):List V:=cs.take a++xs++cs.drop (a+xs.length)
def zlh{cs xs:List V}{a:Nat}(h:a+xs.length<=cs.length):(z02 cs a xs).length=cs.length:=by
 unfold z02;simp;omega
def yds{cs xs:List V}{a j:Nat}{v:V}(h:a+xs.length<=cs.length)(b:(z02 cs a xs)[j]? = some v) :
  (j<a∧cs[j]? = some v)∨(a<=j∧j<a+xs.length∧xs[j-a]? = some v)∨(a+xs.length<=j∧cs[j]? = some v):=by
 unfold z02 at b;by_cases d:j<a
 ·left;rw[Qaz,Qal (by simp;omega),Qaw,Qbx d]at b;exact⟨d,b⟩
 ·by_cases e:j<a+xs.length
  ·right;left;rw[Qaz,Qav (by simp;omega),Qal (by simp;omega)]at b;have:(List.take a cs).length=a:=by simp;omega
   rw[this]at b;exact⟨by omega,e,b⟩
  ·right;right;rw[Qav (by simp;omega),Qbf]at b;have:(List.take a cs++xs).length=a+xs.length:=by simp;omega
   rw[this]at b;rw[show a+xs.length+(j-(a+xs.length))=j by omega]at b;exact⟨by omega,b⟩
def putCells(cells:Array Value)(a:Nat)(xs:Array Value):Array Value:=xs.zipIdx.foldl (λcs (c,j)=>cs.setIfInBounds (a+j) c) cells
def y27(a:Nat):∀(xs:List Value) (k:Nat) (cells:Array Value),
  ((xs.zipIdx k).foldl (λcs (p:Value×Nat)=>cs.setIfInBounds (a+p.2) p.1) cells).size=cells.size ∧
  ∀i,((xs.zipIdx k).foldl (λcs (p:Value×Nat)=>cs.setIfInBounds (a+p.2) p.1) cells)[i]? = if a+k<=i∧i<a+k+xs.length∧i<cells.size then xs[i-(a+k)]? else cells[i]?
 |[],k,cells=>by
  refine⟨rfl,λi =>?_⟩;simp only[List.zipIdx_nil,List.foldl_nil,Qcc]
  rw[Qby (by omega)]
 |x::xs,k,cells=>by
  have⟨j,h⟩:=y27 a xs (k+1) (cells.setIfInBounds (a+k) x);simp only[List.zipIdx_cons,List.foldl_cons];refine⟨by rw[j];simp,λi =>?_⟩;rw[h i];simp only[Array.size_setIfInBounds,List.length_cons];by_cases e:a+(k+1)<=i∧i<a+(k+1)+xs.length∧i<cells.size
  ·rw[Qbx e,Qbx (by omega),show i-(a+k)=(i-(a+(k+1)))+1 by omega,List.getElem?_cons_succ]
  ·rw[Qby e,Array.getElem?_setIfInBounds];by_cases d:a+k=i
   ·subst d;by_cases b:a+k<cells.size
    ·rw[Qbx rfl,Qbx b,Qbx (by omega)];simp
    ·rw[Qbx rfl,Qby b,Qby (by omega)];simp[b]
   ·rw[Qby d,Qby (by omega)]
def zk2(cells:Array Value)(a:Nat)(xs:Array Value):(putCells cells a xs).size=cells.size ∧
  ∀i,(putCells cells a xs)[i]? = if a<=i∧i<a+xs.size∧i<cells.size then xs[i-a]? else cells[i]? := by
 have⟨d,b⟩:=y27 a xs.toList 0 cells
 have e:putCells cells a xs=(xs.toList.zipIdx 0).foldl (λcs (p:Value×Nat)=>cs.setIfInBounds (a+p.2) p.1) cells:=by
  unfold putCells;rw[<-Array.foldl_toList,Array.toList_zipIdx]
 rw[e];refine⟨d,λi =>?_⟩;rw[b i];simp
def y7w{vs xs:List V}{cs i:Array Value}{d:Nat}(h:zy3 W g H vs cs)(k:zy3 W g H xs i)(e:d+xs.length<=vs.length):zy3 W g H (z02 vs d xs) (putCells cs d i):=by
 have⟨o,n⟩:=zk2 cs d i;refine⟨by rw[o,zlh e,h.1],λj v l =>?_,λj v l =>?_⟩
 all_goals
  have m:=(Qaa.1 l).1;rw[zlh e]at m;rw[Qae,n]
  rcases yds e l with ⟨a,b⟩|⟨a,b,c⟩|⟨a,b⟩
  ·rw[Qby (by omega),<-Qae];first|exact h.2.1 j v b|exact h.2.2 j v b
  ·rw[Qbx ⟨a,by rw[k.1];omega,by rw[h.1];omega⟩,<-Qae];first|exact k.2.1 _ v c|exact k.2.2 _ v c
  ·rw[Qby (by rw[k.1];omega),<-Qae];first|exact h.2.1 j v b|exact h.2.2 j v b
def zxd(place:Nat->Option (Nat×Nat))(cells:List V):List (Nat×V)->Option (List V)
 |[]=>some cells
 |(i,x)::rest=>match place i with
  |none=>none
  |some (a,size)=>if x.kzl&&x.cells.length==size&&decide (a+size<=cells.length)then zxd place (z02 cells a x.cells) rest else none
def zoz{place:Nat->Option (Nat×Nat)}:∀(l:List (Nat×V)) (a:List (Nat×Value)) (cells:List V) (cs:Array Value) (r:List V),zxd place cells l=some r->zy3 W g H cells cs ->
  a.length=l.length->(∀(j i:Nat) (x:V),l[j]? = some (i,x)->∃c,a[j]? = some (i,c)∧Rel W g H x c)->∃m,Instr.fill place cs a=some m∧zy3 W g H r m
 |[],a,cells,cs,r,h,o,n,_=>by
  simp only[zxd,Qbu]at h;subst h
  cases a with
  |nil=>exact⟨cs,rfl,o⟩
  |cons=>simp at n
 |(i,x)::l,a,cells,cs,r,h,o,n,s=>by
  cases a with
  |nil=>simp at n
  |cons q a=>
   have⟨c,u,w⟩:=s 0 i x rfl;simp only[Qcd,Qbu]at u;subst u;simp only[zxd]at h;split at h
   ·cases h
   ·rename_i e size z;split at h
    ·rename_i b;simp only[Qag,Qbm,Qar]at b;have⟨⟨B,G⟩,F⟩:=b;have k:=zgl B w;have E:=k.1;have p:zy3 W g H (z02 cells e x.cells) (putCells cs e c.cells):=y7w o k (by omega);have⟨m,D,C⟩:=zoz l a _ _ r h p (by simpa using n) (λj i y A=>by simpa using s (j+1) i y (by simpa using A));refine⟨m,?_,C⟩
     have d:¬((decide (c.cells.size≠size)||decide (e+c.cells.size>cs.size))=true):=by
      have:=o.1;simp;omega
     simp only[Instr.fill,z];rw[Qby d];exact D
    ·cases h
def y8e(P:Program)(a:List Field):Option (List (Nat×Nat)):=a.mapM λf=>(P.info? f.type).map λi=>(f.offset,i.size)
def partsOf(ρ:Operand->V)(a:Array (Nat×Operand)):List (Nat×V):=a.toList.map λp=>(p.1,ρ p.2)
def yde(P:Program)(t:Nat)(a:List (Nat×V)):Option V :=
 match zeroV P t with
 |some (.agg z)=>match P.underlying t with
  |some (.struct b)=>match y8e P b.toList with
   |some places=>(zxd (λi=>places[i]?) z a).map .agg
   |none=>none
  |some (.array _ e)=>if (P.info? e).isSome then (zxd (λi=>some (i * P.cellsOf e,P.cellsOf e)) z a).map .agg else none
  |_=>none
 |_=>none
def yrf{t:Nat}{d:List (Nat×V)}{v:V}{a:Array (Nat×Value)}(h:yde P t d=some v)(D:a.size=d.length)
  (B:∀(j i:Nat) (x:V),d[j]? = some (i,x)->∃c,a[j]? = some (i,c)∧Rel W g H x c):Yields P W g H (Instr.build t a) v:=by
 unfold yde at h;split at h
 ·rename_i z E;have⟨K,k,w⟩:=zta (W:=W) (g:=g) (H:=H) E
  cases w with
  |agg _ cs C m l=>
   split at h
   ·rename_i J p;split at h
    ·rename_i places F;simp only[Qaf]at h;obtain⟨r,s,rfl⟩:=h;have⟨o,u,b⟩:=zoz d a.toList z cs r s ⟨C,m,l⟩ (by simpa using D) (λj i x q=>by simpa using B j i x q);refine .same (c:=.agg o) ?_ (.agg _ _ b.1 b.2.1 b.2.2);have A:=run_places (P:=P) W J.toList places F;simp[Instr.build,k,kz3 p,Value.cells,Array.mapM_eq_mapM_toList,A,u]
    ·cases h
   ·rename_i n e p;split at h
    ·rename_i I;have⟨i,G⟩:=Option.isSome_iff_exists.1 I;simp only[Qaf]at h;obtain⟨r,s,rfl⟩:=h;have⟨o,u,b⟩:=zoz d a.toList z cs r s ⟨C,m,l⟩ (by simpa using D) (λj i x q=>by simpa using B j i x q);refine .same (c:=.agg o) ?_ (.agg _ _ b.1 b.2.1 b.2.2);have y:(sizeOf e).run P W = .ok (P.cellsOf e) W:=by simp[sizeOf,typeInfo,G,Program.cellsOf]
     simp[Instr.build,k,kz3 p,Value.cells,y,u]
    ·cases h
   ·cases h
 ·cases h
def zqc:Nat->List (Nat×V)->Bool
 |_,[]=>true
 |k,(i,_)::r=>i==k&&zqc (k+1) r
def zg9(P:Program)(t len:Nat)(a:List (Nat×V)):Option V :=
 match P.underlying t with
 |some (.slice e)=>match zeroV P e with
  |some z=>
   if z.kzl&&z.cells.length==P.cellsOf e&&decide (0<P.cellsOf e)&&(P.info? e).isSome&&a.length==len&&zqc 0 a&&a.all (λp=>p.2.kzl&&p.2.cells.length==P.cellsOf e)&&decide (len * P.cellsOf e<=2 ^ 24)then
    some (if len=0 then .sl (P.cellsOf e) [] true else .sl (P.cellsOf e) (a.map (·.2)) true)
   else none
  |none=>none
 |_=>none
def zth{sz:Nat}:∀(xs:List V),(∀x∈xs,x.cells.length=sz)->∀(j t:Nat) (x v:V),xs[j]? = some x->x.cells[t]? = some v->(xs.flatMap V.cells)[j * sz+t]? = some v
 |[],_,j,t,x,v,a,_=>by simp at a
 |y::e,h,0,t,x,v,a,b=>by
  simp only[Qcd,Qbu]at a;subst a;have d:=(Qaa.1 b).1;simp only[List.flatMap_cons,Nat.zero_mul,Nat.zero_add]
  rw[Qal d];exact b
 |y::e,h,j+1,t,x,v,a,b=>by
  have i:=h y (.head _);simp only[List.flatMap_cons];rw[Qav (by rw[i,Nat.succ_mul];omega),i,show(j+1) * sz+t-sz=j * sz+t by rw[Nat.succ_mul];omega];exact zth e (λx k=>h x (.tail _ k)) j t x v (by simpa using a) b
def zxv{sz:Nat}:∀(a:List (Nat×V)) (k:Nat) (cells:List V),zqc k a=true->(∀p∈a,p.2.kzl=true∧p.2.cells.length=sz)->cells.length=(k+a.length) * sz ->
  zxd (λi=>some (i * sz,sz)) cells a=some (cells.take (k * sz)++(a.map (·.2)).flatMap V.cells)
 |[],k,cells,_,_,d=>by
  simp only[zxd,List.map_nil,List.flatMap_nil,List.append_nil,Qbu]
  rw[List.take_of_length_le (by rw[d];simp)]
 |(i,x)::a,k,cells,b,h,d=>by
  simp only[zqc,Qag,Qbm]at b;obtain⟨rfl,b⟩:=b;have⟨j,e⟩:=h (i,x) (.head _);simp only at j e
  have m:i * sz+sz<=cells.length:=by
   rw[d,List.length_cons]
   calc i * sz+sz=(i+1) * sz:=by rw[Nat.succ_mul]
    _<=_:=Qau _ (by omega)
  simp only[zxd,j,e,beq_self_eq_true,Bool.true_and,m,decide_true,if_true]
  have hlen:(z02 cells (i * sz) x.cells).length=(i+1+a.length) * sz:=by
   rw[zlh (by omega),d,List.length_cons];congr 1;omega
  rw[zxv a (i+1) _ b (λp l=>h p (.tail _ l)) hlen];simp only[List.map_cons,List.flatMap_cons,Qbu];rw[<-Qaz]
  congr 1
  unfold z02;rw[Nat.succ_mul,Qaz,List.take_append,List.take_append];simp only[Qay];have r:min (i * sz) cells.length=i * sz:=by omega
  have q:i * sz+sz-i * sz=sz:=by omega
  have o:List.take (i * sz+sz) (List.take (i * sz) cells)=List.take (i * sz) cells:=List.take_of_length_le (by rw[Qay];omega);have n:List.take sz x.cells=x.cells:=List.take_of_length_le (by omega);rw[r,q,o,n,e];simp
def y6s{t len:Nat}{s:List (Nat×V)}{v:V}{d:Array (Nat×Value)}(hG:Good W g H)(h:zg9 P t len s=some v)(hl:d.size=s.length)
  (M:∀(j i:Nat) (x:V),s[j]? = some (i,x)->∃c,d[j]? = some (i,c)∧Rel W g H x c):Yields P W g H (Instr.buildSlice t len d) v:=by
 unfold zg9 at h;split at h
 ·rename_i e hu;split at h
  ·rename_i z hz;split at h
   ·rename_i hc;simp only[Qag,Qbm,Qar,Qat]at hc;have⟨⟨⟨⟨⟨⟨⟨c1,c2⟩,c3⟩,c4⟩,N⟩,c6⟩,c7⟩,c8⟩:=hc;injection h with h;have⟨h4,hi⟩:=Option.isSome_iff_exists.1 c4;have C:(sizeOf e).run P W = .ok (P.cellsOf e) W:=by simp[sizeOf,typeInfo,hi,Program.cellsOf]
    have⟨m,U,T⟩:=zta (W:=W) (g:=g) (H:=H) hz;have⟨B,O,Q⟩:=zgl c1 T;have K:¬(len * P.cellsOf e>2 ^ 24):=by omega
    by_cases h0:len=0
    ·subst h0;rw[Qbx rfl]at h;subst h;have Y:s=[]:=Qao N;subst Y;have J:d = #[]:=by simpa using hl
     subst J;refine⟨.slice (some ⟨W.heap.size,0,none⟩) 0 0,W.alloc (.cells (Array.map (λ_=>default) (Array.range 0)) e),?_,.alloc _ _,.sle _ _ _ _ (λ_=>rfl)⟩;simp[Instr.buildSlice,kz3 hu,C,Instr.fill,newRow]
    ·rw[Qby h0]at h;subst h
     have Z:¬(len * P.cellsOf e=0):=by
      intro A
      rcases Nat.mul_eq_zero.1 A with q|q <;> omega
     let a:Array Value:=(Array.range (len * P.cellsOf e)).map (m.cells[· % m.cells.size]!)
     let r:List V:=(List.range (len * P.cellsOf e)).map λi=>z.cells.getD (i % z.cells.length) .any
     have u:zy3 W g H r a:=by
      have R:∀j v,r[j]? = some v->∃k,z.cells[k]? = some v∧a.getD j undef=m.cells.getD k undef:=λj v b=>by
       have G:j<len * P.cellsOf e:=by
        have:=(Qaa.1 b).1;simpa[r]using this
       simp only[r,Qan,List.getElem?_range G,Qbr,Qbu]at b;have A:j % z.cells.length<z.cells.length:=Nat.mod_lt _ (by omega)
       have hv:z.cells[j % z.cells.length]? = some v:=by
        rw[Qba,Qab A]at b;simp only[Option.getD_some]at b;rw[Qab A,b]
       have D:j % m.cells.size<m.cells.size:=by rw[B];exact A
       refine⟨_,hv,?_⟩;have M:(Array.range (len * P.cellsOf e))[j]? = some j:=by simp[G]
       simp only[a,Qae,Array.getElem?_map,M,Qbr,Option.getD_some];rw[getElem!_pos m.cells (j % m.cells.size) D]
       have X:(m.cells)[j % z.cells.length]? = some (m.cells[j % m.cells.size]):=by
        rw[<-B];exact Qas D
       rw[X];rfl
      refine⟨by simp[r,a],λj v b =>?_,λj v b =>?_⟩
      all_goals
       have⟨k,F,h1⟩:=R j v b;rw[h1]
       first|exact O _ _ F|exact Q _ _ F
     have I:=zxv s 0 r c6 c7 (by simp[r,N]);simp only[Nat.zero_mul,List.take_zero,List.nil_append]at I;have⟨w,e1,L⟩:=zoz s d.toList r a _ I u (by simpa using hl) (λj i x b=>by simpa using M j i x b)
     have n:∀x∈s.map (·.2),x.cells.length=P.cellsOf e:=λx hx=>by
      obtain⟨p,hp,rfl⟩:=Qbg.1 hx;exact(c7 p hp).2
     refine⟨.slice (some ⟨W.heap.size,0,none⟩) len len,W.alloc (.cells w e),?_,.alloc _ _,?_⟩
     ·simp only[Instr.buildSlice,Qca,kz3 hu,Qcb,C,Sem.run_ite,K,Z,if_false,Sem.run_pure,U];have h3:Instr.fill (λi=>some (i * P.cellsOf e,P.cellsOf e)) (Array.map (λx=>m.cells[x % m.cells.size]!) (Array.range (len * P.cellsOf e))) d.toList=some w:=e1;simp[h3,newRow]
     ·have hlen:(s.map (·.2)).length=len:=by simp[N]
      have h2:=(Grow.alloc W (.cells w e)).step (g:=g) (H:=H);rw[<-hlen];refine .sl _ _ true W.heap.size 0 _ (λj t=>w.getD (j * P.cellsOf e+t) undef) (λhn =>?_) c3 (Qbw _) (λ_=>rfl) (λj x b=>n x (Qax b)) (λj x t v b y =>?_) (λj x t v b y=>L.2.1 _ _ (zth _ n j t x v b y)) (λj x t v b y =>?_)
      ·have⟨l,i,o,ho,hb⟩:=hn;have:=hG.lt l i o ho;omega
      ·have:=zth _ n j t x v b y;have E:=(Qaa.1 this).1;rw[Nat.zero_add];rw[World.cell?_alloc_new];rw[Qas (by rw[L.1];exact E)];simp[Qae,Qas (show j * P.cellsOf e+t<w.size by rw[L.1];exact E)]
      ·exact(L.2.2 _ _ (zth _ n j t x v b y)).mono h2
   ·cases h
  ·cases h
 ·cases h
end
section
variable {W:World}{g:Gh}{H:Heap}{P:Program}
def y1w(z:Array Value)(n j t sz:Nat)(b:z.size=sz)(d:t<sz)(h:j<n):(madeCells z (n * sz)).getD (j * sz+t) undef=z.getD t undef:=by
 have a:j * sz+t<n * sz:=by
  have:(j+1) * sz<=n * sz:=Qau _ h;rw[Nat.succ_mul]at this;omega
 have e:(j * sz+t) % z.size=t:=by rw[b,Nat.mul_comm,Nat.mul_add_mod,Nat.mod_eq_of_lt d]
 simp only[madeCells,Qae,Array.getElem?_map];rw[show(Array.range (n * sz))[j * sz+t]? = some (j * sz+t) by simp[a]];simp only[Qbr,Option.getD_some,e];rw[getElem!_pos z t (by omega),Qas (by omega)];rfl
def zl0(P:Program)(t:Nat)(n c:V):Option V :=
 match n,c with
 |.int _ (.ofNat n),.int _ (.ofNat c)=>match P.underlying t with
  |some (.slice e)=>match P.info? e,zeroV P e with
   |some i,some z=>match z.kzl&&Nat.beq z.cells.length i.size&&Nat.blt 0 i.size&&Nat.ble n c&&Nat.ble c 1000000&&Nat.ble i.bytes 100000 with
    |true=>some (.sl i.size (List.replicate n z) (Nat.beq n c))
    |false=>none
   |_,_=>none
  |_=>none
 |_,_=>none
def ypn(hG:Good W g H){t:Nat}{n c v:V}{O Q:Value}(h:zl0 P t n c=some v)(B:Rel W g H n O)(I:Rel W g H c Q):Yields P W g H (Instr.makeSlice t O Q) v:=by
 unfold zl0 at h;split at h
 ·rename_i k1 n Z c;split at h
  ·rename_i e ht;split at h
   ·rename_i i z M J;split at h
    ·rename_i N;simp only[Qag]at N;have⟨⟨⟨⟨⟨c1,w⟩,R⟩,E⟩,D⟩,C⟩:=N;have w:=Qaj w;rw[Nat.blt_eq]at R;have E:=Nat.le_of_ble_eq_true E;have D:=Nat.le_of_ble_eq_true D;have C:=Nat.le_of_ble_eq_true C;cases h;cases B;cases I
     obtain⟨d,G,F⟩:∃d,i.zero=some d∧Rel W g H z d:=by
      simp only[zeroV,M,Option.bind_some,Qaf]at J;obtain⟨d,Y,rfl⟩:=J;exact⟨d,Y,zph d⟩
     have⟨X,U,T⟩:=zgl c1 F;have hb:i.bytes * c<=100000 * 1000000:=Nat.mul_le_mul C D;have q:=run_make (P:=P) W t e i d ht M G k1 Z (Int.ofNat n) (Int.ofNat c) (Int.natCast_nonneg n) (by show((n:Nat):Int)<=(c:Nat);omega) (by show((i.bytes:Nat):Int) * ((c:Nat):Int)<=_;rw[<-Int.natCast_mul];omega) (by show((c:Nat):Int)<=_;omega);simp only[Int.toNat,Int.ofNat_eq_natCast]at q
     have A:=Grow.alloc W (.cells (madeCells d.cells (c * i.size)) e);refine⟨.slice (some ⟨W.heap.size,0,none⟩) n c,_,by rw[show Int.ofNat n=((n:Nat):Int)from rfl,show Int.ofNat c=((c:Nat):Int)from rfl,q],A,?_⟩
     have s:∀(j:Nat) (x:V) (a:Nat) (u:V),(List.replicate n z)[j]? = some x->x.cells[a]? = some u->x=z∧j<n∧a<i.size:=λj x a u b m=>by
      rw[Qbo]at b;split at b
      ·rename_i p;cases b;exact⟨rfl,p,by rw[<-w];exact(Qaa.1 m).1⟩
      ·cases b
     have K:=Rel.sl (W:=W.alloc (.cells (madeCells d.cells (c * i.size)) e)) (g:=g) (H:=H) i.size (List.replicate n z) (Nat.beq n c) W.heap.size 0 c (λj a=>d.cells.getD a undef) (λB=>by
      have⟨l,k,o,ho,hb⟩:=B;have:=hG.lt l k o ho
      omega) R (by simpa using E) (λhf=>by rw[List.length_replicate];exact(Qaj hf).symm) (λj x b=>by
      rw[Qbo]at b;split at b
      ·cases b;exact w
      ·cases b) (λj x a u b m=>by
      obtain⟨rfl,p,r⟩:=s j x a u b m;rw[Nat.zero_add,World.cell?_alloc_new]
      have y:j * i.size+a<c * i.size:=by
       have:(j+1) * i.size<=c * i.size:=Qau _ (by omega);rw[Nat.succ_mul]at this;omega
      have L:=y1w d.cells c j a i.size (by rw[X,w]) r (by omega);rw[Qae,Qas (by rw[size_madeCells];exact y)]at L;rw[Qas (by rw[size_madeCells];exact y)]
      simpa using L) (λj x a u b m=>by
      obtain⟨rfl,p,r⟩:=s j x a u b m
      exact U a u m) (λj x a u b m=>by
      obtain⟨rfl,p,r⟩:=s j x a u b m
      exact(T a u m).mono A.step)
     rw[List.length_replicate]at K;exact K
    ·cases h
   ·cases h
  ·cases h
 ·cases h
end
section
variable {W:World}{g:Gh}{H:Heap}{P:Program}
def zcx(P:Program)(H:Heap)(ρ:Operand->V)(c:Call):Option V :=
 match c.callee with
 |.builtin .len=>match c.args.toList,c.argTypes.toList with
  |[x],[t]=>zrn P H t (ρ x)
  |_,_=>none
 |.builtin .min=>zv6 false (c.args.toList.map ρ)
 |.builtin .max=>zv6 true (c.args.toList.map ρ)
 |_=>none
def pv(P:Program)(H:Heap)(ρ:Operand->V):Op->Option V
 |.move x=>some (ρ x)
 |.assign x=>some (ρ x)
 |.pick c a b=>match ρ c with
  |.bool t=>some (if t then ρ a else ρ b)
  |_=>none
 |.load t a=>ze4 P H t (ρ a)
 |.nilCheck x=>y6u (ρ x)
 |.binOp op t x y _=>y64 P op t (ρ x) (ρ y)
 |.unOp op _ x=>pUn op (ρ x)
 |.convert s d x=>zwp P s d (ρ x)
 |.makeInterface t x=>zjg P t (ρ x)
 |.makeFunc (.func f) first e=>some (.fn f (first.toList.map ρ) (e.toList.map ρ))
 |.slice t x l m j=>zjb P H t (ρ x) (l.map ρ) (m.map ρ) (j.map ρ)
 |.fieldAddr s x f=>zbv P s f (ρ x)
 |.field s x f=>yfk P s f (ρ x)
 |.indexAddr t x i=>kzs P H t (ρ x) (ρ i)
 |.index t x i=>y7f P t (ρ x) (ρ i)
 |.lookup t x k ok=>zv2 P H t (ρ x) (ρ k) ok
 |.typeAssert x _ u ok=>zlx P (ρ x) u ok
 |.extract x i=>y41 i (ρ x)
 |.build t h=>yde P t (partsOf ρ h)
 |.buildSlice t len h=>zg9 P t len (partsOf ρ h)
 |.makeSlice t n c=>zl0 P t (ρ n) (ρ c)
 |.call c=>zcx P H ρ c
 |_=>none
def y5f(P:Program)(W:World)(g:Gh)(H:Heap)(s:Sem Next)(v:V):Prop:=∃c W',s.run P W = .ok (.value c) W'∧Grow W W'∧Rel W' g H v c
def Yields.op{s:Sem Value}{v:V}(h:Yields P W g H s v):y5f P W g H (do pure (.value (<-s))) v:=by
 have⟨c,W',d,b,a⟩:=h;exact⟨c,W',by simp[d],b,a⟩
def ztn{ρ:Operand->V}{r:Operand->Value}(e:∀x,Rel W g H (ρ x) (r x))(a:Array (Nat×Operand)) :
  (a.map λp=>(p.1,r p.2)).size=(partsOf ρ a).length∧∀(j i:Nat) (x:V),(partsOf ρ a)[j]? = some (i,x)->∃c,(a.map λp=>(p.1,r p.2))[j]? = some (i,c)∧Rel W g H x c:=by
 refine⟨by simp[partsOf],λj i x d =>?_⟩;simp only[partsOf,Qan,Qaf,Qbh]at d;have⟨p,h,b⟩:=d;injection b with l k;exact⟨r p.2,by simp[h,l],by rw[<-k];exact e _⟩
def zws{ρ:Operand->V}{r:Operand->Value}(b:∀x,Rel W g H (ρ x) (r x))(xs:Array Operand):zlt W g H (xs.toList.map ρ) (xs.map r):=by
 refine⟨by simp,λj v a =>?_⟩;simp only[Qan,Qaf,Qbh]at a;obtain⟨x,d,rfl⟩:=a;have:(xs.map r).getD j undef=r x:=by simp[Qae,d]
 rw[this];exact b x
def z0w{α:Type}{a:Array α}{l:List α}(h:a.toList=l):a=l.toArray:=by rw[<-h]
def y4k{ρ:Operand->V}{r:Operand->Value}{o:Oper}{v:V}(w:Good W g H)(j:∀x,Rel W g H (ρ x) (r x))(h:pv P H ρ o.op=some v):y5f P W g H (execOp r o) v:=by
 unfold pv at h;unfold execOp;split at h
 ·rename_i x e;rw[e];cases h;exact⟨r x,W,rfl,.refl W,j x⟩
 ·rename_i x e;rw[e];cases h;exact⟨r x,W,rfl,.refl W,j x⟩
 ·rename_i c a b e;rw[e];split at h
  ·rename_i t C;cases h;have m:=j c;rw[C]at m;generalize B:r c=J at m;cases m;cases t
   ·exact⟨r b,W,by simp[asBool,B],.refl W,j b⟩
   ·exact⟨r a,W,by simp[asBool,B],.refl W,j a⟩
  ·cases h
 ·rename_i t a e;rw[e];exact(ysh w h (j a)).op
 ·rename_i x e;rw[e];have m:=j x;generalize K:ρ x=u at h m;generalize C:r x=c at m;cases u <;> simp only[y6u,Qbu,reduceCtorEq]at h
  all_goals
   subst h;refine⟨c,W,?_,.refl W,m⟩;cases m;simp only[C];rfl
 ·rename_i op t x y ty e;rw[e];exact(ywm x y h (j x) (j y)).op
 ·rename_i op t x e;rw[e];exact(z03d h (j x)).op
 ·rename_i s d x e;rw[e];exact(yhb h (j x)).op
 ·rename_i t x e;rw[e];exact(y0j h (j x)).op
 ·rename_i f first q e;rw[e];cases h
  have m:=zws j first;have p:=zws j q;exact⟨.func (.func f) (first.map r) (q.map r),W,by simp[Instr.makeFunc],.refl W,.fn _ _ _ _ _ m.1 p.1 m.2 p.2⟩
 ·rename_i t x E G D e;rw[e];exact(yrs w h (j x) (yau j E) (yau j G) (yau j D)).op
 ·rename_i s x f e;rw[e];exact(y95 h (j x)).op
 ·rename_i s x f e;rw[e];exact(yow h (j x)).op
 ·rename_i t x i e;rw[e];exact(y92 h (j x) (j i)).op
 ·rename_i t x i e;rw[e];exact(yq1 h (j x) (j i)).op
 ·rename_i t x k ok e;rw[e];exact(yn5 w h (j x) (j k)).op
 ·rename_i x t u ok e;rw[e];exact(y62 h (j x)).op
 ·rename_i x i e;rw[e];exact(yjd h (j x)).op
 ·rename_i t z e;rw[e];exact(yrf h (ztn j z).1 (ztn j z).2).op
 ·rename_i t len z e;rw[e];exact(y6s w h (ztn j z).1 (ztn j z).2).op
 ·rename_i t n c e;rw[e];exact(ypn w h (j n) (j c)).op
 ·rename_i c e;rw[e];unfold zcx at h;have l:=zws j c.args;have⟨callee,args,argTypes⟩:=c;simp only at h l ⊢;split at h
  ·split at h
   ·rename_i x t I F;obtain rfl:=z0w I;obtain rfl:=z0w F;have⟨c,W',m,p,A⟩:=ywj (ty:=o.type) w h (j x);refine⟨c,W',?_,p,A⟩;simp[resolve,invoke,builtin,m]
   ·cases h
  ·have⟨c,W',m,p,A⟩:=yw4 (P:=P) (t:=argTypes) (ty:=o.type) h l.1 l.2;exact⟨c,W',by simp[resolve,invoke,builtin,m],p,A⟩
  ·have⟨c,W',m,p,A⟩:=yx1 (P:=P) (t:=argTypes) (ty:=o.type) h l.1 l.2;exact⟨c,W',by simp[resolve,invoke,builtin,m],p,A⟩
  ·cases h
 ·cases h
end
section
variable {W:World}{g:Gh}{H:Heap}{P:Program}
def Heap.push(H:Heap)(o:yz5):Heap:={H with L:=H.L++[some o]}
def Heap.set(H:Heap)(l i:Nat)(o:yz5):Heap:=if l=H.lv then {H with L:=H.L.set i (some o)}else {H with E:=λa b=>if a=l∧b=i then some o else H.E a b}
def Heap.z9q(o:yz5)(l i:Nat):(H.push o).get l i=if l=H.lv∧i=H.L.length then some o else H.get l i:=by
 unfold Heap.get Heap.push;dsimp only;by_cases a:l=H.lv
 ·by_cases b:i=H.L.length
  ·simp[a,b]
  ·simp only[a,if_true,b,and_false,if_false];by_cases d:i<H.L.length
   ·rw[Qal d]
   ·rw[Qcf (show(H.L++[some o]).length<=i by simp;omega),Qcf (show H.L.length<=i by omega)]
 ·simp[a]
def Heap.yky(o:yz5)(l i:Nat):(H.set l i o).lv=H.lv:=by unfold Heap.set;split <;> rfl
def Heap.yvf(o:yz5)(l i:Nat):(H.set l i o).L.length=H.L.length:=by unfold Heap.set;split <;> simp
def Heap.y01{o o':yz5}{l i:Nat}(h:H.get l i=some o)(a e:Nat):(H.set l i o').get a e=if a=l∧e=i then some o' else H.get a e:=by
 unfold Heap.set;by_cases b:l=H.lv
 ·have k:i<H.L.length:=by
   unfold Heap.get at h;rw[Qbx b]at h
   rcases Nat.lt_or_ge i H.L.length with q|q
   ·exact q
   ·simp[Qcf q]at h
  rw[Qbx b];subst b;unfold Heap.get;dsimp only;by_cases d:a=H.lv
  ·subst d;simp only[if_true,true_and];rw[Qbi];by_cases j:i=e
   ·subst j;simp[k]
   ·rw[Qby j,Qby (λq=>j q.symm)]
  ·simp[d]
 ·rw[Qby b];unfold Heap.get;dsimp only;by_cases d:a=H.lv
  ·subst d;simp only[if_true];rw[Qby (λq=>b q.1.symm)]
  ·simp[d]
def Gh.add(g:Gh)(l i b c:Nat):Gh where
 dom a d:=g.dom a d∨(a=l∧d=i)
 blk a d:=if a=l∧d=i then b else g.blk a d
 ab a d:=if a=l∧d=i then b else g.ab a d
 cap a d:=if a=l∧d=i then c else g.cap a d
def yz5.zi0{o:yz5}{l i a d b c:Nat}(h:¬(a=l∧d=i)):o.blk (g.add l i b c) a d=o.blk g a d:=by
 cases o <;> simp[yz5.blk,Gh.add,h]
def yz5.zbu{o:yz5}{l i b c:Nat}:o.blk (g.add l i b c) l i=b:=by
 cases o <;> simp[yz5.blk,Gh.add]
def z9v(P:Program)(W:World)(g:Gh)(H:Heap)(s:Sem Next)(v:V)(H':Heap):Prop :=
 ∃c W' g',(s.run P W = .ok (.value c) W'∨(s.run P W = .ok .skip W'∧c=undef))∧Step W g H W' g' H'∧Good W' g' H'∧Rel W' g' H' v c
def y5f.turns{s:Sem Next}{v:V}(b:Good W g H)(h:y5f P W g H s v):z9v P W g H s v H:=by
 have⟨c,W',e,a,d⟩:=h;exact⟨c,W',g,.inl e,a.step,b.grow a,d⟩
def zit(m:Good W g H){O:Obj}{o:yz5}(c:Nat)
  (B:∀(W':World) (g':Gh) (H':Heap),W'=W.alloc O->g'=g.add H.lv H.L.length W.heap.size c->H'=H.push o->Step W g H W' g' H'->zif W' g' H' H.lv H.L.length o) :
  Step W g H (W.alloc O) (g.add H.lv H.L.length W.heap.size c) (H.push o)∧Good (W.alloc O) (g.add H.lv H.L.length W.heap.size c) (H.push o):=by
 have u:¬g.dom H.lv H.L.length:=λh=>by rcases m.fresh _ _ h with h|⟨_,h⟩ <;> omega
 have n:∀l i,g.dom l i->¬(l=H.lv∧i=H.L.length):=λl i h q=>u (by rw[<-q.1,<-q.2];exact h)
 have p:=Grow.alloc W O
 have e:Step W g H (W.alloc O) (g.add H.lv H.L.length W.heap.size c) (H.push o):=by
  refine⟨rfl,rfl,rfl,p.size,λb r _=>p.block b r,λb r =>?_,λl i h=>.inl h,λl i h=>h.elim .inl (λq=>.inr q.1),λl i h=>by simp[Gh.add,n l i h],λl i y ty sz xs C w z =>?_,rfl⟩
  ·have⟨l,i,q,a,s⟩:=r;rw[Heap.z9q]at a;split at a
   ·rename_i d;cases a;obtain⟨rfl,rfl⟩:=d;rw[yz5.zbu]at s;right;omega
   ·rename_i d;rw[yz5.zi0 d]at s;exact .inl ⟨l,i,q,a,s⟩
  ·rw[Heap.z9q,Qby (n l i w)]at z;exact⟨y,xs,C,z,Qbw _,λ_=>⟨by simp[Gh.add,n l i w],by simp[Gh.add,n l i w],Qbw _⟩⟩
 refine⟨e,?_,?_,?_,?_,?_,m.y3r.step e⟩
 ·intro l i q a;rw[Heap.z9q]at a;split at a
  ·rename_i d;exact .inr d
  ·exact .inl (m.dom l i q a)
 ·intro l i q a;rw[Heap.z9q]at a;split at a
  ·rename_i d;obtain⟨rfl,rfl⟩:=d;rw[yz5.zbu];simp
  ·rename_i d;rw[yz5.zi0 d];exact Qbj (m.lt l i q a) p.size
 ·intro l i q F G E a k r;rw[Heap.z9q]at a k;split at a
  ·rename_i d;obtain⟨rfl,rfl⟩:=d;split at k
   ·rename_i j;exact⟨j.1.symm,j.2.symm⟩
   ·rename_i j;rw[yz5.zbu,yz5.zi0 j]at r;have:=m.lt _ _ _ k;omega
  ·rename_i d;split at k
   ·rename_i j;obtain⟨rfl,rfl⟩:=j;rw[yz5.zi0 d,yz5.zbu]at r;have:=m.lt _ _ _ a;omega
   ·rename_i j;rw[yz5.zi0 d,yz5.zi0 j]at r;exact m.inj _ _ _ _ _ _ a k r
 ·intro l i h;show l<H.lv∨(l=H.lv∧i<(H.L++[some o]).length)
  rcases h with h|⟨x,I⟩
  ·rcases m.fresh l i h with q|⟨A,D⟩
   ·exact .inl q
   ·exact .inr ⟨A,by simp;omega⟩
  ·exact .inr ⟨x,by simp;omega⟩
 ·intro l i q a;rw[Heap.z9q]at a;split at a
  ·rename_i d;obtain⟨rfl,rfl⟩:=d;cases a;exact B _ _ _ rfl rfl rfl e
  ·rename_i d;have x:=m.obj l i q a;exact x.mono e (p.block _ (m.lt l i q a)) (by simp[Gh.add,d]) (by simp[Gh.add,d]) (by simp[Gh.add,d])
def zjs(p:Good W g H){l i:Nat}{o o':yz5}(w:H.get l i=some o)(K:o'.blk g l i=o.blk g l i){W':World}
  (M:W'.os=W.os) (B:W'.tape=W.tape) (G:W'.output=W.output) (k:W.heap.size<=W'.heap.size) (m:∀b,b<W.heap.size->b≠o.blk g l i->W'.heap[b]? = W.heap[b]?)
  (I:∀r ty sz xs L,o' = .arr r ty sz xs L->∃v J A,o = .arr v ty sz J A∧v<=r∧(v=r->J.length<=xs.length))
  (F:Step W g H W' g (H.set l i o')->zif W' g (H.set l i o') l i o') :
  Step W g H W' g (H.set l i o')∧Good W' g (H.set l i o'):=by
 have d:=Heap.y01 (o':=o') w
 have j:Step W g H W' g (H.set l i o'):=by
  refine⟨M,B,G,k,λb z y=>m b z (λq=>y ⟨l,i,o,w,q.symm⟩),λb O =>?_,λ_ _ h=>h,λ_ _ h=>.inl h,λ_ _ _=>rfl,λs u r ty sz xs L hd C =>?_,Heap.yky _ _ _⟩
  ·have⟨s,u,q,a,E⟩:=O;rw[d]at a;split at a
   ·rename_i n;obtain⟨rfl,rfl⟩:=n;cases a;exact .inl ⟨s,u,o,w,by rw[<-K];exact E⟩
   ·exact .inl ⟨s,u,q,a,E⟩
  ·rw[d]at C;split at C
   ·rename_i n;obtain⟨rfl,rfl⟩:=n;injection C with C;obtain⟨v,J,A,rfl,N,Q⟩:=I _ _ _ _ _ C;exact⟨v,J,A,w,N,λe=>⟨rfl,rfl,Q e⟩⟩
   ·exact⟨r,xs,L,C,Qbw _,λ_=>⟨rfl,rfl,Qbw _⟩⟩
 refine⟨j,?_,?_,?_,?_,?_,p.y3r.step j⟩
 ·intro s u q a;rw[d]at a;split at a
  ·rename_i n;obtain⟨rfl,rfl⟩:=n;exact p.dom _ _ _ w
  ·exact p.dom _ _ _ a
 ·intro s u q a;rw[d]at a;split at a
  ·rename_i n;obtain⟨rfl,rfl⟩:=n;cases a;rw[K];exact Qbj (p.lt _ _ _ w) k
  ·exact Qbj (p.lt _ _ _ a) k
 ·intro X Z T U Y R z y D;rw[d]at z y;split at z
  ·rename_i n;obtain⟨rfl,rfl⟩:=n;cases z;rw[K]at D;split at y
   ·rename_i x;exact⟨x.1.symm,x.2.symm⟩
   ·exact p.inj _ _ _ _ _ _ w y D
  ·split at y
   ·rename_i x;obtain⟨rfl,rfl⟩:=x;cases y;rw[K]at D;exact p.inj _ _ _ _ _ _ z w D
   ·exact p.inj _ _ _ _ _ _ z y D
 ·intro s u h;rw[Heap.yky,Heap.yvf];exact p.fresh s u h
 ·intro s u q a;rw[d]at a;split at a
  ·rename_i n;obtain⟨rfl,rfl⟩:=n;cases a;exact F j
  ·rename_i n;refine(p.obj s u q a).mono j (m _ (p.lt _ _ _ a) λe =>?_) rfl rfl rfl;exact n (p.inj _ _ _ _ _ _ a w e)
def ye6{W':World}{g':Gh}{H':Heap}{l i:Nat}{cs:List V}{c:Array Value}{ty:TypeId}(h:W'.heap[g'.blk l i]? = some (.cells c ty (0,0)))(a:zy3 W' g' H' cs c):zif W' g' H' l i (.cells cs) :=
 ⟨c,ty,h,a.1,a.2.1,a.2.2⟩
def zy3.mono{vs:List V}{cs:Array Value}(h:zy3 W g H vs cs){W':World}{g':Gh}{H':Heap}(s:Step W g H W' g' H'):zy3 W' g' H' vs cs:=⟨h.1,h.2.1,λj v a=>(h.2.2 j v a).mono s⟩
def z2h(W:World)(O:Obj):(W.alloc O).heap[W.heap.size]? = some O:=by
 show(W.heap.push O)[W.heap.size]? = _;simp
def y4t(i:Good W g H){t:Nat}{cs:List V}{c:Value}{s:Sem Next}(d:zy3 W g H cs c.cells)
  (b:s.run P W = .ok (.value (.pointer (some ⟨W.heap.size,0,none⟩))) (W.alloc (.cells c.cells t))):z9v P W g H s (.ptr H.lv H.L.length 0) (H.push (.cells cs)):=by
 have⟨k,j⟩:=zit i (O:=.cells c.cells t) (o:=.cells cs) 0 (λW' g' H' h e l a=>by
  refine ye6 (c:=c.cells) (ty:=t) ?_ (d.mono a);rw[h,e];simp only[Gh.add,and_self,if_true]
  exact z2h _ _)
 refine⟨_,_,_,.inl b,k,j,?_⟩;have:=Rel.ptr (W:=W.alloc (.cells c.cells t)) (g:=g.add H.lv H.L.length W.heap.size 0) (H:=H.push (.cells cs)) H.lv H.L.length 0 (.inr ⟨rfl,rfl⟩);simpa[Gh.add]using this
def ycs(P:Program)(H:Heap)(t:Nat):Option (V×Heap) :=
 match zeroV P t with
 |some z=>if z.kzl then some (.ptr H.lv H.L.length 0,H.push (.cells z.cells))else none
 |none=>none
def ypt(j:Good W g H){t:Nat}{v:V}{H':Heap}(h:ycs P H t=some (v,H')):z9v P W g H (do pure (.value (<-Instr.alloc t true (.tuple #[])))) v H':=by
 unfold ycs at h;split at h
 ·rename_i z e;split at h
  ·rename_i i;cases h;have⟨d,b,a⟩:=zta (W:=W) (g:=g) (H:=H) e;exact y4t j (t:=t) (c:=d) (zgl i a) (by simp[Instr.alloc,b,newVar,newRow])
  ·cases h
 ·cases h
def hBox(H:Heap)(x:V):Option (V×Heap):=if x.kzl then some (.ptr H.lv H.L.length 0,H.push (.cells x.cells))else none
def yyh(d:Good W g H){t:Nat}{x v:V}{c:Value}{H':Heap}(h:hBox H x=some (v,H'))(a:Rel W g H x c):z9v P W g H (do pure (.value (<-Instr.box t c))) v H':=by
 unfold hBox at h;split at h
 ·rename_i b;cases h;exact y4t d (t:=t) (c:=c) (zgl b a) (by simp[Instr.box,newVar,newRow])
 ·cases h
def zpi(W:World)(b:Nat)(cs:Array Value):(W.setRow b cs).os=W.os∧(W.setRow b cs).tape=W.tape∧(W.setRow b cs).output=W.output∧W.heap.size<=(W.setRow b cs).heap.size:=⟨rfl,rfl,rfl,by simp[World.setRow]⟩
def znx(d:Array Value)(o:Nat)(vs:Array Value)(h:o+vs.size<=d.size):(d.toList.take o++vs.toList++d.toList.drop (o+vs.toList.length)).toArray=putCells d o vs:=by
 have⟨j,e⟩:=zk2 d o vs;apply Array.ext_getElem?;intro i;rw[e i];simp only[List.getElem?_toArray];by_cases a:i<o
 ·rw[Qby (by omega),Qaz,Qal (by simp;omega),Qaw,Qbx a,Qbh]
 ·by_cases b:i<o+vs.size
  ·rw[Qbx ⟨by omega,b,by omega⟩,Qaz,Qav (by simp;omega),Qal (by simp;omega),Qbh]
   congr 1;simp;omega
  ·rw[Qby (by omega),Qav (by simp;omega),Qbf,Qbh]
   congr 1;simp;omega
def zb6(x:V)(cs:List V):V:=match x with
 |.agg _=>.agg cs
 |x=>cs.headD x
def fits(y:V)(cs:List V):Bool:=match y with| .agg _=>true|_=>match cs with|[c]=>c.leaf|_=>false
def yv9{x:V}{cs:List V}(h:fits x cs=true):(zb6 x cs).cells=cs:=by
 cases x <;> first
  |rfl
  |(match cs,h with
    |[],h=>simp[fits]at h
    |[c],h=>cases c <;> first|rfl|(simp[fits,V.leaf]at h;done)
    |_::_::_,h=>simp[fits]at h)
def zh5(P:Program)(H:Heap)(t:Nat)(a x:V):Option (V×Heap) :=
 if x.kzl&&(P.info? t).isSome&&x.cells.length==P.cellsOf t then
  match a with
  |.ptr l i b=>match H.get l i with
   |some (.cells cs)=>if b+x.cells.length<=cs.length then some (.any,H.set l i (.cells (z02 cs b x.cells)))else none
   |_=>none
  |.ap l i d e b=>match H.get l i with
   |some (.arr h ty sz xs j)=>if h=d then match xs[e]? with
    |some y=>if b+x.cells.length<=y.cells.length∧fits y (z02 y.cells b x.cells)=true then
      some (.any,H.set l i (.arr d ty sz (xs.set e (zb6 y (z02 y.cells b x.cells))) j))else none
    |none=>none else none
   |_=>none
  |_=>none
 else none
def y8m{t:Nat}{b o:Nat}{a:Array Value}{ty:TypeId}{c:Value}(e:(P.info? t).isSome=true)(j:c.cells.size=P.cellsOf t)(l:∀v∈c.cells.toList,v.oneCell'=true)(k:W.heap[b]? = some (.cells a ty (0,0)))(d:o+c.cells.size<=a.size) :
  (Instr.storeAt t (.pointer (some ⟨b,o,none⟩)) c).run P W = .ok () (W.setRow b (putCells a o c.cells)):=by
 have⟨i,e⟩:=Option.isSome_iff_exists.1 e;have h:(sizeOf t).run P W = .ok (P.cellsOf t) W:=by simp[sizeOf,typeInfo,e,Program.cellsOf]
 have:=run_storeCells_at P b o ty c.cells.toList 0 a W k (by simpa using d) l;simp only[Nat.add_zero]at this;rw[znx a o c.cells d]at this;simp[Instr.storeAt,Instr.sureAddr,storeVar,h,j,this]
def zy3.one{vs:List V}{cs:Array Value}(h:zy3 W g H vs cs):∀v∈cs.toList,v.oneCell'=true:=λv b=>by
 obtain⟨j,d,rfl⟩:=List.getElem_of_mem b;have a:j<cs.size:=by simpa using d
 have:=h.2.1 j (vs[j]'(by rw[<-h.1];exact a)) (Qab _);simpa[Qae,a]using this
def yqj(T:Good W g H){t:Nat}{a x v:V}{ca c:Value}{H':Heap}(h:zh5 P H t a x=some (v,H'))(ha:Rel W g H a ca)(hx:Rel W g H x c):z9v P W g H (do Instr.storeAt t ca c;pure .skip) v H':=by
 unfold zh5 at h;split at h
 ·rename_i hc;simp only[Qag,Qbm]at hc;have⟨⟨hs,hi⟩,hn⟩:=hc;have k:=zgl hs hx;split at h
  ·rename_i l i e;split at h
   ·rename_i cs J;split at h
    ·rename_i r;cases h
     cases ha with
     |ptr _ _ _ hd=>
      have⟨m,ty,L,R,Q,k4⟩:=T.obj _ _ _ J;have s:=y8m (P:=P) (t:=t) (o:=e) hi (by rw[k.1,hn]) k.one L (by rw[k.1,R];exact r);have⟨Z,Y,X,U⟩:=zpi W (g.blk l i) (putCells m e c.cells)
      have⟨q1,q2⟩:=zjs T (o':=.cells (z02 cs e x.cells)) J rfl Z Y X U (λb _ hb=>setRow_other W _ b _ hb) (λ_ _ _ _ _ h=>by cases h) (λD=>by
       refine ye6 (setRow_heap W _ m _ ty _ L) ?_
       exact(y7w ⟨R,Q,k4⟩ k r).mono D)
      exact⟨undef,_,g,.inr ⟨by simp[s],rfl⟩,q1,q2,.any _⟩
    ·cases h
   ·cases h
  ·rename_i l i h4 d e;split at h
   ·rename_i B ty sz xs cp J;split at h
    ·rename_i hv;subst hv;split at h
     ·rename_i y I;split at h
      ·rename_i G;have⟨r,F⟩:=G;cases h
       cases ha with
       |ap _ _ _ _ _ ad hd hv h2=>
        obtain rfl:=h2 _ _ _ _ J;have⟨m,L,R,Q,h1,k4,k5,k6,k7,k8⟩:=T.obj _ _ _ J;have E:=k6 _ _ I;have C:=(Qaa.1 I).1
        have h3:d * sz+sz<=m.size:=by
         rw[Q]
         calc d * sz+sz=(d+1) * sz:=by rw[Nat.succ_mul]
          _<=_:=Qau _ (by omega)
        have s:=y8m (P:=P) (t:=t) (o:=d * sz+e) hi (by rw[k.1,hn]) k.one L (by rw[k.1];omega);have⟨Z,Y,X,U⟩:=zpi W (g.ab l i) (putCells m (d * sz+e) c.cells);have⟨p1,p2⟩:=zk2 m (d * sz+e) c.cells;have N:=yv9 F
        have⟨q1,q2⟩:=zjs T (o':=.arr B ty sz (xs.set d (zb6 y (z02 y.cells e x.cells))) cp) J rfl Z Y X U (λb _ hb=>setRow_other W _ b _ hb)
         (λ_ _ _ _ _ h=>by cases h;exact⟨B,xs,cp,rfl,Qbw _,by simp⟩) (λD=>by
         have M:∀(j:Nat) (z:V) (p:Nat) (u:V),(xs.set d (zb6 y (z02 y.cells e x.cells)))[j]? = some z->z.cells[p]? = some u ->
           ((putCells m (d * sz+e) c.cells).getD (j * sz+p) undef).oneCell'=true∧Rel W g H u ((putCells m (d * sz+e) c.cells).getD (j * sz+p) undef):=λj z p u n w=>by
          rw[Qae,p2];rw[Qbi]at n;split at n
          ·rename_i A;subst A
           try rw[Qbx C]at n
           cases n;rw[N]at w
           rcases yds r w with ⟨a1,K⟩|⟨a1,K,a3⟩|⟨a1,K⟩
           ·rw[Qby (by omega),<-Qae];exact⟨k7 _ _ _ _ I K,k8 _ _ _ _ I K⟩
           ·rw[Qbx ⟨by omega,by rw[k.1];omega,by omega⟩,show d * sz+p-(d * sz+e)=p-e by omega,<-Qae];exact⟨k.2.1 _ _ a3,k.2.2 _ _ a3⟩
           ·rw[Qby (by rw[k.1];omega),<-Qae];exact⟨k7 _ _ _ _ I K,k8 _ _ _ _ I K⟩
          ·rename_i A;have h5:=k6 _ _ n;have h6:=(Qaa.1 w).1
           have O:¬(d * sz+e<=j * sz+p∧j * sz+p<d * sz+e+c.cells.size∧j * sz+p<m.size):=by
            rw[k.1];intro hh
            rcases Nat.lt_or_ge j d with q|q
            ·have:(j+1) * sz<=d * sz:=Qau _ q;rw[Nat.succ_mul]at this;omega
            ·have:(d+1) * sz<=j * sz:=Qau _ (by omega);rw[Nat.succ_mul]at this;omega
           rw[Qby O,<-Qae];exact⟨k7 _ _ _ _ n w,k8 _ _ _ _ n w⟩
         refine⟨_,setRow_heap W _ m _ ty _ L,R,by rw[p1];exact Q,h1,by simpa using k4,k5,λj z n =>?_,λj z p u n w=>(M j z p u n w).1,λj z p u n w=>(M j z p u n w).2.mono D⟩;rw[Qbi]at n;split at n
         ·rename_i A;subst A
          try rw[Qbx C]at n
          cases n;rw[N,zlh r];exact E
         ·exact k6 _ _ n)
        exact⟨undef,_,g,.inr ⟨by simp[s],rfl⟩,q1,q2,.any _⟩
      ·cases h
     ·cases h
    ·cases h
   ·cases h
  ·cases h
 ·cases h
end
section
variable {W:World}{g:Gh}{H:Heap}{P:Program}
def zxc(P:Program)(H:Heap)(t:Nat)(r:Option V):Option (V×Heap) :=
 match r with
 |none=>some (.map H.lv H.L.length,H.push (.map []))
 |some (.int _ _)=>match P.underlying t with
  |some (.map _ _)=>some (.map H.lv H.L.length,H.push (.map []))
  |_=>none
 |_=>none
def y55(e:Good W g H){s:Sem Next}(a:s.run P W = .ok (.value (.map (some W.heap.size))) (W.alloc (.map #[] 0))):z9v P W g H s (.map H.lv H.L.length) (H.push (.map [])):=by
 have⟨i,h⟩:=zit e (O:=.map #[] 0) (o:=.map []) 0 (λW' g' H' d b k j=>by
  refine⟨#[],0,?_,rfl,by simp,by simp,by simp⟩;rw[d,b];simp only[Gh.add,and_self,if_true]
  exact z2h _ _)
 refine⟨_,_,_,.inl a,i,h,?_⟩;have:=Rel.map (W:=W.alloc (.map #[] 0)) (g:=g.add H.lv H.L.length W.heap.size 0) (H:=H.push (.map [])) H.lv H.L.length (.inr ⟨rfl,rfl⟩);simpa[Gh.add]using this
def yh9(b:Good W g H){t:Nat}{r:Option V}{cr:Option Value}{v:V}{H':Heap}(h:zxc P H t r=some (v,H'))(a:zif? W g H r cr):z9v P W g H (do pure (.value (<-Instr.makeMap t cr))) v H':=by
 unfold zxc at h;split at h
 ·cases h;cases a;exact y55 b (by simp[Instr.makeMap])
 ·split at h
  ·rename_i d;cases h
   cases a with
   |some a=>
    cases a;exact y55 b (by simp[Instr.makeMap,kz3 d,asInt,asIntOf])
  ·cases h
 ·cases h
def zxt(es:List (V×V))(k x:V):Option (Nat×V)->List (V×V)
 |none=>es++[(k,x)]
 |some (j,_)=>es.set j (k,x)
def zi2(P:Program)(H:Heap)(t:Nat)(m k x:V):Option (V×Heap) :=
 match P.underlying t with
 |some (.map a _)=>match m with
  |.map l i=>match H.get l i with
   |some (.map es)=>match zyx P a k with
    |some d=>match y8t d k es 0 with
     |some r=>some (.any,H.set l i (.map (zxt es k x r)))
     |none=>none
    |none=>none
   |_=>none
  |_=>none
 |_=>none
def yya{d:TypeDesc}{a b:Value}(h:Instr.sameNow d a b=some true):Instr.sameBits 10000 b a=true:=by
 unfold Instr.sameNow at h;split at h
 ·split at h
  ·rename_i i;subst i;simp only[Qbu,Qbm]at h;subst h;simp[Instr.sameBits]
  ·cases h
 ·simp only[Qbu]at h;rename_i a b;have e:a=b:=(MapKept.bytes_beq a b).1 h;subst e;simp only[Instr.sameBits];exact(MapKept.bytes_beq _ _).2 rfl
 ·simp only[Qbu,Qbm]at h;subst h;simp[Instr.sameBits]
 ·cases h
def zw9(hG:Good W g H){t:Nat}{m k x v:V}{cm z y:Value}{H':Heap}(h:zi2 P H t m k x=some (v,H'))(hm:Rel W g H m cm)(u:Rel W g H k z)(hx:Rel W g H x y) :
  z9v P W g H (do Instr.mapUpdate t cm z y;pure .skip) v H':=by
 unfold zi2 at h;split at h
 ·rename_i kt e hu;split at h
  ·rename_i l i;split at h
   ·rename_i es Z;split at h
    ·rename_i d h5;split at h
     ·rename_i r hf;cases h;cases hm;have⟨O,R⟩:=y4d (P:=P) h5 u;have⟨B,clock,b1,Y,N,b4,X⟩:=hG.obj _ _ _ Z;have h4:g.blk l i<W.heap.size:=hG.lt _ _ _ Z;have Q:=run_getObj_map (P:=P) W _ _ _ b1;have J:=zyq (d:=d) u es B.toList 0 r hf (by simpa using Y) (λj p n=>by simpa using X j p n)
      have T:∀(s:Array MapEntry) (a:Nat),(Instr.mapUpdate t (.map (some (g.blk l i))) z y).run P W = .ok () {W with heap:=W.heap.setIfInBounds (g.blk l i) (.map s a)} ->
        s.size=(zxt es k x r).length->(∀e∈s,e.born<a)->(∀(j k:Nat) (e f:MapEntry),s[j]? = some e->s[k]? = some f->e.born=f.born->j=k) ->
        (∀(W':World) (H':Heap),Step W g H W' g H'->∀(j:Nat) (p:V×V),(zxt es k x r)[j]? = some p->∃e,s[j]? = some e∧Rel W' g H' p.1 e.key∧Rel W' g H' p.2 e.val) ->
        z9v P W g H (do Instr.mapUpdate t (.map (some (g.blk l i))) z y;pure .skip) .any (H.set l i (.map (zxt es k x r))):=by
       intro s a U e1 e2 e3 e4
       have A:∀b,({W with heap:=W.heap.setIfInBounds (g.blk l i) (.map s a)}:World).heap[b]? = if g.blk l i=b then (if g.blk l i<W.heap.size then some (Obj.map s a)else none)else W.heap[b]? := λb=>by
        show(W.heap.setIfInBounds _ _)[b]? = _;rw[Array.getElem?_setIfInBounds]
       have⟨q1,q2⟩:=zjs hG (o':=.map (zxt es k x r)) Z rfl (W':={W with heap:=W.heap.setIfInBounds (g.blk l i) (.map s a)}) rfl rfl rfl (by simp)
        (λb _ hb=>by rw[A,Qby (λq=>hb q.symm)]) (λ_ _ _ _ _ h=>by cases h) (λo=>by
        refine⟨s,a,?_,e1,e2,e3,e4 _ _ o⟩
        rw[A,Qbx rfl,Qbx h4])
       exact⟨undef,_,g,.inr ⟨by simp[U],rfl⟩,q1,q2,.any _⟩
      cases r with
      |none=>
       simp only at J;have K:=MapKept.run_findKey (P:=P) (w:=W) O J;refine T (B.push {key:=z,val:=y,born:=clock}) (clock+1) ?_ (by simp[zxt,Y]) ?_ ?_ ?_
       ·have G:=MapKept.run_setObj_map (P:=P) (w:=W) (.map (B.push {key:=z,val:=y,born:=clock}) (clock+1)) b1;simp[Instr.mapUpdate,kz3 hu,Q,R,K,G]
       ·intro e he
        rcases Array.mem_push.1 he with h|rfl
        ·have:=N e h;omega
        ·exact Nat.lt_succ_self _
       ·intro j k e f n u D;rw[Array.getElem?_push]at n u;split at n
        ·rename_i h8;cases n
         split at u
         ·rename_i h6;omega
         ·have:=N f (Array.mem_of_getElem? u);simp only at D;omega
        ·split at u
         ·rename_i h6;cases u
          have:=N e (Array.mem_of_getElem? n);simp only at D;omega
         ·exact b4 j k e f n u D
       ·intro W' H' o j p n;simp only[zxt]at n;rw[Qbe]at n;split at n
        ·have⟨e,F,h2,h3⟩:=X j p n;refine⟨e,?_,h2.mono o,h3.mono o⟩;rw[Array.getElem?_push,Qby (by omega)];exact F
        ·rename_i h9
         have:j=es.length:=by
          have:=(Qaa.1 n).1;simp at this;omega
         subst this;simp at n;subst n;refine⟨{key:=z,val:=y,born:=clock},?_,u.mono o,hx.mono o⟩
         rw[Array.getElem?_push,Qbx Y.symm]
      |some q=>
       have⟨M,v0⟩:=q;have⟨e0,f1,f2,f3,f4,p0,f5,f6⟩:=J;simp only[Nat.sub_zero]at f4 f5;have K:=MapKept.run_findKey (P:=P) (w:=W) O f1;have C:B[M]? = some e0:=by simpa using f4
       have⟨ha,g1,g2,_⟩:=X M p0 f5
       rw[C]at g1;cases g1
       have L:=yya (y8k f6 u g2);have h7:M<B.size:=(Qbn.1 C).1;refine T (B.modify M λe=>{e with key:=z,val:=y}) clock ?_ (by simp[zxt,Y]) ?_ ?_ ?_
       ·have G:=MapKept.run_setObj_map (P:=P) (w:=W) (.map (B.modify M λe=>{e with key:=z,val:=y}) clock) b1;simp[Instr.mapUpdate,kz3 hu,Q,R,K,C,Instr.keyThatStays,L,G]
       ·intro e he;have⟨j,n⟩:=Array.getElem?_of_mem he;rw[Array.getElem?_modify]at n;split at n
        ·simp only[Qaf]at n;obtain⟨E,F,rfl⟩:=n;exact N E (Array.mem_of_getElem? F)
        ·exact N e (Array.mem_of_getElem? n)
       ·intro j k e f n u D;rw[Array.getElem?_modify]at n u
        have back:∀{j:Nat}{e:MapEntry},(if M=j then Option.map (λe=>({e with key:=z,val:=y}:MapEntry)) B[j]? else B[j]?)=some e->∃E,B[j]? = some E∧E.born=e.born:=λ{j e} n=>by
         split at n
         ·simp only[Qaf]at n;obtain⟨E,F,rfl⟩:=n;exact⟨E,F,rfl⟩
         ·exact⟨e,n,rfl⟩
        have⟨E,i1,i2⟩:=back n;have⟨f',i3,i4⟩:=back u;exact b4 j k E f' i1 i3 (by omega)
       ·intro W' H' o j p n;simp only[zxt]at n;rw[Qbi]at n;rw[Array.getElem?_modify];split at n
        ·rename_i I;subst I;split at n
         ·cases n;exact⟨{e0 with key:=z,val:=y},by rw[Qbx rfl,C];rfl,u.mono o,hx.mono o⟩
         ·cases n
        ·rename_i I;have⟨e,F,h2,h3⟩:=X j p n;exact⟨e,by rw[Qby I];exact F,h2.mono o,h3.mono o⟩
     ·cases h
    ·cases h
   ·cases h
  ·cases h
 ·cases h
end
end Go.Ab
