/-
  PACKAGE-LEVEL VARIABLES OF INTEGERS THAT THE CLAIM KNOWS THE CELLS OF, by their numbers: off the rows' own 'laid'; and those that hold an error.
-/
import Derived.Calls
import Derived.Below
import Derived.Laws.Slices
import Derived.Laws.Strings
import Derived.Laws.Cells
import Derived.WideLaws
import Derived.Laws.StructEq
import Derived.Laws.Build
import Derived.MapKept
import Derived.Laws.Tables
import Derived.Laws.MakeOwn
import Derived.Laws.AppendOwn
import Derived.Laws.CopyRow
set_option linter.defProp false
set_option linter.unusedSimpArgs false
set_option linter.unusedVariables false
namespace Go.Ab
def Qaa:type_of% @List.getElem?_eq_some_iff:=@List.getElem?_eq_some_iff
def Qab:type_of% @List.getElem?_eq_getElem:=@List.getElem?_eq_getElem
def Qac:type_of% @of_decide_eq_true:=@of_decide_eq_true
theorem Qad:type_of% @List.getElem_mem:=@List.getElem_mem
def Qae:type_of% @Array.getD_eq_getD_getElem?:=@Array.getD_eq_getD_getElem?
theorem Qaf:type_of% @Option.map_eq_some_iff:=@Option.map_eq_some_iff
def Qag:type_of% @Bool.and_eq_true:=@Bool.and_eq_true
theorem Qah:type_of% @List.getElem_cons_drop:=@List.getElem_cons_drop
def Qai:type_of% @List.mem_cons_of_mem:=@List.mem_cons_of_mem
theorem Qaj:type_of% @Nat.eq_of_beq_eq_true:=@Nat.eq_of_beq_eq_true
theorem Qak:type_of% @List.mem_cons_self:=@List.mem_cons_self
def Qal:type_of% @List.getElem?_append_left:=@List.getElem?_append_left
def Qam:type_of% @List.getElem?_set_ne:=@List.getElem?_set_ne
def Qan:type_of% @List.getElem?_map:=@List.getElem?_map
def Qao:type_of% @List.eq_nil_of_length_eq_zero:=@List.eq_nil_of_length_eq_zero
def Qap:type_of% @List.length_append:=@List.length_append
def Qaq:type_of% @List.getElem?_set_self:=@List.getElem?_set_self
def Qar:type_of% @decide_eq_true_eq:=@decide_eq_true_eq
def Qas:type_of% @Array.getElem?_eq_getElem:=@Array.getElem?_eq_getElem
def Qat:type_of% @List.all_eq_true:=@List.all_eq_true
def Qau:type_of% @Nat.mul_le_mul_right:=@Nat.mul_le_mul_right
theorem Qav:type_of% @List.getElem?_append_right:=@List.getElem?_append_right
def Qaw:type_of% @List.getElem?_take:=@List.getElem?_take
def Qax:type_of% @List.mem_of_getElem?:=@List.mem_of_getElem?
def Qay:type_of% @List.append_assoc:=@List.append_assoc
def Qaz:type_of% @List.getElem?_append:=@List.getElem?_append
def Qba:type_of% @List.getElem?_drop:=@List.getElem?_drop
def Qbb:type_of% @List.mem_map:=@List.mem_map
def Qbc:type_of% @List.getElem?_set:=@List.getElem?_set
def Qbd:type_of% @Nat.lt_of_lt_of_le:=@Nat.lt_of_lt_of_le
def Qbe:type_of% @Nat.le_trans:=@Nat.le_trans
def Qbf:type_of% @List.mem_cons:=@List.mem_cons
def Qbg:type_of% @beq_iff_eq:=@beq_iff_eq
def Qbh:type_of% @Array.getElem?_eq_some_iff:=@Array.getElem?_eq_some_iff
def Qbi:type_of% @List.getElem?_replicate:=@List.getElem?_replicate
theorem Qbj:type_of% @List.getElem?_of_mem:=@List.getElem?_of_mem
def Qbk:type_of% @Option.map_some:=@Option.map_some
def Qbl:type_of% @decide_eq_false:=@decide_eq_false
def Qbm:type_of% @decide_eq_true:=@decide_eq_true
def Qbn:type_of% @Option.some.injEq:=@Option.some.injEq
def Qbo:type_of% @Nat.zero_le:=@Nat.zero_le
def Qbp:type_of% @Nat.le_refl:=@Nat.le_refl
def Qbq:type_of% @if_pos:=@if_pos
def Qbr:type_of% @if_neg:=@if_neg
def Qbs:type_of% @Prod.mk.injEq:=@Prod.mk.injEq
def Qbt:type_of% @Sem.run_bind:=@Sem.run_bind
theorem Qbu:type_of% @Result.andThen_ok:=@Result.andThen_ok
def Qbv:type_of% @List.getElem?_cons_zero:=@List.getElem?_cons_zero
def Qbw:type_of% @Option.bind_eq_some_iff:=@Option.bind_eq_some_iff
def Qbx:type_of% @Array.getElem?_modify:=@Array.getElem?_modify
def Qby:type_of% @List.cons_append:=@List.cons_append
def Qbz:type_of% @List.nil_append:=@List.nil_append
abbrev B8:=List UInt8
def gl0:List (IntKind×Int):=[(.u8,0),(.u8,0),(.u8,0),(.u8,0),(.u8,0),(.u8,0),(.u8,0),(.u8,0),(.u8,0),(.u8,1),(.u8,1),(.u8,1),(.u8,1),(.u8,1),(.u8,0),(.u8,0),(.u8,0),(.u8,0),(.u8,0),(.u8,0),(.u8,0),(.u8,0),(.u8,0),(.u8,0),(.u8,0),(.u8,0),(.u8,0),(.u8,0),(.u8,0),(.u8,0),(.u8,0),(.u8,0),(.u8,1),(.u8,0),(.u8,0),(.u8,0),(.u8,0),(.u8,0),(.u8,0),(.u8,0),(.u8,0),(.u8,0),(.u8,0),(.u8,0),(.u8,0),(.u8,0),(.u8,0),(.u8,0),(.u8,0),(.u8,0),(.u8,0),(.u8,0),(.u8,0),(.u8,0),(.u8,0),(.u8,0),(.u8,0),(.u8,0),(.u8,0),(.u8,0),(.u8,0),(.u8,0),(.u8,0),(.u8,0),(.u8,0),(.u8,0),(.u8,0),(.u8,0),(.u8,0),(.u8,0),(.u8,0),(.u8,0),(.u8,0),(.u8,0),(.u8,0),(.u8,0),(.u8,0),(.u8,0),(.u8,0),(.u8,0),(.u8,0),(.u8,0),(.u8,0),(.u8,0),(.u8,0),(.u8,0),(.u8,0),(.u8,0),(.u8,0),(.u8,0),(.u8,0),(.u8,0),(.u8,0),(.u8,0),(.u8,0),(.u8,0),(.u8,0),(.u8,0),(.u8,0),(.u8,0),(.u8,0),(.u8,0),(.u8,0),(.u8,0),(.u8,0),(.u8,0),(.u8,0),(.u8,0),(.u8,0),(.u8,0),(.u8,0),(.u8,0),(.u8,0),(.u8,0),(.u8,0),(.u8,0),(.u8,0),(.u8,0),(.u8,0),(.u8,0),(.u8,0),(.u8,0),(.u8,0),(.u8,0),(.u8,0),(.u8,0),(.u8,0),(.u8,0),(.u8,0),(.u8,0),(.u8,0),(.u8,0),(.u8,0),(.u8,0),(.u8,0),(.u8,0),(.u8,0),(.u8,0),(.u8,0),(.u8,0),(.u8,0),(.u8,0),(.u8,0),(.u8,0),(.u8,0),(.u8,0),(.u8,0),(.u8,0),(.u8,0),(.u8,0),(.u8,0),(.u8,0),(.u8,0),(.u8,0),(.u8,0),(.u8,0),(.u8,0),(.u8,0),(.u8,0),(.u8,0),(.u8,0),(.u8,0),(.u8,0),(.u8,0),(.u8,0),(.u8,0),(.u8,0),(.u8,0),(.u8,0),(.u8,0),(.u8,0),(.u8,0),(.u8,0),(.u8,0),(.u8,0),(.u8,0),(.u8,0),(.u8,0),(.u8,0),(.u8,0),(.u8,0),(.u8,0),(.u8,0),(.u8,0),(.u8,0),(.u8,0),(.u8,0),(.u8,0),(.u8,0),(.u8,0),(.u8,0),(.u8,0),(.u8,0),(.u8,0),(.u8,0),(.u8,0),(.u8,0),(.u8,0),(.u8,0),(.u8,0),(.u8,0),(.u8,0),(.u8,0),(.u8,0),(.u8,0),(.u8,0),(.u8,0),(.u8,0),(.u8,0),(.u8,0),(.u8,0),(.u8,0),(.u8,0),(.u8,0),(.u8,0),(.u8,0),(.u8,0),(.u8,0),(.u8,0),(.u8,0),(.u8,0),(.u8,0),(.u8,0),(.u8,0),(.u8,0),(.u8,0),(.u8,0),(.u8,0),(.u8,0),(.u8,0),(.u8,0),(.u8,0),(.u8,0),(.u8,0),(.u8,0),(.u8,0),(.u8,0),(.u8,0),(.u8,0),(.u8,0),(.u8,0),(.u8,0),(.u8,0),(.u8,0),(.u8,0),(.u8,0),(.u8,0),(.u8,0),(.u8,0),(.u8,0),(.u8,0),(.u8,0),(.u8,0),(.u8,0),(.u8,0),(.u8,0)]
def gl5:List (IntKind×Int):=[(.u64,1),(.u64,10),(.u64,100),(.u64,1000),(.u64,10000),(.u64,100000),(.u64,1000000),(.u64,10000000),(.u64,100000000),(.u64,1000000000),(.u64,10000000000),(.u64,100000000000),(.u64,1000000000000),(.u64,10000000000000),(.u64,100000000000000),(.u64,1000000000000000),(.u64,10000000000000000),(.u64,100000000000000000),(.u64,1000000000000000000),(.u64,10000000000000000000)]
def gl:Nat->Option (List (IntKind×Int))
 |0=>some gl0
 |5=>some gl5
 |_=>none
def gle:Nat->Bool
 |3=>true
 |4=>true
 |_=>false
inductive PV:Type where
 |bool (b:Bool)
 |int (k:IntKind) (n:Int)
 |str (s:B8)
 deriving Inhabited,DecidableEq
def PV.c:PV->Value
 |.bool b=>.bool b
 |.int k n=>.int k n
 |.str s=>.string ⟨s.toArray⟩
inductive V:Type where
 |any
 |bool (b:Bool)
 |int (k:IntKind) (n:Int)
 |str (s:B8)
 |nilp
 |ptr (l i off:Nat)
 |ref (cs:List V) (off:Nat)
 |ap (l i ver idx off:Nat)
 |nils
 |sl (sz:Nat) (xs:List V) (full:Bool)
 |hs (l i ver off n:Nat) (full:Bool)
 |mapn
 |map (l i:Nat)
 |mapc (es:List (PV×PV))
 |fn (f:Nat) (first caps:List V)
 |nilf
 |iface (t:Nat) (v:V)
 |nili
 |agg (cs:List V)
 |tup (vs:List V)
 deriving Inhabited
def V.cells:V->List V
 |.agg cs=>cs
 |v=>[v]
def V.leaf:V->Bool
 |.any| .agg _| .tup _=>false
 |_=>true
inductive yzm:Type where
 |cells (cs:List V)
 |arr (ver ty sz:Nat) (xs:List V) (cap:Option Nat)
 |map (es:List (V×V))
 |siter (s:B8) (pos:Nat)
 |mit (es:List (PV×PV)) (vis:List Nat)
structure Heap where
 lv:Nat
 L:List (Option yzm)
 E:Nat->Nat->Option yzm
def Heap.get(H:Heap)(l i:Nat):Option yzm:=if l=H.lv then (H.L[i]?).join else H.E l i
structure Gh where
 dom:Nat->Nat->Prop
 blk:Nat->Nat->Nat
 ab:Nat->Nat->Nat
 cap:Nat->Nat->Nat
 base:Nat:=0
def yzm.blk(g:Gh)(l i:Nat):yzm->Nat
 |.arr .. => g.ab l i
 |_=>g.blk l i
def Own(g:Gh)(H:Heap)(b:Nat):Prop:=∃l i o,H.get l i=some o∧o.blk g l i=b
def z02d(es:List (PV×PV))(a:Array MapEntry)(clock:Nat):Prop :=
 a.size=es.length∧(∀e∈a,e.born<clock)∧(∀(j k:Nat) (e f),a[j]? = some e->a[k]? = some f->e.born=f.born->j=k) ∧
  (∀(j:Nat) (p),es[j]? = some p->∃e,a[j]? = some e∧e.key=p.1.c∧e.val=p.2.c)
def zc1(a:Array MapEntry)(j:Nat):Nat:=(a[j]?.map (·.born)).getD 0
inductive Rel (W:World) (g:Gh) (H:Heap):V->Value->Prop where
 |any (c:Value):Rel W g H .any c
 |bool (b:Bool):Rel W g H (.bool b) (.bool b)
 |int (k:IntKind) (n:Int):Rel W g H (.int k n) (.int k n)
 |str (s:B8):Rel W g H (.str s) (.string ⟨s.toArray⟩)
 |nilp:Rel W g H .nilp (.pointer none)
 |ptr (l i off:Nat) (hd:g.dom l i):Rel W g H (.ptr l i off) (.pointer (some ⟨g.blk l i,off,none⟩))
 |ref (cs:List V) (off b o:Nat) (c:Nat->Value) (hb:cs≠[]->¬Own g H b) (hc:∀j v,cs[j]? = some v->W.cell? ⟨b,o+j,none⟩=some (c j)) (h1:∀j v,cs[j]? = some v->(c j).oneCell'=true) (hr:∀j v,cs[j]? = some v->Rel W g H v (c j)):Rel W g H (.ref cs off) (.pointer (some ⟨b,o+off,none⟩))
 |ap (l i ver idx off:Nat) (a:Addr) (hd:g.dom l i) (hv:∀v ty sz xs cp,H.get l i=some (.arr v ty sz xs cp)->ver<=v) (ha:∀ty sz xs cp,H.get l i=some (.arr ver ty sz xs cp)->a=⟨g.ab l i,idx * sz+off,none⟩):Rel W g H (.ap l i ver idx off) (.pointer (some a))
 |nils:Rel W g H .nils (.slice none 0 0)
 |slnil (sz:Nat) (full:Bool):Rel W g H (.sl sz [] full) (.slice none 0 0)
 |sle (sz:Nat) (full:Bool) (a:Addr) (cap:Nat) (hf:full=true->cap=0):Rel W g H (.sl sz [] full) (.slice (some a) 0 cap)
 |sl (sz:Nat) (xs:List V) (full:Bool) (b o cap:Nat) (c:Nat->Nat->Value) (hb:¬Own g H b) (hz:0<sz) (hcap:xs.length<=cap) (hf:full=true->cap=xs.length)
  (hs:∀(j:Nat) (x:V),xs[j]? = some x->x.cells.length=sz) (hc:∀(j:Nat) (x:V) (t:Nat) (v:V),xs[j]? = some x->x.cells[t]? = some v->W.cell? ⟨b,o+j * sz+t,none⟩=some (c j t))
  (h1:∀(j:Nat) (x:V) (t:Nat) (v:V),xs[j]? = some x->x.cells[t]? = some v->(c j t).oneCell'=true)
  (hr:∀(j:Nat) (x:V) (t:Nat) (v:V),xs[j]? = some x->x.cells[t]? = some v->Rel W g H v (c j t)):Rel W g H (.sl sz xs full) (.slice (some ⟨b,o,none⟩) xs.length cap)
 |hs (l i ver off n:Nat) (full:Bool) (a:Option Addr) (m cap:Nat) (hd:g.dom l i) (hv:∀v ty sz xs cp,H.get l i=some (.arr v ty sz xs cp)->ver<=v)
  (ha:∀ty sz xs cp,H.get l i=some (.arr ver ty sz xs cp)->a=some ⟨g.ab l i,off * sz,none⟩∧m=n∧(n<=cap∧off+cap<=g.cap l i∧(full=true->cap=n))∧off+n<=xs.length):Rel W g H (.hs l i ver off n full) (.slice a m cap)
 |mapn:Rel W g H .mapn (.map none)
 |map (l i:Nat) (hd:g.dom l i):Rel W g H (.map l i) (.map (some (g.blk l i)))
 |mapc (es:List (PV×PV)) (b:Nat) (en:Array MapEntry) (clock:Nat) (hb:¬Own g H b) (hw:W.heap[b]? = some (.map en clock)) (he:z02d es en clock):Rel W g H (.mapc es) (.map (some b))
 |fn (f:Nat) (fs cs:List V) (fs' cs':Array Value) (h1:fs'.size=fs.length) (h2:cs'.size=cs.length) (r1:∀j v,fs[j]? = some v->Rel W g H v (fs'.getD j undef)) (r2:∀j v,cs[j]? = some v->Rel W g H v (cs'.getD j undef)):Rel W g H (.fn f fs cs) (.func (.func f) fs' cs')
 |nilf:Rel W g H .nilf .nilFunc
 |iface (t:Nat) (v:V) (c:Value) (h:Rel W g H v c):Rel W g H (.iface t v) (.iface t c)
 |nili:Rel W g H .nili .nilIface
 |agg (vs:List V) (cs:Array Value) (hn:cs.size=vs.length) (h1:∀j v,vs[j]? = some v->(cs.getD j undef).oneCell'=true) (hr:∀j v,vs[j]? = some v->Rel W g H v (cs.getD j undef)):Rel W g H (.agg vs) (.agg cs)
 |tup (vs:List V) (cs:Array Value) (hn:cs.size=vs.length) (hr:∀j v,vs[j]? = some v->Rel W g H v (cs.getD j undef)):Rel W g H (.tup vs) (.tuple cs)
def zgm(W:World)(g:Gh)(H:Heap)(l i:Nat):yzm->Prop
 |.cells cs=>∃c ty,W.heap[g.blk l i]? = some (.cells c ty (0,0))∧c.size=cs.length∧(∀j v,cs[j]? = some v->(c.getD j undef).oneCell'=true)∧∀j v,cs[j]? = some v->Rel W g H v (c.getD j undef)
 |.arr _ ty b xs o=>∃c,W.heap[g.ab l i]? = some (.cells c ty (0,0))∧0<b∧c.size=g.cap l i * b∧g.cap l i<=maxLen∧xs.length<=g.cap l i∧(∀n,o=some n->g.cap l i=n) ∧
  (∀(j:Nat) (x),xs[j]? = some x->x.cells.length=b)∧(∀(j) (x) (t) (v),xs[j]? = some x->x.cells[t]? = some v->(c.getD (j * b+t) undef).oneCell'=true) ∧
  ∀(j) (x) (t) (v),xs[j]? = some x->x.cells[t]? = some v->Rel W g H v (c.getD (j * b+t) undef)
 |.map es=>∃a clock,W.heap[g.blk l i]? = some (.map a clock)∧a.size=es.length∧(∀e∈a,e.born<clock)∧(∀(j k:Nat) (e f),a[j]? = some e->a[k]? = some f->e.born=f.born->j=k) ∧
  (∀(j:Nat) (p),es[j]? = some p->∃e,a[j]? = some e∧Rel W g H p.1 e.key∧Rel W g H p.2 e.val)
 |.siter s m=>W.heap[g.blk l i]? = some (.stringIter ⟨s.toArray⟩ m)
 |.mit es h=>∃a clock d,W.heap[g.blk l i]? = some (.mapIter (some d) clock (h.map (zc1 a)).toArray clock)∧¬Own g H d∧W.heap[d]? = some (.map a clock)∧z02d es a clock
def z0e6(W:World)(g:Gh)(H:Heap):Prop:=∀k cs,gl k=some cs->¬Own g H k∧∃ty q,W.heap[k]? = some (.cells (cs.map λp=>Value.int p.1 p.2).toArray ty q)
def z0ec(W:World)(g:Gh)(H:Heap):Prop:=∀k,gle k=true->¬Own g H k∧∃v ty q,W.heap[k]? = some (.cells #[v] ty q)∧(v = .nilIface∨∃te a,v = .iface te a)
def zn8(W:World)(g:Gh)(H:Heap):Prop:=z0e6 W g H∧z0ec W g H
structure Good(W:World)(g:Gh)(H:Heap):Prop where
 dom:∀l i o,H.get l i=some o->g.dom l i
 lt:∀l i o,H.get l i=some o->o.blk g l i<W.heap.size
 inj:∀l i o l' i' o',H.get l i=some o->H.get l' i'=some o'->o.blk g l i=o'.blk g l' i'->l=l'∧i=i'
 fresh:∀l i,g.dom l i->l<H.lv∨(l=H.lv∧i<H.L.length)
 obj:∀l i o,H.get l i=some o->zgm W g H l i o
 zqr:zn8 W g H
 base:g.base<=W.heap.size
structure Step(W:World)(g:Gh)(H:Heap)(W':World)(g':Gh)(H':Heap):Prop where
 os:W'.os=W.os
 tape:W'.tape=W.tape
 output:W'.output=W.output
 size:W.heap.size<=W'.heap.size
 block:∀b,b<W.heap.size->¬Own g H b->W'.heap[b]? = W.heap[b]?
 own:∀b,Own g' H' b->Own g H b∨W.heap.size<=b
 dom:∀l i,g.dom l i->g'.dom l i
 new:∀l i,g'.dom l i->g.dom l i∨l=H.lv
 blk:∀l i,g.dom l i->g'.blk l i=g.blk l i
 arr:∀l i ver ty sz xs cp,g.dom l i->H'.get l i=some (.arr ver ty sz xs cp)->∃v ys cp',H.get l i=some (.arr v ty sz ys cp')∧v<=ver∧(v=ver->g'.ab l i=g.ab l i∧g'.cap l i=g.cap l i∧ys.length<=xs.length)
 lv:H'.lv=H.lv
 base:g'.base=g.base
def zn8.step{W g H}(h:zn8 W g H){W' g' H'}(s:Step W g H W' g' H'):zn8 W' g' H':=by
 have lt:∀{k:Nat}{o:Obj},W.heap[k]? = some o->k<W.heap.size:=λ{k o} d=>by
  grind
 refine⟨λk cs j =>?_,λk j =>?_⟩;have⟨e,ty,q,d⟩:=h.1 k cs j;have b:=lt d;exact⟨λi=>(s.own k i).elim e (λa=>by omega),ty,q,by rw[s.block k b e];exact d⟩;have⟨e,v,ty,q,d,l⟩:=h.2 k j;have b:=lt d;exact⟨λi=>(s.own k i).elim e (λa=>by omega),v,ty,q,by rw[s.block k b e];exact d,l⟩
def zn8.ycl{W g g' H H'}(h:zn8 W g H)(d:∀b,Own g' H' b->Own g H b):zn8 W g' H':=by
 refine⟨λk cs a =>?_,λk a =>?_⟩;have⟨i,e⟩:=h.1 k cs a
 grind
 have⟨i,e⟩:=h.2 k a
 grind
def Step.refl(W)(g)(H):Step W g H W g H :=
 ⟨rfl,rfl,rfl,Qbp _,λ_ _ _=>rfl,λ_ h=>.inl h,λ_ _ h=>h,λ_ _ h=>.inl h,λ_ _ _=>rfl,λ_ _ a _ _ xs b _ h=>⟨a,xs,b,h,Qbp _,λ_=>⟨rfl,rfl,Qbp _⟩⟩,rfl,rfl⟩
def Step.trans{W W' e g g' d H H' j}(h:Step W g H W' g' H')(k:Step W' g' H' e d j):Step W g H e d j where
 os:=k.os.trans h.os
 tape:=k.tape.trans h.tape
 output:=k.output.trans h.output
 size:=Qbe h.size k.size
 block:=λb m q=>by
  rw[k.block b (Qbd m h.size) (λw =>?_),h.block b m q]
  rcases h.own b w with h1|h1
  exact q h1;omega
 own:=λb m=>by
  rcases k.own b m with h1|h1
  rcases h.own b h1 with h2|h2
  exact .inl h2;exact .inr h2;exact .inr (Qbe h.size h1)
 dom:=λl i a=>k.dom l i (h.dom l i a)
 new:=λl i a=>by
  rcases k.new l i a with h1|h1
  exact h.new l i h1;exact .inr (h1.trans h.lv)
 blk:=λl i a=>(k.blk l i (h.dom l i a)).trans (h.blk l i a)
 arr:=λl i n ty p xs y a x=>by
  have⟨v,s,o,h1,h2,C⟩:=k.arr l i n ty p xs y (h.dom l i a) x;have⟨u,zs,r,B,A,z⟩:=h.arr l i v ty p s o a h1
  grind
 lv:=k.lv.trans h.lv
 base:=k.base.trans h.base
def y95{W:World}{b o v}(h:W.cell? ⟨b,o,none⟩=some v):b<W.heap.size:=by
 grind[World.cell?]
def ypl{W W':World}{b o}(h:W'.heap[b]? = W.heap[b]?):W'.cell? ⟨b,o,none⟩=W.cell? ⟨b,o,none⟩:=by
 unfold World.cell?;simp[h]
theorem Rel.mono{W g H v c}(h:Rel W g H v c){W' g' H'}(s:Step W g H W' g' H'):Rel W' g' H' v c:=by
 induction h with
 |any c=>exact .any c
 |bool b=>exact .bool b
 |int k n=>exact .int k n
 |str s=>exact .str s
 |nilp=>exact .nilp
 |ptr l i d p=>rw[<-s.blk l i p];exact .ptr l i d (s.dom l i p)
 |ref cs d b o c B J w M y=>
  cases cs with
  |nil=>exact .ref [] d b o c (λh=>absurd rfl h) (by simp) (by simp) (by simp)
  |cons x xs=>
   have A:=y95 (J 0 x rfl)
   exact .ref _ d b o c (λ_ z=>(s.own b z).elim (B (by simp)) (by omega)) (λj v X=>by rw[ypl (s.block b A (B (by simp)))];exact J j v X) w y
 |ap l i u N d a p hv ha=>
  refine .ap l i u N d a (s.dom l i p) (λv ty e xs D C =>?_) λty e xs D C =>?_
  have⟨L,K,E,A,F,_⟩:=s.arr l i v ty e xs D p C
  grind
  have⟨L,K,E,A,F,h3⟩:=s.arr l i u ty e xs D p C
  grind
 |nils=>exact .nils
 |slnil e full=>exact .slnil e full
 |sle e full a r I=>exact .sle e full a r I
 |sl e xs full b o r c B hz G I hs J w M y=>
  cases xs with
  |nil=>exact .sle e full _ r (by simpa using I)
  |cons x xs=>
   have hx:=hs 0 x rfl
   have A:=by
    cases Q:x.cells with
    |nil=>grind
    |cons v vs=>exact y95 (J 0 x 0 v rfl (by rw[Q];rfl))
   exact .sl e _ full b o r c (λz=>(s.own b z).elim B (by omega)) hz G I hs (λj x t v X ht=>by rw[ypl (s.block b A B)];grind) w y
 |hs l i u d n full a m r p hv ha=>
  refine .hs l i u d n full a m r (s.dom l i p) (λv ty e xs D C =>?_) λty e xs D C =>?_
  have⟨L,K,E,A,F,_⟩:=s.arr l i v ty e xs D p C
  grind
  have⟨L,K,E,A,F,h3⟩:=s.arr l i u ty e xs D p C
  grind
 |mapn=>exact .mapn
 |map l i p=>rw[<-s.blk l i p];exact .map l i (s.dom l i p)
 |mapc es b en clock B U he=>
  have O:=(Qbh.1 U).1
  exact .mapc es b en clock (λz=>(s.own _ z).elim B (λq=>by omega)) (by rw[s.block _ O B];exact U) he
 |fn f fs cs R T A F r1 r2 Z Y=>exact .fn f fs cs R T A F Z Y
 |nilf=>exact .nilf
 |iface t v c h y=>exact .iface t v c y
 |nili=>exact .nili
 |agg vs cs z w M y=>exact .agg vs cs z w y
 |tup vs cs z M y=>exact .tup vs cs z y
structure Grow(W W':World):Prop where
 os:W'.os=W.os
 tape:W'.tape=W.tape
 output:W'.output=W.output
 size:W.heap.size<=W'.heap.size
 block:∀b,b<W.heap.size->W'.heap[b]? = W.heap[b]?
def Grow.refl(W):Grow W W:=⟨rfl,rfl,rfl,Qbp _,λ_ _=>rfl⟩
def Grow.trans{a b c}(h:Grow a b)(k:Grow b c):Grow a c :=
 ⟨k.os.trans h.os,k.tape.trans h.tape,k.output.trans h.output,Qbe h.size k.size,λi hi=>(k.block i (Qbd hi h.size)).trans (h.block i hi)⟩
def Grow.alloc(W)(o):Grow W (W.alloc o) :=
 ⟨rfl,rfl,rfl,by simp,λb a=>by show(W.heap.push o)[b]? = _;grind⟩
def Grow.drawn(W)(n):Grow W {W with drawn:=n}:=⟨rfl,rfl,rfl,Qbp _,λ_ _=>rfl⟩
def Grow.step{W W' g H}(h:Grow W W'):Step W g H W' g H :=
 ⟨h.os,h.tape,h.output,h.size,λb d _=>h.block b d,λ_ h=>.inl h,λ_ _ h=>h,λ_ _ h=>.inl h,λ_ _ _=>rfl,λ_ _ a _ _ xs e _ h=>⟨a,xs,e,h,Qbp _,λ_=>⟨rfl,rfl,Qbp _⟩⟩,rfl,rfl⟩
theorem zgm.mono{W g H l i o}(h:zgm W g H l i o){W' g' H'}(s:Step W g H W' g' H')
  (m:W'.heap[o.blk g l i]? = W.heap[o.blk g l i]?) (r:g'.blk l i=g.blk l i) (I:g'.ab l i=g.ab l i) (u:g'.cap l i=g.cap l i):zgm W' g' H' l i o:=by
 cases o with
 |cells cs=>
  have⟨c,ty,d,w,b,a⟩:=h
  exact⟨c,ty,by rw[r];exact m.trans d,w,b,λj v k=>(a j v k).mono s⟩
 |arr O ty R xs T=>
  have⟨c,d,b,a,A,n,M,L,K,J⟩:=h
  exact⟨c,by rw[I];exact m.trans d,b,by rw[u];exact a,by rw[u];exact A,by rw[u];exact n,by rw[u];exact M,L,K,λj x t v k E=>(J j x t v k E).mono s⟩
 |map es=>
  have⟨y,clock,d,w,b,a,n⟩:=h;refine⟨y,clock,by rw[r];exact m.trans d,w,b,a,λj p k =>?_⟩;have⟨e,G,D,C⟩:=n j p k
  exact⟨e,G,D.mono s,C.mono s⟩
 |siter s Q=>exact(show W'.heap[g'.blk l i]? = _ by rw[r];exact m.trans h)
 |mit es N=>
  have⟨y,clock,B,d,b,a,n⟩:=h;have z:=(Qbh.1 a).1;exact⟨y,clock,B,by rw[r];exact m.trans d,λF=>(s.own _ F).elim b (λq=>by omega),by rw[s.block _ z b];exact a,n⟩
def Good.grow{W W' g H}(h:Good W g H)(k:Grow W W'):Good W' g H :=
 ⟨h.dom,λl i o a=>Qbd (h.lt l i o a) k.size,h.inj,h.fresh,λl i o a=>(h.obj l i o a).mono k.step (k.block _ (h.lt l i o a)) rfl rfl rfl,h.zqr.step k.step,Qbe h.base k.size⟩
end Go.Ab
namespace Go.Ab
open Go
def ze5:Value->V
 |.bool b=>.bool b
 |.int k n=>.int k n
 |.string s=>.str s.data.toList
 |.pointer none=>.nilp
 |.slice none 0 0=>.nils
 |.map none=>.mapn
 |.nilFunc=>.nilf
 |.nilIface=>.nili
 |_=>.any
def ofConst:Value->V
 |.agg cs=>if cs.toList.all (·.oneCell')then .agg (cs.toList.map ze5)else .any
 |.tuple cs=>.tup (cs.toList.map ze5)
 |.iface t v=>.iface t (ze5 v)
 |v=>ze5 v
section
variable {W:World}{g:Gh}{H:Heap}{P:Program}
def zw6(v):Rel W g H (ze5 v) v:=by
 unfold ze5;split;exact .bool _;exact .int _ _;exact .str _;exact .nilp;exact .nils;exact .mapn;exact .nilf;exact .nili;exact .any _
def zqw(v):Rel W g H (ofConst v) v:=by
 unfold ofConst;split
 ·rename_i cs;split
  ·rename_i e;refine .agg _ _ (by simp) (λj v b =>?_) λj v b =>?_
   all_goals
    simp only[Qan,Qaf]at b;obtain⟨a,d,rfl⟩:=b;rw[Array.getElem?_toList]at d;simp[d,Option.getD_some]
   grind
   exact zw6 _
  exact .any _
 rename_i cs;refine .tup _ _ (by simp) λj v b =>?_
 simp[Qaf]at b;obtain⟨a,d,rfl⟩:=b
 simp_all[zw6]
 exact .iface _ _ _ (zw6 _);exact zw6 _
def rd(P:Program)(t:Nat)(cs:List V)(a:Nat):Option V :=
 match P.underlying t with
 |none=>none
 |some (.struct _)|some (.array _ _)=>if a+P.cellsOf t<=cs.length then some (.agg ((cs.drop a).take (P.cellsOf t)))else none
 |some _=>cs[a]?
def info_of_underlying{t:Nat}{d}(h:P.underlying t=some d):∃i,P.info? t=some i∧P.cellsOf t=i.size:=by
 unfold Program.underlying at h;unfold Program.cellsOf
 cases hi:P.info? t with
 |none=>simp[hi]at h
 |some i=>grind
def yz3{t:Nat}{d}(h:P.underlying t=some d):(underlying t).run P W = .ok d W:=by
 simp[underlying,h]
def zb2{t:Nat}{d}(h:P.underlying t=some d):(sizeOf t).run P W = .ok (P.cellsOf t) W:=by
 have⟨i,hi,a⟩:=info_of_underlying h;simp[sizeOf,typeInfo,hi,a]
def TypeDesc.isAgg:TypeDesc->Bool
 |.struct _| .array _ _=>true
 |_=>false
def zwp{t:Nat}{d}(h:P.underlying t=some d):(isAgg t).run P W = .ok (TypeDesc.isAgg d) W:=by
 simp[isAgg,underlying,h];cases d <;> simp[TypeDesc.isAgg]
def z03h{t cs a v}(h:rd P t cs a=some v):∃d,P.underlying t=some d ∧
  ((TypeDesc.isAgg d=true∧a+P.cellsOf t<=cs.length∧v = .agg ((cs.drop a).take (P.cellsOf t)))∨(TypeDesc.isAgg d=false∧cs[a]? = some v)):=by
 unfold rd at h;split at h;cases h;rename_i e;split at h
 rename_i b;injection h with h;exact⟨_,e,.inl ⟨rfl,b,h.symm⟩⟩
 cases h;rename_i e;split at h
 rename_i b;injection h with h;exact⟨_,e,.inl ⟨rfl,b,h.symm⟩⟩
 cases h;rename_i d i j e;refine⟨d,e,.inr ⟨?_,h⟩⟩
 cases d <;> first|rfl|(exact(i _ rfl).elim)|grind
def znd{t cs a v b o}{c:Nat->Value}(h:rd P t cs a=some v)
  (r:∀j x,cs[j]? = some x->W.cell? ⟨b,o+j,none⟩=some (c j)) (l:∀j x,cs[j]? = some x->(c j).oneCell'=true) (n:∀j x,cs[j]? = some x->Rel W g H x (c j)) :
  ∃u,(loadVar t ⟨b,o+a,none⟩).run P W = .ok u W∧Rel W g H v u:=by
 obtain⟨d,q,⟨i,k,rfl⟩|⟨i,m⟩⟩:=z03h h
 have p:∀j,j<P.cellsOf t->W.cell? ((⟨b,o+a,none⟩:Addr).add j)=some (c (a+j)):=λj e=>by
  grind[Addr.add]
 refine⟨.agg ((List.range (P.cellsOf t)).map λj=>c (a+j)).toArray,?_,?_⟩
 simp_all[loadVar,zwp,zb2,run_loadCells]
 refine .agg _ _ (by simp;omega) (λj x e =>?_) λj x e =>?_
 simp_all[Qaw]
 simp_all[Qaw]
 simp_all[loadVar,zwp]
def zof{t cs b v a}(h:rd P t cs b=some v)(q:a.size=cs.length)
  (p:∀j x,cs[j]? = some x->(a.getD j undef).oneCell'=true) (m:∀j x,cs[j]? = some x->Rel W g H x (a.getD j undef)):∃u,(part t a b).run P W = .ok u W∧Rel W g H v u:=by
 obtain⟨d,i,⟨k,o,rfl⟩|⟨k,l⟩⟩:=z03h h
 ·refine⟨.agg (a.extract b (b+P.cellsOf t)),by simp[part,zwp i,k,zb2 i],?_⟩
  have r:∀j,j<P.cellsOf t->(a.extract b (b+P.cellsOf t)).getD j undef=a.getD (b+j) undef:=λj e=>by
   simp[Qae]
   grind
  refine .agg _ _ (by simp;omega) (λj x e =>?_) λj x e =>?_
  all_goals
   grind
 have n:b<a.size:=by grind
 refine⟨a.getD b undef,?_,m _ _ l⟩
 simp_all[part,zwp]
def Yields(P:Program)(W:World)(g:Gh)(H:Heap)(s:Sem Value)(v:V):Prop:=∃c W',s.run P W = .ok c W'∧Grow W W'∧Rel W' g H v c
def Yields.same{s v c}(h:s.run P W = .ok c W)(a:Rel W g H v c):Yields P W g H s v:=⟨c,W,h,.refl W,a⟩
def y5i(H:Heap)(l i b d:Nat):Option (Nat×List V) :=
 match H.get l i with
 |some (.arr a _ e xs _)=>if a=b then (xs[d]?).map λx=>(e,x.cells)else none
 |_=>none
def zej(P:Program)(H:Heap)(t:Nat):V->Option V
 |.ref cs a=>rd P t cs a
 |.ptr l i a=>match H.get l i with
  |some (.cells cs)=>rd P t cs a
  |_=>none
 |.ap l i b d a=>(y5i H l i b d).bind λp=>rd P t p.2 a
 |_=>none
theorem cell_of{b j c ty f}(h:W.heap[b]? = some (.cells c ty f))(a:j<c.size):W.cell? ⟨b,j,none⟩=some (c.getD j undef):=by
 simp[World.cell?,h,a]
def z01p(q:Good W g H){l i e a p}(h:y5i H l i e a=some p) :
  ∃ty b xs k x,H.get l i=some (.arr e ty b xs k)∧xs[a]? = some x∧p=(b,x.cells)∧x.cells.length=b ∧
   ∃c,W.heap[g.ab l i]? = some (.cells c ty (0,0))∧a * b+b<=c.size∧(∀t v,x.cells[t]? = some v->(c.getD (a * b+t) undef).oneCell'=true)∧∀t v,x.cells[t]? = some v->Rel W g H v (c.getD (a * b+t) undef):=by
 unfold y5i at h;split at h;rename_i n ty b xs k m;split at h;rename_i o;subst o;simp[Qaf]at h;obtain⟨x,d,rfl⟩:=h;have⟨c,y,C,w,z,B,A,u,s,r⟩:=q.obj l i _ m;refine⟨ty,b,xs,k,x,m,d,rfl,u _ _ d,c,y,?_,λt v j=>s _ _ _ _ d j,λt v j=>r _ _ _ _ d j⟩;have:=(Qaa.1 d).1;rw[w]
 calc a * b+b=(a+1) * b:=by rw[Nat.succ_mul]
  _<=_:=Qau _ (by omega)
 cases h;cases h
def yci(B:Good W g H){t x v c}(h:zej P H t x=some v)(n:Rel W g H x c):∃a u,c = .pointer (some a)∧(loadVar t a).run P W = .ok u W∧Rel W g H v u:=by
 unfold zej at h;split at h
 cases n with
 |ref cs k b o c Q I s E=>
  have⟨u,C,R⟩:=znd h I s E
  grind
 rename_i l i k;split at h;rename_i cs q
 cases n with
 |ptr _ _ _ G=>
  have⟨a,ty,C,K,e,r⟩:=B.obj l i _ q
  have⟨u,A,D⟩:=znd (b:=g.blk l i) (o:=0) (c:=λj=>a.getD j undef) h (λj y d=>by
   grind[cell_of]) (λj y d=>e _ _ d) (λj y d=>r _ _ d)
  rw[Nat.zero_add]at A
  grind
 cases h;rename_i l i L m k;simp only[Qbw]at h;have⟨p,F,h⟩:=h;obtain⟨ty,w,xs,T,y,q,M,rfl,O,a,C,K,e,r⟩:=z01p B F
 cases n with
 |ap _ _ _ _ _ U G N J=>
  obtain rfl:=J _ _ _ _ q
  have⟨u,A,D⟩:=znd (b:=g.ab l i) (o:=m * w) (c:=λj=>a.getD (m * w+j) undef) h (λj z d=>by
   grind[cell_of]) (λj z d=>e _ _ d) (λj z d=>r _ _ d)
  grind
 cases h
def z006(d:Good W g H){t x v c}(h:zej P H t x=some v)(b:Rel W g H x c):Yields P W g H (Instr.loadAt t c) v:=by
 obtain⟨a,u,rfl,i,e⟩:=yci d h b;exact .same (c:=u) (by simp[Instr.loadAt,Instr.sureAddr,i]) e
def zvk(P:Program)(s f:Nat):Option Nat :=
 match P.underlying s with
 |some (.struct a)=>match a[f]? with
  |some x=>if (P.underlying x.type).isSome&&P.cellsOf x.type != 0 then some x.offset else none
  |none=>none
 |_=>none
def zd6(P:Program)(s f:Nat)(x:V):Option V :=
 match zvk P s f with
 |none=>none
 |some o=>match x with
  |.ref cs a=>some (.ref cs (a+o))
  |.ptr l i a=>some (.ptr l i (a+o))
  |.ap l i b d a=>some (.ap l i b d (a+o))
  |_=>none
theorem add_eq(b o n):(⟨b,o,none⟩:Addr).add n=⟨b,o+n,none⟩:=by
 grind[Addr.add]
def zyp{s f o a}(h:zvk P s f=some o):(Instr.fieldAt s (.pointer (some a)) f).run P W = .ok (.pointer (some (a.add o))) W:=by
 unfold zvk at h;split at h;rename_i k i;split at h;rename_i x e;split at h;rename_i b;simp[ne_eq]at b;cases h;have⟨d,j⟩:=Option.isSome_iff_exists.1 b.1
 simp_all[Instr.fieldAt,yz3,Instr.sureAddr,fieldPlace,zb2]
 cases h;cases h;cases h
def yfa{s f x v c}(h:zd6 P s f x=some v)(a:Rel W g H x c):Yields P W g H (Instr.fieldAt s c f) v:=by
 unfold zd6 at h;split at h;cases h;rename_i o d;split at h;cases h
 cases a with
 |ref _ _ b q c w u n r=>
  refine .same (zyp d) ?_;rw[add_eq,Nat.add_assoc];exact .ref _ _ b q c w u n r
 cases h
 cases a with
 |ptr _ _ _ e=>
  refine .same (zyp d) ?_;rw[add_eq];exact .ptr _ _ _ e
 rename_i l i j m k;cases h
 cases a with
 |ap _ _ _ _ _ C e p A=>
  refine .same (zyp d) (.ap l i j m (k+o) _ e p λty y xs B z =>?_)
  grind[add_eq]
 cases h
end
section
variable {W:World}{g:Gh}{H:Heap}{P:Program}
def ykr(P:Program)(s f:Nat)(x:V):Option V :=
 match P.underlying s with
 |some (.struct a)=>match a[f]? with
  |some y=>match x with
   |.agg cs=>rd P y.type cs y.offset
   |_=>none
  |none=>none
 |_=>none
def yxf{s f x v c}(h:ykr P s f x=some v)(d:Rel W g H x c):Yields P W g H (Instr.field s c f) v:=by
 unfold ykr at h;split at h;rename_i n l;split at h;rename_i y k;split at h
 cases d with
 |agg _ a i b e=>
  have⟨u,m,j⟩:=zof h i b e;exact .same (c:=u) (by simp_all[Instr.field,yz3,asAgg]) j
 cases h;cases h;cases h
def yzz(P:Program)(H:Heap)(t:Nat)(x i:V):Option V :=
 match i with
 |.int _ n=>if 0<=n then match P.underlying t with
  |some (.slice e)=>match x with
   |.sl h xs _=>if h=P.cellsOf e∧(P.underlying e).isSome then (xs[n.toNat]?).map λy=>.ref y.cells 0 else none
   |.hs l i b a m _=>match H.get l i with
    |some (.arr d _ h _ _)=>if d=b∧h=P.cellsOf e∧(P.underlying e).isSome∧n<m then some (.ap l i b (a+n.toNat) 0)else none
    |_=>none
   |_=>none
  |some (.array len e)=>if n<len∧(P.underlying e).isSome then match x with
   |.ref cs a=>some (.ref cs (a+n.toNat * P.cellsOf e))
   |.ptr l i a=>some (.ptr l i (a+n.toNat * P.cellsOf e))
   |.ap l i b j a=>some (.ap l i b j (a+n.toNat * P.cellsOf e))
   |_=>none else none
  |_=>none else none
 |_=>none
def run_indexAt_slice{t e:Nat}{a}{m b:Nat}{k}{n:Int}(h:P.underlying t=some (.slice e))(i:(P.underlying e).isSome=true)(o:0<=n)(l:n<m) :
  (Instr.indexAt t (.slice (some a) m b) (.int k n)).run P W = .ok (.pointer (some (a.add (n.toNat * P.cellsOf e)))) W:=by
 have⟨d,j⟩:=Option.isSome_iff_exists.1 i;simp[Instr.indexAt,asIntOf,yz3 h,o,l,zb2 j]
def run_indexAt_array{t e len:Nat}{a k}{n:Int}(b:P.underlying t=some (.array len e))(h:(P.underlying e).isSome=true)(l:0<=n)(j:n<len) :
  (Instr.indexAt t (.pointer (some a)) (.int k n)).run P W = .ok (.pointer (some (a.add (n.toNat * P.cellsOf e)))) W:=by
 have⟨d,i⟩:=Option.isSome_iff_exists.1 h;simp[Instr.indexAt,asIntOf,yz3 b,l,j,zb2 i,Instr.sureAddr]
def yem{t x i v c O}(h:yzz P H t x i=some v)(z:Rel W g H x c)(hi:Rel W g H i O):Yields P W g H (Instr.indexAt t c O) v:=by
 unfold yzz at h;split at h;rename_i k n;cases hi;split at h;rename_i D;split at h;rename_i e w;split at h;rename_i F xs full;split at h;rename_i C;obtain⟨rfl,p⟩:=C;simp[Qaf]at h;obtain⟨y,s,rfl⟩:=h;have d:=(Qaa.1 s).1
 cases z with
 |slnil=>simp at s
 |sle=>simp at s
 |sl _ _ _ b o M U J hz E hf hs r q I=>
  refine .same (run_indexAt_slice w p D (by omega)) ?_;rw[add_eq];exact .ref _ 0 b _ (U n.toNat) (λ_=>J) (λj u A=>r _ _ _ _ s A) (λj u A=>q _ _ _ _ s A) (λj u A=>I _ _ _ _ s A)
 cases h;rename_i l i X Z m full;split at h;rename_i Q ty F xs cp T;split at h;rename_i C;obtain⟨rfl,rfl,p,d⟩:=C;cases h
 cases z with
 |hs _ _ _ _ _ _ a m' M B G N=>
  obtain⟨rfl,rfl,E,h1⟩:=N _ _ _ _ T;refine .same (run_indexAt_slice w p D d) (.ap _ _ _ _ _ _ B G λY F R L K =>?_)
  simp_all[add_eq,Nat.add_mul]
 cases h;cases h;cases h;rename_i len e w;split at h;rename_i C;have⟨d,p⟩:=C;split at h;cases h
 cases z with
 |ref _ _ b o c J r q I=>
  refine .same (run_indexAt_array w p D d) ?_;rw[add_eq,Nat.add_assoc];exact .ref _ _ b o c J r q I
 cases h
 cases z with
 |ptr _ _ _ B=>
  refine .same (run_indexAt_array w p D d) ?_;rw[add_eq];exact .ptr _ _ _ B
 cases h
 cases z with
 |ap _ _ _ _ _ a B G N=>
  refine .same (run_indexAt_array w p D d) (.ap _ _ _ _ _ _ B G λty F R L K =>?_)
  grind[add_eq]
 cases h;cases h;cases h;cases h;cases h
def y9w(P:Program)(t:Nat)(x i:V):Option V :=
 match i with
 |.int _ n=>if 0<=n then match x with
  |.str s=>match P.underlying t with
   |some .string=>(s[n.toNat]?).map λb=>.int .u8 b.toNat
   |_=>none
  |.agg cs=>match P.underlying t with
   |some (.array len e)=>if n<len∧(P.underlying e).isSome then rd P e cs (n.toNat * P.cellsOf e)else none
   |_=>none
  |_=>none else none
 |_=>none
def yy4{t x i v c q}(h:y9w P t x i=some v)(m:Rel W g H x c)(hi:Rel W g H i q):Yields P W g H (Instr.index t c q) v:=by
 unfold y9w at h;split at h;rename_i k n;cases hi;split at h;rename_i B;split at h;rename_i s;split at h;rename_i o;simp[Qaf]at h;obtain⟨b,p,rfl⟩:=h;cases m;have l:=(Qaa.1 p).1;refine .same (c:=.int .u8 b.toNat) ?_ (.int _ _);rw[run_index_string W t _ k n o,dif_pos ⟨B,by simp[ByteArray.size];omega⟩]
 have:(⟨s.toArray⟩:ByteArray)[n.toNat]'(by simp[ByteArray.size];omega)=b:=by
  have:=List.getElem_of_getElem? p;have⟨_,this⟩:=this;exact this
 rw[this];cases h;rename_i cs;split at h;rename_i len e o;split at h;rename_i z;have⟨l,y⟩:=z;have⟨d,C⟩:=Option.isSome_iff_exists.1 y
 cases m with
 |agg _ a w j r=>
  have⟨u,D,A⟩:=zof h w j r;exact .same (c:=u) (by simp_all[Instr.index,asIntOf,yz3,zb2]) A
 cases h;cases h;cases h;cases h;cases h
def y9q(i:Nat):V->Option V
 |.tup vs=>vs[i]?
 |_=>none
def yme{i x v c}(h:y9q i x=some v)(b:Rel W g H x c):Yields P W g H (Instr.extract c i) v:=by
 unfold y9q at h;split at h
 cases b with
 |tup _ a j d=>
  have e:=(Qaa.1 h).1;refine .same (c:=a.getD i undef) ?_ (d _ _ h)
  simp_all[Instr.extract]
 cases h
def yal:V->Option V
 |.ptr l i d=>some (.ptr l i d)
 |.ref cs d=>some (.ref cs d)
 |.ap l i e h d=>some (.ap l i e h d)
 |.fn f a b=>some (.fn f a b)
 |_=>none
def yi9(op:BinOp)(k:IntKind)(x y:Int):Option V :=
 match op with
 |.add=>some (.int k (k.wrap (x+y)))
 |.sub=>some (.int k (k.wrap (x-y)))
 |.mul=>some (.int k (k.wrap (x * y)))
 |.quo=>if y=0 then none else some (.int k (k.wrap (x.tdiv y)))
 |.rem=>if y=0 then none else some (.int k (x.tmod y))
 |.eql=>some (.bool (x==y))
 |.neq=>some (.bool (x != y))
 |.lss=>some (.bool (decide (x<y)))
 |.leq=>some (.bool (decide (x<=y)))
 |.gtr=>some (.bool (decide (x>y)))
 |.geq=>some (.bool (decide (x>=y)))
 |.and=>some (.int k (bits .and k x y))
 |.or=>some (.int k (bits .or k x y))
 |.xor=>some (.int k (bits .xor k x y))
 |.andNot=>some (.int k (bits .andNot k x y))
 |_=>none
def z00n(op:BinOp)(x y:B8):Option V :=
 match op with
 |.add=>if x.length+y.length<=maxLen then some (.str (x++y))else none
 |.eql=>some (.bool (x==y))
 |.neq=>some (.bool (!(x==y)))
 |.lss=>some (.bool (Op.bytesLess x y))
 |.leq=>some (.bool (Op.bytesLess x y||x==y))
 |.gtr=>some (.bool (!(Op.bytesLess x y||x==y)))
 |.geq=>some (.bool (!Op.bytesLess x y))
 |_=>none
end
section
variable {W:World}{g:Gh}{H:Heap}{P:Program}
mutual
def eqv(P:Program):Nat->Nat->V->V->Option Bool
 |0,_,_,_=>none
 |d+1,t,x,y=>
  match x,y with
  |.bool a,.bool b=>match P.underlying t with|some .bool=>some (a==b)|_=>none
  |.int k a,.int h b=>match P.underlying t with|some (.int _)=>if k=h then some (a==b)else none|_=>none
  |.str a,.str b=>match P.underlying t with|some .string=>some (a==b)|_=>none
  |.agg xs,.agg e=>match P.underlying t with|some (.struct i)=>if P.stoodInHeld t then none else yll P d i.toList xs e|_=>none
  |.nilp,.nilp=>match P.underlying t with|some (.pointer _)=>some true|_=>none
  |.nilp,.ptr _ _ _| .nilp,.ref _ _| .nilp,.ap _ _ _ _ _=>match P.underlying t with|some (.pointer _)=>some false|_=>none
  |.ptr _ _ _,.nilp| .ref _ _,.nilp| .ap _ _ _ _ _,.nilp=>match P.underlying t with|some (.pointer _)=>some false|_=>none
  |.nils,.nils=>match P.underlying t with|some (.slice _)=>some true|_=>none
  |.nils,.sl _ (_::_) _| .sl _ (_::_) _,.nils=>match P.underlying t with|some (.slice _)=>some false|_=>none
  |.mapn,.mapn=>match P.underlying t with|some (.map _ _)=>some true|_=>none
  |.mapn,.map _ _| .map _ _,.mapn=>match P.underlying t with|some (.map _ _)=>some false|_=>none
  |.nilf,.nilf=>match P.underlying t with|some (.func ..)=>some true|_=>none
  |.nilf,.fn _ _ _| .fn _ _ _,.nilf=>match P.underlying t with|some (.func ..)=>some false|_=>none
  |.nili,.iface _ _| .iface _ _,.nili=>match P.underlying t with|some (.interface _)=>some false|_=>none
  |_,_=>none
def yll(P:Program):Nat->List Field->List V->List V->Option Bool
 |0,_,_,_=>none
 |_,[],_,_=>some true
 |d+1,f::h,xs,e=>
  if f.name = "_" then yll P d h xs e else
  match rd P f.type xs f.offset,rd P f.type e f.offset with
  |some a,some b=>match eqv P d f.type a b,yll P d h xs e with
   |some r,some s=>some (r&&s)
   |_,_=>none
  |_,_=>none
end
def yb7:∀(d),(∀(D t) (x y) (r) (c e),d<=D->eqv P d t x y=some r->Rel W g H x c->Rel W g H y e->(Op.equalIn D t c e).run P W = .ok r W) ∧
  (∀(D) (m) (xs q) (r) (cs es),d<=D->yll P d m xs q=some r->cs.size=xs.length->es.size=q.length->(∀j v,xs[j]? = some v->(cs.getD j undef).oneCell'=true)->(∀j v,q[j]? = some v->(es.getD j undef).oneCell'=true)->(∀j v,xs[j]? = some v->Rel W g H v (cs.getD j undef)) ->
   (∀j v,q[j]? = some v->Rel W g H v (es.getD j undef))->(Op.eqFields D cs es m).run P W = .ok r W)
 |0=>by grind[eqv,yll]
 |d+1=>by
  have⟨C,z⟩:=yb7 d;constructor
  ·intro D t x y r c e hD h w s;obtain⟨D,rfl⟩:∃X,D=X+1:=⟨D-1,by omega⟩;unfold eqv at h;split at h;split at h;rename_i l;cases h;cases w;cases s;exact run_equalIn_bool' W D t _ _ l;cases h;split at h;rename_i l;split at h;rename_i O;subst O;cases h;cases w;cases s;exact run_equalIn_int W D t _ _ _ _ l;cases h;cases h;split at h
   rename_i l;cases h;cases w;cases s
   rw[run_equalIn_string W D t _ _ l];simp;cases h;rename_i xs q;split at h;rename_i m l;split at h;cases h;rename_i N
   cases w with
   |agg _ a B o A=>
    cases s with
    |agg _ b p k n=>
     have G:P.fieldsOf t=m:=by simp[Program.fieldsOf,l]
     rw[run_equalIn_struct W D t a b (by rw[G];exact l) (by simpa using N),G];exact z D m.toList xs q r a b (by omega) h B p o k A n
   cases h
   all_goals first
    |(split at h
      rename_i l;cases h;cases w <;> cases s <;> simp[Op.equalIn,yz3 l]
      cases h)
    |cases h
  intro D m xs q r cs es hD h B p o k A n
  cases m with
  |nil=>simp only[yll,Qbn]at h;subst h;simp[Op.eqFields]
  |cons f m=>
   simp only[yll]at h;split at h;rename_i i;simp only[Op.eqFields,i];simp only[ne_eq,not_true_eq_false,if_false]
   grind
   rename_i i;split at h;rename_i a b R Q;split at h;rename_i J I U T;cases h;have⟨u,l,F⟩:=zof (W:=W) R B o A;have⟨v,M,E⟩:=zof (W:=W) Q p k n;have L:=C D _ _ _ _ u v (by omega) U F E;have K:=z D m _ _ I cs es (by omega) T B p o k A n
   simp only[Op.eqFields,ne_eq,i,not_false_eq_true,if_true,Qbt,l,M,L,Qbu];cases J <;> simp[K]
   cases h;cases h
def Value.odd:Value->Bool
 |.int _ _| .float _ _| .complex _ _ _| .string _=>false
 |_=>true
def binOp_eql{t a b}(h:Value.odd a=true):binOp .eql t a b=(do pure (.bool (<-Op.equal t a b))):=by
 cases a <;> first|(simp[Value.odd]at h;done)|rfl|(cases b <;> rfl)
def binOp_neq{t a b}(h:Value.odd a=true):binOp .neq t a b=(do pure (.bool (!(<-Op.equal t a b)))):=by
 cases a <;> first|(simp[Value.odd]at h;done)|rfl|(cases b <;> rfl)
def V.odd:V->Bool
 |.int _ _| .str _| .any=>false
 |_=>true
def z0b0{x a}(h:x.odd=true)(b:Rel W g H x a):Value.odd a=true:=by
 cases b <;> first|rfl|(simp[V.odd]at h;done)
def zoe(P:Program)(t:Nat)(x y:V):Bool :=
 match x,y with
 |.agg _,.agg _ => !P.eqGuardType P.depth t
 |.nili,.nili=>false
 |.any,_|_,.any=>false
 |_,_=>true
def yad(P:Program)(op:BinOp)(t:Nat)(x y:V):Option V :=
 match x,y with
 |.int k a,.int d b=>match op with
  |.shl=>if b<0 then none else some (.int k (k.wrap (a * 2 ^ (min b.toNat k.bits))))
  |.shr=>if b<0 then none else some (.int k (a.fdiv (2 ^ (min b.toNat k.bits))))
  |_=>if k=d then yi9 op k a b else none
 |.str a,.str b=>z00n op a b
 |x,y=>match op with
  |.eql=>if x.odd&&zoe P t x y then (eqv P 24 t x y).map .bool else none
  |.neq=>if x.odd&&zoe P t x y then (eqv P 24 t x y).map λr=>.bool (!r)else none
  |_=>none
def yde{op t x y a b}(e d)(h:zoe P t x y=true)(j:Rel W g H x a)(i:Rel W g H y b):(eqGuard op t e d a b).run P W = .ok () W:=by
 unfold eqGuard;cases op <;> (try simp;done)
 all_goals
  simp[if_false]
  cases j <;> cases i <;> first|(simp[zoe]at h;done)|(simp;done)|(simp[zoe]at h;simp[h];done)
def z068{op:BinOp}{t:Nat}{x y v:V}{a b:Value}(o n:Operand)(h:yad P op t x y=some v)(d:Rel W g H x a)(m:Rel W g H y b) :
  Yields P W g H (do eqGuard op t o n a b;binOp op t a b) v:=by
 unfold yad at h;split at h
 ·rename_i k l w j;cases d;cases m;have e:(eqGuard op t o n (.int k l) (.int w j)).run P W = .ok () W:=by unfold eqGuard;cases op <;> simp
  split at h;split at h;cases h
  rename_i s;cases h
  exact .same (by simp[e,binOp,Op.shift,s]) (.int _ _);split at h;cases h
  rename_i s;cases h
  exact .same (by simp[e,binOp,Op.shift,s]) (.int _ _)
  ·split at h
   ·rename_i B;subst B;unfold yi9 at h;split at h
    all_goals first
     |(split at h
       cases h
       rename_i z;cases h
       exact .same (by simp only[Qbt,e,Qbu];simp[binOp,Op.intDiv,z]) (.int _ _))
     |(cases h
       first
       |exact .same (by simp only[Qbt,e,Qbu];simp[binOp,Op.intArith,Op.intCmp,Op.intBits,bits]) (.int _ _)
       |exact .same (by simp only[Qbt,e,Qbu];simp[binOp,Op.intArith,Op.intCmp,Op.intBits,bits]) (.bool _))
     |cases h
   cases h
 ·rename_i l j;cases d;cases m;have e:(eqGuard op t o n (.string ⟨l.toArray⟩) (.string ⟨j.toArray⟩)).run P W = .ok () W:=by unfold eqGuard;cases op <;> simp
  unfold z00n at h;split at h;split at h;rename_i A;cases h;refine .same (c:=.string ⟨(l++j).toArray⟩) ?_ (.str _);simp only[Qbt,e,Qbu]
  have u:¬((l.length+j.length:Nat):Int)>IntKind.i64.max:=by
   have:IntKind.i64.max=9223372036854775807:=by decide
   rw[this];unfold maxLen at A;omega
  have p:(⟨l.toArray⟩:ByteArray)++⟨j.toArray⟩=⟨(l++j).toArray⟩:=by
   apply ByteArray.ext;simp
  simp only[binOp,Op.stringOp,ByteArray.size,List.size_toArray,Sem.run_ite,u,if_false,p,Sem.run_pure];cases h
  all_goals first
   |(cases h
     exact .same (by simp only[Qbt,e,Qbu];simp[binOp,Op.stringOp]) (.bool _))
   |cases h
 split at h;split at h;rename_i i;simp only[Qag]at i;simp only[Qaf]at h;obtain⟨r,q,rfl⟩:=h;refine .same (c:=.bool r) ?_ (.bool r);have:=(yb7 (P:=P) 24).1 Op.maxDepth _ _ _ r a b (by decide) q d m;simp only[Qbt,yde o n i.2 d m,Qbu,binOp_eql (z0b0 i.1 d),Op.equal,this,Sem.run_pure];cases h;split at h;rename_i i;simp only[Qag]at i
 simp only[Qaf]at h;obtain⟨r,q,rfl⟩:=h;refine .same (c:=.bool (!r)) ?_ (.bool (!r));have:=(yb7 (P:=P) 24).1 Op.maxDepth _ _ _ r a b (by decide) q d m;simp only[Qbt,yde o n i.2 d m,Qbu,binOp_neq (z0b0 i.1 d),Op.equal,this,Sem.run_pure];cases h;cases h
end
section
variable {W:World}{g:Gh}{H:Heap}{P:Program}
def pUn(op:UnOp)(x:V):Option V :=
 match op,x with
 |.neg,.int k n=>some (.int k (k.wrap (0-n)))
 |.not,.bool b=>some (.bool (!b))
 |.xor,.int k n=>some (.int k (bits .xor k (if k.signed then -1 else k.max) n))
 |_,_=>none
def z08y{op x v c}(h:pUn op x=some v)(a:Rel W g H x c):Yields P W g H (Op.unary op c) v:=by
 unfold pUn at h;split at h;cases h;cases a;exact .same rfl (.int _ _);cases h;cases a;exact .same rfl (.bool _);cases h;cases a;exact .same rfl (.int _ _);cases h
def zt3(P:Program)(H:Heap)(t:Nat)(x:V):Option V :=
 match x with
 |.str s=>match P.underlying t with|some .string=>some (.int .i64 s.length)|_=>none
 |.nils=>match P.underlying t with|some (.slice _)=>some (.int .i64 0)|_=>none
 |.sl _ xs _=>match P.underlying t with|some (.slice _)=>some (.int .i64 xs.length)|_=>none
 |.hs l i b _ n _=>match P.underlying t with
  |some (.slice _)=>match H.get l i with|some (.arr a _ _ _ _)=>if a=b then some (.int .i64 n)else none|_=>none
  |_=>none
 |.mapn=>match P.underlying t with|some (.map _ _)=>some (.int .i64 0)|_=>none
 |.map l i=>match P.underlying t with
  |some (.map _ _)=>match H.get l i with|some (.map es)=>some (.int .i64 es.length)|_=>none
  |_=>none
 |.agg _=>match P.underlying t with|some (.array n _)=>some (.int .i64 n)|_=>none
 |_=>none
def z057(k:Good W g H){t ty:Nat}{x v c}(h:zt3 P H t x=some v)(d:Rel W g H x c):Yields P W g H (Builtin.len_ #[t] ty #[c]) v:=by
 unfold zt3 at h;split at h;split at h;rename_i b;cases h;cases d;exact .same (by grind[run_len_string,goInt,ByteArray.size]) (.int _ _);cases h;split at h;rename_i b;cases h;cases d;exact .same (by simp[Builtin.len_,yz3 b,goInt]) (.int _ _);cases h;split at h;rename_i b;cases h;cases d <;> exact .same (by simp[Builtin.len_,yz3 b,goInt]) (.int _ _)
 cases h;split at h;rename_i b;split at h;rename_i e;split at h;rename_i i;subst i;cases h
 cases d with
 |hs _ _ _ _ _ _ a m p q i j=>
  obtain⟨_,rfl,_⟩:=j _ _ _ _ e;exact .same (by simp[Builtin.len_,yz3 b,goInt]) (.int _ _)
 cases h;cases h;cases h;split at h;rename_i b;cases h;cases d;exact .same (by simp[Builtin.len_,yz3 b,goInt]) (.int _ _);cases h;split at h;rename_i b;split at h;rename_i es e;cases h;cases d;have⟨o,clock,n,l,_⟩:=k.obj _ _ _ e;exact .same (c:=.int .i64 o.size) (by simp[Builtin.len_,yz3 b,goInt,run_getObj_map W _ _ _ n]) (by rw[l];exact .int _ _);cases h;cases h;split at h
 rename_i b;cases h;cases d;exact .same (by simp[Builtin.len_,yz3 b,goInt]) (.int _ _);cases h;cases h
def bnd(y d:Nat):Option V->Option Nat
 |none=>some d
 |some (.int _ x)=>if 0<=x∧x<=y then some x.toNat else none
 |_=>none
def zm3(n:Nat)(lo hi a:Option V):Option (Nat×Nat×Option Nat) :=
 match a with
 |none=>(bnd n n hi).bind λh=>(bnd h 0 lo).bind λl=>some (l,h,none)
 |some m=>(bnd n n (some m)).bind λm=>match hi with
  |none=>none
  |some h=>(bnd m n (some h)).bind λh=>(bnd h 0 lo).bind λl=>some (l,h,some m)
inductive zgm? (W:World) (g:Gh) (H:Heap):Option V->Option Value->Prop where
 |none:zgm? W g H none none
 |some {v:V} {c:Value}(h:Rel W g H v c):zgm? W g H (some v) (some c)
def y34{y d Y v c r code}(i:y<=Y)(h:bnd y d (some v)=some r)(b:Rel W g H v c):(Instr.sliceBound c Y code).run P W = .ok r W∧r<=y:=by
 unfold bnd at h;split at h
 grind
 rename_i a;cases a;split at h;rename_i e;cases h;cases b
 grind[run_sliceBound]
 cases h;cases h
def zlv{n e lo hi x o p k r}(b)(A:n<=e)(h:zm3 n lo hi x=some r)(u:zgm? W g H lo o)(B:zgm? W g H hi p)(E:zgm? W g H x k) :
  (Instr.sliceBounds b n e o p k).run P W = .ok (r.1,r.2.1,r.2.2.getD e) W∧r.1<=r.2.1∧r.2.1<=n∧(∀m,r.2.2=some m->r.2.1<=m∧m<=n):=by
 unfold zm3 at h
 cases E with
 |none=>
  simp only[Qbw]at h;have⟨F,j,l,a,d⟩:=h;cases d
  cases B with
  |none=>
   simp[bnd,Qbn]at j;subst j
   cases u with
   |none=>simp[bnd,Qbn]at a;subst a;simp[Instr.sliceBounds]
   |some i=>
    have⟨q,w⟩:=y34 (P:=P) (code:=.sliceB) (Qbp _) a i
    simp[Instr.sliceBounds,q,w]
  |some s=>
   have⟨f1,f2⟩:=y34 (P:=P) (code:=if b then .sliceAcap else .sliceAlen) A j s
   cases u with
   |none=>simp[bnd,Qbn]at a;subst a;simp[Instr.sliceBounds,f1,f2]
   |some i=>
    have⟨q,w⟩:=y34 (P:=P) (code:=.sliceB) (Qbp _) a i
    simp_all[Instr.sliceBounds]
 |some C=>
  simp[Qbw]at h;have⟨m,D,h⟩:=h;have⟨z,y⟩:=y34 (P:=P) (code:=if b then .slice3Acap else .slice3Alen) A D C
  cases B with
  |none=>cases h
  |some s=>
   simp[Qbw]at h;have⟨F,j,l,a,d⟩:=h;cases d;have⟨f1,f2⟩:=y34 (P:=P) (code:=.slice3B) (Qbp _) j s
   cases u with
   |none=>simp[bnd,Qbn]at a;simp[Instr.sliceBounds,f1,z,y];omega
   |some i=>
    have⟨q,w⟩:=y34 (P:=P) (code:=.slice3C) (Qbp _) a i;simp[Instr.sliceBounds,q,f1,z,y];omega
def zkf(P:Program)(H:Heap)(t:Nat)(x:V)(lo hi h:Option V):Option V :=
 match x with
 |.str s=>match P.underlying t,h with
  |some .string,none=>(zm3 s.length lo hi none).map λr=>.str ((s.take r.2.1).drop r.1)
  |_,_=>none
 |.nils=>match P.underlying t with
  |some (.slice e)=>if (P.underlying e).isSome then (zm3 0 lo hi h).map λ_=>.nils else none
  |_=>none
 |.sl a xs full=>match P.underlying t with
  |some (.slice e)=>if a=P.cellsOf e∧(P.underlying e).isSome then (zm3 xs.length lo hi h).map λr=>
    .sl a ((xs.take r.2.1).drop r.1) (match r.2.2 with|some m=>m==r.2.1|none=>full&&r.2.1==xs.length)
   else none
  |_=>none
 |.hs l i b j n full=>match P.underlying t with
  |some (.slice e)=>match H.get l i with
   |some (.arr d _ a _ _)=>if d=b∧a=P.cellsOf e∧(P.underlying e).isSome then (zm3 n lo hi h).bind λr=>
     if r.1=0∨r.1<r.2.1 then some (.hs l i b (j+r.1) (r.2.1-r.1) (match r.2.2 with|some m=>m==r.2.1|none=>full&&r.2.1==n))else some (.sl a [] false)
    else none
   |_=>none
  |_=>none
 |_=>none
def yur(s:B8)(l h):(⟨s.toArray⟩:ByteArray).extract l h=⟨((s.take h).drop l).toArray⟩:=by
 apply ByteArray.ext
 grind[ByteArray.data_extract,List.drop_take]
theorem yfu{ρ r}(a:∀x,Rel W g H (ρ x) (r x))(o:Option Operand):zgm? W g H (o.map ρ) (o.map r):=by
 cases o with
 |none=>exact .none
 |some x=>exact .some (a x)
def zlz{xs:List V}{l h j x}(a:((xs.take h).drop l)[j]? = some x):xs[l+j]? = some x∧l+j<h:=by
 grind
def yvw(hG:Good W g H){t:Nat}{x v:V}{lo hi mx:Option V}{c:Value}{M N L:Option Value}(h:zkf P H t x lo hi mx=some v)(hx:Rel W g H x c)
  (Z:zgm? W g H lo M) (Y:zgm? W g H hi N) (X:zgm? W g H mx L):Yields P W g H (Instr.sliceAt t c M N L) v:=by
 unfold zkf at h;split at h;rename_i s;split at h;rename_i y;simp only[Qaf]at h;obtain⟨r,F,rfl⟩:=h;cases hx;cases X;have⟨I,e2,e3,_⟩:=zlv (P:=P) false (Qbp _) F Z Y .none;refine .same (c:=.string ((⟨s.toArray⟩:ByteArray).extract r.1 r.2.1)) ?_ ?_;rw[run_sliceAt_string W t _ _ _ _ y];have hs:(⟨s.toArray⟩:ByteArray).size=s.length:=by simp[ByteArray.size]
 simp[Instr.slice,yz3 y,hs,I];rw[yur];exact .str _;cases h;split at h;rename_i e y;split at h;rename_i he;have⟨d,U⟩:=Option.isSome_iff_exists.1 he;simp only[Qaf]at h;obtain⟨r,F,rfl⟩:=h;cases hx;have⟨I,e2,e3,e4⟩:=zlv (P:=P) true (Qbp 0) F Z Y X;refine .same (c:=.slice none 0 0) ?_ .nils;have A:P.elem t=e:=by simp[Program.elem,y]
 rw[run_sliceAt_slice W t _ _ _ _ (by rw[A];exact y)];have k1:r.1=0:=by omega
 have k2:r.2.1=0:=by omega
 have k3:r.2.2.getD 0=0:=by
  cases G:r.2.2 with
  |none=>rfl
  |some m=>have:=e4 m G;simp;omega
 simp[Instr.slice,yz3 y,I,zb2 U,k1,k2,k3];cases h;cases h;rename_i sz xs full;split at h;rename_i e y;split at h;rename_i hc;obtain⟨rfl,he⟩:=hc;have⟨d,U⟩:=Option.isSome_iff_exists.1 he;simp only[Qaf]at h;obtain⟨r,F,rfl⟩:=h;have A:P.elem t=e:=by simp[Program.elem,y]
 have z:∀(a:Option Addr) (k:Nat),xs.length<=k->(Instr.sliceAt t (.slice a xs.length k) M N L).run P W =
   .ok (.slice (if r.2.2.getD k=r.1 then a else a.map (·.add (r.1 * P.cellsOf e))) (r.2.1-r.1) (r.2.2.getD k-r.1)) W:=λa k p=>by
  have⟨I,e2,e3,_⟩:=zlv (P:=P) true p F Z Y X;rw[run_sliceAt_slice W t _ _ _ _ (by rw[A];exact y)];simp[Instr.slice,yz3 y,I,zb2 U]
 have O:∀k,xs.length<=k->r.1<=r.2.1∧r.2.1<=xs.length∧(∀m,r.2.2=some m->r.2.1<=m∧m<=xs.length):=λk p=>(zlv (P:=P) true p F Z Y X).2
 have hlen:((xs.take r.2.1).drop r.1).length=r.2.1-r.1:=by
  have⟨b1,b2,_⟩:=O _ (Qbp _);simp;omega
 have D:∀k,xs.length<=k->(full=true->k=xs.length)->(match r.2.2 with|some m=>m==r.2.1|none=>full&&r.2.1==xs.length)=true->r.2.2.getD k-r.1=r.2.1-r.1:=λk p B G=>by
  cases u:r.2.2 with
  |none=>
   simp only[u,Qag,Qbg]at G;have:=B G.1
   simp;omega
  |some m=>
   simp only[u,Qbg]at G;simp;omega
 have w:∀(a:Option Addr) (k:Nat),xs.length<=k->(full=true->k=xs.length)->(a=none->k=0)->r.2.1-r.1=0 ->
   Rel W g H (.sl (P.cellsOf e) ((xs.take r.2.1).drop r.1) (match r.2.2 with|some m=>m==r.2.1|none=>full&&r.2.1==xs.length))
    (.slice (if r.2.2.getD k=r.1 then a else a.map (·.add (r.1 * P.cellsOf e))) (r.2.1-r.1) (r.2.2.getD k-r.1)):=λa k p B ha h0=>by
  have h5:(xs.take r.2.1).drop r.1=[]:=Qao (by omega);rw[h5,h0];have C:=D k p B
  cases a with
  |none=>
   have:=ha rfl;subst this
   have:r.2.2.getD 0-r.1=0:=by
    cases u:r.2.2 with
    |none=>simp
    |some m=>have:=(O _ p).2.2 m u;simp;omega
   rw[this];simp only[Option.map_none,ite_self]
   exact .slnil _ _
  |some b=>
   generalize Q:(if r.2.2.getD k=r.1 then some b else (some b).map (·.add (r.1 * P.cellsOf e)))=q at *
   cases q with
   |none=>split at Q <;> simp at Q
   |some b'=>exact .sle _ _ b' _ (λG=>by rw[C G];exact h0)
 cases hx with
 |slnil=>exact .same (z none 0 (by simp)) (w none 0 (by simp) (by simp) (by simp) (by have:=(O _ (Qbp _)).2.1;simp at this;omega))
 |sle _ _ a k B=>exact .same (z (some a) k (by simp)) (w (some a) k (by simp) (by simpa using B) (by simp) (by have:=(O _ (Qbp _)).2.1;simp at this;omega))
 |sl _ _ _ b o k cc h9 hz p B hs hn hh h8=>
  refine .same (z _ k p) ?_;by_cases h0:r.2.1-r.1=0;exact w _ k p B (by simp) h0
  have G:r.2.2.getD k≠r.1:=by
   cases u:r.2.2 with
   |none=>have:=(O _ p);simp;omega
   |some m=>have:=(O _ p).2.2 m u;simp;omega
  rw[Qbr G];simp only[Qbk,add_eq];have C:=D k p B;generalize k5:(match r.2.2 with|some m=>m==r.2.1|none=>full&&r.2.1==xs.length)=fu at *;rw[<-hlen];refine .sl _ _ fu b (o+r.1 * P.cellsOf e) _ (λj t=>cc (r.1+j) t) h9 hz ?_ (λhl =>?_) (λj x R=>hs _ _ (zlz R).1) (λj x t v R ht =>?_) (λj x t v R ht=>hh _ _ _ _ (zlz R).1 ht) (λj x t v R ht=>h8 _ _ _ _ (zlz R).1 ht)
  rw[hlen]
  cases u:r.2.2 with
  |none=>have:=(O _ p);simp;omega
  |some m=>have:=(O _ p).2.2 m u;simp;omega
  rw[hlen];exact C hl;have:=hn _ _ _ _ (zlz R).1 ht;rw[Nat.add_mul]at this;rw[<-this];congr 2;omega
 cases h;cases h;rename_i l i hq J n full;split at h;rename_i e y;split at h;rename_i ho ty sz xs cp hg;split at h;rename_i hc;obtain⟨rfl,rfl,he⟩:=hc;have⟨d,U⟩:=Option.isSome_iff_exists.1 he;simp only[Qbw]at h;have⟨r,F,h⟩:=h;split at h;rename_i E;cases h;have A:P.elem t=e:=by simp[Program.elem,y]
 cases hx with
 |hs _ _ _ _ _ _ a m k h4 hv ha=>
  obtain⟨rfl,rfl,⟨p,T,C⟩,hk⟩:=ha _ _ _ _ hg;have⟨I,e2,e3,e4⟩:=zlv (P:=P) true p F Z Y X
  have k4:r.2.1<=r.2.2.getD k∧r.2.2.getD k<=k:=by
   cases u:r.2.2 with
   |none=>simp;omega
   |some m'=>have:=e4 m' u;simp;omega
  refine .same (c:=.slice (some ⟨g.ab l i,(J+r.1) * P.cellsOf e,none⟩) (r.2.1-r.1) (r.2.2.getD k-r.1)) ?_ ?_;rw[run_sliceAt_slice W t _ _ _ _ (by rw[A];exact y)];simp only[Instr.slice,Qbt,yz3 y,Qbu,I,zb2 U,Sem.run_pure]
  congr 2
  split;rename_i k6
  have:r.1=0:=by
   rcases E with h0|h0
   exact h0;omega
  rw[this,Nat.add_zero];simp only[Qbk,add_eq,Nat.add_mul];refine .hs _ _ _ _ _ _ _ _ _ h4 hv λhw hy hp k7 K =>?_
  rw[hg]at K;injection K with K;injection K with _ _ h7 h6 _
  subst h6;refine⟨by rw[h7],rfl,⟨by omega,by omega,λB =>?_⟩,by omega⟩
  cases u:r.2.2 with
  |none=>
   simp only[u,Qag,Qbg]at B;have:=C B.1
   simp;omega
  |some m'=>
   simp only[u,Qbg]at B;simp;omega
 rename_i E;cases h;have A:P.elem t=e:=by simp[Program.elem,y]
 cases hx with
 |hs _ _ _ _ _ _ a m k h4 hv ha=>
  obtain⟨rfl,rfl,⟨p,T,C⟩,hk⟩:=ha _ _ _ _ hg;have⟨I,e2,e3,e4⟩:=zlv (P:=P) true p F Z Y X;have h0:r.2.1-r.1=0:=by omega
  have z:(Instr.sliceAt t (.slice (some ⟨g.ab l i,J * P.cellsOf e,none⟩) m k) M N L).run P W =
    .ok (.slice (if r.2.2.getD k=r.1 then some ⟨g.ab l i,J * P.cellsOf e,none⟩else (some ⟨g.ab l i,J * P.cellsOf e,none⟩:Option Addr).map (·.add (r.1 * P.cellsOf e))) (r.2.1-r.1) (r.2.2.getD k-r.1)) W:=by
   rw[run_sliceAt_slice W t _ _ _ _ (by rw[A];exact y)];simp[Instr.slice,yz3 y,I,zb2 U]
  refine .same z ?_;rw[h0];split <;> exact .sle _ _ _ _ (λB=>by cases B)
 cases h;cases h;cases h;cases h
end
section
variable {W:World}{g:Gh}{H:Heap}{P:Program}
def yu9(d:TypeDesc)(x y:V):Option Bool :=
 match x,y with
 |.int k a,.int e b=>match d with| .int _=>if k=e then some (a==b)else none|_=>none
 |.str a,.str b=>match d with| .string=>some (a==b)|_=>none
 |.bool a,.bool b=>match d with| .bool=>some (a==b)|_=>none
 |_,_=>none
def ycu(d:TypeDesc)(k:V):List (V×V)->Nat->Option (Option (Nat×V))
 |[],_=>some none
 |e::es,i=>match yu9 d k e.1 with
  |some b=>if b then some (some (i,e.2))else ycu d k es (i+1)
  |none=>none
def yd3{d x y a b r}(h:yu9 d x y=some r)(i:Rel W g H x a)(e:Rel W g H y b):Instr.sameNow d a b=some r:=by
 unfold yu9 at h;split at h;cases i;cases e
 grind[Instr.sameNow]
 cases i;cases e;split at h
 simp_all[Instr.sameNow,beq_toListBytes]
 cases h;cases i;cases e
 grind[Instr.sameNow]
 cases h
def y0v{d k n}(s:Rel W g H k n):∀(es) (a) (i) (r),ycu d k es i=some r->a.length=es.length ->
  (∀(j:Nat) (p),es[j]? = some p->∃e,a[j]? = some e∧Rel W g H p.1 e.key∧Rel W g H p.2 e.val) ->
  match r with
  |none=>Instr.findNow d n a i=some none
  |some (j,v)=>∃e,Instr.findNow d n a i=some (some (j,e.val))∧Rel W g H v e.val∧i<=j∧a[j-i]? = some e∧∃p,es[j-i]? = some p∧yu9 d k p.1=some true
 |[],a,i,r,h,m,_=>by
  simp[ycu,Qbn]at h;subst h
  cases a with
  |nil=>rfl
  |cons=>simp at m
 |e::es,a,i,r,h,m,q=>by
  cases a with
  |nil=>simp at m
  |cons f a=>
   have⟨C,A,x,B⟩:=q 0 e rfl;simp[ycu]at h;split at h;rename_i b w;have z:=yd3 w s x;split at h;rename_i l;subst l;simp[Qbn]at h;subst h
   simp_all[Instr.findNow]
   rename_i l;have o:=by simpa using l
   subst o;have y:=y0v s es a (i+1) r h (by simpa using m) (λj p u=>by simpa using q (j+1) p (by simpa using u))
   grind[Instr.findNow]
   cases h
def zeroV(P:Program)(t:Nat):Option V:=((P.info? t).bind (·.zero)).map ofConst
def zu3{t v}(h:zeroV P t=some v):∃z,(zeroValue t).run P W = .ok z W∧Rel W g H v z:=by
 simp only[zeroV,Qaf,Qbw]at h;obtain⟨z,⟨i,hi,a⟩,rfl⟩:=h
 simp_all[zeroValue,typeInfo,zqw]
def y2o(P:Program)(k:Nat)(x:V):Option TypeDesc :=
 match P.underlying k,x with
 |some (.int q),.int _ _=>some (.int q)
 |some .string,.str _=>some .string
 |some .bool,.bool _=>some .bool
 |_,_=>none
def y94{k x d c}(h:y2o P k x=some d)(b:Rel W g H x c):P.underlying k=some d∧∀e n,(Instr.checkKey e (n+1) k c).run P W = .ok () W:=by
 unfold y2o at h;split at h;rename_i a;cases h;simp_all[Instr.checkKey,yz3];rename_i a;cases h;simp_all[Instr.checkKey,yz3];rename_i a;cases h;simp_all[Instr.checkKey,yz3];cases h
def z06v(H:Heap):V->Option (List (V×V))
 |.mapn=>some []
 |.map l i=>match H.get l i with
  |some (.map es)=>some es
  |_=>none
 |_=>none
def zwm(P:Program)(H:Heap)(t:Nat)(x k:V)(ok:Bool):Option V :=
 match P.underlying t with
 |some (.map a e)=>match z06v H x,y2o P a k,zeroV P e with
  |some es,some d,some z=>match ycu d k es 0 with
   |some r=>some (match r with
    |some p=>if ok then .tup [p.2,.bool true]else p.2
    |none=>if ok then .tup [z,.bool false]else z)
   |none=>none
  |_,_,_=>none
 |_=>none
def yhj{a b x y}(h:Rel W g H a x)(e:Rel W g H b y):Rel W g H (.tup [a,b]) (.tuple #[x,y]) :=
 .tup _ _ rfl λj v d=>by
   match j with
   |0=>simp_all
   |1=>simp_all
   |n+2=>simp at d
def yse(X:Good W g H){t x k v ok c D}(h:zwm P H t x k ok=some v)(J:Rel W g H x c)(L:Rel W g H k D):Yields P W g H (Instr.lookup t c D ok) v:=by
 unfold zwm at h;split at h;rename_i kt e K;split at h;rename_i es d z b E N;split at h;rename_i r U;injection h with h;have⟨G,q,o⟩:=zu3 (W:=W) (g:=g) (H:=H) N;have⟨s,A⟩:=y94 E L
 have B:∀(m:List MapEntry),m.length=es.length->(∀(j:Nat) (p:V×V),es[j]? = some p->∃e,m[j]? = some e∧Rel W g H p.1 e.key∧Rel W g H p.2 e.val) ->
   ∃R,Instr.findNow d D m 0=some R∧Rel W g H v (match R with|some (_,u)=>if ok then .tuple #[u,.bool true]else u|none=>if ok then .tuple #[G,.bool false]else G):=λm O a=>by
  have y:=y0v (d:=d) L es m 0 r U O a
  cases r with
  |none=>
   refine⟨none,y,?_⟩;subst h;cases ok;exact o
   exact yhj o (.bool false)
  |some p=>
   have⟨j,u⟩:=p;have⟨e',M,I,_⟩:=y;refine⟨some (j,e'.val),M,?_⟩;subst h;cases ok;exact I;exact yhj I (.bool true)
 unfold z06v at b;split at b;cases b;cases J;have⟨R,C,a⟩:=B [] rfl (by simp);refine .same ?_ a;have n:=MapKept.run_findKey (P:=P) (w:=W) (l:=[]) s C;cases R <;> simp[Instr.lookup,yz3 K,A,n,q] <;> cases ok <;> rfl
 split at b;rename_i l i h3 T;cases b;cases J;have⟨m,clock,h1,Z,_,_,Y⟩:=X.obj _ _ _ T;have⟨R,C,a⟩:=B m.toList (by simpa using Z) (λj p Q=>by simpa using Y j p Q);refine .same ?_ a;have n:=MapKept.run_findKey (P:=P) (w:=W) (l:=m.toList) s C;have F:=run_getObj_map (P:=P) W _ _ _ h1;cases R <;> simp[Instr.lookup,yz3 K,A,n,q,F] <;> cases ok <;> rfl
 cases b;cases b;cases h;cases h;cases h
def zkm(P:Program)(t:Nat)(x:V):Option V:=if P.concrete t then some (.iface t x)else none
def y3u{t x v c}(h:zkm P t x=some v)(a:Rel W g H x c):Yields P W g H (Instr.makeInterface t c) v:=by
 unfold zkm at h;split at h;rename_i b;cases h;exact .same (run_makeInterface W t c b) (.iface _ _ _ a);cases h
def zmf(P:Program)(x:V)(asserted:Nat)(ok:Bool):Option V :=
 match P.underlying asserted,x with
 |some (.interface _),_=>none
 |some _,.iface t v=>if t=asserted then some (if ok then .tup [v,.bool true]else v)else none
 |_,_=>none
def yag{t u:Nat}{x v ok c}(h:zmf P x u ok=some v)(e:Rel W g H x c):Yields P W g H (Instr.typeAssert c t u ok) v:=by
 unfold zmf at h;split at h;cases h;rename_i d m l k i;split at h;rename_i j;subst j;cases h
 cases e with
 |iface _ _ b a=>
  refine .same (c:=if ok then .tuple #[b,.bool true]else b) ?_ ?_
  cases d <;> first|(exact(k _ rfl).elim)|(simp[Instr.typeAssert,yz3 i])
  cases ok;exact a;exact yhj a (.bool true)
 cases h;cases h
def y2l(P:Program)(s d:Nat)(x:V):Option V :=
 match x with
 |.int _ n=>match P.underlying s,P.underlying d with
  |some _,some (.int k)=>some (.int k (k.wrap n))
  |_,_=>none
 |.str a=>match P.underlying s,P.underlying d with
  |some _,some .string=>some (.str a)
  |_,_=>none
 |_=>none
def ynu{s d x v c}(h:y2l P s d x=some v)(e:Rel W g H x c):Yields P W g H (convert s d c) v:=by
 unfold y2l at h;split at h;split at h;rename_i a b;cases h;cases e;exact .same (by simp[convert,yz3 a,yz3 b,Conv.intToInt]) (.int _ _);cases h;split at h;rename_i a b;cases h;cases e;exact .same (by simp[convert,yz3 a,yz3 b]) (.str _);cases h;cases h
def mxI(x y:Int):Int:=if y>x then y else x
def mnI(x y:Int):Int:=if y<x then y else x
def zwb(max:Bool):List V->Option V
 |[.int k x,.int _ y]=>some (.int k (match max with|true=>mxI x y|false=>mnI x y))
 |[.int k x,.int _ y,.int _ z]=>some (.int k (match max with|true=>mxI (mxI x y) z|false=>mnI (mnI x y) z))
 |_=>none
def z05i{xs v cs t ty}(h:zwb false xs=some v)(m:cs.size=xs.length)(d:∀j x,xs[j]? = some x->Rel W g H x (cs.getD j undef)):Yields P W g H (Builtin.min_ t ty cs) v:=by
 unfold zwb at h;split at h;rename_i k x n y;cases h
 obtain⟨a,b,rfl⟩:∃a b,cs = #[a,b]:=by
  cases cs with|mk l=>match l,m with|[a,b],_=>exact⟨a,b,rfl⟩
 have i:=d 0 _ rfl;have e:=d 1 _ rfl;cases i;cases e;exact .same (by simp[Builtin.min_,Builtin.min2,mnI]) (.int _ _)
 ·rename_i k x n y p z;cases h
  obtain⟨a,b,c,rfl⟩:∃a b c,cs = #[a,b,c]:=by
   cases cs with|mk l=>match l,m with|[a,b,c],_=>grind
  have i:=d 0 _ rfl;have e:=d 1 _ rfl;have o:=d 2 _ rfl;cases i;cases e;cases o;exact .same (by simp[Builtin.min_,Builtin.min2,mnI] <;> (repeat' split) <;> rfl) (.int _ _)
 cases h
def z04s{xs v cs t ty}(h:zwb true xs=some v)(m:cs.size=xs.length)(d:∀j x,xs[j]? = some x->Rel W g H x (cs.getD j undef)):Yields P W g H (Builtin.max_ t ty cs) v:=by
 unfold zwb at h;split at h;rename_i k x n y;cases h
 obtain⟨a,b,rfl⟩:∃a b,cs = #[a,b]:=by
  cases cs with|mk l=>match l,m with|[a,b],_=>exact⟨a,b,rfl⟩
 have i:=d 0 _ rfl;have e:=d 1 _ rfl;cases i;cases e;exact .same (by simp[Builtin.max_,Builtin.max2,mxI]) (.int _ _);rename_i k x n y p z;cases h
 obtain⟨a,b,c,rfl⟩:∃a b c,cs = #[a,b,c]:=by
  cases cs with|mk l=>match l,m with|[a,b,c],_=>grind
 have i:=d 0 _ rfl;have e:=d 1 _ rfl;have o:=d 2 _ rfl;cases i;cases e;cases o;exact .same (by simp_all[Builtin.max_,Builtin.max2,mxI]) (.int _ _);cases h
end
section
variable {W:World}{g:Gh}{H:Heap}{P:Program}
def V.yzo:V->Bool
 |.agg _=>true
 |v=>v.leaf
def zyj(W:World)(g:Gh)(H:Heap)(vs:List V)(cs:Array Value):Prop :=
 cs.size=vs.length∧(∀j v,vs[j]? = some v->(cs.getD j undef).oneCell'=true)∧∀j v,vs[j]? = some v->Rel W g H v (cs.getD j undef)
def zmy(W:World)(g:Gh)(H:Heap)(vs:List V)(cs:Array Value):Prop:=cs.size=vs.length∧∀j v,vs[j]? = some v->Rel W g H v (cs.getD j undef)
def zh2{x c}(h:x.yzo=true)(d:Rel W g H x c):zyj W g H x.cells c.cells:=by
 cases d
 case agg vs cs i b e=>exact⟨i,b,e⟩
 case any=>simp[V.yzo,V.leaf]at h
 case tup=>simp[V.yzo,V.leaf]at h
 all_goals
  refine⟨rfl,λj v a =>?_,λj v a =>?_⟩
  match j with
  |0=>rfl
  |n+1=>simp[V.cells]at a
  match j with
  |0=>
   simp[V.cells,Qbn]at a;subst a
   first
    |exact .bool _|exact .int _ _|exact .str _|exact .nilp|exact .nils|exact .mapn|exact .nilf|exact .nili
    |(constructor <;> assumption)
  |n+1=>simp[V.cells]at a
def z0m(cs:List V)(a:Nat)(xs:List V):List V:=cs.take a++xs++cs.drop (a+xs.length)
theorem ztm{cs xs a}(h:a+xs.length<=cs.length):(z0m cs a xs).length=cs.length:=by
 unfold z0m;simp;omega
def yhk{cs xs a j v}(h:a+xs.length<=cs.length)(b:(z0m cs a xs)[j]? = some v) :
  (j<a∧cs[j]? = some v)∨(a<=j∧j<a+xs.length∧xs[j-a]? = some v)∨(a+xs.length<=j∧cs[j]? = some v):=by
 unfold z0m at b;by_cases d:j<a;left;rw[Qay,Qal (by simp;omega),Qaw,Qbq d]at b;exact⟨d,b⟩;by_cases e:j<a+xs.length
 grind
 rw[Qav (by simp;omega),Qba]at b
 grind
def putCells(cells:Array Value)(a:Nat)(xs:Array Value):Array Value:=xs.zipIdx.foldl (λcs (c,j)=>cs.setIfInBounds (a+j) c) cells
def y55(a):∀(xs:List Value) (k) (cells:Array Value),
  ((xs.zipIdx k).foldl (λcs p=>cs.setIfInBounds (a+p.2) p.1) cells).size=cells.size ∧
  ∀i,((xs.zipIdx k).foldl (λcs p=>cs.setIfInBounds (a+p.2) p.1) cells)[i]? = if a+k<=i∧i<a+k+xs.length∧i<cells.size then xs[i-(a+k)]? else cells[i]?
 |[],k,cells=>by
  simp[List.length_nil]
  grind
 |x::xs,k,cells=>by
  have⟨h,e⟩:=y55 a xs (k+1) (cells.setIfInBounds (a+k) x);simp[List.foldl_cons];refine⟨by rw[h];simp,λi =>?_⟩;rw[e i];simp[List.length_cons];by_cases hi:a+(k+1)<=i∧i<a+(k+1)+xs.length∧i<cells.size;rw[Qbq hi,Qbq (by omega),show i-(a+k)=(i-(a+(k+1)))+1 by omega,List.getElem?_cons_succ];rw[Qbr hi,Array.getElem?_setIfInBounds];by_cases d:a+k=i;subst d;by_cases b:a+k<cells.size
  grind
  rw[Qbq rfl,Qbr b,Qbr (by omega)];simp[b]
  grind
def zkk(cells)(a)(xs):(putCells cells a xs).size=cells.size ∧
  ∀i,(putCells cells a xs)[i]? = if a<=i∧i<a+xs.size∧i<cells.size then xs[i-a]? else cells[i]? := by
 have⟨d,b⟩:=y55 a xs.toList 0 cells
 grind[putCells,Array.toList_zipIdx]
def ydh{vs xs cs i d}(h:zyj W g H vs cs)(k:zyj W g H xs i)(e:d+xs.length<=vs.length):zyj W g H (z0m vs d xs) (putCells cs d i):=by
 have⟨n,m⟩:=zkk cs d i;refine⟨by rw[n,ztm e,h.1],λj v l =>?_,λj v l =>?_⟩
 all_goals
  rw[Qae,m]
  rcases yhk e l with ⟨a,b⟩|⟨a,b,c⟩|⟨a,b⟩
  rw[Qbr (by omega),<-Qae];first|exact h.2.1 j v b|exact h.2.2 j v b
  rw[Qbq ⟨a,by rw[k.1];omega,by rw[h.1];omega⟩,<-Qae];first|exact k.2.1 _ v c|exact k.2.2 _ v c
  rw[Qbr (by rw[k.1];omega),<-Qae];first|exact h.2.1 j v b|exact h.2.2 j v b
def y0b(place:Nat->Option (Nat×Nat))(cells:List V):List (Nat×V)->Option (List V)
 |[]=>some cells
 |(i,x)::rest=>match place i with
  |none=>none
  |some (a,size)=>if x.yzo&&x.cells.length==size&&decide (a+size<=cells.length)then y0b place (z0m cells a x.cells) rest else none
def zqf{place}:∀(l) (a) (cells) (cs) (r),y0b place cells l=some r->zyj W g H cells cs ->
  a.length=l.length->(∀(j i:Nat) (x),l[j]? = some (i,x)->∃c,a[j]? = some (i,c)∧Rel W g H x c)->∃rs,Instr.fill place cs a=some rs∧zyj W g H r rs
 |[],a,cells,cs,r,h,n,m,_=>by
  simp[y0b,Qbn]at h;subst h
  cases a with
  |nil=>exact⟨cs,rfl,n⟩
  |cons=>simp at m
 |(i,x)::l,a,cells,cs,r,h,n,m,p=>by
  cases a with
  |nil=>simp at m
  |cons q a=>
   have⟨c,s,u⟩:=p 0 i x rfl;simp[Qbn]at s;subst s;simp only[y0b]at h;split at h;cases h;rename_i e size w;split at h;rename_i b;simp[Qar]at b;have⟨⟨A,F⟩,E⟩:=b;have k:=zh2 A u;have D:=k.1;have o:zyj W g H (z0m cells e x.cells) (putCells cs e c.cells):=ydh n k (by omega)
   have⟨rs,C,B⟩:=zqf l a _ _ r h o (by simpa using m) (λj i y z=>by simpa using p (j+1) i y (by simpa using z));refine⟨rs,?_,B⟩
   have d:¬((decide (c.cells.size≠size)||decide (e+c.cells.size>cs.size))=true):=by
    have:=n.1;simp;omega
   simp only[Instr.fill,w];rw[Qbr d];exact C;cases h
def ycn(P:Program)(a:List Field):Option (List (Nat×Nat)):=a.mapM λf=>(P.info? f.type).map λi=>(f.offset,i.size)
def partsOf(ρ:Operand->V)(a:Array (Nat×Operand)):List (Nat×V):=a.toList.map λp=>(p.1,ρ p.2)
def ygw(P:Program)(t:Nat)(a:List (Nat×V)):Option V :=
 match zeroV P t with
 |some (.agg z)=>match P.underlying t with
  |some (.struct b)=>match ycn P b.toList with
   |some places=>(y0b (λi=>places[i]?) z a).map .agg
   |none=>none
  |some (.array _ e)=>if (P.info? e).isSome then (y0b (λi=>some (i * P.cellsOf e,P.cellsOf e)) z a).map .agg else none
  |_=>none
 |_=>none
def yxa{t d v a}(h:ygw P t d=some v)(A:a.size=d.length)
  (I:∀(j i:Nat) (x:V),d[j]? = some (i,x)->∃c,a[j]? = some (i,c)∧Rel W g H x c):Yields P W g H (Instr.build t a) v:=by
 unfold ygw at h;split at h;rename_i z B;have⟨G,k,s⟩:=zu3 (W:=W) (g:=g) (H:=H) B
 cases s with
 |agg _ cs y m l=>
  split at h;rename_i F o;split at h;rename_i places C;simp[Qaf]at h;obtain⟨r,p,rfl⟩:=h;have⟨rs,q,b⟩:=zqf d a.toList z cs r p ⟨y,m,l⟩ (by simpa using A) (λj i x D=>by grind);refine .same (c:=.agg rs) ?_ (.agg _ _ b.1 b.2.1 b.2.2);have w:=run_places (P:=P) W F.toList places C;simp[Instr.build,k,yz3 o,Value.cells,Array.mapM_eq_mapM_toList,w,q];cases h
  rename_i n e o;split at h;rename_i E;have⟨i,hi⟩:=Option.isSome_iff_exists.1 E;simp[Qaf]at h;obtain⟨r,p,rfl⟩:=h;have⟨rs,q,b⟩:=zqf d a.toList z cs r p ⟨y,m,l⟩ (by simpa using A) (λj i x D=>by grind);refine .same (c:=.agg rs) ?_ (.agg _ _ b.1 b.2.1 b.2.2);have u:(sizeOf e).run P W = .ok (P.cellsOf e) W:=by simp[sizeOf,typeInfo,hi,Program.cellsOf]
  simp[Instr.build,k,yz3 o,Value.cells,u,q];cases h;cases h
 cases h
def zog:Nat->List (Nat×V)->Bool
 |_,[]=>true
 |k,(i,_)::r=>i==k&&zog (k+1) r
def zek(P:Program)(t len:Nat)(a:List (Nat×V)):Option V :=
 match P.underlying t with
 |some (.slice e)=>match zeroV P e with
  |some z=>
   if z.yzo&&z.cells.length==P.cellsOf e&&decide (0<P.cellsOf e)&&(P.info? e).isSome&&a.length==len&&zog 0 a&&a.all (λp=>p.2.yzo&&p.2.cells.length==P.cellsOf e)&&decide (len * P.cellsOf e<=2 ^ 24)then
    some (if len=0 then .sl (P.cellsOf e) [] true else .sl (P.cellsOf e) (a.map (·.2)) true)
   else none
  |none=>none
 |_=>none
def zur{a}:∀(xs:List V),(∀x∈xs,x.cells.length=a)->∀(j t) (x v),xs[j]? = some x->x.cells[t]? = some v->(xs.flatMap V.cells)[j * a+t]? = some v
 |[],_,j,t,x,v,b,_=>by simp at b
 |y::e,h,0,t,x,v,b,d=>by
  have l:=(Qaa.1 d).1
  simp_all[Qal]
 |y::e,h,j+1,t,x,v,b,d=>by
  have i:=h y (.head _);simp[List.flatMap_cons];rw[Qav (by grind),i,show(j+1) * a+t-a=j * a+t by grind];exact zur e (λx k=>h x (.tail _ k)) j t x v (by simpa using b) d
def y0m{a}:∀(b) (k) (cells),zog k b=true->(∀p∈b,p.2.yzo=true∧p.2.cells.length=a)->cells.length=(k+b.length) * a ->
  y0b (λi=>some (i * a,a)) cells b=some (cells.take (k * a)++(b.map (·.2)).flatMap V.cells)
 |[],k,cells,_,_,h=>by
  grind[y0b]
 |(i,x)::b,k,cells,d,e,h=>by
  simp[zog,Qbg]at d;obtain⟨rfl,d⟩:=d;have⟨n,m⟩:=e (i,x) (.head _)
  have l:i * a+a<=cells.length:=by
   rw[h,List.length_cons]
   grind
  simp[y0b,if_true]
  have hlen:(z0m cells (i * a) x.cells).length=(i+1+b.length) * a:=by
   grind[ztm]
  rw[y0m b (i+1) _ d (λp j=>e p (.tail _ j)) hlen];unfold z0m;rw[Nat.succ_mul,Qay,List.take_append,List.take_append]
  simp_all[List.take_of_length_le]
def yb9{t len:Nat}{s:List (Nat×V)}{v:V}{d:Array (Nat×Value)}(hG:Good W g H)(h:zek P t len s=some v)(hl:d.size=s.length)
  (L:∀(j i:Nat) (x:V),s[j]? = some (i,x)->∃c,d[j]? = some (i,c)∧Rel W g H x c):Yields P W g H (Instr.buildSlice t len d) v:=by
 unfold zek at h;split at h
 ·rename_i e hu;split at h
  ·rename_i z hz;split at h
   ·rename_i hc;simp only[Qag,Qbg,Qar,Qat]at hc;have⟨⟨⟨⟨⟨⟨⟨c1,c2⟩,c3⟩,c4⟩,M⟩,c6⟩,c7⟩,c8⟩:=hc;injection h with h;have⟨h3,hi⟩:=Option.isSome_iff_exists.1 c4;have B:(sizeOf e).run P W = .ok (P.cellsOf e) W:=by simp[sizeOf,typeInfo,hi,Program.cellsOf]
    have⟨m,T,R⟩:=zu3 (W:=W) (g:=g) (H:=H) hz;have⟨A,N,O⟩:=zh2 c1 R;have J:¬(len * P.cellsOf e>2 ^ 24):=by omega
    by_cases h0:len=0;subst h0;rw[Qbq rfl]at h;subst h;have X:s=[]:=Qao M;subst X;have I:d = #[]:=by simpa using hl
    subst I;refine⟨.slice (some ⟨W.heap.size,0,none⟩) 0 0,W.alloc (.cells (Array.map (λ_=>default) (Array.range 0)) e),?_,.alloc _ _,.sle _ _ _ _ (λ_=>rfl)⟩;simp[Instr.buildSlice,yz3 hu,B,Instr.fill,newRow]
    ·rw[Qbr h0]at h;subst h
     have Y:¬(len * P.cellsOf e=0):=by
      intro y
      rcases Nat.mul_eq_zero.1 y with q|q <;> omega
     let a:Array Value:=(Array.range (len * P.cellsOf e)).map (m.cells[· % m.cells.size]!)
     let r:List V:=(List.range (len * P.cellsOf e)).map λi=>z.cells.getD (i % z.cells.length) .any
     have u:zyj W g H r a:=by
      have Q:∀j v,r[j]? = some v->∃k,z.cells[k]? = some v∧a.getD j undef=m.cells.getD k undef:=λj v b=>by
       have F:j<len * P.cellsOf e:=by
        have:=(Qaa.1 b).1;simpa[r]using this
       simp only[r,Qan,List.getElem?_range F,Qbk,Qbn]at b;have y:j % z.cells.length<z.cells.length:=Nat.mod_lt _ (by omega)
       have hv:z.cells[j % z.cells.length]? = some v:=by
        rw[List.getD_eq_getElem?_getD,Qab y]at b;simp only[Option.getD_some]at b;rw[Qab y,b]
       have C:j % m.cells.size<m.cells.size:=by rw[A];exact y
       refine⟨_,hv,?_⟩;have L:(Array.range (len * P.cellsOf e))[j]? = some j:=by simp[F]
       simp only[a,Qae,Array.getElem?_map,L,Qbk,Option.getD_some];rw[getElem!_pos m.cells (j % m.cells.size) C]
       have U:(m.cells)[j % z.cells.length]? = some (m.cells[j % m.cells.size]):=by
        rw[<-A];exact Qas C
       rw[U];rfl
      refine⟨by simp[r,a],λj v b =>?_,λj v b =>?_⟩
      all_goals
       have⟨k,E,Z⟩:=Q j v b;rw[Z]
       first|exact N _ _ E|exact O _ _ E
     have G:=y0m s 0 r c6 c7 (by simp[r,M]);simp only[Nat.zero_mul,List.take_zero,Qbz]at G;have⟨rs,e1,K⟩:=zqf s d.toList r a _ G u (by simpa using hl) (λj i x b=>by simpa using L j i x b)
     have n:∀x∈s.map (·.2),x.cells.length=P.cellsOf e:=λx hx=>by
      obtain⟨p,hp,rfl⟩:=Qbb.1 hx;exact(c7 p hp).2
     refine⟨.slice (some ⟨W.heap.size,0,none⟩) len len,W.alloc (.cells rs e),?_,.alloc _ _,?_⟩;simp only[Instr.buildSlice,Qbt,yz3 hu,Qbu,B,Sem.run_ite,J,Y,if_false,Sem.run_pure,T];have h2:Instr.fill (λi=>some (i * P.cellsOf e,P.cellsOf e)) (Array.map (λx=>m.cells[x % m.cells.size]!) (Array.range (len * P.cellsOf e))) d.toList=some rs:=e1;simp[h2,newRow]
     have hlen:(s.map (·.2)).length=len:=by simp[M]
     have h1:=(Grow.alloc W (.cells rs e)).step (g:=g) (H:=H);rw[<-hlen];refine .sl _ _ true W.heap.size 0 _ (λj t=>rs.getD (j * P.cellsOf e+t) undef) (λhn =>?_) c3 (Qbp _) (λ_=>rfl) (λj x b=>n x (Qax b)) (λj x t v b w =>?_) (λj x t v b w=>K.2.1 _ _ (zur _ n j t x v b w)) (λj x t v b w =>?_);have⟨l,i,o,ho,hb⟩:=hn;have:=hG.lt l i o ho;omega
     have:=zur _ n j t x v b w;have D:=(Qaa.1 this).1;rw[Nat.zero_add];rw[World.cell?_alloc_new];rw[Qas (by rw[K.1];exact D)];simp[Qae,Qas (show j * P.cellsOf e+t<rs.size by rw[K.1];exact D)];exact(K.2.2 _ _ (zur _ n j t x v b w)).mono h1
   cases h
  cases h
 cases h
end
section
variable {W:World}{g:Gh}{H:Heap}{P:Program}
def y5b(z)(n j t a)(e:z.size=a)(h:t<a)(b:j<n):(madeCells z (n * a)).getD (j * a+t) undef=z.getD t undef:=by
 have d:j * a+t<n * a:=by
  have:(j+1) * a<=n * a:=Qau _ b
  grind
 simp_all[Nat.mod_eq_of_lt,madeCells]
def zln(P:Program)(t:Nat)(n c:V):Option V :=
 match n,c with
 |.int _ (.ofNat n),.int _ (.ofNat c)=>match P.underlying t with
  |some (.slice e)=>match P.info? e,zeroV P e with
   |some i,some z=>match z.yzo&&Nat.beq z.cells.length i.size&&Nat.blt 0 i.size&&Nat.ble n c&&Nat.ble c 1000000&&Nat.ble i.bytes 100000 with
    |true=>some (.sl i.size (List.replicate n z) (Nat.beq n c))
    |false=>none
   |_,_=>none
  |_=>none
 |_,_=>none
def yxj(hG:Good W g H){t:Nat}{n c v:V}{N O:Value}(h:zln P t n c=some v)(B:Rel W g H n N)(I:Rel W g H c O):Yields P W g H (Instr.makeSlice t N O) v:=by
 unfold zln at h;split at h;rename_i Z n Y c;split at h;rename_i e ht;split at h;rename_i i z hi J;split at h;rename_i M;simp only[Qag]at M;have⟨⟨⟨⟨⟨c1,w⟩,Q⟩,E⟩,D⟩,C⟩:=M;have w:=Qaj w;rw[Nat.blt_eq]at Q;have E:=Nat.le_of_ble_eq_true E;have D:=Nat.le_of_ble_eq_true D;have C:=Nat.le_of_ble_eq_true C;cases h;cases B;cases I
 obtain⟨d,G,F⟩:∃d,i.zero=some d∧Rel W g H z d:=by
  simp only[zeroV,hi,Option.bind_some,Qaf]at J;obtain⟨d,X,rfl⟩:=J;exact⟨d,X,zqw d⟩
 have⟨U,T,R⟩:=zh2 c1 F;have hb:i.bytes * c<=100000 * 1000000:=Nat.mul_le_mul C D;have q:=run_make (P:=P) W t e i d ht hi G Z Y (Int.ofNat n) (Int.ofNat c) (Int.natCast_nonneg n) (by show((n:Nat):Int)<=(c:Nat);omega) (by show((i.bytes:Nat):Int) * ((c:Nat):Int)<=_;rw[<-Int.natCast_mul];omega) (by show((c:Nat):Int)<=_;omega);simp only[Int.toNat,Int.ofNat_eq_natCast]at q
 have A:=Grow.alloc W (.cells (madeCells d.cells (c * i.size)) e);refine⟨.slice (some ⟨W.heap.size,0,none⟩) n c,_,by rw[show Int.ofNat n=((n:Nat):Int)from rfl,show Int.ofNat c=((c:Nat):Int)from rfl,q],A,?_⟩
 have s:∀(j:Nat) (x:V) (a:Nat) (u:V),(List.replicate n z)[j]? = some x->x.cells[a]? = some u->x=z∧j<n∧a<i.size:=λj x a u b m=>by
  rw[Qbi]at b;split at b;rename_i p;cases b;exact⟨rfl,p,by rw[<-w];exact(Qaa.1 m).1⟩;cases b
 have K:=Rel.sl (W:=W.alloc (.cells (madeCells d.cells (c * i.size)) e)) (g:=g) (H:=H) i.size (List.replicate n z) (Nat.beq n c) W.heap.size 0 c (λj a=>d.cells.getD a undef) (λB=>by
  have⟨l,k,o,ho,hb⟩:=B;have:=hG.lt l k o ho
  omega) Q (by simpa using E) (λhf=>by rw[List.length_replicate];exact(Qaj hf).symm) (λj x b=>by
  rw[Qbi]at b;split at b;cases b;exact w
  cases b) (λj x a u b m=>by
  obtain⟨rfl,p,r⟩:=s j x a u b m;rw[Nat.zero_add,World.cell?_alloc_new]
  have y:j * i.size+a<c * i.size:=by
   have:(j+1) * i.size<=c * i.size:=Qau _ (by omega);rw[Nat.succ_mul]at this;omega
  have L:=y5b d.cells c j a i.size (by rw[U,w]) r (by omega);rw[Qae,Qas (by rw[size_madeCells];exact y)]at L;rw[Qas (by rw[size_madeCells];exact y)]
  simpa using L) (λj x a u b m=>by
  obtain⟨rfl,p,r⟩:=s j x a u b m
  exact T a u m) (λj x a u b m=>by
  obtain⟨rfl,p,r⟩:=s j x a u b m
  exact(R a u m).mono A.step)
 rw[List.length_replicate]at K;exact K;cases h;cases h;cases h;cases h
end
section
variable {W:World}{g:Gh}{H:Heap}{P:Program}
def zf9(P:Program)(H:Heap)(ρ:Operand->V)(c:Call):Option V :=
 match c.callee with
 |.builtin .len=>match c.args.toList,c.argTypes.toList with
  |[x],[t]=>zt3 P H t (ρ x)
  |_,_=>none
 |.builtin .min=>zwb false (c.args.toList.map ρ)
 |.builtin .max=>zwb true (c.args.toList.map ρ)
 |_=>none
def pv(P:Program)(H:Heap)(ρ:Operand->V):Op->Option V
 |.move x=>some (ρ x)
 |.assign x=>some (ρ x)
 |.pick c a b=>match ρ c with
  |.bool t=>some (if t then ρ a else ρ b)
  |_=>none
 |.load t a=>zej P H t (ρ a)
 |.nilCheck x=>yal (ρ x)
 |.binOp op t x y _=>yad P op t (ρ x) (ρ y)
 |.unOp op _ x=>pUn op (ρ x)
 |.convert s d x=>y2l P s d (ρ x)
 |.makeInterface t x=>zkm P t (ρ x)
 |.makeFunc (.func f) first e=>some (.fn f (first.toList.map ρ) (e.toList.map ρ))
 |.slice t x lo hi j=>zkf P H t (ρ x) (lo.map ρ) (hi.map ρ) (j.map ρ)
 |.fieldAddr s x f=>zd6 P s f (ρ x)
 |.field s x f=>ykr P s f (ρ x)
 |.indexAddr t x i=>yzz P H t (ρ x) (ρ i)
 |.index t x i=>y9w P t (ρ x) (ρ i)
 |.lookup t x k ok=>zwm P H t (ρ x) (ρ k) ok
 |.typeAssert x _ u ok=>zmf P (ρ x) u ok
 |.extract x i=>y9q i (ρ x)
 |.build t h=>ygw P t (partsOf ρ h)
 |.buildSlice t len h=>zek P t len (partsOf ρ h)
 |.makeSlice t n c=>zln P t (ρ n) (ρ c)
 |.call c=>zf9 P H ρ c
 |_=>none
def y9r(P:Program)(W:World)(g:Gh)(H:Heap)(s:Sem Next)(v:V):Prop:=∃c W',s.run P W = .ok (.value c) W'∧Grow W W'∧Rel W' g H v c
def Yields.op{s v}(h:Yields P W g H s v):y9r P W g H (do pure (.value (<-s))) v:=by
 have⟨c,W',d,b,a⟩:=h;exact⟨c,W',by simp[d],b,a⟩
def zol{ρ}{r:Operand->Value}(b:∀x,Rel W g H (ρ x) (r x))(a) :
  (a.map λp=>(p.1,r p.2)).size=(partsOf ρ a).length∧∀(j i:Nat) (x),(partsOf ρ a)[j]? = some (i,x)->∃c,(a.map λp=>(p.1,r p.2))[j]? = some (i,c)∧Rel W g H x c:=by
 grind[partsOf,Qaf]
def zyw{ρ r}(b:∀x,Rel W g H (ρ x) (r x))(xs:Array Operand):zmy W g H (xs.toList.map ρ) (xs.map r):=by
 refine⟨by simp,λj v a =>?_⟩;simp[Array.getElem?_toList]at a;obtain⟨x,d,rfl⟩:=a
 simp_all
def z1o{α:Type}{a}{l:List α}(h:a.toList=l):a=l.toArray:=by rw[<-h]
def y8p{ρ:Operand->V}{r:Operand->Value}{o:Oper}{v:V}(w:Good W g H)(j:∀x,Rel W g H (ρ x) (r x))(h:pv P H ρ o.op=some v):y9r P W g H (execOp r o) v:=by
 unfold pv at h;unfold execOp;split at h
 rename_i x e;rw[e];cases h;exact⟨r x,W,rfl,.refl W,j x⟩
 rename_i x e;rw[e];cases h;exact⟨r x,W,rfl,.refl W,j x⟩
 rename_i c a b e;rw[e];split at h;rename_i t C;cases h;have m:=j c;rw[C]at m;generalize B:r c=G at m;cases m;cases t;exact⟨r b,W,by simp[asBool,B],.refl W,j b⟩;exact⟨r a,W,by simp[asBool,B],.refl W,j a⟩;cases h;rename_i t a e;rw[e];exact(z006 w h (j a)).op
 ·rename_i x e;rw[e];have m:=j x;generalize I:ρ x=u at h m;generalize C:r x=c at m;cases u <;> simp only[yal,Qbn,reduceCtorEq]at h
  all_goals
   subst h;refine⟨c,W,?_,.refl W,m⟩;cases m;simp only[C];rfl
 rename_i op t x y ty e;rw[e];exact(z068 x y h (j x) (j y)).op;rename_i op t x e;rw[e];exact(z08y h (j x)).op;rename_i s d x e;rw[e];exact(ynu h (j x)).op;rename_i t x e;rw[e];exact(y3u h (j x)).op
 rename_i f first q e;rw[e];cases h
 have m:=zyw j first;have p:=zyw j q;exact⟨.func (.func f) (first.map r) (q.map r),W,by simp[Instr.makeFunc],.refl W,.fn _ _ _ _ _ m.1 p.1 m.2 p.2⟩;rename_i t x lo hi D e;rw[e];exact(yvw w h (j x) (yfu j lo) (yfu j hi) (yfu j D)).op;rename_i s x f e;rw[e];exact(yfa h (j x)).op;rename_i s x f e;rw[e];exact(yxf h (j x)).op
 rename_i t x i e;rw[e];exact(yem h (j x) (j i)).op;rename_i t x i e;rw[e];exact(yy4 h (j x) (j i)).op;rename_i t x k ok e;rw[e];exact(yse w h (j x) (j k)).op;rename_i x t u ok e;rw[e];exact(yag h (j x)).op;rename_i x i e;rw[e];exact(yme h (j x)).op;rename_i t z e;rw[e];exact(yxa h (zol j z).1 (zol j z).2).op
 rename_i t len z e;rw[e];exact(yb9 w h (zol j z).1 (zol j z).2).op;rename_i t n c e;rw[e];exact(yxj w h (j n) (j c)).op;rename_i c e;rw[e];unfold zf9 at h;have l:=zyw j c.args;have⟨callee,args,argTypes⟩:=c;simp only at h l ⊢;split at h;split at h;rename_i x t F E;obtain rfl:=z1o F;obtain rfl:=z1o E;have⟨c,W',m,p,A⟩:=z057 (ty:=o.type) w h (j x);refine⟨c,W',?_,p,A⟩
 simp[resolve,invoke,builtin,m];cases h;have⟨c,W',m,p,A⟩:=z05i (P:=P) (t:=argTypes) (ty:=o.type) h l.1 l.2;exact⟨c,W',by simp[resolve,invoke,builtin,m],p,A⟩;have⟨c,W',m,p,A⟩:=z04s (P:=P) (t:=argTypes) (ty:=o.type) h l.1 l.2;exact⟨c,W',by simp[resolve,invoke,builtin,m],p,A⟩;cases h;cases h
end
section
variable {W:World}{g:Gh}{H:Heap}{P:Program}
def Heap.push(H:Heap)(o:yzm):Heap:={H with L:=H.L++[some o]}
def Heap.set(H:Heap)(l i:Nat)(o:yzm):Heap:=if l=H.lv then {H with L:=H.L.set i (some o)}else {H with E:=λa b=>if a=l∧b=i then some o else H.E a b}
def Heap.zjv(o)(l i):(H.push o).get l i=if l=H.lv∧i=H.L.length then some o else H.get l i:=by
 unfold Heap.get Heap.push;by_cases a:l=H.lv;by_cases hi:i=H.L.length;simp[a,hi];simp[a,if_false];by_cases b:i<H.L.length
 grind
 grind
 simp[a]
def Heap.yqq(o)(l i):(H.set l i o).lv=H.lv:=by unfold Heap.set;split <;> rfl
def Heap.yqf(o)(l i):(H.set l i o).L.length=H.L.length:=by unfold Heap.set;split <;> simp
def Heap.y38{o o' l i}(h:H.get l i=some o)(a d):(H.set l i o').get a d=if a=l∧d=i then some o' else H.get a d:=by
 unfold Heap.set;by_cases e:l=H.lv
 have j:i<H.L.length:=by
  unfold Heap.get at h;rw[Qbq e]at h
  grind
 rw[Qbq e];subst e;unfold Heap.get;dsimp only;by_cases b:a=H.lv;subst b;simp[true_and];rw[Qbc];by_cases k:i=d;subst k;simp[j]
 grind
 simp[b];rw[Qbr e];unfold Heap.get;by_cases b:a=H.lv;subst b;simp[if_true]
 grind
 simp[b]
def Gh.add(g:Gh)(l i b c:Nat):Gh where
 dom a d:=g.dom a d∨(a=l∧d=i)
 blk a d:=if a=l∧d=i then b else g.blk a d
 ab a d:=if a=l∧d=i then b else g.ab a d
 cap a d:=if a=l∧d=i then c else g.cap a d
 base:=g.base
def yzm.y3g{o:yzm}{l i a d b c}(h:¬(a=l∧d=i)):o.blk (g.add l i b c) a d=o.blk g a d:=by
 cases o <;> simp[yzm.blk,Gh.add,h]
def yzm.zod{o:yzm}{l i b c}:o.blk (g.add l i b c) l i=b:=by
 cases o <;> simp[yzm.blk,Gh.add]
def za2(P:Program)(W:World)(g:Gh)(H:Heap)(s:Sem Next)(v:V)(H':Heap):Prop :=
 ∃c W' g',(s.run P W = .ok (.value c) W'∨(s.run P W = .ok .skip W'∧c=undef))∧Step W g H W' g' H'∧Good W' g' H'∧Rel W' g' H' v c
def y9r.turns{s v}(b:Good W g H)(h:y9r P W g H s v):za2 P W g H s v H:=by
 have⟨c,W',e,a,d⟩:=h;exact⟨c,W',g,.inl e,a.step,b.grow a,d⟩
def zj5(j:Good W g H){O o}(c)
  (I:∀(W':World) (g':Gh) (H':Heap),W'=W.alloc O->g'=g.add H.lv H.L.length W.heap.size c->H'=H.push o->Step W g H W' g' H'->zgm W' g' H' H.lv H.L.length o) :
  Step W g H (W.alloc O) (g.add H.lv H.L.length W.heap.size c) (H.push o)∧Good (W.alloc O) (g.add H.lv H.L.length W.heap.size c) (H.push o):=by
 have u:¬g.dom H.lv H.L.length:=λh=>by rcases j.fresh _ _ h with h|⟨_,h⟩ <;> omega
 have n:∀l i,g.dom l i->¬(l=H.lv∧i=H.L.length):=λl i h q=>u (by grind)
 have p:=Grow.alloc W O
 have e:Step W g H (W.alloc O) (g.add H.lv H.L.length W.heap.size c) (H.push o):=by
  refine⟨rfl,rfl,rfl,p.size,λb r _=>p.block b r,λb r =>?_,λl i h=>.inl h,λl i h=>h.elim .inl (λq=>.inr q.1),λl i h=>by simp[Gh.add,n l i h],λl i x ty B xs A w y =>?_,rfl,rfl⟩;have⟨l,i,q,a,s⟩:=r;rw[Heap.zjv]at a;split at a;rename_i d;cases a;obtain⟨rfl,rfl⟩:=d;rw[yzm.zod]at s;right;omega;rename_i d;rw[yzm.y3g d]at s;exact .inl ⟨l,i,q,a,s⟩;rw[Heap.zjv,Qbr (n l i w)]at y
  exact⟨x,xs,A,y,Qbp _,λ_=>⟨by simp[Gh.add,n l i w],by simp[Gh.add,n l i w],Qbp _⟩⟩
 refine⟨e,?_,?_,?_,?_,?_,j.zqr.step e,Qbe j.base e.size⟩;intro l i q a;rw[Heap.zjv]at a;split at a;rename_i d;exact .inr d;exact .inl (j.dom l i q a);intro l i q a;rw[Heap.zjv]at a;split at a;rename_i d;obtain⟨rfl,rfl⟩:=d;rw[yzm.zod];simp;rename_i d;rw[yzm.y3g d];exact Qbd (j.lt l i q a) p.size;intro l i q F G E a k r;rw[Heap.zjv]at a k;split at a
 rename_i d;obtain⟨rfl,rfl⟩:=d;split at k;omega;rename_i m;rw[yzm.zod,yzm.y3g m]at r;have:=j.lt _ _ _ k;omega;rename_i d;split at k;rename_i m;obtain⟨rfl,rfl⟩:=m;rw[yzm.y3g d,yzm.zod]at r;have:=j.lt _ _ _ a;omega;rename_i m;rw[yzm.y3g d,yzm.y3g m]at r;exact j.inj _ _ _ _ _ _ a k r;intro l i h;show l<H.lv∨(l=H.lv∧i<(H.L++[some o]).length)
 rcases h with h|⟨z,J⟩
 rcases j.fresh l i h with q|⟨D,C⟩
 exact .inl q
 grind
 grind
 intro l i q a;rw[Heap.zjv]at a;split at a;rename_i d;obtain⟨rfl,rfl⟩:=d;injection a with a;grind;rename_i d;have z:=j.obj l i q a;exact z.mono e (p.block _ (j.lt l i q a)) (by simp[Gh.add,d]) (by simp[Gh.add,d]) (by simp[Gh.add,d])
def zgk(p:Good W g H){l i o o'}(w:H.get l i=some o)(I:o'.blk g l i=o.blk g l i){W'}
  (L:W'.os=W.os) (A:W'.tape=W.tape) (D:W'.output=W.output) (k:W.heap.size<=W'.heap.size) (m:∀b,b<W.heap.size->b≠o.blk g l i->W'.heap[b]? = W.heap[b]?)
  (E:∀r ty G xs J,o' = .arr r ty G xs J->∃v F z,o = .arr v ty G F z∧v<=r∧(v=r->F.length<=xs.length))
  (Q:Step W g H W' g (H.set l i o')->zgm W' g (H.set l i o') l i o') :
  Step W g H W' g (H.set l i o')∧Good W' g (H.set l i o'):=by
 have a:=Heap.y38 (o':=o') w
 have j:Step W g H W' g (H.set l i o'):=by
  refine⟨L,A,D,k,λb y x=>m b y (λq=>x ⟨l,i,o,w,q.symm⟩),λb O =>?_,λ_ _ h=>h,λ_ _ h=>.inl h,λ_ _ _=>rfl,λs u r ty G xs J hd B =>?_,Heap.yqq _ _ _,rfl⟩;have⟨s,u,q,d,K⟩:=O;rw[a]at d;split at d;rename_i n;obtain⟨rfl,rfl⟩:=n;cases d;exact .inl ⟨s,u,o,w,by omega⟩;exact .inl ⟨s,u,q,d,K⟩;rw[a]at B;split at B;rename_i n;obtain⟨rfl,rfl⟩:=n
  injection B with B;obtain⟨v,F,z,rfl,M,R⟩:=E _ _ _ _ _ B;exact⟨v,F,z,w,M,λe=>⟨rfl,rfl,R e⟩⟩;exact⟨r,xs,J,B,Qbp _,λ_=>⟨rfl,rfl,Qbp _⟩⟩
 refine⟨j,?_,?_,?_,?_,?_,p.zqr.step j,Qbe p.base j.size⟩;intro s u q d;rw[a]at d;split at d;rename_i n;obtain⟨rfl,rfl⟩:=n;exact p.dom _ _ _ w;exact p.dom _ _ _ d;intro s u q d;rw[a]at d;split at d;rename_i n;obtain⟨rfl,rfl⟩:=n;cases d;rw[I];exact Qbd (p.lt _ _ _ w) k;exact Qbd (p.lt _ _ _ d) k
 intro Y i1 U X Z T y x C;rw[a]at y x;split at y;rename_i n;obtain⟨rfl,rfl⟩:=n;cases y;rw[I]at C;split at x;omega;exact p.inj _ _ _ _ _ _ w x C;split at x;rename_i N;obtain⟨rfl,rfl⟩:=N;cases x;rw[I]at C;exact p.inj _ _ _ _ _ _ y w C;exact p.inj _ _ _ _ _ _ y x C;intro s u h;rw[Heap.yqq,Heap.yqf];exact p.fresh s u h;intro s u q d;rw[a]at d;split at d
 rename_i n;obtain⟨rfl,rfl⟩:=n
 grind
 rename_i n;refine(p.obj s u q d).mono j (m _ (p.lt _ _ _ d) λe =>?_) rfl rfl rfl;exact n (p.inj _ _ _ _ _ _ d w e)
def yiv{W' g' H' l i cs c ty}(h:W'.heap[g'.blk l i]? = some (.cells c ty (0,0)))(a:zyj W' g' H' cs c):zgm W' g' H' l i (.cells cs) :=
 ⟨c,ty,h,a.1,a.2.1,a.2.2⟩
theorem zyj.mono{vs cs}(h:zyj W g H vs cs){W' g' H'}(s:Step W g H W' g' H'):zyj W' g' H' vs cs:=⟨h.1,h.2.1,λj v a=>(h.2.2 j v a).mono s⟩
def z4l(W:World)(O):(W.alloc O).heap[W.heap.size]? = some O:=by
 show(W.heap.push O)[W.heap.size]? = _;simp
def y7v(i:Good W g H){t:Nat}{cs}{c:Value}{s}(d:zyj W g H cs c.cells)
  (b:s.run P W = .ok (.value (.pointer (some ⟨W.heap.size,0,none⟩))) (W.alloc (.cells c.cells t))):za2 P W g H s (.ptr H.lv H.L.length 0) (H.push (.cells cs)):=by
 have⟨k,j⟩:=zj5 i (O:=.cells c.cells t) (o:=.cells cs) 0 (λW' g' H' h e l a=>by
  refine yiv (c:=c.cells) (ty:=t) ?_ (d.mono a);rw[h,e];simp only[Gh.add,if_true]
  exact z4l _ _)
 refine⟨_,_,_,.inl b,k,j,?_⟩;have:=Rel.ptr (W:=W.alloc (.cells c.cells t)) (g:=g.add H.lv H.L.length W.heap.size 0) (H:=H.push (.cells cs)) H.lv H.L.length 0 (.inr ⟨rfl,rfl⟩);simpa[Gh.add]using this
def yhe(P:Program)(H:Heap)(t:Nat):Option (V×Heap) :=
 match zeroV P t with
 |some z=>if z.yzo then some (.ptr H.lv H.L.length 0,H.push (.cells z.cells))else none
 |none=>none
def yya(j:Good W g H){t v H'}(h:yhe P H t=some (v,H')):za2 P W g H (do pure (.value (<-Instr.alloc t true (.tuple #[])))) v H':=by
 unfold yhe at h;split at h;rename_i z e;split at h;rename_i i;injection h with h;cases h;have⟨d,b,a⟩:=zu3 (W:=W) (g:=g) (H:=H) e;exact y7v j (t:=t) (c:=d) (zh2 i a) (by simp[Instr.alloc,b,newVar,newRow]);cases h;cases h
def hBox(H:Heap)(x:V):Option (V×Heap):=if x.yzo then some (.ptr H.lv H.L.length 0,H.push (.cells x.cells))else none
theorem z03w(d:Good W g H){t:Nat}{x v c H'}(h:hBox H x=some (v,H'))(a:Rel W g H x c):za2 P W g H (do pure (.value (<-Instr.box t c))) v H':=by
 unfold hBox at h;split at h;rename_i b;injection h with h;cases h;exact y7v d (t:=t) (c:=c) (zh2 b a) (by simp[Instr.box,newVar,newRow]);cases h
def zrv(W:World)(b)(cs):(W.setRow b cs).os=W.os∧(W.setRow b cs).tape=W.tape∧(W.setRow b cs).output=W.output∧W.heap.size<=(W.setRow b cs).heap.size:=⟨rfl,rfl,rfl,by simp[World.setRow]⟩
def zpz(d)(o)(vs)(h:o+vs.size<=d.size):(d.toList.take o++vs.toList++d.toList.drop (o+vs.toList.length)).toArray=putCells d o vs:=by
 have⟨j,e⟩:=zkk d o vs;apply Array.ext_getElem?;intro i;rw[e i];simp only[List.getElem?_toArray];by_cases a:i<o;rw[Qbr (by omega),Qay,Qal (by simp;omega),Qaw,Qbq a,Array.getElem?_toList];by_cases b:i<o+vs.size
 rw[Qbq ⟨by omega,b,by omega⟩,Qay,Qav (by simp;omega),Qal (by simp;omega),Array.getElem?_toList]
 congr 1;simp;omega
 rw[Qbr (by omega),Qav (by simp;omega),Qba,Array.getElem?_toList]
 congr 1;simp;omega
def ze9(x:V)(cs:List V):V:=match x with
 |.agg _=>.agg cs
 |x=>cs.headD x
def fits(y:V)(cs:List V):Bool:=match y with| .agg _=>true|_=>match cs with|[c]=>c.leaf|_=>false
def yyu{x cs}(h:fits x cs=true):(ze9 x cs).cells=cs:=by
 cases x <;> first
  |rfl
  |(match cs,h with
    |[],h=>simp[fits]at h
    |[c],h=>cases c <;> first|rfl|(simp[fits,V.leaf]at h;done)
    |_::_::_,h=>simp[fits]at h)
def zgl(P:Program)(H:Heap)(t:Nat)(a x:V):Option (V×Heap) :=
 if x.yzo&&(P.info? t).isSome&&x.cells.length==P.cellsOf t then
  match a with
  |.ptr l i b=>match H.get l i with
   |some (.cells cs)=>if b+x.cells.length<=cs.length then some (.any,H.set l i (.cells (z0m cs b x.cells)))else none
   |_=>none
  |.ap l i d e b=>match H.get l i with
   |some (.arr h ty j xs k)=>if h=d then match xs[e]? with
    |some y=>if b+x.cells.length<=y.cells.length∧fits y (z0m y.cells b x.cells)=true then
      some (.any,H.set l i (.arr d ty j (xs.set e (ze9 y (z0m y.cells b x.cells))) k))else none
    |none=>none else none
   |_=>none
  |_=>none
 else none
def ycr{t:Nat}{b o a ty c}(hi:(P.info? t).isSome=true)(k:c.cells.size=P.cellsOf t)(h:∀v∈c.cells.toList,v.oneCell'=true)(e:W.heap[b]? = some (.cells a ty (0,0)))(d:o+c.cells.size<=a.size) :
  (Instr.storeAt t (.pointer (some ⟨b,o,none⟩)) c).run P W = .ok () (W.setRow b (putCells a o c.cells)):=by
 have⟨i,hi⟩:=Option.isSome_iff_exists.1 hi;have j:(sizeOf t).run P W = .ok (P.cellsOf t) W:=by simp[sizeOf,typeInfo,hi,Program.cellsOf]
 have:=run_storeCells_at P b o ty c.cells.toList 0 a W e (by simpa using d) h;simp only[Nat.add_zero]at this;rw[zpz a o c.cells d]at this
 simp_all[Instr.storeAt,Instr.sureAddr,storeVar]
def zyj.one{vs cs}(h:zyj W g H vs cs):∀v∈cs.toList,v.oneCell'=true:=λv b=>by
 obtain⟨j,d,rfl⟩:=List.getElem_of_mem b;have a:=by simpa using d
 have:=h.2.1 j (vs[j]'(by rw[<-h.1];exact a)) (Qab _)
 simp_all
theorem yw7(R:Good W g H){t a x v ca c H'}(h:zgl P H t a x=some (v,H'))(ha:Rel W g H a ca)(hx:Rel W g H x c):za2 P W g H (do Instr.storeAt t ca c;pure .skip) v H':=by
 unfold zgl at h;split at h;rename_i hc;simp[Qbg]at hc;have⟨⟨hs,hi⟩,hn⟩:=hc;have k:=zh2 hs hx;split at h;rename_i l i e;split at h;rename_i cs I;split at h;rename_i A;injection h with h;cases h
 cases ha with
 |ptr _ _ _ hd=>
  have⟨n,ty,K,Q,O,k4⟩:=R.obj _ _ _ I;have s:=ycr (P:=P) (t:=t) (o:=e) hi (by rw[k.1,hn]) k.one K (by rw[k.1,Q];exact A);have⟨Y,X,U,T⟩:=zrv W (g.blk l i) (putCells n e c.cells)
  have⟨q1,Z⟩:=zgk R (o':=.cells (z0m cs e x.cells)) I rfl Y X U T (λb _ hb=>setRow_other W _ b _ hb) (λ_ _ _ _ _ h=>by cases h) (λD=>by
   refine yiv (setRow_heap W _ n _ ty _ K) ?_
   exact(ydh ⟨Q,O,k4⟩ k A).mono D)
  exact⟨undef,_,g,.inr ⟨by simp[s],rfl⟩,q1,Z,.any _⟩
 cases h;cases h;rename_i l i h6 d e;split at h;rename_i M ty m xs cp I;split at h;rename_i hv;subst hv;split at h;rename_i y G;split at h;rename_i F;have⟨A,E⟩:=F;injection h with h;cases h
 cases ha with
 |ap _ _ _ _ _ ad hd hv h3=>
  obtain rfl:=h3 _ _ _ _ I;have⟨n,K,Q,O,h1,k4,k5,k6,k7,k8⟩:=R.obj _ _ _ I;have h4:=k6 _ _ G;have C:=(Qaa.1 G).1
  have h5:d * m+m<=n.size:=by
   rw[O]
   calc d * m+m=(d+1) * m:=by rw[Nat.succ_mul]
    _<=_:=Qau _ (by omega)
  have s:=ycr (P:=P) (t:=t) (o:=d * m+e) hi (by rw[k.1,hn]) k.one K (by rw[k.1];omega);have⟨Y,X,U,T⟩:=zrv W (g.ab l i) (putCells n (d * m+e) c.cells);have⟨p1,p2⟩:=zkk n (d * m+e) c.cells;have h2:=yyu E
  have⟨q1,Z⟩:=zgk R (o':=.arr M ty m (xs.set d (ze9 y (z0m y.cells e x.cells))) cp) I rfl Y X U T (λb _ hb=>setRow_other W _ b _ hb)
   (λ_ _ _ _ _ h=>by cases h;grind) (λD=>by
   have L:∀(j:Nat) (z:V) (r:Nat) (u:V),(xs.set d (ze9 y (z0m y.cells e x.cells)))[j]? = some z->z.cells[r]? = some u ->
     ((putCells n (d * m+e) c.cells).getD (j * m+r) undef).oneCell'=true∧Rel W g H u ((putCells n (d * m+e) c.cells).getD (j * m+r) undef):=λj z r u p w=>by
    rw[Qae,p2];rw[Qbc]at p;split at p;rename_i B;subst B
    try rw[Qbq C]at p
    cases p;rw[h2]at w
    rcases yhk A w with ⟨a1,J⟩|⟨a1,J,a3⟩|⟨a1,J⟩
    rw[Qbr (by omega),<-Qae];exact⟨k7 _ _ _ _ G J,k8 _ _ _ _ G J⟩;rw[Qbq ⟨by omega,by rw[k.1];omega,by omega⟩,show d * m+r-(d * m+e)=r-e by omega,<-Qae];exact⟨k.2.1 _ _ a3,k.2.2 _ _ a3⟩;rw[Qbr (by rw[k.1];omega),<-Qae];exact⟨k7 _ _ _ _ G J,k8 _ _ _ _ G J⟩;rename_i B;have h7:=k6 _ _ p
    have h8:=(Qaa.1 w).1
    have N:¬(d * m+e<=j * m+r∧j * m+r<d * m+e+c.cells.size∧j * m+r<n.size):=by
     rw[k.1];intro hh
     rcases Nat.lt_or_ge j d with q|q
     have:(j+1) * m<=d * m:=Qau _ q
     grind
     have:(d+1) * m<=j * m:=Qau _ (by omega);rw[Nat.succ_mul]at this;omega
    rw[Qbr N,<-Qae];exact⟨k7 _ _ _ _ p w,k8 _ _ _ _ p w⟩
   refine⟨_,setRow_heap W _ n _ ty _ K,Q,by rw[p1];exact O,h1,by simpa using k4,k5,λj z p =>?_,λj z r u p w=>(L j z r u p w).1,λj z r u p w=>(L j z r u p w).2.mono D⟩;rw[Qbc]at p;split at p;rename_i B;subst B
   try rw[Qbq C]at p
   grind[ztm]
   exact k6 _ _ p)
  exact⟨undef,_,g,.inr ⟨by simp[s],rfl⟩,q1,Z,.any _⟩
 cases h;cases h;cases h;cases h;cases h;cases h
end
section
variable {W:World}{g:Gh}{H:Heap}{P:Program}
def y0s(P:Program)(H:Heap)(t:Nat)(r:Option V):Option (V×Heap) :=
 match r with
 |none=>some (.map H.lv H.L.length,H.push (.map []))
 |some (.int _ _)=>match P.underlying t with
  |some (.map _ _)=>some (.map H.lv H.L.length,H.push (.map []))
  |_=>none
 |_=>none
def y89(e:Good W g H){s}(a:s.run P W = .ok (.value (.map (some W.heap.size))) (W.alloc (.map #[] 0))):za2 P W g H s (.map H.lv H.L.length) (H.push (.map [])):=by
 have⟨i,h⟩:=zj5 e (O:=.map #[] 0) (o:=.map []) 0 (λW' g' H' d b k j=>by
  refine⟨#[],0,?_,rfl,by simp,by simp,by simp⟩;rw[d,b];simp only[Gh.add,if_true]
  exact z4l _ _)
 refine⟨_,_,_,.inl a,i,h,?_⟩;have:=Rel.map (W:=W.alloc (.map #[] 0)) (g:=g.add H.lv H.L.length W.heap.size 0) (H:=H.push (.map [])) H.lv H.L.length (.inr ⟨rfl,rfl⟩);simpa[Gh.add]using this
theorem yod(e:Good W g H){t r b v H'}(h:y0s P H t r=some (v,H'))(a:zgm? W g H r b):za2 P W g H (do pure (.value (<-Instr.makeMap t b))) v H':=by
 unfold y0s at h;split at h;injection h with h;cases h;cases a
 simp_all[y89,Instr.makeMap]
 split at h;rename_i d;injection h with h;cases h
 cases a with
 |some a=>
  cases a
  simp_all[y89,Instr.makeMap,yz3,asInt,asIntOf]
 cases h;cases h
def y5l(es:List (V×V))(k x:V):Option (Nat×V)->List (V×V)
 |none=>es++[(k,x)]
 |some (j,_)=>es.set j (k,x)
def ziq(P:Program)(H:Heap)(t:Nat)(m k x:V):Option (V×Heap) :=
 match P.underlying t with
 |some (.map a _)=>match m with
  |.map l i=>match H.get l i with
   |some (.map es)=>match y2o P a k with
    |some d=>match ycu d k es 0 with
     |some r=>some (.any,H.set l i (.map (y5l es k x r)))
     |none=>none
    |none=>none
   |_=>none
  |_=>none
 |_=>none
def z04q{d a b}(h:Instr.sameNow d a b=some true):Instr.sameBits 10000 b a=true:=by
 unfold Instr.sameNow at h;split at h
 simp_all[Instr.sameBits]
 simp[Qbn]at h;rename_i a b;have e:=(MapKept.bytes_beq a b).1 h;subst e;simp[Instr.sameBits];omega
 simp_all[Instr.sameBits]
 cases h
theorem zxk(hG:Good W g H){t:Nat}{m k x v:V}{cm z y:Value}{H':Heap}(h:ziq P H t m k x=some (v,H'))(hm:Rel W g H m cm)(u:Rel W g H k z)(hx:Rel W g H x y) :
  za2 P W g H (do Instr.mapUpdate t cm z y;pure .skip) v H':=by
 unfold ziq at h;split at h;rename_i kt e hu;split at h;rename_i l i;split at h;rename_i es Y;split at h;rename_i d h5;split at h;rename_i r hf;cases h;cases hm;have⟨O,R⟩:=y94 (P:=P) h5 u;have⟨B,clock,b1,b2,N,b4,X⟩:=hG.obj _ _ _ Y;have h4:g.blk l i<W.heap.size:=hG.lt _ _ _ Y;have Q:=run_getObj_map (P:=P) W _ _ _ b1
 have J:=y0v (d:=d) u es B.toList 0 r hf (by simpa using b2) (λj p n=>by simpa using X j p n)
 have T:∀(s:Array MapEntry) (a:Nat),(Instr.mapUpdate t (.map (some (g.blk l i))) z y).run P W = .ok () {W with heap:=W.heap.setIfInBounds (g.blk l i) (.map s a)} ->
   s.size=(y5l es k x r).length->(∀e∈s,e.born<a)->(∀(j k:Nat) (e f:MapEntry),s[j]? = some e->s[k]? = some f->e.born=f.born->j=k) ->
   (∀(W':World) (H':Heap),Step W g H W' g H'->∀(j:Nat) (p:V×V),(y5l es k x r)[j]? = some p->∃e,s[j]? = some e∧Rel W' g H' p.1 e.key∧Rel W' g H' p.2 e.val) ->
   za2 P W g H (do Instr.mapUpdate t (.map (some (g.blk l i))) z y;pure .skip) .any (H.set l i (.map (y5l es k x r))):=by
  intro s a U e1 e2 e3 e4
  have A:∀b,({W with heap:=W.heap.setIfInBounds (g.blk l i) (.map s a)}:World).heap[b]? = if g.blk l i=b then (if g.blk l i<W.heap.size then some (Obj.map s a)else none)else W.heap[b]? := λb=>by
   show(W.heap.setIfInBounds _ _)[b]? = _;rw[Array.getElem?_setIfInBounds]
  have⟨q1,q2⟩:=zgk hG (o':=.map (y5l es k x r)) Y rfl (W':={W with heap:=W.heap.setIfInBounds (g.blk l i) (.map s a)}) rfl rfl rfl (by simp)
   (λb _ hb=>by rw[A,Qbr (λq=>hb q.symm)]) (λ_ _ _ _ _ h=>by cases h) (λo=>by
   refine⟨s,a,?_,e1,e2,e3,e4 _ _ o⟩
   rw[A,Qbq rfl,Qbq h4])
  exact⟨undef,_,g,.inr ⟨by simp[U],rfl⟩,q1,q2,.any _⟩
 cases r with
 |none=>
  simp only at J;have K:=MapKept.run_findKey (P:=P) (w:=W) O J;refine T (B.push {key:=z,val:=y,born:=clock}) (clock+1) ?_ (by simp[y5l,b2]) ?_ ?_ ?_;have G:=MapKept.run_setObj_map (P:=P) (w:=W) (.map (B.push {key:=z,val:=y,born:=clock}) (clock+1)) b1;simp[Instr.mapUpdate,yz3 hu,Q,R,K,G];intro e Z
  rcases Array.mem_push.1 Z with h|rfl
  have:=N e h;omega;exact Nat.lt_succ_self _;intro j k e f n u D;rw[Array.getElem?_push]at n u;split at n
  rename_i h8;cases n
  split at u;rename_i h6;omega;have:=N f (Array.mem_of_getElem? u);simp only at D;omega;split at u
  rename_i h6;cases u
  have:=N e (Array.mem_of_getElem? n);simp only at D;omega;exact b4 j k e f n u D;intro W' H' o j p n;simp only[y5l]at n;rw[Qaz]at n;split at n;have⟨e,F,h2,h3⟩:=X j p n;refine⟨e,?_,h2.mono o,h3.mono o⟩;rw[Array.getElem?_push,Qbr (by omega)];exact F;rename_i h9
  have:j=es.length:=by
   have:=(Qaa.1 n).1;simp at this;omega
  subst this;simp at n;subst n;refine⟨{key:=z,val:=y,born:=clock},?_,u.mono o,hx.mono o⟩
  rw[Array.getElem?_push,Qbq b2.symm]
 |some q=>
  have⟨M,v0⟩:=q;have⟨e0,f1,f2,f3,f4,p0,f5,f6⟩:=J;simp only[Nat.sub_zero]at f4 f5;have K:=MapKept.run_findKey (P:=P) (w:=W) O f1;have C:B[M]? = some e0:=by simpa using f4
  have⟨ha,g1,g2,_⟩:=X M p0 f5
  rw[C]at g1;cases g1
  have L:=z04q (yd3 f6 u g2);have h7:M<B.size:=(Qbh.1 C).1;refine T (B.modify M λe=>{e with key:=z,val:=y}) clock ?_ (by simp[y5l,b2]) ?_ ?_ ?_;have G:=MapKept.run_setObj_map (P:=P) (w:=W) (.map (B.modify M λe=>{e with key:=z,val:=y}) clock) b1;simp[Instr.mapUpdate,yz3 hu,Q,R,K,C,Instr.keyThatStays,L,G];intro e Z
  have⟨j,n⟩:=Array.getElem?_of_mem Z;rw[Qbx]at n;split at n;simp only[Qaf]at n;obtain⟨E,F,rfl⟩:=n;exact N E (Array.mem_of_getElem? F);exact N e (Array.mem_of_getElem? n);intro j k e f n u D;rw[Qbx]at n u
  have back:∀{j:Nat}{e:MapEntry},(if M=j then Option.map (λe=>({e with key:=z,val:=y}:MapEntry)) B[j]? else B[j]?)=some e->∃E,B[j]? = some E∧E.born=e.born:=λ{j e} n=>by
   split at n;simp only[Qaf]at n;obtain⟨E,F,rfl⟩:=n;exact⟨E,F,rfl⟩;exact⟨e,n,rfl⟩
  have⟨E,i1,i2⟩:=back n;have⟨f',i3,i4⟩:=back u;exact b4 j k E f' i1 i3 (by omega);intro W' H' o j p n;simp only[y5l]at n;rw[Qbc]at n;rw[Qbx];split at n;rename_i I;subst I;split at n;cases n;exact⟨{e0 with key:=z,val:=y},by rw[Qbq rfl,C];rfl,u.mono o,hx.mono o⟩;cases n;rename_i I;have⟨e,F,h2,h3⟩:=X j p n
  exact⟨e,by rw[Qbr I];exact F,h2.mono o,h3.mono o⟩
 cases h;cases h;cases h;cases h;cases h
end
end Go.Ab
