/-
  PACKAGE-LEVEL VARIABLES OF INTEGERS THAT THE CLAIM KNOWS THE CELLS OF, by their numbers: off the rows' own 'laid'; and those that hold an error.
-/
import Derived.Calls
import Derived.Below
import Derived.Laws.Slices
import Derived.Laws.Strings
import Derived.Laws.Cells
import Derived.WideLaws
import Derived.Laws.StructEq
import Derived.Laws.Build
import Derived.MapKept
import Derived.Laws.Tables
import Derived.Laws.MakeOwn
import Derived.Laws.AppendOwn
import Derived.Laws.CopyRow
namespace Go.Ab
theorem Qaa:type_of% @List.getElem?_eq_some_iff:=@List.getElem?_eq_some_iff
theorem Qab:type_of% @List.getElem?_eq_getElem:=@List.getElem?_eq_getElem
theorem Qac:type_of% @of_decide_eq_true:=@of_decide_eq_true
theorem Qad:type_of% @List.getElem_mem:=@List.getElem_mem
theorem Qae:type_of% @Array.getD_eq_getD_getElem?:=@Array.getD_eq_getD_getElem?
theorem Qaf:type_of% @Option.map_eq_some_iff:=@Option.map_eq_some_iff
theorem Qag:type_of% @Bool.and_eq_true:=@Bool.and_eq_true
theorem Qah:type_of% @List.getElem_cons_drop:=@List.getElem_cons_drop
theorem Qai:type_of% @List.mem_cons_of_mem:=@List.mem_cons_of_mem
theorem Qaj:type_of% @Nat.eq_of_beq_eq_true:=@Nat.eq_of_beq_eq_true
theorem Qak:type_of% @List.mem_cons_self:=@List.mem_cons_self
theorem Qal:type_of% @List.getElem?_append_left:=@List.getElem?_append_left
theorem Qam:type_of% @List.getElem?_set_ne:=@List.getElem?_set_ne
theorem Qan:type_of% @List.getElem?_map:=@List.getElem?_map
theorem Qao:type_of% @List.eq_nil_of_length_eq_zero:=@List.eq_nil_of_length_eq_zero
theorem Qap:type_of% @List.length_append:=@List.length_append
theorem Qaq:type_of% @List.getElem?_set_self:=@List.getElem?_set_self
theorem Qar:type_of% @decide_eq_true_eq:=@decide_eq_true_eq
theorem Qas:type_of% @Array.getElem?_eq_getElem:=@Array.getElem?_eq_getElem
theorem Qat:type_of% @List.all_eq_true:=@List.all_eq_true
theorem Qau:type_of% @Nat.mul_le_mul_right:=@Nat.mul_le_mul_right
theorem Qav:type_of% @List.getElem?_append_right:=@List.getElem?_append_right
theorem Qaw:type_of% @List.getElem?_take:=@List.getElem?_take
theorem Qax:type_of% @List.mem_of_getElem?:=@List.mem_of_getElem?
theorem Qay:type_of% @List.length_take:=@List.length_take
theorem Qaz:type_of% @List.append_assoc:=@List.append_assoc
theorem Qba:type_of% @List.getD_eq_getElem?_getD:=@List.getD_eq_getElem?_getD
theorem Qbb:type_of% @List.mem_append:=@List.mem_append
theorem Qbc:type_of% @List.mem_singleton:=@List.mem_singleton
theorem Qbd:type_of% @List.length_map:=@List.length_map
theorem Qbe:type_of% @List.getElem?_append:=@List.getElem?_append
theorem Qbf:type_of% @List.getElem?_drop:=@List.getElem?_drop
theorem Qbg:type_of% @List.mem_map:=@List.mem_map
theorem Qbh:type_of% @Array.getElem?_toList:=@Array.getElem?_toList
theorem Qbi:type_of% @List.getElem?_set:=@List.getElem?_set
theorem Qbj:type_of% @Nat.lt_of_lt_of_le:=@Nat.lt_of_lt_of_le
theorem Qbk:type_of% @Nat.le_trans:=@Nat.le_trans
theorem Qbl:type_of% @List.mem_cons:=@List.mem_cons
theorem Qbm:type_of% @beq_iff_eq:=@beq_iff_eq
theorem Qbn:type_of% @Array.getElem?_eq_some_iff:=@Array.getElem?_eq_some_iff
theorem Qbo:type_of% @List.getElem?_replicate:=@List.getElem?_replicate
theorem Qbp:type_of% @List.getElem?_of_mem:=@List.getElem?_of_mem
theorem Qbq:type_of% @Option.bind_some:=@Option.bind_some
theorem Qbr:type_of% @Option.map_some:=@Option.map_some
theorem Qbs:type_of% @decide_eq_false:=@decide_eq_false
theorem Qbt:type_of% @decide_eq_true:=@decide_eq_true
theorem Qbu:type_of% @Option.some.injEq:=@Option.some.injEq
theorem Qbv:type_of% @Nat.zero_le:=@Nat.zero_le
theorem Qbw:type_of% @Nat.le_refl:=@Nat.le_refl
theorem Qbx:type_of% @if_pos:=@if_pos
theorem Qby:type_of% @if_neg:=@if_neg
theorem Qbz:type_of% @Prod.mk.injEq:=@Prod.mk.injEq
theorem Qca:type_of% @Sem.run_bind:=@Sem.run_bind
theorem Qcb:type_of% @Result.andThen_ok:=@Result.andThen_ok
theorem Qcc:type_of% @List.length_nil:=@List.length_nil
theorem Qcd:type_of% @List.getElem?_cons_zero:=@List.getElem?_cons_zero
theorem Qce:type_of% @Option.bind_eq_some_iff:=@Option.bind_eq_some_iff
theorem Qcf:type_of% @List.getElem?_eq_none:=@List.getElem?_eq_none
theorem Qcg:type_of% @Array.getElem?_modify:=@Array.getElem?_modify
abbrev B8:=List UInt8
def gl0:List (IntKind×Int):=[(.u8,0),(.u8,0),(.u8,0),(.u8,0),(.u8,0),(.u8,0),(.u8,0),(.u8,0),(.u8,0),(.u8,1),(.u8,1),(.u8,1),(.u8,1),(.u8,1),(.u8,0),(.u8,0),(.u8,0),(.u8,0),(.u8,0),(.u8,0),(.u8,0),(.u8,0),(.u8,0),(.u8,0),(.u8,0),(.u8,0),(.u8,0),(.u8,0),(.u8,0),(.u8,0),(.u8,0),(.u8,0),(.u8,1),(.u8,0),(.u8,0),(.u8,0),(.u8,0),(.u8,0),(.u8,0),(.u8,0),(.u8,0),(.u8,0),(.u8,0),(.u8,0),(.u8,0),(.u8,0),(.u8,0),(.u8,0),(.u8,0),(.u8,0),(.u8,0),(.u8,0),(.u8,0),(.u8,0),(.u8,0),(.u8,0),(.u8,0),(.u8,0),(.u8,0),(.u8,0),(.u8,0),(.u8,0),(.u8,0),(.u8,0),(.u8,0),(.u8,0),(.u8,0),(.u8,0),(.u8,0),(.u8,0),(.u8,0),(.u8,0),(.u8,0),(.u8,0),(.u8,0),(.u8,0),(.u8,0),(.u8,0),(.u8,0),(.u8,0),(.u8,0),(.u8,0),(.u8,0),(.u8,0),(.u8,0),(.u8,0),(.u8,0),(.u8,0),(.u8,0),(.u8,0),(.u8,0),(.u8,0),(.u8,0),(.u8,0),(.u8,0),(.u8,0),(.u8,0),(.u8,0),(.u8,0),(.u8,0),(.u8,0),(.u8,0),(.u8,0),(.u8,0),(.u8,0),(.u8,0),(.u8,0),(.u8,0),(.u8,0),(.u8,0),(.u8,0),(.u8,0),(.u8,0),(.u8,0),(.u8,0),(.u8,0),(.u8,0),(.u8,0),(.u8,0),(.u8,0),(.u8,0),(.u8,0),(.u8,0),(.u8,0),(.u8,0),(.u8,0),(.u8,0),(.u8,0),(.u8,0),(.u8,0),(.u8,0),(.u8,0),(.u8,0),(.u8,0),(.u8,0),(.u8,0),(.u8,0),(.u8,0),(.u8,0),(.u8,0),(.u8,0),(.u8,0),(.u8,0),(.u8,0),(.u8,0),(.u8,0),(.u8,0),(.u8,0),(.u8,0),(.u8,0),(.u8,0),(.u8,0),(.u8,0),(.u8,0),(.u8,0),(.u8,0),(.u8,0),(.u8,0),(.u8,0),(.u8,0),(.u8,0),(.u8,0),(.u8,0),(.u8,0),(.u8,0),(.u8,0),(.u8,0),(.u8,0),(.u8,0),(.u8,0),(.u8,0),(.u8,0),(.u8,0),(.u8,0),(.u8,0),(.u8,0),(.u8,0),(.u8,0),(.u8,0),(.u8,0),(.u8,0),(.u8,0),(.u8,0),(.u8,0),(.u8,0),(.u8,0),(.u8,0),(.u8,0),(.u8,0),(.u8,0),(.u8,0),(.u8,0),(.u8,0),(.u8,0),(.u8,0),(.u8,0),(.u8,0),(.u8,0),(.u8,0),(.u8,0),(.u8,0),(.u8,0),(.u8,0),(.u8,0),(.u8,0),(.u8,0),(.u8,0),(.u8,0),(.u8,0),(.u8,0),(.u8,0),(.u8,0),(.u8,0),(.u8,0),(.u8,0),(.u8,0),(.u8,0),(.u8,0),(.u8,0),(.u8,0),(.u8,0),(.u8,0),(.u8,0),(.u8,0),(.u8,0),(.u8,0),(.u8,0),(.u8,0),(.u8,0),(.u8,0),(.u8,0),(.u8,0),(.u8,0),(.u8,0),(.u8,0),(.u8,0),(.u8,0),(.u8,0),(.u8,0),(.u8,0),(.u8,0),(.u8,0),(.u8,0),(.u8,0),(.u8,0),(.u8,0),(.u8,0),(.u8,0),(.u8,0),(.u8,0),(.u8,0),(.u8,0),(.u8,0),(.u8,0),(.u8,0),(.u8,0)]
def gl5:List (IntKind×Int):=[(.u64,1),(.u64,10),(.u64,100),(.u64,1000),(.u64,10000),(.u64,100000),(.u64,1000000),(.u64,10000000),(.u64,100000000),(.u64,1000000000),(.u64,10000000000),(.u64,100000000000),(.u64,1000000000000),(.u64,10000000000000),(.u64,100000000000000),(.u64,1000000000000000),(.u64,10000000000000000),(.u64,100000000000000000),(.u64,1000000000000000000),(.u64,10000000000000000000)]
def gl:Nat->Option (List (IntKind×Int))
 |0=>some gl0
 |5=>some gl5
 |_=>none
def gle:Nat->Bool
 |3=>true
 |4=>true
 |_=>false
inductive PV:Type where
 |bool (b:Bool)
 |int (k:IntKind) (n:Int)
 |str (s:B8)
 deriving Inhabited,DecidableEq
def PV.c:PV->Value
 |.bool b=>.bool b
 |.int k n=>.int k n
 |.str s=>.string ⟨s.toArray⟩
inductive V:Type where
 |any
 |bool (b:Bool)
 |int (k:IntKind) (n:Int)
 |str (s:B8)
 |nilp
 |ptr (l i off:Nat)
 |ref (cs:List V) (off:Nat)
 |ap (l i ver idx off:Nat)
 |nils
 |sl (sz:Nat) (xs:List V) (full:Bool)
 |hs (l i ver off n:Nat) (full:Bool)
 |mapn
 |map (l i:Nat)
 |mapc (es:List (PV×PV))
 |fn (f:Nat) (first caps:List V)
 |nilf
 |iface (t:Nat) (v:V)
 |nili
 |agg (cs:List V)
 |tup (vs:List V)
 deriving Inhabited
def V.cells:V->List V
 |.agg cs=>cs
 |v=>[v]
def V.leaf:V->Bool
 |.any| .agg _| .tup _=>false
 |_=>true
inductive zz4:Type where
 |cells (cs:List V)
 |arr (ver ty sz:Nat) (xs:List V) (cap:Option Nat)
 |map (es:List (V×V))
 |siter (s:B8) (pos:Nat)
 |mit (es:List (PV×PV)) (vis:List Nat)
structure Heap where
 lv:Nat
 L:List (Option zz4)
 E:Nat->Nat->Option zz4
def Heap.get(H:Heap)(l i:Nat):Option zz4:=if l=H.lv then (H.L[i]?).join else H.E l i
structure Gh where
 dom:Nat->Nat->Prop
 blk:Nat->Nat->Nat
 ab:Nat->Nat->Nat
 cap:Nat->Nat->Nat
 base:Nat:=0
def zz4.blk(g:Gh)(l i:Nat):zz4->Nat
 |.arr .. => g.ab l i
 |_=>g.blk l i
def Own(g:Gh)(H:Heap)(b:Nat):Prop:=∃l i o,H.get l i=some o∧o.blk g l i=b
def yf9(es:List (PV×PV))(en:Array MapEntry)(clock:Nat):Prop :=
 en.size=es.length∧(∀e∈en,e.born<clock)∧(∀(j k:Nat) (e f:MapEntry),en[j]? = some e->en[k]? = some f->e.born=f.born->j=k) ∧
  (∀(j:Nat) (p:PV×PV),es[j]? = some p->∃e,en[j]? = some e∧e.key=p.1.c∧e.val=p.2.c)
def z6b(en:Array MapEntry)(j:Nat):Nat:=(en[j]?.map (·.born)).getD 0
inductive Rel (W:World) (g:Gh) (H:Heap):V->Value->Prop where
 |any (c:Value):Rel W g H .any c
 |bool (b:Bool):Rel W g H (.bool b) (.bool b)
 |int (k:IntKind) (n:Int):Rel W g H (.int k n) (.int k n)
 |str (s:B8):Rel W g H (.str s) (.string ⟨s.toArray⟩)
 |nilp:Rel W g H .nilp (.pointer none)
 |ptr (l i off:Nat) (hd:g.dom l i):Rel W g H (.ptr l i off) (.pointer (some ⟨g.blk l i,off,none⟩))
 |ref (cs:List V) (off b o:Nat) (c:Nat->Value) (hb:cs≠[]->¬Own g H b) (hc:∀j v,cs[j]? = some v->W.cell? ⟨b,o+j,none⟩=some (c j)) (h1:∀j v,cs[j]? = some v->(c j).oneCell'=true) (hr:∀j v,cs[j]? = some v->Rel W g H v (c j)):Rel W g H (.ref cs off) (.pointer (some ⟨b,o+off,none⟩))
 |ap (l i ver idx off:Nat) (a:Addr) (hd:g.dom l i) (hv:∀v ty sz xs cp,H.get l i=some (.arr v ty sz xs cp)->ver<=v) (ha:∀ty sz xs cp,H.get l i=some (.arr ver ty sz xs cp)->a=⟨g.ab l i,idx * sz+off,none⟩):Rel W g H (.ap l i ver idx off) (.pointer (some a))
 |nils:Rel W g H .nils (.slice none 0 0)
 |slnil (sz:Nat) (full:Bool):Rel W g H (.sl sz [] full) (.slice none 0 0)
 |sle (sz:Nat) (full:Bool) (a:Addr) (cap:Nat) (hf:full=true->cap=0):Rel W g H (.sl sz [] full) (.slice (some a) 0 cap)
 |sl (sz:Nat) (xs:List V) (full:Bool) (b o cap:Nat) (c:Nat->Nat->Value) (hb:¬Own g H b) (hz:0<sz) (hcap:xs.length<=cap) (hf:full=true->cap=xs.length)
  (hs:∀(j:Nat) (x:V),xs[j]? = some x->x.cells.length=sz) (hc:∀(j:Nat) (x:V) (t:Nat) (v:V),xs[j]? = some x->x.cells[t]? = some v->W.cell? ⟨b,o+j * sz+t,none⟩=some (c j t))
  (h1:∀(j:Nat) (x:V) (t:Nat) (v:V),xs[j]? = some x->x.cells[t]? = some v->(c j t).oneCell'=true)
  (hr:∀(j:Nat) (x:V) (t:Nat) (v:V),xs[j]? = some x->x.cells[t]? = some v->Rel W g H v (c j t)):Rel W g H (.sl sz xs full) (.slice (some ⟨b,o,none⟩) xs.length cap)
 |hs (l i ver off n:Nat) (full:Bool) (a:Option Addr) (m cap:Nat) (hd:g.dom l i) (hv:∀v ty sz xs cp,H.get l i=some (.arr v ty sz xs cp)->ver<=v)
  (ha:∀ty sz xs cp,H.get l i=some (.arr ver ty sz xs cp)->a=some ⟨g.ab l i,off * sz,none⟩∧m=n∧(n<=cap∧off+cap<=g.cap l i∧(full=true->cap=n))∧off+n<=xs.length):Rel W g H (.hs l i ver off n full) (.slice a m cap)
 |mapn:Rel W g H .mapn (.map none)
 |map (l i:Nat) (hd:g.dom l i):Rel W g H (.map l i) (.map (some (g.blk l i)))
 |mapc (es:List (PV×PV)) (b:Nat) (en:Array MapEntry) (clock:Nat) (hb:¬Own g H b) (hw:W.heap[b]? = some (.map en clock)) (he:yf9 es en clock):Rel W g H (.mapc es) (.map (some b))
 |fn (f:Nat) (fs cs:List V) (fs' cs':Array Value) (h1:fs'.size=fs.length) (h2:cs'.size=cs.length) (r1:∀j v,fs[j]? = some v->Rel W g H v (fs'.getD j undef)) (r2:∀j v,cs[j]? = some v->Rel W g H v (cs'.getD j undef)):Rel W g H (.fn f fs cs) (.func (.func f) fs' cs')
 |nilf:Rel W g H .nilf .nilFunc
 |iface (t:Nat) (v:V) (c:Value) (h:Rel W g H v c):Rel W g H (.iface t v) (.iface t c)
 |nili:Rel W g H .nili .nilIface
 |agg (vs:List V) (cs:Array Value) (hn:cs.size=vs.length) (h1:∀j v,vs[j]? = some v->(cs.getD j undef).oneCell'=true) (hr:∀j v,vs[j]? = some v->Rel W g H v (cs.getD j undef)):Rel W g H (.agg vs) (.agg cs)
 |tup (vs:List V) (cs:Array Value) (hn:cs.size=vs.length) (hr:∀j v,vs[j]? = some v->Rel W g H v (cs.getD j undef)):Rel W g H (.tup vs) (.tuple cs)
def zal(W:World)(g:Gh)(H:Heap)(l i:Nat):zz4->Prop
 |.cells cs=>∃c ty,W.heap[g.blk l i]? = some (.cells c ty (0,0))∧c.size=cs.length∧(∀j v,cs[j]? = some v->(c.getD j undef).oneCell'=true)∧∀j v,cs[j]? = some v->Rel W g H v (c.getD j undef)
 |.arr _ ty sz xs cp=>∃c,W.heap[g.ab l i]? = some (.cells c ty (0,0))∧0<sz∧c.size=g.cap l i * sz∧g.cap l i<=maxLen∧xs.length<=g.cap l i∧(∀n,cp=some n->g.cap l i=n) ∧
  (∀(j:Nat) (x:V),xs[j]? = some x->x.cells.length=sz)∧(∀(j:Nat) (x:V) (t:Nat) (v:V),xs[j]? = some x->x.cells[t]? = some v->(c.getD (j * sz+t) undef).oneCell'=true) ∧
  ∀(j:Nat) (x:V) (t:Nat) (v:V),xs[j]? = some x->x.cells[t]? = some v->Rel W g H v (c.getD (j * sz+t) undef)
 |.map es=>∃en clock,W.heap[g.blk l i]? = some (.map en clock)∧en.size=es.length∧(∀e∈en,e.born<clock)∧(∀(j k:Nat) (e f:MapEntry),en[j]? = some e->en[k]? = some f->e.born=f.born->j=k) ∧
  (∀(j:Nat) (p:V×V),es[j]? = some p->∃e,en[j]? = some e∧Rel W g H p.1 e.key∧Rel W g H p.2 e.val)
 |.siter s pos=>W.heap[g.blk l i]? = some (.stringIter ⟨s.toArray⟩ pos)
 |.mit es vis=>∃en clock mb,W.heap[g.blk l i]? = some (.mapIter (some mb) clock (vis.map (z6b en)).toArray clock)∧¬Own g H mb∧W.heap[mb]? = some (.map en clock)∧yf9 es en clock
def yqg(W:World)(g:Gh)(H:Heap):Prop:=∀k cs,gl k=some cs->¬Own g H k∧∃ty q,W.heap[k]? = some (.cells (cs.map λp=>Value.int p.1 p.2).toArray ty q)
def yqm(W:World)(g:Gh)(H:Heap):Prop:=∀k,gle k=true->¬Own g H k∧∃v ty q,W.heap[k]? = some (.cells #[v] ty q)∧(v = .nilIface∨∃te pe,v = .iface te pe)
def zgf(W:World)(g:Gh)(H:Heap):Prop:=yqg W g H∧yqm W g H
structure Good(W:World)(g:Gh)(H:Heap):Prop where
 dom:∀l i o,H.get l i=some o->g.dom l i
 lt:∀l i o,H.get l i=some o->o.blk g l i<W.heap.size
 inj:∀l i o l' i' o',H.get l i=some o->H.get l' i'=some o'->o.blk g l i=o'.blk g l' i'->l=l'∧i=i'
 fresh:∀l i,g.dom l i->l<H.lv∨(l=H.lv∧i<H.L.length)
 obj:∀l i o,H.get l i=some o->zal W g H l i o
 ziy:zgf W g H
 base:g.base<=W.heap.size
structure Step(W:World)(g:Gh)(H:Heap)(W':World)(g':Gh)(H':Heap):Prop where
 os:W'.os=W.os
 tape:W'.tape=W.tape
 output:W'.output=W.output
 size:W.heap.size<=W'.heap.size
 block:∀b,b<W.heap.size->¬Own g H b->W'.heap[b]? = W.heap[b]?
 own:∀b,Own g' H' b->Own g H b∨W.heap.size<=b
 dom:∀l i,g.dom l i->g'.dom l i
 new:∀l i,g'.dom l i->g.dom l i∨l=H.lv
 blk:∀l i,g.dom l i->g'.blk l i=g.blk l i
 arr:∀l i ver ty sz xs cp,g.dom l i->H'.get l i=some (.arr ver ty sz xs cp)->∃v ys cp',H.get l i=some (.arr v ty sz ys cp')∧v<=ver∧(v=ver->g'.ab l i=g.ab l i∧g'.cap l i=g.cap l i∧ys.length<=xs.length)
 lv:H'.lv=H.lv
 base:g'.base=g.base
theorem zgf.step{W:World}{g:Gh}{H:Heap}(h:zgf W g H){W':World}{g':Gh}{H':Heap}(s:Step W g H W' g' H'):zgf W' g' H':=by
 have lt:∀{k:Nat}{o:Obj},W.heap[k]? = some o->k<W.heap.size:=λ{k o} h2=>by
  rcases Nat.lt_or_ge k W.heap.size with a|a
  exact a;rw[Array.getElem?_eq_none a]at h2;cases h2
 refine⟨λk cs hk =>?_,λk hk =>?_⟩;obtain⟨h1,ty,q,h2⟩:=h.1 k cs hk;have hlt:=lt h2;exact⟨λhn=>(s.own k hn).elim h1 (λa=>by omega),ty,q,by rw[s.block k hlt h1];exact h2⟩;obtain⟨h1,v,ty,q,h2,h3⟩:=h.2 k hk;have hlt:=lt h2;exact⟨λhn=>(s.own k hn).elim h1 (λa=>by omega),v,ty,q,by rw[s.block k hlt h1];exact h2,h3⟩
theorem zgf.zxt{W:World}{g g':Gh}{H H':Heap}(h:zgf W g H)(hown:∀b,Own g' H' b->Own g H b):zgf W g' H':=by
 refine⟨λk cs hk =>?_,λk hk =>?_⟩;obtain⟨h1,h2⟩:=h.1 k cs hk;exact⟨λhn=>h1 (hown k hn),h2⟩;obtain⟨h1,h2⟩:=h.2 k hk;exact⟨λhn=>h1 (hown k hn),h2⟩
theorem Step.refl(W:World)(g:Gh)(H:Heap):Step W g H W g H :=
 ⟨rfl,rfl,rfl,Qbw _,λ_ _ _=>rfl,λ_ h=>.inl h,λ_ _ h=>h,λ_ _ h=>.inl h,λ_ _ _=>rfl,λ_ _ ver _ _ xs cp _ h=>⟨ver,xs,cp,h,Qbw _,λ_=>⟨rfl,rfl,Qbw _⟩⟩,rfl,rfl⟩
theorem Step.trans{W W' W'':World}{g g' g'':Gh}{H H' H'':Heap}(h:Step W g H W' g' H')(k:Step W' g' H' W'' g'' H''):Step W g H W'' g'' H'' where
 os:=k.os.trans h.os
 tape:=k.tape.trans h.tape
 output:=k.output.trans h.output
 size:=Qbk h.size k.size
 block:=λb hb ho=>by
  rw[k.block b (Qbj hb h.size) (λhn =>?_),h.block b hb ho]
  rcases h.own b hn with h1|h1
  exact ho h1;omega
 own:=λb hb=>by
  rcases k.own b hb with h1|h1
  rcases h.own b h1 with h2|h2
  exact .inl h2;exact .inr h2;exact .inr (Qbk h.size h1)
 dom:=λl i hd=>k.dom l i (h.dom l i hd)
 new:=λl i hd=>by
  rcases k.new l i hd with h1|h1
  exact h.new l i h1;exact .inr (h1.trans h.lv)
 blk:=λl i hd=>(k.blk l i (h.dom l i hd)).trans (h.blk l i hd)
 arr:=λl i ver ty sz xs cp hd hg=>by
  obtain⟨v,ys,cp',h1,h2,h3⟩:=k.arr l i ver ty sz xs cp (h.dom l i hd) hg;obtain⟨u,zs,cp'',k1,k2,k3⟩:=h.arr l i v ty sz ys cp' hd h1;refine⟨u,zs,cp'',k1,Qbk k2 h2,λe =>?_⟩;have hv:v=ver:=by omega
  have hu:u=v:=by omega
  obtain⟨a1,a2,a3⟩:=h3 hv;obtain⟨b1,b2,b3⟩:=k3 hu;exact⟨a1.trans b1,a2.trans b2,Qbk b3 a3⟩
 lv:=k.lv.trans h.lv
 base:=k.base.trans h.base
theorem zvl{W:World}{b o:Nat}{v:Value}(h:W.cell? ⟨b,o,none⟩=some v):b<W.heap.size:=by
 unfold World.cell? at h
 rcases Nat.lt_or_ge b W.heap.size with h1|h1
 exact h1;simp[Array.getElem?_eq_none h1]at h
theorem y82{W W':World}{b o:Nat}(h:W'.heap[b]? = W.heap[b]?):W'.cell? ⟨b,o,none⟩=W.cell? ⟨b,o,none⟩:=by
 unfold World.cell?;simp only[h]
theorem Rel.mono{W:World}{g:Gh}{H:Heap}{v:V}{c:Value}(h:Rel W g H v c){W':World}{g':Gh}{H':Heap}(s:Step W g H W' g' H'):Rel W' g' H' v c:=by
 induction h with
 |any c=>exact .any c
 |bool b=>exact .bool b
 |int k n=>exact .int k n
 |str s=>exact .str s
 |nilp=>exact .nilp
 |ptr l i off hd=>rw[<-s.blk l i hd];exact .ptr l i off (s.dom l i hd)
 |ref cs off b o c hb hc ho1 hr ih=>
  cases cs with
  |nil=>exact .ref [] off b o c (λh=>absurd rfl h) (by simp) (by simp) (by simp)
  |cons x xs=>
   have h1:=zvl (hc 0 x rfl)
   exact .ref _ off b o c (λ_ hn=>(s.own b hn).elim (hb (by simp)) (by omega)) (λj v hj=>by rw[y82 (s.block b h1 (hb (by simp)))];exact hc j v hj) ho1 ih
 |ap l i ver idx off a hd hv ha=>
  refine .ap l i ver idx off a (s.dom l i hd) (λv ty sz xs cp hg =>?_) λty sz xs cp hg =>?_
  obtain⟨v',ys,cp',h1,h2,_⟩:=s.arr l i v ty sz xs cp hd hg;exact Qbk (hv _ _ _ _ _ h1) h2;obtain⟨v',ys,cp',h1,h2,h3⟩:=s.arr l i ver ty sz xs cp hd hg;have hle:=hv _ _ _ _ _ h1;obtain rfl:v'=ver:=by omega
  rw[(h3 rfl).1];exact ha _ _ _ _ h1
 |nils=>exact .nils
 |slnil sz full=>exact .slnil sz full
 |sle sz full a cap hf=>exact .sle sz full a cap hf
 |sl sz xs full b o cap c hb hz hcap hf hs hc ho1 hr ih=>
  cases xs with
  |nil=>exact .sle sz full _ cap (by simpa using hf)
  |cons x xs=>
   have hx:=hs 0 x rfl
   have h1:b<W.heap.size:=by
    cases hcs:x.cells with
    |nil=>rw[hcs]at hx;simp at hx;omega
    |cons v vs=>exact zvl (hc 0 x 0 v rfl (by rw[hcs];rfl))
   exact .sl sz _ full b o cap c (λhn=>(s.own b hn).elim hb (by omega)) hz hcap hf hs (λj x t v hj ht=>by rw[y82 (s.block b h1 hb)];exact hc j x t v hj ht) ho1 ih
 |hs l i ver off n full a m cap hd hv ha=>
  refine .hs l i ver off n full a m cap (s.dom l i hd) (λv ty sz xs cp hg =>?_) λty sz xs cp hg =>?_
  obtain⟨v',ys,cp',h1,h2,_⟩:=s.arr l i v ty sz xs cp hd hg;exact Qbk (hv _ _ _ _ _ h1) h2;obtain⟨v',ys,cp',h1,h2,h3⟩:=s.arr l i ver ty sz xs cp hd hg;have hle:=hv _ _ _ _ _ h1;obtain rfl:v'=ver:=by omega
  obtain⟨e1,e2,e3⟩:=h3 rfl;rw[e1,e2];obtain⟨k1,k2,k3,k4⟩:=ha _ _ _ _ h1
  exact⟨k1,k2,k3,Qbk k4 e3⟩
 |mapn=>exact .mapn
 |map l i hd=>rw[<-s.blk l i hd];exact .map l i (s.dom l i hd)
 |mapc es b en clock hb hw he=>
  have hlt:b<W.heap.size:=(Qbn.1 hw).1
  exact .mapc es b en clock (λhn=>(s.own _ hn).elim hb (λq=>by omega)) (by rw[s.block _ hlt hb];exact hw) he
 |fn f fs cs fs' cs' h1 h2 r1 r2 i1 i2=>exact .fn f fs cs fs' cs' h1 h2 i1 i2
 |nilf=>exact .nilf
 |iface t v c h ih=>exact .iface t v c ih
 |nili=>exact .nili
 |agg vs cs hn ho1 hr ih=>exact .agg vs cs hn ho1 ih
 |tup vs cs hn hr ih=>exact .tup vs cs hn ih
structure Grow(W W':World):Prop where
 os:W'.os=W.os
 tape:W'.tape=W.tape
 output:W'.output=W.output
 size:W.heap.size<=W'.heap.size
 block:∀b,b<W.heap.size->W'.heap[b]? = W.heap[b]?
theorem Grow.refl(W:World):Grow W W:=⟨rfl,rfl,rfl,Qbw _,λ_ _=>rfl⟩
theorem Grow.trans{a b c:World}(h:Grow a b)(k:Grow b c):Grow a c :=
 ⟨k.os.trans h.os,k.tape.trans h.tape,k.output.trans h.output,Qbk h.size k.size,λi hi=>(k.block i (Qbj hi h.size)).trans (h.block i hi)⟩
theorem Grow.alloc(W:World)(o:Obj):Grow W (W.alloc o) :=
 ⟨rfl,rfl,rfl,by simp,λb hb=>by show(W.heap.push o)[b]? = _;rw[Array.getElem?_push,Qby (by omega)]⟩
theorem Grow.drawn(W:World)(n:Nat):Grow W {W with drawn:=n}:=⟨rfl,rfl,rfl,Qbw _,λ_ _=>rfl⟩
theorem Grow.step{W W':World}{g:Gh}{H:Heap}(h:Grow W W'):Step W g H W' g H :=
 ⟨h.os,h.tape,h.output,h.size,λb hb _=>h.block b hb,λ_ h=>.inl h,λ_ _ h=>h,λ_ _ h=>.inl h,λ_ _ _=>rfl,λ_ _ ver _ _ xs cp _ h=>⟨ver,xs,cp,h,Qbw _,λ_=>⟨rfl,rfl,Qbw _⟩⟩,rfl,rfl⟩
theorem zal.mono{W:World}{g:Gh}{H:Heap}{l i:Nat}{o:zz4}(h:zal W g H l i o){W':World}{g':Gh}{H':Heap}(s:Step W g H W' g' H')
  (hb:W'.heap[o.blk g l i]? = W.heap[o.blk g l i]?) (hk:g'.blk l i=g.blk l i) (ha:g'.ab l i=g.ab l i) (hc:g'.cap l i=g.cap l i):zal W' g' H' l i o:=by
 cases o with
 |cells cs=>
  obtain⟨c,ty,h1,h2,h3,h4⟩:=h
  exact⟨c,ty,by rw[hk];exact hb.trans h1,h2,h3,λj v hj=>(h4 j v hj).mono s⟩
 |arr ver ty sz xs cp=>
  obtain⟨c,h1,h3,h4,h4',h5,h6,h7,h8,h9⟩:=h
  exact⟨c,by rw[ha];exact hb.trans h1,h3,by rw[hc];exact h4,by rw[hc];exact h4',by rw[hc];exact h5,by rw[hc];exact h6,h7,h8,λj x t v hj ht=>(h9 j x t v hj ht).mono s⟩
 |map es=>
  obtain⟨en,clock,h1,h2,h3,h4,h5⟩:=h;refine⟨en,clock,by rw[hk];exact hb.trans h1,h2,h3,h4,λj p hj =>?_⟩;obtain⟨e,he,k1,k2⟩:=h5 j p hj
  exact⟨e,he,k1.mono s,k2.mono s⟩
 |siter s pos=>exact(show W'.heap[g'.blk l i]? = _ by rw[hk];exact hb.trans h)
 |mit es vis=>
  obtain⟨en,clock,mb,h1,h3,h4,h5⟩:=h;have hlt:mb<W.heap.size:=(Qbn.1 h4).1;exact⟨en,clock,mb,by rw[hk];exact hb.trans h1,λhn=>(s.own _ hn).elim h3 (λq=>by omega),by rw[s.block _ hlt h3];exact h4,h5⟩
theorem Good.grow{W W':World}{g:Gh}{H:Heap}(h:Good W g H)(k:Grow W W'):Good W' g H :=
 ⟨h.dom,λl i o ho=>Qbj (h.lt l i o ho) k.size,h.inj,h.fresh,λl i o ho=>(h.obj l i o ho).mono k.step (k.block _ (h.lt l i o ho)) rfl rfl rfl,h.ziy.step k.step,Qbk h.base k.size⟩
end Go.Ab
namespace Go.Ab
open Go
set_option linter.unusedSimpArgs false
set_option linter.unusedVariables false
def z8k:Value->V
 |.bool b=>.bool b
 |.int k n=>.int k n
 |.string s=>.str s.data.toList
 |.pointer none=>.nilp
 |.slice none 0 0=>.nils
 |.map none=>.mapn
 |.nilFunc=>.nilf
 |.nilIface=>.nili
 |_=>.any
def ofConst:Value->V
 |.agg cs=>if cs.toList.all (·.oneCell')then .agg (cs.toList.map z8k)else .any
 |.tuple cs=>.tup (cs.toList.map z8k)
 |.iface t v=>.iface t (z8k v)
 |v=>z8k v
section
variable {W : World} {g : Gh} {H : Heap} {P : Program}
theorem zna(v:Value):Rel W g H (z8k v) v:=by
 unfold z8k;split;exact .bool _;exact .int _ _;exact .str _;exact .nilp;exact .nils;exact .mapn;exact .nilf;exact .nili;exact .any _
theorem zjo(v:Value):Rel W g H (ofConst v) v:=by
 unfold ofConst;split
 ·rename_i cs;split
  ·rename_i h1;refine .agg _ _ (by simp) (λj v hj =>?_) λj v hj =>?_
   all_goals
    simp only[Qan,Qaf]at hj;obtain⟨a,ha,rfl⟩:=hj;rw[Qbh]at ha;simp only[Qae,ha,Option.getD_some]
   exact Qat.1 h1 a (by rw[Array.mem_toList_iff];exact Array.mem_of_getElem? ha);exact zna _
  exact .any _
 rename_i cs;refine .tup _ _ (by simp) λj v hj =>?_
 simp only[Qan,Qaf]at hj;obtain⟨a,ha,rfl⟩:=hj;rw[Qbh]at ha;simp only[Qae,ha,Option.getD_some];exact zna _;exact .iface _ _ _ (zna _);exact zna _
def rd(P:Program)(t:Nat)(cs:List V)(off:Nat):Option V :=
 match P.underlying t with
 |none=>none
 |some (.struct _)|some (.array _ _)=>if off+P.cellsOf t<=cs.length then some (.agg ((cs.drop off).take (P.cellsOf t)))else none
 |some _=>cs[off]?
theorem info_of_underlying{t:Nat}{d:TypeDesc}(h:P.underlying t=some d):∃i,P.info? t=some i∧P.cellsOf t=i.size:=by
 unfold Program.underlying at h;unfold Program.cellsOf
 cases hi:P.info? t with
 |none=>simp[hi]at h
 |some i=>exact⟨i,rfl,by simp⟩
theorem yz2{t:Nat}{d:TypeDesc}(h:P.underlying t=some d):(underlying t).run P W = .ok d W:=by
 simp[underlying,h]
theorem z6e{t:Nat}{d:TypeDesc}(h:P.underlying t=some d):(sizeOf t).run P W = .ok (P.cellsOf t) W:=by
 obtain⟨i,hi,hc⟩:=info_of_underlying h;simp[sizeOf,typeInfo,hi,hc]
def TypeDesc.isAgg:TypeDesc->Bool
 |.struct _| .array _ _=>true
 |_=>false
theorem znm{t:Nat}{d:TypeDesc}(h:P.underlying t=some d):(isAgg t).run P W = .ok (TypeDesc.isAgg d) W:=by
 simp[isAgg,underlying,h];cases d <;> simp[TypeDesc.isAgg]
theorem yi2{t:Nat}{cs:List V}{off:Nat}{v:V}(h:rd P t cs off=some v):∃d,P.underlying t=some d ∧
  ((TypeDesc.isAgg d=true∧off+P.cellsOf t<=cs.length∧v = .agg ((cs.drop off).take (P.cellsOf t)))∨(TypeDesc.isAgg d=false∧cs[off]? = some v)):=by
 unfold rd at h;split at h;cases h;rename_i hu;split at h
 rename_i hle;injection h with h;exact⟨_,hu,.inl ⟨rfl,hle,h.symm⟩⟩
 cases h;rename_i hu;split at h
 rename_i hle;injection h with h;exact⟨_,hu,.inl ⟨rfl,hle,h.symm⟩⟩
 cases h;rename_i d hd1 hd2 hu;refine⟨d,hu,.inr ⟨?_,h⟩⟩
 cases d <;> first|rfl|(exact(hd1 _ rfl).elim)|(exact(hd2 _ _ rfl).elim)
theorem zgl{t:Nat}{cs:List V}{off:Nat}{v:V}{b o:Nat}{c:Nat->Value}(h:rd P t cs off=some v)
  (hc:∀j x,cs[j]? = some x->W.cell? ⟨b,o+j,none⟩=some (c j)) (h1c:∀j x,cs[j]? = some x->(c j).oneCell'=true) (hr:∀j x,cs[j]? = some x->Rel W g H x (c j)) :
  ∃u,(loadVar t ⟨b,o+off,none⟩).run P W = .ok u W∧Rel W g H v u:=by
 obtain⟨d,hd,⟨ha,hle,rfl⟩|⟨ha,hv⟩⟩:=yi2 h
 have hl:∀j,j<P.cellsOf t->W.cell? ((⟨b,o+off,none⟩:Addr).add j)=some (c (off+j)):=λj hj=>by
  have:=hc (off+j) (cs[off+j]'(by omega)) (by rw[Qab]);unfold Addr.add;split;rename_i h0;subst h0;simpa using this
  simpa[Nat.add_assoc]using this
 refine⟨.agg ((List.range (P.cellsOf t)).map λj=>c (off+j)).toArray,?_,?_⟩;simp[loadVar,znm hd,ha,z6e hd,run_loadCells W _ _ _ hl];refine .agg _ _ (by simp;omega) (λj x hj =>?_) λj x hj =>?_
 rw[Qaw]at hj;split at hj;rename_i hjlt;rw[Qbf]at hj;have:=h1c _ _ hj;simpa[hjlt]using this;cases hj;rw[Qaw]at hj;split at hj;rename_i hjlt;rw[Qbf]at hj;have:=hr _ _ hj;simpa[hjlt]using this;cases hj;refine⟨c off,?_,hr _ _ hv⟩;simp[loadVar,znm hd,ha,hc _ _ hv]
theorem zh5{t:Nat}{cs:List V}{off:Nat}{v:V}{a:Array Value}(h:rd P t cs off=some v)(hn:a.size=cs.length)
  (h1c:∀j x,cs[j]? = some x->(a.getD j undef).oneCell'=true) (hr:∀j x,cs[j]? = some x->Rel W g H x (a.getD j undef)):∃u,(part t a off).run P W = .ok u W∧Rel W g H v u:=by
 obtain⟨d,hd,⟨ha,hle,rfl⟩|⟨ha,hv⟩⟩:=yi2 h
 ·refine⟨.agg (a.extract off (off+P.cellsOf t)),by simp[part,znm hd,ha,z6e hd],?_⟩
  have h2:∀j,j<P.cellsOf t->(a.extract off (off+P.cellsOf t)).getD j undef=a.getD (off+j) undef:=λj hj=>by
   simp only[Qae];rw[Array.getElem?_extract];rw[Qbx (by omega)]
  refine .agg _ _ (by simp;omega) (λj x hj =>?_) λj x hj =>?_
  all_goals
   rw[Qaw]at hj;split at hj;rename_i hjlt;rw[Qbf]at hj;rw[h2 j hjlt]
   first|exact h1c _ _ hj|exact hr _ _ hj
   cases hj
 have hlt:off<a.size:=by rw[hn];exact(Qaa.1 hv).1
 refine⟨a.getD off undef,?_,hr _ _ hv⟩;simp[part,znm hd,ha,Qas hlt]
def Yields(P:Program)(W:World)(g:Gh)(H:Heap)(s:Sem Value)(v:V):Prop:=∃c W',s.run P W = .ok c W'∧Grow W W'∧Rel W' g H v c
theorem Yields.same{s:Sem Value}{v:V}{c:Value}(h:s.run P W = .ok c W)(hr:Rel W g H v c):Yields P W g H s v:=⟨c,W,h,.refl W,hr⟩
def zse(H:Heap)(l i ver idx:Nat):Option (Nat×List V) :=
 match H.get l i with
 |some (.arr ver' _ sz xs _)=>if ver'=ver then (xs[idx]?).map λx=>(sz,x.cells)else none
 |_=>none
def z7g(P:Program)(H:Heap)(t:Nat):V->Option V
 |.ref cs off=>rd P t cs off
 |.ptr l i off=>match H.get l i with
  |some (.cells cs)=>rd P t cs off
  |_=>none
 |.ap l i ver idx off=>(zse H l i ver idx).bind λp=>rd P t p.2 off
 |_=>none
theorem cell_of{b j:Nat}{c:Array Value}{ty:TypeId}{f:Nat×Nat}(h:W.heap[b]? = some (.cells c ty f))(hj:j<c.size):W.cell? ⟨b,j,none⟩=some (c.getD j undef):=by
 simp[World.cell?,h,hj]
theorem yh4(hG:Good W g H){l i ver idx:Nat}{p:Nat×List V}(h:zse H l i ver idx=some p) :
  ∃ty sz xs cp x,H.get l i=some (.arr ver ty sz xs cp)∧xs[idx]? = some x∧p=(sz,x.cells)∧x.cells.length=sz ∧
   ∃c,W.heap[g.ab l i]? = some (.cells c ty (0,0))∧idx * sz+sz<=c.size∧(∀t v,x.cells[t]? = some v->(c.getD (idx * sz+t) undef).oneCell'=true)∧∀t v,x.cells[t]? = some v->Rel W g H v (c.getD (idx * sz+t) undef):=by
 unfold zse at h;split at h;rename_i ver' ty sz xs cp hg;split at h;rename_i hv;subst hv;simp only[Qaf]at h;obtain⟨x,hx,rfl⟩:=h;obtain⟨c,h1,h3,h4,h4',h5,h6,h7,h8,h9⟩:=hG.obj l i _ hg;refine⟨ty,sz,xs,cp,x,hg,hx,rfl,h7 _ _ hx,c,h1,?_,λt v ht=>h8 _ _ _ _ hx ht,λt v ht=>h9 _ _ _ _ hx ht⟩;have:=(Qaa.1 hx).1;rw[h4]
 calc idx * sz+sz=(idx+1) * sz:=by rw[Nat.succ_mul]
  _<=_:=Qau _ (by omega)
 cases h;cases h
theorem zxe(hG:Good W g H){t:Nat}{x v:V}{c:Value}(h:z7g P H t x=some v)(hx:Rel W g H x c):∃a u,c = .pointer (some a)∧(loadVar t a).run P W = .ok u W∧Rel W g H v u:=by
 unfold z7g at h;split at h
 cases hx with
 |ref cs off b o c hb hc ho1 hr=>
  obtain⟨u,h1,h2⟩:=zgl h hc ho1 hr;exact⟨_,u,rfl,h1,h2⟩
 rename_i l i off;split at h;rename_i cs hg
 cases hx with
 |ptr _ _ _ hd=>
  obtain⟨a,ty,h1,h3,h3',h4⟩:=hG.obj l i _ hg
  obtain⟨u,k1,k2⟩:=zgl (b:=g.blk l i) (o:=0) (c:=λj=>a.getD j undef) h (λj y hj=>by
   have:=(Qaa.1 hj).1
   simpa using cell_of h1 (by omega)) (λj y hj=>h3' _ _ hj) (λj y hj=>h4 _ _ hj)
  rw[Nat.zero_add]at k1;exact⟨_,u,rfl,k1,k2⟩
 cases h;rename_i l i ver idx off;simp only[Qce]at h;obtain⟨p,hp,h⟩:=h;obtain⟨ty,sz,xs,cp,y,hg,hy,rfl,hl,a,h1,h3,h3',h4⟩:=yh4 hG hp
 cases hx with
 |ap _ _ _ _ _ ad hd hv ha=>
  obtain rfl:=ha _ _ _ _ hg
  obtain⟨u,k1,k2⟩:=zgl (b:=g.ab l i) (o:=idx * sz) (c:=λj=>a.getD (idx * sz+j) undef) h (λj z hj=>by
   have:=(Qaa.1 hj).1;simp only at this
   exact cell_of h1 (by omega)) (λj z hj=>h3' _ _ hj) (λj z hj=>h4 _ _ hj)
  exact⟨_,u,rfl,k1,k2⟩
 cases h
theorem yh5(hG:Good W g H){t:Nat}{x v:V}{c:Value}(h:z7g P H t x=some v)(hx:Rel W g H x c):Yields P W g H (Instr.loadAt t c) v:=by
 obtain⟨a,u,rfl,h1,h2⟩:=zxe hG h hx;exact .same (c:=u) (by simp[Instr.loadAt,Instr.sureAddr,h1]) h2
def zl4(P:Program)(s f:Nat):Option Nat :=
 match P.underlying s with
 |some (.struct fs)=>match fs[f]? with
  |some x=>if (P.underlying x.type).isSome&&P.cellsOf x.type != 0 then some x.offset else none
  |none=>none
 |_=>none
def z88(P:Program)(s f:Nat)(x:V):Option V :=
 match zl4 P s f with
 |none=>none
 |some o=>match x with
  |.ref cs off=>some (.ref cs (off+o))
  |.ptr l i off=>some (.ptr l i (off+o))
  |.ap l i ver idx off=>some (.ap l i ver idx (off+o))
  |_=>none
theorem add_eq(b o n:Nat):(⟨b,o,none⟩:Addr).add n=⟨b,o+n,none⟩:=by
 unfold Addr.add;split;rename_i h;subst h;rfl;rfl
theorem zq4{s f:Nat}{o:Nat}{a:Addr}(h:zl4 P s f=some o):(Instr.fieldAt s (.pointer (some a)) f).run P W = .ok (.pointer (some (a.add o))) W:=by
 unfold zl4 at h;split at h;rename_i fs hu;split at h;rename_i x hx;split at h;rename_i hc;simp only[Qag,bne_iff_ne,ne_eq]at hc;injection h with h;subst h;obtain⟨d,hd⟩:=Option.isSome_iff_exists.1 hc.1;simp[Instr.fieldAt,yz2 hu,hx,Instr.sureAddr,fieldPlace,z6e hd,hc.2];cases h;cases h;cases h
theorem zyu{s f:Nat}{x v:V}{c:Value}(h:z88 P s f x=some v)(hx:Rel W g H x c):Yields P W g H (Instr.fieldAt s c f) v:=by
 unfold z88 at h;split at h;cases h;rename_i o ho;split at h;injection h with h;subst h
 cases hx with
 |ref _ _ b q c hb hc ho1 hr=>
  refine .same (zq4 ho) ?_;rw[add_eq,Nat.add_assoc];exact .ref _ _ b q c hb hc ho1 hr
 injection h with h;subst h
 cases hx with
 |ptr _ _ _ hd=>
  refine .same (zq4 ho) ?_;rw[add_eq];exact .ptr _ _ _ hd
 rename_i l i ver idx off;injection h with h;subst h
 cases hx with
 |ap _ _ _ _ _ ad hd hv ha=>
  refine .same (zq4 ho) (.ap l i ver idx (off+o) _ hd hv λty sz xs cp hg =>?_);rw[ha _ _ _ _ hg,add_eq,Nat.add_assoc]
 cases h
end
section
variable {W : World} {g : Gh} {H : Heap} {P : Program}
def y1j(P:Program)(s f:Nat)(x:V):Option V :=
 match P.underlying s with
 |some (.struct fs)=>match fs[f]? with
  |some y=>match x with
   |.agg cs=>rd P y.type cs y.offset
   |_=>none
  |none=>none
 |_=>none
theorem yc4{s f:Nat}{x v:V}{c:Value}(h:y1j P s f x=some v)(hx:Rel W g H x c):Yields P W g H (Instr.field s c f) v:=by
 unfold y1j at h;split at h;rename_i fs hu;split at h;rename_i y hy;split at h
 cases hx with
 |agg _ a hn ho1 hr=>
  obtain⟨u,h1,h2⟩:=zh5 h hn ho1 hr;exact .same (c:=u) (by simp[Instr.field,yz2 hu,hy,asAgg,h1]) h2
 cases h;cases h;cases h
def kzm(P:Program)(H:Heap)(t:Nat)(x i:V):Option V :=
 match i with
 |.int _ n=>if 0<=n then match P.underlying t with
  |some (.slice e)=>match x with
   |.sl sz xs _=>if sz=P.cellsOf e∧(P.underlying e).isSome then (xs[n.toNat]?).map λy=>.ref y.cells 0 else none
   |.hs l i ver off m _=>match H.get l i with
    |some (.arr ver' _ sz _ _)=>if ver'=ver∧sz=P.cellsOf e∧(P.underlying e).isSome∧n<m then some (.ap l i ver (off+n.toNat) 0)else none
    |_=>none
   |_=>none
  |some (.array len e)=>if n<len∧(P.underlying e).isSome then match x with
   |.ref cs off=>some (.ref cs (off+n.toNat * P.cellsOf e))
   |.ptr l i off=>some (.ptr l i (off+n.toNat * P.cellsOf e))
   |.ap l i ver idx off=>some (.ap l i ver idx (off+n.toNat * P.cellsOf e))
   |_=>none else none
  |_=>none else none
 |_=>none
theorem run_indexAt_slice{t e:Nat}{a:Addr}{m cap:Nat}{k:IntKind}{n:Int}(hu:P.underlying t=some (.slice e))(he:(P.underlying e).isSome=true)(h0:0<=n)(h1:n<m) :
  (Instr.indexAt t (.slice (some a) m cap) (.int k n)).run P W = .ok (.pointer (some (a.add (n.toNat * P.cellsOf e)))) W:=by
 obtain⟨d,hd⟩:=Option.isSome_iff_exists.1 he;simp[Instr.indexAt,asIntOf,yz2 hu,h0,h1,z6e hd]
theorem run_indexAt_array{t e len:Nat}{a:Addr}{k:IntKind}{n:Int}(hu:P.underlying t=some (.array len e))(he:(P.underlying e).isSome=true)(h0:0<=n)(h1:n<len) :
  (Instr.indexAt t (.pointer (some a)) (.int k n)).run P W = .ok (.pointer (some (a.add (n.toNat * P.cellsOf e)))) W:=by
 obtain⟨d,hd⟩:=Option.isSome_iff_exists.1 he;simp[Instr.indexAt,asIntOf,yz2 hu,h0,h1,z6e hd,Instr.sureAddr]
theorem y07{t:Nat}{x i v:V}{c ci:Value}(h:kzm P H t x i=some v)(hx:Rel W g H x c)(hi:Rel W g H i ci):Yields P W g H (Instr.indexAt t c ci) v:=by
 unfold kzm at h;split at h;rename_i k n;cases hi;split at h;rename_i h0;split at h;rename_i e hu;split at h;rename_i sz xs full;split at h;rename_i hc;obtain⟨rfl,he⟩:=hc;simp only[Qaf]at h;obtain⟨y,hy,rfl⟩:=h;have hlt:=(Qaa.1 hy).1
 cases hx with
 |slnil=>simp at hy
 |sle=>simp at hy
 |sl _ _ _ b o cap cc hb hz hcap hf hs hcc ho1 hr=>
  refine .same (run_indexAt_slice hu he h0 (by omega)) ?_;rw[add_eq];exact .ref _ 0 b _ (cc n.toNat) (λ_=>hb) (λj u hj=>hcc _ _ _ _ hy hj) (λj u hj=>ho1 _ _ _ _ hy hj) (λj u hj=>hr _ _ _ _ hy hj)
 cases h;rename_i l i ver off m full;split at h;rename_i ver' ty sz xs cp hg;split at h;rename_i hc;obtain⟨rfl,rfl,he,hlt⟩:=hc;injection h with h;subst h
 cases hx with
 |hs _ _ _ _ _ _ a m' cap hd hv ha=>
  obtain⟨rfl,rfl,hcap,hle⟩:=ha _ _ _ _ hg;refine .same (run_indexAt_slice hu he h0 hlt) (.ap _ _ _ _ _ _ hd hv λty' sz ys cp' hg' =>?_);rw[hg]at hg';injection hg' with hg';injection hg' with _ _ hsz _ _;rw[add_eq,<-hsz,Nat.add_mul,Nat.add_zero]
 cases h;cases h;cases h;rename_i len e hu;split at h;rename_i hc;obtain⟨hlt,he⟩:=hc;split at h;injection h with h;subst h
 cases hx with
 |ref _ _ b o c hb hcc ho1 hr=>
  refine .same (run_indexAt_array hu he h0 hlt) ?_;rw[add_eq,Nat.add_assoc];exact .ref _ _ b o c hb hcc ho1 hr
 injection h with h;subst h
 cases hx with
 |ptr _ _ _ hd=>
  refine .same (run_indexAt_array hu he h0 hlt) ?_;rw[add_eq];exact .ptr _ _ _ hd
 injection h with h;subst h
 cases hx with
 |ap _ _ _ _ _ a hd hv ha=>
  refine .same (run_indexAt_array hu he h0 hlt) (.ap _ _ _ _ _ _ hd hv λty sz ys cp' hg' =>?_);rw[ha _ _ _ _ hg',add_eq,Nat.add_assoc]
 cases h;cases h;cases h;cases h;cases h
def zwf(P:Program)(t:Nat)(x i:V):Option V :=
 match i with
 |.int _ n=>if 0<=n then match x with
  |.str s=>match P.underlying t with
   |some .string=>(s[n.toNat]?).map λb=>.int .u8 b.toNat
   |_=>none
  |.agg cs=>match P.underlying t with
   |some (.array len e)=>if n<len∧(P.underlying e).isSome then rd P e cs (n.toNat * P.cellsOf e)else none
   |_=>none
  |_=>none else none
 |_=>none
theorem yda{t:Nat}{x i v:V}{c ci:Value}(h:zwf P t x i=some v)(hx:Rel W g H x c)(hi:Rel W g H i ci):Yields P W g H (Instr.index t c ci) v:=by
 unfold zwf at h;split at h;rename_i k n;cases hi;split at h;rename_i h0;split at h;rename_i s;split at h;rename_i hu;simp only[Qaf]at h;obtain⟨b,hb,rfl⟩:=h;cases hx;have hlt:=(Qaa.1 hb).1;refine .same (c:=.int .u8 b.toNat) ?_ (.int _ _);rw[run_index_string W t _ k n hu,dif_pos ⟨h0,by simp[ByteArray.size];omega⟩]
 have:(⟨s.toArray⟩:ByteArray)[n.toNat]'(by simp[ByteArray.size];omega)=b:=by
  have:=List.getElem_of_getElem? hb;obtain⟨_,this⟩:=this;exact this
 rw[this];cases h;rename_i cs;split at h;rename_i len e hu;split at h;rename_i hc;obtain⟨hlt,he⟩:=hc;obtain⟨d,hd⟩:=Option.isSome_iff_exists.1 he
 cases hx with
 |agg _ a hn ho1 hr=>
  obtain⟨u,h1,h2⟩:=zh5 h hn ho1 hr;exact .same (c:=u) (by simp[Instr.index,asIntOf,yz2 hu,h0,hlt,z6e hd,h1]) h2
 cases h;cases h;cases h;cases h;cases h
def zu5(i:Nat):V->Option V
 |.tup vs=>vs[i]?
 |_=>none
theorem y77{i:Nat}{x v:V}{c:Value}(h:zu5 i x=some v)(hx:Rel W g H x c):Yields P W g H (Instr.extract c i) v:=by
 unfold zu5 at h;split at h
 cases hx with
 |tup _ a hn hr=>
  have hlt:=(Qaa.1 h).1;refine .same (c:=a.getD i undef) ?_ (hr _ _ h);simp[Instr.extract,Qas (show i<a.size by omega),show i<a.size by omega]
 cases h
def zx0:V->Option V
 |.ptr l i off=>some (.ptr l i off)
 |.ref cs off=>some (.ref cs off)
 |.ap l i ver idx off=>some (.ap l i ver idx off)
 |.fn f a b=>some (.fn f a b)
 |_=>none
def y2h(op:BinOp)(k:IntKind)(x y:Int):Option V :=
 match op with
 |.add=>some (.int k (k.wrap (x+y)))
 |.sub=>some (.int k (k.wrap (x-y)))
 |.mul=>some (.int k (k.wrap (x * y)))
 |.quo=>if y=0 then none else some (.int k (k.wrap (x.tdiv y)))
 |.rem=>if y=0 then none else some (.int k (x.tmod y))
 |.eql=>some (.bool (x==y))
 |.neq=>some (.bool (x != y))
 |.lss=>some (.bool (decide (x<y)))
 |.leq=>some (.bool (decide (x<=y)))
 |.gtr=>some (.bool (decide (x>y)))
 |.geq=>some (.bool (decide (x>=y)))
 |.and=>some (.int k (bits .and k x y))
 |.or=>some (.int k (bits .or k x y))
 |.xor=>some (.int k (bits .xor k x y))
 |.andNot=>some (.int k (bits .andNot k x y))
 |_=>none
def yh8(op:BinOp)(x y:B8):Option V :=
 match op with
 |.add=>if x.length+y.length<=maxLen then some (.str (x++y))else none
 |.eql=>some (.bool (x==y))
 |.neq=>some (.bool (!(x==y)))
 |.lss=>some (.bool (Op.bytesLess x y))
 |.leq=>some (.bool (Op.bytesLess x y||x==y))
 |.gtr=>some (.bool (!(Op.bytesLess x y||x==y)))
 |.geq=>some (.bool (!Op.bytesLess x y))
 |_=>none
end
section
variable {W : World} {g : Gh} {H : Heap} {P : Program}
mutual
def eqv(P:Program):Nat->Nat->V->V->Option Bool
 |0,_,_,_=>none
 |d+1,t,x,y=>
  match x,y with
  |.bool a,.bool b=>match P.underlying t with|some .bool=>some (a==b)|_=>none
  |.int k a,.int k' b=>match P.underlying t with|some (.int _)=>if k=k' then some (a==b)else none|_=>none
  |.str a,.str b=>match P.underlying t with|some .string=>some (a==b)|_=>none
  |.agg xs,.agg ys=>match P.underlying t with|some (.struct fs)=>if P.stoodInHeld t then none else y6t P d fs.toList xs ys|_=>none
  |.nilp,.nilp=>match P.underlying t with|some (.pointer _)=>some true|_=>none
  |.nilp,.ptr _ _ _| .nilp,.ref _ _| .nilp,.ap _ _ _ _ _=>match P.underlying t with|some (.pointer _)=>some false|_=>none
  |.ptr _ _ _,.nilp| .ref _ _,.nilp| .ap _ _ _ _ _,.nilp=>match P.underlying t with|some (.pointer _)=>some false|_=>none
  |.nils,.nils=>match P.underlying t with|some (.slice _)=>some true|_=>none
  |.nils,.sl _ (_::_) _| .sl _ (_::_) _,.nils=>match P.underlying t with|some (.slice _)=>some false|_=>none
  |.mapn,.mapn=>match P.underlying t with|some (.map _ _)=>some true|_=>none
  |.mapn,.map _ _| .map _ _,.mapn=>match P.underlying t with|some (.map _ _)=>some false|_=>none
  |.nilf,.nilf=>match P.underlying t with|some (.func ..)=>some true|_=>none
  |.nilf,.fn _ _ _| .fn _ _ _,.nilf=>match P.underlying t with|some (.func ..)=>some false|_=>none
  |.nili,.iface _ _| .iface _ _,.nili=>match P.underlying t with|some (.interface _)=>some false|_=>none
  |_,_=>none
def y6t(P:Program):Nat->List Field->List V->List V->Option Bool
 |0,_,_,_=>none
 |_,[],_,_=>some true
 |d+1,f::fs,xs,ys=>
  if f.name = "_" then y6t P d fs xs ys else
  match rd P f.type xs f.offset,rd P f.type ys f.offset with
  |some a,some b=>match eqv P d f.type a b,y6t P d fs xs ys with
   |some r,some s=>some (r&&s)
   |_,_=>none
  |_,_=>none
end
theorem zwq:∀(d:Nat),(∀(D t:Nat) (x y:V) (r:Bool) (c e:Value),d<=D->eqv P d t x y=some r->Rel W g H x c->Rel W g H y e->(Op.equalIn D t c e).run P W = .ok r W) ∧
  (∀(D:Nat) (fs:List Field) (xs ys:List V) (r:Bool) (cs es:Array Value),d<=D->y6t P d fs xs ys=some r->cs.size=xs.length->es.size=ys.length->(∀j v,xs[j]? = some v->(cs.getD j undef).oneCell'=true)->(∀j v,ys[j]? = some v->(es.getD j undef).oneCell'=true)->(∀j v,xs[j]? = some v->Rel W g H v (cs.getD j undef)) ->
   (∀j v,ys[j]? = some v->Rel W g H v (es.getD j undef))->(Op.eqFields D cs es fs).run P W = .ok r W)
 |0=>by constructor <;> (intros;rename_i h;simp[eqv,y6t]at *)
 |d+1=>by
  obtain⟨ih1,ih2⟩:=zwq d;constructor
  ·intro D t x y r c e hD h hx hy;obtain⟨D,rfl⟩:∃D',D=D'+1:=⟨D-1,by omega⟩;unfold eqv at h;split at h;split at h
   rename_i hu;injection h with h;subst h;cases hx;cases hy;exact run_equalIn_bool' W D t _ _ hu
   cases h;split at h;rename_i hu;split at h
   rename_i hk;subst hk;injection h with h;subst h;cases hx;cases hy;exact run_equalIn_int W D t _ _ _ _ hu
   cases h;cases h;split at h
   rename_i hu;injection h with h;subst h;cases hx;cases hy
   rw[run_equalIn_string W D t _ _ hu];simp;cases h;rename_i xs ys;split at h;rename_i fs hu;split at h;cases h;rename_i hp
   cases hx with
   |agg _ a hn ho1 hr=>
    cases hy with
    |agg _ b hn' ho1' hr'=>
     have hf:P.fieldsOf t=fs:=by simp[Program.fieldsOf,hu]
     rw[run_equalIn_struct W D t a b (by rw[hf];exact hu) (by simpa using hp),hf];exact ih2 D fs.toList xs ys r a b (by omega) h hn hn' ho1 ho1' hr hr'
   cases h
   all_goals first
    |(split at h
      rename_i hu;injection h with h;subst h;cases hx <;> cases hy <;> simp[Op.equalIn,yz2 hu]
      cases h)
    |cases h
  intro D fs xs ys r cs es hD h hn hn' ho1 ho1' hr hr'
  cases fs with
  |nil=>simp only[y6t,Qbu]at h;subst h;simp[Op.eqFields]
  |cons f fs=>
   simp only[y6t]at h;split at h;rename_i hname;simp only[Op.eqFields,hname];simp only[ne_eq,not_true_eq_false,if_false];exact ih2 D fs _ _ r cs es (by omega) h hn hn' ho1 ho1' hr hr';rename_i hname;split at h;rename_i a b ha hb;split at h;rename_i r1 r2 h1 h2;injection h with h;subst h;obtain⟨u,hu,hru⟩:=zh5 (W:=W) ha hn ho1 hr;obtain⟨v,hv,hrv⟩:=zh5 (W:=W) hb hn' ho1' hr'
   have k1:=ih1 D _ _ _ _ u v (by omega) h1 hru hrv;have k2:=ih2 D fs _ _ r2 cs es (by omega) h2 hn hn' ho1 ho1' hr hr';simp only[Op.eqFields,ne_eq,hname,not_false_eq_true,if_true,Qca,hu,hv,k1,Qcb];cases r1 <;> simp[k2]
   cases h;cases h
def Value.odd:Value->Bool
 |.int _ _| .float _ _| .complex _ _ _| .string _=>false
 |_=>true
theorem binOp_eql{t:TypeId}{a b:Value}(h:Value.odd a=true):binOp .eql t a b=(do pure (.bool (<-Op.equal t a b))):=by
 cases a <;> first|(simp[Value.odd]at h;done)|rfl|(cases b <;> rfl)
theorem binOp_neq{t:TypeId}{a b:Value}(h:Value.odd a=true):binOp .neq t a b=(do pure (.bool (!(<-Op.equal t a b)))):=by
 cases a <;> first|(simp[Value.odd]at h;done)|rfl|(cases b <;> rfl)
def V.odd:V->Bool
 |.int _ _| .str _| .any=>false
 |_=>true
theorem yn7{x:V}{a:Value}(h:x.odd=true)(hx:Rel W g H x a):Value.odd a=true:=by
 cases hx <;> first|rfl|(simp[V.odd]at h;done)
def zgz(P:Program)(t:Nat)(x y:V):Bool :=
 match x,y with
 |.agg _,.agg _ => !P.eqGuardType P.depth t
 |.nili,.nili=>false
 |.any,_|_,.any=>false
 |_,_=>true
def zx8(P:Program)(op:BinOp)(t:Nat)(x y:V):Option V :=
 match x,y with
 |.int k a,.int k' b=>match op with
  |.shl=>if b<0 then none else some (.int k (k.wrap (a * 2 ^ (min b.toNat k.bits))))
  |.shr=>if b<0 then none else some (.int k (a.fdiv (2 ^ (min b.toNat k.bits))))
  |_=>if k=k' then y2h op k a b else none
 |.str a,.str b=>yh8 op a b
 |x,y=>match op with
  |.eql=>if x.odd&&zgz P t x y then (eqv P 24 t x y).map .bool else none
  |.neq=>if x.odd&&zgz P t x y then (eqv P 24 t x y).map λr=>.bool (!r)else none
  |_=>none
theorem zy5{op:BinOp}{t:Nat}{x y:V}{a b:Value}(xo yo:Operand)(h:zgz P t x y=true)(hx:Rel W g H x a)(hy:Rel W g H y b):(eqGuard op t xo yo a b).run P W = .ok () W:=by
 unfold eqGuard;cases op <;> (try simp;done)
 all_goals
  simp only[Bool.not_true,Bool.false_eq_true,if_false]
  cases hx <;> cases hy <;> first|(simp[zgz]at h;done)|(simp;done)|(simp[zgz]at h;simp[h];done)
theorem yk5{op:BinOp}{t:Nat}{x y v:V}{a b:Value}(xo yo:Operand)(h:zx8 P op t x y=some v)(hx:Rel W g H x a)(hy:Rel W g H y b) :
  Yields P W g H (do eqGuard op t xo yo a b;binOp op t a b) v:=by
 unfold zx8 at h;split at h
 ·rename_i k a' k' b';cases hx;cases hy;have he:(eqGuard op t xo yo (.int k a') (.int k' b')).run P W = .ok () W:=by unfold eqGuard;cases op <;> simp
  split at h;split at h;cases h
  rename_i hb;injection h with h;subst h
  exact .same (by simp[he,binOp,Op.shift,hb]) (.int _ _);split at h;cases h
  rename_i hb;injection h with h;subst h
  exact .same (by simp[he,binOp,Op.shift,hb]) (.int _ _)
  ·split at h
   ·rename_i hk;subst hk;unfold y2h at h;split at h
    all_goals first
     |(split at h
       cases h
       rename_i hz;injection h with h;subst h
       exact .same (by simp only[Qca,he,Qcb];simp[binOp,Op.intDiv,hz]) (.int _ _))
     |(injection h with h;subst h
       first
       |exact .same (by simp only[Qca,he,Qcb];simp[binOp,Op.intArith,Op.intCmp,Op.intBits,bits]) (.int _ _)
       |exact .same (by simp only[Qca,he,Qcb];simp[binOp,Op.intArith,Op.intCmp,Op.intBits,bits]) (.bool _))
     |cases h
   cases h
 ·rename_i a' b';cases hx;cases hy;have he:(eqGuard op t xo yo (.string ⟨a'.toArray⟩) (.string ⟨b'.toArray⟩)).run P W = .ok () W:=by unfold eqGuard;cases op <;> simp
  unfold yh8 at h;split at h;split at h;rename_i hm;injection h with h;subst h;refine .same (c:=.string ⟨(a'++b').toArray⟩) ?_ (.str _);simp only[Qca,he,Qcb]
  have hm':¬((a'.length+b'.length:Nat):Int)>IntKind.i64.max:=by
   have:IntKind.i64.max=9223372036854775807:=by decide
   rw[this];unfold maxLen at hm;omega
  have hadd:(⟨a'.toArray⟩:ByteArray)++⟨b'.toArray⟩=⟨(a'++b').toArray⟩:=by
   apply ByteArray.ext;simp
  simp only[binOp,Op.stringOp,ByteArray.size,List.size_toArray,Sem.run_ite,hm',if_false,hadd,Sem.run_pure];cases h
  all_goals first
   |(injection h with h;subst h
     exact .same (by simp only[Qca,he,Qcb];simp[binOp,Op.stringOp]) (.bool _))
   |cases h
 split at h;split at h;rename_i hp;simp only[Qag]at hp;simp only[Qaf]at h;obtain⟨r,hr,rfl⟩:=h;refine .same (c:=.bool r) ?_ (.bool r);have:=(zwq (P:=P) 24).1 Op.maxDepth _ _ _ r a b (by decide) hr hx hy;simp only[Qca,zy5 xo yo hp.2 hx hy,Qcb,binOp_eql (yn7 hp.1 hx),Op.equal,this,Sem.run_pure];cases h;split at h;rename_i hp;simp only[Qag]at hp
 simp only[Qaf]at h;obtain⟨r,hr,rfl⟩:=h;refine .same (c:=.bool (!r)) ?_ (.bool (!r));have:=(zwq (P:=P) 24).1 Op.maxDepth _ _ _ r a b (by decide) hr hx hy;simp only[Qca,zy5 xo yo hp.2 hx hy,Qcb,binOp_neq (yn7 hp.1 hx),Op.equal,this,Sem.run_pure];cases h;cases h
end
section
variable {W : World} {g : Gh} {H : Heap} {P : Program}
def pUn(op:UnOp)(x:V):Option V :=
 match op,x with
 |.neg,.int k n=>some (.int k (k.wrap (0-n)))
 |.not,.bool b=>some (.bool (!b))
 |.xor,.int k n=>some (.int k (bits .xor k (if k.signed then -1 else k.max) n))
 |_,_=>none
theorem ym6{op:UnOp}{x v:V}{c:Value}(h:pUn op x=some v)(hx:Rel W g H x c):Yields P W g H (Op.unary op c) v:=by
 unfold pUn at h;split at h;injection h with h;subst h;cases hx;exact .same rfl (.int _ _);injection h with h;subst h;cases hx;exact .same rfl (.bool _);injection h with h;subst h;cases hx;exact .same rfl (.int _ _);cases h
def zkr(P:Program)(H:Heap)(t:Nat)(x:V):Option V :=
 match x with
 |.str s=>match P.underlying t with|some .string=>some (.int .i64 s.length)|_=>none
 |.nils=>match P.underlying t with|some (.slice _)=>some (.int .i64 0)|_=>none
 |.sl _ xs _=>match P.underlying t with|some (.slice _)=>some (.int .i64 xs.length)|_=>none
 |.hs l i ver _ n _=>match P.underlying t with
  |some (.slice _)=>match H.get l i with|some (.arr ver' _ _ _ _)=>if ver'=ver then some (.int .i64 n)else none|_=>none
  |_=>none
 |.mapn=>match P.underlying t with|some (.map _ _)=>some (.int .i64 0)|_=>none
 |.map l i=>match P.underlying t with
  |some (.map _ _)=>match H.get l i with|some (.map es)=>some (.int .i64 es.length)|_=>none
  |_=>none
 |.agg _=>match P.underlying t with|some (.array n _)=>some (.int .i64 n)|_=>none
 |_=>none
theorem yk3(hG:Good W g H){t ty:Nat}{x v:V}{c:Value}(h:zkr P H t x=some v)(hx:Rel W g H x c):Yields P W g H (Builtin.len_ #[t] ty #[c]) v:=by
 unfold zkr at h;split at h;split at h
 rename_i hu;injection h with h;subst h;cases hx
 exact .same (by rw[run_len_string (P:=P) W t ty _ hu];simp[goInt,ByteArray.size]) (.int _ _);cases h;split at h
 rename_i hu;injection h with h;subst h;cases hx
 exact .same (by simp[Builtin.len_,yz2 hu,goInt]) (.int _ _);cases h;split at h
 rename_i hu;injection h with h;subst h
 cases hx <;> exact .same (by simp[Builtin.len_,yz2 hu,goInt]) (.int _ _)
 cases h;split at h;rename_i hu;split at h;rename_i hg;split at h
 rename_i hv;subst hv;injection h with h;subst h
 cases hx with
 |hs _ _ _ _ _ _ a m cap hd hv ha=>
  obtain⟨_,rfl,_⟩:=ha _ _ _ _ hg;exact .same (by simp[Builtin.len_,yz2 hu,goInt]) (.int _ _)
 cases h;cases h;cases h;split at h
 rename_i hu;injection h with h;subst h;cases hx
 exact .same (by simp[Builtin.len_,yz2 hu,goInt]) (.int _ _);cases h;split at h;rename_i hu;split at h;rename_i es hg;injection h with h;subst h;cases hx;obtain⟨en,clock,h1,h2,_⟩:=hG.obj _ _ _ hg;exact .same (c:=.int .i64 en.size) (by simp[Builtin.len_,yz2 hu,goInt,run_getObj_map W _ _ _ h1]) (by rw[h2];exact .int _ _);cases h;cases h;split at h
 rename_i hu;injection h with h;subst h;cases hx
 exact .same (by simp[Builtin.len_,yz2 hu,goInt]) (.int _ _);cases h;cases h
def bnd(y d:Nat):Option V->Option Nat
 |none=>some d
 |some (.int _ x)=>if 0<=x∧x<=y then some x.toNat else none
 |_=>none
def zcx(n:Nat)(lo hi mx:Option V):Option (Nat×Nat×Option Nat) :=
 match mx with
 |none=>(bnd n n hi).bind λh=>(bnd h 0 lo).bind λl=>some (l,h,none)
 |some m=>(bnd n n (some m)).bind λm=>match hi with
  |none=>none
  |some h=>(bnd m n (some h)).bind λh=>(bnd h 0 lo).bind λl=>some (l,h,some m)
inductive zal? (W:World) (g:Gh) (H:Heap):Option V->Option Value->Prop where
 |none:zal? W g H none none
 |some {v:V} {c:Value}(h:Rel W g H v c):zal? W g H (some v) (some c)
theorem zqz{y d Y:Nat}{v:V}{c:Value}{r:Nat}{code:BoundsCode}(hY:y<=Y)(h:bnd y d (some v)=some r)(hr:Rel W g H v c):(Instr.sliceBound c Y code).run P W = .ok r W∧r<=y:=by
 unfold bnd at h;split at h;rename_i heq;cases heq;rename_i heq;cases heq;split at h;rename_i hb;injection h with h;subst h;cases hr;refine⟨run_sliceBound W _ _ _ _ hb.1 (by omega),by omega⟩;cases h;cases h
theorem zf5{n cap:Nat}{lo hi mx:Option V}{clo chi cmx:Option Value}{r:Nat×Nat×Option Nat}(b:Bool)(hn:n<=cap)(h:zcx n lo hi mx=some r)(h1:zal? W g H lo clo)(h2:zal? W g H hi chi)(h3:zal? W g H mx cmx) :
  (Instr.sliceBounds b n cap clo chi cmx).run P W = .ok (r.1,r.2.1,r.2.2.getD cap) W∧r.1<=r.2.1∧r.2.1<=n∧(∀m,r.2.2=some m->r.2.1<=m∧m<=n):=by
 unfold zcx at h
 cases h3 with
 |none=>
  simp only[Qce]at h;obtain⟨h',hh,l,hl,heq⟩:=h;injection heq with heq;subst heq
  cases h2 with
  |none=>
   simp only[bnd,Qbu]at hh;subst hh
   cases h1 with
   |none=>simp only[bnd,Qbu]at hl;subst hl;simp[Instr.sliceBounds]
   |some k1=>
    obtain⟨e1,e2⟩:=zqz (P:=P) (code:=.sliceB) (Qbw _) hl k1
    simp[Instr.sliceBounds,e1,e2]
  |some k2=>
   obtain⟨f1,f2⟩:=zqz (P:=P) (code:=if b then .sliceAcap else .sliceAlen) hn hh k2
   cases h1 with
   |none=>simp only[bnd,Qbu]at hl;subst hl;simp[Instr.sliceBounds,f1,f2]
   |some k1=>
    obtain⟨e1,e2⟩:=zqz (P:=P) (code:=.sliceB) (Qbw _) hl k1
    simp[Instr.sliceBounds,e1,e2,f1,f2]
 |some k3=>
  simp only[Qce]at h;obtain⟨m,hm,h⟩:=h;obtain⟨m1,m2⟩:=zqz (P:=P) (code:=if b then .slice3Acap else .slice3Alen) hn hm k3
  cases h2 with
  |none=>cases h
  |some k2=>
   simp only[Qce]at h;obtain⟨h',hh,l,hl,heq⟩:=h;injection heq with heq;subst heq;obtain⟨f1,f2⟩:=zqz (P:=P) (code:=.slice3B) (Qbw _) hh k2
   cases h1 with
   |none=>simp only[bnd,Qbu]at hl;subst hl;simp[Instr.sliceBounds,f1,f2,m1,m2];omega
   |some k1=>
    obtain⟨e1,e2⟩:=zqz (P:=P) (code:=.slice3C) (Qbw _) hl k1;simp[Instr.sliceBounds,e1,e2,f1,f2,m1,m2];omega
def zdu(P:Program)(H:Heap)(t:Nat)(x:V)(lo hi mx:Option V):Option V :=
 match x with
 |.str s=>match P.underlying t,mx with
  |some .string,none=>(zcx s.length lo hi none).map λr=>.str ((s.take r.2.1).drop r.1)
  |_,_=>none
 |.nils=>match P.underlying t with
  |some (.slice e)=>if (P.underlying e).isSome then (zcx 0 lo hi mx).map λ_=>.nils else none
  |_=>none
 |.sl sz xs full=>match P.underlying t with
  |some (.slice e)=>if sz=P.cellsOf e∧(P.underlying e).isSome then (zcx xs.length lo hi mx).map λr=>
    .sl sz ((xs.take r.2.1).drop r.1) (match r.2.2 with|some m=>m==r.2.1|none=>full&&r.2.1==xs.length)
   else none
  |_=>none
 |.hs l i ver off n full=>match P.underlying t with
  |some (.slice e)=>match H.get l i with
   |some (.arr ver' _ sz _ _)=>if ver'=ver∧sz=P.cellsOf e∧(P.underlying e).isSome then (zcx n lo hi mx).bind λr=>
     if r.1=0∨r.1<r.2.1 then some (.hs l i ver (off+r.1) (r.2.1-r.1) (match r.2.2 with|some m=>m==r.2.1|none=>full&&r.2.1==n))else some (.sl sz [] false)
    else none
   |_=>none
  |_=>none
 |_=>none
theorem yc2(s:B8)(l h:Nat):(⟨s.toArray⟩:ByteArray).extract l h=⟨((s.take h).drop l).toArray⟩:=by
 apply ByteArray.ext;rw[ByteArray.data_extract];apply Array.ext';simp[List.drop_take]
theorem y0p{ρ:Operand->V}{r:Operand->Value}(hρ:∀x,Rel W g H (ρ x) (r x))(o:Option Operand):zal? W g H (o.map ρ) (o.map r):=by
 cases o with
 |none=>exact .none
 |some x=>exact .some (hρ x)
theorem zfh{xs:List V}{l h j:Nat}{x:V}(hj:((xs.take h).drop l)[j]? = some x):xs[l+j]? = some x∧l+j<h:=by
 rw[Qbf,Qaw]at hj;split at hj;exact⟨hj,by assumption⟩;cases hj
theorem ybj(hG:Good W g H){t:Nat}{x v:V}{lo hi mx:Option V}{c:Value}{clo chi cmx:Option Value}(h:zdu P H t x lo hi mx=some v)(hx:Rel W g H x c)
  (h1:zal? W g H lo clo) (h2:zal? W g H hi chi) (h3:zal? W g H mx cmx):Yields P W g H (Instr.sliceAt t c clo chi cmx) v:=by
 unfold zdu at h;split at h;rename_i s;split at h;rename_i hu;simp only[Qaf]at h;obtain⟨r,hr,rfl⟩:=h;cases hx;cases h3;obtain⟨e1,e2,e3,_⟩:=zf5 (P:=P) false (Qbw _) hr h1 h2 .none;refine .same (c:=.string ((⟨s.toArray⟩:ByteArray).extract r.1 r.2.1)) ?_ ?_;rw[run_sliceAt_string W t _ _ _ _ hu];have hs:(⟨s.toArray⟩:ByteArray).size=s.length:=by simp[ByteArray.size]
 simp[Instr.slice,yz2 hu,hs,e1];rw[yc2];exact .str _;cases h;split at h;rename_i e hu;split at h;rename_i he;obtain⟨d,hd⟩:=Option.isSome_iff_exists.1 he;simp only[Qaf]at h;obtain⟨r,hr,rfl⟩:=h;cases hx;obtain⟨e1,e2,e3,e4⟩:=zf5 (P:=P) true (Qbw 0) hr h1 h2 h3;refine .same (c:=.slice none 0 0) ?_ .nils;have hel:P.elem t=e:=by simp[Program.elem,hu]
 rw[run_sliceAt_slice W t _ _ _ _ (by rw[hel];exact hu)];have k1:r.1=0:=by omega
 have k2:r.2.1=0:=by omega
 have k3:r.2.2.getD 0=0:=by
  cases hm:r.2.2 with
  |none=>rfl
  |some m=>have:=e4 m hm;simp;omega
 simp[Instr.slice,yz2 hu,e1,z6e hd,k1,k2,k3];cases h;cases h;rename_i sz xs full;split at h;rename_i e hu;split at h;rename_i hc;obtain⟨rfl,he⟩:=hc;obtain⟨d,hd⟩:=Option.isSome_iff_exists.1 he;simp only[Qaf]at h;obtain⟨r,hr,rfl⟩:=h;have hel:P.elem t=e:=by simp[Program.elem,hu]
 have hrun:∀(a:Option Addr) (cap:Nat),xs.length<=cap->(Instr.sliceAt t (.slice a xs.length cap) clo chi cmx).run P W =
   .ok (.slice (if r.2.2.getD cap=r.1 then a else a.map (·.add (r.1 * P.cellsOf e))) (r.2.1-r.1) (r.2.2.getD cap-r.1)) W:=λa cap hcap=>by
  obtain⟨e1,e2,e3,_⟩:=zf5 (P:=P) true hcap hr h1 h2 h3;rw[run_sliceAt_slice W t _ _ _ _ (by rw[hel];exact hu)];simp[Instr.slice,yz2 hu,e1,z6e hd]
 have hb:∀cap,xs.length<=cap->r.1<=r.2.1∧r.2.1<=xs.length∧(∀m,r.2.2=some m->r.2.1<=m∧m<=xs.length):=λcap hcap=>(zf5 (P:=P) true hcap hr h1 h2 h3).2
 have hlen:((xs.take r.2.1).drop r.1).length=r.2.1-r.1:=by
  obtain⟨b1,b2,_⟩:=hb _ (Qbw _);simp;omega
 have hfull:∀cap,xs.length<=cap->(full=true->cap=xs.length)->(match r.2.2 with|some m=>m==r.2.1|none=>full&&r.2.1==xs.length)=true->r.2.2.getD cap-r.1=r.2.1-r.1:=λcap hcap hf hm=>by
  cases hm2:r.2.2 with
  |none=>
   simp only[hm2,Qag,Qbm]at hm;have:=hf hm.1
   simp;omega
  |some m=>
   simp only[hm2,Qbm]at hm;simp;omega
 have hempty:∀(a:Option Addr) (cap:Nat),xs.length<=cap->(full=true->cap=xs.length)->(a=none->cap=0)->r.2.1-r.1=0 ->
   Rel W g H (.sl (P.cellsOf e) ((xs.take r.2.1).drop r.1) (match r.2.2 with|some m=>m==r.2.1|none=>full&&r.2.1==xs.length))
    (.slice (if r.2.2.getD cap=r.1 then a else a.map (·.add (r.1 * P.cellsOf e))) (r.2.1-r.1) (r.2.2.getD cap-r.1)):=λa cap hcap hf ha h0=>by
  have hnil:(xs.take r.2.1).drop r.1=[]:=Qao (by omega);rw[hnil,h0];have hff:=hfull cap hcap hf
  cases a with
  |none=>
   have:=ha rfl;subst this
   have:r.2.2.getD 0-r.1=0:=by
    cases hm2:r.2.2 with
    |none=>simp
    |some m=>have:=(hb _ hcap).2.2 m hm2;simp;omega
   rw[this];simp only[Option.map_none,ite_self]
   exact .slnil _ _
  |some b=>
   generalize hgen:(if r.2.2.getD cap=r.1 then some b else (some b).map (·.add (r.1 * P.cellsOf e)))=q at *
   cases q with
   |none=>split at hgen <;> simp at hgen
   |some b'=>exact .sle _ _ b' _ (λhm=>by rw[hff hm];exact h0)
 cases hx with
 |slnil=>exact .same (hrun none 0 (by simp)) (hempty none 0 (by simp) (by simp) (by simp) (by have:=(hb _ (Qbw _)).2.1;simp at this;omega))
 |sle _ _ a cap hf=>exact .same (hrun (some a) cap (by simp)) (hempty (some a) cap (by simp) (by simpa using hf) (by simp) (by have:=(hb _ (Qbw _)).2.1;simp at this;omega))
 |sl _ _ _ b o cap cc hob hz hcap hf hs hcc ho1 hr'=>
  refine .same (hrun _ cap hcap) ?_;by_cases h0:r.2.1-r.1=0;exact hempty _ cap hcap hf (by simp) h0
  have hm:r.2.2.getD cap≠r.1:=by
   cases hm2:r.2.2 with
   |none=>have:=(hb _ hcap);simp;omega
   |some m=>have:=(hb _ hcap).2.2 m hm2;simp;omega
  rw[Qby hm];simp only[Qbr,add_eq];have hff:=hfull cap hcap hf;generalize hfu:(match r.2.2 with|some m=>m==r.2.1|none=>full&&r.2.1==xs.length)=fu at *;rw[<-hlen];refine .sl _ _ fu b (o+r.1 * P.cellsOf e) _ (λj t=>cc (r.1+j) t) hob hz ?_ (λhf' =>?_) (λj x hj=>hs _ _ (zfh hj).1) (λj x t v hj ht =>?_) (λj x t v hj ht=>ho1 _ _ _ _ (zfh hj).1 ht) (λj x t v hj ht=>hr' _ _ _ _ (zfh hj).1 ht)
  rw[hlen]
  cases hm2:r.2.2 with
  |none=>have:=(hb _ hcap);simp;omega
  |some m=>have:=(hb _ hcap).2.2 m hm2;simp;omega
  rw[hlen];exact hff hf';have:=hcc _ _ _ _ (zfh hj).1 ht;rw[Nat.add_mul]at this;rw[<-this];congr 2;omega
 cases h;cases h;rename_i l i ver off n full;split at h;rename_i e hu;split at h;rename_i ver' ty sz xs cp hg;split at h;rename_i hc;obtain⟨rfl,rfl,he⟩:=hc;obtain⟨d,hd⟩:=Option.isSome_iff_exists.1 he;simp only[Qce]at h;obtain⟨r,hr,h⟩:=h;split at h;rename_i hcond;injection h with h;subst h;have hel:P.elem t=e:=by simp[Program.elem,hu]
 cases hx with
 |hs _ _ _ _ _ _ a m cap hd' hv ha=>
  obtain⟨rfl,rfl,⟨hcap,hcap2,hff⟩,hle⟩:=ha _ _ _ _ hg;obtain⟨e1,e2,e3,e4⟩:=zf5 (P:=P) true hcap hr h1 h2 h3
  have hmc:r.2.1<=r.2.2.getD cap∧r.2.2.getD cap<=cap:=by
   cases hm2:r.2.2 with
   |none=>simp;omega
   |some m'=>have:=e4 m' hm2;simp;omega
  refine .same (c:=.slice (some ⟨g.ab l i,(off+r.1) * P.cellsOf e,none⟩) (r.2.1-r.1) (r.2.2.getD cap-r.1)) ?_ ?_;rw[run_sliceAt_slice W t _ _ _ _ (by rw[hel];exact hu)];simp only[Instr.slice,Qca,yz2 hu,Qcb,e1,z6e hd,Sem.run_pure]
  congr 2
  split;rename_i heq
  have:r.1=0:=by
   rcases hcond with h0|h0
   exact h0;omega
  rw[this,Nat.add_zero];simp only[Qbr,add_eq,Nat.add_mul];refine .hs _ _ _ _ _ _ _ _ _ hd' hv λty' sz' xs' cp' hg' =>?_
  rw[hg]at hg';injection hg' with hg';injection hg' with _ _ hsz hxx _
  subst hxx;refine⟨by rw[hsz],rfl,⟨by omega,by omega,λhf =>?_⟩,by omega⟩
  cases hm2:r.2.2 with
  |none=>
   simp only[hm2,Qag,Qbm]at hf;have:=hff hf.1
   simp;omega
  |some m'=>
   simp only[hm2,Qbm]at hf;simp;omega
 rename_i hcond;injection h with h;subst h;have hel:P.elem t=e:=by simp[Program.elem,hu]
 cases hx with
 |hs _ _ _ _ _ _ a m cap hd' hv ha=>
  obtain⟨rfl,rfl,⟨hcap,hcap2,hff⟩,hle⟩:=ha _ _ _ _ hg;obtain⟨e1,e2,e3,e4⟩:=zf5 (P:=P) true hcap hr h1 h2 h3;have h0:r.2.1-r.1=0:=by omega
  have hrun:(Instr.sliceAt t (.slice (some ⟨g.ab l i,off * P.cellsOf e,none⟩) m cap) clo chi cmx).run P W =
    .ok (.slice (if r.2.2.getD cap=r.1 then some ⟨g.ab l i,off * P.cellsOf e,none⟩else (some ⟨g.ab l i,off * P.cellsOf e,none⟩:Option Addr).map (·.add (r.1 * P.cellsOf e))) (r.2.1-r.1) (r.2.2.getD cap-r.1)) W:=by
   rw[run_sliceAt_slice W t _ _ _ _ (by rw[hel];exact hu)];simp[Instr.slice,yz2 hu,e1,z6e hd]
  refine .same hrun ?_;rw[h0];split <;> exact .sle _ _ _ _ (λhf=>by cases hf)
 cases h;cases h;cases h;cases h
end
section
variable {W : World} {g : Gh} {H : Heap} {P : Program}
def ydx(d:TypeDesc)(x y:V):Option Bool :=
 match x,y with
 |.int k a,.int k' b=>match d with| .int _=>if k=k' then some (a==b)else none|_=>none
 |.str a,.str b=>match d with| .string=>some (a==b)|_=>none
 |.bool a,.bool b=>match d with| .bool=>some (a==b)|_=>none
 |_,_=>none
def zxv(d:TypeDesc)(k:V):List (V×V)->Nat->Option (Option (Nat×V))
 |[],_=>some none
 |e::es,i=>match ydx d k e.1 with
  |some b=>if b then some (some (i,e.2))else zxv d k es (i+1)
  |none=>none
theorem zxm{d:TypeDesc}{x y:V}{a b:Value}{r:Bool}(h:ydx d x y=some r)(hx:Rel W g H x a)(hy:Rel W g H y b):Instr.sameNow d a b=some r:=by
 unfold ydx at h;split at h;cases hx;cases hy;split at h;simpa[Instr.sameNow]using h;cases h;cases hx;cases hy;split at h;injection h with h;subst h;simp only[Instr.sameNow,Qbu];show((⟨_⟩:ByteArray)==⟨_⟩)=_;rw[beq_toListBytes];simp;cases h;cases hx;cases hy;split at h;simpa[Instr.sameNow]using h;cases h;cases h
theorem zox{d:TypeDesc}{k:V}{ck:Value}(hk:Rel W g H k ck):∀(es:List (V×V)) (en:List MapEntry) (i:Nat) (r:Option (Nat×V)),zxv d k es i=some r->en.length=es.length ->
  (∀(j:Nat) (p:V×V),es[j]? = some p->∃e,en[j]? = some e∧Rel W g H p.1 e.key∧Rel W g H p.2 e.val) ->
  match r with
  |none=>Instr.findNow d ck en i=some none
  |some (j,v)=>∃e,Instr.findNow d ck en i=some (some (j,e.val))∧Rel W g H v e.val∧i<=j∧en[j-i]? = some e∧∃p,es[j-i]? = some p∧ydx d k p.1=some true
 |[],en,i,r,h,hl,_=>by
  simp only[zxv,Qbu]at h;subst h
  cases en with
  |nil=>rfl
  |cons=>simp at hl
 |e::es,en,i,r,h,hl,hr=>by
  cases en with
  |nil=>simp at hl
  |cons f en=>
   obtain⟨f',hf,h1,h2⟩:=hr 0 e rfl;simp only[Qcd,Qbu]at hf;subst hf;simp only[zxv]at h;split at h;rename_i b hb;have hs:=zxm hb hk h1;split at h;rename_i hbt;subst hbt;simp only[Qbu]at h;subst h;exact⟨f,by simp[Instr.findNow,hs],h2,Qbw _,by simp,e,by simp,hb⟩;rename_i hbt;have hbf:b=false:=by simpa using hbt
   subst hbf;have ih:=zox hk es en (i+1) r h (by simpa using hl) (λj p hj=>by simpa using hr (j+1) p (by simpa using hj))
   cases r with
   |none=>simp only at ih ⊢;simp[Instr.findNow,hs,ih]
   |some q=>
    obtain⟨j,v⟩:=q;simp only at ih ⊢;obtain⟨e',k1,k2,k3,k4,p,k5,k6⟩:=ih;refine⟨e',by simp[Instr.findNow,hs,k1],k2,by omega,?_,p,?_,k6⟩;rw[show j-i=(j-(i+1))+1 by omega];simpa using k4
    rw[show j-i=(j-(i+1))+1 by omega];simpa using k5
   cases h
def zeroV(P:Program)(t:Nat):Option V:=((P.info? t).bind (·.zero)).map ofConst
theorem zle{t:Nat}{v:V}(h:zeroV P t=some v):∃z,(zeroValue t).run P W = .ok z W∧Rel W g H v z:=by
 simp only[zeroV,Qaf,Qce]at h;obtain⟨z,⟨i,hi,hz⟩,rfl⟩:=h;exact⟨z,by simp[zeroValue,typeInfo,hi,hz],zjo z⟩
def zql(P:Program)(k:Nat)(x:V):Option TypeDesc :=
 match P.underlying k,x with
 |some (.int q),.int _ _=>some (.int q)
 |some .string,.str _=>some .string
 |some .bool,.bool _=>some .bool
 |_,_=>none
theorem zv8{k:Nat}{x:V}{d:TypeDesc}{c:Value}(h:zql P k x=some d)(hx:Rel W g H x c):P.underlying k=some d∧∀e n,(Instr.checkKey e (n+1) k c).run P W = .ok () W:=by
 unfold zql at h;split at h
 rename_i hu;injection h with h;subst h;cases hx;exact⟨hu,λe n=>by simp[Instr.checkKey,yz2 hu]⟩
 rename_i hu;injection h with h;subst h;cases hx;exact⟨hu,λe n=>by simp[Instr.checkKey,yz2 hu]⟩
 rename_i hu;injection h with h;subst h;cases hx;exact⟨hu,λe n=>by simp[Instr.checkKey,yz2 hu]⟩
 cases h
def yl9(H:Heap):V->Option (List (V×V))
 |.mapn=>some []
 |.map l i=>match H.get l i with
  |some (.map es)=>some es
  |_=>none
 |_=>none
def znb(P:Program)(H:Heap)(t:Nat)(x k:V)(ok:Bool):Option V :=
 match P.underlying t with
 |some (.map kt e)=>match yl9 H x,zql P kt k,zeroV P e with
  |some es,some d,some z=>match zxv d k es 0 with
   |some r=>some (match r with
    |some p=>if ok then .tup [p.2,.bool true]else p.2
    |none=>if ok then .tup [z,.bool false]else z)
   |none=>none
  |_,_,_=>none
 |_=>none
theorem y3d{a b:V}{x y:Value}(h1:Rel W g H a x)(h2:Rel W g H b y):Rel W g H (.tup [a,b]) (.tuple #[x,y]) :=
 .tup _ _ rfl λj v hj=>by
   match j with
   |0=>simp at hj;subst hj;exact h1
   |1=>simp at hj;subst hj;exact h2
   |n+2=>simp at hj
theorem y9r(hG:Good W g H){t:Nat}{x k v:V}{ok:Bool}{c ck:Value}(h:znb P H t x k ok=some v)(hx:Rel W g H x c)(hk:Rel W g H k ck):Yields P W g H (Instr.lookup t c ck ok) v:=by
 unfold znb at h;split at h;rename_i kt e hu;split at h;rename_i es d z hes hkk hz;split at h;rename_i r hf;injection h with h;obtain⟨zc,hz1,hz2⟩:=zle (W:=W) (g:=g) (H:=H) hz;obtain⟨hku,hck⟩:=zv8 hkk hk
 have fin:∀(en:List MapEntry),en.length=es.length->(∀(j:Nat) (p:V×V),es[j]? = some p->∃e,en[j]? = some e∧Rel W g H p.1 e.key∧Rel W g H p.2 e.val) ->
   ∃R,Instr.findNow d ck en 0=some R∧Rel W g H v (match R with|some (_,u)=>if ok then .tuple #[u,.bool true]else u|none=>if ok then .tuple #[zc,.bool false]else zc):=λen hn hrel=>by
  have hfs:=zox (d:=d) hk es en 0 r hf hn hrel
  cases r with
  |none=>
   refine⟨none,hfs,?_⟩;subst h;cases ok;exact hz2
   exact y3d hz2 (.bool false)
  |some p=>
   obtain⟨j,u⟩:=p;obtain⟨e',k1,k2,_⟩:=hfs;refine⟨some (j,e'.val),k1,?_⟩;subst h;cases ok;exact k2;exact y3d k2 (.bool true)
 unfold yl9 at hes;split at hes;injection hes with hes;subst hes;cases hx;obtain⟨R,hR,hrel⟩:=fin [] rfl (by simp);refine .same ?_ hrel;have hfk:=MapKept.run_findKey (P:=P) (w:=W) (l:=[]) hku hR;cases R <;> simp[Instr.lookup,yz2 hu,hck,hfk,hz1] <;> cases ok <;> rfl
 split at hes;rename_i l i es' hg;injection hes with hes;subst hes;cases hx;obtain⟨en,clock,h1,h2,_,_,h5⟩:=hG.obj _ _ _ hg;obtain⟨R,hR,hrel⟩:=fin en.toList (by simpa using h2) (λj p hj=>by simpa using h5 j p hj);refine .same ?_ hrel;have hfk:=MapKept.run_findKey (P:=P) (w:=W) (l:=en.toList) hku hR;have hgo:=run_getObj_map (P:=P) W _ _ _ h1
 cases R <;> simp[Instr.lookup,yz2 hu,hck,hfk,hz1,hgo] <;> cases ok <;> rfl
 cases hes;cases hes;cases h;cases h;cases h
def ze9(P:Program)(t:Nat)(x:V):Option V:=if P.concrete t then some (.iface t x)else none
theorem zr4{t:Nat}{x v:V}{c:Value}(h:ze9 P t x=some v)(hx:Rel W g H x c):Yields P W g H (Instr.makeInterface t c) v:=by
 unfold ze9 at h;split at h
 rename_i hc;injection h with h;subst h
 exact .same (run_makeInterface W t c hc) (.iface _ _ _ hx);cases h
def zfq(P:Program)(x:V)(asserted:Nat)(ok:Bool):Option V :=
 match P.underlying asserted,x with
 |some (.interface _),_=>none
 |some _,.iface t v=>if t=asserted then some (if ok then .tup [v,.bool true]else v)else none
 |_,_=>none
theorem zx9{t u:Nat}{x v:V}{ok:Bool}{c:Value}(h:zfq P x u ok=some v)(hx:Rel W g H x c):Yields P W g H (Instr.typeAssert c t u ok) v:=by
 unfold zfq at h;split at h;cases h;rename_i d t' v' hd hu;split at h
 rename_i ht;subst ht;injection h with h;subst h
 cases hx with
 |iface _ _ cv hv=>
  refine .same (c:=if ok then .tuple #[cv,.bool true]else cv) ?_ ?_
  cases d <;> first|(exact(hd _ rfl).elim)|(simp[Instr.typeAssert,yz2 hu])
  cases ok;exact hv;exact y3d hv (.bool true)
 cases h;cases h
def zop(P:Program)(s d:Nat)(x:V):Option V :=
 match x with
 |.int _ n=>match P.underlying s,P.underlying d with
  |some _,some (.int k)=>some (.int k (k.wrap n))
  |_,_=>none
 |.str a=>match P.underlying s,P.underlying d with
  |some _,some .string=>some (.str a)
  |_,_=>none
 |_=>none
theorem y6k{s d:Nat}{x v:V}{c:Value}(h:zop P s d x=some v)(hx:Rel W g H x c):Yields P W g H (convert s d c) v:=by
 unfold zop at h;split at h;split at h
 rename_i hs hd;injection h with h;subst h;cases hx
 exact .same (by simp[convert,yz2 hs,yz2 hd,Conv.intToInt]) (.int _ _);cases h;split at h
 rename_i hs hd;injection h with h;subst h;cases hx
 exact .same (by simp[convert,yz2 hs,yz2 hd]) (.str _);cases h;cases h
def mxI(x y:Int):Int:=if y>x then y else x
def mnI(x y:Int):Int:=if y<x then y else x
def zmh(max:Bool):List V->Option V
 |[.int k x,.int _ y]=>some (.int k (match max with|true=>mxI x y|false=>mnI x y))
 |[.int k x,.int _ y,.int _ z]=>some (.int k (match max with|true=>mxI (mxI x y) z|false=>mnI (mnI x y) z))
 |_=>none
theorem yka{xs:List V}{v:V}{cs:Array Value}{t:Array TypeId}{ty:TypeId}(h:zmh false xs=some v)(hn:cs.size=xs.length)(hr:∀j x,xs[j]? = some x->Rel W g H x (cs.getD j undef)):Yields P W g H (Builtin.min_ t ty cs) v:=by
 unfold zmh at h;split at h;rename_i k x k' y;injection h with h;subst h
 obtain⟨a,b,rfl⟩:∃a b,cs = #[a,b]:=by
  cases cs with|mk l=>match l,hn with|[a,b],_=>exact⟨a,b,rfl⟩
 have h0:Rel W g H (.int k x) a:=hr 0 _ rfl;have h1:Rel W g H (.int k' y) b:=hr 1 _ rfl;cases h0;cases h1;exact .same (by simp[Builtin.min_,Builtin.min2,mnI]) (.int _ _)
 ·rename_i k x k' y k'' z;injection h with h;subst h
  obtain⟨a,b,c,rfl⟩:∃a b c,cs = #[a,b,c]:=by
   cases cs with|mk l=>match l,hn with|[a,b,c],_=>exact⟨a,b,c,rfl⟩
  have h0:Rel W g H (.int k x) a:=hr 0 _ rfl;have h1:Rel W g H (.int k' y) b:=hr 1 _ rfl;have h2:Rel W g H (.int k'' z) c:=hr 2 _ rfl;cases h0;cases h1;cases h2;exact .same (by simp[Builtin.min_,Builtin.min2,mnI] <;> (repeat' split) <;> rfl) (.int _ _)
 cases h
theorem yj4{xs:List V}{v:V}{cs:Array Value}{t:Array TypeId}{ty:TypeId}(h:zmh true xs=some v)(hn:cs.size=xs.length)(hr:∀j x,xs[j]? = some x->Rel W g H x (cs.getD j undef)):Yields P W g H (Builtin.max_ t ty cs) v:=by
 unfold zmh at h;split at h;rename_i k x k' y;injection h with h;subst h
 obtain⟨a,b,rfl⟩:∃a b,cs = #[a,b]:=by
  cases cs with|mk l=>match l,hn with|[a,b],_=>exact⟨a,b,rfl⟩
 have h0:Rel W g H (.int k x) a:=hr 0 _ rfl;have h1:Rel W g H (.int k' y) b:=hr 1 _ rfl;cases h0;cases h1;exact .same (by simp[Builtin.max_,Builtin.max2,mxI]) (.int _ _)
 ·rename_i k x k' y k'' z;injection h with h;subst h
  obtain⟨a,b,c,rfl⟩:∃a b c,cs = #[a,b,c]:=by
   cases cs with|mk l=>match l,hn with|[a,b,c],_=>exact⟨a,b,c,rfl⟩
  have h0:Rel W g H (.int k x) a:=hr 0 _ rfl;have h1:Rel W g H (.int k' y) b:=hr 1 _ rfl;have h2:Rel W g H (.int k'' z) c:=hr 2 _ rfl;cases h0;cases h1;cases h2;exact .same (by simp[Builtin.max_,Builtin.max2,mxI] <;> (repeat' split) <;> rfl) (.int _ _)
 cases h
end
section
variable {W : World} {g : Gh} {H : Heap} {P : Program}
def V.zzi:V->Bool
 |.agg _=>true
 |v=>v.leaf
def zpq(W:World)(g:Gh)(H:Heap)(vs:List V)(cs:Array Value):Prop :=
 cs.size=vs.length∧(∀j v,vs[j]? = some v->(cs.getD j undef).oneCell'=true)∧∀j v,vs[j]? = some v->Rel W g H v (cs.getD j undef)
def zgc(W:World)(g:Gh)(H:Heap)(vs:List V)(cs:Array Value):Prop:=cs.size=vs.length∧∀j v,vs[j]? = some v->Rel W g H v (cs.getD j undef)
theorem zc0{x:V}{c:Value}(h:x.zzi=true)(hx:Rel W g H x c):zpq W g H x.cells c.cells:=by
 cases hx
 case agg vs cs hn ho1 hr=>exact⟨hn,ho1,hr⟩
 case any=>simp[V.zzi,V.leaf]at h
 case tup=>simp[V.zzi,V.leaf]at h
 all_goals
  refine⟨rfl,λj v hj =>?_,λj v hj =>?_⟩
  match j with
  |0=>rfl
  |n+1=>simp[V.cells]at hj
  match j with
  |0=>
   simp only[V.cells,Qcd,Qbu]at hj;subst hj
   first
    |exact .bool _|exact .int _ _|exact .str _|exact .nilp|exact .nils|exact .mapn|exact .nilf|exact .nili
    |(constructor <;> assumption)
  |n+1=>simp[V.cells]at hj
def yzr(cs:List V)(off:Nat)(xs:List V):List V:=cs.take off++xs++cs.drop (off+xs.length)
theorem zfl{cs xs:List V}{off:Nat}(h:off+xs.length<=cs.length):(yzr cs off xs).length=cs.length:=by
 unfold yzr;simp;omega
theorem y1c{cs xs:List V}{off j:Nat}{v:V}(h:off+xs.length<=cs.length)(hj:(yzr cs off xs)[j]? = some v) :
  (j<off∧cs[j]? = some v)∨(off<=j∧j<off+xs.length∧xs[j-off]? = some v)∨(off+xs.length<=j∧cs[j]? = some v):=by
 unfold yzr at hj;by_cases h1:j<off;left;rw[Qaz,Qal (by simp;omega),Qaw,Qbx h1]at hj;exact⟨h1,hj⟩;by_cases h2:j<off+xs.length;right;left;rw[Qaz,Qav (by simp;omega),Qal (by simp;omega)]at hj;have:(List.take off cs).length=off:=by simp;omega
 rw[this]at hj;exact⟨by omega,h2,hj⟩;right;right;rw[Qav (by simp;omega),Qbf]at hj;have:(List.take off cs++xs).length=off+xs.length:=by simp;omega
 rw[this]at hj;rw[show off+xs.length+(j-(off+xs.length))=j by omega]at hj;exact⟨by omega,hj⟩
def putCells(cells:Array Value)(off:Nat)(xs:Array Value):Array Value:=xs.zipIdx.foldl (λcs (c,j)=>cs.setIfInBounds (off+j) c) cells
theorem zsj(off:Nat):∀(xs:List Value) (k:Nat) (cells:Array Value),
  ((xs.zipIdx k).foldl (λcs (p:Value×Nat)=>cs.setIfInBounds (off+p.2) p.1) cells).size=cells.size ∧
  ∀i,((xs.zipIdx k).foldl (λcs (p:Value×Nat)=>cs.setIfInBounds (off+p.2) p.1) cells)[i]? = if off+k<=i∧i<off+k+xs.length∧i<cells.size then xs[i-(off+k)]? else cells[i]?
 |[],k,cells=>by
  refine⟨rfl,λi =>?_⟩;simp only[List.zipIdx_nil,List.foldl_nil,Qcc]
  rw[Qby (by omega)]
 |x::xs,k,cells=>by
  obtain⟨h1,h2⟩:=zsj off xs (k+1) (cells.setIfInBounds (off+k) x);simp only[List.zipIdx_cons,List.foldl_cons];refine⟨by rw[h1];simp,λi =>?_⟩;rw[h2 i];simp only[Array.size_setIfInBounds,List.length_cons];by_cases hi:off+(k+1)<=i∧i<off+(k+1)+xs.length∧i<cells.size;rw[Qbx hi,Qbx (by omega),show i-(off+k)=(i-(off+(k+1)))+1 by omega,List.getElem?_cons_succ];rw[Qby hi,Array.getElem?_setIfInBounds]
  by_cases hk:off+k=i;subst hk;by_cases hs:off+k<cells.size;rw[Qbx rfl,Qbx hs,Qbx (by omega)];simp;rw[Qbx rfl,Qby hs,Qby (by omega)];simp[hs];rw[Qby hk,Qby (by omega)]
theorem ze7(cells:Array Value)(off:Nat)(xs:Array Value):(putCells cells off xs).size=cells.size ∧
  ∀i,(putCells cells off xs)[i]? = if off<=i∧i<off+xs.size∧i<cells.size then xs[i-off]? else cells[i]? := by
 obtain⟨h1,h2⟩:=zsj off xs.toList 0 cells
 have e:putCells cells off xs=(xs.toList.zipIdx 0).foldl (λcs (p:Value×Nat)=>cs.setIfInBounds (off+p.2) p.1) cells:=by
  unfold putCells;rw[<-Array.foldl_toList,Array.toList_zipIdx]
 rw[e];refine⟨h1,λi =>?_⟩;rw[h2 i];simp
theorem zxz{vs xs:List V}{cs ys:Array Value}{off:Nat}(h:zpq W g H vs cs)(k:zpq W g H xs ys)(hle:off+xs.length<=vs.length):zpq W g H (yzr vs off xs) (putCells cs off ys):=by
 obtain⟨p1,p2⟩:=ze7 cs off ys;refine⟨by rw[p1,zfl hle,h.1],λj v hj =>?_,λj v hj =>?_⟩
 all_goals
  have hlt:=(Qaa.1 hj).1;rw[zfl hle]at hlt;rw[Qae,p2]
  rcases y1c hle hj with ⟨a,b⟩|⟨a,b,c⟩|⟨a,b⟩
  rw[Qby (by omega),<-Qae];first|exact h.2.1 j v b|exact h.2.2 j v b
  rw[Qbx ⟨a,by rw[k.1];omega,by rw[h.1];omega⟩,<-Qae];first|exact k.2.1 _ v c|exact k.2.2 _ v c
  rw[Qby (by rw[k.1];omega),<-Qae];first|exact h.2.1 j v b|exact h.2.2 j v b
def zpp(place:Nat->Option (Nat×Nat))(cells:List V):List (Nat×V)->Option (List V)
 |[]=>some cells
 |(i,x)::rest=>match place i with
  |none=>none
  |some (off,size)=>if x.zzi&&x.cells.length==size&&decide (off+size<=cells.length)then zpp place (yzr cells off x.cells) rest else none
theorem zi9{place:Nat->Option (Nat×Nat)}:∀(ps:List (Nat×V)) (cps:List (Nat×Value)) (cells:List V) (cs:Array Value) (r:List V),zpp place cells ps=some r->zpq W g H cells cs ->
  cps.length=ps.length->(∀(j i:Nat) (x:V),ps[j]? = some (i,x)->∃c,cps[j]? = some (i,c)∧Rel W g H x c)->∃rs,Instr.fill place cs cps=some rs∧zpq W g H r rs
 |[],cps,cells,cs,r,h,hc,hl,_=>by
  simp only[zpp,Qbu]at h;subst h
  cases cps with
  |nil=>exact⟨cs,rfl,hc⟩
  |cons=>simp at hl
 |(i,x)::ps,cps,cells,cs,r,h,hc,hl,hr=>by
  cases cps with
  |nil=>simp at hl
  |cons q cps=>
   obtain⟨c,hq,hx⟩:=hr 0 i x rfl;simp only[Qcd,Qbu]at hq;subst hq;simp only[zpp]at h;split at h;cases h;rename_i off size hp;split at h;rename_i hcond;simp only[Qag,Qbm,Qar]at hcond;obtain⟨⟨h1,h2⟩,h3⟩:=hcond;have k:=zc0 h1 hx;have k1:=k.1;have hsp:zpq W g H (yzr cells off x.cells) (putCells cs off c.cells):=zxz hc k (by omega)
   obtain⟨rs,e1,e2⟩:=zi9 ps cps _ _ r h hsp (by simpa using hl) (λj i y hj=>by simpa using hr (j+1) i y (by simpa using hj));refine⟨rs,?_,e2⟩
   have hcond2:¬((decide (c.cells.size≠size)||decide (off+c.cells.size>cs.size))=true):=by
    have:=hc.1;simp;omega
   simp only[Instr.fill,hp];rw[Qby hcond2];exact e1;cases h
def zxu(P:Program)(fs:List Field):Option (List (Nat×Nat)):=fs.mapM λf=>(P.info? f.type).map λi=>(f.offset,i.size)
def partsOf(ρ:Operand->V)(ps:Array (Nat×Operand)):List (Nat×V):=ps.toList.map λp=>(p.1,ρ p.2)
def y1y(P:Program)(t:Nat)(ps:List (Nat×V)):Option V :=
 match zeroV P t with
 |some (.agg z)=>match P.underlying t with
  |some (.struct fs)=>match zxu P fs.toList with
   |some places=>(zpp (λi=>places[i]?) z ps).map .agg
   |none=>none
  |some (.array _ e)=>if (P.info? e).isSome then (zpp (λi=>some (i * P.cellsOf e,P.cellsOf e)) z ps).map .agg else none
  |_=>none
 |_=>none
theorem ybr{t:Nat}{ps:List (Nat×V)}{v:V}{cps:Array (Nat×Value)}(h:y1y P t ps=some v)(hl:cps.size=ps.length)
  (hr:∀(j i:Nat) (x:V),ps[j]? = some (i,x)->∃c,cps[j]? = some (i,c)∧Rel W g H x c):Yields P W g H (Instr.build t cps) v:=by
 unfold y1y at h;split at h;rename_i z hz;obtain⟨zc,hz1,hz2⟩:=zle (W:=W) (g:=g) (H:=H) hz
 cases hz2 with
 |agg _ cs hn ho1 hrz=>
  split at h;rename_i fs hu;split at h;rename_i places hp;simp only[Qaf]at h;obtain⟨r,hf,rfl⟩:=h;obtain⟨rs,e1,e2⟩:=zi9 ps cps.toList z cs r hf ⟨hn,ho1,hrz⟩ (by simpa using hl) (λj i x hj=>by simpa using hr j i x hj);refine .same (c:=.agg rs) ?_ (.agg _ _ e2.1 e2.2.1 e2.2.2);have hpl:=run_places (P:=P) W fs.toList places hp
  simp[Instr.build,hz1,yz2 hu,Value.cells,Array.mapM_eq_mapM_toList,hpl,e1];cases h;rename_i n e hu;split at h;rename_i he;obtain⟨i,hi⟩:=Option.isSome_iff_exists.1 he;simp only[Qaf]at h;obtain⟨r,hf,rfl⟩:=h;obtain⟨rs,e1,e2⟩:=zi9 ps cps.toList z cs r hf ⟨hn,ho1,hrz⟩ (by simpa using hl) (λj i x hj=>by simpa using hr j i x hj);refine .same (c:=.agg rs) ?_ (.agg _ _ e2.1 e2.2.1 e2.2.2)
  have hsz:(sizeOf e).run P W = .ok (P.cellsOf e) W:=by simp[sizeOf,typeInfo,hi,Program.cellsOf]
  simp[Instr.build,hz1,yz2 hu,Value.cells,hsz,e1];cases h;cases h
 cases h
def zha:Nat->List (Nat×V)->Bool
 |_,[]=>true
 |k,(i,_)::r=>i==k&&zha (k+1) r
def z90(P:Program)(t len:Nat)(ps:List (Nat×V)):Option V :=
 match P.underlying t with
 |some (.slice e)=>match zeroV P e with
  |some z=>
   if z.zzi&&z.cells.length==P.cellsOf e&&decide (0<P.cellsOf e)&&(P.info? e).isSome&&ps.length==len&&zha 0 ps&&ps.all (λp=>p.2.zzi&&p.2.cells.length==P.cellsOf e)&&decide (len * P.cellsOf e<=2 ^ 24)then
    some (if len=0 then .sl (P.cellsOf e) [] true else .sl (P.cellsOf e) (ps.map (·.2)) true)
   else none
  |none=>none
 |_=>none
theorem zlp{sz:Nat}:∀(xs:List V),(∀x∈xs,x.cells.length=sz)->∀(j t:Nat) (x v:V),xs[j]? = some x->x.cells[t]? = some v->(xs.flatMap V.cells)[j * sz+t]? = some v
 |[],_,j,t,x,v,hj,_=>by simp at hj
 |y::ys,h,0,t,x,v,hj,ht=>by
  simp only[Qcd,Qbu]at hj;subst hj;have hlt:=(Qaa.1 ht).1;simp only[List.flatMap_cons,Nat.zero_mul,Nat.zero_add]
  rw[Qal hlt];exact ht
 |y::ys,h,j+1,t,x,v,hj,ht=>by
  have hy:=h y (.head _);simp only[List.flatMap_cons];rw[Qav (by rw[hy,Nat.succ_mul];omega),hy,show(j+1) * sz+t-sz=j * sz+t by rw[Nat.succ_mul];omega];exact zlp ys (λx hx=>h x (.tail _ hx)) j t x v (by simpa using hj) ht
theorem zoq{sz:Nat}:∀(ps:List (Nat×V)) (k:Nat) (cells:List V),zha k ps=true->(∀p∈ps,p.2.zzi=true∧p.2.cells.length=sz)->cells.length=(k+ps.length) * sz ->
  zpp (λi=>some (i * sz,sz)) cells ps=some (cells.take (k * sz)++(ps.map (·.2)).flatMap V.cells)
 |[],k,cells,_,_,hl=>by
  simp only[zpp,List.map_nil,List.flatMap_nil,List.append_nil,Qbu]
  rw[List.take_of_length_le (by rw[hl];simp)]
 |(i,x)::ps,k,cells,ho,hs,hl=>by
  simp only[zha,Qag,Qbm]at ho;obtain⟨rfl,ho⟩:=ho;obtain⟨h1,h2⟩:=hs (i,x) (.head _);simp only at h1 h2
  have hb:i * sz+sz<=cells.length:=by
   rw[hl,List.length_cons]
   calc i * sz+sz=(i+1) * sz:=by rw[Nat.succ_mul]
    _<=_:=Qau _ (by omega)
  simp only[zpp,h1,h2,beq_self_eq_true,Bool.true_and,hb,decide_true,if_true]
  have hlen:(yzr cells (i * sz) x.cells).length=(i+1+ps.length) * sz:=by
   rw[zfl (by omega),hl,List.length_cons];congr 1;omega
  rw[zoq ps (i+1) _ ho (λp hp=>hs p (.tail _ hp)) hlen];simp only[List.map_cons,List.flatMap_cons,Qbu];rw[<-Qaz]
  congr 1
  unfold yzr;rw[Nat.succ_mul,Qaz,List.take_append,List.take_append];simp only[Qay];have e1:min (i * sz) cells.length=i * sz:=by omega
  have e2:i * sz+sz-i * sz=sz:=by omega
  have e3:List.take (i * sz+sz) (List.take (i * sz) cells)=List.take (i * sz) cells:=List.take_of_length_le (by rw[Qay];omega);have e4:List.take sz x.cells=x.cells:=List.take_of_length_le (by omega);rw[e1,e2,e3,e4,h2];simp
theorem zx6{t len:Nat}{ps:List (Nat×V)}{v:V}{cps:Array (Nat×Value)}(hG:Good W g H)(h:z90 P t len ps=some v)(hl:cps.size=ps.length)
  (hr:∀(j i:Nat) (x:V),ps[j]? = some (i,x)->∃c,cps[j]? = some (i,c)∧Rel W g H x c):Yields P W g H (Instr.buildSlice t len cps) v:=by
 unfold z90 at h;split at h
 ·rename_i e hu;split at h
  ·rename_i z hz;split at h
   ·rename_i hc;simp only[Qag,Qbm,Qar,Qat]at hc;obtain⟨⟨⟨⟨⟨⟨⟨c1,c2⟩,c3⟩,c4⟩,c5⟩,c6⟩,c7⟩,c8⟩:=hc;injection h with h;obtain⟨inf,hi⟩:=Option.isSome_iff_exists.1 c4;have hsz:(sizeOf e).run P W = .ok (P.cellsOf e) W:=by simp[sizeOf,typeInfo,hi,Program.cellsOf]
    obtain⟨zc,hz1,hz2⟩:=zle (W:=W) (g:=g) (H:=H) hz;obtain⟨zs1,zs3,zs2⟩:=zc0 c1 hz2;have hbig:¬(len * P.cellsOf e>2 ^ 24):=by omega
    by_cases h0:len=0;subst h0;rw[Qbx rfl]at h;subst h;have hps:ps=[]:=Qao c5;subst hps;have hcps:cps = #[]:=by simpa using hl
    subst hcps;refine⟨.slice (some ⟨W.heap.size,0,none⟩) 0 0,W.alloc (.cells (Array.map (λ_=>default) (Array.range 0)) e),?_,.alloc _ _,.sle _ _ _ _ (λ_=>rfl)⟩;simp[Instr.buildSlice,yz2 hu,hsz,Instr.fill,newRow]
    ·rw[Qby h0]at h;subst h
     have hne:¬(len * P.cellsOf e=0):=by
      intro hm
      rcases Nat.mul_eq_zero.1 hm with q|q <;> omega
     let cells0:Array Value:=(Array.range (len * P.cellsOf e)).map (zc.cells[· % zc.cells.size]!)
     let zl:List V:=(List.range (len * P.cellsOf e)).map λi=>z.cells.getD (i % z.cells.length) .any
     have hrel0:zpq W g H zl cells0:=by
      have key:∀j v,zl[j]? = some v->∃k,z.cells[k]? = some v∧cells0.getD j undef=zc.cells.getD k undef:=λj v hj=>by
       have hjl:j<len * P.cellsOf e:=by
        have:=(Qaa.1 hj).1;simpa[zl]using this
       simp only[zl,Qan,List.getElem?_range hjl,Qbr,Qbu]at hj;have hm:j % z.cells.length<z.cells.length:=Nat.mod_lt _ (by omega)
       have hv:z.cells[j % z.cells.length]? = some v:=by
        rw[Qba,Qab hm]at hj;simp only[Option.getD_some]at hj;rw[Qab hm,hj]
       have hm2:j % zc.cells.size<zc.cells.size:=by rw[zs1];exact hm
       refine⟨_,hv,?_⟩;have hr:(Array.range (len * P.cellsOf e))[j]? = some j:=by simp[hjl]
       simp only[cells0,Qae,Array.getElem?_map,hr,Qbr,Option.getD_some];rw[getElem!_pos zc.cells (j % zc.cells.size) hm2]
       have hz':(zc.cells)[j % z.cells.length]? = some (zc.cells[j % zc.cells.size]):=by
        rw[<-zs1];exact Qas hm2
       rw[hz'];rfl
      refine⟨by simp[zl,cells0],λj v hj =>?_,λj v hj =>?_⟩
      all_goals
       obtain⟨k,hk1,hk2⟩:=key j v hj;rw[hk2]
       first|exact zs3 _ _ hk1|exact zs2 _ _ hk1
     have hfv:=zoq ps 0 zl c6 c7 (by simp[zl,c5]);simp only[Nat.zero_mul,List.take_zero,List.nil_append]at hfv;obtain⟨rs,e1,e2⟩:=zi9 ps cps.toList zl cells0 _ hfv hrel0 (by simpa using hl) (λj i x hj=>by simpa using hr j i x hj)
     have hxs:∀x∈ps.map (·.2),x.cells.length=P.cellsOf e:=λx hx=>by
      obtain⟨p,hp,rfl⟩:=Qbg.1 hx;exact(c7 p hp).2
     refine⟨.slice (some ⟨W.heap.size,0,none⟩) len len,W.alloc (.cells rs e),?_,.alloc _ _,?_⟩;simp only[Instr.buildSlice,Qca,yz2 hu,Qcb,hsz,Sem.run_ite,hbig,hne,if_false,Sem.run_pure,hz1];have e1':Instr.fill (λi=>some (i * P.cellsOf e,P.cellsOf e)) (Array.map (λx=>zc.cells[x % zc.cells.size]!) (Array.range (len * P.cellsOf e))) cps.toList=some rs:=e1;simp[e1',newRow]
     have hlen:(ps.map (·.2)).length=len:=by simp[c5]
     have hgr:=(Grow.alloc W (.cells rs e)).step (g:=g) (H:=H);rw[<-hlen];refine .sl _ _ true W.heap.size 0 _ (λj t=>rs.getD (j * P.cellsOf e+t) undef) (λhn =>?_) c3 (Qbw _) (λ_=>rfl) (λj x hj=>hxs x (Qax hj)) (λj x t v hj ht =>?_) (λj x t v hj ht=>e2.2.1 _ _ (zlp _ hxs j t x v hj ht)) (λj x t v hj ht =>?_);obtain⟨l,i,o,ho,hb⟩:=hn;have:=hG.lt l i o ho;omega
     have:=zlp _ hxs j t x v hj ht;have hlt:=(Qaa.1 this).1;rw[Nat.zero_add];rw[World.cell?_alloc_new];rw[Qas (by rw[e2.1];exact hlt)];simp[Qae,Qas (show j * P.cellsOf e+t<rs.size by rw[e2.1];exact hlt)];exact(e2.2.2 _ _ (zlp _ hxs j t x v hj ht)).mono hgr
   cases h
  cases h
 cases h
end
section
variable {W : World} {g : Gh} {H : Heap} {P : Program}
theorem zs4(z:Array Value)(n j t sz:Nat)(hz:z.size=sz)(ht:t<sz)(hj:j<n):(madeCells z (n * sz)).getD (j * sz+t) undef=z.getD t undef:=by
 have hlt:j * sz+t<n * sz:=by
  have:(j+1) * sz<=n * sz:=Qau _ hj;rw[Nat.succ_mul]at this;omega
 have hm:(j * sz+t) % z.size=t:=by rw[hz,Nat.mul_comm,Nat.mul_add_mod,Nat.mod_eq_of_lt ht]
 simp only[madeCells,Qae,Array.getElem?_map];rw[show(Array.range (n * sz))[j * sz+t]? = some (j * sz+t) by simp[hlt]];simp only[Qbr,Option.getD_some,hm];rw[getElem!_pos z t (by omega),Qas (by omega)];rfl
def zf8(P:Program)(t:Nat)(n c:V):Option V :=
 match n,c with
 |.int _ (.ofNat n),.int _ (.ofNat c)=>match P.underlying t with
  |some (.slice e)=>match P.info? e,zeroV P e with
   |some i,some z=>match z.zzi&&Nat.beq z.cells.length i.size&&Nat.blt 0 i.size&&Nat.ble n c&&Nat.ble c 1000000&&Nat.ble i.bytes 100000 with
    |true=>some (.sl i.size (List.replicate n z) (Nat.beq n c))
    |false=>none
   |_,_=>none
  |_=>none
 |_,_=>none
theorem yek(hG:Good W g H){t:Nat}{n c v:V}{cn cc:Value}(h:zf8 P t n c=some v)(hn:Rel W g H n cn)(hcc:Rel W g H c cc):Yields P W g H (Instr.makeSlice t cn cc) v:=by
 unfold zf8 at h;split at h;rename_i k1 n k2 c;split at h;rename_i e ht;split at h;rename_i i z hi hz;split at h;rename_i hc;simp only[Qag]at hc;obtain⟨⟨⟨⟨⟨c1,c2⟩,c3⟩,c4⟩,c5⟩,c6⟩:=hc;have c2:=Qaj c2;rw[Nat.blt_eq]at c3;have c4:=Nat.le_of_ble_eq_true c4;have c5:=Nat.le_of_ble_eq_true c5;have c6:=Nat.le_of_ble_eq_true c6;injection h with h;subst h;cases hn;cases hcc
 obtain⟨zc,hz1,hz2⟩:∃zc,i.zero=some zc∧Rel W g H z zc:=by
  simp only[zeroV,hi,Qbq,Qaf]at hz;obtain⟨zc,q1,rfl⟩:=hz;exact⟨zc,q1,zjo zc⟩
 obtain⟨r1,r2,r3⟩:=zc0 c1 hz2;have hb:i.bytes * c<=100000 * 1000000:=Nat.mul_le_mul c6 c5;have hrun:=run_make (P:=P) W t e i zc ht hi hz1 k1 k2 (Int.ofNat n) (Int.ofNat c) (Int.natCast_nonneg n) (by show((n:Nat):Int)<=(c:Nat);omega) (by show((i.bytes:Nat):Int) * ((c:Nat):Int)<=_;rw[<-Int.natCast_mul];omega) (by show((c:Nat):Int)<=_;omega);simp only[Int.toNat,Int.ofNat_eq_natCast]at hrun
 have hgr:=Grow.alloc W (.cells (madeCells zc.cells (c * i.size)) e);refine⟨.slice (some ⟨W.heap.size,0,none⟩) n c,_,by rw[show Int.ofNat n=((n:Nat):Int)from rfl,show Int.ofNat c=((c:Nat):Int)from rfl,hrun],hgr,?_⟩
 have at':∀(j:Nat) (x:V) (tt:Nat) (u:V),(List.replicate n z)[j]? = some x->x.cells[tt]? = some u->x=z∧j<n∧tt<i.size:=λj x tt u hj hu=>by
  rw[Qbo]at hj;split at hj;rename_i hjn;injection hj with hj;subst hj;exact⟨rfl,hjn,by rw[<-c2];exact(Qaa.1 hu).1⟩;cases hj
 have hr:=Rel.sl (W:=W.alloc (.cells (madeCells zc.cells (c * i.size)) e)) (g:=g) (H:=H) i.size (List.replicate n z) (Nat.beq n c) W.heap.size 0 c (λj tt=>zc.cells.getD tt undef) (λhn=>by
  obtain⟨l,k,o,ho,hb⟩:=hn;have:=hG.lt l k o ho
  omega) c3 (by simpa using c4) (λhf=>by rw[List.length_replicate];exact(Qaj hf).symm) (λj x hj=>by
  rw[Qbo]at hj;split at hj;injection hj with hj;subst hj;exact c2
  cases hj) (λj x tt u hj hu=>by
  obtain⟨rfl,hjn,htl⟩:=at' j x tt u hj hu;rw[Nat.zero_add,World.cell?_alloc_new]
  have hlt:j * i.size+tt<c * i.size:=by
   have:(j+1) * i.size<=c * i.size:=Qau _ (by omega);rw[Nat.succ_mul]at this;omega
  have hm:=zs4 zc.cells c j tt i.size (by rw[r1,c2]) htl (by omega);rw[Qae,Qas (by rw[size_madeCells];exact hlt)]at hm;rw[Qas (by rw[size_madeCells];exact hlt)]
  simpa using hm) (λj x tt u hj hu=>by
  obtain⟨rfl,hjn,htl⟩:=at' j x tt u hj hu
  exact r2 tt u hu) (λj x tt u hj hu=>by
  obtain⟨rfl,hjn,htl⟩:=at' j x tt u hj hu
  exact(r3 tt u hu).mono hgr.step)
 rw[List.length_replicate]at hr;exact hr;cases h;cases h;cases h;cases h
end
section
variable {W : World} {g : Gh} {H : Heap} {P : Program}
def z8i(P:Program)(H:Heap)(ρ:Operand->V)(c:Call):Option V :=
 match c.callee with
 |.builtin .len=>match c.args.toList,c.argTypes.toList with
  |[x],[t]=>zkr P H t (ρ x)
  |_,_=>none
 |.builtin .min=>zmh false (c.args.toList.map ρ)
 |.builtin .max=>zmh true (c.args.toList.map ρ)
 |_=>none
def pv(P:Program)(H:Heap)(ρ:Operand->V):Op->Option V
 |.move x=>some (ρ x)
 |.assign x=>some (ρ x)
 |.pick c a b=>match ρ c with
  |.bool t=>some (if t then ρ a else ρ b)
  |_=>none
 |.load t a=>z7g P H t (ρ a)
 |.nilCheck x=>zx0 (ρ x)
 |.binOp op t x y _=>zx8 P op t (ρ x) (ρ y)
 |.unOp op _ x=>pUn op (ρ x)
 |.convert s d x=>zop P s d (ρ x)
 |.makeInterface t x=>ze9 P t (ρ x)
 |.makeFunc (.func f) first caps=>some (.fn f (first.toList.map ρ) (caps.toList.map ρ))
 |.slice t x lo hi mx=>zdu P H t (ρ x) (lo.map ρ) (hi.map ρ) (mx.map ρ)
 |.fieldAddr s x f=>z88 P s f (ρ x)
 |.field s x f=>y1j P s f (ρ x)
 |.indexAddr t x i=>kzm P H t (ρ x) (ρ i)
 |.index t x i=>zwf P t (ρ x) (ρ i)
 |.lookup t x k ok=>znb P H t (ρ x) (ρ k) ok
 |.typeAssert x _ u ok=>zfq P (ρ x) u ok
 |.extract x i=>zu5 i (ρ x)
 |.build t ps=>y1y P t (partsOf ρ ps)
 |.buildSlice t len ps=>z90 P t len (partsOf ρ ps)
 |.makeSlice t n c=>zf8 P t (ρ n) (ρ c)
 |.call c=>z8i P H ρ c
 |_=>none
def zul(P:Program)(W:World)(g:Gh)(H:Heap)(s:Sem Next)(v:V):Prop:=∃c W',s.run P W = .ok (.value c) W'∧Grow W W'∧Rel W' g H v c
theorem Yields.op{s:Sem Value}{v:V}(h:Yields P W g H s v):zul P W g H (do pure (.value (<-s))) v:=by
 obtain⟨c,W',h1,h2,h3⟩:=h;exact⟨c,W',by simp[h1],h2,h3⟩
theorem zho{ρ:Operand->V}{r:Operand->Value}(hρ:∀x,Rel W g H (ρ x) (r x))(ps:Array (Nat×Operand)) :
  (ps.map λp=>(p.1,r p.2)).size=(partsOf ρ ps).length∧∀(j i:Nat) (x:V),(partsOf ρ ps)[j]? = some (i,x)->∃c,(ps.map λp=>(p.1,r p.2))[j]? = some (i,c)∧Rel W g H x c:=by
 refine⟨by simp[partsOf],λj i x hj =>?_⟩;simp only[partsOf,Qan,Qaf,Qbh]at hj;obtain⟨p,hp,heq⟩:=hj;injection heq with h1 h2;exact⟨r p.2,by simp[hp,h1],by rw[<-h2];exact hρ _⟩
theorem zq1{ρ:Operand->V}{r:Operand->Value}(hρ:∀x,Rel W g H (ρ x) (r x))(xs:Array Operand):zgc W g H (xs.toList.map ρ) (xs.map r):=by
 refine⟨by simp,λj v hj =>?_⟩;simp only[Qan,Qaf,Qbh]at hj;obtain⟨x,hx,rfl⟩:=hj;have:(xs.map r).getD j undef=r x:=by simp[Qae,hx]
 rw[this];exact hρ x
theorem zzw{α:Type}{a:Array α}{l:List α}(h:a.toList=l):a=l.toArray:=by rw[<-h]
theorem zvn{ρ:Operand->V}{r:Operand->Value}{o:Oper}{v:V}(hG:Good W g H)(hρ:∀x,Rel W g H (ρ x) (r x))(h:pv P H ρ o.op=some v):zul P W g H (execOp r o) v:=by
 unfold pv at h;unfold execOp;split at h
 rename_i x heq;rw[heq];injection h with h;subst h;exact⟨r x,W,rfl,.refl W,hρ x⟩
 rename_i x heq;rw[heq];injection h with h;subst h;exact⟨r x,W,rfl,.refl W,hρ x⟩
 rename_i c a b heq;rw[heq];split at h;rename_i t hc;injection h with h;subst h;have h1:=hρ c;rw[hc]at h1;generalize hrc:r c=rc at h1;cases h1;cases t;exact⟨r b,W,by simp[asBool,hrc],.refl W,hρ b⟩;exact⟨r a,W,by simp[asBool,hrc],.refl W,hρ a⟩;cases h;rename_i t a heq;rw[heq];exact(yh5 hG h (hρ a)).op
 ·rename_i x heq;rw[heq];have h1:=hρ x;generalize hv:ρ x=u at h h1;generalize hc:r x=c at h1;cases u <;> simp only[zx0,Qbu,reduceCtorEq]at h
  all_goals
   subst h;refine⟨c,W,?_,.refl W,h1⟩;cases h1;simp only[hc];rfl
 rename_i op t x y ty heq;rw[heq];exact(yk5 x y h (hρ x) (hρ y)).op;rename_i op t x heq;rw[heq];exact(ym6 h (hρ x)).op;rename_i s d x heq;rw[heq];exact(y6k h (hρ x)).op;rename_i t x heq;rw[heq];exact(zr4 h (hρ x)).op
 rename_i f first caps heq;rw[heq];injection h with h;subst h
 have h1:=zq1 hρ first;have h2:=zq1 hρ caps;exact⟨.func (.func f) (first.map r) (caps.map r),W,by simp[Instr.makeFunc],.refl W,.fn _ _ _ _ _ h1.1 h2.1 h1.2 h2.2⟩;rename_i t x lo hi mx heq;rw[heq];exact(ybj hG h (hρ x) (y0p hρ lo) (y0p hρ hi) (y0p hρ mx)).op;rename_i s x f heq;rw[heq];exact(zyu h (hρ x)).op;rename_i s x f heq;rw[heq];exact(yc4 h (hρ x)).op
 rename_i t x i heq;rw[heq];exact(y07 h (hρ x) (hρ i)).op;rename_i t x i heq;rw[heq];exact(yda h (hρ x) (hρ i)).op;rename_i t x k ok heq;rw[heq];exact(y9r hG h (hρ x) (hρ k)).op;rename_i x t u ok heq;rw[heq];exact(zx9 h (hρ x)).op;rename_i x i heq;rw[heq];exact(y77 h (hρ x)).op;rename_i t ps heq;rw[heq];exact(ybr h (zho hρ ps).1 (zho hρ ps).2).op
 rename_i t len ps heq;rw[heq];exact(zx6 hG h (zho hρ ps).1 (zho hρ ps).2).op;rename_i t n c heq;rw[heq];exact(yek hG h (hρ n) (hρ c)).op;rename_i c heq;rw[heq];unfold z8i at h;have hargs:=zq1 hρ c.args;obtain⟨callee,args,argTypes⟩:=c;simp only at h hargs ⊢;split at h;split at h;rename_i x t ha ht;obtain rfl:=zzw ha;obtain rfl:=zzw ht;obtain⟨c,W',h1,h2,h3⟩:=yk3 (ty:=o.type) hG h (hρ x);refine⟨c,W',?_,h2,h3⟩
 simp[resolve,invoke,builtin,h1];cases h;obtain⟨c,W',h1,h2,h3⟩:=yka (P:=P) (t:=argTypes) (ty:=o.type) h hargs.1 hargs.2;exact⟨c,W',by simp[resolve,invoke,builtin,h1],h2,h3⟩;obtain⟨c,W',h1,h2,h3⟩:=yj4 (P:=P) (t:=argTypes) (ty:=o.type) h hargs.1 hargs.2;exact⟨c,W',by simp[resolve,invoke,builtin,h1],h2,h3⟩;cases h;cases h
end
section
variable {W : World} {g : Gh} {H : Heap} {P : Program}
def Heap.push(H:Heap)(o:zz4):Heap:={H with L:=H.L++[some o]}
def Heap.set(H:Heap)(l i:Nat)(o:zz4):Heap:=if l=H.lv then {H with L:=H.L.set i (some o)}else {H with E:=λl' i'=>if l'=l∧i'=i then some o else H.E l' i'}
theorem Heap.ze0(o:zz4)(l i:Nat):(H.push o).get l i=if l=H.lv∧i=H.L.length then some o else H.get l i:=by
 unfold Heap.get Heap.push;dsimp only;by_cases hl:l=H.lv;by_cases hi:i=H.L.length;simp[hl,hi];simp only[hl,if_true,hi,and_false,if_false];by_cases h2:i<H.L.length;rw[Qal h2];rw[Qcf (show(H.L++[some o]).length<=i by simp;omega),Qcf (show H.L.length<=i by omega)];simp[hl]
theorem Heap.y8t(o:zz4)(l i:Nat):(H.set l i o).lv=H.lv:=by unfold Heap.set;split <;> rfl
theorem Heap.yid(o:zz4)(l i:Nat):(H.set l i o).L.length=H.L.length:=by unfold Heap.set;split <;> simp
theorem Heap.zqh{o o':zz4}{l i:Nat}(h:H.get l i=some o)(l' i':Nat):(H.set l i o').get l' i'=if l'=l∧i'=i then some o' else H.get l' i':=by
 unfold Heap.set;by_cases hl:l=H.lv
 have hlt:i<H.L.length:=by
  unfold Heap.get at h;rw[Qbx hl]at h
  rcases Nat.lt_or_ge i H.L.length with q|q
  exact q;simp[Qcf q]at h
 rw[Qbx hl];subst hl;unfold Heap.get;dsimp only;by_cases h1:l'=H.lv;subst h1;simp only[if_true,true_and];rw[Qbi];by_cases h2:i=i';subst h2;simp[hlt];rw[Qby h2,Qby (λq=>h2 q.symm)];simp[h1];rw[Qby hl];unfold Heap.get;dsimp only;by_cases h1:l'=H.lv;subst h1;simp only[if_true];rw[Qby (λq=>hl q.1.symm)];simp[h1]
def Gh.add(g:Gh)(l i b c:Nat):Gh where
 dom l' i':=g.dom l' i'∨(l'=l∧i'=i)
 blk l' i':=if l'=l∧i'=i then b else g.blk l' i'
 ab l' i':=if l'=l∧i'=i then b else g.ab l' i'
 cap l' i':=if l'=l∧i'=i then c else g.cap l' i'
 base:=g.base
theorem zz4.zqu{o:zz4}{l i l' i' b c:Nat}(h:¬(l'=l∧i'=i)):o.blk (g.add l i b c) l' i'=o.blk g l' i':=by
 cases o <;> simp[zz4.blk,Gh.add,h]
theorem zz4.zh4{o:zz4}{l i b c:Nat}:o.blk (g.add l i b c) l i=b:=by
 cases o <;> simp[zz4.blk,Gh.add]
def z5i(P:Program)(W:World)(g:Gh)(H:Heap)(s:Sem Next)(v:V)(H':Heap):Prop :=
 ∃c W' g',(s.run P W = .ok (.value c) W'∨(s.run P W = .ok .skip W'∧c=undef))∧Step W g H W' g' H'∧Good W' g' H'∧Rel W' g' H' v c
theorem zul.turns{s:Sem Next}{v:V}(hG:Good W g H)(h:zul P W g H s v):z5i P W g H s v H:=by
 obtain⟨c,W',h1,h2,h3⟩:=h;exact⟨c,W',g,.inl h1,h2.step,hG.grow h2,h3⟩
theorem zde(hG:Good W g H){O:Obj}{o:zz4}(c:Nat)
  (ho:∀(W':World) (g':Gh) (H':Heap),W'=W.alloc O->g'=g.add H.lv H.L.length W.heap.size c->H'=H.push o->Step W g H W' g' H'->zal W' g' H' H.lv H.L.length o) :
  Step W g H (W.alloc O) (g.add H.lv H.L.length W.heap.size c) (H.push o)∧Good (W.alloc O) (g.add H.lv H.L.length W.heap.size c) (H.push o):=by
 have hnew:¬g.dom H.lv H.L.length:=λh=>by rcases hG.fresh _ _ h with h|⟨_,h⟩ <;> omega
 have hne:∀l i,g.dom l i->¬(l=H.lv∧i=H.L.length):=λl i h q=>hnew (by rw[<-q.1,<-q.2];exact h)
 have hgr:=Grow.alloc W O
 have hstep:Step W g H (W.alloc O) (g.add H.lv H.L.length W.heap.size c) (H.push o):=by
  refine⟨rfl,rfl,rfl,hgr.size,λb hb _=>hgr.block b hb,λb hb =>?_,λl i h=>.inl h,λl i h=>h.elim .inl (λq=>.inr q.1),λl i h=>by simp[Gh.add,hne l i h],λl i ver ty sz xs cp hd hg =>?_,rfl,rfl⟩;obtain⟨l,i,q,hq,hqb⟩:=hb;rw[Heap.ze0]at hq;split at hq;rename_i hk;injection hq with hq;subst hq;obtain⟨rfl,rfl⟩:=hk;rw[zz4.zh4]at hqb;right;omega;rename_i hk;rw[zz4.zqu hk]at hqb;exact .inl ⟨l,i,q,hq,hqb⟩
  rw[Heap.ze0,Qby (hne l i hd)]at hg;exact⟨ver,xs,cp,hg,Qbw _,λ_=>⟨by simp[Gh.add,hne l i hd],by simp[Gh.add,hne l i hd],Qbw _⟩⟩
 refine⟨hstep,?_,?_,?_,?_,?_,hG.ziy.step hstep,Qbk hG.base hstep.size⟩;intro l i q hq;rw[Heap.ze0]at hq;split at hq;rename_i hk;exact .inr hk;exact .inl (hG.dom l i q hq);intro l i q hq;rw[Heap.ze0]at hq;split at hq;rename_i hk;obtain⟨rfl,rfl⟩:=hk;rw[zz4.zh4];simp;rename_i hk;rw[zz4.zqu hk];exact Qbj (hG.lt l i q hq) hgr.size;intro l i q l' i' q' hq hq' hb;rw[Heap.ze0]at hq hq';split at hq
 rename_i hk;obtain⟨rfl,rfl⟩:=hk;split at hq';rename_i hk';exact⟨hk'.1.symm,hk'.2.symm⟩;rename_i hk';rw[zz4.zh4,zz4.zqu hk']at hb;have:=hG.lt _ _ _ hq';omega;rename_i hk;split at hq';rename_i hk';obtain⟨rfl,rfl⟩:=hk';rw[zz4.zqu hk,zz4.zh4]at hb;have:=hG.lt _ _ _ hq;omega;rename_i hk';rw[zz4.zqu hk,zz4.zqu hk']at hb;exact hG.inj _ _ _ _ _ _ hq hq' hb;intro l i h;show l<H.lv∨(l=H.lv∧i<(H.L++[some o]).length)
 rcases h with h|⟨h1,h2⟩
 rcases hG.fresh l i h with q|⟨q1,q2⟩
 exact .inl q;exact .inr ⟨q1,by simp;omega⟩;exact .inr ⟨h1,by simp;omega⟩;intro l i q hq;rw[Heap.ze0]at hq;split at hq;rename_i hk;obtain⟨rfl,rfl⟩:=hk;injection hq with hq;subst hq;exact ho _ _ _ rfl rfl rfl hstep;rename_i hk;have h1:=hG.obj l i q hq;exact h1.mono hstep (hgr.block _ (hG.lt l i q hq)) (by simp[Gh.add,hk]) (by simp[Gh.add,hk]) (by simp[Gh.add,hk])
theorem zas(hG:Good W g H){l i:Nat}{o o':zz4}(ho:H.get l i=some o)(hb:o'.blk g l i=o.blk g l i){W':World}
  (hos:W'.os=W.os) (htape:W'.tape=W.tape) (hout:W'.output=W.output) (hsize:W.heap.size<=W'.heap.size) (hblock:∀b,b<W.heap.size->b≠o.blk g l i->W'.heap[b]? = W.heap[b]?)
  (harr:∀ver ty sz xs cp,o' = .arr ver ty sz xs cp->∃v ys cp',o = .arr v ty sz ys cp'∧v<=ver∧(v=ver->ys.length<=xs.length))
  (hrel:Step W g H W' g (H.set l i o')->zal W' g (H.set l i o') l i o') :
  Step W g H W' g (H.set l i o')∧Good W' g (H.set l i o'):=by
 have hget:=Heap.zqh (o':=o') ho
 have hstep:Step W g H W' g (H.set l i o'):=by
  refine⟨hos,htape,hout,hsize,λb h1 h2=>hblock b h1 (λq=>h2 ⟨l,i,o,ho,q.symm⟩),λb hb' =>?_,λ_ _ h=>h,λ_ _ h=>.inl h,λ_ _ _=>rfl,λl' i' ver ty sz xs cp hd hg =>?_,Heap.y8t _ _ _,rfl⟩;obtain⟨l',i',q,hq,hqb⟩:=hb';rw[hget]at hq;split at hq;rename_i hk;obtain⟨rfl,rfl⟩:=hk;injection hq with hq;subst hq;exact .inl ⟨l',i',o,ho,by rw[<-hb];exact hqb⟩;exact .inl ⟨l',i',q,hq,hqb⟩;rw[hget]at hg;split at hg
  rename_i hk;obtain⟨rfl,rfl⟩:=hk;injection hg with hg;obtain⟨v,ys,cp',rfl,hle,hl⟩:=harr _ _ _ _ _ hg;exact⟨v,ys,cp',ho,hle,λe=>⟨rfl,rfl,hl e⟩⟩;exact⟨ver,xs,cp,hg,Qbw _,λ_=>⟨rfl,rfl,Qbw _⟩⟩
 refine⟨hstep,?_,?_,?_,?_,?_,hG.ziy.step hstep,Qbk hG.base hstep.size⟩;intro l' i' q hq;rw[hget]at hq;split at hq;rename_i hk;obtain⟨rfl,rfl⟩:=hk;exact hG.dom _ _ _ ho;exact hG.dom _ _ _ hq;intro l' i' q hq;rw[hget]at hq;split at hq;rename_i hk;obtain⟨rfl,rfl⟩:=hk;injection hq with hq;subst hq;rw[hb];exact Qbj (hG.lt _ _ _ ho) hsize;exact Qbj (hG.lt _ _ _ hq) hsize
 intro l1 i1 q1 l2 i2 q2 h1 h2 h3;rw[hget]at h1 h2;split at h1;rename_i hk;obtain⟨rfl,rfl⟩:=hk;injection h1 with h1;subst h1;rw[hb]at h3;split at h2;rename_i hk';exact⟨hk'.1.symm,hk'.2.symm⟩;exact hG.inj _ _ _ _ _ _ ho h2 h3;split at h2;rename_i hk';obtain⟨rfl,rfl⟩:=hk';injection h2 with h2;subst h2;rw[hb]at h3;exact hG.inj _ _ _ _ _ _ h1 ho h3;exact hG.inj _ _ _ _ _ _ h1 h2 h3;intro l' i' h;rw[Heap.y8t,Heap.yid]
 exact hG.fresh l' i' h;intro l' i' q hq;rw[hget]at hq;split at hq;rename_i hk;obtain⟨rfl,rfl⟩:=hk;injection hq with hq;subst hq;exact hrel hstep;rename_i hk;refine(hG.obj l' i' q hq).mono hstep (hblock _ (hG.lt _ _ _ hq) λe =>?_) rfl rfl rfl;exact hk (hG.inj _ _ _ _ _ _ hq ho e)
theorem y3n{W':World}{g':Gh}{H':Heap}{l i:Nat}{cs:List V}{c:Array Value}{ty:TypeId}(h:W'.heap[g'.blk l i]? = some (.cells c ty (0,0)))(hr:zpq W' g' H' cs c):zal W' g' H' l i (.cells cs) :=
 ⟨c,ty,h,hr.1,hr.2.1,hr.2.2⟩
theorem zpq.mono{vs:List V}{cs:Array Value}(h:zpq W g H vs cs){W':World}{g':Gh}{H':Heap}(s:Step W g H W' g' H'):zpq W' g' H' vs cs:=⟨h.1,h.2.1,λj v hj=>(h.2.2 j v hj).mono s⟩
theorem z1h(W:World)(O:Obj):(W.alloc O).heap[W.heap.size]? = some O:=by
 show(W.heap.push O)[W.heap.size]? = _;simp
theorem zud(hG:Good W g H){t:Nat}{cs:List V}{c:Value}{s:Sem Next}(hr:zpq W g H cs c.cells)
  (hs:s.run P W = .ok (.value (.pointer (some ⟨W.heap.size,0,none⟩))) (W.alloc (.cells c.cells t))):z5i P W g H s (.ptr H.lv H.L.length 0) (H.push (.cells cs)):=by
 obtain⟨h1,h2⟩:=zde hG (O:=.cells c.cells t) (o:=.cells cs) 0 (λW' g' H' hW hg hH hst=>by
  refine y3n (c:=c.cells) (ty:=t) ?_ (hr.mono hst);rw[hW,hg];simp only[Gh.add,and_self,if_true]
  exact z1h _ _)
 refine⟨_,_,_,.inl hs,h1,h2,?_⟩;have:=Rel.ptr (W:=W.alloc (.cells c.cells t)) (g:=g.add H.lv H.L.length W.heap.size 0) (H:=H.push (.cells cs)) H.lv H.L.length 0 (.inr ⟨rfl,rfl⟩);simpa[Gh.add]using this
def y1d(P:Program)(H:Heap)(t:Nat):Option (V×Heap) :=
 match zeroV P t with
 |some z=>if z.zzi then some (.ptr H.lv H.L.length 0,H.push (.cells z.cells))else none
 |none=>none
theorem yc0(hG:Good W g H){t:Nat}{v:V}{H':Heap}(h:y1d P H t=some (v,H')):z5i P W g H (do pure (.value (<-Instr.alloc t true (.tuple #[])))) v H':=by
 unfold y1d at h;split at h;rename_i z hz;split at h;rename_i hs;injection h with h;injection h with h1 h2;subst h1;subst h2;obtain⟨zc,hz1,hz2⟩:=zle (W:=W) (g:=g) (H:=H) hz;exact zud hG (t:=t) (c:=zc) (zc0 hs hz2) (by simp[Instr.alloc,hz1,newVar,newRow]);cases h;cases h
def ynb(H:Heap)(x:V):Option (V×Heap):=if x.zzi then some (.ptr H.lv H.L.length 0,H.push (.cells x.cells))else none
theorem yk2(hG:Good W g H){t:Nat}{x v:V}{c:Value}{H':Heap}(h:ynb H x=some (v,H'))(hx:Rel W g H x c):z5i P W g H (do pure (.value (<-Instr.box t c))) v H':=by
 unfold ynb at h;split at h;rename_i hs;injection h with h;injection h with h1 h2;subst h1;subst h2;exact zud hG (t:=t) (c:=c) (zc0 hs hx) (by simp[Instr.box,newVar,newRow]);cases h
theorem zk8(W:World)(b:Nat)(cs:Array Value):(W.setRow b cs).os=W.os∧(W.setRow b cs).tape=W.tape∧(W.setRow b cs).output=W.output∧W.heap.size<=(W.setRow b cs).heap.size:=⟨rfl,rfl,rfl,by simp[World.setRow]⟩
theorem zi4(cur:Array Value)(o:Nat)(vs:Array Value)(h:o+vs.size<=cur.size):(cur.toList.take o++vs.toList++cur.toList.drop (o+vs.toList.length)).toArray=putCells cur o vs:=by
 obtain⟨h1,h2⟩:=ze7 cur o vs;apply Array.ext_getElem?;intro i;rw[h2 i];simp only[List.getElem?_toArray];by_cases a:i<o;rw[Qby (by omega),Qaz,Qal (by simp;omega),Qaw,Qbx a,Qbh];by_cases b:i<o+vs.size
 rw[Qbx ⟨by omega,b,by omega⟩,Qaz,Qav (by simp;omega),Qal (by simp;omega),Qbh]
 congr 1;simp;omega
 rw[Qby (by omega),Qav (by simp;omega),Qbf,Qbh]
 congr 1;simp;omega
def z74(x:V)(cs:List V):V:=match x with
 |.agg _=>.agg cs
 |x=>cs.headD x
def fits(y:V)(cs:List V):Bool:=match y with| .agg _=>true|_=>match cs with|[c]=>c.leaf|_=>false
theorem ygc{x:V}{cs:List V}(h:fits x cs=true):(z74 x cs).cells=cs:=by
 cases x <;> first
  |rfl
  |(match cs,h with
    |[],h=>simp[fits]at h
    |[c],h=>cases c <;> first|rfl|(simp[fits,V.leaf]at h;done)
    |_::_::_,h=>simp[fits]at h)
def zaz(P:Program)(H:Heap)(t:Nat)(a x:V):Option (V×Heap) :=
 if x.zzi&&(P.info? t).isSome&&x.cells.length==P.cellsOf t then
  match a with
  |.ptr l i off=>match H.get l i with
   |some (.cells cs)=>if off+x.cells.length<=cs.length then some (.any,H.set l i (.cells (yzr cs off x.cells)))else none
   |_=>none
  |.ap l i ver idx off=>match H.get l i with
   |some (.arr ver' ty sz xs cp)=>if ver'=ver then match xs[idx]? with
    |some y=>if off+x.cells.length<=y.cells.length∧fits y (yzr y.cells off x.cells)=true then
      some (.any,H.set l i (.arr ver ty sz (xs.set idx (z74 y (yzr y.cells off x.cells))) cp))else none
    |none=>none else none
   |_=>none
  |_=>none
 else none
theorem zxs{t:Nat}{b o:Nat}{cur:Array Value}{ty:TypeId}{c:Value}(hi:(P.info? t).isSome=true)(hc:c.cells.size=P.cellsOf t)(h1:∀v∈c.cells.toList,v.oneCell'=true)(hb:W.heap[b]? = some (.cells cur ty (0,0)))(hle:o+c.cells.size<=cur.size) :
  (Instr.storeAt t (.pointer (some ⟨b,o,none⟩)) c).run P W = .ok () (W.setRow b (putCells cur o c.cells)):=by
 obtain⟨i,hi⟩:=Option.isSome_iff_exists.1 hi;have hsz:(sizeOf t).run P W = .ok (P.cellsOf t) W:=by simp[sizeOf,typeInfo,hi,Program.cellsOf]
 have:=run_storeCells_at P b o ty c.cells.toList 0 cur W hb (by simpa using hle) h1;simp only[Nat.add_zero]at this;rw[zi4 cur o c.cells hle]at this;simp[Instr.storeAt,Instr.sureAddr,storeVar,hsz,hc,this]
theorem zpq.one{vs:List V}{cs:Array Value}(h:zpq W g H vs cs):∀v∈cs.toList,v.oneCell'=true:=λv hv=>by
 obtain⟨j,hj,rfl⟩:=List.getElem_of_mem hv;have hj':j<cs.size:=by simpa using hj
 have:=h.2.1 j (vs[j]'(by rw[<-h.1];exact hj')) (Qab _);simpa[Qae,hj']using this
theorem yc8(hG:Good W g H){t:Nat}{a x v:V}{ca c:Value}{H':Heap}(h:zaz P H t a x=some (v,H'))(ha:Rel W g H a ca)(hx:Rel W g H x c):z5i P W g H (do Instr.storeAt t ca c;pure .skip) v H':=by
 unfold zaz at h;split at h;rename_i hc;simp only[Qag,Qbm]at hc;obtain⟨⟨hs,hi⟩,hn⟩:=hc;have hrc:=zc0 hs hx;split at h;rename_i l i off;split at h;rename_i cs hg;split at h;rename_i hle;injection h with h;injection h with h1 h2;subst h1;subst h2
 cases ha with
 |ptr _ _ _ hd=>
  obtain⟨cur,ty,k1,k2,k3,k4⟩:=hG.obj _ _ _ hg;have hrun:=zxs (P:=P) (t:=t) (o:=off) hi (by rw[hrc.1,hn]) hrc.one k1 (by rw[hrc.1,k2];exact hle);obtain⟨s1,s2,s3,s4⟩:=zk8 W (g.blk l i) (putCells cur off c.cells)
  obtain⟨q1,q2⟩:=zas hG (o':=.cells (yzr cs off x.cells)) hg rfl s1 s2 s3 s4 (λb _ hb=>setRow_other W _ b _ hb) (λ_ _ _ _ _ h=>by cases h) (λhst=>by
   refine y3n (setRow_heap W _ cur _ ty _ k1) ?_
   exact(zxz ⟨k2,k3,k4⟩ hrc hle).mono hst)
  exact⟨undef,_,g,.inr ⟨by simp[hrun],rfl⟩,q1,q2,.any _⟩
 cases h;cases h;rename_i l i ver idx off;split at h;rename_i ver' ty sz xs cp hg;split at h;rename_i hv;subst hv;split at h;rename_i y hy;split at h;rename_i hcond;obtain⟨hle,hform⟩:=hcond;injection h with h;injection h with h1 h2;subst h1;subst h2
 cases ha with
 |ap _ _ _ _ _ ad hd hv had=>
  obtain rfl:=had _ _ _ _ hg;obtain⟨cur,k1,k2,k3,k3',k4,k5,k6,k7,k8⟩:=hG.obj _ _ _ hg;have hylen:=k6 _ _ hy;have hidx:=(Qaa.1 hy).1
  have hroom:idx * sz+sz<=cur.size:=by
   rw[k3]
   calc idx * sz+sz=(idx+1) * sz:=by rw[Nat.succ_mul]
    _<=_:=Qau _ (by omega)
  have hrun:=zxs (P:=P) (t:=t) (o:=idx * sz+off) hi (by rw[hrc.1,hn]) hrc.one k1 (by rw[hrc.1];omega);obtain⟨s1,s2,s3,s4⟩:=zk8 W (g.ab l i) (putCells cur (idx * sz+off) c.cells);obtain⟨p1,p2⟩:=ze7 cur (idx * sz+off) c.cells;have hwc:=ygc hform
  obtain⟨q1,q2⟩:=zas hG (o':=.arr ver' ty sz (xs.set idx (z74 y (yzr y.cells off x.cells))) cp) hg rfl s1 s2 s3 s4 (λb _ hb=>setRow_other W _ b _ hb)
   (λ_ _ _ _ _ h=>by cases h;exact⟨ver',xs,cp,rfl,Qbw _,by simp⟩) (λhst=>by
   have key:∀(j:Nat) (z:V) (tt:Nat) (u:V),(xs.set idx (z74 y (yzr y.cells off x.cells)))[j]? = some z->z.cells[tt]? = some u ->
     ((putCells cur (idx * sz+off) c.cells).getD (j * sz+tt) undef).oneCell'=true∧Rel W g H u ((putCells cur (idx * sz+off) c.cells).getD (j * sz+tt) undef):=λj z tt u hj ht=>by
    rw[Qae,p2];rw[Qbi]at hj;split at hj;rename_i hji;subst hji
    try rw[Qbx hidx]at hj
    injection hj with hj;subst hj;rw[hwc]at ht
    rcases y1c hle ht with ⟨a1,a2⟩|⟨a1,a2,a3⟩|⟨a1,a2⟩
    rw[Qby (by omega),<-Qae];exact⟨k7 _ _ _ _ hy a2,k8 _ _ _ _ hy a2⟩;rw[Qbx ⟨by omega,by rw[hrc.1];omega,by omega⟩,show idx * sz+tt-(idx * sz+off)=tt-off by omega,<-Qae];exact⟨hrc.2.1 _ _ a3,hrc.2.2 _ _ a3⟩;rw[Qby (by rw[hrc.1];omega),<-Qae];exact⟨k7 _ _ _ _ hy a2,k8 _ _ _ _ hy a2⟩;rename_i hji;have hzl:=k6 _ _ hj
    have htl:=(Qaa.1 ht).1
    have hout:¬(idx * sz+off<=j * sz+tt∧j * sz+tt<idx * sz+off+c.cells.size∧j * sz+tt<cur.size):=by
     rw[hrc.1];intro hh
     rcases Nat.lt_or_ge j idx with q|q
     have:(j+1) * sz<=idx * sz:=Qau _ q;rw[Nat.succ_mul]at this;omega;have:(idx+1) * sz<=j * sz:=Qau _ (by omega);rw[Nat.succ_mul]at this;omega
    rw[Qby hout,<-Qae];exact⟨k7 _ _ _ _ hj ht,k8 _ _ _ _ hj ht⟩
   refine⟨_,setRow_heap W _ cur _ ty _ k1,k2,by rw[p1];exact k3,k3',by simpa using k4,k5,λj z hj =>?_,λj z tt u hj ht=>(key j z tt u hj ht).1,λj z tt u hj ht=>(key j z tt u hj ht).2.mono hst⟩;rw[Qbi]at hj;split at hj;rename_i hji;subst hji
   try rw[Qbx hidx]at hj
   injection hj with hj;subst hj;rw[hwc,zfl hle];exact hylen
   exact k6 _ _ hj)
  exact⟨undef,_,g,.inr ⟨by simp[hrun],rfl⟩,q1,q2,.any _⟩
 cases h;cases h;cases h;cases h;cases h;cases h
end
end Go.Ab
