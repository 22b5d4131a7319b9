/-
  PACKAGE-LEVEL VARIABLES OF INTEGERS THAT THE CLAIM KNOWS THE CELLS OF, by their numbers: off the rows' own 'laid'; and those that hold an error.
-/
import Derived.Calls
import Derived.Below
import Derived.Laws.Slices
import Derived.Laws.Strings
import Derived.Laws.Cells
import Derived.WideLaws
import Derived.Laws.StructEq
import Derived.Laws.Build
import Derived.MapKept
import Derived.Laws.Tables
import Derived.Laws.MakeOwn
import Derived.Laws.AppendOwn
import Derived.Laws.CopyRow
namespace Go.Ab
theorem Qaa:type_of% @List.getElem?_eq_some_iff:=@List.getElem?_eq_some_iff
theorem Qab:type_of% @List.getElem?_eq_getElem:=@List.getElem?_eq_getElem
theorem Qac:type_of% @of_decide_eq_true:=@of_decide_eq_true
theorem Qad:type_of% @List.getElem_mem:=@List.getElem_mem
theorem Qae:type_of% @Array.getD_eq_getD_getElem?:=@Array.getD_eq_getD_getElem?
theorem Qaf:type_of% @Option.map_eq_some_iff:=@Option.map_eq_some_iff
theorem Qag:type_of% @Bool.and_eq_true:=@Bool.and_eq_true
theorem Qah:type_of% @List.getElem_cons_drop:=@List.getElem_cons_drop
theorem Qai:type_of% @List.mem_cons_of_mem:=@List.mem_cons_of_mem
theorem Qaj:type_of% @Nat.eq_of_beq_eq_true:=@Nat.eq_of_beq_eq_true
theorem Qak:type_of% @List.mem_cons_self:=@List.mem_cons_self
theorem Qal:type_of% @List.getElem?_append_left:=@List.getElem?_append_left
theorem Qam:type_of% @List.getElem?_set_ne:=@List.getElem?_set_ne
theorem Qan:type_of% @List.getElem?_map:=@List.getElem?_map
theorem Qao:type_of% @List.eq_nil_of_length_eq_zero:=@List.eq_nil_of_length_eq_zero
theorem Qap:type_of% @List.length_append:=@List.length_append
theorem Qaq:type_of% @List.getElem?_set_self:=@List.getElem?_set_self
theorem Qar:type_of% @decide_eq_true_eq:=@decide_eq_true_eq
theorem Qas:type_of% @Array.getElem?_eq_getElem:=@Array.getElem?_eq_getElem
theorem Qat:type_of% @List.all_eq_true:=@List.all_eq_true
theorem Qau:type_of% @Nat.mul_le_mul_right:=@Nat.mul_le_mul_right
theorem Qav:type_of% @List.getElem?_append_right:=@List.getElem?_append_right
theorem Qaw:type_of% @List.getElem?_take:=@List.getElem?_take
theorem Qax:type_of% @List.mem_of_getElem?:=@List.mem_of_getElem?
theorem Qay:type_of% @List.append_assoc:=@List.append_assoc
theorem Qaz:type_of% @List.mem_singleton:=@List.mem_singleton
theorem Qba:type_of% @List.getElem?_append:=@List.getElem?_append
theorem Qbb:type_of% @List.getElem?_drop:=@List.getElem?_drop
theorem Qbc:type_of% @List.mem_map:=@List.mem_map
theorem Qbd:type_of% @List.getElem?_set:=@List.getElem?_set
theorem Qbe:type_of% @Nat.lt_of_lt_of_le:=@Nat.lt_of_lt_of_le
theorem Qbf:type_of% @Nat.le_trans:=@Nat.le_trans
theorem Qbg:type_of% @List.mem_cons:=@List.mem_cons
theorem Qbh:type_of% @Array.getElem?_eq_some_iff:=@Array.getElem?_eq_some_iff
theorem Qbi:type_of% @List.getElem?_replicate:=@List.getElem?_replicate
theorem Qbj:type_of% @List.getElem?_of_mem:=@List.getElem?_of_mem
theorem Qbk:type_of% @Option.map_some:=@Option.map_some
theorem Qbl:type_of% @decide_eq_false:=@decide_eq_false
theorem Qbm:type_of% @decide_eq_true:=@decide_eq_true
theorem Qbn:type_of% @Option.some.injEq:=@Option.some.injEq
theorem Qbo:type_of% @Nat.zero_le:=@Nat.zero_le
theorem Qbp:type_of% @Nat.le_refl:=@Nat.le_refl
theorem Qbq:type_of% @if_pos:=@if_pos
theorem Qbr:type_of% @if_neg:=@if_neg
theorem Qbs:type_of% @Prod.mk.injEq:=@Prod.mk.injEq
theorem Qbt:type_of% @Sem.run_bind:=@Sem.run_bind
theorem Qbu:type_of% @Result.andThen_ok:=@Result.andThen_ok
theorem Qbv:type_of% @List.length_nil:=@List.length_nil
theorem Qbw:type_of% @List.getElem?_cons_zero:=@List.getElem?_cons_zero
theorem Qbx:type_of% @Option.bind_eq_some_iff:=@Option.bind_eq_some_iff
theorem Qby:type_of% @Array.getElem?_modify:=@Array.getElem?_modify
abbrev B8:=List UInt8
def gl0:List (IntKind×Int):=[(.u8,0),(.u8,0),(.u8,0),(.u8,0),(.u8,0),(.u8,0),(.u8,0),(.u8,0),(.u8,0),(.u8,1),(.u8,1),(.u8,1),(.u8,1),(.u8,1),(.u8,0),(.u8,0),(.u8,0),(.u8,0),(.u8,0),(.u8,0),(.u8,0),(.u8,0),(.u8,0),(.u8,0),(.u8,0),(.u8,0),(.u8,0),(.u8,0),(.u8,0),(.u8,0),(.u8,0),(.u8,0),(.u8,1),(.u8,0),(.u8,0),(.u8,0),(.u8,0),(.u8,0),(.u8,0),(.u8,0),(.u8,0),(.u8,0),(.u8,0),(.u8,0),(.u8,0),(.u8,0),(.u8,0),(.u8,0),(.u8,0),(.u8,0),(.u8,0),(.u8,0),(.u8,0),(.u8,0),(.u8,0),(.u8,0),(.u8,0),(.u8,0),(.u8,0),(.u8,0),(.u8,0),(.u8,0),(.u8,0),(.u8,0),(.u8,0),(.u8,0),(.u8,0),(.u8,0),(.u8,0),(.u8,0),(.u8,0),(.u8,0),(.u8,0),(.u8,0),(.u8,0),(.u8,0),(.u8,0),(.u8,0),(.u8,0),(.u8,0),(.u8,0),(.u8,0),(.u8,0),(.u8,0),(.u8,0),(.u8,0),(.u8,0),(.u8,0),(.u8,0),(.u8,0),(.u8,0),(.u8,0),(.u8,0),(.u8,0),(.u8,0),(.u8,0),(.u8,0),(.u8,0),(.u8,0),(.u8,0),(.u8,0),(.u8,0),(.u8,0),(.u8,0),(.u8,0),(.u8,0),(.u8,0),(.u8,0),(.u8,0),(.u8,0),(.u8,0),(.u8,0),(.u8,0),(.u8,0),(.u8,0),(.u8,0),(.u8,0),(.u8,0),(.u8,0),(.u8,0),(.u8,0),(.u8,0),(.u8,0),(.u8,0),(.u8,0),(.u8,0),(.u8,0),(.u8,0),(.u8,0),(.u8,0),(.u8,0),(.u8,0),(.u8,0),(.u8,0),(.u8,0),(.u8,0),(.u8,0),(.u8,0),(.u8,0),(.u8,0),(.u8,0),(.u8,0),(.u8,0),(.u8,0),(.u8,0),(.u8,0),(.u8,0),(.u8,0),(.u8,0),(.u8,0),(.u8,0),(.u8,0),(.u8,0),(.u8,0),(.u8,0),(.u8,0),(.u8,0),(.u8,0),(.u8,0),(.u8,0),(.u8,0),(.u8,0),(.u8,0),(.u8,0),(.u8,0),(.u8,0),(.u8,0),(.u8,0),(.u8,0),(.u8,0),(.u8,0),(.u8,0),(.u8,0),(.u8,0),(.u8,0),(.u8,0),(.u8,0),(.u8,0),(.u8,0),(.u8,0),(.u8,0),(.u8,0),(.u8,0),(.u8,0),(.u8,0),(.u8,0),(.u8,0),(.u8,0),(.u8,0),(.u8,0),(.u8,0),(.u8,0),(.u8,0),(.u8,0),(.u8,0),(.u8,0),(.u8,0),(.u8,0),(.u8,0),(.u8,0),(.u8,0),(.u8,0),(.u8,0),(.u8,0),(.u8,0),(.u8,0),(.u8,0),(.u8,0),(.u8,0),(.u8,0),(.u8,0),(.u8,0),(.u8,0),(.u8,0),(.u8,0),(.u8,0),(.u8,0),(.u8,0),(.u8,0),(.u8,0),(.u8,0),(.u8,0),(.u8,0),(.u8,0),(.u8,0),(.u8,0),(.u8,0),(.u8,0),(.u8,0),(.u8,0),(.u8,0),(.u8,0),(.u8,0),(.u8,0),(.u8,0),(.u8,0),(.u8,0),(.u8,0),(.u8,0),(.u8,0),(.u8,0),(.u8,0),(.u8,0),(.u8,0),(.u8,0),(.u8,0),(.u8,0),(.u8,0),(.u8,0),(.u8,0),(.u8,0),(.u8,0),(.u8,0),(.u8,0),(.u8,0),(.u8,0)]
def gl5:List (IntKind×Int):=[(.u64,1),(.u64,10),(.u64,100),(.u64,1000),(.u64,10000),(.u64,100000),(.u64,1000000),(.u64,10000000),(.u64,100000000),(.u64,1000000000),(.u64,10000000000),(.u64,100000000000),(.u64,1000000000000),(.u64,10000000000000),(.u64,100000000000000),(.u64,1000000000000000),(.u64,10000000000000000),(.u64,100000000000000000),(.u64,1000000000000000000),(.u64,10000000000000000000)]
def gl:Nat->Option (List (IntKind×Int))
 |0=>some gl0
 |5=>some gl5
 |_=>none
def gle:Nat->Bool
 |3=>true
 |4=>true
 |_=>false
inductive PV:Type where
 |bool (b:Bool)
 |int (k:IntKind) (n:Int)
 |str (s:B8)
 deriving Inhabited,DecidableEq
def PV.c:PV->Value
 |.bool b=>.bool b
 |.int k n=>.int k n
 |.str s=>.string ⟨s.toArray⟩
inductive V:Type where
 |any
 |bool (b:Bool)
 |int (k:IntKind) (n:Int)
 |str (s:B8)
 |nilp
 |ptr (l i off:Nat)
 |ref (cs:List V) (off:Nat)
 |ap (l i ver idx off:Nat)
 |nils
 |sl (sz:Nat) (xs:List V) (full:Bool)
 |hs (l i ver off n:Nat) (full:Bool)
 |mapn
 |map (l i:Nat)
 |mapc (es:List (PV×PV))
 |fn (f:Nat) (first caps:List V)
 |nilf
 |iface (t:Nat) (v:V)
 |nili
 |agg (cs:List V)
 |tup (vs:List V)
 deriving Inhabited
def V.cells:V->List V
 |.agg cs=>cs
 |v=>[v]
def V.leaf:V->Bool
 |.any| .agg _| .tup _=>false
 |_=>true
inductive kzg:Type where
 |cells (cs:List V)
 |arr (ver ty sz:Nat) (xs:List V) (cap:Option Nat)
 |map (es:List (V×V))
 |siter (s:B8) (pos:Nat)
 |mit (es:List (PV×PV)) (vis:List Nat)
structure Heap where
 lv:Nat
 L:List (Option kzg)
 E:Nat->Nat->Option kzg
def Heap.get(H:Heap)(l i:Nat):Option kzg:=if l=H.lv then (H.L[i]?).join else H.E l i
structure Gh where
 dom:Nat->Nat->Prop
 blk:Nat->Nat->Nat
 ab:Nat->Nat->Nat
 cap:Nat->Nat->Nat
 base:Nat:=0
def kzg.blk(g:Gh)(l i:Nat):kzg->Nat
 |.arr .. => g.ab l i
 |_=>g.blk l i
def Own(g:Gh)(H:Heap)(b:Nat):Prop:=∃l i o,H.get l i=some o∧o.blk g l i=b
def yte(es:List (PV×PV))(en:Array MapEntry)(clock:Nat):Prop :=
 en.size=es.length∧(∀e∈en,e.born<clock)∧(∀(j k:Nat) (e f),en[j]? = some e->en[k]? = some f->e.born=f.born->j=k) ∧
  (∀(j:Nat) (p),es[j]? = some p->∃e,en[j]? = some e∧e.key=p.1.c∧e.val=p.2.c)
def za9(en:Array MapEntry)(j:Nat):Nat:=(en[j]?.map (·.born)).getD 0
inductive Rel (W:World) (g:Gh) (H:Heap):V->Value->Prop where
 |any (c:Value):Rel W g H .any c
 |bool (b:Bool):Rel W g H (.bool b) (.bool b)
 |int (k:IntKind) (n:Int):Rel W g H (.int k n) (.int k n)
 |str (s:B8):Rel W g H (.str s) (.string ⟨s.toArray⟩)
 |nilp:Rel W g H .nilp (.pointer none)
 |ptr (l i off:Nat) (hd:g.dom l i):Rel W g H (.ptr l i off) (.pointer (some ⟨g.blk l i,off,none⟩))
 |ref (cs:List V) (off b o:Nat) (c:Nat->Value) (hb:cs≠[]->¬Own g H b) (hc:∀j v,cs[j]? = some v->W.cell? ⟨b,o+j,none⟩=some (c j)) (h1:∀j v,cs[j]? = some v->(c j).oneCell'=true) (hr:∀j v,cs[j]? = some v->Rel W g H v (c j)):Rel W g H (.ref cs off) (.pointer (some ⟨b,o+off,none⟩))
 |ap (l i ver idx off:Nat) (a:Addr) (hd:g.dom l i) (hv:∀v ty sz xs cp,H.get l i=some (.arr v ty sz xs cp)->ver<=v) (ha:∀ty sz xs cp,H.get l i=some (.arr ver ty sz xs cp)->a=⟨g.ab l i,idx * sz+off,none⟩):Rel W g H (.ap l i ver idx off) (.pointer (some a))
 |nils:Rel W g H .nils (.slice none 0 0)
 |slnil (sz:Nat) (full:Bool):Rel W g H (.sl sz [] full) (.slice none 0 0)
 |sle (sz:Nat) (full:Bool) (a:Addr) (cap:Nat) (hf:full=true->cap=0):Rel W g H (.sl sz [] full) (.slice (some a) 0 cap)
 |sl (sz:Nat) (xs:List V) (full:Bool) (b o cap:Nat) (c:Nat->Nat->Value) (hb:¬Own g H b) (hz:0<sz) (hcap:xs.length<=cap) (hf:full=true->cap=xs.length)
  (hs:∀(j:Nat) (x:V),xs[j]? = some x->x.cells.length=sz) (hc:∀(j:Nat) (x:V) (t:Nat) (v:V),xs[j]? = some x->x.cells[t]? = some v->W.cell? ⟨b,o+j * sz+t,none⟩=some (c j t))
  (h1:∀(j:Nat) (x:V) (t:Nat) (v:V),xs[j]? = some x->x.cells[t]? = some v->(c j t).oneCell'=true)
  (hr:∀(j:Nat) (x:V) (t:Nat) (v:V),xs[j]? = some x->x.cells[t]? = some v->Rel W g H v (c j t)):Rel W g H (.sl sz xs full) (.slice (some ⟨b,o,none⟩) xs.length cap)
 |hs (l i ver off n:Nat) (full:Bool) (a:Option Addr) (m cap:Nat) (hd:g.dom l i) (hv:∀v ty sz xs cp,H.get l i=some (.arr v ty sz xs cp)->ver<=v)
  (ha:∀ty sz xs cp,H.get l i=some (.arr ver ty sz xs cp)->a=some ⟨g.ab l i,off * sz,none⟩∧m=n∧(n<=cap∧off+cap<=g.cap l i∧(full=true->cap=n))∧off+n<=xs.length):Rel W g H (.hs l i ver off n full) (.slice a m cap)
 |mapn:Rel W g H .mapn (.map none)
 |map (l i:Nat) (hd:g.dom l i):Rel W g H (.map l i) (.map (some (g.blk l i)))
 |mapc (es:List (PV×PV)) (b:Nat) (en:Array MapEntry) (clock:Nat) (hb:¬Own g H b) (hw:W.heap[b]? = some (.map en clock)) (he:yte es en clock):Rel W g H (.mapc es) (.map (some b))
 |fn (f:Nat) (fs cs:List V) (fs' cs':Array Value) (h1:fs'.size=fs.length) (h2:cs'.size=cs.length) (r1:∀j v,fs[j]? = some v->Rel W g H v (fs'.getD j undef)) (r2:∀j v,cs[j]? = some v->Rel W g H v (cs'.getD j undef)):Rel W g H (.fn f fs cs) (.func (.func f) fs' cs')
 |nilf:Rel W g H .nilf .nilFunc
 |iface (t:Nat) (v:V) (c:Value) (h:Rel W g H v c):Rel W g H (.iface t v) (.iface t c)
 |nili:Rel W g H .nili .nilIface
 |agg (vs:List V) (cs:Array Value) (hn:cs.size=vs.length) (h1:∀j v,vs[j]? = some v->(cs.getD j undef).oneCell'=true) (hr:∀j v,vs[j]? = some v->Rel W g H v (cs.getD j undef)):Rel W g H (.agg vs) (.agg cs)
 |tup (vs:List V) (cs:Array Value) (hn:cs.size=vs.length) (hr:∀j v,vs[j]? = some v->Rel W g H v (cs.getD j undef)):Rel W g H (.tup vs) (.tuple cs)
def zev(W:World)(g:Gh)(H:Heap)(l i:Nat):kzg->Prop
 |.cells cs=>∃c ty,W.heap[g.blk l i]? = some (.cells c ty (0,0))∧c.size=cs.length∧(∀j v,cs[j]? = some v->(c.getD j undef).oneCell'=true)∧∀j v,cs[j]? = some v->Rel W g H v (c.getD j undef)
 |.arr _ ty sz xs cp=>∃c,W.heap[g.ab l i]? = some (.cells c ty (0,0))∧0<sz∧c.size=g.cap l i * sz∧g.cap l i<=maxLen∧xs.length<=g.cap l i∧(∀n,cp=some n->g.cap l i=n) ∧
  (∀(j:Nat) (x),xs[j]? = some x->x.cells.length=sz)∧(∀(j) (x) (t) (v),xs[j]? = some x->x.cells[t]? = some v->(c.getD (j * sz+t) undef).oneCell'=true) ∧
  ∀(j) (x) (t) (v),xs[j]? = some x->x.cells[t]? = some v->Rel W g H v (c.getD (j * sz+t) undef)
 |.map es=>∃en clock,W.heap[g.blk l i]? = some (.map en clock)∧en.size=es.length∧(∀e∈en,e.born<clock)∧(∀(j k:Nat) (e f),en[j]? = some e->en[k]? = some f->e.born=f.born->j=k) ∧
  (∀(j:Nat) (p),es[j]? = some p->∃e,en[j]? = some e∧Rel W g H p.1 e.key∧Rel W g H p.2 e.val)
 |.siter s pos=>W.heap[g.blk l i]? = some (.stringIter ⟨s.toArray⟩ pos)
 |.mit es vis=>∃en clock mb,W.heap[g.blk l i]? = some (.mapIter (some mb) clock (vis.map (za9 en)).toArray clock)∧¬Own g H mb∧W.heap[mb]? = some (.map en clock)∧yte es en clock
def z053(W:World)(g:Gh)(H:Heap):Prop:=∀k cs,gl k=some cs->¬Own g H k∧∃ty q,W.heap[k]? = some (.cells (cs.map λp=>Value.int p.1 p.2).toArray ty q)
def z05b(W:World)(g:Gh)(H:Heap):Prop:=∀k,gle k=true->¬Own g H k∧∃v ty q,W.heap[k]? = some (.cells #[v] ty q)∧(v = .nilIface∨∃te pe,v = .iface te pe)
def zkx(W:World)(g:Gh)(H:Heap):Prop:=z053 W g H∧z05b W g H
structure Good(W:World)(g:Gh)(H:Heap):Prop where
 dom:∀l i o,H.get l i=some o->g.dom l i
 lt:∀l i o,H.get l i=some o->o.blk g l i<W.heap.size
 inj:∀l i o l' i' o',H.get l i=some o->H.get l' i'=some o'->o.blk g l i=o'.blk g l' i'->l=l'∧i=i'
 fresh:∀l i,g.dom l i->l<H.lv∨(l=H.lv∧i<H.L.length)
 obj:∀l i o,H.get l i=some o->zev W g H l i o
 zns:zkx W g H
 base:g.base<=W.heap.size
structure Step(W:World)(g:Gh)(H:Heap)(W':World)(g':Gh)(H':Heap):Prop where
 os:W'.os=W.os
 tape:W'.tape=W.tape
 output:W'.output=W.output
 size:W.heap.size<=W'.heap.size
 block:∀b,b<W.heap.size->¬Own g H b->W'.heap[b]? = W.heap[b]?
 own:∀b,Own g' H' b->Own g H b∨W.heap.size<=b
 dom:∀l i,g.dom l i->g'.dom l i
 new:∀l i,g'.dom l i->g.dom l i∨l=H.lv
 blk:∀l i,g.dom l i->g'.blk l i=g.blk l i
 arr:∀l i ver ty sz xs cp,g.dom l i->H'.get l i=some (.arr ver ty sz xs cp)->∃v ys cp',H.get l i=some (.arr v ty sz ys cp')∧v<=ver∧(v=ver->g'.ab l i=g.ab l i∧g'.cap l i=g.cap l i∧ys.length<=xs.length)
 lv:H'.lv=H.lv
 base:g'.base=g.base
theorem zkx.step{W g H}(h:zkx W g H){W' g' H'}(s:Step W g H W' g' H'):zkx W' g' H':=by
 have lt:∀{k:Nat}{o:Obj},W.heap[k]? = some o->k<W.heap.size:=λ{k o} h2=>by
  grind
 refine⟨λk cs hk =>?_,λk hk =>?_⟩;obtain⟨h1,ty,q,h2⟩:=h.1 k cs hk;have hlt:=lt h2;exact⟨λhn=>(s.own k hn).elim h1 (λa=>by omega),ty,q,by rw[s.block k hlt h1];exact h2⟩;obtain⟨h1,v,ty,q,h2,h3⟩:=h.2 k hk;have hlt:=lt h2;exact⟨λhn=>(s.own k hn).elim h1 (λa=>by omega),v,ty,q,by rw[s.block k hlt h1];exact h2,h3⟩
theorem zkx.y86{W g g' H H'}(h:zkx W g H)(hown:∀b,Own g' H' b->Own g H b):zkx W g' H':=by
 refine⟨λk cs hk =>?_,λk hk =>?_⟩;obtain⟨h1,h2⟩:=h.1 k cs hk
 grind
 obtain⟨h1,h2⟩:=h.2 k hk
 grind
theorem Step.refl(W)(g)(H):Step W g H W g H :=
 ⟨rfl,rfl,rfl,Qbp _,λ_ _ _=>rfl,λ_ h=>.inl h,λ_ _ h=>h,λ_ _ h=>.inl h,λ_ _ _=>rfl,λ_ _ ver _ _ xs cp _ h=>⟨ver,xs,cp,h,Qbp _,λ_=>⟨rfl,rfl,Qbp _⟩⟩,rfl,rfl⟩
theorem Step.trans{W W' W'' g g' g'' H H' H''}(h:Step W g H W' g' H')(k:Step W' g' H' W'' g'' H''):Step W g H W'' g'' H'' where
 os:=k.os.trans h.os
 tape:=k.tape.trans h.tape
 output:=k.output.trans h.output
 size:=Qbf h.size k.size
 block:=λb hb ho=>by
  rw[k.block b (Qbe hb h.size) (λhn =>?_),h.block b hb ho]
  rcases h.own b hn with h1|h1
  exact ho h1;omega
 own:=λb hb=>by
  rcases k.own b hb with h1|h1
  rcases h.own b h1 with h2|h2
  exact .inl h2;exact .inr h2;exact .inr (Qbf h.size h1)
 dom:=λl i hd=>k.dom l i (h.dom l i hd)
 new:=λl i hd=>by
  rcases k.new l i hd with h1|h1
  exact h.new l i h1;exact .inr (h1.trans h.lv)
 blk:=λl i hd=>(k.blk l i (h.dom l i hd)).trans (h.blk l i hd)
 arr:=λl i ver ty sz xs cp hd hg=>by
  obtain⟨v,ys,cp',h1,h2,h3⟩:=k.arr l i ver ty sz xs cp (h.dom l i hd) hg;obtain⟨u,zs,cp'',k1,k2,k3⟩:=h.arr l i v ty sz ys cp' hd h1
  grind
 lv:=k.lv.trans h.lv
 base:=k.base.trans h.base
theorem y4u{W:World}{b o v}(h:W.cell? ⟨b,o,none⟩=some v):b<W.heap.size:=by
 grind[World.cell?]
theorem yio{W W':World}{b o}(h:W'.heap[b]? = W.heap[b]?):W'.cell? ⟨b,o,none⟩=W.cell? ⟨b,o,none⟩:=by
 unfold World.cell?;simp[h]
theorem Rel.mono{W g H v c}(h:Rel W g H v c){W' g' H'}(s:Step W g H W' g' H'):Rel W' g' H' v c:=by
 induction h with
 |any c=>exact .any c
 |bool b=>exact .bool b
 |int k n=>exact .int k n
 |str s=>exact .str s
 |nilp=>exact .nilp
 |ptr l i off hd=>rw[<-s.blk l i hd];exact .ptr l i off (s.dom l i hd)
 |ref cs off b o c hb hc ho1 hr ih=>
  cases cs with
  |nil=>exact .ref [] off b o c (λh=>absurd rfl h) (by simp) (by simp) (by simp)
  |cons x xs=>
   have h1:=y4u (hc 0 x rfl)
   exact .ref _ off b o c (λ_ hn=>(s.own b hn).elim (hb (by simp)) (by omega)) (λj v hj=>by rw[yio (s.block b h1 (hb (by simp)))];exact hc j v hj) ho1 ih
 |ap l i ver idx off a hd hv ha=>
  refine .ap l i ver idx off a (s.dom l i hd) (λv ty sz xs cp hg =>?_) λty sz xs cp hg =>?_
  obtain⟨v',ys,cp',h1,h2,_⟩:=s.arr l i v ty sz xs cp hd hg
  grind
  obtain⟨v',ys,cp',h1,h2,h3⟩:=s.arr l i ver ty sz xs cp hd hg
  grind
 |nils=>exact .nils
 |slnil sz full=>exact .slnil sz full
 |sle sz full a cap hf=>exact .sle sz full a cap hf
 |sl sz xs full b o cap c hb hz hcap hf hs hc ho1 hr ih=>
  cases xs with
  |nil=>exact .sle sz full _ cap (by simpa using hf)
  |cons x xs=>
   have hx:=hs 0 x rfl
   have h1:=by
    cases hcs:x.cells with
    |nil=>grind
    |cons v vs=>exact y4u (hc 0 x 0 v rfl (by rw[hcs];rfl))
   exact .sl sz _ full b o cap c (λhn=>(s.own b hn).elim hb (by omega)) hz hcap hf hs (λj x t v hj ht=>by rw[yio (s.block b h1 hb)];grind) ho1 ih
 |hs l i ver off n full a m cap hd hv ha=>
  refine .hs l i ver off n full a m cap (s.dom l i hd) (λv ty sz xs cp hg =>?_) λty sz xs cp hg =>?_
  obtain⟨v',ys,cp',h1,h2,_⟩:=s.arr l i v ty sz xs cp hd hg
  grind
  obtain⟨v',ys,cp',h1,h2,h3⟩:=s.arr l i ver ty sz xs cp hd hg
  grind
 |mapn=>exact .mapn
 |map l i hd=>rw[<-s.blk l i hd];exact .map l i (s.dom l i hd)
 |mapc es b en clock hb hw he=>
  have hlt:=(Qbh.1 hw).1
  exact .mapc es b en clock (λhn=>(s.own _ hn).elim hb (λq=>by omega)) (by rw[s.block _ hlt hb];exact hw) he
 |fn f fs cs fs' cs' h1 h2 r1 r2 i1 i2=>exact .fn f fs cs fs' cs' h1 h2 i1 i2
 |nilf=>exact .nilf
 |iface t v c h ih=>exact .iface t v c ih
 |nili=>exact .nili
 |agg vs cs hn ho1 hr ih=>exact .agg vs cs hn ho1 ih
 |tup vs cs hn hr ih=>exact .tup vs cs hn ih
structure Grow(W W':World):Prop where
 os:W'.os=W.os
 tape:W'.tape=W.tape
 output:W'.output=W.output
 size:W.heap.size<=W'.heap.size
 block:∀b,b<W.heap.size->W'.heap[b]? = W.heap[b]?
theorem Grow.refl(W):Grow W W:=⟨rfl,rfl,rfl,Qbp _,λ_ _=>rfl⟩
theorem Grow.trans{a b c}(h:Grow a b)(k:Grow b c):Grow a c :=
 ⟨k.os.trans h.os,k.tape.trans h.tape,k.output.trans h.output,Qbf h.size k.size,λi hi=>(k.block i (Qbe hi h.size)).trans (h.block i hi)⟩
theorem Grow.alloc(W)(o):Grow W (W.alloc o) :=
 ⟨rfl,rfl,rfl,by simp,λb hb=>by show(W.heap.push o)[b]? = _;grind⟩
theorem Grow.drawn(W)(n):Grow W {W with drawn:=n}:=⟨rfl,rfl,rfl,Qbp _,λ_ _=>rfl⟩
theorem Grow.step{W W' g H}(h:Grow W W'):Step W g H W' g H :=
 ⟨h.os,h.tape,h.output,h.size,λb hb _=>h.block b hb,λ_ h=>.inl h,λ_ _ h=>h,λ_ _ h=>.inl h,λ_ _ _=>rfl,λ_ _ ver _ _ xs cp _ h=>⟨ver,xs,cp,h,Qbp _,λ_=>⟨rfl,rfl,Qbp _⟩⟩,rfl,rfl⟩
theorem zev.mono{W g H l i o}(h:zev W g H l i o){W' g' H'}(s:Step W g H W' g' H')
  (hb:W'.heap[o.blk g l i]? = W.heap[o.blk g l i]?) (hk:g'.blk l i=g.blk l i) (ha:g'.ab l i=g.ab l i) (hc:g'.cap l i=g.cap l i):zev W' g' H' l i o:=by
 cases o with
 |cells cs=>
  obtain⟨c,ty,h1,h2,h3,h4⟩:=h
  exact⟨c,ty,by rw[hk];exact hb.trans h1,h2,h3,λj v hj=>(h4 j v hj).mono s⟩
 |arr ver ty sz xs cp=>
  obtain⟨c,h1,h3,h4,h4',h5,h6,h7,h8,h9⟩:=h
  exact⟨c,by rw[ha];exact hb.trans h1,h3,by rw[hc];exact h4,by rw[hc];exact h4',by rw[hc];exact h5,by rw[hc];exact h6,h7,h8,λj x t v hj ht=>(h9 j x t v hj ht).mono s⟩
 |map es=>
  obtain⟨en,clock,h1,h2,h3,h4,h5⟩:=h;refine⟨en,clock,by rw[hk];exact hb.trans h1,h2,h3,h4,λj p hj =>?_⟩;obtain⟨e,he,k1,k2⟩:=h5 j p hj
  exact⟨e,he,k1.mono s,k2.mono s⟩
 |siter s pos=>exact(show W'.heap[g'.blk l i]? = _ by rw[hk];exact hb.trans h)
 |mit es vis=>
  obtain⟨en,clock,mb,h1,h3,h4,h5⟩:=h;have hlt:=(Qbh.1 h4).1;exact⟨en,clock,mb,by rw[hk];exact hb.trans h1,λhn=>(s.own _ hn).elim h3 (λq=>by omega),by rw[s.block _ hlt h3];exact h4,h5⟩
theorem Good.grow{W W' g H}(h:Good W g H)(k:Grow W W'):Good W' g H :=
 ⟨h.dom,λl i o ho=>Qbe (h.lt l i o ho) k.size,h.inj,h.fresh,λl i o ho=>(h.obj l i o ho).mono k.step (k.block _ (h.lt l i o ho)) rfl rfl rfl,h.zns.step k.step,Qbf h.base k.size⟩
end Go.Ab
namespace Go.Ab
open Go
set_option linter.unusedSimpArgs false
set_option linter.unusedVariables false
def zc4:Value->V
 |.bool b=>.bool b
 |.int k n=>.int k n
 |.string s=>.str s.data.toList
 |.pointer none=>.nilp
 |.slice none 0 0=>.nils
 |.map none=>.mapn
 |.nilFunc=>.nilf
 |.nilIface=>.nili
 |_=>.any
def ofConst:Value->V
 |.agg cs=>if cs.toList.all (·.oneCell')then .agg (cs.toList.map zc4)else .any
 |.tuple cs=>.tup (cs.toList.map zc4)
 |.iface t v=>.iface t (zc4 v)
 |v=>zc4 v
section
variable {W : World} {g : Gh} {H : Heap} {P : Program}
theorem ztw(v):Rel W g H (zc4 v) v:=by
 unfold zc4;split;exact .bool _;exact .int _ _;exact .str _;exact .nilp;exact .nils;exact .mapn;exact .nilf;exact .nili;exact .any _
theorem zor(v):Rel W g H (ofConst v) v:=by
 unfold ofConst;split
 ·rename_i cs;split
  ·rename_i h1;refine .agg _ _ (by simp) (λj v hj =>?_) λj v hj =>?_
   all_goals
    simp only[Qan,Qaf]at hj;obtain⟨a,ha,rfl⟩:=hj;rw[Array.getElem?_toList]at ha;simp[ha,Option.getD_some]
   grind
   exact ztw _
  exact .any _
 rename_i cs;refine .tup _ _ (by simp) λj v hj =>?_
 simp[Qaf]at hj;obtain⟨a,ha,rfl⟩:=hj
 simp_all[ztw]
 exact .iface _ _ _ (ztw _);exact ztw _
def rd(P:Program)(t:Nat)(cs:List V)(off:Nat):Option V :=
 match P.underlying t with
 |none=>none
 |some (.struct _)|some (.array _ _)=>if off+P.cellsOf t<=cs.length then some (.agg ((cs.drop off).take (P.cellsOf t)))else none
 |some _=>cs[off]?
theorem info_of_underlying{t:Nat}{d}(h:P.underlying t=some d):∃i,P.info? t=some i∧P.cellsOf t=i.size:=by
 unfold Program.underlying at h;unfold Program.cellsOf
 cases hi:P.info? t with
 |none=>simp[hi]at h
 |some i=>grind
theorem yz3{t:Nat}{d}(h:P.underlying t=some d):(underlying t).run P W = .ok d W:=by
 simp[underlying,h]
theorem z9g{t:Nat}{d}(h:P.underlying t=some d):(sizeOf t).run P W = .ok (P.cellsOf t) W:=by
 obtain⟨i,hi,hc⟩:=info_of_underlying h;simp[sizeOf,typeInfo,hi,hc]
def TypeDesc.isAgg:TypeDesc->Bool
 |.struct _| .array _ _=>true
 |_=>false
theorem ztq{t:Nat}{d}(h:P.underlying t=some d):(isAgg t).run P W = .ok (TypeDesc.isAgg d) W:=by
 simp[isAgg,underlying,h];cases d <;> simp[TypeDesc.isAgg]
theorem yv8{t cs off v}(h:rd P t cs off=some v):∃d,P.underlying t=some d ∧
  ((TypeDesc.isAgg d=true∧off+P.cellsOf t<=cs.length∧v = .agg ((cs.drop off).take (P.cellsOf t)))∨(TypeDesc.isAgg d=false∧cs[off]? = some v)):=by
 unfold rd at h;split at h;cases h;rename_i hu;split at h
 rename_i hle;injection h with h;exact⟨_,hu,.inl ⟨rfl,hle,h.symm⟩⟩
 cases h;rename_i hu;split at h
 rename_i hle;injection h with h;exact⟨_,hu,.inl ⟨rfl,hle,h.symm⟩⟩
 cases h;rename_i d hd1 hd2 hu;refine⟨d,hu,.inr ⟨?_,h⟩⟩
 cases d <;> first|rfl|(exact(hd1 _ rfl).elim)|grind
theorem zkt{t cs off v b o}{c:Nat->Value}(h:rd P t cs off=some v)
  (hc:∀j x,cs[j]? = some x->W.cell? ⟨b,o+j,none⟩=some (c j)) (h1c:∀j x,cs[j]? = some x->(c j).oneCell'=true) (hr:∀j x,cs[j]? = some x->Rel W g H x (c j)) :
  ∃u,(loadVar t ⟨b,o+off,none⟩).run P W = .ok u W∧Rel W g H v u:=by
 obtain⟨d,hd,⟨ha,hle,rfl⟩|⟨ha,hv⟩⟩:=yv8 h
 have hl:∀j,j<P.cellsOf t->W.cell? ((⟨b,o+off,none⟩:Addr).add j)=some (c (off+j)):=λj hj=>by
  grind[Addr.add]
 refine⟨.agg ((List.range (P.cellsOf t)).map λj=>c (off+j)).toArray,?_,?_⟩
 simp_all[loadVar,ztq,z9g,run_loadCells]
 refine .agg _ _ (by simp;omega) (λj x hj =>?_) λj x hj =>?_
 simp_all[Qaw]
 simp_all[Qaw]
 simp_all[loadVar,ztq]
theorem zln{t cs off v a}(h:rd P t cs off=some v)(hn:a.size=cs.length)
  (h1c:∀j x,cs[j]? = some x->(a.getD j undef).oneCell'=true) (hr:∀j x,cs[j]? = some x->Rel W g H x (a.getD j undef)):∃u,(part t a off).run P W = .ok u W∧Rel W g H v u:=by
 obtain⟨d,hd,⟨ha,hle,rfl⟩|⟨ha,hv⟩⟩:=yv8 h
 ·refine⟨.agg (a.extract off (off+P.cellsOf t)),by simp[part,ztq hd,ha,z9g hd],?_⟩
  have h2:∀j,j<P.cellsOf t->(a.extract off (off+P.cellsOf t)).getD j undef=a.getD (off+j) undef:=λj hj=>by
   simp[Qae]
   grind
  refine .agg _ _ (by simp;omega) (λj x hj =>?_) λj x hj =>?_
  all_goals
   grind
 have hlt:off<a.size:=by grind
 refine⟨a.getD off undef,?_,hr _ _ hv⟩
 simp_all[part,ztq]
def Yields(P:Program)(W:World)(g:Gh)(H:Heap)(s:Sem Value)(v:V):Prop:=∃c W',s.run P W = .ok c W'∧Grow W W'∧Rel W' g H v c
theorem Yields.same{s v c}(h:s.run P W = .ok c W)(hr:Rel W g H v c):Yields P W g H s v:=⟨c,W,h,.refl W,hr⟩
def y0w(H:Heap)(l i ver idx:Nat):Option (Nat×List V) :=
 match H.get l i with
 |some (.arr ver' _ sz xs _)=>if ver'=ver then (xs[idx]?).map λx=>(sz,x.cells)else none
 |_=>none
def zco(P:Program)(H:Heap)(t:Nat):V->Option V
 |.ref cs off=>rd P t cs off
 |.ptr l i off=>match H.get l i with
  |some (.cells cs)=>rd P t cs off
  |_=>none
 |.ap l i ver idx off=>(y0w H l i ver idx).bind λp=>rd P t p.2 off
 |_=>none
theorem cell_of{b j c ty f}(h:W.heap[b]? = some (.cells c ty f))(hj:j<c.size):W.cell? ⟨b,j,none⟩=some (c.getD j undef):=by
 simp[World.cell?,h,hj]
theorem yu0(hG:Good W g H){l i ver idx p}(h:y0w H l i ver idx=some p) :
  ∃ty sz xs cp x,H.get l i=some (.arr ver ty sz xs cp)∧xs[idx]? = some x∧p=(sz,x.cells)∧x.cells.length=sz ∧
   ∃c,W.heap[g.ab l i]? = some (.cells c ty (0,0))∧idx * sz+sz<=c.size∧(∀t v,x.cells[t]? = some v->(c.getD (idx * sz+t) undef).oneCell'=true)∧∀t v,x.cells[t]? = some v->Rel W g H v (c.getD (idx * sz+t) undef):=by
 unfold y0w at h;split at h;rename_i ver' ty sz xs cp hg;split at h;rename_i hv;subst hv;simp[Qaf]at h;obtain⟨x,hx,rfl⟩:=h;obtain⟨c,h1,h3,h4,h4',h5,h6,h7,h8,h9⟩:=hG.obj l i _ hg;refine⟨ty,sz,xs,cp,x,hg,hx,rfl,h7 _ _ hx,c,h1,?_,λt v ht=>h8 _ _ _ _ hx ht,λt v ht=>h9 _ _ _ _ hx ht⟩;have:=(Qaa.1 hx).1;rw[h4]
 calc idx * sz+sz=(idx+1) * sz:=by rw[Nat.succ_mul]
  _<=_:=Qau _ (by omega)
 cases h;cases h
theorem y7q(hG:Good W g H){t x v c}(h:zco P H t x=some v)(hx:Rel W g H x c):∃a u,c = .pointer (some a)∧(loadVar t a).run P W = .ok u W∧Rel W g H v u:=by
 unfold zco at h;split at h
 cases hx with
 |ref cs off b o c hb hc ho1 hr=>
  obtain⟨u,h1,h2⟩:=zkt h hc ho1 hr
  grind
 rename_i l i off;split at h;rename_i cs hg
 cases hx with
 |ptr _ _ _ hd=>
  obtain⟨a,ty,h1,h3,h3',h4⟩:=hG.obj l i _ hg
  obtain⟨u,k1,k2⟩:=zkt (b:=g.blk l i) (o:=0) (c:=λj=>a.getD j undef) h (λj y hj=>by
   grind[cell_of]) (λj y hj=>h3' _ _ hj) (λj y hj=>h4 _ _ hj)
  rw[Nat.zero_add]at k1
  grind
 cases h;rename_i l i ver idx off;simp only[Qbx]at h;obtain⟨p,hp,h⟩:=h;obtain⟨ty,sz,xs,cp,y,hg,hy,rfl,hl,a,h1,h3,h3',h4⟩:=yu0 hG hp
 cases hx with
 |ap _ _ _ _ _ ad hd hv ha=>
  obtain rfl:=ha _ _ _ _ hg
  obtain⟨u,k1,k2⟩:=zkt (b:=g.ab l i) (o:=idx * sz) (c:=λj=>a.getD (idx * sz+j) undef) h (λj z hj=>by
   grind[cell_of]) (λj z hj=>h3' _ _ hj) (λj z hj=>h4 _ _ hj)
  grind
 cases h
theorem ytb(hG:Good W g H){t x v c}(h:zco P H t x=some v)(hx:Rel W g H x c):Yields P W g H (Instr.loadAt t c) v:=by
 obtain⟨a,u,rfl,h1,h2⟩:=y7q hG h hx;exact .same (c:=u) (by simp[Instr.loadAt,Instr.sureAddr,h1]) h2
def zrf(P:Program)(s f:Nat):Option Nat :=
 match P.underlying s with
 |some (.struct fs)=>match fs[f]? with
  |some x=>if (P.underlying x.type).isSome&&P.cellsOf x.type != 0 then some x.offset else none
  |none=>none
 |_=>none
def zbi(P:Program)(s f:Nat)(x:V):Option V :=
 match zrf P s f with
 |none=>none
 |some o=>match x with
  |.ref cs off=>some (.ref cs (off+o))
  |.ptr l i off=>some (.ptr l i (off+o))
  |.ap l i ver idx off=>some (.ap l i ver idx (off+o))
  |_=>none
theorem add_eq(b o n):(⟨b,o,none⟩:Addr).add n=⟨b,o+n,none⟩:=by
 grind[Addr.add]
theorem zwl{s f o a}(h:zrf P s f=some o):(Instr.fieldAt s (.pointer (some a)) f).run P W = .ok (.pointer (some (a.add o))) W:=by
 unfold zrf at h;split at h;rename_i fs hu;split at h;rename_i x hx;split at h;rename_i hc;simp[ne_eq]at hc;cases h;obtain⟨d,hd⟩:=Option.isSome_iff_exists.1 hc.1
 simp_all[Instr.fieldAt,yz3,Instr.sureAddr,fieldPlace,z9g]
 cases h;cases h;cases h
theorem y9r{s f x v c}(h:zbi P s f x=some v)(hx:Rel W g H x c):Yields P W g H (Instr.fieldAt s c f) v:=by
 unfold zbi at h;split at h;cases h;rename_i o ho;split at h;cases h
 cases hx with
 |ref _ _ b q c hb hc ho1 hr=>
  refine .same (zwl ho) ?_;rw[add_eq,Nat.add_assoc];exact .ref _ _ b q c hb hc ho1 hr
 cases h
 cases hx with
 |ptr _ _ _ hd=>
  refine .same (zwl ho) ?_;rw[add_eq];exact .ptr _ _ _ hd
 rename_i l i ver idx off;cases h
 cases hx with
 |ap _ _ _ _ _ ad hd hv ha=>
  refine .same (zwl ho) (.ap l i ver idx (off+o) _ hd hv λty sz xs cp hg =>?_)
  grind[add_eq]
 cases h
end
section
variable {W : World} {g : Gh} {H : Heap} {P : Program}
def ybk(P:Program)(s f:Nat)(x:V):Option V :=
 match P.underlying s with
 |some (.struct fs)=>match fs[f]? with
  |some y=>match x with
   |.agg cs=>rd P y.type cs y.offset
   |_=>none
  |none=>none
 |_=>none
theorem yp4{s f x v c}(h:ybk P s f x=some v)(hx:Rel W g H x c):Yields P W g H (Instr.field s c f) v:=by
 unfold ybk at h;split at h;rename_i fs hu;split at h;rename_i y hy;split at h
 cases hx with
 |agg _ a hn ho1 hr=>
  obtain⟨u,h1,h2⟩:=zln h hn ho1 hr;exact .same (c:=u) (by simp_all[Instr.field,yz3,asAgg]) h2
 cases h;cases h;cases h
def yzo(P:Program)(H:Heap)(t:Nat)(x i:V):Option V :=
 match i with
 |.int _ n=>if 0<=n then match P.underlying t with
  |some (.slice e)=>match x with
   |.sl sz xs _=>if sz=P.cellsOf e∧(P.underlying e).isSome then (xs[n.toNat]?).map λy=>.ref y.cells 0 else none
   |.hs l i ver off m _=>match H.get l i with
    |some (.arr ver' _ sz _ _)=>if ver'=ver∧sz=P.cellsOf e∧(P.underlying e).isSome∧n<m then some (.ap l i ver (off+n.toNat) 0)else none
    |_=>none
   |_=>none
  |some (.array len e)=>if n<len∧(P.underlying e).isSome then match x with
   |.ref cs off=>some (.ref cs (off+n.toNat * P.cellsOf e))
   |.ptr l i off=>some (.ptr l i (off+n.toNat * P.cellsOf e))
   |.ap l i ver idx off=>some (.ap l i ver idx (off+n.toNat * P.cellsOf e))
   |_=>none else none
  |_=>none else none
 |_=>none
theorem run_indexAt_slice{t e:Nat}{a}{m cap:Nat}{k}{n:Int}(hu:P.underlying t=some (.slice e))(he:(P.underlying e).isSome=true)(h0:0<=n)(h1:n<m) :
  (Instr.indexAt t (.slice (some a) m cap) (.int k n)).run P W = .ok (.pointer (some (a.add (n.toNat * P.cellsOf e)))) W:=by
 obtain⟨d,hd⟩:=Option.isSome_iff_exists.1 he;simp[Instr.indexAt,asIntOf,yz3 hu,h0,h1,z9g hd]
theorem run_indexAt_array{t e len:Nat}{a k}{n:Int}(hu:P.underlying t=some (.array len e))(he:(P.underlying e).isSome=true)(h0:0<=n)(h1:n<len) :
  (Instr.indexAt t (.pointer (some a)) (.int k n)).run P W = .ok (.pointer (some (a.add (n.toNat * P.cellsOf e)))) W:=by
 obtain⟨d,hd⟩:=Option.isSome_iff_exists.1 he;simp[Instr.indexAt,asIntOf,yz3 hu,h0,h1,z9g hd,Instr.sureAddr]
theorem ya0{t x i v c ci}(h:yzo P H t x i=some v)(hx:Rel W g H x c)(hi:Rel W g H i ci):Yields P W g H (Instr.indexAt t c ci) v:=by
 unfold yzo at h;split at h;rename_i k n;cases hi;split at h;rename_i h0;split at h;rename_i e hu;split at h;rename_i sz xs full;split at h;rename_i hc;obtain⟨rfl,he⟩:=hc;simp[Qaf]at h;obtain⟨y,hy,rfl⟩:=h;have hlt:=(Qaa.1 hy).1
 cases hx with
 |slnil=>simp at hy
 |sle=>simp at hy
 |sl _ _ _ b o cap cc hb hz hcap hf hs hcc ho1 hr=>
  refine .same (run_indexAt_slice hu he h0 (by omega)) ?_;rw[add_eq];exact .ref _ 0 b _ (cc n.toNat) (λ_=>hb) (λj u hj=>hcc _ _ _ _ hy hj) (λj u hj=>ho1 _ _ _ _ hy hj) (λj u hj=>hr _ _ _ _ hy hj)
 cases h;rename_i l i ver off m full;split at h;rename_i ver' ty sz xs cp hg;split at h;rename_i hc;obtain⟨rfl,rfl,he,hlt⟩:=hc;cases h
 cases hx with
 |hs _ _ _ _ _ _ a m' cap hd hv ha=>
  obtain⟨rfl,rfl,hcap,hle⟩:=ha _ _ _ _ hg;refine .same (run_indexAt_slice hu he h0 hlt) (.ap _ _ _ _ _ _ hd hv λty' sz ys cp' hg' =>?_)
  simp_all[add_eq,Nat.add_mul]
 cases h;cases h;cases h;rename_i len e hu;split at h;rename_i hc;obtain⟨hlt,he⟩:=hc;split at h;cases h
 cases hx with
 |ref _ _ b o c hb hcc ho1 hr=>
  refine .same (run_indexAt_array hu he h0 hlt) ?_;rw[add_eq,Nat.add_assoc];exact .ref _ _ b o c hb hcc ho1 hr
 cases h
 cases hx with
 |ptr _ _ _ hd=>
  refine .same (run_indexAt_array hu he h0 hlt) ?_;rw[add_eq];exact .ptr _ _ _ hd
 cases h
 cases hx with
 |ap _ _ _ _ _ a hd hv ha=>
  refine .same (run_indexAt_array hu he h0 hlt) (.ap _ _ _ _ _ _ hd hv λty sz ys cp' hg' =>?_)
  grind[add_eq]
 cases h;cases h;cases h;cases h;cases h
def y76(P:Program)(t:Nat)(x i:V):Option V :=
 match i with
 |.int _ n=>if 0<=n then match x with
  |.str s=>match P.underlying t with
   |some .string=>(s[n.toNat]?).map λb=>.int .u8 b.toNat
   |_=>none
  |.agg cs=>match P.underlying t with
   |some (.array len e)=>if n<len∧(P.underlying e).isSome then rd P e cs (n.toNat * P.cellsOf e)else none
   |_=>none
  |_=>none else none
 |_=>none
theorem you{t x i v c ci}(h:y76 P t x i=some v)(hx:Rel W g H x c)(hi:Rel W g H i ci):Yields P W g H (Instr.index t c ci) v:=by
 unfold y76 at h;split at h;rename_i k n;cases hi;split at h;rename_i h0;split at h;rename_i s;split at h;rename_i hu;simp[Qaf]at h;obtain⟨b,hb,rfl⟩:=h;cases hx;have hlt:=(Qaa.1 hb).1;refine .same (c:=.int .u8 b.toNat) ?_ (.int _ _);rw[run_index_string W t _ k n hu,dif_pos ⟨h0,by simp[ByteArray.size];omega⟩]
 have:(⟨s.toArray⟩:ByteArray)[n.toNat]'(by simp[ByteArray.size];omega)=b:=by
  have:=List.getElem_of_getElem? hb;obtain⟨_,this⟩:=this;exact this
 rw[this];cases h;rename_i cs;split at h;rename_i len e hu;split at h;rename_i hc;obtain⟨hlt,he⟩:=hc;obtain⟨d,hd⟩:=Option.isSome_iff_exists.1 he
 cases hx with
 |agg _ a hn ho1 hr=>
  obtain⟨u,h1,h2⟩:=zln h hn ho1 hr;exact .same (c:=u) (by simp_all[Instr.index,asIntOf,yz3,z9g]) h2
 cases h;cases h;cases h;cases h;cases h
def y4y(i:Nat):V->Option V
 |.tup vs=>vs[i]?
 |_=>none
theorem yfq{i x v c}(h:y4y i x=some v)(hx:Rel W g H x c):Yields P W g H (Instr.extract c i) v:=by
 unfold y4y at h;split at h
 cases hx with
 |tup _ a hn hr=>
  have hlt:=(Qaa.1 h).1;refine .same (c:=a.getD i undef) ?_ (hr _ _ h)
  simp_all[Instr.extract]
 cases h
def y64:V->Option V
 |.ptr l i off=>some (.ptr l i off)
 |.ref cs off=>some (.ref cs off)
 |.ap l i ver idx off=>some (.ap l i ver idx off)
 |.fn f a b=>some (.fn f a b)
 |_=>none
def yb7(op:BinOp)(k:IntKind)(x y:Int):Option V :=
 match op with
 |.add=>some (.int k (k.wrap (x+y)))
 |.sub=>some (.int k (k.wrap (x-y)))
 |.mul=>some (.int k (k.wrap (x * y)))
 |.quo=>if y=0 then none else some (.int k (k.wrap (x.tdiv y)))
 |.rem=>if y=0 then none else some (.int k (x.tmod y))
 |.eql=>some (.bool (x==y))
 |.neq=>some (.bool (x != y))
 |.lss=>some (.bool (decide (x<y)))
 |.leq=>some (.bool (decide (x<=y)))
 |.gtr=>some (.bool (decide (x>y)))
 |.geq=>some (.bool (decide (x>=y)))
 |.and=>some (.int k (bits .and k x y))
 |.or=>some (.int k (bits .or k x y))
 |.xor=>some (.int k (bits .xor k x y))
 |.andNot=>some (.int k (bits .andNot k x y))
 |_=>none
def ytk(op:BinOp)(x y:B8):Option V :=
 match op with
 |.add=>if x.length+y.length<=maxLen then some (.str (x++y))else none
 |.eql=>some (.bool (x==y))
 |.neq=>some (.bool (!(x==y)))
 |.lss=>some (.bool (Op.bytesLess x y))
 |.leq=>some (.bool (Op.bytesLess x y||x==y))
 |.gtr=>some (.bool (!(Op.bytesLess x y||x==y)))
 |.geq=>some (.bool (!Op.bytesLess x y))
 |_=>none
end
section
variable {W : World} {g : Gh} {H : Heap} {P : Program}
mutual
def eqv(P:Program):Nat->Nat->V->V->Option Bool
 |0,_,_,_=>none
 |d+1,t,x,y=>
  match x,y with
  |.bool a,.bool b=>match P.underlying t with|some .bool=>some (a==b)|_=>none
  |.int k a,.int k' b=>match P.underlying t with|some (.int _)=>if k=k' then some (a==b)else none|_=>none
  |.str a,.str b=>match P.underlying t with|some .string=>some (a==b)|_=>none
  |.agg xs,.agg ys=>match P.underlying t with|some (.struct fs)=>if P.stoodInHeld t then none else yi2 P d fs.toList xs ys|_=>none
  |.nilp,.nilp=>match P.underlying t with|some (.pointer _)=>some true|_=>none
  |.nilp,.ptr _ _ _| .nilp,.ref _ _| .nilp,.ap _ _ _ _ _=>match P.underlying t with|some (.pointer _)=>some false|_=>none
  |.ptr _ _ _,.nilp| .ref _ _,.nilp| .ap _ _ _ _ _,.nilp=>match P.underlying t with|some (.pointer _)=>some false|_=>none
  |.nils,.nils=>match P.underlying t with|some (.slice _)=>some true|_=>none
  |.nils,.sl _ (_::_) _| .sl _ (_::_) _,.nils=>match P.underlying t with|some (.slice _)=>some false|_=>none
  |.mapn,.mapn=>match P.underlying t with|some (.map _ _)=>some true|_=>none
  |.mapn,.map _ _| .map _ _,.mapn=>match P.underlying t with|some (.map _ _)=>some false|_=>none
  |.nilf,.nilf=>match P.underlying t with|some (.func ..)=>some true|_=>none
  |.nilf,.fn _ _ _| .fn _ _ _,.nilf=>match P.underlying t with|some (.func ..)=>some false|_=>none
  |.nili,.iface _ _| .iface _ _,.nili=>match P.underlying t with|some (.interface _)=>some false|_=>none
  |_,_=>none
def yi2(P:Program):Nat->List Field->List V->List V->Option Bool
 |0,_,_,_=>none
 |_,[],_,_=>some true
 |d+1,f::fs,xs,ys=>
  if f.name = "_" then yi2 P d fs xs ys else
  match rd P f.type xs f.offset,rd P f.type ys f.offset with
  |some a,some b=>match eqv P d f.type a b,yi2 P d fs xs ys with
   |some r,some s=>some (r&&s)
   |_,_=>none
  |_,_=>none
end
theorem y7d:∀(d),(∀(D t) (x y) (r) (c e),d<=D->eqv P d t x y=some r->Rel W g H x c->Rel W g H y e->(Op.equalIn D t c e).run P W = .ok r W) ∧
  (∀(D) (fs) (xs ys) (r) (cs es),d<=D->yi2 P d fs xs ys=some r->cs.size=xs.length->es.size=ys.length->(∀j v,xs[j]? = some v->(cs.getD j undef).oneCell'=true)->(∀j v,ys[j]? = some v->(es.getD j undef).oneCell'=true)->(∀j v,xs[j]? = some v->Rel W g H v (cs.getD j undef)) ->
   (∀j v,ys[j]? = some v->Rel W g H v (es.getD j undef))->(Op.eqFields D cs es fs).run P W = .ok r W)
 |0=>by grind[eqv,yi2]
 |d+1=>by
  obtain⟨ih1,ih2⟩:=y7d d;constructor
  ·intro D t x y r c e hD h hx hy;obtain⟨D,rfl⟩:∃D',D=D'+1:=⟨D-1,by omega⟩;unfold eqv at h;split at h;split at h;rename_i hu;cases h;cases hx;cases hy;exact run_equalIn_bool' W D t _ _ hu;cases h;split at h;rename_i hu;split at h;rename_i hk;subst hk;cases h;cases hx;cases hy;exact run_equalIn_int W D t _ _ _ _ hu;cases h;cases h;split at h
   rename_i hu;injection h with h;subst h;cases hx;cases hy
   rw[run_equalIn_string W D t _ _ hu];simp;cases h;rename_i xs ys;split at h;rename_i fs hu;split at h;cases h;rename_i hp
   cases hx with
   |agg _ a hn ho1 hr=>
    cases hy with
    |agg _ b hn' ho1' hr'=>
     have hf:P.fieldsOf t=fs:=by simp[Program.fieldsOf,hu]
     rw[run_equalIn_struct W D t a b (by rw[hf];exact hu) (by simpa using hp),hf];exact ih2 D fs.toList xs ys r a b (by omega) h hn hn' ho1 ho1' hr hr'
   cases h
   all_goals first
    |(split at h
      rename_i hu;injection h with h;subst h;cases hx <;> cases hy <;> simp[Op.equalIn,yz3 hu]
      cases h)
    |cases h
  intro D fs xs ys r cs es hD h hn hn' ho1 ho1' hr hr'
  cases fs with
  |nil=>simp only[yi2,Qbn]at h;subst h;simp[Op.eqFields]
  |cons f fs=>
   simp only[yi2]at h;split at h;rename_i hname;simp only[Op.eqFields,hname];simp only[ne_eq,not_true_eq_false,if_false]
   grind
   rename_i hname;split at h;rename_i a b ha hb;split at h;rename_i r1 r2 h1 h2;injection h with h;subst h;obtain⟨u,hu,hru⟩:=zln (W:=W) ha hn ho1 hr;obtain⟨v,hv,hrv⟩:=zln (W:=W) hb hn' ho1' hr';have k1:=ih1 D _ _ _ _ u v (by omega) h1 hru hrv;have k2:=ih2 D fs _ _ r2 cs es (by omega) h2 hn hn' ho1 ho1' hr hr'
   simp only[Op.eqFields,ne_eq,hname,not_false_eq_true,if_true,Qbt,hu,hv,k1,Qbu];cases r1 <;> simp[k2]
   cases h;cases h
def Value.odd:Value->Bool
 |.int _ _| .float _ _| .complex _ _ _| .string _=>false
 |_=>true
theorem binOp_eql{t a b}(h:Value.odd a=true):binOp .eql t a b=(do pure (.bool (<-Op.equal t a b))):=by
 cases a <;> first|(simp[Value.odd]at h;done)|rfl|(cases b <;> rfl)
theorem binOp_neq{t a b}(h:Value.odd a=true):binOp .neq t a b=(do pure (.bool (!(<-Op.equal t a b)))):=by
 cases a <;> first|(simp[Value.odd]at h;done)|rfl|(cases b <;> rfl)
def V.odd:V->Bool
 |.int _ _| .str _| .any=>false
 |_=>true
theorem z009{x a}(h:x.odd=true)(hx:Rel W g H x a):Value.odd a=true:=by
 cases hx <;> first|rfl|(simp[V.odd]at h;done)
def zlm(P:Program)(t:Nat)(x y:V):Bool :=
 match x,y with
 |.agg _,.agg _ => !P.eqGuardType P.depth t
 |.nili,.nili=>false
 |.any,_|_,.any=>false
 |_,_=>true
def y7e(P:Program)(op:BinOp)(t:Nat)(x y:V):Option V :=
 match x,y with
 |.int k a,.int k' b=>match op with
  |.shl=>if b<0 then none else some (.int k (k.wrap (a * 2 ^ (min b.toNat k.bits))))
  |.shr=>if b<0 then none else some (.int k (a.fdiv (2 ^ (min b.toNat k.bits))))
  |_=>if k=k' then yb7 op k a b else none
 |.str a,.str b=>ytk op a b
 |x,y=>match op with
  |.eql=>if x.odd&&zlm P t x y then (eqv P 24 t x y).map .bool else none
  |.neq=>if x.odd&&zlm P t x y then (eqv P 24 t x y).map λr=>.bool (!r)else none
  |_=>none
theorem y84{op t x y a b}(xo yo)(h:zlm P t x y=true)(hx:Rel W g H x a)(hy:Rel W g H y b):(eqGuard op t xo yo a b).run P W = .ok () W:=by
 unfold eqGuard;cases op <;> (try simp;done)
 all_goals
  simp[if_false]
  cases hx <;> cases hy <;> first|(simp[zlm]at h;done)|(simp;done)|(simp[zlm]at h;simp[h];done)
theorem yy7{op:BinOp}{t:Nat}{x y v:V}{a b:Value}(xo yo:Operand)(h:y7e P op t x y=some v)(hx:Rel W g H x a)(hy:Rel W g H y b) :
  Yields P W g H (do eqGuard op t xo yo a b;binOp op t a b) v:=by
 unfold y7e at h;split at h
 ·rename_i k a' k' b';cases hx;cases hy;have he:(eqGuard op t xo yo (.int k a') (.int k' b')).run P W = .ok () W:=by unfold eqGuard;cases op <;> simp
  split at h;split at h;cases h
  rename_i hb;injection h with h;subst h
  exact .same (by simp[he,binOp,Op.shift,hb]) (.int _ _);split at h;cases h
  rename_i hb;injection h with h;subst h
  exact .same (by simp[he,binOp,Op.shift,hb]) (.int _ _)
  ·split at h
   ·rename_i hk;subst hk;unfold yb7 at h;split at h
    all_goals first
     |(split at h
       cases h
       rename_i hz;injection h with h;subst h
       exact .same (by simp only[Qbt,he,Qbu];simp[binOp,Op.intDiv,hz]) (.int _ _))
     |(injection h with h;subst h
       first
       |exact .same (by simp only[Qbt,he,Qbu];simp[binOp,Op.intArith,Op.intCmp,Op.intBits,bits]) (.int _ _)
       |exact .same (by simp only[Qbt,he,Qbu];simp[binOp,Op.intArith,Op.intCmp,Op.intBits,bits]) (.bool _))
     |cases h
   cases h
 ·rename_i a' b';cases hx;cases hy;have he:(eqGuard op t xo yo (.string ⟨a'.toArray⟩) (.string ⟨b'.toArray⟩)).run P W = .ok () W:=by unfold eqGuard;cases op <;> simp
  unfold ytk at h;split at h;split at h;rename_i hm;injection h with h;subst h;refine .same (c:=.string ⟨(a'++b').toArray⟩) ?_ (.str _);simp only[Qbt,he,Qbu]
  have hm':¬((a'.length+b'.length:Nat):Int)>IntKind.i64.max:=by
   have:IntKind.i64.max=9223372036854775807:=by decide
   rw[this];unfold maxLen at hm;omega
  have hadd:(⟨a'.toArray⟩:ByteArray)++⟨b'.toArray⟩=⟨(a'++b').toArray⟩:=by
   apply ByteArray.ext;simp
  simp only[binOp,Op.stringOp,ByteArray.size,List.size_toArray,Sem.run_ite,hm',if_false,hadd,Sem.run_pure];cases h
  all_goals first
   |(injection h with h;subst h
     exact .same (by simp only[Qbt,he,Qbu];simp[binOp,Op.stringOp]) (.bool _))
   |cases h
 split at h;split at h;rename_i hp;simp only[Qag]at hp;simp only[Qaf]at h;obtain⟨r,hr,rfl⟩:=h;refine .same (c:=.bool r) ?_ (.bool r);have:=(y7d (P:=P) 24).1 Op.maxDepth _ _ _ r a b (by decide) hr hx hy;simp only[Qbt,y84 xo yo hp.2 hx hy,Qbu,binOp_eql (z009 hp.1 hx),Op.equal,this,Sem.run_pure];cases h;split at h;rename_i hp;simp only[Qag]at hp
 simp only[Qaf]at h;obtain⟨r,hr,rfl⟩:=h;refine .same (c:=.bool (!r)) ?_ (.bool (!r));have:=(y7d (P:=P) 24).1 Op.maxDepth _ _ _ r a b (by decide) hr hx hy;simp only[Qbt,y84 xo yo hp.2 hx hy,Qbu,binOp_neq (z009 hp.1 hx),Op.equal,this,Sem.run_pure];cases h;cases h
end
section
variable {W : World} {g : Gh} {H : Heap} {P : Program}
def pUn(op:UnOp)(x:V):Option V :=
 match op,x with
 |.neg,.int k n=>some (.int k (k.wrap (0-n)))
 |.not,.bool b=>some (.bool (!b))
 |.xor,.int k n=>some (.int k (bits .xor k (if k.signed then -1 else k.max) n))
 |_,_=>none
theorem z02q{op x v c}(h:pUn op x=some v)(hx:Rel W g H x c):Yields P W g H (Op.unary op c) v:=by
 unfold pUn at h;split at h;cases h;cases hx;exact .same rfl (.int _ _);cases h;cases hx;exact .same rfl (.bool _);cases h;cases hx;exact .same rfl (.int _ _);cases h
def zqd(P:Program)(H:Heap)(t:Nat)(x:V):Option V :=
 match x with
 |.str s=>match P.underlying t with|some .string=>some (.int .i64 s.length)|_=>none
 |.nils=>match P.underlying t with|some (.slice _)=>some (.int .i64 0)|_=>none
 |.sl _ xs _=>match P.underlying t with|some (.slice _)=>some (.int .i64 xs.length)|_=>none
 |.hs l i ver _ n _=>match P.underlying t with
  |some (.slice _)=>match H.get l i with|some (.arr ver' _ _ _ _)=>if ver'=ver then some (.int .i64 n)else none|_=>none
  |_=>none
 |.mapn=>match P.underlying t with|some (.map _ _)=>some (.int .i64 0)|_=>none
 |.map l i=>match P.underlying t with
  |some (.map _ _)=>match H.get l i with|some (.map es)=>some (.int .i64 es.length)|_=>none
  |_=>none
 |.agg _=>match P.underlying t with|some (.array n _)=>some (.int .i64 n)|_=>none
 |_=>none
theorem yyb(hG:Good W g H){t ty:Nat}{x v c}(h:zqd P H t x=some v)(hx:Rel W g H x c):Yields P W g H (Builtin.len_ #[t] ty #[c]) v:=by
 unfold zqd at h;split at h;split at h;rename_i hu;cases h;cases hx;exact .same (by grind[run_len_string,goInt,ByteArray.size]) (.int _ _);cases h;split at h;rename_i hu;cases h;cases hx;exact .same (by simp[Builtin.len_,yz3 hu,goInt]) (.int _ _);cases h;split at h;rename_i hu;cases h;cases hx <;> exact .same (by simp[Builtin.len_,yz3 hu,goInt]) (.int _ _)
 cases h;split at h;rename_i hu;split at h;rename_i hg;split at h;rename_i hv;subst hv;cases h
 cases hx with
 |hs _ _ _ _ _ _ a m cap hd hv ha=>
  obtain⟨_,rfl,_⟩:=ha _ _ _ _ hg;exact .same (by simp[Builtin.len_,yz3 hu,goInt]) (.int _ _)
 cases h;cases h;cases h;split at h;rename_i hu;cases h;cases hx;exact .same (by simp[Builtin.len_,yz3 hu,goInt]) (.int _ _);cases h;split at h;rename_i hu;split at h;rename_i es hg;cases h;cases hx;obtain⟨en,clock,h1,h2,_⟩:=hG.obj _ _ _ hg;exact .same (c:=.int .i64 en.size) (by simp[Builtin.len_,yz3 hu,goInt,run_getObj_map W _ _ _ h1]) (by rw[h2];exact .int _ _);cases h;cases h;split at h
 rename_i hu;cases h;cases hx;exact .same (by simp[Builtin.len_,yz3 hu,goInt]) (.int _ _);cases h;cases h
def bnd(y d:Nat):Option V->Option Nat
 |none=>some d
 |some (.int _ x)=>if 0<=x∧x<=y then some x.toNat else none
 |_=>none
def zji(n:Nat)(lo hi mx:Option V):Option (Nat×Nat×Option Nat) :=
 match mx with
 |none=>(bnd n n hi).bind λh=>(bnd h 0 lo).bind λl=>some (l,h,none)
 |some m=>(bnd n n (some m)).bind λm=>match hi with
  |none=>none
  |some h=>(bnd m n (some h)).bind λh=>(bnd h 0 lo).bind λl=>some (l,h,some m)
inductive zev? (W:World) (g:Gh) (H:Heap):Option V->Option Value->Prop where
 |none:zev? W g H none none
 |some {v:V} {c:Value}(h:Rel W g H v c):zev? W g H (some v) (some c)
theorem zy3{y d Y v c r code}(hY:y<=Y)(h:bnd y d (some v)=some r)(hr:Rel W g H v c):(Instr.sliceBound c Y code).run P W = .ok r W∧r<=y:=by
 unfold bnd at h;split at h
 grind
 rename_i heq;cases heq;split at h;rename_i hb;cases h;cases hr
 grind[run_sliceBound]
 cases h;cases h
theorem zjc{n cap lo hi mx clo chi cmx r}(b)(hn:n<=cap)(h:zji n lo hi mx=some r)(h1:zev? W g H lo clo)(h2:zev? W g H hi chi)(h3:zev? W g H mx cmx) :
  (Instr.sliceBounds b n cap clo chi cmx).run P W = .ok (r.1,r.2.1,r.2.2.getD cap) W∧r.1<=r.2.1∧r.2.1<=n∧(∀m,r.2.2=some m->r.2.1<=m∧m<=n):=by
 unfold zji at h
 cases h3 with
 |none=>
  simp only[Qbx]at h;obtain⟨h',hh,l,hl,heq⟩:=h;cases heq
  cases h2 with
  |none=>
   simp[bnd,Qbn]at hh;subst hh
   cases h1 with
   |none=>simp[bnd,Qbn]at hl;subst hl;simp[Instr.sliceBounds]
   |some k1=>
    obtain⟨e1,e2⟩:=zy3 (P:=P) (code:=.sliceB) (Qbp _) hl k1
    simp[Instr.sliceBounds,e1,e2]
  |some k2=>
   obtain⟨f1,f2⟩:=zy3 (P:=P) (code:=if b then .sliceAcap else .sliceAlen) hn hh k2
   cases h1 with
   |none=>simp[bnd,Qbn]at hl;subst hl;simp[Instr.sliceBounds,f1,f2]
   |some k1=>
    obtain⟨e1,e2⟩:=zy3 (P:=P) (code:=.sliceB) (Qbp _) hl k1
    simp_all[Instr.sliceBounds]
 |some k3=>
  simp[Qbx]at h;obtain⟨m,hm,h⟩:=h;obtain⟨m1,m2⟩:=zy3 (P:=P) (code:=if b then .slice3Acap else .slice3Alen) hn hm k3
  cases h2 with
  |none=>cases h
  |some k2=>
   simp[Qbx]at h;obtain⟨h',hh,l,hl,heq⟩:=h;cases heq;obtain⟨f1,f2⟩:=zy3 (P:=P) (code:=.slice3B) (Qbp _) hh k2
   cases h1 with
   |none=>simp[bnd,Qbn]at hl;simp[Instr.sliceBounds,f1,m1,m2];omega
   |some k1=>
    obtain⟨e1,e2⟩:=zy3 (P:=P) (code:=.slice3C) (Qbp _) hl k1;simp[Instr.sliceBounds,e1,f1,m1,m2];omega
def zhz(P:Program)(H:Heap)(t:Nat)(x:V)(lo hi mx:Option V):Option V :=
 match x with
 |.str s=>match P.underlying t,mx with
  |some .string,none=>(zji s.length lo hi none).map λr=>.str ((s.take r.2.1).drop r.1)
  |_,_=>none
 |.nils=>match P.underlying t with
  |some (.slice e)=>if (P.underlying e).isSome then (zji 0 lo hi mx).map λ_=>.nils else none
  |_=>none
 |.sl sz xs full=>match P.underlying t with
  |some (.slice e)=>if sz=P.cellsOf e∧(P.underlying e).isSome then (zji xs.length lo hi mx).map λr=>
    .sl sz ((xs.take r.2.1).drop r.1) (match r.2.2 with|some m=>m==r.2.1|none=>full&&r.2.1==xs.length)
   else none
  |_=>none
 |.hs l i ver off n full=>match P.underlying t with
  |some (.slice e)=>match H.get l i with
   |some (.arr ver' _ sz _ _)=>if ver'=ver∧sz=P.cellsOf e∧(P.underlying e).isSome then (zji n lo hi mx).bind λr=>
     if r.1=0∨r.1<r.2.1 then some (.hs l i ver (off+r.1) (r.2.1-r.1) (match r.2.2 with|some m=>m==r.2.1|none=>full&&r.2.1==n))else some (.sl sz [] false)
    else none
   |_=>none
  |_=>none
 |_=>none
theorem yny(s:B8)(l h):(⟨s.toArray⟩:ByteArray).extract l h=⟨((s.take h).drop l).toArray⟩:=by
 apply ByteArray.ext
 grind[ByteArray.data_extract,List.drop_take]
theorem yam{ρ r}(hρ:∀x,Rel W g H (ρ x) (r x))(o:Option Operand):zev? W g H (o.map ρ) (o.map r):=by
 cases o with
 |none=>exact .none
 |some x=>exact .some (hρ x)
theorem zjg{xs:List V}{l h j x}(hj:((xs.take h).drop l)[j]? = some x):xs[l+j]? = some x∧l+j<h:=by
 grind
theorem yq1(hG:Good W g H){t:Nat}{x v:V}{lo hi mx:Option V}{c:Value}{clo chi cmx:Option Value}(h:zhz P H t x lo hi mx=some v)(hx:Rel W g H x c)
  (h1:zev? W g H lo clo) (h2:zev? W g H hi chi) (h3:zev? W g H mx cmx):Yields P W g H (Instr.sliceAt t c clo chi cmx) v:=by
 unfold zhz at h;split at h;rename_i s;split at h;rename_i hu;simp only[Qaf]at h;obtain⟨r,hr,rfl⟩:=h;cases hx;cases h3;obtain⟨e1,e2,e3,_⟩:=zjc (P:=P) false (Qbp _) hr h1 h2 .none;refine .same (c:=.string ((⟨s.toArray⟩:ByteArray).extract r.1 r.2.1)) ?_ ?_;rw[run_sliceAt_string W t _ _ _ _ hu];have hs:(⟨s.toArray⟩:ByteArray).size=s.length:=by simp[ByteArray.size]
 simp[Instr.slice,yz3 hu,hs,e1];rw[yny];exact .str _;cases h;split at h;rename_i e hu;split at h;rename_i he;obtain⟨d,hd⟩:=Option.isSome_iff_exists.1 he;simp only[Qaf]at h;obtain⟨r,hr,rfl⟩:=h;cases hx;obtain⟨e1,e2,e3,e4⟩:=zjc (P:=P) true (Qbp 0) hr h1 h2 h3;refine .same (c:=.slice none 0 0) ?_ .nils;have hel:P.elem t=e:=by simp[Program.elem,hu]
 rw[run_sliceAt_slice W t _ _ _ _ (by rw[hel];exact hu)];have k1:r.1=0:=by omega
 have k2:r.2.1=0:=by omega
 have k3:r.2.2.getD 0=0:=by
  cases hm:r.2.2 with
  |none=>rfl
  |some m=>have:=e4 m hm;simp;omega
 simp[Instr.slice,yz3 hu,e1,z9g hd,k1,k2,k3];cases h;cases h;rename_i sz xs full;split at h;rename_i e hu;split at h;rename_i hc;obtain⟨rfl,he⟩:=hc;obtain⟨d,hd⟩:=Option.isSome_iff_exists.1 he;simp only[Qaf]at h;obtain⟨r,hr,rfl⟩:=h;have hel:P.elem t=e:=by simp[Program.elem,hu]
 have hrun:∀(a:Option Addr) (cap:Nat),xs.length<=cap->(Instr.sliceAt t (.slice a xs.length cap) clo chi cmx).run P W =
   .ok (.slice (if r.2.2.getD cap=r.1 then a else a.map (·.add (r.1 * P.cellsOf e))) (r.2.1-r.1) (r.2.2.getD cap-r.1)) W:=λa cap hcap=>by
  obtain⟨e1,e2,e3,_⟩:=zjc (P:=P) true hcap hr h1 h2 h3;rw[run_sliceAt_slice W t _ _ _ _ (by rw[hel];exact hu)];simp[Instr.slice,yz3 hu,e1,z9g hd]
 have hb:∀cap,xs.length<=cap->r.1<=r.2.1∧r.2.1<=xs.length∧(∀m,r.2.2=some m->r.2.1<=m∧m<=xs.length):=λcap hcap=>(zjc (P:=P) true hcap hr h1 h2 h3).2
 have hlen:((xs.take r.2.1).drop r.1).length=r.2.1-r.1:=by
  obtain⟨b1,b2,_⟩:=hb _ (Qbp _);simp;omega
 have hfull:∀cap,xs.length<=cap->(full=true->cap=xs.length)->(match r.2.2 with|some m=>m==r.2.1|none=>full&&r.2.1==xs.length)=true->r.2.2.getD cap-r.1=r.2.1-r.1:=λcap hcap hf hm=>by
  cases hm2:r.2.2 with
  |none=>
   simp only[hm2,Qag,beq_iff_eq]at hm;have:=hf hm.1
   simp;omega
  |some m=>
   simp only[hm2,beq_iff_eq]at hm;simp;omega
 have hempty:∀(a:Option Addr) (cap:Nat),xs.length<=cap->(full=true->cap=xs.length)->(a=none->cap=0)->r.2.1-r.1=0 ->
   Rel W g H (.sl (P.cellsOf e) ((xs.take r.2.1).drop r.1) (match r.2.2 with|some m=>m==r.2.1|none=>full&&r.2.1==xs.length))
    (.slice (if r.2.2.getD cap=r.1 then a else a.map (·.add (r.1 * P.cellsOf e))) (r.2.1-r.1) (r.2.2.getD cap-r.1)):=λa cap hcap hf ha h0=>by
  have hnil:(xs.take r.2.1).drop r.1=[]:=Qao (by omega);rw[hnil,h0];have hff:=hfull cap hcap hf
  cases a with
  |none=>
   have:=ha rfl;subst this
   have:r.2.2.getD 0-r.1=0:=by
    cases hm2:r.2.2 with
    |none=>simp
    |some m=>have:=(hb _ hcap).2.2 m hm2;simp;omega
   rw[this];simp only[Option.map_none,ite_self]
   exact .slnil _ _
  |some b=>
   generalize hgen:(if r.2.2.getD cap=r.1 then some b else (some b).map (·.add (r.1 * P.cellsOf e)))=q at *
   cases q with
   |none=>split at hgen <;> simp at hgen
   |some b'=>exact .sle _ _ b' _ (λhm=>by rw[hff hm];exact h0)
 cases hx with
 |slnil=>exact .same (hrun none 0 (by simp)) (hempty none 0 (by simp) (by simp) (by simp) (by have:=(hb _ (Qbp _)).2.1;simp at this;omega))
 |sle _ _ a cap hf=>exact .same (hrun (some a) cap (by simp)) (hempty (some a) cap (by simp) (by simpa using hf) (by simp) (by have:=(hb _ (Qbp _)).2.1;simp at this;omega))
 |sl _ _ _ b o cap cc hob hz hcap hf hs hcc ho1 hr'=>
  refine .same (hrun _ cap hcap) ?_;by_cases h0:r.2.1-r.1=0;exact hempty _ cap hcap hf (by simp) h0
  have hm:r.2.2.getD cap≠r.1:=by
   cases hm2:r.2.2 with
   |none=>have:=(hb _ hcap);simp;omega
   |some m=>have:=(hb _ hcap).2.2 m hm2;simp;omega
  rw[Qbr hm];simp only[Qbk,add_eq];have hff:=hfull cap hcap hf;generalize hfu:(match r.2.2 with|some m=>m==r.2.1|none=>full&&r.2.1==xs.length)=fu at *;rw[<-hlen];refine .sl _ _ fu b (o+r.1 * P.cellsOf e) _ (λj t=>cc (r.1+j) t) hob hz ?_ (λhf' =>?_) (λj x hj=>hs _ _ (zjg hj).1) (λj x t v hj ht =>?_) (λj x t v hj ht=>ho1 _ _ _ _ (zjg hj).1 ht) (λj x t v hj ht=>hr' _ _ _ _ (zjg hj).1 ht)
  rw[hlen]
  cases hm2:r.2.2 with
  |none=>have:=(hb _ hcap);simp;omega
  |some m=>have:=(hb _ hcap).2.2 m hm2;simp;omega
  rw[hlen];exact hff hf';have:=hcc _ _ _ _ (zjg hj).1 ht;rw[Nat.add_mul]at this;rw[<-this];congr 2;omega
 cases h;cases h;rename_i l i ver off n full;split at h;rename_i e hu;split at h;rename_i ver' ty sz xs cp hg;split at h;rename_i hc;obtain⟨rfl,rfl,he⟩:=hc;obtain⟨d,hd⟩:=Option.isSome_iff_exists.1 he;simp only[Qbx]at h;obtain⟨r,hr,h⟩:=h;split at h;rename_i hcond;injection h with h;subst h;have hel:P.elem t=e:=by simp[Program.elem,hu]
 cases hx with
 |hs _ _ _ _ _ _ a m cap hd' hv ha=>
  obtain⟨rfl,rfl,⟨hcap,hcap2,hff⟩,hle⟩:=ha _ _ _ _ hg;obtain⟨e1,e2,e3,e4⟩:=zjc (P:=P) true hcap hr h1 h2 h3
  have hmc:r.2.1<=r.2.2.getD cap∧r.2.2.getD cap<=cap:=by
   cases hm2:r.2.2 with
   |none=>simp;omega
   |some m'=>have:=e4 m' hm2;simp;omega
  refine .same (c:=.slice (some ⟨g.ab l i,(off+r.1) * P.cellsOf e,none⟩) (r.2.1-r.1) (r.2.2.getD cap-r.1)) ?_ ?_;rw[run_sliceAt_slice W t _ _ _ _ (by rw[hel];exact hu)];simp only[Instr.slice,Qbt,yz3 hu,Qbu,e1,z9g hd,Sem.run_pure]
  congr 2
  split;rename_i heq
  have:r.1=0:=by
   rcases hcond with h0|h0
   exact h0;omega
  rw[this,Nat.add_zero];simp only[Qbk,add_eq,Nat.add_mul];refine .hs _ _ _ _ _ _ _ _ _ hd' hv λty' sz' xs' cp' hg' =>?_
  rw[hg]at hg';injection hg' with hg';injection hg' with _ _ hsz hxx _
  subst hxx;refine⟨by rw[hsz],rfl,⟨by omega,by omega,λhf =>?_⟩,by omega⟩
  cases hm2:r.2.2 with
  |none=>
   simp only[hm2,Qag,beq_iff_eq]at hf;have:=hff hf.1
   simp;omega
  |some m'=>
   simp only[hm2,beq_iff_eq]at hf;simp;omega
 rename_i hcond;injection h with h;subst h;have hel:P.elem t=e:=by simp[Program.elem,hu]
 cases hx with
 |hs _ _ _ _ _ _ a m cap hd' hv ha=>
  obtain⟨rfl,rfl,⟨hcap,hcap2,hff⟩,hle⟩:=ha _ _ _ _ hg;obtain⟨e1,e2,e3,e4⟩:=zjc (P:=P) true hcap hr h1 h2 h3;have h0:r.2.1-r.1=0:=by omega
  have hrun:(Instr.sliceAt t (.slice (some ⟨g.ab l i,off * P.cellsOf e,none⟩) m cap) clo chi cmx).run P W =
    .ok (.slice (if r.2.2.getD cap=r.1 then some ⟨g.ab l i,off * P.cellsOf e,none⟩else (some ⟨g.ab l i,off * P.cellsOf e,none⟩:Option Addr).map (·.add (r.1 * P.cellsOf e))) (r.2.1-r.1) (r.2.2.getD cap-r.1)) W:=by
   rw[run_sliceAt_slice W t _ _ _ _ (by rw[hel];exact hu)];simp[Instr.slice,yz3 hu,e1,z9g hd]
  refine .same hrun ?_;rw[h0];split <;> exact .sle _ _ _ _ (λhf=>by cases hf)
 cases h;cases h;cases h;cases h
end
section
variable {W : World} {g : Gh} {H : Heap} {P : Program}
def yoj(d:TypeDesc)(x y:V):Option Bool :=
 match x,y with
 |.int k a,.int k' b=>match d with| .int _=>if k=k' then some (a==b)else none|_=>none
 |.str a,.str b=>match d with| .string=>some (a==b)|_=>none
 |.bool a,.bool b=>match d with| .bool=>some (a==b)|_=>none
 |_,_=>none
def y8e(d:TypeDesc)(k:V):List (V×V)->Nat->Option (Option (Nat×V))
 |[],_=>some none
 |e::es,i=>match yoj d k e.1 with
  |some b=>if b then some (some (i,e.2))else y8e d k es (i+1)
  |none=>none
theorem y7g{d x y a b r}(h:yoj d x y=some r)(hx:Rel W g H x a)(hy:Rel W g H y b):Instr.sameNow d a b=some r:=by
 unfold yoj at h;split at h;cases hx;cases hy
 grind[Instr.sameNow]
 cases hx;cases hy;split at h
 simp_all[Instr.sameNow,beq_toListBytes]
 cases h;cases hx;cases hy
 grind[Instr.sameNow]
 cases h
theorem zvf{d k ck}(hk:Rel W g H k ck):∀(es) (en) (i) (r),y8e d k es i=some r->en.length=es.length ->
  (∀(j:Nat) (p),es[j]? = some p->∃e,en[j]? = some e∧Rel W g H p.1 e.key∧Rel W g H p.2 e.val) ->
  match r with
  |none=>Instr.findNow d ck en i=some none
  |some (j,v)=>∃e,Instr.findNow d ck en i=some (some (j,e.val))∧Rel W g H v e.val∧i<=j∧en[j-i]? = some e∧∃p,es[j-i]? = some p∧yoj d k p.1=some true
 |[],en,i,r,h,hl,_=>by
  simp[y8e,Qbn]at h;subst h
  cases en with
  |nil=>rfl
  |cons=>simp at hl
 |e::es,en,i,r,h,hl,hr=>by
  cases en with
  |nil=>simp at hl
  |cons f en=>
   obtain⟨f',hf,h1,h2⟩:=hr 0 e rfl;simp[y8e]at h;split at h;rename_i b hb;have hs:=y7g hb hk h1;split at h;rename_i hbt;subst hbt;simp[Qbn]at h;subst h
   simp_all[Instr.findNow]
   rename_i hbt;have hbf:=by simpa using hbt
   subst hbf;have ih:=zvf hk es en (i+1) r h (by simpa using hl) (λj p hj=>by simpa using hr (j+1) p (by simpa using hj))
   grind[Instr.findNow]
   cases h
def zeroV(P:Program)(t:Nat):Option V:=((P.info? t).bind (·.zero)).map ofConst
theorem zsn{t v}(h:zeroV P t=some v):∃z,(zeroValue t).run P W = .ok z W∧Rel W g H v z:=by
 simp only[zeroV,Qaf,Qbx]at h;obtain⟨z,⟨i,hi,hz⟩,rfl⟩:=h
 simp_all[zeroValue,typeInfo,zor]
def zxy(P:Program)(k:Nat)(x:V):Option TypeDesc :=
 match P.underlying k,x with
 |some (.int q),.int _ _=>some (.int q)
 |some .string,.str _=>some .string
 |some .bool,.bool _=>some .bool
 |_,_=>none
theorem y5a{k x d c}(h:zxy P k x=some d)(hx:Rel W g H x c):P.underlying k=some d∧∀e n,(Instr.checkKey e (n+1) k c).run P W = .ok () W:=by
 unfold zxy at h;split at h;rename_i hu;cases h;simp_all[Instr.checkKey,yz3];rename_i hu;cases h;simp_all[Instr.checkKey,yz3];rename_i hu;cases h;simp_all[Instr.checkKey,yz3];cases h
def z01i(H:Heap):V->Option (List (V×V))
 |.mapn=>some []
 |.map l i=>match H.get l i with
  |some (.map es)=>some es
  |_=>none
 |_=>none
def zu5(P:Program)(H:Heap)(t:Nat)(x k:V)(ok:Bool):Option V :=
 match P.underlying t with
 |some (.map kt e)=>match z01i H x,zxy P kt k,zeroV P e with
  |some es,some d,some z=>match y8e d k es 0 with
   |some r=>some (match r with
    |some p=>if ok then .tup [p.2,.bool true]else p.2
    |none=>if ok then .tup [z,.bool false]else z)
   |none=>none
  |_,_,_=>none
 |_=>none
theorem ybd{a b x y}(h1:Rel W g H a x)(h2:Rel W g H b y):Rel W g H (.tup [a,b]) (.tuple #[x,y]) :=
 .tup _ _ rfl λj v hj=>by
   match j with
   |0=>simp_all
   |1=>simp_all
   |n+2=>simp at hj
theorem ym6(hG:Good W g H){t x k v ok c ck}(h:zu5 P H t x k ok=some v)(hx:Rel W g H x c)(hk:Rel W g H k ck):Yields P W g H (Instr.lookup t c ck ok) v:=by
 unfold zu5 at h;split at h;rename_i kt e hu;split at h;rename_i es d z hes hkk hz;split at h;rename_i r hf;injection h with h;obtain⟨zc,hz1,hz2⟩:=zsn (W:=W) (g:=g) (H:=H) hz;obtain⟨hku,hck⟩:=y5a hkk hk
 have fin:∀(en:List MapEntry),en.length=es.length->(∀(j:Nat) (p:V×V),es[j]? = some p->∃e,en[j]? = some e∧Rel W g H p.1 e.key∧Rel W g H p.2 e.val) ->
   ∃R,Instr.findNow d ck en 0=some R∧Rel W g H v (match R with|some (_,u)=>if ok then .tuple #[u,.bool true]else u|none=>if ok then .tuple #[zc,.bool false]else zc):=λen hn hrel=>by
  have hfs:=zvf (d:=d) hk es en 0 r hf hn hrel
  cases r with
  |none=>
   refine⟨none,hfs,?_⟩;subst h;cases ok;exact hz2
   exact ybd hz2 (.bool false)
  |some p=>
   obtain⟨j,u⟩:=p;obtain⟨e',k1,k2,_⟩:=hfs;refine⟨some (j,e'.val),k1,?_⟩;subst h;cases ok;exact k2;exact ybd k2 (.bool true)
 unfold z01i at hes;split at hes;cases hes;cases hx;obtain⟨R,hR,hrel⟩:=fin [] rfl (by simp);refine .same ?_ hrel;have hfk:=MapKept.run_findKey (P:=P) (w:=W) (l:=[]) hku hR;cases R <;> simp[Instr.lookup,yz3 hu,hck,hfk,hz1] <;> cases ok <;> rfl
 split at hes;rename_i l i es' hg;cases hes;cases hx;obtain⟨en,clock,h1,h2,_,_,h5⟩:=hG.obj _ _ _ hg;obtain⟨R,hR,hrel⟩:=fin en.toList (by simpa using h2) (λj p hj=>by simpa using h5 j p hj);refine .same ?_ hrel;have hfk:=MapKept.run_findKey (P:=P) (w:=W) (l:=en.toList) hku hR;have hgo:=run_getObj_map (P:=P) W _ _ _ h1;cases R <;> simp[Instr.lookup,yz3 hu,hck,hfk,hz1,hgo] <;> cases ok <;> rfl
 cases hes;cases hes;cases h;cases h;cases h
def zic(P:Program)(t:Nat)(x:V):Option V:=if P.concrete t then some (.iface t x)else none
theorem zyl{t x v c}(h:zic P t x=some v)(hx:Rel W g H x c):Yields P W g H (Instr.makeInterface t c) v:=by
 unfold zic at h;split at h;rename_i hc;cases h;exact .same (run_makeInterface W t c hc) (.iface _ _ _ hx);cases h
def zk3(P:Program)(x:V)(asserted:Nat)(ok:Bool):Option V :=
 match P.underlying asserted,x with
 |some (.interface _),_=>none
 |some _,.iface t v=>if t=asserted then some (if ok then .tup [v,.bool true]else v)else none
 |_,_=>none
theorem y6z{t u:Nat}{x v ok c}(h:zk3 P x u ok=some v)(hx:Rel W g H x c):Yields P W g H (Instr.typeAssert c t u ok) v:=by
 unfold zk3 at h;split at h;cases h;rename_i d t' v' hd hu;split at h;rename_i ht;subst ht;cases h
 cases hx with
 |iface _ _ cv hv=>
  refine .same (c:=if ok then .tuple #[cv,.bool true]else cv) ?_ ?_
  cases d <;> first|(exact(hd _ rfl).elim)|(simp[Instr.typeAssert,yz3 hu])
  cases ok;exact hv;exact ybd hv (.bool true)
 cases h;cases h
def zww(P:Program)(s d:Nat)(x:V):Option V :=
 match x with
 |.int _ n=>match P.underlying s,P.underlying d with
  |some _,some (.int k)=>some (.int k (k.wrap n))
  |_,_=>none
 |.str a=>match P.underlying s,P.underlying d with
  |some _,some .string=>some (.str a)
  |_,_=>none
 |_=>none
theorem yi6{s d x v c}(h:zww P s d x=some v)(hx:Rel W g H x c):Yields P W g H (convert s d c) v:=by
 unfold zww at h;split at h;split at h;rename_i hs hd;cases h;cases hx;exact .same (by simp[convert,yz3 hs,yz3 hd,Conv.intToInt]) (.int _ _);cases h;split at h;rename_i hs hd;cases h;cases hx;exact .same (by simp[convert,yz3 hs,yz3 hd]) (.str _);cases h;cases h
def mxI(x y:Int):Int:=if y>x then y else x
def mnI(x y:Int):Int:=if y<x then y else x
def zu2(max:Bool):List V->Option V
 |[.int k x,.int _ y]=>some (.int k (match max with|true=>mxI x y|false=>mnI x y))
 |[.int k x,.int _ y,.int _ z]=>some (.int k (match max with|true=>mxI (mxI x y) z|false=>mnI (mnI x y) z))
 |_=>none
theorem yxe{xs v cs t ty}(h:zu2 false xs=some v)(hn:cs.size=xs.length)(hr:∀j x,xs[j]? = some x->Rel W g H x (cs.getD j undef)):Yields P W g H (Builtin.min_ t ty cs) v:=by
 unfold zu2 at h;split at h;rename_i k x k' y;cases h
 obtain⟨a,b,rfl⟩:∃a b,cs = #[a,b]:=by
  cases cs with|mk l=>match l,hn with|[a,b],_=>exact⟨a,b,rfl⟩
 have h0:=hr 0 _ rfl;have h1:=hr 1 _ rfl;cases h0;cases h1;exact .same (by simp[Builtin.min_,Builtin.min2,mnI]) (.int _ _)
 ·rename_i k x k' y k'' z;cases h
  obtain⟨a,b,c,rfl⟩:∃a b c,cs = #[a,b,c]:=by
   cases cs with|mk l=>match l,hn with|[a,b,c],_=>grind
  have h0:=hr 0 _ rfl;have h1:=hr 1 _ rfl;have h2:=hr 2 _ rfl;cases h0;cases h1;cases h2;exact .same (by simp[Builtin.min_,Builtin.min2,mnI] <;> (repeat' split) <;> rfl) (.int _ _)
 cases h
theorem ywl{xs v cs t ty}(h:zu2 true xs=some v)(hn:cs.size=xs.length)(hr:∀j x,xs[j]? = some x->Rel W g H x (cs.getD j undef)):Yields P W g H (Builtin.max_ t ty cs) v:=by
 unfold zu2 at h;split at h;rename_i k x k' y;cases h
 obtain⟨a,b,rfl⟩:∃a b,cs = #[a,b]:=by
  cases cs with|mk l=>match l,hn with|[a,b],_=>exact⟨a,b,rfl⟩
 have h0:=hr 0 _ rfl;have h1:=hr 1 _ rfl;cases h0;cases h1;exact .same (by simp[Builtin.max_,Builtin.max2,mxI]) (.int _ _);rename_i k x k' y k'' z;cases h
 obtain⟨a,b,c,rfl⟩:∃a b c,cs = #[a,b,c]:=by
  cases cs with|mk l=>match l,hn with|[a,b,c],_=>grind
 have h0:=hr 0 _ rfl;have h1:=hr 1 _ rfl;have h2:=hr 2 _ rfl;cases h0;cases h1;cases h2;exact .same (by simp_all[Builtin.max_,Builtin.max2,mxI]) (.int _ _);cases h
end
section
variable {W : World} {g : Gh} {H : Heap} {P : Program}
def V.kzh:V->Bool
 |.agg _=>true
 |v=>v.leaf
def zwa(W:World)(g:Gh)(H:Heap)(vs:List V)(cs:Array Value):Prop :=
 cs.size=vs.length∧(∀j v,vs[j]? = some v->(cs.getD j undef).oneCell'=true)∧∀j v,vs[j]? = some v->Rel W g H v (cs.getD j undef)
def zk0(W:World)(g:Gh)(H:Heap)(vs:List V)(cs:Array Value):Prop:=cs.size=vs.length∧∀j v,vs[j]? = some v->Rel W g H v (cs.getD j undef)
theorem zfd{x c}(h:x.kzh=true)(hx:Rel W g H x c):zwa W g H x.cells c.cells:=by
 cases hx
 case agg vs cs hn ho1 hr=>exact⟨hn,ho1,hr⟩
 case any=>simp[V.kzh,V.leaf]at h
 case tup=>simp[V.kzh,V.leaf]at h
 all_goals
  refine⟨rfl,λj v hj =>?_,λj v hj =>?_⟩
  match j with
  |0=>rfl
  |n+1=>simp[V.cells]at hj
  match j with
  |0=>
   simp[V.cells,Qbn]at hj;subst hj
   first
    |exact .bool _|exact .int _ _|exact .str _|exact .nilp|exact .nils|exact .mapn|exact .nilf|exact .nili
    |(constructor <;> assumption)
  |n+1=>simp[V.cells]at hj
def kzt(cs:List V)(off:Nat)(xs:List V):List V:=cs.take off++xs++cs.drop (off+xs.length)
theorem zq4{cs xs off}(h:off+xs.length<=cs.length):(kzt cs off xs).length=cs.length:=by
 unfold kzt;simp;omega
theorem ydm{cs xs off j v}(h:off+xs.length<=cs.length)(hj:(kzt cs off xs)[j]? = some v) :
  (j<off∧cs[j]? = some v)∨(off<=j∧j<off+xs.length∧xs[j-off]? = some v)∨(off+xs.length<=j∧cs[j]? = some v):=by
 unfold kzt at hj;by_cases h1:j<off;left;rw[Qay,Qal (by simp;omega),Qaw,Qbq h1]at hj;exact⟨h1,hj⟩;by_cases h2:j<off+xs.length
 grind
 rw[Qav (by simp;omega),Qbb]at hj
 grind
def putCells(cells:Array Value)(off:Nat)(xs:Array Value):Array Value:=xs.zipIdx.foldl (λcs (c,j)=>cs.setIfInBounds (off+j) c) cells
theorem y1g(off):∀(xs:List Value) (k) (cells:Array Value),
  ((xs.zipIdx k).foldl (λcs p=>cs.setIfInBounds (off+p.2) p.1) cells).size=cells.size ∧
  ∀i,((xs.zipIdx k).foldl (λcs p=>cs.setIfInBounds (off+p.2) p.1) cells)[i]? = if off+k<=i∧i<off+k+xs.length∧i<cells.size then xs[i-(off+k)]? else cells[i]?
 |[],k,cells=>by
  simp[Qbv]
  grind
 |x::xs,k,cells=>by
  obtain⟨h1,h2⟩:=y1g off xs (k+1) (cells.setIfInBounds (off+k) x);simp[List.foldl_cons];refine⟨by rw[h1];simp,λi =>?_⟩;rw[h2 i];simp[List.length_cons];by_cases hi:off+(k+1)<=i∧i<off+(k+1)+xs.length∧i<cells.size;rw[Qbq hi,Qbq (by omega),show i-(off+k)=(i-(off+(k+1)))+1 by omega,List.getElem?_cons_succ];rw[Qbr hi,Array.getElem?_setIfInBounds];by_cases hk:off+k=i;subst hk;by_cases hs:off+k<cells.size
  grind
  rw[Qbq rfl,Qbr hs,Qbr (by omega)];simp[hs]
  grind
theorem zht(cells)(off)(xs):(putCells cells off xs).size=cells.size ∧
  ∀i,(putCells cells off xs)[i]? = if off<=i∧i<off+xs.size∧i<cells.size then xs[i-off]? else cells[i]? := by
 obtain⟨h1,h2⟩:=y1g off xs.toList 0 cells
 grind[putCells,Array.toList_zipIdx]
theorem y83{vs xs cs ys off}(h:zwa W g H vs cs)(k:zwa W g H xs ys)(hle:off+xs.length<=vs.length):zwa W g H (kzt vs off xs) (putCells cs off ys):=by
 obtain⟨p1,p2⟩:=zht cs off ys;refine⟨by rw[p1,zq4 hle,h.1],λj v hj =>?_,λj v hj =>?_⟩
 all_goals
  rw[Qae,p2]
  rcases ydm hle hj with ⟨a,b⟩|⟨a,b,c⟩|⟨a,b⟩
  rw[Qbr (by omega),<-Qae];first|exact h.2.1 j v b|exact h.2.2 j v b
  rw[Qbq ⟨a,by rw[k.1];omega,by rw[h.1];omega⟩,<-Qae];first|exact k.2.1 _ v c|exact k.2.2 _ v c
  rw[Qbr (by rw[k.1];omega),<-Qae];first|exact h.2.1 j v b|exact h.2.2 j v b
def zxn(place:Nat->Option (Nat×Nat))(cells:List V):List (Nat×V)->Option (List V)
 |[]=>some cells
 |(i,x)::rest=>match place i with
  |none=>none
  |some (off,size)=>if x.kzh&&x.cells.length==size&&decide (off+size<=cells.length)then zxn place (kzt cells off x.cells) rest else none
theorem zm3{place}:∀(ps) (cps) (cells) (cs) (r),zxn place cells ps=some r->zwa W g H cells cs ->
  cps.length=ps.length->(∀(j i:Nat) (x),ps[j]? = some (i,x)->∃c,cps[j]? = some (i,c)∧Rel W g H x c)->∃rs,Instr.fill place cs cps=some rs∧zwa W g H r rs
 |[],cps,cells,cs,r,h,hc,hl,_=>by
  simp[zxn,Qbn]at h;subst h
  cases cps with
  |nil=>exact⟨cs,rfl,hc⟩
  |cons=>simp at hl
 |(i,x)::ps,cps,cells,cs,r,h,hc,hl,hr=>by
  cases cps with
  |nil=>simp at hl
  |cons q cps=>
   obtain⟨c,hq,hx⟩:=hr 0 i x rfl;simp[Qbn]at hq;subst hq;simp only[zxn]at h;split at h;cases h;rename_i off size hp;split at h;rename_i hcond;simp[Qar]at hcond;obtain⟨⟨h1,h2⟩,h3⟩:=hcond;have k:=zfd h1 hx;have k1:=k.1;have hsp:zwa W g H (kzt cells off x.cells) (putCells cs off c.cells):=y83 hc k (by omega)
   obtain⟨rs,e1,e2⟩:=zm3 ps cps _ _ r h hsp (by simpa using hl) (λj i y hj=>by simpa using hr (j+1) i y (by simpa using hj));refine⟨rs,?_,e2⟩
   have hcond2:¬((decide (c.cells.size≠size)||decide (off+c.cells.size>cs.size))=true):=by
    have:=hc.1;simp;omega
   simp only[Instr.fill,hp];rw[Qbr hcond2];exact e1;cases h
def y8c(P:Program)(fs:List Field):Option (List (Nat×Nat)):=fs.mapM λf=>(P.info? f.type).map λi=>(f.offset,i.size)
def partsOf(ρ:Operand->V)(ps:Array (Nat×Operand)):List (Nat×V):=ps.toList.map λp=>(p.1,ρ p.2)
def ybq(P:Program)(t:Nat)(ps:List (Nat×V)):Option V :=
 match zeroV P t with
 |some (.agg z)=>match P.underlying t with
  |some (.struct fs)=>match y8c P fs.toList with
   |some places=>(zxn (λi=>places[i]?) z ps).map .agg
   |none=>none
  |some (.array _ e)=>if (P.info? e).isSome then (zxn (λi=>some (i * P.cellsOf e,P.cellsOf e)) z ps).map .agg else none
  |_=>none
 |_=>none
theorem yq6{t ps v cps}(h:ybq P t ps=some v)(hl:cps.size=ps.length)
  (hr:∀(j i:Nat) (x:V),ps[j]? = some (i,x)->∃c,cps[j]? = some (i,c)∧Rel W g H x c):Yields P W g H (Instr.build t cps) v:=by
 unfold ybq at h;split at h;rename_i z hz;obtain⟨zc,hz1,hz2⟩:=zsn (W:=W) (g:=g) (H:=H) hz
 cases hz2 with
 |agg _ cs hn ho1 hrz=>
  split at h;rename_i fs hu;split at h;rename_i places hp;simp[Qaf]at h;obtain⟨r,hf,rfl⟩:=h;obtain⟨rs,e1,e2⟩:=zm3 ps cps.toList z cs r hf ⟨hn,ho1,hrz⟩ (by simpa using hl) (λj i x hj=>by grind);refine .same (c:=.agg rs) ?_ (.agg _ _ e2.1 e2.2.1 e2.2.2);have hpl:=run_places (P:=P) W fs.toList places hp;simp[Instr.build,hz1,yz3 hu,Value.cells,Array.mapM_eq_mapM_toList,hpl,e1];cases h
  rename_i n e hu;split at h;rename_i he;obtain⟨i,hi⟩:=Option.isSome_iff_exists.1 he;simp[Qaf]at h;obtain⟨r,hf,rfl⟩:=h;obtain⟨rs,e1,e2⟩:=zm3 ps cps.toList z cs r hf ⟨hn,ho1,hrz⟩ (by simpa using hl) (λj i x hj=>by grind);refine .same (c:=.agg rs) ?_ (.agg _ _ e2.1 e2.2.1 e2.2.2);have hsz:(sizeOf e).run P W = .ok (P.cellsOf e) W:=by simp[sizeOf,typeInfo,hi,Program.cellsOf]
  simp[Instr.build,hz1,yz3 hu,Value.cells,hsz,e1];cases h;cases h
 cases h
def zlt:Nat->List (Nat×V)->Bool
 |_,[]=>true
 |k,(i,_)::r=>i==k&&zlt (k+1) r
def zcp(P:Program)(t len:Nat)(ps:List (Nat×V)):Option V :=
 match P.underlying t with
 |some (.slice e)=>match zeroV P e with
  |some z=>
   if z.kzh&&z.cells.length==P.cellsOf e&&decide (0<P.cellsOf e)&&(P.info? e).isSome&&ps.length==len&&zlt 0 ps&&ps.all (λp=>p.2.kzh&&p.2.cells.length==P.cellsOf e)&&decide (len * P.cellsOf e<=2 ^ 24)then
    some (if len=0 then .sl (P.cellsOf e) [] true else .sl (P.cellsOf e) (ps.map (·.2)) true)
   else none
  |none=>none
 |_=>none
theorem zr8{sz}:∀(xs:List V),(∀x∈xs,x.cells.length=sz)->∀(j t) (x v),xs[j]? = some x->x.cells[t]? = some v->(xs.flatMap V.cells)[j * sz+t]? = some v
 |[],_,j,t,x,v,hj,_=>by simp at hj
 |y::ys,h,0,t,x,v,hj,ht=>by
  have hlt:=(Qaa.1 ht).1
  simp_all[Qal]
 |y::ys,h,j+1,t,x,v,hj,ht=>by
  have hy:=h y (.head _);simp[List.flatMap_cons];rw[Qav (by grind),hy,show(j+1) * sz+t-sz=j * sz+t by grind];exact zr8 ys (λx hx=>h x (.tail _ hx)) j t x v (by simpa using hj) ht
theorem zxq{sz}:∀(ps) (k) (cells),zlt k ps=true->(∀p∈ps,p.2.kzh=true∧p.2.cells.length=sz)->cells.length=(k+ps.length) * sz ->
  zxn (λi=>some (i * sz,sz)) cells ps=some (cells.take (k * sz)++(ps.map (·.2)).flatMap V.cells)
 |[],k,cells,_,_,hl=>by
  grind[zxn]
 |(i,x)::ps,k,cells,ho,hs,hl=>by
  simp[zlt,beq_iff_eq]at ho;obtain⟨rfl,ho⟩:=ho;obtain⟨h1,h2⟩:=hs (i,x) (.head _)
  have hb:i * sz+sz<=cells.length:=by
   rw[hl,List.length_cons]
   grind
  simp[zxn,if_true]
  have hlen:(kzt cells (i * sz) x.cells).length=(i+1+ps.length) * sz:=by
   grind[zq4]
  rw[zxq ps (i+1) _ ho (λp hp=>hs p (.tail _ hp)) hlen];unfold kzt;rw[Nat.succ_mul,Qay,List.take_append,List.take_append]
  simp_all[List.take_of_length_le]
theorem y60{t len:Nat}{ps:List (Nat×V)}{v:V}{cps:Array (Nat×Value)}(hG:Good W g H)(h:zcp P t len ps=some v)(hl:cps.size=ps.length)
  (hr:∀(j i:Nat) (x:V),ps[j]? = some (i,x)->∃c,cps[j]? = some (i,c)∧Rel W g H x c):Yields P W g H (Instr.buildSlice t len cps) v:=by
 unfold zcp at h;split at h
 ·rename_i e hu;split at h
  ·rename_i z hz;split at h
   ·rename_i hc;simp only[Qag,beq_iff_eq,Qar,Qat]at hc;obtain⟨⟨⟨⟨⟨⟨⟨c1,c2⟩,c3⟩,c4⟩,c5⟩,c6⟩,c7⟩,c8⟩:=hc;injection h with h;obtain⟨inf,hi⟩:=Option.isSome_iff_exists.1 c4;have hsz:(sizeOf e).run P W = .ok (P.cellsOf e) W:=by simp[sizeOf,typeInfo,hi,Program.cellsOf]
    obtain⟨zc,hz1,hz2⟩:=zsn (W:=W) (g:=g) (H:=H) hz;obtain⟨zs1,zs3,zs2⟩:=zfd c1 hz2;have hbig:¬(len * P.cellsOf e>2 ^ 24):=by omega
    by_cases h0:len=0;subst h0;rw[Qbq rfl]at h;subst h;have hps:ps=[]:=Qao c5;subst hps;have hcps:cps = #[]:=by simpa using hl
    subst hcps;refine⟨.slice (some ⟨W.heap.size,0,none⟩) 0 0,W.alloc (.cells (Array.map (λ_=>default) (Array.range 0)) e),?_,.alloc _ _,.sle _ _ _ _ (λ_=>rfl)⟩;simp[Instr.buildSlice,yz3 hu,hsz,Instr.fill,newRow]
    ·rw[Qbr h0]at h;subst h
     have hne:¬(len * P.cellsOf e=0):=by
      intro hm
      rcases Nat.mul_eq_zero.1 hm with q|q <;> omega
     let cells0:Array Value:=(Array.range (len * P.cellsOf e)).map (zc.cells[· % zc.cells.size]!)
     let zl:List V:=(List.range (len * P.cellsOf e)).map λi=>z.cells.getD (i % z.cells.length) .any
     have hrel0:zwa W g H zl cells0:=by
      have key:∀j v,zl[j]? = some v->∃k,z.cells[k]? = some v∧cells0.getD j undef=zc.cells.getD k undef:=λj v hj=>by
       have hjl:j<len * P.cellsOf e:=by
        have:=(Qaa.1 hj).1;simpa[zl]using this
       simp only[zl,Qan,List.getElem?_range hjl,Qbk,Qbn]at hj;have hm:j % z.cells.length<z.cells.length:=Nat.mod_lt _ (by omega)
       have hv:z.cells[j % z.cells.length]? = some v:=by
        rw[List.getD_eq_getElem?_getD,Qab hm]at hj;simp only[Option.getD_some]at hj;rw[Qab hm,hj]
       have hm2:j % zc.cells.size<zc.cells.size:=by rw[zs1];exact hm
       refine⟨_,hv,?_⟩;have hr:(Array.range (len * P.cellsOf e))[j]? = some j:=by simp[hjl]
       simp only[cells0,Qae,Array.getElem?_map,hr,Qbk,Option.getD_some];rw[getElem!_pos zc.cells (j % zc.cells.size) hm2]
       have hz':(zc.cells)[j % z.cells.length]? = some (zc.cells[j % zc.cells.size]):=by
        rw[<-zs1];exact Qas hm2
       rw[hz'];rfl
      refine⟨by simp[zl,cells0],λj v hj =>?_,λj v hj =>?_⟩
      all_goals
       obtain⟨k,hk1,hk2⟩:=key j v hj;rw[hk2]
       first|exact zs3 _ _ hk1|exact zs2 _ _ hk1
     have hfv:=zxq ps 0 zl c6 c7 (by simp[zl,c5]);simp only[Nat.zero_mul,List.take_zero,List.nil_append]at hfv;obtain⟨rs,e1,e2⟩:=zm3 ps cps.toList zl cells0 _ hfv hrel0 (by simpa using hl) (λj i x hj=>by simpa using hr j i x hj)
     have hxs:∀x∈ps.map (·.2),x.cells.length=P.cellsOf e:=λx hx=>by
      obtain⟨p,hp,rfl⟩:=Qbc.1 hx;exact(c7 p hp).2
     refine⟨.slice (some ⟨W.heap.size,0,none⟩) len len,W.alloc (.cells rs e),?_,.alloc _ _,?_⟩;simp only[Instr.buildSlice,Qbt,yz3 hu,Qbu,hsz,Sem.run_ite,hbig,hne,if_false,Sem.run_pure,hz1];have e1':Instr.fill (λi=>some (i * P.cellsOf e,P.cellsOf e)) (Array.map (λx=>zc.cells[x % zc.cells.size]!) (Array.range (len * P.cellsOf e))) cps.toList=some rs:=e1;simp[e1',newRow]
     have hlen:(ps.map (·.2)).length=len:=by simp[c5]
     have hgr:=(Grow.alloc W (.cells rs e)).step (g:=g) (H:=H);rw[<-hlen];refine .sl _ _ true W.heap.size 0 _ (λj t=>rs.getD (j * P.cellsOf e+t) undef) (λhn =>?_) c3 (Qbp _) (λ_=>rfl) (λj x hj=>hxs x (Qax hj)) (λj x t v hj ht =>?_) (λj x t v hj ht=>e2.2.1 _ _ (zr8 _ hxs j t x v hj ht)) (λj x t v hj ht =>?_);obtain⟨l,i,o,ho,hb⟩:=hn;have:=hG.lt l i o ho;omega
     have:=zr8 _ hxs j t x v hj ht;have hlt:=(Qaa.1 this).1;rw[Nat.zero_add];rw[World.cell?_alloc_new];rw[Qas (by rw[e2.1];exact hlt)];simp[Qae,Qas (show j * P.cellsOf e+t<rs.size by rw[e2.1];exact hlt)];exact(e2.2.2 _ _ (zr8 _ hxs j t x v hj ht)).mono hgr
   cases h
  cases h
 cases h
end
section
variable {W : World} {g : Gh} {H : Heap} {P : Program}
theorem y0v(z)(n j t sz)(hz:z.size=sz)(ht:t<sz)(hj:j<n):(madeCells z (n * sz)).getD (j * sz+t) undef=z.getD t undef:=by
 have hlt:j * sz+t<n * sz:=by
  have:(j+1) * sz<=n * sz:=Qau _ hj
  grind
 simp_all[Nat.mod_eq_of_lt,madeCells]
def zj2(P:Program)(t:Nat)(n c:V):Option V :=
 match n,c with
 |.int _ (.ofNat n),.int _ (.ofNat c)=>match P.underlying t with
  |some (.slice e)=>match P.info? e,zeroV P e with
   |some i,some z=>match z.kzh&&Nat.beq z.cells.length i.size&&Nat.blt 0 i.size&&Nat.ble n c&&Nat.ble c 1000000&&Nat.ble i.bytes 100000 with
    |true=>some (.sl i.size (List.replicate n z) (Nat.beq n c))
    |false=>none
   |_,_=>none
  |_=>none
 |_,_=>none
theorem yo5(hG:Good W g H){t:Nat}{n c v:V}{cn cc:Value}(h:zj2 P t n c=some v)(hn:Rel W g H n cn)(hcc:Rel W g H c cc):Yields P W g H (Instr.makeSlice t cn cc) v:=by
 unfold zj2 at h;split at h;rename_i k1 n k2 c;split at h;rename_i e ht;split at h;rename_i i z hi hz;split at h;rename_i hc;simp only[Qag]at hc;obtain⟨⟨⟨⟨⟨c1,c2⟩,c3⟩,c4⟩,c5⟩,c6⟩:=hc;have c2:=Qaj c2;rw[Nat.blt_eq]at c3;have c4:=Nat.le_of_ble_eq_true c4;have c5:=Nat.le_of_ble_eq_true c5;have c6:=Nat.le_of_ble_eq_true c6;injection h with h;subst h;cases hn;cases hcc
 obtain⟨zc,hz1,hz2⟩:∃zc,i.zero=some zc∧Rel W g H z zc:=by
  simp only[zeroV,hi,Option.bind_some,Qaf]at hz;obtain⟨zc,q1,rfl⟩:=hz;exact⟨zc,q1,zor zc⟩
 obtain⟨r1,r2,r3⟩:=zfd c1 hz2;have hb:i.bytes * c<=100000 * 1000000:=Nat.mul_le_mul c6 c5;have hrun:=run_make (P:=P) W t e i zc ht hi hz1 k1 k2 (Int.ofNat n) (Int.ofNat c) (Int.natCast_nonneg n) (by show((n:Nat):Int)<=(c:Nat);omega) (by show((i.bytes:Nat):Int) * ((c:Nat):Int)<=_;rw[<-Int.natCast_mul];omega) (by show((c:Nat):Int)<=_;omega);simp only[Int.toNat,Int.ofNat_eq_natCast]at hrun
 have hgr:=Grow.alloc W (.cells (madeCells zc.cells (c * i.size)) e);refine⟨.slice (some ⟨W.heap.size,0,none⟩) n c,_,by rw[show Int.ofNat n=((n:Nat):Int)from rfl,show Int.ofNat c=((c:Nat):Int)from rfl,hrun],hgr,?_⟩
 have at':∀(j:Nat) (x:V) (tt:Nat) (u:V),(List.replicate n z)[j]? = some x->x.cells[tt]? = some u->x=z∧j<n∧tt<i.size:=λj x tt u hj hu=>by
  rw[Qbi]at hj;split at hj;rename_i hjn;injection hj with hj;subst hj;exact⟨rfl,hjn,by rw[<-c2];exact(Qaa.1 hu).1⟩;cases hj
 have hr:=Rel.sl (W:=W.alloc (.cells (madeCells zc.cells (c * i.size)) e)) (g:=g) (H:=H) i.size (List.replicate n z) (Nat.beq n c) W.heap.size 0 c (λj tt=>zc.cells.getD tt undef) (λhn=>by
  obtain⟨l,k,o,ho,hb⟩:=hn;have:=hG.lt l k o ho
  omega) c3 (by simpa using c4) (λhf=>by rw[List.length_replicate];exact(Qaj hf).symm) (λj x hj=>by
  rw[Qbi]at hj;split at hj;injection hj with hj;subst hj;exact c2
  cases hj) (λj x tt u hj hu=>by
  obtain⟨rfl,hjn,htl⟩:=at' j x tt u hj hu;rw[Nat.zero_add,World.cell?_alloc_new]
  have hlt:j * i.size+tt<c * i.size:=by
   have:(j+1) * i.size<=c * i.size:=Qau _ (by omega);rw[Nat.succ_mul]at this;omega
  have hm:=y0v zc.cells c j tt i.size (by rw[r1,c2]) htl (by omega);rw[Qae,Qas (by rw[size_madeCells];exact hlt)]at hm;rw[Qas (by rw[size_madeCells];exact hlt)]
  simpa using hm) (λj x tt u hj hu=>by
  obtain⟨rfl,hjn,htl⟩:=at' j x tt u hj hu
  exact r2 tt u hu) (λj x tt u hj hu=>by
  obtain⟨rfl,hjn,htl⟩:=at' j x tt u hj hu
  exact(r3 tt u hu).mono hgr.step)
 rw[List.length_replicate]at hr;exact hr;cases h;cases h;cases h;cases h
end
section
variable {W : World} {g : Gh} {H : Heap} {P : Program}
def zda(P:Program)(H:Heap)(ρ:Operand->V)(c:Call):Option V :=
 match c.callee with
 |.builtin .len=>match c.args.toList,c.argTypes.toList with
  |[x],[t]=>zqd P H t (ρ x)
  |_,_=>none
 |.builtin .min=>zu2 false (c.args.toList.map ρ)
 |.builtin .max=>zu2 true (c.args.toList.map ρ)
 |_=>none
def pv(P:Program)(H:Heap)(ρ:Operand->V):Op->Option V
 |.move x=>some (ρ x)
 |.assign x=>some (ρ x)
 |.pick c a b=>match ρ c with
  |.bool t=>some (if t then ρ a else ρ b)
  |_=>none
 |.load t a=>zco P H t (ρ a)
 |.nilCheck x=>y64 (ρ x)
 |.binOp op t x y _=>y7e P op t (ρ x) (ρ y)
 |.unOp op _ x=>pUn op (ρ x)
 |.convert s d x=>zww P s d (ρ x)
 |.makeInterface t x=>zic P t (ρ x)
 |.makeFunc (.func f) first caps=>some (.fn f (first.toList.map ρ) (caps.toList.map ρ))
 |.slice t x lo hi mx=>zhz P H t (ρ x) (lo.map ρ) (hi.map ρ) (mx.map ρ)
 |.fieldAddr s x f=>zbi P s f (ρ x)
 |.field s x f=>ybk P s f (ρ x)
 |.indexAddr t x i=>yzo P H t (ρ x) (ρ i)
 |.index t x i=>y76 P t (ρ x) (ρ i)
 |.lookup t x k ok=>zu5 P H t (ρ x) (ρ k) ok
 |.typeAssert x _ u ok=>zk3 P (ρ x) u ok
 |.extract x i=>y4y i (ρ x)
 |.build t ps=>ybq P t (partsOf ρ ps)
 |.buildSlice t len ps=>zcp P t len (partsOf ρ ps)
 |.makeSlice t n c=>zj2 P t (ρ n) (ρ c)
 |.call c=>zda P H ρ c
 |_=>none
def y37(P:Program)(W:World)(g:Gh)(H:Heap)(s:Sem Next)(v:V):Prop:=∃c W',s.run P W = .ok (.value c) W'∧Grow W W'∧Rel W' g H v c
theorem Yields.op{s v}(h:Yields P W g H s v):y37 P W g H (do pure (.value (<-s))) v:=by
 obtain⟨c,W',h1,h2,h3⟩:=h;exact⟨c,W',by simp[h1],h2,h3⟩
theorem zly{ρ}{r:Operand->Value}(hρ:∀x,Rel W g H (ρ x) (r x))(ps) :
  (ps.map λp=>(p.1,r p.2)).size=(partsOf ρ ps).length∧∀(j i:Nat) (x),(partsOf ρ ps)[j]? = some (i,x)->∃c,(ps.map λp=>(p.1,r p.2))[j]? = some (i,c)∧Rel W g H x c:=by
 grind[partsOf,Qaf]
theorem zx0{ρ r}(hρ:∀x,Rel W g H (ρ x) (r x))(xs:Array Operand):zk0 W g H (xs.toList.map ρ) (xs.map r):=by
 refine⟨by simp,λj v hj =>?_⟩;simp[Array.getElem?_toList]at hj;obtain⟨x,hx,rfl⟩:=hj
 simp_all
theorem z05{α:Type}{a}{l:List α}(h:a.toList=l):a=l.toArray:=by rw[<-h]
theorem y45{ρ:Operand->V}{r:Operand->Value}{o:Oper}{v:V}(hG:Good W g H)(hρ:∀x,Rel W g H (ρ x) (r x))(h:pv P H ρ o.op=some v):y37 P W g H (execOp r o) v:=by
 unfold pv at h;unfold execOp;split at h
 rename_i x heq;rw[heq];injection h with h;subst h;exact⟨r x,W,rfl,.refl W,hρ x⟩
 rename_i x heq;rw[heq];injection h with h;subst h;exact⟨r x,W,rfl,.refl W,hρ x⟩
 rename_i c a b heq;rw[heq];split at h;rename_i t hc;injection h with h;subst h;have h1:=hρ c;rw[hc]at h1;generalize hrc:r c=rc at h1;cases h1;cases t;exact⟨r b,W,by simp[asBool,hrc],.refl W,hρ b⟩;exact⟨r a,W,by simp[asBool,hrc],.refl W,hρ a⟩;cases h;rename_i t a heq;rw[heq];exact(ytb hG h (hρ a)).op
 ·rename_i x heq;rw[heq];have h1:=hρ x;generalize hv:ρ x=u at h h1;generalize hc:r x=c at h1;cases u <;> simp only[y64,Qbn,reduceCtorEq]at h
  all_goals
   subst h;refine⟨c,W,?_,.refl W,h1⟩;cases h1;simp only[hc];rfl
 rename_i op t x y ty heq;rw[heq];exact(yy7 x y h (hρ x) (hρ y)).op;rename_i op t x heq;rw[heq];exact(z02q h (hρ x)).op;rename_i s d x heq;rw[heq];exact(yi6 h (hρ x)).op;rename_i t x heq;rw[heq];exact(zyl h (hρ x)).op
 rename_i f first caps heq;rw[heq];injection h with h;subst h
 have h1:=zx0 hρ first;have h2:=zx0 hρ caps;exact⟨.func (.func f) (first.map r) (caps.map r),W,by simp[Instr.makeFunc],.refl W,.fn _ _ _ _ _ h1.1 h2.1 h1.2 h2.2⟩;rename_i t x lo hi mx heq;rw[heq];exact(yq1 hG h (hρ x) (yam hρ lo) (yam hρ hi) (yam hρ mx)).op;rename_i s x f heq;rw[heq];exact(y9r h (hρ x)).op;rename_i s x f heq;rw[heq];exact(yp4 h (hρ x)).op
 rename_i t x i heq;rw[heq];exact(ya0 h (hρ x) (hρ i)).op;rename_i t x i heq;rw[heq];exact(you h (hρ x) (hρ i)).op;rename_i t x k ok heq;rw[heq];exact(ym6 hG h (hρ x) (hρ k)).op;rename_i x t u ok heq;rw[heq];exact(y6z h (hρ x)).op;rename_i x i heq;rw[heq];exact(yfq h (hρ x)).op;rename_i t ps heq;rw[heq];exact(yq6 h (zly hρ ps).1 (zly hρ ps).2).op
 rename_i t len ps heq;rw[heq];exact(y60 hG h (zly hρ ps).1 (zly hρ ps).2).op;rename_i t n c heq;rw[heq];exact(yo5 hG h (hρ n) (hρ c)).op;rename_i c heq;rw[heq];unfold zda at h;have hargs:=zx0 hρ c.args;obtain⟨callee,args,argTypes⟩:=c;simp only at h hargs ⊢;split at h;split at h;rename_i x t ha ht;obtain rfl:=z05 ha;obtain rfl:=z05 ht;obtain⟨c,W',h1,h2,h3⟩:=yyb (ty:=o.type) hG h (hρ x);refine⟨c,W',?_,h2,h3⟩
 simp[resolve,invoke,builtin,h1];cases h;obtain⟨c,W',h1,h2,h3⟩:=yxe (P:=P) (t:=argTypes) (ty:=o.type) h hargs.1 hargs.2;exact⟨c,W',by simp[resolve,invoke,builtin,h1],h2,h3⟩;obtain⟨c,W',h1,h2,h3⟩:=ywl (P:=P) (t:=argTypes) (ty:=o.type) h hargs.1 hargs.2;exact⟨c,W',by simp[resolve,invoke,builtin,h1],h2,h3⟩;cases h;cases h
end
section
variable {W : World} {g : Gh} {H : Heap} {P : Program}
def Heap.push(H:Heap)(o:kzg):Heap:={H with L:=H.L++[some o]}
def Heap.set(H:Heap)(l i:Nat)(o:kzg):Heap:=if l=H.lv then {H with L:=H.L.set i (some o)}else {H with E:=λl' i'=>if l'=l∧i'=i then some o else H.E l' i'}
theorem Heap.zi6(o)(l i):(H.push o).get l i=if l=H.lv∧i=H.L.length then some o else H.get l i:=by
 unfold Heap.get Heap.push;by_cases hl:l=H.lv;by_cases hi:i=H.L.length;simp[hl,hi];simp[hl,if_false];by_cases h2:i<H.L.length
 grind
 grind
 simp[hl]
theorem Heap.yl1(o)(l i):(H.set l i o).lv=H.lv:=by unfold Heap.set;split <;> rfl
theorem Heap.yaq(o)(l i):(H.set l i o).L.length=H.L.length:=by unfold Heap.set;split <;> simp
theorem Heap.zy8{o o' l i}(h:H.get l i=some o)(l' i'):(H.set l i o').get l' i'=if l'=l∧i'=i then some o' else H.get l' i':=by
 unfold Heap.set;by_cases hl:l=H.lv
 have hlt:i<H.L.length:=by
  unfold Heap.get at h;rw[Qbq hl]at h
  grind
 rw[Qbq hl];subst hl;unfold Heap.get;dsimp only;by_cases h1:l'=H.lv;subst h1;simp[true_and];rw[Qbd];by_cases h2:i=i';subst h2;simp[hlt]
 grind
 simp[h1];rw[Qbr hl];unfold Heap.get;by_cases h1:l'=H.lv;subst h1;simp[if_true]
 grind
 simp[h1]
def Gh.add(g:Gh)(l i b c:Nat):Gh where
 dom l' i':=g.dom l' i'∨(l'=l∧i'=i)
 blk l' i':=if l'=l∧i'=i then b else g.blk l' i'
 ab l' i':=if l'=l∧i'=i then b else g.ab l' i'
 cap l' i':=if l'=l∧i'=i then c else g.cap l' i'
 base:=g.base
theorem kzg.zxx{o:kzg}{l i l' i' b c}(h:¬(l'=l∧i'=i)):o.blk (g.add l i b c) l' i'=o.blk g l' i':=by
 cases o <;> simp[kzg.blk,Gh.add,h]
theorem kzg.zle{o:kzg}{l i b c}:o.blk (g.add l i b c) l i=b:=by
 cases o <;> simp[kzg.blk,Gh.add]
def z8c(P:Program)(W:World)(g:Gh)(H:Heap)(s:Sem Next)(v:V)(H':Heap):Prop :=
 ∃c W' g',(s.run P W = .ok (.value c) W'∨(s.run P W = .ok .skip W'∧c=undef))∧Step W g H W' g' H'∧Good W' g' H'∧Rel W' g' H' v c
theorem y37.turns{s v}(hG:Good W g H)(h:y37 P W g H s v):z8c P W g H s v H:=by
 obtain⟨c,W',h1,h2,h3⟩:=h;exact⟨c,W',g,.inl h1,h2.step,hG.grow h2,h3⟩
theorem zh2(hG:Good W g H){O o}(c)
  (ho:∀(W':World) (g':Gh) (H':Heap),W'=W.alloc O->g'=g.add H.lv H.L.length W.heap.size c->H'=H.push o->Step W g H W' g' H'->zev W' g' H' H.lv H.L.length o) :
  Step W g H (W.alloc O) (g.add H.lv H.L.length W.heap.size c) (H.push o)∧Good (W.alloc O) (g.add H.lv H.L.length W.heap.size c) (H.push o):=by
 have hnew:¬g.dom H.lv H.L.length:=λh=>by rcases hG.fresh _ _ h with h|⟨_,h⟩ <;> omega
 have hne:∀l i,g.dom l i->¬(l=H.lv∧i=H.L.length):=λl i h q=>hnew (by grind)
 have hgr:=Grow.alloc W O
 have hstep:Step W g H (W.alloc O) (g.add H.lv H.L.length W.heap.size c) (H.push o):=by
  refine⟨rfl,rfl,rfl,hgr.size,λb hb _=>hgr.block b hb,λb hb =>?_,λl i h=>.inl h,λl i h=>h.elim .inl (λq=>.inr q.1),λl i h=>by simp[Gh.add,hne l i h],λl i ver ty sz xs cp hd hg =>?_,rfl,rfl⟩;obtain⟨l,i,q,hq,hqb⟩:=hb;rw[Heap.zi6]at hq;split at hq;rename_i hk;cases hq;obtain⟨rfl,rfl⟩:=hk;rw[kzg.zle]at hqb;right;omega;rename_i hk;rw[kzg.zxx hk]at hqb;exact .inl ⟨l,i,q,hq,hqb⟩;rw[Heap.zi6,Qbr (hne l i hd)]at hg
  exact⟨ver,xs,cp,hg,Qbp _,λ_=>⟨by simp[Gh.add,hne l i hd],by simp[Gh.add,hne l i hd],Qbp _⟩⟩
 refine⟨hstep,?_,?_,?_,?_,?_,hG.zns.step hstep,Qbf hG.base hstep.size⟩;intro l i q hq;rw[Heap.zi6]at hq;split at hq;rename_i hk;exact .inr hk;exact .inl (hG.dom l i q hq);intro l i q hq;rw[Heap.zi6]at hq;split at hq;rename_i hk;obtain⟨rfl,rfl⟩:=hk;rw[kzg.zle];simp;rename_i hk;rw[kzg.zxx hk];exact Qbe (hG.lt l i q hq) hgr.size;intro l i q l' i' q' hq hq' hb;rw[Heap.zi6]at hq hq';split at hq
 rename_i hk;obtain⟨rfl,rfl⟩:=hk;split at hq';omega;rename_i hk';rw[kzg.zle,kzg.zxx hk']at hb;have:=hG.lt _ _ _ hq';omega;rename_i hk;split at hq';rename_i hk';obtain⟨rfl,rfl⟩:=hk';rw[kzg.zxx hk,kzg.zle]at hb;have:=hG.lt _ _ _ hq;omega;rename_i hk';rw[kzg.zxx hk,kzg.zxx hk']at hb;exact hG.inj _ _ _ _ _ _ hq hq' hb;intro l i h;show l<H.lv∨(l=H.lv∧i<(H.L++[some o]).length)
 rcases h with h|⟨h1,h2⟩
 rcases hG.fresh l i h with q|⟨q1,q2⟩
 exact .inl q
 grind
 grind
 intro l i q hq;rw[Heap.zi6]at hq;split at hq;rename_i hk;obtain⟨rfl,rfl⟩:=hk;injection hq with hq;grind;rename_i hk;have h1:=hG.obj l i q hq;exact h1.mono hstep (hgr.block _ (hG.lt l i q hq)) (by simp[Gh.add,hk]) (by simp[Gh.add,hk]) (by simp[Gh.add,hk])
theorem zei(hG:Good W g H){l i o o'}(ho:H.get l i=some o)(hb:o'.blk g l i=o.blk g l i){W'}
  (hos:W'.os=W.os) (htape:W'.tape=W.tape) (hout:W'.output=W.output) (hsize:W.heap.size<=W'.heap.size) (hblock:∀b,b<W.heap.size->b≠o.blk g l i->W'.heap[b]? = W.heap[b]?)
  (harr:∀ver ty sz xs cp,o' = .arr ver ty sz xs cp->∃v ys cp',o = .arr v ty sz ys cp'∧v<=ver∧(v=ver->ys.length<=xs.length))
  (hrel:Step W g H W' g (H.set l i o')->zev W' g (H.set l i o') l i o') :
  Step W g H W' g (H.set l i o')∧Good W' g (H.set l i o'):=by
 have hget:=Heap.zy8 (o':=o') ho
 have hstep:Step W g H W' g (H.set l i o'):=by
  refine⟨hos,htape,hout,hsize,λb h1 h2=>hblock b h1 (λq=>h2 ⟨l,i,o,ho,q.symm⟩),λb hb' =>?_,λ_ _ h=>h,λ_ _ h=>.inl h,λ_ _ _=>rfl,λl' i' ver ty sz xs cp hd hg =>?_,Heap.yl1 _ _ _,rfl⟩;obtain⟨l',i',q,hq,hqb⟩:=hb';rw[hget]at hq;split at hq;rename_i hk;obtain⟨rfl,rfl⟩:=hk;cases hq;exact .inl ⟨l',i',o,ho,by omega⟩;exact .inl ⟨l',i',q,hq,hqb⟩;rw[hget]at hg;split at hg;rename_i hk;obtain⟨rfl,rfl⟩:=hk
  injection hg with hg;obtain⟨v,ys,cp',rfl,hle,hl⟩:=harr _ _ _ _ _ hg;exact⟨v,ys,cp',ho,hle,λe=>⟨rfl,rfl,hl e⟩⟩;exact⟨ver,xs,cp,hg,Qbp _,λ_=>⟨rfl,rfl,Qbp _⟩⟩
 refine⟨hstep,?_,?_,?_,?_,?_,hG.zns.step hstep,Qbf hG.base hstep.size⟩;intro l' i' q hq;rw[hget]at hq;split at hq;rename_i hk;obtain⟨rfl,rfl⟩:=hk;exact hG.dom _ _ _ ho;exact hG.dom _ _ _ hq;intro l' i' q hq;rw[hget]at hq;split at hq;rename_i hk;obtain⟨rfl,rfl⟩:=hk;cases hq;rw[hb];exact Qbe (hG.lt _ _ _ ho) hsize;exact Qbe (hG.lt _ _ _ hq) hsize
 intro l1 i1 q1 l2 i2 q2 h1 h2 h3;rw[hget]at h1 h2;split at h1;rename_i hk;obtain⟨rfl,rfl⟩:=hk;cases h1;rw[hb]at h3;split at h2;omega;exact hG.inj _ _ _ _ _ _ ho h2 h3;split at h2;rename_i hk';obtain⟨rfl,rfl⟩:=hk';cases h2;rw[hb]at h3;exact hG.inj _ _ _ _ _ _ h1 ho h3;exact hG.inj _ _ _ _ _ _ h1 h2 h3;intro l' i' h;rw[Heap.yl1,Heap.yaq];exact hG.fresh l' i' h;intro l' i' q hq;rw[hget]at hq;split at hq
 rename_i hk;obtain⟨rfl,rfl⟩:=hk
 grind
 rename_i hk;refine(hG.obj l' i' q hq).mono hstep (hblock _ (hG.lt _ _ _ hq) λe =>?_) rfl rfl rfl;exact hk (hG.inj _ _ _ _ _ _ hq ho e)
theorem ybp{W' g' H' l i cs c ty}(h:W'.heap[g'.blk l i]? = some (.cells c ty (0,0)))(hr:zwa W' g' H' cs c):zev W' g' H' l i (.cells cs) :=
 ⟨c,ty,h,hr.1,hr.2.1,hr.2.2⟩
theorem zwa.mono{vs cs}(h:zwa W g H vs cs){W' g' H'}(s:Step W g H W' g' H'):zwa W' g' H' vs cs:=⟨h.1,h.2.1,λj v hj=>(h.2.2 j v hj).mono s⟩
theorem z2p(W:World)(O):(W.alloc O).heap[W.heap.size]? = some O:=by
 show(W.heap.push O)[W.heap.size]? = _;simp
theorem y4t(hG:Good W g H){t:Nat}{cs}{c:Value}{s}(hr:zwa W g H cs c.cells)
  (hs:s.run P W = .ok (.value (.pointer (some ⟨W.heap.size,0,none⟩))) (W.alloc (.cells c.cells t))):z8c P W g H s (.ptr H.lv H.L.length 0) (H.push (.cells cs)):=by
 obtain⟨h1,h2⟩:=zh2 hG (O:=.cells c.cells t) (o:=.cells cs) 0 (λW' g' H' hW hg hH hst=>by
  refine ybp (c:=c.cells) (ty:=t) ?_ (hr.mono hst);rw[hW,hg];simp only[Gh.add,if_true]
  exact z2p _ _)
 refine⟨_,_,_,.inl hs,h1,h2,?_⟩;have:=Rel.ptr (W:=W.alloc (.cells c.cells t)) (g:=g.add H.lv H.L.length W.heap.size 0) (H:=H.push (.cells cs)) H.lv H.L.length 0 (.inr ⟨rfl,rfl⟩);simpa[Gh.add]using this
def ye0(P:Program)(H:Heap)(t:Nat):Option (V×Heap) :=
 match zeroV P t with
 |some z=>if z.kzh then some (.ptr H.lv H.L.length 0,H.push (.cells z.cells))else none
 |none=>none
theorem yoc(hG:Good W g H){t v H'}(h:ye0 P H t=some (v,H')):z8c P W g H (do pure (.value (<-Instr.alloc t true (.tuple #[])))) v H':=by
 unfold ye0 at h;split at h;rename_i z hz;split at h;rename_i hs;injection h with h;cases h;obtain⟨zc,hz1,hz2⟩:=zsn (W:=W) (g:=g) (H:=H) hz;exact y4t hG (t:=t) (c:=zc) (zfd hs hz2) (by simp[Instr.alloc,hz1,newVar,newRow]);cases h;cases h
def hBox(H:Heap)(x:V):Option (V×Heap):=if x.kzh then some (.ptr H.lv H.L.length 0,H.push (.cells x.cells))else none
theorem yx9(hG:Good W g H){t:Nat}{x v c H'}(h:hBox H x=some (v,H'))(hx:Rel W g H x c):z8c P W g H (do pure (.value (<-Instr.box t c))) v H':=by
 unfold hBox at h;split at h;rename_i hs;injection h with h;cases h;exact y4t hG (t:=t) (c:=c) (zfd hs hx) (by simp[Instr.box,newVar,newRow]);cases h
theorem zp2(W:World)(b)(cs):(W.setRow b cs).os=W.os∧(W.setRow b cs).tape=W.tape∧(W.setRow b cs).output=W.output∧W.heap.size<=(W.setRow b cs).heap.size:=⟨rfl,rfl,rfl,by simp[World.setRow]⟩
theorem zmq(cur)(o)(vs)(h:o+vs.size<=cur.size):(cur.toList.take o++vs.toList++cur.toList.drop (o+vs.toList.length)).toArray=putCells cur o vs:=by
 obtain⟨h1,h2⟩:=zht cur o vs;apply Array.ext_getElem?;intro i;rw[h2 i];simp only[List.getElem?_toArray];by_cases a:i<o;rw[Qbr (by omega),Qay,Qal (by simp;omega),Qaw,Qbq a,Array.getElem?_toList];by_cases b:i<o+vs.size
 rw[Qbq ⟨by omega,b,by omega⟩,Qay,Qav (by simp;omega),Qal (by simp;omega),Array.getElem?_toList]
 congr 1;simp;omega
 rw[Qbr (by omega),Qav (by simp;omega),Qbb,Array.getElem?_toList]
 congr 1;simp;omega
def zcc(x:V)(cs:List V):V:=match x with
 |.agg _=>.agg cs
 |x=>cs.headD x
def fits(y:V)(cs:List V):Bool:=match y with| .agg _=>true|_=>match cs with|[c]=>c.leaf|_=>false
theorem yup{x cs}(h:fits x cs=true):(zcc x cs).cells=cs:=by
 cases x <;> first
  |rfl
  |(match cs,h with
    |[],h=>simp[fits]at h
    |[c],h=>cases c <;> first|rfl|(simp[fits,V.leaf]at h;done)
    |_::_::_,h=>simp[fits]at h)
def zey(P:Program)(H:Heap)(t:Nat)(a x:V):Option (V×Heap) :=
 if x.kzh&&(P.info? t).isSome&&x.cells.length==P.cellsOf t then
  match a with
  |.ptr l i off=>match H.get l i with
   |some (.cells cs)=>if off+x.cells.length<=cs.length then some (.any,H.set l i (.cells (kzt cs off x.cells)))else none
   |_=>none
  |.ap l i ver idx off=>match H.get l i with
   |some (.arr ver' ty sz xs cp)=>if ver'=ver then match xs[idx]? with
    |some y=>if off+x.cells.length<=y.cells.length∧fits y (kzt y.cells off x.cells)=true then
      some (.any,H.set l i (.arr ver ty sz (xs.set idx (zcc y (kzt y.cells off x.cells))) cp))else none
    |none=>none else none
   |_=>none
  |_=>none
 else none
theorem y7y{t:Nat}{b o cur ty c}(hi:(P.info? t).isSome=true)(hc:c.cells.size=P.cellsOf t)(h1:∀v∈c.cells.toList,v.oneCell'=true)(hb:W.heap[b]? = some (.cells cur ty (0,0)))(hle:o+c.cells.size<=cur.size) :
  (Instr.storeAt t (.pointer (some ⟨b,o,none⟩)) c).run P W = .ok () (W.setRow b (putCells cur o c.cells)):=by
 obtain⟨i,hi⟩:=Option.isSome_iff_exists.1 hi;have hsz:(sizeOf t).run P W = .ok (P.cellsOf t) W:=by simp[sizeOf,typeInfo,hi,Program.cellsOf]
 have:=run_storeCells_at P b o ty c.cells.toList 0 cur W hb (by simpa using hle) h1;simp only[Nat.add_zero]at this;rw[zmq cur o c.cells hle]at this
 simp_all[Instr.storeAt,Instr.sureAddr,storeVar]
theorem zwa.one{vs cs}(h:zwa W g H vs cs):∀v∈cs.toList,v.oneCell'=true:=λv hv=>by
 obtain⟨j,hj,rfl⟩:=List.getElem_of_mem hv;have hj':=by simpa using hj
 have:=h.2.1 j (vs[j]'(by rw[<-h.1];exact hj')) (Qab _)
 simp_all
theorem yo8(hG:Good W g H){t a x v ca c H'}(h:zey P H t a x=some (v,H'))(ha:Rel W g H a ca)(hx:Rel W g H x c):z8c P W g H (do Instr.storeAt t ca c;pure .skip) v H':=by
 unfold zey at h;split at h;rename_i hc;simp[beq_iff_eq]at hc;obtain⟨⟨hs,hi⟩,hn⟩:=hc;have hrc:=zfd hs hx;split at h;rename_i l i off;split at h;rename_i cs hg;split at h;rename_i hle;injection h with h;cases h
 cases ha with
 |ptr _ _ _ hd=>
  obtain⟨cur,ty,k1,k2,k3,k4⟩:=hG.obj _ _ _ hg;have hrun:=y7y (P:=P) (t:=t) (o:=off) hi (by rw[hrc.1,hn]) hrc.one k1 (by rw[hrc.1,k2];exact hle);obtain⟨s1,s2,s3,s4⟩:=zp2 W (g.blk l i) (putCells cur off c.cells)
  obtain⟨q1,q2⟩:=zei hG (o':=.cells (kzt cs off x.cells)) hg rfl s1 s2 s3 s4 (λb _ hb=>setRow_other W _ b _ hb) (λ_ _ _ _ _ h=>by cases h) (λhst=>by
   refine ybp (setRow_heap W _ cur _ ty _ k1) ?_
   exact(y83 ⟨k2,k3,k4⟩ hrc hle).mono hst)
  exact⟨undef,_,g,.inr ⟨by simp[hrun],rfl⟩,q1,q2,.any _⟩
 cases h;cases h;rename_i l i ver idx off;split at h;rename_i ver' ty sz xs cp hg;split at h;rename_i hv;subst hv;split at h;rename_i y hy;split at h;rename_i hcond;obtain⟨hle,hform⟩:=hcond;injection h with h;cases h
 cases ha with
 |ap _ _ _ _ _ ad hd hv had=>
  obtain rfl:=had _ _ _ _ hg;obtain⟨cur,k1,k2,k3,k3',k4,k5,k6,k7,k8⟩:=hG.obj _ _ _ hg;have hylen:=k6 _ _ hy;have hidx:=(Qaa.1 hy).1
  have hroom:idx * sz+sz<=cur.size:=by
   rw[k3]
   calc idx * sz+sz=(idx+1) * sz:=by rw[Nat.succ_mul]
    _<=_:=Qau _ (by omega)
  have hrun:=y7y (P:=P) (t:=t) (o:=idx * sz+off) hi (by rw[hrc.1,hn]) hrc.one k1 (by rw[hrc.1];omega);obtain⟨s1,s2,s3,s4⟩:=zp2 W (g.ab l i) (putCells cur (idx * sz+off) c.cells);obtain⟨p1,p2⟩:=zht cur (idx * sz+off) c.cells;have hwc:=yup hform
  obtain⟨q1,q2⟩:=zei hG (o':=.arr ver' ty sz (xs.set idx (zcc y (kzt y.cells off x.cells))) cp) hg rfl s1 s2 s3 s4 (λb _ hb=>setRow_other W _ b _ hb)
   (λ_ _ _ _ _ h=>by cases h;grind) (λhst=>by
   have key:∀(j:Nat) (z:V) (tt:Nat) (u:V),(xs.set idx (zcc y (kzt y.cells off x.cells)))[j]? = some z->z.cells[tt]? = some u ->
     ((putCells cur (idx * sz+off) c.cells).getD (j * sz+tt) undef).oneCell'=true∧Rel W g H u ((putCells cur (idx * sz+off) c.cells).getD (j * sz+tt) undef):=λj z tt u hj ht=>by
    rw[Qae,p2];rw[Qbd]at hj;split at hj;rename_i hji;subst hji
    try rw[Qbq hidx]at hj
    cases hj;rw[hwc]at ht
    rcases ydm hle ht with ⟨a1,a2⟩|⟨a1,a2,a3⟩|⟨a1,a2⟩
    rw[Qbr (by omega),<-Qae];exact⟨k7 _ _ _ _ hy a2,k8 _ _ _ _ hy a2⟩;rw[Qbq ⟨by omega,by rw[hrc.1];omega,by omega⟩,show idx * sz+tt-(idx * sz+off)=tt-off by omega,<-Qae];exact⟨hrc.2.1 _ _ a3,hrc.2.2 _ _ a3⟩;rw[Qbr (by rw[hrc.1];omega),<-Qae];exact⟨k7 _ _ _ _ hy a2,k8 _ _ _ _ hy a2⟩;rename_i hji;have hzl:=k6 _ _ hj
    have htl:=(Qaa.1 ht).1
    have hout:¬(idx * sz+off<=j * sz+tt∧j * sz+tt<idx * sz+off+c.cells.size∧j * sz+tt<cur.size):=by
     rw[hrc.1];intro hh
     rcases Nat.lt_or_ge j idx with q|q
     have:(j+1) * sz<=idx * sz:=Qau _ q
     grind
     have:(idx+1) * sz<=j * sz:=Qau _ (by omega);rw[Nat.succ_mul]at this;omega
    rw[Qbr hout,<-Qae];exact⟨k7 _ _ _ _ hj ht,k8 _ _ _ _ hj ht⟩
   refine⟨_,setRow_heap W _ cur _ ty _ k1,k2,by rw[p1];exact k3,k3',by simpa using k4,k5,λj z hj =>?_,λj z tt u hj ht=>(key j z tt u hj ht).1,λj z tt u hj ht=>(key j z tt u hj ht).2.mono hst⟩;rw[Qbd]at hj;split at hj;rename_i hji;subst hji
   try rw[Qbq hidx]at hj
   grind[zq4]
   exact k6 _ _ hj)
  exact⟨undef,_,g,.inr ⟨by simp[hrun],rfl⟩,q1,q2,.any _⟩
 cases h;cases h;cases h;cases h;cases h;cases h
end
section
variable {W : World} {g : Gh} {H : Heap} {P : Program}
def zxk(P:Program)(H:Heap)(t:Nat)(r:Option V):Option (V×Heap) :=
 match r with
 |none=>some (.map H.lv H.L.length,H.push (.map []))
 |some (.int _ _)=>match P.underlying t with
  |some (.map _ _)=>some (.map H.lv H.L.length,H.push (.map []))
  |_=>none
 |_=>none
theorem y32(hG:Good W g H){s}(hs:s.run P W = .ok (.value (.map (some W.heap.size))) (W.alloc (.map #[] 0))):z8c P W g H s (.map H.lv H.L.length) (H.push (.map [])):=by
 obtain⟨h1,h2⟩:=zh2 hG (O:=.map #[] 0) (o:=.map []) 0 (λW' g' H' hW hg hH hst=>by
  refine⟨#[],0,?_,rfl,by simp,by simp,by simp⟩;rw[hW,hg];simp only[Gh.add,if_true]
  exact z2p _ _)
 refine⟨_,_,_,.inl hs,h1,h2,?_⟩;have:=Rel.map (W:=W.alloc (.map #[] 0)) (g:=g.add H.lv H.L.length W.heap.size 0) (H:=H.push (.map [])) H.lv H.L.length (.inr ⟨rfl,rfl⟩);simpa[Gh.add]using this
theorem yhn(hG:Good W g H){t r cr v H'}(h:zxk P H t r=some (v,H'))(hr:zev? W g H r cr):z8c P W g H (do pure (.value (<-Instr.makeMap t cr))) v H':=by
 unfold zxk at h;split at h;injection h with h;cases h;cases hr
 simp_all[y32,Instr.makeMap]
 split at h;rename_i hu;injection h with h;cases h
 cases hr with
 |some hr=>
  cases hr
  simp_all[y32,Instr.makeMap,yz3,asInt,asIntOf]
 cases h;cases h
def y1c(es:List (V×V))(k x:V):Option (Nat×V)->List (V×V)
 |none=>es++[(k,x)]
 |some (j,_)=>es.set j (k,x)
def zgy(P:Program)(H:Heap)(t:Nat)(m k x:V):Option (V×Heap) :=
 match P.underlying t with
 |some (.map kt _)=>match m with
  |.map l i=>match H.get l i with
   |some (.map es)=>match zxy P kt k with
    |some d=>match y8e d k es 0 with
     |some r=>some (.any,H.set l i (.map (y1c es k x r)))
     |none=>none
    |none=>none
   |_=>none
  |_=>none
 |_=>none
theorem yyc{d a b}(h:Instr.sameNow d a b=some true):Instr.sameBits 10000 b a=true:=by
 unfold Instr.sameNow at h;split at h
 simp_all[Instr.sameBits]
 simp[Qbn]at h;rename_i a b;have hab:=(MapKept.bytes_beq a b).1 h;subst hab;simp[Instr.sameBits];omega
 simp_all[Instr.sameBits]
 cases h
theorem zul(hG:Good W g H){t:Nat}{m k x v:V}{cm ck cx:Value}{H':Heap}(h:zgy P H t m k x=some (v,H'))(hm:Rel W g H m cm)(hk:Rel W g H k ck)(hx:Rel W g H x cx) :
  z8c P W g H (do Instr.mapUpdate t cm ck cx;pure .skip) v H':=by
 unfold zgy at h;split at h;rename_i kt e hu;split at h;rename_i l i;split at h;rename_i es hg;split at h;rename_i d hkk;split at h;rename_i r hf;injection h with h;injection h with h1 h2;subst h1;subst h2;cases hm;obtain⟨hku,hck⟩:=y5a (P:=P) hkk hk;obtain⟨en,clock,b1,b2,b3,b4,b5⟩:=hG.obj _ _ _ hg;have hlt:g.blk l i<W.heap.size:=hG.lt _ _ _ hg;have hgo:=run_getObj_map (P:=P) W _ _ _ b1
 have hfs:=zvf (d:=d) hk es en.toList 0 r hf (by simpa using b2) (λj p hj=>by simpa using b5 j p hj)
 have fin:∀(en':Array MapEntry) (clock':Nat),(Instr.mapUpdate t (.map (some (g.blk l i))) ck cx).run P W = .ok () {W with heap:=W.heap.setIfInBounds (g.blk l i) (.map en' clock')} ->
   en'.size=(y1c es k x r).length->(∀e∈en',e.born<clock')->(∀(j k:Nat) (e f:MapEntry),en'[j]? = some e->en'[k]? = some f->e.born=f.born->j=k) ->
   (∀(W':World) (H':Heap),Step W g H W' g H'->∀(j:Nat) (p:V×V),(y1c es k x r)[j]? = some p->∃e,en'[j]? = some e∧Rel W' g H' p.1 e.key∧Rel W' g H' p.2 e.val) ->
   z8c P W g H (do Instr.mapUpdate t (.map (some (g.blk l i))) ck cx;pure .skip) .any (H.set l i (.map (y1c es k x r))):=by
  intro en' clock' hrun e1 e2 e3 e4
  have hsets:∀b,({W with heap:=W.heap.setIfInBounds (g.blk l i) (.map en' clock')}:World).heap[b]? = if g.blk l i=b then (if g.blk l i<W.heap.size then some (Obj.map en' clock')else none)else W.heap[b]? := λb=>by
   show(W.heap.setIfInBounds _ _)[b]? = _;rw[Array.getElem?_setIfInBounds]
  obtain⟨q1,q2⟩:=zei hG (o':=.map (y1c es k x r)) hg rfl (W':={W with heap:=W.heap.setIfInBounds (g.blk l i) (.map en' clock')}) rfl rfl rfl (by simp)
   (λb _ hb=>by rw[hsets,Qbr (λq=>hb q.symm)]) (λ_ _ _ _ _ h=>by cases h) (λhst=>by
   refine⟨en',clock',?_,e1,e2,e3,e4 _ _ hst⟩
   rw[hsets,Qbq rfl,Qbq hlt])
  exact⟨undef,_,g,.inr ⟨by simp[hrun],rfl⟩,q1,q2,.any _⟩
 cases r with
 |none=>
  simp only at hfs;have hfk:=MapKept.run_findKey (P:=P) (w:=W) hku hfs;refine fin (en.push {key:=ck,val:=cx,born:=clock}) (clock+1) ?_ (by simp[y1c,b2]) ?_ ?_ ?_;have hso:=MapKept.run_setObj_map (P:=P) (w:=W) (.map (en.push {key:=ck,val:=cx,born:=clock}) (clock+1)) b1;simp[Instr.mapUpdate,yz3 hu,hgo,hck,hfk,hso];intro e he
  rcases Array.mem_push.1 he with h|rfl
  have:=b3 e h;omega;exact Nat.lt_succ_self _;intro j k e f hj hk hef;rw[Array.getElem?_push]at hj hk;split at hj
  rename_i hj';injection hj with hj;subst hj
  split at hk;rename_i hk';omega;have:=b3 f (Array.mem_of_getElem? hk);simp only at hef;omega;split at hk
  rename_i hk';injection hk with hk;subst hk
  have:=b3 e (Array.mem_of_getElem? hj);simp only at hef;omega;exact b4 j k e f hj hk hef;intro W' H' hst j p hj;simp only[y1c]at hj;rw[Qba]at hj;split at hj;obtain⟨e,h1,h2,h3⟩:=b5 j p hj;refine⟨e,?_,h2.mono hst,h3.mono hst⟩;rw[Array.getElem?_push,Qbr (by omega)];exact h1;rename_i hge
  have:j=es.length:=by
   have:=(Qaa.1 hj).1;simp at this;omega
  subst this;simp at hj;subst hj;refine⟨{key:=ck,val:=cx,born:=clock},?_,hk.mono hst,hx.mono hst⟩
  rw[Array.getElem?_push,Qbq b2.symm]
 |some q=>
  obtain⟨j0,v0⟩:=q;obtain⟨e0,f1,f2,f3,f4,p0,f5,f6⟩:=hfs;simp only[Nat.sub_zero]at f4 f5;have hfk:=MapKept.run_findKey (P:=P) (w:=W) hku f1;have hej:en[j0]? = some e0:=by simpa using f4
  obtain⟨e0',g1,g2,_⟩:=b5 j0 p0 f5
  rw[hej]at g1;injection g1 with g1;subst g1
  have hsame:=yyc (y7g f6 hk g2);have hjl:j0<en.size:=(Qbh.1 hej).1;refine fin (en.modify j0 λe=>{e with key:=ck,val:=cx}) clock ?_ (by simp[y1c,b2]) ?_ ?_ ?_;have hso:=MapKept.run_setObj_map (P:=P) (w:=W) (.map (en.modify j0 λe=>{e with key:=ck,val:=cx}) clock) b1;simp[Instr.mapUpdate,yz3 hu,hgo,hck,hfk,hej,Instr.keyThatStays,hsame,hso];intro e he
  obtain⟨j,hj⟩:=Array.getElem?_of_mem he;rw[Qby]at hj;split at hj;simp only[Qaf]at hj;obtain⟨e',h1,rfl⟩:=hj;exact b3 e' (Array.mem_of_getElem? h1);exact b3 e (Array.mem_of_getElem? hj);intro j k e f hj hk hef;rw[Qby]at hj hk
  have back:∀{j:Nat}{e:MapEntry},(if j0=j then Option.map (λe=>({e with key:=ck,val:=cx}:MapEntry)) en[j]? else en[j]?)=some e->∃e',en[j]? = some e'∧e'.born=e.born:=λ{j e} hj=>by
   split at hj;simp only[Qaf]at hj;obtain⟨e',h1,rfl⟩:=hj;exact⟨e',h1,rfl⟩;exact⟨e,hj,rfl⟩
  obtain⟨e',i1,i2⟩:=back hj;obtain⟨f',i3,i4⟩:=back hk;exact b4 j k e' f' i1 i3 (by omega);intro W' H' hst j p hj;simp only[y1c]at hj;rw[Qbd]at hj;rw[Qby];split at hj;rename_i hjj;subst hjj;split at hj;injection hj with hj;subst hj;exact⟨{e0 with key:=ck,val:=cx},by rw[Qbq rfl,hej];rfl,hk.mono hst,hx.mono hst⟩;cases hj;rename_i hjj;obtain⟨e,h1,h2,h3⟩:=b5 j p hj
  exact⟨e,by rw[Qbr hjj];exact h1,h2.mono hst,h3.mono hst⟩
 cases h;cases h;cases h;cases h;cases h
end
end Go.Ab
