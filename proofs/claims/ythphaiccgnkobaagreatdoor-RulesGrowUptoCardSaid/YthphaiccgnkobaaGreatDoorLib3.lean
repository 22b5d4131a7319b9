/-
  A FUNCTION THAT ONLY COMPUTES AND HOLDS A LOOP OVER A FUNCTION: it leaves with the loop's mark among its deferred calls.
-/
import Derived.Test.YthphaiccgnkobaaGreatDoorLib2
import Derived.Maps.RangeRun
namespace Go.Ab
open Go
set_option linter.unusedVariables false
set_option linter.unusedSimpArgs false
section
variable {P : Program} {W W' : World} {g g' : Gh} {H H' : Heap}
def Gh.at(g:Gh)(b:Nat):Gh:={g with base:=b}
theorem Rel.at{v c}(h:Rel W g H v c)(b):Rel W (g.at b) H v c:=by
 induction h with
 |any c=>exact .any c
 |bool b=>exact .bool b
 |int k n=>exact .int k n
 |str s=>exact .str s
 |nilp=>exact .nilp
 |ptr l i off hd=>exact .ptr l i off hd
 |ref cs off b o c hb hc h1 hr ih=>exact .ref cs off b o c hb hc h1 ih
 |ap l i ver idx off a hd hv ha=>exact .ap l i ver idx off a hd hv ha
 |nils=>exact .nils
 |slnil sz full=>exact .slnil sz full
 |sle sz full a cap hf=>exact .sle sz full a cap hf
 |sl sz xs full b o cap c hb hz hcap hf hs hc h1 hr ih=>exact .sl sz xs full b o cap c hb hz hcap hf hs hc h1 ih
 |hs l i ver off n full a m cap hd hv ha=>exact .hs l i ver off n full a m cap hd hv ha
 |mapn=>exact .mapn
 |map l i hd=>exact .map l i hd
 |mapc es b en clock hb hw he=>exact .mapc es b en clock hb hw he
 |fn f fs cs fs' cs' h1 h2 r1 r2 i1 i2=>exact .fn f fs cs fs' cs' h1 h2 i1 i2
 |nilf=>exact .nilf
 |iface t v c h ih=>exact .iface t v c ih
 |nili=>exact .nili
 |agg vs cs hn h1 hr ih=>exact .agg vs cs hn h1 ih
 |tup vs cs hn hr ih=>exact .tup vs cs hn ih
theorem zev.at{i j o}(h:zev W g H i j o)(b):zev W (g.at b) H i j o:=by
 cases o with
 |cells cs=>
  obtain⟨c,ty,h1,h2,h3,h4⟩:=h
  exact⟨c,ty,h1,h2,h3,λj v hj=>(h4 j v hj).at b⟩
 |arr ver ty sz xs cp=>
  obtain⟨c,h1,h2,h3,h4,h5,h6,h7,h8,h9⟩:=h
  exact⟨c,h1,h2,h3,h4,h5,h6,h7,h8,λj x t v hj ht=>(h9 j x t v hj ht).at b⟩
 |map es=>
  obtain⟨en,clock,h1,h2,h3,h4,h5⟩:=h
  exact⟨en,clock,h1,h2,h3,h4,λj p hj=>let ⟨e,x,y,z⟩:=h5 j p hj;⟨e,x,y.at b,z.at b⟩⟩
 |siter s pos=>exact h
 |mit es vis=>exact h
theorem Good.at(h:Good W g H){b}(hb:b<=W.heap.size):Good W (g.at b) H :=
 ⟨h.dom,h.lt,h.inj,h.fresh,λl i o ho=>(h.obj l i o ho).at b,h.zns,hb⟩
theorem Step.at(h:Step W g H W' g' H')(b):Step W (g.at b) H W' (g'.at b) H' :=
 ⟨h.os,h.tape,h.output,h.size,h.block,h.own,h.dom,h.new,h.blk,h.arr,h.lv,rfl⟩
theorem z02w{σ}:∀rs:List ResultVar,y3h P {σ with d:=[]} rs=y3h P σ rs
 |[]=>rfl
 |r::rs=>by simp[y3h,z02w rs];cases r <;> rfl
theorem ycl{fn σ}:z0w P fn {σ with d:=[]}=z0w P fn σ:=by unfold z0w;rw[z02w]
def z03a(P:Program)(fn:Func)(lv:Nat)(E:Nat->Nat->Option kzg)(r:V)(e:z0j)(σ:St):Prop :=
 match e with
 |.normal| .ret=>∃v,z0w P fn σ=some v∧(σ.d=[]∨σ.d=[(zl8,[])])∧σ.H.E=E∧VS σ.H (outer lv) v r
 |_=>False
theorem ywb{f:Nat}{fn:Func}{c:Code}{n:Nat}(hf:P.funcs[f]? = some fn)(hb:fn.body=some c)(hnt:fn.ntmps=n)(hent:∀args w,(callFunc f args).run P w = .ok (.enter f args) w){args:List V}{r:V}
  (h:∀lv E,Sat P c ⟨args++List.replicate (n-args.length) .any,⟨lv+1,[],E⟩,[],E⟩ (z03a P fn lv E r)):zpq P f args r:=λH=>by
 intro W g cargs hG hA;subst hnt
 let R:Ending->World->Prop:=λe W'=>∃c' g',e = .returned c'∧Step W g H W' g' H∧Good W' g' H∧Rel W' g' H r c'
 refine .inl ⟨hent cargs W,callsIn_wide.1 (callsIn_of_wp_marks (F:=Fence.wide) (n:=0) hf hb trivial ?_ rfl)⟩;have hGb:=hG.at (Qbp W.heap.size);obtain⟨hGe,hge,hre⟩:=y1o hGb
 have hgs:zzb W {tmps:=cargs++Array.replicate (fn.ntmps-cargs.size) undef,defers:=[]} (g.at W.heap.size) ⟨args++List.replicate (fn.ntmps-args.length) .any,⟨H.lv+1,[],H.get⟩,[],H.get⟩:=by
  refine⟨hGe,by simp[hA.1],λj v hj =>?_,rfl,by simp⟩;rw[Qba]at hj;split at hj;rename_i hlt;rw[z1n (by rw[hA.1];exact hlt)];exact hre ((hA.2 j v hj).at _);rw[Qbi]at hj;split at hj;injection hj with hj;subst hj;exact .any _;cases hj
 refine wpIn_mono (h H.lv H.get W (g.at W.heap.size) ⟨H.lv+1,[],H.get⟩ W _ (g.at W.heap.size) ⟨hGe⟩ ⟨rfl,.refl _ _ _⟩ hgs none (.inl rfl) 0) λe a W' ⟨g1,σ,e',q1,q2,q3,q4⟩ =>?_
 have fin:∀(W':World) (a:Act) (σ:St),Step W (g.at W.heap.size) ⟨H.lv+1,[],H.get⟩ W' g1 σ.H->zzb W' a g1 σ->∀v,z0w P fn σ=some v->σ.H.E=H.get->VS σ.H (outer H.lv) v r ->
   ∃c,(results fn a.tmps).run P W' = .ok c W'∧∃c' g',Ending.returned c = .returned c'∧Step W g H W' g' H∧Good W' g' H∧Rel W' g' H r c':=λW' a σ s3 g3 v h1 h3 h4=>by
  obtain⟨c,k1,k2⟩:=zds g3 h1;obtain⟨g2,z1,z2,z3⟩:=yc1 hGb s3.lv s3 g3.good (y71 h3 h4) k2;exact⟨c,k1,c,g2.at g.base,rfl,z1.at g.base,z2.at (Qbf hG.base z1.size),z3.at _⟩
 have key:(∃v,z0w P fn σ=some v∧(σ.d=[]∨σ.d=[(zl8,[])])∧σ.H.E=H.get∧VS σ.H (outer H.lv) v r)->LeavesInM Fence.wide 0 P fn a.tmps R a.defers .returning W':=λ⟨v,h1,h2,h3,h4⟩=>by
  rcases h2 with h2|h2
  have hd:a.defers=[]:=Qao (by rw[q3.dlen,h2];rfl);rw[hd];exact fin W' a σ q2.2 q3 v h1 h3 h4;have hl:=q3.dlen;rw[h2]at hl
  rcases q3.defs 0 zl8 [] (by rw[h2];rfl)with ⟨h0,_⟩|⟨_,D,h5,h6,h7⟩
  exact absurd h0 (Nat.lt_irrefl _)
  obtain⟨d0,hd⟩:∃d0,a.defers=[d0]:=by
   match ha:a.defers,hl with
   |[x],_=>exact⟨x,rfl⟩
  rw[hd]at h5 ⊢;injection h5 with h5;subst h5;refine⟨by simp,.inl ⟨D,_,rfl,run_takeDeferred h6,?_⟩⟩;have hbs:W.heap.size<=D:=by rw[<-show g1.base=W.heap.size from q2.2.base];exact h7
  exact fin (W'.putObj D (.deferred none)) {a with defers:=[]} {σ with d:=[]} (q2.2.yuu hbs _) ⟨q3.good.put h6 rfl _,q3.size,λj v hj=>(q3.tmps j v hj).put h6 rfl _,rfl,λj f vs hj=>by simp at hj⟩ v (ycl.trans h1) h3 h4
 cases q1 with
 |normal=>exact key q4
 |ret=>exact key q4
 |exit id=>exact q4.elim
 |panic v c hr=>exact q4.elim
end
def PV.v:PV->V
 |.bool b=>.bool b
 |.int k n=>.int k n
 |.str s=>.str s
theorem PV.rel{W g H}:∀p:PV,Rel W g H p.v p.c
 |.bool b=>.bool b
 |.int k n=>.int k n
 |.str s=>.str s
theorem PV.of{W g H}:∀{p:PV}{c},Rel W g H p.v c->c=p.c
 |.bool b,c,h=>by cases h;rfl
 |.int k n,c,h=>by cases h;rfl
 |.str s,c,h=>by cases h;rfl
section
variable {P : Program} {W : World} {g : Gh} {H : Heap}
theorem z01j{H' i es}(hG:Good W g H)(hget:H.get H.lv i=some (.map (es.map λp=>(p.1.v,p.2.v))))(hno:¬Own g H' (g.blk H.lv i)){c}(h:Rel W g H (.map H.lv i) c):Rel W g H' (.mapc es) c:=by
 obtain⟨en,clock,m1,m2,m3,m4,m5⟩:=hG.obj _ _ _ hget
 cases h with
 |map _ _ hd=>
  refine .mapc es _ en clock hno m1 ⟨by simpa using m2,m3,m4,λj p hj =>?_⟩;obtain⟨e,he,r1,r2⟩:=m5 j (p.1.v,p.2.v) (by grind);exact⟨e,he,PV.of r1,PV.of r2⟩
theorem yoy(hG:Good W g H){t kt vt:Nat}{es c}(ht:P.underlying t=some (.map kt vt))(hx:Rel W g H (.mapc es) c):z8c P W g H (do pure (.value (<-Instr.range t c))) (.ptr H.lv H.L.length 0) (H.push (.mit es [])):=by
 cases hx with
 |mapc _ b en clock hb hw he=>
  obtain⟨h1,h2⟩:=zh2 hG (O:=.mapIter (some b) clock #[] clock) (o:=.mit es []) 0 (λW' g' H' hW hg hH hst=>by
   refine⟨en,clock,b,?_,?_,?_,he⟩;rw[hW,hg];simp only[Gh.add,if_true];exact z2p _ _;intro hn;have hlt:=(Qbh.1 hw).1;exact(hst.own _ hn).elim hb (λq=>by omega);have hlt:=(Qbh.1 hw).1
   rw[hst.block _ hlt hb];exact hw)
  refine⟨.pointer (some ⟨W.heap.size,0,none⟩),_,_,.inl ?_,h1,h2,?_⟩;simp[Instr.range,yz3 ht,getObj,Sem.run,hw,newObj];have:=Rel.ptr (W:=W.alloc (.mapIter (some b) clock #[] clock)) (g:=g.add H.lv H.L.length W.heap.size 0) (H:=H.push (.mit es [])) H.lv H.L.length 0 (.inr ⟨rfl,rfl⟩);simpa[Gh.add]using this
theorem zvr{t len e0 sz:Nat}{ps:List (Nat×V)}{ws:List V}{cps:Array (Nat×Value)}(hG:Good W g H)(h:zcp P t len ps=some (.sl sz ws true))(hlen0:len≠0)(hu0:P.underlying t=some (.slice e0))(hl:cps.size=ps.length)
  (hr:∀(j i:Nat) (x:V),ps[j]? = some (i,x)->∃c,cps[j]? = some (i,c)∧Rel W g H x c):z8c P W g H (do pure (.value (<-Instr.buildSlice t len cps))) (.hs H.lv H.L.length 0 0 ws.length false) (H.push (.arr 0 e0 sz ws (some ws.length))):=by
 unfold zcp at h;split at h
 ·rename_i e hu;split at h
  ·rename_i z hz;split at h
   ·rename_i hc;simp only[Qag,beq_iff_eq,Qar,Qat]at hc;obtain⟨⟨⟨⟨⟨⟨⟨c1,c2⟩,c3⟩,c4⟩,c5⟩,c6⟩,c7⟩,c8⟩:=hc;injection h with h;obtain⟨inf,hi⟩:=Option.isSome_iff_exists.1 c4;have hsz:(sizeOf e).run P W = .ok (P.cellsOf e) W:=by simp[sizeOf,typeInfo,hi,Program.cellsOf]
    obtain⟨zc,hz1,hz2⟩:=zsn (W:=W) (g:=g) (H:=H) hz;obtain⟨zs1,zs3,zs2⟩:=zfd c1 hz2;have hbig:¬(len * P.cellsOf e>2 ^ 24):=by omega
    by_cases h0:len=0;exact(hlen0 h0).elim
    ·try rw[Qbr h0]at h
     injection h with hsz' hws _;subst hsz';subst hws
     have he0:e0=e:=by rw[hu]at hu0;injection hu0 with hu0;injection hu0 with hu0;exact hu0.symm
     rw[he0]
     have hne:¬(len * P.cellsOf e=0):=by
      intro hm
      rcases Nat.mul_eq_zero.1 hm with q|q <;> omega
     let cells0:Array Value:=(Array.range (len * P.cellsOf e)).map (zc.cells[· % zc.cells.size]!)
     let zl:List V:=(List.range (len * P.cellsOf e)).map λi=>z.cells.getD (i % z.cells.length) .any
     have hrel0:zwa W g H zl cells0:=by
      have key:∀j v,zl[j]? = some v->∃k,z.cells[k]? = some v∧cells0.getD j undef=zc.cells.getD k undef:=λj v hj=>by
       have hjl:j<len * P.cellsOf e:=by
        have:=(Qaa.1 hj).1;simpa[zl]using this
       simp only[zl,Qan,List.getElem?_range hjl,Qbk,Qbn]at hj;have hm:j % z.cells.length<z.cells.length:=Nat.mod_lt _ (by omega)
       have hv:z.cells[j % z.cells.length]? = some v:=by
        rw[List.getD_eq_getElem?_getD,Qab hm]at hj;simp only[Option.getD_some]at hj;rw[Qab hm,hj]
       have hm2:j % zc.cells.size<zc.cells.size:=by rw[zs1];exact hm
       refine⟨_,hv,?_⟩;have hr:(Array.range (len * P.cellsOf e))[j]? = some j:=by simp[hjl]
       simp only[cells0,Qae,Array.getElem?_map,hr,Qbk,Option.getD_some];rw[getElem!_pos zc.cells (j % zc.cells.size) hm2]
       have hz':(zc.cells)[j % z.cells.length]? = some (zc.cells[j % zc.cells.size]):=by
        rw[<-zs1];exact Qas hm2
       rw[hz'];rfl
      refine⟨by simp[zl,cells0],λj v hj =>?_,λj v hj =>?_⟩
      all_goals
       obtain⟨k,hk1,hk2⟩:=key j v hj;rw[hk2]
       first|exact zs3 _ _ hk1|exact zs2 _ _ hk1
     have hfv:=zxq ps 0 zl c6 c7 (by simp[zl,c5]);simp only[Nat.zero_mul,List.take_zero,List.nil_append]at hfv;obtain⟨rs,e1,e2⟩:=zm3 ps cps.toList zl cells0 _ hfv hrel0 (by simpa using hl) (λj i x hj=>by simpa using hr j i x hj)
     have hxs:∀x∈ps.map (·.2),x.cells.length=P.cellsOf e:=λx hx=>by
      obtain⟨p,hp,rfl⟩:=Qbc.1 hx;exact(c7 p hp).2
     have hlen:(ps.map (·.2)).length=len:=by simp[c5]
     have hrs:rs.size=len * P.cellsOf e:=by
      rw[e2.1]
      have:∀l:List V,(∀x∈l,x.cells.length=P.cellsOf e)->(l.flatMap V.cells).length=l.length * P.cellsOf e:=by
       intro l
       induction l with
       |nil=>intro _;simp
       |cons x l ih=>
        intro hx;rw[List.flatMap_cons,Qap,ih λy hy=>hx y (by simp[hy]),hx x (by simp),List.length_cons,Nat.succ_mul,Nat.add_comm]
      rw[this _ hxs,hlen]
     have hcl:len<=2 ^ 24:=Qbf (Nat.le_mul_of_pos_right _ c3) c8
     obtain⟨g1,g2⟩:=zh2 hG (O:=.cells rs e) (o:=.arr 0 e (P.cellsOf e) (ps.map (·.2)) (some (ps.map (·.2)).length)) len (λW' g' H' hW hg hH hst=>by
      have hcap:g'.cap H.lv H.L.length=len:=by rw[hg];simp[Gh.add]
      refine⟨rs,?_,c3,by rw[hcap,hrs],by rw[hcap];exact Qbf hcl (by decide),by rw[hcap,hlen];exact Qbp _,λn hn=>by injection hn with hn;rw[hcap,<-hn,hlen],λj x hj=>hxs x (Qax hj),λj x t v hj ht=>e2.2.1 _ _ (zr8 _ hxs j t x v hj ht),λj x t v hj ht=>(e2.2.2 _ _ (zr8 _ hxs j t x v hj ht)).mono hst⟩;rw[hW,hg];simp only[Gh.add,and_self,if_true]
      exact z2p _ _)
     refine⟨.slice (some ⟨W.heap.size,0,none⟩) len len,_,_,.inl ?_,g1,g2,?_⟩;have e1':Instr.fill (λi=>some (i * P.cellsOf e,P.cellsOf e)) (Array.map (λx=>zc.cells[x % zc.cells.size]!) (Array.range (len * P.cellsOf e))) cps.toList=some rs:=e1;simp only[Instr.buildSlice,Qbt,yz3 hu,Qbu,hsz,Sem.run_ite,hbig,hne,if_false,Sem.run_pure,hz1];simp[e1',newRow];rw[hlen]
     refine .hs _ _ _ _ _ _ _ _ _ (.inr ⟨rfl,rfl⟩) (λv ty sz xs cp hg=>Qbo _) λty sz xs cp hg =>?_
     have hgp:(H.push (.arr 0 e (P.cellsOf e) (ps.map (·.2)) (some len))).get H.lv H.L.length=some (.arr 0 e (P.cellsOf e) (ps.map (·.2)) (some len)):=by
      unfold Heap.get Heap.push;simp
     rw[hgp]at hg;injection hg with hg;injection hg with _ h2 h3 h4 h5;subst h4;refine⟨by simp[Gh.add],rfl,⟨Qbp _,by simp[Gh.add],λh=>by cases h⟩,by rw[hlen];omega⟩
   cases h
  cases h
 cases h
theorem yuc{es en clock}(he:yte es en clock):(en.toList.map (·.born)).Nodup:=by
 rw[List.Nodup,List.pairwise_iff_getElem];intro q q' hq hq' hlt' heq;have hq2:=by simpa using hq
 have hq2':=by simpa using hq'
 have:=he.2.2.1 q q' _ _ (Qas hq2) (Qas hq2') (by simpa using heq);omega
theorem yq0(hG:Good W g H){l i j es vis p c}(hg:H.get l i=some (.mit es (vis++[j])))(hj:es[j]? = some p)(hx:Rel W g H (.ptr l i 0) c):z8c P W g H (do pure (.value (<-Instr.entry c))) (.tup [p.1.v,p.2.v]) H:=by
 cases hx with
 |ptr _ _ _ hd=>
  obtain⟨en,clock,mb,h1,h2,h3,h4⟩:=hG.obj _ _ _ hg;obtain⟨e,e1,e2,e3⟩:=h4.2.2.2 j p hj;have hbj:za9 en j=e.born:=by simp[za9,e1]
  have h1':W.heap[g.blk l i]? = some (.mapIter (some mb) clock ((vis.map (za9 en)).toArray.push e.born) clock):=by
   grind
  have hent:=run_entry_at (P:=P) W (g.blk l i) mb clock (vis.map (za9 en)).toArray en clock e h1' h3 (by grind) (yuc h4);refine⟨.tuple #[e.key,e.val],W,g,.inl (by simp[hent]),.refl _ _ _,hG,.tup _ _ rfl λq v hq =>?_⟩
  match q with
  |0=>simp at hq;subst hq;simp[e2];exact PV.rel _
  |1=>simp at hq;subst hq;simp[e3];exact PV.rel _
  |q+2=>simp at hq
end
section
variable {P : Program}
theorem yvw{ops:Array Oper}{k:Nat}{σ:St}{Q:z0j->St->Prop}{o:Oper}{x:Operand}{l i:Nat}{es:List (PV×PV)}{vis:List Nat}(ho:ops[k]? = some o)(hw:yzu ops σ o=some true)(hop:o.op = .next x false)(hx:σ.ev x = .ptr l i 0)(hg:σ.H.get l i=some (.mit es vis))
  (hvis:∀q∈vis,q<es.length)
  (hend:(∀j,j<es.length->j∈vis)->zes P ops (k+1) (σ.put o.dst (.tup [.bool false])) Q)
  (hone:∀j p,es[j]? = some p->j∉vis->zes P ops (k+1) ({σ with H:=σ.H.set l i (.mit es (vis++[j]))}.put o.dst (.tup [.bool true,p.1.v,p.2.v])) Q):zes P ops k σ Q:=λW0 g0 H0 W a g hB hS hG=>by
 have hk:k<ops.size:=by
  rcases Nat.lt_or_ge k ops.size with q|q
  exact q;rw[Array.getElem?_eq_none q]at ho;cases ho
 rw[show ops.size-k=(ops.size-(k+1))+1 by omega,List.range'_succ];simp only[wpOps,ho];rw[z0c hG hw,Qbq rfl];left;unfold Oper.wp;have hr:=hG.ev x;rw[hx]at hr;generalize hit:a.eval x=cx at hr
 cases hr with
 |ptr _ _ _ hd=>
  obtain⟨en,clock,mb,h1,h2,h3,h4⟩:=hG.good.obj _ _ _ hg;obtain⟨m2,m3,m4,m5⟩:=h4;replace h1:W.heap[g.blk l i]? = some (.mapIter (some mb) clock (vis.map (za9 en)).toArray clock):=h1;have hlt:g.blk l i<W.heap.size:=hG.good.lt _ _ _ hg;have hhold:∀y∈en.toList,y.born<clock:=λy hy=>m3 y (by simpa using hy)
  have hborn:∀j,j<es.length->∃e,en[j]? = some e∧za9 en j=e.born:=λj hj=>by
   have hj':j<en.size:=by rw[m2];exact hj
   exact⟨en[j],Qas hj',by simp[za9,hj']⟩
  have hinj:∀j j',j<es.length->j'<es.length->za9 en j=za9 en j'->j=j':=λj j' hj hj' he=>by
   obtain⟨e,e1,e2⟩:=hborn j hj;obtain⟨e',e3,e4⟩:=hborn j' hj';exact m4 j j' e e' e1 e3 (by rw[<-e2,<-e4,he])
  rcases run_next_at (P:=P) W o.type (g.blk l i) mb clock clock _ en clock h1 h3 hhold (Qbp _)with ⟨hz,hrr⟩|⟨e,he,w1,hw1,hrr⟩
  ·have hall:∀j,j<es.length->j∈vis:=λj hj=>by
    obtain⟨e,e1,e2⟩:=hborn j hj
    have hno:¬e∈leftOf en (vis.map (za9 en)).toArray:=λhm=>by
     have:=Array.size_pos_of_mem hm;omega
    have hmem:e∈en:=Array.mem_of_getElem? e1
    have:(vis.map (za9 en)).contains e.born=true:=by
     cases hc:(vis.map (za9 en)).contains e.born;exact(hno (by unfold leftOf;rw[Array.mem_filter];exact⟨hmem,by simpa using hc⟩)).elim;rfl
    rw[List.contains_iff_mem,Qbc]at this;obtain⟨q,hq,hqb⟩:=this;rw[<-e2]at hqb;rw[<-hinj q j (hvis q hq) hj hqb];exact hq
   have hex:(execOp a.eval o).run P W = .ok (.value (.tuple #[.bool false])) W:=by unfold execOp;rw[hop];simp[hit,hrr]
   have hn:=hG.next (.refl _ _ _) hG.good (v:=.tup [.bool false]) (c:=.tuple #[.bool false]) (.tup _ _ rfl (λj v hj=>by
    cases j with
    |zero=>simp at hj;subst hj;exact .bool _
    |succ j=>simp at hj)) o.dst
   have hH:(σ.put o.dst (.tup [.bool false])).H=σ.H:=by cases o.dst <;> rfl
   have he0:(σ.put o.dst (.tup [.bool false])).e0=σ.e0:=by cases o.dst <;> rfl
   rw[hex];exact hend hall W0 g0 H0 W _ g hB (by rw[hH,he0];exact hS) hn
  ·have he2:e∈en∧(vis.map (za9 en)).contains e.born=false:=by
    have he':e∈leftOf en (vis.map (za9 en)).toArray:=by simpa using he
    unfold leftOf at he';rw[Array.mem_filter]at he';exact⟨he'.1,by simpa using he'.2⟩
   obtain⟨j,hjl,hje⟩:=Array.getElem_of_mem he2.1;have hj:j<es.length:=by rw[<-m2];exact hjl
   have hjs:en[j]? = some e:=by rw[Qas hjl,hje]
   have hbj:za9 en j=e.born:=by simp[za9,hjs]
   have hnv:j∉vis:=λhm=>by
    have:e.born∈vis.map (za9 en):=Qbc.2 ⟨j,hm,hbj⟩;rw[<-List.contains_iff_mem,he2.2]at this;cases this
   have hp:es[j]? = some es[j]:=Qab hj;obtain⟨e',he',r1,r2⟩:=m5 j _ hp
   obtain rfl:e'=e:=by rw[hjs]at he';injection he' with h;exact h.symm
   have hw1h:w1.heap=W.heap:=by rcases hw1 with rfl|rfl <;> rfl
   have hheap:∀q,q≠g.blk l i->∀O,(Go.ChangeMaps.setBlock w1 (g.blk l i) O).heap[q]? = W.heap[q]? := λq hq O=>by
    show(w1.heap.setIfInBounds (g.blk l i) O)[q]? = _;rw[Array.getElem?_setIfInBounds_ne (λh=>hq h.symm),hw1h]
   have hat:∀O,(Go.ChangeMaps.setBlock w1 (g.blk l i) O).heap[g.blk l i]? = some O:=λO=>by
    show(w1.heap.setIfInBounds (g.blk l i) O)[g.blk l i]? = _;rw[Array.getElem?_setIfInBounds_self_of_lt (by rw[hw1h];exact hlt)]
   have hne:mb≠g.blk l i:=λe=>by rw[e,h1]at h3;cases h3
   obtain⟨s1,s2⟩:=zei hG.good (o':=.mit es (vis++[j])) hg rfl (W':=Go.ChangeMaps.setBlock w1 (g.blk l i) (.mapIter (some mb) clock ((vis.map (za9 en)).toArray.push e'.born) clock))
    (by rcases hw1 with rfl|rfl <;> rfl) (by rcases hw1 with rfl|rfl <;> rfl) (by rcases hw1 with rfl|rfl <;> rfl)
    (by show W.heap.size<=(w1.heap.setIfInBounds _ _).size;rw[Array.size_setIfInBounds,hw1h];exact Qbp _)
    (λb hb hbn=>hheap b hbn _) (λver ty sz xs cp he=>by cases he) (λhst=>by
      refine⟨en,clock,mb,?_,λhn=>(hst.own _ hn).elim h2 (λq =>?_),?_,⟨m2,m3,m4,m5⟩⟩;rw[hat];have:(List.map (za9 en) (vis++[j])).toArray=(vis.map (za9 en)).toArray.push e'.born:=by simp[hbj]
      rw[<-this];have:=(Qbh.1 h3).1;omega
      rw[hheap _ hne];exact h3)
   have hex:(execOp a.eval o).run P W = .ok (.value (.tuple #[.bool true,e'.key,e'.val])) (Go.ChangeMaps.setBlock w1 (g.blk l i) (.mapIter (some mb) clock ((vis.map (za9 en)).toArray.push e'.born) clock)):=by
    unfold execOp;rw[hop];simp[hit,hrr]
   have hn:=hG.next s1 s2 (v:=.tup [.bool true,es[j].1.v,es[j].2.v]) (c:=.tuple #[.bool true,e'.key,e'.val]) (.tup _ _ rfl (λq v hq=>by
    match q with
    |0=>simp at hq;subst hq;exact .bool _
    |1=>simp at hq;subst hq;simp only[r1];exact PV.rel _
    |2=>simp at hq;subst hq;simp only[r2];exact PV.rel _
    |q+3=>simp at hq)) o.dst
   have hH:({σ with H:=σ.H.set l i (.mit es (vis++[j]))}.put o.dst (.tup [.bool true,es[j].1.v,es[j].2.v])).H=σ.H.set l i (.mit es (vis++[j])):=by cases o.dst <;> rfl
   have he0:({σ with H:=σ.H.set l i (.mit es (vis++[j]))}.put o.dst (.tup [.bool true,es[j].1.v,es[j].2.v])).e0=σ.e0:=by cases o.dst <;> rfl
   rw[hex];exact hone j es[j] hp hnv W0 g0 H0 _ _ g hB (by rw[hH,he0];exact⟨hS.1,hS.2.trans s1⟩) hn
end
section
variable {P : Program}
theorem yy9{σ:St}{i:Nat}{es:List (PV×PV)}(hi:σ.H.L[i]? = some (some (.map (es.map λp=>(p.1.v,p.2.v)))))(hd:σ.d=[]){os os':List (Nat×kzg)}(h5:(os.map (·.1)).Nodup)(hos:FOL (.map σ.H.lv i) (.mapc es) os os')(h4:∀p∈os,σ.H.L[p.1]? = some (some p.2)∧p.1≠i)
  {t':List V} (ht:FVL (.map σ.H.lv i) (.mapc es) σ.t t') :
  zlf σ ⟨t',⟨σ.H.lv,told σ.H.L (some i) os',σ.H.E⟩,[],σ.e0⟩∧(∀p'∈os',(told σ.H.L (some i) os')[p'.1]? = some (some p'.2))∧∀n,n<σ.H.L.length->n≠i->(∀p∈os,p.1≠n)->(told σ.H.L (some i) os')[n]? = σ.H.L[n]? := by
 have hnd:(os'.map (·.1)).Nodup:=by rw[hos.map];exact h5
 have hfind:∀p'∈os',os'.find? (λp=>p.1==p'.1)=some p':=λp' hp'=>by
  cases hq:os'.find? (λp=>p.1==p'.1)with
  |none=>rw[List.find?_eq_none]at hq;have:=hq p' hp';simp at this
  |some q=>
   have hq1:=List.find?_some hq;have hq2:=List.mem_of_find?_eq_some hq;simp at hq1;obtain⟨a,ha⟩:=List.mem_iff_getElem?.1 hp';obtain⟨b,hb⟩:=List.mem_iff_getElem?.1 hq2;have ha':(os'.map (·.1))[a]? = some p'.1:=by simp[ha]
   have hb':(os'.map (·.1))[b]? = some p'.1:=by simp[hb,hq1]
   have hlt:=(Qaa.1 ha').1;have:=(List.getElem?_inj hlt hnd).1 (ha'.trans hb'.symm);subst this;rw[ha]at hb;exact hb.symm
 have hfor:∀p'∈os',∃o,σ.H.L[p'.1]? = some (some o)∧p'.1≠i∧FO (.map σ.H.lv i) (.mapc es) o p'.2:=λp' hp'=>by
  obtain⟨o,ho,hf⟩:=hos.mem p' hp';exact⟨o,(h4 _ ho).1,(h4 _ ho).2,hf⟩
 refine⟨?_,λp' hp' =>?_,λn hn hni hno =>?_⟩;refine ycp (v:=.map σ.H.lv i) (r:=.mapc es) (zka _ _ _) (λm o' hm =>?_) ht hd λW g hG hown hf c hc =>?_
 have hlt:m<σ.H.L.length:=by have:=(Qaa.1 hm).1;rw[zka]at this;exact this
 rw[zgh hlt]at hm;injection hm with hm;split at hm;cases hm;split at hm;rename_i p hp;injection hm with hm;have hp1:=List.find?_some hp;simp at hp1;obtain⟨o,h1,_,h3⟩:=hfor p (List.mem_of_find?_eq_some hp);exact⟨o,by rw[<-hp1];exact h1,by rw[<-hm];exact h3⟩;refine⟨o',?_,.inl rfl⟩;rw[Qab hlt]at hm ⊢;simp at hm;rw[hm]
 have hget:σ.H.get σ.H.lv i=some (.map (es.map λp=>(p.1.v,p.2.v))):=by unfold Heap.get;rw[Qbq rfl,hi];rfl
 refine z01j hG hget (λ⟨l,i',o',ho',hob⟩ =>?_) hc
 have hgot:∃o,σ.H.get l i'=some o∧o'.blk g l i'=o.blk g l i'∧¬(l=σ.H.lv∧i'=i):=by
  unfold Heap.get at ho' ⊢;dsimp only at ho' ⊢;by_cases hl:l=σ.H.lv;rw[Qbq hl]at ho' ⊢
  cases hq:(told σ.H.L (some i) os')[i']? with
  |none=>rw[hq]at ho';simp at ho'
  |some q=>
   have hlt:i'<σ.H.L.length:=by have:=(Qaa.1 hq).1;rw[zka]at this;exact this
   rw[zgh hlt]at hq;injection hq with hq;rw[zgh hlt]at ho';simp only[Option.join_some]at ho';split at ho';cases ho';rename_i hne;split at ho';rename_i p hp;injection ho' with ho';have hp1:=List.find?_some hp;simp at hp1;obtain⟨o,h1,_,h3⟩:=hfor p (List.mem_of_find?_eq_some hp);rw[hp1]at h1;exact⟨o,by rw[h1];rfl,by rw[<-ho'];exact h3.blk g l i',λe=>hne (by rw[e.2])⟩;exact⟨o',ho',rfl,λe=>hne (by rw[e.2])⟩
  rw[Qbr hl]at ho' ⊢;exact⟨o',ho',rfl,λe=>hl e.1⟩
 obtain⟨o,w1,w2,w3⟩:=hgot;exact w3 (hG.inj _ _ _ _ _ _ w1 hget (by rw[<-w2];exact hob));obtain⟨o,h1,h2,_⟩:=hfor p' hp';have hlt:=(Qaa.1 h1).1;rw[zgh hlt,Qbr (λe=>h2 (by injection e with e;exact e.symm)),hfind p' hp'];rw[zgh hn,Qbr (λe=>hni (by injection e with e;exact e.symm))]
 have:os'.find? (λp=>p.1==n)=none:=by
  rw[List.find?_eq_none];intro p hp;have:p.1∈os.map (·.1):=by rw[<-hos.map];exact List.mem_map_of_mem hp
  obtain⟨q,hq,hqn⟩:=Qbc.1 this;have:=hno q hq;simp;omega
 rw[this,Qab hn];rfl
end
section
variable {P : Program} {ops : Array Oper} {md : Region.Mode}
abbrev Key:=Nat×Option Nat
def cellAt(o:Option (Option kzg))(c:Nat):Option V:=match o with
 |some (some (.cells cs))=>cs[c]?
 |_=>none
def obs(H:Heap)(x:Key):Option (Option kzg)×Option V:=match x.2 with
 |none=>(H.L[x.1]?,none)
 |some c=>(none,cellAt H.L[x.1]? c)
theorem yua{H H' x}(h:H'.L[x.1]? = H.L[x.1]?):obs H' x=obs H x:=by unfold obs;rw[h]
structure Info where
 eff:Bool
 K:Key->Prop
 W:Key->Prop
 call:Bool:=false
def zyv(K:Key->Prop)(H H':Heap):Prop:=∀i,K i->obs H' i=obs H i
theorem zyv.refl(K)(H):zyv K H H:=λ_ _=>rfl
theorem zyv.trans{K A B C}(h:zyv K A B)(k:zyv K B C):zyv K A C:=λi hi=>(k i hi).trans (h i hi)
theorem zyv.symm{K A B}(h:zyv K A B):zyv K B A:=λi hi=>(h i hi).symm
def yx3(op:Op):Bool:=match op with
 |.alloc _| .box _ _| .store _ _ _=>true
 |.call c=>(match c.callee with
  |.builtin .append=>true
  |.builtin .unsafeString=>true
  |_=>false)
 |_=>false
theorem y7x{H ρ ρ' o}(h:∀x∈o.operands,ρ x=ρ' x):zqt P H ρ o=zqt P H ρ' o:=by
 cases o
 case makeSlice t n c=>grind[zqt,Op.operands]
 case convert s d x=>grind[zqt,Op.operands]
 case binOp op t x y _=>grind[zqt,Op.operands]
 case call c=>
  simp[zqt];split
  grind[Op.operands,Call.operands]
  grind[Op.operands,Call.operands]
  rfl
 all_goals rfl
def QP(P:Program)(H:Heap)(ρ:Operand->V)(o:Oper)(v:V):Prop:=pv P H ρ o.op=some v∨(∃c f args,o.op = .call c∧target ρ c=some (f,args)∧y0g P f args H v H)∨zqt P H ρ o.op=some (v,H)∨(∃t n c,o.op = .makeSlice t n c∧zj2 P t (ρ n) (ρ c)=some v)∨∃c s x t u,o.op = .call c∧c.callee = .builtin .append∧c.args.toList=[s,x]∧c.argTypes.toList=[t,u]∧zwc P t u (ρ s) (ρ x)=some v
theorem zml{H ρ ρ' o v}(h:∀x∈o.op.operands,ρ x=ρ' x)(hq:QP P H ρ o v):QP P H ρ' o v:=by
 rcases hq with hq|⟨c,f,args,h1,h2,h3⟩|hq|⟨t,n,c,h1,h2⟩|⟨c,s,x,t,u,h1,h2,h3,h4,h5⟩
 exact .inl (by rw[<-yos h];exact hq);exact .inr (.inl ⟨c,f,args,h1,by rw[<-zld (ρ:=ρ) (λx hx=>h x (by rw[h1];exact hx))];exact h2,h3⟩);exact .inr (.inr (.inl (by rw[<-y7x h];exact hq)));exact .inr (.inr (.inr (.inl ⟨t,n,c,h1,by grind[Op.operands]⟩)))
 exact .inr (.inr (.inr (.inr ⟨c,s,x,t,u,h1,h2,h3,h4,by
  rw[<-h s (by rw[h1];simp[Op.operands,Call.operands];right;rw[<-Array.mem_toList_iff,h3];simp),<-h x (by rw[h1];simp[Op.operands,Call.operands];right;rw[<-Array.mem_toList_iff,h3];simp)];exact h5⟩)))
def zr6(P:Program)(H:Heap)(ρ:Operand->V)(op:Op)(v:V)(H':Heap):Prop:=∃t len ps e sz ws,op = .buildSlice t len ps∧zcp P t len (partsOf ρ ps)=some (.sl sz ws true)∧len≠0∧P.underlying t=some (.slice e)∧v = .hs H.lv H.L.length 0 0 ws.length false∧H'=H.push (.arr 0 e sz ws (some ws.length))
theorem zr6.sound{W g H H' ρ r o v}(hG:Good W g H)(hρ:∀x,Rel W g H (ρ x) (r x))(h:zr6 P H ρ o.op v H'):z8c P W g H (execOp r o) v H':=by
 obtain⟨t,len,ps,e,sz,ws,hop,b1,hlen,hu,rfl,rfl⟩:=h;unfold execOp;obtain⟨r1,r2⟩:=zly hρ ps
 grind[zvr]
theorem zr6.congr{H H' ρ ρ' o v}(h:∀x∈o.operands,ρ x=ρ' x)(hx:zr6 P H ρ o v H'):zr6 P H ρ' o v H':=by
 obtain⟨t,len,ps,e,sz,ws,rfl,b1,b2⟩:=hx;refine⟨t,len,ps,e,sz,ws,rfl,?_,b2⟩;rw[<-b1]
 congr 1
 refine List.map_congr_left λp hp =>?_
 rw[h p.2 (List.mem_toArray.2 (Qbc.2 ⟨p,hp,rfl⟩))]
def Eff2(P:Program)(H:Heap)(ρ:Operand->V)(op:Op)(v:V)(H':Heap):Prop:=(yx3 op=true∧ox P H ρ op=some (v,H'))∨zqt P H ρ op=some (v,H')∨zr6 P H ρ op v H'
theorem z01u{H ρ ρ' o}(he:yx3 o=true)(h:∀x∈o.operands,ρ x=ρ' x):ox P H ρ o=ox P H ρ' o:=by
 cases o
 case alloc t=>rfl
 case box t x=>grind[ox,Op.operands]
 case store t a x=>grind[ox,Op.operands]
 case call c=>
  simp[yx3]at he;split at he
  grind[ox,Op.operands,Call.operands]
  grind[ox,zda]
  cases he
 all_goals cases he
theorem zt7{H H' ρ ρ' o v}(h:∀x∈o.operands,ρ x=ρ' x)(hx:Eff2 P H ρ o v H'):Eff2 P H ρ' o v H' :=
 hx.imp (λq=>⟨q.1,by rw[<-z01u q.1 h];exact q.2⟩) λq=>q.imp (λq=>by rw[<-y7x h];exact q) λq=>q.congr h
def MV(P:Program)(ops:Array Oper)(S:Heap->Prop)(c:Info)(σ:St)(o:Oper)(v:V)(H':Heap):Prop :=
 (yzu ops σ o=some false∧v = .tup []∧H'=σ.H) ∨
 (yzu ops σ o=some true∧S σ.H ∧
  ((c.eff=false∧H'=σ.H∧∀H'',S H''->zyv c.K σ.H H''->QP P H'' σ.ev o v) ∨
   (c.eff=true∧True∧Eff2 P σ.H σ.ev o.op v H'∧S H'∧∀i,¬c.W i->obs H' i=obs σ.H i)))
def z7s(σ:St)(o:Oper)(v:V)(H':Heap):St:=({σ with H:=H'}:St).put o.dst v
theorem y3j{σ o v H' x}(h:∀d,o.dst=some d->x ≠ .tmp d):(z7s σ o v H').ev x=σ.ev x :=
 (z03g (σ:={σ with H:=H'}) h).trans (by cases x <;> rfl)
theorem zyd{σ o v H'}:(z7s σ o v H').H=H':=z01d
theorem zlh{σ o oj v H'}(h:∀d,o.dst=some d->d∉oj.looksAt ops):yzu ops (z7s σ o v H') oj=yzu ops σ oj :=
 (y7i (σ:={σ with H:=H'}) h).trans rfl
theorem ycb{σ oi oj v u A B C}(h:∀d,oi.dst=some d->oj.dst≠some d):z7s (z7s σ oi v A) oj u C=z7s (z7s σ oj u B) oi v C:=by
 have e1:∀(o:Oper) (w:V) (H:Heap),({z7s σ o w H with H:=C}:St)=({σ with H:=C}:St).put o.dst w:=λo w H=>by unfold z7s;cases o.dst <;> rfl
 unfold z7s at e1 ⊢;rw[e1,e1];exact put_comm v u h
theorem z044{S ci cj oi oj}(hap:oi.apart ops oj=true)(hee:¬(ci.eff=true∧cj.eff=true))(hij:ci.eff=false->cj.eff=true->∀x,ci.K x->¬cj.W x)(hji:cj.eff=false->ci.eff=true->∀x,cj.K x->¬ci.W x)
  {σ v u H1 H2} (h1:MV P ops S ci σ oi v H1) (h2:MV P ops S cj (z7s σ oi v H1) oj u H2) :
  ∃H1',MV P ops S cj σ oj u H1'∧MV P ops S ci (z7s σ oj u H1') oi v H2:=by
 obtain⟨a1,a2,a3⟩:=Oper.apart_spec hap;have evj:∀{w:V}{H:Heap},∀x∈oj.op.operands,(z7s σ oi w H).ev x=σ.ev x:=λ{w H} x hx=>y3j λd hd=>zek (a1 d hd) x hx
 have evi:∀{w:V}{H:Heap},∀x∈oi.op.operands,(z7s σ oj w H).ev x=σ.ev x:=λ{w H} x hx=>y3j λd hd=>zek (a3 d hd) x hx
 have wj:∀{w:V}{H:Heap},yzu ops (z7s σ oi w H) oj=yzu ops σ oj:=zlh a1;have wi:∀{w:V}{H:Heap},yzu ops (z7s σ oj w H) oi=yzu ops σ oi:=zlh a3;unfold MV at h1 h2 ⊢;rw[wj,zyd]at h2;simp only[wi,zyd]
 rcases h1 with ⟨b1,rfl,rfl⟩|⟨b1,bs,⟨b2,rfl,b3⟩|⟨b2,b3,b4,b5,b6⟩⟩
 rcases h2 with ⟨d1,rfl,rfl⟩|⟨d1,ds,⟨d2,rfl,d3⟩|⟨d2,d3,d4,d5,d6⟩⟩
 exact⟨σ.H,.inl ⟨d1,rfl,rfl⟩,.inl ⟨b1,rfl,rfl⟩⟩;exact⟨σ.H,.inr ⟨d1,ds,.inl ⟨d2,rfl,λH'' k1 k2=>zml evj (d3 H'' k1 k2)⟩⟩,.inl ⟨b1,rfl,rfl⟩⟩;exact⟨H2,.inr ⟨d1,ds,.inr ⟨d2,d3,zt7 evj d4,d5,d6⟩⟩,.inl ⟨b1,rfl,rfl⟩⟩
 rcases h2 with ⟨d1,rfl,rfl⟩|⟨d1,ds,⟨d2,rfl,d3⟩|⟨d2,d3,d4,d5,d6⟩⟩
 exact⟨σ.H,.inl ⟨d1,rfl,rfl⟩,.inr ⟨b1,bs,.inl ⟨b2,rfl,λH'' k1 k2=>zml (λx hx=>(evi x hx).symm) (b3 H'' k1 k2)⟩⟩⟩;exact⟨σ.H,.inr ⟨d1,ds,.inl ⟨d2,rfl,λH'' k1 k2=>zml evj (d3 H'' k1 k2)⟩⟩,.inr ⟨b1,bs,.inl ⟨b2,rfl,λH'' k1 k2=>zml (λx hx=>(evi x hx).symm) (b3 H'' k1 k2)⟩⟩⟩
 refine⟨H2,.inr ⟨d1,ds,.inr ⟨d2,d3,zt7 evj d4,d5,d6⟩⟩,.inr ⟨b1,d5,.inl ⟨b2,rfl,λH'' k1 k2=>zml (λx hx=>(evi x hx).symm) (b3 H'' k1 (zyv.trans (λx hx=>d6 x (hij b2 d2 x hx)) k2))⟩⟩⟩
 rcases h2 with ⟨d1,rfl,rfl⟩|⟨d1,ds,⟨d2,rfl,d3⟩|⟨d2,d3,d4,d5,d6⟩⟩
 exact⟨σ.H,.inl ⟨d1,rfl,rfl⟩,.inr ⟨b1,bs,.inr ⟨b2,b3,zt7 (λx hx=>(evi x hx).symm) b4,b5,b6⟩⟩⟩;have hs:zyv cj.K σ.H H2:=λx hx=>b6 x (hji d2 b2 x hx)
 exact⟨σ.H,.inr ⟨d1,bs,.inl ⟨d2,rfl,λH'' k1 k2=>zml evj (d3 H'' k1 (hs.symm.trans k2))⟩⟩,.inr ⟨b1,bs,.inr ⟨b2,b3,zt7 (λx hx=>(evi x hx).symm) b4,b5,b6⟩⟩⟩
 grind
def MC(P:Program)(ops:Array Oper)(S:Heap->Prop)(c:Info)(σ:St)(o:Oper)(K:V->Heap->Prop)(Kp:V->St->Prop):Prop :=
 c.eff=true∧c.call=true∧yzu ops σ o=some true∧∃cl f args Post,o.op = .call cl∧target σ.ev cl=some (f,args)∧znq P f args σ.H Post ∧
  (∀v H',Post (.ret v) H'->S H'∧(∀i,¬c.W i->obs H' i=obs σ.H i)∧K v H')∧∀v H',Post (.pan v) H'->Kp v {σ with H:=H'}
theorem MC.imp{S c σ o K K' Kp}(h:MC P ops S c σ o K Kp)(hk:∀v H',S H'->(∀i,¬c.W i->obs H' i=obs σ.H i)->K v H'->K' v H'):MC P ops S c σ o K' Kp:=by
 obtain⟨h1,h2,h3,cl,f,args,Post,h4,h5,h6,h7,h8⟩:=h;exact⟨h1,h2,h3,cl,f,args,Post,h4,h5,h6,λv H' hp=>by grind,h8⟩
inductive Dep (md:Region.Mode) (ops:Array Oper) (a:Nat):Nat->Prop where
 |one (b:Nat) (o:Oper) (e:Edge) (ho:ops[b]? = some o) (he:e∈o.after) (hb:Region.binds md e=true) (hon:e.on=a):Dep md ops a b
 |more (b:Nat) (o:Oper) (e:Edge) (ho:ops[b]? = some o) (he:e∈o.after) (hb:Region.binds md e=true) (h:Dep md ops a e.on):Dep md ops a b
def Free(md:Region.Mode)(ops:Array Oper)(i j:Nat):Prop:=¬Dep md ops i j∧¬Dep md ops j i
def Down(md:Region.Mode)(ops:Array Oper)(listed:Array Bool):Prop:=∀b o,ops[b]? = some o->listed.getD b false=true->∀e∈o.after,Region.binds md e=true->listed.getD e.on false=true
theorem Down.dep{listed}(h:Down md ops listed){a b}(hd:Dep md ops a b):listed.getD b false=true->listed.getD a false=true:=by
 induction hd with
 |one b o e ho he hb hon=>intro hl;subst hon;exact h b o ho hl e he hb
 |more b o e ho he hb _ ih=>intro hl;exact ih (h b o ho hl e he hb)
theorem Down.ready{listed}(h:Down md ops listed){a b}(hb:b∈Region.ready md ops listed)(hd:Dep md ops a b):listed.getD a false=true:=by
 obtain⟨_,o',ho',hall⟩:=mem_ready.1 hb
 cases hd with
 |one _ o e ho he hb hon=>grind
 |more _ o e ho he hb hd=>rw[ho']at ho;cases ho;exact h.dep hd (hall e he hb)
theorem Down.set{listed}(h:Down md ops listed){k}(hk:k∈Region.ready md ops listed):Down md ops (listed.setIfInBounds k true):=λb o ho hl e he hb=>by
 obtain⟨_,o',ho',hall⟩:=mem_ready.1 hk
 have up:∀j,listed.getD j false=true->(listed.setIfInBounds k true).getD j false=true:=λj hj=>by
  by_cases hjk:k=j
  grind
  simp_all
 refine up _ ?_;by_cases hbk:k=b
 grind
 rw[getD_set_ne false hbk]at hl;exact h b o ho hl e he hb
def z00m(md:Region.Mode)(ops:Array Oper)(i j:Nat)(ci cj:Info):Prop:=Free md ops i j->(¬(ci.eff=true∧cj.eff=true))∧(ci.eff=false->cj.eff=true->∀x,ci.K x->¬cj.W x)∧(cj.eff=false->ci.eff=true->∀x,cj.K x->¬ci.W x)
def GP(md:Region.Mode)(ops:Array Oper)(prev:List (Nat×Info))(j:Nat)(c:Info):Prop:=∀p∈prev,z00m md ops p.1 j p.2 c
section
variable (P ops) (md) (S : Heap → Prop) (G : Nat → Info → Prop) (Kp : V → St → Prop)
def GoA(i:Nat)(K:St->Prop)(σ:St):Prop :=
 match ops[i]? with
 |none=>K σ
 |some o=>∃c,G i c∧((∃v H',c.call=false∧MV P ops S c σ o v H'∧K (z7s σ o v H'))∨MC P ops S c σ o (λv H'=>K (z7s σ o v H')) Kp)
def AM(R:St->Prop):Nat->Array Bool->St->Prop
 |0,listed,σ=>Region.ready md ops listed=[]∧R σ
 |fuel+1,listed,σ=>(Region.ready md ops listed=[]->R σ)∧∀i∈Region.ready md ops listed,GoA P ops S G Kp i (AM R fuel (listed.setIfInBounds i true)) σ
end
variable {S : Heap → Prop} {G G' : Nat → Info → Prop} {Kp : V → St → Prop}
theorem MV.goA{i o v σ c H'}(hi:ops[i]? = some o)(hc:G i c)(hcl:c.call=false)(hy:MV P ops S c σ o v H'){K}(h:K (z7s σ o v H')):GoA P ops S G Kp i K σ:=by
 grind[GoA]
theorem AM.mono(hg:∀j c,G' j c->G j c){R}:∀(fuel) (listed) (σ),AM P ops md S G' Kp R fuel listed σ->AM P ops md S G Kp R fuel listed σ
 |0,_,_,h=>h
 |fuel+1,listed,σ,h=>⟨h.1,λi hi=>by
  have h1:=h.2 i hi;unfold GoA at h1 ⊢;split;rename_i ho;simp[ho]at h1;exact AM.mono hg fuel _ _ h1;rename_i o ho;simp only[ho]at h1;obtain⟨c,h0,⟨v,H',hc,h2,h3⟩|hm⟩:=h1;exact⟨c,hg _ _ h0,.inl ⟨v,H',hc,h2,AM.mono hg fuel _ _ h3⟩⟩
  exact⟨c,hg _ _ h0,.inr (hm.imp λv H' _ _ k=>AM.mono hg fuel _ _ k)⟩⟩
theorem yr1{W0 g0 H0 i σ K K' Q'}
  (hk:∀W a g σ,K σ->(σ.e0=H0.E∧Step W0 g0 H0 W g σ.H)->zzb W a g σ->K' a W) (hkp:∀W a g σ v c,Kp v σ->(σ.e0=H0.E∧Step W0 g0 H0 W g σ.H)->zzb W a g σ->Rel W g σ.H v c->Q' (.panic [{v:=c,recovered:=false}]) a W)
  {W a g} (hh:GoA P ops S G Kp i K σ) (hS:σ.e0=H0.E∧Step W0 g0 H0 W g σ.H) (hG:zzb W a g σ):wpOp P ops Q' i K' a W:=by
 unfold GoA at hh;unfold wpOp;split
 grind
 ·rename_i o ho;simp only[ho]at hh;obtain⟨c0,_,hh⟩:=hh;have he0:∀{v:V}{H':Heap},(z7s σ o v H').e0=σ.e0:=λ{v H'}=>by unfold z7s;cases o.dst <;> rfl
  rcases hh with ⟨v,H',_,hy,hkk⟩|⟨_,_,hw,cl,f,args,Post,hop,ht,hc,hret,hpan⟩
  ·have fin:∀c W' g',Step W g σ.H W' g' H'->Good W' g' H'->Rel W' g' H' v c->K' (a.put o.dst c) W':=λc W' g' s1 s2 s3=>
    hk W' _ g' _ hkk (by rw[zyd,he0];exact⟨hS.1,hS.2.trans s1⟩) (hG.next s1 s2 s3 o.dst)
   rcases hy with ⟨hw,rfl,rfl⟩|⟨hw,hs,⟨_,rfl,hv⟩|⟨_,_,hv,_,_⟩⟩
   rw[z0c hG hw,Qbr (by simp)];exact fin undef W g (.refl _ _ _) hG.good (.tup [] #[] rfl (by simp));rw[z0c hG hw,Qbq rfl];left;unfold Oper.wp
   rcases hv σ.H hs (.refl _ _)with hv|⟨c,f,args,hop,ht,hcl⟩|hv|⟨t,n,cz,hop,hv⟩|⟨cc,s,x,t,u,hop,hcal,hargs,htys,hv⟩
   obtain⟨c,W',h1,h2,h3⟩:=y45 (P:=P) hG.good (r:=a.eval) hG.ev hv;rw[h1];exact fin c W' g h2.step (hG.good.grow h2) h3;obtain⟨cargs,k1,k2⟩:=zfk (P:=P) (ty:=o.type) hG.ev ht
   have hex:(execOp a.eval o).run P W=(callFunc f cargs).run P W:=by
    rw[<-k2 W];unfold execOp;rw[hop]
   rcases hcl W g cargs hG.good k1 with ⟨e1,e2⟩|⟨c,W',g',e1,e2,e3,e4⟩
   rw[hex,e1];refine e2.mono λe W' ⟨c,g',he,s1,s2,s3⟩ =>?_
   grind
   rw[hex,e1];exact fin c W' g' e2 e3 e4;obtain⟨c,W',g',h1,h2,h3,h4⟩:=ztx (P:=P) hG.good hG.ev hv
   rcases h1 with h1|⟨h1,h1'⟩
   rw[h1];exact fin c W' g' h2 h3 h4;rw[h1];subst h1';exact fin _ W' g' h2 h3 h4;obtain⟨c,W',g',h1,h2,h3,h4⟩:=yct (P:=P) hG.good hv (hG.ev n) (hG.ev cz);have hex:(execOp a.eval o).run P W=(do pure (.value (<-Instr.makeSlice t (a.eval n) (a.eval cz))):Sem Next).run P W:=by unfold execOp;rw[hop]
   rw[hex]
   rcases h1 with h1|⟨h1,h1'⟩
   rw[h1];exact fin c W' g' h2 h3 h4;rw[h1];subst h1';exact fin _ W' g' h2 h3 h4;obtain⟨c,W',g',h1,h2,h3,h4⟩:=yhh (P:=P) (ty:=o.type) hG.good hv (hG.ev s) (hG.ev x)
   have hex:(execOp a.eval o).run P W=(do pure (.value (<-Builtin.append_ #[t,u] o.type #[a.eval s,a.eval x])):Sem Next).run P W:=by
    obtain⟨callee,args,argTypes⟩:=cc;simp at hcal hargs htys;subst hcal;obtain rfl:=z05 hargs;obtain rfl:=z05 htys
    grind[execOp,resolve,invoke,builtin]
   rw[hex]
   rcases h1 with h1|⟨h1,h1'⟩
   rw[h1];exact fin c W' g' h2 h3 h4;rw[h1];subst h1';exact fin _ W' g' h2 h3 h4;rw[z0c hG hw,Qbq rfl];left;unfold Oper.wp;obtain⟨c,W',g',h1,h2,h3,h4⟩:=hv.elim (λq=>yei (P:=P) hG.good hG.ev q.2) (λq=>q.elim (λq=>ztx (P:=P) hG.good hG.ev q) (λq=>q.sound hG.good hG.ev))
   rcases h1 with h1|⟨h1,h1'⟩
   rw[h1];exact fin c W' g' h2 h3 h4;rw[h1];subst h1';exact fin _ W' g' h2 h3 h4
  ·rw[z0c hG hw,Qbq rfl];left;unfold Oper.wp;obtain⟨cargs,k1,k2⟩:=zfk (P:=P) (ty:=o.type) hG.ev ht
   have hex:(execOp a.eval o).run P W=(callFunc f cargs).run P W:=by
    rw[<-k2 W];unfold execOp;rw[hop]
   obtain⟨e1,e2⟩:=hc W g cargs hG.good k1;rw[hex,e1];refine e2.mono λe W' ⟨o',H',g',p1,p2,p3,p4⟩ =>?_
   cases o' with
   |ret r=>
    obtain⟨c',he,hr'⟩:=p4;subst he
    exact hk W' (a.put o.dst c') g' _ (hret r H' p1).2.2 (by rw[zyd,he0];exact⟨hS.1,hS.2.trans p2⟩) (hG.next p2 p3 hr' o.dst)
   |pan v=>
    obtain⟨c',he,hr'⟩:=p4;subst he;have hn:=hG.next p2 p3 (.any undef) none;exact hkp W' a g' {σ with H:=H'} v c' (hpan v H' p1) ⟨hS.1,hS.2.trans p2⟩ hn hr'
theorem y7m{W0 g0 H0 R Q'}(hR:∀W a g σ,R σ->(σ.e0=H0.E∧Step W0 g0 H0 W g σ.H)->zzb W a g σ->Q' .normal a W)
  (hkp:∀W a g σ v c,Kp v σ->(σ.e0=H0.E∧Step W0 g0 H0 W g σ.H)->zzb W a g σ->Rel W g σ.H v c->Q' (.panic [{v:=c,recovered:=false}]) a W) :
  ∀(fuel) (listed) (σ) (W) (a) (g),AM P ops md S G Kp R fuel listed σ->(σ.e0=H0.E∧Step W0 g0 H0 W g σ.H)->zzb W a g σ->wpAny P md ops Q' fuel listed a W
 |0,_,σ,W,a,g,h,hS,hG=>⟨h.1,hR W a g σ h.2 hS hG⟩
 |fuel+1,listed,σ,W,a,g,h,hS,hG=>⟨λh0=>hR W a g σ (h.1 h0) hS hG,λi hi=>yr1 (λW a g σ' hk hS hG=>y7m hR hkp fuel _ σ' W a g hk hS hG) hkp (h.2 i hi) hS hG⟩
theorem z04j{ci cj oi oj}(hap:oi.apart ops oj=true)(hci:ci.eff=false)(hij:∀x,ci.K x->¬cj.W x)(hkp:∀v (σ:St) t',Kp v σ->t'.length=σ.t.length->Kp v {σ with t:=t'})
  {σ v H1} (h1:MV P ops S ci σ oi v H1) {K} (h2:MC P ops S cj (z7s σ oi v H1) oj K Kp):H1=σ.H ∧
  MC P ops S cj σ oj (λu H'=>MV P ops S ci (z7s σ oj u H') oi v H'∧K u H') Kp:=by
 obtain⟨a1,a2,a3⟩:=Oper.apart_spec hap;have evj:∀{w:V}{H:Heap},∀x∈oj.op.operands,(z7s σ oi w H).ev x=σ.ev x:=λ{w H} x hx=>y3j λd hd=>zek (a1 d hd) x hx
 have evi:∀{w:V}{H:Heap},∀x∈oi.op.operands,(z7s σ oj w H).ev x=σ.ev x:=λ{w H} x hx=>y3j λd hd=>zek (a3 d hd) x hx
 have hH:H1=σ.H:=by
  rcases h1 with ⟨_,_,h⟩|⟨_,_,⟨_,h,_⟩|⟨h,_⟩⟩
  exact h;exact h
  grind
 subst hH;refine⟨rfl,?_⟩;obtain⟨b1,b2,b3,cl,f,args,Post,b4,b5,b6,b7,b8⟩:=h2;rw[zlh a1]at b3;rw[zld (ρ':=σ.ev) (λx hx=>evj x (by rw[b4];exact hx))]at b5;rw[zyd]at b6 b7;refine⟨b1,b2,b3,cl,f,args,Post,b4,b5,b6,λu H' hp =>?_,λu H' hp =>?_⟩;obtain⟨c1,c2,c3⟩:=b7 u H' hp;refine⟨c1,c2,?_,c3⟩;unfold MV at h1 ⊢;rw[zlh a3,zyd]
 rcases h1 with ⟨d1,d2,_⟩|⟨d1,d2,⟨d3,_,d4⟩|⟨h,_⟩⟩
 grind
 exact .inr ⟨d1,c1,.inl ⟨d3,rfl,λH'' k1 k2=>zml (λx hx=>(evi x hx).symm) (d4 H'' k1 (zyv.trans (λx hx=>c2 x (hij x hx)) k2))⟩⟩
 grind
 have:=hkp u _ σ.t (b8 u H' hp) (by unfold z7s;cases oi.dst <;> simp[St.put]);have e:({({z7s σ oi v σ.H with H:=H'}:St)with t:=σ.t}:St)={σ with H:=H'}:=by unfold z7s;cases oi.dst <;> rfl
 grind
theorem z02t(hkp:∀v (σ:St) t',Kp v σ->t'.length=σ.t.length->Kp v {σ with t:=t'}){R i oi ci}(hi:ops[i]? = some oi)(hci:G i ci)(hcc:ci.call=false)(hg:∀j c,G' j c->G j c∧z00m md ops i j ci c) :
  ∀(fuel) (listed) (σ),Down md ops listed ->
   (∀j oj,ops[j]? = some oj->j≠i->listed.getD j true=false->(∀e∈oj.after,Region.binds md e=true->e.on≠i)->oi.apart ops oj=true) ->
   i∈Region.ready md ops listed->∀v H',MV P ops S ci σ oi v H'->AM P ops md S G' Kp R fuel (listed.setIfInBounds i true) (z7s σ oi v H')->AM P ops md S G Kp R (fuel+1) listed σ:=by
 intro fuel
 induction fuel with
 |zero=>
  intro listed σ _ _ hr v H' hy H;refine⟨λh=>(by grind),λj hj =>?_⟩;by_cases hji:j=i;subst hji;exact hy.goA hi hci hcc (AM.mono (λj c h=>(hg j c h).1) _ _ _ H);have:=ready_mono hj hji;rw[H.1]at this
  cases this
 |succ fuel ih=>
  intro listed σ hdown hfree hr v H' hy H;refine⟨λh=>(by grind),λj hj =>?_⟩;by_cases hji:j=i;subst hji;exact hy.goA hi hci hcc (AM.mono (λj c h=>(hg j c h).1) _ _ _ H);have h1:=H.2 j (ready_mono hj hji);obtain⟨hjun,oj,hoj,hall⟩:=mem_ready.1 hj;obtain⟨hun,oi',hoi',hall'⟩:=mem_ready.1 hr
  have hnot:∀e∈oj.after,Region.binds md e=true->e.on≠i:=λe he hb heq=>by
   grind
  have hfr:Free md ops i j:=⟨λhd=>(by have:=hdown.ready hj hd;grind),λhd=>(by have:=hdown.ready hr hd;grind)⟩;have hap:=hfree j oj hoj hji hjun hnot
  have hfree':∀k ok,ops[k]? = some ok->k≠i->(listed.setIfInBounds j true).getD k true=false ->
    (∀e∈ok.after,Region.binds md e=true->e.on≠i)->oi.apart ops ok=true:=λk ok hk hki hun hno=>by
   refine hfree k ok hk hki ?_ hno;by_cases hjk:j=k;subst hjk;exact hjun;rw[getD_set_ne true hjk]at hun;exact hun
  unfold GoA at h1 ⊢;simp only[hoj]at h1 ⊢;obtain⟨cj,hcj,⟨u,H2,hjc,hm,hk⟩|hm⟩:=h1;obtain⟨hgj,hpair⟩:=hg j cj hcj;obtain⟨p1,p2,p3⟩:=hpair hfr;obtain⟨H1',q1,q2⟩:=z044 hap p1 p2 p3 hy hm;refine⟨cj,hgj,.inl ⟨u,H1',hjc,q1,ih (listed.setIfInBounds j true) _ (hdown.set hj) hfree' (ready_mono hr (Ne.symm hji)) v H2 q2 ?_⟩⟩
  grind[Array.setIfInBounds_comm,ycb,Oper.apart_spec]
  obtain⟨hgj,hpair⟩:=hg j cj hcj;obtain⟨p1,p2,p3⟩:=hpair hfr
  have hie:ci.eff=false:=by
   cases he:ci.eff with
   |false=>rfl
   |true=>exact(p1 ⟨he,hm.1⟩).elim
  obtain⟨rfl,q⟩:=z04j (Kp:=Kp) hap hie (p2 hie hm.1) hkp hy hm;refine⟨cj,hgj,.inr (q.imp λu H2 _ _ ⟨q2,hk⟩=>ih (listed.setIfInBounds j true) _ (hdown.set hj) hfree' (ready_mono hr (Ne.symm hji)) v H2 q2 ?_)⟩
  grind[Array.setIfInBounds_comm,ycb,Oper.apart_spec]
def y5l(md:Region.Mode)(ops:Array Oper):List Nat->Array Bool->Bool
 |[],listed=>(Region.ready md ops listed).isEmpty
 |k::r,listed=>(Region.ready md ops listed).contains k&&Region.free md ops listed k&&y5l md ops r (listed.setIfInBounds k true)
def zq6(P:Program)(ops:Array Oper)(md:Region.Mode)(S:Heap->Prop)(Kp:V->St->Prop)(R:St->Prop):List Nat->List (Nat×Info)->St->Prop
 |[],_,σ=>R σ
 |k::ks,prev,σ=>∃o c,ops[k]? = some o∧GP md ops prev k c∧((∃v H',c.call=false∧MV P ops S c σ o v H'∧zq6 P ops md S Kp R ks ((k,c)::prev) (z7s σ o v H')) ∨
  ((∀j∈ks,¬Free md ops k j)∧MC P ops S c σ o (λv H'=>zq6 P ops md S Kp R ks ((k,c)::prev) (z7s σ o v H')) Kp))
theorem z00a(hkp:∀v (σ:St) t',Kp v σ->t'.length=σ.t.length->Kp v {σ with t:=t'}){R}:∀(l) (prev) (listed) (σ),Down md ops listed->(∀j,listed.getD j true=false->j∈l) ->
  y5l md ops l listed=true->zq6 P ops md S Kp R l prev σ->AM P ops md S (GP md ops prev) Kp R l.length listed σ
 |[],_,listed,σ,_,_,hB,h=>⟨by simpa[y5l]using hB,h⟩
 |k::l,prev,listed,σ,hdown,hlow,hB,h=>by
  obtain⟨o,c,h0,hc0,h⟩:=h;simp[y5l,Qag]at hB;obtain⟨⟨hr,hf⟩,hB'⟩:=hB
  have hlow':∀j,(listed.setIfInBounds k true).getD j true=false->j∈l:=λj hj=>by
   by_cases hjk:k=j
   simp_all
   rw[getD_set_ne true hjk]at hj
   rcases Qbg.1 (hlow j hj)with e|e
   omega;exact e
  have rest:∀σ',zq6 P ops md S Kp R l ((k,c)::prev) σ'->AM P ops md S (GP md ops ((k,c)::prev)) Kp R l.length (listed.setIfInBounds k true) σ':=λσ' hrest=>
   z00a hkp l _ _ _ (hdown.set hr) hlow' hB' hrest
  rcases h with ⟨v,H',hc,hy,hrest⟩|⟨hlate,hm⟩
  exact z02t (G:=GP md ops prev) (G':=GP md ops ((k,c)::prev)) hkp h0 hc0 hc (λj c' h'=>⟨λp hp=>h' p (Qai _ hp),h' _ Qak⟩) l.length listed σ hdown (Region.free_spec h0 hf) hr v H' hy (rest _ hrest);refine⟨λh=>(by grind),λj hj =>?_⟩;by_cases hjk:j=k;subst hjk;unfold GoA;simp[h0]
  exact⟨c,hc0,.inr (hm.imp λv H' _ _ hk=>AM.mono (λj' c' h' p hp=>h' p (Qai _ hp)) _ _ _ (rest _ hk))⟩
  exfalso
  obtain⟨hjun,oj,hoj,hall⟩:=mem_ready.1 hj;obtain⟨hun,oi',hoi',hall'⟩:=mem_ready.1 hr;refine hlate j ?_ ⟨λhd=>(by have:=hdown.ready hj hd;grind),λhd=>(by have:=hdown.ready hr hd;grind)⟩
  rcases Qbg.1 (hlow j hjun)with e|e
  exact(hjk e).elim;exact e
theorem yyj{id σ Q}(hm:P.follows .mixedOrders=true)(l)(hB:y5l .any ops l (Array.replicate ops.size false)=true)(hl:l.length=ops.size)(hall:∀j,j<ops.size->j∈l)
  (h:zq6 P ops .any S (λv σ=>∀t',t'.length=σ.t.length->Q (.panic v) {σ with t:=t'}) (Q .normal) l [] σ) :
  Sat P (.region id ops true) σ Q:=λW0 g0 H0 W a g _ hS hG=>by
 refine zi7 zxo hm ?_;have hG':=hG.drawn (W.drawn+1);have hS':σ.e0=H0.E∧Step W0 g0 H0 {W with drawn:=W.drawn+1} g σ.H:=⟨hS.1,hS.2.trans (Grow.drawn W _).step⟩
 have:=z00a (P:=P) (md:=.any) (R:=Q .normal) (λv σ t' h ht=>λt'' ht''=>h t'' (ht''.trans ht)) l [] (Array.replicate ops.size false) σ (λb o _ hb=>by grind[getD_replicate_false]) (λj hj=>by
  grind) hB h
 rw[hl]at this;exact y7m (Q':=yil W0 g0 H0 Q) (λW a g τ hτ hS hG=>⟨g,τ,.normal,.normal,hS,hG,hτ⟩) (λW a g τ v c hτ hS hG hr=>⟨g,τ,.panic v,.panic v c hr,hS,hG,hτ τ.t rfl⟩) _ _ σ _ a g this hS' hG'
theorem ye4{H H' t l i off}(h:H'.get l i=H.get l i):zco P H' t (.ptr l i off)=zco P H t (.ptr l i off):=by simp[h]
theorem z00n{off}{cs cs':List V}(h:cs'[off]? = cs[off]?):(if off+1<=cs'.length then some (V.agg ((cs'.drop off).take 1))else none)=if off+1<=cs.length then some (V.agg ((cs.drop off).take 1))else none:=by
 have e:∀l:List V,(if off+1<=l.length then some (V.agg ((l.drop off).take 1))else none)=l[off]?.map λv=>V.agg [v]:=λl=>by
  by_cases hl:off<l.length;rw[Qbq (by omega),List.drop_eq_getElem_cons hl,Qab hl];rfl;rw[Qbr (by omega),List.getElem?_eq_none (by omega)];rfl
 rw[e,e,h]
theorem z047{t off:Nat}{cs cs'}(h1:P.cellsOf t=1)(h:cs'[off]? = cs[off]?):rd P t cs' off=rd P t cs off:=by
 grind[rd,z00n]
theorem yx1{t off:Nat}{cs}(h1:P.cellsOf t=1)(h:cs[off]? = none):rd P t cs off=none:=by
 unfold rd;split;rfl
 grind
 grind
 exact h
theorem y9b{H H'}{t i off:Nat}(h1:P.cellsOf t=1)(hl:H'.lv=H.lv)(h:cellAt H'.L[i]? off=cellAt H.L[i]? off):zco P H' t (.ptr H.lv i off)=zco P H t (.ptr H.lv i off):=by
 have get:∀{K:Heap},K.lv=H.lv->zco P K t (.ptr H.lv i off)=(cellAt K.L[i]? off).bind λv=>rd P t (List.replicate off .any++[v]) off:=λ{K} hK=>by
  simp[Heap.get,hK,if_true]
  cases hk:K.L[i]? with
  |none=>rfl
  |some o=>cases o with
   |none=>rfl
   |some o=>cases o with
    |cells cs=>
     show rd P t cs off=(cs[off]?).bind _
     grind[yx1,z047]
    |_=>rfl
 grind
theorem zv6{H H' t cs off}:zco P H' t (.ref cs off)=zco P H t (.ref cs off):=rfl
theorem y0q{H H' t l i ver idx off}(h:H'.get l i=H.get l i):zco P H' t (.ap l i ver idx off)=zco P H t (.ap l i ver idx off):=by simp[y0w,h]
theorem y2l{H H' t l i ver off n full y}(h:H'.get l i=H.get l i):yzo P H' t (.hs l i ver off n full) y=yzo P H t (.hs l i ver off n full) y:=by simp[yzo,h]
theorem ynn{H H' t l i ver off n full}(h:H'.get l i=H.get l i):zqd P H' t (.hs l i ver off n full)=zqd P H t (.hs l i ver off n full):=by simp[zqd,h]
def V.plain:V->Bool
 |.hs .. | .map .. => false
 |_=>true
theorem yrz{H H' t x}(h:x.plain=true):zqd P H' t x=zqd P H t x:=by cases x <;> first|rfl|cases h
theorem y6i{H H' t x y}(h:x.plain=true):yzo P H' t x y=yzo P H t x y:=by cases x <;> first|rfl|cases h
theorem ykm{H H' t x a b c}(h:x.plain=true):zhz P H' t x a b c=zhz P H t x a b c:=by cases x <;> first|rfl|cases h
end
def yvd(all:List Oper)(i j:Nat):Bool:=match all[j]? with
 |some o=>o.after.toList.any λe=>Region.binds .any e&&Nat.beq e.on i
 |none=>false
def depB(all:List Oper):Nat->Nat->Nat->Bool
 |0,i,j=>yvd all i j
 |n+1,i,j=>yvd all i j||(match all[j]? with
  |some o=>o.after.toList.any λe=>Region.binds .any e&&depB all n i e.on
  |none=>false)
def ylg(all:List Oper)(i j:Nat):Bool:=depB all 8 i j||depB all 8 j i
theorem yq8{ops}:∀(n) {i j},depB ops.toList n i j=true->Dep .any ops i j:=λn=>by
 have edge:∀{i j:Nat},yvd ops.toList i j=true->Dep .any ops i j:=λ{i j} h=>by
  unfold yvd at h;split at h;rename_i o ho;rw[List.any_eq_true]at h;obtain⟨e,he,hb⟩:=h;simp only[Qag]at hb;exact .one j o e (by simpa using ho) (by simpa using he) hb.1 (Qaj hb.2);cases h
 induction n with
 |zero=>intro i j h;exact edge h
 |succ n ih=>
  intro i j h;simp only[depB,Bool.or_eq_true]at h
  rcases h with h|h
  exact edge h;split at h;rename_i o ho;rw[List.any_eq_true]at h;obtain⟨e,he,hb⟩:=h;simp[Qag]at hb;exact .more j o e (by simpa using ho) (by simpa using he) hb.1 (ih hb.2);cases h
theorem zlx{ops i j}(h:ylg ops.toList i j=true):¬Free .any ops i j:=λhf=>by
 unfold ylg at h;rw[Bool.or_eq_true]at h
 rcases h with h|h
 exact hf.1 (yq8 8 h);exact hf.2 (yq8 8 h)
def pIf{α:Type}(b:Bool)(x y:Option α):Option α:=match b with|true=>x|false=>y
theorem yag{α}(b)(x y:Option α):pIf b x y=if b then x else y:=by cases b <;> rfl
def z82{α β:Type}(o:Option α)(k:α->Option β):Option β:=o.bind k
noncomputable def y8h{α R:Type}(es:List (B8×α))(f:B8->α->List (B8×α)->Option R)(g:Option R):Option R :=
 open Classical in
 match es with
 |[]=>g
 |[e]=>f e.1 e.2 []
 |e::e'::r=>if h:∃z,∀i p,(e::e'::r)[i]? = some p->f p.1 p.2 ((e::e'::r).eraseIdx i)=some z then some h.choose else none
def pOp{α:Type}(o:Oper)(x:Option α):Option α:=x
inductive Res (X R:Type) where
 |ok (r:R)
 |pan (x:X)
def zpx{X R S:Type}(o:Res X R)(f:R->Option S)(g:X->Option S):Option S:=match o with
 |.ok r=>f r
 |.pan x=>g x
inductive DTy where
 |bool
 |int (k:IntKind)
 |str
 |nat
 |sl (t:DTy)
 |st (i:Nat)
 deriving DecidableEq
def DTy.S(T:Nat->Type):DTy->Type
 |.bool=>Bool
 |.int _=>Int
 |.str=>B8
 |.nat=>Nat
 |.sl t=>List (t.S T)
 |.st i=>T i
def HL(T:Nat->Type):List DTy->Type
 |[]=>Unit
 |t::l=>t.S T×HL T l
def HL.app{T}:{a b:List DTy}->HL T a->HL T b->HL T (a++b)
 |[],_,_,y=>y
 |_::_,_,x,y=>(x.1,HL.app x.2 y)
def HL.fst{T}:(a:List DTy)->{b:List DTy}->HL T (a++b)->HL T a
 |[],_,_=>()
 |_::a,_,x=>(x.1,HL.fst a x.2)
def HL.snd{T}:(a:List DTy)->{b:List DTy}->HL T (a++b)->HL T b
 |[],_,x=>x
 |_::a,_,x=>HL.snd a x.2
structure Dat where
 T:Nat->Type
 fl:Nat->List DTy
 get:∀i,T i->HL T (fl i)
 make:∀i,HL T (fl i)->T i
 enc:∀i,T i->V
 ty:Nat->Option DTy
 ow:Nat->Nat->Option Nat:=λ_ _=>none
inductive TV (T:Nat->Type):Type where
 |any
 |bool (b:Bool)
 |int (k:IntKind) (n:Int)
 |str (s:B8)
 |nilp
 |nils
 |mapn
 |nilf
 |nili
 |sl (t:DTy) (xs:List (t.S T)) (fl:Nat)
 |own (s:Nat)
 |osl (s:Nat) (lo:Int)
 |ptr (s off:Nat)
 |bp (s off:Nat)
 |ref (cs:List (TV T)) (off:Nat)
 |ap (s:Nat) (t:DTy) (i:Int) (x:t.S T) (off:Nat)
 |map (s:Nat)
 |mc (t:DTy) (es:List (B8×t.S T))
 |fn (f:Nat) (first caps:List (TV T))
 |iface (t:Nat) (v:TV T)
 |agg (cs:List (TV T))
 |tup (vs:List (TV T))
 |dp (s:Nat) (i:Int) (off:Nat)
 |bsl (i:Nat) (cs:List (TV T))
inductive TO (T:Nat->Type):Type where
 |cells (cs:List (TV T))
 |acc (ty:Nat) (t:DTy) (xs:List (t.S T)) (w:Bool)
 |siter (s:B8) (pos:Nat)
 |mp (ty:Nat) (t:DTy) (es:List (B8×t.S T))
 |mit (t:DTy) (last:Option (B8×t.S T)) (es:List (B8×t.S T))
 |bld (ty:Nat) (b:Option Nat)
 |gone
 |rig
 |deep (ty i:Nat) (xs:List (T i)) (h:Option (Int×Nat×Nat))
structure TS(T:Nat->Type) where
 t:List (Nat×TV T)
 o:List (Nat×TO T)
 nx:Nat
 nt:Nat
 d:List (Nat×List (TV T)):=[]
 g:List (Option Nat):=[]
def fnd{α:Type}:List (Nat×α)->Nat->Option α
 |[],_=>none
 |(i,a)::r,j=>match Nat.beq i j with
  |true=>some a
  |false=>fnd r j
section
variable {T : Nat → Type}
def TV.cells:TV T->List (TV T)
 |.agg cs=>cs
 |v=>[v]
def TV.leaf:TV T->Bool
 |.any| .agg _| .tup _=>false
 |_=>true
def TV.kzh:TV T->Bool
 |.agg _=>true
 |v=>v.leaf
def TV.zc4:Value->TV T
 |.bool b=>.bool b
 |.int k n=>.int k n
 |.string s=>.str s.data.toList
 |.pointer none=>.nilp
 |.slice none 0 0=>.nils
 |.map none=>.mapn
 |.nilFunc=>.nilf
 |.nilIface=>.nili
 |_=>.any
def TV.ofC:Value->TV T
 |.agg cs=>if cs.toList.all (·.oneCell')then .agg (cs.toList.map TV.zc4)else .any
 |.tuple cs=>.tup (cs.toList.map TV.zc4)
 |.iface t v=>.iface t (TV.zc4 v)
 |v=>TV.zc4 v
def TS.ev(ts:TS T):Operand->Option (TV T)
 |.tmp t=>fnd ts.t t
 |.const v=>some (TV.ofC v)
 |.func f=>some (.fn f [] [])
 |.global _=>none
def TS.evs(ts:TS T):List Operand->Option (List (TV T))
 |[]=>some []
 |x::xs=>match ts.ev x,ts.evs xs with
  |some v,some vs=>some (v::vs)
  |_,_=>none
inductive FR (α:Type) where
 |ok (a:α)
 |frz (s:Nat)
 |bad
def FR.of{α}:Option α->FR α
 |some a=>.ok a
 |none=>.bad
end
section
variable (D : Dat)
def Dat.owns(q:Nat):Bool:=(List.range (D.fl q).length).any λf=>(D.ow q f).isSome
def Dat.len:DTy->Nat
 |.st i=>(D.fl i).length
 |_=>1
def Dat.el:(t:DTy)->t.S D.T->V
 |.bool,b=>.bool b
 |.int k,n=>.int k n
 |.str,s=>.str s
 |.nat,_=>.any
 |.sl t,xs=>.sl (D.len t) (List.map (Dat.el t) xs) false
 |.st i,x=>D.enc i x
def Dat.els:(l:List DTy)->HL D.T l->List V
 |[],_=>[]
 |t::l,x=>D.el t x.1::Dat.els l x.2
def Dat.leaf:(t:DTy)->t.S D.T->TV D.T
 |.bool,b=>.bool b
 |.int k,n=>.int k n
 |.str,s=>.str s
 |.nat,_=>.any
 |.sl t,xs=>.sl t xs 0
 |.st _,_=>.any
def Dat.leaves:(l:List DTy)->HL D.T l->List (TV D.T)
 |[],_=>[]
 |t::l,x=>D.leaf t x.1::Dat.leaves l x.2
def Dat.tv:(t:DTy)->t.S D.T->TV D.T
 |.st i,x=>.agg (D.leaves (D.fl i) (D.get i x))
 |.bool,b=>.bool b
 |.int k,n=>.int k n
 |.str,s=>.str s
 |.nat,_=>.any
 |.sl t,xs=>.sl t xs 0
def y4a{T}(a b:DTy)(x:a.S T):Option (b.S T) :=
 if h:a=b then some (h▸x)else none
def zvs{T}(a b:DTy)(x:List (B8×a.S T)):Option (List (B8×b.S T)) :=
 if h:a=b then some (h▸x)else none
def DTy.flat:DTy->Bool
 |.bool| .int _| .str=>true
 |_=>false
def zer{T}(a b:DTy)(x:List (a.S T)):Option (List (b.S T)) :=
 if h:a=b then some (h▸x)else none
def zj4:(t:DTy)->TV D.T->FR (t.S D.T)
 |.bool,.bool b=>.ok b
 |.int k,.int k' n=>if k=k' then .ok n else .bad
 |.str,.str s=>.ok s
 |.sl t,.sl t' xs _=>FR.of (zer t' t xs)
 |.sl _,.nils=>.ok []
 |.sl _,.own s=>.frz s
 |_,_=>.bad
def zb3:(l:List DTy)->List (TV D.T)->FR (HL D.T l)
 |[],[]=>.ok ()
 |t::l,v::vs=>match zj4 D t v with
  |.ok x=>match zb3 l vs with
   |.ok xs=>.ok (x,xs)
   |.frz s=>.frz s
   |.bad=>.bad
  |.frz s=>.frz s
  |.bad=>.bad
 |_,_=>.bad
def asD:(t:DTy)->TV D.T->FR (t.S D.T)
 |.st i,.agg cs=>match zb3 D (D.fl i) cs with
  |.ok x=>.ok (D.make i x)
  |.frz s=>.frz s
  |.bad=>.bad
 |.st _,_=>.bad
 |t,v=>zj4 D t v
def ylk(t:DTy):List (TV D.T)->FR (List (t.S D.T))
 |[]=>.ok []
 |v::vs=>match asD D t v with
  |.ok x=>match ylk t vs with
   |.ok xs=>.ok (x::xs)
   |.frz s=>.frz s
   |.bad=>.bad
  |.frz s=>.frz s
  |.bad=>.bad
end
section
variable {T : Nat → Type} (P : Program)
def tRd(t:Nat)(cs:List (TV T))(off:Nat):Option (TV T) :=
 match P.underlying t with
 |none=>none
 |some (.struct _)|some (.array _ _)=>if off+P.cellsOf t<=cs.length then some (.agg ((cs.drop off).take (P.cellsOf t)))else none
 |some _=>cs[off]?
def y1s(s f:Nat)(x:TV T):Option (TV T) :=
 match zrf P s f with
 |none=>none
 |some o=>match x with
  |.ref cs off=>some (.ref cs (off+o))
  |.ptr s off=>some (.ptr s (off+o))
  |.ap s t i x off=>some (.ap s t i x (off+o))
  |.bp s off=>some (.bp s (off+o))
  |.dp s i off=>some (.dp s i (off+o))
  |_=>none
def yu6(s f:Nat)(x:TV T):Option (TV T) :=
 match P.underlying s with
 |some (.struct fs)=>match fs[f]? with
  |some y=>match x with
   |.agg cs=>tRd P y.type cs y.offset
   |_=>none
  |none=>none
 |_=>none
def yc2(i:Nat):TV T->Option (TV T)
 |.tup vs=>vs[i]?
 |_=>none
def tNil:TV T->Option (TV T)
 |.ptr s off=>some (.ptr s off)
 |.ref cs off=>some (.ref cs off)
 |.ap s t i x off=>some (.ap s t i x off)
 |.bp s off=>some (.bp s off)
 |.dp s i off=>some (.dp s i off)
 |.fn f a b=>some (.fn f a b)
 |_=>none
def tUn(op:UnOp)(x:TV T):Option (TV T) :=
 match op,x with
 |.neg,.int k n=>some (.int k (k.wrap (0-n)))
 |.not,.bool b=>some (.bool (!b))
 |.xor,.int k n=>some (.int k (bits .xor k (if k.signed then -1 else k.max) n))
 |_,_=>none
def ye9(s d:Nat)(x:TV T):Option (TV T) :=
 match x with
 |.int _ n=>match P.underlying s,P.underlying d with
  |some _,some (.int k)=>some (.int k (k.wrap n))
  |_,_=>none
 |.str a=>match P.underlying s,P.underlying d with
  |some _,some .string=>some (.str a)
  |_,_=>none
 |_=>none
def zvt(x:TV T)(asserted:Nat)(ok:Bool):Option (TV T) :=
 match P.underlying asserted,x with
 |some (.interface _),_=>none
 |some _,.iface t v=>if t=asserted then some (if ok then .tup [v,.bool true]else v)else none
 |_,_=>none
def yae(max:Bool):List (TV T)->Option (TV T)
 |[.int k x,.int _ y]=>some (.int k (match max with|true=>mxI x y|false=>mnI x y))
 |[.int k x,.int _ y,.int _ z]=>some (.int k (match max with|true=>mxI (mxI x y) z|false=>mnI (mnI x y) z))
 |_=>none
def zjh(cs:List (TV T))(off:Nat)(xs:List (TV T)):List (TV T):=cs.take off++xs++cs.drop (off+xs.length)
def yj5(place:Nat->Option (Nat×Nat))(cells:List (TV T)):List (Nat×TV T)->Option (List (TV T))
 |[]=>some cells
 |(i,x)::rest=>match place i with
  |none=>none
  |some (off,size)=>if x.kzh&&x.cells.length==size&&decide (off+size<=cells.length)then yj5 place (zjh cells off x.cells) rest else none
def y29(ts:TS T):List (Nat×Operand)->Option (List (Nat×TV T))
 |[]=>some []
 |(i,x)::r=>match ts.ev x,y29 ts r with
  |some v,some vs=>some ((i,v)::vs)
  |_,_=>none
def yjg(t:Nat):Option (TV T):=((P.info? t).bind (·.zero)).map TV.ofC
def yst(t:Nat)(ps:List (Nat×TV T)):Option (TV T) :=
 match yjg (T:=T) P t with
 |some (.agg z)=>match P.underlying t with
  |some (.struct fs)=>match y8c P fs.toList with
   |some places=>(yj5 (λi=>places[i]?) z ps).map .agg
   |none=>none
  |some (.array _ e)=>if (P.info? e).isSome then (yj5 (λi=>some (i * P.cellsOf e,P.cellsOf e)) z ps).map .agg else none
  |_=>none
 |_=>none
def TV.odd:TV T->Bool
 |.int _ _| .str _| .any=>false
 |_=>true
mutual
def yr0:Nat->Nat->TV T->TV T->Option Bool
 |0,_,_,_=>none
 |d+1,t,x,y=>
  match x,y with
  |.bool a,.bool b=>match P.underlying t with|some .bool=>some (a==b)|_=>none
  |.int k a,.int k' b=>match P.underlying t with|some (.int _)=>if k=k' then some (a==b)else none|_=>none
  |.str a,.str b=>match P.underlying t with|some .string=>some (a==b)|_=>none
  |.agg xs,.agg ys=>match P.underlying t with|some (.struct fs)=>if P.stoodInHeld t then none else yer d fs.toList xs ys|_=>none
  |.nilp,.nilp=>match P.underlying t with|some (.pointer _)=>some true|_=>none
  |.nilp,.ptr _ _| .nilp,.ref _ _=>match P.underlying t with|some (.pointer _)=>some false|_=>none
  |.ptr _ _,.nilp| .ref _ _,.nilp=>match P.underlying t with|some (.pointer _)=>some false|_=>none
  |.mapn,.mapn=>match P.underlying t with|some (.map _ _)=>some true|_=>none
  |.nilf,.nilf=>match P.underlying t with|some (.func ..)=>some true|_=>none
  |.nilf,.fn _ _ _| .fn _ _ _,.nilf=>match P.underlying t with|some (.func ..)=>some false|_=>none
  |.nili,.iface _ _| .iface _ _,.nili=>match P.underlying t with|some (.interface _)=>some false|_=>none
  |_,_=>none
def yer:Nat->List Field->List (TV T)->List (TV T)->Option Bool
 |0,_,_,_=>none
 |_,[],_,_=>some true
 |d+1,f::fs,xs,ys=>
  if f.name = "_" then yer d fs xs ys else
  match tRd P f.type xs f.offset,tRd P f.type ys f.offset with
  |some a,some b=>match yr0 d f.type a b,yer d fs xs ys with
   |some r,some s=>some (r&&s)
   |_,_=>none
  |_,_=>none
end
def y36(t:Nat)(x y:TV T):Bool :=
 match x,y with
 |.agg _,.agg _ => !P.eqGuardType P.depth t
 |.nili,.nili=>false
 |.any,_|_,.any=>false
 |_,_=>true
def shl(k:IntKind)(a b:Int):Option Int:=if b<0 then none else some (k.wrap (a * 2 ^ (min b.toNat k.bits)))
def shr(k:IntKind)(a b:Int):Option Int:=if b<0 then none else some (a.fdiv (2 ^ (min b.toNat k.bits)))
def tBin{R}(op:BinOp)(t:Nat)(x y:TV T)(k:TV T->Option R):Option R :=
 match x,y with
 |.int i a,.int i' b=>match op with
  |.shl=>z82 (shl i a b) λz=>k (.int i z)
  |.shr=>z82 (shr i a b) λz=>k (.int i z)
  |_=>if i=i' then (match op with
   |.add=>k (.int i (i.wrap (a+b)))
   |.sub=>k (.int i (i.wrap (a-b)))
   |.mul=>k (.int i (i.wrap (a * b)))
   |.quo=>z82 (quo i a b) λz=>k (.int i z)
   |.rem=>z82 (rem i a b) λz=>k (.int i z)
   |.eql=>k (.bool (a==b))
   |.neq=>k (.bool (a != b))
   |.lss=>k (.bool (decide (a<b)))
   |.leq=>k (.bool (decide (a<=b)))
   |.gtr=>k (.bool (decide (a>b)))
   |.geq=>k (.bool (decide (a>=b)))
   |.and=>k (.int i (bits .and i a b))
   |.or=>k (.int i (bits .or i a b))
   |.xor=>k (.int i (bits .xor i a b))
   |.andNot=>k (.int i (bits .andNot i a b))
   |_=>none)else none
 |.str a,.str b=>match op with
  |.add=>z82 (cat a b) λz=>k (.str z)
  |.eql=>k (.bool (a==b))
  |.neq=>k (.bool (!(a==b)))
  |.lss=>k (.bool (Op.bytesLess a b))
  |.leq=>k (.bool (Op.bytesLess a b||a==b))
  |.gtr=>k (.bool (!(Op.bytesLess a b||a==b)))
  |.geq=>k (.bool (!Op.bytesLess a b))
  |_=>none
 |x,y=>match op with
  |.eql=>if x.odd&&y36 P t x y then (match yr0 P 24 t x y with|some r=>k (.bool r)|none=>none)else none
  |.neq=>if x.odd&&y36 P t x y then (match yr0 P 24 t x y with|some r=>k (.bool (!r))|none=>none)else none
  |_=>none
end
section
variable (P : Program) (D : Dat)
def ymn{T}:Option Nat->TV T
 |none=>.nils
 |some s=>.own s
def kzi(s:B8):List Int:=s.map λb=>((b.toNat:Nat):Int)
def yby:List Int->Option B8
 |[]=>some []
 |x::r=>match x,yby r with
  |.ofNat m,some s=>match Nat.ble m 255 with
   |true=>some (m.toUInt8::s)
   |false=>none
  |_,_=>none
def yva(ts:TS D.T)(t:Nat):TV D.T->Option (TV D.T)
 |.ref cs off=>tRd P t cs off
 |.ptr s off=>match fnd ts.o s with
  |some (.cells cs)=>tRd P t cs off
  |_=>none
 |.ap s τ i x off=>match fnd ts.o s with
  |some (.acc _ _ _ _)=>tRd P t (D.tv τ x).cells off
  |_=>none
 |.bp s off=>match fnd ts.o s with
  |some (.bld _ b)=>tRd P t [.any,ymn b] off
  |_=>none
 |_=>none
def y34(q:Nat):(l:List DTy)->HL D.T l->Nat->List (TV D.T)
 |[],_,_=>[]
 |t::l,x,f=>(match D.ow q f with
  |none=>D.leaf t x.1
  |some _=>.any)::y34 q l x.2 (f+1)
def z02o(q off:Nat):Nat->List Nat
 |0=>[]
 |n+1=>match D.ow q off with
  |some _=>off::z02o q (off+1) n
  |none=>z02o q (off+1) n
def szT(t:Nat):Nat:=match P.underlying t with
 |some (.struct _)|some (.array _ _)=>P.cellsOf t
 |_=>1
def setO{α:Type}(cs:List α):Option (Nat×α)->List α
 |none=>cs
 |some (f,v)=>cs.set f v
def zv4{R}(ts:TS D.T)(t:Nat)(s:Nat)(i:Int)(off:Nat)(set:Option (Nat×TV D.T))(k:TV D.T->Option R):Option R :=
 match fnd ts.o s with
 |some (.deep _ q xs _)=>z82 (ix xs i) λy=>(match tRd P t (setO (y34 D q (D.fl q) (D.get q y) 0) set) off with
  |some v=>k v
  |none=>none)
 |_=>none
def zlb(n i:Int):Option Unit:=if n=i then some ()else none
def yt5{R}(ts:TS D.T)(t:Nat)(s:Nat)(i:Int)(off:Nat)(k:TV D.T->Option R):Option R :=
 match fnd ts.o s with
 |some (.deep _ _ _ (some p))=>(match Nat.beq p.2.1 off with
  |true=>z82 (zlb p.1 i) λ_=>zv4 P D ts t s i off (some (off,.own p.2.2)) k
  |false=>zv4 P D ts t s i off none k)
 |_=>zv4 P D ts t s i off none k
def tLen(ts:TS D.T)(t:Nat)(x:TV D.T):Option (TV D.T) :=
 match x with
 |.str s=>match P.underlying t with|some .string=>some (.int .i64 s.length)|_=>none
 |.nils=>match P.underlying t with|some (.slice _)=>some (.int .i64 0)|_=>none
 |.sl _ xs _=>match P.underlying t with|some (.slice _)=>some (.int .i64 xs.length)|_=>none
 |.own s=>match P.underlying t,fnd ts.o s with
  |some (.slice _),some (.acc _ _ xs _)=>some (.int .i64 xs.length)
  |some (.slice _),some (.deep _ _ xs _)=>some (.int .i64 xs.length)
  |_,_=>none
 |.agg _=>match P.underlying t with|some (.array n _)=>some (.int .i64 n)|_=>none
 |.map s=>match P.underlying t,fnd ts.o s with
  |some (.map _ _),some (.mp _ _ es)=>some (.int .i64 es.length)
  |_,_=>none
 |_=>none
def yyk:(t:DTy)->TV D.T->Option (t.S D.T×Option Nat)
 |.sl _,.nils=>some ([],none)
 |.sl _,.own c=>some ([],some c)
 |_,_=>none
def y8d(q:Nat):(l:List DTy)->List (TV D.T)->Nat->FR (HL D.T l×Option (Nat×Nat))
 |[],[],_=>.ok ((),none)
 |t::l,v::vs,f=>(match D.ow q f with
  |none=>(match zj4 D t v with
   |.ok x=>(match y8d q l vs (f+1)with
    |.ok r=>.ok ((x,r.1),r.2)
    |.frz s=>.frz s
    |.bad=>.bad)
   |.frz s=>.frz s
   |.bad=>.bad)
  |some _=>(match y8d q l vs (f+1)with
   |.ok r=>(match yyk D t v with
    |some (x,none)=>.ok ((x,r.1),r.2)
    |some (x,some c)=>(match r.2 with
     |none=>.ok ((x,r.1),some (f,c))
     |some _=>.bad)
    |none=>.bad)
   |.frz s=>.frz s
   |.bad=>.bad))
 |_,_,_=>.bad
def rowOf(τ:DTy)(ps:List (Nat×TV D.T)):Option (Nat×List (TV D.T)):=match τ,ps with
 |.st q,[(0,.agg cells)]=>(match D.owns q with
  |true=>(match y8d D q (D.fl q) cells 0 with
   |.ok _=>some (q,cells)
   |_=>none)
  |false=>none)
 |_,_=>none
theorem ys6{τ ps q cells}(h:rowOf D τ ps=some (q,cells)):τ = .st q∧ps=[(0,.agg cells)]:=by
 unfold rowOf at h;split at h;split at h;split at h;injection h with h;injection h with h1 h2;grind;cases h;cases h;cases h
def zh4(t len:Nat)(ps:List (Nat×TV D.T)):FR (TV D.T) :=
 match P.underlying t with
 |some (.slice e)=>match zeroV P e,D.ty e with
  |some z,some τ=>
   if z.kzh&&z.cells.length==P.cellsOf e&&decide (0<P.cellsOf e)&&(P.info? e).isSome&&ps.length==len&&(ps.map (·.1)==List.range len)&&ps.all (λp=>p.2.kzh&&p.2.cells.length==P.cellsOf e)&&decide (len * P.cellsOf e<=2 ^ 24)&&D.len τ==P.cellsOf e then
    (match rowOf D τ ps with
    |some (q,cells)=>.ok (.bsl q [.agg cells])
    |none=>match ylk D τ (ps.map (·.2))with
    |.ok xs=>.ok (.sl τ xs (if len=0 then 2 else 1))
    |.frz s=>(match τ,ps with
     |.st q,[(0,.agg cells)]=>(match y8d D q (D.fl q) cells 0 with
      |.ok _=>.ok (.bsl q [.agg cells])
      |.frz s'=>.frz s'
      |.bad=>.frz s)
     |_,_=>.frz s)
    |.bad=>.bad)
   else .bad
  |_,_=>.bad
 |_=>.bad
def z03p(ts:TS D.T):TV D.T->Option Nat
 |.own k=>(match fnd ts.o k with
  |some (.acc _ (.st q) _ _)=>if D.owns q=true then some k else none
  |_=>none)
 |_=>none
def ysq(ts:TS D.T):List (TV D.T)->Option Nat
 |[]=>none
 |v::l=>match z03p D ts v with
  |some k=>some k
  |none=>ysq ts l
def yl8(ts:TS D.T)(r:FR (TV D.T)):FR (TV D.T):=match r with
 |.ok (.bsl q [.agg cells])=>(match ysq D ts cells with
  |some k=>.frz k
  |none=>.ok (.bsl q [.agg cells]))
 |r=>r
theorem ysn{ts r x}(h:yl8 D ts r = .ok x):r = .ok x:=by
 unfold yl8 at h;split at h
 grind
 exact h
def tMk(t:Nat)(n c:Int):FR (TV D.T) :=
 match n,c with
 |.ofNat n,.ofNat c=>(match P.underlying t with
  |some (.slice e)=>(match P.info? e,yjg (T:=D.T) P e,D.ty e with
   |some i,some z,some τ=>(match z.kzh&&Nat.beq z.cells.length i.size&&Nat.blt 0 i.size&&Nat.ble n c&&Nat.ble c 1000000&&Nat.ble i.bytes 100000&&Nat.beq (D.len τ) i.size with
    |true=>(match asD D τ z with
     |.ok x=>.ok (.sl τ (List.replicate n x) 0)
     |.frz s=>.frz s
     |.bad=>.bad)
    |false=>.bad)
   |_,_,_=>.bad)
  |_=>.bad)
 |_,_=>.bad
def tP1(ts:TS D.T)(op:Op):FR (TV D.T) :=
 match op with
 |.move x=>.of (ts.ev x)
 |.assign x=>.of (ts.ev x)
 |.load t a=>match ts.ev a with|some a=>.of (yva P D ts t a)|none=>.bad
 |.nilCheck x=>match ts.ev x with|some x=>.of (tNil x)|none=>.bad
 |.unOp o _ x=>match ts.ev x with|some x=>.of (tUn o x)|none=>.bad
 |.convert s d x=>match ts.ev x with|some x=>.of (ye9 P s d x)|none=>.bad
 |.makeInterface t x=>match ts.ev x with|some x=>if P.concrete t then .ok (.iface t x)else .bad|none=>.bad
 |.makeFunc (.func f) first caps=>match ts.evs first.toList,ts.evs caps.toList with
  |some a,some b=>.ok (.fn f a b)
  |_,_=>.bad
 |.fieldAddr s x f=>match ts.ev x with|some x=>.of (y1s P s f x)|none=>.bad
 |.field s x f=>match ts.ev x with|some x=>.of (yu6 P s f x)|none=>.bad
 |.typeAssert x _ u ok=>match ts.ev x with|some x=>.of (zvt P x u ok)|none=>.bad
 |.extract x i=>match ts.ev x with|some x=>.of (yc2 i x)|none=>.bad
 |.build t ps=>match y29 ts ps.toList with|some ps=>.of (yst P t ps)|none=>.bad
 |.buildSlice t len ps=>match y29 ts ps.toList with|some ps=>yl8 D ts (zh4 P D t len ps)|none=>.bad
 |.makeSlice t n c=>match ts.ev n,ts.ev c with
  |some (.int _ n),some (.int _ c)=>tMk P D t n c
  |_,_=>.bad
 |.call c=>match c.callee with
  |.builtin .len=>match c.args.toList,c.argTypes.toList with
   |[x],[t]=>match ts.ev x with|some x=>.of (tLen P D ts t x)|none=>.bad
   |_,_=>.bad
  |.builtin .min=>match ts.evs c.args.toList with|some l=>.of (yae false l)|none=>.bad
  |.builtin .max=>match ts.evs c.args.toList with|some l=>.of (yae true l)|none=>.bad
  |_=>.bad
 |_=>.bad
def y3s{R}:Nat->Int->(Nat->Option R)->Option R
 |0,_,_=>none
 |1,_,f=>f 0
 |m+2,n,f=>pIf (n==Int.ofNat (m+1)) (f (m+1)) (y3s (m+1) n f)
def inR(len:Nat)(n:Int):Option Unit:=if 0<=n∧n<(len:Int)then some ()else none
def strB(P:Program)(e:Nat):Bool:=match P.underlying e with
 |some .string=>true
 |_=>false
def yal{T}{R:Type}(P:Program)(len e:Nat)(x:TV T)(k:TV T->Option R)(n:Nat):Option R :=
 if n<len∧(P.underlying e).isSome then (match x with
  |.ref cs off=>k (.ref cs (off+n * P.cellsOf e))
  |.ptr s off=>k (.ptr s (off+n * P.cellsOf e))
  |.ap s t i x off=>k (.ap s t i x (off+n * P.cellsOf e))
  |_=>none)else none
def y2g{R}(ts:TS D.T)(t:Nat)(x i:TV D.T)(k:TV D.T->Option R):Option R :=
 match i with
 |.int _ n=>match P.underlying t with
  |some (.slice e)=>if (P.underlying e).isSome then (match x with
   |.sl τ xs _=>if D.len τ=P.cellsOf e then z82 (ix xs n) λy=>k (.ref (D.tv τ y).cells 0)else none
   |.own s=>match fnd ts.o s with
    |some (.acc _ τ xs _)=>if D.len τ=P.cellsOf e then z82 (ix xs n) λy=>k (.ap s τ n y 0)else none
    |some (.deep _ q xs _)=>if D.len (.st q)=P.cellsOf e then z82 (ix xs n) λ_=>k (.dp s n 0)else none
    |_=>none
   |_=>none)else none
  |some (.array len e)=>match strB P e with
   |true=>z82 (inR len n) λ_=>y3s len n (yal P len e x k)
   |false=>(match n with
    |.ofNat n=>yal P len e x k n
    |_=>none)
  |_=>none
 |_=>none
def yuk{R}(t:Nat)(x i:TV D.T)(k:TV D.T->Option R):Option R :=
 match i with
 |.int _ n=>match x with
  |.str s=>match P.underlying t with
   |some .string=>z82 (ix s n) λb=>k (.int .u8 b.toNat)
   |_=>none
  |.agg cs=>match P.underlying t with
   |some (.array len e)=>match D.ty e with
    |some τ=>if cs.length=len∧P.cellsOf e=1∧(P.underlying e).isSome∧(P.underlying e).any (λd => !TypeDesc.isAgg d)then (match zb3 D (List.replicate cs.length τ) cs with
     |.ok _=>match ylk D τ cs with
      |.ok xs=>z82 (ix xs n) λy=>k (D.leaf τ y)
      |_=>none
     |_=>none)else none
    |none=>none
   |_=>none
  |_=>none
 |_=>none
def yk1(d:Int):Option (TV D.T)->Option Int
 |none=>some d
 |some (.int _ x)=>some x
 |_=>none
def yt4{R}(t:Nat)(x:TV D.T)(lo hi:Option (TV D.T))(k:TV D.T->Option R)(kf:Nat->Option R):Option R :=
 match x with
 |.str s=>match P.underlying t with
  |some .string=>match yk1 D 0 lo,yk1 D s.length hi with
   |some l,some h=>z82 (sub s l h) λy=>k (.str y)
   |_,_=>none
  |_=>none
 |.sl τ xs fl=>match P.underlying t with
  |some (.slice e)=>if D.len τ=P.cellsOf e∧(P.underlying e).isSome then (match yk1 D 0 lo,yk1 D xs.length hi with
    |some l,some h=>z82 (sub xs l h) λy=>k (.sl τ y (match hi with|none=>min fl 1|some _=>0))
    |_,_=>none)else none
  |_=>none
 |.own s=>kf s
 |_=>none
def oev(ts:TS D.T):Option Operand->Option (Option (TV D.T))
 |none=>some none
 |some x=>(ts.ev x).map some
def yrd{α:Type}(xs:List α)(a:Int):Option Unit:=if 0<=a∧a<=xs.length∧0<xs.length then some ()else none
def tCut{R}(ts:TS D.T)(t:Nat)(x lo:TV D.T)(k:TV D.T->Option R)(kf:Option R):Option R :=
 match x,lo with
 |.own s,.int .i64 a=>match P.underlying t,fnd ts.o s with
  |some (.slice e),some (.acc _ τ xs true)=>if D.len τ=P.cellsOf e∧(P.underlying e).isSome then z82 (yrd xs a) λ_=>k (.osl s a)else none
  |_,_=>none
 |_,_=>kf
def yn5{R:Type}(ts:TS D.T)(t:Nat)(x key:TV D.T)(ok:Bool)(k:TV D.T->Option R):Option R :=
 match P.underlying t,key with
 |some (.map kt e),.str s=>match P.underlying kt,yjg (T:=D.T) P e with
  |some .string,some z=>match x with
   |.map q=>match fnd ts.o q with
    |some (.mp _ τ es)=>match asD D τ z with
     |.ok z0=>(match ok with
      |true=>k (.tup [D.tv τ ((z8a es s).getD z0),.bool (z8a es s).isSome])
      |false=>k (D.tv τ ((z8a es s).getD z0)))
     |_=>none
    |_=>none
   |_=>none
  |_,_=>none
 |_,_=>none
def tP{R}(ts:TS D.T)(op:Op)(k:TV D.T->Option R)(kf:Nat->Option R):Option R :=
 match op with
 |.pick c a b=>match ts.ev c,ts.ev a,ts.ev b with
  |some (.bool t),some x,some y=>pIf t (k x) (k y)
  |_,_,_=>none
 |.binOp o t x y _=>match ts.ev x,ts.ev y with
  |some x,some y=>tBin P o t x y k
  |_,_=>none
 |.indexAddr t x i=>match ts.ev x,ts.ev i with
  |some x,some i=>y2g P D ts t x i k
  |_,_=>none
 |.index t x i=>match ts.ev x,ts.ev i with
  |some x,some i=>yuk P D t x i k
  |_,_=>none
 |.lookup t x i ok=>match ts.ev x,ts.ev i with
  |some x,some i=>yn5 P D ts t x i ok k
  |_,_=>none
 |.slice t x lo hi mx=>match ts.ev x,oev D ts lo,oev D ts hi,mx with
  |some x,some lo,some hi,none=>yt4 P D t x lo hi k kf
  |_,_,_,_=>none
 |.load t a=>match ts.ev a with
  |some (.dp s i off)=>yt5 P D ts t s i off k
  |_=>(match tP1 P D ts (.load t a)with
   |.ok v=>k v
   |.frz s=>kf s
   |.bad=>none)
 |op=>match tP1 P D ts op with
  |.ok v=>k v
  |.frz s=>kf s
  |.bad=>none
mutual
def TV.ren(s s':Nat):TV D.T->TV D.T
 |.own j=>if j=s then .own s' else .own j
 |.dp j i off=>if j=s then .dp s' i off else .dp j i off
 |.agg cs=>.agg (TV.zxj s s' cs)
 |.tup cs=>.tup (TV.zxj s s' cs)
 |.bsl i cs=>.bsl i (TV.zxj s s' cs)
 |v=>v
def TV.zxj(s s':Nat):List (TV D.T)->List (TV D.T)
 |[]=>[]
 |v::vs=>TV.ren s s' v::TV.zxj s s' vs
end
mutual
def TV.frz(s:Nat)(m:Bool)(z:TV D.T):TV D.T->TV D.T
 |.own j=>match m with
  |true=>.own j
  |false=>if j=s then z else .own j
 |.map j=>match m with
  |true=>if j=s then z else .map j
  |false=>.map j
 |.agg cs=>.agg (TV.ypy s m z cs)
 |.tup cs=>.tup (TV.ypy s m z cs)
 |.bsl _ _=>.any
 |v=>v
def TV.ypy(s:Nat)(m:Bool)(z:TV D.T):List (TV D.T)->List (TV D.T)
 |[]=>[]
 |v::vs=>TV.frz s m z v::TV.ypy s m z vs
end
def TO.map(f:TV D.T->TV D.T):TO D.T->TO D.T
 |.cells cs=>.cells (cs.map f)
 |.bld ty (some s)=>match f (.own s)with
  |.own s'=>.bld ty (some s')
  |_=>.gone
 |.deep ty i xs (some (n,c,s))=>match f (.own s)with
  |.own s'=>.deep ty i xs (some (n,c,s'))
  |_=>.gone
 |o=>o
def gmap(f:TV D.T->TV D.T):Option Nat->Option Nat
 |none=>none
 |some s=>match f (.own s)with
  |.own s'=>some s'
  |_=>none
def TS.zdi(ts:TS D.T)(f:TV D.T->TV D.T):TS D.T :=
 {ts with t:=ts.t.map λp=>(p.1,f p.2),o:=ts.o.map λp=>(p.1,TO.map D f p.2),d:=ts.d.map λp=>(p.1,p.2.map f),g:=ts.g.map (gmap D f)}
def TS.freeze(ts:TS D.T)(s:Nat):Option (TS D.T) :=
 match ts.d,fnd ts.o s with
 |[],some (.acc _ t xs _)=>let ts':=ts.zdi D (TV.frz D s false (.sl t xs 0));some {ts' with o:=(s,.gone)::ts'.o}
 |[],some (.deep _ q xs none)=>let ts':=ts.zdi D (TV.frz D s false (.sl (.st q) xs 0));some {ts' with o:=(s,.gone)::ts'.o}
 |[],some (.mp _ t es)=>if t.flat then (let ts':=ts.zdi D (TV.frz D s true (.mc t es));some {ts' with o:=(s,.gone)::ts'.o})else none
 |_,_=>none
def TS.put(ts:TS D.T)(dst:Option Nat)(v:TV D.T):Option (TS D.T) :=
 match dst with
 |none=>some ts
 |some d=>if d<ts.nt then some {ts with t:=(d,v)::ts.t}else none
def TS.new(ts:TS D.T)(o:TO D.T):TS D.T:={ts with o:=(ts.nx,o)::ts.o,nx:=ts.nx+1}
def TS.set(ts:TS D.T)(s:Nat)(o:TO D.T):TS D.T:={ts with o:=(s,o)::ts.o}
def TS.y5n(ts:TS D.T)(s:Nat)(o:TO D.T):TS D.T:=((ts.new D o).set D s .gone).zdi D (TV.ren D s ts.nx)
def ylf{R}(ts:TS D.T)(ty q:Nat)(xs:List (D.T q))(h:Option (Int×Nat×Nat))(s:Nat)(i:Int)(off:Nat)(x:TV D.T)(k:TV D.T->TS D.T->Option R)(kf:Nat->Option R):Option R :=
 match x with
 |.own c=>(match D.ow q off,Nat.blt off (D.fl q).length with
  |some _,true=>(match h with
   |none=>z82 (ix xs i) λ_=>k .any (ts.y5n D s (.deep ty q xs (some (i,off,c))))
   |some p=>(match Nat.beq p.2.1 off with
    |true=>z82 (zlb p.1 i) λ_=>z82 (ix xs i) λ_=>k .any (ts.y5n D s (.deep ty q xs (some (i,off,c))))
    |false=>kf s))
  |_,_=>none)
 |.agg cells=>(match off with
  |0=>(match h with
   |none=>(match y8d D q (D.fl q) cells 0 with
    |.ok r=>z82 (ix xs i) λ_=>k .any (ts.y5n D s (.deep ty q (xs.set i.toNat (D.make q r.1)) (r.2.map λp=>(i,p.1,p.2))))
    |.frz s'=>kf s'
    |.bad=>none)
   |some _=>kf s)
  |_=>none)
 |_=>none
def ydj{R}(ts:TS D.T)(t:Nat)(a x:TV D.T)(k:TV D.T->TS D.T->Option R)(kf:Nat->Option R):Option R :=
 if x.kzh&&(P.info? t).isSome&&x.cells.length==P.cellsOf t then
  match a with
  |.ptr s off=>match fnd ts.o s with
   |some (.cells cs)=>if off+x.cells.length<=cs.length then k .any (ts.set D s (.cells (zjh cs off x.cells)))else none
   |_=>none
  |.ap s τ i y off=>match fnd ts.o s with
   |some (.acc ty τ' xs true)=>if τ=τ'∧τ ≠ .nat∧off+x.cells.length<=(D.tv τ y).cells.length then
     (match asD D τ' (match D.tv τ y with| .agg cs=>.agg (zjh cs off x.cells)|_=>x)with
     |.ok z=>let ts':=(ts.zdi D (TV.ren D s ts.nx)).new D (.acc ty τ' (xs.set i.toNat z) true);k .any (ts'.set D s .gone)
     |.frz s=>kf s
     |.bad=>none)else none
   |_=>none
  |.dp s i off=>match fnd ts.o s with
   |some (.deep ty q xs h)=>if (List.range x.cells.length).all (λa=>(D.ow q (off+a)).isNone)=true∧off+x.cells.length<=(D.fl q).length then
     z82 (ix xs i) λy=>(match zb3 D (D.fl q) (zjh (D.leaves (D.fl q) (D.get q y)) off x.cells)with
      |.ok z=>k .any (((ts.new D (.deep ty q (xs.set i.toNat (D.make q z)) h)).set D s .gone).zdi D (TV.ren D s ts.nx))
      |.frz s'=>kf s'
      |.bad=>none)else ylf D ts ty q xs h s i off x k kf
   |_=>none
  |.bp s 1=>match fnd ts.o s,x with
   |some (.bld ty b),.own q=>k .any (ts.set D s (.bld ty (some q)))
   |_,_=>none
  |_=>none
 else none
def tSrc(ts:TS D.T)(τ:DTy):TV D.T->Option (List (τ.S D.T))
 |.nils=>some []
 |.sl t xs _=>zer t τ xs
 |.own s=>match fnd ts.o s with
  |some (.acc _ t xs _)=>zer t τ xs
  |_=>none
 |.str s=>match τ with
  |.int .u8=>some (kzi s)
  |_=>none
 |_=>none
def tDst(ts:TS D.T)(e:Nat)(τ:DTy):TV D.T->Option (List (τ.S D.T)×Bool×Option Nat)
 |.nils=>some ([],true,none)
 |.sl t xs 1=>if τ = .int .u8 then none else (zer t τ xs).map λxs=>(xs,false,none)
 |.sl t xs 2=>if τ = .int .u8 then none else (zer t τ xs).map λxs=>(xs,true,none)
 |.own s=>match fnd ts.o s with
  |some (.acc e' t xs w)=>if e'=e then (zer t τ xs).map λxs=>(xs,w,some s)else none
  |_=>none
 |_=>none
def ymd{R}(ts:TS D.T)(t u:Nat)(s x:TV D.T)(k:TV D.T->TS D.T->Option R):Option R :=
 match P.underlying t,P.underlying u with
 |some (.slice e),some du=>
  match P.info? e,D.ty e with
  |some i,some τ=>
   match i.zero with
   |some z=>if zx1 du&&decide (0<i.size)&&decide (i.bytes<=524288)&&z.cells.size==i.size&&D.len τ==i.size then
     (match tSrc D ts τ x,tDst D ts e τ s with
     |some ys,some (xs,w,old)=>z82 (ext xs ys) λzs=>
      k (.own ts.nx) (match old with|none=>ts.new D (.acc e τ zs w)|some s=>(ts.new D (.acc e τ zs w)).set D s .gone)
     |_,_=>none)else none
   |none=>none
  |_,_=>none
 |_,_=>none
def ye3{R}(ts:TS D.T)(t u:Nat)(s:TV D.T)(q:Nat)(cells:List (TV D.T))(k:TV D.T->TS D.T->Option R)(kf:Nat->Option R):Option R :=
 match P.underlying t,P.underlying u with
 |some (.slice e),some du=>
  match P.info? e with
  |some i=>
   match i.zero with
   |some z=>if zx1 du&&decide (0<i.size)&&decide (i.bytes<=524288)&&z.cells.size==i.size&&D.len (.st q)==i.size then
     (match y8d D q (D.fl q) cells 0 with
     |.ok r=>(match s with
      |.nils=>z82 (ext [] [D.make q r.1]) λzs=>k (.own ts.nx) (ts.new D (.deep e q zs (r.2.map λp=>(0,p.1,p.2))))
      |.own s=>(match fnd ts.o s with
       |some (.deep e' q' xs h)=>if e'=e then (match h with
        |none=>(match zer (.st q') (.st q) xs with
         |some xs=>z82 (ext xs [D.make q r.1]) λzs=>k (.own ts.nx) ((ts.new D (.deep e q zs (r.2.map λp=>((xs.length:Int),p.1,p.2)))).set D s .gone)
         |none=>none)
        |some _=>kf s)else none
       |_=>none)
      |_=>none)
     |.frz s'=>kf s'
     |.bad=>none)else none
   |none=>none
  |none=>none
 |_,_=>none
def yym{R}(ts:TS D.T)(t:Nat)(d s:TV D.T)(k:TV D.T->TS D.T->Option R):Option R :=
 match d,s with
 |.osl s a,.osl s' b=>if s=s' then (match P.underlying t,fnd ts.o s with
  |some (.slice e),some (.acc ty τ xs true)=>if D.len τ=P.cellsOf e∧(P.info? e).isSome then
    z82 (y24 xs a b) λys=>k .any (((ts.zdi D (TV.ren D s ts.nx)).new D (.acc ty τ ys true)).set D s .gone)else none
  |_,_=>none)else none
 |_,_=>none
def yb0{R:Type}(ts:TS D.T)(t:Nat)(r:Option (TV D.T))(k:TV D.T->TS D.T->Option R):Option R :=
 match P.underlying t with
 |some (.map _ e)=>match D.ty e,r with
  |some τ,none=>k (.map ts.nx) (ts.new D (.mp t τ []))
  |some τ,some (.int _ _)=>k (.map ts.nx) (ts.new D (.mp t τ []))
  |_,_=>none
 |_=>none
def yaf{R:Type}(ts:TS D.T)(t:Nat)(m key x:TV D.T)(k:TV D.T->TS D.T->Option R):Option R :=
 match P.underlying t,m,key with
 |some (.map kt _),.map q,.str s=>match P.underlying kt,fnd ts.o q with
  |some .string,some (.mp ty τ es)=>match asD D τ x with
   |.ok y=>k .any (ts.set D q (.mp ty τ (zc5 es s y)))
   |_=>none
  |_,_=>none
 |_,_,_=>none
def z01h{R}(ts:TS D.T)(x:TV D.T)(str:Bool)(k:TV D.T->TS D.T->Option R):Option R :=
 match x,str with
 |.ptr s 0,true=>match fnd ts.o s with
  |some (.siter l pos)=>pIf (decide (pos<l.length)) (k (.tup [.bool true,.int .i64 pos,.int .i32 (zde l pos).1]) (ts.set D s (.siter l (pos+(zde l pos).2)))) (k (.tup [.bool false]) ts)
  |_=>none
 |_,_=>none
def tOp{R}(ts:TS D.T)(op:Op)(k:TV D.T->TS D.T->Option R)(kf:Nat->Option R):Option R :=
 match op with
 |.alloc t=>match yjg (T:=D.T) P t with
  |some z=>if z.kzh then k (.ptr ts.nx 0) (ts.new D (.cells z.cells))else none
  |none=>none
 |.box _ x=>match ts.ev x with
  |some v=>if v.kzh then k (.ptr ts.nx 0) (ts.new D (.cells v.cells))else none
  |none=>none
 |.store t a x=>match ts.ev a,ts.ev x with
  |some a,some x=>ydj P D ts t a x k kf
  |_,_=>none
 |.makeMap t r=>match oev D ts r with
  |some r=>yb0 P D ts t r k
  |none=>none
 |.mapUpdate t m i x=>match ts.ev m,ts.ev i,ts.ev x with
  |some m,some i,some x=>yaf P D ts t m i x k
  |_,_,_=>none
 |.insert t m i x=>match ts.ev m,ts.ev i,ts.ev x with
  |some m,some i,some x=>yaf P D ts t m i x k
  |_,_,_=>none
 |.range t x=>match ts.ev x with
  |some (.str s)=>match P.underlying t with
   |some .string=>k (.ptr ts.nx 0) (ts.new D (.siter s 0))
   |_=>none
  |_=>none
 |.next i b=>match ts.ev i with
  |some i=>z01h D ts i b k
  |none=>none
 |op=>match op with
  |.call c=>match c.callee,c.args.toList,c.argTypes.toList with
   |.builtin .append,[s,x],[t,u]=>match ts.ev s,ts.ev x with
    |some s,some (.bsl q [.agg cells])=>ye3 P D ts t u s q cells k kf
    |some s,some x=>ymd P D ts t u s x k
    |_,_=>none
   |.builtin .copy,[d,s],[t,u]=>match ts.ev d,ts.ev s with
    |some d,some s=>yym P D ts t d s k
    |_,_=>none
   |_,_,_=>tP P D ts op (λv=>k v ts) kf
  |op=>tP P D ts op (λv=>k v ts) kf
end
inductive Sh where
 |any
 |d (t:DTy)
 |own (k:Nat)
 |ptr (k off:Nat)
 |bp (k:Nat)
 |map (k:Nat)
 |mc (t:DTy)
 |nilp
 |nilf
 |nili
 |nils
 |fn (f:Nat) (a b:List Sh)
 |iface (t:Nat) (s:Sh)
 |agg (cs:List Sh)
 |tup (cs:List Sh)
 |ref (cs:List Sh) (off:Nat)
 |dp (k off:Nat)
 |ap (k:Nat) (t:DTy) (off:Nat)
inductive OSh where
 |cells (cs:List Sh)
 |st (i:Nat)
 |acc (ty:Nat) (t:DTy) (w:Bool)
 |siter
 |rig
 |mp (ty:Nat) (t:DTy)
 |mit (t:DTy)
 |bld (ty k:Nat)
 |deep (ty i:Nat)
 |deeph (ty i f k:Nat)
mutual
def Sh.tys:Sh->List DTy
 |.d t=>[t]
 |.mc t=>[.sl .str,.sl t]
 |.fn _ a b=>Sh.z04 a++Sh.z04 b
 |.iface _ s=>s.tys
 |.agg cs=>Sh.z04 cs
 |.tup cs=>Sh.z04 cs
 |.ref cs _=>Sh.z04 cs
 |.dp _ _=>[.int .i64]
 |.ap _ t _=>[.int .i64,t]
 |_=>[]
def Sh.z04:List Sh->List DTy
 |[]=>[]
 |s::l=>s.tys++Sh.z04 l
end
end Go.Ab
namespace Go.Ab
open Go
set_option linter.unusedVariables false
def HL.upd{T}:(l:List DTy)->HL T l->Nat->(t:DTy)->t.S T->Option (HL T l)
 |[],_,_,_,_=>none
 |t::_,x,0,t',y=>(y4a t' t y).map λy=>(y,x.2)
 |_::l,x,j+1,t',y=>(HL.upd l x.2 j t' y).map λz=>(x.1,z)
def HL.at{T}:(l:List DTy)->HL T l->Nat->Option ((t:DTy)×t.S T)
 |[],_,_=>none
 |t::_,x,0=>some ⟨t,x.1⟩
 |_::l,x,j+1=>HL.at l x.2 j
section
variable {D : Dat}
def ylv{T}:List (TO T)->Nat->List (Nat×TO T)
 |[],_=>[]
 |o::r,n=>(n,o)::ylv r (n+1)
def y5b{T}(l:List Nat):List (Nat×TO T):=l.map λs=>(s,.gone)
def TS.ztp(ts:TS D.T)(olds:List Nat)(tos:List (TO D.T)):TS D.T :=
 {ts with o:=ylv tos ts.nx++(y5b olds++ts.o),nx:=ts.nx+tos.length}
variable (D)
def Dat.zo4:DTy->Bool
 |.st q => !D.owns q
 |_=>true
def TS.fold{R}(ts:TS D.T)(s:Nat)(k:TS D.T->Option R):Option R :=
 match fnd ts.o s with
 |some (.deep ty q xs (some (n,f,c)))=>(match D.ow q f with
  |some ty'=>(match fnd ts.o c with
   |some (.deep ty2 q' ys none)=>if ty'=ty2∧c≠s then z82 (ix xs n) λy=>(match HL.upd (D.fl q) (D.get q y) f (.sl (.st q')) ys with
     |some z=>k ((ts.ztp [s,c] [.deep ty q (xs.set n.toNat (D.make q z)) none]).zdi D (TV.ren D s ts.nx))
     |none=>none)else none
   |some (.acc ty2 t' ys true)=>if ty'=ty2∧c≠s∧D.zo4 t'=true then z82 (ix xs n) λy=>(match HL.upd (D.fl q) (D.get q y) f (.sl t') ys with
     |some z=>k ((ts.ztp [s,c] [.deep ty q (xs.set n.toNat (D.make q z)) none]).zdi D (TV.ren D s ts.nx))
     |none=>none)else none
   |_=>none)
  |none=>none)
 |_=>none
def TS.opn{R}(ts:TS D.T)(s:Nat)(n:Int)(f:Nat)(k:TV D.T->TS D.T->Option R):Option R :=
 match fnd ts.o s with
 |some (.deep ty q xs none)=>(match D.ow q f with
  |some ty'=>z82 (ix xs n) λy=>(match HL.at (D.fl q) (D.get q y) f with
   |some ⟨.sl (.st q'),ys⟩=>(match D.owns q' with
    |true=>k (.own (ts.nx+1)) ((ts.ztp [s] [.deep ty q xs (some (n,f,ts.nx+1)),.deep ty' q' ys none]).zdi D (TV.ren D s ts.nx))
    |false=>k (.own (ts.nx+1)) ((ts.ztp [s] [.deep ty q xs (some (n,f,ts.nx+1)),.acc ty' (.st q') ys true]).zdi D (TV.ren D s ts.nx)))
   |some ⟨.sl t',ys⟩=>(match D.zo4 t' && !decide (t' = .int .u8)with
    |true=>k (.own (ts.nx+1)) ((ts.ztp [s] [.deep ty q xs (some (n,f,ts.nx+1)),.acc ty' t' ys true]).zdi D (TV.ren D s ts.nx))
    |false=>none)
   |_=>none)
  |none=>none)
 |_=>none
def TV.pl{T}:TV T->Bool
 |.bool _| .int _ _| .str _| .nilp| .nils| .mapn| .nilf| .nili| .sl _ _ _=>true
 |_=>false
mutual
def TV.see(ts:TS D.T):TV D.T->TV D.T
 |.own s=>(match fnd ts.o s with
  |some (.acc _ t xs _)=>.sl t xs 0
  |some (.deep _ q xs none)=>.sl (.st q) xs 0
  |_=>.any)
 |.agg cs=>.agg (TV.ywe ts cs)
 |.fn f a b=>(match a.all TV.pl&&b.all TV.pl with
  |true=>.fn f a b
  |false=>.any)
 |.bool b=>.bool b
 |.int k n=>.int k n
 |.str s=>.str s
 |.nilp=>.nilp
 |.nils=>.nils
 |.mapn=>.mapn
 |.nilf=>.nilf
 |.nili=>.nili
 |.sl t xs fl=>.sl t xs 0
 |_=>.any
def TV.ywe(ts:TS D.T):List (TV D.T)->List (TV D.T)
 |[]=>[]
 |v::vs=>TV.see ts v::TV.ywe ts vs
end
mutual
def TV.z00o{T:Nat->Type}:TV T->List Nat
 |.own s=>[s]
 |.agg cs=>TV.yd9 cs
 |_=>[]
def TV.yd9{T:Nat->Type}:List (TV T)->List Nat
 |[]=>[]
 |v::vs=>TV.z00o v++TV.yd9 vs
end
def isHole{T}(ts:TS T)(s:Nat):Bool:=match fnd ts.o s with
 |some (.deep _ _ _ (some _))=>true
 |_=>false
def z032{T}(ts:TS T)(s:Nat):Bool:=match fnd ts.o s with
 |some (.deep _ _ _ _)=>true
 |_=>false
def yap{T}:Nat->TS T->Nat->Nat
 |0,_,s=>s
 |f+1,ts,s=>match fnd ts.o s with
  |some (.deep _ _ _ (some p))=>(match isHole ts p.2.2 with
   |true=>yap f ts p.2.2
   |false=>s)
  |_=>s
def yuf{R}(P:Program)(ts:TS D.T)(t:Nat)(s:Nat)(i:Int)(off:Nat)(k:TV D.T->TS D.T->Option R)(kf:Nat->Option R):Option R :=
 match fnd ts.o s with
 |some (.deep _ q _ h)=>(match z02o D q off (szT P t)with
  |[]=>zv4 P D ts t s i off none λv=>k v ts
  |f::_=>(match h with
   |none=>ts.opn D s i f λv ts'=>zv4 P D ts t s i off (some (f,v)) λw=>k w ts'
   |some p=>(match Nat.beq p.2.1 f with
    |true=>z82 (zlb p.1 i) λ_=>zv4 P D ts t s i off (some (f,.own p.2.2)) λw=>k w ts
    |false=>kf s)))
 |_=>none
end
end Go.Ab
