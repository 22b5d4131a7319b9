/-
  A FUNCTION THAT ONLY COMPUTES AND HOLDS A LOOP OVER A FUNCTION: it leaves with the loop's mark among its deferred calls.
-/
import Derived.Test.YthphaiccgnkobaaGreatDoorLib2
import Derived.Maps.RangeRun
set_option linter.defProp false
set_option linter.unusedSimpArgs false
set_option linter.unusedVariables false
namespace Go.Ab
open Go
section
variable {P:Program}{W W':World}{g g':Gh}{H H':Heap}
def Gh.at(g:Gh)(b:Nat):Gh:={g with base:=b}
def Rel.at{v c}(h:Rel W g H v c)(b):Rel W (g.at b) H v c:=by
 induction h with
 |any c=>exact .any c
 |bool b=>exact .bool b
 |int k n=>exact .int k n
 |str s=>exact .str s
 |nilp=>exact .nilp
 |ptr l i d p=>exact .ptr l i d p
 |ref cs d b o c w C q z j=>exact .ref cs d b o c w C q j
 |ap l i r F d a p y E=>exact .ap l i r F d a p y E
 |nils=>exact .nils
 |slnil u full=>exact .slnil u full
 |sle u full a e B=>exact .sle u full a e B
 |sl u xs full b o e c w M x B hs C q z j=>exact .sl u xs full b o e c w M x B hs C q j
 |hs l i r d n full a m e p y E=>exact .hs l i r d n full a m e p y E
 |mapn=>exact .mapn
 |map l i p=>exact .map l i p
 |mapc es b U clock w N O=>exact .mapc es b U clock w N O
 |fn f R cs I J q Q Y X L K=>exact .fn f R cs I J q Q L K
 |nilf=>exact .nilf
 |iface t v c h j=>exact .iface t v c j
 |nili=>exact .nili
 |agg vs cs A q z j=>exact .agg vs cs A q j
 |tup vs cs A z j=>exact .tup vs cs A j
def zgm.at{i j o}(h:zgm W g H i j o)(b):zgm W (g.at b) H i j o:=by
 cases o with
 |cells cs=>
  have⟨c,ty,m,l,k,d⟩:=h
  exact⟨c,ty,m,l,k,λj v a=>(d j v a).at b⟩
 |arr E ty I xs J=>
  have⟨c,m,l,k,d,n,A,w,u,r⟩:=h
  exact⟨c,m,l,k,d,n,A,w,u,λj x t v a q=>(r j x t v a q).at b⟩
 |map es=>
  have⟨B,clock,m,l,k,d,n⟩:=h
  exact⟨B,clock,m,l,k,d,λj p a=>let ⟨e,x,y,z⟩:=n j p a;⟨e,x,y.at b,z.at b⟩⟩
 |siter s F=>exact h
 |mit es C=>exact h
def Good.at(h:Good W g H){b}(d:b<=W.heap.size):Good W (g.at b) H :=
 ⟨h.dom,h.lt,h.inj,h.fresh,λl i o a=>(h.obj l i o a).at b,h.zqr,d⟩
def Step.at(h:Step W g H W' g' H')(b):Step W (g.at b) H W' (g'.at b) H' :=
 ⟨h.os,h.tape,h.output,h.size,h.block,h.own,h.dom,h.new,h.blk,h.arr,h.lv,rfl⟩
def z0bc{σ}:∀rs:List ResultVar,y7m P {σ with d:=[]} rs=y7m P σ rs
 |[]=>rfl
 |r::rs=>by simp[y7m,z0bc rs];cases r <;> rfl
def yi7{fn σ}:z2g P fn {σ with d:=[]}=z2g P fn σ:=by unfold z2g;rw[z0bc]
def z090(P:Program)(fn:Func)(lv:Nat)(E:Nat->Nat->Option yzm)(r:V)(e:z27)(σ:St):Prop :=
 match e with
 |.normal| .ret=>∃v,z2g P fn σ=some v∧(σ.d=[]∨σ.d=[(znq,[])])∧σ.H.E=E∧VS σ.H (outer lv) v r
 |_=>False
def z06n{f:Nat}{fn:Func}{c:Code}{n:Nat}(hf:P.funcs[f]? = some fn)(hb:fn.body=some c)(M:fn.ntmps=n)(s:∀args w,(callFunc f args).run P w = .ok (.enter f args) w){args:List V}{r:V}
  (h:∀lv E,Sat P c ⟨args++List.replicate (n-args.length) .any,⟨lv+1,[],E⟩,[],E⟩ (z090 P fn lv E r)):zrw P f args r:=λH=>by
 intro W g b Z I;subst M
 let R:Ending->World->Prop:=λe W'=>∃l g',e = .returned l∧Step W g H W' g' H∧Good W' g' H∧Rel W' g' H r l
 refine .inl ⟨s b W,callsIn_wide.1 (callsIn_of_wp_marks (F:=Fence.wide) (n:=0) hf hb trivial ?_ rfl)⟩;have p:=Z.at (Qbp W.heap.size);have⟨o,h8,L⟩:=y69 p
 have O:yze W {tmps:=b++Array.replicate (fn.ntmps-b.size) undef,defers:=[]} (g.at W.heap.size) ⟨args++List.replicate (fn.ntmps-args.length) .any,⟨H.lv+1,[],H.get⟩,[],H.get⟩:=by
  refine⟨o,by simp[I.1],λj v i =>?_,rfl,by simp⟩;rw[Qaz]at i;split at i;rename_i N;rw[z3j (by rw[I.1];exact N)];exact L ((I.2 j v i).at _);rw[Qbi]at i;split at i;cases i;exact .any _;cases i
 refine wpIn_mono (h H.lv H.get W (g.at W.heap.size) ⟨H.lv+1,[],H.get⟩ W _ (g.at W.heap.size) ⟨o⟩ ⟨rfl,.refl _ _ _⟩ O none (.inl rfl) 0) λe a W' ⟨K,σ,e',q1,B,k,u⟩ =>?_
 have q:∀(W':World) (a:Act) (σ:St),Step W (g.at W.heap.size) ⟨H.lv+1,[],H.get⟩ W' K σ.H->yze W' a K σ->∀v,z2g P fn σ=some v->σ.H.E=H.get->VS σ.H (outer H.lv) v r ->
   ∃c,(results fn a.tmps).run P W' = .ok c W'∧∃l g',Ending.returned c = .returned l∧Step W g H W' g' H∧Good W' g' H∧Rel W' g' H r l:=λW' a σ X g3 v A z y=>by
  have⟨c,k1,k2⟩:=zff g3 A;have⟨g2,U,z2,z3⟩:=yhz p X.lv X g3.good (yan z y) k2;exact⟨c,k1,c,g2.at g.base,rfl,U.at g.base,z2.at (Qbe Z.base U.size),z3.at _⟩
 have m:(∃v,z2g P fn σ=some v∧(σ.d=[]∨σ.d=[(znq,[])])∧σ.H.E=H.get∧VS σ.H (outer H.lv) v r)->LeavesInM Fence.wide 0 P fn a.tmps R a.defers .returning W':=λ⟨v,A,h2,z,y⟩=>by
  rcases h2 with h2|h2
  have C:a.defers=[]:=Qao (by rw[k.dlen,h2];rfl);rw[C];exact q W' a σ B.2 k v A z y;have Y:=k.dlen;rw[h2]at Y
  rcases k.defs 0 znq [] (by rw[h2];rfl)with ⟨h0,_⟩|⟨_,D,h5,J,h7⟩
  exact absurd h0 (Nat.lt_irrefl _)
  obtain⟨d0,C⟩:∃d0,a.defers=[d0]:=by
   match ha:a.defers,Y with
   |[x],_=>exact⟨x,rfl⟩
  rw[C]at h5 ⊢;cases h5;refine⟨by simp,.inl ⟨D,_,rfl,run_takeDeferred J,?_⟩⟩;have Q:W.heap.size<=D:=by rw[<-show K.base=W.heap.size from B.2.base];exact h7
  exact q (W'.putObj D (.deferred none)) {a with defers:=[]} {σ with d:=[]} (B.2.putR Q _) ⟨k.good.put J rfl _,k.size,λj v i=>(k.tmps j v i).put J rfl _,rfl,λj f vs i=>by simp at i⟩ v (yi7.trans A) z y
 cases q1 with
 |normal=>exact m u
 |ret=>exact m u
 |exit id=>exact u.elim
 |panic v c hr=>exact u.elim
end
def PV.v:PV->V
 |.bool b=>.bool b
 |.int k n=>.int k n
 |.str s=>.str s
def PV.rel{W g H}:∀p:PV,Rel W g H p.v p.c
 |.bool b=>.bool b
 |.int k n=>.int k n
 |.str s=>.str s
def PV.of{W g H}:∀{p:PV}{c},Rel W g H p.v c->c=p.c
 |.bool b,c,h=>by cases h;rfl
 |.int k n,c,h=>by cases h;rfl
 |.str s,c,h=>by cases h;rfl
section
variable {P:Program}{W:World}{g:Gh}{H:Heap}
def z09a{H' i es}(s:Good W g H)(a:H.get H.lv i=some (.map (es.map λp=>(p.1.v,p.2.v))))(b:¬Own g H' (g.blk H.lv i)){c}(h:Rel W g H (.map H.lv i) c):Rel W g H' (.mapc es) c:=by
 have⟨u,clock,q,o,n,m,l⟩:=s.obj _ _ _ a
 cases h with
 |map _ _ x=>
  refine .mapc es _ u clock b q ⟨by simpa using o,n,m,λj p w =>?_⟩;have⟨e,r,k,d⟩:=l j (p.1.v,p.2.v) (by grind);exact⟨e,r,PV.of k,PV.of d⟩
def yy5(s:Good W g H){t j i:Nat}{es c}(l:P.underlying t=some (.map j i))(k:Rel W g H (.mapc es) c):za2 P W g H (do pure (.value (<-Instr.range t c))) (.ptr H.lv H.L.length 0) (H.push (.mit es [])):=by
 cases k with
 |mapc _ b x clock h e p=>
  have⟨w,u⟩:=zj5 s (O:=.mapIter (some b) clock #[] clock) (o:=.mit es []) 0 (λW' g' H' r n y a=>by
   refine⟨x,clock,b,?_,?_,?_,p⟩;rw[r,n];simp only[Gh.add,if_true];exact z4l _ _;intro m;have d:=(Qbh.1 e).1;exact(a.own _ m).elim h (λq=>by omega);have d:=(Qbh.1 e).1
   rw[a.block _ d h];exact e)
  refine⟨.pointer (some ⟨W.heap.size,0,none⟩),_,_,.inl ?_,w,u,?_⟩;simp[Instr.range,yz3 l,getObj,Sem.run,e,newObj];have:=Rel.ptr (W:=W.alloc (.mapIter (some b) clock #[] clock)) (g:=g.add H.lv H.L.length W.heap.size 0) (H:=H.push (.mit es [])) H.lv H.L.length 0 (.inr ⟨rfl,rfl⟩);simpa[Gh.add]using this
theorem zy8{t len e0 U:Nat}{s:List (Nat×V)}{ws:List V}{u:Array (Nat×Value)}(hG:Good W g H)(h:zek P t len s=some (.sl U ws true))(E:len≠0)(m:P.underlying t=some (.slice e0))(hl:u.size=s.length)
  (Z:∀(j i:Nat) (x:V),s[j]? = some (i,x)->∃c,u[j]? = some (i,c)∧Rel W g H x c):za2 P W g H (do pure (.value (<-Instr.buildSlice t len u))) (.hs H.lv H.L.length 0 0 ws.length false) (H.push (.arr 0 e0 U ws (some ws.length))):=by
 unfold zek at h;split at h
 ·rename_i e hu;split at h
  ·rename_i z hz;split at h
   ·rename_i hc;simp only[Qag,Qbg,Qar,Qat]at hc;have⟨⟨⟨⟨⟨⟨⟨c1,c2⟩,c3⟩,c4⟩,c5⟩,c6⟩,c7⟩,c8⟩:=hc;injection h with h;have⟨k2,hi⟩:=Option.isSome_iff_exists.1 c4;have hd:(sizeOf e).run P W = .ok (P.cellsOf e) W:=by simp[sizeOf,typeInfo,hi,Program.cellsOf]
    have⟨r,h9,h8⟩:=zu3 (W:=W) (g:=g) (H:=H) hz;have⟨I,h1,h6⟩:=zh2 c1 h8;have R:¬(len * P.cellsOf e>2 ^ 24):=by omega
    by_cases h0:len=0;exact(E h0).elim
    ·try rw[Qbr h0]at h
     injection h with Q hb _;subst Q;subst hb
     have hq:e0=e:=by rw[hu]at m;injection m with m;injection m with m;exact m.symm
     rw[hq]
     have hh:¬(len * P.cellsOf e=0):=by
      intro F
      rcases Nat.mul_eq_zero.1 F with q|q <;> omega
     let a:Array Value:=(Array.range (len * P.cellsOf e)).map (r.cells[· % r.cells.size]!)
     let A:List V:=(List.range (len * P.cellsOf e)).map λi=>z.cells.getD (i % z.cells.length) .any
     have C:zyj W g H A a:=by
      have h7:∀j v,A[j]? = some v->∃k,z.cells[k]? = some v∧a.getD j undef=r.cells.getD k undef:=λj v b=>by
       have M:j<len * P.cellsOf e:=by
        have:=(Qaa.1 b).1;simpa[A]using this
       simp only[A,Qan,List.getElem?_range M,Qbk,Qbn]at b;have F:j % z.cells.length<z.cells.length:=Nat.mod_lt _ (by omega)
       have hv:z.cells[j % z.cells.length]? = some v:=by
        rw[List.getD_eq_getElem?_getD,Qab F]at b;simp only[Option.getD_some]at b;rw[Qab F,b]
       have J:j % r.cells.size<r.cells.size:=by rw[I];exact F
       refine⟨_,hv,?_⟩;have Z:(Array.range (len * P.cellsOf e))[j]? = some j:=by simp[M]
       simp only[a,Qae,Array.getElem?_map,Z,Qbk,Option.getD_some];rw[getElem!_pos r.cells (j % r.cells.size) J]
       have ha:(r.cells)[j % z.cells.length]? = some (r.cells[j % r.cells.size]):=by
        rw[<-I];exact Qas J
       rw[ha];rfl
      refine⟨by simp[A,a],λj v b =>?_,λj v b =>?_⟩
      all_goals
       have⟨k,K,hk⟩:=h7 j v b;rw[hk]
       first|exact h1 _ _ K|exact h6 _ _ K
     have N:=y0m s 0 A c6 c7 (by simp[A,c5]);simp only[Nat.zero_mul,List.take_zero,Qbz]at N;have⟨rs,e1,e2⟩:=zqf s u.toList A a _ N C (by simpa using hl) (λj i x b=>by simpa using Z j i x b)
     have w:∀x∈s.map (·.2),x.cells.length=P.cellsOf e:=λx X=>by
      obtain⟨p,hp,rfl⟩:=Qbb.1 X;exact(c7 p hp).2
     have hlen:(s.map (·.2)).length=len:=by simp[c5]
     have hf:rs.size=len * P.cellsOf e:=by
      rw[e2.1]
      have:∀l:List V,(∀x∈l,x.cells.length=P.cellsOf e)->(l.flatMap V.cells).length=l.length * P.cellsOf e:=by
       intro l
       induction l with
       |nil=>intro _;simp
       |cons x l ih=>
        intro X;rw[List.flatMap_cons,Qap,ih λy hy=>X y (by simp[hy]),X x (by simp),List.length_cons,Nat.succ_mul,Nat.add_comm]
      rw[this _ w,hlen]
     have hw:len<=2 ^ 24:=Qbe (Nat.le_mul_of_pos_right _ c3) c8
     have⟨g1,g2⟩:=zj5 hG (O:=.cells rs e) (o:=.arr 0 e (P.cellsOf e) (s.map (·.2)) (some (s.map (·.2)).length)) len (λW' g' H' hW B hH he=>by
      have d:g'.cap H.lv H.L.length=len:=by rw[B];simp[Gh.add]
      refine⟨rs,?_,c3,by rw[d,hf],by rw[d];exact Qbe hw (by decide),by rw[d,hlen];exact Qbp _,λn hn=>by injection hn with hn;rw[d,<-hn,hlen],λj x b=>w x (Qax b),λj x t v b Y=>e2.2.1 _ _ (zur _ w j t x v b Y),λj x t v b Y=>(e2.2.2 _ _ (zur _ w j t x v b Y)).mono he⟩;rw[hW,B];simp only[Gh.add,and_self,if_true]
      exact z4l _ _)
     refine⟨.slice (some ⟨W.heap.size,0,none⟩) len len,_,_,.inl ?_,g1,g2,?_⟩;have k1:Instr.fill (λi=>some (i * P.cellsOf e,P.cellsOf e)) (Array.map (λx=>r.cells[x % r.cells.size]!) (Array.range (len * P.cellsOf e))) u.toList=some rs:=e1;simp only[Instr.buildSlice,Qbt,yz3 hu,Qbu,hd,Sem.run_ite,R,hh,if_false,Sem.run_pure,h9];simp[k1,newRow];rw[hlen]
     refine .hs _ _ _ _ _ _ _ _ _ (.inr ⟨rfl,rfl⟩) (λv ty U xs cp B=>Qbo _) λty U xs cp B =>?_
     have ho:(H.push (.arr 0 e (P.cellsOf e) (s.map (·.2)) (some len))).get H.lv H.L.length=some (.arr 0 e (P.cellsOf e) (s.map (·.2)) (some len)):=by
      unfold Heap.get Heap.push;simp
     rw[ho]at B;injection B with B;injection B with _ h2 h3 h4 h5;subst h4;refine⟨by simp[Gh.add],rfl,⟨Qbp _,by simp[Gh.add],λh=>by cases h⟩,by rw[hlen];omega⟩
   cases h
  cases h
 cases h
def z01f{es h clock}(l:z02d es h clock):(h.toList.map (·.born)).Nodup:=by
 rw[List.Nodup,List.pairwise_iff_getElem];intro q j k d i e;have b:=by simpa using k
 have a:=by simpa using d
 have:=l.2.2.1 q j _ _ (Qas b) (Qas a) (by simpa using e);omega
def yxd(n:Good W g H){l i j es a p c}(u:H.get l i=some (.mit es (a++[j])))(s:es[j]? = some p)(r:Rel W g H (.ptr l i 0) c):za2 P W g H (do pure (.value (<-Instr.entry c))) (.tup [p.1.v,p.2.v]) H:=by
 cases r with
 |ptr _ _ _ B=>
  have⟨h,clock,m,E,C,w,o⟩:=n.obj _ _ _ u;have⟨e,z,y,x⟩:=o.2.2.2 j p s;have A:zc1 h j=e.born:=by simp[zc1,z]
  have k:W.heap[g.blk l i]? = some (.mapIter (some m) clock ((a.map (zc1 h)).toArray.push e.born) clock):=by
   grind
  have d:=run_entry_at (P:=P) W (g.blk l i) m clock (a.map (zc1 h)).toArray h clock e k w (by grind) (z01f o);refine⟨.tuple #[e.key,e.val],W,g,.inl (by simp[d]),.refl _ _ _,n,.tup _ _ rfl λq v b =>?_⟩
  match q with
  |0=>simp at b;subst b;simp[y];exact PV.rel _
  |1=>simp at b;subst b;simp[x];exact PV.rel _
  |q+2=>simp at b
end
section
variable {P:Program}
def z05m{ops:Array Oper}{k:Nat}{σ:St}{Q:z27->St->Prop}{o:Oper}{x:Operand}{l i:Nat}{es:List (PV×PV)}{d:List Nat}(ho:ops[k]? = some o)(hw:z0r ops σ o=some true)(Z:o.op = .next x false)(hx:σ.ev x = .ptr l i 0)(hg:σ.H.get l i=some (.mit es d))
  (h9:∀q∈d,q<es.length)
  (hh:(∀j,j<es.length->j∈d)->zgn P ops (k+1) (σ.put o.dst (.tup [.bool false])) Q)
  (ha:∀j p,es[j]? = some p->j∉d->zgn P ops (k+1) ({σ with H:=σ.H.set l i (.mit es (d++[j]))}.put o.dst (.tup [.bool true,p.1.v,p.2.v])) Q):zgn P ops k σ Q:=λW0 g0 H0 W a g hB hS F=>by
 have hk:k<ops.size:=by
  rcases Nat.lt_or_ge k ops.size with q|q
  exact q;rw[Array.getElem?_eq_none q]at ho;cases ho
 rw[show ops.size-k=(ops.size-(k+1))+1 by omega,List.range'_succ];simp only[wpOps,ho];rw[z1u F hw,Qbq rfl];left;unfold Oper.wp;have hr:=F.ev x;rw[hx]at hr;generalize hit:a.eval x=cx at hr
 cases hr with
 |ptr _ _ _ hd=>
  have⟨m,clock,M,h1,h2,X,h4⟩:=F.good.obj _ _ _ hg;have⟨m2,m3,m4,m5⟩:=h4;replace h1:W.heap[g.blk l i]? = some (.mapIter (some M) clock (d.map (zc1 m)).toArray clock):=h1;have hv:g.blk l i<W.heap.size:=F.good.lt _ _ _ hg;have L:∀y∈m.toList,y.born<clock:=λy hy=>m3 y (by simpa using hy)
  have r:∀j,j<es.length->∃e,m[j]? = some e∧zc1 m j=e.born:=λj u=>by
   have C:j<m.size:=by rw[m2];exact u
   exact⟨m[j],Qas C,by simp[zc1,C]⟩
  have hinj:∀j N,j<es.length->N<es.length->zc1 m j=zc1 m N->j=N:=λj N u C U=>by
   have⟨e,e1,e2⟩:=r j u;have⟨A,e3,e4⟩:=r N C;exact m4 j N e A e1 e3 (by rw[<-e2,<-e4,U])
  rcases run_next_at (P:=P) W o.type (g.blk l i) M clock clock _ m clock h1 X L (Qbp _)with ⟨hz,I⟩|⟨e,U,E,B,I⟩
  ·have hi:∀j,j<es.length->j∈d:=λj u=>by
    have⟨e,e1,e2⟩:=r j u
    have ht:¬e∈leftOf m (d.map (zc1 m)).toArray:=λhm=>by
     have:=Array.size_pos_of_mem hm;omega
    have hf:e∈m:=Array.mem_of_getElem? e1
    have:(d.map (zc1 m)).contains e.born=true:=by
     cases hc:(d.map (zc1 m)).contains e.born;exact(ht (by unfold leftOf;rw[Array.mem_filter];exact⟨hf,by simpa using hc⟩)).elim;rfl
    rw[List.contains_iff_mem,Qbb]at this;have⟨q,s,Y⟩:=this;rw[<-e2]at Y;rw[<-hinj q j (h9 q s) u Y];exact s
   have J:(execOp a.eval o).run P W = .ok (.value (.tuple #[.bool false])) W:=by unfold execOp;rw[Z];simp[hit,I]
   have R:=F.next (.refl _ _ _) F.good (v:=.tup [.bool false]) (c:=.tuple #[.bool false]) (.tup _ _ rfl (λj v u=>by
    cases j with
    |zero=>simp at u;subst u;exact .bool _
    |succ j=>simp at u)) o.dst
   have hH:(σ.put o.dst (.tup [.bool false])).H=σ.H:=by cases o.dst <;> rfl
   have K:(σ.put o.dst (.tup [.bool false])).e0=σ.e0:=by cases o.dst <;> rfl
   rw[J];exact hh hi W0 g0 H0 W _ g hB (by rw[hH,K];exact hS) R
  ·have h7:e∈m∧(d.map (zc1 m)).contains e.born=false:=by
    have n:e∈leftOf m (d.map (zc1 m)).toArray:=by simpa using U
    unfold leftOf at n;rw[Array.mem_filter]at n;exact⟨n.1,by simpa using n.2⟩
   have⟨j,h6,k1⟩:=Array.getElem_of_mem h7.1;have u:j<es.length:=by rw[<-m2];exact h6
   have h5:m[j]? = some e:=by rw[Qas h6,k1]
   have h8:zc1 m j=e.born:=by simp[zc1,h5]
   have hs:j∉d:=λhm=>by
    have:e.born∈d.map (zc1 m):=Qbb.2 ⟨j,hm,h8⟩;rw[<-List.contains_iff_mem,h7.2]at this;cases this
   have hp:es[j]? = some es[j]:=Qab u;have⟨A,n,r1,r2⟩:=m5 j _ hp
   obtain rfl:A=e:=by rw[h5]at n;injection n with h;exact h.symm
   have w:E.heap=W.heap:=by rcases B with rfl|rfl <;> rfl
   have z:∀q,q≠g.blk l i->∀O,(Go.ChangeMaps.setBlock E (g.blk l i) O).heap[q]? = W.heap[q]? := λq s O=>by
    show(E.heap.setIfInBounds (g.blk l i) O)[q]? = _;rw[Array.getElem?_setIfInBounds_ne (λh=>s h.symm),w]
   have k3:∀O,(Go.ChangeMaps.setBlock E (g.blk l i) O).heap[g.blk l i]? = some O:=λO=>by
    show(E.heap.setIfInBounds (g.blk l i) O)[g.blk l i]? = _;rw[Array.getElem?_setIfInBounds_self_of_lt (by rw[w];exact hv)]
   have hu:M≠g.blk l i:=λe=>by rw[e,h1]at X;cases X
   have⟨s1,s2⟩:=zgk F.good (o':=.mit es (d++[j])) hg rfl (W':=Go.ChangeMaps.setBlock E (g.blk l i) (.mapIter (some M) clock ((d.map (zc1 m)).toArray.push A.born) clock))
    (by rcases B with rfl|rfl <;> rfl) (by rcases B with rfl|rfl <;> rfl) (by rcases B with rfl|rfl <;> rfl)
    (by show W.heap.size<=(E.heap.setIfInBounds _ _).size;rw[Array.size_setIfInBounds,w];exact Qbp _)
    (λb hb k2=>z b k2 _) (λk4 ty sz xs cp U=>by cases U) (λhl=>by
      refine⟨m,clock,M,?_,λR=>(hl.own _ R).elim h2 (λq =>?_),?_,⟨m2,m3,m4,m5⟩⟩;rw[k3];have:(List.map (zc1 m) (d++[j])).toArray=(d.map (zc1 m)).toArray.push A.born:=by simp[h8]
      rw[<-this];have:=(Qbh.1 X).1;omega
      rw[z _ hu];exact X)
   have J:(execOp a.eval o).run P W = .ok (.value (.tuple #[.bool true,A.key,A.val])) (Go.ChangeMaps.setBlock E (g.blk l i) (.mapIter (some M) clock ((d.map (zc1 m)).toArray.push A.born) clock)):=by
    unfold execOp;rw[Z];simp[hit,I]
   have R:=F.next s1 s2 (v:=.tup [.bool true,es[j].1.v,es[j].2.v]) (c:=.tuple #[.bool true,A.key,A.val]) (.tup _ _ rfl (λq v s=>by
    match q with
    |0=>simp at s;subst s;exact .bool _
    |1=>simp at s;subst s;simp only[r1];exact PV.rel _
    |2=>simp at s;subst s;simp only[r2];exact PV.rel _
    |q+3=>simp at s)) o.dst
   have hH:({σ with H:=σ.H.set l i (.mit es (d++[j]))}.put o.dst (.tup [.bool true,es[j].1.v,es[j].2.v])).H=σ.H.set l i (.mit es (d++[j])):=by cases o.dst <;> rfl
   have K:({σ with H:=σ.H.set l i (.mit es (d++[j]))}.put o.dst (.tup [.bool true,es[j].1.v,es[j].2.v])).e0=σ.e0:=by cases o.dst <;> rfl
   rw[J];exact ha j es[j] hp hs W0 g0 H0 _ _ g hB (by rw[hH,K];exact⟨hS.1,hS.2.trans s1⟩) R
end
section
variable {P:Program}
def z04y{σ:St}{i:Nat}{es:List (PV×PV)}(hi:σ.H.L[i]? = some (some (.map (es.map λp=>(p.1.v,p.2.v)))))(hd:σ.d=[]){K j:List (Nat×yzm)}(h5:(K.map (·.1)).Nodup)(F:FOL (.map σ.H.lv i) (.mapc es) K j)(h4:∀p∈K,σ.H.L[p.1]? = some (some p.2)∧p.1≠i)
  {t':List V} (ht:FVL (.map σ.H.lv i) (.mapc es) σ.t t') :
  znz σ ⟨t',⟨σ.H.lv,told σ.H.L (some i) j,σ.H.E⟩,[],σ.e0⟩∧(∀k∈j,(told σ.H.L (some i) j)[k.1]? = some (some k.2))∧∀n,n<σ.H.L.length->n≠i->(∀p∈K,p.1≠n)->(told σ.H.L (some i) j)[n]? = σ.H.L[n]? := by
 have h8:(j.map (·.1)).Nodup:=by rw[F.map];exact h5
 have I:∀k∈j,j.find? (λp=>p.1==k.1)=some k:=λk u=>by
  cases x:j.find? (λp=>p.1==k.1)with
  |none=>rw[List.find?_eq_none]at x;have:=x k u;simp at this
  |some q=>
   have M:=List.find?_some x;have Y:=List.mem_of_find?_eq_some x;simp at M;have⟨a,ha⟩:=List.mem_iff_getElem?.1 u;have⟨b,U⟩:=List.mem_iff_getElem?.1 Y;have O:(j.map (·.1))[a]? = some k.1:=by simp[ha]
   have h9:(j.map (·.1))[b]? = some k.1:=by simp[U,M]
   have s:=(Qaa.1 O).1;have:=(List.getElem?_inj s h8).1 (O.trans h9.symm);subst this;rw[ha]at U;exact U.symm
 have z:∀k∈j,∃o,σ.H.L[k.1]? = some (some o)∧k.1≠i∧FO (.map σ.H.lv i) (.mapc es) o k.2:=λk u=>by
  have⟨o,ho,hf⟩:=F.mem k u;exact⟨o,(h4 _ ho).1,(h4 _ ho).2,hf⟩
 refine⟨?_,λk u =>?_,λn hn h7 h6 =>?_⟩;refine yii (v:=.map σ.H.lv i) (r:=.mapc es) (zmk _ _ _) (λm o' w =>?_) ht hd λW g hG he hf c hc =>?_
 have s:m<σ.H.L.length:=by have:=(Qaa.1 w).1;rw[zmk]at this;exact this
 rw[zie s]at w;injection w with w;split at w;cases w;split at w;rename_i p C;injection w with w;have y:=List.find?_some C;simp at y;have⟨o,J,_,X⟩:=z p (List.mem_of_find?_eq_some C);exact⟨o,by rw[<-y];exact J,by rw[<-w];exact X⟩;refine⟨o',?_,.inl rfl⟩;rw[Qab s]at w ⊢;simp at w;rw[w]
 have A:σ.H.get σ.H.lv i=some (.map (es.map λp=>(p.1.v,p.2.v))):=by unfold Heap.get;rw[Qbq rfl,hi];rfl
 refine z09a hG A (λ⟨l,B,o',h,Z⟩ =>?_) hc
 have Q:∃o,σ.H.get l B=some o∧o'.blk g l B=o.blk g l B∧¬(l=σ.H.lv∧B=i):=by
  unfold Heap.get at h ⊢;dsimp only at h ⊢;by_cases R:l=σ.H.lv;rw[Qbq R]at h ⊢
  cases x:(told σ.H.L (some i) j)[B]? with
  |none=>rw[x]at h;simp at h
  |some q=>
   have s:B<σ.H.L.length:=by have:=(Qaa.1 x).1;rw[zmk]at this;exact this
   rw[zie s]at x;injection x with x;rw[zie s]at h;simp only[Option.join_some]at h;split at h;cases h;rename_i N;split at h;rename_i p C;injection h with h;have y:=List.find?_some C;simp at y;have⟨o,J,_,X⟩:=z p (List.mem_of_find?_eq_some C);rw[y]at J;exact⟨o,by rw[J];rfl,by rw[<-h];exact X.blk g l B,λe=>N (by rw[e.2])⟩;exact⟨o',h,rfl,λe=>N (by rw[e.2])⟩
  rw[Qbr R]at h ⊢;exact⟨o',h,rfl,λe=>R e.1⟩
 have⟨o,w1,w2,w3⟩:=Q;exact w3 (hG.inj _ _ _ _ _ _ w1 A (by rw[<-w2];exact Z));have⟨o,J,h2,_⟩:=z k u;have s:=(Qaa.1 J).1;rw[zie s,Qbr (λe=>h2 (by injection e with e;exact e.symm)),I k u];rw[zie hn,Qbr (λe=>h7 (by injection e with e;exact e.symm))]
 have:j.find? (λp=>p.1==n)=none:=by
  rw[List.find?_eq_none];intro p C;have:p.1∈K.map (·.1):=by rw[<-F.map];exact List.mem_map_of_mem C
  have⟨q,x,hg⟩:=Qbb.1 this;have:=h6 q x;simp;omega
 rw[this,Qab hn];rfl
end
section
variable {P:Program}{ops:Array Oper}{md:Region.Mode}
abbrev Key:=Nat×Option Nat
def cellAt(o:Option (Option yzm))(c:Nat):Option V:=match o with
 |some (some (.cells cs))=>cs[c]?
 |_=>none
def obs(H:Heap)(x:Key):Option (Option yzm)×Option V:=match x.2 with
 |none=>(H.L[x.1]?,none)
 |some c=>(none,cellAt H.L[x.1]? c)
def z00y{H H' x}(h:H'.L[x.1]? = H.L[x.1]?):obs H' x=obs H x:=by unfold obs;rw[h]
structure Info where
 eff:Bool
 K:Key->Prop
 W:Key->Prop
 call:Bool:=false
def y4a(K:Key->Prop)(H H':Heap):Prop:=∀i,K i->obs H' i=obs H i
def y4a.refl(K)(H):y4a K H H:=λ_ _=>rfl
def y4a.trans{K A B C}(h:y4a K A B)(k:y4a K B C):y4a K A C:=λi hi=>(k i hi).trans (h i hi)
def y4a.symm{K A B}(h:y4a K A B):y4a K B A:=λi hi=>(h i hi).symm
def effB(op:Op):Bool:=match op with
 |.alloc _| .box _ _| .store _ _ _=>true
 |.call c=>(match c.callee with
  |.builtin .append=>true
  |.builtin .unsafeString=>true
  |_=>false)
 |_=>false
def ydi{H ρ ρ' o}(h:∀x∈o.operands,ρ x=ρ' x):zu0 P H ρ o=zu0 P H ρ' o:=by
 cases o
 case makeSlice t n c=>grind[zu0,Op.operands]
 case convert s d x=>grind[zu0,Op.operands]
 case binOp op t x y _=>grind[zu0,Op.operands]
 case call c=>
  simp[zu0];split
  grind[Op.operands,Call.operands]
  grind[Op.operands,Call.operands]
  rfl
 all_goals rfl
def QP(P:Program)(H:Heap)(ρ:Operand->V)(o:Oper)(v:V):Prop:=pv P H ρ o.op=some v∨(∃c f args,o.op = .call c∧target ρ c=some (f,args)∧y4u P f args H v H)∨zu0 P H ρ o.op=some (v,H)∨(∃t n c,o.op = .makeSlice t n c∧zln P t (ρ n) (ρ c)=some v)∨∃c s x t u,o.op = .call c∧c.callee = .builtin .append∧c.args.toList=[s,x]∧c.argTypes.toList=[t,u]∧y1j P t u (ρ s) (ρ x)=some v
def zow{H ρ ρ' o v}(h:∀x∈o.op.operands,ρ x=ρ' x)(hq:QP P H ρ o v):QP P H ρ' o v:=by
 rcases hq with hq|⟨c,f,args,a,d,b⟩|hq|⟨t,n,c,a,d⟩|⟨c,s,x,t,u,a,d,b,j,i⟩
 exact .inl (by rw[<-yva h];exact hq);exact .inr (.inl ⟨c,f,args,a,by rw[<-zo1 (ρ:=ρ) (λx e=>h x (by rw[a];exact e))];exact d,b⟩);exact .inr (.inr (.inl (by rw[<-ydi h];exact hq)));exact .inr (.inr (.inr (.inl ⟨t,n,c,a,by grind[Op.operands]⟩)))
 exact .inr (.inr (.inr (.inr ⟨c,s,x,t,u,a,d,b,j,by
  rw[<-h s (by rw[a];simp[Op.operands,Call.operands];right;rw[<-Array.mem_toList_iff,b];simp),<-h x (by rw[a];simp[Op.operands,Call.operands];right;rw[<-Array.mem_toList_iff,b];simp)];exact i⟩)))
def zus(P:Program)(H:Heap)(ρ:Operand->V)(op:Op)(v:V)(H':Heap):Prop:=∃t len b e a ws,op = .buildSlice t len b∧zek P t len (partsOf ρ b)=some (.sl a ws true)∧len≠0∧P.underlying t=some (.slice e)∧v = .hs H.lv H.L.length 0 0 ws.length false∧H'=H.push (.arr 0 e a ws (some ws.length))
def zus.sound{W g H H' ρ r o v}(m:Good W g H)(b:∀x,Rel W g H (ρ x) (r x))(h:zus P H ρ o.op v H'):za2 P W g H (execOp r o) v H':=by
 obtain⟨t,len,a,e,i,ws,d,b1,hlen,l,rfl,rfl⟩:=h;unfold execOp;have⟨k,j⟩:=zol b a
 grind[zy8]
def zus.congr{H H' ρ ρ' o v}(h:∀x∈o.operands,ρ x=ρ' x)(d:zus P H ρ o v H'):zus P H ρ' o v H':=by
 obtain⟨t,len,b,e,a,ws,rfl,b1,b2⟩:=d;refine⟨t,len,b,e,a,ws,rfl,?_,b2⟩;rw[<-b1]
 congr 1
 refine List.map_congr_left λp i =>?_
 rw[h p.2 (List.mem_toArray.2 (Qbb.2 ⟨p,i,rfl⟩))]
def Eff2(P:Program)(H:Heap)(ρ:Operand->V)(op:Op)(v:V)(H':Heap):Prop:=(effB op=true∧ox P H ρ op=some (v,H'))∨zu0 P H ρ op=some (v,H')∨zus P H ρ op v H'
def z078{H ρ ρ' o}(b:effB o=true)(h:∀x∈o.operands,ρ x=ρ' x):ox P H ρ o=ox P H ρ' o:=by
 cases o
 case alloc t=>rfl
 case box t x=>grind[ox,Op.operands]
 case store t a x=>grind[ox,Op.operands]
 case call c=>
  simp[effB]at b;split at b
  grind[ox,Op.operands,Call.operands]
  grind[ox,zf9]
  cases b
 all_goals cases b
def zw9{H H' ρ ρ' o v}(h:∀x∈o.operands,ρ x=ρ' x)(a:Eff2 P H ρ o v H'):Eff2 P H ρ' o v H' :=
 a.imp (λq=>⟨q.1,by rw[<-z078 q.1 h];exact q.2⟩) λq=>q.imp (λq=>by rw[<-ydi h];exact q) λq=>q.congr h
def MV(P:Program)(ops:Array Oper)(S:Heap->Prop)(c:Info)(σ:St)(o:Oper)(v:V)(H':Heap):Prop :=
 (z0r ops σ o=some false∧v = .tup []∧H'=σ.H) ∨
 (z0r ops σ o=some true∧S σ.H ∧
  ((c.eff=false∧H'=σ.H∧∀a,S a->y4a c.K σ.H a->QP P a σ.ev o v) ∨
   (c.eff=true∧True∧Eff2 P σ.H σ.ev o.op v H'∧S H'∧∀i,¬c.W i->obs H' i=obs σ.H i)))
def z9n(σ:St)(o:Oper)(v:V)(H':Heap):St:=({σ with H:=H'}:St).put o.dst v
def y7j{σ o v H' x}(h:∀d,o.dst=some d->x ≠ .tmp d):(z9n σ o v H').ev x=σ.ev x :=
 (z097 (σ:={σ with H:=H'}) h).trans (by cases x <;> rfl)
def y2z{σ o v H'}:(z9n σ o v H').H=H':=z08o
def zo4{σ o a v H'}(h:∀d,o.dst=some d->d∉a.looksAt ops):z0r ops (z9n σ o v H') a=z0r ops σ a :=
 (ydc (σ:={σ with H:=H'}) h).trans rfl
theorem yjb{σ b a v u A B C}(h:∀d,b.dst=some d->a.dst≠some d):z9n (z9n σ b v A) a u C=z9n (z9n σ a u B) b v C:=by
 have e:∀(o:Oper) (w:V) (H:Heap),({z9n σ o w H with H:=C}:St)=({σ with H:=C}:St).put o.dst w:=λo w H=>by unfold z9n;cases o.dst <;> rfl
 unfold z9n at e ⊢;rw[e,e];exact put_comm v u h
def z0cf{S n m l k}(C:l.apart ops k=true)(R:¬(n.eff=true∧m.eff=true))(B:n.eff=false->m.eff=true->∀x,n.K x->¬m.W x)(A:m.eff=false->n.eff=true->∀x,m.K x->¬n.W x)
  {σ v u M r} (E:MV P ops S n σ l v M) (q:MV P ops S m (z9n σ l v M) k u r) :
  ∃s,MV P ops S m σ k u s∧MV P ops S n (z9n σ k u s) l v r:=by
 have⟨L,U,J⟩:=Oper.apart_spec C;have i:∀{w:V}{H:Heap},∀x∈k.op.operands,(z9n σ l w H).ev x=σ.ev x:=λ{w H} x b=>y7j λd y=>zgq (L d y) x b
 have j:∀{w:V}{H:Heap},∀x∈l.op.operands,(z9n σ k w H).ev x=σ.ev x:=λ{w H} x b=>y7j λd y=>zgq (J d y) x b
 have N:∀{w:V}{H:Heap},z0r ops (z9n σ l w H) k=z0r ops σ k:=zo4 L;have O:∀{w:V}{H:Heap},z0r ops (z9n σ k w H) l=z0r ops σ l:=zo4 J;unfold MV at E q ⊢;rw[N,y2z]at q;simp only[O,y2z]
 rcases E with ⟨b1,rfl,rfl⟩|⟨b1,bs,⟨b2,rfl,p⟩|⟨b2,p,I,F,z⟩⟩
 rcases q with ⟨d1,rfl,rfl⟩|⟨d1,o,⟨d2,rfl,d3⟩|⟨d2,d3,d4,d5,d6⟩⟩
 exact⟨σ.H,.inl ⟨d1,rfl,rfl⟩,.inl ⟨b1,rfl,rfl⟩⟩;exact⟨σ.H,.inr ⟨d1,o,.inl ⟨d2,rfl,λa h e=>zow i (d3 a h e)⟩⟩,.inl ⟨b1,rfl,rfl⟩⟩;exact⟨r,.inr ⟨d1,o,.inr ⟨d2,d3,zw9 i d4,d5,d6⟩⟩,.inl ⟨b1,rfl,rfl⟩⟩
 rcases q with ⟨d1,rfl,rfl⟩|⟨d1,o,⟨d2,rfl,d3⟩|⟨d2,d3,d4,d5,d6⟩⟩
 exact⟨σ.H,.inl ⟨d1,rfl,rfl⟩,.inr ⟨b1,bs,.inl ⟨b2,rfl,λa h e=>zow (λx b=>(j x b).symm) (p a h e)⟩⟩⟩;exact⟨σ.H,.inr ⟨d1,o,.inl ⟨d2,rfl,λa h e=>zow i (d3 a h e)⟩⟩,.inr ⟨b1,bs,.inl ⟨b2,rfl,λa h e=>zow (λx b=>(j x b).symm) (p a h e)⟩⟩⟩
 refine⟨r,.inr ⟨d1,o,.inr ⟨d2,d3,zw9 i d4,d5,d6⟩⟩,.inr ⟨b1,d5,.inl ⟨b2,rfl,λa h e=>zow (λx b=>(j x b).symm) (p a h (y4a.trans (λx b=>d6 x (B b2 d2 x b)) e))⟩⟩⟩
 rcases q with ⟨d1,rfl,rfl⟩|⟨d1,o,⟨d2,rfl,d3⟩|⟨d2,d3,d4,d5,d6⟩⟩
 exact⟨σ.H,.inl ⟨d1,rfl,rfl⟩,.inr ⟨b1,bs,.inr ⟨b2,p,zw9 (λx b=>(j x b).symm) I,F,z⟩⟩⟩;have Q:y4a m.K σ.H r:=λx b=>z x (A d2 b2 x b)
 exact⟨σ.H,.inr ⟨d1,bs,.inl ⟨d2,rfl,λa h e=>zow i (d3 a h (Q.symm.trans e))⟩⟩,.inr ⟨b1,bs,.inr ⟨b2,p,zw9 (λx b=>(j x b).symm) I,F,z⟩⟩⟩
 grind
def MC(P:Program)(ops:Array Oper)(S:Heap->Prop)(c:Info)(σ:St)(o:Oper)(K:V->Heap->Prop)(Kp:V->St->Prop):Prop :=
 c.eff=true∧c.call=true∧z0r ops σ o=some true∧∃cl f args a,o.op = .call cl∧target σ.ev cl=some (f,args)∧zqp P f args σ.H a ∧
  (∀v H',a (.ret v) H'->S H'∧(∀i,¬c.W i->obs H' i=obs σ.H i)∧K v H')∧∀v H',a (.pan v) H'->Kp v {σ with H:=H'}
def MC.imp{S c σ o K b Kp}(h:MC P ops S c σ o K Kp)(q:∀v H',S H'->(∀i,¬c.W i->obs H' i=obs σ.H i)->K v H'->b v H'):MC P ops S c σ o b Kp:=by
 have⟨n,m,l,cl,f,args,a,k,j,e,r,d⟩:=h;exact⟨n,m,l,cl,f,args,a,k,j,e,λv H' p=>by grind,d⟩
inductive Dep (md:Region.Mode) (ops:Array Oper) (a:Nat):Nat->Prop where
 |one (b:Nat) (o:Oper) (e:Edge) (ho:ops[b]? = some o) (he:e∈o.after) (hb:Region.binds md e=true) (hon:e.on=a):Dep md ops a b
 |more (b:Nat) (o:Oper) (e:Edge) (ho:ops[b]? = some o) (he:e∈o.after) (hb:Region.binds md e=true) (h:Dep md ops a e.on):Dep md ops a b
def Free(md:Region.Mode)(ops:Array Oper)(i j:Nat):Prop:=¬Dep md ops i j∧¬Dep md ops j i
def Down(md:Region.Mode)(ops:Array Oper)(listed:Array Bool):Prop:=∀b o,ops[b]? = some o->listed.getD b false=true->∀e∈o.after,Region.binds md e=true->listed.getD e.on false=true
def Down.dep{listed}(h:Down md ops listed){a b}(n:Dep md ops a b):listed.getD b false=true->listed.getD a false=true:=by
 induction n with
 |one b o e d j k l=>intro i;subst l;exact h b o d i e j k
 |more b o e d j k _ m=>intro i;exact m (h b o d i e j k)
def Down.ready{listed}(h:Down md ops listed){a b}(i:b∈Region.ready md ops listed)(k:Dep md ops a b):listed.getD a false=true:=by
 have⟨_,o',l,d⟩:=mem_ready.1 i
 cases k with
 |one _ o e j m i n=>grind
 |more _ o e j m i k=>rw[l]at j;cases j;exact h.dep k (d e m i)
theorem Down.set{listed}(h:Down md ops listed){k}(m:k∈Region.ready md ops listed):Down md ops (listed.setIfInBounds k true):=λb o l d e n p=>by
 have⟨_,o',q,i⟩:=mem_ready.1 m
 have up:∀j,listed.getD j false=true->(listed.setIfInBounds k true).getD j false=true:=λj s=>by
  by_cases r:k=j
  grind
  simp_all
 refine up _ ?_;by_cases a:k=b
 grind
 rw[getD_set_ne false a]at d;exact h b o l d e n p
def z09r(md:Region.Mode)(ops:Array Oper)(i j:Nat)(b a:Info):Prop:=Free md ops i j->(¬(b.eff=true∧a.eff=true))∧(b.eff=false->a.eff=true->∀x,b.K x->¬a.W x)∧(a.eff=false->b.eff=true->∀x,a.K x->¬b.W x)
def GP(md:Region.Mode)(ops:Array Oper)(prev:List (Nat×Info))(j:Nat)(c:Info):Prop:=∀p∈prev,z09r md ops p.1 j p.2 c
section
variable (P ops)(md)(S:Heap → Prop)(G:Nat → Info → Prop)(Kp:V → St → Prop)
def GoA(i:Nat)(K:St->Prop)(σ:St):Prop :=
 match ops[i]? with
 |none=>K σ
 |some o=>∃c,G i c∧((∃v H',c.call=false∧MV P ops S c σ o v H'∧K (z9n σ o v H'))∨MC P ops S c σ o (λv H'=>K (z9n σ o v H')) Kp)
def AM(R:St->Prop):Nat->Array Bool->St->Prop
 |0,listed,σ=>Region.ready md ops listed=[]∧R σ
 |fuel+1,listed,σ=>(Region.ready md ops listed=[]->R σ)∧∀i∈Region.ready md ops listed,GoA P ops S G Kp i (AM R fuel (listed.setIfInBounds i true)) σ
end
variable {S:Heap → Prop}{G G':Nat → Info → Prop}{Kp:V → St → Prop}
def MV.goA{i o v σ c H'}(hi:ops[i]? = some o)(d:G i c)(a:c.call=false)(b:MV P ops S c σ o v H'){K}(h:K (z9n σ o v H')):GoA P ops S G Kp i K σ:=by
 grind[GoA]
theorem AM.mono(a:∀j c,G' j c->G j c){R}:∀(fuel) (listed) (σ),AM P ops md S G' Kp R fuel listed σ->AM P ops md S G Kp R fuel listed σ
 |0,_,_,h=>h
 |fuel+1,listed,σ,h=>⟨h.1,λi hi=>by
  have b:=h.2 i hi;unfold GoA at b ⊢;split;rename_i d;simp[d]at b;exact AM.mono a fuel _ _ b;rename_i o d;simp only[d]at b;obtain⟨c,e,⟨v,H',l,n,m⟩|hm⟩:=b;exact⟨c,a _ _ e,.inl ⟨v,H',l,n,AM.mono a fuel _ _ m⟩⟩
  exact⟨c,a _ _ e,.inr (hm.imp λv H' _ _ k=>AM.mono a fuel _ _ k)⟩⟩
def yuu{W0 g0 H0 i σ K K' Q'}
  (hk:∀W a g σ,K σ->(σ.e0=H0.E∧Step W0 g0 H0 W g σ.H)->yze W a g σ->K' a W) (h5:∀W a g σ v c,Kp v σ->(σ.e0=H0.E∧Step W0 g0 H0 W g σ.H)->yze W a g σ->Rel W g σ.H v c->Q' (.panic [{v:=c,recovered:=false}]) a W)
  {W a g} (J:GoA P ops S G Kp i K σ) (I:σ.e0=H0.E∧Step W0 g0 H0 W g σ.H) (b:yze W a g σ):wpOp P ops Q' i K' a W:=by
 unfold GoA at J;unfold wpOp;split
 grind
 ·rename_i o ho;simp only[ho]at J;have⟨c0,_,J⟩:=J;have N:∀{v:V}{H':Heap},(z9n σ o v H').e0=σ.e0:=λ{v H'}=>by unfold z9n;cases o.dst <;> rfl
  rcases J with ⟨v,H',_,hy,h6⟩|⟨_,_,F,cl,f,args,h8,w,Y,hc,O,Q⟩
  ·have h:∀c W' g',Step W g σ.H W' g' H'->Good W' g' H'->Rel W' g' H' v c->K' (a.put o.dst c) W':=λc W' g' s1 s2 s3=>
    hk W' _ g' _ h6 (by rw[y2z,N];exact⟨I.1,I.2.trans s1⟩) (b.next s1 s2 s3 o.dst)
   rcases hy with ⟨F,rfl,rfl⟩|⟨F,hs,⟨_,rfl,hv⟩|⟨_,_,hv,_,_⟩⟩
   rw[z1u b F,Qbr (by simp)];exact h undef W g (.refl _ _ _) b.good (.tup [] #[] rfl (by simp));rw[z1u b F,Qbq rfl];left;unfold Oper.wp
   rcases hv σ.H hs (.refl _ _)with hv|⟨c,f,args,w,Y,h7⟩|hv|⟨t,n,cz,w,hv⟩|⟨cc,s,x,t,u,w,B,z,A,hv⟩
   have⟨c,W',d,m,p⟩:=y8p (P:=P) b.good (r:=a.eval) b.ev hv;rw[d];exact h c W' g m.step (b.good.grow m) p;have⟨j,X,U⟩:=zh5 (P:=P) (ty:=o.type) b.ev Y
   have k:(execOp a.eval o).run P W=(callFunc f j).run P W:=by
    rw[<-U W];unfold execOp;rw[w]
   rcases h7 W g j b.good X with ⟨M,L⟩|⟨c,W',g',M,L,e3,e4⟩
   rw[k,M];refine L.mono λe W' ⟨c,g',R,s1,s2,s3⟩ =>?_
   grind
   rw[k,M];exact h c W' g' L e3 e4;have⟨c,W',g',d,m,p,y⟩:=zx2 (P:=P) b.good b.ev hv
   rcases d with d|⟨d,l⟩
   rw[d];exact h c W' g' m p y;rw[d];subst l;exact h _ W' g' m p y;have⟨c,W',g',d,m,p,y⟩:=yi3 (P:=P) b.good hv (b.ev n) (b.ev cz);have k:(execOp a.eval o).run P W=(do pure (.value (<-Instr.makeSlice t (a.eval n) (a.eval cz))):Sem Next).run P W:=by unfold execOp;rw[w]
   rw[k]
   rcases d with d|⟨d,l⟩
   rw[d];exact h c W' g' m p y;rw[d];subst l;exact h _ W' g' m p y;have⟨c,W',g',d,m,p,y⟩:=ylc (P:=P) (ty:=o.type) b.good hv (b.ev s) (b.ev x)
   have k:(execOp a.eval o).run P W=(do pure (.value (<-Builtin.append_ #[t,u] o.type #[a.eval s,a.eval x])):Sem Next).run P W:=by
    have⟨callee,args,argTypes⟩:=cc;simp at B z A;subst B;obtain rfl:=z1o z;obtain rfl:=z1o A
    grind[execOp,resolve,invoke,builtin]
   rw[k]
   rcases d with d|⟨d,l⟩
   rw[d];exact h c W' g' m p y;rw[d];subst l;exact h _ W' g' m p y;rw[z1u b F,Qbq rfl];left;unfold Oper.wp;have⟨c,W',g',d,m,p,y⟩:=hv.elim (λq=>yk4 (P:=P) b.good b.ev q.2) (λq=>q.elim (λq=>zx2 (P:=P) b.good b.ev q) (λq=>q.sound b.good b.ev))
   rcases d with d|⟨d,l⟩
   rw[d];exact h c W' g' m p y;rw[d];subst l;exact h _ W' g' m p y
  ·rw[z1u b F,Qbq rfl];left;unfold Oper.wp;have⟨j,X,U⟩:=zh5 (P:=P) (ty:=o.type) b.ev Y
   have k:(execOp a.eval o).run P W=(callFunc f j).run P W:=by
    rw[<-U W];unfold execOp;rw[w]
   have⟨M,L⟩:=hc W g j b.good X;rw[k,M];refine L.mono λe W' ⟨o',H',g',p1,p2,p3,p4⟩ =>?_
   cases o' with
   |ret r=>
    have⟨Z,R,C⟩:=p4;subst R
    exact hk W' (a.put o.dst Z) g' _ (O r H' p1).2.2 (by rw[y2z,N];exact⟨I.1,I.2.trans p2⟩) (b.next p2 p3 C o.dst)
   |pan v=>
    have⟨Z,R,C⟩:=p4;subst R;have hn:=b.next p2 p3 (.any undef) none;exact h5 W' a g' {σ with H:=H'} v Z (Q v H' p1) ⟨I.1,I.2.trans p2⟩ hn C
def ycm{W0 g0 H0 R Q'}(j:∀W a g σ,R σ->(σ.e0=H0.E∧Step W0 g0 H0 W g σ.H)->yze W a g σ->Q' .normal a W)
  (e:∀W a g σ v c,Kp v σ->(σ.e0=H0.E∧Step W0 g0 H0 W g σ.H)->yze W a g σ->Rel W g σ.H v c->Q' (.panic [{v:=c,recovered:=false}]) a W) :
  ∀(fuel) (listed) (σ) (W) (a) (g),AM P ops md S G Kp R fuel listed σ->(σ.e0=H0.E∧Step W0 g0 H0 W g σ.H)->yze W a g σ->wpAny P md ops Q' fuel listed a W
 |0,_,σ,W,a,g,h,b,d=>⟨h.1,j W a g σ h.2 b d⟩
 |fuel+1,listed,σ,W,a,g,h,b,d=>⟨λl=>j W a g σ (h.1 l) b d,λi hi=>yuu (λW a g σ' k b d=>ycm j e fuel _ σ' W a g k b d) e (h.2 i hi) b d⟩
def z0cc{k p a i}(s:a.apart ops i=true)(h3:k.eff=false)(r:∀x,k.K x->¬p.W x)(q:∀v (σ:St) B,Kp v σ->B.length=σ.t.length->Kp v {σ with t:=B})
  {σ v l} (o:MV P ops S k σ a v l) {K} (X:MC P ops S p (z9n σ a v l) i K Kp):l=σ.H ∧
  MC P ops S p σ i (λu H'=>MV P ops S k (z9n σ i u H') a v H'∧K u H') Kp:=by
 have⟨O,a2,N⟩:=Oper.apart_spec s;have y:∀{w:V}{H:Heap},∀x∈i.op.operands,(z9n σ a w H).ev x=σ.ev x:=λ{w H} x b=>y7j λd n=>zgq (O d n) x b
 have z:∀{w:V}{H:Heap},∀x∈a.op.operands,(z9n σ i w H).ev x=σ.ev x:=λ{w H} x b=>y7j λd n=>zgq (N d n) x b
 have U:l=σ.H:=by
  rcases o with ⟨_,_,h⟩|⟨_,_,⟨_,h,_⟩|⟨h,_⟩⟩
  exact h;exact h
  grind
 subst U;refine⟨rfl,?_⟩;have⟨b1,b2,M,cl,f,args,j,L,J,I,F,Z⟩:=X;rw[zo4 O]at M;rw[zo1 (ρ':=σ.ev) (λx b=>y x (by rw[L];exact b))]at J;rw[y2z]at I F;refine⟨b1,b2,M,cl,f,args,j,L,J,I,λu H' m =>?_,λu H' m =>?_⟩;have⟨E,C,Y⟩:=F u H' m;refine⟨E,C,?_,Y⟩;unfold MV at o ⊢;rw[zo4 N,y2z]
 rcases o with ⟨d1,d2,_⟩|⟨d1,d2,⟨d3,_,d4⟩|⟨h,_⟩⟩
 grind
 exact .inr ⟨d1,E,.inl ⟨d3,rfl,λA R Q=>zow (λx b=>(z x b).symm) (d4 A R (y4a.trans (λx b=>C x (r x b)) Q))⟩⟩
 grind
 have:=q u _ σ.t (Z u H' m) (by unfold z9n;cases a.dst <;> simp[St.put]);have e:({({z9n σ a v σ.H with H:=H'}:St)with t:=σ.t}:St)={σ with H:=H'}:=by unfold z9n;cases a.dst <;> rfl
 grind
def z0am(h3:∀v (σ:St) t',Kp v σ->t'.length=σ.t.length->Kp v {σ with t:=t'}){R i x w}(hi:ops[i]? = some x)(I:G i w)(J:w.call=false)(M:∀j c,G' j c->G j c∧z09r md ops i j w c) :
  ∀(fuel) (listed) (σ),Down md ops listed ->
   (∀j s,ops[j]? = some s->j≠i->listed.getD j true=false->(∀e∈s.after,Region.binds md e=true->e.on≠i)->x.apart ops s=true) ->
   i∈Region.ready md ops listed->∀v H',MV P ops S w σ x v H'->AM P ops md S G' Kp R fuel (listed.setIfInBounds i true) (z9n σ x v H')->AM P ops md S G Kp R (fuel+1) listed σ:=by
 intro fuel
 induction fuel with
 |zero=>
  intro listed σ _ _ z v H' y H;refine⟨λh=>(by grind),λj o =>?_⟩;by_cases b:j=i;subst b;exact y.goA hi I J (AM.mono (λj c h=>(M j c h).1) _ _ _ H);have:=ready_mono o b;rw[H.1]at this
  cases this
 |succ fuel ih=>
  intro listed σ a m z v H' y H;refine⟨λh=>(by grind),λj o =>?_⟩;by_cases b:j=i;subst b;exact y.goA hi I J (AM.mono (λj c h=>(M j c h).1) _ _ _ H);have Z:=H.2 j (ready_mono o b);have⟨n,s,A,h9⟩:=mem_ready.1 o;have⟨p,ha,h8,h7⟩:=mem_ready.1 z
  have L:∀e∈s.after,Region.binds md e=true->e.on≠i:=λe he hb hc=>by
   grind
  have E:Free md ops i j:=⟨λY=>(by have:=a.ready o Y;grind),λY=>(by have:=a.ready z Y;grind)⟩;have K:=m j s A b n L
  have l:∀k ok,ops[k]? = some ok->k≠i->(listed.setIfInBounds j true).getD k true=false ->
    (∀e∈ok.after,Region.binds md e=true->e.on≠i)->x.apart ops ok=true:=λk ok X h4 p h2=>by
   refine m k ok X h4 ?_ h2;by_cases B:j=k;subst B;exact n;rw[getD_set_ne true B]at p;exact p
  unfold GoA at Z ⊢;simp only[A]at Z ⊢;obtain⟨N,F,⟨u,H2,h5,hm,X⟩|hm⟩:=Z;have⟨r,d⟩:=M j N F;have⟨U,Q,p3⟩:=d E;have⟨h6,q1,O⟩:=z0cf K U Q p3 y hm;refine⟨N,r,.inl ⟨u,h6,h5,q1,ih (listed.setIfInBounds j true) _ (a.set o) l (ready_mono z (Ne.symm b)) v H2 O ?_⟩⟩
  grind[Array.setIfInBounds_comm,yjb,Oper.apart_spec]
  have⟨r,d⟩:=M j N F;have⟨U,Q,p3⟩:=d E
  have C:w.eff=false:=by
   cases he:w.eff with
   |false=>rfl
   |true=>exact(U ⟨he,hm.1⟩).elim
  obtain⟨rfl,q⟩:=z0cc (Kp:=Kp) K C (Q C hm.1) h3 y hm;refine⟨N,r,.inr (q.imp λu H2 _ _ ⟨O,X⟩=>ih (listed.setIfInBounds j true) _ (a.set o) l (ready_mono z (Ne.symm b)) v H2 O ?_)⟩
  grind[Array.setIfInBounds_comm,yjb,Oper.apart_spec]
def yaw(md:Region.Mode)(ops:Array Oper):List Nat->Array Bool->Bool
 |[],listed=>(Region.ready md ops listed).isEmpty
 |k::r,listed=>(Region.ready md ops listed).contains k&&Region.free md ops listed k&&yaw md ops r (listed.setIfInBounds k true)
def ztf(P:Program)(ops:Array Oper)(md:Region.Mode)(S:Heap->Prop)(Kp:V->St->Prop)(R:St->Prop):List Nat->List (Nat×Info)->St->Prop
 |[],_,σ=>R σ
 |k::a,prev,σ=>∃o c,ops[k]? = some o∧GP md ops prev k c∧((∃v H',c.call=false∧MV P ops S c σ o v H'∧ztf P ops md S Kp R a ((k,c)::prev) (z9n σ o v H')) ∨
  ((∀j∈a,¬Free md ops k j)∧MC P ops S c σ o (λv H'=>ztf P ops md S Kp R a ((k,c)::prev) (z9n σ o v H')) Kp))
def z07m(r:∀v (σ:St) F,Kp v σ->F.length=σ.t.length->Kp v {σ with t:=F}){R}:∀(l) (prev) (listed) (σ),Down md ops listed->(∀j,listed.getD j true=false->j∈l) ->
  yaw md ops l listed=true->ztf P ops md S Kp R l prev σ->AM P ops md S (GP md ops prev) Kp R l.length listed σ
 |[],_,listed,σ,_,_,x,h=>⟨by simpa[yaw]using x,h⟩
 |k::l,prev,listed,σ,a,i,x,h=>by
  have⟨o,c,B,s,h⟩:=h;simp[yaw,Qag]at x;have⟨⟨w,N⟩,C⟩:=x
  have m:∀j,(listed.setIfInBounds k true).getD j true=false->j∈l:=λj q=>by
   by_cases d:k=j
   simp_all
   rw[getD_set_ne true d]at q
   rcases Qbf.1 (i j q)with e|e
   omega;exact e
  have rest:∀σ',ztf P ops md S Kp R l ((k,c)::prev) σ'->AM P ops md S (GP md ops ((k,c)::prev)) Kp R l.length (listed.setIfInBounds k true) σ':=λσ' b=>
   z07m r l _ _ _ (a.set w) m C b
  rcases h with ⟨v,H',O,K,b⟩|⟨n,L⟩
  exact z0am (G:=GP md ops prev) (G':=GP md ops ((k,c)::prev)) r B s O (λj Q y=>⟨λp z=>y p (Qai _ z),y _ Qak⟩) l.length listed σ a (Region.free_spec B N) w v H' K (rest _ b);refine⟨λh=>(by grind),λj q =>?_⟩;by_cases d:j=k;subst d;unfold GoA;simp[B]
  exact⟨c,s,.inr (L.imp λv H' _ _ M=>AM.mono (λj' Q y p z=>y p (Qai _ z)) _ _ _ (rest _ M))⟩
  exfalso
  have⟨u,Z,Y,J⟩:=mem_ready.1 q;have⟨X,U,I,E⟩:=mem_ready.1 w;refine n j ?_ ⟨λA=>(by have:=a.ready q A;grind),λA=>(by have:=a.ready w A;grind)⟩
  rcases Qbf.1 (i j u)with e|e
  exact(d e).elim;exact e
def z086{id σ Q}(w:P.follows .mixedOrders=true)(l)(y:yaw .any ops l (Array.replicate ops.size false)=true)(x:l.length=ops.size)(r:∀j,j<ops.size->j∈l)
  (h:ztf P ops .any S (λv σ=>∀k,k.length=σ.t.length->Q (.panic v) {σ with t:=k}) (Q .normal) l [] σ) :
  Sat P (.region id ops true) σ Q:=λW0 g0 H0 W a g _ d e=>by
 refine zjz y0q w ?_;have q:=e.drawn (W.drawn+1);have p:σ.e0=H0.E∧Step W0 g0 H0 {W with drawn:=W.drawn+1} g σ.H:=⟨d.1,d.2.trans (Grow.drawn W _).step⟩
 have:=z07m (P:=P) (md:=.any) (R:=Q .normal) (λv σ k h s=>λn i=>h n (i.trans s)) l [] (Array.replicate ops.size false) σ (λb o _ A=>by grind[getD_replicate_false]) (λj z=>by
  grind) y h
 rw[x]at this;exact ycm (Q':=ylf W0 g0 H0 Q) (λW a g τ m d e=>⟨g,τ,.normal,.normal,d,e,m⟩) (λW a g τ v c m d e u=>⟨g,τ,.panic v,.panic v c u,d,e,m τ.t rfl⟩) _ _ σ _ a g this p q
def yha{H H' t l i a}(h:H'.get l i=H.get l i):zej P H' t (.ptr l i a)=zej P H t (.ptr l i a):=by simp[h]
theorem z081{a}{cs b:List V}(h:b[a]? = cs[a]?):(if a+1<=b.length then some (V.agg ((b.drop a).take 1))else none)=if a+1<=cs.length then some (V.agg ((cs.drop a).take 1))else none:=by
 have e:∀l:List V,(if a+1<=l.length then some (V.agg ((l.drop a).take 1))else none)=l[a]?.map λv=>V.agg [v]:=λl=>by
  by_cases d:a<l.length;rw[Qbq (by omega),List.drop_eq_getElem_cons d,Qab d];rfl;rw[Qbr (by omega),List.getElem?_eq_none (by omega)];rfl
 rw[e,e,h]
theorem z0cp{t a:Nat}{cs b}(d:P.cellsOf t=1)(h:b[a]? = cs[a]?):rd P t b a=rd P t cs a:=by
 grind[rd,z081]
theorem z04o{t a:Nat}{cs}(b:P.cellsOf t=1)(h:cs[a]? = none):rd P t cs a=none:=by
 unfold rd;split;rfl
 grind
 grind
 exact h
def ydy{H H'}{t i a:Nat}(j:P.cellsOf t=1)(d:H'.lv=H.lv)(h:cellAt H'.L[i]? a=cellAt H.L[i]? a):zej P H' t (.ptr H.lv i a)=zej P H t (.ptr H.lv i a):=by
 have get:∀{K:Heap},K.lv=H.lv->zej P K t (.ptr H.lv i a)=(cellAt K.L[i]? a).bind λv=>rd P t (List.replicate a .any++[v]) a:=λ{K} b=>by
  simp[Heap.get,b,if_true]
  cases e:K.L[i]? with
  |none=>rfl
  |some o=>cases o with
   |none=>rfl
   |some o=>cases o with
    |cells cs=>
     show rd P t cs a=(cs[a]?).bind _
     grind[z04o,z0cp]
    |_=>rfl
 grind
theorem y2i{H H' t cs a}:zej P H' t (.ref cs a)=zej P H t (.ref cs a):=rfl
def y52{H H' t l i a d b}(h:H'.get l i=H.get l i):zej P H' t (.ap l i a d b)=zej P H t (.ap l i a d b):=by simp[y5i,h]
theorem y6i{H H' t l i a b n full y}(h:H'.get l i=H.get l i):yzz P H' t (.hs l i a b n full) y=yzz P H t (.hs l i a b n full) y:=by simp[yzz,h]
def ysq{H H' t l i a b n full}(h:H'.get l i=H.get l i):zt3 P H' t (.hs l i a b n full)=zt3 P H t (.hs l i a b n full):=by simp[zt3,h]
def V.plain:V->Bool
 |.hs .. | .map .. => false
 |_=>true
def z00p{H H' t x}(h:x.plain=true):zt3 P H' t x=zt3 P H t x:=by cases x <;> first|rfl|cases h
theorem yb3{H H' t x y}(h:x.plain=true):yzz P H' t x y=yzz P H t x y:=by cases x <;> first|rfl|cases h
def yrv{H H' t x a b c}(h:x.plain=true):zkf P H' t x a b c=zkf P H t x a b c:=by cases x <;> first|rfl|cases h
end
def z03b(all:List Oper)(i j:Nat):Bool:=match all[j]? with
 |some o=>o.after.toList.any λe=>Region.binds .any e&&Nat.beq e.on i
 |none=>false
def depB(all:List Oper):Nat->Nat->Nat->Bool
 |0,i,j=>z03b all i j
 |n+1,i,j=>z03b all i j||(match all[j]? with
  |some o=>o.after.toList.any λe=>Region.binds .any e&&depB all n i e.on
  |none=>false)
def ysy(all:List Oper)(i j:Nat):Bool:=depB all 8 i j||depB all 8 j i
def yvv{ops}:∀(n) {i j},depB ops.toList n i j=true->Dep .any ops i j:=λn=>by
 have a:∀{i j:Nat},z03b ops.toList i j=true->Dep .any ops i j:=λ{i j} h=>by
  unfold z03b at h;split at h;rename_i o d;rw[List.any_eq_true]at h;have⟨e,k,b⟩:=h;simp only[Qag]at b;exact .one j o e (by simpa using d) (by simpa using k) b.1 (Qaj b.2);cases h
 induction n with
 |zero=>intro i j h;exact a h
 |succ n l=>
  intro i j h;simp only[depB,Bool.or_eq_true]at h
  rcases h with h|h
  exact a h;split at h;rename_i o d;rw[List.any_eq_true]at h;have⟨e,k,b⟩:=h;simp[Qag]at b;exact .more j o e (by simpa using d) (by simpa using k) b.1 (l b.2);cases h
def zoi{ops i j}(h:ysy ops.toList i j=true):¬Free .any ops i j:=λa=>by
 unfold ysy at h;rw[Bool.or_eq_true]at h
 rcases h with h|h
 exact a.1 (yvv 8 h);exact a.2 (yvv 8 h)
def pIf{α:Type}(b:Bool)(x y:Option α):Option α:=match b with|true=>x|false=>y
def yfq{α}(b)(x y:Option α):pIf b x y=if b then x else y:=by cases b <;> rfl
def z9e{α β:Type}(o:Option α)(k:α->Option β):Option β:=o.bind k
noncomputable def yd9{α R:Type}(es:List (B8×α))(f:B8->α->List (B8×α)->Option R)(g:Option R):Option R :=
 open Classical in
 match es with
 |[]=>g
 |[e]=>f e.1 e.2 []
 |e::a::r=>if h:∃z,∀i p,(e::a::r)[i]? = some p->f p.1 p.2 ((e::a::r).eraseIdx i)=some z then some h.choose else none
def pOp{α:Type}(o:Oper)(x:Option α):Option α:=x
inductive Res (X R:Type) where
 |ok (r:R)
 |pan (x:X)
def zp2{X R S:Type}(o:Res X R)(f:R->Option S)(g:X->Option S):Option S:=match o with
 |.ok r=>f r
 |.pan x=>g x
inductive DTy where
 |bool
 |int (k:IntKind)
 |str
 |nat
 |sl (t:DTy)
 |st (i:Nat)
 deriving DecidableEq
def DTy.S(T:Nat->Type):DTy->Type
 |.bool=>Bool
 |.int _=>Int
 |.str=>B8
 |.nat=>Nat
 |.sl t=>List (t.S T)
 |.st i=>T i
def HL(T:Nat->Type):List DTy->Type
 |[]=>Unit
 |t::l=>t.S T×HL T l
def HL.app{T}:{a b:List DTy}->HL T a->HL T b->HL T (a++b)
 |[],_,_,y=>y
 |_::_,_,x,y=>(x.1,HL.app x.2 y)
def HL.fst{T}:(a:List DTy)->{b:List DTy}->HL T (a++b)->HL T a
 |[],_,_=>()
 |_::a,_,x=>(x.1,HL.fst a x.2)
def HL.snd{T}:(a:List DTy)->{b:List DTy}->HL T (a++b)->HL T b
 |[],_,x=>x
 |_::a,_,x=>HL.snd a x.2
structure Dat where
 T:Nat->Type
 fl:Nat->List DTy
 get:∀i,T i->HL T (fl i)
 make:∀i,HL T (fl i)->T i
 enc:∀i,T i->V
 ty:Nat->Option DTy
 ow:Nat->Nat->Option Nat:=λ_ _=>none
inductive TV (T:Nat->Type):Type where
 |any
 |bool (b:Bool)
 |int (k:IntKind) (n:Int)
 |str (s:B8)
 |nilp
 |nils
 |mapn
 |nilf
 |nili
 |sl (t:DTy) (xs:List (t.S T)) (fl:Nat)
 |own (s:Nat)
 |osl (s:Nat) (lo:Int)
 |ptr (s off:Nat)
 |bp (s off:Nat)
 |ref (cs:List (TV T)) (off:Nat)
 |ap (s:Nat) (t:DTy) (i:Int) (x:t.S T) (off:Nat)
 |map (s:Nat)
 |mc (t:DTy) (es:List (B8×t.S T))
 |fn (f:Nat) (first caps:List (TV T))
 |iface (t:Nat) (v:TV T)
 |agg (cs:List (TV T))
 |tup (vs:List (TV T))
 |dp (s:Nat) (i:Int) (off:Nat)
 |bsl (i:Nat) (cs:List (TV T))
inductive TO (T:Nat->Type):Type where
 |cells (cs:List (TV T))
 |acc (ty:Nat) (t:DTy) (xs:List (t.S T)) (w:Bool)
 |siter (s:B8) (pos:Nat)
 |mp (ty:Nat) (t:DTy) (es:List (B8×t.S T))
 |mit (t:DTy) (last:Option (B8×t.S T)) (es:List (B8×t.S T))
 |bld (ty:Nat) (b:Option Nat)
 |gone
 |rig
 |deep (ty i:Nat) (xs:List (T i)) (h:Option (Int×Nat×Nat))
structure TS(T:Nat->Type) where
 t:List (Nat×TV T)
 o:List (Nat×TO T)
 nx:Nat
 nt:Nat
 d:List (Nat×List (TV T)):=[]
 g:List (Option Nat):=[]
def fnd{α:Type}:List (Nat×α)->Nat->Option α
 |[],_=>none
 |(i,a)::r,j=>match Nat.beq i j with
  |true=>some a
  |false=>fnd r j
section
variable {T:Nat → Type}
def TV.cells:TV T->List (TV T)
 |.agg cs=>cs
 |v=>[v]
def TV.leaf:TV T->Bool
 |.any| .agg _| .tup _=>false
 |_=>true
def TV.yzo:TV T->Bool
 |.agg _=>true
 |v=>v.leaf
def TV.ze5:Value->TV T
 |.bool b=>.bool b
 |.int k n=>.int k n
 |.string s=>.str s.data.toList
 |.pointer none=>.nilp
 |.slice none 0 0=>.nils
 |.map none=>.mapn
 |.nilFunc=>.nilf
 |.nilIface=>.nili
 |_=>.any
def TV.ofC:Value->TV T
 |.agg cs=>if cs.toList.all (·.oneCell')then .agg (cs.toList.map TV.ze5)else .any
 |.tuple cs=>.tup (cs.toList.map TV.ze5)
 |.iface t v=>.iface t (TV.ze5 v)
 |v=>TV.ze5 v
def TS.ev(ts:TS T):Operand->Option (TV T)
 |.tmp t=>fnd ts.t t
 |.const v=>some (TV.ofC v)
 |.func f=>some (.fn f [] [])
 |.global _=>none
def TS.evs(ts:TS T):List Operand->Option (List (TV T))
 |[]=>some []
 |x::xs=>match ts.ev x,ts.evs xs with
  |some v,some vs=>some (v::vs)
  |_,_=>none
inductive FR (α:Type) where
 |ok (a:α)
 |frz (s:Nat)
 |bad
def FR.of{α}:Option α->FR α
 |some a=>.ok a
 |none=>.bad
end
section
variable (D:Dat)
def Dat.owns(q:Nat):Bool:=(List.range (D.fl q).length).any λf=>(D.ow q f).isSome
def Dat.len:DTy->Nat
 |.st i=>(D.fl i).length
 |_=>1
def Dat.el:(t:DTy)->t.S D.T->V
 |.bool,b=>.bool b
 |.int k,n=>.int k n
 |.str,s=>.str s
 |.nat,_=>.any
 |.sl t,xs=>.sl (D.len t) (List.map (Dat.el t) xs) false
 |.st i,x=>D.enc i x
def Dat.els:(l:List DTy)->HL D.T l->List V
 |[],_=>[]
 |t::l,x=>D.el t x.1::Dat.els l x.2
def Dat.leaf:(t:DTy)->t.S D.T->TV D.T
 |.bool,b=>.bool b
 |.int k,n=>.int k n
 |.str,s=>.str s
 |.nat,_=>.any
 |.sl t,xs=>.sl t xs 0
 |.st _,_=>.any
def Dat.leaves:(l:List DTy)->HL D.T l->List (TV D.T)
 |[],_=>[]
 |t::l,x=>D.leaf t x.1::Dat.leaves l x.2
def Dat.tv:(t:DTy)->t.S D.T->TV D.T
 |.st i,x=>.agg (D.leaves (D.fl i) (D.get i x))
 |.bool,b=>.bool b
 |.int k,n=>.int k n
 |.str,s=>.str s
 |.nat,_=>.any
 |.sl t,xs=>.sl t xs 0
def y99{T}(a b:DTy)(x:a.S T):Option (b.S T) :=
 if h:a=b then some (h▸x)else none
def zya{T}(a b:DTy)(x:List (B8×a.S T)):Option (List (B8×b.S T)) :=
 if h:a=b then some (h▸x)else none
def DTy.flat:DTy->Bool
 |.bool| .int _| .str=>true
 |_=>false
def zgp{T}(a b:DTy)(x:List (a.S T)):Option (List (b.S T)) :=
 if h:a=b then some (h▸x)else none
def zlh:(t:DTy)->TV D.T->FR (t.S D.T)
 |.bool,.bool b=>.ok b
 |.int k,.int d n=>if k=d then .ok n else .bad
 |.str,.str s=>.ok s
 |.sl t,.sl a xs _=>FR.of (zgp a t xs)
 |.sl _,.nils=>.ok []
 |.sl _,.own s=>.frz s
 |_,_=>.bad
def zcr:(l:List DTy)->List (TV D.T)->FR (HL D.T l)
 |[],[]=>.ok ()
 |t::l,v::vs=>match zlh D t v with
  |.ok x=>match zcr l vs with
   |.ok xs=>.ok (x,xs)
   |.frz s=>.frz s
   |.bad=>.bad
  |.frz s=>.frz s
  |.bad=>.bad
 |_,_=>.bad
def asD:(t:DTy)->TV D.T->FR (t.S D.T)
 |.st i,.agg cs=>match zcr D (D.fl i) cs with
  |.ok x=>.ok (D.make i x)
  |.frz s=>.frz s
  |.bad=>.bad
 |.st _,_=>.bad
 |t,v=>zlh D t v
def ytk(t:DTy):List (TV D.T)->FR (List (t.S D.T))
 |[]=>.ok []
 |v::vs=>match asD D t v with
  |.ok x=>match ytk t vs with
   |.ok xs=>.ok (x::xs)
   |.frz s=>.frz s
   |.bad=>.bad
  |.frz s=>.frz s
  |.bad=>.bad
end
section
variable {T:Nat → Type}(P:Program)
def tRd(t:Nat)(cs:List (TV T))(a:Nat):Option (TV T) :=
 match P.underlying t with
 |none=>none
 |some (.struct _)|some (.array _ _)=>if a+P.cellsOf t<=cs.length then some (.agg ((cs.drop a).take (P.cellsOf t)))else none
 |some _=>cs[a]?
def y6d(s f:Nat)(x:TV T):Option (TV T) :=
 match zvk P s f with
 |none=>none
 |some o=>match x with
  |.ref cs a=>some (.ref cs (a+o))
  |.ptr s a=>some (.ptr s (a+o))
  |.ap s t i x a=>some (.ap s t i x (a+o))
  |.bp s a=>some (.bp s (a+o))
  |.dp s i a=>some (.dp s i (a+o))
  |_=>none
def z016(s f:Nat)(x:TV T):Option (TV T) :=
 match P.underlying s with
 |some (.struct a)=>match a[f]? with
  |some y=>match x with
   |.agg cs=>tRd P y.type cs y.offset
   |_=>none
  |none=>none
 |_=>none
def ygb(i:Nat):TV T->Option (TV T)
 |.tup vs=>vs[i]?
 |_=>none
def tNil:TV T->Option (TV T)
 |.ptr s d=>some (.ptr s d)
 |.ref cs d=>some (.ref cs d)
 |.ap s t i x d=>some (.ap s t i x d)
 |.bp s d=>some (.bp s d)
 |.dp s i d=>some (.dp s i d)
 |.fn f a b=>some (.fn f a b)
 |_=>none
def tUn(op:UnOp)(x:TV T):Option (TV T) :=
 match op,x with
 |.neg,.int k n=>some (.int k (k.wrap (0-n)))
 |.not,.bool b=>some (.bool (!b))
 |.xor,.int k n=>some (.int k (bits .xor k (if k.signed then -1 else k.max) n))
 |_,_=>none
def yhp(s d:Nat)(x:TV T):Option (TV T) :=
 match x with
 |.int _ n=>match P.underlying s,P.underlying d with
  |some _,some (.int k)=>some (.int k (k.wrap n))
  |_,_=>none
 |.str a=>match P.underlying s,P.underlying d with
  |some _,some .string=>some (.str a)
  |_,_=>none
 |_=>none
def y02(x:TV T)(asserted:Nat)(ok:Bool):Option (TV T) :=
 match P.underlying asserted,x with
 |some (.interface _),_=>none
 |some _,.iface t v=>if t=asserted then some (if ok then .tup [v,.bool true]else v)else none
 |_,_=>none
def yfr(max:Bool):List (TV T)->Option (TV T)
 |[.int k x,.int _ y]=>some (.int k (match max with|true=>mxI x y|false=>mnI x y))
 |[.int k x,.int _ y,.int _ z]=>some (.int k (match max with|true=>mxI (mxI x y) z|false=>mnI (mnI x y) z))
 |_=>none
def zm9(cs:List (TV T))(a:Nat)(xs:List (TV T)):List (TV T):=cs.take a++xs++cs.drop (a+xs.length)
def ypo(place:Nat->Option (Nat×Nat))(cells:List (TV T)):List (Nat×TV T)->Option (List (TV T))
 |[]=>some cells
 |(i,x)::rest=>match place i with
  |none=>none
  |some (a,size)=>if x.yzo&&x.cells.length==size&&decide (a+size<=cells.length)then ypo place (zm9 cells a x.cells) rest else none
def y70(ts:TS T):List (Nat×Operand)->Option (List (Nat×TV T))
 |[]=>some []
 |(i,x)::r=>match ts.ev x,y70 ts r with
  |some v,some vs=>some ((i,v)::vs)
  |_,_=>none
def yor(t:Nat):Option (TV T):=((P.info? t).bind (·.zero)).map TV.ofC
def yym(t:Nat)(a:List (Nat×TV T)):Option (TV T) :=
 match yor (T:=T) P t with
 |some (.agg z)=>match P.underlying t with
  |some (.struct b)=>match ycn P b.toList with
   |some places=>(ypo (λi=>places[i]?) z a).map .agg
   |none=>none
  |some (.array _ e)=>if (P.info? e).isSome then (ypo (λi=>some (i * P.cellsOf e,P.cellsOf e)) z a).map .agg else none
  |_=>none
 |_=>none
def TV.odd:TV T->Bool
 |.int _ _| .str _| .any=>false
 |_=>true
mutual
def ywe:Nat->Nat->TV T->TV T->Option Bool
 |0,_,_,_=>none
 |d+1,t,x,y=>
  match x,y with
  |.bool a,.bool b=>match P.underlying t with|some .bool=>some (a==b)|_=>none
  |.int k a,.int h b=>match P.underlying t with|some (.int _)=>if k=h then some (a==b)else none|_=>none
  |.str a,.str b=>match P.underlying t with|some .string=>some (a==b)|_=>none
  |.agg xs,.agg e=>match P.underlying t with|some (.struct i)=>if P.stoodInHeld t then none else yjg d i.toList xs e|_=>none
  |.nilp,.nilp=>match P.underlying t with|some (.pointer _)=>some true|_=>none
  |.nilp,.ptr _ _| .nilp,.ref _ _=>match P.underlying t with|some (.pointer _)=>some false|_=>none
  |.ptr _ _,.nilp| .ref _ _,.nilp=>match P.underlying t with|some (.pointer _)=>some false|_=>none
  |.mapn,.mapn=>match P.underlying t with|some (.map _ _)=>some true|_=>none
  |.nilf,.nilf=>match P.underlying t with|some (.func ..)=>some true|_=>none
  |.nilf,.fn _ _ _| .fn _ _ _,.nilf=>match P.underlying t with|some (.func ..)=>some false|_=>none
  |.nili,.iface _ _| .iface _ _,.nili=>match P.underlying t with|some (.interface _)=>some false|_=>none
  |_,_=>none
def yjg:Nat->List Field->List (TV T)->List (TV T)->Option Bool
 |0,_,_,_=>none
 |_,[],_,_=>some true
 |d+1,f::h,xs,e=>
  if f.name = "_" then yjg d h xs e else
  match tRd P f.type xs f.offset,tRd P f.type e f.offset with
  |some a,some b=>match ywe d f.type a b,yjg d h xs e with
   |some r,some s=>some (r&&s)
   |_,_=>none
  |_,_=>none
end
def y7u(t:Nat)(x y:TV T):Bool :=
 match x,y with
 |.agg _,.agg _ => !P.eqGuardType P.depth t
 |.nili,.nili=>false
 |.any,_|_,.any=>false
 |_,_=>true
def shl(k:IntKind)(a b:Int):Option Int:=if b<0 then none else some (k.wrap (a * 2 ^ (min b.toNat k.bits)))
def shr(k:IntKind)(a b:Int):Option Int:=if b<0 then none else some (a.fdiv (2 ^ (min b.toNat k.bits)))
def tBin{R}(op:BinOp)(t:Nat)(x y:TV T)(k:TV T->Option R):Option R :=
 match x,y with
 |.int i a,.int d b=>match op with
  |.shl=>z9e (shl i a b) λz=>k (.int i z)
  |.shr=>z9e (shr i a b) λz=>k (.int i z)
  |_=>if i=d then (match op with
   |.add=>k (.int i (i.wrap (a+b)))
   |.sub=>k (.int i (i.wrap (a-b)))
   |.mul=>k (.int i (i.wrap (a * b)))
   |.quo=>z9e (quo i a b) λz=>k (.int i z)
   |.rem=>z9e (rem i a b) λz=>k (.int i z)
   |.eql=>k (.bool (a==b))
   |.neq=>k (.bool (a != b))
   |.lss=>k (.bool (decide (a<b)))
   |.leq=>k (.bool (decide (a<=b)))
   |.gtr=>k (.bool (decide (a>b)))
   |.geq=>k (.bool (decide (a>=b)))
   |.and=>k (.int i (bits .and i a b))
   |.or=>k (.int i (bits .or i a b))
   |.xor=>k (.int i (bits .xor i a b))
   |.andNot=>k (.int i (bits .andNot i a b))
   |_=>none)else none
 |.str a,.str b=>match op with
  |.add=>z9e (cat a b) λz=>k (.str z)
  |.eql=>k (.bool (a==b))
  |.neq=>k (.bool (!(a==b)))
  |.lss=>k (.bool (Op.bytesLess a b))
  |.leq=>k (.bool (Op.bytesLess a b||a==b))
  |.gtr=>k (.bool (!(Op.bytesLess a b||a==b)))
  |.geq=>k (.bool (!Op.bytesLess a b))
  |_=>none
 |x,y=>match op with
  |.eql=>if x.odd&&y7u P t x y then (match ywe P 24 t x y with|some r=>k (.bool r)|none=>none)else none
  |.neq=>if x.odd&&y7u P t x y then (match ywe P 24 t x y with|some r=>k (.bool (!r))|none=>none)else none
  |_=>none
end
section
variable (P:Program)(D:Dat)
def yqn{T}:Option Nat->TV T
 |none=>.nils
 |some s=>.own s
def kzk(s:B8):List Int:=s.map λb=>((b.toNat:Nat):Int)
def yiu:List Int->Option B8
 |[]=>some []
 |x::r=>match x,yiu r with
  |.ofNat m,some s=>match Nat.ble m 255 with
   |true=>some (m.toUInt8::s)
   |false=>none
  |_,_=>none
def z03c(ts:TS D.T)(t:Nat):TV D.T->Option (TV D.T)
 |.ref cs a=>tRd P t cs a
 |.ptr s a=>match fnd ts.o s with
  |some (.cells cs)=>tRd P t cs a
  |_=>none
 |.ap s τ i x a=>match fnd ts.o s with
  |some (.acc _ _ _ _)=>tRd P t (D.tv τ x).cells a
  |_=>none
 |.bp s a=>match fnd ts.o s with
  |some (.bld _ b)=>tRd P t [.any,yqn b] a
  |_=>none
 |_=>none
def y83(q:Nat):(l:List DTy)->HL D.T l->Nat->List (TV D.T)
 |[],_,_=>[]
 |t::l,x,f=>(match D.ow q f with
  |none=>D.leaf t x.1
  |some _=>.any)::y83 q l x.2 (f+1)
def z080(q a:Nat):Nat->List Nat
 |0=>[]
 |n+1=>match D.ow q a with
  |some _=>a::z080 q (a+1) n
  |none=>z080 q (a+1) n
def szT(t:Nat):Nat:=match P.underlying t with
 |some (.struct _)|some (.array _ _)=>P.cellsOf t
 |_=>1
def setO{α:Type}(cs:List α):Option (Nat×α)->List α
 |none=>cs
 |some (f,v)=>cs.set f v
def y03{R}(ts:TS D.T)(t:Nat)(s:Nat)(i:Int)(a:Nat)(set:Option (Nat×TV D.T))(k:TV D.T->Option R):Option R :=
 match fnd ts.o s with
 |some (.deep _ q xs _)=>z9e (ix xs i) λy=>(match tRd P t (setO (y83 D q (D.fl q) (D.get q y) 0) set) a with
  |some v=>k v
  |none=>none)
 |_=>none
def zmb(n i:Int):Option Unit:=if n=i then some ()else none
def z00g{R}(ts:TS D.T)(t:Nat)(s:Nat)(i:Int)(a:Nat)(k:TV D.T->Option R):Option R :=
 match fnd ts.o s with
 |some (.deep _ _ _ (some p))=>(match Nat.beq p.2.1 a with
  |true=>z9e (zmb p.1 i) λ_=>y03 P D ts t s i a (some (a,.own p.2.2)) k
  |false=>y03 P D ts t s i a none k)
 |_=>y03 P D ts t s i a none k
def tLen(ts:TS D.T)(t:Nat)(x:TV D.T):Option (TV D.T) :=
 match x with
 |.str s=>match P.underlying t with|some .string=>some (.int .i64 s.length)|_=>none
 |.nils=>match P.underlying t with|some (.slice _)=>some (.int .i64 0)|_=>none
 |.sl _ xs _=>match P.underlying t with|some (.slice _)=>some (.int .i64 xs.length)|_=>none
 |.own s=>match P.underlying t,fnd ts.o s with
  |some (.slice _),some (.acc _ _ xs _)=>some (.int .i64 xs.length)
  |some (.slice _),some (.deep _ _ xs _)=>some (.int .i64 xs.length)
  |_,_=>none
 |.agg _=>match P.underlying t with|some (.array n _)=>some (.int .i64 n)|_=>none
 |.map s=>match P.underlying t,fnd ts.o s with
  |some (.map _ _),some (.mp _ _ es)=>some (.int .i64 es.length)
  |_,_=>none
 |_=>none
def z07l:(t:DTy)->TV D.T->Option (t.S D.T×Option Nat)
 |.sl _,.nils=>some ([],none)
 |.sl _,.own c=>some ([],some c)
 |_,_=>none
def yd6(q:Nat):(l:List DTy)->List (TV D.T)->Nat->FR (HL D.T l×Option (Nat×Nat))
 |[],[],_=>.ok ((),none)
 |t::l,v::vs,f=>(match D.ow q f with
  |none=>(match zlh D t v with
   |.ok x=>(match yd6 q l vs (f+1)with
    |.ok r=>.ok ((x,r.1),r.2)
    |.frz s=>.frz s
    |.bad=>.bad)
   |.frz s=>.frz s
   |.bad=>.bad)
  |some _=>(match yd6 q l vs (f+1)with
   |.ok r=>(match z07l D t v with
    |some (x,none)=>.ok ((x,r.1),r.2)
    |some (x,some c)=>(match r.2 with
     |none=>.ok ((x,r.1),some (f,c))
     |some _=>.bad)
    |none=>.bad)
   |.frz s=>.frz s
   |.bad=>.bad))
 |_,_,_=>.bad
def rowOf(τ:DTy)(a:List (Nat×TV D.T)):Option (Nat×List (TV D.T)):=match τ,a with
 |.st q,[(0,.agg cells)]=>(match D.owns q with
  |true=>(match yd6 D q (D.fl q) cells 0 with
   |.ok _=>some (q,cells)
   |_=>none)
  |false=>none)
 |_,_=>none
def z01d{τ a q cells}(h:rowOf D τ a=some (q,cells)):τ = .st q∧a=[(0,.agg cells)]:=by
 unfold rowOf at h;split at h;split at h;split at h;injection h with h;injection h with d b;grind;cases h;cases h;cases h
def zj7(t len:Nat)(a:List (Nat×TV D.T)):FR (TV D.T) :=
 match P.underlying t with
 |some (.slice e)=>match zeroV P e,D.ty e with
  |some z,some τ=>
   if z.yzo&&z.cells.length==P.cellsOf e&&decide (0<P.cellsOf e)&&(P.info? e).isSome&&a.length==len&&(a.map (·.1)==List.range len)&&a.all (λp=>p.2.yzo&&p.2.cells.length==P.cellsOf e)&&decide (len * P.cellsOf e<=2 ^ 24)&&D.len τ==P.cellsOf e then
    (match rowOf D τ a with
    |some (q,cells)=>.ok (.bsl q [.agg cells])
    |none=>match ytk D τ (a.map (·.2))with
    |.ok xs=>.ok (.sl τ xs (if len=0 then 2 else 1))
    |.frz s=>(match τ,a with
     |.st q,[(0,.agg cells)]=>(match yd6 D q (D.fl q) cells 0 with
      |.ok _=>.ok (.bsl q [.agg cells])
      |.frz b=>.frz b
      |.bad=>.frz s)
     |_,_=>.frz s)
    |.bad=>.bad)
   else .bad
  |_,_=>.bad
 |_=>.bad
def z0bl(ts:TS D.T):TV D.T->Option Nat
 |.own k=>(match fnd ts.o k with
  |some (.acc _ (.st q) _ _)=>if D.owns q=true then some k else none
  |_=>none)
 |_=>none
def z020(ts:TS D.T):List (TV D.T)->Option Nat
 |[]=>none
 |v::l=>match z0bl D ts v with
  |some k=>some k
  |none=>z020 ts l
def yql(ts:TS D.T)(r:FR (TV D.T)):FR (TV D.T):=match r with
 |.ok (.bsl q [.agg cells])=>(match z020 D ts cells with
  |some k=>.frz k
  |none=>.ok (.bsl q [.agg cells]))
 |r=>r
def z00x{ts r x}(h:yql D ts r = .ok x):r = .ok x:=by
 unfold yql at h;split at h
 grind
 exact h
def tMk(t:Nat)(n c:Int):FR (TV D.T) :=
 match n,c with
 |.ofNat n,.ofNat c=>(match P.underlying t with
  |some (.slice e)=>(match P.info? e,yor (T:=D.T) P e,D.ty e with
   |some i,some z,some τ=>(match z.yzo&&Nat.beq z.cells.length i.size&&Nat.blt 0 i.size&&Nat.ble n c&&Nat.ble c 1000000&&Nat.ble i.bytes 100000&&Nat.beq (D.len τ) i.size with
    |true=>(match asD D τ z with
     |.ok x=>.ok (.sl τ (List.replicate n x) 0)
     |.frz s=>.frz s
     |.bad=>.bad)
    |false=>.bad)
   |_,_,_=>.bad)
  |_=>.bad)
 |_,_=>.bad
def tP1(ts:TS D.T)(op:Op):FR (TV D.T) :=
 match op with
 |.move x=>.of (ts.ev x)
 |.assign x=>.of (ts.ev x)
 |.load t a=>match ts.ev a with|some a=>.of (z03c P D ts t a)|none=>.bad
 |.nilCheck x=>match ts.ev x with|some x=>.of (tNil x)|none=>.bad
 |.unOp o _ x=>match ts.ev x with|some x=>.of (tUn o x)|none=>.bad
 |.convert s d x=>match ts.ev x with|some x=>.of (yhp P s d x)|none=>.bad
 |.makeInterface t x=>match ts.ev x with|some x=>if P.concrete t then .ok (.iface t x)else .bad|none=>.bad
 |.makeFunc (.func f) first h=>match ts.evs first.toList,ts.evs h.toList with
  |some a,some b=>.ok (.fn f a b)
  |_,_=>.bad
 |.fieldAddr s x f=>match ts.ev x with|some x=>.of (y6d P s f x)|none=>.bad
 |.field s x f=>match ts.ev x with|some x=>.of (z016 P s f x)|none=>.bad
 |.typeAssert x _ u ok=>match ts.ev x with|some x=>.of (y02 P x u ok)|none=>.bad
 |.extract x i=>match ts.ev x with|some x=>.of (ygb i x)|none=>.bad
 |.build t e=>match y70 ts e.toList with|some e=>.of (yym P t e)|none=>.bad
 |.buildSlice t len e=>match y70 ts e.toList with|some e=>yql D ts (zj7 P D t len e)|none=>.bad
 |.makeSlice t n c=>match ts.ev n,ts.ev c with
  |some (.int _ n),some (.int _ c)=>tMk P D t n c
  |_,_=>.bad
 |.call c=>match c.callee with
  |.builtin .len=>match c.args.toList,c.argTypes.toList with
   |[x],[t]=>match ts.ev x with|some x=>.of (tLen P D ts t x)|none=>.bad
   |_,_=>.bad
  |.builtin .min=>match ts.evs c.args.toList with|some l=>.of (yfr false l)|none=>.bad
  |.builtin .max=>match ts.evs c.args.toList with|some l=>.of (yfr true l)|none=>.bad
  |_=>.bad
 |_=>.bad
def y9h{R}:Nat->Int->(Nat->Option R)->Option R
 |0,_,_=>none
 |1,_,f=>f 0
 |m+2,n,f=>pIf (n==Int.ofNat (m+1)) (f (m+1)) (y9h (m+1) n f)
def inR(len:Nat)(n:Int):Option Unit:=if 0<=n∧n<(len:Int)then some ()else none
def strB(P:Program)(e:Nat):Bool:=match P.underlying e with
 |some .string=>true
 |_=>false
def yg2{T}{R:Type}(P:Program)(len e:Nat)(x:TV T)(k:TV T->Option R)(n:Nat):Option R :=
 if n<len∧(P.underlying e).isSome then (match x with
  |.ref cs a=>k (.ref cs (a+n * P.cellsOf e))
  |.ptr s a=>k (.ptr s (a+n * P.cellsOf e))
  |.ap s t i x a=>k (.ap s t i x (a+n * P.cellsOf e))
  |_=>none)else none
def y6l{R}(ts:TS D.T)(t:Nat)(x i:TV D.T)(k:TV D.T->Option R):Option R :=
 match i with
 |.int _ n=>match P.underlying t with
  |some (.slice e)=>if (P.underlying e).isSome then (match x with
   |.sl τ xs _=>if D.len τ=P.cellsOf e then z9e (ix xs n) λy=>k (.ref (D.tv τ y).cells 0)else none
   |.own s=>match fnd ts.o s with
    |some (.acc _ τ xs _)=>if D.len τ=P.cellsOf e then z9e (ix xs n) λy=>k (.ap s τ n y 0)else none
    |some (.deep _ q xs _)=>if D.len (.st q)=P.cellsOf e then z9e (ix xs n) λ_=>k (.dp s n 0)else none
    |_=>none
   |_=>none)else none
  |some (.array len e)=>match strB P e with
   |true=>z9e (inR len n) λ_=>y9h len n (yg2 P len e x k)
   |false=>(match n with
    |.ofNat n=>yg2 P len e x k n
    |_=>none)
  |_=>none
 |_=>none
def yyo{R}(t:Nat)(x i:TV D.T)(k:TV D.T->Option R):Option R :=
 match i with
 |.int _ n=>match x with
  |.str s=>match P.underlying t with
   |some .string=>z9e (ix s n) λb=>k (.int .u8 b.toNat)
   |_=>none
  |.agg cs=>match P.underlying t with
   |some (.array len e)=>match D.ty e with
    |some τ=>if cs.length=len∧P.cellsOf e=1∧(P.underlying e).isSome∧(P.underlying e).any (λd => !TypeDesc.isAgg d)then (match zcr D (List.replicate cs.length τ) cs with
     |.ok _=>match ytk D τ cs with
      |.ok xs=>z9e (ix xs n) λy=>k (D.leaf τ y)
      |_=>none
     |_=>none)else none
    |none=>none
   |_=>none
  |_=>none
 |_=>none
def yr2(d:Int):Option (TV D.T)->Option Int
 |none=>some d
 |some (.int _ x)=>some x
 |_=>none
def z00l{R}(t:Nat)(x:TV D.T)(lo hi:Option (TV D.T))(k:TV D.T->Option R)(a:Nat->Option R):Option R :=
 match x with
 |.str s=>match P.underlying t with
  |some .string=>match yr2 D 0 lo,yr2 D s.length hi with
   |some l,some h=>z9e (sub s l h) λy=>k (.str y)
   |_,_=>none
  |_=>none
 |.sl τ xs b=>match P.underlying t with
  |some (.slice e)=>if D.len τ=P.cellsOf e∧(P.underlying e).isSome then (match yr2 D 0 lo,yr2 D xs.length hi with
    |some l,some h=>z9e (sub xs l h) λy=>k (.sl τ y (match hi with|none=>min b 1|some _=>0))
    |_,_=>none)else none
  |_=>none
 |.own s=>a s
 |_=>none
def oev(ts:TS D.T):Option Operand->Option (Option (TV D.T))
 |none=>some none
 |some x=>(ts.ev x).map some
def yvr{α:Type}(xs:List α)(a:Int):Option Unit:=if 0<=a∧a<=xs.length∧0<xs.length then some ()else none
def tCut{R}(ts:TS D.T)(t:Nat)(x lo:TV D.T)(k:TV D.T->Option R)(b:Option R):Option R :=
 match x,lo with
 |.own s,.int .i64 a=>match P.underlying t,fnd ts.o s with
  |some (.slice e),some (.acc _ τ xs true)=>if D.len τ=P.cellsOf e∧(P.underlying e).isSome then z9e (yvr xs a) λ_=>k (.osl s a)else none
  |_,_=>none
 |_,_=>b
def ytn{R:Type}(ts:TS D.T)(t:Nat)(x a:TV D.T)(ok:Bool)(k:TV D.T->Option R):Option R :=
 match P.underlying t,a with
 |some (.map d e),.str s=>match P.underlying d,yor (T:=D.T) P e with
  |some .string,some z=>match x with
   |.map q=>match fnd ts.o q with
    |some (.mp _ τ es)=>match asD D τ z with
     |.ok b=>(match ok with
      |true=>k (.tup [D.tv τ ((zau es s).getD b),.bool (zau es s).isSome])
      |false=>k (D.tv τ ((zau es s).getD b)))
     |_=>none
    |_=>none
   |_=>none
  |_,_=>none
 |_,_=>none
def tP{R}(ts:TS D.T)(op:Op)(k:TV D.T->Option R)(d:Nat->Option R):Option R :=
 match op with
 |.pick c a b=>match ts.ev c,ts.ev a,ts.ev b with
  |some (.bool t),some x,some y=>pIf t (k x) (k y)
  |_,_,_=>none
 |.binOp o t x y _=>match ts.ev x,ts.ev y with
  |some x,some y=>tBin P o t x y k
  |_,_=>none
 |.indexAddr t x i=>match ts.ev x,ts.ev i with
  |some x,some i=>y6l P D ts t x i k
  |_,_=>none
 |.index t x i=>match ts.ev x,ts.ev i with
  |some x,some i=>yyo P D t x i k
  |_,_=>none
 |.lookup t x i ok=>match ts.ev x,ts.ev i with
  |some x,some i=>ytn P D ts t x i ok k
  |_,_=>none
 |.slice t x lo hi h=>match ts.ev x,oev D ts lo,oev D ts hi,h with
  |some x,some lo,some hi,none=>z00l P D t x lo hi k d
  |_,_,_,_=>none
 |.load t a=>match ts.ev a with
  |some (.dp s i e)=>z00g P D ts t s i e k
  |_=>(match tP1 P D ts (.load t a)with
   |.ok v=>k v
   |.frz s=>d s
   |.bad=>none)
 |op=>match tP1 P D ts op with
  |.ok v=>k v
  |.frz s=>d s
  |.bad=>none
mutual
def TV.ren(s a:Nat):TV D.T->TV D.T
 |.own j=>if j=s then .own a else .own j
 |.dp j i b=>if j=s then .dp a i b else .dp j i b
 |.agg cs=>.agg (TV.zyg s a cs)
 |.tup cs=>.tup (TV.zyg s a cs)
 |.bsl i cs=>.bsl i (TV.zyg s a cs)
 |v=>v
def TV.zyg(s a:Nat):List (TV D.T)->List (TV D.T)
 |[]=>[]
 |v::vs=>TV.ren s a v::TV.zyg s a vs
end
mutual
def TV.frz(s:Nat)(m:Bool)(z:TV D.T):TV D.T->TV D.T
 |.own j=>match m with
  |true=>.own j
  |false=>if j=s then z else .own j
 |.map j=>match m with
  |true=>if j=s then z else .map j
  |false=>.map j
 |.agg cs=>.agg (TV.yuo s m z cs)
 |.tup cs=>.tup (TV.yuo s m z cs)
 |.bsl _ _=>.any
 |v=>v
def TV.yuo(s:Nat)(m:Bool)(z:TV D.T):List (TV D.T)->List (TV D.T)
 |[]=>[]
 |v::vs=>TV.frz s m z v::TV.yuo s m z vs
end
def TO.map(f:TV D.T->TV D.T):TO D.T->TO D.T
 |.cells cs=>.cells (cs.map f)
 |.bld ty (some s)=>match f (.own s)with
  |.own a=>.bld ty (some a)
  |_=>.gone
 |.deep ty i xs (some (n,c,s))=>match f (.own s)with
  |.own a=>.deep ty i xs (some (n,c,a))
  |_=>.gone
 |o=>o
def gmap(f:TV D.T->TV D.T):Option Nat->Option Nat
 |none=>none
 |some s=>match f (.own s)with
  |.own a=>some a
  |_=>none
def TS.zf2(ts:TS D.T)(f:TV D.T->TV D.T):TS D.T :=
 {ts with t:=ts.t.map λp=>(p.1,f p.2),o:=ts.o.map λp=>(p.1,TO.map D f p.2),d:=ts.d.map λp=>(p.1,p.2.map f),g:=ts.g.map (gmap D f)}
def TS.freeze(ts:TS D.T)(s:Nat):Option (TS D.T) :=
 match ts.d,fnd ts.o s with
 |[],some (.acc _ t xs _)=>let a:=ts.zf2 D (TV.frz D s false (.sl t xs 0));some {a with o:=(s,.gone)::a.o}
 |[],some (.deep _ q xs none)=>let a:=ts.zf2 D (TV.frz D s false (.sl (.st q) xs 0));some {a with o:=(s,.gone)::a.o}
 |[],some (.mp _ t es)=>if t.flat then (let a:=ts.zf2 D (TV.frz D s true (.mc t es));some {a with o:=(s,.gone)::a.o})else none
 |_,_=>none
def TS.put(ts:TS D.T)(a:Option Nat)(v:TV D.T):Option (TS D.T) :=
 match a with
 |none=>some ts
 |some d=>if d<ts.nt then some {ts with t:=(d,v)::ts.t}else none
def TS.new(ts:TS D.T)(o:TO D.T):TS D.T:={ts with o:=(ts.nx,o)::ts.o,nx:=ts.nx+1}
def TS.set(ts:TS D.T)(s:Nat)(o:TO D.T):TS D.T:={ts with o:=(s,o)::ts.o}
def TS.yah(ts:TS D.T)(s:Nat)(o:TO D.T):TS D.T:=((ts.new D o).set D s .gone).zf2 D (TV.ren D s ts.nx)
def ytg{R}(ts:TS D.T)(ty q:Nat)(xs:List (D.T q))(h:Option (Int×Nat×Nat))(s:Nat)(i:Int)(a:Nat)(x:TV D.T)(k:TV D.T->TS D.T->Option R)(b:Nat->Option R):Option R :=
 match x with
 |.own c=>(match D.ow q a,Nat.blt a (D.fl q).length with
  |some _,true=>(match h with
   |none=>z9e (ix xs i) λ_=>k .any (ts.yah D s (.deep ty q xs (some (i,a,c))))
   |some p=>(match Nat.beq p.2.1 a with
    |true=>z9e (zmb p.1 i) λ_=>z9e (ix xs i) λ_=>k .any (ts.yah D s (.deep ty q xs (some (i,a,c))))
    |false=>b s))
  |_,_=>none)
 |.agg cells=>(match a with
  |0=>(match h with
   |none=>(match yd6 D q (D.fl q) cells 0 with
    |.ok r=>z9e (ix xs i) λ_=>k .any (ts.yah D s (.deep ty q (xs.set i.toNat (D.make q r.1)) (r.2.map λp=>(i,p.1,p.2))))
    |.frz d=>b d
    |.bad=>none)
   |some _=>b s)
  |_=>none)
 |_=>none
def yhv{R}(ts:TS D.T)(t:Nat)(a x:TV D.T)(k:TV D.T->TS D.T->Option R)(j:Nat->Option R):Option R :=
 if x.yzo&&(P.info? t).isSome&&x.cells.length==P.cellsOf t then
  match a with
  |.ptr s d=>match fnd ts.o s with
   |some (.cells cs)=>if d+x.cells.length<=cs.length then k .any (ts.set D s (.cells (zm9 cs d x.cells)))else none
   |_=>none
  |.ap s τ i y d=>match fnd ts.o s with
   |some (.acc ty e xs true)=>if τ=e∧τ ≠ .nat∧d+x.cells.length<=(D.tv τ y).cells.length then
     (match asD D e (match D.tv τ y with| .agg cs=>.agg (zm9 cs d x.cells)|_=>x)with
     |.ok z=>let l:=(ts.zf2 D (TV.ren D s ts.nx)).new D (.acc ty e (xs.set i.toNat z) true);k .any (l.set D s .gone)
     |.frz s=>j s
     |.bad=>none)else none
   |_=>none
  |.dp s i d=>match fnd ts.o s with
   |some (.deep ty q xs h)=>if (List.range x.cells.length).all (λa=>(D.ow q (d+a)).isNone)=true∧d+x.cells.length<=(D.fl q).length then
     z9e (ix xs i) λy=>(match zcr D (D.fl q) (zm9 (D.leaves (D.fl q) (D.get q y)) d x.cells)with
      |.ok z=>k .any (((ts.new D (.deep ty q (xs.set i.toNat (D.make q z)) h)).set D s .gone).zf2 D (TV.ren D s ts.nx))
      |.frz m=>j m
      |.bad=>none)else ytg D ts ty q xs h s i d x k j
   |_=>none
  |.bp s 1=>match fnd ts.o s,x with
   |some (.bld ty b),.own q=>k .any (ts.set D s (.bld ty (some q)))
   |_,_=>none
  |_=>none
 else none
def tSrc(ts:TS D.T)(τ:DTy):TV D.T->Option (List (τ.S D.T))
 |.nils=>some []
 |.sl t xs _=>zgp t τ xs
 |.own s=>match fnd ts.o s with
  |some (.acc _ t xs _)=>zgp t τ xs
  |_=>none
 |.str s=>match τ with
  |.int .u8=>some (kzk s)
  |_=>none
 |_=>none
def tDst(ts:TS D.T)(e:Nat)(τ:DTy):TV D.T->Option (List (τ.S D.T)×Bool×Option Nat)
 |.nils=>some ([],true,none)
 |.sl t xs 1=>if τ = .int .u8 then none else (zgp t τ xs).map λxs=>(xs,false,none)
 |.sl t xs 2=>if τ = .int .u8 then none else (zgp t τ xs).map λxs=>(xs,true,none)
 |.own s=>match fnd ts.o s with
  |some (.acc a t xs w)=>if a=e then (zgp t τ xs).map λxs=>(xs,w,some s)else none
  |_=>none
 |_=>none
def yr5{R}(ts:TS D.T)(t u:Nat)(s x:TV D.T)(k:TV D.T->TS D.T->Option R):Option R :=
 match P.underlying t,P.underlying u with
 |some (.slice e),some d=>
  match P.info? e,D.ty e with
  |some i,some τ=>
   match i.zero with
   |some z=>if y0t d&&decide (0<i.size)&&decide (i.bytes<=524288)&&z.cells.size==i.size&&D.len τ==i.size then
     (match tSrc D ts τ x,tDst D ts e τ s with
     |some b,some (xs,w,a)=>z9e (ext xs b) λzs=>
      k (.own ts.nx) (match a with|none=>ts.new D (.acc e τ zs w)|some s=>(ts.new D (.acc e τ zs w)).set D s .gone)
     |_,_=>none)else none
   |none=>none
  |_,_=>none
 |_,_=>none
def yjn{R}(ts:TS D.T)(t u:Nat)(s:TV D.T)(q:Nat)(cells:List (TV D.T))(k:TV D.T->TS D.T->Option R)(a:Nat->Option R):Option R :=
 match P.underlying t,P.underlying u with
 |some (.slice e),some l=>
  match P.info? e with
  |some i=>
   match i.zero with
   |some z=>if y0t l&&decide (0<i.size)&&decide (i.bytes<=524288)&&z.cells.size==i.size&&D.len (.st q)==i.size then
     (match yd6 D q (D.fl q) cells 0 with
     |.ok r=>(match s with
      |.nils=>z9e (ext [] [D.make q r.1]) λzs=>k (.own ts.nx) (ts.new D (.deep e q zs (r.2.map λp=>(0,p.1,p.2))))
      |.own s=>(match fnd ts.o s with
       |some (.deep j d xs h)=>if j=e then (match h with
        |none=>(match zgp (.st d) (.st q) xs with
         |some xs=>z9e (ext xs [D.make q r.1]) λzs=>k (.own ts.nx) ((ts.new D (.deep e q zs (r.2.map λp=>((xs.length:Int),p.1,p.2)))).set D s .gone)
         |none=>none)
        |some _=>a s)else none
       |_=>none)
      |_=>none)
     |.frz b=>a b
     |.bad=>none)else none
   |none=>none
  |none=>none
 |_,_=>none
def z07i{R}(ts:TS D.T)(t:Nat)(d s:TV D.T)(k:TV D.T->TS D.T->Option R):Option R :=
 match d,s with
 |.osl s a,.osl i b=>if s=i then (match P.underlying t,fnd ts.o s with
  |some (.slice e),some (.acc ty τ xs true)=>if D.len τ=P.cellsOf e∧(P.info? e).isSome then
    z9e (y60 xs a b) λh=>k .any (((ts.zf2 D (TV.ren D s ts.nx)).new D (.acc ty τ h true)).set D s .gone)else none
  |_,_=>none)else none
 |_,_=>none
def yid{R:Type}(ts:TS D.T)(t:Nat)(r:Option (TV D.T))(k:TV D.T->TS D.T->Option R):Option R :=
 match P.underlying t with
 |some (.map _ e)=>match D.ty e,r with
  |some τ,none=>k (.map ts.nx) (ts.new D (.mp t τ []))
  |some τ,some (.int _ _)=>k (.map ts.nx) (ts.new D (.mp t τ []))
  |_,_=>none
 |_=>none
def yfy{R:Type}(ts:TS D.T)(t:Nat)(m a x:TV D.T)(k:TV D.T->TS D.T->Option R):Option R :=
 match P.underlying t,m,a with
 |some (.map b _),.map q,.str s=>match P.underlying b,fnd ts.o q with
  |some .string,some (.mp ty τ es)=>match asD D τ x with
   |.ok y=>k .any (ts.set D q (.mp ty τ (ze4 es s y)))
   |_=>none
  |_,_=>none
 |_,_,_=>none
def z06y{R}(ts:TS D.T)(x:TV D.T)(str:Bool)(k:TV D.T->TS D.T->Option R):Option R :=
 match x,str with
 |.ptr s 0,true=>match fnd ts.o s with
  |some (.siter l a)=>pIf (decide (a<l.length)) (k (.tup [.bool true,.int .i64 a,.int .i32 (zel l a).1]) (ts.set D s (.siter l (a+(zel l a).2)))) (k (.tup [.bool false]) ts)
  |_=>none
 |_,_=>none
def tOp{R}(ts:TS D.T)(op:Op)(k:TV D.T->TS D.T->Option R)(e:Nat->Option R):Option R :=
 match op with
 |.alloc t=>match yor (T:=D.T) P t with
  |some z=>if z.yzo then k (.ptr ts.nx 0) (ts.new D (.cells z.cells))else none
  |none=>none
 |.box _ x=>match ts.ev x with
  |some v=>if v.yzo then k (.ptr ts.nx 0) (ts.new D (.cells v.cells))else none
  |none=>none
 |.store t a x=>match ts.ev a,ts.ev x with
  |some a,some x=>yhv P D ts t a x k e
  |_,_=>none
 |.makeMap t r=>match oev D ts r with
  |some r=>yid P D ts t r k
  |none=>none
 |.mapUpdate t m i x=>match ts.ev m,ts.ev i,ts.ev x with
  |some m,some i,some x=>yfy P D ts t m i x k
  |_,_,_=>none
 |.insert t m i x=>match ts.ev m,ts.ev i,ts.ev x with
  |some m,some i,some x=>yfy P D ts t m i x k
  |_,_,_=>none
 |.range t x=>match ts.ev x with
  |some (.str s)=>match P.underlying t with
   |some .string=>k (.ptr ts.nx 0) (ts.new D (.siter s 0))
   |_=>none
  |_=>none
 |.next i b=>match ts.ev i with
  |some i=>z06y D ts i b k
  |none=>none
 |op=>match op with
  |.call c=>match c.callee,c.args.toList,c.argTypes.toList with
   |.builtin .append,[s,x],[t,u]=>match ts.ev s,ts.ev x with
    |some s,some (.bsl q [.agg cells])=>yjn P D ts t u s q cells k e
    |some s,some x=>yr5 P D ts t u s x k
    |_,_=>none
   |.builtin .copy,[d,s],[t,u]=>match ts.ev d,ts.ev s with
    |some d,some s=>z07i P D ts t d s k
    |_,_=>none
   |_,_,_=>tP P D ts op (λv=>k v ts) e
  |op=>tP P D ts op (λv=>k v ts) e
end
inductive Sh where
 |any
 |d (t:DTy)
 |own (k:Nat)
 |ptr (k off:Nat)
 |bp (k:Nat)
 |map (k:Nat)
 |mc (t:DTy)
 |nilp
 |nilf
 |nili
 |nils
 |fn (f:Nat) (a b:List Sh)
 |iface (t:Nat) (s:Sh)
 |agg (cs:List Sh)
 |tup (cs:List Sh)
 |ref (cs:List Sh) (off:Nat)
 |dp (k off:Nat)
 |ap (k:Nat) (t:DTy) (off:Nat)
inductive OSh where
 |cells (cs:List Sh)
 |st (i:Nat)
 |acc (ty:Nat) (t:DTy) (w:Bool)
 |siter
 |rig
 |mp (ty:Nat) (t:DTy)
 |mit (t:DTy)
 |bld (ty k:Nat)
 |deep (ty i:Nat)
 |deeph (ty i f k:Nat)
mutual
def Sh.tys:Sh->List DTy
 |.d t=>[t]
 |.mc t=>[.sl .str,.sl t]
 |.fn _ a b=>Sh.z1i a++Sh.z1i b
 |.iface _ s=>s.tys
 |.agg cs=>Sh.z1i cs
 |.tup cs=>Sh.z1i cs
 |.ref cs _=>Sh.z1i cs
 |.dp _ _=>[.int .i64]
 |.ap _ t _=>[.int .i64,t]
 |_=>[]
def Sh.z1i:List Sh->List DTy
 |[]=>[]
 |s::l=>s.tys++Sh.z1i l
end
end Go.Ab
namespace Go.Ab
open Go
def HL.upd{T}:(l:List DTy)->HL T l->Nat->(t:DTy)->t.S T->Option (HL T l)
 |[],_,_,_,_=>none
 |t::_,x,0,a,y=>(y99 a t y).map λy=>(y,x.2)
 |_::l,x,j+1,a,y=>(HL.upd l x.2 j a y).map λz=>(x.1,z)
def HL.at{T}:(l:List DTy)->HL T l->Nat->Option ((t:DTy)×t.S T)
 |[],_,_=>none
 |t::_,x,0=>some ⟨t,x.1⟩
 |_::l,x,j+1=>HL.at l x.2 j
section
variable {D:Dat}
def yra{T}:List (TO T)->Nat->List (Nat×TO T)
 |[],_=>[]
 |o::r,n=>(n,o)::yra r (n+1)
def y8t{T}(l:List Nat):List (Nat×TO T):=l.map λs=>(s,.gone)
def TS.zxe(ts:TS D.T)(b:List Nat)(a:List (TO D.T)):TS D.T :=
 {ts with o:=yra a ts.nx++(y8t b++ts.o),nx:=ts.nx+a.length}
variable (D)
def Dat.zrs:DTy->Bool
 |.st q => !D.owns q
 |_=>true
def TS.fold{R}(ts:TS D.T)(s:Nat)(k:TS D.T->Option R):Option R :=
 match fnd ts.o s with
 |some (.deep ty q xs (some (n,f,c)))=>(match D.ow q f with
  |some b=>(match fnd ts.o c with
   |some (.deep a h d none)=>if b=a∧c≠s then z9e (ix xs n) λy=>(match HL.upd (D.fl q) (D.get q y) f (.sl (.st h)) d with
     |some z=>k ((ts.zxe [s,c] [.deep ty q (xs.set n.toNat (D.make q z)) none]).zf2 D (TV.ren D s ts.nx))
     |none=>none)else none
   |some (.acc a e d true)=>if b=a∧c≠s∧D.zrs e=true then z9e (ix xs n) λy=>(match HL.upd (D.fl q) (D.get q y) f (.sl e) d with
     |some z=>k ((ts.zxe [s,c] [.deep ty q (xs.set n.toNat (D.make q z)) none]).zf2 D (TV.ren D s ts.nx))
     |none=>none)else none
   |_=>none)
  |none=>none)
 |_=>none
def TS.opn{R}(ts:TS D.T)(s:Nat)(n:Int)(f:Nat)(k:TV D.T->TS D.T->Option R):Option R :=
 match fnd ts.o s with
 |some (.deep ty q xs none)=>(match D.ow q f with
  |some a=>z9e (ix xs n) λy=>(match HL.at (D.fl q) (D.get q y) f with
   |some ⟨.sl (.st e),b⟩=>(match D.owns e with
    |true=>k (.own (ts.nx+1)) ((ts.zxe [s] [.deep ty q xs (some (n,f,ts.nx+1)),.deep a e b none]).zf2 D (TV.ren D s ts.nx))
    |false=>k (.own (ts.nx+1)) ((ts.zxe [s] [.deep ty q xs (some (n,f,ts.nx+1)),.acc a (.st e) b true]).zf2 D (TV.ren D s ts.nx)))
   |some ⟨.sl d,b⟩=>(match D.zrs d && !decide (d = .int .u8)with
    |true=>k (.own (ts.nx+1)) ((ts.zxe [s] [.deep ty q xs (some (n,f,ts.nx+1)),.acc a d b true]).zf2 D (TV.ren D s ts.nx))
    |false=>none)
   |_=>none)
  |none=>none)
 |_=>none
def TV.pl{T}:TV T->Bool
 |.bool _| .int _ _| .str _| .nilp| .nils| .mapn| .nilf| .nili| .sl _ _ _=>true
 |_=>false
mutual
def TV.see(ts:TS D.T):TV D.T->TV D.T
 |.own s=>(match fnd ts.o s with
  |some (.acc _ t xs _)=>.sl t xs 0
  |some (.deep _ q xs none)=>.sl (.st q) xs 0
  |_=>.any)
 |.agg cs=>.agg (TV.seeL ts cs)
 |.fn f a b=>(match a.all TV.pl&&b.all TV.pl with
  |true=>.fn f a b
  |false=>.any)
 |.bool b=>.bool b
 |.int k n=>.int k n
 |.str s=>.str s
 |.nilp=>.nilp
 |.nils=>.nils
 |.mapn=>.mapn
 |.nilf=>.nilf
 |.nili=>.nili
 |.sl t xs d=>.sl t xs 0
 |_=>.any
def TV.seeL(ts:TS D.T):List (TV D.T)->List (TV D.T)
 |[]=>[]
 |v::vs=>TV.see ts v::TV.seeL ts vs
end
mutual
def TV.z07c{T:Nat->Type}:TV T->List Nat
 |.own s=>[s]
 |.agg cs=>TV.yib cs
 |_=>[]
def TV.yib{T:Nat->Type}:List (TV T)->List Nat
 |[]=>[]
 |v::vs=>TV.z07c v++TV.yib vs
end
def isHole{T}(ts:TS T)(s:Nat):Bool:=match fnd ts.o s with
 |some (.deep _ _ _ (some _))=>true
 |_=>false
def z0ag{T}(ts:TS T)(s:Nat):Bool:=match fnd ts.o s with
 |some (.deep _ _ _ _)=>true
 |_=>false
def yfw{T}:Nat->TS T->Nat->Nat
 |0,_,s=>s
 |f+1,ts,s=>match fnd ts.o s with
  |some (.deep _ _ _ (some p))=>(match isHole ts p.2.2 with
   |true=>yfw f ts p.2.2
   |false=>s)
  |_=>s
def z018{R}(P:Program)(ts:TS D.T)(t:Nat)(s:Nat)(i:Int)(a:Nat)(k:TV D.T->TS D.T->Option R)(d:Nat->Option R):Option R :=
 match fnd ts.o s with
 |some (.deep _ q _ h)=>(match z080 D q a (szT P t)with
  |[]=>y03 P D ts t s i a none λv=>k v ts
  |f::_=>(match h with
   |none=>ts.opn D s i f λv b=>y03 P D ts t s i a (some (f,v)) λw=>k w b
   |some p=>(match Nat.beq p.2.1 f with
    |true=>z9e (zmb p.1 i) λ_=>y03 P D ts t s i a (some (f,.own p.2.2)) λw=>k w ts
    |false=>d s)))
 |_=>none
end
end Go.Ab
