/-
  Go functions as Lean functions, by a program of this repo.
-/
import Derived.Test.YtcaehabdaleamaaGreatRun0
import Derived.Test.YtcaehabdaleamaaGreatLib3
namespace Go.Proofs.YtcaehabdaleamaaGreat
open Go Go.Ab
set_option linter.unusedSimpArgs false
open Go.Proofs.Tryz
set_option linter.unusedVariables false
set_option maxRecDepth 100000
set_option maxHeartbeats 4000000
def z7e:Nat->yz1->yz1->Ot (Int×Int)
 |0,_,_=>none
 |n+1,a,b=>
  some ((IntKind.i64.wrap ((IntKind.i64.wrap (a.num * b.den))-(IntKind.i64.wrap (b.num * a.den)))),(IntKind.i64.wrap (a.den * b.den)))
def y50:LSh:=⟨[(4,dI),(5,dI)],[],0,22,[]⟩
noncomputable def zhf:FI dat:=FI.of dat 109 22 0 [dT 0,dT 0] [] [dI,dI] [] true y50 (R:=Int×Int) (λx=>(x.1,x.2.1)) (λr=>(r.1,r.2,())) (λn=>u2 (z7e n))
 (λn=>[]) (anb [] f109)
theorem y0k:FOk prog zhf:=okF (bs:=[]) trivial func109 ntmps109 call109
 (λn=>λ_=>tr (z7e.eq_2 _ _ n))
 (λn=>trivial)
def z9q:Nat->yz1->yz1->Ot (yz1×Int)
 |0,_,_=>none
 |n+1,c,d=>
  (z0g n c d).bind λy0=>
  pIf (y0.e==0)
   ((z7e n y0.a y0.b).bind λy1=>
   (yzs n y1.1 y1.2 y0).bind λy2=>
   (((zz9 9 y2.a.num y2.a.den y2.b.num y2.b.den y2.out.num y2.out.den y2.e 0 0 0).bind λr4=>some (r4.1,r4.2.1,r4.2.2.1,r4.2.2.2.1,r4.2.2.2.2.1,r4.2.2.2.2.2.1,r4.2.2.2.2.2.2.1,r4.2.2.2.2.2.2.2.1,r4.2.2.2.2.2.2.2.2.1,r4.2.2.2.2.2.2.2.2.2,()))).bind λy3=>
   some ((yz1.mk y3.2.2.2.2.2.2.2.1 y3.2.2.2.2.2.2.2.2.1),y3.2.2.2.2.2.2.2.2.2.1))
   ((((zz9 9 y0.a.num y0.a.den y0.b.num y0.b.den y0.out.num y0.out.den y0.e 0 0 0).bind λr6=>some (r6.1,r6.2.1,r6.2.2.1,r6.2.2.2.1,r6.2.2.2.2.1,r6.2.2.2.2.2.1,r6.2.2.2.2.2.2.1,r6.2.2.2.2.2.2.2.1,r6.2.2.2.2.2.2.2.2.1,r6.2.2.2.2.2.2.2.2.2,()))).bind λy5=>
   some ((yz1.mk y5.2.2.2.2.2.2.2.1 y5.2.2.2.2.2.2.2.2.1),y5.2.2.2.2.2.2.2.2.2.1))
def yg0:LSh:=⟨[(6,(.ptr 0 0)),(7,(.ptr 1 0))],[(.st 0),(.cells [dI])],0,27,[]⟩
noncomputable def zgm:FI dat:=FI.ofD dat 108 27 0 [dT 0,dT 0,(.fn 109 [] [])] [] [dT 0,dI] [(.st 0),(.cells [dI])] [zap] yg0 (R:=yz1×Int) (λx=>(x.1,x.2.1)) (λr=>(r.1,r.2,r.1,r.2,())) (λn=>u2 (z9q n))
 (λn=>[]) (anb [] f108)
noncomputable def yhj:List (FI dat):=[kzy,z3q,zhf]
theorem yi4:(zgm).Good prog dat (tb yhj):=FI.zlu (hD:=yz4 _) func108 ntmps108 call108 (by kernel_rfl) (Qac (by kernel_rfl)) (by kernel_rfl) (λn=>by kernel_rfl) ⟨zb7,trivial⟩ (λx=>by kernel_rfl) (λ_=>rfl) trivial
 (λ_ _=>tr (z9q.eq_2 ..))
 (λn=>trivial)
 (λx=>by kernel_rfl)
theorem yg5:OkL prog [zgm]:=zh2 (yz4 _) (bs:=[kzy,z3q,zhf]) ⟨z8i,zaj,y0k,trivial⟩ yi4
theorem y9o:FOk prog zgm:=yg5.1
def z9o:Nat->yz1->yz1->Ot (Int×yz1)
 |0,_,_=>none
 |n+1,a,b=>
  (z9q n a b).bind λy0=>
  some (y0.2,y0.1)
def yh9:LSh:=⟨[(4,(.ptr 0 0)),(5,dI)],[(.st 0)],0,11,[]⟩
noncomputable def zly:FI dat:=FI.of dat 90 11 0 [dT 0,dT 0] [] [dT 0,dI] [] true yh9 (R:=Int×yz1) (λx=>(x.1,x.2.1)) (λr=>(r.2,r.1,())) (λn=>u2 (z9o n))
 (λn=>[]) (anb [] f90)
theorem ya7:FOk prog zly:=okF (bs:=[zgm]) ⟨y9o,trivial⟩ func90 ntmps90 call90
 (λ_ _=>tr (z9o.eq_2 ..))
 (λn=>trivial)
def yzu:Nat->yz1->Int->Ot (Res (Int×Unit) zz0)
 |0,_,_=>none
 |n+1,a,b=>
  (yzi n b).bind λy0=>
  z8n y0 (λr1=>
   some (Res.ok (zz0.mk 1 a false [] [])))
   (λe2=>
   some (Res.pan (e2.1,())))
def y4j:LSh:=⟨[(4,(.ptr 0 0))],[(.st 1)],0,9,[]⟩
noncomputable def zaq:FI dat:=FI.ofP dat 89 9 0 [dT 0,dI] [] [dT 1] [(.st 1)] (.iface 33 dI) [] [] y4j (R:=zz0) (λx=>x.1) (λr=>(r,r,())) (λn=>u2 (yzu n))
 (λn=>[]) (anb [] f89)
noncomputable def y3y:List (FI dat):=[z3v]
theorem y6a:(zaq).Good prog dat (tb y3y):=FI.zlf (hD:=yz4 _) func89 ntmps89 call89 (by kernel_rfl) (Qac (by kernel_rfl)) (by kernel_rfl) (λn=>by kernel_rfl) trivial (λx=>by kernel_rfl) (λ_=>rfl) trivial
 (λ_ _=>tr (yzu.eq_2 ..))
 (λn=>trivial)
 (λx=>by kernel_rfl)
theorem y6n:OkL prog [zaq]:=zh2 (yz4 _) (bs:=[z3v]) ⟨zev,trivial⟩ y6a
theorem zyx:FOk prog zaq:=y6n.1
def z7a:Nat->yz1->yz1->Ot (Int×Int)
 |0,_,_=>none
 |n+1,a,b=>
  some ((IntKind.i64.wrap (a.num * b.num)),(IntKind.i64.wrap (a.den * b.den)))
def y6g:LSh:=⟨[(4,dI),(5,dI)],[],0,16,[]⟩
noncomputable def zh7:FI dat:=FI.of dat 110 16 0 [dT 0,dT 0] [] [dI,dI] [] true y6g (R:=Int×Int) (λx=>(x.1,x.2.1)) (λr=>(r.1,r.2,())) (λn=>u2 (z7a n))
 (λn=>[]) (anb [] f110)
theorem y2i:FOk prog zh7:=okF (bs:=[]) trivial func110 ntmps110 call110
 (λn=>λ_=>tr (z7a.eq_2 _ _ n))
 (λn=>trivial)
def z5m:Nat->yz1->yz1->Ot (yz1×Int)
 |0,_,_=>none
 |n+1,c,d=>
  (z0g n c d).bind λy0=>
  pIf (y0.e==0)
   ((z7a n y0.a y0.b).bind λy1=>
   (yzs n y1.1 y1.2 y0).bind λy2=>
   (((zz9 9 y2.a.num y2.a.den y2.b.num y2.b.den y2.out.num y2.out.den y2.e 0 0 0).bind λr4=>some (r4.1,r4.2.1,r4.2.2.1,r4.2.2.2.1,r4.2.2.2.2.1,r4.2.2.2.2.2.1,r4.2.2.2.2.2.2.1,r4.2.2.2.2.2.2.2.1,r4.2.2.2.2.2.2.2.2.1,r4.2.2.2.2.2.2.2.2.2,()))).bind λy3=>
   some ((yz1.mk y3.2.2.2.2.2.2.2.1 y3.2.2.2.2.2.2.2.2.1),y3.2.2.2.2.2.2.2.2.2.1))
   ((((zz9 9 y0.a.num y0.a.den y0.b.num y0.b.den y0.out.num y0.out.den y0.e 0 0 0).bind λr6=>some (r6.1,r6.2.1,r6.2.2.1,r6.2.2.2.1,r6.2.2.2.2.1,r6.2.2.2.2.2.1,r6.2.2.2.2.2.2.1,r6.2.2.2.2.2.2.2.1,r6.2.2.2.2.2.2.2.2.1,r6.2.2.2.2.2.2.2.2.2,()))).bind λy5=>
   some ((yz1.mk y5.2.2.2.2.2.2.2.1 y5.2.2.2.2.2.2.2.2.1),y5.2.2.2.2.2.2.2.2.2.1))
def y2x:LSh:=⟨[(6,(.ptr 0 0)),(7,(.ptr 1 0))],[(.st 0),(.cells [dI])],0,27,[]⟩
noncomputable def zbt:FI dat:=FI.ofD dat 108 27 0 [dT 0,dT 0,(.fn 110 [] [])] [] [dT 0,dI] [(.st 0),(.cells [dI])] [zap] y2x (R:=yz1×Int) (λx=>(x.1,x.2.1)) (λr=>(r.1,r.2,r.1,r.2,())) (λn=>u2 (z5m n))
 (λn=>[]) (anb [] f108)
noncomputable def zxv:List (FI dat):=[kzy,z3q,zh7]
theorem zy8:(zbt).Good prog dat (tb zxv):=FI.zlu (hD:=yz4 _) func108 ntmps108 call108 (by kernel_rfl) (Qac (by kernel_rfl)) (by kernel_rfl) (λn=>by kernel_rfl) ⟨zb7,trivial⟩ (λx=>by kernel_rfl) (λ_=>rfl) trivial
 (λ_ _=>tr (z5m.eq_2 ..))
 (λn=>trivial)
 (λx=>by kernel_rfl)
theorem y0d:OkL prog [zbt]:=zh2 (yz4 _) (bs:=[kzy,z3q,zh7]) ⟨z8i,zaj,y2i,trivial⟩ zy8
theorem zw7:FOk prog zbt:=y0d.1
def z9k:Nat->yz1->yz1->Ot (Int×yz1)
 |0,_,_=>none
 |n+1,a,b=>
  (z5m n a b).bind λy0=>
  some (y0.2,y0.1)
def yho:LSh:=⟨[(4,(.ptr 0 0)),(5,dI)],[(.st 0)],0,11,[]⟩
noncomputable def zmp:FI dat:=FI.of dat 91 11 0 [dT 0,dT 0] [] [dT 0,dI] [] true yho (R:=Int×yz1) (λx=>(x.1,x.2.1)) (λr=>(r.2,r.1,())) (λn=>u2 (z9k n))
 (λn=>[]) (anb [] f91)
theorem ya0:FOk prog zmp:=okF (bs:=[zbt]) ⟨zw7,trivial⟩ func91 ntmps91 call91
 (λ_ _=>tr (z9k.eq_2 ..))
 (λn=>trivial)
def z6r:Nat->yz1->yz1->Ot (Int×Int)
 |0,_,_=>none
 |n+1,a,b=>
  some ((IntKind.i64.wrap (a.num * b.den)),(IntKind.i64.wrap (a.den * b.num)))
def y3l:LSh:=⟨[(4,dI),(5,dI)],[],0,16,[]⟩
noncomputable def zh6:FI dat:=FI.of dat 111 16 0 [dT 0,dT 0] [] [dI,dI] [] true y3l (R:=Int×Int) (λx=>(x.1,x.2.1)) (λr=>(r.1,r.2,())) (λn=>u2 (z6r n))
 (λn=>[]) (anb [] f111)
theorem y27:FOk prog zh6:=okF (bs:=[]) trivial func111 ntmps111 call111
 (λn=>λ_=>tr (z6r.eq_2 _ _ n))
 (λn=>trivial)
def z5p:Nat->yz1->yz1->Ot (yz1×Int)
 |0,_,_=>none
 |n+1,c,d=>
  (z0g n c d).bind λy0=>
  pIf (y0.e==0)
   ((z6r n y0.a y0.b).bind λy1=>
   (yzs n y1.1 y1.2 y0).bind λy2=>
   (((zz9 9 y2.a.num y2.a.den y2.b.num y2.b.den y2.out.num y2.out.den y2.e 0 0 0).bind λr4=>some (r4.1,r4.2.1,r4.2.2.1,r4.2.2.2.1,r4.2.2.2.2.1,r4.2.2.2.2.2.1,r4.2.2.2.2.2.2.1,r4.2.2.2.2.2.2.2.1,r4.2.2.2.2.2.2.2.2.1,r4.2.2.2.2.2.2.2.2.2,()))).bind λy3=>
   some ((yz1.mk y3.2.2.2.2.2.2.2.1 y3.2.2.2.2.2.2.2.2.1),y3.2.2.2.2.2.2.2.2.2.1))
   ((((zz9 9 y0.a.num y0.a.den y0.b.num y0.b.den y0.out.num y0.out.den y0.e 0 0 0).bind λr6=>some (r6.1,r6.2.1,r6.2.2.1,r6.2.2.2.1,r6.2.2.2.2.1,r6.2.2.2.2.2.1,r6.2.2.2.2.2.2.1,r6.2.2.2.2.2.2.2.1,r6.2.2.2.2.2.2.2.2.1,r6.2.2.2.2.2.2.2.2.2,()))).bind λy5=>
   some ((yz1.mk y5.2.2.2.2.2.2.2.1 y5.2.2.2.2.2.2.2.2.1),y5.2.2.2.2.2.2.2.2.2.1))
def y33:LSh:=⟨[(6,(.ptr 0 0)),(7,(.ptr 1 0))],[(.st 0),(.cells [dI])],0,27,[]⟩
noncomputable def zch:FI dat:=FI.ofD dat 108 27 0 [dT 0,dT 0,(.fn 111 [] [])] [] [dT 0,dI] [(.st 0),(.cells [dI])] [zap] y33 (R:=yz1×Int) (λx=>(x.1,x.2.1)) (λr=>(r.1,r.2,r.1,r.2,())) (λn=>u2 (z5p n))
 (λn=>[]) (anb [] f108)
noncomputable def y2k:List (FI dat):=[kzy,z3q,zh6]
theorem y0l:(zch).Good prog dat (tb y2k):=FI.zlu (hD:=yz4 _) func108 ntmps108 call108 (by kernel_rfl) (Qac (by kernel_rfl)) (by kernel_rfl) (λn=>by kernel_rfl) ⟨zb7,trivial⟩ (λx=>by kernel_rfl) (λ_=>rfl) trivial
 (λ_ _=>tr (z5p.eq_2 ..))
 (λn=>trivial)
 (λx=>by kernel_rfl)
theorem zyn:OkL prog [zch]:=zh2 (yz4 _) (bs:=[kzy,z3q,zh6]) ⟨z8i,zaj,y27,trivial⟩ y0l
theorem zx1:FOk prog zch:=zyn.1
def z9j:Nat->yz1->yz1->Ot (Int×yz1)
 |0,_,_=>none
 |n+1,a,b=>
  (z5p n a b).bind λy0=>
  some (y0.2,y0.1)
def ygc:LSh:=⟨[(4,(.ptr 0 0)),(5,dI)],[(.st 0)],0,11,[]⟩
noncomputable def zl2:FI dat:=FI.of dat 92 11 0 [dT 0,dT 0] [] [dT 0,dI] [] true ygc (R:=Int×yz1) (λx=>(x.1,x.2.1)) (λr=>(r.2,r.1,())) (λn=>u2 (z9j n))
 (λn=>[]) (anb [] f92)
theorem ybv:FOk prog zl2:=okF (bs:=[zch]) ⟨zx1,trivial⟩ func92 ntmps92 call92
 (λ_ _=>tr (z9j.eq_2 ..))
 (λn=>trivial)
def yzx:Nat->Bool->Ot zz0
 |0,_=>none
 |n+1,a=>
  some (zz0.mk 2 (yz1.mk 0 0) a [] [])
def yb5:LSh:=⟨[(2,(.ptr 0 0))],[(.st 1)],0,5,[]⟩
noncomputable def zj7:FI dat:=FI.of dat 93 5 0 [dB] [] [dT 1] [] true yb5 (R:=zz0) Prod.fst (·,()) (λn=>u1 (yzx n))
 (λn=>[]) (anb [] f93)
theorem y4s:FOk prog zj7:=okF (bs:=[]) trivial func93 ntmps93 call93
 (λn=>λ_=>tr (yzx.eq_2 _ n))
 (λn=>trivial)
def z0v:Nat->Int->Ot Bool
 |0,_=>none
 |n+1,a=>
  some (a != a)
def zql:LSh:=⟨[(2,dB)],[],0,6,[]⟩
noncomputable def zgc:FI dat:=FI.of dat 124 6 0 [dI] [] [dB] [] true zql (R:=Bool) Prod.fst (·,()) (λn=>u1 (z0v n))
 (λn=>[]) (anb [] f124)
theorem zpw:FOk prog zgc:=okF (bs:=[]) trivial func124 ntmps124 call124
 (λn=>λ_=>tr (z0v.eq_2 _ n))
 (λn=>trivial)
def z0w:Nat->Int->Int->Ot Int
 |0,_,_=>none
 |n+1,a,b=>
  (z0v n a).bind λy0=>
  (z0v n b).bind λy1=>
  pIf y0
   (pIf y1
     (some 0)
     (some (-1)))
   (pIf y1
     (some 1)
     (pIf (decide (a<b))
       (some (-1))
       (pIf (decide (a>b))
         (some 1)
         (some 0))))
def znn:LSh:=⟨[(4,dI)],[],0,20,[]⟩
noncomputable def zeb:FI dat:=FI.of dat 122 20 0 [dI,dI] [] [dI] [] true znn (R:=Int) Prod.fst (·,()) (λn=>u2 (z0w n))
 (λn=>[]) (anb [] f122)
theorem zm1:FOk prog zeb:=okF (bs:=[zgc]) ⟨zpw,trivial⟩ func122 ntmps122 call122
 (λ_ _=>tr (z0w.eq_2 ..))
 (λn=>trivial)
def z9i:Nat->yz1->yz1->Ot (Int×Int)
 |0,_,_=>none
 |n+1,a,b=>
  (z0g n a b).bind λy0=>
  pIf (y0.e != 0)
   (some (0,y0.e))
   ((z0w n (IntKind.i64.wrap (a.num * b.den)) (IntKind.i64.wrap (b.num * a.den))).bind λy1=>
   some (y1,0))
def yfv:LSh:=⟨[(4,dI),(5,dI)],[],0,26,[]⟩
noncomputable def zml:FI dat:=FI.of dat 119 26 0 [dT 0,dT 0] [] [dI,dI] [] true yfv (R:=Int×Int) (λx=>(x.1,x.2.1)) (λr=>(r.1,r.2,())) (λn=>u2 (z9i n))
 (λn=>[]) (anb [] f119)
theorem yc0:FOk prog zml:=okF (bs:=[z3q,zeb]) ⟨zaj,zm1,trivial⟩ func119 ntmps119 call119
 (λ_ _=>tr (z9i.eq_2 ..))
 (λn=>trivial)
def z3a:Nat->B8->B8->Ot Int
 |0,_,_=>none
 |n+1,a,b=>
  (z15 n a b).bind λy0=>
  some y0
def zrk:LSh:=⟨[(4,dI)],[],0,8,[]⟩
noncomputable def zc5:FI dat:=FI.of dat 120 8 0 [dS,dS] [] [dI] [] true zrk (R:=Int) Prod.fst (·,()) (λn=>u2 (z3a n))
 (λn=>[]) (anb [] f120)
theorem zq1:FOk prog zc5:=okF (bs:=[z5x]) ⟨zbm,trivial⟩ func120 ntmps120 call120
 (λn x=>tr (z3a.eq_2 x.1 x.2.1 n))
 (λn=>trivial)
mutual
def z3t:Nat->zz0->zz0->Ot (Int×Int)
 |0,_,_=>none
 |n+1,a,b=>
  pIf (a.kind != b.kind)
   (some (0,20))
   (pIf (a.kind==1)
     ((z9i n a.num b.num).bind λy0=>
     some (y0.1,y0.2))
     (pIf (a.kind==2)
       (pIf (a.truth==b.truth)
         (some (0,0))
         (pIf a.truth
           (some (1,0))
           (some ((-1),0))))
       (pIf (a.kind==3)
         ((z3a n a.str b.str).bind λy1=>
         some (y1,0))
         (z0e n 0 a.list (a.list.length:Int) b.re a.re))))
def z0e:Nat->Int->kz2->Int->zz0->zz0->Ot (Int×Int)
 |0,_,_,_,_,_=>none
 |n+1,a,b,c,d,e=>
  pIf (decide (a<c))
   ((ix b a).bind λx2=>
   pIf (a==(d.list.length:Int))
    (some (1,0))
    ((ix d.list a).bind λx3=>
    (yzm n x2.re x3.re).bind λy4=>
    pIf (!y4)
     ((ix d.list a).bind λx5=>
     (z3t n x2.re x5.re).bind λy6=>
     some (y6.1,y6.2))
     (z0e n (IntKind.i64.wrap (a+1)) b c d.re e.re)))
   (pIf (decide ((e.list.length:Int)<(d.list.length:Int)))
     (some ((-1),0))
     (some (0,0)))
end
def y4w:LSh:=⟨[(4,dI),(5,dI)],[],0,80,[]⟩
noncomputable def zak:FI dat:=FI.of dat 112 80 0 [dT 1,dT 1] [] [dI,dI] [] true y4w (R:=Int×Int) (λx=>(x.1,x.2.1)) (λr=>(r.1,r.2,())) (λn=>u2 (z3t n))
 (λn=>[(0,⟨⟨[(3,(.ptr 0 0)),(45,dI),(43,dL 1),(2,(.ptr 1 0)),(44,dI)],[(.st 1),(.st 1)],0,80,[]⟩,u5 (z0e n)⟩)]) (anb [(52,0)] f112)
noncomputable def y3k:List (FI dat):=[zak]++[zml,zc5,z0j]
theorem y5a:(zak).Good prog dat (tb y3k):=FI.kzd (hD:=yz4 _) func112 ntmps112 call112 (by kernel_rfl) (Qac (by kernel_rfl)) (by kernel_rfl) (λn=>by kernel_rfl) (λx=>by kernel_rfl) (λ_=>rfl) ⟨λ_=>rfl,trivial⟩
 (λ_ _=>tr (z3t.eq_2 ..))
 (λn=>⟨λ_=>tr (z0e.eq_2 ..),
  trivial⟩)
 (λx=>.inl rfl)
theorem y3z:OkL prog [zak]:=yzh (yz4 _) (bs:=[zml,zc5,z0j]) ⟨yc0,zq1,zd9,trivial⟩ ⟨y5a,trivial⟩
theorem zyu:FOk prog zak:=y3z.1
def z50:Nat->zz0->zz0->Ot (Int×Int)
 |0,_,_=>none
 |n+1,a,b=>
  (z6l n a.re b.re).bind λy0=>
  pIf (y0 != 0)
   (some (0,y0))
   ((z3t n a.re b.re).bind λy1=>
   some (y1.1,y1.2))
def zwf:LSh:=⟨[(4,dI),(5,dI)],[],0,18,[]⟩
noncomputable def ze4:FI dat:=FI.of dat 94 18 0 [dT 1,dT 1] [] [dI,dI] [] true zwf (R:=Int×Int) (λx=>(x.1,x.2.1)) (λr=>(r.1,r.2,())) (λn=>u2 (z50 n))
 (λn=>[]) (anb [] f94)
theorem zt0:FOk prog ze4:=okF (bs:=[zji,zak]) ⟨zo7,zyu,trivial⟩ func94 ntmps94 call94
 (λ_ _=>tr (z50.eq_2 ..))
 (λn=>trivial)
mutual
def z7c:Nat->Int->Int->Ot Int
 |0,_,_=>none
 |n+1,a,b=>
  (quo .i64 a b).bind λx0=>
  (rem .i64 a b).bind λx1=>
  pIf (decide (x1<0))
   (z1t n (IntKind.i64.wrap (x0-1)))
   (z1t n x0)
def z1t:Nat->Int->Ot Int
 |0,_=>none
 |n+1,a=>
  some a
end
def y3m:LSh:=⟨[(4,dI)],[],0,16,[]⟩
noncomputable def znx:FI dat:=FI.of dat 113 16 0 [dI,dI] [] [dI] [] true y3m (R:=Int) Prod.fst (·,()) (λn=>u2 (z7c n))
 (λn=>[(0,⟨⟨[(5,dI)],[],0,16,[]⟩,u1 (z1t n)⟩)]) (anb [(10,0)] f113)
theorem y2q:FOk prog znx:=okF (bs:=[]) trivial func113 ntmps113 call113
 (λ_ _=>tr (z7c.eq_2 ..))
 (λn=>⟨λ_=>tr (z1t.eq_2 _ n),
  trivial⟩)
def z7b:Nat->yz1->Ot (Int×Int)
 |0,_=>none
 |n+1,a=>
  (z1h n a).bind λy0=>
  pIf (y0 != 0)
   (some (0,y0))
   ((z7c n a.num a.den).bind λy1=>
   some (y1,0))
def y3o:LSh:=⟨[(2,dI),(3,dI)],[],0,15,[]⟩
noncomputable def zh4:FI dat:=FI.of dat 95 15 0 [dT 0] [] [dI,dI] [] true y3o (R:=Int×Int) (λx=>(x.1,x.2.1)) (λr=>(r.1,r.2,())) (λn=>u1 (z7b n))
 (λn=>[]) (anb [] f95)
theorem zy2:FOk prog zh4:=okF (bs:=[zb0,znx]) ⟨zfr,y2q,trivial⟩ func95 ntmps95 call95
 (λ_ _=>tr (z7b.eq_2 ..))
 (λn=>trivial)
def z63:Nat->zz0->Ot (Int×Int)
 |0,_=>none
 |n+1,a=>
  (zzl n a.re).bind λy0=>
  pIf (y0 != 0)
   (some (0,y0))
   (pIf (a.kind==3)
     (some ((a.str.length:Int),0))
     (pIf (a.kind==4)
       (some ((a.list.length:Int),0))
       (some (0,20))))
def yg7:LSh:=⟨[(2,dI),(3,dI)],[],0,22,[]⟩
noncomputable def zgs:FI dat:=FI.of dat 97 22 0 [dT 1] [] [dI,dI] [] true yg7 (R:=Int×Int) (λx=>(x.1,x.2.1)) (λr=>(r.1,r.2,())) (λn=>u1 (z63 n))
 (λn=>[]) (anb [] f97)
theorem zs6:FOk prog zgs:=okF (bs:=[z4r]) ⟨z97,trivial⟩ func97 ntmps97 call97
 (λ_ _=>tr (z63.eq_2 ..))
 (λn=>trivial)
def z4n:Nat->zz0->Ot zz0
 |0,_=>none
 |n+1,a=>
  (z25 n a.re).bind λy0=>
  some y0.re
def yci:LSh:=⟨[(2,(.ptr 0 0))],[(.st 1)],0,8,[]⟩
noncomputable def zbw:FI dat:=FI.of dat 33 8 0 [dT 1] [] [dT 1] [] true yci (R:=zz0) Prod.fst (·,()) (λn=>u1 (z4n n))
 (λn=>[]) (anb [] f33)
theorem zha:FOk prog zbw:=okF (bs:=[z6w]) ⟨zkb,trivial⟩ func33 ntmps33 call33
 (λ_ _=>tr (z4n.eq_2 ..))
 (λn=>trivial)
mutual
def zbh:Nat->zz0->Int->Ot (Int×zz0)
 |0,_,_=>none
 |n+1,a,b=>
  (z63 n a.re).bind λy0=>
  pIf (y0.2 != 0)
   (some (y0.2,(zz0.mk 0 (yz1.mk 0 0) false [] [])))
   (pIf (decide (b<0))
     (z57 n b true (zz0.mk 0 (yz1.mk 0 0) false [] []) a.re)
     (z57 n b (decide (b>=y0.1)) (zz0.mk 0 (yz1.mk 0 0) false [] []) a.re))
def z57:Nat->Int->Bool->zz0->zz0->Ot (Int×zz0)
 |0,_,_,_,_=>none
 |n+1,a,b,c,d=>
  pIf b
   (some (2,(zz0.mk 0 (yz1.mk 0 0) false [] [])))
   (pIf (d.kind==4)
     ((ix d.list a).bind λx1=>
     (z4n n x1.re).bind λy2=>
     some (0,y2.re))
     ((sub d.str a (IntKind.i64.wrap (a+1))).bind λx3=>
     some (0,(zz0.mk 3 (yz1.mk 0 0) false x3 []))))
end
def yk9:LSh:=⟨[(4,(.ptr 0 0)),(5,dI)],[(.st 1)],0,41,[]⟩
noncomputable def zps:FI dat:=FI.of dat 98 41 0 [dT 1,dI] [] [dT 1,dI] [] true yk9 (R:=Int×zz0) (λx=>(x.1,x.2.1)) (λr=>(r.2,r.1,())) (λn=>u2 (zbh n))
 (λn=>[(0,⟨⟨[(4,(.ptr 0 0)),(1,dI),(2,(.ptr 1 0)),(23,dB)],[(.st 1),(.st 1)],0,41,[]⟩,u4 (z57 n)⟩)]) (anb [(15,0)] f98)
theorem yek:FOk prog zps:=okF (bs:=[zgs,zbw]) ⟨zs6,zha,trivial⟩ func98 ntmps98 call98
 (λ_ _=>tr (zbh.eq_2 ..))
 (λn=>⟨λx=>tr (z57.eq_2 x.1 x.2.1 x.2.2.1 x.2.2.2.1 n),
  trivial⟩)
mutual
def z3o:Nat->Int->kz2->Ot (Res (Int×Unit) zz0)
 |0,_,_=>none
 |n+1,a,b=>
  pIf (a==3)
   ((ix b 0).bind λx0=>
   (ix b 1).bind λx1=>
   (z9y n x0.re x1.re).bind λy2=>
   (yzi n y2.1).bind λy3=>
   z8n y3 (λr4=>
    some (Res.ok y2.2.re))
    (λe5=>
    some (Res.pan (e5.1,()))))
   (pIf (a==4)
     ((zze n 1 b).bind λy6=>
     z8n y6 (λr7=>
      (ix b 0).bind λx8=>
      (ix b 1).bind λx9=>
      (z9o n x8.num x9.num).bind λy10=>
      (yzu n y10.2 y10.1).bind λy11=>
      z8n y11 (λr12=>
       some (Res.ok r12.re))
       (λe13=>
       some (Res.pan (e13.1,()))))
      (λe14=>
      some (Res.pan (e14.1,()))))
     (pIf (a==5)
       ((zze n 1 b).bind λy15=>
       z8n y15 (λr16=>
        (ix b 0).bind λx17=>
        (ix b 1).bind λx18=>
        (z9k n x17.num x18.num).bind λy19=>
        (yzu n y19.2 y19.1).bind λy20=>
        z8n y20 (λr21=>
         some (Res.ok r21.re))
         (λe22=>
         some (Res.pan (e22.1,()))))
        (λe23=>
        some (Res.pan (e23.1,()))))
       (pIf (a==6)
         ((zze n 1 b).bind λy24=>
         z8n y24 (λr25=>
          (ix b 0).bind λx26=>
          (ix b 1).bind λx27=>
          (z9j n x26.num x27.num).bind λy28=>
          (yzu n y28.2 y28.1).bind λy29=>
          z8n y29 (λr30=>
           some (Res.ok r30.re))
           (λe31=>
           some (Res.pan (e31.1,()))))
          (λe32=>
          some (Res.pan (e32.1,()))))
         (pIf (a==8)
           ((ix b 0).bind λx33=>
           (ix b 1).bind λx34=>
           (yzm n x33.re x34.re).bind λy35=>
           (yzx n y35).bind λy36=>
           some (Res.ok y36.re))
           (pIf (a==7)
             (z0y n b a a true (zz0.mk 0 (yz1.mk 0 0) false [] []))
             (pIf (a==13)
               (z0y n b a a true (zz0.mk 0 (yz1.mk 0 0) false [] []))
               (z0y n b a a (a==14) (zz0.mk 0 (yz1.mk 0 0) false [] []))))))))
def z0y:Nat->kz2->Int->Int->Bool->zz0->Ot (Res (Int×Unit) zz0)
 |0,_,_,_,_,_=>none
 |n+1,a,b,c,d,e=>
  pIf d
   ((ix a 0).bind λx37=>
   (ix a 1).bind λx38=>
   (z50 n x37.re x38.re).bind λy39=>
   (yzi n y39.2).bind λy40=>
   z8n y40 (λr41=>
    pIf (b==7)
     ((yzx n (decide (y39.1<0))).bind λy42=>
     some (Res.ok y42.re))
     (pIf ((b==13)==(decide (y39.1<=0)))
       (z3b n a true e.re)
       (z3b n a (y39.1==0) e.re)))
    (λe43=>
    some (Res.pan (e43.1,()))))
   (pIf (c==9)
     ((zze n 2 a).bind λy44=>
     z8n y44 (λr45=>
      (ix a 0).bind λx46=>
      pIf x46.truth
       ((ix a 1).bind λx47=>
       (yzx n x47.truth).bind λy48=>
       some (Res.ok y48.re))
       ((yzx n false).bind λy49=>
       some (Res.ok y49.re)))
      (λe50=>
      some (Res.pan (e50.1,()))))
     (pIf (c==10)
       ((zze n 2 a).bind λy51=>
       z8n y51 (λr52=>
        (ix a 0).bind λx53=>
        pIf x53.truth
         ((yzx n true).bind λy54=>
         some (Res.ok y54.re))
         ((ix a 1).bind λx55=>
         (yzx n x55.truth).bind λy56=>
         some (Res.ok y56.re)))
        (λe57=>
        some (Res.pan (e57.1,()))))
       (pIf (c==11)
         ((zze n 2 a).bind λy58=>
         z8n y58 (λr59=>
          (ix a 0).bind λx60=>
          (yzx n (!x60.truth)).bind λy61=>
          some (Res.ok y61.re))
          (λe62=>
          some (Res.pan (e62.1,()))))
         (pIf (c==15)
           ((zze n 1 a).bind λy63=>
           z8n y63 (λr64=>
            (ix a 0).bind λx65=>
            (z7b n x65.num).bind λy66=>
            (z17 n y66.1 1).bind λy67=>
            (yzu n y67.2 y67.1).bind λy68=>
            z8n y68 (λr69=>
             some (Res.ok r69.re))
             (λe70=>
             some (Res.pan (e70.1,()))))
            (λe71=>
            some (Res.pan (e71.1,()))))
           (pIf (c==16)
             ((ix a 0).bind λx72=>
             (z63 n x72.re).bind λy73=>
             (yzi n y73.2).bind λy74=>
             z8n y74 (λr75=>
              (z17 n y73.1 1).bind λy76=>
              (yzu n y76.2 y76.1).bind λy77=>
              z8n y77 (λr78=>
               some (Res.ok r78.re))
               (λe79=>
               some (Res.pan (e79.1,()))))
              (λe80=>
              some (Res.pan (e80.1,()))))
             (pIf (c==17)
               ((ix a 0).bind λx81=>
               (z63 n x81.re).bind λy82=>
               (yzi n y82.2).bind λy83=>
               z8n y83 (λr84=>
                (ix a 1).bind λx85=>
                (zze n 1 [x85.re]).bind λy86=>
                z8n y86 (λr87=>
                 (ix a 1).bind λx88=>
                 pIf (x88.num.den != 1)
                  ((yzi n 2).bind λy89=>
                  z8n y89 (λr90=>
                   z4u n a e.re)
                   (λe91=>
                   some (Res.pan (e91.1,()))))
                  (z4u n a e.re))
                 (λe92=>
                 some (Res.pan (e92.1,()))))
                (λe93=>
                some (Res.pan (e93.1,()))))
               ((zzl n (zz0.mk 4 (yz1.mk 0 0) false [] a)).bind λy94=>
               (yzi n y94).bind λy95=>
               z8n y95 (λr96=>
                some (Res.ok (zz0.mk 4 (yz1.mk 0 0) false [] a)))
                (λe97=>
                some (Res.pan (e97.1,()))))))))))
def z3b:Nat->kz2->Bool->zz0->Ot (Res (Int×Unit) zz0)
 |0,_,_,_=>none
 |n+1,a,b,c=>
  pIf b
   ((ix a 0).bind λx98=>
   some (Res.ok x98.re))
   ((ix a 1).bind λx99=>
   some (Res.ok x99.re))
def z4u:Nat->kz2->zz0->Ot (Res (Int×Unit) zz0)
 |0,_,_=>none
 |n+1,a,b=>
  (ix a 0).bind λx100=>
  (ix a 1).bind λx101=>
  (zbh n x100.re x101.num.num).bind λy102=>
  (yzi n y102.1).bind λy103=>
  z8n y103 (λr104=>
   some (Res.ok y102.2.re))
   (λe105=>
   some (Res.pan (e105.1,())))
end
def y9e:LSh:=⟨[(4,(.ptr 0 0))],[(.st 1)],0,246,[]⟩
noncomputable def zc1:FI dat:=FI.ofP dat 76 246 0 [dU,dL 1] [] [dT 1] [(.st 1)] (.iface 33 dI) [] [] y9e (R:=zz0) (λx=>x.1) (λr=>(r,r,())) (λn=>u2 (z3o n))
 (λn=>[(0,⟨⟨[(4,(.ptr 0 0)),(1,dL 1),(0,dU),(17,dU),(91,dB)],[(.st 1)],0,246,[]⟩,u5 (z0y n)⟩),(1,⟨⟨[(4,(.ptr 0 0)),(1,dL 1),(113,dB)],[(.st 1)],0,246,[]⟩,u3 (z3b n)⟩),(2,⟨⟨[(4,(.ptr 0 0)),(1,dL 1)],[(.st 1)],0,246,[]⟩,u2 (z4u n)⟩)]) (anb [(56,0),(71,1),(138,2)] f76)
noncomputable def yb4:List (FI dat):=[z3v,z8s,zaq,zlz,zly,zmp,zl2,z0j,zj7,ze4,zh4,zen,zgs,z4r,zps]
theorem yd1:(zc1).Good prog dat (tb yb4):=FI.zlf (hD:=yz4 _) func76 ntmps76 call76 (by kernel_rfl) (Qac (by kernel_rfl)) (by kernel_rfl) (λn=>by kernel_rfl) trivial (λx=>by kernel_rfl) (λ_=>rfl) ⟨λ_=>rfl,λ_=>rfl,λ_=>rfl,trivial⟩
 (λ_ _=>tr (z3o.eq_2 ..))
 (λn=>⟨λ_=>tr (z0y.eq_2 ..),
  λx=>tr (z3b.eq_2 x.1 x.2.1 x.2.2.1 n),
  λx=>tr (z4u.eq_2 x.1 x.2.1 n),
  trivial⟩)
 (λx=>by kernel_rfl)
theorem y9r:OkL prog [zc1]:=zh2 (yz4 _) (bs:=[z3v,z8s,zaq,zlz,zly,zmp,zl2,z0j,zj7,ze4,zh4,zen,zgs,z4r,zps]) ⟨zev,zqf,zyx,yce,ya7,ya0,ybv,zd9,y4s,zt0,zy2,zob,zs6,z97,yek,trivial⟩ yd1
theorem y3u:FOk prog zc1:=y9r.1
mutual
def z00:Nat->zz1->yzb->Ot (Res (Int×Unit) zz0)
 |0,_,_=>none
 |n+1,a,b=>
  pIf (a.op==1)
   (some (Res.ok a.value.re))
   (pIf (a.op==2)
     ((kz9 n b a.op a.value.kind a.value.num.num a.value.num.den a.value.truth a.value.str a.value.list a.name a.args).bind λy0=>
     pIf (decide (y0.1<0))
      ((yzi n 6).bind λy1=>
      z8n y1 (λr2=>
       z5l n y0.1 b 0 0 0 false [] [])
       (λe3=>
       some (Res.pan (e3.1,()))))
      (z5l n y0.1 b 0 0 0 false [] []))
     (pIf (a.op==12)
       ((ix a.args 0).bind λx4=>
       (z00 n x4.re b).bind λy5=>
       z8n y5 (λr6=>
        (zze n 2 [r6.re]).bind λy7=>
        z8n y7 (λr8=>
         pIf r6.truth
          ((ix a.args 1).bind λx9=>
          (z00 n x9.re b).bind λy10=>
          z8n y10 (λr11=>
           some (Res.ok r11.re))
           (λe12=>
           some (Res.pan (e12.1,()))))
          ((ix a.args 2).bind λx13=>
          (z00 n x13.re b).bind λy14=>
          z8n y14 (λr15=>
           some (Res.ok r15.re))
           (λe16=>
           some (Res.pan (e16.1,())))))
         (λe17=>
         some (Res.pan (e17.1,()))))
        (λe18=>
        some (Res.pan (e18.1,()))))
       (z41 n 0 b a.args (a.args.length:Int) [] 0 0 0 false [] a.re [])))
def z5l:Nat->Int->yzb->Int->Int->Int->Bool->B8->kz2->Ot (Res (Int×Unit) zz0)
 |0,_,_,_,_,_,_,_,_=>none
 |n+1,a,b,c,d,e,f,g,h=>
  (ix b a).bind λx19=>
  some (Res.ok x19.value.re)
def z41:Nat->Int->yzb->yz3->Int->kz2->Int->Int->Int->Bool->B8->zz1->kz2->Ot (Res (Int×Unit) zz0)
 |0,_,_,_,_,_,_,_,_,_,_,_,_=>none
 |n+1,a,b,c,d,e,f,g,h,i,j,k,l=>
  pIf (decide (a<d))
   ((ix c a).bind λx20=>
   (z00 n x20.re b).bind λy21=>
   z8n y21 (λr22=>
    (ext e [r22.re]).bind λx23=>
    z41 n (IntKind.i64.wrap (a+1)) b c d x23 f g h i j k.re l)
    (λe24=>
    some (Res.pan (e24.1,()))))
   ((z3o n k.op e).bind λy25=>
   z8n y25 (λr26=>
    some (Res.ok r26.re))
    (λe27=>
    some (Res.pan (e27.1,()))))
end
def yhi:LSh:=⟨[(4,(.ptr 0 0))],[(.st 1)],0,72,[]⟩
noncomputable def zbj:FI dat:=FI.ofP dat 63 72 0 [dT 2,dL 3] [] [dT 1] [(.st 1)] (.iface 33 dI) [] [] yhi (R:=zz0) (λx=>x.1) (λr=>(r,r,())) (λn=>u2 (z00 n))
 (λn=>[(0,⟨⟨[(4,(.ptr 0 0)),(5,dI),(1,dL 3)],[(.cells [dU,dI,dI,dB,dS,(.own 1)]),(.acc 26 (.st 1) true)],0,72,[]⟩,u8 (z5l n)⟩),(1,⟨⟨[(57,dI),(1,dL 3),(7,(.own 0)),(55,dL 2),(4,(.ptr 1 0)),(2,(.ptr 2 0)),(56,dI)],[(.acc 26 (.st 1) true),(.cells [dU,dI,dI,dB,dS,(.own 3)]),(.st 2),(.acc 26 (.st 1) true)],0,72,[]⟩,u12 (z41 n)⟩)]) (anb [(23,0),(51,1)] f63)
noncomputable def yew:List (FI dat):=[zbj]++[z0b,z3v,z8s,zc1]
theorem yi5:(zbj).Good prog dat (tb yew):=FI.zlf (hD:=yz4 _) func63 ntmps63 call63 (by kernel_rfl) (Qac (by kernel_rfl)) (by kernel_rfl) (λn=>by kernel_rfl) trivial (λx=>by kernel_rfl) (λ_=>rfl) ⟨λ_=>rfl,λ_=>rfl,trivial⟩
 (λ_ _=>tr (z00.eq_2 ..))
 (λn=>⟨λx=>tr (z5l.eq_2 x.1 x.2.1 x.2.2.1 x.2.2.2.1 x.2.2.2.2.1 x.2.2.2.2.2.1 x.2.2.2.2.2.2.1 x.2.2.2.2.2.2.2.1 n),
  λ_=>tr (z41.eq_2 ..),
  trivial⟩)
 (λx=>by kernel_rfl)
theorem ygy:OkL prog [zbj]:=yzh (yz4 _) (bs:=[z0b,z3v,z8s,zc1]) ⟨za7,zev,zqf,y3u,trivial⟩ ⟨yi5,trivial⟩
theorem ycp:FOk prog zbj:=ygy.1
def zbu(a0:Int):Option Int :=
 some a0
def y41:LSh:=⟨[],[(.cells [dI])],1,10,[]⟩
noncomputable def zoo:zes dat:={f:=62,args:=[(.ptr 0 0)],aos:=[(.cells [dI])],m:=none,ros:=[(.cells [dI])],go:=λx mx=>(zbu x.1).bind λr=>some (r,())}
theorem zwm:(zoo).Ok prog:=yi3 (c:=(anb [] f62)) (args:=[(.ptr 0 0)]) (aos:=[(.cells [dI])]) (ros:=[(.cells [dI])]) (m:=none) (l:=y41) (pack:=λx=>x.1) (un:=λr=>(r,())) (go:=λx mx=>zbu x.1) (by kernel_rfl) (yz4 _) func62 (by kernel_rfl) ntmps62 call62 (Nat.le_of_ble_eq_true (by kernel_rfl)) (Nat.le_of_ble_eq_true (by kernel_rfl)) (Nat.le_of_ble_eq_true (by kernel_rfl)) (by kernel_rfl) (by kernel_rfl) (by kernel_rfl) (by kernel_rfl) (λx=>by kernel_rfl) (λx mx=>by kernel_rfl)
def z8j(a0:Int)(a1:Int):Option Int :=
 some a1
def zu9:LSh:=⟨[],[(.cells [dI])],1,10,[]⟩
noncomputable def zi4:zes dat:={f:=62,args:=[(.ptr 0 0)],aos:=[(.cells [dI])],m:=(some (.iface 33 dI)),ros:=[(.cells [dI])],go:=λx mx=>(z8j x.1 mx.1).bind λr=>some (r,())}
theorem zot:(zi4).Ok prog:=yi3 (c:=(anb [] f62)) (args:=[(.ptr 0 0)]) (aos:=[(.cells [dI])]) (ros:=[(.cells [dI])]) (m:=(some (.iface 33 dI))) (l:=zu9) (pack:=λx=>x.1) (un:=λr=>(r,())) (go:=λx mx=>z8j x.1 mx.1) (by kernel_rfl) (yz4 _) func62 (by kernel_rfl) ntmps62 call62 (Nat.le_of_ble_eq_true (by kernel_rfl)) (Nat.le_of_ble_eq_true (by kernel_rfl)) (Nat.le_of_ble_eq_true (by kernel_rfl)) (by kernel_rfl) (by kernel_rfl) (by kernel_rfl) (by kernel_rfl) (λx=>by kernel_rfl) (λx mx=>by kernel_rfl)
def z3j:Nat->zz1->yzb->Ot (zz0×Int)
 |0,_,_=>none
 |n+1,a,b=>
  (z00 n a.re b).bind λy0=>
  z8n y0 (λr1=>
   (z4n n r1.re).bind λy2=>
   (((zbu 0).bind λr4=>some (r4,()))).bind λy3=>
   some (y2.re,y3.1))
   (λe5=>
   (((z8j 0 e5.1).bind λr7=>some (r7,()))).bind λy6=>
   some ((zz0.mk 0 (yz1.mk 0 0) false [] []),y6.1))
def ybo:LSh:=⟨[(4,(.ptr 0 0)),(5,(.ptr 1 0))],[(.st 1),(.cells [dI])],0,10,[]⟩
noncomputable def zeh:FI dat:=FI.ofD dat 49 10 0 [dT 2,dL 3] [] [dT 1,dI] [(.st 1),(.cells [dI])] [zoo,zi4] ybo (R:=zz0×Int) (λx=>(x.1,x.2.1)) (λr=>(r.1,r.2,r.1,r.2,())) (λn=>u2 (z3j n))
 (λn=>[]) (anb [] f49)
noncomputable def yd5:List (FI dat):=[zbj,zbw]
theorem ybi:(zeh).Good prog dat (tb yd5):=FI.zlu (hD:=yz4 _) func49 ntmps49 call49 (by kernel_rfl) (Qac (by kernel_rfl)) (by kernel_rfl) (λn=>by kernel_rfl) ⟨zwm,zot,trivial⟩ (λx=>by kernel_rfl) (λ_=>rfl) trivial
 (λ_ _=>tr (z3j.eq_2 ..))
 (λn=>trivial)
 (λx=>by kernel_rfl)
theorem ybe:OkL prog [zeh]:=zh2 (yz4 _) (bs:=[zbj,zbw]) ⟨ycp,zha,trivial⟩ ybi
theorem y70:FOk prog zeh:=ybe.1
mutual
def z5v:Nat->Int->Int->Int->Int->Bool->B8->kz2->B8->yz3->Ot (Int×Int×Int×Int×Bool×B8×kz2×B8×yz3)
 |0,_,_,_,_,_,_,_,_,_=>none
 |n+1,a,b,c,d,e,f,g,h,i=>
  pIf (a==12)
   ((ix i 0).bind λx0=>
   (ix i 0).bind λx1=>
   pIf (x1.op==1)
    ((ix i 0).bind λx2=>
    (ix i 0).bind λx3=>
    kzu n (x3.value.kind==2) (zz1.mk 0 (zz0.mk 0 (yz1.mk 0 0) false [] []) [] []) a b c d e f g h i)
    (kzu n false (zz1.mk 0 (zz0.mk 0 (yz1.mk 0 0) false [] []) [] []) a b c d e f g h i))
   (kzu n false (zz1.mk 0 (zz0.mk 0 (yz1.mk 0 0) false [] []) [] []) a b c d e f g h i)
def kzu:Nat->Bool->zz1->Int->Int->Int->Int->Bool->B8->kz2->B8->yz3->Ot (Int×Int×Int×Int×Bool×B8×kz2×B8×yz3)
 |0,_,_,_,_,_,_,_,_,_,_,_=>none
 |n+1,a,b,c,d,e,f,g,h,i,j,k=>
  pIf a
   ((ix k 0).bind λx4=>
   (ix k 0).bind λx5=>
   pIf x5.value.truth
    ((ix k 1).bind λx6=>
    (ix k 1).bind λx7=>
    (ix k 1).bind λx8=>
    some (x8.op,x8.value.kind,x8.value.num.num,x8.value.num.den,x8.value.truth,x8.value.str,x8.value.list,x8.name,x7.args))
    ((ix k 2).bind λx9=>
    (ix k 2).bind λx10=>
    (ix k 2).bind λx11=>
    some (x11.op,x11.value.kind,x11.value.num.num,x11.value.num.den,x11.value.truth,x11.value.str,x11.value.list,x11.name,x10.args)))
   ((z6i n c d e f g h i j k []).bind λy12=>
   pIf (decide ((y12.2.length:Int)>0))
    (some (c,d,e,f,g,h,i,j,y12.1))
    ((z3j n (zz1.mk c (zz0.mk d (yz1.mk e f) g h i) j y12.1) []).bind λy13=>
    pIf (decide ((y13.1.list.length:Int)<=0))
     (pIf (y13.2==0)
       ((z4m n y13.1.re).bind λy14=>
       some (y14.1,y14.2.1,y14.2.2.1,y14.2.2.2.1,y14.2.2.2.2.1,y14.2.2.2.2.2.1,y14.2.2.2.2.2.2.1,y14.2.2.2.2.2.2.2.1,y14.2.2.2.2.2.2.2.2))
       (some (c,d,e,f,g,h,i,j,y12.1)))
     ((z3j n (zz1.mk c (zz0.mk d (yz1.mk e f) g h i) j y12.1) []).bind λy15=>
     pIf (y15.2==0)
      ((z4m n y15.1.re).bind λy16=>
      some (y16.1,y16.2.1,y16.2.2.1,y16.2.2.2.1,y16.2.2.2.2.1,y16.2.2.2.2.2.1,y16.2.2.2.2.2.2.1,y16.2.2.2.2.2.2.2.1,y16.2.2.2.2.2.2.2.2))
      (none))))
end
def y0c:LSh:=⟨[(2,(.ptr 0 0))],[(.cells [dU,dU,dI,dI,dB,dS,dL 1,dS,(.own 1)]),(.deep 29 2)],0,56,[]⟩
noncomputable def zf6:FI dat:=FI.of dat 30 56 0 [(.agg [dU,dU,dI,dI,dB,dS,dL 1,dS,(.own 0)])] [(.deep 29 2)] [(.agg [dU,dU,dI,dI,dB,dS,dL 1,dS,(.own 1)])] [(.cells [dU,dU,dI,dI,dB,dS,dL 1,dS,(.own 1)]),(.deep 29 2)] false y0c (R:=Int×Int×Int×Int×Bool×B8×kz2×B8×yz3) (λx=>(x.1,x.2.1,x.2.2.1,x.2.2.2.1,x.2.2.2.2.1,x.2.2.2.2.2.1,x.2.2.2.2.2.2.1,x.2.2.2.2.2.2.2.1,x.2.2.2.2.2.2.2.2.1)) (λr=>(r.1,r.2.1,r.2.2.1,r.2.2.2.1,r.2.2.2.2.1,r.2.2.2.2.2.1,r.2.2.2.2.2.2.1,r.2.2.2.2.2.2.2.1,r.1,r.2.1,r.2.2.1,r.2.2.2.1,r.2.2.2.2.1,r.2.2.2.2.2.1,r.2.2.2.2.2.2.1,r.2.2.2.2.2.2.2.1,r.2.2.2.2.2.2.2.2,())) (λn=>u9 (z5v n))
 (λn=>[(0,⟨⟨[(2,(.ptr 0 0)),(1,(.ptr 1 0)),(25,dB)],[(.st 2),(.cells [dU,dU,dI,dI,dB,dS,dL 1,dS,(.own 2)]),(.deep 29 2)],0,56,[]⟩,u11 (kzu n)⟩)]) (anb [(5,0)] f30)
theorem zvp:FOk prog zf6:=okF (bs:=[zbo,zeh,zd0]) ⟨y7d,y70,zv9,trivial⟩ func30 ntmps30 call30
 (λ_ _=>tr (z5v.eq_2 ..))
 (λn=>⟨λx=>tr (kzu.eq_2 x.1 x.2.1 x.2.2.1 x.2.2.2.1 x.2.2.2.2.1 x.2.2.2.2.2.1 x.2.2.2.2.2.2.1 x.2.2.2.2.2.2.2.1 x.2.2.2.2.2.2.2.2.1 x.2.2.2.2.2.2.2.2.2.1 x.2.2.2.2.2.2.2.2.2.2.1 n),
  trivial⟩)
mutual
def z1d:Nat->zz1->Ot (Int×Int×Int×Int×Bool×B8×kz2×B8×yz3)
 |0,_=>none
 |n+1,a=>
  zzw n 0 a.args (a.args.length:Int) a.op a.value.kind a.value.num.num a.value.num.den a.value.truth a.value.str a.value.list a.name 0 0 0 0 false [] [] [] [] []
def zzw:Nat->Int->yz3->Int->Int->Int->Int->Int->Bool->B8->kz2->B8->Int->Int->Int->Int->Bool->B8->kz2->B8->yz3->yz3->Ot (Int×Int×Int×Int×Bool×B8×kz2×B8×yz3)
 |0,_,_,_,_,_,_,_,_,_,_,_,_,_,_,_,_,_,_,_,_,_=>none
 |n+1,a,b,c,d,e,f,g,h,i,j,k,l,m,o,p,q,r,s,t,u,v=>
  pIf (decide (a<c))
   ((ix b a).bind λx0=>
   (z1d n x0.re).bind λy1=>
   (ext u [(zz1.mk y1.1 (zz0.mk y1.2.1 (yz1.mk y1.2.2.1 y1.2.2.2.1) y1.2.2.2.2.1 y1.2.2.2.2.2.1 y1.2.2.2.2.2.2.1) y1.2.2.2.2.2.2.2.1 [])]).bind λx2=>
   (ix x2 (u.length:Int)).bind λx3=>
   zzw n (IntKind.i64.wrap (a+1)) b c d e f g h i j k l m o p q r s t (x2.set (Int.toNat (u.length:Int)) (zz1.mk x3.op x3.value.re x3.name y1.2.2.2.2.2.2.2.2)) v)
   ((z5v n d e f g h i j k u).bind λy4=>
   some (y4.1,y4.2.1,y4.2.2.1,y4.2.2.2.1,y4.2.2.2.2.1,y4.2.2.2.2.2.1,y4.2.2.2.2.2.2.1,y4.2.2.2.2.2.2.2.1,y4.2.2.2.2.2.2.2.2))
end
def ztc:LSh:=⟨[(4,(.ptr 0 0))],[(.cells [dU,dU,dI,dI,dB,dS,dL 1,dS,(.own 1)]),(.deep 29 2)],0,29,[]⟩
noncomputable def z7f:FI dat:=FI.of dat 23 29 0 [dT 2,(.fn 30 [] [])] [] [(.agg [dU,dU,dI,dI,dB,dS,dL 1,dS,(.own 1)])] [(.cells [dU,dU,dI,dI,dB,dS,dL 1,dS,(.own 1)]),(.deep 29 2)] false ztc (R:=Int×Int×Int×Int×Bool×B8×kz2×B8×yz3) (λx=>(x.1,x.2.1,x.2.2.1,x.2.2.2.1,x.2.2.2.2.1,x.2.2.2.2.2.1,x.2.2.2.2.2.2.1,x.2.2.2.2.2.2.2.1,x.2.2.2.2.2.2.2.2.1)) (λr=>(r.1,r.2.1,r.2.2.1,r.2.2.2.1,r.2.2.2.2.1,r.2.2.2.2.2.1,r.2.2.2.2.2.2.1,r.2.2.2.2.2.2.2.1,r.1,r.2.1,r.2.2.1,r.2.2.2.1,r.2.2.2.2.1,r.2.2.2.2.2.1,r.2.2.2.2.2.2.1,r.2.2.2.2.2.2.2.1,r.2.2.2.2.2.2.2.2,())) (λn=>u1 (z1d n))
 (λn=>[(0,⟨⟨[(13,dI),(2,(.ptr 0 0)),(1,(.fn 30 [] [])),(11,dL 2),(4,(.ptr 1 0)),(12,dI)],[(.cells [dU,dU,dI,dI,dB,dS,dL 1,dS,(.own 2)]),(.cells [dU,dU,dI,dI,dB,dS,dL 1,dS,(.own 3)]),(.deep 29 2),(.deep 29 2)],0,29,[]⟩,λx=>zzw n x.1 x.2.1 x.2.2.1 x.2.2.2.1 x.2.2.2.2.1 x.2.2.2.2.2.1 x.2.2.2.2.2.2.1 x.2.2.2.2.2.2.2.1 x.2.2.2.2.2.2.2.2.1 x.2.2.2.2.2.2.2.2.2.1 x.2.2.2.2.2.2.2.2.2.2.1 x.2.2.2.2.2.2.2.2.2.2.2.1 x.2.2.2.2.2.2.2.2.2.2.2.2.1 x.2.2.2.2.2.2.2.2.2.2.2.2.2.1 x.2.2.2.2.2.2.2.2.2.2.2.2.2.2.1 x.2.2.2.2.2.2.2.2.2.2.2.2.2.2.2.1 x.2.2.2.2.2.2.2.2.2.2.2.2.2.2.2.2.1 x.2.2.2.2.2.2.2.2.2.2.2.2.2.2.2.2.2.1 x.2.2.2.2.2.2.2.2.2.2.2.2.2.2.2.2.2.2.1 x.2.2.2.2.2.2.2.2.2.2.2.2.2.2.2.2.2.2.2.1 x.2.2.2.2.2.2.2.2.2.2.2.2.2.2.2.2.2.2.2.2.1⟩)]) (anb [(10,0)] f23)
noncomputable def zsf:List (FI dat):=[z7f]++[zf6]
theorem zt6:(z7f).Good prog dat (tb zsf):=FI.kzd (hD:=yz4 _) func23 ntmps23 call23 (by kernel_rfl) (Qac (by kernel_rfl)) (by kernel_rfl) (λn=>by kernel_rfl) (λx=>by kernel_rfl) (λ_=>rfl) ⟨λ_=>rfl,trivial⟩
 (λ_ _=>tr (z1d.eq_2 ..))
 (λn=>⟨λ_=>tr (zzw.eq_2 ..),
  trivial⟩)
 (λx=>.inr (by kernel_rfl))
theorem zsi:OkL prog [z7f]:=yzh (yz4 _) (bs:=[zf6]) ⟨zvp,trivial⟩ ⟨zt6,trivial⟩
theorem zqz:FOk prog z7f:=zsi.1
def za0:Nat->zz1->Ot (Int×Int×Int×Int×Int×Bool×B8×kz2×B8×yz3)
 |0,_=>none
 |n+1,a=>
  (z4o n a.re).bind λy0=>
  pIf (y0 != 0)
   (some (y0,0,0,0,0,false,[],[],[],[]))
   ((z1d n a.re).bind λy1=>
   some (0,y1.1,y1.2.1,y1.2.2.1,y1.2.2.2.1,y1.2.2.2.2.1,y1.2.2.2.2.2.1,y1.2.2.2.2.2.2.1,y1.2.2.2.2.2.2.2.1,y1.2.2.2.2.2.2.2.2))
def yhd:LSh:=⟨[(2,(.ptr 0 0)),(3,dI)],[(.cells [dU,dU,dI,dI,dB,dS,dL 1,dS,(.own 1)]),(.deep 29 2)],0,13,[]⟩
noncomputable def zuu:FI dat:=FI.of dat 9 13 0 [dT 2] [] [(.agg [dU,dU,dI,dI,dB,dS,dL 1,dS,(.own 1)]),dI] [(.cells [dU,dU,dI,dI,dB,dS,dL 1,dS,(.own 1)]),(.deep 29 2)] false yhd (R:=Int×Int×Int×Int×Int×Bool×B8×kz2×B8×yz3) (λx=>(x.1,x.2.1,x.2.2.1,x.2.2.2.1,x.2.2.2.2.1,x.2.2.2.2.2.1,x.2.2.2.2.2.2.1,x.2.2.2.2.2.2.2.1,x.2.2.2.2.2.2.2.2.1,x.2.2.2.2.2.2.2.2.2.1)) (λr=>(r.2.1,r.2.2.1,r.2.2.2.1,r.2.2.2.2.1,r.2.2.2.2.2.1,r.2.2.2.2.2.2.1,r.2.2.2.2.2.2.2.1,r.2.2.2.2.2.2.2.2.1,r.1,r.2.1,r.2.2.1,r.2.2.2.1,r.2.2.2.2.1,r.2.2.2.2.2.1,r.2.2.2.2.2.2.1,r.2.2.2.2.2.2.2.1,r.2.2.2.2.2.2.2.2.1,r.2.2.2.2.2.2.2.2.2,())) (λn=>u1 (za0 n))
 (λn=>[]) (anb [] f9)
theorem yax:FOk prog zuu:=okF (bs:=[z7f,zjd]) ⟨zqz,zol,trivial⟩ func9 ntmps9 call9
 (λ_ _=>tr (za0.eq_2 ..))
 (λn=>trivial)
mutual
def z6g:Nat->zz1->(List B8)->Ot (List B8)
 |0,_,_=>none
 |n+1,a,b=>
  pIf (a.op==2)
   (z10 n 0 a.re b)
   (z11 n b a.re)
def z10:Nat->Int->zz1->(List B8)->Ot (List B8)
 |0,_,_,_=>none
 |n+1,a,b,c=>
  pIf (decide (a<(c.length:Int)))
   ((ix c a).bind λx0=>
   z2l n a (Op.bytesLess x0 b.name) b.re c)
   (z2l n a false b.re c)
def z2l:Nat->Int->Bool->zz1->(List B8)->Ot (List B8)
 |0,_,_,_,_=>none
 |n+1,a,b,c,d=>
  pIf b
   (z10 n (IntKind.i64.wrap (a+1)) c.re d)
   (pIf (a==(d.length:Int))
     (z2v n a true c.re d)
     ((ix d a).bind λx1=>
     z2v n a (!(x1==c.name)) c.re d))
def z2v:Nat->Int->Bool->zz1->(List B8)->Ot (List B8)
 |0,_,_,_,_=>none
 |n+1,a,b,c,d=>
  pIf b
   ((ext d [[]]).bind λx4=>
   (yh7 x4 (IntKind.i64.wrap (a+1))).bind λx5=>
   (yh7 x4 a).bind λx6=>
   (zp0 x4 (IntKind.i64.wrap (a+1)) a).bind λx7=>
   (ix x7 a).bind λx8=>
   z11 n (x7.set (Int.toNat a) c.name) c.re)
   (z11 n d c.re)
def z11:Nat->(List B8)->zz1->Ot (List B8)
 |0,_,_=>none
 |n+1,a,b=>
  z36 n 0 a b.re
def z36:Nat->Int->(List B8)->zz1->Ot (List B8)
 |0,_,_,_=>none
 |n+1,a,b,c=>
  pIf (decide (a<(c.args.length:Int)))
   ((ix c.args a).bind λx2=>
   (z6g n x2.re b).bind λy3=>
   z36 n (IntKind.i64.wrap (a+1)) y3 c.re)
   (some b)
end
def y9y:LSh:=⟨[(4,(.own 0))],[(.acc 9 .str true)],0,69,[]⟩
noncomputable def z9x:FI dat:=FI.of dat 50 69 0 [dT 2,(.own 0)] [(.acc 9 .str true)] [(.own 0)] [(.acc 9 .str true)] false y9y (R:=List B8) Prod.fst (·,()) (λn=>u2 (z6g n))
 (λn=>[(0,⟨⟨[(5,dI),(2,(.ptr 0 0)),(1,(.own 1))],[(.st 2),(.acc 9 .str true)],0,69,[]⟩,u3 (z10 n)⟩),(1,⟨⟨[(2,(.ptr 0 0)),(1,(.own 1)),(5,dI),(22,dB)],[(.st 2),(.acc 9 .str true)],0,69,[]⟩,u4 (z2l n)⟩),(2,⟨⟨[(2,(.ptr 0 0)),(5,dI),(1,(.own 1)),(37,dB)],[(.st 2),(.acc 9 .str true)],0,69,[]⟩,u4 (z2v n)⟩),(3,⟨⟨[(1,(.own 0)),(2,(.ptr 1 0))],[(.acc 9 .str true),(.st 2)],0,69,[]⟩,u2 (z11 n)⟩),(4,⟨⟨[(6,dI),(1,(.own 0)),(2,(.ptr 1 0))],[(.acc 9 .str true),(.st 2)],0,69,[]⟩,u3 (z36 n)⟩)]) (anb [(10,0),(14,1),(21,2),(29,3),(33,4)] f50)
noncomputable def yaq:List (FI dat):=[z9x]++[]
theorem ycu:(z9x).Good prog dat (tb yaq):=FI.kzd (hD:=yz4 _) func50 ntmps50 call50 (by kernel_rfl) (Qac (by kernel_rfl)) (by kernel_rfl) (λn=>by kernel_rfl) (λx=>by kernel_rfl) (λ_=>rfl) ⟨λ_=>rfl,λ_=>rfl,λ_=>rfl,λ_=>rfl,λ_=>rfl,trivial⟩
 (λ_ _=>tr (z6g.eq_2 ..))
 (λn=>⟨λ_=>tr (z10.eq_2 ..),
  λ_=>tr (z2l.eq_2 ..),
  λ_=>tr (z2v.eq_2 ..),
  λ_=>tr (z11.eq_2 ..),
  λ_=>tr (z36.eq_2 ..),
  trivial⟩)
 (λx=>.inr (by kernel_rfl))
theorem ybs:OkL prog [z9x]:=yzh (yz4 _) (bs:=[]) trivial ⟨ycu,trivial⟩
theorem y65:FOk prog z9x:=ybs.1
mutual
def z6x:Nat->yzb->B8->Ot (Int×zz0)
 |0,_,_=>none
 |n+1,a,b=>
  z1a n 0 a b (zz0.mk 0 (yz1.mk 0 0) false [] [])
def z1a:Nat->Int->yzb->B8->zz0->Ot (Int×zz0)
 |0,_,_,_,_=>none
 |n+1,a,b,c,d=>
  pIf (decide (a<(b.length:Int)))
   ((ix b a).bind λx0=>
   pIf (x0.name==c)
    ((ix b a).bind λx1=>
    some (0,x1.value.re))
    (z1a n (IntKind.i64.wrap (a+1)) b c d.re))
   (some (6,(zz0.mk 0 (yz1.mk 0 0) false [] [])))
end
def y6e:LSh:=⟨[(4,(.ptr 0 0)),(5,dI)],[(.st 1)],0,26,[]⟩
noncomputable def zgx:FI dat:=FI.of dat 64 26 0 [dL 3,dS] [] [dT 1,dI] [] true y6e (R:=Int×zz0) (λx=>(x.1,x.2.1)) (λr=>(r.2,r.1,())) (λn=>u2 (z6x n))
 (λn=>[(0,⟨⟨[(4,(.ptr 0 0)),(6,dI),(0,dL 3),(1,dS)],[(.st 1)],0,26,[]⟩,u4 (z1a n)⟩)]) (anb [(6,0)] f64)
theorem y05:FOk prog zgx:=okF (bs:=[]) trivial func64 ntmps64 call64
 (λ_ _=>tr (z6x.eq_2 ..))
 (λn=>⟨λ_=>tr (z1a.eq_2 ..),
  trivial⟩)
def zzv:Nat->Bool->Ot zz0
 |0,_=>none
 |n+1,a=>
  some (zz0.mk 2 (yz1.mk 0 0) a [] [])
def yjj:LSh:=⟨[(2,(.ptr 0 0))],[(.st 1)],0,5,[]⟩
noncomputable def zpr:FI dat:=FI.of dat 77 5 0 [dB] [] [dT 1] [] true yjj (R:=zz0) Prod.fst (·,()) (λn=>u1 (zzv n))
 (λn=>[]) (anb [] f77)
theorem zus:FOk prog zpr:=okF (bs:=[]) trivial func77 ntmps77 call77
 (λn=>λ_=>tr (zzv.eq_2 _ n))
 (λn=>trivial)
mutual
def z6v:Nat->yz1->Ot (Int×Int)
 |0,_=>none
 |n+1,a=>
  (yzl n a).bind λy0=>
  pIf (y0 != 0)
   ((yzl n a).bind λy1=>
   some (0,y1))
   ((quo .i64 a.num a.den).bind λx2=>
   pIf (decide ((IntKind.i64.wrap (x2 * a.den))>a.num))
    (z1e n (IntKind.i64.wrap (x2-1)))
    (z1e n x2))
def z1e:Nat->Int->Ot (Int×Int)
 |0,_=>none
 |n+1,a=>
  some (a,0)
end
def y6s:LSh:=⟨[(2,dI),(3,dI)],[],0,25,[]⟩
noncomputable def zoh:FI dat:=FI.of dat 78 25 0 [dT 0] [] [dI,dI] [] true y6s (R:=Int×Int) (λx=>(x.1,x.2.1)) (λr=>(r.1,r.2,())) (λn=>u1 (z6v n))
 (λn=>[(0,⟨⟨[(4,dI)],[],0,25,[]⟩,u1 (z1e n)⟩)]) (anb [(18,0)] f78)
theorem y3e:FOk prog zoh:=okF (bs:=[z6d]) ⟨zcl,trivial⟩ func78 ntmps78 call78
 (λ_ _=>tr (z6v.eq_2 ..))
 (λn=>⟨λ_=>tr (z1e.eq_2 _ n),
  trivial⟩)
def z7h:Nat->yz1->Ot zz0
 |0,_=>none
 |n+1,a=>
  some (zz0.mk 1 a false [] [])
def ykk:LSh:=⟨[(2,(.ptr 0 0))],[(.st 1)],0,5,[]⟩
noncomputable def zjx:FI dat:=FI.of dat 99 5 0 [dT 0] [] [dT 1] [] true ykk (R:=zz0) Prod.fst (·,()) (λn=>u1 (z7h n))
 (λn=>[]) (anb [] f99)
theorem zl9:FOk prog zjx:=okF (bs:=[]) trivial func99 ntmps99 call99
 (λn=>λ_=>tr (z7h.eq_2 _ n))
 (λn=>trivial)
def z58:Nat->Int->Ot (Int×zz0)
 |0,_=>none
 |n+1,a=>
  (z7h n (yz1.mk a 1)).bind λy0=>
  some (0,y0.re)
def y6y:LSh:=⟨[(2,(.ptr 0 0)),(3,dI)],[(.st 1)],0,7,[]⟩
noncomputable def zod:FI dat:=FI.of dat 79 7 0 [dI] [] [dT 1,dI] [] true y6y (R:=Int×zz0) (λx=>(x.1,x.2.1)) (λr=>(r.2,r.1,())) (λn=>u1 (z58 n))
 (λn=>[]) (anb [] f79)
theorem zyr:FOk prog zod:=okF (bs:=[zjx]) ⟨zl9,trivial⟩ func79 ntmps79 call79
 (λ_ _=>tr (z58.eq_2 ..))
 (λn=>trivial)
def z7l:Nat->zz0->Ot (Int×Int)
 |0,_=>none
 |n+1,a=>
  (yze n a.re).bind λy0=>
  pIf (y0 != 0)
   ((yze n a.re).bind λy1=>
   some (0,y1))
   (pIf (a.kind==3)
     (some ((a.str.length:Int),0))
     (pIf (a.kind==4)
       (some ((a.list.length:Int),0))
       (some (0,20))))
def yf6:LSh:=⟨[(2,dI),(3,dI)],[],0,21,[]⟩
noncomputable def zla:FI dat:=FI.of dat 80 21 0 [dT 1] [] [dI,dI] [] true yf6 (R:=Int×Int) (λx=>(x.1,x.2.1)) (λr=>(r.1,r.2,())) (λn=>u1 (z7l n))
 (λn=>[]) (anb [] f80)
theorem zru:FOk prog zla:=okF (bs:=[z4q]) ⟨z9b,trivial⟩ func80 ntmps80 call80
 (λ_ _=>tr (z7l.eq_2 ..))
 (λn=>trivial)
def za4:Nat->Int->zz0->Ot (Int×zz0)
 |0,_,_=>none
 |n+1,a,b=>
  pIf (a==11)
   (pIf (b.kind != 2)
     (some (20,(zz0.mk 0 (yz1.mk 0 0) false [] [])))
     ((zzv n (!b.truth)).bind λy0=>
     some (0,y0.re)))
   (pIf (a==15)
     (pIf (b.kind != 1)
       (some (20,(zz0.mk 0 (yz1.mk 0 0) false [] [])))
       ((z6v n b.num).bind λy1=>
       (z58 n y1.1).bind λy2=>
       some (y2.1,y2.2.re)))
     ((z7l n b.re).bind λy3=>
     pIf (y3.2 != 0)
      (some (y3.2,(zz0.mk 0 (yz1.mk 0 0) false [] [])))
      ((z58 n y3.1).bind λy4=>
      some (y4.1,y4.2.re))))
def ygz:LSh:=⟨[(4,(.ptr 0 0)),(5,dI)],[(.st 1)],0,50,[]⟩
noncomputable def zl5:FI dat:=FI.of dat 65 50 0 [dU,dT 1] [] [dT 1,dI] [] true ygz (R:=Int×zz0) (λx=>(x.1,x.2.1)) (λr=>(r.2,r.1,())) (λn=>u2 (za4 n))
 (λn=>[]) (anb [] f65)
theorem yd7:FOk prog zl5:=okF (bs:=[zpr,zoh,zod,zla]) ⟨zus,y3e,zyr,zru,trivial⟩ func65 ntmps65 call65
 (λ_ _=>tr (za4.eq_2 ..))
 (λn=>trivial)
def z3l:Nat->zz0->zz0->Ot Int
 |0,_,_=>none
 |n+1,a,b=>
  (yze n a.re).bind λy0=>
  pIf (y0 != 0)
   ((yze n a.re).bind λy1=>
   some y1)
   ((yze n b.re).bind λy2=>
   some y2)
def yam:LSh:=⟨[(4,dI)],[],0,12,[]⟩
noncomputable def zja:FI dat:=FI.of dat 100 12 0 [dT 1,dT 1] [] [dI] [] true yam (R:=Int) Prod.fst (·,()) (λn=>u2 (z3l n))
 (λn=>[]) (anb [] f100)
theorem zon:FOk prog zja:=okF (bs:=[z4q]) ⟨z9b,trivial⟩ func100 ntmps100 call100
 (λ_ _=>tr (z3l.eq_2 ..))
 (λn=>trivial)
def kzg:Nat->yz1->yz1->Ot Int
 |0,_,_=>none
 |n+1,a,b=>
  (yzl n a).bind λy0=>
  pIf (y0 != 0)
   ((yzl n a).bind λy1=>
   some y1)
   ((yzl n b).bind λy2=>
   some y2)
def yau:LSh:=⟨[(4,dI)],[],0,12,[]⟩
noncomputable def z9r:FI dat:=FI.of dat 104 12 0 [dT 0,dT 0] [] [dI] [] true yau (R:=Int) Prod.fst (·,()) (λn=>u2 (kzg n))
 (λn=>[]) (anb [] f104)
theorem zam:FOk prog z9r:=okF (bs:=[z6d]) ⟨zcl,trivial⟩ func104 ntmps104 call104
 (λ_ _=>tr (kzg.eq_2 ..))
 (λn=>trivial)
mutual
def z18:Nat->Int->Int->Ot (Int×yz1)
 |0,_,_=>none
 |n+1,a,b=>
  pIf (b==0)
   (some (18,(yz1.mk 0 0)))
   (pIf (a==(-9223372036854775808))
     (z54 n b a (b==(-9223372036854775808)) (yz1.mk 0 0))
     (z54 n b a false (yz1.mk 0 0)))
def z54:Nat->Int->Int->Bool->yz1->Ot (Int×yz1)
 |0,_,_,_,_=>none
 |n+1,a,b,c,d=>
  pIf c
   (some (0,(yz1.mk 1 1)))
   (pIf (b==(-9223372036854775808))
     (z2x n a b true d)
     (z2x n a b (a==(-9223372036854775808)) d))
def z2x:Nat->Int->Int->Bool->yz1->Ot (Int×yz1)
 |0,_,_,_,_=>none
 |n+1,a,b,c,d=>
  pIf c
   ((rem .i64 b 2).bind λx0=>
   pIf (x0==0)
    ((rem .i64 a 2).bind λx1=>
    za5 n a b (x1==0) d)
    (za5 n a b false d))
   (pIf (decide (a<0))
     (z2q n (IntKind.i64.wrap (0-a)) (IntKind.i64.wrap (0-b)) d)
     (z2q n a b d))
def za5:Nat->Int->Int->Bool->yz1->Ot (Int×yz1)
 |0,_,_,_,_=>none
 |n+1,a,b,c,d=>
  pIf c
   ((quo .i64 b 2).bind λx2=>
   (quo .i64 a 2).bind λx3=>
   (z18 n x2 x3).bind λy4=>
   some (y4.1,y4.2))
   (some (16,(yz1.mk 0 0)))
def z2q:Nat->Int->Int->yz1->Ot (Int×yz1)
 |0,_,_,_=>none
 |n+1,a,b,c=>
  (z4j n b a).bind λy5=>
  (quo .i64 b y5).bind λx6=>
  (quo .i64 a y5).bind λx7=>
  (yzl n (yz1.mk x6 x7)).bind λy8=>
  pIf (y8 != 0)
   (some (16,(yz1.mk 0 0)))
   (some (0,(yz1.mk x6 x7)))
end
def ya8:LSh:=⟨[(4,(.ptr 0 0)),(5,dI)],[(.st 0)],0,61,[]⟩
noncomputable def z5w:FI dat:=FI.of dat 105 61 0 [dI,dI] [] [dT 0,dI] [] true ya8 (R:=Int×yz1) (λx=>(x.1,x.2.1)) (λr=>(r.2,r.1,())) (λn=>u2 (z18 n))
 (λn=>[(0,⟨⟨[(4,(.ptr 0 0)),(1,dI),(0,dI),(16,dB)],[(.st 0)],0,61,[]⟩,u4 (z54 n)⟩),(1,⟨⟨[(4,(.ptr 0 0)),(1,dI),(0,dI),(23,dB)],[(.st 0)],0,61,[]⟩,u4 (z2x n)⟩),(2,⟨⟨[(4,(.ptr 0 0)),(1,dI),(0,dI),(31,dB)],[(.st 0)],0,61,[]⟩,u4 (za5 n)⟩),(3,⟨⟨[(4,(.ptr 0 0)),(1,dI),(0,dI)],[(.st 0)],0,61,[]⟩,u3 (z2q n)⟩)]) (anb [(13,0),(21,1),(25,2),(40,3)] f105)
noncomputable def ya9:List (FI dat):=[z5w]++[zco,z6d]
theorem ybb:(z5w).Good prog dat (tb ya9):=FI.kzd (hD:=yz4 _) func105 ntmps105 call105 (by kernel_rfl) (Qac (by kernel_rfl)) (by kernel_rfl) (λn=>by kernel_rfl) (λx=>by kernel_rfl) (λ_=>rfl) ⟨λ_=>rfl,λ_=>rfl,λ_=>rfl,λ_=>rfl,trivial⟩
 (λ_ _=>tr (z18.eq_2 ..))
 (λn=>⟨λ_=>tr (z54.eq_2 ..),
  λ_=>tr (z2x.eq_2 ..),
  λx=>tr (za5.eq_2 x.1 x.2.1 x.2.2.1 x.2.2.2.1 n),
  λx=>tr (z2q.eq_2 x.1 x.2.1 x.2.2.1 n),
  trivial⟩)
 (λx=>.inl rfl)
theorem yc9:OkL prog [z5w]:=yzh (yz4 _) (bs:=[zco,z6d]) ⟨zkg,zcl,trivial⟩ ⟨ybb,trivial⟩
theorem zdj:FOk prog z5w:=yc9.1
def z9g:Nat->yz1->yz1->Ot (Int×yz1)
 |0,_,_=>none
 |n+1,a,b=>
  (kzg n a b).bind λy0=>
  pIf (y0 != 0)
   ((kzg n a b).bind λy1=>
   some (y1,(yz1.mk 0 0)))
   ((z18 n (IntKind.i64.wrap ((IntKind.i64.wrap (a.num * b.den))+(IntKind.i64.wrap (b.num * a.den)))) (IntKind.i64.wrap (a.den * b.den))).bind λy2=>
   some (y2.1,y2.2))
def ye4:LSh:=⟨[(4,(.ptr 0 0)),(5,dI)],[(.st 0)],0,33,[]⟩
noncomputable def zv4:FI dat:=FI.of dat 101 33 0 [dT 0,dT 0] [] [dT 0,dI] [] true ye4 (R:=Int×yz1) (λx=>(x.1,x.2.1)) (λr=>(r.2,r.1,())) (λn=>u2 (z9g n))
 (λn=>[]) (anb [] f101)
theorem ydy:FOk prog zv4:=okF (bs:=[z9r,z5w]) ⟨zam,zdj,trivial⟩ func101 ntmps101 call101
 (λ_ _=>tr (z9g.eq_2 ..))
 (λn=>trivial)
def z7q:Nat->B8->Ot zz0
 |0,_=>none
 |n+1,a=>
  some (zz0.mk 3 (yz1.mk 0 0) false a [])
def yhx:LSh:=⟨[(2,(.ptr 0 0))],[(.st 1)],0,5,[]⟩
noncomputable def zmd:FI dat:=FI.of dat 102 5 0 [dS] [] [dT 1] [] true yhx (R:=zz0) Prod.fst (·,()) (λn=>u1 (z7q n))
 (λn=>[]) (anb [] f102)
theorem zrq:FOk prog zmd:=okF (bs:=[]) trivial func102 ntmps102 call102
 (λn=>λ_=>tr (z7q.eq_2 _ n))
 (λn=>trivial)
mutual
def z3d:Nat->zz0->Ot (Int×Int×Int×Bool×B8×kz2)
 |0,_=>none
 |n+1,a=>
  z09 n 0 a.kind a.num.num a.num.den a.truth a.str a.re 0 0 0 false [] [] []
def z09:Nat->Int->Int->Int->Int->Bool->B8->zz0->Int->Int->Int->Bool->B8->kz2->kz2->Ot (Int×Int×Int×Bool×B8×kz2)
 |0,_,_,_,_,_,_,_,_,_,_,_,_,_,_=>none
 |n+1,a,b,c,d,e,f,g,h,i,j,k,l,m,o=>
  pIf (decide (a<(g.list.length:Int)))
   ((ix g.list a).bind λx0=>
   (z3k n x0.re).bind λy1=>
   (ext m [y1.re]).bind λx2=>
   z09 n (IntKind.i64.wrap (a+1)) b c d e f g.re h i j k l x2 o)
   (some (b,c,d,e,f,m))
end
def zwu:LSh:=⟨[(2,(.ptr 0 0))],[(.cells [dU,dI,dI,dB,dS,(.own 1)]),(.acc 26 (.st 1) true)],0,26,[]⟩
noncomputable def zkc:FI dat:=FI.of dat 19 26 0 [dT 1] [] [(.agg [dU,dI,dI,dB,dS,(.own 1)])] [(.cells [dU,dI,dI,dB,dS,(.own 1)]),(.acc 26 (.st 1) true)] false zwu (R:=Int×Int×Int×Bool×B8×kz2) (λx=>(x.1,x.2.1,x.2.2.1,x.2.2.2.1,x.2.2.2.2.1,x.2.2.2.2.2.1)) (λr=>(r.1,r.2.1,r.2.2.1,r.2.2.2.1,r.2.2.2.2.1,r.1,r.2.1,r.2.2.1,r.2.2.2.1,r.2.2.2.2.1,r.2.2.2.2.2,())) (λn=>u1 (z3d n))
 (λn=>[(0,⟨⟨[(4,dI),(3,(.ptr 0 0)),(1,(.ptr 1 0)),(2,(.ptr 2 0))],[(.cells [dU,dI,dI,dB,dS,(.own 3)]),(.st 1),(.cells [dU,dI,dI,dB,dS,(.own 4)]),(.acc 26 (.st 1) true),(.acc 26 (.st 1) true)],0,26,[]⟩,λx=>z09 n x.1 x.2.1 x.2.2.1 x.2.2.2.1 x.2.2.2.2.1 x.2.2.2.2.2.1 x.2.2.2.2.2.2.1 x.2.2.2.2.2.2.2.1 x.2.2.2.2.2.2.2.2.1 x.2.2.2.2.2.2.2.2.2.1 x.2.2.2.2.2.2.2.2.2.2.1 x.2.2.2.2.2.2.2.2.2.2.2.1 x.2.2.2.2.2.2.2.2.2.2.2.2.1 x.2.2.2.2.2.2.2.2.2.2.2.2.2.1⟩)]) (anb [(10,0)] f19)
theorem zss:FOk prog zkc:=okF (bs:=[z5z]) ⟨zh9,trivial⟩ func19 ntmps19 call19
 (λ_ _=>tr (z3d.eq_2 ..))
 (λn=>⟨λ_=>tr (z09.eq_2 ..),
  trivial⟩)
mutual
def z9m:Nat->zz0->zz0->Ot (Int×zz0)
 |0,_,_=>none
 |n+1,a,b=>
  (z3l n a.re b.re).bind λy0=>
  pIf (y0 != 0)
   ((z3l n a.re b.re).bind λy1=>
   some (y1,(zz0.mk 0 (yz1.mk 0 0) false [] [])))
   (pIf (a.kind != b.kind)
     (z3z n true 0 0 0 false [] b.re a.re [])
     (z3z n (a.kind==2) 0 0 0 false [] b.re a.re []))
def z3z:Nat->Bool->Int->Int->Int->Bool->B8->zz0->zz0->kz2->Ot (Int×zz0)
 |0,_,_,_,_,_,_,_,_,_=>none
 |n+1,a,b,c,d,e,f,g,h,i=>
  pIf a
   (some (20,(zz0.mk 0 (yz1.mk 0 0) false [] [])))
   (pIf (h.kind==1)
     ((z9g n h.num g.num).bind λy2=>
     pIf (y2.1 != 0)
      (some (y2.1,(zz0.mk 0 (yz1.mk 0 0) false [] [])))
      ((z7h n y2.2).bind λy3=>
      some (0,y3.re)))
     (pIf (h.kind==3)
       (pIf (decide ((IntKind.i64.wrap ((h.str.length:Int)+(g.str.length:Int)))>60))
         (some (4,(zz0.mk 0 (yz1.mk 0 0) false [] [])))
         ((cat h.str g.str).bind λx4=>
         (z7q n x4).bind λy5=>
         some (0,y5.re)))
       ((z3d n h.re).bind λy6=>
       (z3d n g.re).bind λy7=>
       (ext y6.2.2.2.2.2 y7.2.2.2.2.2).bind λx8=>
       (z1i n (zz0.mk y6.1 (yz1.mk y6.2.1 y6.2.2.1) y6.2.2.2.1 y6.2.2.2.2.1 x8)).bind λy9=>
       pIf (decide (y9>100))
        (some (4,(zz0.mk 0 (yz1.mk 0 0) false [] [])))
        (some (0,(zz0.mk y6.1 (yz1.mk y6.2.1 y6.2.2.1) y6.2.2.2.1 y6.2.2.2.2.1 x8))))))
end
def yeh:LSh:=⟨[(4,(.ptr 0 0)),(5,dI)],[(.st 1)],0,77,[]⟩
noncomputable def zvg:FI dat:=FI.of dat 81 77 0 [dT 1,dT 1] [] [dT 1,dI] [] true yeh (R:=Int×zz0) (λx=>(x.1,x.2.1)) (λr=>(r.2,r.1,())) (λn=>u2 (z9m n))
 (λn=>[(0,⟨⟨[(4,(.ptr 0 0)),(3,(.ptr 1 0)),(2,(.ptr 2 0)),(26,dB)],[(.cells [dU,dI,dI,dB,dS,(.own 3)]),(.st 1),(.st 1),(.acc 26 (.st 1) true)],0,77,[]⟩,u9 (z3z n)⟩)]) (anb [(13,0)] f81)
theorem yda:FOk prog zvg:=okF (bs:=[zkc,zja,zv4,zjx,zmd,z6b]) ⟨zss,zon,ydy,zl9,zrq,zfs,trivial⟩ func81 ntmps81 call81
 (λ_ _=>tr (z9m.eq_2 ..))
 (λn=>⟨λx=>tr (z3z.eq_2 x.1 x.2.1 x.2.2.1 x.2.2.2.1 x.2.2.2.2.1 x.2.2.2.2.2.1 x.2.2.2.2.2.2.1 x.2.2.2.2.2.2.2.1 x.2.2.2.2.2.2.2.2.1 n),
  trivial⟩)
def zac:Nat->yz1->yz1->Ot (Int×Int)
 |0,_,_=>none
 |n+1,a,b=>
  (kzg n a b).bind λy0=>
  pIf (y0 != 0)
   ((kzg n a b).bind λy1=>
   some (0,y1))
   (pIf (decide ((IntKind.i64.wrap (a.num * b.den))<(IntKind.i64.wrap (b.num * a.den))))
     (some ((-1),0))
     (pIf (decide ((IntKind.i64.wrap (a.num * b.den))>(IntKind.i64.wrap (b.num * a.den))))
       (some (1,0))
       (some (0,0))))
def yha:LSh:=⟨[(4,dI),(5,dI)],[],0,35,[]⟩
noncomputable def zl1:FI dat:=FI.of dat 114 35 0 [dT 0,dT 0] [] [dI,dI] [] true yha (R:=Int×Int) (λx=>(x.1,x.2.1)) (λr=>(r.1,r.2,())) (λn=>u2 (zac n))
 (λn=>[]) (anb [] f114)
theorem ycr:FOk prog zl1:=okF (bs:=[z9r]) ⟨zam,trivial⟩ func114 ntmps114 call114
 (λ_ _=>tr (zac.eq_2 ..))
 (λn=>trivial)
mutual
def z13:Nat->zz0->zz0->Ot (Int×Int)
 |0,_,_=>none
 |n+1,a,b=>
  pIf (a.kind != b.kind)
   (some (0,20))
   (pIf (a.kind==1)
     ((zac n a.num b.num).bind λy0=>
     some (y0.1,0))
     (pIf (a.kind==2)
       (pIf (a.truth==b.truth)
         (some (0,0))
         (pIf b.truth
           (some ((-1),0))
           (some (1,0))))
       (pIf (a.kind==3)
         (pIf (a.str==b.str)
           (some (0,0))
           (pIf (Op.bytesLess a.str b.str)
             (some ((-1),0))
             (some (1,0))))
         (kzp n 0 b.re a.re))))
def kzp:Nat->Int->zz0->zz0->Ot (Int×Int)
 |0,_,_,_=>none
 |n+1,a,b,c=>
  pIf (decide (a<(c.list.length:Int)))
   (z04 n a (decide (a<(b.list.length:Int))) b.re c.re)
   (z04 n a false b.re c.re)
def z04:Nat->Int->Bool->zz0->zz0->Ot (Int×Int)
 |0,_,_,_,_=>none
 |n+1,a,b,c,d=>
  pIf b
   ((ix d.list a).bind λx1=>
   (ix c.list a).bind λx2=>
   (kzo n x1.re x2.re).bind λy3=>
   pIf (!y3)
    ((ix d.list a).bind λx4=>
    (ix c.list a).bind λx5=>
    (z13 n x4.re x5.re).bind λy6=>
    some (y6.1,y6.2))
    (kzp n (IntKind.i64.wrap (a+1)) c.re d.re))
   (pIf (decide ((d.list.length:Int)<(c.list.length:Int)))
     (some ((-1),0))
     (pIf (decide ((d.list.length:Int)>(c.list.length:Int)))
       (some (1,0))
       (some (0,0))))
end
def zwt:LSh:=⟨[(4,dI),(5,dI)],[],0,108,[]⟩
noncomputable def z7w:FI dat:=FI.of dat 103 108 0 [dT 1,dT 1] [] [dI,dI] [] true zwt (R:=Int×Int) (λx=>(x.1,x.2.1)) (λr=>(r.1,r.2,())) (λn=>u2 (z13 n))
 (λn=>[(0,⟨⟨[(8,dI),(3,(.ptr 0 0)),(2,(.ptr 1 0))],[(.st 1),(.st 1)],0,108,[]⟩,u3 (kzp n)⟩),(1,⟨⟨[(8,dI),(3,(.ptr 0 0)),(2,(.ptr 1 0)),(61,dB)],[(.st 1),(.st 1)],0,108,[]⟩,u4 (z04 n)⟩)]) (anb [(71,0),(75,1)] f103)
noncomputable def zwj:List (FI dat):=[z7w]++[zl1,z1y]
theorem zwv:(z7w).Good prog dat (tb zwj):=FI.kzd (hD:=yz4 _) func103 ntmps103 call103 (by kernel_rfl) (Qac (by kernel_rfl)) (by kernel_rfl) (λn=>by kernel_rfl) (λx=>by kernel_rfl) (λ_=>rfl) ⟨λ_=>rfl,λ_=>rfl,trivial⟩
 (λ_ _=>tr (z13.eq_2 ..))
 (λn=>⟨λ_=>tr (kzp.eq_2 ..),
  λ_=>tr (z04.eq_2 ..),
  trivial⟩)
 (λx=>.inl rfl)
theorem zwk:OkL prog [z7w]:=yzh (yz4 _) (bs:=[zl1,z1y]) ⟨ycr,zda,trivial⟩ ⟨zwv,trivial⟩
theorem ztl:FOk prog z7w:=zwk.1
def z4z:Nat->zz0->zz0->Ot (Int×Int)
 |0,_,_=>none
 |n+1,a,b=>
  (z3l n a.re b.re).bind λy0=>
  pIf (y0 != 0)
   ((z3l n a.re b.re).bind λy1=>
   some (0,y1))
   ((z13 n a.re b.re).bind λy2=>
   some (y2.1,y2.2))
def zwo:LSh:=⟨[(4,dI),(5,dI)],[],0,23,[]⟩
noncomputable def zk9:FI dat:=FI.of dat 82 23 0 [dT 1,dT 1] [] [dI,dI] [] true zwo (R:=Int×Int) (λx=>(x.1,x.2.1)) (λr=>(r.1,r.2,())) (λn=>u2 (z4z n))
 (λn=>[]) (anb [] f82)
theorem zsz:FOk prog zk9:=okF (bs:=[zja,z7w]) ⟨zon,ztl,trivial⟩ func82 ntmps82 call82
 (λ_ _=>tr (z4z.eq_2 ..))
 (λn=>trivial)
def z9z:Nat->yz1->yz1->Ot (Int×yz1)
 |0,_,_=>none
 |n+1,a,b=>
  (kzg n a b).bind λy0=>
  pIf (y0 != 0)
   ((kzg n a b).bind λy1=>
   some (y1,(yz1.mk 0 0)))
   ((z18 n (IntKind.i64.wrap ((IntKind.i64.wrap (a.num * b.den))-(IntKind.i64.wrap (b.num * a.den)))) (IntKind.i64.wrap (a.den * b.den))).bind λy2=>
   some (y2.1,y2.2))
def yh3:LSh:=⟨[(4,(.ptr 0 0)),(5,dI)],[(.st 0)],0,33,[]⟩
noncomputable def zvd:FI dat:=FI.of dat 84 33 0 [dT 0,dT 0] [] [dT 0,dI] [] true yh3 (R:=Int×yz1) (λx=>(x.1,x.2.1)) (λr=>(r.2,r.1,())) (λn=>u2 (z9z n))
 (λn=>[]) (anb [] f84)
theorem y9d:FOk prog zvd:=okF (bs:=[z9r,z5w]) ⟨zam,zdj,trivial⟩ func84 ntmps84 call84
 (λ_ _=>tr (z9z.eq_2 ..))
 (λn=>trivial)
def z9l:Nat->yz1->yz1->Ot (Int×yz1)
 |0,_,_=>none
 |n+1,a,b=>
  (kzg n a b).bind λy0=>
  pIf (y0 != 0)
   ((kzg n a b).bind λy1=>
   some (y1,(yz1.mk 0 0)))
   ((z18 n (IntKind.i64.wrap (a.num * b.num)) (IntKind.i64.wrap (a.den * b.den))).bind λy2=>
   some (y2.1,y2.2))
def ygu:LSh:=⟨[(4,(.ptr 0 0)),(5,dI)],[(.st 0)],0,27,[]⟩
noncomputable def zuh:FI dat:=FI.of dat 85 27 0 [dT 0,dT 0] [] [dT 0,dI] [] true ygu (R:=Int×yz1) (λx=>(x.1,x.2.1)) (λr=>(r.2,r.1,())) (λn=>u2 (z9l n))
 (λn=>[]) (anb [] f85)
theorem ydp:FOk prog zuh:=okF (bs:=[z9r,z5w]) ⟨zam,zdj,trivial⟩ func85 ntmps85 call85
 (λ_ _=>tr (z9l.eq_2 ..))
 (λn=>trivial)
def z9e:Nat->yz1->yz1->Ot (Int×yz1)
 |0,_,_=>none
 |n+1,a,b=>
  (kzg n a b).bind λy0=>
  pIf (y0 != 0)
   ((kzg n a b).bind λy1=>
   some (y1,(yz1.mk 0 0)))
   ((z18 n (IntKind.i64.wrap (a.num * b.den)) (IntKind.i64.wrap (a.den * b.num))).bind λy2=>
   some (y2.1,y2.2))
def yg8:LSh:=⟨[(4,(.ptr 0 0)),(5,dI)],[(.st 0)],0,27,[]⟩
noncomputable def zve:FI dat:=FI.of dat 86 27 0 [dT 0,dT 0] [] [dT 0,dI] [] true yg8 (R:=Int×yz1) (λx=>(x.1,x.2.1)) (λr=>(r.2,r.1,())) (λn=>u2 (z9e n))
 (λn=>[]) (anb [] f86)
theorem ybn:FOk prog zve:=okF (bs:=[z9r,z5w]) ⟨zam,zdj,trivial⟩ func86 ntmps86 call86
 (λ_ _=>tr (z9e.eq_2 ..))
 (λn=>trivial)
mutual
def zbc:Nat->zz0->Int->Ot (Int×zz0)
 |0,_,_=>none
 |n+1,a,b=>
  (z7l n a.re).bind λy0=>
  pIf (y0.2 != 0)
   (some (y0.2,(zz0.mk 0 (yz1.mk 0 0) false [] [])))
   (pIf (decide (b<0))
     (z56 n b true (zz0.mk 0 (yz1.mk 0 0) false [] []) a.re)
     (z56 n b (decide (b>=y0.1)) (zz0.mk 0 (yz1.mk 0 0) false [] []) a.re))
def z56:Nat->Int->Bool->zz0->zz0->Ot (Int×zz0)
 |0,_,_,_,_=>none
 |n+1,a,b,c,d=>
  pIf b
   (some (2,(zz0.mk 0 (yz1.mk 0 0) false [] [])))
   (pIf (d.kind==3)
     ((sub d.str a (IntKind.i64.wrap (a+1))).bind λx1=>
     (z7q n x1).bind λy2=>
     some (0,y2.re))
     ((ix d.list a).bind λx3=>
     (z3k n x3.re).bind λy4=>
     some (0,y4.re)))
end
def yjl:LSh:=⟨[(4,(.ptr 0 0)),(5,dI)],[(.st 1)],0,41,[]⟩
noncomputable def y0p:FI dat:=FI.of dat 83 41 0 [dT 1,dI] [] [dT 1,dI] [] true yjl (R:=Int×zz0) (λx=>(x.1,x.2.1)) (λr=>(r.2,r.1,())) (λn=>u2 (zbc n))
 (λn=>[(0,⟨⟨[(4,(.ptr 0 0)),(1,dI),(2,(.ptr 1 0)),(23,dB)],[(.st 1),(.st 1)],0,41,[]⟩,u4 (z56 n)⟩)]) (anb [(15,0)] f83)
theorem ygm:FOk prog y0p:=okF (bs:=[zla,zmd,z5z]) ⟨zru,zrq,zh9,trivial⟩ func83 ntmps83 call83
 (λ_ _=>tr (zbc.eq_2 ..))
 (λn=>⟨λx=>tr (z56.eq_2 x.1 x.2.1 x.2.2.1 x.2.2.2.1 n),
  trivial⟩)
def z5r:Nat->yz1->Int->Ot (Int×zz0)
 |0,_,_=>none
 |n+1,a,b=>
  pIf (b != 0)
   (some (b,(zz0.mk 0 (yz1.mk 0 0) false [] [])))
   ((z7h n a).bind λy0=>
   some (0,y0.re))
def y1c:LSh:=⟨[(4,(.ptr 0 0)),(5,dI)],[(.st 1)],0,12,[]⟩
noncomputable def zma:FI dat:=FI.of dat 87 12 0 [dT 0,dI] [] [dT 1,dI] [] true y1c (R:=Int×zz0) (λx=>(x.1,x.2.1)) (λr=>(r.2,r.1,())) (λn=>u2 (z5r n))
 (λn=>[]) (anb [] f87)
theorem zwb:FOk prog zma:=okF (bs:=[zjx]) ⟨zl9,trivial⟩ func87 ntmps87 call87
 (λ_ _=>tr (z5r.eq_2 ..))
 (λn=>trivial)
mutual
def za8:Nat->Int->zz0->zz0->Ot (Int×zz0)
 |0,_,_,_=>none
 |n+1,a,b,c=>
  pIf (b.kind==1)
   (z4e n a (c.kind==1) (zz0.mk 0 (yz1.mk 0 0) false [] []) c.re b.re)
   (z4e n a false (zz0.mk 0 (yz1.mk 0 0) false [] []) c.re b.re)
def z4e:Nat->Int->Bool->zz0->zz0->zz0->Ot (Int×zz0)
 |0,_,_,_,_,_=>none
 |n+1,a,b,c,d,e=>
  pIf (e.kind==2)
   (z44 n a (d.kind==2) b c.re d.re e.re)
   (z44 n a false b c.re d.re e.re)
def z44:Nat->Int->Bool->Bool->zz0->zz0->zz0->Ot (Int×zz0)
 |0,_,_,_,_,_,_=>none
 |n+1,a,b,c,d,e,f=>
  pIf (a==3)
   ((z9m n f.re e.re).bind λy0=>
   some (y0.1,y0.2.re))
   (pIf (a==8)
     ((kzo n f.re e.re).bind λy1=>
     (zzv n y1).bind λy2=>
     some (0,y2.re))
     (pIf (a==7)
       (z26 n a b c a true d.re e.re f.re)
       (pIf (a==13)
         (z26 n a b c a true d.re e.re f.re)
         (z26 n a b c a (a==14) d.re e.re f.re))))
def z26:Nat->Int->Bool->Bool->Int->Bool->zz0->zz0->zz0->Ot (Int×zz0)
 |0,_,_,_,_,_,_,_,_=>none
 |n+1,a,b,c,d,e,f,g,h=>
  pIf e
   ((z4z n h.re g.re).bind λy3=>
   pIf (y3.2 != 0)
    (some (y3.2,(zz0.mk 0 (yz1.mk 0 0) false [] [])))
    (pIf (a==7)
      ((zzv n (decide (y3.1<0))).bind λy4=>
      some (0,y4.re))
      (pIf (a==13)
        (pIf (decide (y3.1>0))
          (zzx n true f.re g.re h.re)
          (pIf (a==14)
            (zzx n (decide (y3.1<0)) f.re g.re h.re)
            (zzx n false f.re g.re h.re)))
        (pIf (a==14)
          (zzx n (decide (y3.1<0)) f.re g.re h.re)
          (zzx n false f.re g.re h.re)))))
   (pIf (d==9)
     (z5o n a b c d true f.re g.re h.re)
     (z5o n a b c d (d==10) f.re g.re h.re))
def zzx:Nat->Bool->zz0->zz0->zz0->Ot (Int×zz0)
 |0,_,_,_,_=>none
 |n+1,a,b,c,d=>
  pIf a
   (some (0,c.re))
   (some (0,d.re))
def z5o:Nat->Int->Bool->Bool->Int->Bool->zz0->zz0->zz0->Ot (Int×zz0)
 |0,_,_,_,_,_,_,_,_=>none
 |n+1,a,b,c,d,e,f,g,h=>
  pIf e
   (pIf (!b)
     (some (20,(zz0.mk 0 (yz1.mk 0 0) false [] [])))
     (pIf h.truth
       (pIf g.truth
         ((zzv n true).bind λy5=>
         some (0,y5.re))
         (pIf (a==10)
           (pIf h.truth
             ((zzv n true).bind λy6=>
             some (0,y6.re))
             ((zzv n g.truth).bind λy7=>
             some (0,y7.re)))
           ((zzv n false).bind λy8=>
           some (0,y8.re))))
       (pIf (a==10)
         (pIf h.truth
           ((zzv n true).bind λy9=>
           some (0,y9.re))
           ((zzv n g.truth).bind λy10=>
           some (0,y10.re)))
         ((zzv n false).bind λy11=>
         some (0,y11.re)))))
   (pIf (d==17)
     (pIf (g.kind != 1)
       (z0l n true f.re g.re h.re)
       (pIf (h.kind != 4)
         (z0l n (h.kind != 3) f.re g.re h.re)
         (z0l n false f.re g.re h.re)))
     (pIf (!c)
       (some (20,(zz0.mk 0 (yz1.mk 0 0) false [] [])))
       (pIf (a==4)
         ((z9z n h.num g.num).bind λy12=>
         z0m n y12.1 f.re y12.2)
         (pIf (a==5)
           ((z9l n h.num g.num).bind λy13=>
           z0m n y13.1 f.re y13.2)
           (pIf (a==6)
             ((z9e n h.num g.num).bind λy14=>
             z0m n y14.1 f.re y14.2)
             (z0m n 0 f.re (yz1.mk 0 0)))))))
def z0l:Nat->Bool->zz0->zz0->zz0->Ot (Int×zz0)
 |0,_,_,_,_=>none
 |n+1,a,b,c,d=>
  pIf a
   (some (20,(zz0.mk 0 (yz1.mk 0 0) false [] [])))
   (pIf (c.num.den != 1)
     (some (2,(zz0.mk 0 (yz1.mk 0 0) false [] [])))
     ((zbc n d.re c.num.num).bind λy15=>
     some (y15.1,y15.2.re)))
def z0m:Nat->Int->zz0->yz1->Ot (Int×zz0)
 |0,_,_,_=>none
 |n+1,a,b,c=>
  (z5r n c a).bind λy16=>
  some (y16.1,y16.2.re)
end
def yhe:LSh:=⟨[(6,(.ptr 0 0)),(7,dI)],[(.st 1)],0,184,[]⟩
noncomputable def zkv:FI dat:=FI.of dat 66 184 0 [dU,dT 1,dT 1] [] [dT 1,dI] [] true yhe (R:=Int×zz0) (λx=>(x.1,x.2.1)) (λr=>(r.2,r.1,())) (λn=>u3 (za8 n))
 (λn=>[(0,⟨⟨[(6,(.ptr 0 0)),(5,(.ptr 1 0)),(4,(.ptr 2 0)),(0,dU),(8,dB)],[(.st 1),(.st 1),(.st 1)],0,184,[]⟩,u5 (z4e n)⟩),(1,⟨⟨[(6,(.ptr 0 0)),(5,(.ptr 1 0)),(4,(.ptr 2 0)),(0,dU),(9,dB),(8,dB)],[(.st 1),(.st 1),(.st 1)],0,184,[]⟩,u6 (z44 n)⟩),(2,⟨⟨[(6,(.ptr 0 0)),(5,(.ptr 1 0)),(4,(.ptr 2 0)),(0,dU),(9,dB),(8,dB),(34,dU),(51,dB)],[(.st 1),(.st 1),(.st 1)],0,184,[]⟩,u8 (z26 n)⟩),(3,⟨⟨[(6,(.ptr 0 0)),(5,(.ptr 1 0)),(4,(.ptr 2 0)),(72,dB)],[(.st 1),(.st 1),(.st 1)],0,184,[]⟩,u4 (zzx n)⟩),(4,⟨⟨[(6,(.ptr 0 0)),(5,(.ptr 1 0)),(4,(.ptr 2 0)),(0,dU),(9,dB),(8,dB),(34,dU),(89,dB)],[(.st 1),(.st 1),(.st 1)],0,184,[]⟩,u8 (z5o n)⟩),(5,⟨⟨[(6,(.ptr 0 0)),(5,(.ptr 1 0)),(4,(.ptr 2 0)),(128,dB)],[(.st 1),(.st 1),(.st 1)],0,184,[]⟩,u4 (z0l n)⟩),(6,⟨⟨[(6,(.ptr 0 0)),(17,dI),(16,(.ptr 1 0))],[(.st 1),(.st 0)],0,184,[]⟩,u3 (z0m n)⟩)]) (anb [(4,0),(6,1),(34,2),(53,3),(67,4),(85,5),(133,6)] f66)
theorem yd3:FOk prog zkv:=okF (bs:=[zvg,z1y,zpr,zk9,zvd,zuh,zve,y0p,zma]) ⟨yda,zda,zus,zsz,y9d,ydp,ybn,ygm,zwb,trivial⟩ func66 ntmps66 call66
 (λ_ _=>tr (za8.eq_2 ..))
 (λn=>⟨λ_=>tr (z4e.eq_2 ..),
  λ_=>tr (z44.eq_2 ..),
  λ_=>tr (z26.eq_2 ..),
  λx=>tr (zzx.eq_2 x.1 x.2.1 x.2.2.1 x.2.2.2.1 n),
  λ_=>tr (z5o.eq_2 ..),
  λx=>tr (z0l.eq_2 x.1 x.2.1 x.2.2.1 x.2.2.2.1 n),
  λx=>tr (z0m.eq_2 x.1 x.2.1 x.2.2.1 n),
  trivial⟩)
mutual
def kzt:Nat->zz1->yzb->Ot (Int×zz0)
 |0,_,_=>none
 |n+1,a,b=>
  pIf (a.op==1)
   (some (0,a.value.re))
   (pIf (a.op==2)
     ((z6x n b a.name).bind λy0=>
     some (y0.1,y0.2.re))
     (pIf (a.op==12)
       ((ix a.args 0).bind λx1=>
       (kzt n x1.re b).bind λy2=>
       pIf (y2.1 != 0)
        (some (y2.1,(zz0.mk 0 (yz1.mk 0 0) false [] [])))
        (pIf (y2.2.kind != 2)
          (some (20,(zz0.mk 0 (yz1.mk 0 0) false [] [])))
          (pIf y2.2.truth
            ((ix a.args 1).bind λx3=>
            (kzt n x3.re b).bind λy4=>
            some (y4.1,y4.2.re))
            ((ix a.args 2).bind λx5=>
            (kzt n x5.re b).bind λy6=>
            some (y6.1,y6.2.re)))))
       (z1n n 0 b 0 0 0 false [] [] a.re [])))
def z1n:Nat->Int->yzb->Int->Int->Int->Bool->B8->kz2->zz1->kz2->Ot (Int×zz0)
 |0,_,_,_,_,_,_,_,_,_,_=>none
 |n+1,a,b,c,d,e,f,g,h,i,j=>
  pIf (decide (a<(i.args.length:Int)))
   ((ix i.args a).bind λx7=>
   (kzt n x7.re b).bind λy8=>
   pIf (y8.1 != 0)
    (some (y8.1,(zz0.mk 0 (yz1.mk 0 0) false [] [])))
    ((ext h [y8.2.re]).bind λx9=>
    z1n n (IntKind.i64.wrap (a+1)) b c d e f g x9 i.re j))
   (pIf (i.op==18)
     ((yze n (zz0.mk 4 (yz1.mk 0 0) false [] h)).bind λy10=>
     pIf (y10 != 0)
      ((yze n (zz0.mk 4 (yz1.mk 0 0) false [] h)).bind λy11=>
      some (y11,(zz0.mk 0 (yz1.mk 0 0) false [] [])))
      (some (0,(zz0.mk 4 (yz1.mk 0 0) false [] h))))
     (pIf ((h.length:Int)==1)
       ((ix h 0).bind λx12=>
       (za4 n i.op x12.re).bind λy13=>
       some (y13.1,y13.2.re))
       ((ix h 0).bind λx14=>
       (ix h 1).bind λx15=>
       (za8 n i.op x14.re x15.re).bind λy16=>
       some (y16.1,y16.2.re))))
end
def y3q:LSh:=⟨[(4,(.ptr 0 0)),(5,dI)],[(.st 1)],0,150,[]⟩
noncomputable def z86:FI dat:=FI.of dat 51 150 0 [dT 2,dL 3] [] [dT 1,dI] [] true y3q (R:=Int×zz0) (λx=>(x.1,x.2.1)) (λr=>(r.2,r.1,())) (λn=>u2 (kzt n))
 (λn=>[(0,⟨⟨[(4,(.ptr 0 0)),(15,dI),(14,(.own 1)),(1,dL 3),(2,(.ptr 2 0))],[(.cells [dU,dI,dI,dB,dS,(.own 3)]),(.acc 26 (.st 1) true),(.st 2),(.acc 26 (.st 1) true)],0,150,[]⟩,u10 (z1n n)⟩)]) (anb [(63,0)] f51)
noncomputable def y4y:List (FI dat):=[z86]++[zgx,z4q,zl5,zkv]
theorem y4h:(z86).Good prog dat (tb y4y):=FI.kzd (hD:=yz4 _) func51 ntmps51 call51 (by kernel_rfl) (Qac (by kernel_rfl)) (by kernel_rfl) (λn=>by kernel_rfl) (λx=>by kernel_rfl) (λ_=>rfl) ⟨λ_=>rfl,trivial⟩
 (λ_ _=>tr (kzt.eq_2 ..))
 (λn=>⟨λ_=>tr (z1n.eq_2 ..),
  trivial⟩)
 (λx=>.inl rfl)
theorem y6v:OkL prog [z86]:=yzh (yz4 _) (bs:=[zgx,z4q,zl5,zkv]) ⟨y05,z9b,yd7,yd3,trivial⟩ ⟨y4h,trivial⟩
theorem y1s:FOk prog z86:=y6v.1
mutual
def z42:Nat->zz1->Ot zz1
 |0,_=>none
 |n+1,a=>
  z0p n 0 a.op a.value.kind a.value.num.num a.value.num.den a.value.truth a.value.str a.value.list a.name a.re 0 0 0 0 false [] [] [] [] []
def z0p:Nat->Int->Int->Int->Int->Int->Bool->B8->kz2->B8->zz1->Int->Int->Int->Int->Bool->B8->kz2->B8->yz3->yz3->Ot zz1
 |0,_,_,_,_,_,_,_,_,_,_,_,_,_,_,_,_,_,_,_,_=>none
 |n+1,a,b,c,d,e,f,g,h,i,j,k,l,m,o,p,q,r,s,t,u=>
  pIf (decide (a<(j.args.length:Int)))
   ((ix j.args a).bind λx0=>
   (z42 n x0.re).bind λy1=>
   (ext t [y1.re]).bind λx2=>
   z0p n (IntKind.i64.wrap (a+1)) b c d e f g h i j.re k l m o p q r s x2 u)
   (pIf (b==12)
     ((ix t 0).bind λx3=>
     pIf (x3.op==1)
      ((ix t 0).bind λx4=>
      kzv n (x4.value.kind==2) k l m o p q r s b c d e f g h i u t)
      (kzv n false k l m o p q r s b c d e f g h i u t))
     (kzv n false k l m o p q r s b c d e f g h i u t))
def kzv:Nat->Bool->Int->Int->Int->Int->Bool->B8->kz2->B8->Int->Int->Int->Int->Bool->B8->kz2->B8->yz3->yz3->Ot zz1
 |0,_,_,_,_,_,_,_,_,_,_,_,_,_,_,_,_,_,_,_=>none
 |n+1,a,b,c,d,e,f,g,h,i,j,k,l,m,o,p,q,r,s,t=>
  pIf a
   ((ix t 0).bind λx5=>
   pIf x5.value.truth
    ((ix t 1).bind λx6=>
    some x6.re)
    ((ix t 2).bind λx7=>
    some x7.re))
   ((z6g n (zz1.mk j (zz0.mk k (yz1.mk l m) o p q) r t) []).bind λy8=>
   pIf ((y8.length:Int)==0)
    ((kzt n (zz1.mk j (zz0.mk k (yz1.mk l m) o p q) r t) []).bind λy9=>
    pIf (y9.1==0)
     ((z67 n y9.2.re).bind λy10=>
     some y10.re)
     (z0n n b c d e f g h i (zz1.mk j (zz0.mk k (yz1.mk l m) o p q) r t) s))
    (z0n n b c d e f g h i (zz1.mk j (zz0.mk k (yz1.mk l m) o p q) r t) s))
def z0n:Nat->Int->Int->Int->Int->Bool->B8->kz2->B8->zz1->yz3->Ot zz1
 |0,_,_,_,_,_,_,_,_,_,_=>none
 |n+1,a,b,c,d,e,f,g,h,i,j=>
  some i.re
end
def y3a:LSh:=⟨[(2,(.ptr 0 0))],[(.st 2)],0,75,[]⟩
noncomputable def z8w:FI dat:=FI.of dat 31 75 0 [dT 2] [] [dT 2] [] true y3a (R:=zz1) Prod.fst (·,()) (λn=>u1 (z42 n))
 (λn=>[(0,⟨⟨[(4,dI),(3,(.ptr 0 0)),(1,(.ptr 1 0)),(2,(.ptr 2 0))],[(.cells [dU,dU,dI,dI,dB,dS,dL 1,dS,(.own 3)]),(.st 2),(.cells [dU,dU,dI,dI,dB,dS,dL 1,dS,(.own 4)]),(.acc 29 (.st 2) true),(.acc 29 (.st 2) true)],0,75,[]⟩,λx=>z0p n x.1 x.2.1 x.2.2.1 x.2.2.2.1 x.2.2.2.2.1 x.2.2.2.2.2.1 x.2.2.2.2.2.2.1 x.2.2.2.2.2.2.2.1 x.2.2.2.2.2.2.2.2.1 x.2.2.2.2.2.2.2.2.2.1 x.2.2.2.2.2.2.2.2.2.2.1 x.2.2.2.2.2.2.2.2.2.2.2.1 x.2.2.2.2.2.2.2.2.2.2.2.2.1 x.2.2.2.2.2.2.2.2.2.2.2.2.2.1 x.2.2.2.2.2.2.2.2.2.2.2.2.2.2.1 x.2.2.2.2.2.2.2.2.2.2.2.2.2.2.2.1 x.2.2.2.2.2.2.2.2.2.2.2.2.2.2.2.2.1 x.2.2.2.2.2.2.2.2.2.2.2.2.2.2.2.2.2.1 x.2.2.2.2.2.2.2.2.2.2.2.2.2.2.2.2.2.2.1 x.2.2.2.2.2.2.2.2.2.2.2.2.2.2.2.2.2.2.2.1⟩),(1,⟨⟨[(2,(.ptr 0 0)),(3,(.ptr 1 0)),(46,dB)],[(.cells [dU,dU,dI,dI,dB,dS,dL 1,dS,(.own 2)]),(.cells [dU,dU,dI,dI,dB,dS,dL 1,dS,(.own 3)]),(.acc 29 (.st 2) true),(.acc 29 (.st 2) true)],0,75,[]⟩,λx=>kzv n x.1 x.2.1 x.2.2.1 x.2.2.2.1 x.2.2.2.2.1 x.2.2.2.2.2.1 x.2.2.2.2.2.2.1 x.2.2.2.2.2.2.2.1 x.2.2.2.2.2.2.2.2.1 x.2.2.2.2.2.2.2.2.2.1 x.2.2.2.2.2.2.2.2.2.2.1 x.2.2.2.2.2.2.2.2.2.2.2.1 x.2.2.2.2.2.2.2.2.2.2.2.2.1 x.2.2.2.2.2.2.2.2.2.2.2.2.2.1 x.2.2.2.2.2.2.2.2.2.2.2.2.2.2.1 x.2.2.2.2.2.2.2.2.2.2.2.2.2.2.2.1 x.2.2.2.2.2.2.2.2.2.2.2.2.2.2.2.2.1 x.2.2.2.2.2.2.2.2.2.2.2.2.2.2.2.2.2.1 x.2.2.2.2.2.2.2.2.2.2.2.2.2.2.2.2.2.2.1⟩),(2,⟨⟨[(2,(.ptr 0 0)),(3,(.ptr 1 0))],[(.cells [dU,dU,dI,dI,dB,dS,dL 1,dS,(.own 2)]),(.st 2),(.acc 29 (.st 2) true)],0,75,[]⟩,u10 (z0n n)⟩)]) (anb [(10,0),(24,1),(51,2)] f31)
noncomputable def y1q:List (FI dat):=[z8w]++[z9x,z86,z7i]
theorem y1m:(z8w).Good prog dat (tb y1q):=FI.kzd (hD:=yz4 _) func31 ntmps31 call31 (by kernel_rfl) (Qac (by kernel_rfl)) (by kernel_rfl) (λn=>by kernel_rfl) (λx=>by kernel_rfl) (λ_=>rfl) ⟨λ_=>rfl,λ_=>rfl,λ_=>rfl,trivial⟩
 (λ_ _=>tr (z42.eq_2 ..))
 (λn=>⟨λ_=>tr (z0p.eq_2 ..),
  λ_=>tr (kzv.eq_2 ..),
  λx=>tr (z0n.eq_2 x.1 x.2.1 x.2.2.1 x.2.2.2.1 x.2.2.2.2.1 x.2.2.2.2.2.1 x.2.2.2.2.2.2.1 x.2.2.2.2.2.2.2.1 x.2.2.2.2.2.2.2.2.1 x.2.2.2.2.2.2.2.2.2.1 n),
  trivial⟩)
 (λx=>.inl rfl)
theorem y3c:OkL prog [z8w]:=yzh (yz4 _) (bs:=[z9x,z86,z7i]) ⟨y65,y1s,zqt,trivial⟩ ⟨y1m,trivial⟩
theorem zwn:FOk prog z8w:=y3c.1
def z83:Nat->zz1->Ot (Int×zz1)
 |0,_=>none
 |n+1,a=>
  (zzu n a.re).bind λy0=>
  pIf (y0 != 0)
   ((zzu n a.re).bind λy1=>
   some (y1,(zz1.mk 0 (zz0.mk 0 (yz1.mk 0 0) false [] []) [] [])))
   ((z42 n a.re).bind λy2=>
   some (0,y2.re))
def ybr:LSh:=⟨[(2,(.ptr 0 0)),(3,dI)],[(.st 2)],0,12,[]⟩
noncomputable def zsa:FI dat:=FI.of dat 10 12 0 [dT 2] [] [dT 2,dI] [] true ybr (R:=Int×zz1) (λx=>(x.1,x.2.1)) (λr=>(r.2,r.1,())) (λn=>u1 (z83 n))
 (λn=>[]) (anb [] f10)
theorem y46:FOk prog zsa:=okF (bs:=[zh8,z8w]) ⟨zlr,zwn,trivial⟩ func10 ntmps10 call10
 (λ_ _=>tr (z83.eq_2 ..))
 (λn=>trivial)
def z3w:Nat->Int->Int->Int->Int->Bool->B8->kz2->B8->yz3->Ot (Int×Int×Int×Int×Bool×B8×kz2×B8×yz3)
 |0,_,_,_,_,_,_,_,_,_=>none
 |n+1,a,b,c,d,e,f,g,h,i=>
  (z4n n (zz0.mk b (yz1.mk c d) e f g)).bind λy0=>
  some (a,y0.kind,y0.num.num,y0.num.den,y0.truth,y0.str,y0.list,h,i)
def ztn:LSh:=⟨[(2,(.ptr 0 0))],[(.cells [dU,dU,dI,dI,dB,dS,dL 1,dS,(.own 1)]),(.deep 29 2)],0,8,[]⟩
noncomputable def zcv:FI dat:=FI.of dat 32 8 0 [(.agg [dU,dU,dI,dI,dB,dS,dL 1,dS,(.own 0)])] [(.deep 29 2)] [(.agg [dU,dU,dI,dI,dB,dS,dL 1,dS,(.own 1)])] [(.cells [dU,dU,dI,dI,dB,dS,dL 1,dS,(.own 1)]),(.deep 29 2)] false ztn (R:=Int×Int×Int×Int×Bool×B8×kz2×B8×yz3) (λx=>(x.1,x.2.1,x.2.2.1,x.2.2.2.1,x.2.2.2.2.1,x.2.2.2.2.2.1,x.2.2.2.2.2.2.1,x.2.2.2.2.2.2.2.1,x.2.2.2.2.2.2.2.2.1)) (λr=>(r.1,r.2.1,r.2.2.1,r.2.2.2.1,r.2.2.2.2.1,r.2.2.2.2.2.1,r.2.2.2.2.2.2.1,r.2.2.2.2.2.2.2.1,r.1,r.2.1,r.2.2.1,r.2.2.2.1,r.2.2.2.2.1,r.2.2.2.2.2.1,r.2.2.2.2.2.2.1,r.2.2.2.2.2.2.2.1,r.2.2.2.2.2.2.2.2,())) (λn=>u9 (z3w n))
 (λn=>[]) (anb [] f32)
theorem zra:FOk prog zcv:=okF (bs:=[zbw]) ⟨zha,trivial⟩ func32 ntmps32 call32
 (λ_ _=>tr (z3w.eq_2 ..))
 (λn=>trivial)
mutual
def z1j:Nat->zz1->Ot (Int×Int×Int×Int×Bool×B8×kz2×B8×yz3)
 |0,_=>none
 |n+1,a=>
  yzw n 0 a.args (a.args.length:Int) a.op a.value.kind a.value.num.num a.value.num.den a.value.truth a.value.str a.value.list a.name 0 0 0 0 false [] [] [] [] []
def yzw:Nat->Int->yz3->Int->Int->Int->Int->Int->Bool->B8->kz2->B8->Int->Int->Int->Int->Bool->B8->kz2->B8->yz3->yz3->Ot (Int×Int×Int×Int×Bool×B8×kz2×B8×yz3)
 |0,_,_,_,_,_,_,_,_,_,_,_,_,_,_,_,_,_,_,_,_,_=>none
 |n+1,a,b,c,d,e,f,g,h,i,j,k,l,m,o,p,q,r,s,t,u,v=>
  pIf (decide (a<c))
   ((ix b a).bind λx0=>
   (z1j n x0.re).bind λy1=>
   (ext u [(zz1.mk y1.1 (zz0.mk y1.2.1 (yz1.mk y1.2.2.1 y1.2.2.2.1) y1.2.2.2.2.1 y1.2.2.2.2.2.1 y1.2.2.2.2.2.2.1) y1.2.2.2.2.2.2.2.1 [])]).bind λx2=>
   (ix x2 (u.length:Int)).bind λx3=>
   yzw n (IntKind.i64.wrap (a+1)) b c d e f g h i j k l m o p q r s t (x2.set (Int.toNat (u.length:Int)) (zz1.mk x3.op x3.value.re x3.name y1.2.2.2.2.2.2.2.2)) v)
   ((z3w n d e f g h i j k u).bind λy4=>
   some (y4.1,y4.2.1,y4.2.2.1,y4.2.2.2.1,y4.2.2.2.2.1,y4.2.2.2.2.2.1,y4.2.2.2.2.2.2.1,y4.2.2.2.2.2.2.2.1,y4.2.2.2.2.2.2.2.2))
end
def zsy:LSh:=⟨[(4,(.ptr 0 0))],[(.cells [dU,dU,dI,dI,dB,dS,dL 1,dS,(.own 1)]),(.deep 29 2)],0,29,[]⟩
noncomputable def z6t:FI dat:=FI.of dat 23 29 0 [dT 2,(.fn 32 [] [])] [] [(.agg [dU,dU,dI,dI,dB,dS,dL 1,dS,(.own 1)])] [(.cells [dU,dU,dI,dI,dB,dS,dL 1,dS,(.own 1)]),(.deep 29 2)] false zsy (R:=Int×Int×Int×Int×Bool×B8×kz2×B8×yz3) (λx=>(x.1,x.2.1,x.2.2.1,x.2.2.2.1,x.2.2.2.2.1,x.2.2.2.2.2.1,x.2.2.2.2.2.2.1,x.2.2.2.2.2.2.2.1,x.2.2.2.2.2.2.2.2.1)) (λr=>(r.1,r.2.1,r.2.2.1,r.2.2.2.1,r.2.2.2.2.1,r.2.2.2.2.2.1,r.2.2.2.2.2.2.1,r.2.2.2.2.2.2.2.1,r.1,r.2.1,r.2.2.1,r.2.2.2.1,r.2.2.2.2.1,r.2.2.2.2.2.1,r.2.2.2.2.2.2.1,r.2.2.2.2.2.2.2.1,r.2.2.2.2.2.2.2.2,())) (λn=>u1 (z1j n))
 (λn=>[(0,⟨⟨[(13,dI),(2,(.ptr 0 0)),(1,(.fn 32 [] [])),(11,dL 2),(4,(.ptr 1 0)),(12,dI)],[(.cells [dU,dU,dI,dI,dB,dS,dL 1,dS,(.own 2)]),(.cells [dU,dU,dI,dI,dB,dS,dL 1,dS,(.own 3)]),(.deep 29 2),(.deep 29 2)],0,29,[]⟩,λx=>yzw n x.1 x.2.1 x.2.2.1 x.2.2.2.1 x.2.2.2.2.1 x.2.2.2.2.2.1 x.2.2.2.2.2.2.1 x.2.2.2.2.2.2.2.1 x.2.2.2.2.2.2.2.2.1 x.2.2.2.2.2.2.2.2.2.1 x.2.2.2.2.2.2.2.2.2.2.1 x.2.2.2.2.2.2.2.2.2.2.2.1 x.2.2.2.2.2.2.2.2.2.2.2.2.1 x.2.2.2.2.2.2.2.2.2.2.2.2.2.1 x.2.2.2.2.2.2.2.2.2.2.2.2.2.2.1 x.2.2.2.2.2.2.2.2.2.2.2.2.2.2.2.1 x.2.2.2.2.2.2.2.2.2.2.2.2.2.2.2.2.1 x.2.2.2.2.2.2.2.2.2.2.2.2.2.2.2.2.2.1 x.2.2.2.2.2.2.2.2.2.2.2.2.2.2.2.2.2.2.1 x.2.2.2.2.2.2.2.2.2.2.2.2.2.2.2.2.2.2.2.1 x.2.2.2.2.2.2.2.2.2.2.2.2.2.2.2.2.2.2.2.2.1⟩)]) (anb [(10,0)] f23)
noncomputable def zua:List (FI dat):=[z6t]++[zcv]
theorem zub:(z6t).Good prog dat (tb zua):=FI.kzd (hD:=yz4 _) func23 ntmps23 call23 (by kernel_rfl) (Qac (by kernel_rfl)) (by kernel_rfl) (λn=>by kernel_rfl) (λx=>by kernel_rfl) (λ_=>rfl) ⟨λ_=>rfl,trivial⟩
 (λ_ _=>tr (z1j.eq_2 ..))
 (λn=>⟨λ_=>tr (yzw.eq_2 ..),
  trivial⟩)
 (λx=>.inr (by kernel_rfl))
theorem zt9:OkL prog [z6t]:=yzh (yz4 _) (bs:=[zcv]) ⟨zra,trivial⟩ ⟨zub,trivial⟩
theorem zq8:FOk prog z6t:=zt9.1
def z9n:Nat->zz1->Ot (Int×Int×Int×Int×Bool×B8×kz2×B8×yz3)
 |0,_=>none
 |n+1,a=>
  (z1j n a.re).bind λy0=>
  some (y0.1,y0.2.1,y0.2.2.1,y0.2.2.2.1,y0.2.2.2.2.1,y0.2.2.2.2.2.1,y0.2.2.2.2.2.2.1,y0.2.2.2.2.2.2.2.1,y0.2.2.2.2.2.2.2.2)
def yeb:LSh:=⟨[(2,(.ptr 0 0))],[(.cells [dU,dU,dI,dI,dB,dS,dL 1,dS,(.own 1)]),(.deep 29 2)],0,5,[]⟩
noncomputable def zue:FI dat:=FI.of dat 11 5 0 [dT 2] [] [(.agg [dU,dU,dI,dI,dB,dS,dL 1,dS,(.own 1)])] [(.cells [dU,dU,dI,dI,dB,dS,dL 1,dS,(.own 1)]),(.deep 29 2)] false yeb (R:=Int×Int×Int×Int×Bool×B8×kz2×B8×yz3) (λx=>(x.1,x.2.1,x.2.2.1,x.2.2.2.1,x.2.2.2.2.1,x.2.2.2.2.2.1,x.2.2.2.2.2.2.1,x.2.2.2.2.2.2.2.1,x.2.2.2.2.2.2.2.2.1)) (λr=>(r.1,r.2.1,r.2.2.1,r.2.2.2.1,r.2.2.2.2.1,r.2.2.2.2.2.1,r.2.2.2.2.2.2.1,r.2.2.2.2.2.2.2.1,r.1,r.2.1,r.2.2.1,r.2.2.2.1,r.2.2.2.2.1,r.2.2.2.2.2.1,r.2.2.2.2.2.2.1,r.2.2.2.2.2.2.2.1,r.2.2.2.2.2.2.2.2,())) (λn=>u1 (z9n n))
 (λn=>[]) (anb [] f11)
theorem ydr:FOk prog zue:=okF (bs:=[z6t]) ⟨zq8,trivial⟩ func11 ntmps11 call11
 (λ_ _=>tr (z9n.eq_2 ..))
 (λn=>trivial)
mutual
def kzx:Nat->zz1->zz1->Ot Bool
 |0,_,_=>none
 |n+1,a,b=>
  pIf (a.op != b.op)
   (zzz n true b.re a.re)
   (pIf (!(a.name==b.name))
     (zzz n true b.re a.re)
     ((kzo n a.value.re b.value.re).bind λy0=>
     pIf (!y0)
      (zzz n true b.re a.re)
      (zzz n ((a.args.length:Int) != (b.args.length:Int)) b.re a.re)))
def zzz:Nat->Bool->zz1->zz1->Ot Bool
 |0,_,_,_=>none
 |n+1,a,b,c=>
  pIf a
   (some false)
   (z35 n 0 b.re c.re)
def z35:Nat->Int->zz1->zz1->Ot Bool
 |0,_,_,_=>none
 |n+1,a,b,c=>
  pIf (decide (a<(c.args.length:Int)))
   ((ix c.args a).bind λx1=>
   (ix b.args a).bind λx2=>
   (kzx n x1.re x2.re).bind λy3=>
   pIf (!y3)
    (some false)
    (z35 n (IntKind.i64.wrap (a+1)) b.re c.re))
   (some true)
end
def y9z:LSh:=⟨[(4,dB)],[],0,54,[]⟩
noncomputable def zck:FI dat:=FI.of dat 12 54 0 [dT 2,dT 2] [] [dB] [] true y9z (R:=Bool) Prod.fst (·,()) (λn=>u2 (kzx n))
 (λn=>[(0,⟨⟨[(3,(.ptr 0 0)),(2,(.ptr 1 0)),(34,dB)],[(.st 2),(.st 2)],0,54,[]⟩,u3 (zzz n)⟩),(1,⟨⟨[(5,dI),(3,(.ptr 0 0)),(2,(.ptr 1 0))],[(.st 2),(.st 2)],0,54,[]⟩,u3 (z35 n)⟩)]) (anb [(5,0),(14,1)] f12)
noncomputable def ydu:List (FI dat):=[zck]++[z1y]
theorem y9v:(zck).Good prog dat (tb ydu):=FI.kzd (hD:=yz4 _) func12 ntmps12 call12 (by kernel_rfl) (Qac (by kernel_rfl)) (by kernel_rfl) (λn=>by kernel_rfl) (λx=>by kernel_rfl) (λ_=>rfl) ⟨λ_=>rfl,λ_=>rfl,trivial⟩
 (λ_ _=>tr (kzx.eq_2 ..))
 (λn=>⟨λ_=>tr (zzz.eq_2 ..),
  λ_=>tr (z35.eq_2 ..),
  trivial⟩)
 (λx=>.inl rfl)
theorem yc7:OkL prog [zck]:=yzh (yz4 _) (bs:=[z1y]) ⟨zda,trivial⟩ ⟨y9v,trivial⟩
theorem y3g:FOk prog zck:=yc7.1
mutual
def z4l:Nat->zz1->zz1->Ot Bool
 |0,_,_=>none
 |n+1,a,b=>
  pIf (a.op==b.op)
   (pIf (a.name==b.name)
     ((yzm n a.value.re b.value.re).bind λy0=>
     pIf y0
      ((yz8 n a.args b.args).bind λy1=>
      some y1)
      (some false))
     (some false))
   (some false)
def yz8:Nat->yz3->yz3->Ot Bool
 |0,_,_=>none
 |n+1,a,b=>
  pIf ((a.length:Int) != (b.length:Int))
   (some false)
   (zz5 n 0 b a (a.length:Int))
def zz5:Nat->Int->yz3->yz3->Int->Ot Bool
 |0,_,_,_,_=>none
 |n+1,a,b,c,d=>
  pIf (decide (a<d))
   ((ix c a).bind λx0=>
   (ix b a).bind λx1=>
   (z4l n x0.re x1.re).bind λy2=>
   pIf (!y2)
    (some false)
    (zz5 n (IntKind.i64.wrap (a+1)) b c d))
   (some true)
end
def yg6:LSh:=⟨[(4,dB)],[],0,31,[]⟩
noncomputable def zdv:FI dat:=FI.of dat 13 31 0 [dT 2,dT 2] [] [dB] [] true yg6 (R:=Bool) Prod.fst (·,()) (λn=>u2 (z4l n))
 (λn=>[]) (anb [] f13)
def z4b:LSh:=⟨[(6,dB)],[],0,32,[]⟩
noncomputable def zzd:FI dat:=FI.of dat 36 32 0 [dL 2,dL 2,(.fn 13 [] [])] [] [dB] [] true z4b (R:=Bool) Prod.fst (·,()) (λn=>u2 (yz8 n))
 (λn=>[(0,⟨⟨[(17,dI),(2,(.fn 13 [] [])),(1,dL 2),(15,dL 2),(16,dI)],[],0,32,[]⟩,u4 (zz5 n)⟩)]) (anb [(14,0)] f36)
noncomputable def zuj:List (FI dat):=[zdv,zzd]++[z0j]
theorem ygk:(zdv).Good prog dat (tb zuj):=FI.kzd (hD:=yz4 _) func13 ntmps13 call13 (by kernel_rfl) (Qac (by kernel_rfl)) (by kernel_rfl) (λn=>by kernel_rfl) (λx=>by kernel_rfl) (λ_=>rfl) trivial
 (λ_ _=>tr (z4l.eq_2 ..))
 (λn=>trivial)
 (λx=>.inl rfl)
theorem z47:(zzd).Good prog dat (tb zuj):=FI.kzd (hD:=yz4 _) func36 ntmps36 call36 (by kernel_rfl) (Qac (by kernel_rfl)) (by kernel_rfl) (λn=>by kernel_rfl) (λx=>by kernel_rfl) (λ_=>rfl) ⟨λ_=>rfl,trivial⟩
 (λ_ _=>tr (yz8.eq_2 ..))
 (λn=>⟨λ_=>tr (zz5.eq_2 ..),
  trivial⟩)
 (λx=>.inl rfl)
theorem yf1:OkL prog [zdv,zzd]:=yzh (yz4 _) (bs:=[z0j]) ⟨zd9,trivial⟩ ⟨ygk,z47,trivial⟩
theorem y8w:FOk prog zdv:=yf1.1
mutual
def zzf:Nat->yz3->Ot yz3
 |0,_=>none
 |n+1,a=>
  zzh n 0 a
def zzh:Nat->Int->yz3->Ot yz3
 |0,_,_=>none
 |n+1,a,b=>
  pIf (decide (a<(b.length:Int)))
   ((ix b a).bind λx0=>
   (ix b a).bind λx1=>
   (ix b a).bind λx2=>
   (zzf n x1.args).bind λy3=>
   (ix b a).bind λx4=>
   (ix b a).bind λx5=>
   (ix (b.set (Int.toNat a) (zz1.mk x5.op x5.value.re x5.name y3)) a).bind λx6=>
   zzh n (IntKind.i64.wrap (a+1)) ((b.set (Int.toNat a) (zz1.mk x5.op x5.value.re x5.name y3)).set (Int.toNat a) (zz1.mk 77 (zz0.mk 0 (yz1.mk 0 0) false [] []) [] [])))
   (some b)
end
def zl0:LSh:=⟨[],[(.deep 29 2)],0,19,[0]⟩
noncomputable def z3s:FI dat:=FI.of dat 14 19 0 [(.own 0)] [(.deep 29 2)] [] [(.deep 29 2)] false zl0 (R:=yz3) Prod.fst (·,()) (λn=>u1 (zzf n))
 (λn=>[(0,⟨⟨[(2,dI),(0,(.own 0))],[(.deep 29 2)],0,19,[0]⟩,u2 (zzh n)⟩)]) (anb [(3,0)] f14) [0]
noncomputable def zm3:List (FI dat):=[z3s]++[]
theorem zm7:(z3s).Good prog dat (tb zm3):=FI.kzd (hD:=yz4 _) func14 ntmps14 call14 (by kernel_rfl) (Qac (by kernel_rfl)) (by kernel_rfl) (λn=>by kernel_rfl) (λx=>by kernel_rfl) (λ_=>rfl) ⟨λ_=>rfl,trivial⟩
 (λ_ _=>tr (zzf.eq_2 ..))
 (λn=>⟨λ_=>tr (zzh.eq_2 ..),
  trivial⟩)
 (λx=>.inr (by kernel_rfl))
theorem zle:OkL prog [z3s]:=yzh (yz4 _) (bs:=[]) trivial ⟨zm7,trivial⟩
theorem zkp:FOk prog z3s:=zle.1
mutual
def yzd:Nat->zz1->zz1->B8->zz0->Ot Bool
 |0,_,_,_,_=>none
 |n+1,a,b,c,d=>
  (z5c n a.re).bind λy0=>
  pIf y0
   (kz4 n c true a.re b.re d.re)
   ((z5c n b.re).bind λy1=>
   pIf y1
    (kz4 n c true a.re b.re d.re)
    (pIf (decide ((c.length:Int)>200))
      (kz4 n c true a.re b.re d.re)
      ((z5d n d.re).bind λy2=>
      kz4 n c y2 a.re b.re d.re)))
def kz4:Nat->B8->Bool->zz1->zz1->zz0->Ot Bool
 |0,_,_,_,_,_=>none
 |n+1,a,b,c,d,e=>
  pIf b
   (some true)
   ((z69 n c.re).bind λy3=>
   (za1 n c.re a e.re).bind λy4=>
   (z8c n c.re a e.re).bind λy5=>
   (za0 n c.re).bind λy6=>
   (z83 n c.re).bind λy7=>
   (z9n n c.re).bind λy8=>
   (kzx n (zz1.mk y4.2.1 (zz0.mk y4.2.2.1 (yz1.mk y4.2.2.2.1 y4.2.2.2.2.1) y4.2.2.2.2.2.1 y4.2.2.2.2.2.2.1 y4.2.2.2.2.2.2.2.1) y4.2.2.2.2.2.2.2.2.1 y4.2.2.2.2.2.2.2.2.2) y5.2.re).bind λy9=>
   pIf (!y9)
    (zz6 n true y3.re c.re y8.1 y8.2.1 y8.2.2.1 y8.2.2.2.1 y8.2.2.2.2.1 y8.2.2.2.2.2.1 y8.2.2.2.2.2.2.1 y8.2.2.2.2.2.2.2.1 y6.2.1 y6.2.2.1 y6.2.2.2.1 y6.2.2.2.2.1 y6.2.2.2.2.2.1 y6.2.2.2.2.2.2.1 y6.2.2.2.2.2.2.2.1 y6.2.2.2.2.2.2.2.2.1 y4.2.1 y4.2.2.1 y4.2.2.2.1 y4.2.2.2.2.1 y4.2.2.2.2.2.1 y4.2.2.2.2.2.2.1 y4.2.2.2.2.2.2.2.1 y4.2.2.2.2.2.2.2.2.1 y8.2.2.2.2.2.2.2.2 y6.2.2.2.2.2.2.2.2.2 y4.2.2.2.2.2.2.2.2.2)
    (pIf (y4.1 != y5.1)
      (zz6 n true y3.re c.re y8.1 y8.2.1 y8.2.2.1 y8.2.2.2.1 y8.2.2.2.2.1 y8.2.2.2.2.2.1 y8.2.2.2.2.2.2.1 y8.2.2.2.2.2.2.2.1 y6.2.1 y6.2.2.1 y6.2.2.2.1 y6.2.2.2.2.1 y6.2.2.2.2.2.1 y6.2.2.2.2.2.2.1 y6.2.2.2.2.2.2.2.1 y6.2.2.2.2.2.2.2.2.1 y4.2.1 y4.2.2.1 y4.2.2.2.1 y4.2.2.2.2.1 y4.2.2.2.2.2.1 y4.2.2.2.2.2.2.1 y4.2.2.2.2.2.2.2.1 y4.2.2.2.2.2.2.2.2.1 y8.2.2.2.2.2.2.2.2 y6.2.2.2.2.2.2.2.2.2 y4.2.2.2.2.2.2.2.2.2)
      ((kzx n (zz1.mk y6.2.1 (zz0.mk y6.2.2.1 (yz1.mk y6.2.2.2.1 y6.2.2.2.2.1) y6.2.2.2.2.2.1 y6.2.2.2.2.2.2.1 y6.2.2.2.2.2.2.2.1) y6.2.2.2.2.2.2.2.2.1 y6.2.2.2.2.2.2.2.2.2) y7.2.re).bind λy10=>
      pIf (!y10)
       (zz6 n true y3.re c.re y8.1 y8.2.1 y8.2.2.1 y8.2.2.2.1 y8.2.2.2.2.1 y8.2.2.2.2.2.1 y8.2.2.2.2.2.2.1 y8.2.2.2.2.2.2.2.1 y6.2.1 y6.2.2.1 y6.2.2.2.1 y6.2.2.2.2.1 y6.2.2.2.2.2.1 y6.2.2.2.2.2.2.1 y6.2.2.2.2.2.2.2.1 y6.2.2.2.2.2.2.2.2.1 y4.2.1 y4.2.2.1 y4.2.2.2.1 y4.2.2.2.2.1 y4.2.2.2.2.2.1 y4.2.2.2.2.2.2.1 y4.2.2.2.2.2.2.2.1 y4.2.2.2.2.2.2.2.2.1 y8.2.2.2.2.2.2.2.2 y6.2.2.2.2.2.2.2.2.2 y4.2.2.2.2.2.2.2.2.2)
       (pIf (y6.1 != y7.1)
         (zz6 n true y3.re c.re y8.1 y8.2.1 y8.2.2.1 y8.2.2.2.1 y8.2.2.2.2.1 y8.2.2.2.2.2.1 y8.2.2.2.2.2.2.1 y8.2.2.2.2.2.2.2.1 y6.2.1 y6.2.2.1 y6.2.2.2.1 y6.2.2.2.2.1 y6.2.2.2.2.2.1 y6.2.2.2.2.2.2.1 y6.2.2.2.2.2.2.2.1 y6.2.2.2.2.2.2.2.2.1 y4.2.1 y4.2.2.1 y4.2.2.2.1 y4.2.2.2.2.1 y4.2.2.2.2.2.1 y4.2.2.2.2.2.2.1 y4.2.2.2.2.2.2.2.1 y4.2.2.2.2.2.2.2.2.1 y8.2.2.2.2.2.2.2.2 y6.2.2.2.2.2.2.2.2.2 y4.2.2.2.2.2.2.2.2.2)
         ((z4l n c.re d.re).bind λy11=>
         (kzx n c.re d.re).bind λy12=>
         pIf (!(y11==y12))
          (zz6 n true y3.re c.re y8.1 y8.2.1 y8.2.2.1 y8.2.2.2.1 y8.2.2.2.2.1 y8.2.2.2.2.2.1 y8.2.2.2.2.2.2.1 y8.2.2.2.2.2.2.2.1 y6.2.1 y6.2.2.1 y6.2.2.2.1 y6.2.2.2.2.1 y6.2.2.2.2.2.1 y6.2.2.2.2.2.2.1 y6.2.2.2.2.2.2.2.1 y6.2.2.2.2.2.2.2.2.1 y4.2.1 y4.2.2.1 y4.2.2.2.1 y4.2.2.2.2.1 y4.2.2.2.2.2.1 y4.2.2.2.2.2.2.1 y4.2.2.2.2.2.2.2.1 y4.2.2.2.2.2.2.2.2.1 y8.2.2.2.2.2.2.2.2 y6.2.2.2.2.2.2.2.2.2 y4.2.2.2.2.2.2.2.2.2)
          ((kzx n (zz1.mk y8.1 (zz0.mk y8.2.1 (yz1.mk y8.2.2.1 y8.2.2.2.1) y8.2.2.2.2.1 y8.2.2.2.2.2.1 y8.2.2.2.2.2.2.1) y8.2.2.2.2.2.2.2.1 y8.2.2.2.2.2.2.2.2) c.re).bind λy13=>
          zz6 n (!y13) y3.re c.re y8.1 y8.2.1 y8.2.2.1 y8.2.2.2.1 y8.2.2.2.2.1 y8.2.2.2.2.2.1 y8.2.2.2.2.2.2.1 y8.2.2.2.2.2.2.2.1 y6.2.1 y6.2.2.1 y6.2.2.2.1 y6.2.2.2.2.1 y6.2.2.2.2.2.1 y6.2.2.2.2.2.2.1 y6.2.2.2.2.2.2.2.1 y6.2.2.2.2.2.2.2.2.1 y4.2.1 y4.2.2.1 y4.2.2.2.1 y4.2.2.2.2.1 y4.2.2.2.2.2.1 y4.2.2.2.2.2.2.1 y4.2.2.2.2.2.2.2.1 y4.2.2.2.2.2.2.2.2.1 y8.2.2.2.2.2.2.2.2 y6.2.2.2.2.2.2.2.2.2 y4.2.2.2.2.2.2.2.2.2))))))
def zz6:Nat->Bool->zz1->zz1->Int->Int->Int->Int->Bool->B8->kz2->B8->Int->Int->Int->Int->Bool->B8->kz2->B8->Int->Int->Int->Int->Bool->B8->kz2->B8->yz3->yz3->yz3->Ot Bool
 |0,_,_,_,_,_,_,_,_,_,_,_,_,_,_,_,_,_,_,_,_,_,_,_,_,_,_,_,_,_,_=>none
 |n+1,a,b,c,d,e,f,g,h,i,j,k,l,m,o,p,q,r,s,t,u,v,w,z,a23,a24,a25,a26,a27,a28,a29=>
  pIf a
   (some false)
   ((zzf n a29).bind λy14=>
   (zzf n a28).bind λy15=>
   (zzf n a27).bind λy16=>
   (kzx n c.re b.re).bind λy17=>
   some y17)
end
def zf5:LSh:=⟨[(8,dB)],[],0,109,[]⟩
noncomputable def zf3:FI dat:=FI.of dat 3 109 0 [dT 2,dT 2,dS,dT 1] [] [dB] [] true zf5 (R:=Bool) Prod.fst (·,()) (λn=>u4 (yzd n))
 (λn=>[(0,⟨⟨[(4,(.ptr 0 0)),(5,(.ptr 1 0)),(7,(.ptr 2 0)),(2,dS),(33,dB)],[(.st 2),(.st 2),(.st 1)],0,109,[]⟩,u5 (kz4 n)⟩),(1,⟨⟨[(9,(.ptr 0 0)),(4,(.ptr 1 0)),(18,(.ptr 2 0)),(14,(.ptr 3 0)),(10,(.ptr 4 0)),(96,dB)],[(.st 2),(.st 2),(.cells [dU,dU,dI,dI,dB,dS,dL 1,dS,(.own 5)]),(.cells [dU,dU,dI,dI,dB,dS,dL 1,dS,(.own 6)]),(.cells [dU,dU,dI,dI,dB,dS,dL 1,dS,(.own 7)]),(.deep 29 2),(.deep 29 2),(.deep 29 2)],0,109,[]⟩,λx=>zz6 n x.1 x.2.1 x.2.2.1 x.2.2.2.1 x.2.2.2.2.1 x.2.2.2.2.2.1 x.2.2.2.2.2.2.1 x.2.2.2.2.2.2.2.1 x.2.2.2.2.2.2.2.2.1 x.2.2.2.2.2.2.2.2.2.1 x.2.2.2.2.2.2.2.2.2.2.1 x.2.2.2.2.2.2.2.2.2.2.2.1 x.2.2.2.2.2.2.2.2.2.2.2.2.1 x.2.2.2.2.2.2.2.2.2.2.2.2.2.1 x.2.2.2.2.2.2.2.2.2.2.2.2.2.2.1 x.2.2.2.2.2.2.2.2.2.2.2.2.2.2.2.1 x.2.2.2.2.2.2.2.2.2.2.2.2.2.2.2.2.1 x.2.2.2.2.2.2.2.2.2.2.2.2.2.2.2.2.2.1 x.2.2.2.2.2.2.2.2.2.2.2.2.2.2.2.2.2.2.1 x.2.2.2.2.2.2.2.2.2.2.2.2.2.2.2.2.2.2.2.1 x.2.2.2.2.2.2.2.2.2.2.2.2.2.2.2.2.2.2.2.2.1 x.2.2.2.2.2.2.2.2.2.2.2.2.2.2.2.2.2.2.2.2.2.1 x.2.2.2.2.2.2.2.2.2.2.2.2.2.2.2.2.2.2.2.2.2.2.1 x.2.2.2.2.2.2.2.2.2.2.2.2.2.2.2.2.2.2.2.2.2.2.2.1 x.2.2.2.2.2.2.2.2.2.2.2.2.2.2.2.2.2.2.2.2.2.2.2.2.1 x.2.2.2.2.2.2.2.2.2.2.2.2.2.2.2.2.2.2.2.2.2.2.2.2.2.1 x.2.2.2.2.2.2.2.2.2.2.2.2.2.2.2.2.2.2.2.2.2.2.2.2.2.2.1 x.2.2.2.2.2.2.2.2.2.2.2.2.2.2.2.2.2.2.2.2.2.2.2.2.2.2.2.1 x.2.2.2.2.2.2.2.2.2.2.2.2.2.2.2.2.2.2.2.2.2.2.2.2.2.2.2.2.1 x.2.2.2.2.2.2.2.2.2.2.2.2.2.2.2.2.2.2.2.2.2.2.2.2.2.2.2.2.2.1⟩)]) (anb [(5,0),(25,1)] f3)
theorem zew:FOk prog zf3:=okF (bs:=[zug,zuu,zue,z3s,zo3,zdb,zcm,zrt,zsa,zck,zdv]) ⟨ycq,yax,ydr,zkp,y2e,zm8,y4x,y71,y46,y3g,y8w,trivial⟩ func3 ntmps3 call3
 (λ_ _=>tr (yzd.eq_2 ..))
 (λn=>⟨λ_=>tr (kz4.eq_2 ..),
  λx=>tr (zz6.eq_2 x.1 x.2.1 x.2.2.1 x.2.2.2.1 x.2.2.2.2.1 x.2.2.2.2.2.1 x.2.2.2.2.2.2.1 x.2.2.2.2.2.2.2.1 x.2.2.2.2.2.2.2.2.1 x.2.2.2.2.2.2.2.2.2.1 x.2.2.2.2.2.2.2.2.2.2.1 x.2.2.2.2.2.2.2.2.2.2.2.1 x.2.2.2.2.2.2.2.2.2.2.2.2.1 x.2.2.2.2.2.2.2.2.2.2.2.2.2.1 x.2.2.2.2.2.2.2.2.2.2.2.2.2.2.1 x.2.2.2.2.2.2.2.2.2.2.2.2.2.2.2.1 x.2.2.2.2.2.2.2.2.2.2.2.2.2.2.2.2.1 x.2.2.2.2.2.2.2.2.2.2.2.2.2.2.2.2.2.1 x.2.2.2.2.2.2.2.2.2.2.2.2.2.2.2.2.2.2.1 x.2.2.2.2.2.2.2.2.2.2.2.2.2.2.2.2.2.2.2.1 x.2.2.2.2.2.2.2.2.2.2.2.2.2.2.2.2.2.2.2.2.1 x.2.2.2.2.2.2.2.2.2.2.2.2.2.2.2.2.2.2.2.2.2.1 x.2.2.2.2.2.2.2.2.2.2.2.2.2.2.2.2.2.2.2.2.2.2.1 x.2.2.2.2.2.2.2.2.2.2.2.2.2.2.2.2.2.2.2.2.2.2.2.1 x.2.2.2.2.2.2.2.2.2.2.2.2.2.2.2.2.2.2.2.2.2.2.2.2.1 x.2.2.2.2.2.2.2.2.2.2.2.2.2.2.2.2.2.2.2.2.2.2.2.2.2.1 x.2.2.2.2.2.2.2.2.2.2.2.2.2.2.2.2.2.2.2.2.2.2.2.2.2.2.1 x.2.2.2.2.2.2.2.2.2.2.2.2.2.2.2.2.2.2.2.2.2.2.2.2.2.2.2.1 x.2.2.2.2.2.2.2.2.2.2.2.2.2.2.2.2.2.2.2.2.2.2.2.2.2.2.2.2.1 x.2.2.2.2.2.2.2.2.2.2.2.2.2.2.2.2.2.2.2.2.2.2.2.2.2.2.2.2.2.1 n),
  trivial⟩)
theorem zej(a0:zz1)(a1:zz1)(a2:B8)(a3:zz0):VRL dat [] 0 [dat.tv (.st 2) a0,dat.tv (.st 2) a1,dat.tv .str a2,dat.tv (.st 1) a3] [dat.el (.st 2) a0,dat.el (.st 2) a1,dat.el .str a2,dat.el (.st 1) a3]:=by
 simp only[VRL];exact⟨_,_,rfl,VR.tv (yz4 prog) (DR.el _ _),⟨_,_,rfl,VR.tv (yz4 prog) (DR.el _ _),⟨_,_,rfl,VR.tv (yz4 prog) (DR.el _ _),⟨_,_,rfl,VR.tv (yz4 prog) (DR.el _ _),rfl⟩⟩⟩⟩
theorem zcy(n:Nat)(a0:zz1)(a1:zz1)(a2:B8)(a3:zz0)(r:Bool)(h:yzd n a0 a1 a2 a3=some r):y2w prog 3 [dat.el (.st 2) a0,dat.el (.st 2) a1,dat.el .str a2,dat.el (.st 1) a3] (.bool r):=by
 obtain⟨y,h1,_,_,_,h2⟩:=zew n _ (a0,a1,a2,a3,()) (λy=>some y.1) (λ_=>none) r (by show(yzd n a0 a1 a2 a3).bind (λr=>some r)=some r;rw[h];rfl);obtain⟨vs,k1,k2⟩:=h2 0 [dat.el (.st 2) a0,dat.el (.st 2) a1,dat.el .str a2,dat.el (.st 1) a3] (zej a0 a1 a2 a3);injection h1 with h1;subst h1;have:=k1 [] 0;replace this:VRL dat [] 0 [TV.bool y.1] vs:=this;simp only[VRL,VR]at this;obtain⟨v,r,rfl,rfl,rfl⟩:=this
 exact k2
set_option linter.defProp false
def y1g{r}(a b):=evS (z5f · a b) r (z5f.eq_2 a b)
def zg6{r}(a b c):=evS (z0d · a b c) r (z0d.eq_2 a b c)
def zg4{r}(a b c):=evS (z1v · a b c) r (z1v.eq_2 a b c)
def y0g{r}(a):=evS (z1i · a) r (z1i.eq_2 a)
def zce{r}(a b c):=evS (z1k · a b c) r (z1k.eq_2 a b c)
def zbs{r}(a b c d):=evS (z1u · a b c d) r (z1u.eq_2 a b c d)
def zlw{r}(a):=evS (z5d · a) r (z5d.eq_2 a)
def y0e{r}(a b):=evS (z5a · a b) r (z5a.eq_2 a b)
def zgr{r}(a b c):=evS (zzs · a b c) r (zzs.eq_2 a b c)
def zgk{r}(a b c):=evS (z1q · a b c) r (z1q.eq_2 a b c)
def y1o{r}(a):=evS (z3u · a) r (z3u.eq_2 a)
def zgq{r}(a b c):=evS (z1w · a b c) r (z1w.eq_2 a b c)
def zmo{r}(a):=evS (z5c · a) r (z5c.eq_2 a)
def y7a{r}(a):=evS (z3k · a) r (z3k.eq_2 a)
def zi1{r}(a b c d e f g h i j k l m o):=evS (z3g · a b c d e f g h i j k l m o) r (z3g.eq_2 a b c d e f g h i j k l m o)
def y5g{r}(a):=evS (z69 · a) r (z69.eq_2 a)
def zj0{r}(a b c d e f g h i j k l m o p q s t u v):=evS (z3c · a b c d e f g h i j k l m o p q s t u v) r (z3c.eq_2 a b c d e f g h i j k l m o p q s t u v)
def zwr{r}(a):=evS (z4d · a) r (z4d.eq_2 a)
def zfb{r}(a b c d e):=evS (z0o · a b c d e) r (z0o.eq_2 a b c d e)
def znz{r}(a):=evS (z84 · a) r (z84.eq_2 a)
def zj2{r}(a b c):=evS (kzf · a b c) r (kzf.eq_2 a b c)
def zhn{r}(a b c):=evS (z2k · a b c) r (z2k.eq_2 a b c)
def zim{r}(a b c):=evS (z2f · a b c) r (z2f.eq_2 a b c)
def zi6{r}(a b c):=evS (z52 · a b c) r (z52.eq_2 a b c)
def zho{r}:=evS (z4w ·) r (z4w.eq_2)
def zi7{r}(a):=evS (kzm · a) r (kzm.eq_2 a)
def ztj{r}(a):=evS (kzz · a) r (kzz.eq_2 a)
def zea{r}(a b c d e):=evS (z0c · a b c d e) r (z0c.eq_2 a b c d e)
def znj{r}(a b):=evS (z05 · a b) r (z05.eq_2 a b)
def y69{r}(a):=evS (z3n · a) r (z3n.eq_2 a)
def y92{r}(a b):=evS (z7v · a b) r (z7v.eq_2 a b)
def zw3{r}(a b):=evS (z4a · a b) r (z4a.eq_2 a b)
def y26{r}(a):=evS (z1h · a) r (z1h.eq_2 a)
def zqs{r}(a):=evS (kzr · a) r (kzr.eq_2 a)
def y75{r}(a):=evS (z6m · a) r (z6m.eq_2 a)
def zif{r}(a b c):=evS (z2u · a b c) r (z2u.eq_2 a b c)
def zhx{r}(a b c d):=evS (z2i · a b c d) r (z2i.eq_2 a b c d)
def zib{r}(a b c d):=evS (z2y · a b c d) r (z2y.eq_2 a b c d)
def zu2{r}(a):=evS (yzz · a) r (yzz.eq_2 a)
def y2c{r}(a):=evS (zzl · a) r (zzl.eq_2 a)
def zs4{r}(a b):=evS (z1s · a b) r (z1s.eq_2 a b)
def y5q{r}(a):=evS (z89 · a) r (z89.eq_2 a)
def zhr{r}(a b):=evS (z4x · a b) r (z4x.eq_2 a b)
def zhu{r}(a b):=evS (zzp · a b) r (zzp.eq_2 a b)
def zhq{r}(a b c d e):=evS (z2s · a b c d e) r (z2s.eq_2 a b c d e)
def zhw{r}(a b c):=evS (zzk · a b c) r (zzk.eq_2 a b c)
def y6c{r}(a):=evS (z6e · a) r (z6e.eq_2 a)
def y3w{r}(a b):=evS (yzm · a b) r (yzm.eq_2 a b)
def zhz{r}(a b c):=evS (kzn · a b c) r (kzn.eq_2 a b c)
def ziu{r}(a b c d):=evS (z3f · a b c d) r (z3f.eq_2 a b c d)
def y9g{r}(a):=evS (z7o · a) r (z7o.eq_2 a)
def zw8{r}(a b):=evS (z22 · a b) r (z22.eq_2 a b)
def zwa{r}(a b):=evS (z23 · a b) r (z23.eq_2 a b)
def zvs{r}(a b):=evS (z4f · a b) r (z4f.eq_2 a b)
def zx7{r}(a b):=evS (z43 · a b) r (z43.eq_2 a b)
def zwi{r}(a):=evS (z27 · a) r (z27.eq_2 a)
def z8g{r}(a):=evS (zz8 · a) r (zz8.eq_2 a)
def za2{r}(a):=evS (yz9 · a) r (yz9.eq_2 a)
def zzr{r}(a b c):=evS (yz6 · a b c) r (yz6.eq_2 a b c)
def y1h{r}(a):=evS (z6u · a) r (z6u.eq_2 a)
def y72{r}(a):=evS (z4o · a) r (z4o.eq_2 a)
def zsr{r}(a b):=evS (z2m · a b) r (z2m.eq_2 a b)
def ye8{r}(a):=evS (z4m · a) r (z4m.eq_2 a)
def zls{r}(a b c d e f g h i j k l m o p q s t u v w):=evS (z5e · a b c d e f g h i j k l m o p q s t u v w) r (z5e.eq_2 a b c d e f g h i j k l m o p q s t u v w)
def zy0{r}(a b c d e f g h i j k l m o p q):=evS (z7d · a b c d e f g h i j k l m o p q) r (z7d.eq_2 a b c d e f g h i j k l m o p q)
def zrv{r}(a b c d e f g h i j k l m o p q s t):=evS (z1o · a b c d e f g h i j k l m o p q s t) r (z1o.eq_2 a b c d e f g h i j k l m o p q s t)
def y2t{r}(a b c d e f g h):=evS (z55 · a b c d e f g h) r (z55.eq_2 a b c d e f g h)
def zg5{r}(a b c d e f g h i j k l m o p q s t u v w x y z A B C D):=evS (z1f · a b c d e f g h i j k l m o p q s t u v w x y z A B C D) r (z1f.eq_2 a b c d e f g h i j k l m o p q s t u v w x y z A B C D)
def y97{r}(a b c):=evS (za1 · a b c) r (za1.eq_2 a b c)
def zvn{r}(a b c d e):=evS (z48 · a b c d e) r (z48.eq_2 a b c d e)
def y59{r}(a):=evS (z6h · a) r (z6h.eq_2 a)
def zhh{r}(a b c):=evS (z39 · a b c) r (z39.eq_2 a b c)
def znu{r}(a):=evS (z8a · a) r (z8a.eq_2 a)
def zit{r}(a b):=evS (z4y · a b) r (z4y.eq_2 a b)
def ziv{r}(a b):=evS (zzg · a b) r (zzg.eq_2 a b)
def zic{r}(a b):=evS (z38 · a b) r (z38.eq_2 a b)
def y5n{r}(a):=evS (z6k · a) r (z6k.eq_2 a)
def zct{r}(a b c):=evS (z34 · a b c) r (z34.eq_2 a b c)
def zcw{r}(a b c d):=evS (z2c · a b c d) r (z2c.eq_2 a b c d)
def zw1{r}(a b):=evS (z4j · a b) r (z4j.eq_2 a b)
def zpc{r}(a b):=evS (z0t · a b) r (z0t.eq_2 a b)
def zxw{r}(a):=evS (yzl · a) r (yzl.eq_2 a)
def zqv{r}(a):=evS (yzk · a) r (yzk.eq_2 a)
def y6r{r}(a):=evS (z6f · a) r (z6f.eq_2 a)
def zig{r}(a b):=evS (zzn · a b) r (zzn.eq_2 a b)
def zin{r}(a b):=evS (z30 · a b) r (z30.eq_2 a b)
def zi9{r}(a b c):=evS (z2n · a b c) r (z2n.eq_2 a b c)
def zhk{r}(a b):=evS (yzy · a b) r (yzy.eq_2 a b)
def zij{r}(a b):=evS (z2p · a b) r (z2p.eq_2 a b)
def y1e{r}(a):=evS (yze · a) r (yze.eq_2 a)
def zr7{r}(a b):=evS (z19 · a b) r (z19.eq_2 a b)
def y4t{r}(a b):=evS (kzo · a b) r (kzo.eq_2 a b)
def zii{r}(a b c):=evS (yzp · a b c) r (yzp.eq_2 a b c)
def ziy{r}(a b c):=evS (z2d · a b c) r (z2d.eq_2 a b c)
def zwe{r}(a):=evS (z5q · a) r (z5q.eq_2 a)
def zxm{r}(a):=evS (z6z · a) r (z6z.eq_2 a)
def y4b{r}(a):=evS (z88 · a) r (z88.eq_2 a)
def ziz{r}(a b):=evS (zzj · a b) r (zzj.eq_2 a b)
def zhv{r}(a b c):=evS (zzo · a b c) r (zzo.eq_2 a b c)
def zyd{r}(a):=evS (z5b · a) r (z5b.eq_2 a)
def y6q{r}(a):=evS (z6j · a) r (z6j.eq_2 a)
def ztf{r}(a b):=evS (z0x · a b) r (z0x.eq_2 a b)
def ztk{r}(a b):=evS (kzj · a b) r (kzj.eq_2 a b)
def zth{r}(a b):=evS (yzo · a b) r (yzo.eq_2 a b)
def zj3{r}(a b):=evS (z3e · a b) r (z3e.eq_2 a b)
def y03{r}(a):=evS (zzu · a) r (zzu.eq_2 a)
def zqy{r}(a b):=evS (z1b · a b) r (z1b.eq_2 a b)
def ydw{r}(a):=evS (z67 · a) r (z67.eq_2 a)
def zkh{r}(a b c d e f g h i j k l m o p q s t u v):=evS (z4g · a b c d e f g h i j k l m o p q s t u v) r (z4g.eq_2 a b c d e f g h i j k l m o p q s t u v)
def zwy{r}(a b c):=evS (z3y · a b c) r (z3y.eq_2 a b c)
def zpj{r}(a b c d e f g h i j k l m):=evS (z0q · a b c d e f g h i j k l m) r (z0q.eq_2 a b c d e f g h i j k l m)
def zfk{r}(a b c d e f g h i j k l m o p q s t u v w x):=evS (z0s · a b c d e f g h i j k l m o p q s t u v w x) r (z0s.eq_2 a b c d e f g h i j k l m o p q s t u v w x)
def y5k{r}(a b c):=evS (z8c · a b c) r (z8c.eq_2 a b c)
def zso{r}(a b c d e):=evS (z32 · a b c d e) r (z32.eq_2 a b c d e)
def zdt{r}(a b):=evS (yzf · a b) r (yzf.eq_2 a b)
def z1r{r}(a b c d):=evS (zza · a b c d) r (zza.eq_2 a b c d)
def zcb{r}(a b):=evS (kzc · a b) r (kzc.eq_2 a b)
def y47{r}(a b c d e f g h i j):=evS (z6i · a b c d e f g h i j) r (z6i.eq_2 a b c d e f g h i j)
def zih{r}(a b c d e f g h i j k):=evS (z4t · a b c d e f g h i j k) r (z4t.eq_2 a b c d e f g h i j k)
def zta{r}(a b c d e f g h i j):=evS (z2o · a b c d e f g h i j) r (z2o.eq_2 a b c d e f g h i j)
def zir{r}(a b c d):=evS (z2t · a b c d) r (z2t.eq_2 a b c d)
def y08{r}(a b c d e f g h i j):=evS (z71 · a b c d e f g h i j) r (z71.eq_2 a b c d e f g h i j)
def z9f{r}(a b c d e f g h i j):=evS (kz9 · a b c d e f g h i j) r (kz9.eq_2 a b c d e f g h i j)
def kzq{r}(a b c d e f g h i j k l):=evS (kz6 · a b c d e f g h i j k l) r (kz6.eq_2 a b c d e f g h i j k l)
def zrs{r}(a):=evS (yzi · a) r (yzi.eq_2 a)
def y9a{r}(a b):=evS (zze · a b) r (zze.eq_2 a b)
def zkj{r}(a b c d):=evS (z4i · a b c d) r (z4i.eq_2 a b c d)
def zws{r}(a b c d):=evS (z5t · a b c d) r (z5t.eq_2 a b c d)
def y6b{r}(a b):=evS (z6l · a b) r (z6l.eq_2 a b)
def znp{r}(a):=evS (z1z · a) r (z1z.eq_2 a)
def z7k{r}(a b c d):=evS (zzy · a b c d) r (zzy.eq_2 a b c d)
def y79{r}(a b):=evS (z0g · a b) r (z0g.eq_2 a b)
def y0b{r}(a b):=evS (z74 · a b) r (z74.eq_2 a b)
def y6w{r}(a b):=evS (z17 · a b) r (z17.eq_2 a b)
def zie{r}(a b c d e f):=evS (z2g · a b c d e f) r (z2g.eq_2 a b c d e f)
def zsv{r}(a b):=evS (z2w · a b) r (z2w.eq_2 a b)
def zqi{r}(a b c):=evS (yzs · a b c) r (yzs.eq_2 a b c)
def zkf{r}(a b):=evS (z5u · a b) r (z5u.eq_2 a b)
def ya5{r}(a b):=evS (zaa · a b) r (zaa.eq_2 a b)
def zwc{r}(a):=evS (z25 · a) r (z25.eq_2 a)
def zfq{r}(a b c d e f g h i j k):=evS (z0u · a b c d e f g h i j k) r (z0u.eq_2 a b c d e f g h i j k)
def zpg{r}(a):=evS (z2e · a) r (z2e.eq_2 a)
def zcr{r}(a b c d e f g h i j k):=evS (yzr · a b c d e f g h i j k) r (yzr.eq_2 a b c d e f g h i j k)
def zte{r}(a):=evS (z33 · a) r (z33.eq_2 a)
def y9j{r}(a b):=evS (z9y · a b) r (z9y.eq_2 a b)
def zwx{r}(a b c d e f g h i j k l):=evS (z29 · a b c d e f g h i j k l) r (z29.eq_2 a b c d e f g h i j k l)
def y1d{r}(a b):=evS (z7e · a b) r (z7e.eq_2 a b)
def zqg{r}(a b):=evS (z9q · a b) r (z9q.eq_2 a b)
def ydn{r}(a b):=evS (z9o · a b) r (z9o.eq_2 a b)
def y2g{r}(a b):=evS (yzu · a b) r (yzu.eq_2 a b)
def zxr{r}(a b):=evS (z7a · a b) r (z7a.eq_2 a b)
def zkd{r}(a b):=evS (z5m · a b) r (z5m.eq_2 a b)
def yd8{r}(a b):=evS (z9k · a b) r (z9k.eq_2 a b)
def y0s{r}(a b):=evS (z6r · a b) r (z6r.eq_2 a b)
def zke{r}(a b):=evS (z5p · a b) r (z5p.eq_2 a b)
def y9n{r}(a b):=evS (z9j · a b) r (z9j.eq_2 a b)
def y4d{r}(a):=evS (yzx · a) r (yzx.eq_2 a)
def zpi{r}(a):=evS (z0v · a) r (z0v.eq_2 a)
def zmf{r}(a b):=evS (z0w · a b) r (z0w.eq_2 a b)
def yac{r}(a b):=evS (z9i · a b) r (z9i.eq_2 a b)
def zpf{r}(a b):=evS (z3a · a b) r (z3a.eq_2 a b)
def y2n{r}(a b):=evS (z3t · a b) r (z3t.eq_2 a b)
def zg0{r}(a b c d e):=evS (z0e · a b c d e) r (z0e.eq_2 a b c d e)
def zst{r}(a b):=evS (z50 · a b) r (z50.eq_2 a b)
def zyw{r}(a b):=evS (z7c · a b) r (z7c.eq_2 a b)
def zsb{r}(a):=evS (z1t · a) r (z1t.eq_2 a)
def zxy{r}(a):=evS (z7b · a) r (z7b.eq_2 a)
def ydo{r}(a):=evS (z63 · a) r (z63.eq_2 a)
def y3v{r}(a):=evS (z4n · a) r (z4n.eq_2 a)
def yem{r}(a b):=evS (zbh · a b) r (zbh.eq_2 a b)
def zkt{r}(a b c d):=evS (z57 · a b c d) r (z57.eq_2 a b c d)
def zhc{r}(a b):=evS (z3o · a b) r (z3o.eq_2 a b)
def z9t{r}(a b c d e):=evS (z0y · a b c d e) r (z0y.eq_2 a b c d e)
def ztx{r}(a b c):=evS (z3b · a b c) r (z3b.eq_2 a b c)
def zto{r}(a b):=evS (z4u · a b) r (z4u.eq_2 a b)
def ydi{r}(a b):=evS (z00 · a b) r (z00.eq_2 a b)
def zvu{r}(a b c d e f g h):=evS (z5l · a b c d e f g h) r (z5l.eq_2 a b c d e f g h)
def zkn{r}(a b c d e f g h i j k l):=evS (z41 · a b c d e f g h i j k l) r (z41.eq_2 a b c d e f g h i j k l)
def zo0{r}(a b):=evS (z3j · a b) r (z3j.eq_2 a b)
def zx6{r}(a b c d e f g h i):=evS (z5v · a b c d e f g h i) r (z5v.eq_2 a b c d e f g h i)
def zfv{r}(a b c d e f g h i j k):=evS (kzu · a b c d e f g h i j k) r (kzu.eq_2 a b c d e f g h i j k)
def zr9{r}(a):=evS (z1d · a) r (z1d.eq_2 a)
def zdp{r}(a b c d e f g h i j k l m o p q s t u v w):=evS (zzw · a b c d e f g h i j k l m o p q s t u v w) r (zzw.eq_2 a b c d e f g h i j k l m o p q s t u v w)
def ydx{r}(a):=evS (za0 · a) r (za0.eq_2 a)
def y6i{r}(a b):=evS (z6g · a b) r (z6g.eq_2 a b)
def zi2{r}(a b c):=evS (z10 · a b c) r (z10.eq_2 a b c)
def zhs{r}(a b c d):=evS (z2l · a b c d) r (z2l.eq_2 a b c d)
def zi5{r}(a b c d):=evS (z2v · a b c d) r (z2v.eq_2 a b c d)
def ztb{r}(a b):=evS (z11 · a b) r (z11.eq_2 a b)
def zix{r}(a b c):=evS (z36 · a b c) r (z36.eq_2 a b c)
def zy1{r}(a b):=evS (z6x · a b) r (z6x.eq_2 a b)
def zga{r}(a b c d):=evS (z1a · a b c d) r (z1a.eq_2 a b c d)
def yhg{r}(a):=evS (zzv · a) r (zzv.eq_2 a)
def y0z{r}(a):=evS (z6v · a) r (z6v.eq_2 a)
def zrp{r}(a):=evS (z1e · a) r (z1e.eq_2 a)
def yh8{r}(a):=evS (z7h · a) r (z7h.eq_2 a)
def y1y{r}(a):=evS (z58 · a) r (z58.eq_2 a)
def yav{r}(a):=evS (z7l · a) r (z7l.eq_2 a)
def yca{r}(a b):=evS (za4 · a b) r (za4.eq_2 a b)
def y7f{r}(a b):=evS (z3l · a b) r (z3l.eq_2 a b)
def y4a{r}(a b):=evS (kzg · a b) r (kzg.eq_2 a b)
def y4p{r}(a b):=evS (z18 · a b) r (z18.eq_2 a b)
def zsm{r}(a b c d):=evS (z54 · a b c d) r (z54.eq_2 a b c d)
def zsh{r}(a b c d):=evS (z2x · a b c d) r (z2x.eq_2 a b c d)
def zsx{r}(a b c):=evS (z2q · a b c) r (z2q.eq_2 a b c)
def ybc{r}(a b):=evS (z9g · a b) r (z9g.eq_2 a b)
def ycx{r}(a):=evS (z7q · a) r (z7q.eq_2 a)
def ztg{r}(a):=evS (z3d · a) r (z3d.eq_2 a)
def ze9{r}(a b c d e f g h i j k l m o):=evS (z09 · a b c d e f g h i j k l m o) r (z09.eq_2 a b c d e f g h i j k l m o)
def yag{r}(a b):=evS (z9m · a b) r (z9m.eq_2 a b)
def zkk{r}(a b c d e f g h i):=evS (z3z · a b c d e f g h i) r (z3z.eq_2 a b c d e f g h i)
def yas{r}(a b):=evS (zac · a b) r (zac.eq_2 a b)
def zsq{r}(a b):=evS (z13 · a b) r (z13.eq_2 a b)
def ze8{r}(a b c):=evS (kzp · a b c) r (kzp.eq_2 a b c)
def ze7{r}(a b c d):=evS (z04 · a b c d) r (z04.eq_2 a b c d)
def zsw{r}(a b):=evS (z4z · a b) r (z4z.eq_2 a b)
def yc1{r}(a b):=evS (z9z · a b) r (z9z.eq_2 a b)
def ydh{r}(a b):=evS (z9l · a b) r (z9l.eq_2 a b)
def y8z{r}(a b):=evS (z9e · a b) r (z9e.eq_2 a b)
def ye1{r}(a b):=evS (zbc · a b) r (zbc.eq_2 a b)
def zlx{r}(a b c d):=evS (z56 · a b c d) r (z56.eq_2 a b c d)
def zvv{r}(a b):=evS (z5r · a b) r (z5r.eq_2 a b)
def yct{r}(a b c):=evS (za8 · a b c) r (za8.eq_2 a b c)
def zwh{r}(a b c d e):=evS (z4e · a b c d e) r (z4e.eq_2 a b c d e)
def zvq{r}(a b c d e f):=evS (z44 · a b c d e f) r (z44.eq_2 a b c d e f)
def z81{r}(a b c d e f g h):=evS (z26 · a b c d e f g h) r (z26.eq_2 a b c d e f g h)
def zwp{r}(a b c d):=evS (zzx · a b c d) r (zzx.eq_2 a b c d)
def z5n{r}(a b c d e f g h):=evS (z5o · a b c d e f g h) r (z5o.eq_2 a b c d e f g h)
def zki{r}(a b c d):=evS (z0l · a b c d) r (z0l.eq_2 a b c d)
def zvy{r}(a b c):=evS (z0m · a b c) r (z0m.eq_2 a b c)
def y34{r}(a b):=evS (kzt · a b) r (kzt.eq_2 a b)
def zg2{r}(a b c d e f g h i j):=evS (z1n · a b c d e f g h i j) r (z1n.eq_2 a b c d e f g h i j)
def zw4{r}(a):=evS (z42 · a) r (z42.eq_2 a)
def zfo{r}(a b c d e f g h i j k l m o p q s t u v):=evS (z0p · a b c d e f g h i j k l m o p q s t u v) r (z0p.eq_2 a b c d e f g h i j k l m o p q s t u v)
def zpb{r}(a b c d e f g h i j k l m o p q s t u):=evS (kzv · a b c d e f g h i j k l m o p q s t u) r (kzv.eq_2 a b c d e f g h i j k l m o p q s t u)
def zp8{r}(a b c d e f g h i j):=evS (z0n · a b c d e f g h i j) r (z0n.eq_2 a b c d e f g h i j)
def y3r{r}(a):=evS (z83 · a) r (z83.eq_2 a)
def zqj{r}(a b c d e f g h i):=evS (z3w · a b c d e f g h i) r (z3w.eq_2 a b c d e f g h i)
def zrr{r}(a):=evS (z1j · a) r (z1j.eq_2 a)
def zdy{r}(a b c d e f g h i j k l m o p q s t u v w):=evS (yzw · a b c d e f g h i j k l m o p q s t u v w) r (yzw.eq_2 a b c d e f g h i j k l m o p q s t u v w)
def y9x{r}(a):=evS (z9n · a) r (z9n.eq_2 a)
def y57{r}(a b):=evS (kzx · a b) r (kzx.eq_2 a b)
def zis{r}(a b c):=evS (zzz · a b c) r (zzz.eq_2 a b c)
def zhy{r}(a b c):=evS (z35 · a b c) r (z35.eq_2 a b c)
def yb9{r}(a b):=evS (z4l · a b) r (z4l.eq_2 a b)
def zkq{r}(a):=evS (zzf · a) r (zzf.eq_2 a)
def zat{r}(a b):=evS (zzh · a b) r (zzh.eq_2 a b)
def zep{r}(a b c d):=evS (yzd · a b c d) r (yzd.eq_2 a b c d)
def z77{r}(a b c d e):=evS (kz4 · a b c d e) r (kz4.eq_2 a b c d e)
def zd7{r}(a b c d e f g h i j k l m o p q s t u v w x y z A B C D E F):=evS (zz6 · a b c d e f g h i j k l m o p q s t u v w x y z A B C D E F) r (zz6.eq_2 a b c d e f g h i j k l m o p q s t u v w x y z A B C D E F)
theorem z9v{α:Type}{x y:List α}(h:x.length+y.length<=268435456):ext x y=some (x++y):=by unfold ext;rw[Qbo (by simpa[zau]using h)]
set_option linter.unusedSimpArgs false
def I64(x:Int):Prop := -9223372036854775808<=x∧x<=9223372036854775807
theorem zjh{x:Int}(h:I64 x):Ev (λn=>z3n n x) (x.natAbs:Int):=by
 unfold I64 at h;rw[y69];simp only[Ev.pif,Ev.yz0,Qaq];split;rw[wUn (x:=x) (by omega),wUn (by omega)];omega;rw[wU (by omega)];omega
theorem ykn:∀(b a:Nat),Ev (λn=>z4a n (b:Int) (a:Int)) (Nat.gcd a b:Int):=by
 intro b
 induction b using Nat.strongRecOn with
 |ind b ih=>
  intro a;rw[zw3];by_cases hb:b=0;subst hb;simp[Ev.pif,Ev.yz0]
  have hm:rem .u64 (a:Int) (b:Int)=some ((a % b:Nat):Int):=by
   unfold rem;rw[Qbp (by omega),Int.tmod_eq_emod_of_nonneg (by omega)];simp
  rw[Ev.zz2 (by simpa using hb),Ev.zz3 hm];have:=ih (a % b) (Nat.mod_lt _ (by omega)) b;rw[Nat.gcd_comm a b,Nat.gcd_rec b a,Nat.gcd_comm];exact this
theorem y7z{a b:Nat}:Ev (λn=>z7v n (a:Int) (b:Int)) (Nat.gcd a b:Int):=by
 rw[y92];exact ykn b a
def rok(r:yz1):Bool:=decide (1<=r.den)&&decide (r.den<=1000000000)&&decide (r.num.natAbs<=1000000000)&&(Nat.gcd r.num.natAbs r.den.natAbs==1)
theorem z7s{r:yz1}:rok r=true↔1<=r.den∧r.den<=1000000000∧r.num.natAbs<=1000000000∧Nat.gcd r.num.natAbs r.den.natAbs=1:=by
 simp[rok,and_assoc]
theorem zgl{r:yz1}(h:I64 r.num):Ev (λn=>z1h n r) (if rok r then 0 else 8):=by
 have l0:∀b,Ev (λn=>kzr n b) (if b then 8 else 0):=λb=>by
  rw[zqs];cases b <;> simp[Ev.pif,Ev.yz0]
 rw[y26];simp only[Ev.pif,Qaq];split;refine(l0 _).to ?_;rw[Qbo rfl,Qbp];rw[z7s];omega;split;refine(l0 _).to ?_;rw[Qbo rfl,Qbp];rw[z7s];omega;rw[Ev.kz0 (zjh h)];simp only[Ev.pif,Qaq];split;refine(l0 _).to ?_;rw[Qbo rfl,Qbp];rw[z7s];omega;rw[Ev.kz0 (zjh h),wU (by omega)];have hd:r.den=(r.den.natAbs:Int):=by omega
 rw[hd,Ev.kz0 y7z];refine(l0 _).to ?_
 have:((((Nat.gcd r.num.natAbs r.den.natAbs:Nat):Int) != 1)=true)↔¬rok r=true:=by
  rw[z7s];simp only[bne_iff_ne,ne_eq];omega
 by_cases hr:rok r=true;rw[Qbp (by rw[this];simpa using hr),Qbo hr];rw[Qbo (by rw[this];exact hr),Qbp hr]
theorem yq1(a b:Int):Nat.gcd a.natAbs b.natAbs=Nat.gcd b.natAbs (a.tmod b).natAbs:=by
 rw[Int.natAbs_tmod,Nat.gcd_comm a.natAbs,Nat.gcd_rec b.natAbs a.natAbs,Nat.gcd_comm]
theorem y3h:∀(m:Nat) (b a:Int),b.natAbs=m->I64 a->I64 b->¬a = -9223372036854775808->¬b = -9223372036854775808->Ev (λn=>z0t n b a) (Nat.gcd a.natAbs b.natAbs:Int):=by
 intro m
 induction m using Nat.strongRecOn with
 |ind m ih=>
  intro b a hm ha hb ha0 hb0;unfold I64 at ha hb;rw[zpc];by_cases h0:b=0;subst h0;simp only[Ev.pif,Ev.yz0,Qaq];rw[Qbp (by simp)];split;rw[wI (by omega)];simp;omega;simp;omega;have hr:rem .i64 a b=some (a.tmod b):=by unfold rem;rw[Qbp h0]
  have h1:(a.tmod b).natAbs<b.natAbs:=by rw[Int.natAbs_tmod];exact Nat.mod_lt _ (by omega)
  rw[Ev.zz2 (by simpa using h0),Ev.zz3 hr];have:=ih _ (by rw[<-hm];exact h1) (a.tmod b) b rfl hb (by unfold I64;omega) hb0 (by omega);rw[yq1 a b];exact this
theorem zs7{a b:Int}(ha:I64 a)(hb:I64 b)(ha0:¬a = -9223372036854775808)(hb0:¬b = -9223372036854775808):Ev (λn=>z4j n a b) (Nat.gcd a.natAbs b.natAbs:Int):=by
 rw[zw1];exact y3h _ b a rfl ha hb ha0 hb0
theorem z8r{r:yz1}:Ev (λn=>yzl n r) (if rok r then 0 else 8):=by
 have l0:∀b,Ev (λn=>yzk n b) (if b then 8 else 0):=λb=>by
  rw[zqv];cases b <;> simp[Ev.pif,Ev.yz0]
 rw[zxw];simp only[Ev.pif,Qaq];split;refine(l0 _).to ?_;rw[Qbo rfl,Qbp];rw[z7s];omega;split;refine(l0 _).to ?_;rw[Qbo rfl,Qbp];rw[z7s];omega;split;refine(l0 _).to ?_;rw[Qbo rfl,Qbp];rw[z7s];omega;split;refine(l0 _).to ?_;rw[Qbo rfl,Qbp];rw[z7s];omega;rw[Ev.kz0 (zs7 (by unfold I64;omega) (by unfold I64;omega) (by omega) (by omega))];refine(l0 _).to ?_
 have:((((Nat.gcd r.num.natAbs r.den.natAbs:Nat):Int) != 1)=true)↔¬rok r=true:=by
  rw[z7s];simp only[bne_iff_ne,ne_eq];omega
 by_cases hr:rok r=true;rw[Qbp (by rw[this];simpa using hr),Qbo hr];rw[Qbo (by rw[this];exact hr),Qbp hr]
def zfu(num den:Int):Int×yz1 :=
 if den=0 then (18,⟨0,0⟩)else
 if num.natAbs / Nat.gcd num.natAbs den.natAbs<=1000000000∧den.natAbs / Nat.gcd num.natAbs den.natAbs<=1000000000 then
  (0,⟨if decide (num<0)=decide (den<0)then ((num.natAbs / Nat.gcd num.natAbs den.natAbs:Nat):Int)else -((num.natAbs / Nat.gcd num.natAbs den.natAbs:Nat):Int),((den.natAbs / Nat.gcd num.natAbs den.natAbs:Nat):Int)⟩)
 else (16,⟨0,0⟩)
theorem y8t{k:IntKind}{a b:Nat}(hk:∀c:Nat,c<=a->k.wrap (c:Int)=c)(hb:b≠0):quo k (a:Int) (b:Int)=some ((a / b:Nat):Int):=by
 unfold quo;rw[Qbp (by omega),Int.tdiv_eq_ediv_of_nonneg (by omega),<-Int.natCast_ediv,hk _ (Nat.div_le_self _ _)]
theorem zpv{num den:Int}(hn:I64 num)(hd:I64 den):Ev (λn=>z17 n num den) (zfu num den):=by
 have l1:∀a b,Ev (λn=>z2w n a b) (0,b):=λa b=>by rw[zsv];exact Ev.yz0.2 rfl
 unfold I64 at hn hd;rw[y6w];unfold zfu;by_cases h0:den=0;rw[Ev.zz2 (by simpa using h0),Ev.yz0,Qbo h0];rw[Ev.kz1 (by simpa using h0),Ev.kz0 (zjh hn),Ev.kz0 (zjh hd),Ev.kz0 y7z,Qbp h0];have hg:Nat.gcd num.natAbs den.natAbs≠0:=λh=>by have:=(Nat.gcd_eq_zero_iff.1 h).2;omega
 rw[Ev.zz3 (y8t (λc hc=>wU (by omega)) hg),Ev.zz3 (y8t (λc hc=>wU (by omega)) hg)];have hln:num.natAbs / Nat.gcd num.natAbs den.natAbs<=num.natAbs:=Nat.div_le_self _ _;have hld:den.natAbs / Nat.gcd num.natAbs den.natAbs<=den.natAbs:=Nat.div_le_self _ _;generalize num.natAbs / Nat.gcd num.natAbs den.natAbs=p at hln ⊢;generalize den.natAbs / Nat.gcd num.natAbs den.natAbs=q at hld ⊢
 have bad:∀b,b=true->¬(p<=1000000000∧q<=1000000000)->Ev (λn=>z2g n den num (q:Int) (p:Int) b ⟨0,0⟩) (if p<=1000000000∧q<=1000000000 then (0,(⟨if decide (num<0)=decide (den<0)then (p:Int)else -(p:Int),(q:Int)⟩:yz1))else (16,⟨0,0⟩)):=λb hb h=>by
  rw[zie,Ev.zz2 hb,Ev.yz0,Qbp h]
 simp only[Ev.pif,Qaq];split;exact bad _ rfl (by omega);by_cases hq:q<=1000000000;rw[zie,Ev.kz1 (by simpa using(by omega:(q:Int)<=1000000000)),Qbo ⟨by omega,hq⟩];rw[wI (x:=(p:Int)) (by omega),wI (x:=(q:Int)) (by omega),wI (by omega)];simp only[Ev.pif];cases h1:decide (num<0) <;> cases h2:decide (den<0) <;> (simp;exact l1 _ _)
 exact bad _ (by simp;omega) (by omega)
theorem yq8{num den:Int}(h:(zfu num den).1=0):rok (zfu num den).2=true:=by
 unfold zfu at h ⊢;split at h;cases h;rename_i h0;split at h;rename_i hc;rw[Qbp h0,Qbo hc,z7s];have hgp:0<Nat.gcd num.natAbs den.natAbs:=Nat.gcd_pos_of_pos_right _ (by omega);have hco:Nat.gcd (num.natAbs / Nat.gcd num.natAbs den.natAbs) (den.natAbs / Nat.gcd num.natAbs den.natAbs)=1:=(by rw[Nat.gcd_div (Nat.gcd_dvd_left _ _) (Nat.gcd_dvd_right _ _),Nat.div_self hgp])
 have hq:1<=den.natAbs / Nat.gcd num.natAbs den.natAbs:=(Nat.one_le_div_iff hgp).2 (Nat.le_of_dvd (by omega) (Nat.gcd_dvd_right _ _));generalize num.natAbs / Nat.gcd num.natAbs den.natAbs=p at hco hc ⊢;generalize den.natAbs / Nat.gcd num.natAbs den.natAbs=q at hco hc hq ⊢;refine⟨by simp;omega,by simp;omega,?_,?_⟩;simp only;split <;> omega
 simp only;split;simpa using hco;rw[Int.natAbs_neg];simpa using hco
 cases h
theorem zjf{num den:Int}(hn : -9223372036854775808<num∧num<=9223372036854775807)(hd : -9223372036854775808<den∧den<=9223372036854775807):Ev (λn=>z18 n num den) (zfu num den):=by
 have l3:∀(a b:Int) (c:yz1),(a=den∧b=num∧0<den)∨(a = -den∧b = -num∧den<0)->Ev (λn=>z2q n a b c) (zfu num den):=λa b c h=>by
  have hap:0<a:=by omega
  have hda:a.natAbs=den.natAbs:=by omega
  have hba:b.natAbs=num.natAbs:=by omega
  rw[zsx,Ev.kz0 (zs7 (by unfold I64;omega) (by unfold I64;omega) (by omega) (by omega)),hda,hba];have hgp:0<Nat.gcd num.natAbs den.natAbs:=Nat.gcd_pos_of_pos_right _ (by omega)
  have hq1:quo .i64 b ((Nat.gcd num.natAbs den.natAbs:Nat):Int)=some (if b<0 then -((num.natAbs / Nat.gcd num.natAbs den.natAbs:Nat):Int)else ((num.natAbs / Nat.gcd num.natAbs den.natAbs:Nat):Int)):=by
   have hle:num.natAbs / Nat.gcd num.natAbs den.natAbs<=num.natAbs:=Nat.div_le_self _ _;unfold quo;rw[Qbp (by omega)];split;have:b = -(num.natAbs:Int):=by omega
   rw[this,Int.neg_tdiv,Int.tdiv_eq_ediv_of_nonneg (by omega),<-Int.natCast_ediv];generalize num.natAbs / Nat.gcd num.natAbs den.natAbs=p at hle ⊢;rw[wI (by omega)];have:b=(num.natAbs:Int):=by omega
   rw[this,Int.tdiv_eq_ediv_of_nonneg (by omega),<-Int.natCast_ediv];generalize num.natAbs / Nat.gcd num.natAbs den.natAbs=p at hle ⊢;rw[wI (by omega)]
  have hq2:quo .i64 a ((Nat.gcd num.natAbs den.natAbs:Nat):Int)=some ((den.natAbs / Nat.gcd num.natAbs den.natAbs:Nat):Int):=by
   have hle:den.natAbs / Nat.gcd num.natAbs den.natAbs<=den.natAbs:=Nat.div_le_self _ _;have:a=(den.natAbs:Int):=by omega
   rw[this];exact y8t (λc hc=>wI (by omega)) (by omega)
  rw[Ev.zz3 hq1,Ev.zz3 hq2,Ev.kz0 z8r];have hco:Nat.gcd (num.natAbs / Nat.gcd num.natAbs den.natAbs) (den.natAbs / Nat.gcd num.natAbs den.natAbs)=1:=(by rw[Nat.gcd_div (Nat.gcd_dvd_left _ _) (Nat.gcd_dvd_right _ _),Nat.div_self hgp]);have hq:1<=den.natAbs / Nat.gcd num.natAbs den.natAbs:=(Nat.one_le_div_iff hgp).2 (Nat.le_of_dvd (by omega) (Nat.gcd_dvd_right _ _));unfold zfu
  rw[Qbp (show ¬den=0 by omega)];have hpn:num=0->num.natAbs / Nat.gcd num.natAbs den.natAbs=0:=λh=>by rw[h];simp
  generalize num.natAbs / Nat.gcd num.natAbs den.natAbs=p at hco hpn ⊢;generalize den.natAbs / Nat.gcd num.natAbs den.natAbs=q at hco hq ⊢
  have hrok:rok ⟨if b<0 then -(p:Int)else p,(q:Int)⟩=true↔p<=1000000000∧q<=1000000000:=by
   rw[z7s];have:(if b<0 then -(p:Int)else (p:Int)).natAbs=p:=by split <;> omega
   simp only[this,Int.natAbs_natCast,hco,and_true];omega
  have hsg:(if b<0 then -(p:Int)else (p:Int))=if decide (num<0)=decide (den<0)then (p:Int)else -(p:Int):=by
   by_cases hp:p=0;subst hp;simp
   rcases h with ⟨_,h2,h3⟩|⟨_,h2,h3⟩
   have e2:decide (den<0)=false:=by simp;omega
   rw[e2,h2];by_cases h4:num<0 <;> simp[h4]
   have e2:decide (den<0)=true:=by simp;omega
   rw[e2,h2];by_cases h4:num<0;rw[Qbp (by omega)];simp[h4];by_cases h5:num=0;exact(hp (hpn h5)).elim;rw[Qbo (by omega)];simp[h4]
  by_cases hc:p<=1000000000∧q<=1000000000;rw[Qbo (hrok.2 hc),Ev.kz1 (by simp),Ev.yz0,Qbo hc,hsg];rw[Qbp (λhh=>hc (hrok.1 hh)),Ev.zz2 (by simp),Ev.yz0,Qbp hc]
 have l1:∀c,Ev (λn=>z2x n den num false c) (zfu num den)∨den=0:=λc=>by
  by_cases h0:den=0;exact .inr h0;left;rw[zsh,Ev.kz1 rfl];simp only[Ev.pif,Qaq];split;rw[wI (by omega),wI (by omega)];exact l3 _ _ _ (.inr ⟨by omega,by omega,by omega⟩);exact l3 _ _ _ (.inl ⟨rfl,rfl,by omega⟩)
 rw[y4p];by_cases h0:den=0;rw[Ev.zz2 (by simpa using h0),Ev.yz0];unfold zfu;rw[Qbo h0];rw[Ev.kz1 (by simpa using h0),Ev.kz1 (by simp;omega),zsm,Ev.kz1 rfl,Ev.kz1 (by simp;omega)];have:(den == -9223372036854775808)=false:=by simp;omega
 rw[this];exact(l1 _).resolve_right h0
end Go.Proofs.YtcaehabdaleamaaGreat
