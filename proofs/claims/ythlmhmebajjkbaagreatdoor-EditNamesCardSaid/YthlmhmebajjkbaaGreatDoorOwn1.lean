/-
  Go functions as Lean functions, by a program of this repo.
-/
import Derived.Test.YthlmhmebajjkbaaGreatDoorOwn0
namespace Go.Proofs.YthlmhmebajjkbaaGreatDoor
open Go Go.Ab
set_option linter.unusedVariables false
set_option maxRecDepth 100000
set_option maxHeartbeats 4000000
def z47:Nat->(List UInt8)->Option Bool
 |0,_=>none
 |n+1,a0=>
  (z1y n a0).bind λy0=>
  pIf y0
   ((z1j n [[116,114,117,101],[102,97,108,115,101],[115,120],[115,121],[115,122]] a0).bind λy1=>
   some (!y1))
   (some false)
def y1p:LSh:=⟨[(2,(.d .bool))],[],0,11,[]⟩
noncomputable def z25:FI dat:=FI.of dat 77 11 0 [(.d .str)] [] [(.d .bool)] [] true y1p (R:=Bool) (λx=>x.1) (λr=>(r,())) (λn x=>z47 n x.1)
 (λn=>[]) (ann [] (Tryz.f77.body.getD .skip) 0).1
noncomputable def y1m:List (FI dat):=[z0g,yzs]
theorem y1i:(z25).Good Tryz.prog dat (tb y1m):=FI.zz2 (hD:=zz0 _) Tryz.func77 Tryz.ntmps77 Tryz.call77 (by kernel_rfl) (Qac (by kernel_rfl)) (by kernel_rfl) (λn=>by kernel_rfl) (λx=>by kernel_rfl) (λ_=>rfl) trivial
 (λn=>λx=>(z47.eq_2 _ n).trans (by kernel_rfl))
 (λn=>trivial)
 (λx=>.inl rfl)
theorem y1t:OkL Tryz.prog [z25]:=zz3 (zz0 _) (bs:=[z0g,yzs]) ⟨zcy,zf2,trivial⟩ y1i
theorem zj7:FOk Tryz.prog z25:=y1t.1
mutual
def zdm:Nat->kz0->Option (Int×Int)
 |0,_=>none
 |n+1,a0=>
  z6z n 0 1 1 a0.args (a0.args.length:Int)
def z6z:Nat->Int->Int->Int->(List kz0)->Int->Option (Int×Int)
 |0,_,_,_,_,_=>none
 |n+1,a0,a1,a2,a3,a4=>
  pIf (decide (a0<a4))
   ((ix a3 a0).bind λx0=>
   (zdm n x0.re).bind λy1=>
   z6z n (IntKind.i64.wrap (a0+1)) (mxI a1 (IntKind.i64.wrap (y1.2+1))) (IntKind.i64.wrap (a2+y1.1)) a3 a4)
   (some (a2,a1))
end
def zy3:LSh:=⟨[(2,(.d (.int .i64))),(3,(.d (.int .i64)))],[],0,30,[]⟩
noncomputable def z5n:FI dat:=FI.of dat 128 30 0 [(.d (.st 2))] [] [(.d (.int .i64)),(.d (.int .i64))] [] true zy3 (R:=Int×Int) (λx=>(x.1,x.2.1)) (λr=>(r.1,r.2,())) (λn x=>zdm n x.1)
 (λn=>[(0,⟨⟨[(11,(.d (.int .i64))),(3,(.d (.int .i64))),(2,(.d (.int .i64))),(9,(.d (.sl (.st 2)))),(10,(.d (.int .i64)))],[],0,30,[]⟩,λx=>z6z n x.1 x.2.1 x.2.2.1 x.2.2.2.1 x.2.2.2.2.1⟩)]) (ann [(8,0)] (Tryz.f128.body.getD .skip) 0).1
noncomputable def y02:List (FI dat):=[z5n]++[]
theorem zy8:(z5n).Good Tryz.prog dat (tb y02):=FI.zz2 (hD:=zz0 _) Tryz.func128 Tryz.ntmps128 Tryz.call128 (by kernel_rfl) (Qac (by kernel_rfl)) (by kernel_rfl) (λn=>by kernel_rfl) (λx=>by kernel_rfl) (λ_=>rfl) ⟨λ_=>rfl,trivial⟩
 (λn=>λx=>(zdm.eq_2 _ n).trans (by kernel_rfl))
 (λn=>⟨λx=>(z6z.eq_2 _ _ _ _ _ n).trans (by kernel_rfl),
  trivial⟩)
 (λx=>.inl rfl)
theorem zxm:OkL Tryz.prog [z5n]:=zg4 (zz0 _) (bs:=[]) trivial ⟨zy8,trivial⟩
theorem zup:FOk Tryz.prog z5n:=zxm.1
mutual
def zkg:Nat->Int->Option Int
 |0,_=>none
 |n+1,a0=>
  pIf (a0==12)
   (z11 n 3)
   (pIf (a0==3)
     (kzy n (-2) a0 true)
     (pIf (a0==4)
       (kzy n (-2) a0 true)
       (pIf (a0==5)
         (kzy n (-2) a0 true)
         (pIf (a0==6)
           (kzy n (-2) a0 true)
           (pIf (a0==7)
             (kzy n (-2) a0 true)
             (pIf (a0==8)
               (kzy n (-2) a0 true)
               (pIf (a0==9)
                 (kzy n (-2) a0 true)
                 (kzy n (-2) a0 (a0==10)))))))))
def kzy:Nat->Int->Int->Bool->Option Int
 |0,_,_,_=>none
 |n+1,a0,a1,a2=>
  pIf a2
   (zbe n)
   (pIf (a1==13)
     (z5t n a0 a1 true)
     (pIf (a1==14)
       (z5t n a0 a1 true)
       (z5t n a0 a1 (a1==17))))
def z5t:Nat->Int->Int->Bool->Option Int
 |0,_,_,_=>none
 |n+1,a0,a1,a2=>
  pIf a2
   (zbe n)
   (pIf (a1==11)
     (z5o n a0 a1 true)
     (pIf (a1==15)
       (z5o n a0 a1 true)
       (z5o n a0 a1 (a1==16))))
def z5o:Nat->Int->Int->Bool->Option Int
 |0,_,_,_=>none
 |n+1,a0,a1,a2=>
  pIf a2
   (z11 n 1)
   (pIf (a1==1)
     (zb6 n a0 a1 true)
     (zb6 n a0 a1 (a1==2)))
def zb6:Nat->Int->Int->Bool->Option Int
 |0,_,_,_=>none
 |n+1,a0,a1,a2=>
  pIf a2
   (z11 n 0)
   (pIf (a1==18)
     (z11 n (-1))
     (z11 n a0))
def zbe:Nat->Option Int
 |0=>none
 |n+1=>
  z11 n 2
def z11:Nat->Int->Option Int
 |0,_=>none
 |n+1,a0=>
  some a0
end
def y4b:LSh:=⟨[(2,(.d (.int .i64)))],[],0,30,[]⟩
noncomputable def zfk:FI dat:=FI.of dat 168 30 0 [(.d (.int .u8))] [] [(.d (.int .i64))] [] true y4b (R:=Int) (λx=>x.1) (λr=>(r,())) (λn x=>zkg n x.1)
 (λn=>[(0,⟨⟨[(3,(.d (.int .i64))),(4,(.d (.int .u8))),(7,(.d .bool))],[],0,30,[]⟩,λx=>kzy n x.1 x.2.1 x.2.2.1⟩),(1,⟨⟨[(3,(.d (.int .i64))),(4,(.d (.int .u8))),(16,(.d .bool))],[],0,30,[]⟩,λx=>z5t n x.1 x.2.1 x.2.2.1⟩),(2,⟨⟨[(3,(.d (.int .i64))),(4,(.d (.int .u8))),(20,(.d .bool))],[],0,30,[]⟩,λx=>z5o n x.1 x.2.1 x.2.2.1⟩),(3,⟨⟨[(3,(.d (.int .i64))),(4,(.d (.int .u8))),(24,(.d .bool))],[],0,30,[]⟩,λx=>zb6 n x.1 x.2.1 x.2.2.1⟩),(4,⟨⟨[],[],0,30,[]⟩,λx=>zbe n⟩),(5,⟨⟨[(3,(.d (.int .i64)))],[],0,30,[]⟩,λx=>z11 n x.1⟩)]) (ann [(57,0),(71,1),(85,2),(95,3),(107,4),(119,5)] (Tryz.f168.body.getD .skip) 0).1
noncomputable def y3w:List (FI dat):=[]
theorem y6t:(zfk).Good Tryz.prog dat (tb y3w):=FI.zz2 (hD:=zz0 _) Tryz.func168 Tryz.ntmps168 Tryz.call168 (by kernel_rfl) (Qac (by kernel_rfl)) (by kernel_rfl) (λn=>by kernel_rfl) (λx=>by kernel_rfl) (λ_=>rfl) ⟨λ_=>rfl,λ_=>rfl,λ_=>rfl,λ_=>rfl,λ_=>rfl,λ_=>rfl,trivial⟩
 (λn=>λx=>(zkg.eq_2 _ n).trans (by kernel_rfl))
 (λn=>⟨λx=>(kzy.eq_2 _ _ _ n).trans (by kernel_rfl),
  λx=>(z5t.eq_2 _ _ _ n).trans (by kernel_rfl),
  λx=>(z5o.eq_2 _ _ _ n).trans (by kernel_rfl),
  λx=>(zb6.eq_2 _ _ _ n).trans (by kernel_rfl),
  λx=>(zbe.eq_2 n).trans (by kernel_rfl),
  λx=>(z11.eq_2 _ n).trans (by kernel_rfl),
  trivial⟩)
 (λx=>.inl rfl)
theorem y4x:OkL Tryz.prog [zfk]:=zz3 (zz0 _) (bs:=[]) trivial y6t
theorem y0p:FOk Tryz.prog zfk:=y4x.1
mutual
def zbl:Nat->yz0->Option (Int×Int)
 |0,_=>none
 |n+1,a0=>
  pIf (a0.kind==4)
   (z5k n 0 1 1 a0.list (a0.list.length:Int))
   (z5m n 1 1)
def z5k:Nat->Int->Int->Int->(List yz0)->Int->Option (Int×Int)
 |0,_,_,_,_,_=>none
 |n+1,a0,a1,a2,a3,a4=>
  pIf (decide (a0<a4))
   ((ix a3 a0).bind λx0=>
   (zbl n x0.re).bind λy1=>
   z5k n (IntKind.i64.wrap (a0+1)) (mxI a1 (IntKind.i64.wrap (y1.2+1))) (IntKind.i64.wrap (a2+y1.1)) a3 a4)
   (z5m n a1 a2)
def z5m:Nat->Int->Int->Option (Int×Int)
 |0,_,_=>none
 |n+1,a0,a1=>
  some (a1,a0)
end
def zvq:LSh:=⟨[(2,(.d (.int .i64))),(3,(.d (.int .i64)))],[],0,33,[]⟩
noncomputable def z4m:FI dat:=FI.of dat 199 33 0 [(.d (.st 1))] [] [(.d (.int .i64)),(.d (.int .i64))] [] true zvq (R:=Int×Int) (λx=>(x.1,x.2.1)) (λr=>(r.1,r.2,())) (λn x=>zbl n x.1)
 (λn=>[(0,⟨⟨[(14,(.d (.int .i64))),(3,(.d (.int .i64))),(2,(.d (.int .i64))),(12,(.d (.sl (.st 1)))),(13,(.d (.int .i64)))],[],0,33,[]⟩,λx=>z5k n x.1 x.2.1 x.2.2.1 x.2.2.2.1 x.2.2.2.2.1⟩),(1,⟨⟨[(3,(.d (.int .i64))),(2,(.d (.int .i64)))],[],0,33,[]⟩,λx=>z5m n x.1 x.2.1⟩)]) (ann [(11,0),(29,1)] (Tryz.f199.body.getD .skip) 0).1
noncomputable def zvl:List (FI dat):=[z4m]++[]
theorem zut:(z4m).Good Tryz.prog dat (tb zvl):=FI.zz2 (hD:=zz0 _) Tryz.func199 Tryz.ntmps199 Tryz.call199 (by kernel_rfl) (Qac (by kernel_rfl)) (by kernel_rfl) (λn=>by kernel_rfl) (λx=>by kernel_rfl) (λ_=>rfl) ⟨λ_=>rfl,λ_=>rfl,trivial⟩
 (λn=>λx=>(zbl.eq_2 _ n).trans (by kernel_rfl))
 (λn=>⟨λx=>(z5k.eq_2 _ _ _ _ _ n).trans (by kernel_rfl),
  λx=>(z5m.eq_2 _ _ n).trans (by kernel_rfl),
  trivial⟩)
 (λx=>.inl rfl)
theorem zvo:OkL Tryz.prog [z4m]:=zg4 (zz0 _) (bs:=[]) trivial ⟨zut,trivial⟩
theorem zsp:FOk Tryz.prog z4m:=zvo.1
def zgt:Nat->Int->Option Int
 |0,_=>none
 |n+1,a0=>
  pIf (decide (a0<0))
   (some (IntKind.u64.wrap (0-(IntKind.u64.wrap a0))))
   (some (IntKind.u64.wrap a0))
def y5q:LSh:=⟨[(2,(.d (.int .u64)))],[],0,10,[]⟩
noncomputable def zfo:FI dat:=FI.of dat 217 10 0 [(.d (.int .i64))] [] [(.d (.int .u64))] [] true y5q (R:=Int) (λx=>x.1) (λr=>(r,())) (λn x=>zgt n x.1)
 (λn=>[]) (ann [] (Tryz.f217.body.getD .skip) 0).1
noncomputable def y65:List (FI dat):=[]
theorem y5c:(zfo).Good Tryz.prog dat (tb y65):=FI.zz2 (hD:=zz0 _) Tryz.func217 Tryz.ntmps217 Tryz.call217 (by kernel_rfl) (Qac (by kernel_rfl)) (by kernel_rfl) (λn=>by kernel_rfl) (λx=>by kernel_rfl) (λ_=>rfl) trivial
 (λn=>λx=>(zgt.eq_2 _ n).trans (by kernel_rfl))
 (λn=>trivial)
 (λx=>.inl rfl)
theorem y7f:OkL Tryz.prog [zfo]:=zz3 (zz0 _) (bs:=[]) trivial y5c
theorem y2v:FOk Tryz.prog zfo:=y7f.1
mutual
def zlr:Nat->Int->Int->Option Int
 |0,_,_=>none
 |n+1,a0,a1=>
  zdu n a1 a0
def zdu:Nat->Int->Int->Option Int
 |0,_,_=>none
 |n+1,a0,a1=>
  pIf (a0 != 0)
   ((rem .u64 a1 a0).bind λx0=>
   zdu n x0 a0)
   (some a1)
end
def yaj:LSh:=⟨[(4,(.d (.int .u64)))],[],0,12,[]⟩
noncomputable def zh9:FI dat:=FI.of dat 218 12 0 [(.d (.int .u64)),(.d (.int .u64))] [] [(.d (.int .u64))] [] true yaj (R:=Int) (λx=>x.1) (λr=>(r,())) (λn x=>zlr n x.1 x.2.1)
 (λn=>[(0,⟨⟨[(1,(.d (.int .u64))),(0,(.d (.int .u64)))],[],0,12,[]⟩,λx=>zdu n x.1 x.2.1⟩)]) (ann [(4,0)] (Tryz.f218.body.getD .skip) 0).1
noncomputable def y8d:List (FI dat):=[]
theorem y9g:(zh9).Good Tryz.prog dat (tb y8d):=FI.zz2 (hD:=zz0 _) Tryz.func218 Tryz.ntmps218 Tryz.call218 (by kernel_rfl) (Qac (by kernel_rfl)) (by kernel_rfl) (λn=>by kernel_rfl) (λx=>by kernel_rfl) (λ_=>rfl) ⟨λ_=>rfl,trivial⟩
 (λn=>λx=>(zlr.eq_2 _ _ n).trans (by kernel_rfl))
 (λn=>⟨λx=>(zdu.eq_2 _ _ n).trans (by kernel_rfl),
  trivial⟩)
 (λx=>.inl rfl)
theorem y9w:OkL Tryz.prog [zh9]:=zz3 (zz0 _) (bs:=[]) trivial y9g
theorem y6a:FOk Tryz.prog zh9:=y9w.1
mutual
def zje:Nat->yz2->Option Int
 |0,_=>none
 |n+1,a0=>
  pIf (decide (a0.den<1))
   (z2n n true)
   (pIf (decide (a0.den>1000000000))
     (z2n n true)
     ((zgt n a0.num).bind λy0=>
     pIf (decide (y0>1000000000))
      (z2n n true)
      ((zgt n a0.num).bind λy1=>
      (zlr n y1 (IntKind.u64.wrap a0.den)).bind λy2=>
      z2n n (y2 != 1))))
def z2n:Nat->Bool->Option Int
 |0,_=>none
 |n+1,a0=>
  pIf a0
   (some 8)
   (some 0)
end
def y0d:LSh:=⟨[(2,(.d (.int .i64)))],[],0,27,[]⟩
noncomputable def zct:FI dat:=FI.of dat 213 27 0 [(.d (.st 0))] [] [(.d (.int .i64))] [] true y0d (R:=Int) (λx=>x.1) (λr=>(r,())) (λn x=>zje n x.1)
 (λn=>[(0,⟨⟨[(26,(.d .bool))],[],0,27,[]⟩,λx=>z2n n x.1⟩)]) (ann [(5,0)] (Tryz.f213.body.getD .skip) 0).1
noncomputable def y31:List (FI dat):=[zfo,zh9]
theorem y0n:(zct).Good Tryz.prog dat (tb y31):=FI.zz2 (hD:=zz0 _) Tryz.func213 Tryz.ntmps213 Tryz.call213 (by kernel_rfl) (Qac (by kernel_rfl)) (by kernel_rfl) (λn=>by kernel_rfl) (λx=>by kernel_rfl) (λ_=>rfl) ⟨λ_=>rfl,trivial⟩
 (λn=>λx=>(zje.eq_2 _ n).trans (by kernel_rfl))
 (λn=>⟨λx=>(z2n.eq_2 _ n).trans (by kernel_rfl),
  trivial⟩)
 (λx=>.inl rfl)
theorem y25:OkL Tryz.prog [zct]:=zz3 (zz0 _) (bs:=[zfo,zh9]) ⟨y2v,y6a,trivial⟩ y0n
theorem zwt:FOk Tryz.prog zct:=y25.1
mutual
def zh1:Nat->yz0->Option Bool
 |0,_=>none
 |n+1,a0=>
  pIf (a0.kind==1)
   ((zje n a0.num).bind λy0=>
   pIf (y0 != 0)
    (some false)
    (z3y n (yz0.mk a0.kind (yz2.mk 0 0) a0.truth a0.str a0.list)))
   (pIf (a0.kind==2)
     (z3y n (yz0.mk a0.kind a0.num false a0.str a0.list))
     (pIf (a0.kind==3)
       (pIf (decide ((a0.str.length:Int)>60))
         (some false)
         (zbc n 0 a0.re (yz0.mk a0.kind a0.num a0.truth [] a0.list)))
       (pIf (a0.kind==4)
         (zbb n 0 a0.list (a0.list.length:Int) (yz0.mk a0.kind a0.num a0.truth a0.str []))
         (some false))))
def zbc:Nat->Int->yz0->yz0->Option Bool
 |0,_,_,_=>none
 |n+1,a0,a1,a2=>
  pIf (decide (a0<(a1.str.length:Int)))
   ((ix a1.str a0).bind λx1=>
   pIf (decide ((x1.toNat:Int)<32))
    (zb0 n a0 true a1.re a2.re)
    ((ix a1.str a0).bind λx2=>
    zb0 n a0 (decide ((x2.toNat:Int)>126)) a1.re a2.re))
   (z3y n a2.re)
def zb0:Nat->Int->Bool->yz0->yz0->Option Bool
 |0,_,_,_,_=>none
 |n+1,a0,a1,a2,a3=>
  pIf a1
   (some false)
   (zbc n (IntKind.i64.wrap (a0+1)) a2.re a3.re)
def zbb:Nat->Int->(List yz0)->Int->yz0->Option Bool
 |0,_,_,_,_=>none
 |n+1,a0,a1,a2,a3=>
  pIf (decide (a0<a2))
   ((ix a1 a0).bind λx3=>
   (zh1 n x3.re).bind λy4=>
   pIf (!y4)
    (some false)
    (zbb n (IntKind.i64.wrap (a0+1)) a1 a2 a3.re))
   (z3y n a3.re)
def z3y:Nat->yz0->Option Bool
 |0,_=>none
 |n+1,a0=>
  pIf ((a0.num.num==0)&&((a0.num.den==0)&&true))
   (pIf (!a0.truth)
     (pIf (a0.str==[])
       (some ((a0.list.length:Int)==0))
       (some false))
     (some false))
   (some false)
end
def y4s:LSh:=⟨[(2,(.d .bool))],[],0,81,[]⟩
noncomputable def zbp:FI dat:=FI.of dat 200 81 0 [(.d (.st 1))] [] [(.d .bool)] [] true y4s (R:=Bool) (λx=>x.1) (λr=>(r,())) (λn x=>zh1 n x.1)
 (λn=>[(0,⟨⟨[(4,(.d (.int .i64))),(1,(.ptr 0 0)),(3,(.ptr 1 0))],[(.st 1),(.st 1)],0,81,[]⟩,λx=>zbc n x.1 x.2.1 x.2.2.1⟩),(1,⟨⟨[(1,(.ptr 0 0)),(3,(.ptr 1 0)),(4,(.d (.int .i64))),(46,(.d .bool))],[(.st 1),(.st 1)],0,81,[]⟩,λx=>zb0 n x.1 x.2.1 x.2.2.1 x.2.2.2.1⟩),(2,⟨⟨[(53,(.d (.int .i64))),(51,(.d (.sl (.st 1)))),(3,(.ptr 0 0)),(52,(.d (.int .i64)))],[(.st 1)],0,81,[]⟩,λx=>zbb n x.1 x.2.1 x.2.2.1 x.2.2.2.1⟩),(3,⟨⟨[(3,(.ptr 0 0))],[(.st 1)],0,81,[]⟩,λx=>z3y n x.1⟩)]) (ann [(40,0),(51,1),(65,2),(87,3)] (Tryz.f200.body.getD .skip) 0).1
noncomputable def y3x:List (FI dat):=[zbp]++[zct]
theorem y4m:(zbp).Good Tryz.prog dat (tb y3x):=FI.zz2 (hD:=zz0 _) Tryz.func200 Tryz.ntmps200 Tryz.call200 (by kernel_rfl) (Qac (by kernel_rfl)) (by kernel_rfl) (λn=>by kernel_rfl) (λx=>by kernel_rfl) (λ_=>rfl) ⟨λ_=>rfl,λ_=>rfl,λ_=>rfl,λ_=>rfl,trivial⟩
 (λn=>λx=>(zh1.eq_2 _ n).trans (by kernel_rfl))
 (λn=>⟨λx=>(zbc.eq_2 _ _ _ n).trans (by kernel_rfl),
  λx=>(zb0.eq_2 _ _ _ _ n).trans (by kernel_rfl),
  λx=>(zbb.eq_2 _ _ _ _ n).trans (by kernel_rfl),
  λx=>(z3y.eq_2 _ n).trans (by kernel_rfl),
  trivial⟩)
 (λx=>.inl rfl)
theorem y6n:OkL Tryz.prog [zbp]:=zg4 (zz0 _) (bs:=[zct]) ⟨zwt,trivial⟩ ⟨y4m,trivial⟩
theorem y1n:FOk Tryz.prog zbp:=y6n.1
mutual
def zix:Nat->yz0->Option Int
 |0,_=>none
 |n+1,a0=>
  (zbl n a0.re).bind λy0=>
  pIf (decide (y0.1>100))
   (z8t n true a0.re)
   (z8t n (decide (y0.2>6)) a0.re)
def z8t:Nat->Bool->yz0->Option Int
 |0,_,_=>none
 |n+1,a0,a1=>
  pIf a0
   (some 4)
   ((zh1 n a1.re).bind λy1=>
   pIf (!y1)
    (some 8)
    (some 0))
end
def y26:LSh:=⟨[(2,(.d (.int .i64)))],[],0,19,[]⟩
noncomputable def zdf:FI dat:=FI.of dat 169 19 0 [(.d (.st 1))] [] [(.d (.int .i64))] [] true y26 (R:=Int) (λx=>x.1) (λr=>(r,())) (λn x=>zix n x.1)
 (λn=>[(0,⟨⟨[(1,(.ptr 0 0)),(15,(.d .bool))],[(.st 1)],0,19,[]⟩,λx=>z8t n x.1 x.2.1⟩)]) (ann [(7,0)] (Tryz.f169.body.getD .skip) 0).1
noncomputable def y2c:List (FI dat):=[z4m,zbp]
theorem y0z:(zdf).Good Tryz.prog dat (tb y2c):=FI.zz2 (hD:=zz0 _) Tryz.func169 Tryz.ntmps169 Tryz.call169 (by kernel_rfl) (Qac (by kernel_rfl)) (by kernel_rfl) (λn=>by kernel_rfl) (λx=>by kernel_rfl) (λ_=>rfl) ⟨λ_=>rfl,trivial⟩
 (λn=>λx=>(zix.eq_2 _ n).trans (by kernel_rfl))
 (λn=>⟨λx=>(z8t.eq_2 _ _ n).trans (by kernel_rfl),
  trivial⟩)
 (λx=>.inl rfl)
theorem y1f:OkL Tryz.prog [zdf]:=zz3 (zz0 _) (bs:=[z4m,zbp]) ⟨zsp,y1n,trivial⟩ y0z
theorem zwb:FOk Tryz.prog zdf:=y1f.1
def zkw:Nat->(List UInt8)->Option Bool
 |0,_=>none
 |n+1,a0=>
  (z1y n a0).bind λy0=>
  pIf y0
   (pIf (!(a0==[116,114,117,101]))
     (some (!(a0==[102,97,108,115,101])))
     (some false))
   (some false)
def y6e:LSh:=⟨[(2,(.d .bool))],[],0,13,[]⟩
noncomputable def zfe:FI dat:=FI.of dat 170 13 0 [(.d .str)] [] [(.d .bool)] [] true y6e (R:=Bool) (λx=>x.1) (λr=>(r,())) (λn x=>zkw n x.1)
 (λn=>[]) (ann [] (Tryz.f170.body.getD .skip) 0).1
noncomputable def y60:List (FI dat):=[z0g]
theorem y5x:(zfe).Good Tryz.prog dat (tb y60):=FI.zz2 (hD:=zz0 _) Tryz.func170 Tryz.ntmps170 Tryz.call170 (by kernel_rfl) (Qac (by kernel_rfl)) (by kernel_rfl) (λn=>by kernel_rfl) (λx=>by kernel_rfl) (λ_=>rfl) trivial
 (λn=>λx=>(zkw.eq_2 _ n).trans (by kernel_rfl))
 (λn=>trivial)
 (λx=>.inl rfl)
theorem y7b:OkL Tryz.prog [zfe]:=zz3 (zz0 _) (bs:=[z0g]) ⟨zcy,trivial⟩ y5x
theorem y0k:FOk Tryz.prog zfe:=y7b.1
mutual
def z7m:Nat->yz0->yz0->Option Bool
 |0,_,_=>none
 |n+1,a0,a1=>
  pIf (a0.kind != a1.kind)
   (z1v n true a1.re a0.re)
   (pIf (!((a0.num.num==a1.num.num)&&((a0.num.den==a1.num.den)&&true)))
     (z1v n true a1.re a0.re)
     (pIf (!(a0.truth==a1.truth))
       (z1v n true a1.re a0.re)
       (pIf (!(a0.str==a1.str))
         (z1v n true a1.re a0.re)
         (z1v n ((a0.list.length:Int) != (a1.list.length:Int)) a1.re a0.re))))
def z1v:Nat->Bool->yz0->yz0->Option Bool
 |0,_,_,_=>none
 |n+1,a0,a1,a2=>
  pIf a0
   (some false)
   (zat n 0 (a2.list.length:Int) a1.re a2.re)
def zat:Nat->Int->Int->yz0->yz0->Option Bool
 |0,_,_,_,_=>none
 |n+1,a0,a1,a2,a3=>
  pIf (decide (a0<a1))
   ((ix a3.list a0).bind λx0=>
   (ix a2.list a0).bind λx1=>
   (z7m n x0.re x1.re).bind λy2=>
   pIf (!y2)
    (some false)
    (zat n (IntKind.i64.wrap (a0+1)) a1 a2.re a3.re))
   (some true)
end
def y7v:LSh:=⟨[(4,(.d .bool))],[],0,60,[]⟩
noncomputable def z56:FI dat:=FI.of dat 100 60 0 [(.d (.st 1)),(.d (.st 1))] [] [(.d .bool)] [] true y7v (R:=Bool) (λx=>x.1) (λr=>(r,())) (λn x=>z7m n x.1 x.2.1)
 (λn=>[(0,⟨⟨[(3,(.ptr 0 0)),(2,(.ptr 1 0)),(40,(.d .bool))],[(.st 1),(.st 1)],0,60,[]⟩,λx=>z1v n x.1 x.2.1 x.2.2.1⟩),(1,⟨⟨[(44,(.d (.int .i64))),(3,(.ptr 0 0)),(2,(.ptr 1 0)),(43,(.d (.int .i64)))],[(.st 1),(.st 1)],0,60,[]⟩,λx=>zat n x.1 x.2.1 x.2.2.1 x.2.2.2.1⟩)]) (ann [(5,0),(14,1)] (Tryz.f100.body.getD .skip) 0).1
noncomputable def y62:List (FI dat):=[z56]++[]
theorem y5w:(z56).Good Tryz.prog dat (tb y62):=FI.zz2 (hD:=zz0 _) Tryz.func100 Tryz.ntmps100 Tryz.call100 (by kernel_rfl) (Qac (by kernel_rfl)) (by kernel_rfl) (λn=>by kernel_rfl) (λx=>by kernel_rfl) (λ_=>rfl) ⟨λ_=>rfl,λ_=>rfl,trivial⟩
 (λn=>λx=>(z7m.eq_2 _ _ n).trans (by kernel_rfl))
 (λn=>⟨λx=>(z1v.eq_2 _ _ _ n).trans (by kernel_rfl),
  λx=>(zat.eq_2 _ _ _ _ n).trans (by kernel_rfl),
  trivial⟩)
 (λx=>.inl rfl)
theorem y4r:OkL Tryz.prog [z56]:=zg4 (zz0 _) (bs:=[]) trivial ⟨y5w,trivial⟩
theorem zoz:FOk Tryz.prog z56:=y4r.1
mutual
def zim:Nat->kz0->Option Bool
 |0,_=>none
 |n+1,a0=>
  (zkg n a0.op).bind λy0=>
  pIf (y0==(-2))
   (z7h n true a0.re)
   (pIf (decide (y0>=0))
     (z7h n ((a0.args.length:Int) != y0) a0.re)
     (z7h n false a0.re))
def z7h:Nat->Bool->kz0->Option Bool
 |0,_,_=>none
 |n+1,a0,a1=>
  pIf a0
   (some false)
   (pIf (a1.op==1)
     ((zix n a1.value.re).bind λy1=>
     pIf (y1 != 0)
      (z7c n true a1.re)
      (pIf (a1.value.kind==4)
        (z7c n true a1.re)
        (z7c n (!(a1.name==[])) a1.re)))
     (pIf (a1.op==2)
       ((zkw n a1.name).bind λy2=>
       pIf (!y2)
        (zdo n true a1.re)
        ((z7m n a1.value.re (yz0.mk 0 (yz2.mk 0 0) false [] [])).bind λy3=>
        zdo n (!y3) a1.re))
       (pIf (!(a1.name==[]))
         (zdy n true a1.re)
         ((z7m n a1.value.re (yz0.mk 0 (yz2.mk 0 0) false [] [])).bind λy4=>
         zdy n (!y4) a1.re))))
def z7c:Nat->Bool->kz0->Option Bool
 |0,_,_=>none
 |n+1,a0,a1=>
  pIf a0
   (some false)
   (z7j n a1.re)
def zdo:Nat->Bool->kz0->Option Bool
 |0,_,_=>none
 |n+1,a0,a1=>
  pIf a0
   (some false)
   (z7j n a1.re)
def zdy:Nat->Bool->kz0->Option Bool
 |0,_,_=>none
 |n+1,a0,a1=>
  pIf a0
   (some false)
   (z7j n a1.re)
def z7j:Nat->kz0->Option Bool
 |0,_=>none
 |n+1,a0=>
  (yzv n a0.args).bind λy5=>
  some (!y5)
def yzv:Nat->(List kz0)->Option Bool
 |0,_=>none
 |n+1,a0=>
  (yzz n a0).bind λy0=>
  some (decide (y0>=0))
def yzz:Nat->(List kz0)->Option Int
 |0,_=>none
 |n+1,a0=>
  zzh n 0 a0 (a0.length:Int)
def zzh:Nat->Int->(List kz0)->Int->Option Int
 |0,_,_,_=>none
 |n+1,a0,a1,a2=>
  pIf (decide (a0<a2))
   ((ix a1 a0).bind λx0=>
   (zj9 n x0.re).bind λy1=>
   pIf y1
    (some a0)
    (zzh n (IntKind.i64.wrap (a0+1)) a1 a2))
   (some (-1))
def zj9:Nat->kz0->Option Bool
 |0,_=>none
 |n+1,a0=>
  (zim n a0.re).bind λy0=>
  some (!y0)
end
def ya1:LSh:=⟨[(2,(.d .bool))],[],0,66,[]⟩
noncomputable def zek:FI dat:=FI.of dat 129 66 0 [(.d (.st 2))] [] [(.d .bool)] [] true ya1 (R:=Bool) (λx=>x.1) (λr=>(r,())) (λn x=>zim n x.1)
 (λn=>[(0,⟨⟨[(1,(.ptr 0 0)),(19,(.d .bool))],[(.st 2)],0,66,[]⟩,λx=>z7h n x.1 x.2.1⟩),(1,⟨⟨[(1,(.ptr 0 0)),(48,(.d .bool))],[(.st 2)],0,66,[]⟩,λx=>z7c n x.1 x.2.1⟩),(2,⟨⟨[(1,(.ptr 0 0)),(61,(.d .bool))],[(.st 2)],0,66,[]⟩,λx=>zdo n x.1 x.2.1⟩),(3,⟨⟨[(1,(.ptr 0 0)),(31,(.d .bool))],[(.st 2)],0,66,[]⟩,λx=>zdy n x.1 x.2.1⟩),(4,⟨⟨[(1,(.ptr 0 0))],[(.st 2)],0,66,[]⟩,λx=>z7j n x.1⟩)]) (ann [(7,0),(21,1),(31,2),(38,3),(43,4)] (Tryz.f129.body.getD .skip) 0).1
def z6p:LSh:=⟨[(4,(.d .bool))],[],0,9,[]⟩
noncomputable def yzw:FI dat:=FI.of dat 38 9 0 [(.d (.sl (.st 2))),(.fn 171 [] [])] [] [(.d .bool)] [] true z6p (R:=Bool) (λx=>x.1) (λr=>(r,())) (λn x=>yzv n x.1)
 (λn=>[]) (ann [] (Tryz.f38.body.getD .skip) 0).1
def z92:LSh:=⟨[(4,(.d (.int .i64)))],[],0,19,[]⟩
noncomputable def z04:FI dat:=FI.of dat 83 19 0 [(.d (.sl (.st 2))),(.fn 171 [] [])] [] [(.d (.int .i64))] [] true z92 (R:=Int) (λx=>x.1) (λr=>(r,())) (λn x=>yzz n x.1)
 (λn=>[(0,⟨⟨[(8,(.d (.int .i64))),(0,(.d (.sl (.st 2)))),(1,(.fn 171 [] [])),(7,(.d (.int .i64)))],[],0,19,[]⟩,λx=>zzh n x.1 x.2.1 x.2.2.1⟩)]) (ann [(6,0)] (Tryz.f83.body.getD .skip) 0).1
def y2h:LSh:=⟨[(2,(.d .bool))],[],0,6,[]⟩
noncomputable def zko:FI dat:=FI.of dat 171 6 0 [(.d (.st 2))] [] [(.d .bool)] [] true y2h (R:=Bool) (λx=>x.1) (λr=>(r,())) (λn x=>zj9 n x.1)
 (λn=>[]) (ann [] (Tryz.f171.body.getD .skip) 0).1
noncomputable def zjt:List (FI dat):=[zek,yzw,z04,zko]++[zfk,zdf,zfe,z56]
theorem y94:(zek).Good Tryz.prog dat (tb zjt):=FI.zz2 (hD:=zz0 _) Tryz.func129 Tryz.ntmps129 Tryz.call129 (by kernel_rfl) (Qac (by kernel_rfl)) (by kernel_rfl) (λn=>by kernel_rfl) (λx=>by kernel_rfl) (λ_=>rfl) ⟨λ_=>rfl,λ_=>rfl,λ_=>rfl,λ_=>rfl,λ_=>rfl,trivial⟩
 (λn=>λx=>(zim.eq_2 _ n).trans (by kernel_rfl))
 (λn=>⟨λx=>(z7h.eq_2 _ _ n).trans (by kernel_rfl),
  λx=>(z7c.eq_2 _ _ n).trans (by kernel_rfl),
  λx=>(zdo.eq_2 _ _ n).trans (by kernel_rfl),
  λx=>(zdy.eq_2 _ _ n).trans (by kernel_rfl),
  λx=>(z7j.eq_2 _ n).trans (by kernel_rfl),
  trivial⟩)
 (λx=>.inl rfl)
theorem z6h:(yzw).Good Tryz.prog dat (tb zjt):=FI.zz2 (hD:=zz0 _) Tryz.func38 Tryz.ntmps38 Tryz.call38 (by kernel_rfl) (Qac (by kernel_rfl)) (by kernel_rfl) (λn=>by kernel_rfl) (λx=>by kernel_rfl) (λ_=>rfl) trivial
 (λn=>λx=>(yzv.eq_2 _ n).trans (by kernel_rfl))
 (λn=>trivial)
 (λx=>.inl rfl)
theorem z9d:(z04).Good Tryz.prog dat (tb zjt):=FI.zz2 (hD:=zz0 _) Tryz.func83 Tryz.ntmps83 Tryz.call83 (by kernel_rfl) (Qac (by kernel_rfl)) (by kernel_rfl) (λn=>by kernel_rfl) (λx=>by kernel_rfl) (λ_=>rfl) ⟨λ_=>rfl,trivial⟩
 (λn=>λx=>(yzz.eq_2 _ n).trans (by kernel_rfl))
 (λn=>⟨λx=>(zzh.eq_2 _ _ _ n).trans (by kernel_rfl),
  trivial⟩)
 (λx=>.inl rfl)
theorem y38:(zko).Good Tryz.prog dat (tb zjt):=FI.zz2 (hD:=zz0 _) Tryz.func171 Tryz.ntmps171 Tryz.call171 (by kernel_rfl) (Qac (by kernel_rfl)) (by kernel_rfl) (λn=>by kernel_rfl) (λx=>by kernel_rfl) (λ_=>rfl) trivial
 (λn=>λx=>(zj9.eq_2 _ n).trans (by kernel_rfl))
 (λn=>trivial)
 (λx=>.inl rfl)
theorem y8f:OkL Tryz.prog [zek,yzw,z04,zko]:=zg4 (zz0 _) (bs:=[zfk,zdf,zfe,z56]) ⟨y0p,zwb,y0k,zoz,trivial⟩ ⟨y94,z6h,z9d,y38,trivial⟩
theorem y6z:FOk Tryz.prog zek:=y8f.1
mutual
def z5g:Nat->kz0->Option Int
 |0,_=>none
 |n+1,a0=>
  (zdm n a0.re).bind λy0=>
  pIf (decide (y0.1>100))
   (zc3 n true a0.re)
   (zc3 n (decide (y0.2>12)) a0.re)
def zc3:Nat->Bool->kz0->Option Int
 |0,_,_=>none
 |n+1,a0,a1=>
  pIf a0
   (some 4)
   ((zim n a1.re).bind λy1=>
   pIf (!y1)
    (some 8)
    (some 0))
end
def y4p:LSh:=⟨[(2,(.d (.int .i64)))],[],0,19,[]⟩
noncomputable def z3p:FI dat:=FI.of dat 78 19 0 [(.d (.st 2))] [] [(.d (.int .i64))] [] true y4p (R:=Int) (λx=>x.1) (λr=>(r,())) (λn x=>z5g n x.1)
 (λn=>[(0,⟨⟨[(1,(.ptr 0 0)),(15,(.d .bool))],[(.st 2)],0,19,[]⟩,λx=>zc3 n x.1 x.2.1⟩)]) (ann [(7,0)] (Tryz.f78.body.getD .skip) 0).1
noncomputable def y4u:List (FI dat):=[z5n,zek]
theorem y5d:(z3p).Good Tryz.prog dat (tb y4u):=FI.zz2 (hD:=zz0 _) Tryz.func78 Tryz.ntmps78 Tryz.call78 (by kernel_rfl) (Qac (by kernel_rfl)) (by kernel_rfl) (λn=>by kernel_rfl) (λx=>by kernel_rfl) (λ_=>rfl) ⟨λ_=>rfl,trivial⟩
 (λn=>λx=>(z5g.eq_2 _ n).trans (by kernel_rfl))
 (λn=>⟨λx=>(zc3.eq_2 _ _ n).trans (by kernel_rfl),
  trivial⟩)
 (λx=>.inl rfl)
theorem y73:OkL Tryz.prog [z3p]:=zz3 (zz0 _) (bs:=[z5n,zek]) ⟨zup,y6z,trivial⟩ y5d
theorem zku:FOk Tryz.prog z3p:=y73.1
def zff:Nat->(List UInt8)->Option Bool
 |0,_=>none
 |n+1,a0=>
  (z47 n a0).bind λy0=>
  some (!y0)
def ztb:LSh:=⟨[(2,(.d .bool))],[],0,6,[]⟩
noncomputable def z5r:FI dat:=FI.of dat 79 6 0 [(.d .str)] [] [(.d .bool)] [] true ztb (R:=Bool) (λx=>x.1) (λr=>(r,())) (λn x=>zff n x.1)
 (λn=>[]) (ann [] (Tryz.f79.body.getD .skip) 0).1
noncomputable def zt8:List (FI dat):=[z25]
theorem zt4:(z5r).Good Tryz.prog dat (tb zt8):=FI.zz2 (hD:=zz0 _) Tryz.func79 Tryz.ntmps79 Tryz.call79 (by kernel_rfl) (Qac (by kernel_rfl)) (by kernel_rfl) (λn=>by kernel_rfl) (λx=>by kernel_rfl) (λ_=>rfl) trivial
 (λn=>λx=>(zff.eq_2 _ n).trans (by kernel_rfl))
 (λn=>trivial)
 (λx=>.inl rfl)
theorem zsk:OkL Tryz.prog [z5r]:=zz3 (zz0 _) (bs:=[z25]) ⟨zj7,trivial⟩ zt4
theorem zrn:FOk Tryz.prog z5r:=zsk.1
mutual
def z0o:Nat->(List (List UInt8))->Option Int
 |0,_=>none
 |n+1,a0=>
  kzo n 0 a0 (a0.length:Int)
def kzo:Nat->Int->(List (List UInt8))->Int->Option Int
 |0,_,_,_=>none
 |n+1,a0,a1,a2=>
  pIf (decide (a0<a2))
   ((ix a1 a0).bind λx0=>
   (zff n x0).bind λy1=>
   pIf y1
    (some a0)
    (kzo n (IntKind.i64.wrap (a0+1)) a1 a2))
   (some (-1))
end
def zdc:LSh:=⟨[(4,(.d (.int .i64)))],[],0,19,[]⟩
noncomputable def zzk:FI dat:=FI.of dat 95 19 0 [(.d (.sl .str)),(.fn 79 [] [])] [] [(.d (.int .i64))] [] true zdc (R:=Int) (λx=>x.1) (λr=>(r,())) (λn x=>z0o n x.1)
 (λn=>[(0,⟨⟨[(8,(.d (.int .i64))),(0,(.d (.sl .str))),(1,(.fn 79 [] [])),(7,(.d (.int .i64)))],[],0,19,[]⟩,λx=>kzo n x.1 x.2.1 x.2.2.1⟩)]) (ann [(6,0)] (Tryz.f95.body.getD .skip) 0).1
noncomputable def zd8:List (FI dat):=[z5r]
theorem zcq:(zzk).Good Tryz.prog dat (tb zd8):=FI.zz2 (hD:=zz0 _) Tryz.func95 Tryz.ntmps95 Tryz.call95 (by kernel_rfl) (Qac (by kernel_rfl)) (by kernel_rfl) (λn=>by kernel_rfl) (λx=>by kernel_rfl) (λ_=>rfl) ⟨λ_=>rfl,trivial⟩
 (λn=>λx=>(z0o.eq_2 _ n).trans (by kernel_rfl))
 (λn=>⟨λx=>(kzo.eq_2 _ _ _ n).trans (by kernel_rfl),
  trivial⟩)
 (λx=>.inl rfl)
theorem zdd:OkL Tryz.prog [zzk]:=zz3 (zz0 _) (bs:=[z5r]) ⟨zrn,trivial⟩ zcq
theorem zcg:FOk Tryz.prog zzk:=zdd.1
def z06:Nat->(List (List UInt8))->Option Bool
 |0,_=>none
 |n+1,a0=>
  (z0o n a0).bind λy0=>
  some (decide (y0>=0))
def zai:LSh:=⟨[(4,(.d .bool))],[],0,9,[]⟩
noncomputable def kzc:FI dat:=FI.of dat 47 9 0 [(.d (.sl .str)),(.fn 79 [] [])] [] [(.d .bool)] [] true zai (R:=Bool) (λx=>x.1) (λr=>(r,())) (λn x=>z06 n x.1)
 (λn=>[]) (ann [] (Tryz.f47.body.getD .skip) 0).1
noncomputable def z9s:List (FI dat):=[zzk]
theorem z9x:(kzc).Good Tryz.prog dat (tb z9s):=FI.zz2 (hD:=zz0 _) Tryz.func47 Tryz.ntmps47 Tryz.call47 (by kernel_rfl) (Qac (by kernel_rfl)) (by kernel_rfl) (λn=>by kernel_rfl) (λx=>by kernel_rfl) (λ_=>rfl) trivial
 (λn=>λx=>(z06.eq_2 _ n).trans (by kernel_rfl))
 (λn=>trivial)
 (λx=>.inl rfl)
theorem za0:OkL Tryz.prog [kzc]:=zz3 (zz0 _) (bs:=[zzk]) ⟨zcg,trivial⟩ z9x
theorem z9f:FOk Tryz.prog kzc:=za0.1
def zd9:Nat->(List kz0)->Option kz0
 |0,_=>none
 |n+1,a0=>
  some (kz0.mk 18 (yz0.mk 0 (yz2.mk 0 0) false [] []) [] a0)
def y6i:LSh:=⟨[(2,(.ptr 0 0))],[(.st 2)],0,5,[]⟩
noncomputable def z79:FI dat:=FI.of dat 99 5 0 [(.d (.sl (.st 2)))] [] [(.d (.st 2))] [] true y6i (R:=kz0) (λx=>x.1) (λr=>(r,())) (λn x=>zd9 n x.1)
 (λn=>[]) (ann [] (Tryz.f99.body.getD .skip) 0).1
noncomputable def y82:List (FI dat):=[]
theorem y84:(z79).Good Tryz.prog dat (tb y82):=FI.zz2 (hD:=zz0 _) Tryz.func99 Tryz.ntmps99 Tryz.call99 (by kernel_rfl) (Qac (by kernel_rfl)) (by kernel_rfl) (λn=>by kernel_rfl) (λx=>by kernel_rfl) (λ_=>rfl) trivial
 (λn=>λx=>(zd9.eq_2 _ n).trans (by kernel_rfl))
 (λn=>trivial)
 (λx=>.inl rfl)
theorem y79:OkL Tryz.prog [z79]:=zz3 (zz0 _) (bs:=[]) trivial y84
theorem zp7:FOk Tryz.prog z79:=y79.1
mutual
def zf1:Nat->Int->Option Int
 |0,_=>none
 |n+1,a0=>
  pIf (a0==2)
   (zds n a0 true)
   (zds n a0 (a0==3))
def zds:Nat->Int->Bool->Option Int
 |0,_,_=>none
 |n+1,a0,a1=>
  pIf a1
   (some 3)
   (pIf (a0==4)
     (zdw n true)
     (zdw n (a0==6)))
def zdw:Nat->Bool->Option Int
 |0,_=>none
 |n+1,a0=>
  pIf a0
   (some 1)
   (some 0)
end
def y9k:LSh:=⟨[(2,(.d (.int .i64)))],[],0,10,[]⟩
noncomputable def z9m:FI dat:=FI.of dat 84 10 0 [(.d (.int .u8))] [] [(.d (.int .i64))] [] true y9k (R:=Int) (λx=>x.1) (λr=>(r,())) (λn x=>zf1 n x.1)
 (λn=>[(0,⟨⟨[(3,(.d (.int .u8))),(4,(.d .bool))],[],0,10,[]⟩,λx=>zds n x.1 x.2.1⟩),(1,⟨⟨[(7,(.d .bool))],[],0,10,[]⟩,λx=>zdw n x.1⟩)]) (ann [(12,0),(22,1)] (Tryz.f84.body.getD .skip) 0).1
noncomputable def yav:List (FI dat):=[]
theorem y9s:(z9m).Good Tryz.prog dat (tb yav):=FI.zz2 (hD:=zz0 _) Tryz.func84 Tryz.ntmps84 Tryz.call84 (by kernel_rfl) (Qac (by kernel_rfl)) (by kernel_rfl) (λn=>by kernel_rfl) (λx=>by kernel_rfl) (λ_=>rfl) ⟨λ_=>rfl,λ_=>rfl,trivial⟩
 (λn=>λx=>(zf1.eq_2 _ n).trans (by kernel_rfl))
 (λn=>⟨λx=>(zds.eq_2 _ _ n).trans (by kernel_rfl),
  λx=>(zdw.eq_2 _ n).trans (by kernel_rfl),
  trivial⟩)
 (λx=>.inl rfl)
theorem y92:OkL Tryz.prog [z9m]:=zz3 (zz0 _) (bs:=[]) trivial y9s
theorem zro:FOk Tryz.prog z9m:=y92.1
mutual
def zck:Nat->yz3->Option Bool
 |0,_=>none
 |n+1,a0=>
  pIf (decide (a0.kind>=1))
   (z3o n (decide (a0.kind<=4)) a0)
   (z3o n false a0)
def z3o:Nat->Bool->yz3->Option Bool
 |0,_,_=>none
 |n+1,a0,a1=>
  pIf (a1.kind==4)
   (z3t n a0 0 true a1)
   (z3t n a0 0 (a1.kind==5) a1)
def z3t:Nat->Bool->Int->Bool->yz3->Option Bool
 |0,_,_,_,_=>none
 |n+1,a0,a1,a2,a3=>
  pIf a2
   (z3s n a0 2 a3)
   (z3s n a0 a1 a3)
def z3s:Nat->Bool->Int->yz3->Option Bool
 |0,_,_,_=>none
 |n+1,a0,a1,a2=>
  pIf (decide (a2.kind<1))
   (z1g n a0 true a2)
   (pIf (decide (a2.kind>6))
     (z1g n a0 true a2)
     (z1g n a0 (decide (a2.axis>a1)) a2))
def z1g:Nat->Bool->Bool->yz3->Option Bool
 |0,_,_,_=>none
 |n+1,a0,a1,a2=>
  pIf a1
   (some false)
   ((z47 n a2.name).bind λy0=>
   pIf (!(a0==y0))
    (z1b n a0 true a2)
    (pIf (!a0)
      (z1b n a0 (!(a2.name==[])) a2)
      (z1b n a0 false a2)))
def z1b:Nat->Bool->Bool->yz3->Option Bool
 |0,_,_,_=>none
 |n+1,a0,a1,a2=>
  pIf a1
   (some false)
   ((zd9 n a2.args).bind λy1=>
   (z5g n y1.re).bind λy2=>
   pIf (y2 != 0)
    (z0j n true a2)
    ((zf1 n a2.kind).bind λy3=>
    pIf (decide ((a2.args.length:Int)<y3))
     (z0j n true a2)
     (pIf (!a0)
       ((zf1 n a2.kind).bind λy4=>
       z0j n ((a2.args.length:Int) != y4) a2)
       (z0j n false a2))))
def z0j:Nat->Bool->yz3->Option Bool
 |0,_,_=>none
 |n+1,a0,a1=>
  pIf a0
   (some false)
   (pIf (!((a1.kind==5)==(decide ((a1.items.length:Int)>0))))
     (some false)
     (z3q n 0 a1.items (a1.items.length:Int)))
def z3q:Nat->Int->(List zzu)->Int->Option Bool
 |0,_,_,_=>none
 |n+1,a0,a1,a2=>
  pIf (decide (a0<a2))
   ((ix a1 a0).bind λx5=>
   pIf (decide (x5.kind<1))
    (kzw n a1 a2 a0 true)
    (pIf (decide (x5.kind>3))
      (kzw n a1 a2 a0 true)
      ((z47 n x5.name).bind λy6=>
      pIf (!y6)
       (kzw n a1 a2 a0 true)
       (pIf ((x5.args.length:Int)==0)
         (kzw n a1 a2 a0 true)
         ((zd9 n x5.args).bind λy7=>
         (z5g n y7.re).bind λy8=>
         kzw n a1 a2 a0 (y8 != 0))))))
   (some true)
def kzw:Nat->(List zzu)->Int->Int->Bool->Option Bool
 |0,_,_,_,_=>none
 |n+1,a0,a1,a2,a3=>
  pIf a3
   (some false)
   (z3q n (IntKind.i64.wrap (a2+1)) a0 a1)
end
def zqi:LSh:=⟨[(2,(.d .bool))],[],0,125,[]⟩
noncomputable def z45:FI dat:=FI.of dat 80 125 0 [(.d (.st 5))] [] [(.d .bool)] [] true zqi (R:=Bool) (λx=>x.1) (λr=>(r,())) (λn x=>zck n x.1)
 (λn=>[(0,⟨⟨[(1,(.ptr 0 0)),(3,(.d .bool))],[(.st 5)],0,125,[]⟩,λx=>z3o n x.1 x.2.1⟩),(1,⟨⟨[(1,(.ptr 0 0)),(3,(.d .bool)),(4,(.d (.int .u8))),(22,(.d .bool))],[(.st 5)],0,125,[]⟩,λx=>z3t n x.1 x.2.1 x.2.2.1 x.2.2.2.1⟩),(2,⟨⟨[(1,(.ptr 0 0)),(3,(.d .bool)),(4,(.d (.int .u8)))],[(.st 5)],0,125,[]⟩,λx=>z3s n x.1 x.2.1 x.2.2.1⟩),(3,⟨⟨[(1,(.ptr 0 0)),(3,(.d .bool)),(23,(.d .bool))],[(.st 5)],0,125,[]⟩,λx=>z1g n x.1 x.2.1 x.2.2.1⟩),(4,⟨⟨[(1,(.ptr 0 0)),(3,(.d .bool)),(38,(.d .bool))],[(.st 5)],0,125,[]⟩,λx=>z1b n x.1 x.2.1 x.2.2.1⟩),(5,⟨⟨[(1,(.ptr 0 0)),(53,(.d .bool))],[(.st 5)],0,125,[]⟩,λx=>z0j n x.1 x.2.1⟩),(6,⟨⟨[(93,(.d (.int .i64))),(91,(.d (.sl (.st 4)))),(92,(.d (.int .i64)))],[],0,125,[]⟩,λx=>z3q n x.1 x.2.1 x.2.2.1⟩),(7,⟨⟨[(91,(.d (.sl (.st 4)))),(92,(.d (.int .i64))),(93,(.d (.int .i64))),(123,(.d .bool))],[],0,125,[]⟩,λx=>kzw n x.1 x.2.1 x.2.2.1 x.2.2.2.1⟩)]) (ann [(4,0),(9,1),(12,2),(16,3),(22,4),(28,5),(43,6),(56,7)] (Tryz.f80.body.getD .skip) 0).1
noncomputable def zpp:List (FI dat):=[z25,z79,z3p,z9m]
theorem zpo:(z45).Good Tryz.prog dat (tb zpp):=FI.zz2 (hD:=zz0 _) Tryz.func80 Tryz.ntmps80 Tryz.call80 (by kernel_rfl) (Qac (by kernel_rfl)) (by kernel_rfl) (λn=>by kernel_rfl) (λx=>by kernel_rfl) (λ_=>rfl) ⟨λ_=>rfl,λ_=>rfl,λ_=>rfl,λ_=>rfl,λ_=>rfl,λ_=>rfl,λ_=>rfl,λ_=>rfl,trivial⟩
 (λn=>λx=>(zck.eq_2 _ n).trans (by kernel_rfl))
 (λn=>⟨λx=>(z3o.eq_2 _ _ n).trans (by kernel_rfl),
  λx=>(z3t.eq_2 _ _ _ _ n).trans (by kernel_rfl),
  λx=>(z3s.eq_2 _ _ _ n).trans (by kernel_rfl),
  λx=>(z1g.eq_2 _ _ _ n).trans (by kernel_rfl),
  λx=>(z1b.eq_2 _ _ _ n).trans (by kernel_rfl),
  λx=>(z0j.eq_2 _ _ n).trans (by kernel_rfl),
  λx=>(z3q.eq_2 _ _ _ n).trans (by kernel_rfl),
  λx=>(kzw.eq_2 _ _ _ _ n).trans (by kernel_rfl),
  trivial⟩)
 (λx=>.inl rfl)
theorem zpz:OkL Tryz.prog [z45]:=zz3 (zz0 _) (bs:=[z25,z79,z3p,z9m]) ⟨zj7,zp7,zku,zro,trivial⟩ zpo
theorem zo8:FOk Tryz.prog z45:=zpz.1
mutual
def zho:Nat->yz1->Option Bool
 |0,_=>none
 |n+1,a0=>
  z6x n 0 a0.attrs (a0.attrs.length:Int) a0
def z6x:Nat->Int->(List kz4)->Int->yz1->Option Bool
 |0,_,_,_,_=>none
 |n+1,a0,a1,a2,a3=>
  pIf (decide (a0<a2))
   ((ix a1 a0).bind λx0=>
   (z47 n x0.name).bind λy1=>
   pIf (!y1)
    (z6y n a1 a2 a0 true a3)
    ((z5g n x0.value.re).bind λy2=>
    z6y n a1 a2 a0 (y2 != 0) a3))
   (z6w n 0 a3.rules (a3.rules.length:Int))
def z6y:Nat->(List kz4)->Int->Int->Bool->yz1->Option Bool
 |0,_,_,_,_,_=>none
 |n+1,a0,a1,a2,a3,a4=>
  pIf a3
   (some false)
   (z6x n (IntKind.i64.wrap (a2+1)) a0 a1 a4)
def z6w:Nat->Int->(List zz1)->Int->Option Bool
 |0,_,_,_=>none
 |n+1,a0,a1,a2=>
  pIf (decide (a0<a2))
   ((ix a1 a0).bind λx3=>
   (z47 n x3.name).bind λy4=>
   pIf (!y4)
    (z6b n a1 a2 a0 true x3)
    ((z06 n x3.params).bind λy5=>
    z6b n a1 a2 a0 y5 x3))
   (some true)
def z6b:Nat->(List zz1)->Int->Int->Bool->zz1->Option Bool
 |0,_,_,_,_,_=>none
 |n+1,a0,a1,a2,a3,a4=>
  pIf a3
   (some false)
   (z6n n 0 a4.cases a0 a1 a2 (a4.cases.length:Int))
def z6n:Nat->Int->(List kz9)->(List zz1)->Int->Int->Int->Option Bool
 |0,_,_,_,_,_,_=>none
 |n+1,a0,a1,a2,a3,a4,a5=>
  pIf (decide (a0<a5))
   ((ix a1 a0).bind λx6=>
   pIf (decide (x6.weight<1))
    (z43 n a1 a2 a3 a4 a5 a0 true x6.re)
    (pIf (decide (x6.weight>1000000))
      (z43 n a1 a2 a3 a4 a5 a0 true x6.re)
      ((z5g n x6.when_.re).bind λy7=>
      z43 n a1 a2 a3 a4 a5 a0 (y7 != 0) x6.re)))
   (z6w n (IntKind.i64.wrap (a4+1)) a2 a3)
def z43:Nat->(List kz9)->(List zz1)->Int->Int->Int->Int->Bool->kz9->Option Bool
 |0,_,_,_,_,_,_,_,_=>none
 |n+1,a0,a1,a2,a3,a4,a5,a6,a7=>
  pIf a6
   (some false)
   (z74 n 0 a7.do_ a0 a1 a2 a3 a4 a5 (a7.do_.length:Int))
def z74:Nat->Int->(List yz3)->(List kz9)->(List zz1)->Int->Int->Int->Int->Int->Option Bool
 |0,_,_,_,_,_,_,_,_,_=>none
 |n+1,a0,a1,a2,a3,a4,a5,a6,a7,a8=>
  pIf (decide (a0<a8))
   ((ix a1 a0).bind λx8=>
   (zck n x8).bind λy9=>
   pIf (!y9)
    (some false)
    (z74 n (IntKind.i64.wrap (a0+1)) a1 a2 a3 a4 a5 a6 a7 a8))
   (z6n n (IntKind.i64.wrap (a7+1)) a2 a3 a4 a5 a6)
end
def zw7:LSh:=⟨[(2,(.d .bool))],[],0,79,[]⟩
noncomputable def z9y:FI dat:=FI.of dat 35 79 0 [(.d (.st 8))] [] [(.d .bool)] [] true zw7 (R:=Bool) (λx=>x.1) (λr=>(r,())) (λn x=>zho n x.1)
 (λn=>[(0,⟨⟨[(14,(.d (.int .i64))),(12,(.d (.sl (.st 3)))),(1,(.ptr 0 0)),(13,(.d (.int .i64)))],[(.st 8)],0,79,[]⟩,λx=>z6x n x.1 x.2.1 x.2.2.1 x.2.2.2.1⟩),(1,⟨⟨[(12,(.d (.sl (.st 3)))),(1,(.ptr 0 0)),(13,(.d (.int .i64))),(14,(.d (.int .i64))),(27,(.d .bool))],[(.st 8)],0,79,[]⟩,λx=>z6y n x.1 x.2.1 x.2.2.1 x.2.2.2.1 x.2.2.2.2.1⟩),(2,⟨⟨[(32,(.d (.int .i64))),(30,(.d (.sl (.st 7)))),(31,(.d (.int .i64)))],[],0,79,[]⟩,λx=>z6w n x.1 x.2.1 x.2.2.1⟩),(3,⟨⟨[(30,(.d (.sl (.st 7)))),(31,(.d (.int .i64))),(32,(.d (.int .i64))),(6,(.ptr 0 0)),(44,(.d .bool))],[(.st 7)],0,79,[]⟩,λx=>z6b n x.1 x.2.1 x.2.2.1 x.2.2.2.1 x.2.2.2.2.1⟩),(4,⟨⟨[(48,(.d (.int .i64))),(46,(.d (.sl (.st 6)))),(30,(.d (.sl (.st 7)))),(31,(.d (.int .i64))),(32,(.d (.int .i64))),(47,(.d (.int .i64)))],[],0,79,[]⟩,λx=>z6n n x.1 x.2.1 x.2.2.1 x.2.2.2.1 x.2.2.2.2.1 x.2.2.2.2.2.1⟩),(5,⟨⟨[(46,(.d (.sl (.st 6)))),(30,(.d (.sl (.st 7)))),(31,(.d (.int .i64))),(32,(.d (.int .i64))),(47,(.d (.int .i64))),(48,(.d (.int .i64))),(8,(.ptr 0 0)),(65,(.d .bool))],[(.st 6)],0,79,[]⟩,λx=>z43 n x.1 x.2.1 x.2.2.1 x.2.2.2.1 x.2.2.2.2.1 x.2.2.2.2.2.1 x.2.2.2.2.2.2.1 x.2.2.2.2.2.2.2.1⟩),(6,⟨⟨[(69,(.d (.int .i64))),(67,(.d (.sl (.st 5)))),(46,(.d (.sl (.st 6)))),(30,(.d (.sl (.st 7)))),(31,(.d (.int .i64))),(32,(.d (.int .i64))),(47,(.d (.int .i64))),(48,(.d (.int .i64))),(68,(.d (.int .i64)))],[],0,79,[]⟩,λx=>z74 n x.1 x.2.1 x.2.2.1 x.2.2.2.1 x.2.2.2.2.1 x.2.2.2.2.2.1 x.2.2.2.2.2.2.1 x.2.2.2.2.2.2.2.1 x.2.2.2.2.2.2.2.2.1⟩)]) (ann [(6,0),(19,1),(29,2),(43,3),(51,4),(65,5),(73,6)] (Tryz.f35.body.getD .skip) 0).1
noncomputable def zxh:List (FI dat):=[z25,z3p,kzc,z45]
theorem zxk:(z9y).Good Tryz.prog dat (tb zxh):=FI.zz2 (hD:=zz0 _) Tryz.func35 Tryz.ntmps35 Tryz.call35 (by kernel_rfl) (Qac (by kernel_rfl)) (by kernel_rfl) (λn=>by kernel_rfl) (λx=>by kernel_rfl) (λ_=>rfl) ⟨λ_=>rfl,λ_=>rfl,λ_=>rfl,λ_=>rfl,λ_=>rfl,λ_=>rfl,λ_=>rfl,trivial⟩
 (λn=>λx=>(zho.eq_2 _ n).trans (by kernel_rfl))
 (λn=>⟨λx=>(z6x.eq_2 _ _ _ _ n).trans (by kernel_rfl),
  λx=>(z6y.eq_2 _ _ _ _ _ n).trans (by kernel_rfl),
  λx=>(z6w.eq_2 _ _ _ n).trans (by kernel_rfl),
  λx=>(z6b.eq_2 _ _ _ _ _ n).trans (by kernel_rfl),
  λx=>(z6n.eq_2 _ _ _ _ _ _ n).trans (by kernel_rfl),
  λx=>(z43.eq_2 _ _ _ _ _ _ _ _ n).trans (by kernel_rfl),
  λx=>(z74.eq_2 _ _ _ _ _ _ _ _ _ n).trans (by kernel_rfl),
  trivial⟩)
 (λx=>.inl rfl)
theorem zyj:OkL Tryz.prog [z9y]:=zz3 (zz0 _) (bs:=[z25,z3p,kzc,z45]) ⟨zj7,zku,z9f,zo8,trivial⟩ zxk
theorem zv5:FOk Tryz.prog z9y:=zyj.1
mutual
def z1d:Nat->(List UInt8)->(List (List UInt8))->Option (Int×(List (List UInt8)))
 |0,_,_=>none
 |n+1,a0,a1=>
  zzv n 0 a0 (a1.length:Int) a1
def zzv:Nat->Int->(List UInt8)->Int->(List (List UInt8))->Option (Int×(List (List UInt8)))
 |0,_,_,_,_=>none
 |n+1,a0,a1,a2,a3=>
  pIf (decide (a0<a2))
   ((ix a3 a0).bind λx0=>
   pIf (a1==x0)
    (some (a0,a3))
    (zzv n (IntKind.i64.wrap (a0+1)) a1 a2 a3))
   (some ((-1),a3))
end
def zg8:LSh:=⟨[(4,(.d (.int .i64)))],[(.acc 9 .str true)],1,19,[]⟩
noncomputable def zzs:FI dat:=FI.of dat 37 19 1 [(.own 0),(.d .str)] [(.acc 9 .str true)] [(.d (.int .i64))] [(.acc 9 .str true)] false zg8 (R:=Int×(List (List UInt8))) (λx=>(x.1,x.2.1)) (λr=>(r.1,r.2,())) (λn x=>z1d n x.1 x.2.1)
 (λn=>[(0,⟨⟨[(8,(.d (.int .i64))),(0,(.own 0)),(1,(.d .str)),(7,(.d (.int .i64)))],[(.acc 9 .str true)],1,19,[]⟩,λx=>zzv n x.1 x.2.1 x.2.2.1 x.2.2.2.1⟩)]) (ann [(6,0)] (Tryz.f37.body.getD .skip) 0).1
noncomputable def zgd:List (FI dat):=[]
theorem zge:(zzs).Good Tryz.prog dat (tb zgd):=FI.zz2 (hD:=zz0 _) Tryz.func37 Tryz.ntmps37 Tryz.call37 (by kernel_rfl) (Qac (by kernel_rfl)) (by kernel_rfl) (λn=>by kernel_rfl) (λx=>by kernel_rfl) (λ_=>rfl) ⟨λ_=>rfl,trivial⟩
 (λn=>λx=>(z1d.eq_2 _ _ n).trans (by kernel_rfl))
 (λn=>⟨λx=>(zzv.eq_2 _ _ _ _ n).trans (by kernel_rfl),
  trivial⟩)
 (λx=>.inr (by kernel_rfl))
theorem zgc:OkL Tryz.prog [zzs]:=zz3 (zz0 _) (bs:=[]) trivial zge
theorem zfl:FOk Tryz.prog zzs:=zgc.1
def z0s:Nat->(List UInt8)->(List (List UInt8))->Option (Bool×(List (List UInt8)))
 |0,_,_=>none
 |n+1,a0,a1=>
  (z1d n a0 a1).bind λy0=>
  some ((decide (y0.1>=0)),y0.2)
def zej:LSh:=⟨[(4,(.d .bool))],[(.acc 9 .str true)],1,9,[]⟩
noncomputable def yzl:FI dat:=FI.of dat 127 9 1 [(.own 0),(.d .str)] [(.acc 9 .str true)] [(.d .bool)] [(.acc 9 .str true)] false zej (R:=Bool×(List (List UInt8))) (λx=>(x.1,x.2.1)) (λr=>(r.1,r.2,())) (λn x=>z0s n x.1 x.2.1)
 (λn=>[]) (ann [] (Tryz.f127.body.getD .skip) 0).1
noncomputable def ze4:List (FI dat):=[zzs]
theorem zec:(yzl).Good Tryz.prog dat (tb ze4):=FI.zz2 (hD:=zz0 _) Tryz.func127 Tryz.ntmps127 Tryz.call127 (by kernel_rfl) (Qac (by kernel_rfl)) (by kernel_rfl) (λn=>by kernel_rfl) (λx=>by kernel_rfl) (λ_=>rfl) trivial
 (λn=>λx=>(z0s.eq_2 _ _ n).trans (by kernel_rfl))
 (λn=>trivial)
 (λx=>.inr (by kernel_rfl))
theorem ze5:OkL Tryz.prog [yzl]:=zz3 (zz0 _) (bs:=[zzs]) ⟨zfl,trivial⟩ zec
theorem zcz:FOk Tryz.prog yzl:=ze5.1
mutual
def zgu:Nat->kz0->(List (List UInt8))->Option (List (List UInt8))
 |0,_,_=>none
 |n+1,a0,a1=>
  pIf (a0.op==2)
   ((z0s n a0.name a1).bind λy0=>
   zbw n (!y0.1) y0.2 a0.re)
   (zbw n false a1 a0.re)
def zbw:Nat->Bool->(List (List UInt8))->kz0->Option (List (List UInt8))
 |0,_,_,_=>none
 |n+1,a0,a1,a2=>
  pIf a0
   ((ext a1 [a2.name]).bind λx1=>
   zbv n x1 a2.re)
   (zbv n a1 a2.re)
def zbv:Nat->(List (List UInt8))->kz0->Option (List (List UInt8))
 |0,_,_=>none
 |n+1,a0,a1=>
  zb5 n 0 a1.args (a1.args.length:Int) a0
def zb5:Nat->Int->(List kz0)->Int->(List (List UInt8))->Option (List (List UInt8))
 |0,_,_,_,_=>none
 |n+1,a0,a1,a2,a3=>
  pIf (decide (a0<a2))
   ((ix a1 a0).bind λx2=>
   (zgu n x2.re a3).bind λy3=>
   zb5 n (IntKind.i64.wrap (a0+1)) a1 a2 y3)
   (some a3)
end
def y5l:LSh:=⟨[],[(.cells [(.own 1)]),(.acc 9 .str true)],1,38,[]⟩
noncomputable def zbg:FI dat:=FI.of dat 130 38 1 [(.d (.st 2)),(.ptr 0 0)] [(.cells [(.own 1)]),(.acc 9 .str true)] [] [(.cells [(.own 1)]),(.acc 9 .str true)] false y5l (R:=List (List UInt8)) (λx=>x.1) (λr=>(r,())) (λn x=>zgu n x.1 x.2.1)
 (λn=>[(0,⟨⟨[(1,(.ptr 0 0)),(2,(.ptr 2 0)),(17,(.d .bool))],[(.cells [(.own 1)]),(.acc 9 .str true),(.st 2)],1,38,[]⟩,λx=>zbw n x.1 x.2.1 x.2.2.1⟩),(1,⟨⟨[(1,(.ptr 0 0)),(2,(.ptr 2 0))],[(.cells [(.own 1)]),(.acc 9 .str true),(.st 2)],1,38,[]⟩,λx=>zbv n x.1 x.2.1⟩),(2,⟨⟨[(30,(.d (.int .i64))),(1,(.ptr 0 0)),(28,(.d (.sl (.st 2)))),(29,(.d (.int .i64)))],[(.cells [(.own 1)]),(.acc 9 .str true)],1,38,[]⟩,λx=>zb5 n x.1 x.2.1 x.2.2.1 x.2.2.2.1⟩)]) (ann [(5,0),(8,1),(11,2)] (Tryz.f130.body.getD .skip) 0).1
noncomputable def y76:List (FI dat):=[zbg]++[yzl]
theorem y56:(zbg).Good Tryz.prog dat (tb y76):=FI.zz2 (hD:=zz0 _) Tryz.func130 Tryz.ntmps130 Tryz.call130 (by kernel_rfl) (Qac (by kernel_rfl)) (by kernel_rfl) (λn=>by kernel_rfl) (λx=>by kernel_rfl) (λ_=>rfl) ⟨λ_=>rfl,λ_=>rfl,λ_=>rfl,trivial⟩
 (λn=>λx=>(zgu.eq_2 _ _ n).trans (by kernel_rfl))
 (λn=>⟨λx=>(zbw.eq_2 _ _ _ n).trans (by kernel_rfl),
  λx=>(zbv.eq_2 _ _ n).trans (by kernel_rfl),
  λx=>(zb5.eq_2 _ _ _ _ n).trans (by kernel_rfl),
  trivial⟩)
 (λx=>.inr (by kernel_rfl))
theorem y4l:OkL Tryz.prog [zbg]:=zg4 (zz0 _) (bs:=[yzl]) ⟨zcz,trivial⟩ ⟨y56,trivial⟩
theorem y21:FOk Tryz.prog zbg:=y4l.1
def zgv:Nat->kz0->Option ((List (List UInt8))×Int)
 |0,_=>none
 |n+1,a0=>
  (z5g n a0.re).bind λy0=>
  pIf (y0 != 0)
   (some ([],y0))
   ((zgu n a0.re []).bind λy1=>
   (zzy n y1).bind λy2=>
   some (y2,0))
def y4w:LSh:=⟨[(2,(.d (.sl .str))),(3,(.d (.int .i64)))],[],0,16,[]⟩
noncomputable def z6i:FI dat:=FI.of dat 81 16 0 [(.d (.st 2))] [] [(.d (.sl .str)),(.d (.int .i64))] [] true y4w (R:=(List (List UInt8))×Int) (λx=>(x.1,x.2.1)) (λr=>(r.1,r.2,())) (λn x=>zgv n x.1)
 (λn=>[]) (ann [] (Tryz.f81.body.getD .skip) 0).1
noncomputable def y5k:List (FI dat):=[zbg,kzq,z3p]
theorem y7w:(z6i).Good Tryz.prog dat (tb y5k):=FI.zz2 (hD:=zz0 _) Tryz.func81 Tryz.ntmps81 Tryz.call81 (by kernel_rfl) (Qac (by kernel_rfl)) (by kernel_rfl) (λn=>by kernel_rfl) (λx=>by kernel_rfl) (λ_=>rfl) trivial
 (λn=>λx=>(zgv.eq_2 _ n).trans (by kernel_rfl))
 (λn=>trivial)
 (λx=>.inl rfl)
theorem y7o:OkL Tryz.prog [z6i]:=zz3 (zz0 _) (bs:=[zbg,kzq,z3p]) ⟨y21,z7a,zku,trivial⟩ y7w
theorem zp8:FOk Tryz.prog z6i:=y7o.1
def zi7:Nat->(List UInt8)->(List (List UInt8))->(List Bool)->Option (Bool×(List (List UInt8))×(List Bool))
 |0,_,_,_=>none
 |n+1,a0,a1,a2=>
  some ((!(Option.getD (z6u (List.zip a1 a2) a0) false)),(mks (List.zip a1 a2)),(mvs (List.zip a1 a2)))
def zw9:LSh:=⟨[(3,(.d .bool))],[(.cells [(.map 1)]),(.mp 86 .bool)],2,8,[]⟩
noncomputable def z9n:FI dat:=FI.of dat 82 8 2 [(.d .str),(.ptr 0 0)] [(.cells [(.map 1)]),(.mp 86 .bool)] [(.d .bool)] [(.cells [(.map 1)]),(.mp 86 .bool)] false zw9 (R:=Bool×(List (List UInt8))×(List Bool)) (λx=>(x.1,x.2.1,x.2.2.1)) (λr=>(r.1,r.2.1,r.2.2,())) (λn x=>zi7 n x.1 x.2.1 x.2.2.1)
 (λn=>[]) (ann [] (Tryz.f82.body.getD .skip) 0).1
noncomputable def zwr:List (FI dat):=[]
theorem zya:(z9n).Good Tryz.prog dat (tb zwr):=FI.zz2 (hD:=zz0 _) Tryz.func82 Tryz.ntmps82 Tryz.call82 (by kernel_rfl) (Qac (by kernel_rfl)) (by kernel_rfl) (λn=>by kernel_rfl) (λx=>by kernel_rfl) (λ_=>rfl) trivial
 (λn=>λx=>(zi7.eq_2 _ _ _ n).trans (by kernel_rfl))
 (λn=>trivial)
 (λx=>.inr (by kernel_rfl))
theorem zx3:OkL Tryz.prog [z9n]:=zz3 (zz0 _) (bs:=[]) trivial zya
theorem zv0:FOk Tryz.prog z9n:=zx3.1
mutual
def z0m:Nat->(List (List UInt8))->(List (List UInt8))->(List Bool)->Option (Int×(List (List UInt8))×(List Bool))
 |0,_,_,_=>none
 |n+1,a0,a1,a2=>
  zzo n 0 a0 (a0.length:Int) (mks (List.zip a1 a2)) (mvs (List.zip a1 a2))
def zzo:Nat->Int->(List (List UInt8))->Int->(List (List UInt8))->(List Bool)->Option (Int×(List (List UInt8))×(List Bool))
 |0,_,_,_,_,_=>none
 |n+1,a0,a1,a2,a3,a4=>
  pIf (decide (a0<a2))
   ((ix a1 a0).bind λx0=>
   (zi7 n x0 (mks (List.zip a3 a4)) (mvs (List.zip a3 a4))).bind λy1=>
   pIf y1.1
    (some (a0,(mks (List.zip y1.2.1 y1.2.2)),(mvs (List.zip y1.2.1 y1.2.2))))
    (zzo n (IntKind.i64.wrap (a0+1)) a1 a2 (mks (List.zip y1.2.1 y1.2.2)) (mvs (List.zip y1.2.1 y1.2.2))))
   (some ((-1),(mks (List.zip a3 a4)),(mvs (List.zip a3 a4))))
end
def zd2:LSh:=⟨[(4,(.d (.int .i64)))],[(.cells [(.map 1)]),(.mp 86 .bool)],2,19,[]⟩
noncomputable def kzj:FI dat:=FI.of dat 95 19 2 [(.d (.sl .str)),(.fn 82 [] [(.ptr 0 0)])] [(.cells [(.map 1)]),(.mp 86 .bool)] [(.d (.int .i64))] [(.cells [(.map 1)]),(.mp 86 .bool)] false zd2 (R:=Int×(List (List UInt8))×(List Bool)) (λx=>(x.1,x.2.1,x.2.2.1)) (λr=>(r.1,r.2.1,r.2.2,())) (λn x=>z0m n x.1 x.2.1 x.2.2.1)
 (λn=>[(0,⟨⟨[(8,(.d (.int .i64))),(0,(.d (.sl .str))),(1,(.fn 82 [] [(.ptr 0 0)])),(7,(.d (.int .i64)))],[(.cells [(.map 1)]),(.mp 86 .bool)],2,19,[]⟩,λx=>zzo n x.1 x.2.1 x.2.2.1 x.2.2.2.1 x.2.2.2.2.1⟩)]) (ann [(6,0)] (Tryz.f95.body.getD .skip) 0).1
noncomputable def zd6:List (FI dat):=[z9n]
theorem zd4:(kzj).Good Tryz.prog dat (tb zd6):=FI.zz2 (hD:=zz0 _) Tryz.func95 Tryz.ntmps95 Tryz.call95 (by kernel_rfl) (Qac (by kernel_rfl)) (by kernel_rfl) (λn=>by kernel_rfl) (λx=>by kernel_rfl) (λ_=>rfl) ⟨λ_=>rfl,trivial⟩
 (λn=>λx=>(z0m.eq_2 _ _ _ n).trans (by kernel_rfl))
 (λn=>⟨λx=>(zzo.eq_2 _ _ _ _ _ n).trans (by kernel_rfl),
  trivial⟩)
 (λx=>.inr (by kernel_rfl))
theorem zcw:OkL Tryz.prog [kzj]:=zz3 (zz0 _) (bs:=[z9n]) ⟨zv0,trivial⟩ zd4
theorem zcb:FOk Tryz.prog kzj:=zcw.1
def z05:Nat->(List (List UInt8))->(List (List UInt8))->(List Bool)->Option (Bool×(List (List UInt8))×(List Bool))
 |0,_,_,_=>none
 |n+1,a0,a1,a2=>
  (z0m n a0 (mks (List.zip a1 a2)) (mvs (List.zip a1 a2))).bind λy0=>
  some ((decide (y0.1>=0)),(mks (List.zip y0.2.1 y0.2.2)),(mvs (List.zip y0.2.1 y0.2.2)))
def z9r:LSh:=⟨[(4,(.d .bool))],[(.cells [(.map 1)]),(.mp 86 .bool)],2,9,[]⟩
noncomputable def zzd:FI dat:=FI.of dat 47 9 2 [(.d (.sl .str)),(.fn 82 [] [(.ptr 0 0)])] [(.cells [(.map 1)]),(.mp 86 .bool)] [(.d .bool)] [(.cells [(.map 1)]),(.mp 86 .bool)] false z9r (R:=Bool×(List (List UInt8))×(List Bool)) (λx=>(x.1,x.2.1,x.2.2.1)) (λr=>(r.1,r.2.1,r.2.2,())) (λn x=>z05 n x.1 x.2.1 x.2.2.1)
 (λn=>[]) (ann [] (Tryz.f47.body.getD .skip) 0).1
noncomputable def zag:List (FI dat):=[kzj]
theorem zaa:(zzd).Good Tryz.prog dat (tb zag):=FI.zz2 (hD:=zz0 _) Tryz.func47 Tryz.ntmps47 Tryz.call47 (by kernel_rfl) (Qac (by kernel_rfl)) (by kernel_rfl) (λn=>by kernel_rfl) (λx=>by kernel_rfl) (λ_=>rfl) trivial
 (λn=>λx=>(z05.eq_2 _ _ _ n).trans (by kernel_rfl))
 (λn=>trivial)
 (λx=>.inr (by kernel_rfl))
theorem za2:OkL Tryz.prog [zzd]:=zz3 (zz0 _) (bs:=[kzj]) ⟨zcb,trivial⟩ zaa
theorem z97:FOk Tryz.prog zzd:=za2.1
def zh2:Nat->kz0->(List (List UInt8))->(List Bool)->Option (Bool×(List (List UInt8))×(List Bool))
 |0,_,_,_=>none
 |n+1,a0,a1,a2=>
  (zgv n a0.re).bind λy0=>
  (z05 n y0.1 (mks (List.zip a1 a2)) (mvs (List.zip a1 a2))).bind λy1=>
  some (y1.1,(mks (List.zip y1.2.1 y1.2.2)),(mvs (List.zip y1.2.1 y1.2.2)))
def y58:LSh:=⟨[(4,(.d .bool))],[(.mp 86 .bool)],1,15,[]⟩
noncomputable def z6s:FI dat:=FI.of dat 36 15 1 [(.d (.st 2)),(.map 0)] [(.mp 86 .bool)] [(.d .bool)] [(.mp 86 .bool)] false y58 (R:=Bool×(List (List UInt8))×(List Bool)) (λx=>(x.1,x.2.1,x.2.2.1)) (λr=>(r.1,r.2.1,r.2.2,())) (λn x=>zh2 n x.1 x.2.1 x.2.2.1)
 (λn=>[]) (ann [] (Tryz.f36.body.getD .skip) 0).1
noncomputable def y71:List (FI dat):=[zzd,z6i]
theorem y4h:(z6s).Good Tryz.prog dat (tb y71):=FI.zz2 (hD:=zz0 _) Tryz.func36 Tryz.ntmps36 Tryz.call36 (by kernel_rfl) (Qac (by kernel_rfl)) (by kernel_rfl) (λn=>by kernel_rfl) (λx=>by kernel_rfl) (λ_=>rfl) trivial
 (λn=>λx=>(zh2.eq_2 _ _ _ n).trans (by kernel_rfl))
 (λn=>trivial)
 (λx=>.inr (by kernel_rfl))
theorem y70:OkL Tryz.prog [z6s]:=zz3 (zz0 _) (bs:=[zzd,z6i]) ⟨z97,zp8,trivial⟩ y4h
theorem zpe:FOk Tryz.prog z6s:=y70.1
mutual
def zjo:Nat->zz1->Option (List kz0)
 |0,_=>none
 |n+1,a0=>
  z8n n 0 a0.cases (a0.cases.length:Int) []
def z8n:Nat->Int->(List kz9)->Int->(List kz0)->Option (List kz0)
 |0,_,_,_,_=>none
 |n+1,a0,a1,a2,a3=>
  pIf (decide (a0<a2))
   ((ix a1 a0).bind λx0=>
   (ext a3 [x0.when_.re]).bind λx1=>
   z8b n 0 x0.do_ a1 a2 a0 (x0.do_.length:Int) x1)
   (some a3)
def z8b:Nat->Int->(List yz3)->(List kz9)->Int->Int->Int->(List kz0)->Option (List kz0)
 |0,_,_,_,_,_,_,_=>none
 |n+1,a0,a1,a2,a3,a4,a5,a6=>
  pIf (decide (a0<a5))
   ((ix a1 a0).bind λx2=>
   (ext a6 x2.args).bind λx3=>
   z8w n 0 x2.items a1 a2 a3 a4 a5 a0 (x2.items.length:Int) x3)
   (z8n n (IntKind.i64.wrap (a4+1)) a2 a3 a6)
def z8w:Nat->Int->(List zzu)->(List yz3)->(List kz9)->Int->Int->Int->Int->Int->(List kz0)->Option (List kz0)
 |0,_,_,_,_,_,_,_,_,_,_=>none
 |n+1,a0,a1,a2,a3,a4,a5,a6,a7,a8,a9=>
  pIf (decide (a0<a8))
   ((ix a1 a0).bind λx4=>
   (ext a9 x4.args).bind λx5=>
   z8w n (IntKind.i64.wrap (a0+1)) a1 a2 a3 a4 a5 a6 a7 a8 x5)
   (z8b n (IntKind.i64.wrap (a7+1)) a2 a3 a4 a5 a6 a9)
end
def y28:LSh:=⟨[(2,(.d (.sl (.st 2))))],[],0,48,[]⟩
noncomputable def zda:FI dat:=FI.of dat 39 48 0 [(.d (.st 7))] [] [(.d (.sl (.st 2)))] [] true y28 (R:=List kz0) (λx=>x.1) (λr=>(r,())) (λn x=>zjo n x.1)
 (λn=>[(0,⟨⟨[(13,(.d (.int .i64))),(3,(.own 0)),(11,(.d (.sl (.st 6)))),(12,(.d (.int .i64)))],[(.acc 42 (.st 2) true)],0,48,[]⟩,λx=>z8n n x.1 x.2.1 x.2.2.1 x.2.2.2.1⟩),(1,⟨⟨[(25,(.d (.int .i64))),(3,(.own 0)),(23,(.d (.sl (.st 5)))),(11,(.d (.sl (.st 6)))),(12,(.d (.int .i64))),(13,(.d (.int .i64))),(24,(.d (.int .i64)))],[(.acc 42 (.st 2) true)],0,48,[]⟩,λx=>z8b n x.1 x.2.1 x.2.2.1 x.2.2.2.1 x.2.2.2.2.1 x.2.2.2.2.2.1 x.2.2.2.2.2.2.1⟩),(2,⟨⟨[(36,(.d (.int .i64))),(3,(.own 0)),(34,(.d (.sl (.st 4)))),(23,(.d (.sl (.st 5)))),(11,(.d (.sl (.st 6)))),(12,(.d (.int .i64))),(13,(.d (.int .i64))),(24,(.d (.int .i64))),(25,(.d (.int .i64))),(35,(.d (.int .i64)))],[(.acc 42 (.st 2) true)],0,48,[]⟩,λx=>z8w n x.1 x.2.1 x.2.2.1 x.2.2.2.1 x.2.2.2.2.1 x.2.2.2.2.2.1 x.2.2.2.2.2.2.1 x.2.2.2.2.2.2.2.1 x.2.2.2.2.2.2.2.2.1 x.2.2.2.2.2.2.2.2.2.1⟩)]) (ann [(8,0),(24,1),(40,2)] (Tryz.f39.body.getD .skip) 0).1
noncomputable def y37:List (FI dat):=[]
theorem y0o:(zda).Good Tryz.prog dat (tb y37):=FI.zz2 (hD:=zz0 _) Tryz.func39 Tryz.ntmps39 Tryz.call39 (by kernel_rfl) (Qac (by kernel_rfl)) (by kernel_rfl) (λn=>by kernel_rfl) (λx=>by kernel_rfl) (λ_=>rfl) ⟨λ_=>rfl,λ_=>rfl,λ_=>rfl,trivial⟩
 (λn=>λx=>(zjo.eq_2 _ n).trans (by kernel_rfl))
 (λn=>⟨λx=>(z8n.eq_2 _ _ _ _ n).trans (by kernel_rfl),
  λx=>(z8b.eq_2 _ _ _ _ _ _ _ n).trans (by kernel_rfl),
  λx=>(z8w.eq_2 _ _ _ _ _ _ _ _ _ _ n).trans (by kernel_rfl),
  trivial⟩)
 (λx=>.inl rfl)
theorem y0x:OkL Tryz.prog [zda]:=zz3 (zz0 _) (bs:=[]) trivial y0o
theorem zyr:FOk Tryz.prog zda:=y0x.1
def zgp:Nat->kz0->(List (List UInt8))->(List Bool)->Option (Bool×(List (List UInt8))×(List Bool))
 |0,_,_,_=>none
 |n+1,a0,a1,a2=>
  (zh2 n a0.re (mks (List.zip a1 a2)) (mvs (List.zip a1 a2))).bind λy0=>
  some (y0.1,(mks (List.zip y0.2.1 y0.2.2)),(mvs (List.zip y0.2.1 y0.2.2)))
def zvg:LSh:=⟨[(3,(.d .bool))],[(.cells [(.map 1)]),(.mp 86 .bool)],2,7,[]⟩
noncomputable def z7i:FI dat:=FI.of dat 40 7 2 [(.d (.st 2)),(.ptr 0 0)] [(.cells [(.map 1)]),(.mp 86 .bool)] [(.d .bool)] [(.cells [(.map 1)]),(.mp 86 .bool)] false zvg (R:=Bool×(List (List UInt8))×(List Bool)) (λx=>(x.1,x.2.1,x.2.2.1)) (λr=>(r.1,r.2.1,r.2.2,())) (λn x=>zgp n x.1 x.2.1 x.2.2.1)
 (λn=>[]) (ann [] (Tryz.f40.body.getD .skip) 0).1
noncomputable def zvn:List (FI dat):=[z6s]
theorem zve:(z7i).Good Tryz.prog dat (tb zvn):=FI.zz2 (hD:=zz0 _) Tryz.func40 Tryz.ntmps40 Tryz.call40 (by kernel_rfl) (Qac (by kernel_rfl)) (by kernel_rfl) (λn=>by kernel_rfl) (λx=>by kernel_rfl) (λ_=>rfl) trivial
 (λn=>λx=>(zgp.eq_2 _ _ _ n).trans (by kernel_rfl))
 (λn=>trivial)
 (λx=>.inr (by kernel_rfl))
theorem zur:OkL Tryz.prog [z7i]:=zz3 (zz0 _) (bs:=[z6s]) ⟨zpe,trivial⟩ zve
theorem zss:FOk Tryz.prog z7i:=zur.1
mutual
def z0f:Nat->(List kz0)->(List (List UInt8))->(List Bool)->Option (Int×(List (List UInt8))×(List Bool))
 |0,_,_,_=>none
 |n+1,a0,a1,a2=>
  kzl n 0 a0 (a0.length:Int) (mks (List.zip a1 a2)) (mvs (List.zip a1 a2))
def kzl:Nat->Int->(List kz0)->Int->(List (List UInt8))->(List Bool)->Option (Int×(List (List UInt8))×(List Bool))
 |0,_,_,_,_,_=>none
 |n+1,a0,a1,a2,a3,a4=>
  pIf (decide (a0<a2))
   ((ix a1 a0).bind λx0=>
   (zgp n x0.re (mks (List.zip a3 a4)) (mvs (List.zip a3 a4))).bind λy1=>
   pIf y1.1
    (some (a0,(mks (List.zip y1.2.1 y1.2.2)),(mvs (List.zip y1.2.1 y1.2.2))))
    (kzl n (IntKind.i64.wrap (a0+1)) a1 a2 (mks (List.zip y1.2.1 y1.2.2)) (mvs (List.zip y1.2.1 y1.2.2))))
   (some ((-1),(mks (List.zip a3 a4)),(mvs (List.zip a3 a4))))
end
def zca:LSh:=⟨[(4,(.d (.int .i64)))],[(.cells [(.map 1)]),(.mp 86 .bool)],2,19,[]⟩
noncomputable def zzi:FI dat:=FI.of dat 83 19 2 [(.d (.sl (.st 2))),(.fn 40 [] [(.ptr 0 0)])] [(.cells [(.map 1)]),(.mp 86 .bool)] [(.d (.int .i64))] [(.cells [(.map 1)]),(.mp 86 .bool)] false zca (R:=Int×(List (List UInt8))×(List Bool)) (λx=>(x.1,x.2.1,x.2.2.1)) (λr=>(r.1,r.2.1,r.2.2,())) (λn x=>z0f n x.1 x.2.1 x.2.2.1)
 (λn=>[(0,⟨⟨[(8,(.d (.int .i64))),(0,(.d (.sl (.st 2)))),(1,(.fn 40 [] [(.ptr 0 0)])),(7,(.d (.int .i64)))],[(.cells [(.map 1)]),(.mp 86 .bool)],2,19,[]⟩,λx=>kzl n x.1 x.2.1 x.2.2.1 x.2.2.2.1 x.2.2.2.2.1⟩)]) (ann [(6,0)] (Tryz.f83.body.getD .skip) 0).1
noncomputable def zcj:List (FI dat):=[z7i]
theorem zcf:(zzi).Good Tryz.prog dat (tb zcj):=FI.zz2 (hD:=zz0 _) Tryz.func83 Tryz.ntmps83 Tryz.call83 (by kernel_rfl) (Qac (by kernel_rfl)) (by kernel_rfl) (λn=>by kernel_rfl) (λx=>by kernel_rfl) (λ_=>rfl) ⟨λ_=>rfl,trivial⟩
 (λn=>λx=>(z0f.eq_2 _ _ _ n).trans (by kernel_rfl))
 (λn=>⟨λx=>(kzl.eq_2 _ _ _ _ _ n).trans (by kernel_rfl),
  trivial⟩)
 (λx=>.inr (by kernel_rfl))
theorem zcn:OkL Tryz.prog [zzi]:=zz3 (zz0 _) (bs:=[z7i]) ⟨zss,trivial⟩ zcf
theorem zb3:FOk Tryz.prog zzi:=zcn.1
def kzz:Nat->(List kz0)->(List (List UInt8))->(List Bool)->Option (Bool×(List (List UInt8))×(List Bool))
 |0,_,_,_=>none
 |n+1,a0,a1,a2=>
  (z0f n a0 (mks (List.zip a1 a2)) (mvs (List.zip a1 a2))).bind λy0=>
  some ((decide (y0.1>=0)),(mks (List.zip y0.2.1 y0.2.2)),(mvs (List.zip y0.2.1 y0.2.2)))
def z9c:LSh:=⟨[(4,(.d .bool))],[(.cells [(.map 1)]),(.mp 86 .bool)],2,9,[]⟩
noncomputable def kzb:FI dat:=FI.of dat 38 9 2 [(.d (.sl (.st 2))),(.fn 40 [] [(.ptr 0 0)])] [(.cells [(.map 1)]),(.mp 86 .bool)] [(.d .bool)] [(.cells [(.map 1)]),(.mp 86 .bool)] false z9c (R:=Bool×(List (List UInt8))×(List Bool)) (λx=>(x.1,x.2.1,x.2.2.1)) (λr=>(r.1,r.2.1,r.2.2,())) (λn x=>kzz n x.1 x.2.1 x.2.2.1)
 (λn=>[]) (ann [] (Tryz.f38.body.getD .skip) 0).1
noncomputable def z95:List (FI dat):=[zzi]
theorem z96:(kzb).Good Tryz.prog dat (tb z95):=FI.zz2 (hD:=zz0 _) Tryz.func38 Tryz.ntmps38 Tryz.call38 (by kernel_rfl) (Qac (by kernel_rfl)) (by kernel_rfl) (λn=>by kernel_rfl) (λx=>by kernel_rfl) (λ_=>rfl) trivial
 (λn=>λx=>(kzz.eq_2 _ _ _ n).trans (by kernel_rfl))
 (λn=>trivial)
 (λx=>.inr (by kernel_rfl))
theorem z9g:OkL Tryz.prog [kzb]:=zz3 (zz0 _) (bs:=[zzi]) ⟨zb3,trivial⟩ z96
theorem z7x:FOk Tryz.prog kzb:=z9g.1
mutual
def zfm:Nat->zz1->Option (List kzk)
 |0,_=>none
 |n+1,a0=>
  z81 n 0 a0.cases (a0.cases.length:Int) []
def z81:Nat->Int->(List kz9)->Int->(List kzk)->Option (List kzk)
 |0,_,_,_,_=>none
 |n+1,a0,a1,a2,a3=>
  pIf (decide (a0<a2))
   ((ix a1 a0).bind λx0=>
   z8m n 0 x0.do_ a1 a2 a0 (x0.do_.length:Int) a3)
   (some a3)
def z8m:Nat->Int->(List yz3)->(List kz9)->Int->Int->Int->(List kzk)->Option (List kzk)
 |0,_,_,_,_,_,_,_=>none
 |n+1,a0,a1,a2,a3,a4,a5,a6=>
  pIf (decide (a0<a5))
   ((ix a1 a0).bind λx1=>
   pIf (!(x1.name==[]))
    ((zf1 n x1.kind).bind λy2=>
    (ext a6 [(kzk.mk x1.name (IntKind.i64.wrap ((x1.args.length:Int)-y2)))]).bind λx3=>
    z8s n a1 a2 a3 a4 a5 a0 x3 x1)
    (z8s n a1 a2 a3 a4 a5 a0 a6 x1))
   (z81 n (IntKind.i64.wrap (a4+1)) a2 a3 a6)
def z8s:Nat->(List yz3)->(List kz9)->Int->Int->Int->Int->(List kzk)->yz3->Option (List kzk)
 |0,_,_,_,_,_,_,_,_=>none
 |n+1,a0,a1,a2,a3,a4,a5,a6,a7=>
  z8r n 0 a7.items a0 a1 a2 a3 a4 a5 (a7.items.length:Int) a6
def z8r:Nat->Int->(List zzu)->(List yz3)->(List kz9)->Int->Int->Int->Int->Int->(List kzk)->Option (List kzk)
 |0,_,_,_,_,_,_,_,_,_,_=>none
 |n+1,a0,a1,a2,a3,a4,a5,a6,a7,a8,a9=>
  pIf (decide (a0<a8))
   ((ix a1 a0).bind λx4=>
   (ext a9 [(kzk.mk x4.name (IntKind.i64.wrap ((x4.args.length:Int)-1)))]).bind λx5=>
   z8r n (IntKind.i64.wrap (a0+1)) a1 a2 a3 a4 a5 a6 a7 a8 x5)
   (z8m n (IntKind.i64.wrap (a7+1)) a2 a3 a4 a5 a6 a9)
end
def y1c:LSh:=⟨[(2,(.d (.sl (.st 11))))],[],0,61,[]⟩
noncomputable def z5d:FI dat:=FI.of dat 41 61 0 [(.d (.st 7))] [] [(.d (.sl (.st 11)))] [] true y1c (R:=List kzk) (λx=>x.1) (λr=>(r,())) (λn x=>zfm n x.1)
 (λn=>[(0,⟨⟨[(3,(.own 0)),(13,(.d (.int .i64))),(11,(.d (.sl (.st 6)))),(12,(.d (.int .i64)))],[(.acc 96 (.st 11) true)],0,61,[]⟩,λx=>z81 n x.1 x.2.1 x.2.2.1 x.2.2.2.1⟩),(1,⟨⟨[(20,(.d (.int .i64))),(3,(.own 0)),(18,(.d (.sl (.st 5)))),(11,(.d (.sl (.st 6)))),(12,(.d (.int .i64))),(13,(.d (.int .i64))),(19,(.d (.int .i64)))],[(.acc 96 (.st 11) true)],0,61,[]⟩,λx=>z8m n x.1 x.2.1 x.2.2.1 x.2.2.2.1 x.2.2.2.2.1 x.2.2.2.2.2.1 x.2.2.2.2.2.2.1⟩),(2,⟨⟨[(3,(.own 0)),(18,(.d (.sl (.st 5)))),(11,(.d (.sl (.st 6)))),(12,(.d (.int .i64))),(13,(.d (.int .i64))),(19,(.d (.int .i64))),(20,(.d (.int .i64))),(7,(.ptr 1 0))],[(.acc 96 (.st 11) true),(.st 5)],0,61,[]⟩,λx=>z8s n x.1 x.2.1 x.2.2.1 x.2.2.2.1 x.2.2.2.2.1 x.2.2.2.2.2.1 x.2.2.2.2.2.2.1 x.2.2.2.2.2.2.2.1⟩),(3,⟨⟨[(43,(.d (.int .i64))),(3,(.own 0)),(41,(.d (.sl (.st 4)))),(18,(.d (.sl (.st 5)))),(11,(.d (.sl (.st 6)))),(12,(.d (.int .i64))),(13,(.d (.int .i64))),(19,(.d (.int .i64))),(20,(.d (.int .i64))),(42,(.d (.int .i64)))],[(.acc 96 (.st 11) true)],0,61,[]⟩,λx=>z8r n x.1 x.2.1 x.2.2.1 x.2.2.2.1 x.2.2.2.2.1 x.2.2.2.2.2.1 x.2.2.2.2.2.2.1 x.2.2.2.2.2.2.2.1 x.2.2.2.2.2.2.2.2.1 x.2.2.2.2.2.2.2.2.2.1⟩)]) (ann [(8,0),(22,1),(39,2),(42,3)] (Tryz.f41.body.getD .skip) 0).1
noncomputable def y1e:List (FI dat):=[z9m]
theorem y2g:(z5d).Good Tryz.prog dat (tb y1e):=FI.zz2 (hD:=zz0 _) Tryz.func41 Tryz.ntmps41 Tryz.call41 (by kernel_rfl) (Qac (by kernel_rfl)) (by kernel_rfl) (λn=>by kernel_rfl) (λx=>by kernel_rfl) (λ_=>rfl) ⟨λ_=>rfl,λ_=>rfl,λ_=>rfl,λ_=>rfl,trivial⟩
 (λn=>λx=>(zfm.eq_2 _ n).trans (by kernel_rfl))
 (λn=>⟨λx=>(z81.eq_2 _ _ _ _ n).trans (by kernel_rfl),
  λx=>(z8m.eq_2 _ _ _ _ _ _ _ n).trans (by kernel_rfl),
  λx=>(z8s.eq_2 _ _ _ _ _ _ _ _ n).trans (by kernel_rfl),
  λx=>(z8r.eq_2 _ _ _ _ _ _ _ _ _ _ n).trans (by kernel_rfl),
  trivial⟩)
 (λx=>.inl rfl)
theorem y2r:OkL Tryz.prog [z5d]:=zz3 (zz0 _) (bs:=[z9m]) ⟨zro,trivial⟩ y2g
theorem zn8:FOk Tryz.prog z5d:=y2r.1
mutual
noncomputable def z48:Nat->yz1->Option Int
 |0,_=>none
 |n+1,a0=>
  (zka n a0).bind λy0=>
  pIf y0
   (some 4)
   ((zho n a0).bind λy1=>
   pIf (!y1)
    (some 8)
    (z8y n 0 false a0.attrs (a0.attrs.length:Int) [] [] [] [] a0))
noncomputable def z8y:Nat->Int->Bool->(List kz4)->Int->(List (List UInt8))->(List Bool)->(List (List UInt8))->(List Int)->yz1->Option Int
 |0,_,_,_,_,_,_,_,_,_=>none
 |n+1,a0,a1,a2,a3,a4,a5,a6,a7,a8=>
  pIf (decide (a0<a3))
   ((ix a2 a0).bind λx2=>
   pIf a1
    (z7z n true a2 a3 a0 (mks (List.zip a4 a5)) (mvs (List.zip a4 a5)) (mks (List.zip a6 a7)) (mvs (List.zip a6 a7)) a8 x2.re)
    ((zh2 n x2.value.re (mks (List.zip a4 a5)) (mvs (List.zip a4 a5))).bind λy3=>
    z7z n y3.1 a2 a3 a0 (mks (List.zip y3.2.1 y3.2.2)) (mvs (List.zip y3.2.1 y3.2.2)) (mks (List.zip a6 a7)) (mvs (List.zip a6 a7)) a8 x2.re))
   (z8d n 0 a8.rules a1 (a8.rules.length:Int) (mks (List.zip a4 a5)) (mvs (List.zip a4 a5)) (mks (List.zip a6 a7)) (mvs (List.zip a6 a7)) a8)
noncomputable def z7z:Nat->Bool->(List kz4)->Int->Int->(List (List UInt8))->(List Bool)->(List (List UInt8))->(List Int)->yz1->kz4->Option Int
 |0,_,_,_,_,_,_,_,_,_,_=>none
 |n+1,a0,a1,a2,a3,a4,a5,a6,a7,a8,a9=>
  pIf (Option.getD (z6u (List.zip a4 a5) a9.name) false)
   (some 14)
   (z8y n (IntKind.i64.wrap (a3+1)) a0 a1 a2 (mks (z61 (List.zip a4 a5) a9.name true)) (mvs (z61 (List.zip a4 a5) a9.name true)) (mks (List.zip a6 a7)) (mvs (List.zip a6 a7)) a8)
noncomputable def z8d:Nat->Int->(List zz1)->Bool->Int->(List (List UInt8))->(List Bool)->(List (List UInt8))->(List Int)->yz1->Option Int
 |0,_,_,_,_,_,_,_,_,_=>none
 |n+1,a0,a1,a2,a3,a4,a5,a6,a7,a8=>
  pIf (decide (a0<a3))
   ((ix a1 a0).bind λx4=>
   pIf (Option.isSome (z6u (List.zip a6 a7) x4.name))
    (some 14)
    (z8i n 0 x4.params a1 a2 a3 a0 (x4.params.length:Int) x4 (mks (List.zip a4 a5)) (mvs (List.zip a4 a5)) (mks (z61 (List.zip a6 a7) x4.name a0)) (mvs (z61 (List.zip a6 a7) x4.name a0)) a8))
   (z8u n false 0 a2 (mks (List.zip a4 a5)) (mvs (List.zip a4 a5)) a8.rules (a8.rules.length:Int) a8 (mks (List.zip a6 a7)) (mvs (List.zip a6 a7)))
noncomputable def z8i:Nat->Int->(List (List UInt8))->(List zz1)->Bool->Int->Int->Int->zz1->(List (List UInt8))->(List Bool)->(List (List UInt8))->(List Int)->yz1->Option Int
 |0,_,_,_,_,_,_,_,_,_,_,_,_,_=>none
 |n+1,a0,a1,a2,a3,a4,a5,a6,a7,a8,a9,a10,a11,a12=>
  pIf (decide (a0<a6))
   ((ix a1 a0).bind λx5=>
   pIf (Option.getD (z6u (List.zip a8 a9) x5) false)
    (z80 n a1 a2 a3 a4 a5 a6 a0 true a7 (mks (List.zip a8 a9)) (mvs (List.zip a8 a9)) (mks (List.zip a10 a11)) (mvs (List.zip a10 a11)) a12)
    ((z0q n a7.params x5).bind λy6=>
    z80 n a1 a2 a3 a4 a5 a6 a0 (decide (y6<a0)) a7 (mks (List.zip a8 a9)) (mvs (List.zip a8 a9)) (mks (List.zip a10 a11)) (mvs (List.zip a10 a11)) a12))
   (z8d n (IntKind.i64.wrap (a5+1)) a2 a3 a4 (mks (List.zip a8 a9)) (mvs (List.zip a8 a9)) (mks (List.zip a10 a11)) (mvs (List.zip a10 a11)) a12)
noncomputable def z80:Nat->(List (List UInt8))->(List zz1)->Bool->Int->Int->Int->Int->Bool->zz1->(List (List UInt8))->(List Bool)->(List (List UInt8))->(List Int)->yz1->Option Int
 |0,_,_,_,_,_,_,_,_,_,_,_,_,_,_=>none
 |n+1,a0,a1,a2,a3,a4,a5,a6,a7,a8,a9,a10,a11,a12,a13=>
  pIf a7
   (some 14)
   (z8i n (IntKind.i64.wrap (a6+1)) a0 a1 a2 a3 a4 a5 a8 (mks (List.zip a9 a10)) (mvs (List.zip a9 a10)) (mks (List.zip a11 a12)) (mvs (List.zip a11 a12)) a13)
noncomputable def z8u:Nat->Bool->Int->Bool->(List (List UInt8))->(List Bool)->(List zz1)->Int->yz1->(List (List UInt8))->(List Int)->Option Int
 |0,_,_,_,_,_,_,_,_,_,_=>none
 |n+1,a0,a1,a2,a3,a4,a5,a6,a7,a8,a9=>
  pIf (decide (a1<a6))
   ((ix a5 a1).bind λx7=>
   z8f n a0 (mks (List.zip a3 a4)) (mvs (List.zip a3 a4)) a5 a6 a1 a2 (mks (List.zip a3 a4)) (mvs (List.zip a3 a4)) a7 (mks (List.zip a8 a9)) (mvs (List.zip a8 a9)) x7 (mks (z61 (z61 (z61 [] [115,120] true) [115,121] true) [115,122] true)) (mvs (z61 (z61 (z61 [] [115,120] true) [115,121] true) [115,122] true)))
   (pIf a2
     (some 6)
     (pIf a0
       (some 2)
       (some 0)))
noncomputable def z8f:Nat->Bool->(List (List UInt8))->(List Bool)->(List zz1)->Int->Int->Bool->(List (List UInt8))->(List Bool)->yz1->(List (List UInt8))->(List Int)->zz1->(List (List UInt8))->(List Bool)->Option Int
 |0,_,_,_,_,_,_,_,_,_,_,_,_,_,_,_=>none
 |n+1,a0,a1,a2,a3,a4,a5,a6,a7,a8,a9,a10,a11,a12,a13,a14=>
  y9e (List.zip a7 a8) (λk8 v9 r10=>
   z8f n a0 (mks (List.zip a1 a2)) (mvs (List.zip a1 a2)) a3 a4 a5 a6 (mks r10) (mvs r10) a9 (mks (List.zip a10 a11)) (mvs (List.zip a10 a11)) a12 (mks (z61 (List.zip a13 a14) k8 true)) (mvs (z61 (List.zip a13 a14) k8 true)))
   (z88 n 0 a12.params a0 (mks (List.zip a1 a2)) (mvs (List.zip a1 a2)) a3 a4 a5 a6 (a12.params.length:Int) a9 (mks (List.zip a10 a11)) (mvs (List.zip a10 a11)) a12 (mks (List.zip a13 a14)) (mvs (List.zip a13 a14)))
noncomputable def z88:Nat->Int->(List (List UInt8))->Bool->(List (List UInt8))->(List Bool)->(List zz1)->Int->Int->Bool->Int->yz1->(List (List UInt8))->(List Int)->zz1->(List (List UInt8))->(List Bool)->Option Int
 |0,_,_,_,_,_,_,_,_,_,_,_,_,_,_,_,_=>none
 |n+1,a0,a1,a2,a3,a4,a5,a6,a7,a8,a9,a10,a11,a12,a13,a14,a15=>
  pIf (decide (a0<a9))
   ((ix a1 a0).bind λx11=>
   z88 n (IntKind.i64.wrap (a0+1)) a1 a2 (mks (List.zip a3 a4)) (mvs (List.zip a3 a4)) a5 a6 a7 a8 a9 a10 (mks (List.zip a11 a12)) (mvs (List.zip a11 a12)) a13 (mks (z61 (List.zip a14 a15) x11 true)) (mvs (z61 (List.zip a14 a15) x11 true)))
   (pIf a8
     (z8a n a2 true (mks (List.zip a3 a4)) (mvs (List.zip a3 a4)) a5 a6 a7 a10 (mks (List.zip a11 a12)) (mvs (List.zip a11 a12)) a13)
     ((zjo n a13).bind λy12=>
     (kzz n y12 (mks (List.zip a14 a15)) (mvs (List.zip a14 a15))).bind λy13=>
     z8a n a2 y13.1 (mks (List.zip a3 a4)) (mvs (List.zip a3 a4)) a5 a6 a7 a10 (mks (List.zip a11 a12)) (mvs (List.zip a11 a12)) a13))
noncomputable def z8a:Nat->Bool->Bool->(List (List UInt8))->(List Bool)->(List zz1)->Int->Int->yz1->(List (List UInt8))->(List Int)->zz1->Option Int
 |0,_,_,_,_,_,_,_,_,_,_,_=>none
 |n+1,a0,a1,a2,a3,a4,a5,a6,a7,a8,a9,a10=>
  (zfm n a10).bind λy14=>
  z8k n 0 a0 a1 y14 (mks (List.zip a2 a3)) (mvs (List.zip a2 a3)) a4 a5 a6 (y14.length:Int) a7 (mks (List.zip a8 a9)) (mvs (List.zip a8 a9))
noncomputable def z8k:Nat->Int->Bool->Bool->(List kzk)->(List (List UInt8))->(List Bool)->(List zz1)->Int->Int->Int->yz1->(List (List UInt8))->(List Int)->Option Int
 |0,_,_,_,_,_,_,_,_,_,_,_,_,_=>none
 |n+1,a0,a1,a2,a3,a4,a5,a6,a7,a8,a9,a10,a11,a12=>
  pIf (decide (a0<a9))
   ((ix a3 a0).bind λx15=>
   pIf a2
    (z6c n true a3 (mks (List.zip a4 a5)) (mvs (List.zip a4 a5)) a6 a7 a8 a9 a0 (Option.getD (z6u (List.zip a11 a12) x15.name) 0) (Option.isSome (z6u (List.zip a11 a12) x15.name)) a1 a10 (mks (List.zip a11 a12)) (mvs (List.zip a11 a12)) x15)
    (z6c n (!(Option.isSome (z6u (List.zip a11 a12) x15.name))) a3 (mks (List.zip a4 a5)) (mvs (List.zip a4 a5)) a6 a7 a8 a9 a0 (Option.getD (z6u (List.zip a11 a12) x15.name) 0) (Option.isSome (z6u (List.zip a11 a12) x15.name)) a1 a10 (mks (List.zip a11 a12)) (mvs (List.zip a11 a12)) x15))
   (z8u n a1 (IntKind.i64.wrap (a8+1)) a2 (mks (List.zip a4 a5)) (mvs (List.zip a4 a5)) a6 a7 a10 (mks (List.zip a11 a12)) (mvs (List.zip a11 a12)))
noncomputable def z6c:Nat->Bool->(List kzk)->(List (List UInt8))->(List Bool)->(List zz1)->Int->Int->Int->Int->Int->Bool->Bool->yz1->(List (List UInt8))->(List Int)->kzk->Option Int
 |0,_,_,_,_,_,_,_,_,_,_,_,_,_,_,_,_=>none
 |n+1,a0,a1,a2,a3,a4,a5,a6,a7,a8,a9,a10,a11,a12,a13,a14,a15=>
  pIf a11
   (z3z n true a0 a1 (mks (List.zip a2 a3)) (mvs (List.zip a2 a3)) a4 a5 a6 a7 a8 a12 (mks (List.zip a13 a14)) (mvs (List.zip a13 a14)))
   (pIf a10
     ((ix a12.rules a9).bind λx16=>
     z3z n (a15.many != (x16.params.length:Int)) a0 a1 (mks (List.zip a2 a3)) (mvs (List.zip a2 a3)) a4 a5 a6 a7 a8 a12 (mks (List.zip a13 a14)) (mvs (List.zip a13 a14)))
     (z3z n false a0 a1 (mks (List.zip a2 a3)) (mvs (List.zip a2 a3)) a4 a5 a6 a7 a8 a12 (mks (List.zip a13 a14)) (mvs (List.zip a13 a14))))
noncomputable def z3z:Nat->Bool->Bool->(List kzk)->(List (List UInt8))->(List Bool)->(List zz1)->Int->Int->Int->Int->yz1->(List (List UInt8))->(List Int)->Option Int
 |0,_,_,_,_,_,_,_,_,_,_,_,_,_=>none
 |n+1,a0,a1,a2,a3,a4,a5,a6,a7,a8,a9,a10,a11,a12=>
  z8k n (IntKind.i64.wrap (a9+1)) a0 a1 a2 (mks (List.zip a3 a4)) (mvs (List.zip a3 a4)) a5 a6 a7 a8 a10 (mks (List.zip a11 a12)) (mvs (List.zip a11 a12))
end
def y1b:LSh:=⟨[(2,(.d (.int .i64)))],[],0,170,[]⟩
noncomputable def z2a:FI dat:=FI.of dat 16 170 0 [(.d (.st 8))] [] [(.d (.int .i64))] [] true y1b (R:=Int) (λx=>x.1) (λr=>(r,())) (λn x=>z48 n x.1)
 (λn=>[(0,⟨⟨[(35,(.d (.int .i64))),(3,(.map 0)),(5,(.d .bool)),(33,(.d (.sl (.st 3)))),(4,(.map 1)),(1,(.ptr 2 0)),(34,(.d (.int .i64)))],[(.mp 86 .bool),(.mp 87 (.int .i64)),(.st 8)],0,170,[]⟩,λx=>z8y n x.1 x.2.1 x.2.2.1 x.2.2.2.1 x.2.2.2.2.1 x.2.2.2.2.2.1 x.2.2.2.2.2.2.1 x.2.2.2.2.2.2.2.1 x.2.2.2.2.2.2.2.2.1⟩),(1,⟨⟨[(3,(.map 0)),(5,(.d .bool)),(33,(.d (.sl (.st 3)))),(4,(.map 1)),(1,(.ptr 2 0)),(34,(.d (.int .i64))),(35,(.d (.int .i64))),(7,(.ptr 3 0))],[(.mp 86 .bool),(.mp 87 (.int .i64)),(.st 8),(.st 3)],0,170,[]⟩,λx=>z7z n x.1 x.2.1 x.2.2.1 x.2.2.2.1 x.2.2.2.2.1 x.2.2.2.2.2.1 x.2.2.2.2.2.2.1 x.2.2.2.2.2.2.2.1 x.2.2.2.2.2.2.2.2.1 x.2.2.2.2.2.2.2.2.2.1⟩),(2,⟨⟨[(3,(.map 0)),(57,(.d (.int .i64))),(4,(.map 1)),(55,(.d (.sl (.st 7)))),(1,(.ptr 2 0)),(5,(.d .bool)),(56,(.d (.int .i64)))],[(.mp 86 .bool),(.mp 87 (.int .i64)),(.st 8)],0,170,[]⟩,λx=>z8d n x.1 x.2.1 x.2.2.1 x.2.2.2.1 x.2.2.2.2.1 x.2.2.2.2.2.1 x.2.2.2.2.2.2.1 x.2.2.2.2.2.2.2.1 x.2.2.2.2.2.2.2.2.1⟩),(3,⟨⟨[(77,(.d (.int .i64))),(9,(.ptr 0 0)),(3,(.map 1)),(75,(.d (.sl .str))),(4,(.map 2)),(55,(.d (.sl (.st 7)))),(1,(.ptr 3 0)),(5,(.d .bool)),(56,(.d (.int .i64))),(57,(.d (.int .i64))),(76,(.d (.int .i64)))],[(.st 7),(.mp 86 .bool),(.mp 87 (.int .i64)),(.st 8)],0,170,[]⟩,λx=>z8i n x.1 x.2.1 x.2.2.1 x.2.2.2.1 x.2.2.2.2.1 x.2.2.2.2.2.1 x.2.2.2.2.2.2.1 x.2.2.2.2.2.2.2.1 x.2.2.2.2.2.2.2.2.1 x.2.2.2.2.2.2.2.2.2.1 x.2.2.2.2.2.2.2.2.2.2.1 x.2.2.2.2.2.2.2.2.2.2.2.1 x.2.2.2.2.2.2.2.2.2.2.2.2.1⟩),(4,⟨⟨[(9,(.ptr 0 0)),(3,(.map 1)),(75,(.d (.sl .str))),(4,(.map 2)),(55,(.d (.sl (.st 7)))),(1,(.ptr 3 0)),(5,(.d .bool)),(56,(.d (.int .i64))),(57,(.d (.int .i64))),(76,(.d (.int .i64))),(77,(.d (.int .i64))),(92,(.d .bool))],[(.st 7),(.mp 86 .bool),(.mp 87 (.int .i64)),(.st 8)],0,170,[]⟩,λx=>z80 n x.1 x.2.1 x.2.2.1 x.2.2.2.1 x.2.2.2.2.1 x.2.2.2.2.2.1 x.2.2.2.2.2.2.1 x.2.2.2.2.2.2.2.1 x.2.2.2.2.2.2.2.2.1 x.2.2.2.2.2.2.2.2.2.1 x.2.2.2.2.2.2.2.2.2.2.1 x.2.2.2.2.2.2.2.2.2.2.2.1 x.2.2.2.2.2.2.2.2.2.2.2.2.1 x.2.2.2.2.2.2.2.2.2.2.2.2.2.1⟩),(5,⟨⟨[(1,(.ptr 0 0)),(14,(.d .bool)),(4,(.map 1)),(98,(.d (.int .i64))),(5,(.d .bool)),(3,(.mc .bool)),(96,(.d (.sl (.st 7)))),(97,(.d (.int .i64)))],[(.st 8),(.mp 87 (.int .i64))],0,170,[]⟩,λx=>z8u n x.1 x.2.1 x.2.2.1 x.2.2.2.1 x.2.2.2.2.1 x.2.2.2.2.2.1 x.2.2.2.2.2.2.1 x.2.2.2.2.2.2.2.1 x.2.2.2.2.2.2.2.2.1 x.2.2.2.2.2.2.2.2.2.1⟩),(6,⟨⟨[(17,(.ptr 0 0)),(105,(.ptr 1 0)),(1,(.ptr 2 0)),(14,(.d .bool)),(4,(.map 3)),(3,(.mc .bool)),(96,(.d (.sl (.st 7)))),(97,(.d (.int .i64))),(98,(.d (.int .i64))),(16,(.ptr 4 0)),(5,(.d .bool))],[(.cells [(.map 5)]),(.mit .bool),(.st 8),(.mp 87 (.int .i64)),(.st 7),(.mp 86 .bool)],0,170,[]⟩,λx=>z8f n x.1 x.2.1 x.2.2.1 x.2.2.2.1 x.2.2.2.2.1 x.2.2.2.2.2.1 x.2.2.2.2.2.2.1 x.2.2.2.2.2.2.2.1 x.2.2.2.2.2.2.2.2.1 x.2.2.2.2.2.2.2.2.2.1 x.2.2.2.2.2.2.2.2.2.2.1 x.2.2.2.2.2.2.2.2.2.2.2.1 x.2.2.2.2.2.2.2.2.2.2.2.2.1 x.2.2.2.2.2.2.2.2.2.2.2.2.2.1 x.2.2.2.2.2.2.2.2.2.2.2.2.2.2.1⟩),(7,⟨⟨[(115,(.d (.int .i64))),(17,(.ptr 0 0)),(113,(.d (.sl .str))),(1,(.ptr 1 0)),(14,(.d .bool)),(4,(.map 2)),(3,(.mc .bool)),(96,(.d (.sl (.st 7)))),(97,(.d (.int .i64))),(98,(.d (.int .i64))),(16,(.ptr 3 0)),(5,(.d .bool)),(114,(.d (.int .i64)))],[(.cells [(.map 4)]),(.st 8),(.mp 87 (.int .i64)),(.st 7),(.mp 86 .bool)],0,170,[]⟩,λx=>z88 n x.1 x.2.1 x.2.2.1 x.2.2.2.1 x.2.2.2.2.1 x.2.2.2.2.2.1 x.2.2.2.2.2.2.1 x.2.2.2.2.2.2.2.1 x.2.2.2.2.2.2.2.2.1 x.2.2.2.2.2.2.2.2.2.1 x.2.2.2.2.2.2.2.2.2.2.1 x.2.2.2.2.2.2.2.2.2.2.2.1 x.2.2.2.2.2.2.2.2.2.2.2.2.1 x.2.2.2.2.2.2.2.2.2.2.2.2.2.1 x.2.2.2.2.2.2.2.2.2.2.2.2.2.2.1 x.2.2.2.2.2.2.2.2.2.2.2.2.2.2.2.1⟩),(8,⟨⟨[(1,(.ptr 0 0)),(14,(.d .bool)),(5,(.d .bool)),(4,(.map 1)),(3,(.mc .bool)),(96,(.d (.sl (.st 7)))),(97,(.d (.int .i64))),(98,(.d (.int .i64))),(16,(.ptr 2 0))],[(.st 8),(.mp 87 (.int .i64)),(.st 7)],0,170,[]⟩,λx=>z8a n x.1 x.2.1 x.2.2.1 x.2.2.2.1 x.2.2.2.2.1 x.2.2.2.2.2.1 x.2.2.2.2.2.2.1 x.2.2.2.2.2.2.2.1 x.2.2.2.2.2.2.2.2.1 x.2.2.2.2.2.2.2.2.2.1 x.2.2.2.2.2.2.2.2.2.2.1⟩),(9,⟨⟨[(132,(.d (.int .i64))),(1,(.ptr 0 0)),(14,(.d .bool)),(5,(.d .bool)),(4,(.map 1)),(130,(.d (.sl (.st 11)))),(3,(.mc .bool)),(96,(.d (.sl (.st 7)))),(97,(.d (.int .i64))),(98,(.d (.int .i64))),(131,(.d (.int .i64)))],[(.st 8),(.mp 87 (.int .i64))],0,170,[]⟩,λx=>z8k n x.1 x.2.1 x.2.2.1 x.2.2.2.1 x.2.2.2.2.1 x.2.2.2.2.2.1 x.2.2.2.2.2.2.1 x.2.2.2.2.2.2.2.1 x.2.2.2.2.2.2.2.2.1 x.2.2.2.2.2.2.2.2.2.1 x.2.2.2.2.2.2.2.2.2.2.1 x.2.2.2.2.2.2.2.2.2.2.2.1 x.2.2.2.2.2.2.2.2.2.2.2.2.1⟩),(10,⟨⟨[(1,(.ptr 0 0)),(5,(.d .bool)),(4,(.map 1)),(130,(.d (.sl (.st 11)))),(3,(.mc .bool)),(96,(.d (.sl (.st 7)))),(97,(.d (.int .i64))),(98,(.d (.int .i64))),(131,(.d (.int .i64))),(132,(.d (.int .i64))),(23,(.d (.int .i64))),(22,(.ptr 2 0)),(24,(.d .bool)),(14,(.d .bool))],[(.st 8),(.mp 87 (.int .i64)),(.st 11)],0,170,[]⟩,λx=>z6c n x.1 x.2.1 x.2.2.1 x.2.2.2.1 x.2.2.2.2.1 x.2.2.2.2.2.1 x.2.2.2.2.2.2.1 x.2.2.2.2.2.2.2.1 x.2.2.2.2.2.2.2.2.1 x.2.2.2.2.2.2.2.2.2.1 x.2.2.2.2.2.2.2.2.2.2.1 x.2.2.2.2.2.2.2.2.2.2.2.1 x.2.2.2.2.2.2.2.2.2.2.2.2.1 x.2.2.2.2.2.2.2.2.2.2.2.2.2.1 x.2.2.2.2.2.2.2.2.2.2.2.2.2.2.1 x.2.2.2.2.2.2.2.2.2.2.2.2.2.2.2.1⟩),(11,⟨⟨[(1,(.ptr 0 0)),(14,(.d .bool)),(5,(.d .bool)),(4,(.map 1)),(130,(.d (.sl (.st 11)))),(3,(.mc .bool)),(96,(.d (.sl (.st 7)))),(97,(.d (.int .i64))),(98,(.d (.int .i64))),(131,(.d (.int .i64))),(132,(.d (.int .i64)))],[(.st 8),(.mp 87 (.int .i64))],0,170,[]⟩,λx=>z3z n x.1 x.2.1 x.2.2.1 x.2.2.2.1 x.2.2.2.2.1 x.2.2.2.2.2.1 x.2.2.2.2.2.2.1 x.2.2.2.2.2.2.2.1 x.2.2.2.2.2.2.2.2.1 x.2.2.2.2.2.2.2.2.2.1 x.2.2.2.2.2.2.2.2.2.2.1 x.2.2.2.2.2.2.2.2.2.2.2.1 x.2.2.2.2.2.2.2.2.2.2.2.2.1⟩)]) (ann [(26,0),(39,1),(53,2),(79,3),(92,4),(105,5),(122,6),(137,7),(152,8),(155,9),(170,10),(171,11)] (Tryz.f16.body.getD .skip) 0).1
noncomputable def y0g:List (FI dat):=[z6s,kzb,zg6,z9y,kzg,zda,z5d]
theorem y24:(z2a).Good Tryz.prog dat (tb y0g):=FI.zz2 (hD:=zz0 _) Tryz.func16 Tryz.ntmps16 Tryz.call16 (by kernel_rfl) (Qac (by kernel_rfl)) (by kernel_rfl) (λn=>by kernel_rfl) (λx=>by kernel_rfl) (λ_=>rfl) ⟨λ_=>rfl,λ_=>rfl,λ_=>rfl,λ_=>rfl,λ_=>rfl,λ_=>rfl,λ_=>rfl,λ_=>rfl,λ_=>rfl,λ_=>rfl,λ_=>rfl,λ_=>rfl,trivial⟩
 (λn=>λx=>(z48.eq_2 _ n).trans (by kernel_rfl))
 (λn=>⟨λx=>(z8y.eq_2 _ _ _ _ _ _ _ _ _ n).trans (by kernel_rfl),
  λx=>(z7z.eq_2 _ _ _ _ _ _ _ _ _ _ n).trans (by kernel_rfl),
  λx=>(z8d.eq_2 _ _ _ _ _ _ _ _ _ n).trans (by kernel_rfl),
  λx=>(z8i.eq_2 _ _ _ _ _ _ _ _ _ _ _ _ _ n).trans (by kernel_rfl),
  λx=>(z80.eq_2 _ _ _ _ _ _ _ _ _ _ _ _ _ _ n).trans (by kernel_rfl),
  λx=>(z8u.eq_2 _ _ _ _ _ _ _ _ _ _ n).trans (by kernel_rfl),
  λx=>(z8f.eq_2 _ _ _ _ _ _ _ _ _ _ _ _ _ _ _ n).trans (by kernel_rfl),
  λx=>(z88.eq_2 _ _ _ _ _ _ _ _ _ _ _ _ _ _ _ _ n).trans (by kernel_rfl),
  λx=>(z8a.eq_2 _ _ _ _ _ _ _ _ _ _ _ n).trans (by kernel_rfl),
  λx=>(z8k.eq_2 _ _ _ _ _ _ _ _ _ _ _ _ _ n).trans (by kernel_rfl),
  λx=>(z6c.eq_2 _ _ _ _ _ _ _ _ _ _ _ _ _ _ _ _ n).trans (by kernel_rfl),
  λx=>(z3z.eq_2 _ _ _ _ _ _ _ _ _ _ _ _ _ n).trans (by kernel_rfl),
  trivial⟩)
 (λx=>.inl rfl)
theorem y2q:OkL Tryz.prog [z2a]:=zz3 (zz0 _) (bs:=[z6s,kzb,zg6,z9y,kzg,zda,z5d]) ⟨zpe,z7x,y2b,zv5,z68,zyr,zn8,trivial⟩ y24
theorem zjl:FOk Tryz.prog z2a:=y2q.1
mutual
def zdr:Nat->yz0->Option yz0
 |0,_=>none
 |n+1,a0=>
  z77 n 0 a0.list (a0.list.length:Int) [] 0 0 0 false [] a0.re []
def z77:Nat->Int->(List yz0)->Int->(List yz0)->Int->Int->Int->Bool->(List UInt8)->yz0->(List yz0)->Option yz0
 |0,_,_,_,_,_,_,_,_,_,_,_=>none
 |n+1,a0,a1,a2,a3,a4,a5,a6,a7,a8,a9,a10=>
  pIf (decide (a0<a2))
   ((ix a1 a0).bind λx0=>
   (zdr n x0.re).bind λy1=>
   (ext a3 [y1.re]).bind λx2=>
   z77 n (IntKind.i64.wrap (a0+1)) a1 a2 x2 a4 a5 a6 a7 a8 a9.re a10)
   (some (yz0.mk a9.kind a9.num a9.truth a9.str a3))
end
def zyl:LSh:=⟨[(3,(.ptr 1 0))],[(.cells [(.fn 148 [] [(.ptr 0 0)])]),(.st 1)],1,24,[]⟩
noncomputable def z5z:FI dat:=FI.of dat 148 24 1 [(.d (.st 1)),(.ptr 0 0)] [(.cells [(.fn 148 [] [(.ptr 0 0)])])] [(.d (.st 1))] [(.cells [(.fn 148 [] [(.ptr 0 0)])]),(.st 1)] false zyl (R:=yz0) (λx=>x.1) (λr=>(r,r,())) (λn x=>zdr n x.1)
 (λn=>[(0,⟨⟨[(10,(.d (.int .i64))),(1,(.ptr 0 0)),(4,(.own 1)),(8,(.d (.sl (.st 1)))),(3,(.ptr 2 0)),(2,(.ptr 3 0)),(9,(.d (.int .i64)))],[(.cells [(.fn 148 [] [(.ptr 0 0)])]),(.acc 39 (.st 1) true),(.cells [(.d (.int .u8)),(.d (.int .i64)),(.d (.int .i64)),(.d .bool),(.d .str),(.own 4)]),(.st 1),(.acc 39 (.st 1) true)],1,24,[]⟩,λx=>z77 n x.1 x.2.1 x.2.2.1 x.2.2.2.1 x.2.2.2.2.1 x.2.2.2.2.2.1 x.2.2.2.2.2.2.1 x.2.2.2.2.2.2.2.1 x.2.2.2.2.2.2.2.2.1 x.2.2.2.2.2.2.2.2.2.1 x.2.2.2.2.2.2.2.2.2.2.1⟩)]) (ann [(8,0)] (Tryz.f148.body.getD .skip) 0).1
noncomputable def zx2:List (FI dat):=[z5z]++[]
theorem y0a:(z5z).Good Tryz.prog dat (tb zx2):=FI.zz2 (hD:=zz0 _) Tryz.func148 Tryz.ntmps148 Tryz.call148 (by kernel_rfl) (Qac (by kernel_rfl)) (by kernel_rfl) (λn=>by kernel_rfl) (λx=>by kernel_rfl) (λ_=>rfl) ⟨λ_=>rfl,trivial⟩
 (λn=>λx=>(zdr.eq_2 _ n).trans (by kernel_rfl))
 (λn=>⟨λx=>(z77.eq_2 _ _ _ _ _ _ _ _ _ _ _ n).trans (by kernel_rfl),
  trivial⟩)
 (λx=>.inr (by kernel_rfl))
theorem zx9:OkL Tryz.prog [z5z]:=zg4 (zz0 _) (bs:=[]) trivial ⟨y0a,trivial⟩
theorem zv7:FOk Tryz.prog z5z:=zx9.1
def zks:Nat->yz0->Option yz0
 |0,_=>none
 |n+1,a0=>
  (zdr n a0.re).bind λy0=>
  some y0.re
def y7x:LSh:=⟨[(2,(.ptr 0 0))],[(.st 1)],0,8,[]⟩
noncomputable def zfv:FI dat:=FI.of dat 98 8 0 [(.d (.st 1))] [] [(.d (.st 1))] [] true y7x (R:=yz0) (λx=>x.1) (λr=>(r,())) (λn x=>zks n x.1)
 (λn=>[]) (ann [] (Tryz.f98.body.getD .skip) 0).1
noncomputable def y6h:List (FI dat):=[z5z]
theorem y6k:(zfv).Good Tryz.prog dat (tb y6h):=FI.zz2 (hD:=zz0 _) Tryz.func98 Tryz.ntmps98 Tryz.call98 (by kernel_rfl) (Qac (by kernel_rfl)) (by kernel_rfl) (λn=>by kernel_rfl) (λx=>by kernel_rfl) (λ_=>rfl) trivial
 (λn=>λx=>(zks.eq_2 _ n).trans (by kernel_rfl))
 (λn=>trivial)
 (λx=>.inl rfl)
theorem y47:OkL Tryz.prog [zfv]:=zz3 (zz0 _) (bs:=[z5z]) ⟨zv7,trivial⟩ y6k
theorem y2n:FOk Tryz.prog zfv:=y47.1
def zjc:Nat->kz0->Option kz0
 |0,_=>none
 |n+1,a0=>
  (zks n a0.value.re).bind λy0=>
  some (kz0.mk a0.op y0.re a0.name a0.args)
def y0e:LSh:=⟨[(2,(.ptr 0 0))],[(.st 2)],0,8,[]⟩
noncomputable def zd0:FI dat:=FI.of dat 97 8 0 [(.d (.st 2))] [] [(.d (.st 2))] [] true y0e (R:=kz0) (λx=>x.1) (λr=>(r,())) (λn x=>zjc n x.1)
 (λn=>[]) (ann [] (Tryz.f97.body.getD .skip) 0).1
noncomputable def y1v:List (FI dat):=[zfv]
theorem y1q:(zd0).Good Tryz.prog dat (tb y1v):=FI.zz2 (hD:=zz0 _) Tryz.func97 Tryz.ntmps97 Tryz.call97 (by kernel_rfl) (Qac (by kernel_rfl)) (by kernel_rfl) (λn=>by kernel_rfl) (λx=>by kernel_rfl) (λ_=>rfl) trivial
 (λn=>λx=>(zjc.eq_2 _ n).trans (by kernel_rfl))
 (λn=>trivial)
 (λx=>.inl rfl)
theorem y1j:OkL Tryz.prog [zd0]:=zz3 (zz0 _) (bs:=[zfv]) ⟨y2n,trivial⟩ y1q
theorem zwl:FOk Tryz.prog zd0:=y1j.1
mutual
def zfd:Nat->kz0->Option kz0
 |0,_=>none
 |n+1,a0=>
  z8h n 0 a0.args (a0.args.length:Int) a0.op a0.value.kind a0.value.num.num a0.value.num.den a0.value.truth a0.value.str a0.value.list a0.name 0 0 0 0 false [] [] [] [] []
def z8h:Nat->Int->(List kz0)->Int->Int->Int->Int->Int->Bool->(List UInt8)->(List yz0)->(List UInt8)->Int->Int->Int->Int->Bool->(List UInt8)->(List yz0)->(List UInt8)->(List kz0)->(List kz0)->Option kz0
 |0,_,_,_,_,_,_,_,_,_,_,_,_,_,_,_,_,_,_,_,_,_=>none
 |n+1,a0,a1,a2,a3,a4,a5,a6,a7,a8,a9,a10,a11,a12,a13,a14,a15,a16,a17,a18,a19,a20=>
  pIf (decide (a0<a2))
   ((ix a1 a0).bind λx0=>
   (zfd n x0.re).bind λy1=>
   (ext a19 [y1.re]).bind λx2=>
   z8h n (IntKind.i64.wrap (a0+1)) a1 a2 a3 a4 a5 a6 a7 a8 a9 a10 a11 a12 a13 a14 a15 a16 a17 a18 x2 a20)
   ((zjc n (kz0.mk a3 (yz0.mk a4 (yz2.mk a5 a6) a7 a8 a9) a10 a19)).bind λy3=>
   some y3.re)
end
def y2y:LSh:=⟨[(4,(.ptr 0 0))],[(.st 2)],0,29,[]⟩
noncomputable def z7o:FI dat:=FI.of dat 96 29 0 [(.d (.st 2)),(.fn 97 [] [])] [] [(.d (.st 2))] [] true y2y (R:=kz0) (λx=>x.1) (λr=>(r,())) (λn x=>zfd n x.1)
 (λn=>[(0,⟨⟨[(13,(.d (.int .i64))),(2,(.ptr 0 0)),(1,(.fn 97 [] [])),(11,(.d (.sl (.st 2)))),(4,(.ptr 1 0)),(12,(.d (.int .i64)))],[(.cells [(.d (.int .u8)),(.d (.int .u8)),(.d (.int .i64)),(.d (.int .i64)),(.d .bool),(.d .str),(.d (.sl (.st 1))),(.d .str),(.own 2)]),(.cells [(.d (.int .u8)),(.d (.int .u8)),(.d (.int .i64)),(.d (.int .i64)),(.d .bool),(.d .str),(.d (.sl (.st 1))),(.d .str),(.own 3)]),(.acc 42 (.st 2) true),(.acc 42 (.st 2) true)],0,29,[]⟩,λx=>z8h n x.1 x.2.1 x.2.2.1 x.2.2.2.1 x.2.2.2.2.1 x.2.2.2.2.2.1 x.2.2.2.2.2.2.1 x.2.2.2.2.2.2.2.1 x.2.2.2.2.2.2.2.2.1 x.2.2.2.2.2.2.2.2.2.1 x.2.2.2.2.2.2.2.2.2.2.1 x.2.2.2.2.2.2.2.2.2.2.2.1 x.2.2.2.2.2.2.2.2.2.2.2.2.1 x.2.2.2.2.2.2.2.2.2.2.2.2.2.1 x.2.2.2.2.2.2.2.2.2.2.2.2.2.2.1 x.2.2.2.2.2.2.2.2.2.2.2.2.2.2.2.1 x.2.2.2.2.2.2.2.2.2.2.2.2.2.2.2.2.1 x.2.2.2.2.2.2.2.2.2.2.2.2.2.2.2.2.2.1 x.2.2.2.2.2.2.2.2.2.2.2.2.2.2.2.2.2.2.1 x.2.2.2.2.2.2.2.2.2.2.2.2.2.2.2.2.2.2.2.1 x.2.2.2.2.2.2.2.2.2.2.2.2.2.2.2.2.2.2.2.2.1⟩)]) (ann [(10,0)] (Tryz.f96.body.getD .skip) 0).1
noncomputable def y22:List (FI dat):=[z7o]++[zd0]
theorem y1k:(z7o).Good Tryz.prog dat (tb y22):=FI.zz2 (hD:=zz0 _) Tryz.func96 Tryz.ntmps96 Tryz.call96 (by kernel_rfl) (Qac (by kernel_rfl)) (by kernel_rfl) (λn=>by kernel_rfl) (λx=>by kernel_rfl) (λ_=>rfl) ⟨λ_=>rfl,trivial⟩
 (λn=>λx=>(zfd.eq_2 _ n).trans (by kernel_rfl))
 (λn=>⟨λx=>(z8h.eq_2 _ _ _ _ _ _ _ _ _ _ _ _ _ _ _ _ _ _ _ _ _ n).trans (by kernel_rfl),
  trivial⟩)
 (λx=>.inl rfl)
theorem y2k:OkL Tryz.prog [z7o]:=zg4 (zz0 _) (bs:=[zd0]) ⟨zwl,trivial⟩ ⟨y1k,trivial⟩
theorem zxd:FOk Tryz.prog z7o:=y2k.1
def zb7:Nat->kz0->Option kz0
 |0,_=>none
 |n+1,a0=>
  (zfd n a0.re).bind λy0=>
  some y0.re
def yan:LSh:=⟨[(2,(.ptr 0 0))],[(.st 2)],0,5,[]⟩
noncomputable def z4q:FI dat:=FI.of dat 49 5 0 [(.d (.st 2))] [] [(.d (.st 2))] [] true yan (R:=kz0) (λx=>x.1) (λr=>(r,())) (λn x=>zb7 n x.1)
 (λn=>[]) (ann [] (Tryz.f49.body.getD .skip) 0).1
noncomputable def y9m:List (FI dat):=[z7o]
theorem yau:(z4q).Good Tryz.prog dat (tb y9m):=FI.zz2 (hD:=zz0 _) Tryz.func49 Tryz.ntmps49 Tryz.call49 (by kernel_rfl) (Qac (by kernel_rfl)) (by kernel_rfl) (λn=>by kernel_rfl) (λx=>by kernel_rfl) (λ_=>rfl) trivial
 (λn=>λx=>(zb7.eq_2 _ n).trans (by kernel_rfl))
 (λn=>trivial)
 (λx=>.inl rfl)
theorem y8n:OkL Tryz.prog [z4q]:=zz3 (zz0 _) (bs:=[z7o]) ⟨zxd,trivial⟩ yau
theorem zlt:FOk Tryz.prog z4q:=y8n.1
def z8q:Nat->(List kz0)->Option (List kz0)
 |0,_=>none
 |n+1,a0=>
  (zd9 n a0).bind λy0=>
  (zb7 n y0.re).bind λy1=>
  some y1.args
def zt0:LSh:=⟨[(2,(.d (.sl (.st 2))))],[],0,7,[]⟩
noncomputable def z5q:FI dat:=FI.of dat 51 7 0 [(.d (.sl (.st 2)))] [] [(.d (.sl (.st 2)))] [] true zt0 (R:=List kz0) (λx=>x.1) (λr=>(r,())) (λn x=>z8q n x.1)
 (λn=>[]) (ann [] (Tryz.f51.body.getD .skip) 0).1
noncomputable def zte:List (FI dat):=[z79,z4q]
theorem ztd:(z5q).Good Tryz.prog dat (tb zte):=FI.zz2 (hD:=zz0 _) Tryz.func51 Tryz.ntmps51 Tryz.call51 (by kernel_rfl) (Qac (by kernel_rfl)) (by kernel_rfl) (λn=>by kernel_rfl) (λx=>by kernel_rfl) (λ_=>rfl) trivial
 (λn=>λx=>(z8q.eq_2 _ n).trans (by kernel_rfl))
 (λn=>trivial)
 (λx=>.inl rfl)
theorem zsw:OkL Tryz.prog [z5q]:=zz3 (zz0 _) (bs:=[z79,z4q]) ⟨zp7,zlt,trivial⟩ ztd
theorem zr3:FOk Tryz.prog z5q:=zsw.1
mutual
def zh6:Nat->yz1->Option ((List kz4)×(List zz1))
 |0,_=>none
 |n+1,a0=>
  zar n 0 a0.attrs (a0.attrs.length:Int) a0 [] [] [] []
def zar:Nat->Int->(List kz4)->Int->yz1->(List kz4)->(List zz1)->(List kz4)->(List zz1)->Option ((List kz4)×(List zz1))
 |0,_,_,_,_,_,_,_,_=>none
 |n+1,a0,a1,a2,a3,a4,a5,a6,a7=>
  pIf (decide (a0<a2))
   ((ix a1 a0).bind λx0=>
   (zb7 n x0.value.re).bind λy1=>
   (ext a4 [(kz4.mk x0.name y1.re)]).bind λx2=>
   zar n (IntKind.i64.wrap (a0+1)) a1 a2 a3 x2 a5 a6 a7)
   (zao n 0 a3.rules (a3.rules.length:Int) a4 a5 a6 a7)
def zao:Nat->Int->(List zz1)->Int->(List kz4)->(List zz1)->(List kz4)->(List zz1)->Option ((List kz4)×(List zz1))
 |0,_,_,_,_,_,_,_=>none
 |n+1,a0,a1,a2,a3,a4,a5,a6=>
  pIf (decide (a0<a2))
   ((ix a1 a0).bind λx3=>
   (z67 n x3.params).bind λy4=>
   zav n 0 x3.cases a1 a2 a0 (x3.cases.length:Int) x3.name y4 [] a3 a4 a5 a6)
   (some (a3,a4))
def zav:Nat->Int->(List kz9)->(List zz1)->Int->Int->Int->(List UInt8)->(List (List UInt8))->(List kz9)->(List kz4)->(List zz1)->(List kz4)->(List zz1)->Option ((List kz4)×(List zz1))
 |0,_,_,_,_,_,_,_,_,_,_,_,_,_=>none
 |n+1,a0,a1,a2,a3,a4,a5,a6,a7,a8,a9,a10,a11,a12=>
  pIf (decide (a0<a5))
   ((ix a1 a0).bind λx5=>
   (zb7 n x5.when_.re).bind λy6=>
   zc1 n 0 x5.do_ a1 a2 a3 a4 a5 a0 (x5.do_.length:Int) x5.weight y6.op y6.value.kind y6.value.num.num y6.value.num.den y6.value.truth y6.value.str y6.value.list y6.name y6.args a6 a7 [] a8 a9 a10 a11 a12)
   ((ext a10 [(zz1.mk a6 a7 [])]).bind λx7=>
   (ix x7 (a10.length:Int)).bind λx8=>
   zao n (IntKind.i64.wrap (a4+1)) a2 a3 a9 (x7.set (Int.toNat (a10.length:Int)) (zz1.mk x8.name x8.params a8)) a11 a12)
def zc1:Nat->Int->(List yz3)->(List kz9)->(List zz1)->Int->Int->Int->Int->Int->Int->Int->Int->Int->Int->Bool->(List UInt8)->(List yz0)->(List UInt8)->(List kz0)->(List UInt8)->(List (List UInt8))->(List yz3)->(List kz9)->(List kz4)->(List zz1)->(List kz4)->(List zz1)->Option ((List kz4)×(List zz1))
 |0,_,_,_,_,_,_,_,_,_,_,_,_,_,_,_,_,_,_,_,_,_,_,_,_,_,_,_=>none
 |n+1,a0,a1,a2,a3,a4,a5,a6,a7,a8,a9,a10,a11,a12,a13,a14,a15,a16,a17,a18,a19,a20,a21,a22,a23,a24,a25,a26=>
  pIf (decide (a0<a8))
   ((ix a1 a0).bind λx9=>
   (z8q n x9.args).bind λy10=>
   zbz n 0 x9.items a1 a2 a3 a4 a5 a6 a7 a8 a0 (x9.items.length:Int) x9.kind x9.axis x9.name y10 a9 a10 a11 a12 a13 a14 a15 a16 a17 a18 a19 a20 [] a21 a22 a23 a24 a25 a26)
   ((ext a22 [(kz9.mk a9 (kz0.mk a10 (yz0.mk a11 (yz2.mk a12 a13) a14 a15 a16) a17 a18) [])]).bind λx11=>
   (ix x11 (a22.length:Int)).bind λx12=>
   zav n (IntKind.i64.wrap (a7+1)) a2 a3 a4 a5 a6 a19 a20 (x11.set (Int.toNat (a22.length:Int)) (kz9.mk x12.weight x12.when_.re a21)) a23 a24 a25 a26)
def zbz:Nat->Int->(List zzu)->(List yz3)->(List kz9)->(List zz1)->Int->Int->Int->Int->Int->Int->Int->Int->Int->(List UInt8)->(List kz0)->Int->Int->Int->Int->Int->Bool->(List UInt8)->(List yz0)->(List UInt8)->(List kz0)->(List UInt8)->(List (List UInt8))->(List zzu)->(List yz3)->(List kz9)->(List kz4)->(List zz1)->(List kz4)->(List zz1)->Option ((List kz4)×(List zz1))
 |0,_,_,_,_,_,_,_,_,_,_,_,_,_,_,_,_,_,_,_,_,_,_,_,_,_,_,_,_,_,_,_,_,_,_,_=>none
 |n+1,a0,a1,a2,a3,a4,a5,a6,a7,a8,a9,a10,a11,a12,a13,a14,a15,a16,a17,a18,a19,a20,a21,a22,a23,a24,a25,a26,a27,a28,a29,a30,a31,a32,a33,a34=>
  pIf (decide (a0<a11))
   ((ix a1 a0).bind λx13=>
   (z8q n x13.args).bind λy14=>
   (ext a28 [(zzu.mk x13.kind x13.name y14)]).bind λx15=>
   zbz n (IntKind.i64.wrap (a0+1)) a1 a2 a3 a4 a5 a6 a7 a8 a9 a10 a11 a12 a13 a14 a15 a16 a17 a18 a19 a20 a21 a22 a23 a24 a25 a26 a27 x15 a29 a30 a31 a32 a33 a34)
   ((ext a29 [(yz3.mk a12 a13 a14 a15 [])]).bind λx16=>
   (ix x16 (a29.length:Int)).bind λx17=>
   zc1 n (IntKind.i64.wrap (a10+1)) a2 a3 a4 a5 a6 a7 a8 a9 a16 a17 a18 a19 a20 a21 a22 a23 a24 a25 a26 a27 (x16.set (Int.toNat (a29.length:Int)) (yz3.mk x17.kind x17.axis x17.name x17.args a28)) a30 a31 a32 a33 a34)
end
def y52:LSh:=⟨[(2,(.ptr 0 0))],[(.cells [(.own 1),(.own 2)]),(.acc 83 (.st 3) true),(.deep 34 7)],0,118,[]⟩
noncomputable def z6f:FI dat:=FI.of dat 21 118 0 [(.d (.st 8))] [] [(.agg [(.own 1),(.own 2)])] [(.cells [(.own 1),(.own 2)]),(.acc 83 (.st 3) true),(.deep 34 7)] false y52 (R:=(List kz4)×(List zz1)) (λx=>(x.1,x.2.1)) (λr=>(r.1,r.2,())) (λn x=>zh6 n x.1)
 (λn=>[(0,⟨⟨[(20,(.d (.int .i64))),(3,(.ptr 0 0)),(18,(.d (.sl (.st 3)))),(2,(.ptr 1 0)),(1,(.ptr 2 0)),(19,(.d (.int .i64)))],[(.cells [(.own 3),(.own 4)]),(.cells [(.own 5),(.own 6)]),(.st 8),(.acc 83 (.st 3) true),(.deep 34 7),(.acc 83 (.st 3) true),(.deep 34 7)],0,118,[]⟩,λx=>zar n x.1 x.2.1 x.2.2.1 x.2.2.2.1 x.2.2.2.2.1 x.2.2.2.2.2.1 x.2.2.2.2.2.2.1 x.2.2.2.2.2.2.2.1⟩),(1,⟨⟨[(39,(.d (.int .i64))),(3,(.ptr 0 0)),(37,(.d (.sl (.st 7)))),(2,(.ptr 1 0)),(38,(.d (.int .i64)))],[(.cells [(.own 2),(.own 3)]),(.cells [(.own 4),(.own 5)]),(.acc 83 (.st 3) true),(.deep 34 7),(.acc 83 (.st 3) true),(.deep 34 7)],0,118,[]⟩,λx=>zao n x.1 x.2.1 x.2.2.1 x.2.2.2.1 x.2.2.2.2.1 x.2.2.2.2.2.1 x.2.2.2.2.2.2.1⟩),(2,⟨⟨[(52,(.d (.int .i64))),(8,(.ptr 0 0)),(50,(.d (.sl (.st 6)))),(3,(.ptr 1 0)),(37,(.d (.sl (.st 7)))),(2,(.ptr 2 0)),(38,(.d (.int .i64))),(39,(.d (.int .i64))),(51,(.d (.int .i64)))],[(.cells [(.d .str),(.d (.sl .str)),(.own 3)]),(.cells [(.own 4),(.own 5)]),(.cells [(.own 6),(.own 7)]),(.deep 64 6),(.acc 83 (.st 3) true),(.deep 34 7),(.acc 83 (.st 3) true),(.deep 34 7)],0,118,[]⟩,λx=>zav n x.1 x.2.1 x.2.2.1 x.2.2.2.1 x.2.2.2.2.1 x.2.2.2.2.2.1 x.2.2.2.2.2.2.1 x.2.2.2.2.2.2.2.1 x.2.2.2.2.2.2.2.2.1 x.2.2.2.2.2.2.2.2.2.1 x.2.2.2.2.2.2.2.2.2.2.1 x.2.2.2.2.2.2.2.2.2.2.2.1 x.2.2.2.2.2.2.2.2.2.2.2.2.1⟩),(3,⟨⟨[(65,(.d (.int .i64))),(11,(.ptr 0 0)),(63,(.d (.sl (.st 5)))),(8,(.ptr 1 0)),(50,(.d (.sl (.st 6)))),(3,(.ptr 2 0)),(37,(.d (.sl (.st 7)))),(2,(.ptr 3 0)),(38,(.d (.int .i64))),(39,(.d (.int .i64))),(51,(.d (.int .i64))),(52,(.d (.int .i64))),(64,(.d (.int .i64)))],[(.cells [(.d (.int .i64)),(.d (.int .u8)),(.d (.int .u8)),(.d (.int .i64)),(.d (.int .i64)),(.d .bool),(.d .str),(.d (.sl (.st 1))),(.d .str),(.d (.sl (.st 2))),(.own 4)]),(.cells [(.d .str),(.d (.sl .str)),(.own 5)]),(.cells [(.own 6),(.own 7)]),(.cells [(.own 8),(.own 9)]),(.deep 71 5),(.deep 64 6),(.acc 83 (.st 3) true),(.deep 34 7),(.acc 83 (.st 3) true),(.deep 34 7)],0,118,[]⟩,λx=>zc1 n x.1 x.2.1 x.2.2.1 x.2.2.2.1 x.2.2.2.2.1 x.2.2.2.2.2.1 x.2.2.2.2.2.2.1 x.2.2.2.2.2.2.2.1 x.2.2.2.2.2.2.2.2.1 x.2.2.2.2.2.2.2.2.2.1 x.2.2.2.2.2.2.2.2.2.2.1 x.2.2.2.2.2.2.2.2.2.2.2.1 x.2.2.2.2.2.2.2.2.2.2.2.2.1 x.2.2.2.2.2.2.2.2.2.2.2.2.2.1 x.2.2.2.2.2.2.2.2.2.2.2.2.2.2.1 x.2.2.2.2.2.2.2.2.2.2.2.2.2.2.2.1 x.2.2.2.2.2.2.2.2.2.2.2.2.2.2.2.2.1 x.2.2.2.2.2.2.2.2.2.2.2.2.2.2.2.2.2.1 x.2.2.2.2.2.2.2.2.2.2.2.2.2.2.2.2.2.2.1 x.2.2.2.2.2.2.2.2.2.2.2.2.2.2.2.2.2.2.2.1 x.2.2.2.2.2.2.2.2.2.2.2.2.2.2.2.2.2.2.2.2.1 x.2.2.2.2.2.2.2.2.2.2.2.2.2.2.2.2.2.2.2.2.2.1 x.2.2.2.2.2.2.2.2.2.2.2.2.2.2.2.2.2.2.2.2.2.2.1 x.2.2.2.2.2.2.2.2.2.2.2.2.2.2.2.2.2.2.2.2.2.2.2.1 x.2.2.2.2.2.2.2.2.2.2.2.2.2.2.2.2.2.2.2.2.2.2.2.2.1 x.2.2.2.2.2.2.2.2.2.2.2.2.2.2.2.2.2.2.2.2.2.2.2.2.2.1 x.2.2.2.2.2.2.2.2.2.2.2.2.2.2.2.2.2.2.2.2.2.2.2.2.2.2.1⟩),(4,⟨⟨[(78,(.d (.int .i64))),(14,(.ptr 0 0)),(76,(.d (.sl (.st 4)))),(11,(.ptr 1 0)),(63,(.d (.sl (.st 5)))),(8,(.ptr 2 0)),(50,(.d (.sl (.st 6)))),(3,(.ptr 3 0)),(37,(.d (.sl (.st 7)))),(2,(.ptr 4 0)),(38,(.d (.int .i64))),(39,(.d (.int .i64))),(51,(.d (.int .i64))),(52,(.d (.int .i64))),(64,(.d (.int .i64))),(65,(.d (.int .i64))),(77,(.d (.int .i64)))],[(.cells [(.d (.int .u8)),(.d (.int .u8)),(.d .str),(.d (.sl (.st 2))),(.own 5)]),(.cells [(.d (.int .i64)),(.d (.int .u8)),(.d (.int .u8)),(.d (.int .i64)),(.d (.int .i64)),(.d .bool),(.d .str),(.d (.sl (.st 1))),(.d .str),(.d (.sl (.st 2))),(.own 6)]),(.cells [(.d .str),(.d (.sl .str)),(.own 7)]),(.cells [(.own 8),(.own 9)]),(.cells [(.own 10),(.own 11)]),(.acc 106 (.st 4) true),(.deep 71 5),(.deep 64 6),(.acc 83 (.st 3) true),(.deep 34 7),(.acc 83 (.st 3) true),(.deep 34 7)],0,118,[]⟩,λx=>zbz n x.1 x.2.1 x.2.2.1 x.2.2.2.1 x.2.2.2.2.1 x.2.2.2.2.2.1 x.2.2.2.2.2.2.1 x.2.2.2.2.2.2.2.1 x.2.2.2.2.2.2.2.2.1 x.2.2.2.2.2.2.2.2.2.1 x.2.2.2.2.2.2.2.2.2.2.1 x.2.2.2.2.2.2.2.2.2.2.2.1 x.2.2.2.2.2.2.2.2.2.2.2.2.1 x.2.2.2.2.2.2.2.2.2.2.2.2.2.1 x.2.2.2.2.2.2.2.2.2.2.2.2.2.2.1 x.2.2.2.2.2.2.2.2.2.2.2.2.2.2.2.1 x.2.2.2.2.2.2.2.2.2.2.2.2.2.2.2.2.1 x.2.2.2.2.2.2.2.2.2.2.2.2.2.2.2.2.2.1 x.2.2.2.2.2.2.2.2.2.2.2.2.2.2.2.2.2.2.1 x.2.2.2.2.2.2.2.2.2.2.2.2.2.2.2.2.2.2.2.1 x.2.2.2.2.2.2.2.2.2.2.2.2.2.2.2.2.2.2.2.2.1 x.2.2.2.2.2.2.2.2.2.2.2.2.2.2.2.2.2.2.2.2.2.1 x.2.2.2.2.2.2.2.2.2.2.2.2.2.2.2.2.2.2.2.2.2.2.1 x.2.2.2.2.2.2.2.2.2.2.2.2.2.2.2.2.2.2.2.2.2.2.2.1 x.2.2.2.2.2.2.2.2.2.2.2.2.2.2.2.2.2.2.2.2.2.2.2.2.1 x.2.2.2.2.2.2.2.2.2.2.2.2.2.2.2.2.2.2.2.2.2.2.2.2.2.1 x.2.2.2.2.2.2.2.2.2.2.2.2.2.2.2.2.2.2.2.2.2.2.2.2.2.2.1 x.2.2.2.2.2.2.2.2.2.2.2.2.2.2.2.2.2.2.2.2.2.2.2.2.2.2.2.1 x.2.2.2.2.2.2.2.2.2.2.2.2.2.2.2.2.2.2.2.2.2.2.2.2.2.2.2.2.1 x.2.2.2.2.2.2.2.2.2.2.2.2.2.2.2.2.2.2.2.2.2.2.2.2.2.2.2.2.2.1 x.2.2.2.2.2.2.2.2.2.2.2.2.2.2.2.2.2.2.2.2.2.2.2.2.2.2.2.2.2.2.1 x.2.2.2.2.2.2.2.2.2.2.2.2.2.2.2.2.2.2.2.2.2.2.2.2.2.2.2.2.2.2.2.1 x.2.2.2.2.2.2.2.2.2.2.2.2.2.2.2.2.2.2.2.2.2.2.2.2.2.2.2.2.2.2.2.2.1 x.2.2.2.2.2.2.2.2.2.2.2.2.2.2.2.2.2.2.2.2.2.2.2.2.2.2.2.2.2.2.2.2.2.1 x.2.2.2.2.2.2.2.2.2.2.2.2.2.2.2.2.2.2.2.2.2.2.2.2.2.2.2.2.2.2.2.2.2.2.1⟩)]) (ann [(8,0),(25,1),(42,2),(59,3),(78,4)] (Tryz.f21.body.getD .skip) 0).1
noncomputable def y75:List (FI dat):=[z4q,z3d,z5q]
theorem y6v:(z6f).Good Tryz.prog dat (tb y75):=FI.zz2 (hD:=zz0 _) Tryz.func21 Tryz.ntmps21 Tryz.call21 (by kernel_rfl) (Qac (by kernel_rfl)) (by kernel_rfl) (λn=>by kernel_rfl) (λx=>by kernel_rfl) (λ_=>rfl) ⟨λ_=>rfl,λ_=>rfl,λ_=>rfl,λ_=>rfl,λ_=>rfl,trivial⟩
 (λn=>λx=>(zh6.eq_2 _ n).trans (by kernel_rfl))
 (λn=>⟨λx=>(zar.eq_2 _ _ _ _ _ _ _ _ n).trans (by kernel_rfl),
  λx=>(zao.eq_2 _ _ _ _ _ _ _ n).trans (by kernel_rfl),
  λx=>(zav.eq_2 _ _ _ _ _ _ _ _ _ _ _ _ _ n).trans (by kernel_rfl),
  λx=>(zc1.eq_2 _ _ _ _ _ _ _ _ _ _ _ _ _ _ _ _ _ _ _ _ _ _ _ _ _ _ _ n).trans (by kernel_rfl),
  λx=>(zbz.eq_2 _ _ _ _ _ _ _ _ _ _ _ _ _ _ _ _ _ _ _ _ _ _ _ _ _ _ _ _ _ _ _ _ _ _ _ n).trans (by kernel_rfl),
  trivial⟩)
 (λx=>.inr (by kernel_rfl))
theorem y7c:OkL Tryz.prog [z6f]:=zz3 (zz0 _) (bs:=[z4q,z3d,z5q]) ⟨zlt,zhe,zr3,trivial⟩ y6v
theorem zpc:FOk Tryz.prog z6f:=y7c.1
def zkr:Nat->zz1->Option Bool
 |0,_=>none
 |n+1,a0=>
  pIf (a0.name==[])
   (pIf ((a0.params.length:Int)==0)
     (some ((a0.cases.length:Int)==0))
     (some false))
   (some false)
def y66:LSh:=⟨[(2,(.d .bool))],[],0,18,[]⟩
noncomputable def zfq:FI dat:=FI.of dat 52 18 0 [(.d (.st 7))] [] [(.d .bool)] [] true y66 (R:=Bool) (λx=>x.1) (λr=>(r,())) (λn x=>zkr n x.1)
 (λn=>[]) (ann [] (Tryz.f52.body.getD .skip) 0).1
noncomputable def y51:List (FI dat):=[]
theorem y5j:(zfq).Good Tryz.prog dat (tb y51):=FI.zz2 (hD:=zz0 _) Tryz.func52 Tryz.ntmps52 Tryz.call52 (by kernel_rfl) (Qac (by kernel_rfl)) (by kernel_rfl) (λn=>by kernel_rfl) (λx=>by kernel_rfl) (λ_=>rfl) trivial
 (λn=>λx=>(zkr.eq_2 _ n).trans (by kernel_rfl))
 (λn=>trivial)
 (λx=>.inl rfl)
theorem y5z:OkL Tryz.prog [zfq]:=zz3 (zz0 _) (bs:=[]) trivial y5j
theorem y2x:FOk Tryz.prog zfq:=y5z.1
mutual
def z6l:Nat->kz0->kz0->Option Bool
 |0,_,_=>none
 |n+1,a0,a1=>
  pIf (a0.op==a1.op)
   (pIf (a0.name==a1.name)
     ((z7m n a0.value.re a1.value.re).bind λy0=>
     pIf y0
      ((yz9 n a0.args a1.args).bind λy1=>
      some y1)
      (some false))
     (some false))
   (some false)
def yz9:Nat->(List kz0)->(List kz0)->Option Bool
 |0,_,_=>none
 |n+1,a0,a1=>
  pIf ((a0.length:Int) != (a1.length:Int))
   (some false)
   (zz8 n 0 a1 a0 (a0.length:Int))
def zz8:Nat->Int->(List kz0)->(List kz0)->Int->Option Bool
 |0,_,_,_,_=>none
 |n+1,a0,a1,a2,a3=>
  pIf (decide (a0<a3))
   ((ix a2 a0).bind λx0=>
   (ix a1 a0).bind λx1=>
   (z6l n x0.re x1.re).bind λy2=>
   pIf (!y2)
    (some false)
    (zz8 n (IntKind.i64.wrap (a0+1)) a1 a2 a3))
   (some true)
end
def y8i:LSh:=⟨[(4,(.d .bool))],[],0,31,[]⟩
noncomputable def z1l:FI dat:=FI.of dat 53 31 0 [(.d (.st 2)),(.d (.st 2))] [] [(.d .bool)] [] true y8i (R:=Bool) (λx=>x.1) (λr=>(r,())) (λn x=>z6l n x.1 x.2.1)
 (λn=>[]) (ann [] (Tryz.f53.body.getD .skip) 0).1
def z2v:LSh:=⟨[(6,(.d .bool))],[],0,32,[]⟩
noncomputable def yz4:FI dat:=FI.of dat 101 32 0 [(.d (.sl (.st 2))),(.d (.sl (.st 2))),(.fn 53 [] [])] [] [(.d .bool)] [] true z2v (R:=Bool) (λx=>x.1) (λr=>(r,())) (λn x=>yz9 n x.1 x.2.1)
 (λn=>[(0,⟨⟨[(17,(.d (.int .i64))),(2,(.fn 53 [] [])),(1,(.d (.sl (.st 2)))),(15,(.d (.sl (.st 2)))),(16,(.d (.int .i64)))],[],0,32,[]⟩,λx=>zz8 n x.1 x.2.1 x.2.2.1 x.2.2.2.1⟩)]) (ann [(14,0)] (Tryz.f101.body.getD .skip) 0).1
noncomputable def zuh:List (FI dat):=[z1l,yz4]++[z56]
theorem y89:(z1l).Good Tryz.prog dat (tb zuh):=FI.zz2 (hD:=zz0 _) Tryz.func53 Tryz.ntmps53 Tryz.call53 (by kernel_rfl) (Qac (by kernel_rfl)) (by kernel_rfl) (λn=>by kernel_rfl) (λx=>by kernel_rfl) (λ_=>rfl) trivial
 (λn=>λx=>(z6l.eq_2 _ _ n).trans (by kernel_rfl))
 (λn=>trivial)
 (λx=>.inl rfl)
theorem z32:(yz4).Good Tryz.prog dat (tb zuh):=FI.zz2 (hD:=zz0 _) Tryz.func101 Tryz.ntmps101 Tryz.call101 (by kernel_rfl) (Qac (by kernel_rfl)) (by kernel_rfl) (λn=>by kernel_rfl) (λx=>by kernel_rfl) (λ_=>rfl) ⟨λ_=>rfl,trivial⟩
 (λn=>λx=>(yz9.eq_2 _ _ n).trans (by kernel_rfl))
 (λn=>⟨λx=>(zz8.eq_2 _ _ _ _ n).trans (by kernel_rfl),
  trivial⟩)
 (λx=>.inl rfl)
theorem zuf:OkL Tryz.prog [z1l,yz4]:=zg4 (zz0 _) (bs:=[z56]) ⟨zoz,trivial⟩ ⟨y89,z32,trivial⟩
theorem zis:FOk Tryz.prog z1l:=zuf.1
theorem z2l:FOk Tryz.prog yz4:=zuf.2.1
mutual
def zj0:Nat->kz3->Option Bool
 |0,_=>none
 |n+1,a0=>
  (zkr n a0.rule_).bind λy0=>
  (z6l n a0.value.re (kz0.mk 0 (yz0.mk 0 (yz2.mk 0 0) false [] []) [] [])).bind λy1=>
  pIf (a0.kind==1)
   (z83 n (!y1) (!y0) a0.kind true a0.re)
   (z83 n (!y1) (!y0) a0.kind (a0.kind==3) a0.re)
def z83:Nat->Bool->Bool->Int->Bool->kz3->Option Bool
 |0,_,_,_,_,_=>none
 |n+1,a0,a1,a2,a3,a4=>
  pIf a3
   (pIf (a4.name==[])
     (pIf (a4.to_==[])
       (some (!a0))
       (some false))
     (some false))
   (pIf (a2==2)
     (pIf (a4.to_==[])
       (pIf (!a1)
         (some (!a0))
         (some false))
       (some false))
     (pIf (a2==4)
       (pIf (!a1)
         (some (!a0))
         (some false))
       (pIf (a2==5)
         (pIf (a4.to_==[])
           (some (!a1))
           (some false))
         (some false))))
end
def y2u:LSh:=⟨[(2,(.d .bool))],[],0,61,[]⟩
noncomputable def zdb:FI dat:=FI.of dat 22 61 0 [(.d (.st 9))] [] [(.d .bool)] [] true y2u (R:=Bool) (λx=>x.1) (λr=>(r,())) (λn x=>zj0 n x.1)
 (λn=>[(0,⟨⟨[(4,(.d .bool)),(1,(.ptr 0 0)),(3,(.d .bool)),(15,(.d (.int .u8))),(16,(.d .bool))],[(.st 9)],0,61,[]⟩,λx=>z83 n x.1 x.2.1 x.2.2.1 x.2.2.2.1 x.2.2.2.2.1⟩)]) (ann [(14,0)] (Tryz.f22.body.getD .skip) 0).1
noncomputable def y0r:List (FI dat):=[zfq,z1l]
theorem y1r:(zdb).Good Tryz.prog dat (tb y0r):=FI.zz2 (hD:=zz0 _) Tryz.func22 Tryz.ntmps22 Tryz.call22 (by kernel_rfl) (Qac (by kernel_rfl)) (by kernel_rfl) (λn=>by kernel_rfl) (λx=>by kernel_rfl) (λ_=>rfl) ⟨λ_=>rfl,trivial⟩
 (λn=>λx=>(zj0.eq_2 _ n).trans (by kernel_rfl))
 (λn=>⟨λx=>(z83.eq_2 _ _ _ _ _ n).trans (by kernel_rfl),
  trivial⟩)
 (λx=>.inl rfl)
theorem y2w:OkL Tryz.prog [zdb]:=zz3 (zz0 _) (bs:=[zfq,z1l]) ⟨y2x,zis,trivial⟩ y1r
theorem zyi:FOk Tryz.prog zdb:=y2w.1
def zjb:Nat->zz1->(List UInt8)->Option (Bool×(List UInt8))
 |0,_,_=>none
 |n+1,a0,a1=>
  some ((a0.name==a1),a1)
def y1z:LSh:=⟨[(3,(.d .bool))],[(.cells [(.d .str)])],1,8,[]⟩
noncomputable def zdg:FI dat:=FI.of dat 103 8 1 [(.d (.st 7)),(.ptr 0 0)] [(.cells [(.d .str)])] [(.d .bool)] [(.cells [(.d .str)])] false y1z (R:=Bool×(List UInt8)) (λx=>(x.1,x.2.1)) (λr=>(r.1,r.2,())) (λn x=>zjb n x.1 x.2.1)
 (λn=>[]) (ann [] (Tryz.f103.body.getD .skip) 0).1
noncomputable def y2l:List (FI dat):=[]
theorem y0s:(zdg).Good Tryz.prog dat (tb y2l):=FI.zz2 (hD:=zz0 _) Tryz.func103 Tryz.ntmps103 Tryz.call103 (by kernel_rfl) (Qac (by kernel_rfl)) (by kernel_rfl) (λn=>by kernel_rfl) (λx=>by kernel_rfl) (λ_=>rfl) trivial
 (λn=>λx=>(zjb.eq_2 _ _ n).trans (by kernel_rfl))
 (λn=>trivial)
 (λx=>.inr (by kernel_rfl))
theorem y1u:OkL Tryz.prog [zdg]:=zz3 (zz0 _) (bs:=[]) trivial y0s
theorem zyf:FOk Tryz.prog zdg:=y1u.1
mutual
def z0h:Nat->(List zz1)->(List UInt8)->Option (Int×(List UInt8))
 |0,_,_=>none
 |n+1,a0,a1=>
  zzm n 0 a0 (a0.length:Int) a1
def zzm:Nat->Int->(List zz1)->Int->(List UInt8)->Option (Int×(List UInt8))
 |0,_,_,_,_=>none
 |n+1,a0,a1,a2,a3=>
  pIf (decide (a0<a2))
   ((ix a1 a0).bind λx0=>
   (zjb n x0 a3).bind λy1=>
   pIf y1.1
    (some (a0,y1.2))
    (zzm n (IntKind.i64.wrap (a0+1)) a1 a2 y1.2))
   (some ((-1),a3))
end
def zci:LSh:=⟨[(4,(.d (.int .i64)))],[(.cells [(.d .str)])],1,19,[]⟩
noncomputable def kzi:FI dat:=FI.of dat 102 19 1 [(.d (.sl (.st 7))),(.fn 103 [] [(.ptr 0 0)])] [(.cells [(.d .str)])] [(.d (.int .i64))] [(.cells [(.d .str)])] false zci (R:=Int×(List UInt8)) (λx=>(x.1,x.2.1)) (λr=>(r.1,r.2,())) (λn x=>z0h n x.1 x.2.1)
 (λn=>[(0,⟨⟨[(8,(.d (.int .i64))),(0,(.d (.sl (.st 7)))),(1,(.fn 103 [] [(.ptr 0 0)])),(7,(.d (.int .i64)))],[(.cells [(.d .str)])],1,19,[]⟩,λx=>zzm n x.1 x.2.1 x.2.2.1 x.2.2.2.1⟩)]) (ann [(6,0)] (Tryz.f102.body.getD .skip) 0).1
noncomputable def zce:List (FI dat):=[zdg]
theorem zco:(kzi).Good Tryz.prog dat (tb zce):=FI.zz2 (hD:=zz0 _) Tryz.func102 Tryz.ntmps102 Tryz.call102 (by kernel_rfl) (Qac (by kernel_rfl)) (by kernel_rfl) (λn=>by kernel_rfl) (λx=>by kernel_rfl) (λ_=>rfl) ⟨λ_=>rfl,trivial⟩
 (λn=>λx=>(z0h.eq_2 _ _ n).trans (by kernel_rfl))
 (λn=>⟨λx=>(zzm.eq_2 _ _ _ _ n).trans (by kernel_rfl),
  trivial⟩)
 (λx=>.inr (by kernel_rfl))
theorem zc5:OkL Tryz.prog [kzi]:=zz3 (zz0 _) (bs:=[zdg]) ⟨zyf,trivial⟩ zco
theorem zbt:FOk Tryz.prog kzi:=zc5.1
def zbx:Nat->yz1->(List UInt8)->Option Int
 |0,_,_=>none
 |n+1,a0,a1=>
  (z0h n a0.rules a1).bind λy0=>
  some y0.1
def y8m:LSh:=⟨[(4,(.d (.int .i64)))],[],0,9,[]⟩
noncomputable def za3:FI dat:=FI.of dat 54 9 0 [(.d (.st 8)),(.d .str)] [] [(.d (.int .i64))] [] true y8m (R:=Int) (λx=>x.1) (λr=>(r,())) (λn x=>zbx n x.1 x.2.1)
 (λn=>[]) (ann [] (Tryz.f54.body.getD .skip) 0).1
noncomputable def y8o:List (FI dat):=[kzi]
theorem y8x:(za3).Good Tryz.prog dat (tb y8o):=FI.zz2 (hD:=zz0 _) Tryz.func54 Tryz.ntmps54 Tryz.call54 (by kernel_rfl) (Qac (by kernel_rfl)) (by kernel_rfl) (λn=>by kernel_rfl) (λx=>by kernel_rfl) (λ_=>rfl) trivial
 (λn=>λx=>(zbx.eq_2 _ _ n).trans (by kernel_rfl))
 (λn=>trivial)
 (λx=>.inl rfl)
theorem y9h:OkL Tryz.prog [za3]:=zz3 (zz0 _) (bs:=[kzi]) ⟨zbt,trivial⟩ y8x
theorem zsg:FOk Tryz.prog za3:=y9h.1
def zjj:Nat->kz4->(List UInt8)->Option (Bool×(List UInt8))
 |0,_,_=>none
 |n+1,a0,a1=>
  some ((a0.name==a1),a1)
def y2p:LSh:=⟨[(3,(.d .bool))],[(.cells [(.d .str)])],1,8,[]⟩
noncomputable def zcs:FI dat:=FI.of dat 56 8 1 [(.d (.st 3)),(.ptr 0 0)] [(.cells [(.d .str)])] [(.d .bool)] [(.cells [(.d .str)])] false y2p (R:=Bool×(List UInt8)) (λx=>(x.1,x.2.1)) (λr=>(r.1,r.2,())) (λn x=>zjj n x.1 x.2.1)
 (λn=>[]) (ann [] (Tryz.f56.body.getD .skip) 0).1
noncomputable def y1w:List (FI dat):=[]
theorem y1g:(zcs).Good Tryz.prog dat (tb y1w):=FI.zz2 (hD:=zz0 _) Tryz.func56 Tryz.ntmps56 Tryz.call56 (by kernel_rfl) (Qac (by kernel_rfl)) (by kernel_rfl) (λn=>by kernel_rfl) (λx=>by kernel_rfl) (λ_=>rfl) trivial
 (λn=>λx=>(zjj.eq_2 _ _ n).trans (by kernel_rfl))
 (λn=>trivial)
 (λx=>.inr (by kernel_rfl))
theorem y0m:OkL Tryz.prog [zcs]:=zz3 (zz0 _) (bs:=[]) trivial y1g
theorem zwu:FOk Tryz.prog zcs:=y0m.1
mutual
def z0e:Nat->(List UInt8)->(List kz4)->Option (Int×(List UInt8)×(List kz4))
 |0,_,_=>none
 |n+1,a0,a1=>
  yzm n 0 (a1.length:Int) a0 a1
def yzm:Nat->Int->Int->(List UInt8)->(List kz4)->Option (Int×(List UInt8)×(List kz4))
 |0,_,_,_,_=>none
 |n+1,a0,a1,a2,a3=>
  pIf (decide (a0<a1))
   ((ix a3 a0).bind λx0=>
   (zjj n x0.re a2).bind λy1=>
   pIf y1.1
    (some (a0,y1.2,a3))
    (yzm n (IntKind.i64.wrap (a0+1)) a1 y1.2 a3))
   (some ((-1),a2,a3))
end
def zch:LSh:=⟨[(4,(.d (.int .i64)))],[(.cells [(.d .str)]),(.acc 83 (.st 3) true)],2,19,[]⟩
noncomputable def yzi:FI dat:=FI.of dat 55 19 2 [(.own 1),(.fn 56 [] [(.ptr 0 0)])] [(.cells [(.d .str)]),(.acc 83 (.st 3) true)] [(.d (.int .i64))] [(.cells [(.d .str)]),(.acc 83 (.st 3) true)] false zch (R:=Int×(List UInt8)×(List kz4)) (λx=>(x.1,x.2.1,x.2.2.1)) (λr=>(r.1,r.2.1,r.2.2,())) (λn x=>z0e n x.1 x.2.1)
 (λn=>[(0,⟨⟨[(8,(.d (.int .i64))),(0,(.own 1)),(1,(.fn 56 [] [(.ptr 0 0)])),(7,(.d (.int .i64)))],[(.cells [(.d .str)]),(.acc 83 (.st 3) true)],2,19,[]⟩,λx=>yzm n x.1 x.2.1 x.2.2.1 x.2.2.2.1⟩)]) (ann [(6,0)] (Tryz.f55.body.getD .skip) 0).1
noncomputable def zcd:List (FI dat):=[zcs]
theorem zcc:(yzi).Good Tryz.prog dat (tb zcd):=FI.zz2 (hD:=zz0 _) Tryz.func55 Tryz.ntmps55 Tryz.call55 (by kernel_rfl) (Qac (by kernel_rfl)) (by kernel_rfl) (λn=>by kernel_rfl) (λx=>by kernel_rfl) (λ_=>rfl) ⟨λ_=>rfl,trivial⟩
 (λn=>λx=>(z0e.eq_2 _ _ n).trans (by kernel_rfl))
 (λn=>⟨λx=>(yzm.eq_2 _ _ _ _ n).trans (by kernel_rfl),
  trivial⟩)
 (λx=>.inr (by kernel_rfl))
theorem zcm:OkL Tryz.prog [yzi]:=zz3 (zz0 _) (bs:=[zcs]) ⟨zwu,trivial⟩ zcc
theorem zbj:FOk Tryz.prog yzi:=zcm.1
def zir:Nat->zz1->Option ((List UInt8)×(List (List UInt8))×(List kz9))
 |0,_=>none
 |n+1,a0=>
  (zh6 n (yz1.mk [] [a0])).bind λy0=>
  (ix y0.2 0).bind λx1=>
  (ix y0.2 0).bind λx2=>
  (ix y0.2 0).bind λx3=>
  some (x3.name,x3.params,x2.cases)
def y8y:LSh:=⟨[(2,(.ptr 0 0))],[(.cells [(.d .str),(.d (.sl .str)),(.own 1)]),(.deep 64 6)],0,10,[]⟩
noncomputable def zhm:FI dat:=FI.of dat 57 10 0 [(.d (.st 7))] [] [(.agg [(.d .str),(.d (.sl .str)),(.own 1)])] [(.cells [(.d .str),(.d (.sl .str)),(.own 1)]),(.deep 64 6)] false y8y (R:=(List UInt8)×(List (List UInt8))×(List kz9)) (λx=>(x.1,x.2.1,x.2.2.1)) (λr=>(r.1,r.2.1,r.1,r.2.1,r.2.2,())) (λn x=>zir n x.1)
 (λn=>[]) (ann [] (Tryz.f57.body.getD .skip) 0).1
noncomputable def y9j:List (FI dat):=[z6f]
theorem yag:(zhm).Good Tryz.prog dat (tb y9j):=FI.zz2 (hD:=zz0 _) Tryz.func57 Tryz.ntmps57 Tryz.call57 (by kernel_rfl) (Qac (by kernel_rfl)) (by kernel_rfl) (λn=>by kernel_rfl) (λx=>by kernel_rfl) (λ_=>rfl) trivial
 (λn=>λx=>(zir.eq_2 _ n).trans (by kernel_rfl))
 (λn=>trivial)
 (λx=>.inr (by kernel_rfl))
theorem yak:OkL Tryz.prog [zhm]:=zz3 (zz0 _) (bs:=[z6f]) ⟨zpc,trivial⟩ yag
theorem y68:FOk Tryz.prog zhm:=yak.1
def zgn:Nat->Int->(List UInt8)->(List UInt8)->(List zz1)->Option ((List UInt8)×(List UInt8)×(List zz1))
 |0,_,_,_,_=>none
 |n+1,a0,a1,a2,a3=>
  (ix a3 a0).bind λx0=>
  pIf (x0.name==a1)
   ((ix a3 a0).bind λx1=>
   some (a1,a2,(a3.set (Int.toNat a0) (zz1.mk a2 x1.params x1.cases))))
   (some (a1,a2,a3))
def zuy:LSh:=⟨[],[(.cells [(.d .str)]),(.cells [(.d .str)]),(.deep 34 7)],2,12,[2]⟩
noncomputable def z7f:FI dat:=FI.of dat 104 12 2 [(.dp 2 0),(.ptr 0 0),(.ptr 1 0)] [(.cells [(.d .str)]),(.cells [(.d .str)]),(.deep 34 7)] [] [(.cells [(.d .str)]),(.cells [(.d .str)]),(.deep 34 7)] false zuy (R:=(List UInt8)×(List UInt8)×(List zz1)) (λx=>(x.1,x.2.1,x.2.2.1)) (λr=>(r.1,r.2.1,r.2.2,())) (λn x=>zgn n x.1 x.2.1 x.2.2.1 x.2.2.2.1)
 (λn=>[]) (ann [] (Tryz.f104.body.getD .skip) 0).1 [2]
noncomputable def zvf:List (FI dat):=[]
theorem zvb:(z7f).Good Tryz.prog dat (tb zvf):=FI.zz2 (hD:=zz0 _) Tryz.func104 Tryz.ntmps104 Tryz.call104 (by kernel_rfl) (Qac (by kernel_rfl)) (by kernel_rfl) (λn=>by kernel_rfl) (λx=>by kernel_rfl) (λ_=>rfl) trivial
 (λn=>λx=>(zgn.eq_2 _ _ _ _ n).trans (by kernel_rfl))
 (λn=>trivial)
 (λx=>.inr (by kernel_rfl))
theorem zv8:OkL Tryz.prog [z7f]:=zz3 (zz0 _) (bs:=[]) trivial zvb
theorem ztp:FOk Tryz.prog z7f:=zv8.1
def zcl:Nat->Int->(List UInt8)->(List UInt8)->(List yz3)->Option ((List UInt8)×(List UInt8)×(List yz3))
 |0,_,_,_,_=>none
 |n+1,a0,a1,a2,a3=>
  (ix a3 a0).bind λx0=>
  pIf (x0.name==a1)
   ((ix a3 a0).bind λx1=>
   some (a1,a2,(a3.set (Int.toNat a0) (yz3.mk x1.kind x1.axis a2 x1.args x1.items))))
   (some (a1,a2,a3))
def zqh:LSh:=⟨[],[(.cells [(.d .str)]),(.cells [(.d .str)]),(.deep 71 5)],2,12,[2]⟩
noncomputable def z41:FI dat:=FI.of dat 104 12 2 [(.dp 2 2),(.ptr 0 0),(.ptr 1 0)] [(.cells [(.d .str)]),(.cells [(.d .str)]),(.deep 71 5)] [] [(.cells [(.d .str)]),(.cells [(.d .str)]),(.deep 71 5)] false zqh (R:=(List UInt8)×(List UInt8)×(List yz3)) (λx=>(x.1,x.2.1,x.2.2.1)) (λr=>(r.1,r.2.1,r.2.2,())) (λn x=>zcl n x.1 x.2.1 x.2.2.1 x.2.2.2.1)
 (λn=>[]) (ann [] (Tryz.f104.body.getD .skip) 0).1 [2]
noncomputable def zpt:List (FI dat):=[]
theorem zpl:(z41).Good Tryz.prog dat (tb zpt):=FI.zz2 (hD:=zz0 _) Tryz.func104 Tryz.ntmps104 Tryz.call104 (by kernel_rfl) (Qac (by kernel_rfl)) (by kernel_rfl) (λn=>by kernel_rfl) (λx=>by kernel_rfl) (λ_=>rfl) trivial
 (λn=>λx=>(zcl.eq_2 _ _ _ _ n).trans (by kernel_rfl))
 (λn=>trivial)
 (λx=>.inr (by kernel_rfl))
theorem zqe:OkL Tryz.prog [z41]:=zz3 (zz0 _) (bs:=[]) trivial zpl
theorem zoa:FOk Tryz.prog z41:=zqe.1
end Go.Proofs.YthlmhmebajjkbaaGreatDoor
