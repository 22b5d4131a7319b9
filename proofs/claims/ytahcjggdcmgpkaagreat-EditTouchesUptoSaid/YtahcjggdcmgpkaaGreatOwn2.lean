/-
  Go functions as Lean functions, by a program of this repo.
-/
import Derived.Test.YtahcjggdcmgpkaaGreatOwn1
import Derived.Test.YtahcjggdcmgpkaaGreatLib2
import Derived.Test.YtahcjggdcmgpkaaGreatProg
import Derived.Test.YtahcjggdcmgpkaaGreatOwn0
namespace Go.Proofs.YtahcjggdcmgpkaaGreat
open Go Go.Ab
set_option linter.unusedVariables false
set_option maxRecDepth 100000
set_option maxHeartbeats 4000000
def zdl:Nat->zz0->(List UInt8)->Option (Bool×zz1)
 |0,_,_=>none
 |n+1,a0,a1 =>
  (z5w n a0).bind λy0 =>
  (z44 n y0 a1).bind λy1 =>
  pIf (decide (y1<0))
   (some (false,(zz1.mk 0 (yz2.mk 0 (zz7.mk 0 0) false [] []) [] [])))
   ((ix a0.attrs y1).bind λx2 =>
   some (true,x2.value.re))
def yt8:LSh:=⟨[(4,(.ptr 0 0)),(5,(.d .bool))],[(.st 2)],0,20⟩
noncomputable def zmv:FI dat:=FI.of dat 39 20 0 [(.d (.st 8)),(.d .str)] [] [(.d (.st 2)),(.d .bool)] [] true yt8 (R:=Bool×zz1) (λx=>(x.1,x.2.1)) (λr=>(r.2,r.1,())) (λn x=>zdl n x.1 x.2.1)
 (λn=>[]) (ann [] (Tryz.f39.body.getD .skip) 0).1
noncomputable def yr6:List (FI dat):=[z97,z0s]
theorem ypj:(zmv).Good Tryz.prog dat (tb yr6):=FI.yz4 (hD:=zz2 _) Tryz.func39 Tryz.ntmps39 Tryz.call39 (by kernel_rfl) (of_decide_eq_true (by kernel_rfl)) (by kernel_rfl) (λn=>by kernel_rfl) (λx=>by kernel_rfl) (λ_=>rfl) trivial
 (λn=>λx=>(zdl.eq_2 x.1 x.2.1 n).trans (by kernel_rfl))
 (λn=>trivial)
 (λx=>.inl rfl)
theorem ypi:OkL Tryz.prog [zmv]:=zz6 (zz2 _) (bs:=[z97,z0s]) ⟨zqj,zcv,trivial⟩ ypj
theorem yj7:FOk Tryz.prog zmv:=ypi.1
mutual
def z5n:Nat->zz1->zz1->Option Bool
 |0,_,_=>none
 |n+1,a0,a1 =>
  pIf (a0.op != a1.op)
   (z38 n true a1.re a0.re)
   (pIf (!(a0.name==a1.name))
     (z38 n true a1.re a0.re)
     ((z45 n a0.value.re a1.value.re).bind λy0 =>
     pIf (!y0)
      (z38 n true a1.re a0.re)
      (z38 n ((a0.args.length:Int) != (a1.args.length:Int)) a1.re a0.re)))
def z38:Nat->Bool->zz1->zz1->Option Bool
 |0,_,_,_=>none
 |n+1,a0,a1,a2 =>
  pIf a0
   (some false)
   (z7w n 0 a1.re a2.re)
def z7w:Nat->Int->zz1->zz1->Option Bool
 |0,_,_,_=>none
 |n+1,a0,a1,a2 =>
  pIf (decide (a0<(a2.args.length:Int)))
   ((ix a2.args a0).bind λx1 =>
   (ix a1.args a0).bind λx2 =>
   (z5n n x1.re x2.re).bind λy3 =>
   pIf (!y3)
    (some false)
    (z7w n (IntKind.i64.wrap (a0+1)) a1.re a2.re))
   (some true)
end
def ysu:LSh:=⟨[(4,(.d .bool))],[],0,54⟩
noncomputable def z98:FI dat:=FI.of dat 40 54 0 [(.d (.st 2)),(.d (.st 2))] [] [(.d .bool)] [] true ysu (R:=Bool) (λx=>x.1) (λr=>(r,())) (λn x=>z5n n x.1 x.2.1)
 (λn=>[(0,⟨⟨[(3,(.ptr 0 0)),(2,(.ptr 1 0)),(34,(.d .bool))],[(.st 2),(.st 2)],0,54⟩,λx=>z38 n x.1 x.2.1 x.2.2.1⟩),(1,⟨⟨[(5,(.d (.int .i64))),(3,(.ptr 0 0)),(2,(.ptr 1 0))],[(.st 2),(.st 2)],0,54⟩,λx=>z7w n x.1 x.2.1 x.2.2.1⟩)]) (ann [(5,0),(14,1)] (Tryz.f40.body.getD .skip) 0).1
noncomputable def yq7:List (FI dat):=[z98]++[zcz]
theorem ys8:(z98).Good Tryz.prog dat (tb yq7):=FI.yz4 (hD:=zz2 _) Tryz.func40 Tryz.ntmps40 Tryz.call40 (by kernel_rfl) (of_decide_eq_true (by kernel_rfl)) (by kernel_rfl) (λn=>by kernel_rfl) (λx=>by kernel_rfl) (λ_=>rfl) ⟨λ_=>rfl,λ_=>rfl,trivial⟩
 (λn=>λx=>(z5n.eq_2 x.1 x.2.1 n).trans (by kernel_rfl))
 (λn=>⟨λx=>(z38.eq_2 x.1 x.2.1 x.2.2.1 n).trans (by kernel_rfl),
  λx=>(z7w.eq_2 x.1 x.2.1 x.2.2.1 n).trans (by kernel_rfl),
  trivial⟩)
 (λx=>.inl rfl)
theorem ypu:OkL Tryz.prog [z98]:=zc5 (zz2 _) (bs:=[zcz]) ⟨y0v,trivial⟩ ⟨ys8,trivial⟩
theorem ztm:FOk Tryz.prog z98:=ypu.1
mutual
def z95:Nat->zz1->(List (List UInt8))->Option Bool
 |0,_,_=>none
 |n+1,a0,a1 =>
  (zbu n a0.re).bind λy0 =>
  z7q n 0 y0.1 a1
def z7q:Nat->Int->(List (List UInt8))->(List (List UInt8))->Option Bool
 |0,_,_,_=>none
 |n+1,a0,a1,a2 =>
  pIf (decide (a0<(a1.length:Int)))
   ((ix a1 a0).bind λx1 =>
   (z44 n a2 x1).bind λy2 =>
   pIf (decide (y2>=0))
    (some true)
    (z7q n (IntKind.i64.wrap (a0+1)) a1 a2))
   (some false)
end
def yr1:LSh:=⟨[(4,(.d .bool))],[],0,26⟩
noncomputable def zfl:FI dat:=FI.of dat 41 26 0 [(.d (.st 2)),(.d (.sl .str))] [] [(.d .bool)] [] true yr1 (R:=Bool) (λx=>x.1) (λr=>(r,())) (λn x=>z95 n x.1 x.2.1)
 (λn=>[(0,⟨⟨[(7,(.d (.int .i64))),(5,(.d (.sl .str))),(1,(.d (.sl .str)))],[],0,26⟩,λx=>z7q n x.1 x.2.1 x.2.2.1⟩)]) (ann [(8,0)] (Tryz.f41.body.getD .skip) 0).1
noncomputable def yoe:List (FI dat):=[zdp,z0s]
theorem ysf:(zfl).Good Tryz.prog dat (tb yoe):=FI.yz4 (hD:=zz2 _) Tryz.func41 Tryz.ntmps41 Tryz.call41 (by kernel_rfl) (of_decide_eq_true (by kernel_rfl)) (by kernel_rfl) (λn=>by kernel_rfl) (λx=>by kernel_rfl) (λ_=>rfl) ⟨λ_=>rfl,trivial⟩
 (λn=>λx=>(z95.eq_2 x.1 x.2.1 n).trans (by kernel_rfl))
 (λn=>⟨λx=>(z7q.eq_2 x.1 x.2.1 x.2.2.1 n).trans (by kernel_rfl),
  trivial⟩)
 (λx=>.inl rfl)
theorem yo8:OkL Tryz.prog [zfl]:=zz6 (zz2 _) (bs:=[zdp,z0s]) ⟨zxp,zcv,trivial⟩ ysf
theorem y1f:FOk Tryz.prog zfl:=yo8.1
mutual
def zcs:Nat->(List (List UInt8))->(List UInt8)->Option (List (List UInt8))
 |0,_,_=>none
 |n+1,a0,a1 =>
  z7g n 0 a0 a1
def z7g:Nat->Int->(List (List UInt8))->(List UInt8)->Option (List (List UInt8))
 |0,_,_,_=>none
 |n+1,a0,a1,a2 =>
  pIf (decide (a0<(a1.length:Int)))
   ((ix a1 a0).bind λx0 =>
   zab n a1 a2 a0 (Op.bytesLess x0 a2))
   (zab n a1 a2 a0 false)
def zab:Nat->(List (List UInt8))->(List UInt8)->Int->Bool->Option (List (List UInt8))
 |0,_,_,_,_=>none
 |n+1,a0,a1,a2,a3 =>
  pIf a3
   (z7g n (IntKind.i64.wrap (a2+1)) a0 a1)
   (pIf (decide (a2<(a0.length:Int)))
     ((ix a0 a2).bind λx1 =>
     za9 n a0 a2 a1 (x1==a1))
     (za9 n a0 a2 a1 false))
def za9:Nat->(List (List UInt8))->Int->(List UInt8)->Bool->Option (List (List UInt8))
 |0,_,_,_,_=>none
 |n+1,a0,a1,a2,a3 =>
  pIf a3
   (some a0)
   ((sub a0 0 a1).bind λx2 =>
   (ext [] x2).bind λx3 =>
   (sub a0 a1 (a0.length:Int)).bind λx4 =>
   (ext x3 [a2]).bind λx5 =>
   (ext x5 x4).bind λx6 =>
   some x6)
end
def yu1:LSh:=⟨[(4,(.d (.sl .str)))],[],0,47⟩
noncomputable def zcr:FI dat:=FI.of dat 27 47 0 [(.d (.sl .str)),(.d .str)] [] [(.d (.sl .str))] [] true yu1 (R:=List (List UInt8)) (λx=>x.1) (λr=>(r,())) (λn x=>zcs n x.1 x.2.1)
 (λn=>[(0,⟨⟨[(5,(.d (.int .i64))),(0,(.d (.sl .str))),(1,(.d .str))],[],0,47⟩,λx=>z7g n x.1 x.2.1 x.2.2.1⟩),(1,⟨⟨[(0,(.d (.sl .str))),(1,(.d .str)),(5,(.d (.int .i64))),(18,(.d .bool))],[],0,47⟩,λx=>zab n x.1 x.2.1 x.2.2.1 x.2.2.2.1⟩),(2,⟨⟨[(0,(.d (.sl .str))),(5,(.d (.int .i64))),(1,(.d .str)),(32,(.d .bool))],[],0,47⟩,λx=>za9 n x.1 x.2.1 x.2.2.1 x.2.2.2.1⟩)]) (ann [(6,0),(10,1),(18,2)] (Tryz.f27.body.getD .skip) 0).1
noncomputable def yuh:List (FI dat):=[]
theorem yuj:(zcr).Good Tryz.prog dat (tb yuh):=FI.yz4 (hD:=zz2 _) Tryz.func27 Tryz.ntmps27 Tryz.call27 (by kernel_rfl) (of_decide_eq_true (by kernel_rfl)) (by kernel_rfl) (λn=>by kernel_rfl) (λx=>by kernel_rfl) (λ_=>rfl) ⟨λ_=>rfl,λ_=>rfl,λ_=>rfl,trivial⟩
 (λn=>λx=>(zcs.eq_2 x.1 x.2.1 n).trans (by kernel_rfl))
 (λn=>⟨λx=>(z7g.eq_2 x.1 x.2.1 x.2.2.1 n).trans (by kernel_rfl),
  λx=>(zab.eq_2 x.1 x.2.1 x.2.2.1 x.2.2.2.1 n).trans (by kernel_rfl),
  λx=>(za9.eq_2 x.1 x.2.1 x.2.2.1 x.2.2.2.1 n).trans (by kernel_rfl),
  trivial⟩)
 (λx=>.inl rfl)
theorem yv0:OkL Tryz.prog [zcr]:=zz6 (zz2 _) (bs:=[]) trivial yuj
theorem zwo:FOk Tryz.prog zcr:=yv0.1
mutual
def zbs:Nat->zz0->zz0->Option (List (List UInt8))
 |0,_,_=>none
 |n+1,a0,a1 =>
  z6q n [] 0 a1 a0
def z6q:Nat->(List (List UInt8))->Int->zz0->zz0->Option (List (List UInt8))
 |0,_,_,_,_=>none
 |n+1,a0,a1,a2,a3 =>
  pIf (decide (a1<=(IntKind.i64.wrap ((a3.attrs.length:Int)+(a2.attrs.length:Int)))))
   ((ext [] a3.attrs).bind λx0 =>
   (ext x0 a2.attrs).bind λx1 =>
   z41 n 0 a0 a1 x1 a2 a3)
   (some a0)
def z41:Nat->Int->(List (List UInt8))->Int->(List kz6)->zz0->zz0->Option (List (List UInt8))
 |0,_,_,_,_,_,_=>none
 |n+1,a0,a1,a2,a3,a4,a5 =>
  pIf (decide (a0<(a3.length:Int)))
   ((ix a3 a0).bind λx2 =>
   (zdl n a5 x2.name).bind λy3 =>
   (ix a3 a0).bind λx4 =>
   (zdl n a4 x4.name).bind λy5 =>
   pIf (!y3.1)
    (z2g n a2 a0 a1 true a3 a4 a5)
    (pIf (!y5.1)
      (z2g n a2 a0 a1 true a3 a4 a5)
      ((z5n n y3.2.re y5.2.re).bind λy6 =>
      pIf (!y6)
       (z2g n a2 a0 a1 true a3 a4 a5)
       ((ix a3 a0).bind λx7 =>
       (z95 n x7.value.re a1).bind λy8 =>
       z2g n a2 a0 a1 y8 a3 a4 a5))))
   (z6q n a1 (IntKind.i64.wrap (a2+1)) a4 a5)
def z2g:Nat->Int->Int->(List (List UInt8))->Bool->(List kz6)->zz0->zz0->Option (List (List UInt8))
 |0,_,_,_,_,_,_,_=>none
 |n+1,a0,a1,a2,a3,a4,a5,a6 =>
  pIf a3
   ((ix a4 a1).bind λx9 =>
   (zcs n a2 x9.name).bind λy10 =>
   z9m n y10 a0 a1 a4 a5 a6)
   (z9m n a2 a0 a1 a4 a5 a6)
def z9m:Nat->(List (List UInt8))->Int->Int->(List kz6)->zz0->zz0->Option (List (List UInt8))
 |0,_,_,_,_,_,_=>none
 |n+1,a0,a1,a2,a3,a4,a5 =>
  z41 n (IntKind.i64.wrap (a2+1)) a0 a1 a3 a4 a5
end
def yk0:LSh:=⟨[(4,(.d (.sl .str)))],[],0,86⟩
noncomputable def zd9:FI dat:=FI.of dat 18 86 0 [(.d (.st 8)),(.d (.st 8))] [] [(.d (.sl .str))] [] true yk0 (R:=List (List UInt8)) (λx=>x.1) (λr=>(r,())) (λn x=>zbs n x.1 x.2.1)
 (λn=>[(0,⟨⟨[(5,(.d (.sl .str))),(3,(.ptr 0 0)),(2,(.ptr 1 0)),(6,(.d (.int .i64)))],[(.st 8),(.st 8)],0,86⟩,λx=>z6q n x.1 x.2.1 x.2.2.1 x.2.2.2.1⟩),(1,⟨⟨[(8,(.d (.int .i64))),(7,(.own 0)),(5,(.d (.sl .str))),(3,(.ptr 1 0)),(2,(.ptr 2 0)),(6,(.d (.int .i64)))],[(.acc 45 (.st 3) true),(.st 8),(.st 8)],0,86⟩,λx=>z41 n x.1 x.2.1 x.2.2.1 x.2.2.2.1 x.2.2.2.2.1 x.2.2.2.2.2.1⟩),(2,⟨⟨[(7,(.own 0)),(3,(.ptr 1 0)),(2,(.ptr 2 0)),(6,(.d (.int .i64))),(8,(.d (.int .i64))),(5,(.d (.sl .str))),(77,(.d .bool))],[(.acc 45 (.st 3) true),(.st 8),(.st 8)],0,86⟩,λx=>z2g n x.1 x.2.1 x.2.2.1 x.2.2.2.1 x.2.2.2.2.1 x.2.2.2.2.2.1 x.2.2.2.2.2.2.1⟩),(3,⟨⟨[(7,(.own 0)),(5,(.d (.sl .str))),(3,(.ptr 1 0)),(2,(.ptr 2 0)),(6,(.d (.int .i64))),(8,(.d (.int .i64)))],[(.acc 45 (.st 3) true),(.st 8),(.st 8)],0,86⟩,λx=>z9m n x.1 x.2.1 x.2.2.1 x.2.2.2.1 x.2.2.2.2.1 x.2.2.2.2.2.1⟩)]) (ann [(8,0),(22,1),(37,2),(40,3)] (Tryz.f18.body.getD .skip) 0).1
noncomputable def yhl:List (FI dat):=[zmv,z98,zfl,zcr]
theorem yie:(zd9).Good Tryz.prog dat (tb yhl):=FI.yz4 (hD:=zz2 _) Tryz.func18 Tryz.ntmps18 Tryz.call18 (by kernel_rfl) (of_decide_eq_true (by kernel_rfl)) (by kernel_rfl) (λn=>by kernel_rfl) (λx=>by kernel_rfl) (λ_=>rfl) ⟨λ_=>rfl,λ_=>rfl,λ_=>rfl,λ_=>rfl,trivial⟩
 (λn=>λx=>(zbs.eq_2 x.1 x.2.1 n).trans (by kernel_rfl))
 (λn=>⟨λx=>(z6q.eq_2 x.1 x.2.1 x.2.2.1 x.2.2.2.1 n).trans (by kernel_rfl),
  λx=>(z41.eq_2 x.1 x.2.1 x.2.2.1 x.2.2.2.1 x.2.2.2.2.1 x.2.2.2.2.2.1 n).trans (by kernel_rfl),
  λx=>(z2g.eq_2 x.1 x.2.1 x.2.2.1 x.2.2.2.1 x.2.2.2.2.1 x.2.2.2.2.2.1 x.2.2.2.2.2.2.1 n).trans (by kernel_rfl),
  λx=>(z9m.eq_2 x.1 x.2.1 x.2.2.1 x.2.2.2.1 x.2.2.2.2.1 x.2.2.2.2.2.1 n).trans (by kernel_rfl),
  trivial⟩)
 (λx=>.inl rfl)
theorem yme:OkL Tryz.prog [zd9]:=zz6 (zz2 _) (bs:=[zmv,z98,zfl,zcr]) ⟨yj7,ztm,y1f,zwo,trivial⟩ yie
theorem zyg:FOk Tryz.prog zd9:=yme.1
def zbm:Nat->zz0->zz0->Option ((List (List UInt8))×Int)
 |0,_,_=>none
 |n+1,a0,a1 =>
  (z48 n a0 a1).bind λy0 =>
  pIf (y0 != 0)
   ((z48 n a0 a1).bind λy1 =>
   some ([],y1))
   ((zbs n a0 a1).bind λy2 =>
   some (y2,0))
def yju:LSh:=⟨[(4,(.d (.sl .str))),(5,(.d (.int .i64)))],[],0,16⟩
noncomputable def zjs:FI dat:=FI.of dat 6 16 0 [(.d (.st 8)),(.d (.st 8))] [] [(.d (.sl .str)),(.d (.int .i64))] [] true yju (R:=(List (List UInt8))×Int) (λx=>(x.1,x.2.1)) (λr=>(r.1,r.2,())) (λn x=>zbm n x.1 x.2.1)
 (λn=>[]) (ann [] (Tryz.f6.body.getD .skip) 0).1
noncomputable def yha:List (FI dat):=[zb2,zd9]
theorem yiq:(zjs).Good Tryz.prog dat (tb yha):=FI.yz4 (hD:=zz2 _) Tryz.func6 Tryz.ntmps6 Tryz.call6 (by kernel_rfl) (of_decide_eq_true (by kernel_rfl)) (by kernel_rfl) (λn=>by kernel_rfl) (λx=>by kernel_rfl) (λ_=>rfl) trivial
 (λn=>λx=>(zbm.eq_2 x.1 x.2.1 n).trans (by kernel_rfl))
 (λn=>trivial)
 (λx=>.inl rfl)
theorem yj8:OkL Tryz.prog [zjs]:=zz6 (zz2 _) (bs:=[zb2,zd9]) ⟨ztl,zyg,trivial⟩ yiq
theorem yf3:FOk Tryz.prog zjs:=yj8.1
mutual
def kzs:Nat->(List (List kz4))->Option (Res ((List UInt8)×Unit) (List kz4))
 |0,_=>none
 |n+1,a0 =>
  zzo n 0 0 a0 a0 (a0.length:Int)
def zzo:Nat->Int->Int->(List (List kz4))->(List (List kz4))->Int->Option (Res ((List UInt8)×Unit) (List kz4))
 |0,_,_,_,_,_=>none
 |n+1,a0,a1,a2,a3,a4 =>
  pIf (decide (a0<a4))
   ((ix a2 a0).bind λx0 =>
   pIf (decide ((IntKind.i64.wrap (a1+(x0.length:Int)))<0))
    (some (Res.pan ([108,101,110,32,111,117,116,32,111,102,32,114,97,110,103,101],())))
    (zzx n (IntKind.i64.wrap (a1+(x0.length:Int))) a2 a3 a4 a0))
   ((z6m n [] a1).bind λy1 =>
   kzh n 0 a3 (a3.length:Int) y1)
def zzx:Nat->Int->(List (List kz4))->(List (List kz4))->Int->Int->Option (Res ((List UInt8)×Unit) (List kz4))
 |0,_,_,_,_,_=>none
 |n+1,a0,a1,a2,a3,a4 =>
  zzo n (IntKind.i64.wrap (a4+1)) a0 a1 a2 a3
def kzh:Nat->Int->(List (List kz4))->Int->(List kz4)->Option (Res ((List UInt8)×Unit) (List kz4))
 |0,_,_,_,_=>none
 |n+1,a0,a1,a2,a3 =>
  pIf (decide (a0<a2))
   ((ix a1 a0).bind λx2 =>
   (ext a3 x2).bind λx3 =>
   kzh n (IntKind.i64.wrap (a0+1)) a1 a2 x3)
   (some (Res.ok a3))
end
def zls:LSh:=⟨[(2,(.d (.sl (.st 7))))],[],0,36⟩
noncomputable def z0d:FI dat:=FI.ofP dat 42 36 0 [(.d (.sl (.sl (.st 7))))] [] [(.d (.sl (.st 7)))] [] (.iface 9 (.d .str)) [] [] zls (R:=List kz4) (λx=>x.1) (λr=>(r,())) (λn x=>kzs n x.1)
 (λn=>[(0,⟨⟨[(11,(.d (.int .i64))),(3,(.d (.int .i64))),(9,(.d (.sl (.sl (.st 7))))),(0,(.d (.sl (.sl (.st 7))))),(10,(.d (.int .i64)))],[],0,36⟩,λx=>zzo n x.1 x.2.1 x.2.2.1 x.2.2.2.1 x.2.2.2.2.1⟩),(1,⟨⟨[(3,(.d (.int .i64))),(9,(.d (.sl (.sl (.st 7))))),(0,(.d (.sl (.sl (.st 7))))),(10,(.d (.int .i64))),(11,(.d (.int .i64)))],[],0,36⟩,λx=>zzx n x.1 x.2.1 x.2.2.1 x.2.2.2.1 x.2.2.2.2.1⟩),(2,⟨⟨[(27,(.d (.int .i64))),(6,(.own 0)),(25,(.d (.sl (.sl (.st 7))))),(26,(.d (.int .i64)))],[(.acc 48 (.st 7) true)],0,36⟩,λx=>kzh n x.1 x.2.1 x.2.2.1 x.2.2.2.1⟩)]) (ann [(8,0),(26,1),(33,2)] (Tryz.f42.body.getD .skip) 0).1
noncomputable def zlq:List (FI dat):=[z7k]
theorem zlk:(z0d).Good Tryz.prog dat (tb zlq):=FI.zo4 (hD:=zz2 _) Tryz.func42 Tryz.ntmps42 Tryz.call42 (by kernel_rfl) (of_decide_eq_true (by kernel_rfl)) (by kernel_rfl) (λn=>by kernel_rfl) trivial (λx=>by kernel_rfl) (λ_=>rfl) ⟨λ_=>rfl,λ_=>rfl,λ_=>rfl,trivial⟩
 (λn=>λx=>(kzs.eq_2 x.1 n).trans (by kernel_rfl))
 (λn=>⟨λx=>(zzo.eq_2 x.1 x.2.1 x.2.2.1 x.2.2.2.1 x.2.2.2.2.1 n).trans (by kernel_rfl),
  λx=>(zzx.eq_2 x.1 x.2.1 x.2.2.1 x.2.2.2.1 x.2.2.2.2.1 n).trans (by kernel_rfl),
  λx=>(kzh.eq_2 x.1 x.2.1 x.2.2.1 x.2.2.2.1 n).trans (by kernel_rfl),
  trivial⟩)
 (λx=>by kernel_rfl)
theorem zlm:OkL Tryz.prog [z0d]:=zz6 (zz2 _) (bs:=[z7k]) ⟨zm7,trivial⟩ zlk
theorem zl0:FOk Tryz.prog z0d:=zlm.1
def zeb:Nat->kz4->(List UInt8)->Option (Bool×(List UInt8))
 |0,_,_=>none
 |n+1,a0,a1 =>
  some ((a0.name==a1),a1)
def ylq:LSh:=⟨[(3,(.d .bool))],[(.cells [(.d .str)])],1,8⟩
noncomputable def zju:FI dat:=FI.of dat 79 8 1 [(.d (.st 7)),(.ptr 0 0)] [(.cells [(.d .str)])] [(.d .bool)] [(.cells [(.d .str)])] false ylq (R:=Bool×(List UInt8)) (λx=>(x.1,x.2.1)) (λr=>(r.1,r.2,())) (λn x=>zeb n x.1 x.2.1)
 (λn=>[]) (ann [] (Tryz.f79.body.getD .skip) 0).1
noncomputable def yi8:List (FI dat):=[]
theorem yhf:(zju).Good Tryz.prog dat (tb yi8):=FI.yz4 (hD:=zz2 _) Tryz.func79 Tryz.ntmps79 Tryz.call79 (by kernel_rfl) (of_decide_eq_true (by kernel_rfl)) (by kernel_rfl) (λn=>by kernel_rfl) (λx=>by kernel_rfl) (λ_=>rfl) trivial
 (λn=>λx=>(zeb.eq_2 x.1 x.2.1 n).trans (by kernel_rfl))
 (λn=>trivial)
 (λx=>.inr (by kernel_rfl))
theorem yl2:OkL Tryz.prog [zju]:=zz6 (zz2 _) (bs:=[]) trivial yhf
theorem ydi:FOk Tryz.prog zju:=yl2.1
end Go.Proofs.YtahcjggdcmgpkaaGreat
namespace Go.Proofs.YtahcjggdcmgpkaaGreat
open Go Go.Ab
set_option linter.unusedVariables false
set_option maxRecDepth 100000
set_option maxHeartbeats 4000000
mutual
def yzo:Nat->(List kz4)->(List UInt8)->Option (Int×(List UInt8))
 |0,_,_=>none
 |n+1,a0,a1 =>
  zzf n 0 a0 (a0.length:Int) a1
def zzf:Nat->Int->(List kz4)->Int->(List UInt8)->Option (Int×(List UInt8))
 |0,_,_,_,_=>none
 |n+1,a0,a1,a2,a3 =>
  pIf (decide (a0<a2))
   ((ix a1 a0).bind λx0 =>
   (zeb n x0 a3).bind λy1 =>
   pIf y1.1
    (some (a0,y1.2))
    (zzf n (IntKind.i64.wrap (a0+1)) a1 a2 y1.2))
   (some ((-1),a3))
end
def zj4:LSh:=⟨[(4,(.d (.int .i64)))],[(.cells [(.d .str)])],1,19⟩
noncomputable def zzy:FI dat:=FI.of dat 78 19 1 [(.d (.sl (.st 7))),(.fn 79 [] [(.ptr 0 0)])] [(.cells [(.d .str)])] [(.d (.int .i64))] [(.cells [(.d .str)])] false zj4 (R:=Int×(List UInt8)) (λx=>(x.1,x.2.1)) (λr=>(r.1,r.2,())) (λn x=>yzo n x.1 x.2.1)
 (λn=>[(0,⟨⟨[(8,(.d (.int .i64))),(0,(.d (.sl (.st 7)))),(1,(.fn 79 [] [(.ptr 0 0)])),(7,(.d (.int .i64)))],[(.cells [(.d .str)])],1,19⟩,λx=>zzf n x.1 x.2.1 x.2.2.1 x.2.2.2.1⟩)]) (ann [(6,0)] (Tryz.f78.body.getD .skip) 0).1
noncomputable def zj5:List (FI dat):=[zju]
theorem zix:(zzy).Good Tryz.prog dat (tb zj5):=FI.yz4 (hD:=zz2 _) Tryz.func78 Tryz.ntmps78 Tryz.call78 (by kernel_rfl) (of_decide_eq_true (by kernel_rfl)) (by kernel_rfl) (λn=>by kernel_rfl) (λx=>by kernel_rfl) (λ_=>rfl) ⟨λ_=>rfl,trivial⟩
 (λn=>λx=>(yzo.eq_2 x.1 x.2.1 n).trans (by kernel_rfl))
 (λn=>⟨λx=>(zzf.eq_2 x.1 x.2.1 x.2.2.1 x.2.2.2.1 n).trans (by kernel_rfl),
  trivial⟩)
 (λx=>.inr (by kernel_rfl))
theorem zj2:OkL Tryz.prog [zzy]:=zz6 (zz2 _) (bs:=[zju]) ⟨ydi,trivial⟩ zix
theorem zik:FOk Tryz.prog zzy:=zj2.1
def zfn:Nat->zz0->(List UInt8)->Option Int
 |0,_,_=>none
 |n+1,a0,a1 =>
  (yzo n a0.rules a1).bind λy0 =>
  some y0.1
def ywx:LSh:=⟨[(4,(.d (.int .i64)))],[],0,9⟩
noncomputable def zo6:FI dat:=FI.of dat 43 9 0 [(.d (.st 8)),(.d .str)] [] [(.d (.int .i64))] [] true ywx (R:=Int) (λx=>x.1) (λr=>(r,())) (λn x=>zfn n x.1 x.2.1)
 (λn=>[]) (ann [] (Tryz.f43.body.getD .skip) 0).1
noncomputable def yv9:List (FI dat):=[zzy]
theorem yuq:(zo6).Good Tryz.prog dat (tb yv9):=FI.yz4 (hD:=zz2 _) Tryz.func43 Tryz.ntmps43 Tryz.call43 (by kernel_rfl) (of_decide_eq_true (by kernel_rfl)) (by kernel_rfl) (λn=>by kernel_rfl) (λx=>by kernel_rfl) (λ_=>rfl) trivial
 (λn=>λx=>(zfn.eq_2 x.1 x.2.1 n).trans (by kernel_rfl))
 (λn=>trivial)
 (λx=>.inl rfl)
theorem yv8:OkL Tryz.prog [zo6]:=zz6 (zz2 _) (bs:=[zzy]) ⟨zik,trivial⟩ yuq
theorem yof:FOk Tryz.prog zo6:=yv8.1
def za3:Nat->kz6->kz6->Option Bool
 |0,_,_=>none
 |n+1,a0,a1 =>
  pIf (a0.name==a1.name)
   ((z4f n a0.value.re a1.value.re).bind λy0 =>
   some y0)
   (some false)
def ybj:LSh:=⟨[(4,(.d .bool))],[],0,17⟩
noncomputable def zht:FI dat:=FI.of dat 81 17 0 [(.d (.st 3)),(.d (.st 3))] [] [(.d .bool)] [] true ybj (R:=Bool) (λx=>x.1) (λr=>(r,())) (λn x=>za3 n x.1 x.2.1)
 (λn=>[]) (ann [] (Tryz.f81.body.getD .skip) 0).1
noncomputable def ye4:List (FI dat):=[zba]
theorem ycl:(zht).Good Tryz.prog dat (tb ye4):=FI.yz4 (hD:=zz2 _) Tryz.func81 Tryz.ntmps81 Tryz.call81 (by kernel_rfl) (of_decide_eq_true (by kernel_rfl)) (by kernel_rfl) (λn=>by kernel_rfl) (λx=>by kernel_rfl) (λ_=>rfl) trivial
 (λn=>λx=>(za3.eq_2 x.1 x.2.1 n).trans (by kernel_rfl))
 (λn=>trivial)
 (λx=>.inl rfl)
theorem ygj:OkL Tryz.prog [zht]:=zz6 (zz2 _) (bs:=[zba]) ⟨zwt,trivial⟩ ycl
theorem ya1:FOk Tryz.prog zht:=ygj.1
mutual
def kzk:Nat->(List kz6)->(List kz6)->Option Bool
 |0,_,_=>none
 |n+1,a0,a1 =>
  pIf ((a0.length:Int) != (a1.length:Int))
   (some false)
   (kzb n 0 a1 a0 (a0.length:Int))
def kzb:Nat->Int->(List kz6)->(List kz6)->Int->Option Bool
 |0,_,_,_,_=>none
 |n+1,a0,a1,a2,a3 =>
  pIf (decide (a0<a3))
   ((ix a2 a0).bind λx0 =>
   (ix a1 a0).bind λx1 =>
   (za3 n x0.re x1.re).bind λy2 =>
   pIf (!y2)
    (some false)
    (kzb n (IntKind.i64.wrap (a0+1)) a1 a2 a3))
   (some true)
end
def zaj:LSh:=⟨[(6,(.d .bool))],[],0,32⟩
noncomputable def kzd:FI dat:=FI.of dat 80 32 0 [(.d (.sl (.st 3))),(.d (.sl (.st 3))),(.fn 81 [] [])] [] [(.d .bool)] [] true zaj (R:=Bool) (λx=>x.1) (λr=>(r,())) (λn x=>kzk n x.1 x.2.1)
 (λn=>[(0,⟨⟨[(17,(.d (.int .i64))),(2,(.fn 81 [] [])),(1,(.d (.sl (.st 3)))),(15,(.d (.sl (.st 3)))),(16,(.d (.int .i64)))],[],0,32⟩,λx=>kzb n x.1 x.2.1 x.2.2.1 x.2.2.2.1⟩)]) (ann [(14,0)] (Tryz.f80.body.getD .skip) 0).1
noncomputable def z9y:List (FI dat):=[zht]
theorem za4:(kzd).Good Tryz.prog dat (tb z9y):=FI.yz4 (hD:=zz2 _) Tryz.func80 Tryz.ntmps80 Tryz.call80 (by kernel_rfl) (of_decide_eq_true (by kernel_rfl)) (by kernel_rfl) (λn=>by kernel_rfl) (λx=>by kernel_rfl) (λ_=>rfl) ⟨λ_=>rfl,trivial⟩
 (λn=>λx=>(kzk.eq_2 x.1 x.2.1 n).trans (by kernel_rfl))
 (λn=>⟨λx=>(kzb.eq_2 x.1 x.2.1 x.2.2.1 x.2.2.2.1 n).trans (by kernel_rfl),
  trivial⟩)
 (λx=>.inl rfl)
theorem za1:OkL Tryz.prog [kzd]:=zz6 (zz2 _) (bs:=[zht]) ⟨ya1,trivial⟩ za4
theorem z9h:FOk Tryz.prog kzd:=za1.1
mutual
def z1c:Nat->(List (List UInt8))->(List (List UInt8))->Option Bool
 |0,_,_=>none
 |n+1,a0,a1 =>
  pIf ((a0.length:Int) != (a1.length:Int))
   (some false)
   (z0m n 0 a1 a0 (a0.length:Int))
def z0m:Nat->Int->(List (List UInt8))->(List (List UInt8))->Int->Option Bool
 |0,_,_,_,_=>none
 |n+1,a0,a1,a2,a3 =>
  pIf (decide (a0<a3))
   ((ix a2 a0).bind λx0 =>
   (ix a1 a0).bind λx1 =>
   pIf (!(x0==x1))
    (some false)
    (z0m n (IntKind.i64.wrap (a0+1)) a1 a2 a3))
   (some true)
end
def zop:LSh:=⟨[(4,(.d .bool))],[],0,26⟩
noncomputable def z1m:FI dat:=FI.of dat 84 26 0 [(.d (.sl .str)),(.d (.sl .str))] [] [(.d .bool)] [] true zop (R:=Bool) (λx=>x.1) (λr=>(r,())) (λn x=>z1c n x.1 x.2.1)
 (λn=>[(0,⟨⟨[(13,(.d (.int .i64))),(1,(.d (.sl .str))),(0,(.d (.sl .str))),(12,(.d (.int .i64)))],[],0,26⟩,λx=>z0m n x.1 x.2.1 x.2.2.1 x.2.2.2.1⟩)]) (ann [(14,0)] (Tryz.f84.body.getD .skip) 0).1
noncomputable def zox:List (FI dat):=[]
theorem zou:(z1m).Good Tryz.prog dat (tb zox):=FI.yz4 (hD:=zz2 _) Tryz.func84 Tryz.ntmps84 Tryz.call84 (by kernel_rfl) (of_decide_eq_true (by kernel_rfl)) (by kernel_rfl) (λn=>by kernel_rfl) (λx=>by kernel_rfl) (λ_=>rfl) ⟨λ_=>rfl,trivial⟩
 (λn=>λx=>(z1c.eq_2 x.1 x.2.1 n).trans (by kernel_rfl))
 (λn=>⟨λx=>(z0m.eq_2 x.1 x.2.1 x.2.2.1 x.2.2.2.1 n).trans (by kernel_rfl),
  trivial⟩)
 (λx=>.inl rfl)
theorem zos:OkL Tryz.prog [z1m]:=zz6 (zz2 _) (bs:=[]) trivial zou
theorem zo8:FOk Tryz.prog z1m:=zos.1
def z6y:Nat->(List zz1)->(List zz1)->Option Bool
 |0,_,_=>none
 |n+1,a0,a1 =>
  (yz9 n a0 a1).bind λy0 =>
  some y0
def y7l:LSh:=⟨[(4,(.d .bool))],[],0,8⟩
noncomputable def z8d:FI dat:=FI.of dat 138 8 0 [(.d (.sl (.st 2))),(.d (.sl (.st 2)))] [] [(.d .bool)] [] true y7l (R:=Bool) (λx=>x.1) (λr=>(r,())) (λn x=>z6y n x.1 x.2.1)
 (λn=>[]) (ann [] (Tryz.f138.body.getD .skip) 0).1
noncomputable def y6f:List (FI dat):=[kz9]
theorem y6a:(z8d).Good Tryz.prog dat (tb y6f):=FI.yz4 (hD:=zz2 _) Tryz.func138 Tryz.ntmps138 Tryz.call138 (by kernel_rfl) (of_decide_eq_true (by kernel_rfl)) (by kernel_rfl) (λn=>by kernel_rfl) (λx=>by kernel_rfl) (λ_=>rfl) trivial
 (λn=>λx=>(z6y.eq_2 x.1 x.2.1 n).trans (by kernel_rfl))
 (λn=>trivial)
 (λx=>.inl rfl)
theorem y7h:OkL Tryz.prog [z8d]:=zz6 (zz2 _) (bs:=[kz9]) ⟨z9k,trivial⟩ y6a
theorem zsp:FOk Tryz.prog z8d:=y7h.1
def z50:Nat->yza->yza->Option Bool
 |0,_,_=>none
 |n+1,a0,a1 =>
  pIf (a0.kind==a1.kind)
   (pIf (a0.name==a1.name)
     ((z6y n a0.args a1.args).bind λy0 =>
     some y0)
     (some false))
   (some false)
def y47:LSh:=⟨[(4,(.d .bool))],[],0,24⟩
noncomputable def zck:FI dat:=FI.of dat 140 24 0 [(.d (.st 4)),(.d (.st 4))] [] [(.d .bool)] [] true y47 (R:=Bool) (λx=>x.1) (λr=>(r,())) (λn x=>z50 n x.1 x.2.1)
 (λn=>[]) (ann [] (Tryz.f140.body.getD .skip) 0).1
noncomputable def y56:List (FI dat):=[z8d]
theorem y52:(zck).Good Tryz.prog dat (tb y56):=FI.yz4 (hD:=zz2 _) Tryz.func140 Tryz.ntmps140 Tryz.call140 (by kernel_rfl) (of_decide_eq_true (by kernel_rfl)) (by kernel_rfl) (λn=>by kernel_rfl) (λx=>by kernel_rfl) (λ_=>rfl) trivial
 (λn=>λx=>(z50.eq_2 x.1 x.2.1 n).trans (by kernel_rfl))
 (λn=>trivial)
 (λx=>.inl rfl)
theorem y3n:OkL Tryz.prog [zck]:=zz6 (zz2 _) (bs:=[z8d]) ⟨zsp,trivial⟩ y52
theorem y2v:FOk Tryz.prog zck:=y3n.1
mutual
def zzk:Nat->(List yza)->(List yza)->Option Bool
 |0,_,_=>none
 |n+1,a0,a1 =>
  pIf ((a0.length:Int) != (a1.length:Int))
   (some false)
   (yzb n 0 a1 a0 (a0.length:Int))
def yzb:Nat->Int->(List yza)->(List yza)->Int->Option Bool
 |0,_,_,_,_=>none
 |n+1,a0,a1,a2,a3 =>
  pIf (decide (a0<a3))
   ((ix a2 a0).bind λx0 =>
   (ix a1 a0).bind λx1 =>
   (z50 n x0 x1).bind λy2 =>
   pIf (!y2)
    (some false)
    (yzb n (IntKind.i64.wrap (a0+1)) a1 a2 a3))
   (some true)
end
def za8:LSh:=⟨[(6,(.d .bool))],[],0,32⟩
noncomputable def zze:FI dat:=FI.of dat 139 32 0 [(.d (.sl (.st 4))),(.d (.sl (.st 4))),(.fn 140 [] [])] [] [(.d .bool)] [] true za8 (R:=Bool) (λx=>x.1) (λr=>(r,())) (λn x=>zzk n x.1 x.2.1)
 (λn=>[(0,⟨⟨[(17,(.d (.int .i64))),(2,(.fn 140 [] [])),(1,(.d (.sl (.st 4)))),(15,(.d (.sl (.st 4)))),(16,(.d (.int .i64)))],[],0,32⟩,λx=>yzb n x.1 x.2.1 x.2.2.1 x.2.2.2.1⟩)]) (ann [(14,0)] (Tryz.f139.body.getD .skip) 0).1
noncomputable def zad:List (FI dat):=[zck]
theorem za7:(zze).Good Tryz.prog dat (tb zad):=FI.yz4 (hD:=zz2 _) Tryz.func139 Tryz.ntmps139 Tryz.call139 (by kernel_rfl) (of_decide_eq_true (by kernel_rfl)) (by kernel_rfl) (λn=>by kernel_rfl) (λx=>by kernel_rfl) (λ_=>rfl) ⟨λ_=>rfl,trivial⟩
 (λn=>λx=>(zzk.eq_2 x.1 x.2.1 n).trans (by kernel_rfl))
 (λn=>⟨λx=>(yzb.eq_2 x.1 x.2.1 x.2.2.1 x.2.2.2.1 n).trans (by kernel_rfl),
  trivial⟩)
 (λx=>.inl rfl)
theorem zai:OkL Tryz.prog [zze]:=zz6 (zz2 _) (bs:=[zck]) ⟨y2v,trivial⟩ za7
theorem z9j:FOk Tryz.prog zze:=zai.1
def z2p:Nat->zz3->zz3->Option Bool
 |0,_,_=>none
 |n+1,a0,a1 =>
  pIf (a0.kind==a1.kind)
   (pIf (a0.axis==a1.axis)
     (pIf (a0.name==a1.name)
       ((z6y n a0.args a1.args).bind λy0 =>
       pIf y0
        ((zzk n a0.items a1.items).bind λy1 =>
        some y1)
        (some false))
       (some false))
     (some false))
   (some false)
def y0r:LSh:=⟨[(4,(.d .bool))],[],0,38⟩
noncomputable def zay:FI dat:=FI.of dat 115 38 0 [(.d (.st 5)),(.d (.st 5))] [] [(.d .bool)] [] true y0r (R:=Bool) (λx=>x.1) (λr=>(r,())) (λn x=>z2p n x.1 x.2.1)
 (λn=>[]) (ann [] (Tryz.f115.body.getD .skip) 0).1
noncomputable def y0n:List (FI dat):=[z8d,zze]
theorem y0i:(zay).Good Tryz.prog dat (tb y0n):=FI.yz4 (hD:=zz2 _) Tryz.func115 Tryz.ntmps115 Tryz.call115 (by kernel_rfl) (of_decide_eq_true (by kernel_rfl)) (by kernel_rfl) (λn=>by kernel_rfl) (λx=>by kernel_rfl) (λ_=>rfl) trivial
 (λn=>λx=>(z2p.eq_2 x.1 x.2.1 n).trans (by kernel_rfl))
 (λn=>trivial)
 (λx=>.inl rfl)
theorem y0o:OkL Tryz.prog [zay]:=zz6 (zz2 _) (bs:=[z8d,zze]) ⟨zsp,z9j,trivial⟩ y0i
theorem zy0:FOk Tryz.prog zay:=y0o.1
mutual
def yze:Nat->(List zz3)->(List zz3)->Option Bool
 |0,_,_=>none
 |n+1,a0,a1 =>
  pIf ((a0.length:Int) != (a1.length:Int))
   (some false)
   (yz8 n 0 a1 a0 (a0.length:Int))
def yz8:Nat->Int->(List zz3)->(List zz3)->Int->Option Bool
 |0,_,_,_,_=>none
 |n+1,a0,a1,a2,a3 =>
  pIf (decide (a0<a3))
   ((ix a2 a0).bind λx0 =>
   (ix a1 a0).bind λx1 =>
   (z2p n x0 x1).bind λy2 =>
   pIf (!y2)
    (some false)
    (yz8 n (IntKind.i64.wrap (a0+1)) a1 a2 a3))
   (some true)
end
def z78:LSh:=⟨[(6,(.d .bool))],[],0,32⟩
noncomputable def zza:FI dat:=FI.of dat 114 32 0 [(.d (.sl (.st 5))),(.d (.sl (.st 5))),(.fn 115 [] [])] [] [(.d .bool)] [] true z78 (R:=Bool) (λx=>x.1) (λr=>(r,())) (λn x=>yze n x.1 x.2.1)
 (λn=>[(0,⟨⟨[(17,(.d (.int .i64))),(2,(.fn 115 [] [])),(1,(.d (.sl (.st 5)))),(15,(.d (.sl (.st 5)))),(16,(.d (.int .i64)))],[],0,32⟩,λx=>yz8 n x.1 x.2.1 x.2.2.1 x.2.2.2.1⟩)]) (ann [(14,0)] (Tryz.f114.body.getD .skip) 0).1
noncomputable def z6e:List (FI dat):=[zay]
theorem z6x:(zza).Good Tryz.prog dat (tb z6e):=FI.yz4 (hD:=zz2 _) Tryz.func114 Tryz.ntmps114 Tryz.call114 (by kernel_rfl) (of_decide_eq_true (by kernel_rfl)) (by kernel_rfl) (λn=>by kernel_rfl) (λx=>by kernel_rfl) (λ_=>rfl) ⟨λ_=>rfl,trivial⟩
 (λn=>λx=>(yze.eq_2 x.1 x.2.1 n).trans (by kernel_rfl))
 (λn=>⟨λx=>(yz8.eq_2 x.1 x.2.1 x.2.2.1 x.2.2.2.1 n).trans (by kernel_rfl),
  trivial⟩)
 (λx=>.inl rfl)
theorem z6z:OkL Tryz.prog [zza]:=zz6 (zz2 _) (bs:=[zay]) ⟨zy0,trivial⟩ z6x
theorem z5m:FOk Tryz.prog zza:=z6z.1
end Go.Proofs.YtahcjggdcmgpkaaGreat
namespace Go.Proofs.YtahcjggdcmgpkaaGreat
open Go Go.Ab
set_option linter.unusedVariables false
set_option maxRecDepth 100000
set_option maxHeartbeats 4000000
def z4y:Nat->kz5->kz5->Option Bool
 |0,_,_=>none
 |n+1,a0,a1 =>
  pIf (a0.weight==a1.weight)
   ((z4f n a0.when_.re a1.when_.re).bind λy0 =>
   pIf y0
    ((yze n a0.do_ a1.do_).bind λy1 =>
    some y1)
    (some false))
   (some false)
def y4d:LSh:=⟨[(4,(.d .bool))],[],0,24⟩
noncomputable def zcw:FI dat:=FI.of dat 86 24 0 [(.d (.st 6)),(.d (.st 6))] [] [(.d .bool)] [] true y4d (R:=Bool) (λx=>x.1) (λr=>(r,())) (λn x=>z4y n x.1 x.2.1)
 (λn=>[]) (ann [] (Tryz.f86.body.getD .skip) 0).1
noncomputable def y4l:List (FI dat):=[zba,zza]
theorem y4w:(zcw).Good Tryz.prog dat (tb y4l):=FI.yz4 (hD:=zz2 _) Tryz.func86 Tryz.ntmps86 Tryz.call86 (by kernel_rfl) (of_decide_eq_true (by kernel_rfl)) (by kernel_rfl) (λn=>by kernel_rfl) (λx=>by kernel_rfl) (λ_=>rfl) trivial
 (λn=>λx=>(z4y.eq_2 x.1 x.2.1 n).trans (by kernel_rfl))
 (λn=>trivial)
 (λx=>.inl rfl)
theorem y3h:OkL Tryz.prog [zcw]:=zz6 (zz2 _) (bs:=[zba,zza]) ⟨zwt,z5m,trivial⟩ y4w
theorem y1s:FOk Tryz.prog zcw:=y3h.1
mutual
def yzk:Nat->(List kz5)->(List kz5)->Option Bool
 |0,_,_=>none
 |n+1,a0,a1 =>
  pIf ((a0.length:Int) != (a1.length:Int))
   (some false)
   (zzb n 0 a1 a0 (a0.length:Int))
def zzb:Nat->Int->(List kz5)->(List kz5)->Int->Option Bool
 |0,_,_,_,_=>none
 |n+1,a0,a1,a2,a3 =>
  pIf (decide (a0<a3))
   ((ix a2 a0).bind λx0 =>
   (ix a1 a0).bind λx1 =>
   (z4y n x0.re x1.re).bind λy2 =>
   pIf (!y2)
    (some false)
    (zzb n (IntKind.i64.wrap (a0+1)) a1 a2 a3))
   (some true)
end
def za6:LSh:=⟨[(6,(.d .bool))],[],0,32⟩
noncomputable def yzd:FI dat:=FI.of dat 85 32 0 [(.d (.sl (.st 6))),(.d (.sl (.st 6))),(.fn 86 [] [])] [] [(.d .bool)] [] true za6 (R:=Bool) (λx=>x.1) (λr=>(r,())) (λn x=>yzk n x.1 x.2.1)
 (λn=>[(0,⟨⟨[(17,(.d (.int .i64))),(2,(.fn 86 [] [])),(1,(.d (.sl (.st 6)))),(15,(.d (.sl (.st 6)))),(16,(.d (.int .i64)))],[],0,32⟩,λx=>zzb n x.1 x.2.1 x.2.2.1 x.2.2.2.1⟩)]) (ann [(14,0)] (Tryz.f85.body.getD .skip) 0).1
noncomputable def z9x:List (FI dat):=[zcw]
theorem zag:(yzd).Good Tryz.prog dat (tb z9x):=FI.yz4 (hD:=zz2 _) Tryz.func85 Tryz.ntmps85 Tryz.call85 (by kernel_rfl) (of_decide_eq_true (by kernel_rfl)) (by kernel_rfl) (λn=>by kernel_rfl) (λx=>by kernel_rfl) (λ_=>rfl) ⟨λ_=>rfl,trivial⟩
 (λn=>λx=>(yzk.eq_2 x.1 x.2.1 n).trans (by kernel_rfl))
 (λn=>⟨λx=>(zzb.eq_2 x.1 x.2.1 x.2.2.1 x.2.2.2.1 n).trans (by kernel_rfl),
  trivial⟩)
 (λx=>.inl rfl)
theorem zah:OkL Tryz.prog [yzd]:=zz6 (zz2 _) (bs:=[zcw]) ⟨y1s,trivial⟩ zag
theorem z9g:FOk Tryz.prog yzd:=zah.1
def z9u:Nat->kz4->kz4->Option Bool
 |0,_,_=>none
 |n+1,a0,a1 =>
  pIf (a0.name==a1.name)
   ((z1c n a0.params a1.params).bind λy0 =>
   pIf y0
    ((yzk n a0.cases a1.cases).bind λy1 =>
    some y1)
    (some false))
   (some false)
def yd2:LSh:=⟨[(4,(.d .bool))],[],0,24⟩
noncomputable def zho:FI dat:=FI.of dat 83 24 0 [(.d (.st 7)),(.d (.st 7))] [] [(.d .bool)] [] true yd2 (R:=Bool) (λx=>x.1) (λr=>(r,())) (λn x=>z9u n x.1 x.2.1)
 (λn=>[]) (ann [] (Tryz.f83.body.getD .skip) 0).1
noncomputable def yde:List (FI dat):=[z1m,yzd]
theorem yd0:(zho).Good Tryz.prog dat (tb yde):=FI.yz4 (hD:=zz2 _) Tryz.func83 Tryz.ntmps83 Tryz.call83 (by kernel_rfl) (of_decide_eq_true (by kernel_rfl)) (by kernel_rfl) (λn=>by kernel_rfl) (λx=>by kernel_rfl) (λ_=>rfl) trivial
 (λn=>λx=>(z9u.eq_2 x.1 x.2.1 n).trans (by kernel_rfl))
 (λn=>trivial)
 (λx=>.inl rfl)
theorem yfl:OkL Tryz.prog [zho]:=zz6 (zz2 _) (bs:=[z1m,yzd]) ⟨zo8,z9g,trivial⟩ yd0
theorem y9c:FOk Tryz.prog zho:=yfl.1
mutual
def zzl:Nat->(List kz4)->(List kz4)->Option Bool
 |0,_,_=>none
 |n+1,a0,a1 =>
  pIf ((a0.length:Int) != (a1.length:Int))
   (some false)
   (kza n 0 a1 a0 (a0.length:Int))
def kza:Nat->Int->(List kz4)->(List kz4)->Int->Option Bool
 |0,_,_,_,_=>none
 |n+1,a0,a1,a2,a3 =>
  pIf (decide (a0<a3))
   ((ix a2 a0).bind λx0 =>
   (ix a1 a0).bind λx1 =>
   (z9u n x0 x1).bind λy2 =>
   pIf (!y2)
    (some false)
    (kza n (IntKind.i64.wrap (a0+1)) a1 a2 a3))
   (some true)
end
def zaa:LSh:=⟨[(6,(.d .bool))],[],0,32⟩
noncomputable def zzd:FI dat:=FI.of dat 82 32 0 [(.d (.sl (.st 7))),(.d (.sl (.st 7))),(.fn 83 [] [])] [] [(.d .bool)] [] true zaa (R:=Bool) (λx=>x.1) (λr=>(r,())) (λn x=>zzl n x.1 x.2.1)
 (λn=>[(0,⟨⟨[(17,(.d (.int .i64))),(2,(.fn 83 [] [])),(1,(.d (.sl (.st 7)))),(15,(.d (.sl (.st 7)))),(16,(.d (.int .i64)))],[],0,32⟩,λx=>kza n x.1 x.2.1 x.2.2.1 x.2.2.2.1⟩)]) (ann [(14,0)] (Tryz.f82.body.getD .skip) 0).1
noncomputable def zat:List (FI dat):=[zho]
theorem zaf:(zzd).Good Tryz.prog dat (tb zat):=FI.yz4 (hD:=zz2 _) Tryz.func82 Tryz.ntmps82 Tryz.call82 (by kernel_rfl) (of_decide_eq_true (by kernel_rfl)) (by kernel_rfl) (λn=>by kernel_rfl) (λx=>by kernel_rfl) (λ_=>rfl) ⟨λ_=>rfl,trivial⟩
 (λn=>λx=>(zzl.eq_2 x.1 x.2.1 n).trans (by kernel_rfl))
 (λn=>⟨λx=>(kza.eq_2 x.1 x.2.1 x.2.2.1 x.2.2.2.1 n).trans (by kernel_rfl),
  trivial⟩)
 (λx=>.inl rfl)
theorem zao:OkL Tryz.prog [zzd]:=zz6 (zz2 _) (bs:=[zho]) ⟨y9c,trivial⟩ zaf
theorem z9i:FOk Tryz.prog zzd:=zao.1
def zdf:Nat->zz0->zz0->Option Bool
 |0,_,_=>none
 |n+1,a0,a1 =>
  (kzk n a0.attrs a1.attrs).bind λy0 =>
  pIf y0
   ((zzl n a0.rules a1.rules).bind λy1 =>
   some y1)
   (some false)
def yrf:LSh:=⟨[(4,(.d .bool))],[],0,17⟩
noncomputable def zmb:FI dat:=FI.of dat 44 17 0 [(.d (.st 8)),(.d (.st 8))] [] [(.d .bool)] [] true yrf (R:=Bool) (λx=>x.1) (λr=>(r,())) (λn x=>zdf n x.1 x.2.1)
 (λn=>[]) (ann [] (Tryz.f44.body.getD .skip) 0).1
noncomputable def ysj:List (FI dat):=[kzd,zzd]
theorem ys0:(zmb).Good Tryz.prog dat (tb ysj):=FI.yz4 (hD:=zz2 _) Tryz.func44 Tryz.ntmps44 Tryz.call44 (by kernel_rfl) (of_decide_eq_true (by kernel_rfl)) (by kernel_rfl) (λn=>by kernel_rfl) (λx=>by kernel_rfl) (λ_=>rfl) trivial
 (λn=>λx=>(zdf.eq_2 x.1 x.2.1 n).trans (by kernel_rfl))
 (λn=>trivial)
 (λx=>.inl rfl)
theorem yt2:OkL Tryz.prog [zmb]:=zz6 (zz2 _) (bs:=[kzd,zzd]) ⟨z9h,z9i,trivial⟩ ys0
theorem yja:FOk Tryz.prog zmb:=yt2.1
def z9p:Nat->zz1->(List (List UInt8))->(List Bool)->Option (Bool×(List (List UInt8))×(List Bool))
 |0,_,_,_=>none
 |n+1,a0,a1,a2 =>
  (zcm n a0.re (mks (List.zip a1 a2)) (mvs (List.zip a1 a2))).bind λy0 =>
  some (y0.1,(mks (List.zip y0.2.1 y0.2.2)),(mvs (List.zip y0.2.1 y0.2.2)))
def y64:LSh:=⟨[(3,(.d .bool))],[(.cells [(.map 1)]),(.mp 55 .bool)],2,7⟩
noncomputable def zeo:FI dat:=FI.of dat 88 7 2 [(.d (.st 2)),(.ptr 0 0)] [(.cells [(.map 1)]),(.mp 55 .bool)] [(.d .bool)] [(.cells [(.map 1)]),(.mp 55 .bool)] false y64 (R:=Bool×(List (List UInt8))×(List Bool)) (λx=>(x.1,x.2.1,x.2.2.1)) (λr=>(r.1,r.2.1,r.2.2,())) (λn x=>z9p n x.1 x.2.1 x.2.2.1)
 (λn=>[]) (ann [] (Tryz.f88.body.getD .skip) 0).1
noncomputable def y5x:List (FI dat):=[zct]
theorem y7i:(zeo).Good Tryz.prog dat (tb y5x):=FI.yz4 (hD:=zz2 _) Tryz.func88 Tryz.ntmps88 Tryz.call88 (by kernel_rfl) (of_decide_eq_true (by kernel_rfl)) (by kernel_rfl) (λn=>by kernel_rfl) (λx=>by kernel_rfl) (λ_=>rfl) trivial
 (λn=>λx=>(z9p.eq_2 x.1 x.2.1 x.2.2.1 n).trans (by kernel_rfl))
 (λn=>trivial)
 (λx=>.inr (by kernel_rfl))
theorem y7a:OkL Tryz.prog [zeo]:=zz6 (zz2 _) (bs:=[zct]) ⟨zwh,trivial⟩ y7i
theorem y4c:FOk Tryz.prog zeo:=y7a.1
mutual
def yzr:Nat->(List zz1)->(List (List UInt8))->(List Bool)->Option (Int×(List (List UInt8))×(List Bool))
 |0,_,_,_=>none
 |n+1,a0,a1,a2 =>
  kzc n 0 a0 (a0.length:Int) (mks (List.zip a1 a2)) (mvs (List.zip a1 a2))
def kzc:Nat->Int->(List zz1)->Int->(List (List UInt8))->(List Bool)->Option (Int×(List (List UInt8))×(List Bool))
 |0,_,_,_,_,_=>none
 |n+1,a0,a1,a2,a3,a4 =>
  pIf (decide (a0<a2))
   ((ix a1 a0).bind λx0 =>
   (z9p n x0.re (mks (List.zip a3 a4)) (mvs (List.zip a3 a4))).bind λy1 =>
   pIf y1.1
    (some (a0,(mks (List.zip y1.2.1 y1.2.2)),(mvs (List.zip y1.2.1 y1.2.2))))
    (kzc n (IntKind.i64.wrap (a0+1)) a1 a2 (mks (List.zip y1.2.1 y1.2.2)) (mvs (List.zip y1.2.1 y1.2.2))))
   (some ((-1),(mks (List.zip a3 a4)),(mvs (List.zip a3 a4))))
end
def zgv:LSh:=⟨[(4,(.d (.int .i64)))],[(.cells [(.map 1)]),(.mp 55 .bool)],2,19⟩
noncomputable def kzt:FI dat:=FI.of dat 104 19 2 [(.d (.sl (.st 2))),(.fn 88 [] [(.ptr 0 0)])] [(.cells [(.map 1)]),(.mp 55 .bool)] [(.d (.int .i64))] [(.cells [(.map 1)]),(.mp 55 .bool)] false zgv (R:=Int×(List (List UInt8))×(List Bool)) (λx=>(x.1,x.2.1,x.2.2.1)) (λr=>(r.1,r.2.1,r.2.2,())) (λn x=>yzr n x.1 x.2.1 x.2.2.1)
 (λn=>[(0,⟨⟨[(8,(.d (.int .i64))),(0,(.d (.sl (.st 2)))),(1,(.fn 88 [] [(.ptr 0 0)])),(7,(.d (.int .i64)))],[(.cells [(.map 1)]),(.mp 55 .bool)],2,19⟩,λx=>kzc n x.1 x.2.1 x.2.2.1 x.2.2.2.1 x.2.2.2.2.1⟩)]) (ann [(6,0)] (Tryz.f104.body.getD .skip) 0).1
noncomputable def zgt:List (FI dat):=[zeo]
theorem zh4:(kzt).Good Tryz.prog dat (tb zgt):=FI.yz4 (hD:=zz2 _) Tryz.func104 Tryz.ntmps104 Tryz.call104 (by kernel_rfl) (of_decide_eq_true (by kernel_rfl)) (by kernel_rfl) (λn=>by kernel_rfl) (λx=>by kernel_rfl) (λ_=>rfl) ⟨λ_=>rfl,trivial⟩
 (λn=>λx=>(yzr.eq_2 x.1 x.2.1 x.2.2.1 n).trans (by kernel_rfl))
 (λn=>⟨λx=>(kzc.eq_2 x.1 x.2.1 x.2.2.1 x.2.2.2.1 x.2.2.2.2.1 n).trans (by kernel_rfl),
  trivial⟩)
 (λx=>.inr (by kernel_rfl))
theorem zgs:OkL Tryz.prog [kzt]:=zz6 (zz2 _) (bs:=[zeo]) ⟨y4c,trivial⟩ zh4
theorem zga:FOk Tryz.prog kzt:=zgs.1
def kzg:Nat->(List zz1)->(List (List UInt8))->(List Bool)->Option (Bool×(List (List UInt8))×(List Bool))
 |0,_,_,_=>none
 |n+1,a0,a1,a2 =>
  (yzr n a0 (mks (List.zip a1 a2)) (mvs (List.zip a1 a2))).bind λy0 =>
  some ((decide (y0.1>=0)),(mks (List.zip y0.2.1 y0.2.2)),(mvs (List.zip y0.2.1 y0.2.2)))
def zf9:LSh:=⟨[(4,(.d .bool))],[(.cells [(.map 1)]),(.mp 55 .bool)],2,9⟩
noncomputable def yzp:FI dat:=FI.of dat 60 9 2 [(.d (.sl (.st 2))),(.fn 88 [] [(.ptr 0 0)])] [(.cells [(.map 1)]),(.mp 55 .bool)] [(.d .bool)] [(.cells [(.map 1)]),(.mp 55 .bool)] false zf9 (R:=Bool×(List (List UInt8))×(List Bool)) (λx=>(x.1,x.2.1,x.2.2.1)) (λr=>(r.1,r.2.1,r.2.2,())) (λn x=>kzg n x.1 x.2.1 x.2.2.1)
 (λn=>[]) (ann [] (Tryz.f60.body.getD .skip) 0).1
noncomputable def zfb:List (FI dat):=[kzt]
theorem zfj:(yzp).Good Tryz.prog dat (tb zfb):=FI.yz4 (hD:=zz2 _) Tryz.func60 Tryz.ntmps60 Tryz.call60 (by kernel_rfl) (of_decide_eq_true (by kernel_rfl)) (by kernel_rfl) (λn=>by kernel_rfl) (λx=>by kernel_rfl) (λ_=>rfl) trivial
 (λn=>λx=>(kzg.eq_2 x.1 x.2.1 x.2.2.1 n).trans (by kernel_rfl))
 (λn=>trivial)
 (λx=>.inr (by kernel_rfl))
theorem zf8:OkL Tryz.prog [yzp]:=zz6 (zz2 _) (bs:=[kzt]) ⟨zga,trivial⟩ zfj
theorem zew:FOk Tryz.prog yzp:=zf8.1
mutual
def zch:Nat->kz4->(List (List UInt8))->(List Bool)->Option (Bool×(List (List UInt8))×(List Bool))
 |0,_,_,_=>none
 |n+1,a0,a1,a2 =>
  z4m n 0 a0.cases (a0.cases.length:Int) (mks (List.zip a1 a2)) (mvs (List.zip a1 a2))
def z4m:Nat->Int->(List kz5)->Int->(List (List UInt8))->(List Bool)->Option (Bool×(List (List UInt8))×(List Bool))
 |0,_,_,_,_,_=>none
 |n+1,a0,a1,a2,a3,a4 =>
  pIf (decide (a0<a2))
   ((ix a1 a0).bind λx0 =>
   (zcm n x0.when_.re (mks (List.zip a3 a4)) (mvs (List.zip a3 a4))).bind λy1 =>
   pIf y1.1
    (some (true,(mks (List.zip y1.2.1 y1.2.2)),(mvs (List.zip y1.2.1 y1.2.2))))
    (z4v n 0 x0.do_ a1 a2 a0 (x0.do_.length:Int) (mks (List.zip y1.2.1 y1.2.2)) (mvs (List.zip y1.2.1 y1.2.2))))
   (some (false,(mks (List.zip a3 a4)),(mvs (List.zip a3 a4))))
def z4v:Nat->Int->(List zz3)->(List kz5)->Int->Int->Int->(List (List UInt8))->(List Bool)->Option (Bool×(List (List UInt8))×(List Bool))
 |0,_,_,_,_,_,_,_,_=>none
 |n+1,a0,a1,a2,a3,a4,a5,a6,a7 =>
  pIf (decide (a0<a5))
   ((ix a1 a0).bind λx2 =>
   (z5l n x2.args).bind λy3 =>
   z52 n 0 x2.items a1 a2 a3 a4 a5 a0 (x2.items.length:Int) (mks (List.zip a6 a7)) (mvs (List.zip a6 a7)) y3)
   (z4m n (IntKind.i64.wrap (a4+1)) a2 a3 (mks (List.zip a6 a7)) (mvs (List.zip a6 a7)))
def z52:Nat->Int->(List yza)->(List zz3)->(List kz5)->Int->Int->Int->Int->Int->(List (List UInt8))->(List Bool)->(List zz1)->Option (Bool×(List (List UInt8))×(List Bool))
 |0,_,_,_,_,_,_,_,_,_,_,_,_=>none
 |n+1,a0,a1,a2,a3,a4,a5,a6,a7,a8,a9,a10,a11 =>
  pIf (decide (a0<a8))
   ((ix a1 a0).bind λx4 =>
   (ext a11 x4.args).bind λx5 =>
   z52 n (IntKind.i64.wrap (a0+1)) a1 a2 a3 a4 a5 a6 a7 a8 (mks (List.zip a9 a10)) (mvs (List.zip a9 a10)) x5)
   ((kzg n a11 (mks (List.zip a9 a10)) (mvs (List.zip a9 a10))).bind λy6 =>
   pIf y6.1
    (some (true,(mks (List.zip y6.2.1 y6.2.2)),(mvs (List.zip y6.2.1 y6.2.2))))
    (z4v n (IntKind.i64.wrap (a7+1)) a2 a3 a4 a5 a6 (mks (List.zip y6.2.1 y6.2.2)) (mvs (List.zip y6.2.1 y6.2.2))))
end
def yek:LSh:=⟨[(4,(.d .bool))],[(.mp 55 .bool)],1,50⟩
noncomputable def zi8:FI dat:=FI.of dat 45 50 1 [(.d (.st 7)),(.map 0)] [(.mp 55 .bool)] [(.d .bool)] [(.mp 55 .bool)] false yek (R:=Bool×(List (List UInt8))×(List Bool)) (λx=>(x.1,x.2.1,x.2.2.1)) (λr=>(r.1,r.2.1,r.2.2,())) (λn x=>zch n x.1 x.2.1 x.2.2.1)
 (λn=>[(0,⟨⟨[(3,(.ptr 1 0)),(15,(.d (.int .i64))),(13,(.d (.sl (.st 6)))),(14,(.d (.int .i64)))],[(.mp 55 .bool),(.cells [(.map 0)])],1,50⟩,λx=>z4m n x.1 x.2.1 x.2.2.1 x.2.2.2.1 x.2.2.2.2.1⟩),(1,⟨⟨[(26,(.d (.int .i64))),(3,(.ptr 1 0)),(24,(.d (.sl (.st 5)))),(13,(.d (.sl (.st 6)))),(14,(.d (.int .i64))),(15,(.d (.int .i64))),(25,(.d (.int .i64)))],[(.mp 55 .bool),(.cells [(.map 0)])],1,50⟩,λx=>z4v n x.1 x.2.1 x.2.2.1 x.2.2.2.1 x.2.2.2.2.1 x.2.2.2.2.2.1 x.2.2.2.2.2.2.1 x.2.2.2.2.2.2.2.1⟩),(2,⟨⟨[(36,(.d (.int .i64))),(9,(.own 1)),(34,(.d (.sl (.st 4)))),(3,(.ptr 2 0)),(24,(.d (.sl (.st 5)))),(13,(.d (.sl (.st 6)))),(14,(.d (.int .i64))),(15,(.d (.int .i64))),(25,(.d (.int .i64))),(26,(.d (.int .i64))),(35,(.d (.int .i64)))],[(.mp 55 .bool),(.acc 43 (.st 2) true),(.cells [(.map 0)])],1,50⟩,λx=>z52 n x.1 x.2.1 x.2.2.1 x.2.2.2.1 x.2.2.2.2.1 x.2.2.2.2.2.1 x.2.2.2.2.2.2.1 x.2.2.2.2.2.2.2.1 x.2.2.2.2.2.2.2.2.1 x.2.2.2.2.2.2.2.2.2.1 x.2.2.2.2.2.2.2.2.2.2.1 x.2.2.2.2.2.2.2.2.2.2.2.1⟩)]) (ann [(6,0),(28,1),(45,2)] (Tryz.f45.body.getD .skip) 0).1
noncomputable def ydw:List (FI dat):=[zct,z6d,yzp]
theorem yfp:(zi8).Good Tryz.prog dat (tb ydw):=FI.yz4 (hD:=zz2 _) Tryz.func45 Tryz.ntmps45 Tryz.call45 (by kernel_rfl) (of_decide_eq_true (by kernel_rfl)) (by kernel_rfl) (λn=>by kernel_rfl) (λx=>by kernel_rfl) (λ_=>rfl) ⟨λ_=>rfl,λ_=>rfl,λ_=>rfl,trivial⟩
 (λn=>λx=>(zch.eq_2 x.1 x.2.1 x.2.2.1 n).trans (by kernel_rfl))
 (λn=>⟨λx=>(z4m.eq_2 x.1 x.2.1 x.2.2.1 x.2.2.2.1 x.2.2.2.2.1 n).trans (by kernel_rfl),
  λx=>(z4v.eq_2 x.1 x.2.1 x.2.2.1 x.2.2.2.1 x.2.2.2.2.1 x.2.2.2.2.2.1 x.2.2.2.2.2.2.1 x.2.2.2.2.2.2.2.1 n).trans (by kernel_rfl),
  λx=>(z52.eq_2 x.1 x.2.1 x.2.2.1 x.2.2.2.1 x.2.2.2.2.1 x.2.2.2.2.2.1 x.2.2.2.2.2.2.1 x.2.2.2.2.2.2.2.1 x.2.2.2.2.2.2.2.2.1 x.2.2.2.2.2.2.2.2.2.1 x.2.2.2.2.2.2.2.2.2.2.1 x.2.2.2.2.2.2.2.2.2.2.2.1 n).trans (by kernel_rfl),
  trivial⟩)
 (λx=>.inr (by kernel_rfl))
theorem ybm:OkL Tryz.prog [zi8]:=zz6 (zz2 _) (bs:=[zct,z6d,yzp]) ⟨zwh,zlo,zew,trivial⟩ yfp
theorem yag:FOk Tryz.prog zi8:=ybm.1
end Go.Proofs.YtahcjggdcmgpkaaGreat
namespace Go.Proofs.YtahcjggdcmgpkaaGreat
open Go Go.Ab
set_option linter.unusedVariables false
set_option maxRecDepth 100000
set_option maxHeartbeats 4000000
mutual
def za0:Nat->zz0->zz0->Option (Res ((List UInt8)×Unit) ((List (List UInt8))×(List Bool)))
 |0,_,_=>none
 |n+1,a0,a1 =>
  (zd5 n a0 a1).bind λy0 =>
  y5u y0 (λr1 =>
   (kzs n [a0.rules,a1.rules]).bind λy2 =>
   y5u y2 (λr3 =>
    z4x n 0 r3 (r3.length:Int) [] [] (mks (List.zip r1.1 r1.2)) (mvs (List.zip r1.1 r1.2)) a1 a0)
    (λe4 =>
    some (Res.pan (e4.1,()))))
   (λe5 =>
   some (Res.pan (e5.1,())))
def z4x:Nat->Int->(List kz4)->Int->(List (List UInt8))->(List Bool)->(List (List UInt8))->(List Bool)->zz0->zz0->Option (Res ((List UInt8)×Unit) ((List (List UInt8))×(List Bool)))
 |0,_,_,_,_,_,_,_,_,_=>none
 |n+1,a0,a1,a2,a3,a4,a5,a6,a7,a8 =>
  pIf (decide (a0<a2))
   ((ix a1 a0).bind λx6 =>
   (zfn n a8 x6.name).bind λy7 =>
   (zfn n a7 x6.name).bind λy8 =>
   pIf (decide (y7<0))
    (z1i n a1 a2 a0 true (mks (List.zip a3 a4)) (mvs (List.zip a3 a4)) (mks (List.zip a5 a6)) (mvs (List.zip a5 a6)) a7 a8 x6)
    (pIf (decide (y8<0))
      (z1i n a1 a2 a0 true (mks (List.zip a3 a4)) (mvs (List.zip a3 a4)) (mks (List.zip a5 a6)) (mvs (List.zip a5 a6)) a7 a8 x6)
      ((sub a8.rules y7 (IntKind.i64.wrap (y7+1))).bind λx9 =>
      (sub a7.rules y8 (IntKind.i64.wrap (y8+1))).bind λx10 =>
      (zdf n (zz0.mk [] x9) (zz0.mk [] x10)).bind λy11 =>
      pIf (!y11)
       (z1i n a1 a2 a0 true (mks (List.zip a3 a4)) (mvs (List.zip a3 a4)) (mks (List.zip a5 a6)) (mvs (List.zip a5 a6)) a7 a8 x6)
       ((zch n x6 (mks (List.zip a5 a6)) (mvs (List.zip a5 a6))).bind λy12 =>
       z1i n a1 a2 a0 y12.1 (mks (List.zip a3 a4)) (mvs (List.zip a3 a4)) (mks (List.zip y12.2.1 y12.2.2)) (mvs (List.zip y12.2.1 y12.2.2)) a7 a8 x6))))
   (some (Res.ok ((mks (List.zip a3 a4)),(mvs (List.zip a3 a4)))))
def z1i:Nat->(List kz4)->Int->Int->Bool->(List (List UInt8))->(List Bool)->(List (List UInt8))->(List Bool)->zz0->zz0->kz4->Option (Res ((List UInt8)×Unit) ((List (List UInt8))×(List Bool)))
 |0,_,_,_,_,_,_,_,_,_,_,_=>none
 |n+1,a0,a1,a2,a3,a4,a5,a6,a7,a8,a9,a10 =>
  pIf a3
   (z7y n a0 a1 a2 (mks (z90 (List.zip a4 a5) a10.name true)) (mvs (z90 (List.zip a4 a5) a10.name true)) (mks (List.zip a6 a7)) (mvs (List.zip a6 a7)) a8 a9)
   (z7y n a0 a1 a2 (mks (List.zip a4 a5)) (mvs (List.zip a4 a5)) (mks (List.zip a6 a7)) (mvs (List.zip a6 a7)) a8 a9)
def z7y:Nat->(List kz4)->Int->Int->(List (List UInt8))->(List Bool)->(List (List UInt8))->(List Bool)->zz0->zz0->Option (Res ((List UInt8)×Unit) ((List (List UInt8))×(List Bool)))
 |0,_,_,_,_,_,_,_,_,_=>none
 |n+1,a0,a1,a2,a3,a4,a5,a6,a7,a8 =>
  z4x n (IntKind.i64.wrap (a2+1)) a0 a1 (mks (List.zip a3 a4)) (mvs (List.zip a3 a4)) (mks (List.zip a5 a6)) (mvs (List.zip a5 a6)) a7 a8
end
def ydu:LSh:=⟨[(4,(.map 0))],[(.mp 55 .bool)],0,68⟩
noncomputable def zc4:FI dat:=FI.ofP dat 19 68 0 [(.d (.st 8)),(.d (.st 8))] [] [(.map 0)] [(.mp 55 .bool)] (.iface 9 (.d .str)) [] [] ydu (R:=(List (List UInt8))×(List Bool)) (λx=>(x.1,x.2.1)) (λr=>(r.1,r.2,())) (λn x=>za0 n x.1 x.2.1)
 (λn=>[(0,⟨⟨[(22,(.d (.int .i64))),(5,(.map 0)),(6,(.map 1)),(3,(.ptr 2 0)),(2,(.ptr 3 0)),(20,(.d (.sl (.st 7)))),(21,(.d (.int .i64)))],[(.mp 55 .bool),(.mp 55 .bool),(.st 8),(.st 8)],0,68⟩,λx=>z4x n x.1 x.2.1 x.2.2.1 x.2.2.2.1 x.2.2.2.2.1 x.2.2.2.2.2.1 x.2.2.2.2.2.2.1 x.2.2.2.2.2.2.2.1 x.2.2.2.2.2.2.2.2.1⟩),(1,⟨⟨[(5,(.map 0)),(6,(.map 1)),(3,(.ptr 2 0)),(2,(.ptr 3 0)),(20,(.d (.sl (.st 7)))),(21,(.d (.int .i64))),(22,(.d (.int .i64))),(8,(.ptr 4 0)),(62,(.d .bool))],[(.mp 55 .bool),(.mp 55 .bool),(.st 8),(.st 8),(.st 7)],0,68⟩,λx=>z1i n x.1 x.2.1 x.2.2.1 x.2.2.2.1 x.2.2.2.2.1 x.2.2.2.2.2.1 x.2.2.2.2.2.2.1 x.2.2.2.2.2.2.2.1 x.2.2.2.2.2.2.2.2.1 x.2.2.2.2.2.2.2.2.2.1 x.2.2.2.2.2.2.2.2.2.2.1⟩),(2,⟨⟨[(5,(.map 0)),(6,(.map 1)),(3,(.ptr 2 0)),(2,(.ptr 3 0)),(20,(.d (.sl (.st 7)))),(21,(.d (.int .i64))),(22,(.d (.int .i64)))],[(.mp 55 .bool),(.mp 55 .bool),(.st 8),(.st 8)],0,68⟩,λx=>z7y n x.1 x.2.1 x.2.2.1 x.2.2.2.1 x.2.2.2.2.1 x.2.2.2.2.2.1 x.2.2.2.2.2.2.1 x.2.2.2.2.2.2.2.1 x.2.2.2.2.2.2.2.2.1⟩)]) (ann [(10,0),(25,1),(28,2)] (Tryz.f19.body.getD .skip) 0).1
noncomputable def yg7:List (FI dat):=[zfd,z0d,zi8,zo6,zmb]
theorem yc2:(zc4).Good Tryz.prog dat (tb yg7):=FI.zo4 (hD:=zz2 _) Tryz.func19 Tryz.ntmps19 Tryz.call19 (by kernel_rfl) (of_decide_eq_true (by kernel_rfl)) (by kernel_rfl) (λn=>by kernel_rfl) trivial (λx=>by kernel_rfl) (λ_=>rfl) ⟨λ_=>rfl,λ_=>rfl,λ_=>rfl,trivial⟩
 (λn=>λx=>(za0.eq_2 x.1 x.2.1 n).trans (by kernel_rfl))
 (λn=>⟨λx=>(z4x.eq_2 x.1 x.2.1 x.2.2.1 x.2.2.2.1 x.2.2.2.2.1 x.2.2.2.2.2.1 x.2.2.2.2.2.2.1 x.2.2.2.2.2.2.2.1 x.2.2.2.2.2.2.2.2.1 n).trans (by kernel_rfl),
  λx=>(z1i.eq_2 x.1 x.2.1 x.2.2.1 x.2.2.2.1 x.2.2.2.2.1 x.2.2.2.2.2.1 x.2.2.2.2.2.2.1 x.2.2.2.2.2.2.2.1 x.2.2.2.2.2.2.2.2.1 x.2.2.2.2.2.2.2.2.2.1 x.2.2.2.2.2.2.2.2.2.2.1 n).trans (by kernel_rfl),
  λx=>(z7y.eq_2 x.1 x.2.1 x.2.2.1 x.2.2.2.1 x.2.2.2.2.1 x.2.2.2.2.2.1 x.2.2.2.2.2.2.1 x.2.2.2.2.2.2.2.1 x.2.2.2.2.2.2.2.2.1 n).trans (by kernel_rfl),
  trivial⟩)
 (λx=>by kernel_rfl)
theorem ydx:OkL Tryz.prog [zc4]:=zz6 (zz2 _) (bs:=[zfd,z0d,zi8,zo6,zmb]) ⟨y1l,zl0,yag,yof,yja,trivial⟩ yc2
theorem zx2:FOk Tryz.prog zc4:=ydx.1
noncomputable def zan:Nat->zz0->zz0->Option (Res ((List UInt8)×Unit) ((List (List UInt8))×Int))
 |0,_,_=>none
 |n+1,a0,a1 =>
  (zcp n a0 a1).bind λy0 =>
  pIf (y0 != 0)
   (some (Res.ok ([],y0)))
   ((za0 n a0 a1).bind λy1 =>
   y5u y1 (λr2 =>
    (zc1 n (mks (List.zip r2.1 r2.2)) (mvs (List.zip r2.1 r2.2))).bind λy3 =>
    some (Res.ok (y3.1,0)))
    (λe4 =>
    some (Res.pan (e4.1,()))))
def yfo:LSh:=⟨[(4,(.d (.sl .str))),(5,(.d (.int .i64)))],[],0,17⟩
noncomputable def zhc:FI dat:=FI.ofP dat 7 17 0 [(.d (.st 8)),(.d (.st 8))] [] [(.d (.sl .str)),(.d (.int .i64))] [] (.iface 9 (.d .str)) [] [] yfo (R:=(List (List UInt8))×Int) (λx=>(x.1,x.2.1)) (λr=>(r.1,r.2,())) (λn x=>zan n x.1 x.2.1)
 (λn=>[]) (ann [] (Tryz.f7.body.getD .skip) 0).1
noncomputable def yen:List (FI dat):=[zc4,zda,zd2]
theorem yd7:(zhc).Good Tryz.prog dat (tb yen):=FI.zo4 (hD:=zz2 _) Tryz.func7 Tryz.ntmps7 Tryz.call7 (by kernel_rfl) (of_decide_eq_true (by kernel_rfl)) (by kernel_rfl) (λn=>by kernel_rfl) trivial (λx=>by kernel_rfl) (λ_=>rfl) trivial
 (λn=>λx=>(zan.eq_2 x.1 x.2.1 n).trans (by kernel_rfl))
 (λn=>trivial)
 (λx=>by kernel_rfl)
theorem yei:OkL Tryz.prog [zhc]:=zz6 (zz2 _) (bs:=[zc4,zda,zd2]) ⟨zx2,zrb,zwr,trivial⟩ yd7
theorem y9u:FOk Tryz.prog zhc:=yei.1
def zdn:Nat->zz0->(List UInt8)->Option (Bool×kz4)
 |0,_,_=>none
 |n+1,a0,a1 =>
  (z11 n a0).bind λy0 =>
  (z44 n y0 a1).bind λy1 =>
  pIf (decide (y1<0))
   (some (false,(kz4.mk [] [] [])))
   ((ix a0.rules y1).bind λx2 =>
   some (true,x2))
def yqd:LSh:=⟨[(4,(.ptr 0 0)),(5,(.d .bool))],[(.st 7)],0,19⟩
noncomputable def zmo:FI dat:=FI.of dat 46 19 0 [(.d (.st 8)),(.d .str)] [] [(.d (.st 7)),(.d .bool)] [] true yqd (R:=Bool×kz4) (λx=>(x.1,x.2.1)) (λr=>(r.2,r.1,())) (λn x=>zdn n x.1 x.2.1)
 (λn=>[]) (ann [] (Tryz.f46.body.getD .skip) 0).1
noncomputable def yt0:List (FI dat):=[z05,z0s]
theorem yoh:(zmo).Good Tryz.prog dat (tb yt0):=FI.yz4 (hD:=zz2 _) Tryz.func46 Tryz.ntmps46 Tryz.call46 (by kernel_rfl) (of_decide_eq_true (by kernel_rfl)) (by kernel_rfl) (λn=>by kernel_rfl) (λx=>by kernel_rfl) (λ_=>rfl) trivial
 (λn=>λx=>(zdn.eq_2 x.1 x.2.1 n).trans (by kernel_rfl))
 (λn=>trivial)
 (λx=>.inl rfl)
theorem yrq:OkL Tryz.prog [zmo]:=zz6 (zz2 _) (bs:=[z05,z0s]) ⟨zbx,zcv,trivial⟩ yoh
theorem ykb:FOk Tryz.prog zmo:=yrq.1
def z4t:Nat->(List zz1)->(List zz1)->Option Bool
 |0,_,_=>none
 |n+1,a0,a1 =>
  (z03 n a0).bind λy0 =>
  (z03 n a1).bind λy1 =>
  (z5n n y0.re y1.re).bind λy2 =>
  some y2
def y5c:LSh:=⟨[(4,(.d .bool))],[],0,10⟩
noncomputable def zcx:FI dat:=FI.of dat 141 10 0 [(.d (.sl (.st 2))),(.d (.sl (.st 2)))] [] [(.d .bool)] [] true y5c (R:=Bool) (λx=>x.1) (λr=>(r,())) (λn x=>z4t n x.1 x.2.1)
 (λn=>[]) (ann [] (Tryz.f141.body.getD .skip) 0).1
noncomputable def y5d:List (FI dat):=[z5s,z98]
theorem y3o:(zcx).Good Tryz.prog dat (tb y5d):=FI.yz4 (hD:=zz2 _) Tryz.func141 Tryz.ntmps141 Tryz.call141 (by kernel_rfl) (of_decide_eq_true (by kernel_rfl)) (by kernel_rfl) (λn=>by kernel_rfl) (λx=>by kernel_rfl) (λ_=>rfl) trivial
 (λn=>λx=>(z4t.eq_2 x.1 x.2.1 n).trans (by kernel_rfl))
 (λn=>trivial)
 (λx=>.inl rfl)
theorem y3k:OkL Tryz.prog [zcx]:=zz6 (zz2 _) (bs:=[z5s,z98]) ⟨zo2,ztm,trivial⟩ y3o
theorem y31:FOk Tryz.prog zcx:=y3k.1
mutual
def z5e:Nat->zz3->zz3->Option Bool
 |0,_,_=>none
 |n+1,a0,a1 =>
  pIf (a0.kind != a1.kind)
   (kzq n true a1 a0)
   (pIf (a0.axis != a1.axis)
     (kzq n true a1 a0)
     (pIf (!(a0.name==a1.name))
       (kzq n true a1 a0)
       ((z4t n a0.args a1.args).bind λy0 =>
       pIf (!y0)
        (kzq n true a1 a0)
        (kzq n ((a0.items.length:Int) != (a1.items.length:Int)) a1 a0))))
def kzq:Nat->Bool->zz3->zz3->Option Bool
 |0,_,_,_=>none
 |n+1,a0,a1,a2 =>
  pIf a0
   (some false)
   (z15 n 0 a1 a2)
def z15:Nat->Int->zz3->zz3->Option Bool
 |0,_,_,_=>none
 |n+1,a0,a1,a2 =>
  pIf (decide (a0<(a2.items.length:Int)))
   ((ix a2.items a0).bind λx1 =>
   (ix a1.items a0).bind λx2 =>
   pIf (x1.kind != x2.kind)
    (z0b n a0 true a1 a2)
    ((ix a2.items a0).bind λx3 =>
    (ix a1.items a0).bind λx4 =>
    pIf (!(x3.name==x4.name))
     (z0b n a0 true a1 a2)
     ((ix a2.items a0).bind λx5 =>
     (ix a1.items a0).bind λx6 =>
     (z4t n x5.args x6.args).bind λy7 =>
     z0b n a0 (!y7) a1 a2)))
   (some true)
def z0b:Nat->Int->Bool->zz3->zz3->Option Bool
 |0,_,_,_,_=>none
 |n+1,a0,a1,a2,a3 =>
  pIf a1
   (some false)
   (z15 n (IntKind.i64.wrap (a0+1)) a2 a3)
end
def y0g:LSh:=⟨[(4,(.d .bool))],[],0,93⟩
noncomputable def zaw:FI dat:=FI.of dat 116 93 0 [(.d (.st 5)),(.d (.st 5))] [] [(.d .bool)] [] true y0g (R:=Bool) (λx=>x.1) (λr=>(r,())) (λn x=>z5e n x.1 x.2.1)
 (λn=>[(0,⟨⟨[(3,(.ptr 0 0)),(2,(.ptr 1 0)),(41,(.d .bool))],[(.st 5),(.st 5)],0,93⟩,λx=>kzq n x.1 x.2.1 x.2.2.1⟩),(1,⟨⟨[(5,(.d (.int .i64))),(3,(.ptr 0 0)),(2,(.ptr 1 0))],[(.st 5),(.st 5)],0,93⟩,λx=>z15 n x.1 x.2.1 x.2.2.1⟩),(2,⟨⟨[(3,(.ptr 0 0)),(2,(.ptr 1 0)),(5,(.d (.int .i64))),(92,(.d .bool))],[(.st 5),(.st 5)],0,93⟩,λx=>z0b n x.1 x.2.1 x.2.2.1 x.2.2.2.1⟩)]) (ann [(5,0),(14,1),(25,2)] (Tryz.f116.body.getD .skip) 0).1
noncomputable def y0q:List (FI dat):=[zcx]
theorem y0l:(zaw).Good Tryz.prog dat (tb y0q):=FI.yz4 (hD:=zz2 _) Tryz.func116 Tryz.ntmps116 Tryz.call116 (by kernel_rfl) (of_decide_eq_true (by kernel_rfl)) (by kernel_rfl) (λn=>by kernel_rfl) (λx=>by kernel_rfl) (λ_=>rfl) ⟨λ_=>rfl,λ_=>rfl,λ_=>rfl,trivial⟩
 (λn=>λx=>(z5e.eq_2 x.1 x.2.1 n).trans (by kernel_rfl))
 (λn=>⟨λx=>(kzq.eq_2 x.1 x.2.1 x.2.2.1 n).trans (by kernel_rfl),
  λx=>(z15.eq_2 x.1 x.2.1 x.2.2.1 n).trans (by kernel_rfl),
  λx=>(z0b.eq_2 x.1 x.2.1 x.2.2.1 x.2.2.2.1 n).trans (by kernel_rfl),
  trivial⟩)
 (λx=>.inl rfl)
theorem y0k:OkL Tryz.prog [zaw]:=zz6 (zz2 _) (bs:=[zcx]) ⟨y31,trivial⟩ y0l
theorem zy2:FOk Tryz.prog zaw:=y0k.1
mutual
def z8k:Nat->kz5->kz5->Option Bool
 |0,_,_=>none
 |n+1,a0,a1 =>
  pIf (a0.weight != a1.weight)
   (z0v n true a1.re a0.re)
   ((z5n n a0.when_.re a1.when_.re).bind λy0 =>
   pIf (!y0)
    (z0v n true a1.re a0.re)
    (z0v n ((a0.do_.length:Int) != (a1.do_.length:Int)) a1.re a0.re))
def z0v:Nat->Bool->kz5->kz5->Option Bool
 |0,_,_,_=>none
 |n+1,a0,a1,a2 =>
  pIf a0
   (some false)
   (z2b n 0 a1.re a2.re)
def z2b:Nat->Int->kz5->kz5->Option Bool
 |0,_,_,_=>none
 |n+1,a0,a1,a2 =>
  pIf (decide (a0<(a2.do_.length:Int)))
   ((ix a2.do_ a0).bind λx1 =>
   (ix a1.do_ a0).bind λx2 =>
   (z5e n x1 x2).bind λy3 =>
   pIf (!y3)
    (some false)
    (z2b n (IntKind.i64.wrap (a0+1)) a1.re a2.re))
   (some true)
end
def y4b:LSh:=⟨[(4,(.d .bool))],[],0,47⟩
noncomputable def zcu:FI dat:=FI.of dat 89 47 0 [(.d (.st 6)),(.d (.st 6))] [] [(.d .bool)] [] true y4b (R:=Bool) (λx=>x.1) (λr=>(r,())) (λn x=>z8k n x.1 x.2.1)
 (λn=>[(0,⟨⟨[(3,(.ptr 0 0)),(2,(.ptr 1 0)),(27,(.d .bool))],[(.st 6),(.st 6)],0,47⟩,λx=>z0v n x.1 x.2.1 x.2.2.1⟩),(1,⟨⟨[(5,(.d (.int .i64))),(3,(.ptr 0 0)),(2,(.ptr 1 0))],[(.st 6),(.st 6)],0,47⟩,λx=>z2b n x.1 x.2.1 x.2.2.1⟩)]) (ann [(5,0),(14,1)] (Tryz.f89.body.getD .skip) 0).1
noncomputable def y53:List (FI dat):=[z98,zaw]
theorem y40:(zcu).Good Tryz.prog dat (tb y53):=FI.yz4 (hD:=zz2 _) Tryz.func89 Tryz.ntmps89 Tryz.call89 (by kernel_rfl) (of_decide_eq_true (by kernel_rfl)) (by kernel_rfl) (λn=>by kernel_rfl) (λx=>by kernel_rfl) (λ_=>rfl) ⟨λ_=>rfl,λ_=>rfl,trivial⟩
 (λn=>λx=>(z8k.eq_2 x.1 x.2.1 n).trans (by kernel_rfl))
 (λn=>⟨λx=>(z0v.eq_2 x.1 x.2.1 x.2.2.1 n).trans (by kernel_rfl),
  λx=>(z2b.eq_2 x.1 x.2.1 x.2.2.1 n).trans (by kernel_rfl),
  trivial⟩)
 (λx=>.inl rfl)
theorem y51:OkL Tryz.prog [zcu]:=zz6 (zz2 _) (bs:=[z98,zaw]) ⟨ztm,zy2,trivial⟩ y40
theorem y1y:FOk Tryz.prog zcu:=y51.1
mutual
def z7z:Nat->kz4->kz4->Option Bool
 |0,_,_=>none
 |n+1,a0,a1 =>
  pIf (!(a0.name==a1.name))
   (z0y n true a1 a0)
   (pIf ((a0.params.length:Int) != (a1.params.length:Int))
     (z0y n true a1 a0)
     (z0y n ((a0.cases.length:Int) != (a1.cases.length:Int)) a1 a0))
def z0y:Nat->Bool->kz4->kz4->Option Bool
 |0,_,_,_=>none
 |n+1,a0,a1,a2 =>
  pIf a0
   (some false)
   (z2c n 0 a1 a2)
def z2c:Nat->Int->kz4->kz4->Option Bool
 |0,_,_,_=>none
 |n+1,a0,a1,a2 =>
  pIf (decide (a0<(a2.params.length:Int)))
   ((ix a2.params a0).bind λx0 =>
   (ix a1.params a0).bind λx1 =>
   pIf (!(x0==x1))
    (some false)
    (z2c n (IntKind.i64.wrap (a0+1)) a1 a2))
   (z29 n 0 a1 a2)
def z29:Nat->Int->kz4->kz4->Option Bool
 |0,_,_,_=>none
 |n+1,a0,a1,a2 =>
  pIf (decide (a0<(a2.cases.length:Int)))
   ((ix a2.cases a0).bind λx2 =>
   (ix a1.cases a0).bind λx3 =>
   (z8k n x2.re x3.re).bind λy4 =>
   pIf (!y4)
    (some false)
    (z29 n (IntKind.i64.wrap (a0+1)) a1 a2))
   (some true)
end
def y48:LSh:=⟨[(4,(.d .bool))],[],0,67⟩
noncomputable def zd1:FI dat:=FI.of dat 47 67 0 [(.d (.st 7)),(.d (.st 7))] [] [(.d .bool)] [] true y48 (R:=Bool) (λx=>x.1) (λr=>(r,())) (λn x=>z7z n x.1 x.2.1)
 (λn=>[(0,⟨⟨[(3,(.ptr 0 0)),(2,(.ptr 1 0)),(29,(.d .bool))],[(.st 7),(.st 7)],0,67⟩,λx=>z0y n x.1 x.2.1 x.2.2.1⟩),(1,⟨⟨[(5,(.d (.int .i64))),(3,(.ptr 0 0)),(2,(.ptr 1 0))],[(.st 7),(.st 7)],0,67⟩,λx=>z2c n x.1 x.2.1 x.2.2.1⟩),(2,⟨⟨[(6,(.d (.int .i64))),(3,(.ptr 0 0)),(2,(.ptr 1 0))],[(.st 7),(.st 7)],0,67⟩,λx=>z29 n x.1 x.2.1 x.2.2.1⟩)]) (ann [(5,0),(14,1),(35,2)] (Tryz.f47.body.getD .skip) 0).1
noncomputable def y58:List (FI dat):=[zcu]
theorem y4o:(zd1).Good Tryz.prog dat (tb y58):=FI.yz4 (hD:=zz2 _) Tryz.func47 Tryz.ntmps47 Tryz.call47 (by kernel_rfl) (of_decide_eq_true (by kernel_rfl)) (by kernel_rfl) (λn=>by kernel_rfl) (λx=>by kernel_rfl) (λ_=>rfl) ⟨λ_=>rfl,λ_=>rfl,λ_=>rfl,trivial⟩
 (λn=>λx=>(z7z.eq_2 x.1 x.2.1 n).trans (by kernel_rfl))
 (λn=>⟨λx=>(z0y.eq_2 x.1 x.2.1 x.2.2.1 n).trans (by kernel_rfl),
  λx=>(z2c.eq_2 x.1 x.2.1 x.2.2.1 n).trans (by kernel_rfl),
  λx=>(z29.eq_2 x.1 x.2.1 x.2.2.1 n).trans (by kernel_rfl),
  trivial⟩)
 (λx=>.inl rfl)
theorem y4e:OkL Tryz.prog [zd1]:=zz6 (zz2 _) (bs:=[zcu]) ⟨y1y,trivial⟩ y4o
theorem y1w:FOk Tryz.prog zd1:=y4e.1
end Go.Proofs.YtahcjggdcmgpkaaGreat
namespace Go.Proofs.YtahcjggdcmgpkaaGreat
open Go Go.Ab
set_option linter.unusedVariables false
set_option maxRecDepth 100000
set_option maxHeartbeats 4000000
mutual
def zbe:Nat->kz4->(List (List UInt8))->Option Bool
 |0,_,_=>none
 |n+1,a0,a1 =>
  z3p n a1 0 a0
def z3p:Nat->(List (List UInt8))->Int->kz4->Option Bool
 |0,_,_,_=>none
 |n+1,a0,a1,a2 =>
  pIf (decide (a1<(a2.cases.length:Int)))
   ((ix a2.cases a1).bind λx0 =>
   (z95 n x0.when_.re a0).bind λy1 =>
   pIf y1
    (some true)
    (z3i n a0 0 a1 a2))
   (some false)
def z3i:Nat->(List (List UInt8))->Int->Int->kz4->Option Bool
 |0,_,_,_,_=>none
 |n+1,a0,a1,a2,a3 =>
  (ix a3.cases a2).bind λx2 =>
  pIf (decide (a1<(x2.do_.length:Int)))
   ((ix a3.cases a2).bind λx3 =>
   (ix x3.do_ a1).bind λx4 =>
   (z03 n x4.args).bind λy5 =>
   (z95 n y5.re a0).bind λy6 =>
   pIf y6
    (some true)
    (z3n n 0 a0 a2 a1 x4 a3))
   (z3p n a0 (IntKind.i64.wrap (a2+1)) a3)
def z3n:Nat->Int->(List (List UInt8))->Int->Int->zz3->kz4->Option Bool
 |0,_,_,_,_,_,_=>none
 |n+1,a0,a1,a2,a3,a4,a5 =>
  pIf (decide (a0<(a4.items.length:Int)))
   ((ix a4.items a0).bind λx7 =>
   (z03 n x7.args).bind λy8 =>
   (z95 n y8.re a1).bind λy9 =>
   pIf y9
    (some true)
    (z3n n (IntKind.i64.wrap (a0+1)) a1 a2 a3 a4 a5))
   (z3i n a1 (IntKind.i64.wrap (a3+1)) a2 a5)
end
def yav:LSh:=⟨[(4,(.d .bool))],[],0,65⟩
noncomputable def zfq:FI dat:=FI.of dat 48 65 0 [(.d (.st 7)),(.d (.sl .str))] [] [(.d .bool)] [] true yav (R:=Bool) (λx=>x.1) (λr=>(r,())) (λn x=>zbe n x.1 x.2.1)
 (λn=>[(0,⟨⟨[(1,(.d (.sl .str))),(5,(.d (.int .i64))),(2,(.ptr 0 0))],[(.st 7)],0,65⟩,λx=>z3p n x.1 x.2.1 x.2.2.1⟩),(1,⟨⟨[(1,(.d (.sl .str))),(6,(.d (.int .i64))),(5,(.d (.int .i64))),(2,(.ptr 0 0))],[(.st 7)],0,65⟩,λx=>z3i n x.1 x.2.1 x.2.2.1 x.2.2.2.1⟩),(2,⟨⟨[(8,(.d (.int .i64))),(1,(.d (.sl .str))),(7,(.ptr 0 0)),(5,(.d (.int .i64))),(2,(.ptr 1 0)),(6,(.d (.int .i64)))],[(.st 5),(.st 7)],0,65⟩,λx=>z3n n x.1 x.2.1 x.2.2.1 x.2.2.2.1 x.2.2.2.2.1 x.2.2.2.2.2.1⟩)]) (ann [(6,0),(26,1),(48,2)] (Tryz.f48.body.getD .skip) 0).1
noncomputable def ya3:List (FI dat):=[zfl,z5s]
theorem y9z:(zfq).Good Tryz.prog dat (tb ya3):=FI.yz4 (hD:=zz2 _) Tryz.func48 Tryz.ntmps48 Tryz.call48 (by kernel_rfl) (of_decide_eq_true (by kernel_rfl)) (by kernel_rfl) (λn=>by kernel_rfl) (λx=>by kernel_rfl) (λ_=>rfl) ⟨λ_=>rfl,λ_=>rfl,λ_=>rfl,trivial⟩
 (λn=>λx=>(zbe.eq_2 x.1 x.2.1 n).trans (by kernel_rfl))
 (λn=>⟨λx=>(z3p.eq_2 x.1 x.2.1 x.2.2.1 n).trans (by kernel_rfl),
  λx=>(z3i.eq_2 x.1 x.2.1 x.2.2.1 x.2.2.2.1 n).trans (by kernel_rfl),
  λx=>(z3n.eq_2 x.1 x.2.1 x.2.2.1 x.2.2.2.1 x.2.2.2.2.1 x.2.2.2.2.2.1 n).trans (by kernel_rfl),
  trivial⟩)
 (λx=>.inl rfl)
theorem yac:OkL Tryz.prog [zfq]:=zz6 (zz2 _) (bs:=[zfl,z5s]) ⟨y1f,zo2,trivial⟩ y9z
theorem y5p:FOk Tryz.prog zfq:=yac.1
mutual
def z88:Nat->zz0->zz0->Option (List (List UInt8))
 |0,_,_=>none
 |n+1,a0,a1 =>
  (zbs n a0 a1).bind λy0 =>
  (z11 n a0).bind λy1 =>
  (ext [] y1).bind λx2 =>
  (z11 n a1).bind λy3 =>
  (ext x2 y3).bind λx4 =>
  z3l n 0 [] y0 x4 a1 a0
def z3l:Nat->Int->(List (List UInt8))->(List (List UInt8))->(List (List UInt8))->zz0->zz0->Option (List (List UInt8))
 |0,_,_,_,_,_,_=>none
 |n+1,a0,a1,a2,a3,a4,a5 =>
  pIf (decide (a0<(a3.length:Int)))
   ((ix a3 a0).bind λx5 =>
   (zdn n a5 x5).bind λy6 =>
   (ix a3 a0).bind λx7 =>
   (zdn n a4 x7).bind λy8 =>
   pIf (!y6.1)
    (z10 n a2 a0 a1 true a3 a4 a5)
    (pIf (!y8.1)
      (z10 n a2 a0 a1 true a3 a4 a5)
      ((z7z n y6.2 y8.2).bind λy9 =>
      pIf (!y9)
       (z10 n a2 a0 a1 true a3 a4 a5)
       ((zbe n y6.2 a2).bind λy10 =>
       z10 n a2 a0 a1 y10 a3 a4 a5))))
   (some a1)
def z10:Nat->(List (List UInt8))->Int->(List (List UInt8))->Bool->(List (List UInt8))->zz0->zz0->Option (List (List UInt8))
 |0,_,_,_,_,_,_,_=>none
 |n+1,a0,a1,a2,a3,a4,a5,a6 =>
  pIf a3
   ((ix a4 a1).bind λx11 =>
   (zcs n a2 x11).bind λy12 =>
   z7a n y12 a0 a1 a4 a5 a6)
   (z7a n a2 a0 a1 a4 a5 a6)
def z7a:Nat->(List (List UInt8))->(List (List UInt8))->Int->(List (List UInt8))->zz0->zz0->Option (List (List UInt8))
 |0,_,_,_,_,_,_=>none
 |n+1,a0,a1,a2,a3,a4,a5 =>
  z3l n (IntKind.i64.wrap (a2+1)) a0 a1 a3 a4 a5
end
def yb3:LSh:=⟨[(4,(.d (.sl .str)))],[],0,71⟩
noncomputable def za5:FI dat:=FI.of dat 20 71 0 [(.d (.st 8)),(.d (.st 8))] [] [(.d (.sl .str))] [] true yb3 (R:=List (List UInt8)) (λx=>x.1) (λr=>(r,())) (λn x=>z88 n x.1 x.2.1)
 (λn=>[(0,⟨⟨[(8,(.d (.int .i64))),(6,(.own 0)),(7,(.d (.sl .str))),(5,(.d (.sl .str))),(3,(.ptr 1 0)),(2,(.ptr 2 0))],[(.acc 9 .str true),(.st 8),(.st 8)],0,71⟩,λx=>z3l n x.1 x.2.1 x.2.2.1 x.2.2.2.1 x.2.2.2.2.1 x.2.2.2.2.2.1⟩),(1,⟨⟨[(6,(.own 0)),(5,(.d (.sl .str))),(3,(.ptr 1 0)),(2,(.ptr 2 0)),(8,(.d (.int .i64))),(7,(.d (.sl .str))),(63,(.d .bool))],[(.acc 9 .str true),(.st 8),(.st 8)],0,71⟩,λx=>z10 n x.1 x.2.1 x.2.2.1 x.2.2.2.1 x.2.2.2.2.1 x.2.2.2.2.2.1 x.2.2.2.2.2.2.1⟩),(2,⟨⟨[(6,(.own 0)),(7,(.d (.sl .str))),(5,(.d (.sl .str))),(3,(.ptr 1 0)),(2,(.ptr 2 0)),(8,(.d (.int .i64)))],[(.acc 9 .str true),(.st 8),(.st 8)],0,71⟩,λx=>z7a n x.1 x.2.1 x.2.2.1 x.2.2.2.1 x.2.2.2.2.1 x.2.2.2.2.2.1⟩)]) (ann [(12,0),(27,1),(30,2)] (Tryz.f20.body.getD .skip) 0).1
noncomputable def yat:List (FI dat):=[zd9,z05,zmo,zd1,zfq,zcr]
theorem yah:(za5).Good Tryz.prog dat (tb yat):=FI.yz4 (hD:=zz2 _) Tryz.func20 Tryz.ntmps20 Tryz.call20 (by kernel_rfl) (of_decide_eq_true (by kernel_rfl)) (by kernel_rfl) (λn=>by kernel_rfl) (λx=>by kernel_rfl) (λ_=>rfl) ⟨λ_=>rfl,λ_=>rfl,λ_=>rfl,trivial⟩
 (λn=>λx=>(z88.eq_2 x.1 x.2.1 n).trans (by kernel_rfl))
 (λn=>⟨λx=>(z3l.eq_2 x.1 x.2.1 x.2.2.1 x.2.2.2.1 x.2.2.2.2.1 x.2.2.2.2.2.1 n).trans (by kernel_rfl),
  λx=>(z10.eq_2 x.1 x.2.1 x.2.2.1 x.2.2.2.1 x.2.2.2.2.1 x.2.2.2.2.2.1 x.2.2.2.2.2.2.1 n).trans (by kernel_rfl),
  λx=>(z7a.eq_2 x.1 x.2.1 x.2.2.1 x.2.2.2.1 x.2.2.2.2.1 x.2.2.2.2.2.1 n).trans (by kernel_rfl),
  trivial⟩)
 (λx=>.inl rfl)
theorem yak:OkL Tryz.prog [za5]:=zz6 (zz2 _) (bs:=[zd9,z05,zmo,zd1,zfq,zcr]) ⟨zyg,zbx,ykb,y1w,y5p,zwo,trivial⟩ yah
theorem zvw:FOk Tryz.prog za5:=yak.1
def z8x:Nat->zz0->zz0->Option ((List (List UInt8))×Int)
 |0,_,_=>none
 |n+1,a0,a1 =>
  (z48 n a0 a1).bind λy0 =>
  pIf (y0 != 0)
   ((z48 n a0 a1).bind λy1 =>
   some ([],y1))
   ((z88 n a0 a1).bind λy2 =>
   some (y2,0))
def yax:LSh:=⟨[(4,(.d (.sl .str))),(5,(.d (.int .i64)))],[],0,16⟩
noncomputable def zfp:FI dat:=FI.of dat 8 16 0 [(.d (.st 8)),(.d (.st 8))] [] [(.d (.sl .str)),(.d (.int .i64))] [] true yax (R:=(List (List UInt8))×Int) (λx=>(x.1,x.2.1)) (λr=>(r.1,r.2,())) (λn x=>z8x n x.1 x.2.1)
 (λn=>[]) (ann [] (Tryz.f8.body.getD .skip) 0).1
noncomputable def yar:List (FI dat):=[zb2,za5]
theorem y9p:(zfp).Good Tryz.prog dat (tb yar):=FI.yz4 (hD:=zz2 _) Tryz.func8 Tryz.ntmps8 Tryz.call8 (by kernel_rfl) (of_decide_eq_true (by kernel_rfl)) (by kernel_rfl) (λn=>by kernel_rfl) (λx=>by kernel_rfl) (λ_=>rfl) trivial
 (λn=>λx=>(z8x.eq_2 x.1 x.2.1 n).trans (by kernel_rfl))
 (λn=>trivial)
 (λx=>.inl rfl)
theorem ya5:OkL Tryz.prog [zfp]:=zz6 (zz2 _) (bs:=[zb2,za5]) ⟨ztl,zvw,trivial⟩ y9p
theorem y5m:FOk Tryz.prog zfp:=ya5.1
def zg3:Nat->kz4->(List UInt8)->Option (Bool×(List UInt8))
 |0,_,_=>none
 |n+1,a0,a1 =>
  some ((a0.name==a1),a1)
def ypr:LSh:=⟨[(3,(.d .bool))],[(.cells [(.d .str)])],1,8⟩
noncomputable def zmj:FI dat:=FI.of dat 90 8 1 [(.d (.st 7)),(.ptr 0 0)] [(.cells [(.d .str)])] [(.d .bool)] [(.cells [(.d .str)])] false ypr (R:=Bool×(List UInt8)) (λx=>(x.1,x.2.1)) (λr=>(r.1,r.2,())) (λn x=>zg3 n x.1 x.2.1)
 (λn=>[]) (ann [] (Tryz.f90.body.getD .skip) 0).1
noncomputable def yo5:List (FI dat):=[]
theorem yo6:(zmj).Good Tryz.prog dat (tb yo5):=FI.yz4 (hD:=zz2 _) Tryz.func90 Tryz.ntmps90 Tryz.call90 (by kernel_rfl) (of_decide_eq_true (by kernel_rfl)) (by kernel_rfl) (λn=>by kernel_rfl) (λx=>by kernel_rfl) (λ_=>rfl) trivial
 (λn=>λx=>(zg3.eq_2 x.1 x.2.1 n).trans (by kernel_rfl))
 (λn=>trivial)
 (λx=>.inr (by kernel_rfl))
theorem yod:OkL Tryz.prog [zmj]:=zz6 (zz2 _) (bs:=[]) trivial yo6
theorem yig:FOk Tryz.prog zmj:=yod.1
mutual
def zzj:Nat->(List kz4)->(List UInt8)->Option (Int×(List UInt8))
 |0,_,_=>none
 |n+1,a0,a1 =>
  zzc n 0 a0 (a0.length:Int) a1
def zzc:Nat->Int->(List kz4)->Int->(List UInt8)->Option (Int×(List UInt8))
 |0,_,_,_,_=>none
 |n+1,a0,a1,a2,a3 =>
  pIf (decide (a0<a2))
   ((ix a1 a0).bind λx0 =>
   (zg3 n x0 a3).bind λy1 =>
   pIf y1.1
    (some (a0,y1.2))
    (zzc n (IntKind.i64.wrap (a0+1)) a1 a2 y1.2))
   (some ((-1),a3))
end
def zh7:LSh:=⟨[(4,(.d (.int .i64)))],[(.cells [(.d .str)])],1,19⟩
noncomputable def yzt:FI dat:=FI.of dat 78 19 1 [(.d (.sl (.st 7))),(.fn 90 [] [(.ptr 0 0)])] [(.cells [(.d .str)])] [(.d (.int .i64))] [(.cells [(.d .str)])] false zh7 (R:=Int×(List UInt8)) (λx=>(x.1,x.2.1)) (λr=>(r.1,r.2,())) (λn x=>zzj n x.1 x.2.1)
 (λn=>[(0,⟨⟨[(8,(.d (.int .i64))),(0,(.d (.sl (.st 7)))),(1,(.fn 90 [] [(.ptr 0 0)])),(7,(.d (.int .i64)))],[(.cells [(.d .str)])],1,19⟩,λx=>zzc n x.1 x.2.1 x.2.2.1 x.2.2.2.1⟩)]) (ann [(6,0)] (Tryz.f78.body.getD .skip) 0).1
noncomputable def zgq:List (FI dat):=[zmj]
theorem zgz:(yzt).Good Tryz.prog dat (tb zgq):=FI.yz4 (hD:=zz2 _) Tryz.func78 Tryz.ntmps78 Tryz.call78 (by kernel_rfl) (of_decide_eq_true (by kernel_rfl)) (by kernel_rfl) (λn=>by kernel_rfl) (λx=>by kernel_rfl) (λ_=>rfl) ⟨λ_=>rfl,trivial⟩
 (λn=>λx=>(zzj.eq_2 x.1 x.2.1 n).trans (by kernel_rfl))
 (λn=>⟨λx=>(zzc.eq_2 x.1 x.2.1 x.2.2.1 x.2.2.2.1 n).trans (by kernel_rfl),
  trivial⟩)
 (λx=>.inr (by kernel_rfl))
theorem zh1:OkL Tryz.prog [yzt]:=zz6 (zz2 _) (bs:=[zmj]) ⟨yig,trivial⟩ zgz
theorem zgk:FOk Tryz.prog yzt:=zh1.1
def zia:Nat->zz0->(List UInt8)->Option Int
 |0,_,_=>none
 |n+1,a0,a1 =>
  (zzj n a0.rules a1).bind λy0 =>
  some y0.1
def yyl:LSh:=⟨[(4,(.d (.int .i64)))],[],0,9⟩
noncomputable def zq0:FI dat:=FI.of dat 49 9 0 [(.d (.st 8)),(.d .str)] [] [(.d (.int .i64))] [] true yyl (R:=Int) (λx=>x.1) (λr=>(r,())) (λn x=>zia n x.1 x.2.1)
 (λn=>[]) (ann [] (Tryz.f49.body.getD .skip) 0).1
noncomputable def yxa:List (FI dat):=[yzt]
theorem yxq:(zq0).Good Tryz.prog dat (tb yxa):=FI.yz4 (hD:=zz2 _) Tryz.func49 Tryz.ntmps49 Tryz.call49 (by kernel_rfl) (of_decide_eq_true (by kernel_rfl)) (by kernel_rfl) (λn=>by kernel_rfl) (λx=>by kernel_rfl) (λ_=>rfl) trivial
 (λn=>λx=>(zia.eq_2 x.1 x.2.1 n).trans (by kernel_rfl))
 (λn=>trivial)
 (λx=>.inl rfl)
theorem yxt:OkL Tryz.prog [zq0]:=zz6 (zz2 _) (bs:=[yzt]) ⟨zgk,trivial⟩ yxq
theorem yvz:FOk Tryz.prog zq0:=yxt.1
mutual
noncomputable def zbq:Nat->zz0->(List UInt8)->Option ((List (List UInt8))×Int)
 |0,_,_=>none
 |n+1,a0,a1 =>
  (z9d n a0).bind λy0 =>
  pIf (y0 != 0)
   (some ([],y0))
   ((zia n a0 a1).bind λy1 =>
   pIf (decide (y1<0))
    (some ([],6))
    (z5q n 0 [a1] (mks (z90 [] a1 true)) (mvs (z90 [] a1 true)) a0))
noncomputable def z5q:Nat->Int->(List (List UInt8))->(List (List UInt8))->(List Bool)->zz0->Option ((List (List UInt8))×Int)
 |0,_,_,_,_,_=>none
 |n+1,a0,a1,a2,a3,a4 =>
  pIf (decide (a0<(a1.length:Int)))
   ((ix a1 a0).bind λx2 =>
   (zia n a4 x2).bind λy3 =>
   (ix a4.rules y3).bind λx4 =>
   (zbt n x4).bind λy5 =>
   z5r n 0 y5 a0 (y5.length:Int) a1 (mks (List.zip a2 a3)) (mvs (List.zip a2 a3)) a4)
   ((z0j n a1).bind λy6 =>
   some (y6,0))
noncomputable def z5r:Nat->Int->(List zzq)->Int->Int->(List (List UInt8))->(List (List UInt8))->(List Bool)->zz0->Option ((List (List UInt8))×Int)
 |0,_,_,_,_,_,_,_,_=>none
 |n+1,a0,a1,a2,a3,a4,a5,a6,a7 =>
  pIf (decide (a0<a3))
   ((ix a1 a0).bind λx7 =>
   pIf (!(Option.getD (z3k (List.zip a5 a6) x7.name) false))
    ((ext a4 [x7.name]).bind λx8 =>
    z9n n a1 a2 a3 a0 x8 (mks (z90 (List.zip a5 a6) x7.name true)) (mvs (z90 (List.zip a5 a6) x7.name true)) a7)
    (z9n n a1 a2 a3 a0 a4 (mks (List.zip a5 a6)) (mvs (List.zip a5 a6)) a7))
   (z5q n (IntKind.i64.wrap (a2+1)) a4 (mks (List.zip a5 a6)) (mvs (List.zip a5 a6)) a7)
noncomputable def z9n:Nat->(List zzq)->Int->Int->Int->(List (List UInt8))->(List (List UInt8))->(List Bool)->zz0->Option ((List (List UInt8))×Int)
 |0,_,_,_,_,_,_,_,_=>none
 |n+1,a0,a1,a2,a3,a4,a5,a6,a7 =>
  z5r n (IntKind.i64.wrap (a3+1)) a0 a1 a2 a4 (mks (List.zip a5 a6)) (mvs (List.zip a5 a6)) a7
end
def ykr:LSh:=⟨[(4,(.d (.sl .str))),(5,(.d (.int .i64)))],[],0,65⟩
noncomputable def zk2:FI dat:=FI.of dat 21 65 0 [(.d (.st 8)),(.d .str)] [] [(.d (.sl .str)),(.d (.int .i64))] [] true ykr (R:=(List (List UInt8))×Int) (λx=>(x.1,x.2.1)) (λr=>(r.1,r.2,())) (λn x=>zbq n x.1 x.2.1)
 (λn=>[(0,⟨⟨[(8,(.own 0)),(7,(.map 1)),(9,(.d (.int .i64))),(2,(.ptr 2 0))],[(.acc 9 .str true),(.mp 55 .bool),(.st 8)],0,65⟩,λx=>z5q n x.1 x.2.1 x.2.2.1 x.2.2.2.1 x.2.2.2.2.1⟩),(1,⟨⟨[(44,(.d (.int .i64))),(8,(.own 0)),(7,(.map 1)),(42,(.d (.sl (.st 9)))),(2,(.ptr 2 0)),(9,(.d (.int .i64))),(43,(.d (.int .i64)))],[(.acc 9 .str true),(.mp 55 .bool),(.st 8)],0,65⟩,λx=>z5r n x.1 x.2.1 x.2.2.1 x.2.2.2.1 x.2.2.2.2.1 x.2.2.2.2.2.1 x.2.2.2.2.2.2.1 x.2.2.2.2.2.2.2.1⟩),(2,⟨⟨[(8,(.own 0)),(7,(.map 1)),(42,(.d (.sl (.st 9)))),(2,(.ptr 2 0)),(9,(.d (.int .i64))),(43,(.d (.int .i64))),(44,(.d (.int .i64)))],[(.acc 9 .str true),(.mp 55 .bool),(.st 8)],0,65⟩,λx=>z9n n x.1 x.2.1 x.2.2.1 x.2.2.2.1 x.2.2.2.2.1 x.2.2.2.2.2.1 x.2.2.2.2.2.2.1 x.2.2.2.2.2.2.2.1⟩)]) (ann [(28,0),(40,1),(58,2)] (Tryz.f21.body.getD .skip) 0).1
noncomputable def yhn:List (FI dat):=[z2d,zdm,zq0,zds]
theorem yk2:(zk2).Good Tryz.prog dat (tb yhn):=FI.yz4 (hD:=zz2 _) Tryz.func21 Tryz.ntmps21 Tryz.call21 (by kernel_rfl) (of_decide_eq_true (by kernel_rfl)) (by kernel_rfl) (λn=>by kernel_rfl) (λx=>by kernel_rfl) (λ_=>rfl) ⟨λ_=>rfl,λ_=>rfl,λ_=>rfl,trivial⟩
 (λn=>λx=>(zbq.eq_2 x.1 x.2.1 n).trans (by kernel_rfl))
 (λn=>⟨λx=>(z5q.eq_2 x.1 x.2.1 x.2.2.1 x.2.2.2.1 x.2.2.2.2.1 n).trans (by kernel_rfl),
  λx=>(z5r.eq_2 x.1 x.2.1 x.2.2.1 x.2.2.2.1 x.2.2.2.2.1 x.2.2.2.2.2.1 x.2.2.2.2.2.2.1 x.2.2.2.2.2.2.2.1 n).trans (by kernel_rfl),
  λx=>(z9n.eq_2 x.1 x.2.1 x.2.2.1 x.2.2.2.1 x.2.2.2.2.1 x.2.2.2.2.2.1 x.2.2.2.2.2.2.1 x.2.2.2.2.2.2.2.1 n).trans (by kernel_rfl),
  trivial⟩)
 (λx=>.inl rfl)
theorem ylv:OkL Tryz.prog [zk2]:=zz6 (zz2 _) (bs:=[z2d,zdm,zq0,zds]) ⟨zfs,zyd,yvz,zyj,trivial⟩ yk2
theorem yd8:FOk Tryz.prog zk2:=ylv.1
def z7v:Nat->(List UInt8)->(List (List UInt8))->(List Bool)->Option (Bool×(List (List UInt8))×(List Bool))
 |0,_,_,_=>none
 |n+1,a0,a1,a2 =>
  some ((Option.getD (z3k (List.zip a1 a2) a0) false),(mks (List.zip a1 a2)),(mvs (List.zip a1 a2)))
def y3w:LSh:=⟨[(3,(.d .bool))],[(.cells [(.map 1)]),(.mp 55 .bool)],2,7⟩
noncomputable def zco:FI dat:=FI.of dat 23 7 2 [(.d .str),(.ptr 0 0)] [(.cells [(.map 1)]),(.mp 55 .bool)] [(.d .bool)] [(.cells [(.map 1)]),(.mp 55 .bool)] false y3w (R:=Bool×(List (List UInt8))×(List Bool)) (λx=>(x.1,x.2.1,x.2.2.1)) (λr=>(r.1,r.2.1,r.2.2,())) (λn x=>z7v n x.1 x.2.1 x.2.2.1)
 (λn=>[]) (ann [] (Tryz.f23.body.getD .skip) 0).1
noncomputable def y3v:List (FI dat):=[]
theorem y4z:(zco).Good Tryz.prog dat (tb y3v):=FI.yz4 (hD:=zz2 _) Tryz.func23 Tryz.ntmps23 Tryz.call23 (by kernel_rfl) (of_decide_eq_true (by kernel_rfl)) (by kernel_rfl) (λn=>by kernel_rfl) (λx=>by kernel_rfl) (λ_=>rfl) trivial
 (λn=>λx=>(z7v.eq_2 x.1 x.2.1 x.2.2.1 n).trans (by kernel_rfl))
 (λn=>trivial)
 (λx=>.inr (by kernel_rfl))
theorem y3u:OkL Tryz.prog [zco]:=zz6 (zz2 _) (bs:=[]) trivial y4z
theorem y2s:FOk Tryz.prog zco:=y3u.1
end Go.Proofs.YtahcjggdcmgpkaaGreat
namespace Go.Proofs.YtahcjggdcmgpkaaGreat
open Go Go.Ab
set_option linter.unusedVariables false
set_option maxRecDepth 100000
set_option maxHeartbeats 4000000
mutual
def z0g:Nat->(List (List UInt8))->(List (List UInt8))->(List Bool)->Option (Int×(List (List UInt8))×(List Bool))
 |0,_,_,_=>none
 |n+1,a0,a1,a2 =>
  zzi n 0 a0 (a0.length:Int) (mks (List.zip a1 a2)) (mvs (List.zip a1 a2))
def zzi:Nat->Int->(List (List UInt8))->Int->(List (List UInt8))->(List Bool)->Option (Int×(List (List UInt8))×(List Bool))
 |0,_,_,_,_,_=>none
 |n+1,a0,a1,a2,a3,a4 =>
  pIf (decide (a0<a2))
   ((ix a1 a0).bind λx0 =>
   (z7v n x0 (mks (List.zip a3 a4)) (mvs (List.zip a3 a4))).bind λy1 =>
   pIf y1.1
    (some (a0,(mks (List.zip y1.2.1 y1.2.2)),(mvs (List.zip y1.2.1 y1.2.2))))
    (zzi n (IntKind.i64.wrap (a0+1)) a1 a2 (mks (List.zip y1.2.1 y1.2.2)) (mvs (List.zip y1.2.1 y1.2.2))))
   (some ((-1),(mks (List.zip a3 a4)),(mvs (List.zip a3 a4))))
end
def zml:LSh:=⟨[(4,(.d (.int .i64)))],[(.cells [(.map 1)]),(.mp 55 .bool)],2,19⟩
noncomputable def z0p:FI dat:=FI.of dat 52 19 2 [(.d (.sl .str)),(.fn 23 [] [(.ptr 0 0)])] [(.cells [(.map 1)]),(.mp 55 .bool)] [(.d (.int .i64))] [(.cells [(.map 1)]),(.mp 55 .bool)] false zml (R:=Int×(List (List UInt8))×(List Bool)) (λx=>(x.1,x.2.1,x.2.2.1)) (λr=>(r.1,r.2.1,r.2.2,())) (λn x=>z0g n x.1 x.2.1 x.2.2.1)
 (λn=>[(0,⟨⟨[(8,(.d (.int .i64))),(0,(.d (.sl .str))),(1,(.fn 23 [] [(.ptr 0 0)])),(7,(.d (.int .i64)))],[(.cells [(.map 1)]),(.mp 55 .bool)],2,19⟩,λx=>zzi n x.1 x.2.1 x.2.2.1 x.2.2.2.1 x.2.2.2.2.1⟩)]) (ann [(6,0)] (Tryz.f52.body.getD .skip) 0).1
noncomputable def zmq:List (FI dat):=[zco]
theorem zmf:(z0p).Good Tryz.prog dat (tb zmq):=FI.yz4 (hD:=zz2 _) Tryz.func52 Tryz.ntmps52 Tryz.call52 (by kernel_rfl) (of_decide_eq_true (by kernel_rfl)) (by kernel_rfl) (λn=>by kernel_rfl) (λx=>by kernel_rfl) (λ_=>rfl) ⟨λ_=>rfl,trivial⟩
 (λn=>λx=>(z0g.eq_2 x.1 x.2.1 x.2.2.1 n).trans (by kernel_rfl))
 (λn=>⟨λx=>(zzi.eq_2 x.1 x.2.1 x.2.2.1 x.2.2.2.1 x.2.2.2.2.1 n).trans (by kernel_rfl),
  trivial⟩)
 (λx=>.inr (by kernel_rfl))
theorem zmu:OkL Tryz.prog [z0p]:=zz6 (zz2 _) (bs:=[zco]) ⟨y2s,trivial⟩ zmf
theorem zlp:FOk Tryz.prog z0p:=zmu.1
def kzp:Nat->(List (List UInt8))->(List (List UInt8))->(List Bool)->Option (Bool×(List (List UInt8))×(List Bool))
 |0,_,_,_=>none
 |n+1,a0,a1,a2 =>
  (z0g n a0 (mks (List.zip a1 a2)) (mvs (List.zip a1 a2))).bind λy0 =>
  some ((decide (y0.1>=0)),(mks (List.zip y0.2.1 y0.2.2)),(mvs (List.zip y0.2.1 y0.2.2)))
def zkd:LSh:=⟨[(4,(.d .bool))],[(.cells [(.map 1)]),(.mp 55 .bool)],2,9⟩
noncomputable def z07:FI dat:=FI.of dat 22 9 2 [(.d (.sl .str)),(.fn 23 [] [(.ptr 0 0)])] [(.cells [(.map 1)]),(.mp 55 .bool)] [(.d .bool)] [(.cells [(.map 1)]),(.mp 55 .bool)] false zkd (R:=Bool×(List (List UInt8))×(List Bool)) (λx=>(x.1,x.2.1,x.2.2.1)) (λr=>(r.1,r.2.1,r.2.2,())) (λn x=>kzp n x.1 x.2.1 x.2.2.1)
 (λn=>[]) (ann [] (Tryz.f22.body.getD .skip) 0).1
noncomputable def zk8:List (FI dat):=[z0p]
theorem zjt:(z07).Good Tryz.prog dat (tb zk8):=FI.yz4 (hD:=zz2 _) Tryz.func22 Tryz.ntmps22 Tryz.call22 (by kernel_rfl) (of_decide_eq_true (by kernel_rfl)) (by kernel_rfl) (λn=>by kernel_rfl) (λx=>by kernel_rfl) (λ_=>rfl) trivial
 (λn=>λx=>(kzp.eq_2 x.1 x.2.1 x.2.2.1 n).trans (by kernel_rfl))
 (λn=>trivial)
 (λx=>.inr (by kernel_rfl))
theorem zjy:OkL Tryz.prog [z07]:=zz6 (zz2 _) (bs:=[z0p]) ⟨zlp,trivial⟩ zjt
theorem zjc:FOk Tryz.prog z07:=zjy.1
mutual
noncomputable def z8a:Nat->zz0->zz0->Option (Res ((List UInt8)×Unit) ((List (List UInt8))×Int))
 |0,_,_=>none
 |n+1,a0,a1 =>
  (zcp n a0 a1).bind λy0 =>
  pIf (y0 != 0)
   (some (Res.ok ([],y0)))
   ((za0 n a0 a1).bind λy1 =>
   y5u y1 (λr2 =>
    z1w n 0 a1.rules (a1.rules.length:Int) [] [] a1 (mks (List.zip r2.1 r2.2)) (mvs (List.zip r2.1 r2.2)))
    (λe3 =>
    some (Res.pan (e3.1,()))))
noncomputable def z1w:Nat->Int->(List kz4)->Int->(List (List UInt8))->(List Bool)->zz0->(List (List UInt8))->(List Bool)->Option (Res ((List UInt8)×Unit) ((List (List UInt8))×Int))
 |0,_,_,_,_,_,_,_,_=>none
 |n+1,a0,a1,a2,a3,a4,a5,a6,a7 =>
  pIf (decide (a0<a2))
   ((ix a1 a0).bind λx4 =>
   (zbq n a5 x4.name).bind λy5 =>
   (kzp n y5.1 (mks (List.zip a6 a7)) (mvs (List.zip a6 a7))).bind λy6 =>
   pIf y6.1
    (z7c n a1 a2 a0 (mks (z90 (List.zip a3 a4) x4.name true)) (mvs (z90 (List.zip a3 a4) x4.name true)) a5 (mks (List.zip y6.2.1 y6.2.2)) (mvs (List.zip y6.2.1 y6.2.2)))
    (z7c n a1 a2 a0 (mks (List.zip a3 a4)) (mvs (List.zip a3 a4)) a5 (mks (List.zip y6.2.1 y6.2.2)) (mvs (List.zip y6.2.1 y6.2.2))))
   ((zc1 n (mks (List.zip a3 a4)) (mvs (List.zip a3 a4))).bind λy7 =>
   some (Res.ok (y7.1,0)))
noncomputable def z7c:Nat->(List kz4)->Int->Int->(List (List UInt8))->(List Bool)->zz0->(List (List UInt8))->(List Bool)->Option (Res ((List UInt8)×Unit) ((List (List UInt8))×Int))
 |0,_,_,_,_,_,_,_,_=>none
 |n+1,a0,a1,a2,a3,a4,a5,a6,a7 =>
  z1w n (IntKind.i64.wrap (a2+1)) a0 a1 (mks (List.zip a3 a4)) (mvs (List.zip a3 a4)) a5 (mks (List.zip a6 a7)) (mvs (List.zip a6 a7))
end
def y97:LSh:=⟨[(4,(.d (.sl .str))),(5,(.d (.int .i64)))],[],0,46⟩
noncomputable def zfw:FI dat:=FI.ofP dat 9 46 0 [(.d (.st 8)),(.d (.st 8))] [] [(.d (.sl .str)),(.d (.int .i64))] [] (.iface 9 (.d .str)) [] [] y97 (R:=(List (List UInt8))×Int) (λx=>(x.1,x.2.1)) (λr=>(r.1,r.2,())) (λn x=>z8a n x.1 x.2.1)
 (λn=>[(0,⟨⟨[(26,(.d (.int .i64))),(8,(.map 0)),(7,(.ptr 1 0)),(3,(.ptr 2 0)),(24,(.d (.sl (.st 7)))),(25,(.d (.int .i64)))],[(.mp 55 .bool),(.cells [(.map 3)]),(.st 8),(.mp 55 .bool)],0,46⟩,λx=>z1w n x.1 x.2.1 x.2.2.1 x.2.2.2.1 x.2.2.2.2.1 x.2.2.2.2.2.1 x.2.2.2.2.2.2.1 x.2.2.2.2.2.2.2.1⟩),(1,⟨⟨[(8,(.map 0)),(7,(.ptr 1 0)),(3,(.ptr 2 0)),(24,(.d (.sl (.st 7)))),(25,(.d (.int .i64))),(26,(.d (.int .i64)))],[(.mp 55 .bool),(.cells [(.map 3)]),(.st 8),(.mp 55 .bool)],0,46⟩,λx=>z7c n x.1 x.2.1 x.2.2.1 x.2.2.2.1 x.2.2.2.2.1 x.2.2.2.2.2.1 x.2.2.2.2.2.2.1 x.2.2.2.2.2.2.2.1⟩)]) (ann [(20,0),(38,1)] (Tryz.f9.body.getD .skip) 0).1
noncomputable def y9j:List (FI dat):=[zc4,z07,zda,zd2,zk2]
theorem yaw:(zfw).Good Tryz.prog dat (tb y9j):=FI.zo4 (hD:=zz2 _) Tryz.func9 Tryz.ntmps9 Tryz.call9 (by kernel_rfl) (of_decide_eq_true (by kernel_rfl)) (by kernel_rfl) (λn=>by kernel_rfl) trivial (λx=>by kernel_rfl) (λ_=>rfl) ⟨λ_=>rfl,λ_=>rfl,trivial⟩
 (λn=>λx=>(z8a.eq_2 x.1 x.2.1 n).trans (by kernel_rfl))
 (λn=>⟨λx=>(z1w.eq_2 x.1 x.2.1 x.2.2.1 x.2.2.2.1 x.2.2.2.2.1 x.2.2.2.2.2.1 x.2.2.2.2.2.2.1 x.2.2.2.2.2.2.2.1 n).trans (by kernel_rfl),
  λx=>(z7c.eq_2 x.1 x.2.1 x.2.2.1 x.2.2.2.1 x.2.2.2.2.1 x.2.2.2.2.2.1 x.2.2.2.2.2.2.1 x.2.2.2.2.2.2.2.1 n).trans (by kernel_rfl),
  trivial⟩)
 (λx=>by kernel_rfl)
theorem y90:OkL Tryz.prog [zfw]:=zz6 (zz2 _) (bs:=[zc4,z07,zda,zd2,zk2]) ⟨zx2,zjc,zrb,zwr,yd8,trivial⟩ yaw
theorem y6k:FOk Tryz.prog zfw:=y90.1
mutual
def zak:Nat->(List UInt8)->(List (List UInt8))->Option (List (List UInt8))
 |0,_,_=>none
 |n+1,a0,a1 =>
  z2n n 0 a0 a1
def z2n:Nat->Int->(List UInt8)->(List (List UInt8))->Option (List (List UInt8))
 |0,_,_,_=>none
 |n+1,a0,a1,a2 =>
  pIf (decide (a0<(a2.length:Int)))
   ((ix a2 a0).bind λx0 =>
   z4z n a1 a0 (Op.bytesLess x0 a1) a2)
   (z4z n a1 a0 false a2)
def z4z:Nat->(List UInt8)->Int->Bool->(List (List UInt8))->Option (List (List UInt8))
 |0,_,_,_,_=>none
 |n+1,a0,a1,a2,a3 =>
  pIf a2
   (z2n n (IntKind.i64.wrap (a1+1)) a0 a3)
   (pIf (decide (a1<(a3.length:Int)))
     ((ix a3 a1).bind λx1 =>
     z4p n a0 a1 (x1==a0) a3)
     (z4p n a0 a1 false a3))
def z4p:Nat->(List UInt8)->Int->Bool->(List (List UInt8))->Option (List (List UInt8))
 |0,_,_,_,_=>none
 |n+1,a0,a1,a2,a3 =>
  pIf a2
   (some a3)
   ((ext a3 [[]]).bind λx2 =>
   (y49 x2 (IntKind.i64.wrap (a1+1))).bind λx3 =>
   (y49 x2 a1).bind λx4 =>
   (zys x2 (IntKind.i64.wrap (a1+1)) a1).bind λx5 =>
   (ix x5 a1).bind λx6 =>
   some (x5.set (Int.toNat a1) a0))
end
def ye2:LSh:=⟨[(4,(.own 0))],[(.acc 9 .str true)],0,49⟩
noncomputable def zhr:FI dat:=FI.of dat 54 49 0 [(.own 0),(.d .str)] [(.acc 9 .str true)] [(.own 0)] [(.acc 9 .str true)] false ye2 (R:=List (List UInt8)) (λx=>x.1) (λr=>(r,())) (λn x=>zak n x.1 x.2.1)
 (λn=>[(0,⟨⟨[(5,(.d (.int .i64))),(0,(.own 0)),(1,(.d .str))],[(.acc 9 .str true)],0,49⟩,λx=>z2n n x.1 x.2.1 x.2.2.1⟩),(1,⟨⟨[(0,(.own 0)),(1,(.d .str)),(5,(.d (.int .i64))),(17,(.d .bool))],[(.acc 9 .str true)],0,49⟩,λx=>z4z n x.1 x.2.1 x.2.2.1 x.2.2.2.1⟩),(2,⟨⟨[(0,(.own 0)),(1,(.d .str)),(5,(.d (.int .i64))),(31,(.d .bool))],[(.acc 9 .str true)],0,49⟩,λx=>z4p n x.1 x.2.1 x.2.2.1 x.2.2.2.1⟩)]) (ann [(6,0),(10,1),(18,2)] (Tryz.f54.body.getD .skip) 0).1
noncomputable def ygt:List (FI dat):=[]
theorem ybs:(zhr).Good Tryz.prog dat (tb ygt):=FI.yz4 (hD:=zz2 _) Tryz.func54 Tryz.ntmps54 Tryz.call54 (by kernel_rfl) (of_decide_eq_true (by kernel_rfl)) (by kernel_rfl) (λn=>by kernel_rfl) (λx=>by kernel_rfl) (λ_=>rfl) ⟨λ_=>rfl,λ_=>rfl,λ_=>rfl,trivial⟩
 (λn=>λx=>(zak.eq_2 x.1 x.2.1 n).trans (by kernel_rfl))
 (λn=>⟨λx=>(z2n.eq_2 x.1 x.2.1 x.2.2.1 n).trans (by kernel_rfl),
  λx=>(z4z.eq_2 x.1 x.2.1 x.2.2.1 x.2.2.2.1 n).trans (by kernel_rfl),
  λx=>(z4p.eq_2 x.1 x.2.1 x.2.2.1 x.2.2.2.1 n).trans (by kernel_rfl),
  trivial⟩)
 (λx=>.inr (by kernel_rfl))
theorem yg1:OkL Tryz.prog [zhr]:=zz6 (zz2 _) (bs:=[]) trivial ybs
theorem ya4:FOk Tryz.prog zhr:=yg1.1
mutual
def zbw:Nat->zz0->(List UInt8)->Option ((List (List UInt8))×Int)
 |0,_,_=>none
 |n+1,a0,a1 =>
  (z4c n a0).bind λy0 =>
  pIf (y0 != 0)
   ((z4c n a0).bind λy1 =>
   some ([],y1))
   ((z11 n a0).bind λy2 =>
   (z44 n y2 a1).bind λy3 =>
   pIf (decide (y3<0))
    (some ([],6))
    (z5y n true [a1] a0))
def z5y:Nat->Bool->(List (List UInt8))->zz0->Option ((List (List UInt8))×Int)
 |0,_,_,_=>none
 |n+1,a0,a1,a2 =>
  pIf a0
   (z62 n 0 false a1 a2)
   (some (a1,0))
def z62:Nat->Int->Bool->(List (List UInt8))->zz0->Option ((List (List UInt8))×Int)
 |0,_,_,_,_=>none
 |n+1,a0,a1,a2,a3 =>
  pIf (decide (a0<(a3.rules.length:Int)))
   ((ix a3.rules a0).bind λx4 =>
   (z47 n x4.name a2).bind λy5 =>
   pIf (decide (y5.1<0))
    (z5t n a1 a0 y5.2 a3)
    ((ix a3.rules a0).bind λx6 =>
    (zbc n x6).bind λy7 =>
    z66 n 0 y7 a1 a0 y5.2 a3))
   (z5y n a1 a2 a3)
def z66:Nat->Int->(List z0q)->Bool->Int->(List (List UInt8))->zz0->Option ((List (List UInt8))×Int)
 |0,_,_,_,_,_,_=>none
 |n+1,a0,a1,a2,a3,a4,a5 =>
  pIf (decide (a0<(a1.length:Int)))
   ((ix a1 a0).bind λx8 =>
   (z47 n x8.name a4).bind λy9 =>
   pIf (decide (y9.1<0))
    ((ix a1 a0).bind λx10 =>
    (zak n x10.name y9.2).bind λy11 =>
    z9s n a1 true a3 a0 y11 a5)
    (z9s n a1 a2 a3 a0 y9.2 a5))
   (z5t n a2 a3 a4 a5)
def z9s:Nat->(List z0q)->Bool->Int->Int->(List (List UInt8))->zz0->Option ((List (List UInt8))×Int)
 |0,_,_,_,_,_,_=>none
 |n+1,a0,a1,a2,a3,a4,a5 =>
  z66 n (IntKind.i64.wrap (a3+1)) a0 a1 a2 a4 a5
def z5t:Nat->Bool->Int->(List (List UInt8))->zz0->Option ((List (List UInt8))×Int)
 |0,_,_,_,_=>none
 |n+1,a0,a1,a2,a3 =>
  z62 n (IntKind.i64.wrap (a1+1)) a0 a2 a3
end
def yjs:LSh:=⟨[(4,(.d (.sl .str))),(5,(.d (.int .i64)))],[],0,68⟩
noncomputable def zjp:FI dat:=FI.of dat 25 68 0 [(.d (.st 8)),(.d .str)] [] [(.d (.sl .str)),(.d (.int .i64))] [] true yjs (R:=(List (List UInt8))×Int) (λx=>(x.1,x.2.1)) (λr=>(r.1,r.2,())) (λn x=>zbw n x.1 x.2.1)
 (λn=>[(0,⟨⟨[(6,(.own 0)),(2,(.ptr 1 0)),(7,(.d .bool))],[(.acc 9 .str true),(.st 8)],0,68⟩,λx=>z5y n x.1 x.2.1 x.2.2.1⟩),(1,⟨⟨[(8,(.d (.int .i64))),(6,(.own 0)),(2,(.ptr 1 0)),(7,(.d .bool))],[(.acc 9 .str true),(.st 8)],0,68⟩,λx=>z62 n x.1 x.2.1 x.2.2.1 x.2.2.2.1⟩),(2,⟨⟨[(10,(.d (.int .i64))),(9,(.d (.sl (.st 10)))),(6,(.own 0)),(2,(.ptr 1 0)),(7,(.d .bool)),(8,(.d (.int .i64)))],[(.acc 9 .str true),(.st 8)],0,68⟩,λx=>z66 n x.1 x.2.1 x.2.2.1 x.2.2.2.1 x.2.2.2.2.1 x.2.2.2.2.2.1⟩),(3,⟨⟨[(9,(.d (.sl (.st 10)))),(6,(.own 0)),(2,(.ptr 1 0)),(7,(.d .bool)),(8,(.d (.int .i64))),(10,(.d (.int .i64)))],[(.acc 9 .str true),(.st 8)],0,68⟩,λx=>z9s n x.1 x.2.1 x.2.2.1 x.2.2.2.1 x.2.2.2.2.1 x.2.2.2.2.2.1⟩),(4,⟨⟨[(6,(.own 0)),(2,(.ptr 1 0)),(7,(.d .bool)),(8,(.d (.int .i64)))],[(.acc 9 .str true),(.st 8)],0,68⟩,λx=>z5t n x.1 x.2.1 x.2.2.1 x.2.2.2.1⟩)]) (ann [(24,0),(37,1),(57,2),(73,3),(74,4)] (Tryz.f25.body.getD .skip) 0).1
noncomputable def yhs:List (FI dat):=[zdt,zhr,zde,z05,z0s,zb0]
theorem ylt:(zjp).Good Tryz.prog dat (tb yhs):=FI.yz4 (hD:=zz2 _) Tryz.func25 Tryz.ntmps25 Tryz.call25 (by kernel_rfl) (of_decide_eq_true (by kernel_rfl)) (by kernel_rfl) (λn=>by kernel_rfl) (λx=>by kernel_rfl) (λ_=>rfl) ⟨λ_=>rfl,λ_=>rfl,λ_=>rfl,λ_=>rfl,λ_=>rfl,trivial⟩
 (λn=>λx=>(zbw.eq_2 x.1 x.2.1 n).trans (by kernel_rfl))
 (λn=>⟨λx=>(z5y.eq_2 x.1 x.2.1 x.2.2.1 n).trans (by kernel_rfl),
  λx=>(z62.eq_2 x.1 x.2.1 x.2.2.1 x.2.2.2.1 n).trans (by kernel_rfl),
  λx=>(z66.eq_2 x.1 x.2.1 x.2.2.1 x.2.2.2.1 x.2.2.2.2.1 x.2.2.2.2.2.1 n).trans (by kernel_rfl),
  λx=>(z9s.eq_2 x.1 x.2.1 x.2.2.1 x.2.2.2.1 x.2.2.2.2.1 x.2.2.2.2.2.1 n).trans (by kernel_rfl),
  λx=>(z5t.eq_2 x.1 x.2.1 x.2.2.1 x.2.2.2.1 n).trans (by kernel_rfl),
  trivial⟩)
 (λx=>.inl rfl)
theorem yjh:OkL Tryz.prog [zjp]:=zz6 (zz2 _) (bs:=[zdt,zhr,zde,z05,z0s,zb0]) ⟨zyk,ya4,zyq,zbx,zcv,ztu,trivial⟩ ylt
theorem yc6:FOk Tryz.prog zjp:=yjh.1
mutual
def z6l:Nat->zz0->zz0->Option ((List (List UInt8))×Int)
 |0,_,_=>none
 |n+1,a0,a1 =>
  (z48 n a0 a1).bind λy0 =>
  pIf (y0 != 0)
   ((z48 n a0 a1).bind λy1 =>
   some ([],y1))
   ((z88 n a0 a1).bind λy2 =>
   (z11 n a1).bind λy3 =>
   z1d n 0 y3 [] y2 a1)
def z1d:Nat->Int->(List (List UInt8))->(List (List UInt8))->(List (List UInt8))->zz0->Option ((List (List UInt8))×Int)
 |0,_,_,_,_,_=>none
 |n+1,a0,a1,a2,a3,a4 =>
  pIf (decide (a0<(a1.length:Int)))
   ((ix a1 a0).bind λx4 =>
   (zbw n a4 x4).bind λy5 =>
   z2s n 0 a0 a1 a2 y5.1 a3 a4)
   (some (a2,0))
def z2s:Nat->Int->Int->(List (List UInt8))->(List (List UInt8))->(List (List UInt8))->(List (List UInt8))->zz0->Option ((List (List UInt8))×Int)
 |0,_,_,_,_,_,_,_=>none
 |n+1,a0,a1,a2,a3,a4,a5,a6 =>
  pIf (decide (a0<(a4.length:Int)))
   ((ix a4 a0).bind λx6 =>
   (z44 n a5 x6).bind λy7 =>
   pIf (decide (y7>=0))
    ((ix a2 a1).bind λx8 =>
    (zcs n a3 x8).bind λy9 =>
    z5h n a1 a2 y9 a4 a5 a0 a6)
    (z5h n a1 a2 a3 a4 a5 a0 a6))
   (z1d n (IntKind.i64.wrap (a1+1)) a2 a3 a5 a6)
def z5h:Nat->Int->(List (List UInt8))->(List (List UInt8))->(List (List UInt8))->(List (List UInt8))->Int->zz0->Option ((List (List UInt8))×Int)
 |0,_,_,_,_,_,_,_=>none
 |n+1,a0,a1,a2,a3,a4,a5,a6 =>
  z2s n (IntKind.i64.wrap (a5+1)) a0 a1 a2 a3 a4 a6
end
def y7g:LSh:=⟨[(4,(.d (.sl .str))),(5,(.d (.int .i64)))],[],0,60⟩
noncomputable def zek:FI dat:=FI.of dat 10 60 0 [(.d (.st 8)),(.d (.st 8))] [] [(.d (.sl .str)),(.d (.int .i64))] [] true y7g (R:=(List (List UInt8))×Int) (λx=>(x.1,x.2.1)) (λr=>(r.1,r.2,())) (λn x=>z6l n x.1 x.2.1)
 (λn=>[(0,⟨⟨[(9,(.d (.int .i64))),(8,(.d (.sl .str))),(7,(.d (.sl .str))),(6,(.d (.sl .str))),(3,(.ptr 0 0))],[(.st 8)],0,60⟩,λx=>z1d n x.1 x.2.1 x.2.2.1 x.2.2.2.1 x.2.2.2.2.1⟩),(1,⟨⟨[(12,(.d (.int .i64))),(9,(.d (.int .i64))),(8,(.d (.sl .str))),(7,(.d (.sl .str))),(10,(.d (.sl .str))),(6,(.d (.sl .str))),(3,(.ptr 0 0))],[(.st 8)],0,60⟩,λx=>z2s n x.1 x.2.1 x.2.2.1 x.2.2.2.1 x.2.2.2.2.1 x.2.2.2.2.2.1 x.2.2.2.2.2.2.1⟩),(2,⟨⟨[(9,(.d (.int .i64))),(8,(.d (.sl .str))),(7,(.d (.sl .str))),(10,(.d (.sl .str))),(6,(.d (.sl .str))),(3,(.ptr 0 0)),(12,(.d (.int .i64)))],[(.st 8)],0,60⟩,λx=>z5h n x.1 x.2.1 x.2.2.1 x.2.2.2.1 x.2.2.2.2.1 x.2.2.2.2.2.1 x.2.2.2.2.2.2.1⟩)]) (ann [(20,0),(34,1),(48,2)] (Tryz.f10.body.getD .skip) 0).1
noncomputable def y6p:List (FI dat):=[zb2,za5,z05,zjp,z0s,zcr]
theorem y5h:(zek).Good Tryz.prog dat (tb y6p):=FI.yz4 (hD:=zz2 _) Tryz.func10 Tryz.ntmps10 Tryz.call10 (by kernel_rfl) (of_decide_eq_true (by kernel_rfl)) (by kernel_rfl) (λn=>by kernel_rfl) (λx=>by kernel_rfl) (λ_=>rfl) ⟨λ_=>rfl,λ_=>rfl,λ_=>rfl,trivial⟩
 (λn=>λx=>(z6l.eq_2 x.1 x.2.1 n).trans (by kernel_rfl))
 (λn=>⟨λx=>(z1d.eq_2 x.1 x.2.1 x.2.2.1 x.2.2.2.1 x.2.2.2.2.1 n).trans (by kernel_rfl),
  λx=>(z2s.eq_2 x.1 x.2.1 x.2.2.1 x.2.2.2.1 x.2.2.2.2.1 x.2.2.2.2.2.1 x.2.2.2.2.2.2.1 n).trans (by kernel_rfl),
  λx=>(z5h.eq_2 x.1 x.2.1 x.2.2.1 x.2.2.2.1 x.2.2.2.2.1 x.2.2.2.2.2.1 x.2.2.2.2.2.2.1 n).trans (by kernel_rfl),
  trivial⟩)
 (λx=>.inl rfl)
theorem y7b:OkL Tryz.prog [zek]:=zz6 (zz2 _) (bs:=[zb2,za5,z05,zjp,z0s,zcr]) ⟨ztl,zvw,zbx,yc6,zcv,zwo,trivial⟩ y5h
theorem y3z:FOk Tryz.prog zek:=y7b.1
end Go.Proofs.YtahcjggdcmgpkaaGreat
namespace Go.Proofs.YtahcjggdcmgpkaaGreat
open Go Go.Ab
set_option linter.unusedVariables false
set_option maxRecDepth 100000
set_option maxHeartbeats 4000000
mutual
def z96:Nat->(List (List UInt8))->(List (List UInt8))->Option Bool
 |0,_,_=>none
 |n+1,a0,a1 =>
  pIf ((a0.length:Int) != (a1.length:Int))
   (some false)
   (z8c n 0 a1 a0)
def z8c:Nat->Int->(List (List UInt8))->(List (List UInt8))->Option Bool
 |0,_,_,_=>none
 |n+1,a0,a1,a2 =>
  pIf (decide (a0<(a2.length:Int)))
   ((ix a2 a0).bind λx0 =>
   (ix a1 a0).bind λx1 =>
   pIf (!(x0==x1))
    (some false)
    (z8c n (IntKind.i64.wrap (a0+1)) a1 a2))
   (some true)
end
def yqs:LSh:=⟨[(4,(.d .bool))],[],0,26⟩
noncomputable def zm4:FI dat:=FI.of dat 11 26 0 [(.d (.sl .str)),(.d (.sl .str))] [] [(.d .bool)] [] true yqs (R:=Bool) (λx=>x.1) (λr=>(r,())) (λn x=>z96 n x.1 x.2.1)
 (λn=>[(0,⟨⟨[(5,(.d (.int .i64))),(1,(.d (.sl .str))),(0,(.d (.sl .str)))],[],0,26⟩,λx=>z8c n x.1 x.2.1 x.2.2.1⟩)]) (ann [(14,0)] (Tryz.f11.body.getD .skip) 0).1
noncomputable def ysy:List (FI dat):=[]
theorem yrp:(zm4).Good Tryz.prog dat (tb ysy):=FI.yz4 (hD:=zz2 _) Tryz.func11 Tryz.ntmps11 Tryz.call11 (by kernel_rfl) (of_decide_eq_true (by kernel_rfl)) (by kernel_rfl) (λn=>by kernel_rfl) (λx=>by kernel_rfl) (λ_=>rfl) ⟨λ_=>rfl,trivial⟩
 (λn=>λx=>(z96.eq_2 x.1 x.2.1 n).trans (by kernel_rfl))
 (λn=>⟨λx=>(z8c.eq_2 x.1 x.2.1 x.2.2.1 n).trans (by kernel_rfl),
  trivial⟩)
 (λx=>.inl rfl)
theorem yqg:OkL Tryz.prog [zm4]:=zz6 (zz2 _) (bs:=[]) trivial yrp
theorem ylo:FOk Tryz.prog zm4:=yqg.1
mutual
noncomputable def z00:Nat->zz0->zz0->Option (Res ((List UInt8)×Unit) Bool)
 |0,_,_=>none
 |n+1,a0,a1 =>
  (zc2 n a0).bind λy0 =>
  pIf y0
   (zzs n true a1 a0)
   ((zc2 n a1).bind λy1 =>
   zzs n y1 a1 a0)
noncomputable def zzs:Nat->Bool->zz0->zz0->Option (Res ((List UInt8)×Unit) Bool)
 |0,_,_,_=>none
 |n+1,a0,a1,a2 =>
  pIf a0
   (some (Res.ok true))
   ((zdb n a2 a1).bind λy2 =>
   y5u y2 (λr3 =>
    (zbm n a2 a1).bind λy4 =>
    (zan n a2 a1).bind λy5 =>
    y5u y5 (λr6 =>
     (z8x n a2 a1).bind λy7 =>
     (z8a n a2 a1).bind λy8 =>
     y5u y8 (λr9 =>
      (z6l n a2 a1).bind λy10 =>
      (z96 n r3.1 y4.1).bind λy11 =>
      pIf y11
       (pIf (r3.2==y4.2)
         ((z96 n r6.1 y7.1).bind λy12 =>
         pIf y12
          (pIf (r6.2==y7.2)
            ((z96 n r9.1 y10.1).bind λy13 =>
            pIf y13
             (some (Res.ok (r9.2==y10.2)))
             (some (Res.ok false)))
            (some (Res.ok false)))
          (some (Res.ok false)))
         (some (Res.ok false)))
       (some (Res.ok false)))
      (λe14 =>
      some (Res.pan (e14.1,()))))
     (λe15 =>
     some (Res.pan (e15.1,()))))
    (λe16 =>
    some (Res.pan (e16.1,()))))
end
def zqx:LSh:=⟨[(4,(.d .bool))],[],0,87⟩
noncomputable def zc3:FI dat:=FI.ofP dat 3 87 0 [(.d (.st 8)),(.d (.st 8))] [] [(.d .bool)] [] (.iface 9 (.d .str)) [] [] zqx (R:=Bool) (λx=>x.1) (λr=>(r,())) (λn x=>z00 n x.1 x.2.1)
 (λn=>[(0,⟨⟨[(3,(.ptr 0 0)),(2,(.ptr 1 0)),(22,(.d .bool))],[(.st 8),(.st 8)],0,87⟩,λx=>zzs n x.1 x.2.1 x.2.2.1⟩)]) (ann [(5,0)] (Tryz.f3.body.getD .skip) 0).1
noncomputable def zq6:List (FI dat):=[zm9,zhc,zfw,zkl,zjs,zfp,zek,zm4]
theorem zqv:(zc3).Good Tryz.prog dat (tb zq6):=FI.zo4 (hD:=zz2 _) Tryz.func3 Tryz.ntmps3 Tryz.call3 (by kernel_rfl) (of_decide_eq_true (by kernel_rfl)) (by kernel_rfl) (λn=>by kernel_rfl) trivial (λx=>by kernel_rfl) (λ_=>rfl) ⟨λ_=>rfl,trivial⟩
 (λn=>λx=>(z00.eq_2 x.1 x.2.1 n).trans (by kernel_rfl))
 (λn=>⟨λx=>(zzs.eq_2 x.1 x.2.1 x.2.2.1 n).trans (by kernel_rfl),
  trivial⟩)
 (λx=>by kernel_rfl)
theorem zq8:OkL Tryz.prog [zc3]:=zz6 (zz2 _) (bs:=[zm9,zhc,zfw,zkl,zjs,zfp,zek,zm4]) ⟨ym3,y9u,y6k,ybp,yf3,y5m,y3z,ylo,trivial⟩ zqv
theorem zph:FOk Tryz.prog zc3:=zq8.1
theorem zpp (a0:zz0) (a1:zz0):VRL dat [] 0 [dat.tv (.st 8) a0,dat.tv (.st 8) a1] [dat.el (.st 8) a0,dat.el (.st 8) a1]:=by
 simp only [VRL]
 exact ⟨_,_,rfl,VR.tv (zz2 Tryz.prog) (DR.el _ _),⟨_,_,rfl,VR.tv (zz2 Tryz.prog) (DR.el _ _),rfl⟩⟩
theorem znw (n:Nat) (a0:zz0) (a1:zz0) (r:Bool) (h:z00 n a0 a1=some (Res.ok r)) (H:yz3):y2d Tryz.prog 3 [dat.el (.st 8) a0,dat.el (.st 8) a1] H λout _=>out = .ret (.bool r):=by
 rcases zph n _ (a0,a1,()) (λy=>some y.1) (λ_=>none) r (by show (z00 n a0 a1).bind (λr=>y5u r _ _)=some r;rw [h];rfl) with ⟨y,h1,h2⟩|⟨y,h1,h2⟩
 ·injection h1 with h1
  subst h1
  refine (h2 H.lv H.L H.E [] [dat.el (.st 8) a0,dat.el (.st 8) a1] rfl (zpp a0 a1) (λj o hm=>by cases hm) (λs s' sl sl' i q=>by simp at q)).mono λout H' hq => ?_
  obtain ⟨L',ρ',_,_,_,vs,e,hv⟩:=hq
  replace hv:VRL dat ρ' H.lv [TV.bool y.1] vs:=hv
  simp only [VRL,VR] at hv
  obtain ⟨v,r,rfl,rfl,rfl⟩:=hv
  exact e
 ·cases h1
end Go.Proofs.YtahcjggdcmgpkaaGreat
namespace Go.Proofs.Tryz
open Go Go.Ab
set_option linter.unusedSimpArgs false
@[simp] theorem yuz:Program.cellsOf Tryz.prog 2=1:=by kernel_rfl
@[simp] theorem z067:Program.cellsOf Tryz.prog 3=1:=by kernel_rfl
@[simp] theorem z062:Program.cellsOf Tryz.prog 4=1:=by kernel_rfl
@[simp] theorem zy1:Program.cellsOf Tryz.prog 5=1:=by kernel_rfl
@[simp] theorem zrh:Program.cellsOf Tryz.prog 9=1:=by kernel_rfl
@[simp] theorem z01t:Program.cellsOf Tryz.prog 22=1:=by kernel_rfl
@[simp] theorem z030:Program.cellsOf Tryz.prog 23=1:=by kernel_rfl
@[simp] theorem z027:Program.cellsOf Tryz.prog 25=2:=by kernel_rfl
@[simp] theorem z02j:Program.cellsOf Tryz.prog 27=1:=by kernel_rfl
@[simp] theorem ync:Program.cellsOf Tryz.prog 37=2:=by kernel_rfl
@[simp] theorem z02r:Program.cellsOf Tryz.prog 38=1:=by kernel_rfl
@[simp] theorem y5j:Program.cellsOf Tryz.prog 40=6:=by kernel_rfl
@[simp] theorem y73:Program.cellsOf Tryz.prog 41=1:=by kernel_rfl
@[simp] theorem zpt:Program.cellsOf Tryz.prog 43=9:=by kernel_rfl
@[simp] theorem yni:Program.cellsOf Tryz.prog 45=10:=by kernel_rfl
@[simp] theorem z02o:Program.cellsOf Tryz.prog 46=1:=by kernel_rfl
@[simp] theorem ymx:Program.cellsOf Tryz.prog 48=3:=by kernel_rfl
@[simp] theorem z01k:Program.cellsOf Tryz.prog 50=1:=by kernel_rfl
@[simp] theorem ynd:Program.cellsOf Tryz.prog 52=11:=by kernel_rfl
@[simp] theorem z02l:Program.cellsOf Tryz.prog 69=1:=by kernel_rfl
@[simp] theorem ymu:Program.cellsOf Tryz.prog 71=5:=by kernel_rfl
@[simp] theorem ymv:Program.cellsOf Tryz.prog 73=3:=by kernel_rfl
end Go.Proofs.Tryz
namespace Go.Proofs.Tryz
open Go Go.Ab
set_option linter.unusedSimpArgs false
theorem z073 (n:Nat):Reads Tryz.prog n 37 zz7.ty:=(zaz Tryz.underlying37 ync (λm hm=>(kzi rfl yuz (zlf Tryz.underlying2 m) (kzi rfl yuz (zlf Tryz.underlying2 m) zff)))).conv (λx=>(⟨x.1,x.2.1⟩:zz7)) (λx=>by show zz7.el _=_;rw [zz7.yz7];simp [Ty.struct,Ty.pair,Ty.unit,Ty.int,Ty.bool,Ty.str,Ty.slice,V.cells,zz7.ty,zz7.yz7,yz2.ty,yz2.yz7,zz1.ty,zz1.yz7,kz6.ty,kz6.yz7,yza.ty,yza.yz7,zz3.ty,zz3.yz7,kz5.ty,kz5.yz7,kz4.ty,kz4.yz7,zz0.ty,zz0.yz7]) rfl (λx h=>by simp only [zz7.ty];rw [zz7.z6u];simp only [Ty.struct,Ty.pair,Ty.unit,Ty.int,Ty.bool,Ty.str,Ty.slice,zz7.ty,yz2.ty,zz1.ty,kz6.ty,yza.ty,zz3.ty,kz5.ty,kz4.ty,zz0.ty] at h ⊢;simpa using h) (λx=>by simp only [Ty.struct,Ty.pair,Ty.unit,Ty.int,Ty.bool,Ty.str,Ty.slice,zz7.ty,yz2.ty,zz1.ty,kz6.ty,yza.ty,zz3.ty,kz5.ty,kz4.ty,zz0.ty];rw [zz7.size_eq];(try dsimp only);omega)
theorem z06u:∀n,Reads Tryz.prog n 40 yz2.ty:=λn=>by
 induction n using Nat.strongRecOn with
 |ind n ih=>exact (zaz Tryz.underlying40 y5j (λm hm=>(kzi rfl zy1 (zlf Tryz.underlying5 m) (kzi rfl ync (z073 m) (kzi rfl z062 (yxv Tryz.underlying4 m) (kzi rfl zrh (znq Tryz.underlying9 m) (kzi rfl z02r (zb8 Tryz.underlying38 y5j (by decide) (λk hk=>(ih k (by omega)))) zff))))))).conv (λx=>(⟨x.1,x.2.1,x.2.2.1,x.2.2.2.1,x.2.2.2.2.1⟩:yz2)) (λx=>by show yz2.el _=_;rw [yz2.yz7];simp [Ty.struct,Ty.pair,Ty.unit,Ty.int,Ty.bool,Ty.str,Ty.slice,V.cells,zz7.ty,zz7.yz7,yz2.ty,yz2.yz7,zz1.ty,zz1.yz7,kz6.ty,kz6.yz7,yza.ty,yza.yz7,zz3.ty,zz3.yz7,kz5.ty,kz5.yz7,kz4.ty,kz4.yz7,zz0.ty,zz0.yz7]) rfl (λx h=>by simp only [yz2.ty];rw [yz2.z6u];simp only [Ty.struct,Ty.pair,Ty.unit,Ty.int,Ty.bool,Ty.str,Ty.slice,zz7.ty,yz2.ty,zz1.ty,kz6.ty,yza.ty,zz3.ty,kz5.ty,kz4.ty,zz0.ty] at h ⊢;simpa using h) (λx=>by simp only [Ty.struct,Ty.pair,Ty.unit,Ty.int,Ty.bool,Ty.str,Ty.slice,zz7.ty,yz2.ty,zz1.ty,kz6.ty,yza.ty,zz3.ty,kz5.ty,kz4.ty,zz0.ty];rw [yz2.size_eq];(try dsimp only);omega)
theorem ybh:∀n,Reads Tryz.prog n 43 zz1.ty:=λn=>by
 induction n using Nat.strongRecOn with
 |ind n ih=>exact (zaz Tryz.underlying43 zpt (λm hm=>(kzi rfl zy1 (zlf Tryz.underlying5 m) (kzi rfl y5j (z06u m) (kzi rfl zrh (znq Tryz.underlying9 m) (kzi rfl y73 (zb8 Tryz.underlying41 zpt (by decide) (λk hk=>(ih k (by omega)))) zff)))))).conv (λx=>(⟨x.1,x.2.1,x.2.2.1,x.2.2.2.1⟩:zz1)) (λx=>by show zz1.el _=_;rw [zz1.yz7];simp [Ty.struct,Ty.pair,Ty.unit,Ty.int,Ty.bool,Ty.str,Ty.slice,V.cells,zz7.ty,zz7.yz7,yz2.ty,yz2.yz7,zz1.ty,zz1.yz7,kz6.ty,kz6.yz7,yza.ty,yza.yz7,zz3.ty,zz3.yz7,kz5.ty,kz5.yz7,kz4.ty,kz4.yz7,zz0.ty,zz0.yz7]) rfl (λx h=>by simp only [zz1.ty];rw [zz1.z6u];simp only [Ty.struct,Ty.pair,Ty.unit,Ty.int,Ty.bool,Ty.str,Ty.slice,zz7.ty,yz2.ty,zz1.ty,kz6.ty,yza.ty,zz3.ty,kz5.ty,kz4.ty,zz0.ty] at h ⊢;simpa using h) (λx=>by simp only [Ty.struct,Ty.pair,Ty.unit,Ty.int,Ty.bool,Ty.str,Ty.slice,zz7.ty,yz2.ty,zz1.ty,kz6.ty,yza.ty,zz3.ty,kz5.ty,kz4.ty,zz0.ty];rw [zz1.size_eq];(try dsimp only);omega)
theorem z06b (n:Nat):Reads Tryz.prog n 45 kz6.ty:=(zaz Tryz.underlying45 yni (λm hm=>(kzi rfl zrh (znq Tryz.underlying9 m) (kzi rfl zpt (ybh m) zff)))).conv (λx=>(⟨x.1,x.2.1⟩:kz6)) (λx=>by show kz6.el _=_;rw [kz6.yz7];simp [Ty.struct,Ty.pair,Ty.unit,Ty.int,Ty.bool,Ty.str,Ty.slice,V.cells,zz7.ty,zz7.yz7,yz2.ty,yz2.yz7,zz1.ty,zz1.yz7,kz6.ty,kz6.yz7,yza.ty,yza.yz7,zz3.ty,zz3.yz7,kz5.ty,kz5.yz7,kz4.ty,kz4.yz7,zz0.ty,zz0.yz7]) rfl (λx h=>by simp only [kz6.ty];rw [kz6.z6u];simp only [Ty.struct,Ty.pair,Ty.unit,Ty.int,Ty.bool,Ty.str,Ty.slice,zz7.ty,yz2.ty,zz1.ty,kz6.ty,yza.ty,zz3.ty,kz5.ty,kz4.ty,zz0.ty] at h ⊢;simpa using h) (λx=>by simp only [Ty.struct,Ty.pair,Ty.unit,Ty.int,Ty.bool,Ty.str,Ty.slice,zz7.ty,yz2.ty,zz1.ty,kz6.ty,yza.ty,zz3.ty,kz5.ty,kz4.ty,zz0.ty];rw [kz6.size_eq];(try dsimp only);omega)
theorem z06f (n:Nat):Reads Tryz.prog n 73 yza.ty:=(zaz Tryz.underlying73 ymv (λm hm=>(kzi rfl zy1 (zlf Tryz.underlying5 m) (kzi rfl zrh (znq Tryz.underlying9 m) (kzi rfl y73 (zb8 Tryz.underlying41 zpt (by decide) (λk hk=>(ybh k))) zff))))).conv (λx=>(⟨x.1,x.2.1,x.2.2.1⟩:yza)) (λx=>by show yza.el _=_;rw [yza.yz7];simp [Ty.struct,Ty.pair,Ty.unit,Ty.int,Ty.bool,Ty.str,Ty.slice,V.cells,zz7.ty,zz7.yz7,yz2.ty,yz2.yz7,zz1.ty,zz1.yz7,kz6.ty,kz6.yz7,yza.ty,yza.yz7,zz3.ty,zz3.yz7,kz5.ty,kz5.yz7,kz4.ty,kz4.yz7,zz0.ty,zz0.yz7]) rfl (λx h=>by simp only [yza.ty];rw [yza.z6u];simp only [Ty.struct,Ty.pair,Ty.unit,Ty.int,Ty.bool,Ty.str,Ty.slice,zz7.ty,yz2.ty,zz1.ty,kz6.ty,yza.ty,zz3.ty,kz5.ty,kz4.ty,zz0.ty] at h ⊢;simpa using h) (λx=>by simp only [Ty.struct,Ty.pair,Ty.unit,Ty.int,Ty.bool,Ty.str,Ty.slice,zz7.ty,yz2.ty,zz1.ty,kz6.ty,yza.ty,zz3.ty,kz5.ty,kz4.ty,zz0.ty];rw [yza.size_eq];(try dsimp only);omega)
theorem z06n (n:Nat):Reads Tryz.prog n 71 zz3.ty:=(zaz Tryz.underlying71 ymu (λm hm=>(kzi rfl zy1 (zlf Tryz.underlying5 m) (kzi rfl zy1 (zlf Tryz.underlying5 m) (kzi rfl zrh (znq Tryz.underlying9 m) (kzi rfl y73 (zb8 Tryz.underlying41 zpt (by decide) (λk hk=>(ybh k))) (kzi rfl z02l (zb8 Tryz.underlying69 ymv (by decide) (λk hk=>(z06f k))) zff))))))).conv (λx=>(⟨x.1,x.2.1,x.2.2.1,x.2.2.2.1,x.2.2.2.2.1⟩:zz3)) (λx=>by show zz3.el _=_;rw [zz3.yz7];simp [Ty.struct,Ty.pair,Ty.unit,Ty.int,Ty.bool,Ty.str,Ty.slice,V.cells,zz7.ty,zz7.yz7,yz2.ty,yz2.yz7,zz1.ty,zz1.yz7,kz6.ty,kz6.yz7,yza.ty,yza.yz7,zz3.ty,zz3.yz7,kz5.ty,kz5.yz7,kz4.ty,kz4.yz7,zz0.ty,zz0.yz7]) rfl (λx h=>by simp only [zz3.ty];rw [zz3.z6u];simp only [Ty.struct,Ty.pair,Ty.unit,Ty.int,Ty.bool,Ty.str,Ty.slice,zz7.ty,yz2.ty,zz1.ty,kz6.ty,yza.ty,zz3.ty,kz5.ty,kz4.ty,zz0.ty] at h ⊢;simpa using h) (λx=>by simp only [Ty.struct,Ty.pair,Ty.unit,Ty.int,Ty.bool,Ty.str,Ty.slice,zz7.ty,yz2.ty,zz1.ty,kz6.ty,yza.ty,zz3.ty,kz5.ty,kz4.ty,zz0.ty];rw [zz3.size_eq];(try dsimp only);omega)
theorem z06k (n:Nat):Reads Tryz.prog n 52 kz5.ty:=(zaz Tryz.underlying52 ynd (λm hm=>(kzi rfl z067 (zlf Tryz.underlying3 m) (kzi rfl zpt (ybh m) (kzi rfl z01k (zb8 Tryz.underlying50 ymu (by decide) (λk hk=>(z06n k))) zff))))).conv (λx=>(⟨x.1,x.2.1,x.2.2.1⟩:kz5)) (λx=>by show kz5.el _=_;rw [kz5.yz7];simp [Ty.struct,Ty.pair,Ty.unit,Ty.int,Ty.bool,Ty.str,Ty.slice,V.cells,zz7.ty,zz7.yz7,yz2.ty,yz2.yz7,zz1.ty,zz1.yz7,kz6.ty,kz6.yz7,yza.ty,yza.yz7,zz3.ty,zz3.yz7,kz5.ty,kz5.yz7,kz4.ty,kz4.yz7,zz0.ty,zz0.yz7]) rfl (λx h=>by simp only [kz5.ty];rw [kz5.z6u];simp only [Ty.struct,Ty.pair,Ty.unit,Ty.int,Ty.bool,Ty.str,Ty.slice,zz7.ty,yz2.ty,zz1.ty,kz6.ty,yza.ty,zz3.ty,kz5.ty,kz4.ty,zz0.ty] at h ⊢;simpa using h) (λx=>by simp only [Ty.struct,Ty.pair,Ty.unit,Ty.int,Ty.bool,Ty.str,Ty.slice,zz7.ty,yz2.ty,zz1.ty,kz6.ty,yza.ty,zz3.ty,kz5.ty,kz4.ty,zz0.ty];rw [kz5.size_eq];(try dsimp only);omega)
theorem z071 (n:Nat):Reads Tryz.prog n 48 kz4.ty:=(zaz Tryz.underlying48 ymx (λm hm=>(kzi rfl zrh (znq Tryz.underlying9 m) (kzi rfl z02j (zb8 Tryz.underlying27 zrh (by decide) (λk hk=>(znq Tryz.underlying9 k))) (kzi rfl z02o (zb8 Tryz.underlying46 ynd (by decide) (λk hk=>(z06k k))) zff))))).conv (λx=>(⟨x.1,x.2.1,x.2.2.1⟩:kz4)) (λx=>by show kz4.el _=_;rw [kz4.yz7];simp [Ty.struct,Ty.pair,Ty.unit,Ty.int,Ty.bool,Ty.str,Ty.slice,V.cells,zz7.ty,zz7.yz7,yz2.ty,yz2.yz7,zz1.ty,zz1.yz7,kz6.ty,kz6.yz7,yza.ty,yza.yz7,zz3.ty,zz3.yz7,kz5.ty,kz5.yz7,kz4.ty,kz4.yz7,zz0.ty,zz0.yz7]) rfl (λx h=>by simp only [kz4.ty];rw [kz4.z6u];simp only [Ty.struct,Ty.pair,Ty.unit,Ty.int,Ty.bool,Ty.str,Ty.slice,zz7.ty,yz2.ty,zz1.ty,kz6.ty,yza.ty,zz3.ty,kz5.ty,kz4.ty,zz0.ty] at h ⊢;simpa using h) (λx=>by simp only [Ty.struct,Ty.pair,Ty.unit,Ty.int,Ty.bool,Ty.str,Ty.slice,zz7.ty,yz2.ty,zz1.ty,kz6.ty,yza.ty,zz3.ty,kz5.ty,kz4.ty,zz0.ty];rw [kz4.size_eq];(try dsimp only);omega)
theorem z06r (n:Nat):Reads Tryz.prog n 25 zz0.ty:=(zaz Tryz.underlying25 z027 (λm hm=>(kzi rfl z01t (zb8 Tryz.underlying22 yni (by decide) (λk hk=>(z06b k))) (kzi rfl z030 (zb8 Tryz.underlying23 ymx (by decide) (λk hk=>(z071 k))) zff)))).conv (λx=>(⟨x.1,x.2.1⟩:zz0)) (λx=>by show zz0.el _=_;rw [zz0.yz7];simp [Ty.struct,Ty.pair,Ty.unit,Ty.int,Ty.bool,Ty.str,Ty.slice,V.cells,zz7.ty,zz7.yz7,yz2.ty,yz2.yz7,zz1.ty,zz1.yz7,kz6.ty,kz6.yz7,yza.ty,yza.yz7,zz3.ty,zz3.yz7,kz5.ty,kz5.yz7,kz4.ty,kz4.yz7,zz0.ty,zz0.yz7]) rfl (λx h=>by simp only [zz0.ty];rw [zz0.z6u];simp only [Ty.struct,Ty.pair,Ty.unit,Ty.int,Ty.bool,Ty.str,Ty.slice,zz7.ty,yz2.ty,zz1.ty,kz6.ty,yza.ty,zz3.ty,kz5.ty,kz4.ty,zz0.ty] at h ⊢;simpa using h) (λx=>by simp only [Ty.struct,Ty.pair,Ty.unit,Ty.int,Ty.bool,Ty.str,Ty.slice,zz7.ty,yz2.ty,zz1.ty,kz6.ty,yza.ty,zz3.ty,kz5.ty,kz4.ty,zz0.ty];rw [zz0.size_eq];(try dsimp only);omega)
theorem z076:z07i Tryz.prog 25 zz0.ty:=yxu Tryz.underlying25 z06r zz0.zpx
end Go.Proofs.Tryz
