/-
  Go functions as Lean functions, by a program of this repo.
-/
import Derived.Test.YtahcjggdcmgpkaaGreatOwn1
import Derived.Test.YtahcjggdcmgpkaaGreatLib2
import Derived.Test.YtahcjggdcmgpkaaGreatProg
import Derived.Test.YtahcjggdcmgpkaaGreatOwn0
namespace Go.Proofs.YtahcjggdcmgpkaaGreat
open Go Go.Ab
set_option linter.unusedVariables false
set_option maxRecDepth 100000
set_option maxHeartbeats 4000000
def zdu:Nat->zz0->(List UInt8)->Option (Bool×zz1)
 |0,_,_=>none
 |n+1,a0,a1 =>
  (z6p n a0).bind λy0 =>
  (z44 n y0 a1).bind λy1 =>
  pIf (decide (y1<0))
   (some (false,(zz1.mk 0 (yz2.mk 0 (kz6.mk 0 0) false [] []) [] [])))
   ((ix a0.attrs y1).bind λx2 =>
   some (true,x2.value.re))
def ype:LSh:=⟨[(4,(.ptr 0 0)),(5,(.d .bool))],[(.st 2)],0,20⟩
noncomputable def zm4:FI dat:=FI.of dat 39 20 0 [(.d (.st 8)),(.d .str)] [] [(.d (.st 2)),(.d .bool)] [] true ype (R:=Bool×zz1) (λx=>(x.1,x.2.1)) (λr=>(r.2,r.1,())) (λn x=>zdu n x.1 x.2.1)
 (λn=>[]) (ann [] (Tryz.f39.body.getD .skip) 0).1
noncomputable def ytg:List (FI dat):=[z94,z0r]
theorem yqd:(zm4).Good Tryz.prog dat (tb ytg):=FI.yz4 (hD:=zz2 _) Tryz.func39 Tryz.ntmps39 Tryz.call39 (by kernel_rfl) (of_decide_eq_true (by kernel_rfl)) (by kernel_rfl) (λn=>by kernel_rfl) (λx=>by kernel_rfl) (λ_=>rfl) trivial
 (λn=>λx=>(zdu.eq_2 x.1 x.2.1 n).trans (by kernel_rfl))
 (λn=>trivial)
 (λx=>.inl rfl)
theorem yob:OkL Tryz.prog [zm4]:=zz6 (zz2 _) (bs:=[z94,z0r]) ⟨zqy,zcr,trivial⟩ yqd
theorem yj2:FOk Tryz.prog zm4:=yob.1
mutual
def z5o:Nat->zz1->zz1->Option Bool
 |0,_,_=>none
 |n+1,a0,a1 =>
  pIf (a0.op != a1.op)
   (z35 n true a1.re a0.re)
   (pIf (!(a0.name==a1.name))
     (z35 n true a1.re a0.re)
     ((z4a n a0.value.re a1.value.re).bind λy0 =>
     pIf (!y0)
      (z35 n true a1.re a0.re)
      (z35 n ((a0.args.length:Int) != (a1.args.length:Int)) a1.re a0.re)))
def z35:Nat->Bool->zz1->zz1->Option Bool
 |0,_,_,_=>none
 |n+1,a0,a1,a2 =>
  pIf a0
   (some false)
   (z7r n 0 a1.re a2.re)
def z7r:Nat->Int->zz1->zz1->Option Bool
 |0,_,_,_=>none
 |n+1,a0,a1,a2 =>
  pIf (decide (a0<(a2.args.length:Int)))
   ((ix a2.args a0).bind λx1 =>
   (ix a1.args a0).bind λx2 =>
   (z5o n x1.re x2.re).bind λy3 =>
   pIf (!y3)
    (some false)
    (z7r n (IntKind.i64.wrap (a0+1)) a1.re a2.re))
   (some true)
end
def yo7:LSh:=⟨[(4,(.d .bool))],[],0,54⟩
noncomputable def z98:FI dat:=FI.of dat 40 54 0 [(.d (.st 2)),(.d (.st 2))] [] [(.d .bool)] [] true yo7 (R:=Bool) (λx=>x.1) (λr=>(r,())) (λn x=>z5o n x.1 x.2.1)
 (λn=>[(0,⟨⟨[(3,(.ptr 0 0)),(2,(.ptr 1 0)),(34,(.d .bool))],[(.st 2),(.st 2)],0,54⟩,λx=>z35 n x.1 x.2.1 x.2.2.1⟩),(1,⟨⟨[(5,(.d (.int .i64))),(3,(.ptr 0 0)),(2,(.ptr 1 0))],[(.st 2),(.st 2)],0,54⟩,λx=>z7r n x.1 x.2.1 x.2.2.1⟩)]) (ann [(5,0),(14,1)] (Tryz.f40.body.getD .skip) 0).1
noncomputable def yqx:List (FI dat):=[z98]++[zd1]
theorem yt3:(z98).Good Tryz.prog dat (tb yqx):=FI.yz4 (hD:=zz2 _) Tryz.func40 Tryz.ntmps40 Tryz.call40 (by kernel_rfl) (of_decide_eq_true (by kernel_rfl)) (by kernel_rfl) (λn=>by kernel_rfl) (λx=>by kernel_rfl) (λ_=>rfl) ⟨λ_=>rfl,λ_=>rfl,trivial⟩
 (λn=>λx=>(z5o.eq_2 x.1 x.2.1 n).trans (by kernel_rfl))
 (λn=>⟨λx=>(z35.eq_2 x.1 x.2.1 x.2.2.1 n).trans (by kernel_rfl),
  λx=>(z7r.eq_2 x.1 x.2.1 x.2.2.1 n).trans (by kernel_rfl),
  trivial⟩)
 (λx=>.inl rfl)
theorem yqn:OkL Tryz.prog [z98]:=zc5 (zz2 _) (bs:=[zd1]) ⟨y1c,trivial⟩ ⟨yt3,trivial⟩
theorem ztn:FOk Tryz.prog z98:=yqn.1
mutual
def z92:Nat->zz1->(List (List UInt8))->Option Bool
 |0,_,_=>none
 |n+1,a0,a1 =>
  (zc2 n a0.re).bind λy0 =>
  z8d n 0 y0.1 a1
def z8d:Nat->Int->(List (List UInt8))->(List (List UInt8))->Option Bool
 |0,_,_,_=>none
 |n+1,a0,a1,a2 =>
  pIf (decide (a0<(a1.length:Int)))
   ((ix a1 a0).bind λx1 =>
   (z44 n a2 x1).bind λy2 =>
   pIf (decide (y2>=0))
    (some true)
    (z8d n (IntKind.i64.wrap (a0+1)) a1 a2))
   (some false)
end
def yrm:LSh:=⟨[(4,(.d .bool))],[],0,26⟩
noncomputable def zfa:FI dat:=FI.of dat 41 26 0 [(.d (.st 2)),(.d (.sl .str))] [] [(.d .bool)] [] true yrm (R:=Bool) (λx=>x.1) (λr=>(r,())) (λn x=>z92 n x.1 x.2.1)
 (λn=>[(0,⟨⟨[(7,(.d (.int .i64))),(5,(.d (.sl .str))),(1,(.d (.sl .str)))],[],0,26⟩,λx=>z8d n x.1 x.2.1 x.2.2.1⟩)]) (ann [(8,0)] (Tryz.f41.body.getD .skip) 0).1
noncomputable def yr2:List (FI dat):=[zdc,z0r]
theorem yqh:(zfa).Good Tryz.prog dat (tb yr2):=FI.yz4 (hD:=zz2 _) Tryz.func41 Tryz.ntmps41 Tryz.call41 (by kernel_rfl) (of_decide_eq_true (by kernel_rfl)) (by kernel_rfl) (λn=>by kernel_rfl) (λx=>by kernel_rfl) (λ_=>rfl) ⟨λ_=>rfl,trivial⟩
 (λn=>λx=>(z92.eq_2 x.1 x.2.1 n).trans (by kernel_rfl))
 (λn=>⟨λx=>(z8d.eq_2 x.1 x.2.1 x.2.2.1 n).trans (by kernel_rfl),
  trivial⟩)
 (λx=>.inl rfl)
theorem ytc:OkL Tryz.prog [zfa]:=zz6 (zz2 _) (bs:=[zdc,z0r]) ⟨zxu,zcr,trivial⟩ yqh
theorem y18:FOk Tryz.prog zfa:=ytc.1
mutual
def zct:Nat->(List (List UInt8))->(List UInt8)->Option (List (List UInt8))
 |0,_,_=>none
 |n+1,a0,a1 =>
  z7h n 0 a0 a1
def z7h:Nat->Int->(List (List UInt8))->(List UInt8)->Option (List (List UInt8))
 |0,_,_,_=>none
 |n+1,a0,a1,a2 =>
  pIf (decide (a0<(a1.length:Int)))
   ((ix a1 a0).bind λx0 =>
   zao n a1 a2 a0 (Op.bytesLess x0 a2))
   (zao n a1 a2 a0 false)
def zao:Nat->(List (List UInt8))->(List UInt8)->Int->Bool->Option (List (List UInt8))
 |0,_,_,_,_=>none
 |n+1,a0,a1,a2,a3 =>
  pIf a3
   (z7h n (IntKind.i64.wrap (a2+1)) a0 a1)
   (pIf (decide (a2<(a0.length:Int)))
     ((ix a0 a2).bind λx1 =>
     z9w n a0 a2 a1 (x1==a1))
     (z9w n a0 a2 a1 false))
def z9w:Nat->(List (List UInt8))->Int->(List UInt8)->Bool->Option (List (List UInt8))
 |0,_,_,_,_=>none
 |n+1,a0,a1,a2,a3 =>
  pIf a3
   (some a0)
   ((sub a0 0 a1).bind λx2 =>
   (ext [] x2).bind λx3 =>
   (sub a0 a1 (a0.length:Int)).bind λx4 =>
   (ext x3 [a2]).bind λx5 =>
   (ext x5 x4).bind λx6 =>
   some x6)
end
def ywl:LSh:=⟨[(4,(.d (.sl .str)))],[],0,47⟩
noncomputable def zd0:FI dat:=FI.of dat 27 47 0 [(.d (.sl .str)),(.d .str)] [] [(.d (.sl .str))] [] true ywl (R:=List (List UInt8)) (λx=>x.1) (λr=>(r,())) (λn x=>zct n x.1 x.2.1)
 (λn=>[(0,⟨⟨[(5,(.d (.int .i64))),(0,(.d (.sl .str))),(1,(.d .str))],[],0,47⟩,λx=>z7h n x.1 x.2.1 x.2.2.1⟩),(1,⟨⟨[(0,(.d (.sl .str))),(1,(.d .str)),(5,(.d (.int .i64))),(18,(.d .bool))],[],0,47⟩,λx=>zao n x.1 x.2.1 x.2.2.1 x.2.2.2.1⟩),(2,⟨⟨[(0,(.d (.sl .str))),(5,(.d (.int .i64))),(1,(.d .str)),(32,(.d .bool))],[],0,47⟩,λx=>z9w n x.1 x.2.1 x.2.2.1 x.2.2.2.1⟩)]) (ann [(6,0),(10,1),(18,2)] (Tryz.f27.body.getD .skip) 0).1
noncomputable def yws:List (FI dat):=[]
theorem yvv:(zd0).Good Tryz.prog dat (tb yws):=FI.yz4 (hD:=zz2 _) Tryz.func27 Tryz.ntmps27 Tryz.call27 (by kernel_rfl) (of_decide_eq_true (by kernel_rfl)) (by kernel_rfl) (λn=>by kernel_rfl) (λx=>by kernel_rfl) (λ_=>rfl) ⟨λ_=>rfl,λ_=>rfl,λ_=>rfl,trivial⟩
 (λn=>λx=>(zct.eq_2 x.1 x.2.1 n).trans (by kernel_rfl))
 (λn=>⟨λx=>(z7h.eq_2 x.1 x.2.1 x.2.2.1 n).trans (by kernel_rfl),
  λx=>(zao.eq_2 x.1 x.2.1 x.2.2.1 x.2.2.2.1 n).trans (by kernel_rfl),
  λx=>(z9w.eq_2 x.1 x.2.1 x.2.2.1 x.2.2.2.1 n).trans (by kernel_rfl),
  trivial⟩)
 (λx=>.inl rfl)
theorem yvy:OkL Tryz.prog [zd0]:=zz6 (zz2 _) (bs:=[]) trivial yvv
theorem zwn:FOk Tryz.prog zd0:=yvy.1
mutual
def zbu:Nat->zz0->zz0->Option (List (List UInt8))
 |0,_,_=>none
 |n+1,a0,a1 =>
  z73 n [] 0 a1 a0
def z73:Nat->(List (List UInt8))->Int->zz0->zz0->Option (List (List UInt8))
 |0,_,_,_,_=>none
 |n+1,a0,a1,a2,a3 =>
  pIf (decide (a1<=(IntKind.i64.wrap ((a3.attrs.length:Int)+(a2.attrs.length:Int)))))
   ((ext [] a3.attrs).bind λx0 =>
   (ext x0 a2.attrs).bind λx1 =>
   z3v n 0 a0 a1 x1 a2 a3)
   (some a0)
def z3v:Nat->Int->(List (List UInt8))->Int->(List zz7)->zz0->zz0->Option (List (List UInt8))
 |0,_,_,_,_,_,_=>none
 |n+1,a0,a1,a2,a3,a4,a5 =>
  pIf (decide (a0<(a3.length:Int)))
   ((ix a3 a0).bind λx2 =>
   (zdu n a5 x2.name).bind λy3 =>
   (ix a3 a0).bind λx4 =>
   (zdu n a4 x4.name).bind λy5 =>
   pIf (!y3.1)
    (z2e n a2 a0 a1 true a3 a4 a5)
    (pIf (!y5.1)
      (z2e n a2 a0 a1 true a3 a4 a5)
      ((z5o n y3.2.re y5.2.re).bind λy6 =>
      pIf (!y6)
       (z2e n a2 a0 a1 true a3 a4 a5)
       ((ix a3 a0).bind λx7 =>
       (z92 n x7.value.re a1).bind λy8 =>
       z2e n a2 a0 a1 y8 a3 a4 a5))))
   (z73 n a1 (IntKind.i64.wrap (a2+1)) a4 a5)
def z2e:Nat->Int->Int->(List (List UInt8))->Bool->(List zz7)->zz0->zz0->Option (List (List UInt8))
 |0,_,_,_,_,_,_,_=>none
 |n+1,a0,a1,a2,a3,a4,a5,a6 =>
  pIf a3
   ((ix a4 a1).bind λx9 =>
   (zct n a2 x9.name).bind λy10 =>
   z9m n y10 a0 a1 a4 a5 a6)
   (z9m n a2 a0 a1 a4 a5 a6)
def z9m:Nat->(List (List UInt8))->Int->Int->(List zz7)->zz0->zz0->Option (List (List UInt8))
 |0,_,_,_,_,_,_=>none
 |n+1,a0,a1,a2,a3,a4,a5 =>
  z3v n (IntKind.i64.wrap (a2+1)) a0 a1 a3 a4 a5
end
def yla:LSh:=⟨[(4,(.d (.sl .str)))],[],0,86⟩
noncomputable def zd3:FI dat:=FI.of dat 18 86 0 [(.d (.st 8)),(.d (.st 8))] [] [(.d (.sl .str))] [] true yla (R:=List (List UInt8)) (λx=>x.1) (λr=>(r,())) (λn x=>zbu n x.1 x.2.1)
 (λn=>[(0,⟨⟨[(5,(.d (.sl .str))),(3,(.ptr 0 0)),(2,(.ptr 1 0)),(6,(.d (.int .i64)))],[(.st 8),(.st 8)],0,86⟩,λx=>z73 n x.1 x.2.1 x.2.2.1 x.2.2.2.1⟩),(1,⟨⟨[(8,(.d (.int .i64))),(7,(.own 0)),(5,(.d (.sl .str))),(3,(.ptr 1 0)),(2,(.ptr 2 0)),(6,(.d (.int .i64)))],[(.acc 45 (.st 3) true),(.st 8),(.st 8)],0,86⟩,λx=>z3v n x.1 x.2.1 x.2.2.1 x.2.2.2.1 x.2.2.2.2.1 x.2.2.2.2.2.1⟩),(2,⟨⟨[(7,(.own 0)),(3,(.ptr 1 0)),(2,(.ptr 2 0)),(6,(.d (.int .i64))),(8,(.d (.int .i64))),(5,(.d (.sl .str))),(77,(.d .bool))],[(.acc 45 (.st 3) true),(.st 8),(.st 8)],0,86⟩,λx=>z2e n x.1 x.2.1 x.2.2.1 x.2.2.2.1 x.2.2.2.2.1 x.2.2.2.2.2.1 x.2.2.2.2.2.2.1⟩),(3,⟨⟨[(7,(.own 0)),(5,(.d (.sl .str))),(3,(.ptr 1 0)),(2,(.ptr 2 0)),(6,(.d (.int .i64))),(8,(.d (.int .i64)))],[(.acc 45 (.st 3) true),(.st 8),(.st 8)],0,86⟩,λx=>z9m n x.1 x.2.1 x.2.2.1 x.2.2.2.1 x.2.2.2.2.1 x.2.2.2.2.2.1⟩)]) (ann [(8,0),(22,1),(37,2),(40,3)] (Tryz.f18.body.getD .skip) 0).1
noncomputable def ymj:List (FI dat):=[zm4,z98,zfa,zd0]
theorem yj6:(zd3).Good Tryz.prog dat (tb ymj):=FI.yz4 (hD:=zz2 _) Tryz.func18 Tryz.ntmps18 Tryz.call18 (by kernel_rfl) (of_decide_eq_true (by kernel_rfl)) (by kernel_rfl) (λn=>by kernel_rfl) (λx=>by kernel_rfl) (λ_=>rfl) ⟨λ_=>rfl,λ_=>rfl,λ_=>rfl,λ_=>rfl,trivial⟩
 (λn=>λx=>(zbu.eq_2 x.1 x.2.1 n).trans (by kernel_rfl))
 (λn=>⟨λx=>(z73.eq_2 x.1 x.2.1 x.2.2.1 x.2.2.2.1 n).trans (by kernel_rfl),
  λx=>(z3v.eq_2 x.1 x.2.1 x.2.2.1 x.2.2.2.1 x.2.2.2.2.1 x.2.2.2.2.2.1 n).trans (by kernel_rfl),
  λx=>(z2e.eq_2 x.1 x.2.1 x.2.2.1 x.2.2.2.1 x.2.2.2.2.1 x.2.2.2.2.2.1 x.2.2.2.2.2.2.1 n).trans (by kernel_rfl),
  λx=>(z9m.eq_2 x.1 x.2.1 x.2.2.1 x.2.2.2.1 x.2.2.2.2.1 x.2.2.2.2.2.1 n).trans (by kernel_rfl),
  trivial⟩)
 (λx=>.inl rfl)
theorem yht:OkL Tryz.prog [zd3]:=zz6 (zz2 _) (bs:=[zm4,z98,zfa,zd0]) ⟨yj2,ztn,y18,zwn,trivial⟩ yj6
theorem zyf:FOk Tryz.prog zd3:=yht.1
def zbx:Nat->zz0->zz0->Option ((List (List UInt8))×Int)
 |0,_,_=>none
 |n+1,a0,a1 =>
  (z4b n a0 a1).bind λy0 =>
  pIf (y0 != 0)
   ((z4b n a0 a1).bind λy1 =>
   some ([],y1))
   ((zbu n a0 a1).bind λy2 =>
   some (y2,0))
def ylm:LSh:=⟨[(4,(.d (.sl .str))),(5,(.d (.int .i64)))],[],0,16⟩
noncomputable def zjw:FI dat:=FI.of dat 6 16 0 [(.d (.st 8)),(.d (.st 8))] [] [(.d (.sl .str)),(.d (.int .i64))] [] true ylm (R:=(List (List UInt8))×Int) (λx=>(x.1,x.2.1)) (λr=>(r.1,r.2,())) (λn x=>zbx n x.1 x.2.1)
 (λn=>[]) (ann [] (Tryz.f6.body.getD .skip) 0).1
noncomputable def yl8:List (FI dat):=[zaz,zd3]
theorem yl9:(zjw).Good Tryz.prog dat (tb yl8):=FI.yz4 (hD:=zz2 _) Tryz.func6 Tryz.ntmps6 Tryz.call6 (by kernel_rfl) (of_decide_eq_true (by kernel_rfl)) (by kernel_rfl) (λn=>by kernel_rfl) (λx=>by kernel_rfl) (λ_=>rfl) trivial
 (λn=>λx=>(zbx.eq_2 x.1 x.2.1 n).trans (by kernel_rfl))
 (λn=>trivial)
 (λx=>.inl rfl)
theorem yir:OkL Tryz.prog [zjw]:=zz6 (zz2 _) (bs:=[zaz,zd3]) ⟨zto,zyf,trivial⟩ yl9
theorem ycx:FOk Tryz.prog zjw:=yir.1
mutual
def kzs:Nat->(List (List kz4))->Option (Res ((List UInt8)×Unit) (List kz4))
 |0,_=>none
 |n+1,a0 =>
  zzo n 0 0 a0 a0 (a0.length:Int)
def zzo:Nat->Int->Int->(List (List kz4))->(List (List kz4))->Int->Option (Res ((List UInt8)×Unit) (List kz4))
 |0,_,_,_,_,_=>none
 |n+1,a0,a1,a2,a3,a4 =>
  pIf (decide (a0<a4))
   ((ix a2 a0).bind λx0 =>
   pIf (decide ((IntKind.i64.wrap (a1+(x0.length:Int)))<0))
    (some (Res.pan ([108,101,110,32,111,117,116,32,111,102,32,114,97,110,103,101],())))
    (kzw n (IntKind.i64.wrap (a1+(x0.length:Int))) a2 a3 a4 a0))
   ((z6h n [] a1).bind λy1 =>
   kzh n 0 a3 (a3.length:Int) y1)
def kzw:Nat->Int->(List (List kz4))->(List (List kz4))->Int->Int->Option (Res ((List UInt8)×Unit) (List kz4))
 |0,_,_,_,_,_=>none
 |n+1,a0,a1,a2,a3,a4 =>
  zzo n (IntKind.i64.wrap (a4+1)) a0 a1 a2 a3
def kzh:Nat->Int->(List (List kz4))->Int->(List kz4)->Option (Res ((List UInt8)×Unit) (List kz4))
 |0,_,_,_,_=>none
 |n+1,a0,a1,a2,a3 =>
  pIf (decide (a0<a2))
   ((ix a1 a0).bind λx2 =>
   (ext a3 x2).bind λx3 =>
   kzh n (IntKind.i64.wrap (a0+1)) a1 a2 x3)
   (some (Res.ok a3))
end
def zlq:LSh:=⟨[(2,(.d (.sl (.st 7))))],[],0,36⟩
noncomputable def z0f:FI dat:=FI.ofP dat 42 36 0 [(.d (.sl (.sl (.st 7))))] [] [(.d (.sl (.st 7)))] [] (.iface 9 (.d .str)) [] [] zlq (R:=List kz4) (λx=>x.1) (λr=>(r,())) (λn x=>kzs n x.1)
 (λn=>[(0,⟨⟨[(11,(.d (.int .i64))),(3,(.d (.int .i64))),(9,(.d (.sl (.sl (.st 7))))),(0,(.d (.sl (.sl (.st 7))))),(10,(.d (.int .i64)))],[],0,36⟩,λx=>zzo n x.1 x.2.1 x.2.2.1 x.2.2.2.1 x.2.2.2.2.1⟩),(1,⟨⟨[(3,(.d (.int .i64))),(9,(.d (.sl (.sl (.st 7))))),(0,(.d (.sl (.sl (.st 7))))),(10,(.d (.int .i64))),(11,(.d (.int .i64)))],[],0,36⟩,λx=>kzw n x.1 x.2.1 x.2.2.1 x.2.2.2.1 x.2.2.2.2.1⟩),(2,⟨⟨[(27,(.d (.int .i64))),(6,(.own 0)),(25,(.d (.sl (.sl (.st 7))))),(26,(.d (.int .i64)))],[(.acc 48 (.st 7) true)],0,36⟩,λx=>kzh n x.1 x.2.1 x.2.2.1 x.2.2.2.1⟩)]) (ann [(8,0),(26,1),(33,2)] (Tryz.f42.body.getD .skip) 0).1
noncomputable def zlk:List (FI dat):=[z7j]
theorem zlp:(z0f).Good Tryz.prog dat (tb zlk):=FI.zol (hD:=zz2 _) Tryz.func42 Tryz.ntmps42 Tryz.call42 (by kernel_rfl) (of_decide_eq_true (by kernel_rfl)) (by kernel_rfl) (λn=>by kernel_rfl) trivial (λx=>by kernel_rfl) (λ_=>rfl) ⟨λ_=>rfl,λ_=>rfl,λ_=>rfl,trivial⟩
 (λn=>λx=>(kzs.eq_2 x.1 n).trans (by kernel_rfl))
 (λn=>⟨λx=>(zzo.eq_2 x.1 x.2.1 x.2.2.1 x.2.2.2.1 x.2.2.2.2.1 n).trans (by kernel_rfl),
  λx=>(kzw.eq_2 x.1 x.2.1 x.2.2.1 x.2.2.2.1 x.2.2.2.2.1 n).trans (by kernel_rfl),
  λx=>(kzh.eq_2 x.1 x.2.1 x.2.2.1 x.2.2.2.1 n).trans (by kernel_rfl),
  trivial⟩)
 (λx=>by kernel_rfl)
theorem zli:OkL Tryz.prog [z0f]:=zz6 (zz2 _) (bs:=[z7j]) ⟨zlz,trivial⟩ zlp
theorem zl1:FOk Tryz.prog z0f:=zli.1
def zem:Nat->kz4->(List UInt8)->Option (Bool×(List UInt8))
 |0,_,_=>none
 |n+1,a0,a1 =>
  some ((a0.name==a1),a1)
def ykc:LSh:=⟨[(3,(.d .bool))],[(.cells [(.d .str)])],1,8⟩
noncomputable def zjt:FI dat:=FI.of dat 79 8 1 [(.d (.st 7)),(.ptr 0 0)] [(.cells [(.d .str)])] [(.d .bool)] [(.cells [(.d .str)])] false ykc (R:=Bool×(List UInt8)) (λx=>(x.1,x.2.1)) (λr=>(r.1,r.2,())) (λn x=>zem n x.1 x.2.1)
 (λn=>[]) (ann [] (Tryz.f79.body.getD .skip) 0).1
noncomputable def yiy:List (FI dat):=[]
theorem yl0:(zjt).Good Tryz.prog dat (tb yiy):=FI.yz4 (hD:=zz2 _) Tryz.func79 Tryz.ntmps79 Tryz.call79 (by kernel_rfl) (of_decide_eq_true (by kernel_rfl)) (by kernel_rfl) (λn=>by kernel_rfl) (λx=>by kernel_rfl) (λ_=>rfl) trivial
 (λn=>λx=>(zem.eq_2 x.1 x.2.1 n).trans (by kernel_rfl))
 (λn=>trivial)
 (λx=>.inr (by kernel_rfl))
theorem yi5:OkL Tryz.prog [zjt]:=zz6 (zz2 _) (bs:=[]) trivial yl0
theorem yc2:FOk Tryz.prog zjt:=yi5.1
end Go.Proofs.YtahcjggdcmgpkaaGreat
namespace Go.Proofs.YtahcjggdcmgpkaaGreat
open Go Go.Ab
set_option linter.unusedVariables false
set_option maxRecDepth 100000
set_option maxHeartbeats 4000000
mutual
def kzo:Nat->(List kz4)->(List UInt8)->Option (Int×(List UInt8))
 |0,_,_=>none
 |n+1,a0,a1 =>
  kze n 0 a0 (a0.length:Int) a1
def kze:Nat->Int->(List kz4)->Int->(List UInt8)->Option (Int×(List UInt8))
 |0,_,_,_,_=>none
 |n+1,a0,a1,a2,a3 =>
  pIf (decide (a0<a2))
   ((ix a1 a0).bind λx0 =>
   (zem n x0 a3).bind λy1 =>
   pIf y1.1
    (some (a0,y1.2))
    (kze n (IntKind.i64.wrap (a0+1)) a1 a2 y1.2))
   (some ((-1),a3))
end
def zj7:LSh:=⟨[(4,(.d (.int .i64)))],[(.cells [(.d .str)])],1,19⟩
noncomputable def zzy:FI dat:=FI.of dat 78 19 1 [(.d (.sl (.st 7))),(.fn 79 [] [(.ptr 0 0)])] [(.cells [(.d .str)])] [(.d (.int .i64))] [(.cells [(.d .str)])] false zj7 (R:=Int×(List UInt8)) (λx=>(x.1,x.2.1)) (λr=>(r.1,r.2,())) (λn x=>kzo n x.1 x.2.1)
 (λn=>[(0,⟨⟨[(8,(.d (.int .i64))),(0,(.d (.sl (.st 7)))),(1,(.fn 79 [] [(.ptr 0 0)])),(7,(.d (.int .i64)))],[(.cells [(.d .str)])],1,19⟩,λx=>kze n x.1 x.2.1 x.2.2.1 x.2.2.2.1⟩)]) (ann [(6,0)] (Tryz.f78.body.getD .skip) 0).1
noncomputable def zj6:List (FI dat):=[zjt]
theorem zj1:(zzy).Good Tryz.prog dat (tb zj6):=FI.yz4 (hD:=zz2 _) Tryz.func78 Tryz.ntmps78 Tryz.call78 (by kernel_rfl) (of_decide_eq_true (by kernel_rfl)) (by kernel_rfl) (λn=>by kernel_rfl) (λx=>by kernel_rfl) (λ_=>rfl) ⟨λ_=>rfl,trivial⟩
 (λn=>λx=>(kzo.eq_2 x.1 x.2.1 n).trans (by kernel_rfl))
 (λn=>⟨λx=>(kze.eq_2 x.1 x.2.1 x.2.2.1 x.2.2.2.1 n).trans (by kernel_rfl),
  trivial⟩)
 (λx=>.inr (by kernel_rfl))
theorem ziy:OkL Tryz.prog [zzy]:=zz6 (zz2 _) (bs:=[zjt]) ⟨yc2,trivial⟩ zj1
theorem zim:FOk Tryz.prog zzy:=ziy.1
def zfl:Nat->zz0->(List UInt8)->Option Int
 |0,_,_=>none
 |n+1,a0,a1 =>
  (kzo n a0.rules a1).bind λy0 =>
  some y0.1
def yvs:LSh:=⟨[(4,(.d (.int .i64)))],[],0,9⟩
noncomputable def zoh:FI dat:=FI.of dat 43 9 0 [(.d (.st 8)),(.d .str)] [] [(.d (.int .i64))] [] true yvs (R:=Int) (λx=>x.1) (λr=>(r,())) (λn x=>zfl n x.1 x.2.1)
 (λn=>[]) (ann [] (Tryz.f43.body.getD .skip) 0).1
noncomputable def yu3:List (FI dat):=[zzy]
theorem yw7:(zoh).Good Tryz.prog dat (tb yu3):=FI.yz4 (hD:=zz2 _) Tryz.func43 Tryz.ntmps43 Tryz.call43 (by kernel_rfl) (of_decide_eq_true (by kernel_rfl)) (by kernel_rfl) (λn=>by kernel_rfl) (λx=>by kernel_rfl) (λ_=>rfl) trivial
 (λn=>λx=>(zfl.eq_2 x.1 x.2.1 n).trans (by kernel_rfl))
 (λn=>trivial)
 (λx=>.inl rfl)
theorem ytp:OkL Tryz.prog [zoh]:=zz6 (zz2 _) (bs:=[zzy]) ⟨zim,trivial⟩ yw7
theorem ys5:FOk Tryz.prog zoh:=ytp.1
def z9u:Nat->zz7->zz7->Option Bool
 |0,_,_=>none
 |n+1,a0,a1 =>
  pIf (a0.name==a1.name)
   ((z4f n a0.value.re a1.value.re).bind λy0 =>
   some y0)
   (some false)
def ydc:LSh:=⟨[(4,(.d .bool))],[],0,17⟩
noncomputable def zi9:FI dat:=FI.of dat 81 17 0 [(.d (.st 3)),(.d (.st 3))] [] [(.d .bool)] [] true ydc (R:=Bool) (λx=>x.1) (λr=>(r,())) (λn x=>z9u n x.1 x.2.1)
 (λn=>[]) (ann [] (Tryz.f81.body.getD .skip) 0).1
noncomputable def yep:List (FI dat):=[zb7]
theorem ye1:(zi9).Good Tryz.prog dat (tb yep):=FI.yz4 (hD:=zz2 _) Tryz.func81 Tryz.ntmps81 Tryz.call81 (by kernel_rfl) (of_decide_eq_true (by kernel_rfl)) (by kernel_rfl) (λn=>by kernel_rfl) (λx=>by kernel_rfl) (λ_=>rfl) trivial
 (λn=>λx=>(z9u.eq_2 x.1 x.2.1 n).trans (by kernel_rfl))
 (λn=>trivial)
 (λx=>.inl rfl)
theorem ybk:OkL Tryz.prog [zi9]:=zz6 (zz2 _) (bs:=[zb7]) ⟨zwr,trivial⟩ ye1
theorem yab:FOk Tryz.prog zi9:=ybk.1
mutual
def zzl:Nat->(List zz7)->(List zz7)->Option Bool
 |0,_,_=>none
 |n+1,a0,a1 =>
  pIf ((a0.length:Int) != (a1.length:Int))
   (some false)
   (kza n 0 a1 a0 (a0.length:Int))
def kza:Nat->Int->(List zz7)->(List zz7)->Int->Option Bool
 |0,_,_,_,_=>none
 |n+1,a0,a1,a2,a3 =>
  pIf (decide (a0<a3))
   ((ix a2 a0).bind λx0 =>
   (ix a1 a0).bind λx1 =>
   (z9u n x0.re x1.re).bind λy2 =>
   pIf (!y2)
    (some false)
    (kza n (IntKind.i64.wrap (a0+1)) a1 a2 a3))
   (some true)
end
def z9x:LSh:=⟨[(6,(.d .bool))],[],0,32⟩
noncomputable def zze:FI dat:=FI.of dat 80 32 0 [(.d (.sl (.st 3))),(.d (.sl (.st 3))),(.fn 81 [] [])] [] [(.d .bool)] [] true z9x (R:=Bool) (λx=>x.1) (λr=>(r,())) (λn x=>zzl n x.1 x.2.1)
 (λn=>[(0,⟨⟨[(17,(.d (.int .i64))),(2,(.fn 81 [] [])),(1,(.d (.sl (.st 3)))),(15,(.d (.sl (.st 3)))),(16,(.d (.int .i64)))],[],0,32⟩,λx=>kza n x.1 x.2.1 x.2.2.1 x.2.2.2.1⟩)]) (ann [(14,0)] (Tryz.f80.body.getD .skip) 0).1
noncomputable def zas:List (FI dat):=[zi9]
theorem zab:(zze).Good Tryz.prog dat (tb zas):=FI.yz4 (hD:=zz2 _) Tryz.func80 Tryz.ntmps80 Tryz.call80 (by kernel_rfl) (of_decide_eq_true (by kernel_rfl)) (by kernel_rfl) (λn=>by kernel_rfl) (λx=>by kernel_rfl) (λ_=>rfl) ⟨λ_=>rfl,trivial⟩
 (λn=>λx=>(zzl.eq_2 x.1 x.2.1 n).trans (by kernel_rfl))
 (λn=>⟨λx=>(kza.eq_2 x.1 x.2.1 x.2.2.1 x.2.2.2.1 n).trans (by kernel_rfl),
  trivial⟩)
 (λx=>.inl rfl)
theorem za0:OkL Tryz.prog [zze]:=zz6 (zz2 _) (bs:=[zi9]) ⟨yab,trivial⟩ zab
theorem z9g:FOk Tryz.prog zze:=za0.1
mutual
def z1c:Nat->(List (List UInt8))->(List (List UInt8))->Option Bool
 |0,_,_=>none
 |n+1,a0,a1 =>
  pIf ((a0.length:Int) != (a1.length:Int))
   (some false)
   (z0p n 0 a1 a0 (a0.length:Int))
def z0p:Nat->Int->(List (List UInt8))->(List (List UInt8))->Int->Option Bool
 |0,_,_,_,_=>none
 |n+1,a0,a1,a2,a3 =>
  pIf (decide (a0<a3))
   ((ix a2 a0).bind λx0 =>
   (ix a1 a0).bind λx1 =>
   pIf (!(x0==x1))
    (some false)
    (z0p n (IntKind.i64.wrap (a0+1)) a1 a2 a3))
   (some true)
end
def zoy:LSh:=⟨[(4,(.d .bool))],[],0,26⟩
noncomputable def z1m:FI dat:=FI.of dat 84 26 0 [(.d (.sl .str)),(.d (.sl .str))] [] [(.d .bool)] [] true zoy (R:=Bool) (λx=>x.1) (λr=>(r,())) (λn x=>z1c n x.1 x.2.1)
 (λn=>[(0,⟨⟨[(13,(.d (.int .i64))),(1,(.d (.sl .str))),(0,(.d (.sl .str))),(12,(.d (.int .i64)))],[],0,26⟩,λx=>z0p n x.1 x.2.1 x.2.2.1 x.2.2.2.1⟩)]) (ann [(14,0)] (Tryz.f84.body.getD .skip) 0).1
noncomputable def zox:List (FI dat):=[]
theorem zow:(z1m).Good Tryz.prog dat (tb zox):=FI.yz4 (hD:=zz2 _) Tryz.func84 Tryz.ntmps84 Tryz.call84 (by kernel_rfl) (of_decide_eq_true (by kernel_rfl)) (by kernel_rfl) (λn=>by kernel_rfl) (λx=>by kernel_rfl) (λ_=>rfl) ⟨λ_=>rfl,trivial⟩
 (λn=>λx=>(z1c.eq_2 x.1 x.2.1 n).trans (by kernel_rfl))
 (λn=>⟨λx=>(z0p.eq_2 x.1 x.2.1 x.2.2.1 x.2.2.2.1 n).trans (by kernel_rfl),
  trivial⟩)
 (λx=>.inl rfl)
theorem zoo:OkL Tryz.prog [z1m]:=zz6 (zz2 _) (bs:=[]) trivial zow
theorem zo3:FOk Tryz.prog z1m:=zoo.1
def z79:Nat->(List zz1)->(List zz1)->Option Bool
 |0,_,_=>none
 |n+1,a0,a1 =>
  (yz9 n a0 a1).bind λy0 =>
  some y0
def y6d:LSh:=⟨[(4,(.d .bool))],[],0,8⟩
noncomputable def z8g:FI dat:=FI.of dat 138 8 0 [(.d (.sl (.st 2))),(.d (.sl (.st 2)))] [] [(.d .bool)] [] true y6d (R:=Bool) (λx=>x.1) (λr=>(r,())) (λn x=>z79 n x.1 x.2.1)
 (λn=>[]) (ann [] (Tryz.f138.body.getD .skip) 0).1
noncomputable def y5p:List (FI dat):=[kz9]
theorem y6p:(z8g).Good Tryz.prog dat (tb y5p):=FI.yz4 (hD:=zz2 _) Tryz.func138 Tryz.ntmps138 Tryz.call138 (by kernel_rfl) (of_decide_eq_true (by kernel_rfl)) (by kernel_rfl) (λn=>by kernel_rfl) (λx=>by kernel_rfl) (λ_=>rfl) trivial
 (λn=>λx=>(z79.eq_2 x.1 x.2.1 n).trans (by kernel_rfl))
 (λn=>trivial)
 (λx=>.inl rfl)
theorem y6v:OkL Tryz.prog [z8g]:=zz6 (zz2 _) (bs:=[kz9]) ⟨z9i,trivial⟩ y6p
theorem zsm:FOk Tryz.prog z8g:=y6v.1
def z4s:Nat->yza->yza->Option Bool
 |0,_,_=>none
 |n+1,a0,a1 =>
  pIf (a0.kind==a1.kind)
   (pIf (a0.name==a1.name)
     ((z79 n a0.args a1.args).bind λy0 =>
     some y0)
     (some false))
   (some false)
def y4t:LSh:=⟨[(4,(.d .bool))],[],0,24⟩
noncomputable def zco:FI dat:=FI.of dat 140 24 0 [(.d (.st 4)),(.d (.st 4))] [] [(.d .bool)] [] true y4t (R:=Bool) (λx=>x.1) (λr=>(r,())) (λn x=>z4s n x.1 x.2.1)
 (λn=>[]) (ann [] (Tryz.f140.body.getD .skip) 0).1
noncomputable def y4h:List (FI dat):=[z8g]
theorem y3c:(zco).Good Tryz.prog dat (tb y4h):=FI.yz4 (hD:=zz2 _) Tryz.func140 Tryz.ntmps140 Tryz.call140 (by kernel_rfl) (of_decide_eq_true (by kernel_rfl)) (by kernel_rfl) (λn=>by kernel_rfl) (λx=>by kernel_rfl) (λ_=>rfl) trivial
 (λn=>λx=>(z4s.eq_2 x.1 x.2.1 n).trans (by kernel_rfl))
 (λn=>trivial)
 (λx=>.inl rfl)
theorem y46:OkL Tryz.prog [zco]:=zz6 (zz2 _) (bs:=[z8g]) ⟨zsm,trivial⟩ y3c
theorem y24:FOk Tryz.prog zco:=y46.1
mutual
def yzk:Nat->(List yza)->(List yza)->Option Bool
 |0,_,_=>none
 |n+1,a0,a1 =>
  pIf ((a0.length:Int) != (a1.length:Int))
   (some false)
   (kzb n 0 a1 a0 (a0.length:Int))
def kzb:Nat->Int->(List yza)->(List yza)->Int->Option Bool
 |0,_,_,_,_=>none
 |n+1,a0,a1,a2,a3 =>
  pIf (decide (a0<a3))
   ((ix a2 a0).bind λx0 =>
   (ix a1 a0).bind λx1 =>
   (z4s n x0 x1).bind λy2 =>
   pIf (!y2)
    (some false)
    (kzb n (IntKind.i64.wrap (a0+1)) a1 a2 a3))
   (some true)
end
def zae:LSh:=⟨[(6,(.d .bool))],[],0,32⟩
noncomputable def zzd:FI dat:=FI.of dat 139 32 0 [(.d (.sl (.st 4))),(.d (.sl (.st 4))),(.fn 140 [] [])] [] [(.d .bool)] [] true zae (R:=Bool) (λx=>x.1) (λr=>(r,())) (λn x=>yzk n x.1 x.2.1)
 (λn=>[(0,⟨⟨[(17,(.d (.int .i64))),(2,(.fn 140 [] [])),(1,(.d (.sl (.st 4)))),(15,(.d (.sl (.st 4)))),(16,(.d (.int .i64)))],[],0,32⟩,λx=>kzb n x.1 x.2.1 x.2.2.1 x.2.2.2.1⟩)]) (ann [(14,0)] (Tryz.f139.body.getD .skip) 0).1
noncomputable def za7:List (FI dat):=[zco]
theorem za2:(zzd).Good Tryz.prog dat (tb za7):=FI.yz4 (hD:=zz2 _) Tryz.func139 Tryz.ntmps139 Tryz.call139 (by kernel_rfl) (of_decide_eq_true (by kernel_rfl)) (by kernel_rfl) (λn=>by kernel_rfl) (λx=>by kernel_rfl) (λ_=>rfl) ⟨λ_=>rfl,trivial⟩
 (λn=>λx=>(yzk.eq_2 x.1 x.2.1 n).trans (by kernel_rfl))
 (λn=>⟨λx=>(kzb.eq_2 x.1 x.2.1 x.2.2.1 x.2.2.2.1 n).trans (by kernel_rfl),
  trivial⟩)
 (λx=>.inl rfl)
theorem zaj:OkL Tryz.prog [zzd]:=zz6 (zz2 _) (bs:=[zco]) ⟨y24,trivial⟩ za2
theorem z9j:FOk Tryz.prog zzd:=zaj.1
def z2y:Nat->zz3->zz3->Option Bool
 |0,_,_=>none
 |n+1,a0,a1 =>
  pIf (a0.kind==a1.kind)
   (pIf (a0.axis==a1.axis)
     (pIf (a0.name==a1.name)
       ((z79 n a0.args a1.args).bind λy0 =>
       pIf y0
        ((yzk n a0.items a1.items).bind λy1 =>
        some y1)
        (some false))
       (some false))
     (some false))
   (some false)
def y0i:LSh:=⟨[(4,(.d .bool))],[],0,38⟩
noncomputable def zay:FI dat:=FI.of dat 115 38 0 [(.d (.st 5)),(.d (.st 5))] [] [(.d .bool)] [] true y0i (R:=Bool) (λx=>x.1) (λr=>(r,())) (λn x=>z2y n x.1 x.2.1)
 (λn=>[]) (ann [] (Tryz.f115.body.getD .skip) 0).1
noncomputable def y0n:List (FI dat):=[z8g,zzd]
theorem y0d:(zay).Good Tryz.prog dat (tb y0n):=FI.yz4 (hD:=zz2 _) Tryz.func115 Tryz.ntmps115 Tryz.call115 (by kernel_rfl) (of_decide_eq_true (by kernel_rfl)) (by kernel_rfl) (λn=>by kernel_rfl) (λx=>by kernel_rfl) (λ_=>rfl) trivial
 (λn=>λx=>(z2y.eq_2 x.1 x.2.1 n).trans (by kernel_rfl))
 (λn=>trivial)
 (λx=>.inl rfl)
theorem y0m:OkL Tryz.prog [zay]:=zz6 (zz2 _) (bs:=[z8g,zzd]) ⟨zsm,z9j,trivial⟩ y0d
theorem zxl:FOk Tryz.prog zay:=y0m.1
mutual
def yze:Nat->(List zz3)->(List zz3)->Option Bool
 |0,_,_=>none
 |n+1,a0,a1 =>
  pIf ((a0.length:Int) != (a1.length:Int))
   (some false)
   (yz8 n 0 a1 a0 (a0.length:Int))
def yz8:Nat->Int->(List zz3)->(List zz3)->Int->Option Bool
 |0,_,_,_,_=>none
 |n+1,a0,a1,a2,a3 =>
  pIf (decide (a0<a3))
   ((ix a2 a0).bind λx0 =>
   (ix a1 a0).bind λx1 =>
   (z2y n x0 x1).bind λy2 =>
   pIf (!y2)
    (some false)
    (yz8 n (IntKind.i64.wrap (a0+1)) a1 a2 a3))
   (some true)
end
def z6q:LSh:=⟨[(6,(.d .bool))],[],0,32⟩
noncomputable def zza:FI dat:=FI.of dat 114 32 0 [(.d (.sl (.st 5))),(.d (.sl (.st 5))),(.fn 115 [] [])] [] [(.d .bool)] [] true z6q (R:=Bool) (λx=>x.1) (λr=>(r,())) (λn x=>yze n x.1 x.2.1)
 (λn=>[(0,⟨⟨[(17,(.d (.int .i64))),(2,(.fn 115 [] [])),(1,(.d (.sl (.st 5)))),(15,(.d (.sl (.st 5)))),(16,(.d (.int .i64)))],[],0,32⟩,λx=>yz8 n x.1 x.2.1 x.2.2.1 x.2.2.2.1⟩)]) (ann [(14,0)] (Tryz.f114.body.getD .skip) 0).1
noncomputable def z6o:List (FI dat):=[zay]
theorem z6m:(zza).Good Tryz.prog dat (tb z6o):=FI.yz4 (hD:=zz2 _) Tryz.func114 Tryz.ntmps114 Tryz.call114 (by kernel_rfl) (of_decide_eq_true (by kernel_rfl)) (by kernel_rfl) (λn=>by kernel_rfl) (λx=>by kernel_rfl) (λ_=>rfl) ⟨λ_=>rfl,trivial⟩
 (λn=>λx=>(yze.eq_2 x.1 x.2.1 n).trans (by kernel_rfl))
 (λn=>⟨λx=>(yz8.eq_2 x.1 x.2.1 x.2.2.1 x.2.2.2.1 n).trans (by kernel_rfl),
  trivial⟩)
 (λx=>.inl rfl)
theorem z5q:OkL Tryz.prog [zza]:=zz6 (zz2 _) (bs:=[zay]) ⟨zxl,trivial⟩ z6m
theorem z5m:FOk Tryz.prog zza:=z5q.1
end Go.Proofs.YtahcjggdcmgpkaaGreat
namespace Go.Proofs.YtahcjggdcmgpkaaGreat
open Go Go.Ab
set_option linter.unusedVariables false
set_option maxRecDepth 100000
set_option maxHeartbeats 4000000
def z4r:Nat->kz5->kz5->Option Bool
 |0,_,_=>none
 |n+1,a0,a1 =>
  pIf (a0.weight==a1.weight)
   ((z4f n a0.when_.re a1.when_.re).bind λy0 =>
   pIf y0
    ((yze n a0.do_ a1.do_).bind λy1 =>
    some y1)
    (some false))
   (some false)
def y56:LSh:=⟨[(4,(.d .bool))],[],0,24⟩
noncomputable def zcu:FI dat:=FI.of dat 86 24 0 [(.d (.st 6)),(.d (.st 6))] [] [(.d .bool)] [] true y56 (R:=Bool) (λx=>x.1) (λr=>(r,())) (λn x=>z4r n x.1 x.2.1)
 (λn=>[]) (ann [] (Tryz.f86.body.getD .skip) 0).1
noncomputable def y3u:List (FI dat):=[zb7,zza]
theorem y57:(zcu).Good Tryz.prog dat (tb y3u):=FI.yz4 (hD:=zz2 _) Tryz.func86 Tryz.ntmps86 Tryz.call86 (by kernel_rfl) (of_decide_eq_true (by kernel_rfl)) (by kernel_rfl) (λn=>by kernel_rfl) (λx=>by kernel_rfl) (λ_=>rfl) trivial
 (λn=>λx=>(z4r.eq_2 x.1 x.2.1 n).trans (by kernel_rfl))
 (λn=>trivial)
 (λx=>.inl rfl)
theorem y4d:OkL Tryz.prog [zcu]:=zz6 (zz2 _) (bs:=[zb7,zza]) ⟨zwr,z5m,trivial⟩ y57
theorem y1t:FOk Tryz.prog zcu:=y4d.1
mutual
def kzk:Nat->(List kz5)->(List kz5)->Option Bool
 |0,_,_=>none
 |n+1,a0,a1 =>
  pIf ((a0.length:Int) != (a1.length:Int))
   (some false)
   (zzb n 0 a1 a0 (a0.length:Int))
def zzb:Nat->Int->(List kz5)->(List kz5)->Int->Option Bool
 |0,_,_,_,_=>none
 |n+1,a0,a1,a2,a3 =>
  pIf (decide (a0<a3))
   ((ix a2 a0).bind λx0 =>
   (ix a1 a0).bind λx1 =>
   (z4r n x0.re x1.re).bind λy2 =>
   pIf (!y2)
    (some false)
    (zzb n (IntKind.i64.wrap (a0+1)) a1 a2 a3))
   (some true)
end
def za9:LSh:=⟨[(6,(.d .bool))],[],0,32⟩
noncomputable def yzd:FI dat:=FI.of dat 85 32 0 [(.d (.sl (.st 6))),(.d (.sl (.st 6))),(.fn 86 [] [])] [] [(.d .bool)] [] true za9 (R:=Bool) (λx=>x.1) (λr=>(r,())) (λn x=>kzk n x.1 x.2.1)
 (λn=>[(0,⟨⟨[(17,(.d (.int .i64))),(2,(.fn 86 [] [])),(1,(.d (.sl (.st 6)))),(15,(.d (.sl (.st 6)))),(16,(.d (.int .i64)))],[],0,32⟩,λx=>zzb n x.1 x.2.1 x.2.2.1 x.2.2.2.1⟩)]) (ann [(14,0)] (Tryz.f85.body.getD .skip) 0).1
noncomputable def za1:List (FI dat):=[zcu]
theorem za6:(yzd).Good Tryz.prog dat (tb za1):=FI.yz4 (hD:=zz2 _) Tryz.func85 Tryz.ntmps85 Tryz.call85 (by kernel_rfl) (of_decide_eq_true (by kernel_rfl)) (by kernel_rfl) (λn=>by kernel_rfl) (λx=>by kernel_rfl) (λ_=>rfl) ⟨λ_=>rfl,trivial⟩
 (λn=>λx=>(kzk.eq_2 x.1 x.2.1 n).trans (by kernel_rfl))
 (λn=>⟨λx=>(zzb.eq_2 x.1 x.2.1 x.2.2.1 x.2.2.2.1 n).trans (by kernel_rfl),
  trivial⟩)
 (λx=>.inl rfl)
theorem zak:OkL Tryz.prog [yzd]:=zz6 (zz2 _) (bs:=[zcu]) ⟨y1t,trivial⟩ za6
theorem z9k:FOk Tryz.prog yzd:=zak.1
def zai:Nat->kz4->kz4->Option Bool
 |0,_,_=>none
 |n+1,a0,a1 =>
  pIf (a0.name==a1.name)
   ((z1c n a0.params a1.params).bind λy0 =>
   pIf y0
    ((kzk n a0.cases a1.cases).bind λy1 =>
    some y1)
    (some false))
   (some false)
def ycs:LSh:=⟨[(4,(.d .bool))],[],0,24⟩
noncomputable def zi8:FI dat:=FI.of dat 83 24 0 [(.d (.st 7)),(.d (.st 7))] [] [(.d .bool)] [] true ycs (R:=Bool) (λx=>x.1) (λr=>(r,())) (λn x=>zai n x.1 x.2.1)
 (λn=>[]) (ann [] (Tryz.f83.body.getD .skip) 0).1
noncomputable def ydw:List (FI dat):=[z1m,yzd]
theorem yea:(zi8).Good Tryz.prog dat (tb ydw):=FI.yz4 (hD:=zz2 _) Tryz.func83 Tryz.ntmps83 Tryz.call83 (by kernel_rfl) (of_decide_eq_true (by kernel_rfl)) (by kernel_rfl) (λn=>by kernel_rfl) (λx=>by kernel_rfl) (λ_=>rfl) trivial
 (λn=>λx=>(zai.eq_2 x.1 x.2.1 n).trans (by kernel_rfl))
 (λn=>trivial)
 (λx=>.inl rfl)
theorem ygn:OkL Tryz.prog [zi8]:=zz6 (zz2 _) (bs:=[z1m,yzd]) ⟨zo3,z9k,trivial⟩ yea
theorem ya9:FOk Tryz.prog zi8:=ygn.1
mutual
def zzk:Nat->(List kz4)->(List kz4)->Option Bool
 |0,_,_=>none
 |n+1,a0,a1 =>
  pIf ((a0.length:Int) != (a1.length:Int))
   (some false)
   (yzb n 0 a1 a0 (a0.length:Int))
def yzb:Nat->Int->(List kz4)->(List kz4)->Int->Option Bool
 |0,_,_,_,_=>none
 |n+1,a0,a1,a2,a3 =>
  pIf (decide (a0<a3))
   ((ix a2 a0).bind λx0 =>
   (ix a1 a0).bind λx1 =>
   (zai n x0 x1).bind λy2 =>
   pIf (!y2)
    (some false)
    (yzb n (IntKind.i64.wrap (a0+1)) a1 a2 a3))
   (some true)
end
def za3:LSh:=⟨[(6,(.d .bool))],[],0,32⟩
noncomputable def kzd:FI dat:=FI.of dat 82 32 0 [(.d (.sl (.st 7))),(.d (.sl (.st 7))),(.fn 83 [] [])] [] [(.d .bool)] [] true za3 (R:=Bool) (λx=>x.1) (λr=>(r,())) (λn x=>zzk n x.1 x.2.1)
 (λn=>[(0,⟨⟨[(17,(.d (.int .i64))),(2,(.fn 83 [] [])),(1,(.d (.sl (.st 7)))),(15,(.d (.sl (.st 7)))),(16,(.d (.int .i64)))],[],0,32⟩,λx=>yzb n x.1 x.2.1 x.2.2.1 x.2.2.2.1⟩)]) (ann [(14,0)] (Tryz.f82.body.getD .skip) 0).1
noncomputable def za4:List (FI dat):=[zi8]
theorem zad:(kzd).Good Tryz.prog dat (tb za4):=FI.yz4 (hD:=zz2 _) Tryz.func82 Tryz.ntmps82 Tryz.call82 (by kernel_rfl) (of_decide_eq_true (by kernel_rfl)) (by kernel_rfl) (λn=>by kernel_rfl) (λx=>by kernel_rfl) (λ_=>rfl) ⟨λ_=>rfl,trivial⟩
 (λn=>λx=>(zzk.eq_2 x.1 x.2.1 n).trans (by kernel_rfl))
 (λn=>⟨λx=>(yzb.eq_2 x.1 x.2.1 x.2.2.1 x.2.2.2.1 n).trans (by kernel_rfl),
  trivial⟩)
 (λx=>.inl rfl)
theorem zac:OkL Tryz.prog [kzd]:=zz6 (zz2 _) (bs:=[zi8]) ⟨ya9,trivial⟩ zad
theorem z9h:FOk Tryz.prog kzd:=zac.1
def zdg:Nat->zz0->zz0->Option Bool
 |0,_,_=>none
 |n+1,a0,a1 =>
  (zzl n a0.attrs a1.attrs).bind λy0 =>
  pIf y0
   ((zzk n a0.rules a1.rules).bind λy1 =>
   some y1)
   (some false)
def ysk:LSh:=⟨[(4,(.d .bool))],[],0,17⟩
noncomputable def zmr:FI dat:=FI.of dat 44 17 0 [(.d (.st 8)),(.d (.st 8))] [] [(.d .bool)] [] true ysk (R:=Bool) (λx=>x.1) (λr=>(r,())) (λn x=>zdg n x.1 x.2.1)
 (λn=>[]) (ann [] (Tryz.f44.body.getD .skip) 0).1
noncomputable def yo9:List (FI dat):=[zze,kzd]
theorem ypg:(zmr).Good Tryz.prog dat (tb yo9):=FI.yz4 (hD:=zz2 _) Tryz.func44 Tryz.ntmps44 Tryz.call44 (by kernel_rfl) (of_decide_eq_true (by kernel_rfl)) (by kernel_rfl) (λn=>by kernel_rfl) (λx=>by kernel_rfl) (λ_=>rfl) trivial
 (λn=>λx=>(zdg.eq_2 x.1 x.2.1 n).trans (by kernel_rfl))
 (λn=>trivial)
 (λx=>.inl rfl)
theorem yqq:OkL Tryz.prog [zmr]:=zz6 (zz2 _) (bs:=[zze,kzd]) ⟨z9g,z9h,trivial⟩ ypg
theorem yll:FOk Tryz.prog zmr:=yqq.1
def z9t:Nat->zz1->(List (List UInt8))->(List Bool)->Option (Bool×(List (List UInt8))×(List Bool))
 |0,_,_,_=>none
 |n+1,a0,a1,a2 =>
  (zd2 n a0.re (mks (List.zip a1 a2)) (mvs (List.zip a1 a2))).bind λy0 =>
  some (y0.1,(mks (List.zip y0.2.1 y0.2.2)),(mvs (List.zip y0.2.1 y0.2.2)))
def y7l:LSh:=⟨[(3,(.d .bool))],[(.cells [(.map 1)]),(.mp 55 .bool)],2,7⟩
noncomputable def ze9:FI dat:=FI.of dat 88 7 2 [(.d (.st 2)),(.ptr 0 0)] [(.cells [(.map 1)]),(.mp 55 .bool)] [(.d .bool)] [(.cells [(.map 1)]),(.mp 55 .bool)] false y7l (R:=Bool×(List (List UInt8))×(List Bool)) (λx=>(x.1,x.2.1,x.2.2.1)) (λr=>(r.1,r.2.1,r.2.2,())) (λn x=>z9t n x.1 x.2.1 x.2.2.1)
 (λn=>[]) (ann [] (Tryz.f88.body.getD .skip) 0).1
noncomputable def y76:List (FI dat):=[zcw]
theorem y5v:(ze9).Good Tryz.prog dat (tb y76):=FI.yz4 (hD:=zz2 _) Tryz.func88 Tryz.ntmps88 Tryz.call88 (by kernel_rfl) (of_decide_eq_true (by kernel_rfl)) (by kernel_rfl) (λn=>by kernel_rfl) (λx=>by kernel_rfl) (λ_=>rfl) trivial
 (λn=>λx=>(z9t.eq_2 x.1 x.2.1 x.2.2.1 n).trans (by kernel_rfl))
 (λn=>trivial)
 (λx=>.inr (by kernel_rfl))
theorem y6m:OkL Tryz.prog [ze9]:=zz6 (zz2 _) (bs:=[zcw]) ⟨zwe,trivial⟩ y5v
theorem y4m:FOk Tryz.prog ze9:=y6m.1
mutual
def kzr:Nat->(List zz1)->(List (List UInt8))->(List Bool)->Option (Int×(List (List UInt8))×(List Bool))
 |0,_,_,_=>none
 |n+1,a0,a1,a2 =>
  yzc n 0 a0 (a0.length:Int) (mks (List.zip a1 a2)) (mvs (List.zip a1 a2))
def yzc:Nat->Int->(List zz1)->Int->(List (List UInt8))->(List Bool)->Option (Int×(List (List UInt8))×(List Bool))
 |0,_,_,_,_,_=>none
 |n+1,a0,a1,a2,a3,a4 =>
  pIf (decide (a0<a2))
   ((ix a1 a0).bind λx0 =>
   (z9t n x0.re (mks (List.zip a3 a4)) (mvs (List.zip a3 a4))).bind λy1 =>
   pIf y1.1
    (some (a0,(mks (List.zip y1.2.1 y1.2.2)),(mvs (List.zip y1.2.1 y1.2.2))))
    (yzc n (IntKind.i64.wrap (a0+1)) a1 a2 (mks (List.zip y1.2.1 y1.2.2)) (mvs (List.zip y1.2.1 y1.2.2))))
   (some ((-1),(mks (List.zip a3 a4)),(mvs (List.zip a3 a4))))
end
def zgr:LSh:=⟨[(4,(.d (.int .i64)))],[(.cells [(.map 1)]),(.mp 55 .bool)],2,19⟩
noncomputable def yzt:FI dat:=FI.of dat 104 19 2 [(.d (.sl (.st 2))),(.fn 88 [] [(.ptr 0 0)])] [(.cells [(.map 1)]),(.mp 55 .bool)] [(.d (.int .i64))] [(.cells [(.map 1)]),(.mp 55 .bool)] false zgr (R:=Int×(List (List UInt8))×(List Bool)) (λx=>(x.1,x.2.1,x.2.2.1)) (λr=>(r.1,r.2.1,r.2.2,())) (λn x=>kzr n x.1 x.2.1 x.2.2.1)
 (λn=>[(0,⟨⟨[(8,(.d (.int .i64))),(0,(.d (.sl (.st 2)))),(1,(.fn 88 [] [(.ptr 0 0)])),(7,(.d (.int .i64)))],[(.cells [(.map 1)]),(.mp 55 .bool)],2,19⟩,λx=>yzc n x.1 x.2.1 x.2.2.1 x.2.2.2.1 x.2.2.2.2.1⟩)]) (ann [(6,0)] (Tryz.f104.body.getD .skip) 0).1
noncomputable def zgv:List (FI dat):=[ze9]
theorem zgx:(yzt).Good Tryz.prog dat (tb zgv):=FI.yz4 (hD:=zz2 _) Tryz.func104 Tryz.ntmps104 Tryz.call104 (by kernel_rfl) (of_decide_eq_true (by kernel_rfl)) (by kernel_rfl) (λn=>by kernel_rfl) (λx=>by kernel_rfl) (λ_=>rfl) ⟨λ_=>rfl,trivial⟩
 (λn=>λx=>(kzr.eq_2 x.1 x.2.1 x.2.2.1 n).trans (by kernel_rfl))
 (λn=>⟨λx=>(yzc.eq_2 x.1 x.2.1 x.2.2.1 x.2.2.2.1 x.2.2.2.2.1 n).trans (by kernel_rfl),
  trivial⟩)
 (λx=>.inr (by kernel_rfl))
theorem zh6:OkL Tryz.prog [yzt]:=zz6 (zz2 _) (bs:=[ze9]) ⟨y4m,trivial⟩ zgx
theorem zgh:FOk Tryz.prog yzt:=zh6.1
def zzh:Nat->(List zz1)->(List (List UInt8))->(List Bool)->Option (Bool×(List (List UInt8))×(List Bool))
 |0,_,_,_=>none
 |n+1,a0,a1,a2 =>
  (kzr n a0 (mks (List.zip a1 a2)) (mvs (List.zip a1 a2))).bind λy0 =>
  some ((decide (y0.1>=0)),(mks (List.zip y0.2.1 y0.2.2)),(mvs (List.zip y0.2.1 y0.2.2)))
def zf4:LSh:=⟨[(4,(.d .bool))],[(.cells [(.map 1)]),(.mp 55 .bool)],2,9⟩
noncomputable def yzp:FI dat:=FI.of dat 60 9 2 [(.d (.sl (.st 2))),(.fn 88 [] [(.ptr 0 0)])] [(.cells [(.map 1)]),(.mp 55 .bool)] [(.d .bool)] [(.cells [(.map 1)]),(.mp 55 .bool)] false zf4 (R:=Bool×(List (List UInt8))×(List Bool)) (λx=>(x.1,x.2.1,x.2.2.1)) (λr=>(r.1,r.2.1,r.2.2,())) (λn x=>zzh n x.1 x.2.1 x.2.2.1)
 (λn=>[]) (ann [] (Tryz.f60.body.getD .skip) 0).1
noncomputable def zfm:List (FI dat):=[yzt]
theorem zfd:(yzp).Good Tryz.prog dat (tb zfm):=FI.yz4 (hD:=zz2 _) Tryz.func60 Tryz.ntmps60 Tryz.call60 (by kernel_rfl) (of_decide_eq_true (by kernel_rfl)) (by kernel_rfl) (λn=>by kernel_rfl) (λx=>by kernel_rfl) (λ_=>rfl) trivial
 (λn=>λx=>(zzh.eq_2 x.1 x.2.1 x.2.2.1 n).trans (by kernel_rfl))
 (λn=>trivial)
 (λx=>.inr (by kernel_rfl))
theorem zff:OkL Tryz.prog [yzp]:=zz6 (zz2 _) (bs:=[yzt]) ⟨zgh,trivial⟩ zfd
theorem zey:FOk Tryz.prog yzp:=zff.1
mutual
def zc9:Nat->kz4->(List (List UInt8))->(List Bool)->Option (Bool×(List (List UInt8))×(List Bool))
 |0,_,_,_=>none
 |n+1,a0,a1,a2 =>
  z4j n 0 a0.cases (a0.cases.length:Int) (mks (List.zip a1 a2)) (mvs (List.zip a1 a2))
def z4j:Nat->Int->(List kz5)->Int->(List (List UInt8))->(List Bool)->Option (Bool×(List (List UInt8))×(List Bool))
 |0,_,_,_,_,_=>none
 |n+1,a0,a1,a2,a3,a4 =>
  pIf (decide (a0<a2))
   ((ix a1 a0).bind λx0 =>
   (zd2 n x0.when_.re (mks (List.zip a3 a4)) (mvs (List.zip a3 a4))).bind λy1 =>
   pIf y1.1
    (some (true,(mks (List.zip y1.2.1 y1.2.2)),(mvs (List.zip y1.2.1 y1.2.2))))
    (z4p n 0 x0.do_ a1 a2 a0 (x0.do_.length:Int) (mks (List.zip y1.2.1 y1.2.2)) (mvs (List.zip y1.2.1 y1.2.2))))
   (some (false,(mks (List.zip a3 a4)),(mvs (List.zip a3 a4))))
def z4p:Nat->Int->(List zz3)->(List kz5)->Int->Int->Int->(List (List UInt8))->(List Bool)->Option (Bool×(List (List UInt8))×(List Bool))
 |0,_,_,_,_,_,_,_,_=>none
 |n+1,a0,a1,a2,a3,a4,a5,a6,a7 =>
  pIf (decide (a0<a5))
   ((ix a1 a0).bind λx2 =>
   (z5k n x2.args).bind λy3 =>
   z4z n 0 x2.items a1 a2 a3 a4 a5 a0 (x2.items.length:Int) (mks (List.zip a6 a7)) (mvs (List.zip a6 a7)) y3)
   (z4j n (IntKind.i64.wrap (a4+1)) a2 a3 (mks (List.zip a6 a7)) (mvs (List.zip a6 a7)))
def z4z:Nat->Int->(List yza)->(List zz3)->(List kz5)->Int->Int->Int->Int->Int->(List (List UInt8))->(List Bool)->(List zz1)->Option (Bool×(List (List UInt8))×(List Bool))
 |0,_,_,_,_,_,_,_,_,_,_,_,_=>none
 |n+1,a0,a1,a2,a3,a4,a5,a6,a7,a8,a9,a10,a11 =>
  pIf (decide (a0<a8))
   ((ix a1 a0).bind λx4 =>
   (ext a11 x4.args).bind λx5 =>
   z4z n (IntKind.i64.wrap (a0+1)) a1 a2 a3 a4 a5 a6 a7 a8 (mks (List.zip a9 a10)) (mvs (List.zip a9 a10)) x5)
   ((zzh n a11 (mks (List.zip a9 a10)) (mvs (List.zip a9 a10))).bind λy6 =>
   pIf y6.1
    (some (true,(mks (List.zip y6.2.1 y6.2.2)),(mvs (List.zip y6.2.1 y6.2.2))))
    (z4p n (IntKind.i64.wrap (a7+1)) a2 a3 a4 a5 a6 (mks (List.zip y6.2.1 y6.2.2)) (mvs (List.zip y6.2.1 y6.2.2))))
end
def yf0:LSh:=⟨[(4,(.d .bool))],[(.mp 55 .bool)],1,50⟩
noncomputable def zht:FI dat:=FI.of dat 45 50 1 [(.d (.st 7)),(.map 0)] [(.mp 55 .bool)] [(.d .bool)] [(.mp 55 .bool)] false yf0 (R:=Bool×(List (List UInt8))×(List Bool)) (λx=>(x.1,x.2.1,x.2.2.1)) (λr=>(r.1,r.2.1,r.2.2,())) (λn x=>zc9 n x.1 x.2.1 x.2.2.1)
 (λn=>[(0,⟨⟨[(3,(.ptr 1 0)),(15,(.d (.int .i64))),(13,(.d (.sl (.st 6)))),(14,(.d (.int .i64)))],[(.mp 55 .bool),(.cells [(.map 0)])],1,50⟩,λx=>z4j n x.1 x.2.1 x.2.2.1 x.2.2.2.1 x.2.2.2.2.1⟩),(1,⟨⟨[(26,(.d (.int .i64))),(3,(.ptr 1 0)),(24,(.d (.sl (.st 5)))),(13,(.d (.sl (.st 6)))),(14,(.d (.int .i64))),(15,(.d (.int .i64))),(25,(.d (.int .i64)))],[(.mp 55 .bool),(.cells [(.map 0)])],1,50⟩,λx=>z4p n x.1 x.2.1 x.2.2.1 x.2.2.2.1 x.2.2.2.2.1 x.2.2.2.2.2.1 x.2.2.2.2.2.2.1 x.2.2.2.2.2.2.2.1⟩),(2,⟨⟨[(36,(.d (.int .i64))),(9,(.own 1)),(34,(.d (.sl (.st 4)))),(3,(.ptr 2 0)),(24,(.d (.sl (.st 5)))),(13,(.d (.sl (.st 6)))),(14,(.d (.int .i64))),(15,(.d (.int .i64))),(25,(.d (.int .i64))),(26,(.d (.int .i64))),(35,(.d (.int .i64)))],[(.mp 55 .bool),(.acc 43 (.st 2) true),(.cells [(.map 0)])],1,50⟩,λx=>z4z n x.1 x.2.1 x.2.2.1 x.2.2.2.1 x.2.2.2.2.1 x.2.2.2.2.2.1 x.2.2.2.2.2.2.1 x.2.2.2.2.2.2.2.1 x.2.2.2.2.2.2.2.2.1 x.2.2.2.2.2.2.2.2.2.1 x.2.2.2.2.2.2.2.2.2.2.1 x.2.2.2.2.2.2.2.2.2.2.2.1⟩)]) (ann [(6,0),(28,1),(45,2)] (Tryz.f45.body.getD .skip) 0).1
noncomputable def yej:List (FI dat):=[zcw,z6x,yzp]
theorem ycp:(zht).Good Tryz.prog dat (tb yej):=FI.yz4 (hD:=zz2 _) Tryz.func45 Tryz.ntmps45 Tryz.call45 (by kernel_rfl) (of_decide_eq_true (by kernel_rfl)) (by kernel_rfl) (λn=>by kernel_rfl) (λx=>by kernel_rfl) (λ_=>rfl) ⟨λ_=>rfl,λ_=>rfl,λ_=>rfl,trivial⟩
 (λn=>λx=>(zc9.eq_2 x.1 x.2.1 x.2.2.1 n).trans (by kernel_rfl))
 (λn=>⟨λx=>(z4j.eq_2 x.1 x.2.1 x.2.2.1 x.2.2.2.1 x.2.2.2.2.1 n).trans (by kernel_rfl),
  λx=>(z4p.eq_2 x.1 x.2.1 x.2.2.1 x.2.2.2.1 x.2.2.2.2.1 x.2.2.2.2.2.1 x.2.2.2.2.2.2.1 x.2.2.2.2.2.2.2.1 n).trans (by kernel_rfl),
  λx=>(z4z.eq_2 x.1 x.2.1 x.2.2.1 x.2.2.2.1 x.2.2.2.2.1 x.2.2.2.2.2.1 x.2.2.2.2.2.2.1 x.2.2.2.2.2.2.2.1 x.2.2.2.2.2.2.2.2.1 x.2.2.2.2.2.2.2.2.2.1 x.2.2.2.2.2.2.2.2.2.2.1 x.2.2.2.2.2.2.2.2.2.2.2.1 n).trans (by kernel_rfl),
  trivial⟩)
 (λx=>.inr (by kernel_rfl))
theorem yez:OkL Tryz.prog [zht]:=zz6 (zz2 _) (bs:=[zcw,z6x,yzp]) ⟨zwe,zln,zey,trivial⟩ ycp
theorem y9b:FOk Tryz.prog zht:=yez.1
end Go.Proofs.YtahcjggdcmgpkaaGreat
namespace Go.Proofs.YtahcjggdcmgpkaaGreat
open Go Go.Ab
set_option linter.unusedVariables false
set_option maxRecDepth 100000
set_option maxHeartbeats 4000000
mutual
def zan:Nat->zz0->zz0->Option (Res ((List UInt8)×Unit) ((List (List UInt8))×(List Bool)))
 |0,_,_=>none
 |n+1,a0,a1 =>
  (zd7 n a0 a1).bind λy0 =>
  y60 y0 (λr1 =>
   (kzs n [a0.rules,a1.rules]).bind λy2 =>
   y60 y2 (λr3 =>
    z50 n 0 r3 (r3.length:Int) [] [] (mks (List.zip r1.1 r1.2)) (mvs (List.zip r1.1 r1.2)) a1 a0)
    (λe4 =>
    some (Res.pan (e4.1,()))))
   (λe5 =>
   some (Res.pan (e5.1,())))
def z50:Nat->Int->(List kz4)->Int->(List (List UInt8))->(List Bool)->(List (List UInt8))->(List Bool)->zz0->zz0->Option (Res ((List UInt8)×Unit) ((List (List UInt8))×(List Bool)))
 |0,_,_,_,_,_,_,_,_,_=>none
 |n+1,a0,a1,a2,a3,a4,a5,a6,a7,a8 =>
  pIf (decide (a0<a2))
   ((ix a1 a0).bind λx6 =>
   (zfl n a8 x6.name).bind λy7 =>
   (zfl n a7 x6.name).bind λy8 =>
   pIf (decide (y7<0))
    (z1f n a1 a2 a0 true (mks (List.zip a3 a4)) (mvs (List.zip a3 a4)) (mks (List.zip a5 a6)) (mvs (List.zip a5 a6)) a7 a8 x6)
    (pIf (decide (y8<0))
      (z1f n a1 a2 a0 true (mks (List.zip a3 a4)) (mvs (List.zip a3 a4)) (mks (List.zip a5 a6)) (mvs (List.zip a5 a6)) a7 a8 x6)
      ((sub a8.rules y7 (IntKind.i64.wrap (y7+1))).bind λx9 =>
      (sub a7.rules y8 (IntKind.i64.wrap (y8+1))).bind λx10 =>
      (zdg n (zz0.mk [] x9) (zz0.mk [] x10)).bind λy11 =>
      pIf (!y11)
       (z1f n a1 a2 a0 true (mks (List.zip a3 a4)) (mvs (List.zip a3 a4)) (mks (List.zip a5 a6)) (mvs (List.zip a5 a6)) a7 a8 x6)
       ((zc9 n x6 (mks (List.zip a5 a6)) (mvs (List.zip a5 a6))).bind λy12 =>
       z1f n a1 a2 a0 y12.1 (mks (List.zip a3 a4)) (mvs (List.zip a3 a4)) (mks (List.zip y12.2.1 y12.2.2)) (mvs (List.zip y12.2.1 y12.2.2)) a7 a8 x6))))
   (some (Res.ok ((mks (List.zip a3 a4)),(mvs (List.zip a3 a4)))))
def z1f:Nat->(List kz4)->Int->Int->Bool->(List (List UInt8))->(List Bool)->(List (List UInt8))->(List Bool)->zz0->zz0->kz4->Option (Res ((List UInt8)×Unit) ((List (List UInt8))×(List Bool)))
 |0,_,_,_,_,_,_,_,_,_,_,_=>none
 |n+1,a0,a1,a2,a3,a4,a5,a6,a7,a8,a9,a10 =>
  pIf a3
   (z8e n a0 a1 a2 (mks (z95 (List.zip a4 a5) a10.name true)) (mvs (z95 (List.zip a4 a5) a10.name true)) (mks (List.zip a6 a7)) (mvs (List.zip a6 a7)) a8 a9)
   (z8e n a0 a1 a2 (mks (List.zip a4 a5)) (mvs (List.zip a4 a5)) (mks (List.zip a6 a7)) (mvs (List.zip a6 a7)) a8 a9)
def z8e:Nat->(List kz4)->Int->Int->(List (List UInt8))->(List Bool)->(List (List UInt8))->(List Bool)->zz0->zz0->Option (Res ((List UInt8)×Unit) ((List (List UInt8))×(List Bool)))
 |0,_,_,_,_,_,_,_,_,_=>none
 |n+1,a0,a1,a2,a3,a4,a5,a6,a7,a8 =>
  z50 n (IntKind.i64.wrap (a2+1)) a0 a1 (mks (List.zip a3 a4)) (mvs (List.zip a3 a4)) (mks (List.zip a5 a6)) (mvs (List.zip a5 a6)) a7 a8
end
def yei:LSh:=⟨[(4,(.map 0))],[(.mp 55 .bool)],0,68⟩
noncomputable def zbw:FI dat:=FI.ofP dat 19 68 0 [(.d (.st 8)),(.d (.st 8))] [] [(.map 0)] [(.mp 55 .bool)] (.iface 9 (.d .str)) [] [] yei (R:=(List (List UInt8))×(List Bool)) (λx=>(x.1,x.2.1)) (λr=>(r.1,r.2,())) (λn x=>zan n x.1 x.2.1)
 (λn=>[(0,⟨⟨[(22,(.d (.int .i64))),(5,(.map 0)),(6,(.map 1)),(3,(.ptr 2 0)),(2,(.ptr 3 0)),(20,(.d (.sl (.st 7)))),(21,(.d (.int .i64)))],[(.mp 55 .bool),(.mp 55 .bool),(.st 8),(.st 8)],0,68⟩,λx=>z50 n x.1 x.2.1 x.2.2.1 x.2.2.2.1 x.2.2.2.2.1 x.2.2.2.2.2.1 x.2.2.2.2.2.2.1 x.2.2.2.2.2.2.2.1 x.2.2.2.2.2.2.2.2.1⟩),(1,⟨⟨[(5,(.map 0)),(6,(.map 1)),(3,(.ptr 2 0)),(2,(.ptr 3 0)),(20,(.d (.sl (.st 7)))),(21,(.d (.int .i64))),(22,(.d (.int .i64))),(8,(.ptr 4 0)),(62,(.d .bool))],[(.mp 55 .bool),(.mp 55 .bool),(.st 8),(.st 8),(.st 7)],0,68⟩,λx=>z1f n x.1 x.2.1 x.2.2.1 x.2.2.2.1 x.2.2.2.2.1 x.2.2.2.2.2.1 x.2.2.2.2.2.2.1 x.2.2.2.2.2.2.2.1 x.2.2.2.2.2.2.2.2.1 x.2.2.2.2.2.2.2.2.2.1 x.2.2.2.2.2.2.2.2.2.2.1⟩),(2,⟨⟨[(5,(.map 0)),(6,(.map 1)),(3,(.ptr 2 0)),(2,(.ptr 3 0)),(20,(.d (.sl (.st 7)))),(21,(.d (.int .i64))),(22,(.d (.int .i64)))],[(.mp 55 .bool),(.mp 55 .bool),(.st 8),(.st 8)],0,68⟩,λx=>z8e n x.1 x.2.1 x.2.2.1 x.2.2.2.1 x.2.2.2.2.1 x.2.2.2.2.2.1 x.2.2.2.2.2.2.1 x.2.2.2.2.2.2.2.1 x.2.2.2.2.2.2.2.2.1⟩)]) (ann [(10,0),(25,1),(28,2)] (Tryz.f19.body.getD .skip) 0).1
noncomputable def yeg:List (FI dat):=[zfo,z0f,zht,zoh,zmr]
theorem yde:(zbw).Good Tryz.prog dat (tb yeg):=FI.zol (hD:=zz2 _) Tryz.func19 Tryz.ntmps19 Tryz.call19 (by kernel_rfl) (of_decide_eq_true (by kernel_rfl)) (by kernel_rfl) (λn=>by kernel_rfl) trivial (λx=>by kernel_rfl) (λ_=>rfl) ⟨λ_=>rfl,λ_=>rfl,λ_=>rfl,trivial⟩
 (λn=>λx=>(zan.eq_2 x.1 x.2.1 n).trans (by kernel_rfl))
 (λn=>⟨λx=>(z50.eq_2 x.1 x.2.1 x.2.2.1 x.2.2.2.1 x.2.2.2.2.1 x.2.2.2.2.2.1 x.2.2.2.2.2.2.1 x.2.2.2.2.2.2.2.1 x.2.2.2.2.2.2.2.2.1 n).trans (by kernel_rfl),
  λx=>(z1f.eq_2 x.1 x.2.1 x.2.2.1 x.2.2.2.1 x.2.2.2.2.1 x.2.2.2.2.2.1 x.2.2.2.2.2.2.1 x.2.2.2.2.2.2.2.1 x.2.2.2.2.2.2.2.2.1 x.2.2.2.2.2.2.2.2.2.1 x.2.2.2.2.2.2.2.2.2.2.1 n).trans (by kernel_rfl),
  λx=>(z8e.eq_2 x.1 x.2.1 x.2.2.1 x.2.2.2.1 x.2.2.2.2.1 x.2.2.2.2.2.1 x.2.2.2.2.2.2.1 x.2.2.2.2.2.2.2.1 x.2.2.2.2.2.2.2.2.1 n).trans (by kernel_rfl),
  trivial⟩)
 (λx=>by kernel_rfl)
theorem ygx:OkL Tryz.prog [zbw]:=zz6 (zz2 _) (bs:=[zfo,z0f,zht,zoh,zmr]) ⟨y0z,zl1,y9b,ys5,yll,trivial⟩ yde
theorem zx3:FOk Tryz.prog zbw:=ygx.1
noncomputable def zap:Nat->zz0->zz0->Option (Res ((List UInt8)×Unit) ((List (List UInt8))×Int))
 |0,_,_=>none
 |n+1,a0,a1 =>
  (zcm n a0 a1).bind λy0 =>
  pIf (y0 != 0)
   (some (Res.ok ([],y0)))
   ((zan n a0 a1).bind λy1 =>
   y60 y1 (λr2 =>
    (zbr n (mks (List.zip r2.1 r2.2)) (mvs (List.zip r2.1 r2.2))).bind λy3 =>
    some (Res.ok (y3.1,0)))
    (λe4 =>
    some (Res.pan (e4.1,()))))
def ydt:LSh:=⟨[(4,(.d (.sl .str))),(5,(.d (.int .i64)))],[],0,17⟩
noncomputable def zhc:FI dat:=FI.ofP dat 7 17 0 [(.d (.st 8)),(.d (.st 8))] [] [(.d (.sl .str)),(.d (.int .i64))] [] (.iface 9 (.d .str)) [] [] ydt (R:=(List (List UInt8))×Int) (λx=>(x.1,x.2.1)) (λr=>(r.1,r.2,())) (λn x=>zap n x.1 x.2.1)
 (λn=>[]) (ann [] (Tryz.f7.body.getD .skip) 0).1
noncomputable def ycf:List (FI dat):=[zbw,zds,zcy]
theorem yco:(zhc).Good Tryz.prog dat (tb ycf):=FI.zol (hD:=zz2 _) Tryz.func7 Tryz.ntmps7 Tryz.call7 (by kernel_rfl) (of_decide_eq_true (by kernel_rfl)) (by kernel_rfl) (λn=>by kernel_rfl) trivial (λx=>by kernel_rfl) (λ_=>rfl) trivial
 (λn=>λx=>(zap.eq_2 x.1 x.2.1 n).trans (by kernel_rfl))
 (λn=>trivial)
 (λx=>by kernel_rfl)
theorem yby:OkL Tryz.prog [zhc]:=zz6 (zz2 _) (bs:=[zbw,zds,zcy]) ⟨zx3,zra,zw5,trivial⟩ yco
theorem ya0:FOk Tryz.prog zhc:=yby.1
def zdj:Nat->zz0->(List UInt8)->Option (Bool×kz4)
 |0,_,_=>none
 |n+1,a0,a1 =>
  (z16 n a0).bind λy0 =>
  (z44 n y0 a1).bind λy1 =>
  pIf (decide (y1<0))
   (some (false,(kz4.mk [] [] [])))
   ((ix a0.rules y1).bind λx2 =>
   some (true,x2))
def yq5:LSh:=⟨[(4,(.ptr 0 0)),(5,(.d .bool))],[(.st 7)],0,19⟩
noncomputable def zmu:FI dat:=FI.of dat 46 19 0 [(.d (.st 8)),(.d .str)] [] [(.d (.st 7)),(.d .bool)] [] true yq5 (R:=Bool×kz4) (λx=>(x.1,x.2.1)) (λr=>(r.2,r.1,())) (λn x=>zdj n x.1 x.2.1)
 (λn=>[]) (ann [] (Tryz.f46.body.getD .skip) 0).1
noncomputable def ypb:List (FI dat):=[z03,z0r]
theorem yt6:(zmu).Good Tryz.prog dat (tb ypb):=FI.yz4 (hD:=zz2 _) Tryz.func46 Tryz.ntmps46 Tryz.call46 (by kernel_rfl) (of_decide_eq_true (by kernel_rfl)) (by kernel_rfl) (λn=>by kernel_rfl) (λx=>by kernel_rfl) (λ_=>rfl) trivial
 (λn=>λx=>(zdj.eq_2 x.1 x.2.1 n).trans (by kernel_rfl))
 (λn=>trivial)
 (λx=>.inl rfl)
theorem yrw:OkL Tryz.prog [zmu]:=zz6 (zz2 _) (bs:=[z03,z0r]) ⟨zbn,zcr,trivial⟩ yt6
theorem ymf:FOk Tryz.prog zmu:=yrw.1
def z52:Nat->(List zz1)->(List zz1)->Option Bool
 |0,_,_=>none
 |n+1,a0,a1 =>
  (z05 n a0).bind λy0 =>
  (z05 n a1).bind λy1 =>
  (z5o n y0.re y1.re).bind λy2 =>
  some y2
def y53:LSh:=⟨[(4,(.d .bool))],[],0,10⟩
noncomputable def zck:FI dat:=FI.of dat 141 10 0 [(.d (.sl (.st 2))),(.d (.sl (.st 2)))] [] [(.d .bool)] [] true y53 (R:=Bool) (λx=>x.1) (λr=>(r,())) (λn x=>z52 n x.1 x.2.1)
 (λn=>[]) (ann [] (Tryz.f141.body.getD .skip) 0).1
noncomputable def y5f:List (FI dat):=[z6n,z98]
theorem y4i:(zck).Good Tryz.prog dat (tb y5f):=FI.yz4 (hD:=zz2 _) Tryz.func141 Tryz.ntmps141 Tryz.call141 (by kernel_rfl) (of_decide_eq_true (by kernel_rfl)) (by kernel_rfl) (λn=>by kernel_rfl) (λx=>by kernel_rfl) (λ_=>rfl) trivial
 (λn=>λx=>(z52.eq_2 x.1 x.2.1 n).trans (by kernel_rfl))
 (λn=>trivial)
 (λx=>.inl rfl)
theorem y4f:OkL Tryz.prog [zck]:=zz6 (zz2 _) (bs:=[z6n,z98]) ⟨zo0,ztn,trivial⟩ y4i
theorem y22:FOk Tryz.prog zck:=y4f.1
mutual
def z56:Nat->zz3->zz3->Option Bool
 |0,_,_=>none
 |n+1,a0,a1 =>
  pIf (a0.kind != a1.kind)
   (zzr n true a1 a0)
   (pIf (a0.axis != a1.axis)
     (zzr n true a1 a0)
     (pIf (!(a0.name==a1.name))
       (zzr n true a1 a0)
       ((z52 n a0.args a1.args).bind λy0 =>
       pIf (!y0)
        (zzr n true a1 a0)
        (zzr n ((a0.items.length:Int) != (a1.items.length:Int)) a1 a0))))
def zzr:Nat->Bool->zz3->zz3->Option Bool
 |0,_,_,_=>none
 |n+1,a0,a1,a2 =>
  pIf a0
   (some false)
   (z14 n 0 a1 a2)
def z14:Nat->Int->zz3->zz3->Option Bool
 |0,_,_,_=>none
 |n+1,a0,a1,a2 =>
  pIf (decide (a0<(a2.items.length:Int)))
   ((ix a2.items a0).bind λx1 =>
   (ix a1.items a0).bind λx2 =>
   pIf (x1.kind != x2.kind)
    (z0b n a0 true a1 a2)
    ((ix a2.items a0).bind λx3 =>
    (ix a1.items a0).bind λx4 =>
    pIf (!(x3.name==x4.name))
     (z0b n a0 true a1 a2)
     ((ix a2.items a0).bind λx5 =>
     (ix a1.items a0).bind λx6 =>
     (z52 n x5.args x6.args).bind λy7 =>
     z0b n a0 (!y7) a1 a2)))
   (some true)
def z0b:Nat->Int->Bool->zz3->zz3->Option Bool
 |0,_,_,_,_=>none
 |n+1,a0,a1,a2,a3 =>
  pIf a1
   (some false)
   (z14 n (IntKind.i64.wrap (a0+1)) a2 a3)
end
def y0j:LSh:=⟨[(4,(.d .bool))],[],0,93⟩
noncomputable def zaw:FI dat:=FI.of dat 116 93 0 [(.d (.st 5)),(.d (.st 5))] [] [(.d .bool)] [] true y0j (R:=Bool) (λx=>x.1) (λr=>(r,())) (λn x=>z56 n x.1 x.2.1)
 (λn=>[(0,⟨⟨[(3,(.ptr 0 0)),(2,(.ptr 1 0)),(41,(.d .bool))],[(.st 5),(.st 5)],0,93⟩,λx=>zzr n x.1 x.2.1 x.2.2.1⟩),(1,⟨⟨[(5,(.d (.int .i64))),(3,(.ptr 0 0)),(2,(.ptr 1 0))],[(.st 5),(.st 5)],0,93⟩,λx=>z14 n x.1 x.2.1 x.2.2.1⟩),(2,⟨⟨[(3,(.ptr 0 0)),(2,(.ptr 1 0)),(5,(.d (.int .i64))),(92,(.d .bool))],[(.st 5),(.st 5)],0,93⟩,λx=>z0b n x.1 x.2.1 x.2.2.1 x.2.2.2.1⟩)]) (ann [(5,0),(14,1),(25,2)] (Tryz.f116.body.getD .skip) 0).1
noncomputable def y0e:List (FI dat):=[zck]
theorem y0g:(zaw).Good Tryz.prog dat (tb y0e):=FI.yz4 (hD:=zz2 _) Tryz.func116 Tryz.ntmps116 Tryz.call116 (by kernel_rfl) (of_decide_eq_true (by kernel_rfl)) (by kernel_rfl) (λn=>by kernel_rfl) (λx=>by kernel_rfl) (λ_=>rfl) ⟨λ_=>rfl,λ_=>rfl,λ_=>rfl,trivial⟩
 (λn=>λx=>(z56.eq_2 x.1 x.2.1 n).trans (by kernel_rfl))
 (λn=>⟨λx=>(zzr.eq_2 x.1 x.2.1 x.2.2.1 n).trans (by kernel_rfl),
  λx=>(z14.eq_2 x.1 x.2.1 x.2.2.1 n).trans (by kernel_rfl),
  λx=>(z0b.eq_2 x.1 x.2.1 x.2.2.1 x.2.2.2.1 n).trans (by kernel_rfl),
  trivial⟩)
 (λx=>.inl rfl)
theorem y0p:OkL Tryz.prog [zaw]:=zz6 (zz2 _) (bs:=[zck]) ⟨y22,trivial⟩ y0g
theorem zyt:FOk Tryz.prog zaw:=y0p.1
mutual
def z8l:Nat->kz5->kz5->Option Bool
 |0,_,_=>none
 |n+1,a0,a1 =>
  pIf (a0.weight != a1.weight)
   (z0w n true a1.re a0.re)
   ((z5o n a0.when_.re a1.when_.re).bind λy0 =>
   pIf (!y0)
    (z0w n true a1.re a0.re)
    (z0w n ((a0.do_.length:Int) != (a1.do_.length:Int)) a1.re a0.re))
def z0w:Nat->Bool->kz5->kz5->Option Bool
 |0,_,_,_=>none
 |n+1,a0,a1,a2 =>
  pIf a0
   (some false)
   (z2c n 0 a1.re a2.re)
def z2c:Nat->Int->kz5->kz5->Option Bool
 |0,_,_,_=>none
 |n+1,a0,a1,a2 =>
  pIf (decide (a0<(a2.do_.length:Int)))
   ((ix a2.do_ a0).bind λx1 =>
   (ix a1.do_ a0).bind λx2 =>
   (z56 n x1 x2).bind λy3 =>
   pIf (!y3)
    (some false)
    (z2c n (IntKind.i64.wrap (a0+1)) a1.re a2.re))
   (some true)
end
def y3o:LSh:=⟨[(4,(.d .bool))],[],0,47⟩
noncomputable def zcv:FI dat:=FI.of dat 89 47 0 [(.d (.st 6)),(.d (.st 6))] [] [(.d .bool)] [] true y3o (R:=Bool) (λx=>x.1) (λr=>(r,())) (λn x=>z8l n x.1 x.2.1)
 (λn=>[(0,⟨⟨[(3,(.ptr 0 0)),(2,(.ptr 1 0)),(27,(.d .bool))],[(.st 6),(.st 6)],0,47⟩,λx=>z0w n x.1 x.2.1 x.2.2.1⟩),(1,⟨⟨[(5,(.d (.int .i64))),(3,(.ptr 0 0)),(2,(.ptr 1 0))],[(.st 6),(.st 6)],0,47⟩,λx=>z2c n x.1 x.2.1 x.2.2.1⟩)]) (ann [(5,0),(14,1)] (Tryz.f89.body.getD .skip) 0).1
noncomputable def y3m:List (FI dat):=[z98,zaw]
theorem y3e:(zcv).Good Tryz.prog dat (tb y3m):=FI.yz4 (hD:=zz2 _) Tryz.func89 Tryz.ntmps89 Tryz.call89 (by kernel_rfl) (of_decide_eq_true (by kernel_rfl)) (by kernel_rfl) (λn=>by kernel_rfl) (λx=>by kernel_rfl) (λ_=>rfl) ⟨λ_=>rfl,λ_=>rfl,trivial⟩
 (λn=>λx=>(z8l.eq_2 x.1 x.2.1 n).trans (by kernel_rfl))
 (λn=>⟨λx=>(z0w.eq_2 x.1 x.2.1 x.2.2.1 n).trans (by kernel_rfl),
  λx=>(z2c.eq_2 x.1 x.2.1 x.2.2.1 n).trans (by kernel_rfl),
  trivial⟩)
 (λx=>.inl rfl)
theorem y4s:OkL Tryz.prog [zcv]:=zz6 (zz2 _) (bs:=[z98,zaw]) ⟨ztn,zyt,trivial⟩ y3e
theorem y34:FOk Tryz.prog zcv:=y4s.1
mutual
def z8z:Nat->kz4->kz4->Option Bool
 |0,_,_=>none
 |n+1,a0,a1 =>
  pIf (!(a0.name==a1.name))
   (z0z n true a1 a0)
   (pIf ((a0.params.length:Int) != (a1.params.length:Int))
     (z0z n true a1 a0)
     (z0z n ((a0.cases.length:Int) != (a1.cases.length:Int)) a1 a0))
def z0z:Nat->Bool->kz4->kz4->Option Bool
 |0,_,_,_=>none
 |n+1,a0,a1,a2 =>
  pIf a0
   (some false)
   (z2b n 0 a1 a2)
def z2b:Nat->Int->kz4->kz4->Option Bool
 |0,_,_,_=>none
 |n+1,a0,a1,a2 =>
  pIf (decide (a0<(a2.params.length:Int)))
   ((ix a2.params a0).bind λx0 =>
   (ix a1.params a0).bind λx1 =>
   pIf (!(x0==x1))
    (some false)
    (z2b n (IntKind.i64.wrap (a0+1)) a1 a2))
   (z29 n 0 a1 a2)
def z29:Nat->Int->kz4->kz4->Option Bool
 |0,_,_,_=>none
 |n+1,a0,a1,a2 =>
  pIf (decide (a0<(a2.cases.length:Int)))
   ((ix a2.cases a0).bind λx2 =>
   (ix a1.cases a0).bind λx3 =>
   (z8l n x2.re x3.re).bind λy4 =>
   pIf (!y4)
    (some false)
    (z29 n (IntKind.i64.wrap (a0+1)) a1 a2))
   (some true)
end
def y4v:LSh:=⟨[(4,(.d .bool))],[],0,67⟩
noncomputable def zcs:FI dat:=FI.of dat 47 67 0 [(.d (.st 7)),(.d (.st 7))] [] [(.d .bool)] [] true y4v (R:=Bool) (λx=>x.1) (λr=>(r,())) (λn x=>z8z n x.1 x.2.1)
 (λn=>[(0,⟨⟨[(3,(.ptr 0 0)),(2,(.ptr 1 0)),(29,(.d .bool))],[(.st 7),(.st 7)],0,67⟩,λx=>z0z n x.1 x.2.1 x.2.2.1⟩),(1,⟨⟨[(5,(.d (.int .i64))),(3,(.ptr 0 0)),(2,(.ptr 1 0))],[(.st 7),(.st 7)],0,67⟩,λx=>z2b n x.1 x.2.1 x.2.2.1⟩),(2,⟨⟨[(6,(.d (.int .i64))),(3,(.ptr 0 0)),(2,(.ptr 1 0))],[(.st 7),(.st 7)],0,67⟩,λx=>z29 n x.1 x.2.1 x.2.2.1⟩)]) (ann [(5,0),(14,1),(35,2)] (Tryz.f47.body.getD .skip) 0).1
noncomputable def y4n:List (FI dat):=[zcv]
theorem y48:(zcs).Good Tryz.prog dat (tb y4n):=FI.yz4 (hD:=zz2 _) Tryz.func47 Tryz.ntmps47 Tryz.call47 (by kernel_rfl) (of_decide_eq_true (by kernel_rfl)) (by kernel_rfl) (λn=>by kernel_rfl) (λx=>by kernel_rfl) (λ_=>rfl) ⟨λ_=>rfl,λ_=>rfl,λ_=>rfl,trivial⟩
 (λn=>λx=>(z8z.eq_2 x.1 x.2.1 n).trans (by kernel_rfl))
 (λn=>⟨λx=>(z0z.eq_2 x.1 x.2.1 x.2.2.1 n).trans (by kernel_rfl),
  λx=>(z2b.eq_2 x.1 x.2.1 x.2.2.1 n).trans (by kernel_rfl),
  λx=>(z29.eq_2 x.1 x.2.1 x.2.2.1 n).trans (by kernel_rfl),
  trivial⟩)
 (λx=>.inl rfl)
theorem y4x:OkL Tryz.prog [zcs]:=zz6 (zz2 _) (bs:=[zcv]) ⟨y34,trivial⟩ y48
theorem y2d:FOk Tryz.prog zcs:=y4x.1
end Go.Proofs.YtahcjggdcmgpkaaGreat
namespace Go.Proofs.YtahcjggdcmgpkaaGreat
open Go Go.Ab
set_option linter.unusedVariables false
set_option maxRecDepth 100000
set_option maxHeartbeats 4000000
mutual
def zbk:Nat->kz4->(List (List UInt8))->Option Bool
 |0,_,_=>none
 |n+1,a0,a1 =>
  z3j n a1 0 a0
def z3j:Nat->(List (List UInt8))->Int->kz4->Option Bool
 |0,_,_,_=>none
 |n+1,a0,a1,a2 =>
  pIf (decide (a1<(a2.cases.length:Int)))
   ((ix a2.cases a1).bind λx0 =>
   (z92 n x0.when_.re a0).bind λy1 =>
   pIf y1
    (some true)
    (z3g n a0 0 a1 a2))
   (some false)
def z3g:Nat->(List (List UInt8))->Int->Int->kz4->Option Bool
 |0,_,_,_,_=>none
 |n+1,a0,a1,a2,a3 =>
  (ix a3.cases a2).bind λx2 =>
  pIf (decide (a1<(x2.do_.length:Int)))
   ((ix a3.cases a2).bind λx3 =>
   (ix x3.do_ a1).bind λx4 =>
   (z05 n x4.args).bind λy5 =>
   (z92 n y5.re a0).bind λy6 =>
   pIf y6
    (some true)
    (z3o n 0 a0 a2 a1 x4 a3))
   (z3j n a0 (IntKind.i64.wrap (a2+1)) a3)
def z3o:Nat->Int->(List (List UInt8))->Int->Int->zz3->kz4->Option Bool
 |0,_,_,_,_,_,_=>none
 |n+1,a0,a1,a2,a3,a4,a5 =>
  pIf (decide (a0<(a4.items.length:Int)))
   ((ix a4.items a0).bind λx7 =>
   (z05 n x7.args).bind λy8 =>
   (z92 n y8.re a1).bind λy9 =>
   pIf y9
    (some true)
    (z3o n (IntKind.i64.wrap (a0+1)) a1 a2 a3 a4 a5))
   (z3g n a1 (IntKind.i64.wrap (a3+1)) a2 a5)
end
def y9c:LSh:=⟨[(4,(.d .bool))],[],0,65⟩
noncomputable def zft:FI dat:=FI.of dat 48 65 0 [(.d (.st 7)),(.d (.sl .str))] [] [(.d .bool)] [] true y9c (R:=Bool) (λx=>x.1) (λr=>(r,())) (λn x=>zbk n x.1 x.2.1)
 (λn=>[(0,⟨⟨[(1,(.d (.sl .str))),(5,(.d (.int .i64))),(2,(.ptr 0 0))],[(.st 7)],0,65⟩,λx=>z3j n x.1 x.2.1 x.2.2.1⟩),(1,⟨⟨[(1,(.d (.sl .str))),(6,(.d (.int .i64))),(5,(.d (.int .i64))),(2,(.ptr 0 0))],[(.st 7)],0,65⟩,λx=>z3g n x.1 x.2.1 x.2.2.1 x.2.2.2.1⟩),(2,⟨⟨[(8,(.d (.int .i64))),(1,(.d (.sl .str))),(7,(.ptr 0 0)),(5,(.d (.int .i64))),(2,(.ptr 1 0)),(6,(.d (.int .i64)))],[(.st 5),(.st 7)],0,65⟩,λx=>z3o n x.1 x.2.1 x.2.2.1 x.2.2.2.1 x.2.2.2.2.1 x.2.2.2.2.2.1⟩)]) (ann [(6,0),(26,1),(48,2)] (Tryz.f48.body.getD .skip) 0).1
noncomputable def y99:List (FI dat):=[zfa,z6n]
theorem y98:(zft).Good Tryz.prog dat (tb y99):=FI.yz4 (hD:=zz2 _) Tryz.func48 Tryz.ntmps48 Tryz.call48 (by kernel_rfl) (of_decide_eq_true (by kernel_rfl)) (by kernel_rfl) (λn=>by kernel_rfl) (λx=>by kernel_rfl) (λ_=>rfl) ⟨λ_=>rfl,λ_=>rfl,λ_=>rfl,trivial⟩
 (λn=>λx=>(zbk.eq_2 x.1 x.2.1 n).trans (by kernel_rfl))
 (λn=>⟨λx=>(z3j.eq_2 x.1 x.2.1 x.2.2.1 n).trans (by kernel_rfl),
  λx=>(z3g.eq_2 x.1 x.2.1 x.2.2.1 x.2.2.2.1 n).trans (by kernel_rfl),
  λx=>(z3o.eq_2 x.1 x.2.1 x.2.2.1 x.2.2.2.1 x.2.2.2.2.1 x.2.2.2.2.2.1 n).trans (by kernel_rfl),
  trivial⟩)
 (λx=>.inl rfl)
theorem y9r:OkL Tryz.prog [zft]:=zz6 (zz2 _) (bs:=[zfa,z6n]) ⟨y18,zo0,trivial⟩ y98
theorem y65:FOk Tryz.prog zft:=y9r.1
mutual
def z8f:Nat->zz0->zz0->Option (List (List UInt8))
 |0,_,_=>none
 |n+1,a0,a1 =>
  (zbu n a0 a1).bind λy0 =>
  (z16 n a0).bind λy1 =>
  (ext [] y1).bind λx2 =>
  (z16 n a1).bind λy3 =>
  (ext x2 y3).bind λx4 =>
  z3i n 0 [] y0 x4 a1 a0
def z3i:Nat->Int->(List (List UInt8))->(List (List UInt8))->(List (List UInt8))->zz0->zz0->Option (List (List UInt8))
 |0,_,_,_,_,_,_=>none
 |n+1,a0,a1,a2,a3,a4,a5 =>
  pIf (decide (a0<(a3.length:Int)))
   ((ix a3 a0).bind λx5 =>
   (zdj n a5 x5).bind λy6 =>
   (ix a3 a0).bind λx7 =>
   (zdj n a4 x7).bind λy8 =>
   pIf (!y6.1)
    (z10 n a2 a0 a1 true a3 a4 a5)
    (pIf (!y8.1)
      (z10 n a2 a0 a1 true a3 a4 a5)
      ((z8z n y6.2 y8.2).bind λy9 =>
      pIf (!y9)
       (z10 n a2 a0 a1 true a3 a4 a5)
       ((zbk n y6.2 a2).bind λy10 =>
       z10 n a2 a0 a1 y10 a3 a4 a5))))
   (some a1)
def z10:Nat->(List (List UInt8))->Int->(List (List UInt8))->Bool->(List (List UInt8))->zz0->zz0->Option (List (List UInt8))
 |0,_,_,_,_,_,_,_=>none
 |n+1,a0,a1,a2,a3,a4,a5,a6 =>
  pIf a3
   ((ix a4 a1).bind λx11 =>
   (zct n a2 x11).bind λy12 =>
   z7c n y12 a0 a1 a4 a5 a6)
   (z7c n a2 a0 a1 a4 a5 a6)
def z7c:Nat->(List (List UInt8))->(List (List UInt8))->Int->(List (List UInt8))->zz0->zz0->Option (List (List UInt8))
 |0,_,_,_,_,_,_=>none
 |n+1,a0,a1,a2,a3,a4,a5 =>
  z3i n (IntKind.i64.wrap (a2+1)) a0 a1 a3 a4 a5
end
def ya1:LSh:=⟨[(4,(.d (.sl .str)))],[],0,71⟩
noncomputable def zaf:FI dat:=FI.of dat 20 71 0 [(.d (.st 8)),(.d (.st 8))] [] [(.d (.sl .str))] [] true ya1 (R:=List (List UInt8)) (λx=>x.1) (λr=>(r,())) (λn x=>z8f n x.1 x.2.1)
 (λn=>[(0,⟨⟨[(8,(.d (.int .i64))),(6,(.own 0)),(7,(.d (.sl .str))),(5,(.d (.sl .str))),(3,(.ptr 1 0)),(2,(.ptr 2 0))],[(.acc 9 .str true),(.st 8),(.st 8)],0,71⟩,λx=>z3i n x.1 x.2.1 x.2.2.1 x.2.2.2.1 x.2.2.2.2.1 x.2.2.2.2.2.1⟩),(1,⟨⟨[(6,(.own 0)),(5,(.d (.sl .str))),(3,(.ptr 1 0)),(2,(.ptr 2 0)),(8,(.d (.int .i64))),(7,(.d (.sl .str))),(63,(.d .bool))],[(.acc 9 .str true),(.st 8),(.st 8)],0,71⟩,λx=>z10 n x.1 x.2.1 x.2.2.1 x.2.2.2.1 x.2.2.2.2.1 x.2.2.2.2.2.1 x.2.2.2.2.2.2.1⟩),(2,⟨⟨[(6,(.own 0)),(7,(.d (.sl .str))),(5,(.d (.sl .str))),(3,(.ptr 1 0)),(2,(.ptr 2 0)),(8,(.d (.int .i64)))],[(.acc 9 .str true),(.st 8),(.st 8)],0,71⟩,λx=>z7c n x.1 x.2.1 x.2.2.1 x.2.2.2.1 x.2.2.2.2.1 x.2.2.2.2.2.1⟩)]) (ann [(12,0),(27,1),(30,2)] (Tryz.f20.body.getD .skip) 0).1
noncomputable def yal:List (FI dat):=[zd3,z03,zmu,zcs,zft,zd0]
theorem y9e:(zaf).Good Tryz.prog dat (tb yal):=FI.yz4 (hD:=zz2 _) Tryz.func20 Tryz.ntmps20 Tryz.call20 (by kernel_rfl) (of_decide_eq_true (by kernel_rfl)) (by kernel_rfl) (λn=>by kernel_rfl) (λx=>by kernel_rfl) (λ_=>rfl) ⟨λ_=>rfl,λ_=>rfl,λ_=>rfl,trivial⟩
 (λn=>λx=>(z8f.eq_2 x.1 x.2.1 n).trans (by kernel_rfl))
 (λn=>⟨λx=>(z3i.eq_2 x.1 x.2.1 x.2.2.1 x.2.2.2.1 x.2.2.2.2.1 x.2.2.2.2.2.1 n).trans (by kernel_rfl),
  λx=>(z10.eq_2 x.1 x.2.1 x.2.2.1 x.2.2.2.1 x.2.2.2.2.1 x.2.2.2.2.2.1 x.2.2.2.2.2.2.1 n).trans (by kernel_rfl),
  λx=>(z7c.eq_2 x.1 x.2.1 x.2.2.1 x.2.2.2.1 x.2.2.2.2.1 x.2.2.2.2.2.1 n).trans (by kernel_rfl),
  trivial⟩)
 (λx=>.inl rfl)
theorem ya7:OkL Tryz.prog [zaf]:=zz6 (zz2 _) (bs:=[zd3,z03,zmu,zcs,zft,zd0]) ⟨zyf,zbn,ymf,y2d,y65,zwn,trivial⟩ y9e
theorem zvo:FOk Tryz.prog zaf:=ya7.1
def z8q:Nat->zz0->zz0->Option ((List (List UInt8))×Int)
 |0,_,_=>none
 |n+1,a0,a1 =>
  (z4b n a0 a1).bind λy0 =>
  pIf (y0 != 0)
   ((z4b n a0 a1).bind λy1 =>
   some ([],y1))
   ((z8f n a0 a1).bind λy2 =>
   some (y2,0))
def y9p:LSh:=⟨[(4,(.d (.sl .str))),(5,(.d (.int .i64)))],[],0,16⟩
noncomputable def zfp:FI dat:=FI.of dat 8 16 0 [(.d (.st 8)),(.d (.st 8))] [] [(.d (.sl .str)),(.d (.int .i64))] [] true y9p (R:=(List (List UInt8))×Int) (λx=>(x.1,x.2.1)) (λr=>(r.1,r.2,())) (λn x=>z8q n x.1 x.2.1)
 (λn=>[]) (ann [] (Tryz.f8.body.getD .skip) 0).1
noncomputable def yaq:List (FI dat):=[zaz,zaf]
theorem yat:(zfp).Good Tryz.prog dat (tb yaq):=FI.yz4 (hD:=zz2 _) Tryz.func8 Tryz.ntmps8 Tryz.call8 (by kernel_rfl) (of_decide_eq_true (by kernel_rfl)) (by kernel_rfl) (λn=>by kernel_rfl) (λx=>by kernel_rfl) (λ_=>rfl) trivial
 (λn=>λx=>(z8q.eq_2 x.1 x.2.1 n).trans (by kernel_rfl))
 (λn=>trivial)
 (λx=>.inl rfl)
theorem y9g:OkL Tryz.prog [zfp]:=zz6 (zz2 _) (bs:=[zaz,zaf]) ⟨zto,zvo,trivial⟩ yat
theorem y7k:FOk Tryz.prog zfp:=y9g.1
def zg5:Nat->kz4->(List UInt8)->Option (Bool×(List UInt8))
 |0,_,_=>none
 |n+1,a0,a1 =>
  some ((a0.name==a1),a1)
def ypf:LSh:=⟨[(3,(.d .bool))],[(.cells [(.d .str)])],1,8⟩
noncomputable def zmp:FI dat:=FI.of dat 90 8 1 [(.d (.st 7)),(.ptr 0 0)] [(.cells [(.d .str)])] [(.d .bool)] [(.cells [(.d .str)])] false ypf (R:=Bool×(List UInt8)) (λx=>(x.1,x.2.1)) (λr=>(r.1,r.2,())) (λn x=>zg5 n x.1 x.2.1)
 (λn=>[]) (ann [] (Tryz.f90.body.getD .skip) 0).1
noncomputable def yso:List (FI dat):=[]
theorem yog:(zmp).Good Tryz.prog dat (tb yso):=FI.yz4 (hD:=zz2 _) Tryz.func90 Tryz.ntmps90 Tryz.call90 (by kernel_rfl) (of_decide_eq_true (by kernel_rfl)) (by kernel_rfl) (λn=>by kernel_rfl) (λx=>by kernel_rfl) (λ_=>rfl) trivial
 (λn=>λx=>(zg5.eq_2 x.1 x.2.1 n).trans (by kernel_rfl))
 (λn=>trivial)
 (λx=>.inr (by kernel_rfl))
theorem yry:OkL Tryz.prog [zmp]:=zz6 (zz2 _) (bs:=[]) trivial yog
theorem yik:FOk Tryz.prog zmp:=yry.1
mutual
def yzj:Nat->(List kz4)->(List UInt8)->Option (Int×(List UInt8))
 |0,_,_=>none
 |n+1,a0,a1 =>
  kzc n 0 a0 (a0.length:Int) a1
def kzc:Nat->Int->(List kz4)->Int->(List UInt8)->Option (Int×(List UInt8))
 |0,_,_,_,_=>none
 |n+1,a0,a1,a2,a3 =>
  pIf (decide (a0<a2))
   ((ix a1 a0).bind λx0 =>
   (zg5 n x0 a3).bind λy1 =>
   pIf y1.1
    (some (a0,y1.2))
    (kzc n (IntKind.i64.wrap (a0+1)) a1 a2 y1.2))
   (some ((-1),a3))
end
def zh0:LSh:=⟨[(4,(.d (.int .i64)))],[(.cells [(.d .str)])],1,19⟩
noncomputable def zzt:FI dat:=FI.of dat 78 19 1 [(.d (.sl (.st 7))),(.fn 90 [] [(.ptr 0 0)])] [(.cells [(.d .str)])] [(.d (.int .i64))] [(.cells [(.d .str)])] false zh0 (R:=Int×(List UInt8)) (λx=>(x.1,x.2.1)) (λr=>(r.1,r.2,())) (λn x=>yzj n x.1 x.2.1)
 (λn=>[(0,⟨⟨[(8,(.d (.int .i64))),(0,(.d (.sl (.st 7)))),(1,(.fn 90 [] [(.ptr 0 0)])),(7,(.d (.int .i64)))],[(.cells [(.d .str)])],1,19⟩,λx=>kzc n x.1 x.2.1 x.2.2.1 x.2.2.2.1⟩)]) (ann [(6,0)] (Tryz.f78.body.getD .skip) 0).1
noncomputable def zgz:List (FI dat):=[zmp]
theorem zh1:(zzt).Good Tryz.prog dat (tb zgz):=FI.yz4 (hD:=zz2 _) Tryz.func78 Tryz.ntmps78 Tryz.call78 (by kernel_rfl) (of_decide_eq_true (by kernel_rfl)) (by kernel_rfl) (λn=>by kernel_rfl) (λx=>by kernel_rfl) (λ_=>rfl) ⟨λ_=>rfl,trivial⟩
 (λn=>λx=>(yzj.eq_2 x.1 x.2.1 n).trans (by kernel_rfl))
 (λn=>⟨λx=>(kzc.eq_2 x.1 x.2.1 x.2.2.1 x.2.2.2.1 n).trans (by kernel_rfl),
  trivial⟩)
 (λx=>.inr (by kernel_rfl))
theorem zh7:OkL Tryz.prog [zzt]:=zz6 (zz2 _) (bs:=[zmp]) ⟨yik,trivial⟩ zh1
theorem zga:FOk Tryz.prog zzt:=zh7.1
def zi5:Nat->zz0->(List UInt8)->Option Int
 |0,_,_=>none
 |n+1,a0,a1 =>
  (yzj n a0.rules a1).bind λy0 =>
  some y0.1
def yxq:LSh:=⟨[(4,(.d (.int .i64)))],[],0,9⟩
noncomputable def zrg:FI dat:=FI.of dat 49 9 0 [(.d (.st 8)),(.d .str)] [] [(.d (.int .i64))] [] true yxq (R:=Int) (λx=>x.1) (λr=>(r,())) (λn x=>zi5 n x.1 x.2.1)
 (λn=>[]) (ann [] (Tryz.f49.body.getD .skip) 0).1
noncomputable def yx7:List (FI dat):=[zzt]
theorem yy1:(zrg).Good Tryz.prog dat (tb yx7):=FI.yz4 (hD:=zz2 _) Tryz.func49 Tryz.ntmps49 Tryz.call49 (by kernel_rfl) (of_decide_eq_true (by kernel_rfl)) (by kernel_rfl) (λn=>by kernel_rfl) (λx=>by kernel_rfl) (λ_=>rfl) trivial
 (λn=>λx=>(zi5.eq_2 x.1 x.2.1 n).trans (by kernel_rfl))
 (λn=>trivial)
 (λx=>.inl rfl)
theorem z00a:OkL Tryz.prog [zrg]:=zz6 (zz2 _) (bs:=[zzt]) ⟨zga,trivial⟩ yy1
theorem yti:FOk Tryz.prog zrg:=z00a.1
mutual
noncomputable def zby:Nat->zz0->(List UInt8)->Option ((List (List UInt8))×Int)
 |0,_,_=>none
 |n+1,a0,a1 =>
  (z9c n a0).bind λy0 =>
  pIf (y0 != 0)
   (some ([],y0))
   ((zi5 n a0 a1).bind λy1 =>
   pIf (decide (y1<0))
    (some ([],6))
    (z65 n 0 [a1] (mks (z95 [] a1 true)) (mvs (z95 [] a1 true)) a0))
noncomputable def z65:Nat->Int->(List (List UInt8))->(List (List UInt8))->(List Bool)->zz0->Option ((List (List UInt8))×Int)
 |0,_,_,_,_,_=>none
 |n+1,a0,a1,a2,a3,a4 =>
  pIf (decide (a0<(a1.length:Int)))
   ((ix a1 a0).bind λx2 =>
   (zi5 n a4 x2).bind λy3 =>
   (ix a4.rules y3).bind λx4 =>
   (zc0 n x4).bind λy5 =>
   z6i n 0 y5 a0 (y5.length:Int) a1 (mks (List.zip a2 a3)) (mvs (List.zip a2 a3)) a4)
   ((z0k n a1).bind λy6 =>
   some (y6,0))
noncomputable def z6i:Nat->Int->(List zzq)->Int->Int->(List (List UInt8))->(List (List UInt8))->(List Bool)->zz0->Option ((List (List UInt8))×Int)
 |0,_,_,_,_,_,_,_,_=>none
 |n+1,a0,a1,a2,a3,a4,a5,a6,a7 =>
  pIf (decide (a0<a3))
   ((ix a1 a0).bind λx7 =>
   pIf (!(Option.getD (z3p (List.zip a5 a6) x7.name) false))
    ((ext a4 [x7.name]).bind λx8 =>
    z9q n a1 a2 a3 a0 x8 (mks (z95 (List.zip a5 a6) x7.name true)) (mvs (z95 (List.zip a5 a6) x7.name true)) a7)
    (z9q n a1 a2 a3 a0 a4 (mks (List.zip a5 a6)) (mvs (List.zip a5 a6)) a7))
   (z65 n (IntKind.i64.wrap (a2+1)) a4 (mks (List.zip a5 a6)) (mvs (List.zip a5 a6)) a7)
noncomputable def z9q:Nat->(List zzq)->Int->Int->Int->(List (List UInt8))->(List (List UInt8))->(List Bool)->zz0->Option ((List (List UInt8))×Int)
 |0,_,_,_,_,_,_,_,_=>none
 |n+1,a0,a1,a2,a3,a4,a5,a6,a7 =>
  z6i n (IntKind.i64.wrap (a3+1)) a0 a1 a2 a4 (mks (List.zip a5 a6)) (mvs (List.zip a5 a6)) a7
end
def yjq:LSh:=⟨[(4,(.d (.sl .str))),(5,(.d (.int .i64)))],[],0,65⟩
noncomputable def zjn:FI dat:=FI.of dat 21 65 0 [(.d (.st 8)),(.d .str)] [] [(.d (.sl .str)),(.d (.int .i64))] [] true yjq (R:=(List (List UInt8))×Int) (λx=>(x.1,x.2.1)) (λr=>(r.1,r.2,())) (λn x=>zby n x.1 x.2.1)
 (λn=>[(0,⟨⟨[(8,(.own 0)),(7,(.map 1)),(9,(.d (.int .i64))),(2,(.ptr 2 0))],[(.acc 9 .str true),(.mp 55 .bool),(.st 8)],0,65⟩,λx=>z65 n x.1 x.2.1 x.2.2.1 x.2.2.2.1 x.2.2.2.2.1⟩),(1,⟨⟨[(44,(.d (.int .i64))),(8,(.own 0)),(7,(.map 1)),(42,(.d (.sl (.st 9)))),(2,(.ptr 2 0)),(9,(.d (.int .i64))),(43,(.d (.int .i64)))],[(.acc 9 .str true),(.mp 55 .bool),(.st 8)],0,65⟩,λx=>z6i n x.1 x.2.1 x.2.2.1 x.2.2.2.1 x.2.2.2.2.1 x.2.2.2.2.2.1 x.2.2.2.2.2.2.1 x.2.2.2.2.2.2.2.1⟩),(2,⟨⟨[(8,(.own 0)),(7,(.map 1)),(42,(.d (.sl (.st 9)))),(2,(.ptr 2 0)),(9,(.d (.int .i64))),(43,(.d (.int .i64))),(44,(.d (.int .i64)))],[(.acc 9 .str true),(.mp 55 .bool),(.st 8)],0,65⟩,λx=>z9q n x.1 x.2.1 x.2.2.1 x.2.2.2.1 x.2.2.2.2.1 x.2.2.2.2.2.1 x.2.2.2.2.2.2.1 x.2.2.2.2.2.2.2.1⟩)]) (ann [(28,0),(40,1),(58,2)] (Tryz.f21.body.getD .skip) 0).1
noncomputable def yl2:List (FI dat):=[z2d,zdn,zrg,zda]
theorem yhp:(zjn).Good Tryz.prog dat (tb yl2):=FI.yz4 (hD:=zz2 _) Tryz.func21 Tryz.ntmps21 Tryz.call21 (by kernel_rfl) (of_decide_eq_true (by kernel_rfl)) (by kernel_rfl) (λn=>by kernel_rfl) (λx=>by kernel_rfl) (λ_=>rfl) ⟨λ_=>rfl,λ_=>rfl,λ_=>rfl,trivial⟩
 (λn=>λx=>(zby.eq_2 x.1 x.2.1 n).trans (by kernel_rfl))
 (λn=>⟨λx=>(z65.eq_2 x.1 x.2.1 x.2.2.1 x.2.2.2.1 x.2.2.2.2.1 n).trans (by kernel_rfl),
  λx=>(z6i.eq_2 x.1 x.2.1 x.2.2.1 x.2.2.2.1 x.2.2.2.2.1 x.2.2.2.2.2.1 x.2.2.2.2.2.2.1 x.2.2.2.2.2.2.2.1 n).trans (by kernel_rfl),
  λx=>(z9q.eq_2 x.1 x.2.1 x.2.2.1 x.2.2.2.1 x.2.2.2.2.1 x.2.2.2.2.2.1 x.2.2.2.2.2.2.1 x.2.2.2.2.2.2.2.1 n).trans (by kernel_rfl),
  trivial⟩)
 (λx=>.inl rfl)
theorem yhg:OkL Tryz.prog [zjn]:=zz6 (zz2 _) (bs:=[z2d,zdn,zrg,zda]) ⟨zfs,zyp,yti,zxi,trivial⟩ yhp
theorem yew:FOk Tryz.prog zjn:=yhg.1
def z7u:Nat->(List UInt8)->(List (List UInt8))->(List Bool)->Option (Bool×(List (List UInt8))×(List Bool))
 |0,_,_,_=>none
 |n+1,a0,a1,a2 =>
  some ((Option.getD (z3p (List.zip a1 a2) a0) false),(mks (List.zip a1 a2)),(mvs (List.zip a1 a2)))
def y5b:LSh:=⟨[(3,(.d .bool))],[(.cells [(.map 1)]),(.mp 55 .bool)],2,7⟩
noncomputable def zcq:FI dat:=FI.of dat 23 7 2 [(.d .str),(.ptr 0 0)] [(.cells [(.map 1)]),(.mp 55 .bool)] [(.d .bool)] [(.cells [(.map 1)]),(.mp 55 .bool)] false y5b (R:=Bool×(List (List UInt8))×(List Bool)) (λx=>(x.1,x.2.1,x.2.2.1)) (λr=>(r.1,r.2.1,r.2.2,())) (λn x=>z7u n x.1 x.2.1 x.2.2.1)
 (λn=>[]) (ann [] (Tryz.f23.body.getD .skip) 0).1
noncomputable def y38:List (FI dat):=[]
theorem y51:(zcq).Good Tryz.prog dat (tb y38):=FI.yz4 (hD:=zz2 _) Tryz.func23 Tryz.ntmps23 Tryz.call23 (by kernel_rfl) (of_decide_eq_true (by kernel_rfl)) (by kernel_rfl) (λn=>by kernel_rfl) (λx=>by kernel_rfl) (λ_=>rfl) trivial
 (λn=>λx=>(z7u.eq_2 x.1 x.2.1 x.2.2.1 n).trans (by kernel_rfl))
 (λn=>trivial)
 (λx=>.inr (by kernel_rfl))
theorem y4j:OkL Tryz.prog [zcq]:=zz6 (zz2 _) (bs:=[]) trivial y51
theorem y1x:FOk Tryz.prog zcq:=y4j.1
end Go.Proofs.YtahcjggdcmgpkaaGreat
namespace Go.Proofs.YtahcjggdcmgpkaaGreat
open Go Go.Ab
set_option linter.unusedVariables false
set_option maxRecDepth 100000
set_option maxHeartbeats 4000000
mutual
def z0d:Nat->(List (List UInt8))->(List (List UInt8))->(List Bool)->Option (Int×(List (List UInt8))×(List Bool))
 |0,_,_,_=>none
 |n+1,a0,a1,a2 =>
  zzi n 0 a0 (a0.length:Int) (mks (List.zip a1 a2)) (mvs (List.zip a1 a2))
def zzi:Nat->Int->(List (List UInt8))->Int->(List (List UInt8))->(List Bool)->Option (Int×(List (List UInt8))×(List Bool))
 |0,_,_,_,_,_=>none
 |n+1,a0,a1,a2,a3,a4 =>
  pIf (decide (a0<a2))
   ((ix a1 a0).bind λx0 =>
   (z7u n x0 (mks (List.zip a3 a4)) (mvs (List.zip a3 a4))).bind λy1 =>
   pIf y1.1
    (some (a0,(mks (List.zip y1.2.1 y1.2.2)),(mvs (List.zip y1.2.1 y1.2.2))))
    (zzi n (IntKind.i64.wrap (a0+1)) a1 a2 (mks (List.zip y1.2.1 y1.2.2)) (mvs (List.zip y1.2.1 y1.2.2))))
   (some ((-1),(mks (List.zip a3 a4)),(mvs (List.zip a3 a4))))
end
def zmd:LSh:=⟨[(4,(.d (.int .i64)))],[(.cells [(.map 1)]),(.mp 55 .bool)],2,19⟩
noncomputable def z0l:FI dat:=FI.of dat 52 19 2 [(.d (.sl .str)),(.fn 23 [] [(.ptr 0 0)])] [(.cells [(.map 1)]),(.mp 55 .bool)] [(.d (.int .i64))] [(.cells [(.map 1)]),(.mp 55 .bool)] false zmd (R:=Int×(List (List UInt8))×(List Bool)) (λx=>(x.1,x.2.1,x.2.2.1)) (λr=>(r.1,r.2.1,r.2.2,())) (λn x=>z0d n x.1 x.2.1 x.2.2.1)
 (λn=>[(0,⟨⟨[(8,(.d (.int .i64))),(0,(.d (.sl .str))),(1,(.fn 23 [] [(.ptr 0 0)])),(7,(.d (.int .i64)))],[(.cells [(.map 1)]),(.mp 55 .bool)],2,19⟩,λx=>zzi n x.1 x.2.1 x.2.2.1 x.2.2.2.1 x.2.2.2.2.1⟩)]) (ann [(6,0)] (Tryz.f52.body.getD .skip) 0).1
noncomputable def zma:List (FI dat):=[zcq]
theorem zmv:(z0l).Good Tryz.prog dat (tb zma):=FI.yz4 (hD:=zz2 _) Tryz.func52 Tryz.ntmps52 Tryz.call52 (by kernel_rfl) (of_decide_eq_true (by kernel_rfl)) (by kernel_rfl) (λn=>by kernel_rfl) (λx=>by kernel_rfl) (λ_=>rfl) ⟨λ_=>rfl,trivial⟩
 (λn=>λx=>(z0d.eq_2 x.1 x.2.1 x.2.2.1 n).trans (by kernel_rfl))
 (λn=>⟨λx=>(zzi.eq_2 x.1 x.2.1 x.2.2.1 x.2.2.2.1 x.2.2.2.2.1 n).trans (by kernel_rfl),
  trivial⟩)
 (λx=>.inr (by kernel_rfl))
theorem zm3:OkL Tryz.prog [z0l]:=zz6 (zz2 _) (bs:=[zcq]) ⟨y1x,trivial⟩ zmv
theorem zlo:FOk Tryz.prog z0l:=zm3.1
def kzp:Nat->(List (List UInt8))->(List (List UInt8))->(List Bool)->Option (Bool×(List (List UInt8))×(List Bool))
 |0,_,_,_=>none
 |n+1,a0,a1,a2 =>
  (z0d n a0 (mks (List.zip a1 a2)) (mvs (List.zip a1 a2))).bind λy0 =>
  some ((decide (y0.1>=0)),(mks (List.zip y0.2.1 y0.2.2)),(mvs (List.zip y0.2.1 y0.2.2)))
def zjp:LSh:=⟨[(4,(.d .bool))],[(.cells [(.map 1)]),(.mp 55 .bool)],2,9⟩
noncomputable def z07:FI dat:=FI.of dat 22 9 2 [(.d (.sl .str)),(.fn 23 [] [(.ptr 0 0)])] [(.cells [(.map 1)]),(.mp 55 .bool)] [(.d .bool)] [(.cells [(.map 1)]),(.mp 55 .bool)] false zjp (R:=Bool×(List (List UInt8))×(List Bool)) (λx=>(x.1,x.2.1,x.2.2.1)) (λr=>(r.1,r.2.1,r.2.2,())) (λn x=>kzp n x.1 x.2.1 x.2.2.1)
 (λn=>[]) (ann [] (Tryz.f22.body.getD .skip) 0).1
noncomputable def zjk:List (FI dat):=[z0l]
theorem zkl:(z07).Good Tryz.prog dat (tb zjk):=FI.yz4 (hD:=zz2 _) Tryz.func22 Tryz.ntmps22 Tryz.call22 (by kernel_rfl) (of_decide_eq_true (by kernel_rfl)) (by kernel_rfl) (λn=>by kernel_rfl) (λx=>by kernel_rfl) (λ_=>rfl) trivial
 (λn=>λx=>(kzp.eq_2 x.1 x.2.1 x.2.2.1 n).trans (by kernel_rfl))
 (λn=>trivial)
 (λx=>.inr (by kernel_rfl))
theorem zji:OkL Tryz.prog [z07]:=zz6 (zz2 _) (bs:=[z0l]) ⟨zlo,trivial⟩ zkl
theorem zjc:FOk Tryz.prog z07:=zji.1
mutual
noncomputable def z8u:Nat->zz0->zz0->Option (Res ((List UInt8)×Unit) ((List (List UInt8))×Int))
 |0,_,_=>none
 |n+1,a0,a1 =>
  (zcm n a0 a1).bind λy0 =>
  pIf (y0 != 0)
   (some (Res.ok ([],y0)))
   ((zan n a0 a1).bind λy1 =>
   y60 y1 (λr2 =>
    z1w n 0 a1.rules (a1.rules.length:Int) [] [] a1 (mks (List.zip r2.1 r2.2)) (mvs (List.zip r2.1 r2.2)))
    (λe3 =>
    some (Res.pan (e3.1,()))))
noncomputable def z1w:Nat->Int->(List kz4)->Int->(List (List UInt8))->(List Bool)->zz0->(List (List UInt8))->(List Bool)->Option (Res ((List UInt8)×Unit) ((List (List UInt8))×Int))
 |0,_,_,_,_,_,_,_,_=>none
 |n+1,a0,a1,a2,a3,a4,a5,a6,a7 =>
  pIf (decide (a0<a2))
   ((ix a1 a0).bind λx4 =>
   (zby n a5 x4.name).bind λy5 =>
   (kzp n y5.1 (mks (List.zip a6 a7)) (mvs (List.zip a6 a7))).bind λy6 =>
   pIf y6.1
    (z7a n a1 a2 a0 (mks (z95 (List.zip a3 a4) x4.name true)) (mvs (z95 (List.zip a3 a4) x4.name true)) a5 (mks (List.zip y6.2.1 y6.2.2)) (mvs (List.zip y6.2.1 y6.2.2)))
    (z7a n a1 a2 a0 (mks (List.zip a3 a4)) (mvs (List.zip a3 a4)) a5 (mks (List.zip y6.2.1 y6.2.2)) (mvs (List.zip y6.2.1 y6.2.2))))
   ((zbr n (mks (List.zip a3 a4)) (mvs (List.zip a3 a4))).bind λy7 =>
   some (Res.ok (y7.1,0)))
noncomputable def z7a:Nat->(List kz4)->Int->Int->(List (List UInt8))->(List Bool)->zz0->(List (List UInt8))->(List Bool)->Option (Res ((List UInt8)×Unit) ((List (List UInt8))×Int))
 |0,_,_,_,_,_,_,_,_=>none
 |n+1,a0,a1,a2,a3,a4,a5,a6,a7 =>
  z1w n (IntKind.i64.wrap (a2+1)) a0 a1 (mks (List.zip a3 a4)) (mvs (List.zip a3 a4)) a5 (mks (List.zip a6 a7)) (mvs (List.zip a6 a7))
end
def yaf:LSh:=⟨[(4,(.d (.sl .str))),(5,(.d (.int .i64)))],[],0,46⟩
noncomputable def zfv:FI dat:=FI.ofP dat 9 46 0 [(.d (.st 8)),(.d (.st 8))] [] [(.d (.sl .str)),(.d (.int .i64))] [] (.iface 9 (.d .str)) [] [] yaf (R:=(List (List UInt8))×Int) (λx=>(x.1,x.2.1)) (λr=>(r.1,r.2,())) (λn x=>z8u n x.1 x.2.1)
 (λn=>[(0,⟨⟨[(26,(.d (.int .i64))),(8,(.map 0)),(7,(.ptr 1 0)),(3,(.ptr 2 0)),(24,(.d (.sl (.st 7)))),(25,(.d (.int .i64)))],[(.mp 55 .bool),(.cells [(.map 3)]),(.st 8),(.mp 55 .bool)],0,46⟩,λx=>z1w n x.1 x.2.1 x.2.2.1 x.2.2.2.1 x.2.2.2.2.1 x.2.2.2.2.2.1 x.2.2.2.2.2.2.1 x.2.2.2.2.2.2.2.1⟩),(1,⟨⟨[(8,(.map 0)),(7,(.ptr 1 0)),(3,(.ptr 2 0)),(24,(.d (.sl (.st 7)))),(25,(.d (.int .i64))),(26,(.d (.int .i64)))],[(.mp 55 .bool),(.cells [(.map 3)]),(.st 8),(.mp 55 .bool)],0,46⟩,λx=>z7a n x.1 x.2.1 x.2.2.1 x.2.2.2.1 x.2.2.2.2.1 x.2.2.2.2.2.1 x.2.2.2.2.2.2.1 x.2.2.2.2.2.2.2.1⟩)]) (ann [(20,0),(38,1)] (Tryz.f9.body.getD .skip) 0).1
noncomputable def y9j:List (FI dat):=[zbw,z07,zds,zcy,zjn]
theorem y91:(zfv).Good Tryz.prog dat (tb y9j):=FI.zol (hD:=zz2 _) Tryz.func9 Tryz.ntmps9 Tryz.call9 (by kernel_rfl) (of_decide_eq_true (by kernel_rfl)) (by kernel_rfl) (λn=>by kernel_rfl) trivial (λx=>by kernel_rfl) (λ_=>rfl) ⟨λ_=>rfl,λ_=>rfl,trivial⟩
 (λn=>λx=>(z8u.eq_2 x.1 x.2.1 n).trans (by kernel_rfl))
 (λn=>⟨λx=>(z1w.eq_2 x.1 x.2.1 x.2.2.1 x.2.2.2.1 x.2.2.2.2.1 x.2.2.2.2.2.1 x.2.2.2.2.2.2.1 x.2.2.2.2.2.2.2.1 n).trans (by kernel_rfl),
  λx=>(z7a.eq_2 x.1 x.2.1 x.2.2.1 x.2.2.2.1 x.2.2.2.2.1 x.2.2.2.2.2.1 x.2.2.2.2.2.2.1 x.2.2.2.2.2.2.2.1 n).trans (by kernel_rfl),
  trivial⟩)
 (λx=>by kernel_rfl)
theorem ya8:OkL Tryz.prog [zfv]:=zz6 (zz2 _) (bs:=[zbw,z07,zds,zcy,zjn]) ⟨zx3,zjc,zra,zw5,yew,trivial⟩ y91
theorem y5h:FOk Tryz.prog zfv:=ya8.1
mutual
def z9z:Nat->(List UInt8)->(List (List UInt8))->Option (List (List UInt8))
 |0,_,_=>none
 |n+1,a0,a1 =>
  z2r n 0 a0 a1
def z2r:Nat->Int->(List UInt8)->(List (List UInt8))->Option (List (List UInt8))
 |0,_,_,_=>none
 |n+1,a0,a1,a2 =>
  pIf (decide (a0<(a2.length:Int)))
   ((ix a2 a0).bind λx0 =>
   z4m n a1 a0 (Op.bytesLess x0 a1) a2)
   (z4m n a1 a0 false a2)
def z4m:Nat->(List UInt8)->Int->Bool->(List (List UInt8))->Option (List (List UInt8))
 |0,_,_,_,_=>none
 |n+1,a0,a1,a2,a3 =>
  pIf a2
   (z2r n (IntKind.i64.wrap (a1+1)) a0 a3)
   (pIf (decide (a1<(a3.length:Int)))
     ((ix a3 a1).bind λx1 =>
     z4q n a0 a1 (x1==a0) a3)
     (z4q n a0 a1 false a3))
def z4q:Nat->(List UInt8)->Int->Bool->(List (List UInt8))->Option (List (List UInt8))
 |0,_,_,_,_=>none
 |n+1,a0,a1,a2,a3 =>
  pIf a2
   (some a3)
   ((ext a3 [[]]).bind λx2 =>
   (y4b x2 (IntKind.i64.wrap (a1+1))).bind λx3 =>
   (y4b x2 a1).bind λx4 =>
   (zy0 x2 (IntKind.i64.wrap (a1+1)) a1).bind λx5 =>
   (ix x5 a1).bind λx6 =>
   some (x5.set (Int.toNat a1) a0))
end
def yf6:LSh:=⟨[(4,(.own 0))],[(.acc 9 .str true)],0,49⟩
noncomputable def zhq:FI dat:=FI.of dat 54 49 0 [(.own 0),(.d .str)] [(.acc 9 .str true)] [(.own 0)] [(.acc 9 .str true)] false yf6 (R:=List (List UInt8)) (λx=>x.1) (λr=>(r,())) (λn x=>z9z n x.1 x.2.1)
 (λn=>[(0,⟨⟨[(5,(.d (.int .i64))),(0,(.own 0)),(1,(.d .str))],[(.acc 9 .str true)],0,49⟩,λx=>z2r n x.1 x.2.1 x.2.2.1⟩),(1,⟨⟨[(0,(.own 0)),(1,(.d .str)),(5,(.d (.int .i64))),(17,(.d .bool))],[(.acc 9 .str true)],0,49⟩,λx=>z4m n x.1 x.2.1 x.2.2.1 x.2.2.2.1⟩),(2,⟨⟨[(0,(.own 0)),(1,(.d .str)),(5,(.d (.int .i64))),(31,(.d .bool))],[(.acc 9 .str true)],0,49⟩,λx=>z4q n x.1 x.2.1 x.2.2.1 x.2.2.2.1⟩)]) (ann [(6,0),(10,1),(18,2)] (Tryz.f54.body.getD .skip) 0).1
noncomputable def ydm:List (FI dat):=[]
theorem yf4:(zhq).Good Tryz.prog dat (tb ydm):=FI.yz4 (hD:=zz2 _) Tryz.func54 Tryz.ntmps54 Tryz.call54 (by kernel_rfl) (of_decide_eq_true (by kernel_rfl)) (by kernel_rfl) (λn=>by kernel_rfl) (λx=>by kernel_rfl) (λ_=>rfl) ⟨λ_=>rfl,λ_=>rfl,λ_=>rfl,trivial⟩
 (λn=>λx=>(z9z.eq_2 x.1 x.2.1 n).trans (by kernel_rfl))
 (λn=>⟨λx=>(z2r.eq_2 x.1 x.2.1 x.2.2.1 n).trans (by kernel_rfl),
  λx=>(z4m.eq_2 x.1 x.2.1 x.2.2.1 x.2.2.2.1 n).trans (by kernel_rfl),
  λx=>(z4q.eq_2 x.1 x.2.1 x.2.2.1 x.2.2.2.1 n).trans (by kernel_rfl),
  trivial⟩)
 (λx=>.inr (by kernel_rfl))
theorem yfn:OkL Tryz.prog [zhq]:=zz6 (zz2 _) (bs:=[]) trivial yf4
theorem y96:FOk Tryz.prog zhq:=yfn.1
mutual
def zbp:Nat->zz0->(List UInt8)->Option ((List (List UInt8))×Int)
 |0,_,_=>none
 |n+1,a0,a1 =>
  (z45 n a0).bind λy0 =>
  pIf (y0 != 0)
   ((z45 n a0).bind λy1 =>
   some ([],y1))
   ((z16 n a0).bind λy2 =>
   (z44 n y2 a1).bind λy3 =>
   pIf (decide (y3<0))
    (some ([],6))
    (z6s n true [a1] a0))
def z6s:Nat->Bool->(List (List UInt8))->zz0->Option ((List (List UInt8))×Int)
 |0,_,_,_=>none
 |n+1,a0,a1,a2 =>
  pIf a0
   (z6z n 0 false a1 a2)
   (some (a1,0))
def z6z:Nat->Int->Bool->(List (List UInt8))->zz0->Option ((List (List UInt8))×Int)
 |0,_,_,_,_=>none
 |n+1,a0,a1,a2,a3 =>
  pIf (decide (a0<(a3.rules.length:Int)))
   ((ix a3.rules a0).bind λx4 =>
   (z4c n x4.name a2).bind λy5 =>
   pIf (decide (y5.1<0))
    (z5r n a1 a0 y5.2 a3)
    ((ix a3.rules a0).bind λx6 =>
    (zb9 n x6).bind λy7 =>
    z77 n 0 y7 a1 a0 y5.2 a3))
   (z6s n a1 a2 a3)
def z77:Nat->Int->(List z0q)->Bool->Int->(List (List UInt8))->zz0->Option ((List (List UInt8))×Int)
 |0,_,_,_,_,_,_=>none
 |n+1,a0,a1,a2,a3,a4,a5 =>
  pIf (decide (a0<(a1.length:Int)))
   ((ix a1 a0).bind λx8 =>
   (z4c n x8.name a4).bind λy9 =>
   pIf (decide (y9.1<0))
    ((ix a1 a0).bind λx10 =>
    (z9z n x10.name y9.2).bind λy11 =>
    z9o n a1 true a3 a0 y11 a5)
    (z9o n a1 a2 a3 a0 y9.2 a5))
   (z5r n a2 a3 a4 a5)
def z9o:Nat->(List z0q)->Bool->Int->Int->(List (List UInt8))->zz0->Option ((List (List UInt8))×Int)
 |0,_,_,_,_,_,_=>none
 |n+1,a0,a1,a2,a3,a4,a5 =>
  z77 n (IntKind.i64.wrap (a3+1)) a0 a1 a2 a4 a5
def z5r:Nat->Bool->Int->(List (List UInt8))->zz0->Option ((List (List UInt8))×Int)
 |0,_,_,_,_=>none
 |n+1,a0,a1,a2,a3 =>
  z6z n (IntKind.i64.wrap (a1+1)) a0 a2 a3
end
def ykb:LSh:=⟨[(4,(.d (.sl .str))),(5,(.d (.int .i64)))],[],0,68⟩
noncomputable def zk5:FI dat:=FI.of dat 25 68 0 [(.d (.st 8)),(.d .str)] [] [(.d (.sl .str)),(.d (.int .i64))] [] true ykb (R:=(List (List UInt8))×Int) (λx=>(x.1,x.2.1)) (λr=>(r.1,r.2,())) (λn x=>zbp n x.1 x.2.1)
 (λn=>[(0,⟨⟨[(6,(.own 0)),(2,(.ptr 1 0)),(7,(.d .bool))],[(.acc 9 .str true),(.st 8)],0,68⟩,λx=>z6s n x.1 x.2.1 x.2.2.1⟩),(1,⟨⟨[(8,(.d (.int .i64))),(6,(.own 0)),(2,(.ptr 1 0)),(7,(.d .bool))],[(.acc 9 .str true),(.st 8)],0,68⟩,λx=>z6z n x.1 x.2.1 x.2.2.1 x.2.2.2.1⟩),(2,⟨⟨[(10,(.d (.int .i64))),(9,(.d (.sl (.st 10)))),(6,(.own 0)),(2,(.ptr 1 0)),(7,(.d .bool)),(8,(.d (.int .i64)))],[(.acc 9 .str true),(.st 8)],0,68⟩,λx=>z77 n x.1 x.2.1 x.2.2.1 x.2.2.2.1 x.2.2.2.2.1 x.2.2.2.2.2.1⟩),(3,⟨⟨[(9,(.d (.sl (.st 10)))),(6,(.own 0)),(2,(.ptr 1 0)),(7,(.d .bool)),(8,(.d (.int .i64))),(10,(.d (.int .i64)))],[(.acc 9 .str true),(.st 8)],0,68⟩,λx=>z9o n x.1 x.2.1 x.2.2.1 x.2.2.2.1 x.2.2.2.2.1 x.2.2.2.2.2.1⟩),(4,⟨⟨[(6,(.own 0)),(2,(.ptr 1 0)),(7,(.d .bool)),(8,(.d (.int .i64)))],[(.acc 9 .str true),(.st 8)],0,68⟩,λx=>z5r n x.1 x.2.1 x.2.2.1 x.2.2.2.1⟩)]) (ann [(24,0),(37,1),(57,2),(73,3),(74,4)] (Tryz.f25.body.getD .skip) 0).1
noncomputable def yid:List (FI dat):=[zdv,zhq,zdq,z03,z0r,zb2]
theorem ykw:(zk5).Good Tryz.prog dat (tb yid):=FI.yz4 (hD:=zz2 _) Tryz.func25 Tryz.ntmps25 Tryz.call25 (by kernel_rfl) (of_decide_eq_true (by kernel_rfl)) (by kernel_rfl) (λn=>by kernel_rfl) (λx=>by kernel_rfl) (λ_=>rfl) ⟨λ_=>rfl,λ_=>rfl,λ_=>rfl,λ_=>rfl,λ_=>rfl,trivial⟩
 (λn=>λx=>(zbp.eq_2 x.1 x.2.1 n).trans (by kernel_rfl))
 (λn=>⟨λx=>(z6s.eq_2 x.1 x.2.1 x.2.2.1 n).trans (by kernel_rfl),
  λx=>(z6z.eq_2 x.1 x.2.1 x.2.2.1 x.2.2.2.1 n).trans (by kernel_rfl),
  λx=>(z77.eq_2 x.1 x.2.1 x.2.2.1 x.2.2.2.1 x.2.2.2.2.1 x.2.2.2.2.2.1 n).trans (by kernel_rfl),
  λx=>(z9o.eq_2 x.1 x.2.1 x.2.2.1 x.2.2.2.1 x.2.2.2.2.1 x.2.2.2.2.2.1 n).trans (by kernel_rfl),
  λx=>(z5r.eq_2 x.1 x.2.1 x.2.2.1 x.2.2.2.1 n).trans (by kernel_rfl),
  trivial⟩)
 (λx=>.inl rfl)
theorem yh1:OkL Tryz.prog [zk5]:=zz6 (zz2 _) (bs:=[zdv,zhq,zdq,z03,z0r,zb2]) ⟨zxz,y96,zya,zbn,zcr,ztu,trivial⟩ ykw
theorem yfd:FOk Tryz.prog zk5:=yh1.1
mutual
def z6f:Nat->zz0->zz0->Option ((List (List UInt8))×Int)
 |0,_,_=>none
 |n+1,a0,a1 =>
  (z4b n a0 a1).bind λy0 =>
  pIf (y0 != 0)
   ((z4b n a0 a1).bind λy1 =>
   some ([],y1))
   ((z8f n a0 a1).bind λy2 =>
   (z16 n a1).bind λy3 =>
   z1d n 0 y3 [] y2 a1)
def z1d:Nat->Int->(List (List UInt8))->(List (List UInt8))->(List (List UInt8))->zz0->Option ((List (List UInt8))×Int)
 |0,_,_,_,_,_=>none
 |n+1,a0,a1,a2,a3,a4 =>
  pIf (decide (a0<(a1.length:Int)))
   ((ix a1 a0).bind λx4 =>
   (zbp n a4 x4).bind λy5 =>
   z2v n 0 a0 a1 a2 y5.1 a3 a4)
   (some (a2,0))
def z2v:Nat->Int->Int->(List (List UInt8))->(List (List UInt8))->(List (List UInt8))->(List (List UInt8))->zz0->Option ((List (List UInt8))×Int)
 |0,_,_,_,_,_,_,_=>none
 |n+1,a0,a1,a2,a3,a4,a5,a6 =>
  pIf (decide (a0<(a4.length:Int)))
   ((ix a4 a0).bind λx6 =>
   (z44 n a5 x6).bind λy7 =>
   pIf (decide (y7>=0))
    ((ix a2 a1).bind λx8 =>
    (zct n a3 x8).bind λy9 =>
    z5g n a1 a2 y9 a4 a5 a0 a6)
    (z5g n a1 a2 a3 a4 a5 a0 a6))
   (z1d n (IntKind.i64.wrap (a1+1)) a2 a3 a5 a6)
def z5g:Nat->Int->(List (List UInt8))->(List (List UInt8))->(List (List UInt8))->(List (List UInt8))->Int->zz0->Option ((List (List UInt8))×Int)
 |0,_,_,_,_,_,_,_=>none
 |n+1,a0,a1,a2,a3,a4,a5,a6 =>
  z2v n (IntKind.i64.wrap (a5+1)) a0 a1 a2 a3 a4 a6
end
def y71:LSh:=⟨[(4,(.d (.sl .str))),(5,(.d (.int .i64)))],[],0,60⟩
noncomputable def ze7:FI dat:=FI.of dat 10 60 0 [(.d (.st 8)),(.d (.st 8))] [] [(.d (.sl .str)),(.d (.int .i64))] [] true y71 (R:=(List (List UInt8))×Int) (λx=>(x.1,x.2.1)) (λr=>(r.1,r.2,())) (λn x=>z6f n x.1 x.2.1)
 (λn=>[(0,⟨⟨[(9,(.d (.int .i64))),(8,(.d (.sl .str))),(7,(.d (.sl .str))),(6,(.d (.sl .str))),(3,(.ptr 0 0))],[(.st 8)],0,60⟩,λx=>z1d n x.1 x.2.1 x.2.2.1 x.2.2.2.1 x.2.2.2.2.1⟩),(1,⟨⟨[(12,(.d (.int .i64))),(9,(.d (.int .i64))),(8,(.d (.sl .str))),(7,(.d (.sl .str))),(10,(.d (.sl .str))),(6,(.d (.sl .str))),(3,(.ptr 0 0))],[(.st 8)],0,60⟩,λx=>z2v n x.1 x.2.1 x.2.2.1 x.2.2.2.1 x.2.2.2.2.1 x.2.2.2.2.2.1 x.2.2.2.2.2.2.1⟩),(2,⟨⟨[(9,(.d (.int .i64))),(8,(.d (.sl .str))),(7,(.d (.sl .str))),(10,(.d (.sl .str))),(6,(.d (.sl .str))),(3,(.ptr 0 0)),(12,(.d (.int .i64)))],[(.st 8)],0,60⟩,λx=>z5g n x.1 x.2.1 x.2.2.1 x.2.2.2.1 x.2.2.2.2.1 x.2.2.2.2.2.1 x.2.2.2.2.2.2.1⟩)]) (ann [(20,0),(34,1),(48,2)] (Tryz.f10.body.getD .skip) 0).1
noncomputable def y72:List (FI dat):=[zaz,zaf,z03,zk5,z0r,zd0]
theorem y5u:(ze7).Good Tryz.prog dat (tb y72):=FI.yz4 (hD:=zz2 _) Tryz.func10 Tryz.ntmps10 Tryz.call10 (by kernel_rfl) (of_decide_eq_true (by kernel_rfl)) (by kernel_rfl) (λn=>by kernel_rfl) (λx=>by kernel_rfl) (λ_=>rfl) ⟨λ_=>rfl,λ_=>rfl,λ_=>rfl,trivial⟩
 (λn=>λx=>(z6f.eq_2 x.1 x.2.1 n).trans (by kernel_rfl))
 (λn=>⟨λx=>(z1d.eq_2 x.1 x.2.1 x.2.2.1 x.2.2.2.1 x.2.2.2.2.1 n).trans (by kernel_rfl),
  λx=>(z2v.eq_2 x.1 x.2.1 x.2.2.1 x.2.2.2.1 x.2.2.2.2.1 x.2.2.2.2.2.1 x.2.2.2.2.2.2.1 n).trans (by kernel_rfl),
  λx=>(z5g.eq_2 x.1 x.2.1 x.2.2.1 x.2.2.2.1 x.2.2.2.2.1 x.2.2.2.2.2.1 x.2.2.2.2.2.2.1 n).trans (by kernel_rfl),
  trivial⟩)
 (λx=>.inl rfl)
theorem y5i:OkL Tryz.prog [ze7]:=zz6 (zz2 _) (bs:=[zaz,zaf,z03,zk5,z0r,zd0]) ⟨zto,zvo,zbn,yfd,zcr,zwn,trivial⟩ y5u
theorem y3w:FOk Tryz.prog ze7:=y5i.1
end Go.Proofs.YtahcjggdcmgpkaaGreat
namespace Go.Proofs.YtahcjggdcmgpkaaGreat
open Go Go.Ab
set_option linter.unusedVariables false
set_option maxRecDepth 100000
set_option maxHeartbeats 4000000
mutual
def z90:Nat->(List (List UInt8))->(List (List UInt8))->Option Bool
 |0,_,_=>none
 |n+1,a0,a1 =>
  pIf ((a0.length:Int) != (a1.length:Int))
   (some false)
   (z88 n 0 a1 a0)
def z88:Nat->Int->(List (List UInt8))->(List (List UInt8))->Option Bool
 |0,_,_,_=>none
 |n+1,a0,a1,a2 =>
  pIf (decide (a0<(a2.length:Int)))
   ((ix a2 a0).bind λx0 =>
   (ix a1 a0).bind λx1 =>
   pIf (!(x0==x1))
    (some false)
    (z88 n (IntKind.i64.wrap (a0+1)) a1 a2))
   (some true)
end
def yor:LSh:=⟨[(4,(.d .bool))],[],0,26⟩
noncomputable def zmb:FI dat:=FI.of dat 11 26 0 [(.d (.sl .str)),(.d (.sl .str))] [] [(.d .bool)] [] true yor (R:=Bool) (λx=>x.1) (λr=>(r,())) (λn x=>z90 n x.1 x.2.1)
 (λn=>[(0,⟨⟨[(5,(.d (.int .i64))),(1,(.d (.sl .str))),(0,(.d (.sl .str)))],[],0,26⟩,λx=>z88 n x.1 x.2.1 x.2.2.1⟩)]) (ann [(14,0)] (Tryz.f11.body.getD .skip) 0).1
noncomputable def yrj:List (FI dat):=[]
theorem ytd:(zmb).Good Tryz.prog dat (tb yrj):=FI.yz4 (hD:=zz2 _) Tryz.func11 Tryz.ntmps11 Tryz.call11 (by kernel_rfl) (of_decide_eq_true (by kernel_rfl)) (by kernel_rfl) (λn=>by kernel_rfl) (λx=>by kernel_rfl) (λ_=>rfl) ⟨λ_=>rfl,trivial⟩
 (λn=>λx=>(z90.eq_2 x.1 x.2.1 n).trans (by kernel_rfl))
 (λn=>⟨λx=>(z88.eq_2 x.1 x.2.1 x.2.2.1 n).trans (by kernel_rfl),
  trivial⟩)
 (λx=>.inl rfl)
theorem yoe:OkL Tryz.prog [zmb]:=zz6 (zz2 _) (bs:=[]) trivial ytd
theorem yj0:FOk Tryz.prog zmb:=yoe.1
mutual
noncomputable def z00:Nat->zz0->zz0->Option (Res ((List UInt8)×Unit) Bool)
 |0,_,_=>none
 |n+1,a0,a1 =>
  (zc1 n a0).bind λy0 =>
  pIf y0
   (zzs n true a1 a0)
   ((zc1 n a1).bind λy1 =>
   zzs n y1 a1 a0)
noncomputable def zzs:Nat->Bool->zz0->zz0->Option (Res ((List UInt8)×Unit) Bool)
 |0,_,_,_=>none
 |n+1,a0,a1,a2 =>
  pIf a0
   (some (Res.ok true))
   ((zdi n a2 a1).bind λy2 =>
   y60 y2 (λr3 =>
    (zbx n a2 a1).bind λy4 =>
    (zap n a2 a1).bind λy5 =>
    y60 y5 (λr6 =>
     (z8q n a2 a1).bind λy7 =>
     (z8u n a2 a1).bind λy8 =>
     y60 y8 (λr9 =>
      (z6f n a2 a1).bind λy10 =>
      (z90 n r3.1 y4.1).bind λy11 =>
      pIf y11
       (pIf (r3.2==y4.2)
         ((z90 n r6.1 y7.1).bind λy12 =>
         pIf y12
          (pIf (r6.2==y7.2)
            ((z90 n r9.1 y10.1).bind λy13 =>
            pIf y13
             (some (Res.ok (r9.2==y10.2)))
             (some (Res.ok false)))
            (some (Res.ok false)))
          (some (Res.ok false)))
         (some (Res.ok false)))
       (some (Res.ok false)))
      (λe14 =>
      some (Res.pan (e14.1,()))))
     (λe15 =>
     some (Res.pan (e15.1,()))))
    (λe16 =>
    some (Res.pan (e16.1,()))))
end
def zq5:LSh:=⟨[(4,(.d .bool))],[],0,87⟩
noncomputable def zc3:FI dat:=FI.ofP dat 3 87 0 [(.d (.st 8)),(.d (.st 8))] [] [(.d .bool)] [] (.iface 9 (.d .str)) [] [] zq5 (R:=Bool) (λx=>x.1) (λr=>(r,())) (λn x=>z00 n x.1 x.2.1)
 (λn=>[(0,⟨⟨[(3,(.ptr 0 0)),(2,(.ptr 1 0)),(22,(.d .bool))],[(.st 8),(.st 8)],0,87⟩,λx=>zzs n x.1 x.2.1 x.2.2.1⟩)]) (ann [(5,0)] (Tryz.f3.body.getD .skip) 0).1
noncomputable def zqm:List (FI dat):=[zm2,zhc,zfv,zjj,zjw,zfp,ze7,zmb]
theorem zr1:(zc3).Good Tryz.prog dat (tb zqm):=FI.zol (hD:=zz2 _) Tryz.func3 Tryz.ntmps3 Tryz.call3 (by kernel_rfl) (of_decide_eq_true (by kernel_rfl)) (by kernel_rfl) (λn=>by kernel_rfl) trivial (λx=>by kernel_rfl) (λ_=>rfl) ⟨λ_=>rfl,trivial⟩
 (λn=>λx=>(z00.eq_2 x.1 x.2.1 n).trans (by kernel_rfl))
 (λn=>⟨λx=>(zzs.eq_2 x.1 x.2.1 x.2.2.1 n).trans (by kernel_rfl),
  trivial⟩)
 (λx=>by kernel_rfl)
theorem zqn:OkL Tryz.prog [zc3]:=zz6 (zz2 _) (bs:=[zm2,zhc,zfv,zjj,zjw,zfp,ze7,zmb]) ⟨ylq,ya0,y5h,yfr,ycx,y7k,y3w,yj0,trivial⟩ zr1
theorem zps:FOk Tryz.prog zc3:=zqn.1
theorem zpo (a0:zz0) (a1:zz0):VRL dat [] 0 [dat.tv (.st 8) a0,dat.tv (.st 8) a1] [dat.el (.st 8) a0,dat.el (.st 8) a1]:=by
 simp only [VRL]
 exact ⟨_,_,rfl,VR.tv (zz2 Tryz.prog) (DR.el _ _),⟨_,_,rfl,VR.tv (zz2 Tryz.prog) (DR.el _ _),rfl⟩⟩
theorem znl (n:Nat) (a0:zz0) (a1:zz0) (r:Bool) (h:z00 n a0 a1=some (Res.ok r)) (H:yz3):y2x Tryz.prog 3 [dat.el (.st 8) a0,dat.el (.st 8) a1] H λout _=>out = .ret (.bool r):=by
 rcases zps n _ (a0,a1,()) (λy=>some y.1) (λ_=>none) r (by show (z00 n a0 a1).bind (λr=>y60 r _ _)=some r;rw [h];rfl) with ⟨y,h1,h2⟩|⟨y,h1,h2⟩
 ·injection h1 with h1
  subst h1
  refine (h2 H.lv H.L H.E [] [dat.el (.st 8) a0,dat.el (.st 8) a1] rfl (zpo a0 a1) (λj o hm=>by cases hm) (λs s' sl sl' i q=>by simp at q)).mono λout H' hq => ?_
  obtain ⟨L',ρ',_,_,_,vs,e,hv⟩:=hq
  replace hv:VRL dat ρ' H.lv [TV.bool y.1] vs:=hv
  simp only [VRL,VR] at hv
  obtain ⟨v,r,rfl,rfl,rfl⟩:=hv
  exact e
 ·cases h1
end Go.Proofs.YtahcjggdcmgpkaaGreat
namespace Go.Proofs.Tryz
open Go Go.Ab
set_option linter.unusedSimpArgs false
@[simp] theorem ywa:Program.cellsOf Tryz.prog 2=1:=by kernel_rfl
@[simp] theorem z041:Program.cellsOf Tryz.prog 3=1:=by kernel_rfl
@[simp] theorem z03e:Program.cellsOf Tryz.prog 4=1:=by kernel_rfl
@[simp] theorem zy8:Program.cellsOf Tryz.prog 5=1:=by kernel_rfl
@[simp] theorem zqz:Program.cellsOf Tryz.prog 9=1:=by kernel_rfl
@[simp] theorem z01u:Program.cellsOf Tryz.prog 22=1:=by kernel_rfl
@[simp] theorem z03a:Program.cellsOf Tryz.prog 23=1:=by kernel_rfl
@[simp] theorem z01t:Program.cellsOf Tryz.prog 25=2:=by kernel_rfl
@[simp] theorem z02j:Program.cellsOf Tryz.prog 27=1:=by kernel_rfl
@[simp] theorem yn9:Program.cellsOf Tryz.prog 37=2:=by kernel_rfl
@[simp] theorem z02n:Program.cellsOf Tryz.prog 38=1:=by kernel_rfl
@[simp] theorem y66:Program.cellsOf Tryz.prog 40=6:=by kernel_rfl
@[simp] theorem y7j:Program.cellsOf Tryz.prog 41=1:=by kernel_rfl
@[simp] theorem zpv:Program.cellsOf Tryz.prog 43=9:=by kernel_rfl
@[simp] theorem ymt:Program.cellsOf Tryz.prog 45=10:=by kernel_rfl
@[simp] theorem z026:Program.cellsOf Tryz.prog 46=1:=by kernel_rfl
@[simp] theorem yne:Program.cellsOf Tryz.prog 48=3:=by kernel_rfl
@[simp] theorem z01h:Program.cellsOf Tryz.prog 50=1:=by kernel_rfl
@[simp] theorem yn7:Program.cellsOf Tryz.prog 52=11:=by kernel_rfl
@[simp] theorem z01q:Program.cellsOf Tryz.prog 69=1:=by kernel_rfl
@[simp] theorem yng:Program.cellsOf Tryz.prog 71=5:=by kernel_rfl
@[simp] theorem yms:Program.cellsOf Tryz.prog 73=3:=by kernel_rfl
end Go.Proofs.Tryz
namespace Go.Proofs.Tryz
open Go Go.Ab
set_option linter.unusedSimpArgs false
theorem z06x (n:Nat):Reads Tryz.prog n 37 kz6.ty:=(zb0 Tryz.underlying37 yn9 (λm hm=>(kzi rfl ywa (zlf Tryz.underlying2 m) (kzi rfl ywa (zlf Tryz.underlying2 m) zf3)))).conv (λx=>(⟨x.1,x.2.1⟩:kz6)) (λx=>by show kz6.el _=_;rw [kz6.yz7];simp [Ty.struct,Ty.pair,Ty.unit,Ty.int,Ty.bool,Ty.str,Ty.slice,V.cells,kz6.ty,kz6.yz7,yz2.ty,yz2.yz7,zz1.ty,zz1.yz7,zz7.ty,zz7.yz7,yza.ty,yza.yz7,zz3.ty,zz3.yz7,kz5.ty,kz5.yz7,kz4.ty,kz4.yz7,zz0.ty,zz0.yz7]) rfl (λx h=>by simp only [kz6.ty];rw [kz6.z5t];simp only [Ty.struct,Ty.pair,Ty.unit,Ty.int,Ty.bool,Ty.str,Ty.slice,kz6.ty,yz2.ty,zz1.ty,zz7.ty,yza.ty,zz3.ty,kz5.ty,kz4.ty,zz0.ty] at h ⊢;simpa using h) (λx=>by simp only [Ty.struct,Ty.pair,Ty.unit,Ty.int,Ty.bool,Ty.str,Ty.slice,kz6.ty,yz2.ty,zz1.ty,zz7.ty,yza.ty,zz3.ty,kz5.ty,kz4.ty,zz0.ty];rw [kz6.size_eq];(try dsimp only);omega)
theorem z06z:∀n,Reads Tryz.prog n 40 yz2.ty:=λn=>by
 induction n using Nat.strongRecOn with
 |ind n ih=>exact (zb0 Tryz.underlying40 y66 (λm hm=>(kzi rfl zy8 (zlf Tryz.underlying5 m) (kzi rfl yn9 (z06x m) (kzi rfl z03e (yyw Tryz.underlying4 m) (kzi rfl zqz (znr Tryz.underlying9 m) (kzi rfl z02n (zbd Tryz.underlying38 y66 (by decide) (λk hk=>(ih k (by omega)))) zf3))))))).conv (λx=>(⟨x.1,x.2.1,x.2.2.1,x.2.2.2.1,x.2.2.2.2.1⟩:yz2)) (λx=>by show yz2.el _=_;rw [yz2.yz7];simp [Ty.struct,Ty.pair,Ty.unit,Ty.int,Ty.bool,Ty.str,Ty.slice,V.cells,kz6.ty,kz6.yz7,yz2.ty,yz2.yz7,zz1.ty,zz1.yz7,zz7.ty,zz7.yz7,yza.ty,yza.yz7,zz3.ty,zz3.yz7,kz5.ty,kz5.yz7,kz4.ty,kz4.yz7,zz0.ty,zz0.yz7]) rfl (λx h=>by simp only [yz2.ty];rw [yz2.z5t];simp only [Ty.struct,Ty.pair,Ty.unit,Ty.int,Ty.bool,Ty.str,Ty.slice,kz6.ty,yz2.ty,zz1.ty,zz7.ty,yza.ty,zz3.ty,kz5.ty,kz4.ty,zz0.ty] at h ⊢;simpa using h) (λx=>by simp only [Ty.struct,Ty.pair,Ty.unit,Ty.int,Ty.bool,Ty.str,Ty.slice,kz6.ty,yz2.ty,zz1.ty,zz7.ty,yza.ty,zz3.ty,kz5.ty,kz4.ty,zz0.ty];rw [yz2.size_eq];(try dsimp only);omega)
theorem ybe:∀n,Reads Tryz.prog n 43 zz1.ty:=λn=>by
 induction n using Nat.strongRecOn with
 |ind n ih=>exact (zb0 Tryz.underlying43 zpv (λm hm=>(kzi rfl zy8 (zlf Tryz.underlying5 m) (kzi rfl y66 (z06z m) (kzi rfl zqz (znr Tryz.underlying9 m) (kzi rfl y7j (zbd Tryz.underlying41 zpv (by decide) (λk hk=>(ih k (by omega)))) zf3)))))).conv (λx=>(⟨x.1,x.2.1,x.2.2.1,x.2.2.2.1⟩:zz1)) (λx=>by show zz1.el _=_;rw [zz1.yz7];simp [Ty.struct,Ty.pair,Ty.unit,Ty.int,Ty.bool,Ty.str,Ty.slice,V.cells,kz6.ty,kz6.yz7,yz2.ty,yz2.yz7,zz1.ty,zz1.yz7,zz7.ty,zz7.yz7,yza.ty,yza.yz7,zz3.ty,zz3.yz7,kz5.ty,kz5.yz7,kz4.ty,kz4.yz7,zz0.ty,zz0.yz7]) rfl (λx h=>by simp only [zz1.ty];rw [zz1.z5t];simp only [Ty.struct,Ty.pair,Ty.unit,Ty.int,Ty.bool,Ty.str,Ty.slice,kz6.ty,yz2.ty,zz1.ty,zz7.ty,yza.ty,zz3.ty,kz5.ty,kz4.ty,zz0.ty] at h ⊢;simpa using h) (λx=>by simp only [Ty.struct,Ty.pair,Ty.unit,Ty.int,Ty.bool,Ty.str,Ty.slice,kz6.ty,yz2.ty,zz1.ty,zz7.ty,yza.ty,zz3.ty,kz5.ty,kz4.ty,zz0.ty];rw [zz1.size_eq];(try dsimp only);omega)
theorem z069 (n:Nat):Reads Tryz.prog n 45 zz7.ty:=(zb0 Tryz.underlying45 ymt (λm hm=>(kzi rfl zqz (znr Tryz.underlying9 m) (kzi rfl zpv (ybe m) zf3)))).conv (λx=>(⟨x.1,x.2.1⟩:zz7)) (λx=>by show zz7.el _=_;rw [zz7.yz7];simp [Ty.struct,Ty.pair,Ty.unit,Ty.int,Ty.bool,Ty.str,Ty.slice,V.cells,kz6.ty,kz6.yz7,yz2.ty,yz2.yz7,zz1.ty,zz1.yz7,zz7.ty,zz7.yz7,yza.ty,yza.yz7,zz3.ty,zz3.yz7,kz5.ty,kz5.yz7,kz4.ty,kz4.yz7,zz0.ty,zz0.yz7]) rfl (λx h=>by simp only [zz7.ty];rw [zz7.z5t];simp only [Ty.struct,Ty.pair,Ty.unit,Ty.int,Ty.bool,Ty.str,Ty.slice,kz6.ty,yz2.ty,zz1.ty,zz7.ty,yza.ty,zz3.ty,kz5.ty,kz4.ty,zz0.ty] at h ⊢;simpa using h) (λx=>by simp only [Ty.struct,Ty.pair,Ty.unit,Ty.int,Ty.bool,Ty.str,Ty.slice,kz6.ty,yz2.ty,zz1.ty,zz7.ty,yza.ty,zz3.ty,kz5.ty,kz4.ty,zz0.ty];rw [zz7.size_eq];(try dsimp only);omega)
theorem z06r (n:Nat):Reads Tryz.prog n 73 yza.ty:=(zb0 Tryz.underlying73 yms (λm hm=>(kzi rfl zy8 (zlf Tryz.underlying5 m) (kzi rfl zqz (znr Tryz.underlying9 m) (kzi rfl y7j (zbd Tryz.underlying41 zpv (by decide) (λk hk=>(ybe k))) zf3))))).conv (λx=>(⟨x.1,x.2.1,x.2.2.1⟩:yza)) (λx=>by show yza.el _=_;rw [yza.yz7];simp [Ty.struct,Ty.pair,Ty.unit,Ty.int,Ty.bool,Ty.str,Ty.slice,V.cells,kz6.ty,kz6.yz7,yz2.ty,yz2.yz7,zz1.ty,zz1.yz7,zz7.ty,zz7.yz7,yza.ty,yza.yz7,zz3.ty,zz3.yz7,kz5.ty,kz5.yz7,kz4.ty,kz4.yz7,zz0.ty,zz0.yz7]) rfl (λx h=>by simp only [yza.ty];rw [yza.z5t];simp only [Ty.struct,Ty.pair,Ty.unit,Ty.int,Ty.bool,Ty.str,Ty.slice,kz6.ty,yz2.ty,zz1.ty,zz7.ty,yza.ty,zz3.ty,kz5.ty,kz4.ty,zz0.ty] at h ⊢;simpa using h) (λx=>by simp only [Ty.struct,Ty.pair,Ty.unit,Ty.int,Ty.bool,Ty.str,Ty.slice,kz6.ty,yz2.ty,zz1.ty,zz7.ty,yza.ty,zz3.ty,kz5.ty,kz4.ty,zz0.ty];rw [yza.size_eq];(try dsimp only);omega)
theorem z06f (n:Nat):Reads Tryz.prog n 71 zz3.ty:=(zb0 Tryz.underlying71 yng (λm hm=>(kzi rfl zy8 (zlf Tryz.underlying5 m) (kzi rfl zy8 (zlf Tryz.underlying5 m) (kzi rfl zqz (znr Tryz.underlying9 m) (kzi rfl y7j (zbd Tryz.underlying41 zpv (by decide) (λk hk=>(ybe k))) (kzi rfl z01q (zbd Tryz.underlying69 yms (by decide) (λk hk=>(z06r k))) zf3))))))).conv (λx=>(⟨x.1,x.2.1,x.2.2.1,x.2.2.2.1,x.2.2.2.2.1⟩:zz3)) (λx=>by show zz3.el _=_;rw [zz3.yz7];simp [Ty.struct,Ty.pair,Ty.unit,Ty.int,Ty.bool,Ty.str,Ty.slice,V.cells,kz6.ty,kz6.yz7,yz2.ty,yz2.yz7,zz1.ty,zz1.yz7,zz7.ty,zz7.yz7,yza.ty,yza.yz7,zz3.ty,zz3.yz7,kz5.ty,kz5.yz7,kz4.ty,kz4.yz7,zz0.ty,zz0.yz7]) rfl (λx h=>by simp only [zz3.ty];rw [zz3.z5t];simp only [Ty.struct,Ty.pair,Ty.unit,Ty.int,Ty.bool,Ty.str,Ty.slice,kz6.ty,yz2.ty,zz1.ty,zz7.ty,yza.ty,zz3.ty,kz5.ty,kz4.ty,zz0.ty] at h ⊢;simpa using h) (λx=>by simp only [Ty.struct,Ty.pair,Ty.unit,Ty.int,Ty.bool,Ty.str,Ty.slice,kz6.ty,yz2.ty,zz1.ty,zz7.ty,yza.ty,zz3.ty,kz5.ty,kz4.ty,zz0.ty];rw [zz3.size_eq];(try dsimp only);omega)
theorem z06k (n:Nat):Reads Tryz.prog n 52 kz5.ty:=(zb0 Tryz.underlying52 yn7 (λm hm=>(kzi rfl z041 (zlf Tryz.underlying3 m) (kzi rfl zpv (ybe m) (kzi rfl z01h (zbd Tryz.underlying50 yng (by decide) (λk hk=>(z06f k))) zf3))))).conv (λx=>(⟨x.1,x.2.1,x.2.2.1⟩:kz5)) (λx=>by show kz5.el _=_;rw [kz5.yz7];simp [Ty.struct,Ty.pair,Ty.unit,Ty.int,Ty.bool,Ty.str,Ty.slice,V.cells,kz6.ty,kz6.yz7,yz2.ty,yz2.yz7,zz1.ty,zz1.yz7,zz7.ty,zz7.yz7,yza.ty,yza.yz7,zz3.ty,zz3.yz7,kz5.ty,kz5.yz7,kz4.ty,kz4.yz7,zz0.ty,zz0.yz7]) rfl (λx h=>by simp only [kz5.ty];rw [kz5.z5t];simp only [Ty.struct,Ty.pair,Ty.unit,Ty.int,Ty.bool,Ty.str,Ty.slice,kz6.ty,yz2.ty,zz1.ty,zz7.ty,yza.ty,zz3.ty,kz5.ty,kz4.ty,zz0.ty] at h ⊢;simpa using h) (λx=>by simp only [Ty.struct,Ty.pair,Ty.unit,Ty.int,Ty.bool,Ty.str,Ty.slice,kz6.ty,yz2.ty,zz1.ty,zz7.ty,yza.ty,zz3.ty,kz5.ty,kz4.ty,zz0.ty];rw [kz5.size_eq];(try dsimp only);omega)
theorem z071 (n:Nat):Reads Tryz.prog n 48 kz4.ty:=(zb0 Tryz.underlying48 yne (λm hm=>(kzi rfl zqz (znr Tryz.underlying9 m) (kzi rfl z02j (zbd Tryz.underlying27 zqz (by decide) (λk hk=>(znr Tryz.underlying9 k))) (kzi rfl z026 (zbd Tryz.underlying46 yn7 (by decide) (λk hk=>(z06k k))) zf3))))).conv (λx=>(⟨x.1,x.2.1,x.2.2.1⟩:kz4)) (λx=>by show kz4.el _=_;rw [kz4.yz7];simp [Ty.struct,Ty.pair,Ty.unit,Ty.int,Ty.bool,Ty.str,Ty.slice,V.cells,kz6.ty,kz6.yz7,yz2.ty,yz2.yz7,zz1.ty,zz1.yz7,zz7.ty,zz7.yz7,yza.ty,yza.yz7,zz3.ty,zz3.yz7,kz5.ty,kz5.yz7,kz4.ty,kz4.yz7,zz0.ty,zz0.yz7]) rfl (λx h=>by simp only [kz4.ty];rw [kz4.z5t];simp only [Ty.struct,Ty.pair,Ty.unit,Ty.int,Ty.bool,Ty.str,Ty.slice,kz6.ty,yz2.ty,zz1.ty,zz7.ty,yza.ty,zz3.ty,kz5.ty,kz4.ty,zz0.ty] at h ⊢;simpa using h) (λx=>by simp only [Ty.struct,Ty.pair,Ty.unit,Ty.int,Ty.bool,Ty.str,Ty.slice,kz6.ty,yz2.ty,zz1.ty,zz7.ty,yza.ty,zz3.ty,kz5.ty,kz4.ty,zz0.ty];rw [kz4.size_eq];(try dsimp only);omega)
theorem z06j (n:Nat):Reads Tryz.prog n 25 zz0.ty:=(zb0 Tryz.underlying25 z01t (λm hm=>(kzi rfl z01u (zbd Tryz.underlying22 ymt (by decide) (λk hk=>(z069 k))) (kzi rfl z03a (zbd Tryz.underlying23 yne (by decide) (λk hk=>(z071 k))) zf3)))).conv (λx=>(⟨x.1,x.2.1⟩:zz0)) (λx=>by show zz0.el _=_;rw [zz0.yz7];simp [Ty.struct,Ty.pair,Ty.unit,Ty.int,Ty.bool,Ty.str,Ty.slice,V.cells,kz6.ty,kz6.yz7,yz2.ty,yz2.yz7,zz1.ty,zz1.yz7,zz7.ty,zz7.yz7,yza.ty,yza.yz7,zz3.ty,zz3.yz7,kz5.ty,kz5.yz7,kz4.ty,kz4.yz7,zz0.ty,zz0.yz7]) rfl (λx h=>by simp only [zz0.ty];rw [zz0.z5t];simp only [Ty.struct,Ty.pair,Ty.unit,Ty.int,Ty.bool,Ty.str,Ty.slice,kz6.ty,yz2.ty,zz1.ty,zz7.ty,yza.ty,zz3.ty,kz5.ty,kz4.ty,zz0.ty] at h ⊢;simpa using h) (λx=>by simp only [Ty.struct,Ty.pair,Ty.unit,Ty.int,Ty.bool,Ty.str,Ty.slice,kz6.ty,yz2.ty,zz1.ty,zz7.ty,yza.ty,zz3.ty,kz5.ty,kz4.ty,zz0.ty];rw [zz0.size_eq];(try dsimp only);omega)
theorem z076:z07h Tryz.prog 25 zz0.ty:=yyl Tryz.underlying25 z06j zz0.zr0
end Go.Proofs.Tryz
