/-
  Go functions as Lean functions, by a program of this repo.
-/
import Derived.Test.YthlmhmebajjkbaaGreatDoorOwn1
namespace Go.Proofs.YthlmhmebajjkbaaGreatDoor
open Go Go.Ab
set_option linter.unusedVariables false
set_option maxRecDepth 100000
set_option maxHeartbeats 4000000
def zc6:Nat->Int->zzu->(List UInt8)->(List UInt8)->(List zzu)->Option ((List UInt8)×(List UInt8)×(List zzu))
 |0,_,_,_,_,_=>none
 |n+1,a0,a1,a2,a3,a4=>
  pIf (a1.name==a2)
   (some (a2,a3,(a4.set (Int.toNat a0) (zzu.mk a1.kind a3 a1.args))))
   (some (a2,a3,a4))
def zpu:LSh:=⟨[],[(.cells [(.d .str)]),(.cells [(.d .str)]),(.acc 106 (.st 4) true)],2,12,[2]⟩
noncomputable def z42:FI dat:=FI.of dat 104 12 2 [(.ap 2 (.st 4) 1),(.ptr 0 0),(.ptr 1 0)] [(.cells [(.d .str)]),(.cells [(.d .str)]),(.acc 106 (.st 4) true)] [] [(.cells [(.d .str)]),(.cells [(.d .str)]),(.acc 106 (.st 4) true)] false zpu (R:=(List UInt8)×(List UInt8)×(List zzu)) (λx=>(x.1,x.2.1,x.2.2.1)) (λr=>(r.1,r.2.1,r.2.2,())) (λn x=>zc6 n x.1 x.2.1 x.2.2.1 x.2.2.2.1 x.2.2.2.2.1)
 (λn=>[]) (ann [] (Tryz.f104.body.getD .skip) 0).1 [2]
noncomputable def zqc:List (FI dat):=[]
theorem zq6:(z42).Good Tryz.prog dat (tb zqc):=FI.zz2 (hD:=zz0 _) Tryz.func104 Tryz.ntmps104 Tryz.call104 (by kernel_rfl) (Qac (by kernel_rfl)) (by kernel_rfl) (λn=>by kernel_rfl) (λx=>by kernel_rfl) (λ_=>rfl) trivial
 (λn=>λx=>(zc6.eq_2 _ _ _ _ _ n).trans (by kernel_rfl))
 (λn=>trivial)
 (λx=>.inr (by kernel_rfl))
theorem zpr:OkL Tryz.prog [z42]:=zz3 (zz0 _) (bs:=[]) trivial zq6
theorem zo4:FOk Tryz.prog z42:=zpr.1
mutual
def zjg:Nat->(List UInt8)->(List UInt8)->(List kz4)->(List zz1)->Option ((List kz4)×(List zz1))
 |0,_,_,_,_=>none
 |n+1,a0,a1,a2,a3=>
  z8v n 0 (a3.length:Int) a0 a1 a2 a3
def z8v:Nat->Int->Int->(List UInt8)->(List UInt8)->(List kz4)->(List zz1)->Option ((List kz4)×(List zz1))
 |0,_,_,_,_,_,_=>none
 |n+1,a0,a1,a2,a3,a4,a5=>
  pIf (decide (a0<a1))
   ((ix a5 a0).bind λx0=>
   (zgn n a0 a2 a3 a5).bind λy1=>
   (ix y1.2.2 a0).bind λx2=>
   (ix y1.2.2 a0).bind λx3=>
   (ix y1.2.2 a0).bind λx4=>
   z8c n 0 a1 a0 (x3.cases.length:Int) y1.1 y1.2.1 x3.cases a4 y1.2.2 a0)
   (some (a4,a5))
def z8c:Nat->Int->Int->Int->Int->(List UInt8)->(List UInt8)->(List kz9)->(List kz4)->(List zz1)->Int->Option ((List kz4)×(List zz1))
 |0,_,_,_,_,_,_,_,_,_,_=>none
 |n+1,a0,a1,a2,a3,a4,a5,a6,a7,a8,a9=>
  pIf (decide (a0<a3))
   ((ix a6 a0).bind λx5=>
   (ix a6 a0).bind λx6=>
   (ix a6 a0).bind λx7=>
   z86 n 0 a1 a2 a3 a0 (x6.do_.length:Int) x7.weight x7.when_.op x7.when_.value.kind x7.when_.value.num.num x7.when_.value.num.den x7.when_.value.truth x7.when_.value.str x7.when_.value.list x7.when_.name x7.when_.args a4 a5 a6 a0 a7 a8 a9 x6.do_)
   ((ix a8 a9).bind λx8=>
   z8v n (IntKind.i64.wrap (a2+1)) a1 a4 a5 a7 (a8.set (Int.toNat a9) (zz1.mk x8.name x8.params a6)))
def z86:Nat->Int->Int->Int->Int->Int->Int->Int->Int->Int->Int->Int->Bool->(List UInt8)->(List yz0)->(List UInt8)->(List kz0)->(List UInt8)->(List UInt8)->(List kz9)->Int->(List kz4)->(List zz1)->Int->(List yz3)->Option ((List kz4)×(List zz1))
 |0,_,_,_,_,_,_,_,_,_,_,_,_,_,_,_,_,_,_,_,_,_,_,_,_=>none
 |n+1,a0,a1,a2,a3,a4,a5,a6,a7,a8,a9,a10,a11,a12,a13,a14,a15,a16,a17,a18,a19,a20,a21,a22,a23=>
  pIf (decide (a0<a5))
   ((ix a23 a0).bind λx9=>
   (zcl n a0 a16 a17 a23).bind λy10=>
   (ix y10.2.2 a0).bind λx11=>
   (ix y10.2.2 a0).bind λx12=>
   (ix y10.2.2 a0).bind λx13=>
   (ix y10.2.2 a0).bind λx14=>
   z8j n 0 a0 a1 a2 a3 a4 a5 a0 (x12.items.length:Int) a6 a7 a8 a9 a10 a11 a12 a13 a14 a15 y10.1 y10.2.1 a18 a19 a20 a21 a22 (y10.2.2.set (Int.toNat a0) (yz3.mk x14.kind x14.axis x14.name x14.args x12.items)))
   ((ix a18 a19).bind λx15=>
   z8c n (IntKind.i64.wrap (a4+1)) a1 a2 a3 a16 a17 (a18.set (Int.toNat a19) (kz9.mk x15.weight x15.when_.re a23)) a20 a21 a22)
def z8j:Nat->Int->Int->Int->Int->Int->Int->Int->Int->Int->Int->Int->Int->Int->Int->Bool->(List UInt8)->(List yz0)->(List UInt8)->(List kz0)->(List UInt8)->(List UInt8)->(List kz9)->Int->(List kz4)->(List zz1)->Int->(List yz3)->Option ((List kz4)×(List zz1))
 |0,_,_,_,_,_,_,_,_,_,_,_,_,_,_,_,_,_,_,_,_,_,_,_,_,_,_,_=>none
 |n+1,a0,a1,a2,a3,a4,a5,a6,a7,a8,a9,a10,a11,a12,a13,a14,a15,a16,a17,a18,a19,a20,a21,a22,a23,a24,a25,a26=>
  pIf (decide (a0<a8))
   ((ix a26 a1).bind λx16=>
   (ix a26 a1).bind λx17=>
   (ix a26 a1).bind λx18=>
   (ix x17.items a0).bind λx19=>
   (zc6 n a0 x19 a19 a20 x17.items).bind λy20=>
   (ix a26 a1).bind λx21=>
   z8j n (IntKind.i64.wrap (a0+1)) a1 a2 a3 a4 a5 a6 a7 a8 a9 a10 a11 a12 a13 a14 a15 a16 a17 a18 y20.1 y20.2.1 a21 a22 a23 a24 a25 (a26.set (Int.toNat a1) (yz3.mk x21.kind x21.axis x21.name x21.args y20.2.2)))
   (z86 n (IntKind.i64.wrap (a7+1)) a2 a3 a4 a5 a6 a9 a10 a11 a12 a13 a14 a15 a16 a17 a18 a19 a20 a21 a22 a23 a24 a25 a26)
end
def y0i:LSh:=⟨[],[(.acc 83 (.st 3) true),(.deep 34 7)],0,75,[0,1]⟩
noncomputable def zdi:FI dat:=FI.of dat 59 75 0 [(.agg [(.own 0),(.own 1)]),(.d .str),(.d .str)] [(.acc 83 (.st 3) true),(.deep 34 7)] [] [(.acc 83 (.st 3) true),(.deep 34 7)] false y0i (R:=(List kz4)×(List zz1)) (λx=>(x.1,x.2.1)) (λr=>(r.1,r.2,())) (λn x=>zjg n x.1 x.2.1 x.2.2.1 x.2.2.2.1)
 (λn=>[(0,⟨⟨[(6,(.fn 104 [] [(.ptr 0 0),(.ptr 1 0)])),(16,(.d (.int .i64))),(3,(.ptr 2 0)),(15,(.d (.int .i64)))],[(.cells [(.d .str)]),(.cells [(.d .str)]),(.cells [(.own 3),(.own 4)]),(.acc 83 (.st 3) true),(.deep 34 7)],0,75,[3,4]⟩,λx=>z8v n x.1 x.2.1 x.2.2.1 x.2.2.2.1 x.2.2.2.2.1 x.2.2.2.2.2.1⟩),(1,⟨⟨[(6,(.fn 104 [] [(.ptr 0 0),(.ptr 1 0)])),(33,(.d (.int .i64))),(31,(.own 2)),(3,(.ptr 3 0)),(15,(.d (.int .i64))),(16,(.d (.int .i64))),(32,(.d (.int .i64)))],[(.cells [(.d .str)]),(.cells [(.d .str)]),(.deep 64 6),(.cells [(.own 4),(.own 5)]),(.acc 83 (.st 3) true),(.deeph 34 7 2 2)],0,75,[4,5]⟩,λx=>z8c n x.1 x.2.1 x.2.2.1 x.2.2.2.1 x.2.2.2.2.1 x.2.2.2.2.2.1 x.2.2.2.2.2.2.1 x.2.2.2.2.2.2.2.1 x.2.2.2.2.2.2.2.2.1 x.2.2.2.2.2.2.2.2.2.1⟩),(2,⟨⟨[(9,(.ptr 0 0)),(6,(.fn 104 [] [(.ptr 1 0),(.ptr 2 0)])),(40,(.d (.int .i64))),(31,(.own 3)),(3,(.ptr 4 0)),(15,(.d (.int .i64))),(16,(.d (.int .i64))),(32,(.d (.int .i64))),(33,(.d (.int .i64))),(39,(.d (.int .i64)))],[(.cells [(.d (.int .i64)),(.d (.int .u8)),(.d (.int .u8)),(.d (.int .i64)),(.d (.int .i64)),(.d .bool),(.d .str),(.d (.sl (.st 1))),(.d .str),(.d (.sl (.st 2))),(.own 7)]),(.cells [(.d .str)]),(.cells [(.d .str)]),(.deeph 64 6 10 7),(.cells [(.own 5),(.own 6)]),(.acc 83 (.st 3) true),(.deeph 34 7 2 3),(.deep 71 5)],0,75,[5,6]⟩,λx=>z86 n x.1 x.2.1 x.2.2.1 x.2.2.2.1 x.2.2.2.2.1 x.2.2.2.2.2.1 x.2.2.2.2.2.2.1 x.2.2.2.2.2.2.2.1 x.2.2.2.2.2.2.2.2.1 x.2.2.2.2.2.2.2.2.2.1 x.2.2.2.2.2.2.2.2.2.2.1 x.2.2.2.2.2.2.2.2.2.2.2.1 x.2.2.2.2.2.2.2.2.2.2.2.2.1 x.2.2.2.2.2.2.2.2.2.2.2.2.2.1 x.2.2.2.2.2.2.2.2.2.2.2.2.2.2.1 x.2.2.2.2.2.2.2.2.2.2.2.2.2.2.2.1 x.2.2.2.2.2.2.2.2.2.2.2.2.2.2.2.2.1 x.2.2.2.2.2.2.2.2.2.2.2.2.2.2.2.2.2.1 x.2.2.2.2.2.2.2.2.2.2.2.2.2.2.2.2.2.2.1 x.2.2.2.2.2.2.2.2.2.2.2.2.2.2.2.2.2.2.2.1 x.2.2.2.2.2.2.2.2.2.2.2.2.2.2.2.2.2.2.2.2.1 x.2.2.2.2.2.2.2.2.2.2.2.2.2.2.2.2.2.2.2.2.2.1 x.2.2.2.2.2.2.2.2.2.2.2.2.2.2.2.2.2.2.2.2.2.2.1 x.2.2.2.2.2.2.2.2.2.2.2.2.2.2.2.2.2.2.2.2.2.2.2.1⟩),(3,⟨⟨[(57,(.d (.int .i64))),(10,(.d (.int .i64))),(9,(.ptr 0 0)),(6,(.fn 104 [] [(.ptr 1 0),(.ptr 2 0)])),(31,(.own 3)),(3,(.ptr 4 0)),(15,(.d (.int .i64))),(16,(.d (.int .i64))),(32,(.d (.int .i64))),(33,(.d (.int .i64))),(39,(.d (.int .i64))),(40,(.d (.int .i64))),(56,(.d (.int .i64)))],[(.cells [(.d (.int .i64)),(.d (.int .u8)),(.d (.int .u8)),(.d (.int .i64)),(.d (.int .i64)),(.d .bool),(.d .str),(.d (.sl (.st 1))),(.d .str),(.d (.sl (.st 2))),(.own 7)]),(.cells [(.d .str)]),(.cells [(.d .str)]),(.deeph 64 6 10 7),(.cells [(.own 5),(.own 6)]),(.acc 83 (.st 3) true),(.deeph 34 7 2 3),(.deep 71 5)],0,75,[5,6]⟩,λx=>z8j n x.1 x.2.1 x.2.2.1 x.2.2.2.1 x.2.2.2.2.1 x.2.2.2.2.2.1 x.2.2.2.2.2.2.1 x.2.2.2.2.2.2.2.1 x.2.2.2.2.2.2.2.2.1 x.2.2.2.2.2.2.2.2.2.1 x.2.2.2.2.2.2.2.2.2.2.1 x.2.2.2.2.2.2.2.2.2.2.2.1 x.2.2.2.2.2.2.2.2.2.2.2.2.1 x.2.2.2.2.2.2.2.2.2.2.2.2.2.1 x.2.2.2.2.2.2.2.2.2.2.2.2.2.2.1 x.2.2.2.2.2.2.2.2.2.2.2.2.2.2.2.1 x.2.2.2.2.2.2.2.2.2.2.2.2.2.2.2.2.1 x.2.2.2.2.2.2.2.2.2.2.2.2.2.2.2.2.2.1 x.2.2.2.2.2.2.2.2.2.2.2.2.2.2.2.2.2.2.1 x.2.2.2.2.2.2.2.2.2.2.2.2.2.2.2.2.2.2.2.1 x.2.2.2.2.2.2.2.2.2.2.2.2.2.2.2.2.2.2.2.2.1 x.2.2.2.2.2.2.2.2.2.2.2.2.2.2.2.2.2.2.2.2.2.1 x.2.2.2.2.2.2.2.2.2.2.2.2.2.2.2.2.2.2.2.2.2.2.1 x.2.2.2.2.2.2.2.2.2.2.2.2.2.2.2.2.2.2.2.2.2.2.2.1 x.2.2.2.2.2.2.2.2.2.2.2.2.2.2.2.2.2.2.2.2.2.2.2.2.1 x.2.2.2.2.2.2.2.2.2.2.2.2.2.2.2.2.2.2.2.2.2.2.2.2.2.1 x.2.2.2.2.2.2.2.2.2.2.2.2.2.2.2.2.2.2.2.2.2.2.2.2.2.2.1⟩)]) (ann [(7,0),(23,1),(37,2),(53,3)] (Tryz.f59.body.getD .skip) 0).1 [0,1]
noncomputable def y0h:List (FI dat):=[z7f,z41,z42]
theorem y2a:(zdi).Good Tryz.prog dat (tb y0h):=FI.zz2 (hD:=zz0 _) Tryz.func59 Tryz.ntmps59 Tryz.call59 (by kernel_rfl) (Qac (by kernel_rfl)) (by kernel_rfl) (λn=>by kernel_rfl) (λx=>by kernel_rfl) (λ_=>rfl) ⟨λ_=>rfl,λ_=>rfl,λ_=>rfl,λ_=>rfl,trivial⟩
 (λn=>λx=>(zjg.eq_2 _ _ _ _ n).trans (by kernel_rfl))
 (λn=>⟨λx=>(z8v.eq_2 _ _ _ _ _ _ n).trans (by kernel_rfl),
  λx=>(z8c.eq_2 _ _ _ _ _ _ _ _ _ _ n).trans (by kernel_rfl),
  λx=>(z86.eq_2 _ _ _ _ _ _ _ _ _ _ _ _ _ _ _ _ _ _ _ _ _ _ _ _ n).trans (by kernel_rfl),
  λx=>(z8j.eq_2 _ _ _ _ _ _ _ _ _ _ _ _ _ _ _ _ _ _ _ _ _ _ _ _ _ _ _ n).trans (by kernel_rfl),
  trivial⟩)
 (λx=>.inr (by kernel_rfl))
theorem y39:OkL Tryz.prog [zdi]:=zz3 (zz0 _) (bs:=[z7f,z41,z42]) ⟨ztp,zoa,zo4,trivial⟩ y2a
theorem zxx:FOk Tryz.prog zdi:=y39.1
mutual
def zll:Nat->kz3->(List kz4)->(List zz1)->Option (Int×(List kz4)×(List zz1))
 |0,_,_,_=>none
 |n+1,a0,a1,a2=>
  pIf (a0.kind==1)
   (zdk n true a1 a2 a0.re a0.name)
   (zdk n (a0.kind==3) a1 a2 a0.re a0.name)
def zdk:Nat->Bool->(List kz4)->(List zz1)->kz3->(List UInt8)->Option (Int×(List kz4)×(List zz1))
 |0,_,_,_,_,_=>none
 |n+1,a0,a1,a2,a3,a4=>
  pIf a0
   (zdn n a1 a2 a3.re a3.rule_.name)
   (zdn n a1 a2 a3.re a4)
def zdn:Nat->(List kz4)->(List zz1)->kz3->(List UInt8)->Option (Int×(List kz4)×(List zz1))
 |0,_,_,_,_=>none
 |n+1,a0,a1,a2,a3=>
  (zbx n (yz1.mk a0 a1) a3).bind λy0=>
  pIf (a2.kind==5)
   ((z0e n a3 a0).bind λy1=>
   ze0 n y1.1 y1.2.2 a1 a2.re)
   (ze0 n y0 a0 a1 a2.re)
def ze0:Nat->Int->(List kz4)->(List zz1)->kz3->Option (Int×(List kz4)×(List zz1))
 |0,_,_,_,_=>none
 |n+1,a0,a1,a2,a3=>
  pIf (decide (a0<0))
   (zdx n a0 (a3.kind != 1) a1 a2 a3.re)
   (zdx n a0 false a1 a2 a3.re)
def zdx:Nat->Int->Bool->(List kz4)->(List zz1)->kz3->Option (Int×(List kz4)×(List zz1))
 |0,_,_,_,_,_=>none
 |n+1,a0,a1,a2,a3,a4=>
  pIf a1
   (some (6,a2,a3))
   (pIf (a4.kind==1)
     (pIf (decide (a0>=0))
       (some (14,a2,a3))
       ((zir n a4.rule_).bind λy2=>
       (ext a3 [(zz1.mk y2.1 y2.2.1 [])]).bind λx3=>
       (ix x3 (a3.length:Int)).bind λx4=>
       z35 n a2 (x3.set (Int.toNat (a3.length:Int)) (zz1.mk x4.name x4.params y2.2.2))))
     (pIf (a4.kind==2)
       ((z4a n a0 (IntKind.i64.wrap (a0+1)) a3).bind λy5=>
       z35 n a2 y5)
       (pIf (a4.kind==3)
         ((zir n a4.rule_).bind λy6=>
         (ix a3 a0).bind λx7=>
         (ix a3 a0).bind λx8=>
         (ix (a3.set (Int.toNat a0) (zz1.mk y6.1 y6.2.1 [])) a0).bind λx9=>
         z35 n a2 ((a3.set (Int.toNat a0) (zz1.mk y6.1 y6.2.1 [])).set (Int.toNat a0) (zz1.mk x9.name x9.params y6.2.2)))
         (pIf (a4.kind==4)
           ((zbx n (yz1.mk a2 a3) a4.to_).bind λy10=>
           pIf (decide (y10>=0))
            (some (14,a2,a3))
            ((zjg n a4.name a4.to_ a2 a3).bind λy11=>
            z35 n y11.1 y11.2))
           ((zb7 n a4.value.re).bind λy12=>
           (ix a2 a0).bind λx13=>
           z35 n (a2.set (Int.toNat a0) (kz4.mk x13.name y12.re)) a3)))))
def z35:Nat->(List kz4)->(List zz1)->Option (Int×(List kz4)×(List zz1))
 |0,_,_=>none
 |n+1,a0,a1=>
  some (0,a0,a1)
end
def y9o:LSh:=⟨[(4,(.d (.int .i64)))],[(.cells [(.own 1),(.own 2)]),(.acc 83 (.st 3) true),(.deep 34 7)],1,110,[]⟩
noncomputable def zhd:FI dat:=FI.of dat 23 110 1 [(.ptr 0 0),(.d (.st 9))] [(.cells [(.own 1),(.own 2)]),(.acc 83 (.st 3) true),(.deep 34 7)] [(.d (.int .i64))] [(.cells [(.own 1),(.own 2)]),(.acc 83 (.st 3) true),(.deep 34 7)] false y9o (R:=Int×(List kz4)×(List zz1)) (λx=>(x.1,x.2.1,x.2.2.1)) (λr=>(r.1,r.2.1,r.2.2,())) (λn x=>zll n x.1 x.2.1 x.2.2.1)
 (λn=>[(0,⟨⟨[(3,(.ptr 3 0)),(0,(.ptr 0 0)),(5,(.ptr 4 0)),(16,(.d .bool))],[(.cells [(.own 1),(.own 2)]),(.acc 83 (.st 3) true),(.deep 34 7),(.st 9),(.cells [(.d .str)])],1,110,[]⟩,λx=>zdk n x.1 x.2.1 x.2.2.1 x.2.2.2.1 x.2.2.2.2.1⟩),(1,⟨⟨[(3,(.ptr 3 0)),(0,(.ptr 0 0)),(5,(.ptr 4 0))],[(.cells [(.own 1),(.own 2)]),(.acc 83 (.st 3) true),(.deep 34 7),(.st 9),(.cells [(.d .str)])],1,110,[]⟩,λx=>zdn n x.1 x.2.1 x.2.2.1 x.2.2.2.1⟩),(2,⟨⟨[(3,(.ptr 3 0)),(0,(.ptr 0 0)),(6,(.d (.int .i64)))],[(.cells [(.own 1),(.own 2)]),(.acc 83 (.st 3) true),(.deep 34 7),(.st 9)],1,110,[]⟩,λx=>ze0 n x.1 x.2.1 x.2.2.1 x.2.2.2.1⟩),(3,⟨⟨[(3,(.ptr 3 0)),(0,(.ptr 0 0)),(6,(.d (.int .i64))),(40,(.d .bool))],[(.cells [(.own 1),(.own 2)]),(.acc 83 (.st 3) true),(.deep 34 7),(.st 9)],1,110,[]⟩,λx=>zdx n x.1 x.2.1 x.2.2.1 x.2.2.2.1 x.2.2.2.2.1⟩),(4,⟨⟨[],[(.cells [(.own 1),(.own 2)]),(.acc 83 (.st 3) true),(.deep 34 7)],1,110,[]⟩,λx=>z35 n x.1 x.2.1⟩)]) (ann [(7,0),(10,1),(18,2),(21,3),(63,4)] (Tryz.f23.body.getD .skip) 0).1
noncomputable def y8u:List (FI dat):=[yzi,zhm,z18,zdi,za3,z4q]
theorem y8p:(zhd).Good Tryz.prog dat (tb y8u):=FI.zz2 (hD:=zz0 _) Tryz.func23 Tryz.ntmps23 Tryz.call23 (by kernel_rfl) (Qac (by kernel_rfl)) (by kernel_rfl) (λn=>by kernel_rfl) (λx=>by kernel_rfl) (λ_=>rfl) ⟨λ_=>rfl,λ_=>rfl,λ_=>rfl,λ_=>rfl,λ_=>rfl,trivial⟩
 (λn=>λx=>(zll.eq_2 _ _ _ n).trans (by kernel_rfl))
 (λn=>⟨λx=>(zdk.eq_2 _ _ _ _ _ n).trans (by kernel_rfl),
  λx=>(zdn.eq_2 _ _ _ _ n).trans (by kernel_rfl),
  λx=>(ze0.eq_2 _ _ _ _ n).trans (by kernel_rfl),
  λx=>(zdx.eq_2 _ _ _ _ _ n).trans (by kernel_rfl),
  λx=>(z35.eq_2 _ _ n).trans (by kernel_rfl),
  trivial⟩)
 (λx=>.inr (by kernel_rfl))
theorem yao:OkL Tryz.prog [zhd]:=zz3 (zz0 _) (bs:=[yzi,zhm,z18,zdi,za3,z4q]) ⟨zbj,y68,zea,zxx,zsg,zlt,trivial⟩ y8p
theorem y7u:FOk Tryz.prog zhd:=yao.1
mutual
noncomputable def zzq:Nat->yz1->(List kz3)->Option (Int×yz1)
 |0,_,_=>none
 |n+1,a0,a1=>
  (z48 n a0).bind λy0=>
  pIf (y0 != 0)
   (some (y0,(yz1.mk [] [])))
   (pIf (decide ((a1.length:Int)>40))
     (some (4,(yz1.mk [] [])))
     ((zh6 n a0).bind λy1=>
     zb1 n 0 a1 (a1.length:Int) (yz1.mk [] []) y1.1 y1.2))
noncomputable def zb1:Nat->Int->(List kz3)->Int->yz1->(List kz4)->(List zz1)->Option (Int×yz1)
 |0,_,_,_,_,_,_=>none
 |n+1,a0,a1,a2,a3,a4,a5=>
  pIf (decide (a0<a2))
   ((ix a1 a0).bind λx2=>
   (zj0 n x2.re).bind λy3=>
   pIf (!y3)
    (some (8,(yz1.mk [] [])))
    ((zll n x2.re a4 a5).bind λy4=>
    pIf (y4.1 != 0)
     (some (y4.1,(yz1.mk [] [])))
     (zb1 n (IntKind.i64.wrap (a0+1)) a1 a2 a3 y4.2.1 y4.2.2)))
   ((z48 n (yz1.mk a4 a5)).bind λy5=>
   pIf (y5 != 0)
    (some (y5,(yz1.mk [] [])))
    (some (0,(yz1.mk a4 a5))))
end
def y7z:LSh:=⟨[(4,(.ptr 0 0)),(5,(.d (.int .i64)))],[(.st 8)],0,48,[]⟩
noncomputable def z73:FI dat:=FI.of dat 7 48 0 [(.d (.st 8)),(.d (.sl (.st 9)))] [] [(.d (.st 8)),(.d (.int .i64))] [] true y7z (R:=Int×yz1) (λx=>(x.1,x.2.1)) (λr=>(r.2,r.1,())) (λn x=>zzq n x.1 x.2.1)
 (λn=>[(0,⟨⟨[(4,(.ptr 0 0)),(26,(.d (.int .i64))),(7,(.ptr 1 0)),(24,(.d (.sl (.st 9)))),(25,(.d (.int .i64)))],[(.st 8),(.cells [(.own 2),(.own 3)]),(.acc 83 (.st 3) true),(.deep 34 7)],0,48,[]⟩,λx=>zb1 n x.1 x.2.1 x.2.2.1 x.2.2.2.1 x.2.2.2.2.1 x.2.2.2.2.2.1⟩)]) (ann [(26,0)] (Tryz.f7.body.getD .skip) 0).1
noncomputable def y4g:List (FI dat):=[z6f,zhd,z2a,zdb]
theorem y6f:(z73).Good Tryz.prog dat (tb y4g):=FI.zz2 (hD:=zz0 _) Tryz.func7 Tryz.ntmps7 Tryz.call7 (by kernel_rfl) (Qac (by kernel_rfl)) (by kernel_rfl) (λn=>by kernel_rfl) (λx=>by kernel_rfl) (λ_=>rfl) ⟨λ_=>rfl,trivial⟩
 (λn=>λx=>(zzq.eq_2 _ _ n).trans (by kernel_rfl))
 (λn=>⟨λx=>(zb1.eq_2 _ _ _ _ _ _ n).trans (by kernel_rfl),
  trivial⟩)
 (λx=>.inl rfl)
theorem y46:OkL Tryz.prog [z73]:=zz3 (zz0 _) (bs:=[z6f,zhd,z2a,zdb]) ⟨zpc,y7u,zjl,zyi,trivial⟩ y6f
theorem zpf:FOk Tryz.prog z73:=y46.1
def z9u:Nat->Int->Option Bool
 |0,_=>none
 |n+1,a0=>
  pIf (decide (a0<32))
   (some true)
   (some (decide (a0>126)))
def zog:LSh:=⟨[(2,(.d .bool))],[],0,9,[]⟩
noncomputable def z3k:FI dat:=FI.of dat 106 9 0 [(.d (.int .i32))] [] [(.d .bool)] [] true zog (R:=Bool) (λx=>x.1) (λr=>(r,())) (λn x=>z9u n x.1)
 (λn=>[]) (ann [] (Tryz.f106.body.getD .skip) 0).1
noncomputable def zof:List (FI dat):=[]
theorem zoq:(z3k).Good Tryz.prog dat (tb zof):=FI.zz2 (hD:=zz0 _) Tryz.func106 Tryz.ntmps106 Tryz.call106 (by kernel_rfl) (Qac (by kernel_rfl)) (by kernel_rfl) (λn=>by kernel_rfl) (λx=>by kernel_rfl) (λ_=>rfl) trivial
 (λn=>λx=>(z9u.eq_2 _ n).trans (by kernel_rfl))
 (λn=>trivial)
 (λx=>.inl rfl)
theorem zot:OkL Tryz.prog [z3k]:=zz3 (zz0 _) (bs:=[]) trivial zoq
theorem znl:FOk Tryz.prog z3k:=zot.1
mutual
def z9w:Nat->(List UInt8)->Bool->Option Int
 |0,_,_=>none
 |n+1,a0,a1=>
  z2p n a1 a0 0
def z2p:Nat->Bool->(List UInt8)->Nat->Option Int
 |0,_,_,_=>none
 |n+1,a0,a1,a2=>
  pIf (decide (a2<a1.length))
   ((z9u n ((zhr a1 a2).1:Int)).bind λy0=>
   pIf (y0==a0)
    (some (a2:Int))
    (z2p n a0 a1 (a2+(zhr a1 a2).2)))
   (some (-1))
end
def zoj:LSh:=⟨[(6,(.d (.int .i64)))],[],0,21,[]⟩
noncomputable def z3j:FI dat:=FI.of dat 151 21 0 [(.d .str),(.fn 106 [] []),(.d .bool)] [] [(.d (.int .i64))] [] true zoj (R:=Int) (λx=>x.1) (λr=>(r,())) (λn x=>z9w n x.1 x.2.1)
 (λn=>[(0,⟨⟨[(2,(.d .bool)),(1,(.fn 106 [] [])),(10,(.ptr 0 0))],[.siter],0,21,[]⟩,λx=>z2p n x.1 x.2.1 x.2.2.1⟩)]) (ann [(6,0)] (Tryz.f151.body.getD .skip) 0).1
noncomputable def zol:List (FI dat):=[z3k]
theorem zos:(z3j).Good Tryz.prog dat (tb zol):=FI.zz2 (hD:=zz0 _) Tryz.func151 Tryz.ntmps151 Tryz.call151 (by kernel_rfl) (Qac (by kernel_rfl)) (by kernel_rfl) (λn=>by kernel_rfl) (λx=>by kernel_rfl) (λ_=>rfl) ⟨λ_=>rfl,trivial⟩
 (λn=>λx=>(z9w.eq_2 _ _ n).trans (by kernel_rfl))
 (λn=>⟨λx=>(z2p.eq_2 _ _ _ n).trans (by kernel_rfl),
  trivial⟩)
 (λx=>.inl rfl)
theorem zow:OkL Tryz.prog [z3j]:=zz3 (zz0 _) (bs:=[z3k]) ⟨znl,trivial⟩ zos
theorem znk:FOk Tryz.prog z3j:=zow.1
def zac:Nat->(List UInt8)->Option Int
 |0,_=>none
 |n+1,a0=>
  (z9w n a0 true).bind λy0=>
  some y0
def zov:LSh:=⟨[(4,(.d (.int .i64)))],[],0,8,[]⟩
noncomputable def z3l:FI dat:=FI.of dat 107 8 0 [(.d .str),(.fn 106 [] [])] [] [(.d (.int .i64))] [] true zov (R:=Int) (λx=>x.1) (λr=>(r,())) (λn x=>zac n x.1)
 (λn=>[]) (ann [] (Tryz.f107.body.getD .skip) 0).1
noncomputable def zod:List (FI dat):=[z3j]
theorem zo6:(z3l).Good Tryz.prog dat (tb zod):=FI.zz2 (hD:=zz0 _) Tryz.func107 Tryz.ntmps107 Tryz.call107 (by kernel_rfl) (Qac (by kernel_rfl)) (by kernel_rfl) (λn=>by kernel_rfl) (λx=>by kernel_rfl) (λ_=>rfl) trivial
 (λn=>λx=>(zac.eq_2 _ n).trans (by kernel_rfl))
 (λn=>trivial)
 (λx=>.inl rfl)
theorem zo9:OkL Tryz.prog [z3l]:=zz3 (zz0 _) (bs:=[z3j]) ⟨znk,trivial⟩ zo6
theorem zn4:FOk Tryz.prog z3l:=zo9.1
mutual
def zeg:Nat->(List zz4)->Option Int
 |0,_=>none
 |n+1,a0=>
  pIf (decide ((a0.length:Int)>60))
   (some 4)
   (z4e n 0 a0 (a0.length:Int))
def z4e:Nat->Int->(List zz4)->Int->Option Int
 |0,_,_,_=>none
 |n+1,a0,a1,a2=>
  pIf (decide (a0<a2))
   ((ix a1 a0).bind λx0=>
   (za5 n x0.path).bind λy1=>
   pIf (y1==0)
    (z4g n a1 a2 a0 (!(x0.path==[])) x0)
    (z4g n a1 a2 a0 false x0))
   (some 0)
def z4g:Nat->(List zz4)->Int->Int->Bool->zz4->Option Int
 |0,_,_,_,_,_=>none
 |n+1,a0,a1,a2,a3,a4=>
  pIf (a4.kind==1)
   (pIf a3
     (yzg n a0 a1 a2 (a4.name==[]))
     (yzg n a0 a1 a2 false))
   (pIf (a4.kind==2)
     (pIf a3
       ((z1y n a4.name).bind λy2=>
       yzg n a0 a1 a2 y2)
       (yzg n a0 a1 a2 false))
     (pIf (a4.kind==3)
       (pIf a3
         (pIf (decide ((a4.name.length:Int)<=60))
           ((zac n a4.name).bind λy3=>
           yzg n a0 a1 a2 (decide (y3<0)))
           (yzg n a0 a1 a2 false))
         (yzg n a0 a1 a2 false))
       (yzg n a0 a1 a2 false)))
def yzg:Nat->(List zz4)->Int->Int->Bool->Option Int
 |0,_,_,_,_=>none
 |n+1,a0,a1,a2,a3=>
  pIf (!a3)
   (some 8)
   (z4e n (IntKind.i64.wrap (a2+1)) a0 a1)
end
def zrm:LSh:=⟨[(2,(.d (.int .i64)))],[],0,62,[]⟩
noncomputable def z4r:FI dat:=FI.of dat 60 62 0 [(.d (.sl (.st 10)))] [] [(.d (.int .i64))] [] true zrm (R:=Int) (λx=>x.1) (λr=>(r,())) (λn x=>zeg n x.1)
 (λn=>[(0,⟨⟨[(12,(.d (.int .i64))),(10,(.d (.sl (.st 10)))),(11,(.d (.int .i64)))],[],0,62,[]⟩,λx=>z4e n x.1 x.2.1 x.2.2.1⟩),(1,⟨⟨[(10,(.d (.sl (.st 10)))),(11,(.d (.int .i64))),(12,(.d (.int .i64))),(4,(.ptr 0 0)),(5,(.d .bool))],[(.st 10)],0,62,[]⟩,λx=>z4g n x.1 x.2.1 x.2.2.1 x.2.2.2.1 x.2.2.2.2.1⟩),(2,⟨⟨[(10,(.d (.sl (.st 10)))),(11,(.d (.int .i64))),(12,(.d (.int .i64))),(5,(.d .bool))],[],0,62,[]⟩,λx=>yzg n x.1 x.2.1 x.2.2.1 x.2.2.2.1⟩)]) (ann [(14,0),(27,1),(46,2)] (Tryz.f60.body.getD .skip) 0).1
noncomputable def zs4:List (FI dat):=[zkt,z0g,z3l]
theorem zre:(z4r).Good Tryz.prog dat (tb zs4):=FI.zz2 (hD:=zz0 _) Tryz.func60 Tryz.ntmps60 Tryz.call60 (by kernel_rfl) (Qac (by kernel_rfl)) (by kernel_rfl) (λn=>by kernel_rfl) (λx=>by kernel_rfl) (λ_=>rfl) ⟨λ_=>rfl,λ_=>rfl,λ_=>rfl,trivial⟩
 (λn=>λx=>(zeg.eq_2 _ n).trans (by kernel_rfl))
 (λn=>⟨λx=>(z4e.eq_2 _ _ _ n).trans (by kernel_rfl),
  λx=>(z4g.eq_2 _ _ _ _ _ n).trans (by kernel_rfl),
  λx=>(yzg.eq_2 _ _ _ _ n).trans (by kernel_rfl),
  trivial⟩)
 (λx=>.inl rfl)
theorem zsa:OkL Tryz.prog [z4r]:=zz3 (zz0 _) (bs:=[zkt,z0g,z3l]) ⟨zyv,zcy,zn4,trivial⟩ zre
theorem zq3:FOk Tryz.prog z4r:=zsa.1
mutual
def ze2:Nat->(List z3v)->(List zz4)->Option ((List Bool)×Int)
 |0,_,_=>none
 |n+1,a0,a1=>
  (zeg n a1).bind λy0=>
  pIf (y0 != 0)
   (some ([],y0))
   (z4i n 0 a0 a1 (a0.length:Int) [] [])
def z4i:Nat->Int->(List z3v)->(List zz4)->Int->(List (List UInt8))->(List Bool)->Option ((List Bool)×Int)
 |0,_,_,_,_,_,_=>none
 |n+1,a0,a1,a2,a3,a4,a5=>
  pIf (decide (a0<a3))
   ((ix a1 a0).bind λx1=>
   z4i n (IntKind.i64.wrap (a0+1)) a1 a2 a3 (mks (z61 (List.zip a4 a5) x1.path true)) (mvs (z61 (List.zip a4 a5) x1.path true)))
   (z4d n 0 a2 (a2.length:Int) (mks (List.zip a4 a5)) (mvs (List.zip a4 a5)) [])
def z4d:Nat->Int->(List zz4)->Int->(List (List UInt8))->(List Bool)->(List Bool)->Option ((List Bool)×Int)
 |0,_,_,_,_,_,_=>none
 |n+1,a0,a1,a2,a3,a4,a5=>
  pIf (decide (a0<a2))
   ((ix a1 a0).bind λx2=>
   (ext a5 [(Option.getD (z6u (List.zip a3 a4) x2.path) false)]).bind λx3=>
   z4d n (IntKind.i64.wrap (a0+1)) a1 a2 (mks (List.zip a3 a4)) (mvs (List.zip a3 a4)) x3)
   (some (a5,0))
end
def zrh:LSh:=⟨[(4,(.d (.sl .bool))),(5,(.d (.int .i64)))],[],0,44,[]⟩
noncomputable def z4o:FI dat:=FI.of dat 24 44 0 [(.d (.sl (.st 15))),(.d (.sl (.st 10)))] [] [(.d (.sl .bool)),(.d (.int .i64))] [] true zrh (R:=(List Bool)×Int) (λx=>(x.1,x.2.1)) (λr=>(r.1,r.2,())) (λn x=>ze2 n x.1 x.2.1)
 (λn=>[(0,⟨⟨[(21,(.d (.int .i64))),(7,(.map 0)),(19,(.d (.sl (.st 15)))),(1,(.d (.sl (.st 10)))),(20,(.d (.int .i64)))],[(.mp 86 .bool)],0,44,[]⟩,λx=>z4i n x.1 x.2.1 x.2.2.1 x.2.2.2.1 x.2.2.2.2.1 x.2.2.2.2.2.1⟩),(1,⟨⟨[(31,(.d (.int .i64))),(7,(.map 0)),(10,(.own 1)),(29,(.d (.sl (.st 10)))),(30,(.d (.int .i64)))],[(.mp 86 .bool),(.acc 4 .bool true)],0,44,[]⟩,λx=>z4d n x.1 x.2.1 x.2.2.1 x.2.2.2.1 x.2.2.2.2.1 x.2.2.2.2.2.1⟩)]) (ann [(18,0),(37,1)] (Tryz.f24.body.getD .skip) 0).1
noncomputable def zqr:List (FI dat):=[z4r]
theorem zs8:(z4o).Good Tryz.prog dat (tb zqr):=FI.zz2 (hD:=zz0 _) Tryz.func24 Tryz.ntmps24 Tryz.call24 (by kernel_rfl) (Qac (by kernel_rfl)) (by kernel_rfl) (λn=>by kernel_rfl) (λx=>by kernel_rfl) (λ_=>rfl) ⟨λ_=>rfl,λ_=>rfl,trivial⟩
 (λn=>λx=>(ze2.eq_2 _ _ n).trans (by kernel_rfl))
 (λn=>⟨λx=>(z4i.eq_2 _ _ _ _ _ _ n).trans (by kernel_rfl),
  λx=>(z4d.eq_2 _ _ _ _ _ _ n).trans (by kernel_rfl),
  trivial⟩)
 (λx=>.inl rfl)
theorem zrt:OkL Tryz.prog [z4o]:=zz3 (zz0 _) (bs:=[z4r]) ⟨zq3,trivial⟩ zs8
theorem zpk:FOk Tryz.prog z4o:=zrt.1
mutual
def z5x:Nat->(List zz4)->(List UInt8)->(List UInt8)->Option ((List zz4)×Int)
 |0,_,_,_=>none
 |n+1,a0,a1,a2=>
  (ze2 n [] a0).bind λy0=>
  pIf (y0.2 != 0)
   (some ([],y0.2))
   ((z1y n a1).bind λy1=>
   pIf (!y1)
    (z90 n a2 a1 a0 true)
    ((z1y n a2).bind λy2=>
    z90 n a2 a1 a0 (!y2)))
def z90:Nat->(List UInt8)->(List UInt8)->(List zz4)->Bool->Option ((List zz4)×Int)
 |0,_,_,_,_=>none
 |n+1,a0,a1,a2,a3=>
  pIf a3
   (some ([],12))
   (z8g n a0 a1 0 a2 (a2.length:Int) [])
def z8g:Nat->(List UInt8)->(List UInt8)->Int->(List zz4)->Int->(List zz4)->Option ((List zz4)×Int)
 |0,_,_,_,_,_,_=>none
 |n+1,a0,a1,a2,a3,a4,a5=>
  pIf (decide (a2<a4))
   ((ix a3 a2).bind λx3=>
   (zbh n x3.path [47]).bind λy4=>
   z8p n 0 a0 a1 a3 a4 a2 (y4.length:Int) y4 x3 a5)
   (some (a5,0))
def z8p:Nat->Int->(List UInt8)->(List UInt8)->(List zz4)->Int->Int->Int->(List (List UInt8))->zz4->(List zz4)->Option ((List zz4)×Int)
 |0,_,_,_,_,_,_,_,_,_,_=>none
 |n+1,a0,a1,a2,a3,a4,a5,a6,a7,a8,a9=>
  pIf (decide (a0<a6))
   ((ix a7 a0).bind λx5=>
   (z2f n x5 [91]).bind λy6=>
   pIf (y6.1==a2)
    ((ix a7 a0).bind λx7=>
    pIf y6.2.2
     ((ix (a7.set (Int.toNat a0) a1) a0).bind λx8=>
     (cat [91] y6.2.1).bind λx9=>
     (cat x8 x9).bind λx10=>
     (ix (a7.set (Int.toNat a0) a1) a0).bind λx11=>
     z4x n a1 a2 a3 a4 a5 a6 a0 ((a7.set (Int.toNat a0) a1).set (Int.toNat a0) x10) a8 a9)
     (z4x n a1 a2 a3 a4 a5 a6 a0 (a7.set (Int.toNat a0) a1) a8 a9))
    (z4x n a1 a2 a3 a4 a5 a6 a0 a7 a8 a9))
   ((zdt n a7 [47]).bind λy12=>
   pIf (a8.kind==2)
    (z8x n a1 a2 a3 a4 a5 (a8.name==a2) (zz4.mk y12 a8.kind a8.name) a9)
    (z8x n a1 a2 a3 a4 a5 false (zz4.mk y12 a8.kind a8.name) a9))
def z4x:Nat->(List UInt8)->(List UInt8)->(List zz4)->Int->Int->Int->Int->(List (List UInt8))->zz4->(List zz4)->Option ((List zz4)×Int)
 |0,_,_,_,_,_,_,_,_,_,_=>none
 |n+1,a0,a1,a2,a3,a4,a5,a6,a7,a8,a9=>
  z8p n (IntKind.i64.wrap (a6+1)) a0 a1 a2 a3 a4 a5 a7 a8 a9
def z8x:Nat->(List UInt8)->(List UInt8)->(List zz4)->Int->Int->Bool->zz4->(List zz4)->Option ((List zz4)×Int)
 |0,_,_,_,_,_,_,_,_=>none
 |n+1,a0,a1,a2,a3,a4,a5,a6,a7=>
  pIf a5
   (z8z n a0 a1 a2 a3 a4 (zz4.mk a6.path a6.kind a0) a7)
   (z8z n a0 a1 a2 a3 a4 a6 a7)
def z8z:Nat->(List UInt8)->(List UInt8)->(List zz4)->Int->Int->zz4->(List zz4)->Option ((List zz4)×Int)
 |0,_,_,_,_,_,_,_=>none
 |n+1,a0,a1,a2,a3,a4,a5,a6=>
  (ext a6 [a5]).bind λx13=>
  z8g n a0 a1 (IntKind.i64.wrap (a4+1)) a2 a3 x13
end
def y27:LSh:=⟨[(6,(.d (.sl (.st 10)))),(7,(.d (.int .i64)))],[],0,94,[]⟩
noncomputable def z5c:FI dat:=FI.of dat 10 94 0 [(.d (.sl (.st 10))),(.d .str),(.d .str)] [] [(.d (.sl (.st 10))),(.d (.int .i64))] [] true y27 (R:=(List zz4)×Int) (λx=>(x.1,x.2.1)) (λr=>(r.1,r.2,())) (λn x=>z5x n x.1 x.2.1 x.2.2.1)
 (λn=>[(0,⟨⟨[(2,(.d .str)),(1,(.d .str)),(0,(.d (.sl (.st 10)))),(34,(.d .bool))],[],0,94,[]⟩,λx=>z90 n x.1 x.2.1 x.2.2.1 x.2.2.2.1⟩),(1,⟨⟨[(2,(.d .str)),(1,(.d .str)),(37,(.d (.int .i64))),(10,(.own 0)),(35,(.d (.sl (.st 10)))),(36,(.d (.int .i64)))],[(.acc 51 (.st 10) true)],0,94,[]⟩,λx=>z8g n x.1 x.2.1 x.2.2.1 x.2.2.2.1 x.2.2.2.2.1 x.2.2.2.2.2.1⟩),(2,⟨⟨[(46,(.d (.int .i64))),(13,(.own 0)),(2,(.d .str)),(1,(.d .str)),(44,(.own 0)),(35,(.d (.sl (.st 10)))),(36,(.d (.int .i64))),(37,(.d (.int .i64))),(12,(.ptr 1 0)),(10,(.own 2)),(45,(.d (.int .i64)))],[(.acc 9 .str true),(.st 10),(.acc 51 (.st 10) true)],0,94,[]⟩,λx=>z8p n x.1 x.2.1 x.2.2.1 x.2.2.2.1 x.2.2.2.2.1 x.2.2.2.2.2.1 x.2.2.2.2.2.2.1 x.2.2.2.2.2.2.2.1 x.2.2.2.2.2.2.2.2.1 x.2.2.2.2.2.2.2.2.2.1⟩),(3,⟨⟨[(13,(.own 0)),(2,(.d .str)),(1,(.d .str)),(44,(.own 0)),(35,(.d (.sl (.st 10)))),(36,(.d (.int .i64))),(37,(.d (.int .i64))),(12,(.ptr 1 0)),(10,(.own 2)),(45,(.d (.int .i64))),(46,(.d (.int .i64)))],[(.acc 9 .str true),(.st 10),(.acc 51 (.st 10) true)],0,94,[]⟩,λx=>z4x n x.1 x.2.1 x.2.2.1 x.2.2.2.1 x.2.2.2.2.1 x.2.2.2.2.2.1 x.2.2.2.2.2.2.1 x.2.2.2.2.2.2.2.1 x.2.2.2.2.2.2.2.2.1 x.2.2.2.2.2.2.2.2.2.1⟩),(4,⟨⟨[(2,(.d .str)),(1,(.d .str)),(35,(.d (.sl (.st 10)))),(36,(.d (.int .i64))),(37,(.d (.int .i64))),(12,(.ptr 0 0)),(10,(.own 1)),(85,(.d .bool))],[(.st 10),(.acc 51 (.st 10) true)],0,94,[]⟩,λx=>z8x n x.1 x.2.1 x.2.2.1 x.2.2.2.1 x.2.2.2.2.1 x.2.2.2.2.2.1 x.2.2.2.2.2.2.1 x.2.2.2.2.2.2.2.1⟩),(5,⟨⟨[(2,(.d .str)),(1,(.d .str)),(35,(.d (.sl (.st 10)))),(36,(.d (.int .i64))),(37,(.d (.int .i64))),(12,(.ptr 0 0)),(10,(.own 1))],[(.st 10),(.acc 51 (.st 10) true)],0,94,[]⟩,λx=>z8z n x.1 x.2.1 x.2.2.1 x.2.2.2.1 x.2.2.2.2.1 x.2.2.2.2.2.1 x.2.2.2.2.2.2.1⟩)]) (ann [(15,0),(26,1),(43,2),(67,3),(73,4),(76,5)] (Tryz.f10.body.getD .skip) 0).1
noncomputable def y1h:List (FI dat):=[zhq,z4o,z0g,z5b,ziz]
theorem y1l:(z5c).Good Tryz.prog dat (tb y1h):=FI.zz2 (hD:=zz0 _) Tryz.func10 Tryz.ntmps10 Tryz.call10 (by kernel_rfl) (Qac (by kernel_rfl)) (by kernel_rfl) (λn=>by kernel_rfl) (λx=>by kernel_rfl) (λ_=>rfl) ⟨λ_=>rfl,λ_=>rfl,λ_=>rfl,λ_=>rfl,λ_=>rfl,λ_=>rfl,trivial⟩
 (λn=>λx=>(z5x.eq_2 _ _ _ n).trans (by kernel_rfl))
 (λn=>⟨λx=>(z90.eq_2 _ _ _ _ n).trans (by kernel_rfl),
  λx=>(z8g.eq_2 _ _ _ _ _ _ n).trans (by kernel_rfl),
  λx=>(z8p.eq_2 _ _ _ _ _ _ _ _ _ _ n).trans (by kernel_rfl),
  λx=>(z4x.eq_2 _ _ _ _ _ _ _ _ _ _ n).trans (by kernel_rfl),
  λx=>(z8x.eq_2 _ _ _ _ _ _ _ _ n).trans (by kernel_rfl),
  λx=>(z8z.eq_2 _ _ _ _ _ _ _ n).trans (by kernel_rfl),
  trivial⟩)
 (λx=>.inl rfl)
theorem y36:OkL Tryz.prog [z5c]:=zz3 (zz0 _) (bs:=[zhq,z4o,z0g,z5b,ziz]) ⟨zts,zpk,zcy,zj3,zvh,trivial⟩ y1l
theorem zmf:FOk Tryz.prog z5c:=y36.1
noncomputable def zin:Nat->yz1->yz1->Option Int
 |0,_,_=>none
 |n+1,a0,a1=>
  (z48 n a0).bind λy0=>
  pIf (y0 != 0)
   (some y0)
   ((z48 n a1).bind λy1=>
   some y1)
def y8a:LSh:=⟨[(4,(.d (.int .i64)))],[],0,13,[]⟩
noncomputable def z9o:FI dat:=FI.of dat 42 13 0 [(.d (.st 8)),(.d (.st 8))] [] [(.d (.int .i64))] [] true y8a (R:=Int) (λx=>x.1) (λr=>(r,())) (λn x=>zin n x.1 x.2.1)
 (λn=>[]) (ann [] (Tryz.f42.body.getD .skip) 0).1
noncomputable def y8r:List (FI dat):=[z2a]
theorem yaa:(z9o).Good Tryz.prog dat (tb y8r):=FI.zz2 (hD:=zz0 _) Tryz.func42 Tryz.ntmps42 Tryz.call42 (by kernel_rfl) (Qac (by kernel_rfl)) (by kernel_rfl) (λn=>by kernel_rfl) (λx=>by kernel_rfl) (λ_=>rfl) trivial
 (λn=>λx=>(zin.eq_2 _ _ n).trans (by kernel_rfl))
 (λn=>trivial)
 (λx=>.inl rfl)
theorem yar:OkL Tryz.prog [z9o]:=zz3 (zz0 _) (bs:=[z2a]) ⟨zjl,trivial⟩ yaa
theorem zqo:FOk Tryz.prog z9o:=yar.1
mutual
def zdv:Nat->yz1->Option ((List (List UInt8))×(List kz0))
 |0,_=>none
 |n+1,a0=>
  z71 n 0 a0.attrs (a0.attrs.length:Int) [] []
def z71:Nat->Int->(List kz4)->Int->(List (List UInt8))->(List kz0)->Option ((List (List UInt8))×(List kz0))
 |0,_,_,_,_,_=>none
 |n+1,a0,a1,a2,a3,a4=>
  pIf (decide (a0<a2))
   ((ix a1 a0).bind λx0=>
   z71 n (IntKind.i64.wrap (a0+1)) a1 a2 (mks (z61 (List.zip a3 a4) x0.name x0.value.re)) (mvs (z61 (List.zip a3 a4) x0.name x0.value.re)))
   (some ((mks (List.zip a3 a4)),(mvs (List.zip a3 a4))))
end
def zxi:LSh:=⟨[(2,(.map 0))],[(.mp 152 (.st 2))],0,21,[]⟩
noncomputable def zah:FI dat:=FI.of dat 87 21 0 [(.d (.st 8))] [] [(.map 0)] [(.mp 152 (.st 2))] false zxi (R:=(List (List UInt8))×(List kz0)) (λx=>(x.1,x.2.1)) (λr=>(r.1,r.2,())) (λn x=>zdv n x.1)
 (λn=>[(0,⟨⟨[(10,(.d (.int .i64))),(3,(.map 0)),(8,(.d (.sl (.st 3)))),(9,(.d (.int .i64)))],[(.mp 152 (.st 2))],0,21,[]⟩,λx=>z71 n x.1 x.2.1 x.2.2.1 x.2.2.2.1 x.2.2.2.2.1⟩)]) (ann [(8,0)] (Tryz.f87.body.getD .skip) 0).1
noncomputable def zyg:List (FI dat):=[]
theorem zyb:(zah).Good Tryz.prog dat (tb zyg):=FI.zz2 (hD:=zz0 _) Tryz.func87 Tryz.ntmps87 Tryz.call87 (by kernel_rfl) (Qac (by kernel_rfl)) (by kernel_rfl) (λn=>by kernel_rfl) (λx=>by kernel_rfl) (λ_=>rfl) ⟨λ_=>rfl,trivial⟩
 (λn=>λx=>(zdv.eq_2 _ n).trans (by kernel_rfl))
 (λn=>⟨λx=>(z71.eq_2 _ _ _ _ _ n).trans (by kernel_rfl),
  trivial⟩)
 (λx=>.inr (by kernel_rfl))
theorem zw8:OkL Tryz.prog [zah]:=zz3 (zz0 _) (bs:=[]) trivial zyb
theorem zvd:FOk Tryz.prog zah:=zw8.1
mutual
def z0w:Nat->(List (List kz4))->Option (Res ((List UInt8)×Unit) (List kz4))
 |0,_=>none
 |n+1,a0=>
  zzr n 0 0 a0 a0 (a0.length:Int)
def zzr:Nat->Int->Int->(List (List kz4))->(List (List kz4))->Int->Option (Res ((List UInt8)×Unit) (List kz4))
 |0,_,_,_,_,_=>none
 |n+1,a0,a1,a2,a3,a4=>
  pIf (decide (a0<a4))
   ((ix a2 a0).bind λx0=>
   pIf (decide ((IntKind.i64.wrap (a1+(x0.length:Int)))<0))
    (some (Res.pan ([108,101,110,32,111,117,116,32,111,102,32,114,97,110,103,101],())))
    (z0d n (IntKind.i64.wrap (a1+(x0.length:Int))) a2 a3 a4 a0))
   ((z55 n [] a1).bind λy1=>
   yzq n 0 a3 (a3.length:Int) y1)
def z0d:Nat->Int->(List (List kz4))->(List (List kz4))->Int->Int->Option (Res ((List UInt8)×Unit) (List kz4))
 |0,_,_,_,_,_=>none
 |n+1,a0,a1,a2,a3,a4=>
  zzr n (IntKind.i64.wrap (a4+1)) a0 a1 a2 a3
def yzq:Nat->Int->(List (List kz4))->Int->(List kz4)->Option (Res ((List UInt8)×Unit) (List kz4))
 |0,_,_,_,_=>none
 |n+1,a0,a1,a2,a3=>
  pIf (decide (a0<a2))
   ((ix a1 a0).bind λx2=>
   (ext a3 x2).bind λx3=>
   yzq n (IntKind.i64.wrap (a0+1)) a1 a2 x3)
   (some (Res.ok a3))
end
def zex:LSh:=⟨[(2,(.d (.sl (.st 3))))],[],0,36,[]⟩
noncomputable def kzn:FI dat:=FI.ofP dat 88 36 0 [(.d (.sl (.sl (.st 3))))] [] [(.d (.sl (.st 3)))] [] (.iface 9 (.d .str)) [] [] zex (R:=List kz4) (λx=>x.1) (λr=>(r,())) (λn x=>z0w n x.1)
 (λn=>[(0,⟨⟨[(11,(.d (.int .i64))),(3,(.d (.int .i64))),(9,(.d (.sl (.sl (.st 3))))),(0,(.d (.sl (.sl (.st 3))))),(10,(.d (.int .i64)))],[],0,36,[]⟩,λx=>zzr n x.1 x.2.1 x.2.2.1 x.2.2.2.1 x.2.2.2.2.1⟩),(1,⟨⟨[(3,(.d (.int .i64))),(9,(.d (.sl (.sl (.st 3))))),(0,(.d (.sl (.sl (.st 3))))),(10,(.d (.int .i64))),(11,(.d (.int .i64)))],[],0,36,[]⟩,λx=>z0d n x.1 x.2.1 x.2.2.1 x.2.2.2.1 x.2.2.2.2.1⟩),(2,⟨⟨[(27,(.d (.int .i64))),(6,(.own 0)),(25,(.d (.sl (.sl (.st 3))))),(26,(.d (.int .i64)))],[(.acc 83 (.st 3) true)],0,36,[]⟩,λx=>yzq n x.1 x.2.1 x.2.2.1 x.2.2.2.1⟩)]) (ann [(8,0),(26,1),(33,2)] (Tryz.f88.body.getD .skip) 0).1
noncomputable def zep:List (FI dat):=[z1m]
theorem zez:(kzn).Good Tryz.prog dat (tb zep):=FI.zhj (hD:=zz0 _) Tryz.func88 Tryz.ntmps88 Tryz.call88 (by kernel_rfl) (Qac (by kernel_rfl)) (by kernel_rfl) (λn=>by kernel_rfl) trivial (λx=>by kernel_rfl) (λ_=>rfl) ⟨λ_=>rfl,λ_=>rfl,λ_=>rfl,trivial⟩
 (λn=>λx=>(z0w.eq_2 _ n).trans (by kernel_rfl))
 (λn=>⟨λx=>(zzr.eq_2 _ _ _ _ _ n).trans (by kernel_rfl),
  λx=>(z0d.eq_2 _ _ _ _ _ n).trans (by kernel_rfl),
  λx=>(yzq.eq_2 _ _ _ _ n).trans (by kernel_rfl),
  trivial⟩)
 (λx=>by kernel_rfl)
theorem zeu:OkL Tryz.prog [kzn]:=zz3 (zz0 _) (bs:=[z1m]) ⟨zfs,trivial⟩ zez
theorem zed:FOk Tryz.prog kzn:=zeu.1
def zja:Nat->(List UInt8)->(List (List UInt8))->(List Bool)->Option (Bool×(List (List UInt8))×(List Bool))
 |0,_,_,_=>none
 |n+1,a0,a1,a2=>
  some ((Option.getD (z6u (List.zip a1 a2) a0) false),(mks (List.zip a1 a2)),(mvs (List.zip a1 a2)))
def y2j:LSh:=⟨[(3,(.d .bool))],[(.cells [(.map 1)]),(.mp 86 .bool)],2,7,[]⟩
noncomputable def zdj:FI dat:=FI.of dat 134 7 2 [(.d .str),(.ptr 0 0)] [(.cells [(.map 1)]),(.mp 86 .bool)] [(.d .bool)] [(.cells [(.map 1)]),(.mp 86 .bool)] false y2j (R:=Bool×(List (List UInt8))×(List Bool)) (λx=>(x.1,x.2.1,x.2.2.1)) (λr=>(r.1,r.2.1,r.2.2,())) (λn x=>zja n x.1 x.2.1 x.2.2.1)
 (λn=>[]) (ann [] (Tryz.f134.body.getD .skip) 0).1
noncomputable def y32:List (FI dat):=[]
theorem y0w:(zdj).Good Tryz.prog dat (tb y32):=FI.zz2 (hD:=zz0 _) Tryz.func134 Tryz.ntmps134 Tryz.call134 (by kernel_rfl) (Qac (by kernel_rfl)) (by kernel_rfl) (λn=>by kernel_rfl) (λx=>by kernel_rfl) (λ_=>rfl) trivial
 (λn=>λx=>(zja.eq_2 _ _ _ n).trans (by kernel_rfl))
 (λn=>trivial)
 (λx=>.inr (by kernel_rfl))
theorem y1y:OkL Tryz.prog [zdj]:=zz3 (zz0 _) (bs:=[]) trivial y0w
theorem zwh:FOk Tryz.prog zdj:=y1y.1
mutual
def z0p:Nat->(List (List UInt8))->(List (List UInt8))->(List Bool)->Option (Int×(List (List UInt8))×(List Bool))
 |0,_,_,_=>none
 |n+1,a0,a1,a2=>
  yzo n 0 a0 (a0.length:Int) (mks (List.zip a1 a2)) (mvs (List.zip a1 a2))
def yzo:Nat->Int->(List (List UInt8))->Int->(List (List UInt8))->(List Bool)->Option (Int×(List (List UInt8))×(List Bool))
 |0,_,_,_,_,_=>none
 |n+1,a0,a1,a2,a3,a4=>
  pIf (decide (a0<a2))
   ((ix a1 a0).bind λx0=>
   (zja n x0 (mks (List.zip a3 a4)) (mvs (List.zip a3 a4))).bind λy1=>
   pIf y1.1
    (some (a0,(mks (List.zip y1.2.1 y1.2.2)),(mvs (List.zip y1.2.1 y1.2.2))))
    (yzo n (IntKind.i64.wrap (a0+1)) a1 a2 (mks (List.zip y1.2.1 y1.2.2)) (mvs (List.zip y1.2.1 y1.2.2))))
   (some ((-1),(mks (List.zip a3 a4)),(mvs (List.zip a3 a4))))
end
def zcu:LSh:=⟨[(4,(.d (.int .i64)))],[(.cells [(.map 1)]),(.mp 86 .bool)],2,19,[]⟩
noncomputable def yzj:FI dat:=FI.of dat 95 19 2 [(.d (.sl .str)),(.fn 134 [] [(.ptr 0 0)])] [(.cells [(.map 1)]),(.mp 86 .bool)] [(.d (.int .i64))] [(.cells [(.map 1)]),(.mp 86 .bool)] false zcu (R:=Int×(List (List UInt8))×(List Bool)) (λx=>(x.1,x.2.1,x.2.2.1)) (λr=>(r.1,r.2.1,r.2.2,())) (λn x=>z0p n x.1 x.2.1 x.2.2.1)
 (λn=>[(0,⟨⟨[(8,(.d (.int .i64))),(0,(.d (.sl .str))),(1,(.fn 134 [] [(.ptr 0 0)])),(7,(.d (.int .i64)))],[(.cells [(.map 1)]),(.mp 86 .bool)],2,19,[]⟩,λx=>yzo n x.1 x.2.1 x.2.2.1 x.2.2.2.1 x.2.2.2.2.1⟩)]) (ann [(6,0)] (Tryz.f95.body.getD .skip) 0).1
noncomputable def zdh:List (FI dat):=[zdj]
theorem zcr:(yzj).Good Tryz.prog dat (tb zdh):=FI.zz2 (hD:=zz0 _) Tryz.func95 Tryz.ntmps95 Tryz.call95 (by kernel_rfl) (Qac (by kernel_rfl)) (by kernel_rfl) (λn=>by kernel_rfl) (λx=>by kernel_rfl) (λ_=>rfl) ⟨λ_=>rfl,trivial⟩
 (λn=>λx=>(z0p.eq_2 _ _ _ n).trans (by kernel_rfl))
 (λn=>⟨λx=>(yzo.eq_2 _ _ _ _ _ n).trans (by kernel_rfl),
  trivial⟩)
 (λx=>.inr (by kernel_rfl))
theorem zd7:OkL Tryz.prog [yzj]:=zz3 (zz0 _) (bs:=[zdj]) ⟨zwh,trivial⟩ zcr
theorem zc9:FOk Tryz.prog yzj:=zd7.1
def z03:Nat->(List (List UInt8))->(List (List UInt8))->(List Bool)->Option (Bool×(List (List UInt8))×(List Bool))
 |0,_,_,_=>none
 |n+1,a0,a1,a2=>
  (z0p n a0 (mks (List.zip a1 a2)) (mvs (List.zip a1 a2))).bind λy0=>
  some ((decide (y0.1>=0)),(mks (List.zip y0.2.1 y0.2.2)),(mvs (List.zip y0.2.1 y0.2.2)))
def zae:LSh:=⟨[(4,(.d .bool))],[(.cells [(.map 1)]),(.mp 86 .bool)],2,9,[]⟩
noncomputable def kzd:FI dat:=FI.of dat 47 9 2 [(.d (.sl .str)),(.fn 134 [] [(.ptr 0 0)])] [(.cells [(.map 1)]),(.mp 86 .bool)] [(.d .bool)] [(.cells [(.map 1)]),(.mp 86 .bool)] false zae (R:=Bool×(List (List UInt8))×(List Bool)) (λx=>(x.1,x.2.1,x.2.2.1)) (λr=>(r.1,r.2.1,r.2.2,())) (λn x=>z03 n x.1 x.2.1 x.2.2.1)
 (λn=>[]) (ann [] (Tryz.f47.body.getD .skip) 0).1
noncomputable def zaj:List (FI dat):=[yzj]
theorem z9l:(kzd).Good Tryz.prog dat (tb zaj):=FI.zz2 (hD:=zz0 _) Tryz.func47 Tryz.ntmps47 Tryz.call47 (by kernel_rfl) (Qac (by kernel_rfl)) (by kernel_rfl) (λn=>by kernel_rfl) (λx=>by kernel_rfl) (λ_=>rfl) trivial
 (λn=>λx=>(z03.eq_2 _ _ _ n).trans (by kernel_rfl))
 (λn=>trivial)
 (λx=>.inr (by kernel_rfl))
theorem zal:OkL Tryz.prog [kzd]:=zz3 (zz0 _) (bs:=[yzj]) ⟨zc9,trivial⟩ z9l
theorem z9j:FOk Tryz.prog kzd:=zal.1
def zft:Nat->kz0->(List (List UInt8))->(List Bool)->Option (Bool×(List (List UInt8))×(List Bool))
 |0,_,_,_=>none
 |n+1,a0,a1,a2=>
  (zgv n a0.re).bind λy0=>
  (z03 n y0.1 (mks (List.zip a1 a2)) (mvs (List.zip a1 a2))).bind λy1=>
  some (y1.1,(mks (List.zip y1.2.1 y1.2.2)),(mvs (List.zip y1.2.1 y1.2.2)))
def y98:LSh:=⟨[(4,(.d .bool))],[(.mp 86 .bool)],1,15,[]⟩
noncomputable def z57:FI dat:=FI.of dat 89 15 1 [(.d (.st 2)),(.map 0)] [(.mp 86 .bool)] [(.d .bool)] [(.mp 86 .bool)] false y98 (R:=Bool×(List (List UInt8))×(List Bool)) (λx=>(x.1,x.2.1,x.2.2.1)) (λr=>(r.1,r.2.1,r.2.2,())) (λn x=>zft n x.1 x.2.1 x.2.2.1)
 (λn=>[]) (ann [] (Tryz.f89.body.getD .skip) 0).1
noncomputable def ya7:List (FI dat):=[kzd,z6i]
theorem yal:(z57).Good Tryz.prog dat (tb ya7):=FI.zz2 (hD:=zz0 _) Tryz.func89 Tryz.ntmps89 Tryz.call89 (by kernel_rfl) (Qac (by kernel_rfl)) (by kernel_rfl) (λn=>by kernel_rfl) (λx=>by kernel_rfl) (λ_=>rfl) trivial
 (λn=>λx=>(zft.eq_2 _ _ _ n).trans (by kernel_rfl))
 (λn=>trivial)
 (λx=>.inr (by kernel_rfl))
theorem yaf:OkL Tryz.prog [z57]:=zz3 (zz0 _) (bs:=[kzd,z6i]) ⟨z9j,zp8,trivial⟩ yal
theorem zls:FOk Tryz.prog z57:=yaf.1
mutual
def zkx:Nat->yz1->yz1->Option (Res ((List UInt8)×Unit) ((List (List UInt8))×(List Bool)))
 |0,_,_=>none
 |n+1,a0,a1=>
  (zdv n a0).bind λy0=>
  (zdv n a1).bind λy1=>
  zas n [] [] (mks (List.zip y1.1 y1.2)) (mvs (List.zip y1.1 y1.2)) (mks (List.zip y0.1 y0.2)) (mvs (List.zip y0.1 y0.2)) a1 a0
def zas:Nat->(List (List UInt8))->(List Bool)->(List (List UInt8))->(List kz0)->(List (List UInt8))->(List kz0)->yz1->yz1->Option (Res ((List UInt8)×Unit) ((List (List UInt8))×(List Bool)))
 |0,_,_,_,_,_,_,_,_=>none
 |n+1,a0,a1,a2,a3,a4,a5,a6,a7=>
  (z0w n [a7.attrs,a6.attrs]).bind λy2=>
  y03 y2 (λr3=>
   zaw n 0 r3 ((List.zip a0 a1).length:Int) (r3.length:Int) (mks (List.zip a0 a1)) (mvs (List.zip a0 a1)) (mks (List.zip a2 a3)) (mvs (List.zip a2 a3)) (mks (List.zip a4 a5)) (mvs (List.zip a4 a5)) a6 a7)
   (λe4=>
   some (Res.pan (e4.1,())))
def zaw:Nat->Int->(List kz4)->Int->Int->(List (List UInt8))->(List Bool)->(List (List UInt8))->(List kz0)->(List (List UInt8))->(List kz0)->yz1->yz1->Option (Res ((List UInt8)×Unit) ((List (List UInt8))×(List Bool)))
 |0,_,_,_,_,_,_,_,_,_,_,_,_=>none
 |n+1,a0,a1,a2,a3,a4,a5,a6,a7,a8,a9,a10,a11=>
  pIf (decide (a0<a3))
   ((ix a1 a0).bind λx5=>
   pIf (!(Option.isSome (z6u (List.zip a8 a9) x5.name)))
    (z3w n a1 a2 a3 a0 true (mks (List.zip a4 a5)) (mvs (List.zip a4 a5)) (mks (List.zip a6 a7)) (mvs (List.zip a6 a7)) (mks (List.zip a8 a9)) (mvs (List.zip a8 a9)) a10 a11 x5.re)
    (pIf (!(Option.isSome (z6u (List.zip a6 a7) x5.name)))
      (z3w n a1 a2 a3 a0 true (mks (List.zip a4 a5)) (mvs (List.zip a4 a5)) (mks (List.zip a6 a7)) (mvs (List.zip a6 a7)) (mks (List.zip a8 a9)) (mvs (List.zip a8 a9)) a10 a11 x5.re)
      ((z6l n (Option.getD (z6u (List.zip a8 a9) x5.name) (kz0.mk 0 (yz0.mk 0 (yz2.mk 0 0) false [] []) [] [])).re (Option.getD (z6u (List.zip a6 a7) x5.name) (kz0.mk 0 (yz0.mk 0 (yz2.mk 0 0) false [] []) [] [])).re).bind λy6=>
      pIf (!y6)
       (z3w n a1 a2 a3 a0 true (mks (List.zip a4 a5)) (mvs (List.zip a4 a5)) (mks (List.zip a6 a7)) (mvs (List.zip a6 a7)) (mks (List.zip a8 a9)) (mvs (List.zip a8 a9)) a10 a11 x5.re)
       ((zft n x5.value.re (mks (List.zip a4 a5)) (mvs (List.zip a4 a5))).bind λy7=>
       z3w n a1 a2 a3 a0 y7.1 (mks (List.zip y7.2.1 y7.2.2)) (mvs (List.zip y7.2.1 y7.2.2)) (mks (List.zip a6 a7)) (mvs (List.zip a6 a7)) (mks (List.zip a8 a9)) (mvs (List.zip a8 a9)) a10 a11 x5.re))))
   (pIf (((List.zip a4 a5).length:Int)==a2)
     (some (Res.ok ((mks (List.zip a4 a5)),(mvs (List.zip a4 a5)))))
     (zas n (mks (List.zip a4 a5)) (mvs (List.zip a4 a5)) (mks (List.zip a6 a7)) (mvs (List.zip a6 a7)) (mks (List.zip a8 a9)) (mvs (List.zip a8 a9)) a10 a11))
def z3w:Nat->(List kz4)->Int->Int->Int->Bool->(List (List UInt8))->(List Bool)->(List (List UInt8))->(List kz0)->(List (List UInt8))->(List kz0)->yz1->yz1->kz4->Option (Res ((List UInt8)×Unit) ((List (List UInt8))×(List Bool)))
 |0,_,_,_,_,_,_,_,_,_,_,_,_,_,_=>none
 |n+1,a0,a1,a2,a3,a4,a5,a6,a7,a8,a9,a10,a11,a12,a13=>
  pIf a4
   (zan n a0 a1 a2 a3 (mks (z61 (List.zip a5 a6) a13.name true)) (mvs (z61 (List.zip a5 a6) a13.name true)) (mks (List.zip a7 a8)) (mvs (List.zip a7 a8)) (mks (List.zip a9 a10)) (mvs (List.zip a9 a10)) a11 a12)
   (zan n a0 a1 a2 a3 (mks (List.zip a5 a6)) (mvs (List.zip a5 a6)) (mks (List.zip a7 a8)) (mvs (List.zip a7 a8)) (mks (List.zip a9 a10)) (mvs (List.zip a9 a10)) a11 a12)
def zan:Nat->(List kz4)->Int->Int->Int->(List (List UInt8))->(List Bool)->(List (List UInt8))->(List kz0)->(List (List UInt8))->(List kz0)->yz1->yz1->Option (Res ((List UInt8)×Unit) ((List (List UInt8))×(List Bool)))
 |0,_,_,_,_,_,_,_,_,_,_,_,_=>none
 |n+1,a0,a1,a2,a3,a4,a5,a6,a7,a8,a9,a10,a11=>
  zaw n (IntKind.i64.wrap (a3+1)) a0 a1 a2 (mks (List.zip a4 a5)) (mvs (List.zip a4 a5)) (mks (List.zip a6 a7)) (mvs (List.zip a6 a7)) (mks (List.zip a8 a9)) (mvs (List.zip a8 a9)) a10 a11
end
def y6x:LSh:=⟨[(4,(.map 0))],[(.mp 86 .bool)],0,77,[]⟩
noncomputable def zfa:FI dat:=FI.ofP dat 44 77 0 [(.d (.st 8)),(.d (.st 8))] [] [(.map 0)] [(.mp 86 .bool)] (.iface 9 (.d .str)) [] [] y6x (R:=(List (List UInt8))×(List Bool)) (λx=>(x.1,x.2.1)) (λr=>(r.1,r.2,())) (λn x=>zkx n x.1 x.2.1)
 (λn=>[(0,⟨⟨[(5,(.map 0)),(8,(.map 1)),(7,(.map 2)),(3,(.ptr 3 0)),(2,(.ptr 4 0))],[(.mp 86 .bool),(.mp 152 (.st 2)),(.mp 152 (.st 2)),(.st 8),(.st 8)],0,77,[]⟩,λx=>zas n x.1 x.2.1 x.2.2.1 x.2.2.2.1 x.2.2.2.2.1 x.2.2.2.2.2.1 x.2.2.2.2.2.2.1 x.2.2.2.2.2.2.2.1⟩),(1,⟨⟨[(32,(.d (.int .i64))),(5,(.map 0)),(8,(.map 1)),(7,(.map 2)),(30,(.d (.sl (.st 3)))),(3,(.ptr 3 0)),(2,(.ptr 4 0)),(9,(.d (.int .i64))),(31,(.d (.int .i64)))],[(.mp 86 .bool),(.mp 152 (.st 2)),(.mp 152 (.st 2)),(.st 8),(.st 8)],0,77,[]⟩,λx=>zaw n x.1 x.2.1 x.2.2.1 x.2.2.2.1 x.2.2.2.2.1 x.2.2.2.2.2.1 x.2.2.2.2.2.2.1 x.2.2.2.2.2.2.2.1 x.2.2.2.2.2.2.2.2.1 x.2.2.2.2.2.2.2.2.2.1 x.2.2.2.2.2.2.2.2.2.2.1 x.2.2.2.2.2.2.2.2.2.2.2.1⟩),(2,⟨⟨[(5,(.map 0)),(8,(.map 1)),(7,(.map 2)),(30,(.d (.sl (.st 3)))),(3,(.ptr 3 0)),(2,(.ptr 4 0)),(9,(.d (.int .i64))),(31,(.d (.int .i64))),(32,(.d (.int .i64))),(11,(.ptr 5 0)),(67,(.d .bool))],[(.mp 86 .bool),(.mp 152 (.st 2)),(.mp 152 (.st 2)),(.st 8),(.st 8),(.st 3)],0,77,[]⟩,λx=>z3w n x.1 x.2.1 x.2.2.1 x.2.2.2.1 x.2.2.2.2.1 x.2.2.2.2.2.1 x.2.2.2.2.2.2.1 x.2.2.2.2.2.2.2.1 x.2.2.2.2.2.2.2.2.1 x.2.2.2.2.2.2.2.2.2.1 x.2.2.2.2.2.2.2.2.2.2.1 x.2.2.2.2.2.2.2.2.2.2.2.1 x.2.2.2.2.2.2.2.2.2.2.2.2.1 x.2.2.2.2.2.2.2.2.2.2.2.2.2.1⟩),(3,⟨⟨[(5,(.map 0)),(8,(.map 1)),(7,(.map 2)),(30,(.d (.sl (.st 3)))),(3,(.ptr 3 0)),(2,(.ptr 4 0)),(9,(.d (.int .i64))),(31,(.d (.int .i64))),(32,(.d (.int .i64)))],[(.mp 86 .bool),(.mp 152 (.st 2)),(.mp 152 (.st 2)),(.st 8),(.st 8)],0,77,[]⟩,λx=>zan n x.1 x.2.1 x.2.2.1 x.2.2.2.1 x.2.2.2.2.1 x.2.2.2.2.2.1 x.2.2.2.2.2.2.1 x.2.2.2.2.2.2.2.1 x.2.2.2.2.2.2.2.2.1 x.2.2.2.2.2.2.2.2.2.1 x.2.2.2.2.2.2.2.2.2.2.1 x.2.2.2.2.2.2.2.2.2.2.2.1⟩)]) (ann [(9,0),(17,1),(34,2),(37,3)] (Tryz.f44.body.getD .skip) 0).1
noncomputable def y7h:List (FI dat):=[zah,kzn,z57,z1l]
theorem y5g:(zfa).Good Tryz.prog dat (tb y7h):=FI.zhj (hD:=zz0 _) Tryz.func44 Tryz.ntmps44 Tryz.call44 (by kernel_rfl) (Qac (by kernel_rfl)) (by kernel_rfl) (λn=>by kernel_rfl) trivial (λx=>by kernel_rfl) (λ_=>rfl) ⟨λ_=>rfl,λ_=>rfl,λ_=>rfl,λ_=>rfl,trivial⟩
 (λn=>λx=>(zkx.eq_2 _ _ n).trans (by kernel_rfl))
 (λn=>⟨λx=>(zas.eq_2 _ _ _ _ _ _ _ _ n).trans (by kernel_rfl),
  λx=>(zaw.eq_2 _ _ _ _ _ _ _ _ _ _ _ _ n).trans (by kernel_rfl),
  λx=>(z3w.eq_2 _ _ _ _ _ _ _ _ _ _ _ _ _ _ n).trans (by kernel_rfl),
  λx=>(zan.eq_2 _ _ _ _ _ _ _ _ _ _ _ _ n).trans (by kernel_rfl),
  trivial⟩)
 (λx=>by kernel_rfl)
theorem y6w:OkL Tryz.prog [zfa]:=zz3 (zz0 _) (bs:=[zah,kzn,z57,z1l]) ⟨zvd,zed,zls,zis,trivial⟩ y5g
theorem y0t:FOk Tryz.prog zfa:=y6w.1
mutual
def z0v:Nat->(List (List zz1))->Option (Res ((List UInt8)×Unit) (List zz1))
 |0,_=>none
 |n+1,a0=>
  kzr n 0 0 a0 a0 (a0.length:Int)
def kzr:Nat->Int->Int->(List (List zz1))->(List (List zz1))->Int->Option (Res ((List UInt8)×Unit) (List zz1))
 |0,_,_,_,_,_=>none
 |n+1,a0,a1,a2,a3,a4=>
  pIf (decide (a0<a4))
   ((ix a2 a0).bind λx0=>
   pIf (decide ((IntKind.i64.wrap (a1+(x0.length:Int)))<0))
    (some (Res.pan ([108,101,110,32,111,117,116,32,111,102,32,114,97,110,103,101],())))
    (z0i n (IntKind.i64.wrap (a1+(x0.length:Int))) a2 a3 a4 a0))
   ((z4s n [] a1).bind λy1=>
   yzr n 0 a3 (a3.length:Int) y1)
def z0i:Nat->Int->(List (List zz1))->(List (List zz1))->Int->Int->Option (Res ((List UInt8)×Unit) (List zz1))
 |0,_,_,_,_,_=>none
 |n+1,a0,a1,a2,a3,a4=>
  kzr n (IntKind.i64.wrap (a4+1)) a0 a1 a2 a3
def yzr:Nat->Int->(List (List zz1))->Int->(List zz1)->Option (Res ((List UInt8)×Unit) (List zz1))
 |0,_,_,_,_=>none
 |n+1,a0,a1,a2,a3=>
  pIf (decide (a0<a2))
   ((ix a1 a0).bind λx2=>
   (ext a3 x2).bind λx3=>
   yzr n (IntKind.i64.wrap (a0+1)) a1 a2 x3)
   (some (Res.ok a3))
end
def zeq:LSh:=⟨[(2,(.d (.sl (.st 7))))],[],0,36,[]⟩
noncomputable def yzn:FI dat:=FI.ofP dat 90 36 0 [(.d (.sl (.sl (.st 7))))] [] [(.d (.sl (.st 7)))] [] (.iface 9 (.d .str)) [] [] zeq (R:=List zz1) (λx=>x.1) (λr=>(r,())) (λn x=>z0v n x.1)
 (λn=>[(0,⟨⟨[(11,(.d (.int .i64))),(3,(.d (.int .i64))),(9,(.d (.sl (.sl (.st 7))))),(0,(.d (.sl (.sl (.st 7))))),(10,(.d (.int .i64)))],[],0,36,[]⟩,λx=>kzr n x.1 x.2.1 x.2.2.1 x.2.2.2.1 x.2.2.2.2.1⟩),(1,⟨⟨[(3,(.d (.int .i64))),(9,(.d (.sl (.sl (.st 7))))),(0,(.d (.sl (.sl (.st 7))))),(10,(.d (.int .i64))),(11,(.d (.int .i64)))],[],0,36,[]⟩,λx=>z0i n x.1 x.2.1 x.2.2.1 x.2.2.2.1 x.2.2.2.2.1⟩),(2,⟨⟨[(27,(.d (.int .i64))),(6,(.own 0)),(25,(.d (.sl (.sl (.st 7))))),(26,(.d (.int .i64)))],[(.acc 34 (.st 7) true)],0,36,[]⟩,λx=>yzr n x.1 x.2.1 x.2.2.1 x.2.2.2.1⟩)]) (ann [(8,0),(26,1),(33,2)] (Tryz.f90.body.getD .skip) 0).1
noncomputable def zen:List (FI dat):=[z1n]
theorem zes:(yzn).Good Tryz.prog dat (tb zen):=FI.zhj (hD:=zz0 _) Tryz.func90 Tryz.ntmps90 Tryz.call90 (by kernel_rfl) (Qac (by kernel_rfl)) (by kernel_rfl) (λn=>by kernel_rfl) trivial (λx=>by kernel_rfl) (λ_=>rfl) ⟨λ_=>rfl,λ_=>rfl,λ_=>rfl,trivial⟩
 (λn=>λx=>(z0v.eq_2 _ n).trans (by kernel_rfl))
 (λn=>⟨λx=>(kzr.eq_2 _ _ _ _ _ n).trans (by kernel_rfl),
  λx=>(z0i.eq_2 _ _ _ _ _ n).trans (by kernel_rfl),
  λx=>(yzr.eq_2 _ _ _ _ n).trans (by kernel_rfl),
  trivial⟩)
 (λx=>by kernel_rfl)
theorem zev:OkL Tryz.prog [yzn]:=zz3 (zz0 _) (bs:=[z1n]) ⟨zf9,trivial⟩ zes
theorem zeh:FOk Tryz.prog yzn:=zev.1
def zhz:Nat->kz4->kz4->Option Bool
 |0,_,_=>none
 |n+1,a0,a1=>
  pIf (a0.name==a1.name)
   ((z6l n a0.value.re a1.value.re).bind λy0=>
   some y0)
   (some false)
def zxt:LSh:=⟨[(4,(.d .bool))],[],0,17,[]⟩
noncomputable def z9q:FI dat:=FI.of dat 137 17 0 [(.d (.st 3)),(.d (.st 3))] [] [(.d .bool)] [] true zxt (R:=Bool) (λx=>x.1) (λr=>(r,())) (λn x=>zhz n x.1 x.2.1)
 (λn=>[]) (ann [] (Tryz.f137.body.getD .skip) 0).1
noncomputable def zy5:List (FI dat):=[z1l]
theorem zye:(z9q).Good Tryz.prog dat (tb zy5):=FI.zz2 (hD:=zz0 _) Tryz.func137 Tryz.ntmps137 Tryz.call137 (by kernel_rfl) (Qac (by kernel_rfl)) (by kernel_rfl) (λn=>by kernel_rfl) (λx=>by kernel_rfl) (λ_=>rfl) trivial
 (λn=>λx=>(zhz.eq_2 _ _ n).trans (by kernel_rfl))
 (λn=>trivial)
 (λx=>.inl rfl)
theorem y06:OkL Tryz.prog [z9q]:=zz3 (zz0 _) (bs:=[z1l]) ⟨zis,trivial⟩ zye
theorem zvi:FOk Tryz.prog z9q:=y06.1
mutual
def yze:Nat->(List kz4)->(List kz4)->Option Bool
 |0,_,_=>none
 |n+1,a0,a1=>
  pIf ((a0.length:Int) != (a1.length:Int))
   (some false)
   (yz7 n 0 a1 a0 (a0.length:Int))
def yz7:Nat->Int->(List kz4)->(List kz4)->Int->Option Bool
 |0,_,_,_,_=>none
 |n+1,a0,a1,a2,a3=>
  pIf (decide (a0<a3))
   ((ix a2 a0).bind λx0=>
   (ix a1 a0).bind λx1=>
   (zhz n x0.re x1.re).bind λy2=>
   pIf (!y2)
    (some false)
    (yz7 n (IntKind.i64.wrap (a0+1)) a1 a2 a3))
   (some true)
end
def z2u:LSh:=⟨[(6,(.d .bool))],[],0,32,[]⟩
noncomputable def kz5:FI dat:=FI.of dat 136 32 0 [(.d (.sl (.st 3))),(.d (.sl (.st 3))),(.fn 137 [] [])] [] [(.d .bool)] [] true z2u (R:=Bool) (λx=>x.1) (λr=>(r,())) (λn x=>yze n x.1 x.2.1)
 (λn=>[(0,⟨⟨[(17,(.d (.int .i64))),(2,(.fn 137 [] [])),(1,(.d (.sl (.st 3)))),(15,(.d (.sl (.st 3)))),(16,(.d (.int .i64)))],[],0,32,[]⟩,λx=>yz7 n x.1 x.2.1 x.2.2.1 x.2.2.2.1⟩)]) (ann [(14,0)] (Tryz.f136.body.getD .skip) 0).1
noncomputable def z2r:List (FI dat):=[z9q]
theorem z38:(kz5).Good Tryz.prog dat (tb z2r):=FI.zz2 (hD:=zz0 _) Tryz.func136 Tryz.ntmps136 Tryz.call136 (by kernel_rfl) (Qac (by kernel_rfl)) (by kernel_rfl) (λn=>by kernel_rfl) (λx=>by kernel_rfl) (λ_=>rfl) ⟨λ_=>rfl,trivial⟩
 (λn=>λx=>(yze.eq_2 _ _ n).trans (by kernel_rfl))
 (λn=>⟨λx=>(yz7.eq_2 _ _ _ _ n).trans (by kernel_rfl),
  trivial⟩)
 (λx=>.inl rfl)
theorem z2t:OkL Tryz.prog [kz5]:=zz3 (zz0 _) (bs:=[z9q]) ⟨zvi,trivial⟩ z38
theorem z2j:FOk Tryz.prog kz5:=z2t.1
mutual
def z2e:Nat->(List (List UInt8))->(List (List UInt8))->Option Bool
 |0,_,_=>none
 |n+1,a0,a1=>
  pIf ((a0.length:Int) != (a1.length:Int))
   (some false)
   (z02 n 0 a1 a0 (a0.length:Int))
def z02:Nat->Int->(List (List UInt8))->(List (List UInt8))->Int->Option Bool
 |0,_,_,_,_=>none
 |n+1,a0,a1,a2,a3=>
  pIf (decide (a0<a3))
   ((ix a2 a0).bind λx0=>
   (ix a1 a0).bind λx1=>
   pIf (!(x0==x1))
    (some false)
    (z02 n (IntKind.i64.wrap (a0+1)) a1 a2 a3))
   (some true)
end
def zhv:LSh:=⟨[(4,(.d .bool))],[],0,26,[]⟩
noncomputable def zzx:FI dat:=FI.of dat 140 26 0 [(.d (.sl .str)),(.d (.sl .str))] [] [(.d .bool)] [] true zhv (R:=Bool) (λx=>x.1) (λr=>(r,())) (λn x=>z2e n x.1 x.2.1)
 (λn=>[(0,⟨⟨[(13,(.d (.int .i64))),(1,(.d (.sl .str))),(0,(.d (.sl .str))),(12,(.d (.int .i64)))],[],0,26,[]⟩,λx=>z02 n x.1 x.2.1 x.2.2.1 x.2.2.2.1⟩)]) (ann [(14,0)] (Tryz.f140.body.getD .skip) 0).1
noncomputable def zi2:List (FI dat):=[]
theorem zi6:(zzx).Good Tryz.prog dat (tb zi2):=FI.zz2 (hD:=zz0 _) Tryz.func140 Tryz.ntmps140 Tryz.call140 (by kernel_rfl) (Qac (by kernel_rfl)) (by kernel_rfl) (λn=>by kernel_rfl) (λx=>by kernel_rfl) (λ_=>rfl) ⟨λ_=>rfl,trivial⟩
 (λn=>λx=>(z2e.eq_2 _ _ n).trans (by kernel_rfl))
 (λn=>⟨λx=>(z02.eq_2 _ _ _ _ n).trans (by kernel_rfl),
  trivial⟩)
 (λx=>.inl rfl)
theorem zi1:OkL Tryz.prog [zzx]:=zz3 (zz0 _) (bs:=[]) trivial zi6
theorem zhh:FOk Tryz.prog zzx:=zi1.1
def z8o:Nat->(List kz0)->(List kz0)->Option Bool
 |0,_,_=>none
 |n+1,a0,a1=>
  (yz9 n a0 a1).bind λy0=>
  some y0
def zti:LSh:=⟨[(4,(.d .bool))],[],0,8,[]⟩
noncomputable def z1x:FI dat:=FI.of dat 201 8 0 [(.d (.sl (.st 2))),(.d (.sl (.st 2)))] [] [(.d .bool)] [] true zti (R:=Bool) (λx=>x.1) (λr=>(r,())) (λn x=>z8o n x.1 x.2.1)
 (λn=>[]) (ann [] (Tryz.f201.body.getD .skip) 0).1
noncomputable def ztr:List (FI dat):=[yz4]
theorem zsu:(z1x).Good Tryz.prog dat (tb ztr):=FI.zz2 (hD:=zz0 _) Tryz.func201 Tryz.ntmps201 Tryz.call201 (by kernel_rfl) (Qac (by kernel_rfl)) (by kernel_rfl) (λn=>by kernel_rfl) (λx=>by kernel_rfl) (λ_=>rfl) trivial
 (λn=>λx=>(z8o.eq_2 _ _ n).trans (by kernel_rfl))
 (λn=>trivial)
 (λx=>.inl rfl)
theorem ztw:OkL Tryz.prog [z1x]:=zz3 (zz0 _) (bs:=[yz4]) ⟨z2l,trivial⟩ zsu
theorem zk8:FOk Tryz.prog z1x:=ztw.1
def zef:Nat->zzu->zzu->Option Bool
 |0,_,_=>none
 |n+1,a0,a1=>
  pIf (a0.kind==a1.kind)
   (pIf (a0.name==a1.name)
     ((z8o n a0.args a1.args).bind λy0=>
     some y0)
     (some false))
   (some false)
def zqv:LSh:=⟨[(4,(.d .bool))],[],0,24,[]⟩
noncomputable def z4p:FI dat:=FI.of dat 203 24 0 [(.d (.st 4)),(.d (.st 4))] [] [(.d .bool)] [] true zqv (R:=Bool) (λx=>x.1) (λr=>(r,())) (λn x=>zef n x.1 x.2.1)
 (λn=>[]) (ann [] (Tryz.f203.body.getD .skip) 0).1
noncomputable def zru:List (FI dat):=[z1x]
theorem zr8:(z4p).Good Tryz.prog dat (tb zru):=FI.zz2 (hD:=zz0 _) Tryz.func203 Tryz.ntmps203 Tryz.call203 (by kernel_rfl) (Qac (by kernel_rfl)) (by kernel_rfl) (λn=>by kernel_rfl) (λx=>by kernel_rfl) (λ_=>rfl) trivial
 (λn=>λx=>(zef.eq_2 _ _ n).trans (by kernel_rfl))
 (λn=>trivial)
 (λx=>.inl rfl)
theorem zs7:OkL Tryz.prog [z4p]:=zz3 (zz0 _) (bs:=[z1x]) ⟨zk8,trivial⟩ zr8
theorem zq5:FOk Tryz.prog z4p:=zs7.1
mutual
def kze:Nat->(List zzu)->(List zzu)->Option Bool
 |0,_,_=>none
 |n+1,a0,a1=>
  pIf ((a0.length:Int) != (a1.length:Int))
   (some false)
   (kz8 n 0 a1 a0 (a0.length:Int))
def kz8:Nat->Int->(List zzu)->(List zzu)->Int->Option Bool
 |0,_,_,_,_=>none
 |n+1,a0,a1,a2,a3=>
  pIf (decide (a0<a3))
   ((ix a2 a0).bind λx0=>
   (ix a1 a0).bind λx1=>
   (zef n x0 x1).bind λy2=>
   pIf (!y2)
    (some false)
    (kz8 n (IntKind.i64.wrap (a0+1)) a1 a2 a3))
   (some true)
end
def z3e:LSh:=⟨[(6,(.d .bool))],[],0,32,[]⟩
noncomputable def kz6:FI dat:=FI.of dat 202 32 0 [(.d (.sl (.st 4))),(.d (.sl (.st 4))),(.fn 203 [] [])] [] [(.d .bool)] [] true z3e (R:=Bool) (λx=>x.1) (λr=>(r,())) (λn x=>kze n x.1 x.2.1)
 (λn=>[(0,⟨⟨[(17,(.d (.int .i64))),(2,(.fn 203 [] [])),(1,(.d (.sl (.st 4)))),(15,(.d (.sl (.st 4)))),(16,(.d (.int .i64)))],[],0,32,[]⟩,λx=>kz8 n x.1 x.2.1 x.2.2.1 x.2.2.2.1⟩)]) (ann [(14,0)] (Tryz.f202.body.getD .skip) 0).1
noncomputable def z30:List (FI dat):=[z4p]
theorem z34:(kz6).Good Tryz.prog dat (tb z30):=FI.zz2 (hD:=zz0 _) Tryz.func202 Tryz.ntmps202 Tryz.call202 (by kernel_rfl) (Qac (by kernel_rfl)) (by kernel_rfl) (λn=>by kernel_rfl) (λx=>by kernel_rfl) (λ_=>rfl) ⟨λ_=>rfl,trivial⟩
 (λn=>λx=>(kze.eq_2 _ _ n).trans (by kernel_rfl))
 (λn=>⟨λx=>(kz8.eq_2 _ _ _ _ n).trans (by kernel_rfl),
  trivial⟩)
 (λx=>.inl rfl)
theorem z2q:OkL Tryz.prog [kz6]:=zz3 (zz0 _) (bs:=[z4p]) ⟨zq5,trivial⟩ z34
theorem z2h:FOk Tryz.prog kz6:=z2q.1
def zad:Nat->yz3->yz3->Option Bool
 |0,_,_=>none
 |n+1,a0,a1=>
  pIf (a0.kind==a1.kind)
   (pIf (a0.axis==a1.axis)
     (pIf (a0.name==a1.name)
       ((z8o n a0.args a1.args).bind λy0=>
       pIf y0
        ((kze n a0.items a1.items).bind λy1=>
        some y1)
        (some false))
       (some false))
     (some false))
   (some false)
def zoh:LSh:=⟨[(4,(.d .bool))],[],0,38,[]⟩
noncomputable def z3i:FI dat:=FI.of dat 174 38 0 [(.d (.st 5)),(.d (.st 5))] [] [(.d .bool)] [] true zoh (R:=Bool) (λx=>x.1) (λr=>(r,())) (λn x=>zad n x.1 x.2.1)
 (λn=>[]) (ann [] (Tryz.f174.body.getD .skip) 0).1
noncomputable def zoo:List (FI dat):=[z1x,kz6]
theorem zok:(z3i).Good Tryz.prog dat (tb zoo):=FI.zz2 (hD:=zz0 _) Tryz.func174 Tryz.ntmps174 Tryz.call174 (by kernel_rfl) (Qac (by kernel_rfl)) (by kernel_rfl) (λn=>by kernel_rfl) (λx=>by kernel_rfl) (λ_=>rfl) trivial
 (λn=>λx=>(zad.eq_2 _ _ n).trans (by kernel_rfl))
 (λn=>trivial)
 (λx=>.inl rfl)
theorem zoi:OkL Tryz.prog [z3i]:=zz3 (zz0 _) (bs:=[z1x,kz6]) ⟨zk8,z2h,trivial⟩ zok
theorem zmz:FOk Tryz.prog z3i:=zoi.1
mutual
def kza:Nat->(List yz3)->(List yz3)->Option Bool
 |0,_,_=>none
 |n+1,a0,a1=>
  pIf ((a0.length:Int) != (a1.length:Int))
   (some false)
   (yz5 n 0 a1 a0 (a0.length:Int))
def yz5:Nat->Int->(List yz3)->(List yz3)->Int->Option Bool
 |0,_,_,_,_=>none
 |n+1,a0,a1,a2,a3=>
  pIf (decide (a0<a3))
   ((ix a2 a0).bind λx0=>
   (ix a1 a0).bind λx1=>
   (zad n x0 x1).bind λy2=>
   pIf (!y2)
    (some false)
    (yz5 n (IntKind.i64.wrap (a0+1)) a1 a2 a3))
   (some true)
end
def z1k:LSh:=⟨[(6,(.d .bool))],[],0,32,[]⟩
noncomputable def zz5:FI dat:=FI.of dat 173 32 0 [(.d (.sl (.st 5))),(.d (.sl (.st 5))),(.fn 174 [] [])] [] [(.d .bool)] [] true z1k (R:=Bool) (λx=>x.1) (λr=>(r,())) (λn x=>kza n x.1 x.2.1)
 (λn=>[(0,⟨⟨[(17,(.d (.int .i64))),(2,(.fn 174 [] [])),(1,(.d (.sl (.st 5)))),(15,(.d (.sl (.st 5)))),(16,(.d (.int .i64)))],[],0,32,[]⟩,λx=>yz5 n x.1 x.2.1 x.2.2.1 x.2.2.2.1⟩)]) (ann [(14,0)] (Tryz.f173.body.getD .skip) 0).1
noncomputable def z1f:List (FI dat):=[z3i]
theorem z1e:(zz5).Good Tryz.prog dat (tb z1f):=FI.zz2 (hD:=zz0 _) Tryz.func173 Tryz.ntmps173 Tryz.call173 (by kernel_rfl) (Qac (by kernel_rfl)) (by kernel_rfl) (λn=>by kernel_rfl) (λx=>by kernel_rfl) (λ_=>rfl) ⟨λ_=>rfl,trivial⟩
 (λn=>λx=>(kza.eq_2 _ _ n).trans (by kernel_rfl))
 (λn=>⟨λx=>(yz5.eq_2 _ _ _ _ n).trans (by kernel_rfl),
  trivial⟩)
 (λx=>.inl rfl)
theorem z1i:OkL Tryz.prog [zz5]:=zz3 (zz0 _) (bs:=[z3i]) ⟨zmz,trivial⟩ z1e
theorem z19:FOk Tryz.prog zz5:=z1i.1
def ze3:Nat->kz9->kz9->Option Bool
 |0,_,_=>none
 |n+1,a0,a1=>
  pIf (a0.weight==a1.weight)
   ((z6l n a0.when_.re a1.when_.re).bind λy0=>
   pIf y0
    ((kza n a0.do_ a1.do_).bind λy1=>
    some y1)
    (some false))
   (some false)
def zsb:LSh:=⟨[(4,(.d .bool))],[],0,24,[]⟩
noncomputable def z54:FI dat:=FI.of dat 142 24 0 [(.d (.st 6)),(.d (.st 6))] [] [(.d .bool)] [] true zsb (R:=Bool) (λx=>x.1) (λr=>(r,())) (λn x=>ze3 n x.1 x.2.1)
 (λn=>[]) (ann [] (Tryz.f142.body.getD .skip) 0).1
noncomputable def zqw:List (FI dat):=[z1l,zz5]
theorem zrj:(z54).Good Tryz.prog dat (tb zqw):=FI.zz2 (hD:=zz0 _) Tryz.func142 Tryz.ntmps142 Tryz.call142 (by kernel_rfl) (Qac (by kernel_rfl)) (by kernel_rfl) (λn=>by kernel_rfl) (λx=>by kernel_rfl) (λ_=>rfl) trivial
 (λn=>λx=>(ze3.eq_2 _ _ n).trans (by kernel_rfl))
 (λn=>trivial)
 (λx=>.inl rfl)
theorem zqm:OkL Tryz.prog [z54]:=zz3 (zz0 _) (bs:=[z1l,zz5]) ⟨zis,z19,trivial⟩ zrj
theorem zpy:FOk Tryz.prog z54:=zqm.1
mutual
def zzf:Nat->(List kz9)->(List kz9)->Option Bool
 |0,_,_=>none
 |n+1,a0,a1=>
  pIf ((a0.length:Int) != (a1.length:Int))
   (some false)
   (kz7 n 0 a1 a0 (a0.length:Int))
def kz7:Nat->Int->(List kz9)->(List kz9)->Int->Option Bool
 |0,_,_,_,_=>none
 |n+1,a0,a1,a2,a3=>
  pIf (decide (a0<a3))
   ((ix a2 a0).bind λx0=>
   (ix a1 a0).bind λx1=>
   (ze3 n x0.re x1.re).bind λy2=>
   pIf (!y2)
    (some false)
    (kz7 n (IntKind.i64.wrap (a0+1)) a1 a2 a3))
   (some true)
end
def z2w:LSh:=⟨[(6,(.d .bool))],[],0,32,[]⟩
noncomputable def yz6:FI dat:=FI.of dat 141 32 0 [(.d (.sl (.st 6))),(.d (.sl (.st 6))),(.fn 142 [] [])] [] [(.d .bool)] [] true z2w (R:=Bool) (λx=>x.1) (λr=>(r,())) (λn x=>zzf n x.1 x.2.1)
 (λn=>[(0,⟨⟨[(17,(.d (.int .i64))),(2,(.fn 142 [] [])),(1,(.d (.sl (.st 6)))),(15,(.d (.sl (.st 6)))),(16,(.d (.int .i64)))],[],0,32,[]⟩,λx=>kz7 n x.1 x.2.1 x.2.2.1 x.2.2.2.1⟩)]) (ann [(14,0)] (Tryz.f141.body.getD .skip) 0).1
noncomputable def z2s:List (FI dat):=[z54]
theorem z3a:(yz6).Good Tryz.prog dat (tb z2s):=FI.zz2 (hD:=zz0 _) Tryz.func141 Tryz.ntmps141 Tryz.call141 (by kernel_rfl) (Qac (by kernel_rfl)) (by kernel_rfl) (λn=>by kernel_rfl) (λx=>by kernel_rfl) (λ_=>rfl) ⟨λ_=>rfl,trivial⟩
 (λn=>λx=>(zzf.eq_2 _ _ n).trans (by kernel_rfl))
 (λn=>⟨λx=>(kz7.eq_2 _ _ _ _ n).trans (by kernel_rfl),
  trivial⟩)
 (λx=>.inl rfl)
theorem z39:OkL Tryz.prog [yz6]:=zz3 (zz0 _) (bs:=[z54]) ⟨zpy,trivial⟩ z3a
theorem z2k:FOk Tryz.prog yz6:=z39.1
def zhp:Nat->zz1->zz1->Option Bool
 |0,_,_=>none
 |n+1,a0,a1=>
  pIf (a0.name==a1.name)
   ((z2e n a0.params a1.params).bind λy0=>
   pIf y0
    ((zzf n a0.cases a1.cases).bind λy1=>
    some y1)
    (some false))
   (some false)
def zy4:LSh:=⟨[(4,(.d .bool))],[],0,24,[]⟩
noncomputable def z9p:FI dat:=FI.of dat 139 24 0 [(.d (.st 7)),(.d (.st 7))] [] [(.d .bool)] [] true zy4 (R:=Bool) (λx=>x.1) (λr=>(r,())) (λn x=>zhp n x.1 x.2.1)
 (λn=>[]) (ann [] (Tryz.f139.body.getD .skip) 0).1
noncomputable def y05:List (FI dat):=[zzx,yz6]
theorem y04:(z9p).Good Tryz.prog dat (tb y05):=FI.zz2 (hD:=zz0 _) Tryz.func139 Tryz.ntmps139 Tryz.call139 (by kernel_rfl) (Qac (by kernel_rfl)) (by kernel_rfl) (λn=>by kernel_rfl) (λx=>by kernel_rfl) (λ_=>rfl) trivial
 (λn=>λx=>(zhp.eq_2 _ _ n).trans (by kernel_rfl))
 (λn=>trivial)
 (λx=>.inl rfl)
theorem zxr:OkL Tryz.prog [z9p]:=zz3 (zz0 _) (bs:=[zzx,yz6]) ⟨zhh,z2k,trivial⟩ y04
theorem zun:FOk Tryz.prog z9p:=zxr.1
mutual
def yzf:Nat->(List zz1)->(List zz1)->Option Bool
 |0,_,_=>none
 |n+1,a0,a1=>
  pIf ((a0.length:Int) != (a1.length:Int))
   (some false)
   (yz8 n 0 a1 a0 (a0.length:Int))
def yz8:Nat->Int->(List zz1)->(List zz1)->Int->Option Bool
 |0,_,_,_,_=>none
 |n+1,a0,a1,a2,a3=>
  pIf (decide (a0<a3))
   ((ix a2 a0).bind λx0=>
   (ix a1 a0).bind λx1=>
   (zhp n x0 x1).bind λy2=>
   pIf (!y2)
    (some false)
    (yz8 n (IntKind.i64.wrap (a0+1)) a1 a2 a3))
   (some true)
end
def z2x:LSh:=⟨[(6,(.d .bool))],[],0,32,[]⟩
noncomputable def zz6:FI dat:=FI.of dat 138 32 0 [(.d (.sl (.st 7))),(.d (.sl (.st 7))),(.fn 139 [] [])] [] [(.d .bool)] [] true z2x (R:=Bool) (λx=>x.1) (λr=>(r,())) (λn x=>yzf n x.1 x.2.1)
 (λn=>[(0,⟨⟨[(17,(.d (.int .i64))),(2,(.fn 139 [] [])),(1,(.d (.sl (.st 7)))),(15,(.d (.sl (.st 7)))),(16,(.d (.int .i64)))],[],0,32,[]⟩,λx=>yz8 n x.1 x.2.1 x.2.2.1 x.2.2.2.1⟩)]) (ann [(14,0)] (Tryz.f138.body.getD .skip) 0).1
noncomputable def z2z:List (FI dat):=[z9p]
theorem z3c:(zz6).Good Tryz.prog dat (tb z2z):=FI.zz2 (hD:=zz0 _) Tryz.func138 Tryz.ntmps138 Tryz.call138 (by kernel_rfl) (Qac (by kernel_rfl)) (by kernel_rfl) (λn=>by kernel_rfl) (λx=>by kernel_rfl) (λ_=>rfl) ⟨λ_=>rfl,trivial⟩
 (λn=>λx=>(yzf.eq_2 _ _ n).trans (by kernel_rfl))
 (λn=>⟨λx=>(yz8.eq_2 _ _ _ _ n).trans (by kernel_rfl),
  trivial⟩)
 (λx=>.inl rfl)
theorem z36:OkL Tryz.prog [zz6]:=zz3 (zz0 _) (bs:=[z9p]) ⟨zun,trivial⟩ z3c
theorem z2i:FOk Tryz.prog zz6:=z36.1
def zki:Nat->yz1->yz1->Option Bool
 |0,_,_=>none
 |n+1,a0,a1=>
  (yze n a0.attrs a1.attrs).bind λy0=>
  pIf y0
   ((yzf n a0.rules a1.rules).bind λy1=>
   some y1)
   (some false)
def y81:LSh:=⟨[(4,(.d .bool))],[],0,17,[]⟩
noncomputable def zfu:FI dat:=FI.of dat 91 17 0 [(.d (.st 8)),(.d (.st 8))] [] [(.d .bool)] [] true y81 (R:=Bool) (λx=>x.1) (λr=>(r,())) (λn x=>zki n x.1 x.2.1)
 (λn=>[]) (ann [] (Tryz.f91.body.getD .skip) 0).1
noncomputable def y6j:List (FI dat):=[kz5,zz6]
theorem y43:(zfu).Good Tryz.prog dat (tb y6j):=FI.zz2 (hD:=zz0 _) Tryz.func91 Tryz.ntmps91 Tryz.call91 (by kernel_rfl) (Qac (by kernel_rfl)) (by kernel_rfl) (λn=>by kernel_rfl) (λx=>by kernel_rfl) (λ_=>rfl) trivial
 (λn=>λx=>(zki.eq_2 _ _ n).trans (by kernel_rfl))
 (λn=>trivial)
 (λx=>.inl rfl)
theorem y7m:OkL Tryz.prog [zfu]:=zz3 (zz0 _) (bs:=[kz5,zz6]) ⟨z2j,z2i,trivial⟩ y43
theorem y0l:FOk Tryz.prog zfu:=y7m.1
def zfw:Nat->kz0->(List (List UInt8))->(List Bool)->Option (Bool×(List (List UInt8))×(List Bool))
 |0,_,_,_=>none
 |n+1,a0,a1,a2=>
  (zft n a0.re (mks (List.zip a1 a2)) (mvs (List.zip a1 a2))).bind λy0=>
  some (y0.1,(mks (List.zip y0.2.1 y0.2.2)),(mvs (List.zip y0.2.1 y0.2.2)))
def ztk:LSh:=⟨[(3,(.d .bool))],[(.cells [(.map 1)]),(.mp 86 .bool)],2,7,[]⟩
noncomputable def z5y:FI dat:=FI.of dat 144 7 2 [(.d (.st 2)),(.ptr 0 0)] [(.cells [(.map 1)]),(.mp 86 .bool)] [(.d .bool)] [(.cells [(.map 1)]),(.mp 86 .bool)] false ztk (R:=Bool×(List (List UInt8))×(List Bool)) (λx=>(x.1,x.2.1,x.2.2.1)) (λr=>(r.1,r.2.1,r.2.2,())) (λn x=>zfw n x.1 x.2.1 x.2.2.1)
 (λn=>[]) (ann [] (Tryz.f144.body.getD .skip) 0).1
noncomputable def ztl:List (FI dat):=[z57]
theorem zsn:(z5y).Good Tryz.prog dat (tb ztl):=FI.zz2 (hD:=zz0 _) Tryz.func144 Tryz.ntmps144 Tryz.call144 (by kernel_rfl) (Qac (by kernel_rfl)) (by kernel_rfl) (λn=>by kernel_rfl) (λx=>by kernel_rfl) (λ_=>rfl) trivial
 (λn=>λx=>(zfw.eq_2 _ _ _ n).trans (by kernel_rfl))
 (λn=>trivial)
 (λx=>.inr (by kernel_rfl))
theorem ztg:OkL Tryz.prog [z5y]:=zz3 (zz0 _) (bs:=[z57]) ⟨zls,trivial⟩ zsn
theorem zrp:FOk Tryz.prog z5y:=ztg.1
mutual
def z00:Nat->(List kz0)->(List (List UInt8))->(List Bool)->Option (Int×(List (List UInt8))×(List Bool))
 |0,_,_,_=>none
 |n+1,a0,a1,a2=>
  kzh n 0 a0 (a0.length:Int) (mks (List.zip a1 a2)) (mvs (List.zip a1 a2))
def kzh:Nat->Int->(List kz0)->Int->(List (List UInt8))->(List Bool)->Option (Int×(List (List UInt8))×(List Bool))
 |0,_,_,_,_,_=>none
 |n+1,a0,a1,a2,a3,a4=>
  pIf (decide (a0<a2))
   ((ix a1 a0).bind λx0=>
   (zfw n x0.re (mks (List.zip a3 a4)) (mvs (List.zip a3 a4))).bind λy1=>
   pIf y1.1
    (some (a0,(mks (List.zip y1.2.1 y1.2.2)),(mvs (List.zip y1.2.1 y1.2.2))))
    (kzh n (IntKind.i64.wrap (a0+1)) a1 a2 (mks (List.zip y1.2.1 y1.2.2)) (mvs (List.zip y1.2.1 y1.2.2))))
   (some ((-1),(mks (List.zip a3 a4)),(mvs (List.zip a3 a4))))
end
def z9h:LSh:=⟨[(4,(.d (.int .i64)))],[(.cells [(.map 1)]),(.mp 86 .bool)],2,19,[]⟩
noncomputable def yzc:FI dat:=FI.of dat 83 19 2 [(.d (.sl (.st 2))),(.fn 144 [] [(.ptr 0 0)])] [(.cells [(.map 1)]),(.mp 86 .bool)] [(.d (.int .i64))] [(.cells [(.map 1)]),(.mp 86 .bool)] false z9h (R:=Int×(List (List UInt8))×(List Bool)) (λx=>(x.1,x.2.1,x.2.2.1)) (λr=>(r.1,r.2.1,r.2.2,())) (λn x=>z00 n x.1 x.2.1 x.2.2.1)
 (λn=>[(0,⟨⟨[(8,(.d (.int .i64))),(0,(.d (.sl (.st 2)))),(1,(.fn 144 [] [(.ptr 0 0)])),(7,(.d (.int .i64)))],[(.cells [(.map 1)]),(.mp 86 .bool)],2,19,[]⟩,λx=>kzh n x.1 x.2.1 x.2.2.1 x.2.2.2.1 x.2.2.2.2.1⟩)]) (ann [(6,0)] (Tryz.f83.body.getD .skip) 0).1
noncomputable def z9e:List (FI dat):=[z5y]
theorem z94:(yzc).Good Tryz.prog dat (tb z9e):=FI.zz2 (hD:=zz0 _) Tryz.func83 Tryz.ntmps83 Tryz.call83 (by kernel_rfl) (Qac (by kernel_rfl)) (by kernel_rfl) (λn=>by kernel_rfl) (λx=>by kernel_rfl) (λ_=>rfl) ⟨λ_=>rfl,trivial⟩
 (λn=>λx=>(z00.eq_2 _ _ _ n).trans (by kernel_rfl))
 (λn=>⟨λx=>(kzh.eq_2 _ _ _ _ _ n).trans (by kernel_rfl),
  trivial⟩)
 (λx=>.inr (by kernel_rfl))
theorem z99:OkL Tryz.prog [yzc]:=zz3 (zz0 _) (bs:=[z5y]) ⟨zrp,trivial⟩ z94
theorem z7s:FOk Tryz.prog yzc:=z99.1
def kzv:Nat->(List kz0)->(List (List UInt8))->(List Bool)->Option (Bool×(List (List UInt8))×(List Bool))
 |0,_,_,_=>none
 |n+1,a0,a1,a2=>
  (z00 n a0 (mks (List.zip a1 a2)) (mvs (List.zip a1 a2))).bind λy0=>
  some ((decide (y0.1>=0)),(mks (List.zip y0.2.1 y0.2.2)),(mvs (List.zip y0.2.1 y0.2.2)))
def z6g:LSh:=⟨[(4,(.d .bool))],[(.cells [(.map 1)]),(.mp 86 .bool)],2,9,[]⟩
noncomputable def zzb:FI dat:=FI.of dat 38 9 2 [(.d (.sl (.st 2))),(.fn 144 [] [(.ptr 0 0)])] [(.cells [(.map 1)]),(.mp 86 .bool)] [(.d .bool)] [(.cells [(.map 1)]),(.mp 86 .bool)] false z6g (R:=Bool×(List (List UInt8))×(List Bool)) (λx=>(x.1,x.2.1,x.2.2.1)) (λr=>(r.1,r.2.1,r.2.2,())) (λn x=>kzv n x.1 x.2.1 x.2.2.1)
 (λn=>[]) (ann [] (Tryz.f38.body.getD .skip) 0).1
noncomputable def z6d:List (FI dat):=[yzc]
theorem z6o:(zzb).Good Tryz.prog dat (tb z6d):=FI.zz2 (hD:=zz0 _) Tryz.func38 Tryz.ntmps38 Tryz.call38 (by kernel_rfl) (Qac (by kernel_rfl)) (by kernel_rfl) (λn=>by kernel_rfl) (λx=>by kernel_rfl) (λ_=>rfl) trivial
 (λn=>λx=>(kzv.eq_2 _ _ _ n).trans (by kernel_rfl))
 (λn=>trivial)
 (λx=>.inr (by kernel_rfl))
theorem z6a:OkL Tryz.prog [zzb]:=zz3 (zz0 _) (bs:=[yzc]) ⟨z7s,trivial⟩ z6o
theorem z66:FOk Tryz.prog zzb:=z6a.1
mutual
def zi9:Nat->zz1->(List (List UInt8))->(List Bool)->Option (Bool×(List (List UInt8))×(List Bool))
 |0,_,_,_=>none
 |n+1,a0,a1,a2=>
  z6e n 0 a0.cases (a0.cases.length:Int) (mks (List.zip a1 a2)) (mvs (List.zip a1 a2))
def z6e:Nat->Int->(List kz9)->Int->(List (List UInt8))->(List Bool)->Option (Bool×(List (List UInt8))×(List Bool))
 |0,_,_,_,_,_=>none
 |n+1,a0,a1,a2,a3,a4=>
  pIf (decide (a0<a2))
   ((ix a1 a0).bind λx0=>
   (zft n x0.when_.re (mks (List.zip a3 a4)) (mvs (List.zip a3 a4))).bind λy1=>
   pIf y1.1
    (some (true,(mks (List.zip y1.2.1 y1.2.2)),(mvs (List.zip y1.2.1 y1.2.2))))
    (z78 n 0 x0.do_ a1 a2 a0 (x0.do_.length:Int) (mks (List.zip y1.2.1 y1.2.2)) (mvs (List.zip y1.2.1 y1.2.2))))
   (some (false,(mks (List.zip a3 a4)),(mvs (List.zip a3 a4))))
def z78:Nat->Int->(List yz3)->(List kz9)->Int->Int->Int->(List (List UInt8))->(List Bool)->Option (Bool×(List (List UInt8))×(List Bool))
 |0,_,_,_,_,_,_,_,_=>none
 |n+1,a0,a1,a2,a3,a4,a5,a6,a7=>
  pIf (decide (a0<a5))
   ((ix a1 a0).bind λx2=>
   (z4j n x2.args).bind λy3=>
   z6j n 0 x2.items a1 a2 a3 a4 a5 a0 (x2.items.length:Int) (mks (List.zip a6 a7)) (mvs (List.zip a6 a7)) y3)
   (z6e n (IntKind.i64.wrap (a4+1)) a2 a3 (mks (List.zip a6 a7)) (mvs (List.zip a6 a7)))
def z6j:Nat->Int->(List zzu)->(List yz3)->(List kz9)->Int->Int->Int->Int->Int->(List (List UInt8))->(List Bool)->(List kz0)->Option (Bool×(List (List UInt8))×(List Bool))
 |0,_,_,_,_,_,_,_,_,_,_,_,_=>none
 |n+1,a0,a1,a2,a3,a4,a5,a6,a7,a8,a9,a10,a11=>
  pIf (decide (a0<a8))
   ((ix a1 a0).bind λx4=>
   (ext a11 x4.args).bind λx5=>
   z6j n (IntKind.i64.wrap (a0+1)) a1 a2 a3 a4 a5 a6 a7 a8 (mks (List.zip a9 a10)) (mvs (List.zip a9 a10)) x5)
   ((kzv n a11 (mks (List.zip a9 a10)) (mvs (List.zip a9 a10))).bind λy6=>
   pIf y6.1
    (some (true,(mks (List.zip y6.2.1 y6.2.2)),(mvs (List.zip y6.2.1 y6.2.2))))
    (z78 n (IntKind.i64.wrap (a7+1)) a2 a3 a4 a5 a6 (mks (List.zip y6.2.1 y6.2.2)) (mvs (List.zip y6.2.1 y6.2.2))))
end
def zws:LSh:=⟨[(4,(.d .bool))],[(.mp 86 .bool)],1,50,[]⟩
noncomputable def za6:FI dat:=FI.of dat 92 50 1 [(.d (.st 7)),(.map 0)] [(.mp 86 .bool)] [(.d .bool)] [(.mp 86 .bool)] false zws (R:=Bool×(List (List UInt8))×(List Bool)) (λx=>(x.1,x.2.1,x.2.2.1)) (λr=>(r.1,r.2.1,r.2.2,())) (λn x=>zi9 n x.1 x.2.1 x.2.2.1)
 (λn=>[(0,⟨⟨[(3,(.ptr 1 0)),(15,(.d (.int .i64))),(13,(.d (.sl (.st 6)))),(14,(.d (.int .i64)))],[(.mp 86 .bool),(.cells [(.map 0)])],1,50,[]⟩,λx=>z6e n x.1 x.2.1 x.2.2.1 x.2.2.2.1 x.2.2.2.2.1⟩),(1,⟨⟨[(26,(.d (.int .i64))),(3,(.ptr 1 0)),(24,(.d (.sl (.st 5)))),(13,(.d (.sl (.st 6)))),(14,(.d (.int .i64))),(15,(.d (.int .i64))),(25,(.d (.int .i64)))],[(.mp 86 .bool),(.cells [(.map 0)])],1,50,[]⟩,λx=>z78 n x.1 x.2.1 x.2.2.1 x.2.2.2.1 x.2.2.2.2.1 x.2.2.2.2.2.1 x.2.2.2.2.2.2.1 x.2.2.2.2.2.2.2.1⟩),(2,⟨⟨[(36,(.d (.int .i64))),(9,(.own 1)),(34,(.d (.sl (.st 4)))),(3,(.ptr 2 0)),(24,(.d (.sl (.st 5)))),(13,(.d (.sl (.st 6)))),(14,(.d (.int .i64))),(15,(.d (.int .i64))),(25,(.d (.int .i64))),(26,(.d (.int .i64))),(35,(.d (.int .i64)))],[(.mp 86 .bool),(.acc 42 (.st 2) true),(.cells [(.map 0)])],1,50,[]⟩,λx=>z6j n x.1 x.2.1 x.2.2.1 x.2.2.2.1 x.2.2.2.2.1 x.2.2.2.2.2.1 x.2.2.2.2.2.2.1 x.2.2.2.2.2.2.2.1 x.2.2.2.2.2.2.2.2.1 x.2.2.2.2.2.2.2.2.2.1 x.2.2.2.2.2.2.2.2.2.2.1 x.2.2.2.2.2.2.2.2.2.2.2.1⟩)]) (ann [(6,0),(28,1),(45,2)] (Tryz.f92.body.getD .skip) 0).1
noncomputable def zxl:List (FI dat):=[z57,z1c,zzb]
theorem zwm:(za6).Good Tryz.prog dat (tb zxl):=FI.zz2 (hD:=zz0 _) Tryz.func92 Tryz.ntmps92 Tryz.call92 (by kernel_rfl) (Qac (by kernel_rfl)) (by kernel_rfl) (λn=>by kernel_rfl) (λx=>by kernel_rfl) (λ_=>rfl) ⟨λ_=>rfl,λ_=>rfl,λ_=>rfl,trivial⟩
 (λn=>λx=>(zi9.eq_2 _ _ _ n).trans (by kernel_rfl))
 (λn=>⟨λx=>(z6e.eq_2 _ _ _ _ _ n).trans (by kernel_rfl),
  λx=>(z78.eq_2 _ _ _ _ _ _ _ _ n).trans (by kernel_rfl),
  λx=>(z6j.eq_2 _ _ _ _ _ _ _ _ _ _ _ _ n).trans (by kernel_rfl),
  trivial⟩)
 (λx=>.inr (by kernel_rfl))
theorem y09:OkL Tryz.prog [za6]:=zz3 (zz0 _) (bs:=[z57,z1c,zzb]) ⟨zls,zeo,z66,trivial⟩ zwm
theorem zvk:FOk Tryz.prog za6:=y09.1
mutual
def zdq:Nat->yz1->yz1->Option (Res ((List UInt8)×Unit) ((List (List UInt8))×(List Bool)))
 |0,_,_=>none
 |n+1,a0,a1=>
  (zkx n a0 a1).bind λy0=>
  y03 y0 (λr1=>
   (z0v n [a0.rules,a1.rules]).bind λy2=>
   y03 y2 (λr3=>
    z6t n 0 r3 (r3.length:Int) [] [] (mks (List.zip r1.1 r1.2)) (mvs (List.zip r1.1 r1.2)) a1 a0)
    (λe4=>
    some (Res.pan (e4.1,()))))
   (λe5=>
   some (Res.pan (e5.1,())))
def z6t:Nat->Int->(List zz1)->Int->(List (List UInt8))->(List Bool)->(List (List UInt8))->(List Bool)->yz1->yz1->Option (Res ((List UInt8)×Unit) ((List (List UInt8))×(List Bool)))
 |0,_,_,_,_,_,_,_,_,_=>none
 |n+1,a0,a1,a2,a3,a4,a5,a6,a7,a8=>
  pIf (decide (a0<a2))
   ((ix a1 a0).bind λx6=>
   (zbx n a8 x6.name).bind λy7=>
   (zbx n a7 x6.name).bind λy8=>
   pIf (decide (y7<0))
    (z1w n a1 a2 a0 true (mks (List.zip a3 a4)) (mvs (List.zip a3 a4)) (mks (List.zip a5 a6)) (mvs (List.zip a5 a6)) a7 a8 x6)
    (pIf (decide (y8<0))
      (z1w n a1 a2 a0 true (mks (List.zip a3 a4)) (mvs (List.zip a3 a4)) (mks (List.zip a5 a6)) (mvs (List.zip a5 a6)) a7 a8 x6)
      ((sub a8.rules y7 (IntKind.i64.wrap (y7+1))).bind λx9=>
      (sub a7.rules y8 (IntKind.i64.wrap (y8+1))).bind λx10=>
      (zki n (yz1.mk [] x9) (yz1.mk [] x10)).bind λy11=>
      pIf (!y11)
       (z1w n a1 a2 a0 true (mks (List.zip a3 a4)) (mvs (List.zip a3 a4)) (mks (List.zip a5 a6)) (mvs (List.zip a5 a6)) a7 a8 x6)
       ((zi9 n x6 (mks (List.zip a5 a6)) (mvs (List.zip a5 a6))).bind λy12=>
       z1w n a1 a2 a0 y12.1 (mks (List.zip a3 a4)) (mvs (List.zip a3 a4)) (mks (List.zip y12.2.1 y12.2.2)) (mvs (List.zip y12.2.1 y12.2.2)) a7 a8 x6))))
   (some (Res.ok ((mks (List.zip a3 a4)),(mvs (List.zip a3 a4)))))
def z1w:Nat->(List zz1)->Int->Int->Bool->(List (List UInt8))->(List Bool)->(List (List UInt8))->(List Bool)->yz1->yz1->zz1->Option (Res ((List UInt8)×Unit) ((List (List UInt8))×(List Bool)))
 |0,_,_,_,_,_,_,_,_,_,_,_=>none
 |n+1,a0,a1,a2,a3,a4,a5,a6,a7,a8,a9,a10=>
  pIf a3
   (z6k n a0 a1 a2 (mks (z61 (List.zip a4 a5) a10.name true)) (mvs (z61 (List.zip a4 a5) a10.name true)) (mks (List.zip a6 a7)) (mvs (List.zip a6 a7)) a8 a9)
   (z6k n a0 a1 a2 (mks (List.zip a4 a5)) (mvs (List.zip a4 a5)) (mks (List.zip a6 a7)) (mvs (List.zip a6 a7)) a8 a9)
def z6k:Nat->(List zz1)->Int->Int->(List (List UInt8))->(List Bool)->(List (List UInt8))->(List Bool)->yz1->yz1->Option (Res ((List UInt8)×Unit) ((List (List UInt8))×(List Bool)))
 |0,_,_,_,_,_,_,_,_,_=>none
 |n+1,a0,a1,a2,a3,a4,a5,a6,a7,a8=>
  z6t n (IntKind.i64.wrap (a2+1)) a0 a1 (mks (List.zip a3 a4)) (mvs (List.zip a3 a4)) (mks (List.zip a5 a6)) (mvs (List.zip a5 a6)) a7 a8
end
def zy1:LSh:=⟨[(4,(.map 0))],[(.mp 86 .bool)],0,68,[]⟩
noncomputable def z44:FI dat:=FI.ofP dat 45 68 0 [(.d (.st 8)),(.d (.st 8))] [] [(.map 0)] [(.mp 86 .bool)] (.iface 9 (.d .str)) [] [] zy1 (R:=(List (List UInt8))×(List Bool)) (λx=>(x.1,x.2.1)) (λr=>(r.1,r.2,())) (λn x=>zdq n x.1 x.2.1)
 (λn=>[(0,⟨⟨[(22,(.d (.int .i64))),(5,(.map 0)),(6,(.map 1)),(3,(.ptr 2 0)),(2,(.ptr 3 0)),(20,(.d (.sl (.st 7)))),(21,(.d (.int .i64)))],[(.mp 86 .bool),(.mp 86 .bool),(.st 8),(.st 8)],0,68,[]⟩,λx=>z6t n x.1 x.2.1 x.2.2.1 x.2.2.2.1 x.2.2.2.2.1 x.2.2.2.2.2.1 x.2.2.2.2.2.2.1 x.2.2.2.2.2.2.2.1 x.2.2.2.2.2.2.2.2.1⟩),(1,⟨⟨[(5,(.map 0)),(6,(.map 1)),(3,(.ptr 2 0)),(2,(.ptr 3 0)),(20,(.d (.sl (.st 7)))),(21,(.d (.int .i64))),(22,(.d (.int .i64))),(8,(.ptr 4 0)),(62,(.d .bool))],[(.mp 86 .bool),(.mp 86 .bool),(.st 8),(.st 8),(.st 7)],0,68,[]⟩,λx=>z1w n x.1 x.2.1 x.2.2.1 x.2.2.2.1 x.2.2.2.2.1 x.2.2.2.2.2.1 x.2.2.2.2.2.2.1 x.2.2.2.2.2.2.2.1 x.2.2.2.2.2.2.2.2.1 x.2.2.2.2.2.2.2.2.2.1 x.2.2.2.2.2.2.2.2.2.2.1⟩),(2,⟨⟨[(5,(.map 0)),(6,(.map 1)),(3,(.ptr 2 0)),(2,(.ptr 3 0)),(20,(.d (.sl (.st 7)))),(21,(.d (.int .i64))),(22,(.d (.int .i64)))],[(.mp 86 .bool),(.mp 86 .bool),(.st 8),(.st 8)],0,68,[]⟩,λx=>z6k n x.1 x.2.1 x.2.2.1 x.2.2.2.1 x.2.2.2.2.1 x.2.2.2.2.2.1 x.2.2.2.2.2.2.1 x.2.2.2.2.2.2.2.1 x.2.2.2.2.2.2.2.2.1⟩)]) (ann [(10,0),(25,1),(28,2)] (Tryz.f45.body.getD .skip) 0).1
noncomputable def zwy:List (FI dat):=[zfa,yzn,za6,za3,zfu]
theorem zyz:(z44).Good Tryz.prog dat (tb zwy):=FI.zhj (hD:=zz0 _) Tryz.func45 Tryz.ntmps45 Tryz.call45 (by kernel_rfl) (Qac (by kernel_rfl)) (by kernel_rfl) (λn=>by kernel_rfl) trivial (λx=>by kernel_rfl) (λ_=>rfl) ⟨λ_=>rfl,λ_=>rfl,λ_=>rfl,trivial⟩
 (λn=>λx=>(zdq.eq_2 _ _ n).trans (by kernel_rfl))
 (λn=>⟨λx=>(z6t.eq_2 _ _ _ _ _ _ _ _ _ n).trans (by kernel_rfl),
  λx=>(z1w.eq_2 _ _ _ _ _ _ _ _ _ _ _ n).trans (by kernel_rfl),
  λx=>(z6k.eq_2 _ _ _ _ _ _ _ _ _ n).trans (by kernel_rfl),
  trivial⟩)
 (λx=>by kernel_rfl)
theorem zyk:OkL Tryz.prog [z44]:=zz3 (zz0 _) (bs:=[zfa,yzn,za6,za3,zfu]) ⟨y0t,zeh,zvk,zsg,y0l,trivial⟩ zyz
theorem zm0:FOk Tryz.prog z44:=zyk.1
noncomputable def zhw:Nat->yz1->yz1->Option (Res ((List UInt8)×Unit) ((List (List UInt8))×Int))
 |0,_,_=>none
 |n+1,a0,a1=>
  (zin n a0 a1).bind λy0=>
  pIf (y0 != 0)
   (some (Res.ok ([],y0)))
   ((zdq n a0 a1).bind λy1=>
   y03 y1 (λr2=>
    (zaf n (mks (List.zip r2.1 r2.2)) (mvs (List.zip r2.1 r2.2))).bind λy3=>
    some (Res.ok (y3.1,0)))
    (λe4=>
    some (Res.pan (e4.1,()))))
def zwg:LSh:=⟨[(4,(.d (.sl .str))),(5,(.d (.int .i64)))],[],0,17,[]⟩
noncomputable def z9z:FI dat:=FI.ofP dat 18 17 0 [(.d (.st 8)),(.d (.st 8))] [] [(.d (.sl .str)),(.d (.int .i64))] [] (.iface 9 (.d .str)) [] [] zwg (R:=(List (List UInt8))×Int) (λx=>(x.1,x.2.1)) (λr=>(r.1,r.2,())) (λn x=>zhw n x.1 x.2.1)
 (λn=>[]) (ann [] (Tryz.f18.body.getD .skip) 0).1
noncomputable def zx8:List (FI dat):=[z44,z7p,z9o]
theorem zxp:(z9z).Good Tryz.prog dat (tb zx8):=FI.zhj (hD:=zz0 _) Tryz.func18 Tryz.ntmps18 Tryz.call18 (by kernel_rfl) (Qac (by kernel_rfl)) (by kernel_rfl) (λn=>by kernel_rfl) trivial (λx=>by kernel_rfl) (λ_=>rfl) trivial
 (λn=>λx=>(zhw.eq_2 _ _ n).trans (by kernel_rfl))
 (λn=>trivial)
 (λx=>by kernel_rfl)
theorem zxg:OkL Tryz.prog [z9z]:=zz3 (zz0 _) (bs:=[z44,z7p,z9o]) ⟨zm0,zmo,zqo,trivial⟩ zxp
theorem zuv:FOk Tryz.prog z9z:=zxg.1
def zkz:Nat->zz1->(List UInt8)->Option (Bool×(List UInt8))
 |0,_,_=>none
 |n+1,a0,a1=>
  some ((a0.name==a1),a1)
def y4j:LSh:=⟨[(3,(.d .bool))],[(.cells [(.d .str)])],1,8,[]⟩
noncomputable def zf4:FI dat:=FI.of dat 145 8 1 [(.d (.st 7)),(.ptr 0 0)] [(.cells [(.d .str)])] [(.d .bool)] [(.cells [(.d .str)])] false y4j (R:=Bool×(List UInt8)) (λx=>(x.1,x.2.1)) (λr=>(r.1,r.2,())) (λn x=>zkz n x.1 x.2.1)
 (λn=>[]) (ann [] (Tryz.f145.body.getD .skip) 0).1
noncomputable def y7y:List (FI dat):=[]
theorem y5i:(zf4).Good Tryz.prog dat (tb y7y):=FI.zz2 (hD:=zz0 _) Tryz.func145 Tryz.ntmps145 Tryz.call145 (by kernel_rfl) (Qac (by kernel_rfl)) (by kernel_rfl) (λn=>by kernel_rfl) (λx=>by kernel_rfl) (λ_=>rfl) trivial
 (λn=>λx=>(zkz.eq_2 _ _ n).trans (by kernel_rfl))
 (λn=>trivial)
 (λx=>.inr (by kernel_rfl))
theorem y7d:OkL Tryz.prog [zf4]:=zz3 (zz0 _) (bs:=[]) trivial y5i
theorem y1s:FOk Tryz.prog zf4:=y7d.1
mutual
def zzz:Nat->(List zz1)->(List UInt8)->Option (Int×(List UInt8))
 |0,_,_=>none
 |n+1,a0,a1=>
  yzh n 0 a0 (a0.length:Int) a1
def yzh:Nat->Int->(List zz1)->Int->(List UInt8)->Option (Int×(List UInt8))
 |0,_,_,_,_=>none
 |n+1,a0,a1,a2,a3=>
  pIf (decide (a0<a2))
   ((ix a1 a0).bind λx0=>
   (zkz n x0 a3).bind λy1=>
   pIf y1.1
    (some (a0,y1.2))
    (yzh n (IntKind.i64.wrap (a0+1)) a1 a2 y1.2))
   (some ((-1),a3))
end
def z9b:LSh:=⟨[(4,(.d (.int .i64)))],[(.cells [(.d .str)])],1,19,[]⟩
noncomputable def zzc:FI dat:=FI.of dat 102 19 1 [(.d (.sl (.st 7))),(.fn 145 [] [(.ptr 0 0)])] [(.cells [(.d .str)])] [(.d (.int .i64))] [(.cells [(.d .str)])] false z9b (R:=Int×(List UInt8)) (λx=>(x.1,x.2.1)) (λr=>(r.1,r.2,())) (λn x=>zzz n x.1 x.2.1)
 (λn=>[(0,⟨⟨[(8,(.d (.int .i64))),(0,(.d (.sl (.st 7)))),(1,(.fn 145 [] [(.ptr 0 0)])),(7,(.d (.int .i64)))],[(.cells [(.d .str)])],1,19,[]⟩,λx=>yzh n x.1 x.2.1 x.2.2.1 x.2.2.2.1⟩)]) (ann [(6,0)] (Tryz.f102.body.getD .skip) 0).1
noncomputable def z9i:List (FI dat):=[zf4]
theorem z98:(zzc).Good Tryz.prog dat (tb z9i):=FI.zz2 (hD:=zz0 _) Tryz.func102 Tryz.ntmps102 Tryz.call102 (by kernel_rfl) (Qac (by kernel_rfl)) (by kernel_rfl) (λn=>by kernel_rfl) (λx=>by kernel_rfl) (λ_=>rfl) ⟨λ_=>rfl,trivial⟩
 (λn=>λx=>(zzz.eq_2 _ _ n).trans (by kernel_rfl))
 (λn=>⟨λx=>(yzh.eq_2 _ _ _ _ n).trans (by kernel_rfl),
  trivial⟩)
 (λx=>.inr (by kernel_rfl))
theorem z9a:OkL Tryz.prog [zzc]:=zz3 (zz0 _) (bs:=[zf4]) ⟨y1s,trivial⟩ z98
theorem z7v:FOk Tryz.prog zzc:=z9a.1
def zjx:Nat->yz1->(List UInt8)->Option Int
 |0,_,_=>none
 |n+1,a0,a1=>
  (zzz n a0.rules a1).bind λy0=>
  some y0.1
def yb4:LSh:=⟨[(4,(.d (.int .i64)))],[],0,9,[]⟩
noncomputable def zjm:FI dat:=FI.of dat 93 9 0 [(.d (.st 8)),(.d .str)] [] [(.d (.int .i64))] [] true yb4 (R:=Int) (λx=>x.1) (λr=>(r,())) (λn x=>zjx n x.1 x.2.1)
 (λn=>[]) (ann [] (Tryz.f93.body.getD .skip) 0).1
noncomputable def yc4:List (FI dat):=[zzc]
theorem ycr:(zjm).Good Tryz.prog dat (tb yc4):=FI.zz2 (hD:=zz0 _) Tryz.func93 Tryz.ntmps93 Tryz.call93 (by kernel_rfl) (Qac (by kernel_rfl)) (by kernel_rfl) (λn=>by kernel_rfl) (λx=>by kernel_rfl) (λ_=>rfl) trivial
 (λn=>λx=>(zjx.eq_2 _ _ n).trans (by kernel_rfl))
 (λn=>trivial)
 (λx=>.inl rfl)
theorem yb9:OkL Tryz.prog [zjm]:=zz3 (zz0 _) (bs:=[zzc]) ⟨z7v,trivial⟩ ycr
theorem ya5:FOk Tryz.prog zjm:=yb9.1
mutual
noncomputable def zj2:Nat->yz1->(List UInt8)->Option ((List (List UInt8))×Int)
 |0,_,_=>none
 |n+1,a0,a1=>
  (z48 n a0).bind λy0=>
  pIf (y0 != 0)
   (some ([],y0))
   ((zjx n a0 a1).bind λy1=>
   pIf (decide (y1<0))
    (some ([],6))
    (z82 n 0 [a1] (mks (z61 [] a1 true)) (mvs (z61 [] a1 true)) a0))
noncomputable def z82:Nat->Int->(List (List UInt8))->(List (List UInt8))->(List Bool)->yz1->Option ((List (List UInt8))×Int)
 |0,_,_,_,_,_=>none
 |n+1,a0,a1,a2,a3,a4=>
  pIf (decide (a0<(a1.length:Int)))
   ((ix a1 a0).bind λx2=>
   (zjx n a4 x2).bind λy3=>
   (ix a4.rules y3).bind λx4=>
   (zfm n x4).bind λy5=>
   z8e n 0 y5 a0 (y5.length:Int) a1 (mks (List.zip a2 a3)) (mvs (List.zip a2 a3)) a4)
   ((zzy n a1).bind λy6=>
   some (y6,0))
noncomputable def z8e:Nat->Int->(List kzk)->Int->Int->(List (List UInt8))->(List (List UInt8))->(List Bool)->yz1->Option ((List (List UInt8))×Int)
 |0,_,_,_,_,_,_,_,_=>none
 |n+1,a0,a1,a2,a3,a4,a5,a6,a7=>
  pIf (decide (a0<a3))
   ((ix a1 a0).bind λx7=>
   pIf (!(Option.getD (z6u (List.zip a5 a6) x7.name) false))
    ((ext a4 [x7.name]).bind λx8=>
    z84 n a1 a2 a3 a0 x8 (mks (z61 (List.zip a5 a6) x7.name true)) (mvs (z61 (List.zip a5 a6) x7.name true)) a7)
    (z84 n a1 a2 a3 a0 a4 (mks (List.zip a5 a6)) (mvs (List.zip a5 a6)) a7))
   (z82 n (IntKind.i64.wrap (a2+1)) a4 (mks (List.zip a5 a6)) (mvs (List.zip a5 a6)) a7)
noncomputable def z84:Nat->(List kzk)->Int->Int->Int->(List (List UInt8))->(List (List UInt8))->(List Bool)->yz1->Option ((List (List UInt8))×Int)
 |0,_,_,_,_,_,_,_,_=>none
 |n+1,a0,a1,a2,a3,a4,a5,a6,a7=>
  z8e n (IntKind.i64.wrap (a3+1)) a0 a1 a2 a4 (mks (List.zip a5 a6)) (mvs (List.zip a5 a6)) a7
end
def y2t:LSh:=⟨[(4,(.d (.sl .str))),(5,(.d (.int .i64)))],[],0,65,[]⟩
noncomputable def zd5:FI dat:=FI.of dat 46 65 0 [(.d (.st 8)),(.d .str)] [] [(.d (.sl .str)),(.d (.int .i64))] [] true y2t (R:=(List (List UInt8))×Int) (λx=>(x.1,x.2.1)) (λr=>(r.1,r.2,())) (λn x=>zj2 n x.1 x.2.1)
 (λn=>[(0,⟨⟨[(8,(.own 0)),(7,(.map 1)),(9,(.d (.int .i64))),(2,(.ptr 2 0))],[(.acc 9 .str true),(.mp 86 .bool),(.st 8)],0,65,[]⟩,λx=>z82 n x.1 x.2.1 x.2.2.1 x.2.2.2.1 x.2.2.2.2.1⟩),(1,⟨⟨[(44,(.d (.int .i64))),(8,(.own 0)),(7,(.map 1)),(42,(.d (.sl (.st 11)))),(2,(.ptr 2 0)),(9,(.d (.int .i64))),(43,(.d (.int .i64)))],[(.acc 9 .str true),(.mp 86 .bool),(.st 8)],0,65,[]⟩,λx=>z8e n x.1 x.2.1 x.2.2.1 x.2.2.2.1 x.2.2.2.2.1 x.2.2.2.2.2.1 x.2.2.2.2.2.2.1 x.2.2.2.2.2.2.2.1⟩),(2,⟨⟨[(8,(.own 0)),(7,(.map 1)),(42,(.d (.sl (.st 11)))),(2,(.ptr 2 0)),(9,(.d (.int .i64))),(43,(.d (.int .i64))),(44,(.d (.int .i64)))],[(.acc 9 .str true),(.mp 86 .bool),(.st 8)],0,65,[]⟩,λx=>z84 n x.1 x.2.1 x.2.2.1 x.2.2.2.1 x.2.2.2.2.1 x.2.2.2.2.2.1 x.2.2.2.2.2.2.1 x.2.2.2.2.2.2.2.1⟩)]) (ann [(28,0),(40,1),(58,2)] (Tryz.f46.body.getD .skip) 0).1
noncomputable def y33:List (FI dat):=[kzq,z2a,zjm,z5d]
theorem y35:(zd5).Good Tryz.prog dat (tb y33):=FI.zz2 (hD:=zz0 _) Tryz.func46 Tryz.ntmps46 Tryz.call46 (by kernel_rfl) (Qac (by kernel_rfl)) (by kernel_rfl) (λn=>by kernel_rfl) (λx=>by kernel_rfl) (λ_=>rfl) ⟨λ_=>rfl,λ_=>rfl,λ_=>rfl,trivial⟩
 (λn=>λx=>(zj2.eq_2 _ _ n).trans (by kernel_rfl))
 (λn=>⟨λx=>(z82.eq_2 _ _ _ _ _ n).trans (by kernel_rfl),
  λx=>(z8e.eq_2 _ _ _ _ _ _ _ _ n).trans (by kernel_rfl),
  λx=>(z84.eq_2 _ _ _ _ _ _ _ _ n).trans (by kernel_rfl),
  trivial⟩)
 (λx=>.inl rfl)
theorem y0v:OkL Tryz.prog [zd5]:=zz3 (zz0 _) (bs:=[kzq,z2a,zjm,z5d]) ⟨z7a,zjl,ya5,zn8,trivial⟩ y35
theorem zxq:FOk Tryz.prog zd5:=y0v.1
def ze7:Nat->(List UInt8)->(List (List UInt8))->(List Bool)->Option (Bool×(List (List UInt8))×(List Bool))
 |0,_,_,_=>none
 |n+1,a0,a1,a2=>
  some ((Option.getD (z6u (List.zip a1 a2) a0) false),(mks (List.zip a1 a2)),(mvs (List.zip a1 a2)))
def zs9:LSh:=⟨[(3,(.d .bool))],[(.cells [(.map 1)]),(.mp 86 .bool)],2,7,[]⟩
noncomputable def z4v:FI dat:=FI.of dat 48 7 2 [(.d .str),(.ptr 0 0)] [(.cells [(.map 1)]),(.mp 86 .bool)] [(.d .bool)] [(.cells [(.map 1)]),(.mp 86 .bool)] false zs9 (R:=Bool×(List (List UInt8))×(List Bool)) (λx=>(x.1,x.2.1,x.2.2.1)) (λr=>(r.1,r.2.1,r.2.2,())) (λn x=>ze7 n x.1 x.2.1 x.2.2.1)
 (λn=>[]) (ann [] (Tryz.f48.body.getD .skip) 0).1
noncomputable def zsh:List (FI dat):=[]
theorem zqq:(z4v).Good Tryz.prog dat (tb zsh):=FI.zz2 (hD:=zz0 _) Tryz.func48 Tryz.ntmps48 Tryz.call48 (by kernel_rfl) (Qac (by kernel_rfl)) (by kernel_rfl) (λn=>by kernel_rfl) (λx=>by kernel_rfl) (λ_=>rfl) trivial
 (λn=>λx=>(ze7.eq_2 _ _ _ n).trans (by kernel_rfl))
 (λn=>trivial)
 (λx=>.inr (by kernel_rfl))
theorem zrs:OkL Tryz.prog [z4v]:=zz3 (zz0 _) (bs:=[]) trivial zqq
theorem zpn:FOk Tryz.prog z4v:=zrs.1
mutual
def z16:Nat->(List (List UInt8))->(List (List UInt8))->(List Bool)->Option (Int×(List (List UInt8))×(List Bool))
 |0,_,_,_=>none
 |n+1,a0,a1,a2=>
  kzt n 0 a0 (a0.length:Int) (mks (List.zip a1 a2)) (mvs (List.zip a1 a2))
def kzt:Nat->Int->(List (List UInt8))->Int->(List (List UInt8))->(List Bool)->Option (Int×(List (List UInt8))×(List Bool))
 |0,_,_,_,_,_=>none
 |n+1,a0,a1,a2,a3,a4=>
  pIf (decide (a0<a2))
   ((ix a1 a0).bind λx0=>
   (ze7 n x0 (mks (List.zip a3 a4)) (mvs (List.zip a3 a4))).bind λy1=>
   pIf y1.1
    (some (a0,(mks (List.zip y1.2.1 y1.2.2)),(mvs (List.zip y1.2.1 y1.2.2))))
    (kzt n (IntKind.i64.wrap (a0+1)) a1 a2 (mks (List.zip y1.2.1 y1.2.2)) (mvs (List.zip y1.2.1 y1.2.2))))
   (some ((-1),(mks (List.zip a3 a4)),(mvs (List.zip a3 a4))))
end
def zfg:LSh:=⟨[(4,(.d (.int .i64)))],[(.cells [(.map 1)]),(.mp 86 .bool)],2,19,[]⟩
noncomputable def kzp:FI dat:=FI.of dat 95 19 2 [(.d (.sl .str)),(.fn 48 [] [(.ptr 0 0)])] [(.cells [(.map 1)]),(.mp 86 .bool)] [(.d (.int .i64))] [(.cells [(.map 1)]),(.mp 86 .bool)] false zfg (R:=Int×(List (List UInt8))×(List Bool)) (λx=>(x.1,x.2.1,x.2.2.1)) (λr=>(r.1,r.2.1,r.2.2,())) (λn x=>z16 n x.1 x.2.1 x.2.2.1)
 (λn=>[(0,⟨⟨[(8,(.d (.int .i64))),(0,(.d (.sl .str))),(1,(.fn 48 [] [(.ptr 0 0)])),(7,(.d (.int .i64)))],[(.cells [(.map 1)]),(.mp 86 .bool)],2,19,[]⟩,λx=>kzt n x.1 x.2.1 x.2.2.1 x.2.2.2.1 x.2.2.2.2.1⟩)]) (ann [(6,0)] (Tryz.f95.body.getD .skip) 0).1
noncomputable def zf6:List (FI dat):=[z4v]
theorem zfj:(kzp).Good Tryz.prog dat (tb zf6):=FI.zz2 (hD:=zz0 _) Tryz.func95 Tryz.ntmps95 Tryz.call95 (by kernel_rfl) (Qac (by kernel_rfl)) (by kernel_rfl) (λn=>by kernel_rfl) (λx=>by kernel_rfl) (λ_=>rfl) ⟨λ_=>rfl,trivial⟩
 (λn=>λx=>(z16.eq_2 _ _ _ n).trans (by kernel_rfl))
 (λn=>⟨λx=>(kzt.eq_2 _ _ _ _ _ n).trans (by kernel_rfl),
  trivial⟩)
 (λx=>.inr (by kernel_rfl))
theorem zfz:OkL Tryz.prog [kzp]:=zz3 (zz0 _) (bs:=[z4v]) ⟨zpn,trivial⟩ zfj
theorem zer:FOk Tryz.prog kzp:=zfz.1
def z0l:Nat->(List (List UInt8))->(List (List UInt8))->(List Bool)->Option (Bool×(List (List UInt8))×(List Bool))
 |0,_,_,_=>none
 |n+1,a0,a1,a2=>
  (z16 n a0 (mks (List.zip a1 a2)) (mvs (List.zip a1 a2))).bind λy0=>
  some ((decide (y0.1>=0)),(mks (List.zip y0.2.1 y0.2.2)),(mvs (List.zip y0.2.1 y0.2.2)))
def zd1:LSh:=⟨[(4,(.d .bool))],[(.cells [(.map 1)]),(.mp 86 .bool)],2,9,[]⟩
noncomputable def yzk:FI dat:=FI.of dat 47 9 2 [(.d (.sl .str)),(.fn 48 [] [(.ptr 0 0)])] [(.cells [(.map 1)]),(.mp 86 .bool)] [(.d .bool)] [(.cells [(.map 1)]),(.mp 86 .bool)] false zd1 (R:=Bool×(List (List UInt8))×(List Bool)) (λx=>(x.1,x.2.1,x.2.2.1)) (λr=>(r.1,r.2.1,r.2.2,())) (λn x=>z0l n x.1 x.2.1 x.2.2.1)
 (λn=>[]) (ann [] (Tryz.f47.body.getD .skip) 0).1
noncomputable def zcp:List (FI dat):=[kzp]
theorem zd3:(yzk).Good Tryz.prog dat (tb zcp):=FI.zz2 (hD:=zz0 _) Tryz.func47 Tryz.ntmps47 Tryz.call47 (by kernel_rfl) (Qac (by kernel_rfl)) (by kernel_rfl) (λn=>by kernel_rfl) (λx=>by kernel_rfl) (λ_=>rfl) trivial
 (λn=>λx=>(z0l.eq_2 _ _ _ n).trans (by kernel_rfl))
 (λn=>trivial)
 (λx=>.inr (by kernel_rfl))
theorem zcx:OkL Tryz.prog [yzk]:=zz3 (zz0 _) (bs:=[kzp]) ⟨zer,trivial⟩ zd3
theorem zc8:FOk Tryz.prog yzk:=zcx.1
mutual
noncomputable def zgj:Nat->yz1->yz1->Option (Res ((List UInt8)×Unit) ((List (List UInt8))×Int))
 |0,_,_=>none
 |n+1,a0,a1=>
  (zin n a0 a1).bind λy0=>
  pIf (y0 != 0)
   (some (Res.ok ([],y0)))
   ((zdq n a0 a1).bind λy1=>
   y03 y1 (λr2=>
    z5i n 0 a1.rules (a1.rules.length:Int) [] [] a1 (mks (List.zip r2.1 r2.2)) (mvs (List.zip r2.1 r2.2)))
    (λe3=>
    some (Res.pan (e3.1,()))))
noncomputable def z5i:Nat->Int->(List zz1)->Int->(List (List UInt8))->(List Bool)->yz1->(List (List UInt8))->(List Bool)->Option (Res ((List UInt8)×Unit) ((List (List UInt8))×Int))
 |0,_,_,_,_,_,_,_,_=>none
 |n+1,a0,a1,a2,a3,a4,a5,a6,a7=>
  pIf (decide (a0<a2))
   ((ix a1 a0).bind λx4=>
   (zj2 n a5 x4.name).bind λy5=>
   (z0l n y5.1 (mks (List.zip a6 a7)) (mvs (List.zip a6 a7))).bind λy6=>
   pIf y6.1
    (z5j n a1 a2 a0 (mks (z61 (List.zip a3 a4) x4.name true)) (mvs (z61 (List.zip a3 a4) x4.name true)) a5 (mks (List.zip y6.2.1 y6.2.2)) (mvs (List.zip y6.2.1 y6.2.2)))
    (z5j n a1 a2 a0 (mks (List.zip a3 a4)) (mvs (List.zip a3 a4)) a5 (mks (List.zip y6.2.1 y6.2.2)) (mvs (List.zip y6.2.1 y6.2.2))))
   ((zaf n (mks (List.zip a3 a4)) (mvs (List.zip a3 a4))).bind λy7=>
   some (Res.ok (y7.1,0)))
noncomputable def z5j:Nat->(List zz1)->Int->Int->(List (List UInt8))->(List Bool)->yz1->(List (List UInt8))->(List Bool)->Option (Res ((List UInt8)×Unit) ((List (List UInt8))×Int))
 |0,_,_,_,_,_,_,_,_=>none
 |n+1,a0,a1,a2,a3,a4,a5,a6,a7=>
  z5i n (IntKind.i64.wrap (a2+1)) a0 a1 (mks (List.zip a3 a4)) (mvs (List.zip a3 a4)) a5 (mks (List.zip a6 a7)) (mvs (List.zip a6 a7))
end
def zvj:LSh:=⟨[(4,(.d (.sl .str))),(5,(.d (.int .i64)))],[],0,46,[]⟩
noncomputable def z7e:FI dat:=FI.ofP dat 19 46 0 [(.d (.st 8)),(.d (.st 8))] [] [(.d (.sl .str)),(.d (.int .i64))] [] (.iface 9 (.d .str)) [] [] zvj (R:=(List (List UInt8))×Int) (λx=>(x.1,x.2.1)) (λr=>(r.1,r.2,())) (λn x=>zgj n x.1 x.2.1)
 (λn=>[(0,⟨⟨[(26,(.d (.int .i64))),(8,(.map 0)),(7,(.ptr 1 0)),(3,(.ptr 2 0)),(24,(.d (.sl (.st 7)))),(25,(.d (.int .i64)))],[(.mp 86 .bool),(.cells [(.map 3)]),(.st 8),(.mp 86 .bool)],0,46,[]⟩,λx=>z5i n x.1 x.2.1 x.2.2.1 x.2.2.2.1 x.2.2.2.2.1 x.2.2.2.2.2.1 x.2.2.2.2.2.2.1 x.2.2.2.2.2.2.2.1⟩),(1,⟨⟨[(8,(.map 0)),(7,(.ptr 1 0)),(3,(.ptr 2 0)),(24,(.d (.sl (.st 7)))),(25,(.d (.int .i64))),(26,(.d (.int .i64)))],[(.mp 86 .bool),(.cells [(.map 3)]),(.st 8),(.mp 86 .bool)],0,46,[]⟩,λx=>z5j n x.1 x.2.1 x.2.2.1 x.2.2.2.1 x.2.2.2.2.1 x.2.2.2.2.2.1 x.2.2.2.2.2.2.1 x.2.2.2.2.2.2.2.1⟩)]) (ann [(20,0),(38,1)] (Tryz.f19.body.getD .skip) 0).1
noncomputable def zuu:List (FI dat):=[z44,yzk,z7p,z9o,zd5]
theorem zv9:(z7e).Good Tryz.prog dat (tb zuu):=FI.zhj (hD:=zz0 _) Tryz.func19 Tryz.ntmps19 Tryz.call19 (by kernel_rfl) (Qac (by kernel_rfl)) (by kernel_rfl) (λn=>by kernel_rfl) trivial (λx=>by kernel_rfl) (λ_=>rfl) ⟨λ_=>rfl,λ_=>rfl,trivial⟩
 (λn=>λx=>(zgj.eq_2 _ _ n).trans (by kernel_rfl))
 (λn=>⟨λx=>(z5i.eq_2 _ _ _ _ _ _ _ _ n).trans (by kernel_rfl),
  λx=>(z5j.eq_2 _ _ _ _ _ _ _ _ n).trans (by kernel_rfl),
  trivial⟩)
 (λx=>by kernel_rfl)
theorem zv1:OkL Tryz.prog [z7e]:=zz3 (zz0 _) (bs:=[z44,yzk,z7p,z9o,zd5]) ⟨zm0,zc8,zmo,zqo,zxq,trivial⟩ zv9
theorem zst:FOk Tryz.prog z7e:=zv1.1
mutual
def zh3:Nat->(List (List UInt8))->(List (List UInt8))->Option Bool
 |0,_,_=>none
 |n+1,a0,a1=>
  pIf ((a0.length:Int) != (a1.length:Int))
   (some false)
   (zbd n 0 a1 a0)
def zbd:Nat->Int->(List (List UInt8))->(List (List UInt8))->Option Bool
 |0,_,_,_=>none
 |n+1,a0,a1,a2=>
  pIf (decide (a0<(a2.length:Int)))
   ((ix a2 a0).bind λx0=>
   (ix a1 a0).bind λx1=>
   pIf (!(x0==x1))
    (some false)
    (zbd n (IntKind.i64.wrap (a0+1)) a1 a2))
   (some true)
end
def y4f:LSh:=⟨[(4,(.d .bool))],[],0,26,[]⟩
noncomputable def zfb:FI dat:=FI.of dat 20 26 0 [(.d (.sl .str)),(.d (.sl .str))] [] [(.d .bool)] [] true y4f (R:=Bool) (λx=>x.1) (λr=>(r,())) (λn x=>zh3 n x.1 x.2.1)
 (λn=>[(0,⟨⟨[(5,(.d (.int .i64))),(1,(.d (.sl .str))),(0,(.d (.sl .str)))],[],0,26,[]⟩,λx=>zbd n x.1 x.2.1 x.2.2.1⟩)]) (ann [(14,0)] (Tryz.f20.body.getD .skip) 0).1
noncomputable def y44:List (FI dat):=[]
theorem y5o:(zfb).Good Tryz.prog dat (tb y44):=FI.zz2 (hD:=zz0 _) Tryz.func20 Tryz.ntmps20 Tryz.call20 (by kernel_rfl) (Qac (by kernel_rfl)) (by kernel_rfl) (λn=>by kernel_rfl) (λx=>by kernel_rfl) (λ_=>rfl) ⟨λ_=>rfl,trivial⟩
 (λn=>λx=>(zh3.eq_2 _ _ n).trans (by kernel_rfl))
 (λn=>⟨λx=>(zbd.eq_2 _ _ _ n).trans (by kernel_rfl),
  trivial⟩)
 (λx=>.inl rfl)
theorem y5m:OkL Tryz.prog [zfb]:=zz3 (zz0 _) (bs:=[]) trivial y5o
theorem y2s:FOk Tryz.prog zfb:=y5m.1
mutual
def zgx:Nat->yz0->yz0->Option Bool
 |0,_,_=>none
 |n+1,a0,a1=>
  pIf (a0.kind != a1.kind)
   (z1t n true a1.re a0.re)
   (pIf (!((a0.num.num==a1.num.num)&&((a0.num.den==a1.num.den)&&true)))
     (z1t n true a1.re a0.re)
     (pIf (!(a0.truth==a1.truth))
       (z1t n true a1.re a0.re)
       (pIf (!(a0.str==a1.str))
         (z1t n true a1.re a0.re)
         (z1t n ((a0.list.length:Int) != (a1.list.length:Int)) a1.re a0.re))))
def z1t:Nat->Bool->yz0->yz0->Option Bool
 |0,_,_,_=>none
 |n+1,a0,a1,a2=>
  pIf a0
   (some false)
   (zax n 0 a1.re a2.re)
def zax:Nat->Int->yz0->yz0->Option Bool
 |0,_,_,_=>none
 |n+1,a0,a1,a2=>
  pIf (decide (a0<(a2.list.length:Int)))
   ((ix a2.list a0).bind λx0=>
   (ix a1.list a0).bind λx1=>
   (zgx n x0.re x1.re).bind λy2=>
   pIf (!y2)
    (some false)
    (zax n (IntKind.i64.wrap (a0+1)) a1.re a2.re))
   (some true)
end
def y6b:LSh:=⟨[(4,(.d .bool))],[],0,60,[]⟩
noncomputable def zbq:FI dat:=FI.of dat 73 60 0 [(.d (.st 1)),(.d (.st 1))] [] [(.d .bool)] [] true y6b (R:=Bool) (λx=>x.1) (λr=>(r,())) (λn x=>zgx n x.1 x.2.1)
 (λn=>[(0,⟨⟨[(3,(.ptr 0 0)),(2,(.ptr 1 0)),(40,(.d .bool))],[(.st 1),(.st 1)],0,60,[]⟩,λx=>z1t n x.1 x.2.1 x.2.2.1⟩),(1,⟨⟨[(5,(.d (.int .i64))),(3,(.ptr 0 0)),(2,(.ptr 1 0))],[(.st 1),(.st 1)],0,60,[]⟩,λx=>zax n x.1 x.2.1 x.2.2.1⟩)]) (ann [(5,0),(14,1)] (Tryz.f73.body.getD .skip) 0).1
noncomputable def y64:List (FI dat):=[zbq]++[]
theorem y6c:(zbq).Good Tryz.prog dat (tb y64):=FI.zz2 (hD:=zz0 _) Tryz.func73 Tryz.ntmps73 Tryz.call73 (by kernel_rfl) (Qac (by kernel_rfl)) (by kernel_rfl) (λn=>by kernel_rfl) (λx=>by kernel_rfl) (λ_=>rfl) ⟨λ_=>rfl,λ_=>rfl,trivial⟩
 (λn=>λx=>(zgx.eq_2 _ _ n).trans (by kernel_rfl))
 (λn=>⟨λx=>(z1t.eq_2 _ _ _ n).trans (by kernel_rfl),
  λx=>(zax.eq_2 _ _ _ n).trans (by kernel_rfl),
  trivial⟩)
 (λx=>.inl rfl)
theorem y4n:OkL Tryz.prog [zbq]:=zg4 (zz0 _) (bs:=[]) trivial ⟨y6c,trivial⟩
theorem y2m:FOk Tryz.prog zbq:=y4n.1
mutual
def z7l:Nat->kz0->kz0->Option Bool
 |0,_,_=>none
 |n+1,a0,a1=>
  pIf (a0.op != a1.op)
   (z3x n true a1.re a0.re)
   (pIf (!(a0.name==a1.name))
     (z3x n true a1.re a0.re)
     ((zgx n a0.value.re a1.value.re).bind λy0=>
     pIf (!y0)
      (z3x n true a1.re a0.re)
      (z3x n ((a0.args.length:Int) != (a1.args.length:Int)) a1.re a0.re)))
def z3x:Nat->Bool->kz0->kz0->Option Bool
 |0,_,_,_=>none
 |n+1,a0,a1,a2=>
  pIf a0
   (some false)
   (zc0 n 0 a1.re a2.re)
def zc0:Nat->Int->kz0->kz0->Option Bool
 |0,_,_,_=>none
 |n+1,a0,a1,a2=>
  pIf (decide (a0<(a2.args.length:Int)))
   ((ix a2.args a0).bind λx1=>
   (ix a1.args a0).bind λx2=>
   (z7l n x1.re x2.re).bind λy3=>
   pIf (!y3)
    (some false)
    (zc0 n (IntKind.i64.wrap (a0+1)) a1.re a2.re))
   (some true)
end
def y7q:LSh:=⟨[(4,(.d .bool))],[],0,54,[]⟩
noncomputable def z1z:FI dat:=FI.of dat 32 54 0 [(.d (.st 2)),(.d (.st 2))] [] [(.d .bool)] [] true y7q (R:=Bool) (λx=>x.1) (λr=>(r,())) (λn x=>z7l n x.1 x.2.1)
 (λn=>[(0,⟨⟨[(3,(.ptr 0 0)),(2,(.ptr 1 0)),(34,(.d .bool))],[(.st 2),(.st 2)],0,54,[]⟩,λx=>z3x n x.1 x.2.1 x.2.2.1⟩),(1,⟨⟨[(5,(.d (.int .i64))),(3,(.ptr 0 0)),(2,(.ptr 1 0))],[(.st 2),(.st 2)],0,54,[]⟩,λx=>zc0 n x.1 x.2.1 x.2.2.1⟩)]) (ann [(5,0),(14,1)] (Tryz.f32.body.getD .skip) 0).1
noncomputable def y54:List (FI dat):=[z1z]++[zbq]
theorem y59:(z1z).Good Tryz.prog dat (tb y54):=FI.zz2 (hD:=zz0 _) Tryz.func32 Tryz.ntmps32 Tryz.call32 (by kernel_rfl) (Qac (by kernel_rfl)) (by kernel_rfl) (λn=>by kernel_rfl) (λx=>by kernel_rfl) (λ_=>rfl) ⟨λ_=>rfl,λ_=>rfl,trivial⟩
 (λn=>λx=>(z7l.eq_2 _ _ n).trans (by kernel_rfl))
 (λn=>⟨λx=>(z3x.eq_2 _ _ _ n).trans (by kernel_rfl),
  λx=>(zc0.eq_2 _ _ _ n).trans (by kernel_rfl),
  trivial⟩)
 (λx=>.inl rfl)
theorem y6p:OkL Tryz.prog [z1z]:=zg4 (zz0 _) (bs:=[zbq]) ⟨y2m,trivial⟩ ⟨y59,trivial⟩
theorem zkl:FOk Tryz.prog z1z:=y6p.1
def zh0:Nat->(List kz0)->Option kz0
 |0,_=>none
 |n+1,a0=>
  some (kz0.mk 18 (yz0.mk 0 (yz2.mk 0 0) false [] []) [] a0)
def y5e:LSh:=⟨[(2,(.ptr 0 0))],[(.st 2)],0,5,[]⟩
noncomputable def zg3:FI dat:=FI.of dat 116 5 0 [(.d (.sl (.st 2)))] [] [(.d (.st 2))] [] true y5e (R:=kz0) (λx=>x.1) (λr=>(r,())) (λn x=>zh0 n x.1)
 (λn=>[]) (ann [] (Tryz.f116.body.getD .skip) 0).1
noncomputable def y4k:List (FI dat):=[]
theorem y67:(zg3).Good Tryz.prog dat (tb y4k):=FI.zz2 (hD:=zz0 _) Tryz.func116 Tryz.ntmps116 Tryz.call116 (by kernel_rfl) (Qac (by kernel_rfl)) (by kernel_rfl) (λn=>by kernel_rfl) (λx=>by kernel_rfl) (λ_=>rfl) trivial
 (λn=>λx=>(zh0.eq_2 _ n).trans (by kernel_rfl))
 (λn=>trivial)
 (λx=>.inl rfl)
theorem y6m:OkL Tryz.prog [zg3]:=zz3 (zz0 _) (bs:=[]) trivial y67
theorem y0y:FOk Tryz.prog zg3:=y6m.1
def z6m:Nat->(List kz0)->(List kz0)->Option Bool
 |0,_,_=>none
 |n+1,a0,a1=>
  (zh0 n a0).bind λy0=>
  (zh0 n a1).bind λy1=>
  (z7l n y0.re y1.re).bind λy2=>
  some y2
def zr6:LSh:=⟨[(4,(.d .bool))],[],0,10,[]⟩
noncomputable def z50:FI dat:=FI.of dat 167 10 0 [(.d (.sl (.st 2))),(.d (.sl (.st 2)))] [] [(.d .bool)] [] true zr6 (R:=Bool) (λx=>x.1) (λr=>(r,())) (λn x=>z6m n x.1 x.2.1)
 (λn=>[]) (ann [] (Tryz.f167.body.getD .skip) 0).1
noncomputable def zrf:List (FI dat):=[zg3,z1z]
theorem zrg:(z50).Good Tryz.prog dat (tb zrf):=FI.zz2 (hD:=zz0 _) Tryz.func167 Tryz.ntmps167 Tryz.call167 (by kernel_rfl) (Qac (by kernel_rfl)) (by kernel_rfl) (λn=>by kernel_rfl) (λx=>by kernel_rfl) (λ_=>rfl) trivial
 (λn=>λx=>(z6m.eq_2 _ _ n).trans (by kernel_rfl))
 (λn=>trivial)
 (λx=>.inl rfl)
theorem zql:OkL Tryz.prog [z50]:=zz3 (zz0 _) (bs:=[zg3,z1z]) ⟨y0y,zkl,trivial⟩ zrg
theorem zpj:FOk Tryz.prog z50:=zql.1
mutual
def za7:Nat->yz3->yz3->Option Bool
 |0,_,_=>none
 |n+1,a0,a1=>
  pIf (a0.kind != a1.kind)
   (yzu n true a1 a0)
   (pIf (a0.axis != a1.axis)
     (yzu n true a1 a0)
     (pIf (!(a0.name==a1.name))
       (yzu n true a1 a0)
       ((z6m n a0.args a1.args).bind λy0=>
       pIf (!y0)
        (yzu n true a1 a0)
        (yzu n ((a0.items.length:Int) != (a1.items.length:Int)) a1 a0))))
def yzu:Nat->Bool->yz3->yz3->Option Bool
 |0,_,_,_=>none
 |n+1,a0,a1,a2=>
  pIf a0
   (some false)
   (z2o n 0 a1 a2)
def z2o:Nat->Int->yz3->yz3->Option Bool
 |0,_,_,_=>none
 |n+1,a0,a1,a2=>
  pIf (decide (a0<(a2.items.length:Int)))
   ((ix a2.items a0).bind λx1=>
   (ix a1.items a0).bind λx2=>
   pIf (x1.kind != x2.kind)
    (z0x n a0 true a1 a2)
    ((ix a2.items a0).bind λx3=>
    (ix a1.items a0).bind λx4=>
    pIf (!(x3.name==x4.name))
     (z0x n a0 true a1 a2)
     ((ix a2.items a0).bind λx5=>
     (ix a1.items a0).bind λx6=>
     (z6m n x5.args x6.args).bind λy7=>
     z0x n a0 (!y7) a1 a2)))
   (some true)
def z0x:Nat->Int->Bool->yz3->yz3->Option Bool
 |0,_,_,_,_=>none
 |n+1,a0,a1,a2,a3=>
  pIf a1
   (some false)
   (z2o n (IntKind.i64.wrap (a0+1)) a2 a3)
end
def zop:LSh:=⟨[(4,(.d .bool))],[],0,93,[]⟩
noncomputable def z3h:FI dat:=FI.of dat 125 93 0 [(.d (.st 5)),(.d (.st 5))] [] [(.d .bool)] [] true zop (R:=Bool) (λx=>x.1) (λr=>(r,())) (λn x=>za7 n x.1 x.2.1)
 (λn=>[(0,⟨⟨[(3,(.ptr 0 0)),(2,(.ptr 1 0)),(41,(.d .bool))],[(.st 5),(.st 5)],0,93,[]⟩,λx=>yzu n x.1 x.2.1 x.2.2.1⟩),(1,⟨⟨[(5,(.d (.int .i64))),(3,(.ptr 0 0)),(2,(.ptr 1 0))],[(.st 5),(.st 5)],0,93,[]⟩,λx=>z2o n x.1 x.2.1 x.2.2.1⟩),(2,⟨⟨[(3,(.ptr 0 0)),(2,(.ptr 1 0)),(5,(.d (.int .i64))),(92,(.d .bool))],[(.st 5),(.st 5)],0,93,[]⟩,λx=>z0x n x.1 x.2.1 x.2.2.1 x.2.2.2.1⟩)]) (ann [(5,0),(14,1),(25,2)] (Tryz.f125.body.getD .skip) 0).1
noncomputable def zo3:List (FI dat):=[z50]
theorem zoc:(z3h).Good Tryz.prog dat (tb zo3):=FI.zz2 (hD:=zz0 _) Tryz.func125 Tryz.ntmps125 Tryz.call125 (by kernel_rfl) (Qac (by kernel_rfl)) (by kernel_rfl) (λn=>by kernel_rfl) (λx=>by kernel_rfl) (λ_=>rfl) ⟨λ_=>rfl,λ_=>rfl,λ_=>rfl,trivial⟩
 (λn=>λx=>(za7.eq_2 _ _ n).trans (by kernel_rfl))
 (λn=>⟨λx=>(yzu.eq_2 _ _ _ n).trans (by kernel_rfl),
  λx=>(z2o.eq_2 _ _ _ n).trans (by kernel_rfl),
  λx=>(z0x.eq_2 _ _ _ _ n).trans (by kernel_rfl),
  trivial⟩)
 (λx=>.inl rfl)
theorem zob:OkL Tryz.prog [z3h]:=zz3 (zz0 _) (bs:=[z50]) ⟨zpj,trivial⟩ zoc
theorem zng:FOk Tryz.prog z3h:=zob.1
mutual
def ze8:Nat->kz9->kz9->Option Bool
 |0,_,_=>none
 |n+1,a0,a1=>
  pIf (a0.weight != a1.weight)
   (z1o n true a1.re a0.re)
   ((z7l n a0.when_.re a1.when_.re).bind λy0=>
   pIf (!y0)
    (z1o n true a1.re a0.re)
    (z1o n ((a0.do_.length:Int) != (a1.do_.length:Int)) a1.re a0.re))
def z1o:Nat->Bool->kz9->kz9->Option Bool
 |0,_,_,_=>none
 |n+1,a0,a1,a2=>
  pIf a0
   (some false)
   (z4c n 0 a1.re a2.re)
def z4c:Nat->Int->kz9->kz9->Option Bool
 |0,_,_,_=>none
 |n+1,a0,a1,a2=>
  pIf (decide (a0<(a2.do_.length:Int)))
   ((ix a2.do_ a0).bind λx1=>
   (ix a1.do_ a0).bind λx2=>
   (za7 n x1 x2).bind λy3=>
   pIf (!y3)
    (some false)
    (z4c n (IntKind.i64.wrap (a0+1)) a1.re a2.re))
   (some true)
end
def zr2:LSh:=⟨[(4,(.d .bool))],[],0,47,[]⟩
noncomputable def z4u:FI dat:=FI.of dat 74 47 0 [(.d (.st 6)),(.d (.st 6))] [] [(.d .bool)] [] true zr2 (R:=Bool) (λx=>x.1) (λr=>(r,())) (λn x=>ze8 n x.1 x.2.1)
 (λn=>[(0,⟨⟨[(3,(.ptr 0 0)),(2,(.ptr 1 0)),(27,(.d .bool))],[(.st 6),(.st 6)],0,47,[]⟩,λx=>z1o n x.1 x.2.1 x.2.2.1⟩),(1,⟨⟨[(5,(.d (.int .i64))),(3,(.ptr 0 0)),(2,(.ptr 1 0))],[(.st 6),(.st 6)],0,47,[]⟩,λx=>z4c n x.1 x.2.1 x.2.2.1⟩)]) (ann [(5,0),(14,1)] (Tryz.f74.body.getD .skip) 0).1
noncomputable def zs0:List (FI dat):=[z1z,z3h]
theorem zqt:(z4u).Good Tryz.prog dat (tb zs0):=FI.zz2 (hD:=zz0 _) Tryz.func74 Tryz.ntmps74 Tryz.call74 (by kernel_rfl) (Qac (by kernel_rfl)) (by kernel_rfl) (λn=>by kernel_rfl) (λx=>by kernel_rfl) (λ_=>rfl) ⟨λ_=>rfl,λ_=>rfl,trivial⟩
 (λn=>λx=>(ze8.eq_2 _ _ n).trans (by kernel_rfl))
 (λn=>⟨λx=>(z1o.eq_2 _ _ _ n).trans (by kernel_rfl),
  λx=>(z4c.eq_2 _ _ _ n).trans (by kernel_rfl),
  trivial⟩)
 (λx=>.inl rfl)
theorem zr5:OkL Tryz.prog [z4u]:=zz3 (zz0 _) (bs:=[z1z,z3h]) ⟨zkl,zng,trivial⟩ zqt
theorem zqf:FOk Tryz.prog z4u:=zr5.1
end Go.Proofs.YthlmhmebajjkbaaGreatDoor
