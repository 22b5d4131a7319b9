/-
  Go functions as Lean functions, by a program of this repo.
-/
import Derived.Test.YthlmhmebajjkbaaGreatDoorOwn2
import Derived.Test.YthlmhmebajjkbaaGreatDoorLib2
import Derived.Test.YthlmhmebajjkbaaGreatDoorProg
import Derived.Test.YthlmhmebajjkbaaGreatDoorLib8
import Derived.KernelRfl
namespace Go.Proofs.YthlmhmebajjkbaaGreatDoor
open Go Go.Ab
set_option linter.unusedVariables false
set_option maxRecDepth 100000
set_option maxHeartbeats 4000000
mutual
def ze9:Nat->zz1->zz1->Option Bool
 |0,_,_=>none
 |n+1,a0,a1=>
  pIf (!(a0.name==a1.name))
   (z1q n true a1 a0)
   (pIf ((a0.params.length:Int) != (a1.params.length:Int))
     (z1q n true a1 a0)
     (z1q n ((a0.cases.length:Int) != (a1.cases.length:Int)) a1 a0))
def z1q:Nat->Bool->zz1->zz1->Option Bool
 |0,_,_,_=>none
 |n+1,a0,a1,a2=>
  pIf a0
   (some false)
   (z4h n 0 a1 a2)
def z4h:Nat->Int->zz1->zz1->Option Bool
 |0,_,_,_=>none
 |n+1,a0,a1,a2=>
  pIf (decide (a0<(a2.params.length:Int)))
   ((ix a2.params a0).bind λx0=>
   (ix a1.params a0).bind λx1=>
   pIf (!(x0==x1))
    (some false)
    (z4h n (IntKind.i64.wrap (a0+1)) a1 a2))
   (z4f n 0 a1 a2)
def z4f:Nat->Int->zz1->zz1->Option Bool
 |0,_,_,_=>none
 |n+1,a0,a1,a2=>
  pIf (decide (a0<(a2.cases.length:Int)))
   ((ix a2.cases a0).bind λx2=>
   (ix a1.cases a0).bind λx3=>
   (ze8 n x2.re x3.re).bind λy4=>
   pIf (!y4)
    (some false)
    (z4f n (IntKind.i64.wrap (a0+1)) a1 a2))
   (some true)
end
def zrr:LSh:=⟨[(4,(.d .bool))],[],0,67,[]⟩
noncomputable def z52:FI dat:=FI.of dat 33 67 0 [(.d (.st 7)),(.d (.st 7))] [] [(.d .bool)] [] true zrr (R:=Bool) (λx=>x.1) (λr=>(r,())) (λn x=>ze9 n x.1 x.2.1)
 (λn=>[(0,⟨⟨[(3,(.ptr 0 0)),(2,(.ptr 1 0)),(29,(.d .bool))],[(.st 7),(.st 7)],0,67,[]⟩,λx=>z1q n x.1 x.2.1 x.2.2.1⟩),(1,⟨⟨[(5,(.d (.int .i64))),(3,(.ptr 0 0)),(2,(.ptr 1 0))],[(.st 7),(.st 7)],0,67,[]⟩,λx=>z4h n x.1 x.2.1 x.2.2.1⟩),(2,⟨⟨[(6,(.d (.int .i64))),(3,(.ptr 0 0)),(2,(.ptr 1 0))],[(.st 7),(.st 7)],0,67,[]⟩,λx=>z4f n x.1 x.2.1 x.2.2.1⟩)]) (ann [(5,0),(14,1),(35,2)] (Tryz.f33.body.getD .skip) 0).1
noncomputable def zrv:List (FI dat):=[z4u]
theorem zqu:(z52).Good Tryz.prog dat (tb zrv):=FI.zz2 (hD:=zz0 _) Tryz.func33 Tryz.ntmps33 Tryz.call33 (by kernel_rfl) (Qac (by kernel_rfl)) (by kernel_rfl) (λn=>by kernel_rfl) (λx=>by kernel_rfl) (λ_=>rfl) ⟨λ_=>rfl,λ_=>rfl,λ_=>rfl,trivial⟩
 (λn=>λx=>(ze9.eq_2 _ _ n).trans (by kernel_rfl))
 (λn=>⟨λx=>(z1q.eq_2 _ _ _ n).trans (by kernel_rfl),
  λx=>(z4h.eq_2 _ _ _ n).trans (by kernel_rfl),
  λx=>(z4f.eq_2 _ _ _ n).trans (by kernel_rfl),
  trivial⟩)
 (λx=>.inl rfl)
theorem zr9:OkL Tryz.prog [z52]:=zz3 (zz0 _) (bs:=[z4u]) ⟨zqf,trivial⟩ zqu
theorem zqd:FOk Tryz.prog z52:=zr9.1
mutual
def zkm:Nat->yz1->yz1->Option Bool
 |0,_,_=>none
 |n+1,a0,a1=>
  pIf ((a0.attrs.length:Int) != (a1.attrs.length:Int))
   (zc2 n true a1 a0)
   (zc2 n ((a0.rules.length:Int) != (a1.rules.length:Int)) a1 a0)
def zc2:Nat->Bool->yz1->yz1->Option Bool
 |0,_,_,_=>none
 |n+1,a0,a1,a2=>
  pIf a0
   (some false)
   (zbn n 0 a1 a2)
def zbn:Nat->Int->yz1->yz1->Option Bool
 |0,_,_,_=>none
 |n+1,a0,a1,a2=>
  pIf (decide (a0<(a2.attrs.length:Int)))
   ((ix a2.attrs a0).bind λx0=>
   (ix a1.attrs a0).bind λx1=>
   pIf (!(x0.name==x1.name))
    (zbk n a0 true a1 a2)
    ((ix a2.attrs a0).bind λx2=>
    (ix a1.attrs a0).bind λx3=>
    (z7l n x2.value.re x3.value.re).bind λy4=>
    zbk n a0 (!y4) a1 a2))
   (zbs n 0 a1 a2)
def zbk:Nat->Int->Bool->yz1->yz1->Option Bool
 |0,_,_,_,_=>none
 |n+1,a0,a1,a2,a3=>
  pIf a1
   (some false)
   (zbn n (IntKind.i64.wrap (a0+1)) a2 a3)
def zbs:Nat->Int->yz1->yz1->Option Bool
 |0,_,_,_=>none
 |n+1,a0,a1,a2=>
  pIf (decide (a0<(a2.rules.length:Int)))
   ((ix a2.rules a0).bind λx5=>
   (ix a1.rules a0).bind λx6=>
   (ze9 n x5 x6).bind λy7=>
   pIf (!y7)
    (some false)
    (zbs n (IntKind.i64.wrap (a0+1)) a1 a2))
   (some true)
end
def y7i:LSh:=⟨[(4,(.d .bool))],[],0,78,[]⟩
noncomputable def zf7:FI dat:=FI.of dat 15 78 0 [(.d (.st 8)),(.d (.st 8))] [] [(.d .bool)] [] true y7i (R:=Bool) (λx=>x.1) (λr=>(r,())) (λn x=>zkm n x.1 x.2.1)
 (λn=>[(0,⟨⟨[(3,(.ptr 0 0)),(2,(.ptr 1 0)),(22,(.d .bool))],[(.st 8),(.st 8)],0,78,[]⟩,λx=>zc2 n x.1 x.2.1 x.2.2.1⟩),(1,⟨⟨[(5,(.d (.int .i64))),(3,(.ptr 0 0)),(2,(.ptr 1 0))],[(.st 8),(.st 8)],0,78,[]⟩,λx=>zbn n x.1 x.2.1 x.2.2.1⟩),(2,⟨⟨[(3,(.ptr 0 0)),(2,(.ptr 1 0)),(5,(.d (.int .i64))),(58,(.d .bool))],[(.st 8),(.st 8)],0,78,[]⟩,λx=>zbk n x.1 x.2.1 x.2.2.1 x.2.2.2.1⟩),(3,⟨⟨[(6,(.d (.int .i64))),(3,(.ptr 0 0)),(2,(.ptr 1 0))],[(.st 8),(.st 8)],0,78,[]⟩,λx=>zbs n x.1 x.2.1 x.2.2.1⟩)]) (ann [(5,0),(14,1),(25,2),(35,3)] (Tryz.f15.body.getD .skip) 0).1
noncomputable def y7r:List (FI dat):=[z1z,z52]
theorem y7p:(zf7).Good Tryz.prog dat (tb y7r):=FI.zz2 (hD:=zz0 _) Tryz.func15 Tryz.ntmps15 Tryz.call15 (by kernel_rfl) (Qac (by kernel_rfl)) (by kernel_rfl) (λn=>by kernel_rfl) (λx=>by kernel_rfl) (λ_=>rfl) ⟨λ_=>rfl,λ_=>rfl,λ_=>rfl,λ_=>rfl,trivial⟩
 (λn=>λx=>(zkm.eq_2 _ _ n).trans (by kernel_rfl))
 (λn=>⟨λx=>(zc2.eq_2 _ _ _ n).trans (by kernel_rfl),
  λx=>(zbn.eq_2 _ _ _ n).trans (by kernel_rfl),
  λx=>(zbk.eq_2 _ _ _ _ n).trans (by kernel_rfl),
  λx=>(zbs.eq_2 _ _ _ n).trans (by kernel_rfl),
  trivial⟩)
 (λx=>.inl rfl)
theorem y53:OkL Tryz.prog [zf7]:=zz3 (zz0 _) (bs:=[z1z,z52]) ⟨zkl,zqd,trivial⟩ y7p
theorem y30:FOk Tryz.prog zf7:=y53.1
noncomputable def z7r:Nat->Option (Res ((List UInt8)×Unit) Bool)
 |0=>none
 |n+1=>
  (zzg n 1).bind λy0=>
  (zzg n 2).bind λy1=>
  (zhw n y0 y1).bind λy2=>
  y03 y2 (λr3=>
   (zzg n 1).bind λy4=>
   (zzg n 2).bind λy5=>
   (zgj n y4 y5).bind λy6=>
   y03 y6 (λr7=>
    (z5x n [(zz4.mk [97,47,98,91,49,93,47,99] 1 [])] [98] [100]).bind λy8=>
    (zzg n 1).bind λy9=>
    (zzg n 2).bind λy10=>
    (ix y10.rules 2).bind λx11=>
    (zzq n y9 [(kz3.mk 3 [] [] x11 (kz0.mk 0 (yz0.mk 0 (yz2.mk 0 0) false [] []) [] []))]).bind λy12=>
    pIf (r3.2==0)
     ((zh3 n r3.1 [[99]]).bind λy13=>
     pIf y13
      (pIf (r7.2==0)
        ((zh3 n r7.1 [[97],[98],[99]]).bind λy14=>
        pIf y14
         (pIf (y8.2==0)
           (pIf ((y8.1.length:Int)==1)
             ((ix y8.1 0).bind λx15=>
             pIf (x15.path==[97,47,100,91,49,93,47,99])
              (pIf (y12.1==0)
                ((zzg n 2).bind λy16=>
                (zkm n y12.2 y16).bind λy17=>
                some (Res.ok y17))
                (some (Res.ok false)))
              (some (Res.ok false)))
             (some (Res.ok false)))
           (some (Res.ok false)))
         (some (Res.ok false)))
        (some (Res.ok false)))
      (some (Res.ok false)))
     (some (Res.ok false)))
    (λe18=>
    some (Res.pan (e18.1,()))))
   (λe19=>
   some (Res.pan (e19.1,())))
def zm8:LSh:=⟨[(0,(.d .bool))],[],0,79,[]⟩
noncomputable def z2c:FI dat:=FI.ofP dat 11 79 0 [] [] [(.d .bool)] [] (.iface 9 (.d .str)) [] [] zm8 (R:=Bool) (λx=>x.1) (λr=>(r,())) (λn x=>z7r n)
 (λn=>[]) (ann [] (Tryz.f11.body.getD .skip) 0).1
noncomputable def zmh:List (FI dat):=[z9z,z7e,z08,z5c,z73,zfb,zf7]
theorem zn5:(z2c).Good Tryz.prog dat (tb zmh):=FI.zhj (hD:=zz0 _) Tryz.func11 Tryz.ntmps11 Tryz.call11 (by kernel_rfl) (Qac (by kernel_rfl)) (by kernel_rfl) (λn=>by kernel_rfl) trivial (λx=>by kernel_rfl) (λ_=>rfl) trivial
 (λn=>λx=>(z7r.eq_2 n).trans (by kernel_rfl))
 (λn=>trivial)
 (λx=>by kernel_rfl)
theorem zn6:OkL Tryz.prog [z2c]:=zz3 (zz0 _) (bs:=[z9z,z7e,z08,z5c,z73,zfb,zf7]) ⟨zuv,zst,zgg,zmf,zpf,y2s,y30,trivial⟩ zn5
theorem zm2:FOk Tryz.prog z2c:=zn6.1
noncomputable def z0k:Nat->Option (Res ((List UInt8)×Unit) Bool)
 |0=>none
 |n+1=>
  (zzg n 1).bind λy0=>
  (zzq n y0 [(kz3.mk 0 [] [] (zz1.mk [] [] []) (kz0.mk 0 (yz0.mk 0 (yz2.mk 0 0) false [] []) [] [])),(kz3.mk 0 [] [] (zz1.mk [] [] []) (kz0.mk 0 (yz0.mk 0 (yz2.mk 0 0) false [] []) [] [])),(kz3.mk 0 [] [] (zz1.mk [] [] []) (kz0.mk 0 (yz0.mk 0 (yz2.mk 0 0) false [] []) [] [])),(kz3.mk 0 [] [] (zz1.mk [] [] []) (kz0.mk 0 (yz0.mk 0 (yz2.mk 0 0) false [] []) [] [])),(kz3.mk 0 [] [] (zz1.mk [] [] []) (kz0.mk 0 (yz0.mk 0 (yz2.mk 0 0) false [] []) [] [])),(kz3.mk 0 [] [] (zz1.mk [] [] []) (kz0.mk 0 (yz0.mk 0 (yz2.mk 0 0) false [] []) [] [])),(kz3.mk 0 [] [] (zz1.mk [] [] []) (kz0.mk 0 (yz0.mk 0 (yz2.mk 0 0) false [] []) [] [])),(kz3.mk 0 [] [] (zz1.mk [] [] []) (kz0.mk 0 (yz0.mk 0 (yz2.mk 0 0) false [] []) [] [])),(kz3.mk 0 [] [] (zz1.mk [] [] []) (kz0.mk 0 (yz0.mk 0 (yz2.mk 0 0) false [] []) [] [])),(kz3.mk 0 [] [] (zz1.mk [] [] []) (kz0.mk 0 (yz0.mk 0 (yz2.mk 0 0) false [] []) [] [])),(kz3.mk 0 [] [] (zz1.mk [] [] []) (kz0.mk 0 (yz0.mk 0 (yz2.mk 0 0) false [] []) [] [])),(kz3.mk 0 [] [] (zz1.mk [] [] []) (kz0.mk 0 (yz0.mk 0 (yz2.mk 0 0) false [] []) [] [])),(kz3.mk 0 [] [] (zz1.mk [] [] []) (kz0.mk 0 (yz0.mk 0 (yz2.mk 0 0) false [] []) [] [])),(kz3.mk 0 [] [] (zz1.mk [] [] []) (kz0.mk 0 (yz0.mk 0 (yz2.mk 0 0) false [] []) [] [])),(kz3.mk 0 [] [] (zz1.mk [] [] []) (kz0.mk 0 (yz0.mk 0 (yz2.mk 0 0) false [] []) [] [])),(kz3.mk 0 [] [] (zz1.mk [] [] []) (kz0.mk 0 (yz0.mk 0 (yz2.mk 0 0) false [] []) [] [])),(kz3.mk 0 [] [] (zz1.mk [] [] []) (kz0.mk 0 (yz0.mk 0 (yz2.mk 0 0) false [] []) [] [])),(kz3.mk 0 [] [] (zz1.mk [] [] []) (kz0.mk 0 (yz0.mk 0 (yz2.mk 0 0) false [] []) [] [])),(kz3.mk 0 [] [] (zz1.mk [] [] []) (kz0.mk 0 (yz0.mk 0 (yz2.mk 0 0) false [] []) [] [])),(kz3.mk 0 [] [] (zz1.mk [] [] []) (kz0.mk 0 (yz0.mk 0 (yz2.mk 0 0) false [] []) [] [])),(kz3.mk 0 [] [] (zz1.mk [] [] []) (kz0.mk 0 (yz0.mk 0 (yz2.mk 0 0) false [] []) [] [])),(kz3.mk 0 [] [] (zz1.mk [] [] []) (kz0.mk 0 (yz0.mk 0 (yz2.mk 0 0) false [] []) [] [])),(kz3.mk 0 [] [] (zz1.mk [] [] []) (kz0.mk 0 (yz0.mk 0 (yz2.mk 0 0) false [] []) [] [])),(kz3.mk 0 [] [] (zz1.mk [] [] []) (kz0.mk 0 (yz0.mk 0 (yz2.mk 0 0) false [] []) [] [])),(kz3.mk 0 [] [] (zz1.mk [] [] []) (kz0.mk 0 (yz0.mk 0 (yz2.mk 0 0) false [] []) [] [])),(kz3.mk 0 [] [] (zz1.mk [] [] []) (kz0.mk 0 (yz0.mk 0 (yz2.mk 0 0) false [] []) [] [])),(kz3.mk 0 [] [] (zz1.mk [] [] []) (kz0.mk 0 (yz0.mk 0 (yz2.mk 0 0) false [] []) [] [])),(kz3.mk 0 [] [] (zz1.mk [] [] []) (kz0.mk 0 (yz0.mk 0 (yz2.mk 0 0) false [] []) [] [])),(kz3.mk 0 [] [] (zz1.mk [] [] []) (kz0.mk 0 (yz0.mk 0 (yz2.mk 0 0) false [] []) [] [])),(kz3.mk 0 [] [] (zz1.mk [] [] []) (kz0.mk 0 (yz0.mk 0 (yz2.mk 0 0) false [] []) [] [])),(kz3.mk 0 [] [] (zz1.mk [] [] []) (kz0.mk 0 (yz0.mk 0 (yz2.mk 0 0) false [] []) [] [])),(kz3.mk 0 [] [] (zz1.mk [] [] []) (kz0.mk 0 (yz0.mk 0 (yz2.mk 0 0) false [] []) [] [])),(kz3.mk 0 [] [] (zz1.mk [] [] []) (kz0.mk 0 (yz0.mk 0 (yz2.mk 0 0) false [] []) [] [])),(kz3.mk 0 [] [] (zz1.mk [] [] []) (kz0.mk 0 (yz0.mk 0 (yz2.mk 0 0) false [] []) [] [])),(kz3.mk 0 [] [] (zz1.mk [] [] []) (kz0.mk 0 (yz0.mk 0 (yz2.mk 0 0) false [] []) [] [])),(kz3.mk 0 [] [] (zz1.mk [] [] []) (kz0.mk 0 (yz0.mk 0 (yz2.mk 0 0) false [] []) [] [])),(kz3.mk 0 [] [] (zz1.mk [] [] []) (kz0.mk 0 (yz0.mk 0 (yz2.mk 0 0) false [] []) [] [])),(kz3.mk 0 [] [] (zz1.mk [] [] []) (kz0.mk 0 (yz0.mk 0 (yz2.mk 0 0) false [] []) [] [])),(kz3.mk 0 [] [] (zz1.mk [] [] []) (kz0.mk 0 (yz0.mk 0 (yz2.mk 0 0) false [] []) [] [])),(kz3.mk 0 [] [] (zz1.mk [] [] []) (kz0.mk 0 (yz0.mk 0 (yz2.mk 0 0) false [] []) [] [])),(kz3.mk 0 [] [] (zz1.mk [] [] []) (kz0.mk 0 (yz0.mk 0 (yz2.mk 0 0) false [] []) [] []))]).bind λy1=>
  (zzq n y0 [(kz3.mk 0 [] [] (zz1.mk [] [] []) (kz0.mk 0 (yz0.mk 0 (yz2.mk 0 0) false [] []) [] [])),(kz3.mk 0 [] [] (zz1.mk [] [] []) (kz0.mk 0 (yz0.mk 0 (yz2.mk 0 0) false [] []) [] [])),(kz3.mk 0 [] [] (zz1.mk [] [] []) (kz0.mk 0 (yz0.mk 0 (yz2.mk 0 0) false [] []) [] [])),(kz3.mk 0 [] [] (zz1.mk [] [] []) (kz0.mk 0 (yz0.mk 0 (yz2.mk 0 0) false [] []) [] [])),(kz3.mk 0 [] [] (zz1.mk [] [] []) (kz0.mk 0 (yz0.mk 0 (yz2.mk 0 0) false [] []) [] [])),(kz3.mk 0 [] [] (zz1.mk [] [] []) (kz0.mk 0 (yz0.mk 0 (yz2.mk 0 0) false [] []) [] [])),(kz3.mk 0 [] [] (zz1.mk [] [] []) (kz0.mk 0 (yz0.mk 0 (yz2.mk 0 0) false [] []) [] [])),(kz3.mk 0 [] [] (zz1.mk [] [] []) (kz0.mk 0 (yz0.mk 0 (yz2.mk 0 0) false [] []) [] [])),(kz3.mk 0 [] [] (zz1.mk [] [] []) (kz0.mk 0 (yz0.mk 0 (yz2.mk 0 0) false [] []) [] [])),(kz3.mk 0 [] [] (zz1.mk [] [] []) (kz0.mk 0 (yz0.mk 0 (yz2.mk 0 0) false [] []) [] [])),(kz3.mk 0 [] [] (zz1.mk [] [] []) (kz0.mk 0 (yz0.mk 0 (yz2.mk 0 0) false [] []) [] [])),(kz3.mk 0 [] [] (zz1.mk [] [] []) (kz0.mk 0 (yz0.mk 0 (yz2.mk 0 0) false [] []) [] [])),(kz3.mk 0 [] [] (zz1.mk [] [] []) (kz0.mk 0 (yz0.mk 0 (yz2.mk 0 0) false [] []) [] [])),(kz3.mk 0 [] [] (zz1.mk [] [] []) (kz0.mk 0 (yz0.mk 0 (yz2.mk 0 0) false [] []) [] [])),(kz3.mk 0 [] [] (zz1.mk [] [] []) (kz0.mk 0 (yz0.mk 0 (yz2.mk 0 0) false [] []) [] [])),(kz3.mk 0 [] [] (zz1.mk [] [] []) (kz0.mk 0 (yz0.mk 0 (yz2.mk 0 0) false [] []) [] [])),(kz3.mk 0 [] [] (zz1.mk [] [] []) (kz0.mk 0 (yz0.mk 0 (yz2.mk 0 0) false [] []) [] [])),(kz3.mk 0 [] [] (zz1.mk [] [] []) (kz0.mk 0 (yz0.mk 0 (yz2.mk 0 0) false [] []) [] [])),(kz3.mk 0 [] [] (zz1.mk [] [] []) (kz0.mk 0 (yz0.mk 0 (yz2.mk 0 0) false [] []) [] [])),(kz3.mk 0 [] [] (zz1.mk [] [] []) (kz0.mk 0 (yz0.mk 0 (yz2.mk 0 0) false [] []) [] [])),(kz3.mk 0 [] [] (zz1.mk [] [] []) (kz0.mk 0 (yz0.mk 0 (yz2.mk 0 0) false [] []) [] [])),(kz3.mk 0 [] [] (zz1.mk [] [] []) (kz0.mk 0 (yz0.mk 0 (yz2.mk 0 0) false [] []) [] [])),(kz3.mk 0 [] [] (zz1.mk [] [] []) (kz0.mk 0 (yz0.mk 0 (yz2.mk 0 0) false [] []) [] [])),(kz3.mk 0 [] [] (zz1.mk [] [] []) (kz0.mk 0 (yz0.mk 0 (yz2.mk 0 0) false [] []) [] [])),(kz3.mk 0 [] [] (zz1.mk [] [] []) (kz0.mk 0 (yz0.mk 0 (yz2.mk 0 0) false [] []) [] [])),(kz3.mk 0 [] [] (zz1.mk [] [] []) (kz0.mk 0 (yz0.mk 0 (yz2.mk 0 0) false [] []) [] [])),(kz3.mk 0 [] [] (zz1.mk [] [] []) (kz0.mk 0 (yz0.mk 0 (yz2.mk 0 0) false [] []) [] [])),(kz3.mk 0 [] [] (zz1.mk [] [] []) (kz0.mk 0 (yz0.mk 0 (yz2.mk 0 0) false [] []) [] [])),(kz3.mk 0 [] [] (zz1.mk [] [] []) (kz0.mk 0 (yz0.mk 0 (yz2.mk 0 0) false [] []) [] [])),(kz3.mk 0 [] [] (zz1.mk [] [] []) (kz0.mk 0 (yz0.mk 0 (yz2.mk 0 0) false [] []) [] [])),(kz3.mk 0 [] [] (zz1.mk [] [] []) (kz0.mk 0 (yz0.mk 0 (yz2.mk 0 0) false [] []) [] [])),(kz3.mk 0 [] [] (zz1.mk [] [] []) (kz0.mk 0 (yz0.mk 0 (yz2.mk 0 0) false [] []) [] [])),(kz3.mk 0 [] [] (zz1.mk [] [] []) (kz0.mk 0 (yz0.mk 0 (yz2.mk 0 0) false [] []) [] [])),(kz3.mk 0 [] [] (zz1.mk [] [] []) (kz0.mk 0 (yz0.mk 0 (yz2.mk 0 0) false [] []) [] [])),(kz3.mk 0 [] [] (zz1.mk [] [] []) (kz0.mk 0 (yz0.mk 0 (yz2.mk 0 0) false [] []) [] [])),(kz3.mk 0 [] [] (zz1.mk [] [] []) (kz0.mk 0 (yz0.mk 0 (yz2.mk 0 0) false [] []) [] [])),(kz3.mk 0 [] [] (zz1.mk [] [] []) (kz0.mk 0 (yz0.mk 0 (yz2.mk 0 0) false [] []) [] [])),(kz3.mk 0 [] [] (zz1.mk [] [] []) (kz0.mk 0 (yz0.mk 0 (yz2.mk 0 0) false [] []) [] [])),(kz3.mk 0 [] [] (zz1.mk [] [] []) (kz0.mk 0 (yz0.mk 0 (yz2.mk 0 0) false [] []) [] [])),(kz3.mk 0 [] [] (zz1.mk [] [] []) (kz0.mk 0 (yz0.mk 0 (yz2.mk 0 0) false [] []) [] []))]).bind λy2=>
  (zzq n y0 [(kz3.mk 2 [122] [] (zz1.mk [] [] []) (kz0.mk 0 (yz0.mk 0 (yz2.mk 0 0) false [] []) [] []))]).bind λy3=>
  (zzq n y0 [(kz3.mk 2 [99] [] (zz1.mk [] [] []) (kz0.mk 0 (yz0.mk 0 (yz2.mk 0 0) false [] []) [] []))]).bind λy4=>
  (zzt n [97] []).bind λy5=>
  (zzq n y0 [(kz3.mk 1 [] [] y5 (kz0.mk 0 (yz0.mk 0 (yz2.mk 0 0) false [] []) [] []))]).bind λy6=>
  (zzq n y0 [(kz3.mk 4 [97] [98] (zz1.mk [] [] []) (kz0.mk 0 (yz0.mk 0 (yz2.mk 0 0) false [] []) [] []))]).bind λy7=>
  (zzq n y0 [(kz3.mk 4 [97] [97] (zz1.mk [] [] []) (kz0.mk 0 (yz0.mk 0 (yz2.mk 0 0) false [] []) [] []))]).bind λy8=>
  (zzq n y0 [(kz3.mk 4 [97] [65] (zz1.mk [] [] []) (kz0.mk 0 (yz0.mk 0 (yz2.mk 0 0) false [] []) [] []))]).bind λy9=>
  (z1h n).bind λy10=>
  (zzq n y0 [(kz3.mk 5 [104] [] (zz1.mk [] [] []) y10.re)]).bind λy11=>
  (zzq n y0 [(kz3.mk 2 [100] [120] (zz1.mk [] [] []) (kz0.mk 0 (yz0.mk 0 (yz2.mk 0 0) false [] []) [] []))]).bind λy12=>
  (zzt n [98] [[100]]).bind λy13=>
  (zzq n y0 [(kz3.mk 2 [99] [] (zz1.mk [] [] []) (kz0.mk 0 (yz0.mk 0 (yz2.mk 0 0) false [] []) [] [])),(kz3.mk 3 [] [] y13 (kz0.mk 0 (yz0.mk 0 (yz2.mk 0 0) false [] []) [] []))]).bind λy14=>
  (zzt n [97] [[98]]).bind λy15=>
  (zzq n (yz1.mk [] [y15]) []).bind λy16=>
  (z5x n [] [97] [65]).bind λy17=>
  (z5x n [(zz4.mk [] 0 [])] [97] [65]).bind λy18=>
  (z5x n [(zz4.mk [] 0 []),(zz4.mk [] 0 []),(zz4.mk [] 0 []),(zz4.mk [] 0 []),(zz4.mk [] 0 []),(zz4.mk [] 0 []),(zz4.mk [] 0 []),(zz4.mk [] 0 []),(zz4.mk [] 0 []),(zz4.mk [] 0 []),(zz4.mk [] 0 []),(zz4.mk [] 0 []),(zz4.mk [] 0 []),(zz4.mk [] 0 []),(zz4.mk [] 0 []),(zz4.mk [] 0 []),(zz4.mk [] 0 []),(zz4.mk [] 0 []),(zz4.mk [] 0 []),(zz4.mk [] 0 []),(zz4.mk [] 0 []),(zz4.mk [] 0 []),(zz4.mk [] 0 []),(zz4.mk [] 0 []),(zz4.mk [] 0 []),(zz4.mk [] 0 []),(zz4.mk [] 0 []),(zz4.mk [] 0 []),(zz4.mk [] 0 []),(zz4.mk [] 0 []),(zz4.mk [] 0 []),(zz4.mk [] 0 []),(zz4.mk [] 0 []),(zz4.mk [] 0 []),(zz4.mk [] 0 []),(zz4.mk [] 0 []),(zz4.mk [] 0 []),(zz4.mk [] 0 []),(zz4.mk [] 0 []),(zz4.mk [] 0 []),(zz4.mk [] 0 []),(zz4.mk [] 0 []),(zz4.mk [] 0 []),(zz4.mk [] 0 []),(zz4.mk [] 0 []),(zz4.mk [] 0 []),(zz4.mk [] 0 []),(zz4.mk [] 0 []),(zz4.mk [] 0 []),(zz4.mk [] 0 []),(zz4.mk [] 0 []),(zz4.mk [] 0 []),(zz4.mk [] 0 []),(zz4.mk [] 0 []),(zz4.mk [] 0 []),(zz4.mk [] 0 []),(zz4.mk [] 0 []),(zz4.mk [] 0 []),(zz4.mk [] 0 []),(zz4.mk [] 0 []),(zz4.mk [] 0 [])] [97] [98]).bind λy19=>
  (z7r n).bind λy20=>
  y03 y20 (λr21=>
   pIf r21
    (pIf (y1.1==4)
      (pIf (y2.1==8)
        (pIf (y3.1==6)
          (pIf (y4.1==6)
            (pIf (y6.1==14)
              (pIf (y7.1==14)
                (pIf (y8.1==14)
                  (pIf (y9.1==8)
                    (pIf (y11.1==6)
                      (pIf (y12.1==8)
                        (pIf (y14.1==0)
                          (pIf ((y14.2.rules.length:Int)==3)
                            (pIf (y16.1==6)
                              (pIf (y17.2==12)
                                (pIf (y18.2==8)
                                  (some (Res.ok (y19.2==4)))
                                  (some (Res.ok false)))
                                (some (Res.ok false)))
                              (some (Res.ok false)))
                            (some (Res.ok false)))
                          (some (Res.ok false)))
                        (some (Res.ok false)))
                      (some (Res.ok false)))
                    (some (Res.ok false)))
                  (some (Res.ok false)))
                (some (Res.ok false)))
              (some (Res.ok false)))
            (some (Res.ok false)))
          (some (Res.ok false)))
        (some (Res.ok false)))
      (some (Res.ok false)))
    (some (Res.ok false)))
   (λe22=>
   some (Res.pan (e22.1,())))
def zky:LSh:=⟨[(0,(.d .bool))],[],0,205,[]⟩
noncomputable def z5e:FI dat:=FI.ofP dat 3 205 0 [] [] [(.d .bool)] [] (.iface 9 (.d .str)) [] [] zky (R:=Bool) (λx=>x.1) (λr=>(r,())) (λn x=>z0k n)
 (λn=>[]) (ann [] (Tryz.f3.body.getD .skip) 0).1
noncomputable def zkf:List (FI dat):=[z2c,z08,z73,z0a,kzm,z5c]
theorem zkv:(z5e).Good Tryz.prog dat (tb zkf):=FI.zhj (hD:=zz0 _) Tryz.func3 Tryz.ntmps3 Tryz.call3 (by kernel_rfl) (Qac (by kernel_rfl)) (by kernel_rfl) (λn=>by kernel_rfl) trivial (λx=>by kernel_rfl) (λ_=>rfl) trivial
 (λn=>λx=>(z0k.eq_2 n).trans (by kernel_rfl))
 (λn=>trivial)
 (λx=>by kernel_rfl)
theorem zk9:OkL Tryz.prog [z5e]:=zz3 (zz0 _) (bs:=[z2c,z08,z73,z0a,kzm,z5c]) ⟨zm2,zgg,zpf,zgh,z6q,zmf,trivial⟩ zkv
theorem zjq:FOk Tryz.prog z5e:=zk9.1
theorem zjr:VRL dat [] 0 [] []:=by
 simp only [VRL]
theorem zhs (n:Nat) (r:Bool) (h:z0k n=some (Res.ok r)) (H:Heap):zn2 Tryz.prog 3 [] H λout _=>out = .ret (.bool r):=by
 rcases zjq n _ (()) (λy=>some y.1) (λ_=>none) r (by show (z0k n).bind (λr=>y03 r _ _)=some r;rw [h];rfl) with ⟨y,h1,h2⟩|⟨y,h1,h2⟩
 ·injection h1 with h1;subst h1;refine (h2 H.lv H.L H.E [] [] rfl (zjr) (λj o hm=>by cases hm) ⟨λs s' sl sl' i q=>(by simp at q),λs sl i q=>(by simp at q)⟩).mono λout H' hq => ?_
  obtain ⟨L',ρ',_,_,_,vs,e,hv⟩:=hq;replace hv:VRL dat ρ' H.lv [TV.bool y.1] vs:=hv;simp only [VRL,VR] at hv;obtain ⟨v,r,rfl,rfl,rfl⟩:=hv;exact e
 ·cases h1
end Go.Proofs.YthlmhmebajjkbaaGreatDoor
namespace Go.Proofs.Tryz
open Go Go.Ab
set_option linter.unusedSimpArgs false
end Go.Proofs.Tryz
namespace Go.Proofs.YthlmhmebajjkbaaGreatDoor
open Go Go.Ab
set_option linter.unusedVariables false
theorem ye6:z0k 300=some (Res.ok true):=by kernel_rfl
theorem yh2 (H:Heap):zn2 Tryz.prog 3 [] H λout _=>out = .ret (.bool true):=zhs 300 true ye6 H
end Go.Proofs.YthlmhmebajjkbaaGreatDoor
