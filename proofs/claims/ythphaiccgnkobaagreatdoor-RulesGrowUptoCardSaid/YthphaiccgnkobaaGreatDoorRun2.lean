/-
  Go functions as Lean functions, by a program of this repo.
-/
import Derived.Test.YthphaiccgnkobaaGreatDoorRun0
import Derived.Test.YthphaiccgnkobaaGreatDoorRun1
import Derived.Test.YthphaiccgnkobaaGreatDoorLib8
import Derived.KernelRfl
import Derived.Test.YthphaiccgnkobaaGreatDoorLib2
import Derived.Test.YthphaiccgnkobaaGreatDoorProg
import Derived.Test.YthphaiccgnkobaaGreatDoorRows
import Derived.WalkKit
import Derived.ProofKit
import Derived.Handy
import Derived.Lay
import Derived.SevenTiedAt
import Derived.Deep.DeepHandedRow
import Derived.Lib.LaidTab
import Derived.Stop.LaidErr
namespace Go.Proofs.YthphaiccgnkobaaGreatDoor
open Go Go.Ab
set_option linter.unusedSimpArgs false
open Go.Proofs.Tryz
set_option linter.unusedVariables false
set_option maxRecDepth 100000
set_option maxHeartbeats 4000000
def ze6(a0:Int)(a1:Int):Option Int :=
 pIf (!false)
  (some a1)
  (some a0)
def y66:LSh:=⟨[],[(.cells [dI])],1,10,[]⟩
noncomputable def zsk:zvx dat:={f:=242,args:=[(.ptr 0 0)],aos:=[(.cells [dI])],m:=(some (.iface 31 dI)),ros:=[(.cells [dI])],go:=λx mx=>(ze6 x.1 mx.1).bind λr=>some (r,())}
theorem y1q:(zsk).Ok prog:=yr8 (c:=(anb [] f242)) (args:=[(.ptr 0 0)]) (aos:=[(.cells [dI])]) (ros:=[(.cells [dI])]) (m:=(some (.iface 31 dI))) (l:=y66) (pack:=λx=>x.1) (un:=λr=>(r,())) (go:=λx mx=>ze6 x.1 mx.1) (by kernel_rfl) (zz8 _) func242 (by kernel_rfl) ntmps242 call242 (Nat.le_of_ble_eq_true (by kernel_rfl)) (Nat.le_of_ble_eq_true (by kernel_rfl)) (Nat.le_of_ble_eq_true (by kernel_rfl)) (by kernel_rfl) (by kernel_rfl) (by kernel_rfl) (by kernel_rfl) (λx=>by kernel_rfl) (λx mx=>by kernel_rfl)
def ztk:Nat->B8->Ot (zz1×Int)
 |0,_=>none
 |n+1,a=>
  (z5c n 12 (kz2.mk a)).bind λy0=>
  zpx y0 (λr1=>
   pIf (!(r1.1.s==[]))
    ((zb9 n 12).bind λy2=>
    zpx y2 (λr3=>
     (((zib 0).bind λr5=>some (r5,()))).bind λy4=>
     some (r1.2.re,y4.1))
     (λe6=>
     (((ze6 0 e6.1).bind λr8=>some (r8,()))).bind λy7=>
     some (r1.2.re,y7.1)))
    ((((zib 0).bind λr10=>some (r10,()))).bind λy9=>
    some (r1.2.re,y9.1)))
   (λe11=>
   (((ze6 0 e11.1).bind λr13=>some (r13,()))).bind λy12=>
   some ((zz1.mk 0 (kz0.mk 0 (yz4.mk 0 0) false [] []) [] []),y12.1))
def yql:LSh:=⟨[(2,(.ptr 0 0)),(3,(.ptr 1 0))],[(.st 5),(.cells [dI])],0,17,[]⟩
noncomputable def zoc:FI dat:=FI.ofD dat 200 17 0 [dS] [] [dT 5,dI] [(.st 5),(.cells [dI])] [y1k,zsk] yql (R:=zz1×Int) (λx=>(x.1,x.2.1)) (λr=>(r.1,r.2,r.1,r.2,())) (λn=>u1 (ztk n))
 (λn=>[]) (anb [] f200)
noncomputable def ypa:List (FI dat):=[z6r,z7q]
theorem ypl:(zoc).Good prog dat (tb ypa):=FI.z034 (hD:=zz8 _) func200 ntmps200 call200 (by kernel_rfl) (Qac (by kernel_rfl)) (by kernel_rfl) (λn=>by kernel_rfl) ⟨y9m,y1q,trivial⟩ (λx=>by kernel_rfl) (λ_=>rfl) trivial
 (λ_ _=>tr (ztk.eq_2 ..))
 (λn=>trivial)
 (λx=>by kernel_rfl)
theorem yo4:OkL prog [zoc]:=zq0 (zz8 _) (bs:=[z6r,z7q]) ⟨y0b,zlr,trivial⟩ ypl
theorem yl0:FOk prog zoc:=yo4.1
mutual
def zpy:Nat->B8->Ot (Int×zz1)
 |0,_=>none
 |n+1,a=>
  pIf (decide ((a.length:Int)>4000))
   (some (12,(zz1.mk 0 (kz0.mk 0 (yz4.mk 0 0) false [] []) [] [])))
   ((ztk n a).bind λy0=>
   pIf (y0.2 != 0)
    (zfm n true (zz1.mk 0 (kz0.mk 0 (yz4.mk 0 0) false [] []) [] []) y0.1.re)
    ((z0i n y0.1.re).bind λy1=>
    zfm n (y1 != 0) (zz1.mk 0 (kz0.mk 0 (yz4.mk 0 0) false [] []) [] []) y0.1.re))
def zfm:Nat->Bool->zz1->zz1->Ot (Int×zz1)
 |0,_,_,_=>none
 |n+1,a,b,c=>
  pIf a
   (some (12,(zz1.mk 0 (kz0.mk 0 (yz4.mk 0 0) false [] []) [] [])))
   (some (0,c.re))
end
def yk6:LSh:=⟨[(2,(.ptr 0 0)),(3,dI)],[(.st 5)],0,24,[]⟩
noncomputable def zti:FI dat:=FI.of dat 156 24 0 [dS] [] [dT 5,dI] [] true yk6 (R:=Int×zz1) (λx=>(x.1,x.2.1)) (λr=>(r.2,r.1,())) (λn=>u1 (zpy n))
 (λn=>[(0,⟨⟨[(2,(.ptr 0 0)),(4,(.ptr 1 0)),(21,dB)],[(.st 5),(.st 5)],0,24,[]⟩,u3 (zfm n)⟩)]) (anb [(15,0)] f156)
theorem yic:FOk prog zti:=okF (bs:=[zoc,zf0]) ⟨yl0,zg3,trivial⟩ func156 ntmps156 call156
 (λ_ _=>tr (zpy.eq_2 ..))
 (λn=>⟨λx=>tr (zfm.eq_2 x.1 x.2.1 x.2.2.1 n),
  trivial⟩)
mutual
def z15:Nat->B8->Bool->Ot (Bool×zz1)
 |0,_,_=>none
 |n+1,a,b=>
  (zpy n a).bind λy0=>
  pIf b
   (z8g n (y0.1==0) (zz1.mk 0 (kz0.mk 0 (yz4.mk 0 0) false [] []) [] []) y0.2.re)
   (z8g n false (zz1.mk 0 (kz0.mk 0 (yz4.mk 0 0) false [] []) [] []) y0.2.re)
def z8g:Nat->Bool->zz1->zz1->Ot (Bool×zz1)
 |0,_,_,_=>none
 |n+1,a,b,c=>
  some (a,c.re)
end
def zyz:LSh:=⟨[(4,(.ptr 3 0))],[(.cells [(.own 1),(.own 2),dB]),.rig,.rig,(.st 5)],1,24,[1,2]⟩
noncomputable def zaz:FI dat:=FI.of dat 101 24 1 [(.ptr 0 0),dS] [(.cells [(.own 1),(.own 2),dB]),.rig,.rig] [dT 5] [(.cells [(.own 1),(.own 2),dB]),.rig,.rig,(.st 5)] false zyz (R:=Bool×zz1) (λx=>(x.1,x.2.1)) (λr=>(r.2,r.1,r.2,())) (λn=>u2 (z15 n))
 (λn=>[(0,⟨⟨[(4,(.ptr 3 0)),(5,(.ptr 4 0))],[(.cells [(.own 1),(.own 2),dB]),.rig,.rig,(.st 5),(.st 5)],1,24,[1,2]⟩,u3 (z8g n)⟩)]) (anb [(6,0)] f101) [1,2]
noncomputable def zyp:List (FI dat):=[zti]
theorem zyq:(zaz).Good prog dat (tb zyp):=FI.z0t (hD:=zz8 _) func101 ntmps101 call101 (by kernel_rfl) (Qac (by kernel_rfl)) (by kernel_rfl) (λn=>by kernel_rfl) (λx=>by kernel_rfl) (λ_=>rfl) ⟨λ_=>rfl,trivial⟩
 (λ_ _=>tr (z15.eq_2 ..))
 (λn=>⟨λx=>tr (z8g.eq_2 x.1 x.2.1 x.2.2.1 n),
  trivial⟩)
 (λx=>.inr (by kernel_rfl))
theorem y07:OkL prog [zaz]:=zq0 (zz8 _) (bs:=[zti]) ⟨yic,trivial⟩ zyq
theorem zut:FOk prog zaz:=y07.1
noncomputable def z8y:FI dat:=z00t dat 101 [(.ptr 0 0),dS] [dT 5] [(.st 5)] (R:=Bool×zz1) (λr=>(r.2,r.1,r.2,())) (λn=>u2 (z15 n)) zaz
theorem zep:FOk prog z8y:=λn=>yno (zz8 _) rfl (zut n)
mutual
def z36:Nat->B8->Bool->Ot (B8×yz6×Bool)
 |0,_,_=>none
 |n+1,a,b=>
  (z7w n a [32]).bind λy0=>
  (z15 n y0.2.1 b).bind λy1=>
  pIf y1.1
   (z8h n y0.1 (y1.2.op==18) y1.2.re)
   (z8h n y0.1 false y1.2.re)
def z8h:Nat->B8->Bool->zz1->Ot (B8×yz6×Bool)
 |0,_,_,_=>none
 |n+1,a,b,c=>
  some (a,c.args,b)
end
def y02:LSh:=⟨[(4,dS),(5,dL 5)],[(.cells [(.own 1),(.own 2),dB]),.rig,.rig],1,34,[1,2]⟩
noncomputable def zav:FI dat:=FI.of dat 160 34 1 [(.ptr 0 0),dS] [(.cells [(.own 1),(.own 2),dB]),.rig,.rig] [dS,dL 5] [(.cells [(.own 1),(.own 2),dB]),.rig,.rig] false y02 (R:=B8×yz6×Bool) (λx=>(x.1,x.2.1,x.2.2.1)) (λr=>(r.1,r.2.1,r.2.2,())) (λn=>u2 (z36 n))
 (λn=>[(0,⟨⟨[(9,(.ptr 3 0)),(6,dS)],[(.cells [(.own 1),(.own 2),dB]),.rig,.rig,(.st 5)],1,34,[1,2]⟩,u3 (z8h n)⟩)]) (anb [(8,0)] f160) [1,2]
noncomputable def zyx:List (FI dat):=[z8y,zdj]
theorem y0a:(zav).Good prog dat (tb zyx):=FI.z0t (hD:=zz8 _) func160 ntmps160 call160 (by kernel_rfl) (Qac (by kernel_rfl)) (by kernel_rfl) (λn=>by kernel_rfl) (λx=>by kernel_rfl) (λ_=>rfl) ⟨λ_=>rfl,trivial⟩
 (λ_ _=>tr (z36.eq_2 ..))
 (λn=>⟨λ_=>tr (z8h.eq_2 _ _ _ n),
  trivial⟩)
 (λx=>.inr (by kernel_rfl))
theorem zyk:OkL prog [zav]:=zq0 (zz8 _) (bs:=[z8y,zdj]) ⟨zep,zi8,trivial⟩ y0a
theorem zuz:FOk prog zav:=zyk.1
noncomputable def zl3:FI dat:=z00t dat 160 [(.ptr 0 0),dS] [dS,dL 5] [] (R:=B8×yz6×Bool) (λr=>(r.1,r.2.1,r.2.2,())) (λn=>u2 (z36 n)) zav
theorem zv9:FOk prog zl3:=λn=>yno (zz8 _) rfl (zuz n)
def zj1:Nat->B8->B8->Ot Int
 |0,_,_=>none
 |n+1,a,b=>
  (z29 n a b).bind λy0=>
  some y0
def y8u:LSh:=⟨[(4,dI)],[],0,8,[]⟩
noncomputable def zkv:FI dat:=FI.of dat 203 8 0 [dS,dS] [] [dI] [] true y8u (R:=Int) Prod.fst (·,()) (λn=>u2 (zj1 n))
 (λn=>[]) (anb [] f203)
theorem y74:FOk prog zkv:=okF (bs:=[z8q]) ⟨zcr,trivial⟩ func203 ntmps203 call203
 (λ_ _=>tr (zj1.eq_2 ..))
 (λn=>trivial)
mutual
def z7z:Nat->B8->Bool->Ot (Int×Bool)
 |0,_,_=>none
 |n+1,a,b=>
  (zj1 n [120,121,122] a).bind λy0=>
  pIf b
   (pIf ((a.length:Int)==1)
     (z3c n y0 (decide (y0>=0)))
     (z3c n y0 false))
   (z3c n y0 false)
def z3c:Nat->Int->Bool->Ot (Int×Bool)
 |0,_,_=>none
 |n+1,a,b=>
  some ((IntKind.u8.wrap (mxI a 0)),b)
end
def y04:LSh:=⟨[(4,dU)],[(.cells [(.own 1),(.own 2),dB]),.rig,.rig],1,27,[1,2]⟩
noncomputable def zb4:FI dat:=FI.of dat 161 27 1 [(.ptr 0 0),dS] [(.cells [(.own 1),(.own 2),dB]),.rig,.rig] [dU] [(.cells [(.own 1),(.own 2),dB]),.rig,.rig] false y04 (R:=Int×Bool) (λx=>(x.1,x.2.1)) (λr=>(r.1,r.2,())) (λn=>u2 (z7z n))
 (λn=>[(0,⟨⟨[(5,dI)],[(.cells [(.own 1),(.own 2),dB]),.rig,.rig],1,27,[1,2]⟩,u2 (z3c n)⟩)]) (anb [(6,0)] f161) [1,2]
noncomputable def y01:List (FI dat):=[zkv]
theorem zyg:(zb4).Good prog dat (tb y01):=FI.z0t (hD:=zz8 _) func161 ntmps161 call161 (by kernel_rfl) (Qac (by kernel_rfl)) (by kernel_rfl) (λn=>by kernel_rfl) (λx=>by kernel_rfl) (λ_=>rfl) ⟨λ_=>rfl,trivial⟩
 (λ_ _=>tr (z7z.eq_2 ..))
 (λn=>⟨λ_=>tr (z3c.eq_2 _ _ n),
  trivial⟩)
 (λx=>.inr (by kernel_rfl))
theorem zyo:OkL prog [zb4]:=zq0 (zz8 _) (bs:=[zkv]) ⟨y74,trivial⟩ zyg
theorem zuu:FOk prog zb4:=zyo.1
noncomputable def zl2:FI dat:=z00t dat 161 [(.ptr 0 0),dS] [dU] [] (R:=Int×Bool) (λr=>(r.1,r.2,())) (λn=>u2 (z7z n)) zb4
theorem zw7:FOk prog zl2:=λn=>yno (zz8 _) rfl (zuu n)
mutual
def zcx:Nat->Int->B8->B8->Bool->z1o->z02->yzf->Int->Ot (Bool×z1o×z02×yzf×Int)
 |0,_,_,_,_,_,_,_,_=>none
 |n+1,a,b,c,d,e,f,g,h=>
  (kzb n [102,105,120,101,100,32,115,104,97,114,101,32,114,101,115,116]).bind λy0=>
  (kz9 n y0 b).bind λy1=>
  pIf (decide (y1>=0))
   ((z36 n c d).bind λy2=>
   (ix e a).bind λx3=>
   (ix e a).bind λx4=>
   pIf (decide ((x3.do_.length:Int)>0))
    ((zlb a a).bind λx5=>
    (ix e a).bind λx6=>
    (ix x3.do_ (IntKind.i64.wrap ((x3.do_.length:Int)-1))).bind λx7=>
    (ix x3.do_ (IntKind.i64.wrap ((x3.do_.length:Int)-1))).bind λx8=>
    (ix e a).bind λx9=>
    z5p n y2.2.1 y2.1 y1 (x3.do_.length:Int) a (x8.kind==5) y2.2.2 (e.set (Int.toNat a) (zz6.mk x9.weight x9.when_.re x3.do_)) f g h)
    ((ix e a).bind λx10=>
    z5p n y2.2.1 y2.1 y1 (x3.do_.length:Int) a false y2.2.2 (e.set (Int.toNat a) (zz6.mk x10.weight x10.when_.re x3.do_)) f g h))
   ((kzb n [99,97,108,108,32,109,111,118,101,32,115,105,122,101,32,116,117,114,110,32,115,112,108,105,116,32,108,101,97,102]).bind λy11=>
   (kz9 n y11 b).bind λy12=>
   pIf ((IntKind.u8.wrap (IntKind.i64.wrap (y12+1)))==0)
    (kzo n a false e f g h (IntKind.u8.wrap (IntKind.i64.wrap (y12+1))) 0 [] [] [])
    (pIf ((IntKind.u8.wrap (IntKind.i64.wrap (y12+1)))==6)
      ((z15 n c d).bind λy13=>
      kzo n a y13.1 e f g h (IntKind.u8.wrap (IntKind.i64.wrap (y12+1))) 0 [] [y13.2.re] [])
      (pIf ((IntKind.u8.wrap (IntKind.i64.wrap (y12+1)))==5)
        ((z7z n c d).bind λy14=>
        kzo n a y14.2 e f g h (IntKind.u8.wrap (IntKind.i64.wrap (y12+1))) y14.1 [] [] [])
        (pIf ((IntKind.u8.wrap (IntKind.i64.wrap (y12+1)))==4)
          ((z7w n c [32]).bind λy15=>
          (z7z n y15.1 d).bind λy16=>
          (z36 n y15.2.1 y16.2).bind λy17=>
          kzo n a y17.2.2 e f g h (IntKind.u8.wrap (IntKind.i64.wrap (y12+1))) y16.1 y17.1 y17.2.1 [])
          ((z36 n c d).bind λy18=>
          kzo n a y18.2.2 e f g h (IntKind.u8.wrap (IntKind.i64.wrap (y12+1))) 0 y18.1 y18.2.1 [])))))
def z5p:Nat->yz6->B8->Int->Int->Int->Bool->Bool->z1o->z02->yzf->Int->Ot (Bool×z1o×z02×yzf×Int)
 |0,_,_,_,_,_,_,_,_,_,_,_=>none
 |n+1,a,b,c,d,e,f,g,h,i,j,k=>
  pIf f
   ((ix h e).bind λx19=>
   (ix x19.do_ (IntKind.i64.wrap (d-1))).bind λx20=>
   (zlb e e).bind λx21=>
   (ix h e).bind λx22=>
   (zlb e e).bind λx23=>
   (ix h e).bind λx24=>
   (ix x19.do_ (IntKind.i64.wrap (d-1))).bind λx25=>
   (zlb (IntKind.i64.wrap (d-1)) (IntKind.i64.wrap (d-1))).bind λx26=>
   (ix x19.do_ (IntKind.i64.wrap (d-1))).bind λx27=>
   (ext x20.items [(yzj.mk (IntKind.u8.wrap (IntKind.i64.wrap (c+1))) b a)]).bind λx28=>
   (ix x19.do_ (IntKind.i64.wrap (d-1))).bind λx29=>
   (zlb (IntKind.i64.wrap (d-1)) (IntKind.i64.wrap (d-1))).bind λx30=>
   (ix x19.do_ (IntKind.i64.wrap (d-1))).bind λx31=>
   (ix x19.do_ (IntKind.i64.wrap (d-1))).bind λx32=>
   (ix h e).bind λx33=>
   some (g,(h.set (Int.toNat e) (zz6.mk x33.weight x33.when_.re (x19.do_.set (Int.toNat (IntKind.i64.wrap (d-1))) (zz4.mk x32.kind x32.axis x32.name x32.args x28)))),i,j,k))
   (some (false,h,i,j,k))
def kzo:Nat->Int->Bool->z1o->z02->yzf->Int->Int->Int->B8->yz6->ztt->Ot (Bool×z1o×z02×yzf×Int)
 |0,_,_,_,_,_,_,_,_,_,_,_=>none
 |n+1,a,b,c,d,e,f,g,h,i,j,k=>
  (ix c a).bind λx34=>
  (zlb a a).bind λx35=>
  (ix c a).bind λx36=>
  (ext x34.do_ [(zz4.mk g h i j [])]).bind λx37=>
  (zlb a a).bind λx38=>
  (ix c a).bind λx39=>
  (ix x37 (x34.do_.length:Int)).bind λx40=>
  (ix c a).bind λx41=>
  some (b,(c.set (Int.toNat a) (zz6.mk x41.weight x41.when_.re (x37.set (Int.toNat (x34.do_.length:Int)) (zz4.mk x40.kind x40.axis x40.name x40.args k)))),d,e,f)
end
def zur:LSh:=⟨[],[(.cells [(.own 2),(.own 3),dB]),(.deep 57 9),(.acc 49 (.st 6) true),(.deeph 47 10 2 1)],1,138,[1,2]⟩
noncomputable def ziv:FI dat:=FI.of dat 104 138 1 [(.ptr 0 0),(.dp 1 0),dS,dS] [(.cells [(.own 2),(.own 3),dB]),(.deep 57 9),(.acc 49 (.st 6) true),(.deeph 47 10 2 1)] [] [(.cells [(.own 2),(.own 3),dB]),(.deep 57 9),(.acc 49 (.st 6) true),(.deeph 47 10 2 1)] false zur (R:=Bool×z1o×z02×yzf×Int) (λx=>(x.1,x.2.1,x.2.2.1,x.2.2.2.1,x.2.2.2.2.1)) (λr=>(r.1,r.2.1,r.2.2.1,r.2.2.2.1,r.2.2.2.2,())) (λn=>u8 (zcx n))
 (λn=>[(0,⟨⟨[(10,dL 5),(9,dS),(8,dI),(11,dI),(1,(.dp 1 0)),(0,(.ptr 0 0)),(45,dB)],[(.cells [(.own 2),(.own 3),dB]),(.deep 57 9),(.acc 49 (.st 6) true),(.deeph 47 10 2 1)],1,138,[1,2]⟩,u11 (z5p n)⟩),(1,⟨⟨[(12,(.ptr 4 0)),(1,(.dp 1 0))],[(.cells [(.own 2),(.own 3),dB]),(.deep 57 9),(.acc 49 (.st 6) true),(.deeph 47 10 2 1),(.cells [dU,dU,dS,dL 5,(.own 5)]),(.acc 43 (.st 7) true)],1,138,[1,2]⟩,u11 (kzo n)⟩)]) (anb [(13,0),(49,1)] f104) [1,2]
theorem ztr:FOk prog ziv:=okF (bs:=[zl3,z8y,zl2,z3f,yzp,zdj]) ⟨zv9,zep,zw7,zas,z26,zi8,trivial⟩ func104 ntmps104 call104
 (λ_ _=>tr (zcx.eq_2 ..))
 (λn=>⟨λ_=>tr (z5p.eq_2 _ _ _ _ _ _ _ _ _ _ _ n),
  λ_=>tr (kzo.eq_2 _ _ _ _ _ _ _ _ _ _ _ n),
  trivial⟩)
mutual
def zen:Nat->B8->Bool->z02->yzf->Ot (Bool×z02×yzf)
 |0,_,_,_,_=>none
 |n+1,a,b,c,d=>
  (z7w n a [32]).bind λy0=>
  pIf (y0.1==[97,116,116,114])
   (z8e n y0.2.1 (d.length:Int) y0.1 ((d.length:Int)==0) b c d)
   (z8e n y0.2.1 (d.length:Int) y0.1 false b c d)
def z8e:Nat->B8->Int->B8->Bool->Bool->z02->yzf->Ot (Bool×z02×yzf)
 |0,_,_,_,_,_,_,_=>none
 |n+1,a,b,c,d,e,f,g=>
  pIf d
   ((z7w n a [32]).bind λy1=>
   (z15 n y1.2.1 e).bind λy2=>
   (ext f [(zzi.mk y1.1 y2.2.re)]).bind λx3=>
   some (y2.1,x3,g))
   (pIf (c==[114,117,108,101])
     ((zf5 n a [32]).bind λy4=>
     (ix y4 0).bind λx5=>
     (sub y4 1 (y4.length:Int)).bind λx6=>
     (ext g [(yz5.mk x5 x6 [])]).bind λx7=>
     some (e,f,x7))
     (pIf (b==0)
       (some (false,f,g))
       (pIf (c==[99,97,115,101])
         ((z7w n a [32]).bind λy8=>
         (zgk n y8.1).bind λy9=>
         zpx y9 (λr10=>
          pIf e
           (z0z n y8.2.1 r10 b true f g)
           (z0z n y8.2.1 r10 b false f g))
          (λe11=>
          pIf e
           (z0z n y8.2.1 e11.1 b false f g)
           (z0z n y8.2.1 e11.1 b false f g)))
         ((ix g (IntKind.i64.wrap (b-1))).bind λx12=>
         (ix g (IntKind.i64.wrap (b-1))).bind λx13=>
         (ix g (IntKind.i64.wrap (b-1))).bind λx14=>
         pIf (decide ((x13.cases.length:Int)>0))
          ((ix g (IntKind.i64.wrap (b-1))).bind λx15=>
          (zlb (IntKind.i64.wrap (b-1)) (IntKind.i64.wrap (b-1))).bind λx16=>
          (ix g (IntKind.i64.wrap (b-1))).bind λx17=>
          (ix x13.cases (IntKind.i64.wrap ((x13.cases.length:Int)-1))).bind λx18=>
          (zcx n (IntKind.i64.wrap ((x13.cases.length:Int)-1)) c a e x13.cases f g (IntKind.i64.wrap (b-1))).bind λy19=>
          (ix y19.2.2.2.1 y19.2.2.2.2).bind λx20=>
          some (y19.1,y19.2.2.1,(y19.2.2.2.1.set (Int.toNat y19.2.2.2.2) (yz5.mk x20.name x20.params y19.2.1))))
          ((ix g (IntKind.i64.wrap (b-1))).bind λx21=>
          some (false,f,(g.set (Int.toNat (IntKind.i64.wrap (b-1))) (yz5.mk x21.name x21.params x13.cases))))))))
def z0z:Nat->B8->Int->Int->Bool->z02->yzf->Ot (Bool×z02×yzf)
 |0,_,_,_,_,_,_=>none
 |n+1,a,b,c,d,e,f=>
  (ix f (IntKind.i64.wrap (c-1))).bind λx22=>
  (ix f (IntKind.i64.wrap (c-1))).bind λx23=>
  (zlb (IntKind.i64.wrap (c-1)) (IntKind.i64.wrap (c-1))).bind λx24=>
  (ix f (IntKind.i64.wrap (c-1))).bind λx25=>
  (z15 n a d).bind λy26=>
  (ext x22.cases [(zz6.mk b y26.2.re [])]).bind λx27=>
  (ix f (IntKind.i64.wrap (c-1))).bind λx28=>
  (zlb (IntKind.i64.wrap (c-1)) (IntKind.i64.wrap (c-1))).bind λx29=>
  (ix f (IntKind.i64.wrap (c-1))).bind λx30=>
  (ix f (IntKind.i64.wrap (c-1))).bind λx31=>
  some (y26.1,e,(f.set (Int.toNat (IntKind.i64.wrap (c-1))) (yz5.mk x31.name x31.params x27)))
end
def zyt:LSh:=⟨[],[(.cells [(.own 1),(.own 2),dB]),(.acc 49 (.st 6) true),(.deep 47 10)],1,171,[]⟩
noncomputable def zfv:FI dat:=FI.of dat 43 171 1 [(.ptr 0 0),dS] [(.cells [(.own 1),(.own 2),dB]),(.acc 49 (.st 6) true),(.deep 47 10)] [] [(.cells [(.own 1),(.own 2),dB]),(.acc 49 (.st 6) true),(.deep 47 10)] false zyt (R:=Bool×z02×yzf) (λx=>(x.1,x.2.1,x.2.2.1)) (λr=>(r.1,r.2.1,r.2.2,())) (λn=>u4 (zen n))
 (λn=>[(0,⟨⟨[(0,(.ptr 0 0)),(5,dS),(7,dI),(4,dS),(63,dB)],[(.cells [(.own 1),(.own 2),dB]),(.acc 49 (.st 6) true),(.deep 47 10)],1,171,[]⟩,u7 (z8e n)⟩),(1,⟨⟨[(13,dS),(0,(.ptr 0 0)),(15,dI),(7,dI)],[(.cells [(.own 1),(.own 2),dB]),(.acc 49 (.st 6) true),(.deep 47 10)],1,171,[]⟩,u6 (z0z n)⟩)]) (anb [(7,0),(30,1)] f43)
theorem zwt:FOk prog zfv:=okF (bs:=[z8y,zwq,ziv,zdj,zui]) ⟨zep,y9f,ztr,zi8,y68,trivial⟩ func43 ntmps43 call43
 (λ_ _=>tr (zen.eq_2 ..))
 (λn=>⟨λ_=>tr (z8e.eq_2 ..),
  λ_=>tr (z0z.eq_2 ..),
  trivial⟩)
mutual
noncomputable def zmz:Nat->B8->Ot (yz1×Int)
 |0,_=>none
 |n+1,a=>
  pIf (decide ((a.length:Int)>20000))
   (some ((yz1.mk [] []),12))
   (pIf (!(a==[]))
     ((zej n a [10]).bind λy0=>
     pIf (!y0)
      (some ((yz1.mk [] []),12))
      ((zfi n a).bind λy1=>
      zaw n a y1 0 [] [] true [] []))
     ((zfi n a).bind λy2=>
     zaw n a y2 0 [] [] true [] []))
noncomputable def zaw:Nat->B8->B8->Int->z02->yzf->Bool->z02->yzf->Ot (yz1×Int)
 |0,_,_,_,_,_,_,_,_=>none
 |n+1,a,b,c,d,e,f,g,h=>
  (if b.length<=4611686018427387904 then (Option.some ())else Option.none).bind λx3=>
  pIf (noS b)
   ((z7k n (yz1.mk g h)).bind λy4=>
   pIf (y4.2 != 0)
    (some ((yz1.mk [] []),12))
    (pIf (!(y4.1==a))
      (some ((yz1.mk [] []),12))
      (some ((yz1.mk g h),0))))
   ((ze2 n (lnA b) [10]).bind λy5=>
   (zen n y5 f g h).bind λy6=>
   pIf (!y6.1)
    (some ((yz1.mk [] []),12))
    ((z023 (lnB b) (lnB b)).bind λx7=>
    zaw n a (lnB b) c d e y6.1 y6.2.1 y6.2.2))
end
def yh1:LSh:=⟨[(2,(.ptr 0 0)),(3,(.ptr 1 0))],[(.st 11),(.cells [dI])],0,56,[]⟩
noncomputable def zjn:FI dat:=FI.ofM dat 14 56 0 [dS] [] [dT 11,dI] [] yh1 (R:=yz1×Int) (λx=>(x.1,x.2.1)) (λr=>(r.1,r.2,())) (λn=>u1 (zmz n))
 (λn=>[(0,⟨⟨[(24,(.fn 98 [] [(.ptr 0 0)])),(2,(.ptr 1 0)),(3,(.ptr 2 0)),(4,(.ptr 3 0)),(0,dS)],[(.cells [dS]),(.cells [(.own 4),(.own 5)]),(.cells [dI]),(.cells [(.ptr 6 0)]),(.acc 49 (.st 6) true),(.deep 47 10),(.cells [(.own 7),(.own 8),dB]),(.acc 49 (.st 6) true),(.deep 47 10)],0,56,[]⟩,u8 (zaw n)⟩)]) (anb [(16,0),(1000016,98)] f14)
noncomputable def yfu:List (FI dat):=[zdb,zfv,zfz,zi2,zeq]
theorem yg1:(zjn).Good prog dat (tb yfu):=FI.z03d (hD:=zz8 _) func14 ntmps14 call14 (by kernel_rfl) (Qac (by kernel_rfl)) (by kernel_rfl) (λn=>by kernel_rfl) (λx=>by kernel_rfl) (λ_=>rfl) ⟨λ_=>rfl,trivial⟩
 (λn=>λ_=>tr (zmz.eq_2 _ n))
 (λn=>⟨λ_=>tr (zaw.eq_2 _ _ _ _ _ _ _ _ n),
  trivial⟩)
 (z04w (by kernel_rfl) yxh)
theorem ygm:OkL prog [zjn]:=zq0 (zz8 _) (bs:=[zdb,zfv,zfz,zi2,zeq]) ⟨y75,zwt,zwr,zpz,zv2,trivial⟩ yg1
theorem yf5:FOk prog zjn:=ygm.1
def zdv:Nat->yz5->B8->Ot (Bool×B8)
 |0,_,_=>none
 |n+1,a,b=>
  some ((a.name==b),b)
def ymk:LSh:=⟨[(3,dB)],[(.cells [dS])],1,8,[]⟩
noncomputable def y3p:FI dat:=FI.of dat 107 8 1 [dT 10,(.ptr 0 0)] [(.cells [dS])] [dB] [(.cells [dS])] false ymk (R:=Bool×B8) (λx=>(x.1,x.2.1)) (λr=>(r.1,r.2,())) (λn=>u2 (zdv n))
 (λn=>[]) (anb [] f107)
theorem yh7:FOk prog y3p:=okF (bs:=[]) trivial func107 ntmps107 call107
 (λn=>λ_=>tr (zdv.eq_2 _ _ n))
 (λn=>trivial)
mutual
def kzf:Nat->yzf->B8->Ot (Int×B8)
 |0,_,_=>none
 |n+1,a,b=>
  kz8 n 0 a (a.length:Int) b
def kz8:Nat->Int->yzf->Int->B8->Ot (Int×B8)
 |0,_,_,_,_=>none
 |n+1,a,b,c,d=>
  pIf (decide (a<c))
   ((ix b a).bind λx0=>
   (zdv n x0 d).bind λy1=>
   pIf y1.1
    (some (a,y1.2))
    (kz8 n (IntKind.i64.wrap (a+1)) b c y1.2))
   (some ((-1),d))
end
def zfx:LSh:=⟨[(4,dI)],[(.cells [dS])],1,19,[]⟩
noncomputable def z94:FI dat:=FI.of dat 106 19 1 [dL 10,(.fn 107 [] [(.ptr 0 0)])] [(.cells [dS])] [dI] [(.cells [dS])] false zfx (R:=Int×B8) (λx=>(x.1,x.2.1)) (λr=>(r.1,r.2,())) (λn=>u2 (kzf n))
 (λn=>[(0,⟨⟨[(8,dI),(0,dL 10),(1,(.fn 107 [] [(.ptr 0 0)])),(7,dI)],[(.cells [dS])],1,19,[]⟩,u4 (kz8 n)⟩)]) (anb [(6,0)] f106)
theorem zf4:FOk prog z94:=okF (bs:=[y3p]) ⟨yh7,trivial⟩ func106 ntmps106 call106
 (λ_ _=>tr (kzf.eq_2 ..))
 (λn=>⟨λ_=>tr (kz8.eq_2 ..),
  trivial⟩)
def zcm:Nat->yz1->B8->Ot Int
 |0,_,_=>none
 |n+1,a,b=>
  (kzf n a.rules b).bind λy0=>
  some y0.1
def ys8:LSh:=⟨[(4,dI)],[],0,9,[]⟩
noncomputable def y2w:FI dat:=FI.of dat 45 9 0 [dT 11,dS] [] [dI] [] true ys8 (R:=Int) Prod.fst (·,()) (λn=>u2 (zcm n))
 (λn=>[]) (anb [] f45)
theorem y89:FOk prog y2w:=okF (bs:=[z94]) ⟨zf4,trivial⟩ func45 ntmps45 call45
 (λ_ _=>tr (zcm.eq_2 ..))
 (λn=>trivial)
mutual
noncomputable def z2i:Nat->yz1->B8->Ot ((List B8)×Int)
 |0,_,_=>none
 |n+1,a,b=>
  (z54 n a).bind λy0=>
  pIf (y0 != 0)
   (some ([],y0))
   ((zcm n a b).bind λy1=>
   pIf (decide (y1<0))
    (some ([],6))
    (z4k n 0 [b] (mks (zc5 [] b true)) (mvs (zc5 [] b true)) a))
noncomputable def z4k:Nat->Int->(List B8)->(List B8)->(List Bool)->yz1->Ot ((List B8)×Int)
 |0,_,_,_,_,_=>none
 |n+1,a,b,c,d,e=>
  pIf (decide (a<(b.length:Int)))
   ((ix b a).bind λx2=>
   (zcm n e x2).bind λy3=>
   (ix e.rules y3).bind λx4=>
   (z88 n x4).bind λy5=>
   z4e n 0 y5 a (y5.length:Int) b (mks (List.zip c d)) (mvs (List.zip c d)) e)
   ((kze n b).bind λy6=>
   some (y6,0))
noncomputable def z4e:Nat->Int->z86->Int->Int->(List B8)->(List B8)->(List Bool)->yz1->Ot ((List B8)×Int)
 |0,_,_,_,_,_,_,_,_=>none
 |n+1,a,b,c,d,e,f,g,h=>
  pIf (decide (a<d))
   ((ix b a).bind λx7=>
   pIf (!(Option.getD (z8a (List.zip f g) x7.name) false))
    ((ext e [x7.name]).bind λx8=>
    z8f n b c d a x8 (mks (zc5 (List.zip f g) x7.name true)) (mvs (zc5 (List.zip f g) x7.name true)) h)
    (z8f n b c d a e (mks (List.zip f g)) (mvs (List.zip f g)) h))
   (z4k n (IntKind.i64.wrap (c+1)) e (mks (List.zip f g)) (mvs (List.zip f g)) h)
noncomputable def z8f:Nat->z86->Int->Int->Int->(List B8)->(List B8)->(List Bool)->yz1->Ot ((List B8)×Int)
 |0,_,_,_,_,_,_,_,_=>none
 |n+1,a,b,c,d,e,f,g,h=>
  z4e n (IntKind.i64.wrap (d+1)) a b c e (mks (List.zip f g)) (mvs (List.zip f g)) h
end
def yf9:LSh:=⟨[(4,dA),(5,dI)],[],0,65,[]⟩
noncomputable def zq7:FI dat:=FI.of dat 15 65 0 [dT 11,dS] [] [dA,dI] [] true yf9 (R:=(List B8)×Int) (λx=>(x.1,x.2.1)) (λr=>(r.1,r.2,())) (λn=>u2 (z2i n))
 (λn=>[(0,⟨⟨[(8,(.own 0)),(7,(.map 1)),(9,dI),(2,(.ptr 2 0))],[(.acc 9 .str true),(.mp 76 .bool),(.st 11)],0,65,[]⟩,u5 (z4k n)⟩),(1,⟨⟨[(44,dI),(8,(.own 0)),(7,(.map 1)),(42,dL 12),(2,(.ptr 2 0)),(9,dI),(43,dI)],[(.acc 9 .str true),(.mp 76 .bool),(.st 11)],0,65,[]⟩,u8 (z4e n)⟩),(2,⟨⟨[(8,(.own 0)),(7,(.map 1)),(42,dL 12),(2,(.ptr 2 0)),(9,dI),(43,dI),(44,dI)],[(.acc 9 .str true),(.mp 76 .bool),(.st 11)],0,65,[]⟩,u8 (z8f n)⟩)]) (anb [(28,0),(40,1),(58,2)] f15)
theorem zwu:FOk prog zq7:=okF (bs:=[z0u,zgg,y2w,zjf]) ⟨z8k,zhy,y89,znf,trivial⟩ func15 ntmps15 call15
 (λn=>λ_=>tr (z2i.eq_2 _ _ n))
 (λn=>⟨λ_=>tr (z4k.eq_2 _ _ _ _ _ n),
  λ_=>tr (z4e.eq_2 _ _ _ _ _ _ _ _ n),
  λ_=>tr (z8f.eq_2 _ _ _ _ _ _ _ _ n),
  trivial⟩)
mutual
noncomputable def zms:Nat->yz1->B8->Ot ((List B8)×Int)
 |0,_,_=>none
 |n+1,a,b=>
  (z54 n a).bind λy0=>
  pIf (y0 != 0)
   (some ([],y0))
   ((zcm n a b).bind λy1=>
   pIf (decide (y1<0))
    (some ([],6))
    ((ix a.rules y1).bind λx2=>
    (z88 n x2).bind λy3=>
    ze4 n 0 y3 (y3.length:Int) []))
noncomputable def ze4:Nat->Int->z86->Int->(List B8)->Ot ((List B8)×Int)
 |0,_,_,_,_=>none
 |n+1,a,b,c,d=>
  pIf (decide (a<c))
   ((ix b a).bind λx4=>
   (ext d [x4.name]).bind λx5=>
   ze4 n (IntKind.i64.wrap (a+1)) b c x5)
   ((kze n d).bind λy6=>
   (zbu n y6).bind λy7=>
   some (y7,0))
end
def yi0:LSh:=⟨[(4,dA),(5,dI)],[],0,42,[]⟩
noncomputable def y0k:FI dat:=FI.of dat 19 42 0 [dT 11,dS] [] [dA,dI] [] true yi0 (R:=(List B8)×Int) (λx=>(x.1,x.2.1)) (λr=>(r.1,r.2,())) (λn=>u2 (zms n))
 (λn=>[(0,⟨⟨[(28,dI),(8,(.own 0)),(26,dL 12),(27,dI)],[(.acc 9 .str true)],0,42,[]⟩,u4 (ze4 n)⟩)]) (anb [(28,0)] f19)
theorem yc4:FOk prog y0k:=okF (bs:=[z0u,zc9,zgg,y2w,zjf]) ⟨z8k,zim,zhy,y89,znf,trivial⟩ func19 ntmps19 call19
 (λn=>λ_=>tr (zms.eq_2 _ _ n))
 (λn=>⟨λ_=>tr (ze4.eq_2 _ _ _ _ n),
  trivial⟩)
mutual
def yzr:Nat->(List B8)->(List B8)->Ot Bool
 |0,_,_=>none
 |n+1,a,b=>
  pIf ((a.length:Int) != (b.length:Int))
   (some false)
   (yzw n 0 b a)
def yzw:Nat->Int->(List B8)->(List B8)->Ot Bool
 |0,_,_,_=>none
 |n+1,a,b,c=>
  pIf (decide (a<(c.length:Int)))
   ((ix c a).bind λx0=>
   (ix b a).bind λx1=>
   pIf (!(x0==x1))
    (some false)
    (yzw n (IntKind.i64.wrap (a+1)) b c))
   (some true)
end
def zys:LSh:=⟨[(4,dB)],[],0,26,[]⟩
noncomputable def zfq:FI dat:=FI.of dat 22 26 0 [dA,dA] [] [dB] [] true zys (R:=Bool) Prod.fst (·,()) (λn=>u2 (yzr n))
 (λn=>[(0,⟨⟨[(5,dI),(1,dA),(0,dA)],[],0,26,[]⟩,u3 (yzw n)⟩)]) (anb [(14,0)] f22)
theorem zkd:FOk prog zfq:=okF (bs:=[]) trivial func22 ntmps22 call22
 (λ_ _=>tr (yzr.eq_2 ..))
 (λn=>⟨λ_=>tr (yzw.eq_2 ..),
  trivial⟩)
noncomputable def zzl:Nat->Option Bool
 |0=>none
 |n+1=>
  (zmz n (List.append (List.append [97,116,116,114,32,102,108,111,111,114,32,51,10,114,117,108,101,32,104,111,117,115,101,32,110,10,99,97,115,101,32,49,32,40,110,32,60,32,49] [41,10,108,101,97,102,32,34,114,111,111,102,34,10,99,97,115,101,32,49,32,110,111,116,40,40,110,32,60,32,49,41,41,10,115,112,108,105,116,32]) (List.append [122,10,102,105,120,101,100,32,119,97,108,108,32,91,102,108,111,111,114,93,10,114,101,115,116,32,104,111,117,115,101,32,91,49,44,32,40,110,32,45] [32,49,41,93,10,114,117,108,101,32,119,97,108,108,10,99,97,115,101,32,50,32,116,114,117,101,10,108,101,97,102,32,34,98,114,105,99,107,34,10]))).bind λy0=>
  (z7k n y0.1).bind λy1=>
  (zms n y0.1 [104,111,117,115,101]).bind λy2=>
  (z2i n y0.1 [104,111,117,115,101]).bind λy3=>
  (z2i n y0.1 [119,97,108,108]).bind λy4=>
  pIf (y0.2==0)
   (pIf ((y0.1.attrs.length:Int)==1)
     (pIf ((y0.1.rules.length:Int)==2)
       (pIf (y1.2==0)
         (pIf (y1.1==(List.append (List.append [97,116,116,114,32,102,108,111,111,114,32,51,10,114,117,108,101,32,104,111,117,115,101,32,110,10,99,97,115,101,32,49,32,40,110,32,60,32,49] [41,10,108,101,97,102,32,34,114,111,111,102,34,10,99,97,115,101,32,49,32,110,111,116,40,40,110,32,60,32,49,41,41,10,115,112,108,105,116,32]) (List.append [122,10,102,105,120,101,100,32,119,97,108,108,32,91,102,108,111,111,114,93,10,114,101,115,116,32,104,111,117,115,101,32,91,49,44,32,40,110,32,45] [32,49,41,93,10,114,117,108,101,32,119,97,108,108,10,99,97,115,101,32,50,32,116,114,117,101,10,108,101,97,102,32,34,98,114,105,99,107,34,10])))
           (pIf (y2.2==0)
             ((yzr n y2.1 [[104,111,117,115,101],[119,97,108,108]]).bind λy5=>
             pIf y5
              (pIf (y3.2==0)
                ((yzr n y3.1 [[104,111,117,115,101],[119,97,108,108]]).bind λy6=>
                pIf y6
                 (pIf (y4.2==0)
                   ((yzr n y4.1 [[119,97,108,108]]).bind λy7=>
                   some y7)
                   (some false))
                 (some false))
                (some false))
              (some false))
             (some false))
           (some false))
         (some false))
       (some false))
     (some false))
   (some false)
def zvp:LSh:=⟨[(0,dB)],[],0,84,[]⟩
noncomputable def zjt:FI dat:=FI.of dat 16 84 0 [] [] [dB] [] true zvp (R:=Bool) Prod.fst (·,()) (λn x=>zzl n)
 (λn=>[]) (anb [] f16)
theorem zuq:FOk prog zjt:=okF (bs:=[zjn,zi2,y0k,zq7,zfq]) ⟨yf5,zpz,yc4,zwu,zkd,trivial⟩ func16 ntmps16 call16
 (λn=>λx=>(zzl.eq_2 n).trans (by kernel_rfl))
 (λn=>trivial)
mutual
def za0:Nat->kz0->Int->Ot Bool
 |0,_,_=>none
 |n+1,a,b=>
  pIf (b==0)
   (z2f n b true a.re)
   (pIf (decide ((a.str.length:Int)>200))
     (z2f n b true a.re)
     (z2f n b (decide ((a.list.length:Int)>150)) a.re))
def z2f:Nat->Int->Bool->kz0->Ot Bool
 |0,_,_,_=>none
 |n+1,a,b,c=>
  pIf b
   (some true)
   (z4r n 0 a c.re)
def z4r:Nat->Int->Int->kz0->Ot Bool
 |0,_,_,_=>none
 |n+1,a,b,c=>
  pIf (decide (a<(c.list.length:Int)))
   ((ix c.list a).bind λx0=>
   (za0 n x0.re (IntKind.i64.wrap (b-1))).bind λy1=>
   pIf y1
    (some true)
    (z4r n (IntKind.i64.wrap (a+1)) b c.re))
   (some false)
end
def yhj:LSh:=⟨[(4,dB)],[],0,35,[]⟩
noncomputable def zgc:FI dat:=FI.of dat 215 35 0 [dT 4,dI] [] [dB] [] true yhj (R:=Bool) Prod.fst (·,()) (λn=>u2 (za0 n))
 (λn=>[(0,⟨⟨[(1,dI),(2,(.ptr 0 0)),(19,dB)],[(.st 4)],0,35,[]⟩,u3 (z2f n)⟩),(1,⟨⟨[(5,dI),(1,dI),(2,(.ptr 0 0))],[(.st 4)],0,35,[]⟩,u3 (z4r n)⟩)]) (anb [(5,0),(14,1)] f215)
noncomputable def yhx:List (FI dat):=[zgc]++[]
theorem yhu:(zgc).Good prog dat (tb yhx):=FI.z0t (hD:=zz8 _) func215 ntmps215 call215 (by kernel_rfl) (Qac (by kernel_rfl)) (by kernel_rfl) (λn=>by kernel_rfl) (λx=>by kernel_rfl) (λ_=>rfl) ⟨λ_=>rfl,λ_=>rfl,trivial⟩
 (λ_ _=>tr (za0.eq_2 ..))
 (λn=>⟨λ_=>tr (z2f.eq_2 ..),
  λ_=>tr (z4r.eq_2 ..),
  trivial⟩)
 (λx=>.inl rfl)
theorem yhs:OkL prog [zgc]:=z5k (zz8 _) (bs:=[]) trivial ⟨yhu,trivial⟩
theorem ycf:FOk prog zgc:=yhs.1
mutual
def z7y:Nat->kz0->Ot Int
 |0,_=>none
 |n+1,a=>
  z4n n 0 1 a.re
def z4n:Nat->Int->Int->kz0->Ot Int
 |0,_,_,_=>none
 |n+1,a,b,c=>
  pIf (decide (a<(c.list.length:Int)))
   (z52 n a b (c.kind==4) c.re)
   (z52 n a b false c.re)
def z52:Nat->Int->Int->Bool->kz0->Ot Int
 |0,_,_,_,_=>none
 |n+1,a,b,c,d=>
  pIf c
   ((ix d.list a).bind λx0=>
   (z7y n x0.re).bind λy1=>
   z4n n (IntKind.i64.wrap (a+1)) (IntKind.i64.wrap (b+y1)) d.re)
   (some b)
end
def yga:LSh:=⟨[(2,dI)],[],0,26,[]⟩
noncomputable def zdo:FI dat:=FI.of dat 216 26 0 [dT 4] [] [dI] [] true yga (R:=Int) Prod.fst (·,()) (λn=>u1 (z7y n))
 (λn=>[(0,⟨⟨[(4,dI),(1,(.ptr 0 0)),(3,dI)],[(.st 4)],0,26,[]⟩,u3 (z4n n)⟩),(1,⟨⟨[(1,(.ptr 0 0)),(4,dI),(3,dI),(14,dB)],[(.st 4)],0,26,[]⟩,u4 (z52 n)⟩)]) (anb [(8,0),(12,1)] f216)
noncomputable def yi1:List (FI dat):=[zdo]++[]
theorem yhe:(zdo).Good prog dat (tb yi1):=FI.z0t (hD:=zz8 _) func216 ntmps216 call216 (by kernel_rfl) (Qac (by kernel_rfl)) (by kernel_rfl) (λn=>by kernel_rfl) (λx=>by kernel_rfl) (λ_=>rfl) ⟨λ_=>rfl,λ_=>rfl,trivial⟩
 (λ_ _=>tr (z7y.eq_2 ..))
 (λn=>⟨λ_=>tr (z4n.eq_2 ..),
  λ_=>tr (z52.eq_2 ..),
  trivial⟩)
 (λx=>.inl rfl)
theorem yia:OkL prog [zdo]:=z5k (zz8 _) (bs:=[]) trivial ⟨yhe,trivial⟩
theorem zw1:FOk prog zdo:=yia.1
def zc0:Nat->kz0->Ot Bool
 |0,_=>none
 |n+1,a=>
  (za0 n a.re 10).bind λy0=>
  pIf y0
   (some true)
   ((z7y n a.re).bind λy1=>
   some (decide (y1>150)))
def yh9:LSh:=⟨[(2,dB)],[],0,10,[]⟩
noncomputable def zqn:FI dat:=FI.of dat 173 10 0 [dT 4] [] [dB] [] true yh9 (R:=Bool) Prod.fst (·,()) (λn=>u1 (zc0 n))
 (λn=>[]) (anb [] f173)
theorem ydl:FOk prog zqn:=okF (bs:=[zgc,zdo]) ⟨ycf,zw1,trivial⟩ func173 ntmps173 call173
 (λ_ _=>tr (zc0.eq_2 ..))
 (λn=>trivial)
mutual
def z9w:Nat->zz1->Int->Ot Bool
 |0,_,_=>none
 |n+1,a,b=>
  pIf (b==0)
   (z0v n b true a.re)
   (pIf (decide ((a.args.length:Int)>150))
     (z0v n b true a.re)
     (pIf (decide ((a.name.length:Int)>200))
       (z0v n b true a.re)
       ((zc0 n a.value.re).bind λy0=>
       z0v n b y0 a.re)))
def z0v:Nat->Int->Bool->zz1->Ot Bool
 |0,_,_,_=>none
 |n+1,a,b,c=>
  pIf b
   (some true)
   (z3z n 0 a c.re)
def z3z:Nat->Int->Int->zz1->Ot Bool
 |0,_,_,_=>none
 |n+1,a,b,c=>
  pIf (decide (a<(c.args.length:Int)))
   ((ix c.args a).bind λx1=>
   (z9w n x1.re (IntKind.i64.wrap (b-1))).bind λy2=>
   pIf y2
    (some true)
    (z3z n (IntKind.i64.wrap (a+1)) b c.re))
   (some false)
end
def ygd:LSh:=⟨[(4,dB)],[],0,40,[]⟩
noncomputable def zgb:FI dat:=FI.of dat 110 40 0 [dT 5,dI] [] [dB] [] true ygd (R:=Bool) Prod.fst (·,()) (λn=>u2 (z9w n))
 (λn=>[(0,⟨⟨[(1,dI),(2,(.ptr 0 0)),(24,dB)],[(.st 5)],0,40,[]⟩,u3 (z0v n)⟩),(1,⟨⟨[(5,dI),(1,dI),(2,(.ptr 0 0))],[(.st 5)],0,40,[]⟩,u3 (z3z n)⟩)]) (anb [(5,0),(14,1)] f110)
noncomputable def yge:List (FI dat):=[zgb]++[zqn]
theorem yg4:(zgb).Good prog dat (tb yge):=FI.z0t (hD:=zz8 _) func110 ntmps110 call110 (by kernel_rfl) (Qac (by kernel_rfl)) (by kernel_rfl) (λn=>by kernel_rfl) (λx=>by kernel_rfl) (λ_=>rfl) ⟨λ_=>rfl,λ_=>rfl,trivial⟩
 (λ_ _=>tr (z9w.eq_2 ..))
 (λn=>⟨λ_=>tr (z0v.eq_2 ..),
  λ_=>tr (z3z.eq_2 ..),
  trivial⟩)
 (λx=>.inl rfl)
theorem ygi:OkL prog [zgb]:=z5k (zz8 _) (bs:=[zqn]) ⟨ydl,trivial⟩ ⟨yg4,trivial⟩
theorem yav:FOk prog zgb:=ygi.1
mutual
def z84:Nat->zz1->Ot Int
 |0,_=>none
 |n+1,a=>
  z4p n 0 1 a.re
def z4p:Nat->Int->Int->zz1->Ot Int
 |0,_,_,_=>none
 |n+1,a,b,c=>
  pIf (decide (a<(c.args.length:Int)))
   ((ix c.args a).bind λx0=>
   (z84 n x0.re).bind λy1=>
   z4p n (IntKind.i64.wrap (a+1)) (IntKind.i64.wrap (b+y1)) c.re)
   (some b)
end
def yim:LSh:=⟨[(2,dI)],[],0,21,[]⟩
noncomputable def zdq:FI dat:=FI.of dat 111 21 0 [dT 5] [] [dI] [] true yim (R:=Int) Prod.fst (·,()) (λn=>u1 (z84 n))
 (λn=>[(0,⟨⟨[(4,dI),(1,(.ptr 0 0)),(3,dI)],[(.st 5)],0,21,[]⟩,u3 (z4p n)⟩)]) (anb [(8,0)] f111)
noncomputable def yik:List (FI dat):=[zdq]++[]
theorem yfg:(zdq).Good prog dat (tb yik):=FI.z0t (hD:=zz8 _) func111 ntmps111 call111 (by kernel_rfl) (Qac (by kernel_rfl)) (by kernel_rfl) (λn=>by kernel_rfl) (λx=>by kernel_rfl) (λ_=>rfl) ⟨λ_=>rfl,trivial⟩
 (λ_ _=>tr (z84.eq_2 ..))
 (λn=>⟨λ_=>tr (z4p.eq_2 ..),
  trivial⟩)
 (λx=>.inl rfl)
theorem yfh:OkL prog [zdq]:=z5k (zz8 _) (bs:=[]) trivial ⟨yfg,trivial⟩
theorem zv7:FOk prog zdq:=yfh.1
def z4v:Nat->zz1->Ot Bool
 |0,_=>none
 |n+1,a=>
  (z9w n a.re 16).bind λy0=>
  pIf y0
   (some true)
   ((z84 n a.re).bind λy1=>
   some (decide (y1>150)))
def yi5:LSh:=⟨[(2,dB)],[],0,10,[]⟩
noncomputable def zql:FI dat:=FI.of dat 48 10 0 [dT 5] [] [dB] [] true yi5 (R:=Bool) Prod.fst (·,()) (λn=>u1 (z4v n))
 (λn=>[]) (anb [] f48)
theorem zwk:FOk prog zql:=okF (bs:=[zgb,zdq]) ⟨yav,zv7,trivial⟩ func48 ntmps48 call48
 (λ_ _=>tr (z4v.eq_2 ..))
 (λn=>trivial)
def z1m:Nat->yz6->Ot zz1
 |0,_=>none
 |n+1,a=>
  some (zz1.mk 18 (kz0.mk 0 (yz4.mk 0 0) false [] []) [] a)
def ymh:LSh:=⟨[(2,(.ptr 0 0))],[(.st 5)],0,5,[]⟩
noncomputable def zll:FI dat:=FI.of dat 112 5 0 [dL 5] [] [dT 5] [] true ymh (R:=zz1) Prod.fst (·,()) (λn=>u1 (z1m n))
 (λn=>[]) (anb [] f112)
theorem zqh:FOk prog zll:=okF (bs:=[]) trivial func112 ntmps112 call112
 (λn=>λ_=>tr (z1m.eq_2 _ n))
 (λn=>trivial)
mutual
def z77:Nat->zz6->Ot Bool
 |0,_=>none
 |n+1,a=>
  pIf (decide ((a.do_.length:Int)>15))
   (z0p n true a.re)
   ((z4v n a.when_.re).bind λy0=>
   z0p n y0 a.re)
def z0p:Nat->Bool->zz6->Ot Bool
 |0,_,_=>none
 |n+1,a,b=>
  pIf a
   (some true)
   (z0n n 0 b.re)
def z0n:Nat->Int->zz6->Ot Bool
 |0,_,_=>none
 |n+1,a,b=>
  pIf (decide (a<(b.do_.length:Int)))
   ((ix b.do_ a).bind λx1=>
   (z1m n x1.args).bind λy2=>
   (z4v n y2.re).bind λy3=>
   pIf y3
    (zzu n a true b.re)
    ((ix b.do_ a).bind λx4=>
    pIf (decide ((x4.items.length:Int)>15))
     (zzu n a true b.re)
     ((ix b.do_ a).bind λx5=>
     zzu n a (decide ((x5.name.length:Int)>100)) b.re)))
   (some false)
def zzu:Nat->Int->Bool->zz6->Ot Bool
 |0,_,_,_=>none
 |n+1,a,b,c=>
  pIf b
   (some true)
   (z0o n 0 a c.re)
def z0o:Nat->Int->Int->zz6->Ot Bool
 |0,_,_,_=>none
 |n+1,a,b,c=>
  (ix c.do_ b).bind λx6=>
  pIf (decide (a<(x6.items.length:Int)))
   ((ix c.do_ b).bind λx7=>
   (ix x7.items a).bind λx8=>
   (z1m n x8.args).bind λy9=>
   (z4v n y9.re).bind λy10=>
   pIf y10
    (z0q n b a true c.re)
    ((ix c.do_ b).bind λx11=>
    (ix x11.items a).bind λx12=>
    z0q n b a (decide ((x12.name.length:Int)>100)) c.re))
   (z0n n (IntKind.i64.wrap (b+1)) c.re)
def z0q:Nat->Int->Int->Bool->zz6->Ot Bool
 |0,_,_,_,_=>none
 |n+1,a,b,c,d=>
  pIf c
   (some true)
   (z0o n (IntKind.i64.wrap (b+1)) a d.re)
end
def y4q:LSh:=⟨[(2,dB)],[],0,86,[]⟩
noncomputable def zp3:FI dat:=FI.of dat 49 86 0 [dT 9] [] [dB] [] true y4q (R:=Bool) Prod.fst (·,()) (λn=>u1 (z77 n))
 (λn=>[(0,⟨⟨[(1,(.ptr 0 0)),(13,dB)],[(.st 9)],0,86,[]⟩,u2 (z0p n)⟩),(1,⟨⟨[(3,dI),(1,(.ptr 0 0))],[(.st 9)],0,86,[]⟩,u2 (z0n n)⟩),(2,⟨⟨[(3,dI),(1,(.ptr 0 0)),(48,dB)],[(.st 9)],0,86,[]⟩,u3 (zzu n)⟩),(3,⟨⟨[(4,dI),(3,dI),(1,(.ptr 0 0))],[(.st 9)],0,86,[]⟩,u3 (z0o n)⟩),(4,⟨⟨[(3,dI),(1,(.ptr 0 0)),(4,dI),(85,dB)],[(.st 9)],0,86,[]⟩,u4 (z0q n)⟩)]) (anb [(5,0),(14,1),(26,2),(34,3),(45,4)] f49)
theorem y2p:FOk prog zp3:=okF (bs:=[zql,zll]) ⟨zwk,zqh,trivial⟩ func49 ntmps49 call49
 (λ_ _=>tr (z77.eq_2 ..))
 (λn=>⟨λ_=>tr (z0p.eq_2 ..),
  λ_=>tr (z0n.eq_2 ..),
  λ_=>tr (zzu.eq_2 ..),
  λ_=>tr (z0o.eq_2 ..),
  λ_=>tr (z0q.eq_2 ..),
  trivial⟩)
mutual
def z9u:Nat->yz1->Ot Bool
 |0,_=>none
 |n+1,a=>
  pIf (decide ((a.attrs.length:Int)>25))
   (z4g n true a)
   (z4g n (decide ((a.rules.length:Int)>45)) a)
def z4g:Nat->Bool->yz1->Ot Bool
 |0,_,_=>none
 |n+1,a,b=>
  pIf a
   (some true)
   (z2c n 0 b)
def z2c:Nat->Int->yz1->Ot Bool
 |0,_,_=>none
 |n+1,a,b=>
  pIf (decide (a<(b.attrs.length:Int)))
   ((ix b.attrs a).bind λx0=>
   (z4v n x0.value.re).bind λy1=>
   pIf y1
    (z56 n a true b)
    ((ix b.attrs a).bind λx2=>
    z56 n a (decide ((x2.name.length:Int)>100)) b))
   (z4f n 0 b)
def z56:Nat->Int->Bool->yz1->Ot Bool
 |0,_,_,_=>none
 |n+1,a,b,c=>
  pIf b
   (some true)
   (z2c n (IntKind.i64.wrap (a+1)) c)
def z4f:Nat->Int->yz1->Ot Bool
 |0,_,_=>none
 |n+1,a,b=>
  pIf (decide (a<(b.rules.length:Int)))
   ((ix b.rules a).bind λx3=>
   pIf (decide ((x3.params.length:Int)>10))
    (z1z n a true x3 b)
    (pIf (decide ((x3.cases.length:Int)>10))
      (z1z n a true x3 b)
      (z1z n a (decide ((x3.name.length:Int)>100)) x3 b)))
   (some false)
def z1z:Nat->Int->Bool->yz5->yz1->Ot Bool
 |0,_,_,_,_=>none
 |n+1,a,b,c,d=>
  pIf b
   (some true)
   (z27 n 0 a c d)
def z27:Nat->Int->Int->yz5->yz1->Ot Bool
 |0,_,_,_,_=>none
 |n+1,a,b,c,d=>
  pIf (decide (a<(c.params.length:Int)))
   ((ix c.params a).bind λx4=>
   pIf (decide ((x4.length:Int)>100))
    (some true)
    (z27 n (IntKind.i64.wrap (a+1)) b c d))
   (z4a n 0 b c d)
def z4a:Nat->Int->Int->yz5->yz1->Ot Bool
 |0,_,_,_,_=>none
 |n+1,a,b,c,d=>
  pIf (decide (a<(c.cases.length:Int)))
   ((ix c.cases a).bind λx5=>
   (z77 n x5.re).bind λy6=>
   pIf y6
    (some true)
    (z4a n (IntKind.i64.wrap (a+1)) b c d))
   (z4f n (IntKind.i64.wrap (b+1)) d)
end
def yhb:LSh:=⟨[(2,dB)],[],0,97,[]⟩
noncomputable def zpu:FI dat:=FI.of dat 20 97 0 [dT 11] [] [dB] [] true yhb (R:=Bool) Prod.fst (·,()) (λn=>u1 (z9u n))
 (λn=>[(0,⟨⟨[(1,(.ptr 0 0)),(17,dB)],[(.st 11)],0,97,[]⟩,u2 (z4g n)⟩),(1,⟨⟨[(3,dI),(1,(.ptr 0 0))],[(.st 11)],0,97,[]⟩,u2 (z2c n)⟩),(2,⟨⟨[(1,(.ptr 0 0)),(3,dI),(41,dB)],[(.st 11)],0,97,[]⟩,u3 (z56 n)⟩),(3,⟨⟨[(4,dI),(1,(.ptr 0 0))],[(.st 11)],0,97,[]⟩,u2 (z4f n)⟩),(4,⟨⟨[(5,(.ptr 0 0)),(1,(.ptr 1 0)),(4,dI),(69,dB)],[(.st 10),(.st 11)],0,97,[]⟩,u4 (z1z n)⟩),(5,⟨⟨[(6,dI),(5,(.ptr 0 0)),(1,(.ptr 1 0)),(4,dI)],[(.st 10),(.st 11)],0,97,[]⟩,u4 (z27 n)⟩),(6,⟨⟨[(7,dI),(5,(.ptr 0 0)),(1,(.ptr 1 0)),(4,dI)],[(.st 10),(.st 11)],0,97,[]⟩,u4 (z4a n)⟩)]) (anb [(5,0),(14,1),(25,2),(35,3),(49,4),(58,5),(78,6)] f20)
theorem zw9:FOk prog zpu:=okF (bs:=[zql,zp3]) ⟨zwk,y2p,trivial⟩ func20 ntmps20 call20
 (λ_ _=>tr (z9u.eq_2 ..))
 (λn=>⟨λ_=>tr (z4g.eq_2 ..),
  λ_=>tr (z2c.eq_2 ..),
  λ_=>tr (z56.eq_2 ..),
  λ_=>tr (z4f.eq_2 ..),
  λ_=>tr (z1z.eq_2 ..),
  λ_=>tr (z27.eq_2 ..),
  λ_=>tr (z4a.eq_2 ..),
  trivial⟩)
mutual
def zdw:Nat->yz1->Ot Bool
 |0,_=>none
 |n+1,a=>
  pIf (decide ((a.attrs.length:Int)>20))
   (z6v n true a)
   (z6v n (decide ((a.rules.length:Int)>40)) a)
def z6v:Nat->Bool->yz1->Ot Bool
 |0,_,_=>none
 |n+1,a,b=>
  pIf a
   (some true)
   (z3b n 0 b)
def z3b:Nat->Int->yz1->Ot Bool
 |0,_,_=>none
 |n+1,a,b=>
  pIf (decide (a<(b.rules.length:Int)))
   ((ix b.rules a).bind λx0=>
   pIf (decide ((x0.params.length:Int)>4))
    (z6m n a true x0 b)
    (z6m n a (decide ((x0.cases.length:Int)>6)) x0 b))
   (some false)
def z6m:Nat->Int->Bool->yz5->yz1->Ot Bool
 |0,_,_,_,_=>none
 |n+1,a,b,c,d=>
  pIf b
   (some true)
   (z3k n 0 a c d)
def z3k:Nat->Int->Int->yz5->yz1->Ot Bool
 |0,_,_,_,_=>none
 |n+1,a,b,c,d=>
  pIf (decide (a<(c.cases.length:Int)))
   ((ix c.cases a).bind λx1=>
   pIf (decide ((x1.do_.length:Int)>10))
    (some true)
    (z3j n 0 a b c d))
   (z3b n (IntKind.i64.wrap (b+1)) d)
def z3j:Nat->Int->Int->Int->yz5->yz1->Ot Bool
 |0,_,_,_,_,_=>none
 |n+1,a,b,c,d,e=>
  (ix d.cases b).bind λx2=>
  pIf (decide (a<(x2.do_.length:Int)))
   ((ix d.cases b).bind λx3=>
   (ix x3.do_ a).bind λx4=>
   pIf (decide ((x4.items.length:Int)>10))
    (some true)
    (z3j n (IntKind.i64.wrap (a+1)) b c d e))
   (z3k n (IntKind.i64.wrap (b+1)) c d e)
end
def ylb:LSh:=⟨[(2,dB)],[],0,77,[]⟩
noncomputable def y3a:FI dat:=FI.of dat 52 77 0 [dT 11] [] [dB] [] true ylb (R:=Bool) Prod.fst (·,()) (λn=>u1 (zdw n))
 (λn=>[(0,⟨⟨[(1,(.ptr 0 0)),(16,dB)],[(.st 11)],0,77,[]⟩,u2 (z6v n)⟩),(1,⟨⟨[(3,dI),(1,(.ptr 0 0))],[(.st 11)],0,77,[]⟩,u2 (z3b n)⟩),(2,⟨⟨[(4,(.ptr 0 0)),(1,(.ptr 1 0)),(3,dI),(38,dB)],[(.st 10),(.st 11)],0,77,[]⟩,u4 (z6m n)⟩),(3,⟨⟨[(5,dI),(4,(.ptr 0 0)),(1,(.ptr 1 0)),(3,dI)],[(.st 10),(.st 11)],0,77,[]⟩,u4 (z3k n)⟩),(4,⟨⟨[(6,dI),(5,dI),(4,(.ptr 0 0)),(1,(.ptr 1 0)),(3,dI)],[(.st 10),(.st 11)],0,77,[]⟩,u5 (z3j n)⟩)]) (anb [(5,0),(14,1),(28,2),(36,3),(56,4)] f52)
theorem yh6:FOk prog y3a:=okF (bs:=[]) trivial func52 ntmps52 call52
 (λ_ _=>tr (zdw.eq_2 ..))
 (λn=>⟨λ_=>tr (z6v.eq_2 ..),
  λ_=>tr (z3b.eq_2 ..),
  λ_=>tr (z6m.eq_2 ..),
  λ_=>tr (z3k.eq_2 ..),
  λ_=>tr (z3j.eq_2 ..),
  trivial⟩)
def zaa:Nat->Int->Ot Bool
 |0,_=>none
 |n+1,a=>
  pIf (decide (a>=97))
   (some (decide (a<=122)))
   (some false)
def ye8:LSh:=⟨[(2,dB)],[],0,9,[]⟩
noncomputable def zxv:FI dat:=FI.of dat 217 9 0 [dU] [] [dB] [] true ye8 (R:=Bool) Prod.fst (·,()) (λn=>u1 (zaa n))
 (λn=>[]) (anb [] f217)
theorem y8w:FOk prog zxv:=okF (bs:=[]) trivial func217 ntmps217 call217
 (λn=>λ_=>tr (zaa.eq_2 _ n))
 (λn=>trivial)
def zc6:Nat->Int->Ot Bool
 |0,_=>none
 |n+1,a=>
  pIf (decide (a>=48))
   (some (decide (a<=57)))
   (some false)
def yhv:LSh:=⟨[(2,dB)],[],0,9,[]⟩
noncomputable def y0n:FI dat:=FI.of dat 218 9 0 [dU] [] [dB] [] true yhv (R:=Bool) Prod.fst (·,()) (λn=>u1 (zc6 n))
 (λn=>[]) (anb [] f218)
theorem yem:FOk prog y0n:=okF (bs:=[]) trivial func218 ntmps218 call218
 (λn=>λ_=>tr (zc6.eq_2 _ n))
 (λn=>trivial)
mutual
def zbh:Nat->B8->Ot Bool
 |0,_=>none
 |n+1,a=>
  kzw n 0 a
def kzw:Nat->Int->B8->Ot Bool
 |0,_,_=>none
 |n+1,a,b=>
  pIf (decide (a<(b.length:Int)))
   ((ix b a).bind λx0=>
   (zaa n (x0.toNat:Int)).bind λy1=>
   pIf (!y1)
    (pIf (a==0)
      (z0g n b a true)
      ((ix b a).bind λx2=>
      pIf ((x2.toNat:Int) != 45)
       ((ix b a).bind λx3=>
       (zc6 n (x3.toNat:Int)).bind λy4=>
       z0g n b a (!y4))
       (z0g n b a false)))
    (z0g n b a false))
   (pIf (decide ((b.length:Int)>=1))
     (some (decide ((b.length:Int)<=40)))
     (some false))
def z0g:Nat->B8->Int->Bool->Ot Bool
 |0,_,_,_=>none
 |n+1,a,b,c=>
  pIf c
   (some false)
   (kzw n (IntKind.i64.wrap (b+1)) a)
end
def yld:LSh:=⟨[(2,dB)],[],0,40,[]⟩
noncomputable def zt6:FI dat:=FI.of dat 174 40 0 [dS] [] [dB] [] true yld (R:=Bool) Prod.fst (·,()) (λn=>u1 (zbh n))
 (λn=>[(0,⟨⟨[(3,dI),(0,dS)],[],0,40,[]⟩,u2 (kzw n)⟩),(1,⟨⟨[(0,dS),(3,dI),(31,dB)],[],0,40,[]⟩,u3 (z0g n)⟩)]) (anb [(6,0),(17,1)] f174)
theorem y1e:FOk prog zt6:=okF (bs:=[zxv,y0n]) ⟨y8w,yem,trivial⟩ func174 ntmps174 call174
 (λ_ _=>tr (zbh.eq_2 ..))
 (λn=>⟨λ_=>tr (kzw.eq_2 ..),
  λ_=>tr (z0g.eq_2 ..),
  trivial⟩)
def zae:Nat->B8->Ot Bool
 |0,_=>none
 |n+1,a=>
  pIf (a==[115,120])
   (some true)
   (pIf (a==[115,121])
     (some true)
     (some (a==[115,122])))
def yde:LSh:=⟨[(2,dB)],[],0,13,[]⟩
noncomputable def zv5:FI dat:=FI.of dat 175 13 0 [dS] [] [dB] [] true yde (R:=Bool) Prod.fst (·,()) (λn=>u1 (zae n))
 (λn=>[]) (anb [] f175)
theorem y8z:FOk prog zv5:=okF (bs:=[]) trivial func175 ntmps175 call175
 (λn=>λ_=>tr (zae.eq_2 _ n))
 (λn=>trivial)
def z3s:Nat->B8->Ot Bool
 |0,_=>none
 |n+1,a=>
  (zbh n a).bind λy0=>
  pIf y0
   (pIf (!(a==[116,114,117,101]))
     (pIf (!(a==[102,97,108,115,101]))
       ((zae n a).bind λy1=>
       some (!y1))
       (some false))
     (some false))
   (some false)
def ynv:LSh:=⟨[(2,dB)],[],0,18,[]⟩
noncomputable def zua:FI dat:=FI.of dat 114 18 0 [dS] [] [dB] [] true ynv (R:=Bool) Prod.fst (·,()) (λn=>u1 (z3s n))
 (λn=>[]) (anb [] f114)
theorem y1i:FOk prog zua:=okF (bs:=[zt6,zv5]) ⟨y1e,y8z,trivial⟩ func114 ntmps114 call114
 (λ_ _=>tr (z3s.eq_2 ..))
 (λn=>trivial)
mutual
def zbp:Nat->zz1->Ot Int
 |0,_=>none
 |n+1,a=>
  z6n n 0 1 a.re
def z6n:Nat->Int->Int->zz1->Ot Int
 |0,_,_,_=>none
 |n+1,a,b,c=>
  pIf (decide (a<(c.args.length:Int)))
   ((ix c.args a).bind λx0=>
   (zbp n x0.re).bind λy1=>
   z6n n (IntKind.i64.wrap (a+1)) (mxI b (IntKind.i64.wrap (1+y1))) c.re)
   (some b)
end
def ymm:LSh:=⟨[(2,dI)],[],0,22,[]⟩
noncomputable def zid:FI dat:=FI.of dat 176 22 0 [dT 5] [] [dI] [] true ymm (R:=Int) Prod.fst (·,()) (λn=>u1 (zbp n))
 (λn=>[(0,⟨⟨[(4,dI),(1,(.ptr 0 0)),(3,dI)],[(.st 5)],0,22,[]⟩,u3 (z6n n)⟩)]) (anb [(8,0)] f176)
noncomputable def yna:List (FI dat):=[zid]++[]
theorem ym4:(zid).Good prog dat (tb yna):=FI.z0t (hD:=zz8 _) func176 ntmps176 call176 (by kernel_rfl) (Qac (by kernel_rfl)) (by kernel_rfl) (λn=>by kernel_rfl) (λx=>by kernel_rfl) (λ_=>rfl) ⟨λ_=>rfl,trivial⟩
 (λ_ _=>tr (zbp.eq_2 ..))
 (λn=>⟨λ_=>tr (z6n.eq_2 ..),
  trivial⟩)
 (λx=>.inl rfl)
theorem yll:OkL prog [zid]:=z5k (zz8 _) (bs:=[]) trivial ⟨ym4,trivial⟩
theorem yfd:FOk prog zid:=yll.1
mutual
def zdt:Nat->Int->Ot Int
 |0,_=>none
 |n+1,a=>
  pIf (a==1)
   (z9l n a true)
   (z9l n a (a==2))
def z9l:Nat->Int->Bool->Ot Int
 |0,_,_=>none
 |n+1,a,b=>
  pIf b
   (some 0)
   (pIf (decide (a>=3))
     (pIf (decide (a<=10))
       (zzq n a true)
       (pIf (a==13)
         (zzq n a true)
         (pIf (a==14)
           (zzq n a true)
           (zzq n a (a==17)))))
     (pIf (a==13)
       (zzq n a true)
       (pIf (a==14)
         (zzq n a true)
         (zzq n a (a==17)))))
def zzq:Nat->Int->Bool->Ot Int
 |0,_,_=>none
 |n+1,a,b=>
  pIf b
   (some 2)
   (pIf (a==11)
     (z6c n a true)
     (pIf (a==15)
       (z6c n a true)
       (z6c n a (a==16))))
def z6c:Nat->Int->Bool->Ot Int
 |0,_,_=>none
 |n+1,a,b=>
  pIf b
   (some 1)
   (pIf (a==12)
     (some 3)
     (pIf (a==18)
       (some (-1))
       (some (-2))))
end
def yk9:LSh:=⟨[(2,dI)],[],0,46,[]⟩
noncomputable def zu3:FI dat:=FI.of dat 219 46 0 [dU] [] [dI] [] true yk9 (R:=Int) Prod.fst (·,()) (λn=>u1 (zdt n))
 (λn=>[(0,⟨⟨[(0,dU),(3,dB)],[],0,46,[]⟩,u2 (z9l n)⟩),(1,⟨⟨[(0,dU),(10,dB)],[],0,46,[]⟩,u2 (zzq n)⟩),(2,⟨⟨[(0,dU),(29,dB)],[],0,46,[]⟩,u2 (z6c n)⟩)]) (anb [(6,0),(12,1),(18,2)] f219)
theorem yh4:FOk prog zu3:=okF (bs:=[]) trivial func219 ntmps219 call219
 (λ_ _=>tr (zdt.eq_2 ..))
 (λn=>⟨λ_=>tr (z9l.eq_2 ..),
  λ_=>tr (zzq.eq_2 ..),
  λ_=>tr (z6c.eq_2 _ _ n),
  trivial⟩)
mutual
def zbl:Nat->kz0->Ot Int
 |0,_=>none
 |n+1,a=>
  z64 n 0 1 a.re
def z64:Nat->Int->Int->kz0->Ot Int
 |0,_,_,_=>none
 |n+1,a,b,c=>
  pIf (decide (a<(c.list.length:Int)))
   (z6j n a b (c.kind==4) c.re)
   (z6j n a b false c.re)
def z6j:Nat->Int->Int->Bool->kz0->Ot Int
 |0,_,_,_,_=>none
 |n+1,a,b,c,d=>
  pIf c
   ((ix d.list a).bind λx0=>
   (zbl n x0.re).bind λy1=>
   z64 n (IntKind.i64.wrap (a+1)) (mxI b (IntKind.i64.wrap (1+y1))) d.re)
   (some b)
end
def ym8:LSh:=⟨[(2,dI)],[],0,27,[]⟩
noncomputable def zhk:FI dat:=FI.of dat 252 27 0 [dT 4] [] [dI] [] true ym8 (R:=Int) Prod.fst (·,()) (λn=>u1 (zbl n))
 (λn=>[(0,⟨⟨[(4,dI),(1,(.ptr 0 0)),(3,dI)],[(.st 4)],0,27,[]⟩,u3 (z64 n)⟩),(1,⟨⟨[(1,(.ptr 0 0)),(4,dI),(3,dI),(14,dB)],[(.st 4)],0,27,[]⟩,u4 (z6j n)⟩)]) (anb [(8,0),(12,1)] f252)
noncomputable def ymv:List (FI dat):=[zhk]++[]
theorem ykh:(zhk).Good prog dat (tb ymv):=FI.z0t (hD:=zz8 _) func252 ntmps252 call252 (by kernel_rfl) (Qac (by kernel_rfl)) (by kernel_rfl) (λn=>by kernel_rfl) (λx=>by kernel_rfl) (λ_=>rfl) ⟨λ_=>rfl,λ_=>rfl,trivial⟩
 (λ_ _=>tr (zbl.eq_2 ..))
 (λn=>⟨λ_=>tr (z64.eq_2 ..),
  λ_=>tr (z6j.eq_2 ..),
  trivial⟩)
 (λx=>.inl rfl)
theorem ymp:OkL prog [zhk]:=z5k (zz8 _) (bs:=[]) trivial ⟨ykh,trivial⟩
theorem yfx:FOk prog zhk:=ymp.1
mutual
def zan:Nat->Int->Int->Ot Int
 |0,_,_=>none
 |n+1,a,b=>
  z2w n b a
def z2w:Nat->Int->Int->Ot Int
 |0,_,_=>none
 |n+1,a,b=>
  pIf (a != 0)
   ((rem .i64 b a).bind λx0=>
   z2w n x0 a)
   (pIf (decide (b<0))
     (some (IntKind.i64.wrap (0-b)))
     (some b))
end
def ybi:LSh:=⟨[(4,dI)],[],0,16,[]⟩
noncomputable def zwn:FI dat:=FI.of dat 263 16 0 [dI,dI] [] [dI] [] true ybi (R:=Int) Prod.fst (·,()) (λn=>u2 (zan n))
 (λn=>[(0,⟨⟨[(1,dI),(0,dI)],[],0,16,[]⟩,u2 (z2w n)⟩)]) (anb [(4,0)] f263)
theorem yab:FOk prog zwn:=okF (bs:=[]) trivial func263 ntmps263 call263
 (λ_ _=>tr (zan.eq_2 ..))
 (λn=>⟨λ_=>tr (z2w.eq_2 ..),
  trivial⟩)
mutual
def zc1:Nat->yz4->Ot Int
 |0,_=>none
 |n+1,a=>
  pIf (decide (a.den<1))
   (yzx n true)
   (pIf (decide (a.den>1000000000))
     (yzx n true)
     (pIf (decide (a.num<(-1000000000)))
       (yzx n true)
       (pIf (decide (a.num>1000000000))
         (yzx n true)
         ((zan n a.num a.den).bind λy0=>
         yzx n (y0 != 1)))))
def yzx:Nat->Bool->Ot Int
 |0,_=>none
 |n+1,a=>
  pIf a
   (some 8)
   (some 0)
end
def yg5:LSh:=⟨[(2,dI)],[],0,29,[]⟩
noncomputable def zqo:FI dat:=FI.of dat 230 29 0 [dT 3] [] [dI] [] true yg5 (R:=Int) Prod.fst (·,()) (λn=>u1 (zc1 n))
 (λn=>[(0,⟨⟨[(28,dB)],[],0,29,[]⟩,u1 (yzx n)⟩)]) (anb [(5,0)] f230)
theorem yey:FOk prog zqo:=okF (bs:=[zwn]) ⟨yab,trivial⟩ func230 ntmps230 call230
 (λ_ _=>tr (zc1.eq_2 ..))
 (λn=>⟨λ_=>tr (yzx.eq_2 _ n),
  trivial⟩)
mutual
def zbm:Nat->kz0->Ot Bool
 |0,_=>none
 |n+1,a=>
  pIf (a.kind==1)
   ((zc1 n a.num).bind λy0=>
   pIf (y0==0)
    (pIf (!a.truth)
      (pIf ((a.str.length:Int)==0)
        (some ((a.list.length:Int)==0))
        (some false))
      (some false))
    (some false))
   (pIf (a.kind==2)
     (pIf ((a.num.num==0)&&((a.num.den==0)&&true))
       (pIf ((a.str.length:Int)==0)
         (some ((a.list.length:Int)==0))
         (some false))
       (some false))
     (pIf (a.kind==3)
       (pIf (!((a.num.num==0)&&((a.num.den==0)&&true)))
         (z0f n true a.re)
         (pIf a.truth
           (z0f n true a.re)
           (pIf (decide ((a.list.length:Int)>0))
             (z0f n true a.re)
             (z0f n (decide ((a.str.length:Int)>60)) a.re))))
       (pIf (a.kind==4)
         (pIf (!((a.num.num==0)&&((a.num.den==0)&&true)))
           (z1r n true a.re)
           (pIf a.truth
             (z1r n true a.re)
             (z1r n (decide ((a.str.length:Int)>0)) a.re)))
         (some false))))
def z0f:Nat->Bool->kz0->Ot Bool
 |0,_,_=>none
 |n+1,a,b=>
  pIf a
   (some false)
   (z6u n 0 b.re)
def z6u:Nat->Int->kz0->Ot Bool
 |0,_,_=>none
 |n+1,a,b=>
  pIf (decide (a<(b.str.length:Int)))
   ((ix b.str a).bind λx1=>
   pIf (decide ((x1.toNat:Int)<32))
    (z61 n a true b.re)
    ((ix b.str a).bind λx2=>
    z61 n a (decide ((x2.toNat:Int)>126)) b.re))
   (some true)
def z61:Nat->Int->Bool->kz0->Ot Bool
 |0,_,_,_=>none
 |n+1,a,b,c=>
  pIf b
   (some false)
   (z6u n (IntKind.i64.wrap (a+1)) c.re)
def z1r:Nat->Bool->kz0->Ot Bool
 |0,_,_=>none
 |n+1,a,b=>
  pIf a
   (some false)
   (z5z n 0 b.re)
def z5z:Nat->Int->kz0->Ot Bool
 |0,_,_=>none
 |n+1,a,b=>
  pIf (decide (a<(b.list.length:Int)))
   ((ix b.list a).bind λx3=>
   (zbm n x3.re).bind λy4=>
   pIf (!y4)
    (some false)
    (z5z n (IntKind.i64.wrap (a+1)) b.re))
   (some true)
end
def yns:LSh:=⟨[(2,dB)],[],0,121,[]⟩
noncomputable def zi0:FI dat:=FI.of dat 253 121 0 [dT 4] [] [dB] [] true yns (R:=Bool) Prod.fst (·,()) (λn=>u1 (zbm n))
 (λn=>[(0,⟨⟨[(1,(.ptr 0 0)),(71,dB)],[(.st 4)],0,121,[]⟩,u2 (z0f n)⟩),(1,⟨⟨[(4,dI),(1,(.ptr 0 0))],[(.st 4)],0,121,[]⟩,u2 (z6u n)⟩),(2,⟨⟨[(1,(.ptr 0 0)),(4,dI),(90,dB)],[(.st 4)],0,121,[]⟩,u3 (z61 n)⟩),(3,⟨⟨[(1,(.ptr 0 0)),(106,dB)],[(.st 4)],0,121,[]⟩,u2 (z1r n)⟩),(4,⟨⟨[(5,dI),(1,(.ptr 0 0))],[(.st 4)],0,121,[]⟩,u2 (z5z n)⟩)]) (anb [(26,0),(35,1),(46,2),(61,3),(70,4)] f253)
noncomputable def yn1:List (FI dat):=[zi0]++[zqo]
theorem yn3:(zi0).Good prog dat (tb yn1):=FI.z0t (hD:=zz8 _) func253 ntmps253 call253 (by kernel_rfl) (Qac (by kernel_rfl)) (by kernel_rfl) (λn=>by kernel_rfl) (λx=>by kernel_rfl) (λ_=>rfl) ⟨λ_=>rfl,λ_=>rfl,λ_=>rfl,λ_=>rfl,λ_=>rfl,trivial⟩
 (λ_ _=>tr (zbm.eq_2 ..))
 (λn=>⟨λ_=>tr (z0f.eq_2 ..),
  λ_=>tr (z6u.eq_2 ..),
  λ_=>tr (z61.eq_2 ..),
  λ_=>tr (z1r.eq_2 ..),
  λ_=>tr (z5z.eq_2 ..),
  trivial⟩)
 (λx=>.inl rfl)
theorem ykn:OkL prog [zi0]:=z5k (zz8 _) (bs:=[zqo]) ⟨yey,trivial⟩ ⟨yn3,trivial⟩
theorem ygq:FOk prog zi0:=ykn.1
mutual
def zc3:Nat->kz0->Ot Int
 |0,_=>none
 |n+1,a=>
  (z7y n a.re).bind λy0=>
  pIf (decide (y0>100))
   (z57 n true a.re)
   ((zbl n a.re).bind λy1=>
   z57 n (decide (y1>6)) a.re)
def z57:Nat->Bool->kz0->Ot Int
 |0,_,_=>none
 |n+1,a,b=>
  pIf a
   (some 4)
   ((zbm n b.re).bind λy2=>
   pIf (!y2)
    (some 8)
    (some 0))
end
def yii:LSh:=⟨[(2,dI)],[],0,14,[]⟩
noncomputable def zqj:FI dat:=FI.of dat 220 14 0 [dT 4] [] [dI] [] true yii (R:=Int) Prod.fst (·,()) (λn=>u1 (zc3 n))
 (λn=>[(0,⟨⟨[(1,(.ptr 0 0)),(10,dB)],[(.st 4)],0,14,[]⟩,u2 (z57 n)⟩)]) (anb [(5,0)] f220)
theorem yce:FOk prog zqj:=okF (bs:=[zdo,zhk,zi0]) ⟨zw1,yfx,ygq,trivial⟩ func220 ntmps220 call220
 (λ_ _=>tr (zc3.eq_2 ..))
 (λn=>⟨λ_=>tr (z57.eq_2 ..),
  trivial⟩)
mutual
def z3t:Nat->kz0->kz0->Ot Bool
 |0,_,_=>none
 |n+1,a,b=>
  pIf (a.kind != b.kind)
   (z0a n true b.re a.re)
   (pIf (!((a.num.num==b.num.num)&&((a.num.den==b.num.den)&&true)))
     (z0a n true b.re a.re)
     (pIf (!(a.truth==b.truth))
       (z0a n true b.re a.re)
       (pIf (!(a.str==b.str))
         (z0a n true b.re a.re)
         (z0a n ((a.list.length:Int) != (b.list.length:Int)) b.re a.re))))
def z0a:Nat->Bool->kz0->kz0->Ot Bool
 |0,_,_,_=>none
 |n+1,a,b,c=>
  pIf a
   (some false)
   (z62 n 0 b.re c.re)
def z62:Nat->Int->kz0->kz0->Ot Bool
 |0,_,_,_=>none
 |n+1,a,b,c=>
  pIf (decide (a<(c.list.length:Int)))
   ((ix c.list a).bind λx0=>
   (ix b.list a).bind λx1=>
   (z3t n x0.re x1.re).bind λy2=>
   pIf (!y2)
    (some false)
    (z62 n (IntKind.i64.wrap (a+1)) b.re c.re))
   (some true)
end
def ymt:LSh:=⟨[(4,dB)],[],0,60,[]⟩
noncomputable def zf3:FI dat:=FI.of dat 141 60 0 [dT 4,dT 4] [] [dB] [] true ymt (R:=Bool) Prod.fst (·,()) (λn=>u2 (z3t n))
 (λn=>[(0,⟨⟨[(3,(.ptr 0 0)),(2,(.ptr 1 0)),(40,dB)],[(.st 4),(.st 4)],0,60,[]⟩,u3 (z0a n)⟩),(1,⟨⟨[(5,dI),(3,(.ptr 0 0)),(2,(.ptr 1 0))],[(.st 4),(.st 4)],0,60,[]⟩,u3 (z62 n)⟩)]) (anb [(5,0),(14,1)] f141)
noncomputable def ykz:List (FI dat):=[zf3]++[]
theorem yn8:(zf3).Good prog dat (tb ykz):=FI.z0t (hD:=zz8 _) func141 ntmps141 call141 (by kernel_rfl) (Qac (by kernel_rfl)) (by kernel_rfl) (λn=>by kernel_rfl) (λx=>by kernel_rfl) (λ_=>rfl) ⟨λ_=>rfl,λ_=>rfl,trivial⟩
 (λ_ _=>tr (z3t.eq_2 ..))
 (λn=>⟨λ_=>tr (z0a.eq_2 ..),
  λ_=>tr (z62.eq_2 ..),
  trivial⟩)
 (λx=>.inl rfl)
theorem ylm:OkL prog [zf3]:=z5k (zz8 _) (bs:=[]) trivial ⟨yn8,trivial⟩
theorem yfy:FOk prog zf3:=ylm.1
def zby:Nat->B8->Ot Bool
 |0,_=>none
 |n+1,a=>
  (zbh n a).bind λy0=>
  pIf y0
   (pIf (!(a==[116,114,117,101]))
     (some (!(a==[102,97,108,115,101])))
     (some false))
   (some false)
def yf6:LSh:=⟨[(2,dB)],[],0,13,[]⟩
noncomputable def zqp:FI dat:=FI.of dat 221 13 0 [dS] [] [dB] [] true yf6 (R:=Bool) Prod.fst (·,()) (λn=>u1 (zby n))
 (λn=>[]) (anb [] f221)
theorem yb8:FOk prog zqp:=okF (bs:=[zt6]) ⟨y1e,trivial⟩ func221 ntmps221 call221
 (λ_ _=>tr (zby.eq_2 ..))
 (λn=>trivial)
mutual
def zbc:Nat->zz1->Ot Bool
 |0,_=>none
 |n+1,a=>
  (zdt n a.op).bind λy0=>
  pIf (y0==(-2))
   (z3g n true a.re)
   (pIf (decide (y0>=0))
     (z3g n ((a.args.length:Int) != y0) a.re)
     (z3g n false a.re))
def z3g:Nat->Bool->zz1->Ot Bool
 |0,_,_=>none
 |n+1,a,b=>
  pIf a
   (some false)
   (pIf (b.op==1)
     ((zc3 n b.value.re).bind λy1=>
     pIf (y1 != 0)
      (zzv n true b.re)
      (pIf (b.value.kind==4)
        (zzv n true b.re)
        (pIf (b.op != 1)
          ((z3t n b.value.re (kz0.mk 0 (yz4.mk 0 0) false [] [])).bind λy2=>
          zzv n (!y2) b.re)
          (zzv n false b.re))))
     (pIf (b.op != 1)
       ((z3t n b.value.re (kz0.mk 0 (yz4.mk 0 0) false [] [])).bind λy3=>
       zzv n (!y3) b.re)
       (zzv n false b.re)))
def zzv:Nat->Bool->zz1->Ot Bool
 |0,_,_=>none
 |n+1,a,b=>
  pIf a
   (some false)
   (pIf (b.op==2)
     ((zby n b.name).bind λy4=>
     pIf (!y4)
      (z0d n true b.re)
      (pIf (b.op != 2)
        (z0d n (decide ((b.name.length:Int)>0)) b.re)
        (z0d n false b.re)))
     (pIf (b.op != 2)
       (z0d n (decide ((b.name.length:Int)>0)) b.re)
       (z0d n false b.re)))
def z0d:Nat->Bool->zz1->Ot Bool
 |0,_,_=>none
 |n+1,a,b=>
  pIf a
   (some false)
   (z60 n 0 b.re)
def z60:Nat->Int->zz1->Ot Bool
 |0,_,_=>none
 |n+1,a,b=>
  pIf (decide (a<(b.args.length:Int)))
   ((ix b.args a).bind λx5=>
   (zbc n x5.re).bind λy6=>
   pIf (!y6)
    (some false)
    (z60 n (IntKind.i64.wrap (a+1)) b.re))
   (some true)
end
def ym0:LSh:=⟨[(2,dB)],[],0,82,[]⟩
noncomputable def zi5:FI dat:=FI.of dat 177 82 0 [dT 5] [] [dB] [] true ym0 (R:=Bool) Prod.fst (·,()) (λn=>u1 (zbc n))
 (λn=>[(0,⟨⟨[(1,(.ptr 0 0)),(20,dB)],[(.st 5)],0,82,[]⟩,u2 (z3g n)⟩),(1,⟨⟨[(1,(.ptr 0 0)),(47,dB)],[(.st 5)],0,82,[]⟩,u2 (zzv n)⟩),(2,⟨⟨[(1,(.ptr 0 0)),(67,dB)],[(.st 5)],0,82,[]⟩,u2 (z0d n)⟩),(3,⟨⟨[(4,dI),(1,(.ptr 0 0))],[(.st 5)],0,82,[]⟩,u2 (z60 n)⟩)]) (anb [(7,0),(15,1),(23,2),(32,3)] f177)
noncomputable def ymc:List (FI dat):=[zi5]++[zu3,zqj,zf3,zqp]
theorem ymb:(zi5).Good prog dat (tb ymc):=FI.z0t (hD:=zz8 _) func177 ntmps177 call177 (by kernel_rfl) (Qac (by kernel_rfl)) (by kernel_rfl) (λn=>by kernel_rfl) (λx=>by kernel_rfl) (λ_=>rfl) ⟨λ_=>rfl,λ_=>rfl,λ_=>rfl,λ_=>rfl,trivial⟩
 (λ_ _=>tr (zbc.eq_2 ..))
 (λn=>⟨λ_=>tr (z3g.eq_2 ..),
  λ_=>tr (zzv.eq_2 ..),
  λ_=>tr (z0d.eq_2 ..),
  λ_=>tr (z60.eq_2 ..),
  trivial⟩)
 (λx=>.inl rfl)
theorem yl9:OkL prog [zi5]:=z5k (zz8 _) (bs:=[zu3,zqj,zf3,zqp]) ⟨yh4,yce,yfy,yb8,trivial⟩ ⟨ymb,trivial⟩
theorem yfm:FOk prog zi5:=yl9.1
mutual
def z1b:Nat->zz1->Ot Int
 |0,_=>none
 |n+1,a=>
  (z84 n a.re).bind λy0=>
  pIf (decide (y0>100))
   (z58 n true a.re)
   ((zbp n a.re).bind λy1=>
   z58 n (decide (y1>12)) a.re)
def z58:Nat->Bool->zz1->Ot Int
 |0,_,_=>none
 |n+1,a,b=>
  pIf a
   (some 4)
   ((zbc n b.re).bind λy2=>
   pIf (!y2)
    (some 8)
    (some 0))
end
def yh0:LSh:=⟨[(2,dI)],[],0,14,[]⟩
noncomputable def zjl:FI dat:=FI.of dat 115 14 0 [dT 5] [] [dI] [] true yh0 (R:=Int) Prod.fst (·,()) (λn=>u1 (z1b n))
 (λn=>[(0,⟨⟨[(1,(.ptr 0 0)),(10,dB)],[(.st 5)],0,14,[]⟩,u2 (z58 n)⟩)]) (anb [(5,0)] f115)
theorem zmc:FOk prog zjl:=okF (bs:=[zdq,zid,zi5]) ⟨zv7,yfd,yfm,trivial⟩ func115 ntmps115 call115
 (λ_ _=>tr (z1b.eq_2 ..))
 (λn=>⟨λ_=>tr (z58.eq_2 ..),
  trivial⟩)
mutual
def zcy:Nat->Int->Ot Int
 |0,_=>none
 |n+1,a=>
  pIf (a==2)
   (z8p n a true)
   (z8p n a (a==3))
def z8p:Nat->Int->Bool->Ot Int
 |0,_,_=>none
 |n+1,a,b=>
  pIf b
   (some 3)
   (pIf (a==4)
     (z8x n true)
     (z8x n (a==6)))
def z8x:Nat->Bool->Ot Int
 |0,_=>none
 |n+1,a=>
  pIf a
   (some 1)
   (some 0)
end
def yp8:LSh:=⟨[(2,dI)],[],0,10,[]⟩
noncomputable def zxs:FI dat:=FI.of dat 121 10 0 [dU] [] [dI] [] true yp8 (R:=Int) Prod.fst (·,()) (λn=>u1 (zcy n))
 (λn=>[(0,⟨⟨[(3,dU),(4,dB)],[],0,10,[]⟩,u2 (z8p n)⟩),(1,⟨⟨[(7,dB)],[],0,10,[]⟩,u1 (z8x n)⟩)]) (anb [(12,0),(22,1)] f121)
theorem y4b:FOk prog zxs:=okF (bs:=[]) trivial func121 ntmps121 call121
 (λ_ _=>tr (zcy.eq_2 ..))
 (λn=>⟨λ_=>tr (z8p.eq_2 ..),
  λ_=>tr (z8x.eq_2 _ n),
  trivial⟩)
mutual
def zah:Nat->zz4->Ot Bool
 |0,_=>none
 |n+1,a=>
  pIf (decide (a.kind<1))
   (kzz n true a)
   (pIf (decide (a.kind>6))
     (kzz n true a)
     ((z1m n a.args).bind λy0=>
     (z1b n y0.re).bind λy1=>
     pIf (y1 != 0)
      (kzz n true a)
      ((zcy n a.kind).bind λy2=>
      kzz n (decide ((a.args.length:Int)<y2)) a)))
def kzz:Nat->Bool->zz4->Ot Bool
 |0,_,_=>none
 |n+1,a,b=>
  pIf a
   (some false)
   (pIf (b.kind==4)
     (z2y n true b)
     (z2y n (b.kind==5) b))
def z2y:Nat->Bool->zz4->Ot Bool
 |0,_,_=>none
 |n+1,a,b=>
  pIf a
   (pIf (decide (b.axis>2))
     (some false)
     (z2s n b))
   (pIf (b.axis != 0)
     (some false)
     (z2s n b))
def z2s:Nat->zz4->Ot Bool
 |0,_=>none
 |n+1,a=>
  pIf (a.kind==5)
   (z6e n true a)
   (z6e n (a.kind==6) a)
def z6e:Nat->Bool->zz4->Ot Bool
 |0,_,_=>none
 |n+1,a,b=>
  pIf a
   (pIf (decide ((b.name.length:Int)>0))
     (yzn n true b)
     (pIf (b.kind==5)
       (pIf (decide ((b.args.length:Int)>0))
         (yzn n true b)
         (pIf (b.kind==6)
           (yzn n (decide ((b.args.length:Int)>1)) b)
           (yzn n false b)))
       (pIf (b.kind==6)
         (yzn n (decide ((b.args.length:Int)>1)) b)
         (yzn n false b))))
   ((z3s n b.name).bind λy3=>
   pIf (!y3)
    (some false)
    (z2r n b))
def yzn:Nat->Bool->zz4->Ot Bool
 |0,_,_=>none
 |n+1,a,b=>
  pIf a
   (some false)
   (z2r n b)
def z2r:Nat->zz4->Ot Bool
 |0,_=>none
 |n+1,a=>
  pIf (!((a.kind==5)==(decide ((a.items.length:Int)>0))))
   (some false)
   (z13 n 0 a)
def z13:Nat->Int->zz4->Ot Bool
 |0,_,_=>none
 |n+1,a,b=>
  pIf (decide (a<(b.items.length:Int)))
   ((ix b.items a).bind λx4=>
   pIf (decide (x4.kind<1))
    (zzt n a true b)
    (pIf (decide (x4.kind>3))
      (zzt n a true b)
      ((z3s n x4.name).bind λy5=>
      pIf (!y5)
       (zzt n a true b)
       (pIf ((x4.args.length:Int)==0)
         (zzt n a true b)
         ((z1m n x4.args).bind λy6=>
         (z1b n y6.re).bind λy7=>
         zzt n a (y7 != 0) b)))))
   (some true)
def zzt:Nat->Int->Bool->zz4->Ot Bool
 |0,_,_,_=>none
 |n+1,a,b,c=>
  pIf b
   (some false)
   (z13 n (IntKind.i64.wrap (a+1)) c)
end
def ycn:LSh:=⟨[(2,dB)],[],0,128,[]⟩
noncomputable def zvc:FI dat:=FI.of dat 116 128 0 [dT 8] [] [dB] [] true ycn (R:=Bool) Prod.fst (·,()) (λn=>u1 (zah n))
 (λn=>[(0,⟨⟨[(1,(.ptr 0 0)),(28,dB)],[(.st 8)],0,128,[]⟩,u2 (kzz n)⟩),(1,⟨⟨[(1,(.ptr 0 0)),(36,dB)],[(.st 8)],0,128,[]⟩,u2 (z2y n)⟩),(2,⟨⟨[(1,(.ptr 0 0))],[(.st 8)],0,128,[]⟩,u1 (z2s n)⟩),(3,⟨⟨[(1,(.ptr 0 0)),(50,dB)],[(.st 8)],0,128,[]⟩,u2 (z6e n)⟩),(4,⟨⟨[(1,(.ptr 0 0)),(76,dB)],[(.st 8)],0,128,[]⟩,u2 (yzn n)⟩),(5,⟨⟨[(1,(.ptr 0 0))],[(.st 8)],0,128,[]⟩,u1 (z2r n)⟩),(6,⟨⟨[(3,dI),(1,(.ptr 0 0))],[(.st 8)],0,128,[]⟩,u2 (z13 n)⟩),(7,⟨⟨[(1,(.ptr 0 0)),(3,dI),(127,dB)],[(.st 8)],0,128,[]⟩,u3 (zzt n)⟩)]) (anb [(5,0),(13,1),(28,2),(31,3),(34,4),(46,5),(58,6),(71,7)] f116)
theorem y9z:FOk prog zvc:=okF (bs:=[zll,zjl,zxs,zua]) ⟨zqh,zmc,y4b,y1i,trivial⟩ func116 ntmps116 call116
 (λ_ _=>tr (zah.eq_2 ..))
 (λn=>⟨λ_=>tr (kzz.eq_2 ..),
  λ_=>tr (z2y.eq_2 ..),
  λ_=>tr (z2s.eq_2 ..),
  λ_=>tr (z6e.eq_2 ..),
  λ_=>tr (yzn.eq_2 ..),
  λ_=>tr (z2r.eq_2 ..),
  λ_=>tr (z13.eq_2 ..),
  λ_=>tr (zzt.eq_2 ..),
  trivial⟩)
mutual
def zac:Nat->yz1->Ot Bool
 |0,_=>none
 |n+1,a=>
  z1k n 0 a
def z1k:Nat->Int->yz1->Ot Bool
 |0,_,_=>none
 |n+1,a,b=>
  pIf (decide (a<(b.attrs.length:Int)))
   ((ix b.attrs a).bind λx0=>
   (z3s n x0.name).bind λy1=>
   pIf (!y1)
    (z35 n a true b)
    ((ix b.attrs a).bind λx2=>
    (z1b n x2.value.re).bind λy3=>
    z35 n a (y3 != 0) b))
   (z19 n 0 b)
def z35:Nat->Int->Bool->yz1->Ot Bool
 |0,_,_,_=>none
 |n+1,a,b,c=>
  pIf b
   (some false)
   (z1k n (IntKind.i64.wrap (a+1)) c)
def z19:Nat->Int->yz1->Ot Bool
 |0,_,_=>none
 |n+1,a,b=>
  pIf (decide (a<(b.rules.length:Int)))
   ((ix b.rules a).bind λx4=>
   (z3s n x4.name).bind λy5=>
   pIf (!y5)
    (some false)
    (z1h n 0 a x4 b))
   (some true)
def z1h:Nat->Int->Int->yz5->yz1->Ot Bool
 |0,_,_,_,_=>none
 |n+1,a,b,c,d=>
  pIf (decide (a<(c.params.length:Int)))
   ((ix c.params a).bind λx6=>
   (z3s n x6).bind λy7=>
   pIf (!y7)
    (some false)
    (z1h n (IntKind.i64.wrap (a+1)) b c d))
   (z11 n 0 b c d)
def z11:Nat->Int->Int->yz5->yz1->Ot Bool
 |0,_,_,_,_=>none
 |n+1,a,b,c,d=>
  pIf (decide (a<(c.cases.length:Int)))
   ((ix c.cases a).bind λx8=>
   pIf (decide (x8.weight<1))
    (z1a n b a true x8.re c d)
    (pIf (decide (x8.weight>1000000))
      (z1a n b a true x8.re c d)
      ((z1b n x8.when_.re).bind λy9=>
      z1a n b a (y9 != 0) x8.re c d)))
   (z19 n (IntKind.i64.wrap (b+1)) d)
def z1a:Nat->Int->Int->Bool->zz6->yz5->yz1->Ot Bool
 |0,_,_,_,_,_,_=>none
 |n+1,a,b,c,d,e,f=>
  pIf c
   (some false)
   (z1i n 0 a b d.re e f)
def z1i:Nat->Int->Int->Int->zz6->yz5->yz1->Ot Bool
 |0,_,_,_,_,_,_=>none
 |n+1,a,b,c,d,e,f=>
  pIf (decide (a<(d.do_.length:Int)))
   ((ix d.do_ a).bind λx10=>
   (zah n x10).bind λy11=>
   pIf (!y11)
    (some false)
    (z1i n (IntKind.i64.wrap (a+1)) b c d.re e f))
   (z11 n (IntKind.i64.wrap (c+1)) b e f)
end
def yez:LSh:=⟨[(2,dB)],[],0,105,[]⟩
noncomputable def zvi:FI dat:=FI.of dat 53 105 0 [dT 11] [] [dB] [] true yez (R:=Bool) Prod.fst (·,()) (λn=>u1 (zac n))
 (λn=>[(0,⟨⟨[(3,dI),(1,(.ptr 0 0))],[(.st 11)],0,105,[]⟩,u2 (z1k n)⟩),(1,⟨⟨[(1,(.ptr 0 0)),(3,dI),(34,dB)],[(.st 11)],0,105,[]⟩,u3 (z35 n)⟩),(2,⟨⟨[(4,dI),(1,(.ptr 0 0))],[(.st 11)],0,105,[]⟩,u2 (z19 n)⟩),(3,⟨⟨[(6,dI),(5,(.ptr 0 0)),(1,(.ptr 1 0)),(4,dI)],[(.st 10),(.st 11)],0,105,[]⟩,u4 (z1h n)⟩),(4,⟨⟨[(7,dI),(5,(.ptr 0 0)),(1,(.ptr 1 0)),(4,dI)],[(.st 10),(.st 11)],0,105,[]⟩,u4 (z11 n)⟩),(5,⟨⟨[(8,(.ptr 0 0)),(5,(.ptr 1 0)),(1,(.ptr 2 0)),(4,dI),(7,dI),(90,dB)],[(.st 9),(.st 10),(.st 11)],0,105,[]⟩,u6 (z1a n)⟩),(6,⟨⟨[(9,dI),(8,(.ptr 0 0)),(5,(.ptr 1 0)),(1,(.ptr 2 0)),(4,dI),(7,dI)],[(.st 9),(.st 10),(.st 11)],0,105,[]⟩,u6 (z1i n)⟩)]) (anb [(6,0),(17,1),(27,2),(50,3),(70,4),(84,5),(92,6)] f53)
theorem y9o:FOk prog zvi:=okF (bs:=[zua,zjl,zvc]) ⟨y1i,zmc,y9z,trivial⟩ func53 ntmps53 call53
 (λ_ _=>tr (zac.eq_2 ..))
 (λn=>⟨λ_=>tr (z1k.eq_2 ..),
  λ_=>tr (z35.eq_2 ..),
  λ_=>tr (z19.eq_2 ..),
  λ_=>tr (z1h.eq_2 ..),
  λ_=>tr (z11.eq_2 ..),
  λ_=>tr (z1a.eq_2 ..),
  λ_=>tr (z1i.eq_2 ..),
  trivial⟩)
mutual
def z7r:Nat->yz1->Ot (List B8)
 |0,_=>none
 |n+1,a=>
  z50 n 0 a []
def z50:Nat->Int->yz1->(List B8)->Ot (List B8)
 |0,_,_,_=>none
 |n+1,a,b,c=>
  pIf (decide (a<(b.attrs.length:Int)))
   ((ix b.attrs a).bind λx0=>
   (ext c [x0.name]).bind λx1=>
   z50 n (IntKind.i64.wrap (a+1)) b x1)
   (some c)
end
def yid:LSh:=⟨[(2,dA)],[],0,22,[]⟩
noncomputable def zqb:FI dat:=FI.of dat 118 22 0 [dT 11] [] [dA] [] true yid (R:=List B8) Prod.fst (·,()) (λn=>u1 (z7r n))
 (λn=>[(0,⟨⟨[(4,dI),(1,(.ptr 0 0)),(3,(.own 1))],[(.st 11),(.acc 9 .str true)],0,22,[]⟩,u3 (z50 n)⟩)]) (anb [(8,0)] f118)
theorem zvk:FOk prog zqb:=okF (bs:=[]) trivial func118 ntmps118 call118
 (λ_ _=>tr (z7r.eq_2 ..))
 (λn=>⟨λ_=>tr (z50.eq_2 ..),
  trivial⟩)
mutual
def zaq:Nat->(List B8)->B8->Ot Int
 |0,_,_=>none
 |n+1,a,b=>
  zc2 n 0 b a
def zc2:Nat->Int->B8->(List B8)->Ot Int
 |0,_,_,_=>none
 |n+1,a,b,c=>
  pIf (decide (a<(c.length:Int)))
   ((ix c a).bind λx0=>
   pIf (x0==b)
    (some a)
    (zc2 n (IntKind.i64.wrap (a+1)) b c))
   (some (-1))
end
def ytf:LSh:=⟨[(4,dI)],[],0,19,[]⟩
noncomputable def znm:FI dat:=FI.of dat 18 19 0 [dA,dS] [] [dI] [] true ytf (R:=Int) Prod.fst (·,()) (λn=>u2 (zaq n))
 (λn=>[(0,⟨⟨[(5,dI),(1,dS),(0,dA)],[],0,19,[]⟩,u3 (zc2 n)⟩)]) (anb [(6,0)] f18)
theorem zov:FOk prog znm:=okF (bs:=[]) trivial func18 ntmps18 call18
 (λ_ _=>tr (zaq.eq_2 ..))
 (λn=>⟨λ_=>tr (zc2.eq_2 ..),
  trivial⟩)
mutual
def z9s:Nat->(List B8)->Ot Bool
 |0,_=>none
 |n+1,a=>
  z47 n 0 a
def z47:Nat->Int->(List B8)->Ot Bool
 |0,_,_=>none
 |n+1,a,b=>
  pIf (decide (a<(b.length:Int)))
   ((ix b a).bind λx0=>
   (zaq n b x0).bind λy1=>
   pIf (decide (y1<a))
    (some true)
    (z47 n (IntKind.i64.wrap (a+1)) b))
   (some false)
end
def yfv:LSh:=⟨[(2,dB)],[],0,18,[]⟩
noncomputable def y0f:FI dat:=FI.of dat 117 18 0 [dA] [] [dB] [] true yfv (R:=Bool) Prod.fst (·,()) (λn=>u1 (z9s n))
 (λn=>[(0,⟨⟨[(3,dI),(0,dA)],[],0,18,[]⟩,u2 (z47 n)⟩)]) (anb [(6,0)] f117)
theorem yep:FOk prog y0f:=okF (bs:=[znm]) ⟨zov,trivial⟩ func117 ntmps117 call117
 (λ_ _=>tr (z9s.eq_2 ..))
 (λn=>⟨λ_=>tr (z47.eq_2 ..),
  trivial⟩)
mutual
def z89:Nat->yz1->Ot (List B8)
 |0,_=>none
 |n+1,a=>
  z4h n 0 a []
def z4h:Nat->Int->yz1->(List B8)->Ot (List B8)
 |0,_,_,_=>none
 |n+1,a,b,c=>
  pIf (decide (a<(b.rules.length:Int)))
   ((ix b.rules a).bind λx0=>
   (ext c [x0.name]).bind λx1=>
   z4h n (IntKind.i64.wrap (a+1)) b x1)
   (some c)
end
def yha:LSh:=⟨[(2,dA)],[],0,22,[]⟩
noncomputable def zjq:FI dat:=FI.of dat 57 22 0 [dT 11] [] [dA] [] true yha (R:=List B8) Prod.fst (·,()) (λn=>u1 (z89 n))
 (λn=>[(0,⟨⟨[(4,dI),(1,(.ptr 0 0)),(3,(.own 1))],[(.st 11),(.acc 9 .str true)],0,22,[]⟩,u3 (z4h n)⟩)]) (anb [(8,0)] f57)
theorem zn8:FOk prog zjq:=okF (bs:=[]) trivial func57 ntmps57 call57
 (λ_ _=>tr (z89.eq_2 ..))
 (λn=>⟨λ_=>tr (z4h.eq_2 ..),
  trivial⟩)
mutual
def zce:Nat->B8->(List B8)->Ot (Int×(List B8))
 |0,_,_=>none
 |n+1,a,b=>
  kzx n 0 a b
def kzx:Nat->Int->B8->(List B8)->Ot (Int×(List B8))
 |0,_,_,_=>none
 |n+1,a,b,c=>
  pIf (decide (a<(c.length:Int)))
   ((ix c a).bind λx0=>
   pIf (x0==b)
    (some (a,c))
    (kzx n (IntKind.i64.wrap (a+1)) b c))
   (some ((-1),c))
end
def yhd:LSh:=⟨[(4,dI)],[(.acc 9 .str true)],1,19,[]⟩
noncomputable def y1f:FI dat:=FI.of dat 18 19 1 [(.own 0),dS] [(.acc 9 .str true)] [dI] [(.acc 9 .str true)] false yhd (R:=Int×(List B8)) (λx=>(x.1,x.2.1)) (λr=>(r.1,r.2,())) (λn=>u2 (zce n))
 (λn=>[(0,⟨⟨[(5,dI),(1,dS),(0,(.own 0))],[(.acc 9 .str true)],1,19,[]⟩,u3 (kzx n)⟩)]) (anb [(6,0)] f18)
theorem yat:FOk prog y1f:=okF (bs:=[]) trivial func18 ntmps18 call18
 (λ_ _=>tr (zce.eq_2 ..))
 (λn=>⟨λ_=>tr (kzx.eq_2 ..),
  trivial⟩)
mutual
def z8d:Nat->(List B8)->Ot (Bool×(List B8))
 |0,_=>none
 |n+1,a=>
  z1e n 0 a
def z1e:Nat->Int->(List B8)->Ot (Bool×(List B8))
 |0,_,_=>none
 |n+1,a,b=>
  pIf (decide (a<(b.length:Int)))
   ((ix b a).bind λx0=>
   (zce n x0 b).bind λy1=>
   pIf (decide (y1.1<a))
    (some (true,y1.2))
    (z1e n (IntKind.i64.wrap (a+1)) y1.2))
   (some (false,b))
end
def y7f:LSh:=⟨[(2,dB)],[(.acc 9 .str true)],1,18,[]⟩
noncomputable def zqs:FI dat:=FI.of dat 117 18 1 [(.own 0)] [(.acc 9 .str true)] [dB] [(.acc 9 .str true)] false y7f (R:=Bool×(List B8)) (λx=>(x.1,x.2.1)) (λr=>(r.1,r.2,())) (λn=>u1 (z8d n))
 (λn=>[(0,⟨⟨[(3,dI),(0,(.own 0))],[(.acc 9 .str true)],1,18,[]⟩,u2 (z1e n)⟩)]) (anb [(6,0)] f117)
theorem y3d:FOk prog zqs:=okF (bs:=[y1f]) ⟨yat,trivial⟩ func117 ntmps117 call117
 (λ_ _=>tr (z8d.eq_2 ..))
 (λn=>⟨λ_=>tr (z1e.eq_2 ..),
  trivial⟩)
mutual
def z9k:Nat->yz1->Ot Bool
 |0,_=>none
 |n+1,a=>
  (z7r n a).bind λy0=>
  (z9s n y0).bind λy1=>
  pIf y1
   (z1x n true a)
   ((z89 n a).bind λy2=>
   (z9s n y2).bind λy3=>
   z1x n y3 a)
def z1x:Nat->Bool->yz1->Ot Bool
 |0,_,_=>none
 |n+1,a,b=>
  pIf a
   (some true)
   (z0k n 0 b)
def z0k:Nat->Int->yz1->Ot Bool
 |0,_,_=>none
 |n+1,a,b=>
  pIf (decide (a<(b.rules.length:Int)))
   ((ix b.rules a).bind λx4=>
   (ext [] x4.params).bind λx5=>
   (z7r n b).bind λy6=>
   (ext x5 y6).bind λx7=>
   (z8d n x7).bind λy8=>
   pIf y8.1
    (some true)
    (z0k n (IntKind.i64.wrap (a+1)) b))
   (some false)
end
def y9t:LSh:=⟨[(2,dB)],[],0,31,[]⟩
noncomputable def zuk:FI dat:=FI.of dat 54 31 0 [dT 11] [] [dB] [] true y9t (R:=Bool) Prod.fst (·,()) (λn=>u1 (z9k n))
 (λn=>[(0,⟨⟨[(1,(.ptr 0 0)),(11,dB)],[(.st 11)],0,31,[]⟩,u2 (z1x n)⟩),(1,⟨⟨[(3,dI),(1,(.ptr 0 0))],[(.st 11)],0,31,[]⟩,u2 (z0k n)⟩)]) (anb [(5,0),(14,1)] f54)
theorem y6p:FOk prog zuk:=okF (bs:=[zqs,zqb,y0f,zjq]) ⟨y3d,zvk,yep,zn8,trivial⟩ func54 ntmps54 call54
 (λ_ _=>tr (z9k.eq_2 ..))
 (λn=>⟨λ_=>tr (z1x.eq_2 ..),
  λ_=>tr (z0k.eq_2 ..),
  trivial⟩)
mutual
def zbe:Nat->zz1->(List B8)->Ot (List B8)
 |0,_,_=>none
 |n+1,a,b=>
  pIf (a.op==2)
   (z3h n 0 a.re b)
   (z3a n b a.re)
def z3h:Nat->Int->zz1->(List B8)->Ot (List B8)
 |0,_,_,_=>none
 |n+1,a,b,c=>
  pIf (decide (a<(c.length:Int)))
   ((ix c a).bind λx0=>
   z6x n a (Op.bytesLess x0 b.name) b.re c)
   (z6x n a false b.re c)
def z6x:Nat->Int->Bool->zz1->(List B8)->Ot (List B8)
 |0,_,_,_,_=>none
 |n+1,a,b,c,d=>
  pIf b
   (z3h n (IntKind.i64.wrap (a+1)) c.re d)
   (pIf (a==(d.length:Int))
     (z63 n a true c.re d)
     ((ix d a).bind λx1=>
     z63 n a (!(x1==c.name)) c.re d))
def z63:Nat->Int->Bool->zz1->(List B8)->Ot (List B8)
 |0,_,_,_,_=>none
 |n+1,a,b,c,d=>
  pIf b
   ((ext d [[]]).bind λx4=>
   (yrd x4 (IntKind.i64.wrap (a+1))).bind λx5=>
   (yrd x4 a).bind λx6=>
   (y24 x4 (IntKind.i64.wrap (a+1)) a).bind λx7=>
   (ix x7 a).bind λx8=>
   z3a n (x7.set (Int.toNat a) c.name) c.re)
   (z3a n d c.re)
def z3a:Nat->(List B8)->zz1->Ot (List B8)
 |0,_,_=>none
 |n+1,a,b=>
  z68 n 0 a b.re
def z68:Nat->Int->(List B8)->zz1->Ot (List B8)
 |0,_,_,_=>none
 |n+1,a,b,c=>
  pIf (decide (a<(c.args.length:Int)))
   ((ix c.args a).bind λx2=>
   (zbe n x2.re b).bind λy3=>
   z68 n (IntKind.i64.wrap (a+1)) y3 c.re)
   (some b)
end
def ymq:LSh:=⟨[(4,(.own 0))],[(.acc 9 .str true)],0,69,[]⟩
noncomputable def zhu:FI dat:=FI.of dat 222 69 0 [dT 5,(.own 0)] [(.acc 9 .str true)] [(.own 0)] [(.acc 9 .str true)] false ymq (R:=List B8) Prod.fst (·,()) (λn=>u2 (zbe n))
 (λn=>[(0,⟨⟨[(5,dI),(2,(.ptr 0 0)),(1,(.own 1))],[(.st 5),(.acc 9 .str true)],0,69,[]⟩,u3 (z3h n)⟩),(1,⟨⟨[(2,(.ptr 0 0)),(1,(.own 1)),(5,dI),(22,dB)],[(.st 5),(.acc 9 .str true)],0,69,[]⟩,u4 (z6x n)⟩),(2,⟨⟨[(2,(.ptr 0 0)),(5,dI),(1,(.own 1)),(37,dB)],[(.st 5),(.acc 9 .str true)],0,69,[]⟩,u4 (z63 n)⟩),(3,⟨⟨[(1,(.own 0)),(2,(.ptr 1 0))],[(.acc 9 .str true),(.st 5)],0,69,[]⟩,u2 (z3a n)⟩),(4,⟨⟨[(6,dI),(1,(.own 0)),(2,(.ptr 1 0))],[(.acc 9 .str true),(.st 5)],0,69,[]⟩,u3 (z68 n)⟩)]) (anb [(10,0),(14,1),(21,2),(29,3),(33,4)] f222)
noncomputable def ynt:List (FI dat):=[zhu]++[]
theorem yls:(zhu).Good prog dat (tb ynt):=FI.z0t (hD:=zz8 _) func222 ntmps222 call222 (by kernel_rfl) (Qac (by kernel_rfl)) (by kernel_rfl) (λn=>by kernel_rfl) (λx=>by kernel_rfl) (λ_=>rfl) ⟨λ_=>rfl,λ_=>rfl,λ_=>rfl,λ_=>rfl,λ_=>rfl,trivial⟩
 (λ_ _=>tr (zbe.eq_2 ..))
 (λn=>⟨λ_=>tr (z3h.eq_2 ..),
  λ_=>tr (z6x.eq_2 ..),
  λ_=>tr (z63.eq_2 ..),
  λ_=>tr (z3a.eq_2 ..),
  λ_=>tr (z68.eq_2 ..),
  trivial⟩)
 (λx=>.inr (by kernel_rfl))
theorem ylo:OkL prog [zhu]:=z5k (zz8 _) (bs:=[]) trivial ⟨yls,trivial⟩
theorem yfw:FOk prog zhu:=ylo.1
def zch:Nat->zz1->Ot ((List B8)×Int)
 |0,_=>none
 |n+1,a=>
  (z1b n a.re).bind λy0=>
  pIf (y0 != 0)
   ((z1b n a.re).bind λy1=>
   some ([],y1))
   ((zbe n a.re []).bind λy2=>
   some (y2,0))
def yht:LSh:=⟨[(2,dA),(3,dI)],[],0,11,[]⟩
noncomputable def y0l:FI dat:=FI.of dat 178 11 0 [dT 5] [] [dA,dI] [] true yht (R:=(List B8)×Int) (λx=>(x.1,x.2.1)) (λr=>(r.1,r.2,())) (λn=>u1 (zch n))
 (λn=>[]) (anb [] f178)
theorem yay:FOk prog y0l:=okF (bs:=[zhu,zjl]) ⟨yfw,zmc,trivial⟩ func178 ntmps178 call178
 (λ_ _=>tr (zch.eq_2 ..))
 (λn=>trivial)
mutual
def z8j:Nat->zz1->(List B8)->Ot Bool
 |0,_,_=>none
 |n+1,a,b=>
  (zch n a.re).bind λy0=>
  z2u n 0 y0.1 b
def z2u:Nat->Int->(List B8)->(List B8)->Ot Bool
 |0,_,_,_=>none
 |n+1,a,b,c=>
  pIf (decide (a<(b.length:Int)))
   ((ix b a).bind λx1=>
   (zaq n c x1).bind λy2=>
   pIf (decide (y2<0))
    (some false)
    (z2u n (IntKind.i64.wrap (a+1)) b c))
   (some true)
end
def yb4:LSh:=⟨[(4,dB)],[],0,26,[]⟩
noncomputable def zva:FI dat:=FI.of dat 119 26 0 [dT 5,dA] [] [dB] [] true yb4 (R:=Bool) Prod.fst (·,()) (λn=>u2 (z8j n))
 (λn=>[(0,⟨⟨[(7,dI),(5,dA),(1,dA)],[],0,26,[]⟩,u3 (z2u n)⟩)]) (anb [(8,0)] f119)
theorem y96:FOk prog zva:=okF (bs:=[y0l,znm]) ⟨yay,zov,trivial⟩ func119 ntmps119 call119
 (λ_ _=>tr (z8j.eq_2 ..))
 (λn=>⟨λ_=>tr (z2u.eq_2 ..),
  trivial⟩)
mutual
def zc7:Nat->zz6->Ot yz6
 |0,_=>none
 |n+1,a=>
  z3v n 0 a.re [a.when_.re]
def z3v:Nat->Int->zz6->yz6->Ot yz6
 |0,_,_,_=>none
 |n+1,a,b,c=>
  pIf (decide (a<(b.do_.length:Int)))
   ((ix b.do_ a).bind λx0=>
   (ext c x0.args).bind λx1=>
   z4w n 0 a b.re x1)
   (some c)
def z4w:Nat->Int->Int->zz6->yz6->Ot yz6
 |0,_,_,_,_=>none
 |n+1,a,b,c,d=>
  (ix c.do_ b).bind λx2=>
  pIf (decide (a<(x2.items.length:Int)))
   ((ix c.do_ b).bind λx3=>
   (ix x3.items a).bind λx4=>
   (ext d x4.args).bind λx5=>
   z4w n (IntKind.i64.wrap (a+1)) b c.re x5)
   (z3v n (IntKind.i64.wrap (b+1)) c.re d)
end
def yh3:LSh:=⟨[(2,dL 5)],[],0,48,[]⟩
noncomputable def y1d:FI dat:=FI.of dat 120 48 0 [dT 9] [] [dL 5] [] true yh3 (R:=yz6) Prod.fst (·,()) (λn=>u1 (zc7 n))
 (λn=>[(0,⟨⟨[(4,dI),(1,(.ptr 0 0)),(3,(.own 1))],[(.st 9),(.acc 29 (.st 5) true)],0,48,[]⟩,u3 (z3v n)⟩),(1,⟨⟨[(5,dI),(4,dI),(1,(.ptr 0 0)),(3,(.own 1))],[(.st 9),(.acc 29 (.st 5) true)],0,48,[]⟩,u4 (z4w n)⟩)]) (anb [(8,0),(22,1)] f120)
theorem ycv:FOk prog y1d:=okF (bs:=[]) trivial func120 ntmps120 call120
 (λ_ _=>tr (zc7.eq_2 ..))
 (λn=>⟨λ_=>tr (z3v.eq_2 ..),
  λ_=>tr (z4w.eq_2 ..),
  trivial⟩)
mutual
def zbj:Nat->yz5->Ot zcw
 |0,_=>none
 |n+1,a=>
  z6d n 0 [] a
def z6d:Nat->Int->zcw->yz5->Ot zcw
 |0,_,_,_=>none
 |n+1,a,b,c=>
  pIf (decide (a<(c.cases.length:Int)))
   (z3d n 0 a b c)
   (some b)
def z3d:Nat->Int->Int->zcw->yz5->Ot zcw
 |0,_,_,_,_=>none
 |n+1,a,b,c,d=>
  (ix d.cases b).bind λx0=>
  pIf (decide (a<(x0.do_.length:Int)))
   ((ix d.cases b).bind λx1=>
   (ix x1.do_ a).bind λx2=>
   pIf (x2.kind != 5)
    (z6l n b a (x2.kind != 6) x2 d c)
    (z6l n b a false x2 d c))
   (z6d n (IntKind.i64.wrap (b+1)) c d)
def z6l:Nat->Int->Int->Bool->zz4->yz5->zcw->Ot zcw
 |0,_,_,_,_,_,_=>none
 |n+1,a,b,c,d,e,f=>
  pIf c
   ((zcy n d.kind).bind λy3=>
   (ext f [(z2q.mk d.name (IntKind.i64.wrap ((d.args.length:Int)-y3)))]).bind λx4=>
   z6t n a b d x4 e)
   (z6t n a b d f e)
def z6t:Nat->Int->Int->zz4->zcw->yz5->Ot zcw
 |0,_,_,_,_,_=>none
 |n+1,a,b,c,d,e=>
  z5y n 0 a b c d e
def z5y:Nat->Int->Int->Int->zz4->zcw->yz5->Ot zcw
 |0,_,_,_,_,_,_=>none
 |n+1,a,b,c,d,e,f=>
  pIf (decide (a<(d.items.length:Int)))
   ((ix d.items a).bind λx5=>
   (ix d.items a).bind λx6=>
   (ext e [(z2q.mk x5.name (IntKind.i64.wrap ((x6.args.length:Int)-1)))]).bind λx7=>
   z5y n (IntKind.i64.wrap (a+1)) b c d x7 f)
   (z3d n (IntKind.i64.wrap (c+1)) b e f)
end
def yl6:LSh:=⟨[(2,dL 14)],[],0,82,[]⟩
noncomputable def ztg:FI dat:=FI.of dat 56 82 0 [dT 10] [] [dL 14] [] true yl6 (R:=zcw) Prod.fst (·,()) (λn=>u1 (zbj n))
 (λn=>[(0,⟨⟨[(3,(.own 0)),(4,dI),(1,(.ptr 1 0))],[(.acc 106 (.st 14) true),(.st 10)],0,82,[]⟩,u3 (z6d n)⟩),(1,⟨⟨[(5,dI),(3,(.own 0)),(4,dI),(1,(.ptr 1 0))],[(.acc 106 (.st 14) true),(.st 10)],0,82,[]⟩,u4 (z3d n)⟩),(2,⟨⟨[(6,(.ptr 0 0)),(4,dI),(1,(.ptr 1 0)),(5,dI),(3,(.own 2)),(42,dB)],[(.st 8),(.st 10),(.acc 106 (.st 14) true)],0,82,[]⟩,u6 (z6l n)⟩),(3,⟨⟨[(6,(.ptr 0 0)),(3,(.own 1)),(4,dI),(1,(.ptr 2 0)),(5,dI)],[(.st 8),(.acc 106 (.st 14) true),(.st 10)],0,82,[]⟩,u5 (z6t n)⟩),(4,⟨⟨[(7,dI),(6,(.ptr 0 0)),(3,(.own 1)),(4,dI),(1,(.ptr 2 0)),(5,dI)],[(.st 8),(.acc 106 (.st 14) true),(.st 10)],0,82,[]⟩,u6 (z5y n)⟩)]) (anb [(8,0),(20,1),(34,2),(37,3),(40,4)] f56)
theorem y0h:FOk prog ztg:=okF (bs:=[zxs]) ⟨y4b,trivial⟩ func56 ntmps56 call56
 (λ_ _=>tr (zbj.eq_2 ..))
 (λn=>⟨λ_=>tr (z6d.eq_2 ..),
  λ_=>tr (z3d.eq_2 ..),
  λ_=>tr (z6l.eq_2 ..),
  λ_=>tr (z6t.eq_2 ..),
  λ_=>tr (z5y.eq_2 ..),
  trivial⟩)
mutual
def zcf:Nat->yz1->Ot Bool
 |0,_=>none
 |n+1,a=>
  (z7r n a).bind λy0=>
  z44 n 0 y0 a
def z44:Nat->Int->(List B8)->yz1->Ot Bool
 |0,_,_,_=>none
 |n+1,a,b,c=>
  pIf (decide (a<(c.attrs.length:Int)))
   ((ix c.attrs a).bind λx1=>
   (sub b 0 a).bind λx2=>
   (z8j n x1.value.re x2).bind λy3=>
   pIf (!y3)
    (some false)
    (z44 n (IntKind.i64.wrap (a+1)) b c))
   (z25 n 0 b c)
def z25:Nat->Int->(List B8)->yz1->Ot Bool
 |0,_,_,_=>none
 |n+1,a,b,c=>
  pIf (decide (a<(c.rules.length:Int)))
   ((ix c.rules a).bind λx4=>
   (ext [[115,120],[115,121],[115,122]] b).bind λx5=>
   (ext x5 x4.params).bind λx6=>
   z2e n x6 0 b a x4 c)
   (some true)
def z2e:Nat->(List B8)->Int->(List B8)->Int->yz5->yz1->Ot Bool
 |0,_,_,_,_,_,_=>none
 |n+1,a,b,c,d,e,f=>
  pIf (decide (b<(e.cases.length:Int)))
   ((ix e.cases b).bind λx7=>
   (zc7 n x7.re).bind λy8=>
   z4t n 0 a y8 c d b e f)
   ((zbj n e).bind λy9=>
   z22 n 0 y9 c d f)
def z4t:Nat->Int->(List B8)->yz6->(List B8)->Int->Int->yz5->yz1->Ot Bool
 |0,_,_,_,_,_,_,_,_=>none
 |n+1,a,b,c,d,e,f,g,h=>
  pIf (decide (a<(c.length:Int)))
   ((ix c a).bind λx10=>
   (z8j n x10.re b).bind λy11=>
   pIf (!y11)
    (some false)
    (z4t n (IntKind.i64.wrap (a+1)) b c d e f g h))
   (z2e n b (IntKind.i64.wrap (f+1)) d e g h)
def z22:Nat->Int->zcw->(List B8)->Int->yz1->Ot Bool
 |0,_,_,_,_,_=>none
 |n+1,a,b,c,d,e=>
  pIf (decide (a<(b.length:Int)))
   ((z89 n e).bind λy12=>
   (ix b a).bind λx13=>
   (zaq n y12 x13.name).bind λy14=>
   pIf (decide (y14<0))
    (some false)
    (z22 n (IntKind.i64.wrap (a+1)) b c d e))
   (z25 n (IntKind.i64.wrap (d+1)) c e)
end
def yf8:LSh:=⟨[(2,dB)],[],0,94,[]⟩
noncomputable def y0m:FI dat:=FI.of dat 55 94 0 [dT 11] [] [dB] [] true yf8 (R:=Bool) Prod.fst (·,()) (λn=>u1 (zcf n))
 (λn=>[(0,⟨⟨[(4,dI),(3,dA),(1,(.ptr 0 0))],[(.st 11)],0,94,[]⟩,u3 (z44 n)⟩),(1,⟨⟨[(1,(.ptr 0 0)),(5,dI),(3,dA)],[(.st 11)],0,94,[]⟩,u3 (z25 n)⟩),(2,⟨⟨[(7,dA),(8,dI),(6,(.ptr 0 0)),(1,(.ptr 1 0)),(3,dA),(5,dI)],[(.st 10),(.st 11)],0,94,[]⟩,u6 (z2e n)⟩),(3,⟨⟨[(10,dI),(7,dA),(9,dL 5),(6,(.ptr 0 0)),(1,(.ptr 1 0)),(3,dA),(5,dI),(8,dI)],[(.st 10),(.st 11)],0,94,[]⟩,u8 (z4t n)⟩),(4,⟨⟨[(12,dI),(11,dL 14),(1,(.ptr 0 0)),(3,dA),(5,dI)],[(.st 11)],0,94,[]⟩,u5 (z22 n)⟩)]) (anb [(8,0),(29,1),(46,2),(60,3),(83,4)] f55)
theorem ybx:FOk prog y0m:=okF (bs:=[zqb,zva,y1d,ztg,zjq,znm]) ⟨zvk,y96,ycv,y0h,zn8,zov,trivial⟩ func55 ntmps55 call55
 (λ_ _=>tr (zcf.eq_2 ..))
 (λn=>⟨λ_=>tr (z44.eq_2 ..),
  λ_=>tr (z25.eq_2 ..),
  λ_=>tr (z2e.eq_2 ..),
  λ_=>tr (z4t.eq_2 ..),
  λ_=>tr (z22.eq_2 ..),
  trivial⟩)
mutual
def z9x:Nat->yz1->Ot Int
 |0,_=>none
 |n+1,a=>
  (zdw n a).bind λy0=>
  pIf y0
   (some 4)
   ((zac n a).bind λy1=>
   pIf (!y1)
    (some 8)
    ((z9k n a).bind λy2=>
    pIf y2
     (some 14)
     ((zcf n a).bind λy3=>
     pIf (!y3)
      (some 6)
      (z3w n 0 a))))
def z3w:Nat->Int->yz1->Ot Int
 |0,_,_=>none
 |n+1,a,b=>
  pIf (decide (a<(b.rules.length:Int)))
   ((ix b.rules a).bind λx4=>
   (zbj n x4).bind λy5=>
   z4x n 0 y5 a b)
   (some 0)
def z4x:Nat->Int->zcw->Int->yz1->Ot Int
 |0,_,_,_,_=>none
 |n+1,a,b,c,d=>
  pIf (decide (a<(b.length:Int)))
   ((ix b a).bind λx6=>
   (z89 n d).bind λy7=>
   (ix b a).bind λx8=>
   (zaq n y7 x8.name).bind λy9=>
   (ix d.rules y9).bind λx10=>
   pIf (x6.many != (x10.params.length:Int))
    (some 2)
    (z4x n (IntKind.i64.wrap (a+1)) b c d))
   (z3w n (IntKind.i64.wrap (c+1)) d)
end
def yg2:LSh:=⟨[(2,dI)],[],0,59,[]⟩
noncomputable def zqm:FI dat:=FI.of dat 24 59 0 [dT 11] [] [dI] [] true yg2 (R:=Int) Prod.fst (·,()) (λn=>u1 (z9x n))
 (λn=>[(0,⟨⟨[(1,(.ptr 0 0)),(3,dI)],[(.st 11)],0,59,[]⟩,u2 (z3w n)⟩),(1,⟨⟨[(5,dI),(4,dL 14),(1,(.ptr 0 0)),(3,dI)],[(.st 11)],0,59,[]⟩,u4 (z4x n)⟩)]) (anb [(33,0),(47,1)] f24)
theorem zxa:FOk prog zqm:=okF (bs:=[y3a,zvi,zuk,y0m,ztg,zjq,znm]) ⟨yh6,y9o,y6p,ybx,y0h,zn8,zov,trivial⟩ func24 ntmps24 call24
 (λ_ _=>tr (z9x.eq_2 ..))
 (λn=>⟨λ_=>tr (z3w.eq_2 ..),
  λ_=>tr (z4x.eq_2 ..),
  trivial⟩)
def z2g:Nat->yz1->Ot Bool
 |0,_=>none
 |n+1,a=>
  (z9u n a).bind λy0=>
  pIf (!y0)
   ((z9x n a).bind λy1=>
   some (y1==0))
   (some false)
def zxm:LSh:=⟨[(2,dB)],[],0,11,[]⟩
noncomputable def zk7:FI dat:=FI.of dat 17 11 0 [dT 11] [] [dB] [] true zxm (R:=Bool) Prod.fst (·,()) (λn=>u1 (z2g n))
 (λn=>[]) (anb [] f17)
theorem zuo:FOk prog zk7:=okF (bs:=[zpu,zqm]) ⟨zw9,zxa,trivial⟩ func17 ntmps17 call17
 (λ_ _=>tr (z2g.eq_2 ..))
 (λn=>trivial)
mutual
def zbd:Nat->kz0->Ot kz0
 |0,_=>none
 |n+1,a=>
  z6s n 0 a.kind a.num.num a.num.den a.truth a.str a.re 0 0 0 false [] [] []
def z6s:Nat->Int->Int->Int->Int->Bool->B8->kz0->Int->Int->Int->Bool->B8->zzw->zzw->Ot kz0
 |0,_,_,_,_,_,_,_,_,_,_,_,_,_,_=>none
 |n+1,a,b,c,d,e,f,g,h,i,j,k,l,m,o=>
  pIf (decide (a<(g.list.length:Int)))
   ((ix g.list a).bind λx0=>
   (zbd n x0.re).bind λy1=>
   (ext m [y1.re]).bind λx2=>
   z6s n (IntKind.i64.wrap (a+1)) b c d e f g.re h i j k l x2 o)
   (some (kz0.mk b (yz4.mk c d) e f m))
end
def yms:LSh:=⟨[(2,(.ptr 0 0))],[(.st 4)],0,26,[]⟩
noncomputable def zf7:FI dat:=FI.of dat 113 26 0 [dT 4] [] [dT 4] [] true yms (R:=kz0) Prod.fst (·,()) (λn=>u1 (zbd n))
 (λn=>[(0,⟨⟨[(4,dI),(3,(.ptr 0 0)),(1,(.ptr 1 0)),(2,(.ptr 2 0))],[(.cells [dU,dI,dI,dB,dS,(.own 3)]),(.st 4),(.cells [dU,dI,dI,dB,dS,(.own 4)]),(.acc 26 (.st 4) true),(.acc 26 (.st 4) true)],0,26,[]⟩,λx=>z6s n x.1 x.2.1 x.2.2.1 x.2.2.2.1 x.2.2.2.2.1 x.2.2.2.2.2.1 x.2.2.2.2.2.2.1 x.2.2.2.2.2.2.2.1 x.2.2.2.2.2.2.2.2.1 x.2.2.2.2.2.2.2.2.2.1 x.2.2.2.2.2.2.2.2.2.2.1 x.2.2.2.2.2.2.2.2.2.2.2.1 x.2.2.2.2.2.2.2.2.2.2.2.2.1 x.2.2.2.2.2.2.2.2.2.2.2.2.2.1⟩)]) (anb [(10,0)] f113)
noncomputable def ykt:List (FI dat):=[zf7]++[]
theorem yk4:(zf7).Good prog dat (tb ykt):=FI.z0t (hD:=zz8 _) func113 ntmps113 call113 (by kernel_rfl) (Qac (by kernel_rfl)) (by kernel_rfl) (λn=>by kernel_rfl) (λx=>by kernel_rfl) (λ_=>rfl) ⟨λ_=>rfl,trivial⟩
 (λ_ _=>tr (zbd.eq_2 ..))
 (λn=>⟨λ_=>tr (z6s.eq_2 ..),
  trivial⟩)
 (λx=>.inl rfl)
theorem ykv:OkL prog [zf7]:=z5k (zz8 _) (bs:=[]) trivial ⟨yk4,trivial⟩
theorem ygj:FOk prog zf7:=ykv.1
mutual
def z7f:Nat->zz1->Ot zz1
 |0,_=>none
 |n+1,a=>
  (zbd n a.value.re).bind λy0=>
  z74 n 0 a.op y0.kind y0.num.num y0.num.den y0.truth y0.str y0.list a.name a.re 0 0 0 0 false [] [] [] [] []
def z74:Nat->Int->Int->Int->Int->Int->Bool->B8->zzw->B8->zz1->Int->Int->Int->Int->Bool->B8->zzw->B8->yz6->yz6->Ot zz1
 |0,_,_,_,_,_,_,_,_,_,_,_,_,_,_,_,_,_,_,_,_=>none
 |n+1,a,b,c,d,e,f,g,h,i,j,k,l,m,o,p,q,r,s,t,u=>
  pIf (decide (a<(j.args.length:Int)))
   ((ix j.args a).bind λx1=>
   (z7f n x1.re).bind λy2=>
   (ext t [y2.re]).bind λx3=>
   z74 n (IntKind.i64.wrap (a+1)) b c d e f g h i j.re k l m o p q r s x3 u)
   (some (zz1.mk b (kz0.mk c (yz4.mk d e) f g h) i t))
end
def ylt:LSh:=⟨[(2,(.ptr 0 0))],[(.st 5)],0,32,[]⟩
noncomputable def zd7:FI dat:=FI.of dat 50 32 0 [dT 5] [] [dT 5] [] true ylt (R:=zz1) Prod.fst (·,()) (λn=>u1 (z7f n))
 (λn=>[(0,⟨⟨[(4,dI),(3,(.ptr 0 0)),(1,(.ptr 1 0)),(2,(.ptr 2 0))],[(.cells [dU,dU,dI,dI,dB,dS,dL 4,dS,(.own 3)]),(.st 5),(.cells [dU,dU,dI,dI,dB,dS,dL 4,dS,(.own 4)]),(.acc 29 (.st 5) true),(.acc 29 (.st 5) true)],0,32,[]⟩,λx=>z74 n x.1 x.2.1 x.2.2.1 x.2.2.2.1 x.2.2.2.2.1 x.2.2.2.2.2.1 x.2.2.2.2.2.2.1 x.2.2.2.2.2.2.2.1 x.2.2.2.2.2.2.2.2.1 x.2.2.2.2.2.2.2.2.2.1 x.2.2.2.2.2.2.2.2.2.2.1 x.2.2.2.2.2.2.2.2.2.2.2.1 x.2.2.2.2.2.2.2.2.2.2.2.2.1 x.2.2.2.2.2.2.2.2.2.2.2.2.2.1 x.2.2.2.2.2.2.2.2.2.2.2.2.2.2.1 x.2.2.2.2.2.2.2.2.2.2.2.2.2.2.2.1 x.2.2.2.2.2.2.2.2.2.2.2.2.2.2.2.2.1 x.2.2.2.2.2.2.2.2.2.2.2.2.2.2.2.2.2.1 x.2.2.2.2.2.2.2.2.2.2.2.2.2.2.2.2.2.2.1 x.2.2.2.2.2.2.2.2.2.2.2.2.2.2.2.2.2.2.2.1⟩)]) (anb [(8,0)] f50)
noncomputable def yl7:List (FI dat):=[zd7]++[zf7]
theorem ylp:(zd7).Good prog dat (tb yl7):=FI.z0t (hD:=zz8 _) func50 ntmps50 call50 (by kernel_rfl) (Qac (by kernel_rfl)) (by kernel_rfl) (λn=>by kernel_rfl) (λx=>by kernel_rfl) (λ_=>rfl) ⟨λ_=>rfl,trivial⟩
 (λ_ _=>tr (z7f.eq_2 ..))
 (λn=>⟨λ_=>tr (z74.eq_2 ..),
  trivial⟩)
 (λx=>.inl rfl)
theorem yln:OkL prog [zd7]:=z5k (zz8 _) (bs:=[zf7]) ⟨ygj,trivial⟩ ⟨ylp,trivial⟩
theorem zq3:FOk prog zd7:=yln.1
def z2z:Nat->yz6->Ot yz6
 |0,_=>none
 |n+1,a=>
  (z1m n a).bind λy0=>
  (z7f n y0.re).bind λy1=>
  some y1.args
def y3k:LSh:=⟨[(2,dL 5)],[],0,7,[]⟩
noncomputable def zp9:FI dat:=FI.of dat 51 7 0 [dL 5] [] [dL 5] [] true y3k (R:=yz6) Prod.fst (·,()) (λn=>u1 (z2z n))
 (λn=>[]) (anb [] f51)
theorem y1l:FOk prog zp9:=okF (bs:=[zll,zd7]) ⟨zqh,zq3,trivial⟩ func51 ntmps51 call51
 (λ_ _=>tr (z2z.eq_2 ..))
 (λn=>trivial)
mutual
def z4z:Nat->yz5->Ot yz5
 |0,_=>none
 |n+1,a=>
  (ext [] a.params).bind λx0=>
  z1l n 0 a a.name x0 [] [] [] []
def z1l:Nat->Int->yz5->B8->(List B8)->B8->z1o->(List B8)->z1o->Ot yz5
 |0,_,_,_,_,_,_,_,_=>none
 |n+1,a,b,c,d,e,f,g,h=>
  pIf (decide (a<(b.cases.length:Int)))
   ((ix b.cases a).bind λx1=>
   (ix b.cases a).bind λx2=>
   (z7f n x2.when_.re).bind λy3=>
   z18 n 0 a x1.weight y3.op y3.value.kind y3.value.num.num y3.value.num.den y3.value.truth y3.value.str y3.value.list y3.name y3.args b c d e [] f g h)
   (some (yz5.mk c d f))
def z18:Nat->Int->Int->Int->Int->Int->Int->Int->Bool->B8->zzw->B8->yz6->yz5->B8->(List B8)->B8->zaf->z1o->(List B8)->z1o->Ot yz5
 |0,_,_,_,_,_,_,_,_,_,_,_,_,_,_,_,_,_,_,_,_=>none
 |n+1,a,b,c,d,e,f,g,h,i,j,k,l,m,o,p,q,r,s,t,u=>
  (ix m.cases b).bind λx4=>
  pIf (decide (a<(x4.do_.length:Int)))
   ((ix m.cases b).bind λx5=>
   (ix x5.do_ a).bind λx6=>
   (z2z n x6.args).bind λy7=>
   z1c n 0 b a x6.kind x6.axis x6.name y7 x6 c d e f g h i j k l m o p q [] r s t u)
   ((ext s [(zz6.mk c (zz1.mk d (kz0.mk e (yz4.mk f g) h i j) k l) [])]).bind λx8=>
   (ix x8 (s.length:Int)).bind λx9=>
   z1l n (IntKind.i64.wrap (b+1)) m o p q (x8.set (Int.toNat (s.length:Int)) (zz6.mk x9.weight x9.when_.re r)) t u)
def z1c:Nat->Int->Int->Int->Int->Int->B8->yz6->zz4->Int->Int->Int->Int->Int->Bool->B8->zzw->B8->yz6->yz5->B8->(List B8)->B8->ztt->zaf->z1o->(List B8)->z1o->Ot yz5
 |0,_,_,_,_,_,_,_,_,_,_,_,_,_,_,_,_,_,_,_,_,_,_,_,_,_,_,_=>none
 |n+1,a,b,c,d,e,f,g,h,i,j,k,l,m,o,p,q,r,s,t,u,v,w,z,a23,a24,a25,a26=>
  pIf (decide (a<(h.items.length:Int)))
   ((ix h.items a).bind λx10=>
   (ix h.items a).bind λx11=>
   (ix h.items a).bind λx12=>
   (z2z n x12.args).bind λy13=>
   (ext z [(yzj.mk x10.kind x11.name y13)]).bind λx14=>
   z1c n (IntKind.i64.wrap (a+1)) b c d e f g h i j k l m o p q r s t u v w x14 a23 a24 a25 a26)
   ((ext a23 [(zz4.mk d e f g [])]).bind λx15=>
   (ix x15 (a23.length:Int)).bind λx16=>
   z18 n (IntKind.i64.wrap (c+1)) b i j k l m o p q r s t u v w (x15.set (Int.toNat (a23.length:Int)) (zz4.mk x16.kind x16.axis x16.name x16.args z)) a24 a25 a26)
end
def y5p:LSh:=⟨[(2,(.ptr 0 0))],[(.st 10)],0,113,[]⟩
noncomputable def zj9:FI dat:=FI.of dat 23 113 0 [dT 10] [] [dT 10] [] true y5p (R:=yz5) Prod.fst (·,()) (λn=>u1 (z4z n))
 (λn=>[(0,⟨⟨[(4,dI),(1,(.ptr 0 0)),(3,(.ptr 1 0)),(2,(.ptr 2 0))],[(.st 10),(.cells [dS,dA,(.own 3)]),(.cells [dS,(.own 4),(.own 5)]),(.deep 57 9),(.acc 9 .str true),(.deep 57 9)],0,113,[]⟩,u8 (z1l n)⟩),(1,⟨⟨[(6,dI),(5,(.ptr 0 0)),(4,dI),(1,(.ptr 1 0)),(3,(.ptr 2 0)),(2,(.ptr 3 0))],[(.cells [dI,dU,dU,dI,dI,dB,dS,dL 4,dS,dL 5,(.own 4)]),(.st 10),(.cells [dS,dA,(.own 5)]),(.cells [dS,(.own 6),(.own 7)]),(.deep 40 8),(.deep 57 9),(.acc 9 .str true),(.deep 57 9)],0,113,[]⟩,λx=>z18 n x.1 x.2.1 x.2.2.1 x.2.2.2.1 x.2.2.2.2.1 x.2.2.2.2.2.1 x.2.2.2.2.2.2.1 x.2.2.2.2.2.2.2.1 x.2.2.2.2.2.2.2.2.1 x.2.2.2.2.2.2.2.2.2.1 x.2.2.2.2.2.2.2.2.2.2.1 x.2.2.2.2.2.2.2.2.2.2.2.1 x.2.2.2.2.2.2.2.2.2.2.2.2.1 x.2.2.2.2.2.2.2.2.2.2.2.2.2.1 x.2.2.2.2.2.2.2.2.2.2.2.2.2.2.1 x.2.2.2.2.2.2.2.2.2.2.2.2.2.2.2.1 x.2.2.2.2.2.2.2.2.2.2.2.2.2.2.2.2.1 x.2.2.2.2.2.2.2.2.2.2.2.2.2.2.2.2.2.1 x.2.2.2.2.2.2.2.2.2.2.2.2.2.2.2.2.2.2.1 x.2.2.2.2.2.2.2.2.2.2.2.2.2.2.2.2.2.2.2.1⟩),(2,⟨⟨[(9,dI),(8,(.ptr 0 0)),(7,(.ptr 1 0)),(5,(.ptr 2 0)),(4,dI),(1,(.ptr 3 0)),(3,(.ptr 4 0)),(2,(.ptr 5 0)),(6,dI)],[(.cells [dU,dU,dS,dL 5,(.own 6)]),(.st 8),(.cells [dI,dU,dU,dI,dI,dB,dS,dL 4,dS,dL 5,(.own 7)]),(.st 10),(.cells [dS,dA,(.own 8)]),(.cells [dS,(.own 9),(.own 10)]),(.acc 43 (.st 7) true),(.deep 40 8),(.deep 57 9),(.acc 9 .str true),(.deep 57 9)],0,113,[]⟩,λx=>z1c n x.1 x.2.1 x.2.2.1 x.2.2.2.1 x.2.2.2.2.1 x.2.2.2.2.2.1 x.2.2.2.2.2.2.1 x.2.2.2.2.2.2.2.1 x.2.2.2.2.2.2.2.2.1 x.2.2.2.2.2.2.2.2.2.1 x.2.2.2.2.2.2.2.2.2.2.1 x.2.2.2.2.2.2.2.2.2.2.2.1 x.2.2.2.2.2.2.2.2.2.2.2.2.1 x.2.2.2.2.2.2.2.2.2.2.2.2.2.1 x.2.2.2.2.2.2.2.2.2.2.2.2.2.2.1 x.2.2.2.2.2.2.2.2.2.2.2.2.2.2.2.1 x.2.2.2.2.2.2.2.2.2.2.2.2.2.2.2.2.1 x.2.2.2.2.2.2.2.2.2.2.2.2.2.2.2.2.2.1 x.2.2.2.2.2.2.2.2.2.2.2.2.2.2.2.2.2.2.1 x.2.2.2.2.2.2.2.2.2.2.2.2.2.2.2.2.2.2.2.1 x.2.2.2.2.2.2.2.2.2.2.2.2.2.2.2.2.2.2.2.2.1 x.2.2.2.2.2.2.2.2.2.2.2.2.2.2.2.2.2.2.2.2.2.1 x.2.2.2.2.2.2.2.2.2.2.2.2.2.2.2.2.2.2.2.2.2.2.1 x.2.2.2.2.2.2.2.2.2.2.2.2.2.2.2.2.2.2.2.2.2.2.2.1 x.2.2.2.2.2.2.2.2.2.2.2.2.2.2.2.2.2.2.2.2.2.2.2.2.1 x.2.2.2.2.2.2.2.2.2.2.2.2.2.2.2.2.2.2.2.2.2.2.2.2.2.1 x.2.2.2.2.2.2.2.2.2.2.2.2.2.2.2.2.2.2.2.2.2.2.2.2.2.2.1⟩)]) (anb [(8,0),(23,1),(40,2)] f23)
theorem zoi:FOk prog zj9:=okF (bs:=[zd7,zp9]) ⟨zq3,y1l,trivial⟩ func23 ntmps23 call23
 (λ_ _=>tr (z4z.eq_2 ..))
 (λn=>⟨λ_=>tr (z1l.eq_2 ..),
  λ_=>tr (z18.eq_2 ..),
  λ_=>tr (z1c.eq_2 ..),
  trivial⟩)
mutual
def zdx:Nat->yz1->Ot (z02×yzf)
 |0,_=>none
 |n+1,a=>
  z6y n 0 a [] [] [] []
def z6y:Nat->Int->yz1->z02->yzf->z02->yzf->Ot (z02×yzf)
 |0,_,_,_,_,_,_=>none
 |n+1,a,b,c,d,e,f=>
  pIf (decide (a<(b.attrs.length:Int)))
   ((ix b.attrs a).bind λx0=>
   (ix b.attrs a).bind λx1=>
   (z7f n x1.value.re).bind λy2=>
   (ext c [(zzi.mk x0.name y2.re)]).bind λx3=>
   z6y n (IntKind.i64.wrap (a+1)) b x3 d e f)
   (z73 n 0 b c d e f)
def z73:Nat->Int->yz1->z02->yzf->z02->yzf->Ot (z02×yzf)
 |0,_,_,_,_,_,_=>none
 |n+1,a,b,c,d,e,f=>
  pIf (decide (a<(b.rules.length:Int)))
   ((ix b.rules a).bind λx4=>
   (z4z n x4).bind λy5=>
   (ext d [y5]).bind λx6=>
   z73 n (IntKind.i64.wrap (a+1)) b c x6 e f)
   (some (c,d))
end
def yn9:LSh:=⟨[(2,(.ptr 0 0))],[(.cells [(.own 1),(.own 2)]),(.acc 49 (.st 6) true),(.acc 47 (.st 10) true)],0,51,[]⟩
noncomputable def y4e:FI dat:=FI.of dat 21 51 0 [dT 11] [] [(.agg [(.own 1),(.own 2)])] [(.cells [(.own 1),(.own 2)]),(.acc 49 (.st 6) true),(.acc 47 (.st 10) true)] false yn9 (R:=z02×yzf) (λx=>(x.1,x.2.1)) (λr=>(r.1,r.2,())) (λn=>u1 (zdx n))
 (λn=>[(0,⟨⟨[(4,dI),(3,(.ptr 0 0)),(1,(.ptr 1 0)),(2,(.ptr 2 0))],[(.cells [(.own 3),(.own 4)]),(.st 11),(.cells [(.own 5),(.own 6)]),(.acc 49 (.st 6) true),(.acc 47 (.st 10) true),(.acc 49 (.st 6) true),(.acc 47 (.st 10) true)],0,51,[]⟩,u6 (z6y n)⟩),(1,⟨⟨[(5,dI),(3,(.ptr 0 0)),(1,(.ptr 1 0)),(2,(.ptr 2 0))],[(.cells [(.own 3),(.own 4)]),(.st 11),(.cells [(.own 5),(.own 6)]),(.acc 49 (.st 6) true),(.acc 47 (.st 10) true),(.acc 49 (.st 6) true),(.acc 47 (.st 10) true)],0,51,[]⟩,u6 (z73 n)⟩)]) (anb [(8,0),(23,1)] f21)
theorem ygv:FOk prog y4e:=okF (bs:=[zd7,zj9]) ⟨zq3,zoi,trivial⟩ func21 ntmps21 call21
 (λ_ _=>tr (zdx.eq_2 ..))
 (λn=>⟨λ_=>tr (z6y.eq_2 ..),
  λ_=>tr (z73.eq_2 ..),
  trivial⟩)
mutual
noncomputable def kzl:Nat->yz1->yz5->Int->Ot Bool
 |0,_,_,_=>none
 |n+1,a,b,c=>
  (zdx n a).bind λy0=>
  (z4z n b).bind λy1=>
  (ext y0.2 [y1]).bind λx2=>
  (z2g n a).bind λy3=>
  pIf (!y3)
   (yz7 n c true y0.1 x2 a)
   ((z9u n (yz1.mk y0.1 x2)).bind λy4=>
   pIf y4
    (yz7 n c true y0.1 x2 a)
    (pIf ((a.rules.length:Int)==0)
      (yz7 n c true y0.1 x2 a)
      (pIf (decide ((a.rules.length:Int)>=40))
        (yz7 n c true y0.1 x2 a)
        (pIf (decide (c<0))
          (yz7 n c true y0.1 x2 a)
          (yz7 n c (decide (c>=(a.rules.length:Int))) y0.1 x2 a)))))
noncomputable def yz7:Nat->Int->Bool->z02->yzf->yz1->Ot Bool
 |0,_,_,_,_,_=>none
 |n+1,a,b,c,d,e=>
  pIf b
   ((zzl n).bind λy5=>
   some y5)
   ((z54 n (yz1.mk c d)).bind λy6=>
   pIf (y6 != 0)
    ((z9x n (yz1.mk c d)).bind λy7=>
    pIf (y7 != 0)
     ((zzl n).bind λy8=>
     some y8)
     (some false))
    ((ix e.rules a).bind λx9=>
    (z2i n e x9.name).bind λy10=>
    (ix e.rules a).bind λx11=>
    (z2i n (yz1.mk c d) x11.name).bind λy12=>
    (z7k n e).bind λy13=>
    (z7k n (yz1.mk c d)).bind λy14=>
    pIf (y10.2 != 0)
     (yzl n y13.1 y14.1 y14.2 y13.2 true)
     (pIf (y12.2 != 0)
       (yzl n y13.1 y14.1 y14.2 y13.2 true)
       ((yzr n y10.1 y12.1).bind λy15=>
       yzl n y13.1 y14.1 y14.2 y13.2 (!y15)))))
noncomputable def yzl:Nat->B8->B8->Int->Int->Bool->Ot Bool
 |0,_,_,_,_,_=>none
 |n+1,a,b,c,d,e=>
  pIf e
   (some false)
   (pIf (d != 0)
     ((zzl n).bind λy16=>
     some y16)
     (pIf (c != 0)
       ((zzl n).bind λy17=>
       some y17)
       (pIf (decide ((b.length:Int)>(a.length:Int)))
         ((sub b 0 (a.length:Int)).bind λx18=>
         pIf (x18==a)
          ((zzl n).bind λy19=>
          some y19)
          (some false))
         (some false))))
end
def zpv:LSh:=⟨[(6,dB)],[],0,133,[]⟩
noncomputable def zqq:FI dat:=FI.of dat 6 133 0 [dT 11,dT 10,dI] [] [dB] [] true zpv (R:=Bool) Prod.fst (·,()) (λn=>u3 (kzl n))
 (λn=>[(0,⟨⟨[(7,(.ptr 0 0)),(3,(.ptr 1 0)),(2,dI),(54,dB)],[(.cells [dL 6,dL 10]),(.st 11)],0,133,[]⟩,u5 (yz7 n)⟩),(1,⟨⟨[(12,dS),(14,dS),(15,dI),(13,dI),(108,dB)],[],0,133,[]⟩,u5 (yzl n)⟩)]) (anb [(9,0),(33,1)] f6)
theorem znw:FOk prog zqq:=okF (bs:=[y4e,zj9,zk7,zpu,zjt,zgg,zqm,zq7,zi2,zfq]) ⟨ygv,zoi,zuo,zw9,zuq,zhy,zxa,zwu,zpz,zkd,trivial⟩ func6 ntmps6 call6
 (λn=>λ_=>tr (kzl.eq_2 _ _ _ n))
 (λn=>⟨λ_=>tr (yz7.eq_2 _ _ _ _ _ n),
  λ_=>tr (yzl.eq_2 _ _ _ _ _ n),
  trivial⟩)
theorem znv(a0:yz1)(a1:yz5)(a2:Int):VRL dat [] 0 [dat.tv (.st 11) a0,dat.tv (.st 10) a1,dat.tv (.int .i64) a2] [dat.el (.st 11) a0,dat.el (.st 10) a1,dat.el (.int .i64) a2]:=by
 simp only[VRL];exact⟨_,_,rfl,VR.tv (zz8 prog) (DR.el _ _),⟨_,_,rfl,VR.tv (zz8 prog) (DR.el _ _),⟨_,_,rfl,VR.tv (zz8 prog) (DR.el _ _),rfl⟩⟩⟩
theorem zku(n:Nat)(a0:yz1)(a1:yz5)(a2:Int)(r:Bool)(h:kzl n a0 a1 a2=some r):zpq prog 6 [dat.el (.st 11) a0,dat.el (.st 10) a1,dat.el (.int .i64) a2] (.bool r):=by
 obtain⟨y,h1,_,_,_,h2⟩:=znw n _ (a0,a1,a2,()) (λy=>some y.1) (λ_=>none) r (by show(kzl n a0 a1 a2).bind (λr=>some r)=some r;rw[h];rfl);obtain⟨vs,k1,k2⟩:=h2 0 [dat.el (.st 11) a0,dat.el (.st 10) a1,dat.el (.int .i64) a2] (znv a0 a1 a2);injection h1 with h1;subst h1;have:=k1 [] 0;replace this:VRL dat [] 0 [TV.bool y.1] vs:=this;simp only[VRL,VR]at this;obtain⟨v,r,rfl,rfl,rfl⟩:=this;exact k2
theorem yw3(m):zzl (m+300)=some true:=by kernel_rfl
theorem z02r:Ev (λn=>zzl n) true:=⟨300,λk hk=>by
 obtain⟨m,rfl⟩:=Nat.exists_eq_add_of_le' hk
 exact yw3 m⟩
end Go.Proofs.YthphaiccgnkobaaGreatDoor
namespace Go.Proofs.Tryz
open Go Go.Ab
open Go.Proofs.Tryz
set_option linter.unusedSimpArgs false
@[simp] theorem yoz:Program.cellsOf prog 2=1:=by kernel_rfl
@[simp] theorem yyg:Program.cellsOf prog 3=1:=by kernel_rfl
@[simp] theorem z02c:Program.cellsOf prog 4=1:=by kernel_rfl
@[simp] theorem zw5:Program.cellsOf prog 5=1:=by kernel_rfl
@[simp] theorem zna:Program.cellsOf prog 9=1:=by kernel_rfl
@[simp] theorem yje:Program.cellsOf prog 23=2:=by kernel_rfl
@[simp] theorem yw8:Program.cellsOf prog 24=1:=by kernel_rfl
@[simp] theorem y5k:Program.cellsOf prog 26=6:=by kernel_rfl
@[simp] theorem y5r:Program.cellsOf prog 27=1:=by kernel_rfl
@[simp] theorem zlz:Program.cellsOf prog 29=9:=by kernel_rfl
@[simp] theorem yxu:Program.cellsOf prog 33=1:=by kernel_rfl
@[simp] theorem yxa:Program.cellsOf prog 34=1:=by kernel_rfl
@[simp] theorem yxx:Program.cellsOf prog 36=2:=by kernel_rfl
@[simp] theorem yxf:Program.cellsOf prog 38=1:=by kernel_rfl
@[simp] theorem yj3:Program.cellsOf prog 40=5:=by kernel_rfl
@[simp] theorem yiv:Program.cellsOf prog 43=3:=by kernel_rfl
@[simp] theorem yxj:Program.cellsOf prog 44=1:=by kernel_rfl
@[simp] theorem yxr:Program.cellsOf prog 45=1:=by kernel_rfl
@[simp] theorem yjf:Program.cellsOf prog 47=3:=by kernel_rfl
@[simp] theorem yjb:Program.cellsOf prog 49=10:=by kernel_rfl
@[simp] theorem ywp:Program.cellsOf prog 55=1:=by kernel_rfl
@[simp] theorem yip:Program.cellsOf prog 57=11:=by kernel_rfl
theorem z04f(n):Reads prog n 23 yz4.ty:=(z9b underlying23 yje (λm hm=>(yzc rfl yoz (zfg underlying2 m) (yzc rfl yoz (zfg underlying2 m) zd4)))).conv (λx=>(⟨x.1,x.2.1⟩:yz4)) (λx=>by show yz4.el _=_;rw[yz4.kzc];simp[Ty.struct,Ty.pair,Ty.unit,Ty.int,V.cells]) rfl (λx h=>by simp_all[yz4.ty,yz4.z5u,Ty.struct,Ty.pair,Ty.int]) (λx=>by simp_all[Ty.struct,Ty.pair,Ty.unit,Ty.int,yz4.ty,yz4.size_eq])
theorem z046:∀n,Reads prog n 26 kz0.ty:=λn=>by
 induction n using Nat.strongRecOn with
 |ind n ih=>exact(z9b underlying26 y5k (λm hm=>(yzc rfl zw5 (zfg underlying5 m) (yzc rfl yje (z04f m) (yzc rfl z02c (ys2 underlying4 m) (yzc rfl zna (zjd underlying9 m) (yzc rfl yw8 (z9i underlying24 y5k (by decide) (λk hk=>(ih k (by omega)))) zd4))))))).conv (λx=>(⟨x.1,x.2.1,x.2.2.1,x.2.2.2.1,x.2.2.2.2.1⟩:kz0)) (λx=>by show kz0.el _=_;rw[kz0.kzc];simp[Ty.struct,Ty.pair,Ty.unit,Ty.int,Ty.bool,Ty.str,Ty.slice,V.cells,yz4.ty,yz4.kzc,kz0.ty]) rfl (λx h=>by simp[kz0.ty];rw[kz0.z5u];simp[Ty.struct,Ty.pair,Ty.unit,Ty.int,Ty.bool,Ty.str,Ty.slice,yz4.ty,kz0.ty]at h ⊢;simpa using h) (λx=>by simp[Ty.struct,Ty.pair,Ty.int,Ty.bool,Ty.str,Ty.slice,yz4.ty,kz0.ty];grind[kz0.size_eq])
theorem yao:∀n,Reads prog n 29 zz1.ty:=λn=>by
 induction n using Nat.strongRecOn with
 |ind n ih=>exact(z9b underlying29 zlz (λm hm=>(yzc rfl zw5 (zfg underlying5 m) (yzc rfl y5k (z046 m) (yzc rfl zna (zjd underlying9 m) (yzc rfl y5r (z9i underlying27 zlz (by decide) (λk hk=>(ih k (by omega)))) zd4)))))).conv (λx=>(⟨x.1,x.2.1,x.2.2.1,x.2.2.2.1⟩:zz1)) (λx=>by show zz1.el _=_;rw[zz1.kzc];simp[Ty.struct,Ty.pair,Ty.unit,Ty.int,Ty.str,Ty.slice,V.cells,kz0.ty,kz0.kzc,zz1.ty]) rfl (λx h=>by simp[zz1.ty];rw[zz1.z5u];simp[Ty.struct,Ty.pair,Ty.unit,Ty.int,Ty.str,Ty.slice,kz0.ty,zz1.ty]at h ⊢;simpa using h) (λx=>by simp[Ty.struct,Ty.pair,Ty.int,Ty.str,Ty.slice,kz0.ty,zz1.ty];grind[zz1.size_eq])
theorem z04s(n):Reads prog n 49 zzi.ty:=(z9b underlying49 yjb (λm hm=>(yzc rfl zna (zjd underlying9 m) (yzc rfl zlz (yao m) zd4)))).conv (λx=>(⟨x.1,x.2.1⟩:zzi)) (λx=>by show zzi.el _=_;simp_all[zzi.kzc,Ty.struct,Ty.pair,Ty.unit,Ty.str,V.cells,zz1.ty,zz1.kzc]) rfl (λx h=>by simp_all[zzi.ty,zzi.z5u,Ty.struct,Ty.pair,zz1.ty]) (λx=>by simp_all[Ty.struct,Ty.pair,Ty.str,zz1.ty,zzi.ty,zzi.size_eq])
theorem z03m(n):Reads prog n 43 yzj.ty:=(z9b underlying43 yiv (λm hm=>(yzc rfl zw5 (zfg underlying5 m) (yzc rfl zna (zjd underlying9 m) (yzc rfl y5r (z9i underlying27 zlz (by decide) (λk hk=>(yao k))) zd4))))).conv (λx=>(⟨x.1,x.2.1,x.2.2.1⟩:yzj)) (λx=>by show yzj.el _=_;rw[yzj.kzc];simp[Ty.struct,Ty.pair,Ty.unit,Ty.int,Ty.str,Ty.slice,V.cells,zz1.ty]) rfl (λx h=>by simp[yzj.ty];rw[yzj.z5u];simp[Ty.struct,Ty.pair,Ty.unit,Ty.int,Ty.str,Ty.slice,zz1.ty]at h ⊢;simpa using h) (λx=>by simp[Ty.struct,Ty.pair,Ty.int,Ty.str,Ty.slice,zz1.ty,yzj.ty];grind[yzj.size_eq])
theorem z04t(n):Reads prog n 40 zz4.ty:=(z9b underlying40 yj3 (λm hm=>(yzc rfl zw5 (zfg underlying5 m) (yzc rfl zw5 (zfg underlying5 m) (yzc rfl zna (zjd underlying9 m) (yzc rfl y5r (z9i underlying27 zlz (by decide) (λk hk=>(yao k))) (yzc rfl yxf (z9i underlying38 yiv (by decide) (λk hk=>(z03m k))) zd4))))))).conv (λx=>(⟨x.1,x.2.1,x.2.2.1,x.2.2.2.1,x.2.2.2.2.1⟩:zz4)) (λx=>by show zz4.el _=_;rw[zz4.kzc];simp[Ty.struct,Ty.pair,Ty.unit,Ty.int,Ty.str,Ty.slice,V.cells,zz1.ty,yzj.ty]) rfl (λx h=>by simp[zz4.ty];rw[zz4.z5u];simp[Ty.struct,Ty.pair,Ty.unit,Ty.int,Ty.str,Ty.slice,zz1.ty,yzj.ty]at h ⊢;simpa using h) (λx=>by simp[Ty.struct,Ty.pair,Ty.int,Ty.str,Ty.slice,zz1.ty,yzj.ty,zz4.ty];grind[zz4.size_eq])
theorem z043(n):Reads prog n 57 zz6.ty:=(z9b underlying57 yip (λm hm=>(yzc rfl yyg (zfg underlying3 m) (yzc rfl zlz (yao m) (yzc rfl ywp (z9i underlying55 yj3 (by decide) (λk hk=>(z04t k))) zd4))))).conv (λx=>(⟨x.1,x.2.1,x.2.2.1⟩:zz6)) (λx=>by show zz6.el _=_;rw[zz6.kzc];simp[Ty.struct,Ty.pair,Ty.unit,Ty.int,Ty.slice,V.cells,zz1.ty,zz1.kzc,zz4.ty]) rfl (λx h=>by simp[zz6.ty];rw[zz6.z5u];simp[Ty.struct,Ty.pair,Ty.unit,Ty.int,Ty.slice,zz1.ty,zz4.ty]at h ⊢;simpa using h) (λx=>by simp[Ty.struct,Ty.pair,Ty.int,Ty.slice,zz1.ty,zz4.ty,zz6.ty];grind[zz6.size_eq])
theorem yuz(n):Reads prog n 47 yz5.ty:=(z9b underlying47 yjf (λm hm=>(yzc rfl zna (zjd underlying9 m) (yzc rfl yxj (z9i underlying44 zna (by decide) (λk hk=>(zjd underlying9 k))) (yzc rfl yxr (z9i underlying45 yip (by decide) (λk hk=>(z043 k))) zd4))))).conv (λx=>(⟨x.1,x.2.1,x.2.2.1⟩:yz5)) (λx=>by show yz5.el _=_;rw[yz5.kzc];simp[Ty.struct,Ty.pair,Ty.unit,Ty.str,Ty.slice,V.cells,zz6.ty]) rfl (λx h=>by simp[yz5.ty];rw[yz5.z5u];simp[Ty.struct,Ty.pair,Ty.unit,Ty.str,Ty.slice,zz6.ty]at h ⊢;simpa using h) (λx=>by simp[Ty.struct,Ty.pair,Ty.str,Ty.slice,zz6.ty,yz5.ty];grind[yz5.size_eq])
theorem z03z(n):Reads prog n 36 yz1.ty:=(z9b underlying36 yxx (λm hm=>(yzc rfl yxu (z9i underlying33 yjb (by decide) (λk hk=>(z04s k))) (yzc rfl yxa (z9i underlying34 yjf (by decide) (λk hk=>(yuz k))) zd4)))).conv (λx=>(⟨x.1,x.2.1⟩:yz1)) (λx=>by show yz1.el _=_;rw[yz1.kzc];simp[Ty.struct,Ty.pair,Ty.unit,Ty.slice,V.cells,zzi.ty,yz5.ty]) rfl (λx h=>by simp_all[yz1.ty,yz1.z5u,Ty.struct,Ty.pair,Ty.slice,zzi.ty,yz5.ty]) (λx=>by simp[Ty.struct,Ty.pair,Ty.slice,zzi.ty,yz5.ty,yz1.ty];grind[yz1.size_eq])
theorem arg36:yrq prog 36 yz1.ty:=yb3 underlying36 z03z yz1.zgt
theorem arg3:yrq prog 3 (Ty.int .i64):=z03h (λn=>(zfg underlying3 n)) (λ_=>rfl) (by rw[underlying3])
theorem arg47:yrq prog 47 yz5.ty:=yb3 underlying47 yuz yz5.zgt
end Go.Proofs.Tryz
namespace Go.Proofs.YthphaiccgnkobaaGreatDoor
open Go Go.Ab Go.ChangeShapes Go.WideShapes Go.ChangeAt Go.RowKit
open Go.Proofs.Tryz
set_option linter.unusedVariables false
abbrev z03f:List (String×DataW Unit):=Rows.rulesReachUptoRow.laid
theorem yve{W:World}{name:String}{k:IntKind}{g:Nat}{cs:List (IntKind×Int)}(hcs:cs.map (λp=>Value.int p.1 p.2)=(cs.map Prod.snd).map λz=>Value.int k z)(hn:prog.globalNamed name=some g)
  (h:Lib.TabIs prog W name k (cs.map Prod.snd)):¬Go.Ab.Own g0 H0 g∧∃ty q,W.heap[g]? = some (.cells (cs.map λp=>Value.int p.1 p.2).toArray ty q):=by
 refine⟨own0 _ _,?_⟩;unfold Lib.TabIs World.var? at h;rw[hn]at h;simp only[Option.bind_some]at h;split at h;rename_i cs' ty q hq;injection h with h;rw[hcs];exact⟨ty,q,by rw[hq,h]⟩;cases h
theorem yvr{W:World}{n:String}{g:Nat}{tp:Nat}{a:Addr}(hn:prog.globalNamed n=some g)(h:W.var? prog n=some #[.iface tp (.pointer (some a))]) :
  ¬Go.Ab.Own g0 H0 g∧∃v ty q,W.heap[g]? = some (.cells #[v] ty q)∧(v = .nilIface∨∃te pe,v = .iface te pe):=by
 refine⟨own0 _ _,?_⟩;unfold World.var? at h;rw[hn]at h;simp only[Option.bind_some]at h;split at h;rename_i cs ty q hq;injection h with h;exact⟨_,ty,q,by rw[hq,h],.inr ⟨_,_,rfl⟩⟩;cases h
set_option maxRecDepth 100000 in
theorem globI{W:World}(hL:laidMet prog z03f W):z053 W g0 H0:=λk cs hk=>by
 unfold gl at hk;split at hk;injection hk with hk;subst hk;exact yve (cs:=gl0) (k:=.u8) (name := "strings.asciiSpace") (by kernel_rfl) (by kernel_rfl) (Lib.tabIs_of_head (g:=0) (by kernel_rfl) (by kernel_rfl) underlying213 underlying5 (by kernel_rfl) (by kernel_rfl) hL.tail.tail.tail.tail.tail.tail.tail);injection hk with hk;subst hk
 exact yve (cs:=gl5) (k:=.u64) (name := "internal/strconv.uint64pow10") (by kernel_rfl) (by kernel_rfl) (Lib.tabIs_of_head (g:=5) (by kernel_rfl) (by kernel_rfl) underlying288 underlying205 (by kernel_rfl) (by kernel_rfl) hL.tail.tail);cases hk
set_option maxRecDepth 100000 in
theorem globE{W:World}(hL:laidMet prog z03f W):z05b W g0 H0:=λk hk=>by
 unfold gle at hk;split at hk
 obtain⟨a,s,hv,_⟩:=laid_sentinel (g:=3) (ti:=113) (tp:=310) (te:=312) (ts:=9) hL.tail.tail.tail.tail.tail (by kernel_rfl) (by kernel_rfl) underlying113 (λu h=>typeName_ptr_named (nm := "errors.errorString") (by kernel_rfl) (by kernel_rfl) (by decide) u (h.trans (by kernel_rfl))) underlying310 underlying312 rfl rfl underlying9 (by kernel_rfl) (by kernel_rfl)
 exact yvr (by kernel_rfl) hv
 obtain⟨a,s,hv,_⟩:=laid_sentinel (g:=4) (ti:=113) (tp:=310) (te:=312) (ts:=9) hL.tail.tail.tail.tail (by kernel_rfl) (by kernel_rfl) underlying113 (λu h=>typeName_ptr_named (nm := "errors.errorString") (by kernel_rfl) (by kernel_rfl) (by decide) u (h.trans (by kernel_rfl))) underlying310 underlying312 rfl rfl underlying9 (by kernel_rfl) (by kernel_rfl)
 exact yvr (by kernel_rfl) hv;cases hk
theorem zns{W:World}(hL:laidMet prog z03f W):zkx W g0 H0:=⟨globI hL,globE hL⟩
end Go.Proofs.YthphaiccgnkobaaGreatDoor
