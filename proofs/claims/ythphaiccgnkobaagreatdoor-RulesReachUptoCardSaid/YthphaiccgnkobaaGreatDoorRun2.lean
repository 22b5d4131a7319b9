/-
  Go functions as Lean functions, by a program of this repo.
-/
import Derived.Test.YthphaiccgnkobaaGreatDoorRun0
import Derived.Test.YthphaiccgnkobaaGreatDoorRun1
import Derived.Test.YthphaiccgnkobaaGreatDoorLib8
import Derived.KernelRfl
import Derived.Test.YthphaiccgnkobaaGreatDoorLib2
import Derived.Test.YthphaiccgnkobaaGreatDoorProg
import Derived.Test.YthphaiccgnkobaaGreatDoorRows
import Derived.WalkKit
import Derived.ProofKit
import Derived.Handy
import Derived.Lay
import Derived.SevenTiedAt
import Derived.Deep.DeepHandedRow
import Derived.Lib.LaidTab
import Derived.Stop.LaidErr
namespace Go.Proofs.YthphaiccgnkobaaGreatDoor
open Go Go.Ab
open Go.Proofs.Tryz
set_option linter.unusedVariables false
set_option maxRecDepth 100000
set_option maxHeartbeats 4000000
def zdm(a0:Int)(a1:Int):Option Int :=
 pIf (!false)
  (some a1)
  (some a0)
def y5a:LSh:=⟨[],[(.cells [dI])],1,10,[]⟩
noncomputable def zq4:zsc dat:={f:=242,args:=[(.ptr 0 0)],aos:=[(.cells [dI])],m:=(some (.iface 31 dI)),ros:=[(.cells [dI])],go:=λx mx=>(zdm x.1 mx.1).bind λr=>some (r,())}
theorem zys:(zq4).Ok prog:=ynt (c:=(anb [] f242)) (args:=[(.ptr 0 0)]) (aos:=[(.cells [dI])]) (ros:=[(.cells [dI])]) (m:=(some (.iface 31 dI))) (l:=y5a) (pack:=λx=>x.1) (un:=λr=>(r,())) (go:=λx mx=>zdm x.1 mx.1) (by kernel_rfl) (kza _) func242 (by kernel_rfl) ntmps242 call242 (Nat.le_of_ble_eq_true (by kernel_rfl)) (Nat.le_of_ble_eq_true (by kernel_rfl)) (Nat.le_of_ble_eq_true (by kernel_rfl)) (by kernel_rfl) (by kernel_rfl) (by kernel_rfl) (by kernel_rfl) (λx=>by kernel_rfl) (λx mx=>by kernel_rfl)
def zsu:Nat->B8->Ot (yz1×Int)
 |0,_=>none
 |n+1,a=>
  (z4r n 12 (kz2.mk a)).bind λy0=>
  zlx y0 (λr1=>
   pIf (!(r1.1.s==[]))
    ((zaa n 12).bind λy2=>
    zlx y2 (λr3=>
     (((zhw 0).bind λr5=>some (r5,()))).bind λy4=>
     some (r1.2.re,y4.1))
     (λe6=>
     (((zdm 0 e6.1).bind λr8=>some (r8,()))).bind λy7=>
     some (r1.2.re,y7.1)))
    ((((zhw 0).bind λr10=>some (r10,()))).bind λy9=>
    some (r1.2.re,y9.1)))
   (λe11=>
   (((zdm 0 e11.1).bind λr13=>some (r13,()))).bind λy12=>
   some ((yz1.mk 0 (yz0.mk 0 (zz4.mk 0 0) false [] []) [] []),y12.1))
def ykv:LSh:=⟨[(2,(.ptr 0 0)),(3,(.ptr 1 0))],[(.st 5),(.cells [dI])],0,17,[]⟩
noncomputable def znx:FI dat:=FI.ofD dat 200 17 0 [dS] [] [dT 5,dI] [(.st 5),(.cells [dI])] [zxt,zq4] ykv (R:=yz1×Int) (λx=>(x.1,x.2.1)) (λr=>(r.1,r.2,r.1,r.2,())) (λn=>u1 (zsu n))
 (λn=>[]) (anb [] f200)
noncomputable def ylo:List (FI dat):=[z66,z7a]
theorem ykp:(znx).Good prog dat (tb ylo):=FI.ywm (hD:=kza _) func200 ntmps200 call200 (by kernel_rfl) (Qac (by kernel_rfl)) (by kernel_rfl) (λn=>by kernel_rfl) ⟨y6t,zys,trivial⟩ (λx=>by kernel_rfl) (λ_=>rfl) trivial
 (λ_ _=>tr (zsu.eq_2 ..))
 (λn=>trivial)
 (λx=>by kernel_rfl)
theorem ymr:OkL prog [znx]:=zpi (kza _) (bs:=[z66,z7a]) ⟨zxi,zl8,trivial⟩ ykp
theorem yk4:FOk prog znx:=ymr.1
mutual
def zpn:Nat->B8->Ot (Int×yz1)
 |0,_=>none
 |n+1,a=>
  pIf (decide ((a.length:Int)>4000))
   (some (12,(yz1.mk 0 (yz0.mk 0 (zz4.mk 0 0) false [] []) [] [])))
   ((zsu n a).bind λy0=>
   pIf (y0.2 != 0)
    (zev n true (yz1.mk 0 (yz0.mk 0 (zz4.mk 0 0) false [] []) [] []) y0.1.re)
    ((z05 n y0.1.re).bind λy1=>
    zev n (y1 != 0) (yz1.mk 0 (yz0.mk 0 (zz4.mk 0 0) false [] []) [] []) y0.1.re))
def zev:Nat->Bool->yz1->yz1->Ot (Int×yz1)
 |0,_,_,_=>none
 |n+1,a,b,c=>
  pIf a
   (some (12,(yz1.mk 0 (yz0.mk 0 (zz4.mk 0 0) false [] []) [] [])))
   (some (0,c.re))
end
def ykb:LSh:=⟨[(2,(.ptr 0 0)),(3,dI)],[(.st 5)],0,24,[]⟩
noncomputable def zrz:FI dat:=FI.of dat 156 24 0 [dS] [] [dT 5,dI] [] true ykb (R:=Int×yz1) (λx=>(x.1,x.2.1)) (λr=>(r.2,r.1,())) (λn=>u1 (zpn n))
 (λn=>[(0,⟨⟨[(2,(.ptr 0 0)),(4,(.ptr 1 0)),(21,dB)],[(.st 5),(.st 5)],0,24,[]⟩,u3 (zev n)⟩)]) (anb [(15,0)] f156)
theorem yfr:FOk prog zrz:=okF (bs:=[znx,zf3]) ⟨yk4,zfo,trivial⟩ func156 ntmps156 call156
 (λ_ _=>tr (zpn.eq_2 ..))
 (λn=>⟨λx=>tr (zev.eq_2 x.1 x.2.1 x.2.2.1 n),
  trivial⟩)
mutual
def z17:Nat->B8->Bool->Ot (Bool×yz1)
 |0,_,_=>none
 |n+1,a,b=>
  (zpn n a).bind λy0=>
  pIf b
   (z7r n (y0.1==0) (yz1.mk 0 (yz0.mk 0 (zz4.mk 0 0) false [] []) [] []) y0.2.re)
   (z7r n false (yz1.mk 0 (yz0.mk 0 (zz4.mk 0 0) false [] []) [] []) y0.2.re)
def z7r:Nat->Bool->yz1->yz1->Ot (Bool×yz1)
 |0,_,_,_=>none
 |n+1,a,b,c=>
  some (a,c.re)
end
def zx4:LSh:=⟨[(4,(.ptr 3 0))],[(.cells [(.own 1),(.own 2),dB]),.rig,.rig,(.st 5)],1,24,[1,2]⟩
noncomputable def za0:FI dat:=FI.of dat 101 24 1 [(.ptr 0 0),dS] [(.cells [(.own 1),(.own 2),dB]),.rig,.rig] [dT 5] [(.cells [(.own 1),(.own 2),dB]),.rig,.rig,(.st 5)] false zx4 (R:=Bool×yz1) (λx=>(x.1,x.2.1)) (λr=>(r.2,r.1,r.2,())) (λn=>u2 (z17 n))
 (λn=>[(0,⟨⟨[(4,(.ptr 3 0)),(5,(.ptr 4 0))],[(.cells [(.own 1),(.own 2),dB]),.rig,.rig,(.st 5),(.st 5)],1,24,[1,2]⟩,u3 (z7r n)⟩)]) (anb [(6,0)] f101) [1,2]
noncomputable def zx6:List (FI dat):=[zrz]
theorem zwt:(za0).Good prog dat (tb zx6):=FI.z1c (hD:=kza _) func101 ntmps101 call101 (by kernel_rfl) (Qac (by kernel_rfl)) (by kernel_rfl) (λn=>by kernel_rfl) (λx=>by kernel_rfl) (λ_=>rfl) ⟨λ_=>rfl,trivial⟩
 (λ_ _=>tr (z17.eq_2 ..))
 (λn=>⟨λx=>tr (z7r.eq_2 x.1 x.2.1 x.2.2.1 n),
  trivial⟩)
 (λx=>.inr (by kernel_rfl))
theorem zxo:OkL prog [za0]:=zpi (kza _) (bs:=[zrz]) ⟨yfr,trivial⟩ zwt
theorem ztf:FOk prog za0:=zxo.1
noncomputable def z8b:FI dat:=ywn dat 101 [(.ptr 0 0),dS] [dT 5] [(.st 5)] (R:=Bool×yz1) (λr=>(r.2,r.1,r.2,())) (λn=>u2 (z17 n)) za0
theorem zec:FOk prog z8b:=λn=>yh2 (kza _) rfl (ztf n)
mutual
def z33:Nat->B8->Bool->Ot (B8×zz8×Bool)
 |0,_,_=>none
 |n+1,a,b=>
  (z7d n a [32]).bind λy0=>
  (z17 n y0.2.1 b).bind λy1=>
  pIf y1.1
   (z7h n y0.1 (y1.2.op==18) y1.2.re)
   (z7h n y0.1 false y1.2.re)
def z7h:Nat->B8->Bool->yz1->Ot (B8×zz8×Bool)
 |0,_,_,_=>none
 |n+1,a,b,c=>
  some (a,c.args,b)
end
def zxh:LSh:=⟨[(4,dS),(5,dL 5)],[(.cells [(.own 1),(.own 2),dB]),.rig,.rig],1,34,[1,2]⟩
noncomputable def zad:FI dat:=FI.of dat 160 34 1 [(.ptr 0 0),dS] [(.cells [(.own 1),(.own 2),dB]),.rig,.rig] [dS,dL 5] [(.cells [(.own 1),(.own 2),dB]),.rig,.rig] false zxh (R:=B8×zz8×Bool) (λx=>(x.1,x.2.1,x.2.2.1)) (λr=>(r.1,r.2.1,r.2.2,())) (λn=>u2 (z33 n))
 (λn=>[(0,⟨⟨[(9,(.ptr 3 0)),(6,dS)],[(.cells [(.own 1),(.own 2),dB]),.rig,.rig,(.st 5)],1,34,[1,2]⟩,u3 (z7h n)⟩)]) (anb [(8,0)] f160) [1,2]
noncomputable def zx0:List (FI dat):=[z8b,zd8]
theorem zxn:(zad).Good prog dat (tb zx0):=FI.z1c (hD:=kza _) func160 ntmps160 call160 (by kernel_rfl) (Qac (by kernel_rfl)) (by kernel_rfl) (λn=>by kernel_rfl) (λx=>by kernel_rfl) (λ_=>rfl) ⟨λ_=>rfl,trivial⟩
 (λ_ _=>tr (z33.eq_2 ..))
 (λn=>⟨λ_=>tr (z7h.eq_2 _ _ _ n),
  trivial⟩)
 (λx=>.inr (by kernel_rfl))
theorem zxa:OkL prog [zad]:=zpi (kza _) (bs:=[z8b,zd8]) ⟨zec,zhf,trivial⟩ zxn
theorem zts:FOk prog zad:=zxa.1
noncomputable def zkp:FI dat:=ywn dat 160 [(.ptr 0 0),dS] [dS,dL 5] [] (R:=B8×zz8×Bool) (λr=>(r.1,r.2.1,r.2.2,())) (λn=>u2 (z33 n)) zad
theorem zud:FOk prog zkp:=λn=>yh2 (kza _) rfl (zts n)
def zit:Nat->B8->B8->Ot Int
 |0,_,_=>none
 |n+1,a,b=>
  (z1t n a b).bind λy0=>
  some y0
def y7g:LSh:=⟨[(4,dI)],[],0,8,[]⟩
noncomputable def zk7:FI dat:=FI.of dat 203 8 0 [dS,dS] [] [dI] [] true y7g (R:=Int) Prod.fst (·,()) (λn=>u2 (zit n))
 (λn=>[]) (anb [] f203)
theorem y3o:FOk prog zk7:=okF (bs:=[z81]) ⟨zc0,trivial⟩ func203 ntmps203 call203
 (λ_ _=>tr (zit.eq_2 ..))
 (λn=>trivial)
mutual
def z6t:Nat->B8->Bool->Ot (Int×Bool)
 |0,_,_=>none
 |n+1,a,b=>
  (zit n [120,121,122] a).bind λy0=>
  pIf b
   (pIf ((a.length:Int)==1)
     (z2y n y0 (decide (y0>=0)))
     (z2y n y0 false))
   (z2y n y0 false)
def z2y:Nat->Int->Bool->Ot (Int×Bool)
 |0,_,_=>none
 |n+1,a,b=>
  some ((IntKind.u8.wrap (mxI a 0)),b)
end
def zx1:LSh:=⟨[(4,dU)],[(.cells [(.own 1),(.own 2),dB]),.rig,.rig],1,27,[1,2]⟩
noncomputable def za4:FI dat:=FI.of dat 161 27 1 [(.ptr 0 0),dS] [(.cells [(.own 1),(.own 2),dB]),.rig,.rig] [dU] [(.cells [(.own 1),(.own 2),dB]),.rig,.rig] false zx1 (R:=Int×Bool) (λx=>(x.1,x.2.1)) (λr=>(r.1,r.2,())) (λn=>u2 (z6t n))
 (λn=>[(0,⟨⟨[(5,dI)],[(.cells [(.own 1),(.own 2),dB]),.rig,.rig],1,27,[1,2]⟩,u2 (z2y n)⟩)]) (anb [(6,0)] f161) [1,2]
noncomputable def zwu:List (FI dat):=[zk7]
theorem zxl:(za4).Good prog dat (tb zwu):=FI.z1c (hD:=kza _) func161 ntmps161 call161 (by kernel_rfl) (Qac (by kernel_rfl)) (by kernel_rfl) (λn=>by kernel_rfl) (λx=>by kernel_rfl) (λ_=>rfl) ⟨λ_=>rfl,trivial⟩
 (λ_ _=>tr (z6t.eq_2 ..))
 (λn=>⟨λ_=>tr (z2y.eq_2 _ _ n),
  trivial⟩)
 (λx=>.inr (by kernel_rfl))
theorem zww:OkL prog [za4]:=zpi (kza _) (bs:=[zk7]) ⟨y3o,trivial⟩ zxl
theorem ztl:FOk prog za4:=zww.1
noncomputable def zki:FI dat:=ywn dat 161 [(.ptr 0 0),dS] [dU] [] (R:=Int×Bool) (λr=>(r.1,r.2,())) (λn=>u2 (z6t n)) za4
theorem zvk:FOk prog zki:=λn=>yh2 (kza _) rfl (ztl n)
mutual
def zcj:Nat->Int->B8->B8->Bool->z6n->z55->zzm->Int->Ot (Bool×z6n×z55×zzm×Int)
 |0,_,_,_,_,_,_,_,_=>none
 |n+1,a,b,c,d,e,f,g,h=>
  (kzx n [102,105,120,101,100,32,115,104,97,114,101,32,114,101,115,116]).bind λy0=>
  (kz8 n y0 b).bind λy1=>
  pIf (decide (y1>=0))
   ((z33 n c d).bind λy2=>
   (ix e a).bind λx3=>
   (ix e a).bind λx4=>
   pIf (decide ((x3.do_.length:Int)>0))
    ((zko a a).bind λx5=>
    (ix e a).bind λx6=>
    (ix x3.do_ (IntKind.i64.wrap ((x3.do_.length:Int)-1))).bind λx7=>
    (ix x3.do_ (IntKind.i64.wrap ((x3.do_.length:Int)-1))).bind λx8=>
    (ix e a).bind λx9=>
    z54 n y2.2.1 y2.1 y1 (x3.do_.length:Int) a (x8.kind==5) y2.2.2 (e.set (Int.toNat a) (kz5.mk x9.weight x9.when_.re x3.do_)) f g h)
    ((ix e a).bind λx10=>
    z54 n y2.2.1 y2.1 y1 (x3.do_.length:Int) a false y2.2.2 (e.set (Int.toNat a) (kz5.mk x10.weight x10.when_.re x3.do_)) f g h))
   ((kzx n [99,97,108,108,32,109,111,118,101,32,115,105,122,101,32,116,117,114,110,32,115,112,108,105,116,32,108,101,97,102]).bind λy11=>
   (kz8 n y11 b).bind λy12=>
   pIf ((IntKind.u8.wrap (IntKind.i64.wrap (y12+1)))==0)
    (kzp n a false e f g h (IntKind.u8.wrap (IntKind.i64.wrap (y12+1))) 0 [] [] [])
    (pIf ((IntKind.u8.wrap (IntKind.i64.wrap (y12+1)))==6)
      ((z17 n c d).bind λy13=>
      kzp n a y13.1 e f g h (IntKind.u8.wrap (IntKind.i64.wrap (y12+1))) 0 [] [y13.2.re] [])
      (pIf ((IntKind.u8.wrap (IntKind.i64.wrap (y12+1)))==5)
        ((z6t n c d).bind λy14=>
        kzp n a y14.2 e f g h (IntKind.u8.wrap (IntKind.i64.wrap (y12+1))) y14.1 [] [] [])
        (pIf ((IntKind.u8.wrap (IntKind.i64.wrap (y12+1)))==4)
          ((z7d n c [32]).bind λy15=>
          (z6t n y15.1 d).bind λy16=>
          (z33 n y15.2.1 y16.2).bind λy17=>
          kzp n a y17.2.2 e f g h (IntKind.u8.wrap (IntKind.i64.wrap (y12+1))) y16.1 y17.1 y17.2.1 [])
          ((z33 n c d).bind λy18=>
          kzp n a y18.2.2 e f g h (IntKind.u8.wrap (IntKind.i64.wrap (y12+1))) 0 y18.1 y18.2.1 [])))))
def z54:Nat->zz8->B8->Int->Int->Int->Bool->Bool->z6n->z55->zzm->Int->Ot (Bool×z6n×z55×zzm×Int)
 |0,_,_,_,_,_,_,_,_,_,_,_=>none
 |n+1,a,b,c,d,e,f,g,h,i,j,k=>
  pIf f
   ((ix h e).bind λx19=>
   (ix x19.do_ (IntKind.i64.wrap (d-1))).bind λx20=>
   (zko e e).bind λx21=>
   (ix h e).bind λx22=>
   (zko e e).bind λx23=>
   (ix h e).bind λx24=>
   (ix x19.do_ (IntKind.i64.wrap (d-1))).bind λx25=>
   (zko (IntKind.i64.wrap (d-1)) (IntKind.i64.wrap (d-1))).bind λx26=>
   (ix x19.do_ (IntKind.i64.wrap (d-1))).bind λx27=>
   (ext x20.items [(yzl.mk (IntKind.u8.wrap (IntKind.i64.wrap (c+1))) b a)]).bind λx28=>
   (ix x19.do_ (IntKind.i64.wrap (d-1))).bind λx29=>
   (zko (IntKind.i64.wrap (d-1)) (IntKind.i64.wrap (d-1))).bind λx30=>
   (ix x19.do_ (IntKind.i64.wrap (d-1))).bind λx31=>
   (ix x19.do_ (IntKind.i64.wrap (d-1))).bind λx32=>
   (ix h e).bind λx33=>
   some (g,(h.set (Int.toNat e) (kz5.mk x33.weight x33.when_.re (x19.do_.set (Int.toNat (IntKind.i64.wrap (d-1))) (kz3.mk x32.kind x32.axis x32.name x32.args x28)))),i,j,k))
   (some (false,h,i,j,k))
def kzp:Nat->Int->Bool->z6n->z55->zzm->Int->Int->Int->B8->zz8->zwe->Ot (Bool×z6n×z55×zzm×Int)
 |0,_,_,_,_,_,_,_,_,_,_,_=>none
 |n+1,a,b,c,d,e,f,g,h,i,j,k=>
  (ix c a).bind λx34=>
  (zko a a).bind λx35=>
  (ix c a).bind λx36=>
  (ext x34.do_ [(kz3.mk g h i j [])]).bind λx37=>
  (zko a a).bind λx38=>
  (ix c a).bind λx39=>
  (ix x37 (x34.do_.length:Int)).bind λx40=>
  (ix c a).bind λx41=>
  some (b,(c.set (Int.toNat a) (kz5.mk x41.weight x41.when_.re (x37.set (Int.toNat (x34.do_.length:Int)) (kz3.mk x40.kind x40.axis x40.name x40.args k)))),d,e,f)
end
def ztk:LSh:=⟨[],[(.cells [(.own 2),(.own 3),dB]),(.deep 57 9),(.acc 49 (.st 6) true),(.deeph 47 10 2 1)],1,138,[1,2]⟩
noncomputable def zie:FI dat:=FI.of dat 104 138 1 [(.ptr 0 0),(.dp 1 0),dS,dS] [(.cells [(.own 2),(.own 3),dB]),(.deep 57 9),(.acc 49 (.st 6) true),(.deeph 47 10 2 1)] [] [(.cells [(.own 2),(.own 3),dB]),(.deep 57 9),(.acc 49 (.st 6) true),(.deeph 47 10 2 1)] false ztk (R:=Bool×z6n×z55×zzm×Int) (λx=>(x.1,x.2.1,x.2.2.1,x.2.2.2.1,x.2.2.2.2.1)) (λr=>(r.1,r.2.1,r.2.2.1,r.2.2.2.1,r.2.2.2.2,())) (λn=>u8 (zcj n))
 (λn=>[(0,⟨⟨[(10,dL 5),(9,dS),(8,dI),(11,dI),(1,(.dp 1 0)),(0,(.ptr 0 0)),(45,dB)],[(.cells [(.own 2),(.own 3),dB]),(.deep 57 9),(.acc 49 (.st 6) true),(.deeph 47 10 2 1)],1,138,[1,2]⟩,u11 (z54 n)⟩),(1,⟨⟨[(12,(.ptr 4 0)),(1,(.dp 1 0))],[(.cells [(.own 2),(.own 3),dB]),(.deep 57 9),(.acc 49 (.st 6) true),(.deeph 47 10 2 1),(.cells [dU,dU,dS,dL 5,(.own 5)]),(.acc 43 (.st 7) true)],1,138,[1,2]⟩,u11 (kzp n)⟩)]) (anb [(13,0),(49,1)] f104) [1,2]
theorem zsa:FOk prog zie:=okF (bs:=[zkp,z8b,zki,z30,zzq,zd8]) ⟨zud,zec,zvk,za9,z1u,zhf,trivial⟩ func104 ntmps104 call104
 (λ_ _=>tr (zcj.eq_2 ..))
 (λn=>⟨λ_=>tr (z54.eq_2 _ _ _ _ _ _ _ _ _ _ _ n),
  λ_=>tr (kzp.eq_2 _ _ _ _ _ _ _ _ _ _ _ n),
  trivial⟩)
mutual
def zed:Nat->B8->Bool->z55->zzm->Ot (Bool×z55×zzm)
 |0,_,_,_,_=>none
 |n+1,a,b,c,d=>
  (z7d n a [32]).bind λy0=>
  pIf (y0.1==[97,116,116,114])
   (z7l n y0.2.1 (d.length:Int) y0.1 ((d.length:Int)==0) b c d)
   (z7l n y0.2.1 (d.length:Int) y0.1 false b c d)
def z7l:Nat->B8->Int->B8->Bool->Bool->z55->zzm->Ot (Bool×z55×zzm)
 |0,_,_,_,_,_,_,_=>none
 |n+1,a,b,c,d,e,f,g=>
  pIf d
   ((z7d n a [32]).bind λy1=>
   (z17 n y1.2.1 e).bind λy2=>
   (ext f [(kzi.mk y1.1 y2.2.re)]).bind λx3=>
   some (y2.1,x3,g))
   (pIf (c==[114,117,108,101])
     ((zf0 n a [32]).bind λy4=>
     (ix y4 0).bind λx5=>
     (sub y4 1 (y4.length:Int)).bind λx6=>
     (ext g [(zz6.mk x5 x6 [])]).bind λx7=>
     some (e,f,x7))
     (pIf (b==0)
       (some (false,f,g))
       (pIf (c==[99,97,115,101])
         ((z7d n a [32]).bind λy8=>
         (zg5 n y8.1).bind λy9=>
         zlx y9 (λr10=>
          pIf e
           (z0q n y8.2.1 r10 b true f g)
           (z0q n y8.2.1 r10 b false f g))
          (λe11=>
          pIf e
           (z0q n y8.2.1 e11.1 b false f g)
           (z0q n y8.2.1 e11.1 b false f g)))
         ((ix g (IntKind.i64.wrap (b-1))).bind λx12=>
         (ix g (IntKind.i64.wrap (b-1))).bind λx13=>
         (ix g (IntKind.i64.wrap (b-1))).bind λx14=>
         pIf (decide ((x13.cases.length:Int)>0))
          ((ix g (IntKind.i64.wrap (b-1))).bind λx15=>
          (zko (IntKind.i64.wrap (b-1)) (IntKind.i64.wrap (b-1))).bind λx16=>
          (ix g (IntKind.i64.wrap (b-1))).bind λx17=>
          (ix x13.cases (IntKind.i64.wrap ((x13.cases.length:Int)-1))).bind λx18=>
          (zcj n (IntKind.i64.wrap ((x13.cases.length:Int)-1)) c a e x13.cases f g (IntKind.i64.wrap (b-1))).bind λy19=>
          (ix y19.2.2.2.1 y19.2.2.2.2).bind λx20=>
          some (y19.1,y19.2.2.1,(y19.2.2.2.1.set (Int.toNat y19.2.2.2.2) (zz6.mk x20.name x20.params y19.2.1))))
          ((ix g (IntKind.i64.wrap (b-1))).bind λx21=>
          some (false,f,(g.set (Int.toNat (IntKind.i64.wrap (b-1))) (zz6.mk x21.name x21.params x13.cases))))))))
def z0q:Nat->B8->Int->Int->Bool->z55->zzm->Ot (Bool×z55×zzm)
 |0,_,_,_,_,_,_=>none
 |n+1,a,b,c,d,e,f=>
  (ix f (IntKind.i64.wrap (c-1))).bind λx22=>
  (ix f (IntKind.i64.wrap (c-1))).bind λx23=>
  (zko (IntKind.i64.wrap (c-1)) (IntKind.i64.wrap (c-1))).bind λx24=>
  (ix f (IntKind.i64.wrap (c-1))).bind λx25=>
  (z17 n a d).bind λy26=>
  (ext x22.cases [(kz5.mk b y26.2.re [])]).bind λx27=>
  (ix f (IntKind.i64.wrap (c-1))).bind λx28=>
  (zko (IntKind.i64.wrap (c-1)) (IntKind.i64.wrap (c-1))).bind λx29=>
  (ix f (IntKind.i64.wrap (c-1))).bind λx30=>
  (ix f (IntKind.i64.wrap (c-1))).bind λx31=>
  some (y26.1,e,(f.set (Int.toNat (IntKind.i64.wrap (c-1))) (zz6.mk x31.name x31.params x27)))
end
def zx5:LSh:=⟨[],[(.cells [(.own 1),(.own 2),dB]),(.acc 49 (.st 6) true),(.deep 47 10)],1,171,[]⟩
noncomputable def zfd:FI dat:=FI.of dat 43 171 1 [(.ptr 0 0),dS] [(.cells [(.own 1),(.own 2),dB]),(.acc 49 (.st 6) true),(.deep 47 10)] [] [(.cells [(.own 1),(.own 2),dB]),(.acc 49 (.st 6) true),(.deep 47 10)] false zx5 (R:=Bool×z55×zzm) (λx=>(x.1,x.2.1,x.2.2.1)) (λr=>(r.1,r.2.1,r.2.2,())) (λn=>u4 (zed n))
 (λn=>[(0,⟨⟨[(0,(.ptr 0 0)),(5,dS),(7,dI),(4,dS),(63,dB)],[(.cells [(.own 1),(.own 2),dB]),(.acc 49 (.st 6) true),(.deep 47 10)],1,171,[]⟩,u7 (z7l n)⟩),(1,⟨⟨[(13,dS),(0,(.ptr 0 0)),(15,dI),(7,dI)],[(.cells [(.own 1),(.own 2),dB]),(.acc 49 (.st 6) true),(.deep 47 10)],1,171,[]⟩,u6 (z0q n)⟩)]) (anb [(7,0),(30,1)] f43)
theorem zuw:FOk prog zfd:=okF (bs:=[z8b,zuy,zie,zd8,zt4]) ⟨zec,y6k,zsa,zhf,y4b,trivial⟩ func43 ntmps43 call43
 (λ_ _=>tr (zed.eq_2 ..))
 (λn=>⟨λ_=>tr (z7l.eq_2 ..),
  λ_=>tr (z0q.eq_2 ..),
  trivial⟩)
mutual
noncomputable def zlz:Nat->B8->Ot (kz0×Int)
 |0,_=>none
 |n+1,a=>
  pIf (decide ((a.length:Int)>20000))
   (some ((kz0.mk [] []),12))
   (pIf (!(a==[]))
     ((ze9 n a [10]).bind λy0=>
     pIf (!y0)
      (some ((kz0.mk [] []),12))
      ((zf5 n a).bind λy1=>
      z9y n a y1 0 [] [] true [] []))
     ((zf5 n a).bind λy2=>
     z9y n a y2 0 [] [] true [] []))
noncomputable def z9y:Nat->B8->B8->Int->z55->zzm->Bool->z55->zzm->Ot (kz0×Int)
 |0,_,_,_,_,_,_,_,_=>none
 |n+1,a,b,c,d,e,f,g,h=>
  (if b.length<=4611686018427387904 then (Option.some ())else Option.none).bind λx3=>
  pIf (noS b)
   ((zj1 n (kz0.mk g h)).bind λy4=>
   pIf (y4.2 != 0)
    (some ((kz0.mk [] []),12))
    (pIf (!(y4.1==a))
      (some ((kz0.mk [] []),12))
      (some ((kz0.mk g h),0))))
   ((zdc n (lnA b) [10]).bind λy5=>
   (zed n y5 f g h).bind λy6=>
   pIf (!y6.1)
    (some ((kz0.mk [] []),12))
    ((ywg (lnB b) (lnB b)).bind λx7=>
    z9y n a (lnB b) c d e y6.1 y6.2.1 y6.2.2))
end
def ydv:LSh:=⟨[(2,(.ptr 0 0)),(3,(.ptr 1 0))],[(.st 11),(.cells [dI])],0,56,[]⟩
noncomputable def zj9:FI dat:=FI.ofM dat 14 56 0 [dS] [] [dT 11,dI] [] ydv (R:=kz0×Int) (λx=>(x.1,x.2.1)) (λr=>(r.1,r.2,())) (λn=>u1 (zlz n))
 (λn=>[(0,⟨⟨[(24,(.fn 98 [] [(.ptr 0 0)])),(2,(.ptr 1 0)),(3,(.ptr 2 0)),(4,(.ptr 3 0)),(0,dS)],[(.cells [dS]),(.cells [(.own 4),(.own 5)]),(.cells [dI]),(.cells [(.ptr 6 0)]),(.acc 49 (.st 6) true),(.deep 47 10),(.cells [(.own 7),(.own 8),dB]),(.acc 49 (.st 6) true),(.deep 47 10)],0,56,[]⟩,u8 (z9y n)⟩)]) (anb [(16,0),(1000016,98)] f14)
noncomputable def ye2:List (FI dat):=[zcs,zfd,zfe,zl7,ze8]
theorem yfs:(zj9).Good prog dat (tb ye2):=FI.yue (hD:=kza _) func14 ntmps14 call14 (by kernel_rfl) (Qac (by kernel_rfl)) (by kernel_rfl) (λn=>by kernel_rfl) (λx=>by kernel_rfl) (λ_=>rfl) ⟨λ_=>rfl,trivial⟩
 (λn=>λ_=>tr (zlz.eq_2 _ n))
 (λn=>⟨λ_=>tr (z9y.eq_2 _ _ _ _ _ _ _ _ n),
  trivial⟩)
 (yyn (by kernel_rfl) ysj)
theorem yet:OkL prog [zj9]:=zpi (kza _) (bs:=[zcs,zfd,zfe,zl7,ze8]) ⟨y5c,zuw,ztx,zyb,ztq,trivial⟩ yfs
theorem y8i:FOk prog zj9:=yet.1
def zd7:Nat->zz6->B8->Ot (Bool×B8)
 |0,_,_=>none
 |n+1,a,b=>
  some ((a.name==b),b)
def yi3:LSh:=⟨[(3,dB)],[(.cells [dS])],1,8,[]⟩
noncomputable def y2c:FI dat:=FI.of dat 107 8 1 [dT 10,(.ptr 0 0)] [(.cells [dS])] [dB] [(.cells [dS])] false yi3 (R:=Bool×B8) (λx=>(x.1,x.2.1)) (λr=>(r.1,r.2,())) (λn=>u2 (zd7 n))
 (λn=>[]) (anb [] f107)
theorem yex:FOk prog y2c:=okF (bs:=[]) trivial func107 ntmps107 call107
 (λn=>λ_=>tr (zd7.eq_2 _ _ n))
 (λn=>trivial)
mutual
def zzf:Nat->zzm->B8->Ot (Int×B8)
 |0,_,_=>none
 |n+1,a,b=>
  kz7 n 0 a (a.length:Int) b
def kz7:Nat->Int->zzm->Int->B8->Ot (Int×B8)
 |0,_,_,_,_=>none
 |n+1,a,b,c,d=>
  pIf (decide (a<c))
   ((ix b a).bind λx0=>
   (zd7 n x0 d).bind λy1=>
   pIf y1.1
    (some (a,y1.2))
    (kz7 n (IntKind.i64.wrap (a+1)) b c y1.2))
   (some ((-1),d))
end
def zfh:LSh:=⟨[(4,dI)],[(.cells [dS])],1,19,[]⟩
noncomputable def z8d:FI dat:=FI.of dat 106 19 1 [dL 10,(.fn 107 [] [(.ptr 0 0)])] [(.cells [dS])] [dI] [(.cells [dS])] false zfh (R:=Int×B8) (λx=>(x.1,x.2.1)) (λr=>(r.1,r.2,())) (λn=>u2 (zzf n))
 (λn=>[(0,⟨⟨[(8,dI),(0,dL 10),(1,(.fn 107 [] [(.ptr 0 0)])),(7,dI)],[(.cells [dS])],1,19,[]⟩,u4 (kz7 n)⟩)]) (anb [(6,0)] f106)
theorem zeg:FOk prog z8d:=okF (bs:=[y2c]) ⟨yex,trivial⟩ func106 ntmps106 call106
 (λ_ _=>tr (zzf.eq_2 ..))
 (λn=>⟨λ_=>tr (kz7.eq_2 ..),
  trivial⟩)
def zc1:Nat->kz0->B8->Ot Int
 |0,_,_=>none
 |n+1,a,b=>
  (zzf n a.rules b).bind λy0=>
  some y0.1
def yqy:LSh:=⟨[(4,dI)],[],0,9,[]⟩
noncomputable def y0f:FI dat:=FI.of dat 45 9 0 [dT 11,dS] [] [dI] [] true yqy (R:=Int) Prod.fst (·,()) (λn=>u2 (zc1 n))
 (λn=>[]) (anb [] f45)
theorem y60:FOk prog y0f:=okF (bs:=[z8d]) ⟨zeg,trivial⟩ func45 ntmps45 call45
 (λ_ _=>tr (zc1.eq_2 ..))
 (λn=>trivial)
mutual
noncomputable def z2b:Nat->kz0->B8->Ot ((List B8)×Int)
 |0,_,_=>none
 |n+1,a,b=>
  (z7f n a).bind λy0=>
  pIf (y0 != 0)
   (some ([],y0))
   ((zc1 n a b).bind λy1=>
   pIf (decide (y1<0))
    (some ([],6))
    (z3y n 0 [b] (mks (zb7 [] b true)) (mvs (zb7 [] b true)) a))
noncomputable def z3y:Nat->Int->(List B8)->(List B8)->(List Bool)->kz0->Ot ((List B8)×Int)
 |0,_,_,_,_,_=>none
 |n+1,a,b,c,d,e=>
  pIf (decide (a<(b.length:Int)))
   ((ix b a).bind λx2=>
   (zc1 n e x2).bind λy3=>
   (ix e.rules y3).bind λx4=>
   (z74 n x4).bind λy5=>
   z4l n 0 y5 a (y5.length:Int) b (mks (List.zip c d)) (mvs (List.zip c d)) e)
   ((zze n b).bind λy6=>
   some (y6,0))
noncomputable def z4l:Nat->Int->z7c->Int->Int->(List B8)->(List B8)->(List Bool)->kz0->Ot ((List B8)×Int)
 |0,_,_,_,_,_,_,_,_=>none
 |n+1,a,b,c,d,e,f,g,h=>
  pIf (decide (a<d))
   ((ix b a).bind λx7=>
   pIf (!(Option.getD (z7g (List.zip f g) x7.name) false))
    ((ext e [x7.name]).bind λx8=>
    z7j n b c d a x8 (mks (zb7 (List.zip f g) x7.name true)) (mvs (zb7 (List.zip f g) x7.name true)) h)
    (z7j n b c d a e (mks (List.zip f g)) (mvs (List.zip f g)) h))
   (z3y n (IntKind.i64.wrap (c+1)) e (mks (List.zip f g)) (mvs (List.zip f g)) h)
noncomputable def z7j:Nat->z7c->Int->Int->Int->(List B8)->(List B8)->(List Bool)->kz0->Ot ((List B8)×Int)
 |0,_,_,_,_,_,_,_,_=>none
 |n+1,a,b,c,d,e,f,g,h=>
  z4l n (IntKind.i64.wrap (d+1)) a b c e (mks (List.zip f g)) (mvs (List.zip f g)) h
end
def yd3:LSh:=⟨[(4,dA),(5,dI)],[],0,65,[]⟩
noncomputable def zph:FI dat:=FI.of dat 15 65 0 [dT 11,dS] [] [dA,dI] [] true yd3 (R:=(List B8)×Int) (λx=>(x.1,x.2.1)) (λr=>(r.1,r.2,())) (λn=>u2 (z2b n))
 (λn=>[(0,⟨⟨[(8,(.own 0)),(7,(.map 1)),(9,dI),(2,(.ptr 2 0))],[(.acc 9 .str true),(.mp 76 .bool),(.st 11)],0,65,[]⟩,u5 (z3y n)⟩),(1,⟨⟨[(44,dI),(8,(.own 0)),(7,(.map 1)),(42,dL 12),(2,(.ptr 2 0)),(9,dI),(43,dI)],[(.acc 9 .str true),(.mp 76 .bool),(.st 11)],0,65,[]⟩,u8 (z4l n)⟩),(2,⟨⟨[(8,(.own 0)),(7,(.map 1)),(42,dL 12),(2,(.ptr 2 0)),(9,dI),(43,dI),(44,dI)],[(.acc 9 .str true),(.mp 76 .bool),(.st 11)],0,65,[]⟩,u8 (z7j n)⟩)]) (anb [(28,0),(40,1),(58,2)] f15)
theorem zun:FOk prog zph:=okF (bs:=[z0l,ziz,y0f,zja]) ⟨z83,zma,y60,zmj,trivial⟩ func15 ntmps15 call15
 (λn=>λ_=>tr (z2b.eq_2 _ _ n))
 (λn=>⟨λ_=>tr (z3y.eq_2 _ _ _ _ _ n),
  λ_=>tr (z4l.eq_2 _ _ _ _ _ _ _ _ n),
  λ_=>tr (z7j.eq_2 _ _ _ _ _ _ _ _ n),
  trivial⟩)
mutual
noncomputable def z95:Nat->kz0->B8->Ot ((List B8)×Int)
 |0,_,_=>none
 |n+1,a,b=>
  (z7f n a).bind λy0=>
  pIf (y0 != 0)
   (some ([],y0))
   ((zc1 n a b).bind λy1=>
   pIf (decide (y1<0))
    (some ([],6))
    ((ix a.rules y1).bind λx2=>
    (z74 n x2).bind λy3=>
    z4q n 0 y3 (y3.length:Int) []))
noncomputable def z4q:Nat->Int->z7c->Int->(List B8)->Ot ((List B8)×Int)
 |0,_,_,_,_=>none
 |n+1,a,b,c,d=>
  pIf (decide (a<c))
   ((ix b a).bind λx4=>
   (ext d [x4.name]).bind λx5=>
   z4q n (IntKind.i64.wrap (a+1)) b c x5)
   ((zze n d).bind λy6=>
   (z4y n y6).bind λy7=>
   some (y7,0))
end
def yd8:LSh:=⟨[(4,dA),(5,dI)],[],0,42,[]⟩
noncomputable def zpf:FI dat:=FI.of dat 19 42 0 [dT 11,dS] [] [dA,dI] [] true yd8 (R:=(List B8)×Int) (λx=>(x.1,x.2.1)) (λr=>(r.1,r.2,())) (λn=>u2 (z95 n))
 (λn=>[(0,⟨⟨[(28,dI),(8,(.own 0)),(26,dL 12),(27,dI)],[(.acc 9 .str true)],0,42,[]⟩,u4 (z4q n)⟩)]) (anb [(28,0)] f19)
theorem zw2:FOk prog zpf:=okF (bs:=[z0l,zbe,ziz,y0f,zja]) ⟨z83,zi8,zma,y60,zmj,trivial⟩ func19 ntmps19 call19
 (λn=>λ_=>tr (z95.eq_2 _ _ n))
 (λn=>⟨λ_=>tr (z4q.eq_2 _ _ _ _ n),
  trivial⟩)
mutual
def z7b:Nat->(List B8)->(List B8)->Ot Bool
 |0,_,_=>none
 |n+1,a,b=>
  pIf ((a.length:Int) != (b.length:Int))
   (some false)
   (z7k n 0 b a)
def z7k:Nat->Int->(List B8)->(List B8)->Ot Bool
 |0,_,_,_=>none
 |n+1,a,b,c=>
  pIf (decide (a<(c.length:Int)))
   ((ix c a).bind λx0=>
   (ix b a).bind λx1=>
   pIf (!(x0==x1))
    (some false)
    (z7k n (IntKind.i64.wrap (a+1)) b c))
   (some true)
end
def zxj:LSh:=⟨[(4,dB)],[],0,26,[]⟩
noncomputable def zkq:FI dat:=FI.of dat 22 26 0 [dA,dA] [] [dB] [] true zxj (R:=Bool) Prod.fst (·,()) (λn=>u2 (z7b n))
 (λn=>[(0,⟨⟨[(5,dI),(1,dA),(0,dA)],[],0,26,[]⟩,u3 (z7k n)⟩)]) (anb [(14,0)] f22)
theorem zu9:FOk prog zkq:=okF (bs:=[]) trivial func22 ntmps22 call22
 (λ_ _=>tr (z7b.eq_2 ..))
 (λn=>⟨λ_=>tr (z7k.eq_2 ..),
  trivial⟩)
noncomputable def z0h:Nat->Option Bool
 |0=>none
 |n+1=>
  (zlz n (List.append (List.append [97,116,116,114,32,102,108,111,111,114,32,51,10,114,117,108,101,32,104,111,117,115,101,32,110,10,99,97,115,101,32,49,32,40,110,32,60,32,49] [41,10,108,101,97,102,32,34,114,111,111,102,34,10,99,97,115,101,32,49,32,110,111,116,40,40,110,32,60,32,49,41,41,10,115,112,108,105,116,32]) (List.append [122,10,102,105,120,101,100,32,119,97,108,108,32,91,102,108,111,111,114,93,10,114,101,115,116,32,104,111,117,115,101,32,91,49,44,32,40,110,32,45] [32,49,41,93,10,114,117,108,101,32,119,97,108,108,10,99,97,115,101,32,50,32,116,114,117,101,10,108,101,97,102,32,34,98,114,105,99,107,34,10]))).bind λy0=>
  (zj1 n y0.1).bind λy1=>
  (z95 n y0.1 [104,111,117,115,101]).bind λy2=>
  (z2b n y0.1 [104,111,117,115,101]).bind λy3=>
  (z2b n y0.1 [119,97,108,108]).bind λy4=>
  pIf (y0.2==0)
   (pIf ((y0.1.attrs.length:Int)==1)
     (pIf ((y0.1.rules.length:Int)==2)
       (pIf (y1.2==0)
         (pIf (y1.1==(List.append (List.append [97,116,116,114,32,102,108,111,111,114,32,51,10,114,117,108,101,32,104,111,117,115,101,32,110,10,99,97,115,101,32,49,32,40,110,32,60,32,49] [41,10,108,101,97,102,32,34,114,111,111,102,34,10,99,97,115,101,32,49,32,110,111,116,40,40,110,32,60,32,49,41,41,10,115,112,108,105,116,32]) (List.append [122,10,102,105,120,101,100,32,119,97,108,108,32,91,102,108,111,111,114,93,10,114,101,115,116,32,104,111,117,115,101,32,91,49,44,32,40,110,32,45] [32,49,41,93,10,114,117,108,101,32,119,97,108,108,10,99,97,115,101,32,50,32,116,114,117,101,10,108,101,97,102,32,34,98,114,105,99,107,34,10])))
           (pIf (y2.2==0)
             ((z7b n y2.1 [[104,111,117,115,101],[119,97,108,108]]).bind λy5=>
             pIf y5
              (pIf (y3.2==0)
                ((z7b n y3.1 [[104,111,117,115,101],[119,97,108,108]]).bind λy6=>
                pIf y6
                 (pIf (y4.2==0)
                   ((z7b n y4.1 [[119,97,108,108]]).bind λy7=>
                   some y7)
                   (some false))
                 (some false))
                (some false))
              (some false))
             (some false))
           (some false))
         (some false))
       (some false))
     (some false))
   (some false)
def zw5:LSh:=⟨[(0,dB)],[],0,84,[]⟩
noncomputable def zjx:FI dat:=FI.of dat 16 84 0 [] [] [dB] [] true zw5 (R:=Bool) Prod.fst (·,()) (λn x=>z0h n)
 (λn=>[]) (anb [] f16)
theorem ztp:FOk prog zjx:=okF (bs:=[zj9,zl7,zpf,zph,zkq]) ⟨y8i,zyb,zw2,zun,zu9,trivial⟩ func16 ntmps16 call16
 (λn=>λx=>(z0h.eq_2 n).trans (by kernel_rfl))
 (λn=>trivial)
mutual
def z96:Nat->yz0->Int->Ot Bool
 |0,_,_=>none
 |n+1,a,b=>
  pIf (b==0)
   (z22 n b true a.re)
   (pIf (decide ((a.str.length:Int)>200))
     (z22 n b true a.re)
     (z22 n b (decide ((a.list.length:Int)>150)) a.re))
def z22:Nat->Int->Bool->yz0->Ot Bool
 |0,_,_,_=>none
 |n+1,a,b,c=>
  pIf b
   (some true)
   (z44 n 0 a c.re)
def z44:Nat->Int->Int->yz0->Ot Bool
 |0,_,_,_=>none
 |n+1,a,b,c=>
  pIf (decide (a<(c.list.length:Int)))
   ((ix c.list a).bind λx0=>
   (z96 n x0.re (IntKind.i64.wrap (b-1))).bind λy1=>
   pIf y1
    (some true)
    (z44 n (IntKind.i64.wrap (a+1)) b c.re))
   (some false)
end
def ydz:LSh:=⟨[(4,dB)],[],0,35,[]⟩
noncomputable def zft:FI dat:=FI.of dat 215 35 0 [dT 4,dI] [] [dB] [] true ydz (R:=Bool) Prod.fst (·,()) (λn=>u2 (z96 n))
 (λn=>[(0,⟨⟨[(1,dI),(2,(.ptr 0 0)),(19,dB)],[(.st 4)],0,35,[]⟩,u3 (z22 n)⟩),(1,⟨⟨[(5,dI),(1,dI),(2,(.ptr 0 0))],[(.st 4)],0,35,[]⟩,u3 (z44 n)⟩)]) (anb [(5,0),(14,1)] f215)
noncomputable def yfb:List (FI dat):=[zft]++[]
theorem ydu:(zft).Good prog dat (tb yfb):=FI.z1c (hD:=kza _) func215 ntmps215 call215 (by kernel_rfl) (Qac (by kernel_rfl)) (by kernel_rfl) (λn=>by kernel_rfl) (λx=>by kernel_rfl) (λ_=>rfl) ⟨λ_=>rfl,λ_=>rfl,trivial⟩
 (λ_ _=>tr (z96.eq_2 ..))
 (λn=>⟨λ_=>tr (z22.eq_2 ..),
  λ_=>tr (z44.eq_2 ..),
  trivial⟩)
 (λx=>.inl rfl)
theorem ydd:OkL prog [zft]:=z7m (kza _) (bs:=[]) trivial ⟨ydu,trivial⟩
theorem y9z:FOk prog zft:=ydd.1
mutual
def z73:Nat->yz0->Ot Int
 |0,_=>none
 |n+1,a=>
  z4b n 0 1 a.re
def z4b:Nat->Int->Int->yz0->Ot Int
 |0,_,_,_=>none
 |n+1,a,b,c=>
  pIf (decide (a<(c.list.length:Int)))
   (z45 n a b (c.kind==4) c.re)
   (z45 n a b false c.re)
def z45:Nat->Int->Int->Bool->yz0->Ot Int
 |0,_,_,_,_=>none
 |n+1,a,b,c,d=>
  pIf c
   ((ix d.list a).bind λx0=>
   (z73 n x0.re).bind λy1=>
   z4b n (IntKind.i64.wrap (a+1)) (IntKind.i64.wrap (b+y1)) d.re)
   (some b)
end
def ye0:LSh:=⟨[(2,dI)],[],0,26,[]⟩
noncomputable def zd5:FI dat:=FI.of dat 216 26 0 [dT 4] [] [dI] [] true ye0 (R:=Int) Prod.fst (·,()) (λn=>u1 (z73 n))
 (λn=>[(0,⟨⟨[(4,dI),(1,(.ptr 0 0)),(3,dI)],[(.st 4)],0,26,[]⟩,u3 (z4b n)⟩),(1,⟨⟨[(1,(.ptr 0 0)),(4,dI),(3,dI),(14,dB)],[(.st 4)],0,26,[]⟩,u4 (z45 n)⟩)]) (anb [(8,0),(12,1)] f216)
noncomputable def yd6:List (FI dat):=[zd5]++[]
theorem ycv:(zd5).Good prog dat (tb yd6):=FI.z1c (hD:=kza _) func216 ntmps216 call216 (by kernel_rfl) (Qac (by kernel_rfl)) (by kernel_rfl) (λn=>by kernel_rfl) (λx=>by kernel_rfl) (λ_=>rfl) ⟨λ_=>rfl,λ_=>rfl,trivial⟩
 (λ_ _=>tr (z73.eq_2 ..))
 (λn=>⟨λ_=>tr (z4b.eq_2 ..),
  λ_=>tr (z45.eq_2 ..),
  trivial⟩)
 (λx=>.inl rfl)
theorem yf0:OkL prog [zd5]:=z7m (kza _) (bs:=[]) trivial ⟨ycv,trivial⟩
theorem zur:FOk prog zd5:=yf0.1
def zbi:Nat->yz0->Ot Bool
 |0,_=>none
 |n+1,a=>
  (z96 n a.re 10).bind λy0=>
  pIf y0
   (some true)
   ((z73 n a.re).bind λy1=>
   some (decide (y1>150)))
def yd0:LSh:=⟨[(2,dB)],[],0,10,[]⟩
noncomputable def zp1:FI dat:=FI.of dat 173 10 0 [dT 4] [] [dB] [] true yd0 (R:=Bool) Prod.fst (·,()) (λn=>u1 (zbi n))
 (λn=>[]) (anb [] f173)
theorem ybi:FOk prog zp1:=okF (bs:=[zft,zd5]) ⟨y9z,zur,trivial⟩ func173 ntmps173 call173
 (λ_ _=>tr (zbi.eq_2 ..))
 (λn=>trivial)
mutual
def z99:Nat->yz1->Int->Ot Bool
 |0,_,_=>none
 |n+1,a,b=>
  pIf (b==0)
   (z0k n b true a.re)
   (pIf (decide ((a.args.length:Int)>150))
     (z0k n b true a.re)
     (pIf (decide ((a.name.length:Int)>200))
       (z0k n b true a.re)
       ((zbi n a.value.re).bind λy0=>
       z0k n b y0 a.re)))
def z0k:Nat->Int->Bool->yz1->Ot Bool
 |0,_,_,_=>none
 |n+1,a,b,c=>
  pIf b
   (some true)
   (z47 n 0 a c.re)
def z47:Nat->Int->Int->yz1->Ot Bool
 |0,_,_,_=>none
 |n+1,a,b,c=>
  pIf (decide (a<(c.args.length:Int)))
   ((ix c.args a).bind λx1=>
   (z99 n x1.re (IntKind.i64.wrap (b-1))).bind λy2=>
   pIf y2
    (some true)
    (z47 n (IntKind.i64.wrap (a+1)) b c.re))
   (some false)
end
def ydy:LSh:=⟨[(4,dB)],[],0,40,[]⟩
noncomputable def zg1:FI dat:=FI.of dat 110 40 0 [dT 5,dI] [] [dB] [] true ydy (R:=Bool) Prod.fst (·,()) (λn=>u2 (z99 n))
 (λn=>[(0,⟨⟨[(1,dI),(2,(.ptr 0 0)),(24,dB)],[(.st 5)],0,40,[]⟩,u3 (z0k n)⟩),(1,⟨⟨[(5,dI),(1,dI),(2,(.ptr 0 0))],[(.st 5)],0,40,[]⟩,u3 (z47 n)⟩)]) (anb [(5,0),(14,1)] f110)
noncomputable def ye7:List (FI dat):=[zg1]++[zp1]
theorem ye4:(zg1).Good prog dat (tb ye7):=FI.z1c (hD:=kza _) func110 ntmps110 call110 (by kernel_rfl) (Qac (by kernel_rfl)) (by kernel_rfl) (λn=>by kernel_rfl) (λx=>by kernel_rfl) (λ_=>rfl) ⟨λ_=>rfl,λ_=>rfl,trivial⟩
 (λ_ _=>tr (z99.eq_2 ..))
 (λn=>⟨λ_=>tr (z0k.eq_2 ..),
  λ_=>tr (z47.eq_2 ..),
  trivial⟩)
 (λx=>.inl rfl)
theorem yep:OkL prog [zg1]:=z7m (kza _) (bs:=[zp1]) ⟨ybi,trivial⟩ ⟨ye4,trivial⟩
theorem yb8:FOk prog zg1:=yep.1
mutual
def z6z:Nat->yz1->Ot Int
 |0,_=>none
 |n+1,a=>
  z3t n 0 1 a.re
def z3t:Nat->Int->Int->yz1->Ot Int
 |0,_,_,_=>none
 |n+1,a,b,c=>
  pIf (decide (a<(c.args.length:Int)))
   ((ix c.args a).bind λx0=>
   (z6z n x0.re).bind λy1=>
   z3t n (IntKind.i64.wrap (a+1)) (IntKind.i64.wrap (b+y1)) c.re)
   (some b)
end
def yf7:LSh:=⟨[(2,dI)],[],0,21,[]⟩
noncomputable def zd0:FI dat:=FI.of dat 111 21 0 [dT 5] [] [dI] [] true yf7 (R:=Int) Prod.fst (·,()) (λn=>u1 (z6z n))
 (λn=>[(0,⟨⟨[(4,dI),(1,(.ptr 0 0)),(3,dI)],[(.st 5)],0,21,[]⟩,u3 (z3t n)⟩)]) (anb [(8,0)] f111)
noncomputable def yeu:List (FI dat):=[zd0]++[]
theorem yfk:(zd0).Good prog dat (tb yeu):=FI.z1c (hD:=kza _) func111 ntmps111 call111 (by kernel_rfl) (Qac (by kernel_rfl)) (by kernel_rfl) (λn=>by kernel_rfl) (λx=>by kernel_rfl) (λ_=>rfl) ⟨λ_=>rfl,trivial⟩
 (λ_ _=>tr (z6z.eq_2 ..))
 (λn=>⟨λ_=>tr (z3t.eq_2 ..),
  trivial⟩)
 (λx=>.inl rfl)
theorem yff:OkL prog [zd0]:=z7m (kza _) (bs:=[]) trivial ⟨yfk,trivial⟩
theorem zuo:FOk prog zd0:=yff.1
def z4h:Nat->yz1->Ot Bool
 |0,_=>none
 |n+1,a=>
  (z99 n a.re 16).bind λy0=>
  pIf y0
   (some true)
   ((z6z n a.re).bind λy1=>
   some (decide (y1>150)))
def yfp:LSh:=⟨[(2,dB)],[],0,10,[]⟩
noncomputable def zpg:FI dat:=FI.of dat 48 10 0 [dT 5] [] [dB] [] true yfp (R:=Bool) Prod.fst (·,()) (λn=>u1 (z4h n))
 (λn=>[]) (anb [] f48)
theorem zvn:FOk prog zpg:=okF (bs:=[zg1,zd0]) ⟨yb8,zuo,trivial⟩ func48 ntmps48 call48
 (λ_ _=>tr (z4h.eq_2 ..))
 (λn=>trivial)
def z3f:Nat->zz8->Ot yz1
 |0,_=>none
 |n+1,a=>
  some (yz1.mk 18 (yz0.mk 0 (zz4.mk 0 0) false [] []) [] a)
def yhu:LSh:=⟨[(2,(.ptr 0 0))],[(.st 5)],0,5,[]⟩
noncomputable def zrx:FI dat:=FI.of dat 112 5 0 [dL 5] [] [dT 5] [] true yhu (R:=yz1) Prod.fst (·,()) (λn=>u1 (z3f n))
 (λn=>[]) (anb [] f112)
theorem zyo:FOk prog zrx:=okF (bs:=[]) trivial func112 ntmps112 call112
 (λn=>λ_=>tr (z3f.eq_2 _ n))
 (λn=>trivial)
mutual
def z5s:Nat->kz5->Ot Bool
 |0,_=>none
 |n+1,a=>
  pIf (decide ((a.do_.length:Int)>15))
   (z0e n true a.re)
   ((z4h n a.when_.re).bind λy0=>
   z0e n y0 a.re)
def z0e:Nat->Bool->kz5->Ot Bool
 |0,_,_=>none
 |n+1,a,b=>
  pIf a
   (some true)
   (yzu n 0 b.re)
def yzu:Nat->Int->kz5->Ot Bool
 |0,_,_=>none
 |n+1,a,b=>
  pIf (decide (a<(b.do_.length:Int)))
   ((ix b.do_ a).bind λx1=>
   (z3f n x1.args).bind λy2=>
   (z4h n y2.re).bind λy3=>
   pIf y3
    (kzt n a true b.re)
    ((ix b.do_ a).bind λx4=>
    pIf (decide ((x4.items.length:Int)>15))
     (kzt n a true b.re)
     ((ix b.do_ a).bind λx5=>
     kzt n a (decide ((x5.name.length:Int)>100)) b.re)))
   (some false)
def kzt:Nat->Int->Bool->kz5->Ot Bool
 |0,_,_,_=>none
 |n+1,a,b,c=>
  pIf b
   (some true)
   (zzu n 0 a c.re)
def zzu:Nat->Int->Int->kz5->Ot Bool
 |0,_,_,_=>none
 |n+1,a,b,c=>
  (ix c.do_ b).bind λx6=>
  pIf (decide (a<(x6.items.length:Int)))
   ((ix c.do_ b).bind λx7=>
   (ix x7.items a).bind λx8=>
   (z3f n x8.args).bind λy9=>
   (z4h n y9.re).bind λy10=>
   pIf y10
    (z0i n b a true c.re)
    ((ix c.do_ b).bind λx11=>
    (ix x11.items a).bind λx12=>
    z0i n b a (decide ((x12.name.length:Int)>100)) c.re))
   (yzu n (IntKind.i64.wrap (b+1)) c.re)
def z0i:Nat->Int->Int->Bool->kz5->Ot Bool
 |0,_,_,_,_=>none
 |n+1,a,b,c,d=>
  pIf c
   (some true)
   (zzu n (IntKind.i64.wrap (b+1)) a d.re)
end
def y2y:LSh:=⟨[(2,dB)],[],0,86,[]⟩
noncomputable def zoh:FI dat:=FI.of dat 49 86 0 [dT 9] [] [dB] [] true y2y (R:=Bool) Prod.fst (·,()) (λn=>u1 (z5s n))
 (λn=>[(0,⟨⟨[(1,(.ptr 0 0)),(13,dB)],[(.st 9)],0,86,[]⟩,u2 (z0e n)⟩),(1,⟨⟨[(3,dI),(1,(.ptr 0 0))],[(.st 9)],0,86,[]⟩,u2 (yzu n)⟩),(2,⟨⟨[(3,dI),(1,(.ptr 0 0)),(48,dB)],[(.st 9)],0,86,[]⟩,u3 (kzt n)⟩),(3,⟨⟨[(4,dI),(3,dI),(1,(.ptr 0 0))],[(.st 9)],0,86,[]⟩,u3 (zzu n)⟩),(4,⟨⟨[(3,dI),(1,(.ptr 0 0)),(4,dI),(85,dB)],[(.st 9)],0,86,[]⟩,u4 (z0i n)⟩)]) (anb [(5,0),(14,1),(26,2),(34,3),(45,4)] f49)
theorem y0a:FOk prog zoh:=okF (bs:=[zpg,zrx]) ⟨zvn,zyo,trivial⟩ func49 ntmps49 call49
 (λ_ _=>tr (z5s.eq_2 ..))
 (λn=>⟨λ_=>tr (z0e.eq_2 ..),
  λ_=>tr (yzu.eq_2 ..),
  λ_=>tr (kzt.eq_2 ..),
  λ_=>tr (zzu.eq_2 ..),
  λ_=>tr (z0i.eq_2 ..),
  trivial⟩)
mutual
def zbg:Nat->kz0->Ot Bool
 |0,_=>none
 |n+1,a=>
  pIf (decide ((a.attrs.length:Int)>25))
   (z3k n true a)
   (z3k n (decide ((a.rules.length:Int)>45)) a)
def z3k:Nat->Bool->kz0->Ot Bool
 |0,_,_=>none
 |n+1,a,b=>
  pIf a
   (some true)
   (z1r n 0 b)
def z1r:Nat->Int->kz0->Ot Bool
 |0,_,_=>none
 |n+1,a,b=>
  pIf (decide (a<(b.attrs.length:Int)))
   ((ix b.attrs a).bind λx0=>
   (z4h n x0.value.re).bind λy1=>
   pIf y1
    (z4n n a true b)
    ((ix b.attrs a).bind λx2=>
    z4n n a (decide ((x2.name.length:Int)>100)) b))
   (z1y n 0 b)
def z4n:Nat->Int->Bool->kz0->Ot Bool
 |0,_,_,_=>none
 |n+1,a,b,c=>
  pIf b
   (some true)
   (z1r n (IntKind.i64.wrap (a+1)) c)
def z1y:Nat->Int->kz0->Ot Bool
 |0,_,_=>none
 |n+1,a,b=>
  pIf (decide (a<(b.rules.length:Int)))
   ((ix b.rules a).bind λx3=>
   pIf (decide ((x3.params.length:Int)>10))
    (z1n n a true x3 b)
    (pIf (decide ((x3.cases.length:Int)>10))
      (z1n n a true x3 b)
      (z1n n a (decide ((x3.name.length:Int)>100)) x3 b)))
   (some false)
def z1n:Nat->Int->Bool->zz6->kz0->Ot Bool
 |0,_,_,_,_=>none
 |n+1,a,b,c,d=>
  pIf b
   (some true)
   (z1q n 0 a c d)
def z1q:Nat->Int->Int->zz6->kz0->Ot Bool
 |0,_,_,_,_=>none
 |n+1,a,b,c,d=>
  pIf (decide (a<(c.params.length:Int)))
   ((ix c.params a).bind λx4=>
   pIf (decide ((x4.length:Int)>100))
    (some true)
    (z1q n (IntKind.i64.wrap (a+1)) b c d))
   (z1v n 0 b c d)
def z1v:Nat->Int->Int->zz6->kz0->Ot Bool
 |0,_,_,_,_=>none
 |n+1,a,b,c,d=>
  pIf (decide (a<(c.cases.length:Int)))
   ((ix c.cases a).bind λx5=>
   (z5s n x5.re).bind λy6=>
   pIf y6
    (some true)
    (z1v n (IntKind.i64.wrap (a+1)) b c d))
   (z1y n (IntKind.i64.wrap (b+1)) d)
end
def ydj:LSh:=⟨[(2,dB)],[],0,97,[]⟩
noncomputable def zxy:FI dat:=FI.of dat 20 97 0 [dT 11] [] [dB] [] true ydj (R:=Bool) Prod.fst (·,()) (λn=>u1 (zbg n))
 (λn=>[(0,⟨⟨[(1,(.ptr 0 0)),(17,dB)],[(.st 11)],0,97,[]⟩,u2 (z3k n)⟩),(1,⟨⟨[(3,dI),(1,(.ptr 0 0))],[(.st 11)],0,97,[]⟩,u2 (z1r n)⟩),(2,⟨⟨[(1,(.ptr 0 0)),(3,dI),(41,dB)],[(.st 11)],0,97,[]⟩,u3 (z4n n)⟩),(3,⟨⟨[(4,dI),(1,(.ptr 0 0))],[(.st 11)],0,97,[]⟩,u2 (z1y n)⟩),(4,⟨⟨[(5,(.ptr 0 0)),(1,(.ptr 1 0)),(4,dI),(69,dB)],[(.st 10),(.st 11)],0,97,[]⟩,u4 (z1n n)⟩),(5,⟨⟨[(6,dI),(5,(.ptr 0 0)),(1,(.ptr 1 0)),(4,dI)],[(.st 10),(.st 11)],0,97,[]⟩,u4 (z1q n)⟩),(6,⟨⟨[(7,dI),(5,(.ptr 0 0)),(1,(.ptr 1 0)),(4,dI)],[(.st 10),(.st 11)],0,97,[]⟩,u4 (z1v n)⟩)]) (anb [(5,0),(14,1),(25,2),(35,3),(49,4),(58,5),(78,6)] f20)
theorem ybh:FOk prog zxy:=okF (bs:=[zpg,zoh]) ⟨zvn,y0a,trivial⟩ func20 ntmps20 call20
 (λ_ _=>tr (zbg.eq_2 ..))
 (λn=>⟨λ_=>tr (z3k.eq_2 ..),
  λ_=>tr (z1r.eq_2 ..),
  λ_=>tr (z4n.eq_2 ..),
  λ_=>tr (z1y.eq_2 ..),
  λ_=>tr (z1n.eq_2 ..),
  λ_=>tr (z1q.eq_2 ..),
  λ_=>tr (z1v.eq_2 ..),
  trivial⟩)
mutual
def zcw:Nat->kz0->Ot Bool
 |0,_=>none
 |n+1,a=>
  pIf (decide ((a.attrs.length:Int)>20))
   (z6e n true a)
   (z6e n (decide ((a.rules.length:Int)>40)) a)
def z6e:Nat->Bool->kz0->Ot Bool
 |0,_,_=>none
 |n+1,a,b=>
  pIf a
   (some true)
   (z32 n 0 b)
def z32:Nat->Int->kz0->Ot Bool
 |0,_,_=>none
 |n+1,a,b=>
  pIf (decide (a<(b.rules.length:Int)))
   ((ix b.rules a).bind λx0=>
   pIf (decide ((x0.params.length:Int)>4))
    (z5y n a true x0 b)
    (z5y n a (decide ((x0.cases.length:Int)>6)) x0 b))
   (some false)
def z5y:Nat->Int->Bool->zz6->kz0->Ot Bool
 |0,_,_,_,_=>none
 |n+1,a,b,c,d=>
  pIf b
   (some true)
   (z35 n 0 a c d)
def z35:Nat->Int->Int->zz6->kz0->Ot Bool
 |0,_,_,_,_=>none
 |n+1,a,b,c,d=>
  pIf (decide (a<(c.cases.length:Int)))
   ((ix c.cases a).bind λx1=>
   pIf (decide ((x1.do_.length:Int)>10))
    (some true)
    (z36 n 0 a b c d))
   (z32 n (IntKind.i64.wrap (b+1)) d)
def z36:Nat->Int->Int->Int->zz6->kz0->Ot Bool
 |0,_,_,_,_,_=>none
 |n+1,a,b,c,d,e=>
  (ix d.cases b).bind λx2=>
  pIf (decide (a<(x2.do_.length:Int)))
   ((ix d.cases b).bind λx3=>
   (ix x3.do_ a).bind λx4=>
   pIf (decide ((x4.items.length:Int)>10))
    (some true)
    (z36 n (IntKind.i64.wrap (a+1)) b c d e))
   (z35 n (IntKind.i64.wrap (b+1)) c d e)
end
def yhl:LSh:=⟨[(2,dB)],[],0,77,[]⟩
noncomputable def y1i:FI dat:=FI.of dat 52 77 0 [dT 11] [] [dB] [] true yhl (R:=Bool) Prod.fst (·,()) (λn=>u1 (zcw n))
 (λn=>[(0,⟨⟨[(1,(.ptr 0 0)),(16,dB)],[(.st 11)],0,77,[]⟩,u2 (z6e n)⟩),(1,⟨⟨[(3,dI),(1,(.ptr 0 0))],[(.st 11)],0,77,[]⟩,u2 (z32 n)⟩),(2,⟨⟨[(4,(.ptr 0 0)),(1,(.ptr 1 0)),(3,dI),(38,dB)],[(.st 10),(.st 11)],0,77,[]⟩,u4 (z5y n)⟩),(3,⟨⟨[(5,dI),(4,(.ptr 0 0)),(1,(.ptr 1 0)),(3,dI)],[(.st 10),(.st 11)],0,77,[]⟩,u4 (z35 n)⟩),(4,⟨⟨[(6,dI),(5,dI),(4,(.ptr 0 0)),(1,(.ptr 1 0)),(3,dI)],[(.st 10),(.st 11)],0,77,[]⟩,u5 (z36 n)⟩)]) (anb [(5,0),(14,1),(28,2),(36,3),(56,4)] f52)
theorem yei:FOk prog y1i:=okF (bs:=[]) trivial func52 ntmps52 call52
 (λ_ _=>tr (zcw.eq_2 ..))
 (λn=>⟨λ_=>tr (z6e.eq_2 ..),
  λ_=>tr (z32.eq_2 ..),
  λ_=>tr (z5y.eq_2 ..),
  λ_=>tr (z35.eq_2 ..),
  λ_=>tr (z36.eq_2 ..),
  trivial⟩)
def z9r:Nat->Int->Ot Bool
 |0,_=>none
 |n+1,a=>
  pIf (decide (a>=97))
   (some (decide (a<=122)))
   (some false)
def ya6:LSh:=⟨[(2,dB)],[],0,9,[]⟩
noncomputable def zvj:FI dat:=FI.of dat 217 9 0 [dU] [] [dB] [] true ya6 (R:=Bool) Prod.fst (·,()) (λn=>u1 (z9r n))
 (λn=>[]) (anb [] f217)
theorem y83:FOk prog zvj:=okF (bs:=[]) trivial func217 ntmps217 call217
 (λn=>λ_=>tr (z9r.eq_2 _ n))
 (λn=>trivial)
def zb2:Nat->Int->Ot Bool
 |0,_=>none
 |n+1,a=>
  pIf (decide (a>=48))
   (some (decide (a<=57)))
   (some false)
def yec:LSh:=⟨[(2,dB)],[],0,9,[]⟩
noncomputable def zyi:FI dat:=FI.of dat 218 9 0 [dU] [] [dB] [] true yec (R:=Bool) Prod.fst (·,()) (λn=>u1 (zb2 n))
 (λn=>[]) (anb [] f218)
theorem yaz:FOk prog zyi:=okF (bs:=[]) trivial func218 ntmps218 call218
 (λn=>λ_=>tr (zb2.eq_2 _ n))
 (λn=>trivial)
mutual
def zan:Nat->B8->Ot Bool
 |0,_=>none
 |n+1,a=>
  kzv n 0 a
def kzv:Nat->Int->B8->Ot Bool
 |0,_,_=>none
 |n+1,a,b=>
  pIf (decide (a<(b.length:Int)))
   ((ix b a).bind λx0=>
   (z9r n (x0.toNat:Int)).bind λy1=>
   pIf (!y1)
    (pIf (a==0)
      (z04 n b a true)
      ((ix b a).bind λx2=>
      pIf ((x2.toNat:Int) != 45)
       ((ix b a).bind λx3=>
       (zb2 n (x3.toNat:Int)).bind λy4=>
       z04 n b a (!y4))
       (z04 n b a false)))
    (z04 n b a false))
   (pIf (decide ((b.length:Int)>=1))
     (some (decide ((b.length:Int)<=40)))
     (some false))
def z04:Nat->B8->Int->Bool->Ot Bool
 |0,_,_,_=>none
 |n+1,a,b,c=>
  pIf c
   (some false)
   (kzv n (IntKind.i64.wrap (b+1)) a)
end
def yhe:LSh:=⟨[(2,dB)],[],0,40,[]⟩
noncomputable def zs5:FI dat:=FI.of dat 174 40 0 [dS] [] [dB] [] true yhe (R:=Bool) Prod.fst (·,()) (λn=>u1 (zan n))
 (λn=>[(0,⟨⟨[(3,dI),(0,dS)],[],0,40,[]⟩,u2 (kzv n)⟩),(1,⟨⟨[(0,dS),(3,dI),(31,dB)],[],0,40,[]⟩,u3 (z04 n)⟩)]) (anb [(6,0),(17,1)] f174)
theorem zyn:FOk prog zs5:=okF (bs:=[zvj,zyi]) ⟨y83,yaz,trivial⟩ func174 ntmps174 call174
 (λ_ _=>tr (zan.eq_2 ..))
 (λn=>⟨λ_=>tr (kzv.eq_2 ..),
  λ_=>tr (z04.eq_2 ..),
  trivial⟩)
def z9p:Nat->B8->Ot Bool
 |0,_=>none
 |n+1,a=>
  pIf (a==[115,120])
   (some true)
   (pIf (a==[115,121])
     (some true)
     (some (a==[115,122])))
def yav:LSh:=⟨[(2,dB)],[],0,13,[]⟩
noncomputable def zum:FI dat:=FI.of dat 175 13 0 [dS] [] [dB] [] true yav (R:=Bool) Prod.fst (·,()) (λn=>u1 (z9p n))
 (λn=>[]) (anb [] f175)
theorem y6u:FOk prog zum:=okF (bs:=[]) trivial func175 ntmps175 call175
 (λn=>λ_=>tr (z9p.eq_2 _ n))
 (λn=>trivial)
def z3g:Nat->B8->Ot Bool
 |0,_=>none
 |n+1,a=>
  (zan n a).bind λy0=>
  pIf y0
   (pIf (!(a==[116,114,117,101]))
     (pIf (!(a==[102,97,108,115,101]))
       ((z9p n a).bind λy1=>
       some (!y1))
       (some false))
     (some false))
   (some false)
def yjz:LSh:=⟨[(2,dB)],[],0,18,[]⟩
noncomputable def zsz:FI dat:=FI.of dat 114 18 0 [dS] [] [dB] [] true yjz (R:=Bool) Prod.fst (·,()) (λn=>u1 (z3g n))
 (λn=>[]) (anb [] f114)
theorem zyd:FOk prog zsz:=okF (bs:=[zs5,zum]) ⟨zyn,y6u,trivial⟩ func114 ntmps114 call114
 (λ_ _=>tr (z3g.eq_2 ..))
 (λn=>trivial)
mutual
def zat:Nat->yz1->Ot Int
 |0,_=>none
 |n+1,a=>
  z68 n 0 1 a.re
def z68:Nat->Int->Int->yz1->Ot Int
 |0,_,_,_=>none
 |n+1,a,b,c=>
  pIf (decide (a<(c.args.length:Int)))
   ((ix c.args a).bind λx0=>
   (zat n x0.re).bind λy1=>
   z68 n (IntKind.i64.wrap (a+1)) (mxI b (IntKind.i64.wrap (1+y1))) c.re)
   (some b)
end
def ykg:LSh:=⟨[(2,dI)],[],0,22,[]⟩
noncomputable def zh3:FI dat:=FI.of dat 176 22 0 [dT 5] [] [dI] [] true ykg (R:=Int) Prod.fst (·,()) (λn=>u1 (zat n))
 (λn=>[(0,⟨⟨[(4,dI),(1,(.ptr 0 0)),(3,dI)],[(.st 5)],0,22,[]⟩,u3 (z68 n)⟩)]) (anb [(8,0)] f176)
noncomputable def yjh:List (FI dat):=[zh3]++[]
theorem yjo:(zh3).Good prog dat (tb yjh):=FI.z1c (hD:=kza _) func176 ntmps176 call176 (by kernel_rfl) (Qac (by kernel_rfl)) (by kernel_rfl) (λn=>by kernel_rfl) (λx=>by kernel_rfl) (λ_=>rfl) ⟨λ_=>rfl,trivial⟩
 (λ_ _=>tr (zat.eq_2 ..))
 (λn=>⟨λ_=>tr (z68.eq_2 ..),
  trivial⟩)
 (λx=>.inl rfl)
theorem yii:OkL prog [zh3]:=z7m (kza _) (bs:=[]) trivial ⟨yjo,trivial⟩
theorem ycz:FOk prog zh3:=yii.1
mutual
def zcy:Nat->Int->Ot Int
 |0,_=>none
 |n+1,a=>
  pIf (a==1)
   (z8z n a true)
   (z8z n a (a==2))
def z8z:Nat->Int->Bool->Ot Int
 |0,_,_=>none
 |n+1,a,b=>
  pIf b
   (some 0)
   (pIf (decide (a>=3))
     (pIf (decide (a<=10))
       (kzq n a true)
       (pIf (a==13)
         (kzq n a true)
         (pIf (a==14)
           (kzq n a true)
           (kzq n a (a==17)))))
     (pIf (a==13)
       (kzq n a true)
       (pIf (a==14)
         (kzq n a true)
         (kzq n a (a==17)))))
def kzq:Nat->Int->Bool->Ot Int
 |0,_,_=>none
 |n+1,a,b=>
  pIf b
   (some 2)
   (pIf (a==11)
     (z6b n a true)
     (pIf (a==15)
       (z6b n a true)
       (z6b n a (a==16))))
def z6b:Nat->Int->Bool->Ot Int
 |0,_,_=>none
 |n+1,a,b=>
  pIf b
   (some 1)
   (pIf (a==12)
     (some 3)
     (pIf (a==18)
       (some (-1))
       (some (-2))))
end
def yj5:LSh:=⟨[(2,dI)],[],0,46,[]⟩
noncomputable def zsw:FI dat:=FI.of dat 219 46 0 [dU] [] [dI] [] true yj5 (R:=Int) Prod.fst (·,()) (λn=>u1 (zcy n))
 (λn=>[(0,⟨⟨[(0,dU),(3,dB)],[],0,46,[]⟩,u2 (z8z n)⟩),(1,⟨⟨[(0,dU),(10,dB)],[],0,46,[]⟩,u2 (kzq n)⟩),(2,⟨⟨[(0,dU),(29,dB)],[],0,46,[]⟩,u2 (z6b n)⟩)]) (anb [(6,0),(12,1),(18,2)] f219)
theorem ydr:FOk prog zsw:=okF (bs:=[]) trivial func219 ntmps219 call219
 (λ_ _=>tr (zcy.eq_2 ..))
 (λn=>⟨λ_=>tr (z8z.eq_2 ..),
  λ_=>tr (kzq.eq_2 ..),
  λ_=>tr (z6b.eq_2 _ _ n),
  trivial⟩)
mutual
def zal:Nat->yz0->Ot Int
 |0,_=>none
 |n+1,a=>
  z5o n 0 1 a.re
def z5o:Nat->Int->Int->yz0->Ot Int
 |0,_,_,_=>none
 |n+1,a,b,c=>
  pIf (decide (a<(c.list.length:Int)))
   (z6c n a b (c.kind==4) c.re)
   (z6c n a b false c.re)
def z6c:Nat->Int->Int->Bool->yz0->Ot Int
 |0,_,_,_,_=>none
 |n+1,a,b,c,d=>
  pIf c
   ((ix d.list a).bind λx0=>
   (zal n x0.re).bind λy1=>
   z5o n (IntKind.i64.wrap (a+1)) (mxI b (IntKind.i64.wrap (1+y1))) d.re)
   (some b)
end
def yio:LSh:=⟨[(2,dI)],[],0,27,[]⟩
noncomputable def zhp:FI dat:=FI.of dat 252 27 0 [dT 4] [] [dI] [] true yio (R:=Int) Prod.fst (·,()) (λn=>u1 (zal n))
 (λn=>[(0,⟨⟨[(4,dI),(1,(.ptr 0 0)),(3,dI)],[(.st 4)],0,27,[]⟩,u3 (z5o n)⟩),(1,⟨⟨[(1,(.ptr 0 0)),(4,dI),(3,dI),(14,dB)],[(.st 4)],0,27,[]⟩,u4 (z6c n)⟩)]) (anb [(8,0),(12,1)] f252)
noncomputable def yim:List (FI dat):=[zhp]++[]
theorem yhj:(zhp).Good prog dat (tb yim):=FI.z1c (hD:=kza _) func252 ntmps252 call252 (by kernel_rfl) (Qac (by kernel_rfl)) (by kernel_rfl) (λn=>by kernel_rfl) (λx=>by kernel_rfl) (λ_=>rfl) ⟨λ_=>rfl,λ_=>rfl,trivial⟩
 (λ_ _=>tr (zal.eq_2 ..))
 (λn=>⟨λ_=>tr (z5o.eq_2 ..),
  λ_=>tr (z6c.eq_2 ..),
  trivial⟩)
 (λx=>.inl rfl)
theorem yjp:OkL prog [zhp]:=z7m (kza _) (bs:=[]) trivial ⟨yhj,trivial⟩
theorem yd4:FOk prog zhp:=yjp.1
mutual
def z9s:Nat->Int->Int->Ot Int
 |0,_,_=>none
 |n+1,a,b=>
  z2j n b a
def z2j:Nat->Int->Int->Ot Int
 |0,_,_=>none
 |n+1,a,b=>
  pIf (a != 0)
   ((rem .i64 b a).bind λx0=>
   z2j n x0 a)
   (pIf (decide (b<0))
     (some (IntKind.i64.wrap (0-b)))
     (some b))
end
def ya1:LSh:=⟨[(4,dI)],[],0,16,[]⟩
noncomputable def zu8:FI dat:=FI.of dat 263 16 0 [dI,dI] [] [dI] [] true ya1 (R:=Int) Prod.fst (·,()) (λn=>u2 (z9s n))
 (λn=>[(0,⟨⟨[(1,dI),(0,dI)],[],0,16,[]⟩,u2 (z2j n)⟩)]) (anb [(4,0)] f263)
theorem y79:FOk prog zu8:=okF (bs:=[]) trivial func263 ntmps263 call263
 (λ_ _=>tr (z9s.eq_2 ..))
 (λn=>⟨λ_=>tr (z2j.eq_2 ..),
  trivial⟩)
mutual
def zbj:Nat->zz4->Ot Int
 |0,_=>none
 |n+1,a=>
  pIf (decide (a.den<1))
   (zzy n true)
   (pIf (decide (a.den>1000000000))
     (zzy n true)
     (pIf (decide (a.num<(-1000000000)))
       (zzy n true)
       (pIf (decide (a.num>1000000000))
         (zzy n true)
         ((z9s n a.num a.den).bind λy0=>
         zzy n (y0 != 1)))))
def zzy:Nat->Bool->Ot Int
 |0,_=>none
 |n+1,a=>
  pIf a
   (some 8)
   (some 0)
end
def ye3:LSh:=⟨[(2,dI)],[],0,29,[]⟩
noncomputable def zp5:FI dat:=FI.of dat 230 29 0 [dT 3] [] [dI] [] true ye3 (R:=Int) Prod.fst (·,()) (λn=>u1 (zbj n))
 (λn=>[(0,⟨⟨[(28,dB)],[],0,29,[]⟩,u1 (zzy n)⟩)]) (anb [(5,0)] f230)
theorem ya9:FOk prog zp5:=okF (bs:=[zu8]) ⟨y79,trivial⟩ func230 ntmps230 call230
 (λ_ _=>tr (zbj.eq_2 ..))
 (λn=>⟨λ_=>tr (zzy.eq_2 _ n),
  trivial⟩)
mutual
def zaj:Nat->yz0->Ot Bool
 |0,_=>none
 |n+1,a=>
  pIf (a.kind==1)
   ((zbj n a.num).bind λy0=>
   pIf (y0==0)
    (pIf (!a.truth)
      (pIf ((a.str.length:Int)==0)
        (some ((a.list.length:Int)==0))
        (some false))
      (some false))
    (some false))
   (pIf (a.kind==2)
     (pIf ((a.num.num==0)&&((a.num.den==0)&&true))
       (pIf ((a.str.length:Int)==0)
         (some ((a.list.length:Int)==0))
         (some false))
       (some false))
     (pIf (a.kind==3)
       (pIf (!((a.num.num==0)&&((a.num.den==0)&&true)))
         (z06 n true a.re)
         (pIf a.truth
           (z06 n true a.re)
           (pIf (decide ((a.list.length:Int)>0))
             (z06 n true a.re)
             (z06 n (decide ((a.str.length:Int)>60)) a.re))))
       (pIf (a.kind==4)
         (pIf (!((a.num.num==0)&&((a.num.den==0)&&true)))
           (z1a n true a.re)
           (pIf a.truth
             (z1a n true a.re)
             (z1a n (decide ((a.str.length:Int)>0)) a.re)))
         (some false))))
def z06:Nat->Bool->yz0->Ot Bool
 |0,_,_=>none
 |n+1,a,b=>
  pIf a
   (some false)
   (z5v n 0 b.re)
def z5v:Nat->Int->yz0->Ot Bool
 |0,_,_=>none
 |n+1,a,b=>
  pIf (decide (a<(b.str.length:Int)))
   ((ix b.str a).bind λx1=>
   pIf (decide ((x1.toNat:Int)<32))
    (z60 n a true b.re)
    ((ix b.str a).bind λx2=>
    z60 n a (decide ((x2.toNat:Int)>126)) b.re))
   (some true)
def z60:Nat->Int->Bool->yz0->Ot Bool
 |0,_,_,_=>none
 |n+1,a,b,c=>
  pIf b
   (some false)
   (z5v n (IntKind.i64.wrap (a+1)) c.re)
def z1a:Nat->Bool->yz0->Ot Bool
 |0,_,_=>none
 |n+1,a,b=>
  pIf a
   (some false)
   (z5z n 0 b.re)
def z5z:Nat->Int->yz0->Ot Bool
 |0,_,_=>none
 |n+1,a,b=>
  pIf (decide (a<(b.list.length:Int)))
   ((ix b.list a).bind λx3=>
   (zaj n x3.re).bind λy4=>
   pIf (!y4)
    (some false)
    (z5z n (IntKind.i64.wrap (a+1)) b.re))
   (some true)
end
def yjq:LSh:=⟨[(2,dB)],[],0,121,[]⟩
noncomputable def zhg:FI dat:=FI.of dat 253 121 0 [dT 4] [] [dB] [] true yjq (R:=Bool) Prod.fst (·,()) (λn=>u1 (zaj n))
 (λn=>[(0,⟨⟨[(1,(.ptr 0 0)),(71,dB)],[(.st 4)],0,121,[]⟩,u2 (z06 n)⟩),(1,⟨⟨[(4,dI),(1,(.ptr 0 0))],[(.st 4)],0,121,[]⟩,u2 (z5v n)⟩),(2,⟨⟨[(1,(.ptr 0 0)),(4,dI),(90,dB)],[(.st 4)],0,121,[]⟩,u3 (z60 n)⟩),(3,⟨⟨[(1,(.ptr 0 0)),(106,dB)],[(.st 4)],0,121,[]⟩,u2 (z1a n)⟩),(4,⟨⟨[(5,dI),(1,(.ptr 0 0))],[(.st 4)],0,121,[]⟩,u2 (z5z n)⟩)]) (anb [(26,0),(35,1),(46,2),(61,3),(70,4)] f253)
noncomputable def ygz:List (FI dat):=[zhg]++[zp5]
theorem yif:(zhg).Good prog dat (tb ygz):=FI.z1c (hD:=kza _) func253 ntmps253 call253 (by kernel_rfl) (Qac (by kernel_rfl)) (by kernel_rfl) (λn=>by kernel_rfl) (λx=>by kernel_rfl) (λ_=>rfl) ⟨λ_=>rfl,λ_=>rfl,λ_=>rfl,λ_=>rfl,λ_=>rfl,trivial⟩
 (λ_ _=>tr (zaj.eq_2 ..))
 (λn=>⟨λ_=>tr (z06.eq_2 ..),
  λ_=>tr (z5v.eq_2 ..),
  λ_=>tr (z60.eq_2 ..),
  λ_=>tr (z1a.eq_2 ..),
  λ_=>tr (z5z.eq_2 ..),
  trivial⟩)
 (λx=>.inl rfl)
theorem yiz:OkL prog [zhg]:=z7m (kza _) (bs:=[zp5]) ⟨ya9,trivial⟩ ⟨yif,trivial⟩
theorem yf9:FOk prog zhg:=yiz.1
mutual
def zbb:Nat->yz0->Ot Int
 |0,_=>none
 |n+1,a=>
  (z73 n a.re).bind λy0=>
  pIf (decide (y0>100))
   (z4g n true a.re)
   ((zal n a.re).bind λy1=>
   z4g n (decide (y1>6)) a.re)
def z4g:Nat->Bool->yz0->Ot Int
 |0,_,_=>none
 |n+1,a,b=>
  pIf a
   (some 4)
   ((zaj n b.re).bind λy2=>
   pIf (!y2)
    (some 8)
    (some 0))
end
def yd5:LSh:=⟨[(2,dI)],[],0,14,[]⟩
noncomputable def zp9:FI dat:=FI.of dat 220 14 0 [dT 4] [] [dI] [] true yd5 (R:=Int) Prod.fst (·,()) (λn=>u1 (zbb n))
 (λn=>[(0,⟨⟨[(1,(.ptr 0 0)),(10,dB)],[(.st 4)],0,14,[]⟩,u2 (z4g n)⟩)]) (anb [(5,0)] f220)
theorem ybw:FOk prog zp9:=okF (bs:=[zd5,zhp,zhg]) ⟨zur,yd4,yf9,trivial⟩ func220 ntmps220 call220
 (λ_ _=>tr (zbb.eq_2 ..))
 (λn=>⟨λ_=>tr (z4g.eq_2 ..),
  trivial⟩)
mutual
def z3i:Nat->yz0->yz0->Ot Bool
 |0,_,_=>none
 |n+1,a,b=>
  pIf (a.kind != b.kind)
   (z0b n true b.re a.re)
   (pIf (!((a.num.num==b.num.num)&&((a.num.den==b.num.den)&&true)))
     (z0b n true b.re a.re)
     (pIf (!(a.truth==b.truth))
       (z0b n true b.re a.re)
       (pIf (!(a.str==b.str))
         (z0b n true b.re a.re)
         (z0b n ((a.list.length:Int) != (b.list.length:Int)) b.re a.re))))
def z0b:Nat->Bool->yz0->yz0->Ot Bool
 |0,_,_,_=>none
 |n+1,a,b,c=>
  pIf a
   (some false)
   (z5l n 0 b.re c.re)
def z5l:Nat->Int->yz0->yz0->Ot Bool
 |0,_,_,_=>none
 |n+1,a,b,c=>
  pIf (decide (a<(c.list.length:Int)))
   ((ix c.list a).bind λx0=>
   (ix b.list a).bind λx1=>
   (z3i n x0.re x1.re).bind λy2=>
   pIf (!y2)
    (some false)
    (z5l n (IntKind.i64.wrap (a+1)) b.re c.re))
   (some true)
end
def yjd:LSh:=⟨[(4,dB)],[],0,60,[]⟩
noncomputable def zep:FI dat:=FI.of dat 141 60 0 [dT 4,dT 4] [] [dB] [] true yjd (R:=Bool) Prod.fst (·,()) (λn=>u2 (z3i n))
 (λn=>[(0,⟨⟨[(3,(.ptr 0 0)),(2,(.ptr 1 0)),(40,dB)],[(.st 4),(.st 4)],0,60,[]⟩,u3 (z0b n)⟩),(1,⟨⟨[(5,dI),(3,(.ptr 0 0)),(2,(.ptr 1 0))],[(.st 4),(.st 4)],0,60,[]⟩,u3 (z5l n)⟩)]) (anb [(5,0),(14,1)] f141)
noncomputable def yir:List (FI dat):=[zep]++[]
theorem yk7:(zep).Good prog dat (tb yir):=FI.z1c (hD:=kza _) func141 ntmps141 call141 (by kernel_rfl) (Qac (by kernel_rfl)) (by kernel_rfl) (λn=>by kernel_rfl) (λx=>by kernel_rfl) (λ_=>rfl) ⟨λ_=>rfl,λ_=>rfl,trivial⟩
 (λ_ _=>tr (z3i.eq_2 ..))
 (λn=>⟨λ_=>tr (z0b.eq_2 ..),
  λ_=>tr (z5l.eq_2 ..),
  trivial⟩)
 (λx=>.inl rfl)
theorem yjr:OkL prog [zep]:=z7m (kza _) (bs:=[]) trivial ⟨yk7,trivial⟩
theorem yfl:FOk prog zep:=yjr.1
def zb6:Nat->B8->Ot Bool
 |0,_=>none
 |n+1,a=>
  (zan n a).bind λy0=>
  pIf y0
   (pIf (!(a==[116,114,117,101]))
     (some (!(a==[102,97,108,115,101])))
     (some false))
   (some false)
def ydi:LSh:=⟨[(2,dB)],[],0,13,[]⟩
noncomputable def zpe:FI dat:=FI.of dat 221 13 0 [dS] [] [dB] [] true ydi (R:=Bool) Prod.fst (·,()) (λn=>u1 (zb6 n))
 (λn=>[]) (anb [] f221)
theorem yai:FOk prog zpe:=okF (bs:=[zs5]) ⟨zyn,trivial⟩ func221 ntmps221 call221
 (λ_ _=>tr (zb6.eq_2 ..))
 (λn=>trivial)
mutual
def zav:Nat->yz1->Ot Bool
 |0,_=>none
 |n+1,a=>
  (zcy n a.op).bind λy0=>
  pIf (y0==(-2))
   (z2w n true a.re)
   (pIf (decide (y0>=0))
     (z2w n ((a.args.length:Int) != y0) a.re)
     (z2w n false a.re))
def z2w:Nat->Bool->yz1->Ot Bool
 |0,_,_=>none
 |n+1,a,b=>
  pIf a
   (some false)
   (pIf (b.op==1)
     ((zbb n b.value.re).bind λy1=>
     pIf (y1 != 0)
      (yzw n true b.re)
      (pIf (b.value.kind==4)
        (yzw n true b.re)
        (pIf (b.op != 1)
          ((z3i n b.value.re (yz0.mk 0 (zz4.mk 0 0) false [] [])).bind λy2=>
          yzw n (!y2) b.re)
          (yzw n false b.re))))
     (pIf (b.op != 1)
       ((z3i n b.value.re (yz0.mk 0 (zz4.mk 0 0) false [] [])).bind λy3=>
       yzw n (!y3) b.re)
       (yzw n false b.re)))
def yzw:Nat->Bool->yz1->Ot Bool
 |0,_,_=>none
 |n+1,a,b=>
  pIf a
   (some false)
   (pIf (b.op==2)
     ((zb6 n b.name).bind λy4=>
     pIf (!y4)
      (z08 n true b.re)
      (pIf (b.op != 2)
        (z08 n (decide ((b.name.length:Int)>0)) b.re)
        (z08 n false b.re)))
     (pIf (b.op != 2)
       (z08 n (decide ((b.name.length:Int)>0)) b.re)
       (z08 n false b.re)))
def z08:Nat->Bool->yz1->Ot Bool
 |0,_,_=>none
 |n+1,a,b=>
  pIf a
   (some false)
   (z5m n 0 b.re)
def z5m:Nat->Int->yz1->Ot Bool
 |0,_,_=>none
 |n+1,a,b=>
  pIf (decide (a<(b.args.length:Int)))
   ((ix b.args a).bind λx5=>
   (zav n x5.re).bind λy6=>
   pIf (!y6)
    (some false)
    (z5m n (IntKind.i64.wrap (a+1)) b.re))
   (some true)
end
def yhh:LSh:=⟨[(2,dB)],[],0,82,[]⟩
noncomputable def zhk:FI dat:=FI.of dat 177 82 0 [dT 5] [] [dB] [] true yhh (R:=Bool) Prod.fst (·,()) (λn=>u1 (zav n))
 (λn=>[(0,⟨⟨[(1,(.ptr 0 0)),(20,dB)],[(.st 5)],0,82,[]⟩,u2 (z2w n)⟩),(1,⟨⟨[(1,(.ptr 0 0)),(47,dB)],[(.st 5)],0,82,[]⟩,u2 (yzw n)⟩),(2,⟨⟨[(1,(.ptr 0 0)),(67,dB)],[(.st 5)],0,82,[]⟩,u2 (z08 n)⟩),(3,⟨⟨[(4,dI),(1,(.ptr 0 0))],[(.st 5)],0,82,[]⟩,u2 (z5m n)⟩)]) (anb [(7,0),(15,1),(23,2),(32,3)] f177)
noncomputable def ykm:List (FI dat):=[zhk]++[zsw,zp9,zep,zpe]
theorem yi4:(zhk).Good prog dat (tb ykm):=FI.z1c (hD:=kza _) func177 ntmps177 call177 (by kernel_rfl) (Qac (by kernel_rfl)) (by kernel_rfl) (λn=>by kernel_rfl) (λx=>by kernel_rfl) (λ_=>rfl) ⟨λ_=>rfl,λ_=>rfl,λ_=>rfl,λ_=>rfl,trivial⟩
 (λ_ _=>tr (zav.eq_2 ..))
 (λn=>⟨λ_=>tr (z2w.eq_2 ..),
  λ_=>tr (yzw.eq_2 ..),
  λ_=>tr (z08.eq_2 ..),
  λ_=>tr (z5m.eq_2 ..),
  trivial⟩)
 (λx=>.inl rfl)
theorem yh7:OkL prog [zhk]:=z7m (kza _) (bs:=[zsw,zp9,zep,zpe]) ⟨ydr,ybw,yfl,yai,trivial⟩ ⟨yi4,trivial⟩
theorem yen:FOk prog zhk:=yh7.1
mutual
def z0t:Nat->yz1->Ot Int
 |0,_=>none
 |n+1,a=>
  (z6z n a.re).bind λy0=>
  pIf (decide (y0>100))
   (z43 n true a.re)
   ((zat n a.re).bind λy1=>
   z43 n (decide (y1>12)) a.re)
def z43:Nat->Bool->yz1->Ot Int
 |0,_,_=>none
 |n+1,a,b=>
  pIf a
   (some 4)
   ((zav n b.re).bind λy2=>
   pIf (!y2)
    (some 8)
    (some 0))
end
def yfm:LSh:=⟨[(2,dI)],[],0,14,[]⟩
noncomputable def zix:FI dat:=FI.of dat 115 14 0 [dT 5] [] [dI] [] true yfm (R:=Int) Prod.fst (·,()) (λn=>u1 (z0t n))
 (λn=>[(0,⟨⟨[(1,(.ptr 0 0)),(10,dB)],[(.st 5)],0,14,[]⟩,u2 (z43 n)⟩)]) (anb [(5,0)] f115)
theorem zmu:FOk prog zix:=okF (bs:=[zd0,zh3,zhk]) ⟨zuo,ycz,yen,trivial⟩ func115 ntmps115 call115
 (λ_ _=>tr (z0t.eq_2 ..))
 (λn=>⟨λ_=>tr (z43.eq_2 ..),
  trivial⟩)
mutual
def zc5:Nat->Int->Ot Int
 |0,_=>none
 |n+1,a=>
  pIf (a==2)
   (z7v n a true)
   (z7v n a (a==3))
def z7v:Nat->Int->Bool->Ot Int
 |0,_,_=>none
 |n+1,a,b=>
  pIf b
   (some 3)
   (pIf (a==4)
     (z7x n true)
     (z7x n (a==6)))
def z7x:Nat->Bool->Ot Int
 |0,_=>none
 |n+1,a=>
  pIf a
   (some 1)
   (some 0)
end
def ylj:LSh:=⟨[(2,dI)],[],0,10,[]⟩
noncomputable def zw6:FI dat:=FI.of dat 121 10 0 [dU] [] [dI] [] true ylj (R:=Int) Prod.fst (·,()) (λn=>u1 (zc5 n))
 (λn=>[(0,⟨⟨[(3,dU),(4,dB)],[],0,10,[]⟩,u2 (z7v n)⟩),(1,⟨⟨[(7,dB)],[],0,10,[]⟩,u1 (z7x n)⟩)]) (anb [(12,0),(22,1)] f121)
theorem y1v:FOk prog zw6:=okF (bs:=[]) trivial func121 ntmps121 call121
 (λ_ _=>tr (zc5.eq_2 ..))
 (λn=>⟨λ_=>tr (z7v.eq_2 ..),
  λ_=>tr (z7x.eq_2 _ n),
  trivial⟩)
mutual
def z9o:Nat->kz3->Ot Bool
 |0,_=>none
 |n+1,a=>
  pIf (decide (a.kind<1))
   (yzz n true a)
   (pIf (decide (a.kind>6))
     (yzz n true a)
     ((z3f n a.args).bind λy0=>
     (z0t n y0.re).bind λy1=>
     pIf (y1 != 0)
      (yzz n true a)
      ((zc5 n a.kind).bind λy2=>
      yzz n (decide ((a.args.length:Int)<y2)) a)))
def yzz:Nat->Bool->kz3->Ot Bool
 |0,_,_=>none
 |n+1,a,b=>
  pIf a
   (some false)
   (pIf (b.kind==4)
     (z2n n true b)
     (z2n n (b.kind==5) b))
def z2n:Nat->Bool->kz3->Ot Bool
 |0,_,_=>none
 |n+1,a,b=>
  pIf a
   (pIf (decide (b.axis>2))
     (some false)
     (z2h n b))
   (pIf (b.axis != 0)
     (some false)
     (z2h n b))
def z2h:Nat->kz3->Ot Bool
 |0,_=>none
 |n+1,a=>
  pIf (a.kind==5)
   (z64 n true a)
   (z64 n (a.kind==6) a)
def z64:Nat->Bool->kz3->Ot Bool
 |0,_,_=>none
 |n+1,a,b=>
  pIf a
   (pIf (decide ((b.name.length:Int)>0))
     (kzn n true b)
     (pIf (b.kind==5)
       (pIf (decide ((b.args.length:Int)>0))
         (kzn n true b)
         (pIf (b.kind==6)
           (kzn n (decide ((b.args.length:Int)>1)) b)
           (kzn n false b)))
       (pIf (b.kind==6)
         (kzn n (decide ((b.args.length:Int)>1)) b)
         (kzn n false b))))
   ((z3g n b.name).bind λy3=>
   pIf (!y3)
    (some false)
    (z2t n b))
def kzn:Nat->Bool->kz3->Ot Bool
 |0,_,_=>none
 |n+1,a,b=>
  pIf a
   (some false)
   (z2t n b)
def z2t:Nat->kz3->Ot Bool
 |0,_=>none
 |n+1,a=>
  pIf (!((a.kind==5)==(decide ((a.items.length:Int)>0))))
   (some false)
   (z16 n 0 a)
def z16:Nat->Int->kz3->Ot Bool
 |0,_,_=>none
 |n+1,a,b=>
  pIf (decide (a<(b.items.length:Int)))
   ((ix b.items a).bind λx4=>
   pIf (decide (x4.kind<1))
    (yzs n a true b)
    (pIf (decide (x4.kind>3))
      (yzs n a true b)
      ((z3g n x4.name).bind λy5=>
      pIf (!y5)
       (yzs n a true b)
       (pIf ((x4.args.length:Int)==0)
         (yzs n a true b)
         ((z3f n x4.args).bind λy6=>
         (z0t n y6.re).bind λy7=>
         yzs n a (y7 != 0) b)))))
   (some true)
def yzs:Nat->Int->Bool->kz3->Ot Bool
 |0,_,_,_=>none
 |n+1,a,b,c=>
  pIf b
   (some false)
   (z16 n (IntKind.i64.wrap (a+1)) c)
end
def y9d:LSh:=⟨[(2,dB)],[],0,128,[]⟩
noncomputable def zva:FI dat:=FI.of dat 116 128 0 [dT 8] [] [dB] [] true y9d (R:=Bool) Prod.fst (·,()) (λn=>u1 (z9o n))
 (λn=>[(0,⟨⟨[(1,(.ptr 0 0)),(28,dB)],[(.st 8)],0,128,[]⟩,u2 (yzz n)⟩),(1,⟨⟨[(1,(.ptr 0 0)),(36,dB)],[(.st 8)],0,128,[]⟩,u2 (z2n n)⟩),(2,⟨⟨[(1,(.ptr 0 0))],[(.st 8)],0,128,[]⟩,u1 (z2h n)⟩),(3,⟨⟨[(1,(.ptr 0 0)),(50,dB)],[(.st 8)],0,128,[]⟩,u2 (z64 n)⟩),(4,⟨⟨[(1,(.ptr 0 0)),(76,dB)],[(.st 8)],0,128,[]⟩,u2 (kzn n)⟩),(5,⟨⟨[(1,(.ptr 0 0))],[(.st 8)],0,128,[]⟩,u1 (z2t n)⟩),(6,⟨⟨[(3,dI),(1,(.ptr 0 0))],[(.st 8)],0,128,[]⟩,u2 (z16 n)⟩),(7,⟨⟨[(1,(.ptr 0 0)),(3,dI),(127,dB)],[(.st 8)],0,128,[]⟩,u3 (yzs n)⟩)]) (anb [(5,0),(13,1),(28,2),(31,3),(34,4),(46,5),(58,6),(71,7)] f116)
theorem y7c:FOk prog zva:=okF (bs:=[zrx,zix,zw6,zsz]) ⟨zyo,zmu,y1v,zyd,trivial⟩ func116 ntmps116 call116
 (λ_ _=>tr (z9o.eq_2 ..))
 (λn=>⟨λ_=>tr (yzz.eq_2 ..),
  λ_=>tr (z2n.eq_2 ..),
  λ_=>tr (z2h.eq_2 ..),
  λ_=>tr (z64.eq_2 ..),
  λ_=>tr (kzn.eq_2 ..),
  λ_=>tr (z2t.eq_2 ..),
  λ_=>tr (z16.eq_2 ..),
  λ_=>tr (yzs.eq_2 ..),
  trivial⟩)
mutual
def z9q:Nat->kz0->Ot Bool
 |0,_=>none
 |n+1,a=>
  z0u n 0 a
def z0u:Nat->Int->kz0->Ot Bool
 |0,_,_=>none
 |n+1,a,b=>
  pIf (decide (a<(b.attrs.length:Int)))
   ((ix b.attrs a).bind λx0=>
   (z3g n x0.name).bind λy1=>
   pIf (!y1)
    (z2i n a true b)
    ((ix b.attrs a).bind λx2=>
    (z0t n x2.value.re).bind λy3=>
    z2i n a (y3 != 0) b))
   (z0z n 0 b)
def z2i:Nat->Int->Bool->kz0->Ot Bool
 |0,_,_,_=>none
 |n+1,a,b,c=>
  pIf b
   (some false)
   (z0u n (IntKind.i64.wrap (a+1)) c)
def z0z:Nat->Int->kz0->Ot Bool
 |0,_,_=>none
 |n+1,a,b=>
  pIf (decide (a<(b.rules.length:Int)))
   ((ix b.rules a).bind λx4=>
   (z3g n x4.name).bind λy5=>
   pIf (!y5)
    (some false)
    (z0y n 0 a x4 b))
   (some true)
def z0y:Nat->Int->Int->zz6->kz0->Ot Bool
 |0,_,_,_,_=>none
 |n+1,a,b,c,d=>
  pIf (decide (a<(c.params.length:Int)))
   ((ix c.params a).bind λx6=>
   (z3g n x6).bind λy7=>
   pIf (!y7)
    (some false)
    (z0y n (IntKind.i64.wrap (a+1)) b c d))
   (z0w n 0 b c d)
def z0w:Nat->Int->Int->zz6->kz0->Ot Bool
 |0,_,_,_,_=>none
 |n+1,a,b,c,d=>
  pIf (decide (a<(c.cases.length:Int)))
   ((ix c.cases a).bind λx8=>
   pIf (decide (x8.weight<1))
    (z15 n b a true x8.re c d)
    (pIf (decide (x8.weight>1000000))
      (z15 n b a true x8.re c d)
      ((z0t n x8.when_.re).bind λy9=>
      z15 n b a (y9 != 0) x8.re c d)))
   (z0z n (IntKind.i64.wrap (b+1)) d)
def z15:Nat->Int->Int->Bool->kz5->zz6->kz0->Ot Bool
 |0,_,_,_,_,_,_=>none
 |n+1,a,b,c,d,e,f=>
  pIf c
   (some false)
   (z13 n 0 a b d.re e f)
def z13:Nat->Int->Int->Int->kz5->zz6->kz0->Ot Bool
 |0,_,_,_,_,_,_=>none
 |n+1,a,b,c,d,e,f=>
  pIf (decide (a<(d.do_.length:Int)))
   ((ix d.do_ a).bind λx10=>
   (z9o n x10).bind λy11=>
   pIf (!y11)
    (some false)
    (z13 n (IntKind.i64.wrap (a+1)) b c d.re e f))
   (z0w n (IntKind.i64.wrap (c+1)) b e f)
end
def ybs:LSh:=⟨[(2,dB)],[],0,105,[]⟩
noncomputable def zv9:FI dat:=FI.of dat 53 105 0 [dT 11] [] [dB] [] true ybs (R:=Bool) Prod.fst (·,()) (λn=>u1 (z9q n))
 (λn=>[(0,⟨⟨[(3,dI),(1,(.ptr 0 0))],[(.st 11)],0,105,[]⟩,u2 (z0u n)⟩),(1,⟨⟨[(1,(.ptr 0 0)),(3,dI),(34,dB)],[(.st 11)],0,105,[]⟩,u3 (z2i n)⟩),(2,⟨⟨[(4,dI),(1,(.ptr 0 0))],[(.st 11)],0,105,[]⟩,u2 (z0z n)⟩),(3,⟨⟨[(6,dI),(5,(.ptr 0 0)),(1,(.ptr 1 0)),(4,dI)],[(.st 10),(.st 11)],0,105,[]⟩,u4 (z0y n)⟩),(4,⟨⟨[(7,dI),(5,(.ptr 0 0)),(1,(.ptr 1 0)),(4,dI)],[(.st 10),(.st 11)],0,105,[]⟩,u4 (z0w n)⟩),(5,⟨⟨[(8,(.ptr 0 0)),(5,(.ptr 1 0)),(1,(.ptr 2 0)),(4,dI),(7,dI),(90,dB)],[(.st 9),(.st 10),(.st 11)],0,105,[]⟩,u6 (z15 n)⟩),(6,⟨⟨[(9,dI),(8,(.ptr 0 0)),(5,(.ptr 1 0)),(1,(.ptr 2 0)),(4,dI),(7,dI)],[(.st 9),(.st 10),(.st 11)],0,105,[]⟩,u6 (z13 n)⟩)]) (anb [(6,0),(17,1),(27,2),(50,3),(70,4),(84,5),(92,6)] f53)
theorem y7h:FOk prog zv9:=okF (bs:=[zsz,zix,zva]) ⟨zyd,zmu,y7c,trivial⟩ func53 ntmps53 call53
 (λ_ _=>tr (z9q.eq_2 ..))
 (λn=>⟨λ_=>tr (z0u.eq_2 ..),
  λ_=>tr (z2i.eq_2 ..),
  λ_=>tr (z0z.eq_2 ..),
  λ_=>tr (z0y.eq_2 ..),
  λ_=>tr (z0w.eq_2 ..),
  λ_=>tr (z15.eq_2 ..),
  λ_=>tr (z13.eq_2 ..),
  trivial⟩)
mutual
def z71:Nat->kz0->Ot (List B8)
 |0,_=>none
 |n+1,a=>
  z4p n 0 a []
def z4p:Nat->Int->kz0->(List B8)->Ot (List B8)
 |0,_,_,_=>none
 |n+1,a,b,c=>
  pIf (decide (a<(b.attrs.length:Int)))
   ((ix b.attrs a).bind λx0=>
   (ext c [x0.name]).bind λx1=>
   z4p n (IntKind.i64.wrap (a+1)) b x1)
   (some c)
end
def ye6:LSh:=⟨[(2,dA)],[],0,22,[]⟩
noncomputable def zpj:FI dat:=FI.of dat 118 22 0 [dT 11] [] [dA] [] true ye6 (R:=List B8) Prod.fst (·,()) (λn=>u1 (z71 n))
 (λn=>[(0,⟨⟨[(4,dI),(1,(.ptr 0 0)),(3,(.own 1))],[(.st 11),(.acc 9 .str true)],0,22,[]⟩,u3 (z4p n)⟩)]) (anb [(8,0)] f118)
theorem zu4:FOk prog zpj:=okF (bs:=[]) trivial func118 ntmps118 call118
 (λ_ _=>tr (z71.eq_2 ..))
 (λn=>⟨λ_=>tr (z4p.eq_2 ..),
  trivial⟩)
mutual
def z4t:Nat->(List B8)->B8->Ot Int
 |0,_,_=>none
 |n+1,a,b=>
  zb4 n 0 b a
def zb4:Nat->Int->B8->(List B8)->Ot Int
 |0,_,_,_=>none
 |n+1,a,b,c=>
  pIf (decide (a<(c.length:Int)))
   ((ix c a).bind λx0=>
   pIf (x0==b)
    (some a)
    (zb4 n (IntKind.i64.wrap (a+1)) b c))
   (some (-1))
end
def yq6:LSh:=⟨[(4,dI)],[],0,19,[]⟩
noncomputable def zin:FI dat:=FI.of dat 18 19 0 [dA,dS] [] [dI] [] true yq6 (R:=Int) Prod.fst (·,()) (λn=>u2 (z4t n))
 (λn=>[(0,⟨⟨[(5,dI),(1,dS),(0,dA)],[],0,19,[]⟩,u3 (zb4 n)⟩)]) (anb [(6,0)] f18)
theorem zjj:FOk prog zin:=okF (bs:=[]) trivial func18 ntmps18 call18
 (λ_ _=>tr (z4t.eq_2 ..))
 (λn=>⟨λ_=>tr (zb4.eq_2 ..),
  trivial⟩)
mutual
def z9b:Nat->(List B8)->Ot Bool
 |0,_=>none
 |n+1,a=>
  z4i n 0 a
def z4i:Nat->Int->(List B8)->Ot Bool
 |0,_,_=>none
 |n+1,a,b=>
  pIf (decide (a<(b.length:Int)))
   ((ix b a).bind λx0=>
   (z4t n b x0).bind λy1=>
   pIf (decide (y1<a))
    (some true)
    (z4i n (IntKind.i64.wrap (a+1)) b))
   (some false)
end
def yf5:LSh:=⟨[(2,dB)],[],0,18,[]⟩
noncomputable def zy7:FI dat:=FI.of dat 117 18 0 [dA] [] [dB] [] true yf5 (R:=Bool) Prod.fst (·,()) (λn=>u1 (z9b n))
 (λn=>[(0,⟨⟨[(3,dI),(0,dA)],[],0,18,[]⟩,u2 (z4i n)⟩)]) (anb [(6,0)] f117)
theorem yah:FOk prog zy7:=okF (bs:=[zin]) ⟨zjj,trivial⟩ func117 ntmps117 call117
 (λ_ _=>tr (z9b.eq_2 ..))
 (λn=>⟨λ_=>tr (z4i.eq_2 ..),
  trivial⟩)
mutual
def z77:Nat->kz0->Ot (List B8)
 |0,_=>none
 |n+1,a=>
  z3p n 0 a []
def z3p:Nat->Int->kz0->(List B8)->Ot (List B8)
 |0,_,_,_=>none
 |n+1,a,b,c=>
  pIf (decide (a<(b.rules.length:Int)))
   ((ix b.rules a).bind λx0=>
   (ext c [x0.name]).bind λx1=>
   z3p n (IntKind.i64.wrap (a+1)) b x1)
   (some c)
end
def ycq:LSh:=⟨[(2,dA)],[],0,22,[]⟩
noncomputable def zj6:FI dat:=FI.of dat 57 22 0 [dT 11] [] [dA] [] true ycq (R:=List B8) Prod.fst (·,()) (λn=>u1 (z77 n))
 (λn=>[(0,⟨⟨[(4,dI),(1,(.ptr 0 0)),(3,(.own 1))],[(.st 11),(.acc 9 .str true)],0,22,[]⟩,u3 (z3p n)⟩)]) (anb [(8,0)] f57)
theorem zm7:FOk prog zj6:=okF (bs:=[]) trivial func57 ntmps57 call57
 (λ_ _=>tr (z77.eq_2 ..))
 (λn=>⟨λ_=>tr (z3p.eq_2 ..),
  trivial⟩)
mutual
def z94:Nat->B8->(List B8)->Ot (Int×(List B8))
 |0,_,_=>none
 |n+1,a,b=>
  yzx n 0 a b
def yzx:Nat->Int->B8->(List B8)->Ot (Int×(List B8))
 |0,_,_,_=>none
 |n+1,a,b,c=>
  pIf (decide (a<(c.length:Int)))
   ((ix c a).bind λx0=>
   pIf (x0==b)
    (some (a,c))
    (yzx n (IntKind.i64.wrap (a+1)) b c))
   (some ((-1),c))
end
def ydb:LSh:=⟨[(4,dI)],[(.acc 9 .str true)],1,19,[]⟩
noncomputable def zpo:FI dat:=FI.of dat 18 19 1 [(.own 0),dS] [(.acc 9 .str true)] [dI] [(.acc 9 .str true)] false ydb (R:=Int×(List B8)) (λx=>(x.1,x.2.1)) (λr=>(r.1,r.2,())) (λn=>u2 (z94 n))
 (λn=>[(0,⟨⟨[(5,dI),(1,dS),(0,(.own 0))],[(.acc 9 .str true)],1,19,[]⟩,u3 (yzx n)⟩)]) (anb [(6,0)] f18)
theorem zut:FOk prog zpo:=okF (bs:=[]) trivial func18 ntmps18 call18
 (λ_ _=>tr (z94.eq_2 ..))
 (λn=>⟨λ_=>tr (yzx.eq_2 ..),
  trivial⟩)
mutual
def z7i:Nat->(List B8)->Ot (Bool×(List B8))
 |0,_=>none
 |n+1,a=>
  z14 n 0 a
def z14:Nat->Int->(List B8)->Ot (Bool×(List B8))
 |0,_,_=>none
 |n+1,a,b=>
  pIf (decide (a<(b.length:Int)))
   ((ix b a).bind λx0=>
   (z94 n x0 b).bind λy1=>
   pIf (decide (y1.1<a))
    (some (true,y1.2))
    (z14 n (IntKind.i64.wrap (a+1)) y1.2))
   (some (false,b))
end
def y3z:LSh:=⟨[(2,dB)],[(.acc 9 .str true)],1,18,[]⟩
noncomputable def zpq:FI dat:=FI.of dat 117 18 1 [(.own 0)] [(.acc 9 .str true)] [dB] [(.acc 9 .str true)] false y3z (R:=Bool×(List B8)) (λx=>(x.1,x.2.1)) (λr=>(r.1,r.2,())) (λn=>u1 (z7i n))
 (λn=>[(0,⟨⟨[(3,dI),(0,(.own 0))],[(.acc 9 .str true)],1,18,[]⟩,u2 (z14 n)⟩)]) (anb [(6,0)] f117)
theorem y24:FOk prog zpq:=okF (bs:=[zpo]) ⟨zut,trivial⟩ func117 ntmps117 call117
 (λ_ _=>tr (z7i.eq_2 ..))
 (λn=>⟨λ_=>tr (z14.eq_2 ..),
  trivial⟩)
mutual
def z8t:Nat->kz0->Ot Bool
 |0,_=>none
 |n+1,a=>
  (z71 n a).bind λy0=>
  (z9b n y0).bind λy1=>
  pIf y1
   (z1k n true a)
   ((z77 n a).bind λy2=>
   (z9b n y2).bind λy3=>
   z1k n y3 a)
def z1k:Nat->Bool->kz0->Ot Bool
 |0,_,_=>none
 |n+1,a,b=>
  pIf a
   (some true)
   (z0d n 0 b)
def z0d:Nat->Int->kz0->Ot Bool
 |0,_,_=>none
 |n+1,a,b=>
  pIf (decide (a<(b.rules.length:Int)))
   ((ix b.rules a).bind λx4=>
   (ext [] x4.params).bind λx5=>
   (z71 n b).bind λy6=>
   (ext x5 y6).bind λx7=>
   (z7i n x7).bind λy8=>
   pIf y8.1
    (some true)
    (z0d n (IntKind.i64.wrap (a+1)) b))
   (some false)
end
def y6o:LSh:=⟨[(2,dB)],[],0,31,[]⟩
noncomputable def ztc:FI dat:=FI.of dat 54 31 0 [dT 11] [] [dB] [] true y6o (R:=Bool) Prod.fst (·,()) (λn=>u1 (z8t n))
 (λn=>[(0,⟨⟨[(1,(.ptr 0 0)),(11,dB)],[(.st 11)],0,31,[]⟩,u2 (z1k n)⟩),(1,⟨⟨[(3,dI),(1,(.ptr 0 0))],[(.st 11)],0,31,[]⟩,u2 (z0d n)⟩)]) (anb [(5,0),(14,1)] f54)
theorem y46:FOk prog ztc:=okF (bs:=[zpq,zpj,zy7,zj6]) ⟨y24,zu4,yah,zm7,trivial⟩ func54 ntmps54 call54
 (λ_ _=>tr (z8t.eq_2 ..))
 (λn=>⟨λ_=>tr (z1k.eq_2 ..),
  λ_=>tr (z0d.eq_2 ..),
  trivial⟩)
mutual
def zam:Nat->yz1->(List B8)->Ot (List B8)
 |0,_,_=>none
 |n+1,a,b=>
  pIf (a.op==2)
   (z2v n 0 a.re b)
   (z2x n b a.re)
def z2v:Nat->Int->yz1->(List B8)->Ot (List B8)
 |0,_,_,_=>none
 |n+1,a,b,c=>
  pIf (decide (a<(c.length:Int)))
   ((ix c a).bind λx0=>
   z61 n a (Op.bytesLess x0 b.name) b.re c)
   (z61 n a false b.re c)
def z61:Nat->Int->Bool->yz1->(List B8)->Ot (List B8)
 |0,_,_,_,_=>none
 |n+1,a,b,c,d=>
  pIf b
   (z2v n (IntKind.i64.wrap (a+1)) c.re d)
   (pIf (a==(d.length:Int))
     (z5g n a true c.re d)
     ((ix d a).bind λx1=>
     z5g n a (!(x1==c.name)) c.re d))
def z5g:Nat->Int->Bool->yz1->(List B8)->Ot (List B8)
 |0,_,_,_,_=>none
 |n+1,a,b,c,d=>
  pIf b
   ((ext d [[]]).bind λx4=>
   (yl8 x4 (IntKind.i64.wrap (a+1))).bind λx5=>
   (yl8 x4 a).bind λx6=>
   (y0n x4 (IntKind.i64.wrap (a+1)) a).bind λx7=>
   (ix x7 a).bind λx8=>
   z2x n (x7.set (Int.toNat a) c.name) c.re)
   (z2x n d c.re)
def z2x:Nat->(List B8)->yz1->Ot (List B8)
 |0,_,_=>none
 |n+1,a,b=>
  z6f n 0 a b.re
def z6f:Nat->Int->(List B8)->yz1->Ot (List B8)
 |0,_,_,_=>none
 |n+1,a,b,c=>
  pIf (decide (a<(c.args.length:Int)))
   ((ix c.args a).bind λx2=>
   (zam n x2.re b).bind λy3=>
   z6f n (IntKind.i64.wrap (a+1)) y3 c.re)
   (some b)
end
def yk5:LSh:=⟨[(4,(.own 0))],[(.acc 9 .str true)],0,69,[]⟩
noncomputable def zhn:FI dat:=FI.of dat 222 69 0 [dT 5,(.own 0)] [(.acc 9 .str true)] [(.own 0)] [(.acc 9 .str true)] false yk5 (R:=List B8) Prod.fst (·,()) (λn=>u2 (zam n))
 (λn=>[(0,⟨⟨[(5,dI),(2,(.ptr 0 0)),(1,(.own 1))],[(.st 5),(.acc 9 .str true)],0,69,[]⟩,u3 (z2v n)⟩),(1,⟨⟨[(2,(.ptr 0 0)),(1,(.own 1)),(5,dI),(22,dB)],[(.st 5),(.acc 9 .str true)],0,69,[]⟩,u4 (z61 n)⟩),(2,⟨⟨[(2,(.ptr 0 0)),(5,dI),(1,(.own 1)),(37,dB)],[(.st 5),(.acc 9 .str true)],0,69,[]⟩,u4 (z5g n)⟩),(3,⟨⟨[(1,(.own 0)),(2,(.ptr 1 0))],[(.acc 9 .str true),(.st 5)],0,69,[]⟩,u2 (z2x n)⟩),(4,⟨⟨[(6,dI),(1,(.own 0)),(2,(.ptr 1 0))],[(.acc 9 .str true),(.st 5)],0,69,[]⟩,u3 (z6f n)⟩)]) (anb [(10,0),(14,1),(21,2),(29,3),(33,4)] f222)
noncomputable def yi7:List (FI dat):=[zhn]++[]
theorem yht:(zhn).Good prog dat (tb yi7):=FI.z1c (hD:=kza _) func222 ntmps222 call222 (by kernel_rfl) (Qac (by kernel_rfl)) (by kernel_rfl) (λn=>by kernel_rfl) (λx=>by kernel_rfl) (λ_=>rfl) ⟨λ_=>rfl,λ_=>rfl,λ_=>rfl,λ_=>rfl,λ_=>rfl,trivial⟩
 (λ_ _=>tr (zam.eq_2 ..))
 (λn=>⟨λ_=>tr (z2v.eq_2 ..),
  λ_=>tr (z61.eq_2 ..),
  λ_=>tr (z5g.eq_2 ..),
  λ_=>tr (z2x.eq_2 ..),
  λ_=>tr (z6f.eq_2 ..),
  trivial⟩)
 (λx=>.inr (by kernel_rfl))
theorem yhi:OkL prog [zhn]:=z7m (kza _) (bs:=[]) trivial ⟨yht,trivial⟩
theorem ydn:FOk prog zhn:=yhi.1
def zb9:Nat->yz1->Ot ((List B8)×Int)
 |0,_=>none
 |n+1,a=>
  (z0t n a.re).bind λy0=>
  pIf (y0 != 0)
   ((z0t n a.re).bind λy1=>
   some ([],y1))
   ((zam n a.re []).bind λy2=>
   some (y2,0))
def ydp:LSh:=⟨[(2,dA),(3,dI)],[],0,11,[]⟩
noncomputable def zyk:FI dat:=FI.of dat 178 11 0 [dT 5] [] [dA,dI] [] true ydp (R:=(List B8)×Int) (λx=>(x.1,x.2.1)) (λr=>(r.1,r.2,())) (λn=>u1 (zb9 n))
 (λn=>[]) (anb [] f178)
theorem y8n:FOk prog zyk:=okF (bs:=[zhn,zix]) ⟨ydn,zmu,trivial⟩ func178 ntmps178 call178
 (λ_ _=>tr (zb9.eq_2 ..))
 (λn=>trivial)
mutual
def z7z:Nat->yz1->(List B8)->Ot Bool
 |0,_,_=>none
 |n+1,a,b=>
  (zb9 n a.re).bind λy0=>
  z2s n 0 y0.1 b
def z2s:Nat->Int->(List B8)->(List B8)->Ot Bool
 |0,_,_,_=>none
 |n+1,a,b,c=>
  pIf (decide (a<(b.length:Int)))
   ((ix b a).bind λx1=>
   (z4t n c x1).bind λy2=>
   pIf (decide (y2<0))
    (some false)
    (z2s n (IntKind.i64.wrap (a+1)) b c))
   (some true)
end
def y8m:LSh:=⟨[(4,dB)],[],0,26,[]⟩
noncomputable def zvq:FI dat:=FI.of dat 119 26 0 [dT 5,dA] [] [dB] [] true y8m (R:=Bool) Prod.fst (·,()) (λn=>u2 (z7z n))
 (λn=>[(0,⟨⟨[(7,dI),(5,dA),(1,dA)],[],0,26,[]⟩,u3 (z2s n)⟩)]) (anb [(8,0)] f119)
theorem y7u:FOk prog zvq:=okF (bs:=[zyk,zin]) ⟨y8n,zjj,trivial⟩ func119 ntmps119 call119
 (λ_ _=>tr (z7z.eq_2 ..))
 (λn=>⟨λ_=>tr (z2s.eq_2 ..),
  trivial⟩)
mutual
def zb1:Nat->kz5->Ot zz8
 |0,_=>none
 |n+1,a=>
  z42 n 0 a.re [a.when_.re]
def z42:Nat->Int->kz5->zz8->Ot zz8
 |0,_,_,_=>none
 |n+1,a,b,c=>
  pIf (decide (a<(b.do_.length:Int)))
   ((ix b.do_ a).bind λx0=>
   (ext c x0.args).bind λx1=>
   z48 n 0 a b.re x1)
   (some c)
def z48:Nat->Int->Int->kz5->zz8->Ot zz8
 |0,_,_,_,_=>none
 |n+1,a,b,c,d=>
  (ix c.do_ b).bind λx2=>
  pIf (decide (a<(x2.items.length:Int)))
   ((ix c.do_ b).bind λx3=>
   (ix x3.items a).bind λx4=>
   (ext d x4.args).bind λx5=>
   z48 n (IntKind.i64.wrap (a+1)) b c.re x5)
   (z42 n (IntKind.i64.wrap (b+1)) c.re d)
end
def yel:LSh:=⟨[(2,dL 5)],[],0,48,[]⟩
noncomputable def zy8:FI dat:=FI.of dat 120 48 0 [dT 9] [] [dL 5] [] true yel (R:=zz8) Prod.fst (·,()) (λn=>u1 (zb1 n))
 (λn=>[(0,⟨⟨[(4,dI),(1,(.ptr 0 0)),(3,(.own 1))],[(.st 9),(.acc 29 (.st 5) true)],0,48,[]⟩,u3 (z42 n)⟩),(1,⟨⟨[(5,dI),(4,dI),(1,(.ptr 0 0)),(3,(.own 1))],[(.st 9),(.acc 29 (.st 5) true)],0,48,[]⟩,u4 (z48 n)⟩)]) (anb [(8,0),(22,1)] f120)
theorem ya7:FOk prog zy8:=okF (bs:=[]) trivial func120 ntmps120 call120
 (λ_ _=>tr (zb1.eq_2 ..))
 (λn=>⟨λ_=>tr (z42.eq_2 ..),
  λ_=>tr (z48.eq_2 ..),
  trivial⟩)
mutual
def zao:Nat->zz6->Ot zc6
 |0,_=>none
 |n+1,a=>
  z5j n 0 [] a
def z5j:Nat->Int->zc6->zz6->Ot zc6
 |0,_,_,_=>none
 |n+1,a,b,c=>
  pIf (decide (a<(c.cases.length:Int)))
   (z2z n 0 a b c)
   (some b)
def z2z:Nat->Int->Int->zc6->zz6->Ot zc6
 |0,_,_,_,_=>none
 |n+1,a,b,c,d=>
  (ix d.cases b).bind λx0=>
  pIf (decide (a<(x0.do_.length:Int)))
   ((ix d.cases b).bind λx1=>
   (ix x1.do_ a).bind λx2=>
   pIf (x2.kind != 5)
    (z5h n b a (x2.kind != 6) x2 d c)
    (z5h n b a false x2 d c))
   (z5j n (IntKind.i64.wrap (b+1)) c d)
def z5h:Nat->Int->Int->Bool->kz3->zz6->zc6->Ot zc6
 |0,_,_,_,_,_,_=>none
 |n+1,a,b,c,d,e,f=>
  pIf c
   ((zc5 n d.kind).bind λy3=>
   (ext f [(z2f.mk d.name (IntKind.i64.wrap ((d.args.length:Int)-y3)))]).bind λx4=>
   z69 n a b d x4 e)
   (z69 n a b d f e)
def z69:Nat->Int->Int->kz3->zc6->zz6->Ot zc6
 |0,_,_,_,_,_=>none
 |n+1,a,b,c,d,e=>
  z5k n 0 a b c d e
def z5k:Nat->Int->Int->Int->kz3->zc6->zz6->Ot zc6
 |0,_,_,_,_,_,_=>none
 |n+1,a,b,c,d,e,f=>
  pIf (decide (a<(d.items.length:Int)))
   ((ix d.items a).bind λx5=>
   (ix d.items a).bind λx6=>
   (ext e [(z2f.mk x5.name (IntKind.i64.wrap ((x6.args.length:Int)-1)))]).bind λx7=>
   z5k n (IntKind.i64.wrap (a+1)) b c d x7 f)
   (z2z n (IntKind.i64.wrap (c+1)) b e f)
end
def ykj:LSh:=⟨[(2,dL 14)],[],0,82,[]⟩
noncomputable def zrr:FI dat:=FI.of dat 56 82 0 [dT 10] [] [dL 14] [] true ykj (R:=zc6) Prod.fst (·,()) (λn=>u1 (zao n))
 (λn=>[(0,⟨⟨[(3,(.own 0)),(4,dI),(1,(.ptr 1 0))],[(.acc 106 (.st 14) true),(.st 10)],0,82,[]⟩,u3 (z5j n)⟩),(1,⟨⟨[(5,dI),(3,(.own 0)),(4,dI),(1,(.ptr 1 0))],[(.acc 106 (.st 14) true),(.st 10)],0,82,[]⟩,u4 (z2z n)⟩),(2,⟨⟨[(6,(.ptr 0 0)),(4,dI),(1,(.ptr 1 0)),(5,dI),(3,(.own 2)),(42,dB)],[(.st 8),(.st 10),(.acc 106 (.st 14) true)],0,82,[]⟩,u6 (z5h n)⟩),(3,⟨⟨[(6,(.ptr 0 0)),(3,(.own 1)),(4,dI),(1,(.ptr 2 0)),(5,dI)],[(.st 8),(.acc 106 (.st 14) true),(.st 10)],0,82,[]⟩,u5 (z69 n)⟩),(4,⟨⟨[(7,dI),(6,(.ptr 0 0)),(3,(.own 1)),(4,dI),(1,(.ptr 2 0)),(5,dI)],[(.st 8),(.acc 106 (.st 14) true),(.st 10)],0,82,[]⟩,u6 (z5k n)⟩)]) (anb [(8,0),(20,1),(34,2),(37,3),(40,4)] f56)
theorem zy5:FOk prog zrr:=okF (bs:=[zw6]) ⟨y1v,trivial⟩ func56 ntmps56 call56
 (λ_ _=>tr (zao.eq_2 ..))
 (λn=>⟨λ_=>tr (z5j.eq_2 ..),
  λ_=>tr (z2z.eq_2 ..),
  λ_=>tr (z5h.eq_2 ..),
  λ_=>tr (z69.eq_2 ..),
  λ_=>tr (z5k.eq_2 ..),
  trivial⟩)
mutual
def zbo:Nat->kz0->Ot Bool
 |0,_=>none
 |n+1,a=>
  (z71 n a).bind λy0=>
  z3l n 0 y0 a
def z3l:Nat->Int->(List B8)->kz0->Ot Bool
 |0,_,_,_=>none
 |n+1,a,b,c=>
  pIf (decide (a<(c.attrs.length:Int)))
   ((ix c.attrs a).bind λx1=>
   (sub b 0 a).bind λx2=>
   (z7z n x1.value.re x2).bind λy3=>
   pIf (!y3)
    (some false)
    (z3l n (IntKind.i64.wrap (a+1)) b c))
   (z1p n 0 b c)
def z1p:Nat->Int->(List B8)->kz0->Ot Bool
 |0,_,_,_=>none
 |n+1,a,b,c=>
  pIf (decide (a<(c.rules.length:Int)))
   ((ix c.rules a).bind λx4=>
   (ext [[115,120],[115,121],[115,122]] b).bind λx5=>
   (ext x5 x4.params).bind λx6=>
   z1x n x6 0 b a x4 c)
   (some true)
def z1x:Nat->(List B8)->Int->(List B8)->Int->zz6->kz0->Ot Bool
 |0,_,_,_,_,_,_=>none
 |n+1,a,b,c,d,e,f=>
  pIf (decide (b<(e.cases.length:Int)))
   ((ix e.cases b).bind λx7=>
   (zb1 n x7.re).bind λy8=>
   z4k n 0 a y8 c d b e f)
   ((zao n e).bind λy9=>
   z1s n 0 y9 c d f)
def z4k:Nat->Int->(List B8)->zz8->(List B8)->Int->Int->zz6->kz0->Ot Bool
 |0,_,_,_,_,_,_,_,_=>none
 |n+1,a,b,c,d,e,f,g,h=>
  pIf (decide (a<(c.length:Int)))
   ((ix c a).bind λx10=>
   (z7z n x10.re b).bind λy11=>
   pIf (!y11)
    (some false)
    (z4k n (IntKind.i64.wrap (a+1)) b c d e f g h))
   (z1x n b (IntKind.i64.wrap (f+1)) d e g h)
def z1s:Nat->Int->zc6->(List B8)->Int->kz0->Ot Bool
 |0,_,_,_,_,_=>none
 |n+1,a,b,c,d,e=>
  pIf (decide (a<(b.length:Int)))
   ((z77 n e).bind λy12=>
   (ix b a).bind λx13=>
   (z4t n y12 x13.name).bind λy14=>
   pIf (decide (y14<0))
    (some false)
    (z1s n (IntKind.i64.wrap (a+1)) b c d e))
   (z1p n (IntKind.i64.wrap (d+1)) c e)
end
def ydx:LSh:=⟨[(2,dB)],[],0,94,[]⟩
noncomputable def zyp:FI dat:=FI.of dat 55 94 0 [dT 11] [] [dB] [] true ydx (R:=Bool) Prod.fst (·,()) (λn=>u1 (zbo n))
 (λn=>[(0,⟨⟨[(4,dI),(3,dA),(1,(.ptr 0 0))],[(.st 11)],0,94,[]⟩,u3 (z3l n)⟩),(1,⟨⟨[(1,(.ptr 0 0)),(5,dI),(3,dA)],[(.st 11)],0,94,[]⟩,u3 (z1p n)⟩),(2,⟨⟨[(7,dA),(8,dI),(6,(.ptr 0 0)),(1,(.ptr 1 0)),(3,dA),(5,dI)],[(.st 10),(.st 11)],0,94,[]⟩,u6 (z1x n)⟩),(3,⟨⟨[(10,dI),(7,dA),(9,dL 5),(6,(.ptr 0 0)),(1,(.ptr 1 0)),(3,dA),(5,dI),(8,dI)],[(.st 10),(.st 11)],0,94,[]⟩,u8 (z4k n)⟩),(4,⟨⟨[(12,dI),(11,dL 14),(1,(.ptr 0 0)),(3,dA),(5,dI)],[(.st 11)],0,94,[]⟩,u5 (z1s n)⟩)]) (anb [(8,0),(29,1),(46,2),(60,3),(83,4)] f55)
theorem y8q:FOk prog zyp:=okF (bs:=[zpj,zvq,zy8,zrr,zj6,zin]) ⟨zu4,y7u,ya7,zy5,zm7,zjj,trivial⟩ func55 ntmps55 call55
 (λ_ _=>tr (zbo.eq_2 ..))
 (λn=>⟨λ_=>tr (z3l.eq_2 ..),
  λ_=>tr (z1p.eq_2 ..),
  λ_=>tr (z1x.eq_2 ..),
  λ_=>tr (z4k.eq_2 ..),
  λ_=>tr (z1s.eq_2 ..),
  trivial⟩)
mutual
def zbh:Nat->kz0->Ot Int
 |0,_=>none
 |n+1,a=>
  (zcw n a).bind λy0=>
  pIf y0
   (some 4)
   ((z9q n a).bind λy1=>
   pIf (!y1)
    (some 8)
    ((z8t n a).bind λy2=>
    pIf y2
     (some 14)
     ((zbo n a).bind λy3=>
     pIf (!y3)
      (some 6)
      (z3j n 0 a))))
def z3j:Nat->Int->kz0->Ot Int
 |0,_,_=>none
 |n+1,a,b=>
  pIf (decide (a<(b.rules.length:Int)))
   ((ix b.rules a).bind λx4=>
   (zao n x4).bind λy5=>
   z4m n 0 y5 a b)
   (some 0)
def z4m:Nat->Int->zc6->Int->kz0->Ot Int
 |0,_,_,_,_=>none
 |n+1,a,b,c,d=>
  pIf (decide (a<(b.length:Int)))
   ((ix b a).bind λx6=>
   (z77 n d).bind λy7=>
   (ix b a).bind λx8=>
   (z4t n y7 x8.name).bind λy9=>
   (ix d.rules y9).bind λx10=>
   pIf (x6.many != (x10.params.length:Int))
    (some 2)
    (z4m n (IntKind.i64.wrap (a+1)) b c d))
   (z3j n (IntKind.i64.wrap (c+1)) d)
end
def yco:LSh:=⟨[(2,dI)],[],0,59,[]⟩
noncomputable def zxx:FI dat:=FI.of dat 24 59 0 [dT 11] [] [dI] [] true yco (R:=Int) Prod.fst (·,()) (λn=>u1 (zbh n))
 (λn=>[(0,⟨⟨[(1,(.ptr 0 0)),(3,dI)],[(.st 11)],0,59,[]⟩,u2 (z3j n)⟩),(1,⟨⟨[(5,dI),(4,dL 14),(1,(.ptr 0 0)),(3,dI)],[(.st 11)],0,59,[]⟩,u4 (z4m n)⟩)]) (anb [(33,0),(47,1)] f24)
theorem y94:FOk prog zxx:=okF (bs:=[y1i,zv9,ztc,zyp,zrr,zj6,zin]) ⟨yei,y7h,y46,y8q,zy5,zm7,zjj,trivial⟩ func24 ntmps24 call24
 (λ_ _=>tr (zbh.eq_2 ..))
 (λn=>⟨λ_=>tr (z3j.eq_2 ..),
  λ_=>tr (z4m.eq_2 ..),
  trivial⟩)
def z23:Nat->kz0->Ot Bool
 |0,_=>none
 |n+1,a=>
  (zbg n a).bind λy0=>
  pIf (!y0)
   ((zbh n a).bind λy1=>
   some (y1==0))
   (some false)
def zu0:LSh:=⟨[(2,dB)],[],0,11,[]⟩
noncomputable def zju:FI dat:=FI.of dat 17 11 0 [dT 11] [] [dB] [] true zu0 (R:=Bool) Prod.fst (·,()) (λn=>u1 (z23 n))
 (λn=>[]) (anb [] f17)
theorem ztm:FOk prog zju:=okF (bs:=[zxy,zxx]) ⟨ybh,y94,trivial⟩ func17 ntmps17 call17
 (λ_ _=>tr (z23.eq_2 ..))
 (λn=>trivial)
mutual
noncomputable def kzj:Nat->kz0->Int->Ot Bool
 |0,_,_=>none
 |n+1,a,b=>
  (z23 n a).bind λy0=>
  pIf (!y0)
   (yzf n b true a)
   (pIf (decide (b<0))
     (yzf n b true a)
     (yzf n b (decide (b>=(a.rules.length:Int))) a))
noncomputable def yzf:Nat->Int->Bool->kz0->Ot Bool
 |0,_,_,_=>none
 |n+1,a,b,c=>
  pIf b
   ((z0h n).bind λy1=>
   some y1)
   ((ix c.rules a).bind λx2=>
   (z2b n c x2.name).bind λy3=>
   pIf (y3.2 != 0)
    (kzo n y3.1 x2.name true c)
    ((z4t n y3.1 x2.name).bind λy4=>
    kzo n y3.1 x2.name (decide (y4<0)) c))
noncomputable def kzo:Nat->(List B8)->B8->Bool->kz0->Ot Bool
 |0,_,_,_,_=>none
 |n+1,a,b,c,d=>
  pIf c
   (some false)
   (zzk n a 0 b [] d)
noncomputable def zzk:Nat->(List B8)->Int->B8->(List B8)->kz0->Ot Bool
 |0,_,_,_,_,_=>none
 |n+1,a,b,c,d,e=>
  pIf (decide (b<(a.length:Int)))
   ((ix a b).bind λx5=>
   (z95 n e x5).bind λy6=>
   (ix a b).bind λx7=>
   (z2b n e x7).bind λy8=>
   pIf (y6.2 != 0)
    (zzb n y6.1 a y8.1 c b true d e)
    (pIf (y8.2 != 0)
      (zzb n y6.1 a y8.1 c b true d e)
      (pIf (decide (b>0))
        ((ix a (IntKind.i64.wrap (b-1))).bind λx9=>
        (ix a b).bind λx10=>
        zzb n y6.1 a y8.1 c b (!(Op.bytesLess x9 x10)) d e)
        (zzb n y6.1 a y8.1 c b false d e))))
   (zzg n 0 a c d)
noncomputable def zzb:Nat->(List B8)->(List B8)->(List B8)->B8->Int->Bool->(List B8)->kz0->Ot Bool
 |0,_,_,_,_,_,_,_,_=>none
 |n+1,a,b,c,d,e,f,g,h=>
  pIf f
   (some false)
   (kzf n 0 a b c d e g h)
noncomputable def kzf:Nat->Int->(List B8)->(List B8)->(List B8)->B8->Int->(List B8)->kz0->Ot Bool
 |0,_,_,_,_,_,_,_,_=>none
 |n+1,a,b,c,d,e,f,g,h=>
  pIf (decide (a<(b.length:Int)))
   ((ix b a).bind λx15=>
   (z4t n c x15).bind λy16=>
   pIf (decide (y16<0))
    (some false)
    ((ix b a).bind λx17=>
    (ext g [x17]).bind λx18=>
    kzf n (IntKind.i64.wrap (a+1)) b c d e f x18 h))
   (yzg n 0 d c e f g h)
noncomputable def yzg:Nat->Int->(List B8)->(List B8)->B8->Int->(List B8)->kz0->Ot Bool
 |0,_,_,_,_,_,_,_=>none
 |n+1,a,b,c,d,e,f,g=>
  pIf (decide (a<(b.length:Int)))
   ((ix b a).bind λx19=>
   (z4t n c x19).bind λy20=>
   pIf (decide (y20<0))
    (some false)
    (yzg n (IntKind.i64.wrap (a+1)) b c d e f g))
   (zzk n c (IntKind.i64.wrap (e+1)) d f g)
noncomputable def zzg:Nat->Int->(List B8)->B8->(List B8)->Ot Bool
 |0,_,_,_,_=>none
 |n+1,a,b,c,d=>
  pIf (decide (a<(b.length:Int)))
   ((ix b a).bind λx11=>
   pIf (!(x11==c))
    ((ix b a).bind λx12=>
    (z94 n x12 d).bind λy13=>
    yzj n b c a (decide (y13.1<0)) y13.2)
    (yzj n b c a false d))
   ((z0h n).bind λy14=>
   some y14)
noncomputable def yzj:Nat->(List B8)->B8->Int->Bool->(List B8)->Ot Bool
 |0,_,_,_,_,_=>none
 |n+1,a,b,c,d,e=>
  pIf d
   (some false)
   (zzg n (IntKind.i64.wrap (c+1)) a b e)
end
def zn7:LSh:=⟨[(4,dB)],[],0,153,[]⟩
noncomputable def zn9:FI dat:=FI.of dat 4 153 0 [dT 11,dI] [] [dB] [] true zn7 (R:=Bool) Prod.fst (·,()) (λn=>u2 (kzj n))
 (λn=>[(0,⟨⟨[(2,(.ptr 0 0)),(1,dI),(30,dB)],[(.st 11)],0,153,[]⟩,u3 (yzf n)⟩),(1,⟨⟨[(6,dA),(2,(.ptr 0 0)),(5,dS),(51,dB)],[(.st 11)],0,153,[]⟩,u4 (kzo n)⟩),(2,⟨⟨[(8,(.own 0)),(6,dA),(9,dI),(2,(.ptr 1 0)),(5,dS)],[(.acc 9 .str true),(.st 11)],0,153,[]⟩,u5 (zzk n)⟩),(3,⟨⟨[(10,dA),(8,(.own 0)),(6,dA),(12,dA),(2,(.ptr 1 0)),(5,dS),(9,dI),(97,dB)],[(.acc 9 .str true),(.st 11)],0,153,[]⟩,u8 (zzb n)⟩),(4,⟨⟨[(14,dI),(10,dA),(8,(.own 0)),(6,dA),(12,dA),(2,(.ptr 1 0)),(5,dS),(9,dI)],[(.acc 9 .str true),(.st 11)],0,153,[]⟩,u8 (kzf n)⟩),(5,⟨⟨[(15,dI),(12,dA),(6,dA),(8,(.own 0)),(2,(.ptr 1 0)),(5,dS),(9,dI)],[(.acc 9 .str true),(.st 11)],0,153,[]⟩,u7 (yzg n)⟩),(6,⟨⟨[(16,dI),(6,dA),(8,(.own 0)),(5,dS)],[(.acc 9 .str true)],0,153,[]⟩,u4 (zzg n)⟩),(7,⟨⟨[(6,dA),(8,(.own 0)),(5,dS),(16,dI),(151,dB)],[(.acc 9 .str true)],0,153,[]⟩,u5 (yzj n)⟩)]) (anb [(5,0),(17,1),(28,2),(44,3),(53,4),(75,5),(97,6),(108,7)] f4)
theorem zlr:FOk prog zn9:=okF (bs:=[zpo,zju,zjx,zph,zin,zpf]) ⟨zut,ztm,ztp,zun,zjj,zw2,trivial⟩ func4 ntmps4 call4
 (λn=>λ_=>tr (kzj.eq_2 _ _ n))
 (λn=>⟨λ_=>tr (yzf.eq_2 _ _ _ n),
  λ_=>tr (kzo.eq_2 _ _ _ _ n),
  λ_=>tr (zzk.eq_2 _ _ _ _ _ n),
  λ_=>tr (zzb.eq_2 _ _ _ _ _ _ _ _ n),
  λ_=>tr (kzf.eq_2 _ _ _ _ _ _ _ _ n),
  λ_=>tr (yzg.eq_2 _ _ _ _ _ _ _ n),
  λ_=>tr (zzg.eq_2 _ _ _ _ n),
  λ_=>tr (yzj.eq_2 _ _ _ _ _ n),
  trivial⟩)
theorem zll(a0:kz0)(a1:Int):VRL dat [] 0 [dat.tv (.st 11) a0,dat.tv (.int .i64) a1] [dat.el (.st 11) a0,dat.el (.int .i64) a1]:=by
 simp only[VRL];exact⟨_,_,rfl,VR.tv (kza prog) (DR.el _ _),⟨_,_,rfl,VR.tv (kza prog) (DR.el _ _),rfl⟩⟩
theorem zjd(n:Nat)(a0:kz0)(a1:Int)(r:Bool)(h:kzj n a0 a1=some r):zno prog 4 [dat.el (.st 11) a0,dat.el (.int .i64) a1] (.bool r):=by
 obtain⟨y,h1,_,_,_,h2⟩:=zlr n _ (a0,a1,()) (λy=>some y.1) (λ_=>none) r (by show(kzj n a0 a1).bind (λr=>some r)=some r;rw[h];rfl);obtain⟨vs,k1,k2⟩:=h2 0 [dat.el (.st 11) a0,dat.el (.int .i64) a1] (zll a0 a1);injection h1 with h1;subst h1;have:=k1 [] 0;replace this:VRL dat [] 0 [TV.bool y.1] vs:=this;simp only[VRL,VR]at this;obtain⟨v,r,rfl,rfl,rfl⟩:=this;exact k2
theorem yt4(m:Nat):z0h (m+300)=some true:=by kernel_rfl
theorem yub:Ev (λn=>z0h n) true:=⟨300,λk hk=>by
 obtain⟨m,rfl⟩:=Nat.exists_eq_add_of_le' hk
 exact yt4 m⟩
end Go.Proofs.YthphaiccgnkobaaGreatDoor
namespace Go.Proofs.Tryz
open Go Go.Ab
open Go.Proofs.Tryz
set_option linter.unusedSimpArgs false
@[simp] theorem ymv:Program.cellsOf prog 2=1:=by kernel_rfl
@[simp] theorem ywc:Program.cellsOf prog 3=1:=by kernel_rfl
@[simp] theorem yvc:Program.cellsOf prog 4=1:=by kernel_rfl
@[simp] theorem zup:Program.cellsOf prog 5=1:=by kernel_rfl
@[simp] theorem zme:Program.cellsOf prog 9=1:=by kernel_rfl
@[simp] theorem ygg:Program.cellsOf prog 23=2:=by kernel_rfl
@[simp] theorem ys9:Program.cellsOf prog 24=1:=by kernel_rfl
@[simp] theorem y4d:Program.cellsOf prog 26=6:=by kernel_rfl
@[simp] theorem y3w:Program.cellsOf prog 27=1:=by kernel_rfl
@[simp] theorem zld:Program.cellsOf prog 29=9:=by kernel_rfl
@[simp] theorem yt3:Program.cellsOf prog 33=1:=by kernel_rfl
@[simp] theorem ytc:Program.cellsOf prog 34=1:=by kernel_rfl
@[simp] theorem ys8:Program.cellsOf prog 36=2:=by kernel_rfl
@[simp] theorem ysi:Program.cellsOf prog 38=1:=by kernel_rfl
@[simp] theorem ygp:Program.cellsOf prog 40=5:=by kernel_rfl
@[simp] theorem ygn:Program.cellsOf prog 43=3:=by kernel_rfl
@[simp] theorem yse:Program.cellsOf prog 44=1:=by kernel_rfl
@[simp] theorem ysn:Program.cellsOf prog 45=1:=by kernel_rfl
@[simp] theorem ygs:Program.cellsOf prog 47=3:=by kernel_rfl
@[simp] theorem yfx:Program.cellsOf prog 49=10:=by kernel_rfl
@[simp] theorem yta:Program.cellsOf prog 55=1:=by kernel_rfl
@[simp] theorem ygm:Program.cellsOf prog 57=11:=by kernel_rfl
theorem yyg(n:Nat):Reads prog n 23 zz4.ty:=(z8l underlying23 ygg (λm hm=>(yzb rfl ymv (zeq underlying2 m) (yzb rfl ymv (zeq underlying2 m) zcc)))).conv (λx=>(⟨x.1,x.2.1⟩:zz4)) (λx=>by show zz4.el _=_;rw[zz4.zzc];simp[Ty.struct,Ty.pair,Ty.unit,Ty.int,V.cells]) rfl (λx h=>by simp only[zz4.ty];rw[zz4.z2g];simp only[Ty.struct,Ty.pair,Ty.unit,Ty.int]at h ⊢;simpa using h) (λx=>by simp only[Ty.struct,Ty.pair,Ty.unit,Ty.int,zz4.ty];rw[zz4.size_eq];(try dsimp only);omega)
theorem z006:∀n,Reads prog n 26 yz0.ty:=λn=>by
 induction n using Nat.strongRecOn with
 |ind n ih=>exact(z8l underlying26 y4d (λm hm=>(yzb rfl zup (zeq underlying5 m) (yzb rfl ygg (yyg m) (yzb rfl yvc (ypj underlying4 m) (yzb rfl zme (zij underlying9 m) (yzb rfl ys9 (z8s underlying24 y4d (by decide) (λk hk=>(ih k (by omega)))) zcc))))))).conv (λx=>(⟨x.1,x.2.1,x.2.2.1,x.2.2.2.1,x.2.2.2.2.1⟩:yz0)) (λx=>by show yz0.el _=_;rw[yz0.zzc];simp[Ty.struct,Ty.pair,Ty.unit,Ty.int,Ty.bool,Ty.str,Ty.slice,V.cells,zz4.ty,zz4.zzc,yz0.ty]) rfl (λx h=>by simp only[yz0.ty];rw[yz0.z2g];simp only[Ty.struct,Ty.pair,Ty.unit,Ty.int,Ty.bool,Ty.str,Ty.slice,zz4.ty,yz0.ty]at h ⊢;simpa using h) (λx=>by simp only[Ty.struct,Ty.pair,Ty.unit,Ty.int,Ty.bool,Ty.str,Ty.slice,zz4.ty,yz0.ty];rw[yz0.size_eq];(try dsimp only);omega)
theorem y86:∀n,Reads prog n 29 yz1.ty:=λn=>by
 induction n using Nat.strongRecOn with
 |ind n ih=>exact(z8l underlying29 zld (λm hm=>(yzb rfl zup (zeq underlying5 m) (yzb rfl y4d (z006 m) (yzb rfl zme (zij underlying9 m) (yzb rfl y3w (z8s underlying27 zld (by decide) (λk hk=>(ih k (by omega)))) zcc)))))).conv (λx=>(⟨x.1,x.2.1,x.2.2.1,x.2.2.2.1⟩:yz1)) (λx=>by show yz1.el _=_;rw[yz1.zzc];simp[Ty.struct,Ty.pair,Ty.unit,Ty.int,Ty.str,Ty.slice,V.cells,yz0.ty,yz0.zzc,yz1.ty]) rfl (λx h=>by simp only[yz1.ty];rw[yz1.z2g];simp only[Ty.struct,Ty.pair,Ty.unit,Ty.int,Ty.str,Ty.slice,yz0.ty,yz1.ty]at h ⊢;simpa using h) (λx=>by simp only[Ty.struct,Ty.pair,Ty.unit,Ty.int,Ty.str,Ty.slice,yz0.ty,yz1.ty];rw[yz1.size_eq];(try dsimp only);omega)
theorem yyh(n:Nat):Reads prog n 49 kzi.ty:=(z8l underlying49 yfx (λm hm=>(yzb rfl zme (zij underlying9 m) (yzb rfl zld (y86 m) zcc)))).conv (λx=>(⟨x.1,x.2.1⟩:kzi)) (λx=>by show kzi.el _=_;rw[kzi.zzc];simp[Ty.struct,Ty.pair,Ty.unit,Ty.str,V.cells,yz1.ty,yz1.zzc]) rfl (λx h=>by simp only[kzi.ty];rw[kzi.z2g];simp only[Ty.struct,Ty.pair,Ty.unit,Ty.str,yz1.ty]at h ⊢;simpa using h) (λx=>by simp only[Ty.struct,Ty.pair,Ty.unit,Ty.str,yz1.ty,kzi.ty];rw[kzi.size_eq];(try dsimp only);omega)
theorem yyr(n:Nat):Reads prog n 43 yzl.ty:=(z8l underlying43 ygn (λm hm=>(yzb rfl zup (zeq underlying5 m) (yzb rfl zme (zij underlying9 m) (yzb rfl y3w (z8s underlying27 zld (by decide) (λk hk=>(y86 k))) zcc))))).conv (λx=>(⟨x.1,x.2.1,x.2.2.1⟩:yzl)) (λx=>by show yzl.el _=_;rw[yzl.zzc];simp[Ty.struct,Ty.pair,Ty.unit,Ty.int,Ty.str,Ty.slice,V.cells,yz1.ty]) rfl (λx h=>by simp only[yzl.ty];rw[yzl.z2g];simp only[Ty.struct,Ty.pair,Ty.unit,Ty.int,Ty.str,Ty.slice,yz1.ty]at h ⊢;simpa using h) (λx=>by simp only[Ty.struct,Ty.pair,Ty.unit,Ty.int,Ty.str,Ty.slice,yz1.ty,yzl.ty];rw[yzl.size_eq];(try dsimp only);omega)
theorem z00f(n:Nat):Reads prog n 40 kz3.ty:=(z8l underlying40 ygp (λm hm=>(yzb rfl zup (zeq underlying5 m) (yzb rfl zup (zeq underlying5 m) (yzb rfl zme (zij underlying9 m) (yzb rfl y3w (z8s underlying27 zld (by decide) (λk hk=>(y86 k))) (yzb rfl ysi (z8s underlying38 ygn (by decide) (λk hk=>(yyr k))) zcc))))))).conv (λx=>(⟨x.1,x.2.1,x.2.2.1,x.2.2.2.1,x.2.2.2.2.1⟩:kz3)) (λx=>by show kz3.el _=_;rw[kz3.zzc];simp[Ty.struct,Ty.pair,Ty.unit,Ty.int,Ty.str,Ty.slice,V.cells,yz1.ty,yzl.ty]) rfl (λx h=>by simp only[kz3.ty];rw[kz3.z2g];simp only[Ty.struct,Ty.pair,Ty.unit,Ty.int,Ty.str,Ty.slice,yz1.ty,yzl.ty]at h ⊢;simpa using h) (λx=>by simp only[Ty.struct,Ty.pair,Ty.unit,Ty.int,Ty.str,Ty.slice,yz1.ty,yzl.ty,kz3.ty];rw[kz3.size_eq];(try dsimp only);omega)
theorem yyq(n:Nat):Reads prog n 57 kz5.ty:=(z8l underlying57 ygm (λm hm=>(yzb rfl ywc (zeq underlying3 m) (yzb rfl zld (y86 m) (yzb rfl yta (z8s underlying55 ygp (by decide) (λk hk=>(z00f k))) zcc))))).conv (λx=>(⟨x.1,x.2.1,x.2.2.1⟩:kz5)) (λx=>by show kz5.el _=_;rw[kz5.zzc];simp[Ty.struct,Ty.pair,Ty.unit,Ty.int,Ty.slice,V.cells,yz1.ty,yz1.zzc,kz3.ty]) rfl (λx h=>by simp only[kz5.ty];rw[kz5.z2g];simp only[Ty.struct,Ty.pair,Ty.unit,Ty.int,Ty.slice,yz1.ty,kz3.ty]at h ⊢;simpa using h) (λx=>by simp only[Ty.struct,Ty.pair,Ty.unit,Ty.int,Ty.slice,yz1.ty,kz3.ty,kz5.ty];rw[kz5.size_eq];(try dsimp only);omega)
theorem z001(n:Nat):Reads prog n 47 zz6.ty:=(z8l underlying47 ygs (λm hm=>(yzb rfl zme (zij underlying9 m) (yzb rfl yse (z8s underlying44 zme (by decide) (λk hk=>(zij underlying9 k))) (yzb rfl ysn (z8s underlying45 ygm (by decide) (λk hk=>(yyq k))) zcc))))).conv (λx=>(⟨x.1,x.2.1,x.2.2.1⟩:zz6)) (λx=>by show zz6.el _=_;rw[zz6.zzc];simp[Ty.struct,Ty.pair,Ty.unit,Ty.str,Ty.slice,V.cells,kz5.ty]) rfl (λx h=>by simp only[zz6.ty];rw[zz6.z2g];simp only[Ty.struct,Ty.pair,Ty.unit,Ty.str,Ty.slice,kz5.ty]at h ⊢;simpa using h) (λx=>by simp only[Ty.struct,Ty.pair,Ty.unit,Ty.str,Ty.slice,kz5.ty,zz6.ty];rw[zz6.size_eq];(try dsimp only);omega)
theorem yyi(n:Nat):Reads prog n 36 kz0.ty:=(z8l underlying36 ys8 (λm hm=>(yzb rfl yt3 (z8s underlying33 yfx (by decide) (λk hk=>(yyh k))) (yzb rfl ytc (z8s underlying34 ygs (by decide) (λk hk=>(z001 k))) zcc)))).conv (λx=>(⟨x.1,x.2.1⟩:kz0)) (λx=>by show kz0.el _=_;rw[kz0.zzc];simp[Ty.struct,Ty.pair,Ty.unit,Ty.slice,V.cells,kzi.ty,zz6.ty]) rfl (λx h=>by simp only[kz0.ty];rw[kz0.z2g];simp only[Ty.struct,Ty.pair,Ty.unit,Ty.slice,kzi.ty,zz6.ty]at h ⊢;simpa using h) (λx=>by simp only[Ty.struct,Ty.pair,Ty.unit,Ty.slice,kzi.ty,zz6.ty,kz0.ty];rw[kz0.size_eq];(try dsimp only);omega)
theorem arg36:yrx prog 36 kz0.ty:=yov underlying36 yyi kz0.zi6
theorem arg3:yrx prog 3 (Ty.int .i64):=yv8 (λn=>(zeq underlying3 n)) (λ_=>rfl) (by rw[underlying3])
end Go.Proofs.Tryz
namespace Go.Proofs.YthphaiccgnkobaaGreatDoor
open Go Go.Ab Go.ChangeShapes Go.WideShapes Go.ChangeAt Go.RowKit
open Go.Proofs.Tryz
set_option linter.unusedVariables false
abbrev yun:List (String×DataW Unit):=Rows.rulesReachUptoRow.laid
theorem yrc{W:World}{name:String}{k:IntKind}{g:Nat}{cs:List (IntKind×Int)}(hcs:cs.map (λp=>Value.int p.1 p.2)=(cs.map Prod.snd).map λz=>Value.int k z)(hn:prog.globalNamed name=some g)
  (h:Lib.TabIs prog W name k (cs.map Prod.snd)):¬Go.Ab.Own g0 H0 g∧∃ty q,W.heap[g]? = some (.cells (cs.map λp=>Value.int p.1 p.2).toArray ty q):=by
 refine⟨own0 _ _,?_⟩;unfold Lib.TabIs World.var? at h;rw[hn]at h;simp only[Option.bind_some]at h;split at h;rename_i cs' ty q hq;injection h with h;rw[hcs];exact⟨ty,q,by rw[hq,h]⟩;cases h
theorem yr8{W:World}{n:String}{g:Nat}{tp:Nat}{a:Addr}(hn:prog.globalNamed n=some g)(h:W.var? prog n=some #[.iface tp (.pointer (some a))]) :
  ¬Go.Ab.Own g0 H0 g∧∃v ty q,W.heap[g]? = some (.cells #[v] ty q)∧(v = .nilIface∨∃te pe,v = .iface te pe):=by
 refine⟨own0 _ _,?_⟩;unfold World.var? at h;rw[hn]at h;simp only[Option.bind_some]at h;split at h;rename_i cs ty q hq;injection h with h;exact⟨_,ty,q,by rw[hq,h],.inr ⟨_,_,rfl⟩⟩;cases h
set_option maxRecDepth 100000 in
theorem globI{W:World}(hL:laidMet prog yun W):z00z W g0 H0:=λk cs hk=>by
 unfold gl at hk;split at hk;injection hk with hk;subst hk;exact yrc (cs:=gl0) (k:=.u8) (name := "strings.asciiSpace") (by kernel_rfl) (by kernel_rfl) (Lib.tabIs_of_head (g:=0) (by kernel_rfl) (by kernel_rfl) underlying213 underlying5 (by kernel_rfl) (by kernel_rfl) hL.tail.tail.tail.tail.tail.tail.tail);injection hk with hk;subst hk
 exact yrc (cs:=gl5) (k:=.u64) (name := "internal/strconv.uint64pow10") (by kernel_rfl) (by kernel_rfl) (Lib.tabIs_of_head (g:=5) (by kernel_rfl) (by kernel_rfl) underlying288 underlying205 (by kernel_rfl) (by kernel_rfl) hL.tail.tail);cases hk
set_option maxRecDepth 100000 in
theorem globE{W:World}(hL:laidMet prog yun W):z00g W g0 H0:=λk hk=>by
 unfold gle at hk;split at hk
 obtain⟨a,s,hv,_⟩:=laid_sentinel (g:=3) (ti:=113) (tp:=310) (te:=312) (ts:=9) hL.tail.tail.tail.tail.tail (by kernel_rfl) (by kernel_rfl) underlying113 (λu h=>typeName_ptr_named (nm := "errors.errorString") (by kernel_rfl) (by kernel_rfl) (by decide) u (h.trans (by kernel_rfl))) underlying310 underlying312 rfl rfl underlying9 (by kernel_rfl) (by kernel_rfl)
 exact yr8 (by kernel_rfl) hv
 obtain⟨a,s,hv,_⟩:=laid_sentinel (g:=4) (ti:=113) (tp:=310) (te:=312) (ts:=9) hL.tail.tail.tail.tail (by kernel_rfl) (by kernel_rfl) underlying113 (λu h=>typeName_ptr_named (nm := "errors.errorString") (by kernel_rfl) (by kernel_rfl) (by decide) u (h.trans (by kernel_rfl))) underlying310 underlying312 rfl rfl underlying9 (by kernel_rfl) (by kernel_rfl)
 exact yr8 (by kernel_rfl) hv;cases hk
theorem zn6{W:World}(hL:laidMet prog yun W):zk6 W g0 H0:=⟨globI hL,globE hL⟩
end Go.Proofs.YthphaiccgnkobaaGreatDoor
