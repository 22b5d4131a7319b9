/-
  Go functions as Lean functions, by a program of this repo.
-/
import Derived.Test.YthphaiccgnkobaaGreatDoorRun0
import Derived.Test.YthphaiccgnkobaaGreatDoorRun1
import Derived.Test.YthphaiccgnkobaaGreatDoorLib9
import Derived.KernelRfl
import Derived.Test.YthphaiccgnkobaaGreatDoorLib2
import Derived.Test.YthphaiccgnkobaaGreatDoorProg
import Derived.Test.YthphaiccgnkobaaGreatDoorRows
import Derived.WalkKit
import Derived.ProofKit
import Derived.Handy
import Derived.Lay
import Derived.SevenTiedAt
import Derived.Deep.DeepHandedRow
import Derived.Lib.LaidTab
import Derived.Stop.LaidErr
import Derived.Lib.Bytealg
import Derived.Test.YthphaiccgnkobaaGreatDoorLib10
namespace Go.Proofs.YthphaiccgnkobaaGreatDoor
open Go Go.Ab
open Go.Proofs.Tryz
set_option linter.unusedVariables false
set_option maxRecDepth 100000
set_option maxHeartbeats 4000000
def zae(a0:Int)(a1:Int):Option Int :=
 pIf (!false)
  (some a1)
  (some a0)
def zwh:LSh:=⟨[],[(.cells [dI])],1,10,[]⟩
noncomputable def zl0:zhp dat:={f:=242,args:=[(.ptr 0 0)],aos:=[(.cells [dI])],m:=(some (.iface 31 dI)),ros:=[(.cells [dI])],go:=λx mx=>(zae x.1 mx.1).bind λr=>some (r,())}
theorem ztr:(zl0).Ok prog:=ybk (c:=(anb [] f242)) (args:=[(.ptr 0 0)]) (aos:=[(.cells [dI])]) (ros:=[(.cells [dI])]) (m:=(some (.iface 31 dI))) (l:=zwh) (pack:=λx=>x.1) (un:=λr=>(r,())) (go:=λx mx=>zae x.1 mx.1) (by kernel_rfl) (kze _) func242 (by kernel_rfl) ntmps242 call242 (Nat.le_of_ble_eq_true (by kernel_rfl)) (Nat.le_of_ble_eq_true (by kernel_rfl)) (Nat.le_of_ble_eq_true (by kernel_rfl)) (by kernel_rfl) (by kernel_rfl) (by kernel_rfl) (by kernel_rfl) (λx=>by kernel_rfl) (λx mx=>by kernel_rfl)
def zml:Nat->B8->Ot (kz0×Int)
 |0,_=>none
 |n+1,a=>
  (z39 n 12 (kz1.mk a)).bind λy0=>
  zkg y0 (λr1=>
   pIf (!(r1.1.s==[]))
    ((z7d n 12).bind λy2=>
    zkg y2 (λr3=>
     (((zel 0).bind λr5=>some (r5,()))).bind λy4=>
     some (r1.2.re,y4.1))
     (λe6=>
     (((zae 0 e6.1).bind λr8=>some (r8,()))).bind λy7=>
     some (r1.2.re,y7.1)))
    ((((zel 0).bind λr10=>some (r10,()))).bind λy9=>
    some (r1.2.re,y9.1)))
   (λe11=>
   (((zae 0 e11.1).bind λr13=>some (r13,()))).bind λy12=>
   some ((kz0.mk 0 (zz0.mk 0 (yz4.mk 0 0) false [] []) [] []),y12.1))
def yde:LSh:=⟨[(2,(.ptr 0 0)),(3,(.ptr 1 0))],[(.st 5),(.cells [dI])],0,17,[]⟩
noncomputable def zj3:FI dat:=FI.ofD dat 200 17 0 [dS] [] [dT 5,dI] [(.st 5),(.cells [dI])] [zs6,zl0] yde (R:=kz0×Int) (λx=>(x.1,x.2.1)) (λr=>(r.1,r.2,r.1,r.2,())) (λn=>u1 (zml n))
 (λn=>[]) (anb [] f200)
noncomputable def ye3:List (FI dat):=[z3x,z4u]
theorem yca:(zj3).Good prog dat (tb ye3):=FI.ynj (hD:=kze _) func200 ntmps200 call200 (by kernel_rfl) (Qac (by kernel_rfl)) (by kernel_rfl) (λn=>by kernel_rfl) ⟨y0g,ztr,trivial⟩ (λx=>by kernel_rfl) (λ_=>rfl) trivial
 (λ_ _=>tr (zml.eq_2 ..))
 (λn=>trivial)
 (λx=>by kernel_rfl)
theorem ycz:OkL prog [zj3]:=zko (kze _) (bs:=[z3x,z4u]) ⟨zro,zh9,trivial⟩ yca
theorem yb5:FOk prog zj3:=ycz.1
mutual
def zki:Nat->B8->Ot (Int×kz0)
 |0,_=>none
 |n+1,a=>
  pIf (decide ((a.length:Int)>4000))
   (some (12,(kz0.mk 0 (zz0.mk 0 (yz4.mk 0 0) false [] []) [] [])))
   ((zml n a).bind λy0=>
   pIf (y0.2 != 0)
    (zb7 n true (kz0.mk 0 (zz0.mk 0 (yz4.mk 0 0) false [] []) [] []) y0.1.re)
    ((yzy n y0.1.re).bind λy1=>
    zb7 n (y1 != 0) (kz0.mk 0 (zz0.mk 0 (yz4.mk 0 0) false [] []) [] []) y0.1.re))
def zb7:Nat->Bool->kz0->kz0->Ot (Int×kz0)
 |0,_,_,_=>none
 |n+1,a,b,c=>
  pIf a
   (some (12,(kz0.mk 0 (zz0.mk 0 (yz4.mk 0 0) false [] []) [] [])))
   (some (0,c.re))
end
def y8v:LSh:=⟨[(2,(.ptr 0 0)),(3,dI)],[(.st 5)],0,24,[]⟩
noncomputable def znk:FI dat:=FI.of dat 156 24 0 [dS] [] [dT 5,dI] [] true y8v (R:=Int×kz0) (λx=>(x.1,x.2.1)) (λr=>(r.2,r.1,())) (λn=>u1 (zki n))
 (λn=>[(0,⟨⟨[(2,(.ptr 0 0)),(4,(.ptr 1 0)),(21,dB)],[(.st 5),(.st 5)],0,24,[]⟩,u3 (zb7 n)⟩)]) (anb [(15,0)] f156)
theorem y6m:FOk prog znk:=okF (bs:=[zj3,zbp]) ⟨yb5,zcn,trivial⟩ func156 ntmps156 call156
 (λ_ _=>tr (zki.eq_2 ..))
 (λn=>⟨λx=>tr (zb7.eq_2 x.1 x.2.1 x.2.2.1 n),
  trivial⟩)
mutual
def z0d:Nat->B8->Bool->Ot (Bool×kz0)
 |0,_,_=>none
 |n+1,a,b=>
  (zki n a).bind λy0=>
  pIf b
   (z5g n (y0.1==0) (kz0.mk 0 (zz0.mk 0 (yz4.mk 0 0) false [] []) [] []) y0.2.re)
   (z5g n false (kz0.mk 0 (zz0.mk 0 (yz4.mk 0 0) false [] []) [] []) y0.2.re)
def z5g:Nat->Bool->kz0->kz0->Ot (Bool×kz0)
 |0,_,_,_=>none
 |n+1,a,b,c=>
  some (a,c.re)
end
def zrl:LSh:=⟨[(4,(.ptr 3 0))],[(.cells [(.own 1),(.own 2),dB]),.rig,.rig,(.st 5)],1,24,[1,2]⟩
noncomputable def z7o:FI dat:=FI.of dat 101 24 1 [(.ptr 0 0),dS] [(.cells [(.own 1),(.own 2),dB]),.rig,.rig] [dT 5] [(.cells [(.own 1),(.own 2),dB]),.rig,.rig,(.st 5)] false zrl (R:=Bool×kz0) (λx=>(x.1,x.2.1)) (λr=>(r.2,r.1,r.2,())) (λn=>u2 (z0d n))
 (λn=>[(0,⟨⟨[(4,(.ptr 3 0)),(5,(.ptr 4 0))],[(.cells [(.own 1),(.own 2),dB]),.rig,.rig,(.st 5),(.st 5)],1,24,[1,2]⟩,u3 (z5g n)⟩)]) (anb [(6,0)] f101) [1,2]
noncomputable def zr6:List (FI dat):=[znk]
theorem zrn:(z7o).Good prog dat (tb zr6):=FI.z2e (hD:=kze _) func101 ntmps101 call101 (by kernel_rfl) (Qac (by kernel_rfl)) (by kernel_rfl) (λn=>by kernel_rfl) (λx=>by kernel_rfl) (λ_=>rfl) ⟨λ_=>rfl,trivial⟩
 (λ_ _=>tr (z0d.eq_2 ..))
 (λn=>⟨λx=>tr (z5g.eq_2 x.1 x.2.1 x.2.2.1 n),
  trivial⟩)
 (λx=>.inr (by kernel_rfl))
theorem zre:OkL prog [z7o]:=zko (kze _) (bs:=[znk]) ⟨y6m,trivial⟩ zrn
theorem zo9:FOk prog z7o:=zre.1
noncomputable def z60:FI dat:=yls dat 101 [(.ptr 0 0),dS] [dT 5] [(.st 5)] (R:=Bool×kz0) (λr=>(r.2,r.1,r.2,())) (λn=>u2 (z0d n)) z7o
theorem zb0:FOk prog z60:=λn=>y8o (kze _) rfl (zo9 n)
mutual
def z1t:Nat->B8->Bool->Ot (B8×zz7×Bool)
 |0,_,_=>none
 |n+1,a,b=>
  (z54 n a [32]).bind λy0=>
  (z0d n y0.2.1 b).bind λy1=>
  pIf y1.1
   (z5h n y0.1 (y1.2.op==18) y1.2.re)
   (z5h n y0.1 false y1.2.re)
def z5h:Nat->B8->Bool->kz0->Ot (B8×zz7×Bool)
 |0,_,_,_=>none
 |n+1,a,b,c=>
  some (a,c.args,b)
end
def zrv:LSh:=⟨[(4,dS),(5,dL 5)],[(.cells [(.own 1),(.own 2),dB]),.rig,.rig],1,34,[1,2]⟩
noncomputable def z7s:FI dat:=FI.of dat 160 34 1 [(.ptr 0 0),dS] [(.cells [(.own 1),(.own 2),dB]),.rig,.rig] [dS,dL 5] [(.cells [(.own 1),(.own 2),dB]),.rig,.rig] false zrv (R:=B8×zz7×Bool) (λx=>(x.1,x.2.1,x.2.2.1)) (λr=>(r.1,r.2.1,r.2.2,())) (λn=>u2 (z1t n))
 (λn=>[(0,⟨⟨[(9,(.ptr 3 0)),(6,dS)],[(.cells [(.own 1),(.own 2),dB]),.rig,.rig,(.st 5)],1,34,[1,2]⟩,u3 (z5h n)⟩)]) (anb [(8,0)] f160) [1,2]
noncomputable def zru:List (FI dat):=[z60,z9z]
theorem zr3:(z7s).Good prog dat (tb zru):=FI.z2e (hD:=kze _) func160 ntmps160 call160 (by kernel_rfl) (Qac (by kernel_rfl)) (by kernel_rfl) (λn=>by kernel_rfl) (λx=>by kernel_rfl) (λ_=>rfl) ⟨λ_=>rfl,trivial⟩
 (λ_ _=>tr (z1t.eq_2 ..))
 (λn=>⟨λ_=>tr (z5h.eq_2 _ _ _ n),
  trivial⟩)
 (λx=>.inr (by kernel_rfl))
theorem zrr:OkL prog [z7s]:=zko (kze _) (bs:=[z60,z9z]) ⟨zb0,ze2,trivial⟩ zr3
theorem zoa:FOk prog z7s:=zrr.1
noncomputable def zgu:FI dat:=yls dat 160 [(.ptr 0 0),dS] [dS,dL 5] [] (R:=B8×zz7×Bool) (λr=>(r.1,r.2.1,r.2.2,())) (λn=>u2 (z1t n)) z7s
theorem zpw:FOk prog zgu:=λn=>y8o (kze _) rfl (zoa n)
def zf4:Nat->B8->B8->Ot Int
 |0,_,_=>none
 |n+1,a,b=>
  (z17 n a b).bind λy0=>
  some y0
def y06:LSh:=⟨[(4,dI)],[],0,8,[]⟩
noncomputable def zgo:FI dat:=FI.of dat 203 8 0 [dS,dS] [] [dI] [] true y06 (R:=Int) Prod.fst (·,()) (λn=>u2 (zf4 n))
 (λn=>[]) (anb [] f203)
theorem zxd:FOk prog zgo:=okF (bs:=[z5t]) ⟨z8v,trivial⟩ func203 ntmps203 call203
 (λ_ _=>tr (zf4.eq_2 ..))
 (λn=>trivial)
mutual
def z56:Nat->B8->Bool->Ot (Int×Bool)
 |0,_,_=>none
 |n+1,a,b=>
  (zf4 n [120,121,122] a).bind λy0=>
  pIf b
   (pIf ((a.length:Int)==1)
     (z1u n y0 (decide (y0>=0)))
     (z1u n y0 false))
   (z1u n y0 false)
def z1u:Nat->Int->Bool->Ot (Int×Bool)
 |0,_,_=>none
 |n+1,a,b=>
  some ((IntKind.u8.wrap (mxI a 0)),b)
end
def zr2:LSh:=⟨[(4,dU)],[(.cells [(.own 1),(.own 2),dB]),.rig,.rig],1,27,[1,2]⟩
noncomputable def z7k:FI dat:=FI.of dat 161 27 1 [(.ptr 0 0),dS] [(.cells [(.own 1),(.own 2),dB]),.rig,.rig] [dU] [(.cells [(.own 1),(.own 2),dB]),.rig,.rig] false zr2 (R:=Int×Bool) (λx=>(x.1,x.2.1)) (λr=>(r.1,r.2,())) (λn=>u2 (z56 n))
 (λn=>[(0,⟨⟨[(5,dI)],[(.cells [(.own 1),(.own 2),dB]),.rig,.rig],1,27,[1,2]⟩,u2 (z1u n)⟩)]) (anb [(6,0)] f161) [1,2]
noncomputable def zrx:List (FI dat):=[zgo]
theorem zrd:(z7k).Good prog dat (tb zrx):=FI.z2e (hD:=kze _) func161 ntmps161 call161 (by kernel_rfl) (Qac (by kernel_rfl)) (by kernel_rfl) (λn=>by kernel_rfl) (λx=>by kernel_rfl) (λ_=>rfl) ⟨λ_=>rfl,trivial⟩
 (λ_ _=>tr (z56.eq_2 ..))
 (λn=>⟨λ_=>tr (z1u.eq_2 _ _ n),
  trivial⟩)
 (λx=>.inr (by kernel_rfl))
theorem zrj:OkL prog [z7k]:=zko (kze _) (bs:=[zgo]) ⟨zxd,trivial⟩ zrd
theorem zob:FOk prog z7k:=zrj.1
noncomputable def zgt:FI dat:=yls dat 161 [(.ptr 0 0),dS] [dU] [] (R:=Int×Bool) (λr=>(r.1,r.2,())) (λn=>u2 (z56 n)) z7k
theorem zq5:FOk prog zgt:=λn=>y8o (kze _) rfl (zob n)
mutual
def z92:Nat->Int->B8->B8->Bool->z0r->zzx->yzf->Int->Ot (Bool×z0r×zzx×yzf×Int)
 |0,_,_,_,_,_,_,_,_=>none
 |n+1,a,b,c,d,e,f,g,h=>
  (zzu n [102,105,120,101,100,32,115,104,97,114,101,32,114,101,115,116]).bind λy0=>
  (kz8 n y0 b).bind λy1=>
  pIf (decide (y1>=0))
   ((z1t n c d).bind λy2=>
   (ix e a).bind λx3=>
   (ix e a).bind λx4=>
   pIf (decide ((x3.do_.length:Int)>0))
    ((zgw a a).bind λx5=>
    (ix e a).bind λx6=>
    (ix x3.do_ (IntKind.i64.wrap ((x3.do_.length:Int)-1))).bind λx7=>
    (ix x3.do_ (IntKind.i64.wrap ((x3.do_.length:Int)-1))).bind λx8=>
    (ix e a).bind λx9=>
    z3l n y2.2.1 y2.1 y1 (x3.do_.length:Int) a (x8.kind==5) y2.2.2 (e.set (Int.toNat a) (kz6.mk x9.weight x9.when_.re x3.do_)) f g h)
    ((ix e a).bind λx10=>
    z3l n y2.2.1 y2.1 y1 (x3.do_.length:Int) a false y2.2.2 (e.set (Int.toNat a) (kz6.mk x10.weight x10.when_.re x3.do_)) f g h))
   ((zzu n [99,97,108,108,32,109,111,118,101,32,115,105,122,101,32,116,117,114,110,32,115,112,108,105,116,32,108,101,97,102]).bind λy11=>
   (kz8 n y11 b).bind λy12=>
   pIf ((IntKind.u8.wrap (IntKind.i64.wrap (y12+1)))==0)
    (kzn n a false e f g h (IntKind.u8.wrap (IntKind.i64.wrap (y12+1))) 0 [] [] [])
    (pIf ((IntKind.u8.wrap (IntKind.i64.wrap (y12+1)))==6)
      ((z0d n c d).bind λy13=>
      kzn n a y13.1 e f g h (IntKind.u8.wrap (IntKind.i64.wrap (y12+1))) 0 [] [y13.2.re] [])
      (pIf ((IntKind.u8.wrap (IntKind.i64.wrap (y12+1)))==5)
        ((z56 n c d).bind λy14=>
        kzn n a y14.2 e f g h (IntKind.u8.wrap (IntKind.i64.wrap (y12+1))) y14.1 [] [] [])
        (pIf ((IntKind.u8.wrap (IntKind.i64.wrap (y12+1)))==4)
          ((z54 n c [32]).bind λy15=>
          (z56 n y15.1 d).bind λy16=>
          (z1t n y15.2.1 y16.2).bind λy17=>
          kzn n a y17.2.2 e f g h (IntKind.u8.wrap (IntKind.i64.wrap (y12+1))) y16.1 y17.1 y17.2.1 [])
          ((z1t n c d).bind λy18=>
          kzn n a y18.2.2 e f g h (IntKind.u8.wrap (IntKind.i64.wrap (y12+1))) 0 y18.1 y18.2.1 [])))))
def z3l:Nat->zz7->B8->Int->Int->Int->Bool->Bool->z0r->zzx->yzf->Int->Ot (Bool×z0r×zzx×yzf×Int)
 |0,_,_,_,_,_,_,_,_,_,_,_=>none
 |n+1,a,b,c,d,e,f,g,h,i,j,k=>
  pIf f
   ((ix h e).bind λx19=>
   (ix x19.do_ (IntKind.i64.wrap (d-1))).bind λx20=>
   (zgw e e).bind λx21=>
   (ix h e).bind λx22=>
   (zgw e e).bind λx23=>
   (ix h e).bind λx24=>
   (ix x19.do_ (IntKind.i64.wrap (d-1))).bind λx25=>
   (zgw (IntKind.i64.wrap (d-1)) (IntKind.i64.wrap (d-1))).bind λx26=>
   (ix x19.do_ (IntKind.i64.wrap (d-1))).bind λx27=>
   (ext x20.items [(zzj.mk (IntKind.u8.wrap (IntKind.i64.wrap (c+1))) b a)]).bind λx28=>
   (ix x19.do_ (IntKind.i64.wrap (d-1))).bind λx29=>
   (zgw (IntKind.i64.wrap (d-1)) (IntKind.i64.wrap (d-1))).bind λx30=>
   (ix x19.do_ (IntKind.i64.wrap (d-1))).bind λx31=>
   (ix x19.do_ (IntKind.i64.wrap (d-1))).bind λx32=>
   (ix h e).bind λx33=>
   some (g,(h.set (Int.toNat e) (kz6.mk x33.weight x33.when_.re (x19.do_.set (Int.toNat (IntKind.i64.wrap (d-1))) (kz3.mk x32.kind x32.axis x32.name x32.args x28)))),i,j,k))
   (some (false,h,i,j,k))
def kzn:Nat->Int->Bool->z0r->zzx->yzf->Int->Int->Int->B8->zz7->znj->Ot (Bool×z0r×zzx×yzf×Int)
 |0,_,_,_,_,_,_,_,_,_,_,_=>none
 |n+1,a,b,c,d,e,f,g,h,i,j,k=>
  (ix c a).bind λx34=>
  (zgw a a).bind λx35=>
  (ix c a).bind λx36=>
  (ext x34.do_ [(kz3.mk g h i j [])]).bind λx37=>
  (zgw a a).bind λx38=>
  (ix c a).bind λx39=>
  (ix x37 (x34.do_.length:Int)).bind λx40=>
  (ix c a).bind λx41=>
  some (b,(c.set (Int.toNat a) (kz6.mk x41.weight x41.when_.re (x37.set (Int.toNat (x34.do_.length:Int)) (kz3.mk x40.kind x40.axis x40.name x40.args k)))),d,e,f)
end
def zoe:LSh:=⟨[],[(.cells [(.own 2),(.own 3),dB]),(.deep 57 9),(.acc 49 (.st 6) true),(.deeph 47 10 2 1)],1,138,[1,2]⟩
noncomputable def zez:FI dat:=FI.of dat 104 138 1 [(.ptr 0 0),(.dp 1 0),dS,dS] [(.cells [(.own 2),(.own 3),dB]),(.deep 57 9),(.acc 49 (.st 6) true),(.deeph 47 10 2 1)] [] [(.cells [(.own 2),(.own 3),dB]),(.deep 57 9),(.acc 49 (.st 6) true),(.deeph 47 10 2 1)] false zoe (R:=Bool×z0r×zzx×yzf×Int) (λx=>(x.1,x.2.1,x.2.2.1,x.2.2.2.1,x.2.2.2.2.1)) (λr=>(r.1,r.2.1,r.2.2.1,r.2.2.2.1,r.2.2.2.2,())) (λn=>u8 (z92 n))
 (λn=>[(0,⟨⟨[(10,dL 5),(9,dS),(8,dI),(11,dI),(1,(.dp 1 0)),(0,(.ptr 0 0)),(45,dB)],[(.cells [(.own 2),(.own 3),dB]),(.deep 57 9),(.acc 49 (.st 6) true),(.deeph 47 10 2 1)],1,138,[1,2]⟩,u11 (z3l n)⟩),(1,⟨⟨[(12,(.ptr 4 0)),(1,(.dp 1 0))],[(.cells [(.own 2),(.own 3),dB]),(.deep 57 9),(.acc 49 (.st 6) true),(.deeph 47 10 2 1),(.cells [dU,dU,dS,dL 5,(.own 5)]),(.acc 43 (.st 7) true)],1,138,[1,2]⟩,u11 (kzn n)⟩)]) (anb [(13,0),(49,1)] f104) [1,2]
theorem zmy:FOk prog zez:=okF (bs:=[zgu,z60,zgt,z1y,yzo,z9z]) ⟨zpw,zb0,zq5,z7u,z0y,ze2,trivial⟩ func104 ntmps104 call104
 (λ_ _=>tr (z92.eq_2 ..))
 (λn=>⟨λ_=>tr (z3l.eq_2 _ _ _ _ _ _ _ _ _ _ _ n),
  λ_=>tr (kzn.eq_2 _ _ _ _ _ _ _ _ _ _ _ n),
  trivial⟩)
mutual
def zaw:Nat->B8->Bool->zzx->yzf->Ot (Bool×zzx×yzf)
 |0,_,_,_,_=>none
 |n+1,a,b,c,d=>
  (z54 n a [32]).bind λy0=>
  pIf (y0.1==[97,116,116,114])
   (z5k n y0.2.1 (d.length:Int) y0.1 ((d.length:Int)==0) b c d)
   (z5k n y0.2.1 (d.length:Int) y0.1 false b c d)
def z5k:Nat->B8->Int->B8->Bool->Bool->zzx->yzf->Ot (Bool×zzx×yzf)
 |0,_,_,_,_,_,_,_=>none
 |n+1,a,b,c,d,e,f,g=>
  pIf d
   ((z54 n a [32]).bind λy1=>
   (z0d n y1.2.1 e).bind λy2=>
   (ext f [(kzh.mk y1.1 y2.2.re)]).bind λx3=>
   some (y2.1,x3,g))
   (pIf (c==[114,117,108,101])
     ((zbt n a [32]).bind λy4=>
     (ix y4 0).bind λx5=>
     (sub y4 1 (y4.length:Int)).bind λx6=>
     (ext g [(yz5.mk x5 x6 [])]).bind λx7=>
     some (e,f,x7))
     (pIf (b==0)
       (some (false,f,g))
       (pIf (c==[99,97,115,101])
         ((z54 n a [32]).bind λy8=>
         (zcz n y8.1).bind λy9=>
         zkg y9 (λr10=>
          pIf e
           (z0a n y8.2.1 r10 b true f g)
           (z0a n y8.2.1 r10 b false f g))
          (λe11=>
          pIf e
           (z0a n y8.2.1 e11.1 b false f g)
           (z0a n y8.2.1 e11.1 b false f g)))
         ((ix g (IntKind.i64.wrap (b-1))).bind λx12=>
         (ix g (IntKind.i64.wrap (b-1))).bind λx13=>
         (ix g (IntKind.i64.wrap (b-1))).bind λx14=>
         pIf (decide ((x13.cases.length:Int)>0))
          ((ix g (IntKind.i64.wrap (b-1))).bind λx15=>
          (zgw (IntKind.i64.wrap (b-1)) (IntKind.i64.wrap (b-1))).bind λx16=>
          (ix g (IntKind.i64.wrap (b-1))).bind λx17=>
          (ix x13.cases (IntKind.i64.wrap ((x13.cases.length:Int)-1))).bind λx18=>
          (z92 n (IntKind.i64.wrap ((x13.cases.length:Int)-1)) c a e x13.cases f g (IntKind.i64.wrap (b-1))).bind λy19=>
          (ix y19.2.2.2.1 y19.2.2.2.2).bind λx20=>
          some (y19.1,y19.2.2.1,(y19.2.2.2.1.set (Int.toNat y19.2.2.2.2) (yz5.mk x20.name x20.params y19.2.1))))
          ((ix g (IntKind.i64.wrap (b-1))).bind λx21=>
          some (false,f,(g.set (Int.toNat (IntKind.i64.wrap (b-1))) (yz5.mk x21.name x21.params x13.cases))))))))
def z0a:Nat->B8->Int->Int->Bool->zzx->yzf->Ot (Bool×zzx×yzf)
 |0,_,_,_,_,_,_=>none
 |n+1,a,b,c,d,e,f=>
  (ix f (IntKind.i64.wrap (c-1))).bind λx22=>
  (ix f (IntKind.i64.wrap (c-1))).bind λx23=>
  (zgw (IntKind.i64.wrap (c-1)) (IntKind.i64.wrap (c-1))).bind λx24=>
  (ix f (IntKind.i64.wrap (c-1))).bind λx25=>
  (z0d n a d).bind λy26=>
  (ext x22.cases [(kz6.mk b y26.2.re [])]).bind λx27=>
  (ix f (IntKind.i64.wrap (c-1))).bind λx28=>
  (zgw (IntKind.i64.wrap (c-1)) (IntKind.i64.wrap (c-1))).bind λx29=>
  (ix f (IntKind.i64.wrap (c-1))).bind λx30=>
  (ix f (IntKind.i64.wrap (c-1))).bind λx31=>
  some (y26.1,e,(f.set (Int.toNat (IntKind.i64.wrap (c-1))) (yz5.mk x31.name x31.params x27)))
end
def zr8:LSh:=⟨[],[(.cells [(.own 1),(.own 2),dB]),(.acc 49 (.st 6) true),(.deep 47 10)],1,171,[]⟩
noncomputable def zcb:FI dat:=FI.of dat 43 171 1 [(.ptr 0 0),dS] [(.cells [(.own 1),(.own 2),dB]),(.acc 49 (.st 6) true),(.deep 47 10)] [] [(.cells [(.own 1),(.own 2),dB]),(.acc 49 (.st 6) true),(.deep 47 10)] false zr8 (R:=Bool×zzx×yzf) (λx=>(x.1,x.2.1,x.2.2.1)) (λr=>(r.1,r.2.1,r.2.2,())) (λn=>u4 (zaw n))
 (λn=>[(0,⟨⟨[(0,(.ptr 0 0)),(5,dS),(7,dI),(4,dS),(63,dB)],[(.cells [(.own 1),(.own 2),dB]),(.acc 49 (.st 6) true),(.deep 47 10)],1,171,[]⟩,u7 (z5k n)⟩),(1,⟨⟨[(13,dS),(0,(.ptr 0 0)),(15,dI),(7,dI)],[(.cells [(.own 1),(.own 2),dB]),(.acc 49 (.st 6) true),(.deep 47 10)],1,171,[]⟩,u6 (z0a n)⟩)]) (anb [(7,0),(30,1)] f43)
theorem zog:FOk prog zcb:=okF (bs:=[z60,zoi,zez,z9z,zny]) ⟨zb0,y05,zmy,ze2,zwx,trivial⟩ func43 ntmps43 call43
 (λ_ _=>tr (zaw.eq_2 ..))
 (λn=>⟨λ_=>tr (z5k.eq_2 ..),
  λ_=>tr (z0a.eq_2 ..),
  trivial⟩)
mutual
noncomputable def zi7:Nat->B8->Ot (yz0×Int)
 |0,_=>none
 |n+1,a=>
  pIf (decide ((a.length:Int)>20000))
   (some ((yz0.mk [] []),12))
   (pIf (!(a==[]))
     ((zap n a [10]).bind λy0=>
     pIf (!y0)
      (some ((yz0.mk [] []),12))
      ((zbg n a).bind λy1=>
      z7j n a y1 0 [] [] true [] []))
     ((zbg n a).bind λy2=>
     z7j n a y2 0 [] [] true [] []))
noncomputable def z7j:Nat->B8->B8->Int->zzx->yzf->Bool->zzx->yzf->Ot (yz0×Int)
 |0,_,_,_,_,_,_,_,_=>none
 |n+1,a,b,c,d,e,f,g,h=>
  (if b.length<=4611686018427387904 then (Option.some ())else Option.none).bind λx3=>
  pIf (noS b)
   ((zfd n (yz0.mk g h)).bind λy4=>
   pIf (y4.2 != 0)
    (some ((yz0.mk [] []),12))
    (pIf (!(y4.1==a))
      (some ((yz0.mk [] []),12))
      (some ((yz0.mk g h),0))))
   ((za2 n (lnA b) [10]).bind λy5=>
   (zaw n y5 f g h).bind λy6=>
   pIf (!y6.1)
    (some ((yz0.mk [] []),12))
    ((yll (lnB b) (lnB b)).bind λx7=>
    z7j n a (lnB b) c d e y6.1 y6.2.1 y6.2.2))
end
def y5i:LSh:=⟨[(2,(.ptr 0 0)),(3,(.ptr 1 0))],[(.st 11),(.cells [dI])],0,56,[]⟩
noncomputable def zfg:FI dat:=FI.ofM dat 14 56 0 [dS] [] [dT 11,dI] [] y5i (R:=yz0×Int) (λx=>(x.1,x.2.1)) (λr=>(r.1,r.2,())) (λn=>u1 (zi7 n))
 (λn=>[(0,⟨⟨[(24,(.fn 98 [] [(.ptr 0 0)])),(2,(.ptr 1 0)),(3,(.ptr 2 0)),(4,(.ptr 3 0)),(0,dS)],[(.cells [dS]),(.cells [(.own 4),(.own 5)]),(.cells [dI]),(.cells [(.ptr 6 0)]),(.acc 49 (.st 6) true),(.deep 47 10),(.cells [(.own 7),(.own 8),dB]),(.acc 49 (.st 6) true),(.deep 47 10)],0,56,[]⟩,u8 (z7j n)⟩)]) (anb [(16,0),(1000016,98)] f14)
noncomputable def y56:List (FI dat):=[z9i,zcb,zcc,zhh,zau]
theorem y4v:(zfg).Good prog dat (tb y56):=FI.yo4 (hD:=kze _) func14 ntmps14 call14 (by kernel_rfl) (Qac (by kernel_rfl)) (by kernel_rfl) (λn=>by kernel_rfl) (λx=>by kernel_rfl) (λ_=>rfl) ⟨λ_=>rfl,trivial⟩
 (λn=>λ_=>tr (zi7.eq_2 _ n))
 (λn=>⟨λ_=>tr (z7j.eq_2 _ _ _ _ _ _ _ _ n),
  trivial⟩)
 (yq2 (by kernel_rfl) ykl)
theorem y61:OkL prog [zfg]:=zko (kze _) (bs:=[z9i,zcb,zcc,zhh,zau]) ⟨zwz,zog,zpo,zsf,zo4,trivial⟩ y4v
theorem y4d:FOk prog zfg:=y61.1
def z9t:Nat->yz5->B8->Ot (Bool×B8)
 |0,_,_=>none
 |n+1,a,b=>
  some ((a.name==b),b)
def ya5:LSh:=⟨[(3,dB)],[(.cells [dS])],1,8,[]⟩
noncomputable def zv2:FI dat:=FI.of dat 107 8 1 [dT 10,(.ptr 0 0)] [(.cells [dS])] [dB] [(.cells [dS])] false ya5 (R:=Bool×B8) (λx=>(x.1,x.2.1)) (λr=>(r.1,r.2,())) (λn=>u2 (z9t n))
 (λn=>[]) (anb [] f107)
theorem y51:FOk prog zv2:=okF (bs:=[]) trivial func107 ntmps107 call107
 (λn=>λ_=>tr (z9t.eq_2 _ _ n))
 (λn=>trivial)
mutual
def zzf:Nat->yzf->B8->Ot (Int×B8)
 |0,_,_=>none
 |n+1,a,b=>
  kz7 n 0 a (a.length:Int) b
def kz7:Nat->Int->yzf->Int->B8->Ot (Int×B8)
 |0,_,_,_,_=>none
 |n+1,a,b,c,d=>
  pIf (decide (a<c))
   ((ix b a).bind λx0=>
   (z9t n x0 d).bind λy1=>
   pIf y1.1
    (some (a,y1.2))
    (kz7 n (IntKind.i64.wrap (a+1)) b c y1.2))
   (some ((-1),d))
end
def zce:LSh:=⟨[(4,dI)],[(.cells [dS])],1,19,[]⟩
noncomputable def z5y:FI dat:=FI.of dat 106 19 1 [dL 10,(.fn 107 [] [(.ptr 0 0)])] [(.cells [dS])] [dI] [(.cells [dS])] false zce (R:=Int×B8) (λx=>(x.1,x.2.1)) (λr=>(r.1,r.2,())) (λn=>u2 (zzf n))
 (λn=>[(0,⟨⟨[(8,dI),(0,dL 10),(1,(.fn 107 [] [(.ptr 0 0)])),(7,dI)],[(.cells [dS])],1,19,[]⟩,u4 (kz7 n)⟩)]) (anb [(6,0)] f106)
theorem zbr:FOk prog z5y:=okF (bs:=[zv2]) ⟨y51,trivial⟩ func106 ntmps106 call106
 (λ_ _=>tr (zzf.eq_2 ..))
 (λn=>⟨λ_=>tr (kz7.eq_2 ..),
  trivial⟩)
def z8x:Nat->yz0->B8->Ot Int
 |0,_,_=>none
 |n+1,a,b=>
  (zzf n a.rules b).bind λy0=>
  some y0.1
def yfn:LSh:=⟨[(4,dI)],[],0,9,[]⟩
noncomputable def ztb:FI dat:=FI.of dat 45 9 0 [dT 11,dS] [] [dI] [] true yfn (R:=Int) Prod.fst (·,()) (λn=>u2 (z8x n))
 (λn=>[]) (anb [] f45)
theorem zyc:FOk prog ztb:=okF (bs:=[z5y]) ⟨zbr,trivial⟩ func45 ntmps45 call45
 (λ_ _=>tr (z8x.eq_2 ..))
 (λn=>trivial)
mutual
noncomputable def z34:Nat->yz0->B8->Ot ((List B8)×Int)
 |0,_,_=>none
 |n+1,a,b=>
  (z1d n a).bind λy0=>
  pIf (y0 != 0)
   (some ([],y0))
   ((z8x n a b).bind λy1=>
   pIf (decide (y1<0))
    (some ([],6))
    (z2a n 0 [b] (mks (z8l [] b true)) (mvs (z8l [] b true)) a))
noncomputable def z2a:Nat->Int->(List B8)->(List B8)->(List Bool)->yz0->Ot ((List B8)×Int)
 |0,_,_,_,_,_=>none
 |n+1,a,b,c,d,e=>
  pIf (decide (a<(b.length:Int)))
   ((ix b a).bind λx2=>
   (z8x n e x2).bind λy3=>
   (ix e.rules y3).bind λx4=>
   (z55 n x4).bind λy5=>
   z30 n 0 y5 a (y5.length:Int) b (mks (List.zip c d)) (mvs (List.zip c d)) e)
   ((kzd n b).bind λy6=>
   some (y6,0))
noncomputable def z30:Nat->Int->z5a->Int->Int->(List B8)->(List B8)->(List Bool)->yz0->Ot ((List B8)×Int)
 |0,_,_,_,_,_,_,_,_=>none
 |n+1,a,b,c,d,e,f,g,h=>
  pIf (decide (a<d))
   ((ix b a).bind λx7=>
   pIf (!(Option.getD (z58 (List.zip f g) x7.name) false))
    ((ext e [x7.name]).bind λx8=>
    z5l n b c d a x8 (mks (z8l (List.zip f g) x7.name true)) (mvs (z8l (List.zip f g) x7.name true)) h)
    (z5l n b c d a e (mks (List.zip f g)) (mvs (List.zip f g)) h))
   (z2a n (IntKind.i64.wrap (c+1)) e (mks (List.zip f g)) (mvs (List.zip f g)) h)
noncomputable def z5l:Nat->z5a->Int->Int->Int->(List B8)->(List B8)->(List Bool)->yz0->Ot ((List B8)×Int)
 |0,_,_,_,_,_,_,_,_=>none
 |n+1,a,b,c,d,e,f,g,h=>
  z30 n (IntKind.i64.wrap (d+1)) a b c e (mks (List.zip f g)) (mvs (List.zip f g)) h
end
def y5u:LSh:=⟨[(4,dA),(5,dI)],[],0,65,[]⟩
noncomputable def zkh:FI dat:=FI.of dat 15 65 0 [dT 11,dS] [] [dA,dI] [] true y5u (R:=(List B8)×Int) (λx=>(x.1,x.2.1)) (λr=>(r.1,r.2,())) (λn=>u2 (z34 n))
 (λn=>[(0,⟨⟨[(8,(.own 0)),(7,(.map 1)),(9,dI),(2,(.ptr 2 0))],[(.acc 9 .str true),(.mp 76 .bool),(.st 11)],0,65,[]⟩,u5 (z2a n)⟩),(1,⟨⟨[(44,dI),(8,(.own 0)),(7,(.map 1)),(42,dL 12),(2,(.ptr 2 0)),(9,dI),(43,dI)],[(.acc 9 .str true),(.mp 76 .bool),(.st 11)],0,65,[]⟩,u8 (z30 n)⟩),(2,⟨⟨[(8,(.own 0)),(7,(.map 1)),(42,dL 12),(2,(.ptr 2 0)),(9,dI),(43,dI),(44,dI)],[(.acc 9 .str true),(.mp 76 .bool),(.st 11)],0,65,[]⟩,u8 (z5l n)⟩)]) (anb [(28,0),(40,1),(58,2)] f15)
theorem zp8:FOk prog zkh:=okF (bs:=[z05,zco,ztb,zff]) ⟨z5u,ze1,zyc,zis,trivial⟩ func15 ntmps15 call15
 (λn=>λ_=>tr (z34.eq_2 _ _ n))
 (λn=>⟨λ_=>tr (z2a.eq_2 _ _ _ _ _ n),
  λ_=>tr (z30.eq_2 _ _ _ _ _ _ _ _ n),
  λ_=>tr (z5l.eq_2 _ _ _ _ _ _ _ _ n),
  trivial⟩)
mutual
noncomputable def z4x:Nat->yz0->B8->Ot ((List B8)×Int)
 |0,_,_=>none
 |n+1,a,b=>
  (z1d n a).bind λy0=>
  pIf (y0 != 0)
   (some ([],y0))
   ((z8x n a b).bind λy1=>
   pIf (decide (y1<0))
    (some ([],6))
    ((ix a.rules y1).bind λx2=>
    (z55 n x2).bind λy3=>
    z2w n 0 y3 (y3.length:Int) []))
noncomputable def z2w:Nat->Int->z5a->Int->(List B8)->Ot ((List B8)×Int)
 |0,_,_,_,_=>none
 |n+1,a,b,c,d=>
  pIf (decide (a<c))
   ((ix b a).bind λx4=>
   (ext d [x4.name]).bind λx5=>
   z2w n (IntKind.i64.wrap (a+1)) b c x5)
   ((kzd n d).bind λy6=>
   (z3e n y6).bind λy7=>
   some (y7,0))
end
def y6p:LSh:=⟨[(4,dA),(5,dI)],[],0,42,[]⟩
noncomputable def zkl:FI dat:=FI.of dat 19 42 0 [dT 11,dS] [] [dA,dI] [] true y6p (R:=(List B8)×Int) (λx=>(x.1,x.2.1)) (λr=>(r.1,r.2,())) (λn=>u2 (z4x n))
 (λn=>[(0,⟨⟨[(28,dI),(8,(.own 0)),(26,dL 12),(27,dI)],[(.acc 9 .str true)],0,42,[]⟩,u4 (z2w n)⟩)]) (anb [(28,0)] f19)
theorem zou:FOk prog zkl:=okF (bs:=[z05,z8r,zco,ztb,zff]) ⟨z5u,zes,ze1,zyc,zis,trivial⟩ func19 ntmps19 call19
 (λn=>λ_=>tr (z4x.eq_2 _ _ n))
 (λn=>⟨λ_=>tr (z2w.eq_2 _ _ _ _ n),
  trivial⟩)
mutual
def zzm:Nat->(List B8)->(List B8)->Ot Bool
 |0,_,_=>none
 |n+1,a,b=>
  pIf ((a.length:Int) != (b.length:Int))
   (some false)
   (kzt n 0 b a)
def kzt:Nat->Int->(List B8)->(List B8)->Ot Bool
 |0,_,_,_=>none
 |n+1,a,b,c=>
  pIf (decide (a<(c.length:Int)))
   ((ix c a).bind λx0=>
   (ix b a).bind λx1=>
   pIf (!(x0==x1))
    (some false)
    (kzt n (IntKind.i64.wrap (a+1)) b c))
   (some true)
end
def zrp:LSh:=⟨[(4,dB)],[],0,26,[]⟩
noncomputable def zc6:FI dat:=FI.of dat 22 26 0 [dA,dA] [] [dB] [] true zrp (R:=Bool) Prod.fst (·,()) (λn=>u2 (zzm n))
 (λn=>[(0,⟨⟨[(5,dI),(1,dA),(0,dA)],[],0,26,[]⟩,u3 (kzt n)⟩)]) (anb [(14,0)] f22)
theorem zg0:FOk prog zc6:=okF (bs:=[]) trivial func22 ntmps22 call22
 (λ_ _=>tr (zzm.eq_2 ..))
 (λn=>⟨λ_=>tr (kzt.eq_2 ..),
  trivial⟩)
noncomputable def zzz:Nat->Option Bool
 |0=>none
 |n+1=>
  (zi7 n (List.append (List.append [97,116,116,114,32,102,108,111,111,114,32,51,10,114,117,108,101,32,104,111,117,115,101,32,110,10,99,97,115,101,32,49,32,40,110,32,60,32,49] [41,10,108,101,97,102,32,34,114,111,111,102,34,10,99,97,115,101,32,49,32,110,111,116,40,40,110,32,60,32,49,41,41,10,115,112,108,105,116,32]) (List.append [122,10,102,105,120,101,100,32,119,97,108,108,32,91,102,108,111,111,114,93,10,114,101,115,116,32,104,111,117,115,101,32,91,49,44,32,40,110,32,45] [32,49,41,93,10,114,117,108,101,32,119,97,108,108,10,99,97,115,101,32,50,32,116,114,117,101,10,108,101,97,102,32,34,98,114,105,99,107,34,10]))).bind λy0=>
  (zfd n y0.1).bind λy1=>
  (z4x n y0.1 [104,111,117,115,101]).bind λy2=>
  (z34 n y0.1 [104,111,117,115,101]).bind λy3=>
  (z34 n y0.1 [119,97,108,108]).bind λy4=>
  pIf (y0.2==0)
   (pIf ((y0.1.attrs.length:Int)==1)
     (pIf ((y0.1.rules.length:Int)==2)
       (pIf (y1.2==0)
         (pIf (y1.1==(List.append (List.append [97,116,116,114,32,102,108,111,111,114,32,51,10,114,117,108,101,32,104,111,117,115,101,32,110,10,99,97,115,101,32,49,32,40,110,32,60,32,49] [41,10,108,101,97,102,32,34,114,111,111,102,34,10,99,97,115,101,32,49,32,110,111,116,40,40,110,32,60,32,49,41,41,10,115,112,108,105,116,32]) (List.append [122,10,102,105,120,101,100,32,119,97,108,108,32,91,102,108,111,111,114,93,10,114,101,115,116,32,104,111,117,115,101,32,91,49,44,32,40,110,32,45] [32,49,41,93,10,114,117,108,101,32,119,97,108,108,10,99,97,115,101,32,50,32,116,114,117,101,10,108,101,97,102,32,34,98,114,105,99,107,34,10])))
           (pIf (y2.2==0)
             ((zzm n y2.1 [[104,111,117,115,101],[119,97,108,108]]).bind λy5=>
             pIf y5
              (pIf (y3.2==0)
                ((zzm n y3.1 [[104,111,117,115,101],[119,97,108,108]]).bind λy6=>
                pIf y6
                 (pIf (y4.2==0)
                   ((zzm n y4.1 [[119,97,108,108]]).bind λy7=>
                   some y7)
                   (some false))
                 (some false))
                (some false))
              (some false))
             (some false))
           (some false))
         (some false))
       (some false))
     (some false))
   (some false)
def zqf:LSh:=⟨[(0,dB)],[],0,84,[]⟩
noncomputable def zg1:FI dat:=FI.of dat 16 84 0 [] [] [dB] [] true zqf (R:=Bool) Prod.fst (·,()) (λn x=>zzz n)
 (λn=>[]) (anb [] f16)
theorem zo3:FOk prog zg1:=okF (bs:=[zfg,zhh,zkl,zkh,zc6]) ⟨y4d,zsf,zou,zp8,zg0,trivial⟩ func16 ntmps16 call16
 (λn=>λx=>(zzz.eq_2 n).trans (by kernel_rfl))
 (λn=>trivial)
mutual
def z6s:Nat->zz0->Int->Ot Bool
 |0,_,_=>none
 |n+1,a,b=>
  pIf (b==0)
   (z19 n b true a.re)
   (pIf (decide ((a.str.length:Int)>200))
     (z19 n b true a.re)
     (z19 n b (decide ((a.list.length:Int)>150)) a.re))
def z19:Nat->Int->Bool->zz0->Ot Bool
 |0,_,_,_=>none
 |n+1,a,b,c=>
  pIf b
   (some true)
   (z2t n 0 a c.re)
def z2t:Nat->Int->Int->zz0->Ot Bool
 |0,_,_,_=>none
 |n+1,a,b,c=>
  pIf (decide (a<(c.list.length:Int)))
   ((ix c.list a).bind λx0=>
   (z6s n x0.re (IntKind.i64.wrap (b-1))).bind λy1=>
   pIf y1
    (some true)
    (z2t n (IntKind.i64.wrap (a+1)) b c.re))
   (some false)
end
def y4u:LSh:=⟨[(4,dB)],[],0,35,[]⟩
noncomputable def zck:FI dat:=FI.of dat 215 35 0 [dT 4,dI] [] [dB] [] true y4u (R:=Bool) Prod.fst (·,()) (λn=>u2 (z6s n))
 (λn=>[(0,⟨⟨[(1,dI),(2,(.ptr 0 0)),(19,dB)],[(.st 4)],0,35,[]⟩,u3 (z19 n)⟩),(1,⟨⟨[(5,dI),(1,dI),(2,(.ptr 0 0))],[(.st 4)],0,35,[]⟩,u3 (z2t n)⟩)]) (anb [(5,0),(14,1)] f215)
noncomputable def y6o:List (FI dat):=[zck]++[]
theorem y5x:(zck).Good prog dat (tb y6o):=FI.z2e (hD:=kze _) func215 ntmps215 call215 (by kernel_rfl) (Qac (by kernel_rfl)) (by kernel_rfl) (λn=>by kernel_rfl) (λx=>by kernel_rfl) (λ_=>rfl) ⟨λ_=>rfl,λ_=>rfl,trivial⟩
 (λ_ _=>tr (z6s.eq_2 ..))
 (λn=>⟨λ_=>tr (z19.eq_2 ..),
  λ_=>tr (z2t.eq_2 ..),
  trivial⟩)
 (λx=>.inl rfl)
theorem y6r:OkL prog [zck]:=z8d (kze _) (bs:=[]) trivial ⟨y5x,trivial⟩
theorem y40:FOk prog zck:=y6r.1
mutual
def z6r:Nat->zz0->Ot Int
 |0,_=>none
 |n+1,a=>
  z2g n 0 1 a.re
def z2g:Nat->Int->Int->zz0->Ot Int
 |0,_,_,_=>none
 |n+1,a,b,c=>
  pIf (decide (a<(c.list.length:Int)))
   (z2x n a b (c.kind==4) c.re)
   (z2x n a b false c.re)
def z2x:Nat->Int->Int->Bool->zz0->Ot Int
 |0,_,_,_,_=>none
 |n+1,a,b,c,d=>
  pIf c
   ((ix d.list a).bind λx0=>
   (z6r n x0.re).bind λy1=>
   z2g n (IntKind.i64.wrap (a+1)) (IntKind.i64.wrap (b+y1)) d.re)
   (some b)
end
def y6s:LSh:=⟨[(2,dI)],[],0,26,[]⟩
noncomputable def zcr:FI dat:=FI.of dat 216 26 0 [dT 4] [] [dI] [] true y6s (R:=Int) Prod.fst (·,()) (λn=>u1 (z6r n))
 (λn=>[(0,⟨⟨[(4,dI),(1,(.ptr 0 0)),(3,dI)],[(.st 4)],0,26,[]⟩,u3 (z2g n)⟩),(1,⟨⟨[(1,(.ptr 0 0)),(4,dI),(3,dI),(14,dB)],[(.st 4)],0,26,[]⟩,u4 (z2x n)⟩)]) (anb [(8,0),(12,1)] f216)
noncomputable def y6e:List (FI dat):=[zcr]++[]
theorem y6w:(zcr).Good prog dat (tb y6e):=FI.z2e (hD:=kze _) func216 ntmps216 call216 (by kernel_rfl) (Qac (by kernel_rfl)) (by kernel_rfl) (λn=>by kernel_rfl) (λx=>by kernel_rfl) (λ_=>rfl) ⟨λ_=>rfl,λ_=>rfl,trivial⟩
 (λ_ _=>tr (z6r.eq_2 ..))
 (λn=>⟨λ_=>tr (z2g.eq_2 ..),
  λ_=>tr (z2x.eq_2 ..),
  trivial⟩)
 (λx=>.inl rfl)
theorem y6f:OkL prog [zcr]:=z8d (kze _) (bs:=[]) trivial ⟨y6w,trivial⟩
theorem y3y:FOk prog zcr:=y6f.1
def z8q:Nat->zz0->Ot Bool
 |0,_=>none
 |n+1,a=>
  (z6s n a.re 10).bind λy0=>
  pIf y0
   (some true)
   ((z6r n a.re).bind λy1=>
   some (decide (y1>150)))
def y5l:LSh:=⟨[(2,dB)],[],0,10,[]⟩
noncomputable def zkm:FI dat:=FI.of dat 173 10 0 [dT 4] [] [dB] [] true y5l (R:=Bool) Prod.fst (·,()) (λn=>u1 (z8q n))
 (λn=>[]) (anb [] f173)
theorem y1v:FOk prog zkm:=okF (bs:=[zck,zcr]) ⟨y40,y3y,trivial⟩ func173 ntmps173 call173
 (λ_ _=>tr (z8q.eq_2 ..))
 (λn=>trivial)
mutual
def z6n:Nat->kz0->Int->Ot Bool
 |0,_,_=>none
 |n+1,a,b=>
  pIf (b==0)
   (z04 n b true a.re)
   (pIf (decide ((a.args.length:Int)>150))
     (z04 n b true a.re)
     (pIf (decide ((a.name.length:Int)>200))
       (z04 n b true a.re)
       ((z8q n a.value.re).bind λy0=>
       z04 n b y0 a.re)))
def z04:Nat->Int->Bool->kz0->Ot Bool
 |0,_,_,_=>none
 |n+1,a,b,c=>
  pIf b
   (some true)
   (z2b n 0 a c.re)
def z2b:Nat->Int->Int->kz0->Ot Bool
 |0,_,_,_=>none
 |n+1,a,b,c=>
  pIf (decide (a<(c.args.length:Int)))
   ((ix c.args a).bind λx1=>
   (z6n n x1.re (IntKind.i64.wrap (b-1))).bind λy2=>
   pIf y2
    (some true)
    (z2b n (IntKind.i64.wrap (a+1)) b c.re))
   (some false)
end
def y5o:LSh:=⟨[(4,dB)],[],0,40,[]⟩
noncomputable def zcm:FI dat:=FI.of dat 110 40 0 [dT 5,dI] [] [dB] [] true y5o (R:=Bool) Prod.fst (·,()) (λn=>u2 (z6n n))
 (λn=>[(0,⟨⟨[(1,dI),(2,(.ptr 0 0)),(24,dB)],[(.st 5)],0,40,[]⟩,u3 (z04 n)⟩),(1,⟨⟨[(5,dI),(1,dI),(2,(.ptr 0 0))],[(.st 5)],0,40,[]⟩,u3 (z2b n)⟩)]) (anb [(5,0),(14,1)] f110)
noncomputable def y6h:List (FI dat):=[zcm]++[zkm]
theorem y5z:(zcm).Good prog dat (tb y6h):=FI.z2e (hD:=kze _) func110 ntmps110 call110 (by kernel_rfl) (Qac (by kernel_rfl)) (by kernel_rfl) (λn=>by kernel_rfl) (λx=>by kernel_rfl) (λ_=>rfl) ⟨λ_=>rfl,λ_=>rfl,trivial⟩
 (λ_ _=>tr (z6n.eq_2 ..))
 (λn=>⟨λ_=>tr (z04.eq_2 ..),
  λ_=>tr (z2b.eq_2 ..),
  trivial⟩)
 (λx=>.inl rfl)
theorem y53:OkL prog [zcm]:=z8d (kze _) (bs:=[zkm]) ⟨y1v,trivial⟩ ⟨y5z,trivial⟩
theorem y3h:FOk prog zcm:=y53.1
mutual
def z6q:Nat->kz0->Ot Int
 |0,_=>none
 |n+1,a=>
  z2l n 0 1 a.re
def z2l:Nat->Int->Int->kz0->Ot Int
 |0,_,_,_=>none
 |n+1,a,b,c=>
  pIf (decide (a<(c.args.length:Int)))
   ((ix c.args a).bind λx0=>
   (z6q n x0.re).bind λy1=>
   z2l n (IntKind.i64.wrap (a+1)) (IntKind.i64.wrap (b+y1)) c.re)
   (some b)
end
def y5k:LSh:=⟨[(2,dI)],[],0,21,[]⟩
noncomputable def zci:FI dat:=FI.of dat 111 21 0 [dT 5] [] [dI] [] true y5k (R:=Int) Prod.fst (·,()) (λn=>u1 (z6q n))
 (λn=>[(0,⟨⟨[(4,dI),(1,(.ptr 0 0)),(3,dI)],[(.st 5)],0,21,[]⟩,u3 (z2l n)⟩)]) (anb [(8,0)] f111)
noncomputable def y6z:List (FI dat):=[zci]++[]
theorem y4z:(zci).Good prog dat (tb y6z):=FI.z2e (hD:=kze _) func111 ntmps111 call111 (by kernel_rfl) (Qac (by kernel_rfl)) (by kernel_rfl) (λn=>by kernel_rfl) (λx=>by kernel_rfl) (λ_=>rfl) ⟨λ_=>rfl,trivial⟩
 (λ_ _=>tr (z6q.eq_2 ..))
 (λn=>⟨λ_=>tr (z2l.eq_2 ..),
  trivial⟩)
 (λx=>.inl rfl)
theorem y68:OkL prog [zci]:=z8d (kze _) (bs:=[]) trivial ⟨y4z,trivial⟩
theorem y2g:FOk prog zci:=y68.1
def z33:Nat->kz0->Ot Bool
 |0,_=>none
 |n+1,a=>
  (z6n n a.re 16).bind λy0=>
  pIf y0
   (some true)
   ((z6q n a.re).bind λy1=>
   some (decide (y1>150)))
def y75:LSh:=⟨[(2,dB)],[],0,10,[]⟩
noncomputable def zkw:FI dat:=FI.of dat 48 10 0 [dT 5] [] [dB] [] true y75 (R:=Bool) Prod.fst (·,()) (λn=>u1 (z33 n))
 (λn=>[]) (anb [] f48)
theorem zqe:FOk prog zkw:=okF (bs:=[zcm,zci]) ⟨y3h,y2g,trivial⟩ func48 ntmps48 call48
 (λ_ _=>tr (z33.eq_2 ..))
 (λn=>trivial)
def z4s:Nat->zz7->Ot kz0
 |0,_=>none
 |n+1,a=>
  some (kz0.mk 18 (zz0.mk 0 (yz4.mk 0 0) false [] []) [] a)
def yax:LSh:=⟨[(2,(.ptr 0 0))],[(.st 5)],0,5,[]⟩
noncomputable def zmz:FI dat:=FI.of dat 112 5 0 [dL 5] [] [dT 5] [] true yax (R:=kz0) Prod.fst (·,()) (λn=>u1 (z4s n))
 (λn=>[]) (anb [] f112)
theorem zsg:FOk prog zmz:=okF (bs:=[]) trivial func112 ntmps112 call112
 (λn=>λ_=>tr (z4s.eq_2 _ n))
 (λn=>trivial)
mutual
def z4g:Nat->kz6->Ot Bool
 |0,_=>none
 |n+1,a=>
  pIf (decide ((a.do_.length:Int)>15))
   (kzz n true a.re)
   ((z33 n a.when_.re).bind λy0=>
   kzz n y0 a.re)
def kzz:Nat->Bool->kz6->Ot Bool
 |0,_,_=>none
 |n+1,a,b=>
  pIf a
   (some true)
   (kzr n 0 b.re)
def kzr:Nat->Int->kz6->Ot Bool
 |0,_,_=>none
 |n+1,a,b=>
  pIf (decide (a<(b.do_.length:Int)))
   ((ix b.do_ a).bind λx1=>
   (z4s n x1.args).bind λy2=>
   (z33 n y2.re).bind λy3=>
   pIf y3
    (yzs n a true b.re)
    ((ix b.do_ a).bind λx4=>
    pIf (decide ((x4.items.length:Int)>15))
     (yzs n a true b.re)
     ((ix b.do_ a).bind λx5=>
     yzs n a (decide ((x5.name.length:Int)>100)) b.re)))
   (some false)
def yzs:Nat->Int->Bool->kz6->Ot Bool
 |0,_,_,_=>none
 |n+1,a,b,c=>
  pIf b
   (some true)
   (zzs n 0 a c.re)
def zzs:Nat->Int->Int->kz6->Ot Bool
 |0,_,_,_=>none
 |n+1,a,b,c=>
  (ix c.do_ b).bind λx6=>
  pIf (decide (a<(x6.items.length:Int)))
   ((ix c.do_ b).bind λx7=>
   (ix x7.items a).bind λx8=>
   (z4s n x8.args).bind λy9=>
   (z33 n y9.re).bind λy10=>
   pIf y10
    (z00 n b a true c.re)
    ((ix c.do_ b).bind λx11=>
    (ix x11.items a).bind λx12=>
    z00 n b a (decide ((x12.name.length:Int)>100)) c.re))
   (kzr n (IntKind.i64.wrap (b+1)) c.re)
def z00:Nat->Int->Int->Bool->kz6->Ot Bool
 |0,_,_,_,_=>none
 |n+1,a,b,c,d=>
  pIf c
   (some true)
   (zzs n (IntKind.i64.wrap (b+1)) a d.re)
end
def zv0:LSh:=⟨[(2,dB)],[],0,86,[]⟩
noncomputable def zjx:FI dat:=FI.of dat 49 86 0 [dT 9] [] [dB] [] true zv0 (R:=Bool) Prod.fst (·,()) (λn=>u1 (z4g n))
 (λn=>[(0,⟨⟨[(1,(.ptr 0 0)),(13,dB)],[(.st 9)],0,86,[]⟩,u2 (kzz n)⟩),(1,⟨⟨[(3,dI),(1,(.ptr 0 0))],[(.st 9)],0,86,[]⟩,u2 (kzr n)⟩),(2,⟨⟨[(3,dI),(1,(.ptr 0 0)),(48,dB)],[(.st 9)],0,86,[]⟩,u3 (yzs n)⟩),(3,⟨⟨[(4,dI),(3,dI),(1,(.ptr 0 0))],[(.st 9)],0,86,[]⟩,u3 (zzs n)⟩),(4,⟨⟨[(3,dI),(1,(.ptr 0 0)),(4,dI),(85,dB)],[(.st 9)],0,86,[]⟩,u4 (z00 n)⟩)]) (anb [(5,0),(14,1),(26,2),(34,3),(45,4)] f49)
theorem ztz:FOk prog zjx:=okF (bs:=[zkw,zmz]) ⟨zqe,zsg,trivial⟩ func49 ntmps49 call49
 (λ_ _=>tr (z4g.eq_2 ..))
 (λn=>⟨λ_=>tr (kzz.eq_2 ..),
  λ_=>tr (kzr.eq_2 ..),
  λ_=>tr (yzs.eq_2 ..),
  λ_=>tr (zzs.eq_2 ..),
  λ_=>tr (z00.eq_2 ..),
  trivial⟩)
mutual
def z8o:Nat->yz0->Ot Bool
 |0,_=>none
 |n+1,a=>
  pIf (decide ((a.attrs.length:Int)>25))
   (z2q n true a)
   (z2q n (decide ((a.rules.length:Int)>45)) a)
def z2q:Nat->Bool->yz0->Ot Bool
 |0,_,_=>none
 |n+1,a,b=>
  pIf a
   (some true)
   (z18 n 0 b)
def z18:Nat->Int->yz0->Ot Bool
 |0,_,_=>none
 |n+1,a,b=>
  pIf (decide (a<(b.attrs.length:Int)))
   ((ix b.attrs a).bind λx0=>
   (z33 n x0.value.re).bind λy1=>
   pIf y1
    (z2h n a true b)
    ((ix b.attrs a).bind λx2=>
    z2h n a (decide ((x2.name.length:Int)>100)) b))
   (z0x n 0 b)
def z2h:Nat->Int->Bool->yz0->Ot Bool
 |0,_,_,_=>none
 |n+1,a,b,c=>
  pIf b
   (some true)
   (z18 n (IntKind.i64.wrap (a+1)) c)
def z0x:Nat->Int->yz0->Ot Bool
 |0,_,_=>none
 |n+1,a,b=>
  pIf (decide (a<(b.rules.length:Int)))
   ((ix b.rules a).bind λx3=>
   pIf (decide ((x3.params.length:Int)>10))
    (z10 n a true x3 b)
    (pIf (decide ((x3.cases.length:Int)>10))
      (z10 n a true x3 b)
      (z10 n a (decide ((x3.name.length:Int)>100)) x3 b)))
   (some false)
def z10:Nat->Int->Bool->yz5->yz0->Ot Bool
 |0,_,_,_,_=>none
 |n+1,a,b,c,d=>
  pIf b
   (some true)
   (z0z n 0 a c d)
def z0z:Nat->Int->Int->yz5->yz0->Ot Bool
 |0,_,_,_,_=>none
 |n+1,a,b,c,d=>
  pIf (decide (a<(c.params.length:Int)))
   ((ix c.params a).bind λx4=>
   pIf (decide ((x4.length:Int)>100))
    (some true)
    (z0z n (IntKind.i64.wrap (a+1)) b c d))
   (z11 n 0 b c d)
def z11:Nat->Int->Int->yz5->yz0->Ot Bool
 |0,_,_,_,_=>none
 |n+1,a,b,c,d=>
  pIf (decide (a<(c.cases.length:Int)))
   ((ix c.cases a).bind λx5=>
   (z4g n x5.re).bind λy6=>
   pIf y6
    (some true)
    (z11 n (IntKind.i64.wrap (a+1)) b c d))
   (z0x n (IntKind.i64.wrap (b+1)) d)
end
def y5n:LSh:=⟨[(2,dB)],[],0,97,[]⟩
noncomputable def zsn:FI dat:=FI.of dat 20 97 0 [dT 11] [] [dB] [] true y5n (R:=Bool) Prod.fst (·,()) (λn=>u1 (z8o n))
 (λn=>[(0,⟨⟨[(1,(.ptr 0 0)),(17,dB)],[(.st 11)],0,97,[]⟩,u2 (z2q n)⟩),(1,⟨⟨[(3,dI),(1,(.ptr 0 0))],[(.st 11)],0,97,[]⟩,u2 (z18 n)⟩),(2,⟨⟨[(1,(.ptr 0 0)),(3,dI),(41,dB)],[(.st 11)],0,97,[]⟩,u3 (z2h n)⟩),(3,⟨⟨[(4,dI),(1,(.ptr 0 0))],[(.st 11)],0,97,[]⟩,u2 (z0x n)⟩),(4,⟨⟨[(5,(.ptr 0 0)),(1,(.ptr 1 0)),(4,dI),(69,dB)],[(.st 10),(.st 11)],0,97,[]⟩,u4 (z10 n)⟩),(5,⟨⟨[(6,dI),(5,(.ptr 0 0)),(1,(.ptr 1 0)),(4,dI)],[(.st 10),(.st 11)],0,97,[]⟩,u4 (z0z n)⟩),(6,⟨⟨[(7,dI),(5,(.ptr 0 0)),(1,(.ptr 1 0)),(4,dI)],[(.st 10),(.st 11)],0,97,[]⟩,u4 (z11 n)⟩)]) (anb [(5,0),(14,1),(25,2),(35,3),(49,4),(58,5),(78,6)] f20)
theorem y4r:FOk prog zsn:=okF (bs:=[zkw,zjx]) ⟨zqe,ztz,trivial⟩ func20 ntmps20 call20
 (λ_ _=>tr (z8o.eq_2 ..))
 (λn=>⟨λ_=>tr (z2q.eq_2 ..),
  λ_=>tr (z18.eq_2 ..),
  λ_=>tr (z2h.eq_2 ..),
  λ_=>tr (z0x.eq_2 ..),
  λ_=>tr (z10.eq_2 ..),
  λ_=>tr (z0z.eq_2 ..),
  λ_=>tr (z11.eq_2 ..),
  trivial⟩)
def zgh:Nat->Int->Ot Bool
 |0,_=>none
 |n+1,a=>
  pIf (decide (a>=97))
   (some (decide (a<=122)))
   (some false)
mutual
def z7w:Nat->zz0->Ot zz0
 |0,_=>none
 |n+1,a=>
  z4f n 0 a.kind a.num.num a.num.den a.truth a.str a.re 0 0 0 false [] [] []
def z4f:Nat->Int->Int->Int->Int->Bool->B8->zz0->Int->Int->Int->Bool->B8->zzr->zzr->Ot zz0
 |0,_,_,_,_,_,_,_,_,_,_,_,_,_,_=>none
 |n+1,a,b,c,d,e,f,g,h,i,j,k,l,m,o=>
  pIf (decide (a<(g.list.length:Int)))
   ((ix g.list a).bind λx0=>
   (z7w n x0.re).bind λy1=>
   (ext m [y1.re]).bind λx2=>
   z4f n (IntKind.i64.wrap (a+1)) b c d e f g.re h i j k l x2 o)
   (some (zz0.mk b (yz4.mk c d) e f m))
end
def ybd:LSh:=⟨[(2,(.ptr 0 0))],[(.st 4)],0,26,[]⟩
noncomputable def zbx:FI dat:=FI.of dat 113 26 0 [dT 4] [] [dT 4] [] true ybd (R:=zz0) Prod.fst (·,()) (λn=>u1 (z7w n))
 (λn=>[(0,⟨⟨[(4,dI),(3,(.ptr 0 0)),(1,(.ptr 1 0)),(2,(.ptr 2 0))],[(.cells [dU,dI,dI,dB,dS,(.own 3)]),(.st 4),(.cells [dU,dI,dI,dB,dS,(.own 4)]),(.acc 26 (.st 4) true),(.acc 26 (.st 4) true)],0,26,[]⟩,λx=>z4f n x.1 x.2.1 x.2.2.1 x.2.2.2.1 x.2.2.2.2.1 x.2.2.2.2.2.1 x.2.2.2.2.2.2.1 x.2.2.2.2.2.2.2.1 x.2.2.2.2.2.2.2.2.1 x.2.2.2.2.2.2.2.2.2.1 x.2.2.2.2.2.2.2.2.2.2.1 x.2.2.2.2.2.2.2.2.2.2.2.1 x.2.2.2.2.2.2.2.2.2.2.2.2.1 x.2.2.2.2.2.2.2.2.2.2.2.2.2.1⟩)]) (anb [(10,0)] f113)
noncomputable def y97:List (FI dat):=[zbx]++[]
theorem yab:(zbx).Good prog dat (tb y97):=FI.z2e (hD:=kze _) func113 ntmps113 call113 (by kernel_rfl) (Qac (by kernel_rfl)) (by kernel_rfl) (λn=>by kernel_rfl) (λx=>by kernel_rfl) (λ_=>rfl) ⟨λ_=>rfl,trivial⟩
 (λ_ _=>tr (z7w.eq_2 ..))
 (λn=>⟨λ_=>tr (z4f.eq_2 ..),
  trivial⟩)
 (λx=>.inl rfl)
theorem ya2:OkL prog [zbx]:=z8d (kze _) (bs:=[]) trivial ⟨yab,trivial⟩
theorem y5p:FOk prog zbx:=ya2.1
mutual
def z4l:Nat->kz0->Ot kz0
 |0,_=>none
 |n+1,a=>
  (z7w n a.value.re).bind λy0=>
  z4d n 0 a.op y0.kind y0.num.num y0.num.den y0.truth y0.str y0.list a.name a.re 0 0 0 0 false [] [] [] [] []
def z4d:Nat->Int->Int->Int->Int->Int->Bool->B8->zzr->B8->kz0->Int->Int->Int->Int->Bool->B8->zzr->B8->zz7->zz7->Ot kz0
 |0,_,_,_,_,_,_,_,_,_,_,_,_,_,_,_,_,_,_,_,_=>none
 |n+1,a,b,c,d,e,f,g,h,i,j,k,l,m,o,p,q,r,s,t,u=>
  pIf (decide (a<(j.args.length:Int)))
   ((ix j.args a).bind λx1=>
   (z4l n x1.re).bind λy2=>
   (ext t [y2.re]).bind λx3=>
   z4d n (IntKind.i64.wrap (a+1)) b c d e f g h i j.re k l m o p q r s x3 u)
   (some (kz0.mk b (zz0.mk c (yz4.mk d e) f g h) i t))
end
def y9e:LSh:=⟨[(2,(.ptr 0 0))],[(.st 5)],0,32,[]⟩
noncomputable def z9f:FI dat:=FI.of dat 50 32 0 [dT 5] [] [dT 5] [] true y9e (R:=kz0) Prod.fst (·,()) (λn=>u1 (z4l n))
 (λn=>[(0,⟨⟨[(4,dI),(3,(.ptr 0 0)),(1,(.ptr 1 0)),(2,(.ptr 2 0))],[(.cells [dU,dU,dI,dI,dB,dS,dL 4,dS,(.own 3)]),(.st 5),(.cells [dU,dU,dI,dI,dB,dS,dL 4,dS,(.own 4)]),(.acc 29 (.st 5) true),(.acc 29 (.st 5) true)],0,32,[]⟩,λx=>z4d n x.1 x.2.1 x.2.2.1 x.2.2.2.1 x.2.2.2.2.1 x.2.2.2.2.2.1 x.2.2.2.2.2.2.1 x.2.2.2.2.2.2.2.1 x.2.2.2.2.2.2.2.2.1 x.2.2.2.2.2.2.2.2.2.1 x.2.2.2.2.2.2.2.2.2.2.1 x.2.2.2.2.2.2.2.2.2.2.2.1 x.2.2.2.2.2.2.2.2.2.2.2.2.1 x.2.2.2.2.2.2.2.2.2.2.2.2.2.1 x.2.2.2.2.2.2.2.2.2.2.2.2.2.2.1 x.2.2.2.2.2.2.2.2.2.2.2.2.2.2.2.1 x.2.2.2.2.2.2.2.2.2.2.2.2.2.2.2.2.1 x.2.2.2.2.2.2.2.2.2.2.2.2.2.2.2.2.2.1 x.2.2.2.2.2.2.2.2.2.2.2.2.2.2.2.2.2.2.1 x.2.2.2.2.2.2.2.2.2.2.2.2.2.2.2.2.2.2.2.1⟩)]) (anb [(8,0)] f50)
noncomputable def y9f:List (FI dat):=[z9f]++[zbx]
theorem y90:(z9f).Good prog dat (tb y9f):=FI.z2e (hD:=kze _) func50 ntmps50 call50 (by kernel_rfl) (Qac (by kernel_rfl)) (by kernel_rfl) (λn=>by kernel_rfl) (λx=>by kernel_rfl) (λ_=>rfl) ⟨λ_=>rfl,trivial⟩
 (λ_ _=>tr (z4l.eq_2 ..))
 (λn=>⟨λ_=>tr (z4d.eq_2 ..),
  trivial⟩)
 (λx=>.inl rfl)
theorem yas:OkL prog [z9f]:=z8d (kze _) (bs:=[zbx]) ⟨y5p,trivial⟩ ⟨y90,trivial⟩
theorem zkn:FOk prog z9f:=yas.1
def z1k:Nat->zz7->Ot zz7
 |0,_=>none
 |n+1,a=>
  (z4s n a).bind λy0=>
  (z4l n y0.re).bind λy1=>
  some y1.args
def zvh:LSh:=⟨[(2,dL 5)],[],0,7,[]⟩
noncomputable def zk1:FI dat:=FI.of dat 51 7 0 [dL 5] [] [dL 5] [] true zvh (R:=zz7) Prod.fst (·,()) (λn=>u1 (z1k n))
 (λn=>[]) (anb [] f51)
theorem ztl:FOk prog zk1:=okF (bs:=[zmz,z9f]) ⟨zsg,zkn,trivial⟩ func51 ntmps51 call51
 (λ_ _=>tr (z1k.eq_2 ..))
 (λn=>trivial)
mutual
def z5j:Nat->yz5->Ot yz5
 |0,_=>none
 |n+1,a=>
  (ext [] a.params).bind λx0=>
  z0l n 0 a a.name x0 [] [] [] []
def z0l:Nat->Int->yz5->B8->(List B8)->B8->z0r->(List B8)->z0r->Ot yz5
 |0,_,_,_,_,_,_,_,_=>none
 |n+1,a,b,c,d,e,f,g,h=>
  pIf (decide (a<(b.cases.length:Int)))
   ((ix b.cases a).bind λx1=>
   (ix b.cases a).bind λx2=>
   (z4l n x2.when_.re).bind λy3=>
   z0f n 0 a x1.weight y3.op y3.value.kind y3.value.num.num y3.value.num.den y3.value.truth y3.value.str y3.value.list y3.name y3.args b c d e [] f g h)
   (some (yz5.mk c d f))
def z0f:Nat->Int->Int->Int->Int->Int->Int->Int->Bool->B8->zzr->B8->zz7->yz5->B8->(List B8)->B8->z78->z0r->(List B8)->z0r->Ot yz5
 |0,_,_,_,_,_,_,_,_,_,_,_,_,_,_,_,_,_,_,_,_=>none
 |n+1,a,b,c,d,e,f,g,h,i,j,k,l,m,o,p,q,r,s,t,u=>
  (ix m.cases b).bind λx4=>
  pIf (decide (a<(x4.do_.length:Int)))
   ((ix m.cases b).bind λx5=>
   (ix x5.do_ a).bind λx6=>
   (z1k n x6.args).bind λy7=>
   z0b n 0 b a x6.kind x6.axis x6.name y7 x6 c d e f g h i j k l m o p q [] r s t u)
   ((ext s [(kz6.mk c (kz0.mk d (zz0.mk e (yz4.mk f g) h i j) k l) [])]).bind λx8=>
   (ix x8 (s.length:Int)).bind λx9=>
   z0l n (IntKind.i64.wrap (b+1)) m o p q (x8.set (Int.toNat (s.length:Int)) (kz6.mk x9.weight x9.when_.re r)) t u)
def z0b:Nat->Int->Int->Int->Int->Int->B8->zz7->kz3->Int->Int->Int->Int->Int->Bool->B8->zzr->B8->zz7->yz5->B8->(List B8)->B8->znj->z78->z0r->(List B8)->z0r->Ot yz5
 |0,_,_,_,_,_,_,_,_,_,_,_,_,_,_,_,_,_,_,_,_,_,_,_,_,_,_,_=>none
 |n+1,a,b,c,d,e,f,g,h,i,j,k,l,m,o,p,q,r,s,t,u,v,w,z,a23,a24,a25,a26=>
  pIf (decide (a<(h.items.length:Int)))
   ((ix h.items a).bind λx10=>
   (ix h.items a).bind λx11=>
   (ix h.items a).bind λx12=>
   (z1k n x12.args).bind λy13=>
   (ext z [(zzj.mk x10.kind x11.name y13)]).bind λx14=>
   z0b n (IntKind.i64.wrap (a+1)) b c d e f g h i j k l m o p q r s t u v w x14 a23 a24 a25 a26)
   ((ext a23 [(kz3.mk d e f g [])]).bind λx15=>
   (ix x15 (a23.length:Int)).bind λx16=>
   z0f n (IntKind.i64.wrap (c+1)) b i j k l m o p q r s t u v w (x15.set (Int.toNat (a23.length:Int)) (kz3.mk x16.kind x16.axis x16.name x16.args z)) a24 a25 a26)
end
def zwt:LSh:=⟨[(2,(.ptr 0 0))],[(.st 10)],0,113,[]⟩
noncomputable def zm3:FI dat:=FI.of dat 23 113 0 [dT 10] [] [dT 10] [] true zwt (R:=yz5) Prod.fst (·,()) (λn=>u1 (z5j n))
 (λn=>[(0,⟨⟨[(4,dI),(1,(.ptr 0 0)),(3,(.ptr 1 0)),(2,(.ptr 2 0))],[(.st 10),(.cells [dS,dA,(.own 3)]),(.cells [dS,(.own 4),(.own 5)]),(.deep 57 9),(.acc 9 .str true),(.deep 57 9)],0,113,[]⟩,u8 (z0l n)⟩),(1,⟨⟨[(6,dI),(5,(.ptr 0 0)),(4,dI),(1,(.ptr 1 0)),(3,(.ptr 2 0)),(2,(.ptr 3 0))],[(.cells [dI,dU,dU,dI,dI,dB,dS,dL 4,dS,dL 5,(.own 4)]),(.st 10),(.cells [dS,dA,(.own 5)]),(.cells [dS,(.own 6),(.own 7)]),(.deep 40 8),(.deep 57 9),(.acc 9 .str true),(.deep 57 9)],0,113,[]⟩,λx=>z0f n x.1 x.2.1 x.2.2.1 x.2.2.2.1 x.2.2.2.2.1 x.2.2.2.2.2.1 x.2.2.2.2.2.2.1 x.2.2.2.2.2.2.2.1 x.2.2.2.2.2.2.2.2.1 x.2.2.2.2.2.2.2.2.2.1 x.2.2.2.2.2.2.2.2.2.2.1 x.2.2.2.2.2.2.2.2.2.2.2.1 x.2.2.2.2.2.2.2.2.2.2.2.2.1 x.2.2.2.2.2.2.2.2.2.2.2.2.2.1 x.2.2.2.2.2.2.2.2.2.2.2.2.2.2.1 x.2.2.2.2.2.2.2.2.2.2.2.2.2.2.2.1 x.2.2.2.2.2.2.2.2.2.2.2.2.2.2.2.2.1 x.2.2.2.2.2.2.2.2.2.2.2.2.2.2.2.2.2.1 x.2.2.2.2.2.2.2.2.2.2.2.2.2.2.2.2.2.2.1 x.2.2.2.2.2.2.2.2.2.2.2.2.2.2.2.2.2.2.2.1⟩),(2,⟨⟨[(9,dI),(8,(.ptr 0 0)),(7,(.ptr 1 0)),(5,(.ptr 2 0)),(4,dI),(1,(.ptr 3 0)),(3,(.ptr 4 0)),(2,(.ptr 5 0)),(6,dI)],[(.cells [dU,dU,dS,dL 5,(.own 6)]),(.st 8),(.cells [dI,dU,dU,dI,dI,dB,dS,dL 4,dS,dL 5,(.own 7)]),(.st 10),(.cells [dS,dA,(.own 8)]),(.cells [dS,(.own 9),(.own 10)]),(.acc 43 (.st 7) true),(.deep 40 8),(.deep 57 9),(.acc 9 .str true),(.deep 57 9)],0,113,[]⟩,λx=>z0b n x.1 x.2.1 x.2.2.1 x.2.2.2.1 x.2.2.2.2.1 x.2.2.2.2.2.1 x.2.2.2.2.2.2.1 x.2.2.2.2.2.2.2.1 x.2.2.2.2.2.2.2.2.1 x.2.2.2.2.2.2.2.2.2.1 x.2.2.2.2.2.2.2.2.2.2.1 x.2.2.2.2.2.2.2.2.2.2.2.1 x.2.2.2.2.2.2.2.2.2.2.2.2.1 x.2.2.2.2.2.2.2.2.2.2.2.2.2.1 x.2.2.2.2.2.2.2.2.2.2.2.2.2.2.1 x.2.2.2.2.2.2.2.2.2.2.2.2.2.2.2.1 x.2.2.2.2.2.2.2.2.2.2.2.2.2.2.2.2.1 x.2.2.2.2.2.2.2.2.2.2.2.2.2.2.2.2.2.1 x.2.2.2.2.2.2.2.2.2.2.2.2.2.2.2.2.2.2.1 x.2.2.2.2.2.2.2.2.2.2.2.2.2.2.2.2.2.2.2.1 x.2.2.2.2.2.2.2.2.2.2.2.2.2.2.2.2.2.2.2.2.1 x.2.2.2.2.2.2.2.2.2.2.2.2.2.2.2.2.2.2.2.2.2.1 x.2.2.2.2.2.2.2.2.2.2.2.2.2.2.2.2.2.2.2.2.2.2.1 x.2.2.2.2.2.2.2.2.2.2.2.2.2.2.2.2.2.2.2.2.2.2.2.1 x.2.2.2.2.2.2.2.2.2.2.2.2.2.2.2.2.2.2.2.2.2.2.2.2.1 x.2.2.2.2.2.2.2.2.2.2.2.2.2.2.2.2.2.2.2.2.2.2.2.2.2.1 x.2.2.2.2.2.2.2.2.2.2.2.2.2.2.2.2.2.2.2.2.2.2.2.2.2.2.1⟩)]) (anb [(8,0),(23,1),(40,2)] f23)
theorem zuk:FOk prog zm3:=okF (bs:=[z9f,zk1]) ⟨zkn,ztl,trivial⟩ func23 ntmps23 call23
 (λ_ _=>tr (z5j.eq_2 ..))
 (λn=>⟨λ_=>tr (z0l.eq_2 ..),
  λ_=>tr (z0f.eq_2 ..),
  λ_=>tr (z0b.eq_2 ..),
  trivial⟩)
mutual
def za0:Nat->yz0->Ot (zzx×yzf)
 |0,_=>none
 |n+1,a=>
  z44 n 0 a [] [] [] []
def z44:Nat->Int->yz0->zzx->yzf->zzx->yzf->Ot (zzx×yzf)
 |0,_,_,_,_,_,_=>none
 |n+1,a,b,c,d,e,f=>
  pIf (decide (a<(b.attrs.length:Int)))
   ((ix b.attrs a).bind λx0=>
   (ix b.attrs a).bind λx1=>
   (z4l n x1.value.re).bind λy2=>
   (ext c [(kzh.mk x0.name y2.re)]).bind λx3=>
   z44 n (IntKind.i64.wrap (a+1)) b x3 d e f)
   (z3t n 0 b c d e f)
def z3t:Nat->Int->yz0->zzx->yzf->zzx->yzf->Ot (zzx×yzf)
 |0,_,_,_,_,_,_=>none
 |n+1,a,b,c,d,e,f=>
  pIf (decide (a<(b.rules.length:Int)))
   ((ix b.rules a).bind λx4=>
   (z5j n x4).bind λy5=>
   (ext d [y5]).bind λx6=>
   z3t n (IntKind.i64.wrap (a+1)) b c x6 e f)
   (some (c,d))
end
def ya8:LSh:=⟨[(2,(.ptr 0 0))],[(.cells [(.own 1),(.own 2)]),(.acc 49 (.st 6) true),(.acc 47 (.st 10) true)],0,51,[]⟩
noncomputable def zvc:FI dat:=FI.of dat 21 51 0 [dT 11] [] [(.agg [(.own 1),(.own 2)])] [(.cells [(.own 1),(.own 2)]),(.acc 49 (.st 6) true),(.acc 47 (.st 10) true)] false ya8 (R:=zzx×yzf) (λx=>(x.1,x.2.1)) (λr=>(r.1,r.2,())) (λn=>u1 (za0 n))
 (λn=>[(0,⟨⟨[(4,dI),(3,(.ptr 0 0)),(1,(.ptr 1 0)),(2,(.ptr 2 0))],[(.cells [(.own 3),(.own 4)]),(.st 11),(.cells [(.own 5),(.own 6)]),(.acc 49 (.st 6) true),(.acc 47 (.st 10) true),(.acc 49 (.st 6) true),(.acc 47 (.st 10) true)],0,51,[]⟩,u6 (z44 n)⟩),(1,⟨⟨[(5,dI),(3,(.ptr 0 0)),(1,(.ptr 1 0)),(2,(.ptr 2 0))],[(.cells [(.own 3),(.own 4)]),(.st 11),(.cells [(.own 5),(.own 6)]),(.acc 49 (.st 6) true),(.acc 47 (.st 10) true),(.acc 49 (.st 6) true),(.acc 47 (.st 10) true)],0,51,[]⟩,u6 (z3t n)⟩)]) (anb [(8,0),(23,1)] f21)
theorem y62:FOk prog zvc:=okF (bs:=[z9f,zm3]) ⟨zkn,zuk,trivial⟩ func21 ntmps21 call21
 (λ_ _=>tr (za0.eq_2 ..))
 (λn=>⟨λ_=>tr (z44.eq_2 ..),
  λ_=>tr (z3t.eq_2 ..),
  trivial⟩)
mutual
noncomputable def kzi:Nat->yz0->Int->Ot Bool
 |0,_,_=>none
 |n+1,a,b=>
  (z8o n a).bind λy0=>
  pIf y0
   (kzf n b true a)
   (pIf (decide (b<0))
     (kzf n b true a)
     (kzf n b (decide (b>=(IntKind.i64.wrap ((a.rules.length:Int)-1)))) a))
noncomputable def kzf:Nat->Int->Bool->yz0->Ot Bool
 |0,_,_,_=>none
 |n+1,a,b,c=>
  pIf b
   ((zzz n).bind λy1=>
   some y1)
   ((za0 n c).bind λy2=>
   (ix y2.2 (IntKind.i64.wrap (a+1))).bind λx3=>
   (ix y2.2 a).bind λx4=>
   (ix y2.2 a).bind λx5=>
   (ix (y2.2.set (Int.toNat a) x3) (IntKind.i64.wrap (a+1))).bind λx6=>
   (z1d n c).bind λy7=>
   (z1d n (yz0.mk y2.1 ((y2.2.set (Int.toNat a) x3).set (Int.toNat (IntKind.i64.wrap (a+1))) x4))).bind λy8=>
   pIf (y7 != y8)
    (some false)
    ((ix c.rules a).bind λx9=>
    (z4x n c x9.name).bind λy10=>
    (ix c.rules a).bind λx11=>
    (z4x n (yz0.mk y2.1 ((y2.2.set (Int.toNat a) x3).set (Int.toNat (IntKind.i64.wrap (a+1))) x4)) x11.name).bind λy12=>
    (ix c.rules a).bind λx13=>
    (z34 n c x13.name).bind λy14=>
    (ix c.rules a).bind λx15=>
    (z34 n (yz0.mk y2.1 ((y2.2.set (Int.toNat a) x3).set (Int.toNat (IntKind.i64.wrap (a+1))) x4)) x15.name).bind λy16=>
    (zzm n y10.1 y12.1).bind λy17=>
    pIf y17
     (pIf (y10.2==y12.2)
       ((zzm n y14.1 y16.1).bind λy18=>
       pIf y18
        (pIf (y14.2==y16.2)
          ((zzz n).bind λy19=>
          some y19)
          (some false))
        (some false))
       (some false))
     (some false)))
end
def zj0:LSh:=⟨[(4,dB)],[],0,121,[]⟩
noncomputable def zix:FI dat:=FI.of dat 5 121 0 [dT 11,dI] [] [dB] [] true zj0 (R:=Bool) Prod.fst (·,()) (λn=>u2 (kzi n))
 (λn=>[(0,⟨⟨[(1,dI),(2,(.ptr 0 0)),(27,dB)],[(.st 11)],0,121,[]⟩,u3 (kzf n)⟩)]) (anb [(5,0)] f5)
theorem zij:FOk prog zix:=okF (bs:=[zvc,zsn,zg1,zco,zkl,zkh,zc6]) ⟨y62,y4r,zo3,ze1,zou,zp8,zg0,trivial⟩ func5 ntmps5 call5
 (λn=>λ_=>tr (kzi.eq_2 _ _ n))
 (λn=>⟨λ_=>tr (kzf.eq_2 _ _ _ n),
  trivial⟩)
theorem zhr(a0:yz0)(a1:Int):VRL dat [] 0 [dat.tv (.st 11) a0,dat.tv (.int .i64) a1] [dat.el (.st 11) a0,dat.el (.int .i64) a1]:=by
 simp only[VRL];exact⟨_,_,rfl,VR.tv (kze prog) (DR.el _ _),⟨_,_,rfl,VR.tv (kze prog) (DR.el _ _),rfl⟩⟩
theorem zfz(n:Nat)(a0:yz0)(a1:Int)(r:Bool)(h:kzi n a0 a1=some r):zjt prog 5 [dat.el (.st 11) a0,dat.el (.int .i64) a1] (.bool r):=by
 obtain⟨y,h1,_,_,_,h2⟩:=zij n _ (a0,a1,()) (λy=>some y.1) (λ_=>none) r (by show(kzi n a0 a1).bind (λr=>some r)=some r;rw[h];rfl);obtain⟨vs,k1,k2⟩:=h2 0 [dat.el (.st 11) a0,dat.el (.int .i64) a1] (zhr a0 a1);injection h1 with h1;subst h1;have:=k1 [] 0;replace this:VRL dat [] 0 [TV.bool y.1] vs:=this;simp only[VRL,VR]at this;obtain⟨v,r,rfl,rfl,rfl⟩:=this;exact k2
theorem yk7(m:Nat):zzz (m+300)=some true:=by kernel_rfl
theorem yoe:Ev (λn=>zzz n) true:=⟨300,λk hk=>by
 obtain⟨m,rfl⟩:=Nat.exists_eq_add_of_le' hk
 exact yk7 m⟩
end Go.Proofs.YthphaiccgnkobaaGreatDoor
namespace Go.Proofs.Tryz
open Go Go.Ab
open Go.Proofs.Tryz
set_option linter.unusedSimpArgs false
@[simp] theorem ycc:Program.cellsOf prog 2=1:=by kernel_rfl
@[simp] theorem yn0:Program.cellsOf prog 3=1:=by kernel_rfl
@[simp] theorem yo0:Program.cellsOf prog 4=1:=by kernel_rfl
@[simp] theorem zom:Program.cellsOf prog 5=1:=by kernel_rfl
@[simp] theorem zih:Program.cellsOf prog 9=1:=by kernel_rfl
@[simp] theorem y7l:Program.cellsOf prog 23=2:=by kernel_rfl
@[simp] theorem ykt:Program.cellsOf prog 24=1:=by kernel_rfl
@[simp] theorem zw5:Program.cellsOf prog 26=6:=by kernel_rfl
@[simp] theorem zwa:Program.cellsOf prog 27=1:=by kernel_rfl
@[simp] theorem zhm:Program.cellsOf prog 29=9:=by kernel_rfl
@[simp] theorem yis:Program.cellsOf prog 33=1:=by kernel_rfl
@[simp] theorem ykr:Program.cellsOf prog 34=1:=by kernel_rfl
@[simp] theorem yk1:Program.cellsOf prog 36=2:=by kernel_rfl
@[simp] theorem yjo:Program.cellsOf prog 38=1:=by kernel_rfl
@[simp] theorem y7p:Program.cellsOf prog 40=5:=by kernel_rfl
@[simp] theorem y81:Program.cellsOf prog 43=3:=by kernel_rfl
@[simp] theorem yjb:Program.cellsOf prog 44=1:=by kernel_rfl
@[simp] theorem yjh:Program.cellsOf prog 45=1:=by kernel_rfl
@[simp] theorem y7a:Program.cellsOf prog 47=3:=by kernel_rfl
@[simp] theorem y7s:Program.cellsOf prog 49=10:=by kernel_rfl
@[simp] theorem yjs:Program.cellsOf prog 55=1:=by kernel_rfl
@[simp] theorem y7e:Program.cellsOf prog 57=11:=by kernel_rfl
theorem ypr(n:Nat):Reads prog n 23 yz4.ty:=(z64 underlying23 y7l (λm hm=>(zzb rfl ycc (zbi underlying2 m) (zzb rfl ycc (zbi underlying2 m) z94)))).conv (λx=>(⟨x.1,x.2.1⟩:yz4)) (λx=>by show yz4.el _=_;rw[yz4.yzb];simp[Ty.struct,Ty.pair,Ty.unit,Ty.int,V.cells]) rfl (λx h=>by simp only[yz4.ty];rw[yz4.z1e];simp only[Ty.struct,Ty.pair,Ty.unit,Ty.int]at h ⊢;simpa using h) (λx=>by simp only[Ty.struct,Ty.pair,Ty.unit,Ty.int,yz4.ty];rw[yz4.size_eq];(try dsimp only);omega)
theorem yq0:∀n,Reads prog n 26 zz0.ty:=λn=>by
 induction n using Nat.strongRecOn with
 |ind n ih=>exact(z64 underlying26 zw5 (λm hm=>(zzb rfl zom (zbi underlying5 m) (zzb rfl y7l (ypr m) (zzb rfl yo0 (yfb underlying4 m) (zzb rfl zih (zf3 underlying9 m) (zzb rfl ykt (z6d underlying24 zw5 (by decide) (λk hk=>(ih k (by omega)))) z94))))))).conv (λx=>(⟨x.1,x.2.1,x.2.2.1,x.2.2.2.1,x.2.2.2.2.1⟩:zz0)) (λx=>by show zz0.el _=_;rw[zz0.yzb];simp[Ty.struct,Ty.pair,Ty.unit,Ty.int,Ty.bool,Ty.str,Ty.slice,V.cells,yz4.ty,yz4.yzb,zz0.ty]) rfl (λx h=>by simp only[zz0.ty];rw[zz0.z1e];simp only[Ty.struct,Ty.pair,Ty.unit,Ty.int,Ty.bool,Ty.str,Ty.slice,yz4.ty,zz0.ty]at h ⊢;simpa using h) (λx=>by simp only[Ty.struct,Ty.pair,Ty.unit,Ty.int,Ty.bool,Ty.str,Ty.slice,yz4.ty,zz0.ty];rw[zz0.size_eq];(try dsimp only);omega)
theorem y0m:∀n,Reads prog n 29 kz0.ty:=λn=>by
 induction n using Nat.strongRecOn with
 |ind n ih=>exact(z64 underlying29 zhm (λm hm=>(zzb rfl zom (zbi underlying5 m) (zzb rfl zw5 (yq0 m) (zzb rfl zih (zf3 underlying9 m) (zzb rfl zwa (z6d underlying27 zhm (by decide) (λk hk=>(ih k (by omega)))) z94)))))).conv (λx=>(⟨x.1,x.2.1,x.2.2.1,x.2.2.2.1⟩:kz0)) (λx=>by show kz0.el _=_;rw[kz0.yzb];simp[Ty.struct,Ty.pair,Ty.unit,Ty.int,Ty.str,Ty.slice,V.cells,zz0.ty,zz0.yzb,kz0.ty]) rfl (λx h=>by simp only[kz0.ty];rw[kz0.z1e];simp only[Ty.struct,Ty.pair,Ty.unit,Ty.int,Ty.str,Ty.slice,zz0.ty,kz0.ty]at h ⊢;simpa using h) (λx=>by simp only[Ty.struct,Ty.pair,Ty.unit,Ty.int,Ty.str,Ty.slice,zz0.ty,kz0.ty];rw[kz0.size_eq];(try dsimp only);omega)
theorem ypo(n:Nat):Reads prog n 49 kzh.ty:=(z64 underlying49 y7s (λm hm=>(zzb rfl zih (zf3 underlying9 m) (zzb rfl zhm (y0m m) z94)))).conv (λx=>(⟨x.1,x.2.1⟩:kzh)) (λx=>by show kzh.el _=_;rw[kzh.yzb];simp[Ty.struct,Ty.pair,Ty.unit,Ty.str,V.cells,kz0.ty,kz0.yzb]) rfl (λx h=>by simp only[kzh.ty];rw[kzh.z1e];simp only[Ty.struct,Ty.pair,Ty.unit,Ty.str,kz0.ty]at h ⊢;simpa using h) (λx=>by simp only[Ty.struct,Ty.pair,Ty.unit,Ty.str,kz0.ty,kzh.ty];rw[kzh.size_eq];(try dsimp only);omega)
theorem yph(n:Nat):Reads prog n 43 zzj.ty:=(z64 underlying43 y81 (λm hm=>(zzb rfl zom (zbi underlying5 m) (zzb rfl zih (zf3 underlying9 m) (zzb rfl zwa (z6d underlying27 zhm (by decide) (λk hk=>(y0m k))) z94))))).conv (λx=>(⟨x.1,x.2.1,x.2.2.1⟩:zzj)) (λx=>by show zzj.el _=_;rw[zzj.yzb];simp[Ty.struct,Ty.pair,Ty.unit,Ty.int,Ty.str,Ty.slice,V.cells,kz0.ty]) rfl (λx h=>by simp only[zzj.ty];rw[zzj.z1e];simp only[Ty.struct,Ty.pair,Ty.unit,Ty.int,Ty.str,Ty.slice,kz0.ty]at h ⊢;simpa using h) (λx=>by simp only[Ty.struct,Ty.pair,Ty.unit,Ty.int,Ty.str,Ty.slice,kz0.ty,zzj.ty];rw[zzj.size_eq];(try dsimp only);omega)
theorem ypd(n:Nat):Reads prog n 40 kz3.ty:=(z64 underlying40 y7p (λm hm=>(zzb rfl zom (zbi underlying5 m) (zzb rfl zom (zbi underlying5 m) (zzb rfl zih (zf3 underlying9 m) (zzb rfl zwa (z6d underlying27 zhm (by decide) (λk hk=>(y0m k))) (zzb rfl yjo (z6d underlying38 y81 (by decide) (λk hk=>(yph k))) z94))))))).conv (λx=>(⟨x.1,x.2.1,x.2.2.1,x.2.2.2.1,x.2.2.2.2.1⟩:kz3)) (λx=>by show kz3.el _=_;rw[kz3.yzb];simp[Ty.struct,Ty.pair,Ty.unit,Ty.int,Ty.str,Ty.slice,V.cells,kz0.ty,zzj.ty]) rfl (λx h=>by simp only[kz3.ty];rw[kz3.z1e];simp only[Ty.struct,Ty.pair,Ty.unit,Ty.int,Ty.str,Ty.slice,kz0.ty,zzj.ty]at h ⊢;simpa using h) (λx=>by simp only[Ty.struct,Ty.pair,Ty.unit,Ty.int,Ty.str,Ty.slice,kz0.ty,zzj.ty,kz3.ty];rw[kz3.size_eq];(try dsimp only);omega)
theorem yqb(n:Nat):Reads prog n 57 kz6.ty:=(z64 underlying57 y7e (λm hm=>(zzb rfl yn0 (zbi underlying3 m) (zzb rfl zhm (y0m m) (zzb rfl yjs (z6d underlying55 y7p (by decide) (λk hk=>(ypd k))) z94))))).conv (λx=>(⟨x.1,x.2.1,x.2.2.1⟩:kz6)) (λx=>by show kz6.el _=_;rw[kz6.yzb];simp[Ty.struct,Ty.pair,Ty.unit,Ty.int,Ty.slice,V.cells,kz0.ty,kz0.yzb,kz3.ty]) rfl (λx h=>by simp only[kz6.ty];rw[kz6.z1e];simp only[Ty.struct,Ty.pair,Ty.unit,Ty.int,Ty.slice,kz0.ty,kz3.ty]at h ⊢;simpa using h) (λx=>by simp only[Ty.struct,Ty.pair,Ty.unit,Ty.int,Ty.slice,kz0.ty,kz3.ty,kz6.ty];rw[kz6.size_eq];(try dsimp only);omega)
theorem ypu(n:Nat):Reads prog n 47 yz5.ty:=(z64 underlying47 y7a (λm hm=>(zzb rfl zih (zf3 underlying9 m) (zzb rfl yjb (z6d underlying44 zih (by decide) (λk hk=>(zf3 underlying9 k))) (zzb rfl yjh (z6d underlying45 y7e (by decide) (λk hk=>(yqb k))) z94))))).conv (λx=>(⟨x.1,x.2.1,x.2.2.1⟩:yz5)) (λx=>by show yz5.el _=_;rw[yz5.yzb];simp[Ty.struct,Ty.pair,Ty.unit,Ty.str,Ty.slice,V.cells,kz6.ty]) rfl (λx h=>by simp only[yz5.ty];rw[yz5.z1e];simp only[Ty.struct,Ty.pair,Ty.unit,Ty.str,Ty.slice,kz6.ty]at h ⊢;simpa using h) (λx=>by simp only[Ty.struct,Ty.pair,Ty.unit,Ty.str,Ty.slice,kz6.ty,yz5.ty];rw[yz5.size_eq];(try dsimp only);omega)
theorem yq6(n:Nat):Reads prog n 36 yz0.ty:=(z64 underlying36 yk1 (λm hm=>(zzb rfl yis (z6d underlying33 y7s (by decide) (λk hk=>(ypo k))) (zzb rfl ykr (z6d underlying34 y7a (by decide) (λk hk=>(ypu k))) z94)))).conv (λx=>(⟨x.1,x.2.1⟩:yz0)) (λx=>by show yz0.el _=_;rw[yz0.yzb];simp[Ty.struct,Ty.pair,Ty.unit,Ty.slice,V.cells,kzh.ty,yz5.ty]) rfl (λx h=>by simp only[yz0.ty];rw[yz0.z1e];simp only[Ty.struct,Ty.pair,Ty.unit,Ty.slice,kzh.ty,yz5.ty]at h ⊢;simpa using h) (λx=>by simp only[Ty.struct,Ty.pair,Ty.unit,Ty.slice,kzh.ty,yz5.ty,yz0.ty];rw[yz0.size_eq];(try dsimp only);omega)
theorem arg36:yhx prog 36 yz0.ty:=yfd underlying36 yq6 yz0.zen
theorem arg3:yhx prog 3 (Ty.int .i64):=yl3 (λn=>(zbi underlying3 n)) (λ_=>rfl) (by rw[underlying3])
end Go.Proofs.Tryz
namespace Go.Proofs.YthphaiccgnkobaaGreatDoor
open Go Go.Ab Go.ChangeShapes Go.WideShapes Go.ChangeAt Go.RowKit
open Go.Proofs.Tryz
set_option linter.unusedVariables false
abbrev yo2:List (String×DataW Unit):=Rows.rulesReachUptoRow.laid
theorem yhm{W:World}{name:String}{k:IntKind}{g:Nat}{cs:List (IntKind×Int)}(hcs:cs.map (λp=>Value.int p.1 p.2)=(cs.map Prod.snd).map λz=>Value.int k z)(hn:prog.globalNamed name=some g)
  (h:Lib.TabIs prog W name k (cs.map Prod.snd)):¬Go.Ab.Own g0 H0 g∧∃ty q,W.heap[g]? = some (.cells (cs.map λp=>Value.int p.1 p.2).toArray ty q):=by
 refine⟨own0 _ _,?_⟩;unfold Lib.TabIs World.var? at h;rw[hn]at h;simp only[Qbq]at h;split at h;rename_i cs' ty q hq;injection h with h;rw[hcs];exact⟨ty,q,by rw[hq,h]⟩;cases h
theorem yi0{W:World}{n:String}{g:Nat}{tp:Nat}{a:Addr}(hn:prog.globalNamed n=some g)(h:W.var? prog n=some #[.iface tp (.pointer (some a))]) :
  ¬Go.Ab.Own g0 H0 g∧∃v ty q,W.heap[g]? = some (.cells #[v] ty q)∧(v = .nilIface∨∃te pe,v = .iface te pe):=by
 refine⟨own0 _ _,?_⟩;unfold World.var? at h;rw[hn]at h;simp only[Qbq]at h;split at h;rename_i cs ty q hq;injection h with h;exact⟨_,ty,q,by rw[hq,h],.inr ⟨_,_,rfl⟩⟩;cases h
set_option maxRecDepth 100000 in
theorem globI{W:World}(hL:laidMet prog yo2 W):yqg W g0 H0:=λk cs hk=>by
 unfold gl at hk;split at hk;injection hk with hk;subst hk;exact yhm (cs:=gl0) (k:=.u8) (name := "strings.asciiSpace") (by kernel_rfl) (by kernel_rfl) (Lib.tabIs_of_head (g:=0) (by kernel_rfl) (by kernel_rfl) underlying213 underlying5 (by kernel_rfl) (by kernel_rfl) hL.tail.tail.tail.tail.tail.tail.tail);injection hk with hk;subst hk
 exact yhm (cs:=gl5) (k:=.u64) (name := "internal/strconv.uint64pow10") (by kernel_rfl) (by kernel_rfl) (Lib.tabIs_of_head (g:=5) (by kernel_rfl) (by kernel_rfl) underlying288 underlying205 (by kernel_rfl) (by kernel_rfl) hL.tail.tail);cases hk
set_option maxRecDepth 100000 in
theorem globE{W:World}(hL:laidMet prog yo2 W):yqm W g0 H0:=λk hk=>by
 unfold gle at hk;split at hk
 obtain⟨a,s,hv,_⟩:=laid_sentinel (g:=3) (ti:=113) (tp:=310) (te:=312) (ts:=9) hL.tail.tail.tail.tail.tail (by kernel_rfl) (by kernel_rfl) underlying113 (λu h=>typeName_ptr_named (nm := "errors.errorString") (by kernel_rfl) (by kernel_rfl) (by decide) u (h.trans (by kernel_rfl))) underlying310 underlying312 rfl rfl underlying9 (by kernel_rfl) (by kernel_rfl)
 exact yi0 (by kernel_rfl) hv
 obtain⟨a,s,hv,_⟩:=laid_sentinel (g:=4) (ti:=113) (tp:=310) (te:=312) (ts:=9) hL.tail.tail.tail.tail (by kernel_rfl) (by kernel_rfl) underlying113 (λu h=>typeName_ptr_named (nm := "errors.errorString") (by kernel_rfl) (by kernel_rfl) (by decide) u (h.trans (by kernel_rfl))) underlying310 underlying312 rfl rfl underlying9 (by kernel_rfl) (by kernel_rfl)
 exact yi0 (by kernel_rfl) hv;cases hk
theorem ziy{W:World}(hL:laidMet prog yo2 W):zgf W g0 H0:=⟨globI hL,globE hL⟩
end Go.Proofs.YthphaiccgnkobaaGreatDoor
namespace Go.Proofs.YthphaiccgnkobaaGreatDoor
open Go Go.Ab
set_option linter.defProp false
def zyk{r}(a):=evS (z73 · a) r (z73.eq_2 a)
def z9p{r}(a):=evS (kzg · a) r (kzg.eq_2 a)
def z8p{r}(a):=evS (kz9 · a) r (kz9.eq_2 a)
def y73{r}(a):=evS (z9u · a) r (z9u.eq_2 a)
def zm6{r}(a b):=evS (z41 · a b) r (z41.eq_2 a b)
def zld{r}(a b c):=evS (z1v · a b c) r (z1v.eq_2 a b c)
def zlo{r}(a b c d e):=evS (z3y · a b c d e) r (z3y.eq_2 a b c d e)
def zl6{r}(a b c d e f):=evS (z1x · a b c d e f) r (z1x.eq_2 a b c d e f)
def zmb{r}(a b c d e f g):=evS (z4a · a b c d e f g) r (z4a.eq_2 a b c d e f g)
def y4y{r}(a):=evS (z86 · a) r (z86.eq_2 a)
def zly{r}(a b):=evS (z6k · a b) r (z6k.eq_2 a b)
def zls{r}(a b):=evS (zzy · a b) r (zzy.eq_2 a b)
def zll{r}(a b c d e):=evS (z45 · a b c d e) r (z45.eq_2 a b c d e)
def zm9{r}(a b c):=evS (yzt · a b c) r (yzt.eq_2 a b c)
def z8u{r}(a b):=evS (kz8 · a b) r (kz8.eq_2 a b)
def zef{r}(a b):=evS (kzj · a b) r (kzj.eq_2 a b)
def y2z{r}(a):=evS (z1b · a) r (z1b.eq_2 a)
def y0f{r}(a):=evS (z5s · a) r (z5s.eq_2 a)
def zin{r}(a b c d e):=evS (z1n · a b c d e) r (z1n.eq_2 a b c d e)
def zsd{r}(a):=evS (z9r · a) r (z9r.eq_2 a)
def zl7{r}(a b c):=evS (zzo · a b c) r (zzo.eq_2 a b c)
def zlt{r}(a b c):=evS (z43 · a b c) r (z43.eq_2 a b c)
def zmc{r}(a b c):=evS (z42 · a b c) r (z42.eq_2 a b c)
def zlj{r}(a b c):=evS (z6l · a b c) r (z6l.eq_2 a b c)
def zx2{r}:=evS (z6h ·) r (z6h.eq_2)
def zl1{r}(a):=evS (kzy · a) r (kzy.eq_2 a)
def zwg{r}(a):=evS (z3u · a) r (z3u.eq_2 a)
def zgr{r}(a b c d e):=evS (z0v · a b c d e) r (z0v.eq_2 a b c d e)
def zr9{r}(a b):=evS (z0w · a b) r (z0w.eq_2 a b)
def y69{r}(a):=evS (z83 · a) r (z83.eq_2 a)
def y91{r}(a b):=evS (zbw · a b) r (zbw.eq_2 a b)
def zyq{r}(a b):=evS (z5o · a b) r (z5o.eq_2 a b)
def y3w{r}(a):=evS (z52 · a) r (z52.eq_2 a)
def zvj{r}(a):=evS (z03 · a) r (z03.eq_2 a)
def y52{r}(a):=evS (z7z · a) r (z7z.eq_2 a)
def zl8{r}(a b c):=evS (z4h · a b c) r (z4h.eq_2 a b c)
def zlg{r}(a b c d):=evS (z3v · a b c d) r (z3v.eq_2 a b c d)
def zlx{r}(a b c d):=evS (z3w · a b c d) r (z3w.eq_2 a b c d)
def zx1{r}(a):=evS (z0q · a) r (z0q.eq_2 a)
def y0y{r}(a):=evS (z4w · a) r (z4w.eq_2 a)
def zuz{r}(a b):=evS (z2s · a b) r (z2s.eq_2 a b)
def y6y{r}(a):=evS (z9s · a) r (z9s.eq_2 a)
def y76{r}(a b):=evS (z27 · a b) r (z27.eq_2 a b)
def zkz{r}(a b c):=evS (yzx · a b c) r (yzx.eq_2 a b c)
def zm5{r}(a b c d):=evS (z4e · a b c d) r (z4e.eq_2 a b c d)
def yau{r}(a):=evS (z9e · a) r (z9e.eq_2 a)
def y0b{r}(a b):=evS (z3c · a b) r (z3c.eq_2 a b)
def y0i{r}(a b):=evS (z3b · a b) r (z3b.eq_2 a b)
def zyy{r}(a b):=evS (z5q · a b) r (z5q.eq_2 a b)
def y09{r}(a b):=evS (z5r · a b) r (z5r.eq_2 a b)
def zyf{r}(a):=evS (z3d · a) r (z3d.eq_2 a)
def z8t{r}(a):=evS (yza · a) r (yza.eq_2 a)
def za3{r}(a):=evS (kzb · a) r (kzb.eq_2 a)
def yzu{r}(a b c):=evS (zz6 · a b c) r (zz6.eq_2 a b c)
def y4s{r}(a):=evS (z8m · a) r (z8m.eq_2 a)
def y5g{r}(a):=evS (yzy · a) r (yzy.eq_2 a)
def zwl{r}(a b):=evS (z4c · a b) r (z4c.eq_2 a b)
def zv6{r}(a):=evS (z5d · a) r (z5d.eq_2 a)
def zdm{r}(a):=evS (yzn · a) r (yzn.eq_2 a)
def zcd{r}(a):=evS (zzg · a) r (zzg.eq_2 a)
def y74{r}(a):=evS (z26 · a) r (z26.eq_2 a)
def y9x{r}(a):=evS (z7f · a) r (z7f.eq_2 a)
def zyw{r}(a b):=evS (z5n · a b) r (z5n.eq_2 a b)
def zys{r}(a):=evS (z5p · a) r (z5p.eq_2 a)
def zrh{r}(a):=evS (z38 · a) r (z38.eq_2 a)
def zng{r}(a b):=evS (kzv · a b) r (kzv.eq_2 a b)
def zmm{r}(a b c d):=evS (zzv · a b c d) r (zzv.eq_2 a b c d)
def zn0{r}(a b c):=evS (kzu · a b c) r (kzu.eq_2 a b c)
def zdp{r}(a b c):=evS (yzp · a b c) r (yzp.eq_2 a b c)
def ze5{r}(a b c):=evS (kzp · a b c) r (kzp.eq_2 a b c)
def ze4{r}(a b):=evS (kzl · a b) r (kzl.eq_2 a b)
def zem{r}(a b c):=evS (zzp · a b c) r (zzp.eq_2 a b c)
def zdv{r}(a b c d):=evS (yzi · a b c d) r (yzi.eq_2 a b c d)
def zym{r}(a):=evS (z77 · a) r (z77.eq_2 a)
def zi3{r}(a b c d):=evS (z0k · a b c d) r (z0k.eq_2 a b c d)
def zht{r}(a b c d e):=evS (z1p · a b c d e) r (z1p.eq_2 a b c d e)
def zi0{r}(a b c):=evS (z0c · a b c) r (z0c.eq_2 a b c)
def ziu{r}(a b c d e):=evS (z1r · a b c d e) r (z1r.eq_2 a b c d e)
def zie{r}(a b c d e f):=evS (z0e · a b c d e f) r (z0e.eq_2 a b c d e f)
def ziq{r}(a b c d e f g h):=evS (z0h · a b c d e f g h) r (z0h.eq_2 a b c d e f g h)
def zhq{r}(a b c d e f g h i):=evS (z0i · a b c d e f g h i) r (z0i.eq_2 a b c d e f g h i)
def zei{r}(a b):=evS (yzk · a b) r (yzk.eq_2 a b)
def z1c{r}(a b c d):=evS (kzc · a b c d) r (kzc.eq_2 a b c d)
def zcp{r}(a b):=evS (yzh · a b) r (yzh.eq_2 a b)
def y6i{r}(a b):=evS (z7y · a b) r (z7y.eq_2 a b)
def zlw{r}(a b c):=evS (z6i · a b c) r (z6i.eq_2 a b c)
def zvu{r}(a b):=evS (z48 · a b) r (z48.eq_2 a b)
def zlz{r}(a b c d):=evS (z3z · a b c d) r (z3z.eq_2 a b c d)
def y5q{r}(a):=evS (z9w · a) r (z9w.eq_2 a)
def y03{r}(a b c):=evS (z79 · a b c) r (z79.eq_2 a b c)
def zc5{r}(a b c):=evS (yzl · a b c) r (yzl.eq_2 a b c)
def z09{r}(a b c d e):=evS (yz9 · a b c d e) r (yz9.eq_2 a b c d e)
def zam{r}(a b c):=evS (zze · a b c) r (zze.eq_2 a b c)
def y6j{r}(a b c):=evS (z81 · a b c) r (z81.eq_2 a b c)
def y4g{r}(a):=evS (z8g · a) r (z8g.eq_2 a)
def zjf{r}(a b c d):=evS (z2u · a b c d) r (z2u.eq_2 a b c d)
def zjc{r}(a b c d e f g):=evS (z2i · a b c d e f g) r (z2i.eq_2 a b c d e f g)
def zk3{r}(a b c d e f g h i j):=evS (z2k · a b c d e f g h i j) r (z2k.eq_2 a b c d e f g h i j)
def zww{r}(a b c):=evS (z6j · a b c) r (z6j.eq_2 a b c)
def zb8{r}(a b c):=evS (zzk · a b c) r (zzk.eq_2 a b c)
def z01{r}(a b c d e):=evS (yz7 · a b c d e) r (yz7.eq_2 a b c d e)
def za4{r}(a b c):=evS (zzc · a b c) r (zzc.eq_2 a b c)
def y3i{r}(a):=evS (z55 · a) r (z55.eq_2 a)
def zjg{r}(a b c d):=evS (z2o · a b c d) r (z2o.eq_2 a b c d)
def zji{r}(a b c d e f g):=evS (z16 · a b c d e f g) r (z16.eq_2 a b c d e f g)
def zu8{r}(a b c d e f g h):=evS (z2n · a b c d e f g h) r (z2n.eq_2 a b c d e f g h)
def zk9{r}(a b c d e f g h i j):=evS (z2m · a b c d e f g h i j) r (z2m.eq_2 a b c d e f g h i j)
def y27{r}(a):=evS (z1d · a) r (z1d.eq_2 a)
def zjh{r}(a b c d e f g h i):=evS (z2p · a b c d e f g h i) r (z2p.eq_2 a b c d e f g h i)
def zvf{r}(a b c d e f g h i j):=evS (z2f · a b c d e f g h i j) r (z2f.eq_2 a b c d e f g h i j)
def zk2{r}(a b c d e f g h i):=evS (z2j · a b c d e f g h i) r (z2j.eq_2 a b c d e f g h i)
def zja{r}(a b c d e f g h i j k l m):=evS (z2d · a b c d e f g h i j k l m) r (z2d.eq_2 a b c d e f g h i j k l m)
def zj7{r}(a b c d e f g h i j k l m o):=evS (z2y · a b c d e f g h i j k l m o) r (z2y.eq_2 a b c d e f g h i j k l m o)
def zjb{r}(a b c d e f g h i j):=evS (z15 · a b c d e f g h i j) r (z15.eq_2 a b c d e f g h i j)
def zkf{r}(a b c d e f g h i j k l m o p):=evS (z2v · a b c d e f g h i j k l m o p) r (z2v.eq_2 a b c d e f g h i j k l m o p)
def zjd{r}(a b c d e f g h i j k l m o p q):=evS (z1a · a b c d e f g h i j k l m o p q) r (z1a.eq_2 a b c d e f g h i j k l m o p q)
def zvq{r}(a b c d e f g h i j k):=evS (z2z · a b c d e f g h i j k) r (z2z.eq_2 a b c d e f g h i j k)
def zjm{r}(a b c d e f g h i j k l m):=evS (z32 · a b c d e f g h i j k l m) r (z32.eq_2 a b c d e f g h i j k l m)
def ztp{r}(a b c d e f g h i j k l m o p q):=evS (z1q · a b c d e f g h i j k l m o p q) r (z1q.eq_2 a b c d e f g h i j k l m o p q)
def zt4{r}(a b c d e f g h i j k l m):=evS (z0j · a b c d e f g h i j k l m) r (z0j.eq_2 a b c d e f g h i j k l m)
def y5a{r}(a b):=evS (z9t · a b) r (z9t.eq_2 a b)
def zb9{r}(a b):=evS (zzf · a b) r (zzf.eq_2 a b)
def yzz{r}(a b c d):=evS (kz7 · a b c d) r (kz7.eq_2 a b c d)
def yew{r}(a b):=evS (z8x · a b) r (z8x.eq_2 a b)
def y2d{r}(a b):=evS (z34 · a b) r (z34.eq_2 a b)
def zdr{r}(a b c d e):=evS (z2a · a b c d e) r (z2a.eq_2 a b c d e)
def zdz{r}(a b c d e f g h):=evS (z30 · a b c d e f g h) r (z30.eq_2 a b c d e f g h)
def zkd{r}(a b c d e f g h):=evS (z5l · a b c d e f g h) r (z5l.eq_2 a b c d e f g h)
def y3z{r}(a b):=evS (z4x · a b) r (z4x.eq_2 a b)
def zj6{r}(a b c d):=evS (z2w · a b c d) r (z2w.eq_2 a b c d)
def zq7{r}(a b):=evS (zzm · a b) r (zzm.eq_2 a b)
def zdd{r}(a b c):=evS (kzt · a b c) r (kzt.eq_2 a b c)
def y2c{r}(a b):=evS (z6s · a b) r (z6s.eq_2 a b)
def zj5{r}(a b c):=evS (z19 · a b c) r (z19.eq_2 a b c)
def zj4{r}(a b c):=evS (z2t · a b c) r (z2t.eq_2 a b c)
def y3l{r}(a):=evS (z6r · a) r (z6r.eq_2 a)
def zed{r}(a b c):=evS (z2g · a b c) r (z2g.eq_2 a b c)
def zee{r}(a b c d):=evS (z2x · a b c d) r (z2x.eq_2 a b c d)
def zpd{r}(a):=evS (z8q · a) r (z8q.eq_2 a)
def y4t{r}(a b):=evS (z6n · a b) r (z6n.eq_2 a b)
def zjk{r}(a b c):=evS (z04 · a b c) r (z04.eq_2 a b c)
def zkb{r}(a b c):=evS (z2b · a b c) r (z2b.eq_2 a b c)
def y3c{r}(a):=evS (z6q · a) r (z6q.eq_2 a)
def zj1{r}(a b c):=evS (z2l · a b c) r (z2l.eq_2 a b c)
def zp4{r}(a):=evS (z33 · a) r (z33.eq_2 a)
def zs8{r}(a):=evS (z4s · a) r (z4s.eq_2 a)
def ztc{r}(a):=evS (z4g · a) r (z4g.eq_2 a)
def zew{r}(a b):=evS (kzz · a b) r (kzz.eq_2 a b)
def zev{r}(a b):=evS (kzr · a b) r (kzr.eq_2 a b)
def zeu{r}(a b c):=evS (yzs · a b c) r (yzs.eq_2 a b c)
def zf0{r}(a b c):=evS (zzs · a b c) r (zzs.eq_2 a b c)
def zey{r}(a b c d):=evS (z00 · a b c d) r (z00.eq_2 a b c d)
def y1p{r}(a):=evS (z8o · a) r (z8o.eq_2 a)
def zjz{r}(a b):=evS (z2q · a b) r (z2q.eq_2 a b)
def zjj{r}(a b):=evS (z18 · a b) r (z18.eq_2 a b)
def zk7{r}(a b c):=evS (z2h · a b c) r (z2h.eq_2 a b c)
def zjq{r}(a b):=evS (z0x · a b) r (z0x.eq_2 a b)
def zj9{r}(a b c d):=evS (z10 · a b c d) r (z10.eq_2 a b c d)
def zjr{r}(a b c d):=evS (z0z · a b c d) r (z0z.eq_2 a b c d)
def zke{r}(a b c d):=evS (z11 · a b c d) r (z11.eq_2 a b c d)
def y0c{r}(a):=evS (zgh · a) r (zgh.eq_2 a)
def y4x{r}(a):=evS (z7w · a) r (z7w.eq_2 a)
def zm2{r}(a b c d e f g h i j k l m o):=evS (z4f · a b c d e f g h i j k l m o) r (z4f.eq_2 a b c d e f g h i j k l m o)
def y5t{r}(a):=evS (z4l · a) r (z4l.eq_2 a)
def zl5{r}(a b c d e f g h i j k l m o p q s t u v):=evS (z4d · a b c d e f g h i j k l m o p q s t u v) r (z4d.eq_2 a b c d e f g h i j k l m o p q s t u v)
def ztm{r}(a):=evS (z1k · a) r (z1k.eq_2 a)
def zvb{r}(a):=evS (z5j · a) r (z5j.eq_2 a)
def zfx{r}(a b c d e f g h):=evS (z0l · a b c d e f g h) r (z0l.eq_2 a b c d e f g h)
def zg6{r}(a b c d e f g h i j k l m o p q s t u v):=evS (z0f · a b c d e f g h i j k l m o p q s t u v) r (z0f.eq_2 a b c d e f g h i j k l m o p q s t u v)
def zgb{r}(a b c d e f g h i j k l m o p q s t u v w x y z A B C):=evS (z0b · a b c d e f g h i j k l m o p q s t u v w x y z A B C) r (z0b.eq_2 a b c d e f g h i j k l m o p q s t u v w x y z A B C)
def y63{r}(a):=evS (za0 · a) r (za0.eq_2 a)
def zla{r}(a b c d e f):=evS (z44 · a b c d e f) r (z44.eq_2 a b c d e f)
def zlf{r}(a b c d e f):=evS (z3t · a b c d e f) r (z3t.eq_2 a b c d e f)
def zii{r}(a b):=evS (kzi · a b) r (kzi.eq_2 a b)
def z8y{r}(a b c):=evS (kzf · a b c) r (kzf.eq_2 a b c)
set_option linter.unusedVariables false
theorem z8c{α:Type}{x y:List α}(h:x.length+y.length<=268435456):ext x y=some (x++y):=by unfold ext;rw[Qbx (by simpa[zdg]using h)]
def I64(x:Int):Prop := -9223372036854775808<=x∧x<=9223372036854775807
theorem y2l{x:Int}(h:I64 x):Ev (λn=>z83 n x) (x.natAbs:Int):=by
 unfold I64 at h;rw[y69];simp only[Ev.pif,Ev.zz1,Qar];split;rw[wUn (x:=x) (by omega),wUn (by omega)];omega;rw[wU (by omega)];omega
theorem yez:∀(b a:Nat),Ev (λn=>z5o n (b:Int) (a:Int)) (Nat.gcd a b:Int):=by
 intro b
 induction b using Nat.strongRecOn with
 |ind b ih=>
  intro a;rw[zyq];by_cases hb:b=0;subst hb;simp[Ev.pif,Ev.zz1]
  have hm:rem .u64 (a:Int) (b:Int)=some ((a % b:Nat):Int):=by
   unfold rem;rw[Qby (by omega),Int.tmod_eq_emod_of_nonneg (by omega)];simp
  rw[Ev.kz2 (by simpa using hb),Ev.yz3 hm];have:=ih (a % b) (Nat.mod_lt _ (by omega)) b;rw[Nat.gcd_comm a b,Nat.gcd_rec b a,Nat.gcd_comm];exact this
theorem yjv{a b:Nat}:Ev (λn=>zbw n (a:Int) (b:Int)) (Nat.gcd a b:Int):=by
 rw[y91];exact yez b a
def rok(r:yz4):Bool:=decide (1<=r.den)&&decide (r.den<=1000000000)&&decide (r.num.natAbs<=1000000000)&&(Nat.gcd r.num.natAbs r.den.natAbs==1)
theorem y0w{r:yz4}:rok r=true↔1<=r.den∧r.den<=1000000000∧r.num.natAbs<=1000000000∧Nat.gcd r.num.natAbs r.den.natAbs=1:=by
 simp[rok,and_assoc]
theorem ybt{r:yz4}(h:I64 r.num):Ev (λn=>z52 n r) (if rok r then 0 else 8):=by
 have l0:∀b,Ev (λn=>z03 n b) (if b then 8 else 0):=λb=>by
  rw[zvj];cases b <;> simp[Ev.pif,Ev.zz1]
 rw[y3w];simp only[Ev.pif,Qar];split;refine(l0 _).to ?_;rw[Qbx rfl,Qby];rw[y0w];omega;split;refine(l0 _).to ?_;rw[Qbx rfl,Qby];rw[y0w];omega;rw[Ev.yz1 (y2l h)];simp only[Ev.pif,Qar];split;refine(l0 _).to ?_;rw[Qbx rfl,Qby];rw[y0w];omega;rw[Ev.yz1 (y2l h),wU (by omega)];have hd:r.den=(r.den.natAbs:Int):=by omega
 rw[hd,Ev.yz1 yjv];refine(l0 _).to ?_
 have:((((Nat.gcd r.num.natAbs r.den.natAbs:Nat):Int) != 1)=true)↔¬rok r=true:=by
  rw[y0w];simp only[bne_iff_ne,ne_eq];omega
 by_cases hr:rok r=true;rw[Qby (by rw[this];simpa using hr),Qbx hr];rw[Qbx (by rw[this];exact hr),Qby hr]
def wfR(r:yz4):Prop:=I64 r.num∧I64 r.den
def fdiv(a b:yz4):Int×Int:=(a.num * b.den,a.den * b.num)
theorem y8n{P:zz0->Prop}(h:∀v:zz0,(∀x,x∈v.list->P x)->P v)(v:zz0):P v:=h v λx hx=>y8n h x
termination_by v
decreasing_by exact zz0.zut hx
mutual
def zd3:zz0->Nat
 |⟨k,_,_,_,l⟩=>if k=4 then 1+z5e l else 1
def z5e:zzr->Nat
 |[]=>0
 |x::l=>zd3 x+z5e l
end
mutual
def zmd:zz0->Nat
 |⟨k,_,_,_,l⟩=>if k=4 then max 1 (znq l)else 1
def znq:zzr->Nat
 |[]=>0
 |x::l=>max (1+zmd x) (znq l)
end
theorem zm8(v:zz0):zd3 v=if v.kind=4 then 1+z5e v.list else 1:=by cases v;rw[zd3]
theorem y1t(v:zz0):zmd v=if v.kind=4 then max 1 (znq v.list)else 1:=by cases v;rw[zmd]
theorem yom{l:zzr}{x:zz0}(h:x∈l):x.size<=(l.map zz0.size).sum:=by
 induction l with
 |nil=>cases h
 |cons y l ih=>
  rcases Qbl.1 h with rfl|h
  simp;have:=ih h;simp;omega
theorem zbz(v:zz0):(v.list.map zz0.size).sum+v.str.length+4<=v.size:=by rw[zz0.size_eq];omega
theorem zqq{v x:zz0}(h:x∈v.list):x.size<=v.size:=by have:=yom h;have:=zbz v;omega
theorem zm4(l:zzr):l.length<=(l.map zz0.size).sum:=by
 induction l with
 |nil=>simp
 |cons x l ih=>have:=zbz x;simp;omega
theorem zw7:∀v:zz0,zd3 v<=v.size:=y8n λv ih=>by
 have:∀l:zzr,(∀x,x∈l->x∈v.list)->z5e l<=(l.map zz0.size).sum:=λl=>by
  induction l with
  |nil=>intro _;simp[z5e]
  |cons x l ihl=>
   intro hl;have:=ih x (hl x Qak);have:=ihl λy hy=>hl y (Qai _ hy)
   simp[z5e];omega
 have:=this v.list λ_ h=>h
 have:=zbz v;rw[zm8];split <;> omega
theorem yoi:∀v:zz0,zmd v<=zd3 v:=y8n λv ih=>by
 have:∀l:zzr,(∀x,x∈l->x∈v.list)->znq l<=1+z5e l:=λl=>by
  induction l with
  |nil=>intro _;simp[z5e,znq]
  |cons x l ihl=>
   intro hl;have:=ih x (hl x Qak);have:=ihl λy hy=>hl y (Qai _ hy)
   simp[z5e,znq];omega
 have:=this v.list λ_ h=>h
 rw[zm8,y1t];split <;> omega
theorem y3a(l:zzr):z5e l<=(l.map zz0.size).sum:=by
 induction l with
 |nil=>simp[z5e]
 |cons x l ih=>have:=zw7 x;simp[z5e];omega
theorem y65:∀v:zz0,v.size<=8388608->Ev (λn=>z3u n v) ((zd3 v:Int),(zmd v:Int)):=y8n λv ih hs=>by
 have l1:∀d p,Ev (λn=>z0w n d p) (p,d):=λd p=>by rw[zr9,Ev.zz1]
 have hsl:=zbz v;have hlen:=zm4 v.list
 have loop:∀k,k<=v.list.length->∀d p:Nat,p+z5e (v.list.drop k)<=8388609->d<=8388609->Ev (λn=>z0v n (k:Int) (d:Int) (p:Int) v.list (v.list.length:Int)) (((p+z5e (v.list.drop k):Nat):Int),((max d (znq (v.list.drop k)):Nat):Int)) :=
  down (λd p hp hd=>by
   rw[zgr,Ev.zz3 (by simp)];refine(l1 _ _).to ?_
   simp[z5e,znq]) λk hk ihk d p hp hd=>by
   have hx:=Qad hk;have hsx:=zqq hx;rw[<-Qah (h:=hk)]at hp ⊢;simp only[z5e,znq]at hp ⊢;have hpl:=zw7 v.list[k];have hdl:=yoi v.list[k];rw[zgr,Ev.kz2 (by simpa using hk),Ev.yz3 (yze hk),zz0.yz6,Ev.yz1 (ih _ hx (by omega)),wI (x:=_+1) (by omega),wI (x:=(zmd _:Int)+1) (by omega),wI (x:=(p:Int)+_) (by omega)];have e1:(k:Int)+1=((k+1:Nat):Int):=by omega
   have e2:(zmd v.list[k]:Int)+1=((1+zmd v.list[k]:Nat):Int):=by omega
   have e3:(p:Int)+(zd3 v.list[k]:Int)=((p+zd3 v.list[k]:Nat):Int):=by omega
   rw[e1,e2,e3,yi8];refine(ihk (max d (1+zmd v.list[k])) (p+zd3 v.list[k]) (by omega) (by omega)).to ?_
   congr 2 <;> omega
 rw[zwg];by_cases hk:v.kind=4;rw[Ev.kz2 (by simpa using hk)];have hv:=y3a v.list;have:=loop 0 (Qbv _) 1 1 (by simp;omega) (by omega);refine this.to ?_;rw[zm8,y1t,Qbx hk,Qbx hk,List.drop_zero];rw[Ev.zz3 (by simpa using hk)];refine(l1 1 1).to ?_;rw[zm8,y1t,Qby hk,Qby hk];rfl
theorem ye9:∀v:zz0,v.size<=8388608->Ev (λn=>z6r n v) (zd3 v:Int):=y8n λv ih hs=>by
 have hsl:=zbz v;have hlen:=zm4 v.list;rw[y3l,zz0.yz6,zm8];by_cases hk:v.kind=4;rw[Qbx hk];have hkk:(v.kind==4)=true:=by simpa using hk
 have loop:∀k,k<=v.list.length->∀p:Nat,p+z5e (v.list.drop k)<=8388609->Ev (λn=>z2g n (k:Int) (p:Int) v) ((p+z5e (v.list.drop k):Nat):Int) :=
  down (λp hp=>by
   rw[zed,Ev.zz3 (by simp),zee,Ev.zz3 (by rfl),Ev.zz1]
   simp[z5e]) λk hk ihk p hp=>by
   have hx:=Qad hk;have hsx:=zqq hx;rw[<-Qah (h:=hk)]at hp ⊢;simp only[z5e]at hp ⊢;have hpl:=zw7 v.list[k];rw[zed,Ev.kz2 (by simpa using hk),hkk,zz0.yz6,zee,Ev.kz2 (by rfl),Ev.yz3 (yze hk),zz0.yz6,Ev.yz1 (ih _ hx (by omega)),wI (x:=_+1) (by omega),wI (x:=(p:Int)+_) (by omega)];have e1:(k:Int)+1=((k+1:Nat):Int):=by omega
   have e3:(p:Int)+(zd3 v.list[k]:Int)=((p+zd3 v.list[k]:Nat):Int):=by omega
   rw[e1,e3,zz0.yz6];refine(ihk (p+zd3 v.list[k]) (by omega)).to ?_
   congr 1;omega
 have hv:=y3a v.list;exact loop 0 (Qbv _) 1 (by simp;omega);rw[Qby hk];have hkk:(v.kind==4)=false:=by simpa using hk
 have l1:Ev (λn=>z2x n 0 1 false v) 1:=by rw[zee,Ev.zz3 (by rfl),Ev.zz1]
 rw[zed,hkk,zz0.yz6,Ev.pif];split <;> exact l1
def v0:zz0:=⟨0,⟨0,0⟩,false,[],[]⟩
def y5e(c:UInt8):Bool:=decide (32<=c.toNat)&&decide (c.toNat<=126)
def nul(v:yz4):Bool:=v.num==0&&v.den==0
mutual
def zy3:zz0->Bool
 |⟨k,q,t,s,l⟩ =>
  if k=1 then rok q&&(!t&&(s.isEmpty&&l.isEmpty))
  else if k=2 then nul q&&(s.isEmpty&&l.isEmpty)
  else if k=3 then nul q&&(!t&&(l.isEmpty&&(decide (s.length<=60)&&s.all y5e)))
  else if k=4 then nul q&&(!t&&(s.isEmpty&&zty l))
  else false
def zty:zzr->Bool
 |[]=>true
 |x::l=>zy3 x&&zty l
end
theorem ylt(v:zz0):zy3 v =
 if v.kind=1 then rok v.num&&(!v.truth&&(v.str.isEmpty&&v.list.isEmpty))
 else if v.kind=2 then nul v.num&&(v.str.isEmpty&&v.list.isEmpty)
 else if v.kind=3 then nul v.num&&(!v.truth&&(v.list.isEmpty&&(decide (v.str.length<=60)&&v.str.all y5e)))
 else if v.kind=4 then nul v.num&&(!v.truth&&(v.str.isEmpty&&zty v.list))
 else false:=by cases v;rw[zy3]
def y9p(v:zz0):Int:=if 100<zd3 v∨6<zmd v then 4 else if zy3 v then 0 else 8
theorem yr8{v:zz0}(h:v.wf):wfR v.num:=by
 rw[zz0.z1e]at h;have:=h.2.1;rw[yz4.z1e]at this;simpa[wfR,I64,IntKind.min,IntKind.max,IntKind.signed,IntKind.bits]using this
theorem yp5{v:zz0}(h:v.wf):∀x∈v.list,x.wf:=by
 rw[zz0.z1e]at h;exact h.2.2.2.2
theorem zfi{v:zz0}:Ev (λn=>z0q n v) (nul v.num&&(!v.truth&&(v.str.isEmpty&&v.list.isEmpty))):=by
 rw[zx1];obtain⟨k,⟨p,q⟩,t,s,l⟩:=v;simp only[Ev.pif,Ev.zz1,nul,Bool.and_true];cases p==0 <;> cases q==0 <;> cases t <;> cases s <;> cases l <;> simp <;> omega
theorem yf0:∀v:zz0,v.wf->v.size<=8388608->Ev (λn=>z7z n v) (zy3 v):=y8n λv ih hw hs=>by
 have hsl:=zbz v;have hlen:=zm4 v.list;rw[y52,ylt];by_cases h1:v.kind=1;rw[Qbx h1,Ev.kz2 (by simpa using h1),Ev.yz1 (ybt (yr8 hw).1)];cases hr:rok v.num;rw[Ev.kz2 (by rfl),Ev.zz1];rfl;rw[Ev.zz3 (by rfl)];exact zfi;rw[Qby h1,Ev.zz3 (by simpa using h1)];by_cases h2:v.kind=2;rw[Qbx h2,Ev.kz2 (by simpa using h2)];exact zfi;rw[Qby h2,Ev.zz3 (by simpa using h2)];by_cases h3:v.kind=3
 rw[Qbx h3,Ev.kz2 (by simpa using h3)];by_cases hl:v.str.length<=60;rw[Ev.zz3 (by simp;omega),zz0.yz6]
 have loop:∀w:zz0,∀k,k<=v.str.length->Ev (λn=>z4h n (k:Int) v w) ((v.str.drop k).all y5e&&(nul w.num&&(!w.truth&&(w.str.isEmpty&&w.list.isEmpty)))):=λw=>
  down (by
   rw[zl8,Ev.zz3 (by simp),zz0.yz6]
   simpa using zfi) λk hk ihk=>by
   have bad:Ev (λn=>z3v n (k:Int) true v w) false:=by rw[zlg,Ev.kz2 (by rfl),Ev.zz1]
   rw[<-Qah (h:=hk),List.all_cons];rw[zl8,Ev.kz2 (by simpa using hk),Ev.yz3 (yze hk),zz0.yz6,zz0.yz6];by_cases c1:v.str[k].toNat<32;rw[Ev.kz2 (by simp;omega)];refine bad.to ?_;have:y5e v.str[k]=false:=by simp[y5e];omega
   rw[this];rfl;rw[Ev.zz3 (by simp;omega),Ev.yz3 (yze hk)];by_cases c2:v.str[k].toNat>126;rw[show decide ((v.str[k].toNat:Int)>126)=true by simp;omega];refine bad.to ?_;have:y5e v.str[k]=false:=by simp[y5e];omega
   rw[this];rfl;rw[show decide ((v.str[k].toNat:Int)>126)=false by simp;omega,zlg,Ev.zz3 (by rfl),wrk (by omega),zz0.yz6,zz0.yz6];have:y5e v.str[k]=true:=by simp[y5e];omega
   rw[this,Bool.true_and];exact ihk
 refine(loop ⟨v.kind,v.num,v.truth,[],v.list⟩ 0 (Qbv _)).to ?_;simp only[List.drop_zero,hl,decide_true,Bool.true_and,List.isEmpty_nil];cases nul v.num <;> cases v.truth <;> cases v.list.isEmpty <;> cases v.str.all y5e <;> rfl
 rw[Ev.kz2 (by simp;omega),Ev.zz1];simp[hl];rw[Qby h3,Ev.zz3 (by simpa using h3)];by_cases h4:v.kind=4;rw[Qbx h4,Ev.kz2 (by simpa using h4)]
 have loop:∀w:zz0,∀k,k<=v.list.length->Ev (λn=>z3w n (k:Int) v.list (v.list.length:Int) w) (zty (v.list.drop k)&&(nul w.num&&(!w.truth&&(w.str.isEmpty&&w.list.isEmpty)))):=λw=>
  down (by
   rw[zlx,Ev.zz3 (by simp),zz0.yz6]
   simpa[zty]using zfi) λk hk ihk=>by
   have hx:=Qad hk;have hsx:=zqq hx;rw[<-Qah (h:=hk),zty];rw[zlx,Ev.kz2 (by simpa using hk),Ev.yz3 (yze hk),zz0.yz6,Ev.yz1 (ih _ hx (yp5 hw _ hx) (by omega))];cases hf:zy3 v.list[k];rw[Ev.kz2 (by rfl),Ev.zz1];rfl;rw[Ev.zz3 (by rfl),wrk (by omega),zz0.yz6,Bool.true_and];exact ihk
 refine(loop ⟨v.kind,v.num,v.truth,v.str,[]⟩ 0 (Qbv _)).to ?_;simp only[List.drop_zero,List.isEmpty_nil,Bool.and_true];cases nul v.num <;> cases v.truth <;> cases v.str.isEmpty <;> cases zty v.list <;> rfl
 rw[Qby h4,Ev.zz3 (by simpa using h4),Ev.zz1]
theorem ycp{v:zz0}(hw:v.wf)(hs:v.size<=8388608):Ev (λn=>z4w n v) (y9p v):=by
 have l0:∀b,Ev (λn=>z2s n b v) (if b then 4 else if zy3 v then 0 else 8):=λb=>by
  rw[zuz];cases b;rw[Ev.zz3 (by rfl),zz0.yz6,Ev.yz1 (yf0 v hw hs)];cases zy3 v;rw[Ev.kz2 (by rfl),Ev.zz1];rfl;rw[Ev.zz3 (by rfl),Ev.zz1];rfl;rw[Ev.kz2 (by rfl),Ev.zz1];rfl
 rw[y0y,zz0.yz6,Ev.yz1 (y65 v hs)];unfold y9p;simp only[Ev.pif];by_cases h1:100<zd3 v;rw[Qbx (by simp;omega),Qbx (.inl h1)];exact l0 true;rw[Qby (by simp;omega)];by_cases h2:6<zmd v;rw[Qbx (.inr h2),show decide ((zmd v:Int)>6)=true by simp;omega];exact l0 true;rw[Qby (by omega),show decide ((zmd v:Int)>6)=false by simp;omega];exact l0 false
theorem vext{a b:zz0}(h1:a.kind=b.kind)(h2:a.num.num=b.num.num)(h3:a.num.den=b.num.den)(h4:a.truth=b.truth)(h5:a.str=b.str)(h6:a.list=b.list):a=b:=by
 obtain⟨k,⟨p,q⟩,t,s,l⟩:=a;obtain⟨k',⟨p',q'⟩,t',s',l'⟩:=b
 simp_all
theorem yo6{α:Type}{x y:α}{l m:List α}:eqB (x::l) (y::m)=(eqB x y&&eqB l m):=by
 cases h:(eqB x y&&eqB l m)
 rw[z9v];intro hh;injection hh with h1 h2
 rw[Bool.and_eq_false_iff,z9v,z9v]at h;exact h.elim (λh=>h h1) (λh=>h h2);rw[zm7];rw[Qag,zm7,zm7]at h;rw[h.1,h.2]
theorem yf8:∀a b:zz0,a.size<=8388608->Ev (λn=>z27 n a b) (eqB a b):=y8n (P:=λa=>∀b:zz0,a.size<=8388608->Ev (λn=>z27 n a b) (eqB a b)) λa ih b hs=>by
 have hsl:=zbz a;have hlen:=zm4 a.list;have bad:a≠b->Ev (λn=>yzx n true b a) (eqB a b):=λh=>by rw[zkz,Ev.kz2 (by rfl),Ev.zz1,z9v.2 h]
 rw[y76,zz0.yz6,zz0.yz6];by_cases h1:a.kind=b.kind
 case neg=>rw[Ev.kz2 (by simpa using h1)];exact bad λh=>h1 (by rw[h])
 rw[Ev.zz3 (by simpa using h1)];by_cases h2:a.num.num=b.num.num∧a.num.den=b.num.den
 case neg=>rw[Ev.kz2 (by simp;omega)];exact bad λh=>h2 (by rw[h];exact⟨rfl,rfl⟩)
 rw[Ev.zz3 (by simp[h2])];by_cases h3:a.truth=b.truth
 case neg=>rw[Ev.kz2 (by simpa using h3)];exact bad λh=>h3 (by rw[h])
 rw[Ev.zz3 (by simp[h3])];by_cases h4:a.str=b.str
 case neg=>rw[Ev.kz2 (by simpa using h4)];exact bad λh=>h4 (by rw[h])
 rw[Ev.zz3 (by simp[h4])];by_cases h5:a.list.length=b.list.length
 case neg=>rw[show((a.list.length:Int) != (b.list.length:Int))=true by simp;omega];exact bad λh=>h5 (by rw[h])
 rw[show((a.list.length:Int) != (b.list.length:Int))=false by simp;omega,zkz,Ev.zz3 (by rfl),zz0.yz6,zz0.yz6]
 have loop:∀k,k<=a.list.length->Ev (λn=>z4e n (k:Int) (a.list.length:Int) b a) (eqB (a.list.drop k) (b.list.drop k)) :=
  down (by
   rw[zm5,Ev.zz3 (by simp),Ev.zz1,List.drop_length,h5,List.drop_length,zr1]) λk hk ihk=>by
   have hk2:k<b.list.length:=by omega
   have hx:=Qad hk;have hsx:=zqq hx;rw[<-Qah (h:=hk),<-Qah (h:=hk2),yo6];rw[zm5,Ev.kz2 (by simpa using hk),Ev.yz3 (yze hk),Ev.yz3 (yze hk2),zz0.yz6,zz0.yz6,Ev.yz1 (ih _ hx _ (by omega))];cases hf:eqB a.list[k] b.list[k];rw[Ev.kz2 (by rfl),Ev.zz1];rfl;rw[Ev.zz3 (by rfl),wrk (by omega),zz0.yz6,zz0.yz6,Bool.true_and];exact ihk
 refine(loop 0 (Qbv _)).to ?_;rw[List.drop_zero,List.drop_zero];by_cases h6:a.list=b.list;rw[zm7.2 h6,zm7.2 (vext h1 h2.1 h2.2 h3 h4 h6)];rw[z9v.2 h6,z9v.2 λh=>h6 (by rw[h])]
theorem z29{α:Type}{l:List α}{k:Nat}(h:k<l.length):l.take k++[l[k]]=l.take (k+1):=by
 rw[List.take_add_one,Qab h];rfl
theorem ycb:∀v:zz0,v.size<=8388608->∀d:Int,∃b,Ev (λn=>z6s n v d) b:=y8n λv ih hs d=>by
 have hsl:=zbz v;have hlen:=zm4 v.list
 have loop:∀k,k<=v.list.length->∀d:Int,∃b,Ev (λn=>z2t n (k:Int) d v) b :=
  down (λd=>⟨false,by rw[zj4,Ev.zz3 (by simp),Ev.zz1]⟩) λk hk ihk d=>by
   have hx:=Qad hk;have hsx:=zqq hx;obtain⟨b,hb⟩:=ih _ hx (by omega) (IntKind.i64.wrap (d-1));obtain⟨c,hc⟩:=ihk d;refine⟨if b then true else c,?_⟩;rw[zj4,Ev.kz2 (by simpa using hk),Ev.yz3 (yze hk),zz0.yz6,Ev.yz1 hb,zz0.yz6,wrk (by omega)];cases b;rw[Ev.zz3 (by rfl)];exact hc;rw[Ev.kz2 (by rfl),Ev.zz1];rfl
 have l0:∀d b,∃c,Ev (λn=>z19 n d b v) c:=λd b=>by
  cases b;obtain⟨c,hc⟩:=loop 0 (Qbv _) d;exact⟨c,by rw[zj5,Ev.zz3 (by rfl),zz0.yz6];exact hc⟩;exact⟨true,by rw[zj5,Ev.kz2 (by rfl),Ev.zz1]⟩
 simp only[y2c,zz0.yz6,Ev.pif];split;exact l0 _ _;split;exact l0 _ _;exact l0 _ _
theorem ybn{v:zz0}(hs:v.size<=8388608):∃b,Ev (λn=>z8q n v) b:=by
 obtain⟨b,hb⟩:=ycb v hs 10;cases b;exact⟨_,by rw[zpd,zz0.yz6,Ev.yz1 hb,Ev.zz3 (by rfl),Ev.yz1 (ye9 v hs)];exact Ev.zz1.2 rfl⟩;exact⟨true,by rw[zpd,zz0.yz6,Ev.yz1 hb,Ev.kz2 (by rfl),Ev.zz1]⟩
theorem y4o{s:B8}(hs:s.length<=8388608):Ev (λn=>z86 n s) (ztu s):=by
 have l3t:∀q,Ev (λn=>yzt n true s q) false:=λq=>by rw[zm9,Ev.kz2 (by rfl),Ev.zz1]
 have step:∀k (hk:k<s.length) (r:Bool),((if k=0 then isLet s[k]else zl9 s[k])=false->r=false)->((if k=0 then isLet s[k]else zl9 s[k])=true->Ev (λn=>zzy n s (k+1)) r)->Ev (λn=>zzy n s k) r:=λk hk r hf ht=>by
  have l3:∀b,(if k=0 then isLet s[k]else zl9 s[k]) = !b->(b=false->(z9m s k).2=1)->Ev (λn=>yzt n b s (k+(z9m s k).2)) r:=λb hb h1=>by
   cases b;rw[zm9,Ev.zz3 (by rfl),h1 rfl];exact ht hb;exact(l3t _).to (hf hb).symm
  rw[zls,Ev.kz2 (by simpa using hk)];by_cases hlow:s[k].toNat<128;have hd:=ylr hk hlow;rw[hd]at l3;rw[hd]
  have l2:∀b,b=isLet s[k]->Ev (λn=>z45 n (s[k].toNat:Int) (k:Int) b s (k+1)) r:=λb hb=>by
   subst hb;rw[zll];cases hl:isLet s[k];rw[Ev.kz2 (by rfl)];by_cases h0:k=0;rw[Ev.kz2 (by simpa using h0)];exact l3 true (by rw[Qbx h0,hl];rfl) (by simp);rw[Ev.zz3 (by simpa using h0)];by_cases h45:s[k].toNat=45;have:s[k]=45:=UInt8.toNat_inj.1 (by simpa using h45);rw[Ev.zz3 (by simp;omega)];exact l3 false (by rw[Qby h0,zl9,this];rfl) (λ_=>rfl)
   have hne:(s[k]==45)=false:=by
    simp only[beq_eq_false_iff_ne];intro h;rw[h]at h45;exact h45 rfl
   rw[Ev.kz2 (by simp;omega)];by_cases c1:s[k].toNat<48;rw[Ev.kz2 (by simp;omega)];refine l3 true ?_ (by simp);rw[Qby h0,zl9,hl,hne,yhp];simp;omega;rw[Ev.zz3 (by simp;omega)];refine l3 _ ?_ (λ_=>rfl);rw[Qby h0,zl9,hl,hne,yhp];have e1:decide (48<=s[k].toNat)=true:=by rw[Qar];omega
   have e3:decide ((s[k].toNat:Int)>57) = !decide (s[k].toNat<=57):=by
    by_cases c2:s[k].toNat<=57;rw[show decide (s[k].toNat<=57)=true by rw[Qar];exact c2];simp only[Bool.not_true,decide_eq_false_iff_not];omega;rw[show decide (s[k].toNat<=57)=false by rw[decide_eq_false_iff_not];exact c2];simp only[Bool.not_false,Qar];omega
   rw[e1,e3];simp;rw[Ev.zz3 (by rfl)];refine l3 false ?_ (λ_=>rfl);split;exact hl;rw[zl9,hl];rfl
  simp only;by_cases c1:97<=s[k].toNat;rw[Ev.kz2 (by simp;omega)];exact l2 _ (by simp[isLet,c1];omega);rw[Ev.zz3 (by simp;omega)];exact l2 _ (by simp[isLet];omega);obtain⟨h1,h2⟩:=yj9 hk (by omega);have nl:isLet s[k]=false:=by simp[isLet];omega
  have nm:zl9 s[k]=false:=by
   rw[zl9,nl,yhp];have:(s[k]==45)=false:=by simp only[beq_eq_false_iff_ne];intro h;rw[h]at hlow;exact hlow (by decide)
   rw[this];simp;omega
  have bad:(if k=0 then isLet s[k]else zl9 s[k])=false:=by split <;> assumption
  rw[Ev.kz2 (by simp;omega),show decide (((z9m s k).1:Int)<=122)=false by simp;omega,zll,Ev.kz2 (by rfl)];by_cases h0:k=0;rw[Ev.kz2 (by simpa using h0)];exact(l3t _).to (hf bad).symm;rw[Ev.zz3 (by simpa using h0),Ev.kz2 (by simp;omega),Ev.zz3 (by simp;omega),show decide (((z9m s k).1:Int)>57)=true by simp;omega];exact(l3t _).to (hf bad).symm
 have rest:∀k,k<=s.length->1<=k->Ev (λn=>zzy n s k) ((s.drop k).all zl9) :=
  down (Q:=λk=>1<=k->Ev (λn=>zzy n s k) ((s.drop k).all zl9)) (λ_=>by
   rw[zls,Ev.zz3 (by simp),Ev.zz1];simp) λk hk ih h1=>by
   rw[<-Qah (h:=hk),List.all_cons];refine step k hk _ (λh =>?_) λh =>?_
   rw[Qby (by omega)]at h;rw[h];rfl;rw[Qby (by omega)]at h;rw[h];exact ih (by omega)
 rw[y4y]
 cases s with
 |nil=>rw[Ev.kz2 (by rfl),zly,Ev.kz2 (by rfl),Ev.zz1];rfl
 |cons c t=>
  rw[Ev.zz3 (by simp;omega),zly];by_cases h40:(c::t).length<=40;rw[Ev.zz3 (by simp at h40 ⊢;omega)];refine step 0 (by simp) _ (λh =>?_) λh =>?_
  rw[Qbx rfl]at h;simp only[List.getElem_cons_zero]at h;simp[ztu,h];rw[Qbx rfl]at h;simp only[List.getElem_cons_zero]at h;refine(rest 1 (by simp) (Qbw _)).to ?_;simp[ztu,h];intro _;simpa using h40
  rw[Ev.kz2 (by simp at h40 ⊢;omega),Ev.zz1];simp[ztu];intro _ _;simpa using h40
theorem ypc{c:UInt8}:Ev (λn=>zgh n (c.toNat:Int)) (isLet c):=by
 rw[y0c];simp only[Ev.pif,Ev.zz1,isLet,Qar];split;have:97<=c.toNat:=by omega
 simp[this];omega;have:¬97<=c.toNat:=by omega
 simp[this]
def y8b(s:B8):Bool:=ztu s&&(!(s==[116,114,117,101]) && !(s==[102,97,108,115,101]))
theorem yfe{s:B8}(hs:s.length<=8388608):Ev (λn=>z9s n s) (y8b s):=by
 rw[y6y,Ev.yz1 (y4o hs)];unfold y8b;cases ztu s <;> cases h:(s==[116,114,117,101]) <;> simp[Ev.pif,Ev.zz1]
theorem zyo{P:kz0->Prop}(h:∀e:kz0,(∀x,x∈e.args->P x)->P e)(e:kz0):P e:=h e λx hx=>zyo h x
termination_by e
decreasing_by exact kz0.zv3 hx
mutual
def z84:kz0->Nat
 |⟨_,_,_,l⟩=>1+zzq l
def zzq:zz7->Nat
 |[]=>0
 |x::l=>z84 x+zzq l
end
mutual
def zjn:kz0->Nat
 |⟨_,_,_,l⟩=>max 1 (znh l)
def znh:zz7->Nat
 |[]=>0
 |x::l=>max (1+zjn x) (znh l)
end
theorem zc2(e:kz0):z84 e=1+zzq e.args:=by cases e;rw[z84]
theorem ybm(e:kz0):zjn e=max 1 (znh e.args):=by cases e;rw[zjn]
theorem zwk{l:zz7}{x:kz0}(h:x∈l):x.size<=(l.map kz0.size).sum:=by
 induction l with
 |nil=>cases h
 |cons y l ih=>
  rcases Qbl.1 h with rfl|h
  simp;have:=ih h;simp;omega
theorem zav(e:kz0):(e.args.map kz0.size).sum+e.name.length+e.value.size+4<=e.size:=by rw[kz0.size_eq];omega
theorem zph{e x:kz0}(h:x∈e.args):x.size<=e.size:=by have:=zwk h;have:=zav e;omega
theorem zdh(l:zz7):l.length<=(l.map kz0.size).sum:=by
 induction l with
 |nil=>simp
 |cons x l ih=>have:=zav x;simp;omega
theorem zqs:∀e:kz0,z84 e<=e.size:=zyo λe ih=>by
 have:∀l:zz7,(∀x,x∈l->x∈e.args)->zzq l<=(l.map kz0.size).sum:=λl=>by
  induction l with
  |nil=>intro _;simp[zzq]
  |cons x l ihl=>
   intro hl;have:=ih x (hl x Qak);have:=ihl λy hy=>hl y (Qai _ hy)
   simp[zzq];omega
 have:=this e.args λ_ h=>h
 have:=zav e;rw[zc2];omega
theorem yle:∀e:kz0,zjn e<=z84 e:=zyo λe ih=>by
 have:∀l:zz7,(∀x,x∈l->x∈e.args)->znh l<=1+zzq l:=λl=>by
  induction l with
  |nil=>intro _;simp[zzq,znh]
  |cons x l ihl=>
   intro hl;have:=ih x (hl x Qak);have:=ihl λy hy=>hl y (Qai _ hy)
   simp[zzq,znh];omega
 have:=this e.args λ_ h=>h
 rw[zc2,ybm];omega
theorem y20(l:zz7):zzq l<=(l.map kz0.size).sum:=by
 induction l with
 |nil=>simp[zzq]
 |cons x l ih=>have:=zqs x;simp[zzq];omega
theorem y98:∀e:kz0,e.size<=8388608->Ev (λn=>z5s n e) ((z84 e:Int),(zjn e:Int)):=zyo λe ih hs=>by
 have hsl:=zav e;have hlen:=zdh e.args
 have loop:∀k,k<=e.args.length->∀d p:Nat,p+zzq (e.args.drop k)<=8388609->d<=8388609->Ev (λn=>z1n n (k:Int) (d:Int) (p:Int) e.args (e.args.length:Int)) (((p+zzq (e.args.drop k):Nat):Int),((max d (znh (e.args.drop k)):Nat):Int)) :=
  down (λd p hp hd=>by
   rw[zin,Ev.zz3 (by simp),Ev.zz1]
   simp[zzq,znh]) λk hk ihk d p hp hd=>by
   have hx:=Qad hk;have hsx:=zph hx;rw[<-Qah (h:=hk)]at hp ⊢;simp only[zzq,znh]at hp ⊢;have hpl:=zqs e.args[k];have hdl:=yle e.args[k];rw[zin,Ev.kz2 (by simpa using hk),Ev.yz3 (yze hk),kz0.yz6,Ev.yz1 (ih _ hx (by omega)),wI (x:=_+1) (by omega),wI (x:=(zjn _:Int)+1) (by omega),wI (x:=(p:Int)+_) (by omega)];have e1:(k:Int)+1=((k+1:Nat):Int):=by omega
   have e2:(zjn e.args[k]:Int)+1=((1+zjn e.args[k]:Nat):Int):=by omega
   have e3:(p:Int)+(z84 e.args[k]:Int)=((p+z84 e.args[k]:Nat):Int):=by omega
   rw[e1,e2,e3,yi8];refine(ihk (max d (1+zjn e.args[k])) (p+z84 e.args[k]) (by omega) (by omega)).to ?_
   congr 2 <;> omega
 rw[y0f];have hv:=y20 e.args;have:=loop 0 (Qbv _) 1 1 (by simp;omega) (by omega);refine this.to ?_;rw[zc2,ybm,List.drop_zero]
theorem ycm:∀e:kz0,e.size<=8388608->Ev (λn=>z6q n e) (z84 e:Int):=zyo λe ih hs=>by
 have hsl:=zav e;have hlen:=zdh e.args;rw[y3c,kz0.yz6,zc2]
 have loop:∀k,k<=e.args.length->∀p:Nat,p+zzq (e.args.drop k)<=8388609->Ev (λn=>z2l n (k:Int) (p:Int) e) ((p+zzq (e.args.drop k):Nat):Int) :=
  down (λp hp=>by
   rw[zj1,Ev.zz3 (by simp),Ev.zz1]
   simp[zzq]) λk hk ihk p hp=>by
   have hx:=Qad hk;have hsx:=zph hx;rw[<-Qah (h:=hk)]at hp ⊢;simp only[zzq]at hp ⊢;have hpl:=zqs e.args[k];rw[zj1,Ev.kz2 (by simpa using hk),Ev.yz3 (yze hk),kz0.yz6,Ev.yz1 (ih _ hx (by omega)),wI (x:=_+1) (by omega),wI (x:=(p:Int)+_) (by omega)];have e1:(k:Int)+1=((k+1:Nat):Int):=by omega
   have e3:(p:Int)+(z84 e.args[k]:Int)=((p+z84 e.args[k]:Nat):Int):=by omega
   rw[e1,e3,kz0.yz6];refine(ihk (p+z84 e.args[k]) (by omega)).to ?_
   congr 1;omega
 have hv:=y20 e.args;exact loop 0 (Qbv _) 1 (by simp;omega)
def zf9(op:Int):Int :=
 if op=1∨op=2 then 0 else if (3<=op∧op<=10)∨op=13∨op=14∨op=17 then 2 else if op=11∨op=15∨op=16 then 1 else if op=12 then 3 else if op=18 then -1 else -2
theorem ops(op:Int):op=1∨op=2∨op=3∨op=4∨op=5∨op=6∨op=7∨op=8∨op=9∨op=10∨op=11∨op=12∨op=13∨op=14∨op=15∨op=16∨op=17∨op=18∨(op<1∨18<op):=by omega
theorem yfx{op:Int}:Ev (λn=>z9r n op) (zf9 op):=by
 rcases ops op with rfl|rfl|rfl|rfl|rfl|rfl|rfl|rfl|rfl|rfl|rfl|rfl|rfl|rfl|rfl|rfl|rfl|rfl|h
 case inr.inr.inr.inr.inr.inr.inr.inr.inr.inr.inr.inr.inr.inr.inr.inr.inr.inr=>
  have e:zf9 op = -2:=by unfold zf9;rw[Qby (by omega),Qby (by omega),Qby (by omega),Qby (by omega),Qby (by omega)]
  rw[e];have n (j:Int) (h1:1<=j) (h2:j<=18):(op==j)=false:=by simp;omega
  simp[zsd,zl7,zlt,zmc,zlj,zl1,Ev.pif,Ev.zz1,n]
 all_goals simp[zsd,zl7,zlt,zmc,zlj,zx2,zl1,Ev.pif,Ev.zz1,zf9]
noncomputable def ykh(op:Int)(v:zz0)(nm:B8):Bool :=
 if op=1 then y9p v==0&&(v.kind != 4&&nm.isEmpty)else if op=2 then y8b nm&&eqB v v0 else nm.isEmpty&&eqB v v0
def yfh(op:Int)(k:Nat):Bool:=zf9 op != -2&&(decide (zf9 op<0)||(k:Int)==zf9 op)
mutual
noncomputable def zs0:kz0->Bool
 |⟨op,v,nm,l⟩=>yfh op l.length&&(ykh op v nm&&zgj l)
noncomputable def zgj:zz7->Bool
 |[]=>true
 |x::l=>zs0 x&&zgj l
end
theorem yo8(e:kz0):zs0 e=(yfh e.op e.args.length&&(ykh e.op e.value e.name&&zgj e.args)):=by cases e;rw[zs0]
noncomputable def zec(e:kz0):Int:=if 100<z84 e∨12<zjn e then 4 else if zs0 e then 0 else 8
theorem ykn{e:kz0}(h:e.wf):e.value.wf:=by rw[kz0.z1e]at h;exact h.2.1
theorem ym7{e:kz0}(h:e.wf):∀x∈e.args,x.wf:=by rw[kz0.z1e]at h;exact h.2.2.2
theorem zxl(s:B8):(!(s==[])) = !s.isEmpty:=by cases s <;> rfl
theorem yja:∀e:kz0,e.wf->e.size<=8388608->Ev (λn=>z9e n e) (zs0 e):=zyo λe ih hw hs=>by
 have hsl:=zav e;have hlen:=zdh e.args
 have idx:∀k,k<=e.args.length->∃i:Int,Ev (λn=>zz6 n (k:Int) e.args (e.args.length:Int)) i∧decide (i>=0) = !zgj (e.args.drop k) :=
  down ⟨-1,by rw[yzu,Ev.zz3 (by simp),Ev.zz1],by simp[zgj]⟩ λk hk ihk=>by
   have hx:=Qad hk;have hsx:=zph hx
   have hf1:Ev (λn=>z8m n e.args[k]) (!zs0 e.args[k]):=by
    rw[y4s,kz0.yz6,Ev.yz1 (ih _ hx (ym7 hw _ hx) (by omega)),Ev.zz1]
   obtain⟨i,h1,h2⟩:=ihk;rw[<-Qah (h:=hk),zgj];cases hf:zs0 e.args[k];refine⟨k,?_,by simp⟩;rw[yzu,Ev.kz2 (by simpa using hk),Ev.yz3 (yze hk),kz0.yz6,Ev.yz1 hf1,Ev.kz2 (by rw[hf];rfl),Ev.zz1];refine⟨i,?_,by rw[h2];rfl⟩;rw[yzu,Ev.kz2 (by simpa using hk),Ev.yz3 (yze hk),kz0.yz6,Ev.yz1 hf1,Ev.zz3 (by rw[hf];rfl),wrk (by omega)];exact h1
 have l4:Ev (λn=>z3d n e) (zgj e.args):=by
  obtain⟨i,h1,h2⟩:=idx 0 (Qbv _);have hi:Ev (λn=>kzb n e.args) i:=by rw[za3];exact h1
  have hc:Ev (λn=>yza n e.args) (!zgj e.args):=by
   rw[z8t,Ev.yz1 hi,Ev.zz1,h2];rfl
  rw[zyf,Ev.yz1 hc,Ev.zz1,Bool.not_not]
 have l1:∀b,Ev (λn=>z3b n b e) (!b&&zgj e.args):=λb=>by
  rw[y0i];cases b;rw[Ev.zz3 (by rfl),kz0.yz6];exact l4;rw[Ev.kz2 (by rfl),Ev.zz1];rfl
 have l2:∀b,Ev (λn=>z5q n b e) (!b&&zgj e.args):=λb=>by
  rw[zyy];cases b;rw[Ev.zz3 (by rfl),kz0.yz6];exact l4;rw[Ev.kz2 (by rfl),Ev.zz1];rfl
 have l3:∀b,Ev (λn=>z5r n b e) (!b&&zgj e.args):=λb=>by
  rw[y09];cases b;rw[Ev.zz3 (by rfl),kz0.yz6];exact l4;rw[Ev.kz2 (by rfl),Ev.zz1];rfl
 have l0:∀b,Ev (λn=>z3c n b e) (!b&&(ykh e.op e.value e.name&&zgj e.args)):=λb=>by
  rw[y0b];cases b
  case true=>rw[Ev.kz2 (by rfl),Ev.zz1];rfl
  rw[Ev.zz3 (by rfl)];have hsame:Ev (λn=>z27 n e.value (zz0.mk 0 (yz4.mk 0 0) false [] [])) (eqB e.value v0):=yf8 e.value v0 (by omega);by_cases h1:e.op=1;rw[Ev.kz2 (by simpa using h1),zz0.yz6,Ev.yz1 (ycp (ykn hw) (by omega)),kz0.yz6,zxl];simp only[ykh,Qbx h1];by_cases hc:y9p e.value=0;rw[Ev.zz3 (by simpa using hc)];by_cases hk:e.value.kind=4;rw[Ev.kz2 (by simpa using hk)]
  refine(l1 true).to ?_;simp[hc,hk];rw[Ev.zz3 (by simpa using hk)];have hk':(e.value.kind != 4)=true:=by simpa using hk
  refine(l1 _).to ?_;simp[hc,hk'];rw[Ev.kz2 (by simpa using hc)];refine(l1 true).to ?_;simp[hc];rw[Ev.zz3 (by simpa using h1)];by_cases h2:e.op=2;rw[Ev.kz2 (by simpa using h2),Ev.yz1 (yfe (by omega)),zz0.yz6,kz0.yz6];simp only[ykh,Qby h1,Qbx h2];cases hn:y8b e.name;rw[Ev.kz2 (by rfl)];exact(l2 true).to (by simp);rw[Ev.zz3 (by rfl),Ev.yz1 hsame];exact(l2 _).to (by simp)
  rw[Ev.zz3 (by simpa using h2),zxl,zz0.yz6,kz0.yz6];simp only[ykh,Qby h1,Qby h2];cases hn:e.name.isEmpty;rw[Ev.kz2 (by rfl)];exact(l3 true).to (by simp);rw[Ev.zz3 (by rfl),Ev.yz1 hsame];exact(l3 _).to (by simp)
 rw[yau,Ev.yz1 yfx,yo8,kz0.yz6];unfold yfh;by_cases c1:zf9 e.op = -2;rw[Ev.kz2 (by simpa using c1)];exact(l0 true).to (by simp[c1]);rw[Ev.zz3 (by simpa using c1)];by_cases c2:zf9 e.op>=0;rw[Ev.kz2 (by simpa using c2)];refine(l0 _).to ?_;rw[show decide (zf9 e.op<0)=false by simpa using c2,show(zf9 e.op != -2)=true by simpa using c1];simp only[bne,Bool.not_not,Bool.true_and,Bool.false_or]
 rw[Ev.zz3 (by simpa using c2)];refine(l0 _).to ?_;rw[show decide (zf9 e.op<0)=true by simp;omega,show(zf9 e.op != -2)=true by simpa using c1];simp
theorem zno{e:kz0}(hw:e.wf)(hs:e.size<=8388608):Ev (λn=>yzy n e) (zec e):=by
 have l0:∀b,Ev (λn=>z4c n b e) (if b then 4 else if zs0 e then 0 else 8):=λb=>by
  rw[zwl];cases b;rw[Ev.zz3 (by rfl),kz0.yz6,Ev.yz1 (yja e hw hs)];cases zs0 e;rw[Ev.kz2 (by rfl),Ev.zz1];rfl;rw[Ev.zz3 (by rfl),Ev.zz1];rfl;rw[Ev.kz2 (by rfl),Ev.zz1];rfl
 rw[y5g,kz0.yz6,Ev.yz1 (y98 e hs)];unfold zec;simp only[Ev.pif];by_cases h1:100<z84 e;rw[Qbx (by simp;omega),Qbx (.inl h1)];exact l0 true;rw[Qby (by simp;omega)];by_cases h2:12<zjn e;rw[Qbx (.inr h2),show decide ((zjn e:Int)>12)=true by simp;omega];exact l0 true;rw[Qby (by omega),show decide ((zjn e:Int)>12)=false by simp;omega];exact l0 false
theorem yd7{e:kz0}(h:zec e=0):zs0 e=true∧z84 e<=100∧zjn e<=12:=by
 unfold zec at h;split at h;cases h;split at h;exact⟨‹_›,by omega,by omega⟩;cases h
theorem yet:∀e:kz0,e.size<=8388608->∀d:Int,∃b,Ev (λn=>z6n n e d) b:=zyo λe ih hs d=>by
 have hsl:=zav e;have hlen:=zdh e.args
 have loop:∀k,k<=e.args.length->∀d:Int,∃b,Ev (λn=>z2b n (k:Int) d e) b :=
  down (λd=>⟨false,by rw[zkb,Ev.zz3 (by simp),Ev.zz1]⟩) λk hk ihk d=>by
   have hx:=Qad hk;have hsx:=zph hx;obtain⟨b,hb⟩:=ih _ hx (by omega) (IntKind.i64.wrap (d-1));obtain⟨c,hc⟩:=ihk d;refine⟨if b then true else c,?_⟩;rw[zkb,Ev.kz2 (by simpa using hk),Ev.yz3 (yze hk),kz0.yz6,Ev.yz1 hb,kz0.yz6,wrk (by omega)];cases b;rw[Ev.zz3 (by rfl)];exact hc;rw[Ev.kz2 (by rfl),Ev.zz1];rfl
 have l0:∀d b,∃c,Ev (λn=>z04 n d b e) c:=λd b=>by
  cases b;obtain⟨c,hc⟩:=loop 0 (Qbv _) d;exact⟨c,by rw[zjk,Ev.zz3 (by rfl),kz0.yz6];exact hc⟩;exact⟨true,by rw[zjk,Ev.kz2 (by rfl),Ev.zz1]⟩
 obtain⟨g,hg⟩:=ybn (v:=e.value) (by omega);simp only[y4t,kz0.yz6,zz0.yz6,Ev.pif,Ev.yz1 hg];split;exact l0 _ _;split;exact l0 _ _;split;exact l0 _ _;exact l0 _ _
theorem zjv{e:kz0}(hs:e.size<=8388608):∃b,Ev (λn=>z33 n e) b:=by
 obtain⟨b,hb⟩:=yet e hs 16;cases b;exact⟨_,by rw[zp4,kz0.yz6,Ev.yz1 hb,Ev.zz3 (by rfl),Ev.yz1 (ycm e hs)];exact Ev.zz1.2 rfl⟩;exact⟨true,by rw[zp4,kz0.yz6,Ev.yz1 hb,Ev.kz2 (by rfl),Ev.zz1]⟩
theorem zxy(l:zz7):l.length<=zzq l:=by
 induction l with
 |nil=>simp
 |cons x l ih=>have:=zc2 x;simp[zzq];omega
mutual
def zil:kz0->List B8->List B8
 |⟨op,_,nm,l⟩,acc=>z9d l (if op=2∧nm∉acc then acc++[nm]else acc)
def z9d:zz7->List B8->List B8
 |[],acc=>acc
 |x::l,acc=>z9d l (zil x acc)
end
theorem zvw(e:kz0)(acc:List B8):zil e acc=z9d e.args (if e.op=2∧e.name∉acc then acc++[e.name]else acc):=by cases e;rw[zil]
mutual
def znz:kz0->List B8->List B8
 |⟨op,_,nm,l⟩,acc=>zid l (if op=2 then ins acc nm else acc)
def zid:zz7->List B8->List B8
 |[],acc=>acc
 |x::l,acc=>zid l (znz x acc)
end
theorem yep(e:kz0)(acc:List B8):znz e acc=zid e.args (if e.op=2 then ins acc e.name else acc):=by cases e;rw[znz]
theorem yc3:∀(e:kz0) (a b:List B8),a.Nodup->z89 b->(∀x,x∈a↔x∈b)->(zil e a).Nodup∧z89 (znz e b)∧(∀x,x∈zil e a↔x∈znz e b)∧(zil e a).length<=a.length+z84 e∧(znz e b).length<=b.length+z84 e:=zyo λe ih a b ha hb hab=>by
 have hL:∀(l:zz7),(∀x∈l,x∈e.args)->∀a b:List B8,a.Nodup->z89 b->(∀x,x∈a↔x∈b)->(z9d l a).Nodup∧z89 (zid l b)∧(∀x,x∈z9d l a↔x∈zid l b)∧(z9d l a).length<=a.length+zzq l∧(zid l b).length<=b.length+zzq l:=λl=>by
  induction l with
  |nil=>intro _ a b ha hb hab;simp only[z9d,zid,zzq];exact⟨ha,hb,hab,Qbw _,Qbw _⟩
  |cons x l ihl=>
   intro hm a b ha hb hab;obtain⟨h1,h2,h3,h4,h5⟩:=ih x (hm x Qak) a b ha hb hab;obtain⟨k1,k2,k3,k4,k5⟩:=ihl (λy hy=>hm y (Qai _ hy)) _ _ h1 h2 h3;simp only[z9d,zid,zzq];exact⟨k1,k2,k3,by omega,by omega⟩
 rw[zvw,yep,zc2];by_cases h2:e.op=2;rw[Qbx h2];by_cases hn:e.name∈a;rw[Qby (by simp[hn])]
 obtain⟨k1,k2,k3,k4,k5⟩:=hL e.args (λ_ h=>h) a (ins b e.name) ha (zmv hb) (λx=>by
  rw[zuy,<-hab]
  exact⟨.inl,λh=>h.elim id λh=>by rw[h];exact hn⟩)
 have:=zuo e.name b;exact⟨k1,k2,k3,by omega,by omega⟩;rw[Qbx ⟨h2,hn⟩]
 obtain⟨k1,k2,k3,k4,k5⟩:=hL e.args (λ_ h=>h) (a++[e.name]) (ins b e.name) (by
  rw[List.nodup_append];refine⟨ha,by simp,λx hx y hy =>?_⟩
  rw[Qbc.1 hy];intro h;subst h;exact hn hx) (zmv hb) (λx=>by
  rw[zuy,<-hab,Qbb,Qbc])
 have:=zuo e.name b;rw[Qap,List.length_singleton]at k4;exact⟨k1,k2,k3,by omega,by omega⟩;rw[Qby h2,Qby (λh=>h2 h.1)];obtain⟨k1,k2,k3,k4,k5⟩:=hL e.args (λ_ h=>h) a b ha hb hab;exact⟨k1,k2,k3,by omega,by omega⟩
theorem ycq(e:kz0):z14 (zil e [])=znz e []:=by
 obtain⟨h1,h2,h3,_⟩:=yc3 e [] [] (by simp) (by simp[z89]) (by simp);exact zfc (zmu h1) h2 λx=>by rw[(z98 _).mem_iff,h3]
theorem y3g:∀(e:kz0) (a:List B8),(zil e a).length<=a.length+z84 e:=zyo λe ih a=>by
 have hL:∀(l:zz7),(∀x∈l,x∈e.args)->∀a:List B8,(z9d l a).length<=a.length+zzq l:=λl=>by
  induction l with
  |nil=>intro _ a;simp[z9d,zzq]
  |cons x l ihl=>
   intro hm a;have h1:=ih x (hm x Qak) a;have h2:=ihl (λy hy=>hm y (Qai _ hy)) (zil x a);simp only[z9d,zzq];omega
 rw[zvw,zc2];have:=hL e.args (λ_ h=>h) (if e.op=2∧e.name∉a then a++[e.name]else a);have h2:(if e.op=2∧e.name∉a then a++[e.name]else a).length<=a.length+1:=by split <;> simp
 omega
theorem ykw:∀(e:kz0) (a:List B8),(znz e a).length<=a.length+z84 e:=zyo λe ih a=>by
 have hL:∀(l:zz7),(∀x∈l,x∈e.args)->∀a:List B8,(zid l a).length<=a.length+zzq l:=λl=>by
  induction l with
  |nil=>intro _ a;simp[zid,zzq]
  |cons x l ihl=>
   intro hm a;have h1:=ih x (hm x Qak) a;have h2:=ihl (λy hy=>hm y (Qai _ hy)) (znz x a);simp only[zid,zzq];omega
 rw[yep,zc2];have hi:=zuo e.name a;have:=hL e.args (λ_ h=>h) (if e.op=2 then ins a e.name else a);split at this;rename_i h;rw[Qbx h];omega;rename_i h;rw[Qby h];omega
theorem yjl{l:List B8}(hl:l.length<=8388608){s:B8}:∃i:Int,Ev (λn=>yzk n s l) (i,l)∧decide (i>=0)=decide (s∈l):=by
 have loop:∀k,k<=l.length->∃i:Int,Ev (λn=>kzc n (k:Int) s (l.length:Int) l) (i,l)∧decide (i>=0)=decide (s∈l.drop k) :=
  down ⟨-1,by rw[z1c,Ev.zz3 (by simp),Ev.zz1],by simp⟩ λk hk ih=>by
   obtain⟨i,h1,h2⟩:=ih;by_cases he:s=l[k];refine⟨k,?_,?_⟩;rw[z1c,Ev.kz2 (by simpa using hk),Ev.yz3 (yze hk),Ev.kz2 (by simpa using he),Ev.zz1];have:s∈l.drop k:=by rw[<-Qah (h:=hk),he];exact Qak
   simp[this];refine⟨i,?_,?_⟩;rw[z1c,Ev.kz2 (by simpa using hk),Ev.yz3 (yze hk),Ev.zz3 (by simpa using he),wrk (by omega)];exact h1;rw[h2]
   have:(s∈l.drop k)↔(s∈l.drop (k+1)):=by
    rw[<-Qah (h:=hk),Qbl];exact⟨λh=>h.elim (λh=>(he h).elim) id,.inr⟩
   exact decide_eq_decide.2 this.symm
 obtain⟨i,h1,h2⟩:=loop 0 (Qbv _);exact⟨i,by rw[zei];exact h1,by simpa using h2⟩
theorem ygs:∀(e:kz0) (acc:List B8),acc.length+z84 e<=8388608->Ev (λn=>z7y n e acc) (zil e acc):=zyo λe ih acc hb=>by
 rw[zc2]at hb
 have loop:∀k,k<=e.args.length->∀acc:List B8,acc.length+zzq (e.args.drop k)<=8388608->Ev (λn=>z3z n (k:Int) e.args (e.args.length:Int) acc) (z9d (e.args.drop k) acc) :=
  down (λacc hb=>by rw[zlz,Ev.zz3 (by simp),Ev.zz1];simp[z9d]) λk hk ihk acc hb=>by
   have hx:=Qad hk;have hlen:=zxy e.args;rw[<-Qah (h:=hk)]at hb ⊢;simp only[z9d,zzq]at hb ⊢;have:=y3g e.args[k] acc
   have hk2:k<=8388609:=by
    have:=zxy e.args;omega
   rw[zlz,Ev.kz2 (by simpa using hk),Ev.yz3 (yze hk),kz0.yz6,Ev.yz1 (ih _ hx _ (by omega)),wrk (by omega)];exact ihk _ (by omega)
 have l1:∀acc:List B8,acc.length+zzq e.args<=8388608->Ev (λn=>z48 n acc e) (z9d e.args acc):=λacc hb=>by
  rw[zvu];simpa using loop 0 (Qbv _) acc (by simpa using hb)
 rw[y6i,zvw];by_cases h2:e.op=2;obtain⟨i,h3,h4⟩:=yjl (l:=acc) (by omega) (s:=e.name)
 have hc:Ev (λn=>yzh n e.name acc) (decide (e.name∈acc),acc):=by
  rw[zcp,Ev.yz1 h3,Ev.zz1,h4]
 rw[Ev.kz2 (by simpa using h2),Ev.yz1 hc,kz0.yz6,zlw];by_cases hn:e.name∈acc;rw[Ev.zz3 (by simpa using hn),Qby (by simp[hn]),kz0.yz6];exact l1 acc (by omega);rw[Ev.kz2 (by simpa using hn),Qbx ⟨h2,hn⟩,Ev.yz3 (z8c (by simp;omega)),kz0.yz6];exact l1 _ (by simp;omega);rw[Ev.zz3 (by simpa using h2),Qby (λh=>h2 h.1),kz0.yz6,zlw,Ev.zz3 (by rfl),kz0.yz6];exact l1 _ (by omega)
noncomputable def zir(e:kz0):List B8×Int:=if zec e≠0 then ([],zec e)else (znz e [],0)
theorem yg5{e:kz0}(hw:e.wf)(hs:e.size<=8388608):Ev (λn=>z9w n e) (zir e):=by
 rw[y5q,kz0.yz6,Ev.yz1 (zno hw hs)];unfold zir;by_cases hc:zec e=0
 case neg=>rw[Ev.kz2 (by simpa using hc),Ev.zz1,Qbx hc]
 obtain⟨_,hp,_⟩:=yd7 hc;have hl:=y3g e []
 have hsort:Ev (λn=>kzd n (zil e [])) (znz e []):=by
  refine .same (λn =>?_) (.pure rfl);unfold kzd;rw[Qbx (by simp at hl;omega),y2m,ycq]
 rw[Ev.zz3 (by simpa using hc),Qby (by simpa using hc),Ev.yz1 (ygs e [] (by simp;omega)),Ev.yz1 hsort,Ev.zz1]
end Go.Proofs.YthphaiccgnkobaaGreatDoor
