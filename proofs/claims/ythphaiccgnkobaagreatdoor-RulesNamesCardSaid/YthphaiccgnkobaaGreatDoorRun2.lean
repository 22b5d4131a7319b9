/-
  Go functions as Lean functions, by a program of this repo.
-/
import Derived.Test.YthphaiccgnkobaaGreatDoorRun0
import Derived.Test.YthphaiccgnkobaaGreatDoorRun1
import Derived.Test.YthphaiccgnkobaaGreatDoorLib10
import Derived.Test.YthphaiccgnkobaaGreatDoorLib9
import Derived.KernelRfl
import Derived.Test.YthphaiccgnkobaaGreatDoorLib2
import Derived.Test.YthphaiccgnkobaaGreatDoorRows
import Derived.WalkKit
import Derived.ProofKit
import Derived.Handy
import Derived.Lay
import Derived.SevenTiedAt
import Derived.Deep.DeepHandedRow
import Derived.Lib.LaidTab
import Derived.Stop.LaidErr
namespace Go.Proofs.YthphaiccgnkobaaGreatDoor
open Go Go.Ab
open Go.Proofs.Tryz
set_option linter.unusedVariables false
set_option maxRecDepth 100000
set_option maxHeartbeats 4000000
noncomputable def z6w(a0:Int)(a1:Int):Option Int :=
 pIf (!false)
  (some a1)
  (some a0)
noncomputable def zor:LSh:=⟨[],[(.cells [dI])],1,10,[]⟩
noncomputable def zgi:zen dat:={f:=242,args:=[(.ptr 0 0)],aos:=[(.cells [dI])],m:=(some (.iface 31 dI)),ros:=[(.cells [dI])],go:=λx mx=>(z6w x.1 mx.1).bind λr=>some (r,())}
theorem zmd:(zgi).Ok prog:=y0s (c:=(anb [] f242)) (args:=[(.ptr 0 0)]) (aos:=[(.cells [dI])]) (ros:=[(.cells [dI])]) (m:=(some (.iface 31 dI))) (l:=zor) (pack:=λx=>x.1) (un:=λr=>(r,())) (go:=λx mx=>z6w x.1 mx.1) (by kernel_rfl) (kza _) func242 (by kernel_rfl) ntmps242 call242 (Nat.le_of_ble_eq_true (by kernel_rfl)) (Nat.le_of_ble_eq_true (by kernel_rfl)) (Nat.le_of_ble_eq_true (by kernel_rfl)) (by kernel_rfl) (by kernel_rfl) (by kernel_rfl) (by kernel_rfl) (λx=>by kernel_rfl) (λx mx=>by kernel_rfl)
noncomputable def zgp:Nat->B8->Ot (yz1×Int)
 |0,_=>none
 |n+1,a=>
  (z0o n 12 (yz0.mk a)).bind λy0=>
  zg2 y0 (λr1=>
   pIf (!(r1.1.s==[]))
    ((z3x n 12).bind λy2=>
    zg2 y2 (λr3=>
     (((zat 0).bind λr5=>some (r5,()))).bind λy4=>
     some (r1.2.re,y4.1))
     (λe6=>
     (((z6w 0 e6.1).bind λr8=>some (r8,()))).bind λy7=>
     some (r1.2.re,y7.1)))
    ((((zat 0).bind λr10=>some (r10,()))).bind λy9=>
    some (r1.2.re,y9.1)))
   (λe11=>
   (((z6w 0 e11.1).bind λr13=>some (r13,()))).bind λy12=>
   some ((yz1.mk 0 (kz0.mk 0 (kz2.mk 0 0) false [] []) [] []),y12.1))
noncomputable def zyz:LSh:=⟨[(2,(.ptr 0 0)),(3,(.ptr 1 0))],[(.st 5),(.cells [dI])],0,17,[]⟩
noncomputable def zfh:FI dat:=FI.ofD dat 200 17 0 [dS] [] [dT 5,dI] [(.st 5),(.cells [dI])] [zlk,zgi] zyz (R:=yz1×Int) (λx=>(x.1,x.2.1)) (λr=>(r.1,r.2,r.1,r.2,())) (λn=>u1 (zgp n))
 (λn=>[]) (anb [] f200)
noncomputable def zys:List (FI dat):=[z19,z1p]
theorem y2a:(zfh).Good prog dat (tb zys):=FI.y8f (hD:=kza _) func200 ntmps200 call200 (by kernel_rfl) (Qac (by kernel_rfl)) (by kernel_rfl) (λn=>by kernel_rfl) ⟨zqr,zmd,trivial⟩ (λx=>by kernel_rfl) (λ_=>rfl) trivial
 (λ_ _=>tr (zgp.eq_2 ..))
 (λn=>trivial)
 (λx=>by kernel_rfl)
theorem y1d:OkL prog [zfh]:=zg4 (kza _) (bs:=[z19,z1p]) ⟨zkt,zdw,trivial⟩ y2a
theorem zxn:FOk prog zfh:=y1d.1
mutual
noncomputable def zg3:Nat->B8->Ot (Int×yz1)
 |0,_=>none
 |n+1,a=>
  pIf (decide ((a.length:Int)>4000))
   (some (12,(yz1.mk 0 (kz0.mk 0 (kz2.mk 0 0) false [] []) [] [])))
   ((zgp n a).bind λy0=>
   pIf (y0.2 != 0)
    (z7w n true (yz1.mk 0 (kz0.mk 0 (kz2.mk 0 0) false [] []) [] []) y0.1.re)
    ((z1f n y0.1.re).bind λy1=>
    z7w n (y1 != 0) (yz1.mk 0 (kz0.mk 0 (kz2.mk 0 0) false [] []) [] []) y0.1.re))
noncomputable def z7w:Nat->Bool->yz1->yz1->Ot (Int×yz1)
 |0,_,_,_=>none
 |n+1,a,b,c=>
  pIf a
   (some (12,(yz1.mk 0 (kz0.mk 0 (kz2.mk 0 0) false [] []) [] [])))
   (some (0,c.re))
end
noncomputable def zy2:LSh:=⟨[(2,(.ptr 0 0)),(3,dI)],[(.st 5)],0,24,[]⟩
noncomputable def zh5:FI dat:=FI.of dat 156 24 0 [dS] [] [dT 5,dI] [] true zy2 (R:=Int×yz1) (λx=>(x.1,x.2.1)) (λr=>(r.2,r.1,())) (λn=>u1 (zg3 n))
 (λn=>[(0,⟨⟨[(2,(.ptr 0 0)),(4,(.ptr 1 0)),(21,dB)],[(.st 5),(.st 5)],0,24,[]⟩,u3 (z7w n)⟩)]) (anb [(15,0)] f156)
theorem zuy:FOk prog zh5:=okF (bs:=[zfh,z8k]) ⟨zxn,z9l,trivial⟩ func156 ntmps156 call156
 (λ_ _=>tr (zg3.eq_2 ..))
 (λn=>⟨λx=>tr (z7w.eq_2 x.1 x.2.1 x.2.2.1 n),
  trivial⟩)
mutual
noncomputable def zzq:Nat->B8->Bool->Ot (Bool×yz1)
 |0,_,_=>none
 |n+1,a,b=>
  (zg3 n a).bind λy0=>
  pIf b
   (z1x n (y0.1==0) (yz1.mk 0 (kz0.mk 0 (kz2.mk 0 0) false [] []) [] []) y0.2.re)
   (z1x n false (yz1.mk 0 (kz0.mk 0 (kz2.mk 0 0) false [] []) [] []) y0.2.re)
noncomputable def z1x:Nat->Bool->yz1->yz1->Ot (Bool×yz1)
 |0,_,_,_=>none
 |n+1,a,b,c=>
  some (a,c.re)
end
noncomputable def zl7:LSh:=⟨[(4,(.ptr 3 0))],[(.cells [(.own 1),(.own 2),dB]),.rig,.rig,(.st 5)],1,24,[1,2]⟩
noncomputable def z3n:FI dat:=FI.of dat 101 24 1 [(.ptr 0 0),dS] [(.cells [(.own 1),(.own 2),dB]),.rig,.rig] [dT 5] [(.cells [(.own 1),(.own 2),dB]),.rig,.rig,(.st 5)] false zl7 (R:=Bool×yz1) (λx=>(x.1,x.2.1)) (λr=>(r.2,r.1,r.2,())) (λn=>u2 (zzq n))
 (λn=>[(0,⟨⟨[(4,(.ptr 3 0)),(5,(.ptr 4 0))],[(.cells [(.own 1),(.own 2),dB]),.rig,.rig,(.st 5),(.st 5)],1,24,[1,2]⟩,u3 (z1x n)⟩)]) (anb [(6,0)] f101) [1,2]
noncomputable def zky:List (FI dat):=[zh5]
theorem zlb:(z3n).Good prog dat (tb zky):=FI.z42 (hD:=kza _) func101 ntmps101 call101 (by kernel_rfl) (Qac (by kernel_rfl)) (by kernel_rfl) (λn=>by kernel_rfl) (λx=>by kernel_rfl) (λ_=>rfl) ⟨λ_=>rfl,trivial⟩
 (λ_ _=>tr (zzq.eq_2 ..))
 (λn=>⟨λx=>tr (z1x.eq_2 x.1 x.2.1 x.2.2.1 n),
  trivial⟩)
 (λx=>.inr (by kernel_rfl))
theorem zl6:OkL prog [z3n]:=zg4 (kza _) (bs:=[zh5]) ⟨zuy,trivial⟩ zlb
theorem zhu:FOk prog z3n:=zl6.1
noncomputable def z2g:FI dat:=ya0 dat 101 [(.ptr 0 0),dS] [dT 5] [(.st 5)] (R:=Bool×yz1) (λr=>(r.2,r.1,r.2,())) (λn=>u2 (zzq n)) z3n
theorem z7n:FOk prog z2g:=λn=>zw9 (kza _) rfl (zhu n)
mutual
noncomputable def z04:Nat->B8->Bool->Ot (B8×zzo×Bool)
 |0,_,_=>none
 |n+1,a,b=>
  (z1o n a [32]).bind λy0=>
  (zzq n y0.2.1 b).bind λy1=>
  pIf y1.1
   (z26 n y0.1 (y1.2.op==18) y1.2.re)
   (z26 n y0.1 false y1.2.re)
noncomputable def z26:Nat->B8->Bool->yz1->Ot (B8×zzo×Bool)
 |0,_,_,_=>none
 |n+1,a,b,c=>
  some (a,c.args,b)
end
noncomputable def zl4:LSh:=⟨[(4,dS),(5,dL 5)],[(.cells [(.own 1),(.own 2),dB]),.rig,.rig],1,34,[1,2]⟩
noncomputable def z44:FI dat:=FI.of dat 160 34 1 [(.ptr 0 0),dS] [(.cells [(.own 1),(.own 2),dB]),.rig,.rig] [dS,dL 5] [(.cells [(.own 1),(.own 2),dB]),.rig,.rig] false zl4 (R:=B8×zzo×Bool) (λx=>(x.1,x.2.1,x.2.2.1)) (λr=>(r.1,r.2.1,r.2.2,())) (λn=>u2 (z04 n))
 (λn=>[(0,⟨⟨[(9,(.ptr 3 0)),(6,dS)],[(.cells [(.own 1),(.own 2),dB]),.rig,.rig,(.st 5)],1,34,[1,2]⟩,u3 (z26 n)⟩)]) (anb [(8,0)] f160) [1,2]
noncomputable def zl1:List (FI dat):=[z2g,z5z]
theorem zku:(z44).Good prog dat (tb zl1):=FI.z42 (hD:=kza _) func160 ntmps160 call160 (by kernel_rfl) (Qac (by kernel_rfl)) (by kernel_rfl) (λn=>by kernel_rfl) (λx=>by kernel_rfl) (λ_=>rfl) ⟨λ_=>rfl,trivial⟩
 (λ_ _=>tr (z04.eq_2 ..))
 (λn=>⟨λ_=>tr (z26.eq_2 _ _ _ n),
  trivial⟩)
 (λx=>.inr (by kernel_rfl))
theorem zko:OkL prog [z44]:=zg4 (kza _) (bs:=[z2g,z5z]) ⟨z7n,zb0,trivial⟩ zku
theorem zhw:FOk prog z44:=zko.1
noncomputable def zdh:FI dat:=ya0 dat 160 [(.ptr 0 0),dS] [dS,dL 5] [] (R:=B8×zzo×Bool) (λr=>(r.1,r.2.1,r.2.2,())) (λn=>u2 (z04 n)) z44
theorem zjb:FOk prog zdh:=λn=>zw9 (kza _) rfl (zhw n)
noncomputable def zbo:Nat->B8->B8->Ot Int
 |0,_,_=>none
 |n+1,a,b=>
  (yzw n a b).bind λy0=>
  some y0
noncomputable def zqm:LSh:=⟨[(4,dI)],[],0,8,[]⟩
noncomputable def zd7:FI dat:=FI.of dat 203 8 0 [dS,dS] [] [dI] [] true zqm (R:=Int) Prod.fst (·,()) (λn=>u2 (zbo n))
 (λn=>[]) (anb [] f203)
theorem zok:FOk prog zd7:=okF (bs:=[z2c]) ⟨z50,trivial⟩ func203 ntmps203 call203
 (λ_ _=>tr (zbo.eq_2 ..))
 (λn=>trivial)
mutual
noncomputable def z1n:Nat->B8->Bool->Ot (Int×Bool)
 |0,_,_=>none
 |n+1,a,b=>
  (zbo n [120,121,122] a).bind λy0=>
  pIf b
   (pIf ((a.length:Int)==1)
     (z03 n y0 (decide (y0>=0)))
     (z03 n y0 false))
   (z03 n y0 false)
noncomputable def z03:Nat->Int->Bool->Ot (Int×Bool)
 |0,_,_=>none
 |n+1,a,b=>
  some ((IntKind.u8.wrap (mxI a 0)),b)
end
noncomputable def zlf:LSh:=⟨[(4,dU)],[(.cells [(.own 1),(.own 2),dB]),.rig,.rig],1,27,[1,2]⟩
noncomputable def z3p:FI dat:=FI.of dat 161 27 1 [(.ptr 0 0),dS] [(.cells [(.own 1),(.own 2),dB]),.rig,.rig] [dU] [(.cells [(.own 1),(.own 2),dB]),.rig,.rig] false zlf (R:=Int×Bool) (λx=>(x.1,x.2.1)) (λr=>(r.1,r.2,())) (λn=>u2 (z1n n))
 (λn=>[(0,⟨⟨[(5,dI)],[(.cells [(.own 1),(.own 2),dB]),.rig,.rig],1,27,[1,2]⟩,u2 (z03 n)⟩)]) (anb [(6,0)] f161) [1,2]
noncomputable def zl5:List (FI dat):=[zd7]
theorem zl8:(z3p).Good prog dat (tb zl5):=FI.z42 (hD:=kza _) func161 ntmps161 call161 (by kernel_rfl) (Qac (by kernel_rfl)) (by kernel_rfl) (λn=>by kernel_rfl) (λx=>by kernel_rfl) (λ_=>rfl) ⟨λ_=>rfl,trivial⟩
 (λ_ _=>tr (z1n.eq_2 ..))
 (λn=>⟨λ_=>tr (z03.eq_2 _ _ n),
  trivial⟩)
 (λx=>.inr (by kernel_rfl))
theorem zlh:OkL prog [z3p]:=zg4 (kza _) (bs:=[zd7]) ⟨zok,trivial⟩ zl8
theorem zi8:FOk prog z3p:=zlh.1
noncomputable def zde:FI dat:=ya0 dat 161 [(.ptr 0 0),dS] [dU] [] (R:=Int×Bool) (λr=>(r.1,r.2,())) (λn=>u2 (z1n n)) z3p
theorem zjh:FOk prog zde:=λn=>zw9 (kza _) rfl (zi8 n)
mutual
noncomputable def z57:Nat->Int->B8->B8->Bool->z1h->z07->yz7->Int->Ot (Bool×z1h×z07×yz7×Int)
 |0,_,_,_,_,_,_,_,_=>none
 |n+1,a,b,c,d,e,f,g,h=>
  (kzh n [102,105,120,101,100,32,115,104,97,114,101,32,114,101,115,116]).bind λy0=>
  (kz7 n y0 b).bind λy1=>
  pIf (decide (y1>=0))
   ((z04 n c d).bind λy2=>
   (ix e a).bind λx3=>
   (ix e a).bind λx4=>
   pIf (decide ((x3.do_.length:Int)>0))
    ((zdf a a).bind λx5=>
    (ix e a).bind λx6=>
    (ix x3.do_ (IntKind.i64.wrap ((x3.do_.length:Int)-1))).bind λx7=>
    (ix x3.do_ (IntKind.i64.wrap ((x3.do_.length:Int)-1))).bind λx8=>
    (ix e a).bind λx9=>
    z0s n y2.2.1 y2.1 y1 (x3.do_.length:Int) a (x8.kind==5) y2.2.2 (e.set (Int.toNat a) (kzq.mk x9.weight x9.when_.re x3.do_)) f g h)
    ((ix e a).bind λx10=>
    z0s n y2.2.1 y2.1 y1 (x3.do_.length:Int) a false y2.2.2 (e.set (Int.toNat a) (kzq.mk x10.weight x10.when_.re x3.do_)) f g h))
   ((kzh n [99,97,108,108,32,109,111,118,101,32,115,105,122,101,32,116,117,114,110,32,115,112,108,105,116,32,108,101,97,102]).bind λy11=>
   (kz7 n y11 b).bind λy12=>
   pIf ((IntKind.u8.wrap (IntKind.i64.wrap (y12+1)))==0)
    (kzd n a false e f g h (IntKind.u8.wrap (IntKind.i64.wrap (y12+1))) 0 [] [] [])
    (pIf ((IntKind.u8.wrap (IntKind.i64.wrap (y12+1)))==6)
      ((zzq n c d).bind λy13=>
      kzd n a y13.1 e f g h (IntKind.u8.wrap (IntKind.i64.wrap (y12+1))) 0 [] [y13.2.re] [])
      (pIf ((IntKind.u8.wrap (IntKind.i64.wrap (y12+1)))==5)
        ((z1n n c d).bind λy14=>
        kzd n a y14.2 e f g h (IntKind.u8.wrap (IntKind.i64.wrap (y12+1))) y14.1 [] [] [])
        (pIf ((IntKind.u8.wrap (IntKind.i64.wrap (y12+1)))==4)
          ((z1o n c [32]).bind λy15=>
          (z1n n y15.1 d).bind λy16=>
          (z04 n y15.2.1 y16.2).bind λy17=>
          kzd n a y17.2.2 e f g h (IntKind.u8.wrap (IntKind.i64.wrap (y12+1))) y16.1 y17.1 y17.2.1 [])
          ((z04 n c d).bind λy18=>
          kzd n a y18.2.2 e f g h (IntKind.u8.wrap (IntKind.i64.wrap (y12+1))) 0 y18.1 y18.2.1 [])))))
noncomputable def z0s:Nat->zzo->B8->Int->Int->Int->Bool->Bool->z1h->z07->yz7->Int->Ot (Bool×z1h×z07×yz7×Int)
 |0,_,_,_,_,_,_,_,_,_,_,_=>none
 |n+1,a,b,c,d,e,f,g,h,i,j,k=>
  pIf f
   ((ix h e).bind λx19=>
   (ix x19.do_ (IntKind.i64.wrap (d-1))).bind λx20=>
   (zdf e e).bind λx21=>
   (ix h e).bind λx22=>
   (zdf e e).bind λx23=>
   (ix h e).bind λx24=>
   (ix x19.do_ (IntKind.i64.wrap (d-1))).bind λx25=>
   (zdf (IntKind.i64.wrap (d-1)) (IntKind.i64.wrap (d-1))).bind λx26=>
   (ix x19.do_ (IntKind.i64.wrap (d-1))).bind λx27=>
   (ext x20.items [(z0p.mk (IntKind.u8.wrap (IntKind.i64.wrap (c+1))) b a)]).bind λx28=>
   (ix x19.do_ (IntKind.i64.wrap (d-1))).bind λx29=>
   (zdf (IntKind.i64.wrap (d-1)) (IntKind.i64.wrap (d-1))).bind λx30=>
   (ix x19.do_ (IntKind.i64.wrap (d-1))).bind λx31=>
   (ix x19.do_ (IntKind.i64.wrap (d-1))).bind λx32=>
   (ix h e).bind λx33=>
   some (g,(h.set (Int.toNat e) (kzq.mk x33.weight x33.when_.re (x19.do_.set (Int.toNat (IntKind.i64.wrap (d-1))) (zz4.mk x32.kind x32.axis x32.name x32.args x28)))),i,j,k))
   (some (false,h,i,j,k))
noncomputable def kzd:Nat->Int->Bool->z1h->z07->yz7->Int->Int->Int->B8->zzo->zk6->Ot (Bool×z1h×z07×yz7×Int)
 |0,_,_,_,_,_,_,_,_,_,_,_=>none
 |n+1,a,b,c,d,e,f,g,h,i,j,k=>
  (ix c a).bind λx34=>
  (zdf a a).bind λx35=>
  (ix c a).bind λx36=>
  (ext x34.do_ [(zz4.mk g h i j [])]).bind λx37=>
  (zdf a a).bind λx38=>
  (ix c a).bind λx39=>
  (ix x37 (x34.do_.length:Int)).bind λx40=>
  (ix c a).bind λx41=>
  some (b,(c.set (Int.toNat a) (kzq.mk x41.weight x41.when_.re (x37.set (Int.toNat (x34.do_.length:Int)) (zz4.mk x40.kind x40.axis x40.name x40.args k)))),d,e,f)
end
noncomputable def zi7:LSh:=⟨[],[(.cells [(.own 2),(.own 3),dB]),(.deep 57 9),(.acc 49 (.st 6) true),(.deeph 47 10 2 1)],1,138,[1,2]⟩
noncomputable def zbm:FI dat:=FI.of dat 104 138 1 [(.ptr 0 0),(.dp 1 0),dS,dS] [(.cells [(.own 2),(.own 3),dB]),(.deep 57 9),(.acc 49 (.st 6) true),(.deeph 47 10 2 1)] [] [(.cells [(.own 2),(.own 3),dB]),(.deep 57 9),(.acc 49 (.st 6) true),(.deeph 47 10 2 1)] false zi7 (R:=Bool×z1h×z07×yz7×Int) (λx=>(x.1,x.2.1,x.2.2.1,x.2.2.2.1,x.2.2.2.2.1)) (λr=>(r.1,r.2.1,r.2.2.1,r.2.2.2.1,r.2.2.2.2,())) (λn=>u8 (z57 n))
 (λn=>[(0,⟨⟨[(10,dL 5),(9,dS),(8,dI),(11,dI),(1,(.dp 1 0)),(0,(.ptr 0 0)),(45,dB)],[(.cells [(.own 2),(.own 3),dB]),(.deep 57 9),(.acc 49 (.st 6) true),(.deeph 47 10 2 1)],1,138,[1,2]⟩,u11 (z0s n)⟩),(1,⟨⟨[(12,(.ptr 4 0)),(1,(.dp 1 0))],[(.cells [(.own 2),(.own 3),dB]),(.deep 57 9),(.acc 49 (.st 6) true),(.deeph 47 10 2 1),(.cells [dU,dU,dS,dL 5,(.own 5)]),(.acc 43 (.st 7) true)],1,138,[1,2]⟩,u11 (kzd n)⟩)]) (anb [(13,0),(49,1)] f104) [1,2]
theorem zhk:FOk prog zbm:=okF (bs:=[zdh,z2g,zde,z02,yze,z5z]) ⟨zjb,z7n,zjh,z3z,zzw,zb0,trivial⟩ func104 ntmps104 call104
 (λ_ _=>tr (z57.eq_2 ..))
 (λn=>⟨λ_=>tr (z0s.eq_2 _ _ _ _ _ _ _ _ _ _ _ n),
  λ_=>tr (kzd.eq_2 _ _ _ _ _ _ _ _ _ _ _ n),
  trivial⟩)
mutual
noncomputable def z7e:Nat->B8->Bool->z07->yz7->Ot (Bool×z07×yz7)
 |0,_,_,_,_=>none
 |n+1,a,b,c,d=>
  (z1o n a [32]).bind λy0=>
  pIf (y0.1==[97,116,116,114])
   (z27 n y0.2.1 (d.length:Int) y0.1 ((d.length:Int)==0) b c d)
   (z27 n y0.2.1 (d.length:Int) y0.1 false b c d)
noncomputable def z27:Nat->B8->Int->B8->Bool->Bool->z07->yz7->Ot (Bool×z07×yz7)
 |0,_,_,_,_,_,_,_=>none
 |n+1,a,b,c,d,e,f,g=>
  pIf d
   ((z1o n a [32]).bind λy1=>
   (zzq n y1.2.1 e).bind λy2=>
   (ext f [(zz8.mk y1.1 y2.2.re)]).bind λx3=>
   some (y2.1,x3,g))
   (pIf (c==[114,117,108,101])
     ((z8b n a [32]).bind λy4=>
     (ix y4 0).bind λx5=>
     (sub y4 1 (y4.length:Int)).bind λx6=>
     (ext g [(yzh.mk x5 x6 [])]).bind λx7=>
     some (e,f,x7))
     (pIf (b==0)
       (some (false,f,g))
       (pIf (c==[99,97,115,101])
         ((z1o n a [32]).bind λy8=>
         (z9x n y8.1).bind λy9=>
         zg2 y9 (λr10=>
          pIf e
           (kzp n y8.2.1 r10 b true f g)
           (kzp n y8.2.1 r10 b false f g))
          (λe11=>
          pIf e
           (kzp n y8.2.1 e11.1 b false f g)
           (kzp n y8.2.1 e11.1 b false f g)))
         ((ix g (IntKind.i64.wrap (b-1))).bind λx12=>
         (ix g (IntKind.i64.wrap (b-1))).bind λx13=>
         (ix g (IntKind.i64.wrap (b-1))).bind λx14=>
         pIf (decide ((x13.cases.length:Int)>0))
          ((ix g (IntKind.i64.wrap (b-1))).bind λx15=>
          (zdf (IntKind.i64.wrap (b-1)) (IntKind.i64.wrap (b-1))).bind λx16=>
          (ix g (IntKind.i64.wrap (b-1))).bind λx17=>
          (ix x13.cases (IntKind.i64.wrap ((x13.cases.length:Int)-1))).bind λx18=>
          (z57 n (IntKind.i64.wrap ((x13.cases.length:Int)-1)) c a e x13.cases f g (IntKind.i64.wrap (b-1))).bind λy19=>
          (ix y19.2.2.2.1 y19.2.2.2.2).bind λx20=>
          some (y19.1,y19.2.2.1,(y19.2.2.2.1.set (Int.toNat y19.2.2.2.2) (yzh.mk x20.name x20.params y19.2.1))))
          ((ix g (IntKind.i64.wrap (b-1))).bind λx21=>
          some (false,f,(g.set (Int.toNat (IntKind.i64.wrap (b-1))) (yzh.mk x21.name x21.params x13.cases))))))))
noncomputable def kzp:Nat->B8->Int->Int->Bool->z07->yz7->Ot (Bool×z07×yz7)
 |0,_,_,_,_,_,_=>none
 |n+1,a,b,c,d,e,f=>
  (ix f (IntKind.i64.wrap (c-1))).bind λx22=>
  (ix f (IntKind.i64.wrap (c-1))).bind λx23=>
  (zdf (IntKind.i64.wrap (c-1)) (IntKind.i64.wrap (c-1))).bind λx24=>
  (ix f (IntKind.i64.wrap (c-1))).bind λx25=>
  (zzq n a d).bind λy26=>
  (ext x22.cases [(kzq.mk b y26.2.re [])]).bind λx27=>
  (ix f (IntKind.i64.wrap (c-1))).bind λx28=>
  (zdf (IntKind.i64.wrap (c-1)) (IntKind.i64.wrap (c-1))).bind λx29=>
  (ix f (IntKind.i64.wrap (c-1))).bind λx30=>
  (ix f (IntKind.i64.wrap (c-1))).bind λx31=>
  some (y26.1,e,(f.set (Int.toNat (IntKind.i64.wrap (c-1))) (yzh.mk x31.name x31.params x27)))
end
noncomputable def zlc:LSh:=⟨[],[(.cells [(.own 1),(.own 2),dB]),(.acc 49 (.st 6) true),(.deep 47 10)],1,171,[]⟩
noncomputable def z9c:FI dat:=FI.of dat 43 171 1 [(.ptr 0 0),dS] [(.cells [(.own 1),(.own 2),dB]),(.acc 49 (.st 6) true),(.deep 47 10)] [] [(.cells [(.own 1),(.own 2),dB]),(.acc 49 (.st 6) true),(.deep 47 10)] false zlc (R:=Bool×z07×yz7) (λx=>(x.1,x.2.1,x.2.2.1)) (λr=>(r.1,r.2.1,r.2.2,())) (λn=>u4 (z7e n))
 (λn=>[(0,⟨⟨[(0,(.ptr 0 0)),(5,dS),(7,dI),(4,dS),(63,dB)],[(.cells [(.own 1),(.own 2),dB]),(.acc 49 (.st 6) true),(.deep 47 10)],1,171,[]⟩,u7 (z27 n)⟩),(1,⟨⟨[(13,dS),(0,(.ptr 0 0)),(15,dI),(7,dI)],[(.cells [(.own 1),(.own 2),dB]),(.acc 49 (.st 6) true),(.deep 47 10)],1,171,[]⟩,u6 (kzp n)⟩)]) (anb [(7,0),(30,1)] f43)
theorem zia:FOk prog z9c:=okF (bs:=[z2g,zim,zbm,z5z,zho]) ⟨z7n,zr1,zhk,zb0,zov,trivial⟩ func43 ntmps43 call43
 (λ_ _=>tr (z7e.eq_2 ..))
 (λn=>⟨λ_=>tr (z27.eq_2 ..),
  λ_=>tr (kzp.eq_2 ..),
  trivial⟩)
mutual
noncomputable def z4p:Nat->B8->Ot (kz1×Int)
 |0,_=>none
 |n+1,a=>
  pIf (decide ((a.length:Int)>20000))
   (some ((kz1.mk [] []),12))
   (pIf (!(a==[]))
     ((z7a n a [10]).bind λy0=>
     pIf (!y0)
      (some ((kz1.mk [] []),12))
      ((z82 n a).bind λy1=>
      z3k n a y1 0 [] [] true [] []))
     ((z82 n a).bind λy2=>
     z3k n a y2 0 [] [] true [] []))
noncomputable def z3k:Nat->B8->B8->Int->z07->yz7->Bool->z07->yz7->Ot (kz1×Int)
 |0,_,_,_,_,_,_,_,_=>none
 |n+1,a,b,c,d,e,f,g,h=>
  (if b.length<=4611686018427387904 then (Option.some ())else Option.none).bind λx3=>
  pIf (noS b)
   ((zcb n (kz1.mk g h)).bind λy4=>
   pIf (y4.2 != 0)
    (some ((kz1.mk [] []),12))
    (pIf (!(y4.1==a))
      (some ((kz1.mk [] []),12))
      (some ((kz1.mk g h),0))))
   ((z64 n (lnA b) [10]).bind λy5=>
   (z7e n y5 f g h).bind λy6=>
   pIf (!y6.1)
    (some ((kz1.mk [] []),12))
    ((y8l (lnB b) (lnB b)).bind λx7=>
    z3k n a (lnB b) c d e y6.1 y6.2.1 y6.2.2))
end
noncomputable def zum:LSh:=⟨[(2,(.ptr 0 0)),(3,(.ptr 1 0))],[(.st 11),(.cells [dI])],0,56,[]⟩
noncomputable def z60:FI dat:=FI.ofM dat 14 56 0 [dS] [] [dT 11,dI] [] zum (R:=kz1×Int) (λx=>(x.1,x.2.1)) (λr=>(r.1,r.2,())) (λn=>u1 (z4p n))
 (λn=>[(0,⟨⟨[(24,(.fn 98 [] [(.ptr 0 0)])),(2,(.ptr 1 0)),(3,(.ptr 2 0)),(4,(.ptr 3 0)),(0,dS)],[(.cells [dS]),(.cells [(.own 4),(.own 5)]),(.cells [dI]),(.cells [(.ptr 6 0)]),(.acc 49 (.st 6) true),(.deep 47 10),(.cells [(.own 7),(.own 8),dB]),(.acc 49 (.st 6) true),(.deep 47 10)],0,56,[]⟩,u8 (z3k n)⟩)]) (anb [(16,0),(1000016,98)] f14)
noncomputable def zun:List (FI dat):=[z5s,z9c,z9d,zdt,z7i]
theorem zut:(z60).Good prog dat (tb zun):=FI.y9d (hD:=kza _) func14 ntmps14 call14 (by kernel_rfl) (Qac (by kernel_rfl)) (by kernel_rfl) (λn=>by kernel_rfl) (λx=>by kernel_rfl) (λ_=>rfl) ⟨λ_=>rfl,trivial⟩
 (λn=>λ_=>tr (z4p.eq_2 _ n))
 (λn=>⟨λ_=>tr (z3k.eq_2 _ _ _ _ _ _ _ _ n),
  trivial⟩)
 (ybe (by kernel_rfl) y7a)
theorem zu4:OkL prog [z60]:=zg4 (kza _) (bs:=[z5s,z9c,z9d,zdt,z7i]) ⟨zp5,zia,zjn,zls,zi9,trivial⟩ zut
theorem zeg:FOk prog z60:=zu4.1
noncomputable def kz3:Nat->B8->Ot Bool
 |0,_=>none
 |n+1,a=>
  (z4p n a).bind λy0=>
  pIf (y0.2==12)
   (some ((IntKind.i64.wrap ((y0.1.attrs.length:Int)+(y0.1.rules.length:Int)))==0))
   (some false)
noncomputable def zgy:LSh:=⟨[(2,dB)],[],0,22,[]⟩
noncomputable def zaz:FI dat:=FI.of dat 13 22 0 [dS] [] [dB] [] true zgy (R:=Bool) Prod.fst (·,()) (λn=>u1 (kz3 n))
 (λn=>[]) (anb [] f13)
theorem zgd:FOk prog zaz:=okF (bs:=[z60]) ⟨zeg,trivial⟩ func13 ntmps13 call13
 (λn=>λ_=>tr (kz3.eq_2 _ n))
 (λn=>trivial)
noncomputable def zfu:Nat->yzh->B8->Ot (Bool×B8)
 |0,_,_=>none
 |n+1,a,b=>
  some ((a.name==b),b)
noncomputable def zvx:LSh:=⟨[(3,dB)],[(.cells [dS])],1,8,[]⟩
noncomputable def znp:FI dat:=FI.of dat 107 8 1 [dT 10,(.ptr 0 0)] [(.cells [dS])] [dB] [(.cells [dS])] false zvx (R:=Bool×B8) (λx=>(x.1,x.2.1)) (λr=>(r.1,r.2,())) (λn=>u2 (zfu n))
 (λn=>[]) (anb [] f107)
theorem zui:FOk prog znp:=okF (bs:=[]) trivial func107 ntmps107 call107
 (λn=>λ_=>tr (zfu.eq_2 _ _ n))
 (λn=>trivial)
mutual
noncomputable def zzs:Nat->yz7->B8->Ot (Int×B8)
 |0,_,_=>none
 |n+1,a,b=>
  kzb n 0 a (a.length:Int) b
noncomputable def kzb:Nat->Int->yz7->Int->B8->Ot (Int×B8)
 |0,_,_,_,_=>none
 |n+1,a,b,c,d=>
  pIf (decide (a<c))
   ((ix b a).bind λx0=>
   (zfu n x0 d).bind λy1=>
   pIf y1.1
    (some (a,y1.2))
    (kzb n (IntKind.i64.wrap (a+1)) b c y1.2))
   (some ((-1),d))
end
noncomputable def z96:LSh:=⟨[(4,dI)],[(.cells [dS])],1,19,[]⟩
noncomputable def z2i:FI dat:=FI.of dat 106 19 1 [dL 10,(.fn 107 [] [(.ptr 0 0)])] [(.cells [dS])] [dI] [(.cells [dS])] false z96 (R:=Int×B8) (λx=>(x.1,x.2.1)) (λr=>(r.1,r.2,())) (λn=>u2 (zzs n))
 (λn=>[(0,⟨⟨[(8,dI),(0,dL 10),(1,(.fn 107 [] [(.ptr 0 0)])),(7,dI)],[(.cells [dS])],1,19,[]⟩,u4 (kzb n)⟩)]) (anb [(6,0)] f106)
theorem z8z:FOk prog z2i:=okF (bs:=[znp]) ⟨zui,trivial⟩ func106 ntmps106 call106
 (λ_ _=>tr (zzs.eq_2 ..))
 (λn=>⟨λ_=>tr (kzb.eq_2 ..),
  trivial⟩)
noncomputable def zcm:Nat->kz1->B8->Ot Int
 |0,_,_=>none
 |n+1,a,b=>
  (zzs n a.rules b).bind λy0=>
  some y0.1
noncomputable def y4n:LSh:=⟨[(4,dI)],[],0,9,[]⟩
noncomputable def zml:FI dat:=FI.of dat 45 9 0 [dT 11,dS] [] [dI] [] true y4n (R:=Int) Prod.fst (·,()) (λn=>u2 (zcm n))
 (λn=>[]) (anb [] f45)
theorem zpz:FOk prog zml:=okF (bs:=[z2i]) ⟨z8z,trivial⟩ func45 ntmps45 call45
 (λ_ _=>tr (zcm.eq_2 ..))
 (λn=>trivial)
mutual
noncomputable def z77:Nat->kz1->B8->Ot ((List B8)×Int)
 |0,_,_=>none
 |n+1,a,b=>
  (zz3 n a).bind λy0=>
  pIf (y0 != 0)
   (some ([],y0))
   ((zcm n a b).bind λy1=>
   pIf (decide (y1<0))
    (some ([],6))
    (z6k n 0 [b] (mks (zal [] b true)) (mvs (zal [] b true)) a))
noncomputable def z6k:Nat->Int->(List B8)->(List B8)->(List Bool)->kz1->Ot ((List B8)×Int)
 |0,_,_,_,_,_=>none
 |n+1,a,b,c,d,e=>
  pIf (decide (a<(b.length:Int)))
   ((ix b a).bind λx2=>
   (zcm n e x2).bind λy3=>
   (ix e.rules y3).bind λx4=>
   (z7f n x4).bind λy5=>
   z6i n 0 y5 a (y5.length:Int) b (mks (List.zip c d)) (mvs (List.zip c d)) e)
   ((zze n b).bind λy6=>
   some (y6,0))
noncomputable def z6i:Nat->Int->z2j->Int->Int->(List B8)->(List B8)->(List Bool)->kz1->Ot ((List B8)×Int)
 |0,_,_,_,_,_,_,_,_=>none
 |n+1,a,b,c,d,e,f,g,h=>
  pIf (decide (a<d))
   ((ix b a).bind λx7=>
   pIf (!(Option.getD (z9p (List.zip f g) x7.name) false))
    ((ext e [x7.name]).bind λx8=>
    z6b n b c d a x8 (mks (zal (List.zip f g) x7.name true)) (mvs (zal (List.zip f g) x7.name true)) h)
    (z6b n b c d a e (mks (List.zip f g)) (mvs (List.zip f g)) h))
   (z6k n (IntKind.i64.wrap (c+1)) e (mks (List.zip f g)) (mvs (List.zip f g)) h)
noncomputable def z6b:Nat->z2j->Int->Int->Int->(List B8)->(List B8)->(List Bool)->kz1->Ot ((List B8)×Int)
 |0,_,_,_,_,_,_,_,_=>none
 |n+1,a,b,c,d,e,f,g,h=>
  z6i n (IntKind.i64.wrap (d+1)) a b c e (mks (List.zip f g)) (mvs (List.zip f g)) h
end
noncomputable def ztv:LSh:=⟨[(4,dA),(5,dI)],[],0,65,[]⟩
noncomputable def zft:FI dat:=FI.of dat 15 65 0 [dT 11,dS] [] [dA,dI] [] true ztv (R:=(List B8)×Int) (λx=>(x.1,x.2.1)) (λr=>(r.1,r.2,())) (λn=>u2 (z77 n))
 (λn=>[(0,⟨⟨[(8,(.own 0)),(7,(.map 1)),(9,dI),(2,(.ptr 2 0))],[(.acc 9 .str true),(.mp 76 .bool),(.st 11)],0,65,[]⟩,u5 (z6k n)⟩),(1,⟨⟨[(44,dI),(8,(.own 0)),(7,(.map 1)),(42,dL 12),(2,(.ptr 2 0)),(9,dI),(43,dI)],[(.acc 9 .str true),(.mp 76 .bool),(.st 11)],0,65,[]⟩,u8 (z6i n)⟩),(2,⟨⟨[(8,(.own 0)),(7,(.map 1)),(42,dL 12),(2,(.ptr 2 0)),(9,dI),(43,dI),(44,dI)],[(.acc 9 .str true),(.mp 76 .bool),(.st 11)],0,65,[]⟩,u8 (z6b n)⟩)]) (anb [(28,0),(40,1),(58,2)] f15)
theorem zjy:FOk prog zft:=okF (bs:=[kzn,z9o,zml,zbx]) ⟨z2b,zb8,zpz,ze8,trivial⟩ func15 ntmps15 call15
 (λn=>λ_=>tr (z77.eq_2 _ _ n))
 (λn=>⟨λ_=>tr (z6k.eq_2 _ _ _ _ _ n),
  λ_=>tr (z6i.eq_2 _ _ _ _ _ _ _ _ n),
  λ_=>tr (z6b.eq_2 _ _ _ _ _ _ _ _ n),
  trivial⟩)
mutual
noncomputable def zej:Nat->kz1->B8->Ot ((List B8)×Int)
 |0,_,_=>none
 |n+1,a,b=>
  (zz3 n a).bind λy0=>
  pIf (y0 != 0)
   (some ([],y0))
   ((zcm n a b).bind λy1=>
   pIf (decide (y1<0))
    (some ([],6))
    ((ix a.rules y1).bind λx2=>
    (z7f n x2).bind λy3=>
    z69 n 0 y3 (y3.length:Int) []))
noncomputable def z69:Nat->Int->z2j->Int->(List B8)->Ot ((List B8)×Int)
 |0,_,_,_,_=>none
 |n+1,a,b,c,d=>
  pIf (decide (a<c))
   ((ix b a).bind λx4=>
   (ext d [x4.name]).bind λx5=>
   z69 n (IntKind.i64.wrap (a+1)) b c x5)
   ((zze n d).bind λy6=>
   (z4d n y6).bind λy7=>
   some (y7,0))
end
noncomputable def zud:LSh:=⟨[(4,dA),(5,dI)],[],0,42,[]⟩
noncomputable def zlz:FI dat:=FI.of dat 19 42 0 [dT 11,dS] [] [dA,dI] [] true zud (R:=(List B8)×Int) (λx=>(x.1,x.2.1)) (λr=>(r.1,r.2,())) (λn=>u2 (zej n))
 (λn=>[(0,⟨⟨[(28,dI),(8,(.own 0)),(26,dL 12),(27,dI)],[(.acc 9 .str true)],0,42,[]⟩,u4 (z69 n)⟩)]) (anb [(28,0)] f19)
theorem ztk:FOk prog zlz:=okF (bs:=[kzn,z4u,z9o,zml,zbx]) ⟨z2b,zbh,zb8,zpz,ze8,trivial⟩ func19 ntmps19 call19
 (λn=>λ_=>tr (zej.eq_2 _ _ n))
 (λn=>⟨λ_=>tr (z69.eq_2 _ _ _ _ n),
  trivial⟩)
mutual
noncomputable def z1t:Nat->(List B8)->(List B8)->Ot Bool
 |0,_,_=>none
 |n+1,a,b=>
  pIf ((a.length:Int) != (b.length:Int))
   (some false)
   (z1z n 0 b a)
noncomputable def z1z:Nat->Int->(List B8)->(List B8)->Ot Bool
 |0,_,_,_=>none
 |n+1,a,b,c=>
  pIf (decide (a<(c.length:Int)))
   ((ix c a).bind λx0=>
   (ix b a).bind λx1=>
   pIf (!(x0==x1))
    (some false)
    (z1z n (IntKind.i64.wrap (a+1)) b c))
   (some true)
end
noncomputable def zkw:LSh:=⟨[(4,dB)],[],0,26,[]⟩
noncomputable def zda:FI dat:=FI.of dat 22 26 0 [dA,dA] [] [dB] [] true zkw (R:=Bool) Prod.fst (·,()) (λn=>u2 (z1t n))
 (λn=>[(0,⟨⟨[(5,dI),(1,dA),(0,dA)],[],0,26,[]⟩,u3 (z1z n)⟩)]) (anb [(14,0)] f22)
theorem zj8:FOk prog zda:=okF (bs:=[]) trivial func22 ntmps22 call22
 (λ_ _=>tr (z1t.eq_2 ..))
 (λn=>⟨λ_=>tr (z1z.eq_2 ..),
  trivial⟩)
noncomputable def z65:Nat->Option Bool
 |0=>none
 |n+1=>
  (z4p n (List.append (List.append [97,116,116,114,32,102,108,111,111,114,32,51,10,114,117,108,101,32,104,111,117,115,101,32,110,10,99,97,115,101,32,49,32,40,110,32,60,32,49] [41,10,108,101,97,102,32,34,114,111,111,102,34,10,99,97,115,101,32,49,32,110,111,116,40,40,110,32,60,32,49,41,41,10,115,112,108,105,116,32]) (List.append [122,10,102,105,120,101,100,32,119,97,108,108,32,91,102,108,111,111,114,93,10,114,101,115,116,32,104,111,117,115,101,32,91,49,44,32,40,110,32,45] [32,49,41,93,10,114,117,108,101,32,119,97,108,108,10,99,97,115,101,32,50,32,116,114,117,101,10,108,101,97,102,32,34,98,114,105,99,107,34,10]))).bind λy0=>
  (zcb n y0.1).bind λy1=>
  (zej n y0.1 [104,111,117,115,101]).bind λy2=>
  (z77 n y0.1 [104,111,117,115,101]).bind λy3=>
  (z77 n y0.1 [119,97,108,108]).bind λy4=>
  pIf (y0.2==0)
   (pIf ((y0.1.attrs.length:Int)==1)
     (pIf ((y0.1.rules.length:Int)==2)
       (pIf (y1.2==0)
         (pIf (y1.1==(List.append (List.append [97,116,116,114,32,102,108,111,111,114,32,51,10,114,117,108,101,32,104,111,117,115,101,32,110,10,99,97,115,101,32,49,32,40,110,32,60,32,49] [41,10,108,101,97,102,32,34,114,111,111,102,34,10,99,97,115,101,32,49,32,110,111,116,40,40,110,32,60,32,49,41,41,10,115,112,108,105,116,32]) (List.append [122,10,102,105,120,101,100,32,119,97,108,108,32,91,102,108,111,111,114,93,10,114,101,115,116,32,104,111,117,115,101,32,91,49,44,32,40,110,32,45] [32,49,41,93,10,114,117,108,101,32,119,97,108,108,10,99,97,115,101,32,50,32,116,114,117,101,10,108,101,97,102,32,34,98,114,105,99,107,34,10])))
           (pIf (y2.2==0)
             ((z1t n y2.1 [[104,111,117,115,101],[119,97,108,108]]).bind λy5=>
             pIf y5
              (pIf (y3.2==0)
                ((z1t n y3.1 [[104,111,117,115,101],[119,97,108,108]]).bind λy6=>
                pIf y6
                 (pIf (y4.2==0)
                   ((z1t n y4.1 [[119,97,108,108]]).bind λy7=>
                   some y7)
                   (some false))
                 (some false))
                (some false))
              (some false))
             (some false))
           (some false))
         (some false))
       (some false))
     (some false))
   (some false)
noncomputable def zjs:LSh:=⟨[(0,dB)],[],0,84,[]⟩
noncomputable def zcg:FI dat:=FI.of dat 16 84 0 [] [] [dB] [] true zjs (R:=Bool) Prod.fst (·,()) (λn x=>z65 n)
 (λn=>[]) (anb [] f16)
theorem zhz:FOk prog zcg:=okF (bs:=[z60,zdt,zlz,zft,zda]) ⟨zeg,zls,ztk,zjy,zj8,trivial⟩ func16 ntmps16 call16
 (λn=>λx=>(z65.eq_2 n).trans (by kernel_rfl))
 (λn=>trivial)
mutual
noncomputable def yzq:Nat->Option Bool
 |0=>none
 |n+1=>
  (yzi n [110]).bind λy0=>
  (yzj n (zz4.mk 1 0 [97] [y0.re] [])).bind λy1=>
  (zz3 n y1).bind λy2=>
  pIf (y2==0)
   ((yzi n [115,120]).bind λy3=>
   (yzi n [107]).bind λy4=>
   (yzj n (zz4.mk 2 0 [97] [y0.re,y3.re,y4.re,y0.re] [])).bind λy5=>
   (zz3 n y5).bind λy6=>
   pIf (y6==0)
    ((kzj n 1).bind λy7=>
    (yzj n (zz4.mk 4 2 [97] [y7.re,y0.re] [])).bind λy8=>
    (zz3 n y8).bind λy9=>
    pIf (y9==0)
     ((yzj n (zz4.mk 5 1 [] [] [(z0p.mk 3 [97] [y0.re,y0.re])])).bind λy10=>
     (zz3 n y10).bind λy11=>
     pIf (y11==0)
      ((yzj n (zz4.mk 6 0 [] [y0.re] [])).bind λy12=>
      (zz3 n y12).bind λy13=>
      yz8 n (y13==0) y0.re)
      (yz8 n false y0.re))
     (yz8 n false y0.re))
    (yz8 n false y0.re))
   (yz8 n false y0.re)
noncomputable def yz8:Nat->Bool->yz1->Ot Bool
 |0,_,_=>none
 |n+1,a,b=>
  (yz4 n (zz4.mk 0 0 [] [] [])).bind λy14=>
  (zz3 n (kz1.mk y14.1 y14.2)).bind λy15=>
  pIf (y15==8)
   ((yz4 n (zz4.mk 1 1 [97] [b.re] [])).bind λy16=>
   (zz3 n (kz1.mk y16.1 y16.2)).bind λy17=>
   pIf (y17==8)
    ((yz4 n (zz4.mk 1 0 [115,120] [b.re] [])).bind λy18=>
    (zz3 n (kz1.mk y18.1 y18.2)).bind λy19=>
    pIf (y19==8)
     ((yz4 n (zz4.mk 3 0 [97] [b.re,b.re] [])).bind λy20=>
     (zz3 n (kz1.mk y20.1 y20.2)).bind λy21=>
     pIf (y21==8)
      ((yz4 n (zz4.mk 5 0 [] [] [])).bind λy22=>
      (zz3 n (kz1.mk y22.1 y22.2)).bind λy23=>
      pIf (y23==8)
       ((yz4 n (zz4.mk 6 0 [97] [b.re] [])).bind λy24=>
       (zz3 n (kz1.mk y24.1 y24.2)).bind λy25=>
       pIf (y25==8)
        ((yz4 n (zz4.mk 5 3 [] [] [(z0p.mk 1 [97] [b.re,b.re])])).bind λy26=>
        (zz3 n (kz1.mk y26.1 y26.2)).bind λy27=>
        pIf (y27==8)
         ((yz4 n (zz4.mk 5 0 [] [] [(z0p.mk 4 [97] [b.re,b.re])])).bind λy28=>
         (zz3 n (kz1.mk y28.1 y28.2)).bind λy29=>
         yz5 n (y29==8) a b.re)
         (yz5 n false a b.re))
        (yz5 n false a b.re))
       (yz5 n false a b.re))
      (yz5 n false a b.re))
     (yz5 n false a b.re))
    (yz5 n false a b.re))
   (yz5 n false a b.re)
noncomputable def yz5:Nat->Bool->Bool->yz1->Ot Bool
 |0,_,_,_=>none
 |n+1,a,b,c=>
  (yz4 n (zz4.mk 1 0 [98] [c.re] [])).bind λy30=>
  (zz3 n (kz1.mk y30.1 y30.2)).bind λy31=>
  pIf (y31==6)
   ((yzi n [109]).bind λy32=>
   (yz4 n (zz4.mk 6 0 [] [y32.re] [])).bind λy33=>
   (zz3 n (kz1.mk y33.1 y33.2)).bind λy34=>
   kzv n (y34==6) a b c.re)
   (kzv n false a b c.re)
noncomputable def kzv:Nat->Bool->Bool->Bool->yz1->Ot Bool
 |0,_,_,_,_=>none
 |n+1,a,b,c,d=>
  (yz4 n (zz4.mk 1 0 [97] [] [])).bind λy35=>
  (zz3 n (kz1.mk y35.1 y35.2)).bind λy36=>
  pIf (y36==2)
   ((yz4 n (zz4.mk 2 0 [97] [d.re,d.re,d.re,d.re,d.re] [])).bind λy37=>
   (zz3 n (kz1.mk y37.1 y37.2)).bind λy38=>
   pIf (y38==2)
    ((yz4 n (zz4.mk 5 0 [] [] [(z0p.mk 1 [97] [d.re])])).bind λy39=>
    (zz3 n (kz1.mk y39.1 y39.2)).bind λy40=>
    yz6 n (y40==2) a b c d.re)
    (yz6 n false a b c d.re))
   (yz6 n false a b c d.re)
noncomputable def yz6:Nat->Bool->Bool->Bool->Bool->yz1->Ot Bool
 |0,_,_,_,_,_=>none
 |n+1,a,b,c,d,e=>
  (yz4 n (zz4.mk 6 0 [] [e.re] [])).bind λy41=>
  (ix y41.2 0).bind λx42=>
  (yz4 n (zz4.mk 6 0 [] [e.re] [])).bind λy43=>
  (yzi n [107]).bind λy44=>
  (kzj n 1).bind λy45=>
  (zz3 n (kz1.mk y41.1 (y41.2.set (Int.toNat 0) (yzh.mk x42.name [[107]] x42.cases)))).bind λy46=>
  pIf (y46==14)
   ((zz3 n (kz1.mk [(zz8.mk [106] y44.re),(zz8.mk [107] y45.re)] y43.2)).bind λy47=>
   pIf (y47==6)
    ((zz3 n (kz1.mk [(zz8.mk [] (yz1.mk 0 (kz0.mk 0 (kz2.mk 0 0) false [] []) [] [])),(zz8.mk [] (yz1.mk 0 (kz0.mk 0 (kz2.mk 0 0) false [] []) [] [])),(zz8.mk [] (yz1.mk 0 (kz0.mk 0 (kz2.mk 0 0) false [] []) [] [])),(zz8.mk [] (yz1.mk 0 (kz0.mk 0 (kz2.mk 0 0) false [] []) [] [])),(zz8.mk [] (yz1.mk 0 (kz0.mk 0 (kz2.mk 0 0) false [] []) [] [])),(zz8.mk [] (yz1.mk 0 (kz0.mk 0 (kz2.mk 0 0) false [] []) [] [])),(zz8.mk [] (yz1.mk 0 (kz0.mk 0 (kz2.mk 0 0) false [] []) [] [])),(zz8.mk [] (yz1.mk 0 (kz0.mk 0 (kz2.mk 0 0) false [] []) [] [])),(zz8.mk [] (yz1.mk 0 (kz0.mk 0 (kz2.mk 0 0) false [] []) [] [])),(zz8.mk [] (yz1.mk 0 (kz0.mk 0 (kz2.mk 0 0) false [] []) [] [])),(zz8.mk [] (yz1.mk 0 (kz0.mk 0 (kz2.mk 0 0) false [] []) [] [])),(zz8.mk [] (yz1.mk 0 (kz0.mk 0 (kz2.mk 0 0) false [] []) [] [])),(zz8.mk [] (yz1.mk 0 (kz0.mk 0 (kz2.mk 0 0) false [] []) [] [])),(zz8.mk [] (yz1.mk 0 (kz0.mk 0 (kz2.mk 0 0) false [] []) [] [])),(zz8.mk [] (yz1.mk 0 (kz0.mk 0 (kz2.mk 0 0) false [] []) [] [])),(zz8.mk [] (yz1.mk 0 (kz0.mk 0 (kz2.mk 0 0) false [] []) [] [])),(zz8.mk [] (yz1.mk 0 (kz0.mk 0 (kz2.mk 0 0) false [] []) [] [])),(zz8.mk [] (yz1.mk 0 (kz0.mk 0 (kz2.mk 0 0) false [] []) [] [])),(zz8.mk [] (yz1.mk 0 (kz0.mk 0 (kz2.mk 0 0) false [] []) [] [])),(zz8.mk [] (yz1.mk 0 (kz0.mk 0 (kz2.mk 0 0) false [] []) [] [])),(zz8.mk [] (yz1.mk 0 (kz0.mk 0 (kz2.mk 0 0) false [] []) [] []))] [])).bind λy48=>
    pIf (y48==4)
     ((zz3 n (kz1.mk [] [])).bind λy49=>
     yzc n (y49==0) a b c d)
     (yzc n false a b c d))
    (yzc n false a b c d))
   (yzc n false a b c d)
noncomputable def yzc:Nat->Bool->Bool->Bool->Bool->Bool->Ot Bool
 |0,_,_,_,_,_=>none
 |n+1,a,b,c,d,e=>
  (kz3 n [114,117,108,101,32,97,32,10]).bind λy50=>
  pIf y50
   ((kz3 n [114,117,108,101,32,32,97,10]).bind λy51=>
   pIf y51
    ((kz3 n [114,117,108,101,32,97,10,99,97,115,101,32,48,49,32,116,114,117,101,10]).bind λy52=>
    pIf y52
     ((kz3 n [114,117,108,101,32,97,10,99,97,115,101,32,48,32,116,114,117,101,10]).bind λy53=>
     pIf y53
      ((kz3 n [108,101,97,102,32,49,10]).bind λy54=>
      pIf y54
       ((kz3 n [114,117,108,101,32,97,10,108,101,97,102,32,49,10]).bind λy55=>
       pIf y55
        ((kz3 n [114,117,108,101,32,97,10,99,97,115,101,32,49,32,116,114,117,101,10,102,105,120,101,100,32,97,32,91,49,93,10]).bind λy56=>
        pIf y56
         ((kz3 n [114,117,108,101,32,97,10,97,116,116,114,32,107,32,49,10]).bind λy57=>
         pIf y57
          ((kz3 n [114,117,108,101,32,97,10,99,97,115,101,32,49,32,116,114,117,101,10,115,112,108,105,116,32,120,10]).bind λy58=>
          pIf y58
           ((kz3 n [114,117,108,101,32,97,10,99,97,115,101,32,49,32,116,114,117,101,10,116,117,114,110,32,119,32,97,32,91,49,93,10]).bind λy59=>
           pIf y59
            ((kz3 n [114,117,108,101,32,97,10,99,97,115,101,32,49,32,116,114,117,101,10,99,97,108,108,32,97,91,93,10]).bind λy60=>
            pIf y60
             ((kz3 n [114,117,108,101,32,97]).bind λy61=>
             pIf y61
              ((kz3 n [10]).bind λy62=>
              pIf y62
               ((kz3 n [114,117,108,101,32,97,10,99,97,115,101,32,49,32,116,114,117,101,10,99,97,108,108,32,98,32,91,93,10]).bind λy63=>
               yz2 n y63 a b c d e)
               (yz2 n false a b c d e))
              (yz2 n false a b c d e))
             (yz2 n false a b c d e))
            (yz2 n false a b c d e))
           (yz2 n false a b c d e))
          (yz2 n false a b c d e))
         (yz2 n false a b c d e))
        (yz2 n false a b c d e))
       (yz2 n false a b c d e))
      (yz2 n false a b c d e))
     (yz2 n false a b c d e))
    (yz2 n false a b c d e))
   (yz2 n false a b c d e)
noncomputable def yz2:Nat->Bool->Bool->Bool->Bool->Bool->Bool->Ot Bool
 |0,_,_,_,_,_,_=>none
 |n+1,a,b,c,d,e,f=>
  (z4p n []).bind λy64=>
  (z4p n [114,117,108,101,32,97,10,99,97,115,101,32,49,32,116,114,117,101,10,116,117,114,110,32,121,32,97,32,91,51,93,10,99,97,108,108,32,97,32,91,93,10,115,105,122,101,32,97,32,91,49,44,32,115,120,44,32,115,121,93,10]).bind λy65=>
  (z77 n y65.1 [98]).bind λy66=>
  pIf f
   (pIf e
     (pIf d
       (pIf c
         (pIf b
           (pIf a
             (pIf (y64.2==0)
               (pIf ((y64.1.rules.length:Int)==0)
                 (pIf (y65.2==0)
                   (pIf ((y65.1.rules.length:Int)==1)
                     ((ix y65.1.rules 0).bind λx67=>
                     (ix x67.cases 0).bind λx68=>
                     pIf ((x68.do_.length:Int)==3)
                      ((ix y65.1.rules 0).bind λx69=>
                      (ix x69.cases 0).bind λx70=>
                      (ix x70.do_ 0).bind λx71=>
                      pIf (x71.axis==1)
                       (pIf (y66.2==6)
                         ((z65 n).bind λy72=>
                         some y72)
                         (some false))
                       (some false))
                      (some false))
                     (some false))
                   (some false))
                 (some false))
               (some false))
             (some false))
           (some false))
         (some false))
       (some false))
     (some false))
   (some false)
end
noncomputable def zf5:LSh:=⟨[(0,dB)],[],0,329,[]⟩
noncomputable def zf3:FI dat:=FI.of dat 3 329 0 [] [] [dB] [] true zf5 (R:=Bool) Prod.fst (·,()) (λn x=>yzq n)
 (λn=>[(0,⟨⟨[(2,dB),(1,(.ptr 0 0))],[(.st 5)],0,329,[]⟩,u2 (yz8 n)⟩),(1,⟨⟨[(3,dB),(2,dB),(1,(.ptr 0 0))],[(.st 5)],0,329,[]⟩,u3 (yz5 n)⟩),(2,⟨⟨[(4,dB),(3,dB),(2,dB),(1,(.ptr 0 0))],[(.st 5)],0,329,[]⟩,u4 (kzv n)⟩),(3,⟨⟨[(5,dB),(4,dB),(3,dB),(2,dB),(1,(.ptr 0 0))],[(.st 5)],0,329,[]⟩,u5 (yz6 n)⟩),(4,⟨⟨[(8,dB),(5,dB),(4,dB),(3,dB),(2,dB)],[],0,329,[]⟩,u5 (yzc n)⟩),(5,⟨⟨[(9,dB),(8,dB),(5,dB),(4,dB),(3,dB),(2,dB)],[],0,329,[]⟩,u6 (yz2 n)⟩)]) (anb [(6,0),(8,1),(10,2),(12,3),(22,4),(24,5)] f3)
theorem zef:FOk prog zf3:=okF (bs:=[zet,zd8,zbl,z9o,z3b,zaz,z60,zft,zcg]) ⟨zkp,zil,zh0,zb8,z54,zgd,zeg,zjy,zhz,trivial⟩ func3 ntmps3 call3
 (λn=>λx=>(yzq.eq_2 n).trans (by kernel_rfl))
 (λn=>⟨λ_=>tr (yz8.eq_2 _ _ n),
  λ_=>tr (yz5.eq_2 _ _ _ n),
  λ_=>tr (kzv.eq_2 _ _ _ _ n),
  λ_=>tr (yz6.eq_2 _ _ _ _ _ n),
  λ_=>tr (yzc.eq_2 _ _ _ _ _ n),
  λ_=>tr (yz2.eq_2 _ _ _ _ _ _ n),
  trivial⟩)
theorem zeu:VRL dat [] 0 [] []:=by
 simp only[VRL]
theorem zcf(n:Nat)(r:Bool)(h:yzq n=some r):zez prog 3 [] (.bool r):=by
 obtain⟨y,h1,_,_,_,h2⟩:=zef n _ (()) (λy=>some y.1) (λ_=>none) r (by show(yzq n).bind (λr=>some r)=some r;rw[h];rfl);obtain⟨vs,k1,k2⟩:=h2 0 [] (zeu);injection h1 with h1;subst h1;have:=k1 [] 0;replace this:VRL dat [] 0 [TV.bool y.1] vs:=this;simp only[VRL,VR]at this;obtain⟨v,r,rfl,rfl,rfl⟩:=this;exact k2
set_option linter.defProp false
noncomputable def zsq{r}(a):=evS (zz3 · a) r (zz3.eq_2 a)
noncomputable def zao{r}(a b c d e f g h i):=evS (yzo · a b c d e f g h i) r (yzo.eq_2 a b c d e f g h i)
noncomputable def zfo{r}(a b c d e f g h i j):=evS (kzw · a b c d e f g h i j) r (kzw.eq_2 a b c d e f g h i j)
noncomputable def zfj{r}(a b c d e f g h i):=evS (zzv · a b c d e f g h i) r (zzv.eq_2 a b c d e f g h i)
noncomputable def zfg{r}(a b c d e f g h i j k l m):=evS (yzv · a b c d e f g h i j k l m) r (yzv.eq_2 a b c d e f g h i j k l m)
noncomputable def zo5{r}(a b c d e f g h i j k l m o):=evS (z0i · a b c d e f g h i j k l m o) r (z0i.eq_2 a b c d e f g h i j k l m o)
noncomputable def zni{r}(a b c d e f g h i j):=evS (z0e · a b c d e f g h i j) r (z0e.eq_2 a b c d e f g h i j)
noncomputable def zcn{r}(a b c d e):=evS (yz6 · a b c d e) r (yz6.eq_2 a b c d e)
noncomputable def y4s:yz1:=⟨1,⟨1,⟨1,1⟩,false,[],[]⟩,[],[]⟩
noncomputable def nYes:yz1:=⟨1,⟨2,⟨0,0⟩,true,[],[]⟩,[],[]⟩
noncomputable def zs7(s:B8):yz1:=⟨2,⟨0,⟨0,0⟩,false,[],[]⟩,s,[]⟩
noncomputable def zob:yz7:=[⟨[97],[[110]],[⟨1,nYes,[⟨6,0,[],[zs7 [110]],[]⟩]⟩]⟩]
noncomputable def znb:kz1:=⟨[⟨[106],zs7 [107]⟩,⟨[107],y4s⟩],zob⟩
theorem evK{α:Type}{f:Nat->Option α}{r:α}(h:∀m,f (m+300)=some r):Ev f r:=⟨300,λk hk=>by
 obtain⟨m,rfl⟩:=Nat.exists_eq_add_of_le' hk
 exact h m⟩
theorem ybw{α:Type}{f g:Nat->Option α}{r:α}(h:∀m,f (m+304)=g (m+300))(hg:Ev g r):Ev f r:=by
 obtain⟨N,hN⟩:=hg;refine⟨N+304,λk hk =>?_⟩;obtain⟨m,rfl⟩:=Nat.exists_eq_add_of_le' (show 304<=k by omega);rw[h m];exact hN _ (by omega)
noncomputable def nR:yzh:=⟨[97],[[110]],[⟨1,nYes,[⟨6,0,[],[zs7 [110]],[]⟩]⟩]⟩
noncomputable def nA:z07:=[⟨[106],zs7 [107]⟩,⟨[107],y4s⟩]
theorem y9f(m:Nat):z0m (m+300) false [[106],[107]] [true,true] zob 1 0 true [[106],[107]] [true,true] znb [[97]] [0] nR [[115,120],[115,121],[115,122]] [true,true,true]=some 6:=by
 rw[show m+300=(m+299)+1 from rfl,z0m.eq_2];refine yb2 (λe=>by cases e) λi p hi =>?_
 rcases i with _|_|i
 ·obtain rfl:([106],true)=p:=Option.some.inj hi
  kernel_rfl
 ·obtain rfl:([107],true)=p:=Option.some.inj hi
  kernel_rfl
 ·cases hi
theorem y7n:Ev (λn=>zz3 n znb) 6:=by
 have k6:Ev (λn=>z0m n false [[106],[107]] [true,true] zob 1 0 true [[106],[107]] [true,true] znb [[97]] [0] nR [[115,120],[115,121],[115,122]] [true,true,true]) 6:=evK y9f
 have k5:Ev (λn=>z0e n false 0 true [[106],[107]] [true,true] zob 1 znb [[97]] [0]) 6:=by
  rw[zni,Ev.zpx (by decide),Ev.zk2 (show ix zob 0=some nR from rfl)];exact k6
 have k2:Ev (λn=>zzv n 1 zob true 1 [[106],[107]] [true,true] [[97]] [0] znb) 6:=by
  rw[zfj,Ev.zij (by decide)];exact k5
 have k3:Ev (λn=>yzv n 1 [[110]] zob true 1 0 1 nR [[106],[107]] [true,true] [[97]] [0] znb) 6:=by
  rw[zfg,Ev.zij (by decide)];exact k2
 have k4:Ev (λn=>z0i n [[110]] zob true 1 0 1 0 false nR [[106],[107]] [true,true] [[97]] [0] znb) 6:=by
  rw[zo5,Ev.zij rfl];exact k3
 have k30:Ev (λn=>yzv n 0 [[110]] zob true 1 0 1 nR [[106],[107]] [true,true] [[97]] [0] znb) 6:=by
  rw[zfg,Ev.zpx (by decide),Ev.zk2 (show ix ([[110]]:List B8) 0=some [110]from rfl),Ev.zij (by rfl),Ev.z9f (y:=0) (evK λm=>by kernel_rfl)];exact k4
 have k20:Ev (λn=>zzv n 0 zob true 1 [[106],[107]] [true,true] [] [] znb) 6:=by
  rw[zfj,Ev.zpx (by decide),Ev.zk2 (show ix zob 0=some nR from rfl),Ev.zij (by rfl)];exact k30
 have k02:Ev (λn=>yzo n 2 true nA 2 [[106],[107]] [true,true] [] [] znb) 6:=by
  rw[zao,Ev.zij (by decide)];exact k20
 have k11:Ev (λn=>kzw n true nA 2 1 [[106]] [true] [] [] znb ⟨[107],y4s⟩) 6:=by
  rw[zfo,Ev.zij (by rfl)];exact k02
 have k01:Ev (λn=>yzo n 1 true nA 2 [[106]] [true] [] [] znb) 6:=by
  rw[zao,Ev.zpx (by decide),Ev.zk2 (show ix nA 1=some ⟨[107],y4s⟩from rfl),Ev.zpx rfl];exact k11
 have k10:Ev (λn=>kzw n true nA 2 0 [] [] [] [] znb ⟨[106],zs7 [107]⟩) 6:=by
  rw[zfo,Ev.zij (by rfl)];exact k01
 have k00:Ev (λn=>yzo n 0 false nA 2 [] [] [] [] znb) 6:=by
  rw[zao,Ev.zpx (by decide),Ev.zk2 (show ix nA 0=some ⟨[106],zs7 [107]⟩from rfl),Ev.zij rfl,Ev.z9f (y:=(true,[],[])) (evK λm=>by kernel_rfl)];exact k10
 rw[zsq,Ev.z9f (y:=false) (evK λm=>by kernel_rfl),Ev.zij (by rfl),Ev.z9f (y:=true) (evK λm=>by kernel_rfl),Ev.zij (by rfl)];exact k00
theorem y9v:Ev (λn=>yzq n) true:=by
 refine ybw (g:=λn=>yz6 n true true true true (zs7 [110])) (λm=>by kernel_rfl) ?_;have one:Ev (λn=>yz4 n (zz4.mk 6 0 [] [(zs7 [110]).re] [])) ([⟨[107],y4s⟩],zob):=evK λm=>by kernel_rfl
 have nm:Ev (λn=>yzi n [107]) (zs7 [107]):=evK λm=>by kernel_rfl
 have nu:Ev (λn=>kzj n 1) y4s:=evK λm=>by kernel_rfl
 rw[zcn,Ev.z9f one,Ev.zk2 (show ix zob 0=some ⟨[97],[[110]],[⟨1,nYes,[⟨6,0,[],[zs7 [110]],[]⟩]⟩]⟩from rfl),Ev.z9f one,Ev.z9f nm,Ev.z9f nu];rw[Ev.z9f (y:=14) (evK λm=>by kernel_rfl),Ev.zpx (by rfl),yz1.y1f,yz1.y1f];refine(Ev.z9f (show Ev (λn=>zz3 n (kz1.mk [(zz8.mk [106] (zs7 [107])),(zz8.mk [107] y4s)] zob)) 6 from y7n)).2 ?_;rw[Ev.zpx (by rfl)];exact evK λm=>by kernel_rfl
theorem yb1:zez prog 3 [] (.bool true):=by
 obtain⟨n,h⟩:=Ev.get y9v;exact zcf n true h
end Go.Proofs.YthphaiccgnkobaaGreatDoor
namespace Go.Proofs.YthphaiccgnkobaaGreatDoor
open Go Go.Ab Go.ChangeShapes Go.WideShapes Go.ChangeAt Go.RowKit
open Go.Proofs.Tryz
set_option linter.unusedVariables false
abbrev y8y:List (String×DataW Unit):=Rows.rulesReachUptoRow.laid
theorem y5r{W:World}{name:String}{k:IntKind}{g:Nat}{cs:List (IntKind×Int)}(hcs:cs.map (λp=>Value.int p.1 p.2)=(cs.map Prod.snd).map λz=>Value.int k z)(hn:prog.globalNamed name=some g)
  (h:Lib.TabIs prog W name k (cs.map Prod.snd)):¬Go.Ab.Own g0 H0 g∧∃ty q,W.heap[g]? = some (.cells (cs.map λp=>Value.int p.1 p.2).toArray ty q):=by
 refine⟨own0 _ _,?_⟩;unfold Lib.TabIs World.var? at h;rw[hn]at h;simp only[Qbl]at h;split at h
 ·rename_i cs' ty q hq;injection h with h;rw[hcs];exact⟨ty,q,by rw[hq,h]⟩
 ·cases h
theorem y5f{W:World}{n:String}{g:Nat}{tp:Nat}{a:Addr}(hn:prog.globalNamed n=some g)(h:W.var? prog n=some #[.iface tp (.pointer (some a))]) :
  ¬Go.Ab.Own g0 H0 g∧∃v ty q,W.heap[g]? = some (.cells #[v] ty q)∧(v = .nilIface∨∃te pe,v = .iface te pe):=by
 refine⟨own0 _ _,?_⟩;unfold World.var? at h;rw[hn]at h;simp only[Qbl]at h;split at h
 ·rename_i cs ty q hq;injection h with h;exact⟨_,ty,q,by rw[hq,h],.inr ⟨_,_,rfl⟩⟩
 ·cases h
set_option maxRecDepth 100000 in
theorem globI{W:World}(hL:laidMet prog y8y W):ycn W g0 H0:=λk cs hk=>by
 unfold gl at hk;split at hk
 ·injection hk with hk;subst hk;exact y5r (cs:=gl0) (k:=.u8) (name := "strings.asciiSpace") (by kernel_rfl) (by kernel_rfl) (Lib.tabIs_of_head (g:=0) (by kernel_rfl) (by kernel_rfl) underlying213 underlying5 (by kernel_rfl) (by kernel_rfl) hL.tail.tail.tail.tail.tail.tail.tail)
 ·injection hk with hk;subst hk;exact y5r (cs:=gl5) (k:=.u64) (name := "internal/strconv.uint64pow10") (by kernel_rfl) (by kernel_rfl) (Lib.tabIs_of_head (g:=5) (by kernel_rfl) (by kernel_rfl) underlying288 underlying205 (by kernel_rfl) (by kernel_rfl) hL.tail.tail)
 ·cases hk
set_option maxRecDepth 100000 in
theorem globE{W:World}(hL:laidMet prog y8y W):ycm W g0 H0:=λk hk=>by
 unfold gle at hk;split at hk
 ·obtain⟨a,s,hv,_⟩:=laid_sentinel (g:=3) (ti:=113) (tp:=310) (te:=312) (ts:=9) hL.tail.tail.tail.tail.tail (by kernel_rfl) (by kernel_rfl) underlying113 (λu h=>typeName_ptr_named (nm := "errors.errorString") (by kernel_rfl) (by kernel_rfl) (by decide) u (h.trans (by kernel_rfl))) underlying310 underlying312 rfl rfl underlying9 (by kernel_rfl) (by kernel_rfl)
  exact y5f (by kernel_rfl) hv
 ·obtain⟨a,s,hv,_⟩:=laid_sentinel (g:=4) (ti:=113) (tp:=310) (te:=312) (ts:=9) hL.tail.tail.tail.tail (by kernel_rfl) (by kernel_rfl) underlying113 (λu h=>typeName_ptr_named (nm := "errors.errorString") (by kernel_rfl) (by kernel_rfl) (by decide) u (h.trans (by kernel_rfl))) underlying310 underlying312 rfl rfl underlying9 (by kernel_rfl) (by kernel_rfl)
  exact y5f (by kernel_rfl) hv
 ·cases hk
theorem zf4{W:World}(hL:laidMet prog y8y W):zew W g0 H0:=⟨globI hL,globE hL⟩
end Go.Proofs.YthphaiccgnkobaaGreatDoor
