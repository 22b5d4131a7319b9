/-
  Go functions as Lean functions, by a program of this repo.
-/
import Derived.Test.YthphaiccgnkobaaGreatDoorRun0
import Derived.Test.YthphaiccgnkobaaGreatDoorRun1
import Derived.Test.YthphaiccgnkobaaGreatDoorLib8
import Derived.KernelRfl
import Derived.Test.YthphaiccgnkobaaGreatDoorLib2
import Derived.Test.YthphaiccgnkobaaGreatDoorProg
import Derived.Test.YthphaiccgnkobaaGreatDoorRows
import Derived.WalkKit
import Derived.ProofKit
import Derived.Handy
import Derived.Lay
import Derived.SevenTiedAt
import Derived.Deep.DeepHandedRow
import Derived.Lib.LaidTab
import Derived.Stop.LaidErr
set_option linter.defProp false
set_option linter.unusedSimpArgs false
set_option linter.unusedVariables false
namespace Go.Proofs.YthphaiccgnkobaaGreatDoor
open Go Go.Ab
open Go.Proofs.Tryz
set_option maxRecDepth 100000
set_option maxHeartbeats 4000000
def zg8(b:Int)(a:Int):Option Int :=
 pIf (!false)
  (some a)
  (some b)
def ycd:LSh:=⟨[],[(.cells [dI])],1,10,[]⟩
noncomputable def zug:y1i dat:={f:=242,args:=[(.ptr 0 0)],aos:=[(.cells [dI])],m:=(some (.iface 31 dI)),ros:=[(.cells [dI])],go:=λx a=>(zg8 x.1 a.1).bind λr=>some (r,())}
def y6f:(zug).Ok prog:=yxs (c:=(anb [] f242)) (args:=[(.ptr 0 0)]) (aos:=[(.cells [dI])]) (ros:=[(.cells [dI])]) (m:=(some (.iface 31 dI))) (l:=ycd) (pack:=λx=>x.1) (un:=λr=>(r,())) (go:=λx a=>zg8 x.1 a.1) (by kernel_rfl) (kzd _) func242 (by kernel_rfl) ntmps242 call242 (Nat.le_of_ble_eq_true (by kernel_rfl)) (Nat.le_of_ble_eq_true (by kernel_rfl)) (Nat.le_of_ble_eq_true (by kernel_rfl)) (by kernel_rfl) (by kernel_rfl) (by kernel_rfl) (by kernel_rfl) (λx=>by kernel_rfl) (λx a=>by kernel_rfl)
def zcj:Nat->B8->Ot (zz2×Int)|0,_=>none|n+1,a=>(zzx n 12 (kz2.mk a)).bind λm=>zp2 m (λb=>pIf (!(b.1.s==[])) ((z4n n 12).bind λl=>zp2 l (λr=>(((zkn 0).bind λp=>some (p,()))).bind λk=>some (b.2.re,k.1)) (λq=>(((zg8 0 q.1).bind λo=>some (o,()))).bind λj=>some (b.2.re,j.1))) ((((zkn 0).bind λg=>some (g,()))).bind λi=>some (b.2.re,i.1))) (λh=>(((zg8 0 h.1).bind λe=>some (e,()))).bind λd=>some ((zz2.mk 0 (kz1.mk 0 (yz4.mk 0 0) false [] []) [] []),d.1))
def yxn:LSh:=⟨[(2,(.ptr 0 0)),(3,(.ptr 1 0))],[(.st 5),(.cells [dI])],0,17,[]⟩
noncomputable def zsf:FI dat:=FI.ofD dat 200 17 0 [dS] [] [dT 5,dI] [(.st 5),(.cells [dI])] [y5s,zug] yxn (R:=zz2×Int) (λx=>(x.1,x.2.1)) (λr=>(r.1,r.2,r.1,r.2,())) (λn=>u1 (zcj n)) (λn=>[]) (anb [] f200)
noncomputable def ywm:List (FI dat):=[z8s,z9j]
def yxl:(zsf).Good prog dat (tb ywm):=FI.z093 (hD:=kzd _) func200 ntmps200 call200 (by kernel_rfl) (Qac (by kernel_rfl)) (by kernel_rfl) (λn=>by kernel_rfl) ⟨yex,y6f,trivial⟩ (λx=>by kernel_rfl) (λ_=>rfl) trivial (λ_ _=>tr (zcj.eq_2 ..)) (λn=>trivial) (λx=>by kernel_rfl)
def yu3:OkL prog [zsf]:=zth (kzd _) (bs:=[z8s,z9j]) ⟨y4e,zo0,trivial⟩ yxl
def yst:FOk prog zsf:=yu3.1
mutual
def zb8:Nat->B8->Ot (Int×zz2)|0,_=>none|n+1,a=>pIf (decide ((a.length:Int)>4000)) (some (12,(zz2.mk 0 (kz1.mk 0 (yz4.mk 0 0) false [] []) [] []))) ((zcj n a).bind λb=>pIf (b.2 != 0) (z5d n true (zz2.mk 0 (kz1.mk 0 (yz4.mk 0 0) false [] []) [] []) b.1.re) ((z0y n b.1.re).bind λd=>z5d n (d != 0) (zz2.mk 0 (kz1.mk 0 (yz4.mk 0 0) false [] []) [] []) b.1.re))
def z5d:Nat->Bool->zz2->zz2->Ot (Int×zz2)|0,_,_,_=>none|n+1,a,b,c=>pIf a (some (12,(zz2.mk 0 (kz1.mk 0 (yz4.mk 0 0) false [] []) [] []))) (some (0,c.re))
end
def yry:LSh:=⟨[(2,(.ptr 0 0)),(3,dI)],[(.st 5)],0,24,[]⟩
noncomputable def zw8:FI dat:=FI.of dat 156 24 0 [dS] [] [dT 5,dI] [] true yry (R:=Int×zz2) (λx=>(x.1,x.2.1)) (λr=>(r.2,r.1,())) (λn=>u1 (zb8 n)) (λn=>[(0,⟨⟨[(2,(.ptr 0 0)),(4,(.ptr 1 0)),(21,dB)],[(.st 5),(.st 5)],0,24,[]⟩,u3 (z5d n)⟩)]) (anb [(15,0)] f156)
def ymr:FOk prog zw8:=okF (bs:=[zsf,zh3]) ⟨yst,zi6,trivial⟩ func156 ntmps156 call156 (λ_ _=>tr (zb8.eq_2 ..)) (λn=>⟨λx=>tr (z5d.eq_2 x.1 x.2.1 x.2.2.1 n),trivial⟩)
mutual
def kzu:Nat->B8->Bool->Ot (Bool×zz2)|0,_,_=>none|n+1,a,b=>(zb8 n a).bind λd=>pIf b (z2o n (d.1==0) (zz2.mk 0 (kz1.mk 0 (yz4.mk 0 0) false [] []) [] []) d.2.re) (z2o n false (zz2.mk 0 (kz1.mk 0 (yz4.mk 0 0) false [] []) [] []) d.2.re)
def z2o:Nat->Bool->zz2->zz2->Ot (Bool×zz2)|0,_,_,_=>none|n+1,a,b,c=>some (a,c.re)
end
def y49:LSh:=⟨[(4,(.ptr 3 0))],[(.cells [(.own 1),(.own 2),dB]),.rig,.rig,(.st 5)],1,24,[1,2]⟩
noncomputable def zcv:FI dat:=FI.of dat 101 24 1 [(.ptr 0 0),dS] [(.cells [(.own 1),(.own 2),dB]),.rig,.rig] [dT 5] [(.cells [(.own 1),(.own 2),dB]),.rig,.rig,(.st 5)] false y49 (R:=Bool×zz2) (λx=>(x.1,x.2.1)) (λr=>(r.2,r.1,r.2,())) (λn=>u2 (kzu n)) (λn=>[(0,⟨⟨[(4,(.ptr 3 0)),(5,(.ptr 4 0))],[(.cells [(.own 1),(.own 2),dB]),.rig,.rig,(.st 5),(.st 5)],1,24,[1,2]⟩,u3 (z2o n)⟩)]) (anb [(6,0)] f101) [1,2]
noncomputable def y3q:List (FI dat):=[zw8]
def y3p:(zcv).Good prog dat (tb y3q):=FI.z2i (hD:=kzd _) func101 ntmps101 call101 (by kernel_rfl) (Qac (by kernel_rfl)) (by kernel_rfl) (λn=>by kernel_rfl) (λx=>by kernel_rfl) (λ_=>rfl) ⟨λ_=>rfl,trivial⟩ (λ_ _=>tr (kzu.eq_2 ..)) (λn=>⟨λx=>tr (z2o.eq_2 x.1 x.2.1 x.2.2.1 n),trivial⟩) (λx=>.inr (by kernel_rfl))
def y3x:OkL prog [zcv]:=zth (kzd _) (bs:=[zw8]) ⟨ymr,trivial⟩ y3p
def zxr:FOk prog zcv:=y3x.1
noncomputable def zat:FI dat:=z07g dat 101 [(.ptr 0 0),dS] [dT 5] [(.st 5)] (R:=Bool×zz2) (λr=>(r.2,r.1,r.2,())) (λn=>u2 (kzu n)) zcv
def zgt:FOk prog zat:=λn=>ytc (kzd _) rfl (zxr n)
mutual
def z0f:Nat->B8->Bool->Ot (B8×kz9×Bool)|0,_,_=>none|n+1,a,b=>(z1l n a [32]).bind λe=>(kzu n e.2.1 b).bind λd=>pIf d.1 (z2p n e.1 (d.2.op==18) d.2.re) (z2p n e.1 false d.2.re)
def z2p:Nat->B8->Bool->zz2->Ot (B8×kz9×Bool)|0,_,_,_=>none|n+1,a,b,c=>some (a,c.args,b)
end
def y4q:LSh:=⟨[(4,dS),(5,dL 5)],[(.cells [(.own 1),(.own 2),dB]),.rig,.rig],1,34,[1,2]⟩
noncomputable def zcm:FI dat:=FI.of dat 160 34 1 [(.ptr 0 0),dS] [(.cells [(.own 1),(.own 2),dB]),.rig,.rig] [dS,dL 5] [(.cells [(.own 1),(.own 2),dB]),.rig,.rig] false y4q (R:=B8×kz9×Bool) (λx=>(x.1,x.2.1,x.2.2.1)) (λr=>(r.1,r.2.1,r.2.2,())) (λn=>u2 (z0f n)) (λn=>[(0,⟨⟨[(9,(.ptr 3 0)),(6,dS)],[(.cells [(.own 1),(.own 2),dB]),.rig,.rig,(.st 5)],1,34,[1,2]⟩,u3 (z2p n)⟩)]) (anb [(8,0)] f160) [1,2]
noncomputable def y40:List (FI dat):=[zat,zfg]
def y4k:(zcm).Good prog dat (tb y40):=FI.z2i (hD:=kzd _) func160 ntmps160 call160 (by kernel_rfl) (Qac (by kernel_rfl)) (by kernel_rfl) (λn=>by kernel_rfl) (λx=>by kernel_rfl) (λ_=>rfl) ⟨λ_=>rfl,trivial⟩ (λ_ _=>tr (z0f.eq_2 ..)) (λn=>⟨λ_=>tr (z2p.eq_2 _ _ _ n),trivial⟩) (λx=>.inr (by kernel_rfl))
def y4c:OkL prog [zcm]:=zth (kzd _) (bs:=[zat,zfg]) ⟨zgt,zju,trivial⟩ y4k
def zy5:FOk prog zcm:=y4c.1
noncomputable def znu:FI dat:=z07g dat 160 [(.ptr 0 0),dS] [dS,dL 5] [] (R:=B8×kz9×Bool) (λr=>(r.1,r.2.1,r.2.2,())) (λn=>u2 (z0f n)) zcm
def y0f:FOk prog znu:=λn=>ytc (kzd _) rfl (zy5 n)
def zbi:Nat->B8->B8->Ot Int|0,_,_=>none|n+1,a,b=>(kzq n a b).bind λd=>some d
def ye7:LSh:=⟨[(4,dI)],[],0,8,[]⟩
noncomputable def znh:FI dat:=FI.of dat 203 8 0 [dS,dS] [] [dI] [] true ye7 (R:=Int) Prod.fst (·,()) (λn=>u2 (zbi n)) (λn=>[]) (anb [] f203)
def ybq:FOk prog znh:=okF (bs:=[zaj]) ⟨zei,trivial⟩ func203 ntmps203 call203 (λ_ _=>tr (zbi.eq_2 ..)) (λn=>trivial)
mutual
def z13:Nat->B8->Bool->Ot (Int×Bool)|0,_,_=>none|n+1,a,b=>(zbi n [120,121,122] a).bind λd=>pIf b (pIf ((a.length:Int)==1) (z0x n d (decide (d>=0))) (z0x n d false)) (z0x n d false)
def z0x:Nat->Int->Bool->Ot (Int×Bool)|0,_,_=>none|n+1,a,b=>some ((IntKind.u8.wrap (mxI a 0)),b)
end
def y4p:LSh:=⟨[(4,dU)],[(.cells [(.own 1),(.own 2),dB]),.rig,.rig],1,27,[1,2]⟩
noncomputable def zcx:FI dat:=FI.of dat 161 27 1 [(.ptr 0 0),dS] [(.cells [(.own 1),(.own 2),dB]),.rig,.rig] [dU] [(.cells [(.own 1),(.own 2),dB]),.rig,.rig] false y4p (R:=Int×Bool) (λx=>(x.1,x.2.1)) (λr=>(r.1,r.2,())) (λn=>u2 (z13 n)) (λn=>[(0,⟨⟨[(5,dI)],[(.cells [(.own 1),(.own 2),dB]),.rig,.rig],1,27,[1,2]⟩,u2 (z0x n)⟩)]) (anb [(6,0)] f161) [1,2]
noncomputable def y4d:List (FI dat):=[znh]
def y3s:(zcx).Good prog dat (tb y4d):=FI.z2i (hD:=kzd _) func161 ntmps161 call161 (by kernel_rfl) (Qac (by kernel_rfl)) (by kernel_rfl) (λn=>by kernel_rfl) (λx=>by kernel_rfl) (λ_=>rfl) ⟨λ_=>rfl,trivial⟩ (λ_ _=>tr (z13.eq_2 ..)) (λn=>⟨λ_=>tr (z0x.eq_2 _ _ n),trivial⟩) (λx=>.inr (by kernel_rfl))
def y3o:OkL prog [zcx]:=zth (kzd _) (bs:=[znh]) ⟨ybq,trivial⟩ y3s
def zxy:FOk prog zcx:=y3o.1
noncomputable def znp:FI dat:=z07g dat 161 [(.ptr 0 0),dS] [dU] [] (R:=Int×Bool) (λr=>(r.1,r.2,())) (λn=>u2 (z13 n)) zcx
def y29:FOk prog znp:=λn=>ytc (kzd _) rfl (zxy n)
mutual
def z0c:Nat->Int->B8->B8->Bool->z4m->z2f->zzl->Int->Ot (Bool×z4m×z2f×zzl×Int)|0,_,_,_,_,_,_,_,_=>none|n+1,a,b,c,d,e,f,g,h=>(zzf n [102,105,120,101,100,32,115,104,97,114,101,32,114,101,115,116]).bind λy=>(yz5 n y b).bind λu=>pIf (decide (u>=0)) ((z0f n c d).bind λm=>(ix e a).bind λj=>(ix e a).bind λD=>pIf (decide ((j.do_.length:Int)>0)) ((zmb a a).bind λC=>(ix e a).bind λB=>(ix j.do_ (IntKind.i64.wrap ((j.do_.length:Int)-1))).bind λA=>(ix j.do_ (IntKind.i64.wrap ((j.do_.length:Int)-1))).bind λz=>(ix e a).bind λx=>z17 n m.2.1 m.1 u (j.do_.length:Int) a (z.kind==5) m.2.2 (e.set (Int.toNat a) (kz7.mk x.weight x.when_.re j.do_)) f g h) ((ix e a).bind λs=>z17 n m.2.1 m.1 u (j.do_.length:Int) a false m.2.2 (e.set (Int.toNat a) (kz7.mk s.weight s.when_.re j.do_)) f g h)) ((zzf n [99,97,108,108,32,109,111,118,101,32,115,105,122,101,32,116,117,114,110,32,115,112,108,105,116,32,108,101,97,102]).bind λw=>(yz5 n w b).bind λi=>pIf ((IntKind.u8.wrap (IntKind.i64.wrap (i+1)))==0) (kzj n a false e f g h (IntKind.u8.wrap (IntKind.i64.wrap (i+1))) 0 [] [] []) (pIf ((IntKind.u8.wrap (IntKind.i64.wrap (i+1)))==6) ((kzu n c d).bind λr=>kzj n a r.1 e f g h (IntKind.u8.wrap (IntKind.i64.wrap (i+1))) 0 [] [r.2.re] []) (pIf ((IntKind.u8.wrap (IntKind.i64.wrap (i+1)))==5) ((z13 n c d).bind λq=>kzj n a q.2 e f g h (IntKind.u8.wrap (IntKind.i64.wrap (i+1))) q.1 [] [] []) (pIf ((IntKind.u8.wrap (IntKind.i64.wrap (i+1)))==4) ((z1l n c [32]).bind λp=>(z13 n p.1 d).bind λo=>(z0f n p.2.1 o.2).bind λl=>kzj n a l.2.2 e f g h (IntKind.u8.wrap (IntKind.i64.wrap (i+1))) o.1 l.1 l.2.1 []) ((z0f n c d).bind λk=>kzj n a k.2.2 e f g h (IntKind.u8.wrap (IntKind.i64.wrap (i+1))) 0 k.1 k.2.1 [])))))
def z17:Nat->kz9->B8->Int->Int->Int->Bool->Bool->z4m->z2f->zzl->Int->Ot (Bool×z4m×z2f×zzl×Int)|0,_,_,_,_,_,_,_,_,_,_,_=>none|n+1,a,b,c,d,e,f,g,h,i,j,k=>pIf f ((ix h e).bind λl=>(ix l.do_ (IntKind.i64.wrap (d-1))).bind λq=>(zmb e e).bind λC=>(ix h e).bind λB=>(zmb e e).bind λA=>(ix h e).bind λz=>(ix l.do_ (IntKind.i64.wrap (d-1))).bind λy=>(zmb (IntKind.i64.wrap (d-1)) (IntKind.i64.wrap (d-1))).bind λx=>(ix l.do_ (IntKind.i64.wrap (d-1))).bind λw=>(ext q.items [(yzq.mk (IntKind.u8.wrap (IntKind.i64.wrap (c+1))) b a)]).bind λp=>(ix l.do_ (IntKind.i64.wrap (d-1))).bind λu=>(zmb (IntKind.i64.wrap (d-1)) (IntKind.i64.wrap (d-1))).bind λs=>(ix l.do_ (IntKind.i64.wrap (d-1))).bind λr=>(ix l.do_ (IntKind.i64.wrap (d-1))).bind λm=>(ix h e).bind λo=>some (g,(h.set (Int.toNat e) (kz7.mk o.weight o.when_.re (l.do_.set (Int.toNat (IntKind.i64.wrap (d-1))) (zz4.mk m.kind m.axis m.name m.args p)))),i,j,k)) (some (false,h,i,j,k))
def kzj:Nat->Int->Bool->z4m->z2f->zzl->Int->Int->Int->B8->kz9->zm8->Ot (Bool×z4m×z2f×zzl×Int)|0,_,_,_,_,_,_,_,_,_,_,_=>none|n+1,a,b,c,d,e,f,g,h,i,j,k=>(ix c a).bind λm=>(zmb a a).bind λu=>(ix c a).bind λs=>(ext m.do_ [(zz4.mk g h i j [])]).bind λp=>(zmb a a).bind λr=>(ix c a).bind λq=>(ix p (m.do_.length:Int)).bind λl=>(ix c a).bind λo=>some (b,(c.set (Int.toNat a) (kz7.mk o.weight o.when_.re (p.set (Int.toNat (m.do_.length:Int)) (zz4.mk l.kind l.axis l.name l.args k)))),d,e,f)
end
def zxx:LSh:=⟨[],[(.cells [(.own 2),(.own 3),dB]),(.deep 57 9),(.acc 49 (.st 6) true),(.deeph 47 10 2 1)],1,138,[1,2]⟩
noncomputable def zl5:FI dat:=FI.of dat 104 138 1 [(.ptr 0 0),(.dp 1 0),dS,dS] [(.cells [(.own 2),(.own 3),dB]),(.deep 57 9),(.acc 49 (.st 6) true),(.deeph 47 10 2 1)] [] [(.cells [(.own 2),(.own 3),dB]),(.deep 57 9),(.acc 49 (.st 6) true),(.deeph 47 10 2 1)] false zxx (R:=Bool×z4m×z2f×zzl×Int) (λx=>(x.1,x.2.1,x.2.2.1,x.2.2.2.1,x.2.2.2.2.1)) (λr=>(r.1,r.2.1,r.2.2.1,r.2.2.2.1,r.2.2.2.2,())) (λn=>u8 (z0c n)) (λn=>[(0,⟨⟨[(10,dL 5),(9,dS),(8,dI),(11,dI),(1,(.dp 1 0)),(0,(.ptr 0 0)),(45,dB)],[(.cells [(.own 2),(.own 3),dB]),(.deep 57 9),(.acc 49 (.st 6) true),(.deeph 47 10 2 1)],1,138,[1,2]⟩,u11 (z17 n)⟩),(1,⟨⟨[(12,(.ptr 4 0)),(1,(.dp 1 0))],[(.cells [(.own 2),(.own 3),dB]),(.deep 57 9),(.acc 49 (.st 6) true),(.deeph 47 10 2 1),(.cells [dU,dU,dS,dL 5,(.own 5)]),(.acc 43 (.st 7) true)],1,138,[1,2]⟩,u11 (kzj n)⟩)]) (anb [(13,0),(49,1)] f104) [1,2]
def zwg:FOk prog zl5:=okF (bs:=[znu,zat,znp,z5i,z04,zfg]) ⟨y0f,zgt,y29,zcl,z3t,zju,trivial⟩ func104 ntmps104 call104 (λ_ _=>tr (z0c.eq_2 ..)) (λn=>⟨λ_=>tr (z17.eq_2 _ _ _ _ _ _ _ _ _ _ _ n),λ_=>tr (kzj.eq_2 _ _ _ _ _ _ _ _ _ _ _ n),trivial⟩)
mutual
def zzq:Nat->B8->Bool->z2f->zzl->Ot (Bool×z2f×zzl)|0,_,_,_,_=>none|n+1,a,b,c,d=>(z1l n a [32]).bind λe=>pIf (e.1==[97,116,116,114]) (z2q n e.2.1 (d.length:Int) e.1 ((d.length:Int)==0) b c d) (z2q n e.2.1 (d.length:Int) e.1 false b c d)
def z2q:Nat->B8->Int->B8->Bool->Bool->z2f->zzl->Ot (Bool×z2f×zzl)|0,_,_,_,_,_,_,_=>none|n+1,a,b,c,d,e,f,g=>pIf d ((z1l n a [32]).bind λr=>(kzu n r.2.1 e).bind λq=>(ext f [(yzl.mk r.1 q.2.re)]).bind λy=>some (q.1,y,g)) (pIf (c==[114,117,108,101]) ((zbh n a [32]).bind λp=>(ix p 0).bind λx=>(sub p 1 (p.length:Int)).bind λw=>(ext g [(yz7.mk x w [])]).bind λu=>some (e,f,u)) (pIf (b==0) (some (false,f,g)) (pIf (c==[99,97,115,101]) ((z1l n a [32]).bind λj=>(zcc n j.1).bind λs=>zp2 s (λm=>pIf e (kzw n j.2.1 m b true f g) (kzw n j.2.1 m b false f g)) (λo=>pIf e (kzw n j.2.1 o.1 b false f g) (kzw n j.2.1 o.1 b false f g))) ((ix g (IntKind.i64.wrap (b-1))).bind λE=>(ix g (IntKind.i64.wrap (b-1))).bind λi=>(ix g (IntKind.i64.wrap (b-1))).bind λD=>pIf (decide ((i.cases.length:Int)>0)) ((ix g (IntKind.i64.wrap (b-1))).bind λC=>(zmb (IntKind.i64.wrap (b-1)) (IntKind.i64.wrap (b-1))).bind λB=>(ix g (IntKind.i64.wrap (b-1))).bind λA=>(ix i.cases (IntKind.i64.wrap ((i.cases.length:Int)-1))).bind λz=>(z0c n (IntKind.i64.wrap ((i.cases.length:Int)-1)) c a e i.cases f g (IntKind.i64.wrap (b-1))).bind λh=>(ix h.2.2.2.1 h.2.2.2.2).bind λl=>some (h.1,h.2.2.1,(h.2.2.2.1.set (Int.toNat h.2.2.2.2) (yz7.mk l.name l.params h.2.1)))) ((ix g (IntKind.i64.wrap (b-1))).bind λk=>some (false,f,(g.set (Int.toNat (IntKind.i64.wrap (b-1))) (yz7.mk k.name k.params i.cases))))))))
def kzw:Nat->B8->Int->Int->Bool->z2f->zzl->Ot (Bool×z2f×zzl)|0,_,_,_,_,_,_=>none|n+1,a,b,c,d,e,f=>(ix f (IntKind.i64.wrap (c-1))).bind λj=>(ix f (IntKind.i64.wrap (c-1))).bind λq=>(zmb (IntKind.i64.wrap (c-1)) (IntKind.i64.wrap (c-1))).bind λp=>(ix f (IntKind.i64.wrap (c-1))).bind λo=>(kzu n a d).bind λg=>(ext j.cases [(kz7.mk b g.2.re [])]).bind λi=>(ix f (IntKind.i64.wrap (c-1))).bind λm=>(zmb (IntKind.i64.wrap (c-1)) (IntKind.i64.wrap (c-1))).bind λl=>(ix f (IntKind.i64.wrap (c-1))).bind λk=>(ix f (IntKind.i64.wrap (c-1))).bind λh=>some (g.1,e,(f.set (Int.toNat (IntKind.i64.wrap (c-1))) (yz7.mk h.name h.params i)))
end
def y4b:LSh:=⟨[],[(.cells [(.own 1),(.own 2),dB]),(.acc 49 (.st 6) true),(.deep 47 10)],1,171,[]⟩
noncomputable def zho:FI dat:=FI.of dat 43 171 1 [(.ptr 0 0),dS] [(.cells [(.own 1),(.own 2),dB]),(.acc 49 (.st 6) true),(.deep 47 10)] [] [(.cells [(.own 1),(.own 2),dB]),(.acc 49 (.st 6) true),(.deep 47 10)] false y4b (R:=Bool×z2f×zzl) (λx=>(x.1,x.2.1,x.2.2.1)) (λr=>(r.1,r.2.1,r.2.2,())) (λn=>u4 (zzq n)) (λn=>[(0,⟨⟨[(0,(.ptr 0 0)),(5,dS),(7,dI),(4,dS),(63,dB)],[(.cells [(.own 1),(.own 2),dB]),(.acc 49 (.st 6) true),(.deep 47 10)],1,171,[]⟩,u7 (z2q n)⟩),(1,⟨⟨[(13,dS),(0,(.ptr 0 0)),(15,dI),(7,dI)],[(.cells [(.own 1),(.own 2),dB]),(.acc 49 (.st 6) true),(.deep 47 10)],1,171,[]⟩,u6 (kzw n)⟩)]) (anb [(7,0),(30,1)] f43)
def zyk:FOk prog zho:=okF (bs:=[zat,y1x,zl5,zfg,zxp]) ⟨zgt,ye2,zwg,zju,ybv,trivial⟩ func43 ntmps43 call43 (λ_ _=>tr (zzq.eq_2 ..)) (λn=>⟨λ_=>tr (z2q.eq_2 ..),λ_=>tr (kzw.eq_2 ..),trivial⟩)
mutual
noncomputable def zbk:Nat->B8->Ot (yz2×Int)
 |0,_=>none
 |n+1,a=>
  pIf (decide ((a.length:Int)>20000))
   (some ((yz2.mk [] []),12))
   (pIf (!(a==[]))
     ((z38 n a [10]).bind λe=>
     pIf (!e)
      (some ((yz2.mk [] []),12))
      ((ze3 n a).bind λd=>
      z09 n a d 0 [] [] true [] []))
     ((ze3 n a).bind λb=>
     z09 n a b 0 [] [] true [] []))
noncomputable def z09:Nat->B8->B8->Int->z2f->zzl->Bool->z2f->zzl->Ot (yz2×Int)
 |0,_,_,_,_,_,_,_,_=>none
 |n+1,a,b,c,d,e,f,g,h=>
  (if b.length<=4611686018427387904 then (Option.some ())else Option.none).bind λm=>
  pIf (noS b)
   ((zb3 n (yz2.mk g h)).bind λj=>
   pIf (j.2 != 0)
    (some ((yz2.mk [] []),12))
    (pIf (!(j.1==a))
      (some ((yz2.mk [] []),12))
      (some ((yz2.mk g h),0))))
   ((z4e n (lnA b) [10]).bind λk=>
   (zzq n k f g h).bind λi=>
   pIf (!i.1)
    (some ((yz2.mk [] []),12))
    ((z03v (lnB b) (lnB b)).bind λl=>
    z09 n a (lnB b) c d e i.1 i.2.1 i.2.2))
end
def yng:LSh:=⟨[(2,(.ptr 0 0)),(3,(.ptr 1 0))],[(.st 11),(.cells [dI])],0,56,[]⟩
noncomputable def zi4:FI dat:=FI.ofM dat 14 56 0 [dS] [] [dT 11,dI] [] yng (R:=yz2×Int) (λx=>(x.1,x.2.1)) (λr=>(r.1,r.2,())) (λn=>u1 (zbk n)) (λn=>[(0,⟨⟨[(24,(.fn 98 [] [(.ptr 0 0)])),(2,(.ptr 1 0)),(3,(.ptr 2 0)),(4,(.ptr 3 0)),(0,dS)],[(.cells [dS]),(.cells [(.own 4),(.own 5)]),(.cells [dI]),(.cells [(.ptr 6 0)]),(.acc 49 (.st 6) true),(.deep 47 10),(.cells [(.own 7),(.own 8),dB]),(.acc 49 (.st 6) true),(.deep 47 10)],0,56,[]⟩,u8 (z09 n)⟩)]) (anb [(16,0),(1000016,98)] f14)
noncomputable def ynh:List (FI dat):=[zfa,zho,zhn,zkv,zgo]
def yo4:(zi4).Good prog dat (tb ynh):=FI.z0at (hD:=kzd _) func14 ntmps14 call14 (by kernel_rfl) (Qac (by kernel_rfl)) (by kernel_rfl) (λn=>by kernel_rfl) (λx=>by kernel_rfl) (λ_=>rfl) ⟨λ_=>rfl,trivial⟩ (λn=>λ_=>tr (zbk.eq_2 _ n)) (λn=>⟨λ_=>tr (z09.eq_2 _ _ _ _ _ _ _ _ n),trivial⟩) (z0c0 (by kernel_rfl) z04r)
def ylb:OkL prog [zi4]:=zth (kzd _) (bs:=[zfa,zho,zhn,zkv,zgo]) ⟨yar,zyk,y1l,zsu,zy1,trivial⟩ yo4
def y0i:FOk prog zi4:=ylb.1
def ztk:Nat->yz7->B8->Ot (Bool×B8)|0,_,_=>none|n+1,a,b=>some ((a.name==b),b)
def yq0:LSh:=⟨[(3,dB)],[(.cells [dS])],1,8,[]⟩
noncomputable def y9c:FI dat:=FI.of dat 107 8 1 [dT 10,(.ptr 0 0)] [(.cells [dS])] [dB] [(.cells [dS])] false yq0 (R:=Bool×B8) (λx=>(x.1,x.2.1)) (λr=>(r.1,r.2,())) (λn=>u2 (ztk n)) (λn=>[]) (anb [] f107)
def ynx:FOk prog y9c:=okF (bs:=[]) trivial func107 ntmps107 call107 (λn=>λ_=>tr (ztk.eq_2 _ _ n)) (λn=>trivial)
mutual
def z3g:Nat->zzl->B8->Ot (Int×B8)|0,_,_=>none|n+1,a,b=>zzw n 0 a (a.length:Int) b
def zzw:Nat->Int->zzl->Int->B8->Ot (Int×B8)|0,_,_,_,_=>none|n+1,a,b,c,d=>pIf (decide (a<c)) ((ix b a).bind λg=>(ztk n g d).bind λe=>pIf e.1 (some (a,e.2)) (zzw n (IntKind.i64.wrap (a+1)) b c e.2)) (some ((-1),d))
end
def zhm:LSh:=⟨[(4,dI)],[(.cells [dS])],1,19,[]⟩
noncomputable def zax:FI dat:=FI.of dat 106 19 1 [dL 10,(.fn 107 [] [(.ptr 0 0)])] [(.cells [dS])] [dI] [(.cells [dS])] false zhm (R:=Int×B8) (λx=>(x.1,x.2.1)) (λr=>(r.1,r.2,())) (λn=>u2 (z3g n)) (λn=>[(0,⟨⟨[(8,dI),(0,dL 10),(1,(.fn 107 [] [(.ptr 0 0)])),(7,dI)],[(.cells [dS])],1,19,[]⟩,u4 (zzw n)⟩)]) (anb [(6,0)] f106)
def zgw:FOk prog zax:=okF (bs:=[y9c]) ⟨ynx,trivial⟩ func106 ntmps106 call106 (λ_ _=>tr (z3g.eq_2 ..)) (λn=>⟨λ_=>tr (zzw.eq_2 ..),trivial⟩)
def zmx:Nat->yz2->B8->Ot Int|0,_,_=>none|n+1,a,b=>(z3g n a.rules b).bind λd=>some d.1
def z01q:LSh:=⟨[(4,dI)],[],0,9,[]⟩
noncomputable def y6j:FI dat:=FI.of dat 45 9 0 [dT 11,dS] [] [dI] [] true z01q (R:=Int) Prod.fst (·,()) (λn=>u2 (zmx n)) (λn=>[]) (anb [] f45)
def yd7:FOk prog y6j:=okF (bs:=[zax]) ⟨zgw,trivial⟩ func45 ntmps45 call45 (λ_ _=>tr (zmx.eq_2 ..)) (λn=>trivial)
mutual
noncomputable def zkc:Nat->yz2->B8->Ot ((List B8)×Int)
 |0,_,_=>none
 |n+1,a,b=>
  (z9b n a).bind λd=>
  pIf (d != 0)
   (some ([],d))
   ((zmx n a b).bind λe=>
   pIf (decide (e<0))
    (some ([],6))
    (zfx n 0 [b] (mks (ze4 [] b true)) (mvs (ze4 [] b true)) a))
noncomputable def zfx:Nat->Int->(List B8)->(List B8)->(List Bool)->yz2->Ot ((List B8)×Int)
 |0,_,_,_,_,_=>none
 |n+1,a,b,c,d,e=>
  pIf (decide (a<(b.length:Int)))
   ((ix b a).bind λk=>
   (zmx n e k).bind λi=>
   (ix e.rules i).bind λj=>
   (z9p n j).bind λg=>
   zg3 n 0 g a (g.length:Int) b (mks (List.zip c d)) (mvs (List.zip c d)) e)
   ((zzn n b).bind λh=>
   some (h,0))
noncomputable def zg3:Nat->Int->z9d->Int->Int->(List B8)->(List B8)->(List Bool)->yz2->Ot ((List B8)×Int)
 |0,_,_,_,_,_,_,_,_=>none
 |n+1,a,b,c,d,e,f,g,h=>
  pIf (decide (a<d))
   ((ix b a).bind λi=>
   pIf (!(Option.getD (zau (List.zip f g) i.name) false))
    ((ext e [i.name]).bind λj=>
    zfz n b c d a j (mks (ze4 (List.zip f g) i.name true)) (mvs (ze4 (List.zip f g) i.name true)) h)
    (zfz n b c d a e (mks (List.zip f g)) (mvs (List.zip f g)) h))
   (zfx n (IntKind.i64.wrap (c+1)) e (mks (List.zip f g)) (mvs (List.zip f g)) h)
noncomputable def zfz:Nat->z9d->Int->Int->Int->(List B8)->(List B8)->(List Bool)->yz2->Ot ((List B8)×Int)
 |0,_,_,_,_,_,_,_,_=>none
 |n+1,a,b,c,d,e,f,g,h=>
  zg3 n (IntKind.i64.wrap (d+1)) a b c e (mks (List.zip f g)) (mvs (List.zip f g)) h
end
def yl9:LSh:=⟨[(4,dA),(5,dI)],[],0,65,[]⟩
noncomputable def y5d:FI dat:=FI.of dat 15 65 0 [dT 11,dS] [] [dA,dI] [] true yl9 (R:=(List B8)×Int) (λx=>(x.1,x.2.1)) (λr=>(r.1,r.2,())) (λn=>u2 (zkc n)) (λn=>[(0,⟨⟨[(8,(.own 0)),(7,(.map 1)),(9,dI),(2,(.ptr 2 0))],[(.acc 9 .str true),(.mp 76 .bool),(.st 11)],0,65,[]⟩,u5 (zfx n)⟩),(1,⟨⟨[(44,dI),(8,(.own 0)),(7,(.map 1)),(42,dL 12),(2,(.ptr 2 0)),(9,dI),(43,dI)],[(.acc 9 .str true),(.mp 76 .bool),(.st 11)],0,65,[]⟩,u8 (zg3 n)⟩),(2,⟨⟨[(8,(.own 0)),(7,(.map 1)),(42,dL 12),(2,(.ptr 2 0)),(9,dI),(43,dI),(44,dI)],[(.acc 9 .str true),(.mp 76 .bool),(.st 11)],0,65,[]⟩,u8 (zfz n)⟩)]) (anb [(28,0),(40,1),(58,2)] f15)
def yhx:FOk prog y5d:=okF (bs:=[z2j,zm1,y6j,zm6]) ⟨zao,zp0,yd7,zpl,trivial⟩ func15 ntmps15 call15 (λn=>λ_=>tr (zkc.eq_2 _ _ n)) (λn=>⟨λ_=>tr (zfx.eq_2 _ _ _ _ _ n),λ_=>tr (zg3.eq_2 _ _ _ _ _ _ _ _ n),λ_=>tr (zfz.eq_2 _ _ _ _ _ _ _ _ n),trivial⟩)
mutual
noncomputable def zq8:Nat->yz2->B8->Ot ((List B8)×Int)
 |0,_,_=>none
 |n+1,a,b=>
  (z9b n a).bind λg=>
  pIf (g != 0)
   (some ([],g))
   ((zmx n a b).bind λe=>
   pIf (decide (e<0))
    (some ([],6))
    ((ix a.rules e).bind λh=>
    (z9p n h).bind λd=>
    zg4 n 0 d (d.length:Int) []))
noncomputable def zg4:Nat->Int->z9d->Int->(List B8)->Ot ((List B8)×Int)
 |0,_,_,_,_=>none
 |n+1,a,b,c,d=>
  pIf (decide (a<c))
   ((ix b a).bind λi=>
   (ext d [i.name]).bind λh=>
   zg4 n (IntKind.i64.wrap (a+1)) b c h)
   ((zzn n d).bind λg=>
   (zdj n g).bind λe=>
   some (e,0))
end
def yn7:LSh:=⟨[(4,dA),(5,dI)],[],0,42,[]⟩
noncomputable def y5k:FI dat:=FI.of dat 19 42 0 [dT 11,dS] [] [dA,dI] [] true yn7 (R:=(List B8)×Int) (λx=>(x.1,x.2.1)) (λr=>(r.1,r.2,())) (λn=>u2 (zq8 n)) (λn=>[(0,⟨⟨[(28,dI),(8,(.own 0)),(26,dL 12),(27,dI)],[(.acc 9 .str true)],0,42,[]⟩,u4 (zg4 n)⟩)]) (anb [(28,0)] f19)
def yhl:FOk prog y5k:=okF (bs:=[z2j,zea,zm1,y6j,zm6]) ⟨zao,zl2,zp0,yd7,zpl,trivial⟩ func19 ntmps19 call19 (λn=>λ_=>tr (zq8.eq_2 _ _ n)) (λn=>⟨λ_=>tr (zg4.eq_2 _ _ _ _ n),trivial⟩)
mutual
def z9l:Nat->(List B8)->(List B8)->Ot Bool|0,_,_=>none|n+1,a,b=>pIf ((a.length:Int) != (b.length:Int)) (some false) (z9y n 0 b a)
def z9y:Nat->Int->(List B8)->(List B8)->Ot Bool|0,_,_,_=>none|n+1,a,b,c=>pIf (decide (a<(c.length:Int))) ((ix c a).bind λe=>(ix b a).bind λd=>pIf (!(e==d)) (some false) (z9y n (IntKind.i64.wrap (a+1)) b c)) (some true)
end
def y4h:LSh:=⟨[(4,dB)],[],0,26,[]⟩
noncomputable def znj:FI dat:=FI.of dat 22 26 0 [dA,dA] [] [dB] [] true y4h (R:=Bool) Prod.fst (·,()) (λn=>u2 (z9l n)) (λn=>[(0,⟨⟨[(5,dI),(1,dA),(0,dA)],[],0,26,[]⟩,u3 (z9y n)⟩)]) (anb [(14,0)] f22)
def y0n:FOk prog znj:=okF (bs:=[]) trivial func22 ntmps22 call22 (λ_ _=>tr (z9l.eq_2 ..)) (λn=>⟨λ_=>tr (z9y.eq_2 ..),trivial⟩)
noncomputable def z0p:Nat->Option Bool
 |0=>none
 |n+1=>
  (zbk n (List.append (List.append [97,116,116,114,32,102,108,111,111,114,32,51,10,114,117,108,101,32,104,111,117,115,101,32,110,10,99,97,115,101,32,49,32,40,110,32,60,32,49] [41,10,108,101,97,102,32,34,114,111,111,102,34,10,99,97,115,101,32,49,32,110,111,116,40,40,110,32,60,32,49,41,41,10,115,112,108,105,116,32]) (List.append [122,10,102,105,120,101,100,32,119,97,108,108,32,91,102,108,111,111,114,93,10,114,101,115,116,32,104,111,117,115,101,32,91,49,44,32,40,110,32,45] [32,49,41,93,10,114,117,108,101,32,119,97,108,108,10,99,97,115,101,32,50,32,116,114,117,101,10,108,101,97,102,32,34,98,114,105,99,107,34,10]))).bind λa=>
  (zb3 n a.1).bind λg=>
  (zq8 n a.1 [104,111,117,115,101]).bind λe=>
  (zkc n a.1 [104,111,117,115,101]).bind λd=>
  (zkc n a.1 [119,97,108,108]).bind λb=>
  pIf (a.2==0)
   (pIf ((a.1.attrs.length:Int)==1)
     (pIf ((a.1.rules.length:Int)==2)
       (pIf (g.2==0)
         (pIf (g.1==(List.append (List.append [97,116,116,114,32,102,108,111,111,114,32,51,10,114,117,108,101,32,104,111,117,115,101,32,110,10,99,97,115,101,32,49,32,40,110,32,60,32,49] [41,10,108,101,97,102,32,34,114,111,111,102,34,10,99,97,115,101,32,49,32,110,111,116,40,40,110,32,60,32,49,41,41,10,115,112,108,105,116,32]) (List.append [122,10,102,105,120,101,100,32,119,97,108,108,32,91,102,108,111,111,114,93,10,114,101,115,116,32,104,111,117,115,101,32,91,49,44,32,40,110,32,45] [32,49,41,93,10,114,117,108,101,32,119,97,108,108,10,99,97,115,101,32,50,32,116,114,117,101,10,108,101,97,102,32,34,98,114,105,99,107,34,10])))
           (pIf (e.2==0)
             ((z9l n e.1 [[104,111,117,115,101],[119,97,108,108]]).bind λj=>
             pIf j
              (pIf (d.2==0)
                ((z9l n d.1 [[104,111,117,115,101],[119,97,108,108]]).bind λi=>
                pIf i
                 (pIf (b.2==0)
                   ((z9l n b.1 [[119,97,108,108]]).bind λh=>
                   some h)
                   (some false))
                 (some false))
                (some false))
              (some false))
             (some false))
           (some false))
         (some false))
       (some false))
     (some false))
   (some false)
def y1m:LSh:=⟨[(0,dB)],[],0,84,[]⟩
noncomputable def zmg:FI dat:=FI.of dat 16 84 0 [] [] [dB] [] true y1m (R:=Bool) Prod.fst (·,()) (λn x=>z0p n) (λn=>[]) (anb [] f16)
def zxw:FOk prog zmg:=okF (bs:=[zi4,zkv,y5k,y5d,znj]) ⟨y0i,zsu,yhl,yhx,y0n,trivial⟩ func16 ntmps16 call16 (λn=>λx=>(z0p.eq_2 n).trans (by kernel_rfl)) (λn=>trivial)
mutual
def zbn:Nat->kz1->Int->Ot Bool|0,_,_=>none|n+1,a,b=>pIf (b==0) (z42 n b true a.re) (pIf (decide ((a.str.length:Int)>200)) (z42 n b true a.re) (z42 n b (decide ((a.list.length:Int)>150)) a.re))
def z42:Nat->Int->Bool->kz1->Ot Bool|0,_,_,_=>none|n+1,a,b,c=>pIf b (some true) (z6c n 0 a c.re)
def z6c:Nat->Int->Int->kz1->Ot Bool|0,_,_,_=>none|n+1,a,b,c=>pIf (decide (a<(c.list.length:Int))) ((ix c.list a).bind λe=>(zbn n e.re (IntKind.i64.wrap (b-1))).bind λd=>pIf d (some true) (z6c n (IntKind.i64.wrap (a+1)) b c.re)) (some false)
end
def ymg:LSh:=⟨[(4,dB)],[],0,35,[]⟩
noncomputable def zhw:FI dat:=FI.of dat 215 35 0 [dT 4,dI] [] [dB] [] true ymg (R:=Bool) Prod.fst (·,()) (λn=>u2 (zbn n)) (λn=>[(0,⟨⟨[(1,dI),(2,(.ptr 0 0)),(19,dB)],[(.st 4)],0,35,[]⟩,u3 (z42 n)⟩),(1,⟨⟨[(5,dI),(1,dI),(2,(.ptr 0 0))],[(.st 4)],0,35,[]⟩,u3 (z6c n)⟩)]) (anb [(5,0),(14,1)] f215)
noncomputable def yn5:List (FI dat):=[zhw]++[]
def ymx:(zhw).Good prog dat (tb yn5):=FI.z2i (hD:=kzd _) func215 ntmps215 call215 (by kernel_rfl) (Qac (by kernel_rfl)) (by kernel_rfl) (λn=>by kernel_rfl) (λx=>by kernel_rfl) (λ_=>rfl) ⟨λ_=>rfl,λ_=>rfl,trivial⟩ (λ_ _=>tr (zbn.eq_2 ..)) (λn=>⟨λ_=>tr (z42.eq_2 ..),λ_=>tr (z6c.eq_2 ..),trivial⟩) (λx=>.inl rfl)
def ynk:OkL prog [zhw]:=z98 (kzd _) (bs:=[]) trivial ⟨ymx,trivial⟩
def yh1:FOk prog zhw:=ynk.1
mutual
def z9g:Nat->kz1->Ot Int|0,_=>none|n+1,a=>z77 n 0 1 a.re
def z77:Nat->Int->Int->kz1->Ot Int|0,_,_,_=>none|n+1,a,b,c=>pIf (decide (a<(c.list.length:Int))) (z6o n a b (c.kind==4) c.re) (z6o n a b false c.re)
def z6o:Nat->Int->Int->Bool->kz1->Ot Int|0,_,_,_,_=>none|n+1,a,b,c,d=>pIf c ((ix d.list a).bind λg=>(z9g n g.re).bind λe=>z77 n (IntKind.i64.wrap (a+1)) (IntKind.i64.wrap (b+e)) d.re) (some b)
end
def ynn:LSh:=⟨[(2,dI)],[],0,26,[]⟩
noncomputable def zfe:FI dat:=FI.of dat 216 26 0 [dT 4] [] [dI] [] true ynn (R:=Int) Prod.fst (·,()) (λn=>u1 (z9g n)) (λn=>[(0,⟨⟨[(4,dI),(1,(.ptr 0 0)),(3,dI)],[(.st 4)],0,26,[]⟩,u3 (z77 n)⟩),(1,⟨⟨[(1,(.ptr 0 0)),(4,dI),(3,dI),(14,dB)],[(.st 4)],0,26,[]⟩,u4 (z6o n)⟩)]) (anb [(8,0),(12,1)] f216)
noncomputable def ynb:List (FI dat):=[zfe]++[]
def yo5:(zfe).Good prog dat (tb ynb):=FI.z2i (hD:=kzd _) func216 ntmps216 call216 (by kernel_rfl) (Qac (by kernel_rfl)) (by kernel_rfl) (λn=>by kernel_rfl) (λx=>by kernel_rfl) (λ_=>rfl) ⟨λ_=>rfl,λ_=>rfl,trivial⟩ (λ_ _=>tr (z9g.eq_2 ..)) (λn=>⟨λ_=>tr (z77.eq_2 ..),λ_=>tr (z6o.eq_2 ..),trivial⟩) (λx=>.inl rfl)
def yl3:OkL prog [zfe]:=z98 (kzd _) (bs:=[]) trivial ⟨yo5,trivial⟩
def y04:FOk prog zfe:=yl3.1
def zdw:Nat->kz1->Ot Bool|0,_=>none|n+1,a=>(zbn n a.re 10).bind λd=>pIf d (some true) ((z9g n a.re).bind λb=>some (decide (b>150)))
def ymq:LSh:=⟨[(2,dB)],[],0,10,[]⟩
noncomputable def ztg:FI dat:=FI.of dat 173 10 0 [dT 4] [] [dB] [] true ymq (R:=Bool) Prod.fst (·,()) (λn=>u1 (zdw n)) (λn=>[]) (anb [] f173)
def ykl:FOk prog ztg:=okF (bs:=[zhw,zfe]) ⟨yh1,y04,trivial⟩ func173 ntmps173 call173 (λ_ _=>tr (zdw.eq_2 ..)) (λn=>trivial)
mutual
def zbr:Nat->zz2->Int->Ot Bool|0,_,_=>none|n+1,a,b=>pIf (b==0) (z2l n b true a.re) (pIf (decide ((a.args.length:Int)>150)) (z2l n b true a.re) (pIf (decide ((a.name.length:Int)>200)) (z2l n b true a.re) ((zdw n a.value.re).bind λd=>z2l n b d a.re)))
def z2l:Nat->Int->Bool->zz2->Ot Bool|0,_,_,_=>none|n+1,a,b,c=>pIf b (some true) (z6w n 0 a c.re)
def z6w:Nat->Int->Int->zz2->Ot Bool|0,_,_,_=>none|n+1,a,b,c=>pIf (decide (a<(c.args.length:Int))) ((ix c.args a).bind λe=>(zbr n e.re (IntKind.i64.wrap (b-1))).bind λd=>pIf d (some true) (z6w n (IntKind.i64.wrap (a+1)) b c.re)) (some false)
end
def yma:LSh:=⟨[(4,dB)],[],0,40,[]⟩
noncomputable def zi9:FI dat:=FI.of dat 110 40 0 [dT 5,dI] [] [dB] [] true yma (R:=Bool) Prod.fst (·,()) (λn=>u2 (zbr n)) (λn=>[(0,⟨⟨[(1,dI),(2,(.ptr 0 0)),(24,dB)],[(.st 5)],0,40,[]⟩,u3 (z2l n)⟩),(1,⟨⟨[(5,dI),(1,dI),(2,(.ptr 0 0))],[(.st 5)],0,40,[]⟩,u3 (z6w n)⟩)]) (anb [(5,0),(14,1)] f110)
noncomputable def ylj:List (FI dat):=[zi9]++[ztg]
def yl0:(zi9).Good prog dat (tb ylj):=FI.z2i (hD:=kzd _) func110 ntmps110 call110 (by kernel_rfl) (Qac (by kernel_rfl)) (by kernel_rfl) (λn=>by kernel_rfl) (λx=>by kernel_rfl) (λ_=>rfl) ⟨λ_=>rfl,λ_=>rfl,trivial⟩ (λ_ _=>tr (zbr.eq_2 ..)) (λn=>⟨λ_=>tr (z2l.eq_2 ..),λ_=>tr (z6w.eq_2 ..),trivial⟩) (λx=>.inl rfl)
def yny:OkL prog [zi9]:=z98 (kzd _) (bs:=[ztg]) ⟨ykl,trivial⟩ ⟨yl0,trivial⟩
def yik:FOk prog zi9:=yny.1
mutual
def z9c:Nat->zz2->Ot Int|0,_=>none|n+1,a=>z6s n 0 1 a.re
def z6s:Nat->Int->Int->zz2->Ot Int|0,_,_,_=>none|n+1,a,b,c=>pIf (decide (a<(c.args.length:Int))) ((ix c.args a).bind λe=>(z9c n e.re).bind λd=>z6s n (IntKind.i64.wrap (a+1)) (IntKind.i64.wrap (b+d)) c.re) (some b)
end
def yl4:LSh:=⟨[(2,dI)],[],0,21,[]⟩
noncomputable def zfo:FI dat:=FI.of dat 111 21 0 [dT 5] [] [dI] [] true yl4 (R:=Int) Prod.fst (·,()) (λn=>u1 (z9c n)) (λn=>[(0,⟨⟨[(4,dI),(1,(.ptr 0 0)),(3,dI)],[(.st 5)],0,21,[]⟩,u3 (z6s n)⟩)]) (anb [(8,0)] f111)
noncomputable def yn4:List (FI dat):=[zfo]++[]
def yo3:(zfo).Good prog dat (tb yn4):=FI.z2i (hD:=kzd _) func111 ntmps111 call111 (by kernel_rfl) (Qac (by kernel_rfl)) (by kernel_rfl) (λn=>by kernel_rfl) (λx=>by kernel_rfl) (λ_=>rfl) ⟨λ_=>rfl,trivial⟩ (λ_ _=>tr (z9c.eq_2 ..)) (λn=>⟨λ_=>tr (z6s.eq_2 ..),trivial⟩) (λx=>.inl rfl)
def yld:OkL prog [zfo]:=z98 (kzd _) (bs:=[]) trivial ⟨yo3,trivial⟩
def y0c:FOk prog zfo:=yld.1
def z7c:Nat->zz2->Ot Bool|0,_=>none|n+1,a=>(zbr n a.re 16).bind λd=>pIf d (some true) ((z9c n a.re).bind λb=>some (decide (b>150)))
def ymc:LSh:=⟨[(2,dB)],[],0,10,[]⟩
noncomputable def zsz:FI dat:=FI.of dat 48 10 0 [dT 5] [] [dB] [] true ymc (R:=Bool) Prod.fst (·,()) (λn=>u1 (z7c n)) (λn=>[]) (anb [] f48)
def y0o:FOk prog zsz:=okF (bs:=[zi9,zfo]) ⟨yik,y0c,trivial⟩ func48 ntmps48 call48 (λ_ _=>tr (z7c.eq_2 ..)) (λn=>trivial)
def z5w:Nat->kz9->Ot zz2|0,_=>none|n+1,a=>some (zz2.mk 18 (kz1.mk 0 (yz4.mk 0 0) false [] []) [] a)
def yr8:LSh:=⟨[(2,(.ptr 0 0))],[(.st 5)],0,5,[]⟩
noncomputable def zws:FI dat:=FI.of dat 112 5 0 [dL 5] [] [dT 5] [] true yr8 (R:=zz2) Prod.fst (·,()) (λn=>u1 (z5w n)) (λn=>[]) (anb [] f112)
def y5c:FOk prog zws:=okF (bs:=[]) trivial func112 ntmps112 call112 (λn=>λ_=>tr (z5w.eq_2 _ n)) (λn=>trivial)
mutual
def z8a:Nat->kz7->Ot Bool|0,_=>none|n+1,a=>pIf (decide ((a.do_.length:Int)>15)) (z2a n true a.re) ((z7c n a.when_.re).bind λb=>z2a n b a.re)
def z2a:Nat->Bool->kz7->Ot Bool|0,_,_=>none|n+1,a,b=>pIf a (some true) (z2c n 0 b.re)
def z2c:Nat->Int->kz7->Ot Bool|0,_,_=>none|n+1,a,b=>pIf (decide (a<(b.do_.length:Int))) ((ix b.do_ a).bind λi=>(z5w n i.args).bind λe=>(z7c n e.re).bind λd=>pIf d (z0o n a true b.re) ((ix b.do_ a).bind λh=>pIf (decide ((h.items.length:Int)>15)) (z0o n a true b.re) ((ix b.do_ a).bind λg=>z0o n a (decide ((g.name.length:Int)>100)) b.re))) (some false)
def z0o:Nat->Int->Bool->kz7->Ot Bool|0,_,_,_=>none|n+1,a,b,c=>pIf b (some true) (z29 n 0 a c.re)
def z29:Nat->Int->Int->kz7->Ot Bool|0,_,_,_=>none|n+1,a,b,c=>(ix c.do_ b).bind λk=>pIf (decide (a<(k.items.length:Int))) ((ix c.do_ b).bind λj=>(ix j.items a).bind λi=>(z5w n i.args).bind λh=>(z7c n h.re).bind λd=>pIf d (z2b n b a true c.re) ((ix c.do_ b).bind λg=>(ix g.items a).bind λe=>z2b n b a (decide ((e.name.length:Int)>100)) c.re)) (z2c n (IntKind.i64.wrap (b+1)) c.re)
def z2b:Nat->Int->Int->Bool->kz7->Ot Bool|0,_,_,_,_=>none|n+1,a,b,c,d=>pIf c (some true) (z29 n (IntKind.i64.wrap (b+1)) a d.re)
end
def y8o:LSh:=⟨[(2,dB)],[],0,86,[]⟩
noncomputable def zrk:FI dat:=FI.of dat 49 86 0 [dT 9] [] [dB] [] true y8o (R:=Bool) Prod.fst (·,()) (λn=>u1 (z8a n)) (λn=>[(0,⟨⟨[(1,(.ptr 0 0)),(13,dB)],[(.st 9)],0,86,[]⟩,u2 (z2a n)⟩),(1,⟨⟨[(3,dI),(1,(.ptr 0 0))],[(.st 9)],0,86,[]⟩,u2 (z2c n)⟩),(2,⟨⟨[(3,dI),(1,(.ptr 0 0)),(48,dB)],[(.st 9)],0,86,[]⟩,u3 (z0o n)⟩),(3,⟨⟨[(4,dI),(3,dI),(1,(.ptr 0 0))],[(.st 9)],0,86,[]⟩,u3 (z29 n)⟩),(4,⟨⟨[(3,dI),(1,(.ptr 0 0)),(4,dI),(85,dB)],[(.st 9)],0,86,[]⟩,u4 (z2b n)⟩)]) (anb [(5,0),(14,1),(26,2),(34,3),(45,4)] f49)
def y6a:FOk prog zrk:=okF (bs:=[zsz,zws]) ⟨y0o,y5c,trivial⟩ func49 ntmps49 call49 (λ_ _=>tr (z8a.eq_2 ..)) (λn=>⟨λ_=>tr (z2a.eq_2 ..),λ_=>tr (z2c.eq_2 ..),λ_=>tr (z0o.eq_2 ..),λ_=>tr (z29.eq_2 ..),λ_=>tr (z2b.eq_2 ..),trivial⟩)
mutual
def zdq:Nat->yz2->Ot Bool|0,_=>none|n+1,a=>pIf (decide ((a.attrs.length:Int)>25)) (z6r n true a) (z6r n (decide ((a.rules.length:Int)>45)) a)
def z6r:Nat->Bool->yz2->Ot Bool|0,_,_=>none|n+1,a,b=>pIf a (some true) (z3w n 0 b)
def z3w:Nat->Int->yz2->Ot Bool|0,_,_=>none|n+1,a,b=>pIf (decide (a<(b.attrs.length:Int))) ((ix b.attrs a).bind λg=>(z7c n g.value.re).bind λd=>pIf d (z6m n a true b) ((ix b.attrs a).bind λe=>z6m n a (decide ((e.name.length:Int)>100)) b)) (z73 n 0 b)
def z6m:Nat->Int->Bool->yz2->Ot Bool|0,_,_,_=>none|n+1,a,b,c=>pIf b (some true) (z3w n (IntKind.i64.wrap (a+1)) c)
def z73:Nat->Int->yz2->Ot Bool|0,_,_=>none|n+1,a,b=>pIf (decide (a<(b.rules.length:Int))) ((ix b.rules a).bind λd=>pIf (decide ((d.params.length:Int)>10)) (z43 n a true d b) (pIf (decide ((d.cases.length:Int)>10)) (z43 n a true d b) (z43 n a (decide ((d.name.length:Int)>100)) d b))) (some false)
def z43:Nat->Int->Bool->yz7->yz2->Ot Bool|0,_,_,_,_=>none|n+1,a,b,c,d=>pIf b (some true) (z3x n 0 a c d)
def z3x:Nat->Int->Int->yz7->yz2->Ot Bool|0,_,_,_,_=>none|n+1,a,b,c,d=>pIf (decide (a<(c.params.length:Int))) ((ix c.params a).bind λe=>pIf (decide ((e.length:Int)>100)) (some true) (z3x n (IntKind.i64.wrap (a+1)) b c d)) (z7a n 0 b c d)
def z7a:Nat->Int->Int->yz7->yz2->Ot Bool|0,_,_,_,_=>none|n+1,a,b,c,d=>pIf (decide (a<(c.cases.length:Int))) ((ix c.cases a).bind λg=>(z8a n g.re).bind λe=>pIf e (some true) (z7a n (IntKind.i64.wrap (a+1)) b c d)) (z73 n (IntKind.i64.wrap (b+1)) d)
end
def ymi:LSh:=⟨[(2,dB)],[],0,97,[]⟩
noncomputable def y50:FI dat:=FI.of dat 20 97 0 [dT 11] [] [dB] [] true ymi (R:=Bool) Prod.fst (·,()) (λn=>u1 (zdq n)) (λn=>[(0,⟨⟨[(1,(.ptr 0 0)),(17,dB)],[(.st 11)],0,97,[]⟩,u2 (z6r n)⟩),(1,⟨⟨[(3,dI),(1,(.ptr 0 0))],[(.st 11)],0,97,[]⟩,u2 (z3w n)⟩),(2,⟨⟨[(1,(.ptr 0 0)),(3,dI),(41,dB)],[(.st 11)],0,97,[]⟩,u3 (z6m n)⟩),(3,⟨⟨[(4,dI),(1,(.ptr 0 0))],[(.st 11)],0,97,[]⟩,u2 (z73 n)⟩),(4,⟨⟨[(5,(.ptr 0 0)),(1,(.ptr 1 0)),(4,dI),(69,dB)],[(.st 10),(.st 11)],0,97,[]⟩,u4 (z43 n)⟩),(5,⟨⟨[(6,dI),(5,(.ptr 0 0)),(1,(.ptr 1 0)),(4,dI)],[(.st 10),(.st 11)],0,97,[]⟩,u4 (z3x n)⟩),(6,⟨⟨[(7,dI),(5,(.ptr 0 0)),(1,(.ptr 1 0)),(4,dI)],[(.st 10),(.st 11)],0,97,[]⟩,u4 (z7a n)⟩)]) (anb [(5,0),(14,1),(25,2),(35,3),(49,4),(58,5),(78,6)] f20)
def ygj:FOk prog y50:=okF (bs:=[zsz,zrk]) ⟨y0o,y6a,trivial⟩ func20 ntmps20 call20 (λ_ _=>tr (zdq.eq_2 ..)) (λn=>⟨λ_=>tr (z6r.eq_2 ..),λ_=>tr (z3w.eq_2 ..),λ_=>tr (z6m.eq_2 ..),λ_=>tr (z73.eq_2 ..),λ_=>tr (z43.eq_2 ..),λ_=>tr (z3x.eq_2 ..),λ_=>tr (z7a.eq_2 ..),trivial⟩)
mutual
def zfb:Nat->yz2->Ot Bool|0,_=>none|n+1,a=>pIf (decide ((a.attrs.length:Int)>20)) (z7o n true a) (z7o n (decide ((a.rules.length:Int)>40)) a)
def z7o:Nat->Bool->yz2->Ot Bool|0,_,_=>none|n+1,a,b=>pIf a (some true) (z5k n 0 b)
def z5k:Nat->Int->yz2->Ot Bool|0,_,_=>none|n+1,a,b=>pIf (decide (a<(b.rules.length:Int))) ((ix b.rules a).bind λd=>pIf (decide ((d.params.length:Int)>4)) (z81 n a true d b) (z81 n a (decide ((d.cases.length:Int)>6)) d b)) (some false)
def z81:Nat->Int->Bool->yz7->yz2->Ot Bool|0,_,_,_,_=>none|n+1,a,b,c,d=>pIf b (some true) (z5n n 0 a c d)
def z5n:Nat->Int->Int->yz7->yz2->Ot Bool|0,_,_,_,_=>none|n+1,a,b,c,d=>pIf (decide (a<(c.cases.length:Int))) ((ix c.cases a).bind λe=>pIf (decide ((e.do_.length:Int)>10)) (some true) (z5g n 0 a b c d)) (z5k n (IntKind.i64.wrap (b+1)) d)
def z5g:Nat->Int->Int->Int->yz7->yz2->Ot Bool|0,_,_,_,_,_=>none|n+1,a,b,c,d,e=>(ix d.cases b).bind λi=>pIf (decide (a<(i.do_.length:Int))) ((ix d.cases b).bind λh=>(ix h.do_ a).bind λg=>pIf (decide ((g.items.length:Int)>10)) (some true) (z5g n (IntKind.i64.wrap (a+1)) b c d e)) (z5n n (IntKind.i64.wrap (b+1)) c d e)
end
def ysu:LSh:=⟨[(2,dB)],[],0,77,[]⟩
noncomputable def y7t:FI dat:=FI.of dat 52 77 0 [dT 11] [] [dB] [] true ysu (R:=Bool) Prod.fst (·,()) (λn=>u1 (zfb n)) (λn=>[(0,⟨⟨[(1,(.ptr 0 0)),(16,dB)],[(.st 11)],0,77,[]⟩,u2 (z7o n)⟩),(1,⟨⟨[(3,dI),(1,(.ptr 0 0))],[(.st 11)],0,77,[]⟩,u2 (z5k n)⟩),(2,⟨⟨[(4,(.ptr 0 0)),(1,(.ptr 1 0)),(3,dI),(38,dB)],[(.st 10),(.st 11)],0,77,[]⟩,u4 (z81 n)⟩),(3,⟨⟨[(5,dI),(4,(.ptr 0 0)),(1,(.ptr 1 0)),(3,dI)],[(.st 10),(.st 11)],0,77,[]⟩,u4 (z5n n)⟩),(4,⟨⟨[(6,dI),(5,dI),(4,(.ptr 0 0)),(1,(.ptr 1 0)),(3,dI)],[(.st 10),(.st 11)],0,77,[]⟩,u5 (z5g n)⟩)]) (anb [(5,0),(14,1),(28,2),(36,3),(56,4)] f52)
def yl8:FOk prog y7t:=okF (bs:=[]) trivial func52 ntmps52 call52 (λ_ _=>tr (zfb.eq_2 ..)) (λn=>⟨λ_=>tr (z7o.eq_2 ..),λ_=>tr (z5k.eq_2 ..),λ_=>tr (z81.eq_2 ..),λ_=>tr (z5n.eq_2 ..),λ_=>tr (z5g.eq_2 ..),trivial⟩)
def zcf:Nat->Int->Ot Bool|0,_=>none|n+1,a=>pIf (decide (a>=97)) (some (decide (a<=122))) (some false)
def yjk:LSh:=⟨[(2,dB)],[],0,9,[]⟩
noncomputable def y0p:FI dat:=FI.of dat 217 9 0 [dU] [] [dB] [] true yjk (R:=Bool) Prod.fst (·,()) (λn=>u1 (zcf n)) (λn=>[]) (anb [] f217)
def yev:FOk prog y0p:=okF (bs:=[]) trivial func217 ntmps217 call217 (λn=>λ_=>tr (zcf.eq_2 _ n)) (λn=>trivial)
def ze6:Nat->Int->Ot Bool|0,_=>none|n+1,a=>pIf (decide (a>=48)) (some (decide (a<=57))) (some false)
def ylm:LSh:=⟨[(2,dB)],[],0,9,[]⟩
noncomputable def y5g:FI dat:=FI.of dat 218 9 0 [dU] [] [dB] [] true ylm (R:=Bool) Prod.fst (·,()) (λn=>u1 (ze6 n)) (λn=>[]) (anb [] f218)
def yks:FOk prog y5g:=okF (bs:=[]) trivial func218 ntmps218 call218 (λn=>λ_=>tr (ze6.eq_2 _ n)) (λn=>trivial)
mutual
def zd0:Nat->B8->Ot Bool|0,_=>none|n+1,a=>z0u n 0 a
def z0u:Nat->Int->B8->Ot Bool|0,_,_=>none|n+1,a,b=>pIf (decide (a<(b.length:Int))) ((ix b a).bind λi=>(zcf n (i.toNat:Int)).bind λe=>pIf (!e) (pIf (a==0) (z1x n b a true) ((ix b a).bind λh=>pIf ((h.toNat:Int) != 45) ((ix b a).bind λg=>(ze6 n (g.toNat:Int)).bind λd=>z1x n b a (!d)) (z1x n b a false))) (z1x n b a false)) (pIf (decide ((b.length:Int)>=1)) (some (decide ((b.length:Int)<=40))) (some false))
def z1x:Nat->B8->Int->Bool->Ot Bool|0,_,_,_=>none|n+1,a,b,c=>pIf c (some false) (z0u n (IntKind.i64.wrap (b+1)) a)
end
def yss:LSh:=⟨[(2,dB)],[],0,40,[]⟩
noncomputable def zww:FI dat:=FI.of dat 174 40 0 [dS] [] [dB] [] true yss (R:=Bool) Prod.fst (·,()) (λn=>u1 (zd0 n)) (λn=>[(0,⟨⟨[(3,dI),(0,dS)],[],0,40,[]⟩,u2 (z0u n)⟩),(1,⟨⟨[(0,dS),(3,dI),(31,dB)],[],0,40,[]⟩,u3 (z1x n)⟩)]) (anb [(6,0),(17,1)] f174)
def y5y:FOk prog zww:=okF (bs:=[y0p,y5g]) ⟨yev,yks,trivial⟩ func174 ntmps174 call174 (λ_ _=>tr (zd0.eq_2 ..)) (λn=>⟨λ_=>tr (z0u.eq_2 ..),λ_=>tr (z1x.eq_2 ..),trivial⟩)
def zc8:Nat->B8->Ot Bool|0,_=>none|n+1,a=>pIf (a==[115,120]) (some true) (pIf (a==[115,121]) (some true) (some (a==[115,122])))
def yhr:LSh:=⟨[(2,dB)],[],0,13,[]⟩
noncomputable def zyq:FI dat:=FI.of dat 175 13 0 [dS] [] [dB] [] true yhr (R:=Bool) Prod.fst (·,()) (λn=>u1 (zc8 n)) (λn=>[]) (anb [] f175)
def ydq:FOk prog zyq:=okF (bs:=[]) trivial func175 ntmps175 call175 (λn=>λ_=>tr (zc8.eq_2 _ n)) (λn=>trivial)
def z5x:Nat->B8->Ot Bool|0,_=>none|n+1,a=>(zd0 n a).bind λd=>pIf d (pIf (!(a==[116,114,117,101])) (pIf (!(a==[102,97,108,115,101])) ((zc8 n a).bind λb=>some (!b)) (some false)) (some false)) (some false)
def ysk:LSh:=⟨[(2,dB)],[],0,18,[]⟩
noncomputable def zx4:FI dat:=FI.of dat 114 18 0 [dS] [] [dB] [] true ysk (R:=Bool) Prod.fst (·,()) (λn=>u1 (z5x n)) (λn=>[]) (anb [] f114)
def y5f:FOk prog zx4:=okF (bs:=[zww,zyq]) ⟨y5y,ydq,trivial⟩ func114 ntmps114 call114 (λ_ _=>tr (z5x.eq_2 ..)) (λn=>trivial)
mutual
def zd1:Nat->zz2->Ot Int|0,_=>none|n+1,a=>z82 n 0 1 a.re
def z82:Nat->Int->Int->zz2->Ot Int|0,_,_,_=>none|n+1,a,b,c=>pIf (decide (a<(c.args.length:Int))) ((ix c.args a).bind λe=>(zd1 n e.re).bind λd=>z82 n (IntKind.i64.wrap (a+1)) (mxI b (IntKind.i64.wrap (1+d))) c.re) (some b)
end
def yr0:LSh:=⟨[(2,dI)],[],0,22,[]⟩
noncomputable def zjl:FI dat:=FI.of dat 176 22 0 [dT 5] [] [dI] [] true yr0 (R:=Int) Prod.fst (·,()) (λn=>u1 (zd1 n)) (λn=>[(0,⟨⟨[(4,dI),(1,(.ptr 0 0)),(3,dI)],[(.st 5)],0,22,[]⟩,u3 (z82 n)⟩)]) (anb [(8,0)] f176)
noncomputable def ysz:List (FI dat):=[zjl]++[]
def yti:(zjl).Good prog dat (tb ysz):=FI.z2i (hD:=kzd _) func176 ntmps176 call176 (by kernel_rfl) (Qac (by kernel_rfl)) (by kernel_rfl) (λn=>by kernel_rfl) (λx=>by kernel_rfl) (λ_=>rfl) ⟨λ_=>rfl,trivial⟩ (λ_ _=>tr (zd1.eq_2 ..)) (λn=>⟨λ_=>tr (z82.eq_2 ..),trivial⟩) (λx=>.inl rfl)
def yqv:OkL prog [zjl]:=z98 (kzd _) (bs:=[]) trivial ⟨yti,trivial⟩
def yne:FOk prog zjl:=yqv.1
mutual
def zfn:Nat->Int->Ot Int|0,_=>none|n+1,a=>pIf (a==1) (zbe n a true) (zbe n a (a==2))
def zbe:Nat->Int->Bool->Ot Int|0,_,_=>none|n+1,a,b=>pIf b (some 0) (pIf (decide (a>=3)) (pIf (decide (a<=10)) (z00 n a true) (pIf (a==13) (z00 n a true) (pIf (a==14) (z00 n a true) (z00 n a (a==17))))) (pIf (a==13) (z00 n a true) (pIf (a==14) (z00 n a true) (z00 n a (a==17)))))
def z00:Nat->Int->Bool->Ot Int|0,_,_=>none|n+1,a,b=>pIf b (some 2) (pIf (a==11) (z8o n a true) (pIf (a==15) (z8o n a true) (z8o n a (a==16))))
def z8o:Nat->Int->Bool->Ot Int|0,_,_=>none|n+1,a,b=>pIf b (some 1) (pIf (a==12) (some 3) (pIf (a==18) (some (-1)) (some (-2))))
end
def ysh:LSh:=⟨[(2,dI)],[],0,46,[]⟩
noncomputable def zwu:FI dat:=FI.of dat 219 46 0 [dU] [] [dI] [] true ysh (R:=Int) Prod.fst (·,()) (λn=>u1 (zfn n)) (λn=>[(0,⟨⟨[(0,dU),(3,dB)],[],0,46,[]⟩,u2 (zbe n)⟩),(1,⟨⟨[(0,dU),(10,dB)],[],0,46,[]⟩,u2 (z00 n)⟩),(2,⟨⟨[(0,dU),(29,dB)],[],0,46,[]⟩,u2 (z8o n)⟩)]) (anb [(6,0),(12,1),(18,2)] f219)
def yn0:FOk prog zwu:=okF (bs:=[]) trivial func219 ntmps219 call219 (λ_ _=>tr (zfn.eq_2 ..)) (λn=>⟨λ_=>tr (zbe.eq_2 ..),λ_=>tr (z00.eq_2 ..),λ_=>tr (z8o.eq_2 _ _ n),trivial⟩)
mutual
def zdf:Nat->kz1->Ot Int|0,_=>none|n+1,a=>z8k n 0 1 a.re
def z8k:Nat->Int->Int->kz1->Ot Int|0,_,_,_=>none|n+1,a,b,c=>pIf (decide (a<(c.list.length:Int))) (z8w n a b (c.kind==4) c.re) (z8w n a b false c.re)
def z8w:Nat->Int->Int->Bool->kz1->Ot Int|0,_,_,_,_=>none|n+1,a,b,c,d=>pIf c ((ix d.list a).bind λg=>(zdf n g.re).bind λe=>z8k n (IntKind.i64.wrap (a+1)) (mxI b (IntKind.i64.wrap (1+e))) d.re) (some b)
end
def ytd:LSh:=⟨[(2,dI)],[],0,27,[]⟩
noncomputable def zjw:FI dat:=FI.of dat 252 27 0 [dT 4] [] [dI] [] true ytd (R:=Int) Prod.fst (·,()) (λn=>u1 (zdf n)) (λn=>[(0,⟨⟨[(4,dI),(1,(.ptr 0 0)),(3,dI)],[(.st 4)],0,27,[]⟩,u3 (z8k n)⟩),(1,⟨⟨[(1,(.ptr 0 0)),(4,dI),(3,dI),(14,dB)],[(.st 4)],0,27,[]⟩,u4 (z8w n)⟩)]) (anb [(8,0),(12,1)] f252)
noncomputable def yt9:List (FI dat):=[zjw]++[]
def yt5:(zjw).Good prog dat (tb yt9):=FI.z2i (hD:=kzd _) func252 ntmps252 call252 (by kernel_rfl) (Qac (by kernel_rfl)) (by kernel_rfl) (λn=>by kernel_rfl) (λx=>by kernel_rfl) (λ_=>rfl) ⟨λ_=>rfl,λ_=>rfl,trivial⟩ (λ_ _=>tr (zdf.eq_2 ..)) (λn=>⟨λ_=>tr (z8k.eq_2 ..),λ_=>tr (z8w.eq_2 ..),trivial⟩) (λx=>.inl rfl)
def yqd:OkL prog [zjw]:=z98 (kzd _) (bs:=[]) trivial ⟨yt5,trivial⟩
def ynr:FOk prog zjw:=yqd.1
mutual
def zcb:Nat->Int->Int->Ot Int|0,_,_=>none|n+1,a,b=>z4r n b a
def z4r:Nat->Int->Int->Ot Int|0,_,_=>none|n+1,a,b=>pIf (a != 0) ((rem .i64 b a).bind λd=>z4r n d a) (pIf (decide (b<0)) (some (IntKind.i64.wrap (0-b))) (some b))
end
def ygz:LSh:=⟨[(4,dI)],[],0,16,[]⟩
noncomputable def y2c:FI dat:=FI.of dat 263 16 0 [dI,dI] [] [dI] [] true ygz (R:=Int) Prod.fst (·,()) (λn=>u2 (zcb n)) (λn=>[(0,⟨⟨[(1,dI),(0,dI)],[],0,16,[]⟩,u2 (z4r n)⟩)]) (anb [(4,0)] f263)
def ydt:FOk prog y2c:=okF (bs:=[]) trivial func263 ntmps263 call263 (λ_ _=>tr (zcb.eq_2 ..)) (λn=>⟨λ_=>tr (z4r.eq_2 ..),trivial⟩)
mutual
def zdu:Nat->yz4->Ot Int|0,_=>none|n+1,a=>pIf (decide (a.den<1)) (z0z n true) (pIf (decide (a.den>1000000000)) (z0z n true) (pIf (decide (a.num<(-1000000000))) (z0z n true) (pIf (decide (a.num>1000000000)) (z0z n true) ((zcb n a.num a.den).bind λb=>z0z n (b != 1)))))
def z0z:Nat->Bool->Ot Int|0,_=>none|n+1,a=>pIf a (some 8) (some 0)
end
def ym0:LSh:=⟨[(2,dI)],[],0,29,[]⟩
noncomputable def zsv:FI dat:=FI.of dat 230 29 0 [dT 3] [] [dI] [] true ym0 (R:=Int) Prod.fst (·,()) (λn=>u1 (zdu n)) (λn=>[(0,⟨⟨[(28,dB)],[],0,29,[]⟩,u1 (z0z n)⟩)]) (anb [(5,0)] f230)
def ygk:FOk prog zsv:=okF (bs:=[y2c]) ⟨ydt,trivial⟩ func230 ntmps230 call230 (λ_ _=>tr (zdu.eq_2 ..)) (λn=>⟨λ_=>tr (z0z.eq_2 _ n),trivial⟩)
mutual
def zd4:Nat->kz1->Ot Bool|0,_=>none|n+1,a=>pIf (a.kind==1) ((zdu n a.num).bind λb=>pIf (b==0) (pIf (!a.truth) (pIf ((a.str.length:Int)==0) (some ((a.list.length:Int)==0)) (some false)) (some false)) (some false)) (pIf (a.kind==2) (pIf ((a.num.num==0)&&((a.num.den==0)&&true)) (pIf ((a.str.length:Int)==0) (some ((a.list.length:Int)==0)) (some false)) (some false)) (pIf (a.kind==3) (pIf (!((a.num.num==0)&&((a.num.den==0)&&true))) (z25 n true a.re) (pIf a.truth (z25 n true a.re) (pIf (decide ((a.list.length:Int)>0)) (z25 n true a.re) (z25 n (decide ((a.str.length:Int)>60)) a.re)))) (pIf (a.kind==4) (pIf (!((a.num.num==0)&&((a.num.den==0)&&true))) (z3i n true a.re) (pIf a.truth (z3i n true a.re) (z3i n (decide ((a.str.length:Int)>0)) a.re))) (some false))))
def z25:Nat->Bool->kz1->Ot Bool|0,_,_=>none|n+1,a,b=>pIf a (some false) (z8j n 0 b.re)
def z8j:Nat->Int->kz1->Ot Bool|0,_,_=>none|n+1,a,b=>pIf (decide (a<(b.str.length:Int))) ((ix b.str a).bind λe=>pIf (decide ((e.toNat:Int)<32)) (z7x n a true b.re) ((ix b.str a).bind λd=>z7x n a (decide ((d.toNat:Int)>126)) b.re)) (some true)
def z7x:Nat->Int->Bool->kz1->Ot Bool|0,_,_,_=>none|n+1,a,b,c=>pIf b (some false) (z8j n (IntKind.i64.wrap (a+1)) c.re)
def z3i:Nat->Bool->kz1->Ot Bool|0,_,_=>none|n+1,a,b=>pIf a (some false) (z89 n 0 b.re)
def z89:Nat->Int->kz1->Ot Bool|0,_,_=>none|n+1,a,b=>pIf (decide (a<(b.list.length:Int))) ((ix b.list a).bind λe=>(zd4 n e.re).bind λd=>pIf (!d) (some false) (z89 n (IntKind.i64.wrap (a+1)) b.re)) (some true)
end
def yq4:LSh:=⟨[(2,dB)],[],0,121,[]⟩
noncomputable def zkp:FI dat:=FI.of dat 253 121 0 [dT 4] [] [dB] [] true yq4 (R:=Bool) Prod.fst (·,()) (λn=>u1 (zd4 n)) (λn=>[(0,⟨⟨[(1,(.ptr 0 0)),(71,dB)],[(.st 4)],0,121,[]⟩,u2 (z25 n)⟩),(1,⟨⟨[(4,dI),(1,(.ptr 0 0))],[(.st 4)],0,121,[]⟩,u2 (z8j n)⟩),(2,⟨⟨[(1,(.ptr 0 0)),(4,dI),(90,dB)],[(.st 4)],0,121,[]⟩,u3 (z7x n)⟩),(3,⟨⟨[(1,(.ptr 0 0)),(106,dB)],[(.st 4)],0,121,[]⟩,u2 (z3i n)⟩),(4,⟨⟨[(5,dI),(1,(.ptr 0 0))],[(.st 4)],0,121,[]⟩,u2 (z89 n)⟩)]) (anb [(26,0),(35,1),(46,2),(61,3),(70,4)] f253)
noncomputable def yqa:List (FI dat):=[zkp]++[zsv]
def yrc:(zkp).Good prog dat (tb yqa):=FI.z2i (hD:=kzd _) func253 ntmps253 call253 (by kernel_rfl) (Qac (by kernel_rfl)) (by kernel_rfl) (λn=>by kernel_rfl) (λx=>by kernel_rfl) (λ_=>rfl) ⟨λ_=>rfl,λ_=>rfl,λ_=>rfl,λ_=>rfl,λ_=>rfl,trivial⟩ (λ_ _=>tr (zd4.eq_2 ..)) (λn=>⟨λ_=>tr (z25.eq_2 ..),λ_=>tr (z8j.eq_2 ..),λ_=>tr (z7x.eq_2 ..),λ_=>tr (z3i.eq_2 ..),λ_=>tr (z89.eq_2 ..),trivial⟩) (λx=>.inl rfl)
def yqu:OkL prog [zkp]:=z98 (kzd _) (bs:=[zsv]) ⟨ygk,trivial⟩ ⟨yrc,trivial⟩
def ylx:FOk prog zkp:=yqu.1
mutual
def zds:Nat->kz1->Ot Int|0,_=>none|n+1,a=>(z9g n a.re).bind λd=>pIf (decide (d>100)) (z61 n true a.re) ((zdf n a.re).bind λb=>z61 n (decide (b>6)) a.re)
def z61:Nat->Bool->kz1->Ot Int|0,_,_=>none|n+1,a,b=>pIf a (some 4) ((zd4 n b.re).bind λd=>pIf (!d) (some 8) (some 0))
end
def ynl:LSh:=⟨[(2,dI)],[],0,14,[]⟩
noncomputable def zt4:FI dat:=FI.of dat 220 14 0 [dT 4] [] [dI] [] true ynl (R:=Int) Prod.fst (·,()) (λn=>u1 (zds n)) (λn=>[(0,⟨⟨[(1,(.ptr 0 0)),(10,dB)],[(.st 4)],0,14,[]⟩,u2 (z61 n)⟩)]) (anb [(5,0)] f220)
def yju:FOk prog zt4:=okF (bs:=[zfe,zjw,zkp]) ⟨y04,ynr,ylx,trivial⟩ func220 ntmps220 call220 (λ_ _=>tr (zds.eq_2 ..)) (λn=>⟨λ_=>tr (z61.eq_2 ..),trivial⟩)
mutual
def z5v:Nat->kz1->kz1->Ot Bool|0,_,_=>none|n+1,a,b=>pIf (a.kind != b.kind) (z1w n true b.re a.re) (pIf (!((a.num.num==b.num.num)&&((a.num.den==b.num.den)&&true))) (z1w n true b.re a.re) (pIf (!(a.truth==b.truth)) (z1w n true b.re a.re) (pIf (!(a.str==b.str)) (z1w n true b.re a.re) (z1w n ((a.list.length:Int) != (b.list.length:Int)) b.re a.re))))
def z1w:Nat->Bool->kz1->kz1->Ot Bool|0,_,_,_=>none|n+1,a,b,c=>pIf a (some false) (z8r n 0 b.re c.re)
def z8r:Nat->Int->kz1->kz1->Ot Bool|0,_,_,_=>none|n+1,a,b,c=>pIf (decide (a<(c.list.length:Int))) ((ix c.list a).bind λg=>(ix b.list a).bind λe=>(z5v n g.re e.re).bind λd=>pIf (!d) (some false) (z8r n (IntKind.i64.wrap (a+1)) b.re c.re)) (some true)
end
def ys9:LSh:=⟨[(4,dB)],[],0,60,[]⟩
noncomputable def zgx:FI dat:=FI.of dat 141 60 0 [dT 4,dT 4] [] [dB] [] true ys9 (R:=Bool) Prod.fst (·,()) (λn=>u2 (z5v n)) (λn=>[(0,⟨⟨[(3,(.ptr 0 0)),(2,(.ptr 1 0)),(40,dB)],[(.st 4),(.st 4)],0,60,[]⟩,u3 (z1w n)⟩),(1,⟨⟨[(5,dI),(3,(.ptr 0 0)),(2,(.ptr 1 0))],[(.st 4),(.st 4)],0,60,[]⟩,u3 (z8r n)⟩)]) (anb [(5,0),(14,1)] f141)
noncomputable def yqr:List (FI dat):=[zgx]++[]
def yq7:(zgx).Good prog dat (tb yqr):=FI.z2i (hD:=kzd _) func141 ntmps141 call141 (by kernel_rfl) (Qac (by kernel_rfl)) (by kernel_rfl) (λn=>by kernel_rfl) (λx=>by kernel_rfl) (λ_=>rfl) ⟨λ_=>rfl,λ_=>rfl,trivial⟩ (λ_ _=>tr (z5v.eq_2 ..)) (λn=>⟨λ_=>tr (z1w.eq_2 ..),λ_=>tr (z8r.eq_2 ..),trivial⟩) (λx=>.inl rfl)
def ysr:OkL prog [zgx]:=z98 (kzd _) (bs:=[]) trivial ⟨yq7,trivial⟩
def yn3:FOk prog zgx:=ysr.1
def zdt:Nat->B8->Ot Bool|0,_=>none|n+1,a=>(zd0 n a).bind λb=>pIf b (pIf (!(a==[116,114,117,101])) (some (!(a==[102,97,108,115,101]))) (some false)) (some false)
def ylr:LSh:=⟨[(2,dB)],[],0,13,[]⟩
noncomputable def ztb:FI dat:=FI.of dat 221 13 0 [dS] [] [dB] [] true ylr (R:=Bool) Prod.fst (·,()) (λn=>u1 (zdt n)) (λn=>[]) (anb [] f221)
def ykg:FOk prog ztb:=okF (bs:=[zww]) ⟨y5y,trivial⟩ func221 ntmps221 call221 (λ_ _=>tr (zdt.eq_2 ..)) (λn=>trivial)
mutual
def zdc:Nat->zz2->Ot Bool|0,_=>none|n+1,a=>(zfn n a.op).bind λb=>pIf (b==(-2)) (z5h n true a.re) (pIf (decide (b>=0)) (z5h n ((a.args.length:Int) != b) a.re) (z5h n false a.re))
def z5h:Nat->Bool->zz2->Ot Bool|0,_,_=>none|n+1,a,b=>pIf a (some false) (pIf (b.op==1) ((zds n b.value.re).bind λg=>pIf (g != 0) (z0t n true b.re) (pIf (b.value.kind==4) (z0t n true b.re) (pIf (b.op != 1) ((z5v n b.value.re (kz1.mk 0 (yz4.mk 0 0) false [] [])).bind λe=>z0t n (!e) b.re) (z0t n false b.re)))) (pIf (b.op != 1) ((z5v n b.value.re (kz1.mk 0 (yz4.mk 0 0) false [] [])).bind λd=>z0t n (!d) b.re) (z0t n false b.re)))
def z0t:Nat->Bool->zz2->Ot Bool|0,_,_=>none|n+1,a,b=>pIf a (some false) (pIf (b.op==2) ((zdt n b.name).bind λd=>pIf (!d) (z1y n true b.re) (pIf (b.op != 2) (z1y n (decide ((b.name.length:Int)>0)) b.re) (z1y n false b.re))) (pIf (b.op != 2) (z1y n (decide ((b.name.length:Int)>0)) b.re) (z1y n false b.re)))
def z1y:Nat->Bool->zz2->Ot Bool|0,_,_=>none|n+1,a,b=>pIf a (some false) (z8u n 0 b.re)
def z8u:Nat->Int->zz2->Ot Bool|0,_,_=>none|n+1,a,b=>pIf (decide (a<(b.args.length:Int))) ((ix b.args a).bind λe=>(zdc n e.re).bind λd=>pIf (!d) (some false) (z8u n (IntKind.i64.wrap (a+1)) b.re)) (some true)
end
def yqp:LSh:=⟨[(2,dB)],[],0,82,[]⟩
noncomputable def zjs:FI dat:=FI.of dat 177 82 0 [dT 5] [] [dB] [] true yqp (R:=Bool) Prod.fst (·,()) (λn=>u1 (zdc n)) (λn=>[(0,⟨⟨[(1,(.ptr 0 0)),(20,dB)],[(.st 5)],0,82,[]⟩,u2 (z5h n)⟩),(1,⟨⟨[(1,(.ptr 0 0)),(47,dB)],[(.st 5)],0,82,[]⟩,u2 (z0t n)⟩),(2,⟨⟨[(1,(.ptr 0 0)),(67,dB)],[(.st 5)],0,82,[]⟩,u2 (z1y n)⟩),(3,⟨⟨[(4,dI),(1,(.ptr 0 0))],[(.st 5)],0,82,[]⟩,u2 (z8u n)⟩)]) (anb [(7,0),(15,1),(23,2),(32,3)] f177)
noncomputable def yq3:List (FI dat):=[zjs]++[zwu,zt4,zgx,ztb]
def ysv:(zjs).Good prog dat (tb yq3):=FI.z2i (hD:=kzd _) func177 ntmps177 call177 (by kernel_rfl) (Qac (by kernel_rfl)) (by kernel_rfl) (λn=>by kernel_rfl) (λx=>by kernel_rfl) (λ_=>rfl) ⟨λ_=>rfl,λ_=>rfl,λ_=>rfl,λ_=>rfl,trivial⟩ (λ_ _=>tr (zdc.eq_2 ..)) (λn=>⟨λ_=>tr (z5h.eq_2 ..),λ_=>tr (z0t.eq_2 ..),λ_=>tr (z1y.eq_2 ..),λ_=>tr (z8u.eq_2 ..),trivial⟩) (λx=>.inl rfl)
def ytt:OkL prog [zjs]:=z98 (kzd _) (bs:=[zwu,zt4,zgx,ztb]) ⟨yn0,yju,yn3,ykg,trivial⟩ ⟨ysv,trivial⟩
def ylv:FOk prog zjs:=ytt.1
mutual
def z2u:Nat->zz2->Ot Int|0,_=>none|n+1,a=>(z9c n a.re).bind λd=>pIf (decide (d>100)) (z6t n true a.re) ((zd1 n a.re).bind λb=>z6t n (decide (b>12)) a.re)
def z6t:Nat->Bool->zz2->Ot Int|0,_,_=>none|n+1,a,b=>pIf a (some 4) ((zdc n b.re).bind λd=>pIf (!d) (some 8) (some 0))
end
def ymo:LSh:=⟨[(2,dI)],[],0,14,[]⟩
noncomputable def zma:FI dat:=FI.of dat 115 14 0 [dT 5] [] [dI] [] true ymo (R:=Int) Prod.fst (·,()) (λn=>u1 (z2u n)) (λn=>[(0,⟨⟨[(1,(.ptr 0 0)),(10,dB)],[(.st 5)],0,14,[]⟩,u2 (z6t n)⟩)]) (anb [(5,0)] f115)
def zpn:FOk prog zma:=okF (bs:=[zfo,zjl,zjs]) ⟨y0c,yne,ylv,trivial⟩ func115 ntmps115 call115 (λ_ _=>tr (z2u.eq_2 ..)) (λn=>⟨λ_=>tr (z6t.eq_2 ..),trivial⟩)
mutual
def zey:Nat->Int->Ot Int|0,_=>none|n+1,a=>pIf (a==2) (zah n a true) (zah n a (a==3))
def zah:Nat->Int->Bool->Ot Int|0,_,_=>none|n+1,a,b=>pIf b (some 3) (pIf (a==4) (zac n true) (zac n (a==6)))
def zac:Nat->Bool->Ot Int|0,_=>none|n+1,a=>pIf a (some 1) (some 0)
end
def ywt:LSh:=⟨[(2,dI)],[],0,10,[]⟩
noncomputable def y0d:FI dat:=FI.of dat 121 10 0 [dU] [] [dI] [] true ywt (R:=Int) Prod.fst (·,()) (λn=>u1 (zey n)) (λn=>[(0,⟨⟨[(3,dU),(4,dB)],[],0,10,[]⟩,u2 (zah n)⟩),(1,⟨⟨[(7,dB)],[],0,10,[]⟩,u1 (zac n)⟩)]) (anb [(12,0),(22,1)] f121)
def y9u:FOk prog y0d:=okF (bs:=[]) trivial func121 ntmps121 call121 (λ_ _=>tr (zey.eq_2 ..)) (λn=>⟨λ_=>tr (zah.eq_2 ..),λ_=>tr (zac.eq_2 _ n),trivial⟩)
mutual
def zc6:Nat->zz4->Ot Bool|0,_=>none|n+1,a=>pIf (decide (a.kind<1)) (z1g n true a) (pIf (decide (a.kind>6)) (z1g n true a) ((z5w n a.args).bind λe=>(z2u n e.re).bind λd=>pIf (d != 0) (z1g n true a) ((zey n a.kind).bind λb=>z1g n (decide ((a.args.length:Int)<b)) a)))
def z1g:Nat->Bool->zz4->Ot Bool|0,_,_=>none|n+1,a,b=>pIf a (some false) (pIf (b.kind==4) (z4q n true b) (z4q n (b.kind==5) b))
def z4q:Nat->Bool->zz4->Ot Bool|0,_,_=>none|n+1,a,b=>pIf a (pIf (decide (b.axis>2)) (some false) (z4y n b)) (pIf (b.axis != 0) (some false) (z4y n b))
def z4y:Nat->zz4->Ot Bool|0,_=>none|n+1,a=>pIf (a.kind==5) (z83 n true a) (z83 n (a.kind==6) a)
def z83:Nat->Bool->zz4->Ot Bool|0,_,_=>none|n+1,a,b=>pIf a (pIf (decide ((b.name.length:Int)>0)) (kzv n true b) (pIf (b.kind==5) (pIf (decide ((b.args.length:Int)>0)) (kzv n true b) (pIf (b.kind==6) (kzv n (decide ((b.args.length:Int)>1)) b) (kzv n false b))) (pIf (b.kind==6) (kzv n (decide ((b.args.length:Int)>1)) b) (kzv n false b)))) ((z5x n b.name).bind λd=>pIf (!d) (some false) (z4u n b))
def kzv:Nat->Bool->zz4->Ot Bool|0,_,_=>none|n+1,a,b=>pIf a (some false) (z4u n b)
def z4u:Nat->zz4->Ot Bool|0,_=>none|n+1,a=>pIf (!((a.kind==5)==(decide ((a.items.length:Int)>0)))) (some false) (z3b n 0 a)
def z3b:Nat->Int->zz4->Ot Bool|0,_,_=>none|n+1,a,b=>pIf (decide (a<(b.items.length:Int))) ((ix b.items a).bind λd=>pIf (decide (d.kind<1)) (z0h n a true b) (pIf (decide (d.kind>3)) (z0h n a true b) ((z5x n d.name).bind λh=>pIf (!h) (z0h n a true b) (pIf ((d.args.length:Int)==0) (z0h n a true b) ((z5w n d.args).bind λg=>(z2u n g.re).bind λe=>z0h n a (e != 0) b))))) (some true)
def z0h:Nat->Int->Bool->zz4->Ot Bool|0,_,_,_=>none|n+1,a,b,c=>pIf b (some false) (z3b n (IntKind.i64.wrap (a+1)) c)
end
def yhu:LSh:=⟨[(2,dB)],[],0,128,[]⟩
noncomputable def y0l:FI dat:=FI.of dat 116 128 0 [dT 8] [] [dB] [] true yhu (R:=Bool) Prod.fst (·,()) (λn=>u1 (zc6 n)) (λn=>[(0,⟨⟨[(1,(.ptr 0 0)),(28,dB)],[(.st 8)],0,128,[]⟩,u2 (z1g n)⟩),(1,⟨⟨[(1,(.ptr 0 0)),(36,dB)],[(.st 8)],0,128,[]⟩,u2 (z4q n)⟩),(2,⟨⟨[(1,(.ptr 0 0))],[(.st 8)],0,128,[]⟩,u1 (z4y n)⟩),(3,⟨⟨[(1,(.ptr 0 0)),(50,dB)],[(.st 8)],0,128,[]⟩,u2 (z83 n)⟩),(4,⟨⟨[(1,(.ptr 0 0)),(76,dB)],[(.st 8)],0,128,[]⟩,u2 (kzv n)⟩),(5,⟨⟨[(1,(.ptr 0 0))],[(.st 8)],0,128,[]⟩,u1 (z4u n)⟩),(6,⟨⟨[(3,dI),(1,(.ptr 0 0))],[(.st 8)],0,128,[]⟩,u2 (z3b n)⟩),(7,⟨⟨[(1,(.ptr 0 0)),(3,dI),(127,dB)],[(.st 8)],0,128,[]⟩,u3 (z0h n)⟩)]) (anb [(5,0),(13,1),(28,2),(31,3),(34,4),(46,5),(58,6),(71,7)] f116)
def ye6:FOk prog y0l:=okF (bs:=[zws,zma,y0d,zx4]) ⟨y5c,zpn,y9u,y5f,trivial⟩ func116 ntmps116 call116 (λ_ _=>tr (zc6.eq_2 ..)) (λn=>⟨λ_=>tr (z1g.eq_2 ..),λ_=>tr (z4q.eq_2 ..),λ_=>tr (z4y.eq_2 ..),λ_=>tr (z83.eq_2 ..),λ_=>tr (kzv.eq_2 ..),λ_=>tr (z4u.eq_2 ..),λ_=>tr (z3b.eq_2 ..),λ_=>tr (z0h.eq_2 ..),trivial⟩)
mutual
def zcd:Nat->yz2->Ot Bool|0,_=>none|n+1,a=>z3c n 0 a
def z3c:Nat->Int->yz2->Ot Bool|0,_,_=>none|n+1,a,b=>pIf (decide (a<(b.attrs.length:Int))) ((ix b.attrs a).bind λh=>(z5x n h.name).bind λe=>pIf (!e) (z54 n a true b) ((ix b.attrs a).bind λg=>(z2u n g.value.re).bind λd=>z54 n a (d != 0) b)) (z36 n 0 b)
def z54:Nat->Int->Bool->yz2->Ot Bool|0,_,_,_=>none|n+1,a,b,c=>pIf b (some false) (z3c n (IntKind.i64.wrap (a+1)) c)
def z36:Nat->Int->yz2->Ot Bool|0,_,_=>none|n+1,a,b=>pIf (decide (a<(b.rules.length:Int))) ((ix b.rules a).bind λd=>(z5x n d.name).bind λe=>pIf (!e) (some false) (z39 n 0 a d b)) (some true)
def z39:Nat->Int->Int->yz7->yz2->Ot Bool|0,_,_,_,_=>none|n+1,a,b,c,d=>pIf (decide (a<(c.params.length:Int))) ((ix c.params a).bind λg=>(z5x n g).bind λe=>pIf (!e) (some false) (z39 n (IntKind.i64.wrap (a+1)) b c d)) (z2s n 0 b c d)
def z2s:Nat->Int->Int->yz7->yz2->Ot Bool|0,_,_,_,_=>none|n+1,a,b,c,d=>pIf (decide (a<(c.cases.length:Int))) ((ix c.cases a).bind λe=>pIf (decide (e.weight<1)) (z33 n b a true e.re c d) (pIf (decide (e.weight>1000000)) (z33 n b a true e.re c d) ((z2u n e.when_.re).bind λg=>z33 n b a (g != 0) e.re c d))) (z36 n (IntKind.i64.wrap (b+1)) d)
def z33:Nat->Int->Int->Bool->kz7->yz7->yz2->Ot Bool|0,_,_,_,_,_,_=>none|n+1,a,b,c,d,e,f=>pIf c (some false) (z2w n 0 a b d.re e f)
def z2w:Nat->Int->Int->Int->kz7->yz7->yz2->Ot Bool|0,_,_,_,_,_,_=>none|n+1,a,b,c,d,e,f=>pIf (decide (a<(d.do_.length:Int))) ((ix d.do_ a).bind λh=>(zc6 n h).bind λg=>pIf (!g) (some false) (z2w n (IntKind.i64.wrap (a+1)) b c d.re e f)) (z2s n (IntKind.i64.wrap (c+1)) b e f)
end
def ygc:LSh:=⟨[(2,dB)],[],0,105,[]⟩
noncomputable def y1e:FI dat:=FI.of dat 53 105 0 [dT 11] [] [dB] [] true ygc (R:=Bool) Prod.fst (·,()) (λn=>u1 (zcd n)) (λn=>[(0,⟨⟨[(3,dI),(1,(.ptr 0 0))],[(.st 11)],0,105,[]⟩,u2 (z3c n)⟩),(1,⟨⟨[(1,(.ptr 0 0)),(3,dI),(34,dB)],[(.st 11)],0,105,[]⟩,u3 (z54 n)⟩),(2,⟨⟨[(4,dI),(1,(.ptr 0 0))],[(.st 11)],0,105,[]⟩,u2 (z36 n)⟩),(3,⟨⟨[(6,dI),(5,(.ptr 0 0)),(1,(.ptr 1 0)),(4,dI)],[(.st 10),(.st 11)],0,105,[]⟩,u4 (z39 n)⟩),(4,⟨⟨[(7,dI),(5,(.ptr 0 0)),(1,(.ptr 1 0)),(4,dI)],[(.st 10),(.st 11)],0,105,[]⟩,u4 (z2s n)⟩),(5,⟨⟨[(8,(.ptr 0 0)),(5,(.ptr 1 0)),(1,(.ptr 2 0)),(4,dI),(7,dI),(90,dB)],[(.st 9),(.st 10),(.st 11)],0,105,[]⟩,u6 (z33 n)⟩),(6,⟨⟨[(9,dI),(8,(.ptr 0 0)),(5,(.ptr 1 0)),(1,(.ptr 2 0)),(4,dI),(7,dI)],[(.st 9),(.st 10),(.st 11)],0,105,[]⟩,u6 (z2w n)⟩)]) (anb [(6,0),(17,1),(27,2),(50,3),(70,4),(84,5),(92,6)] f53)
def yfb:FOk prog y1e:=okF (bs:=[zx4,zma,y0l]) ⟨y5f,zpn,ye6,trivial⟩ func53 ntmps53 call53 (λ_ _=>tr (zcd.eq_2 ..)) (λn=>⟨λ_=>tr (z3c.eq_2 ..),λ_=>tr (z54.eq_2 ..),λ_=>tr (z36.eq_2 ..),λ_=>tr (z39.eq_2 ..),λ_=>tr (z2s.eq_2 ..),λ_=>tr (z33.eq_2 ..),λ_=>tr (z2w.eq_2 ..),trivial⟩)
mutual
def z9m:Nat->yz2->Ot (List B8)|0,_=>none|n+1,a=>z6h n 0 a []
def z6h:Nat->Int->yz2->(List B8)->Ot (List B8)|0,_,_,_=>none|n+1,a,b,c=>pIf (decide (a<(b.attrs.length:Int))) ((ix b.attrs a).bind λe=>(ext c [e.name]).bind λd=>z6h n (IntKind.i64.wrap (a+1)) b d) (some c)
end
def ymn:LSh:=⟨[(2,dA)],[],0,22,[]⟩
noncomputable def zst:FI dat:=FI.of dat 118 22 0 [dT 11] [] [dA] [] true ymn (R:=List B8) Prod.fst (·,()) (λn=>u1 (z9m n)) (λn=>[(0,⟨⟨[(4,dI),(1,(.ptr 0 0)),(3,(.own 1))],[(.st 11),(.acc 9 .str true)],0,22,[]⟩,u3 (z6h n)⟩)]) (anb [(8,0)] f118)
def y1s:FOk prog zst:=okF (bs:=[]) trivial func118 ntmps118 call118 (λ_ _=>tr (z9m.eq_2 ..)) (λn=>⟨λ_=>tr (z6h.eq_2 ..),trivial⟩)
mutual
def zcu:Nat->(List B8)->B8->Ot Int|0,_,_=>none|n+1,a,b=>zeb n 0 b a
def zeb:Nat->Int->B8->(List B8)->Ot Int|0,_,_,_=>none|n+1,a,b,c=>pIf (decide (a<(c.length:Int))) ((ix c a).bind λd=>pIf (d==b) (some a) (zeb n (IntKind.i64.wrap (a+1)) b c)) (some (-1))
end
def z02f:LSh:=⟨[(4,dI)],[],0,19,[]⟩
noncomputable def zqd:FI dat:=FI.of dat 18 19 0 [dA,dS] [] [dI] [] true z02f (R:=Int) Prod.fst (·,()) (λn=>u2 (zcu n)) (λn=>[(0,⟨⟨[(5,dI),(1,dS),(0,dA)],[],0,19,[]⟩,u3 (zeb n)⟩)]) (anb [(6,0)] f18)
def zrc:FOk prog zqd:=okF (bs:=[]) trivial func18 ntmps18 call18 (λ_ _=>tr (zcu.eq_2 ..)) (λn=>⟨λ_=>tr (zeb.eq_2 ..),trivial⟩)
mutual
def zbs:Nat->(List B8)->Ot Bool|0,_=>none|n+1,a=>z63 n 0 a
def z63:Nat->Int->(List B8)->Ot Bool|0,_,_=>none|n+1,a,b=>pIf (decide (a<(b.length:Int))) ((ix b a).bind λe=>(zcu n b e).bind λd=>pIf (decide (d<a)) (some true) (z63 n (IntKind.i64.wrap (a+1)) b)) (some false)
end
def ymh:LSh:=⟨[(2,dB)],[],0,18,[]⟩
noncomputable def y51:FI dat:=FI.of dat 117 18 0 [dA] [] [dB] [] true ymh (R:=Bool) Prod.fst (·,()) (λn=>u1 (zbs n)) (λn=>[(0,⟨⟨[(3,dI),(0,dA)],[],0,18,[]⟩,u2 (z63 n)⟩)]) (anb [(6,0)] f117)
def yj8:FOk prog y51:=okF (bs:=[zqd]) ⟨zrc,trivial⟩ func117 ntmps117 call117 (λ_ _=>tr (zbs.eq_2 ..)) (λn=>⟨λ_=>tr (z63.eq_2 ..),trivial⟩)
mutual
def z9o:Nat->yz2->Ot (List B8)|0,_=>none|n+1,a=>z7d n 0 a []
def z7d:Nat->Int->yz2->(List B8)->Ot (List B8)|0,_,_,_=>none|n+1,a,b,c=>pIf (decide (a<(b.rules.length:Int))) ((ix b.rules a).bind λe=>(ext c [e.name]).bind λd=>z7d n (IntKind.i64.wrap (a+1)) b d) (some c)
end
def yo9:LSh:=⟨[(2,dA)],[],0,22,[]⟩
noncomputable def zm5:FI dat:=FI.of dat 57 22 0 [dT 11] [] [dA] [] true yo9 (R:=List B8) Prod.fst (·,()) (λn=>u1 (z9o n)) (λn=>[(0,⟨⟨[(4,dI),(1,(.ptr 0 0)),(3,(.own 1))],[(.st 11),(.acc 9 .str true)],0,22,[]⟩,u3 (z7d n)⟩)]) (anb [(8,0)] f57)
def zq5:FOk prog zm5:=okF (bs:=[]) trivial func57 ntmps57 call57 (λ_ _=>tr (z9o.eq_2 ..)) (λn=>⟨λ_=>tr (z7d.eq_2 ..),trivial⟩)
mutual
def zed:Nat->B8->(List B8)->Ot (Int×(List B8))|0,_,_=>none|n+1,a,b=>z10 n 0 a b
def z10:Nat->Int->B8->(List B8)->Ot (Int×(List B8))|0,_,_,_=>none|n+1,a,b,c=>pIf (decide (a<(c.length:Int))) ((ix c a).bind λd=>pIf (d==b) (some (a,c)) (z10 n (IntKind.i64.wrap (a+1)) b c)) (some ((-1),c))
end
def ymv:LSh:=⟨[(4,dI)],[(.acc 9 .str true)],1,19,[]⟩
noncomputable def y5v:FI dat:=FI.of dat 18 19 1 [(.own 0),dS] [(.acc 9 .str true)] [dI] [(.acc 9 .str true)] false ymv (R:=Int×(List B8)) (λx=>(x.1,x.2.1)) (λr=>(r.1,r.2,())) (λn=>u2 (zed n)) (λn=>[(0,⟨⟨[(5,dI),(1,dS),(0,(.own 0))],[(.acc 9 .str true)],1,19,[]⟩,u3 (z10 n)⟩)]) (anb [(6,0)] f18)
def yh6:FOk prog y5v:=okF (bs:=[]) trivial func18 ntmps18 call18 (λ_ _=>tr (zed.eq_2 ..)) (λn=>⟨λ_=>tr (z10.eq_2 ..),trivial⟩)
mutual
def z9x:Nat->(List B8)->Ot (Bool×(List B8))|0,_=>none|n+1,a=>z30 n 0 a
def z30:Nat->Int->(List B8)->Ot (Bool×(List B8))|0,_,_=>none|n+1,a,b=>pIf (decide (a<(b.length:Int))) ((ix b a).bind λe=>(zed n e b).bind λd=>pIf (decide (d.1<a)) (some (true,d.2)) (z30 n (IntKind.i64.wrap (a+1)) d.2)) (some (false,b))
end
def yc9:LSh:=⟨[(2,dB)],[(.acc 9 .str true)],1,18,[]⟩
noncomputable def ztq:FI dat:=FI.of dat 117 18 1 [(.own 0)] [(.acc 9 .str true)] [dB] [(.acc 9 .str true)] false yc9 (R:=Bool×(List B8)) (λx=>(x.1,x.2.1)) (λr=>(r.1,r.2,())) (λn=>u1 (z9x n)) (λn=>[(0,⟨⟨[(3,dI),(0,(.own 0))],[(.acc 9 .str true)],1,18,[]⟩,u2 (z30 n)⟩)]) (anb [(6,0)] f117)
def y88:FOk prog ztq:=okF (bs:=[y5v]) ⟨yh6,trivial⟩ func117 ntmps117 call117 (λ_ _=>tr (z9x.eq_2 ..)) (λn=>⟨λ_=>tr (z30.eq_2 ..),trivial⟩)
mutual
def zba:Nat->yz2->Ot Bool|0,_=>none|n+1,a=>(z9m n a).bind λg=>(zbs n g).bind λe=>pIf e (z3s n true a) ((z9o n a).bind λd=>(zbs n d).bind λb=>z3s n b a)
def z3s:Nat->Bool->yz2->Ot Bool|0,_,_=>none|n+1,a,b=>pIf a (some true) (z26 n 0 b)
def z26:Nat->Int->yz2->Ot Bool|0,_,_=>none|n+1,a,b=>pIf (decide (a<(b.rules.length:Int))) ((ix b.rules a).bind λi=>(ext [] i.params).bind λh=>(z9m n b).bind λe=>(ext h e).bind λg=>(z9x n g).bind λd=>pIf d.1 (some true) (z26 n (IntKind.i64.wrap (a+1)) b)) (some false)
end
def yed:LSh:=⟨[(2,dB)],[],0,31,[]⟩
noncomputable def zxn:FI dat:=FI.of dat 54 31 0 [dT 11] [] [dB] [] true yed (R:=Bool) Prod.fst (·,()) (λn=>u1 (zba n)) (λn=>[(0,⟨⟨[(1,(.ptr 0 0)),(11,dB)],[(.st 11)],0,31,[]⟩,u2 (z3s n)⟩),(1,⟨⟨[(3,dI),(1,(.ptr 0 0))],[(.st 11)],0,31,[]⟩,u2 (z26 n)⟩)]) (anb [(5,0),(14,1)] f54)
def ycb:FOk prog zxn:=okF (bs:=[ztq,zst,y51,zm5]) ⟨y88,y1s,yj8,zq5,trivial⟩ func54 ntmps54 call54 (λ_ _=>tr (zba.eq_2 ..)) (λn=>⟨λ_=>tr (z3s.eq_2 ..),λ_=>tr (z26.eq_2 ..),trivial⟩)
mutual
def zd2:Nat->zz2->(List B8)->Ot (List B8)|0,_,_=>none|n+1,a,b=>pIf (a.op==2) (z5b n 0 a.re b) (z5m n b a.re)
def z5b:Nat->Int->zz2->(List B8)->Ot (List B8)|0,_,_,_=>none|n+1,a,b,c=>pIf (decide (a<(c.length:Int))) ((ix c a).bind λd=>z8v n a (Op.bytesLess d b.name) b.re c) (z8v n a false b.re c)
def z8v:Nat->Int->Bool->zz2->(List B8)->Ot (List B8)|0,_,_,_,_=>none|n+1,a,b,c,d=>pIf b (z5b n (IntKind.i64.wrap (a+1)) c.re d) (pIf (a==(d.length:Int)) (z8x n a true c.re d) ((ix d a).bind λe=>z8x n a (!(e==c.name)) c.re d))
def z8x:Nat->Int->Bool->zz2->(List B8)->Ot (List B8)|0,_,_,_,_=>none|n+1,a,b,c,d=>pIf b ((ext d [[]]).bind λe=>(yvr e (IntKind.i64.wrap (a+1))).bind λj=>(yvr e a).bind λi=>(y60 e (IntKind.i64.wrap (a+1)) a).bind λg=>(ix g a).bind λh=>z5m n (g.set (Int.toNat a) c.name) c.re) (z5m n d c.re)
def z5m:Nat->(List B8)->zz2->Ot (List B8)|0,_,_=>none|n+1,a,b=>z8l n 0 a b.re
def z8l:Nat->Int->(List B8)->zz2->Ot (List B8)|0,_,_,_=>none|n+1,a,b,c=>pIf (decide (a<(c.args.length:Int))) ((ix c.args a).bind λe=>(zd2 n e.re b).bind λd=>z8l n (IntKind.i64.wrap (a+1)) d c.re) (some b)
end
def yt0:LSh:=⟨[(4,(.own 0))],[(.acc 9 .str true)],0,69,[]⟩
noncomputable def zjq:FI dat:=FI.of dat 222 69 0 [dT 5,(.own 0)] [(.acc 9 .str true)] [(.own 0)] [(.acc 9 .str true)] false yt0 (R:=List B8) Prod.fst (·,()) (λn=>u2 (zd2 n)) (λn=>[(0,⟨⟨[(5,dI),(2,(.ptr 0 0)),(1,(.own 1))],[(.st 5),(.acc 9 .str true)],0,69,[]⟩,u3 (z5b n)⟩),(1,⟨⟨[(2,(.ptr 0 0)),(1,(.own 1)),(5,dI),(22,dB)],[(.st 5),(.acc 9 .str true)],0,69,[]⟩,u4 (z8v n)⟩),(2,⟨⟨[(2,(.ptr 0 0)),(5,dI),(1,(.own 1)),(37,dB)],[(.st 5),(.acc 9 .str true)],0,69,[]⟩,u4 (z8x n)⟩),(3,⟨⟨[(1,(.own 0)),(2,(.ptr 1 0))],[(.acc 9 .str true),(.st 5)],0,69,[]⟩,u2 (z5m n)⟩),(4,⟨⟨[(6,dI),(1,(.own 0)),(2,(.ptr 1 0))],[(.acc 9 .str true),(.st 5)],0,69,[]⟩,u3 (z8l n)⟩)]) (anb [(10,0),(14,1),(21,2),(29,3),(33,4)] f222)
noncomputable def yt1:List (FI dat):=[zjq]++[]
def ys1:(zjq).Good prog dat (tb yt1):=FI.z2i (hD:=kzd _) func222 ntmps222 call222 (by kernel_rfl) (Qac (by kernel_rfl)) (by kernel_rfl) (λn=>by kernel_rfl) (λx=>by kernel_rfl) (λ_=>rfl) ⟨λ_=>rfl,λ_=>rfl,λ_=>rfl,λ_=>rfl,λ_=>rfl,trivial⟩ (λ_ _=>tr (zd2.eq_2 ..)) (λn=>⟨λ_=>tr (z5b.eq_2 ..),λ_=>tr (z8v.eq_2 ..),λ_=>tr (z8x.eq_2 ..),λ_=>tr (z5m.eq_2 ..),λ_=>tr (z8l.eq_2 ..),trivial⟩) (λx=>.inr (by kernel_rfl))
def yt2:OkL prog [zjq]:=z98 (kzd _) (bs:=[]) trivial ⟨ys1,trivial⟩
def ykz:FOk prog zjq:=yt2.1
def ze1:Nat->zz2->Ot ((List B8)×Int)|0,_=>none|n+1,a=>(z2u n a.re).bind λe=>pIf (e != 0) ((z2u n a.re).bind λd=>some ([],d)) ((zd2 n a.re []).bind λb=>some (b,0))
def yms:LSh:=⟨[(2,dA),(3,dI)],[],0,11,[]⟩
noncomputable def y4x:FI dat:=FI.of dat 178 11 0 [dT 5] [] [dA,dI] [] true yms (R:=(List B8)×Int) (λx=>(x.1,x.2.1)) (λr=>(r.1,r.2,())) (λn=>u1 (ze1 n)) (λn=>[]) (anb [] f178)
def yj1:FOk prog y4x:=okF (bs:=[zjq,zma]) ⟨ykz,zpn,trivial⟩ func178 ntmps178 call178 (λ_ _=>tr (ze1.eq_2 ..)) (λn=>trivial)
mutual
def za6:Nat->zz2->(List B8)->Ot Bool|0,_,_=>none|n+1,a,b=>(ze1 n a.re).bind λd=>z52 n 0 d.1 b
def z52:Nat->Int->(List B8)->(List B8)->Ot Bool|0,_,_,_=>none|n+1,a,b,c=>pIf (decide (a<(b.length:Int))) ((ix b a).bind λe=>(zcu n c e).bind λd=>pIf (decide (d<0)) (some false) (z52 n (IntKind.i64.wrap (a+1)) b c)) (some true)
end
def yhg:LSh:=⟨[(4,dB)],[],0,26,[]⟩
noncomputable def y09:FI dat:=FI.of dat 119 26 0 [dT 5,dA] [] [dB] [] true yhg (R:=Bool) Prod.fst (·,()) (λn=>u2 (za6 n)) (λn=>[(0,⟨⟨[(7,dI),(5,dA),(1,dA)],[],0,26,[]⟩,u3 (z52 n)⟩)]) (anb [(8,0)] f119)
def ye4:FOk prog y09:=okF (bs:=[y4x,zqd]) ⟨yj1,zrc,trivial⟩ func119 ntmps119 call119 (λ_ _=>tr (za6.eq_2 ..)) (λn=>⟨λ_=>tr (z52.eq_2 ..),trivial⟩)
mutual
def zec:Nat->kz7->Ot kz9|0,_=>none|n+1,a=>z60 n 0 a.re [a.when_.re]
def z60:Nat->Int->kz7->kz9->Ot kz9|0,_,_,_=>none|n+1,a,b,c=>pIf (decide (a<(b.do_.length:Int))) ((ix b.do_ a).bind λe=>(ext c e.args).bind λd=>z6q n 0 a b.re d) (some c)
def z6q:Nat->Int->Int->kz7->kz9->Ot kz9|0,_,_,_,_=>none|n+1,a,b,c,d=>(ix c.do_ b).bind λi=>pIf (decide (a<(i.items.length:Int))) ((ix c.do_ b).bind λh=>(ix h.items a).bind λg=>(ext d g.args).bind λe=>z6q n (IntKind.i64.wrap (a+1)) b c.re e) (z60 n (IntKind.i64.wrap (b+1)) c.re d)
end
def ylu:LSh:=⟨[(2,dL 5)],[],0,48,[]⟩
noncomputable def y4v:FI dat:=FI.of dat 120 48 0 [dT 9] [] [dL 5] [] true ylu (R:=kz9) Prod.fst (·,()) (λn=>u1 (zec n)) (λn=>[(0,⟨⟨[(4,dI),(1,(.ptr 0 0)),(3,(.own 1))],[(.st 9),(.acc 29 (.st 5) true)],0,48,[]⟩,u3 (z60 n)⟩),(1,⟨⟨[(5,dI),(4,dI),(1,(.ptr 0 0)),(3,(.own 1))],[(.st 9),(.acc 29 (.st 5) true)],0,48,[]⟩,u4 (z6q n)⟩)]) (anb [(8,0),(22,1)] f120)
def yil:FOk prog y4v:=okF (bs:=[]) trivial func120 ntmps120 call120 (λ_ _=>tr (zec.eq_2 ..)) (λn=>⟨λ_=>tr (z60.eq_2 ..),λ_=>tr (z6q.eq_2 ..),trivial⟩)
mutual
def zdb:Nat->yz7->Ot zer|0,_=>none|n+1,a=>z7v n 0 [] a
def z7v:Nat->Int->zer->yz7->Ot zer|0,_,_,_=>none|n+1,a,b,c=>pIf (decide (a<(c.cases.length:Int))) (z5c n 0 a b c) (some b)
def z5c:Nat->Int->Int->zer->yz7->Ot zer|0,_,_,_,_=>none|n+1,a,b,c,d=>(ix d.cases b).bind λh=>pIf (decide (a<(h.do_.length:Int))) ((ix d.cases b).bind λg=>(ix g.do_ a).bind λe=>pIf (e.kind != 5) (z8d n b a (e.kind != 6) e d c) (z8d n b a false e d c)) (z7v n (IntKind.i64.wrap (b+1)) c d)
def z8d:Nat->Int->Int->Bool->zz4->yz7->zer->Ot zer|0,_,_,_,_,_,_=>none|n+1,a,b,c,d,e,f=>pIf c ((zey n d.kind).bind λg=>(ext f [(z4p.mk d.name (IntKind.i64.wrap ((d.args.length:Int)-g)))]).bind λh=>z8h n a b d h e) (z8h n a b d f e)
def z8h:Nat->Int->Int->zz4->zer->yz7->Ot zer|0,_,_,_,_,_=>none|n+1,a,b,c,d,e=>z7s n 0 a b c d e
def z7s:Nat->Int->Int->Int->zz4->zer->yz7->Ot zer|0,_,_,_,_,_,_=>none|n+1,a,b,c,d,e,f=>pIf (decide (a<(d.items.length:Int))) ((ix d.items a).bind λi=>(ix d.items a).bind λh=>(ext e [(z4p.mk i.name (IntKind.i64.wrap ((h.args.length:Int)-1)))]).bind λg=>z7s n (IntKind.i64.wrap (a+1)) b c d g f) (z5c n (IntKind.i64.wrap (c+1)) b e f)
end
def yr1:LSh:=⟨[(2,dL 14)],[],0,82,[]⟩
noncomputable def zw3:FI dat:=FI.of dat 56 82 0 [dT 10] [] [dL 14] [] true yr1 (R:=zer) Prod.fst (·,()) (λn=>u1 (zdb n)) (λn=>[(0,⟨⟨[(3,(.own 0)),(4,dI),(1,(.ptr 1 0))],[(.acc 106 (.st 14) true),(.st 10)],0,82,[]⟩,u3 (z7v n)⟩),(1,⟨⟨[(5,dI),(3,(.own 0)),(4,dI),(1,(.ptr 1 0))],[(.acc 106 (.st 14) true),(.st 10)],0,82,[]⟩,u4 (z5c n)⟩),(2,⟨⟨[(6,(.ptr 0 0)),(4,dI),(1,(.ptr 1 0)),(5,dI),(3,(.own 2)),(42,dB)],[(.st 8),(.st 10),(.acc 106 (.st 14) true)],0,82,[]⟩,u6 (z8d n)⟩),(3,⟨⟨[(6,(.ptr 0 0)),(3,(.own 1)),(4,dI),(1,(.ptr 2 0)),(5,dI)],[(.st 8),(.acc 106 (.st 14) true),(.st 10)],0,82,[]⟩,u5 (z8h n)⟩),(4,⟨⟨[(7,dI),(6,(.ptr 0 0)),(3,(.own 1)),(4,dI),(1,(.ptr 2 0)),(5,dI)],[(.st 8),(.acc 106 (.st 14) true),(.st 10)],0,82,[]⟩,u6 (z7s n)⟩)]) (anb [(8,0),(20,1),(34,2),(37,3),(40,4)] f56)
def y5z:FOk prog zw3:=okF (bs:=[y0d]) ⟨y9u,trivial⟩ func56 ntmps56 call56 (λ_ _=>tr (zdb.eq_2 ..)) (λn=>⟨λ_=>tr (z7v.eq_2 ..),λ_=>tr (z5c.eq_2 ..),λ_=>tr (z8d.eq_2 ..),λ_=>tr (z8h.eq_2 ..),λ_=>tr (z7s.eq_2 ..),trivial⟩)
mutual
def zdz:Nat->yz2->Ot Bool|0,_=>none|n+1,a=>(z9m n a).bind λb=>z6f n 0 b a
def z6f:Nat->Int->(List B8)->yz2->Ot Bool|0,_,_,_=>none|n+1,a,b,c=>pIf (decide (a<(c.attrs.length:Int))) ((ix c.attrs a).bind λg=>(sub b 0 a).bind λe=>(za6 n g.value.re e).bind λd=>pIf (!d) (some false) (z6f n (IntKind.i64.wrap (a+1)) b c)) (z47 n 0 b c)
def z47:Nat->Int->(List B8)->yz2->Ot Bool|0,_,_,_=>none|n+1,a,b,c=>pIf (decide (a<(c.rules.length:Int))) ((ix c.rules a).bind λd=>(ext [[115,120],[115,121],[115,122]] b).bind λg=>(ext g d.params).bind λe=>z3y n e 0 b a d c) (some true)
def z3y:Nat->(List B8)->Int->(List B8)->Int->yz7->yz2->Ot Bool|0,_,_,_,_,_,_=>none|n+1,a,b,c,d,e,f=>pIf (decide (b<(e.cases.length:Int))) ((ix e.cases b).bind λi=>(zec n i.re).bind λh=>z71 n 0 a h c d b e f) ((zdb n e).bind λg=>z44 n 0 g c d f)
def z71:Nat->Int->(List B8)->kz9->(List B8)->Int->Int->yz7->yz2->Ot Bool|0,_,_,_,_,_,_,_,_=>none|n+1,a,b,c,d,e,f,g,h=>pIf (decide (a<(c.length:Int))) ((ix c a).bind λj=>(za6 n j.re b).bind λi=>pIf (!i) (some false) (z71 n (IntKind.i64.wrap (a+1)) b c d e f g h)) (z3y n b (IntKind.i64.wrap (f+1)) d e g h)
def z44:Nat->Int->zer->(List B8)->Int->yz2->Ot Bool|0,_,_,_,_,_=>none|n+1,a,b,c,d,e=>pIf (decide (a<(b.length:Int))) ((z9o n e).bind λh=>(ix b a).bind λi=>(zcu n h i.name).bind λg=>pIf (decide (g<0)) (some false) (z44 n (IntKind.i64.wrap (a+1)) b c d e)) (z47 n (IntKind.i64.wrap (d+1)) c e)
end
def ylp:LSh:=⟨[(2,dB)],[],0,94,[]⟩
noncomputable def y5p:FI dat:=FI.of dat 55 94 0 [dT 11] [] [dB] [] true ylp (R:=Bool) Prod.fst (·,()) (λn=>u1 (zdz n)) (λn=>[(0,⟨⟨[(4,dI),(3,dA),(1,(.ptr 0 0))],[(.st 11)],0,94,[]⟩,u3 (z6f n)⟩),(1,⟨⟨[(1,(.ptr 0 0)),(5,dI),(3,dA)],[(.st 11)],0,94,[]⟩,u3 (z47 n)⟩),(2,⟨⟨[(7,dA),(8,dI),(6,(.ptr 0 0)),(1,(.ptr 1 0)),(3,dA),(5,dI)],[(.st 10),(.st 11)],0,94,[]⟩,u6 (z3y n)⟩),(3,⟨⟨[(10,dI),(7,dA),(9,dL 5),(6,(.ptr 0 0)),(1,(.ptr 1 0)),(3,dA),(5,dI),(8,dI)],[(.st 10),(.st 11)],0,94,[]⟩,u8 (z71 n)⟩),(4,⟨⟨[(12,dI),(11,dL 14),(1,(.ptr 0 0)),(3,dA),(5,dI)],[(.st 11)],0,94,[]⟩,u5 (z44 n)⟩)]) (anb [(8,0),(29,1),(46,2),(60,3),(83,4)] f55)
def yjc:FOk prog y5p:=okF (bs:=[zst,y09,y4v,zw3,zm5,zqd]) ⟨y1s,ye4,yil,y5z,zq5,zrc,trivial⟩ func55 ntmps55 call55 (λ_ _=>tr (zdz.eq_2 ..)) (λn=>⟨λ_=>tr (z6f.eq_2 ..),λ_=>tr (z47.eq_2 ..),λ_=>tr (z3y.eq_2 ..),λ_=>tr (z71.eq_2 ..),λ_=>tr (z44.eq_2 ..),trivial⟩)
mutual
def zdo:Nat->yz2->Ot Int|0,_=>none|n+1,a=>(zfb n a).bind λg=>pIf g (some 4) ((zcd n a).bind λe=>pIf (!e) (some 8) ((zba n a).bind λd=>pIf d (some 14) ((zdz n a).bind λb=>pIf (!b) (some 6) (z78 n 0 a))))
def z78:Nat->Int->yz2->Ot Int|0,_,_=>none|n+1,a,b=>pIf (decide (a<(b.rules.length:Int))) ((ix b.rules a).bind λe=>(zdb n e).bind λd=>z79 n 0 d a b) (some 0)
def z79:Nat->Int->zer->Int->yz2->Ot Int|0,_,_,_,_=>none|n+1,a,b,c,d=>pIf (decide (a<(b.length:Int))) ((ix b a).bind λj=>(z9o n d).bind λh=>(ix b a).bind λi=>(zcu n h i.name).bind λg=>(ix d.rules g).bind λe=>pIf (j.many != (e.params.length:Int)) (some 2) (z79 n (IntKind.i64.wrap (a+1)) b c d)) (z78 n (IntKind.i64.wrap (c+1)) d)
end
def yno:LSh:=⟨[(2,dI)],[],0,59,[]⟩
noncomputable def y5n:FI dat:=FI.of dat 24 59 0 [dT 11] [] [dI] [] true yno (R:=Int) Prod.fst (·,()) (λn=>u1 (zdo n)) (λn=>[(0,⟨⟨[(1,(.ptr 0 0)),(3,dI)],[(.st 11)],0,59,[]⟩,u2 (z78 n)⟩),(1,⟨⟨[(5,dI),(4,dL 14),(1,(.ptr 0 0)),(3,dI)],[(.st 11)],0,59,[]⟩,u4 (z79 n)⟩)]) (anb [(33,0),(47,1)] f24)
def yjr:FOk prog y5n:=okF (bs:=[y7t,y1e,zxn,y5p,zw3,zm5,zqd]) ⟨yl8,yfb,ycb,yjc,y5z,zq5,zrc,trivial⟩ func24 ntmps24 call24 (λ_ _=>tr (zdo.eq_2 ..)) (λn=>⟨λ_=>tr (z78.eq_2 ..),λ_=>tr (z79.eq_2 ..),trivial⟩)
def z4d:Nat->yz2->Ot Bool|0,_=>none|n+1,a=>(zdq n a).bind λd=>pIf (!d) ((zdo n a).bind λb=>some (b==0)) (some false)
def y24:LSh:=⟨[(2,dB)],[],0,11,[]⟩
noncomputable def zmp:FI dat:=FI.of dat 17 11 0 [dT 11] [] [dB] [] true y24 (R:=Bool) Prod.fst (·,()) (λn=>u1 (z4d n)) (λn=>[]) (anb [] f17)
def zy6:FOk prog zmp:=okF (bs:=[y50,y5n]) ⟨ygj,yjr,trivial⟩ func17 ntmps17 call17 (λ_ _=>tr (z4d.eq_2 ..)) (λn=>trivial)
mutual
def z5y:Nat->zz2->zz2->Ot Bool|0,_,_=>none|n+1,a,b=>pIf (a.op==b.op) (pIf (a.name==b.name) ((z4f n a.value.re b.value.re).bind λe=>pIf e ((kz6 n a.args b.args).bind λd=>some d) (some false)) (some false)) (some false)
def kz6:Nat->kz9->kz9->Ot Bool|0,_,_=>none|n+1,a,b=>pIf ((a.length:Int) != (b.length:Int)) (some false) (kz5 n 0 b a (a.length:Int))
def kz5:Nat->Int->kz9->kz9->Int->Ot Bool|0,_,_,_,_=>none|n+1,a,b,c,d=>pIf (decide (a<d)) ((ix c a).bind λh=>(ix b a).bind λg=>(z5y n h.re g.re).bind λe=>pIf (!e) (some false) (kz5 n (IntKind.i64.wrap (a+1)) b c d)) (some true)
end
def ywi:LSh:=⟨[(4,dB)],[],0,31,[]⟩
noncomputable def zj8:FI dat:=FI.of dat 80 31 0 [dT 5,dT 5] [] [dB] [] true ywi (R:=Bool) Prod.fst (·,()) (λn=>u2 (z5y n)) (λn=>[]) (anb [] f80)
def zaa:LSh:=⟨[(6,dB)],[],0,32,[]⟩
noncomputable def zzb:FI dat:=FI.of dat 144 32 0 [dL 5,dL 5,(.fn 80 [] [])] [] [dB] [] true zaa (R:=Bool) Prod.fst (·,()) (λn=>u2 (kz6 n)) (λn=>[(0,⟨⟨[(17,dI),(2,(.fn 80 [] [])),(1,dL 5),(15,dL 5),(16,dI)],[],0,32,[]⟩,u4 (kz5 n)⟩)]) (anb [(14,0)] f144)
noncomputable def yd1:List (FI dat):=[zj8,zzb]++[zcw]
def yvj:(zj8).Good prog dat (tb yd1):=FI.z2i (hD:=kzd _) func80 ntmps80 call80 (by kernel_rfl) (Qac (by kernel_rfl)) (by kernel_rfl) (λn=>by kernel_rfl) (λx=>by kernel_rfl) (λ_=>rfl) trivial (λ_ _=>tr (z5y.eq_2 ..)) (λn=>trivial) (λx=>.inl rfl)
def zaf:(zzb).Good prog dat (tb yd1):=FI.z2i (hD:=kzd _) func144 ntmps144 call144 (by kernel_rfl) (Qac (by kernel_rfl)) (by kernel_rfl) (λn=>by kernel_rfl) (λx=>by kernel_rfl) (λ_=>rfl) ⟨λ_=>rfl,trivial⟩ (λ_ _=>tr (kz6.eq_2 ..)) (λn=>⟨λ_=>tr (kz5.eq_2 ..),trivial⟩) (λx=>.inl rfl)
def ycj:OkL prog [zj8,zzb]:=z98 (kzd _) (bs:=[zcw]) ⟨y5r,trivial⟩ ⟨yvj,zaf,trivial⟩
def y87:FOk prog zj8:=ycj.1
def z9s:FOk prog zzb:=ycj.2.1
def zai:Nat->yzl->yzl->Ot Bool|0,_,_=>none|n+1,a,b=>pIf (a.name==b.name) ((z5y n a.value.re b.value.re).bind λd=>some d) (some false)
def yj6:LSh:=⟨[(4,dB)],[],0,17,[]⟩
noncomputable def zy7:FI dat:=FI.of dat 79 17 0 [dT 6,dT 6] [] [dB] [] true yj6 (R:=Bool) Prod.fst (·,()) (λn=>u2 (zai n)) (λn=>[]) (anb [] f79)
def yfg:FOk prog zy7:=okF (bs:=[zj8]) ⟨y87,trivial⟩ func79 ntmps79 call79 (λ_ _=>tr (zai.eq_2 ..)) (λn=>trivial)
mutual
def zzi:Nat->z2f->z2f->Ot Bool|0,_,_=>none|n+1,a,b=>pIf ((a.length:Int) != (b.length:Int)) (some false) (yz9 n 0 b a (a.length:Int))
def yz9:Nat->Int->z2f->z2f->Int->Ot Bool|0,_,_,_,_=>none|n+1,a,b,c,d=>pIf (decide (a<d)) ((ix c a).bind λh=>(ix b a).bind λg=>(zai n h.re g.re).bind λe=>pIf (!e) (some false) (yz9 n (IntKind.i64.wrap (a+1)) b c d)) (some true)
end
def zab:LSh:=⟨[(6,dB)],[],0,32,[]⟩
noncomputable def z1n:FI dat:=FI.of dat 78 32 0 [dL 6,dL 6,(.fn 79 [] [])] [] [dB] [] true zab (R:=Bool) Prod.fst (·,()) (λn=>u2 (zzi n)) (λn=>[(0,⟨⟨[(17,dI),(2,(.fn 79 [] [])),(1,dL 6),(15,dL 6),(16,dI)],[],0,32,[]⟩,u4 (yz9 n)⟩)]) (anb [(14,0)] f78)
def z9r:FOk prog z1n:=okF (bs:=[zy7]) ⟨yfg,trivial⟩ func78 ntmps78 call78 (λ_ _=>tr (zzi.eq_2 ..)) (λn=>⟨λ_=>tr (yz9.eq_2 ..),trivial⟩)
mutual
def z15:Nat->(List B8)->(List B8)->Ot Bool|0,_,_=>none|n+1,a,b=>pIf ((a.length:Int) != (b.length:Int)) (some false) (z0d n 0 b a (a.length:Int))
def z0d:Nat->Int->(List B8)->(List B8)->Int->Ot Bool|0,_,_,_,_=>none|n+1,a,b,c,d=>pIf (decide (a<d)) ((ix c a).bind λg=>(ix b a).bind λe=>pIf (!(g==e)) (some false) (z0d n (IntKind.i64.wrap (a+1)) b c d)) (some true)
end
def znb:LSh:=⟨[(4,dB)],[],0,26,[]⟩
noncomputable def zf8:FI dat:=FI.of dat 83 26 0 [dA,dA] [] [dB] [] true znb (R:=Bool) Prod.fst (·,()) (λn=>u2 (z15 n)) (λn=>[(0,⟨⟨[(13,dI),(1,dA),(0,dA),(12,dI)],[],0,26,[]⟩,u4 (z0d n)⟩)]) (anb [(14,0)] f83)
def zmz:FOk prog zf8:=okF (bs:=[]) trivial func83 ntmps83 call83 (λ_ _=>tr (z15.eq_2 ..)) (λn=>⟨λ_=>tr (z0d.eq_2 ..),trivial⟩)
def z6a:Nat->kz9->kz9->Ot Bool|0,_,_=>none|n+1,a,b=>(kz6 n a b).bind λd=>some d
def ybf:LSh:=⟨[(4,dB)],[],0,8,[]⟩
noncomputable def zlt:FI dat:=FI.of dat 191 8 0 [dL 5,dL 5] [] [dB] [] true ybf (R:=Bool) Prod.fst (·,()) (λn=>u2 (z6a n)) (λn=>[]) (anb [] f191)
def zrh:FOk prog zlt:=okF (bs:=[zzb]) ⟨z9s,trivial⟩ func191 ntmps191 call191 (λ_ _=>tr (z6a.eq_2 ..)) (λn=>trivial)
def z56:Nat->yzq->yzq->Ot Bool|0,_,_=>none|n+1,a,b=>pIf (a.kind==b.kind) (pIf (a.name==b.name) ((z6a n a.args b.args).bind λd=>some d) (some false)) (some false)
def y9v:LSh:=⟨[(4,dB)],[],0,24,[]⟩
noncomputable def zqx:FI dat:=FI.of dat 193 24 0 [dT 7,dT 7] [] [dB] [] true y9v (R:=Bool) Prod.fst (·,()) (λn=>u2 (z56 n)) (λn=>[]) (anb [] f193)
def y78:FOk prog zqx:=okF (bs:=[zlt]) ⟨zrh,trivial⟩ func193 ntmps193 call193 (λ_ _=>tr (z56.eq_2 ..)) (λn=>trivial)
mutual
def yzi:Nat->zm8->zm8->Ot Bool|0,_,_=>none|n+1,a,b=>pIf ((a.length:Int) != (b.length:Int)) (some false) (yz8 n 0 b a (a.length:Int))
def yz8:Nat->Int->zm8->zm8->Int->Ot Bool|0,_,_,_,_=>none|n+1,a,b,c,d=>pIf (decide (a<d)) ((ix c a).bind λh=>(ix b a).bind λg=>(z56 n h g).bind λe=>pIf (!e) (some false) (yz8 n (IntKind.i64.wrap (a+1)) b c d)) (some true)
end
def za7:LSh:=⟨[(6,dB)],[],0,32,[]⟩
noncomputable def z1m:FI dat:=FI.of dat 192 32 0 [dL 7,dL 7,(.fn 193 [] [])] [] [dB] [] true za7 (R:=Bool) Prod.fst (·,()) (λn=>u2 (yzi n)) (λn=>[(0,⟨⟨[(17,dI),(2,(.fn 193 [] [])),(1,dL 7),(15,dL 7),(16,dI)],[],0,32,[]⟩,u4 (yz8 n)⟩)]) (anb [(14,0)] f192)
def z9t:FOk prog z1m:=okF (bs:=[zqx]) ⟨y78,trivial⟩ func192 ntmps192 call192 (λ_ _=>tr (yzi.eq_2 ..)) (λn=>⟨λ_=>tr (yz8.eq_2 ..),trivial⟩)
def z34:Nat->zz4->zz4->Ot Bool|0,_,_=>none|n+1,a,b=>pIf (a.kind==b.kind) (pIf (a.axis==b.axis) (pIf (a.name==b.name) ((z6a n a.args b.args).bind λe=>pIf e ((yzi n a.items b.items).bind λd=>some d) (some false)) (some false)) (some false)) (some false)
def y4g:LSh:=⟨[(4,dB)],[],0,38,[]⟩
noncomputable def znt:FI dat:=FI.of dat 146 38 0 [dT 8,dT 8] [] [dB] [] true y4g (R:=Bool) Prod.fst (·,()) (λn=>u2 (z34 n)) (λn=>[]) (anb [] f146)
def y2e:FOk prog znt:=okF (bs:=[zlt,z1m]) ⟨zrh,z9t,trivial⟩ func146 ntmps146 call146 (λ_ _=>tr (z34.eq_2 ..)) (λn=>trivial)
mutual
def kzb:Nat->z9z->z9z->Ot Bool|0,_,_=>none|n+1,a,b=>pIf ((a.length:Int) != (b.length:Int)) (some false) (zz6 n 0 b a (a.length:Int))
def zz6:Nat->Int->z9z->z9z->Int->Ot Bool|0,_,_,_,_=>none|n+1,a,b,c,d=>pIf (decide (a<d)) ((ix c a).bind λh=>(ix b a).bind λg=>(z34 n h g).bind λe=>pIf (!e) (some false) (zz6 n (IntKind.i64.wrap (a+1)) b c d)) (some true)
end
def z66:LSh:=⟨[(6,dB)],[],0,32,[]⟩
noncomputable def z07:FI dat:=FI.of dat 145 32 0 [dL 8,dL 8,(.fn 146 [] [])] [] [dB] [] true z66 (R:=Bool) Prod.fst (·,()) (λn=>u2 (kzb n)) (λn=>[(0,⟨⟨[(17,dI),(2,(.fn 146 [] [])),(1,dL 8),(15,dL 8),(16,dI)],[],0,32,[]⟩,u4 (zz6 n)⟩)]) (anb [(14,0)] f145)
def z5u:FOk prog z07:=okF (bs:=[znt]) ⟨y2e,trivial⟩ func145 ntmps145 call145 (λ_ _=>tr (kzb.eq_2 ..)) (λn=>⟨λ_=>tr (zz6.eq_2 ..),trivial⟩)
def z55:Nat->kz7->kz7->Ot Bool|0,_,_=>none|n+1,a,b=>pIf (a.weight==b.weight) ((z5y n a.when_.re b.when_.re).bind λe=>pIf e ((kzb n a.do_ b.do_).bind λd=>some d) (some false)) (some false)
def y8e:LSh:=⟨[(4,dB)],[],0,24,[]⟩
noncomputable def zsh:FI dat:=FI.of dat 85 24 0 [dT 9,dT 9] [] [dB] [] true y8e (R:=Bool) Prod.fst (·,()) (λn=>u2 (z55 n)) (λn=>[]) (anb [] f85)
def y66:FOk prog zsh:=okF (bs:=[zj8,z07]) ⟨y87,z5u,trivial⟩ func85 ntmps85 call85 (λ_ _=>tr (z55.eq_2 ..)) (λn=>trivial)
mutual
def yzh:Nat->z4m->z4m->Ot Bool|0,_,_=>none|n+1,a,b=>pIf ((a.length:Int) != (b.length:Int)) (some false) (kz8 n 0 b a (a.length:Int))
def kz8:Nat->Int->z4m->z4m->Int->Ot Bool|0,_,_,_,_=>none|n+1,a,b,c,d=>pIf (decide (a<d)) ((ix c a).bind λh=>(ix b a).bind λg=>(z55 n h.re g.re).bind λe=>pIf (!e) (some false) (kz8 n (IntKind.i64.wrap (a+1)) b c d)) (some true)
end
def zam:LSh:=⟨[(6,dB)],[],0,32,[]⟩
noncomputable def z1r:FI dat:=FI.of dat 84 32 0 [dL 9,dL 9,(.fn 85 [] [])] [] [dB] [] true zam (R:=Bool) Prod.fst (·,()) (λn=>u2 (yzh n)) (λn=>[(0,⟨⟨[(17,dI),(2,(.fn 85 [] [])),(1,dL 9),(15,dL 9),(16,dI)],[],0,32,[]⟩,u4 (kz8 n)⟩)]) (anb [(14,0)] f84)
def z9u:FOk prog z1r:=okF (bs:=[zsh]) ⟨y66,trivial⟩ func84 ntmps84 call84 (λ_ _=>tr (yzh.eq_2 ..)) (λn=>⟨λ_=>tr (kz8.eq_2 ..),trivial⟩)
def za3:Nat->yz7->yz7->Ot Bool|0,_,_=>none|n+1,a,b=>pIf (a.name==b.name) ((z15 n a.params b.params).bind λe=>pIf e ((yzh n a.cases b.cases).bind λd=>some d) (some false)) (some false)
def yip:LSh:=⟨[(4,dB)],[],0,24,[]⟩
noncomputable def y1v:FI dat:=FI.of dat 82 24 0 [dT 10,dT 10] [] [dB] [] true yip (R:=Bool) Prod.fst (·,()) (λn=>u2 (za3 n)) (λn=>[]) (anb [] f82)
def yf6:FOk prog y1v:=okF (bs:=[zf8,z1r]) ⟨zmz,z9u,trivial⟩ func82 ntmps82 call82 (λ_ _=>tr (za3.eq_2 ..)) (λn=>trivial)
mutual
def kzh:Nat->zzl->zzl->Ot Bool|0,_,_=>none|n+1,a,b=>pIf ((a.length:Int) != (b.length:Int)) (some false) (zz9 n 0 b a (a.length:Int))
def zz9:Nat->Int->zzl->zzl->Int->Ot Bool|0,_,_,_,_=>none|n+1,a,b,c,d=>pIf (decide (a<d)) ((ix c a).bind λh=>(ix b a).bind λg=>(za3 n h g).bind λe=>pIf (!e) (some false) (zz9 n (IntKind.i64.wrap (a+1)) b c d)) (some true)
end
def za4:LSh:=⟨[(6,dB)],[],0,32,[]⟩
noncomputable def z1q:FI dat:=FI.of dat 81 32 0 [dL 10,dL 10,(.fn 82 [] [])] [] [dB] [] true za4 (R:=Bool) Prod.fst (·,()) (λn=>u2 (kzh n)) (λn=>[(0,⟨⟨[(17,dI),(2,(.fn 82 [] [])),(1,dL 10),(15,dL 10),(16,dI)],[],0,32,[]⟩,u4 (zz9 n)⟩)]) (anb [(14,0)] f81)
def z9v:FOk prog z1q:=okF (bs:=[y1v]) ⟨yf6,trivial⟩ func81 ntmps81 call81 (λ_ _=>tr (kzh.eq_2 ..)) (λn=>⟨λ_=>tr (zz9.eq_2 ..),trivial⟩)
def zfl:Nat->yz2->yz2->Ot Bool|0,_,_=>none|n+1,a,b=>(zzi n a.attrs b.attrs).bind λe=>pIf e ((kzh n a.rules b.rules).bind λd=>some d) (some false)
def yqh:LSh:=⟨[(4,dB)],[],0,17,[]⟩
noncomputable def y9n:FI dat:=FI.of dat 31 17 0 [dT 11,dT 11] [] [dB] [] true yqh (R:=Bool) Prod.fst (·,()) (λn=>u2 (zfl n)) (λn=>[]) (anb [] f31)
def ym6:FOk prog y9n:=okF (bs:=[z1n,z1q]) ⟨z9r,z9v,trivial⟩ func31 ntmps31 call31 (λ_ _=>tr (zfl.eq_2 ..)) (λn=>trivial)
noncomputable def kzs:Nat->yz2->Ot Bool
 |0,_=>none
 |n+1,a=>
  (z4d n a).bind λj=>
  pIf (!j)
   ((z0p n).bind λi=>
   some i)
   ((zb3 n a).bind λb=>
   pIf (b.2 != 0)
    (pIf (b.2==4)
      ((z0p n).bind λh=>
      some h)
      (some false))
    ((zbk n b.1).bind λd=>
    pIf (d.2==0)
     ((zfl n a d.1).bind λg=>
     pIf g
      ((z0p n).bind λe=>
      some e)
      (some false))
     (some false)))
def ztd:LSh:=⟨[(2,dB)],[],0,38,[]⟩
noncomputable def zti:FI dat:=FI.of dat 8 38 0 [dT 11] [] [dB] [] true ztd (R:=Bool) Prod.fst (·,()) (λn=>u1 (kzs n)) (λn=>[]) (anb [] f8)
def zqq:FOk prog zti:=okF (bs:=[zmp,zmg,zkv,zi4,y9n]) ⟨zy6,zxw,zsu,y0i,ym6,trivial⟩ func8 ntmps8 call8 (λn=>λ_=>tr (kzs.eq_2 _ n)) (λn=>trivial)
def zqm(a:yz2):VRL dat [] 0 [dat.tv (.st 11) a] [dat.el (.st 11) a]:=by
 simp only[VRL];exact⟨_,_,rfl,VR.tv (kzd prog) (DR.el _ _),rfl⟩
def zn3(n:Nat)(a:yz2)(r:Bool)(h:kzs n a=some r):zrw prog 8 [dat.el (.st 11) a] (.bool r):=by
 have⟨y,g,_,_,_,e⟩:=zqq n _ (a,()) (λy=>some y.1) (λ_=>none) r (by show(kzs n a).bind (λr=>some r)=some r;rw[h];rfl);have⟨vs,d,b⟩:=e 0 [dat.el (.st 11) a] (zqm a);cases g;have:=d [] 0;replace this:VRL dat [] 0 [TV.bool y.1] vs:=this;simp only[VRL,VR]at this;obtain⟨v,r,rfl,rfl,rfl⟩:=this;exact b
def z055(m):z0p (m+300)=some true:=by kernel_rfl
def z08k:Ev (λn=>z0p n) true:=⟨300,λk a=>by
 obtain⟨m,rfl⟩:=Nat.exists_eq_add_of_le' a
 exact z055 m⟩
end Go.Proofs.YthphaiccgnkobaaGreatDoor
namespace Go.Proofs.Tryz
open Go Go.Ab
open Go.Proofs.Tryz
@[simp] def yw5:Program.cellsOf prog 2=1:=by kernel_rfl
@[simp] def z0b7:Program.cellsOf prog 3=1:=by kernel_rfl
@[simp] def z08n:Program.cellsOf prog 4=1:=by kernel_rfl
@[simp] def zy9:Program.cellsOf prog 5=1:=by kernel_rfl
@[simp] def zp9:Program.cellsOf prog 9=1:=by kernel_rfl
@[simp] def you:Program.cellsOf prog 23=2:=by kernel_rfl
@[simp] def z045:Program.cellsOf prog 24=1:=by kernel_rfl
@[simp] def yc8:Program.cellsOf prog 26=6:=by kernel_rfl
@[simp] def ya8:Program.cellsOf prog 27=1:=by kernel_rfl
@[simp] def zom:Program.cellsOf prog 29=9:=by kernel_rfl
@[simp] def z05y:Program.cellsOf prog 33=1:=by kernel_rfl
@[simp] def z04m:Program.cellsOf prog 34=1:=by kernel_rfl
@[simp] def z04t:Program.cellsOf prog 36=2:=by kernel_rfl
@[simp] def z06h:Program.cellsOf prog 38=1:=by kernel_rfl
@[simp] def ypc:Program.cellsOf prog 40=5:=by kernel_rfl
@[simp] def yoq:Program.cellsOf prog 43=3:=by kernel_rfl
@[simp] def z06a:Program.cellsOf prog 44=1:=by kernel_rfl
@[simp] def z05t:Program.cellsOf prog 45=1:=by kernel_rfl
@[simp] def yow:Program.cellsOf prog 47=3:=by kernel_rfl
@[simp] def ypu:Program.cellsOf prog 49=10:=by kernel_rfl
@[simp] def z054:Program.cellsOf prog 55=1:=by kernel_rfl
@[simp] def yoz:Program.cellsOf prog 57=11:=by kernel_rfl
def z0cg(n):Reads prog n 23 yz4.ty:=(zb1 underlying23 you (λm a=>(kzf rfl yw5 (ziz underlying2 m) (kzf rfl yw5 (ziz underlying2 m) zf0)))).conv (λx=>(⟨x.1,x.2.1⟩:yz4)) (λx=>by show yz4.el _=_;rw[yz4.zzg];simp[Ty.struct,Ty.pair,Ty.unit,Ty.int,V.cells]) rfl (λx h=>by simp_all[yz4.ty,yz4.z5s,Ty.struct,Ty.pair,Ty.int]) (λx=>by simp_all[Ty.struct,Ty.pair,Ty.unit,Ty.int,yz4.ty,yz4.size_eq])
def z0co:∀n,Reads prog n 26 kz1.ty:=λn=>by
 induction n using Nat.strongRecOn with
 |ind n a=>exact(zb1 underlying26 yc8 (λm b=>(kzf rfl zy9 (ziz underlying5 m) (kzf rfl you (z0cg m) (kzf rfl z08n (z029 underlying4 m) (kzf rfl zp9 (zlk underlying9 m) (kzf rfl z045 (zb7 underlying24 yc8 (by decide) (λk d=>(a k (by omega)))) zf0))))))).conv (λx=>(⟨x.1,x.2.1,x.2.2.1,x.2.2.2.1,x.2.2.2.2.1⟩:kz1)) (λx=>by show kz1.el _=_;rw[kz1.zzg];simp[Ty.struct,Ty.pair,Ty.unit,Ty.int,Ty.bool,Ty.str,Ty.slice,V.cells,yz4.ty,yz4.zzg,kz1.ty]) rfl (λx h=>by simp[kz1.ty];rw[kz1.z5s];simp[Ty.struct,Ty.pair,Ty.unit,Ty.int,Ty.bool,Ty.str,Ty.slice,yz4.ty,kz1.ty]at h ⊢;simpa using h) (λx=>by simp[Ty.struct,Ty.pair,Ty.int,Ty.bool,Ty.str,Ty.slice,yz4.ty,kz1.ty];grind[kz1.size_eq])
def yfo:∀n,Reads prog n 29 zz2.ty:=λn=>by
 induction n using Nat.strongRecOn with
 |ind n a=>exact(zb1 underlying29 zom (λm b=>(kzf rfl zy9 (ziz underlying5 m) (kzf rfl yc8 (z0co m) (kzf rfl zp9 (zlk underlying9 m) (kzf rfl ya8 (zb7 underlying27 zom (by decide) (λk d=>(a k (by omega)))) zf0)))))).conv (λx=>(⟨x.1,x.2.1,x.2.2.1,x.2.2.2.1⟩:zz2)) (λx=>by show zz2.el _=_;rw[zz2.zzg];simp[Ty.struct,Ty.pair,Ty.unit,Ty.int,Ty.str,Ty.slice,V.cells,kz1.ty,kz1.zzg,zz2.ty]) rfl (λx h=>by simp[zz2.ty];rw[zz2.z5s];simp[Ty.struct,Ty.pair,Ty.unit,Ty.int,Ty.str,Ty.slice,kz1.ty,zz2.ty]at h ⊢;simpa using h) (λx=>by simp[Ty.struct,Ty.pair,Ty.int,Ty.str,Ty.slice,kz1.ty,zz2.ty];grind[zz2.size_eq])
def z0df(n):Reads prog n 49 yzl.ty:=(zb1 underlying49 ypu (λm a=>(kzf rfl zp9 (zlk underlying9 m) (kzf rfl zom (yfo m) zf0)))).conv (λx=>(⟨x.1,x.2.1⟩:yzl)) (λx=>by show yzl.el _=_;simp_all[yzl.zzg,Ty.struct,Ty.pair,Ty.unit,Ty.str,V.cells,zz2.ty,zz2.zzg]) rfl (λx h=>by simp_all[yzl.ty,yzl.z5s,Ty.struct,Ty.pair,zz2.ty]) (λx=>by simp_all[Ty.struct,Ty.pair,Ty.str,zz2.ty,yzl.ty,yzl.size_eq])
def z0d5(n):Reads prog n 43 yzq.ty:=(zb1 underlying43 yoq (λm a=>(kzf rfl zy9 (ziz underlying5 m) (kzf rfl zp9 (zlk underlying9 m) (kzf rfl ya8 (zb7 underlying27 zom (by decide) (λk b=>(yfo k))) zf0))))).conv (λx=>(⟨x.1,x.2.1,x.2.2.1⟩:yzq)) (λx=>by show yzq.el _=_;rw[yzq.zzg];simp[Ty.struct,Ty.pair,Ty.unit,Ty.int,Ty.str,Ty.slice,V.cells,zz2.ty]) rfl (λx h=>by simp[yzq.ty];rw[yzq.z5s];simp[Ty.struct,Ty.pair,Ty.unit,Ty.int,Ty.str,Ty.slice,zz2.ty]at h ⊢;simpa using h) (λx=>by simp[Ty.struct,Ty.pair,Ty.int,Ty.str,Ty.slice,zz2.ty,yzq.ty];grind[yzq.size_eq])
def z0d0(n):Reads prog n 40 zz4.ty:=(zb1 underlying40 ypc (λm b=>(kzf rfl zy9 (ziz underlying5 m) (kzf rfl zy9 (ziz underlying5 m) (kzf rfl zp9 (zlk underlying9 m) (kzf rfl ya8 (zb7 underlying27 zom (by decide) (λk a=>(yfo k))) (kzf rfl z06h (zb7 underlying38 yoq (by decide) (λk a=>(z0d5 k))) zf0))))))).conv (λx=>(⟨x.1,x.2.1,x.2.2.1,x.2.2.2.1,x.2.2.2.2.1⟩:zz4)) (λx=>by show zz4.el _=_;rw[zz4.zzg];simp[Ty.struct,Ty.pair,Ty.unit,Ty.int,Ty.str,Ty.slice,V.cells,zz2.ty,yzq.ty]) rfl (λx h=>by simp[zz4.ty];rw[zz4.z5s];simp[Ty.struct,Ty.pair,Ty.unit,Ty.int,Ty.str,Ty.slice,zz2.ty,yzq.ty]at h ⊢;simpa using h) (λx=>by simp[Ty.struct,Ty.pair,Ty.int,Ty.str,Ty.slice,zz2.ty,yzq.ty,zz4.ty];grind[zz4.size_eq])
def z0d8(n):Reads prog n 57 kz7.ty:=(zb1 underlying57 yoz (λm a=>(kzf rfl z0b7 (ziz underlying3 m) (kzf rfl zom (yfo m) (kzf rfl z054 (zb7 underlying55 ypc (by decide) (λk b=>(z0d0 k))) zf0))))).conv (λx=>(⟨x.1,x.2.1,x.2.2.1⟩:kz7)) (λx=>by show kz7.el _=_;rw[kz7.zzg];simp[Ty.struct,Ty.pair,Ty.unit,Ty.int,Ty.slice,V.cells,zz2.ty,zz2.zzg,zz4.ty]) rfl (λx h=>by simp[kz7.ty];rw[kz7.z5s];simp[Ty.struct,Ty.pair,Ty.unit,Ty.int,Ty.slice,zz2.ty,zz4.ty]at h ⊢;simpa using h) (λx=>by simp[Ty.struct,Ty.pair,Ty.int,Ty.slice,zz2.ty,zz4.ty,kz7.ty];grind[kz7.size_eq])
def z0ct(n):Reads prog n 47 yz7.ty:=(zb1 underlying47 yow (λm b=>(kzf rfl zp9 (zlk underlying9 m) (kzf rfl z06a (zb7 underlying44 zp9 (by decide) (λk a=>(zlk underlying9 k))) (kzf rfl z05t (zb7 underlying45 yoz (by decide) (λk a=>(z0d8 k))) zf0))))).conv (λx=>(⟨x.1,x.2.1,x.2.2.1⟩:yz7)) (λx=>by show yz7.el _=_;rw[yz7.zzg];simp[Ty.struct,Ty.pair,Ty.unit,Ty.str,Ty.slice,V.cells,kz7.ty]) rfl (λx h=>by simp[yz7.ty];rw[yz7.z5s];simp[Ty.struct,Ty.pair,Ty.unit,Ty.str,Ty.slice,kz7.ty]at h ⊢;simpa using h) (λx=>by simp[Ty.struct,Ty.pair,Ty.str,Ty.slice,kz7.ty,yz7.ty];grind[yz7.size_eq])
def z0cl(n):Reads prog n 36 yz2.ty:=(zb1 underlying36 z04t (λm b=>(kzf rfl z05y (zb7 underlying33 ypu (by decide) (λk a=>(z0df k))) (kzf rfl z04m (zb7 underlying34 yow (by decide) (λk a=>(z0ct k))) zf0)))).conv (λx=>(⟨x.1,x.2.1⟩:yz2)) (λx=>by show yz2.el _=_;rw[yz2.zzg];simp[Ty.struct,Ty.pair,Ty.unit,Ty.slice,V.cells,yzl.ty,yz7.ty]) rfl (λx h=>by simp_all[yz2.ty,yz2.z5s,Ty.struct,Ty.pair,Ty.slice,yzl.ty,yz7.ty]) (λx=>by simp[Ty.struct,Ty.pair,Ty.slice,yzl.ty,yz7.ty,yz2.ty];grind[yz2.size_eq])
def arg36:z0e4 prog 36 yz2.ty:=z01k underlying36 z0cl yz2.zkx
end Go.Proofs.Tryz
namespace Go.Proofs.YthphaiccgnkobaaGreatDoor
open Go Go.Ab Go.ChangeShapes Go.WideShapes Go.ChangeAt Go.RowKit
open Go.Proofs.Tryz
abbrev z085:List (String×DataW Unit):=Rows.rulesReachUptoRow.laid
def z030{W:World}{name:String}{k:IntKind}{g:Nat}{cs:List (IntKind×Int)}(a:cs.map (λp=>Value.int p.1 p.2)=(cs.map Prod.snd).map λz=>Value.int k z)(d:prog.globalNamed name=some g)
  (h:Lib.TabIs prog W name k (cs.map Prod.snd)):¬Go.Ab.Own g0 H0 g∧∃ty q,W.heap[g]? = some (.cells (cs.map λp=>Value.int p.1 p.2).toArray ty q):=by
 refine⟨own0 _ _,?_⟩;unfold Lib.TabIs World.var? at h;rw[d]at h;simp only[Option.bind_some]at h;split at h;rename_i e ty q b;injection h with h;rw[a];exact⟨ty,q,by rw[b,h]⟩;cases h
def z03d{W:World}{n:String}{g:Nat}{tp:Nat}{a:Addr}(e:prog.globalNamed n=some g)(h:W.var? prog n=some #[.iface tp (.pointer (some a))]) :
  ¬Go.Ab.Own g0 H0 g∧∃v ty q,W.heap[g]? = some (.cells #[v] ty q)∧(v = .nilIface∨∃te b,v = .iface te b):=by
 refine⟨own0 _ _,?_⟩;unfold World.var? at h;rw[e]at h;simp only[Option.bind_some]at h;split at h;rename_i cs ty q d;injection h with h;exact⟨_,ty,q,by rw[d,h],.inr ⟨_,_,rfl⟩⟩;cases h
set_option maxRecDepth 100000 in
def globI{W:World}(b:laidMet prog z085 W):z0e6 W g0 H0:=λk cs a=>by
 unfold gl at a;split at a;cases a;exact z030 (cs:=gl0) (k:=.u8) (name := "strings.asciiSpace") (by kernel_rfl) (by kernel_rfl) (Lib.tabIs_of_head (g:=0) (by kernel_rfl) (by kernel_rfl) underlying213 underlying5 (by kernel_rfl) (by kernel_rfl) b.tail.tail.tail.tail.tail.tail.tail);cases a
 exact z030 (cs:=gl5) (k:=.u64) (name := "internal/strconv.uint64pow10") (by kernel_rfl) (by kernel_rfl) (Lib.tabIs_of_head (g:=5) (by kernel_rfl) (by kernel_rfl) underlying288 underlying205 (by kernel_rfl) (by kernel_rfl) b.tail.tail);cases a
set_option maxRecDepth 100000 in
def globE{W:World}(e:laidMet prog z085 W):z0ec W g0 H0:=λk d=>by
 unfold gle at d;split at d
 have⟨a,s,b,_⟩:=laid_sentinel (g:=3) (ti:=113) (tp:=310) (te:=312) (ts:=9) e.tail.tail.tail.tail.tail (by kernel_rfl) (by kernel_rfl) underlying113 (λu h=>typeName_ptr_named (nm := "errors.errorString") (by kernel_rfl) (by kernel_rfl) (by decide) u (h.trans (by kernel_rfl))) underlying310 underlying312 rfl rfl underlying9 (by kernel_rfl) (by kernel_rfl)
 exact z03d (by kernel_rfl) b
 have⟨a,s,b,_⟩:=laid_sentinel (g:=4) (ti:=113) (tp:=310) (te:=312) (ts:=9) e.tail.tail.tail.tail (by kernel_rfl) (by kernel_rfl) underlying113 (λu h=>typeName_ptr_named (nm := "errors.errorString") (by kernel_rfl) (by kernel_rfl) (by decide) u (h.trans (by kernel_rfl))) underlying310 underlying312 rfl rfl underlying9 (by kernel_rfl) (by kernel_rfl)
 exact z03d (by kernel_rfl) b;cases d
def zqr{W:World}(a:laidMet prog z085 W):zn8 W g0 H0:=⟨globI a,globE a⟩
end Go.Proofs.YthphaiccgnkobaaGreatDoor
