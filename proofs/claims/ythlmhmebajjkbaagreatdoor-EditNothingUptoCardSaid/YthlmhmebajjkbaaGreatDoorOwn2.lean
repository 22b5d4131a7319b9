/-
  Go functions as Lean functions, by a program of this repo.
-/
import Derived.Test.YthlmhmebajjkbaaGreatDoorOwn0
import Derived.Test.YthlmhmebajjkbaaGreatDoorOwn1
import Derived.Test.YthlmhmebajjkbaaGreatDoorLib2
import Derived.Test.YthlmhmebajjkbaaGreatDoorProg
import Derived.Test.YthlmhmebajjkbaaGreatDoorLib8
import Derived.KernelRfl
set_option linter.defProp false
set_option linter.unusedSimpArgs false
set_option linter.unusedVariables false
namespace Go.Proofs.YthlmhmebajjkbaaGreatDoor
open Go Go.Ab
open Tryz
set_option maxRecDepth 100000
set_option maxHeartbeats 4000000
noncomputable section
def z4c:Nat->yz5->yz5->Ot Bool
 |0,_,_=>none
 |n+1,a,b=>
  pIf (a.weight==b.weight)
   ((z2s n a.when_.re b.when_.re).bind λe=>
   pIf e
    ((yzc n a.do_ b.do_).bind λd=>
    some d)
    (some false))
   (some false)
def y5y:LSh:=⟨[(4,dB)],[],0,24,[]⟩
def zq1:FI dat:=FI.of dat 142 24 0 [dT 6,dT 6] [] [dB] [] true y5y (R:=Bool) Prod.fst (·,()) (λn=>u2 (z4c n))
 (λn=>[]) (anb [] f142)
def y3e:FOk prog zq1:=okF (bs:=[zbr,z07]) ⟨znt,z52,trivial⟩ func142 ntmps142 call142
 (λ_ _=>tr (z4c.eq_2 ..))
 (λn=>trivial)
mutual
def zzk:Nat->z0q->z0q->Ot Bool
 |0,_,_=>none
 |n+1,a,b=>
  pIf ((a.length:Int) != (b.length:Int))
   (some false)
   (zza n 0 b a (a.length:Int))
def zza:Nat->Int->z0q->z0q->Int->Ot Bool
 |0,_,_,_,_=>none
 |n+1,a,b,c,d=>
  pIf (decide (a<d))
   ((ix c a).bind λh=>
   (ix b a).bind λg=>
   (z4c n h.re g.re).bind λe=>
   pIf (!e)
    (some false)
    (zza n (IntKind.i64.wrap (a+1)) b c d))
   (some true)
end
def z92:LSh:=⟨[(6,dB)],[],0,32,[]⟩
def z10:FI dat:=FI.of dat 141 32 0 [dL 6,dL 6,(.fn 142 [] [])] [] [dB] [] true z92 (R:=Bool) Prod.fst (·,()) (λn=>u2 (zzk n))
 (λn=>[(0,⟨⟨[(17,dI),(2,(.fn 142 [] [])),(1,dL 6),(15,dL 6),(16,dI)],[],0,32,[]⟩,u4 (zza n)⟩)]) (anb [(14,0)] f141)
def z8n:FOk prog z10:=okF (bs:=[zq1]) ⟨y3e,trivial⟩ func141 ntmps141 call141
 (λ_ _=>tr (zzk.eq_2 ..))
 (λn=>⟨λ_=>tr (zza.eq_2 ..),
  trivial⟩)
def z98:Nat->kz3->kz3->Ot Bool
 |0,_,_=>none
 |n+1,a,b=>
  pIf (a.name==b.name)
   ((z0o n a.params b.params).bind λe=>
   pIf e
    ((zzk n a.cases b.cases).bind λd=>
    some d)
    (some false))
   (some false)
def ycb:LSh:=⟨[(4,dB)],[],0,24,[]⟩
def zxd:FI dat:=FI.of dat 139 24 0 [dT 7,dT 7] [] [dB] [] true ycb (R:=Bool) Prod.fst (·,()) (λn=>u2 (z98 n))
 (λn=>[]) (anb [] f139)
def yaw:FOk prog zxd:=okF (bs:=[zea,z10]) ⟨zmd,z8n,trivial⟩ func139 ntmps139 call139
 (λ_ _=>tr (z98.eq_2 ..))
 (λn=>trivial)
mutual
def kzj:Nat->zz5->zz5->Ot Bool
 |0,_,_=>none
 |n+1,a,b=>
  pIf ((a.length:Int) != (b.length:Int))
   (some false)
   (yz9 n 0 b a (a.length:Int))
def yz9:Nat->Int->zz5->zz5->Int->Ot Bool
 |0,_,_,_,_=>none
 |n+1,a,b,c,d=>
  pIf (decide (a<d))
   ((ix c a).bind λh=>
   (ix b a).bind λg=>
   (z98 n h g).bind λe=>
   pIf (!e)
    (some false)
    (yz9 n (IntKind.i64.wrap (a+1)) b c d))
   (some true)
end
def z9p:LSh:=⟨[(6,dB)],[],0,32,[]⟩
def z0y:FI dat:=FI.of dat 138 32 0 [dL 7,dL 7,(.fn 139 [] [])] [] [dB] [] true z9p (R:=Bool) Prod.fst (·,()) (λn=>u2 (kzj n))
 (λn=>[(0,⟨⟨[(17,dI),(2,(.fn 139 [] [])),(1,dL 7),(15,dL 7),(16,dI)],[],0,32,[]⟩,u4 (yz9 n)⟩)]) (anb [(14,0)] f138)
def z8p:FOk prog z0y:=okF (bs:=[zxd]) ⟨yaw,trivial⟩ func138 ntmps138 call138
 (λ_ _=>tr (kzj.eq_2 ..))
 (λn=>⟨λ_=>tr (yz9.eq_2 ..),
  trivial⟩)
def zc7:Nat->zz0->zz0->Ot Bool
 |0,_,_=>none
 |n+1,a,b=>
  (yzk n a.attrs b.attrs).bind λe=>
  pIf e
   ((kzj n a.rules b.rules).bind λd=>
   some d)
   (some false)
def yni:LSh:=⟨[(4,dB)],[],0,17,[]⟩
def zvh:FI dat:=FI.of dat 91 17 0 [dT 8,dT 8] [] [dB] [] true yni (R:=Bool) Prod.fst (·,()) (λn=>u2 (zc7 n))
 (λn=>[]) (anb [] f91)
def yk1:FOk prog zvh:=okF (bs:=[z0z,z0y]) ⟨z8o,z8p,trivial⟩ func91 ntmps91 call91
 (λ_ _=>tr (zc7.eq_2 ..))
 (λn=>trivial)
def z8v:Nat->yz1->(List B8)->(List Bool)->Ot (Bool×(List B8)×(List Bool))
 |0,_,_,_=>none
 |n+1,a,b,c=>
  (zbp n a.re (mks (List.zip b c)) (mvs (List.zip b c))).bind λd=>
  some (d.1,(mks (List.zip d.2.1 d.2.2)),(mvs (List.zip d.2.1 d.2.2)))
def y6s:LSh:=⟨[(3,dB)],[(.cells [(.map 1)]),(.mp 86 .bool)],2,7,[]⟩
def zto:FI dat:=FI.of dat 144 7 2 [dT 2,(.ptr 0 0)] [(.cells [(.map 1)]),(.mp 86 .bool)] [dB] [(.cells [(.map 1)]),(.mp 86 .bool)] false y6s (R:=Bool×(List B8)×(List Bool)) (λx=>(x.1,x.2.1,x.2.2.1)) (λr=>(r.1,r.2.1,r.2.2,())) (λn=>u3 (z8v n))
 (λn=>[]) (anb [] f144)
def y68:FOk prog zto:=okF (bs:=[zm8]) ⟨zw2,trivial⟩ func144 ntmps144 call144
 (λ_ _=>tr (z8v.eq_2 ..))
 (λn=>trivial)
mutual
def zzq:Nat->kz6->(List B8)->(List Bool)->Ot (Int×(List B8)×(List Bool))
 |0,_,_,_=>none
 |n+1,a,b,c=>
  yzb n 0 a (a.length:Int) (mks (List.zip b c)) (mvs (List.zip b c))
def yzb:Nat->Int->kz6->Int->(List B8)->(List Bool)->Ot (Int×(List B8)×(List Bool))
 |0,_,_,_,_,_=>none
 |n+1,a,b,c,d,e=>
  pIf (decide (a<c))
   ((ix b a).bind λh=>
   (z8v n h.re (mks (List.zip d e)) (mvs (List.zip d e))).bind λg=>
   pIf g.1
    (some (a,(mks (List.zip g.2.1 g.2.2)),(mvs (List.zip g.2.1 g.2.2))))
    (yzb n (IntKind.i64.wrap (a+1)) b c (mks (List.zip g.2.1 g.2.2)) (mvs (List.zip g.2.1 g.2.2))))
   (some ((-1),(mks (List.zip d e)),(mvs (List.zip d e))))
end
def zfn:LSh:=⟨[(4,dI)],[(.cells [(.map 1)]),(.mp 86 .bool)],2,19,[]⟩
def z84:FI dat:=FI.of dat 83 19 2 [dL 2,(.fn 144 [] [(.ptr 0 0)])] [(.cells [(.map 1)]),(.mp 86 .bool)] [dI] [(.cells [(.map 1)]),(.mp 86 .bool)] false zfn (R:=Int×(List B8)×(List Bool)) (λx=>(x.1,x.2.1,x.2.2.1)) (λr=>(r.1,r.2.1,r.2.2,())) (λn=>u3 (zzq n))
 (λn=>[(0,⟨⟨[(8,dI),(0,dL 2),(1,(.fn 144 [] [(.ptr 0 0)])),(7,dI)],[(.cells [(.map 1)]),(.mp 86 .bool)],2,19,[]⟩,u5 (yzb n)⟩)]) (anb [(6,0)] f83)
def zev:FOk prog z84:=okF (bs:=[zto]) ⟨y68,trivial⟩ func83 ntmps83 call83
 (λ_ _=>tr (zzq.eq_2 ..))
 (λn=>⟨λ_=>tr (yzb.eq_2 ..),
  trivial⟩)
def yzf:Nat->kz6->(List B8)->(List Bool)->Ot (Bool×(List B8)×(List Bool))
 |0,_,_,_=>none
 |n+1,a,b,c=>
  (zzq n a (mks (List.zip b c)) (mvs (List.zip b c))).bind λd=>
  some ((decide (d.1>=0)),(mks (List.zip d.2.1 d.2.2)),(mvs (List.zip d.2.1 d.2.2)))
def zdp:LSh:=⟨[(4,dB)],[(.cells [(.map 1)]),(.mp 86 .bool)],2,9,[]⟩
def z5d:FI dat:=FI.of dat 38 9 2 [dL 2,(.fn 144 [] [(.ptr 0 0)])] [(.cells [(.map 1)]),(.mp 86 .bool)] [dB] [(.cells [(.map 1)]),(.mp 86 .bool)] false zdp (R:=Bool×(List B8)×(List Bool)) (λx=>(x.1,x.2.1,x.2.2.1)) (λr=>(r.1,r.2.1,r.2.2,())) (λn=>u3 (yzf n))
 (λn=>[]) (anb [] f38)
def zdf:FOk prog z5d:=okF (bs:=[z84]) ⟨zev,trivial⟩ func38 ntmps38 call38
 (λ_ _=>tr (yzf.eq_2 ..))
 (λn=>trivial)
mutual
def zbe:Nat->kz3->(List B8)->(List Bool)->Ot (Bool×(List B8)×(List Bool))
 |0,_,_,_=>none
 |n+1,a,b,c=>
  z3w n 0 a.cases (a.cases.length:Int) (mks (List.zip b c)) (mvs (List.zip b c))
def z3w:Nat->Int->z0q->Int->(List B8)->(List Bool)->Ot (Bool×(List B8)×(List Bool))
 |0,_,_,_,_,_=>none
 |n+1,a,b,c,d,e=>
  pIf (decide (a<c))
   ((ix b a).bind λh=>
   (zbp n h.when_.re (mks (List.zip d e)) (mvs (List.zip d e))).bind λg=>
   pIf g.1
    (some (true,(mks (List.zip g.2.1 g.2.2)),(mvs (List.zip g.2.1 g.2.2))))
    (z43 n 0 h.do_ b c a (h.do_.length:Int) (mks (List.zip g.2.1 g.2.2)) (mvs (List.zip g.2.1 g.2.2))))
   (some (false,(mks (List.zip d e)),(mvs (List.zip d e))))
def z43:Nat->Int->z02->z0q->Int->Int->Int->(List B8)->(List Bool)->Ot (Bool×(List B8)×(List Bool))
 |0,_,_,_,_,_,_,_,_=>none
 |n+1,a,b,c,d,e,f,g,h=>
  pIf (decide (a<f))
   ((ix b a).bind λi=>
   (z4x n i.args).bind λj=>
   z3x n 0 i.items b c d e f a (i.items.length:Int) (mks (List.zip g h)) (mvs (List.zip g h)) j)
   (z3w n (IntKind.i64.wrap (e+1)) c d (mks (List.zip g h)) (mvs (List.zip g h)))
def z3x:Nat->Int->zf0->z02->z0q->Int->Int->Int->Int->Int->(List B8)->(List Bool)->kz6->Ot (Bool×(List B8)×(List Bool))
 |0,_,_,_,_,_,_,_,_,_,_,_,_=>none
 |n+1,a,b,c,d,e,f,g,h,i,j,k,l=>
  pIf (decide (a<i))
   ((ix b a).bind λp=>
   (ext l p.args).bind λo=>
   z3x n (IntKind.i64.wrap (a+1)) b c d e f g h i (mks (List.zip j k)) (mvs (List.zip j k)) o)
   ((yzf n l (mks (List.zip j k)) (mvs (List.zip j k))).bind λm=>
   pIf m.1
    (some (true,(mks (List.zip m.2.1 m.2.2)),(mvs (List.zip m.2.1 m.2.2))))
    (z43 n (IntKind.i64.wrap (h+1)) c d e f g (mks (List.zip m.2.1 m.2.2)) (mvs (List.zip m.2.1 m.2.2))))
end
def yf2:LSh:=⟨[(4,dB)],[(.mp 86 .bool)],1,50,[]⟩
def zpi:FI dat:=FI.of dat 92 50 1 [dT 7,(.map 0)] [(.mp 86 .bool)] [dB] [(.mp 86 .bool)] false yf2 (R:=Bool×(List B8)×(List Bool)) (λx=>(x.1,x.2.1,x.2.2.1)) (λr=>(r.1,r.2.1,r.2.2,())) (λn=>u3 (zbe n))
 (λn=>[(0,⟨⟨[(3,(.ptr 1 0)),(15,dI),(13,dL 6),(14,dI)],[(.mp 86 .bool),(.cells [(.map 0)])],1,50,[]⟩,u5 (z3w n)⟩),(1,⟨⟨[(26,dI),(3,(.ptr 1 0)),(24,dL 5),(13,dL 6),(14,dI),(15,dI),(25,dI)],[(.mp 86 .bool),(.cells [(.map 0)])],1,50,[]⟩,u8 (z43 n)⟩),(2,⟨⟨[(36,dI),(9,(.own 1)),(34,dL 4),(3,(.ptr 2 0)),(24,dL 5),(13,dL 6),(14,dI),(15,dI),(25,dI),(26,dI),(35,dI)],[(.mp 86 .bool),(.acc 42 (.st 2) true),(.cells [(.map 0)])],1,50,[]⟩,u12 (z3x n)⟩)]) (anb [(6,0),(28,1),(45,2)] f92)
def yb9:FOk prog zpi:=okF (bs:=[zm8,zbj,z5d]) ⟨zw2,zjp,zdf,trivial⟩ func92 ntmps92 call92
 (λ_ _=>tr (zbe.eq_2 ..))
 (λn=>⟨λ_=>tr (z3w.eq_2 ..),
  λ_=>tr (z43.eq_2 ..),
  λ_=>tr (z3x.eq_2 ..),
  trivial⟩)
mutual
def z9m:Nat->zz0->zz0->Ot (Res (B8×Unit) ((List B8)×(List Bool)))
 |0,_,_=>none
 |n+1,a,b=>
  (zcg n a b).bind λh=>
  zsc h (λd=>
   (yzr n [a.rules,b.rules]).bind λg=>
   zsc g (λe=>
    z4a n 0 e (e.length:Int) [] [] (mks (List.zip d.1 d.2)) (mvs (List.zip d.1 d.2)) b a)
    (λj=>
    some (Res.pan (j.1,()))))
   (λi=>
   some (Res.pan (i.1,())))
def z4a:Nat->Int->zz5->Int->(List B8)->(List Bool)->(List B8)->(List Bool)->zz0->zz0->Ot (Res (B8×Unit) ((List B8)×(List Bool)))
 |0,_,_,_,_,_,_,_,_,_=>none
 |n+1,a,b,c,d,e,f,g,h,i=>
  pIf (decide (a<c))
   ((ix b a).bind λk=>
   (za1 n i k.name).bind λm=>
   (za1 n h k.name).bind λl=>
   pIf (decide (m<0))
    (z0t n b c a true (mks (List.zip d e)) (mvs (List.zip d e)) (mks (List.zip f g)) (mvs (List.zip f g)) h i k)
    (pIf (decide (l<0))
      (z0t n b c a true (mks (List.zip d e)) (mvs (List.zip d e)) (mks (List.zip f g)) (mvs (List.zip f g)) h i k)
      ((sub i.rules m (IntKind.i64.wrap (m+1))).bind λq=>
      (sub h.rules l (IntKind.i64.wrap (l+1))).bind λp=>
      (zc7 n (zz0.mk [] q) (zz0.mk [] p)).bind λo=>
      pIf (!o)
       (z0t n b c a true (mks (List.zip d e)) (mvs (List.zip d e)) (mks (List.zip f g)) (mvs (List.zip f g)) h i k)
       ((zbe n k (mks (List.zip f g)) (mvs (List.zip f g))).bind λj=>
       z0t n b c a j.1 (mks (List.zip d e)) (mvs (List.zip d e)) (mks (List.zip j.2.1 j.2.2)) (mvs (List.zip j.2.1 j.2.2)) h i k))))
   (some (Res.ok ((mks (List.zip d e)),(mvs (List.zip d e)))))
def z0t:Nat->zz5->Int->Int->Bool->(List B8)->(List Bool)->(List B8)->(List Bool)->zz0->zz0->kz3->Ot (Res (B8×Unit) ((List B8)×(List Bool)))
 |0,_,_,_,_,_,_,_,_,_,_,_=>none
 |n+1,a,b,c,d,e,f,g,h,i,j,k=>
  pIf d
   (z78 n a b c (mks (z6n (List.zip e f) k.name true)) (mvs (z6n (List.zip e f) k.name true)) (mks (List.zip g h)) (mvs (List.zip g h)) i j)
   (z78 n a b c (mks (List.zip e f)) (mvs (List.zip e f)) (mks (List.zip g h)) (mvs (List.zip g h)) i j)
def z78:Nat->zz5->Int->Int->(List B8)->(List Bool)->(List B8)->(List Bool)->zz0->zz0->Ot (Res (B8×Unit) ((List B8)×(List Bool)))
 |0,_,_,_,_,_,_,_,_,_=>none
 |n+1,a,b,c,d,e,f,g,h,i=>
  z4a n (IntKind.i64.wrap (c+1)) a b (mks (List.zip d e)) (mvs (List.zip d e)) (mks (List.zip f g)) (mvs (List.zip f g)) h i
end
def ydc:LSh:=⟨[(4,(.map 0))],[(.mp 86 .bool)],0,68,[]⟩
def zao:FI dat:=FI.ofP dat 45 68 0 [dT 8,dT 8] [] [(.map 0)] [(.mp 86 .bool)] (.iface 9 dS) [] [] ydc (R:=(List B8)×(List Bool)) (λx=>(x.1,x.2.1)) (λr=>(r.1,r.2,())) (λn=>u2 (z9m n))
 (λn=>[(0,⟨⟨[(22,dI),(5,(.map 0)),(6,(.map 1)),(3,(.ptr 2 0)),(2,(.ptr 3 0)),(20,dL 7),(21,dI)],[(.mp 86 .bool),(.mp 86 .bool),(.st 8),(.st 8)],0,68,[]⟩,u9 (z4a n)⟩),(1,⟨⟨[(5,(.map 0)),(6,(.map 1)),(3,(.ptr 2 0)),(2,(.ptr 3 0)),(20,dL 7),(21,dI),(22,dI),(8,(.ptr 4 0)),(62,dB)],[(.mp 86 .bool),(.mp 86 .bool),(.st 8),(.st 8),(.st 7)],0,68,[]⟩,u11 (z0t n)⟩),(2,⟨⟨[(5,(.map 0)),(6,(.map 1)),(3,(.ptr 2 0)),(2,(.ptr 3 0)),(20,dL 7),(21,dI),(22,dI)],[(.mp 86 .bool),(.mp 86 .bool),(.st 8),(.st 8)],0,68,[]⟩,u9 (z78 n)⟩)]) (anb [(10,0),(25,1),(28,2)] f45)
def yc1:List (FI dat):=[ze2,kzz,zpi,zrq,zvh]
def ydt:(zao).Good prog dat (tb yc1):=FI.zk5 (hD:=kzg _) func45 ntmps45 call45 (by kernel_rfl) (Qac (by kernel_rfl)) (by kernel_rfl) (λn=>by kernel_rfl) trivial (λx=>by kernel_rfl) (λ_=>rfl) ⟨λ_=>rfl,λ_=>rfl,λ_=>rfl,trivial⟩
 (λ_ _=>tr (z9m.eq_2 ..))
 (λn=>⟨λ_=>tr (z4a.eq_2 ..),
  λ_=>tr (z0t.eq_2 ..),
  λ_=>tr (z78.eq_2 ..),
  trivial⟩)
 (λx=>by kernel_rfl)
def yc7:OkL prog [zao]:=zs9 (kzg _) (bs:=[ze2,kzz,zpi,zrq,zvh]) ⟨y25,zj1,yb9,y5j,yk1,trivial⟩ ydt
def zwj:FOk prog zao:=yc7.1
def z3p:Nat->zz0->zz0->Ot (Res (B8×Unit) ((List B8)×Int))
 |0,_,_=>none
 |n+1,a,b=>
  (zbs n a b).bind λe=>
  pIf (e != 0)
   (some (Res.ok ([],e)))
   ((z9m n a b).bind λh=>
   zsc h (λd=>
    (z56 n (mks (List.zip d.1 d.2)) (mvs (List.zip d.1 d.2))).bind λg=>
    some (Res.ok (g.1,0)))
    (λi=>
    some (Res.pan (i.1,()))))
def ydu:LSh:=⟨[(4,dA),(5,dI)],[],0,17,[]⟩
def zal:FI dat:=FI.ofP dat 18 17 0 [dT 8,dT 8] [] [dA,dI] [] (.iface 9 dS) [] [] ydu (R:=(List B8)×Int) (λx=>(x.1,x.2.1)) (λr=>(r.1,r.2,())) (λn=>u2 (z3p n))
 (λn=>[]) (anb [] f18)
def yee:List (FI dat):=[zao,za4,zg0]
def yfu:(zal).Good prog dat (tb yee):=FI.zk5 (hD:=kzg _) func18 ntmps18 call18 (by kernel_rfl) (Qac (by kernel_rfl)) (by kernel_rfl) (λn=>by kernel_rfl) trivial (λx=>by kernel_rfl) (λ_=>rfl) trivial
 (λn=>λ_=>tr (z3p.eq_2 _ _ n))
 (λn=>trivial)
 (λx=>by kernel_rfl)
def yej:OkL prog [zal]:=zs9 (kzg _) (bs:=[zao,za4,zg0]) ⟨zwj,zp7,zw8,trivial⟩ yfu
def zwc:FOk prog zal:=yej.1
def zel:Nat->kz3->B8->Ot (Bool×B8)
 |0,_,_=>none
 |n+1,a,b=>
  some ((a.name==b),b)
def yll:LSh:=⟨[(3,dB)],[(.cells [dS])],1,8,[]⟩
def y4x:FI dat:=FI.of dat 145 8 1 [dT 7,(.ptr 0 0)] [(.cells [dS])] [dB] [(.cells [dS])] false yll (R:=Bool×B8) (λx=>(x.1,x.2.1)) (λr=>(r.1,r.2,())) (λn=>u2 (zel n))
 (λn=>[]) (anb [] f145)
def yk7:FOk prog y4x:=okF (bs:=[]) trivial func145 ntmps145 call145
 (λn=>λ_=>tr (zel.eq_2 _ _ n))
 (λn=>trivial)
mutual
def yzi:Nat->zz5->B8->Ot (Int×B8)
 |0,_,_=>none
 |n+1,a,b=>
  zzb n 0 a (a.length:Int) b
def zzb:Nat->Int->zz5->Int->B8->Ot (Int×B8)
 |0,_,_,_,_=>none
 |n+1,a,b,c,d=>
  pIf (decide (a<c))
   ((ix b a).bind λg=>
   (zel n g d).bind λe=>
   pIf e.1
    (some (a,e.2))
    (zzb n (IntKind.i64.wrap (a+1)) b c e.2))
   (some ((-1),d))
end
def zfj:LSh:=⟨[(4,dI)],[(.cells [dS])],1,19,[]⟩
def z83:FI dat:=FI.of dat 102 19 1 [dL 7,(.fn 145 [] [(.ptr 0 0)])] [(.cells [dS])] [dI] [(.cells [dS])] false zfj (R:=Int×B8) (λx=>(x.1,x.2.1)) (λr=>(r.1,r.2,())) (λn=>u2 (yzi n))
 (λn=>[(0,⟨⟨[(8,dI),(0,dL 7),(1,(.fn 145 [] [(.ptr 0 0)])),(7,dI)],[(.cells [dS])],1,19,[]⟩,u4 (zzb n)⟩)]) (anb [(6,0)] f102)
def zew:FOk prog z83:=okF (bs:=[y4x]) ⟨yk7,trivial⟩ func102 ntmps102 call102
 (λ_ _=>tr (yzi.eq_2 ..))
 (λn=>⟨λ_=>tr (zzb.eq_2 ..),
  trivial⟩)
def zfz:Nat->zz0->B8->Ot Int
 |0,_,_=>none
 |n+1,a,b=>
  (yzi n a.rules b).bind λd=>
  some d.1
def yto:LSh:=⟨[(4,dI)],[],0,9,[]⟩
def ygs:FI dat:=FI.of dat 93 9 0 [dT 8,dS] [] [dI] [] true yto (R:=Int) Prod.fst (·,()) (λn=>u2 (zfz n))
 (λn=>[]) (anb [] f93)
def yso:FOk prog ygs:=okF (bs:=[z83]) ⟨zew,trivial⟩ func93 ntmps93 call93
 (λ_ _=>tr (zfz.eq_2 ..))
 (λn=>trivial)
mutual
def zak:Nat->zz0->B8->Ot ((List B8)×Int)
 |0,_,_=>none
 |n+1,a,b=>
  (z3h n a).bind λd=>
  pIf (d != 0)
   (some ([],d))
   ((zfz n a b).bind λe=>
   pIf (decide (e<0))
    (some ([],6))
    (z5c n 0 [b] (mks (z6n [] b true)) (mvs (z6n [] b true)) a))
def z5c:Nat->Int->(List B8)->(List B8)->(List Bool)->zz0->Ot ((List B8)×Int)
 |0,_,_,_,_,_=>none
 |n+1,a,b,c,d,e=>
  pIf (decide (a<(b.length:Int)))
   ((ix b a).bind λk=>
   (zfz n e k).bind λi=>
   (ix e.rules i).bind λj=>
   (zau n j).bind λg=>
   z5f n 0 g a (g.length:Int) b (mks (List.zip c d)) (mvs (List.zip c d)) e)
   ((zzp n b).bind λh=>
   some (h,0))
def z5f:Nat->Int->z9v->Int->Int->(List B8)->(List B8)->(List Bool)->zz0->Ot ((List B8)×Int)
 |0,_,_,_,_,_,_,_,_=>none
 |n+1,a,b,c,d,e,f,g,h=>
  pIf (decide (a<d))
   ((ix b a).bind λi=>
   pIf (!(Option.getD (z2u (List.zip f g) i.name) false))
    ((ext e [i.name]).bind λj=>
    z8y n b c d a j (mks (z6n (List.zip f g) i.name true)) (mvs (z6n (List.zip f g) i.name true)) h)
    (z8y n b c d a e (mks (List.zip f g)) (mvs (List.zip f g)) h))
   (z5c n (IntKind.i64.wrap (c+1)) e (mks (List.zip f g)) (mvs (List.zip f g)) h)
def z8y:Nat->z9v->Int->Int->Int->(List B8)->(List B8)->(List Bool)->zz0->Ot ((List B8)×Int)
 |0,_,_,_,_,_,_,_,_=>none
 |n+1,a,b,c,d,e,f,g,h=>
  z5f n (IntKind.i64.wrap (d+1)) a b c e (mks (List.zip f g)) (mvs (List.zip f g)) h
end
def yj6:LSh:=⟨[(4,dA),(5,dI)],[],0,65,[]⟩
def zsr:FI dat:=FI.of dat 46 65 0 [dT 8,dS] [] [dA,dI] [] true yj6 (R:=(List B8)×Int) (λx=>(x.1,x.2.1)) (λr=>(r.1,r.2,())) (λn=>u2 (zak n))
 (λn=>[(0,⟨⟨[(8,(.own 0)),(7,(.map 1)),(9,dI),(2,(.ptr 2 0))],[(.acc 9 .str true),(.mp 86 .bool),(.st 8)],0,65,[]⟩,u5 (z5c n)⟩),(1,⟨⟨[(44,dI),(8,(.own 0)),(7,(.map 1)),(42,dL 11),(2,(.ptr 2 0)),(9,dI),(43,dI)],[(.acc 9 .str true),(.mp 86 .bool),(.st 8)],0,65,[]⟩,u8 (z5f n)⟩),(2,⟨⟨[(8,(.own 0)),(7,(.map 1)),(42,dL 11),(2,(.ptr 2 0)),(9,dI),(43,dI),(44,dI)],[(.acc 9 .str true),(.mp 86 .bool),(.st 8)],0,65,[]⟩,u8 (z8y n)⟩)]) (anb [(28,0),(40,1),(58,2)] f46)
def yet:FOk prog zsr:=okF (bs:=[z4w,zls,ygs,zsj]) ⟨zec,zph,yso,zxg,trivial⟩ func46 ntmps46 call46
 (λn=>λ_=>tr (zak.eq_2 _ _ n))
 (λn=>⟨λ_=>tr (z5c.eq_2 _ _ _ _ _ n),
  λ_=>tr (z5f.eq_2 _ _ _ _ _ _ _ _ n),
  λ_=>tr (z8y.eq_2 _ _ _ _ _ _ _ _ n),
  trivial⟩)
def z7b:Nat->B8->(List B8)->(List Bool)->Ot (Bool×(List B8)×(List Bool))
 |0,_,_,_=>none
 |n+1,a,b,c=>
  some ((Option.getD (z2u (List.zip b c) a) false),(mks (List.zip b c)),(mvs (List.zip b c)))
def y5l:LSh:=⟨[(3,dB)],[(.cells [(.map 1)]),(.mp 86 .bool)],2,7,[]⟩
def zq8:FI dat:=FI.of dat 48 7 2 [dS,(.ptr 0 0)] [(.cells [(.map 1)]),(.mp 86 .bool)] [dB] [(.cells [(.map 1)]),(.mp 86 .bool)] false y5l (R:=Bool×(List B8)×(List Bool)) (λx=>(x.1,x.2.1,x.2.2.1)) (λr=>(r.1,r.2.1,r.2.2,())) (λn=>u3 (z7b n))
 (λn=>[]) (anb [] f48)
def y38:FOk prog zq8:=okF (bs:=[]) trivial func48 ntmps48 call48
 (λn=>λ_=>tr (z7b.eq_2 _ _ _ n))
 (λn=>trivial)
mutual
def yzz:Nat->(List B8)->(List B8)->(List Bool)->Ot (Int×(List B8)×(List Bool))
 |0,_,_,_=>none
 |n+1,a,b,c=>
  zzh n 0 a (a.length:Int) (mks (List.zip b c)) (mvs (List.zip b c))
def zzh:Nat->Int->(List B8)->Int->(List B8)->(List Bool)->Ot (Int×(List B8)×(List Bool))
 |0,_,_,_,_,_=>none
 |n+1,a,b,c,d,e=>
  pIf (decide (a<c))
   ((ix b a).bind λh=>
   (z7b n h (mks (List.zip d e)) (mvs (List.zip d e))).bind λg=>
   pIf g.1
    (some (a,(mks (List.zip g.2.1 g.2.2)),(mvs (List.zip g.2.1 g.2.2))))
    (zzh n (IntKind.i64.wrap (a+1)) b c (mks (List.zip g.2.1 g.2.2)) (mvs (List.zip g.2.1 g.2.2))))
   (some ((-1),(mks (List.zip d e)),(mvs (List.zip d e))))
end
def zkp:LSh:=⟨[(4,dI)],[(.cells [(.map 1)]),(.mp 86 .bool)],2,19,[]⟩
def zbu:FI dat:=FI.of dat 95 19 2 [dA,(.fn 48 [] [(.ptr 0 0)])] [(.cells [(.map 1)]),(.mp 86 .bool)] [dI] [(.cells [(.map 1)]),(.mp 86 .bool)] false zkp (R:=Int×(List B8)×(List Bool)) (λx=>(x.1,x.2.1,x.2.2.1)) (λr=>(r.1,r.2.1,r.2.2,())) (λn=>u3 (yzz n))
 (λn=>[(0,⟨⟨[(8,dI),(0,dA),(1,(.fn 48 [] [(.ptr 0 0)])),(7,dI)],[(.cells [(.map 1)]),(.mp 86 .bool)],2,19,[]⟩,u5 (zzh n)⟩)]) (anb [(6,0)] f95)
def zjg:FOk prog zbu:=okF (bs:=[zq8]) ⟨y38,trivial⟩ func95 ntmps95 call95
 (λ_ _=>tr (yzz.eq_2 ..))
 (λn=>⟨λ_=>tr (zzh.eq_2 ..),
  trivial⟩)
def yzo:Nat->(List B8)->(List B8)->(List Bool)->Ot (Bool×(List B8)×(List Bool))
 |0,_,_,_=>none
 |n+1,a,b,c=>
  (yzz n a (mks (List.zip b c)) (mvs (List.zip b c))).bind λd=>
  some ((decide (d.1>=0)),(mks (List.zip d.2.1 d.2.2)),(mvs (List.zip d.2.1 d.2.2)))
def zi4:LSh:=⟨[(4,dB)],[(.cells [(.map 1)]),(.mp 86 .bool)],2,9,[]⟩
def z3n:FI dat:=FI.of dat 47 9 2 [dA,(.fn 48 [] [(.ptr 0 0)])] [(.cells [(.map 1)]),(.mp 86 .bool)] [dB] [(.cells [(.map 1)]),(.mp 86 .bool)] false zi4 (R:=Bool×(List B8)×(List Bool)) (λx=>(x.1,x.2.1,x.2.2.1)) (λr=>(r.1,r.2.1,r.2.2,())) (λn=>u3 (yzo n))
 (λn=>[]) (anb [] f47)
def zhn:FOk prog z3n:=okF (bs:=[zbu]) ⟨zjg,trivial⟩ func47 ntmps47 call47
 (λ_ _=>tr (yzo.eq_2 ..))
 (λn=>trivial)
mutual
def z4m:Nat->zz0->zz0->Ot (Res (B8×Unit) ((List B8)×Int))
 |0,_,_=>none
 |n+1,a,b=>
  (zbs n a b).bind λe=>
  pIf (e != 0)
   (some (Res.ok ([],e)))
   ((z9m n a b).bind λg=>
   zsc g (λd=>
    z1d n 0 b.rules (b.rules.length:Int) [] [] b (mks (List.zip d.1 d.2)) (mvs (List.zip d.1 d.2)))
    (λh=>
    some (Res.pan (h.1,()))))
def z1d:Nat->Int->zz5->Int->(List B8)->(List Bool)->zz0->(List B8)->(List Bool)->Ot (Res (B8×Unit) ((List B8)×Int))
 |0,_,_,_,_,_,_,_,_=>none
 |n+1,a,b,c,d,e,f,g,h=>
  pIf (decide (a<c))
   ((ix b a).bind λj=>
   (zak n f j.name).bind λl=>
   (yzo n l.1 (mks (List.zip g h)) (mvs (List.zip g h))).bind λi=>
   pIf i.1
    (z6e n b c a (mks (z6n (List.zip d e) j.name true)) (mvs (z6n (List.zip d e) j.name true)) f (mks (List.zip i.2.1 i.2.2)) (mvs (List.zip i.2.1 i.2.2)))
    (z6e n b c a (mks (List.zip d e)) (mvs (List.zip d e)) f (mks (List.zip i.2.1 i.2.2)) (mvs (List.zip i.2.1 i.2.2))))
   ((z56 n (mks (List.zip d e)) (mvs (List.zip d e))).bind λk=>
   some (Res.ok (k.1,0)))
def z6e:Nat->zz5->Int->Int->(List B8)->(List Bool)->zz0->(List B8)->(List Bool)->Ot (Res (B8×Unit) ((List B8)×Int))
 |0,_,_,_,_,_,_,_,_=>none
 |n+1,a,b,c,d,e,f,g,h=>
  z1d n (IntKind.i64.wrap (c+1)) a b (mks (List.zip d e)) (mvs (List.zip d e)) f (mks (List.zip g h)) (mvs (List.zip g h))
end
def yai:LSh:=⟨[(4,dA),(5,dI)],[],0,46,[]⟩
def z96:FI dat:=FI.ofP dat 19 46 0 [dT 8,dT 8] [] [dA,dI] [] (.iface 9 dS) [] [] yai (R:=(List B8)×Int) (λx=>(x.1,x.2.1)) (λr=>(r.1,r.2,())) (λn=>u2 (z4m n))
 (λn=>[(0,⟨⟨[(26,dI),(8,(.map 0)),(7,(.ptr 1 0)),(3,(.ptr 2 0)),(24,dL 7),(25,dI)],[(.mp 86 .bool),(.cells [(.map 3)]),(.st 8),(.mp 86 .bool)],0,46,[]⟩,u8 (z1d n)⟩),(1,⟨⟨[(8,(.map 0)),(7,(.ptr 1 0)),(3,(.ptr 2 0)),(24,dL 7),(25,dI),(26,dI)],[(.mp 86 .bool),(.cells [(.map 3)]),(.st 8),(.mp 86 .bool)],0,46,[]⟩,u8 (z6e n)⟩)]) (anb [(20,0),(38,1)] f19)
def y9p:List (FI dat):=[zao,z3n,za4,zg0,zsr]
def yat:(z96).Good prog dat (tb y9p):=FI.zk5 (hD:=kzg _) func19 ntmps19 call19 (by kernel_rfl) (Qac (by kernel_rfl)) (by kernel_rfl) (λn=>by kernel_rfl) trivial (λx=>by kernel_rfl) (λ_=>rfl) ⟨λ_=>rfl,λ_=>rfl,trivial⟩
 (λn=>λ_=>tr (z4m.eq_2 _ _ n))
 (λn=>⟨λ_=>tr (z1d.eq_2 _ _ _ _ _ _ _ _ n),
  λ_=>tr (z6e.eq_2 _ _ _ _ _ _ _ _ n),
  trivial⟩)
 (λx=>by kernel_rfl)
def ybh:OkL prog [z96]:=zs9 (kzg _) (bs:=[zao,z3n,za4,zg0,zsr]) ⟨zwj,zhn,zp7,zw8,yet,trivial⟩ yat
def zul:FOk prog z96:=ybh.1
mutual
def z88:Nat->(List B8)->(List B8)->Ot Bool
 |0,_,_=>none
 |n+1,a,b=>
  pIf ((a.length:Int) != (b.length:Int))
   (some false)
   (z6w n 0 b a)
def z6w:Nat->Int->(List B8)->(List B8)->Ot Bool
 |0,_,_,_=>none
 |n+1,a,b,c=>
  pIf (decide (a<(c.length:Int)))
   ((ix c a).bind λe=>
   (ix b a).bind λd=>
   pIf (!(e==d))
    (some false)
    (z6w n (IntKind.i64.wrap (a+1)) b c))
   (some true)
end
def yn1:LSh:=⟨[(4,dB)],[],0,26,[]⟩
def zkv:FI dat:=FI.of dat 20 26 0 [dA,dA] [] [dB] [] true yn1 (R:=Bool) Prod.fst (·,()) (λn=>u2 (z88 n))
 (λn=>[(0,⟨⟨[(5,dI),(1,dA),(0,dA)],[],0,26,[]⟩,u3 (z6w n)⟩)]) (anb [(14,0)] f20)
def y2e:FOk prog zkv:=okF (bs:=[]) trivial func20 ntmps20 call20
 (λ_ _=>tr (z88.eq_2 ..))
 (λn=>⟨λ_=>tr (z6w.eq_2 ..),
  trivial⟩)
mutual
def z3g:Nat->zz1->zz1->Ot Bool
 |0,_,_=>none
 |n+1,a,b=>
  pIf (a.kind != b.kind)
   (z18 n true b.re a.re)
   (pIf (!((a.num.num==b.num.num)&&((a.num.den==b.num.den)&&true)))
     (z18 n true b.re a.re)
     (pIf (!(a.truth==b.truth))
       (z18 n true b.re a.re)
       (pIf (!(a.str==b.str))
         (z18 n true b.re a.re)
         (z18 n ((a.list.length:Int) != (b.list.length:Int)) b.re a.re))))
def z18:Nat->Bool->zz1->zz1->Ot Bool
 |0,_,_,_=>none
 |n+1,a,b,c=>
  pIf a
   (some false)
   (z74 n 0 b.re c.re)
def z74:Nat->Int->zz1->zz1->Ot Bool
 |0,_,_,_=>none
 |n+1,a,b,c=>
  pIf (decide (a<(c.list.length:Int)))
   ((ix c.list a).bind λg=>
   (ix b.list a).bind λe=>
   (z3g n g.re e.re).bind λd=>
   pIf (!d)
    (some false)
    (z74 n (IntKind.i64.wrap (a+1)) b.re c.re))
   (some true)
end
def ylu:LSh:=⟨[(4,dB)],[],0,60,[]⟩
def zbo:FI dat:=FI.of dat 73 60 0 [dT 1,dT 1] [] [dB] [] true ylu (R:=Bool) Prod.fst (·,()) (λn=>u2 (z3g n))
 (λn=>[(0,⟨⟨[(3,(.ptr 0 0)),(2,(.ptr 1 0)),(40,dB)],[(.st 1),(.st 1)],0,60,[]⟩,u3 (z18 n)⟩),(1,⟨⟨[(5,dI),(3,(.ptr 0 0)),(2,(.ptr 1 0))],[(.st 1),(.st 1)],0,60,[]⟩,u3 (z74 n)⟩)]) (anb [(5,0),(14,1)] f73)
def yp9:List (FI dat):=[zbo]++[]
def ym7:(zbo).Good prog dat (tb yp9):=FI.z3q (hD:=kzg _) func73 ntmps73 call73 (by kernel_rfl) (Qac (by kernel_rfl)) (by kernel_rfl) (λn=>by kernel_rfl) (λx=>by kernel_rfl) (λ_=>rfl) ⟨λ_=>rfl,λ_=>rfl,trivial⟩
 (λ_ _=>tr (z3g.eq_2 ..))
 (λn=>⟨λ_=>tr (z18.eq_2 ..),
  λ_=>tr (z74.eq_2 ..),
  trivial⟩)
 (λx=>.inl rfl)
def ymo:OkL prog [zbo]:=z8u (kzg _) (bs:=[]) trivial ⟨ym7,trivial⟩
def y1e:FOk prog zbo:=ymo.1
mutual
def zef:Nat->yz1->yz1->Ot Bool
 |0,_,_=>none
 |n+1,a,b=>
  pIf (a.op != b.op)
   (zaf n true b.re a.re)
   (pIf (!(a.name==b.name))
     (zaf n true b.re a.re)
     ((z3g n a.value.re b.value.re).bind λd=>
     pIf (!d)
      (zaf n true b.re a.re)
      (zaf n ((a.args.length:Int) != (b.args.length:Int)) b.re a.re)))
def zaf:Nat->Bool->yz1->yz1->Ot Bool
 |0,_,_,_=>none
 |n+1,a,b,c=>
  pIf a
   (some false)
   (zh0 n 0 b.re c.re)
def zh0:Nat->Int->yz1->yz1->Ot Bool
 |0,_,_,_=>none
 |n+1,a,b,c=>
  pIf (decide (a<(c.args.length:Int)))
   ((ix c.args a).bind λg=>
   (ix b.args a).bind λe=>
   (zef n g.re e.re).bind λd=>
   pIf (!d)
    (some false)
    (zh0 n (IntKind.i64.wrap (a+1)) b.re c.re))
   (some true)
end
def ylw:LSh:=⟨[(4,dB)],[],0,54,[]⟩
def zdr:FI dat:=FI.of dat 32 54 0 [dT 2,dT 2] [] [dB] [] true ylw (R:=Bool) Prod.fst (·,()) (λn=>u2 (zef n))
 (λn=>[(0,⟨⟨[(3,(.ptr 0 0)),(2,(.ptr 1 0)),(34,dB)],[(.st 2),(.st 2)],0,54,[]⟩,u3 (zaf n)⟩),(1,⟨⟨[(5,dI),(3,(.ptr 0 0)),(2,(.ptr 1 0))],[(.st 2),(.st 2)],0,54,[]⟩,u3 (zh0 n)⟩)]) (anb [(5,0),(14,1)] f32)
def you:List (FI dat):=[zdr]++[zbo]
def ylh:(zdr).Good prog dat (tb you):=FI.z3q (hD:=kzg _) func32 ntmps32 call32 (by kernel_rfl) (Qac (by kernel_rfl)) (by kernel_rfl) (λn=>by kernel_rfl) (λx=>by kernel_rfl) (λ_=>rfl) ⟨λ_=>rfl,λ_=>rfl,trivial⟩
 (λ_ _=>tr (zef.eq_2 ..))
 (λn=>⟨λ_=>tr (zaf.eq_2 ..),
  λ_=>tr (zh0.eq_2 ..),
  trivial⟩)
 (λx=>.inl rfl)
def ym2:OkL prog [zdr]:=z8u (kzg _) (bs:=[zbo]) ⟨y1e,trivial⟩ ⟨ylh,trivial⟩
def zsf:FOk prog zdr:=ym2.1
def z2g:Nat->kz6->Ot yz1
 |0,_=>none
 |n+1,a=>
  some (yz1.mk 18 (zz1.mk 0 (yz6.mk 0 0) false [] []) [] a)
def yow:LSh:=⟨[(2,(.ptr 0 0))],[(.st 2)],0,5,[]⟩
def znj:FI dat:=FI.of dat 116 5 0 [dL 2] [] [dT 2] [] true yow (R:=yz1) Prod.fst (·,()) (λn=>u1 (z2g n))
 (λn=>[]) (anb [] f116)
def zsx:FOk prog znj:=okF (bs:=[]) trivial func116 ntmps116 call116
 (λn=>λ_=>tr (z2g.eq_2 _ n))
 (λn=>trivial)
def zdz:Nat->kz6->kz6->Ot Bool
 |0,_,_=>none
 |n+1,a,b=>
  (z2g n a).bind λg=>
  (z2g n b).bind λe=>
  (zef n g.re e.re).bind λd=>
  some d
def y63:LSh:=⟨[(4,dB)],[],0,10,[]⟩
def zr2:FI dat:=FI.of dat 167 10 0 [dL 2,dL 2] [] [dB] [] true y63 (R:=Bool) Prod.fst (·,()) (λn=>u2 (zdz n))
 (λn=>[]) (anb [] f167)
def y4b:FOk prog zr2:=okF (bs:=[znj,zdr]) ⟨zsx,zsf,trivial⟩ func167 ntmps167 call167
 (λ_ _=>tr (zdz.eq_2 ..))
 (λn=>trivial)
mutual
def zg5:Nat->zz3->zz3->Ot Bool
 |0,_,_=>none
 |n+1,a,b=>
  pIf (a.kind != b.kind)
   (z0i n true b a)
   (pIf (a.axis != b.axis)
     (z0i n true b a)
     (pIf (!(a.name==b.name))
       (z0i n true b a)
       ((zdz n a.args b.args).bind λd=>
       pIf (!d)
        (z0i n true b a)
        (z0i n ((a.items.length:Int) != (b.items.length:Int)) b a))))
def z0i:Nat->Bool->zz3->zz3->Ot Bool
 |0,_,_,_=>none
 |n+1,a,b,c=>
  pIf a
   (some false)
   (z8s n 0 b c)
def z8s:Nat->Int->zz3->zz3->Ot Bool
 |0,_,_,_=>none
 |n+1,a,b,c=>
  pIf (decide (a<(c.items.length:Int)))
   ((ix c.items a).bind λk=>
   (ix b.items a).bind λj=>
   pIf (k.kind != j.kind)
    (z4r n a true b c)
    ((ix c.items a).bind λi=>
    (ix b.items a).bind λh=>
    pIf (!(i.name==h.name))
     (z4r n a true b c)
     ((ix c.items a).bind λg=>
     (ix b.items a).bind λe=>
     (zdz n g.args e.args).bind λd=>
     z4r n a (!d) b c)))
   (some true)
def z4r:Nat->Int->Bool->zz3->zz3->Ot Bool
 |0,_,_,_,_=>none
 |n+1,a,b,c,d=>
  pIf b
   (some false)
   (z8s n (IntKind.i64.wrap (a+1)) c d)
end
def y1b:LSh:=⟨[(4,dB)],[],0,93,[]⟩
def zn6:FI dat:=FI.of dat 125 93 0 [dT 5,dT 5] [] [dB] [] true y1b (R:=Bool) Prod.fst (·,()) (λn=>u2 (zg5 n))
 (λn=>[(0,⟨⟨[(3,(.ptr 0 0)),(2,(.ptr 1 0)),(41,dB)],[(.st 5),(.st 5)],0,93,[]⟩,u3 (z0i n)⟩),(1,⟨⟨[(5,dI),(3,(.ptr 0 0)),(2,(.ptr 1 0))],[(.st 5),(.st 5)],0,93,[]⟩,u3 (z8s n)⟩),(2,⟨⟨[(3,(.ptr 0 0)),(2,(.ptr 1 0)),(5,dI),(92,dB)],[(.st 5),(.st 5)],0,93,[]⟩,u4 (z4r n)⟩)]) (anb [(5,0),(14,1),(25,2)] f125)
def zx9:FOk prog zn6:=okF (bs:=[zr2]) ⟨y4b,trivial⟩ func125 ntmps125 call125
 (λ_ _=>tr (zg5.eq_2 ..))
 (λn=>⟨λ_=>tr (z0i.eq_2 ..),
  λ_=>tr (z8s.eq_2 ..),
  λ_=>tr (z4r.eq_2 ..),
  trivial⟩)
mutual
def zit:Nat->yz5->yz5->Ot Bool
 |0,_,_=>none
 |n+1,a,b=>
  pIf (a.weight != b.weight)
   (z6m n true b.re a.re)
   ((zef n a.when_.re b.when_.re).bind λd=>
   pIf (!d)
    (z6m n true b.re a.re)
    (z6m n ((a.do_.length:Int) != (b.do_.length:Int)) b.re a.re))
def z6m:Nat->Bool->yz5->yz5->Ot Bool
 |0,_,_,_=>none
 |n+1,a,b,c=>
  pIf a
   (some false)
   (zax n 0 b.re c.re)
def zax:Nat->Int->yz5->yz5->Ot Bool
 |0,_,_,_=>none
 |n+1,a,b,c=>
  pIf (decide (a<(c.do_.length:Int)))
   ((ix c.do_ a).bind λg=>
   (ix b.do_ a).bind λe=>
   (zg5 n g e).bind λd=>
   pIf (!d)
    (some false)
    (zax n (IntKind.i64.wrap (a+1)) b.re c.re))
   (some true)
end
def y5m:LSh:=⟨[(4,dB)],[],0,47,[]⟩
def zrk:FI dat:=FI.of dat 74 47 0 [dT 6,dT 6] [] [dB] [] true y5m (R:=Bool) Prod.fst (·,()) (λn=>u2 (zit n))
 (λn=>[(0,⟨⟨[(3,(.ptr 0 0)),(2,(.ptr 1 0)),(27,dB)],[(.st 6),(.st 6)],0,47,[]⟩,u3 (z6m n)⟩),(1,⟨⟨[(5,dI),(3,(.ptr 0 0)),(2,(.ptr 1 0))],[(.st 6),(.st 6)],0,47,[]⟩,u3 (zax n)⟩)]) (anb [(5,0),(14,1)] f74)
def y2z:FOk prog zrk:=okF (bs:=[zdr,zn6]) ⟨zsf,zx9,trivial⟩ func74 ntmps74 call74
 (λ_ _=>tr (zit.eq_2 ..))
 (λn=>⟨λ_=>tr (z6m.eq_2 ..),
  λ_=>tr (zax.eq_2 ..),
  trivial⟩)
mutual
def ziw:Nat->kz3->kz3->Ot Bool
 |0,_,_=>none
 |n+1,a,b=>
  pIf (!(a.name==b.name))
   (z6o n true b a)
   (pIf ((a.params.length:Int) != (b.params.length:Int))
     (z6o n true b a)
     (z6o n ((a.cases.length:Int) != (b.cases.length:Int)) b a))
def z6o:Nat->Bool->kz3->kz3->Ot Bool
 |0,_,_,_=>none
 |n+1,a,b,c=>
  pIf a
   (some false)
   (zb0 n 0 b c)
def zb0:Nat->Int->kz3->kz3->Ot Bool
 |0,_,_,_=>none
 |n+1,a,b,c=>
  pIf (decide (a<(c.params.length:Int)))
   ((ix c.params a).bind λe=>
   (ix b.params a).bind λd=>
   pIf (!(e==d))
    (some false)
    (zb0 n (IntKind.i64.wrap (a+1)) b c))
   (zaz n 0 b c)
def zaz:Nat->Int->kz3->kz3->Ot Bool
 |0,_,_,_=>none
 |n+1,a,b,c=>
  pIf (decide (a<(c.cases.length:Int)))
   ((ix c.cases a).bind λg=>
   (ix b.cases a).bind λe=>
   (zit n g.re e.re).bind λd=>
   pIf (!d)
    (some false)
    (zaz n (IntKind.i64.wrap (a+1)) b c))
   (some true)
end
def y4s:LSh:=⟨[(4,dB)],[],0,67,[]⟩
def zqn:FI dat:=FI.of dat 33 67 0 [dT 7,dT 7] [] [dB] [] true y4s (R:=Bool) Prod.fst (·,()) (λn=>u2 (ziw n))
 (λn=>[(0,⟨⟨[(3,(.ptr 0 0)),(2,(.ptr 1 0)),(29,dB)],[(.st 7),(.st 7)],0,67,[]⟩,u3 (z6o n)⟩),(1,⟨⟨[(5,dI),(3,(.ptr 0 0)),(2,(.ptr 1 0))],[(.st 7),(.st 7)],0,67,[]⟩,u3 (zb0 n)⟩),(2,⟨⟨[(6,dI),(3,(.ptr 0 0)),(2,(.ptr 1 0))],[(.st 7),(.st 7)],0,67,[]⟩,u3 (zaz n)⟩)]) (anb [(5,0),(14,1),(35,2)] f33)
def y41:FOk prog zqn:=okF (bs:=[zrk]) ⟨y2z,trivial⟩ func33 ntmps33 call33
 (λ_ _=>tr (ziw.eq_2 ..))
 (λn=>⟨λ_=>tr (z6o.eq_2 ..),
  λ_=>tr (zb0.eq_2 ..),
  λ_=>tr (zaz.eq_2 ..),
  trivial⟩)
mutual
def zs5:Nat->zz0->zz0->Ot Bool
 |0,_,_=>none
 |n+1,a,b=>
  pIf ((a.attrs.length:Int) != (b.attrs.length:Int))
   (zha n true b a)
   (zha n ((a.rules.length:Int) != (b.rules.length:Int)) b a)
def zha:Nat->Bool->zz0->zz0->Ot Bool
 |0,_,_,_=>none
 |n+1,a,b,c=>
  pIf a
   (some false)
   (zh8 n 0 b c)
def zh8:Nat->Int->zz0->zz0->Ot Bool
 |0,_,_,_=>none
 |n+1,a,b,c=>
  pIf (decide (a<(c.attrs.length:Int)))
   ((ix c.attrs a).bind λi=>
   (ix b.attrs a).bind λh=>
   pIf (!(i.name==h.name))
    (zgq n a true b c)
    ((ix c.attrs a).bind λg=>
    (ix b.attrs a).bind λe=>
    (zef n g.value.re e.value.re).bind λd=>
    zgq n a (!d) b c))
   (zgs n 0 b c)
def zgq:Nat->Int->Bool->zz0->zz0->Ot Bool
 |0,_,_,_,_=>none
 |n+1,a,b,c,d=>
  pIf b
   (some false)
   (zh8 n (IntKind.i64.wrap (a+1)) c d)
def zgs:Nat->Int->zz0->zz0->Ot Bool
 |0,_,_,_=>none
 |n+1,a,b,c=>
  pIf (decide (a<(c.rules.length:Int)))
   ((ix c.rules a).bind λg=>
   (ix b.rules a).bind λe=>
   (ziw n g e).bind λd=>
   pIf (!d)
    (some false)
    (zgs n (IntKind.i64.wrap (a+1)) b c))
   (some true)
end
def ym0:LSh:=⟨[(4,dB)],[],0,78,[]⟩
def zve:FI dat:=FI.of dat 15 78 0 [dT 8,dT 8] [] [dB] [] true ym0 (R:=Bool) Prod.fst (·,()) (λn=>u2 (zs5 n))
 (λn=>[(0,⟨⟨[(3,(.ptr 0 0)),(2,(.ptr 1 0)),(22,dB)],[(.st 8),(.st 8)],0,78,[]⟩,u3 (zha n)⟩),(1,⟨⟨[(5,dI),(3,(.ptr 0 0)),(2,(.ptr 1 0))],[(.st 8),(.st 8)],0,78,[]⟩,u3 (zh8 n)⟩),(2,⟨⟨[(3,(.ptr 0 0)),(2,(.ptr 1 0)),(5,dI),(58,dB)],[(.st 8),(.st 8)],0,78,[]⟩,u4 (zgq n)⟩),(3,⟨⟨[(6,dI),(3,(.ptr 0 0)),(2,(.ptr 1 0))],[(.st 8),(.st 8)],0,78,[]⟩,u3 (zgs n)⟩)]) (anb [(5,0),(14,1),(25,2),(35,3)] f15)
def yhy:FOk prog zve:=okF (bs:=[zdr,zqn]) ⟨zsf,y41,trivial⟩ func15 ntmps15 call15
 (λ_ _=>tr (zs5.eq_2 ..))
 (λn=>⟨λ_=>tr (zha.eq_2 ..),
  λ_=>tr (zh8.eq_2 ..),
  λ_=>tr (zgq.eq_2 ..),
  λ_=>tr (zgs.eq_2 ..),
  trivial⟩)
def z6l:Nat->Option (Res (B8×Unit) Bool)
 |0=>none
 |n+1=>
  (yzy n 1).bind λy=>
  (yzy n 2).bind λx=>
  (z3p n y x).bind λw=>
  zsc w (λp=>
   (yzy n 1).bind λu=>
   (yzy n 2).bind λs=>
   (z4m n u s).bind λr=>
   zsc r (λo=>
    (zoh n [(z2i.mk [97,47,98,91,49,93,47,99] 1 [])] [98] [100]).bind λb=>
    (yzy n 1).bind λq=>
    (yzy n 2).bind λi=>
    (ix i.rules 2).bind λk=>
    (zsh n q [(z0x.mk 3 [] [] k (yz1.mk 0 (zz1.mk 0 (yz6.mk 0 0) false [] []) [] []))]).bind λa=>
    pIf (p.2==0)
     ((z88 n p.1 [[99]]).bind λh=>
     pIf h
      (pIf (o.2==0)
        ((z88 n o.1 [[97],[98],[99]]).bind λg=>
        pIf g
         (pIf (b.2==0)
           (pIf ((b.1.length:Int)==1)
             ((ix b.1 0).bind λj=>
             pIf (j.path==[97,47,100,91,49,93,47,99])
              (pIf (a.1==0)
                ((yzy n 2).bind λe=>
                (zs5 n a.2 e).bind λd=>
                some (Res.ok d))
                (some (Res.ok false)))
              (some (Res.ok false)))
             (some (Res.ok false)))
           (some (Res.ok false)))
         (some (Res.ok false)))
        (some (Res.ok false)))
      (some (Res.ok false)))
     (some (Res.ok false)))
    (λm=>
    some (Res.pan (m.1,()))))
   (λl=>
   some (Res.pan (l.1,())))
def zwz:LSh:=⟨[(0,dB)],[],0,79,[]⟩
def z8c:FI dat:=FI.ofP dat 11 79 0 [] [] [dB] [] (.iface 9 dS) [] [] zwz (R:=Bool) Prod.fst (·,()) (λn x=>z6l n)
 (λn=>[]) (anb [] f11)
def zx7:List (FI dat):=[zal,z96,zfv,zsa,zvo,zkv,zve]
def zxh:(z8c).Good prog dat (tb zx7):=FI.zk5 (hD:=kzg _) func11 ntmps11 call11 (by kernel_rfl) (Qac (by kernel_rfl)) (by kernel_rfl) (λn=>by kernel_rfl) trivial (λx=>by kernel_rfl) (λ_=>rfl) trivial
 (λn=>λx=>(z6l.eq_2 n).trans (by kernel_rfl))
 (λn=>trivial)
 (λx=>by kernel_rfl)
def zyp:OkL prog [z8c]:=zs9 (kzg _) (bs:=[zal,z96,zfv,zsa,zvo,zkv,zve]) ⟨zwc,zul,zwr,yeb,yhm,y2e,yhy,trivial⟩ zxh
def zwm:FOk prog z8c:=zyp.1
mutual
def zat:Nat->zz1->Int->Ot Bool
 |0,_,_=>none
 |n+1,a,b=>
  pIf (b==0)
   (z3d n b true a.re)
   (pIf (decide ((a.str.length:Int)>200))
     (z3d n b true a.re)
     (z3d n b (decide ((a.list.length:Int)>150)) a.re))
def z3d:Nat->Int->Bool->zz1->Ot Bool
 |0,_,_,_=>none
 |n+1,a,b,c=>
  pIf b
   (some true)
   (z61 n 0 a c.re)
def z61:Nat->Int->Int->zz1->Ot Bool
 |0,_,_,_=>none
 |n+1,a,b,c=>
  pIf (decide (a<(c.list.length:Int)))
   ((ix c.list a).bind λe=>
   (zat n e.re (IntKind.i64.wrap (b-1))).bind λd=>
   pIf d
    (some true)
    (z61 n (IntKind.i64.wrap (a+1)) b c.re))
   (some false)
end
def yi0:LSh:=⟨[(4,dB)],[],0,35,[]⟩
def zib:FI dat:=FI.of dat 191 35 0 [dT 1,dI] [] [dB] [] true yi0 (R:=Bool) Prod.fst (·,()) (λn=>u2 (zat n))
 (λn=>[(0,⟨⟨[(1,dI),(2,(.ptr 0 0)),(19,dB)],[(.st 1)],0,35,[]⟩,u3 (z3d n)⟩),(1,⟨⟨[(5,dI),(1,dI),(2,(.ptr 0 0))],[(.st 1)],0,35,[]⟩,u3 (z61 n)⟩)]) (anb [(5,0),(14,1)] f191)
def yir:List (FI dat):=[zib]++[]
def yk4:(zib).Good prog dat (tb yir):=FI.z3q (hD:=kzg _) func191 ntmps191 call191 (by kernel_rfl) (Qac (by kernel_rfl)) (by kernel_rfl) (λn=>by kernel_rfl) (λx=>by kernel_rfl) (λ_=>rfl) ⟨λ_=>rfl,λ_=>rfl,trivial⟩
 (λ_ _=>tr (zat.eq_2 ..))
 (λn=>⟨λ_=>tr (z3d.eq_2 ..),
  λ_=>tr (z61.eq_2 ..),
  trivial⟩)
 (λx=>.inl rfl)
def yk8:OkL prog [zib]:=z8u (kzg _) (bs:=[]) trivial ⟨yk4,trivial⟩
def ydq:FOk prog zib:=yk8.1
mutual
def z8j:Nat->zz1->Ot Int
 |0,_=>none
 |n+1,a=>
  z5j n 0 1 a.re
def z5j:Nat->Int->Int->zz1->Ot Int
 |0,_,_,_=>none
 |n+1,a,b,c=>
  pIf (decide (a<(c.list.length:Int)))
   (z5v n a b (c.kind==4) c.re)
   (z5v n a b false c.re)
def z5v:Nat->Int->Int->Bool->zz1->Ot Int
 |0,_,_,_,_=>none
 |n+1,a,b,c,d=>
  pIf c
   ((ix d.list a).bind λg=>
   (z8j n g.re).bind λe=>
   z5j n (IntKind.i64.wrap (a+1)) (IntKind.i64.wrap (b+e)) d.re)
   (some b)
end
def yk3:LSh:=⟨[(2,dI)],[],0,26,[]⟩
def zek:FI dat:=FI.of dat 192 26 0 [dT 1] [] [dI] [] true yk3 (R:=Int) Prod.fst (·,()) (λn=>u1 (z8j n))
 (λn=>[(0,⟨⟨[(4,dI),(1,(.ptr 0 0)),(3,dI)],[(.st 1)],0,26,[]⟩,u3 (z5j n)⟩),(1,⟨⟨[(1,(.ptr 0 0)),(4,dI),(3,dI),(14,dB)],[(.st 1)],0,26,[]⟩,u4 (z5v n)⟩)]) (anb [(8,0),(12,1)] f192)
def yhq:List (FI dat):=[zek]++[]
def yi6:(zek).Good prog dat (tb yhq):=FI.z3q (hD:=kzg _) func192 ntmps192 call192 (by kernel_rfl) (Qac (by kernel_rfl)) (by kernel_rfl) (λn=>by kernel_rfl) (λx=>by kernel_rfl) (λ_=>rfl) ⟨λ_=>rfl,λ_=>rfl,trivial⟩
 (λ_ _=>tr (z8j.eq_2 ..))
 (λn=>⟨λ_=>tr (z5j.eq_2 ..),
  λ_=>tr (z5v.eq_2 ..),
  trivial⟩)
 (λx=>.inl rfl)
def yia:OkL prog [zek]:=z8u (kzg _) (bs:=[]) trivial ⟨yi6,trivial⟩
def zy6:FOk prog zek:=yia.1
def zd9:Nat->zz1->Ot Bool
 |0,_=>none
 |n+1,a=>
  (zat n a.re 10).bind λd=>
  pIf d
   (some true)
   ((z8j n a.re).bind λb=>
   some (decide (b>150)))
def yin:LSh:=⟨[(2,dB)],[],0,10,[]⟩
def zsu:FI dat:=FI.of dat 161 10 0 [dT 1] [] [dB] [] true yin (R:=Bool) Prod.fst (·,()) (λn=>u1 (zd9 n))
 (λn=>[]) (anb [] f161)
def yft:FOk prog zsu:=okF (bs:=[zib,zek]) ⟨ydq,zy6,trivial⟩ func161 ntmps161 call161
 (λ_ _=>tr (zd9.eq_2 ..))
 (λn=>trivial)
mutual
def zas:Nat->yz1->Int->Ot Bool
 |0,_,_=>none
 |n+1,a,b=>
  pIf (b==0)
   (z1l n b true a.re)
   (pIf (decide ((a.args.length:Int)>150))
     (z1l n b true a.re)
     (pIf (decide ((a.name.length:Int)>200))
       (z1l n b true a.re)
       ((zd9 n a.value.re).bind λd=>
       z1l n b d a.re)))
def z1l:Nat->Int->Bool->yz1->Ot Bool
 |0,_,_,_=>none
 |n+1,a,b,c=>
  pIf b
   (some true)
   (z5u n 0 a c.re)
def z5u:Nat->Int->Int->yz1->Ot Bool
 |0,_,_,_=>none
 |n+1,a,b,c=>
  pIf (decide (a<(c.args.length:Int)))
   ((ix c.args a).bind λe=>
   (zas n e.re (IntKind.i64.wrap (b-1))).bind λd=>
   pIf d
    (some true)
    (z5u n (IntKind.i64.wrap (a+1)) b c.re))
   (some false)
end
def yjw:LSh:=⟨[(4,dB)],[],0,40,[]⟩
def zie:FI dat:=FI.of dat 114 40 0 [dT 2,dI] [] [dB] [] true yjw (R:=Bool) Prod.fst (·,()) (λn=>u2 (zas n))
 (λn=>[(0,⟨⟨[(1,dI),(2,(.ptr 0 0)),(24,dB)],[(.st 2)],0,40,[]⟩,u3 (z1l n)⟩),(1,⟨⟨[(5,dI),(1,dI),(2,(.ptr 0 0))],[(.st 2)],0,40,[]⟩,u3 (z5u n)⟩)]) (anb [(5,0),(14,1)] f114)
def yji:List (FI dat):=[zie]++[zsu]
def yh6:(zie).Good prog dat (tb yji):=FI.z3q (hD:=kzg _) func114 ntmps114 call114 (by kernel_rfl) (Qac (by kernel_rfl)) (by kernel_rfl) (λn=>by kernel_rfl) (λx=>by kernel_rfl) (λ_=>rfl) ⟨λ_=>rfl,λ_=>rfl,trivial⟩
 (λ_ _=>tr (zas.eq_2 ..))
 (λn=>⟨λ_=>tr (z1l.eq_2 ..),
  λ_=>tr (z5u.eq_2 ..),
  trivial⟩)
 (λx=>.inl rfl)
def yhi:OkL prog [zie]:=z8u (kzg _) (bs:=[zsu]) ⟨yft,trivial⟩ ⟨yh6,trivial⟩
def ycu:FOk prog zie:=yhi.1
mutual
def z8f:Nat->yz1->Ot Int
 |0,_=>none
 |n+1,a=>
  z5b n 0 1 a.re
def z5b:Nat->Int->Int->yz1->Ot Int
 |0,_,_,_=>none
 |n+1,a,b,c=>
  pIf (decide (a<(c.args.length:Int)))
   ((ix c.args a).bind λe=>
   (z8f n e.re).bind λd=>
   z5b n (IntKind.i64.wrap (a+1)) (IntKind.i64.wrap (b+d)) c.re)
   (some b)
end
def yil:LSh:=⟨[(2,dI)],[],0,21,[]⟩
def zeg:FI dat:=FI.of dat 115 21 0 [dT 2] [] [dI] [] true yil (R:=Int) Prod.fst (·,()) (λn=>u1 (z8f n))
 (λn=>[(0,⟨⟨[(4,dI),(1,(.ptr 0 0)),(3,dI)],[(.st 2)],0,21,[]⟩,u3 (z5b n)⟩)]) (anb [(8,0)] f115)
def yh1:List (FI dat):=[zeg]++[]
def yjt:(zeg).Good prog dat (tb yh1):=FI.z3q (hD:=kzg _) func115 ntmps115 call115 (by kernel_rfl) (Qac (by kernel_rfl)) (by kernel_rfl) (λn=>by kernel_rfl) (λx=>by kernel_rfl) (λ_=>rfl) ⟨λ_=>rfl,trivial⟩
 (λ_ _=>tr (z8f.eq_2 ..))
 (λn=>⟨λ_=>tr (z5b.eq_2 ..),
  trivial⟩)
 (λx=>.inl rfl)
def yj3:OkL prog [zeg]:=z8u (kzg _) (bs:=[]) trivial ⟨yjt,trivial⟩
def zy2:FOk prog zeg:=yj3.1
def z63:Nat->yz1->Ot Bool
 |0,_=>none
 |n+1,a=>
  (zas n a.re 16).bind λd=>
  pIf d
   (some true)
   ((z8f n a.re).bind λb=>
   some (decide (b>150)))
def yig:LSh:=⟨[(2,dB)],[],0,10,[]⟩
def zsw:FI dat:=FI.of dat 66 10 0 [dT 2] [] [dB] [] true yig (R:=Bool) Prod.fst (·,()) (λn=>u1 (z63 n))
 (λn=>[]) (anb [] f66)
def zx0:FOk prog zsw:=okF (bs:=[zie,zeg]) ⟨ycu,zy2,trivial⟩ func66 ntmps66 call66
 (λ_ _=>tr (z63.eq_2 ..))
 (λn=>trivial)
mutual
def z7r:Nat->yz5->Ot Bool
 |0,_=>none
 |n+1,a=>
  pIf (decide ((a.do_.length:Int)>15))
   (z1i n true a.re)
   ((z63 n a.when_.re).bind λb=>
   z1i n b a.re)
def z1i:Nat->Bool->yz5->Ot Bool
 |0,_,_=>none
 |n+1,a,b=>
  pIf a
   (some true)
   (z0b n 0 b.re)
def z0b:Nat->Int->yz5->Ot Bool
 |0,_,_=>none
 |n+1,a,b=>
  pIf (decide (a<(b.do_.length:Int)))
   ((ix b.do_ a).bind λi=>
   (z2g n i.args).bind λe=>
   (z63 n e.re).bind λd=>
   pIf d
    (z0d n a true b.re)
    ((ix b.do_ a).bind λh=>
    pIf (decide ((h.items.length:Int)>15))
     (z0d n a true b.re)
     ((ix b.do_ a).bind λg=>
     z0d n a (decide ((g.name.length:Int)>100)) b.re)))
   (some false)
def z0d:Nat->Int->Bool->yz5->Ot Bool
 |0,_,_,_=>none
 |n+1,a,b,c=>
  pIf b
   (some true)
   (z0c n 0 a c.re)
def z0c:Nat->Int->Int->yz5->Ot Bool
 |0,_,_,_=>none
 |n+1,a,b,c=>
  (ix c.do_ b).bind λk=>
  pIf (decide (a<(k.items.length:Int)))
   ((ix c.do_ b).bind λj=>
   (ix j.items a).bind λi=>
   (z2g n i.args).bind λh=>
   (z63 n h.re).bind λd=>
   pIf d
    (z1h n b a true c.re)
    ((ix c.do_ b).bind λg=>
    (ix g.items a).bind λe=>
    z1h n b a (decide ((e.name.length:Int)>100)) c.re))
   (z0b n (IntKind.i64.wrap (b+1)) c.re)
def z1h:Nat->Int->Int->Bool->yz5->Ot Bool
 |0,_,_,_,_=>none
 |n+1,a,b,c,d=>
  pIf c
   (some true)
   (z0c n (IntKind.i64.wrap (b+1)) a d.re)
end
def y5d:LSh:=⟨[(2,dB)],[],0,86,[]⟩
def zqq:FI dat:=FI.of dat 67 86 0 [dT 6] [] [dB] [] true y5d (R:=Bool) Prod.fst (·,()) (λn=>u1 (z7r n))
 (λn=>[(0,⟨⟨[(1,(.ptr 0 0)),(13,dB)],[(.st 6)],0,86,[]⟩,u2 (z1i n)⟩),(1,⟨⟨[(3,dI),(1,(.ptr 0 0))],[(.st 6)],0,86,[]⟩,u2 (z0b n)⟩),(2,⟨⟨[(3,dI),(1,(.ptr 0 0)),(48,dB)],[(.st 6)],0,86,[]⟩,u3 (z0d n)⟩),(3,⟨⟨[(4,dI),(3,dI),(1,(.ptr 0 0))],[(.st 6)],0,86,[]⟩,u3 (z0c n)⟩),(4,⟨⟨[(3,dI),(1,(.ptr 0 0)),(4,dI),(85,dB)],[(.st 6)],0,86,[]⟩,u4 (z1h n)⟩)]) (anb [(5,0),(14,1),(26,2),(34,3),(45,4)] f67)
def y3t:FOk prog zqq:=okF (bs:=[zsw,znj]) ⟨zx0,zsx,trivial⟩ func67 ntmps67 call67
 (λ_ _=>tr (z7r.eq_2 ..))
 (λn=>⟨λ_=>tr (z1i.eq_2 ..),
  λ_=>tr (z0b.eq_2 ..),
  λ_=>tr (z0d.eq_2 ..),
  λ_=>tr (z0c.eq_2 ..),
  λ_=>tr (z1h.eq_2 ..),
  trivial⟩)
mutual
def zct:Nat->zz0->Ot Bool
 |0,_=>none
 |n+1,a=>
  pIf (decide ((a.attrs.length:Int)>25))
   (z6c n true a)
   (z6c n (decide ((a.rules.length:Int)>45)) a)
def z6c:Nat->Bool->zz0->Ot Bool
 |0,_,_=>none
 |n+1,a,b=>
  pIf a
   (some true)
   (z38 n 0 b)
def z38:Nat->Int->zz0->Ot Bool
 |0,_,_=>none
 |n+1,a,b=>
  pIf (decide (a<(b.attrs.length:Int)))
   ((ix b.attrs a).bind λg=>
   (z63 n g.value.re).bind λd=>
   pIf d
    (z5t n a true b)
    ((ix b.attrs a).bind λe=>
    z5t n a (decide ((e.name.length:Int)>100)) b))
   (z3b n 0 b)
def z5t:Nat->Int->Bool->zz0->Ot Bool
 |0,_,_,_=>none
 |n+1,a,b,c=>
  pIf b
   (some true)
   (z38 n (IntKind.i64.wrap (a+1)) c)
def z3b:Nat->Int->zz0->Ot Bool
 |0,_,_=>none
 |n+1,a,b=>
  pIf (decide (a<(b.rules.length:Int)))
   ((ix b.rules a).bind λd=>
   pIf (decide ((d.params.length:Int)>10))
    (z3e n a true d b)
    (pIf (decide ((d.cases.length:Int)>10))
      (z3e n a true d b)
      (z3e n a (decide ((d.name.length:Int)>100)) d b)))
   (some false)
def z3e:Nat->Int->Bool->kz3->zz0->Ot Bool
 |0,_,_,_,_=>none
 |n+1,a,b,c,d=>
  pIf b
   (some true)
   (z3f n 0 a c d)
def z3f:Nat->Int->Int->kz3->zz0->Ot Bool
 |0,_,_,_,_=>none
 |n+1,a,b,c,d=>
  pIf (decide (a<(c.params.length:Int)))
   ((ix c.params a).bind λe=>
   pIf (decide ((e.length:Int)>100))
    (some true)
    (z3f n (IntKind.i64.wrap (a+1)) b c d))
   (z35 n 0 b c d)
def z35:Nat->Int->Int->kz3->zz0->Ot Bool
 |0,_,_,_,_=>none
 |n+1,a,b,c,d=>
  pIf (decide (a<(c.cases.length:Int)))
   ((ix c.cases a).bind λg=>
   (z7r n g.re).bind λe=>
   pIf e
    (some true)
    (z35 n (IntKind.i64.wrap (a+1)) b c d))
   (z3b n (IntKind.i64.wrap (b+1)) d)
end
def yhb:LSh:=⟨[(2,dB)],[],0,97,[]⟩
def y1m:FI dat:=FI.of dat 29 97 0 [dT 8] [] [dB] [] true yhb (R:=Bool) Prod.fst (·,()) (λn=>u1 (zct n))
 (λn=>[(0,⟨⟨[(1,(.ptr 0 0)),(17,dB)],[(.st 8)],0,97,[]⟩,u2 (z6c n)⟩),(1,⟨⟨[(3,dI),(1,(.ptr 0 0))],[(.st 8)],0,97,[]⟩,u2 (z38 n)⟩),(2,⟨⟨[(1,(.ptr 0 0)),(3,dI),(41,dB)],[(.st 8)],0,97,[]⟩,u3 (z5t n)⟩),(3,⟨⟨[(4,dI),(1,(.ptr 0 0))],[(.st 8)],0,97,[]⟩,u2 (z3b n)⟩),(4,⟨⟨[(5,(.ptr 0 0)),(1,(.ptr 1 0)),(4,dI),(69,dB)],[(.st 7),(.st 8)],0,97,[]⟩,u4 (z3e n)⟩),(5,⟨⟨[(6,dI),(5,(.ptr 0 0)),(1,(.ptr 1 0)),(4,dI)],[(.st 7),(.st 8)],0,97,[]⟩,u4 (z3f n)⟩),(6,⟨⟨[(7,dI),(5,(.ptr 0 0)),(1,(.ptr 1 0)),(4,dI)],[(.st 7),(.st 8)],0,97,[]⟩,u4 (z35 n)⟩)]) (anb [(5,0),(14,1),(25,2),(35,3),(49,4),(58,5),(78,6)] f29)
def yd4:FOk prog y1m:=okF (bs:=[zsw,zqq]) ⟨zx0,y3t,trivial⟩ func29 ntmps29 call29
 (λ_ _=>tr (zct.eq_2 ..))
 (λn=>⟨λ_=>tr (z6c.eq_2 ..),
  λ_=>tr (z38.eq_2 ..),
  λ_=>tr (z5t.eq_2 ..),
  λ_=>tr (z3b.eq_2 ..),
  λ_=>tr (z3e.eq_2 ..),
  λ_=>tr (z3f.eq_2 ..),
  λ_=>tr (z35.eq_2 ..),
  trivial⟩)
mutual
def zed:Nat->zz0->Ot Bool
 |0,_=>none
 |n+1,a=>
  pIf (decide ((a.attrs.length:Int)>20))
   (z7l n true a)
   (z7l n (decide ((a.rules.length:Int)>40)) a)
def z7l:Nat->Bool->zz0->Ot Bool
 |0,_,_=>none
 |n+1,a,b=>
  pIf a
   (some true)
   (z4o n 0 b)
def z4o:Nat->Int->zz0->Ot Bool
 |0,_,_=>none
 |n+1,a,b=>
  pIf (decide (a<(b.rules.length:Int)))
   ((ix b.rules a).bind λd=>
   pIf (decide ((d.params.length:Int)>4))
    (z7p n a true d b)
    (z7p n a (decide ((d.cases.length:Int)>6)) d b))
   (some false)
def z7p:Nat->Int->Bool->kz3->zz0->Ot Bool
 |0,_,_,_,_=>none
 |n+1,a,b,c,d=>
  pIf b
   (some true)
   (z4j n 0 a c d)
def z4j:Nat->Int->Int->kz3->zz0->Ot Bool
 |0,_,_,_,_=>none
 |n+1,a,b,c,d=>
  pIf (decide (a<(c.cases.length:Int)))
   ((ix c.cases a).bind λe=>
   pIf (decide ((e.do_.length:Int)>10))
    (some true)
    (z4p n 0 a b c d))
   (z4o n (IntKind.i64.wrap (b+1)) d)
def z4p:Nat->Int->Int->Int->kz3->zz0->Ot Bool
 |0,_,_,_,_,_=>none
 |n+1,a,b,c,d,e=>
  (ix d.cases b).bind λi=>
  pIf (decide (a<(i.do_.length:Int)))
   ((ix d.cases b).bind λh=>
   (ix h.do_ a).bind λg=>
   pIf (decide ((g.items.length:Int)>10))
    (some true)
    (z4p n (IntKind.i64.wrap (a+1)) b c d e))
   (z4j n (IntKind.i64.wrap (b+1)) c d e)
end
def yo7:LSh:=⟨[(2,dB)],[],0,77,[]⟩
def y5u:FI dat:=FI.of dat 68 77 0 [dT 8] [] [dB] [] true yo7 (R:=Bool) Prod.fst (·,()) (λn=>u1 (zed n))
 (λn=>[(0,⟨⟨[(1,(.ptr 0 0)),(16,dB)],[(.st 8)],0,77,[]⟩,u2 (z7l n)⟩),(1,⟨⟨[(3,dI),(1,(.ptr 0 0))],[(.st 8)],0,77,[]⟩,u2 (z4o n)⟩),(2,⟨⟨[(4,(.ptr 0 0)),(1,(.ptr 1 0)),(3,dI),(38,dB)],[(.st 7),(.st 8)],0,77,[]⟩,u4 (z7p n)⟩),(3,⟨⟨[(5,dI),(4,(.ptr 0 0)),(1,(.ptr 1 0)),(3,dI)],[(.st 7),(.st 8)],0,77,[]⟩,u4 (z4j n)⟩),(4,⟨⟨[(6,dI),(5,dI),(4,(.ptr 0 0)),(1,(.ptr 1 0)),(3,dI)],[(.st 7),(.st 8)],0,77,[]⟩,u5 (z4p n)⟩)]) (anb [(5,0),(14,1),(28,2),(36,3),(56,4)] f68)
def yii:FOk prog y5u:=okF (bs:=[]) trivial func68 ntmps68 call68
 (λ_ _=>tr (zed.eq_2 ..))
 (λn=>⟨λ_=>tr (z7l.eq_2 ..),
  λ_=>tr (z4o.eq_2 ..),
  λ_=>tr (z7p.eq_2 ..),
  λ_=>tr (z4j.eq_2 ..),
  λ_=>tr (z4p.eq_2 ..),
  trivial⟩)
def zbi:Nat->Int->Ot Bool
 |0,_=>none
 |n+1,a=>
  pIf (decide (a>=97))
   (some (decide (a<=122)))
   (some false)
def yfm:LSh:=⟨[(2,dB)],[],0,9,[]⟩
def zwt:FI dat:=FI.of dat 193 9 0 [dU] [] [dB] [] true yfm (R:=Bool) Prod.fst (·,()) (λn=>u1 (zbi n))
 (λn=>[]) (anb [] f193)
def yax:FOk prog zwt:=okF (bs:=[]) trivial func193 ntmps193 call193
 (λn=>λ_=>tr (zbi.eq_2 _ n))
 (λn=>trivial)
def zd7:Nat->Int->Ot Bool
 |0,_=>none
 |n+1,a=>
  pIf (decide (a>=48))
   (some (decide (a<=57)))
   (some false)
def yjb:LSh:=⟨[(2,dB)],[],0,9,[]⟩
def y2i:FI dat:=FI.of dat 194 9 0 [dU] [] [dB] [] true yjb (R:=Bool) Prod.fst (·,()) (λn=>u1 (zd7 n))
 (λn=>[]) (anb [] f194)
def yfo:FOk prog y2i:=okF (bs:=[]) trivial func194 ntmps194 call194
 (λn=>λ_=>tr (zd7.eq_2 _ n))
 (λn=>trivial)
mutual
def zca:Nat->B8->Ot Bool
 |0,_=>none
 |n+1,a=>
  z0h n 0 a
def z0h:Nat->Int->B8->Ot Bool
 |0,_,_=>none
 |n+1,a,b=>
  pIf (decide (a<(b.length:Int)))
   ((ix b a).bind λi=>
   (zbi n (i.toNat:Int)).bind λe=>
   pIf (!e)
    (pIf (a==0)
      (z15 n b a true)
      ((ix b a).bind λh=>
      pIf ((h.toNat:Int) != 45)
       ((ix b a).bind λg=>
       (zd7 n (g.toNat:Int)).bind λd=>
       z15 n b a (!d))
       (z15 n b a false)))
    (z15 n b a false))
   (pIf (decide ((b.length:Int)>=1))
     (some (decide ((b.length:Int)<=40)))
     (some false))
def z15:Nat->B8->Int->Bool->Ot Bool
 |0,_,_,_=>none
 |n+1,a,b,c=>
  pIf c
   (some false)
   (z0h n (IntKind.i64.wrap (b+1)) a)
end
def yog:LSh:=⟨[(2,dB)],[],0,40,[]⟩
def zvz:FI dat:=FI.of dat 162 40 0 [dS] [] [dB] [] true yog (R:=Bool) Prod.fst (·,()) (λn=>u1 (zca n))
 (λn=>[(0,⟨⟨[(3,dI),(0,dS)],[],0,40,[]⟩,u2 (z0h n)⟩),(1,⟨⟨[(0,dS),(3,dI),(31,dB)],[],0,40,[]⟩,u3 (z15 n)⟩)]) (anb [(6,0),(17,1)] f162)
def y1r:FOk prog zvz:=okF (bs:=[zwt,y2i]) ⟨yax,yfo,trivial⟩ func162 ntmps162 call162
 (λ_ _=>tr (zca.eq_2 ..))
 (λn=>⟨λ_=>tr (z0h.eq_2 ..),
  λ_=>tr (z15.eq_2 ..),
  trivial⟩)
def zbc:Nat->B8->Ot Bool
 |0,_=>none
 |n+1,a=>
  pIf (a==[115,120])
   (some true)
   (pIf (a==[115,121])
     (some true)
     (some (a==[115,122])))
def yg6:LSh:=⟨[(2,dB)],[],0,13,[]⟩
def zxm:FI dat:=FI.of dat 163 13 0 [dS] [] [dB] [] true yg6 (R:=Bool) Prod.fst (·,()) (λn=>u1 (zbc n))
 (λn=>[]) (anb [] f163)
def ybb:FOk prog zxm:=okF (bs:=[]) trivial func163 ntmps163 call163
 (λn=>λ_=>tr (zbc.eq_2 _ n))
 (λn=>trivial)
def z54:Nat->B8->Ot Bool
 |0,_=>none
 |n+1,a=>
  (zca n a).bind λd=>
  pIf d
   (pIf (!(a==[116,114,117,101]))
     (pIf (!(a==[102,97,108,115,101]))
       ((zbc n a).bind λb=>
       some (!b))
       (some false))
     (some false))
   (some false)
def yp3:LSh:=⟨[(2,dB)],[],0,18,[]⟩
def zvc:FI dat:=FI.of dat 117 18 0 [dS] [] [dB] [] true yp3 (R:=Bool) Prod.fst (·,()) (λn=>u1 (z54 n))
 (λn=>[]) (anb [] f117)
def y21:FOk prog zvc:=okF (bs:=[zvz,zxm]) ⟨y1r,ybb,trivial⟩ func117 ntmps117 call117
 (λ_ _=>tr (z54.eq_2 ..))
 (λn=>trivial)
mutual
def zc5:Nat->yz1->Ot Int
 |0,_=>none
 |n+1,a=>
  z7f n 0 1 a.re
def z7f:Nat->Int->Int->yz1->Ot Int
 |0,_,_,_=>none
 |n+1,a,b,c=>
  pIf (decide (a<(c.args.length:Int)))
   ((ix c.args a).bind λe=>
   (zc5 n e.re).bind λd=>
   z7f n (IntKind.i64.wrap (a+1)) (mxI b (IntKind.i64.wrap (1+d))) c.re)
   (some b)
end
def ype:LSh:=⟨[(2,dI)],[],0,22,[]⟩
def zjw:FI dat:=FI.of dat 164 22 0 [dT 2] [] [dI] [] true ype (R:=Int) Prod.fst (·,()) (λn=>u1 (zc5 n))
 (λn=>[(0,⟨⟨[(4,dI),(1,(.ptr 0 0)),(3,dI)],[(.st 2)],0,22,[]⟩,u3 (z7f n)⟩)]) (anb [(8,0)] f164)
def ymg:List (FI dat):=[zjw]++[]
def ymw:(zjw).Good prog dat (tb ymg):=FI.z3q (hD:=kzg _) func164 ntmps164 call164 (by kernel_rfl) (Qac (by kernel_rfl)) (by kernel_rfl) (λn=>by kernel_rfl) (λx=>by kernel_rfl) (λ_=>rfl) ⟨λ_=>rfl,trivial⟩
 (λ_ _=>tr (zc5.eq_2 ..))
 (λn=>⟨λ_=>tr (z7f.eq_2 ..),
  trivial⟩)
 (λx=>.inl rfl)
def yp7:OkL prog [zjw]:=z8u (kzg _) (bs:=[]) trivial ⟨ymw,trivial⟩
def yhv:FOk prog zjw:=yp7.1
mutual
def zej:Nat->Int->Ot Int
 |0,_=>none
 |n+1,a=>
  pIf (a==1)
   (zad n a true)
   (zad n a (a==2))
def zad:Nat->Int->Bool->Ot Int
 |0,_,_=>none
 |n+1,a,b=>
  pIf b
   (some 0)
   (pIf (decide (a>=3))
     (pIf (decide (a<=10))
       (z01 n a true)
       (pIf (a==13)
         (z01 n a true)
         (pIf (a==14)
           (z01 n a true)
           (z01 n a (a==17)))))
     (pIf (a==13)
       (z01 n a true)
       (pIf (a==14)
         (z01 n a true)
         (z01 n a (a==17)))))
def z01:Nat->Int->Bool->Ot Int
 |0,_,_=>none
 |n+1,a,b=>
  pIf b
   (some 2)
   (pIf (a==11)
     (z7a n a true)
     (pIf (a==15)
       (z7a n a true)
       (z7a n a (a==16))))
def z7a:Nat->Int->Bool->Ot Int
 |0,_,_=>none
 |n+1,a,b=>
  pIf b
   (some 1)
   (pIf (a==12)
     (some 3)
     (pIf (a==18)
       (some (-1))
       (some (-2))))
end
def yp8:LSh:=⟨[(2,dI)],[],0,46,[]⟩
def zvb:FI dat:=FI.of dat 195 46 0 [dU] [] [dI] [] true yp8 (R:=Int) Prod.fst (·,()) (λn=>u1 (zej n))
 (λn=>[(0,⟨⟨[(0,dU),(3,dB)],[],0,46,[]⟩,u2 (zad n)⟩),(1,⟨⟨[(0,dU),(10,dB)],[],0,46,[]⟩,u2 (z01 n)⟩),(2,⟨⟨[(0,dU),(29,dB)],[],0,46,[]⟩,u2 (z7a n)⟩)]) (anb [(6,0),(12,1),(18,2)] f195)
def yi3:FOk prog zvb:=okF (bs:=[]) trivial func195 ntmps195 call195
 (λ_ _=>tr (zej.eq_2 ..))
 (λn=>⟨λ_=>tr (zad.eq_2 ..),
  λ_=>tr (z01.eq_2 ..),
  λ_=>tr (z7a.eq_2 _ _ n),
  trivial⟩)
mutual
def zcf:Nat->zz1->Ot Int
 |0,_=>none
 |n+1,a=>
  z7o n 0 1 a.re
def z7o:Nat->Int->Int->zz1->Ot Int
 |0,_,_,_=>none
 |n+1,a,b,c=>
  pIf (decide (a<(c.list.length:Int)))
   (z7j n a b (c.kind==4) c.re)
   (z7j n a b false c.re)
def z7j:Nat->Int->Int->Bool->zz1->Ot Int
 |0,_,_,_,_=>none
 |n+1,a,b,c,d=>
  pIf c
   ((ix d.list a).bind λg=>
   (zcf n g.re).bind λe=>
   z7o n (IntKind.i64.wrap (a+1)) (mxI b (IntKind.i64.wrap (1+e))) d.re)
   (some b)
end
def ym9:LSh:=⟨[(2,dI)],[],0,27,[]⟩
def zkr:FI dat:=FI.of dat 211 27 0 [dT 1] [] [dI] [] true ym9 (R:=Int) Prod.fst (·,()) (λn=>u1 (zcf n))
 (λn=>[(0,⟨⟨[(4,dI),(1,(.ptr 0 0)),(3,dI)],[(.st 1)],0,27,[]⟩,u3 (z7o n)⟩),(1,⟨⟨[(1,(.ptr 0 0)),(4,dI),(3,dI),(14,dB)],[(.st 1)],0,27,[]⟩,u4 (z7j n)⟩)]) (anb [(8,0),(12,1)] f211)
def ymd:List (FI dat):=[zkr]++[]
def yoo:(zkr).Good prog dat (tb ymd):=FI.z3q (hD:=kzg _) func211 ntmps211 call211 (by kernel_rfl) (Qac (by kernel_rfl)) (by kernel_rfl) (λn=>by kernel_rfl) (λx=>by kernel_rfl) (λ_=>rfl) ⟨λ_=>rfl,λ_=>rfl,trivial⟩
 (λ_ _=>tr (zcf.eq_2 ..))
 (λn=>⟨λ_=>tr (z7o.eq_2 ..),
  λ_=>tr (z7j.eq_2 ..),
  trivial⟩)
 (λx=>.inl rfl)
def ymr:OkL prog [zkr]:=z8u (kzg _) (bs:=[]) trivial ⟨yoo,trivial⟩
def yhf:FOk prog zkr:=ymr.1
mutual
def zbd:Nat->Int->Int->Ot Int
 |0,_,_=>none
 |n+1,a,b=>
  z45 n b a
def z45:Nat->Int->Int->Ot Int
 |0,_,_=>none
 |n+1,a,b=>
  pIf (a != 0)
   ((rem .i64 b a).bind λd=>
   z45 n d a)
   (pIf (decide (b<0))
     (some (IntKind.i64.wrap (0-b)))
     (some b))
end
def yfx:LSh:=⟨[(4,dI)],[],0,16,[]⟩
def zyy:FI dat:=FI.of dat 219 16 0 [dI,dI] [] [dI] [] true yfx (R:=Int) Prod.fst (·,()) (λn=>u2 (zbd n))
 (λn=>[(0,⟨⟨[(1,dI),(0,dI)],[],0,16,[]⟩,u2 (z45 n)⟩)]) (anb [(4,0)] f219)
def yaz:FOk prog zyy:=okF (bs:=[]) trivial func219 ntmps219 call219
 (λ_ _=>tr (zbd.eq_2 ..))
 (λn=>⟨λ_=>tr (z45.eq_2 ..),
  trivial⟩)
mutual
def zda:Nat->yz6->Ot Int
 |0,_=>none
 |n+1,a=>
  pIf (decide (a.den<1))
   (z0j n true)
   (pIf (decide (a.den>1000000000))
     (z0j n true)
     (pIf (decide (a.num<(-1000000000)))
       (z0j n true)
       (pIf (decide (a.num>1000000000))
         (z0j n true)
         ((zbd n a.num a.den).bind λb=>
         z0j n (b != 1)))))
def z0j:Nat->Bool->Ot Int
 |0,_=>none
 |n+1,a=>
  pIf a
   (some 8)
   (some 0)
end
def ygz:LSh:=⟨[(2,dI)],[],0,29,[]⟩
def zs7:FI dat:=FI.of dat 216 29 0 [dT 0] [] [dI] [] true ygz (R:=Int) Prod.fst (·,()) (λn=>u1 (zda n))
 (λn=>[(0,⟨⟨[(28,dB)],[],0,29,[]⟩,u1 (z0j n)⟩)]) (anb [(5,0)] f216)
def yd7:FOk prog zs7:=okF (bs:=[zyy]) ⟨yaz,trivial⟩ func216 ntmps216 call216
 (λ_ _=>tr (zda.eq_2 ..))
 (λn=>⟨λ_=>tr (z0j.eq_2 _ n),
  trivial⟩)
mutual
def zc2:Nat->zz1->Ot Bool
 |0,_=>none
 |n+1,a=>
  pIf (a.kind==1)
   ((zda n a.num).bind λb=>
   pIf (b==0)
    (pIf (!a.truth)
      (pIf ((a.str.length:Int)==0)
        (some ((a.list.length:Int)==0))
        (some false))
      (some false))
    (some false))
   (pIf (a.kind==2)
     (pIf ((a.num.num==0)&&((a.num.den==0)&&true))
       (pIf ((a.str.length:Int)==0)
         (some ((a.list.length:Int)==0))
         (some false))
       (some false))
     (pIf (a.kind==3)
       (pIf (!((a.num.num==0)&&((a.num.den==0)&&true)))
         (z1a n true a.re)
         (pIf a.truth
           (z1a n true a.re)
           (pIf (decide ((a.list.length:Int)>0))
             (z1a n true a.re)
             (z1a n (decide ((a.str.length:Int)>60)) a.re))))
       (pIf (a.kind==4)
         (pIf (!((a.num.num==0)&&((a.num.den==0)&&true)))
           (z2t n true a.re)
           (pIf a.truth
             (z2t n true a.re)
             (z2t n (decide ((a.str.length:Int)>0)) a.re)))
         (some false))))
def z1a:Nat->Bool->zz1->Ot Bool
 |0,_,_=>none
 |n+1,a,b=>
  pIf a
   (some false)
   (z73 n 0 b.re)
def z73:Nat->Int->zz1->Ot Bool
 |0,_,_=>none
 |n+1,a,b=>
  pIf (decide (a<(b.str.length:Int)))
   ((ix b.str a).bind λe=>
   pIf (decide ((e.toNat:Int)<32))
    (z7g n a true b.re)
    ((ix b.str a).bind λd=>
    z7g n a (decide ((d.toNat:Int)>126)) b.re))
   (some true)
def z7g:Nat->Int->Bool->zz1->Ot Bool
 |0,_,_,_=>none
 |n+1,a,b,c=>
  pIf b
   (some false)
   (z73 n (IntKind.i64.wrap (a+1)) c.re)
def z2t:Nat->Bool->zz1->Ot Bool
 |0,_,_=>none
 |n+1,a,b=>
  pIf a
   (some false)
   (z81 n 0 b.re)
def z81:Nat->Int->zz1->Ot Bool
 |0,_,_=>none
 |n+1,a,b=>
  pIf (decide (a<(b.list.length:Int)))
   ((ix b.list a).bind λe=>
   (zc2 n e.re).bind λd=>
   pIf (!d)
    (some false)
    (z81 n (IntKind.i64.wrap (a+1)) b.re))
   (some true)
end
def ynx:LSh:=⟨[(2,dB)],[],0,121,[]⟩
def zkj:FI dat:=FI.of dat 212 121 0 [dT 1] [] [dB] [] true ynx (R:=Bool) Prod.fst (·,()) (λn=>u1 (zc2 n))
 (λn=>[(0,⟨⟨[(1,(.ptr 0 0)),(71,dB)],[(.st 1)],0,121,[]⟩,u2 (z1a n)⟩),(1,⟨⟨[(4,dI),(1,(.ptr 0 0))],[(.st 1)],0,121,[]⟩,u2 (z73 n)⟩),(2,⟨⟨[(1,(.ptr 0 0)),(4,dI),(90,dB)],[(.st 1)],0,121,[]⟩,u3 (z7g n)⟩),(3,⟨⟨[(1,(.ptr 0 0)),(106,dB)],[(.st 1)],0,121,[]⟩,u2 (z2t n)⟩),(4,⟨⟨[(5,dI),(1,(.ptr 0 0))],[(.st 1)],0,121,[]⟩,u2 (z81 n)⟩)]) (anb [(26,0),(35,1),(46,2),(61,3),(70,4)] f212)
def yo8:List (FI dat):=[zkj]++[zs7]
def ylm:(zkj).Good prog dat (tb yo8):=FI.z3q (hD:=kzg _) func212 ntmps212 call212 (by kernel_rfl) (Qac (by kernel_rfl)) (by kernel_rfl) (λn=>by kernel_rfl) (λx=>by kernel_rfl) (λ_=>rfl) ⟨λ_=>rfl,λ_=>rfl,λ_=>rfl,λ_=>rfl,λ_=>rfl,trivial⟩
 (λ_ _=>tr (zc2.eq_2 ..))
 (λn=>⟨λ_=>tr (z1a.eq_2 ..),
  λ_=>tr (z73.eq_2 ..),
  λ_=>tr (z7g.eq_2 ..),
  λ_=>tr (z2t.eq_2 ..),
  λ_=>tr (z81.eq_2 ..),
  trivial⟩)
 (λx=>.inl rfl)
def ylt:OkL prog [zkj]:=z8u (kzg _) (bs:=[zs7]) ⟨yd7,trivial⟩ ⟨ylm,trivial⟩
def yhl:FOk prog zkj:=ylt.1
mutual
def zdb:Nat->zz1->Ot Int
 |0,_=>none
 |n+1,a=>
  (z8j n a.re).bind λd=>
  pIf (decide (d>100))
   (z6b n true a.re)
   ((zcf n a.re).bind λb=>
   z6b n (decide (b>6)) a.re)
def z6b:Nat->Bool->zz1->Ot Int
 |0,_,_=>none
 |n+1,a,b=>
  pIf a
   (some 4)
   ((zc2 n b.re).bind λd=>
   pIf (!d)
    (some 8)
    (some 0))
end
def yio:LSh:=⟨[(2,dI)],[],0,14,[]⟩
def zso:FI dat:=FI.of dat 196 14 0 [dT 1] [] [dI] [] true yio (R:=Int) Prod.fst (·,()) (λn=>u1 (zdb n))
 (λn=>[(0,⟨⟨[(1,(.ptr 0 0)),(10,dB)],[(.st 1)],0,14,[]⟩,u2 (z6b n)⟩)]) (anb [(5,0)] f196)
def yfh:FOk prog zso:=okF (bs:=[zek,zkr,zkj]) ⟨zy6,yhf,yhl,trivial⟩ func196 ntmps196 call196
 (λ_ _=>tr (zdb.eq_2 ..))
 (λn=>⟨λ_=>tr (z6b.eq_2 ..),
  trivial⟩)
def zd0:Nat->B8->Ot Bool
 |0,_=>none
 |n+1,a=>
  (zca n a).bind λb=>
  pIf b
   (pIf (!(a==[116,114,117,101]))
     (some (!(a==[102,97,108,115,101])))
     (some false))
   (some false)
def yju:LSh:=⟨[(2,dB)],[],0,13,[]⟩
def zse:FI dat:=FI.of dat 197 13 0 [dS] [] [dB] [] true yju (R:=Bool) Prod.fst (·,()) (λn=>u1 (zd0 n))
 (λn=>[]) (anb [] f197)
def ye4:FOk prog zse:=okF (bs:=[zvz]) ⟨y1r,trivial⟩ func197 ntmps197 call197
 (λ_ _=>tr (zd0.eq_2 ..))
 (λn=>trivial)
mutual
def zcb:Nat->yz1->Ot Bool
 |0,_=>none
 |n+1,a=>
  (zej n a.op).bind λb=>
  pIf (b==(-2))
   (z4i n true a.re)
   (pIf (decide (b>=0))
     (z4i n ((a.args.length:Int) != b) a.re)
     (z4i n false a.re))
def z4i:Nat->Bool->yz1->Ot Bool
 |0,_,_=>none
 |n+1,a,b=>
  pIf a
   (some false)
   (pIf (b.op==1)
     ((zdb n b.value.re).bind λg=>
     pIf (g != 0)
      (z0f n true b.re)
      (pIf (b.value.kind==4)
        (z0f n true b.re)
        (pIf (b.op != 1)
          ((z3g n b.value.re (zz1.mk 0 (yz6.mk 0 0) false [] [])).bind λe=>
          z0f n (!e) b.re)
          (z0f n false b.re))))
     (pIf (b.op != 1)
       ((z3g n b.value.re (zz1.mk 0 (yz6.mk 0 0) false [] [])).bind λd=>
       z0f n (!d) b.re)
       (z0f n false b.re)))
def z0f:Nat->Bool->yz1->Ot Bool
 |0,_,_=>none
 |n+1,a,b=>
  pIf a
   (some false)
   (pIf (b.op==2)
     ((zd0 n b.name).bind λd=>
     pIf (!d)
      (z14 n true b.re)
      (pIf (b.op != 2)
        (z14 n (decide ((b.name.length:Int)>0)) b.re)
        (z14 n false b.re)))
     (pIf (b.op != 2)
       (z14 n (decide ((b.name.length:Int)>0)) b.re)
       (z14 n false b.re)))
def z14:Nat->Bool->yz1->Ot Bool
 |0,_,_=>none
 |n+1,a,b=>
  pIf a
   (some false)
   (z77 n 0 b.re)
def z77:Nat->Int->yz1->Ot Bool
 |0,_,_=>none
 |n+1,a,b=>
  pIf (decide (a<(b.args.length:Int)))
   ((ix b.args a).bind λe=>
   (zcb n e.re).bind λd=>
   pIf (!d)
    (some false)
    (z77 n (IntKind.i64.wrap (a+1)) b.re))
   (some true)
end
def ynv:LSh:=⟨[(2,dB)],[],0,82,[]⟩
def zkl:FI dat:=FI.of dat 165 82 0 [dT 2] [] [dB] [] true ynv (R:=Bool) Prod.fst (·,()) (λn=>u1 (zcb n))
 (λn=>[(0,⟨⟨[(1,(.ptr 0 0)),(20,dB)],[(.st 2)],0,82,[]⟩,u2 (z4i n)⟩),(1,⟨⟨[(1,(.ptr 0 0)),(47,dB)],[(.st 2)],0,82,[]⟩,u2 (z0f n)⟩),(2,⟨⟨[(1,(.ptr 0 0)),(67,dB)],[(.st 2)],0,82,[]⟩,u2 (z14 n)⟩),(3,⟨⟨[(4,dI),(1,(.ptr 0 0))],[(.st 2)],0,82,[]⟩,u2 (z77 n)⟩)]) (anb [(7,0),(15,1),(23,2),(32,3)] f165)
def yon:List (FI dat):=[zkl]++[zvb,zso,zbo,zse]
def yn0:(zkl).Good prog dat (tb yon):=FI.z3q (hD:=kzg _) func165 ntmps165 call165 (by kernel_rfl) (Qac (by kernel_rfl)) (by kernel_rfl) (λn=>by kernel_rfl) (λx=>by kernel_rfl) (λ_=>rfl) ⟨λ_=>rfl,λ_=>rfl,λ_=>rfl,λ_=>rfl,trivial⟩
 (λ_ _=>tr (zcb.eq_2 ..))
 (λn=>⟨λ_=>tr (z4i.eq_2 ..),
  λ_=>tr (z0f.eq_2 ..),
  λ_=>tr (z14.eq_2 ..),
  λ_=>tr (z77.eq_2 ..),
  trivial⟩)
 (λx=>.inl rfl)
def yor:OkL prog [zkl]:=z8u (kzg _) (bs:=[zvb,zso,zbo,zse]) ⟨yi3,yfh,y1e,ye4,trivial⟩ ⟨yn0,trivial⟩
def yjh:FOk prog zkl:=yor.1
mutual
def z2a:Nat->yz1->Ot Int
 |0,_=>none
 |n+1,a=>
  (z8f n a.re).bind λd=>
  pIf (decide (d>100))
   (z5l n true a.re)
   ((zc5 n a.re).bind λb=>
   z5l n (decide (b>12)) a.re)
def z5l:Nat->Bool->yz1->Ot Int
 |0,_,_=>none
 |n+1,a,b=>
  pIf a
   (some 4)
   ((zcb n b.re).bind λd=>
   pIf (!d)
    (some 8)
    (some 0))
end
def yi2:LSh:=⟨[(2,dI)],[],0,14,[]⟩
def zm0:FI dat:=FI.of dat 118 14 0 [dT 2] [] [dI] [] true yi2 (R:=Int) Prod.fst (·,()) (λn=>u1 (z2a n))
 (λn=>[(0,⟨⟨[(1,(.ptr 0 0)),(10,dB)],[(.st 2)],0,14,[]⟩,u2 (z5l n)⟩)]) (anb [(5,0)] f118)
def zo7:FOk prog zm0:=okF (bs:=[zeg,zjw,zkl]) ⟨zy2,yhv,yjh,trivial⟩ func118 ntmps118 call118
 (λ_ _=>tr (z2a.eq_2 ..))
 (λn=>⟨λ_=>tr (z5l.eq_2 ..),
  trivial⟩)
mutual
def zdx:Nat->Int->Ot Int
 |0,_=>none
 |n+1,a=>
  pIf (a==2)
   (z9k n a true)
   (z9k n a (a==3))
def z9k:Nat->Int->Bool->Ot Int
 |0,_,_=>none
 |n+1,a,b=>
  pIf b
   (some 3)
   (pIf (a==4)
     (z9b n true)
     (z9b n (a==6)))
def z9b:Nat->Bool->Ot Int
 |0,_=>none
 |n+1,a=>
  pIf a
   (some 1)
   (some 0)
end
def yq9:LSh:=⟨[(2,dI)],[],0,10,[]⟩
def zxn:FI dat:=FI.of dat 124 10 0 [dU] [] [dI] [] true yq9 (R:=Int) Prod.fst (·,()) (λn=>u1 (zdx n))
 (λn=>[(0,⟨⟨[(3,dU),(4,dB)],[],0,10,[]⟩,u2 (z9k n)⟩),(1,⟨⟨[(7,dB)],[],0,10,[]⟩,u1 (z9b n)⟩)]) (anb [(12,0),(22,1)] f124)
def y4w:FOk prog zxn:=okF (bs:=[]) trivial func124 ntmps124 call124
 (λ_ _=>tr (zdx.eq_2 ..))
 (λn=>⟨λ_=>tr (z9k.eq_2 ..),
  λ_=>tr (z9b.eq_2 _ n),
  trivial⟩)
mutual
def zbh:Nat->zz3->Ot Bool
 |0,_=>none
 |n+1,a=>
  pIf (decide (a.kind<1))
   (z0r n true a)
   (pIf (decide (a.kind>6))
     (z0r n true a)
     ((z2g n a.args).bind λe=>
     (z2a n e.re).bind λd=>
     pIf (d != 0)
      (z0r n true a)
      ((zdx n a.kind).bind λb=>
      z0r n (decide ((a.args.length:Int)<b)) a)))
def z0r:Nat->Bool->zz3->Ot Bool
 |0,_,_=>none
 |n+1,a,b=>
  pIf a
   (some false)
   (pIf (b.kind==4)
     (z47 n true b)
     (z47 n (b.kind==5) b))
def z47:Nat->Bool->zz3->Ot Bool
 |0,_,_=>none
 |n+1,a,b=>
  pIf a
   (pIf (decide (b.axis>2))
     (some false)
     (z3s n b))
   (pIf (b.axis != 0)
     (some false)
     (z3s n b))
def z3s:Nat->zz3->Ot Bool
 |0,_=>none
 |n+1,a=>
  pIf (a.kind==5)
   (z7t n true a)
   (z7t n (a.kind==6) a)
def z7t:Nat->Bool->zz3->Ot Bool
 |0,_,_=>none
 |n+1,a,b=>
  pIf a
   (pIf (decide ((b.name.length:Int)>0))
     (kzx n true b)
     (pIf (b.kind==5)
       (pIf (decide ((b.args.length:Int)>0))
         (kzx n true b)
         (pIf (b.kind==6)
           (kzx n (decide ((b.args.length:Int)>1)) b)
           (kzx n false b)))
       (pIf (b.kind==6)
         (kzx n (decide ((b.args.length:Int)>1)) b)
         (kzx n false b))))
   ((z54 n b.name).bind λd=>
   pIf (!d)
    (some false)
    (z42 n b))
def kzx:Nat->Bool->zz3->Ot Bool
 |0,_,_=>none
 |n+1,a,b=>
  pIf a
   (some false)
   (z42 n b)
def z42:Nat->zz3->Ot Bool
 |0,_=>none
 |n+1,a=>
  pIf (!((a.kind==5)==(decide ((a.items.length:Int)>0))))
   (some false)
   (z2d n 0 a)
def z2d:Nat->Int->zz3->Ot Bool
 |0,_,_=>none
 |n+1,a,b=>
  pIf (decide (a<(b.items.length:Int)))
   ((ix b.items a).bind λd=>
   pIf (decide (d.kind<1))
    (z08 n a true b)
    (pIf (decide (d.kind>3))
      (z08 n a true b)
      ((z54 n d.name).bind λh=>
      pIf (!h)
       (z08 n a true b)
       (pIf ((d.args.length:Int)==0)
         (z08 n a true b)
         ((z2g n d.args).bind λg=>
         (z2a n g.re).bind λe=>
         z08 n a (e != 0) b)))))
   (some true)
def z08:Nat->Int->Bool->zz3->Ot Bool
 |0,_,_,_=>none
 |n+1,a,b,c=>
  pIf b
   (some false)
   (z2d n (IntKind.i64.wrap (a+1)) c)
end
def ygn:LSh:=⟨[(2,dB)],[],0,128,[]⟩
def zxq:FI dat:=FI.of dat 119 128 0 [dT 5] [] [dB] [] true ygn (R:=Bool) Prod.fst (·,()) (λn=>u1 (zbh n))
 (λn=>[(0,⟨⟨[(1,(.ptr 0 0)),(28,dB)],[(.st 5)],0,128,[]⟩,u2 (z0r n)⟩),(1,⟨⟨[(1,(.ptr 0 0)),(36,dB)],[(.st 5)],0,128,[]⟩,u2 (z47 n)⟩),(2,⟨⟨[(1,(.ptr 0 0))],[(.st 5)],0,128,[]⟩,u1 (z3s n)⟩),(3,⟨⟨[(1,(.ptr 0 0)),(50,dB)],[(.st 5)],0,128,[]⟩,u2 (z7t n)⟩),(4,⟨⟨[(1,(.ptr 0 0)),(76,dB)],[(.st 5)],0,128,[]⟩,u2 (kzx n)⟩),(5,⟨⟨[(1,(.ptr 0 0))],[(.st 5)],0,128,[]⟩,u1 (z42 n)⟩),(6,⟨⟨[(3,dI),(1,(.ptr 0 0))],[(.st 5)],0,128,[]⟩,u2 (z2d n)⟩),(7,⟨⟨[(1,(.ptr 0 0)),(3,dI),(127,dB)],[(.st 5)],0,128,[]⟩,u3 (z08 n)⟩)]) (anb [(5,0),(13,1),(28,2),(31,3),(34,4),(46,5),(58,6),(71,7)] f119)
def yaa:FOk prog zxq:=okF (bs:=[znj,zm0,zxn,zvc]) ⟨zsx,zo7,y4w,y21,trivial⟩ func119 ntmps119 call119
 (λ_ _=>tr (zbh.eq_2 ..))
 (λn=>⟨λ_=>tr (z0r.eq_2 ..),
  λ_=>tr (z47.eq_2 ..),
  λ_=>tr (z3s.eq_2 ..),
  λ_=>tr (z7t.eq_2 ..),
  λ_=>tr (kzx.eq_2 ..),
  λ_=>tr (z42.eq_2 ..),
  λ_=>tr (z2d.eq_2 ..),
  λ_=>tr (z08.eq_2 ..),
  trivial⟩)
mutual
def zbf:Nat->zz0->Ot Bool
 |0,_=>none
 |n+1,a=>
  z1p n 0 a
def z1p:Nat->Int->zz0->Ot Bool
 |0,_,_=>none
 |n+1,a,b=>
  pIf (decide (a<(b.attrs.length:Int)))
   ((ix b.attrs a).bind λh=>
   (z54 n h.name).bind λe=>
   pIf (!e)
    (z3u n a true b)
    ((ix b.attrs a).bind λg=>
    (z2a n g.value.re).bind λd=>
    z3u n a (d != 0) b))
   (z2c n 0 b)
def z3u:Nat->Int->Bool->zz0->Ot Bool
 |0,_,_,_=>none
 |n+1,a,b,c=>
  pIf b
   (some false)
   (z1p n (IntKind.i64.wrap (a+1)) c)
def z2c:Nat->Int->zz0->Ot Bool
 |0,_,_=>none
 |n+1,a,b=>
  pIf (decide (a<(b.rules.length:Int)))
   ((ix b.rules a).bind λd=>
   (z54 n d.name).bind λe=>
   pIf (!e)
    (some false)
    (z1x n 0 a d b))
   (some true)
def z1x:Nat->Int->Int->kz3->zz0->Ot Bool
 |0,_,_,_,_=>none
 |n+1,a,b,c,d=>
  pIf (decide (a<(c.params.length:Int)))
   ((ix c.params a).bind λg=>
   (z54 n g).bind λe=>
   pIf (!e)
    (some false)
    (z1x n (IntKind.i64.wrap (a+1)) b c d))
   (z29 n 0 b c d)
def z29:Nat->Int->Int->kz3->zz0->Ot Bool
 |0,_,_,_,_=>none
 |n+1,a,b,c,d=>
  pIf (decide (a<(c.cases.length:Int)))
   ((ix c.cases a).bind λe=>
   pIf (decide (e.weight<1))
    (z25 n b a true e.re c d)
    (pIf (decide (e.weight>1000000))
      (z25 n b a true e.re c d)
      ((z2a n e.when_.re).bind λg=>
      z25 n b a (g != 0) e.re c d)))
   (z2c n (IntKind.i64.wrap (b+1)) d)
def z25:Nat->Int->Int->Bool->yz5->kz3->zz0->Ot Bool
 |0,_,_,_,_,_,_=>none
 |n+1,a,b,c,d,e,f=>
  pIf c
   (some false)
   (z1w n 0 a b d.re e f)
def z1w:Nat->Int->Int->Int->yz5->kz3->zz0->Ot Bool
 |0,_,_,_,_,_,_=>none
 |n+1,a,b,c,d,e,f=>
  pIf (decide (a<(d.do_.length:Int)))
   ((ix d.do_ a).bind λh=>
   (zbh n h).bind λg=>
   pIf (!g)
    (some false)
    (z1w n (IntKind.i64.wrap (a+1)) b c d.re e f))
   (z29 n (IntKind.i64.wrap (c+1)) b e f)
end
def yg5:LSh:=⟨[(2,dB)],[],0,105,[]⟩
def zxx:FI dat:=FI.of dat 69 105 0 [dT 8] [] [dB] [] true yg5 (R:=Bool) Prod.fst (·,()) (λn=>u1 (zbf n))
 (λn=>[(0,⟨⟨[(3,dI),(1,(.ptr 0 0))],[(.st 8)],0,105,[]⟩,u2 (z1p n)⟩),(1,⟨⟨[(1,(.ptr 0 0)),(3,dI),(34,dB)],[(.st 8)],0,105,[]⟩,u3 (z3u n)⟩),(2,⟨⟨[(4,dI),(1,(.ptr 0 0))],[(.st 8)],0,105,[]⟩,u2 (z2c n)⟩),(3,⟨⟨[(6,dI),(5,(.ptr 0 0)),(1,(.ptr 1 0)),(4,dI)],[(.st 7),(.st 8)],0,105,[]⟩,u4 (z1x n)⟩),(4,⟨⟨[(7,dI),(5,(.ptr 0 0)),(1,(.ptr 1 0)),(4,dI)],[(.st 7),(.st 8)],0,105,[]⟩,u4 (z29 n)⟩),(5,⟨⟨[(8,(.ptr 0 0)),(5,(.ptr 1 0)),(1,(.ptr 2 0)),(4,dI),(7,dI),(90,dB)],[(.st 6),(.st 7),(.st 8)],0,105,[]⟩,u6 (z25 n)⟩),(6,⟨⟨[(9,dI),(8,(.ptr 0 0)),(5,(.ptr 1 0)),(1,(.ptr 2 0)),(4,dI),(7,dI)],[(.st 6),(.st 7),(.st 8)],0,105,[]⟩,u6 (z1w n)⟩)]) (anb [(6,0),(17,1),(27,2),(50,3),(70,4),(84,5),(92,6)] f69)
def ybd:FOk prog zxx:=okF (bs:=[zvc,zm0,zxq]) ⟨y21,zo7,yaa,trivial⟩ func69 ntmps69 call69
 (λ_ _=>tr (zbf.eq_2 ..))
 (λn=>⟨λ_=>tr (z1p.eq_2 ..),
  λ_=>tr (z3u.eq_2 ..),
  λ_=>tr (z2c.eq_2 ..),
  λ_=>tr (z1x.eq_2 ..),
  λ_=>tr (z29.eq_2 ..),
  λ_=>tr (z25.eq_2 ..),
  λ_=>tr (z1w.eq_2 ..),
  trivial⟩)
mutual
def z8b:Nat->zz0->Ot (List B8)
 |0,_=>none
 |n+1,a=>
  z5a n 0 a []
def z5a:Nat->Int->zz0->(List B8)->Ot (List B8)
 |0,_,_,_=>none
 |n+1,a,b,c=>
  pIf (decide (a<(b.attrs.length:Int)))
   ((ix b.attrs a).bind λe=>
   (ext c [e.name]).bind λd=>
   z5a n (IntKind.i64.wrap (a+1)) b d)
   (some c)
end
def yjg:LSh:=⟨[(2,dA)],[],0,22,[]⟩
def zrz:FI dat:=FI.of dat 121 22 0 [dT 8] [] [dA] [] true yjg (R:=List B8) Prod.fst (·,()) (λn=>u1 (z8b n))
 (λn=>[(0,⟨⟨[(4,dI),(1,(.ptr 0 0)),(3,(.own 1))],[(.st 8),(.acc 9 .str true)],0,22,[]⟩,u3 (z5a n)⟩)]) (anb [(8,0)] f121)
def zy3:FOk prog zrz:=okF (bs:=[]) trivial func121 ntmps121 call121
 (λ_ _=>tr (z8b.eq_2 ..))
 (λn=>⟨λ_=>tr (z5a.eq_2 ..),
  trivial⟩)
mutual
def zaa:Nat->(List B8)->B8->Ot Int
 |0,_,_=>none
 |n+1,a,b=>
  zd4 n 0 b a
def zd4:Nat->Int->B8->(List B8)->Ot Int
 |0,_,_,_=>none
 |n+1,a,b,c=>
  pIf (decide (a<(c.length:Int)))
   ((ix c a).bind λd=>
   pIf (d==b)
    (some a)
    (zd4 n (IntKind.i64.wrap (a+1)) b c))
   (some (-1))
end
def yvm:LSh:=⟨[(4,dI)],[],0,19,[]⟩
def zl7:FI dat:=FI.of dat 31 19 0 [dA,dS] [] [dI] [] true yvm (R:=Int) Prod.fst (·,()) (λn=>u2 (zaa n))
 (λn=>[(0,⟨⟨[(5,dI),(1,dS),(0,dA)],[],0,19,[]⟩,u3 (zd4 n)⟩)]) (anb [(6,0)] f31)
def zme:FOk prog zl7:=okF (bs:=[]) trivial func31 ntmps31 call31
 (λ_ _=>tr (zaa.eq_2 ..))
 (λn=>⟨λ_=>tr (zd4.eq_2 ..),
  trivial⟩)
mutual
def zaq:Nat->(List B8)->Ot Bool
 |0,_=>none
 |n+1,a=>
  z5w n 0 a
def z5w:Nat->Int->(List B8)->Ot Bool
 |0,_,_=>none
 |n+1,a,b=>
  pIf (decide (a<(b.length:Int)))
   ((ix b a).bind λe=>
   (zaa n b e).bind λd=>
   pIf (decide (d<a))
    (some true)
    (z5w n (IntKind.i64.wrap (a+1)) b))
   (some false)
end
def yht:LSh:=⟨[(2,dB)],[],0,18,[]⟩
def y1u:FI dat:=FI.of dat 120 18 0 [dA] [] [dB] [] true yht (R:=Bool) Prod.fst (·,()) (λn=>u1 (zaq n))
 (λn=>[(0,⟨⟨[(3,dI),(0,dA)],[],0,18,[]⟩,u2 (z5w n)⟩)]) (anb [(6,0)] f120)
def ygv:FOk prog y1u:=okF (bs:=[zl7]) ⟨zme,trivial⟩ func120 ntmps120 call120
 (λ_ _=>tr (zaq.eq_2 ..))
 (λn=>⟨λ_=>tr (z5w.eq_2 ..),
  trivial⟩)
mutual
def z8g:Nat->zz0->Ot (List B8)
 |0,_=>none
 |n+1,a=>
  z5h n 0 a []
def z5h:Nat->Int->zz0->(List B8)->Ot (List B8)
 |0,_,_,_=>none
 |n+1,a,b,c=>
  pIf (decide (a<(b.rules.length:Int)))
   ((ix b.rules a).bind λe=>
   (ext c [e.name]).bind λd=>
   z5h n (IntKind.i64.wrap (a+1)) b d)
   (some c)
end
def yi7:LSh:=⟨[(2,dA)],[],0,22,[]⟩
def zlt:FI dat:=FI.of dat 14 22 0 [dT 8] [] [dA] [] true yi7 (R:=List B8) Prod.fst (·,()) (λn=>u1 (z8g n))
 (λn=>[(0,⟨⟨[(4,dI),(1,(.ptr 0 0)),(3,(.own 1))],[(.st 8),(.acc 9 .str true)],0,22,[]⟩,u3 (z5h n)⟩)]) (anb [(8,0)] f14)
def zon:FOk prog zlt:=okF (bs:=[]) trivial func14 ntmps14 call14
 (λ_ _=>tr (z8g.eq_2 ..))
 (λn=>⟨λ_=>tr (z5h.eq_2 ..),
  trivial⟩)
mutual
def zdd:Nat->B8->(List B8)->Ot (Int×(List B8))
 |0,_,_=>none
 |n+1,a,b=>
  kzw n 0 a b
def kzw:Nat->Int->B8->(List B8)->Ot (Int×(List B8))
 |0,_,_,_=>none
 |n+1,a,b,c=>
  pIf (decide (a<(c.length:Int)))
   ((ix c a).bind λd=>
   pIf (d==b)
    (some (a,c))
    (kzw n (IntKind.i64.wrap (a+1)) b c))
   (some ((-1),c))
end
def yj1:LSh:=⟨[(4,dI)],[(.acc 9 .str true)],1,19,[]⟩
def y22:FI dat:=FI.of dat 31 19 1 [(.own 0),dS] [(.acc 9 .str true)] [dI] [(.acc 9 .str true)] false yj1 (R:=Int×(List B8)) (λx=>(x.1,x.2.1)) (λr=>(r.1,r.2,())) (λn=>u2 (zdd n))
 (λn=>[(0,⟨⟨[(5,dI),(1,dS),(0,(.own 0))],[(.acc 9 .str true)],1,19,[]⟩,u3 (kzw n)⟩)]) (anb [(6,0)] f31)
def ygg:FOk prog y22:=okF (bs:=[]) trivial func31 ntmps31 call31
 (λ_ _=>tr (zdd.eq_2 ..))
 (λn=>⟨λ_=>tr (kzw.eq_2 ..),
  trivial⟩)
mutual
def z8t:Nat->(List B8)->Ot (Bool×(List B8))
 |0,_=>none
 |n+1,a=>
  z1t n 0 a
def z1t:Nat->Int->(List B8)->Ot (Bool×(List B8))
 |0,_,_=>none
 |n+1,a,b=>
  pIf (decide (a<(b.length:Int)))
   ((ix b a).bind λe=>
   (zdd n e b).bind λd=>
   pIf (decide (d.1<a))
    (some (true,d.2))
    (z1t n (IntKind.i64.wrap (a+1)) d.2))
   (some (false,b))
end
def y7b:LSh:=⟨[(2,dB)],[(.acc 9 .str true)],1,18,[]⟩
def zuv:FI dat:=FI.of dat 120 18 1 [(.own 0)] [(.acc 9 .str true)] [dB] [(.acc 9 .str true)] false y7b (R:=Bool×(List B8)) (λx=>(x.1,x.2.1)) (λr=>(r.1,r.2,())) (λn=>u1 (z8t n))
 (λn=>[(0,⟨⟨[(3,dI),(0,(.own 0))],[(.acc 9 .str true)],1,18,[]⟩,u2 (z1t n)⟩)]) (anb [(6,0)] f120)
def y4t:FOk prog zuv:=okF (bs:=[y22]) ⟨ygg,trivial⟩ func120 ntmps120 call120
 (λ_ _=>tr (z8t.eq_2 ..))
 (λn=>⟨λ_=>tr (z1t.eq_2 ..),
  trivial⟩)
mutual
def zac:Nat->zz0->Ot Bool
 |0,_=>none
 |n+1,a=>
  (z8b n a).bind λg=>
  (zaq n g).bind λe=>
  pIf e
   (z2v n true a)
   ((z8g n a).bind λd=>
   (zaq n d).bind λb=>
   z2v n b a)
def z2v:Nat->Bool->zz0->Ot Bool
 |0,_,_=>none
 |n+1,a,b=>
  pIf a
   (some true)
   (z1c n 0 b)
def z1c:Nat->Int->zz0->Ot Bool
 |0,_,_=>none
 |n+1,a,b=>
  pIf (decide (a<(b.rules.length:Int)))
   ((ix b.rules a).bind λi=>
   (ext [] i.params).bind λh=>
   (z8b n b).bind λe=>
   (ext h e).bind λg=>
   (z8t n g).bind λd=>
   pIf d.1
    (some true)
    (z1c n (IntKind.i64.wrap (a+1)) b))
   (some false)
end
def ybc:LSh:=⟨[(2,dB)],[],0,31,[]⟩
def zw9:FI dat:=FI.of dat 70 31 0 [dT 8] [] [dB] [] true ybc (R:=Bool) Prod.fst (·,()) (λn=>u1 (zac n))
 (λn=>[(0,⟨⟨[(1,(.ptr 0 0)),(11,dB)],[(.st 8)],0,31,[]⟩,u2 (z2v n)⟩),(1,⟨⟨[(3,dI),(1,(.ptr 0 0))],[(.st 8)],0,31,[]⟩,u2 (z1c n)⟩)]) (anb [(5,0),(14,1)] f70)
def y74:FOk prog zw9:=okF (bs:=[zuv,zrz,y1u,zlt]) ⟨y4t,zy3,ygv,zon,trivial⟩ func70 ntmps70 call70
 (λ_ _=>tr (zac.eq_2 ..))
 (λn=>⟨λ_=>tr (z2v.eq_2 ..),
  λ_=>tr (z1c.eq_2 ..),
  trivial⟩)
mutual
def zce:Nat->yz1->(List B8)->Ot (List B8)
 |0,_,_=>none
 |n+1,a,b=>
  pIf (a.op==2)
   (z4k n 0 a.re b)
   (z4g n b a.re)
def z4k:Nat->Int->yz1->(List B8)->Ot (List B8)
 |0,_,_,_=>none
 |n+1,a,b,c=>
  pIf (decide (a<(c.length:Int)))
   ((ix c a).bind λd=>
   z71 n a (Op.bytesLess d b.name) b.re c)
   (z71 n a false b.re c)
def z71:Nat->Int->Bool->yz1->(List B8)->Ot (List B8)
 |0,_,_,_,_=>none
 |n+1,a,b,c,d=>
  pIf b
   (z4k n (IntKind.i64.wrap (a+1)) c.re d)
   (pIf (a==(d.length:Int))
     (z6y n a true c.re d)
     ((ix d a).bind λe=>
     z6y n a (!(e==c.name)) c.re d))
def z6y:Nat->Int->Bool->yz1->(List B8)->Ot (List B8)
 |0,_,_,_,_=>none
 |n+1,a,b,c,d=>
  pIf b
   ((ext d [[]]).bind λe=>
   (yqn e (IntKind.i64.wrap (a+1))).bind λj=>
   (yqn e a).bind λi=>
   (y3p e (IntKind.i64.wrap (a+1)) a).bind λg=>
   (ix g a).bind λh=>
   z4g n (g.set (Int.toNat a) c.name) c.re)
   (z4g n d c.re)
def z4g:Nat->(List B8)->yz1->Ot (List B8)
 |0,_,_=>none
 |n+1,a,b=>
  z80 n 0 a b.re
def z80:Nat->Int->(List B8)->yz1->Ot (List B8)
 |0,_,_,_=>none
 |n+1,a,b,c=>
  pIf (decide (a<(c.args.length:Int)))
   ((ix c.args a).bind λe=>
   (zce n e.re b).bind λd=>
   z80 n (IntKind.i64.wrap (a+1)) d c.re)
   (some b)
end
def ylr:LSh:=⟨[(4,(.own 0))],[(.acc 9 .str true)],0,69,[]⟩
def zkk:FI dat:=FI.of dat 198 69 0 [dT 2,(.own 0)] [(.acc 9 .str true)] [(.own 0)] [(.acc 9 .str true)] false ylr (R:=List B8) Prod.fst (·,()) (λn=>u2 (zce n))
 (λn=>[(0,⟨⟨[(5,dI),(2,(.ptr 0 0)),(1,(.own 1))],[(.st 2),(.acc 9 .str true)],0,69,[]⟩,u3 (z4k n)⟩),(1,⟨⟨[(2,(.ptr 0 0)),(1,(.own 1)),(5,dI),(22,dB)],[(.st 2),(.acc 9 .str true)],0,69,[]⟩,u4 (z71 n)⟩),(2,⟨⟨[(2,(.ptr 0 0)),(5,dI),(1,(.own 1)),(37,dB)],[(.st 2),(.acc 9 .str true)],0,69,[]⟩,u4 (z6y n)⟩),(3,⟨⟨[(1,(.own 0)),(2,(.ptr 1 0))],[(.acc 9 .str true),(.st 2)],0,69,[]⟩,u2 (z4g n)⟩),(4,⟨⟨[(6,dI),(1,(.own 0)),(2,(.ptr 1 0))],[(.acc 9 .str true),(.st 2)],0,69,[]⟩,u3 (z80 n)⟩)]) (anb [(10,0),(14,1),(21,2),(29,3),(33,4)] f198)
def yob:List (FI dat):=[zkk]++[]
def ymv:(zkk).Good prog dat (tb yob):=FI.z3q (hD:=kzg _) func198 ntmps198 call198 (by kernel_rfl) (Qac (by kernel_rfl)) (by kernel_rfl) (λn=>by kernel_rfl) (λx=>by kernel_rfl) (λ_=>rfl) ⟨λ_=>rfl,λ_=>rfl,λ_=>rfl,λ_=>rfl,λ_=>rfl,trivial⟩
 (λ_ _=>tr (zce.eq_2 ..))
 (λn=>⟨λ_=>tr (z4k.eq_2 ..),
  λ_=>tr (z71.eq_2 ..),
  λ_=>tr (z6y.eq_2 ..),
  λ_=>tr (z4g.eq_2 ..),
  λ_=>tr (z80.eq_2 ..),
  trivial⟩)
 (λx=>.inr (by kernel_rfl))
def yo0:OkL prog [zkk]:=z8u (kzg _) (bs:=[]) trivial ⟨ymv,trivial⟩
def yhu:FOk prog zkk:=yo0.1
def zcv:Nat->yz1->Ot ((List B8)×Int)
 |0,_=>none
 |n+1,a=>
  (z2a n a.re).bind λe=>
  pIf (e != 0)
   ((z2a n a.re).bind λd=>
   some ([],d))
   ((zce n a.re []).bind λb=>
   some (b,0))
def yiw:LSh:=⟨[(2,dA),(3,dI)],[],0,11,[]⟩
def y23:FI dat:=FI.of dat 166 11 0 [dT 2] [] [dA,dI] [] true yiw (R:=(List B8)×Int) (λx=>(x.1,x.2.1)) (λr=>(r.1,r.2,())) (λn=>u1 (zcv n))
 (λn=>[]) (anb [] f166)
def ycn:FOk prog y23:=okF (bs:=[zkk,zm0]) ⟨yhu,zo7,trivial⟩ func166 ntmps166 call166
 (λ_ _=>tr (zcv.eq_2 ..))
 (λn=>trivial)
mutual
def z9d:Nat->yz1->(List B8)->Ot Bool
 |0,_,_=>none
 |n+1,a,b=>
  (zcv n a.re).bind λd=>
  z4b n 0 d.1 b
def z4b:Nat->Int->(List B8)->(List B8)->Ot Bool
 |0,_,_,_=>none
 |n+1,a,b,c=>
  pIf (decide (a<(b.length:Int)))
   ((ix b a).bind λe=>
   (zaa n c e).bind λd=>
   pIf (decide (d<0))
    (some false)
    (z4b n (IntKind.i64.wrap (a+1)) b c))
   (some true)
end
def ydn:LSh:=⟨[(4,dB)],[],0,26,[]⟩
def zym:FI dat:=FI.of dat 122 26 0 [dT 2,dA] [] [dB] [] true ydn (R:=Bool) Prod.fst (·,()) (λn=>u2 (z9d n))
 (λn=>[(0,⟨⟨[(7,dI),(5,dA),(1,dA)],[],0,26,[]⟩,u3 (z4b n)⟩)]) (anb [(8,0)] f122)
def y9y:FOk prog zym:=okF (bs:=[y23,zl7]) ⟨ycn,zme,trivial⟩ func122 ntmps122 call122
 (λ_ _=>tr (z9d.eq_2 ..))
 (λn=>⟨λ_=>tr (z4b.eq_2 ..),
  trivial⟩)
mutual
def zcw:Nat->yz5->Ot kz6
 |0,_=>none
 |n+1,a=>
  z5q n 0 a.re [a.when_.re]
def z5q:Nat->Int->yz5->kz6->Ot kz6
 |0,_,_,_=>none
 |n+1,a,b,c=>
  pIf (decide (a<(b.do_.length:Int)))
   ((ix b.do_ a).bind λe=>
   (ext c e.args).bind λd=>
   z64 n 0 a b.re d)
   (some c)
def z64:Nat->Int->Int->yz5->kz6->Ot kz6
 |0,_,_,_,_=>none
 |n+1,a,b,c,d=>
  (ix c.do_ b).bind λi=>
  pIf (decide (a<(i.items.length:Int)))
   ((ix c.do_ b).bind λh=>
   (ix h.items a).bind λg=>
   (ext d g.args).bind λe=>
   z64 n (IntKind.i64.wrap (a+1)) b c.re e)
   (z5q n (IntKind.i64.wrap (b+1)) c.re d)
end
def yj5:LSh:=⟨[(2,dL 2)],[],0,48,[]⟩
def y2h:FI dat:=FI.of dat 123 48 0 [dT 6] [] [dL 2] [] true yj5 (R:=kz6) Prod.fst (·,()) (λn=>u1 (zcw n))
 (λn=>[(0,⟨⟨[(4,dI),(1,(.ptr 0 0)),(3,(.own 1))],[(.st 6),(.acc 42 (.st 2) true)],0,48,[]⟩,u3 (z5q n)⟩),(1,⟨⟨[(5,dI),(4,dI),(1,(.ptr 0 0)),(3,(.own 1))],[(.st 6),(.acc 42 (.st 2) true)],0,48,[]⟩,u4 (z64 n)⟩)]) (anb [(8,0),(22,1)] f123)
def yfl:FOk prog y2h:=okF (bs:=[]) trivial func123 ntmps123 call123
 (λ_ _=>tr (zcw.eq_2 ..))
 (λn=>⟨λ_=>tr (z5q.eq_2 ..),
  λ_=>tr (z64.eq_2 ..),
  trivial⟩)
mutual
def zc6:Nat->kz3->Ot zdy
 |0,_=>none
 |n+1,a=>
  z7y n 0 [] a
def z7y:Nat->Int->zdy->kz3->Ot zdy
 |0,_,_,_=>none
 |n+1,a,b,c=>
  pIf (decide (a<(c.cases.length:Int)))
   (z4l n 0 a b c)
   (some b)
def z4l:Nat->Int->Int->zdy->kz3->Ot zdy
 |0,_,_,_,_=>none
 |n+1,a,b,c,d=>
  (ix d.cases b).bind λh=>
  pIf (decide (a<(h.do_.length:Int)))
   ((ix d.cases b).bind λg=>
   (ix g.do_ a).bind λe=>
   pIf (e.kind != 5)
    (z6x n b a (e.kind != 6) e d c)
    (z6x n b a false e d c))
   (z7y n (IntKind.i64.wrap (b+1)) c d)
def z6x:Nat->Int->Int->Bool->zz3->kz3->zdy->Ot zdy
 |0,_,_,_,_,_,_=>none
 |n+1,a,b,c,d,e,f=>
  pIf c
   ((zdx n d.kind).bind λg=>
   (ext f [(z3r.mk d.name (IntKind.i64.wrap ((d.args.length:Int)-g)))]).bind λh=>
   z7d n a b d h e)
   (z7d n a b d f e)
def z7d:Nat->Int->Int->zz3->zdy->kz3->Ot zdy
 |0,_,_,_,_,_=>none
 |n+1,a,b,c,d,e=>
  z6u n 0 a b c d e
def z6u:Nat->Int->Int->Int->zz3->zdy->kz3->Ot zdy
 |0,_,_,_,_,_,_=>none
 |n+1,a,b,c,d,e,f=>
  pIf (decide (a<(d.items.length:Int)))
   ((ix d.items a).bind λi=>
   (ix d.items a).bind λh=>
   (ext e [(z3r.mk i.name (IntKind.i64.wrap ((h.args.length:Int)-1)))]).bind λg=>
   z6u n (IntKind.i64.wrap (a+1)) b c d g f)
   (z4l n (IntKind.i64.wrap (c+1)) b e f)
end
def ylj:LSh:=⟨[(2,dL 16)],[],0,82,[]⟩
def zvp:FI dat:=FI.of dat 72 82 0 [dT 7] [] [dL 16] [] true ylj (R:=zdy) Prod.fst (·,()) (λn=>u1 (zc6 n))
 (λn=>[(0,⟨⟨[(3,(.own 0)),(4,dI),(1,(.ptr 1 0))],[(.acc 139 (.st 16) true),(.st 7)],0,82,[]⟩,u3 (z7y n)⟩),(1,⟨⟨[(5,dI),(3,(.own 0)),(4,dI),(1,(.ptr 1 0))],[(.acc 139 (.st 16) true),(.st 7)],0,82,[]⟩,u4 (z4l n)⟩),(2,⟨⟨[(6,(.ptr 0 0)),(4,dI),(1,(.ptr 1 0)),(5,dI),(3,(.own 2)),(42,dB)],[(.st 5),(.st 7),(.acc 139 (.st 16) true)],0,82,[]⟩,u6 (z6x n)⟩),(3,⟨⟨[(6,(.ptr 0 0)),(3,(.own 1)),(4,dI),(1,(.ptr 2 0)),(5,dI)],[(.st 5),(.acc 139 (.st 16) true),(.st 7)],0,82,[]⟩,u5 (z7d n)⟩),(4,⟨⟨[(7,dI),(6,(.ptr 0 0)),(3,(.own 1)),(4,dI),(1,(.ptr 2 0)),(5,dI)],[(.st 5),(.acc 139 (.st 16) true),(.st 7)],0,82,[]⟩,u6 (z6u n)⟩)]) (anb [(8,0),(20,1),(34,2),(37,3),(40,4)] f72)
def y1z:FOk prog zvp:=okF (bs:=[zxn]) ⟨y4w,trivial⟩ func72 ntmps72 call72
 (λ_ _=>tr (zc6.eq_2 ..))
 (λn=>⟨λ_=>tr (z7y.eq_2 ..),
  λ_=>tr (z4l.eq_2 ..),
  λ_=>tr (z6x.eq_2 ..),
  λ_=>tr (z7d.eq_2 ..),
  λ_=>tr (z6u.eq_2 ..),
  trivial⟩)
mutual
def zd8:Nat->zz0->Ot Bool
 |0,_=>none
 |n+1,a=>
  (z8b n a).bind λb=>
  z55 n 0 b a
def z55:Nat->Int->(List B8)->zz0->Ot Bool
 |0,_,_,_=>none
 |n+1,a,b,c=>
  pIf (decide (a<(c.attrs.length:Int)))
   ((ix c.attrs a).bind λg=>
   (sub b 0 a).bind λe=>
   (z9d n g.value.re e).bind λd=>
   pIf (!d)
    (some false)
    (z55 n (IntKind.i64.wrap (a+1)) b c))
   (z3c n 0 b c)
def z3c:Nat->Int->(List B8)->zz0->Ot Bool
 |0,_,_,_=>none
 |n+1,a,b,c=>
  pIf (decide (a<(c.rules.length:Int)))
   ((ix c.rules a).bind λd=>
   (ext [[115,120],[115,121],[115,122]] b).bind λg=>
   (ext g d.params).bind λe=>
   z32 n e 0 b a d c)
   (some true)
def z32:Nat->(List B8)->Int->(List B8)->Int->kz3->zz0->Ot Bool
 |0,_,_,_,_,_,_=>none
 |n+1,a,b,c,d,e,f=>
  pIf (decide (b<(e.cases.length:Int)))
   ((ix e.cases b).bind λi=>
   (zcw n i.re).bind λh=>
   z5i n 0 a h c d b e f)
   ((zc6 n e).bind λg=>
   z3a n 0 g c d f)
def z5i:Nat->Int->(List B8)->kz6->(List B8)->Int->Int->kz3->zz0->Ot Bool
 |0,_,_,_,_,_,_,_,_=>none
 |n+1,a,b,c,d,e,f,g,h=>
  pIf (decide (a<(c.length:Int)))
   ((ix c a).bind λj=>
   (z9d n j.re b).bind λi=>
   pIf (!i)
    (some false)
    (z5i n (IntKind.i64.wrap (a+1)) b c d e f g h))
   (z32 n b (IntKind.i64.wrap (f+1)) d e g h)
def z3a:Nat->Int->zdy->(List B8)->Int->zz0->Ot Bool
 |0,_,_,_,_,_=>none
 |n+1,a,b,c,d,e=>
  pIf (decide (a<(b.length:Int)))
   ((z8g n e).bind λh=>
   (ix b a).bind λi=>
   (zaa n h i.name).bind λg=>
   pIf (decide (g<0))
    (some false)
    (z3a n (IntKind.i64.wrap (a+1)) b c d e))
   (z3c n (IntKind.i64.wrap (d+1)) c e)
end
def yh3:LSh:=⟨[(2,dB)],[],0,94,[]⟩
def y1k:FI dat:=FI.of dat 71 94 0 [dT 8] [] [dB] [] true yh3 (R:=Bool) Prod.fst (·,()) (λn=>u1 (zd8 n))
 (λn=>[(0,⟨⟨[(4,dI),(3,dA),(1,(.ptr 0 0))],[(.st 8)],0,94,[]⟩,u3 (z55 n)⟩),(1,⟨⟨[(1,(.ptr 0 0)),(5,dI),(3,dA)],[(.st 8)],0,94,[]⟩,u3 (z3c n)⟩),(2,⟨⟨[(7,dA),(8,dI),(6,(.ptr 0 0)),(1,(.ptr 1 0)),(3,dA),(5,dI)],[(.st 7),(.st 8)],0,94,[]⟩,u6 (z32 n)⟩),(3,⟨⟨[(10,dI),(7,dA),(9,dL 2),(6,(.ptr 0 0)),(1,(.ptr 1 0)),(3,dA),(5,dI),(8,dI)],[(.st 7),(.st 8)],0,94,[]⟩,u8 (z5i n)⟩),(4,⟨⟨[(12,dI),(11,dL 16),(1,(.ptr 0 0)),(3,dA),(5,dI)],[(.st 8)],0,94,[]⟩,u5 (z3a n)⟩)]) (anb [(8,0),(29,1),(46,2),(60,3),(83,4)] f71)
def ye5:FOk prog y1k:=okF (bs:=[zrz,zym,y2h,zvp,zlt,zl7]) ⟨zy3,y9y,yfl,y1z,zon,zme,trivial⟩ func71 ntmps71 call71
 (λ_ _=>tr (zd8.eq_2 ..))
 (λn=>⟨λ_=>tr (z55.eq_2 ..),
  λ_=>tr (z3c.eq_2 ..),
  λ_=>tr (z32.eq_2 ..),
  λ_=>tr (z5i.eq_2 ..),
  λ_=>tr (z3a.eq_2 ..),
  trivial⟩)
mutual
def zcx:Nat->zz0->Ot Int
 |0,_=>none
 |n+1,a=>
  (zed n a).bind λg=>
  pIf g
   (some 4)
   ((zbf n a).bind λe=>
   pIf (!e)
    (some 8)
    ((zac n a).bind λd=>
    pIf d
     (some 14)
     ((zd8 n a).bind λb=>
     pIf (!b)
      (some 6)
      (z5r n 0 a))))
def z5r:Nat->Int->zz0->Ot Int
 |0,_,_=>none
 |n+1,a,b=>
  pIf (decide (a<(b.rules.length:Int)))
   ((ix b.rules a).bind λe=>
   (zc6 n e).bind λd=>
   z5k n 0 d a b)
   (some 0)
def z5k:Nat->Int->zdy->Int->zz0->Ot Int
 |0,_,_,_,_=>none
 |n+1,a,b,c,d=>
  pIf (decide (a<(b.length:Int)))
   ((ix b a).bind λj=>
   (z8g n d).bind λh=>
   (ix b a).bind λi=>
   (zaa n h i.name).bind λg=>
   (ix d.rules g).bind λe=>
   pIf (j.many != (e.params.length:Int))
    (some 2)
    (z5k n (IntKind.i64.wrap (a+1)) b c d))
   (z5r n (IntKind.i64.wrap (c+1)) d)
end
def yh8:LSh:=⟨[(2,dI)],[],0,59,[]⟩
def y1t:FI dat:=FI.of dat 30 59 0 [dT 8] [] [dI] [] true yh8 (R:=Int) Prod.fst (·,()) (λn=>u1 (zcx n))
 (λn=>[(0,⟨⟨[(1,(.ptr 0 0)),(3,dI)],[(.st 8)],0,59,[]⟩,u2 (z5r n)⟩),(1,⟨⟨[(5,dI),(4,dL 16),(1,(.ptr 0 0)),(3,dI)],[(.st 8)],0,59,[]⟩,u4 (z5k n)⟩)]) (anb [(33,0),(47,1)] f30)
def ydv:FOk prog y1t:=okF (bs:=[y5u,zxx,zw9,y1k,zvp,zlt,zl7]) ⟨yii,ybd,y74,ye5,y1z,zon,zme,trivial⟩ func30 ntmps30 call30
 (λ_ _=>tr (zcx.eq_2 ..))
 (λn=>⟨λ_=>tr (z5r.eq_2 ..),
  λ_=>tr (z5k.eq_2 ..),
  trivial⟩)
def z1j:Nat->zz0->Ot Bool
 |0,_=>none
 |n+1,a=>
  (zct n a).bind λd=>
  pIf (!d)
   ((zcx n a).bind λb=>
   some (b==0))
   (some false)
def zxz:LSh:=⟨[(2,dB)],[],0,11,[]⟩
def zg8:FI dat:=FI.of dat 12 11 0 [dT 8] [] [dB] [] true zxz (R:=Bool) Prod.fst (·,()) (λn=>u1 (z1j n))
 (λn=>[]) (anb [] f12)
def zwl:FOk prog zg8:=okF (bs:=[y1m,y1t]) ⟨yd4,ydv,trivial⟩ func12 ntmps12 call12
 (λ_ _=>tr (z1j.eq_2 ..))
 (λn=>trivial)
def z2w:Nat->(List B8)->B8->Ot Bool
 |0,_,_=>none
 |n+1,a,b=>
  (zaa n a b).bind λd=>
  some (decide (d>=0))
def y2t:LSh:=⟨[(4,dB)],[],0,9,[]⟩
def ziz:FI dat:=FI.of dat 13 9 0 [dA,dS] [] [dB] [] true y2t (R:=Bool) Prod.fst (·,()) (λn=>u2 (z2w n))
 (λn=>[]) (anb [] f13)
def y0v:FOk prog ziz:=okF (bs:=[zl7]) ⟨zme,trivial⟩ func13 ntmps13 call13
 (λ_ _=>tr (z2w.eq_2 ..))
 (λn=>trivial)
def za3:Nat->zz0->zz0->Ot (Res (B8×Unit) ((List B8)×Int))
 |0,_,_=>none
 |n+1,a,b=>
  (zbs n a b).bind λe=>
  pIf (e != 0)
   (some (Res.ok ([],e)))
   ((zcg n a b).bind λh=>
   zsc h (λd=>
    (z56 n (mks (List.zip d.1 d.2)) (mvs (List.zip d.1 d.2))).bind λg=>
    some (Res.ok (g.1,0)))
    (λi=>
    some (Res.pan (i.1,()))))
def yo4:LSh:=⟨[(4,dA),(5,dI)],[],0,17,[]⟩
def zjy:FI dat:=FI.ofP dat 17 17 0 [dT 8,dT 8] [] [dA,dI] [] (.iface 9 dS) [] [] yo4 (R:=(List B8)×Int) (λx=>(x.1,x.2.1)) (λr=>(r.1,r.2,())) (λn=>u2 (za3 n))
 (λn=>[]) (anb [] f17)
def ynr:List (FI dat):=[ze2,za4,zg0]
def yp0:(zjy).Good prog dat (tb ynr):=FI.zk5 (hD:=kzg _) func17 ntmps17 call17 (by kernel_rfl) (Qac (by kernel_rfl)) (by kernel_rfl) (λn=>by kernel_rfl) trivial (λx=>by kernel_rfl) (λ_=>rfl) trivial
 (λn=>λ_=>tr (za3.eq_2 _ _ n))
 (λn=>trivial)
 (λx=>by kernel_rfl)
def yov:OkL prog [zjy]:=zs9 (kzg _) (bs:=[ze2,za4,zg0]) ⟨y25,zp7,zw8,trivial⟩ yp0
def yhn:FOk prog zjy:=yov.1
mutual
def kzv:Nat->zz0->zz0->Ot (Res (B8×Unit) Bool)
 |0,_,_=>none
 |n+1,a,b=>
  (z6l n).bind λh=>
  zsc h (λd=>
   (z1j n a).bind λg=>
   pIf (!g)
    (zzn n d true b a)
    ((z1j n b).bind λe=>
    pIf (!e)
     (zzn n d true b a)
     (zzn n d (!d) b a)))
   (λi=>
   some (Res.pan (i.1,())))
def zzn:Nat->Bool->Bool->zz0->zz0->Ot (Res (B8×Unit) Bool)
 |0,_,_,_,_=>none
 |n+1,a,b,c,d=>
  pIf b
   (some (Res.ok a))
   ((za3 n d d).bind λF=>
   zsc F (λC=>
    (z3p n d d).bind λE=>
    zsc E (λB=>
     (z4m n d d).bind λD=>
     zsc D (λk=>
      (za3 n d c).bind λq=>
      zsc q (λj=>
       (za3 n c d).bind λp=>
       zsc p (λi=>
        (z3p n d c).bind λo=>
        zsc o (λh=>
         (z3p n c d).bind λm=>
         zsc m (λg=>
          (z4m n d c).bind λl=>
          zsc l (λe=>
           pIf (C.2 != 0)
            (zz6 n e.1 h.1 g.1 i.1 j.1 a true c)
            (pIf (B.2 != 0)
              (zz6 n e.1 h.1 g.1 i.1 j.1 a true c)
              (pIf (k.2 != 0)
                (zz6 n e.1 h.1 g.1 i.1 j.1 a true c)
                (pIf (j.2 != 0)
                  (zz6 n e.1 h.1 g.1 i.1 j.1 a true c)
                  (pIf (i.2 != 0)
                    (zz6 n e.1 h.1 g.1 i.1 j.1 a true c)
                    (pIf (h.2 != 0)
                      (zz6 n e.1 h.1 g.1 i.1 j.1 a true c)
                      (pIf (g.2 != 0)
                        (zz6 n e.1 h.1 g.1 i.1 j.1 a true c)
                        (pIf (e.2 != 0)
                          (zz6 n e.1 h.1 g.1 i.1 j.1 a true c)
                          (pIf (decide ((C.1.length:Int)>0))
                            (zz6 n e.1 h.1 g.1 i.1 j.1 a true c)
                            (pIf (decide ((B.1.length:Int)>0))
                              (zz6 n e.1 h.1 g.1 i.1 j.1 a true c)
                              (zz6 n e.1 h.1 g.1 i.1 j.1 a (decide ((k.1.length:Int)>0)) c)))))))))))
           (λA=>
           some (Res.pan (A.1,()))))
          (λz=>
          some (Res.pan (z.1,()))))
         (λy=>
         some (Res.pan (y.1,()))))
        (λx=>
        some (Res.pan (x.1,()))))
       (λw=>
       some (Res.pan (w.1,()))))
      (λu=>
      some (Res.pan (u.1,()))))
     (λs=>
     some (Res.pan (s.1,()))))
    (λr=>
    some (Res.pan (r.1,()))))
def zz6:Nat->(List B8)->(List B8)->(List B8)->(List B8)->(List B8)->Bool->Bool->zz0->Ot (Res (B8×Unit) Bool)
 |0,_,_,_,_,_,_,_,_=>none
 |n+1,a,b,c,d,e,f,g,h=>
  pIf g
   (some (Res.ok false))
   (zzr n 0 a b c d e f h)
def zzr:Nat->Int->(List B8)->(List B8)->(List B8)->(List B8)->(List B8)->Bool->zz0->Ot (Res (B8×Unit) Bool)
 |0,_,_,_,_,_,_,_,_=>none
 |n+1,a,b,c,d,e,f,g,h=>
  pIf (decide (a<(h.rules.length:Int)))
   ((ix h.rules a).bind λo=>
   (z2w n c o.name).bind λl=>
   pIf l
    ((ix h.rules a).bind λm=>
    (z2w n b m.name).bind λk=>
    kzq n b c d e f g a (!k) h)
    (kzq n b c d e f g a false h))
   (pIf g
     ((z88 n f e).bind λj=>
     pIf j
      ((z88 n c d).bind λi=>
      some (Res.ok i))
      (some (Res.ok false)))
     (some (Res.ok false)))
def kzq:Nat->(List B8)->(List B8)->(List B8)->(List B8)->(List B8)->Bool->Int->Bool->zz0->Ot (Res (B8×Unit) Bool)
 |0,_,_,_,_,_,_,_,_,_=>none
 |n+1,a,b,c,d,e,f,g,h,i=>
  pIf h
   (some (Res.ok false))
   (zzr n (IntKind.i64.wrap (g+1)) a b c d e f i)
end
def zog:LSh:=⟨[(4,dB)],[],0,167,[]⟩
def zaj:FI dat:=FI.ofP dat 5 167 0 [dT 8,dT 8] [] [dB] [] (.iface 9 dS) [] [] zog (R:=Bool) Prod.fst (·,()) (λn=>u2 (kzv n))
 (λn=>[(0,⟨⟨[(5,dB),(3,(.ptr 0 0)),(2,(.ptr 1 0)),(35,dB)],[(.st 8),(.st 8)],0,167,[]⟩,u4 (zzn n)⟩),(1,⟨⟨[(3,(.ptr 0 0)),(20,dA),(16,dA),(18,dA),(14,dA),(12,dA),(5,dB),(129,dB)],[(.st 8)],0,167,[]⟩,u8 (zz6 n)⟩),(2,⟨⟨[(22,dI),(3,(.ptr 0 0)),(20,dA),(16,dA),(18,dA),(14,dA),(12,dA),(5,dB)],[(.st 8)],0,167,[]⟩,u8 (zzr n)⟩),(3,⟨⟨[(3,(.ptr 0 0)),(20,dA),(16,dA),(18,dA),(14,dA),(12,dA),(5,dB),(22,dI),(155,dB)],[(.st 8)],0,167,[]⟩,u9 (kzq n)⟩)]) (anb [(7,0),(31,1),(40,2),(51,3)] f5)
def zow:List (FI dat):=[z8c,zjy,zal,z96,zg8,ziz,zkv]
def zpa:(zaj).Good prog dat (tb zow):=FI.zk5 (hD:=kzg _) func5 ntmps5 call5 (by kernel_rfl) (Qac (by kernel_rfl)) (by kernel_rfl) (λn=>by kernel_rfl) trivial (λx=>by kernel_rfl) (λ_=>rfl) ⟨λ_=>rfl,λ_=>rfl,λ_=>rfl,λ_=>rfl,trivial⟩
 (λn=>λ_=>tr (kzv.eq_2 _ _ n))
 (λn=>⟨λ_=>tr (zzn.eq_2 _ _ _ _ n),
  λ_=>tr (zz6.eq_2 _ _ _ _ _ _ _ _ n),
  λ_=>tr (zzr.eq_2 _ _ _ _ _ _ _ _ n),
  λ_=>tr (kzq.eq_2 _ _ _ _ _ _ _ _ _ n),
  trivial⟩)
 (λx=>by kernel_rfl)
def zp4:OkL prog [zaj]:=zs9 (kzg _) (bs:=[z8c,zjy,zal,z96,zg8,ziz,zkv]) ⟨zwm,yhn,zwc,zul,zwl,y0v,y2e,trivial⟩ zpa
def znb:FOk prog zaj:=zp4.1
def znf(b:zz0)(a:zz0):VRL dat [] 0 [dat.tv (.st 8) b,dat.tv (.st 8) a] [dat.el (.st 8) b,dat.el (.st 8) a]:=by
 simp only[VRL];exact⟨_,_,rfl,VR.tv (kzg prog) (DR.el _ _),⟨_,_,rfl,VR.tv (kzg prog) (DR.el _ _),rfl⟩⟩
def zlb(n:Nat)(b:zz0)(a:zz0)(r:Bool)(h:kzv n b a=some (Res.ok r))(H:Heap):y1a prog 5 [dat.el (.st 8) b,dat.el (.st 8) a] H λout _=>out = .ret (.bool r):=by
 rcases znb n _ (b,a,()) (λy=>some y.1) (λ_=>none) r (by show(kzv n b a).bind (λr=>zsc r _ _)=some r;rw[h];rfl)with ⟨y,g,k⟩|⟨y,g,k⟩
 ·cases g;refine(k H.lv H.L H.E [] [dat.el (.st 8) b,dat.el (.st 8) a] rfl (znf b a) (λj o m=>by cases m) ⟨λs p sl sl' i q=>(by simp at q),λs sl i q=>(by simp at q)⟩).mono λout H' l =>?_
  have⟨L',ρ',_,_,_,vs,e,d⟩:=l;replace d:VRL dat ρ' H.lv [TV.bool y.1] vs:=d;simp only[VRL,VR]at d;obtain⟨v,r,rfl,rfl,rfl⟩:=d;exact e
 ·cases g
end
end Go.Proofs.YthlmhmebajjkbaaGreatDoor
namespace Go.Proofs.Tryz
open Go Go.Ab
open Tryz
@[simp] def yrq:Program.cellsOf prog 2=1:=by kernel_rfl
@[simp] def z02k:Program.cellsOf prog 3=1:=by kernel_rfl
@[simp] def z018:Program.cellsOf prog 4=1:=by kernel_rfl
@[simp] def zy4:Program.cellsOf prog 5=1:=by kernel_rfl
@[simp] def zoe:Program.cellsOf prog 9=1:=by kernel_rfl
@[simp] def yyx:Program.cellsOf prog 22=1:=by kernel_rfl
@[simp] def yxx:Program.cellsOf prog 23=1:=by kernel_rfl
@[simp] def yym:Program.cellsOf prog 25=2:=by kernel_rfl
@[simp] def yxm:Program.cellsOf prog 31=1:=by kernel_rfl
@[simp] def yx5:Program.cellsOf prog 32=1:=by kernel_rfl
@[simp] def ykt:Program.cellsOf prog 34=3:=by kernel_rfl
@[simp] def yl1:Program.cellsOf prog 36=2:=by kernel_rfl
@[simp] def yyn:Program.cellsOf prog 37=1:=by kernel_rfl
@[simp] def y6w:Program.cellsOf prog 39=6:=by kernel_rfl
@[simp] def y87:Program.cellsOf prog 40=1:=by kernel_rfl
@[simp] def znx:Program.cellsOf prog 42=9:=by kernel_rfl
@[simp] def yyz:Program.cellsOf prog 62=1:=by kernel_rfl
@[simp] def yky:Program.cellsOf prog 64=11:=by kernel_rfl
@[simp] def yyo:Program.cellsOf prog 69=1:=by kernel_rfl
@[simp] def ykf:Program.cellsOf prog 71=5:=by kernel_rfl
@[simp] def ykc:Program.cellsOf prog 83=10:=by kernel_rfl
@[simp] def yf1:Program.cellsOf prog 106=3:=by kernel_rfl
end Go.Proofs.Tryz
namespace Go.Proofs.YthlmhmebajjkbaaGreatDoor
open Go Go.Ab
def yx3(m:Nat):z6l (m+300)=some (Res.ok true):=by kernel_rfl
def z034:Ev (λn=>z6l n) (Res.ok true):=⟨300,λk a=>by
 obtain⟨m,rfl⟩:=Nat.exists_eq_add_of_le' a
 exact yx3 m⟩
end Go.Proofs.YthlmhmebajjkbaaGreatDoor
namespace Go.Proofs.Tryz
open Go Go.Ab
open Tryz
def z04g(n:Nat):Reads prog n 36 yz6.ty:=(z9z underlying36 yl1 (λm a=>(kzh rfl yrq (zjb underlying2 m) (kzh rfl yrq (zjb underlying2 m) zdq)))).conv (λx=>(⟨x.1,x.2.1⟩:yz6)) (λx=>by show yz6.el _=_;rw[yz6.yz4];simp[Ty.struct,Ty.pair,Ty.unit,Ty.int,Ty.bool,Ty.str,Ty.slice,V.cells,yz6.ty,yz6.yz4,zz1.ty,zz1.yz4,yz1.ty,yz1.yz4,zz9.ty,zz9.yz4,kzb.ty,kzb.yz4,zz3.ty,zz3.yz4,yz5.ty,yz5.yz4,kz3.ty,kz3.yz4,zz0.ty,zz0.yz4]) rfl (λx h=>by simp only[yz6.ty];rw[yz6.z2h];simp only[Ty.struct,Ty.pair,Ty.unit,Ty.int,Ty.bool,Ty.str,Ty.slice,yz6.ty,zz1.ty,yz1.ty,zz9.ty,kzb.ty,zz3.ty,yz5.ty,kz3.ty,zz0.ty]at h ⊢;simpa using h) (λx=>by simp only[Ty.struct,Ty.pair,Ty.unit,Ty.int,Ty.bool,Ty.str,Ty.slice,yz6.ty,zz1.ty,yz1.ty,zz9.ty,kzb.ty,zz3.ty,yz5.ty,kz3.ty,zz0.ty];rw[yz6.size_eq];(try dsimp only);omega)
def z04m:∀n,Reads prog n 39 zz1.ty:=λn=>by
 induction n using Nat.strongRecOn with
 |ind n a=>exact(z9z underlying39 y6w (λm b=>(kzh rfl zy4 (zjb underlying5 m) (kzh rfl yl1 (z04g m) (kzh rfl z018 (yv1 underlying4 m) (kzh rfl zoe (zlh underlying9 m) (kzh rfl yyn (za2 underlying37 y6w (by decide) (λk d=>(a k (by omega)))) zdq))))))).conv (λx=>(⟨x.1,x.2.1,x.2.2.1,x.2.2.2.1,x.2.2.2.2.1⟩:zz1)) (λx=>by show zz1.el _=_;rw[zz1.yz4];simp[Ty.struct,Ty.pair,Ty.unit,Ty.int,Ty.bool,Ty.str,Ty.slice,V.cells,yz6.ty,yz6.yz4,zz1.ty,zz1.yz4,yz1.ty,yz1.yz4,zz9.ty,zz9.yz4,kzb.ty,kzb.yz4,zz3.ty,zz3.yz4,yz5.ty,yz5.yz4,kz3.ty,kz3.yz4,zz0.ty,zz0.yz4]) rfl (λx h=>by simp only[zz1.ty];rw[zz1.z2h];simp only[Ty.struct,Ty.pair,Ty.unit,Ty.int,Ty.bool,Ty.str,Ty.slice,yz6.ty,zz1.ty,yz1.ty,zz9.ty,kzb.ty,zz3.ty,yz5.ty,kz3.ty,zz0.ty]at h ⊢;simpa using h) (λx=>by simp only[Ty.struct,Ty.pair,Ty.unit,Ty.int,Ty.bool,Ty.str,Ty.slice,yz6.ty,zz1.ty,yz1.ty,zz9.ty,kzb.ty,zz3.ty,yz5.ty,kz3.ty,zz0.ty];rw[zz1.size_eq];(try dsimp only);omega)
def ybw:∀n,Reads prog n 42 yz1.ty:=λn=>by
 induction n using Nat.strongRecOn with
 |ind n a=>exact(z9z underlying42 znx (λm b=>(kzh rfl zy4 (zjb underlying5 m) (kzh rfl y6w (z04m m) (kzh rfl zoe (zlh underlying9 m) (kzh rfl y87 (za2 underlying40 znx (by decide) (λk d=>(a k (by omega)))) zdq)))))).conv (λx=>(⟨x.1,x.2.1,x.2.2.1,x.2.2.2.1⟩:yz1)) (λx=>by show yz1.el _=_;rw[yz1.yz4];simp[Ty.struct,Ty.pair,Ty.unit,Ty.int,Ty.bool,Ty.str,Ty.slice,V.cells,yz6.ty,yz6.yz4,zz1.ty,zz1.yz4,yz1.ty,yz1.yz4,zz9.ty,zz9.yz4,kzb.ty,kzb.yz4,zz3.ty,zz3.yz4,yz5.ty,yz5.yz4,kz3.ty,kz3.yz4,zz0.ty,zz0.yz4]) rfl (λx h=>by simp only[yz1.ty];rw[yz1.z2h];simp only[Ty.struct,Ty.pair,Ty.unit,Ty.int,Ty.bool,Ty.str,Ty.slice,yz6.ty,zz1.ty,yz1.ty,zz9.ty,kzb.ty,zz3.ty,yz5.ty,kz3.ty,zz0.ty]at h ⊢;simpa using h) (λx=>by simp only[Ty.struct,Ty.pair,Ty.unit,Ty.int,Ty.bool,Ty.str,Ty.slice,yz6.ty,zz1.ty,yz1.ty,zz9.ty,kzb.ty,zz3.ty,yz5.ty,kz3.ty,zz0.ty];rw[yz1.size_eq];(try dsimp only);omega)
def z052(n:Nat):Reads prog n 83 zz9.ty:=(z9z underlying83 ykc (λm a=>(kzh rfl zoe (zlh underlying9 m) (kzh rfl znx (ybw m) zdq)))).conv (λx=>(⟨x.1,x.2.1⟩:zz9)) (λx=>by show zz9.el _=_;rw[zz9.yz4];simp[Ty.struct,Ty.pair,Ty.unit,Ty.int,Ty.bool,Ty.str,Ty.slice,V.cells,yz6.ty,yz6.yz4,zz1.ty,zz1.yz4,yz1.ty,yz1.yz4,zz9.ty,zz9.yz4,kzb.ty,kzb.yz4,zz3.ty,zz3.yz4,yz5.ty,yz5.yz4,kz3.ty,kz3.yz4,zz0.ty,zz0.yz4]) rfl (λx h=>by simp only[zz9.ty];rw[zz9.z2h];simp only[Ty.struct,Ty.pair,Ty.unit,Ty.int,Ty.bool,Ty.str,Ty.slice,yz6.ty,zz1.ty,yz1.ty,zz9.ty,kzb.ty,zz3.ty,yz5.ty,kz3.ty,zz0.ty]at h ⊢;simpa using h) (λx=>by simp only[Ty.struct,Ty.pair,Ty.unit,Ty.int,Ty.bool,Ty.str,Ty.slice,yz6.ty,zz1.ty,yz1.ty,zz9.ty,kzb.ty,zz3.ty,yz5.ty,kz3.ty,zz0.ty];rw[zz9.size_eq];(try dsimp only);omega)
def z01z(n:Nat):Reads prog n 106 kzb.ty:=(z9z underlying106 yf1 (λm a=>(kzh rfl zy4 (zjb underlying5 m) (kzh rfl zoe (zlh underlying9 m) (kzh rfl y87 (za2 underlying40 znx (by decide) (λk b=>(ybw k))) zdq))))).conv (λx=>(⟨x.1,x.2.1,x.2.2.1⟩:kzb)) (λx=>by show kzb.el _=_;rw[kzb.yz4];simp[Ty.struct,Ty.pair,Ty.unit,Ty.int,Ty.bool,Ty.str,Ty.slice,V.cells,yz6.ty,yz6.yz4,zz1.ty,zz1.yz4,yz1.ty,yz1.yz4,zz9.ty,zz9.yz4,kzb.ty,kzb.yz4,zz3.ty,zz3.yz4,yz5.ty,yz5.yz4,kz3.ty,kz3.yz4,zz0.ty,zz0.yz4]) rfl (λx h=>by simp only[kzb.ty];rw[kzb.z2h];simp only[Ty.struct,Ty.pair,Ty.unit,Ty.int,Ty.bool,Ty.str,Ty.slice,yz6.ty,zz1.ty,yz1.ty,zz9.ty,kzb.ty,zz3.ty,yz5.ty,kz3.ty,zz0.ty]at h ⊢;simpa using h) (λx=>by simp only[Ty.struct,Ty.pair,Ty.unit,Ty.int,Ty.bool,Ty.str,Ty.slice,yz6.ty,zz1.ty,yz1.ty,zz9.ty,kzb.ty,zz3.ty,yz5.ty,kz3.ty,zz0.ty];rw[kzb.size_eq];(try dsimp only);omega)
def z04e(n:Nat):Reads prog n 71 zz3.ty:=(z9z underlying71 ykf (λm b=>(kzh rfl zy4 (zjb underlying5 m) (kzh rfl zy4 (zjb underlying5 m) (kzh rfl zoe (zlh underlying9 m) (kzh rfl y87 (za2 underlying40 znx (by decide) (λk a=>(ybw k))) (kzh rfl yyo (za2 underlying69 yf1 (by decide) (λk a=>(z01z k))) zdq))))))).conv (λx=>(⟨x.1,x.2.1,x.2.2.1,x.2.2.2.1,x.2.2.2.2.1⟩:zz3)) (λx=>by show zz3.el _=_;rw[zz3.yz4];simp[Ty.struct,Ty.pair,Ty.unit,Ty.int,Ty.bool,Ty.str,Ty.slice,V.cells,yz6.ty,yz6.yz4,zz1.ty,zz1.yz4,yz1.ty,yz1.yz4,zz9.ty,zz9.yz4,kzb.ty,kzb.yz4,zz3.ty,zz3.yz4,yz5.ty,yz5.yz4,kz3.ty,kz3.yz4,zz0.ty,zz0.yz4]) rfl (λx h=>by simp only[zz3.ty];rw[zz3.z2h];simp only[Ty.struct,Ty.pair,Ty.unit,Ty.int,Ty.bool,Ty.str,Ty.slice,yz6.ty,zz1.ty,yz1.ty,zz9.ty,kzb.ty,zz3.ty,yz5.ty,kz3.ty,zz0.ty]at h ⊢;simpa using h) (λx=>by simp only[Ty.struct,Ty.pair,Ty.unit,Ty.int,Ty.bool,Ty.str,Ty.slice,yz6.ty,zz1.ty,yz1.ty,zz9.ty,kzb.ty,zz3.ty,yz5.ty,kz3.ty,zz0.ty];rw[zz3.size_eq];(try dsimp only);omega)
def z042(n:Nat):Reads prog n 64 yz5.ty:=(z9z underlying64 yky (λm a=>(kzh rfl z02k (zjb underlying3 m) (kzh rfl znx (ybw m) (kzh rfl yyz (za2 underlying62 ykf (by decide) (λk b=>(z04e k))) zdq))))).conv (λx=>(⟨x.1,x.2.1,x.2.2.1⟩:yz5)) (λx=>by show yz5.el _=_;rw[yz5.yz4];simp[Ty.struct,Ty.pair,Ty.unit,Ty.int,Ty.bool,Ty.str,Ty.slice,V.cells,yz6.ty,yz6.yz4,zz1.ty,zz1.yz4,yz1.ty,yz1.yz4,zz9.ty,zz9.yz4,kzb.ty,kzb.yz4,zz3.ty,zz3.yz4,yz5.ty,yz5.yz4,kz3.ty,kz3.yz4,zz0.ty,zz0.yz4]) rfl (λx h=>by simp only[yz5.ty];rw[yz5.z2h];simp only[Ty.struct,Ty.pair,Ty.unit,Ty.int,Ty.bool,Ty.str,Ty.slice,yz6.ty,zz1.ty,yz1.ty,zz9.ty,kzb.ty,zz3.ty,yz5.ty,kz3.ty,zz0.ty]at h ⊢;simpa using h) (λx=>by simp only[Ty.struct,Ty.pair,Ty.unit,Ty.int,Ty.bool,Ty.str,Ty.slice,yz6.ty,zz1.ty,yz1.ty,zz9.ty,kzb.ty,zz3.ty,yz5.ty,kz3.ty,zz0.ty];rw[yz5.size_eq];(try dsimp only);omega)
def z059(n:Nat):Reads prog n 34 kz3.ty:=(z9z underlying34 ykt (λm b=>(kzh rfl zoe (zlh underlying9 m) (kzh rfl yxm (za2 underlying31 zoe (by decide) (λk a=>(zlh underlying9 k))) (kzh rfl yx5 (za2 underlying32 yky (by decide) (λk a=>(z042 k))) zdq))))).conv (λx=>(⟨x.1,x.2.1,x.2.2.1⟩:kz3)) (λx=>by show kz3.el _=_;rw[kz3.yz4];simp[Ty.struct,Ty.pair,Ty.unit,Ty.int,Ty.bool,Ty.str,Ty.slice,V.cells,yz6.ty,yz6.yz4,zz1.ty,zz1.yz4,yz1.ty,yz1.yz4,zz9.ty,zz9.yz4,kzb.ty,kzb.yz4,zz3.ty,zz3.yz4,yz5.ty,yz5.yz4,kz3.ty,kz3.yz4,zz0.ty,zz0.yz4]) rfl (λx h=>by simp only[kz3.ty];rw[kz3.z2h];simp only[Ty.struct,Ty.pair,Ty.unit,Ty.int,Ty.bool,Ty.str,Ty.slice,yz6.ty,zz1.ty,yz1.ty,zz9.ty,kzb.ty,zz3.ty,yz5.ty,kz3.ty,zz0.ty]at h ⊢;simpa using h) (λx=>by simp only[Ty.struct,Ty.pair,Ty.unit,Ty.int,Ty.bool,Ty.str,Ty.slice,yz6.ty,zz1.ty,yz1.ty,zz9.ty,kzb.ty,zz3.ty,yz5.ty,kz3.ty,zz0.ty];rw[kz3.size_eq];(try dsimp only);omega)
def z04d(n:Nat):Reads prog n 25 zz0.ty:=(z9z underlying25 yym (λm b=>(kzh rfl yyx (za2 underlying22 ykc (by decide) (λk a=>(z052 k))) (kzh rfl yxx (za2 underlying23 ykt (by decide) (λk a=>(z059 k))) zdq)))).conv (λx=>(⟨x.1,x.2.1⟩:zz0)) (λx=>by show zz0.el _=_;rw[zz0.yz4];simp[Ty.struct,Ty.pair,Ty.unit,Ty.int,Ty.bool,Ty.str,Ty.slice,V.cells,yz6.ty,yz6.yz4,zz1.ty,zz1.yz4,yz1.ty,yz1.yz4,zz9.ty,zz9.yz4,kzb.ty,kzb.yz4,zz3.ty,zz3.yz4,yz5.ty,yz5.yz4,kz3.ty,kz3.yz4,zz0.ty,zz0.yz4]) rfl (λx h=>by simp only[zz0.ty];rw[zz0.z2h];simp only[Ty.struct,Ty.pair,Ty.unit,Ty.int,Ty.bool,Ty.str,Ty.slice,yz6.ty,zz1.ty,yz1.ty,zz9.ty,kzb.ty,zz3.ty,yz5.ty,kz3.ty,zz0.ty]at h ⊢;simpa using h) (λx=>by simp only[Ty.struct,Ty.pair,Ty.unit,Ty.int,Ty.bool,Ty.str,Ty.slice,yz6.ty,zz1.ty,yz1.ty,zz9.ty,kzb.ty,zz3.ty,yz5.ty,kz3.ty,zz0.ty];rw[zz0.size_eq];(try dsimp only);omega)
def z05r:z05a prog 25 zz0.ty:=yue underlying25 z04d zz0.zeu
end Go.Proofs.Tryz
