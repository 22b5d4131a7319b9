/-
  Go functions as Lean functions, by a program of this repo.
-/
import Derived.Test.YthlmhmebajjkbaaGreatDoorOwn0
import Derived.Test.YthlmhmebajjkbaaGreatDoorOwn1
import Derived.Test.YthlmhmebajjkbaaGreatDoorLib2
import Derived.Test.YthlmhmebajjkbaaGreatDoorProg
import Derived.Test.YthlmhmebajjkbaaGreatDoorLib8
import Derived.KernelRfl
set_option linter.defProp false
set_option linter.unusedSimpArgs false
set_option linter.unusedVariables false
namespace Go.Proofs.YthlmhmebajjkbaaGreatDoor
open Go Go.Ab
open Tryz
set_option maxRecDepth 100000
set_option maxHeartbeats 4000000
noncomputable section
def zib:Nat->zz4->zz4->Ot Bool
 |0,_,_=>none
 |n+1,a,b=>
  pIf (a.weight==b.weight)
   ((z3k n a.when_.re b.when_.re).bind λe=>
   pIf e
    ((kzi n a.do_ b.do_).bind λd=>
    some d)
    (some false))
   (some false)
def y45:LSh:=⟨[(4,dB)],[],0,24,[]⟩
def zqh:FI dat:=FI.of dat 142 24 0 [dT 6,dT 6] [] [dB] [] true y45 (R:=Bool) Prod.fst (·,()) (λn=>u2 (zib n))
 (λn=>[]) (anb [] f142)
def y3o:FOk prog zqh:=okF (bs:=[zbj,yzx]) ⟨zn6,z4u,trivial⟩ func142 ntmps142 call142
 (λ_ _=>tr (zib.eq_2 ..))
 (λn=>trivial)
mutual
def zzn:Nat->z0q->z0q->Ot Bool
 |0,_,_=>none
 |n+1,a,b=>
  pIf ((a.length:Int) != (b.length:Int))
   (some false)
   (zzd n 0 b a (a.length:Int))
def zzd:Nat->Int->z0q->z0q->Int->Ot Bool
 |0,_,_,_,_=>none
 |n+1,a,b,c,d=>
  pIf (decide (a<d))
   ((ix c a).bind λh=>
   (ix b a).bind λg=>
   (zib n h.re g.re).bind λe=>
   pIf (!e)
    (some false)
    (zzd n (IntKind.i64.wrap (a+1)) b c d))
   (some true)
end
def z9j:LSh:=⟨[(6,dB)],[],0,32,[]⟩
def z0s:FI dat:=FI.of dat 141 32 0 [dL 6,dL 6,(.fn 142 [] [])] [] [dB] [] true z9j (R:=Bool) Prod.fst (·,()) (λn=>u2 (zzn n))
 (λn=>[(0,⟨⟨[(17,dI),(2,(.fn 142 [] [])),(1,dL 6),(15,dL 6),(16,dI)],[],0,32,[]⟩,u4 (zzd n)⟩)]) (anb [(14,0)] f141)
def z8q:FOk prog z0s:=okF (bs:=[zqh]) ⟨y3o,trivial⟩ func141 ntmps141 call141
 (λ_ _=>tr (zzn.eq_2 ..))
 (λn=>⟨λ_=>tr (zzd.eq_2 ..),
  trivial⟩)
def zma:Nat->zz3->zz3->Ot Bool
 |0,_,_=>none
 |n+1,a,b=>
  pIf (a.name==b.name)
   ((z8l n a.params b.params).bind λe=>
   pIf e
    ((zzn n a.cases b.cases).bind λd=>
    some d)
    (some false))
   (some false)
def ybz:LSh:=⟨[(4,dB)],[],0,24,[]⟩
def zxn:FI dat:=FI.of dat 139 24 0 [dT 7,dT 7] [] [dB] [] true ybz (R:=Bool) Prod.fst (·,()) (λn=>u2 (zma n))
 (λn=>[]) (anb [] f139)
def y8v:FOk prog zxn:=okF (bs:=[zed,z0s]) ⟨zln,z8q,trivial⟩ func139 ntmps139 call139
 (λ_ _=>tr (zma.eq_2 ..))
 (λn=>trivial)
mutual
def kzm:Nat->zz5->zz5->Ot Bool
 |0,_,_=>none
 |n+1,a,b=>
  pIf ((a.length:Int) != (b.length:Int))
   (some false)
   (kzc n 0 b a (a.length:Int))
def kzc:Nat->Int->zz5->zz5->Int->Ot Bool
 |0,_,_,_,_=>none
 |n+1,a,b,c,d=>
  pIf (decide (a<d))
   ((ix c a).bind λh=>
   (ix b a).bind λg=>
   (zma n h g).bind λe=>
   pIf (!e)
    (some false)
    (kzc n (IntKind.i64.wrap (a+1)) b c d))
   (some true)
end
def z92:LSh:=⟨[(6,dB)],[],0,32,[]⟩
def z0x:FI dat:=FI.of dat 138 32 0 [dL 7,dL 7,(.fn 139 [] [])] [] [dB] [] true z92 (R:=Bool) Prod.fst (·,()) (λn=>u2 (kzm n))
 (λn=>[(0,⟨⟨[(17,dI),(2,(.fn 139 [] [])),(1,dL 7),(15,dL 7),(16,dI)],[],0,32,[]⟩,u4 (kzc n)⟩)]) (anb [(14,0)] f138)
def z8r:FOk prog z0x:=okF (bs:=[zxn]) ⟨y8v,trivial⟩ func138 ntmps138 call138
 (λ_ _=>tr (kzm.eq_2 ..))
 (λn=>⟨λ_=>tr (kzc.eq_2 ..),
  trivial⟩)
def zre:Nat->zz0->zz0->Ot Bool
 |0,_,_=>none
 |n+1,a,b=>
  (yzn n a.attrs b.attrs).bind λe=>
  pIf e
   ((kzm n a.rules b.rules).bind λd=>
   some d)
   (some false)
def ylb:LSh:=⟨[(4,dB)],[],0,17,[]⟩
def zuu:FI dat:=FI.of dat 91 17 0 [dT 8,dT 8] [] [dB] [] true ylb (R:=Bool) Prod.fst (·,()) (λn=>u2 (zre n))
 (λn=>[]) (anb [] f91)
def yh2:FOk prog zuu:=okF (bs:=[z0u,z0x]) ⟨z8t,z8r,trivial⟩ func91 ntmps91 call91
 (λ_ _=>tr (zre.eq_2 ..))
 (λn=>trivial)
def zkg:Nat->yz1->(List B8)->(List Bool)->Ot (Bool×(List B8)×(List Bool))
 |0,_,_,_=>none
 |n+1,a,b,c=>
  (zk5 n a.re (mks (List.zip b c)) (mvs (List.zip b c))).bind λd=>
  some (d.1,(mks (List.zip d.2.1 d.2.2)),(mvs (List.zip d.2.1 d.2.2)))
def y65:LSh:=⟨[(3,dB)],[(.cells [(.map 1)]),(.mp 86 .bool)],2,7,[]⟩
def ztu:FI dat:=FI.of dat 144 7 2 [dT 2,(.ptr 0 0)] [(.cells [(.map 1)]),(.mp 86 .bool)] [dB] [(.cells [(.map 1)]),(.mp 86 .bool)] false y65 (R:=Bool×(List B8)×(List Bool)) (λx=>(x.1,x.2.1,x.2.2.1)) (λr=>(r.1,r.2.1,r.2.2,())) (λn=>u3 (zkg n))
 (λn=>[]) (anb [] f144)
def y50:FOk prog ztu:=okF (bs:=[zlu]) ⟨zw1,trivial⟩ func144 ntmps144 call144
 (λ_ _=>tr (zkg.eq_2 ..))
 (λn=>trivial)
mutual
def z1h:Nat->kz5->(List B8)->(List Bool)->Ot (Int×(List B8)×(List Bool))
 |0,_,_,_=>none
 |n+1,a,b,c=>
  kzp n 0 a (a.length:Int) (mks (List.zip b c)) (mvs (List.zip b c))
def kzp:Nat->Int->kz5->Int->(List B8)->(List Bool)->Ot (Int×(List B8)×(List Bool))
 |0,_,_,_,_,_=>none
 |n+1,a,b,c,d,e=>
  pIf (decide (a<c))
   ((ix b a).bind λh=>
   (zkg n h.re (mks (List.zip d e)) (mvs (List.zip d e))).bind λg=>
   pIf g.1
    (some (a,(mks (List.zip g.2.1 g.2.2)),(mvs (List.zip g.2.1 g.2.2))))
    (kzp n (IntKind.i64.wrap (a+1)) b c (mks (List.zip g.2.1 g.2.2)) (mvs (List.zip g.2.1 g.2.2))))
   (some ((-1),(mks (List.zip d e)),(mvs (List.zip d e))))
end
def zfl:LSh:=⟨[(4,dI)],[(.cells [(.map 1)]),(.mp 86 .bool)],2,19,[]⟩
def z84:FI dat:=FI.of dat 83 19 2 [dL 2,(.fn 144 [] [(.ptr 0 0)])] [(.cells [(.map 1)]),(.mp 86 .bool)] [dI] [(.cells [(.map 1)]),(.mp 86 .bool)] false zfl (R:=Int×(List B8)×(List Bool)) (λx=>(x.1,x.2.1,x.2.2.1)) (λr=>(r.1,r.2.1,r.2.2,())) (λn=>u3 (z1h n))
 (λn=>[(0,⟨⟨[(8,dI),(0,dL 2),(1,(.fn 144 [] [(.ptr 0 0)])),(7,dI)],[(.cells [(.map 1)]),(.mp 86 .bool)],2,19,[]⟩,u5 (kzp n)⟩)]) (anb [(6,0)] f83)
def zeu:FOk prog z84:=okF (bs:=[ztu]) ⟨y50,trivial⟩ func83 ntmps83 call83
 (λ_ _=>tr (z1h.eq_2 ..))
 (λn=>⟨λ_=>tr (kzp.eq_2 ..),
  trivial⟩)
def z0i:Nat->kz5->(List B8)->(List Bool)->Ot (Bool×(List B8)×(List Bool))
 |0,_,_,_=>none
 |n+1,a,b,c=>
  (z1h n a (mks (List.zip b c)) (mvs (List.zip b c))).bind λd=>
  some ((decide (d.1>=0)),(mks (List.zip d.2.1 d.2.2)),(mvs (List.zip d.2.1 d.2.2)))
def zdt:LSh:=⟨[(4,dB)],[(.cells [(.map 1)]),(.mp 86 .bool)],2,9,[]⟩
def z63:FI dat:=FI.of dat 38 9 2 [dL 2,(.fn 144 [] [(.ptr 0 0)])] [(.cells [(.map 1)]),(.mp 86 .bool)] [dB] [(.cells [(.map 1)]),(.mp 86 .bool)] false zdt (R:=Bool×(List B8)×(List Bool)) (λx=>(x.1,x.2.1,x.2.2.1)) (λr=>(r.1,r.2.1,r.2.2,())) (λn=>u3 (z0i n))
 (λn=>[]) (anb [] f38)
def zde:FOk prog z63:=okF (bs:=[z84]) ⟨zeu,trivial⟩ func38 ntmps38 call38
 (λ_ _=>tr (z0i.eq_2 ..))
 (λn=>trivial)
mutual
def zmh:Nat->zz3->(List B8)->(List Bool)->Ot (Bool×(List B8)×(List Bool))
 |0,_,_,_=>none
 |n+1,a,b,c=>
  zdk n 0 a.cases (a.cases.length:Int) (mks (List.zip b c)) (mvs (List.zip b c))
def zdk:Nat->Int->z0q->Int->(List B8)->(List Bool)->Ot (Bool×(List B8)×(List Bool))
 |0,_,_,_,_,_=>none
 |n+1,a,b,c,d,e=>
  pIf (decide (a<c))
   ((ix b a).bind λh=>
   (zk5 n h.when_.re (mks (List.zip d e)) (mvs (List.zip d e))).bind λg=>
   pIf g.1
    (some (true,(mks (List.zip g.2.1 g.2.2)),(mvs (List.zip g.2.1 g.2.2))))
    (zdx n 0 h.do_ b c a (h.do_.length:Int) (mks (List.zip g.2.1 g.2.2)) (mvs (List.zip g.2.1 g.2.2))))
   (some (false,(mks (List.zip d e)),(mvs (List.zip d e))))
def zdx:Nat->Int->yzu->z0q->Int->Int->Int->(List B8)->(List Bool)->Ot (Bool×(List B8)×(List Bool))
 |0,_,_,_,_,_,_,_,_=>none
 |n+1,a,b,c,d,e,f,g,h=>
  pIf (decide (a<f))
   ((ix b a).bind λi=>
   (zb0 n i.args).bind λj=>
   zdw n 0 i.items b c d e f a (i.items.length:Int) (mks (List.zip g h)) (mvs (List.zip g h)) j)
   (zdk n (IntKind.i64.wrap (e+1)) c d (mks (List.zip g h)) (mvs (List.zip g h)))
def zdw:Nat->Int->zdu->yzu->z0q->Int->Int->Int->Int->Int->(List B8)->(List Bool)->kz5->Ot (Bool×(List B8)×(List Bool))
 |0,_,_,_,_,_,_,_,_,_,_,_,_=>none
 |n+1,a,b,c,d,e,f,g,h,i,j,k,l=>
  pIf (decide (a<i))
   ((ix b a).bind λp=>
   (ext l p.args).bind λo=>
   zdw n (IntKind.i64.wrap (a+1)) b c d e f g h i (mks (List.zip j k)) (mvs (List.zip j k)) o)
   ((z0i n l (mks (List.zip j k)) (mvs (List.zip j k))).bind λm=>
   pIf m.1
    (some (true,(mks (List.zip m.2.1 m.2.2)),(mvs (List.zip m.2.1 m.2.2))))
    (zdx n (IntKind.i64.wrap (h+1)) c d e f g (mks (List.zip m.2.1 m.2.2)) (mvs (List.zip m.2.1 m.2.2))))
end
def yeq:LSh:=⟨[(4,dB)],[(.mp 86 .bool)],1,50,[]⟩
def zoh:FI dat:=FI.of dat 92 50 1 [dT 7,(.map 0)] [(.mp 86 .bool)] [dB] [(.mp 86 .bool)] false yeq (R:=Bool×(List B8)×(List Bool)) (λx=>(x.1,x.2.1,x.2.2.1)) (λr=>(r.1,r.2.1,r.2.2,())) (λn=>u3 (zmh n))
 (λn=>[(0,⟨⟨[(3,(.ptr 1 0)),(15,dI),(13,dL 6),(14,dI)],[(.mp 86 .bool),(.cells [(.map 0)])],1,50,[]⟩,u5 (zdk n)⟩),(1,⟨⟨[(26,dI),(3,(.ptr 1 0)),(24,dL 5),(13,dL 6),(14,dI),(15,dI),(25,dI)],[(.mp 86 .bool),(.cells [(.map 0)])],1,50,[]⟩,u8 (zdx n)⟩),(2,⟨⟨[(36,dI),(9,(.own 1)),(34,dL 4),(3,(.ptr 2 0)),(24,dL 5),(13,dL 6),(14,dI),(15,dI),(25,dI),(26,dI),(35,dI)],[(.mp 86 .bool),(.acc 42 (.st 2) true),(.cells [(.map 0)])],1,50,[]⟩,u12 (zdw n)⟩)]) (anb [(6,0),(28,1),(45,2)] f92)
def y8x:FOk prog zoh:=okF (bs:=[zlu,zbh,z63]) ⟨zw1,zj7,zde,trivial⟩ func92 ntmps92 call92
 (λ_ _=>tr (zmh.eq_2 ..))
 (λn=>⟨λ_=>tr (zdk.eq_2 ..),
  λ_=>tr (zdx.eq_2 ..),
  λ_=>tr (zdw.eq_2 ..),
  trivial⟩)
mutual
def zhv:Nat->zz0->zz0->Ot (Res (B8×Unit) ((List B8)×(List Bool)))
 |0,_,_=>none
 |n+1,a,b=>
  (zrs n a b).bind λh=>
  y9z h (λd=>
   (z3p n [a.rules,b.rules]).bind λg=>
   y9z g (λe=>
    zds n 0 e (e.length:Int) [] [] (mks (List.zip d.1 d.2)) (mvs (List.zip d.1 d.2)) b a)
    (λj=>
    some (Res.pan (j.1,()))))
   (λi=>
   some (Res.pan (i.1,())))
def zds:Nat->Int->zz5->Int->(List B8)->(List Bool)->(List B8)->(List Bool)->zz0->zz0->Ot (Res (B8×Unit) ((List B8)×(List Bool)))
 |0,_,_,_,_,_,_,_,_,_=>none
 |n+1,a,b,c,d,e,f,g,h,i=>
  pIf (decide (a<c))
   ((ix b a).bind λk=>
   (z8c n i k.name).bind λm=>
   (z8c n h k.name).bind λl=>
   pIf (decide (m<0))
    (z6o n b c a true (mks (List.zip d e)) (mvs (List.zip d e)) (mks (List.zip f g)) (mvs (List.zip f g)) h i k)
    (pIf (decide (l<0))
      (z6o n b c a true (mks (List.zip d e)) (mvs (List.zip d e)) (mks (List.zip f g)) (mvs (List.zip f g)) h i k)
      ((sub i.rules m (IntKind.i64.wrap (m+1))).bind λq=>
      (sub h.rules l (IntKind.i64.wrap (l+1))).bind λp=>
      (zre n (zz0.mk [] q) (zz0.mk [] p)).bind λo=>
      pIf (!o)
       (z6o n b c a true (mks (List.zip d e)) (mvs (List.zip d e)) (mks (List.zip f g)) (mvs (List.zip f g)) h i k)
       ((zmh n k (mks (List.zip f g)) (mvs (List.zip f g))).bind λj=>
       z6o n b c a j.1 (mks (List.zip d e)) (mvs (List.zip d e)) (mks (List.zip j.2.1 j.2.2)) (mvs (List.zip j.2.1 j.2.2)) h i k))))
   (some (Res.ok ((mks (List.zip d e)),(mvs (List.zip d e)))))
def z6o:Nat->zz5->Int->Int->Bool->(List B8)->(List Bool)->(List B8)->(List Bool)->zz0->zz0->zz3->Ot (Res (B8×Unit) ((List B8)×(List Bool)))
 |0,_,_,_,_,_,_,_,_,_,_,_=>none
 |n+1,a,b,c,d,e,f,g,h,i,j,k=>
  pIf d
   (zdy n a b c (mks (z99 (List.zip e f) k.name true)) (mvs (z99 (List.zip e f) k.name true)) (mks (List.zip g h)) (mvs (List.zip g h)) i j)
   (zdy n a b c (mks (List.zip e f)) (mvs (List.zip e f)) (mks (List.zip g h)) (mvs (List.zip g h)) i j)
def zdy:Nat->zz5->Int->Int->(List B8)->(List Bool)->(List B8)->(List Bool)->zz0->zz0->Ot (Res (B8×Unit) ((List B8)×(List Bool)))
 |0,_,_,_,_,_,_,_,_,_=>none
 |n+1,a,b,c,d,e,f,g,h,i=>
  zds n (IntKind.i64.wrap (c+1)) a b (mks (List.zip d e)) (mvs (List.zip d e)) (mks (List.zip f g)) (mvs (List.zip f g)) h i
end
def yfv:LSh:=⟨[(4,(.map 0))],[(.mp 86 .bool)],0,68,[]⟩
def zaq:FI dat:=FI.ofP dat 45 68 0 [dT 8,dT 8] [] [(.map 0)] [(.mp 86 .bool)] (.iface 9 dS) [] [] yfv (R:=(List B8)×(List Bool)) (λx=>(x.1,x.2.1)) (λr=>(r.1,r.2,())) (λn=>u2 (zhv n))
 (λn=>[(0,⟨⟨[(22,dI),(5,(.map 0)),(6,(.map 1)),(3,(.ptr 2 0)),(2,(.ptr 3 0)),(20,dL 7),(21,dI)],[(.mp 86 .bool),(.mp 86 .bool),(.st 8),(.st 8)],0,68,[]⟩,u9 (zds n)⟩),(1,⟨⟨[(5,(.map 0)),(6,(.map 1)),(3,(.ptr 2 0)),(2,(.ptr 3 0)),(20,dL 7),(21,dI),(22,dI),(8,(.ptr 4 0)),(62,dB)],[(.mp 86 .bool),(.mp 86 .bool),(.st 8),(.st 8),(.st 7)],0,68,[]⟩,u11 (z6o n)⟩),(2,⟨⟨[(5,(.map 0)),(6,(.map 1)),(3,(.ptr 2 0)),(2,(.ptr 3 0)),(20,dL 7),(21,dI),(22,dI)],[(.mp 86 .bool),(.mp 86 .bool),(.st 8),(.st 8)],0,68,[]⟩,u9 (zdy n)⟩)]) (anb [(10,0),(25,1),(28,2)] f45)
def ydp:List (FI dat):=[zk3,zzv,zoh,zq2,zuu]
def ycp:(zaq).Good prog dat (tb ydp):=FI.zm1 (hD:=zzf _) func45 ntmps45 call45 (by kernel_rfl) (Qac (by kernel_rfl)) (by kernel_rfl) (λn=>by kernel_rfl) trivial (λx=>by kernel_rfl) (λ_=>rfl) ⟨λ_=>rfl,λ_=>rfl,λ_=>rfl,trivial⟩
 (λ_ _=>tr (zhv.eq_2 ..))
 (λn=>⟨λ_=>tr (zds.eq_2 ..),
  λ_=>tr (z6o.eq_2 ..),
  λ_=>tr (zdy.eq_2 ..),
  trivial⟩)
 (λx=>by kernel_rfl)
def yek:OkL prog [zaq]:=zuz (zzf _) (bs:=[zk3,zzv,zoh,zq2,zuu]) ⟨yir,zi4,y8x,y56,yh2,trivial⟩ ycp
def zwc:FOk prog zaq:=yek.1
def zmf:Nat->zz0->zz0->Ot (Res (B8×Unit) ((List B8)×Int))
 |0,_,_=>none
 |n+1,a,b=>
  (zn7 n a b).bind λe=>
  pIf (e != 0)
   (some (Res.ok ([],e)))
   ((zhv n a b).bind λh=>
   y9z h (λd=>
    (zg4 n (mks (List.zip d.1 d.2)) (mvs (List.zip d.1 d.2))).bind λg=>
    some (Res.ok (g.1,0)))
    (λi=>
    some (Res.pan (i.1,()))))
def yg9:LSh:=⟨[(4,dA),(5,dI)],[],0,17,[]⟩
def zg1:FI dat:=FI.ofP dat 18 17 0 [dT 8,dT 8] [] [dA,dI] [] (.iface 9 dS) [] [] yg9 (R:=(List B8)×Int) (λx=>(x.1,x.2.1)) (λr=>(r.1,r.2,())) (λn=>u2 (zmf n))
 (λn=>[]) (anb [] f18)
def ycg:List (FI dat):=[zaq,zel,zlm]
def yeo:(zg1).Good prog dat (tb ycg):=FI.zm1 (hD:=zzf _) func18 ntmps18 call18 (by kernel_rfl) (Qac (by kernel_rfl)) (by kernel_rfl) (λn=>by kernel_rfl) trivial (λx=>by kernel_rfl) (λ_=>rfl) trivial
 (λn=>λ_=>tr (zmf.eq_2 _ _ n))
 (λn=>trivial)
 (λx=>by kernel_rfl)
def yf3:OkL prog [zg1]:=zuz (zzf _) (bs:=[zaq,zel,zlm]) ⟨zwc,zwn,y4f,trivial⟩ yeo
def y91:FOk prog zg1:=yf3.1
def zsb:Nat->zz3->B8->Ot (Bool×B8)
 |0,_,_=>none
 |n+1,a,b=>
  some ((a.name==b),b)
def yo5:LSh:=⟨[(3,dB)],[(.cells [dS])],1,8,[]⟩
def y4p:FI dat:=FI.of dat 145 8 1 [dT 7,(.ptr 0 0)] [(.cells [dS])] [dB] [(.cells [dS])] false yo5 (R:=Bool×B8) (λx=>(x.1,x.2.1)) (λr=>(r.1,r.2,())) (λn=>u2 (zsb n))
 (λn=>[]) (anb [] f145)
def ygg:FOk prog y4p:=okF (bs:=[]) trivial func145 ntmps145 call145
 (λn=>λ_=>tr (zsb.eq_2 _ _ n))
 (λn=>trivial)
mutual
def z1j:Nat->zz5->B8->Ot (Int×B8)
 |0,_,_=>none
 |n+1,a,b=>
  zzq n 0 a (a.length:Int) b
def zzq:Nat->Int->zz5->Int->B8->Ot (Int×B8)
 |0,_,_,_,_=>none
 |n+1,a,b,c,d=>
  pIf (decide (a<c))
   ((ix b a).bind λg=>
   (zsb n g d).bind λe=>
   pIf e.1
    (some (a,e.2))
    (zzq n (IntKind.i64.wrap (a+1)) b c e.2))
   (some ((-1),d))
end
def zfp:LSh:=⟨[(4,dI)],[(.cells [dS])],1,19,[]⟩
def z88:FI dat:=FI.of dat 102 19 1 [dL 7,(.fn 145 [] [(.ptr 0 0)])] [(.cells [dS])] [dI] [(.cells [dS])] false zfp (R:=Int×B8) (λx=>(x.1,x.2.1)) (λr=>(r.1,r.2,())) (λn=>u2 (z1j n))
 (λn=>[(0,⟨⟨[(8,dI),(0,dL 7),(1,(.fn 145 [] [(.ptr 0 0)])),(7,dI)],[(.cells [dS])],1,19,[]⟩,u4 (zzq n)⟩)]) (anb [(6,0)] f102)
def zex:FOk prog z88:=okF (bs:=[y4p]) ⟨ygg,trivial⟩ func102 ntmps102 call102
 (λ_ _=>tr (z1j.eq_2 ..))
 (λn=>⟨λ_=>tr (zzq.eq_2 ..),
  trivial⟩)
def zqy:Nat->zz0->B8->Ot Int
 |0,_,_=>none
 |n+1,a,b=>
  (z1j n a.rules b).bind λd=>
  some d.1
def yu8:LSh:=⟨[(4,dI)],[],0,9,[]⟩
def ycj:FI dat:=FI.of dat 93 9 0 [dT 8,dS] [] [dI] [] true yu8 (R:=Int) Prod.fst (·,()) (λn=>u2 (zqy n))
 (λn=>[]) (anb [] f93)
def yps:FOk prog ycj:=okF (bs:=[z88]) ⟨zex,trivial⟩ func93 ntmps93 call93
 (λ_ _=>tr (zqy.eq_2 ..))
 (λn=>trivial)
mutual
def znr:Nat->zz0->B8->Ot ((List B8)×Int)
 |0,_,_=>none
 |n+1,a,b=>
  (z0t n a).bind λd=>
  pIf (d != 0)
   (some ([],d))
   ((zqy n a b).bind λe=>
   pIf (decide (e<0))
    (some ([],6))
    (zf7 n 0 [b] (mks (z99 [] b true)) (mvs (z99 [] b true)) a))
def zf7:Nat->Int->(List B8)->(List B8)->(List Bool)->zz0->Ot ((List B8)×Int)
 |0,_,_,_,_,_=>none
 |n+1,a,b,c,d,e=>
  pIf (decide (a<(b.length:Int)))
   ((ix b a).bind λk=>
   (zqy n e k).bind λi=>
   (ix e.rules i).bind λj=>
   (zao n j).bind λg=>
   zf6 n 0 g a (g.length:Int) b (mks (List.zip c d)) (mvs (List.zip c d)) e)
   ((yzp n b).bind λh=>
   some (h,0))
def zf6:Nat->Int->z9p->Int->Int->(List B8)->(List B8)->(List Bool)->zz0->Ot ((List B8)×Int)
 |0,_,_,_,_,_,_,_,_=>none
 |n+1,a,b,c,d,e,f,g,h=>
  pIf (decide (a<d))
   ((ix b a).bind λi=>
   pIf (!(Option.getD (z6b (List.zip f g) i.name) false))
    ((ext e [i.name]).bind λj=>
    zfd n b c d a j (mks (z99 (List.zip f g) i.name true)) (mvs (z99 (List.zip f g) i.name true)) h)
    (zfd n b c d a e (mks (List.zip f g)) (mvs (List.zip f g)) h))
   (zf7 n (IntKind.i64.wrap (c+1)) e (mks (List.zip f g)) (mvs (List.zip f g)) h)
def zfd:Nat->z9p->Int->Int->Int->(List B8)->(List B8)->(List Bool)->zz0->Ot ((List B8)×Int)
 |0,_,_,_,_,_,_,_,_=>none
 |n+1,a,b,c,d,e,f,g,h=>
  zf6 n (IntKind.i64.wrap (d+1)) a b c e (mks (List.zip f g)) (mvs (List.zip f g)) h
end
def yj2:LSh:=⟨[(4,dA),(5,dI)],[],0,65,[]⟩
def zrb:FI dat:=FI.of dat 46 65 0 [dT 8,dS] [] [dA,dI] [] true yj2 (R:=(List B8)×Int) (λx=>(x.1,x.2.1)) (λr=>(r.1,r.2,())) (λn=>u2 (znr n))
 (λn=>[(0,⟨⟨[(8,(.own 0)),(7,(.map 1)),(9,dI),(2,(.ptr 2 0))],[(.acc 9 .str true),(.mp 86 .bool),(.st 8)],0,65,[]⟩,u5 (zf7 n)⟩),(1,⟨⟨[(44,dI),(8,(.own 0)),(7,(.map 1)),(42,dL 11),(2,(.ptr 2 0)),(9,dI),(43,dI)],[(.acc 9 .str true),(.mp 86 .bool),(.st 8)],0,65,[]⟩,u8 (zf6 n)⟩),(2,⟨⟨[(8,(.own 0)),(7,(.map 1)),(42,dL 11),(2,(.ptr 2 0)),(9,dI),(43,dI),(44,dI)],[(.acc 9 .str true),(.mp 86 .bool),(.st 8)],0,65,[]⟩,u8 (zfd n)⟩)]) (anb [(28,0),(40,1),(58,2)] f46)
def ybm:FOk prog zrb:=okF (bs:=[z4n,zer,ycj,zrv]) ⟨ze7,zka,yps,zww,trivial⟩ func46 ntmps46 call46
 (λn=>λ_=>tr (znr.eq_2 _ _ n))
 (λn=>⟨λ_=>tr (zf7.eq_2 _ _ _ _ _ n),
  λ_=>tr (zf6.eq_2 _ _ _ _ _ _ _ _ n),
  λ_=>tr (zfd.eq_2 _ _ _ _ _ _ _ _ n),
  trivial⟩)
def zig:Nat->B8->(List B8)->(List Bool)->Ot (Bool×(List B8)×(List Bool))
 |0,_,_,_=>none
 |n+1,a,b,c=>
  some ((Option.getD (z6b (List.zip b c) a) false),(mks (List.zip b c)),(mvs (List.zip b c)))
def y4h:LSh:=⟨[(3,dB)],[(.cells [(.map 1)]),(.mp 86 .bool)],2,7,[]⟩
def zr5:FI dat:=FI.of dat 48 7 2 [dS,(.ptr 0 0)] [(.cells [(.map 1)]),(.mp 86 .bool)] [dB] [(.cells [(.map 1)]),(.mp 86 .bool)] false y4h (R:=Bool×(List B8)×(List Bool)) (λx=>(x.1,x.2.1,x.2.2.1)) (λr=>(r.1,r.2.1,r.2.2,())) (λn=>u3 (zig n))
 (λn=>[]) (anb [] f48)
def y32:FOk prog zr5:=okF (bs:=[]) trivial func48 ntmps48 call48
 (λn=>λ_=>tr (zig.eq_2 _ _ _ n))
 (λn=>trivial)
mutual
def z4q:Nat->(List B8)->(List B8)->(List Bool)->Ot (Int×(List B8)×(List Bool))
 |0,_,_,_=>none
 |n+1,a,b,c=>
  z09 n 0 a (a.length:Int) (mks (List.zip b c)) (mvs (List.zip b c))
def z09:Nat->Int->(List B8)->Int->(List B8)->(List Bool)->Ot (Int×(List B8)×(List Bool))
 |0,_,_,_,_,_=>none
 |n+1,a,b,c,d,e=>
  pIf (decide (a<c))
   ((ix b a).bind λh=>
   (zig n h (mks (List.zip d e)) (mvs (List.zip d e))).bind λg=>
   pIf g.1
    (some (a,(mks (List.zip g.2.1 g.2.2)),(mvs (List.zip g.2.1 g.2.2))))
    (z09 n (IntKind.i64.wrap (a+1)) b c (mks (List.zip g.2.1 g.2.2)) (mvs (List.zip g.2.1 g.2.2))))
   (some ((-1),(mks (List.zip d e)),(mvs (List.zip d e))))
end
def zjf:LSh:=⟨[(4,dI)],[(.cells [(.map 1)]),(.mp 86 .bool)],2,19,[]⟩
def zbf:FI dat:=FI.of dat 95 19 2 [dA,(.fn 48 [] [(.ptr 0 0)])] [(.cells [(.map 1)]),(.mp 86 .bool)] [dI] [(.cells [(.map 1)]),(.mp 86 .bool)] false zjf (R:=Int×(List B8)×(List Bool)) (λx=>(x.1,x.2.1,x.2.2.1)) (λr=>(r.1,r.2.1,r.2.2,())) (λn=>u3 (z4q n))
 (λn=>[(0,⟨⟨[(8,dI),(0,dA),(1,(.fn 48 [] [(.ptr 0 0)])),(7,dI)],[(.cells [(.map 1)]),(.mp 86 .bool)],2,19,[]⟩,u5 (z09 n)⟩)]) (anb [(6,0)] f95)
def zj0:FOk prog zbf:=okF (bs:=[zr5]) ⟨y32,trivial⟩ func95 ntmps95 call95
 (λ_ _=>tr (z4q.eq_2 ..))
 (λn=>⟨λ_=>tr (z09.eq_2 ..),
  trivial⟩)
def z2s:Nat->(List B8)->(List B8)->(List Bool)->Ot (Bool×(List B8)×(List Bool))
 |0,_,_,_=>none
 |n+1,a,b,c=>
  (z4q n a (mks (List.zip b c)) (mvs (List.zip b c))).bind λd=>
  some ((decide (d.1>=0)),(mks (List.zip d.2.1 d.2.2)),(mvs (List.zip d.2.1 d.2.2)))
def zhp:LSh:=⟨[(4,dB)],[(.cells [(.map 1)]),(.mp 86 .bool)],2,9,[]⟩
def z3e:FI dat:=FI.of dat 47 9 2 [dA,(.fn 48 [] [(.ptr 0 0)])] [(.cells [(.map 1)]),(.mp 86 .bool)] [dB] [(.cells [(.map 1)]),(.mp 86 .bool)] false zhp (R:=Bool×(List B8)×(List Bool)) (λx=>(x.1,x.2.1,x.2.2.1)) (λr=>(r.1,r.2.1,r.2.2,())) (λn=>u3 (z2s n))
 (λn=>[]) (anb [] f47)
def zh2:FOk prog z3e:=okF (bs:=[zbf]) ⟨zj0,trivial⟩ func47 ntmps47 call47
 (λ_ _=>tr (z2s.eq_2 ..))
 (λn=>trivial)
mutual
def zkz:Nat->zz0->zz0->Ot (Res (B8×Unit) ((List B8)×Int))
 |0,_,_=>none
 |n+1,a,b=>
  (zn7 n a b).bind λe=>
  pIf (e != 0)
   (some (Res.ok ([],e)))
   ((zhv n a b).bind λg=>
   y9z g (λd=>
    zcg n 0 b.rules (b.rules.length:Int) [] [] b (mks (List.zip d.1 d.2)) (mvs (List.zip d.1 d.2)))
    (λh=>
    some (Res.pan (h.1,()))))
def zcg:Nat->Int->zz5->Int->(List B8)->(List Bool)->zz0->(List B8)->(List Bool)->Ot (Res (B8×Unit) ((List B8)×Int))
 |0,_,_,_,_,_,_,_,_=>none
 |n+1,a,b,c,d,e,f,g,h=>
  pIf (decide (a<c))
   ((ix b a).bind λj=>
   (znr n f j.name).bind λl=>
   (z2s n l.1 (mks (List.zip g h)) (mvs (List.zip g h))).bind λi=>
   pIf i.1
    (zcj n b c a (mks (z99 (List.zip d e) j.name true)) (mvs (z99 (List.zip d e) j.name true)) f (mks (List.zip i.2.1 i.2.2)) (mvs (List.zip i.2.1 i.2.2)))
    (zcj n b c a (mks (List.zip d e)) (mvs (List.zip d e)) f (mks (List.zip i.2.1 i.2.2)) (mvs (List.zip i.2.1 i.2.2))))
   ((zg4 n (mks (List.zip d e)) (mvs (List.zip d e))).bind λk=>
   some (Res.ok (k.1,0)))
def zcj:Nat->zz5->Int->Int->(List B8)->(List Bool)->zz0->(List B8)->(List Bool)->Ot (Res (B8×Unit) ((List B8)×Int))
 |0,_,_,_,_,_,_,_,_=>none
 |n+1,a,b,c,d,e,f,g,h=>
  zcg n (IntKind.i64.wrap (c+1)) a b (mks (List.zip d e)) (mvs (List.zip d e)) f (mks (List.zip g h)) (mvs (List.zip g h))
end
def y96:LSh:=⟨[(4,dA),(5,dI)],[],0,46,[]⟩
def ze5:FI dat:=FI.ofP dat 19 46 0 [dT 8,dT 8] [] [dA,dI] [] (.iface 9 dS) [] [] y96 (R:=(List B8)×Int) (λx=>(x.1,x.2.1)) (λr=>(r.1,r.2,())) (λn=>u2 (zkz n))
 (λn=>[(0,⟨⟨[(26,dI),(8,(.map 0)),(7,(.ptr 1 0)),(3,(.ptr 2 0)),(24,dL 7),(25,dI)],[(.mp 86 .bool),(.cells [(.map 3)]),(.st 8),(.mp 86 .bool)],0,46,[]⟩,u8 (zcg n)⟩),(1,⟨⟨[(8,(.map 0)),(7,(.ptr 1 0)),(3,(.ptr 2 0)),(24,dL 7),(25,dI),(26,dI)],[(.mp 86 .bool),(.cells [(.map 3)]),(.st 8),(.mp 86 .bool)],0,46,[]⟩,u8 (zcj n)⟩)]) (anb [(20,0),(38,1)] f19)
def y8u:List (FI dat):=[zaq,z3e,zel,zlm,zrb]
def y93:(ze5).Good prog dat (tb y8u):=FI.zm1 (hD:=zzf _) func19 ntmps19 call19 (by kernel_rfl) (Qac (by kernel_rfl)) (by kernel_rfl) (λn=>by kernel_rfl) trivial (λx=>by kernel_rfl) (λ_=>rfl) ⟨λ_=>rfl,λ_=>rfl,trivial⟩
 (λn=>λ_=>tr (zkz.eq_2 _ _ n))
 (λn=>⟨λ_=>tr (zcg.eq_2 _ _ _ _ _ _ _ _ n),
  λ_=>tr (zcj.eq_2 _ _ _ _ _ _ _ _ n),
  trivial⟩)
 (λx=>by kernel_rfl)
def yal:OkL prog [ze5]:=zuz (zzf _) (bs:=[zaq,z3e,zel,zlm,zrb]) ⟨zwc,zh2,zwn,y4f,ybm,trivial⟩ y93
def y5x:FOk prog ze5:=yal.1
mutual
def zlg:Nat->(List B8)->(List B8)->Ot Bool
 |0,_,_=>none
 |n+1,a,b=>
  pIf ((a.length:Int) != (b.length:Int))
   (some false)
   (zgm n 0 b a)
def zgm:Nat->Int->(List B8)->(List B8)->Ot Bool
 |0,_,_,_=>none
 |n+1,a,b,c=>
  pIf (decide (a<(c.length:Int)))
   ((ix c a).bind λe=>
   (ix b a).bind λd=>
   pIf (!(e==d))
    (some false)
    (zgm n (IntKind.i64.wrap (a+1)) b c))
   (some true)
end
def yln:LSh:=⟨[(4,dB)],[],0,26,[]⟩
def zux:FI dat:=FI.of dat 20 26 0 [dA,dA] [] [dB] [] true yln (R:=Bool) Prod.fst (·,()) (λn=>u2 (zlg n))
 (λn=>[(0,⟨⟨[(5,dI),(1,dA),(0,dA)],[],0,26,[]⟩,u3 (zgm n)⟩)]) (anb [(14,0)] f20)
def yiw:FOk prog zux:=okF (bs:=[]) trivial func20 ntmps20 call20
 (λ_ _=>tr (zlg.eq_2 ..))
 (λn=>⟨λ_=>tr (zgm.eq_2 ..),
  trivial⟩)
mutual
def z3f:Nat->zz1->zz1->Ot Bool
 |0,_,_=>none
 |n+1,a,b=>
  pIf (a.kind != b.kind)
   (z11 n true b.re a.re)
   (pIf (!((a.num.num==b.num.num)&&((a.num.den==b.num.den)&&true)))
     (z11 n true b.re a.re)
     (pIf (!(a.truth==b.truth))
       (z11 n true b.re a.re)
       (pIf (!(a.str==b.str))
         (z11 n true b.re a.re)
         (z11 n ((a.list.length:Int) != (b.list.length:Int)) b.re a.re))))
def z11:Nat->Bool->zz1->zz1->Ot Bool
 |0,_,_,_=>none
 |n+1,a,b,c=>
  pIf a
   (some false)
   (z6v n 0 b.re c.re)
def z6v:Nat->Int->zz1->zz1->Ot Bool
 |0,_,_,_=>none
 |n+1,a,b,c=>
  pIf (decide (a<(c.list.length:Int)))
   ((ix c.list a).bind λg=>
   (ix b.list a).bind λe=>
   (z3f n g.re e.re).bind λd=>
   pIf (!d)
    (some false)
    (z6v n (IntKind.i64.wrap (a+1)) b.re c.re))
   (some true)
end
def ym0:LSh:=⟨[(4,dB)],[],0,60,[]⟩
def zbi:FI dat:=FI.of dat 73 60 0 [dT 1,dT 1] [] [dB] [] true ym0 (R:=Bool) Prod.fst (·,()) (λn=>u2 (z3f n))
 (λn=>[(0,⟨⟨[(3,(.ptr 0 0)),(2,(.ptr 1 0)),(40,dB)],[(.st 1),(.st 1)],0,60,[]⟩,u3 (z11 n)⟩),(1,⟨⟨[(5,dI),(3,(.ptr 0 0)),(2,(.ptr 1 0))],[(.st 1),(.st 1)],0,60,[]⟩,u3 (z6v n)⟩)]) (anb [(5,0),(14,1)] f73)
def ym3:List (FI dat):=[zbi]++[]
def yon:(zbi).Good prog dat (tb ym3):=FI.z3l (hD:=zzf _) func73 ntmps73 call73 (by kernel_rfl) (Qac (by kernel_rfl)) (by kernel_rfl) (λn=>by kernel_rfl) (λx=>by kernel_rfl) (λ_=>rfl) ⟨λ_=>rfl,λ_=>rfl,trivial⟩
 (λ_ _=>tr (z3f.eq_2 ..))
 (λn=>⟨λ_=>tr (z11.eq_2 ..),
  λ_=>tr (z6v.eq_2 ..),
  trivial⟩)
 (λx=>.inl rfl)
def ym8:OkL prog [zbi]:=z8x (zzf _) (bs:=[]) trivial ⟨yon,trivial⟩
def y21:FOk prog zbi:=ym8.1
mutual
def z4w:Nat->yz1->yz1->Ot Bool
 |0,_,_=>none
 |n+1,a,b=>
  pIf (a.op != b.op)
   (z2m n true b.re a.re)
   (pIf (!(a.name==b.name))
     (z2m n true b.re a.re)
     ((z3f n a.value.re b.value.re).bind λd=>
     pIf (!d)
      (z2m n true b.re a.re)
      (z2m n ((a.args.length:Int) != (b.args.length:Int)) b.re a.re)))
def z2m:Nat->Bool->yz1->yz1->Ot Bool
 |0,_,_,_=>none
 |n+1,a,b,c=>
  pIf a
   (some false)
   (z80 n 0 b.re c.re)
def z80:Nat->Int->yz1->yz1->Ot Bool
 |0,_,_,_=>none
 |n+1,a,b,c=>
  pIf (decide (a<(c.args.length:Int)))
   ((ix c.args a).bind λg=>
   (ix b.args a).bind λe=>
   (z4w n g.re e.re).bind λd=>
   pIf (!d)
    (some false)
    (z80 n (IntKind.i64.wrap (a+1)) b.re c.re))
   (some true)
end
def yn6:LSh:=⟨[(4,dB)],[],0,54,[]⟩
def zdm:FI dat:=FI.of dat 32 54 0 [dT 2,dT 2] [] [dB] [] true yn6 (R:=Bool) Prod.fst (·,()) (λn=>u2 (z4w n))
 (λn=>[(0,⟨⟨[(3,(.ptr 0 0)),(2,(.ptr 1 0)),(34,dB)],[(.st 2),(.st 2)],0,54,[]⟩,u3 (z2m n)⟩),(1,⟨⟨[(5,dI),(3,(.ptr 0 0)),(2,(.ptr 1 0))],[(.st 2),(.st 2)],0,54,[]⟩,u3 (z80 n)⟩)]) (anb [(5,0),(14,1)] f32)
def yom:List (FI dat):=[zdm]++[zbi]
def ykq:(zdm).Good prog dat (tb yom):=FI.z3l (hD:=zzf _) func32 ntmps32 call32 (by kernel_rfl) (Qac (by kernel_rfl)) (by kernel_rfl) (λn=>by kernel_rfl) (λx=>by kernel_rfl) (λ_=>rfl) ⟨λ_=>rfl,λ_=>rfl,trivial⟩
 (λ_ _=>tr (z4w.eq_2 ..))
 (λn=>⟨λ_=>tr (z2m.eq_2 ..),
  λ_=>tr (z80.eq_2 ..),
  trivial⟩)
 (λx=>.inl rfl)
def yn0:OkL prog [zdm]:=z8x (zzf _) (bs:=[zbi]) ⟨y21,trivial⟩ ⟨ykq,trivial⟩
def zs0:FOk prog zdm:=yn0.1
def z0g:Nat->kz5->Ot yz1
 |0,_=>none
 |n+1,a=>
  some (yz1.mk 18 (zz1.mk 0 (kz4.mk 0 0) false [] []) [] a)
def ylr:LSh:=⟨[(2,(.ptr 0 0))],[(.st 2)],0,5,[]⟩
def zn9:FI dat:=FI.of dat 116 5 0 [dL 2] [] [dT 2] [] true ylr (R:=yz1) Prod.fst (·,()) (λn=>u1 (z0g n))
 (λn=>[]) (anb [] f116)
def zrq:FOk prog zn9:=okF (bs:=[]) trivial func116 ntmps116 call116
 (λn=>λ_=>tr (z0g.eq_2 _ n))
 (λn=>trivial)
def z43:Nat->kz5->kz5->Ot Bool
 |0,_,_=>none
 |n+1,a,b=>
  (z0g n a).bind λg=>
  (z0g n b).bind λe=>
  (z4w n g.re e.re).bind λd=>
  some d
def y4u:LSh:=⟨[(4,dB)],[],0,10,[]⟩
def zqn:FI dat:=FI.of dat 167 10 0 [dL 2,dL 2] [] [dB] [] true y4u (R:=Bool) Prod.fst (·,()) (λn=>u2 (z43 n))
 (λn=>[]) (anb [] f167)
def y34:FOk prog zqn:=okF (bs:=[zn9,zdm]) ⟨zrq,zs0,trivial⟩ func167 ntmps167 call167
 (λ_ _=>tr (z43.eq_2 ..))
 (λn=>trivial)
mutual
def z4d:Nat->kz2->kz2->Ot Bool
 |0,_,_=>none
 |n+1,a,b=>
  pIf (a.kind != b.kind)
   (yzk n true b a)
   (pIf (a.axis != b.axis)
     (yzk n true b a)
     (pIf (!(a.name==b.name))
       (yzk n true b a)
       ((z43 n a.args b.args).bind λd=>
       pIf (!d)
        (yzk n true b a)
        (yzk n ((a.items.length:Int) != (b.items.length:Int)) b a))))
def yzk:Nat->Bool->kz2->kz2->Ot Bool
 |0,_,_,_=>none
 |n+1,a,b,c=>
  pIf a
   (some false)
   (z0c n 0 b c)
def z0c:Nat->Int->kz2->kz2->Ot Bool
 |0,_,_,_=>none
 |n+1,a,b,c=>
  pIf (decide (a<(c.items.length:Int)))
   ((ix c.items a).bind λk=>
   (ix b.items a).bind λj=>
   pIf (k.kind != j.kind)
    (zzu n a true b c)
    ((ix c.items a).bind λi=>
    (ix b.items a).bind λh=>
    pIf (!(i.name==h.name))
     (zzu n a true b c)
     ((ix c.items a).bind λg=>
     (ix b.items a).bind λe=>
     (z43 n g.args e.args).bind λd=>
     zzu n a (!d) b c)))
   (some true)
def zzu:Nat->Int->Bool->kz2->kz2->Ot Bool
 |0,_,_,_,_=>none
 |n+1,a,b,c,d=>
  pIf b
   (some false)
   (z0c n (IntKind.i64.wrap (a+1)) c d)
end
def y0q:LSh:=⟨[(4,dB)],[],0,93,[]⟩
def zmn:FI dat:=FI.of dat 125 93 0 [dT 5,dT 5] [] [dB] [] true y0q (R:=Bool) Prod.fst (·,()) (λn=>u2 (z4d n))
 (λn=>[(0,⟨⟨[(3,(.ptr 0 0)),(2,(.ptr 1 0)),(41,dB)],[(.st 5),(.st 5)],0,93,[]⟩,u3 (yzk n)⟩),(1,⟨⟨[(5,dI),(3,(.ptr 0 0)),(2,(.ptr 1 0))],[(.st 5),(.st 5)],0,93,[]⟩,u3 (z0c n)⟩),(2,⟨⟨[(3,(.ptr 0 0)),(2,(.ptr 1 0)),(5,dI),(92,dB)],[(.st 5),(.st 5)],0,93,[]⟩,u4 (zzu n)⟩)]) (anb [(5,0),(14,1),(25,2)] f125)
def zyj:FOk prog zmn:=okF (bs:=[zqn]) ⟨y34,trivial⟩ func125 ntmps125 call125
 (λ_ _=>tr (z4d.eq_2 ..))
 (λn=>⟨λ_=>tr (yzk.eq_2 ..),
  λ_=>tr (z0c.eq_2 ..),
  λ_=>tr (zzu.eq_2 ..),
  trivial⟩)
mutual
def z7a:Nat->zz4->zz4->Ot Bool
 |0,_,_=>none
 |n+1,a,b=>
  pIf (a.weight != b.weight)
   (z03 n true b.re a.re)
   ((z4w n a.when_.re b.when_.re).bind λd=>
   pIf (!d)
    (z03 n true b.re a.re)
    (z03 n ((a.do_.length:Int) != (b.do_.length:Int)) b.re a.re))
def z03:Nat->Bool->zz4->zz4->Ot Bool
 |0,_,_,_=>none
 |n+1,a,b,c=>
  pIf a
   (some false)
   (z1c n 0 b.re c.re)
def z1c:Nat->Int->zz4->zz4->Ot Bool
 |0,_,_,_=>none
 |n+1,a,b,c=>
  pIf (decide (a<(c.do_.length:Int)))
   ((ix c.do_ a).bind λg=>
   (ix b.do_ a).bind λe=>
   (z4d n g e).bind λd=>
   pIf (!d)
    (some false)
    (z1c n (IntKind.i64.wrap (a+1)) b.re c.re))
   (some true)
end
def y54:LSh:=⟨[(4,dB)],[],0,47,[]⟩
def zpf:FI dat:=FI.of dat 74 47 0 [dT 6,dT 6] [] [dB] [] true y54 (R:=Bool) Prod.fst (·,()) (λn=>u2 (z7a n))
 (λn=>[(0,⟨⟨[(3,(.ptr 0 0)),(2,(.ptr 1 0)),(27,dB)],[(.st 6),(.st 6)],0,47,[]⟩,u3 (z03 n)⟩),(1,⟨⟨[(5,dI),(3,(.ptr 0 0)),(2,(.ptr 1 0))],[(.st 6),(.st 6)],0,47,[]⟩,u3 (z1c n)⟩)]) (anb [(5,0),(14,1)] f74)
def y2d:FOk prog zpf:=okF (bs:=[zdm,zmn]) ⟨zs0,zyj,trivial⟩ func74 ntmps74 call74
 (λ_ _=>tr (z7a.eq_2 ..))
 (λn=>⟨λ_=>tr (z03.eq_2 ..),
  λ_=>tr (z1c.eq_2 ..),
  trivial⟩)
mutual
def z6y:Nat->zz3->zz3->Ot Bool
 |0,_,_=>none
 |n+1,a,b=>
  pIf (!(a.name==b.name))
   (z04 n true b a)
   (pIf ((a.params.length:Int) != (b.params.length:Int))
     (z04 n true b a)
     (z04 n ((a.cases.length:Int) != (b.cases.length:Int)) b a))
def z04:Nat->Bool->zz3->zz3->Ot Bool
 |0,_,_,_=>none
 |n+1,a,b,c=>
  pIf a
   (some false)
   (z1b n 0 b c)
def z1b:Nat->Int->zz3->zz3->Ot Bool
 |0,_,_,_=>none
 |n+1,a,b,c=>
  pIf (decide (a<(c.params.length:Int)))
   ((ix c.params a).bind λe=>
   (ix b.params a).bind λd=>
   pIf (!(e==d))
    (some false)
    (z1b n (IntKind.i64.wrap (a+1)) b c))
   (z1a n 0 b c)
def z1a:Nat->Int->zz3->zz3->Ot Bool
 |0,_,_,_=>none
 |n+1,a,b,c=>
  pIf (decide (a<(c.cases.length:Int)))
   ((ix c.cases a).bind λg=>
   (ix b.cases a).bind λe=>
   (z7a n g.re e.re).bind λd=>
   pIf (!d)
    (some false)
    (z1a n (IntKind.i64.wrap (a+1)) b c))
   (some true)
end
def y5m:LSh:=⟨[(4,dB)],[],0,67,[]⟩
def zqw:FI dat:=FI.of dat 33 67 0 [dT 7,dT 7] [] [dB] [] true y5m (R:=Bool) Prod.fst (·,()) (λn=>u2 (z6y n))
 (λn=>[(0,⟨⟨[(3,(.ptr 0 0)),(2,(.ptr 1 0)),(29,dB)],[(.st 7),(.st 7)],0,67,[]⟩,u3 (z04 n)⟩),(1,⟨⟨[(5,dI),(3,(.ptr 0 0)),(2,(.ptr 1 0))],[(.st 7),(.st 7)],0,67,[]⟩,u3 (z1b n)⟩),(2,⟨⟨[(6,dI),(3,(.ptr 0 0)),(2,(.ptr 1 0))],[(.st 7),(.st 7)],0,67,[]⟩,u3 (z1a n)⟩)]) (anb [(5,0),(14,1),(35,2)] f33)
def y37:FOk prog zqw:=okF (bs:=[zpf]) ⟨y2d,trivial⟩ func33 ntmps33 call33
 (λ_ _=>tr (z6y.eq_2 ..))
 (λn=>⟨λ_=>tr (z04.eq_2 ..),
  λ_=>tr (z1b.eq_2 ..),
  λ_=>tr (z1a.eq_2 ..),
  trivial⟩)
mutual
def z8b:Nat->zz0->zz0->Ot Bool
 |0,_,_=>none
 |n+1,a,b=>
  pIf ((a.attrs.length:Int) != (b.attrs.length:Int))
   (zac n true b a)
   (zac n ((a.rules.length:Int) != (b.rules.length:Int)) b a)
def zac:Nat->Bool->zz0->zz0->Ot Bool
 |0,_,_,_=>none
 |n+1,a,b,c=>
  pIf a
   (some false)
   (z7w n 0 b c)
def z7w:Nat->Int->zz0->zz0->Ot Bool
 |0,_,_,_=>none
 |n+1,a,b,c=>
  pIf (decide (a<(c.attrs.length:Int)))
   ((ix c.attrs a).bind λi=>
   (ix b.attrs a).bind λh=>
   pIf (!(i.name==h.name))
    (za6 n a true b c)
    ((ix c.attrs a).bind λg=>
    (ix b.attrs a).bind λe=>
    (z4w n g.value.re e.value.re).bind λd=>
    za6 n a (!d) b c))
   (z7y n 0 b c)
def za6:Nat->Int->Bool->zz0->zz0->Ot Bool
 |0,_,_,_,_=>none
 |n+1,a,b,c,d=>
  pIf b
   (some false)
   (z7w n (IntKind.i64.wrap (a+1)) c d)
def z7y:Nat->Int->zz0->zz0->Ot Bool
 |0,_,_,_=>none
 |n+1,a,b,c=>
  pIf (decide (a<(c.rules.length:Int)))
   ((ix c.rules a).bind λg=>
   (ix b.rules a).bind λe=>
   (z6y n g e).bind λd=>
   pIf (!d)
    (some false)
    (z7y n (IntKind.i64.wrap (a+1)) b c))
   (some true)
end
def yo7:LSh:=⟨[(4,dB)],[],0,78,[]⟩
def zk9:FI dat:=FI.of dat 15 78 0 [dT 8,dT 8] [] [dB] [] true yo7 (R:=Bool) Prod.fst (·,()) (λn=>u2 (z8b n))
 (λn=>[(0,⟨⟨[(3,(.ptr 0 0)),(2,(.ptr 1 0)),(22,dB)],[(.st 8),(.st 8)],0,78,[]⟩,u3 (zac n)⟩),(1,⟨⟨[(5,dI),(3,(.ptr 0 0)),(2,(.ptr 1 0))],[(.st 8),(.st 8)],0,78,[]⟩,u3 (z7w n)⟩),(2,⟨⟨[(3,(.ptr 0 0)),(2,(.ptr 1 0)),(5,dI),(58,dB)],[(.st 8),(.st 8)],0,78,[]⟩,u4 (za6 n)⟩),(3,⟨⟨[(6,dI),(3,(.ptr 0 0)),(2,(.ptr 1 0))],[(.st 8),(.st 8)],0,78,[]⟩,u3 (z7y n)⟩)]) (anb [(5,0),(14,1),(25,2),(35,3)] f15)
def y26:FOk prog zk9:=okF (bs:=[zdm,zqw]) ⟨zs0,y37,trivial⟩ func15 ntmps15 call15
 (λ_ _=>tr (z8b.eq_2 ..))
 (λn=>⟨λ_=>tr (zac.eq_2 ..),
  λ_=>tr (z7w.eq_2 ..),
  λ_=>tr (za6.eq_2 ..),
  λ_=>tr (z7y.eq_2 ..),
  trivial⟩)
def z6l:Nat->Option (Res (B8×Unit) Bool)
 |0=>none
 |n+1=>
  (yzt n 1).bind λy=>
  (yzt n 2).bind λx=>
  (zmf n y x).bind λw=>
  y9z w (λp=>
   (yzt n 1).bind λu=>
   (yzt n 2).bind λs=>
   (zkz n u s).bind λr=>
   y9z r (λo=>
    (zof n [(z2i.mk [97,47,98,91,49,93,47,99] 1 [])] [98] [100]).bind λb=>
    (yzt n 1).bind λq=>
    (yzt n 2).bind λi=>
    (ix i.rules 2).bind λk=>
    (z89 n q [(yzh.mk 3 [] [] k (yz1.mk 0 (zz1.mk 0 (kz4.mk 0 0) false [] []) [] []))]).bind λa=>
    pIf (p.2==0)
     ((zlg n p.1 [[99]]).bind λh=>
     pIf h
      (pIf (o.2==0)
        ((zlg n o.1 [[97],[98],[99]]).bind λg=>
        pIf g
         (pIf (b.2==0)
           (pIf ((b.1.length:Int)==1)
             ((ix b.1 0).bind λj=>
             pIf (j.path==[97,47,100,91,49,93,47,99])
              (pIf (a.1==0)
                ((yzt n 2).bind λe=>
                (z8b n a.2 e).bind λd=>
                some (Res.ok d))
                (some (Res.ok false)))
              (some (Res.ok false)))
             (some (Res.ok false)))
           (some (Res.ok false)))
         (some (Res.ok false)))
        (some (Res.ok false)))
      (some (Res.ok false)))
     (some (Res.ok false)))
    (λm=>
    some (Res.pan (m.1,()))))
   (λl=>
   some (Res.pan (l.1,())))
def zye:LSh:=⟨[(0,dB)],[],0,79,[]⟩
def z8f:FI dat:=FI.ofP dat 11 79 0 [] [] [dB] [] (.iface 9 dS) [] [] zye (R:=Bool) Prod.fst (·,()) (λn x=>z6l n)
 (λn=>[]) (anb [] f11)
def zxz:List (FI dat):=[zg1,ze5,zfx,zrg,zji,zux,zk9]
def zxb:(z8f).Good prog dat (tb zxz):=FI.zm1 (hD:=zzf _) func11 ntmps11 call11 (by kernel_rfl) (Qac (by kernel_rfl)) (by kernel_rfl) (λn=>by kernel_rfl) trivial (λx=>by kernel_rfl) (λ_=>rfl) trivial
 (λn=>λx=>(z6l.eq_2 n).trans (by kernel_rfl))
 (λn=>trivial)
 (λx=>by kernel_rfl)
def zxi:OkL prog [z8f]:=zuz (zzf _) (bs:=[zg1,ze5,zfx,zrg,zji,zux,zk9]) ⟨y91,y5x,zwj,yd5,y1z,yiw,y26,trivial⟩ zxb
def zwh:FOk prog z8f:=zxi.1
mutual
def zah:Nat->zz1->Int->Ot Bool
 |0,_,_=>none
 |n+1,a,b=>
  pIf (b==0)
   (z2y n b true a.re)
   (pIf (decide ((a.str.length:Int)>200))
     (z2y n b true a.re)
     (z2y n b (decide ((a.list.length:Int)>150)) a.re))
def z2y:Nat->Int->Bool->zz1->Ot Bool
 |0,_,_,_=>none
 |n+1,a,b,c=>
  pIf b
   (some true)
   (z5r n 0 a c.re)
def z5r:Nat->Int->Int->zz1->Ot Bool
 |0,_,_,_=>none
 |n+1,a,b,c=>
  pIf (decide (a<(c.list.length:Int)))
   ((ix c.list a).bind λe=>
   (zah n e.re (IntKind.i64.wrap (b-1))).bind λd=>
   pIf d
    (some true)
    (z5r n (IntKind.i64.wrap (a+1)) b c.re))
   (some false)
end
def yj5:LSh:=⟨[(4,dB)],[],0,35,[]⟩
def zhf:FI dat:=FI.of dat 191 35 0 [dT 1,dI] [] [dB] [] true yj5 (R:=Bool) Prod.fst (·,()) (λn=>u2 (zah n))
 (λn=>[(0,⟨⟨[(1,dI),(2,(.ptr 0 0)),(19,dB)],[(.st 1)],0,35,[]⟩,u3 (z2y n)⟩),(1,⟨⟨[(5,dI),(1,dI),(2,(.ptr 0 0))],[(.st 1)],0,35,[]⟩,u3 (z5r n)⟩)]) (anb [(5,0),(14,1)] f191)
def yhw:List (FI dat):=[zhf]++[]
def yis:(zhf).Good prog dat (tb yhw):=FI.z3l (hD:=zzf _) func191 ntmps191 call191 (by kernel_rfl) (Qac (by kernel_rfl)) (by kernel_rfl) (λn=>by kernel_rfl) (λx=>by kernel_rfl) (λ_=>rfl) ⟨λ_=>rfl,λ_=>rfl,trivial⟩
 (λ_ _=>tr (zah.eq_2 ..))
 (λn=>⟨λ_=>tr (z2y.eq_2 ..),
  λ_=>tr (z5r.eq_2 ..),
  trivial⟩)
 (λx=>.inl rfl)
def yhg:OkL prog [zhf]:=z8x (zzf _) (bs:=[]) trivial ⟨yis,trivial⟩
def ye9:FOk prog zhf:=yhg.1
mutual
def z8g:Nat->zz1->Ot Int
 |0,_=>none
 |n+1,a=>
  z50 n 0 1 a.re
def z50:Nat->Int->Int->zz1->Ot Int
 |0,_,_,_=>none
 |n+1,a,b,c=>
  pIf (decide (a<(c.list.length:Int)))
   (z5t n a b (c.kind==4) c.re)
   (z5t n a b false c.re)
def z5t:Nat->Int->Int->Bool->zz1->Ot Int
 |0,_,_,_,_=>none
 |n+1,a,b,c,d=>
  pIf c
   ((ix d.list a).bind λg=>
   (z8g n g.re).bind λe=>
   z50 n (IntKind.i64.wrap (a+1)) (IntKind.i64.wrap (b+e)) d.re)
   (some b)
end
def yih:LSh:=⟨[(2,dI)],[],0,26,[]⟩
def zek:FI dat:=FI.of dat 192 26 0 [dT 1] [] [dI] [] true yih (R:=Int) Prod.fst (·,()) (λn=>u1 (z8g n))
 (λn=>[(0,⟨⟨[(4,dI),(1,(.ptr 0 0)),(3,dI)],[(.st 1)],0,26,[]⟩,u3 (z50 n)⟩),(1,⟨⟨[(1,(.ptr 0 0)),(4,dI),(3,dI),(14,dB)],[(.st 1)],0,26,[]⟩,u4 (z5t n)⟩)]) (anb [(8,0),(12,1)] f192)
def yhp:List (FI dat):=[zek]++[]
def yjc:(zek).Good prog dat (tb yhp):=FI.z3l (hD:=zzf _) func192 ntmps192 call192 (by kernel_rfl) (Qac (by kernel_rfl)) (by kernel_rfl) (λn=>by kernel_rfl) (λx=>by kernel_rfl) (λ_=>rfl) ⟨λ_=>rfl,λ_=>rfl,trivial⟩
 (λ_ _=>tr (z8g.eq_2 ..))
 (λn=>⟨λ_=>tr (z50.eq_2 ..),
  λ_=>tr (z5t.eq_2 ..),
  trivial⟩)
 (λx=>.inl rfl)
def yhf:OkL prog [zek]:=z8x (zzf _) (bs:=[]) trivial ⟨yjc,trivial⟩
def zyo:FOk prog zek:=yhf.1
def zd2:Nat->zz1->Ot Bool
 |0,_=>none
 |n+1,a=>
  (zah n a.re 10).bind λd=>
  pIf d
   (some true)
   ((z8g n a.re).bind λb=>
   some (decide (b>150)))
def yib:LSh:=⟨[(2,dB)],[],0,10,[]⟩
def zrw:FI dat:=FI.of dat 161 10 0 [dT 1] [] [dB] [] true yib (R:=Bool) Prod.fst (·,()) (λn=>u1 (zd2 n))
 (λn=>[]) (anb [] f161)
def ye2:FOk prog zrw:=okF (bs:=[zhf,zek]) ⟨ye9,zyo,trivial⟩ func161 ntmps161 call161
 (λ_ _=>tr (zd2.eq_2 ..))
 (λn=>trivial)
mutual
def zaj:Nat->yz1->Int->Ot Bool
 |0,_,_=>none
 |n+1,a,b=>
  pIf (b==0)
   (z1m n b true a.re)
   (pIf (decide ((a.args.length:Int)>150))
     (z1m n b true a.re)
     (pIf (decide ((a.name.length:Int)>200))
       (z1m n b true a.re)
       ((zd2 n a.value.re).bind λd=>
       z1m n b d a.re)))
def z1m:Nat->Int->Bool->yz1->Ot Bool
 |0,_,_,_=>none
 |n+1,a,b,c=>
  pIf b
   (some true)
   (z55 n 0 a c.re)
def z55:Nat->Int->Int->yz1->Ot Bool
 |0,_,_,_=>none
 |n+1,a,b,c=>
  pIf (decide (a<(c.args.length:Int)))
   ((ix c.args a).bind λe=>
   (zaj n e.re (IntKind.i64.wrap (b-1))).bind λd=>
   pIf d
    (some true)
    (z55 n (IntKind.i64.wrap (a+1)) b c.re))
   (some false)
end
def ygx:LSh:=⟨[(4,dB)],[],0,40,[]⟩
def zhg:FI dat:=FI.of dat 114 40 0 [dT 2,dI] [] [dB] [] true ygx (R:=Bool) Prod.fst (·,()) (λn=>u2 (zaj n))
 (λn=>[(0,⟨⟨[(1,dI),(2,(.ptr 0 0)),(24,dB)],[(.st 2)],0,40,[]⟩,u3 (z1m n)⟩),(1,⟨⟨[(5,dI),(1,dI),(2,(.ptr 0 0))],[(.st 2)],0,40,[]⟩,u3 (z55 n)⟩)]) (anb [(5,0),(14,1)] f114)
def yhv:List (FI dat):=[zhg]++[zrw]
def ygt:(zhg).Good prog dat (tb yhv):=FI.z3l (hD:=zzf _) func114 ntmps114 call114 (by kernel_rfl) (Qac (by kernel_rfl)) (by kernel_rfl) (λn=>by kernel_rfl) (λx=>by kernel_rfl) (λ_=>rfl) ⟨λ_=>rfl,λ_=>rfl,trivial⟩
 (λ_ _=>tr (zaj.eq_2 ..))
 (λn=>⟨λ_=>tr (z1m.eq_2 ..),
  λ_=>tr (z55.eq_2 ..),
  trivial⟩)
 (λx=>.inl rfl)
def yhq:OkL prog [zhg]:=z8x (zzf _) (bs:=[zrw]) ⟨ye2,trivial⟩ ⟨ygt,trivial⟩
def yga:FOk prog zhg:=yhq.1
mutual
def z8k:Nat->yz1->Ot Int
 |0,_=>none
 |n+1,a=>
  z5g n 0 1 a.re
def z5g:Nat->Int->Int->yz1->Ot Int
 |0,_,_,_=>none
 |n+1,a,b,c=>
  pIf (decide (a<(c.args.length:Int)))
   ((ix c.args a).bind λe=>
   (z8k n e.re).bind λd=>
   z5g n (IntKind.i64.wrap (a+1)) (IntKind.i64.wrap (b+d)) c.re)
   (some b)
end
def yjb:LSh:=⟨[(2,dI)],[],0,21,[]⟩
def zeq:FI dat:=FI.of dat 115 21 0 [dT 2] [] [dI] [] true yjb (R:=Int) Prod.fst (·,()) (λn=>u1 (z8k n))
 (λn=>[(0,⟨⟨[(4,dI),(1,(.ptr 0 0)),(3,dI)],[(.st 2)],0,21,[]⟩,u3 (z5g n)⟩)]) (anb [(8,0)] f115)
def yh0:List (FI dat):=[zeq]++[]
def yio:(zeq).Good prog dat (tb yh0):=FI.z3l (hD:=zzf _) func115 ntmps115 call115 (by kernel_rfl) (Qac (by kernel_rfl)) (by kernel_rfl) (λn=>by kernel_rfl) (λx=>by kernel_rfl) (λ_=>rfl) ⟨λ_=>rfl,trivial⟩
 (λ_ _=>tr (z8k.eq_2 ..))
 (λn=>⟨λ_=>tr (z5g.eq_2 ..),
  trivial⟩)
 (λx=>.inl rfl)
def ygv:OkL prog [zeq]:=z8x (zzf _) (bs:=[]) trivial ⟨yio,trivial⟩
def zxr:FOk prog zeq:=ygv.1
def z5q:Nat->yz1->Ot Bool
 |0,_=>none
 |n+1,a=>
  (zaj n a.re 16).bind λd=>
  pIf d
   (some true)
   ((z8k n a.re).bind λb=>
   some (decide (b>150)))
def yhe:LSh:=⟨[(2,dB)],[],0,10,[]⟩
def zrr:FI dat:=FI.of dat 66 10 0 [dT 2] [] [dB] [] true yhe (R:=Bool) Prod.fst (·,()) (λn=>u1 (z5q n))
 (λn=>[]) (anb [] f66)
def zyc:FOk prog zrr:=okF (bs:=[zhg,zeq]) ⟨yga,zxr,trivial⟩ func66 ntmps66 call66
 (λ_ _=>tr (z5q.eq_2 ..))
 (λn=>trivial)
mutual
def z7q:Nat->zz4->Ot Bool
 |0,_=>none
 |n+1,a=>
  pIf (decide ((a.do_.length:Int)>15))
   (z1e n true a.re)
   ((z5q n a.when_.re).bind λb=>
   z1e n b a.re)
def z1e:Nat->Bool->zz4->Ot Bool
 |0,_,_=>none
 |n+1,a,b=>
  pIf a
   (some true)
   (z06 n 0 b.re)
def z06:Nat->Int->zz4->Ot Bool
 |0,_,_=>none
 |n+1,a,b=>
  pIf (decide (a<(b.do_.length:Int)))
   ((ix b.do_ a).bind λi=>
   (z0g n i.args).bind λe=>
   (z5q n e.re).bind λd=>
   pIf d
    (z07 n a true b.re)
    ((ix b.do_ a).bind λh=>
    pIf (decide ((h.items.length:Int)>15))
     (z07 n a true b.re)
     ((ix b.do_ a).bind λg=>
     z07 n a (decide ((g.name.length:Int)>100)) b.re)))
   (some false)
def z07:Nat->Int->Bool->zz4->Ot Bool
 |0,_,_,_=>none
 |n+1,a,b,c=>
  pIf b
   (some true)
   (z05 n 0 a c.re)
def z05:Nat->Int->Int->zz4->Ot Bool
 |0,_,_,_=>none
 |n+1,a,b,c=>
  (ix c.do_ b).bind λk=>
  pIf (decide (a<(k.items.length:Int)))
   ((ix c.do_ b).bind λj=>
   (ix j.items a).bind λi=>
   (z0g n i.args).bind λh=>
   (z5q n h.re).bind λd=>
   pIf d
    (z1i n b a true c.re)
    ((ix c.do_ b).bind λg=>
    (ix g.items a).bind λe=>
    z1i n b a (decide ((e.name.length:Int)>100)) c.re))
   (z06 n (IntKind.i64.wrap (b+1)) c.re)
def z1i:Nat->Int->Int->Bool->zz4->Ot Bool
 |0,_,_,_,_=>none
 |n+1,a,b,c,d=>
  pIf c
   (some true)
   (z05 n (IntKind.i64.wrap (b+1)) a d.re)
end
def y52:LSh:=⟨[(2,dB)],[],0,86,[]⟩
def zpy:FI dat:=FI.of dat 67 86 0 [dT 6] [] [dB] [] true y52 (R:=Bool) Prod.fst (·,()) (λn=>u1 (z7q n))
 (λn=>[(0,⟨⟨[(1,(.ptr 0 0)),(13,dB)],[(.st 6)],0,86,[]⟩,u2 (z1e n)⟩),(1,⟨⟨[(3,dI),(1,(.ptr 0 0))],[(.st 6)],0,86,[]⟩,u2 (z06 n)⟩),(2,⟨⟨[(3,dI),(1,(.ptr 0 0)),(48,dB)],[(.st 6)],0,86,[]⟩,u3 (z07 n)⟩),(3,⟨⟨[(4,dI),(3,dI),(1,(.ptr 0 0))],[(.st 6)],0,86,[]⟩,u3 (z05 n)⟩),(4,⟨⟨[(3,dI),(1,(.ptr 0 0)),(4,dI),(85,dB)],[(.st 6)],0,86,[]⟩,u4 (z1i n)⟩)]) (anb [(5,0),(14,1),(26,2),(34,3),(45,4)] f67)
def y2e:FOk prog zpy:=okF (bs:=[zrr,zn9]) ⟨zyc,zrq,trivial⟩ func67 ntmps67 call67
 (λ_ _=>tr (z7q.eq_2 ..))
 (λn=>⟨λ_=>tr (z1e.eq_2 ..),
  λ_=>tr (z06.eq_2 ..),
  λ_=>tr (z07.eq_2 ..),
  λ_=>tr (z05.eq_2 ..),
  λ_=>tr (z1i.eq_2 ..),
  trivial⟩)
mutual
def zcz:Nat->zz0->Ot Bool
 |0,_=>none
 |n+1,a=>
  pIf (decide ((a.attrs.length:Int)>25))
   (z5y n true a)
   (z5y n (decide ((a.rules.length:Int)>45)) a)
def z5y:Nat->Bool->zz0->Ot Bool
 |0,_,_=>none
 |n+1,a,b=>
  pIf a
   (some true)
   (z35 n 0 b)
def z35:Nat->Int->zz0->Ot Bool
 |0,_,_=>none
 |n+1,a,b=>
  pIf (decide (a<(b.attrs.length:Int)))
   ((ix b.attrs a).bind λg=>
   (z5q n g.value.re).bind λd=>
   pIf d
    (z60 n a true b)
    ((ix b.attrs a).bind λe=>
    z60 n a (decide ((e.name.length:Int)>100)) b))
   (z2u n 0 b)
def z60:Nat->Int->Bool->zz0->Ot Bool
 |0,_,_,_=>none
 |n+1,a,b,c=>
  pIf b
   (some true)
   (z35 n (IntKind.i64.wrap (a+1)) c)
def z2u:Nat->Int->zz0->Ot Bool
 |0,_,_=>none
 |n+1,a,b=>
  pIf (decide (a<(b.rules.length:Int)))
   ((ix b.rules a).bind λd=>
   pIf (decide ((d.params.length:Int)>10))
    (z2x n a true d b)
    (pIf (decide ((d.cases.length:Int)>10))
      (z2x n a true d b)
      (z2x n a (decide ((d.name.length:Int)>100)) d b)))
   (some false)
def z2x:Nat->Int->Bool->zz3->zz0->Ot Bool
 |0,_,_,_,_=>none
 |n+1,a,b,c,d=>
  pIf b
   (some true)
   (z2z n 0 a c d)
def z2z:Nat->Int->Int->zz3->zz0->Ot Bool
 |0,_,_,_,_=>none
 |n+1,a,b,c,d=>
  pIf (decide (a<(c.params.length:Int)))
   ((ix c.params a).bind λe=>
   pIf (decide ((e.length:Int)>100))
    (some true)
    (z2z n (IntKind.i64.wrap (a+1)) b c d))
   (z36 n 0 b c d)
def z36:Nat->Int->Int->zz3->zz0->Ot Bool
 |0,_,_,_,_=>none
 |n+1,a,b,c,d=>
  pIf (decide (a<(c.cases.length:Int)))
   ((ix c.cases a).bind λg=>
   (z7q n g.re).bind λe=>
   pIf e
    (some true)
    (z36 n (IntKind.i64.wrap (a+1)) b c d))
   (z2u n (IntKind.i64.wrap (b+1)) d)
end
def ygs:LSh:=⟨[(2,dB)],[],0,97,[]⟩
def y1q:FI dat:=FI.of dat 29 97 0 [dT 8] [] [dB] [] true ygs (R:=Bool) Prod.fst (·,()) (λn=>u1 (zcz n))
 (λn=>[(0,⟨⟨[(1,(.ptr 0 0)),(17,dB)],[(.st 8)],0,97,[]⟩,u2 (z5y n)⟩),(1,⟨⟨[(3,dI),(1,(.ptr 0 0))],[(.st 8)],0,97,[]⟩,u2 (z35 n)⟩),(2,⟨⟨[(1,(.ptr 0 0)),(3,dI),(41,dB)],[(.st 8)],0,97,[]⟩,u3 (z60 n)⟩),(3,⟨⟨[(4,dI),(1,(.ptr 0 0))],[(.st 8)],0,97,[]⟩,u2 (z2u n)⟩),(4,⟨⟨[(5,(.ptr 0 0)),(1,(.ptr 1 0)),(4,dI),(69,dB)],[(.st 7),(.st 8)],0,97,[]⟩,u4 (z2x n)⟩),(5,⟨⟨[(6,dI),(5,(.ptr 0 0)),(1,(.ptr 1 0)),(4,dI)],[(.st 7),(.st 8)],0,97,[]⟩,u4 (z2z n)⟩),(6,⟨⟨[(7,dI),(5,(.ptr 0 0)),(1,(.ptr 1 0)),(4,dI)],[(.st 7),(.st 8)],0,97,[]⟩,u4 (z36 n)⟩)]) (anb [(5,0),(14,1),(25,2),(35,3),(49,4),(58,5),(78,6)] f29)
def ybx:FOk prog y1q:=okF (bs:=[zrr,zpy]) ⟨zyc,y2e,trivial⟩ func29 ntmps29 call29
 (λ_ _=>tr (zcz.eq_2 ..))
 (λn=>⟨λ_=>tr (z5y.eq_2 ..),
  λ_=>tr (z35.eq_2 ..),
  λ_=>tr (z60.eq_2 ..),
  λ_=>tr (z2u.eq_2 ..),
  λ_=>tr (z2x.eq_2 ..),
  λ_=>tr (z2z.eq_2 ..),
  λ_=>tr (z36.eq_2 ..),
  trivial⟩)
mutual
def zei:Nat->zz0->Ot Bool
 |0,_=>none
 |n+1,a=>
  pIf (decide ((a.attrs.length:Int)>20))
   (z7l n true a)
   (z7l n (decide ((a.rules.length:Int)>40)) a)
def z7l:Nat->Bool->zz0->Ot Bool
 |0,_,_=>none
 |n+1,a,b=>
  pIf a
   (some true)
   (z4j n 0 b)
def z4j:Nat->Int->zz0->Ot Bool
 |0,_,_=>none
 |n+1,a,b=>
  pIf (decide (a<(b.rules.length:Int)))
   ((ix b.rules a).bind λd=>
   pIf (decide ((d.params.length:Int)>4))
    (z73 n a true d b)
    (z73 n a (decide ((d.cases.length:Int)>6)) d b))
   (some false)
def z73:Nat->Int->Bool->zz3->zz0->Ot Bool
 |0,_,_,_,_=>none
 |n+1,a,b,c,d=>
  pIf b
   (some true)
   (z4c n 0 a c d)
def z4c:Nat->Int->Int->zz3->zz0->Ot Bool
 |0,_,_,_,_=>none
 |n+1,a,b,c,d=>
  pIf (decide (a<(c.cases.length:Int)))
   ((ix c.cases a).bind λe=>
   pIf (decide ((e.do_.length:Int)>10))
    (some true)
    (z4e n 0 a b c d))
   (z4j n (IntKind.i64.wrap (b+1)) d)
def z4e:Nat->Int->Int->Int->zz3->zz0->Ot Bool
 |0,_,_,_,_,_=>none
 |n+1,a,b,c,d,e=>
  (ix d.cases b).bind λi=>
  pIf (decide (a<(i.do_.length:Int)))
   ((ix d.cases b).bind λh=>
   (ix h.do_ a).bind λg=>
   pIf (decide ((g.items.length:Int)>10))
    (some true)
    (z4e n (IntKind.i64.wrap (a+1)) b c d e))
   (z4c n (IntKind.i64.wrap (b+1)) c d e)
end
def yo0:LSh:=⟨[(2,dB)],[],0,77,[]⟩
def y5n:FI dat:=FI.of dat 68 77 0 [dT 8] [] [dB] [] true yo0 (R:=Bool) Prod.fst (·,()) (λn=>u1 (zei n))
 (λn=>[(0,⟨⟨[(1,(.ptr 0 0)),(16,dB)],[(.st 8)],0,77,[]⟩,u2 (z7l n)⟩),(1,⟨⟨[(3,dI),(1,(.ptr 0 0))],[(.st 8)],0,77,[]⟩,u2 (z4j n)⟩),(2,⟨⟨[(4,(.ptr 0 0)),(1,(.ptr 1 0)),(3,dI),(38,dB)],[(.st 7),(.st 8)],0,77,[]⟩,u4 (z73 n)⟩),(3,⟨⟨[(5,dI),(4,(.ptr 0 0)),(1,(.ptr 1 0)),(3,dI)],[(.st 7),(.st 8)],0,77,[]⟩,u4 (z4c n)⟩),(4,⟨⟨[(6,dI),(5,dI),(4,(.ptr 0 0)),(1,(.ptr 1 0)),(3,dI)],[(.st 7),(.st 8)],0,77,[]⟩,u5 (z4e n)⟩)]) (anb [(5,0),(14,1),(28,2),(36,3),(56,4)] f68)
def yh8:FOk prog y5n:=okF (bs:=[]) trivial func68 ntmps68 call68
 (λ_ _=>tr (zei.eq_2 ..))
 (λn=>⟨λ_=>tr (z7l.eq_2 ..),
  λ_=>tr (z4j.eq_2 ..),
  λ_=>tr (z73.eq_2 ..),
  λ_=>tr (z4c.eq_2 ..),
  λ_=>tr (z4e.eq_2 ..),
  trivial⟩)
def zbd:Nat->Int->Ot Bool
 |0,_=>none
 |n+1,a=>
  pIf (decide (a>=97))
   (some (decide (a<=122)))
   (some false)
def yg5:LSh:=⟨[(2,dB)],[],0,9,[]⟩
def zxp:FI dat:=FI.of dat 193 9 0 [dU] [] [dB] [] true yg5 (R:=Bool) Prod.fst (·,()) (λn=>u1 (zbd n))
 (λn=>[]) (anb [] f193)
def y99:FOk prog zxp:=okF (bs:=[]) trivial func193 ntmps193 call193
 (λn=>λ_=>tr (zbd.eq_2 _ n))
 (λn=>trivial)
def zd5:Nat->Int->Ot Bool
 |0,_=>none
 |n+1,a=>
  pIf (decide (a>=48))
   (some (decide (a<=57)))
   (some false)
def yh1:LSh:=⟨[(2,dB)],[],0,9,[]⟩
def y1f:FI dat:=FI.of dat 194 9 0 [dU] [] [dB] [] true yh1 (R:=Bool) Prod.fst (·,()) (λn=>u1 (zd5 n))
 (λn=>[]) (anb [] f194)
def yc4:FOk prog y1f:=okF (bs:=[]) trivial func194 ntmps194 call194
 (λn=>λ_=>tr (zd5.eq_2 _ n))
 (λn=>trivial)
mutual
def zby:Nat->B8->Ot Bool
 |0,_=>none
 |n+1,a=>
  z0b n 0 a
def z0b:Nat->Int->B8->Ot Bool
 |0,_,_=>none
 |n+1,a,b=>
  pIf (decide (a<(b.length:Int)))
   ((ix b a).bind λi=>
   (zbd n (i.toNat:Int)).bind λe=>
   pIf (!e)
    (pIf (a==0)
      (z0y n b a true)
      ((ix b a).bind λh=>
      pIf ((h.toNat:Int) != 45)
       ((ix b a).bind λg=>
       (zd5 n (g.toNat:Int)).bind λd=>
       z0y n b a (!d))
       (z0y n b a false)))
    (z0y n b a false))
   (pIf (decide ((b.length:Int)>=1))
     (some (decide ((b.length:Int)<=40)))
     (some false))
def z0y:Nat->B8->Int->Bool->Ot Bool
 |0,_,_,_=>none
 |n+1,a,b,c=>
  pIf c
   (some false)
   (z0b n (IntKind.i64.wrap (b+1)) a)
end
def yoi:LSh:=⟨[(2,dB)],[],0,40,[]⟩
def zvw:FI dat:=FI.of dat 162 40 0 [dS] [] [dB] [] true yoi (R:=Bool) Prod.fst (·,()) (λn=>u1 (zby n))
 (λn=>[(0,⟨⟨[(3,dI),(0,dS)],[],0,40,[]⟩,u2 (z0b n)⟩),(1,⟨⟨[(0,dS),(3,dI),(31,dB)],[],0,40,[]⟩,u3 (z0y n)⟩)]) (anb [(6,0),(17,1)] f162)
def y1v:FOk prog zvw:=okF (bs:=[zxp,y1f]) ⟨y99,yc4,trivial⟩ func162 ntmps162 call162
 (λ_ _=>tr (zby.eq_2 ..))
 (λn=>⟨λ_=>tr (z0b.eq_2 ..),
  λ_=>tr (z0y.eq_2 ..),
  trivial⟩)
def zb5:Nat->B8->Ot Bool
 |0,_=>none
 |n+1,a=>
  pIf (a==[115,120])
   (some true)
   (pIf (a==[115,121])
     (some true)
     (some (a==[115,122])))
def ydy:LSh:=⟨[(2,dB)],[],0,13,[]⟩
def zy2:FI dat:=FI.of dat 163 13 0 [dS] [] [dB] [] true ydy (R:=Bool) Prod.fst (·,()) (λn=>u1 (zb5 n))
 (λn=>[]) (anb [] f163)
def yaj:FOk prog zy2:=okF (bs:=[]) trivial func163 ntmps163 call163
 (λn=>λ_=>tr (zb5.eq_2 _ n))
 (λn=>trivial)
def z4v:Nat->B8->Ot Bool
 |0,_=>none
 |n+1,a=>
  (zby n a).bind λd=>
  pIf d
   (pIf (!(a==[116,114,117,101]))
     (pIf (!(a==[102,97,108,115,101]))
       ((zb5 n a).bind λb=>
       some (!b))
       (some false))
     (some false))
   (some false)
def yo4:LSh:=⟨[(2,dB)],[],0,18,[]⟩
def zuy:FI dat:=FI.of dat 117 18 0 [dS] [] [dB] [] true yo4 (R:=Bool) Prod.fst (·,()) (λn=>u1 (z4v n))
 (λn=>[]) (anb [] f117)
def y1u:FOk prog zuy:=okF (bs:=[zvw,zy2]) ⟨y1v,yaj,trivial⟩ func117 ntmps117 call117
 (λ_ _=>tr (z4v.eq_2 ..))
 (λn=>trivial)
mutual
def zc2:Nat->yz1->Ot Int
 |0,_=>none
 |n+1,a=>
  z74 n 0 1 a.re
def z74:Nat->Int->Int->yz1->Ot Int
 |0,_,_,_=>none
 |n+1,a,b,c=>
  pIf (decide (a<(c.args.length:Int)))
   ((ix c.args a).bind λe=>
   (zc2 n e.re).bind λd=>
   z74 n (IntKind.i64.wrap (a+1)) (mxI b (IntKind.i64.wrap (1+d))) c.re)
   (some b)
end
def yno:LSh:=⟨[(2,dI)],[],0,22,[]⟩
def zke:FI dat:=FI.of dat 164 22 0 [dT 2] [] [dI] [] true yno (R:=Int) Prod.fst (·,()) (λn=>u1 (zc2 n))
 (λn=>[(0,⟨⟨[(4,dI),(1,(.ptr 0 0)),(3,dI)],[(.st 2)],0,22,[]⟩,u3 (z74 n)⟩)]) (anb [(8,0)] f164)
def yld:List (FI dat):=[zke]++[]
def ynv:(zke).Good prog dat (tb yld):=FI.z3l (hD:=zzf _) func164 ntmps164 call164 (by kernel_rfl) (Qac (by kernel_rfl)) (by kernel_rfl) (λn=>by kernel_rfl) (λx=>by kernel_rfl) (λ_=>rfl) ⟨λ_=>rfl,trivial⟩
 (λ_ _=>tr (zc2.eq_2 ..))
 (λn=>⟨λ_=>tr (z74.eq_2 ..),
  trivial⟩)
 (λx=>.inl rfl)
def ymn:OkL prog [zke]:=z8x (zzf _) (bs:=[]) trivial ⟨ynv,trivial⟩
def yhr:FOk prog zke:=ymn.1
mutual
def zes:Nat->Int->Ot Int
 |0,_=>none
 |n+1,a=>
  pIf (a==1)
   (zab n a true)
   (zab n a (a==2))
def zab:Nat->Int->Bool->Ot Int
 |0,_,_=>none
 |n+1,a,b=>
  pIf b
   (some 0)
   (pIf (decide (a>=3))
     (pIf (decide (a<=10))
       (zzw n a true)
       (pIf (a==13)
         (zzw n a true)
         (pIf (a==14)
           (zzw n a true)
           (zzw n a (a==17)))))
     (pIf (a==13)
       (zzw n a true)
       (pIf (a==14)
         (zzw n a true)
         (zzw n a (a==17)))))
def zzw:Nat->Int->Bool->Ot Int
 |0,_,_=>none
 |n+1,a,b=>
  pIf b
   (some 2)
   (pIf (a==11)
     (z7v n a true)
     (pIf (a==15)
       (z7v n a true)
       (z7v n a (a==16))))
def z7v:Nat->Int->Bool->Ot Int
 |0,_,_=>none
 |n+1,a,b=>
  pIf b
   (some 1)
   (pIf (a==12)
     (some 3)
     (pIf (a==18)
       (some (-1))
       (some (-2))))
end
def ymx:LSh:=⟨[(2,dI)],[],0,46,[]⟩
def zvx:FI dat:=FI.of dat 195 46 0 [dU] [] [dI] [] true ymx (R:=Int) Prod.fst (·,()) (λn=>u1 (zes n))
 (λn=>[(0,⟨⟨[(0,dU),(3,dB)],[],0,46,[]⟩,u2 (zab n)⟩),(1,⟨⟨[(0,dU),(10,dB)],[],0,46,[]⟩,u2 (zzw n)⟩),(2,⟨⟨[(0,dU),(29,dB)],[],0,46,[]⟩,u2 (z7v n)⟩)]) (anb [(6,0),(12,1),(18,2)] f195)
def ygf:FOk prog zvx:=okF (bs:=[]) trivial func195 ntmps195 call195
 (λ_ _=>tr (zes.eq_2 ..))
 (λn=>⟨λ_=>tr (zab.eq_2 ..),
  λ_=>tr (zzw.eq_2 ..),
  λ_=>tr (z7v.eq_2 _ _ n),
  trivial⟩)
mutual
def zc6:Nat->zz1->Ot Int
 |0,_=>none
 |n+1,a=>
  z71 n 0 1 a.re
def z71:Nat->Int->Int->zz1->Ot Int
 |0,_,_,_=>none
 |n+1,a,b,c=>
  pIf (decide (a<(c.list.length:Int)))
   (z6s n a b (c.kind==4) c.re)
   (z6s n a b false c.re)
def z6s:Nat->Int->Int->Bool->zz1->Ot Int
 |0,_,_,_,_=>none
 |n+1,a,b,c,d=>
  pIf c
   ((ix d.list a).bind λg=>
   (zc6 n g.re).bind λe=>
   z71 n (IntKind.i64.wrap (a+1)) (mxI b (IntKind.i64.wrap (1+e))) d.re)
   (some b)
end
def ymb:LSh:=⟨[(2,dI)],[],0,27,[]⟩
def zj8:FI dat:=FI.of dat 211 27 0 [dT 1] [] [dI] [] true ymb (R:=Int) Prod.fst (·,()) (λn=>u1 (zc6 n))
 (λn=>[(0,⟨⟨[(4,dI),(1,(.ptr 0 0)),(3,dI)],[(.st 1)],0,27,[]⟩,u3 (z71 n)⟩),(1,⟨⟨[(1,(.ptr 0 0)),(4,dI),(3,dI),(14,dB)],[(.st 1)],0,27,[]⟩,u4 (z6s n)⟩)]) (anb [(8,0),(12,1)] f211)
def yl2:List (FI dat):=[zj8]++[]
def ym4:(zj8).Good prog dat (tb yl2):=FI.z3l (hD:=zzf _) func211 ntmps211 call211 (by kernel_rfl) (Qac (by kernel_rfl)) (by kernel_rfl) (λn=>by kernel_rfl) (λx=>by kernel_rfl) (λ_=>rfl) ⟨λ_=>rfl,λ_=>rfl,trivial⟩
 (λ_ _=>tr (zc6.eq_2 ..))
 (λn=>⟨λ_=>tr (z71.eq_2 ..),
  λ_=>tr (z6s.eq_2 ..),
  trivial⟩)
 (λx=>.inl rfl)
def ym7:OkL prog [zj8]:=z8x (zzf _) (bs:=[]) trivial ⟨ym4,trivial⟩
def yj0:FOk prog zj8:=ym7.1
mutual
def zb7:Nat->Int->Int->Ot Int
 |0,_,_=>none
 |n+1,a,b=>
  z3w n b a
def z3w:Nat->Int->Int->Ot Int
 |0,_,_=>none
 |n+1,a,b=>
  pIf (a != 0)
   ((rem .i64 b a).bind λd=>
   z3w n d a)
   (pIf (decide (b<0))
     (some (IntKind.i64.wrap (0-b)))
     (some b))
end
def yf9:LSh:=⟨[(4,dI)],[],0,16,[]⟩
def zwx:FI dat:=FI.of dat 219 16 0 [dI,dI] [] [dI] [] true yf9 (R:=Int) Prod.fst (·,()) (λn=>u2 (zb7 n))
 (λn=>[(0,⟨⟨[(1,dI),(0,dI)],[],0,16,[]⟩,u2 (z3w n)⟩)]) (anb [(4,0)] f219)
def y9i:FOk prog zwx:=okF (bs:=[]) trivial func219 ntmps219 call219
 (λ_ _=>tr (zb7.eq_2 ..))
 (λn=>⟨λ_=>tr (z3w.eq_2 ..),
  trivial⟩)
mutual
def zd1:Nat->kz4->Ot Int
 |0,_=>none
 |n+1,a=>
  pIf (decide (a.den<1))
   (z0f n true)
   (pIf (decide (a.den>1000000000))
     (z0f n true)
     (pIf (decide (a.num<(-1000000000)))
       (z0f n true)
       (pIf (decide (a.num>1000000000))
         (z0f n true)
         ((zb7 n a.num a.den).bind λb=>
         z0f n (b != 1)))))
def z0f:Nat->Bool->Ot Int
 |0,_=>none
 |n+1,a=>
  pIf a
   (some 8)
   (some 0)
end
def ygn:LSh:=⟨[(2,dI)],[],0,29,[]⟩
def zs7:FI dat:=FI.of dat 216 29 0 [dT 0] [] [dI] [] true ygn (R:=Int) Prod.fst (·,()) (λn=>u1 (zd1 n))
 (λn=>[(0,⟨⟨[(28,dB)],[],0,29,[]⟩,u1 (z0f n)⟩)]) (anb [(5,0)] f216)
def yfu:FOk prog zs7:=okF (bs:=[zwx]) ⟨y9i,trivial⟩ func216 ntmps216 call216
 (λ_ _=>tr (zd1.eq_2 ..))
 (λn=>⟨λ_=>tr (z0f.eq_2 _ n),
  trivial⟩)
mutual
def zca:Nat->zz1->Ot Bool
 |0,_=>none
 |n+1,a=>
  pIf (a.kind==1)
   ((zd1 n a.num).bind λb=>
   pIf (b==0)
    (pIf (!a.truth)
      (pIf ((a.str.length:Int)==0)
        (some ((a.list.length:Int)==0))
        (some false))
      (some false))
    (some false))
   (pIf (a.kind==2)
     (pIf ((a.num.num==0)&&((a.num.den==0)&&true))
       (pIf ((a.str.length:Int)==0)
         (some ((a.list.length:Int)==0))
         (some false))
       (some false))
     (pIf (a.kind==3)
       (pIf (!((a.num.num==0)&&((a.num.den==0)&&true)))
         (z16 n true a.re)
         (pIf a.truth
           (z16 n true a.re)
           (pIf (decide ((a.list.length:Int)>0))
             (z16 n true a.re)
             (z16 n (decide ((a.str.length:Int)>60)) a.re))))
       (pIf (a.kind==4)
         (pIf (!((a.num.num==0)&&((a.num.den==0)&&true)))
           (z2o n true a.re)
           (pIf a.truth
             (z2o n true a.re)
             (z2o n (decide ((a.str.length:Int)>0)) a.re)))
         (some false))))
def z16:Nat->Bool->zz1->Ot Bool
 |0,_,_=>none
 |n+1,a,b=>
  pIf a
   (some false)
   (z6p n 0 b.re)
def z6p:Nat->Int->zz1->Ot Bool
 |0,_,_=>none
 |n+1,a,b=>
  pIf (decide (a<(b.str.length:Int)))
   ((ix b.str a).bind λe=>
   pIf (decide ((e.toNat:Int)<32))
    (z7r n a true b.re)
    ((ix b.str a).bind λd=>
    z7r n a (decide ((d.toNat:Int)>126)) b.re))
   (some true)
def z7r:Nat->Int->Bool->zz1->Ot Bool
 |0,_,_,_=>none
 |n+1,a,b,c=>
  pIf b
   (some false)
   (z6p n (IntKind.i64.wrap (a+1)) c.re)
def z2o:Nat->Bool->zz1->Ot Bool
 |0,_,_=>none
 |n+1,a,b=>
  pIf a
   (some false)
   (z7n n 0 b.re)
def z7n:Nat->Int->zz1->Ot Bool
 |0,_,_=>none
 |n+1,a,b=>
  pIf (decide (a<(b.list.length:Int)))
   ((ix b.list a).bind λe=>
   (zca n e.re).bind λd=>
   pIf (!d)
    (some false)
    (z7n n (IntKind.i64.wrap (a+1)) b.re))
   (some true)
end
def ymy:LSh:=⟨[(2,dB)],[],0,121,[]⟩
def zja:FI dat:=FI.of dat 212 121 0 [dT 1] [] [dB] [] true ymy (R:=Bool) Prod.fst (·,()) (λn=>u1 (zca n))
 (λn=>[(0,⟨⟨[(1,(.ptr 0 0)),(71,dB)],[(.st 1)],0,121,[]⟩,u2 (z16 n)⟩),(1,⟨⟨[(4,dI),(1,(.ptr 0 0))],[(.st 1)],0,121,[]⟩,u2 (z6p n)⟩),(2,⟨⟨[(1,(.ptr 0 0)),(4,dI),(90,dB)],[(.st 1)],0,121,[]⟩,u3 (z7r n)⟩),(3,⟨⟨[(1,(.ptr 0 0)),(106,dB)],[(.st 1)],0,121,[]⟩,u2 (z2o n)⟩),(4,⟨⟨[(5,dI),(1,(.ptr 0 0))],[(.st 1)],0,121,[]⟩,u2 (z7n n)⟩)]) (anb [(26,0),(35,1),(46,2),(61,3),(70,4)] f212)
def ynt:List (FI dat):=[zja]++[zs7]
def yot:(zja).Good prog dat (tb ynt):=FI.z3l (hD:=zzf _) func212 ntmps212 call212 (by kernel_rfl) (Qac (by kernel_rfl)) (by kernel_rfl) (λn=>by kernel_rfl) (λx=>by kernel_rfl) (λ_=>rfl) ⟨λ_=>rfl,λ_=>rfl,λ_=>rfl,λ_=>rfl,λ_=>rfl,trivial⟩
 (λ_ _=>tr (zca.eq_2 ..))
 (λn=>⟨λ_=>tr (z16.eq_2 ..),
  λ_=>tr (z6p.eq_2 ..),
  λ_=>tr (z7r.eq_2 ..),
  λ_=>tr (z2o.eq_2 ..),
  λ_=>tr (z7n.eq_2 ..),
  trivial⟩)
 (λx=>.inl rfl)
def yne:OkL prog [zja]:=z8x (zzf _) (bs:=[zs7]) ⟨yfu,trivial⟩ ⟨yot,trivial⟩
def yha:FOk prog zja:=yne.1
mutual
def zcm:Nat->zz1->Ot Int
 |0,_=>none
 |n+1,a=>
  (z8g n a.re).bind λd=>
  pIf (decide (d>100))
   (z58 n true a.re)
   ((zc6 n a.re).bind λb=>
   z58 n (decide (b>6)) a.re)
def z58:Nat->Bool->zz1->Ot Int
 |0,_,_=>none
 |n+1,a,b=>
  pIf a
   (some 4)
   ((zca n b.re).bind λd=>
   pIf (!d)
    (some 8)
    (some 0))
end
def ygm:LSh:=⟨[(2,dI)],[],0,14,[]⟩
def zs9:FI dat:=FI.of dat 196 14 0 [dT 1] [] [dI] [] true ygm (R:=Int) Prod.fst (·,()) (λn=>u1 (zcm n))
 (λn=>[(0,⟨⟨[(1,(.ptr 0 0)),(10,dB)],[(.st 1)],0,14,[]⟩,u2 (z58 n)⟩)]) (anb [(5,0)] f196)
def yf8:FOk prog zs9:=okF (bs:=[zek,zj8,zja]) ⟨zyo,yj0,yha,trivial⟩ func196 ntmps196 call196
 (λ_ _=>tr (zcm.eq_2 ..))
 (λn=>⟨λ_=>tr (z58.eq_2 ..),
  trivial⟩)
def zd7:Nat->B8->Ot Bool
 |0,_=>none
 |n+1,a=>
  (zby n a).bind λb=>
  pIf b
   (pIf (!(a==[116,114,117,101]))
     (some (!(a==[102,97,108,115,101])))
     (some false))
   (some false)
def yiz:LSh:=⟨[(2,dB)],[],0,13,[]⟩
def zs5:FI dat:=FI.of dat 197 13 0 [dS] [] [dB] [] true yiz (R:=Bool) Prod.fst (·,()) (λn=>u1 (zd7 n))
 (λn=>[]) (anb [] f197)
def ycw:FOk prog zs5:=okF (bs:=[zvw]) ⟨y1v,trivial⟩ func197 ntmps197 call197
 (λ_ _=>tr (zd7.eq_2 ..))
 (λn=>trivial)
mutual
def zc7:Nat->yz1->Ot Bool
 |0,_=>none
 |n+1,a=>
  (zes n a.op).bind λb=>
  pIf (b==(-2))
   (z4g n true a.re)
   (pIf (decide (b>=0))
     (z4g n ((a.args.length:Int) != b) a.re)
     (z4g n false a.re))
def z4g:Nat->Bool->yz1->Ot Bool
 |0,_,_=>none
 |n+1,a,b=>
  pIf a
   (some false)
   (pIf (b.op==1)
     ((zcm n b.value.re).bind λg=>
     pIf (g != 0)
      (z0d n true b.re)
      (pIf (b.value.kind==4)
        (z0d n true b.re)
        (pIf (b.op != 1)
          ((z3f n b.value.re (zz1.mk 0 (kz4.mk 0 0) false [] [])).bind λe=>
          z0d n (!e) b.re)
          (z0d n false b.re))))
     (pIf (b.op != 1)
       ((z3f n b.value.re (zz1.mk 0 (kz4.mk 0 0) false [] [])).bind λd=>
       z0d n (!d) b.re)
       (z0d n false b.re)))
def z0d:Nat->Bool->yz1->Ot Bool
 |0,_,_=>none
 |n+1,a,b=>
  pIf a
   (some false)
   (pIf (b.op==2)
     ((zd7 n b.name).bind λd=>
     pIf (!d)
      (z13 n true b.re)
      (pIf (b.op != 2)
        (z13 n (decide ((b.name.length:Int)>0)) b.re)
        (z13 n false b.re)))
     (pIf (b.op != 2)
       (z13 n (decide ((b.name.length:Int)>0)) b.re)
       (z13 n false b.re)))
def z13:Nat->Bool->yz1->Ot Bool
 |0,_,_=>none
 |n+1,a,b=>
  pIf a
   (some false)
   (z81 n 0 b.re)
def z81:Nat->Int->yz1->Ot Bool
 |0,_,_=>none
 |n+1,a,b=>
  pIf (decide (a<(b.args.length:Int)))
   ((ix b.args a).bind λe=>
   (zc7 n e.re).bind λd=>
   pIf (!d)
    (some false)
    (z81 n (IntKind.i64.wrap (a+1)) b.re))
   (some true)
end
def ylp:LSh:=⟨[(2,dB)],[],0,82,[]⟩
def zkd:FI dat:=FI.of dat 165 82 0 [dT 2] [] [dB] [] true ylp (R:=Bool) Prod.fst (·,()) (λn=>u1 (zc7 n))
 (λn=>[(0,⟨⟨[(1,(.ptr 0 0)),(20,dB)],[(.st 2)],0,82,[]⟩,u2 (z4g n)⟩),(1,⟨⟨[(1,(.ptr 0 0)),(47,dB)],[(.st 2)],0,82,[]⟩,u2 (z0d n)⟩),(2,⟨⟨[(1,(.ptr 0 0)),(67,dB)],[(.st 2)],0,82,[]⟩,u2 (z13 n)⟩),(3,⟨⟨[(4,dI),(1,(.ptr 0 0))],[(.st 2)],0,82,[]⟩,u2 (z81 n)⟩)]) (anb [(7,0),(15,1),(23,2),(32,3)] f165)
def ynp:List (FI dat):=[zkd]++[zvx,zs9,zbi,zs5]
def ymr:(zkd).Good prog dat (tb ynp):=FI.z3l (hD:=zzf _) func165 ntmps165 call165 (by kernel_rfl) (Qac (by kernel_rfl)) (by kernel_rfl) (λn=>by kernel_rfl) (λx=>by kernel_rfl) (λ_=>rfl) ⟨λ_=>rfl,λ_=>rfl,λ_=>rfl,λ_=>rfl,trivial⟩
 (λ_ _=>tr (zc7.eq_2 ..))
 (λn=>⟨λ_=>tr (z4g.eq_2 ..),
  λ_=>tr (z0d.eq_2 ..),
  λ_=>tr (z13.eq_2 ..),
  λ_=>tr (z81.eq_2 ..),
  trivial⟩)
 (λx=>.inl rfl)
def yof:OkL prog [zkd]:=z8x (zzf _) (bs:=[zvx,zs9,zbi,zs5]) ⟨ygf,yf8,y21,ycw,trivial⟩ ⟨ymr,trivial⟩
def yic:FOk prog zkd:=yof.1
mutual
def z1v:Nat->yz1->Ot Int
 |0,_=>none
 |n+1,a=>
  (z8k n a.re).bind λd=>
  pIf (decide (d>100))
   (z62 n true a.re)
   ((zc2 n a.re).bind λb=>
   z62 n (decide (b>12)) a.re)
def z62:Nat->Bool->yz1->Ot Int
 |0,_,_=>none
 |n+1,a,b=>
  pIf a
   (some 4)
   ((zc7 n b.re).bind λd=>
   pIf (!d)
    (some 8)
    (some 0))
end
def yhs:LSh:=⟨[(2,dI)],[],0,14,[]⟩
def zlj:FI dat:=FI.of dat 118 14 0 [dT 2] [] [dI] [] true yhs (R:=Int) Prod.fst (·,()) (λn=>u1 (z1v n))
 (λn=>[(0,⟨⟨[(1,(.ptr 0 0)),(10,dB)],[(.st 2)],0,14,[]⟩,u2 (z62 n)⟩)]) (anb [(5,0)] f118)
def zo8:FOk prog zlj:=okF (bs:=[zeq,zke,zkd]) ⟨zxr,yhr,yic,trivial⟩ func118 ntmps118 call118
 (λ_ _=>tr (z1v.eq_2 ..))
 (λn=>⟨λ_=>tr (z62.eq_2 ..),
  trivial⟩)
mutual
def zdz:Nat->Int->Ot Int
 |0,_=>none
 |n+1,a=>
  pIf (a==2)
   (z9b n a true)
   (z9b n a (a==3))
def z9b:Nat->Int->Bool->Ot Int
 |0,_,_=>none
 |n+1,a,b=>
  pIf b
   (some 3)
   (pIf (a==4)
     (z9f n true)
     (z9f n (a==6)))
def z9f:Nat->Bool->Ot Int
 |0,_=>none
 |n+1,a=>
  pIf a
   (some 1)
   (some 0)
end
def ypg:LSh:=⟨[(2,dI)],[],0,10,[]⟩
def zxk:FI dat:=FI.of dat 124 10 0 [dU] [] [dI] [] true ypg (R:=Int) Prod.fst (·,()) (λn=>u1 (zdz n))
 (λn=>[(0,⟨⟨[(3,dU),(4,dB)],[],0,10,[]⟩,u2 (z9b n)⟩),(1,⟨⟨[(7,dB)],[],0,10,[]⟩,u1 (z9f n)⟩)]) (anb [(12,0),(22,1)] f124)
def y4j:FOk prog zxk:=okF (bs:=[]) trivial func124 ntmps124 call124
 (λ_ _=>tr (zdz.eq_2 ..))
 (λn=>⟨λ_=>tr (z9b.eq_2 ..),
  λ_=>tr (z9f.eq_2 _ n),
  trivial⟩)
mutual
def zb9:Nat->kz2->Ot Bool
 |0,_=>none
 |n+1,a=>
  pIf (decide (a.kind<1))
   (z0k n true a)
   (pIf (decide (a.kind>6))
     (z0k n true a)
     ((z0g n a.args).bind λe=>
     (z1v n e.re).bind λd=>
     pIf (d != 0)
      (z0k n true a)
      ((zdz n a.kind).bind λb=>
      z0k n (decide ((a.args.length:Int)<b)) a)))
def z0k:Nat->Bool->kz2->Ot Bool
 |0,_,_=>none
 |n+1,a,b=>
  pIf a
   (some false)
   (pIf (b.kind==4)
     (z3u n true b)
     (z3u n (b.kind==5) b))
def z3u:Nat->Bool->kz2->Ot Bool
 |0,_,_=>none
 |n+1,a,b=>
  pIf a
   (pIf (decide (b.axis>2))
     (some false)
     (z3v n b))
   (pIf (b.axis != 0)
     (some false)
     (z3v n b))
def z3v:Nat->kz2->Ot Bool
 |0,_=>none
 |n+1,a=>
  pIf (a.kind==5)
   (z7c n true a)
   (z7c n (a.kind==6) a)
def z7c:Nat->Bool->kz2->Ot Bool
 |0,_,_=>none
 |n+1,a,b=>
  pIf a
   (pIf (decide ((b.name.length:Int)>0))
     (zzt n true b)
     (pIf (b.kind==5)
       (pIf (decide ((b.args.length:Int)>0))
         (zzt n true b)
         (pIf (b.kind==6)
           (zzt n (decide ((b.args.length:Int)>1)) b)
           (zzt n false b)))
       (pIf (b.kind==6)
         (zzt n (decide ((b.args.length:Int)>1)) b)
         (zzt n false b))))
   ((z4v n b.name).bind λd=>
   pIf (!d)
    (some false)
    (z3o n b))
def zzt:Nat->Bool->kz2->Ot Bool
 |0,_,_=>none
 |n+1,a,b=>
  pIf a
   (some false)
   (z3o n b)
def z3o:Nat->kz2->Ot Bool
 |0,_=>none
 |n+1,a=>
  pIf (!((a.kind==5)==(decide ((a.items.length:Int)>0))))
   (some false)
   (z1z n 0 a)
def z1z:Nat->Int->kz2->Ot Bool
 |0,_,_=>none
 |n+1,a,b=>
  pIf (decide (a<(b.items.length:Int)))
   ((ix b.items a).bind λd=>
   pIf (decide (d.kind<1))
    (yzy n a true b)
    (pIf (decide (d.kind>3))
      (yzy n a true b)
      ((z4v n d.name).bind λh=>
      pIf (!h)
       (yzy n a true b)
       (pIf ((d.args.length:Int)==0)
         (yzy n a true b)
         ((z0g n d.args).bind λg=>
         (z1v n g.re).bind λe=>
         yzy n a (e != 0) b)))))
   (some true)
def yzy:Nat->Int->Bool->kz2->Ot Bool
 |0,_,_,_=>none
 |n+1,a,b,c=>
  pIf b
   (some false)
   (z1z n (IntKind.i64.wrap (a+1)) c)
end
def ydi:LSh:=⟨[(2,dB)],[],0,128,[]⟩
def zxh:FI dat:=FI.of dat 119 128 0 [dT 5] [] [dB] [] true ydi (R:=Bool) Prod.fst (·,()) (λn=>u1 (zb9 n))
 (λn=>[(0,⟨⟨[(1,(.ptr 0 0)),(28,dB)],[(.st 5)],0,128,[]⟩,u2 (z0k n)⟩),(1,⟨⟨[(1,(.ptr 0 0)),(36,dB)],[(.st 5)],0,128,[]⟩,u2 (z3u n)⟩),(2,⟨⟨[(1,(.ptr 0 0))],[(.st 5)],0,128,[]⟩,u1 (z3v n)⟩),(3,⟨⟨[(1,(.ptr 0 0)),(50,dB)],[(.st 5)],0,128,[]⟩,u2 (z7c n)⟩),(4,⟨⟨[(1,(.ptr 0 0)),(76,dB)],[(.st 5)],0,128,[]⟩,u2 (zzt n)⟩),(5,⟨⟨[(1,(.ptr 0 0))],[(.st 5)],0,128,[]⟩,u1 (z3o n)⟩),(6,⟨⟨[(3,dI),(1,(.ptr 0 0))],[(.st 5)],0,128,[]⟩,u2 (z1z n)⟩),(7,⟨⟨[(1,(.ptr 0 0)),(3,dI),(127,dB)],[(.st 5)],0,128,[]⟩,u3 (yzy n)⟩)]) (anb [(5,0),(13,1),(28,2),(31,3),(34,4),(46,5),(58,6),(71,7)] f119)
def yae:FOk prog zxh:=okF (bs:=[zn9,zlj,zxk,zuy]) ⟨zrq,zo8,y4j,y1u,trivial⟩ func119 ntmps119 call119
 (λ_ _=>tr (zb9.eq_2 ..))
 (λn=>⟨λ_=>tr (z0k.eq_2 ..),
  λ_=>tr (z3u.eq_2 ..),
  λ_=>tr (z3v.eq_2 ..),
  λ_=>tr (z7c.eq_2 ..),
  λ_=>tr (zzt.eq_2 ..),
  λ_=>tr (z3o.eq_2 ..),
  λ_=>tr (z1z.eq_2 ..),
  λ_=>tr (yzy.eq_2 ..),
  trivial⟩)
mutual
def zb3:Nat->zz0->Ot Bool
 |0,_=>none
 |n+1,a=>
  z2d n 0 a
def z2d:Nat->Int->zz0->Ot Bool
 |0,_,_=>none
 |n+1,a,b=>
  pIf (decide (a<(b.attrs.length:Int)))
   ((ix b.attrs a).bind λh=>
   (z4v n h.name).bind λe=>
   pIf (!e)
    (z3s n a true b)
    ((ix b.attrs a).bind λg=>
    (z1v n g.value.re).bind λd=>
    z3s n a (d != 0) b))
   (z1x n 0 b)
def z3s:Nat->Int->Bool->zz0->Ot Bool
 |0,_,_,_=>none
 |n+1,a,b,c=>
  pIf b
   (some false)
   (z2d n (IntKind.i64.wrap (a+1)) c)
def z1x:Nat->Int->zz0->Ot Bool
 |0,_,_=>none
 |n+1,a,b=>
  pIf (decide (a<(b.rules.length:Int)))
   ((ix b.rules a).bind λd=>
   (z4v n d.name).bind λe=>
   pIf (!e)
    (some false)
    (z2e n 0 a d b))
   (some true)
def z2e:Nat->Int->Int->zz3->zz0->Ot Bool
 |0,_,_,_,_=>none
 |n+1,a,b,c,d=>
  pIf (decide (a<(c.params.length:Int)))
   ((ix c.params a).bind λg=>
   (z4v n g).bind λe=>
   pIf (!e)
    (some false)
    (z2e n (IntKind.i64.wrap (a+1)) b c d))
   (z1t n 0 b c d)
def z1t:Nat->Int->Int->zz3->zz0->Ot Bool
 |0,_,_,_,_=>none
 |n+1,a,b,c,d=>
  pIf (decide (a<(c.cases.length:Int)))
   ((ix c.cases a).bind λe=>
   pIf (decide (e.weight<1))
    (z1w n b a true e.re c d)
    (pIf (decide (e.weight>1000000))
      (z1w n b a true e.re c d)
      ((z1v n e.when_.re).bind λg=>
      z1w n b a (g != 0) e.re c d)))
   (z1x n (IntKind.i64.wrap (b+1)) d)
def z1w:Nat->Int->Int->Bool->zz4->zz3->zz0->Ot Bool
 |0,_,_,_,_,_,_=>none
 |n+1,a,b,c,d,e,f=>
  pIf c
   (some false)
   (z2b n 0 a b d.re e f)
def z2b:Nat->Int->Int->Int->zz4->zz3->zz0->Ot Bool
 |0,_,_,_,_,_,_=>none
 |n+1,a,b,c,d,e,f=>
  pIf (decide (a<(d.do_.length:Int)))
   ((ix d.do_ a).bind λh=>
   (zb9 n h).bind λg=>
   pIf (!g)
    (some false)
    (z2b n (IntKind.i64.wrap (a+1)) b c d.re e f))
   (z1t n (IntKind.i64.wrap (c+1)) b e f)
end
def yfg:LSh:=⟨[(2,dB)],[],0,105,[]⟩
def zwt:FI dat:=FI.of dat 69 105 0 [dT 8] [] [dB] [] true yfg (R:=Bool) Prod.fst (·,()) (λn=>u1 (zb3 n))
 (λn=>[(0,⟨⟨[(3,dI),(1,(.ptr 0 0))],[(.st 8)],0,105,[]⟩,u2 (z2d n)⟩),(1,⟨⟨[(1,(.ptr 0 0)),(3,dI),(34,dB)],[(.st 8)],0,105,[]⟩,u3 (z3s n)⟩),(2,⟨⟨[(4,dI),(1,(.ptr 0 0))],[(.st 8)],0,105,[]⟩,u2 (z1x n)⟩),(3,⟨⟨[(6,dI),(5,(.ptr 0 0)),(1,(.ptr 1 0)),(4,dI)],[(.st 7),(.st 8)],0,105,[]⟩,u4 (z2e n)⟩),(4,⟨⟨[(7,dI),(5,(.ptr 0 0)),(1,(.ptr 1 0)),(4,dI)],[(.st 7),(.st 8)],0,105,[]⟩,u4 (z1t n)⟩),(5,⟨⟨[(8,(.ptr 0 0)),(5,(.ptr 1 0)),(1,(.ptr 2 0)),(4,dI),(7,dI),(90,dB)],[(.st 6),(.st 7),(.st 8)],0,105,[]⟩,u6 (z1w n)⟩),(6,⟨⟨[(9,dI),(8,(.ptr 0 0)),(5,(.ptr 1 0)),(1,(.ptr 2 0)),(4,dI),(7,dI)],[(.st 6),(.st 7),(.st 8)],0,105,[]⟩,u6 (z2b n)⟩)]) (anb [(6,0),(17,1),(27,2),(50,3),(70,4),(84,5),(92,6)] f69)
def yac:FOk prog zwt:=okF (bs:=[zuy,zlj,zxh]) ⟨y1u,zo8,yae,trivial⟩ func69 ntmps69 call69
 (λ_ _=>tr (zb3.eq_2 ..))
 (λn=>⟨λ_=>tr (z2d.eq_2 ..),
  λ_=>tr (z3s.eq_2 ..),
  λ_=>tr (z1x.eq_2 ..),
  λ_=>tr (z2e.eq_2 ..),
  λ_=>tr (z1t.eq_2 ..),
  λ_=>tr (z1w.eq_2 ..),
  λ_=>tr (z2b.eq_2 ..),
  trivial⟩)
mutual
def z8h:Nat->zz0->Ot (List B8)
 |0,_=>none
 |n+1,a=>
  z5i n 0 a []
def z5i:Nat->Int->zz0->(List B8)->Ot (List B8)
 |0,_,_,_=>none
 |n+1,a,b,c=>
  pIf (decide (a<(b.attrs.length:Int)))
   ((ix b.attrs a).bind λe=>
   (ext c [e.name]).bind λd=>
   z5i n (IntKind.i64.wrap (a+1)) b d)
   (some c)
end
def yiv:LSh:=⟨[(2,dA)],[],0,22,[]⟩
def zru:FI dat:=FI.of dat 121 22 0 [dT 8] [] [dA] [] true yiv (R:=List B8) Prod.fst (·,()) (λn=>u1 (z8h n))
 (λn=>[(0,⟨⟨[(4,dI),(1,(.ptr 0 0)),(3,(.own 1))],[(.st 8),(.acc 9 .str true)],0,22,[]⟩,u3 (z5i n)⟩)]) (anb [(8,0)] f121)
def zy1:FOk prog zru:=okF (bs:=[]) trivial func121 ntmps121 call121
 (λ_ _=>tr (z8h.eq_2 ..))
 (λn=>⟨λ_=>tr (z5i.eq_2 ..),
  trivial⟩)
mutual
def za4:Nat->(List B8)->B8->Ot Int
 |0,_,_=>none
 |n+1,a,b=>
  zcn n 0 b a
def zcn:Nat->Int->B8->(List B8)->Ot Int
 |0,_,_,_=>none
 |n+1,a,b,c=>
  pIf (decide (a<(c.length:Int)))
   ((ix c a).bind λd=>
   pIf (d==b)
    (some a)
    (zcn n (IntKind.i64.wrap (a+1)) b c))
   (some (-1))
end
def ysx:LSh:=⟨[(4,dI)],[],0,19,[]⟩
def zl5:FI dat:=FI.of dat 31 19 0 [dA,dS] [] [dI] [] true ysx (R:=Int) Prod.fst (·,()) (λn=>u2 (za4 n))
 (λn=>[(0,⟨⟨[(5,dI),(1,dS),(0,dA)],[],0,19,[]⟩,u3 (zcn n)⟩)]) (anb [(6,0)] f31)
def zlk:FOk prog zl5:=okF (bs:=[]) trivial func31 ntmps31 call31
 (λ_ _=>tr (za4.eq_2 ..))
 (λn=>⟨λ_=>tr (zcn.eq_2 ..),
  trivial⟩)
mutual
def zar:Nat->(List B8)->Ot Bool
 |0,_=>none
 |n+1,a=>
  z57 n 0 a
def z57:Nat->Int->(List B8)->Ot Bool
 |0,_,_=>none
 |n+1,a,b=>
  pIf (decide (a<(b.length:Int)))
   ((ix b a).bind λe=>
   (za4 n b e).bind λd=>
   pIf (decide (d<a))
    (some true)
    (z57 n (IntKind.i64.wrap (a+1)) b))
   (some false)
end
def yho:LSh:=⟨[(2,dB)],[],0,18,[]⟩
def y22:FI dat:=FI.of dat 120 18 0 [dA] [] [dB] [] true yho (R:=Bool) Prod.fst (·,()) (λn=>u1 (zar n))
 (λn=>[(0,⟨⟨[(3,dI),(0,dA)],[],0,18,[]⟩,u2 (z57 n)⟩)]) (anb [(6,0)] f120)
def ycr:FOk prog y22:=okF (bs:=[zl5]) ⟨zlk,trivial⟩ func120 ntmps120 call120
 (λ_ _=>tr (zar.eq_2 ..))
 (λn=>⟨λ_=>tr (z57.eq_2 ..),
  trivial⟩)
mutual
def z64:Nat->zz0->Ot (List B8)
 |0,_=>none
 |n+1,a=>
  z5a n 0 a []
def z5a:Nat->Int->zz0->(List B8)->Ot (List B8)
 |0,_,_,_=>none
 |n+1,a,b,c=>
  pIf (decide (a<(b.rules.length:Int)))
   ((ix b.rules a).bind λe=>
   (ext c [e.name]).bind λd=>
   z5a n (IntKind.i64.wrap (a+1)) b d)
   (some c)
end
def yhd:LSh:=⟨[(2,dA)],[],0,22,[]⟩
def zeo:FI dat:=FI.of dat 14 22 0 [dT 8] [] [dA] [] true yhd (R:=List B8) Prod.fst (·,()) (λn=>u1 (z64 n))
 (λn=>[(0,⟨⟨[(4,dI),(1,(.ptr 0 0)),(3,(.own 1))],[(.st 8),(.acc 9 .str true)],0,22,[]⟩,u3 (z5a n)⟩)]) (anb [(8,0)] f14)
def zju:FOk prog zeo:=okF (bs:=[]) trivial func14 ntmps14 call14
 (λ_ _=>tr (z64.eq_2 ..))
 (λn=>⟨λ_=>tr (z5a.eq_2 ..),
  trivial⟩)
mutual
def zcs:Nat->B8->(List B8)->Ot (Int×(List B8))
 |0,_,_=>none
 |n+1,a,b=>
  zzs n 0 a b
def zzs:Nat->Int->B8->(List B8)->Ot (Int×(List B8))
 |0,_,_,_=>none
 |n+1,a,b,c=>
  pIf (decide (a<(c.length:Int)))
   ((ix c a).bind λd=>
   pIf (d==b)
    (some (a,c))
    (zzs n (IntKind.i64.wrap (a+1)) b c))
   (some ((-1),c))
end
def yin:LSh:=⟨[(4,dI)],[(.acc 9 .str true)],1,19,[]⟩
def y0y:FI dat:=FI.of dat 31 19 1 [(.own 0),dS] [(.acc 9 .str true)] [dI] [(.acc 9 .str true)] false yin (R:=Int×(List B8)) (λx=>(x.1,x.2.1)) (λr=>(r.1,r.2,())) (λn=>u2 (zcs n))
 (λn=>[(0,⟨⟨[(5,dI),(1,dS),(0,(.own 0))],[(.acc 9 .str true)],1,19,[]⟩,u3 (zzs n)⟩)]) (anb [(6,0)] f31)
def yci:FOk prog y0y:=okF (bs:=[]) trivial func31 ntmps31 call31
 (λ_ _=>tr (zcs.eq_2 ..))
 (λn=>⟨λ_=>tr (zzs.eq_2 ..),
  trivial⟩)
mutual
def z8w:Nat->(List B8)->Ot (Bool×(List B8))
 |0,_=>none
 |n+1,a=>
  z1r n 0 a
def z1r:Nat->Int->(List B8)->Ot (Bool×(List B8))
 |0,_,_=>none
 |n+1,a,b=>
  pIf (decide (a<(b.length:Int)))
   ((ix b a).bind λe=>
   (zcs n e b).bind λd=>
   pIf (decide (d.1<a))
    (some (true,d.2))
    (z1r n (IntKind.i64.wrap (a+1)) d.2))
   (some (false,b))
end
def y7k:LSh:=⟨[(2,dB)],[(.acc 9 .str true)],1,18,[]⟩
def zu0:FI dat:=FI.of dat 120 18 1 [(.own 0)] [(.acc 9 .str true)] [dB] [(.acc 9 .str true)] false y7k (R:=Bool×(List B8)) (λx=>(x.1,x.2.1)) (λr=>(r.1,r.2,())) (λn=>u1 (z8w n))
 (λn=>[(0,⟨⟨[(3,dI),(0,(.own 0))],[(.acc 9 .str true)],1,18,[]⟩,u2 (z1r n)⟩)]) (anb [(6,0)] f120)
def y4q:FOk prog zu0:=okF (bs:=[y0y]) ⟨yci,trivial⟩ func120 ntmps120 call120
 (λ_ _=>tr (z8w.eq_2 ..))
 (λn=>⟨λ_=>tr (z1r.eq_2 ..),
  trivial⟩)
mutual
def za9:Nat->zz0->Ot Bool
 |0,_=>none
 |n+1,a=>
  (z8h n a).bind λg=>
  (zar n g).bind λe=>
  pIf e
   (z2p n true a)
   ((z64 n a).bind λd=>
   (zar n d).bind λb=>
   z2p n b a)
def z2p:Nat->Bool->zz0->Ot Bool
 |0,_,_=>none
 |n+1,a,b=>
  pIf a
   (some true)
   (z18 n 0 b)
def z18:Nat->Int->zz0->Ot Bool
 |0,_,_=>none
 |n+1,a,b=>
  pIf (decide (a<(b.rules.length:Int)))
   ((ix b.rules a).bind λi=>
   (ext [] i.params).bind λh=>
   (z8h n b).bind λe=>
   (ext h e).bind λg=>
   (z8w n g).bind λd=>
   pIf d.1
    (some true)
    (z18 n (IntKind.i64.wrap (a+1)) b))
   (some false)
end
def y9k:LSh:=⟨[(2,dB)],[],0,31,[]⟩
def zw5:FI dat:=FI.of dat 70 31 0 [dT 8] [] [dB] [] true y9k (R:=Bool) Prod.fst (·,()) (λn=>u1 (za9 n))
 (λn=>[(0,⟨⟨[(1,(.ptr 0 0)),(11,dB)],[(.st 8)],0,31,[]⟩,u2 (z2p n)⟩),(1,⟨⟨[(3,dI),(1,(.ptr 0 0))],[(.st 8)],0,31,[]⟩,u2 (z18 n)⟩)]) (anb [(5,0),(14,1)] f70)
def y75:FOk prog zw5:=okF (bs:=[zu0,zru,y22,zeo]) ⟨y4q,zy1,ycr,zju,trivial⟩ func70 ntmps70 call70
 (λ_ _=>tr (za9.eq_2 ..))
 (λn=>⟨λ_=>tr (z2p.eq_2 ..),
  λ_=>tr (z18.eq_2 ..),
  trivial⟩)
mutual
def zc5:Nat->yz1->(List B8)->Ot (List B8)
 |0,_,_=>none
 |n+1,a,b=>
  pIf (a.op==2)
   (z48 n 0 a.re b)
   (z4k n b a.re)
def z48:Nat->Int->yz1->(List B8)->Ot (List B8)
 |0,_,_,_=>none
 |n+1,a,b,c=>
  pIf (decide (a<(c.length:Int)))
   ((ix c a).bind λd=>
   z7j n a (Op.bytesLess d b.name) b.re c)
   (z7j n a false b.re c)
def z7j:Nat->Int->Bool->yz1->(List B8)->Ot (List B8)
 |0,_,_,_,_=>none
 |n+1,a,b,c,d=>
  pIf b
   (z48 n (IntKind.i64.wrap (a+1)) c.re d)
   (pIf (a==(d.length:Int))
     (z7b n a true c.re d)
     ((ix d a).bind λe=>
     z7b n a (!(e==c.name)) c.re d))
def z7b:Nat->Int->Bool->yz1->(List B8)->Ot (List B8)
 |0,_,_,_,_=>none
 |n+1,a,b,c,d=>
  pIf b
   ((ext d [[]]).bind λe=>
   (yrt e (IntKind.i64.wrap (a+1))).bind λj=>
   (yrt e a).bind λi=>
   (y3g e (IntKind.i64.wrap (a+1)) a).bind λg=>
   (ix g a).bind λh=>
   z4k n (g.set (Int.toNat a) c.name) c.re)
   (z4k n d c.re)
def z4k:Nat->(List B8)->yz1->Ot (List B8)
 |0,_,_=>none
 |n+1,a,b=>
  z7g n 0 a b.re
def z7g:Nat->Int->(List B8)->yz1->Ot (List B8)
 |0,_,_,_=>none
 |n+1,a,b,c=>
  pIf (decide (a<(c.args.length:Int)))
   ((ix c.args a).bind λe=>
   (zc5 n e.re b).bind λd=>
   z7g n (IntKind.i64.wrap (a+1)) d c.re)
   (some b)
end
def ynw:LSh:=⟨[(4,(.own 0))],[(.acc 9 .str true)],0,69,[]⟩
def zkf:FI dat:=FI.of dat 198 69 0 [dT 2,(.own 0)] [(.acc 9 .str true)] [(.own 0)] [(.acc 9 .str true)] false ynw (R:=List B8) Prod.fst (·,()) (λn=>u2 (zc5 n))
 (λn=>[(0,⟨⟨[(5,dI),(2,(.ptr 0 0)),(1,(.own 1))],[(.st 2),(.acc 9 .str true)],0,69,[]⟩,u3 (z48 n)⟩),(1,⟨⟨[(2,(.ptr 0 0)),(1,(.own 1)),(5,dI),(22,dB)],[(.st 2),(.acc 9 .str true)],0,69,[]⟩,u4 (z7j n)⟩),(2,⟨⟨[(2,(.ptr 0 0)),(5,dI),(1,(.own 1)),(37,dB)],[(.st 2),(.acc 9 .str true)],0,69,[]⟩,u4 (z7b n)⟩),(3,⟨⟨[(1,(.own 0)),(2,(.ptr 1 0))],[(.acc 9 .str true),(.st 2)],0,69,[]⟩,u2 (z4k n)⟩),(4,⟨⟨[(6,dI),(1,(.own 0)),(2,(.ptr 1 0))],[(.acc 9 .str true),(.st 2)],0,69,[]⟩,u3 (z7g n)⟩)]) (anb [(10,0),(14,1),(21,2),(29,3),(33,4)] f198)
def ynx:List (FI dat):=[zkf]++[]
def ync:(zkf).Good prog dat (tb ynx):=FI.z3l (hD:=zzf _) func198 ntmps198 call198 (by kernel_rfl) (Qac (by kernel_rfl)) (by kernel_rfl) (λn=>by kernel_rfl) (λx=>by kernel_rfl) (λ_=>rfl) ⟨λ_=>rfl,λ_=>rfl,λ_=>rfl,λ_=>rfl,λ_=>rfl,trivial⟩
 (λ_ _=>tr (zc5.eq_2 ..))
 (λn=>⟨λ_=>tr (z48.eq_2 ..),
  λ_=>tr (z7j.eq_2 ..),
  λ_=>tr (z7b.eq_2 ..),
  λ_=>tr (z4k.eq_2 ..),
  λ_=>tr (z7g.eq_2 ..),
  trivial⟩)
 (λx=>.inr (by kernel_rfl))
def yop:OkL prog [zkf]:=z8x (zzf _) (bs:=[]) trivial ⟨ync,trivial⟩
def yiq:FOk prog zkf:=yop.1
def zd3:Nat->yz1->Ot ((List B8)×Int)
 |0,_=>none
 |n+1,a=>
  (z1v n a.re).bind λe=>
  pIf (e != 0)
   ((z1v n a.re).bind λd=>
   some ([],d))
   ((zc5 n a.re []).bind λb=>
   some (b,0))
def yiu:LSh:=⟨[(2,dA),(3,dI)],[],0,11,[]⟩
def y1i:FI dat:=FI.of dat 166 11 0 [dT 2] [] [dA,dI] [] true yiu (R:=(List B8)×Int) (λx=>(x.1,x.2.1)) (λr=>(r.1,r.2,())) (λn=>u1 (zd3 n))
 (λn=>[]) (anb [] f166)
def ybd:FOk prog y1i:=okF (bs:=[zkf,zlj]) ⟨yiq,zo8,trivial⟩ func166 ntmps166 call166
 (λ_ _=>tr (zd3.eq_2 ..))
 (λn=>trivial)
mutual
def z9c:Nat->yz1->(List B8)->Ot Bool
 |0,_,_=>none
 |n+1,a,b=>
  (zd3 n a.re).bind λd=>
  z3t n 0 d.1 b
def z3t:Nat->Int->(List B8)->(List B8)->Ot Bool
 |0,_,_,_=>none
 |n+1,a,b,c=>
  pIf (decide (a<(b.length:Int)))
   ((ix b a).bind λe=>
   (za4 n c e).bind λd=>
   pIf (decide (d<0))
    (some false)
    (z3t n (IntKind.i64.wrap (a+1)) b c))
   (some true)
end
def yf1:LSh:=⟨[(4,dB)],[],0,26,[]⟩
def zxx:FI dat:=FI.of dat 122 26 0 [dT 2,dA] [] [dB] [] true yf1 (R:=Bool) Prod.fst (·,()) (λn=>u2 (z9c n))
 (λn=>[(0,⟨⟨[(7,dI),(5,dA),(1,dA)],[],0,26,[]⟩,u3 (z3t n)⟩)]) (anb [(8,0)] f122)
def y98:FOk prog zxx:=okF (bs:=[y1i,zl5]) ⟨ybd,zlk,trivial⟩ func122 ntmps122 call122
 (λ_ _=>tr (z9c.eq_2 ..))
 (λn=>⟨λ_=>tr (z3t.eq_2 ..),
  trivial⟩)
mutual
def zcv:Nat->zz4->Ot kz5
 |0,_=>none
 |n+1,a=>
  z5s n 0 a.re [a.when_.re]
def z5s:Nat->Int->zz4->kz5->Ot kz5
 |0,_,_,_=>none
 |n+1,a,b,c=>
  pIf (decide (a<(b.do_.length:Int)))
   ((ix b.do_ a).bind λe=>
   (ext c e.args).bind λd=>
   z66 n 0 a b.re d)
   (some c)
def z66:Nat->Int->Int->zz4->kz5->Ot kz5
 |0,_,_,_,_=>none
 |n+1,a,b,c,d=>
  (ix c.do_ b).bind λi=>
  pIf (decide (a<(i.items.length:Int)))
   ((ix c.do_ b).bind λh=>
   (ix h.items a).bind λg=>
   (ext d g.args).bind λe=>
   z66 n (IntKind.i64.wrap (a+1)) b c.re e)
   (z5s n (IntKind.i64.wrap (b+1)) c.re d)
end
def ygq:LSh:=⟨[(2,dL 2)],[],0,48,[]⟩
def y1m:FI dat:=FI.of dat 123 48 0 [dT 6] [] [dL 2] [] true ygq (R:=kz5) Prod.fst (·,()) (λn=>u1 (zcv n))
 (λn=>[(0,⟨⟨[(4,dI),(1,(.ptr 0 0)),(3,(.own 1))],[(.st 6),(.acc 42 (.st 2) true)],0,48,[]⟩,u3 (z5s n)⟩),(1,⟨⟨[(5,dI),(4,dI),(1,(.ptr 0 0)),(3,(.own 1))],[(.st 6),(.acc 42 (.st 2) true)],0,48,[]⟩,u4 (z66 n)⟩)]) (anb [(8,0),(22,1)] f123)
def ych:FOk prog y1m:=okF (bs:=[]) trivial func123 ntmps123 call123
 (λ_ _=>tr (zcv.eq_2 ..))
 (λn=>⟨λ_=>tr (z5s.eq_2 ..),
  λ_=>tr (z66.eq_2 ..),
  trivial⟩)
mutual
def zcc:Nat->zz3->Ot zdl
 |0,_=>none
 |n+1,a=>
  z6w n 0 [] a
def z6w:Nat->Int->zdl->zz3->Ot zdl
 |0,_,_,_=>none
 |n+1,a,b,c=>
  pIf (decide (a<(c.cases.length:Int)))
   (z4h n 0 a b c)
   (some b)
def z4h:Nat->Int->Int->zdl->zz3->Ot zdl
 |0,_,_,_,_=>none
 |n+1,a,b,c,d=>
  (ix d.cases b).bind λh=>
  pIf (decide (a<(h.do_.length:Int)))
   ((ix d.cases b).bind λg=>
   (ix g.do_ a).bind λe=>
   pIf (e.kind != 5)
    (z6r n b a (e.kind != 6) e d c)
    (z6r n b a false e d c))
   (z6w n (IntKind.i64.wrap (b+1)) c d)
def z6r:Nat->Int->Int->Bool->kz2->zz3->zdl->Ot zdl
 |0,_,_,_,_,_,_=>none
 |n+1,a,b,c,d,e,f=>
  pIf c
   ((zdz n d.kind).bind λg=>
   (ext f [(z3n.mk d.name (IntKind.i64.wrap ((d.args.length:Int)-g)))]).bind λh=>
   z7s n a b d h e)
   (z7s n a b d f e)
def z7s:Nat->Int->Int->kz2->zdl->zz3->Ot zdl
 |0,_,_,_,_,_=>none
 |n+1,a,b,c,d,e=>
  z79 n 0 a b c d e
def z79:Nat->Int->Int->Int->kz2->zdl->zz3->Ot zdl
 |0,_,_,_,_,_,_=>none
 |n+1,a,b,c,d,e,f=>
  pIf (decide (a<(d.items.length:Int)))
   ((ix d.items a).bind λi=>
   (ix d.items a).bind λh=>
   (ext e [(z3n.mk i.name (IntKind.i64.wrap ((h.args.length:Int)-1)))]).bind λg=>
   z79 n (IntKind.i64.wrap (a+1)) b c d g f)
   (z4h n (IntKind.i64.wrap (c+1)) b e f)
end
def yo3:LSh:=⟨[(2,dL 16)],[],0,82,[]⟩
def zvn:FI dat:=FI.of dat 72 82 0 [dT 7] [] [dL 16] [] true yo3 (R:=zdl) Prod.fst (·,()) (λn=>u1 (zcc n))
 (λn=>[(0,⟨⟨[(3,(.own 0)),(4,dI),(1,(.ptr 1 0))],[(.acc 139 (.st 16) true),(.st 7)],0,82,[]⟩,u3 (z6w n)⟩),(1,⟨⟨[(5,dI),(3,(.own 0)),(4,dI),(1,(.ptr 1 0))],[(.acc 139 (.st 16) true),(.st 7)],0,82,[]⟩,u4 (z4h n)⟩),(2,⟨⟨[(6,(.ptr 0 0)),(4,dI),(1,(.ptr 1 0)),(5,dI),(3,(.own 2)),(42,dB)],[(.st 5),(.st 7),(.acc 139 (.st 16) true)],0,82,[]⟩,u6 (z6r n)⟩),(3,⟨⟨[(6,(.ptr 0 0)),(3,(.own 1)),(4,dI),(1,(.ptr 2 0)),(5,dI)],[(.st 5),(.acc 139 (.st 16) true),(.st 7)],0,82,[]⟩,u5 (z7s n)⟩),(4,⟨⟨[(7,dI),(6,(.ptr 0 0)),(3,(.own 1)),(4,dI),(1,(.ptr 2 0)),(5,dI)],[(.st 5),(.acc 139 (.st 16) true),(.st 7)],0,82,[]⟩,u6 (z79 n)⟩)]) (anb [(8,0),(20,1),(34,2),(37,3),(40,4)] f72)
def y1t:FOk prog zvn:=okF (bs:=[zxk]) ⟨y4j,trivial⟩ func72 ntmps72 call72
 (λ_ _=>tr (zcc.eq_2 ..))
 (λn=>⟨λ_=>tr (z6w.eq_2 ..),
  λ_=>tr (z4h.eq_2 ..),
  λ_=>tr (z6r.eq_2 ..),
  λ_=>tr (z7s.eq_2 ..),
  λ_=>tr (z79.eq_2 ..),
  trivial⟩)
mutual
def zda:Nat->zz0->Ot Bool
 |0,_=>none
 |n+1,a=>
  (z8h n a).bind λb=>
  z52 n 0 b a
def z52:Nat->Int->(List B8)->zz0->Ot Bool
 |0,_,_,_=>none
 |n+1,a,b,c=>
  pIf (decide (a<(c.attrs.length:Int)))
   ((ix c.attrs a).bind λg=>
   (sub b 0 a).bind λe=>
   (z9c n g.value.re e).bind λd=>
   pIf (!d)
    (some false)
    (z52 n (IntKind.i64.wrap (a+1)) b c))
   (z38 n 0 b c)
def z38:Nat->Int->(List B8)->zz0->Ot Bool
 |0,_,_,_=>none
 |n+1,a,b,c=>
  pIf (decide (a<(c.rules.length:Int)))
   ((ix c.rules a).bind λd=>
   (ext [[115,120],[115,121],[115,122]] b).bind λg=>
   (ext g d.params).bind λe=>
   z32 n e 0 b a d c)
   (some true)
def z32:Nat->(List B8)->Int->(List B8)->Int->zz3->zz0->Ot Bool
 |0,_,_,_,_,_,_=>none
 |n+1,a,b,c,d,e,f=>
  pIf (decide (b<(e.cases.length:Int)))
   ((ix e.cases b).bind λi=>
   (zcv n i.re).bind λh=>
   z5k n 0 a h c d b e f)
   ((zcc n e).bind λg=>
   z34 n 0 g c d f)
def z5k:Nat->Int->(List B8)->kz5->(List B8)->Int->Int->zz3->zz0->Ot Bool
 |0,_,_,_,_,_,_,_,_=>none
 |n+1,a,b,c,d,e,f,g,h=>
  pIf (decide (a<(c.length:Int)))
   ((ix c a).bind λj=>
   (z9c n j.re b).bind λi=>
   pIf (!i)
    (some false)
    (z5k n (IntKind.i64.wrap (a+1)) b c d e f g h))
   (z32 n b (IntKind.i64.wrap (f+1)) d e g h)
def z34:Nat->Int->zdl->(List B8)->Int->zz0->Ot Bool
 |0,_,_,_,_,_=>none
 |n+1,a,b,c,d,e=>
  pIf (decide (a<(b.length:Int)))
   ((z64 n e).bind λh=>
   (ix b a).bind λi=>
   (za4 n h i.name).bind λg=>
   pIf (decide (g<0))
    (some false)
    (z34 n (IntKind.i64.wrap (a+1)) b c d e))
   (z38 n (IntKind.i64.wrap (d+1)) c e)
end
def yhn:LSh:=⟨[(2,dB)],[],0,94,[]⟩
def y1e:FI dat:=FI.of dat 71 94 0 [dT 8] [] [dB] [] true yhn (R:=Bool) Prod.fst (·,()) (λn=>u1 (zda n))
 (λn=>[(0,⟨⟨[(4,dI),(3,dA),(1,(.ptr 0 0))],[(.st 8)],0,94,[]⟩,u3 (z52 n)⟩),(1,⟨⟨[(1,(.ptr 0 0)),(5,dI),(3,dA)],[(.st 8)],0,94,[]⟩,u3 (z38 n)⟩),(2,⟨⟨[(7,dA),(8,dI),(6,(.ptr 0 0)),(1,(.ptr 1 0)),(3,dA),(5,dI)],[(.st 7),(.st 8)],0,94,[]⟩,u6 (z32 n)⟩),(3,⟨⟨[(10,dI),(7,dA),(9,dL 2),(6,(.ptr 0 0)),(1,(.ptr 1 0)),(3,dA),(5,dI),(8,dI)],[(.st 7),(.st 8)],0,94,[]⟩,u8 (z5k n)⟩),(4,⟨⟨[(12,dI),(11,dL 16),(1,(.ptr 0 0)),(3,dA),(5,dI)],[(.st 8)],0,94,[]⟩,u5 (z34 n)⟩)]) (anb [(8,0),(29,1),(46,2),(60,3),(83,4)] f71)
def yem:FOk prog y1e:=okF (bs:=[zru,zxx,y1m,zvn,zeo,zl5]) ⟨zy1,y98,ych,y1t,zju,zlk,trivial⟩ func71 ntmps71 call71
 (λ_ _=>tr (zda.eq_2 ..))
 (λn=>⟨λ_=>tr (z52.eq_2 ..),
  λ_=>tr (z38.eq_2 ..),
  λ_=>tr (z32.eq_2 ..),
  λ_=>tr (z5k.eq_2 ..),
  λ_=>tr (z34.eq_2 ..),
  trivial⟩)
mutual
def zcu:Nat->zz0->Ot Int
 |0,_=>none
 |n+1,a=>
  (zei n a).bind λg=>
  pIf g
   (some 4)
   ((zb3 n a).bind λe=>
   pIf (!e)
    (some 8)
    ((za9 n a).bind λd=>
    pIf d
     (some 14)
     ((zda n a).bind λb=>
     pIf (!b)
      (some 6)
      (z5o n 0 a))))
def z5o:Nat->Int->zz0->Ot Int
 |0,_,_=>none
 |n+1,a,b=>
  pIf (decide (a<(b.rules.length:Int)))
   ((ix b.rules a).bind λe=>
   (zcc n e).bind λd=>
   z5e n 0 d a b)
   (some 0)
def z5e:Nat->Int->zdl->Int->zz0->Ot Int
 |0,_,_,_,_=>none
 |n+1,a,b,c,d=>
  pIf (decide (a<(b.length:Int)))
   ((ix b a).bind λj=>
   (z64 n d).bind λh=>
   (ix b a).bind λi=>
   (za4 n h i.name).bind λg=>
   (ix d.rules g).bind λe=>
   pIf (j.many != (e.params.length:Int))
    (some 2)
    (z5e n (IntKind.i64.wrap (a+1)) b c d))
   (z5o n (IntKind.i64.wrap (c+1)) d)
end
def yj1:LSh:=⟨[(2,dI)],[],0,59,[]⟩
def y24:FI dat:=FI.of dat 30 59 0 [dT 8] [] [dI] [] true yj1 (R:=Int) Prod.fst (·,()) (λn=>u1 (zcu n))
 (λn=>[(0,⟨⟨[(1,(.ptr 0 0)),(3,dI)],[(.st 8)],0,59,[]⟩,u2 (z5o n)⟩),(1,⟨⟨[(5,dI),(4,dL 16),(1,(.ptr 0 0)),(3,dI)],[(.st 8)],0,59,[]⟩,u4 (z5e n)⟩)]) (anb [(33,0),(47,1)] f30)
def yel:FOk prog y24:=okF (bs:=[y5n,zwt,zw5,y1e,zvn,zeo,zl5]) ⟨yh8,yac,y75,yem,y1t,zju,zlk,trivial⟩ func30 ntmps30 call30
 (λ_ _=>tr (zcu.eq_2 ..))
 (λn=>⟨λ_=>tr (z5o.eq_2 ..),
  λ_=>tr (z5e.eq_2 ..),
  trivial⟩)
def z3a:Nat->zz0->Ot Bool
 |0,_=>none
 |n+1,a=>
  (zcz n a).bind λd=>
  pIf (!d)
   ((zcu n a).bind λb=>
   some (b==0))
   (some false)
def zwm:LSh:=⟨[(2,dB)],[],0,11,[]⟩
def zgb:FI dat:=FI.of dat 12 11 0 [dT 8] [] [dB] [] true zwm (R:=Bool) Prod.fst (·,()) (λn=>u1 (z3a n))
 (λn=>[]) (anb [] f12)
def zwe:FOk prog zgb:=okF (bs:=[y1q,y24]) ⟨ybx,yel,trivial⟩ func12 ntmps12 call12
 (λ_ _=>tr (z3a.eq_2 ..))
 (λn=>trivial)
def z67:Nat->(List B8)->B8->Ot Bool
 |0,_,_=>none
 |n+1,a,b=>
  (za4 n a b).bind λd=>
  some (decide (d>=0))
def y31:LSh:=⟨[(4,dB)],[],0,9,[]⟩
def zi3:FI dat:=FI.of dat 13 9 0 [dA,dS] [] [dB] [] true y31 (R:=Bool) Prod.fst (·,()) (λn=>u2 (z67 n))
 (λn=>[]) (anb [] f13)
def y0s:FOk prog zi3:=okF (bs:=[zl5]) ⟨zlk,trivial⟩ func13 ntmps13 call13
 (λ_ _=>tr (z67.eq_2 ..))
 (λn=>trivial)
mutual
def zzy:Nat->zz0->Int->B8->Ot (Res (B8×Unit) Bool)
 |0,_,_,_=>none
 |n+1,a,b,c=>
  (z6l n).bind λg=>
  y9z g (λd=>
   (z3a n a).bind λe=>
   pIf (!e)
    (kza n d c b true a)
    (pIf (decide (b<0))
      (kza n d c b true a)
      (pIf (decide (b>=(a.rules.length:Int)))
        (kza n d c b true a)
        (pIf (decide ((c.length:Int)>100))
          (kza n d c b true a)
          (kza n d c b (!d) a)))))
   (λh=>
   some (Res.pan (h.1,())))
def kza:Nat->Bool->B8->Int->Bool->zz0->Ot (Res (B8×Unit) Bool)
 |0,_,_,_,_,_=>none
 |n+1,a,b,c,d,e=>
  pIf d
   (some (Res.ok a))
   ((ix e.rules c).bind λh=>
   (z89 n e [(yzh.mk 4 h.name b (zz3.mk [] [] []) (yz1.mk 0 (zz1.mk 0 (kz4.mk 0 0) false [] []) [] []))]).bind λg=>
   (z64 n e).bind λm=>
   (z67 n m b).bind λl=>
   pIf l
    (pIf a
      (some (Res.ok (g.1==14)))
      (some (Res.ok false)))
    (pIf (g.1==0)
      ((z89 n g.2 [(yzh.mk 4 b h.name (zz3.mk [] [] []) (yz1.mk 0 (zz1.mk 0 (kz4.mk 0 0) false [] []) [] []))]).bind λj=>
      pIf (j.1 != 0)
       (kzr n g.1 a b h.name true e)
       ((z8b n j.2 e).bind λk=>
       pIf (!k)
        (kzr n g.1 a b h.name true e)
        ((z0t n g.2).bind λi=>
        kzr n g.1 a b h.name (i != 0) e)))
      (zzr n g.1 a b h.name e)))
def kzr:Nat->Int->Bool->B8->B8->Bool->zz0->Ot (Res (B8×Unit) Bool)
 |0,_,_,_,_,_,_=>none
 |n+1,a,b,c,d,e,f=>
  pIf e
   (some (Res.ok false))
   (zzr n a b c d f)
def zzr:Nat->Int->Bool->B8->B8->zz0->Ot (Res (B8×Unit) Bool)
 |0,_,_,_,_,_=>none
 |n+1,a,b,c,d,e=>
  (kzt n c [d]).bind λj=>
  (z89 n e [(yzh.mk 1 [] [] j (yz1.mk 0 (zz1.mk 0 (kz4.mk 0 0) false [] []) [] [])),(yzh.mk 2 c [] (zz3.mk [] [] []) (yz1.mk 0 (zz1.mk 0 (kz4.mk 0 0) false [] []) [] []))]).bind λg=>
  pIf b
   (pIf (a==0)
     (pIf (g.1==0)
       ((z8b n g.2 e).bind λi=>
       some (Res.ok i))
       (some (Res.ok false)))
     (pIf (a==8)
       (pIf (g.1==0)
         ((z8b n g.2 e).bind λh=>
         some (Res.ok h))
         (some (Res.ok false)))
       (some (Res.ok false))))
   (some (Res.ok false))
end
def zsd:LSh:=⟨[(6,dB)],[],0,119,[]⟩
def zcp:FI dat:=FI.ofP dat 4 119 0 [dT 8,dI,dS] [] [dB] [] (.iface 9 dS) [] [] zsd (R:=Bool) Prod.fst (·,()) (λn=>u3 (zzy n))
 (λn=>[(0,⟨⟨[(7,dB),(3,(.ptr 0 0)),(2,dS),(1,dI),(38,dB)],[(.st 8)],0,119,[]⟩,u5 (kza n)⟩),(1,⟨⟨[(3,(.ptr 0 0)),(10,dI),(7,dB),(2,dS),(8,dS),(87,dB)],[(.st 8)],0,119,[]⟩,u6 (kzr n)⟩),(2,⟨⟨[(3,(.ptr 0 0)),(10,dI),(7,dB),(2,dS),(8,dS)],[(.st 8)],0,119,[]⟩,u5 (zzr n)⟩)]) (anb [(7,0),(32,1),(38,2)] f4)
def zty:List (FI dat):=[z8f,zgb,zji,zeo,zi3,zk9,zer,zbr]
def zsw:(zcp).Good prog dat (tb zty):=FI.zm1 (hD:=zzf _) func4 ntmps4 call4 (by kernel_rfl) (Qac (by kernel_rfl)) (by kernel_rfl) (λn=>by kernel_rfl) trivial (λx=>by kernel_rfl) (λ_=>rfl) ⟨λ_=>rfl,λ_=>rfl,λ_=>rfl,trivial⟩
 (λn=>λ_=>tr (zzy.eq_2 _ _ _ n))
 (λn=>⟨λ_=>tr (kza.eq_2 _ _ _ _ _ n),
  λ_=>tr (kzr.eq_2 _ _ _ _ _ _ n),
  λ_=>tr (zzr.eq_2 _ _ _ _ _ n),
  trivial⟩)
 (λx=>by kernel_rfl)
def zu6:OkL prog [zcp]:=zuz (zzf _) (bs:=[z8f,zgb,zji,zeo,zi3,zk9,zer,zbr]) ⟨zwh,zwe,y1z,zju,y0s,y26,zka,zkn,trivial⟩ zsw
def zrl:FOk prog zcp:=zu6.1
def zrj(d:zz0)(b:Int)(a:B8):VRL dat [] 0 [dat.tv (.st 8) d,dat.tv (.int .i64) b,dat.tv .str a] [dat.el (.st 8) d,dat.el (.int .i64) b,dat.el .str a]:=by
 simp only[VRL];exact⟨_,_,rfl,VR.tv (zzf prog) (DR.el _ _),⟨_,_,rfl,VR.tv (zzf prog) (DR.el _ _),⟨_,_,rfl,VR.tv (zzf prog) (DR.el _ _),rfl⟩⟩⟩
def zn3(n:Nat)(d:zz0)(b:Int)(a:B8)(r:Bool)(h:zzy n d b a=some (Res.ok r))(H:Heap):y0n prog 4 [dat.el (.st 8) d,dat.el (.int .i64) b,dat.el .str a] H λout _=>out = .ret (.bool r):=by
 rcases zrl n _ (d,b,a,()) (λy=>some y.1) (λ_=>none) r (by show(zzy n d b a).bind (λr=>y9z r _ _)=some r;rw[h];rfl)with ⟨y,k,l⟩|⟨y,k,l⟩
 ·cases k;refine(l H.lv H.L H.E [] [dat.el (.st 8) d,dat.el (.int .i64) b,dat.el .str a] rfl (zrj d b a) (λj o p=>by cases p) ⟨λs u sl sl' i q=>(by simp at q),λs sl i q=>(by simp at q)⟩).mono λout H' m =>?_
  have⟨L',ρ',_,_,_,vs,e,g⟩:=m;replace g:VRL dat ρ' H.lv [TV.bool y.1] vs:=g;simp only[VRL,VR]at g;obtain⟨v,r,rfl,rfl,rfl⟩:=g;exact e
 ·cases k
end
end Go.Proofs.YthlmhmebajjkbaaGreatDoor
namespace Go.Proofs.Tryz
open Go Go.Ab
open Tryz
@[simp] def yp2:Program.cellsOf prog 2=1:=by kernel_rfl
@[simp] def z01m:Program.cellsOf prog 3=1:=by kernel_rfl
@[simp] def z00l:Program.cellsOf prog 4=1:=by kernel_rfl
@[simp] def zxa:Program.cellsOf prog 5=1:=by kernel_rfl
@[simp] def znu:Program.cellsOf prog 9=1:=by kernel_rfl
@[simp] def yy6:Program.cellsOf prog 22=1:=by kernel_rfl
@[simp] def yww:Program.cellsOf prog 23=1:=by kernel_rfl
@[simp] def yxh:Program.cellsOf prog 25=2:=by kernel_rfl
@[simp] def ywq:Program.cellsOf prog 31=1:=by kernel_rfl
@[simp] def ywy:Program.cellsOf prog 32=1:=by kernel_rfl
@[simp] def yjt:Program.cellsOf prog 34=3:=by kernel_rfl
@[simp] def ykd:Program.cellsOf prog 36=2:=by kernel_rfl
@[simp] def yx8:Program.cellsOf prog 37=1:=by kernel_rfl
@[simp] def y78:Program.cellsOf prog 39=6:=by kernel_rfl
@[simp] def y6n:Program.cellsOf prog 40=1:=by kernel_rfl
@[simp] def znh:Program.cellsOf prog 42=9:=by kernel_rfl
@[simp] def yy3:Program.cellsOf prog 62=1:=by kernel_rfl
@[simp] def yka:Program.cellsOf prog 64=11:=by kernel_rfl
@[simp] def yws:Program.cellsOf prog 69=1:=by kernel_rfl
@[simp] def yjn:Program.cellsOf prog 71=5:=by kernel_rfl
@[simp] def yjy:Program.cellsOf prog 83=10:=by kernel_rfl
@[simp] def yg2:Program.cellsOf prog 106=3:=by kernel_rfl
end Go.Proofs.Tryz
namespace Go.Proofs.YthlmhmebajjkbaaGreatDoor
open Go Go.Ab
def yye(m:Nat):z6l (m+300)=some (Res.ok true):=by kernel_rfl
def z01y:Ev (λn=>z6l n) (Res.ok true):=⟨300,λk a=>by
 obtain⟨m,rfl⟩:=Nat.exists_eq_add_of_le' a
 exact yye m⟩
end Go.Proofs.YthlmhmebajjkbaaGreatDoor
namespace Go.Proofs.Tryz
open Go Go.Ab
open Tryz
def z048(n:Nat):Reads prog n 36 kz4.ty:=(z9w underlying36 ykd (λm a=>(yze rfl yp2 (zgv underlying2 m) (yze rfl yp2 (zgv underlying2 m) zdn)))).conv (λx=>(⟨x.1,x.2.1⟩:kz4)) (λx=>by show kz4.el _=_;rw[kz4.yz4];simp[Ty.struct,Ty.pair,Ty.unit,Ty.int,Ty.bool,Ty.str,Ty.slice,V.cells,kz4.ty,kz4.yz4,zz1.ty,zz1.yz4,yz1.ty,yz1.yz4,yz7.ty,yz7.yz4,zz7.ty,zz7.yz4,kz2.ty,kz2.yz4,zz4.ty,zz4.yz4,zz3.ty,zz3.yz4,zz0.ty,zz0.yz4]) rfl (λx h=>by simp only[kz4.ty];rw[kz4.kzn];simp only[Ty.struct,Ty.pair,Ty.unit,Ty.int,Ty.bool,Ty.str,Ty.slice,kz4.ty,zz1.ty,yz1.ty,yz7.ty,zz7.ty,kz2.ty,zz4.ty,zz3.ty,zz0.ty]at h ⊢;simpa using h) (λx=>by simp only[Ty.struct,Ty.pair,Ty.unit,Ty.int,Ty.bool,Ty.str,Ty.slice,kz4.ty,zz1.ty,yz1.ty,yz7.ty,zz7.ty,kz2.ty,zz4.ty,zz3.ty,zz0.ty];rw[kz4.size_eq];(try dsimp only);omega)
def z04t:∀n,Reads prog n 39 zz1.ty:=λn=>by
 induction n using Nat.strongRecOn with
 |ind n a=>exact(z9w underlying39 y78 (λm b=>(yze rfl zxa (zgv underlying5 m) (yze rfl ykd (z048 m) (yze rfl z00l (yu0 underlying4 m) (yze rfl znu (zis underlying9 m) (yze rfl yx8 (za5 underlying37 y78 (by decide) (λk d=>(a k (by omega)))) zdn))))))).conv (λx=>(⟨x.1,x.2.1,x.2.2.1,x.2.2.2.1,x.2.2.2.2.1⟩:zz1)) (λx=>by show zz1.el _=_;rw[zz1.yz4];simp[Ty.struct,Ty.pair,Ty.unit,Ty.int,Ty.bool,Ty.str,Ty.slice,V.cells,kz4.ty,kz4.yz4,zz1.ty,zz1.yz4,yz1.ty,yz1.yz4,yz7.ty,yz7.yz4,zz7.ty,zz7.yz4,kz2.ty,kz2.yz4,zz4.ty,zz4.yz4,zz3.ty,zz3.yz4,zz0.ty,zz0.yz4]) rfl (λx h=>by simp only[zz1.ty];rw[zz1.kzn];simp only[Ty.struct,Ty.pair,Ty.unit,Ty.int,Ty.bool,Ty.str,Ty.slice,kz4.ty,zz1.ty,yz1.ty,yz7.ty,zz7.ty,kz2.ty,zz4.ty,zz3.ty,zz0.ty]at h ⊢;simpa using h) (λx=>by simp only[Ty.struct,Ty.pair,Ty.unit,Ty.int,Ty.bool,Ty.str,Ty.slice,kz4.ty,zz1.ty,yz1.ty,yz7.ty,zz7.ty,kz2.ty,zz4.ty,zz3.ty,zz0.ty];rw[zz1.size_eq];(try dsimp only);omega)
def yba:∀n,Reads prog n 42 yz1.ty:=λn=>by
 induction n using Nat.strongRecOn with
 |ind n a=>exact(z9w underlying42 znh (λm b=>(yze rfl zxa (zgv underlying5 m) (yze rfl y78 (z04t m) (yze rfl znu (zis underlying9 m) (yze rfl y6n (za5 underlying40 znh (by decide) (λk d=>(a k (by omega)))) zdn)))))).conv (λx=>(⟨x.1,x.2.1,x.2.2.1,x.2.2.2.1⟩:yz1)) (λx=>by show yz1.el _=_;rw[yz1.yz4];simp[Ty.struct,Ty.pair,Ty.unit,Ty.int,Ty.bool,Ty.str,Ty.slice,V.cells,kz4.ty,kz4.yz4,zz1.ty,zz1.yz4,yz1.ty,yz1.yz4,yz7.ty,yz7.yz4,zz7.ty,zz7.yz4,kz2.ty,kz2.yz4,zz4.ty,zz4.yz4,zz3.ty,zz3.yz4,zz0.ty,zz0.yz4]) rfl (λx h=>by simp only[yz1.ty];rw[yz1.kzn];simp only[Ty.struct,Ty.pair,Ty.unit,Ty.int,Ty.bool,Ty.str,Ty.slice,kz4.ty,zz1.ty,yz1.ty,yz7.ty,zz7.ty,kz2.ty,zz4.ty,zz3.ty,zz0.ty]at h ⊢;simpa using h) (λx=>by simp only[Ty.struct,Ty.pair,Ty.unit,Ty.int,Ty.bool,Ty.str,Ty.slice,kz4.ty,zz1.ty,yz1.ty,yz7.ty,zz7.ty,kz2.ty,zz4.ty,zz3.ty,zz0.ty];rw[yz1.size_eq];(try dsimp only);omega)
def z03s(n:Nat):Reads prog n 83 yz7.ty:=(z9w underlying83 yjy (λm a=>(yze rfl znu (zis underlying9 m) (yze rfl znh (yba m) zdn)))).conv (λx=>(⟨x.1,x.2.1⟩:yz7)) (λx=>by show yz7.el _=_;rw[yz7.yz4];simp[Ty.struct,Ty.pair,Ty.unit,Ty.int,Ty.bool,Ty.str,Ty.slice,V.cells,kz4.ty,kz4.yz4,zz1.ty,zz1.yz4,yz1.ty,yz1.yz4,yz7.ty,yz7.yz4,zz7.ty,zz7.yz4,kz2.ty,kz2.yz4,zz4.ty,zz4.yz4,zz3.ty,zz3.yz4,zz0.ty,zz0.yz4]) rfl (λx h=>by simp only[yz7.ty];rw[yz7.kzn];simp only[Ty.struct,Ty.pair,Ty.unit,Ty.int,Ty.bool,Ty.str,Ty.slice,kz4.ty,zz1.ty,yz1.ty,yz7.ty,zz7.ty,kz2.ty,zz4.ty,zz3.ty,zz0.ty]at h ⊢;simpa using h) (λx=>by simp only[Ty.struct,Ty.pair,Ty.unit,Ty.int,Ty.bool,Ty.str,Ty.slice,kz4.ty,zz1.ty,yz1.ty,yz7.ty,zz7.ty,kz2.ty,zz4.ty,zz3.ty,zz0.ty];rw[yz7.size_eq];(try dsimp only);omega)
def yyp(n:Nat):Reads prog n 106 zz7.ty:=(z9w underlying106 yg2 (λm a=>(yze rfl zxa (zgv underlying5 m) (yze rfl znu (zis underlying9 m) (yze rfl y6n (za5 underlying40 znh (by decide) (λk b=>(yba k))) zdn))))).conv (λx=>(⟨x.1,x.2.1,x.2.2.1⟩:zz7)) (λx=>by show zz7.el _=_;rw[zz7.yz4];simp[Ty.struct,Ty.pair,Ty.unit,Ty.int,Ty.bool,Ty.str,Ty.slice,V.cells,kz4.ty,kz4.yz4,zz1.ty,zz1.yz4,yz1.ty,yz1.yz4,yz7.ty,yz7.yz4,zz7.ty,zz7.yz4,kz2.ty,kz2.yz4,zz4.ty,zz4.yz4,zz3.ty,zz3.yz4,zz0.ty,zz0.yz4]) rfl (λx h=>by simp only[zz7.ty];rw[zz7.kzn];simp only[Ty.struct,Ty.pair,Ty.unit,Ty.int,Ty.bool,Ty.str,Ty.slice,kz4.ty,zz1.ty,yz1.ty,yz7.ty,zz7.ty,kz2.ty,zz4.ty,zz3.ty,zz0.ty]at h ⊢;simpa using h) (λx=>by simp only[Ty.struct,Ty.pair,Ty.unit,Ty.int,Ty.bool,Ty.str,Ty.slice,kz4.ty,zz1.ty,yz1.ty,yz7.ty,zz7.ty,kz2.ty,zz4.ty,zz3.ty,zz0.ty];rw[zz7.size_eq];(try dsimp only);omega)
def z044(n:Nat):Reads prog n 71 kz2.ty:=(z9w underlying71 yjn (λm b=>(yze rfl zxa (zgv underlying5 m) (yze rfl zxa (zgv underlying5 m) (yze rfl znu (zis underlying9 m) (yze rfl y6n (za5 underlying40 znh (by decide) (λk a=>(yba k))) (yze rfl yws (za5 underlying69 yg2 (by decide) (λk a=>(yyp k))) zdn))))))).conv (λx=>(⟨x.1,x.2.1,x.2.2.1,x.2.2.2.1,x.2.2.2.2.1⟩:kz2)) (λx=>by show kz2.el _=_;rw[kz2.yz4];simp[Ty.struct,Ty.pair,Ty.unit,Ty.int,Ty.bool,Ty.str,Ty.slice,V.cells,kz4.ty,kz4.yz4,zz1.ty,zz1.yz4,yz1.ty,yz1.yz4,yz7.ty,yz7.yz4,zz7.ty,zz7.yz4,kz2.ty,kz2.yz4,zz4.ty,zz4.yz4,zz3.ty,zz3.yz4,zz0.ty,zz0.yz4]) rfl (λx h=>by simp only[kz2.ty];rw[kz2.kzn];simp only[Ty.struct,Ty.pair,Ty.unit,Ty.int,Ty.bool,Ty.str,Ty.slice,kz4.ty,zz1.ty,yz1.ty,yz7.ty,zz7.ty,kz2.ty,zz4.ty,zz3.ty,zz0.ty]at h ⊢;simpa using h) (λx=>by simp only[Ty.struct,Ty.pair,Ty.unit,Ty.int,Ty.bool,Ty.str,Ty.slice,kz4.ty,zz1.ty,yz1.ty,yz7.ty,zz7.ty,kz2.ty,zz4.ty,zz3.ty,zz0.ty];rw[kz2.size_eq];(try dsimp only);omega)
def z045(n:Nat):Reads prog n 64 zz4.ty:=(z9w underlying64 yka (λm a=>(yze rfl z01m (zgv underlying3 m) (yze rfl znh (yba m) (yze rfl yy3 (za5 underlying62 yjn (by decide) (λk b=>(z044 k))) zdn))))).conv (λx=>(⟨x.1,x.2.1,x.2.2.1⟩:zz4)) (λx=>by show zz4.el _=_;rw[zz4.yz4];simp[Ty.struct,Ty.pair,Ty.unit,Ty.int,Ty.bool,Ty.str,Ty.slice,V.cells,kz4.ty,kz4.yz4,zz1.ty,zz1.yz4,yz1.ty,yz1.yz4,yz7.ty,yz7.yz4,zz7.ty,zz7.yz4,kz2.ty,kz2.yz4,zz4.ty,zz4.yz4,zz3.ty,zz3.yz4,zz0.ty,zz0.yz4]) rfl (λx h=>by simp only[zz4.ty];rw[zz4.kzn];simp only[Ty.struct,Ty.pair,Ty.unit,Ty.int,Ty.bool,Ty.str,Ty.slice,kz4.ty,zz1.ty,yz1.ty,yz7.ty,zz7.ty,kz2.ty,zz4.ty,zz3.ty,zz0.ty]at h ⊢;simpa using h) (λx=>by simp only[Ty.struct,Ty.pair,Ty.unit,Ty.int,Ty.bool,Ty.str,Ty.slice,kz4.ty,zz1.ty,yz1.ty,yz7.ty,zz7.ty,kz2.ty,zz4.ty,zz3.ty,zz0.ty];rw[zz4.size_eq];(try dsimp only);omega)
def z04v(n:Nat):Reads prog n 34 zz3.ty:=(z9w underlying34 yjt (λm b=>(yze rfl znu (zis underlying9 m) (yze rfl ywq (za5 underlying31 znu (by decide) (λk a=>(zis underlying9 k))) (yze rfl ywy (za5 underlying32 yka (by decide) (λk a=>(z045 k))) zdn))))).conv (λx=>(⟨x.1,x.2.1,x.2.2.1⟩:zz3)) (λx=>by show zz3.el _=_;rw[zz3.yz4];simp[Ty.struct,Ty.pair,Ty.unit,Ty.int,Ty.bool,Ty.str,Ty.slice,V.cells,kz4.ty,kz4.yz4,zz1.ty,zz1.yz4,yz1.ty,yz1.yz4,yz7.ty,yz7.yz4,zz7.ty,zz7.yz4,kz2.ty,kz2.yz4,zz4.ty,zz4.yz4,zz3.ty,zz3.yz4,zz0.ty,zz0.yz4]) rfl (λx h=>by simp only[zz3.ty];rw[zz3.kzn];simp only[Ty.struct,Ty.pair,Ty.unit,Ty.int,Ty.bool,Ty.str,Ty.slice,kz4.ty,zz1.ty,yz1.ty,yz7.ty,zz7.ty,kz2.ty,zz4.ty,zz3.ty,zz0.ty]at h ⊢;simpa using h) (λx=>by simp only[Ty.struct,Ty.pair,Ty.unit,Ty.int,Ty.bool,Ty.str,Ty.slice,kz4.ty,zz1.ty,yz1.ty,yz7.ty,zz7.ty,kz2.ty,zz4.ty,zz3.ty,zz0.ty];rw[zz3.size_eq];(try dsimp only);omega)
def z04e(n:Nat):Reads prog n 25 zz0.ty:=(z9w underlying25 yxh (λm b=>(yze rfl yy6 (za5 underlying22 yjy (by decide) (λk a=>(z03s k))) (yze rfl yww (za5 underlying23 yjt (by decide) (λk a=>(z04v k))) zdn)))).conv (λx=>(⟨x.1,x.2.1⟩:zz0)) (λx=>by show zz0.el _=_;rw[zz0.yz4];simp[Ty.struct,Ty.pair,Ty.unit,Ty.int,Ty.bool,Ty.str,Ty.slice,V.cells,kz4.ty,kz4.yz4,zz1.ty,zz1.yz4,yz1.ty,yz1.yz4,yz7.ty,yz7.yz4,zz7.ty,zz7.yz4,kz2.ty,kz2.yz4,zz4.ty,zz4.yz4,zz3.ty,zz3.yz4,zz0.ty,zz0.yz4]) rfl (λx h=>by simp only[zz0.ty];rw[zz0.kzn];simp only[Ty.struct,Ty.pair,Ty.unit,Ty.int,Ty.bool,Ty.str,Ty.slice,kz4.ty,zz1.ty,yz1.ty,yz7.ty,zz7.ty,kz2.ty,zz4.ty,zz3.ty,zz0.ty]at h ⊢;simpa using h) (λx=>by simp only[Ty.struct,Ty.pair,Ty.unit,Ty.int,Ty.bool,Ty.str,Ty.slice,kz4.ty,zz1.ty,yz1.ty,yz7.ty,zz7.ty,kz2.ty,zz4.ty,zz3.ty,zz0.ty];rw[zz0.size_eq];(try dsimp only);omega)
def arg25:yp6 prog 25 zz0.ty:=yuc underlying25 z04e zz0.zet
def arg9:yp6 prog 9 Ty.str:=yre (λn=>(zis underlying9 n)) (λ_=>rfl) (by rw[underlying9])
def arg3:yp6 prog 3 (Ty.int .i64):=yre (λn=>(zgv underlying3 n)) (λ_=>rfl) (by rw[underlying3])
end Go.Proofs.Tryz
