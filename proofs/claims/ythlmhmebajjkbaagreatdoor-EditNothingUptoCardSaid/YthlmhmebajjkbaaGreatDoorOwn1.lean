/-
  Go functions as Lean functions, by a program of this repo.
-/
import Derived.Test.YthlmhmebajjkbaaGreatDoorOwn0
set_option linter.defProp false
set_option linter.unusedVariables false
namespace Go.Proofs.YthlmhmebajjkbaaGreatDoor
open Go Go.Ab
open Tryz
set_option maxRecDepth 100000
set_option maxHeartbeats 4000000
noncomputable section
def z3k:Nat->B8->Ot Bool
 |0,_=>none
 |n+1,a=>
  (z2e n a).bind λd=>
  pIf d
   ((zzt n [[116,114,117,101],[102,97,108,115,101],[115,120],[115,121],[115,122]] a).bind λb=>
   some (!b))
   (some false)
def yhd:LSh:=⟨[(2,dB)],[],0,11,[]⟩
def zlz:FI dat:=FI.of dat 77 11 0 [dS] [] [dB] [] true yhd (R:=Bool) Prod.fst (·,()) (λn=>u1 (z3k n))
 (λn=>[]) (anb [] f77)
def zpn:FOk prog zlz:=okF (bs:=[zgw,zci]) ⟨zi3,zkt,trivial⟩ func77 ntmps77 call77
 (λ_ _=>tr (z3k.eq_2 ..))
 (λn=>trivial)
mutual
def z9c:Nat->yz1->Ot (Int×Int)
 |0,_=>none
 |n+1,a=>
  z44 n 0 1 1 a.args (a.args.length:Int)
def z44:Nat->Int->Int->Int->kz6->Int->Ot (Int×Int)
 |0,_,_,_,_,_=>none
 |n+1,a,b,c,d,e=>
  pIf (decide (a<e))
   ((ix d a).bind λh=>
   (z9c n h.re).bind λg=>
   z44 n (IntKind.i64.wrap (a+1)) (mxI b (IntKind.i64.wrap (g.2+1))) (IntKind.i64.wrap (c+g.1)) d e)
   (some (c,b))
end
def yd2:LSh:=⟨[(2,dI),(3,dI)],[],0,30,[]⟩
def zge:FI dat:=FI.of dat 128 30 0 [dT 2] [] [dI,dI] [] true yd2 (R:=Int×Int) (λx=>(x.1,x.2.1)) (λr=>(r.1,r.2,())) (λn=>u1 (z9c n))
 (λn=>[(0,⟨⟨[(11,dI),(3,dI),(2,dI),(9,dL 2),(10,dI)],[],0,30,[]⟩,u5 (z44 n)⟩)]) (anb [(8,0)] f128)
def yd3:List (FI dat):=[zge]++[]
def yde:(zge).Good prog dat (tb yd3):=FI.z3q (hD:=kzg _) func128 ntmps128 call128 (by kernel_rfl) (Qac (by kernel_rfl)) (by kernel_rfl) (λn=>by kernel_rfl) (λx=>by kernel_rfl) (λ_=>rfl) ⟨λ_=>rfl,trivial⟩
 (λ_ _=>tr (z9c.eq_2 ..))
 (λn=>⟨λ_=>tr (z44.eq_2 ..),
  trivial⟩)
 (λx=>.inl rfl)
def yff:OkL prog [zge]:=z8u (kzg _) (bs:=[]) trivial ⟨yde,trivial⟩
def ya3:FOk prog zge:=yff.1
mutual
def zee:Nat->Int->Ot Int
 |0,_=>none
 |n+1,a=>
  pIf (a==12)
   (z17 n 3)
   (pIf (a==3)
     (z00 n (-2) a true)
     (pIf (a==4)
       (z00 n (-2) a true)
       (pIf (a==5)
         (z00 n (-2) a true)
         (pIf (a==6)
           (z00 n (-2) a true)
           (pIf (a==7)
             (z00 n (-2) a true)
             (pIf (a==8)
               (z00 n (-2) a true)
               (pIf (a==9)
                 (z00 n (-2) a true)
                 (z00 n (-2) a (a==10)))))))))
def z00:Nat->Int->Int->Bool->Ot Int
 |0,_,_,_=>none
 |n+1,a,b,c=>
  pIf c
   (zab n)
   (pIf (b==13)
     (z7z n a b true)
     (pIf (b==14)
       (z7z n a b true)
       (z7z n a b (b==17))))
def z7z:Nat->Int->Int->Bool->Ot Int
 |0,_,_,_=>none
 |n+1,a,b,c=>
  pIf c
   (zab n)
   (pIf (b==11)
     (z6v n a b true)
     (pIf (b==15)
       (z6v n a b true)
       (z6v n a b (b==16))))
def z6v:Nat->Int->Int->Bool->Ot Int
 |0,_,_,_=>none
 |n+1,a,b,c=>
  pIf c
   (z17 n 1)
   (pIf (b==1)
     (zai n a b true)
     (zai n a b (b==2)))
def zai:Nat->Int->Int->Bool->Ot Int
 |0,_,_,_=>none
 |n+1,a,b,c=>
  pIf c
   (z17 n 0)
   (pIf (b==18)
     (z17 n (-1))
     (z17 n a))
def zab:Nat->Option Int
 |0=>none
 |n+1=>
  z17 n 2
def z17:Nat->Int->Ot Int
 |0,_=>none
 |n+1,a=>
  some a
end
def yml:LSh:=⟨[(2,dI)],[],0,30,[]⟩
def zvk:FI dat:=FI.of dat 168 30 0 [dU] [] [dI] [] true yml (R:=Int) Prod.fst (·,()) (λn=>u1 (zee n))
 (λn=>[(0,⟨⟨[(3,dI),(4,dU),(7,dB)],[],0,30,[]⟩,u3 (z00 n)⟩),(1,⟨⟨[(3,dI),(4,dU),(16,dB)],[],0,30,[]⟩,u3 (z7z n)⟩),(2,⟨⟨[(3,dI),(4,dU),(20,dB)],[],0,30,[]⟩,u3 (z6v n)⟩),(3,⟨⟨[(3,dI),(4,dU),(24,dB)],[],0,30,[]⟩,u3 (zai n)⟩),(4,⟨⟨[],[],0,30,[]⟩,λx=>zab n⟩),(5,⟨⟨[(3,dI)],[],0,30,[]⟩,u1 (z17 n)⟩)]) (anb [(57,0),(71,1),(85,2),(95,3),(107,4),(119,5)] f168)
def yiq:FOk prog zvk:=okF (bs:=[]) trivial func168 ntmps168 call168
 (λ_ _=>tr (zee.eq_2 ..))
 (λn=>⟨λ_=>tr (z00.eq_2 ..),
  λ_=>tr (z7z.eq_2 ..),
  λ_=>tr (z6v.eq_2 ..),
  λ_=>tr (zai.eq_2 ..),
  λx=>(zab.eq_2 n).trans (by kernel_rfl),
  λ_=>tr (z17.eq_2 _ n),
  trivial⟩)
mutual
def z7i:Nat->zz1->Ot (Int×Int)
 |0,_=>none
 |n+1,a=>
  pIf (a.kind==4)
   (z30 n 0 1 1 a.list (a.list.length:Int))
   (z2y n 1 1)
def z30:Nat->Int->Int->Int->z4h->Int->Ot (Int×Int)
 |0,_,_,_,_,_=>none
 |n+1,a,b,c,d,e=>
  pIf (decide (a<e))
   ((ix d a).bind λh=>
   (z7i n h.re).bind λg=>
   z30 n (IntKind.i64.wrap (a+1)) (mxI b (IntKind.i64.wrap (g.2+1))) (IntKind.i64.wrap (c+g.1)) d e)
   (z2y n b c)
def z2y:Nat->Int->Int->Ot (Int×Int)
 |0,_,_=>none
 |n+1,a,b=>
  some (b,a)
end
def yas:LSh:=⟨[(2,dI),(3,dI)],[],0,33,[]⟩
def zeb:FI dat:=FI.of dat 199 33 0 [dT 1] [] [dI,dI] [] true yas (R:=Int×Int) (λx=>(x.1,x.2.1)) (λr=>(r.1,r.2,())) (λn=>u1 (z7i n))
 (λn=>[(0,⟨⟨[(14,dI),(3,dI),(2,dI),(12,dL 1),(13,dI)],[],0,33,[]⟩,u5 (z30 n)⟩),(1,⟨⟨[(3,dI),(2,dI)],[],0,33,[]⟩,u2 (z2y n)⟩)]) (anb [(11,0),(29,1)] f199)
def yag:List (FI dat):=[zeb]++[]
def ybe:(zeb).Good prog dat (tb yag):=FI.z3q (hD:=kzg _) func199 ntmps199 call199 (by kernel_rfl) (Qac (by kernel_rfl)) (by kernel_rfl) (λn=>by kernel_rfl) (λx=>by kernel_rfl) (λ_=>rfl) ⟨λ_=>rfl,λ_=>rfl,trivial⟩
 (λ_ _=>tr (z7i.eq_2 ..))
 (λn=>⟨λ_=>tr (z30.eq_2 ..),
  λ_=>tr (z2y.eq_2 _ _ n),
  trivial⟩)
 (λx=>.inl rfl)
def y9u:OkL prog [zeb]:=z8u (kzg _) (bs:=[]) trivial ⟨ybe,trivial⟩
def y83:FOk prog zeb:=y9u.1
def zch:Nat->Int->Ot Int
 |0,_=>none
 |n+1,a=>
  pIf (decide (a<0))
   (some (IntKind.u64.wrap (0-(IntKind.u64.wrap a))))
   (some (IntKind.u64.wrap a))
def yod:LSh:=⟨[(2,(.d (.int .u64)))],[],0,10,[]⟩
def y6e:FI dat:=FI.of dat 217 10 0 [dI] [] [(.d (.int .u64))] [] true yod (R:=Int) Prod.fst (·,()) (λn=>u1 (zch n))
 (λn=>[]) (anb [] f217)
def yib:FOk prog y6e:=okF (bs:=[]) trivial func217 ntmps217 call217
 (λn=>λ_=>tr (zch.eq_2 _ n))
 (λn=>trivial)
mutual
def zgk:Nat->Int->Int->Ot Int
 |0,_,_=>none
 |n+1,a,b=>
  z9n n b a
def z9n:Nat->Int->Int->Ot Int
 |0,_,_=>none
 |n+1,a,b=>
  pIf (a != 0)
   ((rem .u64 b a).bind λd=>
   z9n n d a)
   (some b)
end
def ysc:LSh:=⟨[(4,(.d (.int .u64)))],[],0,12,[]⟩
def y95:FI dat:=FI.of dat 218 12 0 [(.d (.int .u64)),(.d (.int .u64))] [] [(.d (.int .u64))] [] true ysc (R:=Int) Prod.fst (·,()) (λn=>u2 (zgk n))
 (λn=>[(0,⟨⟨[(1,(.d (.int .u64))),(0,(.d (.int .u64)))],[],0,12,[]⟩,u2 (z9n n)⟩)]) (anb [(4,0)] f218)
def yoy:FOk prog y95:=okF (bs:=[]) trivial func218 ntmps218 call218
 (λ_ _=>tr (zgk.eq_2 ..))
 (λn=>⟨λ_=>tr (z9n.eq_2 ..),
  trivial⟩)
mutual
def zcs:Nat->yz6->Ot Int
 |0,_=>none
 |n+1,a=>
  pIf (decide (a.den<1))
   (z1k n true)
   (pIf (decide (a.den>1000000000))
     (z1k n true)
     ((zch n a.num).bind λe=>
     pIf (decide (e>1000000000))
      (z1k n true)
      ((zch n a.num).bind λd=>
      (zgk n d (IntKind.u64.wrap a.den)).bind λb=>
      z1k n (b != 1))))
def z1k:Nat->Bool->Ot Int
 |0,_=>none
 |n+1,a=>
  pIf a
   (some 8)
   (some 0)
end
def yis:LSh:=⟨[(2,dI)],[],0,27,[]⟩
def zsl:FI dat:=FI.of dat 213 27 0 [dT 0] [] [dI] [] true yis (R:=Int) Prod.fst (·,()) (λn=>u1 (zcs n))
 (λn=>[(0,⟨⟨[(26,dB)],[],0,27,[]⟩,u1 (z1k n)⟩)]) (anb [(5,0)] f213)
def ycc:FOk prog zsl:=okF (bs:=[y6e,y95]) ⟨yib,yoy,trivial⟩ func213 ntmps213 call213
 (λ_ _=>tr (zcs.eq_2 ..))
 (λn=>⟨λ_=>tr (z1k.eq_2 _ n),
  trivial⟩)
mutual
def zc4:Nat->zz1->Ot Bool
 |0,_=>none
 |n+1,a=>
  pIf (a.kind==1)
   ((zcs n a.num).bind λb=>
   pIf (b != 0)
    (some false)
    (z2m n (zz1.mk a.kind (yz6.mk 0 0) a.truth a.str a.list)))
   (pIf (a.kind==2)
     (z2m n (zz1.mk a.kind a.num false a.str a.list))
     (pIf (a.kind==3)
       (pIf (decide ((a.str.length:Int)>60))
         (some false)
         (z7k n 0 a.re (zz1.mk a.kind a.num a.truth [] a.list)))
       (pIf (a.kind==4)
         (z7n n 0 a.list (a.list.length:Int) (zz1.mk a.kind a.num a.truth a.str []))
         (some false))))
def z7k:Nat->Int->zz1->zz1->Ot Bool
 |0,_,_,_=>none
 |n+1,a,b,c=>
  pIf (decide (a<(b.str.length:Int)))
   ((ix b.str a).bind λe=>
   pIf (decide ((e.toNat:Int)<32))
    (z7e n a true b.re c.re)
    ((ix b.str a).bind λd=>
    z7e n a (decide ((d.toNat:Int)>126)) b.re c.re))
   (z2m n c.re)
def z7e:Nat->Int->Bool->zz1->zz1->Ot Bool
 |0,_,_,_,_=>none
 |n+1,a,b,c,d=>
  pIf b
   (some false)
   (z7k n (IntKind.i64.wrap (a+1)) c.re d.re)
def z7n:Nat->Int->z4h->Int->zz1->Ot Bool
 |0,_,_,_,_=>none
 |n+1,a,b,c,d=>
  pIf (decide (a<c))
   ((ix b a).bind λg=>
   (zc4 n g.re).bind λe=>
   pIf (!e)
    (some false)
    (z7n n (IntKind.i64.wrap (a+1)) b c d.re))
   (z2m n d.re)
def z2m:Nat->zz1->Ot Bool
 |0,_=>none
 |n+1,a=>
  pIf ((a.num.num==0)&&((a.num.den==0)&&true))
   (pIf (!a.truth)
     (pIf (a.str==[])
       (some ((a.list.length:Int)==0))
       (some false))
     (some false))
   (some false)
end
def ynu:LSh:=⟨[(2,dB)],[],0,81,[]⟩
def zkd:FI dat:=FI.of dat 200 81 0 [dT 1] [] [dB] [] true ynu (R:=Bool) Prod.fst (·,()) (λn=>u1 (zc4 n))
 (λn=>[(0,⟨⟨[(4,dI),(1,(.ptr 0 0)),(3,(.ptr 1 0))],[(.st 1),(.st 1)],0,81,[]⟩,u3 (z7k n)⟩),(1,⟨⟨[(1,(.ptr 0 0)),(3,(.ptr 1 0)),(4,dI),(46,dB)],[(.st 1),(.st 1)],0,81,[]⟩,u4 (z7e n)⟩),(2,⟨⟨[(53,dI),(51,dL 1),(3,(.ptr 0 0)),(52,dI)],[(.st 1)],0,81,[]⟩,u4 (z7n n)⟩),(3,⟨⟨[(3,(.ptr 0 0))],[(.st 1)],0,81,[]⟩,u1 (z2m n)⟩)]) (anb [(40,0),(51,1),(65,2),(87,3)] f200)
def yng:List (FI dat):=[zkd]++[zsl]
def yn3:(zkd).Good prog dat (tb yng):=FI.z3q (hD:=kzg _) func200 ntmps200 call200 (by kernel_rfl) (Qac (by kernel_rfl)) (by kernel_rfl) (λn=>by kernel_rfl) (λx=>by kernel_rfl) (λ_=>rfl) ⟨λ_=>rfl,λ_=>rfl,λ_=>rfl,λ_=>rfl,trivial⟩
 (λ_ _=>tr (zc4.eq_2 ..))
 (λn=>⟨λ_=>tr (z7k.eq_2 ..),
  λ_=>tr (z7e.eq_2 ..),
  λ_=>tr (z7n.eq_2 ..),
  λ_=>tr (z2m.eq_2 _ n),
  trivial⟩)
 (λx=>.inl rfl)
def ynl:OkL prog [zkd]:=z8u (kzg _) (bs:=[zsl]) ⟨ycc,trivial⟩ ⟨yn3,trivial⟩
def yj2:FOk prog zkd:=ynl.1
mutual
def zd2:Nat->zz1->Ot Int
 |0,_=>none
 |n+1,a=>
  (z7i n a.re).bind λb=>
  pIf (decide (b.1>100))
   (z5p n true a.re)
   (z5p n (decide (b.2>6)) a.re)
def z5p:Nat->Bool->zz1->Ot Int
 |0,_,_=>none
 |n+1,a,b=>
  pIf a
   (some 4)
   ((zc4 n b.re).bind λd=>
   pIf (!d)
    (some 8)
    (some 0))
end
def yhw:LSh:=⟨[(2,dI)],[],0,19,[]⟩
def zsb:FI dat:=FI.of dat 169 19 0 [dT 1] [] [dI] [] true yhw (R:=Int) Prod.fst (·,()) (λn=>u1 (zd2 n))
 (λn=>[(0,⟨⟨[(1,(.ptr 0 0)),(15,dB)],[(.st 1)],0,19,[]⟩,u2 (z5p n)⟩)]) (anb [(7,0)] f169)
def yd0:FOk prog zsb:=okF (bs:=[zeb,zkd]) ⟨y83,yj2,trivial⟩ func169 ntmps169 call169
 (λ_ _=>tr (zd2.eq_2 ..))
 (λn=>⟨λ_=>tr (z5p.eq_2 ..),
  trivial⟩)
def zeh:Nat->B8->Ot Bool
 |0,_=>none
 |n+1,a=>
  (z2e n a).bind λb=>
  pIf b
   (pIf (!(a==[116,114,117,101]))
     (some (!(a==[102,97,108,115,101])))
     (some false))
   (some false)
def yo9:LSh:=⟨[(2,dB)],[],0,13,[]⟩
def zv2:FI dat:=FI.of dat 170 13 0 [dS] [] [dB] [] true yo9 (R:=Bool) Prod.fst (·,()) (λn=>u1 (zeh n))
 (λn=>[]) (anb [] f170)
def yhs:FOk prog zv2:=okF (bs:=[zgw]) ⟨zi3,trivial⟩ func170 ntmps170 call170
 (λ_ _=>tr (zeh.eq_2 ..))
 (λn=>trivial)
mutual
def z3l:Nat->zz1->zz1->Ot Bool
 |0,_,_=>none
 |n+1,a,b=>
  pIf (a.kind != b.kind)
   (z16 n true b.re a.re)
   (pIf (!((a.num.num==b.num.num)&&((a.num.den==b.num.den)&&true)))
     (z16 n true b.re a.re)
     (pIf (!(a.truth==b.truth))
       (z16 n true b.re a.re)
       (pIf (!(a.str==b.str))
         (z16 n true b.re a.re)
         (z16 n ((a.list.length:Int) != (b.list.length:Int)) b.re a.re))))
def z16:Nat->Bool->zz1->zz1->Ot Bool
 |0,_,_,_=>none
 |n+1,a,b,c=>
  pIf a
   (some false)
   (z7c n 0 (c.list.length:Int) b.re c.re)
def z7c:Nat->Int->Int->zz1->zz1->Ot Bool
 |0,_,_,_,_=>none
 |n+1,a,b,c,d=>
  pIf (decide (a<b))
   ((ix d.list a).bind λh=>
   (ix c.list a).bind λg=>
   (z3l n h.re g.re).bind λe=>
   pIf (!e)
    (some false)
    (z7c n (IntKind.i64.wrap (a+1)) b c.re d.re))
   (some true)
end
def ymz:LSh:=⟨[(4,dB)],[],0,60,[]⟩
def zbx:FI dat:=FI.of dat 100 60 0 [dT 1,dT 1] [] [dB] [] true ymz (R:=Bool) Prod.fst (·,()) (λn=>u2 (z3l n))
 (λn=>[(0,⟨⟨[(3,(.ptr 0 0)),(2,(.ptr 1 0)),(40,dB)],[(.st 1),(.st 1)],0,60,[]⟩,u3 (z16 n)⟩),(1,⟨⟨[(44,dI),(3,(.ptr 0 0)),(2,(.ptr 1 0)),(43,dI)],[(.st 1),(.st 1)],0,60,[]⟩,u4 (z7c n)⟩)]) (anb [(5,0),(14,1)] f100)
def yo6:List (FI dat):=[zbx]++[]
def yn8:(zbx).Good prog dat (tb yo6):=FI.z3q (hD:=kzg _) func100 ntmps100 call100 (by kernel_rfl) (Qac (by kernel_rfl)) (by kernel_rfl) (λn=>by kernel_rfl) (λx=>by kernel_rfl) (λ_=>rfl) ⟨λ_=>rfl,λ_=>rfl,trivial⟩
 (λ_ _=>tr (z3l.eq_2 ..))
 (λn=>⟨λ_=>tr (z16.eq_2 ..),
  λ_=>tr (z7c.eq_2 ..),
  trivial⟩)
 (λx=>.inl rfl)
def yof:OkL prog [zbx]:=z8u (kzg _) (bs:=[]) trivial ⟨yn8,trivial⟩
def y2m:FOk prog zbx:=yof.1
mutual
def zdt:Nat->yz1->Ot Bool
 |0,_=>none
 |n+1,a=>
  (zee n a.op).bind λb=>
  pIf (b==(-2))
   (z6f n true a.re)
   (pIf (decide (b>=0))
     (z6f n ((a.args.length:Int) != b) a.re)
     (z6f n false a.re))
def z6f:Nat->Bool->yz1->Ot Bool
 |0,_,_=>none
 |n+1,a,b=>
  pIf a
   (some false)
   (pIf (b.op==1)
     ((zd2 n b.value.re).bind λh=>
     pIf (h != 0)
      (z6g n true b.re)
      (pIf (b.value.kind==4)
        (z6g n true b.re)
        (z6g n (!(b.name==[])) b.re)))
     (pIf (b.op==2)
       ((zeh n b.name).bind λg=>
       pIf (!g)
        (z9l n true b.re)
        ((z3l n b.value.re (zz1.mk 0 (yz6.mk 0 0) false [] [])).bind λe=>
        z9l n (!e) b.re))
       (pIf (!(b.name==[]))
         (z9o n true b.re)
         ((z3l n b.value.re (zz1.mk 0 (yz6.mk 0 0) false [] [])).bind λd=>
         z9o n (!d) b.re))))
def z6g:Nat->Bool->yz1->Ot Bool
 |0,_,_=>none
 |n+1,a,b=>
  pIf a
   (some false)
   (z6h n b.re)
def z9l:Nat->Bool->yz1->Ot Bool
 |0,_,_=>none
 |n+1,a,b=>
  pIf a
   (some false)
   (z6h n b.re)
def z9o:Nat->Bool->yz1->Ot Bool
 |0,_,_=>none
 |n+1,a,b=>
  pIf a
   (some false)
   (z6h n b.re)
def z6h:Nat->yz1->Ot Bool
 |0,_=>none
 |n+1,a=>
  (zzf n a.args).bind λb=>
  some (!b)
def zzf:Nat->kz6->Ot Bool
 |0,_=>none
 |n+1,a=>
  (zzj n a).bind λb=>
  some (decide (b>=0))
def zzj:Nat->kz6->Ot Int
 |0,_=>none
 |n+1,a=>
  kza n 0 a (a.length:Int)
def kza:Nat->Int->kz6->Int->Ot Int
 |0,_,_,_=>none
 |n+1,a,b,c=>
  pIf (decide (a<c))
   ((ix b a).bind λe=>
   (zd5 n e.re).bind λd=>
   pIf d
    (some a)
    (kza n (IntKind.i64.wrap (a+1)) b c))
   (some (-1))
def zd5:Nat->yz1->Ot Bool
 |0,_=>none
 |n+1,a=>
  (zdt n a.re).bind λb=>
  some (!b)
end
def ysf:LSh:=⟨[(2,dB)],[],0,66,[]⟩
def zm6:FI dat:=FI.of dat 129 66 0 [dT 2] [] [dB] [] true ysf (R:=Bool) Prod.fst (·,()) (λn=>u1 (zdt n))
 (λn=>[(0,⟨⟨[(1,(.ptr 0 0)),(19,dB)],[(.st 2)],0,66,[]⟩,u2 (z6f n)⟩),(1,⟨⟨[(1,(.ptr 0 0)),(48,dB)],[(.st 2)],0,66,[]⟩,u2 (z6g n)⟩),(2,⟨⟨[(1,(.ptr 0 0)),(61,dB)],[(.st 2)],0,66,[]⟩,u2 (z9l n)⟩),(3,⟨⟨[(1,(.ptr 0 0)),(31,dB)],[(.st 2)],0,66,[]⟩,u2 (z9o n)⟩),(4,⟨⟨[(1,(.ptr 0 0))],[(.st 2)],0,66,[]⟩,u1 (z6h n)⟩)]) (anb [(7,0),(21,1),(31,2),(38,3),(43,4)] f129)
def ze0:LSh:=⟨[(4,dB)],[],0,9,[]⟩
def z0w:FI dat:=FI.of dat 38 9 0 [dL 2,(.fn 171 [] [])] [] [dB] [] true ze0 (R:=Bool) Prod.fst (·,()) (λn=>u1 (zzf n))
 (λn=>[]) (anb [] f38)
def zfg:LSh:=⟨[(4,dI)],[],0,19,[]⟩
def z1m:FI dat:=FI.of dat 83 19 0 [dL 2,(.fn 171 [] [])] [] [dI] [] true zfg (R:=Int) Prod.fst (·,()) (λn=>u1 (zzj n))
 (λn=>[(0,⟨⟨[(8,dI),(0,dL 2),(1,(.fn 171 [] [])),(7,dI)],[],0,19,[]⟩,u3 (kza n)⟩)]) (anb [(6,0)] f83)
def yjx:LSh:=⟨[(2,dB)],[],0,6,[]⟩
def zsq:FI dat:=FI.of dat 171 6 0 [dT 2] [] [dB] [] true yjx (R:=Bool) Prod.fst (·,()) (λn=>u1 (zd5 n))
 (λn=>[]) (anb [] f171)
def zqp:List (FI dat):=[zm6,z0w,z1m,zsq]++[zvk,zsb,zv2,zbx]
def yqc:(zm6).Good prog dat (tb zqp):=FI.z3q (hD:=kzg _) func129 ntmps129 call129 (by kernel_rfl) (Qac (by kernel_rfl)) (by kernel_rfl) (λn=>by kernel_rfl) (λx=>by kernel_rfl) (λ_=>rfl) ⟨λ_=>rfl,λ_=>rfl,λ_=>rfl,λ_=>rfl,λ_=>rfl,trivial⟩
 (λ_ _=>tr (zdt.eq_2 ..))
 (λn=>⟨λ_=>tr (z6f.eq_2 ..),
  λ_=>tr (z6g.eq_2 ..),
  λ_=>tr (z9l.eq_2 ..),
  λ_=>tr (z9o.eq_2 ..),
  λ_=>tr (z6h.eq_2 ..),
  trivial⟩)
 (λx=>.inl rfl)
def zdo:(z0w).Good prog dat (tb zqp):=FI.z3q (hD:=kzg _) func38 ntmps38 call38 (by kernel_rfl) (Qac (by kernel_rfl)) (by kernel_rfl) (λn=>by kernel_rfl) (λx=>by kernel_rfl) (λ_=>rfl) trivial
 (λ_ _=>tr (zzf.eq_2 ..))
 (λn=>trivial)
 (λx=>.inl rfl)
def zfh:(z1m).Good prog dat (tb zqp):=FI.z3q (hD:=kzg _) func83 ntmps83 call83 (by kernel_rfl) (Qac (by kernel_rfl)) (by kernel_rfl) (λn=>by kernel_rfl) (λx=>by kernel_rfl) (λ_=>rfl) ⟨λ_=>rfl,trivial⟩
 (λ_ _=>tr (zzj.eq_2 ..))
 (λn=>⟨λ_=>tr (kza.eq_2 ..),
  trivial⟩)
 (λx=>.inl rfl)
def yk9:(zsq).Good prog dat (tb zqp):=FI.z3q (hD:=kzg _) func171 ntmps171 call171 (by kernel_rfl) (Qac (by kernel_rfl)) (by kernel_rfl) (λn=>by kernel_rfl) (λx=>by kernel_rfl) (λ_=>rfl) trivial
 (λ_ _=>tr (zd5.eq_2 ..))
 (λn=>trivial)
 (λx=>.inl rfl)
def yr7:OkL prog [zm6,z0w,z1m,zsq]:=z8u (kzg _) (bs:=[zvk,zsb,zv2,zbx]) ⟨yiq,yd0,yhs,y2m,trivial⟩ ⟨yqc,zdo,zfh,yk9,trivial⟩
def yoi:FOk prog zm6:=yr7.1
mutual
def z3o:Nat->yz1->Ot Int
 |0,_=>none
 |n+1,a=>
  (z9c n a.re).bind λb=>
  pIf (decide (b.1>100))
   (z6z n true a.re)
   (z6z n (decide (b.2>12)) a.re)
def z6z:Nat->Bool->yz1->Ot Int
 |0,_,_=>none
 |n+1,a,b=>
  pIf a
   (some 4)
   ((zdt n b.re).bind λd=>
   pIf (!d)
    (some 8)
    (some 0))
end
def yna:LSh:=⟨[(2,dI)],[],0,19,[]⟩
def zno:FI dat:=FI.of dat 78 19 0 [dT 2] [] [dI] [] true yna (R:=Int) Prod.fst (·,()) (λn=>u1 (z3o n))
 (λn=>[(0,⟨⟨[(1,(.ptr 0 0)),(15,dB)],[(.st 2)],0,19,[]⟩,u2 (z6z n)⟩)]) (anb [(7,0)] f78)
def zs6:FOk prog zno:=okF (bs:=[zge,zm6]) ⟨ya3,yoi,trivial⟩ func78 ntmps78 call78
 (λ_ _=>tr (z3o.eq_2 ..))
 (λn=>⟨λ_=>tr (z6z.eq_2 ..),
  trivial⟩)
def z8x:Nat->B8->Ot Bool
 |0,_=>none
 |n+1,a=>
  (z3k n a).bind λb=>
  some (!b)
def y7n:LSh:=⟨[(2,dB)],[],0,6,[]⟩
def zth:FI dat:=FI.of dat 79 6 0 [dS] [] [dB] [] true y7n (R:=Bool) Prod.fst (·,()) (λn=>u1 (z8x n))
 (λn=>[]) (anb [] f79)
def y4i:FOk prog zth:=okF (bs:=[zlz]) ⟨zpn,trivial⟩ func79 ntmps79 call79
 (λ_ _=>tr (z8x.eq_2 ..))
 (λn=>trivial)
mutual
def zzv:Nat->(List B8)->Ot Int
 |0,_=>none
 |n+1,a=>
  zzm n 0 a (a.length:Int)
def zzm:Nat->Int->(List B8)->Int->Ot Int
 |0,_,_,_=>none
 |n+1,a,b,c=>
  pIf (decide (a<c))
   ((ix b a).bind λe=>
   (z8x n e).bind λd=>
   pIf d
    (some a)
    (zzm n (IntKind.i64.wrap (a+1)) b c))
   (some (-1))
end
def zid:LSh:=⟨[(4,dI)],[],0,19,[]⟩
def za9:FI dat:=FI.of dat 95 19 0 [dA,(.fn 79 [] [])] [] [dI] [] true zid (R:=Int) Prod.fst (·,()) (λn=>u1 (zzv n))
 (λn=>[(0,⟨⟨[(8,dI),(0,dA),(1,(.fn 79 [] [])),(7,dI)],[],0,19,[]⟩,u3 (zzm n)⟩)]) (anb [(6,0)] f95)
def zhg:FOk prog za9:=okF (bs:=[zth]) ⟨y4i,trivial⟩ func95 ntmps95 call95
 (λ_ _=>tr (zzv.eq_2 ..))
 (λn=>⟨λ_=>tr (zzm.eq_2 ..),
  trivial⟩)
def kzl:Nat->(List B8)->Ot Bool
 |0,_=>none
 |n+1,a=>
  (zzv n a).bind λb=>
  some (decide (b>=0))
def zfs:LSh:=⟨[(4,dB)],[],0,9,[]⟩
def z8l:FI dat:=FI.of dat 47 9 0 [dA,(.fn 79 [] [])] [] [dB] [] true zfs (R:=Bool) Prod.fst (·,()) (λn=>u1 (kzl n))
 (λn=>[]) (anb [] f47)
def zfi:FOk prog z8l:=okF (bs:=[za9]) ⟨zhg,trivial⟩ func47 ntmps47 call47
 (λ_ _=>tr (kzl.eq_2 ..))
 (λn=>trivial)
def za8:Nat->kz6->Ot yz1
 |0,_=>none
 |n+1,a=>
  some (yz1.mk 18 (zz1.mk 0 (yz6.mk 0 0) false [] []) [] a)
def yn7:LSh:=⟨[(2,(.ptr 0 0))],[(.st 2)],0,5,[]⟩
def zvj:FI dat:=FI.of dat 99 5 0 [dL 2] [] [dT 2] [] true yn7 (R:=yz1) Prod.fst (·,()) (λn=>u1 (za8 n))
 (λn=>[]) (anb [] f99)
def y1o:FOk prog zvj:=okF (bs:=[]) trivial func99 ntmps99 call99
 (λn=>λ_=>tr (za8.eq_2 _ n))
 (λn=>trivial)
mutual
def zbl:Nat->Int->Ot Int
 |0,_=>none
 |n+1,a=>
  pIf (a==2)
   (z9j n a true)
   (z9j n a (a==3))
def z9j:Nat->Int->Bool->Ot Int
 |0,_,_=>none
 |n+1,a,b=>
  pIf b
   (some 3)
   (pIf (a==4)
     (z95 n true)
     (z95 n (a==6)))
def z95:Nat->Bool->Ot Int
 |0,_=>none
 |n+1,a=>
  pIf a
   (some 1)
   (some 0)
end
def ysr:LSh:=⟨[(2,dI)],[],0,10,[]⟩
def zyg:FI dat:=FI.of dat 84 10 0 [dU] [] [dI] [] true ysr (R:=Int) Prod.fst (·,()) (λn=>u1 (zbl n))
 (λn=>[(0,⟨⟨[(3,dU),(4,dB)],[],0,10,[]⟩,u2 (z9j n)⟩),(1,⟨⟨[(7,dB)],[],0,10,[]⟩,u1 (z95 n)⟩)]) (anb [(12,0),(22,1)] f84)
def y4e:FOk prog zyg:=okF (bs:=[]) trivial func84 ntmps84 call84
 (λ_ _=>tr (zbl.eq_2 ..))
 (λn=>⟨λ_=>tr (z9j.eq_2 ..),
  λ_=>tr (z95.eq_2 _ n),
  trivial⟩)
mutual
def z6d:Nat->zz3->Ot Bool
 |0,_=>none
 |n+1,a=>
  pIf (decide (a.kind>=1))
   (z0v n (decide (a.kind<=4)) a)
   (z0v n false a)
def z0v:Nat->Bool->zz3->Ot Bool
 |0,_,_=>none
 |n+1,a,b=>
  pIf (b.kind==4)
   (z0u n a 0 true b)
   (z0u n a 0 (b.kind==5) b)
def z0u:Nat->Bool->Int->Bool->zz3->Ot Bool
 |0,_,_,_,_=>none
 |n+1,a,b,c,d=>
  pIf c
   (z0p n a 2 d)
   (z0p n a b d)
def z0p:Nat->Bool->Int->zz3->Ot Bool
 |0,_,_,_=>none
 |n+1,a,b,c=>
  pIf (decide (c.kind<1))
   (z06 n a true c)
   (pIf (decide (c.kind>6))
     (z06 n a true c)
     (z06 n a (decide (c.axis>b)) c))
def z06:Nat->Bool->Bool->zz3->Ot Bool
 |0,_,_,_=>none
 |n+1,a,b,c=>
  pIf b
   (some false)
   ((z3k n c.name).bind λd=>
   pIf (!(a==d))
    (z03 n a true c)
    (pIf (!a)
      (z03 n a (!(c.name==[])) c)
      (z03 n a false c)))
def z03:Nat->Bool->Bool->zz3->Ot Bool
 |0,_,_,_=>none
 |n+1,a,b,c=>
  pIf b
   (some false)
   ((za8 n c.args).bind λh=>
   (z3o n h.re).bind λg=>
   pIf (g != 0)
    (zzw n true c)
    ((zbl n c.kind).bind λe=>
    pIf (decide ((c.args.length:Int)<e))
     (zzw n true c)
     (pIf (!a)
       ((zbl n c.kind).bind λd=>
       zzw n ((c.args.length:Int) != d) c)
       (zzw n false c))))
def zzw:Nat->Bool->zz3->Ot Bool
 |0,_,_=>none
 |n+1,a,b=>
  pIf a
   (some false)
   (pIf (!((b.kind==5)==(decide ((b.items.length:Int)>0))))
     (some false)
     (z04 n 0 b.items (b.items.length:Int)))
def z04:Nat->Int->zf0->Int->Ot Bool
 |0,_,_,_=>none
 |n+1,a,b,c=>
  pIf (decide (a<c))
   ((ix b a).bind λd=>
   pIf (decide (d.kind<1))
    (kzr n b c a true)
    (pIf (decide (d.kind>3))
      (kzr n b c a true)
      ((z3k n d.name).bind λh=>
      pIf (!h)
       (kzr n b c a true)
       (pIf ((d.args.length:Int)==0)
         (kzr n b c a true)
         ((za8 n d.args).bind λg=>
         (z3o n g.re).bind λe=>
         kzr n b c a (e != 0))))))
   (some true)
def kzr:Nat->zf0->Int->Int->Bool->Ot Bool
 |0,_,_,_,_=>none
 |n+1,a,b,c,d=>
  pIf d
   (some false)
   (z04 n (IntKind.i64.wrap (c+1)) a b)
end
def y3z:LSh:=⟨[(2,dB)],[],0,125,[]⟩
def zo3:FI dat:=FI.of dat 80 125 0 [dT 5] [] [dB] [] true y3z (R:=Bool) Prod.fst (·,()) (λn=>u1 (z6d n))
 (λn=>[(0,⟨⟨[(1,(.ptr 0 0)),(3,dB)],[(.st 5)],0,125,[]⟩,u2 (z0v n)⟩),(1,⟨⟨[(1,(.ptr 0 0)),(3,dB),(4,dU),(22,dB)],[(.st 5)],0,125,[]⟩,u4 (z0u n)⟩),(2,⟨⟨[(1,(.ptr 0 0)),(3,dB),(4,dU)],[(.st 5)],0,125,[]⟩,u3 (z0p n)⟩),(3,⟨⟨[(1,(.ptr 0 0)),(3,dB),(23,dB)],[(.st 5)],0,125,[]⟩,u3 (z06 n)⟩),(4,⟨⟨[(1,(.ptr 0 0)),(3,dB),(38,dB)],[(.st 5)],0,125,[]⟩,u3 (z03 n)⟩),(5,⟨⟨[(1,(.ptr 0 0)),(53,dB)],[(.st 5)],0,125,[]⟩,u2 (zzw n)⟩),(6,⟨⟨[(93,dI),(91,dL 4),(92,dI)],[],0,125,[]⟩,u3 (z04 n)⟩),(7,⟨⟨[(91,dL 4),(92,dI),(93,dI),(123,dB)],[],0,125,[]⟩,u4 (kzr n)⟩)]) (anb [(4,0),(9,1),(12,2),(16,3),(22,4),(28,5),(43,6),(56,7)] f80)
def y0q:FOk prog zo3:=okF (bs:=[zlz,zvj,zno,zyg]) ⟨zpn,y1o,zs6,y4e,trivial⟩ func80 ntmps80 call80
 (λ_ _=>tr (z6d.eq_2 ..))
 (λn=>⟨λ_=>tr (z0v.eq_2 ..),
  λ_=>tr (z0u.eq_2 ..),
  λ_=>tr (z0p.eq_2 ..),
  λ_=>tr (z06.eq_2 ..),
  λ_=>tr (z03.eq_2 ..),
  λ_=>tr (zzw.eq_2 ..),
  λ_=>tr (z04.eq_2 ..),
  λ_=>tr (kzr.eq_2 ..),
  trivial⟩)
mutual
def zb9:Nat->zz0->Ot Bool
 |0,_=>none
 |n+1,a=>
  z1y n 0 a.attrs (a.attrs.length:Int) a
def z1y:Nat->Int->zz7->Int->zz0->Ot Bool
 |0,_,_,_,_=>none
 |n+1,a,b,c,d=>
  pIf (decide (a<c))
   ((ix b a).bind λe=>
   (z3k n e.name).bind λh=>
   pIf (!h)
    (z48 n b c a true d)
    ((z3o n e.value.re).bind λg=>
    z48 n b c a (g != 0) d))
   (z1q n 0 d.rules (d.rules.length:Int))
def z48:Nat->zz7->Int->Int->Bool->zz0->Ot Bool
 |0,_,_,_,_,_=>none
 |n+1,a,b,c,d,e=>
  pIf d
   (some false)
   (z1y n (IntKind.i64.wrap (c+1)) a b e)
def z1q:Nat->Int->zz5->Int->Ot Bool
 |0,_,_,_=>none
 |n+1,a,b,c=>
  pIf (decide (a<c))
   ((ix b a).bind λd=>
   (z3k n d.name).bind λg=>
   pIf (!g)
    (z3t n b c a true d)
    ((kzl n d.params).bind λe=>
    z3t n b c a e d))
   (some true)
def z3t:Nat->zz5->Int->Int->Bool->kz3->Ot Bool
 |0,_,_,_,_,_=>none
 |n+1,a,b,c,d,e=>
  pIf d
   (some false)
   (z1v n 0 e.cases a b c (e.cases.length:Int))
def z1v:Nat->Int->z0q->zz5->Int->Int->Int->Ot Bool
 |0,_,_,_,_,_,_=>none
 |n+1,a,b,c,d,e,f=>
  pIf (decide (a<f))
   ((ix b a).bind λg=>
   pIf (decide (g.weight<1))
    (z2b n b c d e f a true g.re)
    (pIf (decide (g.weight>1000000))
      (z2b n b c d e f a true g.re)
      ((z3o n g.when_.re).bind λh=>
      z2b n b c d e f a (h != 0) g.re)))
   (z1q n (IntKind.i64.wrap (e+1)) c d)
def z2b:Nat->z0q->zz5->Int->Int->Int->Int->Bool->yz5->Ot Bool
 |0,_,_,_,_,_,_,_,_=>none
 |n+1,a,b,c,d,e,f,g,h=>
  pIf g
   (some false)
   (z1s n 0 h.do_ a b c d e f (h.do_.length:Int))
def z1s:Nat->Int->z02->z0q->zz5->Int->Int->Int->Int->Int->Ot Bool
 |0,_,_,_,_,_,_,_,_,_=>none
 |n+1,a,b,c,d,e,f,g,h,i=>
  pIf (decide (a<i))
   ((ix b a).bind λk=>
   (z6d n k).bind λj=>
   pIf (!j)
    (some false)
    (z1s n (IntKind.i64.wrap (a+1)) b c d e f g h i))
   (z1v n (IntKind.i64.wrap (h+1)) c d e f g)
end
def yfz:LSh:=⟨[(2,dB)],[],0,79,[]⟩
def zyb:FI dat:=FI.of dat 35 79 0 [dT 8] [] [dB] [] true yfz (R:=Bool) Prod.fst (·,()) (λn=>u1 (zb9 n))
 (λn=>[(0,⟨⟨[(14,dI),(12,dL 3),(1,(.ptr 0 0)),(13,dI)],[(.st 8)],0,79,[]⟩,u4 (z1y n)⟩),(1,⟨⟨[(12,dL 3),(1,(.ptr 0 0)),(13,dI),(14,dI),(27,dB)],[(.st 8)],0,79,[]⟩,u5 (z48 n)⟩),(2,⟨⟨[(32,dI),(30,dL 7),(31,dI)],[],0,79,[]⟩,u3 (z1q n)⟩),(3,⟨⟨[(30,dL 7),(31,dI),(32,dI),(6,(.ptr 0 0)),(44,dB)],[(.st 7)],0,79,[]⟩,u5 (z3t n)⟩),(4,⟨⟨[(48,dI),(46,dL 6),(30,dL 7),(31,dI),(32,dI),(47,dI)],[],0,79,[]⟩,u6 (z1v n)⟩),(5,⟨⟨[(46,dL 6),(30,dL 7),(31,dI),(32,dI),(47,dI),(48,dI),(8,(.ptr 0 0)),(65,dB)],[(.st 6)],0,79,[]⟩,u8 (z2b n)⟩),(6,⟨⟨[(69,dI),(67,dL 5),(46,dL 6),(30,dL 7),(31,dI),(32,dI),(47,dI),(48,dI),(68,dI)],[],0,79,[]⟩,u9 (z1s n)⟩)]) (anb [(6,0),(19,1),(29,2),(43,3),(51,4),(65,5),(73,6)] f35)
def yb7:FOk prog zyb:=okF (bs:=[zlz,zno,z8l,zo3]) ⟨zpn,zs6,zfi,y0q,trivial⟩ func35 ntmps35 call35
 (λ_ _=>tr (zb9.eq_2 ..))
 (λn=>⟨λ_=>tr (z1y.eq_2 ..),
  λ_=>tr (z48.eq_2 ..),
  λ_=>tr (z1q.eq_2 ..),
  λ_=>tr (z3t.eq_2 ..),
  λ_=>tr (z1v.eq_2 ..),
  λ_=>tr (z2b.eq_2 ..),
  λ_=>tr (z1s.eq_2 ..),
  trivial⟩)
mutual
def yzt:Nat->B8->(List B8)->Ot (Int×(List B8))
 |0,_,_=>none
 |n+1,a,b=>
  kzk n 0 a (b.length:Int) b
def kzk:Nat->Int->B8->Int->(List B8)->Ot (Int×(List B8))
 |0,_,_,_,_=>none
 |n+1,a,b,c,d=>
  pIf (decide (a<c))
   ((ix d a).bind λe=>
   pIf (b==e)
    (some (a,d))
    (kzk n (IntKind.i64.wrap (a+1)) b c d))
   (some ((-1),d))
end
def zkx:LSh:=⟨[(4,dI)],[(.acc 9 .str true)],1,19,[]⟩
def zcj:FI dat:=FI.of dat 37 19 1 [(.own 0),dS] [(.acc 9 .str true)] [dI] [(.acc 9 .str true)] false zkx (R:=Int×(List B8)) (λx=>(x.1,x.2.1)) (λr=>(r.1,r.2,())) (λn=>u2 (yzt n))
 (λn=>[(0,⟨⟨[(8,dI),(0,(.own 0)),(1,dS),(7,dI)],[(.acc 9 .str true)],1,19,[]⟩,u4 (kzk n)⟩)]) (anb [(6,0)] f37)
def zkg:FOk prog zcj:=okF (bs:=[]) trivial func37 ntmps37 call37
 (λ_ _=>tr (yzt.eq_2 ..))
 (λn=>⟨λ_=>tr (kzk.eq_2 ..),
  trivial⟩)
def kzp:Nat->B8->(List B8)->Ot (Bool×(List B8))
 |0,_,_=>none
 |n+1,a,b=>
  (yzt n a b).bind λd=>
  some ((decide (d.1>=0)),d.2)
def zj5:LSh:=⟨[(4,dB)],[(.acc 9 .str true)],1,9,[]⟩
def z3y:FI dat:=FI.of dat 127 9 1 [(.own 0),dS] [(.acc 9 .str true)] [dB] [(.acc 9 .str true)] false zj5 (R:=Bool×(List B8)) (λx=>(x.1,x.2.1)) (λr=>(r.1,r.2,())) (λn=>u2 (kzp n))
 (λn=>[]) (anb [] f127)
def zi9:FOk prog z3y:=okF (bs:=[zcj]) ⟨zkg,trivial⟩ func127 ntmps127 call127
 (λ_ _=>tr (kzp.eq_2 ..))
 (λn=>trivial)
mutual
def zc3:Nat->yz1->(List B8)->Ot (List B8)
 |0,_,_=>none
 |n+1,a,b=>
  pIf (a.op==2)
   ((kzp n a.name b).bind λd=>
   zae n (!d.1) d.2 a.re)
   (zae n false b a.re)
def zae:Nat->Bool->(List B8)->yz1->Ot (List B8)
 |0,_,_,_=>none
 |n+1,a,b,c=>
  pIf a
   ((ext b [c.name]).bind λd=>
   z7h n d c.re)
   (z7h n b c.re)
def z7h:Nat->(List B8)->yz1->Ot (List B8)
 |0,_,_=>none
 |n+1,a,b=>
  z7u n 0 b.args (b.args.length:Int) a
def z7u:Nat->Int->kz6->Int->(List B8)->Ot (List B8)
 |0,_,_,_,_=>none
 |n+1,a,b,c,d=>
  pIf (decide (a<c))
   ((ix b a).bind λg=>
   (zc3 n g.re d).bind λe=>
   z7u n (IntKind.i64.wrap (a+1)) b c e)
   (some d)
end
def yoh:LSh:=⟨[],[(.cells [(.own 1)]),(.acc 9 .str true)],1,38,[]⟩
def zk0:FI dat:=FI.of dat 130 38 1 [dT 2,(.ptr 0 0)] [(.cells [(.own 1)]),(.acc 9 .str true)] [] [(.cells [(.own 1)]),(.acc 9 .str true)] false yoh (R:=List B8) Prod.fst (·,()) (λn=>u2 (zc3 n))
 (λn=>[(0,⟨⟨[(1,(.ptr 0 0)),(2,(.ptr 2 0)),(17,dB)],[(.cells [(.own 1)]),(.acc 9 .str true),(.st 2)],1,38,[]⟩,u3 (zae n)⟩),(1,⟨⟨[(1,(.ptr 0 0)),(2,(.ptr 2 0))],[(.cells [(.own 1)]),(.acc 9 .str true),(.st 2)],1,38,[]⟩,u2 (z7h n)⟩),(2,⟨⟨[(30,dI),(1,(.ptr 0 0)),(28,dL 2),(29,dI)],[(.cells [(.own 1)]),(.acc 9 .str true)],1,38,[]⟩,u4 (z7u n)⟩)]) (anb [(5,0),(8,1),(11,2)] f130)
def yny:List (FI dat):=[zk0]++[z3y]
def yln:(zk0).Good prog dat (tb yny):=FI.z3q (hD:=kzg _) func130 ntmps130 call130 (by kernel_rfl) (Qac (by kernel_rfl)) (by kernel_rfl) (λn=>by kernel_rfl) (λx=>by kernel_rfl) (λ_=>rfl) ⟨λ_=>rfl,λ_=>rfl,λ_=>rfl,trivial⟩
 (λ_ _=>tr (zc3.eq_2 ..))
 (λn=>⟨λ_=>tr (zae.eq_2 ..),
  λ_=>tr (z7h.eq_2 ..),
  λ_=>tr (z7u.eq_2 ..),
  trivial⟩)
 (λx=>.inr (by kernel_rfl))
def ynp:OkL prog [zk0]:=z8u (kzg _) (bs:=[z3y]) ⟨zi9,trivial⟩ ⟨yln,trivial⟩
def yij:FOk prog zk0:=ynp.1
def zc0:Nat->yz1->Ot ((List B8)×Int)
 |0,_=>none
 |n+1,a=>
  (z3o n a.re).bind λb=>
  pIf (b != 0)
   (some ([],b))
   ((zc3 n a.re []).bind λe=>
   (zzp n e).bind λd=>
   some (d,0))
def yns:LSh:=⟨[(2,dA),(3,dI)],[],0,16,[]⟩
def zw3:FI dat:=FI.of dat 81 16 0 [dT 2] [] [dA,dI] [] true yns (R:=(List B8)×Int) (λx=>(x.1,x.2.1)) (λr=>(r.1,r.2,())) (λn=>u1 (zc0 n))
 (λn=>[]) (anb [] f81)
def y1g:FOk prog zw3:=okF (bs:=[zk0,z4w,zno]) ⟨yij,zec,zs6,trivial⟩ func81 ntmps81 call81
 (λ_ _=>tr (zc0.eq_2 ..))
 (λn=>trivial)
def zbb:Nat->B8->(List B8)->(List Bool)->Ot (Bool×(List B8)×(List Bool))
 |0,_,_,_=>none
 |n+1,a,b,c=>
  some ((!(Option.getD (z2u (List.zip b c) a) false)),(mks (List.zip b c)),(mvs (List.zip b c)))
def yec:LSh:=⟨[(3,dB)],[(.cells [(.map 1)]),(.mp 86 .bool)],2,8,[]⟩
def zxv:FI dat:=FI.of dat 82 8 2 [dS,(.ptr 0 0)] [(.cells [(.map 1)]),(.mp 86 .bool)] [dB] [(.cells [(.map 1)]),(.mp 86 .bool)] false yec (R:=Bool×(List B8)×(List Bool)) (λx=>(x.1,x.2.1,x.2.2.1)) (λr=>(r.1,r.2.1,r.2.2,())) (λn=>u3 (zbb n))
 (λn=>[]) (anb [] f82)
def yao:FOk prog zxv:=okF (bs:=[]) trivial func82 ntmps82 call82
 (λn=>λ_=>tr (zbb.eq_2 _ _ _ n))
 (λn=>trivial)
mutual
def kzu:Nat->(List B8)->(List B8)->(List Bool)->Ot (Int×(List B8)×(List Bool))
 |0,_,_,_=>none
 |n+1,a,b,c=>
  zze n 0 a (a.length:Int) (mks (List.zip b c)) (mvs (List.zip b c))
def zze:Nat->Int->(List B8)->Int->(List B8)->(List Bool)->Ot (Int×(List B8)×(List Bool))
 |0,_,_,_,_,_=>none
 |n+1,a,b,c,d,e=>
  pIf (decide (a<c))
   ((ix b a).bind λh=>
   (zbb n h (mks (List.zip d e)) (mvs (List.zip d e))).bind λg=>
   pIf g.1
    (some (a,(mks (List.zip g.2.1 g.2.2)),(mvs (List.zip g.2.1 g.2.2))))
    (zze n (IntKind.i64.wrap (a+1)) b c (mks (List.zip g.2.1 g.2.2)) (mvs (List.zip g.2.1 g.2.2))))
   (some ((-1),(mks (List.zip d e)),(mvs (List.zip d e))))
end
def zi2:LSh:=⟨[(4,dI)],[(.cells [(.map 1)]),(.mp 86 .bool)],2,19,[]⟩
def za7:FI dat:=FI.of dat 95 19 2 [dA,(.fn 82 [] [(.ptr 0 0)])] [(.cells [(.map 1)]),(.mp 86 .bool)] [dI] [(.cells [(.map 1)]),(.mp 86 .bool)] false zi2 (R:=Int×(List B8)×(List Bool)) (λx=>(x.1,x.2.1,x.2.2.1)) (λr=>(r.1,r.2.1,r.2.2,())) (λn=>u3 (kzu n))
 (λn=>[(0,⟨⟨[(8,dI),(0,dA),(1,(.fn 82 [] [(.ptr 0 0)])),(7,dI)],[(.cells [(.map 1)]),(.mp 86 .bool)],2,19,[]⟩,u5 (zze n)⟩)]) (anb [(6,0)] f95)
def zhv:FOk prog za7:=okF (bs:=[zxv]) ⟨yao,trivial⟩ func95 ntmps95 call95
 (λ_ _=>tr (kzu.eq_2 ..))
 (λn=>⟨λ_=>tr (zze.eq_2 ..),
  trivial⟩)
def yzl:Nat->(List B8)->(List B8)->(List Bool)->Ot (Bool×(List B8)×(List Bool))
 |0,_,_,_=>none
 |n+1,a,b,c=>
  (kzu n a (mks (List.zip b c)) (mvs (List.zip b c))).bind λd=>
  some ((decide (d.1>=0)),(mks (List.zip d.2.1 d.2.2)),(mvs (List.zip d.2.1 d.2.2)))
def zfy:LSh:=⟨[(4,dB)],[(.cells [(.map 1)]),(.mp 86 .bool)],2,9,[]⟩
def z8i:FI dat:=FI.of dat 47 9 2 [dA,(.fn 82 [] [(.ptr 0 0)])] [(.cells [(.map 1)]),(.mp 86 .bool)] [dB] [(.cells [(.map 1)]),(.mp 86 .bool)] false zfy (R:=Bool×(List B8)×(List Bool)) (λx=>(x.1,x.2.1,x.2.2.1)) (λr=>(r.1,r.2.1,r.2.2,())) (λn=>u3 (yzl n))
 (λn=>[]) (anb [] f47)
def zfq:FOk prog z8i:=okF (bs:=[za7]) ⟨zhv,trivial⟩ func47 ntmps47 call47
 (λ_ _=>tr (yzl.eq_2 ..))
 (λn=>trivial)
def zc1:Nat->yz1->(List B8)->(List Bool)->Ot (Bool×(List B8)×(List Bool))
 |0,_,_,_=>none
 |n+1,a,b,c=>
  (zc0 n a.re).bind λe=>
  (yzl n e.1 (mks (List.zip b c)) (mvs (List.zip b c))).bind λd=>
  some (d.1,(mks (List.zip d.2.1 d.2.2)),(mvs (List.zip d.2.1 d.2.2)))
def yol:LSh:=⟨[(4,dB)],[(.mp 86 .bool)],1,15,[]⟩
def zw0:FI dat:=FI.of dat 36 15 1 [dT 2,(.map 0)] [(.mp 86 .bool)] [dB] [(.mp 86 .bool)] false yol (R:=Bool×(List B8)×(List Bool)) (λx=>(x.1,x.2.1,x.2.2.1)) (λr=>(r.1,r.2.1,r.2.2,())) (λn=>u3 (zc1 n))
 (λn=>[]) (anb [] f36)
def y29:FOk prog zw0:=okF (bs:=[z8i,zw3]) ⟨zfq,y1g,trivial⟩ func36 ntmps36 call36
 (λ_ _=>tr (zc1.eq_2 ..))
 (λn=>trivial)
mutual
def zcy:Nat->kz3->Ot kz6
 |0,_=>none
 |n+1,a=>
  z5n n 0 a.cases (a.cases.length:Int) []
def z5n:Nat->Int->z0q->Int->kz6->Ot kz6
 |0,_,_,_,_=>none
 |n+1,a,b,c,d=>
  pIf (decide (a<c))
   ((ix b a).bind λe=>
   (ext d [e.when_.re]).bind λg=>
   z67 n 0 e.do_ b c a (e.do_.length:Int) g)
   (some d)
def z67:Nat->Int->z02->z0q->Int->Int->Int->kz6->Ot kz6
 |0,_,_,_,_,_,_,_=>none
 |n+1,a,b,c,d,e,f,g=>
  pIf (decide (a<f))
   ((ix b a).bind λh=>
   (ext g h.args).bind λi=>
   z5o n 0 h.items b c d e f a (h.items.length:Int) i)
   (z5n n (IntKind.i64.wrap (e+1)) c d g)
def z5o:Nat->Int->zf0->z02->z0q->Int->Int->Int->Int->Int->kz6->Ot kz6
 |0,_,_,_,_,_,_,_,_,_,_=>none
 |n+1,a,b,c,d,e,f,g,h,i,j=>
  pIf (decide (a<i))
   ((ix b a).bind λl=>
   (ext j l.args).bind λk=>
   z5o n (IntKind.i64.wrap (a+1)) b c d e f g h i k)
   (z67 n (IntKind.i64.wrap (h+1)) c d e f g j)
end
def yiv:LSh:=⟨[(2,dL 2)],[],0,48,[]⟩
def y1f:FI dat:=FI.of dat 39 48 0 [dT 7] [] [dL 2] [] true yiv (R:=kz6) Prod.fst (·,()) (λn=>u1 (zcy n))
 (λn=>[(0,⟨⟨[(13,dI),(3,(.own 0)),(11,dL 6),(12,dI)],[(.acc 42 (.st 2) true)],0,48,[]⟩,u4 (z5n n)⟩),(1,⟨⟨[(25,dI),(3,(.own 0)),(23,dL 5),(11,dL 6),(12,dI),(13,dI),(24,dI)],[(.acc 42 (.st 2) true)],0,48,[]⟩,u7 (z67 n)⟩),(2,⟨⟨[(36,dI),(3,(.own 0)),(34,dL 4),(23,dL 5),(11,dL 6),(12,dI),(13,dI),(24,dI),(25,dI),(35,dI)],[(.acc 42 (.st 2) true)],0,48,[]⟩,u10 (z5o n)⟩)]) (anb [(8,0),(24,1),(40,2)] f39)
def yfy:FOk prog y1f:=okF (bs:=[]) trivial func39 ntmps39 call39
 (λ_ _=>tr (zcy.eq_2 ..))
 (λn=>⟨λ_=>tr (z5n.eq_2 ..),
  λ_=>tr (z67.eq_2 ..),
  λ_=>tr (z5o.eq_2 ..),
  trivial⟩)
def zah:Nat->yz1->(List B8)->(List Bool)->Ot (Bool×(List B8)×(List Bool))
 |0,_,_,_=>none
 |n+1,a,b,c=>
  (zc1 n a.re (mks (List.zip b c)) (mvs (List.zip b c))).bind λd=>
  some (d.1,(mks (List.zip d.2.1 d.2.2)),(mvs (List.zip d.2.1 d.2.2)))
def yad:LSh:=⟨[(3,dB)],[(.cells [(.map 1)]),(.mp 86 .bool)],2,7,[]⟩
def zwb:FI dat:=FI.of dat 40 7 2 [dT 2,(.ptr 0 0)] [(.cells [(.map 1)]),(.mp 86 .bool)] [dB] [(.cells [(.map 1)]),(.mp 86 .bool)] false yad (R:=Bool×(List B8)×(List Bool)) (λx=>(x.1,x.2.1,x.2.2.1)) (λr=>(r.1,r.2.1,r.2.2,())) (λn=>u3 (zah n))
 (λn=>[]) (anb [] f40)
def y84:FOk prog zwb:=okF (bs:=[zw0]) ⟨y29,trivial⟩ func40 ntmps40 call40
 (λ_ _=>tr (zah.eq_2 ..))
 (λn=>trivial)
mutual
def zzu:Nat->kz6->(List B8)->(List Bool)->Ot (Int×(List B8)×(List Bool))
 |0,_,_,_=>none
 |n+1,a,b,c=>
  kzc n 0 a (a.length:Int) (mks (List.zip b c)) (mvs (List.zip b c))
def kzc:Nat->Int->kz6->Int->(List B8)->(List Bool)->Ot (Int×(List B8)×(List Bool))
 |0,_,_,_,_,_=>none
 |n+1,a,b,c,d,e=>
  pIf (decide (a<c))
   ((ix b a).bind λh=>
   (zah n h.re (mks (List.zip d e)) (mvs (List.zip d e))).bind λg=>
   pIf g.1
    (some (a,(mks (List.zip g.2.1 g.2.2)),(mvs (List.zip g.2.1 g.2.2))))
    (kzc n (IntKind.i64.wrap (a+1)) b c (mks (List.zip g.2.1 g.2.2)) (mvs (List.zip g.2.1 g.2.2))))
   (some ((-1),(mks (List.zip d e)),(mvs (List.zip d e))))
end
def zhe:LSh:=⟨[(4,dI)],[(.cells [(.map 1)]),(.mp 86 .bool)],2,19,[]⟩
def z9r:FI dat:=FI.of dat 83 19 2 [dL 2,(.fn 40 [] [(.ptr 0 0)])] [(.cells [(.map 1)]),(.mp 86 .bool)] [dI] [(.cells [(.map 1)]),(.mp 86 .bool)] false zhe (R:=Int×(List B8)×(List Bool)) (λx=>(x.1,x.2.1,x.2.2.1)) (λr=>(r.1,r.2.1,r.2.2,())) (λn=>u3 (zzu n))
 (λn=>[(0,⟨⟨[(8,dI),(0,dL 2),(1,(.fn 40 [] [(.ptr 0 0)])),(7,dI)],[(.cells [(.map 1)]),(.mp 86 .bool)],2,19,[]⟩,u5 (kzc n)⟩)]) (anb [(6,0)] f83)
def zgy:FOk prog z9r:=okF (bs:=[zwb]) ⟨y84,trivial⟩ func83 ntmps83 call83
 (λ_ _=>tr (zzu.eq_2 ..))
 (λn=>⟨λ_=>tr (kzc.eq_2 ..),
  trivial⟩)
def kzi:Nat->kz6->(List B8)->(List Bool)->Ot (Bool×(List B8)×(List Bool))
 |0,_,_,_=>none
 |n+1,a,b,c=>
  (zzu n a (mks (List.zip b c)) (mvs (List.zip b c))).bind λd=>
  some ((decide (d.1>=0)),(mks (List.zip d.2.1 d.2.2)),(mvs (List.zip d.2.1 d.2.2)))
def zfk:LSh:=⟨[(4,dB)],[(.cells [(.map 1)]),(.mp 86 .bool)],2,9,[]⟩
def z82:FI dat:=FI.of dat 38 9 2 [dL 2,(.fn 40 [] [(.ptr 0 0)])] [(.cells [(.map 1)]),(.mp 86 .bool)] [dB] [(.cells [(.map 1)]),(.mp 86 .bool)] false zfk (R:=Bool×(List B8)×(List Bool)) (λx=>(x.1,x.2.1,x.2.2.1)) (λr=>(r.1,r.2.1,r.2.2,())) (λn=>u3 (kzi n))
 (λn=>[]) (anb [] f38)
def zet:FOk prog z82:=okF (bs:=[z9r]) ⟨zgy,trivial⟩ func38 ntmps38 call38
 (λ_ _=>tr (kzi.eq_2 ..))
 (λn=>trivial)
mutual
def zau:Nat->kz3->Ot z9v
 |0,_=>none
 |n+1,a=>
  z6a n 0 a.cases (a.cases.length:Int) []
def z6a:Nat->Int->z0q->Int->z9v->Ot z9v
 |0,_,_,_,_=>none
 |n+1,a,b,c,d=>
  pIf (decide (a<c))
   ((ix b a).bind λe=>
   z34 n 0 e.do_ b c a (e.do_.length:Int) d)
   (some d)
def z34:Nat->Int->z02->z0q->Int->Int->Int->z9v->Ot z9v
 |0,_,_,_,_,_,_,_=>none
 |n+1,a,b,c,d,e,f,g=>
  pIf (decide (a<f))
   ((ix b a).bind λh=>
   pIf (!(h.name==[]))
    ((zbl n h.kind).bind λi=>
    (ext g [(z09.mk h.name (IntKind.i64.wrap ((h.args.length:Int)-i)))]).bind λj=>
    z58 n b c d e f a j h)
    (z58 n b c d e f a g h))
   (z6a n (IntKind.i64.wrap (e+1)) c d g)
def z58:Nat->z02->z0q->Int->Int->Int->Int->z9v->zz3->Ot z9v
 |0,_,_,_,_,_,_,_,_=>none
 |n+1,a,b,c,d,e,f,g,h=>
  z5s n 0 h.items a b c d e f (h.items.length:Int) g
def z5s:Nat->Int->zf0->z02->z0q->Int->Int->Int->Int->Int->z9v->Ot z9v
 |0,_,_,_,_,_,_,_,_,_,_=>none
 |n+1,a,b,c,d,e,f,g,h,i,j=>
  pIf (decide (a<i))
   ((ix b a).bind λk=>
   (ext j [(z09.mk k.name (IntKind.i64.wrap ((k.args.length:Int)-1)))]).bind λl=>
   z5s n (IntKind.i64.wrap (a+1)) b c d e f g h i l)
   (z34 n (IntKind.i64.wrap (h+1)) c d e f g j)
end
def yjz:LSh:=⟨[(2,dL 11)],[],0,61,[]⟩
def zsj:FI dat:=FI.of dat 41 61 0 [dT 7] [] [dL 11] [] true yjz (R:=z9v) Prod.fst (·,()) (λn=>u1 (zau n))
 (λn=>[(0,⟨⟨[(3,(.own 0)),(13,dI),(11,dL 6),(12,dI)],[(.acc 96 (.st 11) true)],0,61,[]⟩,u4 (z6a n)⟩),(1,⟨⟨[(20,dI),(3,(.own 0)),(18,dL 5),(11,dL 6),(12,dI),(13,dI),(19,dI)],[(.acc 96 (.st 11) true)],0,61,[]⟩,u7 (z34 n)⟩),(2,⟨⟨[(3,(.own 0)),(18,dL 5),(11,dL 6),(12,dI),(13,dI),(19,dI),(20,dI),(7,(.ptr 1 0))],[(.acc 96 (.st 11) true),(.st 5)],0,61,[]⟩,u8 (z58 n)⟩),(3,⟨⟨[(43,dI),(3,(.own 0)),(41,dL 4),(18,dL 5),(11,dL 6),(12,dI),(13,dI),(19,dI),(20,dI),(42,dI)],[(.acc 96 (.st 11) true)],0,61,[]⟩,u10 (z5s n)⟩)]) (anb [(8,0),(22,1),(39,2),(42,3)] f41)
def zxg:FOk prog zsj:=okF (bs:=[zyg]) ⟨y4e,trivial⟩ func41 ntmps41 call41
 (λ_ _=>tr (zau.eq_2 ..))
 (λn=>⟨λ_=>tr (z6a.eq_2 ..),
  λ_=>tr (z34.eq_2 ..),
  λ_=>tr (z58.eq_2 ..),
  λ_=>tr (z5s.eq_2 ..),
  trivial⟩)
mutual
def z3h:Nat->zz0->Ot Int
 |0,_=>none
 |n+1,a=>
  (zei n a).bind λd=>
  pIf d
   (some 4)
   ((zb9 n a).bind λb=>
   pIf (!b)
    (some 8)
    (z5z n 0 false a.attrs (a.attrs.length:Int) [] [] [] [] a))
def z5z:Nat->Int->Bool->zz7->Int->(List B8)->(List Bool)->(List B8)->(List Int)->zz0->Ot Int
 |0,_,_,_,_,_,_,_,_,_=>none
 |n+1,a,b,c,d,e,f,g,h,i=>
  pIf (decide (a<d))
   ((ix c a).bind λk=>
   pIf b
    (z65 n true c d a (mks (List.zip e f)) (mvs (List.zip e f)) (mks (List.zip g h)) (mvs (List.zip g h)) i k.re)
    ((zc1 n k.value.re (mks (List.zip e f)) (mvs (List.zip e f))).bind λj=>
    z65 n j.1 c d a (mks (List.zip j.2.1 j.2.2)) (mvs (List.zip j.2.1 j.2.2)) (mks (List.zip g h)) (mvs (List.zip g h)) i k.re))
   (z5m n 0 i.rules b (i.rules.length:Int) (mks (List.zip e f)) (mvs (List.zip e f)) (mks (List.zip g h)) (mvs (List.zip g h)) i)
def z65:Nat->Bool->zz7->Int->Int->(List B8)->(List Bool)->(List B8)->(List Int)->zz0->zz9->Ot Int
 |0,_,_,_,_,_,_,_,_,_,_=>none
 |n+1,a,b,c,d,e,f,g,h,i,j=>
  pIf (Option.getD (z2u (List.zip e f) j.name) false)
   (some 14)
   (z5z n (IntKind.i64.wrap (d+1)) a b c (mks (z6n (List.zip e f) j.name true)) (mvs (z6n (List.zip e f) j.name true)) (mks (List.zip g h)) (mvs (List.zip g h)) i)
def z5m:Nat->Int->zz5->Bool->Int->(List B8)->(List Bool)->(List B8)->(List Int)->zz0->Ot Int
 |0,_,_,_,_,_,_,_,_,_=>none
 |n+1,a,b,c,d,e,f,g,h,i=>
  pIf (decide (a<d))
   ((ix b a).bind λj=>
   pIf (Option.isSome (z2u (List.zip g h) j.name))
    (some 14)
    (z57 n 0 j.params b c d a (j.params.length:Int) j (mks (List.zip e f)) (mvs (List.zip e f)) (mks (z6n (List.zip g h) j.name a)) (mvs (z6n (List.zip g h) j.name a)) i))
   (z36 n false 0 c (mks (List.zip e f)) (mvs (List.zip e f)) i.rules (i.rules.length:Int) i (mks (List.zip g h)) (mvs (List.zip g h)))
def z57:Nat->Int->(List B8)->zz5->Bool->Int->Int->Int->kz3->(List B8)->(List Bool)->(List B8)->(List Int)->zz0->Ot Int
 |0,_,_,_,_,_,_,_,_,_,_,_,_,_=>none
 |n+1,a,b,c,d,e,f,g,h,i,j,k,l,m=>
  pIf (decide (a<g))
   ((ix b a).bind λo=>
   pIf (Option.getD (z2u (List.zip i j) o) false)
    (z5e n b c d e f g a true h (mks (List.zip i j)) (mvs (List.zip i j)) (mks (List.zip k l)) (mvs (List.zip k l)) m)
    ((yzs n h.params o).bind λp=>
    z5e n b c d e f g a (decide (p<a)) h (mks (List.zip i j)) (mvs (List.zip i j)) (mks (List.zip k l)) (mvs (List.zip k l)) m))
   (z5m n (IntKind.i64.wrap (f+1)) c d e (mks (List.zip i j)) (mvs (List.zip i j)) (mks (List.zip k l)) (mvs (List.zip k l)) m)
def z5e:Nat->(List B8)->zz5->Bool->Int->Int->Int->Int->Bool->kz3->(List B8)->(List Bool)->(List B8)->(List Int)->zz0->Ot Int
 |0,_,_,_,_,_,_,_,_,_,_,_,_,_,_=>none
 |n+1,a,b,c,d,e,f,g,h,i,j,k,l,m,o=>
  pIf h
   (some 14)
   (z57 n (IntKind.i64.wrap (g+1)) a b c d e f i (mks (List.zip j k)) (mvs (List.zip j k)) (mks (List.zip l m)) (mvs (List.zip l m)) o)
def z36:Nat->Bool->Int->Bool->(List B8)->(List Bool)->zz5->Int->zz0->(List B8)->(List Int)->Ot Int
 |0,_,_,_,_,_,_,_,_,_,_=>none
 |n+1,a,b,c,d,e,f,g,h,i,j=>
  pIf (decide (b<g))
   ((ix f b).bind λk=>
   z68 n a (mks (List.zip d e)) (mvs (List.zip d e)) f g b c (mks (List.zip d e)) (mvs (List.zip d e)) h (mks (List.zip i j)) (mvs (List.zip i j)) k (mks (z6n (z6n (z6n [] [115,120] true) [115,121] true) [115,122] true)) (mvs (z6n (z6n (z6n [] [115,120] true) [115,121] true) [115,122] true)))
   (pIf c
     (some 6)
     (pIf a
       (some 2)
       (some 0)))
def z68:Nat->Bool->(List B8)->(List Bool)->zz5->Int->Int->Bool->(List B8)->(List Bool)->zz0->(List B8)->(List Int)->kz3->(List B8)->(List Bool)->Ot Int
 |0,_,_,_,_,_,_,_,_,_,_,_,_,_,_,_=>none
 |n+1,a,b,c,d,e,f,g,h,i,j,k,l,m,o,p=>
  y8j (List.zip h i) (λr s q=>
   z68 n a (mks (List.zip b c)) (mvs (List.zip b c)) d e f g (mks q) (mvs q) j (mks (List.zip k l)) (mvs (List.zip k l)) m (mks (z6n (List.zip o p) r true)) (mvs (z6n (List.zip o p) r true)))
   (z39 n 0 m.params a (mks (List.zip b c)) (mvs (List.zip b c)) d e f g (m.params.length:Int) j (mks (List.zip k l)) (mvs (List.zip k l)) m (mks (List.zip o p)) (mvs (List.zip o p)))
def z39:Nat->Int->(List B8)->Bool->(List B8)->(List Bool)->zz5->Int->Int->Bool->Int->zz0->(List B8)->(List Int)->kz3->(List B8)->(List Bool)->Ot Int
 |0,_,_,_,_,_,_,_,_,_,_,_,_,_,_,_,_=>none
 |n+1,a,b,c,d,e,f,g,h,i,j,k,l,m,o,p,q=>
  pIf (decide (a<j))
   ((ix b a).bind λr=>
   z39 n (IntKind.i64.wrap (a+1)) b c (mks (List.zip d e)) (mvs (List.zip d e)) f g h i j k (mks (List.zip l m)) (mvs (List.zip l m)) o (mks (z6n (List.zip p q) r true)) (mvs (z6n (List.zip p q) r true)))
   (pIf i
     (z5y n c true (mks (List.zip d e)) (mvs (List.zip d e)) f g h k (mks (List.zip l m)) (mvs (List.zip l m)) o)
     ((zcy n o).bind λu=>
     (kzi n u (mks (List.zip p q)) (mvs (List.zip p q))).bind λs=>
     z5y n c s.1 (mks (List.zip d e)) (mvs (List.zip d e)) f g h k (mks (List.zip l m)) (mvs (List.zip l m)) o))
def z5y:Nat->Bool->Bool->(List B8)->(List Bool)->zz5->Int->Int->zz0->(List B8)->(List Int)->kz3->Ot Int
 |0,_,_,_,_,_,_,_,_,_,_,_=>none
 |n+1,a,b,c,d,e,f,g,h,i,j,k=>
  (zau n k).bind λl=>
  z66 n 0 a b l (mks (List.zip c d)) (mvs (List.zip c d)) e f g (l.length:Int) h (mks (List.zip i j)) (mvs (List.zip i j))
def z66:Nat->Int->Bool->Bool->z9v->(List B8)->(List Bool)->zz5->Int->Int->Int->zz0->(List B8)->(List Int)->Ot Int
 |0,_,_,_,_,_,_,_,_,_,_,_,_,_=>none
 |n+1,a,b,c,d,e,f,g,h,i,j,k,l,m=>
  pIf (decide (a<j))
   ((ix d a).bind λo=>
   pIf c
    (z3v n true d (mks (List.zip e f)) (mvs (List.zip e f)) g h i j a (Option.getD (z2u (List.zip l m) o.name) 0) (Option.isSome (z2u (List.zip l m) o.name)) b k (mks (List.zip l m)) (mvs (List.zip l m)) o)
    (z3v n (!(Option.isSome (z2u (List.zip l m) o.name))) d (mks (List.zip e f)) (mvs (List.zip e f)) g h i j a (Option.getD (z2u (List.zip l m) o.name) 0) (Option.isSome (z2u (List.zip l m) o.name)) b k (mks (List.zip l m)) (mvs (List.zip l m)) o))
   (z36 n b (IntKind.i64.wrap (i+1)) c (mks (List.zip e f)) (mvs (List.zip e f)) g h k (mks (List.zip l m)) (mvs (List.zip l m)))
def z3v:Nat->Bool->z9v->(List B8)->(List Bool)->zz5->Int->Int->Int->Int->Int->Bool->Bool->zz0->(List B8)->(List Int)->z09->Ot Int
 |0,_,_,_,_,_,_,_,_,_,_,_,_,_,_,_,_=>none
 |n+1,a,b,c,d,e,f,g,h,i,j,k,l,m,o,p,q=>
  pIf l
   (z1r n true a b (mks (List.zip c d)) (mvs (List.zip c d)) e f g h i m (mks (List.zip o p)) (mvs (List.zip o p)))
   (pIf k
     ((ix m.rules j).bind λr=>
     z1r n (q.many != (r.params.length:Int)) a b (mks (List.zip c d)) (mvs (List.zip c d)) e f g h i m (mks (List.zip o p)) (mvs (List.zip o p)))
     (z1r n false a b (mks (List.zip c d)) (mvs (List.zip c d)) e f g h i m (mks (List.zip o p)) (mvs (List.zip o p))))
def z1r:Nat->Bool->Bool->z9v->(List B8)->(List Bool)->zz5->Int->Int->Int->Int->zz0->(List B8)->(List Int)->Ot Int
 |0,_,_,_,_,_,_,_,_,_,_,_,_,_=>none
 |n+1,a,b,c,d,e,f,g,h,i,j,k,l,m=>
  z66 n (IntKind.i64.wrap (j+1)) a b c (mks (List.zip d e)) (mvs (List.zip d e)) f g h i k (mks (List.zip l m)) (mvs (List.zip l m))
end
def yka:LSh:=⟨[(2,dI)],[],0,170,[]⟩
def zls:FI dat:=FI.of dat 16 170 0 [dT 8] [] [dI] [] true yka (R:=Int) Prod.fst (·,()) (λn=>u1 (z3h n))
 (λn=>[(0,⟨⟨[(35,dI),(3,(.map 0)),(5,dB),(33,dL 3),(4,(.map 1)),(1,(.ptr 2 0)),(34,dI)],[(.mp 86 .bool),(.mp 87 (.int .i64)),(.st 8)],0,170,[]⟩,u9 (z5z n)⟩),(1,⟨⟨[(3,(.map 0)),(5,dB),(33,dL 3),(4,(.map 1)),(1,(.ptr 2 0)),(34,dI),(35,dI),(7,(.ptr 3 0))],[(.mp 86 .bool),(.mp 87 (.int .i64)),(.st 8),(.st 3)],0,170,[]⟩,u10 (z65 n)⟩),(2,⟨⟨[(3,(.map 0)),(57,dI),(4,(.map 1)),(55,dL 7),(1,(.ptr 2 0)),(5,dB),(56,dI)],[(.mp 86 .bool),(.mp 87 (.int .i64)),(.st 8)],0,170,[]⟩,u9 (z5m n)⟩),(3,⟨⟨[(77,dI),(9,(.ptr 0 0)),(3,(.map 1)),(75,dA),(4,(.map 2)),(55,dL 7),(1,(.ptr 3 0)),(5,dB),(56,dI),(57,dI),(76,dI)],[(.st 7),(.mp 86 .bool),(.mp 87 (.int .i64)),(.st 8)],0,170,[]⟩,λx=>z57 n x.1 x.2.1 x.2.2.1 x.2.2.2.1 x.2.2.2.2.1 x.2.2.2.2.2.1 x.2.2.2.2.2.2.1 x.2.2.2.2.2.2.2.1 x.2.2.2.2.2.2.2.2.1 x.2.2.2.2.2.2.2.2.2.1 x.2.2.2.2.2.2.2.2.2.2.1 x.2.2.2.2.2.2.2.2.2.2.2.1 x.2.2.2.2.2.2.2.2.2.2.2.2.1⟩),(4,⟨⟨[(9,(.ptr 0 0)),(3,(.map 1)),(75,dA),(4,(.map 2)),(55,dL 7),(1,(.ptr 3 0)),(5,dB),(56,dI),(57,dI),(76,dI),(77,dI),(92,dB)],[(.st 7),(.mp 86 .bool),(.mp 87 (.int .i64)),(.st 8)],0,170,[]⟩,λx=>z5e n x.1 x.2.1 x.2.2.1 x.2.2.2.1 x.2.2.2.2.1 x.2.2.2.2.2.1 x.2.2.2.2.2.2.1 x.2.2.2.2.2.2.2.1 x.2.2.2.2.2.2.2.2.1 x.2.2.2.2.2.2.2.2.2.1 x.2.2.2.2.2.2.2.2.2.2.1 x.2.2.2.2.2.2.2.2.2.2.2.1 x.2.2.2.2.2.2.2.2.2.2.2.2.1 x.2.2.2.2.2.2.2.2.2.2.2.2.2.1⟩),(5,⟨⟨[(1,(.ptr 0 0)),(14,dB),(4,(.map 1)),(98,dI),(5,dB),(3,(.mc .bool)),(96,dL 7),(97,dI)],[(.st 8),(.mp 87 (.int .i64))],0,170,[]⟩,u10 (z36 n)⟩),(6,⟨⟨[(17,(.ptr 0 0)),(105,(.ptr 1 0)),(1,(.ptr 2 0)),(14,dB),(4,(.map 3)),(3,(.mc .bool)),(96,dL 7),(97,dI),(98,dI),(16,(.ptr 4 0)),(5,dB)],[(.cells [(.map 5)]),(.mit .bool),(.st 8),(.mp 87 (.int .i64)),(.st 7),(.mp 86 .bool)],0,170,[]⟩,λx=>z68 n x.1 x.2.1 x.2.2.1 x.2.2.2.1 x.2.2.2.2.1 x.2.2.2.2.2.1 x.2.2.2.2.2.2.1 x.2.2.2.2.2.2.2.1 x.2.2.2.2.2.2.2.2.1 x.2.2.2.2.2.2.2.2.2.1 x.2.2.2.2.2.2.2.2.2.2.1 x.2.2.2.2.2.2.2.2.2.2.2.1 x.2.2.2.2.2.2.2.2.2.2.2.2.1 x.2.2.2.2.2.2.2.2.2.2.2.2.2.1 x.2.2.2.2.2.2.2.2.2.2.2.2.2.2.1⟩),(7,⟨⟨[(115,dI),(17,(.ptr 0 0)),(113,dA),(1,(.ptr 1 0)),(14,dB),(4,(.map 2)),(3,(.mc .bool)),(96,dL 7),(97,dI),(98,dI),(16,(.ptr 3 0)),(5,dB),(114,dI)],[(.cells [(.map 4)]),(.st 8),(.mp 87 (.int .i64)),(.st 7),(.mp 86 .bool)],0,170,[]⟩,λx=>z39 n x.1 x.2.1 x.2.2.1 x.2.2.2.1 x.2.2.2.2.1 x.2.2.2.2.2.1 x.2.2.2.2.2.2.1 x.2.2.2.2.2.2.2.1 x.2.2.2.2.2.2.2.2.1 x.2.2.2.2.2.2.2.2.2.1 x.2.2.2.2.2.2.2.2.2.2.1 x.2.2.2.2.2.2.2.2.2.2.2.1 x.2.2.2.2.2.2.2.2.2.2.2.2.1 x.2.2.2.2.2.2.2.2.2.2.2.2.2.1 x.2.2.2.2.2.2.2.2.2.2.2.2.2.2.1 x.2.2.2.2.2.2.2.2.2.2.2.2.2.2.2.1⟩),(8,⟨⟨[(1,(.ptr 0 0)),(14,dB),(5,dB),(4,(.map 1)),(3,(.mc .bool)),(96,dL 7),(97,dI),(98,dI),(16,(.ptr 2 0))],[(.st 8),(.mp 87 (.int .i64)),(.st 7)],0,170,[]⟩,u11 (z5y n)⟩),(9,⟨⟨[(132,dI),(1,(.ptr 0 0)),(14,dB),(5,dB),(4,(.map 1)),(130,dL 11),(3,(.mc .bool)),(96,dL 7),(97,dI),(98,dI),(131,dI)],[(.st 8),(.mp 87 (.int .i64))],0,170,[]⟩,λx=>z66 n x.1 x.2.1 x.2.2.1 x.2.2.2.1 x.2.2.2.2.1 x.2.2.2.2.2.1 x.2.2.2.2.2.2.1 x.2.2.2.2.2.2.2.1 x.2.2.2.2.2.2.2.2.1 x.2.2.2.2.2.2.2.2.2.1 x.2.2.2.2.2.2.2.2.2.2.1 x.2.2.2.2.2.2.2.2.2.2.2.1 x.2.2.2.2.2.2.2.2.2.2.2.2.1⟩),(10,⟨⟨[(1,(.ptr 0 0)),(5,dB),(4,(.map 1)),(130,dL 11),(3,(.mc .bool)),(96,dL 7),(97,dI),(98,dI),(131,dI),(132,dI),(23,dI),(22,(.ptr 2 0)),(24,dB),(14,dB)],[(.st 8),(.mp 87 (.int .i64)),(.st 11)],0,170,[]⟩,λx=>z3v n x.1 x.2.1 x.2.2.1 x.2.2.2.1 x.2.2.2.2.1 x.2.2.2.2.2.1 x.2.2.2.2.2.2.1 x.2.2.2.2.2.2.2.1 x.2.2.2.2.2.2.2.2.1 x.2.2.2.2.2.2.2.2.2.1 x.2.2.2.2.2.2.2.2.2.2.1 x.2.2.2.2.2.2.2.2.2.2.2.1 x.2.2.2.2.2.2.2.2.2.2.2.2.1 x.2.2.2.2.2.2.2.2.2.2.2.2.2.1 x.2.2.2.2.2.2.2.2.2.2.2.2.2.2.1 x.2.2.2.2.2.2.2.2.2.2.2.2.2.2.2.1⟩),(11,⟨⟨[(1,(.ptr 0 0)),(14,dB),(5,dB),(4,(.map 1)),(130,dL 11),(3,(.mc .bool)),(96,dL 7),(97,dI),(98,dI),(131,dI),(132,dI)],[(.st 8),(.mp 87 (.int .i64))],0,170,[]⟩,λx=>z1r n x.1 x.2.1 x.2.2.1 x.2.2.2.1 x.2.2.2.2.1 x.2.2.2.2.2.1 x.2.2.2.2.2.2.1 x.2.2.2.2.2.2.2.1 x.2.2.2.2.2.2.2.2.1 x.2.2.2.2.2.2.2.2.2.1 x.2.2.2.2.2.2.2.2.2.2.1 x.2.2.2.2.2.2.2.2.2.2.2.1 x.2.2.2.2.2.2.2.2.2.2.2.2.1⟩)]) (anb [(26,0),(39,1),(53,2),(79,3),(92,4),(105,5),(122,6),(137,7),(152,8),(155,9),(170,10),(171,11)] f16)
def zph:FOk prog zls:=okF (bs:=[zw0,z82,y4m,zyb,z9e,y1f,zsj]) ⟨y29,zet,yhx,yb7,zdk,yfy,zxg,trivial⟩ func16 ntmps16 call16
 (λn=>λ_=>tr (z3h.eq_2 _ n))
 (λn=>⟨λ_=>tr (z5z.eq_2 _ _ _ _ _ _ _ _ _ n),
  λ_=>tr (z65.eq_2 _ _ _ _ _ _ _ _ _ _ n),
  λ_=>tr (z5m.eq_2 _ _ _ _ _ _ _ _ _ n),
  λ_=>tr (z57.eq_2 _ _ _ _ _ _ _ _ _ _ _ _ _ n),
  λ_=>tr (z5e.eq_2 _ _ _ _ _ _ _ _ _ _ _ _ _ _ n),
  λ_=>tr (z36.eq_2 _ _ _ _ _ _ _ _ _ _ n),
  λ_=>tr (z68.eq_2 _ _ _ _ _ _ _ _ _ _ _ _ _ _ _ n),
  λ_=>tr (z39.eq_2 _ _ _ _ _ _ _ _ _ _ _ _ _ _ _ _ n),
  λ_=>tr (z5y.eq_2 _ _ _ _ _ _ _ _ _ _ _ n),
  λ_=>tr (z66.eq_2 _ _ _ _ _ _ _ _ _ _ _ _ _ n),
  λ_=>tr (z3v.eq_2 _ _ _ _ _ _ _ _ _ _ _ _ _ _ _ _ n),
  λ_=>tr (z1r.eq_2 _ _ _ _ _ _ _ _ _ _ _ _ _ n),
  trivial⟩)
mutual
def zik:Nat->zz1->Ot zz1
 |0,_=>none
 |n+1,a=>
  zdu n 0 a.list (a.list.length:Int) [] 0 0 0 false [] a.re []
def zdu:Nat->Int->z4h->Int->z4h->Int->Int->Int->Bool->B8->zz1->z4h->Ot zz1
 |0,_,_,_,_,_,_,_,_,_,_,_=>none
 |n+1,a,b,c,d,e,f,g,h,i,j,k=>
  pIf (decide (a<c))
   ((ix b a).bind λo=>
   (zik n o.re).bind λl=>
   (ext d [l.re]).bind λm=>
   zdu n (IntKind.i64.wrap (a+1)) b c m e f g h i j.re k)
   (some (zz1.mk j.kind j.num j.truth j.str d))
end
def ygf:LSh:=⟨[(3,(.ptr 1 0))],[(.cells [(.fn 148 [] [(.ptr 0 0)])]),(.st 1)],1,24,[]⟩
def zg4:FI dat:=FI.of dat 148 24 1 [dT 1,(.ptr 0 0)] [(.cells [(.fn 148 [] [(.ptr 0 0)])])] [dT 1] [(.cells [(.fn 148 [] [(.ptr 0 0)])]),(.st 1)] false ygf (R:=zz1) (λx=>x.1) (λr=>(r,r,())) (λn=>u1 (zik n))
 (λn=>[(0,⟨⟨[(10,dI),(1,(.ptr 0 0)),(4,(.own 1)),(8,dL 1),(3,(.ptr 2 0)),(2,(.ptr 3 0)),(9,dI)],[(.cells [(.fn 148 [] [(.ptr 0 0)])]),(.acc 39 (.st 1) true),(.cells [dU,dI,dI,dB,dS,(.own 4)]),(.st 1),(.acc 39 (.st 1) true)],1,24,[]⟩,u11 (zdu n)⟩)]) (anb [(8,0)] f148)
def yca:List (FI dat):=[zg4]++[]
def yct:(zg4).Good prog dat (tb yca):=FI.z3q (hD:=kzg _) func148 ntmps148 call148 (by kernel_rfl) (Qac (by kernel_rfl)) (by kernel_rfl) (λn=>by kernel_rfl) (λx=>by kernel_rfl) (λ_=>rfl) ⟨λ_=>rfl,trivial⟩
 (λ_ _=>tr (zik.eq_2 ..))
 (λn=>⟨λ_=>tr (zdu.eq_2 ..),
  trivial⟩)
 (λx=>.inr (by kernel_rfl))
def yed:OkL prog [zg4]:=z8u (kzg _) (bs:=[]) trivial ⟨yct,trivial⟩
def yaq:FOk prog zg4:=yed.1
def zsk:Nat->zz1->Ot zz1
 |0,_=>none
 |n+1,a=>
  (zik n a.re).bind λb=>
  some b.re
def ylv:LSh:=⟨[(2,(.ptr 0 0))],[(.st 1)],0,8,[]⟩
def y4y:FI dat:=FI.of dat 98 8 0 [dT 1] [] [dT 1] [] true ylv (R:=zz1) Prod.fst (·,()) (λn=>u1 (zsk n))
 (λn=>[]) (anb [] f98)
def yj0:FOk prog y4y:=okF (bs:=[zg4]) ⟨yaq,trivial⟩ func98 ntmps98 call98
 (λ_ _=>tr (zsk.eq_2 ..))
 (λn=>trivial)
def zoj:Nat->yz1->Ot yz1
 |0,_=>none
 |n+1,a=>
  (zsk n a.value.re).bind λb=>
  some (yz1.mk a.op b.re a.name a.args)
def yiu:LSh:=⟨[(2,(.ptr 0 0))],[(.st 2)],0,8,[]⟩
def zsd:FI dat:=FI.of dat 97 8 0 [dT 2] [] [dT 2] [] true yiu (R:=yz1) Prod.fst (·,()) (λn=>u1 (zoj n))
 (λn=>[]) (anb [] f97)
def ycs:FOk prog zsd:=okF (bs:=[y4y]) ⟨yj0,trivial⟩ func97 ntmps97 call97
 (λ_ _=>tr (zoj.eq_2 ..))
 (λn=>trivial)
mutual
def zk4:Nat->yz1->Ot yz1
 |0,_=>none
 |n+1,a=>
  zf9 n 0 a.args (a.args.length:Int) a.op a.value.kind a.value.num.num a.value.num.den a.value.truth a.value.str a.value.list a.name 0 0 0 0 false [] [] [] [] []
def zf9:Nat->Int->kz6->Int->Int->Int->Int->Int->Bool->B8->z4h->B8->Int->Int->Int->Int->Bool->B8->z4h->B8->kz6->kz6->Ot yz1
 |0,_,_,_,_,_,_,_,_,_,_,_,_,_,_,_,_,_,_,_,_,_=>none
 |n+1,a,b,c,d,e,f,g,h,i,j,k,l,m,o,p,q,r,s,t,u,v=>
  pIf (decide (a<c))
   ((ix b a).bind λz=>
   (zk4 n z.re).bind λx=>
   (ext u [x.re]).bind λy=>
   zf9 n (IntKind.i64.wrap (a+1)) b c d e f g h i j k l m o p q r s t y v)
   ((zoj n (yz1.mk d (zz1.mk e (yz6.mk f g) h i j) k u)).bind λw=>
   some w.re)
end
def yik:LSh:=⟨[(4,(.ptr 0 0))],[(.st 2)],0,29,[]⟩
def zif:FI dat:=FI.of dat 96 29 0 [dT 2,(.fn 97 [] [])] [] [dT 2] [] true yik (R:=yz1) Prod.fst (·,()) (λn=>u1 (zk4 n))
 (λn=>[(0,⟨⟨[(13,dI),(2,(.ptr 0 0)),(1,(.fn 97 [] [])),(11,dL 2),(4,(.ptr 1 0)),(12,dI)],[(.cells [dU,dU,dI,dI,dB,dS,dL 1,dS,(.own 2)]),(.cells [dU,dU,dI,dI,dB,dS,dL 1,dS,(.own 3)]),(.acc 42 (.st 2) true),(.acc 42 (.st 2) true)],0,29,[]⟩,λx=>zf9 n x.1 x.2.1 x.2.2.1 x.2.2.2.1 x.2.2.2.2.1 x.2.2.2.2.2.1 x.2.2.2.2.2.2.1 x.2.2.2.2.2.2.2.1 x.2.2.2.2.2.2.2.2.1 x.2.2.2.2.2.2.2.2.2.1 x.2.2.2.2.2.2.2.2.2.2.1 x.2.2.2.2.2.2.2.2.2.2.2.1 x.2.2.2.2.2.2.2.2.2.2.2.2.1 x.2.2.2.2.2.2.2.2.2.2.2.2.2.1 x.2.2.2.2.2.2.2.2.2.2.2.2.2.2.1 x.2.2.2.2.2.2.2.2.2.2.2.2.2.2.2.1 x.2.2.2.2.2.2.2.2.2.2.2.2.2.2.2.2.1 x.2.2.2.2.2.2.2.2.2.2.2.2.2.2.2.2.2.1 x.2.2.2.2.2.2.2.2.2.2.2.2.2.2.2.2.2.2.1 x.2.2.2.2.2.2.2.2.2.2.2.2.2.2.2.2.2.2.2.1 x.2.2.2.2.2.2.2.2.2.2.2.2.2.2.2.2.2.2.2.2.1⟩)]) (anb [(10,0)] f96)
def yih:List (FI dat):=[zif]++[zsd]
def yjf:(zif).Good prog dat (tb yih):=FI.z3q (hD:=kzg _) func96 ntmps96 call96 (by kernel_rfl) (Qac (by kernel_rfl)) (by kernel_rfl) (λn=>by kernel_rfl) (λx=>by kernel_rfl) (λ_=>rfl) ⟨λ_=>rfl,trivial⟩
 (λ_ _=>tr (zk4.eq_2 ..))
 (λn=>⟨λ_=>tr (zf9.eq_2 ..),
  trivial⟩)
 (λx=>.inl rfl)
def yj8:OkL prog [zif]:=z8u (kzg _) (bs:=[zsd]) ⟨ycs,trivial⟩ ⟨yjf,trivial⟩
def yda:FOk prog zif:=yj8.1
def zh5:Nat->yz1->Ot yz1
 |0,_=>none
 |n+1,a=>
  (zk4 n a.re).bind λb=>
  some b.re
def yps:LSh:=⟨[(2,(.ptr 0 0))],[(.st 2)],0,5,[]⟩
def zqs:FI dat:=FI.of dat 49 5 0 [dT 2] [] [dT 2] [] true yps (R:=yz1) Prod.fst (·,()) (λn=>u1 (zh5 n))
 (λn=>[]) (anb [] f49)
def zvf:FOk prog zqs:=okF (bs:=[zif]) ⟨yda,trivial⟩ func49 ntmps49 call49
 (λ_ _=>tr (zh5.eq_2 ..))
 (λn=>trivial)
def zf3:Nat->kz6->Ot kz6
 |0,_=>none
 |n+1,a=>
  (za8 n a).bind λd=>
  (zh5 n d.re).bind λb=>
  some b.args
def y7j:LSh:=⟨[(2,dL 2)],[],0,7,[]⟩
def ztu:FI dat:=FI.of dat 51 7 0 [dL 2] [] [dL 2] [] true y7j (R:=kz6) Prod.fst (·,()) (λn=>u1 (zf3 n))
 (λn=>[]) (anb [] f51)
def y4f:FOk prog ztu:=okF (bs:=[zvj,zqs]) ⟨y1o,zvf,trivial⟩ func51 ntmps51 call51
 (λ_ _=>tr (zf3.eq_2 ..))
 (λn=>trivial)
mutual
def zlr:Nat->zz0->Ot (zz7×zz5)
 |0,_=>none
 |n+1,a=>
  zh2 n 0 a.attrs (a.attrs.length:Int) a [] [] [] []
def zh2:Nat->Int->zz7->Int->zz0->zz7->zz5->zz7->zz5->Ot (zz7×zz5)
 |0,_,_,_,_,_,_,_,_=>none
 |n+1,a,b,c,d,e,f,g,h=>
  pIf (decide (a<c))
   ((ix b a).bind λi=>
   (zh5 n i.value.re).bind λj=>
   (ext e [(zz9.mk i.name j.re)]).bind λk=>
   zh2 n (IntKind.i64.wrap (a+1)) b c d k f g h)
   (zgz n 0 d.rules (d.rules.length:Int) e f g h)
def zgz:Nat->Int->zz5->Int->zz7->zz5->zz7->zz5->Ot (zz7×zz5)
 |0,_,_,_,_,_,_,_=>none
 |n+1,a,b,c,d,e,f,g=>
  pIf (decide (a<c))
   ((ix b a).bind λh=>
   (zdm n h.params).bind λi=>
   zh3 n 0 h.cases b c a (h.cases.length:Int) h.name i [] d e f g)
   (some (d,e))
def zh3:Nat->Int->z0q->zz5->Int->Int->Int->B8->(List B8)->z0q->zz7->zz5->zz7->zz5->Ot (zz7×zz5)
 |0,_,_,_,_,_,_,_,_,_,_,_,_,_=>none
 |n+1,a,b,c,d,e,f,g,h,i,j,k,l,m=>
  pIf (decide (a<f))
   ((ix b a).bind λp=>
   (zh5 n p.when_.re).bind λo=>
   zgu n 0 p.do_ b c d e f a (p.do_.length:Int) p.weight o.op o.value.kind o.value.num.num o.value.num.den o.value.truth o.value.str o.value.list o.name o.args g h [] i j k l m)
   ((ext k [(kz3.mk g h [])]).bind λr=>
   (ix r (k.length:Int)).bind λq=>
   zgz n (IntKind.i64.wrap (e+1)) c d j (r.set (Int.toNat (k.length:Int)) (kz3.mk q.name q.params i)) l m)
def zgu:Nat->Int->z02->z0q->zz5->Int->Int->Int->Int->Int->Int->Int->Int->Int->Int->Bool->B8->z4h->B8->kz6->B8->(List B8)->z02->z0q->zz7->zz5->zz7->zz5->Ot (zz7×zz5)
 |0,_,_,_,_,_,_,_,_,_,_,_,_,_,_,_,_,_,_,_,_,_,_,_,_,_,_,_=>none
 |n+1,a,b,c,d,e,f,g,h,i,j,k,l,m,o,p,q,r,s,t,u,v,w,z,E,D,C,B=>
  pIf (decide (a<i))
   ((ix b a).bind λx=>
   (zf3 n x.args).bind λF=>
   zh6 n 0 x.items b c d e f g h i a (x.items.length:Int) x.kind x.axis x.name F j k l m o p q r s t u v [] w z E D C B)
   ((ext z [(yz5.mk j (yz1.mk k (zz1.mk l (yz6.mk m o) p q r) s t) [])]).bind λA=>
   (ix A (z.length:Int)).bind λy=>
   zh3 n (IntKind.i64.wrap (h+1)) c d e f g u v (A.set (Int.toNat (z.length:Int)) (yz5.mk y.weight y.when_.re w)) E D C B)
def zh6:Nat->Int->zf0->z02->z0q->zz5->Int->Int->Int->Int->Int->Int->Int->Int->Int->B8->kz6->Int->Int->Int->Int->Int->Bool->B8->z4h->B8->kz6->B8->(List B8)->zf0->z02->z0q->zz7->zz5->zz7->zz5->Ot (zz7×zz5)
 |0,_,_,_,_,_,_,_,_,_,_,_,_,_,_,_,_,_,_,_,_,_,_,_,_,_,_,_,_,_,_,_,_,_,_,_=>none
 |n+1,a,b,c,d,e,f,g,h,i,j,k,l,m,o,p,q,r,s,t,u,v,w,z,N,M,L,K,J,I,y,G,F,E,D,C=>
  pIf (decide (a<l))
   ((ix b a).bind λA=>
   (zf3 n A.args).bind λO=>
   (ext I [(kzb.mk A.kind A.name O)]).bind λQ=>
   zh6 n (IntKind.i64.wrap (a+1)) b c d e f g h i j k l m o p q r s t u v w z N M L K J Q y G F E D C)
   ((ext y [(zz3.mk m o p q [])]).bind λB=>
   (ix B (y.length:Int)).bind λx=>
   zgu n (IntKind.i64.wrap (k+1)) c d e f g h i j r s t u v w z N M L K J (B.set (Int.toNat (y.length:Int)) (zz3.mk x.kind x.axis x.name x.args I)) G F E D C)
end
def ym8:LSh:=⟨[(2,(.ptr 0 0))],[(.cells [(.own 1),(.own 2)]),(.acc 83 (.st 3) true),(.deep 34 7)],0,118,[]⟩
def zv9:FI dat:=FI.of dat 21 118 0 [dT 8] [] [(.agg [(.own 1),(.own 2)])] [(.cells [(.own 1),(.own 2)]),(.acc 83 (.st 3) true),(.deep 34 7)] false ym8 (R:=zz7×zz5) (λx=>(x.1,x.2.1)) (λr=>(r.1,r.2,())) (λn=>u1 (zlr n))
 (λn=>[(0,⟨⟨[(20,dI),(3,(.ptr 0 0)),(18,dL 3),(2,(.ptr 1 0)),(1,(.ptr 2 0)),(19,dI)],[(.cells [(.own 3),(.own 4)]),(.cells [(.own 5),(.own 6)]),(.st 8),(.acc 83 (.st 3) true),(.deep 34 7),(.acc 83 (.st 3) true),(.deep 34 7)],0,118,[]⟩,u8 (zh2 n)⟩),(1,⟨⟨[(39,dI),(3,(.ptr 0 0)),(37,dL 7),(2,(.ptr 1 0)),(38,dI)],[(.cells [(.own 2),(.own 3)]),(.cells [(.own 4),(.own 5)]),(.acc 83 (.st 3) true),(.deep 34 7),(.acc 83 (.st 3) true),(.deep 34 7)],0,118,[]⟩,u7 (zgz n)⟩),(2,⟨⟨[(52,dI),(8,(.ptr 0 0)),(50,dL 6),(3,(.ptr 1 0)),(37,dL 7),(2,(.ptr 2 0)),(38,dI),(39,dI),(51,dI)],[(.cells [dS,dA,(.own 3)]),(.cells [(.own 4),(.own 5)]),(.cells [(.own 6),(.own 7)]),(.deep 64 6),(.acc 83 (.st 3) true),(.deep 34 7),(.acc 83 (.st 3) true),(.deep 34 7)],0,118,[]⟩,λx=>zh3 n x.1 x.2.1 x.2.2.1 x.2.2.2.1 x.2.2.2.2.1 x.2.2.2.2.2.1 x.2.2.2.2.2.2.1 x.2.2.2.2.2.2.2.1 x.2.2.2.2.2.2.2.2.1 x.2.2.2.2.2.2.2.2.2.1 x.2.2.2.2.2.2.2.2.2.2.1 x.2.2.2.2.2.2.2.2.2.2.2.1 x.2.2.2.2.2.2.2.2.2.2.2.2.1⟩),(3,⟨⟨[(65,dI),(11,(.ptr 0 0)),(63,dL 5),(8,(.ptr 1 0)),(50,dL 6),(3,(.ptr 2 0)),(37,dL 7),(2,(.ptr 3 0)),(38,dI),(39,dI),(51,dI),(52,dI),(64,dI)],[(.cells [dI,dU,dU,dI,dI,dB,dS,dL 1,dS,dL 2,(.own 4)]),(.cells [dS,dA,(.own 5)]),(.cells [(.own 6),(.own 7)]),(.cells [(.own 8),(.own 9)]),(.deep 71 5),(.deep 64 6),(.acc 83 (.st 3) true),(.deep 34 7),(.acc 83 (.st 3) true),(.deep 34 7)],0,118,[]⟩,λx=>zgu n x.1 x.2.1 x.2.2.1 x.2.2.2.1 x.2.2.2.2.1 x.2.2.2.2.2.1 x.2.2.2.2.2.2.1 x.2.2.2.2.2.2.2.1 x.2.2.2.2.2.2.2.2.1 x.2.2.2.2.2.2.2.2.2.1 x.2.2.2.2.2.2.2.2.2.2.1 x.2.2.2.2.2.2.2.2.2.2.2.1 x.2.2.2.2.2.2.2.2.2.2.2.2.1 x.2.2.2.2.2.2.2.2.2.2.2.2.2.1 x.2.2.2.2.2.2.2.2.2.2.2.2.2.2.1 x.2.2.2.2.2.2.2.2.2.2.2.2.2.2.2.1 x.2.2.2.2.2.2.2.2.2.2.2.2.2.2.2.2.1 x.2.2.2.2.2.2.2.2.2.2.2.2.2.2.2.2.2.1 x.2.2.2.2.2.2.2.2.2.2.2.2.2.2.2.2.2.2.1 x.2.2.2.2.2.2.2.2.2.2.2.2.2.2.2.2.2.2.2.1 x.2.2.2.2.2.2.2.2.2.2.2.2.2.2.2.2.2.2.2.2.1 x.2.2.2.2.2.2.2.2.2.2.2.2.2.2.2.2.2.2.2.2.2.1 x.2.2.2.2.2.2.2.2.2.2.2.2.2.2.2.2.2.2.2.2.2.2.1 x.2.2.2.2.2.2.2.2.2.2.2.2.2.2.2.2.2.2.2.2.2.2.2.1 x.2.2.2.2.2.2.2.2.2.2.2.2.2.2.2.2.2.2.2.2.2.2.2.2.1 x.2.2.2.2.2.2.2.2.2.2.2.2.2.2.2.2.2.2.2.2.2.2.2.2.2.1 x.2.2.2.2.2.2.2.2.2.2.2.2.2.2.2.2.2.2.2.2.2.2.2.2.2.2.1⟩),(4,⟨⟨[(78,dI),(14,(.ptr 0 0)),(76,dL 4),(11,(.ptr 1 0)),(63,dL 5),(8,(.ptr 2 0)),(50,dL 6),(3,(.ptr 3 0)),(37,dL 7),(2,(.ptr 4 0)),(38,dI),(39,dI),(51,dI),(52,dI),(64,dI),(65,dI),(77,dI)],[(.cells [dU,dU,dS,dL 2,(.own 5)]),(.cells [dI,dU,dU,dI,dI,dB,dS,dL 1,dS,dL 2,(.own 6)]),(.cells [dS,dA,(.own 7)]),(.cells [(.own 8),(.own 9)]),(.cells [(.own 10),(.own 11)]),(.acc 106 (.st 4) true),(.deep 71 5),(.deep 64 6),(.acc 83 (.st 3) true),(.deep 34 7),(.acc 83 (.st 3) true),(.deep 34 7)],0,118,[]⟩,λx=>zh6 n x.1 x.2.1 x.2.2.1 x.2.2.2.1 x.2.2.2.2.1 x.2.2.2.2.2.1 x.2.2.2.2.2.2.1 x.2.2.2.2.2.2.2.1 x.2.2.2.2.2.2.2.2.1 x.2.2.2.2.2.2.2.2.2.1 x.2.2.2.2.2.2.2.2.2.2.1 x.2.2.2.2.2.2.2.2.2.2.2.1 x.2.2.2.2.2.2.2.2.2.2.2.2.1 x.2.2.2.2.2.2.2.2.2.2.2.2.2.1 x.2.2.2.2.2.2.2.2.2.2.2.2.2.2.1 x.2.2.2.2.2.2.2.2.2.2.2.2.2.2.2.1 x.2.2.2.2.2.2.2.2.2.2.2.2.2.2.2.2.1 x.2.2.2.2.2.2.2.2.2.2.2.2.2.2.2.2.2.1 x.2.2.2.2.2.2.2.2.2.2.2.2.2.2.2.2.2.2.1 x.2.2.2.2.2.2.2.2.2.2.2.2.2.2.2.2.2.2.2.1 x.2.2.2.2.2.2.2.2.2.2.2.2.2.2.2.2.2.2.2.2.1 x.2.2.2.2.2.2.2.2.2.2.2.2.2.2.2.2.2.2.2.2.2.1 x.2.2.2.2.2.2.2.2.2.2.2.2.2.2.2.2.2.2.2.2.2.2.1 x.2.2.2.2.2.2.2.2.2.2.2.2.2.2.2.2.2.2.2.2.2.2.2.1 x.2.2.2.2.2.2.2.2.2.2.2.2.2.2.2.2.2.2.2.2.2.2.2.2.1 x.2.2.2.2.2.2.2.2.2.2.2.2.2.2.2.2.2.2.2.2.2.2.2.2.2.1 x.2.2.2.2.2.2.2.2.2.2.2.2.2.2.2.2.2.2.2.2.2.2.2.2.2.2.1 x.2.2.2.2.2.2.2.2.2.2.2.2.2.2.2.2.2.2.2.2.2.2.2.2.2.2.2.1 x.2.2.2.2.2.2.2.2.2.2.2.2.2.2.2.2.2.2.2.2.2.2.2.2.2.2.2.2.1 x.2.2.2.2.2.2.2.2.2.2.2.2.2.2.2.2.2.2.2.2.2.2.2.2.2.2.2.2.2.1 x.2.2.2.2.2.2.2.2.2.2.2.2.2.2.2.2.2.2.2.2.2.2.2.2.2.2.2.2.2.2.1 x.2.2.2.2.2.2.2.2.2.2.2.2.2.2.2.2.2.2.2.2.2.2.2.2.2.2.2.2.2.2.2.1 x.2.2.2.2.2.2.2.2.2.2.2.2.2.2.2.2.2.2.2.2.2.2.2.2.2.2.2.2.2.2.2.2.1 x.2.2.2.2.2.2.2.2.2.2.2.2.2.2.2.2.2.2.2.2.2.2.2.2.2.2.2.2.2.2.2.2.2.1 x.2.2.2.2.2.2.2.2.2.2.2.2.2.2.2.2.2.2.2.2.2.2.2.2.2.2.2.2.2.2.2.2.2.2.1⟩)]) (anb [(8,0),(25,1),(42,2),(59,3),(78,4)] f21)
def y1v:FOk prog zv9:=okF (bs:=[zqs,ze4,ztu]) ⟨zvf,zm2,y4f,trivial⟩ func21 ntmps21 call21
 (λ_ _=>tr (zlr.eq_2 ..))
 (λn=>⟨λ_=>tr (zh2.eq_2 ..),
  λ_=>tr (zgz.eq_2 ..),
  λ_=>tr (zh3.eq_2 ..),
  λ_=>tr (zgu.eq_2 ..),
  λ_=>tr (zh6.eq_2 ..),
  trivial⟩)
def zsi:Nat->kz3->Ot Bool
 |0,_=>none
 |n+1,a=>
  pIf (a.name==[])
   (pIf ((a.params.length:Int)==0)
     (some ((a.cases.length:Int)==0))
     (some false))
   (some false)
def ynb:LSh:=⟨[(2,dB)],[],0,18,[]⟩
def y5g:FI dat:=FI.of dat 52 18 0 [dT 7] [] [dB] [] true ynb (R:=Bool) Prod.fst (·,()) (λn=>u1 (zsi n))
 (λn=>[]) (anb [] f52)
def yk0:FOk prog y5g:=okF (bs:=[]) trivial func52 ntmps52 call52
 (λn=>λ_=>tr (zsi.eq_2 _ n))
 (λn=>trivial)
mutual
def z2s:Nat->yz1->yz1->Ot Bool
 |0,_,_=>none
 |n+1,a,b=>
  pIf (a.op==b.op)
   (pIf (a.name==b.name)
     ((z3l n a.value.re b.value.re).bind λe=>
     pIf e
      ((yz8 n a.args b.args).bind λd=>
      some d)
      (some false))
     (some false))
   (some false)
def yz8:Nat->kz6->kz6->Ot Bool
 |0,_,_=>none
 |n+1,a,b=>
  pIf ((a.length:Int) != (b.length:Int))
   (some false)
   (yz7 n 0 b a (a.length:Int))
def yz7:Nat->Int->kz6->kz6->Int->Ot Bool
 |0,_,_,_,_=>none
 |n+1,a,b,c,d=>
  pIf (decide (a<d))
   ((ix c a).bind λh=>
   (ix b a).bind λg=>
   (z2s n h.re g.re).bind λe=>
   pIf (!e)
    (some false)
    (yz7 n (IntKind.i64.wrap (a+1)) b c d))
   (some true)
end
def ysz:LSh:=⟨[(4,dB)],[],0,31,[]⟩
def zbr:FI dat:=FI.of dat 53 31 0 [dT 2,dT 2] [] [dB] [] true ysz (R:=Bool) Prod.fst (·,()) (λn=>u2 (z2s n))
 (λn=>[]) (anb [] f53)
def z9a:LSh:=⟨[(6,dB)],[],0,32,[]⟩
def zzc:FI dat:=FI.of dat 101 32 0 [dL 2,dL 2,(.fn 53 [] [])] [] [dB] [] true z9a (R:=Bool) Prod.fst (·,()) (λn=>u2 (yz8 n))
 (λn=>[(0,⟨⟨[(17,dI),(2,(.fn 53 [] [])),(1,dL 2),(15,dL 2),(16,dI)],[],0,32,[]⟩,u4 (yz7 n)⟩)]) (anb [(14,0)] f101)
def y94:List (FI dat):=[zbr,zzc]++[zbx]
def ysv:(zbr).Good prog dat (tb y94):=FI.z3q (hD:=kzg _) func53 ntmps53 call53 (by kernel_rfl) (Qac (by kernel_rfl)) (by kernel_rfl) (λn=>by kernel_rfl) (λx=>by kernel_rfl) (λ_=>rfl) trivial
 (λ_ _=>tr (z2s.eq_2 ..))
 (λn=>trivial)
 (λx=>.inl rfl)
def z9h:(zzc).Good prog dat (tb y94):=FI.z3q (hD:=kzg _) func101 ntmps101 call101 (by kernel_rfl) (Qac (by kernel_rfl)) (by kernel_rfl) (λn=>by kernel_rfl) (λx=>by kernel_rfl) (λ_=>rfl) ⟨λ_=>rfl,trivial⟩
 (λ_ _=>tr (yz8.eq_2 ..))
 (λn=>⟨λ_=>tr (yz7.eq_2 ..),
  trivial⟩)
 (λx=>.inl rfl)
def y98:OkL prog [zbr,zzc]:=z8u (kzg _) (bs:=[zbx]) ⟨y2m,trivial⟩ ⟨ysv,z9h,trivial⟩
def znt:FOk prog zbr:=y98.1
def z8q:FOk prog zzc:=y98.2.1
mutual
def zo9:Nat->z0x->Ot Bool
 |0,_=>none
 |n+1,a=>
  (zsi n a.rule_).bind λd=>
  (z2s n a.value.re (yz1.mk 0 (zz1.mk 0 (yz6.mk 0 0) false [] []) [] [])).bind λb=>
  pIf (a.kind==1)
   (zfb n (!b) (!d) a.kind true a.re)
   (zfb n (!b) (!d) a.kind (a.kind==3) a.re)
def zfb:Nat->Bool->Bool->Int->Bool->z0x->Ot Bool
 |0,_,_,_,_,_=>none
 |n+1,a,b,c,d,e=>
  pIf d
   (pIf (e.name==[])
     (pIf (e.to_==[])
       (some (!a))
       (some false))
     (some false))
   (pIf (c==2)
     (pIf (e.to_==[])
       (pIf (!b)
         (some (!a))
         (some false))
       (some false))
     (pIf (c==4)
       (pIf (!b)
         (some (!a))
         (some false))
       (pIf (c==5)
         (pIf (e.to_==[])
           (some (!b))
           (some false))
         (some false))))
end
def yi5:LSh:=⟨[(2,dB)],[],0,61,[]⟩
def y1w:FI dat:=FI.of dat 22 61 0 [dT 9] [] [dB] [] true yi5 (R:=Bool) Prod.fst (·,()) (λn=>u1 (zo9 n))
 (λn=>[(0,⟨⟨[(4,dB),(1,(.ptr 0 0)),(3,dB),(15,dU),(16,dB)],[(.st 9)],0,61,[]⟩,u5 (zfb n)⟩)]) (anb [(14,0)] f22)
def ydj:FOk prog y1w:=okF (bs:=[y5g,zbr]) ⟨yk0,znt,trivial⟩ func22 ntmps22 call22
 (λ_ _=>tr (zo9.eq_2 ..))
 (λn=>⟨λ_=>tr (zfb.eq_2 _ _ _ _ _ n),
  trivial⟩)
def zco:Nat->kz3->B8->Ot (Bool×B8)
 |0,_,_=>none
 |n+1,a,b=>
  some ((a.name==b),b)
def yix:LSh:=⟨[(3,dB)],[(.cells [dS])],1,8,[]⟩
def y26:FI dat:=FI.of dat 103 8 1 [dT 7,(.ptr 0 0)] [(.cells [dS])] [dB] [(.cells [dS])] false yix (R:=Bool×B8) (λx=>(x.1,x.2.1)) (λr=>(r.1,r.2,())) (λn=>u2 (zco n))
 (λn=>[]) (anb [] f103)
def yel:FOk prog y26:=okF (bs:=[]) trivial func103 ntmps103 call103
 (λn=>λ_=>tr (zco.eq_2 _ _ n))
 (λn=>trivial)
mutual
def yzn:Nat->zz5->B8->Ot (Int×B8)
 |0,_,_=>none
 |n+1,a,b=>
  zzd n 0 a (a.length:Int) b
def zzd:Nat->Int->zz5->Int->B8->Ot (Int×B8)
 |0,_,_,_,_=>none
 |n+1,a,b,c,d=>
  pIf (decide (a<c))
   ((ix b a).bind λg=>
   (zco n g d).bind λe=>
   pIf e.1
    (some (a,e.2))
    (zzd n (IntKind.i64.wrap (a+1)) b c e.2))
   (some ((-1),d))
end
def zhu:LSh:=⟨[(4,dI)],[(.cells [dS])],1,19,[]⟩
def z9x:FI dat:=FI.of dat 102 19 1 [dL 7,(.fn 103 [] [(.ptr 0 0)])] [(.cells [dS])] [dI] [(.cells [dS])] false zhu (R:=Int×B8) (λx=>(x.1,x.2.1)) (λr=>(r.1,r.2,())) (λn=>u2 (yzn n))
 (λn=>[(0,⟨⟨[(8,dI),(0,dL 7),(1,(.fn 103 [] [(.ptr 0 0)])),(7,dI)],[(.cells [dS])],1,19,[]⟩,u4 (zzd n)⟩)]) (anb [(6,0)] f102)
def zgh:FOk prog z9x:=okF (bs:=[y26]) ⟨yel,trivial⟩ func102 ntmps102 call102
 (λ_ _=>tr (yzn.eq_2 ..))
 (λn=>⟨λ_=>tr (zzd.eq_2 ..),
  trivial⟩)
def za1:Nat->zz0->B8->Ot Int
 |0,_,_=>none
 |n+1,a,b=>
  (yzn n a.rules b).bind λd=>
  some d.1
def ysk:LSh:=⟨[(4,dI)],[],0,9,[]⟩
def zrq:FI dat:=FI.of dat 54 9 0 [dT 8,dS] [] [dI] [] true ysk (R:=Int) Prod.fst (·,()) (λn=>u2 (za1 n))
 (λn=>[]) (anb [] f54)
def y5j:FOk prog zrq:=okF (bs:=[z9x]) ⟨zgh,trivial⟩ func54 ntmps54 call54
 (λ_ _=>tr (za1.eq_2 ..))
 (λn=>trivial)
def zos:Nat->zz9->B8->Ot (Bool×B8)
 |0,_,_=>none
 |n+1,a,b=>
  some ((a.name==b),b)
def yh9:LSh:=⟨[(3,dB)],[(.cells [dS])],1,8,[]⟩
def y2c:FI dat:=FI.of dat 56 8 1 [dT 3,(.ptr 0 0)] [(.cells [dS])] [dB] [(.cells [dS])] false yh9 (R:=Bool×B8) (λx=>(x.1,x.2.1)) (λr=>(r.1,r.2,())) (λn=>u2 (zos n))
 (λn=>[]) (anb [] f56)
def yg4:FOk prog y2c:=okF (bs:=[]) trivial func56 ntmps56 call56
 (λn=>λ_=>tr (zos.eq_2 _ _ n))
 (λn=>trivial)
mutual
def z2j:Nat->B8->zz7->Ot (Int×B8×zz7)
 |0,_,_=>none
 |n+1,a,b=>
  zzy n 0 (b.length:Int) a b
def zzy:Nat->Int->Int->B8->zz7->Ot (Int×B8×zz7)
 |0,_,_,_,_=>none
 |n+1,a,b,c,d=>
  pIf (decide (a<b))
   ((ix d a).bind λg=>
   (zos n g.re c).bind λe=>
   pIf e.1
    (some (a,e.2,d))
    (zzy n (IntKind.i64.wrap (a+1)) b e.2 d))
   (some ((-1),c,d))
end
def zhf:LSh:=⟨[(4,dI)],[(.cells [dS]),(.acc 83 (.st 3) true)],2,19,[]⟩
def z9u:FI dat:=FI.of dat 55 19 2 [(.own 1),(.fn 56 [] [(.ptr 0 0)])] [(.cells [dS]),(.acc 83 (.st 3) true)] [dI] [(.cells [dS]),(.acc 83 (.st 3) true)] false zhf (R:=Int×B8×zz7) (λx=>(x.1,x.2.1,x.2.2.1)) (λr=>(r.1,r.2.1,r.2.2,())) (λn=>u2 (z2j n))
 (λn=>[(0,⟨⟨[(8,dI),(0,(.own 1)),(1,(.fn 56 [] [(.ptr 0 0)])),(7,dI)],[(.cells [dS]),(.acc 83 (.st 3) true)],2,19,[]⟩,u4 (zzy n)⟩)]) (anb [(6,0)] f55)
def zh9:FOk prog z9u:=okF (bs:=[y2c]) ⟨yg4,trivial⟩ func55 ntmps55 call55
 (λ_ _=>tr (z2j.eq_2 ..))
 (λn=>⟨λ_=>tr (zzy.eq_2 ..),
  trivial⟩)
def znk:Nat->kz3->Ot (B8×(List B8)×z0q)
 |0,_=>none
 |n+1,a=>
  (zlr n (zz0.mk [] [a])).bind λb=>
  (ix b.2 0).bind λg=>
  (ix b.2 0).bind λe=>
  (ix b.2 0).bind λd=>
  some (d.name,d.params,e.cases)
def ypy:LSh:=⟨[(2,(.ptr 0 0))],[(.cells [dS,dA,(.own 1)]),(.deep 64 6)],0,10,[]⟩
def y8p:FI dat:=FI.of dat 57 10 0 [dT 7] [] [(.agg [dS,dA,(.own 1)])] [(.cells [dS,dA,(.own 1)]),(.deep 64 6)] false ypy (R:=B8×(List B8)×z0q) (λx=>(x.1,x.2.1,x.2.2.1)) (λr=>(r.1,r.2.1,r.1,r.2.1,r.2.2,())) (λn=>u1 (znk n))
 (λn=>[]) (anb [] f57)
def ypj:FOk prog y8p:=okF (bs:=[zv9]) ⟨y1v,trivial⟩ func57 ntmps57 call57
 (λ_ _=>tr (znk.eq_2 ..))
 (λn=>trivial)
def zln:Nat->Int->B8->B8->zz5->Ot (B8×B8×zz5)
 |0,_,_,_,_=>none
 |n+1,a,b,c,d=>
  (ix d a).bind λg=>
  pIf (g.name==b)
   ((ix d a).bind λe=>
   some (b,c,(d.set (Int.toNat a) (kz3.mk c e.params e.cases))))
   (some (b,c,d))
def y9v:LSh:=⟨[],[(.cells [dS]),(.cells [dS]),(.deep 34 7)],2,12,[2]⟩
def zwk:FI dat:=FI.of dat 104 12 2 [(.dp 2 0),(.ptr 0 0),(.ptr 1 0)] [(.cells [dS]),(.cells [dS]),(.deep 34 7)] [] [(.cells [dS]),(.cells [dS]),(.deep 34 7)] false y9v (R:=B8×B8×zz5) (λx=>(x.1,x.2.1,x.2.2.1)) (λr=>(r.1,r.2.1,r.2.2,())) (λn=>u4 (zln n))
 (λn=>[]) (anb [] f104) [2]
def y7a:FOk prog zwk:=okF (bs:=[]) trivial func104 ntmps104 call104
 (λn=>λ_=>tr (zln.eq_2 _ _ _ _ n))
 (λn=>trivial)
def zhl:Nat->Int->B8->B8->z02->Ot (B8×B8×z02)
 |0,_,_,_,_=>none
 |n+1,a,b,c,d=>
  (ix d a).bind λg=>
  pIf (g.name==b)
   ((ix d a).bind λe=>
   some (b,c,(d.set (Int.toNat a) (zz3.mk e.kind e.axis c e.args e.items))))
   (some (b,c,d))
def y3x:LSh:=⟨[],[(.cells [dS]),(.cells [dS]),(.deep 71 5)],2,12,[2]⟩
def zp3:FI dat:=FI.of dat 104 12 2 [(.dp 2 2),(.ptr 0 0),(.ptr 1 0)] [(.cells [dS]),(.cells [dS]),(.deep 71 5)] [] [(.cells [dS]),(.cells [dS]),(.deep 71 5)] false y3x (R:=B8×B8×z02) (λx=>(x.1,x.2.1,x.2.2.1)) (λr=>(r.1,r.2.1,r.2.2,())) (λn=>u4 (zhl n))
 (λn=>[]) (anb [] f104) [2]
def y0y:FOk prog zp3:=okF (bs:=[]) trivial func104 ntmps104 call104
 (λn=>λ_=>tr (zhl.eq_2 _ _ _ _ n))
 (λn=>trivial)
def zht:Nat->Int->kzb->B8->B8->zf0->Ot (B8×B8×zf0)
 |0,_,_,_,_,_=>none
 |n+1,a,b,c,d,e=>
  pIf (b.name==c)
   (some (c,d,(e.set (Int.toNat a) (kzb.mk b.kind d b.args))))
   (some (c,d,e))
def y3m:LSh:=⟨[],[(.cells [dS]),(.cells [dS]),(.acc 106 (.st 4) true)],2,12,[2]⟩
def zp0:FI dat:=FI.of dat 104 12 2 [(.ap 2 (.st 4) 1),(.ptr 0 0),(.ptr 1 0)] [(.cells [dS]),(.cells [dS]),(.acc 106 (.st 4) true)] [] [(.cells [dS]),(.cells [dS]),(.acc 106 (.st 4) true)] false y3m (R:=B8×B8×zf0) (λx=>(x.1,x.2.1,x.2.2.1)) (λr=>(r.1,r.2.1,r.2.2,())) (λn=>u5 (zht n))
 (λn=>[]) (anb [] f104) [2]
def y0s:FOk prog zp0:=okF (bs:=[]) trivial func104 ntmps104 call104
 (λn=>λ_=>tr (zht.eq_2 _ _ _ _ _ n))
 (λn=>trivial)
mutual
def zov:Nat->B8->B8->zz7->zz5->Ot (zz7×zz5)
 |0,_,_,_,_=>none
 |n+1,a,b,c,d=>
  zf8 n 0 (d.length:Int) a b c d
def zf8:Nat->Int->Int->B8->B8->zz7->zz5->Ot (zz7×zz5)
 |0,_,_,_,_,_,_=>none
 |n+1,a,b,c,d,e,f=>
  pIf (decide (a<b))
   ((ix f a).bind λk=>
   (zln n a c d f).bind λg=>
   (ix g.2.2 a).bind λj=>
   (ix g.2.2 a).bind λh=>
   (ix g.2.2 a).bind λi=>
   zff n 0 b a (h.cases.length:Int) g.1 g.2.1 h.cases e g.2.2 a)
   (some (e,f))
def zff:Nat->Int->Int->Int->Int->B8->B8->z0q->zz7->zz5->Int->Ot (zz7×zz5)
 |0,_,_,_,_,_,_,_,_,_,_=>none
 |n+1,a,b,c,d,e,f,g,h,i,j=>
  pIf (decide (a<d))
   ((ix g a).bind λo=>
   (ix g a).bind λm=>
   (ix g a).bind λk=>
   zfe n 0 b c d a (m.do_.length:Int) k.weight k.when_.op k.when_.value.kind k.when_.value.num.num k.when_.value.num.den k.when_.value.truth k.when_.value.str k.when_.value.list k.when_.name k.when_.args e f g a h i j m.do_)
   ((ix i j).bind λl=>
   zf8 n (IntKind.i64.wrap (c+1)) b e f h (i.set (Int.toNat j) (kz3.mk l.name l.params g)))
def zfe:Nat->Int->Int->Int->Int->Int->Int->Int->Int->Int->Int->Int->Bool->B8->z4h->B8->kz6->B8->B8->z0q->Int->zz7->zz5->Int->z02->Ot (zz7×zz5)
 |0,_,_,_,_,_,_,_,_,_,_,_,_,_,_,_,_,_,_,_,_,_,_,_,_=>none
 |n+1,a,b,c,d,e,f,g,h,i,j,k,l,m,o,p,q,r,s,t,u,v,w,z,A=>
  pIf (decide (a<f))
   ((ix A a).bind λF=>
   (zhl n a r s A).bind λx=>
   (ix x.2.2 a).bind λE=>
   (ix x.2.2 a).bind λC=>
   (ix x.2.2 a).bind λD=>
   (ix x.2.2 a).bind λy=>
   zf5 n 0 a b c d e f a (C.items.length:Int) g h i j k l m o p q x.1 x.2.1 t u v w z (x.2.2.set (Int.toNat a) (zz3.mk y.kind y.axis y.name y.args C.items)))
   ((ix t u).bind λB=>
   zff n (IntKind.i64.wrap (e+1)) b c d r s (t.set (Int.toNat u) (yz5.mk B.weight B.when_.re A)) v w z)
def zf5:Nat->Int->Int->Int->Int->Int->Int->Int->Int->Int->Int->Int->Int->Int->Int->Bool->B8->z4h->B8->kz6->B8->B8->z0q->Int->zz7->zz5->Int->z02->Ot (zz7×zz5)
 |0,_,_,_,_,_,_,_,_,_,_,_,_,_,_,_,_,_,_,_,_,_,_,_,_,_,_,_=>none
 |n+1,a,b,c,d,e,f,g,h,i,j,k,l,m,o,p,q,r,s,t,u,v,w,z,E,D,C,x=>
  pIf (decide (a<i))
   ((ix x b).bind λI=>
   (ix x b).bind λB=>
   (ix x b).bind λG=>
   (ix B.items a).bind λF=>
   (zht n a F u v B.items).bind λA=>
   (ix x b).bind λy=>
   zf5 n (IntKind.i64.wrap (a+1)) b c d e f g h i j k l m o p q r s t A.1 A.2.1 w z E D C (x.set (Int.toNat b) (zz3.mk y.kind y.axis y.name y.args A.2.2)))
   (zfe n (IntKind.i64.wrap (h+1)) c d e f g j k l m o p q r s t u v w z E D C x)
end
def yjn:LSh:=⟨[],[(.acc 83 (.st 3) true),(.deep 34 7)],0,75,[0,1]⟩
def y1h:FI dat:=FI.of dat 59 75 0 [(.agg [(.own 0),(.own 1)]),dS,dS] [(.acc 83 (.st 3) true),(.deep 34 7)] [] [(.acc 83 (.st 3) true),(.deep 34 7)] false yjn (R:=zz7×zz5) (λx=>(x.1,x.2.1)) (λr=>(r.1,r.2,())) (λn=>u4 (zov n))
 (λn=>[(0,⟨⟨[(6,(.fn 104 [] [(.ptr 0 0),(.ptr 1 0)])),(16,dI),(3,(.ptr 2 0)),(15,dI)],[(.cells [dS]),(.cells [dS]),(.cells [(.own 3),(.own 4)]),(.acc 83 (.st 3) true),(.deep 34 7)],0,75,[3,4]⟩,u6 (zf8 n)⟩),(1,⟨⟨[(6,(.fn 104 [] [(.ptr 0 0),(.ptr 1 0)])),(33,dI),(31,(.own 2)),(3,(.ptr 3 0)),(15,dI),(16,dI),(32,dI)],[(.cells [dS]),(.cells [dS]),(.deep 64 6),(.cells [(.own 4),(.own 5)]),(.acc 83 (.st 3) true),(.deeph 34 7 2 2)],0,75,[4,5]⟩,u10 (zff n)⟩),(2,⟨⟨[(9,(.ptr 0 0)),(6,(.fn 104 [] [(.ptr 1 0),(.ptr 2 0)])),(40,dI),(31,(.own 3)),(3,(.ptr 4 0)),(15,dI),(16,dI),(32,dI),(33,dI),(39,dI)],[(.cells [dI,dU,dU,dI,dI,dB,dS,dL 1,dS,dL 2,(.own 7)]),(.cells [dS]),(.cells [dS]),(.deeph 64 6 10 7),(.cells [(.own 5),(.own 6)]),(.acc 83 (.st 3) true),(.deeph 34 7 2 3),(.deep 71 5)],0,75,[5,6]⟩,λx=>zfe n x.1 x.2.1 x.2.2.1 x.2.2.2.1 x.2.2.2.2.1 x.2.2.2.2.2.1 x.2.2.2.2.2.2.1 x.2.2.2.2.2.2.2.1 x.2.2.2.2.2.2.2.2.1 x.2.2.2.2.2.2.2.2.2.1 x.2.2.2.2.2.2.2.2.2.2.1 x.2.2.2.2.2.2.2.2.2.2.2.1 x.2.2.2.2.2.2.2.2.2.2.2.2.1 x.2.2.2.2.2.2.2.2.2.2.2.2.2.1 x.2.2.2.2.2.2.2.2.2.2.2.2.2.2.1 x.2.2.2.2.2.2.2.2.2.2.2.2.2.2.2.1 x.2.2.2.2.2.2.2.2.2.2.2.2.2.2.2.2.1 x.2.2.2.2.2.2.2.2.2.2.2.2.2.2.2.2.2.1 x.2.2.2.2.2.2.2.2.2.2.2.2.2.2.2.2.2.2.1 x.2.2.2.2.2.2.2.2.2.2.2.2.2.2.2.2.2.2.2.1 x.2.2.2.2.2.2.2.2.2.2.2.2.2.2.2.2.2.2.2.2.1 x.2.2.2.2.2.2.2.2.2.2.2.2.2.2.2.2.2.2.2.2.2.1 x.2.2.2.2.2.2.2.2.2.2.2.2.2.2.2.2.2.2.2.2.2.2.1 x.2.2.2.2.2.2.2.2.2.2.2.2.2.2.2.2.2.2.2.2.2.2.2.1⟩),(3,⟨⟨[(57,dI),(10,dI),(9,(.ptr 0 0)),(6,(.fn 104 [] [(.ptr 1 0),(.ptr 2 0)])),(31,(.own 3)),(3,(.ptr 4 0)),(15,dI),(16,dI),(32,dI),(33,dI),(39,dI),(40,dI),(56,dI)],[(.cells [dI,dU,dU,dI,dI,dB,dS,dL 1,dS,dL 2,(.own 7)]),(.cells [dS]),(.cells [dS]),(.deeph 64 6 10 7),(.cells [(.own 5),(.own 6)]),(.acc 83 (.st 3) true),(.deeph 34 7 2 3),(.deep 71 5)],0,75,[5,6]⟩,λx=>zf5 n x.1 x.2.1 x.2.2.1 x.2.2.2.1 x.2.2.2.2.1 x.2.2.2.2.2.1 x.2.2.2.2.2.2.1 x.2.2.2.2.2.2.2.1 x.2.2.2.2.2.2.2.2.1 x.2.2.2.2.2.2.2.2.2.1 x.2.2.2.2.2.2.2.2.2.2.1 x.2.2.2.2.2.2.2.2.2.2.2.1 x.2.2.2.2.2.2.2.2.2.2.2.2.1 x.2.2.2.2.2.2.2.2.2.2.2.2.2.1 x.2.2.2.2.2.2.2.2.2.2.2.2.2.2.1 x.2.2.2.2.2.2.2.2.2.2.2.2.2.2.2.1 x.2.2.2.2.2.2.2.2.2.2.2.2.2.2.2.2.1 x.2.2.2.2.2.2.2.2.2.2.2.2.2.2.2.2.2.1 x.2.2.2.2.2.2.2.2.2.2.2.2.2.2.2.2.2.2.1 x.2.2.2.2.2.2.2.2.2.2.2.2.2.2.2.2.2.2.2.1 x.2.2.2.2.2.2.2.2.2.2.2.2.2.2.2.2.2.2.2.2.1 x.2.2.2.2.2.2.2.2.2.2.2.2.2.2.2.2.2.2.2.2.2.1 x.2.2.2.2.2.2.2.2.2.2.2.2.2.2.2.2.2.2.2.2.2.2.1 x.2.2.2.2.2.2.2.2.2.2.2.2.2.2.2.2.2.2.2.2.2.2.2.1 x.2.2.2.2.2.2.2.2.2.2.2.2.2.2.2.2.2.2.2.2.2.2.2.2.1 x.2.2.2.2.2.2.2.2.2.2.2.2.2.2.2.2.2.2.2.2.2.2.2.2.2.1 x.2.2.2.2.2.2.2.2.2.2.2.2.2.2.2.2.2.2.2.2.2.2.2.2.2.2.1⟩)]) (anb [(7,0),(23,1),(37,2),(53,3)] f59) [0,1]
def yeq:FOk prog y1h:=okF (bs:=[zwk,zp3,zp0]) ⟨y7a,y0y,y0s,trivial⟩ func59 ntmps59 call59
 (λ_ _=>tr (zov.eq_2 ..))
 (λn=>⟨λ_=>tr (zf8.eq_2 ..),
  λ_=>tr (zff.eq_2 ..),
  λ_=>tr (zfe.eq_2 ..),
  λ_=>tr (zf5.eq_2 ..),
  trivial⟩)
mutual
def zvt:Nat->z0x->zz7->zz5->Ot (Int×zz7×zz5)
 |0,_,_,_=>none
 |n+1,a,b,c=>
  pIf (a.kind==1)
   (zij n true b c a.re a.name)
   (zij n (a.kind==3) b c a.re a.name)
def zij:Nat->Bool->zz7->zz5->z0x->B8->Ot (Int×zz7×zz5)
 |0,_,_,_,_,_=>none
 |n+1,a,b,c,d,e=>
  pIf a
   (zio n b c d.re d.rule_.name)
   (zio n b c d.re e)
def zio:Nat->zz7->zz5->z0x->B8->Ot (Int×zz7×zz5)
 |0,_,_,_,_=>none
 |n+1,a,b,c,d=>
  (za1 n (zz0.mk a b) d).bind λg=>
  pIf (c.kind==5)
   ((z2j n d a).bind λe=>
   zim n e.1 e.2.2 b c.re)
   (zim n g a b c.re)
def zim:Nat->Int->zz7->zz5->z0x->Ot (Int×zz7×zz5)
 |0,_,_,_,_=>none
 |n+1,a,b,c,d=>
  pIf (decide (a<0))
   (zir n a (d.kind != 1) b c d.re)
   (zir n a false b c d.re)
def zir:Nat->Int->Bool->zz7->zz5->z0x->Ot (Int×zz7×zz5)
 |0,_,_,_,_,_=>none
 |n+1,a,b,c,d,e=>
  pIf b
   (some (6,c,d))
   (pIf (e.kind==1)
     (pIf (decide (a>=0))
       (some (14,c,d))
       ((znk n e.rule_).bind λi=>
       (ext d [(kz3.mk i.1 i.2.1 [])]).bind λp=>
       (ix p (d.length:Int)).bind λo=>
       z94 n c (p.set (Int.toNat (d.length:Int)) (kz3.mk o.name o.params i.2.2))))
     (pIf (e.kind==2)
       ((zav n a (IntKind.i64.wrap (a+1)) d).bind λq=>
       z94 n c q)
       (pIf (e.kind==3)
         ((znk n e.rule_).bind λg=>
         (ix d a).bind λs=>
         (ix d a).bind λr=>
         (ix (d.set (Int.toNat a) (kz3.mk g.1 g.2.1 [])) a).bind λm=>
         z94 n c ((d.set (Int.toNat a) (kz3.mk g.1 g.2.1 [])).set (Int.toNat a) (kz3.mk m.name m.params g.2.2)))
         (pIf (e.kind==4)
           ((za1 n (zz0.mk c d) e.to_).bind λk=>
           pIf (decide (k>=0))
            (some (14,c,d))
            ((zov n e.name e.to_ c d).bind λh=>
            z94 n h.1 h.2))
           ((zh5 n e.value.re).bind λj=>
           (ix c a).bind λl=>
           z94 n (c.set (Int.toNat a) (zz9.mk l.name j.re)) d)))))
def z94:Nat->zz7->zz5->Ot (Int×zz7×zz5)
 |0,_,_=>none
 |n+1,a,b=>
  some (0,a,b)
end
def ysa:LSh:=⟨[(4,dI)],[(.cells [(.own 1),(.own 2)]),(.acc 83 (.st 3) true),(.deep 34 7)],1,110,[]⟩
def y96:FI dat:=FI.of dat 23 110 1 [(.ptr 0 0),dT 9] [(.cells [(.own 1),(.own 2)]),(.acc 83 (.st 3) true),(.deep 34 7)] [dI] [(.cells [(.own 1),(.own 2)]),(.acc 83 (.st 3) true),(.deep 34 7)] false ysa (R:=Int×zz7×zz5) (λx=>(x.1,x.2.1,x.2.2.1)) (λr=>(r.1,r.2.1,r.2.2,())) (λn=>u3 (zvt n))
 (λn=>[(0,⟨⟨[(3,(.ptr 3 0)),(0,(.ptr 0 0)),(5,(.ptr 4 0)),(16,dB)],[(.cells [(.own 1),(.own 2)]),(.acc 83 (.st 3) true),(.deep 34 7),(.st 9),(.cells [dS])],1,110,[]⟩,u5 (zij n)⟩),(1,⟨⟨[(3,(.ptr 3 0)),(0,(.ptr 0 0)),(5,(.ptr 4 0))],[(.cells [(.own 1),(.own 2)]),(.acc 83 (.st 3) true),(.deep 34 7),(.st 9),(.cells [dS])],1,110,[]⟩,u4 (zio n)⟩),(2,⟨⟨[(3,(.ptr 3 0)),(0,(.ptr 0 0)),(6,dI)],[(.cells [(.own 1),(.own 2)]),(.acc 83 (.st 3) true),(.deep 34 7),(.st 9)],1,110,[]⟩,u4 (zim n)⟩),(3,⟨⟨[(3,(.ptr 3 0)),(0,(.ptr 0 0)),(6,dI),(40,dB)],[(.cells [(.own 1),(.own 2)]),(.acc 83 (.st 3) true),(.deep 34 7),(.st 9)],1,110,[]⟩,u5 (zir n)⟩),(4,⟨⟨[],[(.cells [(.own 1),(.own 2)]),(.acc 83 (.st 3) true),(.deep 34 7)],1,110,[]⟩,u2 (z94 n)⟩)]) (anb [(7,0),(10,1),(18,2),(21,3),(63,4)] f23)
def ym4:FOk prog y96:=okF (bs:=[z9u,y8p,zb4,y1h,zrq,zqs]) ⟨zh9,ypj,zis,yeq,y5j,zvf,trivial⟩ func23 ntmps23 call23
 (λ_ _=>tr (zvt.eq_2 ..))
 (λn=>⟨λ_=>tr (zij.eq_2 ..),
  λ_=>tr (zio.eq_2 ..),
  λ_=>tr (zim.eq_2 ..),
  λ_=>tr (zir.eq_2 ..),
  λ_=>tr (z94.eq_2 _ _ n),
  trivial⟩)
mutual
def zsh:Nat->zz0->yw2->Ot (Int×zz0)
 |0,_,_=>none
 |n+1,a,b=>
  (z3h n a).bind λe=>
  pIf (e != 0)
   (some (e,(zz0.mk [] [])))
   (pIf (decide ((b.length:Int)>40))
     (some (4,(zz0.mk [] [])))
     ((zlr n a).bind λd=>
     zgi n 0 b (b.length:Int) (zz0.mk [] []) d.1 d.2))
def zgi:Nat->Int->yw2->Int->zz0->zz7->zz5->Ot (Int×zz0)
 |0,_,_,_,_,_,_=>none
 |n+1,a,b,c,d,e,f=>
  pIf (decide (a<c))
   ((ix b a).bind λi=>
   (zo9 n i.re).bind λj=>
   pIf (!j)
    (some (8,(zz0.mk [] [])))
    ((zvt n i.re e f).bind λg=>
    pIf (g.1 != 0)
     (some (g.1,(zz0.mk [] [])))
     (zgi n (IntKind.i64.wrap (a+1)) b c d g.2.1 g.2.2)))
   ((z3h n (zz0.mk e f)).bind λh=>
   pIf (h != 0)
    (some (h,(zz0.mk [] [])))
    (some (0,(zz0.mk e f))))
end
def yoa:LSh:=⟨[(4,(.ptr 0 0)),(5,dI)],[(.st 8)],0,48,[]⟩
def zvo:FI dat:=FI.of dat 7 48 0 [dT 8,dL 9] [] [dT 8,dI] [] true yoa (R:=Int×zz0) (λx=>(x.1,x.2.1)) (λr=>(r.2,r.1,())) (λn=>u2 (zsh n))
 (λn=>[(0,⟨⟨[(4,(.ptr 0 0)),(26,dI),(7,(.ptr 1 0)),(24,dL 9),(25,dI)],[(.st 8),(.cells [(.own 2),(.own 3)]),(.acc 83 (.st 3) true),(.deep 34 7)],0,48,[]⟩,u6 (zgi n)⟩)]) (anb [(26,0)] f7)
def yhm:FOk prog zvo:=okF (bs:=[zv9,y96,zls,y1w]) ⟨y1v,ym4,zph,ydj,trivial⟩ func7 ntmps7 call7
 (λn=>λ_=>tr (zsh.eq_2 _ _ n))
 (λn=>⟨λ_=>tr (zgi.eq_2 _ _ _ _ _ _ n),
  trivial⟩)
def zgb:Nat->Int->Ot Bool
 |0,_=>none
 |n+1,a=>
  pIf (decide (a<32))
   (some true)
   (some (decide (a>126)))
def y0z:LSh:=⟨[(2,dB)],[],0,9,[]⟩
def zn0:FI dat:=FI.of dat 106 9 0 [(.d (.int .i32))] [] [dB] [] true y0z (R:=Bool) Prod.fst (·,()) (λn=>u1 (zgb n))
 (λn=>[]) (anb [] f106)
def zwx:FOk prog zn0:=okF (bs:=[]) trivial func106 ntmps106 call106
 (λn=>λ_=>tr (zgb.eq_2 _ n))
 (λn=>trivial)
mutual
def zg1:Nat->B8->Bool->Ot Int
 |0,_,_=>none
 |n+1,a,b=>
  z8z n b a 0
def z8z:Nat->Bool->B8->Nat->Ot Int
 |0,_,_,_=>none
 |n+1,a,b,c=>
  pIf (decide (c<b.length))
   ((zgb n ((zi0 b c).1:Int)).bind λd=>
   pIf (d==a)
    (some (c:Int))
    (z8z n a b (c+(zi0 b c).2)))
   (some (-1))
end
def y0t:LSh:=⟨[(6,dI)],[],0,21,[]⟩
def zn8:FI dat:=FI.of dat 151 21 0 [dS,(.fn 106 [] []),dB] [] [dI] [] true y0t (R:=Int) Prod.fst (·,()) (λn=>u2 (zg1 n))
 (λn=>[(0,⟨⟨[(2,dB),(1,(.fn 106 [] [])),(10,(.ptr 0 0))],[.siter],0,21,[]⟩,u3 (z8z n)⟩)]) (anb [(6,0)] f151)
def zyw:FOk prog zn8:=okF (bs:=[zn0]) ⟨zwx,trivial⟩ func151 ntmps151 call151
 (λ_ _=>tr (zg1.eq_2 ..))
 (λn=>⟨λ_=>tr (z8z.eq_2 ..),
  trivial⟩)
def zgc:Nat->B8->Ot Int
 |0,_=>none
 |n+1,a=>
  (zg1 n a true).bind λb=>
  some b
def y0p:LSh:=⟨[(4,dI)],[],0,8,[]⟩
def zn7:FI dat:=FI.of dat 107 8 0 [dS,(.fn 106 [] [])] [] [dI] [] true y0p (R:=Int) Prod.fst (·,()) (λn=>u1 (zgc n))
 (λn=>[]) (anb [] f107)
def y02:FOk prog zn7:=okF (bs:=[zn8]) ⟨zyw,trivial⟩ func107 ntmps107 call107
 (λ_ _=>tr (zgc.eq_2 ..))
 (λn=>trivial)
mutual
def zj0:Nat->z2k->Ot Int
 |0,_=>none
 |n+1,a=>
  pIf (decide ((a.length:Int)>60))
   (some 4)
   (zb3 n 0 a (a.length:Int))
def zb3:Nat->Int->z2k->Int->Ot Int
 |0,_,_,_=>none
 |n+1,a,b,c=>
  pIf (decide (a<c))
   ((ix b a).bind λd=>
   (zg6 n d.path).bind λe=>
   pIf (e==0)
    (zb1 n b c a (!(d.path==[])) d)
    (zb1 n b c a false d))
   (some 0)
def zb1:Nat->z2k->Int->Int->Bool->z2i->Ot Int
 |0,_,_,_,_,_=>none
 |n+1,a,b,c,d,e=>
  pIf (e.kind==1)
   (pIf d
     (yzu n a b c (e.name==[]))
     (yzu n a b c false))
   (pIf (e.kind==2)
     (pIf d
       ((z2e n e.name).bind λh=>
       yzu n a b c h)
       (yzu n a b c false))
     (pIf (e.kind==3)
       (pIf d
         (pIf (decide ((e.name.length:Int)<=60))
           ((zgc n e.name).bind λg=>
           yzu n a b c (decide (g<0)))
           (yzu n a b c false))
         (yzu n a b c false))
       (yzu n a b c false)))
def yzu:Nat->z2k->Int->Int->Bool->Ot Int
 |0,_,_,_,_=>none
 |n+1,a,b,c,d=>
  pIf (!d)
   (some 8)
   (zb3 n (IntKind.i64.wrap (c+1)) a b)
end
def y58:LSh:=⟨[(2,dI)],[],0,62,[]⟩
def zrj:FI dat:=FI.of dat 60 62 0 [dL 10] [] [dI] [] true y58 (R:=Int) Prod.fst (·,()) (λn=>u1 (zj0 n))
 (λn=>[(0,⟨⟨[(12,dI),(10,dL 10),(11,dI)],[],0,62,[]⟩,u3 (zb3 n)⟩),(1,⟨⟨[(10,dL 10),(11,dI),(12,dI),(4,(.ptr 0 0)),(5,dB)],[(.st 10)],0,62,[]⟩,u5 (zb1 n)⟩),(2,⟨⟨[(10,dL 10),(11,dI),(12,dI),(5,dB)],[],0,62,[]⟩,u4 (yzu n)⟩)]) (anb [(14,0),(27,1),(46,2)] f60)
def y3v:FOk prog zrj:=okF (bs:=[y1q,zgw,zn7]) ⟨yfg,zi3,y02,trivial⟩ func60 ntmps60 call60
 (λ_ _=>tr (zj0.eq_2 ..))
 (λn=>⟨λ_=>tr (zb3.eq_2 ..),
  λ_=>tr (zb1.eq_2 ..),
  λ_=>tr (yzu.eq_2 ..),
  trivial⟩)
mutual
def zj7:Nat->yvv->z2k->Ot ((List Bool)×Int)
 |0,_,_=>none
 |n+1,a,b=>
  (zj0 n b).bind λd=>
  pIf (d != 0)
   (some ([],d))
   (zaw n 0 a b (a.length:Int) [] [])
def zaw:Nat->Int->yvv->z2k->Int->(List B8)->(List Bool)->Ot ((List Bool)×Int)
 |0,_,_,_,_,_,_=>none
 |n+1,a,b,c,d,e,f=>
  pIf (decide (a<d))
   ((ix b a).bind λg=>
   zaw n (IntKind.i64.wrap (a+1)) b c d (mks (z6n (List.zip e f) g.path true)) (mvs (z6n (List.zip e f) g.path true)))
   (zay n 0 c (c.length:Int) (mks (List.zip e f)) (mvs (List.zip e f)) [])
def zay:Nat->Int->z2k->Int->(List B8)->(List Bool)->(List Bool)->Ot ((List Bool)×Int)
 |0,_,_,_,_,_,_=>none
 |n+1,a,b,c,d,e,f=>
  pIf (decide (a<c))
   ((ix b a).bind λh=>
   (ext f [(Option.getD (z2u (List.zip d e) h.path) false)]).bind λg=>
   zay n (IntKind.i64.wrap (a+1)) b c (mks (List.zip d e)) (mvs (List.zip d e)) g)
   (some (f,0))
end
def y4p:LSh:=⟨[(4,(.d (.sl .bool))),(5,dI)],[],0,44,[]⟩
def zry:FI dat:=FI.of dat 24 44 0 [dL 15,dL 10] [] [(.d (.sl .bool)),dI] [] true y4p (R:=(List Bool)×Int) (λx=>(x.1,x.2.1)) (λr=>(r.1,r.2,())) (λn=>u2 (zj7 n))
 (λn=>[(0,⟨⟨[(21,dI),(7,(.map 0)),(19,dL 15),(1,dL 10),(20,dI)],[(.mp 86 .bool)],0,44,[]⟩,u6 (zaw n)⟩),(1,⟨⟨[(31,dI),(7,(.map 0)),(10,(.own 1)),(29,dL 10),(30,dI)],[(.mp 86 .bool),(.acc 4 .bool true)],0,44,[]⟩,u6 (zay n)⟩)]) (anb [(18,0),(37,1)] f24)
def y2u:FOk prog zry:=okF (bs:=[zrj]) ⟨y3v,trivial⟩ func24 ntmps24 call24
 (λ_ _=>tr (zj7.eq_2 ..))
 (λn=>⟨λ_=>tr (zaw.eq_2 ..),
  λ_=>tr (zay.eq_2 ..),
  trivial⟩)
mutual
def zoh:Nat->z2k->B8->B8->Ot (z2k×Int)
 |0,_,_,_=>none
 |n+1,a,b,c=>
  (zj7 n [] a).bind λd=>
  pIf (d.2 != 0)
   (some ([],d.2))
   ((z2e n b).bind λg=>
   pIf (!g)
    (zfa n c b a true)
    ((z2e n c).bind λe=>
    zfa n c b a (!e)))
def zfa:Nat->B8->B8->z2k->Bool->Ot (z2k×Int)
 |0,_,_,_,_=>none
 |n+1,a,b,c,d=>
  pIf d
   (some ([],12))
   (zf6 n a b 0 c (c.length:Int) [])
def zf6:Nat->B8->B8->Int->z2k->Int->z2k->Ot (z2k×Int)
 |0,_,_,_,_,_,_=>none
 |n+1,a,b,c,d,e,f=>
  pIf (decide (c<e))
   ((ix d c).bind λh=>
   (zgm n h.path [47]).bind λg=>
   zf7 n 0 a b d e c (g.length:Int) g h f)
   (some (f,0))
def zf7:Nat->Int->B8->B8->z2k->Int->Int->Int->(List B8)->z2i->z2k->Ot (z2k×Int)
 |0,_,_,_,_,_,_,_,_,_,_=>none
 |n+1,a,b,c,d,e,f,g,h,i,j=>
  pIf (decide (a<g))
   ((ix h a).bind λq=>
   (z8e n q [91]).bind λl=>
   pIf (l.1==c)
    ((ix h a).bind λs=>
    pIf l.2.2
     ((ix (h.set (Int.toNat a) b) a).bind λp=>
     (cat [91] l.2.1).bind λo=>
     (cat p o).bind λm=>
     (ix (h.set (Int.toNat a) b) a).bind λr=>
     zbw n b c d e f g a ((h.set (Int.toNat a) b).set (Int.toNat a) m) i j)
     (zbw n b c d e f g a (h.set (Int.toNat a) b) i j))
    (zbw n b c d e f g a h i j))
   ((zih n h [47]).bind λk=>
   pIf (i.kind==2)
    (zf1 n b c d e f (i.name==c) (z2i.mk k i.kind i.name) j)
    (zf1 n b c d e f false (z2i.mk k i.kind i.name) j))
def zbw:Nat->B8->B8->z2k->Int->Int->Int->Int->(List B8)->z2i->z2k->Ot (z2k×Int)
 |0,_,_,_,_,_,_,_,_,_,_=>none
 |n+1,a,b,c,d,e,f,g,h,i,j=>
  zf7 n (IntKind.i64.wrap (g+1)) a b c d e f h i j
def zf1:Nat->B8->B8->z2k->Int->Int->Bool->z2i->z2k->Ot (z2k×Int)
 |0,_,_,_,_,_,_,_,_=>none
 |n+1,a,b,c,d,e,f,g,h=>
  pIf f
   (zf2 n a b c d e (z2i.mk g.path g.kind a) h)
   (zf2 n a b c d e g h)
def zf2:Nat->B8->B8->z2k->Int->Int->z2i->z2k->Ot (z2k×Int)
 |0,_,_,_,_,_,_,_=>none
 |n+1,a,b,c,d,e,f,g=>
  (ext g [f]).bind λh=>
  zf6 n a b (IntKind.i64.wrap (e+1)) c d h
end
def yif:LSh:=⟨[(6,dL 10),(7,dI)],[],0,94,[]⟩
def zsa:FI dat:=FI.of dat 10 94 0 [dL 10,dS,dS] [] [dL 10,dI] [] true yif (R:=z2k×Int) (λx=>(x.1,x.2.1)) (λr=>(r.1,r.2,())) (λn=>u3 (zoh n))
 (λn=>[(0,⟨⟨[(2,dS),(1,dS),(0,dL 10),(34,dB)],[],0,94,[]⟩,u4 (zfa n)⟩),(1,⟨⟨[(2,dS),(1,dS),(37,dI),(10,(.own 0)),(35,dL 10),(36,dI)],[(.acc 51 (.st 10) true)],0,94,[]⟩,u6 (zf6 n)⟩),(2,⟨⟨[(46,dI),(13,(.own 0)),(2,dS),(1,dS),(44,(.own 0)),(35,dL 10),(36,dI),(37,dI),(12,(.ptr 1 0)),(10,(.own 2)),(45,dI)],[(.acc 9 .str true),(.st 10),(.acc 51 (.st 10) true)],0,94,[]⟩,u10 (zf7 n)⟩),(3,⟨⟨[(13,(.own 0)),(2,dS),(1,dS),(44,(.own 0)),(35,dL 10),(36,dI),(37,dI),(12,(.ptr 1 0)),(10,(.own 2)),(45,dI),(46,dI)],[(.acc 9 .str true),(.st 10),(.acc 51 (.st 10) true)],0,94,[]⟩,u10 (zbw n)⟩),(4,⟨⟨[(2,dS),(1,dS),(35,dL 10),(36,dI),(37,dI),(12,(.ptr 0 0)),(10,(.own 1)),(85,dB)],[(.st 10),(.acc 51 (.st 10) true)],0,94,[]⟩,u8 (zf1 n)⟩),(5,⟨⟨[(2,dS),(1,dS),(35,dL 10),(36,dI),(37,dI),(12,(.ptr 0 0)),(10,(.own 1))],[(.st 10),(.acc 51 (.st 10) true)],0,94,[]⟩,u7 (zf2 n)⟩)]) (anb [(15,0),(26,1),(43,2),(67,3),(73,4),(76,5)] f10)
def yeb:FOk prog zsa:=okF (bs:=[zwg,zry,zgw,zsp,zxl]) ⟨y7l,y2u,zi3,zo8,ya1,trivial⟩ func10 ntmps10 call10
 (λ_ _=>tr (zoh.eq_2 ..))
 (λn=>⟨λ_=>tr (zfa.eq_2 ..),
  λ_=>tr (zf6.eq_2 ..),
  λ_=>tr (zf7.eq_2 ..),
  λ_=>tr (zbw.eq_2 ..),
  λ_=>tr (zf1.eq_2 ..),
  λ_=>tr (zf2.eq_2 ..),
  trivial⟩)
def zbs:Nat->zz0->zz0->Ot Int
 |0,_,_=>none
 |n+1,a,b=>
  (z3h n a).bind λd=>
  pIf (d != 0)
   (some d)
   ((z3h n b).bind λe=>
   some e)
def yqh:LSh:=⟨[(4,dI)],[],0,13,[]⟩
def zg0:FI dat:=FI.of dat 42 13 0 [dT 8,dT 8] [] [dI] [] true yqh (R:=Int) Prod.fst (·,()) (λn=>u2 (zbs n))
 (λn=>[]) (anb [] f42)
def zw8:FOk prog zg0:=okF (bs:=[zls]) ⟨zph,trivial⟩ func42 ntmps42 call42
 (λn=>λ_=>tr (zbs.eq_2 _ _ n))
 (λn=>trivial)
mutual
def z9f:Nat->zz0->Ot ((List B8)×kz6)
 |0,_=>none
 |n+1,a=>
  z4e n 0 a.attrs (a.attrs.length:Int) [] []
def z4e:Nat->Int->zz7->Int->(List B8)->kz6->Ot ((List B8)×kz6)
 |0,_,_,_,_,_=>none
 |n+1,a,b,c,d,e=>
  pIf (decide (a<c))
   ((ix b a).bind λg=>
   z4e n (IntKind.i64.wrap (a+1)) b c (mks (z6n (List.zip d e) g.name g.value.re)) (mvs (z6n (List.zip d e) g.name g.value.re)))
   (some ((mks (List.zip d e)),(mvs (List.zip d e))))
end
def yco:LSh:=⟨[(2,(.map 0))],[(.mp 152 (.st 2))],0,21,[]⟩
def zpc:FI dat:=FI.of dat 87 21 0 [dT 8] [] [(.map 0)] [(.mp 152 (.st 2))] false yco (R:=(List B8)×kz6) (λx=>(x.1,x.2.1)) (λr=>(r.1,r.2,())) (λn=>u1 (z9f n))
 (λn=>[(0,⟨⟨[(10,dI),(3,(.map 0)),(8,dL 3),(9,dI)],[(.mp 152 (.st 2))],0,21,[]⟩,u5 (z4e n)⟩)]) (anb [(8,0)] f87)
def ybi:FOk prog zpc:=okF (bs:=[]) trivial func87 ntmps87 call87
 (λ_ _=>tr (z9f.eq_2 ..))
 (λn=>⟨λ_=>tr (z4e.eq_2 ..),
  trivial⟩)
mutual
def yzq:Nat->(List zz7)->Ot (Res (B8×Unit) zz7)
 |0,_=>none
 |n+1,a=>
  kzn n 0 0 a a (a.length:Int)
def kzn:Nat->Int->Int->(List zz7)->(List zz7)->Int->Ot (Res (B8×Unit) zz7)
 |0,_,_,_,_,_=>none
 |n+1,a,b,c,d,e=>
  pIf (decide (a<e))
   ((ix c a).bind λg=>
   pIf (decide ((IntKind.i64.wrap (b+(g.length:Int)))<0))
    (some (Res.pan ([108,101,110,32,111,117,116,32,111,102,32,114,97,110,103,101],())))
    (kzt n (IntKind.i64.wrap (b+(g.length:Int))) c d e a))
   ((z5x n [] b).bind λh=>
   zzg n 0 d (d.length:Int) h)
def kzt:Nat->Int->(List zz7)->(List zz7)->Int->Int->Ot (Res (B8×Unit) zz7)
 |0,_,_,_,_,_=>none
 |n+1,a,b,c,d,e=>
  kzn n (IntKind.i64.wrap (e+1)) a b c d
def zzg:Nat->Int->(List zz7)->Int->zz7->Ot (Res (B8×Unit) zz7)
 |0,_,_,_,_=>none
 |n+1,a,b,c,d=>
  pIf (decide (a<c))
   ((ix b a).bind λg=>
   (ext d g).bind λe=>
   zzg n (IntKind.i64.wrap (a+1)) b c e)
   (some (Res.ok d))
end
def zjh:LSh:=⟨[(2,dL 3)],[],0,36,[]⟩
def zzz:FI dat:=FI.ofP dat 88 36 0 [(.d (.sl (.sl (.st 3))))] [] [dL 3] [] (.iface 9 dS) [] [] zjh (R:=zz7) Prod.fst (·,()) (λn=>u1 (yzq n))
 (λn=>[(0,⟨⟨[(11,dI),(3,dI),(9,(.d (.sl (.sl (.st 3))))),(0,(.d (.sl (.sl (.st 3))))),(10,dI)],[],0,36,[]⟩,u5 (kzn n)⟩),(1,⟨⟨[(3,dI),(9,(.d (.sl (.sl (.st 3))))),(0,(.d (.sl (.sl (.st 3))))),(10,dI),(11,dI)],[],0,36,[]⟩,u5 (kzt n)⟩),(2,⟨⟨[(27,dI),(6,(.own 0)),(25,(.d (.sl (.sl (.st 3))))),(26,dI)],[(.acc 83 (.st 3) true)],0,36,[]⟩,u4 (zzg n)⟩)]) (anb [(8,0),(26,1),(33,2)] f88)
def zjn:List (FI dat):=[z6i]
def zjk:(zzz).Good prog dat (tb zjn):=FI.zk5 (hD:=kzg _) func88 ntmps88 call88 (by kernel_rfl) (Qac (by kernel_rfl)) (by kernel_rfl) (λn=>by kernel_rfl) trivial (λx=>by kernel_rfl) (λ_=>rfl) ⟨λ_=>rfl,λ_=>rfl,λ_=>rfl,trivial⟩
 (λ_ _=>tr (yzq.eq_2 ..))
 (λn=>⟨λ_=>tr (kzn.eq_2 ..),
  λ_=>tr (kzt.eq_2 ..),
  λ_=>tr (zzg.eq_2 ..),
  trivial⟩)
 (λx=>by kernel_rfl)
def zjs:OkL prog [zzz]:=zs9 (kzg _) (bs:=[z6i]) ⟨zkq,trivial⟩ zjk
def zix:FOk prog zzz:=zjs.1
def zdc:Nat->B8->(List B8)->(List Bool)->Ot (Bool×(List B8)×(List Bool))
 |0,_,_,_=>none
 |n+1,a,b,c=>
  some ((Option.getD (z2u (List.zip b c) a) false),(mks (List.zip b c)),(mvs (List.zip b c)))
def yhj:LSh:=⟨[(3,dB)],[(.cells [(.map 1)]),(.mp 86 .bool)],2,7,[]⟩
def y1l:FI dat:=FI.of dat 134 7 2 [dS,(.ptr 0 0)] [(.cells [(.map 1)]),(.mp 86 .bool)] [dB] [(.cells [(.map 1)]),(.mp 86 .bool)] false yhj (R:=Bool×(List B8)×(List Bool)) (λx=>(x.1,x.2.1,x.2.2.1)) (λr=>(r.1,r.2.1,r.2.2,())) (λn=>u3 (zdc n))
 (λn=>[]) (anb [] f134)
def yck:FOk prog y1l:=okF (bs:=[]) trivial func134 ntmps134 call134
 (λn=>λ_=>tr (zdc.eq_2 _ _ _ n))
 (λn=>trivial)
mutual
def yzv:Nat->(List B8)->(List B8)->(List Bool)->Ot (Int×(List B8)×(List Bool))
 |0,_,_,_=>none
 |n+1,a,b,c=>
  kzd n 0 a (a.length:Int) (mks (List.zip b c)) (mvs (List.zip b c))
def kzd:Nat->Int->(List B8)->Int->(List B8)->(List Bool)->Ot (Int×(List B8)×(List Bool))
 |0,_,_,_,_,_=>none
 |n+1,a,b,c,d,e=>
  pIf (decide (a<c))
   ((ix b a).bind λh=>
   (zdc n h (mks (List.zip d e)) (mvs (List.zip d e))).bind λg=>
   pIf g.1
    (some (a,(mks (List.zip g.2.1 g.2.2)),(mvs (List.zip g.2.1 g.2.2))))
    (kzd n (IntKind.i64.wrap (a+1)) b c (mks (List.zip g.2.1 g.2.2)) (mvs (List.zip g.2.1 g.2.2))))
   (some ((-1),(mks (List.zip d e)),(mvs (List.zip d e))))
end
def zi8:LSh:=⟨[(4,dI)],[(.cells [(.map 1)]),(.mp 86 .bool)],2,19,[]⟩
def za5:FI dat:=FI.of dat 95 19 2 [dA,(.fn 134 [] [(.ptr 0 0)])] [(.cells [(.map 1)]),(.mp 86 .bool)] [dI] [(.cells [(.map 1)]),(.mp 86 .bool)] false zi8 (R:=Int×(List B8)×(List Bool)) (λx=>(x.1,x.2.1,x.2.2.1)) (λr=>(r.1,r.2.1,r.2.2,())) (λn=>u3 (yzv n))
 (λn=>[(0,⟨⟨[(8,dI),(0,dA),(1,(.fn 134 [] [(.ptr 0 0)])),(7,dI)],[(.cells [(.map 1)]),(.mp 86 .bool)],2,19,[]⟩,u5 (kzd n)⟩)]) (anb [(6,0)] f95)
def zhq:FOk prog za5:=okF (bs:=[y1l]) ⟨yck,trivial⟩ func95 ntmps95 call95
 (λ_ _=>tr (yzv.eq_2 ..))
 (λn=>⟨λ_=>tr (kzd.eq_2 ..),
  trivial⟩)
def zzl:Nat->(List B8)->(List B8)->(List Bool)->Ot (Bool×(List B8)×(List Bool))
 |0,_,_,_=>none
 |n+1,a,b,c=>
  (yzv n a (mks (List.zip b c)) (mvs (List.zip b c))).bind λd=>
  some ((decide (d.1>=0)),(mks (List.zip d.2.1 d.2.2)),(mvs (List.zip d.2.1 d.2.2)))
def zfx:LSh:=⟨[(4,dB)],[(.cells [(.map 1)]),(.mp 86 .bool)],2,9,[]⟩
def z8k:FI dat:=FI.of dat 47 9 2 [dA,(.fn 134 [] [(.ptr 0 0)])] [(.cells [(.map 1)]),(.mp 86 .bool)] [dB] [(.cells [(.map 1)]),(.mp 86 .bool)] false zfx (R:=Bool×(List B8)×(List Bool)) (λx=>(x.1,x.2.1,x.2.2.1)) (λr=>(r.1,r.2.1,r.2.2,())) (λn=>u3 (zzl n))
 (λn=>[]) (anb [] f47)
def zfo:FOk prog z8k:=okF (bs:=[za5]) ⟨zhq,trivial⟩ func47 ntmps47 call47
 (λ_ _=>tr (zzl.eq_2 ..))
 (λn=>trivial)
def zbp:Nat->yz1->(List B8)->(List Bool)->Ot (Bool×(List B8)×(List Bool))
 |0,_,_,_=>none
 |n+1,a,b,c=>
  (zc0 n a.re).bind λe=>
  (zzl n e.1 (mks (List.zip b c)) (mvs (List.zip b c))).bind λd=>
  some (d.1,(mks (List.zip d.2.1 d.2.2)),(mvs (List.zip d.2.1 d.2.2)))
def ysg:LSh:=⟨[(4,dB)],[(.mp 86 .bool)],1,15,[]⟩
def zm8:FI dat:=FI.of dat 89 15 1 [dT 2,(.map 0)] [(.mp 86 .bool)] [dB] [(.mp 86 .bool)] false ysg (R:=Bool×(List B8)×(List Bool)) (λx=>(x.1,x.2.1,x.2.2.1)) (λr=>(r.1,r.2.1,r.2.2,())) (λn=>u3 (zbp n))
 (λn=>[]) (anb [] f89)
def zw2:FOk prog zm8:=okF (bs:=[z8k,zw3]) ⟨zfo,y1g,trivial⟩ func89 ntmps89 call89
 (λ_ _=>tr (zbp.eq_2 ..))
 (λn=>trivial)
mutual
def zcg:Nat->zz0->zz0->Ot (Res (B8×Unit) ((List B8)×(List Bool)))
 |0,_,_=>none
 |n+1,a,b=>
  (z9f n a).bind λe=>
  (z9f n b).bind λd=>
  z7m n [] [] (mks (List.zip d.1 d.2)) (mvs (List.zip d.1 d.2)) (mks (List.zip e.1 e.2)) (mvs (List.zip e.1 e.2)) b a
def z7m:Nat->(List B8)->(List Bool)->(List B8)->kz6->(List B8)->kz6->zz0->zz0->Ot (Res (B8×Unit) ((List B8)×(List Bool)))
 |0,_,_,_,_,_,_,_,_=>none
 |n+1,a,b,c,d,e,f,g,h=>
  (yzq n [h.attrs,g.attrs]).bind λj=>
  zsc j (λi=>
   z2l n 0 i ((List.zip a b).length:Int) (i.length:Int) (mks (List.zip a b)) (mvs (List.zip a b)) (mks (List.zip c d)) (mvs (List.zip c d)) (mks (List.zip e f)) (mvs (List.zip e f)) g h)
   (λk=>
   some (Res.pan (k.1,())))
def z2l:Nat->Int->zz7->Int->Int->(List B8)->(List Bool)->(List B8)->kz6->(List B8)->kz6->zz0->zz0->Ot (Res (B8×Unit) ((List B8)×(List Bool)))
 |0,_,_,_,_,_,_,_,_,_,_,_,_=>none
 |n+1,a,b,c,d,e,f,g,h,i,j,k,l=>
  pIf (decide (a<d))
   ((ix b a).bind λm=>
   pIf (!(Option.isSome (z2u (List.zip i j) m.name)))
    (z2r n b c d a true (mks (List.zip e f)) (mvs (List.zip e f)) (mks (List.zip g h)) (mvs (List.zip g h)) (mks (List.zip i j)) (mvs (List.zip i j)) k l m.re)
    (pIf (!(Option.isSome (z2u (List.zip g h) m.name)))
      (z2r n b c d a true (mks (List.zip e f)) (mvs (List.zip e f)) (mks (List.zip g h)) (mvs (List.zip g h)) (mks (List.zip i j)) (mvs (List.zip i j)) k l m.re)
      ((z2s n (Option.getD (z2u (List.zip i j) m.name) (yz1.mk 0 (zz1.mk 0 (yz6.mk 0 0) false [] []) [] [])).re (Option.getD (z2u (List.zip g h) m.name) (yz1.mk 0 (zz1.mk 0 (yz6.mk 0 0) false [] []) [] [])).re).bind λp=>
      pIf (!p)
       (z2r n b c d a true (mks (List.zip e f)) (mvs (List.zip e f)) (mks (List.zip g h)) (mvs (List.zip g h)) (mks (List.zip i j)) (mvs (List.zip i j)) k l m.re)
       ((zbp n m.value.re (mks (List.zip e f)) (mvs (List.zip e f))).bind λo=>
       z2r n b c d a o.1 (mks (List.zip o.2.1 o.2.2)) (mvs (List.zip o.2.1 o.2.2)) (mks (List.zip g h)) (mvs (List.zip g h)) (mks (List.zip i j)) (mvs (List.zip i j)) k l m.re))))
   (pIf (((List.zip e f).length:Int)==c)
     (some (Res.ok ((mks (List.zip e f)),(mvs (List.zip e f)))))
     (z7m n (mks (List.zip e f)) (mvs (List.zip e f)) (mks (List.zip g h)) (mvs (List.zip g h)) (mks (List.zip i j)) (mvs (List.zip i j)) k l))
def z2r:Nat->zz7->Int->Int->Int->Bool->(List B8)->(List Bool)->(List B8)->kz6->(List B8)->kz6->zz0->zz0->zz9->Ot (Res (B8×Unit) ((List B8)×(List Bool)))
 |0,_,_,_,_,_,_,_,_,_,_,_,_,_,_=>none
 |n+1,a,b,c,d,e,f,g,h,i,j,k,l,m,o=>
  pIf e
   (z7s n a b c d (mks (z6n (List.zip f g) o.name true)) (mvs (z6n (List.zip f g) o.name true)) (mks (List.zip h i)) (mvs (List.zip h i)) (mks (List.zip j k)) (mvs (List.zip j k)) l m)
   (z7s n a b c d (mks (List.zip f g)) (mvs (List.zip f g)) (mks (List.zip h i)) (mvs (List.zip h i)) (mks (List.zip j k)) (mvs (List.zip j k)) l m)
def z7s:Nat->zz7->Int->Int->Int->(List B8)->(List Bool)->(List B8)->kz6->(List B8)->kz6->zz0->zz0->Ot (Res (B8×Unit) ((List B8)×(List Bool)))
 |0,_,_,_,_,_,_,_,_,_,_,_,_=>none
 |n+1,a,b,c,d,e,f,g,h,i,j,k,l=>
  z2l n (IntKind.i64.wrap (d+1)) a b c (mks (List.zip e f)) (mvs (List.zip e f)) (mks (List.zip g h)) (mvs (List.zip g h)) (mks (List.zip i j)) (mvs (List.zip i j)) k l
end
def ynj:LSh:=⟨[(4,(.map 0))],[(.mp 86 .bool)],0,77,[]⟩
def ze2:FI dat:=FI.ofP dat 44 77 0 [dT 8,dT 8] [] [(.map 0)] [(.mp 86 .bool)] (.iface 9 dS) [] [] ynj (R:=(List B8)×(List Bool)) (λx=>(x.1,x.2.1)) (λr=>(r.1,r.2,())) (λn=>u2 (zcg n))
 (λn=>[(0,⟨⟨[(5,(.map 0)),(8,(.map 1)),(7,(.map 2)),(3,(.ptr 3 0)),(2,(.ptr 4 0))],[(.mp 86 .bool),(.mp 152 (.st 2)),(.mp 152 (.st 2)),(.st 8),(.st 8)],0,77,[]⟩,u8 (z7m n)⟩),(1,⟨⟨[(32,dI),(5,(.map 0)),(8,(.map 1)),(7,(.map 2)),(30,dL 3),(3,(.ptr 3 0)),(2,(.ptr 4 0)),(9,dI),(31,dI)],[(.mp 86 .bool),(.mp 152 (.st 2)),(.mp 152 (.st 2)),(.st 8),(.st 8)],0,77,[]⟩,u12 (z2l n)⟩),(2,⟨⟨[(5,(.map 0)),(8,(.map 1)),(7,(.map 2)),(30,dL 3),(3,(.ptr 3 0)),(2,(.ptr 4 0)),(9,dI),(31,dI),(32,dI),(11,(.ptr 5 0)),(67,dB)],[(.mp 86 .bool),(.mp 152 (.st 2)),(.mp 152 (.st 2)),(.st 8),(.st 8),(.st 3)],0,77,[]⟩,λx=>z2r n x.1 x.2.1 x.2.2.1 x.2.2.2.1 x.2.2.2.2.1 x.2.2.2.2.2.1 x.2.2.2.2.2.2.1 x.2.2.2.2.2.2.2.1 x.2.2.2.2.2.2.2.2.1 x.2.2.2.2.2.2.2.2.2.1 x.2.2.2.2.2.2.2.2.2.2.1 x.2.2.2.2.2.2.2.2.2.2.2.1 x.2.2.2.2.2.2.2.2.2.2.2.2.1 x.2.2.2.2.2.2.2.2.2.2.2.2.2.1⟩),(3,⟨⟨[(5,(.map 0)),(8,(.map 1)),(7,(.map 2)),(30,dL 3),(3,(.ptr 3 0)),(2,(.ptr 4 0)),(9,dI),(31,dI),(32,dI)],[(.mp 86 .bool),(.mp 152 (.st 2)),(.mp 152 (.st 2)),(.st 8),(.st 8)],0,77,[]⟩,u12 (z7s n)⟩)]) (anb [(9,0),(17,1),(34,2),(37,3)] f44)
def ymt:List (FI dat):=[zpc,zzz,zm8,zbr]
def ymi:(ze2).Good prog dat (tb ymt):=FI.zk5 (hD:=kzg _) func44 ntmps44 call44 (by kernel_rfl) (Qac (by kernel_rfl)) (by kernel_rfl) (λn=>by kernel_rfl) trivial (λx=>by kernel_rfl) (λ_=>rfl) ⟨λ_=>rfl,λ_=>rfl,λ_=>rfl,λ_=>rfl,trivial⟩
 (λ_ _=>tr (zcg.eq_2 ..))
 (λn=>⟨λ_=>tr (z7m.eq_2 ..),
  λ_=>tr (z2l.eq_2 ..),
  λ_=>tr (z2r.eq_2 ..),
  λ_=>tr (z7s.eq_2 ..),
  trivial⟩)
 (λx=>by kernel_rfl)
def ynw:OkL prog [ze2]:=zs9 (kzg _) (bs:=[zpc,zzz,zm8,zbr]) ⟨ybi,zix,zw2,znt,trivial⟩ ymi
def y25:FOk prog ze2:=ynw.1
mutual
def yzr:Nat->(List zz5)->Ot (Res (B8×Unit) zz5)
 |0,_=>none
 |n+1,a=>
  zzo n 0 0 a a (a.length:Int)
def zzo:Nat->Int->Int->(List zz5)->(List zz5)->Int->Ot (Res (B8×Unit) zz5)
 |0,_,_,_,_,_=>none
 |n+1,a,b,c,d,e=>
  pIf (decide (a<e))
   ((ix c a).bind λg=>
   pIf (decide ((IntKind.i64.wrap (b+(g.length:Int)))<0))
    (some (Res.pan ([108,101,110,32,111,117,116,32,111,102,32,114,97,110,103,101],())))
    (kzs n (IntKind.i64.wrap (b+(g.length:Int))) c d e a))
   ((z5g n [] b).bind λh=>
   yzg n 0 d (d.length:Int) h)
def kzs:Nat->Int->(List zz5)->(List zz5)->Int->Int->Ot (Res (B8×Unit) zz5)
 |0,_,_,_,_,_=>none
 |n+1,a,b,c,d,e=>
  zzo n (IntKind.i64.wrap (e+1)) a b c d
def yzg:Nat->Int->(List zz5)->Int->zz5->Ot (Res (B8×Unit) zz5)
 |0,_,_,_,_=>none
 |n+1,a,b,c,d=>
  pIf (decide (a<c))
   ((ix b a).bind λg=>
   (ext d g).bind λe=>
   yzg n (IntKind.i64.wrap (a+1)) b c e)
   (some (Res.ok d))
end
def zjl:LSh:=⟨[(2,dL 7)],[],0,36,[]⟩
def kzz:FI dat:=FI.ofP dat 90 36 0 [(.d (.sl (.sl (.st 7))))] [] [dL 7] [] (.iface 9 dS) [] [] zjl (R:=zz5) Prod.fst (·,()) (λn=>u1 (yzr n))
 (λn=>[(0,⟨⟨[(11,dI),(3,dI),(9,(.d (.sl (.sl (.st 7))))),(0,(.d (.sl (.sl (.st 7))))),(10,dI)],[],0,36,[]⟩,u5 (zzo n)⟩),(1,⟨⟨[(3,dI),(9,(.d (.sl (.sl (.st 7))))),(0,(.d (.sl (.sl (.st 7))))),(10,dI),(11,dI)],[],0,36,[]⟩,u5 (kzs n)⟩),(2,⟨⟨[(27,dI),(6,(.own 0)),(25,(.d (.sl (.sl (.st 7))))),(26,dI)],[(.acc 34 (.st 7) true)],0,36,[]⟩,u4 (yzg n)⟩)]) (anb [(8,0),(26,1),(33,2)] f90)
def zjq:List (FI dat):=[z6j]
def zjr:(kzz).Good prog dat (tb zjq):=FI.zk5 (hD:=kzg _) func90 ntmps90 call90 (by kernel_rfl) (Qac (by kernel_rfl)) (by kernel_rfl) (λn=>by kernel_rfl) trivial (λx=>by kernel_rfl) (λ_=>rfl) ⟨λ_=>rfl,λ_=>rfl,λ_=>rfl,trivial⟩
 (λ_ _=>tr (yzr.eq_2 ..))
 (λn=>⟨λ_=>tr (zzo.eq_2 ..),
  λ_=>tr (kzs.eq_2 ..),
  λ_=>tr (yzg.eq_2 ..),
  trivial⟩)
 (λx=>by kernel_rfl)
def zji:OkL prog [kzz]:=zs9 (kzg _) (bs:=[z6j]) ⟨zko,trivial⟩ zjr
def zj1:FOk prog kzz:=zji.1
def z99:Nat->zz9->zz9->Ot Bool
 |0,_,_=>none
 |n+1,a,b=>
  pIf (a.name==b.name)
   ((z2s n a.value.re b.value.re).bind λd=>
   some d)
   (some false)
def yg3:LSh:=⟨[(4,dB)],[],0,17,[]⟩
def y00:FI dat:=FI.of dat 137 17 0 [dT 3,dT 3] [] [dB] [] true yg3 (R:=Bool) Prod.fst (·,()) (λn=>u2 (z99 n))
 (λn=>[]) (anb [] f137)
def yav:FOk prog y00:=okF (bs:=[zbr]) ⟨znt,trivial⟩ func137 ntmps137 call137
 (λ_ _=>tr (z99.eq_2 ..))
 (λn=>trivial)
mutual
def yzk:Nat->zz7->zz7->Ot Bool
 |0,_,_=>none
 |n+1,a,b=>
  pIf ((a.length:Int) != (b.length:Int))
   (some false)
   (yza n 0 b a (a.length:Int))
def yza:Nat->Int->zz7->zz7->Int->Ot Bool
 |0,_,_,_,_=>none
 |n+1,a,b,c,d=>
  pIf (decide (a<d))
   ((ix c a).bind λh=>
   (ix b a).bind λg=>
   (z99 n h.re g.re).bind λe=>
   pIf (!e)
    (some false)
    (yza n (IntKind.i64.wrap (a+1)) b c d))
   (some true)
end
def z97:LSh:=⟨[(6,dB)],[],0,32,[]⟩
def z0z:FI dat:=FI.of dat 136 32 0 [dL 3,dL 3,(.fn 137 [] [])] [] [dB] [] true z97 (R:=Bool) Prod.fst (·,()) (λn=>u2 (yzk n))
 (λn=>[(0,⟨⟨[(17,dI),(2,(.fn 137 [] [])),(1,dL 3),(15,dL 3),(16,dI)],[],0,32,[]⟩,u4 (yza n)⟩)]) (anb [(14,0)] f136)
def z8o:FOk prog z0z:=okF (bs:=[y00]) ⟨yav,trivial⟩ func136 ntmps136 call136
 (λ_ _=>tr (yzk.eq_2 ..))
 (λn=>⟨λ_=>tr (yza.eq_2 ..),
  trivial⟩)
mutual
def z0o:Nat->(List B8)->(List B8)->Ot Bool
 |0,_,_=>none
 |n+1,a,b=>
  pIf ((a.length:Int) != (b.length:Int))
   (some false)
   (z05 n 0 b a (a.length:Int))
def z05:Nat->Int->(List B8)->(List B8)->Int->Ot Bool
 |0,_,_,_,_=>none
 |n+1,a,b,c,d=>
  pIf (decide (a<d))
   ((ix c a).bind λg=>
   (ix b a).bind λe=>
   pIf (!(g==e))
    (some false)
    (z05 n (IntKind.i64.wrap (a+1)) b c d))
   (some true)
end
def zmq:LSh:=⟨[(4,dB)],[],0,26,[]⟩
def zea:FI dat:=FI.of dat 140 26 0 [dA,dA] [] [dB] [] true zmq (R:=Bool) Prod.fst (·,()) (λn=>u2 (z0o n))
 (λn=>[(0,⟨⟨[(13,dI),(1,dA),(0,dA),(12,dI)],[],0,26,[]⟩,u4 (z05 n)⟩)]) (anb [(14,0)] f140)
def zmd:FOk prog zea:=okF (bs:=[]) trivial func140 ntmps140 call140
 (λ_ _=>tr (z0o.eq_2 ..))
 (λn=>⟨λ_=>tr (z05.eq_2 ..),
  trivial⟩)
def z60:Nat->kz6->kz6->Ot Bool
 |0,_,_=>none
 |n+1,a,b=>
  (yz8 n a b).bind λd=>
  some d
def y81:LSh:=⟨[(4,dB)],[],0,8,[]⟩
def zll:FI dat:=FI.of dat 201 8 0 [dL 2,dL 2] [] [dB] [] true y81 (R:=Bool) Prod.fst (·,()) (λn=>u2 (z60 n))
 (λn=>[]) (anb [] f201)
def zrt:FOk prog zll:=okF (bs:=[zzc]) ⟨z8q,trivial⟩ func201 ntmps201 call201
 (λ_ _=>tr (z60.eq_2 ..))
 (λn=>trivial)
def z3z:Nat->kzb->kzb->Ot Bool
 |0,_,_=>none
 |n+1,a,b=>
  pIf (a.kind==b.kind)
   (pIf (a.name==b.name)
     ((z60 n a.args b.args).bind λd=>
     some d)
     (some false))
   (some false)
def y57:LSh:=⟨[(4,dB)],[],0,24,[]⟩
def zrx:FI dat:=FI.of dat 203 24 0 [dT 4,dT 4] [] [dB] [] true y57 (R:=Bool) Prod.fst (·,()) (λn=>u2 (z3z n))
 (λn=>[]) (anb [] f203)
def y3q:FOk prog zrx:=okF (bs:=[zll]) ⟨zrt,trivial⟩ func203 ntmps203 call203
 (λ_ _=>tr (z3z.eq_2 ..))
 (λn=>trivial)
mutual
def yzj:Nat->zf0->zf0->Ot Bool
 |0,_,_=>none
 |n+1,a,b=>
  pIf ((a.length:Int) != (b.length:Int))
   (some false)
   (kz9 n 0 b a (a.length:Int))
def kz9:Nat->Int->zf0->zf0->Int->Ot Bool
 |0,_,_,_,_=>none
 |n+1,a,b,c,d=>
  pIf (decide (a<d))
   ((ix c a).bind λh=>
   (ix b a).bind λg=>
   (z3z n h g).bind λe=>
   pIf (!e)
    (some false)
    (kz9 n (IntKind.i64.wrap (a+1)) b c d))
   (some true)
end
def z9g:LSh:=⟨[(6,dB)],[],0,32,[]⟩
def z11:FI dat:=FI.of dat 202 32 0 [dL 4,dL 4,(.fn 203 [] [])] [] [dB] [] true z9g (R:=Bool) Prod.fst (·,()) (λn=>u2 (yzj n))
 (λn=>[(0,⟨⟨[(17,dI),(2,(.fn 203 [] [])),(1,dL 4),(15,dL 4),(16,dI)],[],0,32,[]⟩,u4 (kz9 n)⟩)]) (anb [(14,0)] f202)
def z8m:FOk prog z11:=okF (bs:=[zrx]) ⟨y3q,trivial⟩ func202 ntmps202 call202
 (λ_ _=>tr (yzj.eq_2 ..))
 (λn=>⟨λ_=>tr (kz9.eq_2 ..),
  trivial⟩)
def z1u:Nat->zz3->zz3->Ot Bool
 |0,_,_=>none
 |n+1,a,b=>
  pIf (a.kind==b.kind)
   (pIf (a.axis==b.axis)
     (pIf (a.name==b.name)
       ((z60 n a.args b.args).bind λe=>
       pIf e
        ((yzj n a.items b.items).bind λd=>
        some d)
        (some false))
       (some false))
     (some false))
   (some false)
def y0w:LSh:=⟨[(4,dB)],[],0,38,[]⟩
def zn3:FI dat:=FI.of dat 174 38 0 [dT 5,dT 5] [] [dB] [] true y0w (R:=Bool) Prod.fst (·,()) (λn=>u2 (z1u n))
 (λn=>[]) (anb [] f174)
def zxc:FOk prog zn3:=okF (bs:=[zll,z11]) ⟨zrt,z8m,trivial⟩ func174 ntmps174 call174
 (λ_ _=>tr (z1u.eq_2 ..))
 (λn=>trivial)
mutual
def yzc:Nat->z02->z02->Ot Bool
 |0,_,_=>none
 |n+1,a,b=>
  pIf ((a.length:Int) != (b.length:Int))
   (some false)
   (zz8 n 0 b a (a.length:Int))
def zz8:Nat->Int->z02->z02->Int->Ot Bool
 |0,_,_,_,_=>none
 |n+1,a,b,c,d=>
  pIf (decide (a<d))
   ((ix c a).bind λh=>
   (ix b a).bind λg=>
   (z1u n h g).bind λe=>
   pIf (!e)
    (some false)
    (zz8 n (IntKind.i64.wrap (a+1)) b c d))
   (some true)
end
def z62:LSh:=⟨[(6,dB)],[],0,32,[]⟩
def z07:FI dat:=FI.of dat 173 32 0 [dL 5,dL 5,(.fn 174 [] [])] [] [dB] [] true z62 (R:=Bool) Prod.fst (·,()) (λn=>u2 (yzc n))
 (λn=>[(0,⟨⟨[(17,dI),(2,(.fn 174 [] [])),(1,dL 5),(15,dL 5),(16,dI)],[],0,32,[]⟩,u4 (zz8 n)⟩)]) (anb [(14,0)] f173)
def z52:FOk prog z07:=okF (bs:=[zn3]) ⟨zxc,trivial⟩ func173 ntmps173 call173
 (λ_ _=>tr (yzc.eq_2 ..))
 (λn=>⟨λ_=>tr (zz8.eq_2 ..),
  trivial⟩)
end
end Go.Proofs.YthlmhmebajjkbaaGreatDoor
