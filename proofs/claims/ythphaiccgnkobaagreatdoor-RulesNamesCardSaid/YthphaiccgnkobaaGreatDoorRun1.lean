/-
  Go functions as Lean functions, by a program of this repo.
-/
import Derived.Test.YthphaiccgnkobaaGreatDoorRun0
namespace Go.Proofs.YthphaiccgnkobaaGreatDoor
open Go Go.Ab
open Tryz
set_option linter.unusedVariables false
set_option maxRecDepth 100000
set_option maxHeartbeats 4000000
noncomputable def z0l:Nat->(List B8)->B8->Ot Bool
 |0,_,_=>none
 |n+1,a,b=>
  (kz7 n a b).bind λy0=>
  some (decide (y0>=0))
noncomputable def zbj:LSh:=⟨[(4,dB)],[],0,9,[]⟩
noncomputable def z4e:FI dat:=FI.of dat 149 9 0 [dA,dS] [] [dB] [] true zbj (R:=Bool) Prod.fst (·,()) (λn=>u2 (z0l n))
 (λn=>[]) (anb [] f149)
theorem zb2:FOk prog z4e:=okF (bs:=[yze]) ⟨zzw,trivial⟩ func149 ntmps149 call149
 (λ_ _=>tr (z0l.eq_2 ..))
 (λn=>trivial)
noncomputable def z33:Nat->B8->Ot Bool
 |0,_=>none
 |n+1,a=>
  (zca n a).bind λy0=>
  pIf y0
   ((z0l n [[116,114,117,101],[102,97,108,115,101],[115,120],[115,121],[115,122]] a).bind λy1=>
   some (!y1))
   (some false)
noncomputable def zuk:LSh:=⟨[(2,dB)],[],0,11,[]⟩
noncomputable def zby:FI dat:=FI.of dat 88 11 0 [dS] [] [dB] [] true zuk (R:=Bool) Prod.fst (·,()) (λn=>u1 (z33 n))
 (λn=>[]) (anb [] f88)
theorem zex:FOk prog zby:=okF (bs:=[zhc,z4e]) ⟨zlr,zb2,trivial⟩ func88 ntmps88 call88
 (λ_ _=>tr (z33.eq_2 ..))
 (λn=>trivial)
mutual
noncomputable def z9t:Nat->yz1->Ot (Int×Int)
 |0,_=>none
 |n+1,a=>
  z5i n 0 1 1 a.args (a.args.length:Int)
noncomputable def z5i:Nat->Int->Int->Int->zzo->Int->Ot (Int×Int)
 |0,_,_,_,_,_=>none
 |n+1,a,b,c,d,e=>
  pIf (decide (a<e))
   ((ix d a).bind λx0=>
   (z9t n x0.re).bind λy1=>
   z5i n (IntKind.i64.wrap (a+1)) (mxI b (IntKind.i64.wrap (y1.2+1))) (IntKind.i64.wrap (c+y1.1)) d e)
   (some (c,b))
end
noncomputable def zss:LSh:=⟨[(2,dI),(3,dI)],[],0,30,[]⟩
noncomputable def z7c:FI dat:=FI.of dat 150 30 0 [dT 5] [] [dI,dI] [] true zss (R:=Int×Int) (λx=>(x.1,x.2.1)) (λr=>(r.1,r.2,())) (λn=>u1 (z9t n))
 (λn=>[(0,⟨⟨[(11,dI),(3,dI),(2,dI),(9,dL 5),(10,dI)],[],0,30,[]⟩,u5 (z5i n)⟩)]) (anb [(8,0)] f150)
noncomputable def zt3:List (FI dat):=[z7c]++[]
theorem zry:(z7c).Good prog dat (tb zt3):=FI.z42 (hD:=kza _) func150 ntmps150 call150 (by kernel_rfl) (Qac (by kernel_rfl)) (by kernel_rfl) (λn=>by kernel_rfl) (λx=>by kernel_rfl) (λ_=>rfl) ⟨λ_=>rfl,trivial⟩
 (λ_ _=>tr (z9t.eq_2 ..))
 (λn=>⟨λ_=>tr (z5i.eq_2 ..),
  trivial⟩)
 (λx=>.inl rfl)
theorem ztm:OkL prog [z7c]:=zc7 (kza _) (bs:=[]) trivial ⟨zry,trivial⟩
theorem zqq:FOk prog z7c:=ztm.1
mutual
noncomputable def zfs:Nat->Int->Ot Int
 |0,_=>none
 |n+1,a=>
  pIf (a==12)
   (z06 n 3)
   (pIf (a==3)
     (yzl n (-2) a true)
     (pIf (a==4)
       (yzl n (-2) a true)
       (pIf (a==5)
         (yzl n (-2) a true)
         (pIf (a==6)
           (yzl n (-2) a true)
           (pIf (a==7)
             (yzl n (-2) a true)
             (pIf (a==8)
               (yzl n (-2) a true)
               (pIf (a==9)
                 (yzl n (-2) a true)
                 (yzl n (-2) a (a==10)))))))))
noncomputable def yzl:Nat->Int->Int->Bool->Ot Int
 |0,_,_,_=>none
 |n+1,a,b,c=>
  pIf c
   (z8l n)
   (pIf (b==13)
     (z4q n a b true)
     (pIf (b==14)
       (z4q n a b true)
       (z4q n a b (b==17))))
noncomputable def z4q:Nat->Int->Int->Bool->Ot Int
 |0,_,_,_=>none
 |n+1,a,b,c=>
  pIf c
   (z8l n)
   (pIf (b==11)
     (z4n n a b true)
     (pIf (b==15)
       (z4n n a b true)
       (z4n n a b (b==16))))
noncomputable def z4n:Nat->Int->Int->Bool->Ot Int
 |0,_,_,_=>none
 |n+1,a,b,c=>
  pIf c
   (z06 n 1)
   (pIf (b==1)
     (z8q n a b true)
     (z8q n a b (b==2)))
noncomputable def z8q:Nat->Int->Int->Bool->Ot Int
 |0,_,_,_=>none
 |n+1,a,b,c=>
  pIf c
   (z06 n 0)
   (pIf (b==18)
     (z06 n (-1))
     (z06 n a))
noncomputable def z8l:Nat->Option Int
 |0=>none
 |n+1=>
  z06 n 2
noncomputable def z06:Nat->Int->Ot Int
 |0,_=>none
 |n+1,a=>
  some a
end
noncomputable def zxa:LSh:=⟨[(2,dI)],[],0,30,[]⟩
noncomputable def zh8:FI dat:=FI.of dat 194 30 0 [dU] [] [dI] [] true zxa (R:=Int) Prod.fst (·,()) (λn=>u1 (zfs n))
 (λn=>[(0,⟨⟨[(3,dI),(4,dU),(7,dB)],[],0,30,[]⟩,u3 (yzl n)⟩),(1,⟨⟨[(3,dI),(4,dU),(16,dB)],[],0,30,[]⟩,u3 (z4q n)⟩),(2,⟨⟨[(3,dI),(4,dU),(20,dB)],[],0,30,[]⟩,u3 (z4n n)⟩),(3,⟨⟨[(3,dI),(4,dU),(24,dB)],[],0,30,[]⟩,u3 (z8q n)⟩),(4,⟨⟨[],[],0,30,[]⟩,λx=>z8l n⟩),(5,⟨⟨[(3,dI)],[],0,30,[]⟩,u1 (z06 n)⟩)]) (anb [(57,0),(71,1),(85,2),(95,3),(107,4),(119,5)] f194)
theorem zu8:FOk prog zh8:=okF (bs:=[]) trivial func194 ntmps194 call194
 (λ_ _=>tr (zfs.eq_2 ..))
 (λn=>⟨λ_=>tr (yzl.eq_2 ..),
  λ_=>tr (z4q.eq_2 ..),
  λ_=>tr (z4n.eq_2 ..),
  λ_=>tr (z8q.eq_2 ..),
  λx=>(z8l.eq_2 n).trans (by kernel_rfl),
  λ_=>tr (z06.eq_2 _ n),
  trivial⟩)
mutual
noncomputable def z7s:Nat->kz0->Ot (Int×Int)
 |0,_=>none
 |n+1,a=>
  pIf (a.kind==4)
   (z4j n 0 1 1 a.list (a.list.length:Int))
   (z4i n 1 1)
noncomputable def z4j:Nat->Int->Int->Int->z3v->Int->Ot (Int×Int)
 |0,_,_,_,_,_=>none
 |n+1,a,b,c,d,e=>
  pIf (decide (a<e))
   ((ix d a).bind λx0=>
   (z7s n x0.re).bind λy1=>
   z4j n (IntKind.i64.wrap (a+1)) (mxI b (IntKind.i64.wrap (y1.2+1))) (IntKind.i64.wrap (c+y1.1)) d e)
   (z4i n b c)
noncomputable def z4i:Nat->Int->Int->Ot (Int×Int)
 |0,_,_=>none
 |n+1,a,b=>
  some (b,a)
end
noncomputable def zr7:LSh:=⟨[(2,dI),(3,dI)],[],0,33,[]⟩
noncomputable def z5t:FI dat:=FI.of dat 237 33 0 [dT 4] [] [dI,dI] [] true zr7 (R:=Int×Int) (λx=>(x.1,x.2.1)) (λr=>(r.1,r.2,())) (λn=>u1 (z7s n))
 (λn=>[(0,⟨⟨[(14,dI),(3,dI),(2,dI),(12,dL 4),(13,dI)],[],0,33,[]⟩,u5 (z4j n)⟩),(1,⟨⟨[(3,dI),(2,dI)],[],0,33,[]⟩,u2 (z4i n)⟩)]) (anb [(11,0),(29,1)] f237)
noncomputable def zr6:List (FI dat):=[z5t]++[]
theorem zqv:(z5t).Good prog dat (tb zr6):=FI.z42 (hD:=kza _) func237 ntmps237 call237 (by kernel_rfl) (Qac (by kernel_rfl)) (by kernel_rfl) (λn=>by kernel_rfl) (λx=>by kernel_rfl) (λ_=>rfl) ⟨λ_=>rfl,λ_=>rfl,trivial⟩
 (λ_ _=>tr (z7s.eq_2 ..))
 (λn=>⟨λ_=>tr (z4j.eq_2 ..),
  λ_=>tr (z4i.eq_2 _ _ n),
  trivial⟩)
 (λx=>.inl rfl)
theorem zqy:OkL prog [z5t]:=zc7 (kza _) (bs:=[]) trivial ⟨zqv,trivial⟩
theorem zoq:FOk prog z5t:=zqy.1
noncomputable def zc6:Nat->Int->Ot Int
 |0,_=>none
 |n+1,a=>
  pIf (decide (a<0))
   (some (IntKind.u64.wrap (0-(IntKind.u64.wrap a))))
   (some (IntKind.u64.wrap a))
noncomputable def zvt:LSh:=⟨[(2,(.d (.int .u64)))],[],0,10,[]⟩
noncomputable def zny:FI dat:=FI.of dat 284 10 0 [dI] [] [(.d (.int .u64))] [] true zvt (R:=Int) Prod.fst (·,()) (λn=>u1 (zc6 n))
 (λn=>[]) (anb [] f284)
theorem zux:FOk prog zny:=okF (bs:=[]) trivial func284 ntmps284 call284
 (λn=>λ_=>tr (zc6.eq_2 _ n))
 (λn=>trivial)
mutual
noncomputable def zgr:Nat->Int->Int->Ot Int
 |0,_,_=>none
 |n+1,a,b=>
  z9y n b a
noncomputable def z9y:Nat->Int->Int->Ot Int
 |0,_,_=>none
 |n+1,a,b=>
  pIf (a != 0)
   ((rem .u64 b a).bind λx0=>
   z9y n x0 a)
   (some b)
end
noncomputable def zyc:LSh:=⟨[(4,(.d (.int .u64)))],[],0,12,[]⟩
noncomputable def zqd:FI dat:=FI.of dat 285 12 0 [(.d (.int .u64)),(.d (.int .u64))] [] [(.d (.int .u64))] [] true zyc (R:=Int) Prod.fst (·,()) (λn=>u2 (zgr n))
 (λn=>[(0,⟨⟨[(1,(.d (.int .u64))),(0,(.d (.int .u64)))],[],0,12,[]⟩,u2 (z9y n)⟩)]) (anb [(4,0)] f285)
theorem zw3:FOk prog zqd:=okF (bs:=[]) trivial func285 ntmps285 call285
 (λ_ _=>tr (zgr.eq_2 ..))
 (λn=>⟨λ_=>tr (z9y.eq_2 ..),
  trivial⟩)
mutual
noncomputable def z7p:Nat->kz2->Ot Int
 |0,_=>none
 |n+1,a=>
  pIf (decide (a.den<1))
   (z25 n true)
   (pIf (decide (a.den>1000000000))
     (z25 n true)
     ((zc6 n a.num).bind λy0=>
     pIf (decide (y0>1000000000))
      (z25 n true)
      ((zc6 n a.num).bind λy1=>
      (zgr n y1 (IntKind.u64.wrap a.den)).bind λy2=>
      z25 n (y2 != 1))))
noncomputable def z25:Nat->Bool->Ot Int
 |0,_=>none
 |n+1,a=>
  pIf a
   (some 8)
   (some 0)
end
noncomputable def zuc:LSh:=⟨[(2,dI)],[],0,27,[]⟩
noncomputable def z9k:FI dat:=FI.of dat 267 27 0 [dT 3] [] [dI] [] true zuc (R:=Int) Prod.fst (·,()) (λn=>u1 (z7p n))
 (λn=>[(0,⟨⟨[(26,dB)],[],0,27,[]⟩,u1 (z25 n)⟩)]) (anb [(5,0)] f267)
theorem zeq:FOk prog z9k:=okF (bs:=[zny,zqd]) ⟨zux,zw3,trivial⟩ func267 ntmps267 call267
 (λ_ _=>tr (z7p.eq_2 ..))
 (λn=>⟨λ_=>tr (z25.eq_2 _ n),
  trivial⟩)
mutual
noncomputable def zc9:Nat->kz0->Ot Bool
 |0,_=>none
 |n+1,a=>
  pIf (a.kind==1)
   ((z7p n a.num).bind λy0=>
   pIf (y0 != 0)
    (some false)
    (z32 n (kz0.mk a.kind (kz2.mk 0 0) a.truth a.str a.list)))
   (pIf (a.kind==2)
     (z32 n (kz0.mk a.kind a.num false a.str a.list))
     (pIf (a.kind==3)
       (pIf (decide ((a.str.length:Int)>60))
         (some false)
         (z81 n 0 a.re (kz0.mk a.kind a.num a.truth [] a.list)))
       (pIf (a.kind==4)
         (z8n n 0 a.list (a.list.length:Int) (kz0.mk a.kind a.num a.truth a.str []))
         (some false))))
noncomputable def z81:Nat->Int->kz0->kz0->Ot Bool
 |0,_,_,_=>none
 |n+1,a,b,c=>
  pIf (decide (a<(b.str.length:Int)))
   ((ix b.str a).bind λx1=>
   pIf (decide ((x1.toNat:Int)<32))
    (z7u n a true b.re c.re)
    ((ix b.str a).bind λx2=>
    z7u n a (decide ((x2.toNat:Int)>126)) b.re c.re))
   (z32 n c.re)
noncomputable def z7u:Nat->Int->Bool->kz0->kz0->Ot Bool
 |0,_,_,_,_=>none
 |n+1,a,b,c,d=>
  pIf b
   (some false)
   (z81 n (IntKind.i64.wrap (a+1)) c.re d.re)
noncomputable def z8n:Nat->Int->z3v->Int->kz0->Ot Bool
 |0,_,_,_,_=>none
 |n+1,a,b,c,d=>
  pIf (decide (a<c))
   ((ix b a).bind λx3=>
   (zc9 n x3.re).bind λy4=>
   pIf (!y4)
    (some false)
    (z8n n (IntKind.i64.wrap (a+1)) b c d.re))
   (z32 n d.re)
noncomputable def z32:Nat->kz0->Ot Bool
 |0,_=>none
 |n+1,a=>
  pIf ((a.num.num==0)&&((a.num.den==0)&&true))
   (pIf (!a.truth)
     (pIf (a.str==[])
       (some ((a.list.length:Int)==0))
       (some false))
     (some false))
   (some false)
end
noncomputable def zxm:LSh:=⟨[(2,dB)],[],0,81,[]⟩
noncomputable def zbd:FI dat:=FI.of dat 238 81 0 [dT 4] [] [dB] [] true zxm (R:=Bool) Prod.fst (·,()) (λn=>u1 (zc9 n))
 (λn=>[(0,⟨⟨[(4,dI),(1,(.ptr 0 0)),(3,(.ptr 1 0))],[(.st 4),(.st 4)],0,81,[]⟩,u3 (z81 n)⟩),(1,⟨⟨[(1,(.ptr 0 0)),(3,(.ptr 1 0)),(4,dI),(46,dB)],[(.st 4),(.st 4)],0,81,[]⟩,u4 (z7u n)⟩),(2,⟨⟨[(53,dI),(51,dL 4),(3,(.ptr 0 0)),(52,dI)],[(.st 4)],0,81,[]⟩,u4 (z8n n)⟩),(3,⟨⟨[(3,(.ptr 0 0))],[(.st 4)],0,81,[]⟩,u1 (z32 n)⟩)]) (anb [(40,0),(51,1),(65,2),(87,3)] f238)
noncomputable def zx2:List (FI dat):=[zbd]++[z9k]
theorem zwm:(zbd).Good prog dat (tb zx2):=FI.z42 (hD:=kza _) func238 ntmps238 call238 (by kernel_rfl) (Qac (by kernel_rfl)) (by kernel_rfl) (λn=>by kernel_rfl) (λx=>by kernel_rfl) (λ_=>rfl) ⟨λ_=>rfl,λ_=>rfl,λ_=>rfl,λ_=>rfl,trivial⟩
 (λ_ _=>tr (zc9.eq_2 ..))
 (λn=>⟨λ_=>tr (z81.eq_2 ..),
  λ_=>tr (z7u.eq_2 ..),
  λ_=>tr (z8n.eq_2 ..),
  λ_=>tr (z32.eq_2 _ n),
  trivial⟩)
 (λx=>.inl rfl)
theorem zwr:OkL prog [zbd]:=zc7 (kza _) (bs:=[z9k]) ⟨zeq,trivial⟩ ⟨zwm,trivial⟩
theorem zus:FOk prog zbd:=zwr.1
mutual
noncomputable def z7l:Nat->kz0->Ot Int
 |0,_=>none
 |n+1,a=>
  (z7s n a.re).bind λy0=>
  pIf (decide (y0.1>100))
   (z6d n true a.re)
   (z6d n (decide (y0.2>6)) a.re)
noncomputable def z6d:Nat->Bool->kz0->Ot Int
 |0,_,_=>none
 |n+1,a,b=>
  pIf a
   (some 4)
   ((zc9 n b.re).bind λy1=>
   pIf (!y1)
    (some 8)
    (some 0))
end
noncomputable def zu2:LSh:=⟨[(2,dI)],[],0,19,[]⟩
noncomputable def z9g:FI dat:=FI.of dat 195 19 0 [dT 4] [] [dI] [] true zu2 (R:=Int) Prod.fst (·,()) (λn=>u1 (z7l n))
 (λn=>[(0,⟨⟨[(1,(.ptr 0 0)),(15,dB)],[(.st 4)],0,19,[]⟩,u2 (z6d n)⟩)]) (anb [(7,0)] f195)
theorem zeo:FOk prog z9g:=okF (bs:=[z5t,zbd]) ⟨zoq,zus,trivial⟩ func195 ntmps195 call195
 (λ_ _=>tr (z7l.eq_2 ..))
 (λn=>⟨λ_=>tr (z6d.eq_2 ..),
  trivial⟩)
noncomputable def zg0:Nat->B8->Ot Bool
 |0,_=>none
 |n+1,a=>
  (zca n a).bind λy0=>
  pIf y0
   (pIf (!(a==[116,114,117,101]))
     (some (!(a==[102,97,108,115,101])))
     (some false))
   (some false)
noncomputable def zxq:LSh:=⟨[(2,dB)],[],0,13,[]⟩
noncomputable def zgu:FI dat:=FI.of dat 196 13 0 [dS] [] [dB] [] true zxq (R:=Bool) Prod.fst (·,()) (λn=>u1 (zg0 n))
 (λn=>[]) (anb [] f196)
theorem zuo:FOk prog zgu:=okF (bs:=[zhc]) ⟨zlr,trivial⟩ func196 ntmps196 call196
 (λ_ _=>tr (zg0.eq_2 ..))
 (λn=>trivial)
mutual
noncomputable def z9e:Nat->kz0->kz0->Ot Bool
 |0,_,_=>none
 |n+1,a,b=>
  pIf (a.kind != b.kind)
   (z15 n true b.re a.re)
   (pIf (!((a.num.num==b.num.num)&&((a.num.den==b.num.den)&&true)))
     (z15 n true b.re a.re)
     (pIf (!(a.truth==b.truth))
       (z15 n true b.re a.re)
       (pIf (!(a.str==b.str))
         (z15 n true b.re a.re)
         (z15 n ((a.list.length:Int) != (b.list.length:Int)) b.re a.re))))
noncomputable def z15:Nat->Bool->kz0->kz0->Ot Bool
 |0,_,_,_=>none
 |n+1,a,b,c=>
  pIf a
   (some false)
   (z84 n 0 (c.list.length:Int) b.re c.re)
noncomputable def z84:Nat->Int->Int->kz0->kz0->Ot Bool
 |0,_,_,_,_=>none
 |n+1,a,b,c,d=>
  pIf (decide (a<b))
   ((ix d.list a).bind λx0=>
   (ix c.list a).bind λx1=>
   (z9e n x0.re x1.re).bind λy2=>
   pIf (!y2)
    (some false)
    (z84 n (IntKind.i64.wrap (a+1)) b c.re d.re))
   (some true)
end
noncomputable def zw5:LSh:=⟨[(4,dB)],[],0,60,[]⟩
noncomputable def z8d:FI dat:=FI.of dat 143 60 0 [dT 4,dT 4] [] [dB] [] true zw5 (R:=Bool) Prod.fst (·,()) (λn=>u2 (z9e n))
 (λn=>[(0,⟨⟨[(3,(.ptr 0 0)),(2,(.ptr 1 0)),(40,dB)],[(.st 4),(.st 4)],0,60,[]⟩,u3 (z15 n)⟩),(1,⟨⟨[(44,dI),(3,(.ptr 0 0)),(2,(.ptr 1 0)),(43,dI)],[(.st 4),(.st 4)],0,60,[]⟩,u4 (z84 n)⟩)]) (anb [(5,0),(14,1)] f143)
noncomputable def zwc:List (FI dat):=[z8d]++[]
theorem zws:(z8d).Good prog dat (tb zwc):=FI.z42 (hD:=kza _) func143 ntmps143 call143 (by kernel_rfl) (Qac (by kernel_rfl)) (by kernel_rfl) (λn=>by kernel_rfl) (λx=>by kernel_rfl) (λ_=>rfl) ⟨λ_=>rfl,λ_=>rfl,trivial⟩
 (λ_ _=>tr (z9e.eq_2 ..))
 (λn=>⟨λ_=>tr (z15.eq_2 ..),
  λ_=>tr (z84.eq_2 ..),
  trivial⟩)
 (λx=>.inl rfl)
theorem zxv:OkL prog [z8d]:=zc7 (kza _) (bs:=[]) trivial ⟨zws,trivial⟩
theorem zu0:FOk prog z8d:=zxv.1
mutual
noncomputable def zdy:Nat->yz1->Ot Bool
 |0,_=>none
 |n+1,a=>
  (zfs n a.op).bind λy0=>
  pIf (y0==(-2))
   (z5u n true a.re)
   (pIf (decide (y0>=0))
     (z5u n ((a.args.length:Int) != y0) a.re)
     (z5u n false a.re))
noncomputable def z5u:Nat->Bool->yz1->Ot Bool
 |0,_,_=>none
 |n+1,a,b=>
  pIf a
   (some false)
   (pIf (b.op==1)
     ((z7l n b.value.re).bind λy1=>
     pIf (y1 != 0)
      (z5q n true b.re)
      (pIf (b.value.kind==4)
        (z5q n true b.re)
        (z5q n (!(b.name==[])) b.re)))
     (pIf (b.op==2)
       ((zg0 n b.name).bind λy2=>
       pIf (!y2)
        (z9v n true b.re)
        ((z9e n b.value.re (kz0.mk 0 (kz2.mk 0 0) false [] [])).bind λy3=>
        z9v n (!y3) b.re))
       (pIf (!(b.name==[]))
         (z9r n true b.re)
         ((z9e n b.value.re (kz0.mk 0 (kz2.mk 0 0) false [] [])).bind λy4=>
         z9r n (!y4) b.re))))
noncomputable def z5q:Nat->Bool->yz1->Ot Bool
 |0,_,_=>none
 |n+1,a,b=>
  pIf a
   (some false)
   (z5v n b.re)
noncomputable def z9v:Nat->Bool->yz1->Ot Bool
 |0,_,_=>none
 |n+1,a,b=>
  pIf a
   (some false)
   (z5v n b.re)
noncomputable def z9r:Nat->Bool->yz1->Ot Bool
 |0,_,_=>none
 |n+1,a,b=>
  pIf a
   (some false)
   (z5v n b.re)
noncomputable def z5v:Nat->yz1->Ot Bool
 |0,_=>none
 |n+1,a=>
  (zzi n a.args).bind λy5=>
  some (!y5)
noncomputable def zzi:Nat->zzo->Ot Bool
 |0,_=>none
 |n+1,a=>
  (zzm n a).bind λy0=>
  some (decide (y0>=0))
noncomputable def zzm:Nat->zzo->Ot Int
 |0,_=>none
 |n+1,a=>
  zza n 0 a (a.length:Int)
noncomputable def zza:Nat->Int->zzo->Int->Ot Int
 |0,_,_,_=>none
 |n+1,a,b,c=>
  pIf (decide (a<c))
   ((ix b a).bind λx0=>
   (zep n x0.re).bind λy1=>
   pIf y1
    (some a)
    (zza n (IntKind.i64.wrap (a+1)) b c))
   (some (-1))
noncomputable def zep:Nat->yz1->Ot Bool
 |0,_=>none
 |n+1,a=>
  (zdy n a.re).bind λy0=>
  some (!y0)
end
noncomputable def y02:LSh:=⟨[(2,dB)],[],0,66,[]⟩
noncomputable def zcp:FI dat:=FI.of dat 151 66 0 [dT 5] [] [dB] [] true y02 (R:=Bool) Prod.fst (·,()) (λn=>u1 (zdy n))
 (λn=>[(0,⟨⟨[(1,(.ptr 0 0)),(19,dB)],[(.st 5)],0,66,[]⟩,u2 (z5u n)⟩),(1,⟨⟨[(1,(.ptr 0 0)),(48,dB)],[(.st 5)],0,66,[]⟩,u2 (z5q n)⟩),(2,⟨⟨[(1,(.ptr 0 0)),(61,dB)],[(.st 5)],0,66,[]⟩,u2 (z9v n)⟩),(3,⟨⟨[(1,(.ptr 0 0)),(31,dB)],[(.st 5)],0,66,[]⟩,u2 (z9r n)⟩),(4,⟨⟨[(1,(.ptr 0 0))],[(.st 5)],0,66,[]⟩,u1 (z5v n)⟩)]) (anb [(7,0),(21,1),(31,2),(38,3),(43,4)] f151)
noncomputable def z5a:LSh:=⟨[(4,dB)],[],0,9,[]⟩
noncomputable def zzj:FI dat:=FI.of dat 36 9 0 [dL 5,(.fn 197 [] [])] [] [dB] [] true z5a (R:=Bool) Prod.fst (·,()) (λn=>u1 (zzi n))
 (λn=>[]) (anb [] f36)
noncomputable def z6x:LSh:=⟨[(4,dI)],[],0,19,[]⟩
noncomputable def zzp:FI dat:=FI.of dat 95 19 0 [dL 5,(.fn 197 [] [])] [] [dI] [] true z6x (R:=Int) Prod.fst (·,()) (λn=>u1 (zzm n))
 (λn=>[(0,⟨⟨[(8,dI),(0,dL 5),(1,(.fn 197 [] [])),(7,dI)],[],0,19,[]⟩,u3 (zza n)⟩)]) (anb [(6,0)] f95)
noncomputable def zuh:LSh:=⟨[(2,dB)],[],0,6,[]⟩
noncomputable def zfr:FI dat:=FI.of dat 197 6 0 [dT 5] [] [dB] [] true zuh (R:=Bool) Prod.fst (·,()) (λn=>u1 (zep n))
 (λn=>[]) (anb [] f197)
noncomputable def zfm:List (FI dat):=[zcp,zzj,zzp,zfr]++[zh8,z9g,zgu,z8d]
theorem zyi:(zcp).Good prog dat (tb zfm):=FI.z42 (hD:=kza _) func151 ntmps151 call151 (by kernel_rfl) (Qac (by kernel_rfl)) (by kernel_rfl) (λn=>by kernel_rfl) (λx=>by kernel_rfl) (λ_=>rfl) ⟨λ_=>rfl,λ_=>rfl,λ_=>rfl,λ_=>rfl,λ_=>rfl,trivial⟩
 (λ_ _=>tr (zdy.eq_2 ..))
 (λn=>⟨λ_=>tr (z5u.eq_2 ..),
  λ_=>tr (z5q.eq_2 ..),
  λ_=>tr (z9v.eq_2 ..),
  λ_=>tr (z9r.eq_2 ..),
  λ_=>tr (z5v.eq_2 ..),
  trivial⟩)
 (λx=>.inl rfl)
theorem z5m:(zzj).Good prog dat (tb zfm):=FI.z42 (hD:=kza _) func36 ntmps36 call36 (by kernel_rfl) (Qac (by kernel_rfl)) (by kernel_rfl) (λn=>by kernel_rfl) (λx=>by kernel_rfl) (λ_=>rfl) trivial
 (λ_ _=>tr (zzi.eq_2 ..))
 (λn=>trivial)
 (λx=>.inl rfl)
theorem z73:(zzp).Good prog dat (tb zfm):=FI.z42 (hD:=kza _) func95 ntmps95 call95 (by kernel_rfl) (Qac (by kernel_rfl)) (by kernel_rfl) (λn=>by kernel_rfl) (λx=>by kernel_rfl) (λ_=>rfl) ⟨λ_=>rfl,trivial⟩
 (λ_ _=>tr (zzm.eq_2 ..))
 (λn=>⟨λ_=>tr (zza.eq_2 ..),
  trivial⟩)
 (λx=>.inl rfl)
theorem zv2:(zfr).Good prog dat (tb zfm):=FI.z42 (hD:=kza _) func197 ntmps197 call197 (by kernel_rfl) (Qac (by kernel_rfl)) (by kernel_rfl) (λn=>by kernel_rfl) (λx=>by kernel_rfl) (λ_=>rfl) trivial
 (λ_ _=>tr (zep.eq_2 ..))
 (λn=>trivial)
 (λx=>.inl rfl)
theorem y1x:OkL prog [zcp,zzj,zzp,zfr]:=zc7 (kza _) (bs:=[zh8,z9g,zgu,z8d]) ⟨zu8,zeo,zuo,zu0,trivial⟩ ⟨zyi,z5m,z73,zv2,trivial⟩
theorem zwu:FOk prog zcp:=y1x.1
mutual
noncomputable def z1f:Nat->yz1->Ot Int
 |0,_=>none
 |n+1,a=>
  (z9t n a.re).bind λy0=>
  pIf (decide (y0.1>100))
   (z8o n true a.re)
   (z8o n (decide (y0.2>12)) a.re)
noncomputable def z8o:Nat->Bool->yz1->Ot Int
 |0,_,_=>none
 |n+1,a,b=>
  pIf a
   (some 4)
   ((zdy n b.re).bind λy1=>
   pIf (!y1)
    (some 8)
    (some 0))
end
noncomputable def zxr:LSh:=⟨[(2,dI)],[],0,19,[]⟩
noncomputable def z8k:FI dat:=FI.of dat 89 19 0 [dT 5] [] [dI] [] true zxr (R:=Int) Prod.fst (·,()) (λn=>u1 (z1f n))
 (λn=>[(0,⟨⟨[(1,(.ptr 0 0)),(15,dB)],[(.st 5)],0,19,[]⟩,u2 (z8o n)⟩)]) (anb [(7,0)] f89)
theorem z9l:FOk prog z8k:=okF (bs:=[z7c,zcp]) ⟨zqq,zwu,trivial⟩ func89 ntmps89 call89
 (λ_ _=>tr (z1f.eq_2 ..))
 (λn=>⟨λ_=>tr (z8o.eq_2 ..),
  trivial⟩)
noncomputable def zbg:Nat->B8->Ot Bool
 |0,_=>none
 |n+1,a=>
  (z33 n a).bind λy0=>
  some (!y0)
noncomputable def zoz:LSh:=⟨[(2,dB)],[],0,6,[]⟩
noncomputable def zgh:FI dat:=FI.of dat 91 6 0 [dS] [] [dB] [] true zoz (R:=Bool) Prod.fst (·,()) (λn=>u1 (zbg n))
 (λn=>[]) (anb [] f91)
theorem zog:FOk prog zgh:=okF (bs:=[zby]) ⟨zex,trivial⟩ func91 ntmps91 call91
 (λ_ _=>tr (zbg.eq_2 ..))
 (λn=>trivial)
mutual
noncomputable def z0b:Nat->(List B8)->Ot Int
 |0,_=>none
 |n+1,a=>
  yzg n 0 a (a.length:Int)
noncomputable def yzg:Nat->Int->(List B8)->Int->Ot Int
 |0,_,_,_=>none
 |n+1,a,b,c=>
  pIf (decide (a<c))
   ((ix b a).bind λx0=>
   (zbg n x0).bind λy1=>
   pIf y1
    (some a)
    (yzg n (IntKind.i64.wrap (a+1)) b c))
   (some (-1))
end
noncomputable def zb5:LSh:=⟨[(4,dI)],[],0,19,[]⟩
noncomputable def z3y:FI dat:=FI.of dat 152 19 0 [dA,(.fn 91 [] [])] [] [dI] [] true zb5 (R:=Int) Prod.fst (·,()) (λn=>u1 (z0b n))
 (λn=>[(0,⟨⟨[(8,dI),(0,dA),(1,(.fn 91 [] [])),(7,dI)],[],0,19,[]⟩,u3 (yzg n)⟩)]) (anb [(6,0)] f152)
theorem zak:FOk prog z3y:=okF (bs:=[zgh]) ⟨zog,trivial⟩ func152 ntmps152 call152
 (λ_ _=>tr (z0b.eq_2 ..))
 (λn=>⟨λ_=>tr (yzg.eq_2 ..),
  trivial⟩)
noncomputable def kzu:Nat->(List B8)->Ot Bool
 |0,_=>none
 |n+1,a=>
  (z0b n a).bind λy0=>
  some (decide (y0>=0))
noncomputable def z9i:LSh:=⟨[(4,dB)],[],0,9,[]⟩
noncomputable def z2x:FI dat:=FI.of dat 90 9 0 [dA,(.fn 91 [] [])] [] [dB] [] true z9i (R:=Bool) Prod.fst (·,()) (λn=>u1 (kzu n))
 (λn=>[]) (anb [] f90)
theorem z95:FOk prog z2x:=okF (bs:=[z3y]) ⟨zak,trivial⟩ func90 ntmps90 call90
 (λ_ _=>tr (kzu.eq_2 ..))
 (λn=>trivial)
noncomputable def z48:Nat->zzo->Ot yz1
 |0,_=>none
 |n+1,a=>
  some (yz1.mk 18 (kz0.mk 0 (kz2.mk 0 0) false [] []) [] a)
noncomputable def zvw:LSh:=⟨[(2,(.ptr 0 0))],[(.st 5)],0,5,[]⟩
noncomputable def zgv:FI dat:=FI.of dat 127 5 0 [dL 5] [] [dT 5] [] true zvw (R:=yz1) Prod.fst (·,()) (λn=>u1 (z48 n))
 (λn=>[]) (anb [] f127)
theorem zlj:FOk prog zgv:=okF (bs:=[]) trivial func127 ntmps127 call127
 (λn=>λ_=>tr (z48.eq_2 _ n))
 (λn=>trivial)
mutual
noncomputable def zbb:Nat->Int->Ot Int
 |0,_=>none
 |n+1,a=>
  pIf (a==2)
   (z9q n a true)
   (z9q n a (a==3))
noncomputable def z9q:Nat->Int->Bool->Ot Int
 |0,_,_=>none
 |n+1,a,b=>
  pIf b
   (some 3)
   (pIf (a==4)
     (z9w n true)
     (z9w n (a==6)))
noncomputable def z9w:Nat->Bool->Ot Int
 |0,_=>none
 |n+1,a=>
  pIf a
   (some 1)
   (some 0)
end
noncomputable def y0w:LSh:=⟨[(2,dI)],[],0,10,[]⟩
noncomputable def ziv:FI dat:=FI.of dat 96 10 0 [dU] [] [dI] [] true y0w (R:=Int) Prod.fst (·,()) (λn=>u1 (zbb n))
 (λn=>[(0,⟨⟨[(3,dU),(4,dB)],[],0,10,[]⟩,u2 (z9q n)⟩),(1,⟨⟨[(7,dB)],[],0,10,[]⟩,u1 (z9w n)⟩)]) (anb [(12,0),(22,1)] f96)
theorem znl:FOk prog ziv:=okF (bs:=[]) trivial func96 ntmps96 call96
 (λ_ _=>tr (zbb.eq_2 ..))
 (λn=>⟨λ_=>tr (z9q.eq_2 ..),
  λ_=>tr (z9w.eq_2 _ n),
  trivial⟩)
mutual
noncomputable def z97:Nat->zz4->Ot Bool
 |0,_=>none
 |n+1,a=>
  pIf (decide (a.kind>=1))
   (z2q n (decide (a.kind<=4)) a)
   (z2q n false a)
noncomputable def z2q:Nat->Bool->zz4->Ot Bool
 |0,_,_=>none
 |n+1,a,b=>
  pIf (b.kind==4)
   (z2l n a 0 true b)
   (z2l n a 0 (b.kind==5) b)
noncomputable def z2l:Nat->Bool->Int->Bool->zz4->Ot Bool
 |0,_,_,_,_=>none
 |n+1,a,b,c,d=>
  pIf c
   (z2u n a 2 d)
   (z2u n a b d)
noncomputable def z2u:Nat->Bool->Int->zz4->Ot Bool
 |0,_,_,_=>none
 |n+1,a,b,c=>
  pIf (decide (c.kind<1))
   (z0d n a true c)
   (pIf (decide (c.kind>6))
     (z0d n a true c)
     (z0d n a (decide (c.axis>b)) c))
noncomputable def z0d:Nat->Bool->Bool->zz4->Ot Bool
 |0,_,_,_=>none
 |n+1,a,b,c=>
  pIf b
   (some false)
   ((z33 n c.name).bind λy0=>
   pIf (!(a==y0))
    (z0g n a true c)
    (pIf (!a)
      (z0g n a (!(c.name==[])) c)
      (z0g n a false c)))
noncomputable def z0g:Nat->Bool->Bool->zz4->Ot Bool
 |0,_,_,_=>none
 |n+1,a,b,c=>
  pIf b
   (some false)
   ((z48 n c.args).bind λy1=>
   (z1f n y1.re).bind λy2=>
   pIf (y2 != 0)
    (yzs n true c)
    ((zbb n c.kind).bind λy3=>
    pIf (decide ((c.args.length:Int)<y3))
     (yzs n true c)
     (pIf (!a)
       ((zbb n c.kind).bind λy4=>
       yzs n ((c.args.length:Int) != y4) c)
       (yzs n false c))))
noncomputable def yzs:Nat->Bool->zz4->Ot Bool
 |0,_,_=>none
 |n+1,a,b=>
  pIf a
   (some false)
   (pIf (!((b.kind==5)==(decide ((b.items.length:Int)>0))))
     (some false)
     (z2n n 0 b.items (b.items.length:Int)))
noncomputable def z2n:Nat->Int->zk6->Int->Ot Bool
 |0,_,_,_=>none
 |n+1,a,b,c=>
  pIf (decide (a<c))
   ((ix b a).bind λx5=>
   pIf (decide (x5.kind<1))
    (kzi n b c a true)
    (pIf (decide (x5.kind>3))
      (kzi n b c a true)
      ((z33 n x5.name).bind λy6=>
      pIf (!y6)
       (kzi n b c a true)
       (pIf ((x5.args.length:Int)==0)
         (kzi n b c a true)
         ((z48 n x5.args).bind λy7=>
         (z1f n y7.re).bind λy8=>
         kzi n b c a (y8 != 0))))))
   (some true)
noncomputable def kzi:Nat->zk6->Int->Int->Bool->Ot Bool
 |0,_,_,_,_=>none
 |n+1,a,b,c,d=>
  pIf d
   (some false)
   (z2n n (IntKind.i64.wrap (c+1)) a b)
end
noncomputable def zm6:LSh:=⟨[(2,dB)],[],0,125,[]⟩
noncomputable def zea:FI dat:=FI.of dat 92 125 0 [dT 8] [] [dB] [] true zm6 (R:=Bool) Prod.fst (·,()) (λn=>u1 (z97 n))
 (λn=>[(0,⟨⟨[(1,(.ptr 0 0)),(3,dB)],[(.st 8)],0,125,[]⟩,u2 (z2q n)⟩),(1,⟨⟨[(1,(.ptr 0 0)),(3,dB),(4,dU),(22,dB)],[(.st 8)],0,125,[]⟩,u4 (z2l n)⟩),(2,⟨⟨[(1,(.ptr 0 0)),(3,dB),(4,dU)],[(.st 8)],0,125,[]⟩,u3 (z2u n)⟩),(3,⟨⟨[(1,(.ptr 0 0)),(3,dB),(23,dB)],[(.st 8)],0,125,[]⟩,u3 (z0d n)⟩),(4,⟨⟨[(1,(.ptr 0 0)),(3,dB),(38,dB)],[(.st 8)],0,125,[]⟩,u3 (z0g n)⟩),(5,⟨⟨[(1,(.ptr 0 0)),(53,dB)],[(.st 8)],0,125,[]⟩,u2 (yzs n)⟩),(6,⟨⟨[(93,dI),(91,dL 7),(92,dI)],[],0,125,[]⟩,u3 (z2n n)⟩),(7,⟨⟨[(91,dL 7),(92,dI),(93,dI),(123,dB)],[],0,125,[]⟩,u4 (kzi n)⟩)]) (anb [(4,0),(9,1),(12,2),(16,3),(22,4),(28,5),(43,6),(56,7)] f92)
theorem zkq:FOk prog zea:=okF (bs:=[zby,zgv,z8k,ziv]) ⟨zex,zlj,z9l,znl,trivial⟩ func92 ntmps92 call92
 (λ_ _=>tr (z97.eq_2 ..))
 (λn=>⟨λ_=>tr (z2q.eq_2 ..),
  λ_=>tr (z2l.eq_2 ..),
  λ_=>tr (z2u.eq_2 ..),
  λ_=>tr (z0d.eq_2 ..),
  λ_=>tr (z0g.eq_2 ..),
  λ_=>tr (yzs.eq_2 ..),
  λ_=>tr (z2n.eq_2 ..),
  λ_=>tr (kzi.eq_2 ..),
  trivial⟩)
mutual
noncomputable def zd0:Nat->kz1->Ot Bool
 |0,_=>none
 |n+1,a=>
  z5k n 0 a.attrs (a.attrs.length:Int) a
noncomputable def z5k:Nat->Int->z07->Int->kz1->Ot Bool
 |0,_,_,_,_=>none
 |n+1,a,b,c,d=>
  pIf (decide (a<c))
   ((ix b a).bind λx0=>
   (z33 n x0.name).bind λy1=>
   pIf (!y1)
    (z55 n b c a true d)
    ((z1f n x0.value.re).bind λy2=>
    z55 n b c a (y2 != 0) d))
   (z52 n 0 d.rules (d.rules.length:Int))
noncomputable def z55:Nat->z07->Int->Int->Bool->kz1->Ot Bool
 |0,_,_,_,_,_=>none
 |n+1,a,b,c,d,e=>
  pIf d
   (some false)
   (z5k n (IntKind.i64.wrap (c+1)) a b e)
noncomputable def z52:Nat->Int->yz7->Int->Ot Bool
 |0,_,_,_=>none
 |n+1,a,b,c=>
  pIf (decide (a<c))
   ((ix b a).bind λx3=>
   (z33 n x3.name).bind λy4=>
   pIf (!y4)
    (z5g n b c a true x3)
    ((kzu n x3.params).bind λy5=>
    z5g n b c a y5 x3))
   (some true)
noncomputable def z5g:Nat->yz7->Int->Int->Bool->yzh->Ot Bool
 |0,_,_,_,_,_=>none
 |n+1,a,b,c,d,e=>
  pIf d
   (some false)
   (z5f n 0 e.cases a b c (e.cases.length:Int))
noncomputable def z5f:Nat->Int->z1h->yz7->Int->Int->Int->Ot Bool
 |0,_,_,_,_,_,_=>none
 |n+1,a,b,c,d,e,f=>
  pIf (decide (a<f))
   ((ix b a).bind λx6=>
   pIf (decide (x6.weight<1))
    (z35 n b c d e f a true x6.re)
    (pIf (decide (x6.weight>1000000))
      (z35 n b c d e f a true x6.re)
      ((z1f n x6.when_.re).bind λy7=>
      z35 n b c d e f a (y7 != 0) x6.re)))
   (z52 n (IntKind.i64.wrap (e+1)) c d)
noncomputable def z35:Nat->z1h->yz7->Int->Int->Int->Int->Bool->kzq->Ot Bool
 |0,_,_,_,_,_,_,_,_=>none
 |n+1,a,b,c,d,e,f,g,h=>
  pIf g
   (some false)
   (z5e n 0 h.do_ a b c d e f (h.do_.length:Int))
noncomputable def z5e:Nat->Int->z5w->z1h->yz7->Int->Int->Int->Int->Int->Ot Bool
 |0,_,_,_,_,_,_,_,_,_=>none
 |n+1,a,b,c,d,e,f,g,h,i=>
  pIf (decide (a<i))
   ((ix b a).bind λx8=>
   (z97 n x8).bind λy9=>
   pIf (!y9)
    (some false)
    (z5e n (IntKind.i64.wrap (a+1)) b c d e f g h i))
   (z5f n (IntKind.i64.wrap (h+1)) c d e f g)
end
noncomputable def zru:LSh:=⟨[(2,dB)],[],0,79,[]⟩
noncomputable def zik:FI dat:=FI.of dat 33 79 0 [dT 11] [] [dB] [] true zru (R:=Bool) Prod.fst (·,()) (λn=>u1 (zd0 n))
 (λn=>[(0,⟨⟨[(14,dI),(12,dL 6),(1,(.ptr 0 0)),(13,dI)],[(.st 11)],0,79,[]⟩,u4 (z5k n)⟩),(1,⟨⟨[(12,dL 6),(1,(.ptr 0 0)),(13,dI),(14,dI),(27,dB)],[(.st 11)],0,79,[]⟩,u5 (z55 n)⟩),(2,⟨⟨[(32,dI),(30,dL 10),(31,dI)],[],0,79,[]⟩,u3 (z52 n)⟩),(3,⟨⟨[(30,dL 10),(31,dI),(32,dI),(6,(.ptr 0 0)),(44,dB)],[(.st 10)],0,79,[]⟩,u5 (z5g n)⟩),(4,⟨⟨[(48,dI),(46,dL 9),(30,dL 10),(31,dI),(32,dI),(47,dI)],[],0,79,[]⟩,u6 (z5f n)⟩),(5,⟨⟨[(46,dL 9),(30,dL 10),(31,dI),(32,dI),(47,dI),(48,dI),(8,(.ptr 0 0)),(65,dB)],[(.st 9)],0,79,[]⟩,u8 (z35 n)⟩),(6,⟨⟨[(69,dI),(67,dL 8),(46,dL 9),(30,dL 10),(31,dI),(32,dI),(47,dI),(48,dI),(68,dI)],[],0,79,[]⟩,u9 (z5e n)⟩)]) (anb [(6,0),(19,1),(29,2),(43,3),(51,4),(65,5),(73,6)] f33)
theorem zqu:FOk prog zik:=okF (bs:=[zby,z8k,z2x,zea]) ⟨zex,z9l,z95,zkq,trivial⟩ func33 ntmps33 call33
 (λ_ _=>tr (zd0.eq_2 ..))
 (λn=>⟨λ_=>tr (z5k.eq_2 ..),
  λ_=>tr (z55.eq_2 ..),
  λ_=>tr (z52.eq_2 ..),
  λ_=>tr (z5g.eq_2 ..),
  λ_=>tr (z5f.eq_2 ..),
  λ_=>tr (z35.eq_2 ..),
  λ_=>tr (z5e.eq_2 ..),
  trivial⟩)
mutual
noncomputable def z0h:Nat->B8->(List B8)->Ot (Int×(List B8))
 |0,_,_=>none
 |n+1,a,b=>
  zzh n 0 a (b.length:Int) b
noncomputable def zzh:Nat->Int->B8->Int->(List B8)->Ot (Int×(List B8))
 |0,_,_,_,_=>none
 |n+1,a,b,c,d=>
  pIf (decide (a<c))
   ((ix d a).bind λx0=>
   pIf (b==x0)
    (some (a,d))
    (zzh n (IntKind.i64.wrap (a+1)) b c d))
   (some ((-1),d))
end
noncomputable def zbi:LSh:=⟨[(4,dI)],[(.acc 9 .str true)],1,19,[]⟩
noncomputable def z4f:FI dat:=FI.of dat 35 19 1 [(.own 0),dS] [(.acc 9 .str true)] [dI] [(.acc 9 .str true)] false zbi (R:=Int×(List B8)) (λx=>(x.1,x.2.1)) (λr=>(r.1,r.2,())) (λn=>u2 (z0h n))
 (λn=>[(0,⟨⟨[(8,dI),(0,(.own 0)),(1,dS),(7,dI)],[(.acc 9 .str true)],1,19,[]⟩,u4 (zzh n)⟩)]) (anb [(6,0)] f35)
theorem zb1:FOk prog z4f:=okF (bs:=[]) trivial func35 ntmps35 call35
 (λ_ _=>tr (z0h.eq_2 ..))
 (λn=>⟨λ_=>tr (zzh.eq_2 ..),
  trivial⟩)
noncomputable def kzx:Nat->B8->(List B8)->Ot (Bool×(List B8))
 |0,_,_=>none
 |n+1,a,b=>
  (z0h n a b).bind λy0=>
  some ((decide (y0.1>=0)),y0.2)
noncomputable def za5:LSh:=⟨[(4,dB)],[(.acc 9 .str true)],1,9,[]⟩
noncomputable def yzz:FI dat:=FI.of dat 149 9 1 [(.own 0),dS] [(.acc 9 .str true)] [dB] [(.acc 9 .str true)] false za5 (R:=Bool×(List B8)) (λx=>(x.1,x.2.1)) (λr=>(r.1,r.2,())) (λn=>u2 (kzx n))
 (λn=>[]) (anb [] f149)
theorem z9h:FOk prog yzz:=okF (bs:=[z4f]) ⟨zb1,trivial⟩ func149 ntmps149 call149
 (λ_ _=>tr (kzx.eq_2 ..))
 (λn=>trivial)
mutual
noncomputable def zbw:Nat->yz1->(List B8)->Ot (List B8)
 |0,_,_=>none
 |n+1,a,b=>
  pIf (a.op==2)
   ((kzx n a.name b).bind λy0=>
   z7z n (!y0.1) y0.2 a.re)
   (z7z n false b a.re)
noncomputable def z7z:Nat->Bool->(List B8)->yz1->Ot (List B8)
 |0,_,_,_=>none
 |n+1,a,b,c=>
  pIf a
   ((ext b [c.name]).bind λx1=>
   z7r n x1 c.re)
   (z7r n b c.re)
noncomputable def z7r:Nat->(List B8)->yz1->Ot (List B8)
 |0,_,_=>none
 |n+1,a,b=>
  z7y n 0 b.args (b.args.length:Int) a
noncomputable def z7y:Nat->Int->zzo->Int->(List B8)->Ot (List B8)
 |0,_,_,_,_=>none
 |n+1,a,b,c,d=>
  pIf (decide (a<c))
   ((ix b a).bind λx2=>
   (zbw n x2.re d).bind λy3=>
   z7y n (IntKind.i64.wrap (a+1)) b c y3)
   (some d)
end
noncomputable def zwi:LSh:=⟨[],[(.cells [(.own 1)]),(.acc 9 .str true)],1,38,[]⟩
noncomputable def zas:FI dat:=FI.of dat 153 38 1 [dT 5,(.ptr 0 0)] [(.cells [(.own 1)]),(.acc 9 .str true)] [] [(.cells [(.own 1)]),(.acc 9 .str true)] false zwi (R:=List B8) Prod.fst (·,()) (λn=>u2 (zbw n))
 (λn=>[(0,⟨⟨[(1,(.ptr 0 0)),(2,(.ptr 2 0)),(17,dB)],[(.cells [(.own 1)]),(.acc 9 .str true),(.st 5)],1,38,[]⟩,u3 (z7z n)⟩),(1,⟨⟨[(1,(.ptr 0 0)),(2,(.ptr 2 0))],[(.cells [(.own 1)]),(.acc 9 .str true),(.st 5)],1,38,[]⟩,u2 (z7r n)⟩),(2,⟨⟨[(30,dI),(1,(.ptr 0 0)),(28,dL 5),(29,dI)],[(.cells [(.own 1)]),(.acc 9 .str true)],1,38,[]⟩,u4 (z7y n)⟩)]) (anb [(5,0),(8,1),(11,2)] f153)
noncomputable def zxs:List (FI dat):=[zas]++[yzz]
theorem zwt:(zas).Good prog dat (tb zxs):=FI.z42 (hD:=kza _) func153 ntmps153 call153 (by kernel_rfl) (Qac (by kernel_rfl)) (by kernel_rfl) (λn=>by kernel_rfl) (λx=>by kernel_rfl) (λ_=>rfl) ⟨λ_=>rfl,λ_=>rfl,λ_=>rfl,trivial⟩
 (λ_ _=>tr (zbw.eq_2 ..))
 (λn=>⟨λ_=>tr (z7z.eq_2 ..),
  λ_=>tr (z7r.eq_2 ..),
  λ_=>tr (z7y.eq_2 ..),
  trivial⟩)
 (λx=>.inr (by kernel_rfl))
theorem zx6:OkL prog [zas]:=zc7 (kza _) (bs:=[yzz]) ⟨z9h,trivial⟩ ⟨zwt,trivial⟩
theorem zv0:FOk prog zas:=zx6.1
noncomputable def zg6:Nat->yz1->Ot ((List B8)×Int)
 |0,_=>none
 |n+1,a=>
  (z1f n a.re).bind λy0=>
  pIf (y0 != 0)
   (some ([],y0))
   ((zbw n a.re []).bind λy1=>
   (zze n y1).bind λy2=>
   some (y2,0))
noncomputable def zwo:LSh:=⟨[(2,dA),(3,dI)],[],0,16,[]⟩
noncomputable def znt:FI dat:=FI.of dat 93 16 0 [dT 5] [] [dA,dI] [] true zwo (R:=(List B8)×Int) (λx=>(x.1,x.2.1)) (λr=>(r.1,r.2,())) (λn=>u1 (zg6 n))
 (λn=>[]) (anb [] f93)
theorem zue:FOk prog znt:=okF (bs:=[zas,kzn,z8k]) ⟨zv0,z2b,z9l,trivial⟩ func93 ntmps93 call93
 (λ_ _=>tr (zg6.eq_2 ..))
 (λn=>trivial)
noncomputable def zd1:Nat->B8->(List B8)->(List Bool)->Ot (Bool×(List B8)×(List Bool))
 |0,_,_,_=>none
 |n+1,a,b,c=>
  some ((!(Option.getD (z9p (List.zip b c) a) false)),(mks (List.zip b c)),(mvs (List.zip b c)))
noncomputable def zte:LSh:=⟨[(3,dB)],[(.cells [(.map 1)]),(.mp 76 .bool)],2,8,[]⟩
noncomputable def ziy:FI dat:=FI.of dat 94 8 2 [dS,(.ptr 0 0)] [(.cells [(.map 1)]),(.mp 76 .bool)] [dB] [(.cells [(.map 1)]),(.mp 76 .bool)] false zte (R:=Bool×(List B8)×(List Bool)) (λx=>(x.1,x.2.1,x.2.2.1)) (λr=>(r.1,r.2.1,r.2.2,())) (λn=>u3 (zd1 n))
 (λn=>[]) (anb [] f94)
theorem zqj:FOk prog ziy:=okF (bs:=[]) trivial func94 ntmps94 call94
 (λn=>λ_=>tr (zd1.eq_2 _ _ _ n))
 (λn=>trivial)
mutual
noncomputable def yzu:Nat->(List B8)->(List B8)->(List Bool)->Ot (Int×(List B8)×(List Bool))
 |0,_,_,_=>none
 |n+1,a,b,c=>
  yzd n 0 a (a.length:Int) (mks (List.zip b c)) (mvs (List.zip b c))
noncomputable def yzd:Nat->Int->(List B8)->Int->(List B8)->(List Bool)->Ot (Int×(List B8)×(List Bool))
 |0,_,_,_,_,_=>none
 |n+1,a,b,c,d,e=>
  pIf (decide (a<c))
   ((ix b a).bind λx0=>
   (zd1 n x0 (mks (List.zip d e)) (mvs (List.zip d e))).bind λy1=>
   pIf y1.1
    (some (a,(mks (List.zip y1.2.1 y1.2.2)),(mvs (List.zip y1.2.1 y1.2.2))))
    (yzd n (IntKind.i64.wrap (a+1)) b c (mks (List.zip y1.2.1 y1.2.2)) (mvs (List.zip y1.2.1 y1.2.2))))
   (some ((-1),(mks (List.zip d e)),(mvs (List.zip d e))))
end
noncomputable def z9m:LSh:=⟨[(4,dI)],[(.cells [(.map 1)]),(.mp 76 .bool)],2,19,[]⟩
noncomputable def z30:FI dat:=FI.of dat 152 19 2 [dA,(.fn 94 [] [(.ptr 0 0)])] [(.cells [(.map 1)]),(.mp 76 .bool)] [dI] [(.cells [(.map 1)]),(.mp 76 .bool)] false z9m (R:=Int×(List B8)×(List Bool)) (λx=>(x.1,x.2.1,x.2.2.1)) (λr=>(r.1,r.2.1,r.2.2,())) (λn=>u3 (yzu n))
 (λn=>[(0,⟨⟨[(8,dI),(0,dA),(1,(.fn 94 [] [(.ptr 0 0)])),(7,dI)],[(.cells [(.map 1)]),(.mp 76 .bool)],2,19,[]⟩,u5 (yzd n)⟩)]) (anb [(6,0)] f152)
theorem z9a:FOk prog z30:=okF (bs:=[ziy]) ⟨zqj,trivial⟩ func152 ntmps152 call152
 (λ_ _=>tr (yzu.eq_2 ..))
 (λn=>⟨λ_=>tr (yzd.eq_2 ..),
  trivial⟩)
noncomputable def yzp:Nat->(List B8)->(List B8)->(List Bool)->Ot (Bool×(List B8)×(List Bool))
 |0,_,_,_=>none
 |n+1,a,b,c=>
  (yzu n a (mks (List.zip b c)) (mvs (List.zip b c))).bind λy0=>
  some ((decide (y0.1>=0)),(mks (List.zip y0.2.1 y0.2.2)),(mvs (List.zip y0.2.1 y0.2.2)))
noncomputable def z7g:LSh:=⟨[(4,dB)],[(.cells [(.map 1)]),(.mp 76 .bool)],2,9,[]⟩
noncomputable def z1w:FI dat:=FI.of dat 90 9 2 [dA,(.fn 94 [] [(.ptr 0 0)])] [(.cells [(.map 1)]),(.mp 76 .bool)] [dB] [(.cells [(.map 1)]),(.mp 76 .bool)] false z7g (R:=Bool×(List B8)×(List Bool)) (λx=>(x.1,x.2.1,x.2.2.1)) (λr=>(r.1,r.2.1,r.2.2,())) (λn=>u3 (yzp n))
 (λn=>[]) (anb [] f90)
theorem z6z:FOk prog z1w:=okF (bs:=[z30]) ⟨z9a,trivial⟩ func90 ntmps90 call90
 (λ_ _=>tr (yzp.eq_2 ..))
 (λn=>trivial)
noncomputable def zc3:Nat->yz1->(List B8)->(List Bool)->Ot (Bool×(List B8)×(List Bool))
 |0,_,_,_=>none
 |n+1,a,b,c=>
  (zg6 n a.re).bind λy0=>
  (yzp n y0.1 (mks (List.zip b c)) (mvs (List.zip b c))).bind λy1=>
  some (y1.1,(mks (List.zip y1.2.1 y1.2.2)),(mvs (List.zip y1.2.1 y1.2.2)))
noncomputable def zwb:LSh:=⟨[(4,dB)],[(.mp 76 .bool)],1,15,[]⟩
noncomputable def zhh:FI dat:=FI.of dat 34 15 1 [dT 5,(.map 0)] [(.mp 76 .bool)] [dB] [(.mp 76 .bool)] false zwb (R:=Bool×(List B8)×(List Bool)) (λx=>(x.1,x.2.1,x.2.2.1)) (λr=>(r.1,r.2.1,r.2.2,())) (λn=>u3 (zc3 n))
 (λn=>[]) (anb [] f34)
theorem zlv:FOk prog zhh:=okF (bs:=[z1w,znt]) ⟨z6z,zue,trivial⟩ func34 ntmps34 call34
 (λ_ _=>tr (zc3.eq_2 ..))
 (λn=>trivial)
mutual
noncomputable def zek:Nat->yzh->Ot zzo
 |0,_=>none
 |n+1,a=>
  z6t n 0 a.cases (a.cases.length:Int) []
noncomputable def z6t:Nat->Int->z1h->Int->zzo->Ot zzo
 |0,_,_,_,_=>none
 |n+1,a,b,c,d=>
  pIf (decide (a<c))
   ((ix b a).bind λx0=>
   (ext d [x0.when_.re]).bind λx1=>
   z6a n 0 x0.do_ b c a (x0.do_.length:Int) x1)
   (some d)
noncomputable def z6a:Nat->Int->z5w->z1h->Int->Int->Int->zzo->Ot zzo
 |0,_,_,_,_,_,_,_=>none
 |n+1,a,b,c,d,e,f,g=>
  pIf (decide (a<f))
   ((ix b a).bind λx2=>
   (ext g x2.args).bind λx3=>
   z6p n 0 x2.items b c d e f a (x2.items.length:Int) x3)
   (z6t n (IntKind.i64.wrap (e+1)) c d g)
noncomputable def z6p:Nat->Int->zk6->z5w->z1h->Int->Int->Int->Int->Int->zzo->Ot zzo
 |0,_,_,_,_,_,_,_,_,_,_=>none
 |n+1,a,b,c,d,e,f,g,h,i,j=>
  pIf (decide (a<i))
   ((ix b a).bind λx4=>
   (ext j x4.args).bind λx5=>
   z6p n (IntKind.i64.wrap (a+1)) b c d e f g h i x5)
   (z6a n (IntKind.i64.wrap (h+1)) c d e f g j)
end
noncomputable def zu9:LSh:=⟨[(2,dL 5)],[],0,48,[]⟩
noncomputable def zln:FI dat:=FI.of dat 37 48 0 [dT 10] [] [dL 5] [] true zu9 (R:=zzo) Prod.fst (·,()) (λn=>u1 (zek n))
 (λn=>[(0,⟨⟨[(13,dI),(3,(.own 0)),(11,dL 9),(12,dI)],[(.acc 29 (.st 5) true)],0,48,[]⟩,u4 (z6t n)⟩),(1,⟨⟨[(25,dI),(3,(.own 0)),(23,dL 8),(11,dL 9),(12,dI),(13,dI),(24,dI)],[(.acc 29 (.st 5) true)],0,48,[]⟩,u7 (z6a n)⟩),(2,⟨⟨[(36,dI),(3,(.own 0)),(34,dL 7),(23,dL 8),(11,dL 9),(12,dI),(13,dI),(24,dI),(25,dI),(35,dI)],[(.acc 29 (.st 5) true)],0,48,[]⟩,u10 (z6p n)⟩)]) (anb [(8,0),(24,1),(40,2)] f37)
theorem zsv:FOk prog zln:=okF (bs:=[]) trivial func37 ntmps37 call37
 (λ_ _=>tr (zek.eq_2 ..))
 (λn=>⟨λ_=>tr (z6t.eq_2 ..),
  λ_=>tr (z6a.eq_2 ..),
  λ_=>tr (z6p.eq_2 ..),
  trivial⟩)
noncomputable def zbu:Nat->yz1->(List B8)->(List Bool)->Ot (Bool×(List B8)×(List Bool))
 |0,_,_,_=>none
 |n+1,a,b,c=>
  (zc3 n a.re (mks (List.zip b c)) (mvs (List.zip b c))).bind λy0=>
  some (y0.1,(mks (List.zip y0.2.1 y0.2.2)),(mvs (List.zip y0.2.1 y0.2.2)))
noncomputable def zqx:LSh:=⟨[(3,dB)],[(.cells [(.map 1)]),(.mp 76 .bool)],2,7,[]⟩
noncomputable def zhr:FI dat:=FI.of dat 38 7 2 [dT 5,(.ptr 0 0)] [(.cells [(.map 1)]),(.mp 76 .bool)] [dB] [(.cells [(.map 1)]),(.mp 76 .bool)] false zqx (R:=Bool×(List B8)×(List Bool)) (λx=>(x.1,x.2.1,x.2.2.1)) (λr=>(r.1,r.2.1,r.2.2,())) (λn=>u3 (zbu n))
 (λn=>[]) (anb [] f38)
theorem zpe:FOk prog zhr:=okF (bs:=[zhh]) ⟨zlv,trivial⟩ func38 ntmps38 call38
 (λ_ _=>tr (zbu.eq_2 ..))
 (λn=>trivial)
mutual
noncomputable def kzr:Nat->zzo->(List B8)->(List Bool)->Ot (Int×(List B8)×(List Bool))
 |0,_,_,_=>none
 |n+1,a,b,c=>
  zzc n 0 a (a.length:Int) (mks (List.zip b c)) (mvs (List.zip b c))
noncomputable def zzc:Nat->Int->zzo->Int->(List B8)->(List Bool)->Ot (Int×(List B8)×(List Bool))
 |0,_,_,_,_,_=>none
 |n+1,a,b,c,d,e=>
  pIf (decide (a<c))
   ((ix b a).bind λx0=>
   (zbu n x0.re (mks (List.zip d e)) (mvs (List.zip d e))).bind λy1=>
   pIf y1.1
    (some (a,(mks (List.zip y1.2.1 y1.2.2)),(mvs (List.zip y1.2.1 y1.2.2))))
    (zzc n (IntKind.i64.wrap (a+1)) b c (mks (List.zip y1.2.1 y1.2.2)) (mvs (List.zip y1.2.1 y1.2.2))))
   (some ((-1),(mks (List.zip d e)),(mvs (List.zip d e))))
end
noncomputable def z99:LSh:=⟨[(4,dI)],[(.cells [(.map 1)]),(.mp 76 .bool)],2,19,[]⟩
noncomputable def z2f:FI dat:=FI.of dat 95 19 2 [dL 5,(.fn 38 [] [(.ptr 0 0)])] [(.cells [(.map 1)]),(.mp 76 .bool)] [dI] [(.cells [(.map 1)]),(.mp 76 .bool)] false z99 (R:=Int×(List B8)×(List Bool)) (λx=>(x.1,x.2.1,x.2.2.1)) (λr=>(r.1,r.2.1,r.2.2,())) (λn=>u3 (kzr n))
 (λn=>[(0,⟨⟨[(8,dI),(0,dL 5),(1,(.fn 38 [] [(.ptr 0 0)])),(7,dI)],[(.cells [(.map 1)]),(.mp 76 .bool)],2,19,[]⟩,u5 (zzc n)⟩)]) (anb [(6,0)] f95)
theorem z7v:FOk prog z2f:=okF (bs:=[zhr]) ⟨zpe,trivial⟩ func95 ntmps95 call95
 (λ_ _=>tr (kzr.eq_2 ..))
 (λn=>⟨λ_=>tr (zzc.eq_2 ..),
  trivial⟩)
noncomputable def yzm:Nat->zzo->(List B8)->(List Bool)->Ot (Bool×(List B8)×(List Bool))
 |0,_,_,_=>none
 |n+1,a,b,c=>
  (kzr n a (mks (List.zip b c)) (mvs (List.zip b c))).bind λy0=>
  some ((decide (y0.1>=0)),(mks (List.zip y0.2.1 y0.2.2)),(mvs (List.zip y0.2.1 y0.2.2)))
noncomputable def z6y:LSh:=⟨[(4,dB)],[(.cells [(.map 1)]),(.mp 76 .bool)],2,9,[]⟩
noncomputable def z1a:FI dat:=FI.of dat 36 9 2 [dL 5,(.fn 38 [] [(.ptr 0 0)])] [(.cells [(.map 1)]),(.mp 76 .bool)] [dB] [(.cells [(.map 1)]),(.mp 76 .bool)] false z6y (R:=Bool×(List B8)×(List Bool)) (λx=>(x.1,x.2.1,x.2.2.1)) (λr=>(r.1,r.2.1,r.2.2,())) (λn=>u3 (yzm n))
 (λn=>[]) (anb [] f36)
theorem z63:FOk prog z1a:=okF (bs:=[z2f]) ⟨z7v,trivial⟩ func36 ntmps36 call36
 (λ_ _=>tr (yzm.eq_2 ..))
 (λn=>trivial)
mutual
noncomputable def z7f:Nat->yzh->Ot z2j
 |0,_=>none
 |n+1,a=>
  z6j n 0 a.cases (a.cases.length:Int) []
noncomputable def z6j:Nat->Int->z1h->Int->z2j->Ot z2j
 |0,_,_,_,_=>none
 |n+1,a,b,c,d=>
  pIf (decide (a<c))
   ((ix b a).bind λx0=>
   z6h n 0 x0.do_ b c a (x0.do_.length:Int) d)
   (some d)
noncomputable def z6h:Nat->Int->z5w->z1h->Int->Int->Int->z2j->Ot z2j
 |0,_,_,_,_,_,_,_=>none
 |n+1,a,b,c,d,e,f,g=>
  pIf (decide (a<f))
   ((ix b a).bind λx1=>
   pIf (!(x1.name==[]))
    ((zbb n x1.kind).bind λy2=>
    (ext g [(kzz.mk x1.name (IntKind.i64.wrap ((x1.args.length:Int)-y2)))]).bind λx3=>
    z6n n b c d e f a x3 x1)
    (z6n n b c d e f a g x1))
   (z6j n (IntKind.i64.wrap (e+1)) c d g)
noncomputable def z6n:Nat->z5w->z1h->Int->Int->Int->Int->z2j->zz4->Ot z2j
 |0,_,_,_,_,_,_,_,_=>none
 |n+1,a,b,c,d,e,f,g,h=>
  z6q n 0 h.items a b c d e f (h.items.length:Int) g
noncomputable def z6q:Nat->Int->zk6->z5w->z1h->Int->Int->Int->Int->Int->z2j->Ot z2j
 |0,_,_,_,_,_,_,_,_,_,_=>none
 |n+1,a,b,c,d,e,f,g,h,i,j=>
  pIf (decide (a<i))
   ((ix b a).bind λx4=>
   (ext j [(kzz.mk x4.name (IntKind.i64.wrap ((x4.args.length:Int)-1)))]).bind λx5=>
   z6q n (IntKind.i64.wrap (a+1)) b c d e f g h i x5)
   (z6h n (IntKind.i64.wrap (h+1)) c d e f g j)
end
noncomputable def zub:LSh:=⟨[(2,dL 12)],[],0,61,[]⟩
noncomputable def zbx:FI dat:=FI.of dat 39 61 0 [dT 10] [] [dL 12] [] true zub (R:=z2j) Prod.fst (·,()) (λn=>u1 (z7f n))
 (λn=>[(0,⟨⟨[(3,(.own 0)),(13,dI),(11,dL 9),(12,dI)],[(.acc 86 (.st 12) true)],0,61,[]⟩,u4 (z6j n)⟩),(1,⟨⟨[(20,dI),(3,(.own 0)),(18,dL 8),(11,dL 9),(12,dI),(13,dI),(19,dI)],[(.acc 86 (.st 12) true)],0,61,[]⟩,u7 (z6h n)⟩),(2,⟨⟨[(3,(.own 0)),(18,dL 8),(11,dL 9),(12,dI),(13,dI),(19,dI),(20,dI),(7,(.ptr 1 0))],[(.acc 86 (.st 12) true),(.st 8)],0,61,[]⟩,u8 (z6n n)⟩),(3,⟨⟨[(43,dI),(3,(.own 0)),(41,dL 7),(18,dL 8),(11,dL 9),(12,dI),(13,dI),(19,dI),(20,dI),(42,dI)],[(.acc 86 (.st 12) true)],0,61,[]⟩,u10 (z6q n)⟩)]) (anb [(8,0),(22,1),(39,2),(42,3)] f39)
theorem ze8:FOk prog zbx:=okF (bs:=[ziv]) ⟨znl,trivial⟩ func39 ntmps39 call39
 (λ_ _=>tr (z7f.eq_2 ..))
 (λn=>⟨λ_=>tr (z6j.eq_2 ..),
  λ_=>tr (z6h.eq_2 ..),
  λ_=>tr (z6n.eq_2 ..),
  λ_=>tr (z6q.eq_2 ..),
  trivial⟩)
mutual
noncomputable def zz3:Nat->kz1->Ot Int
 |0,_=>none
 |n+1,a=>
  (zfy n a).bind λy0=>
  pIf y0
   (some 4)
   ((zd0 n a).bind λy1=>
   pIf (!y1)
    (some 8)
    (yzo n 0 false a.attrs (a.attrs.length:Int) [] [] [] [] a))
noncomputable def yzo:Nat->Int->Bool->z07->Int->(List B8)->(List Bool)->(List B8)->(List Int)->kz1->Ot Int
 |0,_,_,_,_,_,_,_,_,_=>none
 |n+1,a,b,c,d,e,f,g,h,i=>
  pIf (decide (a<d))
   ((ix c a).bind λx2=>
   pIf b
    (kzw n true c d a (mks (List.zip e f)) (mvs (List.zip e f)) (mks (List.zip g h)) (mvs (List.zip g h)) i x2.re)
    ((zc3 n x2.value.re (mks (List.zip e f)) (mvs (List.zip e f))).bind λy3=>
    kzw n y3.1 c d a (mks (List.zip y3.2.1 y3.2.2)) (mvs (List.zip y3.2.1 y3.2.2)) (mks (List.zip g h)) (mvs (List.zip g h)) i x2.re))
   (zzv n 0 i.rules b (i.rules.length:Int) (mks (List.zip e f)) (mvs (List.zip e f)) (mks (List.zip g h)) (mvs (List.zip g h)) i)
noncomputable def kzw:Nat->Bool->z07->Int->Int->(List B8)->(List Bool)->(List B8)->(List Int)->kz1->zz8->Ot Int
 |0,_,_,_,_,_,_,_,_,_,_=>none
 |n+1,a,b,c,d,e,f,g,h,i,j=>
  pIf (Option.getD (z9p (List.zip e f) j.name) false)
   (some 14)
   (yzo n (IntKind.i64.wrap (d+1)) a b c (mks (zal (List.zip e f) j.name true)) (mvs (zal (List.zip e f) j.name true)) (mks (List.zip g h)) (mvs (List.zip g h)) i)
noncomputable def zzv:Nat->Int->yz7->Bool->Int->(List B8)->(List Bool)->(List B8)->(List Int)->kz1->Ot Int
 |0,_,_,_,_,_,_,_,_,_=>none
 |n+1,a,b,c,d,e,f,g,h,i=>
  pIf (decide (a<d))
   ((ix b a).bind λx4=>
   pIf (Option.isSome (z9p (List.zip g h) x4.name))
    (some 14)
    (yzv n 0 x4.params b c d a (x4.params.length:Int) x4 (mks (List.zip e f)) (mvs (List.zip e f)) (mks (zal (List.zip g h) x4.name a)) (mvs (zal (List.zip g h) x4.name a)) i))
   (z0e n false 0 c (mks (List.zip e f)) (mvs (List.zip e f)) i.rules (i.rules.length:Int) i (mks (List.zip g h)) (mvs (List.zip g h)))
noncomputable def yzv:Nat->Int->(List B8)->yz7->Bool->Int->Int->Int->yzh->(List B8)->(List Bool)->(List B8)->(List Int)->kz1->Ot Int
 |0,_,_,_,_,_,_,_,_,_,_,_,_,_=>none
 |n+1,a,b,c,d,e,f,g,h,i,j,k,l,m=>
  pIf (decide (a<g))
   ((ix b a).bind λx5=>
   pIf (Option.getD (z9p (List.zip i j) x5) false)
    (z0i n b c d e f g a true h (mks (List.zip i j)) (mvs (List.zip i j)) (mks (List.zip k l)) (mvs (List.zip k l)) m)
    ((kz7 n h.params x5).bind λy6=>
    z0i n b c d e f g a (decide (y6<a)) h (mks (List.zip i j)) (mvs (List.zip i j)) (mks (List.zip k l)) (mvs (List.zip k l)) m))
   (zzv n (IntKind.i64.wrap (f+1)) c d e (mks (List.zip i j)) (mvs (List.zip i j)) (mks (List.zip k l)) (mvs (List.zip k l)) m)
noncomputable def z0i:Nat->(List B8)->yz7->Bool->Int->Int->Int->Int->Bool->yzh->(List B8)->(List Bool)->(List B8)->(List Int)->kz1->Ot Int
 |0,_,_,_,_,_,_,_,_,_,_,_,_,_,_=>none
 |n+1,a,b,c,d,e,f,g,h,i,j,k,l,m,o=>
  pIf h
   (some 14)
   (yzv n (IntKind.i64.wrap (g+1)) a b c d e f i (mks (List.zip j k)) (mvs (List.zip j k)) (mks (List.zip l m)) (mvs (List.zip l m)) o)
noncomputable def z0e:Nat->Bool->Int->Bool->(List B8)->(List Bool)->yz7->Int->kz1->(List B8)->(List Int)->Ot Int
 |0,_,_,_,_,_,_,_,_,_,_=>none
 |n+1,a,b,c,d,e,f,g,h,i,j=>
  pIf (decide (b<g))
   ((ix f b).bind λx7=>
   z0m n a (mks (List.zip d e)) (mvs (List.zip d e)) f g b c (mks (List.zip d e)) (mvs (List.zip d e)) h (mks (List.zip i j)) (mvs (List.zip i j)) x7 (mks (zal (zal (zal [] [115,120] true) [115,121] true) [115,122] true)) (mvs (zal (zal (zal [] [115,120] true) [115,121] true) [115,122] true)))
   (pIf c
     (some 6)
     (pIf a
       (some 2)
       (some 0)))
noncomputable def z0m:Nat->Bool->(List B8)->(List Bool)->yz7->Int->Int->Bool->(List B8)->(List Bool)->kz1->(List B8)->(List Int)->yzh->(List B8)->(List Bool)->Ot Int
 |0,_,_,_,_,_,_,_,_,_,_,_,_,_,_,_=>none
 |n+1,a,b,c,d,e,f,g,h,i,j,k,l,m,o,p=>
  zrv (List.zip h i) (λk8 v9 r10=>
   z0m n a (mks (List.zip b c)) (mvs (List.zip b c)) d e f g (mks r10) (mvs r10) j (mks (List.zip k l)) (mvs (List.zip k l)) m (mks (zal (List.zip o p) k8 true)) (mvs (zal (List.zip o p) k8 true)))
   (z6u n 0 m.params a (mks (List.zip b c)) (mvs (List.zip b c)) d e f g (m.params.length:Int) j (mks (List.zip k l)) (mvs (List.zip k l)) m (mks (List.zip o p)) (mvs (List.zip o p)))
noncomputable def z6u:Nat->Int->(List B8)->Bool->(List B8)->(List Bool)->yz7->Int->Int->Bool->Int->kz1->(List B8)->(List Int)->yzh->(List B8)->(List Bool)->Ot Int
 |0,_,_,_,_,_,_,_,_,_,_,_,_,_,_,_,_=>none
 |n+1,a,b,c,d,e,f,g,h,i,j,k,l,m,o,p,q=>
  pIf (decide (a<j))
   ((ix b a).bind λx11=>
   z6u n (IntKind.i64.wrap (a+1)) b c (mks (List.zip d e)) (mvs (List.zip d e)) f g h i j k (mks (List.zip l m)) (mvs (List.zip l m)) o (mks (zal (List.zip p q) x11 true)) (mvs (zal (List.zip p q) x11 true)))
   (pIf i
     (z67 n c true (mks (List.zip d e)) (mvs (List.zip d e)) f g h k (mks (List.zip l m)) (mvs (List.zip l m)) o)
     ((zek n o).bind λy12=>
     (yzm n y12 (mks (List.zip p q)) (mvs (List.zip p q))).bind λy13=>
     z67 n c y13.1 (mks (List.zip d e)) (mvs (List.zip d e)) f g h k (mks (List.zip l m)) (mvs (List.zip l m)) o))
noncomputable def z67:Nat->Bool->Bool->(List B8)->(List Bool)->yz7->Int->Int->kz1->(List B8)->(List Int)->yzh->Ot Int
 |0,_,_,_,_,_,_,_,_,_,_,_=>none
 |n+1,a,b,c,d,e,f,g,h,i,j,k=>
  (z7f n k).bind λy14=>
  z6e n 0 a b y14 (mks (List.zip c d)) (mvs (List.zip c d)) e f g (y14.length:Int) h (mks (List.zip i j)) (mvs (List.zip i j))
noncomputable def z6e:Nat->Int->Bool->Bool->z2j->(List B8)->(List Bool)->yz7->Int->Int->Int->kz1->(List B8)->(List Int)->Ot Int
 |0,_,_,_,_,_,_,_,_,_,_,_,_,_=>none
 |n+1,a,b,c,d,e,f,g,h,i,j,k,l,m=>
  pIf (decide (a<j))
   ((ix d a).bind λx15=>
   pIf c
    (z58 n true d (mks (List.zip e f)) (mvs (List.zip e f)) g h i j a (Option.getD (z9p (List.zip l m) x15.name) 0) (Option.isSome (z9p (List.zip l m) x15.name)) b k (mks (List.zip l m)) (mvs (List.zip l m)) x15)
    (z58 n (!(Option.isSome (z9p (List.zip l m) x15.name))) d (mks (List.zip e f)) (mvs (List.zip e f)) g h i j a (Option.getD (z9p (List.zip l m) x15.name) 0) (Option.isSome (z9p (List.zip l m) x15.name)) b k (mks (List.zip l m)) (mvs (List.zip l m)) x15))
   (z0e n b (IntKind.i64.wrap (i+1)) c (mks (List.zip e f)) (mvs (List.zip e f)) g h k (mks (List.zip l m)) (mvs (List.zip l m)))
noncomputable def z58:Nat->Bool->z2j->(List B8)->(List Bool)->yz7->Int->Int->Int->Int->Int->Bool->Bool->kz1->(List B8)->(List Int)->kzz->Ot Int
 |0,_,_,_,_,_,_,_,_,_,_,_,_,_,_,_,_=>none
 |n+1,a,b,c,d,e,f,g,h,i,j,k,l,m,o,p,q=>
  pIf l
   (z34 n true a b (mks (List.zip c d)) (mvs (List.zip c d)) e f g h i m (mks (List.zip o p)) (mvs (List.zip o p)))
   (pIf k
     ((ix m.rules j).bind λx16=>
     z34 n (q.many != (x16.params.length:Int)) a b (mks (List.zip c d)) (mvs (List.zip c d)) e f g h i m (mks (List.zip o p)) (mvs (List.zip o p)))
     (z34 n false a b (mks (List.zip c d)) (mvs (List.zip c d)) e f g h i m (mks (List.zip o p)) (mvs (List.zip o p))))
noncomputable def z34:Nat->Bool->Bool->z2j->(List B8)->(List Bool)->yz7->Int->Int->Int->Int->kz1->(List B8)->(List Int)->Ot Int
 |0,_,_,_,_,_,_,_,_,_,_,_,_,_=>none
 |n+1,a,b,c,d,e,f,g,h,i,j,k,l,m=>
  z6e n (IntKind.i64.wrap (j+1)) a b c (mks (List.zip d e)) (mvs (List.zip d e)) f g h i k (mks (List.zip l m)) (mvs (List.zip l m))
end
noncomputable def zuw:LSh:=⟨[(2,dI)],[],0,170,[]⟩
noncomputable def z9o:FI dat:=FI.of dat 10 170 0 [dT 11] [] [dI] [] true zuw (R:=Int) Prod.fst (·,()) (λn=>u1 (zz3 n))
 (λn=>[(0,⟨⟨[(35,dI),(3,(.map 0)),(5,dB),(33,dL 6),(4,(.map 1)),(1,(.ptr 2 0)),(34,dI)],[(.mp 76 .bool),(.mp 77 (.int .i64)),(.st 11)],0,170,[]⟩,u9 (yzo n)⟩),(1,⟨⟨[(3,(.map 0)),(5,dB),(33,dL 6),(4,(.map 1)),(1,(.ptr 2 0)),(34,dI),(35,dI),(7,(.ptr 3 0))],[(.mp 76 .bool),(.mp 77 (.int .i64)),(.st 11),(.st 6)],0,170,[]⟩,u10 (kzw n)⟩),(2,⟨⟨[(3,(.map 0)),(57,dI),(4,(.map 1)),(55,dL 10),(1,(.ptr 2 0)),(5,dB),(56,dI)],[(.mp 76 .bool),(.mp 77 (.int .i64)),(.st 11)],0,170,[]⟩,u9 (zzv n)⟩),(3,⟨⟨[(77,dI),(9,(.ptr 0 0)),(3,(.map 1)),(75,dA),(4,(.map 2)),(55,dL 10),(1,(.ptr 3 0)),(5,dB),(56,dI),(57,dI),(76,dI)],[(.st 10),(.mp 76 .bool),(.mp 77 (.int .i64)),(.st 11)],0,170,[]⟩,λx=>yzv n x.1 x.2.1 x.2.2.1 x.2.2.2.1 x.2.2.2.2.1 x.2.2.2.2.2.1 x.2.2.2.2.2.2.1 x.2.2.2.2.2.2.2.1 x.2.2.2.2.2.2.2.2.1 x.2.2.2.2.2.2.2.2.2.1 x.2.2.2.2.2.2.2.2.2.2.1 x.2.2.2.2.2.2.2.2.2.2.2.1 x.2.2.2.2.2.2.2.2.2.2.2.2.1⟩),(4,⟨⟨[(9,(.ptr 0 0)),(3,(.map 1)),(75,dA),(4,(.map 2)),(55,dL 10),(1,(.ptr 3 0)),(5,dB),(56,dI),(57,dI),(76,dI),(77,dI),(92,dB)],[(.st 10),(.mp 76 .bool),(.mp 77 (.int .i64)),(.st 11)],0,170,[]⟩,λx=>z0i n x.1 x.2.1 x.2.2.1 x.2.2.2.1 x.2.2.2.2.1 x.2.2.2.2.2.1 x.2.2.2.2.2.2.1 x.2.2.2.2.2.2.2.1 x.2.2.2.2.2.2.2.2.1 x.2.2.2.2.2.2.2.2.2.1 x.2.2.2.2.2.2.2.2.2.2.1 x.2.2.2.2.2.2.2.2.2.2.2.1 x.2.2.2.2.2.2.2.2.2.2.2.2.1 x.2.2.2.2.2.2.2.2.2.2.2.2.2.1⟩),(5,⟨⟨[(1,(.ptr 0 0)),(14,dB),(4,(.map 1)),(98,dI),(5,dB),(3,(.mc .bool)),(96,dL 10),(97,dI)],[(.st 11),(.mp 77 (.int .i64))],0,170,[]⟩,u10 (z0e n)⟩),(6,⟨⟨[(17,(.ptr 0 0)),(105,(.ptr 1 0)),(1,(.ptr 2 0)),(14,dB),(4,(.map 3)),(3,(.mc .bool)),(96,dL 10),(97,dI),(98,dI),(16,(.ptr 4 0)),(5,dB)],[(.cells [(.map 5)]),(.mit .bool),(.st 11),(.mp 77 (.int .i64)),(.st 10),(.mp 76 .bool)],0,170,[]⟩,λx=>z0m n x.1 x.2.1 x.2.2.1 x.2.2.2.1 x.2.2.2.2.1 x.2.2.2.2.2.1 x.2.2.2.2.2.2.1 x.2.2.2.2.2.2.2.1 x.2.2.2.2.2.2.2.2.1 x.2.2.2.2.2.2.2.2.2.1 x.2.2.2.2.2.2.2.2.2.2.1 x.2.2.2.2.2.2.2.2.2.2.2.1 x.2.2.2.2.2.2.2.2.2.2.2.2.1 x.2.2.2.2.2.2.2.2.2.2.2.2.2.1 x.2.2.2.2.2.2.2.2.2.2.2.2.2.2.1⟩),(7,⟨⟨[(115,dI),(17,(.ptr 0 0)),(113,dA),(1,(.ptr 1 0)),(14,dB),(4,(.map 2)),(3,(.mc .bool)),(96,dL 10),(97,dI),(98,dI),(16,(.ptr 3 0)),(5,dB),(114,dI)],[(.cells [(.map 4)]),(.st 11),(.mp 77 (.int .i64)),(.st 10),(.mp 76 .bool)],0,170,[]⟩,λx=>z6u n x.1 x.2.1 x.2.2.1 x.2.2.2.1 x.2.2.2.2.1 x.2.2.2.2.2.1 x.2.2.2.2.2.2.1 x.2.2.2.2.2.2.2.1 x.2.2.2.2.2.2.2.2.1 x.2.2.2.2.2.2.2.2.2.1 x.2.2.2.2.2.2.2.2.2.2.1 x.2.2.2.2.2.2.2.2.2.2.2.1 x.2.2.2.2.2.2.2.2.2.2.2.2.1 x.2.2.2.2.2.2.2.2.2.2.2.2.2.1 x.2.2.2.2.2.2.2.2.2.2.2.2.2.2.1 x.2.2.2.2.2.2.2.2.2.2.2.2.2.2.2.1⟩),(8,⟨⟨[(1,(.ptr 0 0)),(14,dB),(5,dB),(4,(.map 1)),(3,(.mc .bool)),(96,dL 10),(97,dI),(98,dI),(16,(.ptr 2 0))],[(.st 11),(.mp 77 (.int .i64)),(.st 10)],0,170,[]⟩,u11 (z67 n)⟩),(9,⟨⟨[(132,dI),(1,(.ptr 0 0)),(14,dB),(5,dB),(4,(.map 1)),(130,dL 12),(3,(.mc .bool)),(96,dL 10),(97,dI),(98,dI),(131,dI)],[(.st 11),(.mp 77 (.int .i64))],0,170,[]⟩,λx=>z6e n x.1 x.2.1 x.2.2.1 x.2.2.2.1 x.2.2.2.2.1 x.2.2.2.2.2.1 x.2.2.2.2.2.2.1 x.2.2.2.2.2.2.2.1 x.2.2.2.2.2.2.2.2.1 x.2.2.2.2.2.2.2.2.2.1 x.2.2.2.2.2.2.2.2.2.2.1 x.2.2.2.2.2.2.2.2.2.2.2.1 x.2.2.2.2.2.2.2.2.2.2.2.2.1⟩),(10,⟨⟨[(1,(.ptr 0 0)),(5,dB),(4,(.map 1)),(130,dL 12),(3,(.mc .bool)),(96,dL 10),(97,dI),(98,dI),(131,dI),(132,dI),(23,dI),(22,(.ptr 2 0)),(24,dB),(14,dB)],[(.st 11),(.mp 77 (.int .i64)),(.st 12)],0,170,[]⟩,λx=>z58 n x.1 x.2.1 x.2.2.1 x.2.2.2.1 x.2.2.2.2.1 x.2.2.2.2.2.1 x.2.2.2.2.2.2.1 x.2.2.2.2.2.2.2.1 x.2.2.2.2.2.2.2.2.1 x.2.2.2.2.2.2.2.2.2.1 x.2.2.2.2.2.2.2.2.2.2.1 x.2.2.2.2.2.2.2.2.2.2.2.1 x.2.2.2.2.2.2.2.2.2.2.2.2.1 x.2.2.2.2.2.2.2.2.2.2.2.2.2.1 x.2.2.2.2.2.2.2.2.2.2.2.2.2.2.1 x.2.2.2.2.2.2.2.2.2.2.2.2.2.2.2.1⟩),(11,⟨⟨[(1,(.ptr 0 0)),(14,dB),(5,dB),(4,(.map 1)),(130,dL 12),(3,(.mc .bool)),(96,dL 10),(97,dI),(98,dI),(131,dI),(132,dI)],[(.st 11),(.mp 77 (.int .i64))],0,170,[]⟩,λx=>z34 n x.1 x.2.1 x.2.2.1 x.2.2.2.1 x.2.2.2.2.1 x.2.2.2.2.2.1 x.2.2.2.2.2.2.1 x.2.2.2.2.2.2.2.1 x.2.2.2.2.2.2.2.2.1 x.2.2.2.2.2.2.2.2.2.1 x.2.2.2.2.2.2.2.2.2.2.1 x.2.2.2.2.2.2.2.2.2.2.2.1 x.2.2.2.2.2.2.2.2.2.2.2.2.1⟩)]) (anb [(26,0),(39,1),(53,2),(79,3),(92,4),(105,5),(122,6),(137,7),(152,8),(155,9),(170,10),(171,11)] f10)
theorem zb8:FOk prog z9o:=okF (bs:=[zhh,z1a,zof,zik,yze,zln,zbx]) ⟨zlv,z63,zv1,zqu,zzw,zsv,ze8,trivial⟩ func10 ntmps10 call10
 (λn=>λ_=>tr (zz3.eq_2 _ n))
 (λn=>⟨λ_=>tr (yzo.eq_2 _ _ _ _ _ _ _ _ _ n),
  λ_=>tr (kzw.eq_2 _ _ _ _ _ _ _ _ _ _ n),
  λ_=>tr (zzv.eq_2 _ _ _ _ _ _ _ _ _ n),
  λ_=>tr (yzv.eq_2 _ _ _ _ _ _ _ _ _ _ _ _ _ n),
  λ_=>tr (z0i.eq_2 _ _ _ _ _ _ _ _ _ _ _ _ _ _ n),
  λ_=>tr (z0e.eq_2 _ _ _ _ _ _ _ _ _ _ n),
  λ_=>tr (z0m.eq_2 _ _ _ _ _ _ _ _ _ _ _ _ _ _ _ n),
  λ_=>tr (z6u.eq_2 _ _ _ _ _ _ _ _ _ _ _ _ _ _ _ _ n),
  λ_=>tr (z67.eq_2 _ _ _ _ _ _ _ _ _ _ _ n),
  λ_=>tr (z6e.eq_2 _ _ _ _ _ _ _ _ _ _ _ _ _ n),
  λ_=>tr (z58.eq_2 _ _ _ _ _ _ _ _ _ _ _ _ _ _ _ _ n),
  λ_=>tr (z34.eq_2 _ _ _ _ _ _ _ _ _ _ _ _ _ n),
  trivial⟩)
noncomputable def yz4:Nat->zz4->Ot (z07×yz7)
 |0,_=>none
 |n+1,a=>
  (kzj n 1).bind λy0=>
  (z4l n).bind λy1=>
  some ([(zz8.mk [107] y0.re)],[(yzh.mk [97] [[110]] [(kzq.mk 1 y1.re [a])])])
noncomputable def zmh:LSh:=⟨[(2,(.ptr 0 0))],[(.cells [dL 6,(.own 1)]),(.acc 47 (.st 10) true)],0,15,[]⟩
noncomputable def zet:FI dat:=FI.of dat 11 15 0 [dT 8] [] [(.agg [dL 6,(.own 1)])] [(.cells [dL 6,(.own 1)]),(.acc 47 (.st 10) true)] false zmh (R:=z07×yz7) (λx=>(x.1,x.2.1)) (λr=>(r.1,r.1,r.2,())) (λn=>u1 (yz4 n))
 (λn=>[]) (anb [] f11)
theorem zkp:FOk prog zet:=okF (bs:=[z3b,za9,ych dat 13]) ⟨z54,zd9,ycp,trivial⟩ func11 ntmps11 call11
 (λ_ _=>tr (yz4.eq_2 ..))
 (λn=>trivial)
noncomputable def kzk:Nat->B8->B8->Ot Bool
 |0,_,_=>none
 |n+1,a,b=>
  pIf (decide ((a.length:Int)>=(b.length:Int)))
   ((sub a (IntKind.i64.wrap ((a.length:Int)-(b.length:Int))) (a.length:Int)).bind λx0=>
   some (x0==b))
   (some false)
noncomputable def zax:LSh:=⟨[(4,dB)],[],0,21,[]⟩
noncomputable def z0f:FI dat:=FI.of dat 97 21 0 [dS,dS] [] [dB] [] true zax (R:=Bool) Prod.fst (·,()) (λn=>u2 (kzk n))
 (λn=>[]) (anb [] f97)
theorem z3g:FOk prog z0f:=okF (bs:=[]) trivial func97 ntmps97 call97
 (λn=>λ_=>tr (kzk.eq_2 _ _ n))
 (λn=>trivial)
noncomputable def z7a:Nat->B8->B8->Ot Bool
 |0,_,_=>none
 |n+1,a,b=>
  (kzk n a b).bind λy0=>
  some y0
noncomputable def zlg:LSh:=⟨[(4,dB)],[],0,8,[]⟩
noncomputable def z9d:FI dat:=FI.of dat 41 8 0 [dS,dS] [] [dB] [] true zlg (R:=Bool) Prod.fst (·,()) (λn=>u2 (z7a n))
 (λn=>[]) (anb [] f41)
theorem zjn:FOk prog z9d:=okF (bs:=[z0f]) ⟨z3g,trivial⟩ func41 ntmps41 call41
 (λ_ _=>tr (z7a.eq_2 ..))
 (λn=>trivial)
mutual
noncomputable def zc8:Nat->kz2->Ot (B8×Int)
 |0,_=>none
 |n+1,a=>
  (z7p n a).bind λy0=>
  pIf (y0 != 0)
   (some ([],y0))
   ((z1v n a.num 10).bind λy1=>
   pIf (a.den != 1)
    ((z1v n a.den 10).bind λy2=>
    (cat [47] y2).bind λx3=>
    (cat y1 x3).bind λx4=>
    z86 n x4)
    (z86 n y1))
noncomputable def z86:Nat->B8->Ot (B8×Int)
 |0,_=>none
 |n+1,a=>
  some (a,0)
end
noncomputable def zw2:LSh:=⟨[(2,dS),(3,dI)],[],0,24,[]⟩
noncomputable def ze2:FI dat:=FI.of dat 254 24 0 [dT 3] [] [dS,dI] [] true zw2 (R:=B8×Int) (λx=>(x.1,x.2.1)) (λr=>(r.1,r.2,())) (λn=>u1 (zc8 n))
 (λn=>[(0,⟨⟨[(5,dS)],[],0,24,[]⟩,u1 (z86 n)⟩)]) (anb [(20,0)] f254)
theorem zlo:FOk prog ze2:=okF (bs:=[z9k,zdb]) ⟨zeq,zj1,trivial⟩ func254 ntmps254 call254
 (λ_ _=>tr (zc8.eq_2 ..))
 (λn=>⟨λ_=>tr (z86.eq_2 _ n),
  trivial⟩)
noncomputable def yz3:Nat->B8->(List Int)->Ot (Int×(List Int))
 |0,_,_=>none
 |n+1,a,b=>
  (kzy n b).bind λy0=>
  (ext y0 (zx0 a)).bind λx1=>
  some ((a.length:Int),x1)
noncomputable def zci:LSh:=⟨[(4,dI),(5,.nili)],[(.bld 111 1),(.acc 5 (.int .u8) true)],1,19,[]⟩
noncomputable def kzc:FI dat:=FI.of dat 59 19 1 [(.bp 0),dS] [(.bld 111 1),(.acc 5 (.int .u8) true)] [dI,.nili] [(.bld 111 1),(.acc 5 (.int .u8) true)] false zci (R:=Int×(List Int)) (λx=>(x.1,x.2.1)) (λr=>(r.1,r.2,())) (λn=>u2 (yz3 n))
 (λn=>[]) (anb [] f59)
theorem z17:FOk prog kzc:=okF (bs:=[z08]) ⟨z2a,trivial⟩ func59 ntmps59 call59
 (λn x=>tr (yz3.eq_2 x.1 x.2.1 n))
 (λn=>trivial)
noncomputable def kz6:Nat->Int->(List Int)->Ot (List Int)
 |0,_,_=>none
 |n+1,a,b=>
  (kzy n b).bind λy0=>
  (ext y0 [a]).bind λx1=>
  some x1
noncomputable def zdk:LSh:=⟨[(4,.nili)],[(.bld 111 1),(.acc 5 (.int .u8) true)],1,17,[]⟩
noncomputable def z09:FI dat:=FI.of dat 255 17 1 [(.bp 0),dU] [(.bld 111 1),(.acc 5 (.int .u8) true)] [.nili] [(.bld 111 1),(.acc 5 (.int .u8) true)] false zdk (R:=List Int) Prod.fst (·,()) (λn=>u2 (kz6 n))
 (λn=>[]) (anb [] f255)
theorem z5o:FOk prog z09:=okF (bs:=[z08]) ⟨z2a,trivial⟩ func255 ntmps255 call255
 (λn x=>tr (kz6.eq_2 x.1 x.2.1 n))
 (λn=>trivial)
mutual
noncomputable def z01:Nat->Int->(List Int)->Ot (List Int)
 |0,_,_=>none
 |n+1,a,b=>
  pIf (decide ((IntKind.u32.wrap a)<=2047))
   ((shr .i32 a 6).bind λx0=>
   (ext b [(bits BinOp.or .u8 192 (IntKind.u8.wrap x0)),(bits BinOp.or .u8 128 (bits BinOp.and .u8 (IntKind.u8.wrap a) 63))]).bind λx1=>
   some x1)
   (pIf (decide ((IntKind.u32.wrap a)<55296))
     (zz9 n a (IntKind.u32.wrap a) true b)
     (pIf (decide (57343<(IntKind.u32.wrap a)))
       (zz9 n a (IntKind.u32.wrap a) (decide ((IntKind.u32.wrap a)<=65535)) b)
       (zz9 n a (IntKind.u32.wrap a) false b)))
noncomputable def zz9:Nat->Int->Int->Bool->(List Int)->Ot (List Int)
 |0,_,_,_,_=>none
 |n+1,a,b,c,d=>
  pIf c
   ((shr .i32 a 12).bind λx2=>
   (shr .i32 a 6).bind λx3=>
   (ext d [(bits BinOp.or .u8 224 (IntKind.u8.wrap x2)),(bits BinOp.or .u8 128 (bits BinOp.and .u8 (IntKind.u8.wrap x3) 63)),(bits BinOp.or .u8 128 (bits BinOp.and .u8 (IntKind.u8.wrap a) 63))]).bind λx4=>
   some x4)
   (pIf (decide (b>65535))
     (zzf n a (decide (b<=1114111)) d)
     (zzf n a false d))
noncomputable def zzf:Nat->Int->Bool->(List Int)->Ot (List Int)
 |0,_,_,_=>none
 |n+1,a,b,c=>
  pIf b
   ((shr .i32 a 18).bind λx5=>
   (shr .i32 a 12).bind λx6=>
   (shr .i32 a 6).bind λx7=>
   (ext c [(bits BinOp.or .u8 240 (IntKind.u8.wrap x5)),(bits BinOp.or .u8 128 (bits BinOp.and .u8 (IntKind.u8.wrap x6) 63)),(bits BinOp.or .u8 128 (bits BinOp.and .u8 (IntKind.u8.wrap x7) 63)),(bits BinOp.or .u8 128 (bits BinOp.and .u8 (IntKind.u8.wrap a) 63))]).bind λx8=>
   some x8)
   ((ext c [239,191,189]).bind λx9=>
   some x9)
end
noncomputable def zah:LSh:=⟨[(4,(.own 0))],[(.acc 5 (.int .u8) true)],0,78,[]⟩
noncomputable def z3f:FI dat:=FI.of dat 289 78 0 [(.own 0),(.d (.int .i32))] [(.acc 5 (.int .u8) true)] [(.own 0)] [(.acc 5 (.int .u8) true)] false zah (R:=List Int) Prod.fst (·,()) (λn=>u2 (z01 n))
 (λn=>[(0,⟨⟨[(1,(.d (.int .i32))),(0,(.own 0)),(5,(.d (.int .u32))),(25,dB)],[(.acc 5 (.int .u8) true)],0,78,[]⟩,u4 (zz9 n)⟩),(1,⟨⟨[(1,(.d (.int .i32))),(0,(.own 0)),(50,dB)],[(.acc 5 (.int .u8) true)],0,78,[]⟩,u3 (zzf n)⟩)]) (anb [(17,0),(23,1)] f289)
theorem zaa:FOk prog z3f:=okF (bs:=[]) trivial func289 ntmps289 call289
 (λ_ _=>tr (z01.eq_2 ..))
 (λn=>⟨λ_=>tr (zz9.eq_2 ..),
  λ_=>tr (zzf.eq_2 _ _ _ n),
  trivial⟩)
noncomputable def z36:Nat->Int->(List Int)->Ot (List Int)
 |0,_,_=>none
 |n+1,a,b=>
  pIf (decide ((IntKind.u32.wrap a)<=127))
   ((ext b [(IntKind.u8.wrap a)]).bind λx0=>
   some x0)
   ((z01 n a b).bind λy1=>
   some y1)
noncomputable def zf6:LSh:=⟨[(4,(.own 0))],[(.acc 5 (.int .u8) true)],0,16,[]⟩
noncomputable def z94:FI dat:=FI.of dat 278 16 0 [(.own 0),(.d (.int .i32))] [(.acc 5 (.int .u8) true)] [(.own 0)] [(.acc 5 (.int .u8) true)] false zf6 (R:=List Int) Prod.fst (·,()) (λn=>u2 (z36 n))
 (λn=>[]) (anb [] f278)
theorem zei:FOk prog z94:=okF (bs:=[z3f]) ⟨zaa,trivial⟩ func278 ntmps278 call278
 (λ_ _=>tr (z36.eq_2 ..))
 (λn=>trivial)
noncomputable def z2d:Nat->Int->(List Int)->Ot (Int×(List Int))
 |0,_,_=>none
 |n+1,a,b=>
  (kzy n b).bind λy0=>
  (z36 n a y0).bind λy1=>
  some ((IntKind.i64.wrap ((y1.length:Int)-(y0.length:Int))),y1)
noncomputable def zdr:LSh:=⟨[(4,dI),(5,.nili)],[(.bld 111 1),(.acc 5 (.int .u8) true)],1,30,[]⟩
noncomputable def z2v:FI dat:=FI.of dat 256 30 1 [(.bp 0),(.d (.int .i32))] [(.bld 111 1),(.acc 5 (.int .u8) true)] [dI,.nili] [(.bld 111 1),(.acc 5 (.int .u8) true)] false zdr (R:=Int×(List Int)) (λx=>(x.1,x.2.1)) (λr=>(r.1,r.2,())) (λn=>u2 (z2d n))
 (λn=>[]) (anb [] f256)
theorem zd3:FOk prog z2v:=okF (bs:=[z08,z94]) ⟨z2a,zei,trivial⟩ func256 ntmps256 call256
 (λ_ _=>tr (z2d.eq_2 ..))
 (λn=>trivial)
mutual
noncomputable def zb6:Nat->kz0->(List Int)->Ot (List Int)
 |0,_,_=>none
 |n+1,a,b=>
  pIf (a.kind==1)
   ((zc8 n a.num).bind λy0=>
   (yz3 n y0.1 b).bind λy1=>
   some y1.2)
   (pIf (a.kind==2)
     (pIf a.truth
       ((yz3 n [116,114,117,101] b).bind λy2=>
       some y2.2)
       ((yz3 n [102,97,108,115,101] b).bind λy3=>
       some y3.2))
     (pIf (a.kind==3)
       ((kz6 n 34 b).bind λy4=>
       z6c n y4 a.str 0)
       (pIf (a.kind==4)
         ((kz6 n 91 b).bind λy5=>
         z6l n 0 a.list (a.list.length:Int) y5)
         (some b))))
noncomputable def z6c:Nat->(List Int)->B8->Nat->Ot (List Int)
 |0,_,_,_=>none
 |n+1,a,b,c=>
  pIf (decide (c<b.length))
   (pIf (((za7 b c).1:Int)==34)
     (z6r n ((za7 b c).1:Int) a b (c+(za7 b c).2))
     (pIf (((za7 b c).1:Int)==92)
       (z6r n ((za7 b c).1:Int) a b (c+(za7 b c).2))
       (z6g n ((za7 b c).1:Int) a b (c+(za7 b c).2))))
   ((kz6 n 34 a).bind λy6=>
   some y6)
noncomputable def z6r:Nat->Int->(List Int)->B8->Nat->Ot (List Int)
 |0,_,_,_,_=>none
 |n+1,a,b,c,d=>
  (kz6 n 92 b).bind λy10=>
  z6g n a y10 c d
noncomputable def z6g:Nat->Int->(List Int)->B8->Nat->Ot (List Int)
 |0,_,_,_,_=>none
 |n+1,a,b,c,d=>
  (z2d n a b).bind λy11=>
  z6c n y11.2 c d
noncomputable def z6l:Nat->Int->z3v->Int->(List Int)->Ot (List Int)
 |0,_,_,_,_=>none
 |n+1,a,b,c,d=>
  pIf (decide (a<c))
   ((ix b a).bind λx7=>
   pIf (decide (a>0))
    ((yz3 n [44,32] d).bind λy8=>
    z6s n b c a y8.2 x7.re)
    (z6s n b c a d x7.re))
   ((kz6 n 93 d).bind λy9=>
   some y9)
noncomputable def z6s:Nat->z3v->Int->Int->(List Int)->kz0->Ot (List Int)
 |0,_,_,_,_,_=>none
 |n+1,a,b,c,d,e=>
  (zb6 n e.re d).bind λy12=>
  z6l n (IntKind.i64.wrap (c+1)) a b y12
end
noncomputable def zug:LSh:=⟨[],[(.bld 111 1),(.acc 5 (.int .u8) true)],1,75,[]⟩
noncomputable def z9j:FI dat:=FI.of dat 224 75 1 [(.bp 0),dT 4] [(.bld 111 1),(.acc 5 (.int .u8) true)] [] [(.bld 111 1),(.acc 5 (.int .u8) true)] false zug (R:=List Int) Prod.fst (·,()) (λn=>u2 (zb6 n))
 (λn=>[(0,⟨⟨[(0,(.bp 0)),(37,(.ptr 2 0))],[(.bld 111 1),(.acc 5 (.int .u8) true),.siter],1,75,[]⟩,u3 (z6c n)⟩),(1,⟨⟨[(0,(.bp 0)),(37,(.ptr 2 0)),(7,(.d (.int .i32)))],[(.bld 111 1),(.acc 5 (.int .u8) true),.siter],1,75,[]⟩,u4 (z6r n)⟩),(2,⟨⟨[(0,(.bp 0)),(37,(.ptr 2 0)),(7,(.d (.int .i32)))],[(.bld 111 1),(.acc 5 (.int .u8) true),.siter],1,75,[]⟩,u4 (z6g n)⟩),(3,⟨⟨[(60,dI),(0,(.bp 0)),(58,dL 4),(59,dI)],[(.bld 111 1),(.acc 5 (.int .u8) true)],1,75,[]⟩,u4 (z6l n)⟩),(4,⟨⟨[(0,(.bp 0)),(58,dL 4),(59,dI),(60,dI),(9,(.ptr 2 0))],[(.bld 111 1),(.acc 5 (.int .u8) true),(.st 4)],1,75,[]⟩,u5 (z6s n)⟩)]) (anb [(28,0),(59,1),(60,2),(73,3),(90,4)] f224)
noncomputable def zv5:List (FI dat):=[z9j]++[kzc,z09,z2v,ze2]
theorem zv4:(z9j).Good prog dat (tb zv5):=FI.z42 (hD:=kza _) func224 ntmps224 call224 (by kernel_rfl) (Qac (by kernel_rfl)) (by kernel_rfl) (λn=>by kernel_rfl) (λx=>by kernel_rfl) (λ_=>rfl) ⟨λ_=>rfl,λ_=>rfl,λ_=>rfl,λ_=>rfl,λ_=>rfl,trivial⟩
 (λ_ _=>tr (zb6.eq_2 ..))
 (λn=>⟨λ_=>tr (z6c.eq_2 ..),
  λ_=>tr (z6r.eq_2 ..),
  λ_=>tr (z6g.eq_2 ..),
  λ_=>tr (z6l.eq_2 ..),
  λ_=>tr (z6s.eq_2 ..),
  trivial⟩)
 (λx=>.inr (by kernel_rfl))
theorem zup:OkL prog [z9j]:=zc7 (kza _) (bs:=[kzc,z09,z2v,ze2]) ⟨z17,z5o,zd3,zlo,trivial⟩ ⟨zv4,trivial⟩
theorem zrk:FOk prog z9j:=zup.1
noncomputable def z0n:Nat->(List Int)->Ot (Int×(List Int))
 |0,_=>none
 |n+1,a=>
  some ((a.length:Int),a)
noncomputable def zhv:LSh:=⟨[(2,dI)],[(.bld 111 1),(.acc 5 (.int .u8) true)],1,8,[]⟩
noncomputable def z3c:FI dat:=FI.of dat 65 8 1 [(.bp 0)] [(.bld 111 1),(.acc 5 (.int .u8) true)] [dI] [(.bld 111 1),(.acc 5 (.int .u8) true)] false zhv (R:=Int×(List Int)) (λx=>(x.1,x.2.1)) (λr=>(r.1,r.2,())) (λn=>u1 (z0n n))
 (λn=>[]) (anb [] f65)
theorem z5c:FOk prog z3c:=okF (bs:=[]) trivial func65 ntmps65 call65
 (λn=>λ_=>tr (z0n.eq_2 _ n))
 (λn=>trivial)
noncomputable def zfv:Nat->kz0->Ot (B8×Int)
 |0,_=>none
 |n+1,a=>
  (z7l n a.re).bind λy0=>
  pIf (y0 != 0)
   (some ([],y0))
   ((zb6 n a.re []).bind λy1=>
   (z0n n y1).bind λy2=>
   pIf (decide (y2.1>4000))
    (some ([],4))
    ((zzu n y2.2).bind λy3=>
    some (y3,0)))
noncomputable def zxy:LSh:=⟨[(2,dS),(3,dI)],[],0,16,[]⟩
noncomputable def zgt:FI dat:=FI.of dat 181 16 0 [dT 4] [] [dS,dI] [] true zxy (R:=B8×Int) (λx=>(x.1,x.2.1)) (λr=>(r.1,r.2,())) (λn=>u1 (zfv n))
 (λn=>[]) (anb [] f181)
theorem zuj:FOk prog zgt:=okF (bs:=[z9j,z3c,yzx,z9g]) ⟨zrk,z5c,z0z,zeo,trivial⟩ func181 ntmps181 call181
 (λ_ _=>tr (zfv.eq_2 ..))
 (λn=>trivial)
mutual
noncomputable def zam:Nat->Int->Ot B8
 |0,_=>none
 |n+1,a=>
  pIf (decide (a<3))
   (za1 n a true)
   (za1 n a (decide (a>10)))
noncomputable def za1:Nat->Int->Bool->Ot B8
 |0,_,_=>none
 |n+1,a,b=>
  pIf b
   (some [])
   ((kzh n [43,32,45,32,42,32,47,32,60,32,61,32,97,110,100,32,111,114]).bind λy0=>
   (ix y0 (IntKind.u8.wrap (a-3))).bind λx1=>
   some x1)
end
noncomputable def y1j:LSh:=⟨[(2,dS)],[],0,14,[]⟩
noncomputable def zcj:FI dat:=FI.of dat 182 14 0 [dU] [] [dS] [] true y1j (R:=B8) Prod.fst (·,()) (λn=>u1 (zam n))
 (λn=>[(0,⟨⟨[(0,dU),(8,dB)],[],0,14,[]⟩,u2 (za1 n)⟩)]) (anb [(5,0)] f182)
theorem zoh:FOk prog zcj:=okF (bs:=[z02]) ⟨z3z,trivial⟩ func182 ntmps182 call182
 (λ_ _=>tr (zam.eq_2 ..))
 (λn=>⟨λ_=>tr (za1.eq_2 ..),
  trivial⟩)
mutual
noncomputable def zc0:Nat->yz1->(List Int)->Ot (List Int)
 |0,_,_=>none
 |n+1,a,b=>
  pIf (a.op==1)
   ((zfv n a.value.re).bind λy0=>
   pIf (y0.2==0)
    ((yz3 n y0.1 b).bind λy1=>
    some y1.2)
    (some b))
   (pIf (a.op==2)
     ((yz3 n a.name b).bind λy2=>
     some y2.2)
     ((zam n a.op).bind λy3=>
     pIf (!(y3==[]))
      ((zam n a.op).bind λy4=>
      (cat [32] y4).bind λx5=>
      (cat x5 [32]).bind λx6=>
      z4v n x6 [41] [40] b a.re)
      (pIf (a.op != 18)
        ((kzh n [110,111,116,32,105,102,32,109,105,110,32,109,97,120,32,102,108,111,111,114,32,108,101,110,32,97,116]).bind λy7=>
        (ix y7 (IntKind.u8.wrap (a.op-11))).bind λx8=>
        (cat x8 [40]).bind λx9=>
        z4v n [44,32] [41] x9 b a.re)
        (z4v n [44,32] [93] [91] b a.re))))
noncomputable def z4v:Nat->B8->B8->B8->(List Int)->yz1->Ot (List Int)
 |0,_,_,_,_,_=>none
 |n+1,a,b,c,d,e=>
  (yz3 n c d).bind λy10=>
  z8p n 0 a e.args b (e.args.length:Int) y10.2
noncomputable def z8p:Nat->Int->B8->zzo->B8->Int->(List Int)->Ot (List Int)
 |0,_,_,_,_,_,_=>none
 |n+1,a,b,c,d,e,f=>
  pIf (decide (a<e))
   ((ix c a).bind λx11=>
   pIf (decide (a>0))
    ((yz3 n b f).bind λy12=>
    z8i n b c d e a y12.2 x11.re)
    (z8i n b c d e a f x11.re))
   ((yz3 n d f).bind λy13=>
   some y13.2)
noncomputable def z8i:Nat->B8->zzo->B8->Int->Int->(List Int)->yz1->Ot (List Int)
 |0,_,_,_,_,_,_,_=>none
 |n+1,a,b,c,d,e,f,g=>
  (zc0 n g.re f).bind λy14=>
  z8p n (IntKind.i64.wrap (e+1)) a b c d y14
end
noncomputable def zx9:LSh:=⟨[],[(.bld 111 1),(.acc 5 (.int .u8) true)],1,78,[]⟩
noncomputable def zb7:FI dat:=FI.of dat 124 78 1 [(.bp 0),dT 5] [(.bld 111 1),(.acc 5 (.int .u8) true)] [] [(.bld 111 1),(.acc 5 (.int .u8) true)] false zx9 (R:=List Int) Prod.fst (·,()) (λn=>u2 (zc0 n))
 (λn=>[(0,⟨⟨[(0,(.bp 0)),(5,dS),(6,dS),(3,(.ptr 2 0)),(4,dS)],[(.bld 111 1),(.acc 5 (.int .u8) true),(.st 5)],1,78,[]⟩,u5 (z4v n)⟩),(1,⟨⟨[(61,dI),(0,(.bp 0)),(5,dS),(59,dL 5),(6,dS),(60,dI)],[(.bld 111 1),(.acc 5 (.int .u8) true)],1,78,[]⟩,u6 (z8p n)⟩),(2,⟨⟨[(0,(.bp 0)),(5,dS),(59,dL 5),(6,dS),(60,dI),(61,dI),(10,(.ptr 2 0))],[(.bld 111 1),(.acc 5 (.int .u8) true),(.st 5)],1,78,[]⟩,u7 (z8i n)⟩)]) (anb [(33,0),(39,1),(56,2)] f124)
noncomputable def zw8:List (FI dat):=[zb7]++[kzc,zgt,zcj,z02]
theorem zxe:(zb7).Good prog dat (tb zw8):=FI.z42 (hD:=kza _) func124 ntmps124 call124 (by kernel_rfl) (Qac (by kernel_rfl)) (by kernel_rfl) (λn=>by kernel_rfl) (λx=>by kernel_rfl) (λ_=>rfl) ⟨λ_=>rfl,λ_=>rfl,λ_=>rfl,trivial⟩
 (λ_ _=>tr (zc0.eq_2 ..))
 (λn=>⟨λ_=>tr (z4v.eq_2 ..),
  λ_=>tr (z8p.eq_2 ..),
  λ_=>tr (z8i.eq_2 ..),
  trivial⟩)
 (λx=>.inr (by kernel_rfl))
theorem zwl:OkL prog [zb7]:=zc7 (kza _) (bs:=[kzc,zgt,zcj,z02]) ⟨z17,zuj,zoh,z3z,trivial⟩ ⟨zxe,trivial⟩
theorem ztz:FOk prog zb7:=zwl.1
noncomputable def zgz:Nat->yz1->Ot (B8×Int)
 |0,_=>none
 |n+1,a=>
  (z1f n a.re).bind λy0=>
  pIf (y0 != 0)
   (some ([],y0))
   ((zc0 n a.re []).bind λy1=>
   (z0n n y1).bind λy2=>
   pIf (decide (y2.1>4000))
    (some ([],4))
    ((zzu n y2.2).bind λy3=>
    some (y3,0)))
noncomputable def y1m:LSh:=⟨[(2,dS),(3,dI)],[],0,16,[]⟩
noncomputable def zqa:FI dat:=FI.of dat 62 16 0 [dT 5] [] [dS,dI] [] true y1m (R:=B8×Int) (λx=>(x.1,x.2.1)) (λr=>(r.1,r.2,())) (λn=>u1 (zgz n))
 (λn=>[]) (anb [] f62)
theorem zvv:FOk prog zqa:=okF (bs:=[zb7,z3c,yzx,z8k]) ⟨ztz,z5c,z0z,z9l,trivial⟩ func62 ntmps62 call62
 (λ_ _=>tr (zgz.eq_2 ..))
 (λn=>trivial)
mutual
noncomputable def z0q:Nat->yz1->Bool->Ot (B8×Bool)
 |0,_,_=>none
 |n+1,a,b=>
  (zgz n a.re).bind λy0=>
  pIf b
   (z56 n y0.1 true)
   (z56 n y0.1 (y0.2 != 0))
noncomputable def z56:Nat->B8->Bool->Ot (B8×Bool)
 |0,_,_=>none
 |n+1,a,b=>
  some (a,b)
end
noncomputable def ztg:LSh:=⟨[(3,dS)],[(.cells [dB])],1,17,[]⟩
noncomputable def zeh:FI dat:=FI.of dat 61 17 1 [dT 5,(.ptr 0 0)] [(.cells [dB])] [dS] [(.cells [dB])] false ztg (R:=B8×Bool) (λx=>(x.1,x.2.1)) (λr=>(r.1,r.2,())) (λn=>u2 (z0q n))
 (λn=>[(0,⟨⟨[(4,dS)],[(.cells [dB])],1,17,[]⟩,u2 (z56 n)⟩)]) (anb [(6,0)] f61)
theorem zhs:FOk prog zeh:=okF (bs:=[zqa]) ⟨zvv,trivial⟩ func61 ntmps61 call61
 (λ_ _=>tr (z0q.eq_2 ..))
 (λn=>⟨λ_=>tr (z56.eq_2 _ _ n),
  trivial⟩)
noncomputable def yzr:Nat->(List B8)->(List Int)->Ot (List Int)
 |0,_,_=>none
 |n+1,a,b=>
  (z9s n a [32]).bind λy0=>
  (cat y0 [10]).bind λx1=>
  (yz3 n x1 b).bind λy2=>
  some y2.2
noncomputable def zt4:LSh:=⟨[],[(.bld 111 1),(.acc 5 (.int .u8) true)],1,7,[]⟩
noncomputable def zee:FI dat:=FI.of dat 58 7 1 [dA,(.bp 0)] [(.bld 111 1),(.acc 5 (.int .u8) true)] [] [(.bld 111 1),(.acc 5 (.int .u8) true)] false zt4 (R:=List Int) Prod.fst (·,()) (λn=>u2 (yzr n))
 (λn=>[]) (anb [] f58)
theorem zhq:FOk prog zee:=okF (bs:=[kzc,zjg]) ⟨z17,zr5,trivial⟩ func58 ntmps58 call58
 (λ_ _=>tr (yzr.eq_2 ..))
 (λn=>trivial)
mutual
noncomputable def z78:Nat->zz4->Bool->(List Int)->Ot (Bool×(List Int))
 |0,_,_,_=>none
 |n+1,a,b,c=>
  (kzh n [99,97,108,108,32,109,111,118,101,32,115,105,122,101,32,116,117,114,110,32,115,112,108,105,116,32,108,101,97,102]).bind λy0=>
  (ix y0 (IntKind.u8.wrap (a.kind-1))).bind λx1=>
  (sub [120,121,122] a.axis (IntKind.u8.wrap (a.axis+1))).bind λx2=>
  pIf (a.kind==6)
   ((ix a.args 0).bind λx3=>
   (z0q n x3.re b).bind λy4=>
   (yzr n [x1,y4.1] c).bind λy5=>
   some (y4.2,y5))
   (pIf (a.kind==5)
     ((yzr n [x1,x2] c).bind λy6=>
     z23 n 0 a.items (a.items.length:Int) b y6)
     (pIf (a.kind==4)
       ((z48 n a.args).bind λy7=>
       (z0q n y7.re b).bind λy8=>
       (yzr n [x1,x2,a.name,y8.1] c).bind λy9=>
       some (y8.2,y9))
       ((z48 n a.args).bind λy10=>
       (z0q n y10.re b).bind λy11=>
       (yzr n [x1,a.name,y11.1] c).bind λy12=>
       some (y11.2,y12))))
noncomputable def z23:Nat->Int->zk6->Int->Bool->(List Int)->Ot (Bool×(List Int))
 |0,_,_,_,_,_=>none
 |n+1,a,b,c,d,e=>
  pIf (decide (a<c))
   ((ix b a).bind λx13=>
   (kzh n [102,105,120,101,100,32,115,104,97,114,101,32,114,101,115,116]).bind λy14=>
   (ix y14 (IntKind.u8.wrap (x13.kind-1))).bind λx15=>
   (z48 n x13.args).bind λy16=>
   (z0q n y16.re d).bind λy17=>
   (yzr n [x15,x13.name,y17.1] e).bind λy18=>
   z23 n (IntKind.i64.wrap (a+1)) b c y17.2 y18)
   (some (d,e))
end
noncomputable def zkv:LSh:=⟨[],[(.bld 111 2),(.cells [dB]),(.acc 5 (.int .u8) true)],2,92,[]⟩
noncomputable def zdg:FI dat:=FI.of dat 64 92 2 [(.fn 58 [] [(.bp 0)]),(.fn 61 [] [(.ptr 1 0)]),dT 8] [(.bld 111 2),(.cells [dB]),(.acc 5 (.int .u8) true)] [] [(.bld 111 2),(.cells [dB]),(.acc 5 (.int .u8) true)] false zkv (R:=Bool×(List Int)) (λx=>(x.1,x.2.1)) (λr=>(r.1,r.2,())) (λn=>u3 (z78 n))
 (λn=>[(0,⟨⟨[(57,dI),(1,(.fn 61 [] [(.ptr 1 0)])),(0,(.fn 58 [] [(.bp 0)])),(55,dL 7),(56,dI)],[(.bld 111 2),(.cells [dB]),(.acc 5 (.int .u8) true)],2,92,[]⟩,u5 (z23 n)⟩)]) (anb [(21,0)] f64)
theorem zis:FOk prog zdg:=okF (bs:=[zeh,zee,z02,zgv]) ⟨zhs,zhq,z3z,zlj,trivial⟩ func64 ntmps64 call64
 (λ_ _=>tr (z78.eq_2 ..))
 (λn=>⟨λ_=>tr (z23.eq_2 ..),
  trivial⟩)
mutual
noncomputable def zcb:Nat->kz1->Ot (B8×Int)
 |0,_=>none
 |n+1,a=>
  (zz3 n a).bind λy0=>
  pIf (y0 != 0)
   (some ([],y0))
   (z89 n 0 a.attrs (a.attrs.length:Int) false a [])
noncomputable def z89:Nat->Int->z07->Int->Bool->kz1->(List Int)->Ot (B8×Int)
 |0,_,_,_,_,_,_=>none
 |n+1,a,b,c,d,e,f=>
  pIf (decide (a<c))
   ((ix b a).bind λx1=>
   (z0q n x1.value.re d).bind λy2=>
   (yzr n [[97,116,116,114],x1.name,y2.1] f).bind λy3=>
   z89 n (IntKind.i64.wrap (a+1)) b c y2.2 e y3)
   (z8m n 0 e.rules (e.rules.length:Int) d f)
noncomputable def z8m:Nat->Int->yz7->Int->Bool->(List Int)->Ot (B8×Int)
 |0,_,_,_,_,_=>none
 |n+1,a,b,c,d,e=>
  pIf (decide (a<c))
   ((ix b a).bind λx4=>
   (ext [[114,117,108,101],x4.name] x4.params).bind λx5=>
   (yzr n x5 e).bind λy6=>
   z8c n 0 x4.cases b c a (x4.cases.length:Int) d y6)
   (pIf d
     (z8w n true e)
     ((z0n n e).bind λy7=>
     z8w n (decide (y7.1>20000)) y7.2))
noncomputable def z8c:Nat->Int->z1h->yz7->Int->Int->Int->Bool->(List Int)->Ot (B8×Int)
 |0,_,_,_,_,_,_,_,_=>none
 |n+1,a,b,c,d,e,f,g,h=>
  pIf (decide (a<f))
   ((ix b a).bind λx8=>
   (z9z n x8.weight).bind λy9=>
   (z0q n x8.when_.re g).bind λy10=>
   (yzr n [[99,97,115,101],y9,y10.1] h).bind λy11=>
   z8u n 0 x8.do_ b c d e f a (x8.do_.length:Int) y10.2 y11)
   (z8m n (IntKind.i64.wrap (e+1)) c d g h)
noncomputable def z8u:Nat->Int->z5w->z1h->yz7->Int->Int->Int->Int->Int->Bool->(List Int)->Ot (B8×Int)
 |0,_,_,_,_,_,_,_,_,_,_,_=>none
 |n+1,a,b,c,d,e,f,g,h,i,j,k=>
  pIf (decide (a<i))
   ((ix b a).bind λx13=>
   (z78 n x13 j k).bind λy14=>
   z8u n (IntKind.i64.wrap (a+1)) b c d e f g h i y14.1 y14.2)
   (z8c n (IntKind.i64.wrap (h+1)) c d e f g j k)
noncomputable def z8w:Nat->Bool->(List Int)->Ot (B8×Int)
 |0,_,_=>none
 |n+1,a,b=>
  pIf a
   (some ([],4))
   ((zzu n b).bind λy12=>
   some (y12,0))
end
noncomputable def zxd:LSh:=⟨[(2,dS),(3,dI)],[],0,93,[]⟩
noncomputable def zdt:FI dat:=FI.of dat 25 93 0 [dT 11] [] [dS,dI] [] true zxd (R:=B8×Int) (λx=>(x.1,x.2.1)) (λr=>(r.1,r.2,())) (λn=>u1 (zcb n))
 (λn=>[(0,⟨⟨[(27,dI),(8,(.fn 61 [] [(.ptr 0 0)])),(6,(.fn 58 [] [(.bp 1)])),(25,dL 6),(5,(.bp 1)),(7,(.ptr 0 0)),(1,(.ptr 2 0)),(26,dI)],[(.cells [dB]),(.bld 111 3),(.st 11),(.acc 5 (.int .u8) true)],0,93,[]⟩,u6 (z89 n)⟩),(1,⟨⟨[(8,(.fn 61 [] [(.ptr 0 0)])),(6,(.fn 58 [] [(.bp 1)])),(44,dI),(42,dL 10),(5,(.bp 1)),(7,(.ptr 0 0)),(43,dI)],[(.cells [dB]),(.bld 111 2),(.acc 5 (.int .u8) true)],0,93,[]⟩,u5 (z8m n)⟩),(2,⟨⟨[(8,(.fn 61 [] [(.ptr 0 0)])),(6,(.fn 58 [] [(.bp 1)])),(59,dI),(57,dL 9),(42,dL 10),(5,(.bp 1)),(7,(.ptr 0 0)),(43,dI),(44,dI),(58,dI)],[(.cells [dB]),(.bld 111 2),(.acc 5 (.int .u8) true)],0,93,[]⟩,u8 (z8c n)⟩),(3,⟨⟨[(76,dI),(8,(.fn 61 [] [(.ptr 0 0)])),(6,(.fn 58 [] [(.bp 1)])),(74,dL 8),(57,dL 9),(42,dL 10),(5,(.bp 1)),(7,(.ptr 0 0)),(43,dI),(44,dI),(58,dI),(59,dI),(75,dI)],[(.cells [dB]),(.bld 111 2),(.acc 5 (.int .u8) true)],0,93,[]⟩,u11 (z8u n)⟩),(4,⟨⟨[(5,(.bp 0)),(91,dB)],[(.bld 111 1),(.acc 5 (.int .u8) true)],0,93,[]⟩,u2 (z8w n)⟩)]) (anb [(24,0),(41,1),(57,2),(73,3),(91,4)] f25)
theorem zls:FOk prog zdt:=okF (bs:=[zeh,zee,z3c,yzx,zdg,z9o,zjm]) ⟨zhs,zhq,z5c,z0z,zis,zb8,zr0,trivial⟩ func25 ntmps25 call25
 (λn=>λ_=>tr (zcb.eq_2 _ n))
 (λn=>⟨λ_=>tr (z89.eq_2 _ _ _ _ _ _ n),
  λ_=>tr (z8m.eq_2 _ _ _ _ _ n),
  λ_=>tr (z8c.eq_2 _ _ _ _ _ _ _ _ n),
  λ_=>tr (z8u.eq_2 _ _ _ _ _ _ _ _ _ _ _ n),
  λ_=>tr (z8w.eq_2 _ _ n),
  trivial⟩)
noncomputable def z00:Nat->B8->B8->Ot B8
 |0,_,_=>none
 |n+1,a,b=>
  (kzk n a b).bind λy0=>
  pIf y0
   ((sub a 0 (IntKind.i64.wrap ((a.length:Int)-(b.length:Int)))).bind λx1=>
   some x1)
   (some a)
noncomputable def zaf:LSh:=⟨[(4,dS)],[],0,16,[]⟩
noncomputable def z3e:FI dat:=FI.of dat 105 16 0 [dS,dS] [] [dS] [] true zaf (R:=B8) Prod.fst (·,()) (λn=>u2 (z00 n))
 (λn=>[]) (anb [] f105)
theorem za3:FOk prog z3e:=okF (bs:=[z0f]) ⟨z3g,trivial⟩ func105 ntmps105 call105
 (λ_ _=>tr (z00.eq_2 ..))
 (λn=>trivial)
noncomputable def z64:Nat->B8->B8->Ot B8
 |0,_,_=>none
 |n+1,a,b=>
  (z00 n a b).bind λy0=>
  some y0
noncomputable def zii:LSh:=⟨[(4,dS)],[],0,8,[]⟩
noncomputable def z7i:FI dat:=FI.of dat 44 8 0 [dS,dS] [] [dS] [] true zii (R:=B8) Prod.fst (·,()) (λn=>u2 (z64 n))
 (λn=>[]) (anb [] f44)
theorem zi9:FOk prog z7i:=okF (bs:=[z3e]) ⟨za3,trivial⟩ func44 ntmps44 call44
 (λ_ _=>tr (z64.eq_2 ..))
 (λn=>trivial)
noncomputable def z2p:Nat->B8->B8->Ot (B8×B8×Bool)
 |0,_,_=>none
 |n+1,a,b=>
  (yzw n a b).bind λy0=>
  pIf (decide (y0>=0))
   ((sub a 0 y0).bind λx1=>
   (sub a (IntKind.i64.wrap (y0+(b.length:Int))) (a.length:Int)).bind λx2=>
   some (x1,x2,true))
   (some (a,[],false))
noncomputable def zel:LSh:=⟨[(4,dS),(5,dS),(6,dB)],[],0,23,[]⟩
noncomputable def z79:FI dat:=FI.of dat 155 23 0 [dS,dS] [] [dS,dS,dB] [] true zel (R:=B8×B8×Bool) (λx=>(x.1,x.2.1,x.2.2.1)) (λr=>(r.1,r.2.1,r.2.2,())) (λn=>u2 (z2p n))
 (λn=>[]) (anb [] f155)
theorem ze1:FOk prog z79:=okF (bs:=[z2c]) ⟨z50,trivial⟩ func155 ntmps155 call155
 (λ_ _=>tr (z2p.eq_2 ..))
 (λn=>trivial)
noncomputable def z1o:Nat->B8->B8->Ot (B8×B8×Bool)
 |0,_,_=>none
 |n+1,a,b=>
  (z2p n a b).bind λy0=>
  some (y0.1,y0.2.1,y0.2.2)
noncomputable def zv6:LSh:=⟨[(4,dS),(5,dS),(6,dB)],[],0,13,[]⟩
noncomputable def z5z:FI dat:=FI.of dat 100 13 0 [dS,dS] [] [dS,dS,dB] [] true zv6 (R:=B8×B8×Bool) (λx=>(x.1,x.2.1,x.2.2.1)) (λr=>(r.1,r.2.1,r.2.2,())) (λn=>u2 (z1o n))
 (λn=>[]) (anb [] f100)
theorem zb0:FOk prog z5z:=okF (bs:=[z79]) ⟨ze1,trivial⟩ func100 ntmps100 call100
 (λ_ _=>tr (z1o.eq_2 ..))
 (λn=>trivial)
noncomputable def z3x:Nat->Int->Ot (Res (Int×Unit) Unit)
 |0,_=>none
 |n+1,a=>
  pIf (a != 0)
   (some (Res.pan (a,())))
   (some (Res.ok ()))
noncomputable def zyp:LSh:=⟨[],[],0,6,[]⟩
noncomputable def z1p:FI dat:=FI.ofP dat 244 6 0 [dI] [] [] [] (.iface 31 dI) [] [] zyp (R:=Unit) (λx=>()) (λ_=>()) (λn=>u1 (z3x n))
 (λn=>[]) (anb [] f244)
noncomputable def y06:List (FI dat):=[]
theorem y2f:(z1p).Good prog dat (tb y06):=FI.zio (hD:=kza _) func244 ntmps244 call244 (by kernel_rfl) (Qac (by kernel_rfl)) (by kernel_rfl) (λn=>by kernel_rfl) trivial (λx=>by kernel_rfl) (λ_=>rfl) trivial
 (λn=>λ_=>tr (z3x.eq_2 _ n))
 (λn=>trivial)
 (λx=>by kernel_rfl)
theorem y1r:OkL prog [z1p]:=zg4 (kza _) (bs:=[]) trivial y2f
theorem zdw:FOk prog z1p:=y1r.1
noncomputable def zzl:Nat->B8->B8->Ot Bool
 |0,_,_=>none
 |n+1,a,b=>
  pIf (decide ((a.length:Int)>=(b.length:Int)))
   ((sub a 0 (b.length:Int)).bind λx0=>
   some (x0==b))
   (some false)
noncomputable def zay:LSh:=⟨[(4,dB)],[],0,18,[]⟩
noncomputable def z0k:FI dat:=FI.of dat 292 18 0 [dS,dS] [] [dB] [] true zay (R:=Bool) Prod.fst (·,()) (λn=>u2 (zzl n))
 (λn=>[]) (anb [] f292)
theorem z3i:FOk prog z0k:=okF (bs:=[]) trivial func292 ntmps292 call292
 (λn=>λ_=>tr (zzl.eq_2 _ _ n))
 (λn=>trivial)
noncomputable def z0a:Nat->B8->B8->Ot (B8×Bool)
 |0,_,_=>none
 |n+1,a,b=>
  (zzl n a b).bind λy0=>
  pIf (!y0)
   (some (a,false))
   ((sub a (b.length:Int) (a.length:Int)).bind λx1=>
   some (x1,true))
noncomputable def zaw:LSh:=⟨[(4,dS),(5,dB)],[],0,15,[]⟩
noncomputable def z3l:FI dat:=FI.of dat 291 15 0 [dS,dS] [] [dS,dB] [] true zaw (R:=B8×Bool) (λx=>(x.1,x.2.1)) (λr=>(r.1,r.2,())) (λn=>u2 (z0a n))
 (λn=>[]) (anb [] f291)
theorem zag:FOk prog z3l:=okF (bs:=[z0k]) ⟨z3i,trivial⟩ func291 ntmps291 call291
 (λ_ _=>tr (z0a.eq_2 ..))
 (λn=>trivial)
noncomputable def z3o:Nat->B8->B8->Ot (B8×Bool)
 |0,_,_=>none
 |n+1,a,b=>
  (z0a n a b).bind λy0=>
  some (y0.1,y0.2)
noncomputable def zkn:LSh:=⟨[(4,dS),(5,dB)],[],0,11,[]⟩
noncomputable def z9b:FI dat:=FI.of dat 286 11 0 [dS,dS] [] [dS,dB] [] true zkn (R:=B8×Bool) (λx=>(x.1,x.2.1)) (λr=>(r.1,r.2,())) (λn=>u2 (z3o n))
 (λn=>[]) (anb [] f286)
theorem zcu:FOk prog z9b:=okF (bs:=[z3l]) ⟨zag,trivial⟩ func286 ntmps286 call286
 (λ_ _=>tr (z3o.eq_2 ..))
 (λn=>trivial)
noncomputable def zzg:Nat->B8->yz0->Ot (Bool×yz0)
 |0,_,_=>none
 |n+1,a,b=>
  (z3o n b.s a).bind λy0=>
  some (y0.2,(yz0.mk y0.1))
noncomputable def zmf:LSh:=⟨[(4,dB)],[(.st 15)],1,21,[]⟩
noncomputable def z38:FI dat:=FI.of dat 269 21 1 [(.ptr 0 0),dS] [(.st 15)] [dB] [(.st 15)] false zmf (R:=Bool×yz0) (λx=>(x.1,x.2.1)) (λr=>(r.1,r.2,())) (λn=>u2 (zzg n))
 (λn=>[]) (anb [] f269)
theorem zdc:FOk prog z38:=okF (bs:=[z9b]) ⟨zcu,trivial⟩ func269 ntmps269 call269
 (λ_ _=>tr (zzg.eq_2 ..))
 (λn=>trivial)
noncomputable def z2h:Nat->B8->yz0->Ot (Res (Int×Unit) yz0)
 |0,_,_=>none
 |n+1,a,b=>
  (zzg n a b).bind λy0=>
  pIf (!y0.1)
   ((z3x n 12).bind λy1=>
   zg2 y1 (λr2=>
    some (Res.ok y0.2))
    (λe3=>
    some (Res.pan (e3.1,()))))
   (some (Res.ok y0.2))
noncomputable def zn0:LSh:=⟨[],[(.st 15)],1,9,[]⟩
noncomputable def z39:FI dat:=FI.ofP dat 270 9 1 [(.ptr 0 0),dS] [(.st 15)] [] [(.st 15)] (.iface 31 dI) [(.cells [.any])] [] zn0 (R:=yz0) Prod.fst (·,()) (λn=>u2 (z2h n))
 (λn=>[]) (anb [] f270)
noncomputable def zmc:List (FI dat):=[z38,z1p]
theorem zn1:(z39).Good prog dat (tb zmc):=FI.zio (hD:=kza _) func270 ntmps270 call270 (by kernel_rfl) (Qac (by kernel_rfl)) (by kernel_rfl) (λn=>by kernel_rfl) trivial (λx=>by kernel_rfl) (λ_=>rfl) trivial
 (λ_ _=>tr (z2h.eq_2 ..))
 (λn=>trivial)
 (λx=>by kernel_rfl)
theorem zm7:OkL prog [z39]:=zg4 (kza _) (bs:=[z38,z1p]) ⟨zdc,zdw,trivial⟩ zn1
theorem zle:FOk prog z39:=zm7.1
noncomputable def z3w:Nat->B8->B8->Ot Bool
 |0,_,_=>none
 |n+1,a,b=>
  (zzl n a b).bind λy0=>
  some y0
noncomputable def zkz:LSh:=⟨[(4,dB)],[],0,8,[]⟩
noncomputable def z4k:FI dat:=FI.of dat 287 8 0 [dS,dS] [] [dB] [] true zkz (R:=Bool) Prod.fst (·,()) (λn=>u2 (z3w n))
 (λn=>[]) (anb [] f287)
theorem zcr:FOk prog z4k:=okF (bs:=[z0k]) ⟨z3i,trivial⟩ func287 ntmps287 call287
 (λ_ _=>tr (z3w.eq_2 ..))
 (λn=>trivial)
noncomputable def z3q:Nat->B8->Int->Ot Int
 |0,_,_=>none
 |n+1,a,b=>
  (z3h n a b).bind λy0=>
  some y0
noncomputable def zl2:LSh:=⟨[(4,dI)],[],0,8,[]⟩
noncomputable def z2e:FI dat:=FI.of dat 99 8 0 [dS,dU] [] [dI] [] true zl2 (R:=Int) Prod.fst (·,()) (λn=>u2 (z3q n))
 (λn=>[]) (anb [] f99)
theorem zch:FOk prog z2e:=okF (bs:=[z47]) ⟨zaj,trivial⟩ func99 ntmps99 call99
 (λn x=>tr (z3q.eq_2 x.1 x.2.1 n))
 (λn=>trivial)
noncomputable def kze:Nat->B8->zz1->Ot (Bool×zz1)
 |0,_,_=>none
 |n+1,a,b=>
  (sub b.s b.at_ (b.s.length:Int)).bind λx0=>
  (z3w n x0 a).bind λy1=>
  pIf (!y1)
   (some (false,b))
   (some (true,(zz1.mk b.s (IntKind.i64.wrap (b.at_+(a.length:Int))) b.ok)))
noncomputable def zkx:LSh:=⟨[(4,dB)],[(.st 16)],1,26,[]⟩
noncomputable def z98:FI dat:=FI.of dat 294 26 1 [(.ptr 0 0),dS] [(.st 16)] [dB] [(.st 16)] false zkx (R:=Bool×zz1) (λx=>(x.1,x.2.1)) (λr=>(r.1,r.2,())) (λn=>u2 (kze n))
 (λn=>[]) (anb [] f294)
theorem zid:FOk prog z98:=okF (bs:=[z4k]) ⟨zcr,trivial⟩ func294 ntmps294 call294
 (λ_ _=>tr (kze.eq_2 ..))
 (λn=>trivial)
mutual
noncomputable def z5d:Nat->zz1->Ot (B8×zz1)
 |0,_=>none
 |n+1,a=>
  z0x n a []
noncomputable def z0x:Nat->zz1->(List Int)->Ot (B8×zz1)
 |0,_,_=>none
 |n+1,a,b=>
  pIf (decide (a.at_<(a.s.length:Int)))
   ((ix a.s a.at_).bind λx0=>
   pIf ((x0.toNat:Int)==34)
    ((zzu n b).bind λy1=>
    some (y1,(zz1.mk a.s (IntKind.i64.wrap (a.at_+1)) a.ok)))
    (pIf ((x0.toNat:Int)==92)
      (pIf ((IntKind.i64.wrap (a.at_+1))==(a.s.length:Int))
        (yzt n true (zz1.mk a.s (IntKind.i64.wrap (a.at_+1)) a.ok) b)
        ((ix a.s (IntKind.i64.wrap (a.at_+1))).bind λx2=>
        pIf ((x2.toNat:Int) != 34)
         ((ix a.s (IntKind.i64.wrap (a.at_+1))).bind λx3=>
         yzt n ((x3.toNat:Int) != 92) (zz1.mk a.s (IntKind.i64.wrap (a.at_+1)) a.ok) b)
         (yzt n false (zz1.mk a.s (IntKind.i64.wrap (a.at_+1)) a.ok) b)))
      (z0u n (x0.toNat:Int) (zz1.mk a.s (IntKind.i64.wrap (a.at_+1)) a.ok) b)))
   (z10 n a)
noncomputable def yzt:Nat->Bool->zz1->(List Int)->Ot (B8×zz1)
 |0,_,_,_=>none
 |n+1,a,b,c=>
  pIf a
   (z10 n b)
   ((ix b.s b.at_).bind λx4=>
   z0u n (x4.toNat:Int) (zz1.mk b.s (IntKind.i64.wrap (b.at_+1)) b.ok) c)
noncomputable def z0u:Nat->Int->zz1->(List Int)->Ot (B8×zz1)
 |0,_,_,_=>none
 |n+1,a,b,c=>
  (kz6 n a c).bind λy5=>
  z0x n b y5
noncomputable def z10:Nat->zz1->Ot (B8×zz1)
 |0,_=>none
 |n+1,a=>
  some ([],(zz1.mk a.s a.at_ false))
end
noncomputable def zi3:LSh:=⟨[(2,dS)],[(.st 16)],1,91,[]⟩
noncomputable def z66:FI dat:=FI.of dat 295 91 1 [(.ptr 0 0)] [(.st 16)] [dS] [(.st 16)] false zi3 (R:=B8×zz1) (λx=>(x.1,x.2.1)) (λr=>(r.1,r.2,())) (λn=>u1 (z5d n))
 (λn=>[(0,⟨⟨[(3,(.bp 1)),(0,(.ptr 0 0))],[(.st 16),(.bld 111 2),(.acc 5 (.int .u8) true)],1,91,[]⟩,u2 (z0x n)⟩),(1,⟨⟨[(0,(.ptr 0 0)),(3,(.bp 1)),(69,dB)],[(.st 16),(.bld 111 2),(.acc 5 (.int .u8) true)],1,91,[]⟩,u3 (yzt n)⟩),(2,⟨⟨[(3,(.bp 1)),(0,(.ptr 0 0)),(4,dU)],[(.st 16),(.bld 111 2),(.acc 5 (.int .u8) true)],1,91,[]⟩,u3 (z0u n)⟩),(3,⟨⟨[(0,(.ptr 0 0))],[(.st 16)],1,91,[]⟩,u1 (z10 n)⟩)]) (anb [(6,0),(33,1),(40,2),(41,3)] f295)
theorem zh4:FOk prog z66:=okF (bs:=[yzx,z09]) ⟨z0z,z5o,trivial⟩ func295 ntmps295 call295
 (λ_ _=>tr (z5d.eq_2 ..))
 (λn=>⟨λ_=>tr (z0x.eq_2 ..),
  λ_=>tr (yzt.eq_2 ..),
  λ_=>tr (z0u.eq_2 ..),
  λ_=>tr (z10.eq_2 _ n),
  trivial⟩)
mutual
noncomputable def za2:Nat->B8->Ot (Int×Bool)
 |0,_=>none
 |n+1,a=>
  pIf ((a.length:Int)==0)
   (z16 n a true)
   (pIf (decide ((a.length:Int)>10))
     (z16 n a true)
     ((ix a 0).bind λx0=>
     pIf ((x0.toNat:Int)==48)
      (z16 n a (decide ((a.length:Int)>1)))
      (z16 n a false)))
noncomputable def z16:Nat->B8->Bool->Ot (Int×Bool)
 |0,_,_=>none
 |n+1,a,b=>
  pIf b
   (some (0,false))
   (z5j n 0 a 0)
noncomputable def z5j:Nat->Int->B8->Nat->Ot (Int×Bool)
 |0,_,_,_=>none
 |n+1,a,b,c=>
  pIf (decide (c<b.length))
   (pIf (decide (((za7 b c).1:Int)<48))
     (z5l n ((za7 b c).1:Int) a true b (c+(za7 b c).2))
     (z5l n ((za7 b c).1:Int) a (decide (((za7 b c).1:Int)>57)) b (c+(za7 b c).2)))
   (some (a,true))
noncomputable def z5l:Nat->Int->Int->Bool->B8->Nat->Ot (Int×Bool)
 |0,_,_,_,_,_=>none
 |n+1,a,b,c,d,e=>
  pIf c
   (some (0,false))
   (z5j n (IntKind.i64.wrap ((IntKind.i64.wrap (10 * b))+(IntKind.i64.wrap (IntKind.i32.wrap (a-48))))) d e)
end
noncomputable def ztr:LSh:=⟨[(2,dI),(3,dB)],[],0,43,[]⟩
noncomputable def zjo:FI dat:=FI.of dat 297 43 0 [dS] [] [dI,dB] [] true ztr (R:=Int×Bool) (λx=>(x.1,x.2.1)) (λr=>(r.1,r.2,())) (λn=>u1 (za2 n))
 (λn=>[(0,⟨⟨[(0,dS),(24,dB)],[],0,43,[]⟩,u2 (z16 n)⟩),(1,⟨⟨[(4,dI),(26,(.ptr 0 0))],[.siter],0,43,[]⟩,u3 (z5j n)⟩),(2,⟨⟨[(26,(.ptr 0 0)),(6,(.d (.int .i32))),(4,dI),(35,dB)],[.siter],0,43,[]⟩,u5 (z5l n)⟩)]) (anb [(5,0),(16,1),(29,2)] f297)
theorem zqt:FOk prog zjo:=okF (bs:=[]) trivial func297 ntmps297 call297
 (λ_ _=>tr (za2.eq_2 ..))
 (λn=>⟨λ_=>tr (z16.eq_2 ..),
  λ_=>tr (z5j.eq_2 ..),
  λ_=>tr (z5l.eq_2 ..),
  trivial⟩)
mutual
noncomputable def zem:Nat->B8->Ot (Int×kz2)
 |0,_=>none
 |n+1,a=>
  (z3o n a [45]).bind λy0=>
  (z1o n y0.1 [47]).bind λy1=>
  pIf (!y1.2.2)
   (z6o n a y0.2 [49] y1.1 (kz2.mk 0 0))
   (z6o n a y0.2 y1.2.1 y1.1 (kz2.mk 0 0))
noncomputable def z6o:Nat->B8->Bool->B8->B8->kz2->Ot (Int×kz2)
 |0,_,_,_,_,_=>none
 |n+1,a,b,c,d,e=>
  (za2 n d).bind λy2=>
  (za2 n c).bind λy3=>
  pIf b
   (z68 n a y3.2 y2.2 y3.1 (IntKind.i64.wrap (0-y2.1)) e)
   (z68 n a y3.2 y2.2 y3.1 y2.1 e)
noncomputable def z68:Nat->B8->Bool->Bool->Int->Int->kz2->Ot (Int×kz2)
 |0,_,_,_,_,_,_=>none
 |n+1,a,b,c,d,e,f=>
  pIf (!c)
   (z3r n a true f (kz2.mk e d))
   (pIf (!b)
     (z3r n a true f (kz2.mk e d))
     ((z7p n (kz2.mk e d)).bind λy4=>
     z3r n a (y4 != 0) f (kz2.mk e d)))
noncomputable def z3r:Nat->B8->Bool->kz2->kz2->Ot (Int×kz2)
 |0,_,_,_,_=>none
 |n+1,a,b,c,d=>
  pIf b
   (some (12,(kz2.mk 0 0)))
   ((zc8 n d).bind λy5=>
   pIf (!(y5.1==a))
    (some (12,(kz2.mk 0 0)))
    (some (0,d)))
end
noncomputable def zul:LSh:=⟨[(2,(.ptr 0 0)),(3,dI)],[(.st 3)],0,67,[]⟩
noncomputable def zg7:FI dat:=FI.of dat 296 67 0 [dS] [] [dT 3,dI] [] true zul (R:=Int×kz2) (λx=>(x.1,x.2.1)) (λr=>(r.2,r.1,())) (λn=>u1 (zem n))
 (λn=>[(0,⟨⟨[(2,(.ptr 0 0)),(0,dS),(5,dB),(7,dS),(6,dS)],[(.st 3)],0,67,[]⟩,u5 (z6o n)⟩),(1,⟨⟨[(2,(.ptr 0 0)),(0,dS),(12,dB),(10,dB),(11,dI),(9,dI)],[(.st 3)],0,67,[]⟩,u6 (z68 n)⟩),(2,⟨⟨[(2,(.ptr 0 0)),(13,(.ptr 1 0)),(0,dS),(55,dB)],[(.st 3),(.st 3)],0,67,[]⟩,u4 (z3r n)⟩)]) (anb [(12,0),(22,1),(27,2)] f296)
theorem zrw:FOk prog zg7:=okF (bs:=[z9b,z5z,zjo,z9k,ze2]) ⟨zcu,zb0,zqt,zeq,zlo,trivial⟩ func296 ntmps296 call296
 (λ_ _=>tr (zem.eq_2 ..))
 (λn=>⟨λ_=>tr (z6o.eq_2 ..),
  λ_=>tr (z68.eq_2 ..),
  λx=>tr (z3r.eq_2 x.1 x.2.1 x.2.2.1 x.2.2.2.1 n),
  trivial⟩)
mutual
noncomputable def z3a:Nat->Int->zz1->Ot (zz1×kz0)
 |0,_,_=>none
 |n+1,a,b=>
  pIf (a==0)
   (z1g n (zz1.mk b.s b.at_ false) 0 0 0 false [] [])
   ((kze n [116,114,117,101] b).bind λy0=>
   pIf y0.1
    (some (y0.2,(kz0.mk 2 (kz2.mk 0 0) true [] [])))
    ((kze n [102,97,108,115,101] y0.2).bind λy1=>
    pIf y1.1
     (some (y1.2,(kz0.mk 2 (kz2.mk 0 0) false [] [])))
     ((kze n [34] y1.2).bind λy2=>
     pIf y2.1
      ((z5d n y2.2).bind λy3=>
      some (y3.2,(kz0.mk 3 (kz2.mk 0 0) false y3.1 [])))
      ((kze n [91,93] y2.2).bind λy4=>
      pIf y4.1
       (some (y4.2,(kz0.mk 4 (kz2.mk 0 0) false [] [])))
       ((kze n [91] y4.2).bind λy5=>
       pIf y5.1
        (z1k n a true y5.2 4 0 0 false [] 0 0 0 false [] [] [])
        (z1g n y5.2 0 0 0 false [] []))))))
noncomputable def z1k:Nat->Int->Bool->zz1->Int->Int->Int->Bool->B8->Int->Int->Int->Bool->B8->z3v->z3v->Ot (zz1×kz0)
 |0,_,_,_,_,_,_,_,_,_,_,_,_,_,_,_=>none
 |n+1,a,b,c,d,e,f,g,h,i,j,k,l,m,o,p=>
  pIf b
   (z1d n a c.ok c d e f g h i j k l m o p)
   (z1d n a false c d e f g h i j k l m o p)
noncomputable def z1d:Nat->Int->Bool->zz1->Int->Int->Int->Bool->B8->Int->Int->Int->Bool->B8->z3v->z3v->Ot (zz1×kz0)
 |0,_,_,_,_,_,_,_,_,_,_,_,_,_,_,_=>none
 |n+1,a,b,c,d,e,f,g,h,i,j,k,l,m,o,p=>
  pIf b
   ((z3a n (IntKind.i64.wrap (a-1)) c).bind λy8=>
   (ext o [y8.2.re]).bind λx9=>
   (kze n [44,32] y8.1).bind λy10=>
   z1k n a y10.1 y10.2 d e f g h i j k l m x9 p)
   ((kze n [93] c).bind λy11=>
   pIf y11.1
    (z1l n y11.2 i j k l m d e f g h p o)
    (z1l n (zz1.mk y11.2.s y11.2.at_ false) i j k l m d e f g h p o))
noncomputable def z1l:Nat->zz1->Int->Int->Int->Bool->B8->Int->Int->Int->Bool->B8->z3v->z3v->Ot (zz1×kz0)
 |0,_,_,_,_,_,_,_,_,_,_,_,_,_=>none
 |n+1,a,b,c,d,e,f,g,h,i,j,k,l,m=>
  some (a,(kz0.mk g (kz2.mk h i) j k m))
noncomputable def z1g:Nat->zz1->Int->Int->Int->Bool->B8->z3v->Ot (zz1×kz0)
 |0,_,_,_,_,_,_,_=>none
 |n+1,a,b,c,d,e,f,g=>
  z1j n a.at_ a b c d e f g
noncomputable def z1j:Nat->Int->zz1->Int->Int->Int->Bool->B8->z3v->Ot (zz1×kz0)
 |0,_,_,_,_,_,_,_,_=>none
 |n+1,a,b,c,d,e,f,g,h=>
  pIf (decide (a<(b.s.length:Int)))
   ((ix b.s a).bind λx6=>
   (z3q n [48,49,50,51,52,53,54,55,56,57,47,45] (x6.toNat:Int)).bind λy7=>
   z1m n a (decide (y7>=0)) b c d e f g h)
   (z1m n a false b c d e f g h)
noncomputable def z1m:Nat->Int->Bool->zz1->Int->Int->Int->Bool->B8->z3v->Ot (zz1×kz0)
 |0,_,_,_,_,_,_,_,_,_=>none
 |n+1,a,b,c,d,e,f,g,h,i=>
  pIf b
   (z1j n (IntKind.i64.wrap (a+1)) c d e f g h i)
   ((sub c.s c.at_ a).bind λx12=>
   (zem n x12).bind λy13=>
   pIf c.ok
    (z1i n a (zz1.mk c.s c.at_ (y13.1==0)) d e f g h y13.2 i)
    (z1i n a (zz1.mk c.s c.at_ false) d e f g h y13.2 i))
noncomputable def z1i:Nat->Int->zz1->Int->Int->Int->Bool->B8->kz2->z3v->Ot (zz1×kz0)
 |0,_,_,_,_,_,_,_,_,_=>none
 |n+1,a,b,c,d,e,f,g,h,i=>
  some ((zz1.mk b.s a b.ok),(kz0.mk 1 h false [] []))
end
noncomputable def zih:LSh:=⟨[(4,(.ptr 1 0))],[(.st 16),(.st 4)],1,122,[]⟩
noncomputable def z1s:FI dat:=FI.of dat 293 122 1 [(.ptr 0 0),dI] [(.st 16)] [dT 4] [(.st 16),(.st 4)] false zih (R:=zz1×kz0) (λx=>(x.1,x.2.1)) (λr=>(r.2,r.1,r.2,())) (λn=>u2 (z3a n))
 (λn=>[(0,⟨⟨[(0,(.ptr 0 0)),(5,(.ptr 1 0)),(1,dI),(4,(.ptr 2 0)),(6,dB)],[(.st 16),(.cells [dU,dI,dI,dB,dS,(.own 3)]),(.cells [dU,dI,dI,dB,dS,(.own 4)]),(.acc 26 (.st 4) true),(.acc 26 (.st 4) true)],1,122,[]⟩,λx=>z1k n x.1 x.2.1 x.2.2.1 x.2.2.2.1 x.2.2.2.2.1 x.2.2.2.2.2.1 x.2.2.2.2.2.2.1 x.2.2.2.2.2.2.2.1 x.2.2.2.2.2.2.2.2.1 x.2.2.2.2.2.2.2.2.2.1 x.2.2.2.2.2.2.2.2.2.2.1 x.2.2.2.2.2.2.2.2.2.2.2.1 x.2.2.2.2.2.2.2.2.2.2.2.2.1 x.2.2.2.2.2.2.2.2.2.2.2.2.2.1 x.2.2.2.2.2.2.2.2.2.2.2.2.2.2.1⟩),(1,⟨⟨[(0,(.ptr 0 0)),(5,(.ptr 1 0)),(1,dI),(4,(.ptr 2 0)),(44,dB)],[(.st 16),(.cells [dU,dI,dI,dB,dS,(.own 3)]),(.cells [dU,dI,dI,dB,dS,(.own 4)]),(.acc 26 (.st 4) true),(.acc 26 (.st 4) true)],1,122,[]⟩,λx=>z1d n x.1 x.2.1 x.2.2.1 x.2.2.2.1 x.2.2.2.2.1 x.2.2.2.2.2.1 x.2.2.2.2.2.2.1 x.2.2.2.2.2.2.2.1 x.2.2.2.2.2.2.2.2.1 x.2.2.2.2.2.2.2.2.2.1 x.2.2.2.2.2.2.2.2.2.2.1 x.2.2.2.2.2.2.2.2.2.2.2.1 x.2.2.2.2.2.2.2.2.2.2.2.2.1 x.2.2.2.2.2.2.2.2.2.2.2.2.2.1 x.2.2.2.2.2.2.2.2.2.2.2.2.2.2.1⟩),(2,⟨⟨[(4,(.ptr 1 0)),(5,(.ptr 2 0))],[(.st 16),(.cells [dU,dI,dI,dB,dS,(.own 3)]),(.cells [dU,dI,dI,dB,dS,(.own 4)]),(.acc 26 (.st 4) true),(.acc 26 (.st 4) true)],1,122,[]⟩,λx=>z1l n x.1 x.2.1 x.2.2.1 x.2.2.2.1 x.2.2.2.2.1 x.2.2.2.2.2.1 x.2.2.2.2.2.2.1 x.2.2.2.2.2.2.2.1 x.2.2.2.2.2.2.2.2.1 x.2.2.2.2.2.2.2.2.2.1 x.2.2.2.2.2.2.2.2.2.2.1 x.2.2.2.2.2.2.2.2.2.2.2.1 x.2.2.2.2.2.2.2.2.2.2.2.2.1⟩),(3,⟨⟨[(4,(.ptr 1 0)),(0,(.ptr 0 0))],[(.st 16),(.cells [dU,dI,dI,dB,dS,(.own 2)]),(.acc 26 (.st 4) true)],1,122,[]⟩,u7 (z1g n)⟩),(4,⟨⟨[(7,dI),(4,(.ptr 1 0)),(0,(.ptr 0 0))],[(.st 16),(.cells [dU,dI,dI,dB,dS,(.own 2)]),(.acc 26 (.st 4) true)],1,122,[]⟩,u8 (z1j n)⟩),(5,⟨⟨[(4,(.ptr 1 0)),(0,(.ptr 0 0)),(7,dI),(88,dB)],[(.st 16),(.cells [dU,dI,dI,dB,dS,(.own 2)]),(.acc 26 (.st 4) true)],1,122,[]⟩,u9 (z1m n)⟩),(6,⟨⟨[(4,(.ptr 1 0)),(8,(.ptr 2 0)),(7,dI),(0,(.ptr 0 0))],[(.st 16),(.cells [dU,dI,dI,dB,dS,(.own 3)]),(.st 3),(.acc 26 (.st 4) true)],1,122,[]⟩,u9 (z1i n)⟩)]) (anb [(41,0),(45,1),(54,2),(58,3),(62,4),(66,5),(75,6)] f293)
noncomputable def zje:List (FI dat):=[z1s]++[z98,z66,z2e,zg7]
theorem zju:(z1s).Good prog dat (tb zje):=FI.z42 (hD:=kza _) func293 ntmps293 call293 (by kernel_rfl) (Qac (by kernel_rfl)) (by kernel_rfl) (λn=>by kernel_rfl) (λx=>by kernel_rfl) (λ_=>rfl) ⟨λ_=>rfl,λ_=>rfl,λ_=>rfl,λ_=>rfl,λ_=>rfl,λ_=>rfl,λ_=>rfl,trivial⟩
 (λ_ _=>tr (z3a.eq_2 ..))
 (λn=>⟨λ_=>tr (z1k.eq_2 ..),
  λ_=>tr (z1d.eq_2 ..),
  λx=>tr (z1l.eq_2 x.1 x.2.1 x.2.2.1 x.2.2.2.1 x.2.2.2.2.1 x.2.2.2.2.2.1 x.2.2.2.2.2.2.1 x.2.2.2.2.2.2.2.1 x.2.2.2.2.2.2.2.2.1 x.2.2.2.2.2.2.2.2.2.1 x.2.2.2.2.2.2.2.2.2.2.1 x.2.2.2.2.2.2.2.2.2.2.2.1 x.2.2.2.2.2.2.2.2.2.2.2.2.1 n),
  λ_=>tr (z1g.eq_2 ..),
  λ_=>tr (z1j.eq_2 ..),
  λ_=>tr (z1m.eq_2 ..),
  λx=>tr (z1i.eq_2 x.1 x.2.1 x.2.2.1 x.2.2.2.1 x.2.2.2.2.1 x.2.2.2.2.2.1 x.2.2.2.2.2.2.1 x.2.2.2.2.2.2.2.1 x.2.2.2.2.2.2.2.2.1 n),
  trivial⟩)
 (λx=>.inr (by kernel_rfl))
theorem zjc:OkL prog [z1s]:=zc7 (kza _) (bs:=[z98,z66,z2e,zg7]) ⟨zid,zh4,zch,zrw,trivial⟩ ⟨zju,trivial⟩
theorem zhx:FOk prog z1s:=zjc.1
mutual
noncomputable def zes:Nat->B8->Ot (Int×kz0)
 |0,_=>none
 |n+1,a=>
  pIf (decide ((a.length:Int)>4000))
   (some (12,(kz0.mk 0 (kz2.mk 0 0) false [] [])))
   ((z3a n 6 (zz1.mk a 0 true)).bind λy0=>
   pIf (!y0.1.ok)
    (z45 n true (kz0.mk 0 (kz2.mk 0 0) false [] []) y0.2.re)
    (pIf (y0.1.at_ != (a.length:Int))
      (z45 n true (kz0.mk 0 (kz2.mk 0 0) false [] []) y0.2.re)
      ((z7l n y0.2.re).bind λy1=>
      z45 n (y1 != 0) (kz0.mk 0 (kz2.mk 0 0) false [] []) y0.2.re)))
noncomputable def z45:Nat->Bool->kz0->kz0->Ot (Int×kz0)
 |0,_,_,_=>none
 |n+1,a,b,c=>
  pIf a
   (some (12,(kz0.mk 0 (kz2.mk 0 0) false [] [])))
   (some (0,c.re))
end
noncomputable def zuv:LSh:=⟨[(2,(.ptr 0 0)),(3,dI)],[(.st 4)],0,36,[]⟩
noncomputable def zfx:FI dat:=FI.of dat 288 36 0 [dS] [] [dT 4,dI] [] true zuv (R:=Int×kz0) (λx=>(x.1,x.2.1)) (λr=>(r.2,r.1,())) (λn=>u1 (zes n))
 (λn=>[(0,⟨⟨[(2,(.ptr 0 0)),(5,(.ptr 1 0)),(33,dB)],[(.st 4),(.st 4)],0,36,[]⟩,u3 (z45 n)⟩)]) (anb [(17,0)] f288)
theorem zt8:FOk prog zfx:=okF (bs:=[z1s,z9g]) ⟨zhx,zeo,trivial⟩ func288 ntmps288 call288
 (λ_ _=>tr (zes.eq_2 ..))
 (λn=>⟨λx=>tr (z45.eq_2 x.1 x.2.1 x.2.2.1 n),
  trivial⟩)
mutual
noncomputable def z5b:Nat->yz0->Ot (Res (Int×Unit) (yz0×yz1))
 |0,_=>none
 |n+1,a=>
  (z3w n a.s [34]).bind λy0=>
  pIf y0
   (z0t n 1 a (yz1.mk 0 (kz0.mk 0 (kz2.mk 0 0) false [] []) [] []))
   (z11 n 0 a (yz1.mk 0 (kz0.mk 0 (kz2.mk 0 0) false [] []) [] []))
noncomputable def z0t:Nat->Int->yz0->yz1->Ot (Res (Int×Unit) (yz0×yz1))
 |0,_,_,_=>none
 |n+1,a,b,c=>
  pIf (decide (a<(b.s.length:Int)))
   ((ix b.s a).bind λx1=>
   z0v n a ((x1.toNat:Int) != 34) b c.re)
   (z0v n a false b c.re)
noncomputable def z0v:Nat->Int->Bool->yz0->yz1->Ot (Res (Int×Unit) (yz0×yz1))
 |0,_,_,_,_=>none
 |n+1,a,b,c,d=>
  pIf b
   ((ix c.s a).bind λx4=>
   pIf ((x4.toNat:Int)==92)
    (z0y n (IntKind.i64.wrap (a+1)) c d.re)
    (z0y n a c d.re))
   (z0r n (mnI (IntKind.i64.wrap (a+1)) (c.s.length:Int)) c d.re)
noncomputable def z0y:Nat->Int->yz0->yz1->Ot (Res (Int×Unit) (yz0×yz1))
 |0,_,_,_=>none
 |n+1,a,b,c=>
  z0t n (IntKind.i64.wrap (a+1)) b c.re
noncomputable def z11:Nat->Int->yz0->yz1->Ot (Res (Int×Unit) (yz0×yz1))
 |0,_,_,_=>none
 |n+1,a,b,c=>
  pIf (decide (a<(b.s.length:Int)))
   ((ix b.s a).bind λx2=>
   (z3q n [48,49,50,51,52,53,54,55,56,57,47,45] (x2.toNat:Int)).bind λy3=>
   z0w n a (decide (y3>=0)) b c.re)
   (z0w n a false b c.re)
noncomputable def z0w:Nat->Int->Bool->yz0->yz1->Ot (Res (Int×Unit) (yz0×yz1))
 |0,_,_,_,_=>none
 |n+1,a,b,c,d=>
  pIf b
   (z11 n (IntKind.i64.wrap (a+1)) c d.re)
   (z0r n a c d.re)
noncomputable def z0r:Nat->Int->yz0->yz1->Ot (Res (Int×Unit) (yz0×yz1))
 |0,_,_,_=>none
 |n+1,a,b,c=>
  (sub b.s 0 a).bind λx5=>
  (zes n x5).bind λy6=>
  (z3x n y6.1).bind λy7=>
  zg2 y7 (λr8=>
   (sub b.s a (b.s.length:Int)).bind λx9=>
   some (Res.ok ((yz0.mk x9),(yz1.mk 1 y6.2.re [] []))))
   (λe10=>
   some (Res.pan (e10.1,())))
end
noncomputable def zi4:LSh:=⟨[(2,(.ptr 1 0))],[(.st 15),(.st 5)],1,88,[]⟩
noncomputable def z13:FI dat:=FI.ofP dat 272 88 1 [(.ptr 0 0)] [(.st 15)] [dT 5] [(.st 15),(.st 5)] (.iface 31 dI) [(.cells [.any])] [] zi4 (R:=yz0×yz1) (λx=>(x.1,x.2.1)) (λr=>(r.2,r.1,r.2,())) (λn=>u1 (z5b n))
 (λn=>[(0,⟨⟨[(3,dI),(0,(.ptr 0 0)),(2,(.ptr 1 0))],[(.st 15),(.st 5)],1,88,[]⟩,u3 (z0t n)⟩),(1,⟨⟨[(0,(.ptr 0 0)),(2,(.ptr 1 0)),(3,dI),(26,dB)],[(.st 15),(.st 5)],1,88,[]⟩,u4 (z0v n)⟩),(2,⟨⟨[(0,(.ptr 0 0)),(2,(.ptr 1 0)),(3,dI)],[(.st 15),(.st 5)],1,88,[]⟩,u3 (z0y n)⟩),(3,⟨⟨[(3,dI),(2,(.ptr 1 0)),(0,(.ptr 0 0))],[(.st 15),(.st 5)],1,88,[]⟩,u3 (z11 n)⟩),(4,⟨⟨[(2,(.ptr 1 0)),(0,(.ptr 0 0)),(3,dI),(62,dB)],[(.st 15),(.st 5)],1,88,[]⟩,u4 (z0w n)⟩),(5,⟨⟨[(2,(.ptr 1 0)),(3,dI),(0,(.ptr 0 0))],[(.st 15),(.st 5)],1,88,[]⟩,u3 (z0r n)⟩)]) (anb [(12,0),(16,1),(26,2),(29,3),(33,4),(38,5)] f272)
noncomputable def zi6:List (FI dat):=[z1p,z4k,z2e,zfx]
theorem zi5:(z13).Good prog dat (tb zi6):=FI.zio (hD:=kza _) func272 ntmps272 call272 (by kernel_rfl) (Qac (by kernel_rfl)) (by kernel_rfl) (λn=>by kernel_rfl) trivial (λx=>by kernel_rfl) (λ_=>rfl) ⟨λ_=>rfl,λ_=>rfl,λ_=>rfl,λ_=>rfl,λ_=>rfl,λ_=>rfl,trivial⟩
 (λ_ _=>tr (z5b.eq_2 ..))
 (λn=>⟨λ_=>tr (z0t.eq_2 ..),
  λ_=>tr (z0v.eq_2 ..),
  λ_=>tr (z0y.eq_2 ..),
  λ_=>tr (z11.eq_2 ..),
  λ_=>tr (z0w.eq_2 ..),
  λx=>tr (z0r.eq_2 x.1 x.2.1 x.2.2.1 n),
  trivial⟩)
 (λx=>by kernel_rfl)
theorem zi1:OkL prog [z13]:=zg4 (kza _) (bs:=[z1p,z4k,z2e,zfx]) ⟨zdw,zcr,zch,zt8,trivial⟩ zi5
theorem zgx:FOk prog z13:=zi1.1
noncomputable def zfq:Nat->Bool->Ot kz0
 |0,_=>none
 |n+1,a=>
  some (kz0.mk 2 (kz2.mk 0 0) a [] [])
noncomputable def zxx:LSh:=⟨[(2,(.ptr 0 0))],[(.st 4)],0,5,[]⟩
noncomputable def zgo:FI dat:=FI.of dat 273 5 0 [dB] [] [dT 4] [] true zxx (R:=kz0) Prod.fst (·,()) (λn=>u1 (zfq n))
 (λn=>[]) (anb [] f273)
theorem zu7:FOk prog zgo:=okF (bs:=[]) trivial func273 ntmps273 call273
 (λn=>λ_=>tr (zfq.eq_2 _ n))
 (λn=>trivial)
mutual
noncomputable def z0o:Nat->Int->yz0->Ot (Res (Int×Unit) (yz0×yz1))
 |0,_,_=>none
 |n+1,a,b=>
  pIf (a==0)
   ((z3x n 12).bind λy0=>
   zg2 y0 (λr1=>
    z2w n a b (yz1.mk 0 (kz0.mk 0 (kz2.mk 0 0) false [] []) [] []))
    (λe2=>
    some (Res.pan (e2.1,()))))
   (z2w n a b (yz1.mk 0 (kz0.mk 0 (kz2.mk 0 0) false [] []) [] []))
noncomputable def z2w:Nat->Int->yz0->yz1->Ot (Res (Int×Unit) (yz0×yz1))
 |0,_,_,_=>none
 |n+1,a,b,c=>
  (zzg n [40] b).bind λy3=>
  pIf y3.1
   ((z0o n (IntKind.i64.wrap (a-1)) y3.2).bind λy4=>
   zg2 y4 (λr5=>
    (z2h n [32] r5.1).bind λy6=>
    zg2 y6 (λr7=>
     z2k n 3 a r7 c.re r5.2.re)
     (λe8=>
     some (Res.pan (e8.1,()))))
    (λe9=>
    some (Res.pan (e9.1,()))))
   (z2o n a y3.2 c.re)
noncomputable def z2k:Nat->Int->Int->yz0->yz1->yz1->Ot (Res (Int×Unit) (yz0×yz1))
 |0,_,_,_,_,_=>none
 |n+1,a,b,c,d,e=>
  pIf (decide (a<=10))
   ((zam n a).bind λy10=>
   (cat y10 [32]).bind λx11=>
   (zzg n x11 c).bind λy12=>
   pIf y12.1
    ((z0o n (IntKind.i64.wrap (b-1)) y12.2).bind λy13=>
    zg2 y13 (λr14=>
     (z2h n [41] r14.1).bind λy15=>
     zg2 y15 (λr16=>
      some (Res.ok (r16,(yz1.mk a (kz0.mk 0 (kz2.mk 0 0) false [] []) [] [e.re,r14.2.re]))))
      (λe17=>
      some (Res.pan (e17.1,()))))
     (λe18=>
     some (Res.pan (e18.1,()))))
    (z2k n (IntKind.u8.wrap (a+1)) b y12.2 d.re e.re))
   ((z3x n 12).bind λy19=>
   zg2 y19 (λr20=>
    z2o n b c d.re)
    (λe21=>
    some (Res.pan (e21.1,()))))
noncomputable def z2o:Nat->Int->yz0->yz1->Ot (Res (Int×Unit) (yz0×yz1))
 |0,_,_,_=>none
 |n+1,a,b,c=>
  (zzg n [91] b).bind λy22=>
  pIf y22.1
   ((z3d n (IntKind.i64.wrap (a-1)) [93] y22.2).bind λy23=>
   zg2 y23 (λr24=>
    some (Res.ok (r24.2,(yz1.mk 18 (kz0.mk 0 (kz2.mk 0 0) false [] []) [] r24.1))))
    (λe25=>
    some (Res.pan (e25.1,()))))
   (z2t n 0 a y22.2 c.re)
noncomputable def z2t:Nat->Int->Int->yz0->yz1->Ot (Res (Int×Unit) (yz0×yz1))
 |0,_,_,_,_=>none
 |n+1,a,b,c,d=>
  pIf (decide (a<(c.s.length:Int)))
   ((ix c.s a).bind λx26=>
   pIf (decide ((x26.toNat:Int)>=97))
    ((ix c.s a).bind λx27=>
    pIf (decide ((x27.toNat:Int)<=122))
     (zz6 n b a true c d.re)
     (pIf (decide (a>0))
       ((ix c.s a).bind λx28=>
       pIf ((x28.toNat:Int)==45)
        (zz6 n b a true c d.re)
        ((ix c.s a).bind λx29=>
        pIf (decide ((x29.toNat:Int)>=48))
         ((ix c.s a).bind λx30=>
         zz6 n b a (decide ((x30.toNat:Int)<=57)) c d.re)
         (zz6 n b a false c d.re)))
       (zz6 n b a false c d.re)))
    (pIf (decide (a>0))
      ((ix c.s a).bind λx31=>
      pIf ((x31.toNat:Int)==45)
       (zz6 n b a true c d.re)
       ((ix c.s a).bind λx32=>
       pIf (decide ((x32.toNat:Int)>=48))
        ((ix c.s a).bind λx33=>
        zz6 n b a (decide ((x33.toNat:Int)<=57)) c d.re)
        (zz6 n b a false c d.re)))
      (zz6 n b a false c d.re)))
   (zz6 n b a false c d.re)
noncomputable def zz6:Nat->Int->Int->Bool->yz0->yz1->Ot (Res (Int×Unit) (yz0×yz1))
 |0,_,_,_,_,_=>none
 |n+1,a,b,c,d,e=>
  pIf c
   (z2t n (IntKind.i64.wrap (b+1)) a d e.re)
   ((sub d.s 0 b).bind λx34=>
   pIf (b==0)
    ((z5b n d).bind λy35=>
    zg2 y35 (λr36=>
     some (Res.ok (r36.1,r36.2.re)))
     (λe37=>
     some (Res.pan (e37.1,()))))
    (pIf (x34==[116,114,117,101])
      (z2r n x34 b a true d e.re)
      (z2r n x34 b a (x34==[102,97,108,115,101]) d e.re)))
noncomputable def z2r:Nat->B8->Int->Int->Bool->yz0->yz1->Ot (Res (Int×Unit) (yz0×yz1))
 |0,_,_,_,_,_,_=>none
 |n+1,a,b,c,d,e,f=>
  pIf d
   ((sub e.s b (e.s.length:Int)).bind λx38=>
   (zfq n (a==[116,114,117,101])).bind λy39=>
   some (Res.ok ((yz0.mk x38),(yz1.mk 1 y39.re [] []))))
   ((sub e.s b (e.s.length:Int)).bind λx40=>
   (zzg n [40] (yz0.mk x40)).bind λy41=>
   pIf (!y41.1)
    (some (Res.ok (y41.2,(yz1.mk 2 (kz0.mk 0 (kz2.mk 0 0) false [] []) a []))))
    ((kzh n [110,111,116,32,105,102,32,109,105,110,32,109,97,120,32,102,108,111,111,114,32,108,101,110,32,97,116]).bind λy42=>
    (kz7 n y42 a).bind λy43=>
    pIf (decide (y43<0))
     ((z3x n 12).bind λy44=>
     zg2 y44 (λr45=>
      z2s n c y43 y41.2 f.re)
      (λe46=>
      some (Res.pan (e46.1,()))))
     (z2s n c y43 y41.2 f.re)))
noncomputable def z2s:Nat->Int->Int->yz0->yz1->Ot (Res (Int×Unit) (yz0×yz1))
 |0,_,_,_,_=>none
 |n+1,a,b,c,d=>
  (z3d n (IntKind.i64.wrap (a-1)) [41] c).bind λy47=>
  zg2 y47 (λr48=>
   some (Res.ok (r48.2,(yz1.mk (IntKind.u8.wrap (11+(IntKind.u8.wrap b))) (kz0.mk 0 (kz2.mk 0 0) false [] []) [] r48.1))))
   (λe49=>
   some (Res.pan (e49.1,())))
noncomputable def z3d:Nat->Int->B8->yz0->Ot (Res (Int×Unit) (zzo×yz0))
 |0,_,_,_=>none
 |n+1,a,b,c=>
  (zzg n b c).bind λy0=>
  pIf y0.1
   (some (Res.ok ([],y0.2)))
   (z1c n b a y0.2 [])
noncomputable def z1c:Nat->B8->Int->yz0->zzo->Ot (Res (Int×Unit) (zzo×yz0))
 |0,_,_,_,_=>none
 |n+1,a,b,c,d=>
  (z0o n b c).bind λy1=>
  zg2 y1 (λr2=>
   (ext d [r2.2.re]).bind λx3=>
   (zzg n a r2.1).bind λy4=>
   pIf y4.1
    (some (Res.ok (x3,y4.2)))
    ((z2h n [44,32] y4.2).bind λy5=>
    zg2 y5 (λr6=>
     z1c n a b r6 x3)
     (λe7=>
     some (Res.pan (e7.1,())))))
   (λe8=>
   some (Res.pan (e8.1,())))
end
noncomputable def zmy:LSh:=⟨[(4,(.ptr 1 0))],[(.st 15),(.st 5)],1,167,[]⟩
noncomputable def z19:FI dat:=FI.ofP dat 243 167 1 [(.ptr 0 0),dI] [(.st 15)] [dT 5] [(.st 15),(.st 5)] (.iface 31 dI) [(.cells [.any])] [] zmy (R:=yz0×yz1) (λx=>(x.1,x.2.1)) (λr=>(r.2,r.1,r.2,())) (λn=>u2 (z0o n))
 (λn=>[(0,⟨⟨[(4,(.ptr 1 0)),(0,(.ptr 0 0)),(1,dI)],[(.st 15),(.st 5)],1,167,[]⟩,u3 (z2w n)⟩),(1,⟨⟨[(4,(.ptr 1 0)),(5,(.ptr 2 0)),(6,dU),(0,(.ptr 0 0)),(1,dI)],[(.st 15),(.st 5),(.st 5)],1,167,[]⟩,u5 (z2k n)⟩),(2,⟨⟨[(4,(.ptr 1 0)),(1,dI),(0,(.ptr 0 0))],[(.st 15),(.st 5)],1,167,[]⟩,u3 (z2o n)⟩),(3,⟨⟨[(8,dI),(4,(.ptr 1 0)),(0,(.ptr 0 0)),(1,dI)],[(.st 15),(.st 5)],1,167,[]⟩,u4 (z2t n)⟩),(4,⟨⟨[(4,(.ptr 1 0)),(0,(.ptr 0 0)),(1,dI),(8,dI),(105,dB)],[(.st 15),(.st 5)],1,167,[]⟩,u5 (zz6 n)⟩),(5,⟨⟨[(4,(.ptr 1 0)),(9,dS),(8,dI),(0,(.ptr 0 0)),(1,dI),(119,dB)],[(.st 15),(.st 5)],1,167,[]⟩,u6 (z2r n)⟩),(6,⟨⟨[(4,(.ptr 1 0)),(1,dI),(0,(.ptr 0 0)),(10,dI)],[(.st 15),(.st 5)],1,167,[]⟩,u4 (z2s n)⟩)]) (anb [(8,0),(20,1),(43,2),(55,3),(59,4),(76,5),(101,6)] f243)
noncomputable def zie:LSh:=⟨[(6,dL 5)],[(.st 15)],1,24,[]⟩
noncomputable def z7q:FI dat:=FI.ofP dat 271 24 1 [(.ptr 0 0),dI,dS] [(.st 15)] [dL 5] [(.st 15)] (.iface 31 dI) [(.cells [.any])] [] zie (R:=zzo×yz0) (λx=>(x.1,x.2.1)) (λr=>(r.1,r.2,())) (λn=>u3 (z3d n))
 (λn=>[(0,⟨⟨[(0,(.ptr 0 0)),(2,dS),(1,dI),(7,(.own 1))],[(.st 15),(.acc 29 (.st 5) true)],1,24,[]⟩,u4 (z1c n)⟩)]) (anb [(13,0)] f271)
noncomputable def zeb:List (FI dat):=[z19,z7q]++[z1p,z38,z39,z13,zcj,zgo,z02,yze]
theorem zmx:(z19).Good prog dat (tb zeb):=FI.zio (hD:=kza _) func243 ntmps243 call243 (by kernel_rfl) (Qac (by kernel_rfl)) (by kernel_rfl) (λn=>by kernel_rfl) trivial (λx=>by kernel_rfl) (λ_=>rfl) ⟨λ_=>rfl,λ_=>rfl,λ_=>rfl,λ_=>rfl,λ_=>rfl,λ_=>rfl,λ_=>rfl,trivial⟩
 (λ_ _=>tr (z0o.eq_2 ..))
 (λn=>⟨λ_=>tr (z2w.eq_2 ..),
  λ_=>tr (z2k.eq_2 ..),
  λ_=>tr (z2o.eq_2 ..),
  λ_=>tr (z2t.eq_2 ..),
  λ_=>tr (zz6.eq_2 ..),
  λ_=>tr (z2r.eq_2 ..),
  λx=>tr (z2s.eq_2 x.1 x.2.1 x.2.2.1 x.2.2.2.1 n),
  trivial⟩)
 (λx=>by kernel_rfl)
theorem ziu:(z7q).Good prog dat (tb zeb):=FI.zio (hD:=kza _) func271 ntmps271 call271 (by kernel_rfl) (Qac (by kernel_rfl)) (by kernel_rfl) (λn=>by kernel_rfl) trivial (λx=>by kernel_rfl) (λ_=>rfl) ⟨λ_=>rfl,trivial⟩
 (λ_ _=>tr (z3d.eq_2 ..))
 (λn=>⟨λ_=>tr (z1c.eq_2 ..),
  trivial⟩)
 (λx=>by kernel_rfl)
theorem zms:OkL prog [z19,z7q]:=zc7 (kza _) (bs:=[z1p,z38,z39,z13,zcj,zgo,z02,yze]) ⟨zdw,zdc,zle,zgx,zoh,zu7,z3z,zzw,trivial⟩ ⟨zmx,ziu,trivial⟩
theorem zkt:FOk prog z19:=zms.1
noncomputable def zat(a0:Int):Option Int :=
 some a0
noncomputable def zuz:LSh:=⟨[],[(.cells [dI])],1,10,[]⟩
noncomputable def zlk:zen dat:={f:=242,args:=[(.ptr 0 0)],aos:=[(.cells [dI])],m:=none,ros:=[(.cells [dI])],go:=λx mx=>(zat x.1).bind λr=>some (r,())}
theorem zqr:(zlk).Ok prog:=y0s (c:=(anb [] f242)) (args:=[(.ptr 0 0)]) (aos:=[(.cells [dI])]) (ros:=[(.cells [dI])]) (m:=none) (l:=zuz) (pack:=λx=>x.1) (un:=λr=>(r,())) (go:=λx mx=>zat x.1) (by kernel_rfl) (kza _) func242 (by kernel_rfl) ntmps242 call242 (Nat.le_of_ble_eq_true (by kernel_rfl)) (Nat.le_of_ble_eq_true (by kernel_rfl)) (Nat.le_of_ble_eq_true (by kernel_rfl)) (by kernel_rfl) (by kernel_rfl) (by kernel_rfl) (by kernel_rfl) (λx=>by kernel_rfl) (λx mx=>by kernel_rfl)
end Go.Proofs.YthphaiccgnkobaaGreatDoor
