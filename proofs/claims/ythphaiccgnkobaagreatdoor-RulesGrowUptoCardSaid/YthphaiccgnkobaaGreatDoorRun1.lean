/-
  Go functions as Lean functions, by a program of this repo.
-/
import Derived.Test.YthphaiccgnkobaaGreatDoorRun0
namespace Go.Proofs.YthphaiccgnkobaaGreatDoor
open Go Go.Ab
set_option linter.unusedSimpArgs false
open Go.Proofs.Tryz
set_option linter.unusedVariables false
set_option maxRecDepth 100000
set_option maxHeartbeats 4000000
def zzj:Nat->(List B8)->B8->Ot Bool
 |0,_,_=>none
 |n+1,a,b=>
  (kz9 n a b).bind λy0=>
  some (decide (y0>=0))
def zin:LSh:=⟨[(4,dB)],[],0,9,[]⟩
noncomputable def zbt:FI dat:=FI.of dat 149 9 0 [dA,dS] [] [dB] [] true zin (R:=Bool) Prod.fst (·,()) (λn=>u2 (zzj n))
 (λn=>[]) (anb [] f149)
theorem zhc:FOk prog zbt:=okF (bs:=[yzp]) ⟨z26,trivial⟩ func149 ntmps149 call149
 (λ_ _=>tr (zzj.eq_2 ..))
 (λn=>trivial)
def z2n:Nat->B8->Ot Bool
 |0,_=>none
 |n+1,a=>
  (zbo n a).bind λy0=>
  pIf y0
   ((zzj n [[116,114,117,101],[102,97,108,115,101],[115,120],[115,121],[115,122]] a).bind λy1=>
   some (!y1))
   (some false)
def ygy:LSh:=⟨[(2,dB)],[],0,11,[]⟩
noncomputable def zjr:FI dat:=FI.of dat 88 11 0 [dS] [] [dB] [] true ygy (R:=Bool) Prod.fst (·,()) (λn=>u1 (z2n n))
 (λn=>[]) (anb [] f88)
theorem zmh:FOk prog zjr:=okF (bs:=[ztc,zbt]) ⟨y0r,zhc,trivial⟩ func88 ntmps88 call88
 (λ_ _=>tr (z2n.eq_2 ..))
 (λn=>trivial)
mutual
def z8m:Nat->zz1->Ot (Int×Int)
 |0,_=>none
 |n+1,a=>
  z32 n 0 1 1 a.args (a.args.length:Int)
def z32:Nat->Int->Int->Int->yz6->Int->Ot (Int×Int)
 |0,_,_,_,_,_=>none
 |n+1,a,b,c,d,e=>
  pIf (decide (a<e))
   ((ix d a).bind λx0=>
   (z8m n x0.re).bind λy1=>
   z32 n (IntKind.i64.wrap (a+1)) (mxI b (IntKind.i64.wrap (y1.2+1))) (IntKind.i64.wrap (c+y1.1)) d e)
   (some (c,b))
end
def yda:LSh:=⟨[(2,dI),(3,dI)],[],0,30,[]⟩
noncomputable def zeu:FI dat:=FI.of dat 150 30 0 [dT 5] [] [dI,dI] [] true yda (R:=Int×Int) (λx=>(x.1,x.2.1)) (λr=>(r.1,r.2,())) (λn=>u1 (z8m n))
 (λn=>[(0,⟨⟨[(11,dI),(3,dI),(2,dI),(9,dL 5),(10,dI)],[],0,30,[]⟩,u5 (z32 n)⟩)]) (anb [(8,0)] f150)
noncomputable def yc8:List (FI dat):=[zeu]++[]
theorem ydp:(zeu).Good prog dat (tb yc8):=FI.z0t (hD:=zz8 _) func150 ntmps150 call150 (by kernel_rfl) (Qac (by kernel_rfl)) (by kernel_rfl) (λn=>by kernel_rfl) (λx=>by kernel_rfl) (λ_=>rfl) ⟨λ_=>rfl,trivial⟩
 (λ_ _=>tr (z8m.eq_2 ..))
 (λn=>⟨λ_=>tr (z32.eq_2 ..),
  trivial⟩)
 (λx=>.inl rfl)
theorem ycz:OkL prog [zeu]:=z5k (zz8 _) (bs:=[]) trivial ⟨ydp,trivial⟩
theorem y8x:FOk prog zeu:=ycz.1
mutual
def zdu:Nat->Int->Ot Int
 |0,_=>none
 |n+1,a=>
  pIf (a==12)
   (z0e n 3)
   (pIf (a==3)
     (zzp n (-2) a true)
     (pIf (a==4)
       (zzp n (-2) a true)
       (pIf (a==5)
         (zzp n (-2) a true)
         (pIf (a==6)
           (zzp n (-2) a true)
           (pIf (a==7)
             (zzp n (-2) a true)
             (pIf (a==8)
               (zzp n (-2) a true)
               (pIf (a==9)
                 (zzp n (-2) a true)
                 (zzp n (-2) a (a==10)))))))))
def zzp:Nat->Int->Int->Bool->Ot Int
 |0,_,_,_=>none
 |n+1,a,b,c=>
  pIf c
   (z9j n)
   (pIf (b==13)
     (z6b n a b true)
     (pIf (b==14)
       (z6b n a b true)
       (z6b n a b (b==17))))
def z6b:Nat->Int->Int->Bool->Ot Int
 |0,_,_,_=>none
 |n+1,a,b,c=>
  pIf c
   (z9j n)
   (pIf (b==11)
     (z5w n a b true)
     (pIf (b==15)
       (z5w n a b true)
       (z5w n a b (b==16))))
def z5w:Nat->Int->Int->Bool->Ot Int
 |0,_,_,_=>none
 |n+1,a,b,c=>
  pIf c
   (z0e n 1)
   (pIf (b==1)
     (z9m n a b true)
     (z9m n a b (b==2)))
def z9m:Nat->Int->Int->Bool->Ot Int
 |0,_,_,_=>none
 |n+1,a,b,c=>
  pIf c
   (z0e n 0)
   (pIf (b==18)
     (z0e n (-1))
     (z0e n a))
def z9j:Nat->Option Int
 |0=>none
 |n+1=>
  z0e n 2
def z0e:Nat->Int->Ot Int
 |0,_=>none
 |n+1,a=>
  some a
end
def ykw:LSh:=⟨[(2,dI)],[],0,30,[]⟩
noncomputable def ztn:FI dat:=FI.of dat 194 30 0 [dU] [] [dI] [] true ykw (R:=Int) Prod.fst (·,()) (λn=>u1 (zdu n))
 (λn=>[(0,⟨⟨[(3,dI),(4,dU),(7,dB)],[],0,30,[]⟩,u3 (zzp n)⟩),(1,⟨⟨[(3,dI),(4,dU),(16,dB)],[],0,30,[]⟩,u3 (z6b n)⟩),(2,⟨⟨[(3,dI),(4,dU),(20,dB)],[],0,30,[]⟩,u3 (z5w n)⟩),(3,⟨⟨[(3,dI),(4,dU),(24,dB)],[],0,30,[]⟩,u3 (z9m n)⟩),(4,⟨⟨[],[],0,30,[]⟩,λx=>z9j n⟩),(5,⟨⟨[(3,dI)],[],0,30,[]⟩,u1 (z0e n)⟩)]) (anb [(57,0),(71,1),(85,2),(95,3),(107,4),(119,5)] f194)
theorem ygr:FOk prog ztn:=okF (bs:=[]) trivial func194 ntmps194 call194
 (λ_ _=>tr (zdu.eq_2 ..))
 (λn=>⟨λ_=>tr (zzp.eq_2 ..),
  λ_=>tr (z6b.eq_2 ..),
  λ_=>tr (z5w.eq_2 ..),
  λ_=>tr (z9m.eq_2 ..),
  λx=>(z9j.eq_2 n).trans (by kernel_rfl),
  λ_=>tr (z0e.eq_2 _ n),
  trivial⟩)
mutual
def z79:Nat->kz0->Ot (Int×Int)
 |0,_=>none
 |n+1,a=>
  pIf (a.kind==4)
   (z1v n 0 1 1 a.list (a.list.length:Int))
   (z1w n 1 1)
def z1v:Nat->Int->Int->Int->zzw->Int->Ot (Int×Int)
 |0,_,_,_,_,_=>none
 |n+1,a,b,c,d,e=>
  pIf (decide (a<e))
   ((ix d a).bind λx0=>
   (z79 n x0.re).bind λy1=>
   z1v n (IntKind.i64.wrap (a+1)) (mxI b (IntKind.i64.wrap (y1.2+1))) (IntKind.i64.wrap (c+y1.1)) d e)
   (z1w n b c)
def z1w:Nat->Int->Int->Ot (Int×Int)
 |0,_,_=>none
 |n+1,a,b=>
  some (b,a)
end
def ya4:LSh:=⟨[(2,dI),(3,dI)],[],0,33,[]⟩
noncomputable def zdd:FI dat:=FI.of dat 237 33 0 [dT 4] [] [dI,dI] [] true ya4 (R:=Int×Int) (λx=>(x.1,x.2.1)) (λr=>(r.1,r.2,())) (λn=>u1 (z79 n))
 (λn=>[(0,⟨⟨[(14,dI),(3,dI),(2,dI),(12,dL 4),(13,dI)],[],0,33,[]⟩,u5 (z1v n)⟩),(1,⟨⟨[(3,dI),(2,dI)],[],0,33,[]⟩,u2 (z1w n)⟩)]) (anb [(11,0),(29,1)] f237)
noncomputable def y9h:List (FI dat):=[zdd]++[]
theorem y9q:(zdd).Good prog dat (tb y9h):=FI.z0t (hD:=zz8 _) func237 ntmps237 call237 (by kernel_rfl) (Qac (by kernel_rfl)) (by kernel_rfl) (λn=>by kernel_rfl) (λx=>by kernel_rfl) (λ_=>rfl) ⟨λ_=>rfl,λ_=>rfl,trivial⟩
 (λ_ _=>tr (z79.eq_2 ..))
 (λn=>⟨λ_=>tr (z1v.eq_2 ..),
  λ_=>tr (z1w.eq_2 _ _ n),
  trivial⟩)
 (λx=>.inl rfl)
theorem y92:OkL prog [zdd]:=z5k (zz8 _) (bs:=[]) trivial ⟨y9q,trivial⟩
theorem y6d:FOk prog zdd:=y92.1
def zbb:Nat->Int->Ot Int
 |0,_=>none
 |n+1,a=>
  pIf (decide (a<0))
   (some (IntKind.u64.wrap (0-(IntKind.u64.wrap a))))
   (some (IntKind.u64.wrap a))
def ynq:LSh:=⟨[(2,(.d (.int .u64)))],[],0,10,[]⟩
noncomputable def y3i:FI dat:=FI.of dat 284 10 0 [dI] [] [(.d (.int .u64))] [] true ynq (R:=Int) Prod.fst (·,()) (λn=>u1 (zbb n))
 (λn=>[]) (anb [] f284)
theorem yho:FOk prog y3i:=okF (bs:=[]) trivial func284 ntmps284 call284
 (λn=>λ_=>tr (zbb.eq_2 _ n))
 (λn=>trivial)
mutual
def zfc:Nat->Int->Int->Ot Int
 |0,_,_=>none
 |n+1,a,b=>
  z8u n b a
def z8u:Nat->Int->Int->Ot Int
 |0,_,_=>none
 |n+1,a,b=>
  pIf (a != 0)
   ((rem .u64 b a).bind λx0=>
   z8u n x0 a)
   (some b)
end
def yob:LSh:=⟨[(4,(.d (.int .u64)))],[],0,12,[]⟩
noncomputable def y7k:FI dat:=FI.of dat 285 12 0 [(.d (.int .u64)),(.d (.int .u64))] [] [(.d (.int .u64))] [] true yob (R:=Int) Prod.fst (·,()) (λn=>u2 (zfc n))
 (λn=>[(0,⟨⟨[(1,(.d (.int .u64))),(0,(.d (.int .u64)))],[],0,12,[]⟩,u2 (z8u n)⟩)]) (anb [(4,0)] f285)
theorem ymi:FOk prog y7k:=okF (bs:=[]) trivial func285 ntmps285 call285
 (λ_ _=>tr (zfc.eq_2 ..))
 (λn=>⟨λ_=>tr (z8u.eq_2 ..),
  trivial⟩)
mutual
def z7v:Nat->yz4->Ot Int
 |0,_=>none
 |n+1,a=>
  pIf (decide (a.den<1))
   (z0r n true)
   (pIf (decide (a.den>1000000000))
     (z0r n true)
     ((zbb n a.num).bind λy0=>
     pIf (decide (y0>1000000000))
      (z0r n true)
      ((zbb n a.num).bind λy1=>
      (zfc n y1 (IntKind.u64.wrap a.den)).bind λy2=>
      z0r n (y2 != 1))))
def z0r:Nat->Bool->Ot Int
 |0,_=>none
 |n+1,a=>
  pIf a
   (some 8)
   (some 0)
end
def yg0:LSh:=⟨[(2,dI)],[],0,27,[]⟩
noncomputable def zg6:FI dat:=FI.of dat 267 27 0 [dT 3] [] [dI] [] true yg0 (R:=Int) Prod.fst (·,()) (λn=>u1 (z7v n))
 (λn=>[(0,⟨⟨[(26,dB)],[],0,27,[]⟩,u1 (z0r n)⟩)]) (anb [(5,0)] f267)
theorem zm8:FOk prog zg6:=okF (bs:=[y3i,y7k]) ⟨yho,ymi,trivial⟩ func267 ntmps267 call267
 (λ_ _=>tr (z7v.eq_2 ..))
 (λn=>⟨λ_=>tr (z0r.eq_2 _ n),
  trivial⟩)
mutual
def zbk:Nat->kz0->Ot Bool
 |0,_=>none
 |n+1,a=>
  pIf (a.kind==1)
   ((z7v n a.num).bind λy0=>
   pIf (y0 != 0)
    (some false)
    (z1q n (kz0.mk a.kind (yz4.mk 0 0) a.truth a.str a.list)))
   (pIf (a.kind==2)
     (z1q n (kz0.mk a.kind a.num false a.str a.list))
     (pIf (a.kind==3)
       (pIf (decide ((a.str.length:Int)>60))
         (some false)
         (z6z n 0 a.re (kz0.mk a.kind a.num a.truth [] a.list)))
       (pIf (a.kind==4)
         (z6h n 0 a.list (a.list.length:Int) (kz0.mk a.kind a.num a.truth a.str []))
         (some false))))
def z6z:Nat->Int->kz0->kz0->Ot Bool
 |0,_,_,_=>none
 |n+1,a,b,c=>
  pIf (decide (a<(b.str.length:Int)))
   ((ix b.str a).bind λx1=>
   pIf (decide ((x1.toNat:Int)<32))
    (z65 n a true b.re c.re)
    ((ix b.str a).bind λx2=>
    z65 n a (decide ((x2.toNat:Int)>126)) b.re c.re))
   (z1q n c.re)
def z65:Nat->Int->Bool->kz0->kz0->Ot Bool
 |0,_,_,_,_=>none
 |n+1,a,b,c,d=>
  pIf b
   (some false)
   (z6z n (IntKind.i64.wrap (a+1)) c.re d.re)
def z6h:Nat->Int->zzw->Int->kz0->Ot Bool
 |0,_,_,_,_=>none
 |n+1,a,b,c,d=>
  pIf (decide (a<c))
   ((ix b a).bind λx3=>
   (zbk n x3.re).bind λy4=>
   pIf (!y4)
    (some false)
    (z6h n (IntKind.i64.wrap (a+1)) b c d.re))
   (z1q n d.re)
def z1q:Nat->kz0->Ot Bool
 |0,_=>none
 |n+1,a=>
  pIf ((a.num.num==0)&&((a.num.den==0)&&true))
   (pIf (!a.truth)
     (pIf (a.str==[])
       (some ((a.list.length:Int)==0))
       (some false))
     (some false))
   (some false)
end
def ylr:LSh:=⟨[(2,dB)],[],0,81,[]⟩
noncomputable def zii:FI dat:=FI.of dat 238 81 0 [dT 4] [] [dB] [] true ylr (R:=Bool) Prod.fst (·,()) (λn=>u1 (zbk n))
 (λn=>[(0,⟨⟨[(4,dI),(1,(.ptr 0 0)),(3,(.ptr 1 0))],[(.st 4),(.st 4)],0,81,[]⟩,u3 (z6z n)⟩),(1,⟨⟨[(1,(.ptr 0 0)),(3,(.ptr 1 0)),(4,dI),(46,dB)],[(.st 4),(.st 4)],0,81,[]⟩,u4 (z65 n)⟩),(2,⟨⟨[(53,dI),(51,dL 4),(3,(.ptr 0 0)),(52,dI)],[(.st 4)],0,81,[]⟩,u4 (z6h n)⟩),(3,⟨⟨[(3,(.ptr 0 0))],[(.st 4)],0,81,[]⟩,u1 (z1q n)⟩)]) (anb [(40,0),(51,1),(65,2),(87,3)] f238)
noncomputable def ykq:List (FI dat):=[zii]++[zg6]
theorem yla:(zii).Good prog dat (tb ykq):=FI.z0t (hD:=zz8 _) func238 ntmps238 call238 (by kernel_rfl) (Qac (by kernel_rfl)) (by kernel_rfl) (λn=>by kernel_rfl) (λx=>by kernel_rfl) (λ_=>rfl) ⟨λ_=>rfl,λ_=>rfl,λ_=>rfl,λ_=>rfl,trivial⟩
 (λ_ _=>tr (zbk.eq_2 ..))
 (λn=>⟨λ_=>tr (z6z.eq_2 ..),
  λ_=>tr (z65.eq_2 ..),
  λ_=>tr (z6h.eq_2 ..),
  λ_=>tr (z1q.eq_2 _ n),
  trivial⟩)
 (λx=>.inl rfl)
theorem ykb:OkL prog [zii]:=z5k (zz8 _) (bs:=[zg6]) ⟨zm8,trivial⟩ ⟨yla,trivial⟩
theorem yfl:FOk prog zii:=ykb.1
mutual
def z7p:Nat->kz0->Ot Int
 |0,_=>none
 |n+1,a=>
  (z79 n a.re).bind λy0=>
  pIf (decide (y0.1>100))
   (z41 n true a.re)
   (z41 n (decide (y0.2>6)) a.re)
def z41:Nat->Bool->kz0->Ot Int
 |0,_,_=>none
 |n+1,a,b=>
  pIf a
   (some 4)
   ((zbk n b.re).bind λy1=>
   pIf (!y1)
    (some 8)
    (some 0))
end
def yfb:LSh:=⟨[(2,dI)],[],0,19,[]⟩
noncomputable def zge:FI dat:=FI.of dat 195 19 0 [dT 4] [] [dI] [] true yfb (R:=Int) Prod.fst (·,()) (λn=>u1 (z7p n))
 (λn=>[(0,⟨⟨[(1,(.ptr 0 0)),(15,dB)],[(.st 4)],0,19,[]⟩,u2 (z41 n)⟩)]) (anb [(7,0)] f195)
theorem zn0:FOk prog zge:=okF (bs:=[zdd,zii]) ⟨y6d,yfl,trivial⟩ func195 ntmps195 call195
 (λ_ _=>tr (z7p.eq_2 ..))
 (λn=>⟨λ_=>tr (z41.eq_2 ..),
  trivial⟩)
def zdr:Nat->B8->Ot Bool
 |0,_=>none
 |n+1,a=>
  (zbo n a).bind λy0=>
  pIf y0
   (pIf (!(a==[116,114,117,101]))
     (some (!(a==[102,97,108,115,101])))
     (some false))
   (some false)
def ymf:LSh:=⟨[(2,dB)],[],0,13,[]⟩
noncomputable def ztu:FI dat:=FI.of dat 196 13 0 [dS] [] [dB] [] true ymf (R:=Bool) Prod.fst (·,()) (λn=>u1 (zdr n))
 (λn=>[]) (anb [] f196)
theorem yhy:FOk prog ztu:=okF (bs:=[ztc]) ⟨y0r,trivial⟩ func196 ntmps196 call196
 (λ_ _=>tr (zdr.eq_2 ..))
 (λn=>trivial)
mutual
def z3r:Nat->kz0->kz0->Ot Bool
 |0,_,_=>none
 |n+1,a,b=>
  pIf (a.kind != b.kind)
   (z0b n true b.re a.re)
   (pIf (!((a.num.num==b.num.num)&&((a.num.den==b.num.den)&&true)))
     (z0b n true b.re a.re)
     (pIf (!(a.truth==b.truth))
       (z0b n true b.re a.re)
       (pIf (!(a.str==b.str))
         (z0b n true b.re a.re)
         (z0b n ((a.list.length:Int) != (b.list.length:Int)) b.re a.re))))
def z0b:Nat->Bool->kz0->kz0->Ot Bool
 |0,_,_,_=>none
 |n+1,a,b,c=>
  pIf a
   (some false)
   (z66 n 0 (c.list.length:Int) b.re c.re)
def z66:Nat->Int->Int->kz0->kz0->Ot Bool
 |0,_,_,_,_=>none
 |n+1,a,b,c,d=>
  pIf (decide (a<b))
   ((ix d.list a).bind λx0=>
   (ix c.list a).bind λx1=>
   (z3r n x0.re x1.re).bind λy2=>
   pIf (!y2)
    (some false)
    (z66 n (IntKind.i64.wrap (a+1)) b c.re d.re))
   (some true)
end
def ym5:LSh:=⟨[(4,dB)],[],0,60,[]⟩
noncomputable def zfn:FI dat:=FI.of dat 143 60 0 [dT 4,dT 4] [] [dB] [] true ym5 (R:=Bool) Prod.fst (·,()) (λn=>u2 (z3r n))
 (λn=>[(0,⟨⟨[(3,(.ptr 0 0)),(2,(.ptr 1 0)),(40,dB)],[(.st 4),(.st 4)],0,60,[]⟩,u3 (z0b n)⟩),(1,⟨⟨[(44,dI),(3,(.ptr 0 0)),(2,(.ptr 1 0)),(43,dI)],[(.st 4),(.st 4)],0,60,[]⟩,u4 (z66 n)⟩)]) (anb [(5,0),(14,1)] f143)
noncomputable def ynu:List (FI dat):=[zfn]++[]
theorem yke:(zfn).Good prog dat (tb ynu):=FI.z0t (hD:=zz8 _) func143 ntmps143 call143 (by kernel_rfl) (Qac (by kernel_rfl)) (by kernel_rfl) (λn=>by kernel_rfl) (λx=>by kernel_rfl) (λ_=>rfl) ⟨λ_=>rfl,λ_=>rfl,trivial⟩
 (λ_ _=>tr (z3r.eq_2 ..))
 (λn=>⟨λ_=>tr (z0b.eq_2 ..),
  λ_=>tr (z66.eq_2 ..),
  trivial⟩)
 (λx=>.inl rfl)
theorem ynj:OkL prog [zfn]:=z5k (zz8 _) (bs:=[]) trivial ⟨yke,trivial⟩
theorem yfr:FOk prog zfn:=ynj.1
mutual
def zct:Nat->zz1->Ot Bool
 |0,_=>none
 |n+1,a=>
  (zdu n a.op).bind λy0=>
  pIf (y0==(-2))
   (z5f n true a.re)
   (pIf (decide (y0>=0))
     (z5f n ((a.args.length:Int) != y0) a.re)
     (z5f n false a.re))
def z5f:Nat->Bool->zz1->Ot Bool
 |0,_,_=>none
 |n+1,a,b=>
  pIf a
   (some false)
   (pIf (b.op==1)
     ((z7p n b.value.re).bind λy1=>
     pIf (y1 != 0)
      (z5g n true b.re)
      (pIf (b.value.kind==4)
        (z5g n true b.re)
        (z5g n (!(b.name==[])) b.re)))
     (pIf (b.op==2)
       ((zdr n b.name).bind λy2=>
       pIf (!y2)
        (z8w n true b.re)
        ((z3r n b.value.re (kz0.mk 0 (yz4.mk 0 0) false [] [])).bind λy3=>
        z8w n (!y3) b.re))
       (pIf (!(b.name==[]))
         (z8r n true b.re)
         ((z3r n b.value.re (kz0.mk 0 (yz4.mk 0 0) false [] [])).bind λy4=>
         z8r n (!y4) b.re))))
def z5g:Nat->Bool->zz1->Ot Bool
 |0,_,_=>none
 |n+1,a,b=>
  pIf a
   (some false)
   (z5e n b.re)
def z8w:Nat->Bool->zz1->Ot Bool
 |0,_,_=>none
 |n+1,a,b=>
  pIf a
   (some false)
   (z5e n b.re)
def z8r:Nat->Bool->zz1->Ot Bool
 |0,_,_=>none
 |n+1,a,b=>
  pIf a
   (some false)
   (z5e n b.re)
def z5e:Nat->zz1->Ot Bool
 |0,_=>none
 |n+1,a=>
  (yzb n a.args).bind λy5=>
  some (!y5)
def yzb:Nat->yz6->Ot Bool
 |0,_=>none
 |n+1,a=>
  (zzd n a).bind λy0=>
  some (decide (y0>=0))
def zzd:Nat->yz6->Ot Int
 |0,_=>none
 |n+1,a=>
  kz6 n 0 a (a.length:Int)
def kz6:Nat->Int->yz6->Int->Ot Int
 |0,_,_,_=>none
 |n+1,a,b,c=>
  pIf (decide (a<c))
   ((ix b a).bind λx0=>
   (zca n x0.re).bind λy1=>
   pIf y1
    (some a)
    (kz6 n (IntKind.i64.wrap (a+1)) b c))
   (some (-1))
def zca:Nat->zz1->Ot Bool
 |0,_=>none
 |n+1,a=>
  (zct n a.re).bind λy0=>
  some (!y0)
end
def ypo:LSh:=⟨[(2,dB)],[],0,66,[]⟩
noncomputable def zjw:FI dat:=FI.of dat 151 66 0 [dT 5] [] [dB] [] true ypo (R:=Bool) Prod.fst (·,()) (λn=>u1 (zct n))
 (λn=>[(0,⟨⟨[(1,(.ptr 0 0)),(19,dB)],[(.st 5)],0,66,[]⟩,u2 (z5f n)⟩),(1,⟨⟨[(1,(.ptr 0 0)),(48,dB)],[(.st 5)],0,66,[]⟩,u2 (z5g n)⟩),(2,⟨⟨[(1,(.ptr 0 0)),(61,dB)],[(.st 5)],0,66,[]⟩,u2 (z8w n)⟩),(3,⟨⟨[(1,(.ptr 0 0)),(31,dB)],[(.st 5)],0,66,[]⟩,u2 (z8r n)⟩),(4,⟨⟨[(1,(.ptr 0 0))],[(.st 5)],0,66,[]⟩,u1 (z5e n)⟩)]) (anb [(7,0),(21,1),(31,2),(38,3),(43,4)] f151)
def zd5:LSh:=⟨[(4,dB)],[],0,9,[]⟩
noncomputable def kzy:FI dat:=FI.of dat 36 9 0 [dL 5,(.fn 197 [] [])] [] [dB] [] true zd5 (R:=Bool) Prod.fst (·,()) (λn=>u1 (yzb n))
 (λn=>[]) (anb [] f36)
def zed:LSh:=⟨[(4,dI)],[],0,19,[]⟩
noncomputable def z0x:FI dat:=FI.of dat 95 19 0 [dL 5,(.fn 197 [] [])] [] [dI] [] true zed (R:=Int) Prod.fst (·,()) (λn=>u1 (zzd n))
 (λn=>[(0,⟨⟨[(8,dI),(0,dL 5),(1,(.fn 197 [] [])),(7,dI)],[],0,19,[]⟩,u3 (kz6 n)⟩)]) (anb [(6,0)] f95)
def yh5:LSh:=⟨[(2,dB)],[],0,6,[]⟩
noncomputable def zq1:FI dat:=FI.of dat 197 6 0 [dT 5] [] [dB] [] true yh5 (R:=Bool) Prod.fst (·,()) (λn=>u1 (zca n))
 (λn=>[]) (anb [] f197)
noncomputable def zp5:List (FI dat):=[zjw,kzy,z0x,zq1]++[ztn,zge,ztu,zfn]
theorem yrg:(zjw).Good prog dat (tb zp5):=FI.z0t (hD:=zz8 _) func151 ntmps151 call151 (by kernel_rfl) (Qac (by kernel_rfl)) (by kernel_rfl) (λn=>by kernel_rfl) (λx=>by kernel_rfl) (λ_=>rfl) ⟨λ_=>rfl,λ_=>rfl,λ_=>rfl,λ_=>rfl,λ_=>rfl,trivial⟩
 (λ_ _=>tr (zct.eq_2 ..))
 (λn=>⟨λ_=>tr (z5f.eq_2 ..),
  λ_=>tr (z5g.eq_2 ..),
  λ_=>tr (z8w.eq_2 ..),
  λ_=>tr (z8r.eq_2 ..),
  λ_=>tr (z5e.eq_2 ..),
  trivial⟩)
 (λx=>.inl rfl)
theorem zd8:(kzy).Good prog dat (tb zp5):=FI.z0t (hD:=zz8 _) func36 ntmps36 call36 (by kernel_rfl) (Qac (by kernel_rfl)) (by kernel_rfl) (λn=>by kernel_rfl) (λx=>by kernel_rfl) (λ_=>rfl) trivial
 (λ_ _=>tr (yzb.eq_2 ..))
 (λn=>trivial)
 (λx=>.inl rfl)
theorem zec:(z0x).Good prog dat (tb zp5):=FI.z0t (hD:=zz8 _) func95 ntmps95 call95 (by kernel_rfl) (Qac (by kernel_rfl)) (by kernel_rfl) (λn=>by kernel_rfl) (λx=>by kernel_rfl) (λ_=>rfl) ⟨λ_=>rfl,trivial⟩
 (λ_ _=>tr (zzd.eq_2 ..))
 (λn=>⟨λ_=>tr (kz6.eq_2 ..),
  trivial⟩)
 (λx=>.inl rfl)
theorem yfz:(zq1).Good prog dat (tb zp5):=FI.z0t (hD:=zz8 _) func197 ntmps197 call197 (by kernel_rfl) (Qac (by kernel_rfl)) (by kernel_rfl) (λn=>by kernel_rfl) (λx=>by kernel_rfl) (λ_=>rfl) trivial
 (λ_ _=>tr (zca.eq_2 ..))
 (λn=>trivial)
 (λx=>.inl rfl)
theorem yol:OkL prog [zjw,kzy,z0x,zq1]:=z5k (zz8 _) (bs:=[ztn,zge,ztu,zfn]) ⟨ygr,zn0,yhy,yfr,trivial⟩ ⟨yrg,zd8,zec,yfz,trivial⟩
theorem yly:FOk prog zjw:=yol.1
mutual
def z0i:Nat->zz1->Ot Int
 |0,_=>none
 |n+1,a=>
  (z8m n a.re).bind λy0=>
  pIf (decide (y0.1>100))
   (z6f n true a.re)
   (z6f n (decide (y0.2>12)) a.re)
def z6f:Nat->Bool->zz1->Ot Int
 |0,_,_=>none
 |n+1,a,b=>
  pIf a
   (some 4)
   ((zct n b.re).bind λy1=>
   pIf (!y1)
    (some 8)
    (some 0))
end
def ykx:LSh:=⟨[(2,dI)],[],0,19,[]⟩
noncomputable def zf0:FI dat:=FI.of dat 89 19 0 [dT 5] [] [dI] [] true ykx (R:=Int) Prod.fst (·,()) (λn=>u1 (z0i n))
 (λn=>[(0,⟨⟨[(1,(.ptr 0 0)),(15,dB)],[(.st 5)],0,19,[]⟩,u2 (z6f n)⟩)]) (anb [(7,0)] f89)
theorem zg3:FOk prog zf0:=okF (bs:=[zeu,zjw]) ⟨y8x,yly,trivial⟩ func89 ntmps89 call89
 (λ_ _=>tr (z0i.eq_2 ..))
 (λn=>⟨λ_=>tr (z6f.eq_2 ..),
  trivial⟩)
def z8i:Nat->B8->Ot Bool
 |0,_=>none
 |n+1,a=>
  (z2n n a).bind λy0=>
  some (!y0)
def y5o:LSh:=⟨[(2,dB)],[],0,6,[]⟩
noncomputable def zrj:FI dat:=FI.of dat 91 6 0 [dS] [] [dB] [] true y5o (R:=Bool) Prod.fst (·,()) (λn=>u1 (z8i n))
 (λn=>[]) (anb [] f91)
theorem y3y:FOk prog zrj:=okF (bs:=[zjr]) ⟨zmh,trivial⟩ func91 ntmps91 call91
 (λ_ _=>tr (z8i.eq_2 ..))
 (λn=>trivial)
mutual
def zzo:Nat->(List B8)->Ot Int
 |0,_=>none
 |n+1,a=>
  zzg n 0 a (a.length:Int)
def zzg:Nat->Int->(List B8)->Int->Ot Int
 |0,_,_,_=>none
 |n+1,a,b,c=>
  pIf (decide (a<c))
   ((ix b a).bind λx0=>
   (z8i n x0).bind λy1=>
   pIf y1
    (some a)
    (zzg n (IntKind.i64.wrap (a+1)) b c))
   (some (-1))
end
def zif:LSh:=⟨[(4,dI)],[],0,19,[]⟩
noncomputable def zb8:FI dat:=FI.of dat 152 19 0 [dA,(.fn 91 [] [])] [] [dI] [] true zif (R:=Int) Prod.fst (·,()) (λn=>u1 (zzo n))
 (λn=>[(0,⟨⟨[(8,dI),(0,dA),(1,(.fn 91 [] [])),(7,dI)],[],0,19,[]⟩,u3 (zzg n)⟩)]) (anb [(6,0)] f152)
theorem zhb:FOk prog zb8:=okF (bs:=[zrj]) ⟨y3y,trivial⟩ func152 ntmps152 call152
 (λ_ _=>tr (zzo.eq_2 ..))
 (λn=>⟨λ_=>tr (zzg.eq_2 ..),
  trivial⟩)
def yzg:Nat->(List B8)->Ot Bool
 |0,_=>none
 |n+1,a=>
  (zzo n a).bind λy0=>
  some (decide (y0>=0))
def zgf:LSh:=⟨[(4,dB)],[],0,9,[]⟩
noncomputable def z9f:FI dat:=FI.of dat 90 9 0 [dA,(.fn 91 [] [])] [] [dB] [] true zgf (R:=Bool) Prod.fst (·,()) (λn=>u1 (yzg n))
 (λn=>[]) (anb [] f90)
theorem zg0:FOk prog z9f:=okF (bs:=[zb8]) ⟨zhb,trivial⟩ func90 ntmps90 call90
 (λ_ _=>tr (yzg.eq_2 ..))
 (λn=>trivial)
def z2k:Nat->yz6->Ot zz1
 |0,_=>none
 |n+1,a=>
  some (zz1.mk 18 (kz0.mk 0 (yz4.mk 0 0) false [] []) [] a)
def yn7:LSh:=⟨[(2,(.ptr 0 0))],[(.st 5)],0,5,[]⟩
noncomputable def ztd:FI dat:=FI.of dat 127 5 0 [dL 5] [] [dT 5] [] true yn7 (R:=zz1) Prod.fst (·,()) (λn=>u1 (z2k n))
 (λn=>[]) (anb [] f127)
theorem y0y:FOk prog ztd:=okF (bs:=[]) trivial func127 ntmps127 call127
 (λn=>λ_=>tr (z2k.eq_2 _ n))
 (λn=>trivial)
mutual
def zb1:Nat->Int->Ot Int
 |0,_=>none
 |n+1,a=>
  pIf (a==2)
   (z8o n a true)
   (z8o n a (a==3))
def z8o:Nat->Int->Bool->Ot Int
 |0,_,_=>none
 |n+1,a,b=>
  pIf b
   (some 3)
   (pIf (a==4)
     (z8l n true)
     (z8l n (a==6)))
def z8l:Nat->Bool->Ot Int
 |0,_=>none
 |n+1,a=>
  pIf a
   (some 1)
   (some 0)
end
def yqd:LSh:=⟨[(2,dI)],[],0,10,[]⟩
noncomputable def zvm:FI dat:=FI.of dat 96 10 0 [dU] [] [dI] [] true yqd (R:=Int) Prod.fst (·,()) (λn=>u1 (zb1 n))
 (λn=>[(0,⟨⟨[(3,dU),(4,dB)],[],0,10,[]⟩,u2 (z8o n)⟩),(1,⟨⟨[(7,dB)],[],0,10,[]⟩,u1 (z8l n)⟩)]) (anb [(12,0),(22,1)] f96)
theorem y4f:FOk prog zvm:=okF (bs:=[]) trivial func96 ntmps96 call96
 (λ_ _=>tr (zb1.eq_2 ..))
 (λn=>⟨λ_=>tr (z8o.eq_2 ..),
  λ_=>tr (z8l.eq_2 _ n),
  trivial⟩)
mutual
def z5d:Nat->zz4->Ot Bool
 |0,_=>none
 |n+1,a=>
  pIf (decide (a.kind>=1))
   (zzz n (decide (a.kind<=4)) a)
   (zzz n false a)
def zzz:Nat->Bool->zz4->Ot Bool
 |0,_,_=>none
 |n+1,a,b=>
  pIf (b.kind==4)
   (yzz n a 0 true b)
   (yzz n a 0 (b.kind==5) b)
def yzz:Nat->Bool->Int->Bool->zz4->Ot Bool
 |0,_,_,_,_=>none
 |n+1,a,b,c,d=>
  pIf c
   (z00 n a 2 d)
   (z00 n a b d)
def z00:Nat->Bool->Int->zz4->Ot Bool
 |0,_,_,_=>none
 |n+1,a,b,c=>
  pIf (decide (c.kind<1))
   (yzs n a true c)
   (pIf (decide (c.kind>6))
     (yzs n a true c)
     (yzs n a (decide (c.axis>b)) c))
def yzs:Nat->Bool->Bool->zz4->Ot Bool
 |0,_,_,_=>none
 |n+1,a,b,c=>
  pIf b
   (some false)
   ((z2n n c.name).bind λy0=>
   pIf (!(a==y0))
    (zzr n a true c)
    (pIf (!a)
      (zzr n a (!(c.name==[])) c)
      (zzr n a false c)))
def zzr:Nat->Bool->Bool->zz4->Ot Bool
 |0,_,_,_=>none
 |n+1,a,b,c=>
  pIf b
   (some false)
   ((z2k n c.args).bind λy1=>
   (z0i n y1.re).bind λy2=>
   pIf (y2 != 0)
    (kzm n true c)
    ((zb1 n c.kind).bind λy3=>
    pIf (decide ((c.args.length:Int)<y3))
     (kzm n true c)
     (pIf (!a)
       ((zb1 n c.kind).bind λy4=>
       kzm n ((c.args.length:Int) != y4) c)
       (kzm n false c))))
def kzm:Nat->Bool->zz4->Ot Bool
 |0,_,_=>none
 |n+1,a,b=>
  pIf a
   (some false)
   (pIf (!((b.kind==5)==(decide ((b.items.length:Int)>0))))
     (some false)
     (zzs n 0 b.items (b.items.length:Int)))
def zzs:Nat->Int->ztt->Int->Ot Bool
 |0,_,_,_=>none
 |n+1,a,b,c=>
  pIf (decide (a<c))
   ((ix b a).bind λx5=>
   pIf (decide (x5.kind<1))
    (yzi n b c a true)
    (pIf (decide (x5.kind>3))
      (yzi n b c a true)
      ((z2n n x5.name).bind λy6=>
      pIf (!y6)
       (yzi n b c a true)
       (pIf ((x5.args.length:Int)==0)
         (yzi n b c a true)
         ((z2k n x5.args).bind λy7=>
         (z0i n y7.re).bind λy8=>
         yzi n b c a (y8 != 0))))))
   (some true)
def yzi:Nat->ztt->Int->Int->Bool->Ot Bool
 |0,_,_,_,_=>none
 |n+1,a,b,c,d=>
  pIf d
   (some false)
   (zzs n (IntKind.i64.wrap (c+1)) a b)
end
def y2x:LSh:=⟨[(2,dB)],[],0,125,[]⟩
noncomputable def zn5:FI dat:=FI.of dat 92 125 0 [dT 8] [] [dB] [] true y2x (R:=Bool) Prod.fst (·,()) (λn=>u1 (z5d n))
 (λn=>[(0,⟨⟨[(1,(.ptr 0 0)),(3,dB)],[(.st 8)],0,125,[]⟩,u2 (zzz n)⟩),(1,⟨⟨[(1,(.ptr 0 0)),(3,dB),(4,dU),(22,dB)],[(.st 8)],0,125,[]⟩,u4 (yzz n)⟩),(2,⟨⟨[(1,(.ptr 0 0)),(3,dB),(4,dU)],[(.st 8)],0,125,[]⟩,u3 (z00 n)⟩),(3,⟨⟨[(1,(.ptr 0 0)),(3,dB),(23,dB)],[(.st 8)],0,125,[]⟩,u3 (yzs n)⟩),(4,⟨⟨[(1,(.ptr 0 0)),(3,dB),(38,dB)],[(.st 8)],0,125,[]⟩,u3 (zzr n)⟩),(5,⟨⟨[(1,(.ptr 0 0)),(53,dB)],[(.st 8)],0,125,[]⟩,u2 (kzm n)⟩),(6,⟨⟨[(93,dI),(91,dL 7),(92,dI)],[],0,125,[]⟩,u3 (zzs n)⟩),(7,⟨⟨[(91,dL 7),(92,dI),(93,dI),(123,dB)],[],0,125,[]⟩,u4 (yzi n)⟩)]) (anb [(4,0),(9,1),(12,2),(16,3),(22,4),(28,5),(43,6),(56,7)] f92)
theorem y09:FOk prog zn5:=okF (bs:=[zjr,ztd,zf0,zvm]) ⟨zmh,y0y,zg3,y4f,trivial⟩ func92 ntmps92 call92
 (λ_ _=>tr (z5d.eq_2 ..))
 (λn=>⟨λ_=>tr (zzz.eq_2 ..),
  λ_=>tr (yzz.eq_2 ..),
  λ_=>tr (z00.eq_2 ..),
  λ_=>tr (yzs.eq_2 ..),
  λ_=>tr (zzr.eq_2 ..),
  λ_=>tr (kzm.eq_2 ..),
  λ_=>tr (zzs.eq_2 ..),
  λ_=>tr (yzi.eq_2 ..),
  trivial⟩)
mutual
def zam:Nat->yz1->Ot Bool
 |0,_=>none
 |n+1,a=>
  z16 n 0 a.attrs (a.attrs.length:Int) a
def z16:Nat->Int->z02->Int->yz1->Ot Bool
 |0,_,_,_,_=>none
 |n+1,a,b,c,d=>
  pIf (decide (a<c))
   ((ix b a).bind λx0=>
   (z2n n x0.name).bind λy1=>
   pIf (!y1)
    (z30 n b c a true d)
    ((z0i n x0.value.re).bind λy2=>
    z30 n b c a (y2 != 0) d))
   (z17 n 0 d.rules (d.rules.length:Int))
def z30:Nat->z02->Int->Int->Bool->yz1->Ot Bool
 |0,_,_,_,_,_=>none
 |n+1,a,b,c,d,e=>
  pIf d
   (some false)
   (z16 n (IntKind.i64.wrap (c+1)) a b e)
def z17:Nat->Int->yzf->Int->Ot Bool
 |0,_,_,_=>none
 |n+1,a,b,c=>
  pIf (decide (a<c))
   ((ix b a).bind λx3=>
   (z2n n x3.name).bind λy4=>
   pIf (!y4)
    (z2x n b c a true x3)
    ((yzg n x3.params).bind λy5=>
    z2x n b c a y5 x3))
   (some true)
def z2x:Nat->yzf->Int->Int->Bool->yz5->Ot Bool
 |0,_,_,_,_,_=>none
 |n+1,a,b,c,d,e=>
  pIf d
   (some false)
   (z1j n 0 e.cases a b c (e.cases.length:Int))
def z1j:Nat->Int->z1o->yzf->Int->Int->Int->Ot Bool
 |0,_,_,_,_,_,_=>none
 |n+1,a,b,c,d,e,f=>
  pIf (decide (a<f))
   ((ix b a).bind λx6=>
   pIf (decide (x6.weight<1))
    (z1g n b c d e f a true x6.re)
    (pIf (decide (x6.weight>1000000))
      (z1g n b c d e f a true x6.re)
      ((z0i n x6.when_.re).bind λy7=>
      z1g n b c d e f a (y7 != 0) x6.re)))
   (z17 n (IntKind.i64.wrap (e+1)) c d)
def z1g:Nat->z1o->yzf->Int->Int->Int->Int->Bool->zz6->Ot Bool
 |0,_,_,_,_,_,_,_,_=>none
 |n+1,a,b,c,d,e,f,g,h=>
  pIf g
   (some false)
   (z1f n 0 h.do_ a b c d e f (h.do_.length:Int))
def z1f:Nat->Int->zaf->z1o->yzf->Int->Int->Int->Int->Int->Ot Bool
 |0,_,_,_,_,_,_,_,_,_=>none
 |n+1,a,b,c,d,e,f,g,h,i=>
  pIf (decide (a<i))
   ((ix b a).bind λx8=>
   (z5d n x8).bind λy9=>
   pIf (!y9)
    (some false)
    (z1f n (IntKind.i64.wrap (a+1)) b c d e f g h i))
   (z1j n (IntKind.i64.wrap (h+1)) c d e f g)
end
def yd3:LSh:=⟨[(2,dB)],[],0,79,[]⟩
noncomputable def zvd:FI dat:=FI.of dat 33 79 0 [dT 11] [] [dB] [] true yd3 (R:=Bool) Prod.fst (·,()) (λn=>u1 (zam n))
 (λn=>[(0,⟨⟨[(14,dI),(12,dL 6),(1,(.ptr 0 0)),(13,dI)],[(.st 11)],0,79,[]⟩,u4 (z16 n)⟩),(1,⟨⟨[(12,dL 6),(1,(.ptr 0 0)),(13,dI),(14,dI),(27,dB)],[(.st 11)],0,79,[]⟩,u5 (z30 n)⟩),(2,⟨⟨[(32,dI),(30,dL 10),(31,dI)],[],0,79,[]⟩,u3 (z17 n)⟩),(3,⟨⟨[(30,dL 10),(31,dI),(32,dI),(6,(.ptr 0 0)),(44,dB)],[(.st 10)],0,79,[]⟩,u5 (z2x n)⟩),(4,⟨⟨[(48,dI),(46,dL 9),(30,dL 10),(31,dI),(32,dI),(47,dI)],[],0,79,[]⟩,u6 (z1j n)⟩),(5,⟨⟨[(46,dL 9),(30,dL 10),(31,dI),(32,dI),(47,dI),(48,dI),(8,(.ptr 0 0)),(65,dB)],[(.st 9)],0,79,[]⟩,u8 (z1g n)⟩),(6,⟨⟨[(69,dI),(67,dL 8),(46,dL 9),(30,dL 10),(31,dI),(32,dI),(47,dI),(48,dI),(68,dI)],[],0,79,[]⟩,u9 (z1f n)⟩)]) (anb [(6,0),(19,1),(29,2),(43,3),(51,4),(65,5),(73,6)] f33)
theorem y91:FOk prog zvd:=okF (bs:=[zjr,zf0,z9f,zn5]) ⟨zmh,zg3,zg0,y09,trivial⟩ func33 ntmps33 call33
 (λ_ _=>tr (zam.eq_2 ..))
 (λn=>⟨λ_=>tr (z16.eq_2 ..),
  λ_=>tr (z30.eq_2 ..),
  λ_=>tr (z17.eq_2 ..),
  λ_=>tr (z2x.eq_2 ..),
  λ_=>tr (z1j.eq_2 ..),
  λ_=>tr (z1g.eq_2 ..),
  λ_=>tr (z1f.eq_2 ..),
  trivial⟩)
mutual
def yzk:Nat->B8->(List B8)->Ot (Int×(List B8))
 |0,_,_=>none
 |n+1,a,b=>
  zze n 0 a (b.length:Int) b
def zze:Nat->Int->B8->Int->(List B8)->Ot (Int×(List B8))
 |0,_,_,_,_=>none
 |n+1,a,b,c,d=>
  pIf (decide (a<c))
   ((ix d a).bind λx0=>
   pIf (b==x0)
    (some (a,d))
    (zze n (IntKind.i64.wrap (a+1)) b c d))
   (some ((-1),d))
end
def zio:LSh:=⟨[(4,dI)],[(.acc 9 .str true)],1,19,[]⟩
noncomputable def zbs:FI dat:=FI.of dat 35 19 1 [(.own 0),dS] [(.acc 9 .str true)] [dI] [(.acc 9 .str true)] false zio (R:=Int×(List B8)) (λx=>(x.1,x.2.1)) (λr=>(r.1,r.2,())) (λn=>u2 (yzk n))
 (λn=>[(0,⟨⟨[(8,dI),(0,(.own 0)),(1,dS),(7,dI)],[(.acc 9 .str true)],1,19,[]⟩,u4 (zze n)⟩)]) (anb [(6,0)] f35)
theorem zhw:FOk prog zbs:=okF (bs:=[]) trivial func35 ntmps35 call35
 (λ_ _=>tr (yzk.eq_2 ..))
 (λn=>⟨λ_=>tr (zze.eq_2 ..),
  trivial⟩)
def yzh:Nat->B8->(List B8)->Ot (Bool×(List B8))
 |0,_,_=>none
 |n+1,a,b=>
  (yzk n a b).bind λy0=>
  some ((decide (y0.1>=0)),y0.2)
def zgx:LSh:=⟨[(4,dB)],[(.acc 9 .str true)],1,9,[]⟩
noncomputable def z2v:FI dat:=FI.of dat 149 9 1 [(.own 0),dS] [(.acc 9 .str true)] [dB] [(.acc 9 .str true)] false zgx (R:=Bool×(List B8)) (λx=>(x.1,x.2.1)) (λr=>(r.1,r.2,())) (λn=>u2 (yzh n))
 (λn=>[]) (anb [] f149)
theorem zgi:FOk prog z2v:=okF (bs:=[zbs]) ⟨zhw,trivial⟩ func149 ntmps149 call149
 (λ_ _=>tr (yzh.eq_2 ..))
 (λn=>trivial)
mutual
def zbg:Nat->zz1->(List B8)->Ot (List B8)
 |0,_,_=>none
 |n+1,a,b=>
  pIf (a.op==2)
   ((yzh n a.name b).bind λy0=>
   z9q n (!y0.1) y0.2 a.re)
   (z9q n false b a.re)
def z9q:Nat->Bool->(List B8)->zz1->Ot (List B8)
 |0,_,_,_=>none
 |n+1,a,b,c=>
  pIf a
   ((ext b [c.name]).bind λx1=>
   z69 n x1 c.re)
   (z69 n b c.re)
def z69:Nat->(List B8)->zz1->Ot (List B8)
 |0,_,_=>none
 |n+1,a,b=>
  z71 n 0 b.args (b.args.length:Int) a
def z71:Nat->Int->yz6->Int->(List B8)->Ot (List B8)
 |0,_,_,_,_=>none
 |n+1,a,b,c,d=>
  pIf (decide (a<c))
   ((ix b a).bind λx2=>
   (zbg n x2.re d).bind λy3=>
   z71 n (IntKind.i64.wrap (a+1)) b c y3)
   (some d)
end
def ykj:LSh:=⟨[],[(.cells [(.own 1)]),(.acc 9 .str true)],1,38,[]⟩
noncomputable def zig:FI dat:=FI.of dat 153 38 1 [dT 5,(.ptr 0 0)] [(.cells [(.own 1)]),(.acc 9 .str true)] [] [(.cells [(.own 1)]),(.acc 9 .str true)] false ykj (R:=List B8) Prod.fst (·,()) (λn=>u2 (zbg n))
 (λn=>[(0,⟨⟨[(1,(.ptr 0 0)),(2,(.ptr 2 0)),(17,dB)],[(.cells [(.own 1)]),(.acc 9 .str true),(.st 5)],1,38,[]⟩,u3 (z9q n)⟩),(1,⟨⟨[(1,(.ptr 0 0)),(2,(.ptr 2 0))],[(.cells [(.own 1)]),(.acc 9 .str true),(.st 5)],1,38,[]⟩,u2 (z69 n)⟩),(2,⟨⟨[(30,dI),(1,(.ptr 0 0)),(28,dL 5),(29,dI)],[(.cells [(.own 1)]),(.acc 9 .str true)],1,38,[]⟩,u4 (z71 n)⟩)]) (anb [(5,0),(8,1),(11,2)] f153)
noncomputable def ymu:List (FI dat):=[zig]++[z2v]
theorem yka:(zig).Good prog dat (tb ymu):=FI.z0t (hD:=zz8 _) func153 ntmps153 call153 (by kernel_rfl) (Qac (by kernel_rfl)) (by kernel_rfl) (λn=>by kernel_rfl) (λx=>by kernel_rfl) (λ_=>rfl) ⟨λ_=>rfl,λ_=>rfl,λ_=>rfl,trivial⟩
 (λ_ _=>tr (zbg.eq_2 ..))
 (λn=>⟨λ_=>tr (z9q.eq_2 ..),
  λ_=>tr (z69.eq_2 ..),
  λ_=>tr (z71.eq_2 ..),
  trivial⟩)
 (λx=>.inr (by kernel_rfl))
theorem yks:OkL prog [zig]:=z5k (zz8 _) (bs:=[z2v]) ⟨zgi,trivial⟩ ⟨yka,trivial⟩
theorem ygu:FOk prog zig:=yks.1
def zdl:Nat->zz1->Ot ((List B8)×Int)
 |0,_=>none
 |n+1,a=>
  (z0i n a.re).bind λy0=>
  pIf (y0 != 0)
   (some ([],y0))
   ((zbg n a.re []).bind λy1=>
   (kze n y1).bind λy2=>
   some (y2,0))
def ylz:LSh:=⟨[(2,dA),(3,dI)],[],0,16,[]⟩
noncomputable def y4n:FI dat:=FI.of dat 93 16 0 [dT 5] [] [dA,dI] [] true ylz (R:=(List B8)×Int) (λx=>(x.1,x.2.1)) (λr=>(r.1,r.2,())) (λn=>u1 (zdl n))
 (λn=>[]) (anb [] f93)
theorem yi4:FOk prog y4n:=okF (bs:=[zig,z0u,zf0]) ⟨ygu,z8k,zg3,trivial⟩ func93 ntmps93 call93
 (λ_ _=>tr (zdl.eq_2 ..))
 (λn=>trivial)
def zal:Nat->B8->(List B8)->(List Bool)->Ot (Bool×(List B8)×(List Bool))
 |0,_,_,_=>none
 |n+1,a,b,c=>
  some ((!(Option.getD (z8a (List.zip b c) a) false)),(mks (List.zip b c)),(mvs (List.zip b c)))
def ycj:LSh:=⟨[(3,dB)],[(.cells [(.map 1)]),(.mp 76 .bool)],2,8,[]⟩
noncomputable def zwj:FI dat:=FI.of dat 94 8 2 [dS,(.ptr 0 0)] [(.cells [(.map 1)]),(.mp 76 .bool)] [dB] [(.cells [(.map 1)]),(.mp 76 .bool)] false ycj (R:=Bool×(List B8)×(List Bool)) (λx=>(x.1,x.2.1,x.2.2.1)) (λr=>(r.1,r.2.1,r.2.2,())) (λn=>u3 (zal n))
 (λn=>[]) (anb [] f94)
theorem y9j:FOk prog zwj:=okF (bs:=[]) trivial func94 ntmps94 call94
 (λn=>λ_=>tr (zal.eq_2 _ _ _ n))
 (λn=>trivial)
mutual
def zzm:Nat->(List B8)->(List B8)->(List Bool)->Ot (Int×(List B8)×(List Bool))
 |0,_,_,_=>none
 |n+1,a,b,c=>
  zza n 0 a (a.length:Int) (mks (List.zip b c)) (mvs (List.zip b c))
def zza:Nat->Int->(List B8)->Int->(List B8)->(List Bool)->Ot (Int×(List B8)×(List Bool))
 |0,_,_,_,_,_=>none
 |n+1,a,b,c,d,e=>
  pIf (decide (a<c))
   ((ix b a).bind λx0=>
   (zal n x0 (mks (List.zip d e)) (mvs (List.zip d e))).bind λy1=>
   pIf y1.1
    (some (a,(mks (List.zip y1.2.1 y1.2.2)),(mvs (List.zip y1.2.1 y1.2.2))))
    (zza n (IntKind.i64.wrap (a+1)) b c (mks (List.zip y1.2.1 y1.2.2)) (mvs (List.zip y1.2.1 y1.2.2))))
   (some ((-1),(mks (List.zip d e)),(mvs (List.zip d e))))
end
def zg2:LSh:=⟨[(4,dI)],[(.cells [(.map 1)]),(.mp 76 .bool)],2,19,[]⟩
noncomputable def z9h:FI dat:=FI.of dat 152 19 2 [dA,(.fn 94 [] [(.ptr 0 0)])] [(.cells [(.map 1)]),(.mp 76 .bool)] [dI] [(.cells [(.map 1)]),(.mp 76 .bool)] false zg2 (R:=Int×(List B8)×(List Bool)) (λx=>(x.1,x.2.1,x.2.2.1)) (λr=>(r.1,r.2.1,r.2.2,())) (λn=>u3 (zzm n))
 (λn=>[(0,⟨⟨[(8,dI),(0,dA),(1,(.fn 94 [] [(.ptr 0 0)])),(7,dI)],[(.cells [(.map 1)]),(.mp 76 .bool)],2,19,[]⟩,u5 (zza n)⟩)]) (anb [(6,0)] f152)
theorem zfr:FOk prog z9h:=okF (bs:=[zwj]) ⟨y9j,trivial⟩ func152 ntmps152 call152
 (λ_ _=>tr (zzm.eq_2 ..))
 (λn=>⟨λ_=>tr (zza.eq_2 ..),
  trivial⟩)
def zzf:Nat->(List B8)->(List B8)->(List Bool)->Ot (Bool×(List B8)×(List Bool))
 |0,_,_,_=>none
 |n+1,a,b,c=>
  (zzm n a (mks (List.zip b c)) (mvs (List.zip b c))).bind λy0=>
  some ((decide (y0.1>=0)),(mks (List.zip y0.2.1 y0.2.2)),(mvs (List.zip y0.2.1 y0.2.2)))
def zew:LSh:=⟨[(4,dB)],[(.cells [(.map 1)]),(.mp 76 .bool)],2,9,[]⟩
noncomputable def z7u:FI dat:=FI.of dat 90 9 2 [dA,(.fn 94 [] [(.ptr 0 0)])] [(.cells [(.map 1)]),(.mp 76 .bool)] [dB] [(.cells [(.map 1)]),(.mp 76 .bool)] false zew (R:=Bool×(List B8)×(List Bool)) (λx=>(x.1,x.2.1,x.2.2.1)) (λr=>(r.1,r.2.1,r.2.2,())) (λn=>u3 (zzf n))
 (λn=>[]) (anb [] f90)
theorem zeb:FOk prog z7u:=okF (bs:=[z9h]) ⟨zfr,trivial⟩ func90 ntmps90 call90
 (λ_ _=>tr (zzf.eq_2 ..))
 (λn=>trivial)
def zbn:Nat->zz1->(List B8)->(List Bool)->Ot (Bool×(List B8)×(List Bool))
 |0,_,_,_=>none
 |n+1,a,b,c=>
  (zdl n a.re).bind λy0=>
  (zzf n y0.1 (mks (List.zip b c)) (mvs (List.zip b c))).bind λy1=>
  some (y1.1,(mks (List.zip y1.2.1 y1.2.2)),(mvs (List.zip y1.2.1 y1.2.2)))
def ykr:LSh:=⟨[(4,dB)],[(.mp 76 .bool)],1,15,[]⟩
noncomputable def zu6:FI dat:=FI.of dat 34 15 1 [dT 5,(.map 0)] [(.mp 76 .bool)] [dB] [(.mp 76 .bool)] false ykr (R:=Bool×(List B8)×(List Bool)) (λx=>(x.1,x.2.1,x.2.2.1)) (λr=>(r.1,r.2.1,r.2.2,())) (λn=>u3 (zbn n))
 (λn=>[]) (anb [] f34)
theorem y1b:FOk prog zu6:=okF (bs:=[z7u,y4n]) ⟨zeb,yi4,trivial⟩ func34 ntmps34 call34
 (λ_ _=>tr (zbn.eq_2 ..))
 (λn=>trivial)
mutual
def zci:Nat->yz5->Ot yz6
 |0,_=>none
 |n+1,a=>
  z48 n 0 a.cases (a.cases.length:Int) []
def z48:Nat->Int->z1o->Int->yz6->Ot yz6
 |0,_,_,_,_=>none
 |n+1,a,b,c,d=>
  pIf (decide (a<c))
   ((ix b a).bind λx0=>
   (ext d [x0.when_.re]).bind λx1=>
   z4s n 0 x0.do_ b c a (x0.do_.length:Int) x1)
   (some d)
def z4s:Nat->Int->zaf->z1o->Int->Int->Int->yz6->Ot yz6
 |0,_,_,_,_,_,_,_=>none
 |n+1,a,b,c,d,e,f,g=>
  pIf (decide (a<f))
   ((ix b a).bind λx2=>
   (ext g x2.args).bind λx3=>
   z4o n 0 x2.items b c d e f a (x2.items.length:Int) x3)
   (z48 n (IntKind.i64.wrap (e+1)) c d g)
def z4o:Nat->Int->ztt->zaf->z1o->Int->Int->Int->Int->Int->yz6->Ot yz6
 |0,_,_,_,_,_,_,_,_,_,_=>none
 |n+1,a,b,c,d,e,f,g,h,i,j=>
  pIf (decide (a<i))
   ((ix b a).bind λx4=>
   (ext j x4.args).bind λx5=>
   z4o n (IntKind.i64.wrap (a+1)) b c d e f g h i x5)
   (z4s n (IntKind.i64.wrap (h+1)) c d e f g j)
end
def yhl:LSh:=⟨[(2,dL 5)],[],0,48,[]⟩
noncomputable def y0o:FI dat:=FI.of dat 37 48 0 [dT 10] [] [dL 5] [] true yhl (R:=yz6) Prod.fst (·,()) (λn=>u1 (zci n))
 (λn=>[(0,⟨⟨[(13,dI),(3,(.own 0)),(11,dL 9),(12,dI)],[(.acc 29 (.st 5) true)],0,48,[]⟩,u4 (z48 n)⟩),(1,⟨⟨[(25,dI),(3,(.own 0)),(23,dL 8),(11,dL 9),(12,dI),(13,dI),(24,dI)],[(.acc 29 (.st 5) true)],0,48,[]⟩,u7 (z4s n)⟩),(2,⟨⟨[(36,dI),(3,(.own 0)),(34,dL 7),(23,dL 8),(11,dL 9),(12,dI),(13,dI),(24,dI),(25,dI),(35,dI)],[(.acc 29 (.st 5) true)],0,48,[]⟩,u10 (z4o n)⟩)]) (anb [(8,0),(24,1),(40,2)] f37)
theorem ydq:FOk prog y0o:=okF (bs:=[]) trivial func37 ntmps37 call37
 (λ_ _=>tr (zci.eq_2 ..))
 (λn=>⟨λ_=>tr (z48.eq_2 ..),
  λ_=>tr (z4s.eq_2 ..),
  λ_=>tr (z4o.eq_2 ..),
  trivial⟩)
def z9n:Nat->zz1->(List B8)->(List Bool)->Ot (Bool×(List B8)×(List Bool))
 |0,_,_,_=>none
 |n+1,a,b,c=>
  (zbn n a.re (mks (List.zip b c)) (mvs (List.zip b c))).bind λy0=>
  some (y0.1,(mks (List.zip y0.2.1 y0.2.2)),(mvs (List.zip y0.2.1 y0.2.2)))
def y9s:LSh:=⟨[(3,dB)],[(.cells [(.map 1)]),(.mp 76 .bool)],2,7,[]⟩
noncomputable def zug:FI dat:=FI.of dat 38 7 2 [dT 5,(.ptr 0 0)] [(.cells [(.map 1)]),(.mp 76 .bool)] [dB] [(.cells [(.map 1)]),(.mp 76 .bool)] false y9s (R:=Bool×(List B8)×(List Bool)) (λx=>(x.1,x.2.1,x.2.2.1)) (λr=>(r.1,r.2.1,r.2.2,())) (λn=>u3 (z9n n))
 (λn=>[]) (anb [] f38)
theorem y65:FOk prog zug:=okF (bs:=[zu6]) ⟨y1b,trivial⟩ func38 ntmps38 call38
 (λ_ _=>tr (z9n.eq_2 ..))
 (λn=>trivial)
mutual
def kzj:Nat->yz6->(List B8)->(List Bool)->Ot (Int×(List B8)×(List Bool))
 |0,_,_,_=>none
 |n+1,a,b,c=>
  yz8 n 0 a (a.length:Int) (mks (List.zip b c)) (mvs (List.zip b c))
def yz8:Nat->Int->yz6->Int->(List B8)->(List Bool)->Ot (Int×(List B8)×(List Bool))
 |0,_,_,_,_,_=>none
 |n+1,a,b,c,d,e=>
  pIf (decide (a<c))
   ((ix b a).bind λx0=>
   (z9n n x0.re (mks (List.zip d e)) (mvs (List.zip d e))).bind λy1=>
   pIf y1.1
    (some (a,(mks (List.zip y1.2.1 y1.2.2)),(mvs (List.zip y1.2.1 y1.2.2))))
    (yz8 n (IntKind.i64.wrap (a+1)) b c (mks (List.zip y1.2.1 y1.2.2)) (mvs (List.zip y1.2.1 y1.2.2))))
   (some ((-1),(mks (List.zip d e)),(mvs (List.zip d e))))
end
def zfy:LSh:=⟨[(4,dI)],[(.cells [(.map 1)]),(.mp 76 .bool)],2,19,[]⟩
noncomputable def z90:FI dat:=FI.of dat 95 19 2 [dL 5,(.fn 38 [] [(.ptr 0 0)])] [(.cells [(.map 1)]),(.mp 76 .bool)] [dI] [(.cells [(.map 1)]),(.mp 76 .bool)] false zfy (R:=Int×(List B8)×(List Bool)) (λx=>(x.1,x.2.1,x.2.2.1)) (λr=>(r.1,r.2.1,r.2.2,())) (λn=>u3 (kzj n))
 (λn=>[(0,⟨⟨[(8,dI),(0,dL 5),(1,(.fn 38 [] [(.ptr 0 0)])),(7,dI)],[(.cells [(.map 1)]),(.mp 76 .bool)],2,19,[]⟩,u5 (yz8 n)⟩)]) (anb [(6,0)] f95)
theorem zfj:FOk prog z90:=okF (bs:=[zug]) ⟨y65,trivial⟩ func95 ntmps95 call95
 (λ_ _=>tr (kzj.eq_2 ..))
 (λn=>⟨λ_=>tr (yz8.eq_2 ..),
  trivial⟩)
def yzd:Nat->yz6->(List B8)->(List Bool)->Ot (Bool×(List B8)×(List Bool))
 |0,_,_,_=>none
 |n+1,a,b,c=>
  (kzj n a (mks (List.zip b c)) (mvs (List.zip b c))).bind λy0=>
  some ((decide (y0.1>=0)),(mks (List.zip y0.2.1 y0.2.2)),(mvs (List.zip y0.2.1 y0.2.2)))
def zef:LSh:=⟨[(4,dB)],[(.cells [(.map 1)]),(.mp 76 .bool)],2,9,[]⟩
noncomputable def z7d:FI dat:=FI.of dat 36 9 2 [dL 5,(.fn 38 [] [(.ptr 0 0)])] [(.cells [(.map 1)]),(.mp 76 .bool)] [dB] [(.cells [(.map 1)]),(.mp 76 .bool)] false zef (R:=Bool×(List B8)×(List Bool)) (λx=>(x.1,x.2.1,x.2.2.1)) (λr=>(r.1,r.2.1,r.2.2,())) (λn=>u3 (yzd n))
 (λn=>[]) (anb [] f36)
theorem zdy:FOk prog z7d:=okF (bs:=[z90]) ⟨zfj,trivial⟩ func36 ntmps36 call36
 (λ_ _=>tr (yzd.eq_2 ..))
 (λn=>trivial)
mutual
def z88:Nat->yz5->Ot z86
 |0,_=>none
 |n+1,a=>
  z4j n 0 a.cases (a.cases.length:Int) []
def z4j:Nat->Int->z1o->Int->z86->Ot z86
 |0,_,_,_,_=>none
 |n+1,a,b,c,d=>
  pIf (decide (a<c))
   ((ix b a).bind λx0=>
   z2b n 0 x0.do_ b c a (x0.do_.length:Int) d)
   (some d)
def z2b:Nat->Int->zaf->z1o->Int->Int->Int->z86->Ot z86
 |0,_,_,_,_,_,_,_=>none
 |n+1,a,b,c,d,e,f,g=>
  pIf (decide (a<f))
   ((ix b a).bind λx1=>
   pIf (!(x1.name==[]))
    ((zb1 n x1.kind).bind λy2=>
    (ext g [(kzs.mk x1.name (IntKind.i64.wrap ((x1.args.length:Int)-y2)))]).bind λx3=>
    z4i n b c d e f a x3 x1)
    (z4i n b c d e f a g x1))
   (z4j n (IntKind.i64.wrap (e+1)) c d g)
def z4i:Nat->zaf->z1o->Int->Int->Int->Int->z86->zz4->Ot z86
 |0,_,_,_,_,_,_,_,_=>none
 |n+1,a,b,c,d,e,f,g,h=>
  z4l n 0 h.items a b c d e f (h.items.length:Int) g
def z4l:Nat->Int->ztt->zaf->z1o->Int->Int->Int->Int->Int->z86->Ot z86
 |0,_,_,_,_,_,_,_,_,_,_=>none
 |n+1,a,b,c,d,e,f,g,h,i,j=>
  pIf (decide (a<i))
   ((ix b a).bind λx4=>
   (ext j [(kzs.mk x4.name (IntKind.i64.wrap ((x4.args.length:Int)-1)))]).bind λx5=>
   z4l n (IntKind.i64.wrap (a+1)) b c d e f g h i x5)
   (z2b n (IntKind.i64.wrap (h+1)) c d e f g j)
end
def yi7:LSh:=⟨[(2,dL 12)],[],0,61,[]⟩
noncomputable def zjf:FI dat:=FI.of dat 39 61 0 [dT 10] [] [dL 12] [] true yi7 (R:=z86) Prod.fst (·,()) (λn=>u1 (z88 n))
 (λn=>[(0,⟨⟨[(3,(.own 0)),(13,dI),(11,dL 9),(12,dI)],[(.acc 86 (.st 12) true)],0,61,[]⟩,u4 (z4j n)⟩),(1,⟨⟨[(20,dI),(3,(.own 0)),(18,dL 8),(11,dL 9),(12,dI),(13,dI),(19,dI)],[(.acc 86 (.st 12) true)],0,61,[]⟩,u7 (z2b n)⟩),(2,⟨⟨[(3,(.own 0)),(18,dL 8),(11,dL 9),(12,dI),(13,dI),(19,dI),(20,dI),(7,(.ptr 1 0))],[(.acc 86 (.st 12) true),(.st 8)],0,61,[]⟩,u8 (z4i n)⟩),(3,⟨⟨[(43,dI),(3,(.own 0)),(41,dL 7),(18,dL 8),(11,dL 9),(12,dI),(13,dI),(19,dI),(20,dI),(42,dI)],[(.acc 86 (.st 12) true)],0,61,[]⟩,u10 (z4l n)⟩)]) (anb [(8,0),(22,1),(39,2),(42,3)] f39)
theorem znf:FOk prog zjf:=okF (bs:=[zvm]) ⟨y4f,trivial⟩ func39 ntmps39 call39
 (λ_ _=>tr (z88.eq_2 ..))
 (λn=>⟨λ_=>tr (z4j.eq_2 ..),
  λ_=>tr (z2b.eq_2 ..),
  λ_=>tr (z4i.eq_2 ..),
  λ_=>tr (z4l.eq_2 ..),
  trivial⟩)
mutual
noncomputable def z54:Nat->yz1->Ot Int
 |0,_=>none
 |n+1,a=>
  (zdm n a).bind λy0=>
  pIf y0
   (some 4)
   ((zam n a).bind λy1=>
   pIf (!y1)
    (some 8)
    (z42 n 0 false a.attrs (a.attrs.length:Int) [] [] [] [] a))
noncomputable def z42:Nat->Int->Bool->z02->Int->(List B8)->(List Bool)->(List B8)->(List Int)->yz1->Ot Int
 |0,_,_,_,_,_,_,_,_,_=>none
 |n+1,a,b,c,d,e,f,g,h,i=>
  pIf (decide (a<d))
   ((ix c a).bind λx2=>
   pIf b
    (z3x n true c d a (mks (List.zip e f)) (mvs (List.zip e f)) (mks (List.zip g h)) (mvs (List.zip g h)) i x2.re)
    ((zbn n x2.value.re (mks (List.zip e f)) (mvs (List.zip e f))).bind λy3=>
    z3x n y3.1 c d a (mks (List.zip y3.2.1 y3.2.2)) (mvs (List.zip y3.2.1 y3.2.2)) (mks (List.zip g h)) (mvs (List.zip g h)) i x2.re))
   (z4q n 0 i.rules b (i.rules.length:Int) (mks (List.zip e f)) (mvs (List.zip e f)) (mks (List.zip g h)) (mvs (List.zip g h)) i)
noncomputable def z3x:Nat->Bool->z02->Int->Int->(List B8)->(List Bool)->(List B8)->(List Int)->yz1->zzi->Ot Int
 |0,_,_,_,_,_,_,_,_,_,_=>none
 |n+1,a,b,c,d,e,f,g,h,i,j=>
  pIf (Option.getD (z8a (List.zip e f) j.name) false)
   (some 14)
   (z42 n (IntKind.i64.wrap (d+1)) a b c (mks (zc5 (List.zip e f) j.name true)) (mvs (zc5 (List.zip e f) j.name true)) (mks (List.zip g h)) (mvs (List.zip g h)) i)
noncomputable def z4q:Nat->Int->yzf->Bool->Int->(List B8)->(List Bool)->(List B8)->(List Int)->yz1->Ot Int
 |0,_,_,_,_,_,_,_,_,_=>none
 |n+1,a,b,c,d,e,f,g,h,i=>
  pIf (decide (a<d))
   ((ix b a).bind λx4=>
   pIf (Option.isSome (z8a (List.zip g h) x4.name))
    (some 14)
    (z4u n 0 x4.params b c d a (x4.params.length:Int) x4 (mks (List.zip e f)) (mvs (List.zip e f)) (mks (zc5 (List.zip g h) x4.name a)) (mvs (zc5 (List.zip g h) x4.name a)) i))
   (z2a n false 0 c (mks (List.zip e f)) (mvs (List.zip e f)) i.rules (i.rules.length:Int) i (mks (List.zip g h)) (mvs (List.zip g h)))
noncomputable def z4u:Nat->Int->(List B8)->yzf->Bool->Int->Int->Int->yz5->(List B8)->(List Bool)->(List B8)->(List Int)->yz1->Ot Int
 |0,_,_,_,_,_,_,_,_,_,_,_,_,_=>none
 |n+1,a,b,c,d,e,f,g,h,i,j,k,l,m=>
  pIf (decide (a<g))
   ((ix b a).bind λx5=>
   pIf (Option.getD (z8a (List.zip i j) x5) false)
    (z4d n b c d e f g a true h (mks (List.zip i j)) (mvs (List.zip i j)) (mks (List.zip k l)) (mvs (List.zip k l)) m)
    ((kz9 n h.params x5).bind λy6=>
    z4d n b c d e f g a (decide (y6<a)) h (mks (List.zip i j)) (mvs (List.zip i j)) (mks (List.zip k l)) (mvs (List.zip k l)) m))
   (z4q n (IntKind.i64.wrap (f+1)) c d e (mks (List.zip i j)) (mvs (List.zip i j)) (mks (List.zip k l)) (mvs (List.zip k l)) m)
noncomputable def z4d:Nat->(List B8)->yzf->Bool->Int->Int->Int->Int->Bool->yz5->(List B8)->(List Bool)->(List B8)->(List Int)->yz1->Ot Int
 |0,_,_,_,_,_,_,_,_,_,_,_,_,_,_=>none
 |n+1,a,b,c,d,e,f,g,h,i,j,k,l,m,o=>
  pIf h
   (some 14)
   (z4u n (IntKind.i64.wrap (g+1)) a b c d e f i (mks (List.zip j k)) (mvs (List.zip j k)) (mks (List.zip l m)) (mvs (List.zip l m)) o)
noncomputable def z2a:Nat->Bool->Int->Bool->(List B8)->(List Bool)->yzf->Int->yz1->(List B8)->(List Int)->Ot Int
 |0,_,_,_,_,_,_,_,_,_,_=>none
 |n+1,a,b,c,d,e,f,g,h,i,j=>
  pIf (decide (b<g))
   ((ix f b).bind λx7=>
   z4y n a (mks (List.zip d e)) (mvs (List.zip d e)) f g b c (mks (List.zip d e)) (mvs (List.zip d e)) h (mks (List.zip i j)) (mvs (List.zip i j)) x7 (mks (zc5 (zc5 (zc5 [] [115,120] true) [115,121] true) [115,122] true)) (mvs (zc5 (zc5 (zc5 [] [115,120] true) [115,121] true) [115,122] true)))
   (pIf c
     (some 6)
     (pIf a
       (some 2)
       (some 0)))
noncomputable def z4y:Nat->Bool->(List B8)->(List Bool)->yzf->Int->Int->Bool->(List B8)->(List Bool)->yz1->(List B8)->(List Int)->yz5->(List B8)->(List Bool)->Ot Int
 |0,_,_,_,_,_,_,_,_,_,_,_,_,_,_,_=>none
 |n+1,a,b,c,d,e,f,g,h,i,j,k,l,m,o,p=>
  y8h (List.zip h i) (λk8 v9 r10=>
   z4y n a (mks (List.zip b c)) (mvs (List.zip b c)) d e f g (mks r10) (mvs r10) j (mks (List.zip k l)) (mvs (List.zip k l)) m (mks (zc5 (List.zip o p) k8 true)) (mvs (zc5 (List.zip o p) k8 true)))
   (z2d n 0 m.params a (mks (List.zip b c)) (mvs (List.zip b c)) d e f g (m.params.length:Int) j (mks (List.zip k l)) (mvs (List.zip k l)) m (mks (List.zip o p)) (mvs (List.zip o p)))
noncomputable def z2d:Nat->Int->(List B8)->Bool->(List B8)->(List Bool)->yzf->Int->Int->Bool->Int->yz1->(List B8)->(List Int)->yz5->(List B8)->(List Bool)->Ot Int
 |0,_,_,_,_,_,_,_,_,_,_,_,_,_,_,_,_=>none
 |n+1,a,b,c,d,e,f,g,h,i,j,k,l,m,o,p,q=>
  pIf (decide (a<j))
   ((ix b a).bind λx11=>
   z2d n (IntKind.i64.wrap (a+1)) b c (mks (List.zip d e)) (mvs (List.zip d e)) f g h i j k (mks (List.zip l m)) (mvs (List.zip l m)) o (mks (zc5 (List.zip p q) x11 true)) (mvs (zc5 (List.zip p q) x11 true)))
   (pIf i
     (z4b n c true (mks (List.zip d e)) (mvs (List.zip d e)) f g h k (mks (List.zip l m)) (mvs (List.zip l m)) o)
     ((zci n o).bind λy12=>
     (yzd n y12 (mks (List.zip p q)) (mvs (List.zip p q))).bind λy13=>
     z4b n c y13.1 (mks (List.zip d e)) (mvs (List.zip d e)) f g h k (mks (List.zip l m)) (mvs (List.zip l m)) o))
noncomputable def z4b:Nat->Bool->Bool->(List B8)->(List Bool)->yzf->Int->Int->yz1->(List B8)->(List Int)->yz5->Ot Int
 |0,_,_,_,_,_,_,_,_,_,_,_=>none
 |n+1,a,b,c,d,e,f,g,h,i,j,k=>
  (z88 n k).bind λy14=>
  z4m n 0 a b y14 (mks (List.zip c d)) (mvs (List.zip c d)) e f g (y14.length:Int) h (mks (List.zip i j)) (mvs (List.zip i j))
noncomputable def z4m:Nat->Int->Bool->Bool->z86->(List B8)->(List Bool)->yzf->Int->Int->Int->yz1->(List B8)->(List Int)->Ot Int
 |0,_,_,_,_,_,_,_,_,_,_,_,_,_=>none
 |n+1,a,b,c,d,e,f,g,h,i,j,k,l,m=>
  pIf (decide (a<j))
   ((ix d a).bind λx15=>
   pIf c
    (z33 n true d (mks (List.zip e f)) (mvs (List.zip e f)) g h i j a (Option.getD (z8a (List.zip l m) x15.name) 0) (Option.isSome (z8a (List.zip l m) x15.name)) b k (mks (List.zip l m)) (mvs (List.zip l m)) x15)
    (z33 n (!(Option.isSome (z8a (List.zip l m) x15.name))) d (mks (List.zip e f)) (mvs (List.zip e f)) g h i j a (Option.getD (z8a (List.zip l m) x15.name) 0) (Option.isSome (z8a (List.zip l m) x15.name)) b k (mks (List.zip l m)) (mvs (List.zip l m)) x15))
   (z2a n b (IntKind.i64.wrap (i+1)) c (mks (List.zip e f)) (mvs (List.zip e f)) g h k (mks (List.zip l m)) (mvs (List.zip l m)))
noncomputable def z33:Nat->Bool->z86->(List B8)->(List Bool)->yzf->Int->Int->Int->Int->Int->Bool->Bool->yz1->(List B8)->(List Int)->kzs->Ot Int
 |0,_,_,_,_,_,_,_,_,_,_,_,_,_,_,_,_=>none
 |n+1,a,b,c,d,e,f,g,h,i,j,k,l,m,o,p,q=>
  pIf l
   (z14 n true a b (mks (List.zip c d)) (mvs (List.zip c d)) e f g h i m (mks (List.zip o p)) (mvs (List.zip o p)))
   (pIf k
     ((ix m.rules j).bind λx16=>
     z14 n (q.many != (x16.params.length:Int)) a b (mks (List.zip c d)) (mvs (List.zip c d)) e f g h i m (mks (List.zip o p)) (mvs (List.zip o p)))
     (z14 n false a b (mks (List.zip c d)) (mvs (List.zip c d)) e f g h i m (mks (List.zip o p)) (mvs (List.zip o p))))
noncomputable def z14:Nat->Bool->Bool->z86->(List B8)->(List Bool)->yzf->Int->Int->Int->Int->yz1->(List B8)->(List Int)->Ot Int
 |0,_,_,_,_,_,_,_,_,_,_,_,_,_=>none
 |n+1,a,b,c,d,e,f,g,h,i,j,k,l,m=>
  z4m n (IntKind.i64.wrap (j+1)) a b c (mks (List.zip d e)) (mvs (List.zip d e)) f g h i k (mks (List.zip l m)) (mvs (List.zip l m))
end
def yhm:LSh:=⟨[(2,dI)],[],0,170,[]⟩
noncomputable def zgg:FI dat:=FI.of dat 10 170 0 [dT 11] [] [dI] [] true yhm (R:=Int) Prod.fst (·,()) (λn=>u1 (z54 n))
 (λn=>[(0,⟨⟨[(35,dI),(3,(.map 0)),(5,dB),(33,dL 6),(4,(.map 1)),(1,(.ptr 2 0)),(34,dI)],[(.mp 76 .bool),(.mp 77 (.int .i64)),(.st 11)],0,170,[]⟩,u9 (z42 n)⟩),(1,⟨⟨[(3,(.map 0)),(5,dB),(33,dL 6),(4,(.map 1)),(1,(.ptr 2 0)),(34,dI),(35,dI),(7,(.ptr 3 0))],[(.mp 76 .bool),(.mp 77 (.int .i64)),(.st 11),(.st 6)],0,170,[]⟩,u10 (z3x n)⟩),(2,⟨⟨[(3,(.map 0)),(57,dI),(4,(.map 1)),(55,dL 10),(1,(.ptr 2 0)),(5,dB),(56,dI)],[(.mp 76 .bool),(.mp 77 (.int .i64)),(.st 11)],0,170,[]⟩,u9 (z4q n)⟩),(3,⟨⟨[(77,dI),(9,(.ptr 0 0)),(3,(.map 1)),(75,dA),(4,(.map 2)),(55,dL 10),(1,(.ptr 3 0)),(5,dB),(56,dI),(57,dI),(76,dI)],[(.st 10),(.mp 76 .bool),(.mp 77 (.int .i64)),(.st 11)],0,170,[]⟩,λx=>z4u n x.1 x.2.1 x.2.2.1 x.2.2.2.1 x.2.2.2.2.1 x.2.2.2.2.2.1 x.2.2.2.2.2.2.1 x.2.2.2.2.2.2.2.1 x.2.2.2.2.2.2.2.2.1 x.2.2.2.2.2.2.2.2.2.1 x.2.2.2.2.2.2.2.2.2.2.1 x.2.2.2.2.2.2.2.2.2.2.2.1 x.2.2.2.2.2.2.2.2.2.2.2.2.1⟩),(4,⟨⟨[(9,(.ptr 0 0)),(3,(.map 1)),(75,dA),(4,(.map 2)),(55,dL 10),(1,(.ptr 3 0)),(5,dB),(56,dI),(57,dI),(76,dI),(77,dI),(92,dB)],[(.st 10),(.mp 76 .bool),(.mp 77 (.int .i64)),(.st 11)],0,170,[]⟩,λx=>z4d n x.1 x.2.1 x.2.2.1 x.2.2.2.1 x.2.2.2.2.1 x.2.2.2.2.2.1 x.2.2.2.2.2.2.1 x.2.2.2.2.2.2.2.1 x.2.2.2.2.2.2.2.2.1 x.2.2.2.2.2.2.2.2.2.1 x.2.2.2.2.2.2.2.2.2.2.1 x.2.2.2.2.2.2.2.2.2.2.2.1 x.2.2.2.2.2.2.2.2.2.2.2.2.1 x.2.2.2.2.2.2.2.2.2.2.2.2.2.1⟩),(5,⟨⟨[(1,(.ptr 0 0)),(14,dB),(4,(.map 1)),(98,dI),(5,dB),(3,(.mc .bool)),(96,dL 10),(97,dI)],[(.st 11),(.mp 77 (.int .i64))],0,170,[]⟩,u10 (z2a n)⟩),(6,⟨⟨[(17,(.ptr 0 0)),(105,(.ptr 1 0)),(1,(.ptr 2 0)),(14,dB),(4,(.map 3)),(3,(.mc .bool)),(96,dL 10),(97,dI),(98,dI),(16,(.ptr 4 0)),(5,dB)],[(.cells [(.map 5)]),(.mit .bool),(.st 11),(.mp 77 (.int .i64)),(.st 10),(.mp 76 .bool)],0,170,[]⟩,λx=>z4y n x.1 x.2.1 x.2.2.1 x.2.2.2.1 x.2.2.2.2.1 x.2.2.2.2.2.1 x.2.2.2.2.2.2.1 x.2.2.2.2.2.2.2.1 x.2.2.2.2.2.2.2.2.1 x.2.2.2.2.2.2.2.2.2.1 x.2.2.2.2.2.2.2.2.2.2.1 x.2.2.2.2.2.2.2.2.2.2.2.1 x.2.2.2.2.2.2.2.2.2.2.2.2.1 x.2.2.2.2.2.2.2.2.2.2.2.2.2.1 x.2.2.2.2.2.2.2.2.2.2.2.2.2.2.1⟩),(7,⟨⟨[(115,dI),(17,(.ptr 0 0)),(113,dA),(1,(.ptr 1 0)),(14,dB),(4,(.map 2)),(3,(.mc .bool)),(96,dL 10),(97,dI),(98,dI),(16,(.ptr 3 0)),(5,dB),(114,dI)],[(.cells [(.map 4)]),(.st 11),(.mp 77 (.int .i64)),(.st 10),(.mp 76 .bool)],0,170,[]⟩,λx=>z2d n x.1 x.2.1 x.2.2.1 x.2.2.2.1 x.2.2.2.2.1 x.2.2.2.2.2.1 x.2.2.2.2.2.2.1 x.2.2.2.2.2.2.2.1 x.2.2.2.2.2.2.2.2.1 x.2.2.2.2.2.2.2.2.2.1 x.2.2.2.2.2.2.2.2.2.2.1 x.2.2.2.2.2.2.2.2.2.2.2.1 x.2.2.2.2.2.2.2.2.2.2.2.2.1 x.2.2.2.2.2.2.2.2.2.2.2.2.2.1 x.2.2.2.2.2.2.2.2.2.2.2.2.2.2.1 x.2.2.2.2.2.2.2.2.2.2.2.2.2.2.2.1⟩),(8,⟨⟨[(1,(.ptr 0 0)),(14,dB),(5,dB),(4,(.map 1)),(3,(.mc .bool)),(96,dL 10),(97,dI),(98,dI),(16,(.ptr 2 0))],[(.st 11),(.mp 77 (.int .i64)),(.st 10)],0,170,[]⟩,u11 (z4b n)⟩),(9,⟨⟨[(132,dI),(1,(.ptr 0 0)),(14,dB),(5,dB),(4,(.map 1)),(130,dL 12),(3,(.mc .bool)),(96,dL 10),(97,dI),(98,dI),(131,dI)],[(.st 11),(.mp 77 (.int .i64))],0,170,[]⟩,λx=>z4m n x.1 x.2.1 x.2.2.1 x.2.2.2.1 x.2.2.2.2.1 x.2.2.2.2.2.1 x.2.2.2.2.2.2.1 x.2.2.2.2.2.2.2.1 x.2.2.2.2.2.2.2.2.1 x.2.2.2.2.2.2.2.2.2.1 x.2.2.2.2.2.2.2.2.2.2.1 x.2.2.2.2.2.2.2.2.2.2.2.1 x.2.2.2.2.2.2.2.2.2.2.2.2.1⟩),(10,⟨⟨[(1,(.ptr 0 0)),(5,dB),(4,(.map 1)),(130,dL 12),(3,(.mc .bool)),(96,dL 10),(97,dI),(98,dI),(131,dI),(132,dI),(23,dI),(22,(.ptr 2 0)),(24,dB),(14,dB)],[(.st 11),(.mp 77 (.int .i64)),(.st 12)],0,170,[]⟩,λx=>z33 n x.1 x.2.1 x.2.2.1 x.2.2.2.1 x.2.2.2.2.1 x.2.2.2.2.2.1 x.2.2.2.2.2.2.1 x.2.2.2.2.2.2.2.1 x.2.2.2.2.2.2.2.2.1 x.2.2.2.2.2.2.2.2.2.1 x.2.2.2.2.2.2.2.2.2.2.1 x.2.2.2.2.2.2.2.2.2.2.2.1 x.2.2.2.2.2.2.2.2.2.2.2.2.1 x.2.2.2.2.2.2.2.2.2.2.2.2.2.1 x.2.2.2.2.2.2.2.2.2.2.2.2.2.2.1 x.2.2.2.2.2.2.2.2.2.2.2.2.2.2.2.1⟩),(11,⟨⟨[(1,(.ptr 0 0)),(14,dB),(5,dB),(4,(.map 1)),(130,dL 12),(3,(.mc .bool)),(96,dL 10),(97,dI),(98,dI),(131,dI),(132,dI)],[(.st 11),(.mp 77 (.int .i64))],0,170,[]⟩,λx=>z14 n x.1 x.2.1 x.2.2.1 x.2.2.2.1 x.2.2.2.2.1 x.2.2.2.2.2.1 x.2.2.2.2.2.2.1 x.2.2.2.2.2.2.2.1 x.2.2.2.2.2.2.2.2.1 x.2.2.2.2.2.2.2.2.2.1 x.2.2.2.2.2.2.2.2.2.2.1 x.2.2.2.2.2.2.2.2.2.2.2.1 x.2.2.2.2.2.2.2.2.2.2.2.2.1⟩)]) (anb [(26,0),(39,1),(53,2),(79,3),(92,4),(105,5),(122,6),(137,7),(152,8),(155,9),(170,10),(171,11)] f10)
theorem zhy:FOk prog zgg:=okF (bs:=[zu6,z7d,y4x,zvd,yzp,y0o,zjf]) ⟨y1b,zdy,yfp,y91,z26,ydq,znf,trivial⟩ func10 ntmps10 call10
 (λn=>λ_=>tr (z54.eq_2 _ n))
 (λn=>⟨λ_=>tr (z42.eq_2 _ _ _ _ _ _ _ _ _ n),
  λ_=>tr (z3x.eq_2 _ _ _ _ _ _ _ _ _ _ n),
  λ_=>tr (z4q.eq_2 _ _ _ _ _ _ _ _ _ n),
  λ_=>tr (z4u.eq_2 _ _ _ _ _ _ _ _ _ _ _ _ _ n),
  λ_=>tr (z4d.eq_2 _ _ _ _ _ _ _ _ _ _ _ _ _ _ n),
  λ_=>tr (z2a.eq_2 _ _ _ _ _ _ _ _ _ _ n),
  λ_=>tr (z4y.eq_2 _ _ _ _ _ _ _ _ _ _ _ _ _ _ _ n),
  λ_=>tr (z2d.eq_2 _ _ _ _ _ _ _ _ _ _ _ _ _ _ _ _ n),
  λ_=>tr (z4b.eq_2 _ _ _ _ _ _ _ _ _ _ _ n),
  λ_=>tr (z4m.eq_2 _ _ _ _ _ _ _ _ _ _ _ _ _ n),
  λ_=>tr (z33.eq_2 _ _ _ _ _ _ _ _ _ _ _ _ _ _ _ _ n),
  λ_=>tr (z14.eq_2 _ _ _ _ _ _ _ _ _ _ _ _ _ n),
  trivial⟩)
def z08:Nat->B8->B8->Ot Bool
 |0,_,_=>none
 |n+1,a,b=>
  pIf (decide ((a.length:Int)>=(b.length:Int)))
   ((sub a (IntKind.i64.wrap ((a.length:Int)-(b.length:Int))) (a.length:Int)).bind λx0=>
   some (x0==b))
   (some false)
def zhn:LSh:=⟨[(4,dB)],[],0,21,[]⟩
noncomputable def z3u:FI dat:=FI.of dat 97 21 0 [dS,dS] [] [dB] [] true zhn (R:=Bool) Prod.fst (·,()) (λn=>u2 (z08 n))
 (λn=>[]) (anb [] f97)
theorem za7:FOk prog z3u:=okF (bs:=[]) trivial func97 ntmps97 call97
 (λn=>λ_=>tr (z08.eq_2 _ _ n))
 (λn=>trivial)
def zej:Nat->B8->B8->Ot Bool
 |0,_,_=>none
 |n+1,a,b=>
  (z08 n a b).bind λy0=>
  some y0
def zym:LSh:=⟨[(4,dB)],[],0,8,[]⟩
noncomputable def zfz:FI dat:=FI.of dat 41 8 0 [dS,dS] [] [dB] [] true zym (R:=Bool) Prod.fst (·,()) (λn=>u2 (zej n))
 (λn=>[]) (anb [] f41)
theorem zwr:FOk prog zfz:=okF (bs:=[z3u]) ⟨za7,trivial⟩ func41 ntmps41 call41
 (λ_ _=>tr (zej.eq_2 ..))
 (λn=>trivial)
mutual
def zba:Nat->yz4->Ot (B8×Int)
 |0,_=>none
 |n+1,a=>
  (z7v n a).bind λy0=>
  pIf (y0 != 0)
   (some ([],y0))
   ((z1d n a.num 10).bind λy1=>
   pIf (a.den != 1)
    ((z1d n a.den 10).bind λy2=>
    (cat [47] y2).bind λx3=>
    (cat y1 x3).bind λx4=>
    z9p n x4)
    (z9p n y1))
def z9p:Nat->B8->Ot (B8×Int)
 |0,_=>none
 |n+1,a=>
  some (a,0)
end
def ykp:LSh:=⟨[(2,dS),(3,dI)],[],0,24,[]⟩
noncomputable def zlc:FI dat:=FI.of dat 254 24 0 [dT 3] [] [dS,dI] [] true ykp (R:=B8×Int) (λx=>(x.1,x.2.1)) (λr=>(r.1,r.2,())) (λn=>u1 (zba n))
 (λn=>[(0,⟨⟨[(5,dS)],[],0,24,[]⟩,u1 (z9p n)⟩)]) (anb [(20,0)] f254)
theorem y0c:FOk prog zlc:=okF (bs:=[zg6,zl9]) ⟨zm8,zxg,trivial⟩ func254 ntmps254 call254
 (λ_ _=>tr (zba.eq_2 ..))
 (λn=>⟨λ_=>tr (z9p.eq_2 _ n),
  trivial⟩)
def kz4:Nat->B8->(List Int)->Ot (Int×(List Int))
 |0,_,_=>none
 |n+1,a,b=>
  (z06 n b).bind λy0=>
  (ext y0 (kzi a)).bind λx1=>
  some ((a.length:Int),x1)
def zk9:LSh:=⟨[(4,dI),(5,.nili)],[(.bld 111 1),(.acc 5 (.int .u8) true)],1,19,[]⟩
noncomputable def kzn:FI dat:=FI.of dat 59 19 1 [(.bp 0),dS] [(.bld 111 1),(.acc 5 (.int .u8) true)] [dI,.nili] [(.bld 111 1),(.acc 5 (.int .u8) true)] false zk9 (R:=Int×(List Int)) (λx=>(x.1,x.2.1)) (λr=>(r.1,r.2,())) (λn=>u2 (kz4 n))
 (λn=>[]) (anb [] f59)
theorem z6w:FOk prog kzn:=okF (bs:=[z3m]) ⟨z8n,trivial⟩ func59 ntmps59 call59
 (λn x=>tr (kz4.eq_2 x.1 x.2.1 n))
 (λn=>trivial)
def kz7:Nat->Int->(List Int)->Ot (List Int)
 |0,_,_=>none
 |n+1,a,b=>
  (z06 n b).bind λy0=>
  (ext y0 [a]).bind λx1=>
  some x1
def zlk:LSh:=⟨[(4,.nili)],[(.bld 111 1),(.acc 5 (.int .u8) true)],1,17,[]⟩
noncomputable def z3n:FI dat:=FI.of dat 255 17 1 [(.bp 0),dU] [(.bld 111 1),(.acc 5 (.int .u8) true)] [.nili] [(.bld 111 1),(.acc 5 (.int .u8) true)] false zlk (R:=List Int) Prod.fst (·,()) (λn=>u2 (kz7 n))
 (λn=>[]) (anb [] f255)
theorem zdg:FOk prog z3n:=okF (bs:=[z3m]) ⟨z8n,trivial⟩ func255 ntmps255 call255
 (λn x=>tr (kz7.eq_2 x.1 x.2.1 n))
 (λn=>trivial)
mutual
def z34:Nat->Int->(List Int)->Ot (List Int)
 |0,_,_=>none
 |n+1,a,b=>
  pIf (decide ((IntKind.u32.wrap a)<=2047))
   ((shr .i32 a 6).bind λx0=>
   (ext b [(bits BinOp.or .u8 192 (IntKind.u8.wrap x0)),(bits BinOp.or .u8 128 (bits BinOp.and .u8 (IntKind.u8.wrap a) 63))]).bind λx1=>
   some x1)
   (pIf (decide ((IntKind.u32.wrap a)<55296))
     (zzk n a (IntKind.u32.wrap a) true b)
     (pIf (decide (57343<(IntKind.u32.wrap a)))
       (zzk n a (IntKind.u32.wrap a) (decide ((IntKind.u32.wrap a)<=65535)) b)
       (zzk n a (IntKind.u32.wrap a) false b)))
def zzk:Nat->Int->Int->Bool->(List Int)->Ot (List Int)
 |0,_,_,_,_=>none
 |n+1,a,b,c,d=>
  pIf c
   ((shr .i32 a 12).bind λx2=>
   (shr .i32 a 6).bind λx3=>
   (ext d [(bits BinOp.or .u8 224 (IntKind.u8.wrap x2)),(bits BinOp.or .u8 128 (bits BinOp.and .u8 (IntKind.u8.wrap x3) 63)),(bits BinOp.or .u8 128 (bits BinOp.and .u8 (IntKind.u8.wrap a) 63))]).bind λx4=>
   some x4)
   (pIf (decide (b>65535))
     (yzt n a (decide (b<=1114111)) d)
     (yzt n a false d))
def yzt:Nat->Int->Bool->(List Int)->Ot (List Int)
 |0,_,_,_=>none
 |n+1,a,b,c=>
  pIf b
   ((shr .i32 a 18).bind λx5=>
   (shr .i32 a 12).bind λx6=>
   (shr .i32 a 6).bind λx7=>
   (ext c [(bits BinOp.or .u8 240 (IntKind.u8.wrap x5)),(bits BinOp.or .u8 128 (bits BinOp.and .u8 (IntKind.u8.wrap x6) 63)),(bits BinOp.or .u8 128 (bits BinOp.and .u8 (IntKind.u8.wrap x7) 63)),(bits BinOp.or .u8 128 (bits BinOp.and .u8 (IntKind.u8.wrap a) 63))]).bind λx8=>
   some x8)
   ((ext c [239,191,189]).bind λx9=>
   some x9)
end
def zh8:LSh:=⟨[(4,(.own 0))],[(.acc 5 (.int .u8) true)],0,78,[]⟩
noncomputable def za8:FI dat:=FI.of dat 289 78 0 [(.own 0),(.d (.int .i32))] [(.acc 5 (.int .u8) true)] [(.own 0)] [(.acc 5 (.int .u8) true)] false zh8 (R:=List Int) Prod.fst (·,()) (λn=>u2 (z34 n))
 (λn=>[(0,⟨⟨[(1,(.d (.int .i32))),(0,(.own 0)),(5,(.d (.int .u32))),(25,dB)],[(.acc 5 (.int .u8) true)],0,78,[]⟩,u4 (zzk n)⟩),(1,⟨⟨[(1,(.d (.int .i32))),(0,(.own 0)),(50,dB)],[(.acc 5 (.int .u8) true)],0,78,[]⟩,u3 (yzt n)⟩)]) (anb [(17,0),(23,1)] f289)
theorem zgu:FOk prog za8:=okF (bs:=[]) trivial func289 ntmps289 call289
 (λ_ _=>tr (z34.eq_2 ..))
 (λn=>⟨λ_=>tr (zzk.eq_2 ..),
  λ_=>tr (yzt.eq_2 _ _ _ n),
  trivial⟩)
def zzx:Nat->Int->(List Int)->Ot (List Int)
 |0,_,_=>none
 |n+1,a,b=>
  pIf (decide ((IntKind.u32.wrap a)<=127))
   ((ext b [(IntKind.u8.wrap a)]).bind λx0=>
   some x0)
   ((z34 n a b).bind λy1=>
   some y1)
def znt:LSh:=⟨[(4,(.own 0))],[(.acc 5 (.int .u8) true)],0,16,[]⟩
noncomputable def zfo:FI dat:=FI.of dat 278 16 0 [(.own 0),(.d (.int .i32))] [(.acc 5 (.int .u8) true)] [(.own 0)] [(.acc 5 (.int .u8) true)] false znt (R:=List Int) Prod.fst (·,()) (λn=>u2 (zzx n))
 (λn=>[]) (anb [] f278)
theorem zme:FOk prog zfo:=okF (bs:=[za8]) ⟨zgu,trivial⟩ func278 ntmps278 call278
 (λ_ _=>tr (zzx.eq_2 ..))
 (λn=>trivial)
def kzp:Nat->Int->(List Int)->Ot (Int×(List Int))
 |0,_,_=>none
 |n+1,a,b=>
  (z06 n b).bind λy0=>
  (zzx n a y0).bind λy1=>
  some ((IntKind.i64.wrap ((y1.length:Int)-(y0.length:Int))),y1)
def zlj:LSh:=⟨[(4,dI),(5,.nili)],[(.bld 111 1),(.acc 5 (.int .u8) true)],1,30,[]⟩
noncomputable def z95:FI dat:=FI.of dat 256 30 1 [(.bp 0),(.d (.int .i32))] [(.bld 111 1),(.acc 5 (.int .u8) true)] [dI,.nili] [(.bld 111 1),(.acc 5 (.int .u8) true)] false zlj (R:=Int×(List Int)) (λx=>(x.1,x.2.1)) (λr=>(r.1,r.2,())) (λn=>u2 (kzp n))
 (λn=>[]) (anb [] f256)
theorem zkh:FOk prog z95:=okF (bs:=[z3m,zfo]) ⟨z8n,zme,trivial⟩ func256 ntmps256 call256
 (λ_ _=>tr (kzp.eq_2 ..))
 (λn=>trivial)
mutual
def z9t:Nat->kz0->(List Int)->Ot (List Int)
 |0,_,_=>none
 |n+1,a,b=>
  pIf (a.kind==1)
   ((zba n a.num).bind λy0=>
   (kz4 n y0.1 b).bind λy1=>
   some y1.2)
   (pIf (a.kind==2)
     (pIf a.truth
       ((kz4 n [116,114,117,101] b).bind λy2=>
       some y2.2)
       ((kz4 n [102,97,108,115,101] b).bind λy3=>
       some y3.2))
     (pIf (a.kind==3)
       ((kz7 n 34 b).bind λy4=>
       z3y n y4 a.str 0)
       (pIf (a.kind==4)
         ((kz7 n 91 b).bind λy5=>
         ze8 n 0 a.list (a.list.length:Int) y5)
         (some b))))
def z3y:Nat->(List Int)->B8->Nat->Ot (List Int)
 |0,_,_,_=>none
 |n+1,a,b,c=>
  pIf (decide (c<b.length))
   (pIf (((zde b c).1:Int)==34)
     (z5b n ((zde b c).1:Int) a b (c+(zde b c).2))
     (pIf (((zde b c).1:Int)==92)
       (z5b n ((zde b c).1:Int) a b (c+(zde b c).2))
       (z45 n ((zde b c).1:Int) a b (c+(zde b c).2))))
   ((kz7 n 34 a).bind λy6=>
   some y6)
def z5b:Nat->Int->(List Int)->B8->Nat->Ot (List Int)
 |0,_,_,_,_=>none
 |n+1,a,b,c,d=>
  (kz7 n 92 b).bind λy10=>
  z45 n a y10 c d
def z45:Nat->Int->(List Int)->B8->Nat->Ot (List Int)
 |0,_,_,_,_=>none
 |n+1,a,b,c,d=>
  (kzp n a b).bind λy11=>
  z3y n y11.2 c d
def ze8:Nat->Int->zzw->Int->(List Int)->Ot (List Int)
 |0,_,_,_,_=>none
 |n+1,a,b,c,d=>
  pIf (decide (a<c))
   ((ix b a).bind λx7=>
   pIf (decide (a>0))
    ((kz4 n [44,32] d).bind λy8=>
    ze5 n b c a y8.2 x7.re)
    (ze5 n b c a d x7.re))
   ((kz7 n 93 d).bind λy9=>
   some y9)
def ze5:Nat->zzw->Int->Int->(List Int)->kz0->Ot (List Int)
 |0,_,_,_,_,_=>none
 |n+1,a,b,c,d,e=>
  (z9t n e.re d).bind λy12=>
  ze8 n (IntKind.i64.wrap (c+1)) a b y12
end
def ygk:LSh:=⟨[],[(.bld 111 1),(.acc 5 (.int .u8) true)],1,75,[]⟩
noncomputable def zg7:FI dat:=FI.of dat 224 75 1 [(.bp 0),dT 4] [(.bld 111 1),(.acc 5 (.int .u8) true)] [] [(.bld 111 1),(.acc 5 (.int .u8) true)] false ygk (R:=List Int) Prod.fst (·,()) (λn=>u2 (z9t n))
 (λn=>[(0,⟨⟨[(0,(.bp 0)),(37,(.ptr 2 0))],[(.bld 111 1),(.acc 5 (.int .u8) true),.siter],1,75,[]⟩,u3 (z3y n)⟩),(1,⟨⟨[(0,(.bp 0)),(37,(.ptr 2 0)),(7,(.d (.int .i32)))],[(.bld 111 1),(.acc 5 (.int .u8) true),.siter],1,75,[]⟩,u4 (z5b n)⟩),(2,⟨⟨[(0,(.bp 0)),(37,(.ptr 2 0)),(7,(.d (.int .i32)))],[(.bld 111 1),(.acc 5 (.int .u8) true),.siter],1,75,[]⟩,u4 (z45 n)⟩),(3,⟨⟨[(60,dI),(0,(.bp 0)),(58,dL 4),(59,dI)],[(.bld 111 1),(.acc 5 (.int .u8) true)],1,75,[]⟩,u4 (ze8 n)⟩),(4,⟨⟨[(0,(.bp 0)),(58,dL 4),(59,dI),(60,dI),(9,(.ptr 2 0))],[(.bld 111 1),(.acc 5 (.int .u8) true),(.st 4)],1,75,[]⟩,u5 (ze5 n)⟩)]) (anb [(28,0),(59,1),(60,2),(73,3),(90,4)] f224)
noncomputable def yfc:List (FI dat):=[zg7]++[kzn,z3n,z95,zlc]
theorem yig:(zg7).Good prog dat (tb yfc):=FI.z0t (hD:=zz8 _) func224 ntmps224 call224 (by kernel_rfl) (Qac (by kernel_rfl)) (by kernel_rfl) (λn=>by kernel_rfl) (λx=>by kernel_rfl) (λ_=>rfl) ⟨λ_=>rfl,λ_=>rfl,λ_=>rfl,λ_=>rfl,λ_=>rfl,trivial⟩
 (λ_ _=>tr (z9t.eq_2 ..))
 (λn=>⟨λ_=>tr (z3y.eq_2 ..),
  λ_=>tr (z5b.eq_2 ..),
  λ_=>tr (z45.eq_2 ..),
  λ_=>tr (ze8.eq_2 ..),
  λ_=>tr (ze5.eq_2 ..),
  trivial⟩)
 (λx=>.inr (by kernel_rfl))
theorem yhf:OkL prog [zg7]:=z5k (zz8 _) (bs:=[kzn,z3n,z95,zlc]) ⟨z6w,zdg,zkh,y0c,trivial⟩ ⟨yig,trivial⟩
theorem ydf:FOk prog zg7:=yhf.1
def kzr:Nat->(List Int)->Ot (Int×(List Int))
 |0,_=>none
 |n+1,a=>
  some ((a.length:Int),a)
def zun:LSh:=⟨[(2,dI)],[(.bld 111 1),(.acc 5 (.int .u8) true)],1,8,[]⟩
noncomputable def za1:FI dat:=FI.of dat 65 8 1 [(.bp 0)] [(.bld 111 1),(.acc 5 (.int .u8) true)] [dI] [(.bld 111 1),(.acc 5 (.int .u8) true)] false zun (R:=Int×(List Int)) (λx=>(x.1,x.2.1)) (λr=>(r.1,r.2,())) (λn=>u1 (kzr n))
 (λn=>[]) (anb [] f65)
theorem zd2:FOk prog za1:=okF (bs:=[]) trivial func65 ntmps65 call65
 (λn=>λ_=>tr (kzr.eq_2 _ n))
 (λn=>trivial)
def zdn:Nat->kz0->Ot (B8×Int)
 |0,_=>none
 |n+1,a=>
  (z7p n a.re).bind λy0=>
  pIf (y0 != 0)
   (some ([],y0))
   ((z9t n a.re []).bind λy1=>
   (kzr n y1).bind λy2=>
   pIf (decide (y2.1>4000))
    (some ([],4))
    ((yzy n y2.2).bind λy3=>
    some (y3,0)))
def yko:LSh:=⟨[(2,dS),(3,dI)],[],0,16,[]⟩
noncomputable def zto:FI dat:=FI.of dat 181 16 0 [dT 4] [] [dS,dI] [] true yko (R:=B8×Int) (λx=>(x.1,x.2.1)) (λr=>(r.1,r.2,())) (λn=>u1 (zdn n))
 (λn=>[]) (anb [] f181)
theorem yf7:FOk prog zto:=okF (bs:=[zg7,za1,z2j,zge]) ⟨ydf,zd2,z5l,zn0,trivial⟩ func181 ntmps181 call181
 (λ_ _=>tr (zdn.eq_2 ..))
 (λn=>trivial)
mutual
def zao:Nat->Int->Ot B8
 |0,_=>none
 |n+1,a=>
  pIf (decide (a<3))
   (z8v n a true)
   (z8v n a (decide (a>10)))
def z8v:Nat->Int->Bool->Ot B8
 |0,_,_=>none
 |n+1,a,b=>
  pIf b
   (some [])
   ((kzb n [43,32,45,32,42,32,47,32,60,32,61,32,97,110,100,32,111,114]).bind λy0=>
   (ix y0 (IntKind.u8.wrap (a-3))).bind λx1=>
   some x1)
end
def ypi:LSh:=⟨[(2,dS)],[],0,14,[]⟩
noncomputable def zjz:FI dat:=FI.of dat 182 14 0 [dU] [] [dS] [] true ypi (R:=B8) Prod.fst (·,()) (λn=>u1 (zao n))
 (λn=>[(0,⟨⟨[(0,dU),(8,dB)],[],0,14,[]⟩,u2 (z8v n)⟩)]) (anb [(5,0)] f182)
theorem y4l:FOk prog zjz:=okF (bs:=[z3f]) ⟨zas,trivial⟩ func182 ntmps182 call182
 (λ_ _=>tr (zao.eq_2 ..))
 (λn=>⟨λ_=>tr (z8v.eq_2 ..),
  trivial⟩)
mutual
def zbf:Nat->zz1->(List Int)->Ot (List Int)
 |0,_,_=>none
 |n+1,a,b=>
  pIf (a.op==1)
   ((zdn n a.value.re).bind λy0=>
   pIf (y0.2==0)
    ((kz4 n y0.1 b).bind λy1=>
    some y1.2)
    (some b))
   (pIf (a.op==2)
     ((kz4 n a.name b).bind λy2=>
     some y2.2)
     ((zao n a.op).bind λy3=>
     pIf (!(y3==[]))
      ((zao n a.op).bind λy4=>
      (cat [32] y4).bind λx5=>
      (cat x5 [32]).bind λx6=>
      z3l n x6 [41] [40] b a.re)
      (pIf (a.op != 18)
        ((kzb n [110,111,116,32,105,102,32,109,105,110,32,109,97,120,32,102,108,111,111,114,32,108,101,110,32,97,116]).bind λy7=>
        (ix y7 (IntKind.u8.wrap (a.op-11))).bind λx8=>
        (cat x8 [40]).bind λx9=>
        z3l n [44,32] [41] x9 b a.re)
        (z3l n [44,32] [93] [91] b a.re))))
def z3l:Nat->B8->B8->B8->(List Int)->zz1->Ot (List Int)
 |0,_,_,_,_,_=>none
 |n+1,a,b,c,d,e=>
  (kz4 n c d).bind λy10=>
  z67 n 0 a e.args b (e.args.length:Int) y10.2
def z67:Nat->Int->B8->yz6->B8->Int->(List Int)->Ot (List Int)
 |0,_,_,_,_,_,_=>none
 |n+1,a,b,c,d,e,f=>
  pIf (decide (a<e))
   ((ix c a).bind λx11=>
   pIf (decide (a>0))
    ((kz4 n b f).bind λy12=>
    z6k n b c d e a y12.2 x11.re)
    (z6k n b c d e a f x11.re))
   ((kz4 n d f).bind λy13=>
   some y13.2)
def z6k:Nat->B8->yz6->B8->Int->Int->(List Int)->zz1->Ot (List Int)
 |0,_,_,_,_,_,_,_=>none
 |n+1,a,b,c,d,e,f,g=>
  (zbf n g.re f).bind λy14=>
  z67 n (IntKind.i64.wrap (e+1)) a b c d y14
end
def yma:LSh:=⟨[],[(.bld 111 1),(.acc 5 (.int .u8) true)],1,78,[]⟩
noncomputable def zhl:FI dat:=FI.of dat 124 78 1 [(.bp 0),dT 5] [(.bld 111 1),(.acc 5 (.int .u8) true)] [] [(.bld 111 1),(.acc 5 (.int .u8) true)] false yma (R:=List Int) Prod.fst (·,()) (λn=>u2 (zbf n))
 (λn=>[(0,⟨⟨[(0,(.bp 0)),(5,dS),(6,dS),(3,(.ptr 2 0)),(4,dS)],[(.bld 111 1),(.acc 5 (.int .u8) true),(.st 5)],1,78,[]⟩,u5 (z3l n)⟩),(1,⟨⟨[(61,dI),(0,(.bp 0)),(5,dS),(59,dL 5),(6,dS),(60,dI)],[(.bld 111 1),(.acc 5 (.int .u8) true)],1,78,[]⟩,u6 (z67 n)⟩),(2,⟨⟨[(0,(.bp 0)),(5,dS),(59,dL 5),(6,dS),(60,dI),(61,dI),(10,(.ptr 2 0))],[(.bld 111 1),(.acc 5 (.int .u8) true),(.st 5)],1,78,[]⟩,u7 (z6k n)⟩)]) (anb [(33,0),(39,1),(56,2)] f124)
noncomputable def yle:List (FI dat):=[zhl]++[kzn,zto,zjz,z3f]
theorem yme:(zhl).Good prog dat (tb yle):=FI.z0t (hD:=zz8 _) func124 ntmps124 call124 (by kernel_rfl) (Qac (by kernel_rfl)) (by kernel_rfl) (λn=>by kernel_rfl) (λx=>by kernel_rfl) (λ_=>rfl) ⟨λ_=>rfl,λ_=>rfl,λ_=>rfl,trivial⟩
 (λ_ _=>tr (zbf.eq_2 ..))
 (λn=>⟨λ_=>tr (z3l.eq_2 ..),
  λ_=>tr (z67.eq_2 ..),
  λ_=>tr (z6k.eq_2 ..),
  trivial⟩)
 (λx=>.inr (by kernel_rfl))
theorem yk3:OkL prog [zhl]:=z5k (zz8 _) (bs:=[kzn,zto,zjz,z3f]) ⟨z6w,yf7,y4l,zas,trivial⟩ ⟨yme,trivial⟩
theorem ygz:FOk prog zhl:=yk3.1
def zf2:Nat->zz1->Ot (B8×Int)
 |0,_=>none
 |n+1,a=>
  (z0i n a.re).bind λy0=>
  pIf (y0 != 0)
   (some ([],y0))
   ((zbf n a.re []).bind λy1=>
   (kzr n y1).bind λy2=>
   pIf (decide (y2.1>4000))
    (some ([],4))
    ((yzy n y2.2).bind λy3=>
    some (y3,0)))
def yph:LSh:=⟨[(2,dS),(3,dI)],[],0,16,[]⟩
noncomputable def y87:FI dat:=FI.of dat 62 16 0 [dT 5] [] [dS,dI] [] true yph (R:=B8×Int) (λx=>(x.1,x.2.1)) (λr=>(r.1,r.2,())) (λn=>u1 (zf2 n))
 (λn=>[]) (anb [] f62)
theorem ymr:FOk prog y87:=okF (bs:=[zhl,za1,z2j,zf0]) ⟨ygz,zd2,z5l,zg3,trivial⟩ func62 ntmps62 call62
 (λ_ _=>tr (zf2.eq_2 ..))
 (λn=>trivial)
mutual
def z07:Nat->zz1->Bool->Ot (B8×Bool)
 |0,_,_=>none
 |n+1,a,b=>
  (zf2 n a.re).bind λy0=>
  pIf b
   (z7c n y0.1 true)
   (z7c n y0.1 (y0.2 != 0))
def z7c:Nat->B8->Bool->Ot (B8×Bool)
 |0,_,_=>none
 |n+1,a,b=>
  some (a,b)
end
def yd7:LSh:=⟨[(3,dS)],[(.cells [dB])],1,17,[]⟩
noncomputable def zmx:FI dat:=FI.of dat 61 17 1 [dT 5,(.ptr 0 0)] [(.cells [dB])] [dS] [(.cells [dB])] false yd7 (R:=B8×Bool) (λx=>(x.1,x.2.1)) (λr=>(r.1,r.2,())) (λn=>u2 (z07 n))
 (λn=>[(0,⟨⟨[(4,dS)],[(.cells [dB])],1,17,[]⟩,u2 (z7c n)⟩)]) (anb [(6,0)] f61)
theorem zum:FOk prog zmx:=okF (bs:=[y87]) ⟨ymr,trivial⟩ func61 ntmps61 call61
 (λ_ _=>tr (z07.eq_2 ..))
 (λn=>⟨λ_=>tr (z7c.eq_2 _ _ n),
  trivial⟩)
def yzq:Nat->(List B8)->(List Int)->Ot (List Int)
 |0,_,_=>none
 |n+1,a,b=>
  (zak n a [32]).bind λy0=>
  (cat y0 [10]).bind λx1=>
  (kz4 n x1 b).bind λy2=>
  some y2.2
def yc6:LSh:=⟨[],[(.bld 111 1),(.acc 5 (.int .u8) true)],1,7,[]⟩
noncomputable def znl:FI dat:=FI.of dat 58 7 1 [dA,(.bp 0)] [(.bld 111 1),(.acc 5 (.int .u8) true)] [] [(.bld 111 1),(.acc 5 (.int .u8) true)] false yc6 (R:=List Int) Prod.fst (·,()) (λn=>u2 (yzq n))
 (λn=>[]) (anb [] f58)
theorem zue:FOk prog znl:=okF (bs:=[kzn,zwy]) ⟨z6w,ya1,trivial⟩ func58 ntmps58 call58
 (λ_ _=>tr (yzq.eq_2 ..))
 (λn=>trivial)
mutual
def z38:Nat->zz4->Bool->(List Int)->Ot (Bool×(List Int))
 |0,_,_,_=>none
 |n+1,a,b,c=>
  (kzb n [99,97,108,108,32,109,111,118,101,32,115,105,122,101,32,116,117,114,110,32,115,112,108,105,116,32,108,101,97,102]).bind λy0=>
  (ix y0 (IntKind.u8.wrap (a.kind-1))).bind λx1=>
  (sub [120,121,122] a.axis (IntKind.u8.wrap (a.axis+1))).bind λx2=>
  pIf (a.kind==6)
   ((ix a.args 0).bind λx3=>
   (z07 n x3.re b).bind λy4=>
   (yzq n [x1,y4.1] c).bind λy5=>
   some (y4.2,y5))
   (pIf (a.kind==5)
     ((yzq n [x1,x2] c).bind λy6=>
     yzv n 0 a.items (a.items.length:Int) b y6)
     (pIf (a.kind==4)
       ((z2k n a.args).bind λy7=>
       (z07 n y7.re b).bind λy8=>
       (yzq n [x1,x2,a.name,y8.1] c).bind λy9=>
       some (y8.2,y9))
       ((z2k n a.args).bind λy10=>
       (z07 n y10.re b).bind λy11=>
       (yzq n [x1,a.name,y11.1] c).bind λy12=>
       some (y11.2,y12))))
def yzv:Nat->Int->ztt->Int->Bool->(List Int)->Ot (Bool×(List Int))
 |0,_,_,_,_,_=>none
 |n+1,a,b,c,d,e=>
  pIf (decide (a<c))
   ((ix b a).bind λx13=>
   (kzb n [102,105,120,101,100,32,115,104,97,114,101,32,114,101,115,116]).bind λy14=>
   (ix y14 (IntKind.u8.wrap (x13.kind-1))).bind λx15=>
   (z2k n x13.args).bind λy16=>
   (z07 n y16.re d).bind λy17=>
   (yzq n [x15,x13.name,y17.1] e).bind λy18=>
   yzv n (IntKind.i64.wrap (a+1)) b c y17.2 y18)
   (some (d,e))
end
def y00:LSh:=⟨[],[(.bld 111 2),(.cells [dB]),(.acc 5 (.int .u8) true)],2,92,[]⟩
noncomputable def zla:FI dat:=FI.of dat 64 92 2 [(.fn 58 [] [(.bp 0)]),(.fn 61 [] [(.ptr 1 0)]),dT 8] [(.bld 111 2),(.cells [dB]),(.acc 5 (.int .u8) true)] [] [(.bld 111 2),(.cells [dB]),(.acc 5 (.int .u8) true)] false y00 (R:=Bool×(List Int)) (λx=>(x.1,x.2.1)) (λr=>(r.1,r.2,())) (λn=>u3 (z38 n))
 (λn=>[(0,⟨⟨[(57,dI),(1,(.fn 61 [] [(.ptr 1 0)])),(0,(.fn 58 [] [(.bp 0)])),(55,dL 7),(56,dI)],[(.bld 111 2),(.cells [dB]),(.acc 5 (.int .u8) true)],2,92,[]⟩,u5 (yzv n)⟩)]) (anb [(21,0)] f64)
theorem zvo:FOk prog zla:=okF (bs:=[zmx,znl,z3f,ztd]) ⟨zum,zue,zas,y0y,trivial⟩ func64 ntmps64 call64
 (λ_ _=>tr (z38.eq_2 ..))
 (λn=>⟨λ_=>tr (yzv.eq_2 ..),
  trivial⟩)
mutual
noncomputable def z7k:Nat->yz1->Ot (B8×Int)
 |0,_=>none
 |n+1,a=>
  (z54 n a).bind λy0=>
  pIf (y0 != 0)
   (some ([],y0))
   (z6g n 0 a.attrs (a.attrs.length:Int) false a [])
noncomputable def z6g:Nat->Int->z02->Int->Bool->yz1->(List Int)->Ot (B8×Int)
 |0,_,_,_,_,_,_=>none
 |n+1,a,b,c,d,e,f=>
  pIf (decide (a<c))
   ((ix b a).bind λx1=>
   (z07 n x1.value.re d).bind λy2=>
   (yzq n [[97,116,116,114],x1.name,y2.1] f).bind λy3=>
   z6g n (IntKind.i64.wrap (a+1)) b c y2.2 e y3)
   (z3e n 0 e.rules (e.rules.length:Int) d f)
noncomputable def z3e:Nat->Int->yzf->Int->Bool->(List Int)->Ot (B8×Int)
 |0,_,_,_,_,_=>none
 |n+1,a,b,c,d,e=>
  pIf (decide (a<c))
   ((ix b a).bind λx4=>
   (ext [[114,117,108,101],x4.name] x4.params).bind λx5=>
   (yzq n x5 e).bind λy6=>
   z6i n 0 x4.cases b c a (x4.cases.length:Int) d y6)
   (pIf d
     (z6o n true e)
     ((kzr n e).bind λy7=>
     z6o n (decide (y7.1>20000)) y7.2))
noncomputable def z6i:Nat->Int->z1o->yzf->Int->Int->Int->Bool->(List Int)->Ot (B8×Int)
 |0,_,_,_,_,_,_,_,_=>none
 |n+1,a,b,c,d,e,f,g,h=>
  pIf (decide (a<f))
   ((ix b a).bind λx8=>
   (zag n x8.weight).bind λy9=>
   (z07 n x8.when_.re g).bind λy10=>
   (yzq n [[99,97,115,101],y9,y10.1] h).bind λy11=>
   z6a n 0 x8.do_ b c d e f a (x8.do_.length:Int) y10.2 y11)
   (z3e n (IntKind.i64.wrap (e+1)) c d g h)
noncomputable def z6a:Nat->Int->zaf->z1o->yzf->Int->Int->Int->Int->Int->Bool->(List Int)->Ot (B8×Int)
 |0,_,_,_,_,_,_,_,_,_,_,_=>none
 |n+1,a,b,c,d,e,f,g,h,i,j,k=>
  pIf (decide (a<i))
   ((ix b a).bind λx13=>
   (z38 n x13 j k).bind λy14=>
   z6a n (IntKind.i64.wrap (a+1)) b c d e f g h i y14.1 y14.2)
   (z6i n (IntKind.i64.wrap (h+1)) c d e f g j k)
noncomputable def z6o:Nat->Bool->(List Int)->Ot (B8×Int)
 |0,_,_=>none
 |n+1,a,b=>
  pIf a
   (some ([],4))
   ((yzy n b).bind λy12=>
   some (y12,0))
end
def ylx:LSh:=⟨[(2,dS),(3,dI)],[],0,93,[]⟩
noncomputable def zi2:FI dat:=FI.of dat 25 93 0 [dT 11] [] [dS,dI] [] true ylx (R:=B8×Int) (λx=>(x.1,x.2.1)) (λr=>(r.1,r.2,())) (λn=>u1 (z7k n))
 (λn=>[(0,⟨⟨[(27,dI),(8,(.fn 61 [] [(.ptr 0 0)])),(6,(.fn 58 [] [(.bp 1)])),(25,dL 6),(5,(.bp 1)),(7,(.ptr 0 0)),(1,(.ptr 2 0)),(26,dI)],[(.cells [dB]),(.bld 111 3),(.st 11),(.acc 5 (.int .u8) true)],0,93,[]⟩,u6 (z6g n)⟩),(1,⟨⟨[(8,(.fn 61 [] [(.ptr 0 0)])),(6,(.fn 58 [] [(.bp 1)])),(44,dI),(42,dL 10),(5,(.bp 1)),(7,(.ptr 0 0)),(43,dI)],[(.cells [dB]),(.bld 111 2),(.acc 5 (.int .u8) true)],0,93,[]⟩,u5 (z3e n)⟩),(2,⟨⟨[(8,(.fn 61 [] [(.ptr 0 0)])),(6,(.fn 58 [] [(.bp 1)])),(59,dI),(57,dL 9),(42,dL 10),(5,(.bp 1)),(7,(.ptr 0 0)),(43,dI),(44,dI),(58,dI)],[(.cells [dB]),(.bld 111 2),(.acc 5 (.int .u8) true)],0,93,[]⟩,u8 (z6i n)⟩),(3,⟨⟨[(76,dI),(8,(.fn 61 [] [(.ptr 0 0)])),(6,(.fn 58 [] [(.bp 1)])),(74,dL 8),(57,dL 9),(42,dL 10),(5,(.bp 1)),(7,(.ptr 0 0)),(43,dI),(44,dI),(58,dI),(59,dI),(75,dI)],[(.cells [dB]),(.bld 111 2),(.acc 5 (.int .u8) true)],0,93,[]⟩,u11 (z6a n)⟩),(4,⟨⟨[(5,(.bp 0)),(91,dB)],[(.bld 111 1),(.acc 5 (.int .u8) true)],0,93,[]⟩,u2 (z6o n)⟩)]) (anb [(24,0),(41,1),(57,2),(73,3),(91,4)] f25)
theorem zpz:FOk prog zi2:=okF (bs:=[zmx,znl,za1,z2j,zla,zgg,zx8]) ⟨zum,zue,zd2,z5l,zvo,zhy,y94,trivial⟩ func25 ntmps25 call25
 (λn=>λ_=>tr (z7k.eq_2 _ n))
 (λn=>⟨λ_=>tr (z6g.eq_2 _ _ _ _ _ _ n),
  λ_=>tr (z3e.eq_2 _ _ _ _ _ n),
  λ_=>tr (z6i.eq_2 _ _ _ _ _ _ _ _ n),
  λ_=>tr (z6a.eq_2 _ _ _ _ _ _ _ _ _ _ _ n),
  λ_=>tr (z6o.eq_2 _ _ n),
  trivial⟩)
def z2t:Nat->B8->B8->Ot B8
 |0,_,_=>none
 |n+1,a,b=>
  (z08 n a b).bind λy0=>
  pIf y0
   ((sub a 0 (IntKind.i64.wrap ((a.length:Int)-(b.length:Int)))).bind λx1=>
   some x1)
   (some a)
def zh9:LSh:=⟨[(4,dS)],[],0,16,[]⟩
noncomputable def za6:FI dat:=FI.of dat 105 16 0 [dS,dS] [] [dS] [] true zh9 (R:=B8) Prod.fst (·,()) (λn=>u2 (z2t n))
 (λn=>[]) (anb [] f105)
theorem zgr:FOk prog za6:=okF (bs:=[z3u]) ⟨za7,trivial⟩ func105 ntmps105 call105
 (λ_ _=>tr (z2t.eq_2 ..))
 (λn=>trivial)
def ze2:Nat->B8->B8->Ot B8
 |0,_,_=>none
 |n+1,a,b=>
  (z2t n a b).bind λy0=>
  some y0
def zx3:LSh:=⟨[(4,dS)],[],0,8,[]⟩
noncomputable def zeq:FI dat:=FI.of dat 44 8 0 [dS,dS] [] [dS] [] true zx3 (R:=B8) Prod.fst (·,()) (λn=>u2 (ze2 n))
 (λn=>[]) (anb [] f44)
theorem zv2:FOk prog zeq:=okF (bs:=[za6]) ⟨zgr,trivial⟩ func44 ntmps44 call44
 (λ_ _=>tr (ze2.eq_2 ..))
 (λn=>trivial)
def z9c:Nat->B8->B8->Ot (B8×B8×Bool)
 |0,_,_=>none
 |n+1,a,b=>
  (z29 n a b).bind λy0=>
  pIf (decide (y0>=0))
   ((sub a 0 y0).bind λx1=>
   (sub a (IntKind.i64.wrap (y0+(b.length:Int))) (a.length:Int)).bind λx2=>
   some (x1,x2,true))
   (some (a,[],false))
def zmn:LSh:=⟨[(4,dS),(5,dS),(6,dB)],[],0,23,[]⟩
noncomputable def zeg:FI dat:=FI.of dat 155 23 0 [dS,dS] [] [dS,dS,dB] [] true zmn (R:=B8×B8×Bool) (λx=>(x.1,x.2.1,x.2.2.1)) (λr=>(r.1,r.2.1,r.2.2,())) (λn=>u2 (z9c n))
 (λn=>[]) (anb [] f155)
theorem zlo:FOk prog zeg:=okF (bs:=[z8q]) ⟨zcr,trivial⟩ func155 ntmps155 call155
 (λ_ _=>tr (z9c.eq_2 ..))
 (λn=>trivial)
def z7w:Nat->B8->B8->Ot (B8×B8×Bool)
 |0,_,_=>none
 |n+1,a,b=>
  (z9c n a b).bind λy0=>
  some (y0.1,y0.2.1,y0.2.2)
def yhp:LSh:=⟨[(4,dS),(5,dS),(6,dB)],[],0,13,[]⟩
noncomputable def zdj:FI dat:=FI.of dat 100 13 0 [dS,dS] [] [dS,dS,dB] [] true yhp (R:=B8×B8×Bool) (λx=>(x.1,x.2.1,x.2.2.1)) (λr=>(r.1,r.2.1,r.2.2,())) (λn=>u2 (z7w n))
 (λn=>[]) (anb [] f100)
theorem zi8:FOk prog zdj:=okF (bs:=[zeg]) ⟨zlo,trivial⟩ func100 ntmps100 call100
 (λ_ _=>tr (z7w.eq_2 ..))
 (λn=>trivial)
def zb9:Nat->Int->Ot (Res (Int×Unit) Unit)
 |0,_=>none
 |n+1,a=>
  pIf (a != 0)
   (some (Res.pan (a,())))
   (some (Res.ok ()))
def yq7:LSh:=⟨[],[],0,6,[]⟩
noncomputable def z7q:FI dat:=FI.ofP dat 244 6 0 [dI] [] [] [] (.iface 31 dI) [] [] yq7 (R:=Unit) (λx=>()) (λ_=>()) (λn=>u1 (zb9 n))
 (λn=>[]) (anb [] f244)
noncomputable def yq5:List (FI dat):=[]
theorem ype:(z7q).Good prog dat (tb yq5):=FI.zxe (hD:=zz8 _) func244 ntmps244 call244 (by kernel_rfl) (Qac (by kernel_rfl)) (by kernel_rfl) (λn=>by kernel_rfl) trivial (λx=>by kernel_rfl) (λ_=>rfl) trivial
 (λn=>λ_=>tr (zb9.eq_2 _ n))
 (λn=>trivial)
 (λx=>by kernel_rfl)
theorem yqo:OkL prog [z7q]:=zq0 (zz8 _) (bs:=[]) trivial ype
theorem zlr:FOk prog z7q:=yqo.1
def z09:Nat->B8->B8->Ot Bool
 |0,_,_=>none
 |n+1,a,b=>
  pIf (decide ((a.length:Int)>=(b.length:Int)))
   ((sub a 0 (b.length:Int)).bind λx0=>
   some (x0==b))
   (some false)
def zi4:LSh:=⟨[(4,dB)],[],0,18,[]⟩
noncomputable def z5a:FI dat:=FI.of dat 292 18 0 [dS,dS] [] [dB] [] true zi4 (R:=Bool) Prod.fst (·,()) (λn=>u2 (z09 n))
 (λn=>[]) (anb [] f292)
theorem za5:FOk prog z5a:=okF (bs:=[]) trivial func292 ntmps292 call292
 (λn=>λ_=>tr (z09.eq_2 _ _ n))
 (λn=>trivial)
def z3p:Nat->B8->B8->Ot (B8×Bool)
 |0,_,_=>none
 |n+1,a,b=>
  (z09 n a b).bind λy0=>
  pIf (!y0)
   (some (a,false))
   ((sub a (b.length:Int) (a.length:Int)).bind λx1=>
   some (x1,true))
def zih:LSh:=⟨[(4,dS),(5,dB)],[],0,15,[]⟩
noncomputable def zb5:FI dat:=FI.of dat 291 15 0 [dS,dS] [] [dS,dB] [] true zih (R:=B8×Bool) (λx=>(x.1,x.2.1)) (λr=>(r.1,r.2,())) (λn=>u2 (z3p n))
 (λn=>[]) (anb [] f291)
theorem zha:FOk prog zb5:=okF (bs:=[z5a]) ⟨za5,trivial⟩ func291 ntmps291 call291
 (λ_ _=>tr (z3p.eq_2 ..))
 (λn=>trivial)
def zau:Nat->B8->B8->Ot (B8×Bool)
 |0,_,_=>none
 |n+1,a,b=>
  (z3p n a b).bind λy0=>
  some (y0.1,y0.2)
def y08:LSh:=⟨[(4,dS),(5,dB)],[],0,11,[]⟩
noncomputable def zfp:FI dat:=FI.of dat 286 11 0 [dS,dS] [] [dS,dB] [] true y08 (R:=B8×Bool) (λx=>(x.1,x.2.1)) (λr=>(r.1,r.2,())) (λn=>u2 (zau n))
 (λn=>[]) (anb [] f286)
theorem zk1:FOk prog zfp:=okF (bs:=[zb5]) ⟨zha,trivial⟩ func286 ntmps286 call286
 (λ_ _=>tr (zau.eq_2 ..))
 (λn=>trivial)
def kzu:Nat->B8->kz2->Ot (Bool×kz2)
 |0,_,_=>none
 |n+1,a,b=>
  (zau n b.s a).bind λy0=>
  some (y0.2,(kz2.mk y0.1))
def y21:LSh:=⟨[(4,dB)],[(.st 15)],1,21,[]⟩
noncomputable def z9v:FI dat:=FI.of dat 269 21 1 [(.ptr 0 0),dS] [(.st 15)] [dB] [(.st 15)] false y21 (R:=Bool×kz2) (λx=>(x.1,x.2.1)) (λr=>(r.1,r.2,())) (λn=>u2 (kzu n))
 (λn=>[]) (anb [] f269)
theorem zl4:FOk prog z9v:=okF (bs:=[zfp]) ⟨zk1,trivial⟩ func269 ntmps269 call269
 (λ_ _=>tr (kzu.eq_2 ..))
 (λn=>trivial)
def z8z:Nat->B8->kz2->Ot (Res (Int×Unit) kz2)
 |0,_,_=>none
 |n+1,a,b=>
  (kzu n a b).bind λy0=>
  pIf (!y0.1)
   ((zb9 n 12).bind λy1=>
   zpx y1 (λr2=>
    some (Res.ok y0.2))
    (λe3=>
    some (Res.pan (e3.1,()))))
   (some (Res.ok y0.2))
def y2o:LSh:=⟨[],[(.st 15)],1,9,[]⟩
noncomputable def z9z:FI dat:=FI.ofP dat 270 9 1 [(.ptr 0 0),dS] [(.st 15)] [] [(.st 15)] (.iface 31 dI) [(.cells [.any])] [] y2o (R:=kz2) Prod.fst (·,()) (λn=>u2 (z8z n))
 (λn=>[]) (anb [] f270)
noncomputable def y30:List (FI dat):=[z9v,z7q]
theorem y2z:(z9z).Good prog dat (tb y30):=FI.zxe (hD:=zz8 _) func270 ntmps270 call270 (by kernel_rfl) (Qac (by kernel_rfl)) (by kernel_rfl) (λn=>by kernel_rfl) trivial (λx=>by kernel_rfl) (λ_=>rfl) trivial
 (λ_ _=>tr (z8z.eq_2 ..))
 (λn=>trivial)
 (λx=>by kernel_rfl)
theorem y2b:OkL prog [z9z]:=zq0 (zz8 _) (bs:=[z9v,z7q]) ⟨zl4,zlr,trivial⟩ y2z
theorem zyr:FOk prog z9z:=y2b.1
def zap:Nat->B8->B8->Ot Bool
 |0,_,_=>none
 |n+1,a,b=>
  (z09 n a b).bind λy0=>
  some y0
def y06:LSh:=⟨[(4,dB)],[],0,8,[]⟩
noncomputable def zbw:FI dat:=FI.of dat 287 8 0 [dS,dS] [] [dB] [] true y06 (R:=Bool) Prod.fst (·,()) (λn=>u2 (zap n))
 (λn=>[]) (anb [] f287)
theorem zkb:FOk prog zbw:=okF (bs:=[z5a]) ⟨za5,trivial⟩ func287 ntmps287 call287
 (λ_ _=>tr (zap.eq_2 ..))
 (λn=>trivial)
def zb2:Nat->B8->Int->Ot Int
 |0,_,_=>none
 |n+1,a,b=>
  (za4 n a b).bind λy0=>
  some y0
def zyn:LSh:=⟨[(4,dI)],[],0,8,[]⟩
noncomputable def z92:FI dat:=FI.of dat 99 8 0 [dS,dU] [] [dI] [] true zyn (R:=Int) Prod.fst (·,()) (λn=>u2 (zb2 n))
 (λn=>[]) (anb [] f99)
theorem zk6:FOk prog z92:=okF (bs:=[zax]) ⟨zh6,trivial⟩ func99 ntmps99 call99
 (λn x=>tr (zb2.eq_2 x.1 x.2.1 n))
 (λn=>trivial)
def kzq:Nat->B8->zz3->Ot (Bool×zz3)
 |0,_,_=>none
 |n+1,a,b=>
  (sub b.s b.at_ (b.s.length:Int)).bind λx0=>
  (zap n x0 a).bind λy1=>
  pIf (!y1)
   (some (false,b))
   (some (true,(zz3.mk b.s (IntKind.i64.wrap (b.at_+(a.length:Int))) b.ok)))
def zyi:LSh:=⟨[(4,dB)],[(.st 16)],1,26,[]⟩
noncomputable def zfs:FI dat:=FI.of dat 294 26 1 [(.ptr 0 0),dS] [(.st 16)] [dB] [(.st 16)] false zyi (R:=Bool×zz3) (λx=>(x.1,x.2.1)) (λr=>(r.1,r.2,())) (λn=>u2 (kzq n))
 (λn=>[]) (anb [] f294)
theorem zxh:FOk prog zfs:=okF (bs:=[zbw]) ⟨zkb,trivial⟩ func294 ntmps294 call294
 (λ_ _=>tr (kzq.eq_2 ..))
 (λn=>trivial)
mutual
def zcu:Nat->zz3->Ot (B8×zz3)
 |0,_=>none
 |n+1,a=>
  z5m n a []
def z5m:Nat->zz3->(List Int)->Ot (B8×zz3)
 |0,_,_=>none
 |n+1,a,b=>
  pIf (decide (a.at_<(a.s.length:Int)))
   ((ix a.s a.at_).bind λx0=>
   pIf ((x0.toNat:Int)==34)
    ((yzy n b).bind λy1=>
    some (y1,(zz3.mk a.s (IntKind.i64.wrap (a.at_+1)) a.ok)))
    (pIf ((x0.toNat:Int)==92)
      (pIf ((IntKind.i64.wrap (a.at_+1))==(a.s.length:Int))
        (z1s n true (zz3.mk a.s (IntKind.i64.wrap (a.at_+1)) a.ok) b)
        ((ix a.s (IntKind.i64.wrap (a.at_+1))).bind λx2=>
        pIf ((x2.toNat:Int) != 34)
         ((ix a.s (IntKind.i64.wrap (a.at_+1))).bind λx3=>
         z1s n ((x3.toNat:Int) != 92) (zz3.mk a.s (IntKind.i64.wrap (a.at_+1)) a.ok) b)
         (z1s n false (zz3.mk a.s (IntKind.i64.wrap (a.at_+1)) a.ok) b)))
      (z5j n (x0.toNat:Int) (zz3.mk a.s (IntKind.i64.wrap (a.at_+1)) a.ok) b)))
   (z5r n a)
def z1s:Nat->Bool->zz3->(List Int)->Ot (B8×zz3)
 |0,_,_,_=>none
 |n+1,a,b,c=>
  pIf a
   (z5r n b)
   ((ix b.s b.at_).bind λx4=>
   z5j n (x4.toNat:Int) (zz3.mk b.s (IntKind.i64.wrap (b.at_+1)) b.ok) c)
def z5j:Nat->Int->zz3->(List Int)->Ot (B8×zz3)
 |0,_,_,_=>none
 |n+1,a,b,c=>
  (kz7 n a c).bind λy5=>
  z5m n b y5
def z5r:Nat->zz3->Ot (B8×zz3)
 |0,_=>none
 |n+1,a=>
  some ([],(zz3.mk a.s a.at_ false))
end
def zv0:LSh:=⟨[(2,dS)],[(.st 16)],1,91,[]⟩
noncomputable def ze1:FI dat:=FI.of dat 295 91 1 [(.ptr 0 0)] [(.st 16)] [dS] [(.st 16)] false zv0 (R:=B8×zz3) (λx=>(x.1,x.2.1)) (λr=>(r.1,r.2,())) (λn=>u1 (zcu n))
 (λn=>[(0,⟨⟨[(3,(.bp 1)),(0,(.ptr 0 0))],[(.st 16),(.bld 111 2),(.acc 5 (.int .u8) true)],1,91,[]⟩,u2 (z5m n)⟩),(1,⟨⟨[(0,(.ptr 0 0)),(3,(.bp 1)),(69,dB)],[(.st 16),(.bld 111 2),(.acc 5 (.int .u8) true)],1,91,[]⟩,u3 (z1s n)⟩),(2,⟨⟨[(3,(.bp 1)),(0,(.ptr 0 0)),(4,dU)],[(.st 16),(.bld 111 2),(.acc 5 (.int .u8) true)],1,91,[]⟩,u3 (z5j n)⟩),(3,⟨⟨[(0,(.ptr 0 0))],[(.st 16)],1,91,[]⟩,u1 (z5r n)⟩)]) (anb [(6,0),(33,1),(40,2),(41,3)] f295)
theorem zu1:FOk prog ze1:=okF (bs:=[z2j,z3n]) ⟨z5l,zdg,trivial⟩ func295 ntmps295 call295
 (λ_ _=>tr (zcu.eq_2 ..))
 (λn=>⟨λ_=>tr (z5m.eq_2 ..),
  λ_=>tr (z1s.eq_2 ..),
  λ_=>tr (z5j.eq_2 ..),
  λ_=>tr (z5r.eq_2 _ n),
  trivial⟩)
mutual
def zgm:Nat->B8->Ot (Int×Bool)
 |0,_=>none
 |n+1,a=>
  pIf ((a.length:Int)==0)
   (z6q n a true)
   (pIf (decide ((a.length:Int)>10))
     (z6q n a true)
     ((ix a 0).bind λx0=>
     pIf ((x0.toNat:Int)==48)
      (z6q n a (decide ((a.length:Int)>1)))
      (z6q n a false)))
def z6q:Nat->B8->Bool->Ot (Int×Bool)
 |0,_,_=>none
 |n+1,a,b=>
  pIf b
   (some (0,false))
   (zd0 n 0 a 0)
def zd0:Nat->Int->B8->Nat->Ot (Int×Bool)
 |0,_,_,_=>none
 |n+1,a,b,c=>
  pIf (decide (c<b.length))
   (pIf (decide (((zde b c).1:Int)<48))
     (zcz n ((zde b c).1:Int) a true b (c+(zde b c).2))
     (zcz n ((zde b c).1:Int) a (decide (((zde b c).1:Int)>57)) b (c+(zde b c).2)))
   (some (a,true))
def zcz:Nat->Int->Int->Bool->B8->Nat->Ot (Int×Bool)
 |0,_,_,_,_,_=>none
 |n+1,a,b,c,d,e=>
  pIf c
   (some (0,false))
   (zd0 n (IntKind.i64.wrap ((IntKind.i64.wrap (10 * b))+(IntKind.i64.wrap (IntKind.i32.wrap (a-48))))) d e)
end
def ycy:LSh:=⟨[(2,dI),(3,dB)],[],0,43,[]⟩
noncomputable def zvj:FI dat:=FI.of dat 297 43 0 [dS] [] [dI,dB] [] true ycy (R:=Int×Bool) (λx=>(x.1,x.2.1)) (λr=>(r.1,r.2,())) (λn=>u1 (zgm n))
 (λn=>[(0,⟨⟨[(0,dS),(24,dB)],[],0,43,[]⟩,u2 (z6q n)⟩),(1,⟨⟨[(4,dI),(26,(.ptr 0 0))],[.siter],0,43,[]⟩,u3 (zd0 n)⟩),(2,⟨⟨[(26,(.ptr 0 0)),(6,(.d (.int .i32))),(4,dI),(35,dB)],[.siter],0,43,[]⟩,u5 (zcz n)⟩)]) (anb [(5,0),(16,1),(29,2)] f297)
theorem y9p:FOk prog zvj:=okF (bs:=[]) trivial func297 ntmps297 call297
 (λ_ _=>tr (zgm.eq_2 ..))
 (λn=>⟨λ_=>tr (z6q.eq_2 ..),
  λ_=>tr (zd0.eq_2 ..),
  λ_=>tr (zcz.eq_2 ..),
  trivial⟩)
mutual
def zn7:Nat->B8->Ot (Int×yz4)
 |0,_=>none
 |n+1,a=>
  (zau n a [45]).bind λy0=>
  (z7w n y0.1 [47]).bind λy1=>
  pIf (!y1.2.2)
   (ze7 n a y0.2 [49] y1.1 (yz4.mk 0 0))
   (ze7 n a y0.2 y1.2.1 y1.1 (yz4.mk 0 0))
def ze7:Nat->B8->Bool->B8->B8->yz4->Ot (Int×yz4)
 |0,_,_,_,_,_=>none
 |n+1,a,b,c,d,e=>
  (zgm n d).bind λy2=>
  (zgm n c).bind λy3=>
  pIf b
   (zea n a y3.2 y2.2 y3.1 (IntKind.i64.wrap (0-y2.1)) e)
   (zea n a y3.2 y2.2 y3.1 y2.1 e)
def zea:Nat->B8->Bool->Bool->Int->Int->yz4->Ot (Int×yz4)
 |0,_,_,_,_,_,_=>none
 |n+1,a,b,c,d,e,f=>
  pIf (!c)
   (zar n a true f (yz4.mk e d))
   (pIf (!b)
     (zar n a true f (yz4.mk e d))
     ((z7v n (yz4.mk e d)).bind λy4=>
     zar n a (y4 != 0) f (yz4.mk e d)))
def zar:Nat->B8->Bool->yz4->yz4->Ot (Int×yz4)
 |0,_,_,_,_=>none
 |n+1,a,b,c,d=>
  pIf b
   (some (12,(yz4.mk 0 0)))
   ((zba n d).bind λy5=>
   pIf (!(y5.1==a))
    (some (12,(yz4.mk 0 0)))
    (some (0,d)))
end
def ygf:LSh:=⟨[(2,(.ptr 0 0)),(3,dI)],[(.st 3)],0,67,[]⟩
noncomputable def zqk:FI dat:=FI.of dat 296 67 0 [dS] [] [dT 3,dI] [] true ygf (R:=Int×yz4) (λx=>(x.1,x.2.1)) (λr=>(r.2,r.1,())) (λn=>u1 (zn7 n))
 (λn=>[(0,⟨⟨[(2,(.ptr 0 0)),(0,dS),(5,dB),(7,dS),(6,dS)],[(.st 3)],0,67,[]⟩,u5 (ze7 n)⟩),(1,⟨⟨[(2,(.ptr 0 0)),(0,dS),(12,dB),(10,dB),(11,dI),(9,dI)],[(.st 3)],0,67,[]⟩,u6 (zea n)⟩),(2,⟨⟨[(2,(.ptr 0 0)),(13,(.ptr 1 0)),(0,dS),(55,dB)],[(.st 3),(.st 3)],0,67,[]⟩,u4 (zar n)⟩)]) (anb [(12,0),(22,1),(27,2)] f296)
theorem yek:FOk prog zqk:=okF (bs:=[zfp,zdj,zvj,zg6,zlc]) ⟨zk1,zi8,y9p,zm8,y0c,trivial⟩ func296 ntmps296 call296
 (λ_ _=>tr (zn7.eq_2 ..))
 (λn=>⟨λ_=>tr (ze7.eq_2 ..),
  λ_=>tr (zea.eq_2 ..),
  λx=>tr (zar.eq_2 x.1 x.2.1 x.2.2.1 x.2.2.2.1 n),
  trivial⟩)
mutual
def za2:Nat->Int->zz3->Ot (zz3×kz0)
 |0,_,_=>none
 |n+1,a,b=>
  pIf (a==0)
   (z7g n (zz3.mk b.s b.at_ false) 0 0 0 false [] [])
   ((kzq n [116,114,117,101] b).bind λy0=>
   pIf y0.1
    (some (y0.2,(kz0.mk 2 (yz4.mk 0 0) true [] [])))
    ((kzq n [102,97,108,115,101] y0.2).bind λy1=>
    pIf y1.1
     (some (y1.2,(kz0.mk 2 (yz4.mk 0 0) false [] [])))
     ((kzq n [34] y1.2).bind λy2=>
     pIf y2.1
      ((zcu n y2.2).bind λy3=>
      some (y3.2,(kz0.mk 3 (yz4.mk 0 0) false y3.1 [])))
      ((kzq n [91,93] y2.2).bind λy4=>
      pIf y4.1
       (some (y4.2,(kz0.mk 4 (yz4.mk 0 0) false [] [])))
       ((kzq n [91] y4.2).bind λy5=>
       pIf y5.1
        (z7h n a true y5.2 4 0 0 false [] 0 0 0 false [] [] [])
        (z7g n y5.2 0 0 0 false [] []))))))
def z7h:Nat->Int->Bool->zz3->Int->Int->Int->Bool->B8->Int->Int->Int->Bool->B8->zzw->zzw->Ot (zz3×kz0)
 |0,_,_,_,_,_,_,_,_,_,_,_,_,_,_,_=>none
 |n+1,a,b,c,d,e,f,g,h,i,j,k,l,m,o,p=>
  pIf b
   (z7l n a c.ok c d e f g h i j k l m o p)
   (z7l n a false c d e f g h i j k l m o p)
def z7l:Nat->Int->Bool->zz3->Int->Int->Int->Bool->B8->Int->Int->Int->Bool->B8->zzw->zzw->Ot (zz3×kz0)
 |0,_,_,_,_,_,_,_,_,_,_,_,_,_,_,_=>none
 |n+1,a,b,c,d,e,f,g,h,i,j,k,l,m,o,p=>
  pIf b
   ((za2 n (IntKind.i64.wrap (a-1)) c).bind λy8=>
   (ext o [y8.2.re]).bind λx9=>
   (kzq n [44,32] y8.1).bind λy10=>
   z7h n a y10.1 y10.2 d e f g h i j k l m x9 p)
   ((kzq n [93] c).bind λy11=>
   pIf y11.1
    (z7j n y11.2 i j k l m d e f g h p o)
    (z7j n (zz3.mk y11.2.s y11.2.at_ false) i j k l m d e f g h p o))
def z7j:Nat->zz3->Int->Int->Int->Bool->B8->Int->Int->Int->Bool->B8->zzw->zzw->Ot (zz3×kz0)
 |0,_,_,_,_,_,_,_,_,_,_,_,_,_=>none
 |n+1,a,b,c,d,e,f,g,h,i,j,k,l,m=>
  some (a,(kz0.mk g (yz4.mk h i) j k m))
def z7g:Nat->zz3->Int->Int->Int->Bool->B8->zzw->Ot (zz3×kz0)
 |0,_,_,_,_,_,_,_=>none
 |n+1,a,b,c,d,e,f,g=>
  z7o n a.at_ a b c d e f g
def z7o:Nat->Int->zz3->Int->Int->Int->Bool->B8->zzw->Ot (zz3×kz0)
 |0,_,_,_,_,_,_,_,_=>none
 |n+1,a,b,c,d,e,f,g,h=>
  pIf (decide (a<(b.s.length:Int)))
   ((ix b.s a).bind λx6=>
   (zb2 n [48,49,50,51,52,53,54,55,56,57,47,45] (x6.toNat:Int)).bind λy7=>
   z7m n a (decide (y7>=0)) b c d e f g h)
   (z7m n a false b c d e f g h)
def z7m:Nat->Int->Bool->zz3->Int->Int->Int->Bool->B8->zzw->Ot (zz3×kz0)
 |0,_,_,_,_,_,_,_,_,_=>none
 |n+1,a,b,c,d,e,f,g,h,i=>
  pIf b
   (z7o n (IntKind.i64.wrap (a+1)) c d e f g h i)
   ((sub c.s c.at_ a).bind λx12=>
   (zn7 n x12).bind λy13=>
   pIf c.ok
    (z7i n a (zz3.mk c.s c.at_ (y13.1==0)) d e f g h y13.2 i)
    (z7i n a (zz3.mk c.s c.at_ false) d e f g h y13.2 i))
def z7i:Nat->Int->zz3->Int->Int->Int->Bool->B8->yz4->zzw->Ot (zz3×kz0)
 |0,_,_,_,_,_,_,_,_,_=>none
 |n+1,a,b,c,d,e,f,g,h,i=>
  some ((zz3.mk b.s a b.ok),(kz0.mk 1 h false [] []))
end
def zx5:LSh:=⟨[(4,(.ptr 1 0))],[(.st 16),(.st 4)],1,122,[]⟩
noncomputable def z83:FI dat:=FI.of dat 293 122 1 [(.ptr 0 0),dI] [(.st 16)] [dT 4] [(.st 16),(.st 4)] false zx5 (R:=zz3×kz0) (λx=>(x.1,x.2.1)) (λr=>(r.2,r.1,r.2,())) (λn=>u2 (za2 n))
 (λn=>[(0,⟨⟨[(0,(.ptr 0 0)),(5,(.ptr 1 0)),(1,dI),(4,(.ptr 2 0)),(6,dB)],[(.st 16),(.cells [dU,dI,dI,dB,dS,(.own 3)]),(.cells [dU,dI,dI,dB,dS,(.own 4)]),(.acc 26 (.st 4) true),(.acc 26 (.st 4) true)],1,122,[]⟩,λx=>z7h n x.1 x.2.1 x.2.2.1 x.2.2.2.1 x.2.2.2.2.1 x.2.2.2.2.2.1 x.2.2.2.2.2.2.1 x.2.2.2.2.2.2.2.1 x.2.2.2.2.2.2.2.2.1 x.2.2.2.2.2.2.2.2.2.1 x.2.2.2.2.2.2.2.2.2.2.1 x.2.2.2.2.2.2.2.2.2.2.2.1 x.2.2.2.2.2.2.2.2.2.2.2.2.1 x.2.2.2.2.2.2.2.2.2.2.2.2.2.1 x.2.2.2.2.2.2.2.2.2.2.2.2.2.2.1⟩),(1,⟨⟨[(0,(.ptr 0 0)),(5,(.ptr 1 0)),(1,dI),(4,(.ptr 2 0)),(44,dB)],[(.st 16),(.cells [dU,dI,dI,dB,dS,(.own 3)]),(.cells [dU,dI,dI,dB,dS,(.own 4)]),(.acc 26 (.st 4) true),(.acc 26 (.st 4) true)],1,122,[]⟩,λx=>z7l n x.1 x.2.1 x.2.2.1 x.2.2.2.1 x.2.2.2.2.1 x.2.2.2.2.2.1 x.2.2.2.2.2.2.1 x.2.2.2.2.2.2.2.1 x.2.2.2.2.2.2.2.2.1 x.2.2.2.2.2.2.2.2.2.1 x.2.2.2.2.2.2.2.2.2.2.1 x.2.2.2.2.2.2.2.2.2.2.2.1 x.2.2.2.2.2.2.2.2.2.2.2.2.1 x.2.2.2.2.2.2.2.2.2.2.2.2.2.1 x.2.2.2.2.2.2.2.2.2.2.2.2.2.2.1⟩),(2,⟨⟨[(4,(.ptr 1 0)),(5,(.ptr 2 0))],[(.st 16),(.cells [dU,dI,dI,dB,dS,(.own 3)]),(.cells [dU,dI,dI,dB,dS,(.own 4)]),(.acc 26 (.st 4) true),(.acc 26 (.st 4) true)],1,122,[]⟩,λx=>z7j n x.1 x.2.1 x.2.2.1 x.2.2.2.1 x.2.2.2.2.1 x.2.2.2.2.2.1 x.2.2.2.2.2.2.1 x.2.2.2.2.2.2.2.1 x.2.2.2.2.2.2.2.2.1 x.2.2.2.2.2.2.2.2.2.1 x.2.2.2.2.2.2.2.2.2.2.1 x.2.2.2.2.2.2.2.2.2.2.2.1 x.2.2.2.2.2.2.2.2.2.2.2.2.1⟩),(3,⟨⟨[(4,(.ptr 1 0)),(0,(.ptr 0 0))],[(.st 16),(.cells [dU,dI,dI,dB,dS,(.own 2)]),(.acc 26 (.st 4) true)],1,122,[]⟩,u7 (z7g n)⟩),(4,⟨⟨[(7,dI),(4,(.ptr 1 0)),(0,(.ptr 0 0))],[(.st 16),(.cells [dU,dI,dI,dB,dS,(.own 2)]),(.acc 26 (.st 4) true)],1,122,[]⟩,u8 (z7o n)⟩),(5,⟨⟨[(4,(.ptr 1 0)),(0,(.ptr 0 0)),(7,dI),(88,dB)],[(.st 16),(.cells [dU,dI,dI,dB,dS,(.own 2)]),(.acc 26 (.st 4) true)],1,122,[]⟩,u9 (z7m n)⟩),(6,⟨⟨[(4,(.ptr 1 0)),(8,(.ptr 2 0)),(7,dI),(0,(.ptr 0 0))],[(.st 16),(.cells [dU,dI,dI,dB,dS,(.own 3)]),(.st 3),(.acc 26 (.st 4) true)],1,122,[]⟩,u9 (z7i n)⟩)]) (anb [(41,0),(45,1),(54,2),(58,3),(62,4),(66,5),(75,6)] f293)
noncomputable def zw8:List (FI dat):=[z83]++[zfs,ze1,z92,zqk]
theorem zvb:(z83).Good prog dat (tb zw8):=FI.z0t (hD:=zz8 _) func293 ntmps293 call293 (by kernel_rfl) (Qac (by kernel_rfl)) (by kernel_rfl) (λn=>by kernel_rfl) (λx=>by kernel_rfl) (λ_=>rfl) ⟨λ_=>rfl,λ_=>rfl,λ_=>rfl,λ_=>rfl,λ_=>rfl,λ_=>rfl,λ_=>rfl,trivial⟩
 (λ_ _=>tr (za2.eq_2 ..))
 (λn=>⟨λ_=>tr (z7h.eq_2 ..),
  λ_=>tr (z7l.eq_2 ..),
  λx=>tr (z7j.eq_2 x.1 x.2.1 x.2.2.1 x.2.2.2.1 x.2.2.2.2.1 x.2.2.2.2.2.1 x.2.2.2.2.2.2.1 x.2.2.2.2.2.2.2.1 x.2.2.2.2.2.2.2.2.1 x.2.2.2.2.2.2.2.2.2.1 x.2.2.2.2.2.2.2.2.2.2.1 x.2.2.2.2.2.2.2.2.2.2.2.1 x.2.2.2.2.2.2.2.2.2.2.2.2.1 n),
  λ_=>tr (z7g.eq_2 ..),
  λ_=>tr (z7o.eq_2 ..),
  λ_=>tr (z7m.eq_2 ..),
  λx=>tr (z7i.eq_2 x.1 x.2.1 x.2.2.1 x.2.2.2.1 x.2.2.2.2.1 x.2.2.2.2.2.1 x.2.2.2.2.2.2.1 x.2.2.2.2.2.2.2.1 x.2.2.2.2.2.2.2.2.1 n),
  trivial⟩)
 (λx=>.inr (by kernel_rfl))
theorem zxf:OkL prog [z83]:=z5k (zz8 _) (bs:=[zfs,ze1,z92,zqk]) ⟨zxh,zu1,zk6,yek,trivial⟩ ⟨zvb,trivial⟩
theorem zux:FOk prog z83:=zxf.1
mutual
def zmr:Nat->B8->Ot (Int×kz0)
 |0,_=>none
 |n+1,a=>
  pIf (decide ((a.length:Int)>4000))
   (some (12,(kz0.mk 0 (yz4.mk 0 0) false [] [])))
   ((za2 n 6 (zz3.mk a 0 true)).bind λy0=>
   pIf (!y0.1.ok)
    (zb0 n true (kz0.mk 0 (yz4.mk 0 0) false [] []) y0.2.re)
    (pIf (y0.1.at_ != (a.length:Int))
      (zb0 n true (kz0.mk 0 (yz4.mk 0 0) false [] []) y0.2.re)
      ((z7p n y0.2.re).bind λy1=>
      zb0 n (y1 != 0) (kz0.mk 0 (yz4.mk 0 0) false [] []) y0.2.re)))
def zb0:Nat->Bool->kz0->kz0->Ot (Int×kz0)
 |0,_,_,_=>none
 |n+1,a,b,c=>
  pIf a
   (some (12,(kz0.mk 0 (yz4.mk 0 0) false [] [])))
   (some (0,c.re))
end
def yfk:LSh:=⟨[(2,(.ptr 0 0)),(3,dI)],[(.st 4)],0,36,[]⟩
noncomputable def zqi:FI dat:=FI.of dat 288 36 0 [dS] [] [dT 4,dI] [] true yfk (R:=Int×kz0) (λx=>(x.1,x.2.1)) (λr=>(r.2,r.1,())) (λn=>u1 (zmr n))
 (λn=>[(0,⟨⟨[(2,(.ptr 0 0)),(5,(.ptr 1 0)),(33,dB)],[(.st 4),(.st 4)],0,36,[]⟩,u3 (zb0 n)⟩)]) (anb [(17,0)] f288)
theorem yau:FOk prog zqi:=okF (bs:=[z83,zge]) ⟨zux,zn0,trivial⟩ func288 ntmps288 call288
 (λ_ _=>tr (zmr.eq_2 ..))
 (λn=>⟨λx=>tr (zb0.eq_2 x.1 x.2.1 x.2.2.1 n),
  trivial⟩)
mutual
def zcs:Nat->kz2->Ot (Res (Int×Unit) (kz2×zz1))
 |0,_=>none
 |n+1,a=>
  (zap n a.s [34]).bind λy0=>
  pIf y0
   (z5s n 1 a (zz1.mk 0 (kz0.mk 0 (yz4.mk 0 0) false [] []) [] []))
   (z5q n 0 a (zz1.mk 0 (kz0.mk 0 (yz4.mk 0 0) false [] []) [] []))
def z5s:Nat->Int->kz2->zz1->Ot (Res (Int×Unit) (kz2×zz1))
 |0,_,_,_=>none
 |n+1,a,b,c=>
  pIf (decide (a<(b.s.length:Int)))
   ((ix b.s a).bind λx1=>
   z5n n a ((x1.toNat:Int) != 34) b c.re)
   (z5n n a false b c.re)
def z5n:Nat->Int->Bool->kz2->zz1->Ot (Res (Int×Unit) (kz2×zz1))
 |0,_,_,_,_=>none
 |n+1,a,b,c,d=>
  pIf b
   ((ix c.s a).bind λx4=>
   pIf ((x4.toNat:Int)==92)
    (z5h n (IntKind.i64.wrap (a+1)) c d.re)
    (z5h n a c d.re))
   (z5i n (mnI (IntKind.i64.wrap (a+1)) (c.s.length:Int)) c d.re)
def z5h:Nat->Int->kz2->zz1->Ot (Res (Int×Unit) (kz2×zz1))
 |0,_,_,_=>none
 |n+1,a,b,c=>
  z5s n (IntKind.i64.wrap (a+1)) b c.re
def z5q:Nat->Int->kz2->zz1->Ot (Res (Int×Unit) (kz2×zz1))
 |0,_,_,_=>none
 |n+1,a,b,c=>
  pIf (decide (a<(b.s.length:Int)))
   ((ix b.s a).bind λx2=>
   (zb2 n [48,49,50,51,52,53,54,55,56,57,47,45] (x2.toNat:Int)).bind λy3=>
   z5o n a (decide (y3>=0)) b c.re)
   (z5o n a false b c.re)
def z5o:Nat->Int->Bool->kz2->zz1->Ot (Res (Int×Unit) (kz2×zz1))
 |0,_,_,_,_=>none
 |n+1,a,b,c,d=>
  pIf b
   (z5q n (IntKind.i64.wrap (a+1)) c d.re)
   (z5i n a c d.re)
def z5i:Nat->Int->kz2->zz1->Ot (Res (Int×Unit) (kz2×zz1))
 |0,_,_,_=>none
 |n+1,a,b,c=>
  (sub b.s 0 a).bind λx5=>
  (zmr n x5).bind λy6=>
  (zb9 n y6.1).bind λy7=>
  zpx y7 (λr8=>
   (sub b.s a (b.s.length:Int)).bind λx9=>
   some (Res.ok ((kz2.mk x9),(zz1.mk 1 y6.2.re [] []))))
   (λe10=>
   some (Res.pan (e10.1,())))
end
def zup:LSh:=⟨[(2,(.ptr 1 0))],[(.st 15),(.st 5)],1,88,[]⟩
noncomputable def z5v:FI dat:=FI.ofP dat 272 88 1 [(.ptr 0 0)] [(.st 15)] [dT 5] [(.st 15),(.st 5)] (.iface 31 dI) [(.cells [.any])] [] zup (R:=kz2×zz1) (λx=>(x.1,x.2.1)) (λr=>(r.2,r.1,r.2,())) (λn=>u1 (zcs n))
 (λn=>[(0,⟨⟨[(3,dI),(0,(.ptr 0 0)),(2,(.ptr 1 0))],[(.st 15),(.st 5)],1,88,[]⟩,u3 (z5s n)⟩),(1,⟨⟨[(0,(.ptr 0 0)),(2,(.ptr 1 0)),(3,dI),(26,dB)],[(.st 15),(.st 5)],1,88,[]⟩,u4 (z5n n)⟩),(2,⟨⟨[(0,(.ptr 0 0)),(2,(.ptr 1 0)),(3,dI)],[(.st 15),(.st 5)],1,88,[]⟩,u3 (z5h n)⟩),(3,⟨⟨[(3,dI),(2,(.ptr 1 0)),(0,(.ptr 0 0))],[(.st 15),(.st 5)],1,88,[]⟩,u3 (z5q n)⟩),(4,⟨⟨[(2,(.ptr 1 0)),(0,(.ptr 0 0)),(3,dI),(62,dB)],[(.st 15),(.st 5)],1,88,[]⟩,u4 (z5o n)⟩),(5,⟨⟨[(2,(.ptr 1 0)),(3,dI),(0,(.ptr 0 0))],[(.st 15),(.st 5)],1,88,[]⟩,u3 (z5i n)⟩)]) (anb [(12,0),(16,1),(26,2),(29,3),(33,4),(38,5)] f272)
noncomputable def zv1:List (FI dat):=[z7q,zbw,z92,zqi]
theorem zuy:(z5v).Good prog dat (tb zv1):=FI.zxe (hD:=zz8 _) func272 ntmps272 call272 (by kernel_rfl) (Qac (by kernel_rfl)) (by kernel_rfl) (λn=>by kernel_rfl) trivial (λx=>by kernel_rfl) (λ_=>rfl) ⟨λ_=>rfl,λ_=>rfl,λ_=>rfl,λ_=>rfl,λ_=>rfl,λ_=>rfl,trivial⟩
 (λ_ _=>tr (zcs.eq_2 ..))
 (λn=>⟨λ_=>tr (z5s.eq_2 ..),
  λ_=>tr (z5n.eq_2 ..),
  λ_=>tr (z5h.eq_2 ..),
  λ_=>tr (z5q.eq_2 ..),
  λ_=>tr (z5o.eq_2 ..),
  λx=>tr (z5i.eq_2 x.1 x.2.1 x.2.2.1 n),
  trivial⟩)
 (λx=>by kernel_rfl)
theorem zus:OkL prog [z5v]:=zq0 (zz8 _) (bs:=[z7q,zbw,z92,zqi]) ⟨zlr,zkb,zk6,yau,trivial⟩ zuy
theorem ztz:FOk prog z5v:=zus.1
def zpw:Nat->Bool->Ot kz0
 |0,_=>none
 |n+1,a=>
  some (kz0.mk 2 (yz4.mk 0 0) a [] [])
def yn4:LSh:=⟨[(2,(.ptr 0 0))],[(.st 4)],0,5,[]⟩
noncomputable def zt8:FI dat:=FI.of dat 273 5 0 [dB] [] [dT 4] [] true yn4 (R:=kz0) Prod.fst (·,()) (λn=>u1 (zpw n))
 (λn=>[]) (anb [] f273)
theorem ygo:FOk prog zt8:=okF (bs:=[]) trivial func273 ntmps273 call273
 (λn=>λ_=>tr (zpw.eq_2 _ n))
 (λn=>trivial)
mutual
def z5c:Nat->Int->kz2->Ot (Res (Int×Unit) (kz2×zz1))
 |0,_,_=>none
 |n+1,a,b=>
  pIf (a==0)
   ((zb9 n 12).bind λy0=>
   zpx y0 (λr1=>
    z97 n a b (zz1.mk 0 (kz0.mk 0 (yz4.mk 0 0) false [] []) [] []))
    (λe2=>
    some (Res.pan (e2.1,()))))
   (z97 n a b (zz1.mk 0 (kz0.mk 0 (yz4.mk 0 0) false [] []) [] []))
def z97:Nat->Int->kz2->zz1->Ot (Res (Int×Unit) (kz2×zz1))
 |0,_,_,_=>none
 |n+1,a,b,c=>
  (kzu n [40] b).bind λy3=>
  pIf y3.1
   ((z5c n (IntKind.i64.wrap (a-1)) y3.2).bind λy4=>
   zpx y4 (λr5=>
    (z8z n [32] r5.1).bind λy6=>
    zpx y6 (λr7=>
     z98 n 3 a r7 c.re r5.2.re)
     (λe8=>
     some (Res.pan (e8.1,()))))
    (λe9=>
    some (Res.pan (e9.1,()))))
   (z99 n a y3.2 c.re)
def z98:Nat->Int->Int->kz2->zz1->zz1->Ot (Res (Int×Unit) (kz2×zz1))
 |0,_,_,_,_,_=>none
 |n+1,a,b,c,d,e=>
  pIf (decide (a<=10))
   ((zao n a).bind λy10=>
   (cat y10 [32]).bind λx11=>
   (kzu n x11 c).bind λy12=>
   pIf y12.1
    ((z5c n (IntKind.i64.wrap (b-1)) y12.2).bind λy13=>
    zpx y13 (λr14=>
     (z8z n [41] r14.1).bind λy15=>
     zpx y15 (λr16=>
      some (Res.ok (r16,(zz1.mk a (kz0.mk 0 (yz4.mk 0 0) false [] []) [] [e.re,r14.2.re]))))
      (λe17=>
      some (Res.pan (e17.1,()))))
     (λe18=>
     some (Res.pan (e18.1,()))))
    (z98 n (IntKind.u8.wrap (a+1)) b y12.2 d.re e.re))
   ((zb9 n 12).bind λy19=>
   zpx y19 (λr20=>
    z99 n b c d.re)
    (λe21=>
    some (Res.pan (e21.1,()))))
def z99:Nat->Int->kz2->zz1->Ot (Res (Int×Unit) (kz2×zz1))
 |0,_,_,_=>none
 |n+1,a,b,c=>
  (kzu n [91] b).bind λy22=>
  pIf y22.1
   ((za3 n (IntKind.i64.wrap (a-1)) [93] y22.2).bind λy23=>
   zpx y23 (λr24=>
    some (Res.ok (r24.2,(zz1.mk 18 (kz0.mk 0 (yz4.mk 0 0) false [] []) [] r24.1))))
    (λe25=>
    some (Res.pan (e25.1,()))))
   (z9d n 0 a y22.2 c.re)
def z9d:Nat->Int->Int->kz2->zz1->Ot (Res (Int×Unit) (kz2×zz1))
 |0,_,_,_,_=>none
 |n+1,a,b,c,d=>
  pIf (decide (a<(c.s.length:Int)))
   ((ix c.s a).bind λx26=>
   pIf (decide ((x26.toNat:Int)>=97))
    ((ix c.s a).bind λx27=>
    pIf (decide ((x27.toNat:Int)<=122))
     (yze n b a true c d.re)
     (pIf (decide (a>0))
       ((ix c.s a).bind λx28=>
       pIf ((x28.toNat:Int)==45)
        (yze n b a true c d.re)
        ((ix c.s a).bind λx29=>
        pIf (decide ((x29.toNat:Int)>=48))
         ((ix c.s a).bind λx30=>
         yze n b a (decide ((x30.toNat:Int)<=57)) c d.re)
         (yze n b a false c d.re)))
       (yze n b a false c d.re)))
    (pIf (decide (a>0))
      ((ix c.s a).bind λx31=>
      pIf ((x31.toNat:Int)==45)
       (yze n b a true c d.re)
       ((ix c.s a).bind λx32=>
       pIf (decide ((x32.toNat:Int)>=48))
        ((ix c.s a).bind λx33=>
        yze n b a (decide ((x33.toNat:Int)<=57)) c d.re)
        (yze n b a false c d.re)))
      (yze n b a false c d.re)))
   (yze n b a false c d.re)
def yze:Nat->Int->Int->Bool->kz2->zz1->Ot (Res (Int×Unit) (kz2×zz1))
 |0,_,_,_,_,_=>none
 |n+1,a,b,c,d,e=>
  pIf c
   (z9d n (IntKind.i64.wrap (b+1)) a d e.re)
   ((sub d.s 0 b).bind λx34=>
   pIf (b==0)
    ((zcs n d).bind λy35=>
    zpx y35 (λr36=>
     some (Res.ok (r36.1,r36.2.re)))
     (λe37=>
     some (Res.pan (e37.1,()))))
    (pIf (x34==[116,114,117,101])
      (z9e n x34 b a true d e.re)
      (z9e n x34 b a (x34==[102,97,108,115,101]) d e.re)))
def z9e:Nat->B8->Int->Int->Bool->kz2->zz1->Ot (Res (Int×Unit) (kz2×zz1))
 |0,_,_,_,_,_,_=>none
 |n+1,a,b,c,d,e,f=>
  pIf d
   ((sub e.s b (e.s.length:Int)).bind λx38=>
   (zpw n (a==[116,114,117,101])).bind λy39=>
   some (Res.ok ((kz2.mk x38),(zz1.mk 1 y39.re [] []))))
   ((sub e.s b (e.s.length:Int)).bind λx40=>
   (kzu n [40] (kz2.mk x40)).bind λy41=>
   pIf (!y41.1)
    (some (Res.ok (y41.2,(zz1.mk 2 (kz0.mk 0 (yz4.mk 0 0) false [] []) a []))))
    ((kzb n [110,111,116,32,105,102,32,109,105,110,32,109,97,120,32,102,108,111,111,114,32,108,101,110,32,97,116]).bind λy42=>
    (kz9 n y42 a).bind λy43=>
    pIf (decide (y43<0))
     ((zb9 n 12).bind λy44=>
     zpx y44 (λr45=>
      z9a n c y43 y41.2 f.re)
      (λe46=>
      some (Res.pan (e46.1,()))))
     (z9a n c y43 y41.2 f.re)))
def z9a:Nat->Int->Int->kz2->zz1->Ot (Res (Int×Unit) (kz2×zz1))
 |0,_,_,_,_=>none
 |n+1,a,b,c,d=>
  (za3 n (IntKind.i64.wrap (a-1)) [41] c).bind λy47=>
  zpx y47 (λr48=>
   some (Res.ok (r48.2,(zz1.mk (IntKind.u8.wrap (11+(IntKind.u8.wrap b))) (kz0.mk 0 (yz4.mk 0 0) false [] []) [] r48.1))))
   (λe49=>
   some (Res.pan (e49.1,())))
def za3:Nat->Int->B8->kz2->Ot (Res (Int×Unit) (yz6×kz2))
 |0,_,_,_=>none
 |n+1,a,b,c=>
  (kzu n b c).bind λy0=>
  pIf y0.1
   (some (Res.ok ([],y0.2)))
   (z7n n b a y0.2 [])
def z7n:Nat->B8->Int->kz2->yz6->Ot (Res (Int×Unit) (yz6×kz2))
 |0,_,_,_,_=>none
 |n+1,a,b,c,d=>
  (z5c n b c).bind λy1=>
  zpx y1 (λr2=>
   (ext d [r2.2.re]).bind λx3=>
   (kzu n a r2.1).bind λy4=>
   pIf y4.1
    (some (Res.ok (x3,y4.2)))
    ((z8z n [44,32] y4.2).bind λy5=>
    zpx y5 (λr6=>
     z7n n a b r6 x3)
     (λe7=>
     some (Res.pan (e7.1,())))))
   (λe8=>
   some (Res.pan (e8.1,())))
end
def y2q:LSh:=⟨[(4,(.ptr 1 0))],[(.st 15),(.st 5)],1,167,[]⟩
noncomputable def z6r:FI dat:=FI.ofP dat 243 167 1 [(.ptr 0 0),dI] [(.st 15)] [dT 5] [(.st 15),(.st 5)] (.iface 31 dI) [(.cells [.any])] [] y2q (R:=kz2×zz1) (λx=>(x.1,x.2.1)) (λr=>(r.2,r.1,r.2,())) (λn=>u2 (z5c n))
 (λn=>[(0,⟨⟨[(4,(.ptr 1 0)),(0,(.ptr 0 0)),(1,dI)],[(.st 15),(.st 5)],1,167,[]⟩,u3 (z97 n)⟩),(1,⟨⟨[(4,(.ptr 1 0)),(5,(.ptr 2 0)),(6,dU),(0,(.ptr 0 0)),(1,dI)],[(.st 15),(.st 5),(.st 5)],1,167,[]⟩,u5 (z98 n)⟩),(2,⟨⟨[(4,(.ptr 1 0)),(1,dI),(0,(.ptr 0 0))],[(.st 15),(.st 5)],1,167,[]⟩,u3 (z99 n)⟩),(3,⟨⟨[(8,dI),(4,(.ptr 1 0)),(0,(.ptr 0 0)),(1,dI)],[(.st 15),(.st 5)],1,167,[]⟩,u4 (z9d n)⟩),(4,⟨⟨[(4,(.ptr 1 0)),(0,(.ptr 0 0)),(1,dI),(8,dI),(105,dB)],[(.st 15),(.st 5)],1,167,[]⟩,u5 (yze n)⟩),(5,⟨⟨[(4,(.ptr 1 0)),(9,dS),(8,dI),(0,(.ptr 0 0)),(1,dI),(119,dB)],[(.st 15),(.st 5)],1,167,[]⟩,u6 (z9e n)⟩),(6,⟨⟨[(4,(.ptr 1 0)),(1,dI),(0,(.ptr 0 0)),(10,dI)],[(.st 15),(.st 5)],1,167,[]⟩,u4 (z9a n)⟩)]) (anb [(8,0),(20,1),(43,2),(55,3),(59,4),(76,5),(101,6)] f243)
def zw6:LSh:=⟨[(6,dL 5)],[(.st 15)],1,24,[]⟩
noncomputable def zez:FI dat:=FI.ofP dat 271 24 1 [(.ptr 0 0),dI,dS] [(.st 15)] [dL 5] [(.st 15)] (.iface 31 dI) [(.cells [.any])] [] zw6 (R:=yz6×kz2) (λx=>(x.1,x.2.1)) (λr=>(r.1,r.2,())) (λn=>u3 (za3 n))
 (λn=>[(0,⟨⟨[(0,(.ptr 0 0)),(2,dS),(1,dI),(7,(.own 1))],[(.st 15),(.acc 29 (.st 5) true)],1,24,[]⟩,u4 (z7n n)⟩)]) (anb [(13,0)] f271)
noncomputable def zmv:List (FI dat):=[z6r,zez]++[z7q,z9v,z9z,z5v,zjz,zt8,z3f,yzp]
theorem y2r:(z6r).Good prog dat (tb zmv):=FI.zxe (hD:=zz8 _) func243 ntmps243 call243 (by kernel_rfl) (Qac (by kernel_rfl)) (by kernel_rfl) (λn=>by kernel_rfl) trivial (λx=>by kernel_rfl) (λ_=>rfl) ⟨λ_=>rfl,λ_=>rfl,λ_=>rfl,λ_=>rfl,λ_=>rfl,λ_=>rfl,λ_=>rfl,trivial⟩
 (λ_ _=>tr (z5c.eq_2 ..))
 (λn=>⟨λ_=>tr (z97.eq_2 ..),
  λ_=>tr (z98.eq_2 ..),
  λ_=>tr (z99.eq_2 ..),
  λ_=>tr (z9d.eq_2 ..),
  λ_=>tr (yze.eq_2 ..),
  λ_=>tr (z9e.eq_2 ..),
  λx=>tr (z9a.eq_2 x.1 x.2.1 x.2.2.1 x.2.2.2.1 n),
  trivial⟩)
 (λx=>by kernel_rfl)
theorem zwo:(zez).Good prog dat (tb zmv):=FI.zxe (hD:=zz8 _) func271 ntmps271 call271 (by kernel_rfl) (Qac (by kernel_rfl)) (by kernel_rfl) (λn=>by kernel_rfl) trivial (λx=>by kernel_rfl) (λ_=>rfl) ⟨λ_=>rfl,trivial⟩
 (λ_ _=>tr (za3.eq_2 ..))
 (λn=>⟨λ_=>tr (z7n.eq_2 ..),
  trivial⟩)
 (λx=>by kernel_rfl)
theorem y1z:OkL prog [z6r,zez]:=z5k (zz8 _) (bs:=[z7q,z9v,z9z,z5v,zjz,zt8,z3f,yzp]) ⟨zlr,zl4,zyr,ztz,y4l,ygo,zas,z26,trivial⟩ ⟨y2r,zwo,trivial⟩
theorem y0b:FOk prog z6r:=y1z.1
def zib(a0:Int):Option Int :=
 some a0
def yfa:LSh:=⟨[],[(.cells [dI])],1,10,[]⟩
noncomputable def y1k:zvx dat:={f:=242,args:=[(.ptr 0 0)],aos:=[(.cells [dI])],m:=none,ros:=[(.cells [dI])],go:=λx mx=>(zib x.1).bind λr=>some (r,())}
theorem y9m:(y1k).Ok prog:=yr8 (c:=(anb [] f242)) (args:=[(.ptr 0 0)]) (aos:=[(.cells [dI])]) (ros:=[(.cells [dI])]) (m:=none) (l:=yfa) (pack:=λx=>x.1) (un:=λr=>(r,())) (go:=λx mx=>zib x.1) (by kernel_rfl) (zz8 _) func242 (by kernel_rfl) ntmps242 call242 (Nat.le_of_ble_eq_true (by kernel_rfl)) (Nat.le_of_ble_eq_true (by kernel_rfl)) (Nat.le_of_ble_eq_true (by kernel_rfl)) (by kernel_rfl) (by kernel_rfl) (by kernel_rfl) (by kernel_rfl) (λx=>by kernel_rfl) (λx mx=>by kernel_rfl)
end Go.Proofs.YthphaiccgnkobaaGreatDoor
