/-
  Go functions as Lean functions, by a program of this repo.
-/
import Derived.Test.YthphaiccgnkobaaGreatDoorRun0
namespace Go.Proofs.YthphaiccgnkobaaGreatDoor
open Go Go.Ab
open Go.Proofs.Tryz
set_option linter.unusedVariables false
set_option maxRecDepth 100000
set_option maxHeartbeats 4000000
def kzj:Nat->(List B8)->B8->Ot Bool
 |0,_,_=>none
 |n+1,a,b=>
  (kz8 n a b).bind λy0=>
  some (decide (y0>=0))
def zet:LSh:=⟨[(4,dB)],[],0,9,[]⟩
noncomputable def z8a:FI dat:=FI.of dat 149 9 0 [dA,dS] [] [dB] [] true zet (R:=Bool) Prod.fst (·,()) (λn=>u2 (kzj n))
 (λn=>[]) (anb [] f149)
theorem ze6:FOk prog z8a:=okF (bs:=[yzo]) ⟨z0y,trivial⟩ func149 ntmps149 call149
 (λ_ _=>tr (kzj.eq_2 ..))
 (λn=>trivial)
def z1b:Nat->B8->Ot Bool
 |0,_=>none
 |n+1,a=>
  (z86 n a).bind λy0=>
  pIf y0
   ((kzj n [[116,114,117,101],[102,97,108,115,101],[115,120],[115,121],[115,122]] a).bind λy1=>
   some (!y1))
   (some false)
def y60:LSh:=⟨[(2,dB)],[],0,11,[]⟩
noncomputable def zfb:FI dat:=FI.of dat 88 11 0 [dS] [] [dB] [] true y60 (R:=Bool) Prod.fst (·,()) (λn=>u1 (z1b n))
 (λn=>[]) (anb [] f88)
theorem zik:FOk prog zfb:=okF (bs:=[zn8,z8a]) ⟨zs5,ze6,trivial⟩ func88 ntmps88 call88
 (λ_ _=>tr (z1b.eq_2 ..))
 (λn=>trivial)
mutual
def z5s:Nat->kz0->Ot (Int×Int)
 |0,_=>none
 |n+1,a=>
  z1n n 0 1 1 a.args (a.args.length:Int)
def z1n:Nat->Int->Int->Int->zz7->Int->Ot (Int×Int)
 |0,_,_,_,_,_=>none
 |n+1,a,b,c,d,e=>
  pIf (decide (a<e))
   ((ix d a).bind λx0=>
   (z5s n x0.re).bind λy1=>
   z1n n (IntKind.i64.wrap (a+1)) (mxI b (IntKind.i64.wrap (y1.2+1))) (IntKind.i64.wrap (c+y1.1)) d e)
   (some (c,b))
end
def y1f:LSh:=⟨[(2,dI),(3,dI)],[],0,30,[]⟩
noncomputable def zar:FI dat:=FI.of dat 150 30 0 [dT 5] [] [dI,dI] [] true y1f (R:=Int×Int) (λx=>(x.1,x.2.1)) (λr=>(r.1,r.2,())) (λn=>u1 (z5s n))
 (λn=>[(0,⟨⟨[(11,dI),(3,dI),(2,dI),(9,dL 5),(10,dI)],[],0,30,[]⟩,u5 (z1n n)⟩)]) (anb [(8,0)] f150)
noncomputable def y4b:List (FI dat):=[zar]++[]
theorem y3k:(zar).Good prog dat (tb y4b):=FI.z2e (hD:=kze _) func150 ntmps150 call150 (by kernel_rfl) (Qac (by kernel_rfl)) (by kernel_rfl) (λn=>by kernel_rfl) (λx=>by kernel_rfl) (λ_=>rfl) ⟨λ_=>rfl,trivial⟩
 (λ_ _=>tr (z5s.eq_2 ..))
 (λn=>⟨λ_=>tr (z1n.eq_2 ..),
  trivial⟩)
 (λx=>.inl rfl)
theorem y1e:OkL prog [zar]:=z8d (kze _) (bs:=[]) trivial ⟨y3k,trivial⟩
theorem zyv:FOk prog zar:=y1e.1
mutual
def z9r:Nat->Int->Ot Int
 |0,_=>none
 |n+1,a=>
  pIf (a==12)
   (kzy n 3)
   (pIf (a==3)
     (zzo n (-2) a true)
     (pIf (a==4)
       (zzo n (-2) a true)
       (pIf (a==5)
         (zzo n (-2) a true)
         (pIf (a==6)
           (zzo n (-2) a true)
           (pIf (a==7)
             (zzo n (-2) a true)
             (pIf (a==8)
               (zzo n (-2) a true)
               (pIf (a==9)
                 (zzo n (-2) a true)
                 (zzo n (-2) a (a==10)))))))))
def zzo:Nat->Int->Int->Bool->Ot Int
 |0,_,_,_=>none
 |n+1,a,b,c=>
  pIf c
   (z6h n)
   (pIf (b==13)
     (z43 n a b true)
     (pIf (b==14)
       (z43 n a b true)
       (z43 n a b (b==17))))
def z43:Nat->Int->Int->Bool->Ot Int
 |0,_,_,_=>none
 |n+1,a,b,c=>
  pIf c
   (z6h n)
   (pIf (b==11)
     (z42 n a b true)
     (pIf (b==15)
       (z42 n a b true)
       (z42 n a b (b==16))))
def z42:Nat->Int->Int->Bool->Ot Int
 |0,_,_,_=>none
 |n+1,a,b,c=>
  pIf c
   (kzy n 1)
   (pIf (b==1)
     (z6l n a b true)
     (z6l n a b (b==2)))
def z6l:Nat->Int->Int->Bool->Ot Int
 |0,_,_,_=>none
 |n+1,a,b,c=>
  pIf c
   (kzy n 0)
   (pIf (b==18)
     (kzy n (-1))
     (kzy n a))
def z6h:Nat->Option Int
 |0=>none
 |n+1=>
  kzy n 2
def kzy:Nat->Int->Ot Int
 |0,_=>none
 |n+1,a=>
  some a
end
def y9w:LSh:=⟨[(2,dI)],[],0,30,[]⟩
noncomputable def zmx:FI dat:=FI.of dat 194 30 0 [dU] [] [dI] [] true y9w (R:=Int) Prod.fst (·,()) (λn=>u1 (z9r n))
 (λn=>[(0,⟨⟨[(3,dI),(4,dU),(7,dB)],[],0,30,[]⟩,u3 (zzo n)⟩),(1,⟨⟨[(3,dI),(4,dU),(16,dB)],[],0,30,[]⟩,u3 (z43 n)⟩),(2,⟨⟨[(3,dI),(4,dU),(20,dB)],[],0,30,[]⟩,u3 (z42 n)⟩),(3,⟨⟨[(3,dI),(4,dU),(24,dB)],[],0,30,[]⟩,u3 (z6l n)⟩),(4,⟨⟨[],[],0,30,[]⟩,λx=>z6h n⟩),(5,⟨⟨[(3,dI)],[],0,30,[]⟩,u1 (kzy n)⟩)]) (anb [(57,0),(71,1),(85,2),(95,3),(107,4),(119,5)] f194)
theorem y6a:FOk prog zmx:=okF (bs:=[]) trivial func194 ntmps194 call194
 (λ_ _=>tr (z9r.eq_2 ..))
 (λn=>⟨λ_=>tr (zzo.eq_2 ..),
  λ_=>tr (z43.eq_2 ..),
  λ_=>tr (z42.eq_2 ..),
  λ_=>tr (z6l.eq_2 ..),
  λx=>(z6h.eq_2 n).trans (by kernel_rfl),
  λ_=>tr (kzy.eq_2 _ n),
  trivial⟩)
mutual
def z3u:Nat->zz0->Ot (Int×Int)
 |0,_=>none
 |n+1,a=>
  pIf (a.kind==4)
   (z0v n 0 1 1 a.list (a.list.length:Int))
   (z0w n 1 1)
def z0v:Nat->Int->Int->Int->zzr->Int->Ot (Int×Int)
 |0,_,_,_,_,_=>none
 |n+1,a,b,c,d,e=>
  pIf (decide (a<e))
   ((ix d a).bind λx0=>
   (z3u n x0.re).bind λy1=>
   z0v n (IntKind.i64.wrap (a+1)) (mxI b (IntKind.i64.wrap (y1.2+1))) (IntKind.i64.wrap (c+y1.1)) d e)
   (z0w n b c)
def z0w:Nat->Int->Int->Ot (Int×Int)
 |0,_,_=>none
 |n+1,a,b=>
  some (b,a)
end
def y0e:LSh:=⟨[(2,dI),(3,dI)],[],0,33,[]⟩
noncomputable def z9n:FI dat:=FI.of dat 237 33 0 [dT 4] [] [dI,dI] [] true y0e (R:=Int×Int) (λx=>(x.1,x.2.1)) (λr=>(r.1,r.2,())) (λn=>u1 (z3u n))
 (λn=>[(0,⟨⟨[(14,dI),(3,dI),(2,dI),(12,dL 4),(13,dI)],[],0,33,[]⟩,u5 (z0v n)⟩),(1,⟨⟨[(3,dI),(2,dI)],[],0,33,[]⟩,u2 (z0w n)⟩)]) (anb [(11,0),(29,1)] f237)
noncomputable def zyp:List (FI dat):=[z9n]++[]
theorem zyx:(z9n).Good prog dat (tb zyp):=FI.z2e (hD:=kze _) func237 ntmps237 call237 (by kernel_rfl) (Qac (by kernel_rfl)) (by kernel_rfl) (λn=>by kernel_rfl) (λx=>by kernel_rfl) (λ_=>rfl) ⟨λ_=>rfl,λ_=>rfl,trivial⟩
 (λ_ _=>tr (z3u.eq_2 ..))
 (λn=>⟨λ_=>tr (z0v.eq_2 ..),
  λ_=>tr (z0w.eq_2 _ _ n),
  trivial⟩)
 (λx=>.inl rfl)
theorem zyn:OkL prog [z9n]:=z8d (kze _) (bs:=[]) trivial ⟨zyx,trivial⟩
theorem zwd:FOk prog z9n:=zyn.1
def z83:Nat->Int->Ot Int
 |0,_=>none
 |n+1,a=>
  pIf (decide (a<0))
   (some (IntKind.u64.wrap (0-(IntKind.u64.wrap a))))
   (some (IntKind.u64.wrap a))
def y8f:LSh:=⟨[(2,(.d (.int .u64)))],[],0,10,[]⟩
noncomputable def zvk:FI dat:=FI.of dat 284 10 0 [dI] [] [(.d (.int .u64))] [] true y8f (R:=Int) Prod.fst (·,()) (λn=>u1 (z83 n))
 (λn=>[]) (anb [] f284)
theorem y5d:FOk prog zvk:=okF (bs:=[]) trivial func284 ntmps284 call284
 (λn=>λ_=>tr (z83.eq_2 _ n))
 (λn=>trivial)
mutual
def zbw:Nat->Int->Int->Ot Int
 |0,_,_=>none
 |n+1,a,b=>
  z5o n b a
def z5o:Nat->Int->Int->Ot Int
 |0,_,_=>none
 |n+1,a,b=>
  pIf (a != 0)
   ((rem .u64 b a).bind λx0=>
   z5o n x0 a)
   (some b)
end
def yds:LSh:=⟨[(4,(.d (.int .u64)))],[],0,12,[]⟩
noncomputable def zxf:FI dat:=FI.of dat 285 12 0 [(.d (.int .u64)),(.d (.int .u64))] [] [(.d (.int .u64))] [] true yds (R:=Int) Prod.fst (·,()) (λn=>u2 (zbw n))
 (λn=>[(0,⟨⟨[(1,(.d (.int .u64))),(0,(.d (.int .u64)))],[],0,12,[]⟩,u2 (z5o n)⟩)]) (anb [(4,0)] f285)
theorem yam:FOk prog zxf:=okF (bs:=[]) trivial func285 ntmps285 call285
 (λ_ _=>tr (zbw.eq_2 ..))
 (λn=>⟨λ_=>tr (z5o.eq_2 ..),
  trivial⟩)
mutual
def z52:Nat->yz4->Ot Int
 |0,_=>none
 |n+1,a=>
  pIf (decide (a.den<1))
   (z03 n true)
   (pIf (decide (a.den>1000000000))
     (z03 n true)
     ((z83 n a.num).bind λy0=>
     pIf (decide (y0>1000000000))
      (z03 n true)
      ((z83 n a.num).bind λy1=>
      (zbw n y1 (IntKind.u64.wrap a.den)).bind λy2=>
      z03 n (y2 != 1))))
def z03:Nat->Bool->Ot Int
 |0,_=>none
 |n+1,a=>
  pIf a
   (some 8)
   (some 0)
end
def y59:LSh:=⟨[(2,dI)],[],0,27,[]⟩
noncomputable def zcs:FI dat:=FI.of dat 267 27 0 [dT 3] [] [dI] [] true y59 (R:=Int) Prod.fst (·,()) (λn=>u1 (z52 n))
 (λn=>[(0,⟨⟨[(26,dB)],[],0,27,[]⟩,u1 (z03 n)⟩)]) (anb [(5,0)] f267)
theorem ziv:FOk prog zcs:=okF (bs:=[zvk,zxf]) ⟨y5d,yam,trivial⟩ func267 ntmps267 call267
 (λ_ _=>tr (z52.eq_2 ..))
 (λn=>⟨λ_=>tr (z03.eq_2 _ n),
  trivial⟩)
mutual
def z7z:Nat->zz0->Ot Bool
 |0,_=>none
 |n+1,a=>
  pIf (a.kind==1)
   ((z52 n a.num).bind λy0=>
   pIf (y0 != 0)
    (some false)
    (z0q n (zz0.mk a.kind (yz4.mk 0 0) a.truth a.str a.list)))
   (pIf (a.kind==2)
     (z0q n (zz0.mk a.kind a.num false a.str a.list))
     (pIf (a.kind==3)
       (pIf (decide ((a.str.length:Int)>60))
         (some false)
         (z4h n 0 a.re (zz0.mk a.kind a.num a.truth [] a.list)))
       (pIf (a.kind==4)
         (z3w n 0 a.list (a.list.length:Int) (zz0.mk a.kind a.num a.truth a.str []))
         (some false))))
def z4h:Nat->Int->zz0->zz0->Ot Bool
 |0,_,_,_=>none
 |n+1,a,b,c=>
  pIf (decide (a<(b.str.length:Int)))
   ((ix b.str a).bind λx1=>
   pIf (decide ((x1.toNat:Int)<32))
    (z3v n a true b.re c.re)
    ((ix b.str a).bind λx2=>
    z3v n a (decide ((x2.toNat:Int)>126)) b.re c.re))
   (z0q n c.re)
def z3v:Nat->Int->Bool->zz0->zz0->Ot Bool
 |0,_,_,_,_=>none
 |n+1,a,b,c,d=>
  pIf b
   (some false)
   (z4h n (IntKind.i64.wrap (a+1)) c.re d.re)
def z3w:Nat->Int->zzr->Int->zz0->Ot Bool
 |0,_,_,_,_=>none
 |n+1,a,b,c,d=>
  pIf (decide (a<c))
   ((ix b a).bind λx3=>
   (z7z n x3.re).bind λy4=>
   pIf (!y4)
    (some false)
    (z3w n (IntKind.i64.wrap (a+1)) b c d.re))
   (z0q n d.re)
def z0q:Nat->zz0->Ot Bool
 |0,_=>none
 |n+1,a=>
  pIf ((a.num.num==0)&&((a.num.den==0)&&true))
   (pIf (!a.truth)
     (pIf (a.str==[])
       (some ((a.list.length:Int)==0))
       (some false))
     (some false))
   (some false)
end
def ya1:LSh:=⟨[(2,dB)],[],0,81,[]⟩
noncomputable def zea:FI dat:=FI.of dat 238 81 0 [dT 4] [] [dB] [] true ya1 (R:=Bool) Prod.fst (·,()) (λn=>u1 (z7z n))
 (λn=>[(0,⟨⟨[(4,dI),(1,(.ptr 0 0)),(3,(.ptr 1 0))],[(.st 4),(.st 4)],0,81,[]⟩,u3 (z4h n)⟩),(1,⟨⟨[(1,(.ptr 0 0)),(3,(.ptr 1 0)),(4,dI),(46,dB)],[(.st 4),(.st 4)],0,81,[]⟩,u4 (z3v n)⟩),(2,⟨⟨[(53,dI),(51,dL 4),(3,(.ptr 0 0)),(52,dI)],[(.st 4)],0,81,[]⟩,u4 (z3w n)⟩),(3,⟨⟨[(3,(.ptr 0 0))],[(.st 4)],0,81,[]⟩,u1 (z0q n)⟩)]) (anb [(40,0),(51,1),(65,2),(87,3)] f238)
noncomputable def y94:List (FI dat):=[zea]++[zcs]
theorem y8z:(zea).Good prog dat (tb y94):=FI.z2e (hD:=kze _) func238 ntmps238 call238 (by kernel_rfl) (Qac (by kernel_rfl)) (by kernel_rfl) (λn=>by kernel_rfl) (λx=>by kernel_rfl) (λ_=>rfl) ⟨λ_=>rfl,λ_=>rfl,λ_=>rfl,λ_=>rfl,trivial⟩
 (λ_ _=>tr (z7z.eq_2 ..))
 (λn=>⟨λ_=>tr (z4h.eq_2 ..),
  λ_=>tr (z3v.eq_2 ..),
  λ_=>tr (z3w.eq_2 ..),
  λ_=>tr (z0q.eq_2 _ n),
  trivial⟩)
 (λx=>.inl rfl)
theorem ya0:OkL prog [zea]:=z8d (kze _) (bs:=[zcs]) ⟨ziv,trivial⟩ ⟨y8z,trivial⟩
theorem y6b:FOk prog zea:=ya0.1
mutual
def z4w:Nat->zz0->Ot Int
 |0,_=>none
 |n+1,a=>
  (z3u n a.re).bind λy0=>
  pIf (decide (y0.1>100))
   (z2s n true a.re)
   (z2s n (decide (y0.2>6)) a.re)
def z2s:Nat->Bool->zz0->Ot Int
 |0,_,_=>none
 |n+1,a,b=>
  pIf a
   (some 4)
   ((z7z n b.re).bind λy1=>
   pIf (!y1)
    (some 8)
    (some 0))
end
def y54:LSh:=⟨[(2,dI)],[],0,19,[]⟩
noncomputable def zcj:FI dat:=FI.of dat 195 19 0 [dT 4] [] [dI] [] true y54 (R:=Int) Prod.fst (·,()) (λn=>u1 (z4w n))
 (λn=>[(0,⟨⟨[(1,(.ptr 0 0)),(15,dB)],[(.st 4)],0,19,[]⟩,u2 (z2s n)⟩)]) (anb [(7,0)] f195)
theorem zi6:FOk prog zcj:=okF (bs:=[z9n,zea]) ⟨zwd,y6b,trivial⟩ func195 ntmps195 call195
 (λ_ _=>tr (z4w.eq_2 ..))
 (λn=>⟨λ_=>tr (z2s.eq_2 ..),
  trivial⟩)
def z9s:Nat->B8->Ot Bool
 |0,_=>none
 |n+1,a=>
  (z86 n a).bind λy0=>
  pIf y0
   (pIf (!(a==[116,114,117,101]))
     (some (!(a==[102,97,108,115,101])))
     (some false))
   (some false)
def y96:LSh:=⟨[(2,dB)],[],0,13,[]⟩
noncomputable def zmp:FI dat:=FI.of dat 196 13 0 [dS] [] [dB] [] true y96 (R:=Bool) Prod.fst (·,()) (λn=>u1 (z9s n))
 (λn=>[]) (anb [] f196)
theorem y6u:FOk prog zmp:=okF (bs:=[zn8]) ⟨zs5,trivial⟩ func196 ntmps196 call196
 (λ_ _=>tr (z9s.eq_2 ..))
 (λn=>trivial)
mutual
def z27:Nat->zz0->zz0->Ot Bool
 |0,_,_=>none
 |n+1,a,b=>
  pIf (a.kind != b.kind)
   (yzx n true b.re a.re)
   (pIf (!((a.num.num==b.num.num)&&((a.num.den==b.num.den)&&true)))
     (yzx n true b.re a.re)
     (pIf (!(a.truth==b.truth))
       (yzx n true b.re a.re)
       (pIf (!(a.str==b.str))
         (yzx n true b.re a.re)
         (yzx n ((a.list.length:Int) != (b.list.length:Int)) b.re a.re))))
def yzx:Nat->Bool->zz0->zz0->Ot Bool
 |0,_,_,_=>none
 |n+1,a,b,c=>
  pIf a
   (some false)
   (z4e n 0 (c.list.length:Int) b.re c.re)
def z4e:Nat->Int->Int->zz0->zz0->Ot Bool
 |0,_,_,_,_=>none
 |n+1,a,b,c,d=>
  pIf (decide (a<b))
   ((ix d.list a).bind λx0=>
   (ix c.list a).bind λx1=>
   (z27 n x0.re x1.re).bind λy2=>
   pIf (!y2)
    (some false)
    (z4e n (IntKind.i64.wrap (a+1)) b c.re d.re))
   (some true)
end
def y8m:LSh:=⟨[(4,dB)],[],0,60,[]⟩
noncomputable def zbe:FI dat:=FI.of dat 143 60 0 [dT 4,dT 4] [] [dB] [] true y8m (R:=Bool) Prod.fst (·,()) (λn=>u2 (z27 n))
 (λn=>[(0,⟨⟨[(3,(.ptr 0 0)),(2,(.ptr 1 0)),(40,dB)],[(.st 4),(.st 4)],0,60,[]⟩,u3 (yzx n)⟩),(1,⟨⟨[(44,dI),(3,(.ptr 0 0)),(2,(.ptr 1 0)),(43,dI)],[(.st 4),(.st 4)],0,60,[]⟩,u4 (z4e n)⟩)]) (anb [(5,0),(14,1)] f143)
noncomputable def y8c:List (FI dat):=[zbe]++[]
theorem y8s:(zbe).Good prog dat (tb y8c):=FI.z2e (hD:=kze _) func143 ntmps143 call143 (by kernel_rfl) (Qac (by kernel_rfl)) (by kernel_rfl) (λn=>by kernel_rfl) (λx=>by kernel_rfl) (λ_=>rfl) ⟨λ_=>rfl,λ_=>rfl,trivial⟩
 (λ_ _=>tr (z27.eq_2 ..))
 (λn=>⟨λ_=>tr (yzx.eq_2 ..),
  λ_=>tr (z4e.eq_2 ..),
  trivial⟩)
 (λx=>.inl rfl)
theorem y9l:OkL prog [zbe]:=z8d (kze _) (bs:=[]) trivial ⟨y8s,trivial⟩
theorem y6g:FOk prog zbe:=y9l.1
mutual
def z9e:Nat->kz0->Ot Bool
 |0,_=>none
 |n+1,a=>
  (z9r n a.op).bind λy0=>
  pIf (y0==(-2))
   (z3c n true a.re)
   (pIf (decide (y0>=0))
     (z3c n ((a.args.length:Int) != y0) a.re)
     (z3c n false a.re))
def z3c:Nat->Bool->kz0->Ot Bool
 |0,_,_=>none
 |n+1,a,b=>
  pIf a
   (some false)
   (pIf (b.op==1)
     ((z4w n b.value.re).bind λy1=>
     pIf (y1 != 0)
      (z3b n true b.re)
      (pIf (b.value.kind==4)
        (z3b n true b.re)
        (z3b n (!(b.name==[])) b.re)))
     (pIf (b.op==2)
       ((z9s n b.name).bind λy2=>
       pIf (!y2)
        (z5q n true b.re)
        ((z27 n b.value.re (zz0.mk 0 (yz4.mk 0 0) false [] [])).bind λy3=>
        z5q n (!y3) b.re))
       (pIf (!(b.name==[]))
         (z5r n true b.re)
         ((z27 n b.value.re (zz0.mk 0 (yz4.mk 0 0) false [] [])).bind λy4=>
         z5r n (!y4) b.re))))
def z3b:Nat->Bool->kz0->Ot Bool
 |0,_,_=>none
 |n+1,a,b=>
  pIf a
   (some false)
   (z3d n b.re)
def z5q:Nat->Bool->kz0->Ot Bool
 |0,_,_=>none
 |n+1,a,b=>
  pIf a
   (some false)
   (z3d n b.re)
def z5r:Nat->Bool->kz0->Ot Bool
 |0,_,_=>none
 |n+1,a,b=>
  pIf a
   (some false)
   (z3d n b.re)
def z3d:Nat->kz0->Ot Bool
 |0,_=>none
 |n+1,a=>
  (yza n a.args).bind λy5=>
  some (!y5)
def yza:Nat->zz7->Ot Bool
 |0,_=>none
 |n+1,a=>
  (kzb n a).bind λy0=>
  some (decide (y0>=0))
def kzb:Nat->zz7->Ot Int
 |0,_=>none
 |n+1,a=>
  zz6 n 0 a (a.length:Int)
def zz6:Nat->Int->zz7->Int->Ot Int
 |0,_,_,_=>none
 |n+1,a,b,c=>
  pIf (decide (a<c))
   ((ix b a).bind λx0=>
   (z8m n x0.re).bind λy1=>
   pIf y1
    (some a)
    (zz6 n (IntKind.i64.wrap (a+1)) b c))
   (some (-1))
def z8m:Nat->kz0->Ot Bool
 |0,_=>none
 |n+1,a=>
  (z9e n a.re).bind λy0=>
  some (!y0)
end
def ybv:LSh:=⟨[(2,dB)],[],0,66,[]⟩
noncomputable def zg3:FI dat:=FI.of dat 151 66 0 [dT 5] [] [dB] [] true ybv (R:=Bool) Prod.fst (·,()) (λn=>u1 (z9e n))
 (λn=>[(0,⟨⟨[(1,(.ptr 0 0)),(19,dB)],[(.st 5)],0,66,[]⟩,u2 (z3c n)⟩),(1,⟨⟨[(1,(.ptr 0 0)),(48,dB)],[(.st 5)],0,66,[]⟩,u2 (z3b n)⟩),(2,⟨⟨[(1,(.ptr 0 0)),(61,dB)],[(.st 5)],0,66,[]⟩,u2 (z5q n)⟩),(3,⟨⟨[(1,(.ptr 0 0)),(31,dB)],[(.st 5)],0,66,[]⟩,u2 (z5r n)⟩),(4,⟨⟨[(1,(.ptr 0 0))],[(.st 5)],0,66,[]⟩,u1 (z3d n)⟩)]) (anb [(7,0),(21,1),(31,2),(38,3),(43,4)] f151)
def z95:LSh:=⟨[(4,dB)],[],0,9,[]⟩
noncomputable def yzv:FI dat:=FI.of dat 36 9 0 [dL 5,(.fn 197 [] [])] [] [dB] [] true z95 (R:=Bool) Prod.fst (·,()) (λn=>u1 (yza n))
 (λn=>[]) (anb [] f36)
def zaj:LSh:=⟨[(4,dI)],[],0,19,[]⟩
noncomputable def z07:FI dat:=FI.of dat 95 19 0 [dL 5,(.fn 197 [] [])] [] [dI] [] true zaj (R:=Int) Prod.fst (·,()) (λn=>u1 (kzb n))
 (λn=>[(0,⟨⟨[(8,dI),(0,dL 5),(1,(.fn 197 [] [])),(7,dI)],[],0,19,[]⟩,u3 (zz6 n)⟩)]) (anb [(6,0)] f95)
def y64:LSh:=⟨[(2,dB)],[],0,6,[]⟩
noncomputable def zkt:FI dat:=FI.of dat 197 6 0 [dT 5] [] [dB] [] true y64 (R:=Bool) Prod.fst (·,()) (λn=>u1 (z8m n))
 (λn=>[]) (anb [] f197)
noncomputable def zk6:List (FI dat):=[zg3,yzv,z07,zkt]++[zmx,zcj,zmp,zbe]
theorem ydn:(zg3).Good prog dat (tb zk6):=FI.z2e (hD:=kze _) func151 ntmps151 call151 (by kernel_rfl) (Qac (by kernel_rfl)) (by kernel_rfl) (λn=>by kernel_rfl) (λx=>by kernel_rfl) (λ_=>rfl) ⟨λ_=>rfl,λ_=>rfl,λ_=>rfl,λ_=>rfl,λ_=>rfl,trivial⟩
 (λ_ _=>tr (z9e.eq_2 ..))
 (λn=>⟨λ_=>tr (z3c.eq_2 ..),
  λ_=>tr (z3b.eq_2 ..),
  λ_=>tr (z5q.eq_2 ..),
  λ_=>tr (z5r.eq_2 ..),
  λ_=>tr (z3d.eq_2 ..),
  trivial⟩)
 (λx=>.inl rfl)
theorem z9a:(yzv).Good prog dat (tb zk6):=FI.z2e (hD:=kze _) func36 ntmps36 call36 (by kernel_rfl) (Qac (by kernel_rfl)) (by kernel_rfl) (λn=>by kernel_rfl) (λx=>by kernel_rfl) (λ_=>rfl) trivial
 (λ_ _=>tr (yza.eq_2 ..))
 (λn=>trivial)
 (λx=>.inl rfl)
theorem zan:(z07).Good prog dat (tb zk6):=FI.z2e (hD:=kze _) func95 ntmps95 call95 (by kernel_rfl) (Qac (by kernel_rfl)) (by kernel_rfl) (λn=>by kernel_rfl) (λx=>by kernel_rfl) (λ_=>rfl) ⟨λ_=>rfl,trivial⟩
 (λ_ _=>tr (kzb.eq_2 ..))
 (λn=>⟨λ_=>tr (zz6.eq_2 ..),
  trivial⟩)
 (λx=>.inl rfl)
theorem y50:(zkt).Good prog dat (tb zk6):=FI.z2e (hD:=kze _) func197 ntmps197 call197 (by kernel_rfl) (Qac (by kernel_rfl)) (by kernel_rfl) (λn=>by kernel_rfl) (λx=>by kernel_rfl) (λ_=>rfl) trivial
 (λ_ _=>tr (z8m.eq_2 ..))
 (λn=>trivial)
 (λx=>.inl rfl)
theorem ybs:OkL prog [zg3,yzv,z07,zkt]:=z8d (kze _) (bs:=[zmx,zcj,zmp,zbe]) ⟨y6a,zi6,y6u,y6g,trivial⟩ ⟨ydn,z9a,zan,y50,trivial⟩
theorem yap:FOk prog zg3:=ybs.1
mutual
def yzy:Nat->kz0->Ot Int
 |0,_=>none
 |n+1,a=>
  (z5s n a.re).bind λy0=>
  pIf (decide (y0.1>100))
   (z4c n true a.re)
   (z4c n (decide (y0.2>12)) a.re)
def z4c:Nat->Bool->kz0->Ot Int
 |0,_,_=>none
 |n+1,a,b=>
  pIf a
   (some 4)
   ((z9e n b.re).bind λy1=>
   pIf (!y1)
    (some 8)
    (some 0))
end
def y95:LSh:=⟨[(2,dI)],[],0,19,[]⟩
noncomputable def zbp:FI dat:=FI.of dat 89 19 0 [dT 5] [] [dI] [] true y95 (R:=Int) Prod.fst (·,()) (λn=>u1 (yzy n))
 (λn=>[(0,⟨⟨[(1,(.ptr 0 0)),(15,dB)],[(.st 5)],0,19,[]⟩,u2 (z4c n)⟩)]) (anb [(7,0)] f89)
theorem zcn:FOk prog zbp:=okF (bs:=[zar,zg3]) ⟨zyv,yap,trivial⟩ func89 ntmps89 call89
 (λ_ _=>tr (yzy.eq_2 ..))
 (λn=>⟨λ_=>tr (z4c.eq_2 ..),
  trivial⟩)
def z5d:Nat->B8->Ot Bool
 |0,_=>none
 |n+1,a=>
  (z1b n a).bind λy0=>
  some (!y0)
def zwr:LSh:=⟨[(2,dB)],[],0,6,[]⟩
noncomputable def zm1:FI dat:=FI.of dat 91 6 0 [dS] [] [dB] [] true zwr (R:=Bool) Prod.fst (·,()) (λn=>u1 (z5d n))
 (λn=>[]) (anb [] f91)
theorem zvg:FOk prog zm1:=okF (bs:=[zfb]) ⟨zik,trivial⟩ func91 ntmps91 call91
 (λ_ _=>tr (z5d.eq_2 ..))
 (λn=>trivial)
mutual
def yzn:Nat->(List B8)->Ot Int
 |0,_=>none
 |n+1,a=>
  yzg n 0 a (a.length:Int)
def yzg:Nat->Int->(List B8)->Int->Ot Int
 |0,_,_,_=>none
 |n+1,a,b,c=>
  pIf (decide (a<c))
   ((ix b a).bind λx0=>
   (z5d n x0).bind λy1=>
   pIf y1
    (some a)
    (yzg n (IntKind.i64.wrap (a+1)) b c))
   (some (-1))
end
def ze3:LSh:=⟨[(4,dI)],[],0,19,[]⟩
noncomputable def z7m:FI dat:=FI.of dat 152 19 0 [dA,(.fn 91 [] [])] [] [dI] [] true ze3 (R:=Int) Prod.fst (·,()) (λn=>u1 (yzn n))
 (λn=>[(0,⟨⟨[(8,dI),(0,dA),(1,(.fn 91 [] [])),(7,dI)],[],0,19,[]⟩,u3 (yzg n)⟩)]) (anb [(6,0)] f152)
theorem zdi:FOk prog z7m:=okF (bs:=[zm1]) ⟨zvg,trivial⟩ func152 ntmps152 call152
 (λ_ _=>tr (yzn.eq_2 ..))
 (λn=>⟨λ_=>tr (yzg.eq_2 ..),
  trivial⟩)
def zzg:Nat->(List B8)->Ot Bool
 |0,_=>none
 |n+1,a=>
  (yzn n a).bind λy0=>
  some (decide (y0>=0))
def zcq:LSh:=⟨[(4,dB)],[],0,9,[]⟩
noncomputable def z6g:FI dat:=FI.of dat 90 9 0 [dA,(.fn 91 [] [])] [] [dB] [] true zcq (R:=Bool) Prod.fst (·,()) (λn=>u1 (zzg n))
 (λn=>[]) (anb [] f90)
theorem zcf:FOk prog z6g:=okF (bs:=[z7m]) ⟨zdi,trivial⟩ func90 ntmps90 call90
 (λ_ _=>tr (zzg.eq_2 ..))
 (λn=>trivial)
def z26:Nat->zz7->Ot kz0
 |0,_=>none
 |n+1,a=>
  some (kz0.mk 18 (zz0.mk 0 (yz4.mk 0 0) false [] []) [] a)
def yb4:LSh:=⟨[(2,(.ptr 0 0))],[(.st 5)],0,5,[]⟩
noncomputable def zmn:FI dat:=FI.of dat 127 5 0 [dL 5] [] [dT 5] [] true yb4 (R:=kz0) Prod.fst (·,()) (λn=>u1 (z26 n))
 (λn=>[]) (anb [] f127)
theorem zsh:FOk prog zmn:=okF (bs:=[]) trivial func127 ntmps127 call127
 (λn=>λ_=>tr (z26.eq_2 _ n))
 (λn=>trivial)
mutual
def z7f:Nat->Int->Ot Int
 |0,_=>none
 |n+1,a=>
  pIf (a==2)
   (z5n n a true)
   (z5n n a (a==3))
def z5n:Nat->Int->Bool->Ot Int
 |0,_,_=>none
 |n+1,a,b=>
  pIf b
   (some 3)
   (pIf (a==4)
     (z5p n true)
     (z5p n (a==6)))
def z5p:Nat->Bool->Ot Int
 |0,_=>none
 |n+1,a=>
  pIf a
   (some 1)
   (some 0)
end
def ybp:LSh:=⟨[(2,dI)],[],0,10,[]⟩
noncomputable def zov:FI dat:=FI.of dat 96 10 0 [dU] [] [dI] [] true ybp (R:=Int) Prod.fst (·,()) (λn=>u1 (z7f n))
 (λn=>[(0,⟨⟨[(3,dU),(4,dB)],[],0,10,[]⟩,u2 (z5n n)⟩),(1,⟨⟨[(7,dB)],[],0,10,[]⟩,u1 (z5p n)⟩)]) (anb [(12,0),(22,1)] f96)
theorem zu7:FOk prog zov:=okF (bs:=[]) trivial func96 ntmps96 call96
 (λ_ _=>tr (z7f.eq_2 ..))
 (λn=>⟨λ_=>tr (z5n.eq_2 ..),
  λ_=>tr (z5p.eq_2 _ n),
  trivial⟩)
mutual
def z38:Nat->kz3->Ot Bool
 |0,_=>none
 |n+1,a=>
  pIf (decide (a.kind>=1))
   (kzv n (decide (a.kind<=4)) a)
   (kzv n false a)
def kzv:Nat->Bool->kz3->Ot Bool
 |0,_,_=>none
 |n+1,a,b=>
  pIf (b.kind==4)
   (zzv n a 0 true b)
   (zzv n a 0 (b.kind==5) b)
def zzv:Nat->Bool->Int->Bool->kz3->Ot Bool
 |0,_,_,_,_=>none
 |n+1,a,b,c,d=>
  pIf c
   (kzu n a 2 d)
   (kzu n a b d)
def kzu:Nat->Bool->Int->kz3->Ot Bool
 |0,_,_,_=>none
 |n+1,a,b,c=>
  pIf (decide (c.kind<1))
   (yzp n a true c)
   (pIf (decide (c.kind>6))
     (yzp n a true c)
     (yzp n a (decide (c.axis>b)) c))
def yzp:Nat->Bool->Bool->kz3->Ot Bool
 |0,_,_,_=>none
 |n+1,a,b,c=>
  pIf b
   (some false)
   ((z1b n c.name).bind λy0=>
   pIf (!(a==y0))
    (kzp n a true c)
    (pIf (!a)
      (kzp n a (!(c.name==[])) c)
      (kzp n a false c)))
def kzp:Nat->Bool->Bool->kz3->Ot Bool
 |0,_,_,_=>none
 |n+1,a,b,c=>
  pIf b
   (some false)
   ((z26 n c.args).bind λy1=>
   (yzy n y1.re).bind λy2=>
   pIf (y2 != 0)
    (kzl n true c)
    ((z7f n c.kind).bind λy3=>
    pIf (decide ((c.args.length:Int)<y3))
     (kzl n true c)
     (pIf (!a)
       ((z7f n c.kind).bind λy4=>
       kzl n ((c.args.length:Int) != y4) c)
       (kzl n false c))))
def kzl:Nat->Bool->kz3->Ot Bool
 |0,_,_=>none
 |n+1,a,b=>
  pIf a
   (some false)
   (pIf (!((b.kind==5)==(decide ((b.items.length:Int)>0))))
     (some false)
     (zzp n 0 b.items (b.items.length:Int)))
def zzp:Nat->Int->znj->Int->Ot Bool
 |0,_,_,_=>none
 |n+1,a,b,c=>
  pIf (decide (a<c))
   ((ix b a).bind λx5=>
   pIf (decide (x5.kind<1))
    (yzi n b c a true)
    (pIf (decide (x5.kind>3))
      (yzi n b c a true)
      ((z1b n x5.name).bind λy6=>
      pIf (!y6)
       (yzi n b c a true)
       (pIf ((x5.args.length:Int)==0)
         (yzi n b c a true)
         ((z26 n x5.args).bind λy7=>
         (yzy n y7.re).bind λy8=>
         yzi n b c a (y8 != 0))))))
   (some true)
def yzi:Nat->znj->Int->Int->Bool->Ot Bool
 |0,_,_,_,_=>none
 |n+1,a,b,c,d=>
  pIf d
   (some false)
   (zzp n (IntKind.i64.wrap (c+1)) a b)
end
def zsx:LSh:=⟨[(2,dB)],[],0,125,[]⟩
noncomputable def zic:FI dat:=FI.of dat 92 125 0 [dT 8] [] [dB] [] true zsx (R:=Bool) Prod.fst (·,()) (λn=>u1 (z38 n))
 (λn=>[(0,⟨⟨[(1,(.ptr 0 0)),(3,dB)],[(.st 8)],0,125,[]⟩,u2 (kzv n)⟩),(1,⟨⟨[(1,(.ptr 0 0)),(3,dB),(4,dU),(22,dB)],[(.st 8)],0,125,[]⟩,u4 (zzv n)⟩),(2,⟨⟨[(1,(.ptr 0 0)),(3,dB),(4,dU)],[(.st 8)],0,125,[]⟩,u3 (kzu n)⟩),(3,⟨⟨[(1,(.ptr 0 0)),(3,dB),(23,dB)],[(.st 8)],0,125,[]⟩,u3 (yzp n)⟩),(4,⟨⟨[(1,(.ptr 0 0)),(3,dB),(38,dB)],[(.st 8)],0,125,[]⟩,u3 (kzp n)⟩),(5,⟨⟨[(1,(.ptr 0 0)),(53,dB)],[(.st 8)],0,125,[]⟩,u2 (kzl n)⟩),(6,⟨⟨[(93,dI),(91,dL 7),(92,dI)],[],0,125,[]⟩,u3 (zzp n)⟩),(7,⟨⟨[(91,dL 7),(92,dI),(93,dI),(123,dB)],[],0,125,[]⟩,u4 (yzi n)⟩)]) (anb [(4,0),(9,1),(12,2),(16,3),(22,4),(28,5),(43,6),(56,7)] f92)
theorem zra:FOk prog zic:=okF (bs:=[zfb,zmn,zbp,zov]) ⟨zik,zsh,zcn,zu7,trivial⟩ func92 ntmps92 call92
 (λ_ _=>tr (z38.eq_2 ..))
 (λn=>⟨λ_=>tr (kzv.eq_2 ..),
  λ_=>tr (zzv.eq_2 ..),
  λ_=>tr (kzu.eq_2 ..),
  λ_=>tr (yzp.eq_2 ..),
  λ_=>tr (kzp.eq_2 ..),
  λ_=>tr (kzl.eq_2 ..),
  λ_=>tr (zzp.eq_2 ..),
  λ_=>tr (yzi.eq_2 ..),
  trivial⟩)
mutual
def z77:Nat->yz0->Ot Bool
 |0,_=>none
 |n+1,a=>
  z0k n 0 a.attrs (a.attrs.length:Int) a
def z0k:Nat->Int->zzx->Int->yz0->Ot Bool
 |0,_,_,_,_=>none
 |n+1,a,b,c,d=>
  pIf (decide (a<c))
   ((ix b a).bind λx0=>
   (z1b n x0.name).bind λy1=>
   pIf (!y1)
    (z1p n b c a true d)
    ((yzy n x0.value.re).bind λy2=>
    z1p n b c a (y2 != 0) d))
   (z0c n 0 d.rules (d.rules.length:Int))
def z1p:Nat->zzx->Int->Int->Bool->yz0->Ot Bool
 |0,_,_,_,_,_=>none
 |n+1,a,b,c,d,e=>
  pIf d
   (some false)
   (z0k n (IntKind.i64.wrap (c+1)) a b e)
def z0c:Nat->Int->yzf->Int->Ot Bool
 |0,_,_,_=>none
 |n+1,a,b,c=>
  pIf (decide (a<c))
   ((ix b a).bind λx3=>
   (z1b n x3.name).bind λy4=>
   pIf (!y4)
    (z1r n b c a true x3)
    ((zzg n x3.params).bind λy5=>
    z1r n b c a y5 x3))
   (some true)
def z1r:Nat->yzf->Int->Int->Bool->yz5->Ot Bool
 |0,_,_,_,_,_=>none
 |n+1,a,b,c,d,e=>
  pIf d
   (some false)
   (z0e n 0 e.cases a b c (e.cases.length:Int))
def z0e:Nat->Int->z0r->yzf->Int->Int->Int->Ot Bool
 |0,_,_,_,_,_,_=>none
 |n+1,a,b,c,d,e,f=>
  pIf (decide (a<f))
   ((ix b a).bind λx6=>
   pIf (decide (x6.weight<1))
    (z0h n b c d e f a true x6.re)
    (pIf (decide (x6.weight>1000000))
      (z0h n b c d e f a true x6.re)
      ((yzy n x6.when_.re).bind λy7=>
      z0h n b c d e f a (y7 != 0) x6.re)))
   (z0c n (IntKind.i64.wrap (e+1)) c d)
def z0h:Nat->z0r->yzf->Int->Int->Int->Int->Bool->kz6->Ot Bool
 |0,_,_,_,_,_,_,_,_=>none
 |n+1,a,b,c,d,e,f,g,h=>
  pIf g
   (some false)
   (z0i n 0 h.do_ a b c d e f (h.do_.length:Int))
def z0i:Nat->Int->z78->z0r->yzf->Int->Int->Int->Int->Int->Ot Bool
 |0,_,_,_,_,_,_,_,_,_=>none
 |n+1,a,b,c,d,e,f,g,h,i=>
  pIf (decide (a<i))
   ((ix b a).bind λx8=>
   (z38 n x8).bind λy9=>
   pIf (!y9)
    (some false)
    (z0i n (IntKind.i64.wrap (a+1)) b c d e f g h i))
   (z0e n (IntKind.i64.wrap (h+1)) c d e f g)
end
def y1h:LSh:=⟨[(2,dB)],[],0,79,[]⟩
noncomputable def zqd:FI dat:=FI.of dat 33 79 0 [dT 11] [] [dB] [] true y1h (R:=Bool) Prod.fst (·,()) (λn=>u1 (z77 n))
 (λn=>[(0,⟨⟨[(14,dI),(12,dL 6),(1,(.ptr 0 0)),(13,dI)],[(.st 11)],0,79,[]⟩,u4 (z0k n)⟩),(1,⟨⟨[(12,dL 6),(1,(.ptr 0 0)),(13,dI),(14,dI),(27,dB)],[(.st 11)],0,79,[]⟩,u5 (z1p n)⟩),(2,⟨⟨[(32,dI),(30,dL 10),(31,dI)],[],0,79,[]⟩,u3 (z0c n)⟩),(3,⟨⟨[(30,dL 10),(31,dI),(32,dI),(6,(.ptr 0 0)),(44,dB)],[(.st 10)],0,79,[]⟩,u5 (z1r n)⟩),(4,⟨⟨[(48,dI),(46,dL 9),(30,dL 10),(31,dI),(32,dI),(47,dI)],[],0,79,[]⟩,u6 (z0e n)⟩),(5,⟨⟨[(46,dL 9),(30,dL 10),(31,dI),(32,dI),(47,dI),(48,dI),(8,(.ptr 0 0)),(65,dB)],[(.st 9)],0,79,[]⟩,u8 (z0h n)⟩),(6,⟨⟨[(69,dI),(67,dL 8),(46,dL 9),(30,dL 10),(31,dI),(32,dI),(47,dI),(48,dI),(68,dI)],[],0,79,[]⟩,u9 (z0i n)⟩)]) (anb [(6,0),(19,1),(29,2),(43,3),(51,4),(65,5),(73,6)] f33)
theorem y02:FOk prog zqd:=okF (bs:=[zfb,zbp,z6g,zic]) ⟨zik,zcn,zcf,zra,trivial⟩ func33 ntmps33 call33
 (λ_ _=>tr (z77.eq_2 ..))
 (λn=>⟨λ_=>tr (z0k.eq_2 ..),
  λ_=>tr (z1p.eq_2 ..),
  λ_=>tr (z0c.eq_2 ..),
  λ_=>tr (z1r.eq_2 ..),
  λ_=>tr (z0e.eq_2 ..),
  λ_=>tr (z0h.eq_2 ..),
  λ_=>tr (z0i.eq_2 ..),
  trivial⟩)
mutual
def yzk:Nat->B8->(List B8)->Ot (Int×(List B8))
 |0,_,_=>none
 |n+1,a,b=>
  kzc n 0 a (b.length:Int) b
def kzc:Nat->Int->B8->Int->(List B8)->Ot (Int×(List B8))
 |0,_,_,_,_=>none
 |n+1,a,b,c,d=>
  pIf (decide (a<c))
   ((ix d a).bind λx0=>
   pIf (b==x0)
    (some (a,d))
    (kzc n (IntKind.i64.wrap (a+1)) b c d))
   (some ((-1),d))
end
def zer:LSh:=⟨[(4,dI)],[(.acc 9 .str true)],1,19,[]⟩
noncomputable def z8b:FI dat:=FI.of dat 35 19 1 [(.own 0),dS] [(.acc 9 .str true)] [dI] [(.acc 9 .str true)] false zer (R:=Int×(List B8)) (λx=>(x.1,x.2.1)) (λr=>(r.1,r.2,())) (λn=>u2 (yzk n))
 (λn=>[(0,⟨⟨[(8,dI),(0,(.own 0)),(1,dS),(7,dI)],[(.acc 9 .str true)],1,19,[]⟩,u4 (kzc n)⟩)]) (anb [(6,0)] f35)
theorem zeg:FOk prog z8b:=okF (bs:=[]) trivial func35 ntmps35 call35
 (λ_ _=>tr (yzk.eq_2 ..))
 (λn=>⟨λ_=>tr (kzc.eq_2 ..),
  trivial⟩)
def yzh:Nat->B8->(List B8)->Ot (Bool×(List B8))
 |0,_,_=>none
 |n+1,a,b=>
  (yzk n a b).bind λy0=>
  some ((decide (y0.1>=0)),y0.2)
def zd9:LSh:=⟨[(4,dB)],[(.acc 9 .str true)],1,9,[]⟩
noncomputable def z1s:FI dat:=FI.of dat 149 9 1 [(.own 0),dS] [(.acc 9 .str true)] [dB] [(.acc 9 .str true)] false zd9 (R:=Bool×(List B8)) (λx=>(x.1,x.2.1)) (λr=>(r.1,r.2,())) (λn=>u2 (yzh n))
 (λn=>[]) (anb [] f149)
theorem zch:FOk prog z1s:=okF (bs:=[z8b]) ⟨zeg,trivial⟩ func149 ntmps149 call149
 (λ_ _=>tr (yzh.eq_2 ..))
 (λn=>trivial)
mutual
def z7y:Nat->kz0->(List B8)->Ot (List B8)
 |0,_,_=>none
 |n+1,a,b=>
  pIf (a.op==2)
   ((yzh n a.name b).bind λy0=>
   z6i n (!y0.1) y0.2 a.re)
   (z6i n false b a.re)
def z6i:Nat->Bool->(List B8)->kz0->Ot (List B8)
 |0,_,_,_=>none
 |n+1,a,b,c=>
  pIf a
   ((ext b [c.name]).bind λx1=>
   z48 n x1 c.re)
   (z48 n b c.re)
def z48:Nat->(List B8)->kz0->Ot (List B8)
 |0,_,_=>none
 |n+1,a,b=>
  z3z n 0 b.args (b.args.length:Int) a
def z3z:Nat->Int->zz7->Int->(List B8)->Ot (List B8)
 |0,_,_,_,_=>none
 |n+1,a,b,c,d=>
  pIf (decide (a<c))
   ((ix b a).bind λx2=>
   (z7y n x2.re d).bind λy3=>
   z3z n (IntKind.i64.wrap (a+1)) b c y3)
   (some d)
end
def y9i:LSh:=⟨[],[(.cells [(.own 1)]),(.acc 9 .str true)],1,38,[]⟩
noncomputable def zds:FI dat:=FI.of dat 153 38 1 [dT 5,(.ptr 0 0)] [(.cells [(.own 1)]),(.acc 9 .str true)] [] [(.cells [(.own 1)]),(.acc 9 .str true)] false y9i (R:=List B8) Prod.fst (·,()) (λn=>u2 (z7y n))
 (λn=>[(0,⟨⟨[(1,(.ptr 0 0)),(2,(.ptr 2 0)),(17,dB)],[(.cells [(.own 1)]),(.acc 9 .str true),(.st 5)],1,38,[]⟩,u3 (z6i n)⟩),(1,⟨⟨[(1,(.ptr 0 0)),(2,(.ptr 2 0))],[(.cells [(.own 1)]),(.acc 9 .str true),(.st 5)],1,38,[]⟩,u2 (z48 n)⟩),(2,⟨⟨[(30,dI),(1,(.ptr 0 0)),(28,dL 5),(29,dI)],[(.cells [(.own 1)]),(.acc 9 .str true)],1,38,[]⟩,u4 (z3z n)⟩)]) (anb [(5,0),(8,1),(11,2)] f153)
noncomputable def y99:List (FI dat):=[zds]++[z1s]
theorem ybe:(zds).Good prog dat (tb y99):=FI.z2e (hD:=kze _) func153 ntmps153 call153 (by kernel_rfl) (Qac (by kernel_rfl)) (by kernel_rfl) (λn=>by kernel_rfl) (λx=>by kernel_rfl) (λ_=>rfl) ⟨λ_=>rfl,λ_=>rfl,λ_=>rfl,trivial⟩
 (λ_ _=>tr (z7y.eq_2 ..))
 (λn=>⟨λ_=>tr (z6i.eq_2 ..),
  λ_=>tr (z48.eq_2 ..),
  λ_=>tr (z3z.eq_2 ..),
  trivial⟩)
 (λx=>.inr (by kernel_rfl))
theorem ybb:OkL prog [zds]:=z8d (kze _) (bs:=[z1s]) ⟨zch,trivial⟩ ⟨ybe,trivial⟩
theorem y78:FOk prog zds:=ybb.1
def z9w:Nat->kz0->Ot ((List B8)×Int)
 |0,_=>none
 |n+1,a=>
  (yzy n a.re).bind λy0=>
  pIf (y0 != 0)
   (some ([],y0))
   ((z7y n a.re []).bind λy1=>
   (kzd n y1).bind λy2=>
   some (y2,0))
def yaf:LSh:=⟨[(2,dA),(3,dI)],[],0,16,[]⟩
noncomputable def zvi:FI dat:=FI.of dat 93 16 0 [dT 5] [] [dA,dI] [] true yaf (R:=(List B8)×Int) (λx=>(x.1,x.2.1)) (λr=>(r.1,r.2,())) (λn=>u1 (z9w n))
 (λn=>[]) (anb [] f93)
theorem y5r:FOk prog zvi:=okF (bs:=[zds,z05,zbp]) ⟨y78,z5u,zcn,trivial⟩ func93 ntmps93 call93
 (λ_ _=>tr (z9w.eq_2 ..))
 (λn=>trivial)
def z79:Nat->B8->(List B8)->(List Bool)->Ot (Bool×(List B8)×(List Bool))
 |0,_,_,_=>none
 |n+1,a,b,c=>
  some ((!(Option.getD (z58 (List.zip b c) a) false)),(mks (List.zip b c)),(mvs (List.zip b c)))
def y2i:LSh:=⟨[(3,dB)],[(.cells [(.map 1)]),(.mp 76 .bool)],2,8,[]⟩
noncomputable def zpm:FI dat:=FI.of dat 94 8 2 [dS,(.ptr 0 0)] [(.cells [(.map 1)]),(.mp 76 .bool)] [dB] [(.cells [(.map 1)]),(.mp 76 .bool)] false y2i (R:=Bool×(List B8)×(List Bool)) (λx=>(x.1,x.2.1,x.2.2.1)) (λr=>(r.1,r.2.1,r.2.2,())) (λn=>u3 (z79 n))
 (λn=>[]) (anb [] f94)
theorem y01:FOk prog zpm:=okF (bs:=[]) trivial func94 ntmps94 call94
 (λn=>λ_=>tr (z79.eq_2 _ _ _ n))
 (λn=>trivial)
mutual
def yzl:Nat->(List B8)->(List B8)->(List Bool)->Ot (Int×(List B8)×(List Bool))
 |0,_,_,_=>none
 |n+1,a,b,c=>
  yz9 n 0 a (a.length:Int) (mks (List.zip b c)) (mvs (List.zip b c))
def yz9:Nat->Int->(List B8)->Int->(List B8)->(List Bool)->Ot (Int×(List B8)×(List Bool))
 |0,_,_,_,_,_=>none
 |n+1,a,b,c,d,e=>
  pIf (decide (a<c))
   ((ix b a).bind λx0=>
   (z79 n x0 (mks (List.zip d e)) (mvs (List.zip d e))).bind λy1=>
   pIf y1.1
    (some (a,(mks (List.zip y1.2.1 y1.2.2)),(mvs (List.zip y1.2.1 y1.2.2))))
    (yz9 n (IntKind.i64.wrap (a+1)) b c (mks (List.zip y1.2.1 y1.2.2)) (mvs (List.zip y1.2.1 y1.2.2))))
   (some ((-1),(mks (List.zip d e)),(mvs (List.zip d e))))
end
def zct:LSh:=⟨[(4,dI)],[(.cells [(.map 1)]),(.mp 76 .bool)],2,19,[]⟩
noncomputable def z6f:FI dat:=FI.of dat 152 19 2 [dA,(.fn 94 [] [(.ptr 0 0)])] [(.cells [(.map 1)]),(.mp 76 .bool)] [dI] [(.cells [(.map 1)]),(.mp 76 .bool)] false zct (R:=Int×(List B8)×(List Bool)) (λx=>(x.1,x.2.1,x.2.2.1)) (λr=>(r.1,r.2.1,r.2.2,())) (λn=>u3 (yzl n))
 (λn=>[(0,⟨⟨[(8,dI),(0,dA),(1,(.fn 94 [] [(.ptr 0 0)])),(7,dI)],[(.cells [(.map 1)]),(.mp 76 .bool)],2,19,[]⟩,u5 (yz9 n)⟩)]) (anb [(6,0)] f152)
theorem zc8:FOk prog z6f:=okF (bs:=[zpm]) ⟨y01,trivial⟩ func152 ntmps152 call152
 (λ_ _=>tr (yzl.eq_2 ..))
 (λn=>⟨λ_=>tr (yz9.eq_2 ..),
  trivial⟩)
def zze:Nat->(List B8)->(List B8)->(List Bool)->Ot (Bool×(List B8)×(List Bool))
 |0,_,_,_=>none
 |n+1,a,b,c=>
  (yzl n a (mks (List.zip b c)) (mvs (List.zip b c))).bind λy0=>
  some ((decide (y0.1>=0)),(mks (List.zip y0.2.1 y0.2.2)),(mvs (List.zip y0.2.1 y0.2.2)))
def zb4:LSh:=⟨[(4,dB)],[(.cells [(.map 1)]),(.mp 76 .bool)],2,9,[]⟩
noncomputable def z4v:FI dat:=FI.of dat 90 9 2 [dA,(.fn 94 [] [(.ptr 0 0)])] [(.cells [(.map 1)]),(.mp 76 .bool)] [dB] [(.cells [(.map 1)]),(.mp 76 .bool)] false zb4 (R:=Bool×(List B8)×(List Bool)) (λx=>(x.1,x.2.1,x.2.2.1)) (λr=>(r.1,r.2.1,r.2.2,())) (λn=>u3 (zze n))
 (λn=>[]) (anb [] f90)
theorem zak:FOk prog z4v:=okF (bs:=[z6f]) ⟨zc8,trivial⟩ func90 ntmps90 call90
 (λ_ _=>tr (zze.eq_2 ..))
 (λn=>trivial)
def z81:Nat->kz0->(List B8)->(List Bool)->Ot (Bool×(List B8)×(List Bool))
 |0,_,_,_=>none
 |n+1,a,b,c=>
  (z9w n a.re).bind λy0=>
  (zze n y0.1 (mks (List.zip b c)) (mvs (List.zip b c))).bind λy1=>
  some (y1.1,(mks (List.zip y1.2.1 y1.2.2)),(mvs (List.zip y1.2.1 y1.2.2)))
def y9s:LSh:=⟨[(4,dB)],[(.mp 76 .bool)],1,15,[]⟩
noncomputable def zn2:FI dat:=FI.of dat 34 15 1 [dT 5,(.map 0)] [(.mp 76 .bool)] [dB] [(.mp 76 .bool)] false y9s (R:=Bool×(List B8)×(List Bool)) (λx=>(x.1,x.2.1,x.2.2.1)) (λr=>(r.1,r.2.1,r.2.2,())) (λn=>u3 (z81 n))
 (λn=>[]) (anb [] f34)
theorem zsb:FOk prog zn2:=okF (bs:=[z4v,zvi]) ⟨zak,y5r,trivial⟩ func34 ntmps34 call34
 (λ_ _=>tr (z81.eq_2 ..))
 (λn=>trivial)
mutual
def z8g:Nat->yz5->Ot zz7
 |0,_=>none
 |n+1,a=>
  z2u n 0 a.cases (a.cases.length:Int) []
def z2u:Nat->Int->z0r->Int->zz7->Ot zz7
 |0,_,_,_,_=>none
 |n+1,a,b,c,d=>
  pIf (decide (a<c))
   ((ix b a).bind λx0=>
   (ext d [x0.when_.re]).bind λx1=>
   z2i n 0 x0.do_ b c a (x0.do_.length:Int) x1)
   (some d)
def z2i:Nat->Int->z78->z0r->Int->Int->Int->zz7->Ot zz7
 |0,_,_,_,_,_,_,_=>none
 |n+1,a,b,c,d,e,f,g=>
  pIf (decide (a<f))
   ((ix b a).bind λx2=>
   (ext g x2.args).bind λx3=>
   z2k n 0 x2.items b c d e f a (x2.items.length:Int) x3)
   (z2u n (IntKind.i64.wrap (e+1)) c d g)
def z2k:Nat->Int->znj->z78->z0r->Int->Int->Int->Int->Int->zz7->Ot zz7
 |0,_,_,_,_,_,_,_,_,_,_=>none
 |n+1,a,b,c,d,e,f,g,h,i,j=>
  pIf (decide (a<i))
   ((ix b a).bind λx4=>
   (ext j x4.args).bind λx5=>
   z2k n (IntKind.i64.wrap (a+1)) b c d e f g h i x5)
   (z2i n (IntKind.i64.wrap (h+1)) c d e f g j)
end
def y4w:LSh:=⟨[(2,dL 5)],[],0,48,[]⟩
noncomputable def zsc:FI dat:=FI.of dat 37 48 0 [dT 10] [] [dL 5] [] true y4w (R:=zz7) Prod.fst (·,()) (λn=>u1 (z8g n))
 (λn=>[(0,⟨⟨[(13,dI),(3,(.own 0)),(11,dL 9),(12,dI)],[(.acc 29 (.st 5) true)],0,48,[]⟩,u4 (z2u n)⟩),(1,⟨⟨[(25,dI),(3,(.own 0)),(23,dL 8),(11,dL 9),(12,dI),(13,dI),(24,dI)],[(.acc 29 (.st 5) true)],0,48,[]⟩,u7 (z2i n)⟩),(2,⟨⟨[(36,dI),(3,(.own 0)),(34,dL 7),(23,dL 8),(11,dL 9),(12,dI),(13,dI),(24,dI),(25,dI),(35,dI)],[(.acc 29 (.st 5) true)],0,48,[]⟩,u10 (z2k n)⟩)]) (anb [(8,0),(24,1),(40,2)] f37)
theorem y2s:FOk prog zsc:=okF (bs:=[]) trivial func37 ntmps37 call37
 (λ_ _=>tr (z8g.eq_2 ..))
 (λn=>⟨λ_=>tr (z2u.eq_2 ..),
  λ_=>tr (z2i.eq_2 ..),
  λ_=>tr (z2k.eq_2 ..),
  trivial⟩)
def z6j:Nat->kz0->(List B8)->(List Bool)->Ot (Bool×(List B8)×(List Bool))
 |0,_,_,_=>none
 |n+1,a,b,c=>
  (z81 n a.re (mks (List.zip b c)) (mvs (List.zip b c))).bind λy0=>
  some (y0.1,(mks (List.zip y0.2.1 y0.2.2)),(mvs (List.zip y0.2.1 y0.2.2)))
def zyg:LSh:=⟨[(3,dB)],[(.cells [(.map 1)]),(.mp 76 .bool)],2,7,[]⟩
noncomputable def znv:FI dat:=FI.of dat 38 7 2 [dT 5,(.ptr 0 0)] [(.cells [(.map 1)]),(.mp 76 .bool)] [dB] [(.cells [(.map 1)]),(.mp 76 .bool)] false zyg (R:=Bool×(List B8)×(List Bool)) (λx=>(x.1,x.2.1,x.2.2.1)) (λr=>(r.1,r.2.1,r.2.2,())) (λn=>u3 (z6j n))
 (λn=>[]) (anb [] f38)
theorem zwo:FOk prog znv:=okF (bs:=[zn2]) ⟨zsb,trivial⟩ func38 ntmps38 call38
 (λ_ _=>tr (z6j.eq_2 ..))
 (λn=>trivial)
mutual
def zzk:Nat->zz7->(List B8)->(List Bool)->Ot (Int×(List B8)×(List Bool))
 |0,_,_,_=>none
 |n+1,a,b,c=>
  yz7 n 0 a (a.length:Int) (mks (List.zip b c)) (mvs (List.zip b c))
def yz7:Nat->Int->zz7->Int->(List B8)->(List Bool)->Ot (Int×(List B8)×(List Bool))
 |0,_,_,_,_,_=>none
 |n+1,a,b,c,d,e=>
  pIf (decide (a<c))
   ((ix b a).bind λx0=>
   (z6j n x0.re (mks (List.zip d e)) (mvs (List.zip d e))).bind λy1=>
   pIf y1.1
    (some (a,(mks (List.zip y1.2.1 y1.2.2)),(mvs (List.zip y1.2.1 y1.2.2))))
    (yz7 n (IntKind.i64.wrap (a+1)) b c (mks (List.zip y1.2.1 y1.2.2)) (mvs (List.zip y1.2.1 y1.2.2))))
   (some ((-1),(mks (List.zip d e)),(mvs (List.zip d e))))
end
def zc9:LSh:=⟨[(4,dI)],[(.cells [(.map 1)]),(.mp 76 .bool)],2,19,[]⟩
noncomputable def z5x:FI dat:=FI.of dat 95 19 2 [dL 5,(.fn 38 [] [(.ptr 0 0)])] [(.cells [(.map 1)]),(.mp 76 .bool)] [dI] [(.cells [(.map 1)]),(.mp 76 .bool)] false zc9 (R:=Int×(List B8)×(List Bool)) (λx=>(x.1,x.2.1,x.2.2.1)) (λr=>(r.1,r.2.1,r.2.2,())) (λn=>u3 (zzk n))
 (λn=>[(0,⟨⟨[(8,dI),(0,dL 5),(1,(.fn 38 [] [(.ptr 0 0)])),(7,dI)],[(.cells [(.map 1)]),(.mp 76 .bool)],2,19,[]⟩,u5 (yz7 n)⟩)]) (anb [(6,0)] f95)
theorem zbj:FOk prog z5x:=okF (bs:=[znv]) ⟨zwo,trivial⟩ func95 ntmps95 call95
 (λ_ _=>tr (zzk.eq_2 ..))
 (λn=>⟨λ_=>tr (yz7.eq_2 ..),
  trivial⟩)
def zzc:Nat->zz7->(List B8)->(List Bool)->Ot (Bool×(List B8)×(List Bool))
 |0,_,_,_=>none
 |n+1,a,b,c=>
  (zzk n a (mks (List.zip b c)) (mvs (List.zip b c))).bind λy0=>
  some ((decide (y0.1>=0)),(mks (List.zip y0.2.1 y0.2.2)),(mvs (List.zip y0.2.1 y0.2.2)))
def zao:LSh:=⟨[(4,dB)],[(.cells [(.map 1)]),(.mp 76 .bool)],2,9,[]⟩
noncomputable def z4i:FI dat:=FI.of dat 36 9 2 [dL 5,(.fn 38 [] [(.ptr 0 0)])] [(.cells [(.map 1)]),(.mp 76 .bool)] [dB] [(.cells [(.map 1)]),(.mp 76 .bool)] false zao (R:=Bool×(List B8)×(List Bool)) (λx=>(x.1,x.2.1,x.2.2.1)) (λr=>(r.1,r.2.1,r.2.2,())) (λn=>u3 (zzc n))
 (λn=>[]) (anb [] f36)
theorem za6:FOk prog z4i:=okF (bs:=[z5x]) ⟨zbj,trivial⟩ func36 ntmps36 call36
 (λ_ _=>tr (zzc.eq_2 ..))
 (λn=>trivial)
mutual
def z55:Nat->yz5->Ot z5a
 |0,_=>none
 |n+1,a=>
  z2o n 0 a.cases (a.cases.length:Int) []
def z2o:Nat->Int->z0r->Int->z5a->Ot z5a
 |0,_,_,_,_=>none
 |n+1,a,b,c,d=>
  pIf (decide (a<c))
   ((ix b a).bind λx0=>
   z16 n 0 x0.do_ b c a (x0.do_.length:Int) d)
   (some d)
def z16:Nat->Int->z78->z0r->Int->Int->Int->z5a->Ot z5a
 |0,_,_,_,_,_,_,_=>none
 |n+1,a,b,c,d,e,f,g=>
  pIf (decide (a<f))
   ((ix b a).bind λx1=>
   pIf (!(x1.name==[]))
    ((z7f n x1.kind).bind λy2=>
    (ext g [(yzq.mk x1.name (IntKind.i64.wrap ((x1.args.length:Int)-y2)))]).bind λx3=>
    z2n n b c d e f a x3 x1)
    (z2n n b c d e f a g x1))
   (z2o n (IntKind.i64.wrap (e+1)) c d g)
def z2n:Nat->z78->z0r->Int->Int->Int->Int->z5a->kz3->Ot z5a
 |0,_,_,_,_,_,_,_,_=>none
 |n+1,a,b,c,d,e,f,g,h=>
  z2m n 0 h.items a b c d e f (h.items.length:Int) g
def z2m:Nat->Int->znj->z78->z0r->Int->Int->Int->Int->Int->z5a->Ot z5a
 |0,_,_,_,_,_,_,_,_,_,_=>none
 |n+1,a,b,c,d,e,f,g,h,i,j=>
  pIf (decide (a<i))
   ((ix b a).bind λx4=>
   (ext j [(yzq.mk x4.name (IntKind.i64.wrap ((x4.args.length:Int)-1)))]).bind λx5=>
   z2m n (IntKind.i64.wrap (a+1)) b c d e f g h i x5)
   (z16 n (IntKind.i64.wrap (h+1)) c d e f g j)
end
def y58:LSh:=⟨[(2,dL 12)],[],0,61,[]⟩
noncomputable def zff:FI dat:=FI.of dat 39 61 0 [dT 10] [] [dL 12] [] true y58 (R:=z5a) Prod.fst (·,()) (λn=>u1 (z55 n))
 (λn=>[(0,⟨⟨[(3,(.own 0)),(13,dI),(11,dL 9),(12,dI)],[(.acc 86 (.st 12) true)],0,61,[]⟩,u4 (z2o n)⟩),(1,⟨⟨[(20,dI),(3,(.own 0)),(18,dL 8),(11,dL 9),(12,dI),(13,dI),(19,dI)],[(.acc 86 (.st 12) true)],0,61,[]⟩,u7 (z16 n)⟩),(2,⟨⟨[(3,(.own 0)),(18,dL 8),(11,dL 9),(12,dI),(13,dI),(19,dI),(20,dI),(7,(.ptr 1 0))],[(.acc 86 (.st 12) true),(.st 8)],0,61,[]⟩,u8 (z2n n)⟩),(3,⟨⟨[(43,dI),(3,(.own 0)),(41,dL 7),(18,dL 8),(11,dL 9),(12,dI),(13,dI),(19,dI),(20,dI),(42,dI)],[(.acc 86 (.st 12) true)],0,61,[]⟩,u10 (z2m n)⟩)]) (anb [(8,0),(22,1),(39,2),(42,3)] f39)
theorem zis:FOk prog zff:=okF (bs:=[zov]) ⟨zu7,trivial⟩ func39 ntmps39 call39
 (λ_ _=>tr (z55.eq_2 ..))
 (λn=>⟨λ_=>tr (z2o.eq_2 ..),
  λ_=>tr (z16.eq_2 ..),
  λ_=>tr (z2n.eq_2 ..),
  λ_=>tr (z2m.eq_2 ..),
  trivial⟩)
mutual
noncomputable def z1d:Nat->yz0->Ot Int
 |0,_=>none
 |n+1,a=>
  (z9u n a).bind λy0=>
  pIf y0
   (some 4)
   ((z77 n a).bind λy1=>
   pIf (!y1)
    (some 8)
    (z2p n 0 false a.attrs (a.attrs.length:Int) [] [] [] [] a))
noncomputable def z2p:Nat->Int->Bool->zzx->Int->(List B8)->(List Bool)->(List B8)->(List Int)->yz0->Ot Int
 |0,_,_,_,_,_,_,_,_,_=>none
 |n+1,a,b,c,d,e,f,g,h,i=>
  pIf (decide (a<d))
   ((ix c a).bind λx2=>
   pIf b
    (z2f n true c d a (mks (List.zip e f)) (mvs (List.zip e f)) (mks (List.zip g h)) (mvs (List.zip g h)) i x2.re)
    ((z81 n x2.value.re (mks (List.zip e f)) (mvs (List.zip e f))).bind λy3=>
    z2f n y3.1 c d a (mks (List.zip y3.2.1 y3.2.2)) (mvs (List.zip y3.2.1 y3.2.2)) (mks (List.zip g h)) (mvs (List.zip g h)) i x2.re))
   (z2j n 0 i.rules b (i.rules.length:Int) (mks (List.zip e f)) (mvs (List.zip e f)) (mks (List.zip g h)) (mvs (List.zip g h)) i)
noncomputable def z2f:Nat->Bool->zzx->Int->Int->(List B8)->(List Bool)->(List B8)->(List Int)->yz0->kzh->Ot Int
 |0,_,_,_,_,_,_,_,_,_,_=>none
 |n+1,a,b,c,d,e,f,g,h,i,j=>
  pIf (Option.getD (z58 (List.zip e f) j.name) false)
   (some 14)
   (z2p n (IntKind.i64.wrap (d+1)) a b c (mks (z8l (List.zip e f) j.name true)) (mvs (z8l (List.zip e f) j.name true)) (mks (List.zip g h)) (mvs (List.zip g h)) i)
noncomputable def z2j:Nat->Int->yzf->Bool->Int->(List B8)->(List Bool)->(List B8)->(List Int)->yz0->Ot Int
 |0,_,_,_,_,_,_,_,_,_=>none
 |n+1,a,b,c,d,e,f,g,h,i=>
  pIf (decide (a<d))
   ((ix b a).bind λx4=>
   pIf (Option.isSome (z58 (List.zip g h) x4.name))
    (some 14)
    (z2d n 0 x4.params b c d a (x4.params.length:Int) x4 (mks (List.zip e f)) (mvs (List.zip e f)) (mks (z8l (List.zip g h) x4.name a)) (mvs (z8l (List.zip g h) x4.name a)) i))
   (z15 n false 0 c (mks (List.zip e f)) (mvs (List.zip e f)) i.rules (i.rules.length:Int) i (mks (List.zip g h)) (mvs (List.zip g h)))
noncomputable def z2d:Nat->Int->(List B8)->yzf->Bool->Int->Int->Int->yz5->(List B8)->(List Bool)->(List B8)->(List Int)->yz0->Ot Int
 |0,_,_,_,_,_,_,_,_,_,_,_,_,_=>none
 |n+1,a,b,c,d,e,f,g,h,i,j,k,l,m=>
  pIf (decide (a<g))
   ((ix b a).bind λx5=>
   pIf (Option.getD (z58 (List.zip i j) x5) false)
    (z2y n b c d e f g a true h (mks (List.zip i j)) (mvs (List.zip i j)) (mks (List.zip k l)) (mvs (List.zip k l)) m)
    ((kz8 n h.params x5).bind λy6=>
    z2y n b c d e f g a (decide (y6<a)) h (mks (List.zip i j)) (mvs (List.zip i j)) (mks (List.zip k l)) (mvs (List.zip k l)) m))
   (z2j n (IntKind.i64.wrap (f+1)) c d e (mks (List.zip i j)) (mvs (List.zip i j)) (mks (List.zip k l)) (mvs (List.zip k l)) m)
noncomputable def z2y:Nat->(List B8)->yzf->Bool->Int->Int->Int->Int->Bool->yz5->(List B8)->(List Bool)->(List B8)->(List Int)->yz0->Ot Int
 |0,_,_,_,_,_,_,_,_,_,_,_,_,_,_=>none
 |n+1,a,b,c,d,e,f,g,h,i,j,k,l,m,o=>
  pIf h
   (some 14)
   (z2d n (IntKind.i64.wrap (g+1)) a b c d e f i (mks (List.zip j k)) (mvs (List.zip j k)) (mks (List.zip l m)) (mvs (List.zip l m)) o)
noncomputable def z15:Nat->Bool->Int->Bool->(List B8)->(List Bool)->yzf->Int->yz0->(List B8)->(List Int)->Ot Int
 |0,_,_,_,_,_,_,_,_,_,_=>none
 |n+1,a,b,c,d,e,f,g,h,i,j=>
  pIf (decide (b<g))
   ((ix f b).bind λx7=>
   z2v n a (mks (List.zip d e)) (mvs (List.zip d e)) f g b c (mks (List.zip d e)) (mvs (List.zip d e)) h (mks (List.zip i j)) (mvs (List.zip i j)) x7 (mks (z8l (z8l (z8l [] [115,120] true) [115,121] true) [115,122] true)) (mvs (z8l (z8l (z8l [] [115,120] true) [115,121] true) [115,122] true)))
   (pIf c
     (some 6)
     (pIf a
       (some 2)
       (some 0)))
noncomputable def z2v:Nat->Bool->(List B8)->(List Bool)->yzf->Int->Int->Bool->(List B8)->(List Bool)->yz0->(List B8)->(List Int)->yz5->(List B8)->(List Bool)->Ot Int
 |0,_,_,_,_,_,_,_,_,_,_,_,_,_,_,_=>none
 |n+1,a,b,c,d,e,f,g,h,i,j,k,l,m,o,p=>
  zxw (List.zip h i) (λk8 v9 r10=>
   z2v n a (mks (List.zip b c)) (mvs (List.zip b c)) d e f g (mks r10) (mvs r10) j (mks (List.zip k l)) (mvs (List.zip k l)) m (mks (z8l (List.zip o p) k8 true)) (mvs (z8l (List.zip o p) k8 true)))
   (z1a n 0 m.params a (mks (List.zip b c)) (mvs (List.zip b c)) d e f g (m.params.length:Int) j (mks (List.zip k l)) (mvs (List.zip k l)) m (mks (List.zip o p)) (mvs (List.zip o p)))
noncomputable def z1a:Nat->Int->(List B8)->Bool->(List B8)->(List Bool)->yzf->Int->Int->Bool->Int->yz0->(List B8)->(List Int)->yz5->(List B8)->(List Bool)->Ot Int
 |0,_,_,_,_,_,_,_,_,_,_,_,_,_,_,_,_=>none
 |n+1,a,b,c,d,e,f,g,h,i,j,k,l,m,o,p,q=>
  pIf (decide (a<j))
   ((ix b a).bind λx11=>
   z1a n (IntKind.i64.wrap (a+1)) b c (mks (List.zip d e)) (mvs (List.zip d e)) f g h i j k (mks (List.zip l m)) (mvs (List.zip l m)) o (mks (z8l (List.zip p q) x11 true)) (mvs (z8l (List.zip p q) x11 true)))
   (pIf i
     (z2z n c true (mks (List.zip d e)) (mvs (List.zip d e)) f g h k (mks (List.zip l m)) (mvs (List.zip l m)) o)
     ((z8g n o).bind λy12=>
     (zzc n y12 (mks (List.zip p q)) (mvs (List.zip p q))).bind λy13=>
     z2z n c y13.1 (mks (List.zip d e)) (mvs (List.zip d e)) f g h k (mks (List.zip l m)) (mvs (List.zip l m)) o))
noncomputable def z2z:Nat->Bool->Bool->(List B8)->(List Bool)->yzf->Int->Int->yz0->(List B8)->(List Int)->yz5->Ot Int
 |0,_,_,_,_,_,_,_,_,_,_,_=>none
 |n+1,a,b,c,d,e,f,g,h,i,j,k=>
  (z55 n k).bind λy14=>
  z32 n 0 a b y14 (mks (List.zip c d)) (mvs (List.zip c d)) e f g (y14.length:Int) h (mks (List.zip i j)) (mvs (List.zip i j))
noncomputable def z32:Nat->Int->Bool->Bool->z5a->(List B8)->(List Bool)->yzf->Int->Int->Int->yz0->(List B8)->(List Int)->Ot Int
 |0,_,_,_,_,_,_,_,_,_,_,_,_,_=>none
 |n+1,a,b,c,d,e,f,g,h,i,j,k,l,m=>
  pIf (decide (a<j))
   ((ix d a).bind λx15=>
   pIf c
    (z1q n true d (mks (List.zip e f)) (mvs (List.zip e f)) g h i j a (Option.getD (z58 (List.zip l m) x15.name) 0) (Option.isSome (z58 (List.zip l m) x15.name)) b k (mks (List.zip l m)) (mvs (List.zip l m)) x15)
    (z1q n (!(Option.isSome (z58 (List.zip l m) x15.name))) d (mks (List.zip e f)) (mvs (List.zip e f)) g h i j a (Option.getD (z58 (List.zip l m) x15.name) 0) (Option.isSome (z58 (List.zip l m) x15.name)) b k (mks (List.zip l m)) (mvs (List.zip l m)) x15))
   (z15 n b (IntKind.i64.wrap (i+1)) c (mks (List.zip e f)) (mvs (List.zip e f)) g h k (mks (List.zip l m)) (mvs (List.zip l m)))
noncomputable def z1q:Nat->Bool->z5a->(List B8)->(List Bool)->yzf->Int->Int->Int->Int->Int->Bool->Bool->yz0->(List B8)->(List Int)->yzq->Ot Int
 |0,_,_,_,_,_,_,_,_,_,_,_,_,_,_,_,_=>none
 |n+1,a,b,c,d,e,f,g,h,i,j,k,l,m,o,p,q=>
  pIf l
   (z0j n true a b (mks (List.zip c d)) (mvs (List.zip c d)) e f g h i m (mks (List.zip o p)) (mvs (List.zip o p)))
   (pIf k
     ((ix m.rules j).bind λx16=>
     z0j n (q.many != (x16.params.length:Int)) a b (mks (List.zip c d)) (mvs (List.zip c d)) e f g h i m (mks (List.zip o p)) (mvs (List.zip o p)))
     (z0j n false a b (mks (List.zip c d)) (mvs (List.zip c d)) e f g h i m (mks (List.zip o p)) (mvs (List.zip o p))))
noncomputable def z0j:Nat->Bool->Bool->z5a->(List B8)->(List Bool)->yzf->Int->Int->Int->Int->yz0->(List B8)->(List Int)->Ot Int
 |0,_,_,_,_,_,_,_,_,_,_,_,_,_=>none
 |n+1,a,b,c,d,e,f,g,h,i,j,k,l,m=>
  z32 n (IntKind.i64.wrap (j+1)) a b c (mks (List.zip d e)) (mvs (List.zip d e)) f g h i k (mks (List.zip l m)) (mvs (List.zip l m))
end
def y6n:LSh:=⟨[(2,dI)],[],0,170,[]⟩
noncomputable def zco:FI dat:=FI.of dat 10 170 0 [dT 11] [] [dI] [] true y6n (R:=Int) Prod.fst (·,()) (λn=>u1 (z1d n))
 (λn=>[(0,⟨⟨[(35,dI),(3,(.map 0)),(5,dB),(33,dL 6),(4,(.map 1)),(1,(.ptr 2 0)),(34,dI)],[(.mp 76 .bool),(.mp 77 (.int .i64)),(.st 11)],0,170,[]⟩,u9 (z2p n)⟩),(1,⟨⟨[(3,(.map 0)),(5,dB),(33,dL 6),(4,(.map 1)),(1,(.ptr 2 0)),(34,dI),(35,dI),(7,(.ptr 3 0))],[(.mp 76 .bool),(.mp 77 (.int .i64)),(.st 11),(.st 6)],0,170,[]⟩,u10 (z2f n)⟩),(2,⟨⟨[(3,(.map 0)),(57,dI),(4,(.map 1)),(55,dL 10),(1,(.ptr 2 0)),(5,dB),(56,dI)],[(.mp 76 .bool),(.mp 77 (.int .i64)),(.st 11)],0,170,[]⟩,u9 (z2j n)⟩),(3,⟨⟨[(77,dI),(9,(.ptr 0 0)),(3,(.map 1)),(75,dA),(4,(.map 2)),(55,dL 10),(1,(.ptr 3 0)),(5,dB),(56,dI),(57,dI),(76,dI)],[(.st 10),(.mp 76 .bool),(.mp 77 (.int .i64)),(.st 11)],0,170,[]⟩,λx=>z2d n x.1 x.2.1 x.2.2.1 x.2.2.2.1 x.2.2.2.2.1 x.2.2.2.2.2.1 x.2.2.2.2.2.2.1 x.2.2.2.2.2.2.2.1 x.2.2.2.2.2.2.2.2.1 x.2.2.2.2.2.2.2.2.2.1 x.2.2.2.2.2.2.2.2.2.2.1 x.2.2.2.2.2.2.2.2.2.2.2.1 x.2.2.2.2.2.2.2.2.2.2.2.2.1⟩),(4,⟨⟨[(9,(.ptr 0 0)),(3,(.map 1)),(75,dA),(4,(.map 2)),(55,dL 10),(1,(.ptr 3 0)),(5,dB),(56,dI),(57,dI),(76,dI),(77,dI),(92,dB)],[(.st 10),(.mp 76 .bool),(.mp 77 (.int .i64)),(.st 11)],0,170,[]⟩,λx=>z2y n x.1 x.2.1 x.2.2.1 x.2.2.2.1 x.2.2.2.2.1 x.2.2.2.2.2.1 x.2.2.2.2.2.2.1 x.2.2.2.2.2.2.2.1 x.2.2.2.2.2.2.2.2.1 x.2.2.2.2.2.2.2.2.2.1 x.2.2.2.2.2.2.2.2.2.2.1 x.2.2.2.2.2.2.2.2.2.2.2.1 x.2.2.2.2.2.2.2.2.2.2.2.2.1 x.2.2.2.2.2.2.2.2.2.2.2.2.2.1⟩),(5,⟨⟨[(1,(.ptr 0 0)),(14,dB),(4,(.map 1)),(98,dI),(5,dB),(3,(.mc .bool)),(96,dL 10),(97,dI)],[(.st 11),(.mp 77 (.int .i64))],0,170,[]⟩,u10 (z15 n)⟩),(6,⟨⟨[(17,(.ptr 0 0)),(105,(.ptr 1 0)),(1,(.ptr 2 0)),(14,dB),(4,(.map 3)),(3,(.mc .bool)),(96,dL 10),(97,dI),(98,dI),(16,(.ptr 4 0)),(5,dB)],[(.cells [(.map 5)]),(.mit .bool),(.st 11),(.mp 77 (.int .i64)),(.st 10),(.mp 76 .bool)],0,170,[]⟩,λx=>z2v n x.1 x.2.1 x.2.2.1 x.2.2.2.1 x.2.2.2.2.1 x.2.2.2.2.2.1 x.2.2.2.2.2.2.1 x.2.2.2.2.2.2.2.1 x.2.2.2.2.2.2.2.2.1 x.2.2.2.2.2.2.2.2.2.1 x.2.2.2.2.2.2.2.2.2.2.1 x.2.2.2.2.2.2.2.2.2.2.2.1 x.2.2.2.2.2.2.2.2.2.2.2.2.1 x.2.2.2.2.2.2.2.2.2.2.2.2.2.1 x.2.2.2.2.2.2.2.2.2.2.2.2.2.2.1⟩),(7,⟨⟨[(115,dI),(17,(.ptr 0 0)),(113,dA),(1,(.ptr 1 0)),(14,dB),(4,(.map 2)),(3,(.mc .bool)),(96,dL 10),(97,dI),(98,dI),(16,(.ptr 3 0)),(5,dB),(114,dI)],[(.cells [(.map 4)]),(.st 11),(.mp 77 (.int .i64)),(.st 10),(.mp 76 .bool)],0,170,[]⟩,λx=>z1a n x.1 x.2.1 x.2.2.1 x.2.2.2.1 x.2.2.2.2.1 x.2.2.2.2.2.1 x.2.2.2.2.2.2.1 x.2.2.2.2.2.2.2.1 x.2.2.2.2.2.2.2.2.1 x.2.2.2.2.2.2.2.2.2.1 x.2.2.2.2.2.2.2.2.2.2.1 x.2.2.2.2.2.2.2.2.2.2.2.1 x.2.2.2.2.2.2.2.2.2.2.2.2.1 x.2.2.2.2.2.2.2.2.2.2.2.2.2.1 x.2.2.2.2.2.2.2.2.2.2.2.2.2.2.1 x.2.2.2.2.2.2.2.2.2.2.2.2.2.2.2.1⟩),(8,⟨⟨[(1,(.ptr 0 0)),(14,dB),(5,dB),(4,(.map 1)),(3,(.mc .bool)),(96,dL 10),(97,dI),(98,dI),(16,(.ptr 2 0))],[(.st 11),(.mp 77 (.int .i64)),(.st 10)],0,170,[]⟩,u11 (z2z n)⟩),(9,⟨⟨[(132,dI),(1,(.ptr 0 0)),(14,dB),(5,dB),(4,(.map 1)),(130,dL 12),(3,(.mc .bool)),(96,dL 10),(97,dI),(98,dI),(131,dI)],[(.st 11),(.mp 77 (.int .i64))],0,170,[]⟩,λx=>z32 n x.1 x.2.1 x.2.2.1 x.2.2.2.1 x.2.2.2.2.1 x.2.2.2.2.2.1 x.2.2.2.2.2.2.1 x.2.2.2.2.2.2.2.1 x.2.2.2.2.2.2.2.2.1 x.2.2.2.2.2.2.2.2.2.1 x.2.2.2.2.2.2.2.2.2.2.1 x.2.2.2.2.2.2.2.2.2.2.2.1 x.2.2.2.2.2.2.2.2.2.2.2.2.1⟩),(10,⟨⟨[(1,(.ptr 0 0)),(5,dB),(4,(.map 1)),(130,dL 12),(3,(.mc .bool)),(96,dL 10),(97,dI),(98,dI),(131,dI),(132,dI),(23,dI),(22,(.ptr 2 0)),(24,dB),(14,dB)],[(.st 11),(.mp 77 (.int .i64)),(.st 12)],0,170,[]⟩,λx=>z1q n x.1 x.2.1 x.2.2.1 x.2.2.2.1 x.2.2.2.2.1 x.2.2.2.2.2.1 x.2.2.2.2.2.2.1 x.2.2.2.2.2.2.2.1 x.2.2.2.2.2.2.2.2.1 x.2.2.2.2.2.2.2.2.2.1 x.2.2.2.2.2.2.2.2.2.2.1 x.2.2.2.2.2.2.2.2.2.2.2.1 x.2.2.2.2.2.2.2.2.2.2.2.2.1 x.2.2.2.2.2.2.2.2.2.2.2.2.2.1 x.2.2.2.2.2.2.2.2.2.2.2.2.2.2.1 x.2.2.2.2.2.2.2.2.2.2.2.2.2.2.2.1⟩),(11,⟨⟨[(1,(.ptr 0 0)),(14,dB),(5,dB),(4,(.map 1)),(130,dL 12),(3,(.mc .bool)),(96,dL 10),(97,dI),(98,dI),(131,dI),(132,dI)],[(.st 11),(.mp 77 (.int .i64))],0,170,[]⟩,λx=>z0j n x.1 x.2.1 x.2.2.1 x.2.2.2.1 x.2.2.2.2.1 x.2.2.2.2.2.1 x.2.2.2.2.2.2.1 x.2.2.2.2.2.2.2.1 x.2.2.2.2.2.2.2.2.1 x.2.2.2.2.2.2.2.2.2.1 x.2.2.2.2.2.2.2.2.2.2.1 x.2.2.2.2.2.2.2.2.2.2.2.1 x.2.2.2.2.2.2.2.2.2.2.2.2.1⟩)]) (anb [(26,0),(39,1),(53,2),(79,3),(92,4),(105,5),(122,6),(137,7),(152,8),(155,9),(170,10),(171,11)] f10)
theorem ze1:FOk prog zco:=okF (bs:=[zn2,z4i,zub,zqd,yzo,zsc,zff]) ⟨zsb,za6,y5y,y02,z0y,y2s,zis,trivial⟩ func10 ntmps10 call10
 (λn=>λ_=>tr (z1d.eq_2 _ n))
 (λn=>⟨λ_=>tr (z2p.eq_2 _ _ _ _ _ _ _ _ _ n),
  λ_=>tr (z2f.eq_2 _ _ _ _ _ _ _ _ _ _ n),
  λ_=>tr (z2j.eq_2 _ _ _ _ _ _ _ _ _ n),
  λ_=>tr (z2d.eq_2 _ _ _ _ _ _ _ _ _ _ _ _ _ n),
  λ_=>tr (z2y.eq_2 _ _ _ _ _ _ _ _ _ _ _ _ _ _ n),
  λ_=>tr (z15.eq_2 _ _ _ _ _ _ _ _ _ _ n),
  λ_=>tr (z2v.eq_2 _ _ _ _ _ _ _ _ _ _ _ _ _ _ _ n),
  λ_=>tr (z1a.eq_2 _ _ _ _ _ _ _ _ _ _ _ _ _ _ _ _ n),
  λ_=>tr (z2z.eq_2 _ _ _ _ _ _ _ _ _ _ _ n),
  λ_=>tr (z32.eq_2 _ _ _ _ _ _ _ _ _ _ _ _ _ n),
  λ_=>tr (z1q.eq_2 _ _ _ _ _ _ _ _ _ _ _ _ _ _ _ _ n),
  λ_=>tr (z0j.eq_2 _ _ _ _ _ _ _ _ _ _ _ _ _ n),
  trivial⟩)
def yzw:Nat->B8->B8->Ot Bool
 |0,_,_=>none
 |n+1,a,b=>
  pIf (decide ((a.length:Int)>=(b.length:Int)))
   ((sub a (IntKind.i64.wrap ((a.length:Int)-(b.length:Int))) (a.length:Int)).bind λx0=>
   some (x0==b))
   (some false)
def zeh:LSh:=⟨[(4,dB)],[],0,21,[]⟩
noncomputable def z35:FI dat:=FI.of dat 97 21 0 [dS,dS] [] [dB] [] true zeh (R:=Bool) Prod.fst (·,()) (λn=>u2 (yzw n))
 (λn=>[]) (anb [] f97)
theorem z6z:FOk prog z35:=okF (bs:=[]) trivial func97 ntmps97 call97
 (λn=>λ_=>tr (yzw.eq_2 _ _ n))
 (λn=>trivial)
def zap:Nat->B8->B8->Ot Bool
 |0,_,_=>none
 |n+1,a,b=>
  (yzw n a b).bind λy0=>
  some y0
def zri:LSh:=⟨[(4,dB)],[],0,8,[]⟩
noncomputable def zcc:FI dat:=FI.of dat 41 8 0 [dS,dS] [] [dB] [] true zri (R:=Bool) Prod.fst (·,()) (λn=>u2 (zap n))
 (λn=>[]) (anb [] f41)
theorem zpo:FOk prog zcc:=okF (bs:=[z35]) ⟨z6z,trivial⟩ func41 ntmps41 call41
 (λ_ _=>tr (zap.eq_2 ..))
 (λn=>trivial)
mutual
def zfo:Nat->yz4->Ot (B8×Int)
 |0,_=>none
 |n+1,a=>
  (z52 n a).bind λy0=>
  pIf (y0 != 0)
   (some ([],y0))
   ((z5b n a.num 10).bind λy1=>
   pIf (a.den != 1)
    ((z5b n a.den 10).bind λy2=>
    (cat [47] y2).bind λx3=>
    (cat y1 x3).bind λx4=>
    zbq n x4)
    (zbq n y1))
def zbq:Nat->B8->Ot (B8×Int)
 |0,_=>none
 |n+1,a=>
  some (a,0)
end
def y8j:LSh:=⟨[(2,dS),(3,dI)],[],0,24,[]⟩
noncomputable def zhi:FI dat:=FI.of dat 254 24 0 [dT 3] [] [dS,dI] [] true y8j (R:=B8×Int) (λx=>(x.1,x.2.1)) (λr=>(r.1,r.2,())) (λn=>u1 (zfo n))
 (λn=>[(0,⟨⟨[(5,dS)],[],0,24,[]⟩,u1 (zbq n)⟩)]) (anb [(20,0)] f254)
theorem zsp:FOk prog zhi:=okF (bs:=[zcs,zgs]) ⟨ziv,zpc,trivial⟩ func254 ntmps254 call254
 (λ_ _=>tr (zfo.eq_2 ..))
 (λn=>⟨λ_=>tr (zbq.eq_2 _ n),
  trivial⟩)
def zz5:Nat->B8->(List Int)->Ot (Int×(List Int))
 |0,_,_=>none
 |n+1,a,b=>
  (z1g n b).bind λy0=>
  (ext y0 (yac a)).bind λx1=>
  some ((a.length:Int),x1)
def zfv:LSh:=⟨[(4,dI),(5,.nili)],[(.bld 111 1),(.acc 5 (.int .u8) true)],1,19,[]⟩
noncomputable def zzn:FI dat:=FI.of dat 59 19 1 [(.bp 0),dS] [(.bld 111 1),(.acc 5 (.int .u8) true)] [dI,.nili] [(.bld 111 1),(.acc 5 (.int .u8) true)] false zfv (R:=Int×(List Int)) (λx=>(x.1,x.2.1)) (λr=>(r.1,r.2,())) (λn=>u2 (zz5 n))
 (λn=>[]) (anb [] f59)
theorem z4b:FOk prog zzn:=okF (bs:=[z1z]) ⟨z5v,trivial⟩ func59 ntmps59 call59
 (λn x=>tr (zz5.eq_2 x.1 x.2.1 n))
 (λn=>trivial)
def zzh:Nat->Int->(List Int)->Ot (List Int)
 |0,_,_=>none
 |n+1,a,b=>
  (z1g n b).bind λy0=>
  (ext y0 [a]).bind λx1=>
  some x1
def zhc:LSh:=⟨[(4,.nili)],[(.bld 111 1),(.acc 5 (.int .u8) true)],1,17,[]⟩
noncomputable def z22:FI dat:=FI.of dat 255 17 1 [(.bp 0),dU] [(.bld 111 1),(.acc 5 (.int .u8) true)] [.nili] [(.bld 111 1),(.acc 5 (.int .u8) true)] false zhc (R:=List Int) Prod.fst (·,()) (λn=>u2 (zzh n))
 (λn=>[]) (anb [] f255)
theorem z9o:FOk prog z22:=okF (bs:=[z1z]) ⟨z5v,trivial⟩ func255 ntmps255 call255
 (λn x=>tr (zzh.eq_2 x.1 x.2.1 n))
 (λn=>trivial)
mutual
def z1l:Nat->Int->(List Int)->Ot (List Int)
 |0,_,_=>none
 |n+1,a,b=>
  pIf (decide ((IntKind.u32.wrap a)<=2047))
   ((shr .i32 a 6).bind λx0=>
   (ext b [(bits BinOp.or .u8 192 (IntKind.u8.wrap x0)),(bits BinOp.or .u8 128 (bits BinOp.and .u8 (IntKind.u8.wrap a) 63))]).bind λx1=>
   some x1)
   (pIf (decide ((IntKind.u32.wrap a)<55296))
     (kzk n a (IntKind.u32.wrap a) true b)
     (pIf (decide (57343<(IntKind.u32.wrap a)))
       (kzk n a (IntKind.u32.wrap a) (decide ((IntKind.u32.wrap a)<=65535)) b)
       (kzk n a (IntKind.u32.wrap a) false b)))
def kzk:Nat->Int->Int->Bool->(List Int)->Ot (List Int)
 |0,_,_,_,_=>none
 |n+1,a,b,c,d=>
  pIf c
   ((shr .i32 a 12).bind λx2=>
   (shr .i32 a 6).bind λx3=>
   (ext d [(bits BinOp.or .u8 224 (IntKind.u8.wrap x2)),(bits BinOp.or .u8 128 (bits BinOp.and .u8 (IntKind.u8.wrap x3) 63)),(bits BinOp.or .u8 128 (bits BinOp.and .u8 (IntKind.u8.wrap a) 63))]).bind λx4=>
   some x4)
   (pIf (decide (b>65535))
     (kzq n a (decide (b<=1114111)) d)
     (kzq n a false d))
def kzq:Nat->Int->Bool->(List Int)->Ot (List Int)
 |0,_,_,_=>none
 |n+1,a,b,c=>
  pIf b
   ((shr .i32 a 18).bind λx5=>
   (shr .i32 a 12).bind λx6=>
   (shr .i32 a 6).bind λx7=>
   (ext c [(bits BinOp.or .u8 240 (IntKind.u8.wrap x5)),(bits BinOp.or .u8 128 (bits BinOp.and .u8 (IntKind.u8.wrap x6) 63)),(bits BinOp.or .u8 128 (bits BinOp.and .u8 (IntKind.u8.wrap x7) 63)),(bits BinOp.or .u8 128 (bits BinOp.and .u8 (IntKind.u8.wrap a) 63))]).bind λx8=>
   some x8)
   ((ext c [239,191,189]).bind λx9=>
   some x9)
end
def zdk:LSh:=⟨[(4,(.own 0))],[(.acc 5 (.int .u8) true)],0,78,[]⟩
noncomputable def z71:FI dat:=FI.of dat 289 78 0 [(.own 0),(.d (.int .i32))] [(.acc 5 (.int .u8) true)] [(.own 0)] [(.acc 5 (.int .u8) true)] false zdk (R:=List Int) Prod.fst (·,()) (λn=>u2 (z1l n))
 (λn=>[(0,⟨⟨[(1,(.d (.int .i32))),(0,(.own 0)),(5,(.d (.int .u32))),(25,dB)],[(.acc 5 (.int .u8) true)],0,78,[]⟩,u4 (kzk n)⟩),(1,⟨⟨[(1,(.d (.int .i32))),(0,(.own 0)),(50,dB)],[(.acc 5 (.int .u8) true)],0,78,[]⟩,u3 (kzq n)⟩)]) (anb [(17,0),(23,1)] f289)
theorem zda:FOk prog z71:=okF (bs:=[]) trivial func289 ntmps289 call289
 (λ_ _=>tr (z1l.eq_2 ..))
 (λn=>⟨λ_=>tr (kzk.eq_2 ..),
  λ_=>tr (kzq.eq_2 _ _ _ n),
  trivial⟩)
def z6m:Nat->Int->(List Int)->Ot (List Int)
 |0,_,_=>none
 |n+1,a,b=>
  pIf (decide ((IntKind.u32.wrap a)<=127))
   ((ext b [(IntKind.u8.wrap a)]).bind λx0=>
   some x0)
   ((z1l n a b).bind λy1=>
   some y1)
def ziz:LSh:=⟨[(4,(.own 0))],[(.acc 5 (.int .u8) true)],0,16,[]⟩
noncomputable def zc4:FI dat:=FI.of dat 278 16 0 [(.own 0),(.d (.int .i32))] [(.acc 5 (.int .u8) true)] [(.own 0)] [(.acc 5 (.int .u8) true)] false ziz (R:=List Int) Prod.fst (·,()) (λn=>u2 (z6m n))
 (λn=>[]) (anb [] f278)
theorem zi5:FOk prog zc4:=okF (bs:=[z71]) ⟨zda,trivial⟩ func278 ntmps278 call278
 (λ_ _=>tr (z6m.eq_2 ..))
 (λn=>trivial)
def z5m:Nat->Int->(List Int)->Ot (Int×(List Int))
 |0,_,_=>none
 |n+1,a,b=>
  (z1g n b).bind λy0=>
  (z6m n a y0).bind λy1=>
  some ((IntKind.i64.wrap ((y1.length:Int)-(y0.length:Int))),y1)
def zhb:LSh:=⟨[(4,dI),(5,.nili)],[(.bld 111 1),(.acc 5 (.int .u8) true)],1,30,[]⟩
noncomputable def z68:FI dat:=FI.of dat 256 30 1 [(.bp 0),(.d (.int .i32))] [(.bld 111 1),(.acc 5 (.int .u8) true)] [dI,.nili] [(.bld 111 1),(.acc 5 (.int .u8) true)] false zhb (R:=Int×(List Int)) (λx=>(x.1,x.2.1)) (λr=>(r.1,r.2,())) (λn=>u2 (z5m n))
 (λn=>[]) (anb [] f256)
theorem zgg:FOk prog z68:=okF (bs:=[z1z,zc4]) ⟨z5v,zi5,trivial⟩ func256 ntmps256 call256
 (λ_ _=>tr (z5m.eq_2 ..))
 (λn=>trivial)
mutual
def zdw:Nat->zz0->(List Int)->Ot (List Int)
 |0,_,_=>none
 |n+1,a,b=>
  pIf (a.kind==1)
   ((zfo n a.num).bind λy0=>
   (zz5 n y0.1 b).bind λy1=>
   some y1.2)
   (pIf (a.kind==2)
     (pIf a.truth
       ((zz5 n [116,114,117,101] b).bind λy2=>
       some y2.2)
       ((zz5 n [102,97,108,115,101] b).bind λy3=>
       some y3.2))
     (pIf (a.kind==3)
       ((zzh n 34 b).bind λy4=>
       zah n y4 a.str 0)
       (pIf (a.kind==4)
         ((zzh n 91 b).bind λy5=>
         zaf n 0 a.list (a.list.length:Int) y5)
         (some b))))
def zah:Nat->(List Int)->B8->Nat->Ot (List Int)
 |0,_,_,_=>none
 |n+1,a,b,c=>
  pIf (decide (c<b.length))
   (pIf (((z9m b c).1:Int)==34)
     (zag n ((z9m b c).1:Int) a b (c+(z9m b c).2))
     (pIf (((z9m b c).1:Int)==92)
       (zag n ((z9m b c).1:Int) a b (c+(z9m b c).2))
       (zaa n ((z9m b c).1:Int) a b (c+(z9m b c).2))))
   ((zzh n 34 a).bind λy6=>
   some y6)
def zag:Nat->Int->(List Int)->B8->Nat->Ot (List Int)
 |0,_,_,_,_=>none
 |n+1,a,b,c,d=>
  (zzh n 92 b).bind λy10=>
  zaa n a y10 c d
def zaa:Nat->Int->(List Int)->B8->Nat->Ot (List Int)
 |0,_,_,_,_=>none
 |n+1,a,b,c,d=>
  (z5m n a b).bind λy11=>
  zah n y11.2 c d
def zaf:Nat->Int->zzr->Int->(List Int)->Ot (List Int)
 |0,_,_,_,_=>none
 |n+1,a,b,c,d=>
  pIf (decide (a<c))
   ((ix b a).bind λx7=>
   pIf (decide (a>0))
    ((zz5 n [44,32] d).bind λy8=>
    zac n b c a y8.2 x7.re)
    (zac n b c a d x7.re))
   ((zzh n 93 d).bind λy9=>
   some y9)
def zac:Nat->zzr->Int->Int->(List Int)->zz0->Ot (List Int)
 |0,_,_,_,_,_=>none
 |n+1,a,b,c,d,e=>
  (zdw n e.re d).bind λy12=>
  zaf n (IntKind.i64.wrap (c+1)) a b y12
end
def y5b:LSh:=⟨[],[(.bld 111 1),(.acc 5 (.int .u8) true)],1,75,[]⟩
noncomputable def zcl:FI dat:=FI.of dat 224 75 1 [(.bp 0),dT 4] [(.bld 111 1),(.acc 5 (.int .u8) true)] [] [(.bld 111 1),(.acc 5 (.int .u8) true)] false y5b (R:=List Int) Prod.fst (·,()) (λn=>u2 (zdw n))
 (λn=>[(0,⟨⟨[(0,(.bp 0)),(37,(.ptr 2 0))],[(.bld 111 1),(.acc 5 (.int .u8) true),.siter],1,75,[]⟩,u3 (zah n)⟩),(1,⟨⟨[(0,(.bp 0)),(37,(.ptr 2 0)),(7,(.d (.int .i32)))],[(.bld 111 1),(.acc 5 (.int .u8) true),.siter],1,75,[]⟩,u4 (zag n)⟩),(2,⟨⟨[(0,(.bp 0)),(37,(.ptr 2 0)),(7,(.d (.int .i32)))],[(.bld 111 1),(.acc 5 (.int .u8) true),.siter],1,75,[]⟩,u4 (zaa n)⟩),(3,⟨⟨[(60,dI),(0,(.bp 0)),(58,dL 4),(59,dI)],[(.bld 111 1),(.acc 5 (.int .u8) true)],1,75,[]⟩,u4 (zaf n)⟩),(4,⟨⟨[(0,(.bp 0)),(58,dL 4),(59,dI),(60,dI),(9,(.ptr 2 0))],[(.bld 111 1),(.acc 5 (.int .u8) true),(.st 4)],1,75,[]⟩,u5 (zac n)⟩)]) (anb [(28,0),(59,1),(60,2),(73,3),(90,4)] f224)
noncomputable def y6c:List (FI dat):=[zcl]++[zzn,z22,z68,zhi]
theorem y6q:(zcl).Good prog dat (tb y6c):=FI.z2e (hD:=kze _) func224 ntmps224 call224 (by kernel_rfl) (Qac (by kernel_rfl)) (by kernel_rfl) (λn=>by kernel_rfl) (λx=>by kernel_rfl) (λ_=>rfl) ⟨λ_=>rfl,λ_=>rfl,λ_=>rfl,λ_=>rfl,λ_=>rfl,trivial⟩
 (λ_ _=>tr (zdw.eq_2 ..))
 (λn=>⟨λ_=>tr (zah.eq_2 ..),
  λ_=>tr (zag.eq_2 ..),
  λ_=>tr (zaa.eq_2 ..),
  λ_=>tr (zaf.eq_2 ..),
  λ_=>tr (zac.eq_2 ..),
  trivial⟩)
 (λx=>.inr (by kernel_rfl))
theorem y67:OkL prog [zcl]:=z8d (kze _) (bs:=[zzn,z22,z68,zhi]) ⟨z4b,z9o,zgg,zsp,trivial⟩ ⟨y6q,trivial⟩
theorem y4n:FOk prog zcl:=y67.1
def z2r:Nat->(List Int)->Ot (Int×(List Int))
 |0,_=>none
 |n+1,a=>
  some ((a.length:Int),a)
def zo2:LSh:=⟨[(2,dI)],[(.bld 111 1),(.acc 5 (.int .u8) true)],1,8,[]⟩
noncomputable def z6t:FI dat:=FI.of dat 65 8 1 [(.bp 0)] [(.bld 111 1),(.acc 5 (.int .u8) true)] [dI] [(.bld 111 1),(.acc 5 (.int .u8) true)] false zo2 (R:=Int×(List Int)) (λx=>(x.1,x.2.1)) (λr=>(r.1,r.2,())) (λn=>u1 (z2r n))
 (λn=>[]) (anb [] f65)
theorem z9c:FOk prog z6t:=okF (bs:=[]) trivial func65 ntmps65 call65
 (λn=>λ_=>tr (z2r.eq_2 _ n))
 (λn=>trivial)
def zkq:Nat->zz0->Ot (B8×Int)
 |0,_=>none
 |n+1,a=>
  (z4w n a.re).bind λy0=>
  pIf (y0 != 0)
   (some ([],y0))
   ((zdw n a.re []).bind λy1=>
   (z2r n y1).bind λy2=>
   pIf (decide (y2.1>4000))
    (some ([],4))
    ((z0u n y2.2).bind λy3=>
    some (y3,0)))
def yay:LSh:=⟨[(2,dS),(3,dI)],[],0,16,[]⟩
noncomputable def znr:FI dat:=FI.of dat 181 16 0 [dT 4] [] [dS,dI] [] true yay (R:=B8×Int) (λx=>(x.1,x.2.1)) (λr=>(r.1,r.2,())) (λn=>u1 (zkq n))
 (λn=>[]) (anb [] f181)
theorem y5m:FOk prog znr:=okF (bs:=[zcl,z6t,z1f,zcj]) ⟨y4n,z9c,z3p,zi6,trivial⟩ func181 ntmps181 call181
 (λ_ _=>tr (zkq.eq_2 ..))
 (λn=>trivial)
mutual
def zdt:Nat->Int->Ot B8
 |0,_=>none
 |n+1,a=>
  pIf (decide (a<3))
   (zcw n a true)
   (zcw n a (decide (a>10)))
def zcw:Nat->Int->Bool->Ot B8
 |0,_,_=>none
 |n+1,a,b=>
  pIf b
   (some [])
   ((zzu n [43,32,45,32,42,32,47,32,60,32,61,32,97,110,100,32,111,114]).bind λy0=>
   (ix y0 (IntKind.u8.wrap (a-3))).bind λx1=>
   some x1)
end
def ydr:LSh:=⟨[(2,dS)],[],0,14,[]⟩
noncomputable def zg5:FI dat:=FI.of dat 182 14 0 [dU] [] [dS] [] true ydr (R:=B8) Prod.fst (·,()) (λn=>u1 (zdt n))
 (λn=>[(0,⟨⟨[(0,dU),(8,dB)],[],0,14,[]⟩,u2 (zcw n)⟩)]) (anb [(5,0)] f182)
theorem zu0:FOk prog zg5:=okF (bs:=[z1y]) ⟨z7u,trivial⟩ func182 ntmps182 call182
 (λ_ _=>tr (zdt.eq_2 ..))
 (λn=>⟨λ_=>tr (zcw.eq_2 ..),
  trivial⟩)
mutual
def zfn:Nat->kz0->(List Int)->Ot (List Int)
 |0,_,_=>none
 |n+1,a,b=>
  pIf (a.op==1)
   ((zkq n a.value.re).bind λy0=>
   pIf (y0.2==0)
    ((zz5 n y0.1 b).bind λy1=>
    some y1.2)
    (some b))
   (pIf (a.op==2)
     ((zz5 n a.name b).bind λy2=>
     some y2.2)
     ((zdt n a.op).bind λy3=>
     pIf (!(y3==[]))
      ((zdt n a.op).bind λy4=>
      (cat [32] y4).bind λx5=>
      (cat x5 [32]).bind λx6=>
      z8n n x6 [41] [40] b a.re)
      (pIf (a.op != 18)
        ((zzu n [110,111,116,32,105,102,32,109,105,110,32,109,97,120,32,102,108,111,111,114,32,108,101,110,32,97,116]).bind λy7=>
        (ix y7 (IntKind.u8.wrap (a.op-11))).bind λx8=>
        (cat x8 [40]).bind λx9=>
        z8n n [44,32] [41] x9 b a.re)
        (z8n n [44,32] [93] [91] b a.re))))
def z8n:Nat->B8->B8->B8->(List Int)->kz0->Ot (List Int)
 |0,_,_,_,_,_=>none
 |n+1,a,b,c,d,e=>
  (zz5 n c d).bind λy10=>
  zbs n 0 a e.args b (e.args.length:Int) y10.2
def zbs:Nat->Int->B8->zz7->B8->Int->(List Int)->Ot (List Int)
 |0,_,_,_,_,_,_=>none
 |n+1,a,b,c,d,e,f=>
  pIf (decide (a<e))
   ((ix c a).bind λx11=>
   pIf (decide (a>0))
    ((zz5 n b f).bind λy12=>
    zbv n b c d e a y12.2 x11.re)
    (zbv n b c d e a f x11.re))
   ((zz5 n d f).bind λy13=>
   some y13.2)
def zbv:Nat->B8->zz7->B8->Int->Int->(List Int)->kz0->Ot (List Int)
 |0,_,_,_,_,_,_,_=>none
 |n+1,a,b,c,d,e,f,g=>
  (zfn n g.re f).bind λy14=>
  zbs n (IntKind.i64.wrap (e+1)) a b c d y14
end
def y9a:LSh:=⟨[],[(.bld 111 1),(.acc 5 (.int .u8) true)],1,78,[]⟩
noncomputable def zdx:FI dat:=FI.of dat 124 78 1 [(.bp 0),dT 5] [(.bld 111 1),(.acc 5 (.int .u8) true)] [] [(.bld 111 1),(.acc 5 (.int .u8) true)] false y9a (R:=List Int) Prod.fst (·,()) (λn=>u2 (zfn n))
 (λn=>[(0,⟨⟨[(0,(.bp 0)),(5,dS),(6,dS),(3,(.ptr 2 0)),(4,dS)],[(.bld 111 1),(.acc 5 (.int .u8) true),(.st 5)],1,78,[]⟩,u5 (z8n n)⟩),(1,⟨⟨[(61,dI),(0,(.bp 0)),(5,dS),(59,dL 5),(6,dS),(60,dI)],[(.bld 111 1),(.acc 5 (.int .u8) true)],1,78,[]⟩,u6 (zbs n)⟩),(2,⟨⟨[(0,(.bp 0)),(5,dS),(59,dL 5),(6,dS),(60,dI),(61,dI),(10,(.ptr 2 0))],[(.bld 111 1),(.acc 5 (.int .u8) true),(.st 5)],1,78,[]⟩,u7 (zbv n)⟩)]) (anb [(33,0),(39,1),(56,2)] f124)
noncomputable def y92:List (FI dat):=[zdx]++[zzn,znr,zg5,z1y]
theorem yaa:(zdx).Good prog dat (tb y92):=FI.z2e (hD:=kze _) func124 ntmps124 call124 (by kernel_rfl) (Qac (by kernel_rfl)) (by kernel_rfl) (λn=>by kernel_rfl) (λx=>by kernel_rfl) (λ_=>rfl) ⟨λ_=>rfl,λ_=>rfl,λ_=>rfl,trivial⟩
 (λ_ _=>tr (zfn.eq_2 ..))
 (λn=>⟨λ_=>tr (z8n.eq_2 ..),
  λ_=>tr (zbs.eq_2 ..),
  λ_=>tr (zbv.eq_2 ..),
  trivial⟩)
 (λx=>.inr (by kernel_rfl))
theorem y8d:OkL prog [zdx]:=z8d (kze _) (bs:=[zzn,znr,zg5,z1y]) ⟨z4b,y5m,zu0,z7u,trivial⟩ ⟨yaa,trivial⟩
theorem y5v:FOk prog zdx:=y8d.1
def zmr:Nat->kz0->Ot (B8×Int)
 |0,_=>none
 |n+1,a=>
  (yzy n a.re).bind λy0=>
  pIf (y0 != 0)
   (some ([],y0))
   ((zfn n a.re []).bind λy1=>
   (z2r n y1).bind λy2=>
   pIf (decide (y2.1>4000))
    (some ([],4))
    ((z0u n y2.2).bind λy3=>
    some (y3,0)))
def yd5:LSh:=⟨[(2,dS),(3,dI)],[],0,16,[]⟩
noncomputable def zy7:FI dat:=FI.of dat 62 16 0 [dT 5] [] [dS,dI] [] true yd5 (R:=B8×Int) (λx=>(x.1,x.2.1)) (λr=>(r.1,r.2,())) (λn=>u1 (zmr n))
 (λn=>[]) (anb [] f62)
theorem y8u:FOk prog zy7:=okF (bs:=[zdx,z6t,z1f,zbp]) ⟨y5v,z9c,z3p,zcn,trivial⟩ func62 ntmps62 call62
 (λ_ _=>tr (zmr.eq_2 ..))
 (λn=>trivial)
mutual
def z3a:Nat->kz0->Bool->Ot (B8×Bool)
 |0,_,_=>none
 |n+1,a,b=>
  (zmr n a.re).bind λy0=>
  pIf b
   (z96 n y0.1 true)
   (z96 n y0.1 (y0.2 != 0))
def z96:Nat->B8->Bool->Ot (B8×Bool)
 |0,_,_=>none
 |n+1,a,b=>
  some (a,b)
end
def y2w:LSh:=⟨[(3,dS)],[(.cells [dB])],1,17,[]⟩
noncomputable def zi1:FI dat:=FI.of dat 61 17 1 [dT 5,(.ptr 0 0)] [(.cells [dB])] [dS] [(.cells [dB])] false y2w (R:=B8×Bool) (λx=>(x.1,x.2.1)) (λr=>(r.1,r.2,())) (λn=>u2 (z3a n))
 (λn=>[(0,⟨⟨[(4,dS)],[(.cells [dB])],1,17,[]⟩,u2 (z96 n)⟩)]) (anb [(6,0)] f61)
theorem zo1:FOk prog zi1:=okF (bs:=[zy7]) ⟨y8u,trivial⟩ func61 ntmps61 call61
 (λ_ _=>tr (z3a.eq_2 ..))
 (λn=>⟨λ_=>tr (z96.eq_2 _ _ n),
  trivial⟩)
def z0m:Nat->(List B8)->(List Int)->Ot (List Int)
 |0,_,_=>none
 |n+1,a,b=>
  (zcv n a [32]).bind λy0=>
  (cat y0 [10]).bind λx1=>
  (zz5 n x1 b).bind λy2=>
  some y2.2
def y1i:LSh:=⟨[],[(.bld 111 1),(.acc 5 (.int .u8) true)],1,7,[]⟩
noncomputable def zit:FI dat:=FI.of dat 58 7 1 [dA,(.bp 0)] [(.bld 111 1),(.acc 5 (.int .u8) true)] [] [(.bld 111 1),(.acc 5 (.int .u8) true)] false y1i (R:=List Int) Prod.fst (·,()) (λn=>u2 (z0m n))
 (λn=>[]) (anb [] f58)
theorem znu:FOk prog zit:=okF (bs:=[zzn,zpa]) ⟨z4b,zyl,trivial⟩ func58 ntmps58 call58
 (λ_ _=>tr (z0m.eq_2 ..))
 (λn=>trivial)
mutual
def zax:Nat->kz3->Bool->(List Int)->Ot (Bool×(List Int))
 |0,_,_,_=>none
 |n+1,a,b,c=>
  (zzu n [99,97,108,108,32,109,111,118,101,32,115,105,122,101,32,116,117,114,110,32,115,112,108,105,116,32,108,101,97,102]).bind λy0=>
  (ix y0 (IntKind.u8.wrap (a.kind-1))).bind λx1=>
  (sub [120,121,122] a.axis (IntKind.u8.wrap (a.axis+1))).bind λx2=>
  pIf (a.kind==6)
   ((ix a.args 0).bind λx3=>
   (z3a n x3.re b).bind λy4=>
   (z0m n [x1,y4.1] c).bind λy5=>
   some (y4.2,y5))
   (pIf (a.kind==5)
     ((z0m n [x1,x2] c).bind λy6=>
     z5f n 0 a.items (a.items.length:Int) b y6)
     (pIf (a.kind==4)
       ((z26 n a.args).bind λy7=>
       (z3a n y7.re b).bind λy8=>
       (z0m n [x1,x2,a.name,y8.1] c).bind λy9=>
       some (y8.2,y9))
       ((z26 n a.args).bind λy10=>
       (z3a n y10.re b).bind λy11=>
       (z0m n [x1,a.name,y11.1] c).bind λy12=>
       some (y11.2,y12))))
def z5f:Nat->Int->znj->Int->Bool->(List Int)->Ot (Bool×(List Int))
 |0,_,_,_,_,_=>none
 |n+1,a,b,c,d,e=>
  pIf (decide (a<c))
   ((ix b a).bind λx13=>
   (zzu n [102,105,120,101,100,32,115,104,97,114,101,32,114,101,115,116]).bind λy14=>
   (ix y14 (IntKind.u8.wrap (x13.kind-1))).bind λx15=>
   (z26 n x13.args).bind λy16=>
   (z3a n y16.re d).bind λy17=>
   (z0m n [x15,x13.name,y17.1] e).bind λy18=>
   z5f n (IntKind.i64.wrap (a+1)) b c y17.2 y18)
   (some (d,e))
end
def zr5:LSh:=⟨[],[(.bld 111 2),(.cells [dB]),(.acc 5 (.int .u8) true)],2,92,[]⟩
noncomputable def zgq:FI dat:=FI.of dat 64 92 2 [(.fn 58 [] [(.bp 0)]),(.fn 61 [] [(.ptr 1 0)]),dT 8] [(.bld 111 2),(.cells [dB]),(.acc 5 (.int .u8) true)] [] [(.bld 111 2),(.cells [dB]),(.acc 5 (.int .u8) true)] false zr5 (R:=Bool×(List Int)) (λx=>(x.1,x.2.1)) (λr=>(r.1,r.2,())) (λn=>u3 (zax n))
 (λn=>[(0,⟨⟨[(57,dI),(1,(.fn 61 [] [(.ptr 1 0)])),(0,(.fn 58 [] [(.bp 0)])),(55,dL 7),(56,dI)],[(.bld 111 2),(.cells [dB]),(.acc 5 (.int .u8) true)],2,92,[]⟩,u5 (z5f n)⟩)]) (anb [(21,0)] f64)
theorem zpy:FOk prog zgq:=okF (bs:=[zi1,zit,z1y,zmn]) ⟨zo1,znu,z7u,zsh,trivial⟩ func64 ntmps64 call64
 (λ_ _=>tr (zax.eq_2 ..))
 (λn=>⟨λ_=>tr (z5f.eq_2 ..),
  trivial⟩)
mutual
noncomputable def zfd:Nat->yz0->Ot (B8×Int)
 |0,_=>none
 |n+1,a=>
  (z1d n a).bind λy0=>
  pIf (y0 != 0)
   (some ([],y0))
   (zbh n 0 a.attrs (a.attrs.length:Int) false a [])
noncomputable def zbh:Nat->Int->zzx->Int->Bool->yz0->(List Int)->Ot (B8×Int)
 |0,_,_,_,_,_,_=>none
 |n+1,a,b,c,d,e,f=>
  pIf (decide (a<c))
   ((ix b a).bind λx1=>
   (z3a n x1.value.re d).bind λy2=>
   (z0m n [[97,116,116,114],x1.name,y2.1] f).bind λy3=>
   zbh n (IntKind.i64.wrap (a+1)) b c y2.2 e y3)
   (zc1 n 0 e.rules (e.rules.length:Int) d f)
noncomputable def zc1:Nat->Int->yzf->Int->Bool->(List Int)->Ot (B8×Int)
 |0,_,_,_,_,_=>none
 |n+1,a,b,c,d,e=>
  pIf (decide (a<c))
   ((ix b a).bind λx4=>
   (ext [[114,117,108,101],x4.name] x4.params).bind λx5=>
   (z0m n x5 e).bind λy6=>
   zbl n 0 x4.cases b c a (x4.cases.length:Int) d y6)
   (pIf d
     (zbo n true e)
     ((z2r n e).bind λy7=>
     zbo n (decide (y7.1>20000)) y7.2))
noncomputable def zbl:Nat->Int->z0r->yzf->Int->Int->Int->Bool->(List Int)->Ot (B8×Int)
 |0,_,_,_,_,_,_,_,_=>none
 |n+1,a,b,c,d,e,f,g,h=>
  pIf (decide (a<f))
   ((ix b a).bind λx8=>
   (zd2 n x8.weight).bind λy9=>
   (z3a n x8.when_.re g).bind λy10=>
   (z0m n [[99,97,115,101],y9,y10.1] h).bind λy11=>
   zbk n 0 x8.do_ b c d e f a (x8.do_.length:Int) y10.2 y11)
   (zc1 n (IntKind.i64.wrap (e+1)) c d g h)
noncomputable def zbk:Nat->Int->z78->z0r->yzf->Int->Int->Int->Int->Int->Bool->(List Int)->Ot (B8×Int)
 |0,_,_,_,_,_,_,_,_,_,_,_=>none
 |n+1,a,b,c,d,e,f,g,h,i,j,k=>
  pIf (decide (a<i))
   ((ix b a).bind λx13=>
   (zax n x13 j k).bind λy14=>
   zbk n (IntKind.i64.wrap (a+1)) b c d e f g h i y14.1 y14.2)
   (zbl n (IntKind.i64.wrap (h+1)) c d e f g j k)
noncomputable def zbo:Nat->Bool->(List Int)->Ot (B8×Int)
 |0,_,_=>none
 |n+1,a,b=>
  pIf a
   (some ([],4))
   ((z0u n b).bind λy12=>
   some (y12,0))
end
def y9y:LSh:=⟨[(2,dS),(3,dI)],[],0,93,[]⟩
noncomputable def zhh:FI dat:=FI.of dat 25 93 0 [dT 11] [] [dS,dI] [] true y9y (R:=B8×Int) (λx=>(x.1,x.2.1)) (λr=>(r.1,r.2,())) (λn=>u1 (zfd n))
 (λn=>[(0,⟨⟨[(27,dI),(8,(.fn 61 [] [(.ptr 0 0)])),(6,(.fn 58 [] [(.bp 1)])),(25,dL 6),(5,(.bp 1)),(7,(.ptr 0 0)),(1,(.ptr 2 0)),(26,dI)],[(.cells [dB]),(.bld 111 3),(.st 11),(.acc 5 (.int .u8) true)],0,93,[]⟩,u6 (zbh n)⟩),(1,⟨⟨[(8,(.fn 61 [] [(.ptr 0 0)])),(6,(.fn 58 [] [(.bp 1)])),(44,dI),(42,dL 10),(5,(.bp 1)),(7,(.ptr 0 0)),(43,dI)],[(.cells [dB]),(.bld 111 2),(.acc 5 (.int .u8) true)],0,93,[]⟩,u5 (zc1 n)⟩),(2,⟨⟨[(8,(.fn 61 [] [(.ptr 0 0)])),(6,(.fn 58 [] [(.bp 1)])),(59,dI),(57,dL 9),(42,dL 10),(5,(.bp 1)),(7,(.ptr 0 0)),(43,dI),(44,dI),(58,dI)],[(.cells [dB]),(.bld 111 2),(.acc 5 (.int .u8) true)],0,93,[]⟩,u8 (zbl n)⟩),(3,⟨⟨[(76,dI),(8,(.fn 61 [] [(.ptr 0 0)])),(6,(.fn 58 [] [(.bp 1)])),(74,dL 8),(57,dL 9),(42,dL 10),(5,(.bp 1)),(7,(.ptr 0 0)),(43,dI),(44,dI),(58,dI),(59,dI),(75,dI)],[(.cells [dB]),(.bld 111 2),(.acc 5 (.int .u8) true)],0,93,[]⟩,u11 (zbk n)⟩),(4,⟨⟨[(5,(.bp 0)),(91,dB)],[(.bld 111 1),(.acc 5 (.int .u8) true)],0,93,[]⟩,u2 (zbo n)⟩)]) (anb [(24,0),(41,1),(57,2),(73,3),(91,4)] f25)
theorem zsf:FOk prog zhh:=okF (bs:=[zi1,zit,z6t,z1f,zgq,zco,zp7]) ⟨zo1,znu,z9c,z3p,zpy,ze1,y08,trivial⟩ func25 ntmps25 call25
 (λn=>λ_=>tr (zfd.eq_2 _ n))
 (λn=>⟨λ_=>tr (zbh.eq_2 _ _ _ _ _ _ n),
  λ_=>tr (zc1.eq_2 _ _ _ _ _ n),
  λ_=>tr (zbl.eq_2 _ _ _ _ _ _ _ _ n),
  λ_=>tr (zbk.eq_2 _ _ _ _ _ _ _ _ _ _ _ n),
  λ_=>tr (zbo.eq_2 _ _ n),
  trivial⟩)
def z1m:Nat->B8->B8->Ot B8
 |0,_,_=>none
 |n+1,a,b=>
  (yzw n a b).bind λy0=>
  pIf y0
   ((sub a 0 (IntKind.i64.wrap ((a.length:Int)-(b.length:Int)))).bind λx1=>
   some x1)
   (some a)
def zdj:LSh:=⟨[(4,dS)],[],0,16,[]⟩
noncomputable def z6y:FI dat:=FI.of dat 105 16 0 [dS,dS] [] [dS] [] true zdj (R:=B8) Prod.fst (·,()) (λn=>u2 (z1m n))
 (λn=>[]) (anb [] f105)
theorem zd7:FOk prog z6y:=okF (bs:=[z35]) ⟨z6z,trivial⟩ func105 ntmps105 call105
 (λ_ _=>tr (z1m.eq_2 ..))
 (λn=>trivial)
def za2:Nat->B8->B8->Ot B8
 |0,_,_=>none
 |n+1,a,b=>
  (z1m n a b).bind λy0=>
  some y0
def zpv:LSh:=⟨[(4,dS)],[],0,8,[]⟩
noncomputable def zau:FI dat:=FI.of dat 44 8 0 [dS,dS] [] [dS] [] true zpv (R:=B8) Prod.fst (·,()) (λn=>u2 (za2 n))
 (λn=>[]) (anb [] f44)
theorem zo4:FOk prog zau:=okF (bs:=[z6y]) ⟨zd7,trivial⟩ func44 ntmps44 call44
 (λ_ _=>tr (za2.eq_2 ..))
 (λn=>trivial)
def z6a:Nat->B8->B8->Ot (B8×B8×Bool)
 |0,_,_=>none
 |n+1,a,b=>
  (z17 n a b).bind λy0=>
  pIf (decide (y0>=0))
   ((sub a 0 y0).bind λx1=>
   (sub a (IntKind.i64.wrap (y0+(b.length:Int))) (a.length:Int)).bind λx2=>
   some (x1,x2,true))
   (some (a,[],false))
def zhv:LSh:=⟨[(4,dS),(5,dS),(6,dB)],[],0,23,[]⟩
noncomputable def zb3:FI dat:=FI.of dat 155 23 0 [dS,dS] [] [dS,dS,dB] [] true zhv (R:=B8×B8×Bool) (λx=>(x.1,x.2.1,x.2.2.1)) (λr=>(r.1,r.2.1,r.2.2,())) (λn=>u2 (z6a n))
 (λn=>[]) (anb [] f155)
theorem zh1:FOk prog zb3:=okF (bs:=[z5t]) ⟨z8v,trivial⟩ func155 ntmps155 call155
 (λ_ _=>tr (z6a.eq_2 ..))
 (λn=>trivial)
def z54:Nat->B8->B8->Ot (B8×B8×Bool)
 |0,_,_=>none
 |n+1,a,b=>
  (z6a n a b).bind λy0=>
  some (y0.1,y0.2.1,y0.2.2)
def y6v:LSh:=⟨[(4,dS),(5,dS),(6,dB)],[],0,13,[]⟩
noncomputable def z9z:FI dat:=FI.of dat 100 13 0 [dS,dS] [] [dS,dS,dB] [] true y6v (R:=B8×B8×Bool) (λx=>(x.1,x.2.1,x.2.2.1)) (λr=>(r.1,r.2.1,r.2.2,())) (λn=>u2 (z54 n))
 (λn=>[]) (anb [] f100)
theorem ze2:FOk prog z9z:=okF (bs:=[zb3]) ⟨zh1,trivial⟩ func100 ntmps100 call100
 (λ_ _=>tr (z54.eq_2 ..))
 (λn=>trivial)
def z7d:Nat->Int->Ot (Res (Int×Unit) Unit)
 |0,_=>none
 |n+1,a=>
  pIf (a != 0)
   (some (Res.pan (a,())))
   (some (Res.ok ()))
def ycv:LSh:=⟨[],[],0,6,[]⟩
noncomputable def z4u:FI dat:=FI.ofP dat 244 6 0 [dI] [] [] [] (.iface 31 dI) [] [] ycv (R:=Unit) (λx=>()) (λ_=>()) (λn=>u1 (z7d n))
 (λn=>[]) (anb [] f244)
noncomputable def ybw:List (FI dat):=[]
theorem ycx:(z4u).Good prog dat (tb ybw):=FI.zpf (hD:=kze _) func244 ntmps244 call244 (by kernel_rfl) (Qac (by kernel_rfl)) (by kernel_rfl) (λn=>by kernel_rfl) trivial (λx=>by kernel_rfl) (λ_=>rfl) trivial
 (λn=>λ_=>tr (z7d.eq_2 _ n))
 (λn=>trivial)
 (λx=>by kernel_rfl)
theorem ycw:OkL prog [z4u]:=zko (kze _) (bs:=[]) trivial ycx
theorem zh9:FOk prog z4u:=ycw.1
def kzw:Nat->B8->B8->Ot Bool
 |0,_,_=>none
 |n+1,a,b=>
  pIf (decide ((a.length:Int)>=(b.length:Int)))
   ((sub a 0 (b.length:Int)).bind λx0=>
   some (x0==b))
   (some false)
def zdo:LSh:=⟨[(4,dB)],[],0,18,[]⟩
noncomputable def z2c:FI dat:=FI.of dat 292 18 0 [dS,dS] [] [dB] [] true zdo (R:=Bool) Prod.fst (·,()) (λn=>u2 (kzw n))
 (λn=>[]) (anb [] f292)
theorem z6x:FOk prog z2c:=okF (bs:=[]) trivial func292 ntmps292 call292
 (λn=>λ_=>tr (kzw.eq_2 _ _ n))
 (λn=>trivial)
def z23:Nat->B8->B8->Ot (B8×Bool)
 |0,_,_=>none
 |n+1,a,b=>
  (kzw n a b).bind λy0=>
  pIf (!y0)
   (some (a,false))
   ((sub a (b.length:Int) (a.length:Int)).bind λx1=>
   some (x1,true))
def zeo:LSh:=⟨[(4,dS),(5,dB)],[],0,15,[]⟩
noncomputable def z7e:FI dat:=FI.of dat 291 15 0 [dS,dS] [] [dS,dB] [] true zeo (R:=B8×Bool) (λx=>(x.1,x.2.1)) (λr=>(r.1,r.2,())) (λn=>u2 (z23 n))
 (λn=>[]) (anb [] f291)
theorem zdl:FOk prog z7e:=okF (bs:=[z2c]) ⟨z6x,trivial⟩ func291 ntmps291 call291
 (λ_ _=>tr (z23.eq_2 ..))
 (λn=>trivial)
def z7t:Nat->B8->B8->Ot (B8×Bool)
 |0,_,_=>none
 |n+1,a,b=>
  (z23 n a b).bind λy0=>
  some (y0.1,y0.2)
def zrc:LSh:=⟨[(4,dS),(5,dB)],[],0,11,[]⟩
noncomputable def zc7:FI dat:=FI.of dat 286 11 0 [dS,dS] [] [dS,dB] [] true zrc (R:=B8×Bool) (λx=>(x.1,x.2.1)) (λr=>(r.1,r.2,())) (λn=>u2 (z7t n))
 (λn=>[]) (anb [] f286)
theorem zg9:FOk prog zc7:=okF (bs:=[z7e]) ⟨zdl,trivial⟩ func286 ntmps286 call286
 (λ_ _=>tr (z7t.eq_2 ..))
 (λn=>trivial)
def kzs:Nat->B8->kz1->Ot (Bool×kz1)
 |0,_,_=>none
 |n+1,a,b=>
  (z7t n b.s a).bind λy0=>
  some (y0.2,(kz1.mk y0.1))
def zss:LSh:=⟨[(4,dB)],[(.st 15)],1,21,[]⟩
noncomputable def z6p:FI dat:=FI.of dat 269 21 1 [(.ptr 0 0),dS] [(.st 15)] [dB] [(.st 15)] false zss (R:=Bool×kz1) (λx=>(x.1,x.2.1)) (λr=>(r.1,r.2,())) (λn=>u2 (kzs n))
 (λn=>[]) (anb [] f269)
theorem zgx:FOk prog z6p:=okF (bs:=[zc7]) ⟨zg9,trivial⟩ func269 ntmps269 call269
 (λ_ _=>tr (kzs.eq_2 ..))
 (λn=>trivial)
def z61:Nat->B8->kz1->Ot (Res (Int×Unit) kz1)
 |0,_,_=>none
 |n+1,a,b=>
  (kzs n a b).bind λy0=>
  pIf (!y0.1)
   ((z7d n 12).bind λy1=>
   zkg y1 (λr2=>
    some (Res.ok y0.2))
    (λe3=>
    some (Res.pan (e3.1,()))))
   (some (Res.ok y0.2))
def ztk:LSh:=⟨[],[(.st 15)],1,9,[]⟩
noncomputable def z6o:FI dat:=FI.ofP dat 270 9 1 [(.ptr 0 0),dS] [(.st 15)] [] [(.st 15)] (.iface 31 dI) [(.cells [.any])] [] ztk (R:=kz1) Prod.fst (·,()) (λn=>u2 (z61 n))
 (λn=>[]) (anb [] f270)
noncomputable def ztn:List (FI dat):=[z6p,z4u]
theorem ztd:(z6o).Good prog dat (tb ztn):=FI.zpf (hD:=kze _) func270 ntmps270 call270 (by kernel_rfl) (Qac (by kernel_rfl)) (by kernel_rfl) (λn=>by kernel_rfl) trivial (λx=>by kernel_rfl) (λ_=>rfl) trivial
 (λ_ _=>tr (z61.eq_2 ..))
 (λn=>trivial)
 (λx=>by kernel_rfl)
theorem zt8:OkL prog [z6o]:=zko (kze _) (bs:=[z6p,z4u]) ⟨zgx,zh9,trivial⟩ ztd
theorem zrt:FOk prog z6o:=zt8.1
def z7r:Nat->B8->B8->Ot Bool
 |0,_,_=>none
 |n+1,a,b=>
  (kzw n a b).bind λy0=>
  some y0
def zrw:LSh:=⟨[(4,dB)],[],0,8,[]⟩
noncomputable def z8f:FI dat:=FI.of dat 287 8 0 [dS,dS] [] [dB] [] true zrw (R:=Bool) Prod.fst (·,()) (λn=>u2 (z7r n))
 (λn=>[]) (anb [] f287)
theorem zfy:FOk prog z8f:=okF (bs:=[z2c]) ⟨z6x,trivial⟩ func287 ntmps287 call287
 (λ_ _=>tr (z7r.eq_2 ..))
 (λn=>trivial)
def z7n:Nat->B8->Int->Ot Int
 |0,_,_=>none
 |n+1,a,b=>
  (z6w n a b).bind λy0=>
  some y0
def zrb:LSh:=⟨[(4,dI)],[],0,8,[]⟩
noncomputable def z5z:FI dat:=FI.of dat 99 8 0 [dS,dU] [] [dI] [] true zrb (R:=Int) Prod.fst (·,()) (λn=>u2 (z7n n))
 (λn=>[]) (anb [] f99)
theorem zg8:FOk prog z5z:=okF (bs:=[z7q]) ⟨zdn,trivial⟩ func99 ntmps99 call99
 (λn x=>tr (z7n.eq_2 x.1 x.2.1 n))
 (λn=>trivial)
def kzo:Nat->B8->zz2->Ot (Bool×zz2)
 |0,_,_=>none
 |n+1,a,b=>
  (sub b.s b.at_ (b.s.length:Int)).bind λx0=>
  (z7r n x0 a).bind λy1=>
  pIf (!y1)
   (some (false,b))
   (some (true,(zz2.mk b.s (IntKind.i64.wrap (b.at_+(a.length:Int))) b.ok)))
def zrq:LSh:=⟨[(4,dB)],[(.st 16)],1,26,[]⟩
noncomputable def zcg:FI dat:=FI.of dat 294 26 1 [(.ptr 0 0),dS] [(.st 16)] [dB] [(.st 16)] false zrq (R:=Bool×zz2) (λx=>(x.1,x.2.1)) (λr=>(r.1,r.2,())) (λn=>u2 (kzo n))
 (λn=>[]) (anb [] f294)
theorem zon:FOk prog zcg:=okF (bs:=[z8f]) ⟨zfy,trivial⟩ func294 ntmps294 call294
 (λ_ _=>tr (kzo.eq_2 ..))
 (λn=>trivial)
mutual
def z99:Nat->zz2->Ot (B8×zz2)
 |0,_=>none
 |n+1,a=>
  z3j n a []
def z3j:Nat->zz2->(List Int)->Ot (B8×zz2)
 |0,_,_=>none
 |n+1,a,b=>
  pIf (decide (a.at_<(a.s.length:Int)))
   ((ix a.s a.at_).bind λx0=>
   pIf ((x0.toNat:Int)==34)
    ((z0u n b).bind λy1=>
    some (y1,(zz2.mk a.s (IntKind.i64.wrap (a.at_+1)) a.ok)))
    (pIf ((x0.toNat:Int)==92)
      (pIf ((IntKind.i64.wrap (a.at_+1))==(a.s.length:Int))
        (z0s n true (zz2.mk a.s (IntKind.i64.wrap (a.at_+1)) a.ok) b)
        ((ix a.s (IntKind.i64.wrap (a.at_+1))).bind λx2=>
        pIf ((x2.toNat:Int) != 34)
         ((ix a.s (IntKind.i64.wrap (a.at_+1))).bind λx3=>
         z0s n ((x3.toNat:Int) != 92) (zz2.mk a.s (IntKind.i64.wrap (a.at_+1)) a.ok) b)
         (z0s n false (zz2.mk a.s (IntKind.i64.wrap (a.at_+1)) a.ok) b)))
      (z3o n (x0.toNat:Int) (zz2.mk a.s (IntKind.i64.wrap (a.at_+1)) a.ok) b)))
   (z3n n a)
def z0s:Nat->Bool->zz2->(List Int)->Ot (B8×zz2)
 |0,_,_,_=>none
 |n+1,a,b,c=>
  pIf a
   (z3n n b)
   ((ix b.s b.at_).bind λx4=>
   z3o n (x4.toNat:Int) (zz2.mk b.s (IntKind.i64.wrap (b.at_+1)) b.ok) c)
def z3o:Nat->Int->zz2->(List Int)->Ot (B8×zz2)
 |0,_,_,_=>none
 |n+1,a,b,c=>
  (zzh n a c).bind λy5=>
  z3j n b y5
def z3n:Nat->zz2->Ot (B8×zz2)
 |0,_=>none
 |n+1,a=>
  some ([],(zz2.mk a.s a.at_ false))
end
def zod:LSh:=⟨[(2,dS)],[(.st 16)],1,91,[]⟩
noncomputable def za1:FI dat:=FI.of dat 295 91 1 [(.ptr 0 0)] [(.st 16)] [dS] [(.st 16)] false zod (R:=B8×zz2) (λx=>(x.1,x.2.1)) (λr=>(r.1,r.2,())) (λn=>u1 (z99 n))
 (λn=>[(0,⟨⟨[(3,(.bp 1)),(0,(.ptr 0 0))],[(.st 16),(.bld 111 2),(.acc 5 (.int .u8) true)],1,91,[]⟩,u2 (z3j n)⟩),(1,⟨⟨[(0,(.ptr 0 0)),(3,(.bp 1)),(69,dB)],[(.st 16),(.bld 111 2),(.acc 5 (.int .u8) true)],1,91,[]⟩,u3 (z0s n)⟩),(2,⟨⟨[(3,(.bp 1)),(0,(.ptr 0 0)),(4,dU)],[(.st 16),(.bld 111 2),(.acc 5 (.int .u8) true)],1,91,[]⟩,u3 (z3o n)⟩),(3,⟨⟨[(0,(.ptr 0 0))],[(.st 16)],1,91,[]⟩,u1 (z3n n)⟩)]) (anb [(6,0),(33,1),(40,2),(41,3)] f295)
theorem zmg:FOk prog za1:=okF (bs:=[z1f,z22]) ⟨z3p,z9o,trivial⟩ func295 ntmps295 call295
 (λ_ _=>tr (z99.eq_2 ..))
 (λn=>⟨λ_=>tr (z3j.eq_2 ..),
  λ_=>tr (z0s.eq_2 ..),
  λ_=>tr (z3o.eq_2 ..),
  λ_=>tr (z3n.eq_2 _ n),
  trivial⟩)
mutual
def zd0:Nat->B8->Ot (Int×Bool)
 |0,_=>none
 |n+1,a=>
  pIf ((a.length:Int)==0)
   (z47 n a true)
   (pIf (decide ((a.length:Int)>10))
     (z47 n a true)
     ((ix a 0).bind λx0=>
     pIf ((x0.toNat:Int)==48)
      (z47 n a (decide ((a.length:Int)>1)))
      (z47 n a false)))
def z47:Nat->B8->Bool->Ot (Int×Bool)
 |0,_,_=>none
 |n+1,a,b=>
  pIf b
   (some (0,false))
   (z9h n 0 a 0)
def z9h:Nat->Int->B8->Nat->Ot (Int×Bool)
 |0,_,_,_=>none
 |n+1,a,b,c=>
  pIf (decide (c<b.length))
   (pIf (decide (((z9m b c).1:Int)<48))
     (z9g n ((z9m b c).1:Int) a true b (c+(z9m b c).2))
     (z9g n ((z9m b c).1:Int) a (decide (((z9m b c).1:Int)>57)) b (c+(z9m b c).2)))
   (some (a,true))
def z9g:Nat->Int->Int->Bool->B8->Nat->Ot (Int×Bool)
 |0,_,_,_,_,_=>none
 |n+1,a,b,c,d,e=>
  pIf c
   (some (0,false))
   (z9h n (IntKind.i64.wrap ((IntKind.i64.wrap (10 * b))+(IntKind.i64.wrap (IntKind.i32.wrap (a-48))))) d e)
end
def y1l:LSh:=⟨[(2,dI),(3,dB)],[],0,43,[]⟩
noncomputable def zq0:FI dat:=FI.of dat 297 43 0 [dS] [] [dI,dB] [] true y1l (R:=Int×Bool) (λx=>(x.1,x.2.1)) (λr=>(r.1,r.2,())) (λn=>u1 (zd0 n))
 (λn=>[(0,⟨⟨[(0,dS),(24,dB)],[],0,43,[]⟩,u2 (z47 n)⟩),(1,⟨⟨[(4,dI),(26,(.ptr 0 0))],[.siter],0,43,[]⟩,u3 (z9h n)⟩),(2,⟨⟨[(26,(.ptr 0 0)),(6,(.d (.int .i32))),(4,dI),(35,dB)],[.siter],0,43,[]⟩,u5 (z9g n)⟩)]) (anb [(5,0),(16,1),(29,2)] f297)
theorem zyz:FOk prog zq0:=okF (bs:=[]) trivial func297 ntmps297 call297
 (λ_ _=>tr (zd0.eq_2 ..))
 (λn=>⟨λ_=>tr (z47.eq_2 ..),
  λ_=>tr (z9h.eq_2 ..),
  λ_=>tr (z9g.eq_2 ..),
  trivial⟩)
mutual
def zio:Nat->B8->Ot (Int×yz4)
 |0,_=>none
 |n+1,a=>
  (z7t n a [45]).bind λy0=>
  (z54 n y0.1 [47]).bind λy1=>
  pIf (!y1.2.2)
   (za9 n a y0.2 [49] y1.1 (yz4.mk 0 0))
   (za9 n a y0.2 y1.2.1 y1.1 (yz4.mk 0 0))
def za9:Nat->B8->Bool->B8->B8->yz4->Ot (Int×yz4)
 |0,_,_,_,_,_=>none
 |n+1,a,b,c,d,e=>
  (zd0 n d).bind λy2=>
  (zd0 n c).bind λy3=>
  pIf b
   (zad n a y3.2 y2.2 y3.1 (IntKind.i64.wrap (0-y2.1)) e)
   (zad n a y3.2 y2.2 y3.1 y2.1 e)
def zad:Nat->B8->Bool->Bool->Int->Int->yz4->Ot (Int×yz4)
 |0,_,_,_,_,_,_=>none
 |n+1,a,b,c,d,e,f=>
  pIf (!c)
   (z7c n a true f (yz4.mk e d))
   (pIf (!b)
     (z7c n a true f (yz4.mk e d))
     ((z52 n (yz4.mk e d)).bind λy4=>
     z7c n a (y4 != 0) f (yz4.mk e d)))
def z7c:Nat->B8->Bool->yz4->yz4->Ot (Int×yz4)
 |0,_,_,_,_=>none
 |n+1,a,b,c,d=>
  pIf b
   (some (12,(yz4.mk 0 0)))
   ((zfo n d).bind λy5=>
   pIf (!(y5.1==a))
    (some (12,(yz4.mk 0 0)))
    (some (0,d)))
end
def y71:LSh:=⟨[(2,(.ptr 0 0)),(3,dI)],[(.st 3)],0,67,[]⟩
noncomputable def zkp:FI dat:=FI.of dat 296 67 0 [dS] [] [dT 3,dI] [] true y71 (R:=Int×yz4) (λx=>(x.1,x.2.1)) (λr=>(r.2,r.1,())) (λn=>u1 (zio n))
 (λn=>[(0,⟨⟨[(2,(.ptr 0 0)),(0,dS),(5,dB),(7,dS),(6,dS)],[(.st 3)],0,67,[]⟩,u5 (za9 n)⟩),(1,⟨⟨[(2,(.ptr 0 0)),(0,dS),(12,dB),(10,dB),(11,dI),(9,dI)],[(.st 3)],0,67,[]⟩,u6 (zad n)⟩),(2,⟨⟨[(2,(.ptr 0 0)),(13,(.ptr 1 0)),(0,dS),(55,dB)],[(.st 3),(.st 3)],0,67,[]⟩,u4 (z7c n)⟩)]) (anb [(12,0),(22,1),(27,2)] f296)
theorem y4k:FOk prog zkp:=okF (bs:=[zc7,z9z,zq0,zcs,zhi]) ⟨zg9,ze2,zyz,ziv,zsp,trivial⟩ func296 ntmps296 call296
 (λ_ _=>tr (zio.eq_2 ..))
 (λn=>⟨λ_=>tr (za9.eq_2 ..),
  λ_=>tr (zad.eq_2 ..),
  λx=>tr (z7c.eq_2 x.1 x.2.1 x.2.2.1 x.2.2.2.1 n),
  trivial⟩)
mutual
def z6u:Nat->Int->zz2->Ot (zz2×zz0)
 |0,_,_=>none
 |n+1,a,b=>
  pIf (a==0)
   (z4m n (zz2.mk b.s b.at_ false) 0 0 0 false [] [])
   ((kzo n [116,114,117,101] b).bind λy0=>
   pIf y0.1
    (some (y0.2,(zz0.mk 2 (yz4.mk 0 0) true [] [])))
    ((kzo n [102,97,108,115,101] y0.2).bind λy1=>
    pIf y1.1
     (some (y1.2,(zz0.mk 2 (yz4.mk 0 0) false [] [])))
     ((kzo n [34] y1.2).bind λy2=>
     pIf y2.1
      ((z99 n y2.2).bind λy3=>
      some (y3.2,(zz0.mk 3 (yz4.mk 0 0) false y3.1 [])))
      ((kzo n [91,93] y2.2).bind λy4=>
      pIf y4.1
       (some (y4.2,(zz0.mk 4 (yz4.mk 0 0) false [] [])))
       ((kzo n [91] y4.2).bind λy5=>
       pIf y5.1
        (z4q n a true y5.2 4 0 0 false [] 0 0 0 false [] [] [])
        (z4m n y5.2 0 0 0 false [] []))))))
def z4q:Nat->Int->Bool->zz2->Int->Int->Int->Bool->B8->Int->Int->Int->Bool->B8->zzr->zzr->Ot (zz2×zz0)
 |0,_,_,_,_,_,_,_,_,_,_,_,_,_,_,_=>none
 |n+1,a,b,c,d,e,f,g,h,i,j,k,l,m,o,p=>
  pIf b
   (z4p n a c.ok c d e f g h i j k l m o p)
   (z4p n a false c d e f g h i j k l m o p)
def z4p:Nat->Int->Bool->zz2->Int->Int->Int->Bool->B8->Int->Int->Int->Bool->B8->zzr->zzr->Ot (zz2×zz0)
 |0,_,_,_,_,_,_,_,_,_,_,_,_,_,_,_=>none
 |n+1,a,b,c,d,e,f,g,h,i,j,k,l,m,o,p=>
  pIf b
   ((z6u n (IntKind.i64.wrap (a-1)) c).bind λy8=>
   (ext o [y8.2.re]).bind λx9=>
   (kzo n [44,32] y8.1).bind λy10=>
   z4q n a y10.1 y10.2 d e f g h i j k l m x9 p)
   ((kzo n [93] c).bind λy11=>
   pIf y11.1
    (z4o n y11.2 i j k l m d e f g h p o)
    (z4o n (zz2.mk y11.2.s y11.2.at_ false) i j k l m d e f g h p o))
def z4o:Nat->zz2->Int->Int->Int->Bool->B8->Int->Int->Int->Bool->B8->zzr->zzr->Ot (zz2×zz0)
 |0,_,_,_,_,_,_,_,_,_,_,_,_,_=>none
 |n+1,a,b,c,d,e,f,g,h,i,j,k,l,m=>
  some (a,(zz0.mk g (yz4.mk h i) j k m))
def z4m:Nat->zz2->Int->Int->Int->Bool->B8->zzr->Ot (zz2×zz0)
 |0,_,_,_,_,_,_,_=>none
 |n+1,a,b,c,d,e,f,g=>
  z4j n a.at_ a b c d e f g
def z4j:Nat->Int->zz2->Int->Int->Int->Bool->B8->zzr->Ot (zz2×zz0)
 |0,_,_,_,_,_,_,_,_=>none
 |n+1,a,b,c,d,e,f,g,h=>
  pIf (decide (a<(b.s.length:Int)))
   ((ix b.s a).bind λx6=>
   (z7n n [48,49,50,51,52,53,54,55,56,57,47,45] (x6.toNat:Int)).bind λy7=>
   z4t n a (decide (y7>=0)) b c d e f g h)
   (z4t n a false b c d e f g h)
def z4t:Nat->Int->Bool->zz2->Int->Int->Int->Bool->B8->zzr->Ot (zz2×zz0)
 |0,_,_,_,_,_,_,_,_,_=>none
 |n+1,a,b,c,d,e,f,g,h,i=>
  pIf b
   (z4j n (IntKind.i64.wrap (a+1)) c d e f g h i)
   ((sub c.s c.at_ a).bind λx12=>
   (zio n x12).bind λy13=>
   pIf c.ok
    (z4k n a (zz2.mk c.s c.at_ (y13.1==0)) d e f g h y13.2 i)
    (z4k n a (zz2.mk c.s c.at_ false) d e f g h y13.2 i))
def z4k:Nat->Int->zz2->Int->Int->Int->Bool->B8->yz4->zzr->Ot (zz2×zz0)
 |0,_,_,_,_,_,_,_,_,_=>none
 |n+1,a,b,c,d,e,f,g,h,i=>
  some ((zz2.mk b.s a b.ok),(zz0.mk 1 h false [] []))
end
def zp2:LSh:=⟨[(4,(.ptr 1 0))],[(.st 16),(.st 4)],1,122,[]⟩
noncomputable def z4y:FI dat:=FI.of dat 293 122 1 [(.ptr 0 0),dI] [(.st 16)] [dT 4] [(.st 16),(.st 4)] false zp2 (R:=zz2×zz0) (λx=>(x.1,x.2.1)) (λr=>(r.2,r.1,r.2,())) (λn=>u2 (z6u n))
 (λn=>[(0,⟨⟨[(0,(.ptr 0 0)),(5,(.ptr 1 0)),(1,dI),(4,(.ptr 2 0)),(6,dB)],[(.st 16),(.cells [dU,dI,dI,dB,dS,(.own 3)]),(.cells [dU,dI,dI,dB,dS,(.own 4)]),(.acc 26 (.st 4) true),(.acc 26 (.st 4) true)],1,122,[]⟩,λx=>z4q n x.1 x.2.1 x.2.2.1 x.2.2.2.1 x.2.2.2.2.1 x.2.2.2.2.2.1 x.2.2.2.2.2.2.1 x.2.2.2.2.2.2.2.1 x.2.2.2.2.2.2.2.2.1 x.2.2.2.2.2.2.2.2.2.1 x.2.2.2.2.2.2.2.2.2.2.1 x.2.2.2.2.2.2.2.2.2.2.2.1 x.2.2.2.2.2.2.2.2.2.2.2.2.1 x.2.2.2.2.2.2.2.2.2.2.2.2.2.1 x.2.2.2.2.2.2.2.2.2.2.2.2.2.2.1⟩),(1,⟨⟨[(0,(.ptr 0 0)),(5,(.ptr 1 0)),(1,dI),(4,(.ptr 2 0)),(44,dB)],[(.st 16),(.cells [dU,dI,dI,dB,dS,(.own 3)]),(.cells [dU,dI,dI,dB,dS,(.own 4)]),(.acc 26 (.st 4) true),(.acc 26 (.st 4) true)],1,122,[]⟩,λx=>z4p n x.1 x.2.1 x.2.2.1 x.2.2.2.1 x.2.2.2.2.1 x.2.2.2.2.2.1 x.2.2.2.2.2.2.1 x.2.2.2.2.2.2.2.1 x.2.2.2.2.2.2.2.2.1 x.2.2.2.2.2.2.2.2.2.1 x.2.2.2.2.2.2.2.2.2.2.1 x.2.2.2.2.2.2.2.2.2.2.2.1 x.2.2.2.2.2.2.2.2.2.2.2.2.1 x.2.2.2.2.2.2.2.2.2.2.2.2.2.1 x.2.2.2.2.2.2.2.2.2.2.2.2.2.2.1⟩),(2,⟨⟨[(4,(.ptr 1 0)),(5,(.ptr 2 0))],[(.st 16),(.cells [dU,dI,dI,dB,dS,(.own 3)]),(.cells [dU,dI,dI,dB,dS,(.own 4)]),(.acc 26 (.st 4) true),(.acc 26 (.st 4) true)],1,122,[]⟩,λx=>z4o n x.1 x.2.1 x.2.2.1 x.2.2.2.1 x.2.2.2.2.1 x.2.2.2.2.2.1 x.2.2.2.2.2.2.1 x.2.2.2.2.2.2.2.1 x.2.2.2.2.2.2.2.2.1 x.2.2.2.2.2.2.2.2.2.1 x.2.2.2.2.2.2.2.2.2.2.1 x.2.2.2.2.2.2.2.2.2.2.2.1 x.2.2.2.2.2.2.2.2.2.2.2.2.1⟩),(3,⟨⟨[(4,(.ptr 1 0)),(0,(.ptr 0 0))],[(.st 16),(.cells [dU,dI,dI,dB,dS,(.own 2)]),(.acc 26 (.st 4) true)],1,122,[]⟩,u7 (z4m n)⟩),(4,⟨⟨[(7,dI),(4,(.ptr 1 0)),(0,(.ptr 0 0))],[(.st 16),(.cells [dU,dI,dI,dB,dS,(.own 2)]),(.acc 26 (.st 4) true)],1,122,[]⟩,u8 (z4j n)⟩),(5,⟨⟨[(4,(.ptr 1 0)),(0,(.ptr 0 0)),(7,dI),(88,dB)],[(.st 16),(.cells [dU,dI,dI,dB,dS,(.own 2)]),(.acc 26 (.st 4) true)],1,122,[]⟩,u9 (z4t n)⟩),(6,⟨⟨[(4,(.ptr 1 0)),(8,(.ptr 2 0)),(7,dI),(0,(.ptr 0 0))],[(.st 16),(.cells [dU,dI,dI,dB,dS,(.own 3)]),(.st 3),(.acc 26 (.st 4) true)],1,122,[]⟩,u9 (z4k n)⟩)]) (anb [(41,0),(45,1),(54,2),(58,3),(62,4),(66,5),(75,6)] f293)
noncomputable def zp6:List (FI dat):=[z4y]++[zcg,za1,z5z,zkp]
theorem zqa:(z4y).Good prog dat (tb zp6):=FI.z2e (hD:=kze _) func293 ntmps293 call293 (by kernel_rfl) (Qac (by kernel_rfl)) (by kernel_rfl) (λn=>by kernel_rfl) (λx=>by kernel_rfl) (λ_=>rfl) ⟨λ_=>rfl,λ_=>rfl,λ_=>rfl,λ_=>rfl,λ_=>rfl,λ_=>rfl,λ_=>rfl,trivial⟩
 (λ_ _=>tr (z6u.eq_2 ..))
 (λn=>⟨λ_=>tr (z4q.eq_2 ..),
  λ_=>tr (z4p.eq_2 ..),
  λx=>tr (z4o.eq_2 x.1 x.2.1 x.2.2.1 x.2.2.2.1 x.2.2.2.2.1 x.2.2.2.2.2.1 x.2.2.2.2.2.2.1 x.2.2.2.2.2.2.2.1 x.2.2.2.2.2.2.2.2.1 x.2.2.2.2.2.2.2.2.2.1 x.2.2.2.2.2.2.2.2.2.2.1 x.2.2.2.2.2.2.2.2.2.2.2.1 x.2.2.2.2.2.2.2.2.2.2.2.2.1 n),
  λ_=>tr (z4m.eq_2 ..),
  λ_=>tr (z4j.eq_2 ..),
  λ_=>tr (z4t.eq_2 ..),
  λx=>tr (z4k.eq_2 x.1 x.2.1 x.2.2.1 x.2.2.2.1 x.2.2.2.2.1 x.2.2.2.2.2.1 x.2.2.2.2.2.2.1 x.2.2.2.2.2.2.2.1 x.2.2.2.2.2.2.2.2.1 n),
  trivial⟩)
 (λx=>.inr (by kernel_rfl))
theorem zp9:OkL prog [z4y]:=z8d (kze _) (bs:=[zcg,za1,z5z,zkp]) ⟨zon,zmg,zg8,y4k,trivial⟩ ⟨zqa,trivial⟩
theorem zo6:FOk prog z4y:=zp9.1
mutual
def zi8:Nat->B8->Ot (Int×zz0)
 |0,_=>none
 |n+1,a=>
  pIf (decide ((a.length:Int)>4000))
   (some (12,(zz0.mk 0 (yz4.mk 0 0) false [] [])))
   ((z6u n 6 (zz2.mk a 0 true)).bind λy0=>
   pIf (!y0.1.ok)
    (z7h n true (zz0.mk 0 (yz4.mk 0 0) false [] []) y0.2.re)
    (pIf (y0.1.at_ != (a.length:Int))
      (z7h n true (zz0.mk 0 (yz4.mk 0 0) false [] []) y0.2.re)
      ((z4w n y0.2.re).bind λy1=>
      z7h n (y1 != 0) (zz0.mk 0 (yz4.mk 0 0) false [] []) y0.2.re)))
def z7h:Nat->Bool->zz0->zz0->Ot (Int×zz0)
 |0,_,_,_=>none
 |n+1,a,b,c=>
  pIf a
   (some (12,(zz0.mk 0 (yz4.mk 0 0) false [] [])))
   (some (0,c.re))
end
def y5h:LSh:=⟨[(2,(.ptr 0 0)),(3,dI)],[(.st 4)],0,36,[]⟩
noncomputable def zkk:FI dat:=FI.of dat 288 36 0 [dS] [] [dT 4,dI] [] true y5h (R:=Int×zz0) (λx=>(x.1,x.2.1)) (λr=>(r.2,r.1,())) (λn=>u1 (zi8 n))
 (λn=>[(0,⟨⟨[(2,(.ptr 0 0)),(5,(.ptr 1 0)),(33,dB)],[(.st 4),(.st 4)],0,36,[]⟩,u3 (z7h n)⟩)]) (anb [(17,0)] f288)
theorem y29:FOk prog zkk:=okF (bs:=[z4y,zcj]) ⟨zo6,zi6,trivial⟩ func288 ntmps288 call288
 (λ_ _=>tr (zi8.eq_2 ..))
 (λn=>⟨λx=>tr (z7h.eq_2 x.1 x.2.1 x.2.2.1 n),
  trivial⟩)
mutual
def z97:Nat->kz1->Ot (Res (Int×Unit) (kz1×kz0))
 |0,_=>none
 |n+1,a=>
  (z7r n a.s [34]).bind λy0=>
  pIf y0
   (z3h n 1 a (kz0.mk 0 (zz0.mk 0 (yz4.mk 0 0) false [] []) [] []))
   (z3g n 0 a (kz0.mk 0 (zz0.mk 0 (yz4.mk 0 0) false [] []) [] []))
def z3h:Nat->Int->kz1->kz0->Ot (Res (Int×Unit) (kz1×kz0))
 |0,_,_,_=>none
 |n+1,a,b,c=>
  pIf (decide (a<(b.s.length:Int)))
   ((ix b.s a).bind λx1=>
   z3i n a ((x1.toNat:Int) != 34) b c.re)
   (z3i n a false b c.re)
def z3i:Nat->Int->Bool->kz1->kz0->Ot (Res (Int×Unit) (kz1×kz0))
 |0,_,_,_,_=>none
 |n+1,a,b,c,d=>
  pIf b
   ((ix c.s a).bind λx4=>
   pIf ((x4.toNat:Int)==92)
    (z3f n (IntKind.i64.wrap (a+1)) c d.re)
    (z3f n a c d.re))
   (z3m n (mnI (IntKind.i64.wrap (a+1)) (c.s.length:Int)) c d.re)
def z3f:Nat->Int->kz1->kz0->Ot (Res (Int×Unit) (kz1×kz0))
 |0,_,_,_=>none
 |n+1,a,b,c=>
  z3h n (IntKind.i64.wrap (a+1)) b c.re
def z3g:Nat->Int->kz1->kz0->Ot (Res (Int×Unit) (kz1×kz0))
 |0,_,_,_=>none
 |n+1,a,b,c=>
  pIf (decide (a<(b.s.length:Int)))
   ((ix b.s a).bind λx2=>
   (z7n n [48,49,50,51,52,53,54,55,56,57,47,45] (x2.toNat:Int)).bind λy3=>
   z3k n a (decide (y3>=0)) b c.re)
   (z3k n a false b c.re)
def z3k:Nat->Int->Bool->kz1->kz0->Ot (Res (Int×Unit) (kz1×kz0))
 |0,_,_,_,_=>none
 |n+1,a,b,c,d=>
  pIf b
   (z3g n (IntKind.i64.wrap (a+1)) c d.re)
   (z3m n a c d.re)
def z3m:Nat->Int->kz1->kz0->Ot (Res (Int×Unit) (kz1×kz0))
 |0,_,_,_=>none
 |n+1,a,b,c=>
  (sub b.s 0 a).bind λx5=>
  (zi8 n x5).bind λy6=>
  (z7d n y6.1).bind λy7=>
  zkg y7 (λr8=>
   (sub b.s a (b.s.length:Int)).bind λx9=>
   some (Res.ok ((kz1.mk x9),(kz0.mk 1 y6.2.re [] []))))
   (λe10=>
   some (Res.pan (e10.1,())))
end
def zoc:LSh:=⟨[(2,(.ptr 1 0))],[(.st 15),(.st 5)],1,88,[]⟩
noncomputable def z3r:FI dat:=FI.ofP dat 272 88 1 [(.ptr 0 0)] [(.st 15)] [dT 5] [(.st 15),(.st 5)] (.iface 31 dI) [(.cells [.any])] [] zoc (R:=kz1×kz0) (λx=>(x.1,x.2.1)) (λr=>(r.2,r.1,r.2,())) (λn=>u1 (z97 n))
 (λn=>[(0,⟨⟨[(3,dI),(0,(.ptr 0 0)),(2,(.ptr 1 0))],[(.st 15),(.st 5)],1,88,[]⟩,u3 (z3h n)⟩),(1,⟨⟨[(0,(.ptr 0 0)),(2,(.ptr 1 0)),(3,dI),(26,dB)],[(.st 15),(.st 5)],1,88,[]⟩,u4 (z3i n)⟩),(2,⟨⟨[(0,(.ptr 0 0)),(2,(.ptr 1 0)),(3,dI)],[(.st 15),(.st 5)],1,88,[]⟩,u3 (z3f n)⟩),(3,⟨⟨[(3,dI),(2,(.ptr 1 0)),(0,(.ptr 0 0))],[(.st 15),(.st 5)],1,88,[]⟩,u3 (z3g n)⟩),(4,⟨⟨[(2,(.ptr 1 0)),(0,(.ptr 0 0)),(3,dI),(62,dB)],[(.st 15),(.st 5)],1,88,[]⟩,u4 (z3k n)⟩),(5,⟨⟨[(2,(.ptr 1 0)),(3,dI),(0,(.ptr 0 0))],[(.st 15),(.st 5)],1,88,[]⟩,u3 (z3m n)⟩)]) (anb [(12,0),(16,1),(26,2),(29,3),(33,4),(38,5)] f272)
noncomputable def zo7:List (FI dat):=[z4u,z8f,z5z,zkk]
theorem zo8:(z3r).Good prog dat (tb zo7):=FI.zpf (hD:=kze _) func272 ntmps272 call272 (by kernel_rfl) (Qac (by kernel_rfl)) (by kernel_rfl) (λn=>by kernel_rfl) trivial (λx=>by kernel_rfl) (λ_=>rfl) ⟨λ_=>rfl,λ_=>rfl,λ_=>rfl,λ_=>rfl,λ_=>rfl,λ_=>rfl,trivial⟩
 (λ_ _=>tr (z97.eq_2 ..))
 (λn=>⟨λ_=>tr (z3h.eq_2 ..),
  λ_=>tr (z3i.eq_2 ..),
  λ_=>tr (z3f.eq_2 ..),
  λ_=>tr (z3g.eq_2 ..),
  λ_=>tr (z3k.eq_2 ..),
  λx=>tr (z3m.eq_2 x.1 x.2.1 x.2.2.1 n),
  trivial⟩)
 (λx=>by kernel_rfl)
theorem zo5:OkL prog [z3r]:=zko (kze _) (bs:=[z4u,z8f,z5z,zkk]) ⟨zh9,zfy,zg8,y29,trivial⟩ zo8
theorem znp:FOk prog z3r:=zo5.1
def zkx:Nat->Bool->Ot zz0
 |0,_=>none
 |n+1,a=>
  some (zz0.mk 2 (yz4.mk 0 0) a [] [])
def yak:LSh:=⟨[(2,(.ptr 0 0))],[(.st 4)],0,5,[]⟩
noncomputable def zn5:FI dat:=FI.of dat 273 5 0 [dB] [] [dT 4] [] true yak (R:=zz0) Prod.fst (·,()) (λn=>u1 (zkx n))
 (λn=>[]) (anb [] f273)
theorem y66:FOk prog zn5:=okF (bs:=[]) trivial func273 ntmps273 call273
 (λn=>λ_=>tr (zkx.eq_2 _ n))
 (λn=>trivial)
mutual
def z39:Nat->Int->kz1->Ot (Res (Int×Unit) (kz1×kz0))
 |0,_,_=>none
 |n+1,a,b=>
  pIf (a==0)
   ((z7d n 12).bind λy0=>
   zkg y0 (λr1=>
    z66 n a b (kz0.mk 0 (zz0.mk 0 (yz4.mk 0 0) false [] []) [] []))
    (λe2=>
    some (Res.pan (e2.1,()))))
   (z66 n a b (kz0.mk 0 (zz0.mk 0 (yz4.mk 0 0) false [] []) [] []))
def z66:Nat->Int->kz1->kz0->Ot (Res (Int×Unit) (kz1×kz0))
 |0,_,_,_=>none
 |n+1,a,b,c=>
  (kzs n [40] b).bind λy3=>
  pIf y3.1
   ((z39 n (IntKind.i64.wrap (a-1)) y3.2).bind λy4=>
   zkg y4 (λr5=>
    (z61 n [32] r5.1).bind λy6=>
    zkg y6 (λr7=>
     z63 n 3 a r7 c.re r5.2.re)
     (λe8=>
     some (Res.pan (e8.1,()))))
    (λe9=>
    some (Res.pan (e9.1,()))))
   (z69 n a y3.2 c.re)
def z63:Nat->Int->Int->kz1->kz0->kz0->Ot (Res (Int×Unit) (kz1×kz0))
 |0,_,_,_,_,_=>none
 |n+1,a,b,c,d,e=>
  pIf (decide (a<=10))
   ((zdt n a).bind λy10=>
   (cat y10 [32]).bind λx11=>
   (kzs n x11 c).bind λy12=>
   pIf y12.1
    ((z39 n (IntKind.i64.wrap (b-1)) y12.2).bind λy13=>
    zkg y13 (λr14=>
     (z61 n [41] r14.1).bind λy15=>
     zkg y15 (λr16=>
      some (Res.ok (r16,(kz0.mk a (zz0.mk 0 (yz4.mk 0 0) false [] []) [] [e.re,r14.2.re]))))
      (λe17=>
      some (Res.pan (e17.1,()))))
     (λe18=>
     some (Res.pan (e18.1,()))))
    (z63 n (IntKind.u8.wrap (a+1)) b y12.2 d.re e.re))
   ((z7d n 12).bind λy19=>
   zkg y19 (λr20=>
    z69 n b c d.re)
    (λe21=>
    some (Res.pan (e21.1,()))))
def z69:Nat->Int->kz1->kz0->Ot (Res (Int×Unit) (kz1×kz0))
 |0,_,_,_=>none
 |n+1,a,b,c=>
  (kzs n [91] b).bind λy22=>
  pIf y22.1
   ((z6v n (IntKind.i64.wrap (a-1)) [93] y22.2).bind λy23=>
   zkg y23 (λr24=>
    some (Res.ok (r24.2,(kz0.mk 18 (zz0.mk 0 (yz4.mk 0 0) false [] []) [] r24.1))))
    (λe25=>
    some (Res.pan (e25.1,()))))
   (z62 n 0 a y22.2 c.re)
def z62:Nat->Int->Int->kz1->kz0->Ot (Res (Int×Unit) (kz1×kz0))
 |0,_,_,_,_=>none
 |n+1,a,b,c,d=>
  pIf (decide (a<(c.s.length:Int)))
   ((ix c.s a).bind λx26=>
   pIf (decide ((x26.toNat:Int)>=97))
    ((ix c.s a).bind λx27=>
    pIf (decide ((x27.toNat:Int)<=122))
     (yzd n b a true c d.re)
     (pIf (decide (a>0))
       ((ix c.s a).bind λx28=>
       pIf ((x28.toNat:Int)==45)
        (yzd n b a true c d.re)
        ((ix c.s a).bind λx29=>
        pIf (decide ((x29.toNat:Int)>=48))
         ((ix c.s a).bind λx30=>
         yzd n b a (decide ((x30.toNat:Int)<=57)) c d.re)
         (yzd n b a false c d.re)))
       (yzd n b a false c d.re)))
    (pIf (decide (a>0))
      ((ix c.s a).bind λx31=>
      pIf ((x31.toNat:Int)==45)
       (yzd n b a true c d.re)
       ((ix c.s a).bind λx32=>
       pIf (decide ((x32.toNat:Int)>=48))
        ((ix c.s a).bind λx33=>
        yzd n b a (decide ((x33.toNat:Int)<=57)) c d.re)
        (yzd n b a false c d.re)))
      (yzd n b a false c d.re)))
   (yzd n b a false c d.re)
def yzd:Nat->Int->Int->Bool->kz1->kz0->Ot (Res (Int×Unit) (kz1×kz0))
 |0,_,_,_,_,_=>none
 |n+1,a,b,c,d,e=>
  pIf c
   (z62 n (IntKind.i64.wrap (b+1)) a d e.re)
   ((sub d.s 0 b).bind λx34=>
   pIf (b==0)
    ((z97 n d).bind λy35=>
    zkg y35 (λr36=>
     some (Res.ok (r36.1,r36.2.re)))
     (λe37=>
     some (Res.pan (e37.1,()))))
    (pIf (x34==[116,114,117,101])
      (z65 n x34 b a true d e.re)
      (z65 n x34 b a (x34==[102,97,108,115,101]) d e.re)))
def z65:Nat->B8->Int->Int->Bool->kz1->kz0->Ot (Res (Int×Unit) (kz1×kz0))
 |0,_,_,_,_,_,_=>none
 |n+1,a,b,c,d,e,f=>
  pIf d
   ((sub e.s b (e.s.length:Int)).bind λx38=>
   (zkx n (a==[116,114,117,101])).bind λy39=>
   some (Res.ok ((kz1.mk x38),(kz0.mk 1 y39.re [] []))))
   ((sub e.s b (e.s.length:Int)).bind λx40=>
   (kzs n [40] (kz1.mk x40)).bind λy41=>
   pIf (!y41.1)
    (some (Res.ok (y41.2,(kz0.mk 2 (zz0.mk 0 (yz4.mk 0 0) false [] []) a []))))
    ((zzu n [110,111,116,32,105,102,32,109,105,110,32,109,97,120,32,102,108,111,111,114,32,108,101,110,32,97,116]).bind λy42=>
    (kz8 n y42 a).bind λy43=>
    pIf (decide (y43<0))
     ((z7d n 12).bind λy44=>
     zkg y44 (λr45=>
      z67 n c y43 y41.2 f.re)
      (λe46=>
      some (Res.pan (e46.1,()))))
     (z67 n c y43 y41.2 f.re)))
def z67:Nat->Int->Int->kz1->kz0->Ot (Res (Int×Unit) (kz1×kz0))
 |0,_,_,_,_=>none
 |n+1,a,b,c,d=>
  (z6v n (IntKind.i64.wrap (a-1)) [41] c).bind λy47=>
  zkg y47 (λr48=>
   some (Res.ok (r48.2,(kz0.mk (IntKind.u8.wrap (11+(IntKind.u8.wrap b))) (zz0.mk 0 (yz4.mk 0 0) false [] []) [] r48.1))))
   (λe49=>
   some (Res.pan (e49.1,())))
def z6v:Nat->Int->B8->kz1->Ot (Res (Int×Unit) (zz7×kz1))
 |0,_,_,_=>none
 |n+1,a,b,c=>
  (kzs n b c).bind λy0=>
  pIf y0.1
   (some (Res.ok ([],y0.2)))
   (z4r n b a y0.2 [])
def z4r:Nat->B8->Int->kz1->zz7->Ot (Res (Int×Unit) (zz7×kz1))
 |0,_,_,_,_=>none
 |n+1,a,b,c,d=>
  (z39 n b c).bind λy1=>
  zkg y1 (λr2=>
   (ext d [r2.2.re]).bind λx3=>
   (kzs n a r2.1).bind λy4=>
   pIf y4.1
    (some (Res.ok (x3,y4.2)))
    ((z61 n [44,32] y4.2).bind λy5=>
    zkg y5 (λr6=>
     z4r n a b r6 x3)
     (λe7=>
     some (Res.pan (e7.1,())))))
   (λe8=>
   some (Res.pan (e8.1,())))
end
def ztg:LSh:=⟨[(4,(.ptr 1 0))],[(.st 15),(.st 5)],1,167,[]⟩
noncomputable def z3x:FI dat:=FI.ofP dat 243 167 1 [(.ptr 0 0),dI] [(.st 15)] [dT 5] [(.st 15),(.st 5)] (.iface 31 dI) [(.cells [.any])] [] ztg (R:=kz1×kz0) (λx=>(x.1,x.2.1)) (λr=>(r.2,r.1,r.2,())) (λn=>u2 (z39 n))
 (λn=>[(0,⟨⟨[(4,(.ptr 1 0)),(0,(.ptr 0 0)),(1,dI)],[(.st 15),(.st 5)],1,167,[]⟩,u3 (z66 n)⟩),(1,⟨⟨[(4,(.ptr 1 0)),(5,(.ptr 2 0)),(6,dU),(0,(.ptr 0 0)),(1,dI)],[(.st 15),(.st 5),(.st 5)],1,167,[]⟩,u5 (z63 n)⟩),(2,⟨⟨[(4,(.ptr 1 0)),(1,dI),(0,(.ptr 0 0))],[(.st 15),(.st 5)],1,167,[]⟩,u3 (z69 n)⟩),(3,⟨⟨[(8,dI),(4,(.ptr 1 0)),(0,(.ptr 0 0)),(1,dI)],[(.st 15),(.st 5)],1,167,[]⟩,u4 (z62 n)⟩),(4,⟨⟨[(4,(.ptr 1 0)),(0,(.ptr 0 0)),(1,dI),(8,dI),(105,dB)],[(.st 15),(.st 5)],1,167,[]⟩,u5 (yzd n)⟩),(5,⟨⟨[(4,(.ptr 1 0)),(9,dS),(8,dI),(0,(.ptr 0 0)),(1,dI),(119,dB)],[(.st 15),(.st 5)],1,167,[]⟩,u6 (z65 n)⟩),(6,⟨⟨[(4,(.ptr 1 0)),(1,dI),(0,(.ptr 0 0)),(10,dI)],[(.st 15),(.st 5)],1,167,[]⟩,u4 (z67 n)⟩)]) (anb [(8,0),(20,1),(43,2),(55,3),(59,4),(76,5),(101,6)] f243)
def zqb:LSh:=⟨[(6,dL 5)],[(.st 15)],1,24,[]⟩
noncomputable def zaq:FI dat:=FI.ofP dat 271 24 1 [(.ptr 0 0),dI,dS] [(.st 15)] [dL 5] [(.st 15)] (.iface 31 dI) [(.cells [.any])] [] zqb (R:=zz7×kz1) (λx=>(x.1,x.2.1)) (λr=>(r.1,r.2,())) (λn=>u3 (z6v n))
 (λn=>[(0,⟨⟨[(0,(.ptr 0 0)),(2,dS),(1,dI),(7,(.own 1))],[(.st 15),(.acc 29 (.st 5) true)],1,24,[]⟩,u4 (z4r n)⟩)]) (anb [(13,0)] f271)
noncomputable def zhz:List (FI dat):=[z3x,zaq]++[z4u,z6p,z6o,z3r,zg5,zn5,z1y,yzo]
theorem zt0:(z3x).Good prog dat (tb zhz):=FI.zpf (hD:=kze _) func243 ntmps243 call243 (by kernel_rfl) (Qac (by kernel_rfl)) (by kernel_rfl) (λn=>by kernel_rfl) trivial (λx=>by kernel_rfl) (λ_=>rfl) ⟨λ_=>rfl,λ_=>rfl,λ_=>rfl,λ_=>rfl,λ_=>rfl,λ_=>rfl,λ_=>rfl,trivial⟩
 (λ_ _=>tr (z39.eq_2 ..))
 (λn=>⟨λ_=>tr (z66.eq_2 ..),
  λ_=>tr (z63.eq_2 ..),
  λ_=>tr (z69.eq_2 ..),
  λ_=>tr (z62.eq_2 ..),
  λ_=>tr (yzd.eq_2 ..),
  λ_=>tr (z65.eq_2 ..),
  λx=>tr (z67.eq_2 x.1 x.2.1 x.2.2.1 x.2.2.2.1 n),
  trivial⟩)
 (λx=>by kernel_rfl)
theorem zow:(zaq).Good prog dat (tb zhz):=FI.zpf (hD:=kze _) func271 ntmps271 call271 (by kernel_rfl) (Qac (by kernel_rfl)) (by kernel_rfl) (λn=>by kernel_rfl) trivial (λx=>by kernel_rfl) (λ_=>rfl) ⟨λ_=>rfl,trivial⟩
 (λ_ _=>tr (z6v.eq_2 ..))
 (λn=>⟨λ_=>tr (z4r.eq_2 ..),
  trivial⟩)
 (λx=>by kernel_rfl)
theorem ztv:OkL prog [z3x,zaq]:=z8d (kze _) (bs:=[z4u,z6p,z6o,z3r,zg5,zn5,z1y,yzo]) ⟨zh9,zgx,zrt,znp,zu0,y66,z7u,z0y,trivial⟩ ⟨zt0,zow,trivial⟩
theorem zro:FOk prog z3x:=ztv.1
def zel(a0:Int):Option Int :=
 some a0
def y5s:LSh:=⟨[],[(.cells [dI])],1,10,[]⟩
noncomputable def zs6:zhp dat:={f:=242,args:=[(.ptr 0 0)],aos:=[(.cells [dI])],m:=none,ros:=[(.cells [dI])],go:=λx mx=>(zel x.1).bind λr=>some (r,())}
theorem y0g:(zs6).Ok prog:=ybk (c:=(anb [] f242)) (args:=[(.ptr 0 0)]) (aos:=[(.cells [dI])]) (ros:=[(.cells [dI])]) (m:=none) (l:=y5s) (pack:=λx=>x.1) (un:=λr=>(r,())) (go:=λx mx=>zel x.1) (by kernel_rfl) (kze _) func242 (by kernel_rfl) ntmps242 call242 (Nat.le_of_ble_eq_true (by kernel_rfl)) (Nat.le_of_ble_eq_true (by kernel_rfl)) (Nat.le_of_ble_eq_true (by kernel_rfl)) (by kernel_rfl) (by kernel_rfl) (by kernel_rfl) (by kernel_rfl) (λx=>by kernel_rfl) (λx mx=>by kernel_rfl)
end Go.Proofs.YthphaiccgnkobaaGreatDoor
