/-
  Go functions as Lean functions, by a program of this repo.
-/
import Derived.Test.YthphaiccgnkobaaGreatDoorRun0
namespace Go.Proofs.YthphaiccgnkobaaGreatDoor
open Go Go.Ab
open Go.Proofs.Tryz
set_option linter.unusedVariables false
set_option maxRecDepth 100000
set_option maxHeartbeats 4000000
def zzl:Nat->(List B8)->B8->Ot Bool
 |0,_,_=>none
 |n+1,a,b=>
  (kz8 n a b).bind λy0=>
  some (decide (y0>=0))
def zi7:LSh:=⟨[(4,dB)],[],0,9,[]⟩
noncomputable def zax:FI dat:=FI.of dat 149 9 0 [dA,dS] [] [dB] [] true zi7 (R:=Bool) Prod.fst (·,()) (λn=>u2 (zzl n))
 (λn=>[]) (anb [] f149)
theorem zhy:FOk prog zax:=okF (bs:=[zzq]) ⟨z1u,trivial⟩ func149 ntmps149 call149
 (λ_ _=>tr (zzl.eq_2 ..))
 (λn=>trivial)
def z26:Nat->B8->Ot Bool
 |0,_=>none
 |n+1,a=>
  (zap n a).bind λy0=>
  pIf y0
   ((zzl n [[116,114,117,101],[102,97,108,115,101],[115,120],[115,121],[115,122]] a).bind λy1=>
   some (!y1))
   (some false)
def yfi:LSh:=⟨[(2,dB)],[],0,11,[]⟩
noncomputable def zj5:FI dat:=FI.of dat 88 11 0 [dS] [] [dB] [] true yfi (R:=Bool) Prod.fst (·,()) (λn=>u1 (z26 n))
 (λn=>[]) (anb [] f88)
theorem zn2:FOk prog zj5:=okF (bs:=[zs8,zax]) ⟨zxu,zhy,trivial⟩ func88 ntmps88 call88
 (λ_ _=>tr (z26.eq_2 ..))
 (λn=>trivial)
mutual
def z88:Nat->yz1->Ot (Int×Int)
 |0,_=>none
 |n+1,a=>
  z2k n 0 1 1 a.args (a.args.length:Int)
def z2k:Nat->Int->Int->Int->zz8->Int->Ot (Int×Int)
 |0,_,_,_,_,_=>none
 |n+1,a,b,c,d,e=>
  pIf (decide (a<e))
   ((ix d a).bind λx0=>
   (z88 n x0.re).bind λy1=>
   z2k n (IntKind.i64.wrap (a+1)) (mxI b (IntKind.i64.wrap (y1.2+1))) (IntKind.i64.wrap (c+y1.1)) d e)
   (some (c,b))
end
def yc4:LSh:=⟨[(2,dI),(3,dI)],[],0,30,[]⟩
noncomputable def ze7:FI dat:=FI.of dat 150 30 0 [dT 5] [] [dI,dI] [] true yc4 (R:=Int×Int) (λx=>(x.1,x.2.1)) (λr=>(r.1,r.2,())) (λn=>u1 (z88 n))
 (λn=>[(0,⟨⟨[(11,dI),(3,dI),(2,dI),(9,dL 5),(10,dI)],[],0,30,[]⟩,u5 (z2k n)⟩)]) (anb [(8,0)] f150)
noncomputable def ybc:List (FI dat):=[ze7]++[]
theorem y97:(ze7).Good prog dat (tb ybc):=FI.z1c (hD:=kza _) func150 ntmps150 call150 (by kernel_rfl) (Qac (by kernel_rfl)) (by kernel_rfl) (λn=>by kernel_rfl) (λx=>by kernel_rfl) (λ_=>rfl) ⟨λ_=>rfl,trivial⟩
 (λ_ _=>tr (z88.eq_2 ..))
 (λn=>⟨λ_=>tr (z2k.eq_2 ..),
  trivial⟩)
 (λx=>.inl rfl)
theorem yal:OkL prog [ze7]:=z7m (kza _) (bs:=[]) trivial ⟨y97,trivial⟩
theorem y70:FOk prog ze7:=yal.1
mutual
def zcu:Nat->Int->Ot Int
 |0,_=>none
 |n+1,a=>
  pIf (a==12)
   (z07 n 3)
   (pIf (a==3)
     (yzq n (-2) a true)
     (pIf (a==4)
       (yzq n (-2) a true)
       (pIf (a==5)
         (yzq n (-2) a true)
         (pIf (a==6)
           (yzq n (-2) a true)
           (pIf (a==7)
             (yzq n (-2) a true)
             (pIf (a==8)
               (yzq n (-2) a true)
               (pIf (a==9)
                 (yzq n (-2) a true)
                 (yzq n (-2) a (a==10)))))))))
def yzq:Nat->Int->Int->Bool->Ot Int
 |0,_,_,_=>none
 |n+1,a,b,c=>
  pIf c
   (z8w n)
   (pIf (b==13)
     (z5n n a b true)
     (pIf (b==14)
       (z5n n a b true)
       (z5n n a b (b==17))))
def z5n:Nat->Int->Int->Bool->Ot Int
 |0,_,_,_=>none
 |n+1,a,b,c=>
  pIf c
   (z8w n)
   (pIf (b==11)
     (z5q n a b true)
     (pIf (b==15)
       (z5q n a b true)
       (z5q n a b (b==16))))
def z5q:Nat->Int->Int->Bool->Ot Int
 |0,_,_,_=>none
 |n+1,a,b,c=>
  pIf c
   (z07 n 1)
   (pIf (b==1)
     (z8y n a b true)
     (z8y n a b (b==2)))
def z8y:Nat->Int->Int->Bool->Ot Int
 |0,_,_,_=>none
 |n+1,a,b,c=>
  pIf c
   (z07 n 0)
   (pIf (b==18)
     (z07 n (-1))
     (z07 n a))
def z8w:Nat->Option Int
 |0=>none
 |n+1=>
  z07 n 2
def z07:Nat->Int->Ot Int
 |0,_=>none
 |n+1,a=>
  some a
end
def yhv:LSh:=⟨[(2,dI)],[],0,30,[]⟩
noncomputable def zsb:FI dat:=FI.of dat 194 30 0 [dU] [] [dI] [] true yhv (R:=Int) Prod.fst (·,()) (λn=>u1 (zcu n))
 (λn=>[(0,⟨⟨[(3,dI),(4,dU),(7,dB)],[],0,30,[]⟩,u3 (yzq n)⟩),(1,⟨⟨[(3,dI),(4,dU),(16,dB)],[],0,30,[]⟩,u3 (z5n n)⟩),(2,⟨⟨[(3,dI),(4,dU),(20,dB)],[],0,30,[]⟩,u3 (z5q n)⟩),(3,⟨⟨[(3,dI),(4,dU),(24,dB)],[],0,30,[]⟩,u3 (z8y n)⟩),(4,⟨⟨[],[],0,30,[]⟩,λx=>z8w n⟩),(5,⟨⟨[(3,dI)],[],0,30,[]⟩,u1 (z07 n)⟩)]) (anb [(57,0),(71,1),(85,2),(95,3),(107,4),(119,5)] f194)
theorem yf2:FOk prog zsb:=okF (bs:=[]) trivial func194 ntmps194 call194
 (λ_ _=>tr (zcu.eq_2 ..))
 (λn=>⟨λ_=>tr (yzq.eq_2 ..),
  λ_=>tr (z5n.eq_2 ..),
  λ_=>tr (z5q.eq_2 ..),
  λ_=>tr (z8y.eq_2 ..),
  λx=>(z8w.eq_2 n).trans (by kernel_rfl),
  λ_=>tr (z07.eq_2 _ n),
  trivial⟩)
mutual
def z6g:Nat->yz0->Ot (Int×Int)
 |0,_=>none
 |n+1,a=>
  pIf (a.kind==4)
   (z1l n 0 1 1 a.list (a.list.length:Int))
   (z1j n 1 1)
def z1l:Nat->Int->Int->Int->z1h->Int->Ot (Int×Int)
 |0,_,_,_,_,_=>none
 |n+1,a,b,c,d,e=>
  pIf (decide (a<e))
   ((ix d a).bind λx0=>
   (z6g n x0.re).bind λy1=>
   z1l n (IntKind.i64.wrap (a+1)) (mxI b (IntKind.i64.wrap (y1.2+1))) (IntKind.i64.wrap (c+y1.1)) d e)
   (z1j n b c)
def z1j:Nat->Int->Int->Ot (Int×Int)
 |0,_,_=>none
 |n+1,a,b=>
  some (b,a)
end
def y7q:LSh:=⟨[(2,dI),(3,dI)],[],0,33,[]⟩
noncomputable def zcl:FI dat:=FI.of dat 237 33 0 [dT 4] [] [dI,dI] [] true y7q (R:=Int×Int) (λx=>(x.1,x.2.1)) (λr=>(r.1,r.2,())) (λn=>u1 (z6g n))
 (λn=>[(0,⟨⟨[(14,dI),(3,dI),(2,dI),(12,dL 4),(13,dI)],[],0,33,[]⟩,u5 (z1l n)⟩),(1,⟨⟨[(3,dI),(2,dI)],[],0,33,[]⟩,u2 (z1j n)⟩)]) (anb [(11,0),(29,1)] f237)
noncomputable def y77:List (FI dat):=[zcl]++[]
theorem y7j:(zcl).Good prog dat (tb y77):=FI.z1c (hD:=kza _) func237 ntmps237 call237 (by kernel_rfl) (Qac (by kernel_rfl)) (by kernel_rfl) (λn=>by kernel_rfl) (λx=>by kernel_rfl) (λ_=>rfl) ⟨λ_=>rfl,λ_=>rfl,trivial⟩
 (λ_ _=>tr (z6g.eq_2 ..))
 (λn=>⟨λ_=>tr (z1l.eq_2 ..),
  λ_=>tr (z1j.eq_2 _ _ n),
  trivial⟩)
 (λx=>.inl rfl)
theorem y7w:OkL prog [zcl]:=z7m (kza _) (bs:=[]) trivial ⟨y7j,trivial⟩
theorem y59:FOk prog zcl:=y7w.1
def zaf:Nat->Int->Ot Int
 |0,_=>none
 |n+1,a=>
  pIf (decide (a<0))
   (some (IntKind.u64.wrap (0-(IntKind.u64.wrap a))))
   (some (IntKind.u64.wrap a))
def yip:LSh:=⟨[(2,(.d (.int .u64)))],[],0,10,[]⟩
noncomputable def y33:FI dat:=FI.of dat 284 10 0 [dI] [] [(.d (.int .u64))] [] true yip (R:=Int) Prod.fst (·,()) (λn=>u1 (zaf n))
 (λn=>[]) (anb [] f284)
theorem ycs:FOk prog y33:=okF (bs:=[]) trivial func284 ntmps284 call284
 (λn=>λ_=>tr (zaf.eq_2 _ n))
 (λn=>trivial)
mutual
def zek:Nat->Int->Int->Ot Int
 |0,_,_=>none
 |n+1,a,b=>
  z7u n b a
def z7u:Nat->Int->Int->Ot Int
 |0,_,_=>none
 |n+1,a,b=>
  pIf (a != 0)
   ((rem .u64 b a).bind λx0=>
   z7u n x0 a)
   (some b)
end
def ykx:LSh:=⟨[(4,(.d (.int .u64)))],[],0,12,[]⟩
noncomputable def y5n:FI dat:=FI.of dat 285 12 0 [(.d (.int .u64)),(.d (.int .u64))] [] [(.d (.int .u64))] [] true ykx (R:=Int) Prod.fst (·,()) (λn=>u2 (zek n))
 (λn=>[(0,⟨⟨[(1,(.d (.int .u64))),(0,(.d (.int .u64)))],[],0,12,[]⟩,u2 (z7u n)⟩)]) (anb [(4,0)] f285)
theorem yj3:FOk prog y5n:=okF (bs:=[]) trivial func285 ntmps285 call285
 (λ_ _=>tr (zek.eq_2 ..))
 (λn=>⟨λ_=>tr (z7u.eq_2 ..),
  trivial⟩)
mutual
def z6s:Nat->zz4->Ot Int
 |0,_=>none
 |n+1,a=>
  pIf (decide (a.den<1))
   (z0n n true)
   (pIf (decide (a.den>1000000000))
     (z0n n true)
     ((zaf n a.num).bind λy0=>
     pIf (decide (y0>1000000000))
      (z0n n true)
      ((zaf n a.num).bind λy1=>
      (zek n y1 (IntKind.u64.wrap a.den)).bind λy2=>
      z0n n (y2 != 1))))
def z0n:Nat->Bool->Ot Int
 |0,_=>none
 |n+1,a=>
  pIf a
   (some 8)
   (some 0)
end
def yda:LSh:=⟨[(2,dI)],[],0,27,[]⟩
noncomputable def zfx:FI dat:=FI.of dat 267 27 0 [dT 3] [] [dI] [] true yda (R:=Int) Prod.fst (·,()) (λn=>u1 (z6s n))
 (λn=>[(0,⟨⟨[(26,dB)],[],0,27,[]⟩,u1 (z0n n)⟩)]) (anb [(5,0)] f267)
theorem zmw:FOk prog zfx:=okF (bs:=[y33,y5n]) ⟨ycs,yj3,trivial⟩ func267 ntmps267 call267
 (λ_ _=>tr (z6s.eq_2 ..))
 (λn=>⟨λ_=>tr (z0n.eq_2 _ n),
  trivial⟩)
mutual
def zah:Nat->yz0->Ot Bool
 |0,_=>none
 |n+1,a=>
  pIf (a.kind==1)
   ((z6s n a.num).bind λy0=>
   pIf (y0 != 0)
    (some false)
    (z1d n (yz0.mk a.kind (zz4.mk 0 0) a.truth a.str a.list)))
   (pIf (a.kind==2)
     (z1d n (yz0.mk a.kind a.num false a.str a.list))
     (pIf (a.kind==3)
       (pIf (decide ((a.str.length:Int)>60))
         (some false)
         (z5w n 0 a.re (yz0.mk a.kind a.num a.truth [] a.list)))
       (pIf (a.kind==4)
         (z5u n 0 a.list (a.list.length:Int) (yz0.mk a.kind a.num a.truth a.str []))
         (some false))))
def z5w:Nat->Int->yz0->yz0->Ot Bool
 |0,_,_,_=>none
 |n+1,a,b,c=>
  pIf (decide (a<(b.str.length:Int)))
   ((ix b.str a).bind λx1=>
   pIf (decide ((x1.toNat:Int)<32))
    (z5x n a true b.re c.re)
    ((ix b.str a).bind λx2=>
    z5x n a (decide ((x2.toNat:Int)>126)) b.re c.re))
   (z1d n c.re)
def z5x:Nat->Int->Bool->yz0->yz0->Ot Bool
 |0,_,_,_,_=>none
 |n+1,a,b,c,d=>
  pIf b
   (some false)
   (z5w n (IntKind.i64.wrap (a+1)) c.re d.re)
def z5u:Nat->Int->z1h->Int->yz0->Ot Bool
 |0,_,_,_,_=>none
 |n+1,a,b,c,d=>
  pIf (decide (a<c))
   ((ix b a).bind λx3=>
   (zah n x3.re).bind λy4=>
   pIf (!y4)
    (some false)
    (z5u n (IntKind.i64.wrap (a+1)) b c d.re))
   (z1d n d.re)
def z1d:Nat->yz0->Ot Bool
 |0,_=>none
 |n+1,a=>
  pIf ((a.num.num==0)&&((a.num.den==0)&&true))
   (pIf (!a.truth)
     (pIf (a.str==[])
       (some ((a.list.length:Int)==0))
       (some false))
     (some false))
   (some false)
end
def yhz:LSh:=⟨[(2,dB)],[],0,81,[]⟩
noncomputable def zgx:FI dat:=FI.of dat 238 81 0 [dT 4] [] [dB] [] true yhz (R:=Bool) Prod.fst (·,()) (λn=>u1 (zah n))
 (λn=>[(0,⟨⟨[(4,dI),(1,(.ptr 0 0)),(3,(.ptr 1 0))],[(.st 4),(.st 4)],0,81,[]⟩,u3 (z5w n)⟩),(1,⟨⟨[(1,(.ptr 0 0)),(3,(.ptr 1 0)),(4,dI),(46,dB)],[(.st 4),(.st 4)],0,81,[]⟩,u4 (z5x n)⟩),(2,⟨⟨[(53,dI),(51,dL 4),(3,(.ptr 0 0)),(52,dI)],[(.st 4)],0,81,[]⟩,u4 (z5u n)⟩),(3,⟨⟨[(3,(.ptr 0 0))],[(.st 4)],0,81,[]⟩,u1 (z1d n)⟩)]) (anb [(40,0),(51,1),(65,2),(87,3)] f238)
noncomputable def yja:List (FI dat):=[zgx]++[zfx]
theorem yjn:(zgx).Good prog dat (tb yja):=FI.z1c (hD:=kza _) func238 ntmps238 call238 (by kernel_rfl) (Qac (by kernel_rfl)) (by kernel_rfl) (λn=>by kernel_rfl) (λx=>by kernel_rfl) (λ_=>rfl) ⟨λ_=>rfl,λ_=>rfl,λ_=>rfl,λ_=>rfl,trivial⟩
 (λ_ _=>tr (zah.eq_2 ..))
 (λn=>⟨λ_=>tr (z5w.eq_2 ..),
  λ_=>tr (z5x.eq_2 ..),
  λ_=>tr (z5u.eq_2 ..),
  λ_=>tr (z1d.eq_2 _ n),
  trivial⟩)
 (λx=>.inl rfl)
theorem yka:OkL prog [zgx]:=z7m (kza _) (bs:=[zfx]) ⟨zmw,trivial⟩ ⟨yjn,trivial⟩
theorem ydc:FOk prog zgx:=yka.1
mutual
def z79:Nat->yz0->Ot Int
 |0,_=>none
 |n+1,a=>
  (z6g n a.re).bind λy0=>
  pIf (decide (y0.1>100))
   (z3w n true a.re)
   (z3w n (decide (y0.2>6)) a.re)
def z3w:Nat->Bool->yz0->Ot Int
 |0,_,_=>none
 |n+1,a,b=>
  pIf a
   (some 4)
   ((zah n b.re).bind λy1=>
   pIf (!y1)
    (some 8)
    (some 0))
end
def yew:LSh:=⟨[(2,dI)],[],0,19,[]⟩
noncomputable def zg0:FI dat:=FI.of dat 195 19 0 [dT 4] [] [dI] [] true yew (R:=Int) Prod.fst (·,()) (λn=>u1 (z79 n))
 (λn=>[(0,⟨⟨[(1,(.ptr 0 0)),(15,dB)],[(.st 4)],0,19,[]⟩,u2 (z3w n)⟩)]) (anb [(7,0)] f195)
theorem zm9:FOk prog zg0:=okF (bs:=[zcl,zgx]) ⟨y59,ydc,trivial⟩ func195 ntmps195 call195
 (λ_ _=>tr (z79.eq_2 ..))
 (λn=>⟨λ_=>tr (z3w.eq_2 ..),
  trivial⟩)
def zcv:Nat->B8->Ot Bool
 |0,_=>none
 |n+1,a=>
  (zap n a).bind λy0=>
  pIf y0
   (pIf (!(a==[116,114,117,101]))
     (some (!(a==[102,97,108,115,101])))
     (some false))
   (some false)
def yiq:LSh:=⟨[(2,dB)],[],0,13,[]⟩
noncomputable def zsn:FI dat:=FI.of dat 196 13 0 [dS] [] [dB] [] true yiq (R:=Bool) Prod.fst (·,()) (λn=>u1 (zcv n))
 (λn=>[]) (anb [] f196)
theorem yfd:FOk prog zsn:=okF (bs:=[zs8]) ⟨zxu,trivial⟩ func196 ntmps196 call196
 (λ_ _=>tr (zcv.eq_2 ..))
 (λn=>trivial)
mutual
def z3h:Nat->yz0->yz0->Ot Bool
 |0,_,_=>none
 |n+1,a,b=>
  pIf (a.kind != b.kind)
   (z0c n true b.re a.re)
   (pIf (!((a.num.num==b.num.num)&&((a.num.den==b.num.den)&&true)))
     (z0c n true b.re a.re)
     (pIf (!(a.truth==b.truth))
       (z0c n true b.re a.re)
       (pIf (!(a.str==b.str))
         (z0c n true b.re a.re)
         (z0c n ((a.list.length:Int) != (b.list.length:Int)) b.re a.re))))
def z0c:Nat->Bool->yz0->yz0->Ot Bool
 |0,_,_,_=>none
 |n+1,a,b,c=>
  pIf a
   (some false)
   (z6d n 0 (c.list.length:Int) b.re c.re)
def z6d:Nat->Int->Int->yz0->yz0->Ot Bool
 |0,_,_,_,_=>none
 |n+1,a,b,c,d=>
  pIf (decide (a<b))
   ((ix d.list a).bind λx0=>
   (ix c.list a).bind λx1=>
   (z3h n x0.re x1.re).bind λy2=>
   pIf (!y2)
    (some false)
    (z6d n (IntKind.i64.wrap (a+1)) b c.re d.re))
   (some true)
end
def yi2:LSh:=⟨[(4,dB)],[],0,60,[]⟩
noncomputable def zf9:FI dat:=FI.of dat 143 60 0 [dT 4,dT 4] [] [dB] [] true yi2 (R:=Bool) Prod.fst (·,()) (λn=>u2 (z3h n))
 (λn=>[(0,⟨⟨[(3,(.ptr 0 0)),(2,(.ptr 1 0)),(40,dB)],[(.st 4),(.st 4)],0,60,[]⟩,u3 (z0c n)⟩),(1,⟨⟨[(44,dI),(3,(.ptr 0 0)),(2,(.ptr 1 0)),(43,dI)],[(.st 4),(.st 4)],0,60,[]⟩,u4 (z6d n)⟩)]) (anb [(5,0),(14,1)] f143)
noncomputable def yjj:List (FI dat):=[zf9]++[]
theorem yin:(zf9).Good prog dat (tb yjj):=FI.z1c (hD:=kza _) func143 ntmps143 call143 (by kernel_rfl) (Qac (by kernel_rfl)) (by kernel_rfl) (λn=>by kernel_rfl) (λx=>by kernel_rfl) (λ_=>rfl) ⟨λ_=>rfl,λ_=>rfl,trivial⟩
 (λ_ _=>tr (z3h.eq_2 ..))
 (λn=>⟨λ_=>tr (z0c.eq_2 ..),
  λ_=>tr (z6d.eq_2 ..),
  trivial⟩)
 (λx=>.inl rfl)
theorem yiv:OkL prog [zf9]:=z7m (kza _) (bs:=[]) trivial ⟨yin,trivial⟩
theorem ydo:FOk prog zf9:=yiv.1
mutual
def zca:Nat->yz1->Ot Bool
 |0,_=>none
 |n+1,a=>
  (zcu n a.op).bind λy0=>
  pIf (y0==(-2))
   (z4x n true a.re)
   (pIf (decide (y0>=0))
     (z4x n ((a.args.length:Int) != y0) a.re)
     (z4x n false a.re))
def z4x:Nat->Bool->yz1->Ot Bool
 |0,_,_=>none
 |n+1,a,b=>
  pIf a
   (some false)
   (pIf (b.op==1)
     ((z79 n b.value.re).bind λy1=>
     pIf (y1 != 0)
      (z4v n true b.re)
      (pIf (b.value.kind==4)
        (z4v n true b.re)
        (z4v n (!(b.name==[])) b.re)))
     (pIf (b.op==2)
       ((zcv n b.name).bind λy2=>
       pIf (!y2)
        (z89 n true b.re)
        ((z3h n b.value.re (yz0.mk 0 (zz4.mk 0 0) false [] [])).bind λy3=>
        z89 n (!y3) b.re))
       (pIf (!(b.name==[]))
         (z7w n true b.re)
         ((z3h n b.value.re (yz0.mk 0 (zz4.mk 0 0) false [] [])).bind λy4=>
         z7w n (!y4) b.re))))
def z4v:Nat->Bool->yz1->Ot Bool
 |0,_,_=>none
 |n+1,a,b=>
  pIf a
   (some false)
   (z4w n b.re)
def z89:Nat->Bool->yz1->Ot Bool
 |0,_,_=>none
 |n+1,a,b=>
  pIf a
   (some false)
   (z4w n b.re)
def z7w:Nat->Bool->yz1->Ot Bool
 |0,_,_=>none
 |n+1,a,b=>
  pIf a
   (some false)
   (z4w n b.re)
def z4w:Nat->yz1->Ot Bool
 |0,_=>none
 |n+1,a=>
  (yza n a.args).bind λy5=>
  some (!y5)
def yza:Nat->zz8->Ot Bool
 |0,_=>none
 |n+1,a=>
  (yzc n a).bind λy0=>
  some (decide (y0>=0))
def yzc:Nat->zz8->Ot Int
 |0,_=>none
 |n+1,a=>
  yz6 n 0 a (a.length:Int)
def yz6:Nat->Int->zz8->Int->Ot Int
 |0,_,_,_=>none
 |n+1,a,b,c=>
  pIf (decide (a<c))
   ((ix b a).bind λx0=>
   (zbk n x0.re).bind λy1=>
   pIf y1
    (some a)
    (yz6 n (IntKind.i64.wrap (a+1)) b c))
   (some (-1))
def zbk:Nat->yz1->Ot Bool
 |0,_=>none
 |n+1,a=>
  (zca n a.re).bind λy0=>
  some (!y0)
end
def ynn:LSh:=⟨[(2,dB)],[],0,66,[]⟩
noncomputable def zjg:FI dat:=FI.of dat 151 66 0 [dT 5] [] [dB] [] true ynn (R:=Bool) Prod.fst (·,()) (λn=>u1 (zca n))
 (λn=>[(0,⟨⟨[(1,(.ptr 0 0)),(19,dB)],[(.st 5)],0,66,[]⟩,u2 (z4x n)⟩),(1,⟨⟨[(1,(.ptr 0 0)),(48,dB)],[(.st 5)],0,66,[]⟩,u2 (z4v n)⟩),(2,⟨⟨[(1,(.ptr 0 0)),(61,dB)],[(.st 5)],0,66,[]⟩,u2 (z89 n)⟩),(3,⟨⟨[(1,(.ptr 0 0)),(31,dB)],[(.st 5)],0,66,[]⟩,u2 (z7w n)⟩),(4,⟨⟨[(1,(.ptr 0 0))],[(.st 5)],0,66,[]⟩,u1 (z4w n)⟩)]) (anb [(7,0),(21,1),(31,2),(38,3),(43,4)] f151)
def zcg:LSh:=⟨[(4,dB)],[],0,9,[]⟩
noncomputable def kzz:FI dat:=FI.of dat 36 9 0 [dL 5,(.fn 197 [] [])] [] [dB] [] true zcg (R:=Bool) Prod.fst (·,()) (λn=>u1 (yza n))
 (λn=>[]) (anb [] f36)
def zds:LSh:=⟨[(4,dI)],[],0,19,[]⟩
noncomputable def z0o:FI dat:=FI.of dat 95 19 0 [dL 5,(.fn 197 [] [])] [] [dI] [] true zds (R:=Int) Prod.fst (·,()) (λn=>u1 (yzc n))
 (λn=>[(0,⟨⟨[(8,dI),(0,dL 5),(1,(.fn 197 [] [])),(7,dI)],[],0,19,[]⟩,u3 (yz6 n)⟩)]) (anb [(6,0)] f95)
def yfg:LSh:=⟨[(2,dB)],[],0,6,[]⟩
noncomputable def zp2:FI dat:=FI.of dat 197 6 0 [dT 5] [] [dB] [] true yfg (R:=Bool) Prod.fst (·,()) (λn=>u1 (zbk n))
 (λn=>[]) (anb [] f197)
noncomputable def zng:List (FI dat):=[zjg,kzz,z0o,zp2]++[zsb,zg0,zsn,zf9]
theorem ykn:(zjg).Good prog dat (tb zng):=FI.z1c (hD:=kza _) func151 ntmps151 call151 (by kernel_rfl) (Qac (by kernel_rfl)) (by kernel_rfl) (λn=>by kernel_rfl) (λx=>by kernel_rfl) (λ_=>rfl) ⟨λ_=>rfl,λ_=>rfl,λ_=>rfl,λ_=>rfl,λ_=>rfl,trivial⟩
 (λ_ _=>tr (zca.eq_2 ..))
 (λn=>⟨λ_=>tr (z4x.eq_2 ..),
  λ_=>tr (z4v.eq_2 ..),
  λ_=>tr (z89.eq_2 ..),
  λ_=>tr (z7w.eq_2 ..),
  λ_=>tr (z4w.eq_2 ..),
  trivial⟩)
 (λx=>.inl rfl)
theorem zck:(kzz).Good prog dat (tb zng):=FI.z1c (hD:=kza _) func36 ntmps36 call36 (by kernel_rfl) (Qac (by kernel_rfl)) (by kernel_rfl) (λn=>by kernel_rfl) (λx=>by kernel_rfl) (λ_=>rfl) trivial
 (λ_ _=>tr (yza.eq_2 ..))
 (λn=>trivial)
 (λx=>.inl rfl)
theorem zdr:(z0o).Good prog dat (tb zng):=FI.z1c (hD:=kza _) func95 ntmps95 call95 (by kernel_rfl) (Qac (by kernel_rfl)) (by kernel_rfl) (λn=>by kernel_rfl) (λx=>by kernel_rfl) (λ_=>rfl) ⟨λ_=>rfl,trivial⟩
 (λ_ _=>tr (yzc.eq_2 ..))
 (λn=>⟨λ_=>tr (yz6.eq_2 ..),
  trivial⟩)
 (λx=>.inl rfl)
theorem yfj:(zp2).Good prog dat (tb zng):=FI.z1c (hD:=kza _) func197 ntmps197 call197 (by kernel_rfl) (Qac (by kernel_rfl)) (by kernel_rfl) (λn=>by kernel_rfl) (λx=>by kernel_rfl) (λ_=>rfl) trivial
 (λ_ _=>tr (zbk.eq_2 ..))
 (λn=>trivial)
 (λx=>.inl rfl)
theorem yod:OkL prog [zjg,kzz,z0o,zp2]:=z7m (kza _) (bs:=[zsb,zg0,zsn,zf9]) ⟨yf2,zm9,yfd,ydo,trivial⟩ ⟨ykn,zck,zdr,yfj,trivial⟩
theorem yk8:FOk prog zjg:=yod.1
mutual
def z05:Nat->yz1->Ot Int
 |0,_=>none
 |n+1,a=>
  (z88 n a.re).bind λy0=>
  pIf (decide (y0.1>100))
   (z6a n true a.re)
   (z6a n (decide (y0.2>12)) a.re)
def z6a:Nat->Bool->yz1->Ot Int
 |0,_,_=>none
 |n+1,a,b=>
  pIf a
   (some 4)
   ((zca n b.re).bind λy1=>
   pIf (!y1)
    (some 8)
    (some 0))
end
def yhd:LSh:=⟨[(2,dI)],[],0,19,[]⟩
noncomputable def zf3:FI dat:=FI.of dat 89 19 0 [dT 5] [] [dI] [] true yhd (R:=Int) Prod.fst (·,()) (λn=>u1 (z05 n))
 (λn=>[(0,⟨⟨[(1,(.ptr 0 0)),(15,dB)],[(.st 5)],0,19,[]⟩,u2 (z6a n)⟩)]) (anb [(7,0)] f89)
theorem zfo:FOk prog zf3:=okF (bs:=[ze7,zjg]) ⟨y70,yk8,trivial⟩ func89 ntmps89 call89
 (λ_ _=>tr (z05.eq_2 ..))
 (λn=>⟨λ_=>tr (z6a.eq_2 ..),
  trivial⟩)
def z7p:Nat->B8->Ot Bool
 |0,_=>none
 |n+1,a=>
  (z26 n a).bind λy0=>
  some (!y0)
def y49:LSh:=⟨[(2,dB)],[],0,6,[]⟩
noncomputable def zqu:FI dat:=FI.of dat 91 6 0 [dS] [] [dB] [] true y49 (R:=Bool) Prod.fst (·,()) (λn=>u1 (z7p n))
 (λn=>[]) (anb [] f91)
theorem y2l:FOk prog zqu:=okF (bs:=[zj5]) ⟨zn2,trivial⟩ func91 ntmps91 call91
 (λ_ _=>tr (z7p.eq_2 ..))
 (λn=>trivial)
mutual
def zzp:Nat->(List B8)->Ot Int
 |0,_=>none
 |n+1,a=>
  kzg n 0 a (a.length:Int)
def kzg:Nat->Int->(List B8)->Int->Ot Int
 |0,_,_,_=>none
 |n+1,a,b,c=>
  pIf (decide (a<c))
   ((ix b a).bind λx0=>
   (z7p n x0).bind λy1=>
   pIf y1
    (some a)
    (kzg n (IntKind.i64.wrap (a+1)) b c))
   (some (-1))
end
def zhx:LSh:=⟨[(4,dI)],[],0,19,[]⟩
noncomputable def za5:FI dat:=FI.of dat 152 19 0 [dA,(.fn 91 [] [])] [] [dI] [] true zhx (R:=Int) Prod.fst (·,()) (λn=>u1 (zzp n))
 (λn=>[(0,⟨⟨[(8,dI),(0,dA),(1,(.fn 91 [] [])),(7,dI)],[],0,19,[]⟩,u3 (kzg n)⟩)]) (anb [(6,0)] f152)
theorem zgu:FOk prog za5:=okF (bs:=[zqu]) ⟨y2l,trivial⟩ func152 ntmps152 call152
 (λ_ _=>tr (zzp.eq_2 ..))
 (λn=>⟨λ_=>tr (kzg.eq_2 ..),
  trivial⟩)
def zzh:Nat->(List B8)->Ot Bool
 |0,_=>none
 |n+1,a=>
  (zzp n a).bind λy0=>
  some (decide (y0>=0))
def zfv:LSh:=⟨[(4,dB)],[],0,9,[]⟩
noncomputable def z8p:FI dat:=FI.of dat 90 9 0 [dA,(.fn 91 [] [])] [] [dB] [] true zfv (R:=Bool) Prod.fst (·,()) (λn=>u1 (zzh n))
 (λn=>[]) (anb [] f90)
theorem zff:FOk prog z8p:=okF (bs:=[za5]) ⟨zgu,trivial⟩ func90 ntmps90 call90
 (λ_ _=>tr (zzh.eq_2 ..))
 (λn=>trivial)
def z3e:Nat->zz8->Ot yz1
 |0,_=>none
 |n+1,a=>
  some (yz1.mk 18 (yz0.mk 0 (zz4.mk 0 0) false [] []) [] a)
def yh4:LSh:=⟨[(2,(.ptr 0 0))],[(.st 5)],0,5,[]⟩
noncomputable def zsd:FI dat:=FI.of dat 127 5 0 [dL 5] [] [dT 5] [] true yh4 (R:=yz1) Prod.fst (·,()) (λn=>u1 (z3e n))
 (λn=>[]) (anb [] f127)
theorem zxs:FOk prog zsd:=okF (bs:=[]) trivial func127 ntmps127 call127
 (λn=>λ_=>tr (z3e.eq_2 _ n))
 (λn=>trivial)
mutual
def z9w:Nat->Int->Ot Int
 |0,_=>none
 |n+1,a=>
  pIf (a==2)
   (z82 n a true)
   (z82 n a (a==3))
def z82:Nat->Int->Bool->Ot Int
 |0,_,_=>none
 |n+1,a,b=>
  pIf b
   (some 3)
   (pIf (a==4)
     (z7t n true)
     (z7t n (a==6)))
def z7t:Nat->Bool->Ot Int
 |0,_=>none
 |n+1,a=>
  pIf a
   (some 1)
   (some 0)
end
def yo6:LSh:=⟨[(2,dI)],[],0,10,[]⟩
noncomputable def zw9:FI dat:=FI.of dat 96 10 0 [dU] [] [dI] [] true yo6 (R:=Int) Prod.fst (·,()) (λn=>u1 (z9w n))
 (λn=>[(0,⟨⟨[(3,dU),(4,dB)],[],0,10,[]⟩,u2 (z82 n)⟩),(1,⟨⟨[(7,dB)],[],0,10,[]⟩,u1 (z7t n)⟩)]) (anb [(12,0),(22,1)] f96)
theorem y32:FOk prog zw9:=okF (bs:=[]) trivial func96 ntmps96 call96
 (λ_ _=>tr (z9w.eq_2 ..))
 (λn=>⟨λ_=>tr (z82.eq_2 ..),
  λ_=>tr (z7t.eq_2 _ n),
  trivial⟩)
mutual
def z4s:Nat->kz3->Ot Bool
 |0,_=>none
 |n+1,a=>
  pIf (decide (a.kind>=1))
   (z00 n (decide (a.kind<=4)) a)
   (z00 n false a)
def z00:Nat->Bool->kz3->Ot Bool
 |0,_,_=>none
 |n+1,a,b=>
  pIf (b.kind==4)
   (zzz n a 0 true b)
   (zzz n a 0 (b.kind==5) b)
def zzz:Nat->Bool->Int->Bool->kz3->Ot Bool
 |0,_,_,_,_=>none
 |n+1,a,b,c,d=>
  pIf c
   (kzy n a 2 d)
   (kzy n a b d)
def kzy:Nat->Bool->Int->kz3->Ot Bool
 |0,_,_,_=>none
 |n+1,a,b,c=>
  pIf (decide (c.kind<1))
   (kzr n a true c)
   (pIf (decide (c.kind>6))
     (kzr n a true c)
     (kzr n a (decide (c.axis>b)) c))
def kzr:Nat->Bool->Bool->kz3->Ot Bool
 |0,_,_,_=>none
 |n+1,a,b,c=>
  pIf b
   (some false)
   ((z26 n c.name).bind λy0=>
   pIf (!(a==y0))
    (zzr n a true c)
    (pIf (!a)
      (zzr n a (!(c.name==[])) c)
      (zzr n a false c)))
def zzr:Nat->Bool->Bool->kz3->Ot Bool
 |0,_,_,_=>none
 |n+1,a,b,c=>
  pIf b
   (some false)
   ((z3e n c.args).bind λy1=>
   (z05 n y1.re).bind λy2=>
   pIf (y2 != 0)
    (zzn n true c)
    ((z9w n c.kind).bind λy3=>
    pIf (decide ((c.args.length:Int)<y3))
     (zzn n true c)
     (pIf (!a)
       ((z9w n c.kind).bind λy4=>
       zzn n ((c.args.length:Int) != y4) c)
       (zzn n false c))))
def zzn:Nat->Bool->kz3->Ot Bool
 |0,_,_=>none
 |n+1,a,b=>
  pIf a
   (some false)
   (pIf (!((b.kind==5)==(decide ((b.items.length:Int)>0))))
     (some false)
     (yzr n 0 b.items (b.items.length:Int)))
def yzr:Nat->Int->zwe->Int->Ot Bool
 |0,_,_,_=>none
 |n+1,a,b,c=>
  pIf (decide (a<c))
   ((ix b a).bind λx5=>
   pIf (decide (x5.kind<1))
    (zzj n b c a true)
    (pIf (decide (x5.kind>3))
      (zzj n b c a true)
      ((z26 n x5.name).bind λy6=>
      pIf (!y6)
       (zzj n b c a true)
       (pIf ((x5.args.length:Int)==0)
         (zzj n b c a true)
         ((z3e n x5.args).bind λy7=>
         (z05 n y7.re).bind λy8=>
         zzj n b c a (y8 != 0))))))
   (some true)
def zzj:Nat->zwe->Int->Int->Bool->Ot Bool
 |0,_,_,_,_=>none
 |n+1,a,b,c,d=>
  pIf d
   (some false)
   (yzr n (IntKind.i64.wrap (c+1)) a b)
end
def y0r:LSh:=⟨[(2,dB)],[],0,125,[]⟩
noncomputable def zn3:FI dat:=FI.of dat 92 125 0 [dT 8] [] [dB] [] true y0r (R:=Bool) Prod.fst (·,()) (λn=>u1 (z4s n))
 (λn=>[(0,⟨⟨[(1,(.ptr 0 0)),(3,dB)],[(.st 8)],0,125,[]⟩,u2 (z00 n)⟩),(1,⟨⟨[(1,(.ptr 0 0)),(3,dB),(4,dU),(22,dB)],[(.st 8)],0,125,[]⟩,u4 (zzz n)⟩),(2,⟨⟨[(1,(.ptr 0 0)),(3,dB),(4,dU)],[(.st 8)],0,125,[]⟩,u3 (kzy n)⟩),(3,⟨⟨[(1,(.ptr 0 0)),(3,dB),(23,dB)],[(.st 8)],0,125,[]⟩,u3 (kzr n)⟩),(4,⟨⟨[(1,(.ptr 0 0)),(3,dB),(38,dB)],[(.st 8)],0,125,[]⟩,u3 (zzr n)⟩),(5,⟨⟨[(1,(.ptr 0 0)),(53,dB)],[(.st 8)],0,125,[]⟩,u2 (zzn n)⟩),(6,⟨⟨[(93,dI),(91,dL 7),(92,dI)],[],0,125,[]⟩,u3 (yzr n)⟩),(7,⟨⟨[(91,dL 7),(92,dI),(93,dI),(123,dB)],[],0,125,[]⟩,u4 (zzj n)⟩)]) (anb [(4,0),(9,1),(12,2),(16,3),(22,4),(28,5),(43,6),(56,7)] f92)
theorem zwz:FOk prog zn3:=okF (bs:=[zj5,zsd,zf3,zw9]) ⟨zn2,zxs,zfo,y32,trivial⟩ func92 ntmps92 call92
 (λ_ _=>tr (z4s.eq_2 ..))
 (λn=>⟨λ_=>tr (z00.eq_2 ..),
  λ_=>tr (zzz.eq_2 ..),
  λ_=>tr (kzy.eq_2 ..),
  λ_=>tr (kzr.eq_2 ..),
  λ_=>tr (zzr.eq_2 ..),
  λ_=>tr (zzn.eq_2 ..),
  λ_=>tr (yzr.eq_2 ..),
  λ_=>tr (zzj.eq_2 ..),
  trivial⟩)
mutual
def z9u:Nat->kz0->Ot Bool
 |0,_=>none
 |n+1,a=>
  z10 n 0 a.attrs (a.attrs.length:Int) a
def z10:Nat->Int->z55->Int->kz0->Ot Bool
 |0,_,_,_,_=>none
 |n+1,a,b,c,d=>
  pIf (decide (a<c))
   ((ix b a).bind λx0=>
   (z26 n x0.name).bind λy1=>
   pIf (!y1)
    (z2r n b c a true d)
    ((z05 n x0.value.re).bind λy2=>
    z2r n b c a (y2 != 0) d))
   (z0v n 0 d.rules (d.rules.length:Int))
def z2r:Nat->z55->Int->Int->Bool->kz0->Ot Bool
 |0,_,_,_,_,_=>none
 |n+1,a,b,c,d,e=>
  pIf d
   (some false)
   (z10 n (IntKind.i64.wrap (c+1)) a b e)
def z0v:Nat->Int->zzm->Int->Ot Bool
 |0,_,_,_=>none
 |n+1,a,b,c=>
  pIf (decide (a<c))
   ((ix b a).bind λx3=>
   (z26 n x3.name).bind λy4=>
   pIf (!y4)
    (z2l n b c a true x3)
    ((zzh n x3.params).bind λy5=>
    z2l n b c a y5 x3))
   (some true)
def z2l:Nat->zzm->Int->Int->Bool->zz6->Ot Bool
 |0,_,_,_,_,_=>none
 |n+1,a,b,c,d,e=>
  pIf d
   (some false)
   (z0x n 0 e.cases a b c (e.cases.length:Int))
def z0x:Nat->Int->z6n->zzm->Int->Int->Int->Ot Bool
 |0,_,_,_,_,_,_=>none
 |n+1,a,b,c,d,e,f=>
  pIf (decide (a<f))
   ((ix b a).bind λx6=>
   pIf (decide (x6.weight<1))
    (z0r n b c d e f a true x6.re)
    (pIf (decide (x6.weight>1000000))
      (z0r n b c d e f a true x6.re)
      ((z05 n x6.when_.re).bind λy7=>
      z0r n b c d e f a (y7 != 0) x6.re)))
   (z0v n (IntKind.i64.wrap (e+1)) c d)
def z0r:Nat->z6n->zzm->Int->Int->Int->Int->Bool->kz5->Ot Bool
 |0,_,_,_,_,_,_,_,_=>none
 |n+1,a,b,c,d,e,f,g,h=>
  pIf g
   (some false)
   (z0s n 0 h.do_ a b c d e f (h.do_.length:Int))
def z0s:Nat->Int->zd2->z6n->zzm->Int->Int->Int->Int->Int->Ot Bool
 |0,_,_,_,_,_,_,_,_,_=>none
 |n+1,a,b,c,d,e,f,g,h,i=>
  pIf (decide (a<i))
   ((ix b a).bind λx8=>
   (z4s n x8).bind λy9=>
   pIf (!y9)
    (some false)
    (z0s n (IntKind.i64.wrap (a+1)) b c d e f g h i))
   (z0x n (IntKind.i64.wrap (h+1)) c d e f g)
end
def y9j:LSh:=⟨[(2,dB)],[],0,79,[]⟩
noncomputable def zvy:FI dat:=FI.of dat 33 79 0 [dT 11] [] [dB] [] true y9j (R:=Bool) Prod.fst (·,()) (λn=>u1 (z9u n))
 (λn=>[(0,⟨⟨[(14,dI),(12,dL 6),(1,(.ptr 0 0)),(13,dI)],[(.st 11)],0,79,[]⟩,u4 (z10 n)⟩),(1,⟨⟨[(12,dL 6),(1,(.ptr 0 0)),(13,dI),(14,dI),(27,dB)],[(.st 11)],0,79,[]⟩,u5 (z2r n)⟩),(2,⟨⟨[(32,dI),(30,dL 10),(31,dI)],[],0,79,[]⟩,u3 (z0v n)⟩),(3,⟨⟨[(30,dL 10),(31,dI),(32,dI),(6,(.ptr 0 0)),(44,dB)],[(.st 10)],0,79,[]⟩,u5 (z2l n)⟩),(4,⟨⟨[(48,dI),(46,dL 9),(30,dL 10),(31,dI),(32,dI),(47,dI)],[],0,79,[]⟩,u6 (z0x n)⟩),(5,⟨⟨[(46,dL 9),(30,dL 10),(31,dI),(32,dI),(47,dI),(48,dI),(8,(.ptr 0 0)),(65,dB)],[(.st 9)],0,79,[]⟩,u8 (z0r n)⟩),(6,⟨⟨[(69,dI),(67,dL 8),(46,dL 9),(30,dL 10),(31,dI),(32,dI),(47,dI),(48,dI),(68,dI)],[],0,79,[]⟩,u9 (z0s n)⟩)]) (anb [(6,0),(19,1),(29,2),(43,3),(51,4),(65,5),(73,6)] f33)
theorem y7b:FOk prog zvy:=okF (bs:=[zj5,zf3,z8p,zn3]) ⟨zn2,zfo,zff,zwz,trivial⟩ func33 ntmps33 call33
 (λ_ _=>tr (z9u.eq_2 ..))
 (λn=>⟨λ_=>tr (z10.eq_2 ..),
  λ_=>tr (z2r.eq_2 ..),
  λ_=>tr (z0v.eq_2 ..),
  λ_=>tr (z2l.eq_2 ..),
  λ_=>tr (z0x.eq_2 ..),
  λ_=>tr (z0r.eq_2 ..),
  λ_=>tr (z0s.eq_2 ..),
  trivial⟩)
mutual
def kzk:Nat->B8->(List B8)->Ot (Int×(List B8))
 |0,_,_=>none
 |n+1,a,b=>
  yzd n 0 a (b.length:Int) b
def yzd:Nat->Int->B8->Int->(List B8)->Ot (Int×(List B8))
 |0,_,_,_,_=>none
 |n+1,a,b,c,d=>
  pIf (decide (a<c))
   ((ix d a).bind λx0=>
   pIf (b==x0)
    (some (a,d))
    (yzd n (IntKind.i64.wrap (a+1)) b c d))
   (some ((-1),d))
end
def zi9:LSh:=⟨[(4,dI)],[(.acc 9 .str true)],1,19,[]⟩
noncomputable def zaw:FI dat:=FI.of dat 35 19 1 [(.own 0),dS] [(.acc 9 .str true)] [dI] [(.acc 9 .str true)] false zi9 (R:=Int×(List B8)) (λx=>(x.1,x.2.1)) (λr=>(r.1,r.2,())) (λn=>u2 (kzk n))
 (λn=>[(0,⟨⟨[(8,dI),(0,(.own 0)),(1,dS),(7,dI)],[(.acc 9 .str true)],1,19,[]⟩,u4 (yzd n)⟩)]) (anb [(6,0)] f35)
theorem zi4:FOk prog zaw:=okF (bs:=[]) trivial func35 ntmps35 call35
 (λ_ _=>tr (kzk.eq_2 ..))
 (λn=>⟨λ_=>tr (yzd.eq_2 ..),
  trivial⟩)
def zzi:Nat->B8->(List B8)->Ot (Bool×(List B8))
 |0,_,_=>none
 |n+1,a,b=>
  (kzk n a b).bind λy0=>
  some ((decide (y0.1>=0)),y0.2)
def zgm:LSh:=⟨[(4,dB)],[(.acc 9 .str true)],1,9,[]⟩
noncomputable def z2q:FI dat:=FI.of dat 149 9 1 [(.own 0),dS] [(.acc 9 .str true)] [dB] [(.acc 9 .str true)] false zgm (R:=Bool×(List B8)) (λx=>(x.1,x.2.1)) (λr=>(r.1,r.2,())) (λn=>u2 (zzi n))
 (λn=>[]) (anb [] f149)
theorem zfw:FOk prog z2q:=okF (bs:=[zaw]) ⟨zi4,trivial⟩ func149 ntmps149 call149
 (λ_ _=>tr (zzi.eq_2 ..))
 (λn=>trivial)
mutual
def zaq:Nat->yz1->(List B8)->Ot (List B8)
 |0,_,_=>none
 |n+1,a,b=>
  pIf (a.op==2)
   ((zzi n a.name b).bind λy0=>
   z8u n (!y0.1) y0.2 a.re)
   (z8u n false b a.re)
def z8u:Nat->Bool->(List B8)->yz1->Ot (List B8)
 |0,_,_,_=>none
 |n+1,a,b,c=>
  pIf a
   ((ext b [c.name]).bind λx1=>
   z63 n x1 c.re)
   (z63 n b c.re)
def z63:Nat->(List B8)->yz1->Ot (List B8)
 |0,_,_=>none
 |n+1,a,b=>
  z5i n 0 b.args (b.args.length:Int) a
def z5i:Nat->Int->zz8->Int->(List B8)->Ot (List B8)
 |0,_,_,_,_=>none
 |n+1,a,b,c,d=>
  pIf (decide (a<c))
   ((ix b a).bind λx2=>
   (zaq n x2.re d).bind λy3=>
   z5i n (IntKind.i64.wrap (a+1)) b c y3)
   (some d)
end
def yi9:LSh:=⟨[],[(.cells [(.own 1)]),(.acc 9 .str true)],1,38,[]⟩
noncomputable def zh0:FI dat:=FI.of dat 153 38 1 [dT 5,(.ptr 0 0)] [(.cells [(.own 1)]),(.acc 9 .str true)] [] [(.cells [(.own 1)]),(.acc 9 .str true)] false yi9 (R:=List B8) Prod.fst (·,()) (λn=>u2 (zaq n))
 (λn=>[(0,⟨⟨[(1,(.ptr 0 0)),(2,(.ptr 2 0)),(17,dB)],[(.cells [(.own 1)]),(.acc 9 .str true),(.st 5)],1,38,[]⟩,u3 (z8u n)⟩),(1,⟨⟨[(1,(.ptr 0 0)),(2,(.ptr 2 0))],[(.cells [(.own 1)]),(.acc 9 .str true),(.st 5)],1,38,[]⟩,u2 (z63 n)⟩),(2,⟨⟨[(30,dI),(1,(.ptr 0 0)),(28,dL 5),(29,dI)],[(.cells [(.own 1)]),(.acc 9 .str true)],1,38,[]⟩,u4 (z5i n)⟩)]) (anb [(5,0),(8,1),(11,2)] f153)
noncomputable def yhb:List (FI dat):=[zh0]++[z2q]
theorem ykk:(zh0).Good prog dat (tb yhb):=FI.z1c (hD:=kza _) func153 ntmps153 call153 (by kernel_rfl) (Qac (by kernel_rfl)) (by kernel_rfl) (λn=>by kernel_rfl) (λx=>by kernel_rfl) (λ_=>rfl) ⟨λ_=>rfl,λ_=>rfl,λ_=>rfl,trivial⟩
 (λ_ _=>tr (zaq.eq_2 ..))
 (λn=>⟨λ_=>tr (z8u.eq_2 ..),
  λ_=>tr (z63.eq_2 ..),
  λ_=>tr (z5i.eq_2 ..),
  trivial⟩)
 (λx=>.inr (by kernel_rfl))
theorem ykc:OkL prog [zh0]:=z7m (kza _) (bs:=[z2q]) ⟨zfw,trivial⟩ ⟨ykk,trivial⟩
theorem ye5:FOk prog zh0:=ykc.1
def zd6:Nat->yz1->Ot ((List B8)×Int)
 |0,_=>none
 |n+1,a=>
  (z05 n a.re).bind λy0=>
  pIf (y0 != 0)
   (some ([],y0))
   ((zaq n a.re []).bind λy1=>
   (zze n y1).bind λy2=>
   some (y2,0))
def yhn:LSh:=⟨[(2,dA),(3,dI)],[],0,16,[]⟩
noncomputable def y3g:FI dat:=FI.of dat 93 16 0 [dT 5] [] [dA,dI] [] true yhn (R:=(List B8)×Int) (λx=>(x.1,x.2.1)) (λr=>(r.1,r.2,())) (λn=>u1 (zd6 n))
 (λn=>[]) (anb [] f93)
theorem yeg:FOk prog y3g:=okF (bs:=[zh0,z0l,zf3]) ⟨ye5,z83,zfo,trivial⟩ func93 ntmps93 call93
 (λ_ _=>tr (zd6.eq_2 ..))
 (λn=>trivial)
def z9t:Nat->B8->(List B8)->(List Bool)->Ot (Bool×(List B8)×(List Bool))
 |0,_,_,_=>none
 |n+1,a,b,c=>
  some ((!(Option.getD (z7g (List.zip b c) a) false)),(mks (List.zip b c)),(mvs (List.zip b c)))
def yc6:LSh:=⟨[(3,dB)],[(.cells [(.map 1)]),(.mp 76 .bool)],2,8,[]⟩
noncomputable def zty:FI dat:=FI.of dat 94 8 2 [dS,(.ptr 0 0)] [(.cells [(.map 1)]),(.mp 76 .bool)] [dB] [(.cells [(.map 1)]),(.mp 76 .bool)] false yc6 (R:=Bool×(List B8)×(List Bool)) (λx=>(x.1,x.2.1,x.2.2.1)) (λr=>(r.1,r.2.1,r.2.2,())) (λn=>u3 (z9t n))
 (λn=>[]) (anb [] f94)
theorem y80:FOk prog zty:=okF (bs:=[]) trivial func94 ntmps94 call94
 (λn=>λ_=>tr (z9t.eq_2 _ _ _ n))
 (λn=>trivial)
mutual
def kzm:Nat->(List B8)->(List B8)->(List Bool)->Ot (Int×(List B8)×(List Bool))
 |0,_,_,_=>none
 |n+1,a,b,c=>
  zz9 n 0 a (a.length:Int) (mks (List.zip b c)) (mvs (List.zip b c))
def zz9:Nat->Int->(List B8)->Int->(List B8)->(List Bool)->Ot (Int×(List B8)×(List Bool))
 |0,_,_,_,_,_=>none
 |n+1,a,b,c,d,e=>
  pIf (decide (a<c))
   ((ix b a).bind λx0=>
   (z9t n x0 (mks (List.zip d e)) (mvs (List.zip d e))).bind λy1=>
   pIf y1.1
    (some (a,(mks (List.zip y1.2.1 y1.2.2)),(mvs (List.zip y1.2.1 y1.2.2))))
    (zz9 n (IntKind.i64.wrap (a+1)) b c (mks (List.zip y1.2.1 y1.2.2)) (mvs (List.zip y1.2.1 y1.2.2))))
   (some ((-1),(mks (List.zip d e)),(mvs (List.zip d e))))
end
def zfs:LSh:=⟨[(4,dI)],[(.cells [(.map 1)]),(.mp 76 .bool)],2,19,[]⟩
noncomputable def z8q:FI dat:=FI.of dat 152 19 2 [dA,(.fn 94 [] [(.ptr 0 0)])] [(.cells [(.map 1)]),(.mp 76 .bool)] [dI] [(.cells [(.map 1)]),(.mp 76 .bool)] false zfs (R:=Int×(List B8)×(List Bool)) (λx=>(x.1,x.2.1,x.2.2.1)) (λr=>(r.1,r.2.1,r.2.2,())) (λn=>u3 (kzm n))
 (λn=>[(0,⟨⟨[(8,dI),(0,dA),(1,(.fn 94 [] [(.ptr 0 0)])),(7,dI)],[(.cells [(.map 1)]),(.mp 76 .bool)],2,19,[]⟩,u5 (zz9 n)⟩)]) (anb [(6,0)] f152)
theorem zfk:FOk prog z8q:=okF (bs:=[zty]) ⟨y80,trivial⟩ func152 ntmps152 call152
 (λ_ _=>tr (kzm.eq_2 ..))
 (λn=>⟨λ_=>tr (zz9.eq_2 ..),
  trivial⟩)
def yze:Nat->(List B8)->(List B8)->(List Bool)->Ot (Bool×(List B8)×(List Bool))
 |0,_,_,_=>none
 |n+1,a,b,c=>
  (kzm n a (mks (List.zip b c)) (mvs (List.zip b c))).bind λy0=>
  some ((decide (y0.1>=0)),(mks (List.zip y0.2.1 y0.2.2)),(mvs (List.zip y0.2.1 y0.2.2)))
def zdy:LSh:=⟨[(4,dB)],[(.cells [(.map 1)]),(.mp 76 .bool)],2,9,[]⟩
noncomputable def z6y:FI dat:=FI.of dat 90 9 2 [dA,(.fn 94 [] [(.ptr 0 0)])] [(.cells [(.map 1)]),(.mp 76 .bool)] [dB] [(.cells [(.map 1)]),(.mp 76 .bool)] false zdy (R:=Bool×(List B8)×(List Bool)) (λx=>(x.1,x.2.1,x.2.2.1)) (λr=>(r.1,r.2.1,r.2.2,())) (λn=>u3 (yze n))
 (λn=>[]) (anb [] f90)
theorem zdt:FOk prog z6y:=okF (bs:=[z8q]) ⟨zfk,trivial⟩ func90 ntmps90 call90
 (λ_ _=>tr (yze.eq_2 ..))
 (λn=>trivial)
def zas:Nat->yz1->(List B8)->(List Bool)->Ot (Bool×(List B8)×(List Bool))
 |0,_,_,_=>none
 |n+1,a,b,c=>
  (zd6 n a.re).bind λy0=>
  (yze n y0.1 (mks (List.zip b c)) (mvs (List.zip b c))).bind λy1=>
  some (y1.1,(mks (List.zip y1.2.1 y1.2.2)),(mvs (List.zip y1.2.1 y1.2.2)))
def yj8:LSh:=⟨[(4,dB)],[(.mp 76 .bool)],1,15,[]⟩
noncomputable def zsf:FI dat:=FI.of dat 34 15 1 [dT 5,(.map 0)] [(.mp 76 .bool)] [dB] [(.mp 76 .bool)] false yj8 (R:=Bool×(List B8)×(List Bool)) (λx=>(x.1,x.2.1,x.2.2.1)) (λr=>(r.1,r.2.1,r.2.2,())) (λn=>u3 (zas n))
 (λn=>[]) (anb [] f34)
theorem zxq:FOk prog zsf:=okF (bs:=[z6y,y3g]) ⟨zdt,yeg,trivial⟩ func34 ntmps34 call34
 (λ_ _=>tr (zas.eq_2 ..))
 (λn=>trivial)
mutual
def zbn:Nat->zz6->Ot zz8
 |0,_=>none
 |n+1,a=>
  z4f n 0 a.cases (a.cases.length:Int) []
def z4f:Nat->Int->z6n->Int->zz8->Ot zz8
 |0,_,_,_,_=>none
 |n+1,a,b,c,d=>
  pIf (decide (a<c))
   ((ix b a).bind λx0=>
   (ext d [x0.when_.re]).bind λx1=>
   z3u n 0 x0.do_ b c a (x0.do_.length:Int) x1)
   (some d)
def z3u:Nat->Int->zd2->z6n->Int->Int->Int->zz8->Ot zz8
 |0,_,_,_,_,_,_,_=>none
 |n+1,a,b,c,d,e,f,g=>
  pIf (decide (a<f))
   ((ix b a).bind λx2=>
   (ext g x2.args).bind λx3=>
   z3o n 0 x2.items b c d e f a (x2.items.length:Int) x3)
   (z4f n (IntKind.i64.wrap (e+1)) c d g)
def z3o:Nat->Int->zwe->zd2->z6n->Int->Int->Int->Int->Int->zz8->Ot zz8
 |0,_,_,_,_,_,_,_,_,_,_=>none
 |n+1,a,b,c,d,e,f,g,h,i,j=>
  pIf (decide (a<i))
   ((ix b a).bind λx4=>
   (ext j x4.args).bind λx5=>
   z3o n (IntKind.i64.wrap (a+1)) b c d e f g h i x5)
   (z3u n (IntKind.i64.wrap (h+1)) c d e f g j)
end
def yer:LSh:=⟨[(2,dL 5)],[],0,48,[]⟩
noncomputable def zyf:FI dat:=FI.of dat 37 48 0 [dT 10] [] [dL 5] [] true yer (R:=zz8) Prod.fst (·,()) (λn=>u1 (zbn n))
 (λn=>[(0,⟨⟨[(13,dI),(3,(.own 0)),(11,dL 9),(12,dI)],[(.acc 29 (.st 5) true)],0,48,[]⟩,u4 (z4f n)⟩),(1,⟨⟨[(25,dI),(3,(.own 0)),(23,dL 8),(11,dL 9),(12,dI),(13,dI),(24,dI)],[(.acc 29 (.st 5) true)],0,48,[]⟩,u7 (z3u n)⟩),(2,⟨⟨[(36,dI),(3,(.own 0)),(34,dL 7),(23,dL 8),(11,dL 9),(12,dI),(13,dI),(24,dI),(25,dI),(35,dI)],[(.acc 29 (.st 5) true)],0,48,[]⟩,u10 (z3o n)⟩)]) (anb [(8,0),(24,1),(40,2)] f37)
theorem ybr:FOk prog zyf:=okF (bs:=[]) trivial func37 ntmps37 call37
 (λ_ _=>tr (zbn.eq_2 ..))
 (λn=>⟨λ_=>tr (z4f.eq_2 ..),
  λ_=>tr (z3u.eq_2 ..),
  λ_=>tr (z3o.eq_2 ..),
  trivial⟩)
def z8x:Nat->yz1->(List B8)->(List Bool)->Ot (Bool×(List B8)×(List Bool))
 |0,_,_,_=>none
 |n+1,a,b,c=>
  (zas n a.re (mks (List.zip b c)) (mvs (List.zip b c))).bind λy0=>
  some (y0.1,(mks (List.zip y0.2.1 y0.2.2)),(mvs (List.zip y0.2.1 y0.2.2)))
def y7s:LSh:=⟨[(3,dB)],[(.cells [(.map 1)]),(.mp 76 .bool)],2,7,[]⟩
noncomputable def zt8:FI dat:=FI.of dat 38 7 2 [dT 5,(.ptr 0 0)] [(.cells [(.map 1)]),(.mp 76 .bool)] [dB] [(.cells [(.map 1)]),(.mp 76 .bool)] false y7s (R:=Bool×(List B8)×(List Bool)) (λx=>(x.1,x.2.1,x.2.2.1)) (λr=>(r.1,r.2.1,r.2.2,())) (λn=>u3 (z8x n))
 (λn=>[]) (anb [] f38)
theorem y5f:FOk prog zt8:=okF (bs:=[zsf]) ⟨zxq,trivial⟩ func38 ntmps38 call38
 (λ_ _=>tr (z8x.eq_2 ..))
 (λn=>trivial)
mutual
def yzk:Nat->zz8->(List B8)->(List Bool)->Ot (Int×(List B8)×(List Bool))
 |0,_,_,_=>none
 |n+1,a,b,c=>
  yz7 n 0 a (a.length:Int) (mks (List.zip b c)) (mvs (List.zip b c))
def yz7:Nat->Int->zz8->Int->(List B8)->(List Bool)->Ot (Int×(List B8)×(List Bool))
 |0,_,_,_,_,_=>none
 |n+1,a,b,c,d,e=>
  pIf (decide (a<c))
   ((ix b a).bind λx0=>
   (z8x n x0.re (mks (List.zip d e)) (mvs (List.zip d e))).bind λy1=>
   pIf y1.1
    (some (a,(mks (List.zip y1.2.1 y1.2.2)),(mvs (List.zip y1.2.1 y1.2.2))))
    (yz7 n (IntKind.i64.wrap (a+1)) b c (mks (List.zip y1.2.1 y1.2.2)) (mvs (List.zip y1.2.1 y1.2.2))))
   (some ((-1),(mks (List.zip d e)),(mvs (List.zip d e))))
end
def zfj:LSh:=⟨[(4,dI)],[(.cells [(.map 1)]),(.mp 76 .bool)],2,19,[]⟩
noncomputable def z8e:FI dat:=FI.of dat 95 19 2 [dL 5,(.fn 38 [] [(.ptr 0 0)])] [(.cells [(.map 1)]),(.mp 76 .bool)] [dI] [(.cells [(.map 1)]),(.mp 76 .bool)] false zfj (R:=Int×(List B8)×(List Bool)) (λx=>(x.1,x.2.1,x.2.2.1)) (λr=>(r.1,r.2.1,r.2.2,())) (λn=>u3 (yzk n))
 (λn=>[(0,⟨⟨[(8,dI),(0,dL 5),(1,(.fn 38 [] [(.ptr 0 0)])),(7,dI)],[(.cells [(.map 1)]),(.mp 76 .bool)],2,19,[]⟩,u5 (yz7 n)⟩)]) (anb [(6,0)] f95)
theorem zey:FOk prog z8e:=okF (bs:=[zt8]) ⟨y5f,trivial⟩ func95 ntmps95 call95
 (λ_ _=>tr (yzk.eq_2 ..))
 (λn=>⟨λ_=>tr (yz7.eq_2 ..),
  trivial⟩)
def zzd:Nat->zz8->(List B8)->(List Bool)->Ot (Bool×(List B8)×(List Bool))
 |0,_,_,_=>none
 |n+1,a,b,c=>
  (yzk n a (mks (List.zip b c)) (mvs (List.zip b c))).bind λy0=>
  some ((decide (y0.1>=0)),(mks (List.zip y0.2.1 y0.2.2)),(mvs (List.zip y0.2.1 y0.2.2)))
def zdu:LSh:=⟨[(4,dB)],[(.cells [(.map 1)]),(.mp 76 .bool)],2,9,[]⟩
noncomputable def z6h:FI dat:=FI.of dat 36 9 2 [dL 5,(.fn 38 [] [(.ptr 0 0)])] [(.cells [(.map 1)]),(.mp 76 .bool)] [dB] [(.cells [(.map 1)]),(.mp 76 .bool)] false zdu (R:=Bool×(List B8)×(List Bool)) (λx=>(x.1,x.2.1,x.2.2.1)) (λr=>(r.1,r.2.1,r.2.2,())) (λn=>u3 (zzd n))
 (λn=>[]) (anb [] f36)
theorem zdf:FOk prog z6h:=okF (bs:=[z8e]) ⟨zey,trivial⟩ func36 ntmps36 call36
 (λ_ _=>tr (zzd.eq_2 ..))
 (λn=>trivial)
mutual
def z74:Nat->zz6->Ot z7c
 |0,_=>none
 |n+1,a=>
  z3v n 0 a.cases (a.cases.length:Int) []
def z3v:Nat->Int->z6n->Int->z7c->Ot z7c
 |0,_,_,_,_=>none
 |n+1,a,b,c,d=>
  pIf (decide (a<c))
   ((ix b a).bind λx0=>
   z1z n 0 x0.do_ b c a (x0.do_.length:Int) d)
   (some d)
def z1z:Nat->Int->zd2->z6n->Int->Int->Int->z7c->Ot z7c
 |0,_,_,_,_,_,_,_=>none
 |n+1,a,b,c,d,e,f,g=>
  pIf (decide (a<f))
   ((ix b a).bind λx1=>
   pIf (!(x1.name==[]))
    ((z9w n x1.kind).bind λy2=>
    (ext g [(kzs.mk x1.name (IntKind.i64.wrap ((x1.args.length:Int)-y2)))]).bind λx3=>
    z3m n b c d e f a x3 x1)
    (z3m n b c d e f a g x1))
   (z3v n (IntKind.i64.wrap (e+1)) c d g)
def z3m:Nat->zd2->z6n->Int->Int->Int->Int->z7c->kz3->Ot z7c
 |0,_,_,_,_,_,_,_,_=>none
 |n+1,a,b,c,d,e,f,g,h=>
  z3n n 0 h.items a b c d e f (h.items.length:Int) g
def z3n:Nat->Int->zwe->zd2->z6n->Int->Int->Int->Int->Int->z7c->Ot z7c
 |0,_,_,_,_,_,_,_,_,_,_=>none
 |n+1,a,b,c,d,e,f,g,h,i,j=>
  pIf (decide (a<i))
   ((ix b a).bind λx4=>
   (ext j [(kzs.mk x4.name (IntKind.i64.wrap ((x4.args.length:Int)-1)))]).bind λx5=>
   z3n n (IntKind.i64.wrap (a+1)) b c d e f g h i x5)
   (z1z n (IntKind.i64.wrap (h+1)) c d e f g j)
end
def yea:LSh:=⟨[(2,dL 12)],[],0,61,[]⟩
noncomputable def zja:FI dat:=FI.of dat 39 61 0 [dT 10] [] [dL 12] [] true yea (R:=z7c) Prod.fst (·,()) (λn=>u1 (z74 n))
 (λn=>[(0,⟨⟨[(3,(.own 0)),(13,dI),(11,dL 9),(12,dI)],[(.acc 86 (.st 12) true)],0,61,[]⟩,u4 (z3v n)⟩),(1,⟨⟨[(20,dI),(3,(.own 0)),(18,dL 8),(11,dL 9),(12,dI),(13,dI),(19,dI)],[(.acc 86 (.st 12) true)],0,61,[]⟩,u7 (z1z n)⟩),(2,⟨⟨[(3,(.own 0)),(18,dL 8),(11,dL 9),(12,dI),(13,dI),(19,dI),(20,dI),(7,(.ptr 1 0))],[(.acc 86 (.st 12) true),(.st 8)],0,61,[]⟩,u8 (z3m n)⟩),(3,⟨⟨[(43,dI),(3,(.own 0)),(41,dL 7),(18,dL 8),(11,dL 9),(12,dI),(13,dI),(19,dI),(20,dI),(42,dI)],[(.acc 86 (.st 12) true)],0,61,[]⟩,u10 (z3n n)⟩)]) (anb [(8,0),(22,1),(39,2),(42,3)] f39)
theorem zmj:FOk prog zja:=okF (bs:=[zw9]) ⟨y32,trivial⟩ func39 ntmps39 call39
 (λ_ _=>tr (z74.eq_2 ..))
 (λn=>⟨λ_=>tr (z3v.eq_2 ..),
  λ_=>tr (z1z.eq_2 ..),
  λ_=>tr (z3m.eq_2 ..),
  λ_=>tr (z3n.eq_2 ..),
  trivial⟩)
mutual
noncomputable def z7f:Nat->kz0->Ot Int
 |0,_=>none
 |n+1,a=>
  (zd1 n a).bind λy0=>
  pIf y0
   (some 4)
   ((z9u n a).bind λy1=>
   pIf (!y1)
    (some 8)
    (z4d n 0 false a.attrs (a.attrs.length:Int) [] [] [] [] a))
noncomputable def z4d:Nat->Int->Bool->z55->Int->(List B8)->(List Bool)->(List B8)->(List Int)->kz0->Ot Int
 |0,_,_,_,_,_,_,_,_,_=>none
 |n+1,a,b,c,d,e,f,g,h,i=>
  pIf (decide (a<d))
   ((ix c a).bind λx2=>
   pIf b
    (z3s n true c d a (mks (List.zip e f)) (mvs (List.zip e f)) (mks (List.zip g h)) (mvs (List.zip g h)) i x2.re)
    ((zas n x2.value.re (mks (List.zip e f)) (mvs (List.zip e f))).bind λy3=>
    z3s n y3.1 c d a (mks (List.zip y3.2.1 y3.2.2)) (mvs (List.zip y3.2.1 y3.2.2)) (mks (List.zip g h)) (mvs (List.zip g h)) i x2.re))
   (z3q n 0 i.rules b (i.rules.length:Int) (mks (List.zip e f)) (mvs (List.zip e f)) (mks (List.zip g h)) (mvs (List.zip g h)) i)
noncomputable def z3s:Nat->Bool->z55->Int->Int->(List B8)->(List Bool)->(List B8)->(List Int)->kz0->kzi->Ot Int
 |0,_,_,_,_,_,_,_,_,_,_=>none
 |n+1,a,b,c,d,e,f,g,h,i,j=>
  pIf (Option.getD (z7g (List.zip e f) j.name) false)
   (some 14)
   (z4d n (IntKind.i64.wrap (d+1)) a b c (mks (zb7 (List.zip e f) j.name true)) (mvs (zb7 (List.zip e f) j.name true)) (mks (List.zip g h)) (mvs (List.zip g h)) i)
noncomputable def z3q:Nat->Int->zzm->Bool->Int->(List B8)->(List Bool)->(List B8)->(List Int)->kz0->Ot Int
 |0,_,_,_,_,_,_,_,_,_=>none
 |n+1,a,b,c,d,e,f,g,h,i=>
  pIf (decide (a<d))
   ((ix b a).bind λx4=>
   pIf (Option.isSome (z7g (List.zip g h) x4.name))
    (some 14)
    (z41 n 0 x4.params b c d a (x4.params.length:Int) x4 (mks (List.zip e f)) (mvs (List.zip e f)) (mks (zb7 (List.zip g h) x4.name a)) (mvs (zb7 (List.zip g h) x4.name a)) i))
   (z1w n false 0 c (mks (List.zip e f)) (mvs (List.zip e f)) i.rules (i.rules.length:Int) i (mks (List.zip g h)) (mvs (List.zip g h)))
noncomputable def z41:Nat->Int->(List B8)->zzm->Bool->Int->Int->Int->zz6->(List B8)->(List Bool)->(List B8)->(List Int)->kz0->Ot Int
 |0,_,_,_,_,_,_,_,_,_,_,_,_,_=>none
 |n+1,a,b,c,d,e,f,g,h,i,j,k,l,m=>
  pIf (decide (a<g))
   ((ix b a).bind λx5=>
   pIf (Option.getD (z7g (List.zip i j) x5) false)
    (z4j n b c d e f g a true h (mks (List.zip i j)) (mvs (List.zip i j)) (mks (List.zip k l)) (mvs (List.zip k l)) m)
    ((kz8 n h.params x5).bind λy6=>
    z4j n b c d e f g a (decide (y6<a)) h (mks (List.zip i j)) (mvs (List.zip i j)) (mks (List.zip k l)) (mvs (List.zip k l)) m))
   (z3q n (IntKind.i64.wrap (f+1)) c d e (mks (List.zip i j)) (mvs (List.zip i j)) (mks (List.zip k l)) (mvs (List.zip k l)) m)
noncomputable def z4j:Nat->(List B8)->zzm->Bool->Int->Int->Int->Int->Bool->zz6->(List B8)->(List Bool)->(List B8)->(List Int)->kz0->Ot Int
 |0,_,_,_,_,_,_,_,_,_,_,_,_,_,_=>none
 |n+1,a,b,c,d,e,f,g,h,i,j,k,l,m,o=>
  pIf h
   (some 14)
   (z41 n (IntKind.i64.wrap (g+1)) a b c d e f i (mks (List.zip j k)) (mvs (List.zip j k)) (mks (List.zip l m)) (mvs (List.zip l m)) o)
noncomputable def z1w:Nat->Bool->Int->Bool->(List B8)->(List Bool)->zzm->Int->kz0->(List B8)->(List Int)->Ot Int
 |0,_,_,_,_,_,_,_,_,_,_=>none
 |n+1,a,b,c,d,e,f,g,h,i,j=>
  pIf (decide (b<g))
   ((ix f b).bind λx7=>
   z4e n a (mks (List.zip d e)) (mvs (List.zip d e)) f g b c (mks (List.zip d e)) (mvs (List.zip d e)) h (mks (List.zip i j)) (mvs (List.zip i j)) x7 (mks (zb7 (zb7 (zb7 [] [115,120] true) [115,121] true) [115,122] true)) (mvs (zb7 (zb7 (zb7 [] [115,120] true) [115,121] true) [115,122] true)))
   (pIf c
     (some 6)
     (pIf a
       (some 2)
       (some 0)))
noncomputable def z4e:Nat->Bool->(List B8)->(List Bool)->zzm->Int->Int->Bool->(List B8)->(List Bool)->kz0->(List B8)->(List Int)->zz6->(List B8)->(List Bool)->Ot Int
 |0,_,_,_,_,_,_,_,_,_,_,_,_,_,_,_=>none
 |n+1,a,b,c,d,e,f,g,h,i,j,k,l,m,o,p=>
  y6i (List.zip h i) (λk8 v9 r10=>
   z4e n a (mks (List.zip b c)) (mvs (List.zip b c)) d e f g (mks r10) (mvs r10) j (mks (List.zip k l)) (mvs (List.zip k l)) m (mks (zb7 (List.zip o p) k8 true)) (mvs (zb7 (List.zip o p) k8 true)))
   (z1m n 0 m.params a (mks (List.zip b c)) (mvs (List.zip b c)) d e f g (m.params.length:Int) j (mks (List.zip k l)) (mvs (List.zip k l)) m (mks (List.zip o p)) (mvs (List.zip o p)))
noncomputable def z1m:Nat->Int->(List B8)->Bool->(List B8)->(List Bool)->zzm->Int->Int->Bool->Int->kz0->(List B8)->(List Int)->zz6->(List B8)->(List Bool)->Ot Int
 |0,_,_,_,_,_,_,_,_,_,_,_,_,_,_,_,_=>none
 |n+1,a,b,c,d,e,f,g,h,i,j,k,l,m,o,p,q=>
  pIf (decide (a<j))
   ((ix b a).bind λx11=>
   z1m n (IntKind.i64.wrap (a+1)) b c (mks (List.zip d e)) (mvs (List.zip d e)) f g h i j k (mks (List.zip l m)) (mvs (List.zip l m)) o (mks (zb7 (List.zip p q) x11 true)) (mvs (zb7 (List.zip p q) x11 true)))
   (pIf i
     (z3r n c true (mks (List.zip d e)) (mvs (List.zip d e)) f g h k (mks (List.zip l m)) (mvs (List.zip l m)) o)
     ((zbn n o).bind λy12=>
     (zzd n y12 (mks (List.zip p q)) (mvs (List.zip p q))).bind λy13=>
     z3r n c y13.1 (mks (List.zip d e)) (mvs (List.zip d e)) f g h k (mks (List.zip l m)) (mvs (List.zip l m)) o))
noncomputable def z3r:Nat->Bool->Bool->(List B8)->(List Bool)->zzm->Int->Int->kz0->(List B8)->(List Int)->zz6->Ot Int
 |0,_,_,_,_,_,_,_,_,_,_,_=>none
 |n+1,a,b,c,d,e,f,g,h,i,j,k=>
  (z74 n k).bind λy14=>
  z4a n 0 a b y14 (mks (List.zip c d)) (mvs (List.zip c d)) e f g (y14.length:Int) h (mks (List.zip i j)) (mvs (List.zip i j))
noncomputable def z4a:Nat->Int->Bool->Bool->z7c->(List B8)->(List Bool)->zzm->Int->Int->Int->kz0->(List B8)->(List Int)->Ot Int
 |0,_,_,_,_,_,_,_,_,_,_,_,_,_=>none
 |n+1,a,b,c,d,e,f,g,h,i,j,k,l,m=>
  pIf (decide (a<j))
   ((ix d a).bind λx15=>
   pIf c
    (z2m n true d (mks (List.zip e f)) (mvs (List.zip e f)) g h i j a (Option.getD (z7g (List.zip l m) x15.name) 0) (Option.isSome (z7g (List.zip l m) x15.name)) b k (mks (List.zip l m)) (mvs (List.zip l m)) x15)
    (z2m n (!(Option.isSome (z7g (List.zip l m) x15.name))) d (mks (List.zip e f)) (mvs (List.zip e f)) g h i j a (Option.getD (z7g (List.zip l m) x15.name) 0) (Option.isSome (z7g (List.zip l m) x15.name)) b k (mks (List.zip l m)) (mvs (List.zip l m)) x15))
   (z1w n b (IntKind.i64.wrap (i+1)) c (mks (List.zip e f)) (mvs (List.zip e f)) g h k (mks (List.zip l m)) (mvs (List.zip l m)))
noncomputable def z2m:Nat->Bool->z7c->(List B8)->(List Bool)->zzm->Int->Int->Int->Int->Int->Bool->Bool->kz0->(List B8)->(List Int)->kzs->Ot Int
 |0,_,_,_,_,_,_,_,_,_,_,_,_,_,_,_,_=>none
 |n+1,a,b,c,d,e,f,g,h,i,j,k,l,m,o,p,q=>
  pIf l
   (z11 n true a b (mks (List.zip c d)) (mvs (List.zip c d)) e f g h i m (mks (List.zip o p)) (mvs (List.zip o p)))
   (pIf k
     ((ix m.rules j).bind λx16=>
     z11 n (q.many != (x16.params.length:Int)) a b (mks (List.zip c d)) (mvs (List.zip c d)) e f g h i m (mks (List.zip o p)) (mvs (List.zip o p)))
     (z11 n false a b (mks (List.zip c d)) (mvs (List.zip c d)) e f g h i m (mks (List.zip o p)) (mvs (List.zip o p))))
noncomputable def z11:Nat->Bool->Bool->z7c->(List B8)->(List Bool)->zzm->Int->Int->Int->Int->kz0->(List B8)->(List Int)->Ot Int
 |0,_,_,_,_,_,_,_,_,_,_,_,_,_=>none
 |n+1,a,b,c,d,e,f,g,h,i,j,k,l,m=>
  z4a n (IntKind.i64.wrap (j+1)) a b c (mks (List.zip d e)) (mvs (List.zip d e)) f g h i k (mks (List.zip l m)) (mvs (List.zip l m))
end
def yem:LSh:=⟨[(2,dI)],[],0,170,[]⟩
noncomputable def ziz:FI dat:=FI.of dat 10 170 0 [dT 11] [] [dI] [] true yem (R:=Int) Prod.fst (·,()) (λn=>u1 (z7f n))
 (λn=>[(0,⟨⟨[(35,dI),(3,(.map 0)),(5,dB),(33,dL 6),(4,(.map 1)),(1,(.ptr 2 0)),(34,dI)],[(.mp 76 .bool),(.mp 77 (.int .i64)),(.st 11)],0,170,[]⟩,u9 (z4d n)⟩),(1,⟨⟨[(3,(.map 0)),(5,dB),(33,dL 6),(4,(.map 1)),(1,(.ptr 2 0)),(34,dI),(35,dI),(7,(.ptr 3 0))],[(.mp 76 .bool),(.mp 77 (.int .i64)),(.st 11),(.st 6)],0,170,[]⟩,u10 (z3s n)⟩),(2,⟨⟨[(3,(.map 0)),(57,dI),(4,(.map 1)),(55,dL 10),(1,(.ptr 2 0)),(5,dB),(56,dI)],[(.mp 76 .bool),(.mp 77 (.int .i64)),(.st 11)],0,170,[]⟩,u9 (z3q n)⟩),(3,⟨⟨[(77,dI),(9,(.ptr 0 0)),(3,(.map 1)),(75,dA),(4,(.map 2)),(55,dL 10),(1,(.ptr 3 0)),(5,dB),(56,dI),(57,dI),(76,dI)],[(.st 10),(.mp 76 .bool),(.mp 77 (.int .i64)),(.st 11)],0,170,[]⟩,λx=>z41 n x.1 x.2.1 x.2.2.1 x.2.2.2.1 x.2.2.2.2.1 x.2.2.2.2.2.1 x.2.2.2.2.2.2.1 x.2.2.2.2.2.2.2.1 x.2.2.2.2.2.2.2.2.1 x.2.2.2.2.2.2.2.2.2.1 x.2.2.2.2.2.2.2.2.2.2.1 x.2.2.2.2.2.2.2.2.2.2.2.1 x.2.2.2.2.2.2.2.2.2.2.2.2.1⟩),(4,⟨⟨[(9,(.ptr 0 0)),(3,(.map 1)),(75,dA),(4,(.map 2)),(55,dL 10),(1,(.ptr 3 0)),(5,dB),(56,dI),(57,dI),(76,dI),(77,dI),(92,dB)],[(.st 10),(.mp 76 .bool),(.mp 77 (.int .i64)),(.st 11)],0,170,[]⟩,λx=>z4j n x.1 x.2.1 x.2.2.1 x.2.2.2.1 x.2.2.2.2.1 x.2.2.2.2.2.1 x.2.2.2.2.2.2.1 x.2.2.2.2.2.2.2.1 x.2.2.2.2.2.2.2.2.1 x.2.2.2.2.2.2.2.2.2.1 x.2.2.2.2.2.2.2.2.2.2.1 x.2.2.2.2.2.2.2.2.2.2.2.1 x.2.2.2.2.2.2.2.2.2.2.2.2.1 x.2.2.2.2.2.2.2.2.2.2.2.2.2.1⟩),(5,⟨⟨[(1,(.ptr 0 0)),(14,dB),(4,(.map 1)),(98,dI),(5,dB),(3,(.mc .bool)),(96,dL 10),(97,dI)],[(.st 11),(.mp 77 (.int .i64))],0,170,[]⟩,u10 (z1w n)⟩),(6,⟨⟨[(17,(.ptr 0 0)),(105,(.ptr 1 0)),(1,(.ptr 2 0)),(14,dB),(4,(.map 3)),(3,(.mc .bool)),(96,dL 10),(97,dI),(98,dI),(16,(.ptr 4 0)),(5,dB)],[(.cells [(.map 5)]),(.mit .bool),(.st 11),(.mp 77 (.int .i64)),(.st 10),(.mp 76 .bool)],0,170,[]⟩,λx=>z4e n x.1 x.2.1 x.2.2.1 x.2.2.2.1 x.2.2.2.2.1 x.2.2.2.2.2.1 x.2.2.2.2.2.2.1 x.2.2.2.2.2.2.2.1 x.2.2.2.2.2.2.2.2.1 x.2.2.2.2.2.2.2.2.2.1 x.2.2.2.2.2.2.2.2.2.2.1 x.2.2.2.2.2.2.2.2.2.2.2.1 x.2.2.2.2.2.2.2.2.2.2.2.2.1 x.2.2.2.2.2.2.2.2.2.2.2.2.2.1 x.2.2.2.2.2.2.2.2.2.2.2.2.2.2.1⟩),(7,⟨⟨[(115,dI),(17,(.ptr 0 0)),(113,dA),(1,(.ptr 1 0)),(14,dB),(4,(.map 2)),(3,(.mc .bool)),(96,dL 10),(97,dI),(98,dI),(16,(.ptr 3 0)),(5,dB),(114,dI)],[(.cells [(.map 4)]),(.st 11),(.mp 77 (.int .i64)),(.st 10),(.mp 76 .bool)],0,170,[]⟩,λx=>z1m n x.1 x.2.1 x.2.2.1 x.2.2.2.1 x.2.2.2.2.1 x.2.2.2.2.2.1 x.2.2.2.2.2.2.1 x.2.2.2.2.2.2.2.1 x.2.2.2.2.2.2.2.2.1 x.2.2.2.2.2.2.2.2.2.1 x.2.2.2.2.2.2.2.2.2.2.1 x.2.2.2.2.2.2.2.2.2.2.2.1 x.2.2.2.2.2.2.2.2.2.2.2.2.1 x.2.2.2.2.2.2.2.2.2.2.2.2.2.1 x.2.2.2.2.2.2.2.2.2.2.2.2.2.2.1 x.2.2.2.2.2.2.2.2.2.2.2.2.2.2.2.1⟩),(8,⟨⟨[(1,(.ptr 0 0)),(14,dB),(5,dB),(4,(.map 1)),(3,(.mc .bool)),(96,dL 10),(97,dI),(98,dI),(16,(.ptr 2 0))],[(.st 11),(.mp 77 (.int .i64)),(.st 10)],0,170,[]⟩,u11 (z3r n)⟩),(9,⟨⟨[(132,dI),(1,(.ptr 0 0)),(14,dB),(5,dB),(4,(.map 1)),(130,dL 12),(3,(.mc .bool)),(96,dL 10),(97,dI),(98,dI),(131,dI)],[(.st 11),(.mp 77 (.int .i64))],0,170,[]⟩,λx=>z4a n x.1 x.2.1 x.2.2.1 x.2.2.2.1 x.2.2.2.2.1 x.2.2.2.2.2.1 x.2.2.2.2.2.2.1 x.2.2.2.2.2.2.2.1 x.2.2.2.2.2.2.2.2.1 x.2.2.2.2.2.2.2.2.2.1 x.2.2.2.2.2.2.2.2.2.2.1 x.2.2.2.2.2.2.2.2.2.2.2.1 x.2.2.2.2.2.2.2.2.2.2.2.2.1⟩),(10,⟨⟨[(1,(.ptr 0 0)),(5,dB),(4,(.map 1)),(130,dL 12),(3,(.mc .bool)),(96,dL 10),(97,dI),(98,dI),(131,dI),(132,dI),(23,dI),(22,(.ptr 2 0)),(24,dB),(14,dB)],[(.st 11),(.mp 77 (.int .i64)),(.st 12)],0,170,[]⟩,λx=>z2m n x.1 x.2.1 x.2.2.1 x.2.2.2.1 x.2.2.2.2.1 x.2.2.2.2.2.1 x.2.2.2.2.2.2.1 x.2.2.2.2.2.2.2.1 x.2.2.2.2.2.2.2.2.1 x.2.2.2.2.2.2.2.2.2.1 x.2.2.2.2.2.2.2.2.2.2.1 x.2.2.2.2.2.2.2.2.2.2.2.1 x.2.2.2.2.2.2.2.2.2.2.2.2.1 x.2.2.2.2.2.2.2.2.2.2.2.2.2.1 x.2.2.2.2.2.2.2.2.2.2.2.2.2.2.1 x.2.2.2.2.2.2.2.2.2.2.2.2.2.2.2.1⟩),(11,⟨⟨[(1,(.ptr 0 0)),(14,dB),(5,dB),(4,(.map 1)),(130,dL 12),(3,(.mc .bool)),(96,dL 10),(97,dI),(98,dI),(131,dI),(132,dI)],[(.st 11),(.mp 77 (.int .i64))],0,170,[]⟩,λx=>z11 n x.1 x.2.1 x.2.2.1 x.2.2.2.1 x.2.2.2.2.1 x.2.2.2.2.2.1 x.2.2.2.2.2.2.1 x.2.2.2.2.2.2.2.1 x.2.2.2.2.2.2.2.2.1 x.2.2.2.2.2.2.2.2.2.1 x.2.2.2.2.2.2.2.2.2.2.1 x.2.2.2.2.2.2.2.2.2.2.2.1 x.2.2.2.2.2.2.2.2.2.2.2.2.1⟩)]) (anb [(26,0),(39,1),(53,2),(79,3),(92,4),(105,5),(122,6),(137,7),(152,8),(155,9),(170,10),(171,11)] f10)
theorem zma:FOk prog ziz:=okF (bs:=[zsf,z6h,y3a,zvy,zzq,zyf,zja]) ⟨zxq,zdf,yf8,y7b,z1u,ybr,zmj,trivial⟩ func10 ntmps10 call10
 (λn=>λ_=>tr (z7f.eq_2 _ n))
 (λn=>⟨λ_=>tr (z4d.eq_2 _ _ _ _ _ _ _ _ _ n),
  λ_=>tr (z3s.eq_2 _ _ _ _ _ _ _ _ _ _ n),
  λ_=>tr (z3q.eq_2 _ _ _ _ _ _ _ _ _ n),
  λ_=>tr (z41.eq_2 _ _ _ _ _ _ _ _ _ _ _ _ _ n),
  λ_=>tr (z4j.eq_2 _ _ _ _ _ _ _ _ _ _ _ _ _ _ n),
  λ_=>tr (z1w.eq_2 _ _ _ _ _ _ _ _ _ _ n),
  λ_=>tr (z4e.eq_2 _ _ _ _ _ _ _ _ _ _ _ _ _ _ _ n),
  λ_=>tr (z1m.eq_2 _ _ _ _ _ _ _ _ _ _ _ _ _ _ _ _ n),
  λ_=>tr (z3r.eq_2 _ _ _ _ _ _ _ _ _ _ _ n),
  λ_=>tr (z4a.eq_2 _ _ _ _ _ _ _ _ _ _ _ _ _ n),
  λ_=>tr (z2m.eq_2 _ _ _ _ _ _ _ _ _ _ _ _ _ _ _ _ n),
  λ_=>tr (z11.eq_2 _ _ _ _ _ _ _ _ _ _ _ _ _ n),
  trivial⟩)
def z03:Nat->B8->B8->Ot Bool
 |0,_,_=>none
 |n+1,a,b=>
  pIf (decide ((a.length:Int)>=(b.length:Int)))
   ((sub a (IntKind.i64.wrap ((a.length:Int)-(b.length:Int))) (a.length:Int)).bind λx0=>
   some (x0==b))
   (some false)
def zi1:LSh:=⟨[(4,dB)],[],0,21,[]⟩
noncomputable def z4o:FI dat:=FI.of dat 97 21 0 [dS,dS] [] [dB] [] true zi1 (R:=Bool) Prod.fst (·,()) (λn=>u2 (z03 n))
 (λn=>[]) (anb [] f97)
theorem z9g:FOk prog z4o:=okF (bs:=[]) trivial func97 ntmps97 call97
 (λn=>λ_=>tr (z03.eq_2 _ _ n))
 (λn=>trivial)
def ze9:Nat->B8->B8->Ot Bool
 |0,_,_=>none
 |n+1,a,b=>
  (z03 n a b).bind λy0=>
  some y0
def zxb:LSh:=⟨[(4,dB)],[],0,8,[]⟩
noncomputable def zfe:FI dat:=FI.of dat 41 8 0 [dS,dS] [] [dB] [] true zxb (R:=Bool) Prod.fst (·,()) (λn=>u2 (ze9 n))
 (λn=>[]) (anb [] f41)
theorem ztx:FOk prog zfe:=okF (bs:=[z4o]) ⟨z9g,trivial⟩ func41 ntmps41 call41
 (λ_ _=>tr (ze9.eq_2 ..))
 (λn=>trivial)
mutual
def zj0:Nat->zz4->Ot (B8×Int)
 |0,_=>none
 |n+1,a=>
  (z6s n a).bind λy0=>
  pIf (y0 != 0)
   (some ([],y0))
   ((z6x n a.num 10).bind λy1=>
   pIf (a.den != 1)
    ((z6x n a.den 10).bind λy2=>
    (cat [47] y2).bind λx3=>
    (cat y1 x3).bind λx4=>
    zeo n x4)
    (zeo n y1))
def zeo:Nat->B8->Ot (B8×Int)
 |0,_=>none
 |n+1,a=>
  some (a,0)
end
def yhm:LSh:=⟨[(2,dS),(3,dI)],[],0,24,[]⟩
noncomputable def zkz:FI dat:=FI.of dat 254 24 0 [dT 3] [] [dS,dI] [] true yhm (R:=B8×Int) (λx=>(x.1,x.2.1)) (λr=>(r.1,r.2,())) (λn=>u1 (zj0 n))
 (λn=>[(0,⟨⟨[(5,dS)],[],0,24,[]⟩,u1 (zeo n)⟩)]) (anb [(20,0)] f254)
theorem zyj:FOk prog zkz:=okF (bs:=[zfx,zkn]) ⟨zmw,zuh,trivial⟩ func254 ntmps254 call254
 (λ_ _=>tr (zj0.eq_2 ..))
 (λn=>⟨λ_=>tr (zeo.eq_2 _ n),
  trivial⟩)
def kz4:Nat->B8->(List Int)->Ot (Int×(List Int))
 |0,_,_=>none
 |n+1,a,b=>
  (z2e n b).bind λy0=>
  (ext y0 (yis a)).bind λx1=>
  some ((a.length:Int),x1)
def zjt:LSh:=⟨[(4,dI),(5,.nili)],[(.bld 111 1),(.acc 5 (.int .u8) true)],1,19,[]⟩
noncomputable def yzo:FI dat:=FI.of dat 59 19 1 [(.bp 0),dS] [(.bld 111 1),(.acc 5 (.int .u8) true)] [dI,.nili] [(.bld 111 1),(.acc 5 (.int .u8) true)] false zjt (R:=Int×(List Int)) (λx=>(x.1,x.2.1)) (λr=>(r.1,r.2,())) (λn=>u2 (kz4 n))
 (λn=>[]) (anb [] f59)
theorem z67:FOk prog yzo:=okF (bs:=[z3a]) ⟨z7y,trivial⟩ func59 ntmps59 call59
 (λn x=>tr (kz4.eq_2 x.1 x.2.1 n))
 (λn=>trivial)
def kzh:Nat->Int->(List Int)->Ot (List Int)
 |0,_,_=>none
 |n+1,a,b=>
  (z2e n b).bind λy0=>
  (ext y0 [a]).bind λx1=>
  some x1
def zl1:LSh:=⟨[(4,.nili)],[(.bld 111 1),(.acc 5 (.int .u8) true)],1,17,[]⟩
noncomputable def z38:FI dat:=FI.of dat 255 17 1 [(.bp 0),dU] [(.bld 111 1),(.acc 5 (.int .u8) true)] [.nili] [(.bld 111 1),(.acc 5 (.int .u8) true)] false zl1 (R:=List Int) Prod.fst (·,()) (λn=>u2 (kzh n))
 (λn=>[]) (anb [] f255)
theorem zco:FOk prog z38:=okF (bs:=[z3a]) ⟨z7y,trivial⟩ func255 ntmps255 call255
 (λn x=>tr (kzh.eq_2 x.1 x.2.1 n))
 (λn=>trivial)
mutual
def z2o:Nat->Int->(List Int)->Ot (List Int)
 |0,_,_=>none
 |n+1,a,b=>
  pIf (decide ((IntKind.u32.wrap a)<=2047))
   ((shr .i32 a 6).bind λx0=>
   (ext b [(bits BinOp.or .u8 192 (IntKind.u8.wrap x0)),(bits BinOp.or .u8 128 (bits BinOp.and .u8 (IntKind.u8.wrap a) 63))]).bind λx1=>
   some x1)
   (pIf (decide ((IntKind.u32.wrap a)<55296))
     (kzl n a (IntKind.u32.wrap a) true b)
     (pIf (decide (57343<(IntKind.u32.wrap a)))
       (kzl n a (IntKind.u32.wrap a) (decide ((IntKind.u32.wrap a)<=65535)) b)
       (kzl n a (IntKind.u32.wrap a) false b)))
def kzl:Nat->Int->Int->Bool->(List Int)->Ot (List Int)
 |0,_,_,_,_=>none
 |n+1,a,b,c,d=>
  pIf c
   ((shr .i32 a 12).bind λx2=>
   (shr .i32 a 6).bind λx3=>
   (ext d [(bits BinOp.or .u8 224 (IntKind.u8.wrap x2)),(bits BinOp.or .u8 128 (bits BinOp.and .u8 (IntKind.u8.wrap x3) 63)),(bits BinOp.or .u8 128 (bits BinOp.and .u8 (IntKind.u8.wrap a) 63))]).bind λx4=>
   some x4)
   (pIf (decide (b>65535))
     (zzt n a (decide (b<=1114111)) d)
     (zzt n a false d))
def zzt:Nat->Int->Bool->(List Int)->Ot (List Int)
 |0,_,_,_=>none
 |n+1,a,b,c=>
  pIf b
   ((shr .i32 a 18).bind λx5=>
   (shr .i32 a 12).bind λx6=>
   (shr .i32 a 6).bind λx7=>
   (ext c [(bits BinOp.or .u8 240 (IntKind.u8.wrap x5)),(bits BinOp.or .u8 128 (bits BinOp.and .u8 (IntKind.u8.wrap x6) 63)),(bits BinOp.or .u8 128 (bits BinOp.and .u8 (IntKind.u8.wrap x7) 63)),(bits BinOp.or .u8 128 (bits BinOp.and .u8 (IntKind.u8.wrap a) 63))]).bind λx8=>
   some x8)
   ((ext c [239,191,189]).bind λx9=>
   some x9)
end
def zgt:LSh:=⟨[(4,(.own 0))],[(.acc 5 (.int .u8) true)],0,78,[]⟩
noncomputable def z9k:FI dat:=FI.of dat 289 78 0 [(.own 0),(.d (.int .i32))] [(.acc 5 (.int .u8) true)] [(.own 0)] [(.acc 5 (.int .u8) true)] false zgt (R:=List Int) Prod.fst (·,()) (λn=>u2 (z2o n))
 (λn=>[(0,⟨⟨[(1,(.d (.int .i32))),(0,(.own 0)),(5,(.d (.int .u32))),(25,dB)],[(.acc 5 (.int .u8) true)],0,78,[]⟩,u4 (kzl n)⟩),(1,⟨⟨[(1,(.d (.int .i32))),(0,(.own 0)),(50,dB)],[(.acc 5 (.int .u8) true)],0,78,[]⟩,u3 (zzt n)⟩)]) (anb [(17,0),(23,1)] f289)
theorem zgh:FOk prog z9k:=okF (bs:=[]) trivial func289 ntmps289 call289
 (λ_ _=>tr (z2o.eq_2 ..))
 (λn=>⟨λ_=>tr (kzl.eq_2 ..),
  λ_=>tr (zzt.eq_2 _ _ _ n),
  trivial⟩)
def z90:Nat->Int->(List Int)->Ot (List Int)
 |0,_,_=>none
 |n+1,a,b=>
  pIf (decide ((IntKind.u32.wrap a)<=127))
   ((ext b [(IntKind.u8.wrap a)]).bind λx0=>
   some x0)
   ((z2o n a b).bind λy1=>
   some y1)
def zna:LSh:=⟨[(4,(.own 0))],[(.acc 5 (.int .u8) true)],0,16,[]⟩
noncomputable def zfa:FI dat:=FI.of dat 278 16 0 [(.own 0),(.d (.int .i32))] [(.acc 5 (.int .u8) true)] [(.own 0)] [(.acc 5 (.int .u8) true)] false zna (R:=List Int) Prod.fst (·,()) (λn=>u2 (z90 n))
 (λn=>[]) (anb [] f278)
theorem zlp:FOk prog zfa:=okF (bs:=[z9k]) ⟨zgh,trivial⟩ func278 ntmps278 call278
 (λ_ _=>tr (z90.eq_2 ..))
 (λn=>trivial)
def z84:Nat->Int->(List Int)->Ot (Int×(List Int))
 |0,_,_=>none
 |n+1,a,b=>
  (z2e n b).bind λy0=>
  (z90 n a y0).bind λy1=>
  some ((IntKind.i64.wrap ((y1.length:Int)-(y0.length:Int))),y1)
def zl4:LSh:=⟨[(4,dI),(5,.nili)],[(.bld 111 1),(.acc 5 (.int .u8) true)],1,30,[]⟩
noncomputable def z8f:FI dat:=FI.of dat 256 30 1 [(.bp 0),(.d (.int .i32))] [(.bld 111 1),(.acc 5 (.int .u8) true)] [dI,.nili] [(.bld 111 1),(.acc 5 (.int .u8) true)] false zl4 (R:=Int×(List Int)) (λx=>(x.1,x.2.1)) (λr=>(r.1,r.2,())) (λn=>u2 (z84 n))
 (λn=>[]) (anb [] f256)
theorem zk9:FOk prog z8f:=okF (bs:=[z3a,zfa]) ⟨z7y,zlp,trivial⟩ func256 ntmps256 call256
 (λ_ _=>tr (z84.eq_2 ..))
 (λn=>trivial)
mutual
def zh7:Nat->yz0->(List Int)->Ot (List Int)
 |0,_,_=>none
 |n+1,a,b=>
  pIf (a.kind==1)
   ((zj0 n a.num).bind λy0=>
   (kz4 n y0.1 b).bind λy1=>
   some y1.2)
   (pIf (a.kind==2)
     (pIf a.truth
       ((kz4 n [116,114,117,101] b).bind λy2=>
       some y2.2)
       ((kz4 n [102,97,108,115,101] b).bind λy3=>
       some y3.2))
     (pIf (a.kind==3)
       ((kzh n 34 b).bind λy4=>
       zdj n y4 a.str 0)
       (pIf (a.kind==4)
         ((kzh n 91 b).bind λy5=>
         zdk n 0 a.list (a.list.length:Int) y5)
         (some b))))
def zdj:Nat->(List Int)->B8->Nat->Ot (List Int)
 |0,_,_,_=>none
 |n+1,a,b,c=>
  pIf (decide (c<b.length))
   (pIf (((zcn b c).1:Int)==34)
     (zdi n ((zcn b c).1:Int) a b (c+(zcn b c).2))
     (pIf (((zcn b c).1:Int)==92)
       (zdi n ((zcn b c).1:Int) a b (c+(zcn b c).2))
       (zdn n ((zcn b c).1:Int) a b (c+(zcn b c).2))))
   ((kzh n 34 a).bind λy6=>
   some y6)
def zdi:Nat->Int->(List Int)->B8->Nat->Ot (List Int)
 |0,_,_,_,_=>none
 |n+1,a,b,c,d=>
  (kzh n 92 b).bind λy10=>
  zdn n a y10 c d
def zdn:Nat->Int->(List Int)->B8->Nat->Ot (List Int)
 |0,_,_,_,_=>none
 |n+1,a,b,c,d=>
  (z84 n a b).bind λy11=>
  zdj n y11.2 c d
def zdk:Nat->Int->z1h->Int->(List Int)->Ot (List Int)
 |0,_,_,_,_=>none
 |n+1,a,b,c,d=>
  pIf (decide (a<c))
   ((ix b a).bind λx7=>
   pIf (decide (a>0))
    ((kz4 n [44,32] d).bind λy8=>
    zdp n b c a y8.2 x7.re)
    (zdp n b c a d x7.re))
   ((kzh n 93 d).bind λy9=>
   some y9)
def zdp:Nat->z1h->Int->Int->(List Int)->yz0->Ot (List Int)
 |0,_,_,_,_,_=>none
 |n+1,a,b,c,d,e=>
  (zh7 n e.re d).bind λy12=>
  zdk n (IntKind.i64.wrap (c+1)) a b y12
end
def ydk:LSh:=⟨[],[(.bld 111 1),(.acc 5 (.int .u8) true)],1,75,[]⟩
noncomputable def zfr:FI dat:=FI.of dat 224 75 1 [(.bp 0),dT 4] [(.bld 111 1),(.acc 5 (.int .u8) true)] [] [(.bld 111 1),(.acc 5 (.int .u8) true)] false ydk (R:=List Int) Prod.fst (·,()) (λn=>u2 (zh7 n))
 (λn=>[(0,⟨⟨[(0,(.bp 0)),(37,(.ptr 2 0))],[(.bld 111 1),(.acc 5 (.int .u8) true),.siter],1,75,[]⟩,u3 (zdj n)⟩),(1,⟨⟨[(0,(.bp 0)),(37,(.ptr 2 0)),(7,(.d (.int .i32)))],[(.bld 111 1),(.acc 5 (.int .u8) true),.siter],1,75,[]⟩,u4 (zdi n)⟩),(2,⟨⟨[(0,(.bp 0)),(37,(.ptr 2 0)),(7,(.d (.int .i32)))],[(.bld 111 1),(.acc 5 (.int .u8) true),.siter],1,75,[]⟩,u4 (zdn n)⟩),(3,⟨⟨[(60,dI),(0,(.bp 0)),(58,dL 4),(59,dI)],[(.bld 111 1),(.acc 5 (.int .u8) true)],1,75,[]⟩,u4 (zdk n)⟩),(4,⟨⟨[(0,(.bp 0)),(58,dL 4),(59,dI),(60,dI),(9,(.ptr 2 0))],[(.bld 111 1),(.acc 5 (.int .u8) true),(.st 4)],1,75,[]⟩,u5 (zdp n)⟩)]) (anb [(28,0),(59,1),(60,2),(73,3),(90,4)] f224)
noncomputable def yeb:List (FI dat):=[zfr]++[yzo,z38,z8f,zkz]
theorem ycp:(zfr).Good prog dat (tb yeb):=FI.z1c (hD:=kza _) func224 ntmps224 call224 (by kernel_rfl) (Qac (by kernel_rfl)) (by kernel_rfl) (λn=>by kernel_rfl) (λx=>by kernel_rfl) (λ_=>rfl) ⟨λ_=>rfl,λ_=>rfl,λ_=>rfl,λ_=>rfl,λ_=>rfl,trivial⟩
 (λ_ _=>tr (zh7.eq_2 ..))
 (λn=>⟨λ_=>tr (zdj.eq_2 ..),
  λ_=>tr (zdi.eq_2 ..),
  λ_=>tr (zdn.eq_2 ..),
  λ_=>tr (zdk.eq_2 ..),
  λ_=>tr (zdp.eq_2 ..),
  trivial⟩)
 (λx=>.inr (by kernel_rfl))
theorem yej:OkL prog [zfr]:=z7m (kza _) (bs:=[yzo,z38,z8f,zkz]) ⟨z67,zco,zk9,zyj,trivial⟩ ⟨ycp,trivial⟩
theorem y9y:FOk prog zfr:=yej.1
def z3z:Nat->(List Int)->Ot (Int×(List Int))
 |0,_=>none
 |n+1,a=>
  some ((a.length:Int),a)
def ztj:LSh:=⟨[(2,dI)],[(.bld 111 1),(.acc 5 (.int .u8) true)],1,8,[]⟩
noncomputable def z9f:FI dat:=FI.of dat 65 8 1 [(.bp 0)] [(.bld 111 1),(.acc 5 (.int .u8) true)] [dI] [(.bld 111 1),(.acc 5 (.int .u8) true)] false ztj (R:=Int×(List Int)) (λx=>(x.1,x.2.1)) (λr=>(r.1,r.2,())) (λn=>u1 (z3z n))
 (λn=>[]) (anb [] f65)
theorem zc8:FOk prog z9f:=okF (bs:=[]) trivial func65 ntmps65 call65
 (λn=>λ_=>tr (z3z.eq_2 _ n))
 (λn=>trivial)
def zpk:Nat->yz0->Ot (B8×Int)
 |0,_=>none
 |n+1,a=>
  (z79 n a.re).bind λy0=>
  pIf (y0 != 0)
   (some ([],y0))
   ((zh7 n a.re []).bind λy1=>
   (z3z n y1).bind λy2=>
   pIf (decide (y2.1>4000))
    (some ([],4))
    ((z1i n y2.2).bind λy3=>
    some (y3,0)))
def yi6:LSh:=⟨[(2,dS),(3,dI)],[],0,16,[]⟩
noncomputable def zrs:FI dat:=FI.of dat 181 16 0 [dT 4] [] [dS,dI] [] true yi6 (R:=B8×Int) (λx=>(x.1,x.2.1)) (λr=>(r.1,r.2,())) (λn=>u1 (zpk n))
 (λn=>[]) (anb [] f181)
theorem ycr:FOk prog zrs:=okF (bs:=[zfr,z9f,z2a,zg0]) ⟨y9y,zc8,z56,zm9,trivial⟩ func181 ntmps181 call181
 (λ_ _=>tr (zpk.eq_2 ..))
 (λn=>trivial)
mutual
def zhb:Nat->Int->Ot B8
 |0,_=>none
 |n+1,a=>
  pIf (decide (a<3))
   (zg7 n a true)
   (zg7 n a (decide (a>10)))
def zg7:Nat->Int->Bool->Ot B8
 |0,_,_=>none
 |n+1,a,b=>
  pIf b
   (some [])
   ((kzx n [43,32,45,32,42,32,47,32,60,32,61,32,97,110,100,32,111,114]).bind λy0=>
   (ix y0 (IntKind.u8.wrap (a-3))).bind λx1=>
   some x1)
end
def ymd:LSh:=⟨[(2,dS)],[],0,14,[]⟩
noncomputable def zk1:FI dat:=FI.of dat 182 14 0 [dU] [] [dS] [] true ymd (R:=B8) Prod.fst (·,()) (λn=>u1 (zhb n))
 (λn=>[(0,⟨⟨[(0,dU),(8,dB)],[],0,14,[]⟩,u2 (zg7 n)⟩)]) (anb [(5,0)] f182)
theorem y27:FOk prog zk1:=okF (bs:=[z30]) ⟨za9,trivial⟩ func182 ntmps182 call182
 (λ_ _=>tr (zhb.eq_2 ..))
 (λn=>⟨λ_=>tr (zg7.eq_2 ..),
  trivial⟩)
mutual
def zjb:Nat->yz1->(List Int)->Ot (List Int)
 |0,_,_=>none
 |n+1,a,b=>
  pIf (a.op==1)
   ((zpk n a.value.re).bind λy0=>
   pIf (y0.2==0)
    ((kz4 n y0.1 b).bind λy1=>
    some y1.2)
    (some b))
   (pIf (a.op==2)
     ((kz4 n a.name b).bind λy2=>
     some y2.2)
     ((zhb n a.op).bind λy3=>
     pIf (!(y3==[]))
      ((zhb n a.op).bind λy4=>
      (cat [32] y4).bind λx5=>
      (cat x5 [32]).bind λx6=>
      zb3 n x6 [41] [40] b a.re)
      (pIf (a.op != 18)
        ((kzx n [110,111,116,32,105,102,32,109,105,110,32,109,97,120,32,102,108,111,111,114,32,108,101,110,32,97,116]).bind λy7=>
        (ix y7 (IntKind.u8.wrap (a.op-11))).bind λx8=>
        (cat x8 [40]).bind λx9=>
        zb3 n [44,32] [41] x9 b a.re)
        (zb3 n [44,32] [93] [91] b a.re))))
def zb3:Nat->B8->B8->B8->(List Int)->yz1->Ot (List Int)
 |0,_,_,_,_,_=>none
 |n+1,a,b,c,d,e=>
  (kz4 n c d).bind λy10=>
  zf6 n 0 a e.args b (e.args.length:Int) y10.2
def zf6:Nat->Int->B8->zz8->B8->Int->(List Int)->Ot (List Int)
 |0,_,_,_,_,_,_=>none
 |n+1,a,b,c,d,e,f=>
  pIf (decide (a<e))
   ((ix c a).bind λx11=>
   pIf (decide (a>0))
    ((kz4 n b f).bind λy12=>
    zee n b c d e a y12.2 x11.re)
    (zee n b c d e a f x11.re))
   ((kz4 n d f).bind λy13=>
   some y13.2)
def zee:Nat->B8->zz8->B8->Int->Int->(List Int)->yz1->Ot (List Int)
 |0,_,_,_,_,_,_,_=>none
 |n+1,a,b,c,d,e,f,g=>
  (zjb n g.re f).bind λy14=>
  zf6 n (IntKind.i64.wrap (e+1)) a b c d y14
end
def yk3:LSh:=⟨[],[(.bld 111 1),(.acc 5 (.int .u8) true)],1,78,[]⟩
noncomputable def zh4:FI dat:=FI.of dat 124 78 1 [(.bp 0),dT 5] [(.bld 111 1),(.acc 5 (.int .u8) true)] [] [(.bld 111 1),(.acc 5 (.int .u8) true)] false yk3 (R:=List Int) Prod.fst (·,()) (λn=>u2 (zjb n))
 (λn=>[(0,⟨⟨[(0,(.bp 0)),(5,dS),(6,dS),(3,(.ptr 2 0)),(4,dS)],[(.bld 111 1),(.acc 5 (.int .u8) true),(.st 5)],1,78,[]⟩,u5 (zb3 n)⟩),(1,⟨⟨[(61,dI),(0,(.bp 0)),(5,dS),(59,dL 5),(6,dS),(60,dI)],[(.bld 111 1),(.acc 5 (.int .u8) true)],1,78,[]⟩,u6 (zf6 n)⟩),(2,⟨⟨[(0,(.bp 0)),(5,dS),(59,dL 5),(6,dS),(60,dI),(61,dI),(10,(.ptr 2 0))],[(.bld 111 1),(.acc 5 (.int .u8) true),(.st 5)],1,78,[]⟩,u7 (zee n)⟩)]) (anb [(33,0),(39,1),(56,2)] f124)
noncomputable def yh6:List (FI dat):=[zh4]++[yzo,zrs,zk1,z30]
theorem yhc:(zh4).Good prog dat (tb yh6):=FI.z1c (hD:=kza _) func124 ntmps124 call124 (by kernel_rfl) (Qac (by kernel_rfl)) (by kernel_rfl) (λn=>by kernel_rfl) (λx=>by kernel_rfl) (λ_=>rfl) ⟨λ_=>rfl,λ_=>rfl,λ_=>rfl,trivial⟩
 (λ_ _=>tr (zjb.eq_2 ..))
 (λn=>⟨λ_=>tr (zb3.eq_2 ..),
  λ_=>tr (zf6.eq_2 ..),
  λ_=>tr (zee.eq_2 ..),
  trivial⟩)
 (λx=>.inr (by kernel_rfl))
theorem yje:OkL prog [zh4]:=z7m (kza _) (bs:=[yzo,zrs,zk1,z30]) ⟨z67,ycr,y27,za9,trivial⟩ ⟨yhc,trivial⟩
theorem ye9:FOk prog zh4:=yje.1
def zsm:Nat->yz1->Ot (B8×Int)
 |0,_=>none
 |n+1,a=>
  (z05 n a.re).bind λy0=>
  pIf (y0 != 0)
   (some ([],y0))
   ((zjb n a.re []).bind λy1=>
   (z3z n y1).bind λy2=>
   pIf (decide (y2.1>4000))
    (some ([],4))
    ((z1i n y2.2).bind λy3=>
    some (y3,0)))
def yn4:LSh:=⟨[(2,dS),(3,dI)],[],0,16,[]⟩
noncomputable def y61:FI dat:=FI.of dat 62 16 0 [dT 5] [] [dS,dI] [] true yn4 (R:=B8×Int) (λx=>(x.1,x.2.1)) (λr=>(r.1,r.2,())) (λn=>u1 (zsm n))
 (λn=>[]) (anb [] f62)
theorem yj1:FOk prog y61:=okF (bs:=[zh4,z9f,z2a,zf3]) ⟨ye9,zc8,z56,zfo,trivial⟩ func62 ntmps62 call62
 (λ_ _=>tr (zsm.eq_2 ..))
 (λn=>trivial)
mutual
def z4u:Nat->yz1->Bool->Ot (B8×Bool)
 |0,_,_=>none
 |n+1,a,b=>
  (zsm n a.re).bind λy0=>
  pIf b
   (zcd n y0.1 true)
   (zcd n y0.1 (y0.2 != 0))
def zcd:Nat->B8->Bool->Ot (B8×Bool)
 |0,_,_=>none
 |n+1,a,b=>
  some (a,b)
end
def y9b:LSh:=⟨[(3,dS)],[(.cells [dB])],1,17,[]⟩
noncomputable def zlw:FI dat:=FI.of dat 61 17 1 [dT 5,(.ptr 0 0)] [(.cells [dB])] [dS] [(.cells [dB])] false y9b (R:=B8×Bool) (λx=>(x.1,x.2.1)) (λr=>(r.1,r.2,())) (λn=>u2 (z4u n))
 (λn=>[(0,⟨⟨[(4,dS)],[(.cells [dB])],1,17,[]⟩,u2 (zcd n)⟩)]) (anb [(6,0)] f61)
theorem ztb:FOk prog zlw:=okF (bs:=[y61]) ⟨yj1,trivial⟩ func61 ntmps61 call61
 (λ_ _=>tr (z4u.eq_2 ..))
 (λn=>⟨λ_=>tr (zcd.eq_2 _ _ n),
  trivial⟩)
def z18:Nat->(List B8)->(List Int)->Ot (List Int)
 |0,_,_=>none
 |n+1,a,b=>
  (zga n a [32]).bind λy0=>
  (cat y0 [10]).bind λx1=>
  (kz4 n x1 b).bind λy2=>
  some y2.2
def y8h:LSh:=⟨[],[(.bld 111 1),(.acc 5 (.int .u8) true)],1,7,[]⟩
noncomputable def zlm:FI dat:=FI.of dat 58 7 1 [dA,(.bp 0)] [(.bld 111 1),(.acc 5 (.int .u8) true)] [] [(.bld 111 1),(.acc 5 (.int .u8) true)] false y8h (R:=List Int) Prod.fst (·,()) (λn=>u2 (z18 n))
 (λn=>[]) (anb [] f58)
theorem zta:FOk prog zlm:=okF (bs:=[yzo,zu7]) ⟨z67,y7n,trivial⟩ func58 ntmps58 call58
 (λ_ _=>tr (z18.eq_2 ..))
 (λn=>trivial)
mutual
def ze4:Nat->kz3->Bool->(List Int)->Ot (Bool×(List Int))
 |0,_,_,_=>none
 |n+1,a,b,c=>
  (kzx n [99,97,108,108,32,109,111,118,101,32,115,105,122,101,32,116,117,114,110,32,115,112,108,105,116,32,108,101,97,102]).bind λy0=>
  (ix y0 (IntKind.u8.wrap (a.kind-1))).bind λx1=>
  (sub [120,121,122] a.axis (IntKind.u8.wrap (a.axis+1))).bind λx2=>
  pIf (a.kind==6)
   ((ix a.args 0).bind λx3=>
   (z4u n x3.re b).bind λy4=>
   (z18 n [x1,y4.1] c).bind λy5=>
   some (y4.2,y5))
   (pIf (a.kind==5)
     ((z18 n [x1,x2] c).bind λy6=>
     z7n n 0 a.items (a.items.length:Int) b y6)
     (pIf (a.kind==4)
       ((z3e n a.args).bind λy7=>
       (z4u n y7.re b).bind λy8=>
       (z18 n [x1,x2,a.name,y8.1] c).bind λy9=>
       some (y8.2,y9))
       ((z3e n a.args).bind λy10=>
       (z4u n y10.re b).bind λy11=>
       (z18 n [x1,a.name,y11.1] c).bind λy12=>
       some (y11.2,y12))))
def z7n:Nat->Int->zwe->Int->Bool->(List Int)->Ot (Bool×(List Int))
 |0,_,_,_,_,_=>none
 |n+1,a,b,c,d,e=>
  pIf (decide (a<c))
   ((ix b a).bind λx13=>
   (kzx n [102,105,120,101,100,32,115,104,97,114,101,32,114,101,115,116]).bind λy14=>
   (ix y14 (IntKind.u8.wrap (x13.kind-1))).bind λx15=>
   (z3e n x13.args).bind λy16=>
   (z4u n y16.re d).bind λy17=>
   (z18 n [x15,x13.name,y17.1] e).bind λy18=>
   z7n n (IntKind.i64.wrap (a+1)) b c y17.2 y18)
   (some (d,e))
end
def zxm:LSh:=⟨[],[(.bld 111 2),(.cells [dB]),(.acc 5 (.int .u8) true)],2,92,[]⟩
noncomputable def zkj:FI dat:=FI.of dat 64 92 2 [(.fn 58 [] [(.bp 0)]),(.fn 61 [] [(.ptr 1 0)]),dT 8] [(.bld 111 2),(.cells [dB]),(.acc 5 (.int .u8) true)] [] [(.bld 111 2),(.cells [dB]),(.acc 5 (.int .u8) true)] false zxm (R:=Bool×(List Int)) (λx=>(x.1,x.2.1)) (λr=>(r.1,r.2,())) (λn=>u3 (ze4 n))
 (λn=>[(0,⟨⟨[(57,dI),(1,(.fn 61 [] [(.ptr 1 0)])),(0,(.fn 58 [] [(.bp 0)])),(55,dL 7),(56,dI)],[(.bld 111 2),(.cells [dB]),(.acc 5 (.int .u8) true)],2,92,[]⟩,u5 (z7n n)⟩)]) (anb [(21,0)] f64)
theorem zvp:FOk prog zkj:=okF (bs:=[zlw,zlm,z30,zsd]) ⟨ztb,zta,za9,zxs,trivial⟩ func64 ntmps64 call64
 (λ_ _=>tr (ze4.eq_2 ..))
 (λn=>⟨λ_=>tr (z7n.eq_2 ..),
  trivial⟩)
mutual
noncomputable def zj1:Nat->kz0->Ot (B8×Int)
 |0,_=>none
 |n+1,a=>
  (z7f n a).bind λy0=>
  pIf (y0 != 0)
   (some ([],y0))
   (zer n 0 a.attrs (a.attrs.length:Int) false a [])
noncomputable def zer:Nat->Int->z55->Int->Bool->kz0->(List Int)->Ot (B8×Int)
 |0,_,_,_,_,_,_=>none
 |n+1,a,b,c,d,e,f=>
  pIf (decide (a<c))
   ((ix b a).bind λx1=>
   (z4u n x1.value.re d).bind λy2=>
   (z18 n [[97,116,116,114],x1.name,y2.1] f).bind λy3=>
   zer n (IntKind.i64.wrap (a+1)) b c y2.2 e y3)
   (zf1 n 0 e.rules (e.rules.length:Int) d f)
noncomputable def zf1:Nat->Int->zzm->Int->Bool->(List Int)->Ot (B8×Int)
 |0,_,_,_,_,_=>none
 |n+1,a,b,c,d,e=>
  pIf (decide (a<c))
   ((ix b a).bind λx4=>
   (ext [[114,117,108,101],x4.name] x4.params).bind λx5=>
   (z18 n x5 e).bind λy6=>
   zes n 0 x4.cases b c a (x4.cases.length:Int) d y6)
   (pIf d
     (zel n true e)
     ((z3z n e).bind λy7=>
     zel n (decide (y7.1>20000)) y7.2))
noncomputable def zes:Nat->Int->z6n->zzm->Int->Int->Int->Bool->(List Int)->Ot (B8×Int)
 |0,_,_,_,_,_,_,_,_=>none
 |n+1,a,b,c,d,e,f,g,h=>
  pIf (decide (a<f))
   ((ix b a).bind λx8=>
   (zg4 n x8.weight).bind λy9=>
   (z4u n x8.when_.re g).bind λy10=>
   (z18 n [[99,97,115,101],y9,y10.1] h).bind λy11=>
   zf7 n 0 x8.do_ b c d e f a (x8.do_.length:Int) y10.2 y11)
   (zf1 n (IntKind.i64.wrap (e+1)) c d g h)
noncomputable def zf7:Nat->Int->zd2->z6n->zzm->Int->Int->Int->Int->Int->Bool->(List Int)->Ot (B8×Int)
 |0,_,_,_,_,_,_,_,_,_,_,_=>none
 |n+1,a,b,c,d,e,f,g,h,i,j,k=>
  pIf (decide (a<i))
   ((ix b a).bind λx13=>
   (ze4 n x13 j k).bind λy14=>
   zf7 n (IntKind.i64.wrap (a+1)) b c d e f g h i y14.1 y14.2)
   (zes n (IntKind.i64.wrap (h+1)) c d e f g j k)
noncomputable def zel:Nat->Bool->(List Int)->Ot (B8×Int)
 |0,_,_=>none
 |n+1,a,b=>
  pIf a
   (some ([],4))
   ((z1i n b).bind λy12=>
   some (y12,0))
end
def yhf:LSh:=⟨[(2,dS),(3,dI)],[],0,93,[]⟩
noncomputable def zl7:FI dat:=FI.of dat 25 93 0 [dT 11] [] [dS,dI] [] true yhf (R:=B8×Int) (λx=>(x.1,x.2.1)) (λr=>(r.1,r.2,())) (λn=>u1 (zj1 n))
 (λn=>[(0,⟨⟨[(27,dI),(8,(.fn 61 [] [(.ptr 0 0)])),(6,(.fn 58 [] [(.bp 1)])),(25,dL 6),(5,(.bp 1)),(7,(.ptr 0 0)),(1,(.ptr 2 0)),(26,dI)],[(.cells [dB]),(.bld 111 3),(.st 11),(.acc 5 (.int .u8) true)],0,93,[]⟩,u6 (zer n)⟩),(1,⟨⟨[(8,(.fn 61 [] [(.ptr 0 0)])),(6,(.fn 58 [] [(.bp 1)])),(44,dI),(42,dL 10),(5,(.bp 1)),(7,(.ptr 0 0)),(43,dI)],[(.cells [dB]),(.bld 111 2),(.acc 5 (.int .u8) true)],0,93,[]⟩,u5 (zf1 n)⟩),(2,⟨⟨[(8,(.fn 61 [] [(.ptr 0 0)])),(6,(.fn 58 [] [(.bp 1)])),(59,dI),(57,dL 9),(42,dL 10),(5,(.bp 1)),(7,(.ptr 0 0)),(43,dI),(44,dI),(58,dI)],[(.cells [dB]),(.bld 111 2),(.acc 5 (.int .u8) true)],0,93,[]⟩,u8 (zes n)⟩),(3,⟨⟨[(76,dI),(8,(.fn 61 [] [(.ptr 0 0)])),(6,(.fn 58 [] [(.bp 1)])),(74,dL 8),(57,dL 9),(42,dL 10),(5,(.bp 1)),(7,(.ptr 0 0)),(43,dI),(44,dI),(58,dI),(59,dI),(75,dI)],[(.cells [dB]),(.bld 111 2),(.acc 5 (.int .u8) true)],0,93,[]⟩,u11 (zf7 n)⟩),(4,⟨⟨[(5,(.bp 0)),(91,dB)],[(.bld 111 1),(.acc 5 (.int .u8) true)],0,93,[]⟩,u2 (zel n)⟩)]) (anb [(24,0),(41,1),(57,2),(73,3),(91,4)] f25)
theorem zyb:FOk prog zl7:=okF (bs:=[zlw,zlm,z9f,z2a,zkj,ziz,zuf]) ⟨ztb,zta,zc8,z56,zvp,zma,y7d,trivial⟩ func25 ntmps25 call25
 (λn=>λ_=>tr (zj1.eq_2 _ n))
 (λn=>⟨λ_=>tr (zer.eq_2 _ _ _ _ _ _ n),
  λ_=>tr (zf1.eq_2 _ _ _ _ _ n),
  λ_=>tr (zes.eq_2 _ _ _ _ _ _ _ _ n),
  λ_=>tr (zf7.eq_2 _ _ _ _ _ _ _ _ _ _ _ n),
  λ_=>tr (zel.eq_2 _ _ n),
  trivial⟩)
def z2p:Nat->B8->B8->Ot B8
 |0,_,_=>none
 |n+1,a,b=>
  (z03 n a b).bind λy0=>
  pIf y0
   ((sub a 0 (IntKind.i64.wrap ((a.length:Int)-(b.length:Int)))).bind λx1=>
   some x1)
   (some a)
def zgs:LSh:=⟨[(4,dS)],[],0,16,[]⟩
noncomputable def z9i:FI dat:=FI.of dat 105 16 0 [dS,dS] [] [dS] [] true zgs (R:=B8) Prod.fst (·,()) (λn=>u2 (z2p n))
 (λn=>[]) (anb [] f105)
theorem zgj:FOk prog z9i:=okF (bs:=[z4o]) ⟨z9g,trivial⟩ func105 ntmps105 call105
 (λ_ _=>tr (z2p.eq_2 ..))
 (λn=>trivial)
def zdc:Nat->B8->B8->Ot B8
 |0,_,_=>none
 |n+1,a,b=>
  (z2p n a b).bind λy0=>
  some y0
def zuk:LSh:=⟨[(4,dS)],[],0,8,[]⟩
noncomputable def ze8:FI dat:=FI.of dat 44 8 0 [dS,dS] [] [dS] [] true zuk (R:=B8) Prod.fst (·,()) (λn=>u2 (zdc n))
 (λn=>[]) (anb [] f44)
theorem ztq:FOk prog ze8:=okF (bs:=[z9i]) ⟨zgj,trivial⟩ func44 ntmps44 call44
 (λ_ _=>tr (zdc.eq_2 ..))
 (λn=>trivial)
def z8k:Nat->B8->B8->Ot (B8×B8×Bool)
 |0,_,_=>none
 |n+1,a,b=>
  (z1t n a b).bind λy0=>
  pIf (decide (y0>=0))
   ((sub a 0 y0).bind λx1=>
   (sub a (IntKind.i64.wrap (y0+(b.length:Int))) (a.length:Int)).bind λx2=>
   some (x1,x2,true))
   (some (a,[],false))
def zn4:LSh:=⟨[(4,dS),(5,dS),(6,dB)],[],0,23,[]⟩
noncomputable def ze6:FI dat:=FI.of dat 155 23 0 [dS,dS] [] [dS,dS,dB] [] true zn4 (R:=B8×B8×Bool) (λx=>(x.1,x.2.1,x.2.2.1)) (λr=>(r.1,r.2.1,r.2.2,())) (λn=>u2 (z8k n))
 (λn=>[]) (anb [] f155)
theorem zkt:FOk prog ze6:=okF (bs:=[z81]) ⟨zc0,trivial⟩ func155 ntmps155 call155
 (λ_ _=>tr (z8k.eq_2 ..))
 (λn=>trivial)
def z7d:Nat->B8->B8->Ot (B8×B8×Bool)
 |0,_,_=>none
 |n+1,a,b=>
  (z8k n a b).bind λy0=>
  some (y0.1,y0.2.1,y0.2.2)
def yf4:LSh:=⟨[(4,dS),(5,dS),(6,dB)],[],0,13,[]⟩
noncomputable def zd8:FI dat:=FI.of dat 100 13 0 [dS,dS] [] [dS,dS,dB] [] true yf4 (R:=B8×B8×Bool) (λx=>(x.1,x.2.1,x.2.2.1)) (λr=>(r.1,r.2.1,r.2.2,())) (λn=>u2 (z7d n))
 (λn=>[]) (anb [] f100)
theorem zhf:FOk prog zd8:=okF (bs:=[ze6]) ⟨zkt,trivial⟩ func100 ntmps100 call100
 (λ_ _=>tr (z7d.eq_2 ..))
 (λn=>trivial)
def zaa:Nat->Int->Ot (Res (Int×Unit) Unit)
 |0,_=>none
 |n+1,a=>
  pIf (a != 0)
   (some (Res.pan (a,())))
   (some (Res.ok ()))
def yo1:LSh:=⟨[],[],0,6,[]⟩
noncomputable def z7a:FI dat:=FI.ofP dat 244 6 0 [dI] [] [] [] (.iface 31 dI) [] [] yo1 (R:=Unit) (λx=>()) (λ_=>()) (λn=>u1 (zaa n))
 (λn=>[]) (anb [] f244)
noncomputable def yle:List (FI dat):=[]
theorem ynm:(z7a).Good prog dat (tb yle):=FI.zu2 (hD:=kza _) func244 ntmps244 call244 (by kernel_rfl) (Qac (by kernel_rfl)) (by kernel_rfl) (λn=>by kernel_rfl) trivial (λx=>by kernel_rfl) (λ_=>rfl) trivial
 (λn=>λ_=>tr (zaa.eq_2 _ n))
 (λn=>trivial)
 (λx=>by kernel_rfl)
theorem yn0:OkL prog [z7a]:=zpi (kza _) (bs:=[]) trivial ynm
theorem zl8:FOk prog z7a:=yn0.1
def z02:Nat->B8->B8->Ot Bool
 |0,_,_=>none
 |n+1,a,b=>
  pIf (decide ((a.length:Int)>=(b.length:Int)))
   ((sub a 0 (b.length:Int)).bind λx0=>
   some (x0==b))
   (some false)
def zh1:LSh:=⟨[(4,dB)],[],0,18,[]⟩
noncomputable def z4c:FI dat:=FI.of dat 292 18 0 [dS,dS] [] [dB] [] true zh1 (R:=Bool) Prod.fst (·,()) (λn=>u2 (z02 n))
 (λn=>[]) (anb [] f292)
theorem z9j:FOk prog z4c:=okF (bs:=[]) trivial func292 ntmps292 call292
 (λn=>λ_=>tr (z02.eq_2 _ _ n))
 (λn=>trivial)
def z3b:Nat->B8->B8->Ot (B8×Bool)
 |0,_,_=>none
 |n+1,a,b=>
  (z02 n a b).bind λy0=>
  pIf (!y0)
   (some (a,false))
   ((sub a (b.length:Int) (a.length:Int)).bind λx1=>
   some (x1,true))
def zi2:LSh:=⟨[(4,dS),(5,dB)],[],0,15,[]⟩
noncomputable def za8:FI dat:=FI.of dat 291 15 0 [dS,dS] [] [dS,dB] [] true zi2 (R:=B8×Bool) (λx=>(x.1,x.2.1)) (λr=>(r.1,r.2,())) (λn=>u2 (z3b n))
 (λn=>[]) (anb [] f291)
theorem zgw:FOk prog za8:=okF (bs:=[z4c]) ⟨z9j,trivial⟩ func291 ntmps291 call291
 (λ_ _=>tr (z3b.eq_2 ..))
 (λn=>trivial)
def za7:Nat->B8->B8->Ot (B8×Bool)
 |0,_,_=>none
 |n+1,a,b=>
  (z3b n a b).bind λy0=>
  some (y0.1,y0.2)
def zxd:LSh:=⟨[(4,dS),(5,dB)],[],0,11,[]⟩
noncomputable def zfg:FI dat:=FI.of dat 286 11 0 [dS,dS] [] [dS,dB] [] true zxd (R:=B8×Bool) (λx=>(x.1,x.2.1)) (λr=>(r.1,r.2,())) (λn=>u2 (za7 n))
 (λn=>[]) (anb [] f286)
theorem zk2:FOk prog zfg:=okF (bs:=[za8]) ⟨zgw,trivial⟩ func286 ntmps286 call286
 (λ_ _=>tr (za7.eq_2 ..))
 (λn=>trivial)
def kzu:Nat->B8->kz2->Ot (Bool×kz2)
 |0,_,_=>none
 |n+1,a,b=>
  (za7 n b.s a).bind λy0=>
  some (y0.2,(kz2.mk y0.1))
def y0y:LSh:=⟨[(4,dB)],[(.st 15)],1,21,[]⟩
noncomputable def z92:FI dat:=FI.of dat 269 21 1 [(.ptr 0 0),dS] [(.st 15)] [dB] [(.st 15)] false y0y (R:=Bool×kz2) (λx=>(x.1,x.2.1)) (λr=>(r.1,r.2,())) (λn=>u2 (kzu n))
 (λn=>[]) (anb [] f269)
theorem zkm:FOk prog z92:=okF (bs:=[zfg]) ⟨zk2,trivial⟩ func269 ntmps269 call269
 (λ_ _=>tr (kzu.eq_2 ..))
 (λn=>trivial)
def z8c:Nat->B8->kz2->Ot (Res (Int×Unit) kz2)
 |0,_,_=>none
 |n+1,a,b=>
  (kzu n a b).bind λy0=>
  pIf (!y0.1)
   ((zaa n 12).bind λy1=>
   zlx y1 (λr2=>
    some (Res.ok y0.2))
    (λe3=>
    some (Res.pan (e3.1,()))))
   (some (Res.ok y0.2))
def y02:LSh:=⟨[],[(.st 15)],1,9,[]⟩
noncomputable def z98:FI dat:=FI.ofP dat 270 9 1 [(.ptr 0 0),dS] [(.st 15)] [] [(.st 15)] (.iface 31 dI) [(.cells [.any])] [] y02 (R:=kz2) Prod.fst (·,()) (λn=>u2 (z8c n))
 (λn=>[]) (anb [] f270)
noncomputable def y1a:List (FI dat):=[z92,z7a]
theorem y0t:(z98).Good prog dat (tb y1a):=FI.zu2 (hD:=kza _) func270 ntmps270 call270 (by kernel_rfl) (Qac (by kernel_rfl)) (by kernel_rfl) (λn=>by kernel_rfl) trivial (λx=>by kernel_rfl) (λ_=>rfl) trivial
 (λ_ _=>tr (z8c.eq_2 ..))
 (λn=>trivial)
 (λx=>by kernel_rfl)
theorem y0l:OkL prog [z98]:=zpi (kza _) (bs:=[z92,z7a]) ⟨zkm,zl8,trivial⟩ y0t
theorem zx7:FOk prog z98:=y0l.1
def za3:Nat->B8->B8->Ot Bool
 |0,_,_=>none
 |n+1,a,b=>
  (z02 n a b).bind λy0=>
  some y0
def zxg:LSh:=⟨[(4,dB)],[],0,8,[]⟩
noncomputable def zaz:FI dat:=FI.of dat 287 8 0 [dS,dS] [] [dB] [] true zxg (R:=Bool) Prod.fst (·,()) (λn=>u2 (za3 n))
 (λn=>[]) (anb [] f287)
theorem zjm:FOk prog zaz:=okF (bs:=[z4c]) ⟨z9j,trivial⟩ func287 ntmps287 call287
 (λ_ _=>tr (za3.eq_2 ..))
 (λn=>trivial)
def za1:Nat->B8->Int->Ot Int
 |0,_,_=>none
 |n+1,a,b=>
  (z9h n a b).bind λy0=>
  some y0
def zx9:LSh:=⟨[(4,dI)],[],0,8,[]⟩
noncomputable def z8a:FI dat:=FI.of dat 99 8 0 [dS,dU] [] [dI] [] true zx9 (R:=Int) Prod.fst (·,()) (λn=>u2 (za1 n))
 (λn=>[]) (anb [] f99)
theorem zjw:FOk prog z8a:=okF (bs:=[zac]) ⟨zgv,trivial⟩ func99 ntmps99 call99
 (λn x=>tr (za1.eq_2 x.1 x.2.1 n))
 (λn=>trivial)
def zzs:Nat->B8->zz3->Ot (Bool×zz3)
 |0,_,_=>none
 |n+1,a,b=>
  (sub b.s b.at_ (b.s.length:Int)).bind λx0=>
  (za3 n x0 a).bind λy1=>
  pIf (!y1)
   (some (false,b))
   (some (true,(zz3.mk b.s (IntKind.i64.wrap (b.at_+(a.length:Int))) b.ok)))
def zwx:LSh:=⟨[(4,dB)],[(.st 16)],1,26,[]⟩
noncomputable def zfc:FI dat:=FI.of dat 294 26 1 [(.ptr 0 0),dS] [(.st 16)] [dB] [(.st 16)] false zwx (R:=Bool×zz3) (λx=>(x.1,x.2.1)) (λr=>(r.1,r.2,())) (λn=>u2 (zzs n))
 (λn=>[]) (anb [] f294)
theorem zu3:FOk prog zfc:=okF (bs:=[zaz]) ⟨zjm,trivial⟩ func294 ntmps294 call294
 (λ_ _=>tr (zzs.eq_2 ..))
 (λn=>trivial)
mutual
def zc3:Nat->zz3->Ot (B8×zz3)
 |0,_=>none
 |n+1,a=>
  z5c n a []
def z5c:Nat->zz3->(List Int)->Ot (B8×zz3)
 |0,_,_=>none
 |n+1,a,b=>
  pIf (decide (a.at_<(a.s.length:Int)))
   ((ix a.s a.at_).bind λx0=>
   pIf ((x0.toNat:Int)==34)
    ((z1i n b).bind λy1=>
    some (y1,(zz3.mk a.s (IntKind.i64.wrap (a.at_+1)) a.ok)))
    (pIf ((x0.toNat:Int)==92)
      (pIf ((IntKind.i64.wrap (a.at_+1))==(a.s.length:Int))
        (z1g n true (zz3.mk a.s (IntKind.i64.wrap (a.at_+1)) a.ok) b)
        ((ix a.s (IntKind.i64.wrap (a.at_+1))).bind λx2=>
        pIf ((x2.toNat:Int) != 34)
         ((ix a.s (IntKind.i64.wrap (a.at_+1))).bind λx3=>
         z1g n ((x3.toNat:Int) != 92) (zz3.mk a.s (IntKind.i64.wrap (a.at_+1)) a.ok) b)
         (z1g n false (zz3.mk a.s (IntKind.i64.wrap (a.at_+1)) a.ok) b)))
      (z4z n (x0.toNat:Int) (zz3.mk a.s (IntKind.i64.wrap (a.at_+1)) a.ok) b)))
   (z5a n a)
def z1g:Nat->Bool->zz3->(List Int)->Ot (B8×zz3)
 |0,_,_,_=>none
 |n+1,a,b,c=>
  pIf a
   (z5a n b)
   ((ix b.s b.at_).bind λx4=>
   z4z n (x4.toNat:Int) (zz3.mk b.s (IntKind.i64.wrap (b.at_+1)) b.ok) c)
def z4z:Nat->Int->zz3->(List Int)->Ot (B8×zz3)
 |0,_,_,_=>none
 |n+1,a,b,c=>
  (kzh n a c).bind λy5=>
  z5c n b y5
def z5a:Nat->zz3->Ot (B8×zz3)
 |0,_=>none
 |n+1,a=>
  some ([],(zz3.mk a.s a.at_ false))
end
def zth:LSh:=⟨[(2,dS)],[(.st 16)],1,91,[]⟩
noncomputable def zda:FI dat:=FI.of dat 295 91 1 [(.ptr 0 0)] [(.st 16)] [dS] [(.st 16)] false zth (R:=B8×zz3) (λx=>(x.1,x.2.1)) (λr=>(r.1,r.2,())) (λn=>u1 (zc3 n))
 (λn=>[(0,⟨⟨[(3,(.bp 1)),(0,(.ptr 0 0))],[(.st 16),(.bld 111 2),(.acc 5 (.int .u8) true)],1,91,[]⟩,u2 (z5c n)⟩),(1,⟨⟨[(0,(.ptr 0 0)),(3,(.bp 1)),(69,dB)],[(.st 16),(.bld 111 2),(.acc 5 (.int .u8) true)],1,91,[]⟩,u3 (z1g n)⟩),(2,⟨⟨[(3,(.bp 1)),(0,(.ptr 0 0)),(4,dU)],[(.st 16),(.bld 111 2),(.acc 5 (.int .u8) true)],1,91,[]⟩,u3 (z4z n)⟩),(3,⟨⟨[(0,(.ptr 0 0))],[(.st 16)],1,91,[]⟩,u1 (z5a n)⟩)]) (anb [(6,0),(33,1),(40,2),(41,3)] f295)
theorem zsp:FOk prog zda:=okF (bs:=[z2a,z38]) ⟨z56,zco,trivial⟩ func295 ntmps295 call295
 (λ_ _=>tr (zc3.eq_2 ..))
 (λn=>⟨λ_=>tr (z5c.eq_2 ..),
  λ_=>tr (z1g.eq_2 ..),
  λ_=>tr (z4z.eq_2 ..),
  λ_=>tr (z5a.eq_2 _ n),
  trivial⟩)
mutual
def zg8:Nat->B8->Ot (Int×Bool)
 |0,_=>none
 |n+1,a=>
  pIf ((a.length:Int)==0)
   (z5t n a true)
   (pIf (decide ((a.length:Int)>10))
     (z5t n a true)
     ((ix a 0).bind λx0=>
     pIf ((x0.toNat:Int)==48)
      (z5t n a (decide ((a.length:Int)>1)))
      (z5t n a false)))
def z5t:Nat->B8->Bool->Ot (Int×Bool)
 |0,_,_=>none
 |n+1,a,b=>
  pIf b
   (some (0,false))
   (zcf n 0 a 0)
def zcf:Nat->Int->B8->Nat->Ot (Int×Bool)
 |0,_,_,_=>none
 |n+1,a,b,c=>
  pIf (decide (c<b.length))
   (pIf (decide (((zcn b c).1:Int)<48))
     (zc4 n ((zcn b c).1:Int) a true b (c+(zcn b c).2))
     (zc4 n ((zcn b c).1:Int) a (decide (((zcn b c).1:Int)>57)) b (c+(zcn b c).2)))
   (some (a,true))
def zc4:Nat->Int->Int->Bool->B8->Nat->Ot (Int×Bool)
 |0,_,_,_,_,_=>none
 |n+1,a,b,c,d,e=>
  pIf c
   (some (0,false))
   (zcf n (IntKind.i64.wrap ((IntKind.i64.wrap (10 * b))+(IntKind.i64.wrap (IntKind.i32.wrap (a-48))))) d e)
end
def ycf:LSh:=⟨[(2,dI),(3,dB)],[],0,43,[]⟩
noncomputable def zuc:FI dat:=FI.of dat 297 43 0 [dS] [] [dI,dB] [] true ycf (R:=Int×Bool) (λx=>(x.1,x.2.1)) (λr=>(r.1,r.2,())) (λn=>u1 (zg8 n))
 (λn=>[(0,⟨⟨[(0,dS),(24,dB)],[],0,43,[]⟩,u2 (z5t n)⟩),(1,⟨⟨[(4,dI),(26,(.ptr 0 0))],[.siter],0,43,[]⟩,u3 (zcf n)⟩),(2,⟨⟨[(26,(.ptr 0 0)),(6,(.d (.int .i32))),(4,dI),(35,dB)],[.siter],0,43,[]⟩,u5 (zc4 n)⟩)]) (anb [(5,0),(16,1),(29,2)] f297)
theorem y7o:FOk prog zuc:=okF (bs:=[]) trivial func297 ntmps297 call297
 (λ_ _=>tr (zg8.eq_2 ..))
 (λn=>⟨λ_=>tr (z5t.eq_2 ..),
  λ_=>tr (zcf.eq_2 ..),
  λ_=>tr (zc4.eq_2 ..),
  trivial⟩)
mutual
def zmg:Nat->B8->Ot (Int×zz4)
 |0,_=>none
 |n+1,a=>
  (za7 n a [45]).bind λy0=>
  (z7d n y0.1 [47]).bind λy1=>
  pIf (!y1.2.2)
   (zdh n a y0.2 [49] y1.1 (zz4.mk 0 0))
   (zdh n a y0.2 y1.2.1 y1.1 (zz4.mk 0 0))
def zdh:Nat->B8->Bool->B8->B8->zz4->Ot (Int×zz4)
 |0,_,_,_,_,_=>none
 |n+1,a,b,c,d,e=>
  (zg8 n d).bind λy2=>
  (zg8 n c).bind λy3=>
  pIf b
   (zdl n a y3.2 y2.2 y3.1 (IntKind.i64.wrap (0-y2.1)) e)
   (zdl n a y3.2 y2.2 y3.1 y2.1 e)
def zdl:Nat->B8->Bool->Bool->Int->Int->zz4->Ot (Int×zz4)
 |0,_,_,_,_,_,_=>none
 |n+1,a,b,c,d,e,f=>
  pIf (!c)
   (zab n a true f (zz4.mk e d))
   (pIf (!b)
     (zab n a true f (zz4.mk e d))
     ((z6s n (zz4.mk e d)).bind λy4=>
     zab n a (y4 != 0) f (zz4.mk e d)))
def zab:Nat->B8->Bool->zz4->zz4->Ot (Int×zz4)
 |0,_,_,_,_=>none
 |n+1,a,b,c,d=>
  pIf b
   (some (12,(zz4.mk 0 0)))
   ((zj0 n d).bind λy5=>
   pIf (!(y5.1==a))
    (some (12,(zz4.mk 0 0)))
    (some (0,d)))
end
def ydm:LSh:=⟨[(2,(.ptr 0 0)),(3,dI)],[(.st 3)],0,67,[]⟩
noncomputable def zpc:FI dat:=FI.of dat 296 67 0 [dS] [] [dT 3,dI] [] true ydm (R:=Int×zz4) (λx=>(x.1,x.2.1)) (λr=>(r.2,r.1,())) (λn=>u1 (zmg n))
 (λn=>[(0,⟨⟨[(2,(.ptr 0 0)),(0,dS),(5,dB),(7,dS),(6,dS)],[(.st 3)],0,67,[]⟩,u5 (zdh n)⟩),(1,⟨⟨[(2,(.ptr 0 0)),(0,dS),(12,dB),(10,dB),(11,dI),(9,dI)],[(.st 3)],0,67,[]⟩,u6 (zdl n)⟩),(2,⟨⟨[(2,(.ptr 0 0)),(13,(.ptr 1 0)),(0,dS),(55,dB)],[(.st 3),(.st 3)],0,67,[]⟩,u4 (zab n)⟩)]) (anb [(12,0),(22,1),(27,2)] f296)
theorem yb2:FOk prog zpc:=okF (bs:=[zfg,zd8,zuc,zfx,zkz]) ⟨zk2,zhf,y7o,zmw,zyj,trivial⟩ func296 ntmps296 call296
 (λ_ _=>tr (zmg.eq_2 ..))
 (λn=>⟨λ_=>tr (zdh.eq_2 ..),
  λ_=>tr (zdl.eq_2 ..),
  λx=>tr (zab.eq_2 x.1 x.2.1 x.2.2.1 x.2.2.2.1 n),
  trivial⟩)
mutual
def z9e:Nat->Int->zz3->Ot (zz3×yz0)
 |0,_,_=>none
 |n+1,a,b=>
  pIf (a==0)
   (z6m n (zz3.mk b.s b.at_ false) 0 0 0 false [] [])
   ((zzs n [116,114,117,101] b).bind λy0=>
   pIf y0.1
    (some (y0.2,(yz0.mk 2 (zz4.mk 0 0) true [] [])))
    ((zzs n [102,97,108,115,101] y0.2).bind λy1=>
    pIf y1.1
     (some (y1.2,(yz0.mk 2 (zz4.mk 0 0) false [] [])))
     ((zzs n [34] y1.2).bind λy2=>
     pIf y2.1
      ((zc3 n y2.2).bind λy3=>
      some (y3.2,(yz0.mk 3 (zz4.mk 0 0) false y3.1 [])))
      ((zzs n [91,93] y2.2).bind λy4=>
      pIf y4.1
       (some (y4.2,(yz0.mk 4 (zz4.mk 0 0) false [] [])))
       ((zzs n [91] y4.2).bind λy5=>
       pIf y5.1
        (z6r n a true y5.2 4 0 0 false [] 0 0 0 false [] [] [])
        (z6m n y5.2 0 0 0 false [] []))))))
def z6r:Nat->Int->Bool->zz3->Int->Int->Int->Bool->B8->Int->Int->Int->Bool->B8->z1h->z1h->Ot (zz3×yz0)
 |0,_,_,_,_,_,_,_,_,_,_,_,_,_,_,_=>none
 |n+1,a,b,c,d,e,f,g,h,i,j,k,l,m,o,p=>
  pIf b
   (z6l n a c.ok c d e f g h i j k l m o p)
   (z6l n a false c d e f g h i j k l m o p)
def z6l:Nat->Int->Bool->zz3->Int->Int->Int->Bool->B8->Int->Int->Int->Bool->B8->z1h->z1h->Ot (zz3×yz0)
 |0,_,_,_,_,_,_,_,_,_,_,_,_,_,_,_=>none
 |n+1,a,b,c,d,e,f,g,h,i,j,k,l,m,o,p=>
  pIf b
   ((z9e n (IntKind.i64.wrap (a-1)) c).bind λy8=>
   (ext o [y8.2.re]).bind λx9=>
   (zzs n [44,32] y8.1).bind λy10=>
   z6r n a y10.1 y10.2 d e f g h i j k l m x9 p)
   ((zzs n [93] c).bind λy11=>
   pIf y11.1
    (z6o n y11.2 i j k l m d e f g h p o)
    (z6o n (zz3.mk y11.2.s y11.2.at_ false) i j k l m d e f g h p o))
def z6o:Nat->zz3->Int->Int->Int->Bool->B8->Int->Int->Int->Bool->B8->z1h->z1h->Ot (zz3×yz0)
 |0,_,_,_,_,_,_,_,_,_,_,_,_,_=>none
 |n+1,a,b,c,d,e,f,g,h,i,j,k,l,m=>
  some (a,(yz0.mk g (zz4.mk h i) j k m))
def z6m:Nat->zz3->Int->Int->Int->Bool->B8->z1h->Ot (zz3×yz0)
 |0,_,_,_,_,_,_,_=>none
 |n+1,a,b,c,d,e,f,g=>
  z6i n a.at_ a b c d e f g
def z6i:Nat->Int->zz3->Int->Int->Int->Bool->B8->z1h->Ot (zz3×yz0)
 |0,_,_,_,_,_,_,_,_=>none
 |n+1,a,b,c,d,e,f,g,h=>
  pIf (decide (a<(b.s.length:Int)))
   ((ix b.s a).bind λx6=>
   (za1 n [48,49,50,51,52,53,54,55,56,57,47,45] (x6.toNat:Int)).bind λy7=>
   z6p n a (decide (y7>=0)) b c d e f g h)
   (z6p n a false b c d e f g h)
def z6p:Nat->Int->Bool->zz3->Int->Int->Int->Bool->B8->z1h->Ot (zz3×yz0)
 |0,_,_,_,_,_,_,_,_,_=>none
 |n+1,a,b,c,d,e,f,g,h,i=>
  pIf b
   (z6i n (IntKind.i64.wrap (a+1)) c d e f g h i)
   ((sub c.s c.at_ a).bind λx12=>
   (zmg n x12).bind λy13=>
   pIf c.ok
    (z6j n a (zz3.mk c.s c.at_ (y13.1==0)) d e f g h y13.2 i)
    (z6j n a (zz3.mk c.s c.at_ false) d e f g h y13.2 i))
def z6j:Nat->Int->zz3->Int->Int->Int->Bool->B8->zz4->z1h->Ot (zz3×yz0)
 |0,_,_,_,_,_,_,_,_,_=>none
 |n+1,a,b,c,d,e,f,g,h,i=>
  some ((zz3.mk b.s a b.ok),(yz0.mk 1 h false [] []))
end
def zuz:LSh:=⟨[(4,(.ptr 1 0))],[(.st 16),(.st 4)],1,122,[]⟩
noncomputable def z78:FI dat:=FI.of dat 293 122 1 [(.ptr 0 0),dI] [(.st 16)] [dT 4] [(.st 16),(.st 4)] false zuz (R:=zz3×yz0) (λx=>(x.1,x.2.1)) (λr=>(r.2,r.1,r.2,())) (λn=>u2 (z9e n))
 (λn=>[(0,⟨⟨[(0,(.ptr 0 0)),(5,(.ptr 1 0)),(1,dI),(4,(.ptr 2 0)),(6,dB)],[(.st 16),(.cells [dU,dI,dI,dB,dS,(.own 3)]),(.cells [dU,dI,dI,dB,dS,(.own 4)]),(.acc 26 (.st 4) true),(.acc 26 (.st 4) true)],1,122,[]⟩,λx=>z6r n x.1 x.2.1 x.2.2.1 x.2.2.2.1 x.2.2.2.2.1 x.2.2.2.2.2.1 x.2.2.2.2.2.2.1 x.2.2.2.2.2.2.2.1 x.2.2.2.2.2.2.2.2.1 x.2.2.2.2.2.2.2.2.2.1 x.2.2.2.2.2.2.2.2.2.2.1 x.2.2.2.2.2.2.2.2.2.2.2.1 x.2.2.2.2.2.2.2.2.2.2.2.2.1 x.2.2.2.2.2.2.2.2.2.2.2.2.2.1 x.2.2.2.2.2.2.2.2.2.2.2.2.2.2.1⟩),(1,⟨⟨[(0,(.ptr 0 0)),(5,(.ptr 1 0)),(1,dI),(4,(.ptr 2 0)),(44,dB)],[(.st 16),(.cells [dU,dI,dI,dB,dS,(.own 3)]),(.cells [dU,dI,dI,dB,dS,(.own 4)]),(.acc 26 (.st 4) true),(.acc 26 (.st 4) true)],1,122,[]⟩,λx=>z6l n x.1 x.2.1 x.2.2.1 x.2.2.2.1 x.2.2.2.2.1 x.2.2.2.2.2.1 x.2.2.2.2.2.2.1 x.2.2.2.2.2.2.2.1 x.2.2.2.2.2.2.2.2.1 x.2.2.2.2.2.2.2.2.2.1 x.2.2.2.2.2.2.2.2.2.2.1 x.2.2.2.2.2.2.2.2.2.2.2.1 x.2.2.2.2.2.2.2.2.2.2.2.2.1 x.2.2.2.2.2.2.2.2.2.2.2.2.2.1 x.2.2.2.2.2.2.2.2.2.2.2.2.2.2.1⟩),(2,⟨⟨[(4,(.ptr 1 0)),(5,(.ptr 2 0))],[(.st 16),(.cells [dU,dI,dI,dB,dS,(.own 3)]),(.cells [dU,dI,dI,dB,dS,(.own 4)]),(.acc 26 (.st 4) true),(.acc 26 (.st 4) true)],1,122,[]⟩,λx=>z6o n x.1 x.2.1 x.2.2.1 x.2.2.2.1 x.2.2.2.2.1 x.2.2.2.2.2.1 x.2.2.2.2.2.2.1 x.2.2.2.2.2.2.2.1 x.2.2.2.2.2.2.2.2.1 x.2.2.2.2.2.2.2.2.2.1 x.2.2.2.2.2.2.2.2.2.2.1 x.2.2.2.2.2.2.2.2.2.2.2.1 x.2.2.2.2.2.2.2.2.2.2.2.2.1⟩),(3,⟨⟨[(4,(.ptr 1 0)),(0,(.ptr 0 0))],[(.st 16),(.cells [dU,dI,dI,dB,dS,(.own 2)]),(.acc 26 (.st 4) true)],1,122,[]⟩,u7 (z6m n)⟩),(4,⟨⟨[(7,dI),(4,(.ptr 1 0)),(0,(.ptr 0 0))],[(.st 16),(.cells [dU,dI,dI,dB,dS,(.own 2)]),(.acc 26 (.st 4) true)],1,122,[]⟩,u8 (z6i n)⟩),(5,⟨⟨[(4,(.ptr 1 0)),(0,(.ptr 0 0)),(7,dI),(88,dB)],[(.st 16),(.cells [dU,dI,dI,dB,dS,(.own 2)]),(.acc 26 (.st 4) true)],1,122,[]⟩,u9 (z6p n)⟩),(6,⟨⟨[(4,(.ptr 1 0)),(8,(.ptr 2 0)),(7,dI),(0,(.ptr 0 0))],[(.st 16),(.cells [dU,dI,dI,dB,dS,(.own 3)]),(.st 3),(.acc 26 (.st 4) true)],1,122,[]⟩,u9 (z6j n)⟩)]) (anb [(41,0),(45,1),(54,2),(58,3),(62,4),(66,5),(75,6)] f293)
noncomputable def zu5:List (FI dat):=[z78]++[zfc,zda,z8a,zpc]
theorem zux:(z78).Good prog dat (tb zu5):=FI.z1c (hD:=kza _) func293 ntmps293 call293 (by kernel_rfl) (Qac (by kernel_rfl)) (by kernel_rfl) (λn=>by kernel_rfl) (λx=>by kernel_rfl) (λ_=>rfl) ⟨λ_=>rfl,λ_=>rfl,λ_=>rfl,λ_=>rfl,λ_=>rfl,λ_=>rfl,λ_=>rfl,trivial⟩
 (λ_ _=>tr (z9e.eq_2 ..))
 (λn=>⟨λ_=>tr (z6r.eq_2 ..),
  λ_=>tr (z6l.eq_2 ..),
  λx=>tr (z6o.eq_2 x.1 x.2.1 x.2.2.1 x.2.2.2.1 x.2.2.2.2.1 x.2.2.2.2.2.1 x.2.2.2.2.2.2.1 x.2.2.2.2.2.2.2.1 x.2.2.2.2.2.2.2.2.1 x.2.2.2.2.2.2.2.2.2.1 x.2.2.2.2.2.2.2.2.2.2.1 x.2.2.2.2.2.2.2.2.2.2.2.1 x.2.2.2.2.2.2.2.2.2.2.2.2.1 n),
  λ_=>tr (z6m.eq_2 ..),
  λ_=>tr (z6i.eq_2 ..),
  λ_=>tr (z6p.eq_2 ..),
  λx=>tr (z6j.eq_2 x.1 x.2.1 x.2.2.1 x.2.2.2.1 x.2.2.2.2.1 x.2.2.2.2.2.1 x.2.2.2.2.2.2.1 x.2.2.2.2.2.2.2.1 x.2.2.2.2.2.2.2.2.1 n),
  trivial⟩)
 (λx=>.inr (by kernel_rfl))
theorem zvu:OkL prog [z78]:=z7m (kza _) (bs:=[zfc,zda,z8a,zpc]) ⟨zu3,zsp,zjw,yb2,trivial⟩ ⟨zux,trivial⟩
theorem zto:FOk prog z78:=zvu.1
mutual
def zly:Nat->B8->Ot (Int×yz0)
 |0,_=>none
 |n+1,a=>
  pIf (decide ((a.length:Int)>4000))
   (some (12,(yz0.mk 0 (zz4.mk 0 0) false [] [])))
   ((z9e n 6 (zz3.mk a 0 true)).bind λy0=>
   pIf (!y0.1.ok)
    (z9z n true (yz0.mk 0 (zz4.mk 0 0) false [] []) y0.2.re)
    (pIf (y0.1.at_ != (a.length:Int))
      (z9z n true (yz0.mk 0 (zz4.mk 0 0) false [] []) y0.2.re)
      ((z79 n y0.2.re).bind λy1=>
      z9z n (y1 != 0) (yz0.mk 0 (zz4.mk 0 0) false [] []) y0.2.re)))
def z9z:Nat->Bool->yz0->yz0->Ot (Int×yz0)
 |0,_,_,_=>none
 |n+1,a,b,c=>
  pIf a
   (some (12,(yz0.mk 0 (zz4.mk 0 0) false [] [])))
   (some (0,c.re))
end
def ydg:LSh:=⟨[(2,(.ptr 0 0)),(3,dI)],[(.st 4)],0,36,[]⟩
noncomputable def zp4:FI dat:=FI.of dat 288 36 0 [dS] [] [dT 4,dI] [] true ydg (R:=Int×yz0) (λx=>(x.1,x.2.1)) (λr=>(r.2,r.1,())) (λn=>u1 (zly n))
 (λn=>[(0,⟨⟨[(2,(.ptr 0 0)),(5,(.ptr 1 0)),(33,dB)],[(.st 4),(.st 4)],0,36,[]⟩,u3 (z9z n)⟩)]) (anb [(17,0)] f288)
theorem yc8:FOk prog zp4:=okF (bs:=[z78,zg0]) ⟨zto,zm9,trivial⟩ func288 ntmps288 call288
 (λ_ _=>tr (zly.eq_2 ..))
 (λn=>⟨λx=>tr (z9z.eq_2 x.1 x.2.1 x.2.2.1 n),
  trivial⟩)
mutual
def zc9:Nat->kz2->Ot (Res (Int×Unit) (kz2×yz1))
 |0,_=>none
 |n+1,a=>
  (za3 n a.s [34]).bind λy0=>
  pIf y0
   (z50 n 1 a (yz1.mk 0 (yz0.mk 0 (zz4.mk 0 0) false [] []) [] []))
   (z57 n 0 a (yz1.mk 0 (yz0.mk 0 (zz4.mk 0 0) false [] []) [] []))
def z50:Nat->Int->kz2->yz1->Ot (Res (Int×Unit) (kz2×yz1))
 |0,_,_,_=>none
 |n+1,a,b,c=>
  pIf (decide (a<(b.s.length:Int)))
   ((ix b.s a).bind λx1=>
   z52 n a ((x1.toNat:Int) != 34) b c.re)
   (z52 n a false b c.re)
def z52:Nat->Int->Bool->kz2->yz1->Ot (Res (Int×Unit) (kz2×yz1))
 |0,_,_,_,_=>none
 |n+1,a,b,c,d=>
  pIf b
   ((ix c.s a).bind λx4=>
   pIf ((x4.toNat:Int)==92)
    (z5d n (IntKind.i64.wrap (a+1)) c d.re)
    (z5d n a c d.re))
   (z58 n (mnI (IntKind.i64.wrap (a+1)) (c.s.length:Int)) c d.re)
def z5d:Nat->Int->kz2->yz1->Ot (Res (Int×Unit) (kz2×yz1))
 |0,_,_,_=>none
 |n+1,a,b,c=>
  z50 n (IntKind.i64.wrap (a+1)) b c.re
def z57:Nat->Int->kz2->yz1->Ot (Res (Int×Unit) (kz2×yz1))
 |0,_,_,_=>none
 |n+1,a,b,c=>
  pIf (decide (a<(b.s.length:Int)))
   ((ix b.s a).bind λx2=>
   (za1 n [48,49,50,51,52,53,54,55,56,57,47,45] (x2.toNat:Int)).bind λy3=>
   z5b n a (decide (y3>=0)) b c.re)
   (z5b n a false b c.re)
def z5b:Nat->Int->Bool->kz2->yz1->Ot (Res (Int×Unit) (kz2×yz1))
 |0,_,_,_,_=>none
 |n+1,a,b,c,d=>
  pIf b
   (z57 n (IntKind.i64.wrap (a+1)) c d.re)
   (z58 n a c d.re)
def z58:Nat->Int->kz2->yz1->Ot (Res (Int×Unit) (kz2×yz1))
 |0,_,_,_=>none
 |n+1,a,b,c=>
  (sub b.s 0 a).bind λx5=>
  (zly n x5).bind λy6=>
  (zaa n y6.1).bind λy7=>
  zlx y7 (λr8=>
   (sub b.s a (b.s.length:Int)).bind λx9=>
   some (Res.ok ((kz2.mk x9),(yz1.mk 1 y6.2.re [] []))))
   (λe10=>
   some (Res.pan (e10.1,())))
end
def zti:LSh:=⟨[(2,(.ptr 1 0))],[(.st 15),(.st 5)],1,88,[]⟩
noncomputable def z5f:FI dat:=FI.ofP dat 272 88 1 [(.ptr 0 0)] [(.st 15)] [dT 5] [(.st 15),(.st 5)] (.iface 31 dI) [(.cells [.any])] [] zti (R:=kz2×yz1) (λx=>(x.1,x.2.1)) (λr=>(r.2,r.1,r.2,())) (λn=>u1 (zc9 n))
 (λn=>[(0,⟨⟨[(3,dI),(0,(.ptr 0 0)),(2,(.ptr 1 0))],[(.st 15),(.st 5)],1,88,[]⟩,u3 (z50 n)⟩),(1,⟨⟨[(0,(.ptr 0 0)),(2,(.ptr 1 0)),(3,dI),(26,dB)],[(.st 15),(.st 5)],1,88,[]⟩,u4 (z52 n)⟩),(2,⟨⟨[(0,(.ptr 0 0)),(2,(.ptr 1 0)),(3,dI)],[(.st 15),(.st 5)],1,88,[]⟩,u3 (z5d n)⟩),(3,⟨⟨[(3,dI),(2,(.ptr 1 0)),(0,(.ptr 0 0))],[(.st 15),(.st 5)],1,88,[]⟩,u3 (z57 n)⟩),(4,⟨⟨[(2,(.ptr 1 0)),(0,(.ptr 0 0)),(3,dI),(62,dB)],[(.st 15),(.st 5)],1,88,[]⟩,u4 (z5b n)⟩),(5,⟨⟨[(2,(.ptr 1 0)),(3,dI),(0,(.ptr 0 0))],[(.st 15),(.st 5)],1,88,[]⟩,u3 (z58 n)⟩)]) (anb [(12,0),(16,1),(26,2),(29,3),(33,4),(38,5)] f272)
noncomputable def ztt:List (FI dat):=[z7a,zaz,z8a,zp4]
theorem ztn:(z5f).Good prog dat (tb ztt):=FI.zu2 (hD:=kza _) func272 ntmps272 call272 (by kernel_rfl) (Qac (by kernel_rfl)) (by kernel_rfl) (λn=>by kernel_rfl) trivial (λx=>by kernel_rfl) (λ_=>rfl) ⟨λ_=>rfl,λ_=>rfl,λ_=>rfl,λ_=>rfl,λ_=>rfl,λ_=>rfl,trivial⟩
 (λ_ _=>tr (zc9.eq_2 ..))
 (λn=>⟨λ_=>tr (z50.eq_2 ..),
  λ_=>tr (z52.eq_2 ..),
  λ_=>tr (z5d.eq_2 ..),
  λ_=>tr (z57.eq_2 ..),
  λ_=>tr (z5b.eq_2 ..),
  λx=>tr (z58.eq_2 x.1 x.2.1 x.2.2.1 n),
  trivial⟩)
 (λx=>by kernel_rfl)
theorem ztg:OkL prog [z5f]:=zpi (kza _) (bs:=[z7a,zaz,z8a,zp4]) ⟨zl8,zjm,zjw,yc8,trivial⟩ ztn
theorem zsl:FOk prog z5f:=ztg.1
def zp8:Nat->Bool->Ot yz0
 |0,_=>none
 |n+1,a=>
  some (yz0.mk 2 (zz4.mk 0 0) a [] [])
def yi5:LSh:=⟨[(2,(.ptr 0 0))],[(.st 4)],0,5,[]⟩
noncomputable def zry:FI dat:=FI.of dat 273 5 0 [dB] [] [dT 4] [] true yi5 (R:=yz0) Prod.fst (·,()) (λn=>u1 (zp8 n))
 (λn=>[]) (anb [] f273)
theorem ycx:FOk prog zry:=okF (bs:=[]) trivial func273 ntmps273 call273
 (λn=>λ_=>tr (zp8.eq_2 _ n))
 (λn=>trivial)
mutual
def z4r:Nat->Int->kz2->Ot (Res (Int×Unit) (kz2×yz1))
 |0,_,_=>none
 |n+1,a,b=>
  pIf (a==0)
   ((zaa n 12).bind λy0=>
   zlx y0 (λr1=>
    z8m n a b (yz1.mk 0 (yz0.mk 0 (zz4.mk 0 0) false [] []) [] []))
    (λe2=>
    some (Res.pan (e2.1,()))))
   (z8m n a b (yz1.mk 0 (yz0.mk 0 (zz4.mk 0 0) false [] []) [] []))
def z8m:Nat->Int->kz2->yz1->Ot (Res (Int×Unit) (kz2×yz1))
 |0,_,_,_=>none
 |n+1,a,b,c=>
  (kzu n [40] b).bind λy3=>
  pIf y3.1
   ((z4r n (IntKind.i64.wrap (a-1)) y3.2).bind λy4=>
   zlx y4 (λr5=>
    (z8c n [32] r5.1).bind λy6=>
    zlx y6 (λr7=>
     z8i n 3 a r7 c.re r5.2.re)
     (λe8=>
     some (Res.pan (e8.1,()))))
    (λe9=>
    some (Res.pan (e9.1,()))))
   (z8n n a y3.2 c.re)
def z8i:Nat->Int->Int->kz2->yz1->yz1->Ot (Res (Int×Unit) (kz2×yz1))
 |0,_,_,_,_,_=>none
 |n+1,a,b,c,d,e=>
  pIf (decide (a<=10))
   ((zhb n a).bind λy10=>
   (cat y10 [32]).bind λx11=>
   (kzu n x11 c).bind λy12=>
   pIf y12.1
    ((z4r n (IntKind.i64.wrap (b-1)) y12.2).bind λy13=>
    zlx y13 (λr14=>
     (z8c n [41] r14.1).bind λy15=>
     zlx y15 (λr16=>
      some (Res.ok (r16,(yz1.mk a (yz0.mk 0 (zz4.mk 0 0) false [] []) [] [e.re,r14.2.re]))))
      (λe17=>
      some (Res.pan (e17.1,()))))
     (λe18=>
     some (Res.pan (e18.1,()))))
    (z8i n (IntKind.u8.wrap (a+1)) b y12.2 d.re e.re))
   ((zaa n 12).bind λy19=>
   zlx y19 (λr20=>
    z8n n b c d.re)
    (λe21=>
    some (Res.pan (e21.1,()))))
def z8n:Nat->Int->kz2->yz1->Ot (Res (Int×Unit) (kz2×yz1))
 |0,_,_,_=>none
 |n+1,a,b,c=>
  (kzu n [91] b).bind λy22=>
  pIf y22.1
   ((z9d n (IntKind.i64.wrap (a-1)) [93] y22.2).bind λy23=>
   zlx y23 (λr24=>
    some (Res.ok (r24.2,(yz1.mk 18 (yz0.mk 0 (zz4.mk 0 0) false [] []) [] r24.1))))
    (λe25=>
    some (Res.pan (e25.1,()))))
   (z8g n 0 a y22.2 c.re)
def z8g:Nat->Int->Int->kz2->yz1->Ot (Res (Int×Unit) (kz2×yz1))
 |0,_,_,_,_=>none
 |n+1,a,b,c,d=>
  pIf (decide (a<(c.s.length:Int)))
   ((ix c.s a).bind λx26=>
   pIf (decide ((x26.toNat:Int)>=97))
    ((ix c.s a).bind λx27=>
    pIf (decide ((x27.toNat:Int)<=122))
     (kzd n b a true c d.re)
     (pIf (decide (a>0))
       ((ix c.s a).bind λx28=>
       pIf ((x28.toNat:Int)==45)
        (kzd n b a true c d.re)
        ((ix c.s a).bind λx29=>
        pIf (decide ((x29.toNat:Int)>=48))
         ((ix c.s a).bind λx30=>
         kzd n b a (decide ((x30.toNat:Int)<=57)) c d.re)
         (kzd n b a false c d.re)))
       (kzd n b a false c d.re)))
    (pIf (decide (a>0))
      ((ix c.s a).bind λx31=>
      pIf ((x31.toNat:Int)==45)
       (kzd n b a true c d.re)
       ((ix c.s a).bind λx32=>
       pIf (decide ((x32.toNat:Int)>=48))
        ((ix c.s a).bind λx33=>
        kzd n b a (decide ((x33.toNat:Int)<=57)) c d.re)
        (kzd n b a false c d.re)))
      (kzd n b a false c d.re)))
   (kzd n b a false c d.re)
def kzd:Nat->Int->Int->Bool->kz2->yz1->Ot (Res (Int×Unit) (kz2×yz1))
 |0,_,_,_,_,_=>none
 |n+1,a,b,c,d,e=>
  pIf c
   (z8g n (IntKind.i64.wrap (b+1)) a d e.re)
   ((sub d.s 0 b).bind λx34=>
   pIf (b==0)
    ((zc9 n d).bind λy35=>
    zlx y35 (λr36=>
     some (Res.ok (r36.1,r36.2.re)))
     (λe37=>
     some (Res.pan (e37.1,()))))
    (pIf (x34==[116,114,117,101])
      (z8h n x34 b a true d e.re)
      (z8h n x34 b a (x34==[102,97,108,115,101]) d e.re)))
def z8h:Nat->B8->Int->Int->Bool->kz2->yz1->Ot (Res (Int×Unit) (kz2×yz1))
 |0,_,_,_,_,_,_=>none
 |n+1,a,b,c,d,e,f=>
  pIf d
   ((sub e.s b (e.s.length:Int)).bind λx38=>
   (zp8 n (a==[116,114,117,101])).bind λy39=>
   some (Res.ok ((kz2.mk x38),(yz1.mk 1 y39.re [] []))))
   ((sub e.s b (e.s.length:Int)).bind λx40=>
   (kzu n [40] (kz2.mk x40)).bind λy41=>
   pIf (!y41.1)
    (some (Res.ok (y41.2,(yz1.mk 2 (yz0.mk 0 (zz4.mk 0 0) false [] []) a []))))
    ((kzx n [110,111,116,32,105,102,32,109,105,110,32,109,97,120,32,102,108,111,111,114,32,108,101,110,32,97,116]).bind λy42=>
    (kz8 n y42 a).bind λy43=>
    pIf (decide (y43<0))
     ((zaa n 12).bind λy44=>
     zlx y44 (λr45=>
      z8o n c y43 y41.2 f.re)
      (λe46=>
      some (Res.pan (e46.1,()))))
     (z8o n c y43 y41.2 f.re)))
def z8o:Nat->Int->Int->kz2->yz1->Ot (Res (Int×Unit) (kz2×yz1))
 |0,_,_,_,_=>none
 |n+1,a,b,c,d=>
  (z9d n (IntKind.i64.wrap (a-1)) [41] c).bind λy47=>
  zlx y47 (λr48=>
   some (Res.ok (r48.2,(yz1.mk (IntKind.u8.wrap (11+(IntKind.u8.wrap b))) (yz0.mk 0 (zz4.mk 0 0) false [] []) [] r48.1))))
   (λe49=>
   some (Res.pan (e49.1,())))
def z9d:Nat->Int->B8->kz2->Ot (Res (Int×Unit) (zz8×kz2))
 |0,_,_,_=>none
 |n+1,a,b,c=>
  (kzu n b c).bind λy0=>
  pIf y0.1
   (some (Res.ok ([],y0.2)))
   (z6q n b a y0.2 [])
def z6q:Nat->B8->Int->kz2->zz8->Ot (Res (Int×Unit) (zz8×kz2))
 |0,_,_,_,_=>none
 |n+1,a,b,c,d=>
  (z4r n b c).bind λy1=>
  zlx y1 (λr2=>
   (ext d [r2.2.re]).bind λx3=>
   (kzu n a r2.1).bind λy4=>
   pIf y4.1
    (some (Res.ok (x3,y4.2)))
    ((z8c n [44,32] y4.2).bind λy5=>
    zlx y5 (λr6=>
     z6q n a b r6 x3)
     (λe7=>
     some (Res.pan (e7.1,())))))
   (λe8=>
   some (Res.pan (e8.1,())))
end
def y0g:LSh:=⟨[(4,(.ptr 1 0))],[(.st 15),(.st 5)],1,167,[]⟩
noncomputable def z66:FI dat:=FI.ofP dat 243 167 1 [(.ptr 0 0),dI] [(.st 15)] [dT 5] [(.st 15),(.st 5)] (.iface 31 dI) [(.cells [.any])] [] y0g (R:=kz2×yz1) (λx=>(x.1,x.2.1)) (λr=>(r.2,r.1,r.2,())) (λn=>u2 (z4r n))
 (λn=>[(0,⟨⟨[(4,(.ptr 1 0)),(0,(.ptr 0 0)),(1,dI)],[(.st 15),(.st 5)],1,167,[]⟩,u3 (z8m n)⟩),(1,⟨⟨[(4,(.ptr 1 0)),(5,(.ptr 2 0)),(6,dU),(0,(.ptr 0 0)),(1,dI)],[(.st 15),(.st 5),(.st 5)],1,167,[]⟩,u5 (z8i n)⟩),(2,⟨⟨[(4,(.ptr 1 0)),(1,dI),(0,(.ptr 0 0))],[(.st 15),(.st 5)],1,167,[]⟩,u3 (z8n n)⟩),(3,⟨⟨[(8,dI),(4,(.ptr 1 0)),(0,(.ptr 0 0)),(1,dI)],[(.st 15),(.st 5)],1,167,[]⟩,u4 (z8g n)⟩),(4,⟨⟨[(4,(.ptr 1 0)),(0,(.ptr 0 0)),(1,dI),(8,dI),(105,dB)],[(.st 15),(.st 5)],1,167,[]⟩,u5 (kzd n)⟩),(5,⟨⟨[(4,(.ptr 1 0)),(9,dS),(8,dI),(0,(.ptr 0 0)),(1,dI),(119,dB)],[(.st 15),(.st 5)],1,167,[]⟩,u6 (z8h n)⟩),(6,⟨⟨[(4,(.ptr 1 0)),(1,dI),(0,(.ptr 0 0)),(10,dI)],[(.st 15),(.st 5)],1,167,[]⟩,u4 (z8o n)⟩)]) (anb [(8,0),(20,1),(43,2),(55,3),(59,4),(76,5),(101,6)] f243)
def zw8:LSh:=⟨[(6,dL 5)],[(.st 15)],1,24,[]⟩
noncomputable def ze2:FI dat:=FI.ofP dat 271 24 1 [(.ptr 0 0),dI,dS] [(.st 15)] [dL 5] [(.st 15)] (.iface 31 dI) [(.cells [.any])] [] zw8 (R:=zz8×kz2) (λx=>(x.1,x.2.1)) (λr=>(r.1,r.2,())) (λn=>u3 (z9d n))
 (λn=>[(0,⟨⟨[(0,(.ptr 0 0)),(2,dS),(1,dI),(7,(.own 1))],[(.st 15),(.acc 29 (.st 5) true)],1,24,[]⟩,u4 (z6q n)⟩)]) (anb [(13,0)] f271)
noncomputable def zmi:List (FI dat):=[z66,ze2]++[z7a,z92,z98,z5f,zk1,zry,z30,zzq]
theorem y06:(z66).Good prog dat (tb zmi):=FI.zu2 (hD:=kza _) func243 ntmps243 call243 (by kernel_rfl) (Qac (by kernel_rfl)) (by kernel_rfl) (λn=>by kernel_rfl) trivial (λx=>by kernel_rfl) (λ_=>rfl) ⟨λ_=>rfl,λ_=>rfl,λ_=>rfl,λ_=>rfl,λ_=>rfl,λ_=>rfl,λ_=>rfl,trivial⟩
 (λ_ _=>tr (z4r.eq_2 ..))
 (λn=>⟨λ_=>tr (z8m.eq_2 ..),
  λ_=>tr (z8i.eq_2 ..),
  λ_=>tr (z8n.eq_2 ..),
  λ_=>tr (z8g.eq_2 ..),
  λ_=>tr (kzd.eq_2 ..),
  λ_=>tr (z8h.eq_2 ..),
  λx=>tr (z8o.eq_2 x.1 x.2.1 x.2.2.1 x.2.2.2.1 n),
  trivial⟩)
 (λx=>by kernel_rfl)
theorem zuq:(ze2).Good prog dat (tb zmi):=FI.zu2 (hD:=kza _) func271 ntmps271 call271 (by kernel_rfl) (Qac (by kernel_rfl)) (by kernel_rfl) (λn=>by kernel_rfl) trivial (λx=>by kernel_rfl) (λ_=>rfl) ⟨λ_=>rfl,trivial⟩
 (λ_ _=>tr (z9d.eq_2 ..))
 (λn=>⟨λ_=>tr (z6q.eq_2 ..),
  trivial⟩)
 (λx=>by kernel_rfl)
theorem zyy:OkL prog [z66,ze2]:=z7m (kza _) (bs:=[z7a,z92,z98,z5f,zk1,zry,z30,zzq]) ⟨zl8,zkm,zx7,zsl,y27,ycx,za9,z1u,trivial⟩ ⟨y06,zuq,trivial⟩
theorem zxi:FOk prog z66:=zyy.1
def zhw(a0:Int):Option Int :=
 some a0
def ye8:LSh:=⟨[],[(.cells [dI])],1,10,[]⟩
noncomputable def zxt:zsc dat:={f:=242,args:=[(.ptr 0 0)],aos:=[(.cells [dI])],m:=none,ros:=[(.cells [dI])],go:=λx mx=>(zhw x.1).bind λr=>some (r,())}
theorem y6t:(zxt).Ok prog:=ynt (c:=(anb [] f242)) (args:=[(.ptr 0 0)]) (aos:=[(.cells [dI])]) (ros:=[(.cells [dI])]) (m:=none) (l:=ye8) (pack:=λx=>x.1) (un:=λr=>(r,())) (go:=λx mx=>zhw x.1) (by kernel_rfl) (kza _) func242 (by kernel_rfl) ntmps242 call242 (Nat.le_of_ble_eq_true (by kernel_rfl)) (Nat.le_of_ble_eq_true (by kernel_rfl)) (Nat.le_of_ble_eq_true (by kernel_rfl)) (by kernel_rfl) (by kernel_rfl) (by kernel_rfl) (by kernel_rfl) (λx=>by kernel_rfl) (λx mx=>by kernel_rfl)
end Go.Proofs.YthphaiccgnkobaaGreatDoor
