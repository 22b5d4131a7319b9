/-
  Go functions as Lean functions, by a program of this repo.
-/
import Derived.Test.YtdcbdnediadfcaaRun0
import Derived.Test.YtdcbdnediadfcaaLib4
import Derived.Test.YtdcbdnediadfcaaLib10
namespace Go.Proofs.Ytdcbdnediadfcaa
open Go Go.Ab
set_option linter.unusedVariables false
set_option maxRecDepth 100000
set_option maxHeartbeats 4000000
noncomputable def z22:Nat->zz6->B8->Ot ((List B8)×Int)
 |0,_,_=>none
 |n+1,a,b=>
  (z1h n a).bind λy0=>
  zvo y0 (λr1=>
   pIf (r1.1 != 0)
    (some ([],r1.1))
    (pIf (!(Option.isSome (z1x (List.zip r1.2.2.2.2.1 r1.2.2.2.2.2) b)))
      (some ([],6))
      ((kzp n [(Option.getD (z1x (List.zip r1.2.2.2.2.1 r1.2.2.2.2.2) b) 0)] r1.2.1 (mks (List.zip r1.2.2.2.2.1 r1.2.2.2.2.2)) (mvs (List.zip r1.2.2.2.2.1 r1.2.2.2.2.2)) r1.2.2.1 r1.2.2.2.1).bind λy2=>
      some (y2.1,0))))
   (λe3=>
   pIf (e3.1 != 0)
    (some ([],e3.1))
    (none))
def zn2:LSh:=⟨[(4,dA),(5,dI)],[],0,33,[]⟩
noncomputable def zcv:FI dat:=FI.of dat 5 33 0 [dL 10,dS] [] [dA,dI] [] true zn2 (R:=(List B8)×Int) (λx=>(x.1,x.2.1)) (λr=>(r.1,r.2,())) (λn=>u2 (z22 n))
 (λn=>[]) (anb [] Try.f5)
theorem zkv:FOk Try.prog zcv:=okF (bs:=[z8j,z60]) ⟨zq2,zb2,trivial⟩ Try.func5 Try.ntmps5 Try.call5
 (λn=>λ_=>tr (z22.eq_2 _ _ n))
 (λn=>trivial)
def kzq:Nat->zz0->Int->Ot Bool
 |0,_,_=>none
 |n+1,a,b=>
  pIf (decide (a.x>=b))
   (pIf (decide (a.y>=b))
     (pIf (decide (a.z>=b))
       (pIf (decide (a.x<=1000000))
         (pIf (decide (a.y<=1000000))
           (some (decide (a.z<=1000000)))
           (some false))
         (some false))
       (some false))
     (some false))
   (some false)
def zx3:LSh:=⟨[(4,dB)],[],0,36,[]⟩
noncomputable def zbv:FI dat:=FI.of dat 67 36 0 [dT 3,dI] [] [dB] [] true zx3 (R:=Bool) Prod.fst (·,()) (λn=>u2 (kzq n))
 (λn=>[]) (anb [] Try.f67)
theorem zdo:FOk Try.prog zbv:=okF (bs:=[]) trivial Try.func67 Try.ntmps67 Try.call67
 (λn=>λ_=>tr (kzq.eq_2 _ _ n))
 (λn=>trivial)
mutual
def z3c:Nat->kz5->Ot Int
 |0,_=>none
 |n+1,a=>
  pIf (decide (a.z15>=24))
   (z0u n true)
   ((kzq n a.at_ (-1000000)).bind λy0=>
   z0u n (!y0))
def z0u:Nat->Bool->Ot Int
 |0,_=>none
 |n+1,a=>
  pIf a
   (some 8)
   (some 0)
end
def zp3:LSh:=⟨[(2,dI)],[],0,12,[]⟩
noncomputable def zfu:FI dat:=FI.of dat 83 12 0 [dT 6] [] [dI] [] true zp3 (R:=Int) Prod.fst (·,()) (λn=>u1 (z3c n))
 (λn=>[(0,⟨⟨[(11,dB)],[],0,12,[]⟩,u1 (z0u n)⟩)]) (anb [(5,0)] Try.f83)
theorem znu:FOk Try.prog zfu:=okF (bs:=[zbv]) ⟨zdo,trivial⟩ Try.func83 Try.ntmps83 Try.call83
 (λ_ _=>tr (z3c.eq_2 ..))
 (λn=>⟨λ_=>tr (z0u.eq_2 _ n),
  trivial⟩)
mutual
def z0z:Nat->zz5->Ot Int
 |0,_=>none
 |n+1,a=>
  (z3c n a.frame).bind λy0=>
  pIf (y0 != 0)
   (z0l n true)
   ((kzq n a.size_ 0).bind λy1=>
   z0l n (!y1))
def z0l:Nat->Bool->Ot Int
 |0,_=>none
 |n+1,a=>
  pIf a
   (some 8)
   (some 0)
end
def znc:LSh:=⟨[(2,dI)],[],0,13,[]⟩
noncomputable def ze7:FI dat:=FI.of dat 65 13 0 [dT 7] [] [dI] [] true znc (R:=Int) Prod.fst (·,()) (λn=>u1 (z0z n))
 (λn=>[(0,⟨⟨[(12,dB)],[],0,13,[]⟩,u1 (z0l n)⟩)]) (anb [(5,0)] Try.f65)
theorem zl4:FOk Try.prog ze7:=okF (bs:=[zfu,zbv]) ⟨znu,zdo,trivial⟩ Try.func65 Try.ntmps65 Try.call65
 (λ_ _=>tr (z0z.eq_2 ..))
 (λn=>⟨λ_=>tr (z0l.eq_2 _ n),
  trivial⟩)
mutual
def z0h:Nat->Int->Ot zz0
 |0,_=>none
 |n+1,a=>
  (rem .i64 a 2).bind λx0=>
  pIf (x0==1)
   (z1v n (-1) a (zz0.mk 0 0 0))
   (z1v n 1 a (zz0.mk 0 0 0))
def z1v:Nat->Int->Int->zz0->Ot zz0
 |0,_,_,_=>none
 |n+1,a,b,c=>
  pIf (decide (b<2))
   (some (zz0.mk a 0 0))
   (pIf (decide (b<4))
     (some (zz0.mk 0 a 0))
     (some (zz0.mk 0 0 a)))
end
def zh7:LSh:=⟨[(2,(.ptr 0 0))],[(.st 3)],0,17,[]⟩
noncomputable def za1:FI dat:=FI.of dat 97 17 0 [dI] [] [dT 3] [] true zh7 (R:=zz0) Prod.fst (·,()) (λn=>u1 (z0h n))
 (λn=>[(0,⟨⟨[(2,(.ptr 0 0)),(3,dI),(0,dI)],[(.st 3)],0,17,[]⟩,u3 (z1v n)⟩)]) (anb [(10,0)] Try.f97)
theorem zgj:FOk Try.prog za1:=okF (bs:=[]) trivial Try.func97 Try.ntmps97 Try.call97
 (λ_ _=>tr (z0h.eq_2 ..))
 (λn=>⟨λx=>tr (z1v.eq_2 x.1 x.2.1 x.2.2.1 n),
  trivial⟩)
def z8x:Nat->zz0->zz0->Ot zz0
 |0,_,_=>none
 |n+1,a,b=>
  some (zz0.mk (IntKind.i64.wrap ((IntKind.i64.wrap (a.y * b.z))-(IntKind.i64.wrap (a.z * b.y)))) (IntKind.i64.wrap ((IntKind.i64.wrap (a.z * b.x))-(IntKind.i64.wrap (a.x * b.z)))) (IntKind.i64.wrap ((IntKind.i64.wrap (a.x * b.y))-(IntKind.i64.wrap (a.y * b.x)))))
def zpo:LSh:=⟨[(4,(.ptr 0 0))],[(.st 3)],0,39,[]⟩
noncomputable def zfj:FI dat:=FI.of dat 98 39 0 [dT 3,dT 3] [] [dT 3] [] true zpo (R:=zz0) Prod.fst (·,()) (λn=>u2 (z8x n))
 (λn=>[]) (anb [] Try.f98)
theorem zmb:FOk Try.prog zfj:=okF (bs:=[]) trivial Try.func98 Try.ntmps98 Try.call98
 (λn=>λ_=>tr (z8x.eq_2 _ _ n))
 (λn=>trivial)
mutual
def z3n:Nat->Int->Ot kzl
 |0,_=>none
 |n+1,a=>
  (quo .i64 a 4).bind λx0=>
  z3j n 0 x0 a [] (kzl.mk (zz0.mk 0 0 0) (zz0.mk 0 0 0) (zz0.mk 0 0 0))
def z3j:Nat->Int->Int->Int->(List Int)->kzl->Ot kzl
 |0,_,_,_,_,_=>none
 |n+1,a,b,c,d,e=>
  pIf (decide (a<6))
   ((quo .i64 a 2).bind λx1=>
   (quo .i64 b 2).bind λx2=>
   pIf (x1 != x2)
    ((ext d [a]).bind λx3=>
    z3g n b c a x3 e)
    (z3g n b c a d e))
   ((rem .i64 c 4).bind λx4=>
   (ix d x4).bind λx5=>
   (z0h n b).bind λy6=>
   (z0h n x5).bind λy7=>
   (z0h n b).bind λy8=>
   (z0h n x5).bind λy9=>
   (z8x n y8 y9).bind λy10=>
   some (kzl.mk y6 y7 y10))
def z3g:Nat->Int->Int->Int->(List Int)->kzl->Ot kzl
 |0,_,_,_,_,_=>none
 |n+1,a,b,c,d,e=>
  z3j n (IntKind.i64.wrap (c+1)) a b d e
end
def zm7:LSh:=⟨[(2,(.ptr 0 0))],[(.st 2)],0,37,[]⟩
noncomputable def zdk:FI dat:=FI.of dat 86 37 0 [dI] [] [dT 2] [] true zm7 (R:=kzl) Prod.fst (·,()) (λn=>u1 (z3n n))
 (λn=>[(0,⟨⟨[(5,dI),(4,(.own 0)),(3,dI),(2,(.ptr 1 0)),(0,dI)],[(.acc 3 (.int .i64) true),(.st 2)],0,37,[]⟩,u5 (z3j n)⟩),(1,⟨⟨[(4,(.own 0)),(3,dI),(2,(.ptr 1 0)),(0,dI),(5,dI)],[(.acc 3 (.int .i64) true),(.st 2)],0,37,[]⟩,u5 (z3g n)⟩)]) (anb [(10,0),(24,1)] Try.f86)
theorem zl5:FOk Try.prog zdk:=okF (bs:=[za1,zfj]) ⟨zgj,zmb,trivial⟩ Try.func86 Try.ntmps86 Try.call86
 (λ_ _=>tr (z3n.eq_2 ..))
 (λn=>⟨λ_=>tr (z3j.eq_2 ..),
  λ_=>tr (z3g.eq_2 ..),
  trivial⟩)
def z0s:Nat->Int->zz0->Ot zz0
 |0,_,_=>none
 |n+1,a,b=>
  some (zz0.mk (IntKind.i64.wrap (a * b.x)) (IntKind.i64.wrap (a * b.y)) (IntKind.i64.wrap (a * b.z)))
def zou:LSh:=⟨[(4,(.ptr 0 0))],[(.st 3)],0,18,[]⟩
noncomputable def zfq:FI dat:=FI.of dat 96 18 0 [dI,dT 3] [] [dT 3] [] true zou (R:=zz0) Prod.fst (·,()) (λn=>u2 (z0s n))
 (λn=>[]) (anb [] Try.f96)
theorem zlw:FOk Try.prog zfq:=okF (bs:=[]) trivial Try.func96 Try.ntmps96 Try.call96
 (λn=>λ_=>tr (z0s.eq_2 _ _ n))
 (λn=>trivial)
def z1f:Nat->zz0->zz0->Ot zz0
 |0,_,_=>none
 |n+1,a,b=>
  some (zz0.mk (IntKind.i64.wrap (a.x+b.x)) (IntKind.i64.wrap (a.y+b.y)) (IntKind.i64.wrap (a.z+b.z)))
def zsk:LSh:=⟨[(4,(.ptr 0 0))],[(.st 3)],0,21,[]⟩
noncomputable def zbq:FI dat:=FI.of dat 84 21 0 [dT 3,dT 3] [] [dT 3] [] true zsk (R:=zz0) Prod.fst (·,()) (λn=>u2 (z1f n))
 (λn=>[]) (anb [] Try.f84)
theorem zfl:FOk Try.prog zbq:=okF (bs:=[]) trivial Try.func84 Try.ntmps84 Try.call84
 (λn=>λ_=>tr (z1f.eq_2 _ _ n))
 (λn=>trivial)
def z65:Nat->kzl->zz0->Ot zz0
 |0,_,_=>none
 |n+1,a,b=>
  (inR 3 0).bind λx0=>
  (z0s n b.x a.e0).bind λy1=>
  (inR 3 1).bind λx2=>
  (z0s n b.y a.e1).bind λy3=>
  (inR 3 2).bind λx4=>
  (z0s n b.z a.e2).bind λy5=>
  (z1f n y3 y5).bind λy6=>
  (z1f n y1 y6).bind λy7=>
  some y7
def zu9:LSh:=⟨[(4,(.ptr 0 0))],[(.st 3)],0,22,[]⟩
noncomputable def zjz:FI dat:=FI.of dat 85 22 0 [dT 2,dT 3] [] [dT 3] [] true zu9 (R:=zz0) Prod.fst (·,()) (λn=>u2 (z65 n))
 (λn=>[]) (anb [] Try.f85)
theorem zrt:FOk Try.prog zjz:=okF (bs:=[zfq,zbq]) ⟨zlw,zfl,trivial⟩ Try.func85 Try.ntmps85 Try.call85
 (λ_ _=>tr (z65.eq_2 ..))
 (λn=>trivial)
def z39:Nat->kz5->zz0->Ot zz0
 |0,_,_=>none
 |n+1,a,b=>
  (z3n n (IntKind.i64.wrap a.z15)).bind λy0=>
  (z65 n y0 b).bind λy1=>
  (z1f n y1 a.at_).bind λy2=>
  some y2
def zok:LSh:=⟨[(4,(.ptr 0 0))],[(.st 3)],0,14,[]⟩
noncomputable def zfo:FI dat:=FI.of dat 66 14 0 [dT 6,dT 3] [] [dT 3] [] true zok (R:=zz0) Prod.fst (·,()) (λn=>u2 (z39 n))
 (λn=>[]) (anb [] Try.f66)
theorem znj:FOk Try.prog zfo:=okF (bs:=[zdk,zjz,zbq]) ⟨zl5,zrt,zfl,trivial⟩ Try.func66 Try.ntmps66 Try.call66
 (λ_ _=>tr (z39.eq_2 ..))
 (λn=>trivial)
mutual
def z1m:Nat->zz5->Ot (Int×kz0)
 |0,_=>none
 |n+1,a=>
  (z0z n a).bind λy0=>
  pIf (y0 != 0)
   ((z0z n a).bind λy1=>
   some (y1,(kz0.mk (zz0.mk 0 0 0) (zz0.mk 0 0 0) (zz0.mk 0 0 0) (zz0.mk 0 0 0) (zz0.mk 0 0 0) (zz0.mk 0 0 0) (zz0.mk 0 0 0) (zz0.mk 0 0 0))))
   (kz4 n 0 (kz0.mk (zz0.mk 0 0 0) (zz0.mk 0 0 0) (zz0.mk 0 0 0) (zz0.mk 0 0 0) (zz0.mk 0 0 0) (zz0.mk 0 0 0) (zz0.mk 0 0 0) (zz0.mk 0 0 0)) a (kz0.mk (zz0.mk 0 0 0) (zz0.mk 0 0 0) (zz0.mk 0 0 0) (zz0.mk 0 0 0) (zz0.mk 0 0 0) (zz0.mk 0 0 0) (zz0.mk 0 0 0) (zz0.mk 0 0 0)))
def kz4:Nat->Int->kz0->zz5->kz0->Ot (Int×kz0)
 |0,_,_,_,_=>none
 |n+1,a,b,c,d=>
  pIf (decide (a<8))
   ((rem .i64 a 2).bind λx2=>
   pIf (x2==1)
    (z08 n a b c d (zz0.mk c.size_.x 0 0))
    (z08 n a b c d (zz0.mk 0 0 0)))
   (zz4 n 0 d b)
def z08:Nat->Int->kz0->zz5->kz0->zz0->Ot (Int×kz0)
 |0,_,_,_,_,_=>none
 |n+1,a,b,c,d,e=>
  (quo .i64 a 2).bind λx3=>
  (rem .i64 x3 2).bind λx4=>
  pIf (x4==1)
   (z0b n a b c d (zz0.mk e.x c.size_.y e.z))
   (z0b n a b c d e)
def z0b:Nat->Int->kz0->zz5->kz0->zz0->Ot (Int×kz0)
 |0,_,_,_,_,_=>none
 |n+1,a,b,c,d,e=>
  (quo .i64 a 4).bind λx14=>
  pIf (x14==1)
   (z09 n a b c d (zz0.mk e.x e.y c.size_.z))
   (z09 n a b c d e)
def z09:Nat->Int->kz0->zz5->kz0->zz0->Ot (Int×kz0)
 |0,_,_,_,_,_=>none
 |n+1,a,b,c,d,e=>
  (z39 n c.frame e).bind λy15=>
  (inR 8 a).bind λx16=>
  pIf (a==(((6+1):Nat):Int))
   (kz4 n (IntKind.i64.wrap (a+1)) (kz0.mk b.e0 b.e1 b.e2 b.e3 b.e4 b.e5 b.e6 y15) c d)
   (pIf (a==(((5+1):Nat):Int))
     (kz4 n (IntKind.i64.wrap (a+1)) (kz0.mk b.e0 b.e1 b.e2 b.e3 b.e4 b.e5 y15 b.e7) c d)
     (pIf (a==(((4+1):Nat):Int))
       (kz4 n (IntKind.i64.wrap (a+1)) (kz0.mk b.e0 b.e1 b.e2 b.e3 b.e4 y15 b.e6 b.e7) c d)
       (pIf (a==(((3+1):Nat):Int))
         (kz4 n (IntKind.i64.wrap (a+1)) (kz0.mk b.e0 b.e1 b.e2 b.e3 y15 b.e5 b.e6 b.e7) c d)
         (pIf (a==(((2+1):Nat):Int))
           (kz4 n (IntKind.i64.wrap (a+1)) (kz0.mk b.e0 b.e1 b.e2 y15 b.e4 b.e5 b.e6 b.e7) c d)
           (pIf (a==(((1+1):Nat):Int))
             (kz4 n (IntKind.i64.wrap (a+1)) (kz0.mk b.e0 b.e1 y15 b.e3 b.e4 b.e5 b.e6 b.e7) c d)
             (pIf (a==(((0+1):Nat):Int))
               (kz4 n (IntKind.i64.wrap (a+1)) (kz0.mk b.e0 y15 b.e2 b.e3 b.e4 b.e5 b.e6 b.e7) c d)
               (kz4 n (IntKind.i64.wrap (a+1)) (kz0.mk y15 b.e1 b.e2 b.e3 b.e4 b.e5 b.e6 b.e7) c d)))))))
def zz4:Nat->Int->kz0->kz0->Ot (Int×kz0)
 |0,_,_,_=>none
 |n+1,a,b,c=>
  pIf (decide (a<8))
   ((inR 8 a).bind λx5=>
   pIf (a==(((6+1):Nat):Int))
    ((kzq n c.e7 (-1000000)).bind λy6=>
    pIf (!y6)
     (some (16,(kz0.mk (zz0.mk 0 0 0) (zz0.mk 0 0 0) (zz0.mk 0 0 0) (zz0.mk 0 0 0) (zz0.mk 0 0 0) (zz0.mk 0 0 0) (zz0.mk 0 0 0) (zz0.mk 0 0 0))))
     (zz4 n (IntKind.i64.wrap (a+1)) b c))
    (pIf (a==(((5+1):Nat):Int))
      ((kzq n c.e6 (-1000000)).bind λy7=>
      pIf (!y7)
       (some (16,(kz0.mk (zz0.mk 0 0 0) (zz0.mk 0 0 0) (zz0.mk 0 0 0) (zz0.mk 0 0 0) (zz0.mk 0 0 0) (zz0.mk 0 0 0) (zz0.mk 0 0 0) (zz0.mk 0 0 0))))
       (zz4 n (IntKind.i64.wrap (a+1)) b c))
      (pIf (a==(((4+1):Nat):Int))
        ((kzq n c.e5 (-1000000)).bind λy8=>
        pIf (!y8)
         (some (16,(kz0.mk (zz0.mk 0 0 0) (zz0.mk 0 0 0) (zz0.mk 0 0 0) (zz0.mk 0 0 0) (zz0.mk 0 0 0) (zz0.mk 0 0 0) (zz0.mk 0 0 0) (zz0.mk 0 0 0))))
         (zz4 n (IntKind.i64.wrap (a+1)) b c))
        (pIf (a==(((3+1):Nat):Int))
          ((kzq n c.e4 (-1000000)).bind λy9=>
          pIf (!y9)
           (some (16,(kz0.mk (zz0.mk 0 0 0) (zz0.mk 0 0 0) (zz0.mk 0 0 0) (zz0.mk 0 0 0) (zz0.mk 0 0 0) (zz0.mk 0 0 0) (zz0.mk 0 0 0) (zz0.mk 0 0 0))))
           (zz4 n (IntKind.i64.wrap (a+1)) b c))
          (pIf (a==(((2+1):Nat):Int))
            ((kzq n c.e3 (-1000000)).bind λy10=>
            pIf (!y10)
             (some (16,(kz0.mk (zz0.mk 0 0 0) (zz0.mk 0 0 0) (zz0.mk 0 0 0) (zz0.mk 0 0 0) (zz0.mk 0 0 0) (zz0.mk 0 0 0) (zz0.mk 0 0 0) (zz0.mk 0 0 0))))
             (zz4 n (IntKind.i64.wrap (a+1)) b c))
            (pIf (a==(((1+1):Nat):Int))
              ((kzq n c.e2 (-1000000)).bind λy11=>
              pIf (!y11)
               (some (16,(kz0.mk (zz0.mk 0 0 0) (zz0.mk 0 0 0) (zz0.mk 0 0 0) (zz0.mk 0 0 0) (zz0.mk 0 0 0) (zz0.mk 0 0 0) (zz0.mk 0 0 0) (zz0.mk 0 0 0))))
               (zz4 n (IntKind.i64.wrap (a+1)) b c))
              (pIf (a==(((0+1):Nat):Int))
                ((kzq n c.e1 (-1000000)).bind λy12=>
                pIf (!y12)
                 (some (16,(kz0.mk (zz0.mk 0 0 0) (zz0.mk 0 0 0) (zz0.mk 0 0 0) (zz0.mk 0 0 0) (zz0.mk 0 0 0) (zz0.mk 0 0 0) (zz0.mk 0 0 0) (zz0.mk 0 0 0))))
                 (zz4 n (IntKind.i64.wrap (a+1)) b c))
                ((kzq n c.e0 (-1000000)).bind λy13=>
                pIf (!y13)
                 (some (16,(kz0.mk (zz0.mk 0 0 0) (zz0.mk 0 0 0) (zz0.mk 0 0 0) (zz0.mk 0 0 0) (zz0.mk 0 0 0) (zz0.mk 0 0 0) (zz0.mk 0 0 0) (zz0.mk 0 0 0))))
                 (zz4 n (IntKind.i64.wrap (a+1)) b c)))))))))
   (some (0,c))
end
def zlb:LSh:=⟨[(2,(.ptr 0 0)),(3,dI)],[(.st 1)],0,58,[]⟩
noncomputable def zcj:FI dat:=FI.of dat 36 58 0 [dT 7] [] [dT 1,dI] [] true zlb (R:=Int×kz0) (λx=>(x.1,x.2.1)) (λr=>(r.2,r.1,())) (λn=>u1 (z1m n))
 (λn=>[(0,⟨⟨[(5,dI),(4,(.ptr 0 0)),(1,(.ptr 1 0)),(2,(.ptr 2 0))],[(.st 1),(.st 7),(.st 1)],0,58,[]⟩,u4 (kz4 n)⟩),(1,⟨⟨[(4,(.ptr 0 0)),(1,(.ptr 1 0)),(2,(.ptr 2 0)),(5,dI),(6,(.ptr 3 0))],[(.st 1),(.st 7),(.st 1),(.st 3)],0,58,[]⟩,u5 (z08 n)⟩),(2,⟨⟨[(4,(.ptr 0 0)),(1,(.ptr 1 0)),(2,(.ptr 2 0)),(5,dI),(6,(.ptr 3 0))],[(.st 1),(.st 7),(.st 1),(.st 3)],0,58,[]⟩,u5 (z0b n)⟩),(3,⟨⟨[(4,(.ptr 0 0)),(1,(.ptr 1 0)),(2,(.ptr 2 0)),(5,dI),(6,(.ptr 3 0))],[(.st 1),(.st 7),(.st 1),(.st 3)],0,58,[]⟩,u5 (z09 n)⟩),(4,⟨⟨[(2,(.ptr 0 0)),(7,dI),(4,(.ptr 1 0))],[(.st 1),(.st 1)],0,58,[]⟩,u3 (zz4 n)⟩)]) (anb [(16,0),(33,1),(39,2),(45,3),(51,4)] Try.f36)
theorem zil:FOk Try.prog zcj:=okF (bs:=[ze7,zbv,zfo]) ⟨zl4,zdo,znj,trivial⟩ Try.func36 Try.ntmps36 Try.call36
 (λ_ _=>tr (z1m.eq_2 ..))
 (λn=>⟨λ_=>tr (kz4.eq_2 ..),
  λ_=>tr (z08.eq_2 ..),
  λ_=>tr (z0b.eq_2 ..),
  λ_=>tr (z09.eq_2 ..),
  λ_=>tr (zz4.eq_2 ..),
  trivial⟩)
mutual
def z18:Nat->zz5->Ot (Int×kz7)
 |0,_=>none
 |n+1,a=>
  (z1m n a).bind λy0=>
  pIf (y0.1 != 0)
   (some (y0.1,(kz7.mk (zz0.mk 0 0 0) (zz0.mk 0 0 0))))
   (pIf (a.size_.x==0)
     (zzu n true (kz7.mk (zz0.mk 0 0 0) (zz0.mk 0 0 0)) y0.2)
     (pIf (a.size_.y==0)
       (zzu n true (kz7.mk (zz0.mk 0 0 0) (zz0.mk 0 0 0)) y0.2)
       (zzu n (a.size_.z==0) (kz7.mk (zz0.mk 0 0 0) (zz0.mk 0 0 0)) y0.2)))
def zzu:Nat->Bool->kz7->kz0->Ot (Int×kz7)
 |0,_,_,_=>none
 |n+1,a,b,c=>
  pIf a
   (some (6,(kz7.mk (zz0.mk 0 0 0) (zz0.mk 0 0 0))))
   ((inR 8 0).bind λx1=>
   (inR 8 7).bind λx2=>
   some (0,(kz7.mk (zz0.mk (mnI c.e0.x c.e7.x) (mnI c.e0.y c.e7.y) (mnI c.e0.z c.e7.z)) (zz0.mk (mxI c.e0.x c.e7.x) (mxI c.e0.y c.e7.y) (mxI c.e0.z c.e7.z)))))
end
def zw4:LSh:=⟨[(2,(.ptr 0 0)),(3,dI)],[(.st 4)],0,71,[]⟩
noncomputable def zjv:FI dat:=FI.of dat 23 71 0 [dT 7] [] [dT 4,dI] [] true zw4 (R:=Int×kz7) (λx=>(x.1,x.2.1)) (λr=>(r.2,r.1,())) (λn=>u1 (z18 n))
 (λn=>[(0,⟨⟨[(2,(.ptr 0 0)),(4,(.ptr 1 0)),(32,dB)],[(.st 4),(.st 1)],0,71,[]⟩,u3 (zzu n)⟩)]) (anb [(15,0)] Try.f23)
theorem zti:FOk Try.prog zjv:=okF (bs:=[zcj]) ⟨zil,trivial⟩ Try.func23 Try.ntmps23 Try.call23
 (λ_ _=>tr (z18.eq_2 ..))
 (λn=>⟨λx=>tr (zzu.eq_2 x.1 x.2.1 x.2.2.1 n),
  trivial⟩)
mutual
def z1a:Nat->B8->Ot (List B8)
 |0,_=>none
 |n+1,a=>
  pIf (a==[])
   (some [])
   (z11 n 0 0 a [])
def z11:Nat->Int->Int->B8->(List B8)->Ot (List B8)
 |0,_,_,_,_=>none
 |n+1,a,b,c,d=>
  pIf (decide (a<=(c.length:Int)))
   (pIf (a==(c.length:Int))
     (z23 n c a b true d)
     ((ix c a).bind λx0=>
     z23 n c a b ((x0.toNat:Int)==47) d))
   (some d)
def z23:Nat->B8->Int->Int->Bool->(List B8)->Ot (List B8)
 |0,_,_,_,_,_=>none
 |n+1,a,b,c,d,e=>
  pIf d
   ((sub a c b).bind λx1=>
   (ext e [x1]).bind λx2=>
   z25 n (IntKind.i64.wrap (b+1)) a b x2)
   (z25 n c a b e)
def z25:Nat->Int->B8->Int->(List B8)->Ot (List B8)
 |0,_,_,_,_=>none
 |n+1,a,b,c,d=>
  z11 n (IntKind.i64.wrap (c+1)) a b d
end
def zuw:LSh:=⟨[(2,dA)],[],0,34,[]⟩
noncomputable def zcl:FI dat:=FI.of dat 37 34 0 [dS] [] [dA] [] true zuw (R:=List B8) Prod.fst (·,()) (λn=>u1 (z1a n))
 (λn=>[(0,⟨⟨[(5,dI),(4,dI),(0,dS),(3,(.own 0))],[(.acc 9 .str true)],0,34,[]⟩,u4 (z11 n)⟩),(1,⟨⟨[(0,dS),(5,dI),(4,dI),(3,(.own 0)),(23,dB)],[(.acc 9 .str true)],0,34,[]⟩,u5 (z23 n)⟩),(2,⟨⟨[(4,dI),(0,dS),(3,(.own 0)),(5,dI)],[(.acc 9 .str true)],0,34,[]⟩,u4 (z25 n)⟩)]) (anb [(18,0),(29,1),(34,2)] Try.f37)
theorem zhe:FOk Try.prog zcl:=okF (bs:=[]) trivial Try.func37 Try.ntmps37 Try.call37
 (λ_ _=>tr (z1a.eq_2 ..))
 (λn=>⟨λ_=>tr (z11.eq_2 ..),
  λ_=>tr (z23.eq_2 ..),
  λ_=>tr (z25.eq_2 ..),
  trivial⟩)
def z2b:Nat->Int->Ot Bool
 |0,_=>none
 |n+1,a=>
  pIf (decide (a>=97))
   (some (decide (a<=122)))
   (some false)
def znh:LSh:=⟨[(2,dB)],[],0,9,[]⟩
noncomputable def zd5:FI dat:=FI.of dat 87 9 0 [dU] [] [dB] [] true znh (R:=Bool) Prod.fst (·,()) (λn=>u1 (z2b n))
 (λn=>[]) (anb [] Try.f87)
theorem zkn:FOk Try.prog zd5:=okF (bs:=[]) trivial Try.func87 Try.ntmps87 Try.call87
 (λn=>λ_=>tr (z2b.eq_2 _ n))
 (λn=>trivial)
def z1u:Nat->Int->Ot Bool
 |0,_=>none
 |n+1,a=>
  pIf (decide (a>=48))
   (some (decide (a<=57)))
   (some false)
def zon:LSh:=⟨[(2,dB)],[],0,9,[]⟩
noncomputable def zah:FI dat:=FI.of dat 69 9 0 [dU] [] [dB] [] true zon (R:=Bool) Prod.fst (·,()) (λn=>u1 (z1u n))
 (λn=>[]) (anb [] Try.f69)
theorem zdm:FOk Try.prog zah:=okF (bs:=[]) trivial Try.func69 Try.ntmps69 Try.call69
 (λn=>λ_=>tr (z1u.eq_2 _ n))
 (λn=>trivial)
mutual
def z3q:Nat->B8->Ot Bool
 |0,_=>none
 |n+1,a=>
  yzk n 0 a
def yzk:Nat->Int->B8->Ot Bool
 |0,_,_=>none
 |n+1,a,b=>
  pIf (decide (a<(b.length:Int)))
   ((ix b a).bind λx0=>
   (z2b n (x0.toNat:Int)).bind λy1=>
   pIf (!y1)
    (pIf (a==0)
      (kzn n b a true)
      ((ix b a).bind λx2=>
      pIf ((x2.toNat:Int) != 45)
       ((ix b a).bind λx3=>
       (z1u n (x3.toNat:Int)).bind λy4=>
       kzn n b a (!y4))
       (kzn n b a false)))
    (kzn n b a false))
   (pIf (decide ((b.length:Int)>=1))
     (some (decide ((b.length:Int)<=40)))
     (some false))
def kzn:Nat->B8->Int->Bool->Ot Bool
 |0,_,_,_=>none
 |n+1,a,b,c=>
  pIf c
   (some false)
   (yzk n (IntKind.i64.wrap (b+1)) a)
end
def zso:LSh:=⟨[(2,dB)],[],0,40,[]⟩
noncomputable def zhj:FI dat:=FI.of dat 68 40 0 [dS] [] [dB] [] true zso (R:=Bool) Prod.fst (·,()) (λn=>u1 (z3q n))
 (λn=>[(0,⟨⟨[(3,dI),(0,dS)],[],0,40,[]⟩,u2 (yzk n)⟩),(1,⟨⟨[(0,dS),(3,dI),(31,dB)],[],0,40,[]⟩,u3 (kzn n)⟩)]) (anb [(6,0),(17,1)] Try.f68)
theorem zq5:FOk Try.prog zhj:=okF (bs:=[zd5,zah]) ⟨zkn,zdm,trivial⟩ Try.func68 Try.ntmps68 Try.call68
 (λ_ _=>tr (z3q.eq_2 ..))
 (λn=>⟨λ_=>tr (yzk.eq_2 ..),
  λ_=>tr (kzn.eq_2 ..),
  trivial⟩)
mutual
def z3r:Nat->B8->Ot (B8×Int×Bool)
 |0,_=>none
 |n+1,a=>
  zzw n 0 a
def zzw:Nat->Int->B8->Ot (B8×Int×Bool)
 |0,_,_=>none
 |n+1,a,b=>
  pIf (decide (a<(b.length:Int)))
   ((ix b a).bind λx0=>
   yzx n b a ((x0.toNat:Int) != 91))
   (yzx n b a false)
def yzx:Nat->B8->Int->Bool->Ot (B8×Int×Bool)
 |0,_,_,_=>none
 |n+1,a,b,c=>
  pIf c
   (zzw n (IntKind.i64.wrap (b+1)) a)
   ((sub a 0 b).bind λx1=>
   (z3q n x1).bind λy2=>
   pIf (!y2)
    (some ([],0,false))
    (pIf (b==(a.length:Int))
      (some (a,(-1),true))
      ((ix a (IntKind.i64.wrap ((a.length:Int)-1))).bind λx3=>
      pIf ((x3.toNat:Int) != 93)
       (some ([],0,false))
       ((sub a (IntKind.i64.wrap (b+1)) (IntKind.i64.wrap ((a.length:Int)-1))).bind λx4=>
       zzk n 0 x4 0 b a))))
def zzk:Nat->Int->B8->Int->Int->B8->Ot (B8×Int×Bool)
 |0,_,_,_,_,_=>none
 |n+1,a,b,c,d,e=>
  pIf (decide (a<(b.length:Int)))
   ((ix b a).bind λx5=>
   (z1u n (x5.toNat:Int)).bind λy6=>
   pIf (!y6)
    (z0f n b d e a c true)
    (z0f n b d e a c (decide (a>3))))
   (pIf ((b.length:Int)==0)
     (kzx n c d e true)
     (pIf (decide ((b.length:Int)>1))
       ((ix b 0).bind λx7=>
       kzx n c d e ((x7.toNat:Int)==48))
       (kzx n c d e false)))
def z0f:Nat->B8->Int->B8->Int->Int->Bool->Ot (B8×Int×Bool)
 |0,_,_,_,_,_,_=>none
 |n+1,a,b,c,d,e,f=>
  pIf f
   (some ([],0,false))
   ((ix a d).bind λx8=>
   zzk n (IntKind.i64.wrap (d+1)) a (IntKind.i64.wrap ((IntKind.i64.wrap (10 * e))+(IntKind.i64.wrap (IntKind.u8.wrap ((x8.toNat:Int)-48))))) b c)
def kzx:Nat->Int->Int->B8->Bool->Ot (B8×Int×Bool)
 |0,_,_,_,_=>none
 |n+1,a,b,c,d=>
  pIf d
   (some ([],0,false))
   ((sub c 0 b).bind λx9=>
   some (x9,a,true))
end
def zrg:LSh:=⟨[(2,dS),(3,dI),(4,dB)],[],0,84,[]⟩
noncomputable def zh4:FI dat:=FI.of dat 38 84 0 [dS] [] [dS,dI,dB] [] true zrg (R:=B8×Int×Bool) (λx=>(x.1,x.2.1,x.2.2.1)) (λr=>(r.1,r.2.1,r.2.2,())) (λn=>u1 (z3r n))
 (λn=>[(0,⟨⟨[(5,dI),(0,dS)],[],0,84,[]⟩,u2 (zzw n)⟩),(1,⟨⟨[(0,dS),(5,dI),(18,dB)],[],0,84,[]⟩,u3 (yzx n)⟩),(2,⟨⟨[(8,dI),(6,dS),(7,dI),(5,dI),(0,dS)],[],0,84,[]⟩,u5 (zzk n)⟩),(3,⟨⟨[(6,dS),(5,dI),(0,dS),(8,dI),(7,dI),(58,dB)],[],0,84,[]⟩,u6 (z0f n)⟩),(4,⟨⟨[(7,dI),(5,dI),(0,dS),(79,dB)],[],0,84,[]⟩,u4 (kzx n)⟩)]) (anb [(6,0),(10,1),(47,2),(59,3),(69,4)] Try.f38)
theorem zpp:FOk Try.prog zh4:=okF (bs:=[zhj,zah]) ⟨zq5,zdm,trivial⟩ Try.func38 Try.ntmps38 Try.call38
 (λ_ _=>tr (z3r.eq_2 ..))
 (λn=>⟨λ_=>tr (zzw.eq_2 ..),
  λ_=>tr (yzx.eq_2 ..),
  λ_=>tr (zzk.eq_2 ..),
  λ_=>tr (z0f.eq_2 ..),
  λ_=>tr (kzx.eq_2 _ _ _ _ n),
  trivial⟩)
mutual
def z00:Nat->B8->Ot Int
 |0,_=>none
 |n+1,a=>
  pIf (decide ((a.length:Int)>4000))
   (some 4)
   ((z1a n a).bind λy0=>
   pIf (decide ((y0.length:Int)>40))
    (some 4)
    (z04 n 0 y0))
def z04:Nat->Int->(List B8)->Ot Int
 |0,_,_=>none
 |n+1,a,b=>
  pIf (decide (a<(b.length:Int)))
   ((ix b a).bind λx1=>
   (z3r n x1).bind λy2=>
   pIf (!y2.2.2)
    (some 12)
    (z04 n (IntKind.i64.wrap (a+1)) b))
   (some 0)
end
def zp4:LSh:=⟨[(2,dI)],[],0,33,[]⟩
noncomputable def zaf:FI dat:=FI.of dat 24 33 0 [dS] [] [dI] [] true zp4 (R:=Int) Prod.fst (·,()) (λn=>u1 (z00 n))
 (λn=>[(0,⟨⟨[(4,dI),(3,dA)],[],0,33,[]⟩,u2 (z04 n)⟩)]) (anb [(24,0)] Try.f24)
theorem zdq:FOk Try.prog zaf:=okF (bs:=[zcl,zh4]) ⟨zhe,zpp,trivial⟩ Try.func24 Try.ntmps24 Try.call24
 (λ_ _=>tr (z00.eq_2 ..))
 (λn=>⟨λ_=>tr (z04.eq_2 ..),
  trivial⟩)
mutual
def z1d:Nat->zz6->B8->Ot (Int×Int)
 |0,_,_=>none
 |n+1,a,b=>
  kzw n 0 b a
def kzw:Nat->Int->B8->zz6->Ot (Int×Int)
 |0,_,_,_=>none
 |n+1,a,b,c=>
  pIf (decide (a<(c.length:Int)))
   ((ix c a).bind λx0=>
   pIf (x0.path==b)
    (some (a,0))
    (kzw n (IntKind.i64.wrap (a+1)) b c))
   (some (0,6))
end
def zt5:LSh:=⟨[(4,dI),(5,dI)],[],0,21,[]⟩
noncomputable def zbu:FI dat:=FI.of dat 13 21 0 [dL 10,dS] [] [dI,dI] [] true zt5 (R:=Int×Int) (λx=>(x.1,x.2.1)) (λr=>(r.1,r.2,())) (λn=>u2 (z1d n))
 (λn=>[(0,⟨⟨[(6,dI),(1,dS),(0,dL 10)],[],0,21,[]⟩,u3 (kzw n)⟩)]) (anb [(6,0)] Try.f13)
theorem zf8:FOk Try.prog zbu:=okF (bs:=[]) trivial Try.func13 Try.ntmps13 Try.call13
 (λ_ _=>tr (z1d.eq_2 ..))
 (λn=>⟨λ_=>tr (kzw.eq_2 ..),
  trivial⟩)
mutual
def z07:Nat->zz6->Ot Int
 |0,_=>none
 |n+1,a=>
  pIf (decide ((a.length:Int)>2000))
   (some 4)
   (kzd n 0 a)
def kzd:Nat->Int->zz6->Ot Int
 |0,_,_=>none
 |n+1,a,b=>
  pIf (decide (a<(b.length:Int)))
   ((ix b a).bind λx0=>
   (z18 n x0.scope).bind λy1=>
   (ix b a).bind λx2=>
   (z00 n x2.path).bind λy3=>
   pIf (y3 != 0)
    (zzh n b a true)
    ((ix b a).bind λx4=>
    pIf ((x4.path.length:Int)==0)
     (zzh n b a true)
     (pIf (y1.1 != 0)
       (zzh n b a (y1.1 != 6))
       (zzh n b a false))))
   (zze n 0 b)
def zzh:Nat->zz6->Int->Bool->Ot Int
 |0,_,_,_=>none
 |n+1,a,b,c=>
  pIf c
   (some 8)
   (kzd n (IntKind.i64.wrap (b+1)) a)
def zze:Nat->Int->zz6->Ot Int
 |0,_,_=>none
 |n+1,a,b=>
  pIf (decide (a<(b.length:Int)))
   ((ix b a).bind λx5=>
   (z1d n b x5.path).bind λy6=>
   pIf (y6.1 != a)
    (some 8)
    (zze n (IntKind.i64.wrap (a+1)) b))
   (some 0)
end
def zp2:LSh:=⟨[(2,dI)],[],0,70,[]⟩
noncomputable def zf9:FI dat:=FI.of dat 12 70 0 [dL 10] [] [dI] [] true zp2 (R:=Int) Prod.fst (·,()) (λn=>u1 (z07 n))
 (λn=>[(0,⟨⟨[(3,dI),(0,dL 10)],[],0,70,[]⟩,u2 (kzd n)⟩),(1,⟨⟨[(0,dL 10),(3,dI),(50,dB)],[],0,70,[]⟩,u3 (zzh n)⟩),(2,⟨⟨[(6,dI),(0,dL 10)],[],0,70,[]⟩,u2 (zze n)⟩)]) (anb [(14,0),(27,1),(37,2)] Try.f12)
theorem zng:FOk Try.prog zf9:=okF (bs:=[zjv,zaf,zbu]) ⟨zti,zdq,zf8,trivial⟩ Try.func12 Try.ntmps12 Try.call12
 (λ_ _=>tr (z07.eq_2 ..))
 (λn=>⟨λ_=>tr (kzd.eq_2 ..),
  λ_=>tr (zzh.eq_2 ..),
  λ_=>tr (zze.eq_2 ..),
  trivial⟩)
def z2u:Nat->B8->B8->Ot Int
 |0,_,_=>none
 |n+1,a,b=>
  (z00 n a).bind λy0=>
  pIf (y0 != 0)
   ((z00 n a).bind λy1=>
   some y1)
   ((z00 n b).bind λy2=>
   some y2)
def zrw:LSh:=⟨[(4,dI)],[],0,12,[]⟩
noncomputable def zid:FI dat:=FI.of dat 39 12 0 [dS,dS] [] [dI] [] true zrw (R:=Int) Prod.fst (·,()) (λn=>u2 (z2u n))
 (λn=>[]) (anb [] Try.f39)
theorem zq0:FOk Try.prog zid:=okF (bs:=[zaf]) ⟨zdq,trivial⟩ Try.func39 Try.ntmps39 Try.call39
 (λ_ _=>tr (z2u.eq_2 ..))
 (λn=>trivial)
mutual
def z29:Nat->(List B8)->(List B8)->Ot Int
 |0,_,_=>none
 |n+1,a,b=>
  kzu n 0 b a
def kzu:Nat->Int->(List B8)->(List B8)->Ot Int
 |0,_,_,_=>none
 |n+1,a,b,c=>
  pIf (decide (a<(c.length:Int)))
   (pIf (decide (a<(b.length:Int)))
     ((ix c a).bind λx0=>
     (ix b a).bind λx1=>
     kzr n b c a (x0==x1))
     (kzr n b c a false))
   (kzr n b c a false)
def kzr:Nat->(List B8)->(List B8)->Int->Bool->Ot Int
 |0,_,_,_,_=>none
 |n+1,a,b,c,d=>
  pIf d
   (kzu n (IntKind.i64.wrap (c+1)) a b)
   (some c)
end
def zms:LSh:=⟨[(4,dI)],[],0,30,[]⟩
noncomputable def zde:FI dat:=FI.of dat 40 30 0 [dA,dA] [] [dI] [] true zms (R:=Int) Prod.fst (·,()) (λn=>u2 (z29 n))
 (λn=>[(0,⟨⟨[(5,dI),(1,dA),(0,dA)],[],0,30,[]⟩,u3 (kzu n)⟩),(1,⟨⟨[(1,dA),(0,dA),(5,dI),(26,dB)],[],0,30,[]⟩,u4 (kzr n)⟩)]) (anb [(6,0),(10,1)] Try.f40)
theorem zla:FOk Try.prog zde:=okF (bs:=[]) trivial Try.func40 Try.ntmps40 Try.call40
 (λ_ _=>tr (z29.eq_2 ..))
 (λn=>⟨λ_=>tr (kzu.eq_2 ..),
  λ_=>tr (kzr.eq_2 ..),
  trivial⟩)
def z2z:Nat->B8->B8->Ot (Bool×Int)
 |0,_,_=>none
 |n+1,a,b=>
  (z2u n a b).bind λy0=>
  pIf (y0 != 0)
   ((z2u n a b).bind λy1=>
   some (false,y1))
   ((z1a n a).bind λy2=>
   (z1a n b).bind λy3=>
   (z29 n y2 y3).bind λy4=>
   (z1a n b).bind λy5=>
   some ((y4==(y5.length:Int)),0))
def zox:LSh:=⟨[(4,dB),(5,dI)],[],0,22,[]⟩
noncomputable def zf1:FI dat:=FI.of dat 25 22 0 [dS,dS] [] [dB,dI] [] true zox (R:=Bool×Int) (λx=>(x.1,x.2.1)) (λr=>(r.1,r.2,())) (λn=>u2 (z2z n))
 (λn=>[]) (anb [] Try.f25)
theorem zny:FOk Try.prog zf1:=okF (bs:=[zid,zcl,zde]) ⟨zq0,zhe,zla,trivial⟩ Try.func25 Try.ntmps25 Try.call25
 (λ_ _=>tr (z2z.eq_2 ..))
 (λn=>trivial)
mutual
def z2d:Nat->B8->(List B8)->Ot (List B8)
 |0,_,_=>none
 |n+1,a,b=>
  zzr n 0 a b
def zzr:Nat->Int->B8->(List B8)->Ot (List B8)
 |0,_,_,_=>none
 |n+1,a,b,c=>
  pIf (decide (a<(c.length:Int)))
   ((ix c a).bind λx0=>
   zzv n b a (Op.bytesLess x0 b) c)
   (zzv n b a false c)
def zzv:Nat->B8->Int->Bool->(List B8)->Ot (List B8)
 |0,_,_,_,_=>none
 |n+1,a,b,c,d=>
  pIf c
   (zzr n (IntKind.i64.wrap (b+1)) a d)
   (pIf (decide (b<(d.length:Int)))
     ((ix d b).bind λx1=>
     yzv n a b (x1==a) d)
     (yzv n a b false d))
def yzv:Nat->B8->Int->Bool->(List B8)->Ot (List B8)
 |0,_,_,_,_=>none
 |n+1,a,b,c,d=>
  pIf c
   (some d)
   ((ext d [[]]).bind λx2=>
   (zv4 x2 (IntKind.i64.wrap (b+1))).bind λx3=>
   (zv4 x2 b).bind λx4=>
   (zgk x2 (IntKind.i64.wrap (b+1)) b).bind λx5=>
   (ix x5 b).bind λx6=>
   some (x5.set (Int.toNat b) a))
end
def zo3:LSh:=⟨[(4,(.own 0))],[(.acc 9 .str true)],0,49,[]⟩
noncomputable def zd7:FI dat:=FI.of dat 26 49 0 [(.own 0),dS] [(.acc 9 .str true)] [(.own 0)] [(.acc 9 .str true)] false zo3 (R:=List B8) Prod.fst (·,()) (λn=>u2 (z2d n))
 (λn=>[(0,⟨⟨[(5,dI),(0,(.own 0)),(1,dS)],[(.acc 9 .str true)],0,49,[]⟩,u3 (zzr n)⟩),(1,⟨⟨[(0,(.own 0)),(1,dS),(5,dI),(17,dB)],[(.acc 9 .str true)],0,49,[]⟩,u4 (zzv n)⟩),(2,⟨⟨[(0,(.own 0)),(1,dS),(5,dI),(31,dB)],[(.acc 9 .str true)],0,49,[]⟩,u4 (yzv n)⟩)]) (anb [(6,0),(10,1),(18,2)] Try.f26)
theorem zko:FOk Try.prog zd7:=okF (bs:=[]) trivial Try.func26 Try.ntmps26 Try.call26
 (λ_ _=>tr (z2d.eq_2 ..))
 (λn=>⟨λ_=>tr (zzr.eq_2 ..),
  λ_=>tr (zzv.eq_2 ..),
  λ_=>tr (yzv.eq_2 _ _ _ _ n),
  trivial⟩)
mutual
def z27:Nat->zz6->B8->(List B8)->Ot (List B8)
 |0,_,_,_=>none
 |n+1,a,b,c=>
  yzr n 0 a b c
def yzr:Nat->Int->zz6->B8->(List B8)->Ot (List B8)
 |0,_,_,_,_=>none
 |n+1,a,b,c,d=>
  pIf (decide (a<(b.length:Int)))
   ((ix b a).bind λx0=>
   (z2z n c x0.path).bind λy1=>
   pIf y1.1
    ((ix b a).bind λx2=>
    z0i n b c a (decide ((x2.rule_.length:Int)>0)) d)
    (z0i n b c a false d))
   (some d)
def z0i:Nat->zz6->B8->Int->Bool->(List B8)->Ot (List B8)
 |0,_,_,_,_,_=>none
 |n+1,a,b,c,d,e=>
  pIf d
   ((ix a c).bind λx3=>
   (z2d n x3.rule_ e).bind λy4=>
   kzv n a b c y4)
   (kzv n a b c e)
def kzv:Nat->zz6->B8->Int->(List B8)->Ot (List B8)
 |0,_,_,_,_=>none
 |n+1,a,b,c,d=>
  yzr n (IntKind.i64.wrap (c+1)) a b d
end
def zmq:LSh:=⟨[(6,(.own 0))],[(.acc 9 .str true)],0,44,[]⟩
noncomputable def zdz:FI dat:=FI.of dat 14 44 0 [dL 10,dS,(.own 0)] [(.acc 9 .str true)] [(.own 0)] [(.acc 9 .str true)] false zmq (R:=List B8) Prod.fst (·,()) (λn=>u3 (z27 n))
 (λn=>[(0,⟨⟨[(7,dI),(0,dL 10),(2,(.own 0)),(1,dS)],[(.acc 9 .str true)],0,44,[]⟩,u4 (yzr n)⟩),(1,⟨⟨[(0,dL 10),(1,dS),(7,dI),(2,(.own 0)),(35,dB)],[(.acc 9 .str true)],0,44,[]⟩,u5 (z0i n)⟩),(2,⟨⟨[(0,dL 10),(2,(.own 0)),(1,dS),(7,dI)],[(.acc 9 .str true)],0,44,[]⟩,u4 (kzv n)⟩)]) (anb [(6,0),(19,1),(22,2)] Try.f14)
theorem zl3:FOk Try.prog zdz:=okF (bs:=[zd7,zf1]) ⟨zko,zny,trivial⟩ Try.func14 Try.ntmps14 Try.call14
 (λ_ _=>tr (z27.eq_2 ..))
 (λn=>⟨λ_=>tr (yzr.eq_2 ..),
  λ_=>tr (z0i.eq_2 ..),
  λ_=>tr (kzv.eq_2 ..),
  trivial⟩)
def z2a:Nat->zz6->B8->Ot ((List B8)×Int)
 |0,_,_=>none
 |n+1,a,b=>
  (z07 n a).bind λy0=>
  pIf (y0 != 0)
   ((z07 n a).bind λy1=>
   some ([],y1))
   ((z1d n a b).bind λy2=>
   pIf (y2.2 != 0)
    (some ([],y2.2))
    ((z27 n a b []).bind λy3=>
    some (y3,0)))
def znw:LSh:=⟨[(4,dA),(5,dI)],[],0,25,[]⟩
noncomputable def zdv:FI dat:=FI.of dat 6 25 0 [dL 10,dS] [] [dA,dI] [] true znw (R:=(List B8)×Int) (λx=>(x.1,x.2.1)) (λr=>(r.1,r.2,())) (λn=>u2 (z2a n))
 (λn=>[]) (anb [] Try.f6)
theorem zkl:FOk Try.prog zdv:=okF (bs:=[zdz,zf9,zbu]) ⟨zl3,zng,zf8,trivial⟩ Try.func6 Try.ntmps6 Try.call6
 (λ_ _=>tr (z2a.eq_2 ..))
 (λn=>trivial)
def z1e:Nat->kz7->Ot (z2o×z2o)
 |0,_=>none
 |n+1,a=>
  some ((z2o.mk a.lo.x a.lo.y a.lo.z),(z2o.mk a.hi.x a.hi.y a.hi.z))
def zsi:LSh:=⟨[(2,(.ptr 0 0)),(3,(.ptr 1 0))],[(.st 0),(.st 0)],0,24,[]⟩
noncomputable def zbi:FI dat:=FI.of dat 16 24 0 [dT 4] [] [dT 0,dT 0] [] true zsi (R:=z2o×z2o) (λx=>(x.1,x.2.1)) (λr=>(r.1,r.2,())) (λn=>u1 (z1e n))
 (λn=>[]) (anb [] Try.f16)
theorem zf4:FOk Try.prog zbi:=okF (bs:=[]) trivial Try.func16 Try.ntmps16 Try.call16
 (λn=>λ_=>tr (z1e.eq_2 _ n))
 (λn=>trivial)
def z2r:Nat->kz7->Ot Bool
 |0,_=>none
 |n+1,a=>
  (z1e n a).bind λy0=>
  pIf (decide (y0.1.e0>=y0.2.e0))
   (some false)
   (pIf (decide (y0.1.e0<(-1000000)))
     (some false)
     (pIf (decide (y0.2.e0>1000000))
       (some false)
       (pIf (decide (y0.1.e1>=y0.2.e1))
         (some false)
         (pIf (decide (y0.1.e1<(-1000000)))
           (some false)
           (pIf (decide (y0.2.e1>1000000))
             (some false)
             (pIf (decide (y0.1.e2>=y0.2.e2))
               (some false)
               (pIf (decide (y0.1.e2<(-1000000)))
                 (some false)
                 (pIf (decide (y0.2.e2>1000000))
                   (some false)
                   (some true)))))))))
def zs4:LSh:=⟨[(2,dB)],[],0,34,[]⟩
noncomputable def zhp:FI dat:=FI.of dat 15 34 0 [dT 4] [] [dB] [] true zs4 (R:=Bool) Prod.fst (·,()) (λn=>u1 (z2r n))
 (λn=>[]) (anb [] Try.f15)
theorem zor:FOk Try.prog zhp:=okF (bs:=[zbi]) ⟨zf4,trivial⟩ Try.func15 Try.ntmps15 Try.call15
 (λ_ _=>tr (z2r.eq_2 ..))
 (λn=>trivial)
def z4j:Nat->kz7->kz7->Ot Int
 |0,_,_=>none
 |n+1,a,b=>
  (z2r n a).bind λy0=>
  pIf (!y0)
   (some 0)
   ((z2r n b).bind λy1=>
   pIf (!y1)
    (some 0)
    ((z1e n a).bind λy2=>
    (z1e n b).bind λy3=>
    some (mxI (mxI (mxI (mxI (mxI (mxI 0 (IntKind.i64.wrap (y2.1.e0-y3.2.e0))) (IntKind.i64.wrap (y3.1.e0-y2.2.e0))) (IntKind.i64.wrap (y2.1.e1-y3.2.e1))) (IntKind.i64.wrap (y3.1.e1-y2.2.e1))) (IntKind.i64.wrap (y2.1.e2-y3.2.e2))) (IntKind.i64.wrap (y3.1.e2-y2.2.e2)))))
def zw7:LSh:=⟨[(4,dI)],[],0,50,[]⟩
noncomputable def zk4:FI dat:=FI.of dat 7 50 0 [dT 4,dT 4] [] [dI] [] true zw7 (R:=Int) Prod.fst (·,()) (λn=>u2 (z4j n))
 (λn=>[]) (anb [] Try.f7)
theorem zrk:FOk Try.prog zk4:=okF (bs:=[zhp,zbi]) ⟨zor,zf4,trivial⟩ Try.func7 Try.ntmps7 Try.call7
 (λ_ _=>tr (z4j.eq_2 ..))
 (λn=>trivial)
def z4d:Nat->zz0->Ot Bool
 |0,_=>none
 |n+1,a=>
  pIf (decide (a.x>=(-1000000)))
   (pIf (decide (a.x<=1000000))
     (pIf (decide (a.y>=(-1000000)))
       (pIf (decide (a.y<=1000000))
         (pIf (decide (a.z>=(-1000000)))
           (some (decide (a.z<=1000000)))
           (some false))
         (some false))
       (some false))
     (some false))
   (some false)
def zxc:LSh:=⟨[(2,dB)],[],0,31,[]⟩
noncomputable def zo8:FI dat:=FI.of dat 27 31 0 [dT 3] [] [dB] [] true zxc (R:=Bool) Prod.fst (·,()) (λn=>u1 (z4d n))
 (λn=>[]) (anb [] Try.f27)
theorem zve:FOk Try.prog zo8:=okF (bs:=[]) trivial Try.func27 Try.ntmps27 Try.call27
 (λn=>λ_=>tr (z4d.eq_2 _ n))
 (λn=>trivial)
def z2t:Nat->kz7->Ot Bool
 |0,_=>none
 |n+1,a=>
  (z4d n a.lo).bind λy0=>
  pIf y0
   ((z4d n a.hi).bind λy1=>
   pIf y1
    (pIf (decide (a.lo.x<a.hi.x))
      (pIf (decide (a.lo.y<a.hi.y))
        (some (decide (a.lo.z<a.hi.z)))
        (some false))
      (some false))
    (some false))
   (some false)
def zry:LSh:=⟨[(2,dB)],[],0,38,[]⟩
noncomputable def zhd:FI dat:=FI.of dat 17 38 0 [dT 4] [] [dB] [] true zry (R:=Bool) Prod.fst (·,()) (λn=>u1 (z2t n))
 (λn=>[]) (anb [] Try.f17)
theorem zot:FOk Try.prog zhd:=okF (bs:=[zo8]) ⟨zve,trivial⟩ Try.func17 Try.ntmps17 Try.call17
 (λ_ _=>tr (z2t.eq_2 ..))
 (λn=>trivial)
mutual
def z4p:Nat->kz7->kz7->Ot Int
 |0,_,_=>none
 |n+1,a,b=>
  (z2t n a).bind λy0=>
  pIf (!y0)
   (z26 n true a b)
   ((z2t n b).bind λy1=>
   z26 n (!y1) a b)
def z26:Nat->Bool->kz7->kz7->Ot Int
 |0,_,_,_=>none
 |n+1,a,b,c=>
  pIf a
   (some 0)
   (some (mxI (mxI (mxI (mxI 0 (IntKind.i64.wrap (b.lo.x-c.hi.x))) (IntKind.i64.wrap (c.lo.x-b.hi.x))) (mxI (mxI 0 (IntKind.i64.wrap (b.lo.y-c.hi.y))) (IntKind.i64.wrap (c.lo.y-b.hi.y)))) (mxI (mxI 0 (IntKind.i64.wrap (b.lo.z-c.hi.z))) (IntKind.i64.wrap (c.lo.z-b.hi.z)))))
end
def zvq:LSh:=⟨[(4,dI)],[],0,65,[]⟩
noncomputable def zjo:FI dat:=FI.of dat 8 65 0 [dT 4,dT 4] [] [dI] [] true zvq (R:=Int) Prod.fst (·,()) (λn=>u2 (z4p n))
 (λn=>[(0,⟨⟨[(2,(.ptr 0 0)),(3,(.ptr 1 0)),(15,dB)],[(.st 4),(.st 4)],0,65,[]⟩,u3 (z26 n)⟩)]) (anb [(5,0)] Try.f8)
theorem zs6:FOk Try.prog zjo:=okF (bs:=[zhd]) ⟨zot,trivial⟩ Try.func8 Try.ntmps8 Try.call8
 (λ_ _=>tr (z4p.eq_2 ..))
 (λn=>⟨λ_=>tr (z26.eq_2 _ _ _ n),
  trivial⟩)
mutual
noncomputable def zza:Nat->zz6->B8->kz7->kz7->Ot Bool
 |0,_,_,_,_=>none
 |n+1,a,b,c,d=>
  (z3b n a []).bind λy0=>
  pIf y0
   (kza n b a true d c)
   (kza n b a (decide ((b.length:Int)>5000)) d c)
noncomputable def kza:Nat->B8->zz6->Bool->kz7->kz7->Ot Bool
 |0,_,_,_,_,_=>none
 |n+1,a,b,c,d,e=>
  pIf c
   (some true)
   ((z22 n b a).bind λy1=>
   (z2a n b a).bind λy2=>
   pIf ((y1.1.length:Int) != (y2.1.length:Int))
    (zzd n y2.1 y1.1 true d e)
    (zzd n y2.1 y1.1 (y1.2 != y2.2) d e))
noncomputable def zzd:Nat->(List B8)->(List B8)->Bool->kz7->kz7->Ot Bool
 |0,_,_,_,_,_=>none
 |n+1,a,b,c,d,e=>
  pIf c
   (some false)
   (yza n 0 a b d e)
noncomputable def yza:Nat->Int->(List B8)->(List B8)->kz7->kz7->Ot Bool
 |0,_,_,_,_,_=>none
 |n+1,a,b,c,d,e=>
  pIf (decide (a<(c.length:Int)))
   ((ix c a).bind λx3=>
   (ix b a).bind λx4=>
   pIf (!(x3==x4))
    (some false)
    (yza n (IntKind.i64.wrap (a+1)) b c d e))
   ((z4j n e d).bind λy5=>
   (z4p n e d).bind λy6=>
   some (y5==y6))
end
def z81:LSh:=⟨[(8,dB)],[],0,65,[]⟩
noncomputable def z89:FI dat:=FI.of dat 3 65 0 [dL 10,dS,dT 4,dT 4] [] [dB] [] true z81 (R:=Bool) Prod.fst (·,()) (λn=>u4 (zza n))
 (λn=>[(0,⟨⟨[(7,(.ptr 0 0)),(6,(.ptr 1 0)),(1,dS),(0,dL 10),(20,dB)],[(.st 4),(.st 4)],0,65,[]⟩,u5 (kza n)⟩),(1,⟨⟨[(11,dA),(9,dA),(7,(.ptr 0 0)),(6,(.ptr 1 0)),(42,dB)],[(.st 4),(.st 4)],0,65,[]⟩,u5 (zzd n)⟩),(2,⟨⟨[(13,dI),(11,dA),(9,dA),(7,(.ptr 0 0)),(6,(.ptr 1 0))],[(.st 4),(.st 4)],0,65,[]⟩,u5 (yza n)⟩)]) (anb [(5,0),(17,1),(26,2)] Try.f3)
theorem z7l:FOk Try.prog z89:=okF (bs:=[zfh,zcv,zdv,zk4,zjo]) ⟨zo9,zkv,zkl,zrk,zs6,trivial⟩ Try.func3 Try.ntmps3 Try.call3
 (λn=>λ_=>tr (zza.eq_2 _ _ _ _ n))
 (λn=>⟨λ_=>tr (kza.eq_2 _ _ _ _ _ n),
  λ_=>tr (zzd.eq_2 _ _ _ _ _ n),
  λ_=>tr (yza.eq_2 _ _ _ _ _ n),
  trivial⟩)
theorem z7v(a0:zz6)(a1:B8)(a2:kz7)(a3:kz7):VRL dat [] 0 [dat.tv (.sl (.st 10)) a0,dat.tv .str a1,dat.tv (.st 4) a2,dat.tv (.st 4) a3] [dat.el (.sl (.st 10)) a0,dat.el .str a1,dat.el (.st 4) a2,dat.el (.st 4) a3]:=by
 simp only[VRL];exact⟨_,_,rfl,VR.tv (z9g Try.prog) (DR.el _ _),⟨_,_,rfl,VR.tv (z9g Try.prog) (DR.el _ _),⟨_,_,rfl,VR.tv (z9g Try.prog) (DR.el _ _),⟨_,_,rfl,VR.tv (z9g Try.prog) (DR.el _ _),rfl⟩⟩⟩⟩
theorem z6g(n:Nat)(a0:zz6)(a1:B8)(a2:kz7)(a3:kz7)(r:Bool)(h:zza n a0 a1 a2 a3=some r):zd6 Try.prog 3 [dat.el (.sl (.st 10)) a0,dat.el .str a1,dat.el (.st 4) a2,dat.el (.st 4) a3] (.bool r):=by
 obtain⟨y,h1,_,_,_,h2⟩:=z7l n _ (a0,a1,a2,a3,()) (λy=>some y.1) (λ_=>none) r (by show(zza n a0 a1 a2 a3).bind (λr=>some r)=some r;rw[h];rfl);obtain⟨vs,k1,k2⟩:=h2 0 [dat.el (.sl (.st 10)) a0,dat.el .str a1,dat.el (.st 4) a2,dat.el (.st 4) a3] (z7v a0 a1 a2 a3);injection h1 with h1;subst h1;have:=k1 [] 0;replace this:VRL dat [] 0 [TV.bool y.1] vs:=this;simp only[VRL,VR]at this;obtain⟨v,r,rfl,rfl,rfl⟩:=this
 exact k2
set_option linter.defProp false
def zoq{r}(a):=evS (z2q · a) r (z2q.eq_2 a)
def zb7{r}(a b):=evS (z1n · a b) r (z1n.eq_2 a b)
def zb9{r}(a b):=evS (zzn · a b) r (zzn.eq_2 a b)
def zbc{r}(a b c d e):=evS (z0m · a b c d e) r (z0m.eq_2 a b c d e)
def zbd{r}(a b c):=evS (kzj · a b c) r (kzj.eq_2 a b c)
def z5s{r}(a b):=evS (yzb · a b) r (yzb.eq_2 a b)
def z5q{r}(a b):=evS (kzb · a b) r (kzb.eq_2 a b)
def zdc{r}(a b):=evS (zzy · a b) r (zzy.eq_2 a b)
def zp9{r}(a):=evS (yzg · a) r (yzg.eq_2 a)
def z1k{r}(a b c d e):=evS (z0g · a b c d e) r (z0g.eq_2 a b c d e)
def zaz{r}(a b c d):=evS (yzl · a b c d) r (yzl.eq_2 a b c d)
def z6l{r}(a b c d e):=evS (z0j · a b c d e) r (z0j.eq_2 a b c d e)
def zaj{r}(a b c d e f g):=evS (z0e · a b c d e f g) r (z0e.eq_2 a b c d e f g)
def zml{r}(a b):=evS (z1s · a b) r (z1s.eq_2 a b)
def z9x{r}(a b c):=evS (zzt · a b c) r (zzt.eq_2 a b c)
def z9o{r}(a b c):=evS (z03 · a b c) r (z03.eq_2 a b c)
def zmh{r}(a):=evS (z1q · a) r (z1q.eq_2 a)
def z5z{r}(a b c):=evS (kzz · a b c) r (kzz.eq_2 a b c)
def z6d{r}(a b c d):=evS (yzz · a b c d) r (yzz.eq_2 a b c d)
def zdj{r}(a):=evS (z36 · a) r (z36.eq_2 a)
def zgh{r}(a):=evS (z0d · a) r (z0d.eq_2 a)
def z6k{r}(a b):=evS (zzp · a b) r (zzp.eq_2 a b)
def zog{r}(a):=evS (z01 · a) r (z01.eq_2 a)
def z2l{r}(a b):=evS (z06 · a b) r (z06.eq_2 a b)
def z5w{r}(a b c):=evS (yzp · a b c) r (yzp.eq_2 a b c)
def z8s{r}(a b):=evS (z3b · a b) r (z3b.eq_2 a b)
def zi9{r}(a b):=evS (yz9 · a b) r (yz9.eq_2 a b)
def zgy{r}(a b):=evS (z05 · a b) r (z05.eq_2 a b)
def zow{r}(a b):=evS (kz2 · a b) r (kz2.eq_2 a b)
def znl{r}(a):=evS (z2y · a) r (z2y.eq_2 a)
def z9n{r}(a):=evS (z0v · a) r (z0v.eq_2 a)
def zio{r}(a):=evS (z1l · a) r (z1l.eq_2 a)
def z7z{r}(a):=evS (z0a · a) r (z0a.eq_2 a)
def zsp{r}(a b):=evS (z6f · a b) r (z6f.eq_2 a b)
def zmd{r}(a b):=evS (z38 · a b) r (z38.eq_2 a b)
def zb6{r}(a):=evS (z1j · a) r (z1j.eq_2 a)
def zzj{r}(a b c d):=evS (yz0 · a b c d) r (yz0.eq_2 a b c d)
def z66{r}(a):=evS (z19 · a) r (z19.eq_2 a)
def zcb{r}(a b c):=evS (yzt · a b c) r (yzt.eq_2 a b c)
def zce{r}(a b c d):=evS (z10 · a b c d) r (z10.eq_2 a b c d)
def zfr{r}(a):=evS (z1h · a) r (z1h.eq_2 a)
def z0k{r}(a b c d e f g h):=evS (kzc · a b c d e f g h) r (kzc.eq_2 a b c d e f g h)
def zat{r}(a b c d e f g h i j k l m):=evS (kzg · a b c d e f g h i j k l m) r (kzg.eq_2 a b c d e f g h i j k l m)
def z0n{r}(a b):=evS (zz8 · a b) r (zz8.eq_2 a b)
def yzd{r}(a b c):=evS (yz5 · a b c) r (yz5.eq_2 a b c)
def z50{r}(a b):=evS (kzh · a b) r (kzh.eq_2 a b)
def zi1{r}(a):=evS (z3f · a) r (z3f.eq_2 a)
def zkg{r}(a):=evS (z1z · a) r (z1z.eq_2 a)
def zai{r}(a b c d e f):=evS (kzp · a b c d e f) r (kzp.eq_2 a b c d e f)
def z4f{r}(a b c d e f g h i j):=evS (yze · a b c d e f g h i j) r (yze.eq_2 a b c d e f g h i j)
def z02{r}(a b c d e f g h i j k):=evS (zzc · a b c d e f g h i j k) r (zzc.eq_2 a b c d e f g h i j k)
def z1t{r}(a b c d e f g h i j k l m):=evS (kzk · a b c d e f g h i j k l m) r (kzk.eq_2 a b c d e f g h i j k l m)
def z98{r}(a b c d e f g h i j k):=evS (zzf · a b c d e f g h i j k) r (zzf.eq_2 a b c d e f g h i j k)
def z44{r}(a b c d e f g h):=evS (kze · a b c d e f g h) r (kze.eq_2 a b c d e f g h)
def z56{r}(a b):=evS (z22 · a b) r (z22.eq_2 a b)
def ztz{r}(a b):=evS (kzq · a b) r (kzq.eq_2 a b)
def zm2{r}(a):=evS (z3c · a) r (z3c.eq_2 a)
def z9i{r}(a):=evS (z0u · a) r (z0u.eq_2 a)
def zks{r}(a):=evS (z0z · a) r (z0z.eq_2 a)
def z9d{r}(a):=evS (z0l · a) r (z0l.eq_2 a)
def zmj{r}(a b):=evS (z0s · a b) r (z0s.eq_2 a b)
def zpy{r}(a b):=evS (z1f · a b) r (z1f.eq_2 a b)
def zrc{r}(a b):=evS (z65 · a b) r (z65.eq_2 a b)
def zn1{r}(a b):=evS (z39 · a b) r (z39.eq_2 a b)
def zbe{r}(a):=evS (z1m · a) r (z1m.eq_2 a)
def yzj{r}(a b c d):=evS (kz4 · a b c d) r (kz4.eq_2 a b c d)
def yzo{r}(a b c d e):=evS (z08 · a b c d e) r (z08.eq_2 a b c d e)
def kzo{r}(a b c d e):=evS (z0b · a b c d e) r (z0b.eq_2 a b c d e)
def zzo{r}(a b c d e):=evS (z09 · a b c d e) r (z09.eq_2 a b c d e)
def kzi{r}(a b c):=evS (zz4 · a b c) r (zz4.eq_2 a b c)
def z67{r}(a):=evS (z18 · a) r (z18.eq_2 a)
def zcd{r}(a b c):=evS (zzu · a b c) r (zzu.eq_2 a b c)
def zsw{r}(a):=evS (z1a · a) r (z1a.eq_2 a)
def z7r{r}(a b c d):=evS (z11 · a b c d) r (z11.eq_2 a b c d)
def zca{r}(a b c d e):=evS (z23 · a b c d e) r (z23.eq_2 a b c d e)
def z7u{r}(a b c d):=evS (z25 · a b c d) r (z25.eq_2 a b c d)
def zl7{r}(a):=evS (z2b · a) r (z2b.eq_2 a)
def zoh{r}(a):=evS (z1u · a) r (z1u.eq_2 a)
def zpd{r}(a):=evS (z3q · a) r (z3q.eq_2 a)
def zak{r}(a b):=evS (yzk · a b) r (yzk.eq_2 a b)
def zb1{r}(a b c):=evS (kzn · a b c) r (kzn.eq_2 a b c)
def zpt{r}(a):=evS (z3r · a) r (z3r.eq_2 a)
def z6n{r}(a b):=evS (zzw · a b) r (zzw.eq_2 a b)
def z3a{r}(a b c):=evS (yzx · a b c) r (yzx.eq_2 a b c)
def z1o{r}(a b c d e):=evS (zzk · a b c d e) r (zzk.eq_2 a b c d e)
def zaw{r}(a b c d e f):=evS (z0f · a b c d e f) r (z0f.eq_2 a b c d e f)
def zay{r}(a b c d):=evS (kzx · a b c d) r (kzx.eq_2 a b c d)
def zmg{r}(a):=evS (z00 · a) r (z00.eq_2 a)
def z9p{r}(a b):=evS (z04 · a b) r (z04.eq_2 a b)
def zf3{r}(a b):=evS (z1d · a b) r (z1d.eq_2 a b)
def z4q{r}(a b c):=evS (kzw · a b c) r (kzw.eq_2 a b c)
def z8v{r}(a):=evS (z07 · a) r (z07.eq_2 a)
def z0x{r}(a b):=evS (kzd · a b) r (kzd.eq_2 a b)
def za4{r}(a b c):=evS (zzh · a b c) r (zzh.eq_2 a b c)
def z69{r}(a b):=evS (zze · a b) r (zze.eq_2 a b)
def zph{r}(a b):=evS (z2u · a b) r (z2u.eq_2 a b)
def zl9{r}(a b):=evS (z29 · a b) r (z29.eq_2 a b)
def z5i{r}(a b c):=evS (kzu · a b c) r (kzu.eq_2 a b c)
def z5d{r}(a b c d):=evS (kzr · a b c d) r (kzr.eq_2 a b c d)
def zm3{r}(a b):=evS (z2z · a b) r (z2z.eq_2 a b)
def zku{r}(a b):=evS (z2d · a b) r (z2d.eq_2 a b)
def z9e{r}(a b c):=evS (zzr · a b c) r (zzr.eq_2 a b c)
def z8z{r}(a b c d):=evS (zzv · a b c d) r (zzv.eq_2 a b c d)
def z97{r}(a b c d):=evS (yzv · a b c d) r (yzv.eq_2 a b c d)
def zl2{r}(a b c):=evS (z27 · a b c) r (z27.eq_2 a b c)
def z3i{r}(a b c d):=evS (yzr · a b c d) r (yzr.eq_2 a b c d)
def z5b{r}(a b c d e):=evS (z0i · a b c d e) r (z0i.eq_2 a b c d e)
def zg4{r}(a b c d):=evS (kzv · a b c d) r (kzv.eq_2 a b c d)
def z54{r}(a b):=evS (z2a · a b) r (z2a.eq_2 a b)
def zpe{r}(a):=evS (z1e · a) r (z1e.eq_2 a)
def zpl{r}(a):=evS (z2r · a) r (z2r.eq_2 a)
def zbx{r}(a b):=evS (z4j · a b) r (z4j.eq_2 a b)
def zvg{r}(a):=evS (z4d · a) r (z4d.eq_2 a)
def zpx{r}(a):=evS (z2t · a) r (z2t.eq_2 a)
def zbz{r}(a b):=evS (z4p · a b) r (z4p.eq_2 a b)
def z7k{r}(a b c):=evS (z26 · a b c) r (z26.eq_2 a b c)
def z7s{r}(a b c d):=evS (zza · a b c d) r (zza.eq_2 a b c d)
def z2v{r}(a b c d e):=evS (kza · a b c d e) r (kza.eq_2 a b c d e)
def z6h{r}(a b c d e):=evS (zzd · a b c d e) r (zzd.eq_2 a b c d e)
def z2w{r}(a b c d e):=evS (yza · a b c d e) r (yza.eq_2 a b c d e)
set_option linter.unusedSimpArgs false
theorem zsh(a b:Int):mxI a b=max a b:=by unfold mxI;split <;> omega
theorem y7x(a b:Int):mnI a b=min a b:=by unfold mnI;split <;> omega
theorem y8g{x y:Int}(h:∀k,x<=k↔y<=k):x=y:=Int.le_antisymm ((h y).2 (Int.le_refl _)) ((h x).1 (Int.le_refl _))
def z88(b:kz7):Bool:=decide (b.lo.x<b.hi.x ∧ -1000000<=b.lo.x∧b.hi.x<=1000000∧b.lo.y<b.hi.y ∧ -1000000<=b.lo.y∧b.hi.y<=1000000∧b.lo.z<b.hi.z ∧ -1000000<=b.lo.z∧b.hi.z<=1000000)
theorem zsv(b:kz7):Ev (λn=>z1e n b) (z2o.mk b.lo.x b.lo.y b.lo.z,z2o.mk b.hi.x b.hi.y b.hi.z):=by
 rw[zpe,Ev.yz2]
theorem zh2(b:kz7):Ev (λn=>z2r n b) (z88 b):=by
 rw[zpl,Ev.zz1 (zsv b)];simp only[Ev.pif,Ev.yz2,Qar];unfold z88
 repeat' split
 all_goals first|(symm;rw[decide_eq_false_iff_not];omega)|(symm;rw[decide_eq_true_iff];omega)
theorem zha(b:kz7):Ev (λn=>z2t n b) (z88 b):=by
 have hin:∀v:zz0,Ev (λn=>z4d n v) (decide (-1000000<=v.x∧v.x<=1000000 ∧ -1000000<=v.y∧v.y<=1000000 ∧ -1000000<=v.z∧v.z<=1000000)):=λv=>by
  rw[zvg];simp only[Ev.pif,Ev.yz2,Qar]
  repeat' split
  all_goals first|(symm;rw[decide_eq_false_iff_not];omega)|(symm;rw[decide_eq_true_iff];omega)|(rw[decide_eq_decide];omega)
 rw[zpx,Ev.zz1 (hin _)];refine Ev.pc (λh1 =>?_) λh1 =>?_
 ·rw[Ev.zz1 (hin _)];simp only[Qar]at h1;simp only[Ev.pif,Ev.yz2,Qar];unfold z88
  repeat' split
  all_goals first|(symm;rw[decide_eq_false_iff_not];omega)|(symm;rw[decide_eq_true_iff];omega)|(rw[decide_eq_decide];omega)
 simp only[decide_eq_false_iff_not]at h1;rw[Ev.yz2];unfold z88;symm;rw[decide_eq_false_iff_not];omega
theorem y34(a b:kz7):∃v,Ev (λn=>z4j n a b) v∧Ev (λn=>z4p n a b) v:=by
 by_cases ha:z88 a=true;by_cases hb:z88 b=true;refine⟨max 0 (max (a.lo.x-b.hi.x) (max (b.lo.x-a.hi.x) (max (a.lo.y-b.hi.y) (max (b.lo.y-a.hi.y) (max (a.lo.z-b.hi.z) (b.lo.z-a.hi.z)))))),?_,?_⟩;rw[zbx,Ev.zz1 (zh2 a),Ev.kz1 (by simp[ha]),Ev.zz1 (zh2 b),Ev.kz1 (by simp[hb]),Ev.zz1 (zsv a),Ev.zz1 (zsv b),Ev.yz2];simp only[z88,Qar]at ha hb;simp only[zsh]
 rw[wI (by omega),wI (by omega),wI (by omega),wI (by omega),wI (by omega),wI (by omega)];exact y8g λk=>by simp only[Int.max_le];omega
 rw[zbz,Ev.zz1 (zha a),Ev.kz1 (by simp[ha]),Ev.zz1 (zha b),z7k,Ev.kz1 (by simp[hb]),Ev.yz2];simp only[z88,Qar]at ha hb;simp only[zsh];rw[wI (by omega),wI (by omega),wI (by omega),wI (by omega),wI (by omega),wI (by omega)];exact y8g λk=>by simp only[Int.max_le];omega
 refine⟨0,?_,?_⟩;rw[zbx,Ev.zz1 (zh2 a),Ev.kz1 (by simp[ha]),Ev.zz1 (zh2 b),Ev.zz3 (by simp[hb]),Ev.yz2];rw[zbz,Ev.zz1 (zha a),Ev.kz1 (by simp[ha]),Ev.zz1 (zha b),z7k,Ev.zz3 (by simp[hb]),Ev.yz2];refine⟨0,?_,?_⟩;rw[zbx,Ev.zz1 (zh2 a),Ev.zz3 (by simp[ha]),Ev.yz2];rw[zbz,Ev.zz1 (zha a),Ev.zz3 (by simp[ha]),z7k,Ev.zz3 (by rfl),Ev.yz2]
theorem W_q(a:Int):∃q,IntKind.i64.wrap a=a+18446744073709551616 * q:=by
 unfold IntKind.wrap;simp only[IntKind.bits,IntKind.signed,Bool.true_and];split;exact⟨-(a / 18446744073709551616)-1,by omega⟩;exact⟨-(a / 18446744073709551616),by omega⟩
theorem W_c{a b:Int}(h:a % 18446744073709551616=b % 18446744073709551616):IntKind.i64.wrap a=IntKind.i64.wrap b:=by
 unfold IntKind.wrap;rw[show a % (2 ^ IntKind.i64.bits:Int)=b % (2 ^ IntKind.i64.bits:Int)from h]
theorem W_l(a b:Int):IntKind.i64.wrap (IntKind.i64.wrap a+b)=IntKind.i64.wrap (a+b):=by
 obtain⟨q,h⟩:=W_q a;exact W_c (by rw[h];omega)
theorem W_r(a b:Int):IntKind.i64.wrap (b+IntKind.i64.wrap a)=IntKind.i64.wrap (b+a):=by
 obtain⟨q,h⟩:=W_q a;exact W_c (by rw[h];omega)
def zck(v:zz0)(low:Int):Bool:=decide (low<=v.x∧low<=v.y∧low<=v.z∧v.x<=1000000∧v.y<=1000000∧v.z<=1000000)
theorem zzz(v:zz0)(low:Int):Ev (λn=>kz2 n v low) (zck v low):=by
 rw[zow];simp only[Ev.pif,Ev.yz2,Qar,y7x,zsh];unfold zck;split;rw[decide_eq_decide];omega;symm;rw[decide_eq_false_iff_not];omega
theorem z1i(v:zz0)(low:Int):Ev (λn=>kzq n v low) (zck v low):=by
 rw[ztz];simp only[Ev.pif,Ev.yz2,Qar];unfold zck
 repeat' split
 all_goals first|(rw[decide_eq_decide];omega)|(symm;rw[decide_eq_false_iff_not];omega)
def zgx(f:kz5):Bool:=decide (f.z15<24)&&zck f.at_ (-1000000)
def zlx(s:zz5):Bool:=zgx s.frame&&zck s.size_ 0
theorem zmi(f:kz5):Ev (λn=>z2y n f) (if zgx f then 0 else 8):=by
 rw[znl];refine Ev.pc (λh =>?_) λh =>?_
 simp only[Qar]at h;rw[z9n,Ev.zz3 (by rfl),Ev.yz2,Qbs (by simp[zgx];omega)];simp only[decide_eq_false_iff_not]at h;rw[Ev.zz1 (zzz _ _),z9n];have:decide (f.z15<24)=true:=by simp;omega
 simp only[zgx,this,Bool.true_and];cases zck f.at_ (-1000000);rw[Ev.zz3 (by rfl),Ev.yz2];rfl;rw[Ev.kz1 (by rfl),Ev.yz2];rfl
theorem zmm(f:kz5):Ev (λn=>z3c n f) (if zgx f then 0 else 8):=by
 rw[zm2];refine Ev.pc (λh =>?_) λh =>?_
 simp only[Qar]at h;rw[z9i,Ev.zz3 (by rfl),Ev.yz2,Qbs (by simp[zgx];omega)];simp only[decide_eq_false_iff_not]at h;rw[Ev.zz1 (z1i _ _),z9i];have:decide (f.z15<24)=true:=by simp;omega
 simp only[zgx,this,Bool.true_and];cases zck f.at_ (-1000000);rw[Ev.zz3 (by rfl),Ev.yz2];rfl;rw[Ev.kz1 (by rfl),Ev.yz2];rfl
theorem zlq(s:zz5):Ev (λn=>z1l n s) (if zlx s then 0 else 8):=by
 rw[zio,Ev.zz1 (zmi _)];cases hf:zgx s.frame;rw[Ev.zz3 (by rfl),z7z,Ev.zz3 (by rfl),Ev.yz2];simp[zlx,hf];rw[Ev.kz1 (by rfl),Ev.zz1 (zzz _ _),z7z];simp only[zlx,hf,Bool.true_and];cases zck s.size_ 0;rw[Ev.zz3 (by rfl),Ev.yz2];rfl;rw[Ev.kz1 (by rfl),Ev.yz2];rfl
theorem zj7(s:zz5):Ev (λn=>z0z n s) (if zlx s then 0 else 8):=by
 rw[zks,Ev.zz1 (zmm _)];cases hf:zgx s.frame;rw[Ev.zz3 (by rfl),z9d,Ev.zz3 (by rfl),Ev.yz2];simp[zlx,hf];rw[Ev.kz1 (by rfl),Ev.zz1 (z1i _ _),z9d];simp only[zlx,hf,Bool.true_and];cases zck s.size_ 0;rw[Ev.zz3 (by rfl),Ev.yz2];rfl;rw[Ev.kz1 (by rfl),Ev.yz2];rfl
def noV:zz0:=zz0.mk 0 0 0
def AX(t:Nat):kzl:=(z3t 20 (t:Int)).getD (kzl.mk noV noV noV)
theorem zw1(t:Nat)(ht:t<24):∀k,z3t (k+20) (t:Int)=some (AX t)∧z3n (k+40) (t:Int)=some (AX t):=by
 have h:t=0∨t=1∨t=2∨t=3∨t=4∨t=5∨t=6∨t=7∨t=8∨t=9∨t=10∨t=11∨t=12∨t=13∨t=14∨t=15∨t=16∨t=17∨t=18∨t=19∨t=20∨t=21∨t=22∨t=23:=by omega
 rcases h with rfl|rfl|rfl|rfl|rfl|rfl|rfl|rfl|rfl|rfl|rfl|rfl|rfl|rfl|rfl|rfl|rfl|rfl|rfl|rfl|rfl|rfl|rfl|rfl
 all_goals exact λk=>⟨by kernel_rfl,by kernel_rfl⟩
theorem y7u{t:Nat}(ht:t<24):Ev (λn=>z3t n (t:Int)) (AX t):=⟨20,λm hm=>by
 obtain⟨k,rfl⟩:=Nat.exists_eq_add_of_le' hm
 exact(zw1 t ht k).1⟩
theorem y1o{t:Nat}(ht:t<24):Ev (λn=>z3n n (t:Int)) (AX t):=⟨40,λm hm=>by
 obtain⟨k,rfl⟩:=Nat.exists_eq_add_of_le' hm
 exact(zw1 t ht k).2⟩
def IM(f:kz5)(v:zz0):zz0 :=
 let m:=AX f.z15.toNat
 zz0.mk (IntKind.i64.wrap (v.x * m.e0.x+(v.y * m.e1.x+(v.z * m.e2.x+f.at_.x)))) (IntKind.i64.wrap (v.x * m.e0.y+(v.y * m.e1.y+(v.z * m.e2.y+f.at_.y)))) (IntKind.i64.wrap (v.x * m.e0.z+(v.y * m.e1.z+(v.z * m.e2.z+f.at_.z))))
theorem y1b:inR 3 0=some ()∧inR 3 1=some ()∧inR 3 2=some ():=⟨rfl,rfl,rfl⟩
theorem zv5{f:kz5}(h:zgx f=true)(hw:f.wf):((f.z15.toNat:Nat):Int)=f.z15∧f.z15.toNat<24:=by
 have h0:0<=f.z15:=by have:=hw.1.1;simpa[IntKind.min,IntKind.signed]using this
 simp[zgx]at h;omega
theorem z7b{f:kz5}(h:zgx f=true)(hw:f.wf)(v:zz0):Ev (λn=>z38 n f v) (IM f v):=by
 obtain⟨h1,h2⟩:=zv5 h hw;rw[zmd,Ev.zz1 (y:=AX f.z15.toNat) (by have:=y7u h2;rw[h1]at this;exact this)]
 rw[Ev.zz1 (y:=zz0.mk _ _ _) (by
  rw[zsp];simp only[y1b.1,y1b.2.1,y1b.2.2,Ev.zeg]
  rw[Ev.yz2]),Ev.yz2]
 simp only[IM,W_l,W_r,Int.add_assoc]
theorem z7e{f:kz5}(h:zgx f=true)(hw:f.wf)(v:zz0):Ev (λn=>z39 n f v) (IM f v):=by
 obtain⟨h1,h2⟩:=zv5 h hw;have hwr:IntKind.i64.wrap f.z15=f.z15:=wI (by omega);have times:∀a w,Ev (λn=>z0s n a w) (zz0.mk (IntKind.i64.wrap (a * w.x)) (IntKind.i64.wrap (a * w.y)) (IntKind.i64.wrap (a * w.z))):=λa w=>by rw[zmj,Ev.yz2]
 have plus:∀a w,Ev (λn=>z1f n a w) (zz0.mk (IntKind.i64.wrap (a.x+w.x)) (IntKind.i64.wrap (a.y+w.y)) (IntKind.i64.wrap (a.z+w.z))):=λa w=>by rw[zpy,Ev.yz2]
 rw[zn1,Ev.zz1 (y:=AX f.z15.toNat) (by have:=y1o h2;rw[h1]at this;rw[hwr];exact this)]
 rw[Ev.zz1 (y:=zz0.mk _ _ _) (by
  rw[zrc];simp only[y1b.1,y1b.2.1,y1b.2.2,Ev.zeg]
  rw[Ev.zz1 (times _ _),Ev.zeg,Ev.zz1 (times _ _),Ev.zeg,Ev.zz1 (times _ _),Ev.zz1 (plus _ _),Ev.zz1 (plus _ _),Ev.yz2]),Ev.zz1 (plus _ _),Ev.yz2]
 simp only[IM,W_l,W_r,Int.add_assoc]
set_option maxHeartbeats 2000000
def cv(s:zz5)(i:Nat):zz0:=zz0.mk (if i % 2=1 then s.size_.x else 0) (if i / 2 % 2=1 then s.size_.y else 0) (if i / 4=1 then s.size_.z else 0)
def co(s:zz5)(i:Nat):zz0:=IM s.frame (cv s i)
def cok(s:zz5)(i:Nat):Bool:=zck (co s i) (-1000000)
def noA:kz0:=kz0.mk noV noV noV noV noV noV noV noV
def zjt{s:zz5}(h:zlx s=true):0<=s.size_.x∧0<=s.size_.y∧0<=s.size_.z∧s.size_.x<=1000000∧s.size_.y<=1000000∧s.size_.z<=1000000:=by
 simp[zlx,zck]at h;exact h.2
section
variable {s : zz5} (h : zlx s = true) (hw : s.wf)
include h hw
set_option linter.unusedSectionVars false
theorem z1g:zgx s.frame=true∧s.frame.wf:=by
 simp[zlx]at h;exact⟨h.1,hw.1⟩
theorem fc8(a b:kz0):Ev (λn=>yz0 n 8 a b s) (0,b):=by
 rw[zzj,Ev.kz1 (by rfl),Ev.yz2]
theorem fc7(a b:kz0):Ev (λn=>yz0 n 7 a b s) (if cok s 7 then (0,(kz0.mk b.e0 b.e1 b.e2 b.e3 b.e4 b.e5 b.e6 (co s 7)))else (16,noA)):=by
 obtain⟨s1,s2,s3,s4,s5,s6⟩:=zjt h;have him:=z7b (z1g h hw).1 (z1g h hw).2 (cv s 7)
 rw[zzj,Ev.zz3 (by rfl),Ev.yz1 (y:=1) (by rfl),Ev.yz1 (y:=3) (by rfl),Ev.yz1 (y:=1) (by rfl),Ev.yz1 (y:=1) (by rfl),Ev.zz1 (y:=co s 7) (by
  have e:zz0.mk (IntKind.i64.wrap (1 * s.size_.x)) (IntKind.i64.wrap (1 * s.size_.y)) (IntKind.i64.wrap (1 * s.size_.z))=cv s 7:=by
   rw[wI (by omega),wI (by omega),wI (by omega)];simp[cv]
  rw[e];exact him),Ev.yz1 (y:=()) (by rfl),Ev.zz3 (by rfl),Ev.yz1 (y:=()) (by rfl),Ev.zz3 (by rfl),Ev.zz1 (zzz _ _)]
 show Ev (λn=>pIf (!cok s 7) _ _) _;cases hc:cok s 7;rw[Ev.zz3 (by rfl),Ev.yz2];simp;rfl;rw[Ev.kz1 (by rfl),show IntKind.i64.wrap ((7:Int)+1)=8 from rfl];have:=fc8 h hw a (kz0.mk b.e0 b.e1 b.e2 b.e3 b.e4 b.e5 b.e6 (co s 7));simpa using this
theorem fc6(a b:kz0):Ev (λn=>yz0 n 6 a b s) (if cok s 6&&cok s 7 then (0,(kz0.mk b.e0 b.e1 b.e2 b.e3 b.e4 b.e5 (co s 6) (co s 7)))else (16,noA)):=by
 obtain⟨s1,s2,s3,s4,s5,s6⟩:=zjt h;have him:=z7b (z1g h hw).1 (z1g h hw).2 (cv s 6)
 rw[zzj,Ev.zz3 (by rfl),Ev.yz1 (y:=0) (by rfl),Ev.yz1 (y:=3) (by rfl),Ev.yz1 (y:=1) (by rfl),Ev.yz1 (y:=1) (by rfl),Ev.zz1 (y:=co s 6) (by
  have e:zz0.mk (IntKind.i64.wrap (0 * s.size_.x)) (IntKind.i64.wrap (1 * s.size_.y)) (IntKind.i64.wrap (1 * s.size_.z))=cv s 6:=by
   rw[wI (by omega),wI (by omega),wI (by omega)];simp[cv]
  rw[e];exact him),Ev.yz1 (y:=()) (by rfl),Ev.kz1 (by rfl),Ev.zz3 (by rfl),Ev.yz1 (y:=()) (by rfl),Ev.kz1 (by rfl),Ev.zz3 (by rfl),Ev.zz1 (zzz _ _)]
 show Ev (λn=>pIf (!cok s 6) _ _) _;cases hc:cok s 6;rw[Ev.zz3 (by rfl),Ev.yz2];simp;rfl;rw[Ev.kz1 (by rfl),show IntKind.i64.wrap ((6:Int)+1)=7 from rfl];have:=fc7 h hw a (kz0.mk b.e0 b.e1 b.e2 b.e3 b.e4 b.e5 (co s 6) b.e7);simpa using this
theorem fc5(a b:kz0):Ev (λn=>yz0 n 5 a b s) (if cok s 5&&cok s 6&&cok s 7 then (0,(kz0.mk b.e0 b.e1 b.e2 b.e3 b.e4 (co s 5) (co s 6) (co s 7)))else (16,noA)):=by
 obtain⟨s1,s2,s3,s4,s5,s6⟩:=zjt h;have him:=z7b (z1g h hw).1 (z1g h hw).2 (cv s 5)
 rw[zzj,Ev.zz3 (by rfl),Ev.yz1 (y:=1) (by rfl),Ev.yz1 (y:=2) (by rfl),Ev.yz1 (y:=0) (by rfl),Ev.yz1 (y:=1) (by rfl),Ev.zz1 (y:=co s 5) (by
  have e:zz0.mk (IntKind.i64.wrap (1 * s.size_.x)) (IntKind.i64.wrap (0 * s.size_.y)) (IntKind.i64.wrap (1 * s.size_.z))=cv s 5:=by
   rw[wI (by omega),wI (by omega),wI (by omega)];simp[cv]
  rw[e];exact him),Ev.yz1 (y:=()) (by rfl),Ev.kz1 (by rfl),Ev.kz1 (by rfl),Ev.zz3 (by rfl),Ev.yz1 (y:=()) (by rfl),Ev.kz1 (by rfl),Ev.kz1 (by rfl),Ev.zz3 (by rfl),Ev.zz1 (zzz _ _)]
 show Ev (λn=>pIf (!cok s 5) _ _) _;cases hc:cok s 5;rw[Ev.zz3 (by rfl),Ev.yz2];simp;rfl;rw[Ev.kz1 (by rfl),show IntKind.i64.wrap ((5:Int)+1)=6 from rfl];have:=fc6 h hw a (kz0.mk b.e0 b.e1 b.e2 b.e3 b.e4 (co s 5) b.e6 b.e7);simpa using this
theorem fc4(a b:kz0):Ev (λn=>yz0 n 4 a b s) (if cok s 4&&cok s 5&&cok s 6&&cok s 7 then (0,(kz0.mk b.e0 b.e1 b.e2 b.e3 (co s 4) (co s 5) (co s 6) (co s 7)))else (16,noA)):=by
 obtain⟨s1,s2,s3,s4,s5,s6⟩:=zjt h;have him:=z7b (z1g h hw).1 (z1g h hw).2 (cv s 4)
 rw[zzj,Ev.zz3 (by rfl),Ev.yz1 (y:=0) (by rfl),Ev.yz1 (y:=2) (by rfl),Ev.yz1 (y:=0) (by rfl),Ev.yz1 (y:=1) (by rfl),Ev.zz1 (y:=co s 4) (by
  have e:zz0.mk (IntKind.i64.wrap (0 * s.size_.x)) (IntKind.i64.wrap (0 * s.size_.y)) (IntKind.i64.wrap (1 * s.size_.z))=cv s 4:=by
   rw[wI (by omega),wI (by omega),wI (by omega)];simp[cv]
  rw[e];exact him),Ev.yz1 (y:=()) (by rfl),Ev.kz1 (by rfl),Ev.kz1 (by rfl),Ev.kz1 (by rfl),Ev.zz3 (by rfl),Ev.yz1 (y:=()) (by rfl),Ev.kz1 (by rfl),Ev.kz1 (by rfl),Ev.kz1 (by rfl),Ev.zz3 (by rfl),Ev.zz1 (zzz _ _)]
 show Ev (λn=>pIf (!cok s 4) _ _) _;cases hc:cok s 4;rw[Ev.zz3 (by rfl),Ev.yz2];simp;rfl;rw[Ev.kz1 (by rfl),show IntKind.i64.wrap ((4:Int)+1)=5 from rfl];have:=fc5 h hw a (kz0.mk b.e0 b.e1 b.e2 b.e3 (co s 4) b.e5 b.e6 b.e7);simpa using this
theorem fc3(a b:kz0):Ev (λn=>yz0 n 3 a b s) (if cok s 3&&cok s 4&&cok s 5&&cok s 6&&cok s 7 then (0,(kz0.mk b.e0 b.e1 b.e2 (co s 3) (co s 4) (co s 5) (co s 6) (co s 7)))else (16,noA)):=by
 obtain⟨s1,s2,s3,s4,s5,s6⟩:=zjt h;have him:=z7b (z1g h hw).1 (z1g h hw).2 (cv s 3)
 rw[zzj,Ev.zz3 (by rfl),Ev.yz1 (y:=1) (by rfl),Ev.yz1 (y:=1) (by rfl),Ev.yz1 (y:=1) (by rfl),Ev.yz1 (y:=0) (by rfl),Ev.zz1 (y:=co s 3) (by
  have e:zz0.mk (IntKind.i64.wrap (1 * s.size_.x)) (IntKind.i64.wrap (1 * s.size_.y)) (IntKind.i64.wrap (0 * s.size_.z))=cv s 3:=by
   rw[wI (by omega),wI (by omega),wI (by omega)];simp[cv]
  rw[e];exact him),Ev.yz1 (y:=()) (by rfl),Ev.kz1 (by rfl),Ev.kz1 (by rfl),Ev.kz1 (by rfl),Ev.kz1 (by rfl),Ev.zz3 (by rfl),Ev.yz1 (y:=()) (by rfl),Ev.kz1 (by rfl),Ev.kz1 (by rfl),Ev.kz1 (by rfl),Ev.kz1 (by rfl),Ev.zz3 (by rfl),Ev.zz1 (zzz _ _)]
 show Ev (λn=>pIf (!cok s 3) _ _) _;cases hc:cok s 3;rw[Ev.zz3 (by rfl),Ev.yz2];simp;rfl;rw[Ev.kz1 (by rfl),show IntKind.i64.wrap ((3:Int)+1)=4 from rfl];have:=fc4 h hw a (kz0.mk b.e0 b.e1 b.e2 (co s 3) b.e4 b.e5 b.e6 b.e7);simpa using this
theorem fc2(a b:kz0):Ev (λn=>yz0 n 2 a b s) (if cok s 2&&cok s 3&&cok s 4&&cok s 5&&cok s 6&&cok s 7 then (0,(kz0.mk b.e0 b.e1 (co s 2) (co s 3) (co s 4) (co s 5) (co s 6) (co s 7)))else (16,noA)):=by
 obtain⟨s1,s2,s3,s4,s5,s6⟩:=zjt h;have him:=z7b (z1g h hw).1 (z1g h hw).2 (cv s 2)
 rw[zzj,Ev.zz3 (by rfl),Ev.yz1 (y:=0) (by rfl),Ev.yz1 (y:=1) (by rfl),Ev.yz1 (y:=1) (by rfl),Ev.yz1 (y:=0) (by rfl),Ev.zz1 (y:=co s 2) (by
  have e:zz0.mk (IntKind.i64.wrap (0 * s.size_.x)) (IntKind.i64.wrap (1 * s.size_.y)) (IntKind.i64.wrap (0 * s.size_.z))=cv s 2:=by
   rw[wI (by omega),wI (by omega),wI (by omega)];simp[cv]
  rw[e];exact him),Ev.yz1 (y:=()) (by rfl),Ev.kz1 (by rfl),Ev.kz1 (by rfl),Ev.kz1 (by rfl),Ev.kz1 (by rfl),Ev.kz1 (by rfl),Ev.zz3 (by rfl),Ev.yz1 (y:=()) (by rfl),Ev.kz1 (by rfl),Ev.kz1 (by rfl),Ev.kz1 (by rfl),Ev.kz1 (by rfl),Ev.kz1 (by rfl),Ev.zz3 (by rfl),Ev.zz1 (zzz _ _)]
 show Ev (λn=>pIf (!cok s 2) _ _) _;cases hc:cok s 2;rw[Ev.zz3 (by rfl),Ev.yz2];simp;rfl;rw[Ev.kz1 (by rfl),show IntKind.i64.wrap ((2:Int)+1)=3 from rfl];have:=fc3 h hw a (kz0.mk b.e0 b.e1 (co s 2) b.e3 b.e4 b.e5 b.e6 b.e7);simpa using this
theorem fc1(a b:kz0):Ev (λn=>yz0 n 1 a b s) (if cok s 1&&cok s 2&&cok s 3&&cok s 4&&cok s 5&&cok s 6&&cok s 7 then (0,(kz0.mk b.e0 (co s 1) (co s 2) (co s 3) (co s 4) (co s 5) (co s 6) (co s 7)))else (16,noA)):=by
 obtain⟨s1,s2,s3,s4,s5,s6⟩:=zjt h;have him:=z7b (z1g h hw).1 (z1g h hw).2 (cv s 1)
 rw[zzj,Ev.zz3 (by rfl),Ev.yz1 (y:=1) (by rfl),Ev.yz1 (y:=0) (by rfl),Ev.yz1 (y:=0) (by rfl),Ev.yz1 (y:=0) (by rfl),Ev.zz1 (y:=co s 1) (by
  have e:zz0.mk (IntKind.i64.wrap (1 * s.size_.x)) (IntKind.i64.wrap (0 * s.size_.y)) (IntKind.i64.wrap (0 * s.size_.z))=cv s 1:=by
   rw[wI (by omega),wI (by omega),wI (by omega)];simp[cv]
  rw[e];exact him),Ev.yz1 (y:=()) (by rfl),Ev.kz1 (by rfl),Ev.kz1 (by rfl),Ev.kz1 (by rfl),Ev.kz1 (by rfl),Ev.kz1 (by rfl),Ev.kz1 (by rfl),Ev.zz3 (by rfl),Ev.yz1 (y:=()) (by rfl),Ev.kz1 (by rfl),Ev.kz1 (by rfl),Ev.kz1 (by rfl),Ev.kz1 (by rfl),Ev.kz1 (by rfl),Ev.kz1 (by rfl),Ev.zz3 (by rfl),Ev.zz1 (zzz _ _)]
 show Ev (λn=>pIf (!cok s 1) _ _) _;cases hc:cok s 1;rw[Ev.zz3 (by rfl),Ev.yz2];simp;rfl;rw[Ev.kz1 (by rfl),show IntKind.i64.wrap ((1:Int)+1)=2 from rfl];have:=fc2 h hw a (kz0.mk b.e0 (co s 1) b.e2 b.e3 b.e4 b.e5 b.e6 b.e7);simpa using this
theorem fc0(a b:kz0):Ev (λn=>yz0 n 0 a b s) (if cok s 0&&cok s 1&&cok s 2&&cok s 3&&cok s 4&&cok s 5&&cok s 6&&cok s 7 then (0,(kz0.mk (co s 0) (co s 1) (co s 2) (co s 3) (co s 4) (co s 5) (co s 6) (co s 7)))else (16,noA)):=by
 obtain⟨s1,s2,s3,s4,s5,s6⟩:=zjt h;have him:=z7b (z1g h hw).1 (z1g h hw).2 (cv s 0)
 rw[zzj,Ev.zz3 (by rfl),Ev.yz1 (y:=0) (by rfl),Ev.yz1 (y:=0) (by rfl),Ev.yz1 (y:=0) (by rfl),Ev.yz1 (y:=0) (by rfl),Ev.zz1 (y:=co s 0) (by
  have e:zz0.mk (IntKind.i64.wrap (0 * s.size_.x)) (IntKind.i64.wrap (0 * s.size_.y)) (IntKind.i64.wrap (0 * s.size_.z))=cv s 0:=by
   rw[wI (by omega),wI (by omega),wI (by omega)];simp[cv]
  rw[e];exact him),Ev.yz1 (y:=()) (by rfl),Ev.kz1 (by rfl),Ev.kz1 (by rfl),Ev.kz1 (by rfl),Ev.kz1 (by rfl),Ev.kz1 (by rfl),Ev.kz1 (by rfl),Ev.kz1 (by rfl),Ev.yz1 (y:=()) (by rfl),Ev.kz1 (by rfl),Ev.kz1 (by rfl),Ev.kz1 (by rfl),Ev.kz1 (by rfl),Ev.kz1 (by rfl),Ev.kz1 (by rfl),Ev.kz1 (by rfl),Ev.zz1 (zzz _ _)]
 show Ev (λn=>pIf (!cok s 0) _ _) _;cases hc:cok s 0;rw[Ev.zz3 (by rfl),Ev.yz2];simp;rfl;rw[Ev.kz1 (by rfl),show IntKind.i64.wrap ((0:Int)+1)=1 from rfl];have:=fc1 h hw a (kz0.mk (co s 0) b.e1 b.e2 b.e3 b.e4 b.e5 b.e6 b.e7);simpa using this
theorem rd8(a b:kz0):Ev (λn=>zz4 n 8 a b) (0,b):=by
 rw[kzi,Ev.kz1 (by rfl),Ev.yz2]
theorem rd7(a:kz0):Ev (λn=>zz4 n 7 a (kz0.mk (co s 0) (co s 1) (co s 2) (co s 3) (co s 4) (co s 5) (co s 6) (co s 7))) (if cok s 7 then (0,(kz0.mk (co s 0) (co s 1) (co s 2) (co s 3) (co s 4) (co s 5) (co s 6) (co s 7)))else (16,noA)):=by
 rw[kzi,Ev.zz3 (by rfl),Ev.yz1 (y:=()) (by rfl),Ev.zz3 (by rfl),Ev.zz1 (z1i _ _)];show Ev (λn=>pIf (!cok s 7) _ _) _;cases hc:cok s 7;rw[Ev.zz3 (by rfl),Ev.yz2];simp;rfl;rw[Ev.kz1 (by rfl),show IntKind.i64.wrap ((7:Int)+1)=8 from rfl];have:=rd8 h hw a (kz0.mk (co s 0) (co s 1) (co s 2) (co s 3) (co s 4) (co s 5) (co s 6) (co s 7));simpa using this
theorem rd6(a:kz0):Ev (λn=>zz4 n 6 a (kz0.mk (co s 0) (co s 1) (co s 2) (co s 3) (co s 4) (co s 5) (co s 6) (co s 7))) (if cok s 6&&cok s 7 then (0,(kz0.mk (co s 0) (co s 1) (co s 2) (co s 3) (co s 4) (co s 5) (co s 6) (co s 7)))else (16,noA)):=by
 rw[kzi,Ev.zz3 (by rfl),Ev.yz1 (y:=()) (by rfl),Ev.kz1 (by rfl),Ev.zz3 (by rfl),Ev.zz1 (z1i _ _)];show Ev (λn=>pIf (!cok s 6) _ _) _;cases hc:cok s 6;rw[Ev.zz3 (by rfl),Ev.yz2];simp;rfl;rw[Ev.kz1 (by rfl),show IntKind.i64.wrap ((6:Int)+1)=7 from rfl];have:=rd7 h hw a;simpa using this
theorem rd5(a:kz0):Ev (λn=>zz4 n 5 a (kz0.mk (co s 0) (co s 1) (co s 2) (co s 3) (co s 4) (co s 5) (co s 6) (co s 7))) (if cok s 5&&cok s 6&&cok s 7 then (0,(kz0.mk (co s 0) (co s 1) (co s 2) (co s 3) (co s 4) (co s 5) (co s 6) (co s 7)))else (16,noA)):=by
 rw[kzi,Ev.zz3 (by rfl),Ev.yz1 (y:=()) (by rfl),Ev.kz1 (by rfl),Ev.kz1 (by rfl),Ev.zz3 (by rfl),Ev.zz1 (z1i _ _)];show Ev (λn=>pIf (!cok s 5) _ _) _;cases hc:cok s 5;rw[Ev.zz3 (by rfl),Ev.yz2];simp;rfl;rw[Ev.kz1 (by rfl),show IntKind.i64.wrap ((5:Int)+1)=6 from rfl];have:=rd6 h hw a;simpa using this
theorem rd4(a:kz0):Ev (λn=>zz4 n 4 a (kz0.mk (co s 0) (co s 1) (co s 2) (co s 3) (co s 4) (co s 5) (co s 6) (co s 7))) (if cok s 4&&cok s 5&&cok s 6&&cok s 7 then (0,(kz0.mk (co s 0) (co s 1) (co s 2) (co s 3) (co s 4) (co s 5) (co s 6) (co s 7)))else (16,noA)):=by
 rw[kzi,Ev.zz3 (by rfl),Ev.yz1 (y:=()) (by rfl),Ev.kz1 (by rfl),Ev.kz1 (by rfl),Ev.kz1 (by rfl),Ev.zz3 (by rfl),Ev.zz1 (z1i _ _)];show Ev (λn=>pIf (!cok s 4) _ _) _;cases hc:cok s 4;rw[Ev.zz3 (by rfl),Ev.yz2];simp;rfl;rw[Ev.kz1 (by rfl),show IntKind.i64.wrap ((4:Int)+1)=5 from rfl];have:=rd5 h hw a;simpa using this
theorem rd3(a:kz0):Ev (λn=>zz4 n 3 a (kz0.mk (co s 0) (co s 1) (co s 2) (co s 3) (co s 4) (co s 5) (co s 6) (co s 7))) (if cok s 3&&cok s 4&&cok s 5&&cok s 6&&cok s 7 then (0,(kz0.mk (co s 0) (co s 1) (co s 2) (co s 3) (co s 4) (co s 5) (co s 6) (co s 7)))else (16,noA)):=by
 rw[kzi,Ev.zz3 (by rfl),Ev.yz1 (y:=()) (by rfl),Ev.kz1 (by rfl),Ev.kz1 (by rfl),Ev.kz1 (by rfl),Ev.kz1 (by rfl),Ev.zz3 (by rfl),Ev.zz1 (z1i _ _)];show Ev (λn=>pIf (!cok s 3) _ _) _;cases hc:cok s 3;rw[Ev.zz3 (by rfl),Ev.yz2];simp;rfl;rw[Ev.kz1 (by rfl),show IntKind.i64.wrap ((3:Int)+1)=4 from rfl];have:=rd4 h hw a;simpa using this
theorem rd2(a:kz0):Ev (λn=>zz4 n 2 a (kz0.mk (co s 0) (co s 1) (co s 2) (co s 3) (co s 4) (co s 5) (co s 6) (co s 7))) (if cok s 2&&cok s 3&&cok s 4&&cok s 5&&cok s 6&&cok s 7 then (0,(kz0.mk (co s 0) (co s 1) (co s 2) (co s 3) (co s 4) (co s 5) (co s 6) (co s 7)))else (16,noA)):=by
 rw[kzi,Ev.zz3 (by rfl),Ev.yz1 (y:=()) (by rfl),Ev.kz1 (by rfl),Ev.kz1 (by rfl),Ev.kz1 (by rfl),Ev.kz1 (by rfl),Ev.kz1 (by rfl),Ev.zz3 (by rfl),Ev.zz1 (z1i _ _)];show Ev (λn=>pIf (!cok s 2) _ _) _;cases hc:cok s 2;rw[Ev.zz3 (by rfl),Ev.yz2];simp;rfl;rw[Ev.kz1 (by rfl),show IntKind.i64.wrap ((2:Int)+1)=3 from rfl];have:=rd3 h hw a;simpa using this
theorem rd1(a:kz0):Ev (λn=>zz4 n 1 a (kz0.mk (co s 0) (co s 1) (co s 2) (co s 3) (co s 4) (co s 5) (co s 6) (co s 7))) (if cok s 1&&cok s 2&&cok s 3&&cok s 4&&cok s 5&&cok s 6&&cok s 7 then (0,(kz0.mk (co s 0) (co s 1) (co s 2) (co s 3) (co s 4) (co s 5) (co s 6) (co s 7)))else (16,noA)):=by
 rw[kzi,Ev.zz3 (by rfl),Ev.yz1 (y:=()) (by rfl),Ev.kz1 (by rfl),Ev.kz1 (by rfl),Ev.kz1 (by rfl),Ev.kz1 (by rfl),Ev.kz1 (by rfl),Ev.kz1 (by rfl),Ev.zz3 (by rfl),Ev.zz1 (z1i _ _)];show Ev (λn=>pIf (!cok s 1) _ _) _;cases hc:cok s 1;rw[Ev.zz3 (by rfl),Ev.yz2];simp;rfl;rw[Ev.kz1 (by rfl),show IntKind.i64.wrap ((1:Int)+1)=2 from rfl];have:=rd2 h hw a;simpa using this
theorem rd0(a:kz0):Ev (λn=>zz4 n 0 a (kz0.mk (co s 0) (co s 1) (co s 2) (co s 3) (co s 4) (co s 5) (co s 6) (co s 7))) (if cok s 0&&cok s 1&&cok s 2&&cok s 3&&cok s 4&&cok s 5&&cok s 6&&cok s 7 then (0,(kz0.mk (co s 0) (co s 1) (co s 2) (co s 3) (co s 4) (co s 5) (co s 6) (co s 7)))else (16,noA)):=by
 rw[kzi,Ev.zz3 (by rfl),Ev.yz1 (y:=()) (by rfl),Ev.kz1 (by rfl),Ev.kz1 (by rfl),Ev.kz1 (by rfl),Ev.kz1 (by rfl),Ev.kz1 (by rfl),Ev.kz1 (by rfl),Ev.kz1 (by rfl),Ev.zz1 (z1i _ _)];show Ev (λn=>pIf (!cok s 0) _ _) _;cases hc:cok s 0;rw[Ev.zz3 (by rfl),Ev.yz2];simp;rfl;rw[Ev.kz1 (by rfl),show IntKind.i64.wrap ((0:Int)+1)=1 from rfl];have:=rd1 h hw a;simpa using this
theorem rc8(a b:kz0)(r:Int×kz0)(hr:Ev (λn=>zz4 n 0 b a) r):Ev (λn=>kz4 n 8 a s b) r:=by
 rw[yzj,Ev.kz1 (by rfl)];exact hr
theorem rc7(a b:kz0)(r:Int×kz0)(hr:Ev (λn=>zz4 n 0 b (kz0.mk a.e0 a.e1 a.e2 a.e3 a.e4 a.e5 a.e6 (co s 7))) r):Ev (λn=>kz4 n 7 a s b) r:=by
 have him:=z7e (z1g h hw).1 (z1g h hw).2 (cv s 7);rw[yzj,Ev.zz3 (by rfl),Ev.yz1 (y:=1) (by rfl),Ev.zz3 (by rfl),yzo,Ev.yz1 (y:=3) (by rfl),Ev.yz1 (y:=1) (by rfl),Ev.zz3 (by rfl),kzo,Ev.yz1 (y:=1) (by rfl),Ev.zz3 (by rfl),zzo,Ev.zz1 (y:=co s 7) (by exact him),Ev.yz1 (y:=()) (by rfl),Ev.zz3 (by rfl)];exact rc8 h hw _ _ _ hr
theorem rc6(a b:kz0)(r:Int×kz0)(hr:Ev (λn=>zz4 n 0 b (kz0.mk a.e0 a.e1 a.e2 a.e3 a.e4 a.e5 (co s 6) (co s 7))) r):Ev (λn=>kz4 n 6 a s b) r:=by
 have him:=z7e (z1g h hw).1 (z1g h hw).2 (cv s 6);rw[yzj,Ev.zz3 (by rfl),Ev.yz1 (y:=0) (by rfl),Ev.kz1 (by rfl),yzo,Ev.yz1 (y:=3) (by rfl),Ev.yz1 (y:=1) (by rfl),Ev.zz3 (by rfl),kzo,Ev.yz1 (y:=1) (by rfl),Ev.zz3 (by rfl),zzo,Ev.zz1 (y:=co s 6) (by exact him),Ev.yz1 (y:=()) (by rfl),Ev.kz1 (by rfl),Ev.zz3 (by rfl)];exact rc7 h hw _ _ _ hr
theorem rc5(a b:kz0)(r:Int×kz0)(hr:Ev (λn=>zz4 n 0 b (kz0.mk a.e0 a.e1 a.e2 a.e3 a.e4 (co s 5) (co s 6) (co s 7))) r):Ev (λn=>kz4 n 5 a s b) r:=by
 have him:=z7e (z1g h hw).1 (z1g h hw).2 (cv s 5);rw[yzj,Ev.zz3 (by rfl),Ev.yz1 (y:=1) (by rfl),Ev.zz3 (by rfl),yzo,Ev.yz1 (y:=2) (by rfl),Ev.yz1 (y:=0) (by rfl),Ev.kz1 (by rfl),kzo,Ev.yz1 (y:=1) (by rfl),Ev.zz3 (by rfl),zzo,Ev.zz1 (y:=co s 5) (by exact him),Ev.yz1 (y:=()) (by rfl),Ev.kz1 (by rfl),Ev.kz1 (by rfl),Ev.zz3 (by rfl)];exact rc6 h hw _ _ _ hr
theorem rc4(a b:kz0)(r:Int×kz0)(hr:Ev (λn=>zz4 n 0 b (kz0.mk a.e0 a.e1 a.e2 a.e3 (co s 4) (co s 5) (co s 6) (co s 7))) r):Ev (λn=>kz4 n 4 a s b) r:=by
 have him:=z7e (z1g h hw).1 (z1g h hw).2 (cv s 4);rw[yzj,Ev.zz3 (by rfl),Ev.yz1 (y:=0) (by rfl),Ev.kz1 (by rfl),yzo,Ev.yz1 (y:=2) (by rfl),Ev.yz1 (y:=0) (by rfl),Ev.kz1 (by rfl),kzo,Ev.yz1 (y:=1) (by rfl),Ev.zz3 (by rfl),zzo,Ev.zz1 (y:=co s 4) (by exact him),Ev.yz1 (y:=()) (by rfl),Ev.kz1 (by rfl),Ev.kz1 (by rfl),Ev.kz1 (by rfl),Ev.zz3 (by rfl)];exact rc5 h hw _ _ _ hr
theorem rc3(a b:kz0)(r:Int×kz0)(hr:Ev (λn=>zz4 n 0 b (kz0.mk a.e0 a.e1 a.e2 (co s 3) (co s 4) (co s 5) (co s 6) (co s 7))) r):Ev (λn=>kz4 n 3 a s b) r:=by
 have him:=z7e (z1g h hw).1 (z1g h hw).2 (cv s 3);rw[yzj,Ev.zz3 (by rfl),Ev.yz1 (y:=1) (by rfl),Ev.zz3 (by rfl),yzo,Ev.yz1 (y:=1) (by rfl),Ev.yz1 (y:=1) (by rfl),Ev.zz3 (by rfl),kzo,Ev.yz1 (y:=0) (by rfl),Ev.kz1 (by rfl),zzo,Ev.zz1 (y:=co s 3) (by exact him),Ev.yz1 (y:=()) (by rfl),Ev.kz1 (by rfl),Ev.kz1 (by rfl),Ev.kz1 (by rfl),Ev.kz1 (by rfl),Ev.zz3 (by rfl)];exact rc4 h hw _ _ _ hr
theorem rc2(a b:kz0)(r:Int×kz0)(hr:Ev (λn=>zz4 n 0 b (kz0.mk a.e0 a.e1 (co s 2) (co s 3) (co s 4) (co s 5) (co s 6) (co s 7))) r):Ev (λn=>kz4 n 2 a s b) r:=by
 have him:=z7e (z1g h hw).1 (z1g h hw).2 (cv s 2);rw[yzj,Ev.zz3 (by rfl),Ev.yz1 (y:=0) (by rfl),Ev.kz1 (by rfl),yzo,Ev.yz1 (y:=1) (by rfl),Ev.yz1 (y:=1) (by rfl),Ev.zz3 (by rfl),kzo,Ev.yz1 (y:=0) (by rfl),Ev.kz1 (by rfl),zzo,Ev.zz1 (y:=co s 2) (by exact him),Ev.yz1 (y:=()) (by rfl),Ev.kz1 (by rfl),Ev.kz1 (by rfl),Ev.kz1 (by rfl),Ev.kz1 (by rfl),Ev.kz1 (by rfl),Ev.zz3 (by rfl)]
 exact rc3 h hw _ _ _ hr
theorem rc1(a b:kz0)(r:Int×kz0)(hr:Ev (λn=>zz4 n 0 b (kz0.mk a.e0 (co s 1) (co s 2) (co s 3) (co s 4) (co s 5) (co s 6) (co s 7))) r):Ev (λn=>kz4 n 1 a s b) r:=by
 have him:=z7e (z1g h hw).1 (z1g h hw).2 (cv s 1);rw[yzj,Ev.zz3 (by rfl),Ev.yz1 (y:=1) (by rfl),Ev.zz3 (by rfl),yzo,Ev.yz1 (y:=0) (by rfl),Ev.yz1 (y:=0) (by rfl),Ev.kz1 (by rfl),kzo,Ev.yz1 (y:=0) (by rfl),Ev.kz1 (by rfl),zzo,Ev.zz1 (y:=co s 1) (by exact him),Ev.yz1 (y:=()) (by rfl),Ev.kz1 (by rfl),Ev.kz1 (by rfl),Ev.kz1 (by rfl),Ev.kz1 (by rfl),Ev.kz1 (by rfl),Ev.kz1 (by rfl),Ev.zz3 (by rfl)]
 exact rc2 h hw _ _ _ hr
theorem rc0(a b:kz0)(r:Int×kz0)(hr:Ev (λn=>zz4 n 0 b (kz0.mk (co s 0) (co s 1) (co s 2) (co s 3) (co s 4) (co s 5) (co s 6) (co s 7))) r):Ev (λn=>kz4 n 0 a s b) r:=by
 have him:=z7e (z1g h hw).1 (z1g h hw).2 (cv s 0);rw[yzj,Ev.zz3 (by rfl),Ev.yz1 (y:=0) (by rfl),Ev.kz1 (by rfl),yzo,Ev.yz1 (y:=0) (by rfl),Ev.yz1 (y:=0) (by rfl),Ev.kz1 (by rfl),kzo,Ev.yz1 (y:=0) (by rfl),Ev.kz1 (by rfl),zzo,Ev.zz1 (y:=co s 0) (by exact him),Ev.yz1 (y:=()) (by rfl),Ev.kz1 (by rfl),Ev.kz1 (by rfl),Ev.kz1 (by rfl),Ev.kz1 (by rfl),Ev.kz1 (by rfl),Ev.kz1 (by rfl),Ev.kz1 (by rfl)]
 exact rc1 h hw _ _ _ hr
end
theorem y0e(s:zz5)(hw:s.wf):∃(e:Int) (b b':kz7),Ev (λn=>z19 n s) (e,b)∧Ev (λn=>z18 n s) (e,b'):=by
 cases h:zlx s;refine⟨8,(kz7.mk (zz0.mk 0 0 0) (zz0.mk 0 0 0)),(kz7.mk (zz0.mk 0 0 0) (zz0.mk 0 0 0)),?_,?_⟩
 rw[z66,Ev.zz1 (y:=(8,noA)) (by
  rw[zb6,Ev.zz1 (zlq s),h,Ev.zz3 (by rfl),Ev.yz2];rfl),Ev.zz3 (by rfl),Ev.yz2]
 rw[z67,Ev.zz1 (y:=(8,noA)) (by
  rw[zbe,Ev.zz1 (zj7 s),h,Ev.zz3 (by rfl),Ev.zz1 (zj7 s),h,Ev.yz2];rfl),Ev.zz3 (by rfl),Ev.yz2]
 have e1:Ev (λn=>z1j n s) (if cok s 0&&cok s 1&&cok s 2&&cok s 3&&cok s 4&&cok s 5&&cok s 6&&cok s 7 then (0,(kz0.mk (co s 0) (co s 1) (co s 2) (co s 3) (co s 4) (co s 5) (co s 6) (co s 7)))else (16,noA)):=by
  rw[zb6,Ev.zz1 (zlq s),h,Ev.kz1 (by rfl)];exact fc0 h hw _ _
 have e2:Ev (λn=>z1m n s) (if cok s 0&&cok s 1&&cok s 2&&cok s 3&&cok s 4&&cok s 5&&cok s 6&&cok s 7 then (0,(kz0.mk (co s 0) (co s 1) (co s 2) (co s 3) (co s 4) (co s 5) (co s 6) (co s 7)))else (16,noA)):=by
  rw[zbe,Ev.zz1 (zj7 s),h,Ev.kz1 (by rfl)];exact rc0 h hw _ _ _ (rd0 h hw _)
 cases hc:(cok s 0&&cok s 1&&cok s 2&&cok s 3&&cok s 4&&cok s 5&&cok s 6&&cok s 7);rw[hc]at e1 e2;refine⟨16,(kz7.mk (zz0.mk 0 0 0) (zz0.mk 0 0 0)),(kz7.mk (zz0.mk 0 0 0) (zz0.mk 0 0 0)),?_,?_⟩;rw[z66,Ev.zz1 (y:=(16,noA)) (by exact e1),Ev.zz3 (by rfl),Ev.yz2];rw[z67,Ev.zz1 (y:=(16,noA)) (by exact e2),Ev.zz3 (by rfl),Ev.yz2];rw[hc]at e1 e2
 have loop:∀k:Nat,k<=8->∀(a:kz0) (b c:kz7),∃b',Ev (λn=>z10 n (k:Int) a b c) (0,b'):=by
  intro k hk;obtain⟨j,hj⟩:∃j,8=k+j:=⟨8-k,by omega⟩
  induction j generalizing k with
  |zero=>intro a b c;exact⟨b,by rw[zce,Ev.kz1 (by simp;omega),Ev.yz2]⟩
  |succ j ih=>
   intro a b c;obtain⟨b',hb⟩:=ih (k+1) (by omega) (by omega) a (kz7.mk _ _) c;refine⟨b',?_⟩;rw[zce,Ev.zz3 (by simp;omega),Ev.yz1 (zzb (by simp;omega)),wrk (by omega)];exact hb
 have key:∀z,∃(e:Int) (b b':kz7),Ev (λn=>yzt n z (kz7.mk (zz0.mk 0 0 0) (zz0.mk 0 0 0)) (kz0.mk (co s 0) (co s 1) (co s 2) (co s 3) (co s 4) (co s 5) (co s 6) (co s 7))) (e,b)∧Ev (λn=>zzu n z (kz7.mk (zz0.mk 0 0 0) (zz0.mk 0 0 0)) (kz0.mk (co s 0) (co s 1) (co s 2) (co s 3) (co s 4) (co s 5) (co s 6) (co s 7))) (e,b'):=λz=>by
  cases z;obtain⟨b',hb⟩:=loop 0 (by omega) (kz0.mk (co s 0) (co s 1) (co s 2) (co s 3) (co s 4) (co s 5) (co s 6) (co s 7)) (kz7.mk (co s 0) (co s 0)) (kz7.mk (zz0.mk 0 0 0) (zz0.mk 0 0 0))
  refine⟨0,b',(kz7.mk (zz0.mk (mnI (co s 0).x (co s 7).x) (mnI (co s 0).y (co s 7).y) (mnI (co s 0).z (co s 7).z)) (zz0.mk (mxI (co s 0).x (co s 7).x) (mxI (co s 0).y (co s 7).y) (mxI (co s 0).z (co s 7).z))),?_,?_⟩;rw[zcb,Ev.kz1 (by rfl),Ev.yz1 (y:=()) (by rfl),Ev.yz1 (y:=()) (by rfl)];exact hb;rw[zcd,Ev.kz1 (by rfl),Ev.yz1 (y:=()) (by rfl),Ev.yz1 (y:=()) (by rfl),Ev.yz2]
  refine⟨6,(kz7.mk (zz0.mk 0 0 0) (zz0.mk 0 0 0)),(kz7.mk (zz0.mk 0 0 0) (zz0.mk 0 0 0)),?_,?_⟩;rw[zcb,Ev.zz3 (by rfl),Ev.yz2];rw[zcd,Ev.zz3 (by rfl),Ev.yz2]
 have fin:∀z,(∀(r:Int×kz7),Ev (λn=>yzt n z (kz7.mk (zz0.mk 0 0 0) (zz0.mk 0 0 0)) (kz0.mk (co s 0) (co s 1) (co s 2) (co s 3) (co s 4) (co s 5) (co s 6) (co s 7))) r->Ev (λn=>z19 n s) r)->(∀(r:Int×kz7),Ev (λn=>zzu n z (kz7.mk (zz0.mk 0 0 0) (zz0.mk 0 0 0)) (kz0.mk (co s 0) (co s 1) (co s 2) (co s 3) (co s 4) (co s 5) (co s 6) (co s 7))) r->Ev (λn=>z18 n s) r)->∃(e:Int) (b b':kz7),Ev (λn=>z19 n s) (e,b)∧Ev (λn=>z18 n s) (e,b'):=λz f1 f2=>by
  obtain⟨e,b,b',k1,k2⟩:=key z;exact⟨e,b,b',f1 _ k1,f2 _ k2⟩
 cases hx:(s.size_.x==0);cases hy:(s.size_.y==0);refine fin (s.size_.z==0) (λr hr =>?_) λr hr =>?_
 rw[z66,Ev.zz1 (y:=(0,(kz0.mk (co s 0) (co s 1) (co s 2) (co s 3) (co s 4) (co s 5) (co s 6) (co s 7)))) (by exact e1),Ev.kz1 (by rfl),Ev.kz1 hx,Ev.kz1 hy];exact hr;rw[z67,Ev.zz1 (y:=(0,(kz0.mk (co s 0) (co s 1) (co s 2) (co s 3) (co s 4) (co s 5) (co s 6) (co s 7)))) (by exact e2),Ev.kz1 (by rfl),Ev.kz1 hx,Ev.kz1 hy];exact hr;refine fin true (λr hr =>?_) λr hr =>?_
 rw[z66,Ev.zz1 (y:=(0,(kz0.mk (co s 0) (co s 1) (co s 2) (co s 3) (co s 4) (co s 5) (co s 6) (co s 7)))) (by exact e1),Ev.kz1 (by rfl),Ev.kz1 hx,Ev.zz3 hy];exact hr;rw[z67,Ev.zz1 (y:=(0,(kz0.mk (co s 0) (co s 1) (co s 2) (co s 3) (co s 4) (co s 5) (co s 6) (co s 7)))) (by exact e2),Ev.kz1 (by rfl),Ev.kz1 hx,Ev.zz3 hy];exact hr;refine fin true (λr hr =>?_) λr hr =>?_
 rw[z66,Ev.zz1 (y:=(0,(kz0.mk (co s 0) (co s 1) (co s 2) (co s 3) (co s 4) (co s 5) (co s 6) (co s 7)))) (by exact e1),Ev.kz1 (by rfl),Ev.zz3 hx];exact hr;rw[z67,Ev.zz1 (y:=(0,(kz0.mk (co s 0) (co s 1) (co s 2) (co s 3) (co s 4) (co s 5) (co s 6) (co s 7)))) (by exact e2),Ev.kz1 (by rfl),Ev.zz3 hx];exact hr
theorem zmc{s:B8}(hs:s.length<=1048576):Ev (λn=>z2q n s) (z7w s):=by
 have l3t:∀q,Ev (λn=>kzj n true s q) false:=λq=>by rw[zbd,Ev.zz3 (by rfl),Ev.yz2]
 have step:∀k (hk:k<s.length) (r:Bool),((if k=0 then isLet s[k]else z4y s[k])=false->r=false)->((if k=0 then isLet s[k]else z4y s[k])=true->Ev (λn=>zzn n s (k+1)) r)->Ev (λn=>zzn n s k) r:=λk hk r hf ht=>by
  have l3:∀b,(if k=0 then isLet s[k]else z4y s[k]) = !b->(b=false->(z43 s k).2=1)->Ev (λn=>kzj n b s (k+(z43 s k).2)) r:=λb hb h1=>by
   cases b;rw[zbd,Ev.kz1 (by rfl),h1 rfl];exact ht hb;exact(l3t _).to (hf hb).symm
  rw[zb9,Ev.zz3 (by simpa using hk)];by_cases hlow:s[k].toNat<128;have hd:=zlz hk hlow;rw[hd]at l3;rw[hd]
  have l2:∀b,b=isLet s[k]->Ev (λn=>z0m n (s[k].toNat:Int) (k:Int) b s (k+1)) r:=λb hb=>by
   subst hb;rw[zbc];cases hl:isLet s[k];rw[Ev.zz3 (by rfl)];by_cases h0:k=0;rw[Ev.zz3 (by simpa using h0)];exact l3 true (by rw[Qbr h0,hl];rfl) (by simp);rw[Ev.kz1 (by simpa using h0)];by_cases h45:s[k].toNat=45;have:s[k]=45:=UInt8.toNat_inj.1 (by simpa using h45);rw[Ev.kz1 (by simp;omega)];exact l3 false (by rw[Qbs h0,z4y,this];rfl) (λ_=>rfl)
   have hne:(s[k]==45)=false:=by
    simp only[beq_eq_false_iff_ne];intro h;rw[h]at h45;exact h45 rfl
   rw[Ev.zz3 (by simp;omega)];by_cases c1:s[k].toNat<48;rw[Ev.zz3 (by simp;omega)];refine l3 true ?_ (by simp);rw[Qbs h0,z4y,hl,hne,z61];simp;omega;rw[Ev.kz1 (by simp;omega)];refine l3 _ ?_ (λ_=>rfl);rw[Qbs h0,z4y,hl,hne,z61];have e1:decide (48<=s[k].toNat)=true:=by rw[Qar];omega
   have e3:decide ((s[k].toNat:Int)>57) = !decide (s[k].toNat<=57):=by
    by_cases c2:s[k].toNat<=57;rw[show decide (s[k].toNat<=57)=true by rw[Qar];exact c2];simp only[Bool.not_true,decide_eq_false_iff_not];omega;rw[show decide (s[k].toNat<=57)=false by rw[decide_eq_false_iff_not];exact c2];simp only[Bool.not_false,Qar];omega
   rw[e1,e3];simp;rw[Ev.kz1 (by rfl)];refine l3 false ?_ (λ_=>rfl);split;exact hl;rw[z4y,hl];rfl
  simp only;by_cases c1:97<=s[k].toNat;rw[Ev.zz3 (by simp;omega)];exact l2 _ (by simp[isLet,c1];omega);rw[Ev.kz1 (by simp;omega)];exact l2 _ (by simp[isLet];omega);obtain⟨h1,h2⟩:=zqq hk (by omega);have nl:isLet s[k]=false:=by simp[isLet];omega
  have nm:z4y s[k]=false:=by
   rw[z4y,nl,z61];have:(s[k]==45)=false:=by simp only[beq_eq_false_iff_ne];intro h;rw[h]at hlow;exact hlow (by decide)
   rw[this];simp;omega
  have bad:(if k=0 then isLet s[k]else z4y s[k])=false:=by split <;> assumption
  rw[Ev.zz3 (by simp;omega),show decide (((z43 s k).1:Int)<=122)=false by simp;omega,zbc,Ev.zz3 (by rfl)];by_cases h0:k=0;rw[Ev.zz3 (by simpa using h0)];exact(l3t _).to (hf bad).symm;rw[Ev.kz1 (by simpa using h0),Ev.zz3 (by simp;omega),Ev.kz1 (by simp;omega),show decide (((z43 s k).1:Int)>57)=true by simp;omega];exact(l3t _).to (hf bad).symm
 have rest:∀k,k<=s.length->1<=k->Ev (λn=>zzn n s k) ((s.drop k).all z4y) :=
  down (Q:=λk=>1<=k->Ev (λn=>zzn n s k) ((s.drop k).all z4y)) (λ_=>by
   rw[zb9,Ev.kz1 (by simp),Ev.yz2];simp) λk hk ih h1=>by
   rw[<-Qah (h:=hk),List.all_cons];refine step k hk _ (λh =>?_) λh =>?_
   rw[Qbs (by omega)]at h;rw[h];rfl;rw[Qbs (by omega)]at h;rw[h];exact ih (by omega)
 rw[zoq]
 cases s with
 |nil=>rw[Ev.zz3 (by rfl),zb7,Ev.zz3 (by rfl),Ev.yz2];rfl
 |cons c t=>
  rw[Ev.kz1 (by simp;omega),zb7];by_cases h40:(c::t).length<=40;rw[Ev.kz1 (by simp at h40 ⊢;omega)];refine step 0 (by simp) _ (λh =>?_) λh =>?_
  rw[Qbr rfl]at h;simp only[List.getElem_cons_zero]at h;simp[z7w,h];rw[Qbr rfl]at h;simp only[List.getElem_cons_zero]at h;refine(rest 1 (by simp) (Qbq _)).to ?_;simp[z7w,h];intro _;simpa using h40
  rw[Ev.zz3 (by simp at h40 ⊢;omega),Ev.yz2];simp[z7w];intro _ _;simpa using h40
theorem zrj{c:UInt8}:Ev (λn=>z2b n (c.toNat:Int)) (isLet c):=by
 rw[zl7];simp only[Ev.pif,Ev.yz2,isLet,Qar];split;have:97<=c.toNat:=by omega
 simp[this];omega;have:¬97<=c.toNat:=by omega
 simp[this]
theorem z9l{c:UInt8}:Ev (λn=>z1u n (c.toNat:Int)) (z61 c):=by
 rw[zoh];simp only[Ev.pif,Ev.yz2,z61,Qar];split;have:48<=c.toNat:=by omega
 simp[this];omega;have:¬48<=c.toNat:=by omega
 simp[this]
theorem y92{c:UInt8}:(((c.toNat:Nat):Int) != 45) = !(c==45):=by
 cases h:c==45 with
 |true=>have:c=45:=by simpa using h
        subst this;rfl
 |false=>
  have:c.toNat≠45:=λhh=>by
   have:c=45:=UInt8.toNat_inj.1 (by simpa using hh);subst this;cases h
  simp;omega
theorem zxk{s:B8}(hs:s.length<=1048576):Ev (λn=>z3q n s) (z7w s):=by
 have bad:∀k:Int,Ev (λn=>kzn n s k true) false:=λk=>by rw[zb1,Ev.zz3 (by rfl),Ev.yz2]
 have step:∀k (hk:k<s.length) (r:Bool),((if k=0 then isLet s[k]else z4y s[k])=false->r=false)->((if k=0 then isLet s[k]else z4y s[k])=true->Ev (λn=>yzk n ((k+1:Nat):Int) s) r)->Ev (λn=>yzk n (k:Int) s) r:=λk hk r hf ht=>by
  have l1:∀b,(if k=0 then isLet s[k]else z4y s[k]) = !b->Ev (λn=>kzn n s (k:Int) b) r:=λb hb=>by
   cases b;rw[zb1,Ev.kz1 (by rfl),wrk (by omega)];exact ht hb;exact(bad _).to (hf hb).symm
  rw[zak,Ev.zz3 (by simpa using hk),Ev.yz1 (zzb hk),Ev.zz1 zrj];cases hl:isLet s[k];rw[Ev.zz3 (by rfl)];by_cases h0:k=0;rw[Ev.zz3 (by simpa using h0)];exact l1 true (by rw[Qbr h0,hl];rfl);rw[Ev.kz1 (by simpa using h0),Ev.yz1 (zzb hk),y92];cases h45:s[k]==45;rw[Ev.zz3 (by rfl),Ev.yz1 (zzb hk),Ev.zz1 z9l];exact l1 _ (by rw[Qbs h0,z4y,hl,h45];simp)
  rw[Ev.kz1 (by rfl)];exact l1 false (by rw[Qbs h0,z4y,hl,h45];rfl);rw[Ev.kz1 (by rfl)];exact l1 false (by split;exact hl;rw[z4y,hl];rfl)
 have fin:∀r:Bool,r=(decide (1<=s.length)&&decide (s.length<=40))->Ev (λn=>yzk n (s.length:Int) s) r:=λr hr=>by
  rw[zak,Ev.kz1 (by simp),hr];by_cases h1:1<=s.length;rw[Ev.zz3 (by simp;omega),Ev.yz2];simp[h1];omega;rw[Ev.kz1 (by simp;omega),Ev.yz2];simp[h1]
 have rest:∀k,k<=s.length->1<=k->Ev (λn=>yzk n (k:Int) s) ((s.drop k).all z4y&&decide (s.length<=40)) :=
  down (Q:=λk=>1<=k->Ev (λn=>yzk n (k:Int) s) ((s.drop k).all z4y&&decide (s.length<=40))) (λh1=>by
   refine fin _ ?_;simp[h1]) λk hk ih h1=>by
   rw[<-Qah (h:=hk),List.all_cons];refine step k hk _ (λh =>?_) λh =>?_
   rw[Qbs (by omega)]at h;rw[h];rfl;rw[Qbs (by omega)]at h;rw[h];exact ih (by omega)
 rw[zpd]
 cases s with
 |nil=>exact fin _ rfl
 |cons c t=>
  refine step 0 (by simp) _ (λh =>?_) λh =>?_
  rw[Qbr rfl]at h;simp only[List.getElem_cons_zero]at h;simp[z7w,h];rw[Qbr rfl]at h;simp only[List.getElem_cons_zero]at h;refine(rest 1 (by simp) (Qbq _)).to ?_;simp[z7w,h]
theorem zpj{s:B8}(hb:s.length<=1048576):Ev (λn=>z0t n s [91]) (cutAt 91 s):=OHand.zkf hb
theorem wS{a b:Nat}(h:b<=a)(ha:a<=1048576):IntKind.i64.wrap ((a:Int)-(b:Int))=((a-b:Nat):Int):=by rw[wI (by omega)];omega
theorem y3r{s:B8}(hb:s.length<=1048576):Ev (λn=>zzy n s [93]) (if s.getLast?==some 93 then (s.dropLast,true)else (s,false)):=by
 have hi:Ev (λn=>yzb n s [93]) (s.getLast?==some 93):=by
  rw[z5s]
  rcases List.eq_nil_or_concat s with rfl|⟨t,c,rfl⟩
  rw[Ev.kz1 (by rfl),Ev.yz2];rfl;simp only[List.concat_eq_append,Qap,List.length_cons,List.length_nil,Nat.zero_add]at hb ⊢;rw[Ev.zz3 (by simp;omega),wS (by omega) (by omega),Nat.add_sub_cancel];rw[Ev.yz1 (y:=[c]) (by rw[zbw (by omega) (by simp),List.take_of_length_le (by simp),List.drop_left]),Ev.yz2];simp
 have hc:Ev (λn=>kzb n s [93]) (if s.getLast?==some 93 then (s.dropLast,true)else (s,false)):=by
  rw[z5q,Ev.zz1 hi];cases h:s.getLast?==some 93;rw[Ev.zz3 (by rfl),Ev.yz2];rfl
  rcases List.eq_nil_or_concat s with rfl|⟨t,c,rfl⟩
  simp at h;simp only[List.concat_eq_append,Qap,List.length_cons,List.length_nil,Nat.zero_add]at hb ⊢;rw[Ev.kz1 (by rfl),wS (by omega) (by omega),Nat.add_sub_cancel,Ev.yz1 (y:=t) (by rw[z8n (by simp),List.take_left]),Ev.yz2];simp
 rw[zdc,Ev.zz1 hc,Ev.yz2]
theorem zu3{a1 d:B8}{a2:yz8}:∀k,k<=d.length->∀m,∃t,Ev (λn=>z0j n m a1 a2 d k) ((d.drop k).all z61,t) :=
 down (λm=>by
  refine⟨yz8.mk a1 m,?_⟩;rw[z6l,Ev.kz1 (by simp),Ev.yz2]
  simp) λk hk ih m=>by
  rw[<-Qah (h:=hk)]
  have bad:∀(c m:Int) (q:Nat),z61 d[k]=false->Ev (λn=>z0e n a1 c m true a2 d q) ((d[k]::d.drop (k+1)).all z61,yz8.mk [] 0):=λc m q h=>by
   rw[zaj,Ev.zz3 (by rfl),Ev.yz2];simp only[List.all_cons,h,Bool.false_and]
  by_cases hd:z61 d[k]=true;have h48:48<=d[k].toNat∧d[k].toNat<=57:=by simpa[z61]using hd
  have e:=zlz hk (by omega);obtain⟨t,ht⟩:=ih (IntKind.i64.wrap ((IntKind.i64.wrap (10 * m))+(IntKind.i64.wrap (IntKind.i32.wrap (((z43 d k).1:Int)-48)))));refine⟨t,?_⟩;rw[z6l,Ev.zz3 (by simpa using hk),Ev.kz1 (by rw[e];simp;omega),show decide (((z43 d k).1:Int)>57)=false by rw[e];simp;omega,zaj,Ev.kz1 (by rfl),show(z43 d k).2=1 by rw[e]];simp only[List.all_cons,hd,Bool.true_and];exact ht
  rw[Bool.not_eq_true]at hd;refine⟨yz8.mk [] 0,?_⟩;rw[z6l,Ev.zz3 (by simpa using hk)]
  have hcase:(z43 d k).1<48∨57<(z43 d k).1:=by
   by_cases hlow:d[k].toNat<128;rw[zlz hk hlow];simp only[z61,Bool.and_eq_false_iff,decide_eq_false_iff_not]at hd;show d[k].toNat<48∨57<d[k].toNat;omega;have:=zqq hk (by omega);omega
  refine Ev.pc (λh=>bad _ _ _ hd) λh =>?_
  rw[show decide (((z43 d k).1:Int)>57)=true by simp at h ⊢;omega];exact bad _ _ _ hd
theorem zxq{s:B8}(hb:s.length<=1048576):∃t,Ev (λn=>yzg n s) (z4t s,t):=by
 have h1:=zqf 91 s;have h2:=zgp 91 s
 have key:∀b:Bool,b=(!z7w (cutAt 91 s).1 || !(cutAt 91 s).2.2)->∃t,Ev (λn=>z0g n (cutAt 91 s).1 (cutAt 91 s).2.2 (cutAt 91 s).2.1 b (yz8.mk [] 0)) (z4t s,t):=λb hx=>by
  have hro:z4t s=(z7w (cutAt 91 s).1&&(!(cutAt 91 s).2.2||((cutAt 91 s).2.1.getLast?==some 93&&z9a (cutAt 91 s).2.1.dropLast))):=rfl;generalize cutAt 91 s=y at *;have no:∀d,Ev (λn=>yzl n y.1 d true (yz8.mk [] 0)) (false,yz8.mk [] 0):=λd=>by rw[zaz,Ev.zz3 (by rfl),Ev.yz2]
  cases hc:b;rw[hx,Bool.or_eq_false_iff,Bool.not_eq_false',Bool.not_eq_false']at hc;have hs:=y3r (s:=y.2.1) (by omega);have hr:z4t s=(y.2.1.getLast?==some 93&&z9a y.2.1.dropLast):=by rw[hro,hc.1,hc.2];rfl
  rw[hr];cases hl:y.2.1.getLast?==some 93;rw[hl]at hs;refine⟨yz8.mk [] 0,?_⟩;rw[z1k,Ev.kz1 (by rfl),Ev.zz1 hs,Ev.zz3 (by rfl)];exact no _;rw[hl]at hs;simp only[if_true]at hs;have hdl:y.2.1.dropLast.length<=1048576:=by simp;omega
  generalize y.2.1.dropLast=d at *;obtain⟨t,ht⟩:=zu3 (a1:=y.1) (d:=d) (a2:=yz8.mk [] 0) 0 (Qbp _) 0;have yes:Ev (λn=>yzl n y.1 d false (yz8.mk [] 0)) (d.all z61,t):=by rw[zaz,Ev.kz1 (by rfl)];simpa using ht
  cases d with
  |nil=>
   refine⟨yz8.mk [] 0,?_⟩;rw[z1k,Ev.kz1 (by rfl),Ev.zz1 hs,Ev.kz1 (by rfl),Ev.zz3 (by rfl)]
   exact no _
  |cons c d=>
   by_cases h4:(c::d).length<=4;by_cases hz:c=48∧1<(c::d).length;refine⟨yz8.mk [] 0,?_⟩;rw[z1k,Ev.kz1 (by rfl),Ev.zz1 hs];dsimp only;rw[Ev.kz1 (by rfl),Ev.kz1 (by simp;omega),Ev.kz1 (by simp at h4 ⊢;omega),Ev.yz1 (show ix (c::d) 0=some c from rfl),Ev.zz3 (by simp[hz.1]),show decide (((c::d).length:Int)>1)=true by have:=hz.2;simp only[Qar];omega]
   have h1:decide (1<(c::d).length)=true:=by simpa only[Qar]using hz.2
   have h2:((c::d).head?==some 48)=true:=by simp[hz.1]
   simp only[z9a,h1,h2,Bool.and_self,Bool.not_true,Bool.and_false,Bool.false_and];exact no _;refine⟨t,?_⟩;rw[z1k,Ev.kz1 (by rfl),Ev.zz1 hs];dsimp only;rw[Ev.kz1 (by rfl),Ev.kz1 (by simp;omega),Ev.kz1 (by simp at h4 ⊢;omega),Ev.yz1 (show ix (c::d) 0=some c from rfl)]
   have e:((c::d).all z61,t)=(true&&z9a (c::d),t):=by
    have:(decide (1<=(c::d).length))=true:=by simp
    have hz':((c::d).head?==some 48&&decide (1<(c::d).length))=false:=by
     rw[Bool.and_eq_false_iff];by_cases h8:c=48;exact .inr (by simpa using λh=>hz ⟨h8,h⟩);exact .inl (by simpa using h8)
    simp only[z9a,this,h4,decide_true,hz',Bool.not_false,Bool.true_and]
   rw[<-e];refine Ev.pc (λh =>?_) λh=>yes
   have h8:c=48:=UInt8.toNat_inj.1 (by simp at h;show c.toNat=48;omega);rw[show decide (((c::d).length:Int)>1)=false by simp only[decide_eq_false_iff_not];exact λhh=>hz ⟨h8,by omega⟩];exact yes;refine⟨yz8.mk [] 0,?_⟩;rw[z1k,Ev.kz1 (by rfl),Ev.zz1 hs,Ev.kz1 (by rfl),Ev.kz1 (by simp;omega),Ev.zz3 (by simp at h4 ⊢;omega)];simp only[z9a,h4,decide_false,Bool.and_false,Bool.false_and];exact no _
  refine⟨yz8.mk y.1 (-1),?_⟩;rw[z1k,Ev.zz3 (by rfl)];refine Ev.pc (λh =>?_) λh =>?_
  rw[Bool.not_eq_true']at h;rw[Ev.zz1 (zmc (by omega)),Ev.yz2,hro,h];simp;rw[Bool.not_eq_false']at h;rw[hx,h]at hc;rw[Ev.yz2,hro];simp at hc;simp[hc]
 obtain⟨t,ht⟩:=key _ rfl;refine⟨t,?_⟩;rw[zp9,Ev.zz1 (zpj hb),Ev.zz1 (zmc (by omega))];refine Ev.pc (λh =>?_) λh =>?_
 rw[h,Bool.true_or]at ht;exact ht;rw[h,Bool.false_or]at ht;exact ht
theorem zqt:∀l:List B8,(∀x∈l,x.length<=1048576)->∃q,∀m,q<=m->∀x∈l,∃t,yzg m x=some (z4t x,t)
 |[],_=>⟨0,λ_ _ x h=>by cases h⟩
 |x::l,hl=>by
  obtain⟨q,hq⟩:=zqt l λy hy=>hl y (Qai _ hy)
  obtain⟨t,p,hp⟩:=zxq (hl x Qak);refine⟨max p q,λm hm y hy =>?_⟩
  rcases Qbi.1 hy with rfl|hy
  exact⟨t,hp m (by omega)⟩;exact hq m (by omega) y hy
theorem zjn{s:B8}(hb:s.length<=1048576):Ev (λn=>z1p n s) (kzf s):=by
 obtain⟨q,hq⟩:=zqt (steps s) λx hx=>Qbh (zr1 hx) hb
 refine⟨q,λm hm =>?_⟩
 have h1:((steps s).all λx=>(yzg (m+10) x).isSome)=true:=by
  rw[Qat];intro x hx;obtain⟨t,ht⟩:=hq (m+10) (by omega) x hx;rw[ht];rfl
 have h2:∀x∈steps s,(OHand.rd m x).1=z4t x:=λx hx=>by
  obtain⟨t,ht⟩:=hq (m+10) (by omega) x hx;have hf:OHand.fx m x=x:=by unfold OHand.fx;rw[Qbr (by rw[ht];rfl)]
  unfold OHand.rd;rw[hf,ht];rfl
 have h3:((steps s).all λx=>(OHand.rd m x).1)=(steps s).all z4t:=by
  rw[Bool.eq_iff_iff,Qat,Qat];exact⟨λh x hx=>by rw[<-h2 x hx];exact h x hx,λh x hx=>by rw[h2 x hx];exact h x hx⟩
 show(if _ then _ else _)=_;rw[Qbr h1];unfold z9f kzf;rw[h3]
theorem y00{c:UInt8}{k:Nat}(hk:k<256):(((c.toNat:Nat):Int)==(k:Int))=(c==UInt8.ofNat k):=by
 rw[Bool.eq_iff_iff,Qbj,Qbj];constructor;intro h;refine UInt8.toNat_inj.1 ?_;rw[UInt8.toNat_ofNat'];omega;intro h;subst h;rw[UInt8.toNat_ofNat'];omega
theorem b47{c:UInt8}:(((c.toNat:Nat):Int)==47)=(c==47):=y00 (k:=47) (by decide)
theorem b48{c:UInt8}:(((c.toNat:Nat):Int)==48)=(c==48):=y00 (k:=48) (by decide)
theorem b91{c:UInt8}:(((c.toNat:Nat):Int) != 91)=(c != 91):=by unfold bne;rw[show(((c.toNat:Nat):Int)==91)=(c==91)from y00 (k:=91) (by decide)]
theorem b93{c:UInt8}:(((c.toNat:Nat):Int) != 93)=(c != 93):=by unfold bne;rw[show(((c.toNat:Nat):Int)==93)=(c==93)from y00 (k:=93) (by decide)]
theorem zgo{s d:B8}{x1:Int}{m:Int}{k:Nat}(hb:d.length<=1048576)(hk:k<d.length){a:B8}{b:Int}{r:Bool}
  (hg:z61 d[k]=true->¬3<k->Ev (λn=>zzk n ((k+1:Nat):Int) d (IntKind.i64.wrap ((IntKind.i64.wrap (10 * m))+(IntKind.i64.wrap (IntKind.u8.wrap (((d[k].toNat:Nat):Int)-48))))) x1 s) (a,b,r))
  (hbad:(z61 d[k]=false∨3<k)->r=false):∃a b,Ev (λn=>zzk n (k:Int) d m x1 s) (a,b,r):=by
 have bad:∀r,r=false->Ev (λn=>z0f n d x1 s (k:Int) m true) ([],0,r):=λr h=>by
  rw[h,zaw,Ev.zz3 (by rfl),Ev.yz2]
 cases hd:z61 d[k];refine⟨[],0,?_⟩;rw[z1o,Ev.zz3 (by simpa using hk),Ev.yz1 (zzb hk),Ev.zz1 z9l,Ev.zz3 (by rw[hd];rfl)];exact bad _ (hbad (.inl hd));by_cases h3:3<k;refine⟨[],0,?_⟩;rw[z1o,Ev.zz3 (by simpa using hk),Ev.yz1 (zzb hk),Ev.zz1 z9l,Ev.kz1 (by rw[hd];rfl),show decide ((k:Int)>3)=true by simp;omega];exact bad _ (hbad (.inr h3));refine⟨a,b,?_⟩
 rw[z1o,Ev.zz3 (by simpa using hk),Ev.yz1 (zzb hk),Ev.zz1 z9l,Ev.kz1 (by rw[hd];rfl),show decide ((k:Int)>3)=false by simp;omega,zaw,Ev.kz1 (by rfl),Ev.yz1 (zzb hk),wrk (by omega)];exact hg hd h3
def zst(d:B8):Bool:=decide (1<=d.length) && !(d.head?==some 48&&decide (1<d.length))
theorem y0o{s d:B8}{x1:Int}(h4:d.length<=4)(h1:0<=x1∧x1<=s.length):∀k,k<=d.length->∀m,∃a b,Ev (λn=>zzk n (k:Int) d m x1 s) (a,b,(d.drop k).all z61&&zst d) :=
 down (λm=>by
  have hJ:∀c,∃a b,Ev (λn=>kzx n m x1 s c) (a,b,!c):=λc=>by
   cases c;refine⟨s.take x1.toNat,m,?_⟩;have:=z8n (l:=s) (hi:=x1.toNat) (by omega);rw[Int.toNat_of_nonneg h1.1]at this;rw[zay,Ev.kz1 (by rfl),Ev.yz1 this,Ev.yz2];rfl;refine⟨[],0,?_⟩;rw[zay,Ev.zz3 (by rfl),Ev.yz2];rfl
  cases d with
  |nil=>
   obtain⟨a,b,h⟩:=hJ true;refine⟨a,b,?_⟩;rw[z1o,Ev.kz1 (by rfl),Ev.zz3 (by rfl)]
   exact h
  |cons c d=>
   have e1:decide (1<=(c::d).length)=true:=by simp
   by_cases hl:1<(c::d).length;obtain⟨a,b,h⟩:=hJ (c==48);refine⟨a,b,?_⟩;rw[z1o,Ev.kz1 (by simp),Ev.kz1 (by simp;omega),Ev.zz3 (by simp only[Qar];omega),Ev.yz1 (show ix (c::d) 0=some c from rfl),b48];refine Ev.to h ?_
   have e2:((c::d).head?==some 48)=(c==48):=by
    rw[Bool.eq_iff_iff];simp
   simp only[zst,List.drop_length,List.all_nil,hl,e1,e2,decide_true,Bool.true_and,Bool.and_true];obtain⟨a,b,h⟩:=hJ false;refine⟨a,b,?_⟩;rw[z1o,Ev.kz1 (by simp),Ev.kz1 (by simp;omega),Ev.kz1 (by simp only[decide_eq_false_iff_not];omega)];refine Ev.to h ?_
   simp only[zst,List.drop_length,List.all_nil,hl,e1,decide_true,decide_false,Bool.and_false,Bool.not_false,Bool.true_and]) λk hk ih m=>by
  obtain⟨a,b,h⟩:=ih (IntKind.i64.wrap ((IntKind.i64.wrap (10 * m))+(IntKind.i64.wrap (IntKind.u8.wrap (((d[k].toNat:Nat):Int)-48)))));rw[<-Qah (h:=hk)];refine zgo (by omega) hk (λhd _=>Ev.to h (by rw[List.all_cons,hd,Bool.true_and])) λhh =>?_
  rcases hh with hh|hh
  rw[List.all_cons,hh];rfl;omega
theorem y3d{s d:B8}{x1:Int}(hb:d.length<=1048576)(h4:4<d.length):∀k:Nat,k<=4->∀m,∃a b,Ev (λn=>zzk n (k:Int) d m x1 s) (a,b,false) :=
 down (λm=>zgo (a:=[]) (b:=0) hb (k:=4) (by omega) (λ_ h=>absurd (by decide) h) λ_=>rfl) λk hk ih m=>by
  obtain⟨a,b,h⟩:=ih (IntKind.i64.wrap ((IntKind.i64.wrap (10 * m))+(IntKind.i64.wrap (IntKind.u8.wrap ((((d[k]'(by omega)).toNat:Nat):Int)-48)))));exact zgo hb (k:=k) (by omega) (λ_ _=>h) λ_=>rfl
theorem zxb{s d:B8}{x1:Int}(hb:d.length<=1048576)(h1:0<=x1∧x1<=s.length):∃a b,Ev (λn=>zzk n 0 d 0 x1 s) (a,b,z9a d):=by
 by_cases h4:d.length<=4;obtain⟨a,b,h⟩:=y0o (x1:=x1) h4 h1 0 (Qbp _) 0;refine⟨a,b,Ev.to h ?_⟩;simp only[zst,z9a,h4,List.drop_zero,decide_true,Bool.and_true]
 congr 2
 rw[Bool.and_comm];obtain⟨a,b,h⟩:=y3d (s:=s) (x1:=x1) hb (by omega) 0 (by omega) 0;refine⟨a,b,Ev.to h ?_⟩;simp only[z9a,h4,decide_false,Bool.and_false,Bool.false_and]
def pa(p:B8):B8->List B8
 |[]=>[p]
 |c::t=>if c==47 then p::pa [] t else pa (p++[c]) t
theorem y5a:∀(t p:B8),∃h r,parts 47 t=h::r∧pa p t=(p++h)::r
 |[],p=>⟨[],[],rfl,by simp[pa]⟩
 |c::t,p=>by
  cases hc:c==47;obtain⟨h,r,h1,h2⟩:=y5a t (p++[c]);refine⟨c::h,r,by rw[parts,hc,h1];rfl,by rw[pa,hc];simp[h2]⟩;obtain⟨h,r,h1,h2⟩:=y5a t [];refine⟨[],h::r,by rw[parts,hc,h1];rfl,by rw[pa,hc];simp[h2]⟩
theorem y8r(t:B8):pa [] t=parts 47 t:=by
 obtain⟨h,r,h1,h2⟩:=y5a t [];rw[h1,h2];rfl
theorem zt1{s:B8}(hb:s.length<=1000000):Ev (λn=>z1a n s) (steps s):=by
 have loop:∀k,k<=s.length->∀(f:Nat) (l:List B8),f<=k->l.length<=k->Ev (λn=>z11 n (k:Int) (f:Int) s l) (l++pa ((s.take k).drop f) (s.drop k)) :=
  down (λf l hf hl=>by
   rw[z7r,Ev.zz3 (by simp),Ev.zz3 (by simp),zca,Ev.zz3 (by rfl),Ev.yz1 (zbw hf (Qbq _)),Ev.yz1 (zn4 (by simp;omega)),z7u,wrk (by omega),z7r,Ev.kz1 (by simp;omega),Ev.yz2]
   simp[pa]) λk hk ih f l hf hl=>by
   rw[<-Qah (h:=hk),pa];rw[z7r,Ev.zz3 (by simp;omega),Ev.kz1 (by simp;omega),Ev.yz1 (zzb hk),zca,b47];refine Ev.pc (λh =>?_) λh =>?_
   rw[Ev.yz1 (zbw hf (by omega)),Ev.yz1 (zn4 (by simp;omega)),z7u,wrk (by omega)];refine Ev.to (ih (k+1) _ (Qbq _) (by simp;omega)) ?_;rw[h,Qbr rfl,Qaz];rw[show(s.take (k+1)).drop (k+1)=[]from List.drop_of_length_le (by rw[Qay];omega)];rfl;rw[z7u,wrk (by omega)];refine Ev.to (ih f l (by omega) (by omega)) ?_;rw[h,Qbs (by simp)]
   congr 2
   rw[List.take_add_one,Qab hk,List.drop_append_of_le_length (by simp;omega)];rfl
 rw[zsw];refine Ev.pc (λh =>?_) λh =>?_
 rw[Ev.yz2];unfold steps;rw[h];rfl;refine Ev.to (loop 0 (Qbp _) 0 [] (Qbq _) (Qbq _)) ?_;unfold steps;rw[h];simp[y8r]
theorem y5o{α:Type}{p:α->Bool}:∀{s:List α}{x:α},x∈s.takeWhile p->p x=true
 |[],x,h=>by simp at h
 |c::t,x,h=>by
  rw[List.takeWhile_cons]at h;split at h
  rcases Qbi.1 h with rfl|h
  assumption
  exact y5o h;cases h
theorem y0a{α:Type}{p:α->Bool}:∀{s:List α},s.take (s.takeWhile p).length=s.takeWhile p
 |[]=>rfl
 |c::t=>by
  rw[List.takeWhile_cons];split;simp[y0a (s:=t)];rfl
theorem y96{s:B8}(hb:s.length<=1000000){r:B8×Int×Bool}(h:Ev (λn=>yzx n s ((s.takeWhile (· != 91)).length:Int) false) r):Ev (λn=>zzw n 0 s) r:=by
 have tw:∀(k:Nat) (hk:k<(s.takeWhile (· != 91)).length),∃h:k<s.length,(s[k] != 91)=true:=λk hk=>by
  have hl:=(List.takeWhile_sublist (l:=s) (· != 91)).length_le;refine⟨by omega,?_⟩;have h1:(s.takeWhile (· != 91))[k]'hk∈s.takeWhile (· != 91):=Qad hk;have h2:=y5o h1
  have e:(s.takeWhile (· != 91))[k]'hk=s[k]'(by omega):=by
   have h3:=List.takeWhile_append_dropWhile (p:=(· != 91)) (l:=s);have h4:(s.takeWhile (· != 91)++s.dropWhile (· != 91))[k]? = s[k]? := by rw[h3]
   rw[Qal hk,Qab hk,Qab (by omega)]at h4;simpa using h4
  rwa[e]at h2
 have:=down (len:=(s.takeWhile (· != 91)).length) (Q:=λk=>Ev (λn=>zzw n (k:Int) s) r) (by
  by_cases hl:(s.takeWhile (· != 91)).length<s.length;rw[z6n,Ev.zz3 (by simpa using hl),Ev.yz1 (zzb hl),b91]
  have hc:(s[(s.takeWhile (· != 91)).length] != 91)=false:=by
   have h3:=List.takeWhile_append_dropWhile (p:=(· != 91)) (l:=s)
   cases hd:s.dropWhile (· != 91)with
   |nil=>rw[hd,List.append_nil]at h3;have:=congrArg List.length h3;omega
   |cons c t=>
    have h4:=List.head?_dropWhile_not (p:=(· != 91)) s;rw[hd]at h4
    have h5:s[(s.takeWhile (· != 91)).length]? = some c:=by
     rw[hd]at h3;have h6:(s.takeWhile (· != 91)++c::t)[(s.takeWhile (· != 91)).length]? = some c:=by simp
     rwa[h3]at h6
    rw[Qab hl]at h5;injection h5 with h5;rw[h5];simpa using h4
  rw[hc];exact h;have hl':(s.takeWhile (· != 91)).length=s.length:=by have:=(List.takeWhile_sublist (l:=s) (· != 91)).length_le;omega
  rw[z6n,Ev.kz1 (by rw[hl'];simp)]
  exact h) (λk hk ih=>by
  obtain⟨h1,h2⟩:=tw k hk;rw[z6n,Ev.zz3 (by simpa using h1),Ev.yz1 (zzb h1),b91,h2,z3a,Ev.zz3 (by rfl),wrk (by omega)]
  exact ih) 0 (Qbp _)
 exact this
theorem y5k{s:B8}(hb:s.length<=1000000):∃a b,Ev (λn=>z3r n s) (a,b,z4t s):=by
 have h1:(s.takeWhile (· != 91)).length<=s.length:=zqf 91 s;have ht:s.take (s.takeWhile (· != 91)).length=s.takeWhile (· != 91):=y0a;have hsub:sub s 0 ((s.takeWhile (· != 91)).length:Int)=some (s.takeWhile (· != 91)):=by rw[z8n h1,ht]
 suffices h:∃a b,Ev (λn=>yzx n s ((s.takeWhile (· != 91)).length:Int) false) (a,b,z4t s) by
  obtain⟨a,b,h⟩:=h;exact⟨a,b,by rw[zpt];exact y96 hb h⟩
 have hro:z4t s=(z7w (s.takeWhile (· != 91))&&(!(cutAt 91 s).2.2||((cutAt 91 s).2.1.getLast?==some 93&&z9a (cutAt 91 s).2.1.dropLast))):=rfl;have hnm:=zxk (s:=s.takeWhile (· != 91)) (Qbh h1 (by omega));cases hn:z7w (s.takeWhile (· != 91));refine⟨[],0,?_⟩;rw[z3a,Ev.kz1 (by rfl),Ev.yz1 hsub,Ev.zz1 hnm,Ev.zz3 (by rw[hn];rfl),Ev.yz2,hro,hn];rfl;rw[hn,Bool.true_and]at hro;cases hc:s.any (· == 91)
 have hcut:=zxe hc;have hs:s.takeWhile (· != 91)=s:=congrArg Prod.fst hcut;refine⟨s,-1,?_⟩;rw[z3a,Ev.kz1 (by rfl),Ev.yz1 hsub,Ev.zz1 hnm,Ev.kz1 (by rw[hn];rfl),Ev.zz3 (by rw[hs];simp),Ev.yz2,hro,hcut];rfl;obtain⟨hi,_,hdrop⟩:=zre hc;have hrest:(cutAt 91 s).2.1=s.drop ((s.takeWhile (· != 91)).length+1):=hdrop.symm;have h22:(cutAt 91 s).2.2=true:=hc;rw[h22,hrest,Bool.not_true,Bool.false_or]at hro
 have hat:s[(s.takeWhile (· != 91)).length]=91:=by
  have h3:=List.takeWhile_append_dropWhile (p:=(· != 91)) (l:=s)
  cases hd:s.dropWhile (· != 91)with
  |nil=>rw[hd,List.append_nil]at h3;have:=congrArg List.length h3;omega
  |cons c t=>
   have h4:=List.head?_dropWhile_not (p:=(· != 91)) s;rw[hd]at h4
   have h5:s[(s.takeWhile (· != 91)).length]? = some c:=by
    rw[hd]at h3;have h6:(s.takeWhile (· != 91)++c::t)[(s.takeWhile (· != 91)).length]? = some c:=by simp
    rwa[h3]at h6
   rw[Qab hi]at h5;injection h5 with h5;rw[h5];simpa using h4
 generalize hk:(s.takeWhile (· != 91)).length=k at *;have hlast:((s.length:Int)-1)=((s.length-1:Nat):Int):=by omega
 have hl1:s.length-1<s.length:=by omega
 have hgl:s.getLast?=some s[s.length-1]:=by rw[List.getLast?_eq_getElem?,Qab hl1]
 have hdl:(s.drop (k+1)).getLast?=if k+1<s.length then s.getLast? else none:=by
  rw[List.getLast?_drop];split <;> split <;> first|rfl|omega
 cases hl:s[s.length-1]==93;refine⟨[],0,?_⟩;rw[z3a,Ev.kz1 (by rfl),Ev.yz1 hsub,Ev.zz1 hnm,Ev.kz1 (by rw[hn];rfl),Ev.kz1 (by simp;omega),hlast,wI (by omega),Ev.yz1 (zzb hl1),b93,Ev.zz3 (by unfold bne;rw[hl];rfl),Ev.yz2,hro,hdl];split;rw[hgl];have:(some s[s.length-1]==some (93:UInt8))=false:=by simpa using hl
 rw[this];rfl;rfl
 have hkk:k+1<=s.length-1:=by
  rcases Nat.lt_or_ge k (s.length-1)with h|h
  exact h;have:k=s.length-1:=by omega
  subst this;rw[hat]at hl;cases hl
 have hd:=zxb (s:=s) (d:=(s.take (s.length-1)).drop (k+1)) (x1:=(k:Int)) (by simp;omega) ⟨by omega,by omega⟩;obtain⟨a,b,hd⟩:=hd;refine⟨a,b,?_⟩;rw[z3a,Ev.kz1 (by rfl),Ev.yz1 hsub,Ev.zz1 hnm,Ev.kz1 (by rw[hn];rfl),Ev.kz1 (by simp;omega),hlast,wI (by omega),Ev.yz1 (zzb hl1),b93,Ev.kz1 (by unfold bne;rw[hl];rfl),wrk (by omega),Ev.yz1 (zbw hkk (by omega))];refine Ev.to hd ?_
 rw[hro,hdl,Qbr (by omega),hgl];have:(some s[s.length-1]==some (93:UInt8))=true:=by simpa using hl
 rw[this,Bool.true_and]
 congr 4
 rw[List.dropLast_eq_take,List.drop_take,List.length_drop]
 congr 1;omega
theorem z6r{s:B8}:Ev (λn=>z00 n s) (kzf s):=by
 rw[zmg];refine Ev.pc (λh =>?_) λh =>?_
 have:4000<s.length:=by simp at h;omega
 rw[Ev.yz2];simp[kzf,this];have h4:¬4000<s.length:=by simp at h;omega
 rw[Ev.zz1 (zt1 (by omega))];refine Ev.pc (λh =>?_) λh =>?_
 have:40<(steps s).length:=by simp at h;omega
 rw[Ev.yz2];simp[kzf,h4,this];have h40:¬40<(steps s).length:=by simp at h;omega
 have:=down (len:=(steps s).length) (Q:=λk=>Ev (λn=>z04 n (k:Int) (steps s)) (if ((steps s).drop k).all z4t then 0 else 12)) (by
  rw[z9p,Ev.kz1 (by simp),Ev.yz2]
  simp) (λk hk ih=>by
  rw[<-Qah (h:=hk)];obtain⟨a,b,hst⟩:=y5k (s:=(steps s)[k]) (by have:=zr1 (Qad hk);omega);rw[z9p,Ev.zz3 (by simpa using hk),Ev.yz1 (zzb hk),Ev.zz1 hst];refine Ev.pc (λh =>?_) λh =>?_
  have:z4t (steps s)[k]=false:=by simpa using h
  rw[Ev.yz2,List.all_cons,this];rfl;have:z4t (steps s)[k]=true:=by simpa using h
  rw[List.all_cons,this,wrk (by omega)];exact ih) 0 (Qbp _)
 refine Ev.to this ?_;simp only[kzf,h4,h40,if_false,List.drop_zero]
theorem vind{P:kz3->Prop}(h:∀v:kz3,(∀x,x∈v.list->P x)->P v)(v:kz3):P v:=h v λx hx=>vind h x
termination_by v
decreasing_by exact kz3.zhl hx
mutual
def zd0:kz3->Nat
 |⟨k,_,_,_,l⟩=>if k=4 then 1+z4h l else 1
def z4h:z7g->Nat
 |[]=>0
 |x::l=>zd0 x+z4h l
end
theorem zqk(v:kz3):zd0 v=if v.kind=4 then 1+z4h v.list else 1:=by cases v;rw[zd0]
theorem zuj{l:z7g}{x:kz3}(h:x∈l):x.size<=(l.map kz3.size).sum:=by
 induction l with
 |nil=>cases h
 |cons y l ih=>
  rcases Qbi.1 h with rfl|h
  simp;have:=ih h;simp;omega
theorem zam(v:kz3):(v.list.map kz3.size).sum+v.str.length+4<=v.size:=by rw[kz3.size_eq];omega
theorem zyz{v x:kz3}(h:x∈v.list):x.size<=v.size:=by have:=zuj h;have:=zam v;omega
theorem zls(l:z7g):l.length<=(l.map kz3.size).sum:=by
 induction l with
 |nil=>simp
 |cons x l ih=>have:=zam x;simp;omega
theorem zql:∀v:kz3,zd0 v<=v.size:=vind λv ih=>by
 have:∀l:z7g,(∀x,x∈l->x∈v.list)->z4h l<=(l.map kz3.size).sum:=λl=>by
  induction l with
  |nil=>intro _;simp[z4h]
  |cons x l ihl=>
   intro hl;have:=ih x (hl x Qak);have:=ihl λy hy=>hl y (Qai _ hy)
   simp[z4h];omega
 have:=this v.list λ_ h=>h
 have:=zam v;rw[zqk];split <;> omega
theorem zxi(l:z7g):z4h l<=(l.map kz3.size).sum:=by
 induction l with
 |nil=>simp[z4h]
 |cons x l ih=>have:=zql x;simp[z4h];omega
theorem ztm:∀v:kz3,v.size<=8388608->Ev (λn=>z1q n v) (zd0 v:Int):=vind λv ih hs=>by
 have hsl:=zam v;have hlen:=zls v.list;rw[zmh,kz3.zc9,zqk];by_cases hk:v.kind=4;rw[Qbr hk];have hkk:(v.kind==4)=true:=by simpa using hk
 have loop:∀k,k<=v.list.length->∀p:Nat,p+z4h (v.list.drop k)<=8388609->Ev (λn=>kzz n (k:Int) (p:Int) v) ((p+z4h (v.list.drop k):Nat):Int) :=
  down (λp hp=>by
   rw[z5z,Ev.kz1 (by simp),z6d,Ev.kz1 (by rfl),Ev.yz2]
   simp[z4h]) λk hk ihk p hp=>by
   have hx:=Qad hk;have hsx:=zyz hx;rw[<-Qah (h:=hk)]at hp ⊢;simp only[z4h]at hp ⊢;have hpl:=zql v.list[k];rw[z5z,Ev.zz3 (by simpa using hk),hkk,kz3.zc9,z6d,Ev.zz3 (by rfl),Ev.yz1 (zzb hk),kz3.zc9,Ev.zz1 (ih _ hx (by omega)),wI (x:=_+1) (by omega),wI (x:=(p:Int)+_) (by omega)];have e1:(k:Int)+1=((k+1:Nat):Int):=by omega
   have e3:(p:Int)+(zd0 v.list[k]:Int)=((p+zd0 v.list[k]:Nat):Int):=by omega
   rw[e1,e3,kz3.zc9];refine(ihk (p+zd0 v.list[k]) (by omega)).to ?_
   congr 1;omega
 have hv:=zxi v.list;exact loop 0 (Qbp _) 1 (by simp;omega);rw[Qbs hk];have hkk:(v.kind==4)=false:=by simpa using hk
 have l1:Ev (λn=>yzz n 0 1 false v) 1:=by rw[z6d,Ev.kz1 (by rfl),Ev.yz2]
 rw[z5z,hkk,kz3.zc9,Ev.pif];split <;> exact l1
theorem zua:∀v:kz3,v.size<=8388608->∀d:Int,∃b,Ev (λn=>z1s n v d) b:=vind λv ih hs d=>by
 have hsl:=zam v;have hlen:=zls v.list
 have loop:∀k,k<=v.list.length->∀d:Int,∃b,Ev (λn=>z03 n (k:Int) d v) b :=
  down (λd=>⟨false,by rw[z9o,Ev.kz1 (by simp),Ev.yz2]⟩) λk hk ihk d=>by
   have hx:=Qad hk;have hsx:=zyz hx;obtain⟨b,hb⟩:=ih _ hx (by omega) (IntKind.i64.wrap (d-1));obtain⟨c,hc⟩:=ihk d;refine⟨if b then true else c,?_⟩;rw[z9o,Ev.zz3 (by simpa using hk),Ev.yz1 (zzb hk),kz3.zc9,Ev.zz1 hb,kz3.zc9,wrk (by omega)];cases b;rw[Ev.kz1 (by rfl)];exact hc;rw[Ev.zz3 (by rfl),Ev.yz2];rfl
 have l0:∀d b,∃c,Ev (λn=>zzt n d b v) c:=λd b=>by
  cases b;obtain⟨c,hc⟩:=loop 0 (Qbp _) d;exact⟨c,by rw[z9x,Ev.kz1 (by rfl),kz3.zc9];exact hc⟩;exact⟨true,by rw[z9x,Ev.zz3 (by rfl),Ev.yz2]⟩
 simp only[zml,kz3.zc9,Ev.pif];split;exact l0 _ _;split;exact l0 _ _;exact l0 _ _
theorem zvl{v:kz3}(hs:v.size<=8388608):∃b,Ev (λn=>z36 n v) b:=by
 obtain⟨b,hb⟩:=zua v hs 10;cases b;exact⟨_,by rw[zdj,kz3.zc9,Ev.zz1 hb,Ev.kz1 (by rfl),Ev.zz1 (ztm v hs)];exact Ev.yz2.2 rfl⟩;exact⟨true,by rw[zdj,kz3.zc9,Ev.zz1 hb,Ev.zz3 (by rfl),Ev.yz2]⟩
theorem zl8{l:z7g}(hs:(l.map kz3.size).sum<=8388608):∃b,Ev (λn=>z0d n l) b:=by
 have hlen:=zls l
 have loop:∀k,k<=l.length->∃b,Ev (λn=>zzp n (k:Int) l) b :=
  down ⟨_,by rw[z6k,Ev.kz1 (by simp)];exact Ev.yz2.2 rfl⟩ λk hk ⟨c,hc⟩=>by
   obtain⟨b,hb⟩:=zvl (v:=l[k]) (by have:=zuj (Qad hk);omega);refine⟨if b then true else c,?_⟩;rw[z6k,Ev.zz3 (by simpa using hk),Ev.yz1 (zzb hk),kz3.zc9,Ev.zz1 hb,wrk (by omega)];cases b;rw[Ev.kz1 (by rfl)];exact hc;rw[Ev.zz3 (by rfl),Ev.yz2];rfl
 obtain⟨b,hb⟩:=loop 0 (Qbp _);exact⟨b,by rw[zgh];exact hb⟩
theorem y0q{x:zz9}:(x.args.map kz3.size).sum<=x.size:=by rw[zz9.size_eq];omega
theorem zub{l:zz6}(hb:l.length<=1048576)(hs:∀x∈l,x.size<=8388608):∃b,Ev (λn=>z01 n l) b∧(b=false->∀x∈l,x.path.length<=5000):=by
 have loop:∀k,k<=l.length->∃b,Ev (λn=>z06 n (k:Int) l) b∧(b=false->∀x∈l.drop k,x.path.length<=5000) :=
  down ⟨_,by rw[z2l,Ev.kz1 (by simp)];exact Ev.yz2.2 rfl,by simp⟩ λk hk ⟨c,hc,hf⟩=>by
   have l1:∀b,∃r,Ev (λn=>yzp n l (k:Int) b) r∧(r=false->b=false∧c=false):=λb=>by
    cases b;exact⟨c,by rw[z5w,Ev.kz1 (by rfl),wrk (by omega)];exact hc,λh=>⟨rfl,h⟩⟩;exact⟨true,by rw[z5w,Ev.zz3 (by rfl),Ev.yz2],λh=>by cases h⟩
   obtain⟨g,hg⟩:=zl8 (l:=l[k].args) (by have:=hs _ (Qad hk);have:=@y0q l[k];omega);obtain⟨r,hr,_⟩:=l1 true;obtain⟨r',hr',hf'⟩:=l1 g
   have ht:r=true:=by
    rw[z5w,Ev.zz3 (by rfl),Ev.yz2]at hr;exact hr.symm
   by_cases c1:l[k].path.length>5000;refine⟨r,?_,λh=>by rw[ht]at h;cases h⟩;rw[z2l,Ev.zz3 (by simpa using hk),Ev.yz1 (zzb hk),Ev.zz3 (by simp;omega)];exact hr;by_cases c2:l[k].rule_.length>100;refine⟨r,?_,λh=>by rw[ht]at h;cases h⟩;rw[z2l,Ev.zz3 (by simpa using hk),Ev.yz1 (zzb hk),Ev.kz1 (by simp;omega),Ev.yz1 (zzb hk),Ev.zz3 (by simp;omega)];exact hr;by_cases c3:l[k].leaf.length>200
   refine⟨r,?_,λh=>by rw[ht]at h;cases h⟩;rw[z2l,Ev.zz3 (by simpa using hk),Ev.yz1 (zzb hk),Ev.kz1 (by simp;omega),Ev.yz1 (zzb hk),Ev.kz1 (by simp;omega),Ev.yz1 (zzb hk),Ev.zz3 (by simp;omega)];exact hr;refine⟨r',?_,λh x hx =>?_⟩
   rw[z2l,Ev.zz3 (by simpa using hk),Ev.yz1 (zzb hk),Ev.kz1 (by simp;omega),Ev.yz1 (zzb hk),Ev.kz1 (by simp;omega),Ev.yz1 (zzb hk),Ev.kz1 (by simp;omega),Ev.yz1 (zzb hk),Ev.zz1 hg];exact hr';rw[<-Qah (h:=hk)]at hx
   rcases Qbi.1 hx with rfl|hx
   omega;exact hf (hf' h).2 x hx
 obtain⟨b,h1,h2⟩:=loop 0 (Qbp _);exact⟨b,by rw[zog];exact h1,by simpa using h2⟩
theorem zur{l:zz6}(hb:l.length<=1048576)(hs:∀x∈l,x.size<=8388608) :
  ∃b,Ev (λn=>z3b n l []) b∧(b=false->(l.length<=120∨2000<l.length)∧∀x∈l,x.path.length<=5000):=by
 obtain⟨g,hg,hf⟩:=zub hb hs;have l1:Ev (λn=>z05 n 0 []) false:=by rw[zgy,Ev.kz1 (by rfl),Ev.yz2]
 have l0:∀b,Ev (λn=>yz9 n [] b) b:=λb=>by
  rw[zi9];cases b;rw[Ev.kz1 (by rfl)];exact l1;rw[Ev.zz3 (by rfl),Ev.yz2]
 by_cases c1:120<l.length;by_cases c2:l.length<=2000;exact⟨true,by rw[z8s,Ev.zz3 (by simp;omega),Ev.zz3 (by simp;omega)];exact l0 true,λh=>by cases h⟩;exact⟨g,by rw[z8s,Ev.zz3 (by simp;omega),Ev.kz1 (by simp;omega),Ev.kz1 (by rfl),Ev.kz1 (by rfl),Ev.zz1 hg];exact l0 g,λh=>⟨.inr (by omega),hf h⟩⟩
 exact⟨g,by rw[z8s,Ev.kz1 (by simp;omega),Ev.kz1 (by rfl),Ev.kz1 (by rfl),Ev.zz1 hg];exact l0 g,λh=>⟨.inl (by omega),hf h⟩⟩
def atI(l:List B8)(s:B8):Int:=match l.idxOf? s with
 |some i=>(i:Int)
 |none => -1
theorem zhv(x:B8)(l:List B8)(s:B8):atI (x::l) s=if x=s then 0 else if atI l s = -1 then -1 else atI l s+1:=by
 unfold atI;rw[List.idxOf?_cons];by_cases h:x=s;subst h;simp;have:(x==s)=false:=by simpa using h
 rw[this,Qbs h];simp only[Bool.false_eq_true,if_false];cases l.idxOf? s <;> simp
theorem zu8{l:List B8}{s:B8}(h:s∈l):∃i:Nat,∃(hi:i<l.length),atI l s=(i:Int)∧l[i]=s∧∀j (hj:j<i),l[j]'(by omega)≠s:=by
 induction l with
 |nil=>cases h
 |cons x l ih=>
  rw[zhv];by_cases q:x=s;exact⟨0,by simp,by simp[q],by simpa using q,λj hj=>by omega⟩
  have hm:s∈l:=by rcases Qbi.1 h with h|h;· exact(q h.symm).elim
                  exact h
  obtain⟨i,hi,h1,h2,h3⟩:=ih hm;refine⟨i+1,by simp;omega,?_,by simpa using h2,λj hj =>?_⟩;rw[Qbs q,h1,Qbs (by omega)];omega
  cases j with
  |zero=>simpa using q
  |succ j=>simpa using h3 j (by omega)
section
variable {T : Type}
theorem z8r(q:B8×T)(m:List (B8×T))(k:B8):z1x (q::m) k=if k=q.1 then some q.2 else z1x m k:=by
 unfold z1x;rw[List.find?_cons];by_cases h:k=q.1;simp[h];have:(k==q.1)=false:=by simpa using h
 rw[this,Qbs h]
theorem ziq(q:B8×T)(m:List (B8×T))(k:B8)(x:T):z4v (q::m) k x=if k=q.1 then (k,x)::m else q::z4v m k x:=by
 unfold z4v;rw[List.findIdx?_cons];by_cases h:k=q.1;simp[h];have:(k==q.1)=false:=by simpa using h
 rw[this,Qbs h];simp only[Bool.false_eq_true,if_false];cases List.findIdx? (λp=>k==p.1) m <;> simp
theorem zo5(m:List (B8×T))(k k':B8)(x:T):z1x (z4v m k x) k'=if k'=k then some x else z1x m k':=by
 induction m with
 |nil=>show z1x [(k,x)] k'=_;rw[z8r]
 |cons q m ih=>
  rw[ziq];by_cases h:k=q.1;rw[Qbr h,z8r,z8r];by_cases h2:k'=k;simp[h2];rw[Qbs h2,Qbs h2,Qbs (λz=>h2 (z.trans h.symm))];rw[Qbs h,z8r,ih,z8r];by_cases h2:k'=q.1;rw[Qbr h2,Qbr h2,Qbs (λz=>h (z.symm.trans h2))];rw[Qbs h2,Qbs h2]
theorem zb8{m:List (B8×T)}{k:B8}:z1x m k=none↔k∉mks m:=by
 induction m with
 |nil=>simp[z1x,mks]
 |cons q m ih=>
  rw[z8r];show _↔k∉q.1::mks m;by_cases h:k=q.1;simp[h];rw[Qbs h,ih];simp[h]
end
def TM(m:List (B8×Bool))(K:List B8):Prop:=∀k,z1x m k=if k∈K then some true else none
theorem TM.nil:TM [] []:=λk=>by simp[z1x]
theorem TM.put{m:List (B8×Bool)}{K:List B8}(h:TM m K)(s:B8):TM (z4v m s true) (K++[s]):=λk=>by
 rw[zo5,h k];by_cases q:k=s <;> simp[q]
theorem TM.keys{m:List (B8×Bool)}{K:List B8}(h:TM m K)(s:B8):s∈mks m↔s∈K:=by
 have:=h s;by_cases q:s∈K;rw[Qbr q]at this;exact⟨λ_=>q,λ_=>Classical.byContradiction λz=>by rw[zb8.2 z]at this;cases this⟩;rw[Qbs q]at this;exact⟨λz=>(zb8.1 this z).elim,λz=>(q z).elim⟩
def RM(m:List (B8×Int))(K:List B8):Prop:=∀k,z1x m k=if k∈K then some (atI K k)else none
theorem RM.nil:RM [] []:=λk=>by simp[z1x]
theorem y4i{K:List B8}{s:B8}(h:s∉K)(k:B8):atI (K++[s]) k=if k=s then (K.length:Int)else atI K k:=by
 induction K with
 |nil=>show atI [s] k=_;rw[zhv];by_cases q:s=k
       simp[q]
       rw[Qbs q,Qbs (Ne.symm q)];simp[atI]
 |cons x K ih=>
  have hx:x≠s:=λe=>h (by rw[e];exact Qak)
  have:=ih λz=>h (Qai _ z)
  rw[List.cons_append,zhv,zhv,this];by_cases q:k=s;subst q;rw[Qbs hx,Qbr rfl,Qbr rfl,Qbs (by omega)];simp;simp only[Qbs q]
theorem RM.put{m:List (B8×Int)}{K:List B8}(h:RM m K){s:B8}(hs:s∉K):RM (z4v m s (K.length:Int)) (K++[s]):=λk=>by
 rw[zo5,h k,y4i hs];by_cases q:k=s;simp[q];simp[q]
theorem Ev.pick{α R:Type}{es:List (B8×α)}{f:Nat->B8->α->List (B8×α)->Option R}{g:Nat->Option R}{r:R}
  (h0:es=[]->Ev g r) (h1:∀i (h:i<es.length),Ev (λn=>f n es[i].1 es[i].2 (es.eraseIdx i)) r):Ev (λn=>zjw es (f n) (g n)) r:=by
 have hz:∃N,∀m,N<=m->(es=[]->g m=some r):=by
  by_cases he:es=[];obtain⟨N,hN⟩:=h0 he;exact⟨N,λm hm _=>hN m hm⟩;exact⟨0,λ_ _ h=>(he h).elim⟩
 have hb:∀k,k<=es.length->∃N,∀m,N<=m->∀i (h:i<es.length),i<k->f m es[i].1 es[i].2 (es.eraseIdx i)=some r:=λk=>by
  induction k with
  |zero=>intro _;exact⟨0,λ_ _ _ _ h=>by omega⟩
  |succ k ih=>
   intro hk;obtain⟨N,hN⟩:=ih (by omega);obtain⟨M,hM⟩:=h1 k (by omega);refine⟨max N M,λm hm i hi hik =>?_⟩;by_cases h:i=k;subst h;exact hM m (by omega);exact hN m (by omega) i hi (by omega)
 obtain⟨N,hN⟩:=hz;obtain⟨M,hM⟩:=hb es.length (Qbq _);refine⟨max N M,λm hm=>y4y (hN m (by omega)) λi p hp =>?_⟩;obtain⟨hi,rfl⟩:=Qaa.1 hp;exact hM m (by omega) i hi hi
end Go.Proofs.Ytdcbdnediadfcaa
