/-
  Go functions as Lean functions, by a program of this repo.
-/
import Derived.Test.YthlmhmebajjkbaaGreatDoorOwn0
set_option linter.defProp false
set_option linter.unusedVariables false
namespace Go.Proofs.YthlmhmebajjkbaaGreatDoor
open Go Go.Ab
open Tryz
set_option maxRecDepth 100000
set_option maxHeartbeats 4000000
noncomputable section
def z3j:Nat->B8->Ot Bool
 |0,_=>none
 |n+1,a=>
  (z2g n a).bind λd=>
  pIf d
   ((yzo n [[116,114,117,101],[102,97,108,115,101],[115,120],[115,121],[115,122]] a).bind λb=>
   some (!b))
   (some false)
def yig:LSh:=⟨[(2,dB)],[],0,11,[]⟩
def zlf:FI dat:=FI.of dat 77 11 0 [dS] [] [dB] [] true yig (R:=Bool) Prod.fst (·,()) (λn=>u1 (z3j n))
 (λn=>[]) (anb [] f77)
def zo7:FOk prog zlf:=okF (bs:=[zgy,zce]) ⟨zht,zjp,trivial⟩ func77 ntmps77 call77
 (λ_ _=>tr (z3j.eq_2 ..))
 (λn=>trivial)
mutual
def z9h:Nat->yz1->Ot (Int×Int)
 |0,_=>none
 |n+1,a=>
  z3r n 0 1 1 a.args (a.args.length:Int)
def z3r:Nat->Int->Int->Int->kz5->Int->Ot (Int×Int)
 |0,_,_,_,_,_=>none
 |n+1,a,b,c,d,e=>
  pIf (decide (a<e))
   ((ix d a).bind λh=>
   (z9h n h.re).bind λg=>
   z3r n (IntKind.i64.wrap (a+1)) (mxI b (IntKind.i64.wrap (g.2+1))) (IntKind.i64.wrap (c+g.1)) d e)
   (some (c,b))
end
def ycx:LSh:=⟨[(2,dI),(3,dI)],[],0,30,[]⟩
def zfs:FI dat:=FI.of dat 128 30 0 [dT 2] [] [dI,dI] [] true ycx (R:=Int×Int) (λx=>(x.1,x.2.1)) (λr=>(r.1,r.2,())) (λn=>u1 (z9h n))
 (λn=>[(0,⟨⟨[(11,dI),(3,dI),(2,dI),(9,dL 2),(10,dI)],[],0,30,[]⟩,u5 (z3r n)⟩)]) (anb [(8,0)] f128)
def ye5:List (FI dat):=[zfs]++[]
def ybp:(zfs).Good prog dat (tb ye5):=FI.z3l (hD:=zzf _) func128 ntmps128 call128 (by kernel_rfl) (Qac (by kernel_rfl)) (by kernel_rfl) (λn=>by kernel_rfl) (λx=>by kernel_rfl) (λ_=>rfl) ⟨λ_=>rfl,trivial⟩
 (λ_ _=>tr (z9h.eq_2 ..))
 (λn=>⟨λ_=>tr (z3r.eq_2 ..),
  trivial⟩)
 (λx=>.inl rfl)
def ybh:OkL prog [zfs]:=z8x (zzf _) (bs:=[]) trivial ⟨ybp,trivial⟩
def y8w:FOk prog zfs:=ybh.1
mutual
def zem:Nat->Int->Ot Int
 |0,_=>none
 |n+1,a=>
  pIf (a==12)
   (z15 n 3)
   (pIf (a==3)
     (yzw n (-2) a true)
     (pIf (a==4)
       (yzw n (-2) a true)
       (pIf (a==5)
         (yzw n (-2) a true)
         (pIf (a==6)
           (yzw n (-2) a true)
           (pIf (a==7)
             (yzw n (-2) a true)
             (pIf (a==8)
               (yzw n (-2) a true)
               (pIf (a==9)
                 (yzw n (-2) a true)
                 (yzw n (-2) a (a==10)))))))))
def yzw:Nat->Int->Int->Bool->Ot Int
 |0,_,_,_=>none
 |n+1,a,b,c=>
  pIf c
   (zaf n)
   (pIf (b==13)
     (z6x n a b true)
     (pIf (b==14)
       (z6x n a b true)
       (z6x n a b (b==17))))
def z6x:Nat->Int->Int->Bool->Ot Int
 |0,_,_,_=>none
 |n+1,a,b,c=>
  pIf c
   (zaf n)
   (pIf (b==11)
     (z7e n a b true)
     (pIf (b==15)
       (z7e n a b true)
       (z7e n a b (b==16))))
def z7e:Nat->Int->Int->Bool->Ot Int
 |0,_,_,_=>none
 |n+1,a,b,c=>
  pIf c
   (z15 n 1)
   (pIf (b==1)
     (zaa n a b true)
     (zaa n a b (b==2)))
def zaa:Nat->Int->Int->Bool->Ot Int
 |0,_,_,_=>none
 |n+1,a,b,c=>
  pIf c
   (z15 n 0)
   (pIf (b==18)
     (z15 n (-1))
     (z15 n a))
def zaf:Nat->Option Int
 |0=>none
 |n+1=>
  z15 n 2
def z15:Nat->Int->Ot Int
 |0,_=>none
 |n+1,a=>
  some a
end
def ynk:LSh:=⟨[(2,dI)],[],0,30,[]⟩
def zve:FI dat:=FI.of dat 168 30 0 [dU] [] [dI] [] true ynk (R:=Int) Prod.fst (·,()) (λn=>u1 (zem n))
 (λn=>[(0,⟨⟨[(3,dI),(4,dU),(7,dB)],[],0,30,[]⟩,u3 (yzw n)⟩),(1,⟨⟨[(3,dI),(4,dU),(16,dB)],[],0,30,[]⟩,u3 (z6x n)⟩),(2,⟨⟨[(3,dI),(4,dU),(20,dB)],[],0,30,[]⟩,u3 (z7e n)⟩),(3,⟨⟨[(3,dI),(4,dU),(24,dB)],[],0,30,[]⟩,u3 (zaa n)⟩),(4,⟨⟨[],[],0,30,[]⟩,λx=>zaf n⟩),(5,⟨⟨[(3,dI)],[],0,30,[]⟩,u1 (z15 n)⟩)]) (anb [(57,0),(71,1),(85,2),(95,3),(107,4),(119,5)] f168)
def yi7:FOk prog zve:=okF (bs:=[]) trivial func168 ntmps168 call168
 (λ_ _=>tr (zem.eq_2 ..))
 (λn=>⟨λ_=>tr (yzw.eq_2 ..),
  λ_=>tr (z6x.eq_2 ..),
  λ_=>tr (z7e.eq_2 ..),
  λ_=>tr (zaa.eq_2 ..),
  λx=>(zaf.eq_2 n).trans (by kernel_rfl),
  λ_=>tr (z15.eq_2 _ n),
  trivial⟩)
mutual
def z7p:Nat->zz1->Ot (Int×Int)
 |0,_=>none
 |n+1,a=>
  pIf (a.kind==4)
   (z2q n 0 1 1 a.list (a.list.length:Int))
   (z2t n 1 1)
def z2q:Nat->Int->Int->Int->z4f->Int->Ot (Int×Int)
 |0,_,_,_,_,_=>none
 |n+1,a,b,c,d,e=>
  pIf (decide (a<e))
   ((ix d a).bind λh=>
   (z7p n h.re).bind λg=>
   z2q n (IntKind.i64.wrap (a+1)) (mxI b (IntKind.i64.wrap (g.2+1))) (IntKind.i64.wrap (c+g.1)) d e)
   (z2t n b c)
def z2t:Nat->Int->Int->Ot (Int×Int)
 |0,_,_=>none
 |n+1,a,b=>
  some (b,a)
end
def yai:LSh:=⟨[(2,dI),(3,dI)],[],0,33,[]⟩
def zee:FI dat:=FI.of dat 199 33 0 [dT 1] [] [dI,dI] [] true yai (R:=Int×Int) (λx=>(x.1,x.2.1)) (λr=>(r.1,r.2,())) (λn=>u1 (z7p n))
 (λn=>[(0,⟨⟨[(14,dI),(3,dI),(2,dI),(12,dL 1),(13,dI)],[],0,33,[]⟩,u5 (z2q n)⟩),(1,⟨⟨[(3,dI),(2,dI)],[],0,33,[]⟩,u2 (z2t n)⟩)]) (anb [(11,0),(29,1)] f199)
def yap:List (FI dat):=[zee]++[]
def y9m:(zee).Good prog dat (tb yap):=FI.z3l (hD:=zzf _) func199 ntmps199 call199 (by kernel_rfl) (Qac (by kernel_rfl)) (by kernel_rfl) (λn=>by kernel_rfl) (λx=>by kernel_rfl) (λ_=>rfl) ⟨λ_=>rfl,λ_=>rfl,trivial⟩
 (λ_ _=>tr (z7p.eq_2 ..))
 (λn=>⟨λ_=>tr (z2q.eq_2 ..),
  λ_=>tr (z2t.eq_2 _ _ n),
  trivial⟩)
 (λx=>.inl rfl)
def y9y:OkL prog [zee]:=z8x (zzf _) (bs:=[]) trivial ⟨y9m,trivial⟩
def y7m:FOk prog zee:=y9y.1
def zbz:Nat->Int->Ot Int
 |0,_=>none
 |n+1,a=>
  pIf (decide (a<0))
   (some (IntKind.u64.wrap (0-(IntKind.u64.wrap a))))
   (some (IntKind.u64.wrap a))
def ym6:LSh:=⟨[(2,(.d (.int .u64)))],[],0,10,[]⟩
def y49:FI dat:=FI.of dat 217 10 0 [dI] [] [(.d (.int .u64))] [] true ym6 (R:=Int) Prod.fst (·,()) (λn=>u1 (zbz n))
 (λn=>[]) (anb [] f217)
def yhi:FOk prog y49:=okF (bs:=[]) trivial func217 ntmps217 call217
 (λn=>λ_=>tr (zbz.eq_2 _ n))
 (λn=>trivial)
mutual
def zgz:Nat->Int->Int->Ot Int
 |0,_,_=>none
 |n+1,a,b=>
  z9o n b a
def z9o:Nat->Int->Int->Ot Int
 |0,_,_=>none
 |n+1,a,b=>
  pIf (a != 0)
   ((rem .u64 b a).bind λd=>
   z9o n d a)
   (some b)
end
def yqz:LSh:=⟨[(4,(.d (.int .u64)))],[],0,12,[]⟩
def y7s:FI dat:=FI.of dat 218 12 0 [(.d (.int .u64)),(.d (.int .u64))] [] [(.d (.int .u64))] [] true yqz (R:=Int) Prod.fst (·,()) (λn=>u2 (zgz n))
 (λn=>[(0,⟨⟨[(1,(.d (.int .u64))),(0,(.d (.int .u64)))],[],0,12,[]⟩,u2 (z9o n)⟩)]) (anb [(4,0)] f218)
def yn1:FOk prog y7s:=okF (bs:=[]) trivial func218 ntmps218 call218
 (λ_ _=>tr (zgz.eq_2 ..))
 (λn=>⟨λ_=>tr (z9o.eq_2 ..),
  trivial⟩)
mutual
def zct:Nat->kz4->Ot Int
 |0,_=>none
 |n+1,a=>
  pIf (decide (a.den<1))
   (z1l n true)
   (pIf (decide (a.den>1000000000))
     (z1l n true)
     ((zbz n a.num).bind λe=>
     pIf (decide (e>1000000000))
      (z1l n true)
      ((zbz n a.num).bind λd=>
      (zgz n d (IntKind.u64.wrap a.den)).bind λb=>
      z1l n (b != 1))))
def z1l:Nat->Bool->Ot Int
 |0,_=>none
 |n+1,a=>
  pIf a
   (some 8)
   (some 0)
end
def yj8:LSh:=⟨[(2,dI)],[],0,27,[]⟩
def zry:FI dat:=FI.of dat 213 27 0 [dT 0] [] [dI] [] true yj8 (R:=Int) Prod.fst (·,()) (λn=>u1 (zct n))
 (λn=>[(0,⟨⟨[(26,dB)],[],0,27,[]⟩,u1 (z1l n)⟩)]) (anb [(5,0)] f213)
def yc2:FOk prog zry:=okF (bs:=[y49,y7s]) ⟨yhi,yn1,trivial⟩ func213 ntmps213 call213
 (λ_ _=>tr (zct.eq_2 ..))
 (λn=>⟨λ_=>tr (z1l.eq_2 _ n),
  trivial⟩)
mutual
def zc8:Nat->zz1->Ot Bool
 |0,_=>none
 |n+1,a=>
  pIf (a.kind==1)
   ((zct n a.num).bind λb=>
   pIf (b != 0)
    (some false)
    (z2j n (zz1.mk a.kind (kz4.mk 0 0) a.truth a.str a.list)))
   (pIf (a.kind==2)
     (z2j n (zz1.mk a.kind a.num false a.str a.list))
     (pIf (a.kind==3)
       (pIf (decide ((a.str.length:Int)>60))
         (some false)
         (z7t n 0 a.re (zz1.mk a.kind a.num a.truth [] a.list)))
       (pIf (a.kind==4)
         (z6t n 0 a.list (a.list.length:Int) (zz1.mk a.kind a.num a.truth a.str []))
         (some false))))
def z7t:Nat->Int->zz1->zz1->Ot Bool
 |0,_,_,_=>none
 |n+1,a,b,c=>
  pIf (decide (a<(b.str.length:Int)))
   ((ix b.str a).bind λe=>
   pIf (decide ((e.toNat:Int)<32))
    (z7f n a true b.re c.re)
    ((ix b.str a).bind λd=>
    z7f n a (decide ((d.toNat:Int)>126)) b.re c.re))
   (z2j n c.re)
def z7f:Nat->Int->Bool->zz1->zz1->Ot Bool
 |0,_,_,_,_=>none
 |n+1,a,b,c,d=>
  pIf b
   (some false)
   (z7t n (IntKind.i64.wrap (a+1)) c.re d.re)
def z6t:Nat->Int->z4f->Int->zz1->Ot Bool
 |0,_,_,_,_=>none
 |n+1,a,b,c,d=>
  pIf (decide (a<c))
   ((ix b a).bind λg=>
   (zc8 n g.re).bind λe=>
   pIf (!e)
    (some false)
    (z6t n (IntKind.i64.wrap (a+1)) b c d.re))
   (z2j n d.re)
def z2j:Nat->zz1->Ot Bool
 |0,_=>none
 |n+1,a=>
  pIf ((a.num.num==0)&&((a.num.den==0)&&true))
   (pIf (!a.truth)
     (pIf (a.str==[])
       (some ((a.list.length:Int)==0))
       (some false))
     (some false))
   (some false)
end
def ymd:LSh:=⟨[(2,dB)],[],0,81,[]⟩
def zjd:FI dat:=FI.of dat 200 81 0 [dT 1] [] [dB] [] true ymd (R:=Bool) Prod.fst (·,()) (λn=>u1 (zc8 n))
 (λn=>[(0,⟨⟨[(4,dI),(1,(.ptr 0 0)),(3,(.ptr 1 0))],[(.st 1),(.st 1)],0,81,[]⟩,u3 (z7t n)⟩),(1,⟨⟨[(1,(.ptr 0 0)),(3,(.ptr 1 0)),(4,dI),(46,dB)],[(.st 1),(.st 1)],0,81,[]⟩,u4 (z7f n)⟩),(2,⟨⟨[(53,dI),(51,dL 1),(3,(.ptr 0 0)),(52,dI)],[(.st 1)],0,81,[]⟩,u4 (z6t n)⟩),(3,⟨⟨[(3,(.ptr 0 0))],[(.st 1)],0,81,[]⟩,u1 (z2j n)⟩)]) (anb [(40,0),(51,1),(65,2),(87,3)] f200)
def yle:List (FI dat):=[zjd]++[zry]
def yoq:(zjd).Good prog dat (tb yle):=FI.z3l (hD:=zzf _) func200 ntmps200 call200 (by kernel_rfl) (Qac (by kernel_rfl)) (by kernel_rfl) (λn=>by kernel_rfl) (λx=>by kernel_rfl) (λ_=>rfl) ⟨λ_=>rfl,λ_=>rfl,λ_=>rfl,λ_=>rfl,trivial⟩
 (λ_ _=>tr (zc8.eq_2 ..))
 (λn=>⟨λ_=>tr (z7t.eq_2 ..),
  λ_=>tr (z7f.eq_2 ..),
  λ_=>tr (z6t.eq_2 ..),
  λ_=>tr (z2j.eq_2 _ n),
  trivial⟩)
 (λx=>.inl rfl)
def yo8:OkL prog [zjd]:=z8x (zzf _) (bs:=[zry]) ⟨yc2,trivial⟩ ⟨yoq,trivial⟩
def yif:FOk prog zjd:=yo8.1
mutual
def zcq:Nat->zz1->Ot Int
 |0,_=>none
 |n+1,a=>
  (z7p n a.re).bind λb=>
  pIf (decide (b.1>100))
   (z4x n true a.re)
   (z4x n (decide (b.2>6)) a.re)
def z4x:Nat->Bool->zz1->Ot Int
 |0,_,_=>none
 |n+1,a,b=>
  pIf a
   (some 4)
   ((zc8 n b.re).bind λd=>
   pIf (!d)
    (some 8)
    (some 0))
end
def ygp:LSh:=⟨[(2,dI)],[],0,19,[]⟩
def zrm:FI dat:=FI.of dat 169 19 0 [dT 1] [] [dI] [] true ygp (R:=Int) Prod.fst (·,()) (λn=>u1 (zcq n))
 (λn=>[(0,⟨⟨[(1,(.ptr 0 0)),(15,dB)],[(.st 1)],0,19,[]⟩,u2 (z4x n)⟩)]) (anb [(7,0)] f169)
def ycu:FOk prog zrm:=okF (bs:=[zee,zjd]) ⟨y7m,yif,trivial⟩ func169 ntmps169 call169
 (λ_ _=>tr (zcq.eq_2 ..))
 (λn=>⟨λ_=>tr (z4x.eq_2 ..),
  trivial⟩)
def zep:Nat->B8->Ot Bool
 |0,_=>none
 |n+1,a=>
  (z2g n a).bind λb=>
  pIf b
   (pIf (!(a==[116,114,117,101]))
     (some (!(a==[102,97,108,115,101])))
     (some false))
   (some false)
def ykv:LSh:=⟨[(2,dB)],[],0,13,[]⟩
def zv5:FI dat:=FI.of dat 170 13 0 [dS] [] [dB] [] true ykv (R:=Bool) Prod.fst (·,()) (λn=>u1 (zep n))
 (λn=>[]) (anb [] f170)
def yix:FOk prog zv5:=okF (bs:=[zgy]) ⟨zht,trivial⟩ func170 ntmps170 call170
 (λ_ _=>tr (zep.eq_2 ..))
 (λn=>trivial)
mutual
def z3c:Nat->zz1->zz1->Ot Bool
 |0,_,_=>none
 |n+1,a,b=>
  pIf (a.kind != b.kind)
   (z14 n true b.re a.re)
   (pIf (!((a.num.num==b.num.num)&&((a.num.den==b.num.den)&&true)))
     (z14 n true b.re a.re)
     (pIf (!(a.truth==b.truth))
       (z14 n true b.re a.re)
       (pIf (!(a.str==b.str))
         (z14 n true b.re a.re)
         (z14 n ((a.list.length:Int) != (b.list.length:Int)) b.re a.re))))
def z14:Nat->Bool->zz1->zz1->Ot Bool
 |0,_,_,_=>none
 |n+1,a,b,c=>
  pIf a
   (some false)
   (z7z n 0 (c.list.length:Int) b.re c.re)
def z7z:Nat->Int->Int->zz1->zz1->Ot Bool
 |0,_,_,_,_=>none
 |n+1,a,b,c,d=>
  pIf (decide (a<b))
   ((ix d.list a).bind λh=>
   (ix c.list a).bind λg=>
   (z3c n h.re g.re).bind λe=>
   pIf (!e)
    (some false)
    (z7z n (IntKind.i64.wrap (a+1)) b c.re d.re))
   (some true)
end
def ykx:LSh:=⟨[(4,dB)],[],0,60,[]⟩
def zbk:FI dat:=FI.of dat 100 60 0 [dT 1,dT 1] [] [dB] [] true ykx (R:=Bool) Prod.fst (·,()) (λn=>u2 (z3c n))
 (λn=>[(0,⟨⟨[(3,(.ptr 0 0)),(2,(.ptr 1 0)),(40,dB)],[(.st 1),(.st 1)],0,60,[]⟩,u3 (z14 n)⟩),(1,⟨⟨[(44,dI),(3,(.ptr 0 0)),(2,(.ptr 1 0)),(43,dI)],[(.st 1),(.st 1)],0,60,[]⟩,u4 (z7z n)⟩)]) (anb [(5,0),(14,1)] f100)
def ymi:List (FI dat):=[zbk]++[]
def ynn:(zbk).Good prog dat (tb ymi):=FI.z3l (hD:=zzf _) func100 ntmps100 call100 (by kernel_rfl) (Qac (by kernel_rfl)) (by kernel_rfl) (λn=>by kernel_rfl) (λx=>by kernel_rfl) (λ_=>rfl) ⟨λ_=>rfl,λ_=>rfl,trivial⟩
 (λ_ _=>tr (z3c.eq_2 ..))
 (λn=>⟨λ_=>tr (z14.eq_2 ..),
  λ_=>tr (z7z.eq_2 ..),
  trivial⟩)
 (λx=>.inl rfl)
def ymf:OkL prog [zbk]:=z8x (zzf _) (bs:=[]) trivial ⟨ynn,trivial⟩
def y1h:FOk prog zbk:=ymf.1
mutual
def ze2:Nat->yz1->Ot Bool
 |0,_=>none
 |n+1,a=>
  (zem n a.op).bind λb=>
  pIf (b==(-2))
   (z6c n true a.re)
   (pIf (decide (b>=0))
     (z6c n ((a.args.length:Int) != b) a.re)
     (z6c n false a.re))
def z6c:Nat->Bool->yz1->Ot Bool
 |0,_,_=>none
 |n+1,a,b=>
  pIf a
   (some false)
   (pIf (b.op==1)
     ((zcq n b.value.re).bind λh=>
     pIf (h != 0)
      (z6e n true b.re)
      (pIf (b.value.kind==4)
        (z6e n true b.re)
        (z6e n (!(b.name==[])) b.re)))
     (pIf (b.op==2)
       ((zep n b.name).bind λg=>
       pIf (!g)
        (z94 n true b.re)
        ((z3c n b.value.re (zz1.mk 0 (kz4.mk 0 0) false [] [])).bind λe=>
        z94 n (!e) b.re))
       (pIf (!(b.name==[]))
         (z98 n true b.re)
         ((z3c n b.value.re (zz1.mk 0 (kz4.mk 0 0) false [] [])).bind λd=>
         z98 n (!d) b.re))))
def z6e:Nat->Bool->yz1->Ot Bool
 |0,_,_=>none
 |n+1,a,b=>
  pIf a
   (some false)
   (z6f n b.re)
def z94:Nat->Bool->yz1->Ot Bool
 |0,_,_=>none
 |n+1,a,b=>
  pIf a
   (some false)
   (z6f n b.re)
def z98:Nat->Bool->yz1->Ot Bool
 |0,_,_=>none
 |n+1,a,b=>
  pIf a
   (some false)
   (z6f n b.re)
def z6f:Nat->yz1->Ot Bool
 |0,_=>none
 |n+1,a=>
  (zzc n a.args).bind λb=>
  some (!b)
def zzc:Nat->kz5->Ot Bool
 |0,_=>none
 |n+1,a=>
  (yzf n a).bind λb=>
  some (decide (b>=0))
def yzf:Nat->kz5->Ot Int
 |0,_=>none
 |n+1,a=>
  zz8 n 0 a (a.length:Int)
def zz8:Nat->Int->kz5->Int->Ot Int
 |0,_,_,_=>none
 |n+1,a,b,c=>
  pIf (decide (a<c))
   ((ix b a).bind λe=>
   (zd4 n e.re).bind λd=>
   pIf d
    (some a)
    (zz8 n (IntKind.i64.wrap (a+1)) b c))
   (some (-1))
def zd4:Nat->yz1->Ot Bool
 |0,_=>none
 |n+1,a=>
  (ze2 n a.re).bind λb=>
  some (!b)
end
def yrn:LSh:=⟨[(2,dB)],[],0,66,[]⟩
def zm2:FI dat:=FI.of dat 129 66 0 [dT 2] [] [dB] [] true yrn (R:=Bool) Prod.fst (·,()) (λn=>u1 (ze2 n))
 (λn=>[(0,⟨⟨[(1,(.ptr 0 0)),(19,dB)],[(.st 2)],0,66,[]⟩,u2 (z6c n)⟩),(1,⟨⟨[(1,(.ptr 0 0)),(48,dB)],[(.st 2)],0,66,[]⟩,u2 (z6e n)⟩),(2,⟨⟨[(1,(.ptr 0 0)),(61,dB)],[(.st 2)],0,66,[]⟩,u2 (z94 n)⟩),(3,⟨⟨[(1,(.ptr 0 0)),(31,dB)],[(.st 2)],0,66,[]⟩,u2 (z98 n)⟩),(4,⟨⟨[(1,(.ptr 0 0))],[(.st 2)],0,66,[]⟩,u1 (z6f n)⟩)]) (anb [(7,0),(21,1),(31,2),(38,3),(43,4)] f129)
def ze1:LSh:=⟨[(4,dB)],[],0,9,[]⟩
def z0r:FI dat:=FI.of dat 38 9 0 [dL 2,(.fn 171 [] [])] [] [dB] [] true ze1 (R:=Bool) Prod.fst (·,()) (λn=>u1 (zzc n))
 (λn=>[]) (anb [] f38)
def zfo:LSh:=⟨[(4,dI)],[],0,19,[]⟩
def z1o:FI dat:=FI.of dat 83 19 0 [dL 2,(.fn 171 [] [])] [] [dI] [] true zfo (R:=Int) Prod.fst (·,()) (λn=>u1 (yzf n))
 (λn=>[(0,⟨⟨[(8,dI),(0,dL 2),(1,(.fn 171 [] [])),(7,dI)],[],0,19,[]⟩,u3 (zz8 n)⟩)]) (anb [(6,0)] f83)
def yjm:LSh:=⟨[(2,dB)],[],0,6,[]⟩
def zrk:FI dat:=FI.of dat 171 6 0 [dT 2] [] [dB] [] true yjm (R:=Bool) Prod.fst (·,()) (λn=>u1 (zd4 n))
 (λn=>[]) (anb [] f171)
def zqq:List (FI dat):=[zm2,z0r,z1o,zrk]++[zve,zrm,zv5,zbk]
def yry:(zm2).Good prog dat (tb zqq):=FI.z3l (hD:=zzf _) func129 ntmps129 call129 (by kernel_rfl) (Qac (by kernel_rfl)) (by kernel_rfl) (λn=>by kernel_rfl) (λx=>by kernel_rfl) (λ_=>rfl) ⟨λ_=>rfl,λ_=>rfl,λ_=>rfl,λ_=>rfl,λ_=>rfl,trivial⟩
 (λ_ _=>tr (ze2.eq_2 ..))
 (λn=>⟨λ_=>tr (z6c.eq_2 ..),
  λ_=>tr (z6e.eq_2 ..),
  λ_=>tr (z94.eq_2 ..),
  λ_=>tr (z98.eq_2 ..),
  λ_=>tr (z6f.eq_2 ..),
  trivial⟩)
 (λx=>.inl rfl)
def zdj:(z0r).Good prog dat (tb zqq):=FI.z3l (hD:=zzf _) func38 ntmps38 call38 (by kernel_rfl) (Qac (by kernel_rfl)) (by kernel_rfl) (λn=>by kernel_rfl) (λx=>by kernel_rfl) (λ_=>rfl) trivial
 (λ_ _=>tr (zzc.eq_2 ..))
 (λn=>trivial)
 (λx=>.inl rfl)
def zfk:(z1o).Good prog dat (tb zqq):=FI.z3l (hD:=zzf _) func83 ntmps83 call83 (by kernel_rfl) (Qac (by kernel_rfl)) (by kernel_rfl) (λn=>by kernel_rfl) (λx=>by kernel_rfl) (λ_=>rfl) ⟨λ_=>rfl,trivial⟩
 (λ_ _=>tr (yzf.eq_2 ..))
 (λn=>⟨λ_=>tr (zz8.eq_2 ..),
  trivial⟩)
 (λx=>.inl rfl)
def yj4:(zrk).Good prog dat (tb zqq):=FI.z3l (hD:=zzf _) func171 ntmps171 call171 (by kernel_rfl) (Qac (by kernel_rfl)) (by kernel_rfl) (λn=>by kernel_rfl) (λx=>by kernel_rfl) (λ_=>rfl) trivial
 (λ_ _=>tr (zd4.eq_2 ..))
 (λn=>trivial)
 (λx=>.inl rfl)
def yr7:OkL prog [zm2,z0r,z1o,zrk]:=z8x (zzf _) (bs:=[zve,zrm,zv5,zbk]) ⟨yi7,ycu,yix,y1h,trivial⟩ ⟨yry,zdj,zfk,yj4,trivial⟩
def ylt:FOk prog zm2:=yr7.1
mutual
def z3i:Nat->yz1->Ot Int
 |0,_=>none
 |n+1,a=>
  (z9h n a.re).bind λb=>
  pIf (decide (b.1>100))
   (z7o n true a.re)
   (z7o n (decide (b.2>12)) a.re)
def z7o:Nat->Bool->yz1->Ot Int
 |0,_,_=>none
 |n+1,a,b=>
  pIf a
   (some 4)
   ((ze2 n b.re).bind λd=>
   pIf (!d)
    (some 8)
    (some 0))
end
def ynl:LSh:=⟨[(2,dI)],[],0,19,[]⟩
def zn5:FI dat:=FI.of dat 78 19 0 [dT 2] [] [dI] [] true ynl (R:=Int) Prod.fst (·,()) (λn=>u1 (z3i n))
 (λn=>[(0,⟨⟨[(1,(.ptr 0 0)),(15,dB)],[(.st 2)],0,19,[]⟩,u2 (z7o n)⟩)]) (anb [(7,0)] f78)
def zr9:FOk prog zn5:=okF (bs:=[zfs,zm2]) ⟨y8w,ylt,trivial⟩ func78 ntmps78 call78
 (λ_ _=>tr (z3i.eq_2 ..))
 (λn=>⟨λ_=>tr (z7o.eq_2 ..),
  trivial⟩)
def z8y:Nat->B8->Ot Bool
 |0,_=>none
 |n+1,a=>
  (z3j n a).bind λb=>
  some (!b)
def y61:LSh:=⟨[(2,dB)],[],0,6,[]⟩
def ztp:FI dat:=FI.of dat 79 6 0 [dS] [] [dB] [] true y61 (R:=Bool) Prod.fst (·,()) (λn=>u1 (z8y n))
 (λn=>[]) (anb [] f79)
def y43:FOk prog ztp:=okF (bs:=[zlf]) ⟨zo7,trivial⟩ func79 ntmps79 call79
 (λ_ _=>tr (z8y.eq_2 ..))
 (λn=>trivial)
mutual
def yzq:Nat->(List B8)->Ot Int
 |0,_=>none
 |n+1,a=>
  zzh n 0 a (a.length:Int)
def zzh:Nat->Int->(List B8)->Int->Ot Int
 |0,_,_,_=>none
 |n+1,a,b,c=>
  pIf (decide (a<c))
   ((ix b a).bind λe=>
   (z8y n e).bind λd=>
   pIf d
    (some a)
    (zzh n (IntKind.i64.wrap (a+1)) b c))
   (some (-1))
end
def zhi:LSh:=⟨[(4,dI)],[],0,19,[]⟩
def za0:FI dat:=FI.of dat 95 19 0 [dA,(.fn 79 [] [])] [] [dI] [] true zhi (R:=Int) Prod.fst (·,()) (λn=>u1 (yzq n))
 (λn=>[(0,⟨⟨[(8,dI),(0,dA),(1,(.fn 79 [] [])),(7,dI)],[],0,19,[]⟩,u3 (zzh n)⟩)]) (anb [(6,0)] f95)
def zhd:FOk prog za0:=okF (bs:=[ztp]) ⟨y43,trivial⟩ func95 ntmps95 call95
 (λ_ _=>tr (yzq.eq_2 ..))
 (λn=>⟨λ_=>tr (zzh.eq_2 ..),
  trivial⟩)
def kzg:Nat->(List B8)->Ot Bool
 |0,_=>none
 |n+1,a=>
  (yzq n a).bind λb=>
  some (decide (b>=0))
def zfr:LSh:=⟨[(4,dB)],[],0,9,[]⟩
def z8p:FI dat:=FI.of dat 47 9 0 [dA,(.fn 79 [] [])] [] [dB] [] true zfr (R:=Bool) Prod.fst (·,()) (λn=>u1 (kzg n))
 (λn=>[]) (anb [] f47)
def zfi:FOk prog z8p:=okF (bs:=[za0]) ⟨zhd,trivial⟩ func47 ntmps47 call47
 (λ_ _=>tr (kzg.eq_2 ..))
 (λn=>trivial)
def z8d:Nat->kz5->Ot yz1
 |0,_=>none
 |n+1,a=>
  some (yz1.mk 18 (zz1.mk 0 (kz4.mk 0 0) false [] []) [] a)
def ymz:LSh:=⟨[(2,(.ptr 0 0))],[(.st 2)],0,5,[]⟩
def zvd:FI dat:=FI.of dat 99 5 0 [dL 2] [] [dT 2] [] true ymz (R:=yz1) Prod.fst (·,()) (λn=>u1 (z8d n))
 (λn=>[]) (anb [] f99)
def y0x:FOk prog zvd:=okF (bs:=[]) trivial func99 ntmps99 call99
 (λn=>λ_=>tr (z8d.eq_2 _ n))
 (λn=>trivial)
mutual
def zbo:Nat->Int->Ot Int
 |0,_=>none
 |n+1,a=>
  pIf (a==2)
   (z9k n a true)
   (z9k n a (a==3))
def z9k:Nat->Int->Bool->Ot Int
 |0,_,_=>none
 |n+1,a,b=>
  pIf b
   (some 3)
   (pIf (a==4)
     (z95 n true)
     (z95 n (a==6)))
def z95:Nat->Bool->Ot Int
 |0,_=>none
 |n+1,a=>
  pIf a
   (some 1)
   (some 0)
end
def yr0:LSh:=⟨[(2,dI)],[],0,10,[]⟩
def zx3:FI dat:=FI.of dat 84 10 0 [dU] [] [dI] [] true yr0 (R:=Int) Prod.fst (·,()) (λn=>u1 (zbo n))
 (λn=>[(0,⟨⟨[(3,dU),(4,dB)],[],0,10,[]⟩,u2 (z9k n)⟩),(1,⟨⟨[(7,dB)],[],0,10,[]⟩,u1 (z95 n)⟩)]) (anb [(12,0),(22,1)] f84)
def y5k:FOk prog zx3:=okF (bs:=[]) trivial func84 ntmps84 call84
 (λ_ _=>tr (zbo.eq_2 ..))
 (λn=>⟨λ_=>tr (z9k.eq_2 ..),
  λ_=>tr (z95.eq_2 _ n),
  trivial⟩)
mutual
def z69:Nat->kz2->Ot Bool
 |0,_=>none
 |n+1,a=>
  pIf (decide (a.kind>=1))
   (z0l n (decide (a.kind<=4)) a)
   (z0l n false a)
def z0l:Nat->Bool->kz2->Ot Bool
 |0,_,_=>none
 |n+1,a,b=>
  pIf (b.kind==4)
   (z0n n a 0 true b)
   (z0n n a 0 (b.kind==5) b)
def z0n:Nat->Bool->Int->Bool->kz2->Ot Bool
 |0,_,_,_,_=>none
 |n+1,a,b,c,d=>
  pIf c
   (z0m n a 2 d)
   (z0m n a b d)
def z0m:Nat->Bool->Int->kz2->Ot Bool
 |0,_,_,_=>none
 |n+1,a,b,c=>
  pIf (decide (c.kind<1))
   (kzw n a true c)
   (pIf (decide (c.kind>6))
     (kzw n a true c)
     (kzw n a (decide (c.axis>b)) c))
def kzw:Nat->Bool->Bool->kz2->Ot Bool
 |0,_,_,_=>none
 |n+1,a,b,c=>
  pIf b
   (some false)
   ((z3j n c.name).bind λd=>
   pIf (!(a==d))
    (kzx n a true c)
    (pIf (!a)
      (kzx n a (!(c.name==[])) c)
      (kzx n a false c)))
def kzx:Nat->Bool->Bool->kz2->Ot Bool
 |0,_,_,_=>none
 |n+1,a,b,c=>
  pIf b
   (some false)
   ((z8d n c.args).bind λh=>
   (z3i n h.re).bind λg=>
   pIf (g != 0)
    (yzr n true c)
    ((zbo n c.kind).bind λe=>
    pIf (decide ((c.args.length:Int)<e))
     (yzr n true c)
     (pIf (!a)
       ((zbo n c.kind).bind λd=>
       yzr n ((c.args.length:Int) != d) c)
       (yzr n false c))))
def yzr:Nat->Bool->kz2->Ot Bool
 |0,_,_=>none
 |n+1,a,b=>
  pIf a
   (some false)
   (pIf (!((b.kind==5)==(decide ((b.items.length:Int)>0))))
     (some false)
     (zzx n 0 b.items (b.items.length:Int)))
def zzx:Nat->Int->zdu->Int->Ot Bool
 |0,_,_,_=>none
 |n+1,a,b,c=>
  pIf (decide (a<c))
   ((ix b a).bind λd=>
   pIf (decide (d.kind<1))
    (yzl n b c a true)
    (pIf (decide (d.kind>3))
      (yzl n b c a true)
      ((z3j n d.name).bind λh=>
      pIf (!h)
       (yzl n b c a true)
       (pIf ((d.args.length:Int)==0)
         (yzl n b c a true)
         ((z8d n d.args).bind λg=>
         (z3i n g.re).bind λe=>
         yzl n b c a (e != 0))))))
   (some true)
def yzl:Nat->zdu->Int->Int->Bool->Ot Bool
 |0,_,_,_,_=>none
 |n+1,a,b,c,d=>
  pIf d
   (some false)
   (zzx n (IntKind.i64.wrap (c+1)) a b)
end
def y2z:LSh:=⟨[(2,dB)],[],0,125,[]⟩
def zob:FI dat:=FI.of dat 80 125 0 [dT 5] [] [dB] [] true y2z (R:=Bool) Prod.fst (·,()) (λn=>u1 (z69 n))
 (λn=>[(0,⟨⟨[(1,(.ptr 0 0)),(3,dB)],[(.st 5)],0,125,[]⟩,u2 (z0l n)⟩),(1,⟨⟨[(1,(.ptr 0 0)),(3,dB),(4,dU),(22,dB)],[(.st 5)],0,125,[]⟩,u4 (z0n n)⟩),(2,⟨⟨[(1,(.ptr 0 0)),(3,dB),(4,dU)],[(.st 5)],0,125,[]⟩,u3 (z0m n)⟩),(3,⟨⟨[(1,(.ptr 0 0)),(3,dB),(23,dB)],[(.st 5)],0,125,[]⟩,u3 (kzw n)⟩),(4,⟨⟨[(1,(.ptr 0 0)),(3,dB),(38,dB)],[(.st 5)],0,125,[]⟩,u3 (kzx n)⟩),(5,⟨⟨[(1,(.ptr 0 0)),(53,dB)],[(.st 5)],0,125,[]⟩,u2 (yzr n)⟩),(6,⟨⟨[(93,dI),(91,dL 4),(92,dI)],[],0,125,[]⟩,u3 (zzx n)⟩),(7,⟨⟨[(91,dL 4),(92,dI),(93,dI),(123,dB)],[],0,125,[]⟩,u4 (yzl n)⟩)]) (anb [(4,0),(9,1),(12,2),(16,3),(22,4),(28,5),(43,6),(56,7)] f80)
def y0r:FOk prog zob:=okF (bs:=[zlf,zvd,zn5,zx3]) ⟨zo7,y0x,zr9,y5k,trivial⟩ func80 ntmps80 call80
 (λ_ _=>tr (z69.eq_2 ..))
 (λn=>⟨λ_=>tr (z0l.eq_2 ..),
  λ_=>tr (z0n.eq_2 ..),
  λ_=>tr (z0m.eq_2 ..),
  λ_=>tr (kzw.eq_2 ..),
  λ_=>tr (kzx.eq_2 ..),
  λ_=>tr (yzr.eq_2 ..),
  λ_=>tr (zzx.eq_2 ..),
  λ_=>tr (yzl.eq_2 ..),
  trivial⟩)
mutual
def zb4:Nat->zz0->Ot Bool
 |0,_=>none
 |n+1,a=>
  z2c n 0 a.attrs (a.attrs.length:Int) a
def z2c:Nat->Int->kz6->Int->zz0->Ot Bool
 |0,_,_,_,_=>none
 |n+1,a,b,c,d=>
  pIf (decide (a<c))
   ((ix b a).bind λe=>
   (z3j n e.name).bind λh=>
   pIf (!h)
    (z44 n b c a true d)
    ((z3i n e.value.re).bind λg=>
    z44 n b c a (g != 0) d))
   (z1y n 0 d.rules (d.rules.length:Int))
def z44:Nat->kz6->Int->Int->Bool->zz0->Ot Bool
 |0,_,_,_,_,_=>none
 |n+1,a,b,c,d,e=>
  pIf d
   (some false)
   (z2c n (IntKind.i64.wrap (c+1)) a b e)
def z1y:Nat->Int->zz5->Int->Ot Bool
 |0,_,_,_=>none
 |n+1,a,b,c=>
  pIf (decide (a<c))
   ((ix b a).bind λd=>
   (z3j n d.name).bind λg=>
   pIf (!g)
    (z3y n b c a true d)
    ((kzg n d.params).bind λe=>
    z3y n b c a e d))
   (some true)
def z3y:Nat->zz5->Int->Int->Bool->zz3->Ot Bool
 |0,_,_,_,_,_=>none
 |n+1,a,b,c,d,e=>
  pIf d
   (some false)
   (z25 n 0 e.cases a b c (e.cases.length:Int))
def z25:Nat->Int->z0q->zz5->Int->Int->Int->Ot Bool
 |0,_,_,_,_,_,_=>none
 |n+1,a,b,c,d,e,f=>
  pIf (decide (a<f))
   ((ix b a).bind λg=>
   pIf (decide (g.weight<1))
    (z29 n b c d e f a true g.re)
    (pIf (decide (g.weight>1000000))
      (z29 n b c d e f a true g.re)
      ((z3i n g.when_.re).bind λh=>
      z29 n b c d e f a (h != 0) g.re)))
   (z1y n (IntKind.i64.wrap (e+1)) c d)
def z29:Nat->z0q->zz5->Int->Int->Int->Int->Bool->zz4->Ot Bool
 |0,_,_,_,_,_,_,_,_=>none
 |n+1,a,b,c,d,e,f,g,h=>
  pIf g
   (some false)
   (z1s n 0 h.do_ a b c d e f (h.do_.length:Int))
def z1s:Nat->Int->yzu->z0q->zz5->Int->Int->Int->Int->Int->Ot Bool
 |0,_,_,_,_,_,_,_,_,_=>none
 |n+1,a,b,c,d,e,f,g,h,i=>
  pIf (decide (a<i))
   ((ix b a).bind λk=>
   (z69 n k).bind λj=>
   pIf (!j)
    (some false)
    (z1s n (IntKind.i64.wrap (a+1)) b c d e f g h i))
   (z25 n (IntKind.i64.wrap (h+1)) c d e f g)
end
def yew:LSh:=⟨[(2,dB)],[],0,79,[]⟩
def zwr:FI dat:=FI.of dat 35 79 0 [dT 8] [] [dB] [] true yew (R:=Bool) Prod.fst (·,()) (λn=>u1 (zb4 n))
 (λn=>[(0,⟨⟨[(14,dI),(12,dL 3),(1,(.ptr 0 0)),(13,dI)],[(.st 8)],0,79,[]⟩,u4 (z2c n)⟩),(1,⟨⟨[(12,dL 3),(1,(.ptr 0 0)),(13,dI),(14,dI),(27,dB)],[(.st 8)],0,79,[]⟩,u5 (z44 n)⟩),(2,⟨⟨[(32,dI),(30,dL 7),(31,dI)],[],0,79,[]⟩,u3 (z1y n)⟩),(3,⟨⟨[(30,dL 7),(31,dI),(32,dI),(6,(.ptr 0 0)),(44,dB)],[(.st 7)],0,79,[]⟩,u5 (z3y n)⟩),(4,⟨⟨[(48,dI),(46,dL 6),(30,dL 7),(31,dI),(32,dI),(47,dI)],[],0,79,[]⟩,u6 (z25 n)⟩),(5,⟨⟨[(46,dL 6),(30,dL 7),(31,dI),(32,dI),(47,dI),(48,dI),(8,(.ptr 0 0)),(65,dB)],[(.st 6)],0,79,[]⟩,u8 (z29 n)⟩),(6,⟨⟨[(69,dI),(67,dL 5),(46,dL 6),(30,dL 7),(31,dI),(32,dI),(47,dI),(48,dI),(68,dI)],[],0,79,[]⟩,u9 (z1s n)⟩)]) (anb [(6,0),(19,1),(29,2),(43,3),(51,4),(65,5),(73,6)] f35)
def ya2:FOk prog zwr:=okF (bs:=[zlf,zn5,z8p,zob]) ⟨zo7,zr9,zfi,y0r,trivial⟩ func35 ntmps35 call35
 (λ_ _=>tr (zb4.eq_2 ..))
 (λn=>⟨λ_=>tr (z2c.eq_2 ..),
  λ_=>tr (z44.eq_2 ..),
  λ_=>tr (z1y.eq_2 ..),
  λ_=>tr (z3y.eq_2 ..),
  λ_=>tr (z25.eq_2 ..),
  λ_=>tr (z29.eq_2 ..),
  λ_=>tr (z1s.eq_2 ..),
  trivial⟩)
mutual
def zzo:Nat->B8->(List B8)->Ot (Int×(List B8))
 |0,_,_=>none
 |n+1,a,b=>
  zzg n 0 a (b.length:Int) b
def zzg:Nat->Int->B8->Int->(List B8)->Ot (Int×(List B8))
 |0,_,_,_,_=>none
 |n+1,a,b,c,d=>
  pIf (decide (a<c))
   ((ix d a).bind λe=>
   pIf (b==e)
    (some (a,d))
    (zzg n (IntKind.i64.wrap (a+1)) b c d))
   (some ((-1),d))
end
def zki:LSh:=⟨[(4,dI)],[(.acc 9 .str true)],1,19,[]⟩
def zcf:FI dat:=FI.of dat 37 19 1 [(.own 0),dS] [(.acc 9 .str true)] [dI] [(.acc 9 .str true)] false zki (R:=Int×(List B8)) (λx=>(x.1,x.2.1)) (λr=>(r.1,r.2,())) (λn=>u2 (zzo n))
 (λn=>[(0,⟨⟨[(8,dI),(0,(.own 0)),(1,dS),(7,dI)],[(.acc 9 .str true)],1,19,[]⟩,u4 (zzg n)⟩)]) (anb [(6,0)] f37)
def zjr:FOk prog zcf:=okF (bs:=[]) trivial func37 ntmps37 call37
 (λ_ _=>tr (zzo.eq_2 ..))
 (λn=>⟨λ_=>tr (zzg.eq_2 ..),
  trivial⟩)
def zzl:Nat->B8->(List B8)->Ot (Bool×(List B8))
 |0,_,_=>none
 |n+1,a,b=>
  (zzo n a b).bind λd=>
  some ((decide (d.1>=0)),d.2)
def zi6:LSh:=⟨[(4,dB)],[(.acc 9 .str true)],1,9,[]⟩
def z47:FI dat:=FI.of dat 127 9 1 [(.own 0),dS] [(.acc 9 .str true)] [dB] [(.acc 9 .str true)] false zi6 (R:=Bool×(List B8)) (λx=>(x.1,x.2.1)) (λr=>(r.1,r.2,())) (λn=>u2 (zzl n))
 (λn=>[]) (anb [] f127)
def zhj:FOk prog z47:=okF (bs:=[zcf]) ⟨zjr,trivial⟩ func127 ntmps127 call127
 (λ_ _=>tr (zzl.eq_2 ..))
 (λn=>trivial)
mutual
def zc1:Nat->yz1->(List B8)->Ot (List B8)
 |0,_,_=>none
 |n+1,a,b=>
  pIf (a.op==2)
   ((zzl n a.name b).bind λd=>
   za8 n (!d.1) d.2 a.re)
   (za8 n false b a.re)
def za8:Nat->Bool->(List B8)->yz1->Ot (List B8)
 |0,_,_,_=>none
 |n+1,a,b,c=>
  pIf a
   ((ext b [c.name]).bind λd=>
   z6u n d c.re)
   (z6u n b c.re)
def z6u:Nat->(List B8)->yz1->Ot (List B8)
 |0,_,_=>none
 |n+1,a,b=>
  z6z n 0 b.args (b.args.length:Int) a
def z6z:Nat->Int->kz5->Int->(List B8)->Ot (List B8)
 |0,_,_,_,_=>none
 |n+1,a,b,c,d=>
  pIf (decide (a<c))
   ((ix b a).bind λg=>
   (zc1 n g.re d).bind λe=>
   z6z n (IntKind.i64.wrap (a+1)) b c e)
   (some d)
end
def yl6:LSh:=⟨[],[(.cells [(.own 1)]),(.acc 9 .str true)],1,38,[]⟩
def zk1:FI dat:=FI.of dat 130 38 1 [dT 2,(.ptr 0 0)] [(.cells [(.own 1)]),(.acc 9 .str true)] [] [(.cells [(.own 1)]),(.acc 9 .str true)] false yl6 (R:=List B8) Prod.fst (·,()) (λn=>u2 (zc1 n))
 (λn=>[(0,⟨⟨[(1,(.ptr 0 0)),(2,(.ptr 2 0)),(17,dB)],[(.cells [(.own 1)]),(.acc 9 .str true),(.st 2)],1,38,[]⟩,u3 (za8 n)⟩),(1,⟨⟨[(1,(.ptr 0 0)),(2,(.ptr 2 0))],[(.cells [(.own 1)]),(.acc 9 .str true),(.st 2)],1,38,[]⟩,u2 (z6u n)⟩),(2,⟨⟨[(30,dI),(1,(.ptr 0 0)),(28,dL 2),(29,dI)],[(.cells [(.own 1)]),(.acc 9 .str true)],1,38,[]⟩,u4 (z6z n)⟩)]) (anb [(5,0),(8,1),(11,2)] f130)
def yog:List (FI dat):=[zk1]++[z47]
def yob:(zk1).Good prog dat (tb yog):=FI.z3l (hD:=zzf _) func130 ntmps130 call130 (by kernel_rfl) (Qac (by kernel_rfl)) (by kernel_rfl) (λn=>by kernel_rfl) (λx=>by kernel_rfl) (λ_=>rfl) ⟨λ_=>rfl,λ_=>rfl,λ_=>rfl,trivial⟩
 (λ_ _=>tr (zc1.eq_2 ..))
 (λn=>⟨λ_=>tr (za8.eq_2 ..),
  λ_=>tr (z6u.eq_2 ..),
  λ_=>tr (z6z.eq_2 ..),
  trivial⟩)
 (λx=>.inr (by kernel_rfl))
def ynj:OkL prog [zk1]:=z8x (zzf _) (bs:=[z47]) ⟨zhj,trivial⟩ ⟨yob,trivial⟩
def yi0:FOk prog zk1:=ynj.1
def zcb:Nat->yz1->Ot ((List B8)×Int)
 |0,_=>none
 |n+1,a=>
  (z3i n a.re).bind λb=>
  pIf (b != 0)
   (some ([],b))
   ((zc1 n a.re []).bind λe=>
   (yzp n e).bind λd=>
   some (d,0))
def ykp:LSh:=⟨[(2,dA),(3,dI)],[],0,16,[]⟩
def zuv:FI dat:=FI.of dat 81 16 0 [dT 2] [] [dA,dI] [] true ykp (R:=(List B8)×Int) (λx=>(x.1,x.2.1)) (λr=>(r.1,r.2,())) (λn=>u1 (zcb n))
 (λn=>[]) (anb [] f81)
def y1s:FOk prog zuv:=okF (bs:=[zk1,z4n,zn5]) ⟨yi0,ze7,zr9,trivial⟩ func81 ntmps81 call81
 (λ_ _=>tr (zcb.eq_2 ..))
 (λn=>trivial)
def zb2:Nat->B8->(List B8)->(List Bool)->Ot (Bool×(List B8)×(List Bool))
 |0,_,_,_=>none
 |n+1,a,b,c=>
  some ((!(Option.getD (z6b (List.zip b c) a) false)),(mks (List.zip b c)),(mvs (List.zip b c)))
def yea:LSh:=⟨[(3,dB)],[(.cells [(.map 1)]),(.mp 86 .bool)],2,8,[]⟩
def zyr:FI dat:=FI.of dat 82 8 2 [dS,(.ptr 0 0)] [(.cells [(.map 1)]),(.mp 86 .bool)] [dB] [(.cells [(.map 1)]),(.mp 86 .bool)] false yea (R:=Bool×(List B8)×(List Bool)) (λx=>(x.1,x.2.1,x.2.2.1)) (λr=>(r.1,r.2.1,r.2.2,())) (λn=>u3 (zb2 n))
 (λn=>[]) (anb [] f82)
def ya0:FOk prog zyr:=okF (bs:=[]) trivial func82 ntmps82 call82
 (λn=>λ_=>tr (zb2.eq_2 _ _ _ n))
 (λn=>trivial)
mutual
def kzq:Nat->(List B8)->(List B8)->(List Bool)->Ot (Int×(List B8)×(List Bool))
 |0,_,_,_=>none
 |n+1,a,b,c=>
  zzb n 0 a (a.length:Int) (mks (List.zip b c)) (mvs (List.zip b c))
def zzb:Nat->Int->(List B8)->Int->(List B8)->(List Bool)->Ot (Int×(List B8)×(List Bool))
 |0,_,_,_,_,_=>none
 |n+1,a,b,c,d,e=>
  pIf (decide (a<c))
   ((ix b a).bind λh=>
   (zb2 n h (mks (List.zip d e)) (mvs (List.zip d e))).bind λg=>
   pIf g.1
    (some (a,(mks (List.zip g.2.1 g.2.2)),(mvs (List.zip g.2.1 g.2.2))))
    (zzb n (IntKind.i64.wrap (a+1)) b c (mks (List.zip g.2.1 g.2.2)) (mvs (List.zip g.2.1 g.2.2))))
   (some ((-1),(mks (List.zip d e)),(mvs (List.zip d e))))
end
def zhk:LSh:=⟨[(4,dI)],[(.cells [(.map 1)]),(.mp 86 .bool)],2,19,[]⟩
def za2:FI dat:=FI.of dat 95 19 2 [dA,(.fn 82 [] [(.ptr 0 0)])] [(.cells [(.map 1)]),(.mp 86 .bool)] [dI] [(.cells [(.map 1)]),(.mp 86 .bool)] false zhk (R:=Int×(List B8)×(List Bool)) (λx=>(x.1,x.2.1,x.2.2.1)) (λr=>(r.1,r.2.1,r.2.2,())) (λn=>u3 (kzq n))
 (λn=>[(0,⟨⟨[(8,dI),(0,dA),(1,(.fn 82 [] [(.ptr 0 0)])),(7,dI)],[(.cells [(.map 1)]),(.mp 86 .bool)],2,19,[]⟩,u5 (zzb n)⟩)]) (anb [(6,0)] f95)
def zh9:FOk prog za2:=okF (bs:=[zyr]) ⟨ya0,trivial⟩ func95 ntmps95 call95
 (λ_ _=>tr (kzq.eq_2 ..))
 (λn=>⟨λ_=>tr (zzb.eq_2 ..),
  trivial⟩)
def yzg:Nat->(List B8)->(List B8)->(List Bool)->Ot (Bool×(List B8)×(List Bool))
 |0,_,_,_=>none
 |n+1,a,b,c=>
  (kzq n a (mks (List.zip b c)) (mvs (List.zip b c))).bind λd=>
  some ((decide (d.1>=0)),(mks (List.zip d.2.1 d.2.2)),(mvs (List.zip d.2.1 d.2.2)))
def zg7:LSh:=⟨[(4,dB)],[(.cells [(.map 1)]),(.mp 86 .bool)],2,9,[]⟩
def z8n:FI dat:=FI.of dat 47 9 2 [dA,(.fn 82 [] [(.ptr 0 0)])] [(.cells [(.map 1)]),(.mp 86 .bool)] [dB] [(.cells [(.map 1)]),(.mp 86 .bool)] false zg7 (R:=Bool×(List B8)×(List Bool)) (λx=>(x.1,x.2.1,x.2.2.1)) (λr=>(r.1,r.2.1,r.2.2,())) (λn=>u3 (yzg n))
 (λn=>[]) (anb [] f47)
def zfj:FOk prog z8n:=okF (bs:=[za2]) ⟨zh9,trivial⟩ func47 ntmps47 call47
 (λ_ _=>tr (yzg.eq_2 ..))
 (λn=>trivial)
def zc0:Nat->yz1->(List B8)->(List Bool)->Ot (Bool×(List B8)×(List Bool))
 |0,_,_,_=>none
 |n+1,a,b,c=>
  (zcb n a.re).bind λe=>
  (yzg n e.1 (mks (List.zip b c)) (mvs (List.zip b c))).bind λd=>
  some (d.1,(mks (List.zip d.2.1 d.2.2)),(mvs (List.zip d.2.1 d.2.2)))
def yor:LSh:=⟨[(4,dB)],[(.mp 86 .bool)],1,15,[]⟩
def zva:FI dat:=FI.of dat 36 15 1 [dT 2,(.map 0)] [(.mp 86 .bool)] [dB] [(.mp 86 .bool)] false yor (R:=Bool×(List B8)×(List Bool)) (λx=>(x.1,x.2.1,x.2.2.1)) (λr=>(r.1,r.2.1,r.2.2,())) (λn=>u3 (zc0 n))
 (λn=>[]) (anb [] f36)
def y1c:FOk prog zva:=okF (bs:=[z8n,zuv]) ⟨zfj,y1s,trivial⟩ func36 ntmps36 call36
 (λ_ _=>tr (zc0.eq_2 ..))
 (λn=>trivial)
mutual
def zdb:Nat->zz3->Ot kz5
 |0,_=>none
 |n+1,a=>
  z5j n 0 a.cases (a.cases.length:Int) []
def z5j:Nat->Int->z0q->Int->kz5->Ot kz5
 |0,_,_,_,_=>none
 |n+1,a,b,c,d=>
  pIf (decide (a<c))
   ((ix b a).bind λe=>
   (ext d [e.when_.re]).bind λg=>
   z61 n 0 e.do_ b c a (e.do_.length:Int) g)
   (some d)
def z61:Nat->Int->yzu->z0q->Int->Int->Int->kz5->Ot kz5
 |0,_,_,_,_,_,_,_=>none
 |n+1,a,b,c,d,e,f,g=>
  pIf (decide (a<f))
   ((ix b a).bind λh=>
   (ext g h.args).bind λi=>
   z5v n 0 h.items b c d e f a (h.items.length:Int) i)
   (z5j n (IntKind.i64.wrap (e+1)) c d g)
def z5v:Nat->Int->zdu->yzu->z0q->Int->Int->Int->Int->Int->kz5->Ot kz5
 |0,_,_,_,_,_,_,_,_,_,_=>none
 |n+1,a,b,c,d,e,f,g,h,i,j=>
  pIf (decide (a<i))
   ((ix b a).bind λl=>
   (ext j l.args).bind λk=>
   z5v n (IntKind.i64.wrap (a+1)) b c d e f g h i k)
   (z61 n (IntKind.i64.wrap (h+1)) c d e f g j)
end
def yhx:LSh:=⟨[(2,dL 2)],[],0,48,[]⟩
def y1y:FI dat:=FI.of dat 39 48 0 [dT 7] [] [dL 2] [] true yhx (R:=kz5) Prod.fst (·,()) (λn=>u1 (zdb n))
 (λn=>[(0,⟨⟨[(13,dI),(3,(.own 0)),(11,dL 6),(12,dI)],[(.acc 42 (.st 2) true)],0,48,[]⟩,u4 (z5j n)⟩),(1,⟨⟨[(25,dI),(3,(.own 0)),(23,dL 5),(11,dL 6),(12,dI),(13,dI),(24,dI)],[(.acc 42 (.st 2) true)],0,48,[]⟩,u7 (z61 n)⟩),(2,⟨⟨[(36,dI),(3,(.own 0)),(34,dL 4),(23,dL 5),(11,dL 6),(12,dI),(13,dI),(24,dI),(25,dI),(35,dI)],[(.acc 42 (.st 2) true)],0,48,[]⟩,u10 (z5v n)⟩)]) (anb [(8,0),(24,1),(40,2)] f39)
def yg4:FOk prog y1y:=okF (bs:=[]) trivial func39 ntmps39 call39
 (λ_ _=>tr (zdb.eq_2 ..))
 (λn=>⟨λ_=>tr (z5j.eq_2 ..),
  λ_=>tr (z61.eq_2 ..),
  λ_=>tr (z5v.eq_2 ..),
  trivial⟩)
def zad:Nat->yz1->(List B8)->(List Bool)->Ot (Bool×(List B8)×(List Bool))
 |0,_,_,_=>none
 |n+1,a,b,c=>
  (zc0 n a.re (mks (List.zip b c)) (mvs (List.zip b c))).bind λd=>
  some (d.1,(mks (List.zip d.2.1 d.2.2)),(mvs (List.zip d.2.1 d.2.2)))
def yab:LSh:=⟨[(3,dB)],[(.cells [(.map 1)]),(.mp 86 .bool)],2,7,[]⟩
def zwd:FI dat:=FI.of dat 40 7 2 [dT 2,(.ptr 0 0)] [(.cells [(.map 1)]),(.mp 86 .bool)] [dB] [(.cells [(.map 1)]),(.mp 86 .bool)] false yab (R:=Bool×(List B8)×(List Bool)) (λx=>(x.1,x.2.1,x.2.2.1)) (λr=>(r.1,r.2.1,r.2.2,())) (λn=>u3 (zad n))
 (λn=>[]) (anb [] f40)
def y6v:FOk prog zwd:=okF (bs:=[zva]) ⟨y1c,trivial⟩ func40 ntmps40 call40
 (λ_ _=>tr (zad.eq_2 ..))
 (λn=>trivial)
mutual
def kzo:Nat->kz5->(List B8)->(List Bool)->Ot (Int×(List B8)×(List Bool))
 |0,_,_,_=>none
 |n+1,a,b,c=>
  zza n 0 a (a.length:Int) (mks (List.zip b c)) (mvs (List.zip b c))
def zza:Nat->Int->kz5->Int->(List B8)->(List Bool)->Ot (Int×(List B8)×(List Bool))
 |0,_,_,_,_,_=>none
 |n+1,a,b,c,d,e=>
  pIf (decide (a<c))
   ((ix b a).bind λh=>
   (zad n h.re (mks (List.zip d e)) (mvs (List.zip d e))).bind λg=>
   pIf g.1
    (some (a,(mks (List.zip g.2.1 g.2.2)),(mvs (List.zip g.2.1 g.2.2))))
    (zza n (IntKind.i64.wrap (a+1)) b c (mks (List.zip g.2.1 g.2.2)) (mvs (List.zip g.2.1 g.2.2))))
   (some ((-1),(mks (List.zip d e)),(mvs (List.zip d e))))
end
def zhb:LSh:=⟨[(4,dI)],[(.cells [(.map 1)]),(.mp 86 .bool)],2,19,[]⟩
def z9r:FI dat:=FI.of dat 83 19 2 [dL 2,(.fn 40 [] [(.ptr 0 0)])] [(.cells [(.map 1)]),(.mp 86 .bool)] [dI] [(.cells [(.map 1)]),(.mp 86 .bool)] false zhb (R:=Int×(List B8)×(List Bool)) (λx=>(x.1,x.2.1,x.2.2.1)) (λr=>(r.1,r.2.1,r.2.2,())) (λn=>u3 (kzo n))
 (λn=>[(0,⟨⟨[(8,dI),(0,dL 2),(1,(.fn 40 [] [(.ptr 0 0)])),(7,dI)],[(.cells [(.map 1)]),(.mp 86 .bool)],2,19,[]⟩,u5 (zza n)⟩)]) (anb [(6,0)] f83)
def zgu:FOk prog z9r:=okF (bs:=[zwd]) ⟨y6v,trivial⟩ func83 ntmps83 call83
 (λ_ _=>tr (kzo.eq_2 ..))
 (λn=>⟨λ_=>tr (zza.eq_2 ..),
  trivial⟩)
def kzf:Nat->kz5->(List B8)->(List Bool)->Ot (Bool×(List B8)×(List Bool))
 |0,_,_,_=>none
 |n+1,a,b,c=>
  (kzo n a (mks (List.zip b c)) (mvs (List.zip b c))).bind λd=>
  some ((decide (d.1>=0)),(mks (List.zip d.2.1 d.2.2)),(mvs (List.zip d.2.1 d.2.2)))
def zfm:LSh:=⟨[(4,dB)],[(.cells [(.map 1)]),(.mp 86 .bool)],2,9,[]⟩
def z83:FI dat:=FI.of dat 38 9 2 [dL 2,(.fn 40 [] [(.ptr 0 0)])] [(.cells [(.map 1)]),(.mp 86 .bool)] [dB] [(.cells [(.map 1)]),(.mp 86 .bool)] false zfm (R:=Bool×(List B8)×(List Bool)) (λx=>(x.1,x.2.1,x.2.2.1)) (λr=>(r.1,r.2.1,r.2.2,())) (λn=>u3 (kzf n))
 (λn=>[]) (anb [] f38)
def zf0:FOk prog z83:=okF (bs:=[z9r]) ⟨zgu,trivial⟩ func38 ntmps38 call38
 (λ_ _=>tr (kzf.eq_2 ..))
 (λn=>trivial)
mutual
def zao:Nat->zz3->Ot z9p
 |0,_=>none
 |n+1,a=>
  z5d n 0 a.cases (a.cases.length:Int) []
def z5d:Nat->Int->z0q->Int->z9p->Ot z9p
 |0,_,_,_,_=>none
 |n+1,a,b,c,d=>
  pIf (decide (a<c))
   ((ix b a).bind λe=>
   z39 n 0 e.do_ b c a (e.do_.length:Int) d)
   (some d)
def z39:Nat->Int->yzu->z0q->Int->Int->Int->z9p->Ot z9p
 |0,_,_,_,_,_,_,_=>none
 |n+1,a,b,c,d,e,f,g=>
  pIf (decide (a<f))
   ((ix b a).bind λh=>
   pIf (!(h.name==[]))
    ((zbo n h.kind).bind λi=>
    (ext g [(kzy.mk h.name (IntKind.i64.wrap ((h.args.length:Int)-i)))]).bind λj=>
    z5b n b c d e f a j h)
    (z5b n b c d e f a g h))
   (z5d n (IntKind.i64.wrap (e+1)) c d g)
def z5b:Nat->yzu->z0q->Int->Int->Int->Int->z9p->kz2->Ot z9p
 |0,_,_,_,_,_,_,_,_=>none
 |n+1,a,b,c,d,e,f,g,h=>
  z5c n 0 h.items a b c d e f (h.items.length:Int) g
def z5c:Nat->Int->zdu->yzu->z0q->Int->Int->Int->Int->Int->z9p->Ot z9p
 |0,_,_,_,_,_,_,_,_,_,_=>none
 |n+1,a,b,c,d,e,f,g,h,i,j=>
  pIf (decide (a<i))
   ((ix b a).bind λk=>
   (ext j [(kzy.mk k.name (IntKind.i64.wrap ((k.args.length:Int)-1)))]).bind λl=>
   z5c n (IntKind.i64.wrap (a+1)) b c d e f g h i l)
   (z39 n (IntKind.i64.wrap (h+1)) c d e f g j)
end
def yh7:LSh:=⟨[(2,dL 11)],[],0,61,[]⟩
def zrv:FI dat:=FI.of dat 41 61 0 [dT 7] [] [dL 11] [] true yh7 (R:=z9p) Prod.fst (·,()) (λn=>u1 (zao n))
 (λn=>[(0,⟨⟨[(3,(.own 0)),(13,dI),(11,dL 6),(12,dI)],[(.acc 96 (.st 11) true)],0,61,[]⟩,u4 (z5d n)⟩),(1,⟨⟨[(20,dI),(3,(.own 0)),(18,dL 5),(11,dL 6),(12,dI),(13,dI),(19,dI)],[(.acc 96 (.st 11) true)],0,61,[]⟩,u7 (z39 n)⟩),(2,⟨⟨[(3,(.own 0)),(18,dL 5),(11,dL 6),(12,dI),(13,dI),(19,dI),(20,dI),(7,(.ptr 1 0))],[(.acc 96 (.st 11) true),(.st 5)],0,61,[]⟩,u8 (z5b n)⟩),(3,⟨⟨[(43,dI),(3,(.own 0)),(41,dL 4),(18,dL 5),(11,dL 6),(12,dI),(13,dI),(19,dI),(20,dI),(42,dI)],[(.acc 96 (.st 11) true)],0,61,[]⟩,u10 (z5c n)⟩)]) (anb [(8,0),(22,1),(39,2),(42,3)] f41)
def zww:FOk prog zrv:=okF (bs:=[zx3]) ⟨y5k,trivial⟩ func41 ntmps41 call41
 (λ_ _=>tr (zao.eq_2 ..))
 (λn=>⟨λ_=>tr (z5d.eq_2 ..),
  λ_=>tr (z39.eq_2 ..),
  λ_=>tr (z5b.eq_2 ..),
  λ_=>tr (z5c.eq_2 ..),
  trivial⟩)
mutual
def z0t:Nat->zz0->Ot Int
 |0,_=>none
 |n+1,a=>
  (zeg n a).bind λd=>
  pIf d
   (some 4)
   ((zb4 n a).bind λb=>
   pIf (!b)
    (some 8)
    (z4z n 0 false a.attrs (a.attrs.length:Int) [] [] [] [] a))
def z4z:Nat->Int->Bool->kz6->Int->(List B8)->(List Bool)->(List B8)->(List Int)->zz0->Ot Int
 |0,_,_,_,_,_,_,_,_,_=>none
 |n+1,a,b,c,d,e,f,g,h,i=>
  pIf (decide (a<d))
   ((ix c a).bind λk=>
   pIf b
    (z5n n true c d a (mks (List.zip e f)) (mvs (List.zip e f)) (mks (List.zip g h)) (mvs (List.zip g h)) i k.re)
    ((zc0 n k.value.re (mks (List.zip e f)) (mvs (List.zip e f))).bind λj=>
    z5n n j.1 c d a (mks (List.zip j.2.1 j.2.2)) (mvs (List.zip j.2.1 j.2.2)) (mks (List.zip g h)) (mvs (List.zip g h)) i k.re))
   (z5w n 0 i.rules b (i.rules.length:Int) (mks (List.zip e f)) (mvs (List.zip e f)) (mks (List.zip g h)) (mvs (List.zip g h)) i)
def z5n:Nat->Bool->kz6->Int->Int->(List B8)->(List Bool)->(List B8)->(List Int)->zz0->yz7->Ot Int
 |0,_,_,_,_,_,_,_,_,_,_=>none
 |n+1,a,b,c,d,e,f,g,h,i,j=>
  pIf (Option.getD (z6b (List.zip e f) j.name) false)
   (some 14)
   (z4z n (IntKind.i64.wrap (d+1)) a b c (mks (z99 (List.zip e f) j.name true)) (mvs (z99 (List.zip e f) j.name true)) (mks (List.zip g h)) (mvs (List.zip g h)) i)
def z5w:Nat->Int->zz5->Bool->Int->(List B8)->(List Bool)->(List B8)->(List Int)->zz0->Ot Int
 |0,_,_,_,_,_,_,_,_,_=>none
 |n+1,a,b,c,d,e,f,g,h,i=>
  pIf (decide (a<d))
   ((ix b a).bind λj=>
   pIf (Option.isSome (z6b (List.zip g h) j.name))
    (some 14)
    (z5l n 0 j.params b c d a (j.params.length:Int) j (mks (List.zip e f)) (mvs (List.zip e f)) (mks (z99 (List.zip g h) j.name a)) (mvs (z99 (List.zip g h) j.name a)) i))
   (z2v n false 0 c (mks (List.zip e f)) (mvs (List.zip e f)) i.rules (i.rules.length:Int) i (mks (List.zip g h)) (mvs (List.zip g h)))
def z5l:Nat->Int->(List B8)->zz5->Bool->Int->Int->Int->zz3->(List B8)->(List Bool)->(List B8)->(List Int)->zz0->Ot Int
 |0,_,_,_,_,_,_,_,_,_,_,_,_,_=>none
 |n+1,a,b,c,d,e,f,g,h,i,j,k,l,m=>
  pIf (decide (a<g))
   ((ix b a).bind λo=>
   pIf (Option.getD (z6b (List.zip i j) o) false)
    (z5f n b c d e f g a true h (mks (List.zip i j)) (mvs (List.zip i j)) (mks (List.zip k l)) (mvs (List.zip k l)) m)
    ((zzm n h.params o).bind λp=>
    z5f n b c d e f g a (decide (p<a)) h (mks (List.zip i j)) (mvs (List.zip i j)) (mks (List.zip k l)) (mvs (List.zip k l)) m))
   (z5w n (IntKind.i64.wrap (f+1)) c d e (mks (List.zip i j)) (mvs (List.zip i j)) (mks (List.zip k l)) (mvs (List.zip k l)) m)
def z5f:Nat->(List B8)->zz5->Bool->Int->Int->Int->Int->Bool->zz3->(List B8)->(List Bool)->(List B8)->(List Int)->zz0->Ot Int
 |0,_,_,_,_,_,_,_,_,_,_,_,_,_,_=>none
 |n+1,a,b,c,d,e,f,g,h,i,j,k,l,m,o=>
  pIf h
   (some 14)
   (z5l n (IntKind.i64.wrap (g+1)) a b c d e f i (mks (List.zip j k)) (mvs (List.zip j k)) (mks (List.zip l m)) (mvs (List.zip l m)) o)
def z2v:Nat->Bool->Int->Bool->(List B8)->(List Bool)->zz5->Int->zz0->(List B8)->(List Int)->Ot Int
 |0,_,_,_,_,_,_,_,_,_,_=>none
 |n+1,a,b,c,d,e,f,g,h,i,j=>
  pIf (decide (b<g))
   ((ix f b).bind λk=>
   z56 n a (mks (List.zip d e)) (mvs (List.zip d e)) f g b c (mks (List.zip d e)) (mvs (List.zip d e)) h (mks (List.zip i j)) (mvs (List.zip i j)) k (mks (z99 (z99 (z99 [] [115,120] true) [115,121] true) [115,122] true)) (mvs (z99 (z99 (z99 [] [115,120] true) [115,121] true) [115,122] true)))
   (pIf c
     (some 6)
     (pIf a
       (some 2)
       (some 0)))
def z56:Nat->Bool->(List B8)->(List Bool)->zz5->Int->Int->Bool->(List B8)->(List Bool)->zz0->(List B8)->(List Int)->zz3->(List B8)->(List Bool)->Ot Int
 |0,_,_,_,_,_,_,_,_,_,_,_,_,_,_,_=>none
 |n+1,a,b,c,d,e,f,g,h,i,j,k,l,m,o,p=>
  y82 (List.zip h i) (λr s q=>
   z56 n a (mks (List.zip b c)) (mvs (List.zip b c)) d e f g (mks q) (mvs q) j (mks (List.zip k l)) (mvs (List.zip k l)) m (mks (z99 (List.zip o p) r true)) (mvs (z99 (List.zip o p) r true)))
   (z30 n 0 m.params a (mks (List.zip b c)) (mvs (List.zip b c)) d e f g (m.params.length:Int) j (mks (List.zip k l)) (mvs (List.zip k l)) m (mks (List.zip o p)) (mvs (List.zip o p)))
def z30:Nat->Int->(List B8)->Bool->(List B8)->(List Bool)->zz5->Int->Int->Bool->Int->zz0->(List B8)->(List Int)->zz3->(List B8)->(List Bool)->Ot Int
 |0,_,_,_,_,_,_,_,_,_,_,_,_,_,_,_,_=>none
 |n+1,a,b,c,d,e,f,g,h,i,j,k,l,m,o,p,q=>
  pIf (decide (a<j))
   ((ix b a).bind λr=>
   z30 n (IntKind.i64.wrap (a+1)) b c (mks (List.zip d e)) (mvs (List.zip d e)) f g h i j k (mks (List.zip l m)) (mvs (List.zip l m)) o (mks (z99 (List.zip p q) r true)) (mvs (z99 (List.zip p q) r true)))
   (pIf i
     (z5u n c true (mks (List.zip d e)) (mvs (List.zip d e)) f g h k (mks (List.zip l m)) (mvs (List.zip l m)) o)
     ((zdb n o).bind λu=>
     (kzf n u (mks (List.zip p q)) (mvs (List.zip p q))).bind λs=>
     z5u n c s.1 (mks (List.zip d e)) (mvs (List.zip d e)) f g h k (mks (List.zip l m)) (mvs (List.zip l m)) o))
def z5u:Nat->Bool->Bool->(List B8)->(List Bool)->zz5->Int->Int->zz0->(List B8)->(List Int)->zz3->Ot Int
 |0,_,_,_,_,_,_,_,_,_,_,_=>none
 |n+1,a,b,c,d,e,f,g,h,i,j,k=>
  (zao n k).bind λl=>
  z5h n 0 a b l (mks (List.zip c d)) (mvs (List.zip c d)) e f g (l.length:Int) h (mks (List.zip i j)) (mvs (List.zip i j))
def z5h:Nat->Int->Bool->Bool->z9p->(List B8)->(List Bool)->zz5->Int->Int->Int->zz0->(List B8)->(List Int)->Ot Int
 |0,_,_,_,_,_,_,_,_,_,_,_,_,_=>none
 |n+1,a,b,c,d,e,f,g,h,i,j,k,l,m=>
  pIf (decide (a<j))
   ((ix d a).bind λo=>
   pIf c
    (z3z n true d (mks (List.zip e f)) (mvs (List.zip e f)) g h i j a (Option.getD (z6b (List.zip l m) o.name) 0) (Option.isSome (z6b (List.zip l m) o.name)) b k (mks (List.zip l m)) (mvs (List.zip l m)) o)
    (z3z n (!(Option.isSome (z6b (List.zip l m) o.name))) d (mks (List.zip e f)) (mvs (List.zip e f)) g h i j a (Option.getD (z6b (List.zip l m) o.name) 0) (Option.isSome (z6b (List.zip l m) o.name)) b k (mks (List.zip l m)) (mvs (List.zip l m)) o))
   (z2v n b (IntKind.i64.wrap (i+1)) c (mks (List.zip e f)) (mvs (List.zip e f)) g h k (mks (List.zip l m)) (mvs (List.zip l m)))
def z3z:Nat->Bool->z9p->(List B8)->(List Bool)->zz5->Int->Int->Int->Int->Int->Bool->Bool->zz0->(List B8)->(List Int)->kzy->Ot Int
 |0,_,_,_,_,_,_,_,_,_,_,_,_,_,_,_,_=>none
 |n+1,a,b,c,d,e,f,g,h,i,j,k,l,m,o,p,q=>
  pIf l
   (z1u n true a b (mks (List.zip c d)) (mvs (List.zip c d)) e f g h i m (mks (List.zip o p)) (mvs (List.zip o p)))
   (pIf k
     ((ix m.rules j).bind λr=>
     z1u n (q.many != (r.params.length:Int)) a b (mks (List.zip c d)) (mvs (List.zip c d)) e f g h i m (mks (List.zip o p)) (mvs (List.zip o p)))
     (z1u n false a b (mks (List.zip c d)) (mvs (List.zip c d)) e f g h i m (mks (List.zip o p)) (mvs (List.zip o p))))
def z1u:Nat->Bool->Bool->z9p->(List B8)->(List Bool)->zz5->Int->Int->Int->Int->zz0->(List B8)->(List Int)->Ot Int
 |0,_,_,_,_,_,_,_,_,_,_,_,_,_=>none
 |n+1,a,b,c,d,e,f,g,h,i,j,k,l,m=>
  z5h n (IntKind.i64.wrap (j+1)) a b c (mks (List.zip d e)) (mvs (List.zip d e)) f g h i k (mks (List.zip l m)) (mvs (List.zip l m))
end
def yji:LSh:=⟨[(2,dI)],[],0,170,[]⟩
def zer:FI dat:=FI.of dat 16 170 0 [dT 8] [] [dI] [] true yji (R:=Int) Prod.fst (·,()) (λn=>u1 (z0t n))
 (λn=>[(0,⟨⟨[(35,dI),(3,(.map 0)),(5,dB),(33,dL 3),(4,(.map 1)),(1,(.ptr 2 0)),(34,dI)],[(.mp 86 .bool),(.mp 87 (.int .i64)),(.st 8)],0,170,[]⟩,u9 (z4z n)⟩),(1,⟨⟨[(3,(.map 0)),(5,dB),(33,dL 3),(4,(.map 1)),(1,(.ptr 2 0)),(34,dI),(35,dI),(7,(.ptr 3 0))],[(.mp 86 .bool),(.mp 87 (.int .i64)),(.st 8),(.st 3)],0,170,[]⟩,u10 (z5n n)⟩),(2,⟨⟨[(3,(.map 0)),(57,dI),(4,(.map 1)),(55,dL 7),(1,(.ptr 2 0)),(5,dB),(56,dI)],[(.mp 86 .bool),(.mp 87 (.int .i64)),(.st 8)],0,170,[]⟩,u9 (z5w n)⟩),(3,⟨⟨[(77,dI),(9,(.ptr 0 0)),(3,(.map 1)),(75,dA),(4,(.map 2)),(55,dL 7),(1,(.ptr 3 0)),(5,dB),(56,dI),(57,dI),(76,dI)],[(.st 7),(.mp 86 .bool),(.mp 87 (.int .i64)),(.st 8)],0,170,[]⟩,λx=>z5l n x.1 x.2.1 x.2.2.1 x.2.2.2.1 x.2.2.2.2.1 x.2.2.2.2.2.1 x.2.2.2.2.2.2.1 x.2.2.2.2.2.2.2.1 x.2.2.2.2.2.2.2.2.1 x.2.2.2.2.2.2.2.2.2.1 x.2.2.2.2.2.2.2.2.2.2.1 x.2.2.2.2.2.2.2.2.2.2.2.1 x.2.2.2.2.2.2.2.2.2.2.2.2.1⟩),(4,⟨⟨[(9,(.ptr 0 0)),(3,(.map 1)),(75,dA),(4,(.map 2)),(55,dL 7),(1,(.ptr 3 0)),(5,dB),(56,dI),(57,dI),(76,dI),(77,dI),(92,dB)],[(.st 7),(.mp 86 .bool),(.mp 87 (.int .i64)),(.st 8)],0,170,[]⟩,λx=>z5f n x.1 x.2.1 x.2.2.1 x.2.2.2.1 x.2.2.2.2.1 x.2.2.2.2.2.1 x.2.2.2.2.2.2.1 x.2.2.2.2.2.2.2.1 x.2.2.2.2.2.2.2.2.1 x.2.2.2.2.2.2.2.2.2.1 x.2.2.2.2.2.2.2.2.2.2.1 x.2.2.2.2.2.2.2.2.2.2.2.1 x.2.2.2.2.2.2.2.2.2.2.2.2.1 x.2.2.2.2.2.2.2.2.2.2.2.2.2.1⟩),(5,⟨⟨[(1,(.ptr 0 0)),(14,dB),(4,(.map 1)),(98,dI),(5,dB),(3,(.mc .bool)),(96,dL 7),(97,dI)],[(.st 8),(.mp 87 (.int .i64))],0,170,[]⟩,u10 (z2v n)⟩),(6,⟨⟨[(17,(.ptr 0 0)),(105,(.ptr 1 0)),(1,(.ptr 2 0)),(14,dB),(4,(.map 3)),(3,(.mc .bool)),(96,dL 7),(97,dI),(98,dI),(16,(.ptr 4 0)),(5,dB)],[(.cells [(.map 5)]),(.mit .bool),(.st 8),(.mp 87 (.int .i64)),(.st 7),(.mp 86 .bool)],0,170,[]⟩,λx=>z56 n x.1 x.2.1 x.2.2.1 x.2.2.2.1 x.2.2.2.2.1 x.2.2.2.2.2.1 x.2.2.2.2.2.2.1 x.2.2.2.2.2.2.2.1 x.2.2.2.2.2.2.2.2.1 x.2.2.2.2.2.2.2.2.2.1 x.2.2.2.2.2.2.2.2.2.2.1 x.2.2.2.2.2.2.2.2.2.2.2.1 x.2.2.2.2.2.2.2.2.2.2.2.2.1 x.2.2.2.2.2.2.2.2.2.2.2.2.2.1 x.2.2.2.2.2.2.2.2.2.2.2.2.2.2.1⟩),(7,⟨⟨[(115,dI),(17,(.ptr 0 0)),(113,dA),(1,(.ptr 1 0)),(14,dB),(4,(.map 2)),(3,(.mc .bool)),(96,dL 7),(97,dI),(98,dI),(16,(.ptr 3 0)),(5,dB),(114,dI)],[(.cells [(.map 4)]),(.st 8),(.mp 87 (.int .i64)),(.st 7),(.mp 86 .bool)],0,170,[]⟩,λx=>z30 n x.1 x.2.1 x.2.2.1 x.2.2.2.1 x.2.2.2.2.1 x.2.2.2.2.2.1 x.2.2.2.2.2.2.1 x.2.2.2.2.2.2.2.1 x.2.2.2.2.2.2.2.2.1 x.2.2.2.2.2.2.2.2.2.1 x.2.2.2.2.2.2.2.2.2.2.1 x.2.2.2.2.2.2.2.2.2.2.2.1 x.2.2.2.2.2.2.2.2.2.2.2.2.1 x.2.2.2.2.2.2.2.2.2.2.2.2.2.1 x.2.2.2.2.2.2.2.2.2.2.2.2.2.2.1 x.2.2.2.2.2.2.2.2.2.2.2.2.2.2.2.1⟩),(8,⟨⟨[(1,(.ptr 0 0)),(14,dB),(5,dB),(4,(.map 1)),(3,(.mc .bool)),(96,dL 7),(97,dI),(98,dI),(16,(.ptr 2 0))],[(.st 8),(.mp 87 (.int .i64)),(.st 7)],0,170,[]⟩,u11 (z5u n)⟩),(9,⟨⟨[(132,dI),(1,(.ptr 0 0)),(14,dB),(5,dB),(4,(.map 1)),(130,dL 11),(3,(.mc .bool)),(96,dL 7),(97,dI),(98,dI),(131,dI)],[(.st 8),(.mp 87 (.int .i64))],0,170,[]⟩,λx=>z5h n x.1 x.2.1 x.2.2.1 x.2.2.2.1 x.2.2.2.2.1 x.2.2.2.2.2.1 x.2.2.2.2.2.2.1 x.2.2.2.2.2.2.2.1 x.2.2.2.2.2.2.2.2.1 x.2.2.2.2.2.2.2.2.2.1 x.2.2.2.2.2.2.2.2.2.2.1 x.2.2.2.2.2.2.2.2.2.2.2.1 x.2.2.2.2.2.2.2.2.2.2.2.2.1⟩),(10,⟨⟨[(1,(.ptr 0 0)),(5,dB),(4,(.map 1)),(130,dL 11),(3,(.mc .bool)),(96,dL 7),(97,dI),(98,dI),(131,dI),(132,dI),(23,dI),(22,(.ptr 2 0)),(24,dB),(14,dB)],[(.st 8),(.mp 87 (.int .i64)),(.st 11)],0,170,[]⟩,λx=>z3z n x.1 x.2.1 x.2.2.1 x.2.2.2.1 x.2.2.2.2.1 x.2.2.2.2.2.1 x.2.2.2.2.2.2.1 x.2.2.2.2.2.2.2.1 x.2.2.2.2.2.2.2.2.1 x.2.2.2.2.2.2.2.2.2.1 x.2.2.2.2.2.2.2.2.2.2.1 x.2.2.2.2.2.2.2.2.2.2.2.1 x.2.2.2.2.2.2.2.2.2.2.2.2.1 x.2.2.2.2.2.2.2.2.2.2.2.2.2.1 x.2.2.2.2.2.2.2.2.2.2.2.2.2.2.1 x.2.2.2.2.2.2.2.2.2.2.2.2.2.2.2.1⟩),(11,⟨⟨[(1,(.ptr 0 0)),(14,dB),(5,dB),(4,(.map 1)),(130,dL 11),(3,(.mc .bool)),(96,dL 7),(97,dI),(98,dI),(131,dI),(132,dI)],[(.st 8),(.mp 87 (.int .i64))],0,170,[]⟩,λx=>z1u n x.1 x.2.1 x.2.2.1 x.2.2.2.1 x.2.2.2.2.1 x.2.2.2.2.2.1 x.2.2.2.2.2.2.1 x.2.2.2.2.2.2.2.1 x.2.2.2.2.2.2.2.2.1 x.2.2.2.2.2.2.2.2.2.1 x.2.2.2.2.2.2.2.2.2.2.1 x.2.2.2.2.2.2.2.2.2.2.2.1 x.2.2.2.2.2.2.2.2.2.2.2.2.1⟩)]) (anb [(26,0),(39,1),(53,2),(79,3),(92,4),(105,5),(122,6),(137,7),(152,8),(155,9),(170,10),(171,11)] f16)
def zka:FOk prog zer:=okF (bs:=[zva,z83,y5p,zwr,z96,y1y,zrv]) ⟨y1c,zf0,yhm,ya2,zdg,yg4,zww,trivial⟩ func16 ntmps16 call16
 (λn=>λ_=>tr (z0t.eq_2 _ n))
 (λn=>⟨λ_=>tr (z4z.eq_2 _ _ _ _ _ _ _ _ _ n),
  λ_=>tr (z5n.eq_2 _ _ _ _ _ _ _ _ _ _ n),
  λ_=>tr (z5w.eq_2 _ _ _ _ _ _ _ _ _ n),
  λ_=>tr (z5l.eq_2 _ _ _ _ _ _ _ _ _ _ _ _ _ n),
  λ_=>tr (z5f.eq_2 _ _ _ _ _ _ _ _ _ _ _ _ _ _ n),
  λ_=>tr (z2v.eq_2 _ _ _ _ _ _ _ _ _ _ n),
  λ_=>tr (z56.eq_2 _ _ _ _ _ _ _ _ _ _ _ _ _ _ _ n),
  λ_=>tr (z30.eq_2 _ _ _ _ _ _ _ _ _ _ _ _ _ _ _ _ n),
  λ_=>tr (z5u.eq_2 _ _ _ _ _ _ _ _ _ _ _ n),
  λ_=>tr (z5h.eq_2 _ _ _ _ _ _ _ _ _ _ _ _ _ n),
  λ_=>tr (z3z.eq_2 _ _ _ _ _ _ _ _ _ _ _ _ _ _ _ _ n),
  λ_=>tr (z1u.eq_2 _ _ _ _ _ _ _ _ _ _ _ _ _ n),
  trivial⟩)
mutual
def z97:Nat->zz1->Ot zz1
 |0,_=>none
 |n+1,a=>
  z42 n 0 a.list (a.list.length:Int) [] 0 0 0 false [] a.re []
def z42:Nat->Int->z4f->Int->z4f->Int->Int->Int->Bool->B8->zz1->z4f->Ot zz1
 |0,_,_,_,_,_,_,_,_,_,_,_=>none
 |n+1,a,b,c,d,e,f,g,h,i,j,k=>
  pIf (decide (a<c))
   ((ix b a).bind λo=>
   (z97 n o.re).bind λl=>
   (ext d [l.re]).bind λm=>
   z42 n (IntKind.i64.wrap (a+1)) b c m e f g h i j.re k)
   (some (zz1.mk j.kind j.num j.truth j.str d))
end
def yg7:LSh:=⟨[(3,(.ptr 1 0))],[(.cells [(.fn 148 [] [(.ptr 0 0)])]),(.st 1)],1,24,[]⟩
def zgc:FI dat:=FI.of dat 148 24 1 [dT 1,(.ptr 0 0)] [(.cells [(.fn 148 [] [(.ptr 0 0)])])] [dT 1] [(.cells [(.fn 148 [] [(.ptr 0 0)])]),(.st 1)] false yg7 (R:=zz1) (λx=>x.1) (λr=>(r,r,())) (λn=>u1 (z97 n))
 (λn=>[(0,⟨⟨[(10,dI),(1,(.ptr 0 0)),(4,(.own 1)),(8,dL 1),(3,(.ptr 2 0)),(2,(.ptr 3 0)),(9,dI)],[(.cells [(.fn 148 [] [(.ptr 0 0)])]),(.acc 39 (.st 1) true),(.cells [dU,dI,dI,dB,dS,(.own 4)]),(.st 1),(.acc 39 (.st 1) true)],1,24,[]⟩,u11 (z42 n)⟩)]) (anb [(8,0)] f148)
def yca:List (FI dat):=[zgc]++[]
def ygd:(zgc).Good prog dat (tb yca):=FI.z3l (hD:=zzf _) func148 ntmps148 call148 (by kernel_rfl) (Qac (by kernel_rfl)) (by kernel_rfl) (λn=>by kernel_rfl) (λx=>by kernel_rfl) (λ_=>rfl) ⟨λ_=>rfl,trivial⟩
 (λ_ _=>tr (z97.eq_2 ..))
 (λn=>⟨λ_=>tr (z42.eq_2 ..),
  trivial⟩)
 (λx=>.inr (by kernel_rfl))
def ybw:OkL prog [zgc]:=z8x (zzf _) (bs:=[]) trivial ⟨ygd,trivial⟩
def y9t:FOk prog zgc:=ybw.1
def zen:Nat->zz1->Ot zz1
 |0,_=>none
 |n+1,a=>
  (z97 n a.re).bind λb=>
  some b.re
def ykt:LSh:=⟨[(2,(.ptr 0 0))],[(.st 1)],0,8,[]⟩
def y4e:FI dat:=FI.of dat 98 8 0 [dT 1] [] [dT 1] [] true ykt (R:=zz1) Prod.fst (·,()) (λn=>u1 (zen n))
 (λn=>[]) (anb [] f98)
def yje:FOk prog y4e:=okF (bs:=[zgc]) ⟨y9t,trivial⟩ func98 ntmps98 call98
 (λ_ _=>tr (zen.eq_2 ..))
 (λn=>trivial)
def zcl:Nat->yz1->Ot yz1
 |0,_=>none
 |n+1,a=>
  (zen n a.value.re).bind λb=>
  some (yz1.mk a.op b.re a.name a.args)
def yi4:LSh:=⟨[(2,(.ptr 0 0))],[(.st 2)],0,8,[]⟩
def zrc:FI dat:=FI.of dat 97 8 0 [dT 2] [] [dT 2] [] true yi4 (R:=yz1) Prod.fst (·,()) (λn=>u1 (zcl n))
 (λn=>[]) (anb [] f97)
def yf7:FOk prog zrc:=okF (bs:=[y4e]) ⟨yje,trivial⟩ func97 ntmps97 call97
 (λ_ _=>tr (zcl.eq_2 ..))
 (λn=>trivial)
mutual
def zal:Nat->yz1->Ot yz1
 |0,_=>none
 |n+1,a=>
  z65 n 0 a.args (a.args.length:Int) a.op a.value.kind a.value.num.num a.value.num.den a.value.truth a.value.str a.value.list a.name 0 0 0 0 false [] [] [] [] []
def z65:Nat->Int->kz5->Int->Int->Int->Int->Int->Bool->B8->z4f->B8->Int->Int->Int->Int->Bool->B8->z4f->B8->kz5->kz5->Ot yz1
 |0,_,_,_,_,_,_,_,_,_,_,_,_,_,_,_,_,_,_,_,_,_=>none
 |n+1,a,b,c,d,e,f,g,h,i,j,k,l,m,o,p,q,r,s,t,u,v=>
  pIf (decide (a<c))
   ((ix b a).bind λz=>
   (zal n z.re).bind λx=>
   (ext u [x.re]).bind λy=>
   z65 n (IntKind.i64.wrap (a+1)) b c d e f g h i j k l m o p q r s t y v)
   ((zcl n (yz1.mk d (zz1.mk e (kz4.mk f g) h i j) k u)).bind λw=>
   some w.re)
end
def yim:LSh:=⟨[(4,(.ptr 0 0))],[(.st 2)],0,29,[]⟩
def zhr:FI dat:=FI.of dat 96 29 0 [dT 2,(.fn 97 [] [])] [] [dT 2] [] true yim (R:=yz1) Prod.fst (·,()) (λn=>u1 (zal n))
 (λn=>[(0,⟨⟨[(13,dI),(2,(.ptr 0 0)),(1,(.fn 97 [] [])),(11,dL 2),(4,(.ptr 1 0)),(12,dI)],[(.cells [dU,dU,dI,dI,dB,dS,dL 1,dS,(.own 2)]),(.cells [dU,dU,dI,dI,dB,dS,dL 1,dS,(.own 3)]),(.acc 42 (.st 2) true),(.acc 42 (.st 2) true)],0,29,[]⟩,λx=>z65 n x.1 x.2.1 x.2.2.1 x.2.2.2.1 x.2.2.2.2.1 x.2.2.2.2.2.1 x.2.2.2.2.2.2.1 x.2.2.2.2.2.2.2.1 x.2.2.2.2.2.2.2.2.1 x.2.2.2.2.2.2.2.2.2.1 x.2.2.2.2.2.2.2.2.2.2.1 x.2.2.2.2.2.2.2.2.2.2.2.1 x.2.2.2.2.2.2.2.2.2.2.2.2.1 x.2.2.2.2.2.2.2.2.2.2.2.2.2.1 x.2.2.2.2.2.2.2.2.2.2.2.2.2.2.1 x.2.2.2.2.2.2.2.2.2.2.2.2.2.2.2.1 x.2.2.2.2.2.2.2.2.2.2.2.2.2.2.2.2.1 x.2.2.2.2.2.2.2.2.2.2.2.2.2.2.2.2.2.1 x.2.2.2.2.2.2.2.2.2.2.2.2.2.2.2.2.2.2.1 x.2.2.2.2.2.2.2.2.2.2.2.2.2.2.2.2.2.2.2.1 x.2.2.2.2.2.2.2.2.2.2.2.2.2.2.2.2.2.2.2.2.1⟩)]) (anb [(10,0)] f96)
def ygz:List (FI dat):=[zhr]++[zrc]
def yht:(zhr).Good prog dat (tb ygz):=FI.z3l (hD:=zzf _) func96 ntmps96 call96 (by kernel_rfl) (Qac (by kernel_rfl)) (by kernel_rfl) (λn=>by kernel_rfl) (λx=>by kernel_rfl) (λ_=>rfl) ⟨λ_=>rfl,trivial⟩
 (λ_ _=>tr (zal.eq_2 ..))
 (λn=>⟨λ_=>tr (z65.eq_2 ..),
  trivial⟩)
 (λx=>.inl rfl)
def ygl:OkL prog [zhr]:=z8x (zzf _) (bs:=[zrc]) ⟨yf7,trivial⟩ ⟨yht,trivial⟩
def yfp:FOk prog zhr:=ygl.1
def z9x:Nat->yz1->Ot yz1
 |0,_=>none
 |n+1,a=>
  (zal n a.re).bind λb=>
  some b.re
def yp1:LSh:=⟨[(2,(.ptr 0 0))],[(.st 2)],0,5,[]⟩
def zp7:FI dat:=FI.of dat 49 5 0 [dT 2] [] [dT 2] [] true yp1 (R:=yz1) Prod.fst (·,()) (λn=>u1 (z9x n))
 (λn=>[]) (anb [] f49)
def zut:FOk prog zp7:=okF (bs:=[zhr]) ⟨yfp,trivial⟩ func49 ntmps49 call49
 (λ_ _=>tr (z9x.eq_2 ..))
 (λn=>trivial)
def z5m:Nat->kz5->Ot kz5
 |0,_=>none
 |n+1,a=>
  (z8d n a).bind λd=>
  (z9x n d.re).bind λb=>
  some b.args
def y5z:LSh:=⟨[(2,dL 2)],[],0,7,[]⟩
def zsh:FI dat:=FI.of dat 51 7 0 [dL 2] [] [dL 2] [] true y5z (R:=kz5) Prod.fst (·,()) (λn=>u1 (z5m n))
 (λn=>[]) (anb [] f51)
def y3y:FOk prog zsh:=okF (bs:=[zvd,zp7]) ⟨y0x,zut,trivial⟩ func51 ntmps51 call51
 (λ_ _=>tr (z5m.eq_2 ..))
 (λn=>trivial)
mutual
def za3:Nat->zz0->Ot (kz6×zz5)
 |0,_=>none
 |n+1,a=>
  z7d n 0 a.attrs (a.attrs.length:Int) a [] [] [] []
def z7d:Nat->Int->kz6->Int->zz0->kz6->zz5->kz6->zz5->Ot (kz6×zz5)
 |0,_,_,_,_,_,_,_,_=>none
 |n+1,a,b,c,d,e,f,g,h=>
  pIf (decide (a<c))
   ((ix b a).bind λi=>
   (z9x n i.value.re).bind λj=>
   (ext e [(yz7.mk i.name j.re)]).bind λk=>
   z7d n (IntKind.i64.wrap (a+1)) b c d k f g h)
   (z7x n 0 d.rules (d.rules.length:Int) e f g h)
def z7x:Nat->Int->zz5->Int->kz6->zz5->kz6->zz5->Ot (kz6×zz5)
 |0,_,_,_,_,_,_,_=>none
 |n+1,a,b,c,d,e,f,g=>
  pIf (decide (a<c))
   ((ix b a).bind λh=>
   (z8m n h.params).bind λi=>
   z77 n 0 h.cases b c a (h.cases.length:Int) h.name i [] d e f g)
   (some (d,e))
def z77:Nat->Int->z0q->zz5->Int->Int->Int->B8->(List B8)->z0q->kz6->zz5->kz6->zz5->Ot (kz6×zz5)
 |0,_,_,_,_,_,_,_,_,_,_,_,_,_=>none
 |n+1,a,b,c,d,e,f,g,h,i,j,k,l,m=>
  pIf (decide (a<f))
   ((ix b a).bind λp=>
   (z9x n p.when_.re).bind λo=>
   z7u n 0 p.do_ b c d e f a (p.do_.length:Int) p.weight o.op o.value.kind o.value.num.num o.value.num.den o.value.truth o.value.str o.value.list o.name o.args g h [] i j k l m)
   ((ext k [(zz3.mk g h [])]).bind λr=>
   (ix r (k.length:Int)).bind λq=>
   z7x n (IntKind.i64.wrap (e+1)) c d j (r.set (Int.toNat (k.length:Int)) (zz3.mk q.name q.params i)) l m)
def z7u:Nat->Int->yzu->z0q->zz5->Int->Int->Int->Int->Int->Int->Int->Int->Int->Int->Bool->B8->z4f->B8->kz5->B8->(List B8)->yzu->z0q->kz6->zz5->kz6->zz5->Ot (kz6×zz5)
 |0,_,_,_,_,_,_,_,_,_,_,_,_,_,_,_,_,_,_,_,_,_,_,_,_,_,_,_=>none
 |n+1,a,b,c,d,e,f,g,h,i,j,k,l,m,o,p,q,r,s,t,u,v,w,z,E,D,C,B=>
  pIf (decide (a<i))
   ((ix b a).bind λx=>
   (z5m n x.args).bind λF=>
   z7k n 0 x.items b c d e f g h i a (x.items.length:Int) x.kind x.axis x.name F j k l m o p q r s t u v [] w z E D C B)
   ((ext z [(zz4.mk j (yz1.mk k (zz1.mk l (kz4.mk m o) p q r) s t) [])]).bind λA=>
   (ix A (z.length:Int)).bind λy=>
   z77 n (IntKind.i64.wrap (h+1)) c d e f g u v (A.set (Int.toNat (z.length:Int)) (zz4.mk y.weight y.when_.re w)) E D C B)
def z7k:Nat->Int->zdu->yzu->z0q->zz5->Int->Int->Int->Int->Int->Int->Int->Int->Int->B8->kz5->Int->Int->Int->Int->Int->Bool->B8->z4f->B8->kz5->B8->(List B8)->zdu->yzu->z0q->kz6->zz5->kz6->zz5->Ot (kz6×zz5)
 |0,_,_,_,_,_,_,_,_,_,_,_,_,_,_,_,_,_,_,_,_,_,_,_,_,_,_,_,_,_,_,_,_,_,_,_=>none
 |n+1,a,b,c,d,e,f,g,h,i,j,k,l,m,o,p,q,r,s,t,u,v,w,z,N,M,L,K,J,I,y,G,F,E,D,C=>
  pIf (decide (a<l))
   ((ix b a).bind λA=>
   (z5m n A.args).bind λO=>
   (ext I [(zz7.mk A.kind A.name O)]).bind λQ=>
   z7k n (IntKind.i64.wrap (a+1)) b c d e f g h i j k l m o p q r s t u v w z N M L K J Q y G F E D C)
   ((ext y [(kz2.mk m o p q [])]).bind λB=>
   (ix B (y.length:Int)).bind λx=>
   z7u n (IntKind.i64.wrap (k+1)) c d e f g h i j r s t u v w z N M L K J (B.set (Int.toNat (y.length:Int)) (kz2.mk x.kind x.axis x.name x.args I)) G F E D C)
end
def ymp:LSh:=⟨[(2,(.ptr 0 0))],[(.cells [(.own 1),(.own 2)]),(.acc 83 (.st 3) true),(.deep 34 7)],0,118,[]⟩
def zvj:FI dat:=FI.of dat 21 118 0 [dT 8] [] [(.agg [(.own 1),(.own 2)])] [(.cells [(.own 1),(.own 2)]),(.acc 83 (.st 3) true),(.deep 34 7)] false ymp (R:=kz6×zz5) (λx=>(x.1,x.2.1)) (λr=>(r.1,r.2,())) (λn=>u1 (za3 n))
 (λn=>[(0,⟨⟨[(20,dI),(3,(.ptr 0 0)),(18,dL 3),(2,(.ptr 1 0)),(1,(.ptr 2 0)),(19,dI)],[(.cells [(.own 3),(.own 4)]),(.cells [(.own 5),(.own 6)]),(.st 8),(.acc 83 (.st 3) true),(.deep 34 7),(.acc 83 (.st 3) true),(.deep 34 7)],0,118,[]⟩,u8 (z7d n)⟩),(1,⟨⟨[(39,dI),(3,(.ptr 0 0)),(37,dL 7),(2,(.ptr 1 0)),(38,dI)],[(.cells [(.own 2),(.own 3)]),(.cells [(.own 4),(.own 5)]),(.acc 83 (.st 3) true),(.deep 34 7),(.acc 83 (.st 3) true),(.deep 34 7)],0,118,[]⟩,u7 (z7x n)⟩),(2,⟨⟨[(52,dI),(8,(.ptr 0 0)),(50,dL 6),(3,(.ptr 1 0)),(37,dL 7),(2,(.ptr 2 0)),(38,dI),(39,dI),(51,dI)],[(.cells [dS,dA,(.own 3)]),(.cells [(.own 4),(.own 5)]),(.cells [(.own 6),(.own 7)]),(.deep 64 6),(.acc 83 (.st 3) true),(.deep 34 7),(.acc 83 (.st 3) true),(.deep 34 7)],0,118,[]⟩,λx=>z77 n x.1 x.2.1 x.2.2.1 x.2.2.2.1 x.2.2.2.2.1 x.2.2.2.2.2.1 x.2.2.2.2.2.2.1 x.2.2.2.2.2.2.2.1 x.2.2.2.2.2.2.2.2.1 x.2.2.2.2.2.2.2.2.2.1 x.2.2.2.2.2.2.2.2.2.2.1 x.2.2.2.2.2.2.2.2.2.2.2.1 x.2.2.2.2.2.2.2.2.2.2.2.2.1⟩),(3,⟨⟨[(65,dI),(11,(.ptr 0 0)),(63,dL 5),(8,(.ptr 1 0)),(50,dL 6),(3,(.ptr 2 0)),(37,dL 7),(2,(.ptr 3 0)),(38,dI),(39,dI),(51,dI),(52,dI),(64,dI)],[(.cells [dI,dU,dU,dI,dI,dB,dS,dL 1,dS,dL 2,(.own 4)]),(.cells [dS,dA,(.own 5)]),(.cells [(.own 6),(.own 7)]),(.cells [(.own 8),(.own 9)]),(.deep 71 5),(.deep 64 6),(.acc 83 (.st 3) true),(.deep 34 7),(.acc 83 (.st 3) true),(.deep 34 7)],0,118,[]⟩,λx=>z7u n x.1 x.2.1 x.2.2.1 x.2.2.2.1 x.2.2.2.2.1 x.2.2.2.2.2.1 x.2.2.2.2.2.2.1 x.2.2.2.2.2.2.2.1 x.2.2.2.2.2.2.2.2.1 x.2.2.2.2.2.2.2.2.2.1 x.2.2.2.2.2.2.2.2.2.2.1 x.2.2.2.2.2.2.2.2.2.2.2.1 x.2.2.2.2.2.2.2.2.2.2.2.2.1 x.2.2.2.2.2.2.2.2.2.2.2.2.2.1 x.2.2.2.2.2.2.2.2.2.2.2.2.2.2.1 x.2.2.2.2.2.2.2.2.2.2.2.2.2.2.2.1 x.2.2.2.2.2.2.2.2.2.2.2.2.2.2.2.2.1 x.2.2.2.2.2.2.2.2.2.2.2.2.2.2.2.2.2.1 x.2.2.2.2.2.2.2.2.2.2.2.2.2.2.2.2.2.2.1 x.2.2.2.2.2.2.2.2.2.2.2.2.2.2.2.2.2.2.2.1 x.2.2.2.2.2.2.2.2.2.2.2.2.2.2.2.2.2.2.2.2.1 x.2.2.2.2.2.2.2.2.2.2.2.2.2.2.2.2.2.2.2.2.2.1 x.2.2.2.2.2.2.2.2.2.2.2.2.2.2.2.2.2.2.2.2.2.2.1 x.2.2.2.2.2.2.2.2.2.2.2.2.2.2.2.2.2.2.2.2.2.2.2.1 x.2.2.2.2.2.2.2.2.2.2.2.2.2.2.2.2.2.2.2.2.2.2.2.2.1 x.2.2.2.2.2.2.2.2.2.2.2.2.2.2.2.2.2.2.2.2.2.2.2.2.2.1 x.2.2.2.2.2.2.2.2.2.2.2.2.2.2.2.2.2.2.2.2.2.2.2.2.2.2.1⟩),(4,⟨⟨[(78,dI),(14,(.ptr 0 0)),(76,dL 4),(11,(.ptr 1 0)),(63,dL 5),(8,(.ptr 2 0)),(50,dL 6),(3,(.ptr 3 0)),(37,dL 7),(2,(.ptr 4 0)),(38,dI),(39,dI),(51,dI),(52,dI),(64,dI),(65,dI),(77,dI)],[(.cells [dU,dU,dS,dL 2,(.own 5)]),(.cells [dI,dU,dU,dI,dI,dB,dS,dL 1,dS,dL 2,(.own 6)]),(.cells [dS,dA,(.own 7)]),(.cells [(.own 8),(.own 9)]),(.cells [(.own 10),(.own 11)]),(.acc 106 (.st 4) true),(.deep 71 5),(.deep 64 6),(.acc 83 (.st 3) true),(.deep 34 7),(.acc 83 (.st 3) true),(.deep 34 7)],0,118,[]⟩,λx=>z7k n x.1 x.2.1 x.2.2.1 x.2.2.2.1 x.2.2.2.2.1 x.2.2.2.2.2.1 x.2.2.2.2.2.2.1 x.2.2.2.2.2.2.2.1 x.2.2.2.2.2.2.2.2.1 x.2.2.2.2.2.2.2.2.2.1 x.2.2.2.2.2.2.2.2.2.2.1 x.2.2.2.2.2.2.2.2.2.2.2.1 x.2.2.2.2.2.2.2.2.2.2.2.2.1 x.2.2.2.2.2.2.2.2.2.2.2.2.2.1 x.2.2.2.2.2.2.2.2.2.2.2.2.2.2.1 x.2.2.2.2.2.2.2.2.2.2.2.2.2.2.2.1 x.2.2.2.2.2.2.2.2.2.2.2.2.2.2.2.2.1 x.2.2.2.2.2.2.2.2.2.2.2.2.2.2.2.2.2.1 x.2.2.2.2.2.2.2.2.2.2.2.2.2.2.2.2.2.2.1 x.2.2.2.2.2.2.2.2.2.2.2.2.2.2.2.2.2.2.2.1 x.2.2.2.2.2.2.2.2.2.2.2.2.2.2.2.2.2.2.2.2.1 x.2.2.2.2.2.2.2.2.2.2.2.2.2.2.2.2.2.2.2.2.2.1 x.2.2.2.2.2.2.2.2.2.2.2.2.2.2.2.2.2.2.2.2.2.2.1 x.2.2.2.2.2.2.2.2.2.2.2.2.2.2.2.2.2.2.2.2.2.2.2.1 x.2.2.2.2.2.2.2.2.2.2.2.2.2.2.2.2.2.2.2.2.2.2.2.2.1 x.2.2.2.2.2.2.2.2.2.2.2.2.2.2.2.2.2.2.2.2.2.2.2.2.2.1 x.2.2.2.2.2.2.2.2.2.2.2.2.2.2.2.2.2.2.2.2.2.2.2.2.2.2.1 x.2.2.2.2.2.2.2.2.2.2.2.2.2.2.2.2.2.2.2.2.2.2.2.2.2.2.2.1 x.2.2.2.2.2.2.2.2.2.2.2.2.2.2.2.2.2.2.2.2.2.2.2.2.2.2.2.2.1 x.2.2.2.2.2.2.2.2.2.2.2.2.2.2.2.2.2.2.2.2.2.2.2.2.2.2.2.2.2.1 x.2.2.2.2.2.2.2.2.2.2.2.2.2.2.2.2.2.2.2.2.2.2.2.2.2.2.2.2.2.2.1 x.2.2.2.2.2.2.2.2.2.2.2.2.2.2.2.2.2.2.2.2.2.2.2.2.2.2.2.2.2.2.2.1 x.2.2.2.2.2.2.2.2.2.2.2.2.2.2.2.2.2.2.2.2.2.2.2.2.2.2.2.2.2.2.2.2.1 x.2.2.2.2.2.2.2.2.2.2.2.2.2.2.2.2.2.2.2.2.2.2.2.2.2.2.2.2.2.2.2.2.2.1 x.2.2.2.2.2.2.2.2.2.2.2.2.2.2.2.2.2.2.2.2.2.2.2.2.2.2.2.2.2.2.2.2.2.2.1⟩)]) (anb [(8,0),(25,1),(42,2),(59,3),(78,4)] f21)
def y1b:FOk prog zvj:=okF (bs:=[zp7,ze9,zsh]) ⟨zut,zlz,y3y,trivial⟩ func21 ntmps21 call21
 (λ_ _=>tr (za3.eq_2 ..))
 (λn=>⟨λ_=>tr (z7d.eq_2 ..),
  λ_=>tr (z7x.eq_2 ..),
  λ_=>tr (z77.eq_2 ..),
  λ_=>tr (z7u.eq_2 ..),
  λ_=>tr (z7k.eq_2 ..),
  trivial⟩)
def zef:Nat->zz3->Ot Bool
 |0,_=>none
 |n+1,a=>
  pIf (a.name==[])
   (pIf ((a.params.length:Int)==0)
     (some ((a.cases.length:Int)==0))
     (some false))
   (some false)
def yks:LSh:=⟨[(2,dB)],[],0,18,[]⟩
def y57:FI dat:=FI.of dat 52 18 0 [dT 7] [] [dB] [] true yks (R:=Bool) Prod.fst (·,()) (λn=>u1 (zef n))
 (λn=>[]) (anb [] f52)
def yij:FOk prog y57:=okF (bs:=[]) trivial func52 ntmps52 call52
 (λn=>λ_=>tr (zef.eq_2 _ n))
 (λn=>trivial)
mutual
def z3k:Nat->yz1->yz1->Ot Bool
 |0,_,_=>none
 |n+1,a,b=>
  pIf (a.op==b.op)
   (pIf (a.name==b.name)
     ((z3c n a.value.re b.value.re).bind λe=>
     pIf e
      ((zz9 n a.args b.args).bind λd=>
      some d)
      (some false))
     (some false))
   (some false)
def zz9:Nat->kz5->kz5->Ot Bool
 |0,_,_=>none
 |n+1,a,b=>
  pIf ((a.length:Int) != (b.length:Int))
   (some false)
   (kz7 n 0 b a (a.length:Int))
def kz7:Nat->Int->kz5->kz5->Int->Ot Bool
 |0,_,_,_,_=>none
 |n+1,a,b,c,d=>
  pIf (decide (a<d))
   ((ix c a).bind λh=>
   (ix b a).bind λg=>
   (z3k n h.re g.re).bind λe=>
   pIf (!e)
    (some false)
    (kz7 n (IntKind.i64.wrap (a+1)) b c d))
   (some true)
end
def ypa:LSh:=⟨[(4,dB)],[],0,31,[]⟩
def zbj:FI dat:=FI.of dat 53 31 0 [dT 2,dT 2] [] [dB] [] true ypa (R:=Bool) Prod.fst (·,()) (λn=>u2 (z3k n))
 (λn=>[]) (anb [] f53)
def z9i:LSh:=⟨[(6,dB)],[],0,32,[]⟩
def yz9:FI dat:=FI.of dat 101 32 0 [dL 2,dL 2,(.fn 53 [] [])] [] [dB] [] true z9i (R:=Bool) Prod.fst (·,()) (λn=>u2 (zz9 n))
 (λn=>[(0,⟨⟨[(17,dI),(2,(.fn 53 [] [])),(1,dL 2),(15,dL 2),(16,dI)],[],0,32,[]⟩,u4 (kz7 n)⟩)]) (anb [(14,0)] f101)
def y89:List (FI dat):=[zbj,yz9]++[zbk]
def yri:(zbj).Good prog dat (tb y89):=FI.z3l (hD:=zzf _) func53 ntmps53 call53 (by kernel_rfl) (Qac (by kernel_rfl)) (by kernel_rfl) (λn=>by kernel_rfl) (λx=>by kernel_rfl) (λ_=>rfl) trivial
 (λ_ _=>tr (z3k.eq_2 ..))
 (λn=>trivial)
 (λx=>.inl rfl)
def z9g:(yz9).Good prog dat (tb y89):=FI.z3l (hD:=zzf _) func101 ntmps101 call101 (by kernel_rfl) (Qac (by kernel_rfl)) (by kernel_rfl) (λn=>by kernel_rfl) (λx=>by kernel_rfl) (λ_=>rfl) ⟨λ_=>rfl,trivial⟩
 (λ_ _=>tr (zz9.eq_2 ..))
 (λn=>⟨λ_=>tr (kz7.eq_2 ..),
  trivial⟩)
 (λx=>.inl rfl)
def y7y:OkL prog [zbj,yz9]:=z8x (zzf _) (bs:=[zbk]) ⟨y1h,trivial⟩ ⟨yri,z9g,trivial⟩
def zn6:FOk prog zbj:=y7y.1
def z8u:FOk prog yz9:=y7y.2.1
mutual
def zcy:Nat->yzh->Ot Bool
 |0,_=>none
 |n+1,a=>
  (zef n a.rule_).bind λd=>
  (z3k n a.value.re (yz1.mk 0 (zz1.mk 0 (kz4.mk 0 0) false [] []) [] [])).bind λb=>
  pIf (a.kind==1)
   (z1k n (!b) (!d) a.kind true a.re)
   (z1k n (!b) (!d) a.kind (a.kind==3) a.re)
def z1k:Nat->Bool->Bool->Int->Bool->yzh->Ot Bool
 |0,_,_,_,_,_=>none
 |n+1,a,b,c,d,e=>
  pIf d
   (pIf (e.name==[])
     (pIf (e.to_==[])
       (some (!a))
       (some false))
     (some false))
   (pIf (c==2)
     (pIf (e.to_==[])
       (pIf (!b)
         (some (!a))
         (some false))
       (some false))
     (pIf (c==4)
       (pIf (!b)
         (some (!a))
         (some false))
       (pIf (c==5)
         (pIf (e.to_==[])
           (some (!b))
           (some false))
         (some false))))
end
def ygj:LSh:=⟨[(2,dB)],[],0,61,[]⟩
def y1x:FI dat:=FI.of dat 22 61 0 [dT 9] [] [dB] [] true ygj (R:=Bool) Prod.fst (·,()) (λn=>u1 (zcy n))
 (λn=>[(0,⟨⟨[(4,dB),(1,(.ptr 0 0)),(3,dB),(15,dU),(16,dB)],[(.st 9)],0,61,[]⟩,u5 (z1k n)⟩)]) (anb [(14,0)] f22)
def yeg:FOk prog y1x:=okF (bs:=[y57,zbj]) ⟨yij,zn6,trivial⟩ func22 ntmps22 call22
 (λ_ _=>tr (zcy.eq_2 ..))
 (λn=>⟨λ_=>tr (z1k.eq_2 _ _ _ _ _ n),
  trivial⟩)
def zcr:Nat->zz3->B8->Ot (Bool×B8)
 |0,_,_=>none
 |n+1,a,b=>
  some ((a.name==b),b)
def yhc:LSh:=⟨[(3,dB)],[(.cells [dS])],1,8,[]⟩
def y1g:FI dat:=FI.of dat 103 8 1 [dT 7,(.ptr 0 0)] [(.cells [dS])] [dB] [(.cells [dS])] false yhc (R:=Bool×B8) (λx=>(x.1,x.2.1)) (λr=>(r.1,r.2,())) (λn=>u2 (zcr n))
 (λn=>[]) (anb [] f103)
def ybo:FOk prog y1g:=okF (bs:=[]) trivial func103 ntmps103 call103
 (λn=>λ_=>tr (zcr.eq_2 _ _ n))
 (λn=>trivial)
mutual
def yzi:Nat->zz5->B8->Ot (Int×B8)
 |0,_,_=>none
 |n+1,a,b=>
  kz9 n 0 a (a.length:Int) b
def kz9:Nat->Int->zz5->Int->B8->Ot (Int×B8)
 |0,_,_,_,_=>none
 |n+1,a,b,c,d=>
  pIf (decide (a<c))
   ((ix b a).bind λg=>
   (zcr n g d).bind λe=>
   pIf e.1
    (some (a,e.2))
    (kz9 n (IntKind.i64.wrap (a+1)) b c e.2))
   (some ((-1),d))
end
def zhe:LSh:=⟨[(4,dI)],[(.cells [dS])],1,19,[]⟩
def z9t:FI dat:=FI.of dat 102 19 1 [dL 7,(.fn 103 [] [(.ptr 0 0)])] [(.cells [dS])] [dI] [(.cells [dS])] false zhe (R:=Int×B8) (λx=>(x.1,x.2.1)) (λr=>(r.1,r.2,())) (λn=>u2 (yzi n))
 (λn=>[(0,⟨⟨[(8,dI),(0,dL 7),(1,(.fn 103 [] [(.ptr 0 0)])),(7,dI)],[(.cells [dS])],1,19,[]⟩,u4 (kz9 n)⟩)]) (anb [(6,0)] f102)
def zgk:FOk prog z9t:=okF (bs:=[y1g]) ⟨ybo,trivial⟩ func102 ntmps102 call102
 (λ_ _=>tr (yzi.eq_2 ..))
 (λn=>⟨λ_=>tr (kz9.eq_2 ..),
  trivial⟩)
def z8c:Nat->zz0->B8->Ot Int
 |0,_,_=>none
 |n+1,a,b=>
  (yzi n a.rules b).bind λd=>
  some d.1
def ys4:LSh:=⟨[(4,dI)],[],0,9,[]⟩
def zq2:FI dat:=FI.of dat 54 9 0 [dT 8,dS] [] [dI] [] true ys4 (R:=Int) Prod.fst (·,()) (λn=>u2 (z8c n))
 (λn=>[]) (anb [] f54)
def y56:FOk prog zq2:=okF (bs:=[z9t]) ⟨zgk,trivial⟩ func54 ntmps54 call54
 (λ_ _=>tr (z8c.eq_2 ..))
 (λn=>trivial)
def zco:Nat->yz7->B8->Ot (Bool×B8)
 |0,_,_=>none
 |n+1,a,b=>
  some ((a.name==b),b)
def yhj:LSh:=⟨[(3,dB)],[(.cells [dS])],1,8,[]⟩
def y1p:FI dat:=FI.of dat 56 8 1 [dT 3,(.ptr 0 0)] [(.cells [dS])] [dB] [(.cells [dS])] false yhj (R:=Bool×B8) (λx=>(x.1,x.2.1)) (λr=>(r.1,r.2,())) (λn=>u2 (zco n))
 (λn=>[]) (anb [] f56)
def ybt:FOk prog y1p:=okF (bs:=[]) trivial func56 ntmps56 call56
 (λn=>λ_=>tr (zco.eq_2 _ _ n))
 (λn=>trivial)
mutual
def zzi:Nat->B8->kz6->Ot (Int×B8×kz6)
 |0,_,_=>none
 |n+1,a,b=>
  yza n 0 (b.length:Int) a b
def yza:Nat->Int->Int->B8->kz6->Ot (Int×B8×kz6)
 |0,_,_,_,_=>none
 |n+1,a,b,c,d=>
  pIf (decide (a<b))
   ((ix d a).bind λg=>
   (zco n g.re c).bind λe=>
   pIf e.1
    (some (a,e.2,d))
    (yza n (IntKind.i64.wrap (a+1)) b e.2 d))
   (some ((-1),c,d))
end
def zhc:LSh:=⟨[(4,dI)],[(.cells [dS]),(.acc 83 (.st 3) true)],2,19,[]⟩
def z9u:FI dat:=FI.of dat 55 19 2 [(.own 1),(.fn 56 [] [(.ptr 0 0)])] [(.cells [dS]),(.acc 83 (.st 3) true)] [dI] [(.cells [dS]),(.acc 83 (.st 3) true)] false zhc (R:=Int×B8×kz6) (λx=>(x.1,x.2.1,x.2.2.1)) (λr=>(r.1,r.2.1,r.2.2,())) (λn=>u2 (zzi n))
 (λn=>[(0,⟨⟨[(8,dI),(0,(.own 1)),(1,(.fn 56 [] [(.ptr 0 0)])),(7,dI)],[(.cells [dS]),(.acc 83 (.st 3) true)],2,19,[]⟩,u4 (yza n)⟩)]) (anb [(6,0)] f55)
def zgt:FOk prog z9u:=okF (bs:=[y1p]) ⟨ybt,trivial⟩ func55 ntmps55 call55
 (λ_ _=>tr (zzi.eq_2 ..))
 (λn=>⟨λ_=>tr (yza.eq_2 ..),
  trivial⟩)
def zdr:Nat->zz3->Ot (B8×(List B8)×z0q)
 |0,_=>none
 |n+1,a=>
  (za3 n (zz0.mk [] [a])).bind λb=>
  (ix b.2 0).bind λg=>
  (ix b.2 0).bind λe=>
  (ix b.2 0).bind λd=>
  some (d.name,d.params,e.cases)
def yrm:LSh:=⟨[(2,(.ptr 0 0))],[(.cells [dS,dA,(.own 1)]),(.deep 64 6)],0,10,[]⟩
def y86:FI dat:=FI.of dat 57 10 0 [dT 7] [] [(.agg [dS,dA,(.own 1)])] [(.cells [dS,dA,(.own 1)]),(.deep 64 6)] false yrm (R:=B8×(List B8)×z0q) (λx=>(x.1,x.2.1,x.2.2.1)) (λr=>(r.1,r.2.1,r.1,r.2.1,r.2.2,())) (λn=>u1 (zdr n))
 (λn=>[]) (anb [] f57)
def ylc:FOk prog y86:=okF (bs:=[zvj]) ⟨y1b,trivial⟩ func57 ntmps57 call57
 (λ_ _=>tr (zdr.eq_2 ..))
 (λn=>trivial)
def zag:Nat->Int->B8->B8->zz5->Ot (B8×B8×zz5)
 |0,_,_,_,_=>none
 |n+1,a,b,c,d=>
  (ix d a).bind λg=>
  pIf (g.name==b)
   ((ix d a).bind λe=>
   some (b,c,(d.set (Int.toNat a) (zz3.mk c e.params e.cases))))
   (some (b,c,d))
def y9j:LSh:=⟨[],[(.cells [dS]),(.cells [dS]),(.deep 34 7)],2,12,[2]⟩
def zw6:FI dat:=FI.of dat 104 12 2 [(.dp 2 0),(.ptr 0 0),(.ptr 1 0)] [(.cells [dS]),(.cells [dS]),(.deep 34 7)] [] [(.cells [dS]),(.cells [dS]),(.deep 34 7)] false y9j (R:=B8×B8×zz5) (λx=>(x.1,x.2.1,x.2.2.1)) (λr=>(r.1,r.2.1,r.2.2,())) (λn=>u4 (zag n))
 (λn=>[]) (anb [] f104) [2]
def y5y:FOk prog zw6:=okF (bs:=[]) trivial func104 ntmps104 call104
 (λn=>λ_=>tr (zag.eq_2 _ _ _ _ n))
 (λn=>trivial)
def z6a:Nat->Int->B8->B8->yzu->Ot (B8×B8×yzu)
 |0,_,_,_,_=>none
 |n+1,a,b,c,d=>
  (ix d a).bind λg=>
  pIf (g.name==b)
   ((ix d a).bind λe=>
   some (b,c,(d.set (Int.toNat a) (kz2.mk e.kind e.axis c e.args e.items))))
   (some (b,c,d))
def y2i:LSh:=⟨[],[(.cells [dS]),(.cells [dS]),(.deep 71 5)],2,12,[2]⟩
def znz:FI dat:=FI.of dat 104 12 2 [(.dp 2 2),(.ptr 0 0),(.ptr 1 0)] [(.cells [dS]),(.cells [dS]),(.deep 71 5)] [] [(.cells [dS]),(.cells [dS]),(.deep 71 5)] false y2i (R:=B8×B8×yzu) (λx=>(x.1,x.2.1,x.2.2.1)) (λr=>(r.1,r.2.1,r.2.2,())) (λn=>u4 (z6a n))
 (λn=>[]) (anb [] f104) [2]
def y0i:FOk prog znz:=okF (bs:=[]) trivial func104 ntmps104 call104
 (λn=>λ_=>tr (z6a.eq_2 _ _ _ _ n))
 (λn=>trivial)
def z68:Nat->Int->zz7->B8->B8->zdu->Ot (B8×B8×zdu)
 |0,_,_,_,_,_=>none
 |n+1,a,b,c,d,e=>
  pIf (b.name==c)
   (some (c,d,(e.set (Int.toNat a) (zz7.mk b.kind d b.args))))
   (some (c,d,e))
def y3c:LSh:=⟨[],[(.cells [dS]),(.cells [dS]),(.acc 106 (.st 4) true)],2,12,[2]⟩
def znw:FI dat:=FI.of dat 104 12 2 [(.ap 2 (.st 4) 1),(.ptr 0 0),(.ptr 1 0)] [(.cells [dS]),(.cells [dS]),(.acc 106 (.st 4) true)] [] [(.cells [dS]),(.cells [dS]),(.acc 106 (.st 4) true)] false y3c (R:=B8×B8×zdu) (λx=>(x.1,x.2.1,x.2.2.1)) (λr=>(r.1,r.2.1,r.2.2,())) (λn=>u5 (z68 n))
 (λn=>[]) (anb [] f104) [2]
def y0c:FOk prog znw:=okF (bs:=[]) trivial func104 ntmps104 call104
 (λn=>λ_=>tr (z68.eq_2 _ _ _ _ _ n))
 (λn=>trivial)
mutual
def zam:Nat->B8->B8->kz6->zz5->Ot (kz6×zz5)
 |0,_,_,_,_=>none
 |n+1,a,b,c,d=>
  z5x n 0 (d.length:Int) a b c d
def z5x:Nat->Int->Int->B8->B8->kz6->zz5->Ot (kz6×zz5)
 |0,_,_,_,_,_,_=>none
 |n+1,a,b,c,d,e,f=>
  pIf (decide (a<b))
   ((ix f a).bind λk=>
   (zag n a c d f).bind λg=>
   (ix g.2.2 a).bind λj=>
   (ix g.2.2 a).bind λh=>
   (ix g.2.2 a).bind λi=>
   z4y n 0 b a (h.cases.length:Int) g.1 g.2.1 h.cases e g.2.2 a)
   (some (e,f))
def z4y:Nat->Int->Int->Int->Int->B8->B8->z0q->kz6->zz5->Int->Ot (kz6×zz5)
 |0,_,_,_,_,_,_,_,_,_,_=>none
 |n+1,a,b,c,d,e,f,g,h,i,j=>
  pIf (decide (a<d))
   ((ix g a).bind λo=>
   (ix g a).bind λm=>
   (ix g a).bind λk=>
   z54 n 0 b c d a (m.do_.length:Int) k.weight k.when_.op k.when_.value.kind k.when_.value.num.num k.when_.value.num.den k.when_.value.truth k.when_.value.str k.when_.value.list k.when_.name k.when_.args e f g a h i j m.do_)
   ((ix i j).bind λl=>
   z5x n (IntKind.i64.wrap (c+1)) b e f h (i.set (Int.toNat j) (zz3.mk l.name l.params g)))
def z54:Nat->Int->Int->Int->Int->Int->Int->Int->Int->Int->Int->Int->Bool->B8->z4f->B8->kz5->B8->B8->z0q->Int->kz6->zz5->Int->yzu->Ot (kz6×zz5)
 |0,_,_,_,_,_,_,_,_,_,_,_,_,_,_,_,_,_,_,_,_,_,_,_,_=>none
 |n+1,a,b,c,d,e,f,g,h,i,j,k,l,m,o,p,q,r,s,t,u,v,w,z,A=>
  pIf (decide (a<f))
   ((ix A a).bind λF=>
   (z6a n a r s A).bind λx=>
   (ix x.2.2 a).bind λE=>
   (ix x.2.2 a).bind λC=>
   (ix x.2.2 a).bind λD=>
   (ix x.2.2 a).bind λy=>
   z5z n 0 a b c d e f a (C.items.length:Int) g h i j k l m o p q x.1 x.2.1 t u v w z (x.2.2.set (Int.toNat a) (kz2.mk y.kind y.axis y.name y.args C.items)))
   ((ix t u).bind λB=>
   z4y n (IntKind.i64.wrap (e+1)) b c d r s (t.set (Int.toNat u) (zz4.mk B.weight B.when_.re A)) v w z)
def z5z:Nat->Int->Int->Int->Int->Int->Int->Int->Int->Int->Int->Int->Int->Int->Int->Bool->B8->z4f->B8->kz5->B8->B8->z0q->Int->kz6->zz5->Int->yzu->Ot (kz6×zz5)
 |0,_,_,_,_,_,_,_,_,_,_,_,_,_,_,_,_,_,_,_,_,_,_,_,_,_,_,_=>none
 |n+1,a,b,c,d,e,f,g,h,i,j,k,l,m,o,p,q,r,s,t,u,v,w,z,E,D,C,x=>
  pIf (decide (a<i))
   ((ix x b).bind λI=>
   (ix x b).bind λB=>
   (ix x b).bind λG=>
   (ix B.items a).bind λF=>
   (z68 n a F u v B.items).bind λA=>
   (ix x b).bind λy=>
   z5z n (IntKind.i64.wrap (a+1)) b c d e f g h i j k l m o p q r s t A.1 A.2.1 w z E D C (x.set (Int.toNat b) (kz2.mk y.kind y.axis y.name y.args A.2.2)))
   (z54 n (IntKind.i64.wrap (h+1)) c d e f g j k l m o p q r s t u v w z E D C x)
end
def yhk:LSh:=⟨[],[(.acc 83 (.st 3) true),(.deep 34 7)],0,75,[0,1]⟩
def y1k:FI dat:=FI.of dat 59 75 0 [(.agg [(.own 0),(.own 1)]),dS,dS] [(.acc 83 (.st 3) true),(.deep 34 7)] [] [(.acc 83 (.st 3) true),(.deep 34 7)] false yhk (R:=kz6×zz5) (λx=>(x.1,x.2.1)) (λr=>(r.1,r.2,())) (λn=>u4 (zam n))
 (λn=>[(0,⟨⟨[(6,(.fn 104 [] [(.ptr 0 0),(.ptr 1 0)])),(16,dI),(3,(.ptr 2 0)),(15,dI)],[(.cells [dS]),(.cells [dS]),(.cells [(.own 3),(.own 4)]),(.acc 83 (.st 3) true),(.deep 34 7)],0,75,[3,4]⟩,u6 (z5x n)⟩),(1,⟨⟨[(6,(.fn 104 [] [(.ptr 0 0),(.ptr 1 0)])),(33,dI),(31,(.own 2)),(3,(.ptr 3 0)),(15,dI),(16,dI),(32,dI)],[(.cells [dS]),(.cells [dS]),(.deep 64 6),(.cells [(.own 4),(.own 5)]),(.acc 83 (.st 3) true),(.deeph 34 7 2 2)],0,75,[4,5]⟩,u10 (z4y n)⟩),(2,⟨⟨[(9,(.ptr 0 0)),(6,(.fn 104 [] [(.ptr 1 0),(.ptr 2 0)])),(40,dI),(31,(.own 3)),(3,(.ptr 4 0)),(15,dI),(16,dI),(32,dI),(33,dI),(39,dI)],[(.cells [dI,dU,dU,dI,dI,dB,dS,dL 1,dS,dL 2,(.own 7)]),(.cells [dS]),(.cells [dS]),(.deeph 64 6 10 7),(.cells [(.own 5),(.own 6)]),(.acc 83 (.st 3) true),(.deeph 34 7 2 3),(.deep 71 5)],0,75,[5,6]⟩,λx=>z54 n x.1 x.2.1 x.2.2.1 x.2.2.2.1 x.2.2.2.2.1 x.2.2.2.2.2.1 x.2.2.2.2.2.2.1 x.2.2.2.2.2.2.2.1 x.2.2.2.2.2.2.2.2.1 x.2.2.2.2.2.2.2.2.2.1 x.2.2.2.2.2.2.2.2.2.2.1 x.2.2.2.2.2.2.2.2.2.2.2.1 x.2.2.2.2.2.2.2.2.2.2.2.2.1 x.2.2.2.2.2.2.2.2.2.2.2.2.2.1 x.2.2.2.2.2.2.2.2.2.2.2.2.2.2.1 x.2.2.2.2.2.2.2.2.2.2.2.2.2.2.2.1 x.2.2.2.2.2.2.2.2.2.2.2.2.2.2.2.2.1 x.2.2.2.2.2.2.2.2.2.2.2.2.2.2.2.2.2.1 x.2.2.2.2.2.2.2.2.2.2.2.2.2.2.2.2.2.2.1 x.2.2.2.2.2.2.2.2.2.2.2.2.2.2.2.2.2.2.2.1 x.2.2.2.2.2.2.2.2.2.2.2.2.2.2.2.2.2.2.2.2.1 x.2.2.2.2.2.2.2.2.2.2.2.2.2.2.2.2.2.2.2.2.2.1 x.2.2.2.2.2.2.2.2.2.2.2.2.2.2.2.2.2.2.2.2.2.2.1 x.2.2.2.2.2.2.2.2.2.2.2.2.2.2.2.2.2.2.2.2.2.2.2.1⟩),(3,⟨⟨[(57,dI),(10,dI),(9,(.ptr 0 0)),(6,(.fn 104 [] [(.ptr 1 0),(.ptr 2 0)])),(31,(.own 3)),(3,(.ptr 4 0)),(15,dI),(16,dI),(32,dI),(33,dI),(39,dI),(40,dI),(56,dI)],[(.cells [dI,dU,dU,dI,dI,dB,dS,dL 1,dS,dL 2,(.own 7)]),(.cells [dS]),(.cells [dS]),(.deeph 64 6 10 7),(.cells [(.own 5),(.own 6)]),(.acc 83 (.st 3) true),(.deeph 34 7 2 3),(.deep 71 5)],0,75,[5,6]⟩,λx=>z5z n x.1 x.2.1 x.2.2.1 x.2.2.2.1 x.2.2.2.2.1 x.2.2.2.2.2.1 x.2.2.2.2.2.2.1 x.2.2.2.2.2.2.2.1 x.2.2.2.2.2.2.2.2.1 x.2.2.2.2.2.2.2.2.2.1 x.2.2.2.2.2.2.2.2.2.2.1 x.2.2.2.2.2.2.2.2.2.2.2.1 x.2.2.2.2.2.2.2.2.2.2.2.2.1 x.2.2.2.2.2.2.2.2.2.2.2.2.2.1 x.2.2.2.2.2.2.2.2.2.2.2.2.2.2.1 x.2.2.2.2.2.2.2.2.2.2.2.2.2.2.2.1 x.2.2.2.2.2.2.2.2.2.2.2.2.2.2.2.2.1 x.2.2.2.2.2.2.2.2.2.2.2.2.2.2.2.2.2.1 x.2.2.2.2.2.2.2.2.2.2.2.2.2.2.2.2.2.2.1 x.2.2.2.2.2.2.2.2.2.2.2.2.2.2.2.2.2.2.2.1 x.2.2.2.2.2.2.2.2.2.2.2.2.2.2.2.2.2.2.2.2.1 x.2.2.2.2.2.2.2.2.2.2.2.2.2.2.2.2.2.2.2.2.2.1 x.2.2.2.2.2.2.2.2.2.2.2.2.2.2.2.2.2.2.2.2.2.2.1 x.2.2.2.2.2.2.2.2.2.2.2.2.2.2.2.2.2.2.2.2.2.2.2.1 x.2.2.2.2.2.2.2.2.2.2.2.2.2.2.2.2.2.2.2.2.2.2.2.2.1 x.2.2.2.2.2.2.2.2.2.2.2.2.2.2.2.2.2.2.2.2.2.2.2.2.2.1 x.2.2.2.2.2.2.2.2.2.2.2.2.2.2.2.2.2.2.2.2.2.2.2.2.2.2.1⟩)]) (anb [(7,0),(23,1),(37,2),(53,3)] f59) [0,1]
def ycz:FOk prog y1k:=okF (bs:=[zw6,znz,znw]) ⟨y5y,y0i,y0c,trivial⟩ func59 ntmps59 call59
 (λ_ _=>tr (zam.eq_2 ..))
 (λn=>⟨λ_=>tr (z5x.eq_2 ..),
  λ_=>tr (z4y.eq_2 ..),
  λ_=>tr (z54.eq_2 ..),
  λ_=>tr (z5z.eq_2 ..),
  trivial⟩)
mutual
def zdv:Nat->yzh->kz6->zz5->Ot (Int×kz6×zz5)
 |0,_,_,_=>none
 |n+1,a,b,c=>
  pIf (a.kind==1)
   (z9d n true b c a.re a.name)
   (z9d n (a.kind==3) b c a.re a.name)
def z9d:Nat->Bool->kz6->zz5->yzh->B8->Ot (Int×kz6×zz5)
 |0,_,_,_,_,_=>none
 |n+1,a,b,c,d,e=>
  pIf a
   (z9m n b c d.re d.rule_.name)
   (z9m n b c d.re e)
def z9m:Nat->kz6->zz5->yzh->B8->Ot (Int×kz6×zz5)
 |0,_,_,_,_=>none
 |n+1,a,b,c,d=>
  (z8c n (zz0.mk a b) d).bind λg=>
  pIf (c.kind==5)
   ((zzi n d a).bind λe=>
   z6d n e.1 e.2.2 b c.re)
   (z6d n g a b c.re)
def z6d:Nat->Int->kz6->zz5->yzh->Ot (Int×kz6×zz5)
 |0,_,_,_,_=>none
 |n+1,a,b,c,d=>
  pIf (decide (a<0))
   (z9n n a (d.kind != 1) b c d.re)
   (z9n n a false b c d.re)
def z9n:Nat->Int->Bool->kz6->zz5->yzh->Ot (Int×kz6×zz5)
 |0,_,_,_,_,_=>none
 |n+1,a,b,c,d,e=>
  pIf b
   (some (6,c,d))
   (pIf (e.kind==1)
     (pIf (decide (a>=0))
       (some (14,c,d))
       ((zdr n e.rule_).bind λi=>
       (ext d [(zz3.mk i.1 i.2.1 [])]).bind λp=>
       (ix p (d.length:Int)).bind λo=>
       z2f n c (p.set (Int.toNat (d.length:Int)) (zz3.mk o.name o.params i.2.2))))
     (pIf (e.kind==2)
       ((z3q n a (IntKind.i64.wrap (a+1)) d).bind λq=>
       z2f n c q)
       (pIf (e.kind==3)
         ((zdr n e.rule_).bind λg=>
         (ix d a).bind λs=>
         (ix d a).bind λr=>
         (ix (d.set (Int.toNat a) (zz3.mk g.1 g.2.1 [])) a).bind λm=>
         z2f n c ((d.set (Int.toNat a) (zz3.mk g.1 g.2.1 [])).set (Int.toNat a) (zz3.mk m.name m.params g.2.2)))
         (pIf (e.kind==4)
           ((z8c n (zz0.mk c d) e.to_).bind λk=>
           pIf (decide (k>=0))
            (some (14,c,d))
            ((zam n e.name e.to_ c d).bind λh=>
            z2f n h.1 h.2))
           ((z9x n e.value.re).bind λj=>
           (ix c a).bind λl=>
           z2f n (c.set (Int.toNat a) (yz7.mk l.name j.re)) d)))))
def z2f:Nat->kz6->zz5->Ot (Int×kz6×zz5)
 |0,_,_=>none
 |n+1,a,b=>
  some (0,a,b)
end
def yrl:LSh:=⟨[(4,dI)],[(.cells [(.own 1),(.own 2)]),(.acc 83 (.st 3) true),(.deep 34 7)],1,110,[]⟩
def y88:FI dat:=FI.of dat 23 110 1 [(.ptr 0 0),dT 9] [(.cells [(.own 1),(.own 2)]),(.acc 83 (.st 3) true),(.deep 34 7)] [dI] [(.cells [(.own 1),(.own 2)]),(.acc 83 (.st 3) true),(.deep 34 7)] false yrl (R:=Int×kz6×zz5) (λx=>(x.1,x.2.1,x.2.2.1)) (λr=>(r.1,r.2.1,r.2.2,())) (λn=>u3 (zdv n))
 (λn=>[(0,⟨⟨[(3,(.ptr 3 0)),(0,(.ptr 0 0)),(5,(.ptr 4 0)),(16,dB)],[(.cells [(.own 1),(.own 2)]),(.acc 83 (.st 3) true),(.deep 34 7),(.st 9),(.cells [dS])],1,110,[]⟩,u5 (z9d n)⟩),(1,⟨⟨[(3,(.ptr 3 0)),(0,(.ptr 0 0)),(5,(.ptr 4 0))],[(.cells [(.own 1),(.own 2)]),(.acc 83 (.st 3) true),(.deep 34 7),(.st 9),(.cells [dS])],1,110,[]⟩,u4 (z9m n)⟩),(2,⟨⟨[(3,(.ptr 3 0)),(0,(.ptr 0 0)),(6,dI)],[(.cells [(.own 1),(.own 2)]),(.acc 83 (.st 3) true),(.deep 34 7),(.st 9)],1,110,[]⟩,u4 (z6d n)⟩),(3,⟨⟨[(3,(.ptr 3 0)),(0,(.ptr 0 0)),(6,dI),(40,dB)],[(.cells [(.own 1),(.own 2)]),(.acc 83 (.st 3) true),(.deep 34 7),(.st 9)],1,110,[]⟩,u5 (z9n n)⟩),(4,⟨⟨[],[(.cells [(.own 1),(.own 2)]),(.acc 83 (.st 3) true),(.deep 34 7)],1,110,[]⟩,u2 (z2f n)⟩)]) (anb [(7,0),(10,1),(18,2),(21,3),(63,4)] f23)
def ym9:FOk prog y88:=okF (bs:=[z9u,y86,zay,y1k,zq2,zp7]) ⟨zgt,ylc,zid,ycz,y56,zut,trivial⟩ func23 ntmps23 call23
 (λ_ _=>tr (zdv.eq_2 ..))
 (λn=>⟨λ_=>tr (z9d.eq_2 ..),
  λ_=>tr (z9m.eq_2 ..),
  λ_=>tr (z6d.eq_2 ..),
  λ_=>tr (z9n.eq_2 ..),
  λ_=>tr (z2f.eq_2 _ _ n),
  trivial⟩)
mutual
def z89:Nat->zz0->zv8->Ot (Int×zz0)
 |0,_,_=>none
 |n+1,a,b=>
  (z0t n a).bind λe=>
  pIf (e != 0)
   (some (e,(zz0.mk [] [])))
   (pIf (decide ((b.length:Int)>40))
     (some (4,(zz0.mk [] [])))
     ((za3 n a).bind λd=>
     z7m n 0 b (b.length:Int) (zz0.mk [] []) d.1 d.2))
def z7m:Nat->Int->zv8->Int->zz0->kz6->zz5->Ot (Int×zz0)
 |0,_,_,_,_,_,_=>none
 |n+1,a,b,c,d,e,f=>
  pIf (decide (a<c))
   ((ix b a).bind λi=>
   (zcy n i.re).bind λj=>
   pIf (!j)
    (some (8,(zz0.mk [] [])))
    ((zdv n i.re e f).bind λg=>
    pIf (g.1 != 0)
     (some (g.1,(zz0.mk [] [])))
     (z7m n (IntKind.i64.wrap (a+1)) b c d g.2.1 g.2.2)))
   ((z0t n (zz0.mk e f)).bind λh=>
   pIf (h != 0)
    (some (h,(zz0.mk [] [])))
    (some (0,(zz0.mk e f))))
end
def ym2:LSh:=⟨[(4,(.ptr 0 0)),(5,dI)],[(.st 8)],0,48,[]⟩
def zji:FI dat:=FI.of dat 7 48 0 [dT 8,dL 9] [] [dT 8,dI] [] true ym2 (R:=Int×zz0) (λx=>(x.1,x.2.1)) (λr=>(r.2,r.1,())) (λn=>u2 (z89 n))
 (λn=>[(0,⟨⟨[(4,(.ptr 0 0)),(26,dI),(7,(.ptr 1 0)),(24,dL 9),(25,dI)],[(.st 8),(.cells [(.own 2),(.own 3)]),(.acc 83 (.st 3) true),(.deep 34 7)],0,48,[]⟩,u6 (z7m n)⟩)]) (anb [(26,0)] f7)
def y1z:FOk prog zji:=okF (bs:=[zvj,y88,zer,y1x]) ⟨y1b,ym9,zka,yeg,trivial⟩ func7 ntmps7 call7
 (λn=>λ_=>tr (z89.eq_2 _ _ n))
 (λn=>⟨λ_=>tr (z7m.eq_2 _ _ _ _ _ _ n),
  trivial⟩)
def zft:Nat->Int->Ot Bool
 |0,_=>none
 |n+1,a=>
  pIf (decide (a<32))
   (some true)
   (some (decide (a>126)))
def y0f:LSh:=⟨[(2,dB)],[],0,9,[]⟩
def zmo:FI dat:=FI.of dat 106 9 0 [(.d (.int .i32))] [] [dB] [] true y0f (R:=Bool) Prod.fst (·,()) (λn=>u1 (zft n))
 (λn=>[]) (anb [] f106)
def zxo:FOk prog zmo:=okF (bs:=[]) trivial func106 ntmps106 call106
 (λn=>λ_=>tr (zft.eq_2 _ n))
 (λn=>trivial)
mutual
def zfw:Nat->B8->Bool->Ot Int
 |0,_,_=>none
 |n+1,a,b=>
  z8z n b a 0
def z8z:Nat->Bool->B8->Nat->Ot Int
 |0,_,_,_=>none
 |n+1,a,b,c=>
  pIf (decide (c<b.length))
   ((zft n ((zho b c).1:Int)).bind λd=>
   pIf (d==a)
    (some (c:Int))
    (z8z n a b (c+(zho b c).2)))
   (some (-1))
end
def y0b:LSh:=⟨[(6,dI)],[],0,21,[]⟩
def zms:FI dat:=FI.of dat 151 21 0 [dS,(.fn 106 [] []),dB] [] [dI] [] true y0b (R:=Int) Prod.fst (·,()) (λn=>u2 (zfw n))
 (λn=>[(0,⟨⟨[(2,dB),(1,(.fn 106 [] [])),(10,(.ptr 0 0))],[.siter],0,21,[]⟩,u3 (z8z n)⟩)]) (anb [(6,0)] f151)
def zxu:FOk prog zms:=okF (bs:=[zmo]) ⟨zxo,trivial⟩ func151 ntmps151 call151
 (λ_ _=>tr (zfw.eq_2 ..))
 (λn=>⟨λ_=>tr (z8z.eq_2 ..),
  trivial⟩)
def zgd:Nat->B8->Ot Int
 |0,_=>none
 |n+1,a=>
  (zfw n a true).bind λb=>
  some b
def y0g:LSh:=⟨[(4,dI)],[],0,8,[]⟩
def zmm:FI dat:=FI.of dat 107 8 0 [dS,(.fn 106 [] [])] [] [dI] [] true y0g (R:=Int) Prod.fst (·,()) (λn=>u1 (zgd n))
 (λn=>[]) (anb [] f107)
def zyf:FOk prog zmm:=okF (bs:=[zms]) ⟨zxu,trivial⟩ func107 ntmps107 call107
 (λ_ _=>tr (zgd.eq_2 ..))
 (λn=>trivial)
mutual
def zij:Nat->z2n->Ot Int
 |0,_=>none
 |n+1,a=>
  pIf (decide ((a.length:Int)>60))
   (some 4)
   (zas n 0 a (a.length:Int))
def zas:Nat->Int->z2n->Int->Ot Int
 |0,_,_,_=>none
 |n+1,a,b,c=>
  pIf (decide (a<c))
   ((ix b a).bind λd=>
   (zg2 n d.path).bind λe=>
   pIf (e==0)
    (zau n b c a (!(d.path==[])) d)
    (zau n b c a false d))
   (some 0)
def zau:Nat->z2n->Int->Int->Bool->z2i->Ot Int
 |0,_,_,_,_,_=>none
 |n+1,a,b,c,d,e=>
  pIf (e.kind==1)
   (pIf d
     (zzp n a b c (e.name==[]))
     (zzp n a b c false))
   (pIf (e.kind==2)
     (pIf d
       ((z2g n e.name).bind λh=>
       zzp n a b c h)
       (zzp n a b c false))
     (pIf (e.kind==3)
       (pIf d
         (pIf (decide ((e.name.length:Int)<=60))
           ((zgd n e.name).bind λg=>
           zzp n a b c (decide (g<0)))
           (zzp n a b c false))
         (zzp n a b c false))
       (zzp n a b c false)))
def zzp:Nat->z2n->Int->Int->Bool->Ot Int
 |0,_,_,_,_=>none
 |n+1,a,b,c,d=>
  pIf (!d)
   (some 8)
   (zas n (IntKind.i64.wrap (c+1)) a b)
end
def y3s:LSh:=⟨[(2,dI)],[],0,62,[]⟩
def zqi:FI dat:=FI.of dat 60 62 0 [dL 10] [] [dI] [] true y3s (R:=Int) Prod.fst (·,()) (λn=>u1 (zij n))
 (λn=>[(0,⟨⟨[(12,dI),(10,dL 10),(11,dI)],[],0,62,[]⟩,u3 (zas n)⟩),(1,⟨⟨[(10,dL 10),(11,dI),(12,dI),(4,(.ptr 0 0)),(5,dB)],[(.st 10)],0,62,[]⟩,u5 (zau n)⟩),(2,⟨⟨[(10,dL 10),(11,dI),(12,dI),(5,dB)],[],0,62,[]⟩,u4 (zzp n)⟩)]) (anb [(14,0),(27,1),(46,2)] f60)
def y3f:FOk prog zqi:=okF (bs:=[y0w,zgy,zmm]) ⟨yee,zht,zyf,trivial⟩ func60 ntmps60 call60
 (λ_ _=>tr (zij.eq_2 ..))
 (λn=>⟨λ_=>tr (zas.eq_2 ..),
  λ_=>tr (zau.eq_2 ..),
  λ_=>tr (zzp.eq_2 ..),
  trivial⟩)
mutual
def zic:Nat->yva->z2n->Ot ((List Bool)×Int)
 |0,_,_=>none
 |n+1,a,b=>
  (zij n b).bind λd=>
  pIf (d != 0)
   (some ([],d))
   (zaw n 0 a b (a.length:Int) [] [])
def zaw:Nat->Int->yva->z2n->Int->(List B8)->(List Bool)->Ot ((List Bool)×Int)
 |0,_,_,_,_,_,_=>none
 |n+1,a,b,c,d,e,f=>
  pIf (decide (a<d))
   ((ix b a).bind λg=>
   zaw n (IntKind.i64.wrap (a+1)) b c d (mks (z99 (List.zip e f) g.path true)) (mvs (z99 (List.zip e f) g.path true)))
   (zav n 0 c (c.length:Int) (mks (List.zip e f)) (mvs (List.zip e f)) [])
def zav:Nat->Int->z2n->Int->(List B8)->(List Bool)->(List Bool)->Ot ((List Bool)×Int)
 |0,_,_,_,_,_,_=>none
 |n+1,a,b,c,d,e,f=>
  pIf (decide (a<c))
   ((ix b a).bind λh=>
   (ext f [(Option.getD (z6b (List.zip d e) h.path) false)]).bind λg=>
   zav n (IntKind.i64.wrap (a+1)) b c (mks (List.zip d e)) (mvs (List.zip d e)) g)
   (some (f,0))
end
def y4z:LSh:=⟨[(4,(.d (.sl .bool))),(5,dI)],[],0,44,[]⟩
def zpq:FI dat:=FI.of dat 24 44 0 [dL 15,dL 10] [] [(.d (.sl .bool)),dI] [] true y4z (R:=(List Bool)×Int) (λx=>(x.1,x.2.1)) (λr=>(r.1,r.2,())) (λn=>u2 (zic n))
 (λn=>[(0,⟨⟨[(21,dI),(7,(.map 0)),(19,dL 15),(1,dL 10),(20,dI)],[(.mp 86 .bool)],0,44,[]⟩,u6 (zaw n)⟩),(1,⟨⟨[(31,dI),(7,(.map 0)),(10,(.own 1)),(29,dL 10),(30,dI)],[(.mp 86 .bool),(.acc 4 .bool true)],0,44,[]⟩,u6 (zav n)⟩)]) (anb [(18,0),(37,1)] f24)
def y2y:FOk prog zpq:=okF (bs:=[zqi]) ⟨y3f,trivial⟩ func24 ntmps24 call24
 (λ_ _=>tr (zic.eq_2 ..))
 (λn=>⟨λ_=>tr (zaw.eq_2 ..),
  λ_=>tr (zav.eq_2 ..),
  trivial⟩)
mutual
def zof:Nat->z2n->B8->B8->Ot (z2n×Int)
 |0,_,_,_=>none
 |n+1,a,b,c=>
  (zic n [] a).bind λd=>
  pIf (d.2 != 0)
   (some ([],d.2))
   ((z2g n b).bind λg=>
   pIf (!g)
    (zfc n c b a true)
    ((z2g n c).bind λe=>
    zfc n c b a (!e)))
def zfc:Nat->B8->B8->z2n->Bool->Ot (z2n×Int)
 |0,_,_,_,_=>none
 |n+1,a,b,c,d=>
  pIf d
   (some ([],12))
   (zf9 n a b 0 c (c.length:Int) [])
def zf9:Nat->B8->B8->Int->z2n->Int->z2n->Ot (z2n×Int)
 |0,_,_,_,_,_,_=>none
 |n+1,a,b,c,d,e,f=>
  pIf (decide (c<e))
   ((ix d c).bind λh=>
   (zh0 n h.path [47]).bind λg=>
   zf3 n 0 a b d e c (g.length:Int) g h f)
   (some (f,0))
def zf3:Nat->Int->B8->B8->z2n->Int->Int->Int->(List B8)->z2i->z2n->Ot (z2n×Int)
 |0,_,_,_,_,_,_,_,_,_,_=>none
 |n+1,a,b,c,d,e,f,g,h,i,j=>
  pIf (decide (a<g))
   ((ix h a).bind λq=>
   (z8e n q [91]).bind λl=>
   pIf (l.1==c)
    ((ix h a).bind λs=>
    pIf l.2.2
     ((ix (h.set (Int.toNat a) b) a).bind λp=>
     (cat [91] l.2.1).bind λo=>
     (cat p o).bind λm=>
     (ix (h.set (Int.toNat a) b) a).bind λr=>
     zbl n b c d e f g a ((h.set (Int.toNat a) b).set (Int.toNat a) m) i j)
     (zbl n b c d e f g a (h.set (Int.toNat a) b) i j))
    (zbl n b c d e f g a h i j))
   ((zhz n h [47]).bind λk=>
   pIf (i.kind==2)
    (zf8 n b c d e f (i.name==c) (z2i.mk k i.kind i.name) j)
    (zf8 n b c d e f false (z2i.mk k i.kind i.name) j))
def zbl:Nat->B8->B8->z2n->Int->Int->Int->Int->(List B8)->z2i->z2n->Ot (z2n×Int)
 |0,_,_,_,_,_,_,_,_,_,_=>none
 |n+1,a,b,c,d,e,f,g,h,i,j=>
  zf3 n (IntKind.i64.wrap (g+1)) a b c d e f h i j
def zf8:Nat->B8->B8->z2n->Int->Int->Bool->z2i->z2n->Ot (z2n×Int)
 |0,_,_,_,_,_,_,_,_=>none
 |n+1,a,b,c,d,e,f,g,h=>
  pIf f
   (zfa n a b c d e (z2i.mk g.path g.kind a) h)
   (zfa n a b c d e g h)
def zfa:Nat->B8->B8->z2n->Int->Int->z2i->z2n->Ot (z2n×Int)
 |0,_,_,_,_,_,_,_=>none
 |n+1,a,b,c,d,e,f,g=>
  (ext g [f]).bind λh=>
  zf9 n a b (IntKind.i64.wrap (e+1)) c d h
end
def yit:LSh:=⟨[(6,dL 10),(7,dI)],[],0,94,[]⟩
def zrg:FI dat:=FI.of dat 10 94 0 [dL 10,dS,dS] [] [dL 10,dI] [] true yit (R:=z2n×Int) (λx=>(x.1,x.2.1)) (λr=>(r.1,r.2,())) (λn=>u3 (zof n))
 (λn=>[(0,⟨⟨[(2,dS),(1,dS),(0,dL 10),(34,dB)],[],0,94,[]⟩,u4 (zfc n)⟩),(1,⟨⟨[(2,dS),(1,dS),(37,dI),(10,(.own 0)),(35,dL 10),(36,dI)],[(.acc 51 (.st 10) true)],0,94,[]⟩,u6 (zf9 n)⟩),(2,⟨⟨[(46,dI),(13,(.own 0)),(2,dS),(1,dS),(44,(.own 0)),(35,dL 10),(36,dI),(37,dI),(12,(.ptr 1 0)),(10,(.own 2)),(45,dI)],[(.acc 9 .str true),(.st 10),(.acc 51 (.st 10) true)],0,94,[]⟩,u10 (zf3 n)⟩),(3,⟨⟨[(13,(.own 0)),(2,dS),(1,dS),(44,(.own 0)),(35,dL 10),(36,dI),(37,dI),(12,(.ptr 1 0)),(10,(.own 2)),(45,dI),(46,dI)],[(.acc 9 .str true),(.st 10),(.acc 51 (.st 10) true)],0,94,[]⟩,u10 (zbl n)⟩),(4,⟨⟨[(2,dS),(1,dS),(35,dL 10),(36,dI),(37,dI),(12,(.ptr 0 0)),(10,(.own 1)),(85,dB)],[(.st 10),(.acc 51 (.st 10) true)],0,94,[]⟩,u8 (zf8 n)⟩),(5,⟨⟨[(2,dS),(1,dS),(35,dL 10),(36,dI),(37,dI),(12,(.ptr 0 0)),(10,(.own 1))],[(.st 10),(.acc 51 (.st 10) true)],0,94,[]⟩,u7 (zfa n)⟩)]) (anb [(15,0),(26,1),(43,2),(67,3),(73,4),(76,5)] f10)
def yd5:FOk prog zrg:=okF (bs:=[zwa,zpq,zgy,zrh,zx6]) ⟨y6x,y2y,zht,zos,y9a,trivial⟩ func10 ntmps10 call10
 (λ_ _=>tr (zof.eq_2 ..))
 (λn=>⟨λ_=>tr (zfc.eq_2 ..),
  λ_=>tr (zf9.eq_2 ..),
  λ_=>tr (zf3.eq_2 ..),
  λ_=>tr (zbl.eq_2 ..),
  λ_=>tr (zf8.eq_2 ..),
  λ_=>tr (zfa.eq_2 ..),
  trivial⟩)
def zn7:Nat->zz0->zz0->Ot Int
 |0,_,_=>none
 |n+1,a,b=>
  (z0t n a).bind λd=>
  pIf (d != 0)
   (some d)
   ((z0t n b).bind λe=>
   some e)
def yp4:LSh:=⟨[(4,dI)],[],0,13,[]⟩
def zlm:FI dat:=FI.of dat 42 13 0 [dT 8,dT 8] [] [dI] [] true yp4 (R:=Int) Prod.fst (·,()) (λn=>u2 (zn7 n))
 (λn=>[]) (anb [] f42)
def y4f:FOk prog zlm:=okF (bs:=[zer]) ⟨zka,trivial⟩ func42 ntmps42 call42
 (λn=>λ_=>tr (zn7.eq_2 _ _ n))
 (λn=>trivial)
mutual
def zhx:Nat->zz0->Ot ((List B8)×kz5)
 |0,_=>none
 |n+1,a=>
  ze0 n 0 a.attrs (a.attrs.length:Int) [] []
def ze0:Nat->Int->kz6->Int->(List B8)->kz5->Ot ((List B8)×kz5)
 |0,_,_,_,_,_=>none
 |n+1,a,b,c,d,e=>
  pIf (decide (a<c))
   ((ix b a).bind λg=>
   ze0 n (IntKind.i64.wrap (a+1)) b c (mks (z99 (List.zip d e) g.name g.value.re)) (mvs (z99 (List.zip d e) g.name g.value.re)))
   (some ((mks (List.zip d e)),(mvs (List.zip d e))))
end
def yf0:LSh:=⟨[(2,(.map 0))],[(.mp 152 (.st 2))],0,21,[]⟩
def zo5:FI dat:=FI.of dat 87 21 0 [dT 8] [] [(.map 0)] [(.mp 152 (.st 2))] false yf0 (R:=(List B8)×kz5) (λx=>(x.1,x.2.1)) (λr=>(r.1,r.2,())) (λn=>u1 (zhx n))
 (λn=>[(0,⟨⟨[(10,dI),(3,(.map 0)),(8,dL 3),(9,dI)],[(.mp 152 (.st 2))],0,21,[]⟩,u5 (ze0 n)⟩)]) (anb [(8,0)] f87)
def yaa:FOk prog zo5:=okF (bs:=[]) trivial func87 ntmps87 call87
 (λ_ _=>tr (zhx.eq_2 ..))
 (λn=>⟨λ_=>tr (ze0.eq_2 ..),
  trivial⟩)
mutual
def z3x:Nat->(List kz6)->Ot (Res (B8×Unit) kz6)
 |0,_=>none
 |n+1,a=>
  z00 n 0 0 a a (a.length:Int)
def z00:Nat->Int->Int->(List kz6)->(List kz6)->Int->Ot (Res (B8×Unit) kz6)
 |0,_,_,_,_,_=>none
 |n+1,a,b,c,d,e=>
  pIf (decide (a<e))
   ((ix c a).bind λg=>
   pIf (decide ((IntKind.i64.wrap (b+(g.length:Int)))<0))
    (some (Res.pan ([108,101,110,32,111,117,116,32,111,102,32,114,97,110,103,101],())))
    (z2k n (IntKind.i64.wrap (b+(g.length:Int))) c d e a))
   ((zbq n [] b).bind λh=>
   zzz n 0 d (d.length:Int) h)
def z2k:Nat->Int->(List kz6)->(List kz6)->Int->Int->Ot (Res (B8×Unit) kz6)
 |0,_,_,_,_,_=>none
 |n+1,a,b,c,d,e=>
  z00 n (IntKind.i64.wrap (e+1)) a b c d
def zzz:Nat->Int->(List kz6)->Int->kz6->Ot (Res (B8×Unit) kz6)
 |0,_,_,_,_=>none
 |n+1,a,b,c,d=>
  pIf (decide (a<c))
   ((ix b a).bind λg=>
   (ext d g).bind λe=>
   zzz n (IntKind.i64.wrap (a+1)) b c e)
   (some (Res.ok d))
end
def ziz:LSh:=⟨[(2,dL 3)],[],0,36,[]⟩
def yzv:FI dat:=FI.ofP dat 88 36 0 [(.d (.sl (.sl (.st 3))))] [] [dL 3] [] (.iface 9 dS) [] [] ziz (R:=kz6) Prod.fst (·,()) (λn=>u1 (z3x n))
 (λn=>[(0,⟨⟨[(11,dI),(3,dI),(9,(.d (.sl (.sl (.st 3))))),(0,(.d (.sl (.sl (.st 3))))),(10,dI)],[],0,36,[]⟩,u5 (z00 n)⟩),(1,⟨⟨[(3,dI),(9,(.d (.sl (.sl (.st 3))))),(0,(.d (.sl (.sl (.st 3))))),(10,dI),(11,dI)],[],0,36,[]⟩,u5 (z2k n)⟩),(2,⟨⟨[(27,dI),(6,(.own 0)),(25,(.d (.sl (.sl (.st 3))))),(26,dI)],[(.acc 83 (.st 3) true)],0,36,[]⟩,u4 (zzz n)⟩)]) (anb [(8,0),(26,1),(33,2)] f88)
def zj5:List (FI dat):=[z6h]
def zj1:(yzv).Good prog dat (tb zj5):=FI.zm1 (hD:=zzf _) func88 ntmps88 call88 (by kernel_rfl) (Qac (by kernel_rfl)) (by kernel_rfl) (λn=>by kernel_rfl) trivial (λx=>by kernel_rfl) (λ_=>rfl) ⟨λ_=>rfl,λ_=>rfl,λ_=>rfl,trivial⟩
 (λ_ _=>tr (z3x.eq_2 ..))
 (λn=>⟨λ_=>tr (z00.eq_2 ..),
  λ_=>tr (z2k.eq_2 ..),
  λ_=>tr (zzz.eq_2 ..),
  trivial⟩)
 (λx=>by kernel_rfl)
def ziv:OkL prog [yzv]:=zuz (zzf _) (bs:=[z6h]) ⟨zjx,trivial⟩ zj1
def zi9:FOk prog yzv:=ziv.1
def zow:Nat->B8->(List B8)->(List Bool)->Ot (Bool×(List B8)×(List Bool))
 |0,_,_,_=>none
 |n+1,a,b,c=>
  some ((Option.getD (z6b (List.zip b c) a) false),(mks (List.zip b c)),(mvs (List.zip b c)))
def yj9:LSh:=⟨[(3,dB)],[(.cells [(.map 1)]),(.mp 86 .bool)],2,7,[]⟩
def y19:FI dat:=FI.of dat 134 7 2 [dS,(.ptr 0 0)] [(.cells [(.map 1)]),(.mp 86 .bool)] [dB] [(.cells [(.map 1)]),(.mp 86 .bool)] false yj9 (R:=Bool×(List B8)×(List Bool)) (λx=>(x.1,x.2.1,x.2.2.1)) (λr=>(r.1,r.2.1,r.2.2,())) (λn=>u3 (zow n))
 (λn=>[]) (anb [] f134)
def yd2:FOk prog y19:=okF (bs:=[]) trivial func134 ntmps134 call134
 (λn=>λ_=>tr (zow.eq_2 _ _ _ n))
 (λn=>trivial)
mutual
def z2r:Nat->(List B8)->(List B8)->(List Bool)->Ot (Int×(List B8)×(List Bool))
 |0,_,_,_=>none
 |n+1,a,b,c=>
  kzv n 0 a (a.length:Int) (mks (List.zip b c)) (mvs (List.zip b c))
def kzv:Nat->Int->(List B8)->Int->(List B8)->(List Bool)->Ot (Int×(List B8)×(List Bool))
 |0,_,_,_,_,_=>none
 |n+1,a,b,c,d,e=>
  pIf (decide (a<c))
   ((ix b a).bind λh=>
   (zow n h (mks (List.zip d e)) (mvs (List.zip d e))).bind λg=>
   pIf g.1
    (some (a,(mks (List.zip g.2.1 g.2.2)),(mvs (List.zip g.2.1 g.2.2))))
    (kzv n (IntKind.i64.wrap (a+1)) b c (mks (List.zip g.2.1 g.2.2)) (mvs (List.zip g.2.1 g.2.2))))
   (some ((-1),(mks (List.zip d e)),(mvs (List.zip d e))))
end
def zhh:LSh:=⟨[(4,dI)],[(.cells [(.map 1)]),(.mp 86 .bool)],2,19,[]⟩
def z9z:FI dat:=FI.of dat 95 19 2 [dA,(.fn 134 [] [(.ptr 0 0)])] [(.cells [(.map 1)]),(.mp 86 .bool)] [dI] [(.cells [(.map 1)]),(.mp 86 .bool)] false zhh (R:=Int×(List B8)×(List Bool)) (λx=>(x.1,x.2.1,x.2.2.1)) (λr=>(r.1,r.2.1,r.2.2,())) (λn=>u3 (z2r n))
 (λn=>[(0,⟨⟨[(8,dI),(0,dA),(1,(.fn 134 [] [(.ptr 0 0)])),(7,dI)],[(.cells [(.map 1)]),(.mp 86 .bool)],2,19,[]⟩,u5 (kzv n)⟩)]) (anb [(6,0)] f95)
def zh7:FOk prog z9z:=okF (bs:=[y19]) ⟨yd2,trivial⟩ func95 ntmps95 call95
 (λ_ _=>tr (z2r.eq_2 ..))
 (λn=>⟨λ_=>tr (kzv.eq_2 ..),
  trivial⟩)
def z1q:Nat->(List B8)->(List B8)->(List Bool)->Ot (Bool×(List B8)×(List Bool))
 |0,_,_,_=>none
 |n+1,a,b,c=>
  (z2r n a (mks (List.zip b c)) (mvs (List.zip b c))).bind λd=>
  some ((decide (d.1>=0)),(mks (List.zip d.2.1 d.2.2)),(mvs (List.zip d.2.1 d.2.2)))
def zfy:LSh:=⟨[(4,dB)],[(.cells [(.map 1)]),(.mp 86 .bool)],2,9,[]⟩
def z8i:FI dat:=FI.of dat 47 9 2 [dA,(.fn 134 [] [(.ptr 0 0)])] [(.cells [(.map 1)]),(.mp 86 .bool)] [dB] [(.cells [(.map 1)]),(.mp 86 .bool)] false zfy (R:=Bool×(List B8)×(List Bool)) (λx=>(x.1,x.2.1,x.2.2.1)) (λr=>(r.1,r.2.1,r.2.2,())) (λn=>u3 (z1q n))
 (λn=>[]) (anb [] f47)
def zfg:FOk prog z8i:=okF (bs:=[z9z]) ⟨zh7,trivial⟩ func47 ntmps47 call47
 (λ_ _=>tr (z1q.eq_2 ..))
 (λn=>trivial)
def zk5:Nat->yz1->(List B8)->(List Bool)->Ot (Bool×(List B8)×(List Bool))
 |0,_,_,_=>none
 |n+1,a,b,c=>
  (zcb n a.re).bind λe=>
  (z1q n e.1 (mks (List.zip b c)) (mvs (List.zip b c))).bind λd=>
  some (d.1,(mks (List.zip d.2.1 d.2.2)),(mvs (List.zip d.2.1 d.2.2)))
def yp5:LSh:=⟨[(4,dB)],[(.mp 86 .bool)],1,15,[]⟩
def zlu:FI dat:=FI.of dat 89 15 1 [dT 2,(.map 0)] [(.mp 86 .bool)] [dB] [(.mp 86 .bool)] false yp5 (R:=Bool×(List B8)×(List Bool)) (λx=>(x.1,x.2.1,x.2.2.1)) (λr=>(r.1,r.2.1,r.2.2,())) (λn=>u3 (zk5 n))
 (λn=>[]) (anb [] f89)
def zw1:FOk prog zlu:=okF (bs:=[z8i,zuv]) ⟨zfg,y1s,trivial⟩ func89 ntmps89 call89
 (λ_ _=>tr (zk5.eq_2 ..))
 (λn=>trivial)
mutual
def zrs:Nat->zz0->zz0->Ot (Res (B8×Unit) ((List B8)×(List Bool)))
 |0,_,_=>none
 |n+1,a,b=>
  (zhx n a).bind λe=>
  (zhx n b).bind λd=>
  zgo n [] [] (mks (List.zip d.1 d.2)) (mvs (List.zip d.1 d.2)) (mks (List.zip e.1 e.2)) (mvs (List.zip e.1 e.2)) b a
def zgo:Nat->(List B8)->(List Bool)->(List B8)->kz5->(List B8)->kz5->zz0->zz0->Ot (Res (B8×Unit) ((List B8)×(List Bool)))
 |0,_,_,_,_,_,_,_,_=>none
 |n+1,a,b,c,d,e,f,g,h=>
  (z3x n [h.attrs,g.attrs]).bind λj=>
  y9z j (λi=>
   zge n 0 i ((List.zip a b).length:Int) (i.length:Int) (mks (List.zip a b)) (mvs (List.zip a b)) (mks (List.zip c d)) (mvs (List.zip c d)) (mks (List.zip e f)) (mvs (List.zip e f)) g h)
   (λk=>
   some (Res.pan (k.1,())))
def zge:Nat->Int->kz6->Int->Int->(List B8)->(List Bool)->(List B8)->kz5->(List B8)->kz5->zz0->zz0->Ot (Res (B8×Unit) ((List B8)×(List Bool)))
 |0,_,_,_,_,_,_,_,_,_,_,_,_=>none
 |n+1,a,b,c,d,e,f,g,h,i,j,k,l=>
  pIf (decide (a<d))
   ((ix b a).bind λm=>
   pIf (!(Option.isSome (z6b (List.zip i j) m.name)))
    (zae n b c d a true (mks (List.zip e f)) (mvs (List.zip e f)) (mks (List.zip g h)) (mvs (List.zip g h)) (mks (List.zip i j)) (mvs (List.zip i j)) k l m.re)
    (pIf (!(Option.isSome (z6b (List.zip g h) m.name)))
      (zae n b c d a true (mks (List.zip e f)) (mvs (List.zip e f)) (mks (List.zip g h)) (mvs (List.zip g h)) (mks (List.zip i j)) (mvs (List.zip i j)) k l m.re)
      ((z3k n (Option.getD (z6b (List.zip i j) m.name) (yz1.mk 0 (zz1.mk 0 (kz4.mk 0 0) false [] []) [] [])).re (Option.getD (z6b (List.zip g h) m.name) (yz1.mk 0 (zz1.mk 0 (kz4.mk 0 0) false [] []) [] [])).re).bind λp=>
      pIf (!p)
       (zae n b c d a true (mks (List.zip e f)) (mvs (List.zip e f)) (mks (List.zip g h)) (mvs (List.zip g h)) (mks (List.zip i j)) (mvs (List.zip i j)) k l m.re)
       ((zk5 n m.value.re (mks (List.zip e f)) (mvs (List.zip e f))).bind λo=>
       zae n b c d a o.1 (mks (List.zip o.2.1 o.2.2)) (mvs (List.zip o.2.1 o.2.2)) (mks (List.zip g h)) (mvs (List.zip g h)) (mks (List.zip i j)) (mvs (List.zip i j)) k l m.re))))
   (pIf (((List.zip e f).length:Int)==c)
     (some (Res.ok ((mks (List.zip e f)),(mvs (List.zip e f)))))
     (zgo n (mks (List.zip e f)) (mvs (List.zip e f)) (mks (List.zip g h)) (mvs (List.zip g h)) (mks (List.zip i j)) (mvs (List.zip i j)) k l))
def zae:Nat->kz6->Int->Int->Int->Bool->(List B8)->(List Bool)->(List B8)->kz5->(List B8)->kz5->zz0->zz0->yz7->Ot (Res (B8×Unit) ((List B8)×(List Bool)))
 |0,_,_,_,_,_,_,_,_,_,_,_,_,_,_=>none
 |n+1,a,b,c,d,e,f,g,h,i,j,k,l,m,o=>
  pIf e
   (zgx n a b c d (mks (z99 (List.zip f g) o.name true)) (mvs (z99 (List.zip f g) o.name true)) (mks (List.zip h i)) (mvs (List.zip h i)) (mks (List.zip j k)) (mvs (List.zip j k)) l m)
   (zgx n a b c d (mks (List.zip f g)) (mvs (List.zip f g)) (mks (List.zip h i)) (mvs (List.zip h i)) (mks (List.zip j k)) (mvs (List.zip j k)) l m)
def zgx:Nat->kz6->Int->Int->Int->(List B8)->(List Bool)->(List B8)->kz5->(List B8)->kz5->zz0->zz0->Ot (Res (B8×Unit) ((List B8)×(List Bool)))
 |0,_,_,_,_,_,_,_,_,_,_,_,_=>none
 |n+1,a,b,c,d,e,f,g,h,i,j,k,l=>
  zge n (IntKind.i64.wrap (d+1)) a b c (mks (List.zip e f)) (mvs (List.zip e f)) (mks (List.zip g h)) (mvs (List.zip g h)) (mks (List.zip i j)) (mvs (List.zip i j)) k l
end
def yli:LSh:=⟨[(4,(.map 0))],[(.mp 86 .bool)],0,77,[]⟩
def zk3:FI dat:=FI.ofP dat 44 77 0 [dT 8,dT 8] [] [(.map 0)] [(.mp 86 .bool)] (.iface 9 dS) [] [] yli (R:=(List B8)×(List Bool)) (λx=>(x.1,x.2.1)) (λr=>(r.1,r.2,())) (λn=>u2 (zrs n))
 (λn=>[(0,⟨⟨[(5,(.map 0)),(8,(.map 1)),(7,(.map 2)),(3,(.ptr 3 0)),(2,(.ptr 4 0))],[(.mp 86 .bool),(.mp 152 (.st 2)),(.mp 152 (.st 2)),(.st 8),(.st 8)],0,77,[]⟩,u8 (zgo n)⟩),(1,⟨⟨[(32,dI),(5,(.map 0)),(8,(.map 1)),(7,(.map 2)),(30,dL 3),(3,(.ptr 3 0)),(2,(.ptr 4 0)),(9,dI),(31,dI)],[(.mp 86 .bool),(.mp 152 (.st 2)),(.mp 152 (.st 2)),(.st 8),(.st 8)],0,77,[]⟩,u12 (zge n)⟩),(2,⟨⟨[(5,(.map 0)),(8,(.map 1)),(7,(.map 2)),(30,dL 3),(3,(.ptr 3 0)),(2,(.ptr 4 0)),(9,dI),(31,dI),(32,dI),(11,(.ptr 5 0)),(67,dB)],[(.mp 86 .bool),(.mp 152 (.st 2)),(.mp 152 (.st 2)),(.st 8),(.st 8),(.st 3)],0,77,[]⟩,λx=>zae n x.1 x.2.1 x.2.2.1 x.2.2.2.1 x.2.2.2.2.1 x.2.2.2.2.2.1 x.2.2.2.2.2.2.1 x.2.2.2.2.2.2.2.1 x.2.2.2.2.2.2.2.2.1 x.2.2.2.2.2.2.2.2.2.1 x.2.2.2.2.2.2.2.2.2.2.1 x.2.2.2.2.2.2.2.2.2.2.2.1 x.2.2.2.2.2.2.2.2.2.2.2.2.1 x.2.2.2.2.2.2.2.2.2.2.2.2.2.1⟩),(3,⟨⟨[(5,(.map 0)),(8,(.map 1)),(7,(.map 2)),(30,dL 3),(3,(.ptr 3 0)),(2,(.ptr 4 0)),(9,dI),(31,dI),(32,dI)],[(.mp 86 .bool),(.mp 152 (.st 2)),(.mp 152 (.st 2)),(.st 8),(.st 8)],0,77,[]⟩,u12 (zgx n)⟩)]) (anb [(9,0),(17,1),(34,2),(37,3)] f44)
def ymu:List (FI dat):=[zo5,yzv,zlu,zbj]
def ynu:(zk3).Good prog dat (tb ymu):=FI.zm1 (hD:=zzf _) func44 ntmps44 call44 (by kernel_rfl) (Qac (by kernel_rfl)) (by kernel_rfl) (λn=>by kernel_rfl) trivial (λx=>by kernel_rfl) (λ_=>rfl) ⟨λ_=>rfl,λ_=>rfl,λ_=>rfl,λ_=>rfl,trivial⟩
 (λ_ _=>tr (zrs.eq_2 ..))
 (λn=>⟨λ_=>tr (zgo.eq_2 ..),
  λ_=>tr (zge.eq_2 ..),
  λ_=>tr (zae.eq_2 ..),
  λ_=>tr (zgx.eq_2 ..),
  trivial⟩)
 (λx=>by kernel_rfl)
def yoh:OkL prog [zk3]:=zuz (zzf _) (bs:=[zo5,yzv,zlu,zbj]) ⟨yaa,zi9,zw1,zn6,trivial⟩ ynu
def yir:FOk prog zk3:=yoh.1
mutual
def z3p:Nat->(List zz5)->Ot (Res (B8×Unit) zz5)
 |0,_=>none
 |n+1,a=>
  yzz n 0 0 a a (a.length:Int)
def yzz:Nat->Int->Int->(List zz5)->(List zz5)->Int->Ot (Res (B8×Unit) zz5)
 |0,_,_,_,_,_=>none
 |n+1,a,b,c,d,e=>
  pIf (decide (a<e))
   ((ix c a).bind λg=>
   pIf (decide ((IntKind.i64.wrap (b+(g.length:Int)))<0))
    (some (Res.pan ([108,101,110,32,111,117,116,32,111,102,32,114,97,110,103,101],())))
    (z2l n (IntKind.i64.wrap (b+(g.length:Int))) c d e a))
   ((zbp n [] b).bind λh=>
   kzz n 0 d (d.length:Int) h)
def z2l:Nat->Int->(List zz5)->(List zz5)->Int->Int->Ot (Res (B8×Unit) zz5)
 |0,_,_,_,_,_=>none
 |n+1,a,b,c,d,e=>
  yzz n (IntKind.i64.wrap (e+1)) a b c d
def kzz:Nat->Int->(List zz5)->Int->zz5->Ot (Res (B8×Unit) zz5)
 |0,_,_,_,_=>none
 |n+1,a,b,c,d=>
  pIf (decide (a<c))
   ((ix b a).bind λg=>
   (ext d g).bind λe=>
   kzz n (IntKind.i64.wrap (a+1)) b c e)
   (some (Res.ok d))
end
def zj3:LSh:=⟨[(2,dL 7)],[],0,36,[]⟩
def zzv:FI dat:=FI.ofP dat 90 36 0 [(.d (.sl (.sl (.st 7))))] [] [dL 7] [] (.iface 9 dS) [] [] zj3 (R:=zz5) Prod.fst (·,()) (λn=>u1 (z3p n))
 (λn=>[(0,⟨⟨[(11,dI),(3,dI),(9,(.d (.sl (.sl (.st 7))))),(0,(.d (.sl (.sl (.st 7))))),(10,dI)],[],0,36,[]⟩,u5 (yzz n)⟩),(1,⟨⟨[(3,dI),(9,(.d (.sl (.sl (.st 7))))),(0,(.d (.sl (.sl (.st 7))))),(10,dI),(11,dI)],[],0,36,[]⟩,u5 (z2l n)⟩),(2,⟨⟨[(27,dI),(6,(.own 0)),(25,(.d (.sl (.sl (.st 7))))),(26,dI)],[(.acc 34 (.st 7) true)],0,36,[]⟩,u4 (kzz n)⟩)]) (anb [(8,0),(26,1),(33,2)] f90)
def zix:List (FI dat):=[z6g]
def ziw:(zzv).Good prog dat (tb zix):=FI.zm1 (hD:=zzf _) func90 ntmps90 call90 (by kernel_rfl) (Qac (by kernel_rfl)) (by kernel_rfl) (λn=>by kernel_rfl) trivial (λx=>by kernel_rfl) (λ_=>rfl) ⟨λ_=>rfl,λ_=>rfl,λ_=>rfl,trivial⟩
 (λ_ _=>tr (z3p.eq_2 ..))
 (λn=>⟨λ_=>tr (yzz.eq_2 ..),
  λ_=>tr (z2l.eq_2 ..),
  λ_=>tr (kzz.eq_2 ..),
  trivial⟩)
 (λx=>by kernel_rfl)
def zj6:OkL prog [zzv]:=zuz (zzf _) (bs:=[z6g]) ⟨zjh,trivial⟩ ziw
def zi4:FOk prog zzv:=zj6.1
def zme:Nat->yz7->yz7->Ot Bool
 |0,_,_=>none
 |n+1,a,b=>
  pIf (a.name==b.name)
   ((z3k n a.value.re b.value.re).bind λd=>
   some d)
   (some false)
def ybi:LSh:=⟨[(4,dB)],[],0,17,[]⟩
def zxl:FI dat:=FI.of dat 137 17 0 [dT 3,dT 3] [] [dB] [] true ybi (R:=Bool) Prod.fst (·,()) (λn=>u2 (zme n))
 (λn=>[]) (anb [] f137)
def ya1:FOk prog zxl:=okF (bs:=[zbj]) ⟨zn6,trivial⟩ func137 ntmps137 call137
 (λ_ _=>tr (zme.eq_2 ..))
 (λn=>trivial)
mutual
def yzn:Nat->kz6->kz6->Ot Bool
 |0,_,_=>none
 |n+1,a,b=>
  pIf ((a.length:Int) != (b.length:Int))
   (some false)
   (kzd n 0 b a (a.length:Int))
def kzd:Nat->Int->kz6->kz6->Int->Ot Bool
 |0,_,_,_,_=>none
 |n+1,a,b,c,d=>
  pIf (decide (a<d))
   ((ix c a).bind λh=>
   (ix b a).bind λg=>
   (zme n h.re g.re).bind λe=>
   pIf (!e)
    (some false)
    (kzd n (IntKind.i64.wrap (a+1)) b c d))
   (some true)
end
def z9l:LSh:=⟨[(6,dB)],[],0,32,[]⟩
def z0u:FI dat:=FI.of dat 136 32 0 [dL 3,dL 3,(.fn 137 [] [])] [] [dB] [] true z9l (R:=Bool) Prod.fst (·,()) (λn=>u2 (yzn n))
 (λn=>[(0,⟨⟨[(17,dI),(2,(.fn 137 [] [])),(1,dL 3),(15,dL 3),(16,dI)],[],0,32,[]⟩,u4 (kzd n)⟩)]) (anb [(14,0)] f136)
def z8t:FOk prog z0u:=okF (bs:=[zxl]) ⟨ya1,trivial⟩ func136 ntmps136 call136
 (λ_ _=>tr (yzn.eq_2 ..))
 (λn=>⟨λ_=>tr (kzd.eq_2 ..),
  trivial⟩)
mutual
def z8l:Nat->(List B8)->(List B8)->Ot Bool
 |0,_,_=>none
 |n+1,a,b=>
  pIf ((a.length:Int) != (b.length:Int))
   (some false)
   (z1n n 0 b a (a.length:Int))
def z1n:Nat->Int->(List B8)->(List B8)->Int->Ot Bool
 |0,_,_,_,_=>none
 |n+1,a,b,c,d=>
  pIf (decide (a<d))
   ((ix c a).bind λg=>
   (ix b a).bind λe=>
   pIf (!(g==e))
    (some false)
    (z1n n (IntKind.i64.wrap (a+1)) b c d))
   (some true)
end
def zm5:LSh:=⟨[(4,dB)],[],0,26,[]⟩
def zed:FI dat:=FI.of dat 140 26 0 [dA,dA] [] [dB] [] true zm5 (R:=Bool) Prod.fst (·,()) (λn=>u2 (z8l n))
 (λn=>[(0,⟨⟨[(13,dI),(1,dA),(0,dA),(12,dI)],[],0,26,[]⟩,u4 (z1n n)⟩)]) (anb [(14,0)] f140)
def zln:FOk prog zed:=okF (bs:=[]) trivial func140 ntmps140 call140
 (λ_ _=>tr (z8l.eq_2 ..))
 (λn=>⟨λ_=>tr (z1n.eq_2 ..),
  trivial⟩)
def zfe:Nat->kz5->kz5->Ot Bool
 |0,_,_=>none
 |n+1,a,b=>
  (zz9 n a b).bind λd=>
  some d
def y6y:LSh:=⟨[(4,dB)],[],0,8,[]⟩
def zky:FI dat:=FI.of dat 201 8 0 [dL 2,dL 2] [] [dB] [] true y6y (R:=Bool) Prod.fst (·,()) (λn=>u2 (zfe n))
 (λn=>[]) (anb [] f201)
def zpj:FOk prog zky:=okF (bs:=[yz9]) ⟨z8u,trivial⟩ func201 ntmps201 call201
 (λ_ _=>tr (zfe.eq_2 ..))
 (λn=>trivial)
def zi7:Nat->zz7->zz7->Ot Bool
 |0,_,_=>none
 |n+1,a,b=>
  pIf (a.kind==b.kind)
   (pIf (a.name==b.name)
     ((zfe n a.args b.args).bind λd=>
     some d)
     (some false))
   (some false)
def y4n:LSh:=⟨[(4,dB)],[],0,24,[]⟩
def zpw:FI dat:=FI.of dat 203 24 0 [dT 4,dT 4] [] [dB] [] true y4n (R:=Bool) Prod.fst (·,()) (λn=>u2 (zi7 n))
 (λn=>[]) (anb [] f203)
def y28:FOk prog zpw:=okF (bs:=[zky]) ⟨zpj,trivial⟩ func203 ntmps203 call203
 (λ_ _=>tr (zi7.eq_2 ..))
 (λn=>trivial)
mutual
def yzm:Nat->zdu->zdu->Ot Bool
 |0,_,_=>none
 |n+1,a,b=>
  pIf ((a.length:Int) != (b.length:Int))
   (some false)
   (yzd n 0 b a (a.length:Int))
def yzd:Nat->Int->zdu->zdu->Int->Ot Bool
 |0,_,_,_,_=>none
 |n+1,a,b,c,d=>
  pIf (decide (a<d))
   ((ix c a).bind λh=>
   (ix b a).bind λg=>
   (zi7 n h g).bind λe=>
   pIf (!e)
    (some false)
    (yzd n (IntKind.i64.wrap (a+1)) b c d))
   (some true)
end
def z9e:LSh:=⟨[(6,dB)],[],0,32,[]⟩
def z0v:FI dat:=FI.of dat 202 32 0 [dL 4,dL 4,(.fn 203 [] [])] [] [dB] [] true z9e (R:=Bool) Prod.fst (·,()) (λn=>u2 (yzm n))
 (λn=>[(0,⟨⟨[(17,dI),(2,(.fn 203 [] [])),(1,dL 4),(15,dL 4),(16,dI)],[],0,32,[]⟩,u4 (yzd n)⟩)]) (anb [(14,0)] f202)
def z8s:FOk prog z0v:=okF (bs:=[zpw]) ⟨y28,trivial⟩ func202 ntmps202 call202
 (λ_ _=>tr (yzm.eq_2 ..))
 (λn=>⟨λ_=>tr (yzd.eq_2 ..),
  trivial⟩)
def zg3:Nat->kz2->kz2->Ot Bool
 |0,_,_=>none
 |n+1,a,b=>
  pIf (a.kind==b.kind)
   (pIf (a.axis==b.axis)
     (pIf (a.name==b.name)
       ((zfe n a.args b.args).bind λe=>
       pIf e
        ((yzm n a.items b.items).bind λd=>
        some d)
        (some false))
       (some false))
     (some false))
   (some false)
def y0e:LSh:=⟨[(4,dB)],[],0,38,[]⟩
def zmp:FI dat:=FI.of dat 174 38 0 [dT 5,dT 5] [] [dB] [] true y0e (R:=Bool) Prod.fst (·,()) (λn=>u2 (zg3 n))
 (λn=>[]) (anb [] f174)
def zwv:FOk prog zmp:=okF (bs:=[zky,z0v]) ⟨zpj,z8s,trivial⟩ func174 ntmps174 call174
 (λ_ _=>tr (zg3.eq_2 ..))
 (λn=>trivial)
mutual
def kzi:Nat->yzu->yzu->Ot Bool
 |0,_,_=>none
 |n+1,a,b=>
  pIf ((a.length:Int) != (b.length:Int))
   (some false)
   (kz8 n 0 b a (a.length:Int))
def kz8:Nat->Int->yzu->yzu->Int->Ot Bool
 |0,_,_,_,_=>none
 |n+1,a,b,c,d=>
  pIf (decide (a<d))
   ((ix c a).bind λh=>
   (ix b a).bind λg=>
   (zg3 n h g).bind λe=>
   pIf (!e)
    (some false)
    (kz8 n (IntKind.i64.wrap (a+1)) b c d))
   (some true)
end
def z5p:LSh:=⟨[(6,dB)],[],0,32,[]⟩
def yzx:FI dat:=FI.of dat 173 32 0 [dL 5,dL 5,(.fn 174 [] [])] [] [dB] [] true z5p (R:=Bool) Prod.fst (·,()) (λn=>u2 (kzi n))
 (λn=>[(0,⟨⟨[(17,dI),(2,(.fn 174 [] [])),(1,dL 5),(15,dL 5),(16,dI)],[],0,32,[]⟩,u4 (kz8 n)⟩)]) (anb [(14,0)] f173)
def z4u:FOk prog yzx:=okF (bs:=[zmp]) ⟨zwv,trivial⟩ func173 ntmps173 call173
 (λ_ _=>tr (kzi.eq_2 ..))
 (λn=>⟨λ_=>tr (kz8.eq_2 ..),
  trivial⟩)
end
end Go.Proofs.YthlmhmebajjkbaaGreatDoor
