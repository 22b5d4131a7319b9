/-
  Go functions as Lean functions, by a program of this repo.
-/
import Derived.Test.YtomdnlaakelghaaGreatOwn1
import Derived.Test.YtomdnlaakelghaaGreatLib2
import Derived.Test.YtomdnlaakelghaaGreatProg
import Derived.Test.YtomdnlaakelghaaGreatOwn0
namespace Go.Proofs.YtomdnlaakelghaaGreat
open Go Go.Ab
set_option linter.unusedVariables false
set_option maxRecDepth 100000
set_option maxHeartbeats 4000000
mutual
def zaj:Nat->kz1->Option Bool
 |0,_=>none
 |n+1,a0=>
  pIf (a0.kind==1)
   ((zbn n a0.num).bind λy0=>
   pIf (y0==0)
    (pIf (!a0.truth)
      (pIf ((a0.str.length:Int)==0)
        (some ((a0.list.length:Int)==0))
        (some false))
      (some false))
    (some false))
   (pIf (a0.kind==2)
     (pIf ((a0.num.num==0)&&((a0.num.den==0)&&true))
       (pIf ((a0.str.length:Int)==0)
         (some ((a0.list.length:Int)==0))
         (some false))
       (some false))
     (pIf (a0.kind==3)
       (pIf (!((a0.num.num==0)&&((a0.num.den==0)&&true)))
         (z0c n true a0.re)
         (pIf a0.truth
           (z0c n true a0.re)
           (pIf (decide ((a0.list.length:Int)>0))
             (z0c n true a0.re)
             (z0c n (decide ((a0.str.length:Int)>60)) a0.re))))
       (pIf (a0.kind==4)
         (pIf (!((a0.num.num==0)&&((a0.num.den==0)&&true)))
           (z1n n true a0.re)
           (pIf a0.truth
             (z1n n true a0.re)
             (z1n n (decide ((a0.str.length:Int)>0)) a0.re)))
         (some false))))
def z0c:Nat->Bool->kz1->Option Bool
 |0,_,_=>none
 |n+1,a0,a1=>
  pIf a0
   (some false)
   (z6o n 0 a1.re)
def z6o:Nat->Int->kz1->Option Bool
 |0,_,_=>none
 |n+1,a0,a1=>
  pIf (decide (a0<(a1.str.length:Int)))
   ((ix a1.str a0).bind λx1=>
   pIf (decide ((x1.toNat:Int)<32))
    (z6a n a0 true a1.re)
    ((ix a1.str a0).bind λx2=>
    z6a n a0 (decide ((x2.toNat:Int)>126)) a1.re))
   (some true)
def z6a:Nat->Int->Bool->kz1->Option Bool
 |0,_,_,_=>none
 |n+1,a0,a1,a2=>
  pIf a1
   (some false)
   (z6o n (IntKind.i64.wrap (a0+1)) a2.re)
def z1n:Nat->Bool->kz1->Option Bool
 |0,_,_=>none
 |n+1,a0,a1=>
  pIf a0
   (some false)
   (z6c n 0 a1.re)
def z6c:Nat->Int->kz1->Option Bool
 |0,_,_=>none
 |n+1,a0,a1=>
  pIf (decide (a0<(a1.list.length:Int)))
   ((ix a1.list a0).bind λx3=>
   (zaj n x3.re).bind λy4=>
   pIf (!y4)
    (some false)
    (z6c n (IntKind.i64.wrap (a0+1)) a1.re))
   (some true)
end
def ynz:LSh:=⟨[(2,(.d .bool))],[],0,121,[]⟩
noncomputable def zew:FI dat:=FI.of dat 132 121 0 [(.d (.st 1))] [] [(.d .bool)] [] true ynz (R:=Bool) (λx=>x.1) (λr=>(r,())) (λn x=>zaj n x.1)
 (λn=>[(0,⟨⟨[(1,(.ptr 0 0)),(71,(.d .bool))],[(.st 1)],0,121,[]⟩,λx=>z0c n x.1 x.2.1⟩),(1,⟨⟨[(4,(.d (.int .i64))),(1,(.ptr 0 0))],[(.st 1)],0,121,[]⟩,λx=>z6o n x.1 x.2.1⟩),(2,⟨⟨[(1,(.ptr 0 0)),(4,(.d (.int .i64))),(90,(.d .bool))],[(.st 1)],0,121,[]⟩,λx=>z6a n x.1 x.2.1 x.2.2.1⟩),(3,⟨⟨[(1,(.ptr 0 0)),(106,(.d .bool))],[(.st 1)],0,121,[]⟩,λx=>z1n n x.1 x.2.1⟩),(4,⟨⟨[(5,(.d (.int .i64))),(1,(.ptr 0 0))],[(.st 1)],0,121,[]⟩,λx=>z6c n x.1 x.2.1⟩)]) (ann [(26,0),(35,1),(46,2),(61,3),(70,4)] (Tryz.f132.body.getD .skip) 0).1
noncomputable def ykt:List (FI dat):=[zew]++[zfm]
theorem yml:(zew).Good Tryz.prog dat (tb ykt):=FI.kz4 (hD:=kz2 _) Tryz.func132 Tryz.ntmps132 Tryz.call132 (by kernel_rfl) (Qac (by kernel_rfl)) (by kernel_rfl) (λn=>by kernel_rfl) (λx=>by kernel_rfl) (λ_=>rfl) ⟨λ_=>rfl,λ_=>rfl,λ_=>rfl,λ_=>rfl,λ_=>rfl,trivial⟩
 (λn=>λx=>(zaj.eq_2 _ n).trans (by kernel_rfl))
 (λn=>⟨λx=>(z0c.eq_2 _ _ n).trans (by kernel_rfl),
  λx=>(z6o.eq_2 _ _ n).trans (by kernel_rfl),
  λx=>(z6a.eq_2 _ _ _ n).trans (by kernel_rfl),
  λx=>(z1n.eq_2 _ _ n).trans (by kernel_rfl),
  λx=>(z6c.eq_2 _ _ n).trans (by kernel_rfl),
  trivial⟩)
 (λx=>.inl rfl)
theorem ymn:OkL Tryz.prog [zew]:=z5f (kz2 _) (bs:=[zfm]) ⟨y9y,trivial⟩ ⟨yml,trivial⟩
theorem ygi:FOk Tryz.prog zew:=ymn.1
mutual
def zaw:Nat->kz1->Option Int
 |0,_=>none
 |n+1,a0=>
  (z7f n a0.re).bind λy0=>
  pIf (decide (y0>100))
   (z3z n true a0.re)
   ((zaf n a0.re).bind λy1=>
   z3z n (decide (y1>6)) a0.re)
def z3z:Nat->Bool->kz1->Option Int
 |0,_,_=>none
 |n+1,a0,a1=>
  pIf a0
   (some 4)
   ((zaj n a1.re).bind λy2=>
   pIf (!y2)
    (some 8)
    (some 0))
end
def ygd:LSh:=⟨[(2,(.d (.int .i64)))],[],0,14,[]⟩
noncomputable def zgk:FI dat:=FI.of dat 115 14 0 [(.d (.st 1))] [] [(.d (.int .i64))] [] true ygd (R:=Int) (λx=>x.1) (λr=>(r,())) (λn x=>zaw n x.1)
 (λn=>[(0,⟨⟨[(1,(.ptr 0 0)),(10,(.d .bool))],[(.st 1)],0,14,[]⟩,λx=>z3z n x.1 x.2.1⟩)]) (ann [(5,0)] (Tryz.f115.body.getD .skip) 0).1
noncomputable def yhh:List (FI dat):=[z8j,zeu,zew]
theorem ye6:(zgk).Good Tryz.prog dat (tb yhh):=FI.kz4 (hD:=kz2 _) Tryz.func115 Tryz.ntmps115 Tryz.call115 (by kernel_rfl) (Qac (by kernel_rfl)) (by kernel_rfl) (λn=>by kernel_rfl) (λx=>by kernel_rfl) (λ_=>rfl) ⟨λ_=>rfl,trivial⟩
 (λn=>λx=>(zaw.eq_2 _ n).trans (by kernel_rfl))
 (λn=>⟨λx=>(z3z.eq_2 _ _ n).trans (by kernel_rfl),
  trivial⟩)
 (λx=>.inl rfl)
theorem yew:OkL Tryz.prog [zgk]:=kz7 (kz2 _) (bs:=[z8j,zeu,zew]) ⟨ztt,yfc,ygi,trivial⟩ ye6
theorem yaz:FOk Tryz.prog zgk:=yew.1
mutual
def z2l:Nat->kz1->kz1->Option Bool
 |0,_,_=>none
 |n+1,a0,a1=>
  pIf (a0.kind != a1.kind)
   (z0e n true a1.re a0.re)
   (pIf (!((a0.num.num==a1.num.num)&&((a0.num.den==a1.num.den)&&true)))
     (z0e n true a1.re a0.re)
     (pIf (!(a0.truth==a1.truth))
       (z0e n true a1.re a0.re)
       (pIf (!(a0.str==a1.str))
         (z0e n true a1.re a0.re)
         (z0e n ((a0.list.length:Int) != (a1.list.length:Int)) a1.re a0.re))))
def z0e:Nat->Bool->kz1->kz1->Option Bool
 |0,_,_,_=>none
 |n+1,a0,a1,a2=>
  pIf a0
   (some false)
   (z6v n 0 a1.re a2.re)
def z6v:Nat->Int->kz1->kz1->Option Bool
 |0,_,_,_=>none
 |n+1,a0,a1,a2=>
  pIf (decide (a0<(a2.list.length:Int)))
   ((ix a2.list a0).bind λx0=>
   (ix a1.list a0).bind λx1=>
   (z2l n x0.re x1.re).bind λy2=>
   pIf (!y2)
    (some false)
    (z6v n (IntKind.i64.wrap (a0+1)) a1.re a2.re))
   (some true)
end
def yjh:LSh:=⟨[(4,(.d .bool))],[],0,60,[]⟩
noncomputable def z9w:FI dat:=FI.of dat 57 60 0 [(.d (.st 1)),(.d (.st 1))] [] [(.d .bool)] [] true yjh (R:=Bool) (λx=>x.1) (λr=>(r,())) (λn x=>z2l n x.1 x.2.1)
 (λn=>[(0,⟨⟨[(3,(.ptr 0 0)),(2,(.ptr 1 0)),(40,(.d .bool))],[(.st 1),(.st 1)],0,60,[]⟩,λx=>z0e n x.1 x.2.1 x.2.2.1⟩),(1,⟨⟨[(5,(.d (.int .i64))),(3,(.ptr 0 0)),(2,(.ptr 1 0))],[(.st 1),(.st 1)],0,60,[]⟩,λx=>z6v n x.1 x.2.1 x.2.2.1⟩)]) (ann [(5,0),(14,1)] (Tryz.f57.body.getD .skip) 0).1
noncomputable def yju:List (FI dat):=[z9w]++[]
theorem ykz:(z9w).Good Tryz.prog dat (tb yju):=FI.kz4 (hD:=kz2 _) Tryz.func57 Tryz.ntmps57 Tryz.call57 (by kernel_rfl) (Qac (by kernel_rfl)) (by kernel_rfl) (λn=>by kernel_rfl) (λx=>by kernel_rfl) (λ_=>rfl) ⟨λ_=>rfl,λ_=>rfl,trivial⟩
 (λn=>λx=>(z2l.eq_2 _ _ n).trans (by kernel_rfl))
 (λn=>⟨λx=>(z0e.eq_2 _ _ _ n).trans (by kernel_rfl),
  λx=>(z6v.eq_2 _ _ _ n).trans (by kernel_rfl),
  trivial⟩)
 (λx=>.inl rfl)
theorem yod:OkL Tryz.prog [z9w]:=z5f (kz2 _) (bs:=[]) trivial ⟨ykz,trivial⟩
theorem zvs:FOk Tryz.prog z9w:=yod.1
def zbi:Nat->(List UInt8)->Option Bool
 |0,_=>none
 |n+1,a0=>
  (zam n a0).bind λy0=>
  pIf y0
   (pIf (!(a0==[116,114,117,101]))
     (some (!(a0==[102,97,108,115,101])))
     (some false))
   (some false)
def ygw:LSh:=⟨[(2,(.d .bool))],[],0,13,[]⟩
noncomputable def zg0:FI dat:=FI.of dat 116 13 0 [(.d .str)] [] [(.d .bool)] [] true ygw (R:=Bool) (λx=>x.1) (λr=>(r,())) (λn x=>zbi n x.1)
 (λn=>[]) (ann [] (Tryz.f116.body.getD .skip) 0).1
noncomputable def ygb:List (FI dat):=[zc0]
theorem yc3:(zg0).Good Tryz.prog dat (tb ygb):=FI.kz4 (hD:=kz2 _) Tryz.func116 Tryz.ntmps116 Tryz.call116 (by kernel_rfl) (Qac (by kernel_rfl)) (by kernel_rfl) (λn=>by kernel_rfl) (λx=>by kernel_rfl) (λ_=>rfl) trivial
 (λn=>λx=>(zbi.eq_2 _ n).trans (by kernel_rfl))
 (λn=>trivial)
 (λx=>.inl rfl)
theorem yh1:OkL Tryz.prog [zg0]:=kz7 (kz2 _) (bs:=[zc0]) ⟨zvo,trivial⟩ yc3
theorem y9c:FOk Tryz.prog zg0:=yh1.1
mutual
def zai:Nat->yz1->Option Bool
 |0,_=>none
 |n+1,a0=>
  (zct n a0.op).bind λy0=>
  pIf (y0==(-2))
   (z3g n true a0.re)
   (pIf (decide (y0>=0))
     (z3g n ((a0.args.length:Int) != y0) a0.re)
     (z3g n false a0.re))
def z3g:Nat->Bool->yz1->Option Bool
 |0,_,_=>none
 |n+1,a0,a1=>
  pIf a0
   (some false)
   (pIf (a1.op==1)
     ((zaw n a1.value.re).bind λy1=>
     pIf (y1 != 0)
      (kzy n true a1.re)
      (pIf (a1.value.kind==4)
        (kzy n true a1.re)
        (pIf (a1.op != 1)
          ((z2l n a1.value.re (kz1.mk 0 (kz6.mk 0 0) false [] [])).bind λy2=>
          kzy n (!y2) a1.re)
          (kzy n false a1.re))))
     (pIf (a1.op != 1)
       ((z2l n a1.value.re (kz1.mk 0 (kz6.mk 0 0) false [] [])).bind λy3=>
       kzy n (!y3) a1.re)
       (kzy n false a1.re)))
def kzy:Nat->Bool->yz1->Option Bool
 |0,_,_=>none
 |n+1,a0,a1=>
  pIf a0
   (some false)
   (pIf (a1.op==2)
     ((zbi n a1.name).bind λy4=>
     pIf (!y4)
      (z0b n true a1.re)
      (pIf (a1.op != 2)
        (z0b n (decide ((a1.name.length:Int)>0)) a1.re)
        (z0b n false a1.re)))
     (pIf (a1.op != 2)
       (z0b n (decide ((a1.name.length:Int)>0)) a1.re)
       (z0b n false a1.re)))
def z0b:Nat->Bool->yz1->Option Bool
 |0,_,_=>none
 |n+1,a0,a1=>
  pIf a0
   (some false)
   (z61 n 0 a1.re)
def z61:Nat->Int->yz1->Option Bool
 |0,_,_=>none
 |n+1,a0,a1=>
  pIf (decide (a0<(a1.args.length:Int)))
   ((ix a1.args a0).bind λx5=>
   (zai n x5.re).bind λy6=>
   pIf (!y6)
    (some false)
    (z61 n (IntKind.i64.wrap (a0+1)) a1.re))
   (some true)
end
def yjm:LSh:=⟨[(2,(.d .bool))],[],0,82,[]⟩
noncomputable def zel:FI dat:=FI.of dat 103 82 0 [(.d (.st 2))] [] [(.d .bool)] [] true yjm (R:=Bool) (λx=>x.1) (λr=>(r,())) (λn x=>zai n x.1)
 (λn=>[(0,⟨⟨[(1,(.ptr 0 0)),(20,(.d .bool))],[(.st 2)],0,82,[]⟩,λx=>z3g n x.1 x.2.1⟩),(1,⟨⟨[(1,(.ptr 0 0)),(47,(.d .bool))],[(.st 2)],0,82,[]⟩,λx=>kzy n x.1 x.2.1⟩),(2,⟨⟨[(1,(.ptr 0 0)),(67,(.d .bool))],[(.st 2)],0,82,[]⟩,λx=>z0b n x.1 x.2.1⟩),(3,⟨⟨[(4,(.d (.int .i64))),(1,(.ptr 0 0))],[(.st 2)],0,82,[]⟩,λx=>z61 n x.1 x.2.1⟩)]) (ann [(7,0),(15,1),(23,2),(32,3)] (Tryz.f103.body.getD .skip) 0).1
noncomputable def yj3:List (FI dat):=[zel]++[zih,zgk,z9w,zg0]
theorem yiz:(zel).Good Tryz.prog dat (tb yj3):=FI.kz4 (hD:=kz2 _) Tryz.func103 Tryz.ntmps103 Tryz.call103 (by kernel_rfl) (Qac (by kernel_rfl)) (by kernel_rfl) (λn=>by kernel_rfl) (λx=>by kernel_rfl) (λ_=>rfl) ⟨λ_=>rfl,λ_=>rfl,λ_=>rfl,λ_=>rfl,trivial⟩
 (λn=>λx=>(zai.eq_2 _ n).trans (by kernel_rfl))
 (λn=>⟨λx=>(z3g.eq_2 _ _ n).trans (by kernel_rfl),
  λx=>(kzy.eq_2 _ _ n).trans (by kernel_rfl),
  λx=>(z0b.eq_2 _ _ n).trans (by kernel_rfl),
  λx=>(z61.eq_2 _ _ n).trans (by kernel_rfl),
  trivial⟩)
 (λx=>.inl rfl)
theorem yjt:OkL Tryz.prog [zel]:=z5f (kz2 _) (bs:=[zih,zgk,z9w,zg0]) ⟨yg4,yaz,zvs,y9c,trivial⟩ ⟨yiz,trivial⟩
theorem yca:FOk Tryz.prog zel:=yjt.1
mutual
def z1h:Nat->yz1->Option Int
 |0,_=>none
 |n+1,a0=>
  (z7d n a0.re).bind λy0=>
  pIf (decide (y0>100))
   (z56 n true a0.re)
   ((zaq n a0.re).bind λy1=>
   z56 n (decide (y1>12)) a0.re)
def z56:Nat->Bool->yz1->Option Int
 |0,_,_=>none
 |n+1,a0,a1=>
  pIf a0
   (some 4)
   ((zai n a1.re).bind λy2=>
   pIf (!y2)
    (some 8)
    (some 0))
end
def yhj:LSh:=⟨[(2,(.d (.int .i64)))],[],0,14,[]⟩
noncomputable def z78:FI dat:=FI.of dat 81 14 0 [(.d (.st 2))] [] [(.d (.int .i64))] [] true yhj (R:=Int) (λx=>x.1) (λr=>(r,())) (λn x=>z1h n x.1)
 (λn=>[(0,⟨⟨[(1,(.ptr 0 0)),(10,(.d .bool))],[(.st 2)],0,14,[]⟩,λx=>z56 n x.1 x.2.1⟩)]) (ann [(5,0)] (Tryz.f81.body.getD .skip) 0).1
noncomputable def yd0:List (FI dat):=[z8h,zem,zel]
theorem yea:(z78).Good Tryz.prog dat (tb yd0):=FI.kz4 (hD:=kz2 _) Tryz.func81 Tryz.ntmps81 Tryz.call81 (by kernel_rfl) (Qac (by kernel_rfl)) (by kernel_rfl) (λn=>by kernel_rfl) (λx=>by kernel_rfl) (λ_=>rfl) ⟨λ_=>rfl,trivial⟩
 (λn=>λx=>(z1h.eq_2 _ n).trans (by kernel_rfl))
 (λn=>⟨λx=>(z56.eq_2 _ _ n).trans (by kernel_rfl),
  trivial⟩)
 (λx=>.inl rfl)
theorem yhs:OkL Tryz.prog [z78]:=kz7 (kz2 _) (bs:=[z8h,zem,zel]) ⟨ztl,yfg,yca,trivial⟩ yea
theorem zmx:FOk Tryz.prog z78:=yhs.1
mutual
def zc7:Nat->Int->Option Int
 |0,_=>none
 |n+1,a0=>
  pIf (a0==2)
   (z7t n a0 true)
   (z7t n a0 (a0==3))
def z7t:Nat->Int->Bool->Option Int
 |0,_,_=>none
 |n+1,a0,a1=>
  pIf a1
   (some 3)
   (pIf (a0==4)
     (z7r n true)
     (z7r n (a0==6)))
def z7r:Nat->Bool->Option Int
 |0,_=>none
 |n+1,a0=>
  pIf a0
   (some 1)
   (some 0)
end
def yqp:LSh:=⟨[(2,(.d (.int .i64)))],[],0,10,[]⟩
noncomputable def zec:FI dat:=FI.of dat 86 10 0 [(.d (.int .u8))] [] [(.d (.int .i64))] [] true yqp (R:=Int) (λx=>x.1) (λr=>(r,())) (λn x=>zc7 n x.1)
 (λn=>[(0,⟨⟨[(3,(.d (.int .u8))),(4,(.d .bool))],[],0,10,[]⟩,λx=>z7t n x.1 x.2.1⟩),(1,⟨⟨[(7,(.d .bool))],[],0,10,[]⟩,λx=>z7r n x.1⟩)]) (ann [(12,0),(22,1)] (Tryz.f86.body.getD .skip) 0).1
noncomputable def yqv:List (FI dat):=[]
theorem ypi:(zec).Good Tryz.prog dat (tb yqv):=FI.kz4 (hD:=kz2 _) Tryz.func86 Tryz.ntmps86 Tryz.call86 (by kernel_rfl) (Qac (by kernel_rfl)) (by kernel_rfl) (λn=>by kernel_rfl) (λx=>by kernel_rfl) (λ_=>rfl) ⟨λ_=>rfl,λ_=>rfl,trivial⟩
 (λn=>λx=>(zc7.eq_2 _ n).trans (by kernel_rfl))
 (λn=>⟨λx=>(z7t.eq_2 _ _ n).trans (by kernel_rfl),
  λx=>(z7r.eq_2 _ n).trans (by kernel_rfl),
  trivial⟩)
 (λx=>.inl rfl)
theorem ypf:OkL Tryz.prog [zec]:=kz7 (kz2 _) (bs:=[]) trivial ypi
theorem zyn:FOk Tryz.prog zec:=ypf.1
mutual
def z9m:Nat->zz3->Option Bool
 |0,_=>none
 |n+1,a0=>
  pIf (decide (a0.kind<1))
   (z06 n true a0)
   (pIf (decide (a0.kind>6))
     (z06 n true a0)
     ((zzs n a0.args).bind λy0=>
     (z1h n y0.re).bind λy1=>
     pIf (y1 != 0)
      (z06 n true a0)
      ((zc7 n a0.kind).bind λy2=>
      z06 n (decide ((a0.args.length:Int)<y2)) a0)))
def z06:Nat->Bool->zz3->Option Bool
 |0,_,_=>none
 |n+1,a0,a1=>
  pIf a0
   (some false)
   (pIf (a1.kind==4)
     (z2y n true a1)
     (z2y n (a1.kind==5) a1))
def z2y:Nat->Bool->zz3->Option Bool
 |0,_,_=>none
 |n+1,a0,a1=>
  pIf a0
   (pIf (decide (a1.axis>2))
     (some false)
     (z35 n a1))
   (pIf (a1.axis != 0)
     (some false)
     (z35 n a1))
def z35:Nat->zz3->Option Bool
 |0,_=>none
 |n+1,a0=>
  pIf (a0.kind==5)
   (z5z n true a0)
   (z5z n (a0.kind==6) a0)
def z5z:Nat->Bool->zz3->Option Bool
 |0,_,_=>none
 |n+1,a0,a1=>
  pIf a0
   (pIf (decide ((a1.name.length:Int)>0))
     (yzq n true a1)
     (pIf (a1.kind==5)
       (pIf (decide ((a1.args.length:Int)>0))
         (yzq n true a1)
         (pIf (a1.kind==6)
           (yzq n (decide ((a1.args.length:Int)>1)) a1)
           (yzq n false a1)))
       (pIf (a1.kind==6)
         (yzq n (decide ((a1.args.length:Int)>1)) a1)
         (yzq n false a1))))
   ((z3p n a1.name).bind λy3=>
   pIf (!y3)
    (some false)
    (z38 n a1))
def yzq:Nat->Bool->zz3->Option Bool
 |0,_,_=>none
 |n+1,a0,a1=>
  pIf a0
   (some false)
   (z38 n a1)
def z38:Nat->zz3->Option Bool
 |0,_=>none
 |n+1,a0=>
  pIf (!((a0.kind==5)==(decide ((a0.items.length:Int)>0))))
   (some false)
   (z17 n 0 a0)
def z17:Nat->Int->zz3->Option Bool
 |0,_,_=>none
 |n+1,a0,a1=>
  pIf (decide (a0<(a1.items.length:Int)))
   ((ix a1.items a0).bind λx4=>
   pIf (decide (x4.kind<1))
    (zzv n a0 true a1)
    (pIf (decide (x4.kind>3))
      (zzv n a0 true a1)
      ((z3p n x4.name).bind λy5=>
      pIf (!y5)
       (zzv n a0 true a1)
       (pIf ((x4.args.length:Int)==0)
         (zzv n a0 true a1)
         ((zzs n x4.args).bind λy6=>
         (z1h n y6.re).bind λy7=>
         zzv n a0 (y7 != 0) a1)))))
   (some true)
def zzv:Nat->Int->Bool->zz3->Option Bool
 |0,_,_,_=>none
 |n+1,a0,a1,a2=>
  pIf a1
   (some false)
   (z17 n (IntKind.i64.wrap (a0+1)) a2)
end
def y7v:LSh:=⟨[(2,(.d .bool))],[],0,128,[]⟩
noncomputable def zea:FI dat:=FI.of dat 82 128 0 [(.d (.st 5))] [] [(.d .bool)] [] true y7v (R:=Bool) (λx=>x.1) (λr=>(r,())) (λn x=>z9m n x.1)
 (λn=>[(0,⟨⟨[(1,(.ptr 0 0)),(28,(.d .bool))],[(.st 5)],0,128,[]⟩,λx=>z06 n x.1 x.2.1⟩),(1,⟨⟨[(1,(.ptr 0 0)),(36,(.d .bool))],[(.st 5)],0,128,[]⟩,λx=>z2y n x.1 x.2.1⟩),(2,⟨⟨[(1,(.ptr 0 0))],[(.st 5)],0,128,[]⟩,λx=>z35 n x.1⟩),(3,⟨⟨[(1,(.ptr 0 0)),(50,(.d .bool))],[(.st 5)],0,128,[]⟩,λx=>z5z n x.1 x.2.1⟩),(4,⟨⟨[(1,(.ptr 0 0)),(76,(.d .bool))],[(.st 5)],0,128,[]⟩,λx=>yzq n x.1 x.2.1⟩),(5,⟨⟨[(1,(.ptr 0 0))],[(.st 5)],0,128,[]⟩,λx=>z38 n x.1⟩),(6,⟨⟨[(3,(.d (.int .i64))),(1,(.ptr 0 0))],[(.st 5)],0,128,[]⟩,λx=>z17 n x.1 x.2.1⟩),(7,⟨⟨[(1,(.ptr 0 0)),(3,(.d (.int .i64))),(127,(.d .bool))],[(.st 5)],0,128,[]⟩,λx=>zzv n x.1 x.2.1 x.2.2.1⟩)]) (ann [(5,0),(13,1),(28,2),(31,3),(34,4),(46,5),(58,6),(71,7)] (Tryz.f82.body.getD .skip) 0).1
noncomputable def yax:List (FI dat):=[z4b,z78,zec,zcc]
theorem y7b:(zea).Good Tryz.prog dat (tb yax):=FI.kz4 (hD:=kz2 _) Tryz.func82 Tryz.ntmps82 Tryz.call82 (by kernel_rfl) (Qac (by kernel_rfl)) (by kernel_rfl) (λn=>by kernel_rfl) (λx=>by kernel_rfl) (λ_=>rfl) ⟨λ_=>rfl,λ_=>rfl,λ_=>rfl,λ_=>rfl,λ_=>rfl,λ_=>rfl,λ_=>rfl,λ_=>rfl,trivial⟩
 (λn=>λx=>(z9m.eq_2 _ n).trans (by kernel_rfl))
 (λn=>⟨λx=>(z06.eq_2 _ _ n).trans (by kernel_rfl),
  λx=>(z2y.eq_2 _ _ n).trans (by kernel_rfl),
  λx=>(z35.eq_2 _ n).trans (by kernel_rfl),
  λx=>(z5z.eq_2 _ _ n).trans (by kernel_rfl),
  λx=>(yzq.eq_2 _ _ n).trans (by kernel_rfl),
  λx=>(z38.eq_2 _ n).trans (by kernel_rfl),
  λx=>(z17.eq_2 _ _ n).trans (by kernel_rfl),
  λx=>(zzv.eq_2 _ _ _ n).trans (by kernel_rfl),
  trivial⟩)
 (λx=>.inl rfl)
theorem y76:OkL Tryz.prog [zea]:=kz7 (kz2 _) (bs:=[z4b,z78,zec,zcc]) ⟨zju,zmx,zyn,zvm,trivial⟩ y7b
theorem y5x:FOk Tryz.prog zea:=y76.1
mutual
def z9n:Nat->zz0->Option Bool
 |0,_=>none
 |n+1,a0=>
  z1c n 0 a0
def z1c:Nat->Int->zz0->Option Bool
 |0,_,_=>none
 |n+1,a0,a1=>
  pIf (decide (a0<(a1.attrs.length:Int)))
   ((ix a1.attrs a0).bind λx0=>
   (z3p n x0.name).bind λy1=>
   pIf (!y1)
    (z32 n a0 true a1)
    ((ix a1.attrs a0).bind λx2=>
    (z1h n x2.value.re).bind λy3=>
    z32 n a0 (y3 != 0) a1))
   (z1b n 0 a1)
def z32:Nat->Int->Bool->zz0->Option Bool
 |0,_,_,_=>none
 |n+1,a0,a1,a2=>
  pIf a1
   (some false)
   (z1c n (IntKind.i64.wrap (a0+1)) a2)
def z1b:Nat->Int->zz0->Option Bool
 |0,_,_=>none
 |n+1,a0,a1=>
  pIf (decide (a0<(a1.rules.length:Int)))
   ((ix a1.rules a0).bind λx4=>
   (z3p n x4.name).bind λy5=>
   pIf (!y5)
    (some false)
    (z1j n 0 a0 x4 a1))
   (some true)
def z1j:Nat->Int->Int->yz3->zz0->Option Bool
 |0,_,_,_,_=>none
 |n+1,a0,a1,a2,a3=>
  pIf (decide (a0<(a2.params.length:Int)))
   ((ix a2.params a0).bind λx6=>
   (z3p n x6).bind λy7=>
   pIf (!y7)
    (some false)
    (z1j n (IntKind.i64.wrap (a0+1)) a1 a2 a3))
   (z1g n 0 a1 a2 a3)
def z1g:Nat->Int->Int->yz3->zz0->Option Bool
 |0,_,_,_,_=>none
 |n+1,a0,a1,a2,a3=>
  pIf (decide (a0<(a2.cases.length:Int)))
   ((ix a2.cases a0).bind λx8=>
   pIf (decide (x8.weight<1))
    (z1e n a1 a0 true x8.re a2 a3)
    (pIf (decide (x8.weight>1000000))
      (z1e n a1 a0 true x8.re a2 a3)
      ((z1h n x8.when_.re).bind λy9=>
      z1e n a1 a0 (y9 != 0) x8.re a2 a3)))
   (z1b n (IntKind.i64.wrap (a1+1)) a3)
def z1e:Nat->Int->Int->Bool->yz4->yz3->zz0->Option Bool
 |0,_,_,_,_,_,_=>none
 |n+1,a0,a1,a2,a3,a4,a5=>
  pIf a2
   (some false)
   (z1d n 0 a0 a1 a3.re a4 a5)
def z1d:Nat->Int->Int->Int->yz4->yz3->zz0->Option Bool
 |0,_,_,_,_,_,_=>none
 |n+1,a0,a1,a2,a3,a4,a5=>
  pIf (decide (a0<(a3.do_.length:Int)))
   ((ix a3.do_ a0).bind λx10=>
   (z9m n x10).bind λy11=>
   pIf (!y11)
    (some false)
    (z1d n (IntKind.i64.wrap (a0+1)) a1 a2 a3.re a4 a5))
   (z1g n (IntKind.i64.wrap (a2+1)) a1 a4 a5)
end
def yat:LSh:=⟨[(2,(.d .bool))],[],0,105,[]⟩
noncomputable def zdp:FI dat:=FI.of dat 48 105 0 [(.d (.st 8))] [] [(.d .bool)] [] true yat (R:=Bool) (λx=>x.1) (λr=>(r,())) (λn x=>z9n n x.1)
 (λn=>[(0,⟨⟨[(3,(.d (.int .i64))),(1,(.ptr 0 0))],[(.st 8)],0,105,[]⟩,λx=>z1c n x.1 x.2.1⟩),(1,⟨⟨[(1,(.ptr 0 0)),(3,(.d (.int .i64))),(34,(.d .bool))],[(.st 8)],0,105,[]⟩,λx=>z32 n x.1 x.2.1 x.2.2.1⟩),(2,⟨⟨[(4,(.d (.int .i64))),(1,(.ptr 0 0))],[(.st 8)],0,105,[]⟩,λx=>z1b n x.1 x.2.1⟩),(3,⟨⟨[(6,(.d (.int .i64))),(5,(.ptr 0 0)),(1,(.ptr 1 0)),(4,(.d (.int .i64)))],[(.st 7),(.st 8)],0,105,[]⟩,λx=>z1j n x.1 x.2.1 x.2.2.1 x.2.2.2.1⟩),(4,⟨⟨[(7,(.d (.int .i64))),(5,(.ptr 0 0)),(1,(.ptr 1 0)),(4,(.d (.int .i64)))],[(.st 7),(.st 8)],0,105,[]⟩,λx=>z1g n x.1 x.2.1 x.2.2.1 x.2.2.2.1⟩),(5,⟨⟨[(8,(.ptr 0 0)),(5,(.ptr 1 0)),(1,(.ptr 2 0)),(4,(.d (.int .i64))),(7,(.d (.int .i64))),(90,(.d .bool))],[(.st 6),(.st 7),(.st 8)],0,105,[]⟩,λx=>z1e n x.1 x.2.1 x.2.2.1 x.2.2.2.1 x.2.2.2.2.1 x.2.2.2.2.2.1⟩),(6,⟨⟨[(9,(.d (.int .i64))),(8,(.ptr 0 0)),(5,(.ptr 1 0)),(1,(.ptr 2 0)),(4,(.d (.int .i64))),(7,(.d (.int .i64)))],[(.st 6),(.st 7),(.st 8)],0,105,[]⟩,λx=>z1d n x.1 x.2.1 x.2.2.1 x.2.2.2.1 x.2.2.2.2.1 x.2.2.2.2.2.1⟩)]) (ann [(6,0),(17,1),(27,2),(50,3),(70,4),(84,5),(92,6)] (Tryz.f48.body.getD .skip) 0).1
noncomputable def y8q:List (FI dat):=[zcc,z78,zea]
theorem y88:(zdp).Good Tryz.prog dat (tb y8q):=FI.kz4 (hD:=kz2 _) Tryz.func48 Tryz.ntmps48 Tryz.call48 (by kernel_rfl) (Qac (by kernel_rfl)) (by kernel_rfl) (λn=>by kernel_rfl) (λx=>by kernel_rfl) (λ_=>rfl) ⟨λ_=>rfl,λ_=>rfl,λ_=>rfl,λ_=>rfl,λ_=>rfl,λ_=>rfl,λ_=>rfl,trivial⟩
 (λn=>λx=>(z9n.eq_2 _ n).trans (by kernel_rfl))
 (λn=>⟨λx=>(z1c.eq_2 _ _ n).trans (by kernel_rfl),
  λx=>(z32.eq_2 _ _ _ n).trans (by kernel_rfl),
  λx=>(z1b.eq_2 _ _ n).trans (by kernel_rfl),
  λx=>(z1j.eq_2 _ _ _ _ n).trans (by kernel_rfl),
  λx=>(z1g.eq_2 _ _ _ _ n).trans (by kernel_rfl),
  λx=>(z1e.eq_2 _ _ _ _ _ _ n).trans (by kernel_rfl),
  λx=>(z1d.eq_2 _ _ _ _ _ _ n).trans (by kernel_rfl),
  trivial⟩)
 (λx=>.inl rfl)
theorem y9z:OkL Tryz.prog [zdp]:=kz7 (kz2 _) (bs:=[zcc,z78,zea]) ⟨zvm,zmx,y5x,trivial⟩ y88
theorem y49:FOk Tryz.prog zdp:=y9z.1
mutual
def z3x:Nat->zz0->Option (List (List UInt8))
 |0,_=>none
 |n+1,a0=>
  z3y n 0 a0 []
def z3y:Nat->Int->zz0->(List (List UInt8))->Option (List (List UInt8))
 |0,_,_,_=>none
 |n+1,a0,a1,a2=>
  pIf (decide (a0<(a1.attrs.length:Int)))
   ((ix a1.attrs a0).bind λx0=>
   (ext a2 [x0.name]).bind λx1=>
   z3y n (IntKind.i64.wrap (a0+1)) a1 x1)
   (some a2)
end
def ycg:LSh:=⟨[(2,(.d (.sl .str)))],[],0,22,[]⟩
noncomputable def z74:FI dat:=FI.of dat 56 22 0 [(.d (.st 8))] [] [(.d (.sl .str))] [] true ycg (R:=List (List UInt8)) (λx=>x.1) (λr=>(r,())) (λn x=>z3x n x.1)
 (λn=>[(0,⟨⟨[(4,(.d (.int .i64))),(1,(.ptr 0 0)),(3,(.own 1))],[(.st 8),(.acc 9 .str true)],0,22,[]⟩,λx=>z3y n x.1 x.2.1 x.2.2.1⟩)]) (ann [(8,0)] (Tryz.f56.body.getD .skip) 0).1
noncomputable def ycv:List (FI dat):=[]
theorem yh3:(z74).Good Tryz.prog dat (tb ycv):=FI.kz4 (hD:=kz2 _) Tryz.func56 Tryz.ntmps56 Tryz.call56 (by kernel_rfl) (Qac (by kernel_rfl)) (by kernel_rfl) (λn=>by kernel_rfl) (λx=>by kernel_rfl) (λ_=>rfl) ⟨λ_=>rfl,trivial⟩
 (λn=>λx=>(z3x.eq_2 _ n).trans (by kernel_rfl))
 (λn=>⟨λx=>(z3y.eq_2 _ _ _ n).trans (by kernel_rfl),
  trivial⟩)
 (λx=>.inl rfl)
theorem yh2:OkL Tryz.prog [z74]:=kz7 (kz2 _) (bs:=[]) trivial yh3
theorem zn0:FOk Tryz.prog z74:=yh2.1
mutual
def z0k:Nat->(List (List UInt8))->(List UInt8)->Option Int
 |0,_,_=>none
 |n+1,a0,a1=>
  zbp n 0 a1 a0
def zbp:Nat->Int->(List UInt8)->(List (List UInt8))->Option Int
 |0,_,_,_=>none
 |n+1,a0,a1,a2=>
  pIf (decide (a0<(a2.length:Int)))
   ((ix a2 a0).bind λx0=>
   pIf (x0==a1)
    (some a0)
    (zbp n (IntKind.i64.wrap (a0+1)) a1 a2))
   (some (-1))
end
def yug:LSh:=⟨[(4,(.d (.int .i64)))],[],0,19,[]⟩
noncomputable def z68:FI dat:=FI.of dat 52 19 0 [(.d (.sl .str)),(.d .str)] [] [(.d (.int .i64))] [] true yug (R:=Int) (λx=>x.1) (λr=>(r,())) (λn x=>z0k n x.1 x.2.1)
 (λn=>[(0,⟨⟨[(5,(.d (.int .i64))),(1,(.d .str)),(0,(.d (.sl .str)))],[],0,19,[]⟩,λx=>zbp n x.1 x.2.1 x.2.2.1⟩)]) (ann [(6,0)] (Tryz.f52.body.getD .skip) 0).1
noncomputable def yt7:List (FI dat):=[]
theorem yv1:(z68).Good Tryz.prog dat (tb yt7):=FI.kz4 (hD:=kz2 _) Tryz.func52 Tryz.ntmps52 Tryz.call52 (by kernel_rfl) (Qac (by kernel_rfl)) (by kernel_rfl) (λn=>by kernel_rfl) (λx=>by kernel_rfl) (λ_=>rfl) ⟨λ_=>rfl,trivial⟩
 (λn=>λx=>(z0k.eq_2 _ _ n).trans (by kernel_rfl))
 (λn=>⟨λx=>(zbp.eq_2 _ _ _ n).trans (by kernel_rfl),
  trivial⟩)
 (λx=>.inl rfl)
theorem yv0:OkL Tryz.prog [z68]:=kz7 (kz2 _) (bs:=[]) trivial yv1
theorem zk5:FOk Tryz.prog z68:=yv0.1
mutual
def z8z:Nat->(List (List UInt8))->Option Bool
 |0,_=>none
 |n+1,a0=>
  z3q n 0 a0
def z3q:Nat->Int->(List (List UInt8))->Option Bool
 |0,_,_=>none
 |n+1,a0,a1=>
  pIf (decide (a0<(a1.length:Int)))
   ((ix a1 a0).bind λx0=>
   (z0k n a1 x0).bind λy1=>
   pIf (decide (y1<a0))
    (some true)
    (z3q n (IntKind.i64.wrap (a0+1)) a1))
   (some false)
end
def yet:LSh:=⟨[(2,(.d .bool))],[],0,18,[]⟩
noncomputable def zgf:FI dat:=FI.of dat 83 18 0 [(.d (.sl .str))] [] [(.d .bool)] [] true yet (R:=Bool) (λx=>x.1) (λr=>(r,())) (λn x=>z8z n x.1)
 (λn=>[(0,⟨⟨[(3,(.d (.int .i64))),(0,(.d (.sl .str)))],[],0,18,[]⟩,λx=>z3q n x.1 x.2.1⟩)]) (ann [(6,0)] (Tryz.f83.body.getD .skip) 0).1
noncomputable def yek:List (FI dat):=[z68]
theorem ycu:(zgf).Good Tryz.prog dat (tb yek):=FI.kz4 (hD:=kz2 _) Tryz.func83 Tryz.ntmps83 Tryz.call83 (by kernel_rfl) (Qac (by kernel_rfl)) (by kernel_rfl) (λn=>by kernel_rfl) (λx=>by kernel_rfl) (λ_=>rfl) ⟨λ_=>rfl,trivial⟩
 (λn=>λx=>(z8z.eq_2 _ n).trans (by kernel_rfl))
 (λn=>⟨λx=>(z3q.eq_2 _ _ n).trans (by kernel_rfl),
  trivial⟩)
 (λx=>.inl rfl)
theorem yeo:OkL Tryz.prog [zgf]:=kz7 (kz2 _) (bs:=[z68]) ⟨zk5,trivial⟩ ycu
theorem ybt:FOk Tryz.prog zgf:=yeo.1
mutual
def z3t:Nat->zz0->Option (List (List UInt8))
 |0,_=>none
 |n+1,a0=>
  z4m n 0 a0 []
def z4m:Nat->Int->zz0->(List (List UInt8))->Option (List (List UInt8))
 |0,_,_,_=>none
 |n+1,a0,a1,a2=>
  pIf (decide (a0<(a1.rules.length:Int)))
   ((ix a1.rules a0).bind λx0=>
   (ext a2 [x0.name]).bind λx1=>
   z4m n (IntKind.i64.wrap (a0+1)) a1 x1)
   (some a2)
end
def yfd:LSh:=⟨[(2,(.d (.sl .str)))],[],0,22,[]⟩
noncomputable def z2j:FI dat:=FI.of dat 53 22 0 [(.d (.st 8))] [] [(.d (.sl .str))] [] true yfd (R:=List (List UInt8)) (λx=>x.1) (λr=>(r,())) (λn x=>z3t n x.1)
 (λn=>[(0,⟨⟨[(4,(.d (.int .i64))),(1,(.ptr 0 0)),(3,(.own 1))],[(.st 8),(.acc 9 .str true)],0,22,[]⟩,λx=>z4m n x.1 x.2.1 x.2.2.1⟩)]) (ann [(8,0)] (Tryz.f53.body.getD .skip) 0).1
noncomputable def ydh:List (FI dat):=[]
theorem yeu:(z2j).Good Tryz.prog dat (tb ydh):=FI.kz4 (hD:=kz2 _) Tryz.func53 Tryz.ntmps53 Tryz.call53 (by kernel_rfl) (Qac (by kernel_rfl)) (by kernel_rfl) (λn=>by kernel_rfl) (λx=>by kernel_rfl) (λ_=>rfl) ⟨λ_=>rfl,trivial⟩
 (λn=>λx=>(z3t.eq_2 _ n).trans (by kernel_rfl))
 (λn=>⟨λx=>(z4m.eq_2 _ _ _ n).trans (by kernel_rfl),
  trivial⟩)
 (λx=>.inl rfl)
theorem ye4:OkL Tryz.prog [z2j]:=kz7 (kz2 _) (bs:=[]) trivial yeu
theorem zio:FOk Tryz.prog z2j:=ye4.1
mutual
def zba:Nat->(List UInt8)->(List (List UInt8))->Option (Int×(List (List UInt8)))
 |0,_,_=>none
 |n+1,a0,a1=>
  kzp n 0 a0 a1
def kzp:Nat->Int->(List UInt8)->(List (List UInt8))->Option (Int×(List (List UInt8)))
 |0,_,_,_=>none
 |n+1,a0,a1,a2=>
  pIf (decide (a0<(a2.length:Int)))
   ((ix a2 a0).bind λx0=>
   pIf (x0==a1)
    (some (a0,a2))
    (kzp n (IntKind.i64.wrap (a0+1)) a1 a2))
   (some ((-1),a2))
end
def yex:LSh:=⟨[(4,(.d (.int .i64)))],[(.acc 9 .str true)],1,19,[]⟩
noncomputable def zg1:FI dat:=FI.of dat 52 19 1 [(.own 0),(.d .str)] [(.acc 9 .str true)] [(.d (.int .i64))] [(.acc 9 .str true)] false yex (R:=Int×(List (List UInt8))) (λx=>(x.1,x.2.1)) (λr=>(r.1,r.2,())) (λn x=>zba n x.1 x.2.1)
 (λn=>[(0,⟨⟨[(5,(.d (.int .i64))),(1,(.d .str)),(0,(.own 0))],[(.acc 9 .str true)],1,19,[]⟩,λx=>kzp n x.1 x.2.1 x.2.2.1⟩)]) (ann [(6,0)] (Tryz.f52.body.getD .skip) 0).1
noncomputable def ycw:List (FI dat):=[]
theorem yhu:(zg1).Good Tryz.prog dat (tb ycw):=FI.kz4 (hD:=kz2 _) Tryz.func52 Tryz.ntmps52 Tryz.call52 (by kernel_rfl) (Qac (by kernel_rfl)) (by kernel_rfl) (λn=>by kernel_rfl) (λx=>by kernel_rfl) (λ_=>rfl) ⟨λ_=>rfl,trivial⟩
 (λn=>λx=>(zba.eq_2 _ _ n).trans (by kernel_rfl))
 (λn=>⟨λx=>(kzp.eq_2 _ _ _ n).trans (by kernel_rfl),
  trivial⟩)
 (λx=>.inr (by kernel_rfl))
theorem ydn:OkL Tryz.prog [zg1]:=kz7 (kz2 _) (bs:=[]) trivial yhu
theorem ybk:FOk Tryz.prog zg1:=ydn.1
mutual
def z7h:Nat->(List (List UInt8))->Option (Bool×(List (List UInt8)))
 |0,_=>none
 |n+1,a0=>
  z14 n 0 a0
def z14:Nat->Int->(List (List UInt8))->Option (Bool×(List (List UInt8)))
 |0,_,_=>none
 |n+1,a0,a1=>
  pIf (decide (a0<(a1.length:Int)))
   ((ix a1 a0).bind λx0=>
   (zba n x0 a1).bind λy1=>
   pIf (decide (y1.1<a0))
    (some (true,y1.2))
    (z14 n (IntKind.i64.wrap (a0+1)) y1.2))
   (some (false,a1))
end
def y1r:LSh:=⟨[(2,(.d .bool))],[(.acc 9 .str true)],1,18,[]⟩
noncomputable def zb1:FI dat:=FI.of dat 83 18 1 [(.own 0)] [(.acc 9 .str true)] [(.d .bool)] [(.acc 9 .str true)] false y1r (R:=Bool×(List (List UInt8))) (λx=>(x.1,x.2.1)) (λr=>(r.1,r.2,())) (λn x=>z7h n x.1)
 (λn=>[(0,⟨⟨[(3,(.d (.int .i64))),(0,(.own 0))],[(.acc 9 .str true)],1,18,[]⟩,λx=>z14 n x.1 x.2.1⟩)]) (ann [(6,0)] (Tryz.f83.body.getD .skip) 0).1
noncomputable def y2o:List (FI dat):=[zg1]
theorem y1g:(zb1).Good Tryz.prog dat (tb y2o):=FI.kz4 (hD:=kz2 _) Tryz.func83 Tryz.ntmps83 Tryz.call83 (by kernel_rfl) (Qac (by kernel_rfl)) (by kernel_rfl) (λn=>by kernel_rfl) (λx=>by kernel_rfl) (λ_=>rfl) ⟨λ_=>rfl,trivial⟩
 (λn=>λx=>(z7h.eq_2 _ n).trans (by kernel_rfl))
 (λn=>⟨λx=>(z14.eq_2 _ _ n).trans (by kernel_rfl),
  trivial⟩)
 (λx=>.inr (by kernel_rfl))
theorem y28:OkL Tryz.prog [zb1]:=kz7 (kz2 _) (bs:=[zg1]) ⟨ybk,trivial⟩ y1g
theorem y0o:FOk Tryz.prog zb1:=y28.1
mutual
def z8q:Nat->zz0->Option Bool
 |0,_=>none
 |n+1,a0=>
  (z3x n a0).bind λy0=>
  (z8z n y0).bind λy1=>
  pIf y1
   (z1v n true a0)
   ((z3t n a0).bind λy2=>
   (z8z n y2).bind λy3=>
   z1v n y3 a0)
def z1v:Nat->Bool->zz0->Option Bool
 |0,_,_=>none
 |n+1,a0,a1=>
  pIf a0
   (some true)
   (z0l n 0 a1)
def z0l:Nat->Int->zz0->Option Bool
 |0,_,_=>none
 |n+1,a0,a1=>
  pIf (decide (a0<(a1.rules.length:Int)))
   ((ix a1.rules a0).bind λx4=>
   (ext [] x4.params).bind λx5=>
   (z3x n a1).bind λy6=>
   (ext x5 y6).bind λx7=>
   (z7h n x7).bind λy8=>
   pIf y8.1
    (some true)
    (z0l n (IntKind.i64.wrap (a0+1)) a1))
   (some false)
end
def y4y:LSh:=⟨[(2,(.d .bool))],[],0,31,[]⟩
noncomputable def zci:FI dat:=FI.of dat 49 31 0 [(.d (.st 8))] [] [(.d .bool)] [] true y4y (R:=Bool) (λx=>x.1) (λr=>(r,())) (λn x=>z8q n x.1)
 (λn=>[(0,⟨⟨[(1,(.ptr 0 0)),(11,(.d .bool))],[(.st 8)],0,31,[]⟩,λx=>z1v n x.1 x.2.1⟩),(1,⟨⟨[(3,(.d (.int .i64))),(1,(.ptr 0 0))],[(.st 8)],0,31,[]⟩,λx=>z0l n x.1 x.2.1⟩)]) (ann [(5,0),(14,1)] (Tryz.f49.body.getD .skip) 0).1
noncomputable def y56:List (FI dat):=[zb1,z74,zgf,z2j]
theorem y5u:(zci).Good Tryz.prog dat (tb y56):=FI.kz4 (hD:=kz2 _) Tryz.func49 Tryz.ntmps49 Tryz.call49 (by kernel_rfl) (Qac (by kernel_rfl)) (by kernel_rfl) (λn=>by kernel_rfl) (λx=>by kernel_rfl) (λ_=>rfl) ⟨λ_=>rfl,λ_=>rfl,trivial⟩
 (λn=>λx=>(z8q.eq_2 _ n).trans (by kernel_rfl))
 (λn=>⟨λx=>(z1v.eq_2 _ _ n).trans (by kernel_rfl),
  λx=>(z0l.eq_2 _ _ n).trans (by kernel_rfl),
  trivial⟩)
 (λx=>.inl rfl)
theorem y65:OkL Tryz.prog [zci]:=kz7 (kz2 _) (bs:=[zb1,z74,zgf,z2j]) ⟨y0o,zn0,ybt,zio,trivial⟩ y5u
theorem y25:FOk Tryz.prog zci:=y65.1
mutual
def za6:Nat->yz1->(List (List UInt8))->Option (List (List UInt8))
 |0,_,_=>none
 |n+1,a0,a1=>
  pIf (a0.op==2)
   (z3i n 0 a0.re a1)
   (z3d n a1 a0.re)
def z3i:Nat->Int->yz1->(List (List UInt8))->Option (List (List UInt8))
 |0,_,_,_=>none
 |n+1,a0,a1,a2=>
  pIf (decide (a0<(a2.length:Int)))
   ((ix a2 a0).bind λx0=>
   z6z n a0 (Op.bytesLess x0 a1.name) a1.re a2)
   (z6z n a0 false a1.re a2)
def z6z:Nat->Int->Bool->yz1->(List (List UInt8))->Option (List (List UInt8))
 |0,_,_,_,_=>none
 |n+1,a0,a1,a2,a3=>
  pIf a1
   (z3i n (IntKind.i64.wrap (a0+1)) a2.re a3)
   (pIf (a0==(a3.length:Int))
     (z60 n a0 true a2.re a3)
     ((ix a3 a0).bind λx1=>
     z60 n a0 (!(x1==a2.name)) a2.re a3))
def z60:Nat->Int->Bool->yz1->(List (List UInt8))->Option (List (List UInt8))
 |0,_,_,_,_=>none
 |n+1,a0,a1,a2,a3=>
  pIf a1
   ((ext a3 [[]]).bind λx4=>
   (yqr x4 (IntKind.i64.wrap (a0+1))).bind λx5=>
   (yqr x4 a0).bind λx6=>
   (zxi x4 (IntKind.i64.wrap (a0+1)) a0).bind λx7=>
   (ix x7 a0).bind λx8=>
   z3d n (x7.set (Int.toNat a0) a2.name) a2.re)
   (z3d n a3 a2.re)
def z3d:Nat->(List (List UInt8))->yz1->Option (List (List UInt8))
 |0,_,_=>none
 |n+1,a0,a1=>
  z6j n 0 a0 a1.re
def z6j:Nat->Int->(List (List UInt8))->yz1->Option (List (List UInt8))
 |0,_,_,_=>none
 |n+1,a0,a1,a2=>
  pIf (decide (a0<(a2.args.length:Int)))
   ((ix a2.args a0).bind λx2=>
   (za6 n x2.re a1).bind λy3=>
   z6j n (IntKind.i64.wrap (a0+1)) y3 a2.re)
   (some a1)
end
def ymw:LSh:=⟨[(4,(.own 0))],[(.acc 9 .str true)],0,69,[]⟩
noncomputable def zeg:FI dat:=FI.of dat 117 69 0 [(.d (.st 2)),(.own 0)] [(.acc 9 .str true)] [(.own 0)] [(.acc 9 .str true)] false ymw (R:=List (List UInt8)) (λx=>x.1) (λr=>(r,())) (λn x=>za6 n x.1 x.2.1)
 (λn=>[(0,⟨⟨[(5,(.d (.int .i64))),(2,(.ptr 0 0)),(1,(.own 1))],[(.st 2),(.acc 9 .str true)],0,69,[]⟩,λx=>z3i n x.1 x.2.1 x.2.2.1⟩),(1,⟨⟨[(2,(.ptr 0 0)),(1,(.own 1)),(5,(.d (.int .i64))),(22,(.d .bool))],[(.st 2),(.acc 9 .str true)],0,69,[]⟩,λx=>z6z n x.1 x.2.1 x.2.2.1 x.2.2.2.1⟩),(2,⟨⟨[(2,(.ptr 0 0)),(5,(.d (.int .i64))),(1,(.own 1)),(37,(.d .bool))],[(.st 2),(.acc 9 .str true)],0,69,[]⟩,λx=>z60 n x.1 x.2.1 x.2.2.1 x.2.2.2.1⟩),(3,⟨⟨[(1,(.own 0)),(2,(.ptr 1 0))],[(.acc 9 .str true),(.st 2)],0,69,[]⟩,λx=>z3d n x.1 x.2.1⟩),(4,⟨⟨[(6,(.d (.int .i64))),(1,(.own 0)),(2,(.ptr 1 0))],[(.acc 9 .str true),(.st 2)],0,69,[]⟩,λx=>z6j n x.1 x.2.1 x.2.2.1⟩)]) (ann [(10,0),(14,1),(21,2),(29,3),(33,4)] (Tryz.f117.body.getD .skip) 0).1
noncomputable def yjk:List (FI dat):=[zeg]++[]
theorem ynn:(zeg).Good Tryz.prog dat (tb yjk):=FI.kz4 (hD:=kz2 _) Tryz.func117 Tryz.ntmps117 Tryz.call117 (by kernel_rfl) (Qac (by kernel_rfl)) (by kernel_rfl) (λn=>by kernel_rfl) (λx=>by kernel_rfl) (λ_=>rfl) ⟨λ_=>rfl,λ_=>rfl,λ_=>rfl,λ_=>rfl,λ_=>rfl,trivial⟩
 (λn=>λx=>(za6.eq_2 _ _ n).trans (by kernel_rfl))
 (λn=>⟨λx=>(z3i.eq_2 _ _ _ n).trans (by kernel_rfl),
  λx=>(z6z.eq_2 _ _ _ _ n).trans (by kernel_rfl),
  λx=>(z60.eq_2 _ _ _ _ n).trans (by kernel_rfl),
  λx=>(z3d.eq_2 _ _ n).trans (by kernel_rfl),
  λx=>(z6j.eq_2 _ _ _ n).trans (by kernel_rfl),
  trivial⟩)
 (λx=>.inr (by kernel_rfl))
theorem yjf:OkL Tryz.prog [zeg]:=z5f (kz2 _) (bs:=[]) trivial ⟨ynn,trivial⟩
theorem yfs:FOk Tryz.prog zeg:=yjf.1
def zbc:Nat->yz1->Option ((List (List UInt8))×Int)
 |0,_=>none
 |n+1,a0=>
  (z1h n a0.re).bind λy0=>
  pIf (y0 != 0)
   ((z1h n a0.re).bind λy1=>
   some ([],y1))
   ((za6 n a0.re []).bind λy2=>
   some (y2,0))
def ydc:LSh:=⟨[(2,(.d (.sl .str))),(3,(.d (.int .i64)))],[],0,11,[]⟩
noncomputable def zgd:FI dat:=FI.of dat 104 11 0 [(.d (.st 2))] [] [(.d (.sl .str)),(.d (.int .i64))] [] true ydc (R:=(List (List UInt8))×Int) (λx=>(x.1,x.2.1)) (λr=>(r.1,r.2,())) (λn x=>zbc n x.1)
 (λn=>[]) (ann [] (Tryz.f104.body.getD .skip) 0).1
noncomputable def yge:List (FI dat):=[zeg,z78]
theorem yfm:(zgd).Good Tryz.prog dat (tb yge):=FI.kz4 (hD:=kz2 _) Tryz.func104 Tryz.ntmps104 Tryz.call104 (by kernel_rfl) (Qac (by kernel_rfl)) (by kernel_rfl) (λn=>by kernel_rfl) (λx=>by kernel_rfl) (λ_=>rfl) trivial
 (λn=>λx=>(zbc.eq_2 _ n).trans (by kernel_rfl))
 (λn=>trivial)
 (λx=>.inl rfl)
theorem yhp:OkL Tryz.prog [zgd]:=kz7 (kz2 _) (bs:=[zeg,z78]) ⟨yfs,zmx,trivial⟩ yfm
theorem y9b:FOk Tryz.prog zgd:=yhp.1
mutual
def z81:Nat->yz1->(List (List UInt8))->Option Bool
 |0,_,_=>none
 |n+1,a0,a1=>
  (zbc n a0.re).bind λy0=>
  z2x n 0 y0.1 a1
def z2x:Nat->Int->(List (List UInt8))->(List (List UInt8))->Option Bool
 |0,_,_,_=>none
 |n+1,a0,a1,a2=>
  pIf (decide (a0<(a1.length:Int)))
   ((ix a1 a0).bind λx1=>
   (z0k n a2 x1).bind λy2=>
   pIf (decide (y2<0))
    (some false)
    (z2x n (IntKind.i64.wrap (a0+1)) a1 a2))
   (some true)
end
def y71:LSh:=⟨[(4,(.d .bool))],[],0,26,[]⟩
noncomputable def zdv:FI dat:=FI.of dat 84 26 0 [(.d (.st 2)),(.d (.sl .str))] [] [(.d .bool)] [] true y71 (R:=Bool) (λx=>x.1) (λr=>(r,())) (λn x=>z81 n x.1 x.2.1)
 (λn=>[(0,⟨⟨[(7,(.d (.int .i64))),(5,(.d (.sl .str))),(1,(.d (.sl .str)))],[],0,26,[]⟩,λx=>z2x n x.1 x.2.1 x.2.2.1⟩)]) (ann [(8,0)] (Tryz.f84.body.getD .skip) 0).1
noncomputable def ybs:List (FI dat):=[zgd,z68]
theorem y83:(zdv).Good Tryz.prog dat (tb ybs):=FI.kz4 (hD:=kz2 _) Tryz.func84 Tryz.ntmps84 Tryz.call84 (by kernel_rfl) (Qac (by kernel_rfl)) (by kernel_rfl) (λn=>by kernel_rfl) (λx=>by kernel_rfl) (λ_=>rfl) ⟨λ_=>rfl,trivial⟩
 (λn=>λx=>(z81.eq_2 _ _ n).trans (by kernel_rfl))
 (λn=>⟨λx=>(z2x.eq_2 _ _ _ n).trans (by kernel_rfl),
  trivial⟩)
 (λx=>.inl rfl)
theorem y75:OkL Tryz.prog [zdv]:=kz7 (kz2 _) (bs:=[zgd,z68]) ⟨y9b,zk5,trivial⟩ y83
theorem y5l:FOk Tryz.prog zdv:=y75.1
mutual
def zbg:Nat->yz4->Option (List yz1)
 |0,_=>none
 |n+1,a0=>
  z50 n 0 a0.re [a0.when_.re]
def z50:Nat->Int->yz4->(List yz1)->Option (List yz1)
 |0,_,_,_=>none
 |n+1,a0,a1,a2=>
  pIf (decide (a0<(a1.do_.length:Int)))
   ((ix a1.do_ a0).bind λx0=>
   (ext a2 x0.args).bind λx1=>
   z4q n 0 a0 a1.re x1)
   (some a2)
def z4q:Nat->Int->Int->yz4->(List yz1)->Option (List yz1)
 |0,_,_,_,_=>none
 |n+1,a0,a1,a2,a3=>
  (ix a2.do_ a1).bind λx2=>
  pIf (decide (a0<(x2.items.length:Int)))
   ((ix a2.do_ a1).bind λx3=>
   (ix x3.items a0).bind λx4=>
   (ext a3 x4.args).bind λx5=>
   z4q n (IntKind.i64.wrap (a0+1)) a1 a2.re x5)
   (z50 n (IntKind.i64.wrap (a1+1)) a2.re a3)
end
def ye7:LSh:=⟨[(2,(.d (.sl (.st 2))))],[],0,48,[]⟩
noncomputable def zgp:FI dat:=FI.of dat 85 48 0 [(.d (.st 6))] [] [(.d (.sl (.st 2)))] [] true ye7 (R:=List yz1) (λx=>x.1) (λr=>(r,())) (λn x=>zbg n x.1)
 (λn=>[(0,⟨⟨[(4,(.d (.int .i64))),(1,(.ptr 0 0)),(3,(.own 1))],[(.st 6),(.acc 45 (.st 2) true)],0,48,[]⟩,λx=>z50 n x.1 x.2.1 x.2.2.1⟩),(1,⟨⟨[(5,(.d (.int .i64))),(4,(.d (.int .i64))),(1,(.ptr 0 0)),(3,(.own 1))],[(.st 6),(.acc 45 (.st 2) true)],0,48,[]⟩,λx=>z4q n x.1 x.2.1 x.2.2.1 x.2.2.2.1⟩)]) (ann [(8,0),(22,1)] (Tryz.f85.body.getD .skip) 0).1
noncomputable def ydx:List (FI dat):=[]
theorem ybx:(zgp).Good Tryz.prog dat (tb ydx):=FI.kz4 (hD:=kz2 _) Tryz.func85 Tryz.ntmps85 Tryz.call85 (by kernel_rfl) (Qac (by kernel_rfl)) (by kernel_rfl) (λn=>by kernel_rfl) (λx=>by kernel_rfl) (λ_=>rfl) ⟨λ_=>rfl,λ_=>rfl,trivial⟩
 (λn=>λx=>(zbg.eq_2 _ n).trans (by kernel_rfl))
 (λn=>⟨λx=>(z50.eq_2 _ _ _ n).trans (by kernel_rfl),
  λx=>(z4q.eq_2 _ _ _ _ n).trans (by kernel_rfl),
  trivial⟩)
 (λx=>.inl rfl)
theorem yc9:OkL Tryz.prog [zgp]:=kz7 (kz2 _) (bs:=[]) trivial ybx
theorem ybc:FOk Tryz.prog zgp:=yc9.1
mutual
def zae:Nat->yz3->Option (List yzw)
 |0,_=>none
 |n+1,a0=>
  z6k n 0 [] a0
def z6k:Nat->Int->(List yzw)->yz3->Option (List yzw)
 |0,_,_,_=>none
 |n+1,a0,a1,a2=>
  pIf (decide (a0<(a2.cases.length:Int)))
   (z3k n 0 a0 a1 a2)
   (some a1)
def z3k:Nat->Int->Int->(List yzw)->yz3->Option (List yzw)
 |0,_,_,_,_=>none
 |n+1,a0,a1,a2,a3=>
  (ix a3.cases a1).bind λx0=>
  pIf (decide (a0<(x0.do_.length:Int)))
   ((ix a3.cases a1).bind λx1=>
   (ix x1.do_ a0).bind λx2=>
   pIf (x2.kind != 5)
    (z5y n a1 a0 (x2.kind != 6) x2 a3 a2)
    (z5y n a1 a0 false x2 a3 a2))
   (z6k n (IntKind.i64.wrap (a1+1)) a2 a3)
def z5y:Nat->Int->Int->Bool->zz3->yz3->(List yzw)->Option (List yzw)
 |0,_,_,_,_,_,_=>none
 |n+1,a0,a1,a2,a3,a4,a5=>
  pIf a2
   ((zc7 n a3.kind).bind λy3=>
   (ext a5 [(yzw.mk a3.name (IntKind.i64.wrap ((a3.args.length:Int)-y3)))]).bind λx4=>
   z6n n a0 a1 a3 x4 a4)
   (z6n n a0 a1 a3 a5 a4)
def z6n:Nat->Int->Int->zz3->(List yzw)->yz3->Option (List yzw)
 |0,_,_,_,_,_=>none
 |n+1,a0,a1,a2,a3,a4=>
  z62 n 0 a0 a1 a2 a3 a4
def z62:Nat->Int->Int->Int->zz3->(List yzw)->yz3->Option (List yzw)
 |0,_,_,_,_,_,_=>none
 |n+1,a0,a1,a2,a3,a4,a5=>
  pIf (decide (a0<(a3.items.length:Int)))
   ((ix a3.items a0).bind λx5=>
   (ix a3.items a0).bind λx6=>
   (ext a4 [(yzw.mk x5.name (IntKind.i64.wrap ((x6.args.length:Int)-1)))]).bind λx7=>
   z62 n (IntKind.i64.wrap (a0+1)) a1 a2 a3 x7 a5)
   (z3k n (IntKind.i64.wrap (a2+1)) a1 a4 a5)
end
def ymo:LSh:=⟨[(2,(.d (.sl (.st 11))))],[],0,82,[]⟩
noncomputable def zce:FI dat:=FI.of dat 51 82 0 [(.d (.st 7))] [] [(.d (.sl (.st 11)))] [] true ymo (R:=List yzw) (λx=>x.1) (λr=>(r,())) (λn x=>zae n x.1)
 (λn=>[(0,⟨⟨[(3,(.own 0)),(4,(.d (.int .i64))),(1,(.ptr 1 0))],[(.acc 99 (.st 11) true),(.st 7)],0,82,[]⟩,λx=>z6k n x.1 x.2.1 x.2.2.1⟩),(1,⟨⟨[(5,(.d (.int .i64))),(3,(.own 0)),(4,(.d (.int .i64))),(1,(.ptr 1 0))],[(.acc 99 (.st 11) true),(.st 7)],0,82,[]⟩,λx=>z3k n x.1 x.2.1 x.2.2.1 x.2.2.2.1⟩),(2,⟨⟨[(6,(.ptr 0 0)),(4,(.d (.int .i64))),(1,(.ptr 1 0)),(5,(.d (.int .i64))),(3,(.own 2)),(42,(.d .bool))],[(.st 5),(.st 7),(.acc 99 (.st 11) true)],0,82,[]⟩,λx=>z5y n x.1 x.2.1 x.2.2.1 x.2.2.2.1 x.2.2.2.2.1 x.2.2.2.2.2.1⟩),(3,⟨⟨[(6,(.ptr 0 0)),(3,(.own 1)),(4,(.d (.int .i64))),(1,(.ptr 2 0)),(5,(.d (.int .i64)))],[(.st 5),(.acc 99 (.st 11) true),(.st 7)],0,82,[]⟩,λx=>z6n n x.1 x.2.1 x.2.2.1 x.2.2.2.1 x.2.2.2.2.1⟩),(4,⟨⟨[(7,(.d (.int .i64))),(6,(.ptr 0 0)),(3,(.own 1)),(4,(.d (.int .i64))),(1,(.ptr 2 0)),(5,(.d (.int .i64)))],[(.st 5),(.acc 99 (.st 11) true),(.st 7)],0,82,[]⟩,λx=>z62 n x.1 x.2.1 x.2.2.1 x.2.2.2.1 x.2.2.2.2.1 x.2.2.2.2.2.1⟩)]) (ann [(8,0),(20,1),(34,2),(37,3),(40,4)] (Tryz.f51.body.getD .skip) 0).1
noncomputable def yol:List (FI dat):=[zec]
theorem ykb:(zce).Good Tryz.prog dat (tb yol):=FI.kz4 (hD:=kz2 _) Tryz.func51 Tryz.ntmps51 Tryz.call51 (by kernel_rfl) (Qac (by kernel_rfl)) (by kernel_rfl) (λn=>by kernel_rfl) (λx=>by kernel_rfl) (λ_=>rfl) ⟨λ_=>rfl,λ_=>rfl,λ_=>rfl,λ_=>rfl,λ_=>rfl,trivial⟩
 (λn=>λx=>(zae.eq_2 _ n).trans (by kernel_rfl))
 (λn=>⟨λx=>(z6k.eq_2 _ _ _ n).trans (by kernel_rfl),
  λx=>(z3k.eq_2 _ _ _ _ n).trans (by kernel_rfl),
  λx=>(z5y.eq_2 _ _ _ _ _ _ n).trans (by kernel_rfl),
  λx=>(z6n.eq_2 _ _ _ _ _ n).trans (by kernel_rfl),
  λx=>(z62.eq_2 _ _ _ _ _ _ n).trans (by kernel_rfl),
  trivial⟩)
 (λx=>.inl rfl)
theorem ym8:OkL Tryz.prog [zce]:=kz7 (kz2 _) (bs:=[zec]) ⟨zyn,trivial⟩ ykb
theorem zvd:FOk Tryz.prog zce:=ym8.1
mutual
def zbj:Nat->zz0->Option Bool
 |0,_=>none
 |n+1,a0=>
  (z3x n a0).bind λy0=>
  z55 n 0 y0 a0
def z55:Nat->Int->(List (List UInt8))->zz0->Option Bool
 |0,_,_,_=>none
 |n+1,a0,a1,a2=>
  pIf (decide (a0<(a2.attrs.length:Int)))
   ((ix a2.attrs a0).bind λx1=>
   (sub a1 0 a0).bind λx2=>
   (z81 n x1.value.re x2).bind λy3=>
   pIf (!y3)
    (some false)
    (z55 n (IntKind.i64.wrap (a0+1)) a1 a2))
   (z2e n 0 a1 a2)
def z2e:Nat->Int->(List (List UInt8))->zz0->Option Bool
 |0,_,_,_=>none
 |n+1,a0,a1,a2=>
  pIf (decide (a0<(a2.rules.length:Int)))
   ((ix a2.rules a0).bind λx4=>
   (ext [[115,120],[115,121],[115,122]] a1).bind λx5=>
   (ext x5 x4.params).bind λx6=>
   z23 n x6 0 a1 a0 x4 a2)
   (some true)
def z23:Nat->(List (List UInt8))->Int->(List (List UInt8))->Int->yz3->zz0->Option Bool
 |0,_,_,_,_,_,_=>none
 |n+1,a0,a1,a2,a3,a4,a5=>
  pIf (decide (a1<(a4.cases.length:Int)))
   ((ix a4.cases a1).bind λx7=>
   (zbg n x7.re).bind λy8=>
   z44 n 0 a0 y8 a2 a3 a1 a4 a5)
   ((zae n a4).bind λy9=>
   z27 n 0 y9 a2 a3 a5)
def z44:Nat->Int->(List (List UInt8))->(List yz1)->(List (List UInt8))->Int->Int->yz3->zz0->Option Bool
 |0,_,_,_,_,_,_,_,_=>none
 |n+1,a0,a1,a2,a3,a4,a5,a6,a7=>
  pIf (decide (a0<(a2.length:Int)))
   ((ix a2 a0).bind λx10=>
   (z81 n x10.re a1).bind λy11=>
   pIf (!y11)
    (some false)
    (z44 n (IntKind.i64.wrap (a0+1)) a1 a2 a3 a4 a5 a6 a7))
   (z23 n a1 (IntKind.i64.wrap (a5+1)) a3 a4 a6 a7)
def z27:Nat->Int->(List yzw)->(List (List UInt8))->Int->zz0->Option Bool
 |0,_,_,_,_,_=>none
 |n+1,a0,a1,a2,a3,a4=>
  pIf (decide (a0<(a1.length:Int)))
   ((z3t n a4).bind λy12=>
   (ix a1 a0).bind λx13=>
   (z0k n y12 x13.name).bind λy14=>
   pIf (decide (y14<0))
    (some false)
    (z27 n (IntKind.i64.wrap (a0+1)) a1 a2 a3 a4))
   (z2e n (IntKind.i64.wrap (a3+1)) a2 a4)
end
def ycs:LSh:=⟨[(2,(.d .bool))],[],0,94,[]⟩
noncomputable def zg5:FI dat:=FI.of dat 50 94 0 [(.d (.st 8))] [] [(.d .bool)] [] true ycs (R:=Bool) (λx=>x.1) (λr=>(r,())) (λn x=>zbj n x.1)
 (λn=>[(0,⟨⟨[(4,(.d (.int .i64))),(3,(.d (.sl .str))),(1,(.ptr 0 0))],[(.st 8)],0,94,[]⟩,λx=>z55 n x.1 x.2.1 x.2.2.1⟩),(1,⟨⟨[(1,(.ptr 0 0)),(5,(.d (.int .i64))),(3,(.d (.sl .str)))],[(.st 8)],0,94,[]⟩,λx=>z2e n x.1 x.2.1 x.2.2.1⟩),(2,⟨⟨[(7,(.d (.sl .str))),(8,(.d (.int .i64))),(6,(.ptr 0 0)),(1,(.ptr 1 0)),(3,(.d (.sl .str))),(5,(.d (.int .i64)))],[(.st 7),(.st 8)],0,94,[]⟩,λx=>z23 n x.1 x.2.1 x.2.2.1 x.2.2.2.1 x.2.2.2.2.1 x.2.2.2.2.2.1⟩),(3,⟨⟨[(10,(.d (.int .i64))),(7,(.d (.sl .str))),(9,(.d (.sl (.st 2)))),(6,(.ptr 0 0)),(1,(.ptr 1 0)),(3,(.d (.sl .str))),(5,(.d (.int .i64))),(8,(.d (.int .i64)))],[(.st 7),(.st 8)],0,94,[]⟩,λx=>z44 n x.1 x.2.1 x.2.2.1 x.2.2.2.1 x.2.2.2.2.1 x.2.2.2.2.2.1 x.2.2.2.2.2.2.1 x.2.2.2.2.2.2.2.1⟩),(4,⟨⟨[(12,(.d (.int .i64))),(11,(.d (.sl (.st 11)))),(1,(.ptr 0 0)),(3,(.d (.sl .str))),(5,(.d (.int .i64)))],[(.st 8)],0,94,[]⟩,λx=>z27 n x.1 x.2.1 x.2.2.1 x.2.2.2.1 x.2.2.2.2.1⟩)]) (ann [(8,0),(29,1),(46,2),(60,3),(83,4)] (Tryz.f50.body.getD .skip) 0).1
noncomputable def ygr:List (FI dat):=[z74,zdv,zgp,zce,z2j,z68]
theorem yfp:(zg5).Good Tryz.prog dat (tb ygr):=FI.kz4 (hD:=kz2 _) Tryz.func50 Tryz.ntmps50 Tryz.call50 (by kernel_rfl) (Qac (by kernel_rfl)) (by kernel_rfl) (λn=>by kernel_rfl) (λx=>by kernel_rfl) (λ_=>rfl) ⟨λ_=>rfl,λ_=>rfl,λ_=>rfl,λ_=>rfl,λ_=>rfl,trivial⟩
 (λn=>λx=>(zbj.eq_2 _ n).trans (by kernel_rfl))
 (λn=>⟨λx=>(z55.eq_2 _ _ _ n).trans (by kernel_rfl),
  λx=>(z2e.eq_2 _ _ _ n).trans (by kernel_rfl),
  λx=>(z23.eq_2 _ _ _ _ _ _ n).trans (by kernel_rfl),
  λx=>(z44.eq_2 _ _ _ _ _ _ _ _ n).trans (by kernel_rfl),
  λx=>(z27.eq_2 _ _ _ _ _ n).trans (by kernel_rfl),
  trivial⟩)
 (λx=>.inl rfl)
theorem yde:OkL Tryz.prog [zg5]:=kz7 (kz2 _) (bs:=[z74,zdv,zgp,zce,z2j,z68]) ⟨zn0,y5l,ybc,zvd,zio,zk5,trivial⟩ yfp
theorem ybq:FOk Tryz.prog zg5:=yde.1
mutual
def z4s:Nat->zz0->Option Int
 |0,_=>none
 |n+1,a0=>
  (zcv n a0).bind λy0=>
  pIf y0
   (some 4)
   ((z9n n a0).bind λy1=>
   pIf (!y1)
    (some 8)
    ((z8q n a0).bind λy2=>
    pIf y2
     (some 14)
     ((zbj n a0).bind λy3=>
     pIf (!y3)
      (some 6)
      (z4u n 0 a0))))
def z4u:Nat->Int->zz0->Option Int
 |0,_,_=>none
 |n+1,a0,a1=>
  pIf (decide (a0<(a1.rules.length:Int)))
   ((ix a1.rules a0).bind λx4=>
   (zae n x4).bind λy5=>
   z4a n 0 y5 a0 a1)
   (some 0)
def z4a:Nat->Int->(List yzw)->Int->zz0->Option Int
 |0,_,_,_,_=>none
 |n+1,a0,a1,a2,a3=>
  pIf (decide (a0<(a1.length:Int)))
   ((ix a1 a0).bind λx6=>
   (z3t n a3).bind λy7=>
   (ix a1 a0).bind λx8=>
   (z0k n y7 x8.name).bind λy9=>
   (ix a3.rules y9).bind λx10=>
   pIf (x6.many != (x10.params.length:Int))
    (some 2)
    (z4a n (IntKind.i64.wrap (a0+1)) a1 a2 a3))
   (z4u n (IntKind.i64.wrap (a2+1)) a3)
end
def yf3:LSh:=⟨[(2,(.d (.int .i64)))],[],0,59,[]⟩
noncomputable def zg6:FI dat:=FI.of dat 18 59 0 [(.d (.st 8))] [] [(.d (.int .i64))] [] true yf3 (R:=Int) (λx=>x.1) (λr=>(r,())) (λn x=>z4s n x.1)
 (λn=>[(0,⟨⟨[(1,(.ptr 0 0)),(3,(.d (.int .i64)))],[(.st 8)],0,59,[]⟩,λx=>z4u n x.1 x.2.1⟩),(1,⟨⟨[(5,(.d (.int .i64))),(4,(.d (.sl (.st 11)))),(1,(.ptr 0 0)),(3,(.d (.int .i64)))],[(.st 8)],0,59,[]⟩,λx=>z4a n x.1 x.2.1 x.2.2.1 x.2.2.2.1⟩)]) (ann [(33,0),(47,1)] (Tryz.f18.body.getD .skip) 0).1
noncomputable def yf0:List (FI dat):=[zhx,zdp,zci,zg5,zce,z2j,z68]
theorem yd7:(zg6).Good Tryz.prog dat (tb yf0):=FI.kz4 (hD:=kz2 _) Tryz.func18 Tryz.ntmps18 Tryz.call18 (by kernel_rfl) (Qac (by kernel_rfl)) (by kernel_rfl) (λn=>by kernel_rfl) (λx=>by kernel_rfl) (λ_=>rfl) ⟨λ_=>rfl,λ_=>rfl,trivial⟩
 (λn=>λx=>(z4s.eq_2 _ n).trans (by kernel_rfl))
 (λn=>⟨λx=>(z4u.eq_2 _ _ n).trans (by kernel_rfl),
  λx=>(z4a.eq_2 _ _ _ _ n).trans (by kernel_rfl),
  trivial⟩)
 (λx=>.inl rfl)
theorem yd1:OkL Tryz.prog [zg6]:=kz7 (kz2 _) (bs:=[zhx,zdp,zci,zg5,zce,z2j,z68]) ⟨yd8,y49,y25,ybq,zvd,zio,zk5,trivial⟩ yd7
theorem yba:FOk Tryz.prog zg6:=yd1.1
mutual
def z2h:Nat->yz1->yz1->Option Bool
 |0,_,_=>none
 |n+1,a0,a1=>
  pIf (a0.op != a1.op)
   (z1q n true a1.re a0.re)
   (pIf (!(a0.name==a1.name))
     (z1q n true a1.re a0.re)
     ((z2l n a0.value.re a1.value.re).bind λy0=>
     pIf (!y0)
      (z1q n true a1.re a0.re)
      (z1q n ((a0.args.length:Int) != (a1.args.length:Int)) a1.re a0.re)))
def z1q:Nat->Bool->yz1->yz1->Option Bool
 |0,_,_,_=>none
 |n+1,a0,a1,a2=>
  pIf a0
   (some false)
   (z6e n 0 a1.re a2.re)
def z6e:Nat->Int->yz1->yz1->Option Bool
 |0,_,_,_=>none
 |n+1,a0,a1,a2=>
  pIf (decide (a0<(a2.args.length:Int)))
   ((ix a2.args a0).bind λx1=>
   (ix a1.args a0).bind λx2=>
   (z2h n x1.re x2.re).bind λy3=>
   pIf (!y3)
    (some false)
    (z6e n (IntKind.i64.wrap (a0+1)) a1.re a2.re))
   (some true)
end
def ymh:LSh:=⟨[(4,(.d .bool))],[],0,54,[]⟩
noncomputable def z2q:FI dat:=FI.of dat 21 54 0 [(.d (.st 2)),(.d (.st 2))] [] [(.d .bool)] [] true ymh (R:=Bool) (λx=>x.1) (λr=>(r,())) (λn x=>z2h n x.1 x.2.1)
 (λn=>[(0,⟨⟨[(3,(.ptr 0 0)),(2,(.ptr 1 0)),(34,(.d .bool))],[(.st 2),(.st 2)],0,54,[]⟩,λx=>z1q n x.1 x.2.1 x.2.2.1⟩),(1,⟨⟨[(5,(.d (.int .i64))),(3,(.ptr 0 0)),(2,(.ptr 1 0))],[(.st 2),(.st 2)],0,54,[]⟩,λx=>z6e n x.1 x.2.1 x.2.2.1⟩)]) (ann [(5,0),(14,1)] (Tryz.f21.body.getD .skip) 0).1
noncomputable def yo7:List (FI dat):=[z2q]++[z9w]
theorem ymg:(z2q).Good Tryz.prog dat (tb yo7):=FI.kz4 (hD:=kz2 _) Tryz.func21 Tryz.ntmps21 Tryz.call21 (by kernel_rfl) (Qac (by kernel_rfl)) (by kernel_rfl) (λn=>by kernel_rfl) (λx=>by kernel_rfl) (λ_=>rfl) ⟨λ_=>rfl,λ_=>rfl,trivial⟩
 (λn=>λx=>(z2h.eq_2 _ _ n).trans (by kernel_rfl))
 (λn=>⟨λx=>(z1q.eq_2 _ _ _ n).trans (by kernel_rfl),
  λx=>(z6e.eq_2 _ _ _ n).trans (by kernel_rfl),
  trivial⟩)
 (λx=>.inl rfl)
theorem ymp:OkL Tryz.prog [z2q]:=z5f (kz2 _) (bs:=[z9w]) ⟨zvs,trivial⟩ ⟨ymg,trivial⟩
theorem zjn:FOk Tryz.prog z2q:=ymp.1
def z8k:Nat->yz1->Option Bool
 |0,_=>none
 |n+1,a0=>
  (z2h n a0.re (yz1.mk 0 (kz1.mk 0 (kz6.mk 0 0) false [] []) [] [])).bind λy0=>
  some y0
def ym5:LSh:=⟨[(2,(.d .bool))],[],0,6,[]⟩
noncomputable def zia:FI dat:=FI.of dat 54 6 0 [(.d (.st 2))] [] [(.d .bool)] [] true ym5 (R:=Bool) (λx=>x.1) (λr=>(r,())) (λn x=>z8k n x.1)
 (λn=>[]) (ann [] (Tryz.f54.body.getD .skip) 0).1
noncomputable def yo4:List (FI dat):=[z2q]
theorem ylg:(zia).Good Tryz.prog dat (tb yo4):=FI.kz4 (hD:=kz2 _) Tryz.func54 Tryz.ntmps54 Tryz.call54 (by kernel_rfl) (Qac (by kernel_rfl)) (by kernel_rfl) (λn=>by kernel_rfl) (λx=>by kernel_rfl) (λ_=>rfl) trivial
 (λn=>λx=>(z8k.eq_2 _ n).trans (by kernel_rfl))
 (λn=>trivial)
 (λx=>.inl rfl)
theorem yoc:OkL Tryz.prog [zia]:=kz7 (kz2 _) (bs:=[z2q]) ⟨zjn,trivial⟩ ylg
theorem yeh:FOk Tryz.prog zia:=yoc.1
mutual
def z9g:Nat->yz6->Option Bool
 |0,_=>none
 |n+1,a0=>
  pIf (a0.rule_.name==[])
   (pIf ((a0.rule_.params.length:Int)==0)
     (z18 n ((a0.rule_.cases.length:Int)==0) a0.re)
     (z18 n false a0.re))
   (z18 n false a0.re)
def z18:Nat->Bool->yz6->Option Bool
 |0,_,_=>none
 |n+1,a0,a1=>
  pIf (a1.kind==1)
   (z39 n a0 a1.kind true a1.re)
   (z39 n a0 a1.kind (a1.kind==3) a1.re)
def z39:Nat->Bool->Int->Bool->yz6->Option Bool
 |0,_,_,_,_=>none
 |n+1,a0,a1,a2,a3=>
  pIf a2
   (pIf ((a3.name.length:Int)==0)
     (pIf ((a3.to_.length:Int)==0)
       ((z8k n a3.value.re).bind λy0=>
       some y0)
       (some false))
     (some false))
   (pIf (a1==2)
     (pIf ((a3.to_.length:Int)==0)
       (pIf a0
         ((z8k n a3.value.re).bind λy1=>
         some y1)
         (some false))
       (some false))
     (pIf (a1==4)
       (pIf a0
         ((z8k n a3.value.re).bind λy2=>
         some y2)
         (some false))
       (pIf (a1==5)
         (pIf ((a3.to_.length:Int)==0)
           (some a0)
           (some false))
         (some false))))
end
def y7j:LSh:=⟨[(2,(.d .bool))],[],0,73,[]⟩
noncomputable def zdu:FI dat:=FI.of dat 19 73 0 [(.d (.st 9))] [] [(.d .bool)] [] true y7j (R:=Bool) (λx=>x.1) (λr=>(r,())) (λn x=>z9g n x.1)
 (λn=>[(0,⟨⟨[(1,(.ptr 0 0)),(3,(.d .bool))],[(.st 9)],0,73,[]⟩,λx=>z18 n x.1 x.2.1⟩),(1,⟨⟨[(1,(.ptr 0 0)),(3,(.d .bool)),(23,(.d (.int .u8))),(24,(.d .bool))],[(.st 9)],0,73,[]⟩,λx=>z39 n x.1 x.2.1 x.2.2.1 x.2.2.2.1⟩)]) (ann [(4,0),(14,1)] (Tryz.f19.body.getD .skip) 0).1
noncomputable def y7l:List (FI dat):=[zia]
theorem y9j:(zdu).Good Tryz.prog dat (tb y7l):=FI.kz4 (hD:=kz2 _) Tryz.func19 Tryz.ntmps19 Tryz.call19 (by kernel_rfl) (Qac (by kernel_rfl)) (by kernel_rfl) (λn=>by kernel_rfl) (λx=>by kernel_rfl) (λ_=>rfl) ⟨λ_=>rfl,λ_=>rfl,trivial⟩
 (λn=>λx=>(z9g.eq_2 _ n).trans (by kernel_rfl))
 (λn=>⟨λx=>(z18.eq_2 _ _ n).trans (by kernel_rfl),
  λx=>(z39.eq_2 _ _ _ _ n).trans (by kernel_rfl),
  trivial⟩)
 (λx=>.inl rfl)
theorem ybl:OkL Tryz.prog [zdu]:=kz7 (kz2 _) (bs:=[zia]) ⟨yeh,trivial⟩ y9j
theorem y66:FOk Tryz.prog zdu:=ybl.1
mutual
def z6p:Nat->zz0->Option ((List yz5)×(List yz3))
 |0,_=>none
 |n+1,a0=>
  z1y n 0 a0 [] [] [] []
def z1y:Nat->Int->zz0->(List yz5)->(List yz3)->(List yz5)->(List yz3)->Option ((List yz5)×(List yz3))
 |0,_,_,_,_,_,_=>none
 |n+1,a0,a1,a2,a3,a4,a5=>
  pIf (decide (a0<(a1.attrs.length:Int)))
   ((ix a1.attrs a0).bind λx0=>
   (ix a1.attrs a0).bind λx1=>
   (z2m n x1.value.re).bind λy2=>
   (ext a2 [(yz5.mk x0.name y2.re)]).bind λx3=>
   z1y n (IntKind.i64.wrap (a0+1)) a1 x3 a3 a4 a5)
   (z1u n 0 a1 a2 a3 a4 a5)
def z1u:Nat->Int->zz0->(List yz5)->(List yz3)->(List yz5)->(List yz3)->Option ((List yz5)×(List yz3))
 |0,_,_,_,_,_,_=>none
 |n+1,a0,a1,a2,a3,a4,a5=>
  pIf (decide (a0<(a1.rules.length:Int)))
   ((ix a1.rules a0).bind λx4=>
   (z0y n x4).bind λy5=>
   (ext a3 [(yz3.mk y5.1 y5.2.1 [])]).bind λx6=>
   (ix x6 (a3.length:Int)).bind λx7=>
   z1u n (IntKind.i64.wrap (a0+1)) a1 a2 (x6.set (Int.toNat (a3.length:Int)) (yz3.mk x7.name x7.params y5.2.2)) a4 a5)
   (some (a2,a3))
end
def y61:LSh:=⟨[(2,(.ptr 0 0))],[(.cells [(.own 1),(.own 2)]),(.acc 47 (.st 3) true),(.deep 51 7)],0,51,[]⟩
noncomputable def z80:FI dat:=FI.of dat 6 51 0 [(.d (.st 8))] [] [(.agg [(.own 1),(.own 2)])] [(.cells [(.own 1),(.own 2)]),(.acc 47 (.st 3) true),(.deep 51 7)] false y61 (R:=(List yz5)×(List yz3)) (λx=>(x.1,x.2.1)) (λr=>(r.1,r.2,())) (λn x=>z6p n x.1)
 (λn=>[(0,⟨⟨[(4,(.d (.int .i64))),(3,(.ptr 0 0)),(1,(.ptr 1 0)),(2,(.ptr 2 0))],[(.cells [(.own 3),(.own 4)]),(.st 8),(.cells [(.own 5),(.own 6)]),(.acc 47 (.st 3) true),(.deep 51 7),(.acc 47 (.st 3) true),(.deep 51 7)],0,51,[]⟩,λx=>z1y n x.1 x.2.1 x.2.2.1 x.2.2.2.1 x.2.2.2.2.1 x.2.2.2.2.2.1⟩),(1,⟨⟨[(5,(.d (.int .i64))),(3,(.ptr 0 0)),(1,(.ptr 1 0)),(2,(.ptr 2 0))],[(.cells [(.own 3),(.own 4)]),(.st 8),(.cells [(.own 5),(.own 6)]),(.acc 47 (.st 3) true),(.deep 51 7),(.acc 47 (.st 3) true),(.deep 51 7)],0,51,[]⟩,λx=>z1u n x.1 x.2.1 x.2.2.1 x.2.2.2.1 x.2.2.2.2.1 x.2.2.2.2.2.1⟩)]) (ann [(8,0),(23,1)] (Tryz.f6.body.getD .skip) 0).1
noncomputable def y4h:List (FI dat):=[z1p,z0u]
theorem y5r:(z80).Good Tryz.prog dat (tb y4h):=FI.kz4 (hD:=kz2 _) Tryz.func6 Tryz.ntmps6 Tryz.call6 (by kernel_rfl) (Qac (by kernel_rfl)) (by kernel_rfl) (λn=>by kernel_rfl) (λx=>by kernel_rfl) (λ_=>rfl) ⟨λ_=>rfl,λ_=>rfl,trivial⟩
 (λn=>λx=>(z6p.eq_2 _ n).trans (by kernel_rfl))
 (λn=>⟨λx=>(z1y.eq_2 _ _ _ _ _ _ n).trans (by kernel_rfl),
  λx=>(z1u.eq_2 _ _ _ _ _ _ n).trans (by kernel_rfl),
  trivial⟩)
 (λx=>.inr (by kernel_rfl))
theorem y54:OkL Tryz.prog [z80]:=kz7 (kz2 _) (bs:=[z1p,z0u]) ⟨zi5,zfk,trivial⟩ y5r
theorem zq1:FOk Tryz.prog z80:=y54.1
def z7c:Nat->(List UInt8)->(List UInt8)->(List UInt8)->Option (List UInt8)
 |0,_,_,_=>none
 |n+1,a0,a1,a2=>
  pIf (a0==a1)
   (some a2)
   (some a0)
def ydj:LSh:=⟨[(6,(.d .str))],[],0,12,[]⟩
noncomputable def zfs:FI dat:=FI.of dat 87 12 0 [(.d .str),(.d .str),(.d .str)] [] [(.d .str)] [] true ydj (R:=List UInt8) (λx=>x.1) (λr=>(r,())) (λn x=>z7c n x.1 x.2.1 x.2.2.1)
 (λn=>[]) (ann [] (Tryz.f87.body.getD .skip) 0).1
noncomputable def ydp:List (FI dat):=[]
theorem ygu:(zfs).Good Tryz.prog dat (tb ydp):=FI.kz4 (hD:=kz2 _) Tryz.func87 Tryz.ntmps87 Tryz.call87 (by kernel_rfl) (Qac (by kernel_rfl)) (by kernel_rfl) (λn=>by kernel_rfl) (λx=>by kernel_rfl) (λ_=>rfl) trivial
 (λn=>λx=>(z7c.eq_2 _ _ _ n).trans (by kernel_rfl))
 (λn=>trivial)
 (λx=>.inl rfl)
theorem yho:OkL Tryz.prog [zfs]:=kz7 (kz2 _) (bs:=[]) trivial ygu
theorem y95:FOk Tryz.prog zfs:=yho.1
mutual
def z6t:Nat->zz0->(List UInt8)->(List UInt8)->Option zz0
 |0,_,_,_=>none
 |n+1,a0,a1,a2=>
  (z6p n a0).bind λy0=>
  z1t n a2 a1 0 (zz0.mk [] []) y0.1 y0.2
def z1t:Nat->(List UInt8)->(List UInt8)->Int->zz0->(List yz5)->(List yz3)->Option zz0
 |0,_,_,_,_,_,_=>none
 |n+1,a0,a1,a2,a3,a4,a5=>
  pIf (decide (a2<(a5.length:Int)))
   ((ix a5 a2).bind λx1=>
   (ix a5 a2).bind λx2=>
   (z7c n x2.name a1 a0).bind λy3=>
   (ix a5 a2).bind λx4=>
   z1z n a0 a1 0 a2 a2 (a5.set (Int.toNat a2) (yz3.mk y3 x4.params x4.cases)) a3 a4)
   (some (zz0.mk a4 a5))
def z1z:Nat->(List UInt8)->(List UInt8)->Int->Int->Int->(List yz3)->zz0->(List yz5)->Option zz0
 |0,_,_,_,_,_,_,_,_=>none
 |n+1,a0,a1,a2,a3,a4,a5,a6,a7=>
  (ix a5 a3).bind λx5=>
  (ix a5 a3).bind λx6=>
  pIf (decide (a2<(x5.cases.length:Int)))
   ((ix a5 a3).bind λx7=>
   z1s n a0 a1 0 a2 a3 a4 (a5.set (Int.toNat a3) (yz3.mk x7.name x7.params x5.cases)) a6 a7)
   ((ix a5 a3).bind λx8=>
   z1t n a0 a1 (IntKind.i64.wrap (a4+1)) a6 a7 (a5.set (Int.toNat a3) (yz3.mk x8.name x8.params x5.cases)))
def z1s:Nat->(List UInt8)->(List UInt8)->Int->Int->Int->Int->(List yz3)->zz0->(List yz5)->Option zz0
 |0,_,_,_,_,_,_,_,_,_=>none
 |n+1,a0,a1,a2,a3,a4,a5,a6,a7,a8=>
  (ix a6 a4).bind λx9=>
  (ix a6 a4).bind λx10=>
  (ix x9.cases a3).bind λx11=>
  (ix x9.cases a3).bind λx12=>
  (ix x9.cases a3).bind λx13=>
  pIf (decide (a2<(x12.do_.length:Int)))
   ((zsn a4 a4).bind λx14=>
   (ix a6 a4).bind λx15=>
   (ix x9.cases a3).bind λx16=>
   (zsn a3 a3).bind λx17=>
   (ix x9.cases a3).bind λx18=>
   (ix x12.do_ a2).bind λx19=>
   (ix x12.do_ a2).bind λx20=>
   (z7c n x20.name a1 a0).bind λy21=>
   (ix x12.do_ a2).bind λx22=>
   z1x n 0 a0 a1 a2 a3 a4 a5 a2 (x12.do_.set (Int.toNat a2) (zz3.mk x22.kind x22.axis y21 x22.args x22.items)) a6 a4 a7 x9.cases a3 a8)
   ((ix x9.cases a3).bind λx23=>
   (ix a6 a4).bind λx24=>
   z1z n a0 a1 (IntKind.i64.wrap (a3+1)) a4 a5 (a6.set (Int.toNat a4) (yz3.mk x24.name x24.params (x9.cases.set (Int.toNat a3) (yz4.mk x23.weight x23.when_.re x12.do_)))) a7 a8)
def z1x:Nat->Int->(List UInt8)->(List UInt8)->Int->Int->Int->Int->Int->(List zz3)->(List yz3)->Int->zz0->(List yz4)->Int->(List yz5)->Option zz0
 |0,_,_,_,_,_,_,_,_,_,_,_,_,_,_,_=>none
 |n+1,a0,a1,a2,a3,a4,a5,a6,a7,a8,a9,a10,a11,a12,a13,a14=>
  (ix a8 a3).bind λx25=>
  (ix a8 a3).bind λx26=>
  pIf (decide (a0<(x25.items.length:Int)))
   ((zsn a3 a3).bind λx27=>
   (ix a8 a3).bind λx28=>
   (zsn a3 a3).bind λx29=>
   (ix a8 a3).bind λx30=>
   (ix x25.items a0).bind λx31=>
   (z7c n x31.name a2 a1).bind λy32=>
   (ix x25.items a0).bind λx33=>
   (ix a8 a3).bind λx34=>
   z1x n (IntKind.i64.wrap (a0+1)) a1 a2 a3 a4 a5 a6 a7 (a8.set (Int.toNat a3) (zz3.mk x34.kind x34.axis x34.name x34.args (x25.items.set (Int.toNat a0) (yz7.mk x33.kind y32 x33.args)))) a9 a10 a11 a12 a13 a14)
   ((ix a8 a3).bind λx35=>
   (ix a12 a13).bind λx36=>
   (ix a9 a10).bind λx37=>
   z1s n a1 a2 (IntKind.i64.wrap (a7+1)) a4 a5 a6 (a9.set (Int.toNat a10) (yz3.mk x37.name x37.params (a12.set (Int.toNat a13) (yz4.mk x36.weight x36.when_.re (a8.set (Int.toNat a3) (zz3.mk x35.kind x35.axis x35.name x35.args x25.items)))))) a11 a14)
end
def y51:LSh:=⟨[(6,(.ptr 0 0))],[(.st 8)],0,107,[]⟩
noncomputable def zco:FI dat:=FI.of dat 55 107 0 [(.d (.st 8)),(.d .str),(.d .str)] [] [(.d (.st 8))] [] true y51 (R:=zz0) (λx=>x.1) (λr=>(r,())) (λn x=>z6t n x.1 x.2.1 x.2.2.1)
 (λn=>[(0,⟨⟨[(2,(.d .str)),(1,(.d .str)),(8,(.d (.int .i64))),(7,(.ptr 0 0)),(6,(.ptr 1 0))],[(.cells [(.own 2),(.own 3)]),(.st 8),(.acc 47 (.st 3) true),(.deep 51 7)],0,107,[]⟩,λx=>z1t n x.1 x.2.1 x.2.2.1 x.2.2.2.1 x.2.2.2.2.1 x.2.2.2.2.2.1⟩),(1,⟨⟨[(2,(.d .str)),(1,(.d .str)),(10,(.d (.int .i64))),(9,(.dp 0 0)),(7,(.ptr 1 0)),(6,(.ptr 2 0)),(8,(.d (.int .i64)))],[(.deep 51 7),(.cells [(.own 3),(.own 0)]),(.st 8),(.acc 47 (.st 3) true)],0,107,[]⟩,λx=>z1z n x.1 x.2.1 x.2.2.1 x.2.2.2.1 x.2.2.2.2.1 x.2.2.2.2.2.1 x.2.2.2.2.2.2.1 x.2.2.2.2.2.2.2.1⟩),(2,⟨⟨[(2,(.d .str)),(1,(.d .str)),(11,(.d (.int .i64))),(10,(.d (.int .i64))),(9,(.dp 0 0)),(7,(.ptr 1 0)),(6,(.ptr 2 0)),(8,(.d (.int .i64)))],[(.deep 51 7),(.cells [(.own 3),(.own 0)]),(.st 8),(.acc 47 (.st 3) true)],0,107,[]⟩,λx=>z1s n x.1 x.2.1 x.2.2.1 x.2.2.2.1 x.2.2.2.2.1 x.2.2.2.2.2.1 x.2.2.2.2.2.2.1 x.2.2.2.2.2.2.2.1 x.2.2.2.2.2.2.2.2.1⟩),(3,⟨⟨[(13,(.d (.int .i64))),(2,(.d .str)),(1,(.d .str)),(12,(.dp 0 0)),(10,(.d (.int .i64))),(9,(.dp 1 0)),(7,(.ptr 2 0)),(6,(.ptr 3 0)),(8,(.d (.int .i64))),(11,(.d (.int .i64)))],[(.deep 73 5),(.deeph 51 7 2 4),(.cells [(.own 5),(.own 1)]),(.st 8),(.deeph 55 6 10 0),(.acc 47 (.st 3) true)],0,107,[]⟩,λx=>z1x n x.1 x.2.1 x.2.2.1 x.2.2.2.1 x.2.2.2.2.1 x.2.2.2.2.2.1 x.2.2.2.2.2.2.1 x.2.2.2.2.2.2.2.1 x.2.2.2.2.2.2.2.2.1 x.2.2.2.2.2.2.2.2.2.1 x.2.2.2.2.2.2.2.2.2.2.1 x.2.2.2.2.2.2.2.2.2.2.2.1 x.2.2.2.2.2.2.2.2.2.2.2.2.1 x.2.2.2.2.2.2.2.2.2.2.2.2.2.1 x.2.2.2.2.2.2.2.2.2.2.2.2.2.2.1⟩)]) (ann [(8,0),(24,1),(36,2),(52,3)] (Tryz.f55.body.getD .skip) 0).1
noncomputable def y62:List (FI dat):=[z80,zfs]
theorem y42:(zco).Good Tryz.prog dat (tb y62):=FI.kz4 (hD:=kz2 _) Tryz.func55 Tryz.ntmps55 Tryz.call55 (by kernel_rfl) (Qac (by kernel_rfl)) (by kernel_rfl) (λn=>by kernel_rfl) (λx=>by kernel_rfl) (λ_=>rfl) ⟨λ_=>rfl,λ_=>rfl,λ_=>rfl,λ_=>rfl,trivial⟩
 (λn=>λx=>(z6t.eq_2 _ _ _ n).trans (by kernel_rfl))
 (λn=>⟨λx=>(z1t.eq_2 _ _ _ _ _ _ n).trans (by kernel_rfl),
  λx=>(z1z.eq_2 _ _ _ _ _ _ _ _ n).trans (by kernel_rfl),
  λx=>(z1s.eq_2 _ _ _ _ _ _ _ _ _ n).trans (by kernel_rfl),
  λx=>(z1x.eq_2 _ _ _ _ _ _ _ _ _ _ _ _ _ _ _ n).trans (by kernel_rfl),
  trivial⟩)
 (λx=>.inl rfl)
theorem y4x:OkL Tryz.prog [zco]:=kz7 (kz2 _) (bs:=[z80,zfs]) ⟨zq1,y95,trivial⟩ y42
theorem y1v:FOk Tryz.prog zco:=y4x.1
mutual
def zd3:Nat->zz0->yz6->Option (Int×zz0)
 |0,_,_=>none
 |n+1,a0,a1=>
  (z6p n a0).bind λy0=>
  (z3t n a0).bind λy1=>
  pIf (a1.kind==1)
   ((z0k n y1 a1.rule_.name).bind λy2=>
   pIf (decide (y2>=0))
    (some (14,(zz0.mk y0.1 y0.2)))
    ((z0y n a1.rule_).bind λy3=>
    (ext y0.2 [(yz3.mk y3.1 y3.2.1 [])]).bind λx4=>
    (ix x4 (y0.2.length:Int)).bind λx5=>
    z0i n [] y0.1 (x4.set (Int.toNat (y0.2.length:Int)) (yz3.mk x5.name x5.params y3.2.2)) []))
   (pIf (a1.kind==2)
     ((z0k n y1 a1.name).bind λy6=>
     pIf (decide (y6<0))
      (some (6,(zz0.mk y0.1 y0.2)))
      ((sub y0.2 0 y6).bind λx7=>
      (sub y0.2 (IntKind.i64.wrap (y6+1)) (y0.2.length:Int)).bind λx8=>
      (ext [] x7).bind λx9=>
      (ext x9 x8).bind λx10=>
      z0i n [] y0.1 x10 []))
     (pIf (a1.kind==3)
       ((z0k n y1 a1.rule_.name).bind λy11=>
       pIf (decide (y11<0))
        (some (6,(zz0.mk y0.1 y0.2)))
        ((z0y n a1.rule_).bind λy12=>
        (ix y0.2 y11).bind λx13=>
        (ix y0.2 y11).bind λx14=>
        (ix (y0.2.set (Int.toNat y11) (yz3.mk y12.1 y12.2.1 [])) y11).bind λx15=>
        z0i n [] y0.1 ((y0.2.set (Int.toNat y11) (yz3.mk y12.1 y12.2.1 [])).set (Int.toNat y11) (yz3.mk x15.name x15.params y12.2.2)) []))
       (pIf (a1.kind==4)
         ((z0k n y1 a1.name).bind λy16=>
         pIf (decide (y16<0))
          (some (6,(zz0.mk y0.1 y0.2)))
          ((z0k n y1 a1.to_).bind λy17=>
          pIf (decide (y17>=0))
           (some (14,(zz0.mk y0.1 y0.2)))
           ((z6t n (zz0.mk y0.1 y0.2) a1.name a1.to_).bind λy18=>
           z0i n [] y18.attrs y18.rules [])))
         ((z3x n a0).bind λy19=>
         (z0k n y19 a1.name).bind λy20=>
         pIf (decide (y20<0))
          (some (6,(zz0.mk y0.1 y0.2)))
          ((z2m n a1.value.re).bind λy21=>
          (ix y0.1 y20).bind λx22=>
          z0i n [] (y0.1.set (Int.toNat y20) (yz5.mk x22.name y21.re)) y0.2 [])))))
def z0i:Nat->(List yz5)->(List yz5)->(List yz3)->(List yz3)->Option (Int×zz0)
 |0,_,_,_,_=>none
 |n+1,a0,a1,a2,a3=>
  some (0,(zz0.mk a1 a2))
end
def ykm:LSh:=⟨[(4,(.ptr 0 0)),(5,(.d (.int .i64)))],[(.st 8)],0,110,[]⟩
noncomputable def zi9:FI dat:=FI.of dat 20 110 0 [(.d (.st 8)),(.d (.st 9))] [] [(.d (.st 8)),(.d (.int .i64))] [] true ykm (R:=Int×zz0) (λx=>(x.1,x.2.1)) (λr=>(r.2,r.1,())) (λn x=>zd3 n x.1 x.2.1)
 (λn=>[(0,⟨⟨[(4,(.ptr 0 0)),(6,(.ptr 1 0))],[(.cells [(.d (.sl (.st 3))),(.own 2)]),(.cells [(.d (.sl (.st 3))),(.d (.sl (.st 7)))]),(.deep 51 7)],0,110,[]⟩,λx=>z0i n x.1 x.2.1 x.2.2.1 x.2.2.2.1⟩)]) (ann [(81,0)] (Tryz.f20.body.getD .skip) 0).1
noncomputable def ync:List (FI dat):=[z80,z1p,z2j,z68,zco,z74,z0u]
theorem yk0:(zi9).Good Tryz.prog dat (tb ync):=FI.kz4 (hD:=kz2 _) Tryz.func20 Tryz.ntmps20 Tryz.call20 (by kernel_rfl) (Qac (by kernel_rfl)) (by kernel_rfl) (λn=>by kernel_rfl) (λx=>by kernel_rfl) (λ_=>rfl) ⟨λ_=>rfl,trivial⟩
 (λn=>λx=>(zd3.eq_2 _ _ n).trans (by kernel_rfl))
 (λn=>⟨λx=>(z0i.eq_2 x.1 x.2.1 x.2.2.1 x.2.2.2.1 n).trans (by kernel_rfl),
  trivial⟩)
 (λx=>.inl rfl)
theorem ymm:OkL Tryz.prog [zi9]:=kz7 (kz2 _) (bs:=[z80,z1p,z2j,z68,zco,z74,z0u]) ⟨zq1,zi5,zio,zk5,y1v,zn0,zfk,trivial⟩ yk0
theorem yfj:FOk Tryz.prog zi9:=ymm.1
mutual
def zb6:Nat->zz0->(List yz6)->Option (Int×zz0)
 |0,_,_=>none
 |n+1,a0,a1=>
  (z4s n a0).bind λy0=>
  pIf (y0 != 0)
   ((z4s n a0).bind λy1=>
   some (y1,(zz0.mk [] [])))
   (pIf (decide ((a1.length:Int)>40))
     (some (4,(zz0.mk [] [])))
     ((zah n a0).bind λy2=>
     z4l n 0 a1 (zz0.mk [] []) y2))
def z4l:Nat->Int->(List yz6)->zz0->zz0->Option (Int×zz0)
 |0,_,_,_,_=>none
 |n+1,a0,a1,a2,a3=>
  pIf (decide (a0<(a1.length:Int)))
   ((ix a1 a0).bind λx3=>
   (z9g n x3.re).bind λy4=>
   pIf (!y4)
    (some (8,(zz0.mk [] [])))
    ((ix a1 a0).bind λx5=>
    (zd3 n a3 x5.re).bind λy6=>
    pIf (y6.1 != 0)
     (some (y6.1,(zz0.mk [] [])))
     (z4l n (IntKind.i64.wrap (a0+1)) a1 a2 y6.2)))
   ((z4s n a3).bind λy7=>
   pIf (y7 != 0)
    ((z4s n a3).bind λy8=>
    some (y8,(zz0.mk [] [])))
    (some (0,a3)))
end
def yg0:LSh:=⟨[(4,(.ptr 0 0)),(5,(.d (.int .i64)))],[(.st 8)],0,56,[]⟩
noncomputable def zgb:FI dat:=FI.of dat 8 56 0 [(.d (.st 8)),(.d (.sl (.st 9)))] [] [(.d (.st 8)),(.d (.int .i64))] [] true yg0 (R:=Int×zz0) (λx=>(x.1,x.2.1)) (λr=>(r.2,r.1,())) (λn x=>zb6 n x.1 x.2.1)
 (λn=>[(0,⟨⟨[(4,(.ptr 0 0)),(7,(.d (.int .i64))),(6,(.ptr 1 0)),(1,(.d (.sl (.st 9))))],[(.st 8),(.st 8)],0,56,[]⟩,λx=>z4l n x.1 x.2.1 x.2.2.1 x.2.2.2.1⟩)]) (ann [(24,0)] (Tryz.f8.body.getD .skip) 0).1
noncomputable def yfw:List (FI dat):=[zg6,zc1,zdu,zi9]
theorem yev:(zgb).Good Tryz.prog dat (tb yfw):=FI.kz4 (hD:=kz2 _) Tryz.func8 Tryz.ntmps8 Tryz.call8 (by kernel_rfl) (Qac (by kernel_rfl)) (by kernel_rfl) (λn=>by kernel_rfl) (λx=>by kernel_rfl) (λ_=>rfl) ⟨λ_=>rfl,trivial⟩
 (λn=>λx=>(zb6.eq_2 _ _ n).trans (by kernel_rfl))
 (λn=>⟨λx=>(z4l.eq_2 _ _ _ _ n).trans (by kernel_rfl),
  trivial⟩)
 (λx=>.inl rfl)
theorem ycy:OkL Tryz.prog [zgb]:=kz7 (kz2 _) (bs:=[zg6,zc1,zdu,zi9]) ⟨yba,zva,y66,yfj,trivial⟩ yev
theorem y9l:FOk Tryz.prog zgb:=ycy.1
def z2w:Nat->(List yz1)->(List yz1)->Option Bool
 |0,_,_=>none
 |n+1,a0,a1=>
  (zzs n a0).bind λy0=>
  (zzs n a1).bind λy1=>
  (z2h n y0.re y1.re).bind λy2=>
  some y2
def zyw:LSh:=⟨[(4,(.d .bool))],[],0,10,[]⟩
noncomputable def za3:FI dat:=FI.of dat 105 10 0 [(.d (.sl (.st 2))),(.d (.sl (.st 2)))] [] [(.d .bool)] [] true zyw (R:=Bool) (λx=>x.1) (λr=>(r,())) (λn x=>z2w n x.1 x.2.1)
 (λn=>[]) (ann [] (Tryz.f105.body.getD .skip) 0).1
noncomputable def zyq:List (FI dat):=[z4b,z2q]
theorem zyb:(za3).Good Tryz.prog dat (tb zyq):=FI.kz4 (hD:=kz2 _) Tryz.func105 Tryz.ntmps105 Tryz.call105 (by kernel_rfl) (Qac (by kernel_rfl)) (by kernel_rfl) (λn=>by kernel_rfl) (λx=>by kernel_rfl) (λ_=>rfl) trivial
 (λn=>λx=>(z2w.eq_2 _ _ n).trans (by kernel_rfl))
 (λn=>trivial)
 (λx=>.inl rfl)
theorem zyk:OkL Tryz.prog [za3]:=kz7 (kz2 _) (bs:=[z4b,z2q]) ⟨zju,zjn,trivial⟩ zyb
theorem zwn:FOk Tryz.prog za3:=zyk.1
mutual
def z3l:Nat->zz3->zz3->Option Bool
 |0,_,_=>none
 |n+1,a0,a1=>
  pIf (a0.kind != a1.kind)
   (zzi n true a1 a0)
   (pIf (a0.axis != a1.axis)
     (zzi n true a1 a0)
     (pIf (!(a0.name==a1.name))
       (zzi n true a1 a0)
       ((z2w n a0.args a1.args).bind λy0=>
       pIf (!y0)
        (zzi n true a1 a0)
        (zzi n ((a0.items.length:Int) != (a1.items.length:Int)) a1 a0))))
def zzi:Nat->Bool->zz3->zz3->Option Bool
 |0,_,_,_=>none
 |n+1,a0,a1,a2=>
  pIf a0
   (some false)
   (yzz n 0 a1 a2)
def yzz:Nat->Int->zz3->zz3->Option Bool
 |0,_,_,_=>none
 |n+1,a0,a1,a2=>
  pIf (decide (a0<(a2.items.length:Int)))
   ((ix a2.items a0).bind λx1=>
   (ix a1.items a0).bind λx2=>
   pIf (x1.kind != x2.kind)
    (kzr n a0 true a1 a2)
    ((ix a2.items a0).bind λx3=>
    (ix a1.items a0).bind λx4=>
    pIf (!(x3.name==x4.name))
     (kzr n a0 true a1 a2)
     ((ix a2.items a0).bind λx5=>
     (ix a1.items a0).bind λx6=>
     (z2w n x5.args x6.args).bind λy7=>
     kzr n a0 (!y7) a1 a2)))
   (some true)
def kzr:Nat->Int->Bool->zz3->zz3->Option Bool
 |0,_,_,_,_=>none
 |n+1,a0,a1,a2,a3=>
  pIf a1
   (some false)
   (yzz n (IntKind.i64.wrap (a0+1)) a2 a3)
end
def zv5:LSh:=⟨[(4,(.d .bool))],[],0,93,[]⟩
noncomputable def z83:FI dat:=FI.of dat 88 93 0 [(.d (.st 5)),(.d (.st 5))] [] [(.d .bool)] [] true zv5 (R:=Bool) (λx=>x.1) (λr=>(r,())) (λn x=>z3l n x.1 x.2.1)
 (λn=>[(0,⟨⟨[(3,(.ptr 0 0)),(2,(.ptr 1 0)),(41,(.d .bool))],[(.st 5),(.st 5)],0,93,[]⟩,λx=>zzi n x.1 x.2.1 x.2.2.1⟩),(1,⟨⟨[(5,(.d (.int .i64))),(3,(.ptr 0 0)),(2,(.ptr 1 0))],[(.st 5),(.st 5)],0,93,[]⟩,λx=>yzz n x.1 x.2.1 x.2.2.1⟩),(2,⟨⟨[(3,(.ptr 0 0)),(2,(.ptr 1 0)),(5,(.d (.int .i64))),(92,(.d .bool))],[(.st 5),(.st 5)],0,93,[]⟩,λx=>kzr n x.1 x.2.1 x.2.2.1 x.2.2.2.1⟩)]) (ann [(5,0),(14,1),(25,2)] (Tryz.f88.body.getD .skip) 0).1
noncomputable def zv4:List (FI dat):=[za3]
theorem zux:(z83).Good Tryz.prog dat (tb zv4):=FI.kz4 (hD:=kz2 _) Tryz.func88 Tryz.ntmps88 Tryz.call88 (by kernel_rfl) (Qac (by kernel_rfl)) (by kernel_rfl) (λn=>by kernel_rfl) (λx=>by kernel_rfl) (λ_=>rfl) ⟨λ_=>rfl,λ_=>rfl,λ_=>rfl,trivial⟩
 (λn=>λx=>(z3l.eq_2 _ _ n).trans (by kernel_rfl))
 (λn=>⟨λx=>(zzi.eq_2 _ _ _ n).trans (by kernel_rfl),
  λx=>(yzz.eq_2 _ _ _ n).trans (by kernel_rfl),
  λx=>(kzr.eq_2 _ _ _ _ n).trans (by kernel_rfl),
  trivial⟩)
 (λx=>.inl rfl)
theorem zuv:OkL Tryz.prog [z83]:=kz7 (kz2 _) (bs:=[za3]) ⟨zwn,trivial⟩ zux
theorem ztx:FOk Tryz.prog z83:=zuv.1
mutual
def z5l:Nat->yz4->yz4->Option Bool
 |0,_,_=>none
 |n+1,a0,a1=>
  pIf (a0.weight != a1.weight)
   (yzx n true a1.re a0.re)
   ((z2h n a0.when_.re a1.when_.re).bind λy0=>
   pIf (!y0)
    (yzx n true a1.re a0.re)
    (yzx n ((a0.do_.length:Int) != (a1.do_.length:Int)) a1.re a0.re))
def yzx:Nat->Bool->yz4->yz4->Option Bool
 |0,_,_,_=>none
 |n+1,a0,a1,a2=>
  pIf a0
   (some false)
   (z0p n 0 a1.re a2.re)
def z0p:Nat->Int->yz4->yz4->Option Bool
 |0,_,_,_=>none
 |n+1,a0,a1,a2=>
  pIf (decide (a0<(a2.do_.length:Int)))
   ((ix a2.do_ a0).bind λx1=>
   (ix a1.do_ a0).bind λx2=>
   (z3l n x1 x2).bind λy3=>
   pIf (!y3)
    (some false)
    (z0p n (IntKind.i64.wrap (a0+1)) a1.re a2.re))
   (some true)
end
def zy5:LSh:=⟨[(4,(.d .bool))],[],0,47,[]⟩
noncomputable def z9r:FI dat:=FI.of dat 58 47 0 [(.d (.st 6)),(.d (.st 6))] [] [(.d .bool)] [] true zy5 (R:=Bool) (λx=>x.1) (λr=>(r,())) (λn x=>z5l n x.1 x.2.1)
 (λn=>[(0,⟨⟨[(3,(.ptr 0 0)),(2,(.ptr 1 0)),(27,(.d .bool))],[(.st 6),(.st 6)],0,47,[]⟩,λx=>yzx n x.1 x.2.1 x.2.2.1⟩),(1,⟨⟨[(5,(.d (.int .i64))),(3,(.ptr 0 0)),(2,(.ptr 1 0))],[(.st 6),(.st 6)],0,47,[]⟩,λx=>z0p n x.1 x.2.1 x.2.2.1⟩)]) (ann [(5,0),(14,1)] (Tryz.f58.body.getD .skip) 0).1
noncomputable def zy6:List (FI dat):=[z2q,z83]
theorem y0m:(z9r).Good Tryz.prog dat (tb zy6):=FI.kz4 (hD:=kz2 _) Tryz.func58 Tryz.ntmps58 Tryz.call58 (by kernel_rfl) (Qac (by kernel_rfl)) (by kernel_rfl) (λn=>by kernel_rfl) (λx=>by kernel_rfl) (λ_=>rfl) ⟨λ_=>rfl,λ_=>rfl,trivial⟩
 (λn=>λx=>(z5l.eq_2 _ _ n).trans (by kernel_rfl))
 (λn=>⟨λx=>(yzx.eq_2 _ _ _ n).trans (by kernel_rfl),
  λx=>(z0p.eq_2 _ _ _ n).trans (by kernel_rfl),
  trivial⟩)
 (λx=>.inl rfl)
theorem y0h:OkL Tryz.prog [z9r]:=kz7 (kz2 _) (bs:=[z2q,z83]) ⟨zjn,ztx,trivial⟩ y0m
theorem zwj:FOk Tryz.prog z9r:=y0h.1
mutual
def z6m:Nat->yz3->yz3->Option Bool
 |0,_,_=>none
 |n+1,a0,a1=>
  pIf (!(a0.name==a1.name))
   (kzw n true a1 a0)
   (pIf ((a0.params.length:Int) != (a1.params.length:Int))
     (kzw n true a1 a0)
     (kzw n ((a0.cases.length:Int) != (a1.cases.length:Int)) a1 a0))
def kzw:Nat->Bool->yz3->yz3->Option Bool
 |0,_,_,_=>none
 |n+1,a0,a1,a2=>
  pIf a0
   (some false)
   (z0t n 0 a1 a2)
def z0t:Nat->Int->yz3->yz3->Option Bool
 |0,_,_,_=>none
 |n+1,a0,a1,a2=>
  pIf (decide (a0<(a2.params.length:Int)))
   ((ix a2.params a0).bind λx0=>
   (ix a1.params a0).bind λx1=>
   pIf (!(x0==x1))
    (some false)
    (z0t n (IntKind.i64.wrap (a0+1)) a1 a2))
   (z0r n 0 a1 a2)
def z0r:Nat->Int->yz3->yz3->Option Bool
 |0,_,_,_=>none
 |n+1,a0,a1,a2=>
  pIf (decide (a0<(a2.cases.length:Int)))
   ((ix a2.cases a0).bind λx2=>
   (ix a1.cases a0).bind λx3=>
   (z5l n x2.re x3.re).bind λy4=>
   pIf (!y4)
    (some false)
    (z0r n (IntKind.i64.wrap (a0+1)) a1 a2))
   (some true)
end
def y05:LSh:=⟨[(4,(.d .bool))],[],0,67,[]⟩
noncomputable def za2:FI dat:=FI.of dat 22 67 0 [(.d (.st 7)),(.d (.st 7))] [] [(.d .bool)] [] true y05 (R:=Bool) (λx=>x.1) (λr=>(r,())) (λn x=>z6m n x.1 x.2.1)
 (λn=>[(0,⟨⟨[(3,(.ptr 0 0)),(2,(.ptr 1 0)),(29,(.d .bool))],[(.st 7),(.st 7)],0,67,[]⟩,λx=>kzw n x.1 x.2.1 x.2.2.1⟩),(1,⟨⟨[(5,(.d (.int .i64))),(3,(.ptr 0 0)),(2,(.ptr 1 0))],[(.st 7),(.st 7)],0,67,[]⟩,λx=>z0t n x.1 x.2.1 x.2.2.1⟩),(2,⟨⟨[(6,(.d (.int .i64))),(3,(.ptr 0 0)),(2,(.ptr 1 0))],[(.st 7),(.st 7)],0,67,[]⟩,λx=>z0r n x.1 x.2.1 x.2.2.1⟩)]) (ann [(5,0),(14,1),(35,2)] (Tryz.f22.body.getD .skip) 0).1
noncomputable def y0j:List (FI dat):=[z9r]
theorem zyj:(za2).Good Tryz.prog dat (tb y0j):=FI.kz4 (hD:=kz2 _) Tryz.func22 Tryz.ntmps22 Tryz.call22 (by kernel_rfl) (Qac (by kernel_rfl)) (by kernel_rfl) (λn=>by kernel_rfl) (λx=>by kernel_rfl) (λ_=>rfl) ⟨λ_=>rfl,λ_=>rfl,λ_=>rfl,trivial⟩
 (λn=>λx=>(z6m.eq_2 _ _ n).trans (by kernel_rfl))
 (λn=>⟨λx=>(kzw.eq_2 _ _ _ n).trans (by kernel_rfl),
  λx=>(z0t.eq_2 _ _ _ n).trans (by kernel_rfl),
  λx=>(z0r.eq_2 _ _ _ n).trans (by kernel_rfl),
  trivial⟩)
 (λx=>.inl rfl)
theorem zym:OkL Tryz.prog [za2]:=kz7 (kz2 _) (bs:=[z9r]) ⟨zwj,trivial⟩ zyj
theorem zw7:FOk Tryz.prog za2:=zym.1
mutual
def z8f:Nat->zz0->zz0->Option Bool
 |0,_,_=>none
 |n+1,a0,a1=>
  pIf ((a0.attrs.length:Int) != (a1.attrs.length:Int))
   (z8o n true a1 a0)
   (z8o n ((a0.rules.length:Int) != (a1.rules.length:Int)) a1 a0)
def z8o:Nat->Bool->zz0->zz0->Option Bool
 |0,_,_,_=>none
 |n+1,a0,a1,a2=>
  pIf a0
   (some false)
   (z6l n 0 a1 a2)
def z6l:Nat->Int->zz0->zz0->Option Bool
 |0,_,_,_=>none
 |n+1,a0,a1,a2=>
  pIf (decide (a0<(a2.attrs.length:Int)))
   ((ix a2.attrs a0).bind λx0=>
   (ix a1.attrs a0).bind λx1=>
   pIf (!(x0.name==x1.name))
    (z8w n a0 true a1 a2)
    ((ix a2.attrs a0).bind λx2=>
    (ix a1.attrs a0).bind λx3=>
    (z2h n x2.value.re x3.value.re).bind λy4=>
    z8w n a0 (!y4) a1 a2))
   (z6h n 0 a1 a2)
def z8w:Nat->Int->Bool->zz0->zz0->Option Bool
 |0,_,_,_,_=>none
 |n+1,a0,a1,a2,a3=>
  pIf a1
   (some false)
   (z6l n (IntKind.i64.wrap (a0+1)) a2 a3)
def z6h:Nat->Int->zz0->zz0->Option Bool
 |0,_,_,_=>none
 |n+1,a0,a1,a2=>
  pIf (decide (a0<(a2.rules.length:Int)))
   ((ix a2.rules a0).bind λx5=>
   (ix a1.rules a0).bind λx6=>
   (z6m n x5 x6).bind λy7=>
   pIf (!y7)
    (some false)
    (z6h n (IntKind.i64.wrap (a0+1)) a1 a2))
   (some true)
end
def ynp:LSh:=⟨[(4,(.d .bool))],[],0,78,[]⟩
noncomputable def zi2:FI dat:=FI.of dat 9 78 0 [(.d (.st 8)),(.d (.st 8))] [] [(.d .bool)] [] true ynp (R:=Bool) (λx=>x.1) (λr=>(r,())) (λn x=>z8f n x.1 x.2.1)
 (λn=>[(0,⟨⟨[(3,(.ptr 0 0)),(2,(.ptr 1 0)),(22,(.d .bool))],[(.st 8),(.st 8)],0,78,[]⟩,λx=>z8o n x.1 x.2.1 x.2.2.1⟩),(1,⟨⟨[(5,(.d (.int .i64))),(3,(.ptr 0 0)),(2,(.ptr 1 0))],[(.st 8),(.st 8)],0,78,[]⟩,λx=>z6l n x.1 x.2.1 x.2.2.1⟩),(2,⟨⟨[(3,(.ptr 0 0)),(2,(.ptr 1 0)),(5,(.d (.int .i64))),(58,(.d .bool))],[(.st 8),(.st 8)],0,78,[]⟩,λx=>z8w n x.1 x.2.1 x.2.2.1 x.2.2.2.1⟩),(3,⟨⟨[(6,(.d (.int .i64))),(3,(.ptr 0 0)),(2,(.ptr 1 0))],[(.st 8),(.st 8)],0,78,[]⟩,λx=>z6h n x.1 x.2.1 x.2.2.1⟩)]) (ann [(5,0),(14,1),(25,2),(35,3)] (Tryz.f9.body.getD .skip) 0).1
noncomputable def ymj:List (FI dat):=[z2q,za2]
theorem yo1:(zi2).Good Tryz.prog dat (tb ymj):=FI.kz4 (hD:=kz2 _) Tryz.func9 Tryz.ntmps9 Tryz.call9 (by kernel_rfl) (Qac (by kernel_rfl)) (by kernel_rfl) (λn=>by kernel_rfl) (λx=>by kernel_rfl) (λ_=>rfl) ⟨λ_=>rfl,λ_=>rfl,λ_=>rfl,λ_=>rfl,trivial⟩
 (λn=>λx=>(z8f.eq_2 _ _ n).trans (by kernel_rfl))
 (λn=>⟨λx=>(z8o.eq_2 _ _ _ n).trans (by kernel_rfl),
  λx=>(z6l.eq_2 _ _ _ n).trans (by kernel_rfl),
  λx=>(z8w.eq_2 _ _ _ _ n).trans (by kernel_rfl),
  λx=>(z6h.eq_2 _ _ _ n).trans (by kernel_rfl),
  trivial⟩)
 (λx=>.inl rfl)
theorem ynh:OkL Tryz.prog [zi2]:=kz7 (kz2 _) (bs:=[z2q,za2]) ⟨zjn,zw7,trivial⟩ yo1
theorem yh7:FOk Tryz.prog zi2:=ynh.1
mutual
noncomputable def kzo:Nat->zz0->(List yz6)->Option Bool
 |0,_,_=>none
 |n+1,a0,a1=>
  (z9a n a0).bind λy0=>
  pIf y0
   (yzj n a1 true a0)
   ((zax n a1).bind λy1=>
   yzj n a1 y1 a0)
noncomputable def yzj:Nat->(List yz6)->Bool->zz0->Option Bool
 |0,_,_,_=>none
 |n+1,a0,a1,a2=>
  pIf a1
   (some true)
   ((zah n a2).bind λy2=>
   (zd0 n y2 a0).bind λy3=>
   (zb6 n a2 a0).bind λy4=>
   (z8f n (zz0.mk y3.2.1 y3.2.2) y4.2).bind λy5=>
   pIf y5
    (pIf (y3.1==y4.1)
      ((z8f n y2 a2).bind λy6=>
      some y6)
      (some false))
    (some false))
end
def zlz:LSh:=⟨[(4,(.d .bool))],[],0,43,[]⟩
noncomputable def z9b:FI dat:=FI.of dat 3 43 0 [(.d (.st 8)),(.d (.sl (.st 9)))] [] [(.d .bool)] [] true zlz (R:=Bool) (λx=>x.1) (λr=>(r,())) (λn x=>kzo n x.1 x.2.1)
 (λn=>[(0,⟨⟨[(2,(.ptr 0 0)),(1,(.d (.sl (.st 9)))),(15,(.d .bool))],[(.st 8)],0,43,[]⟩,λx=>yzj n x.1 x.2.1 x.2.2.1⟩)]) (ann [(5,0)] (Tryz.f3.body.getD .skip) 0).1
noncomputable def zmq:List (FI dat):=[zhl,zag,zfo,zc1,zgb,zi2]
theorem zm8:(z9b).Good Tryz.prog dat (tb zmq):=FI.kz4 (hD:=kz2 _) Tryz.func3 Tryz.ntmps3 Tryz.call3 (by kernel_rfl) (Qac (by kernel_rfl)) (by kernel_rfl) (λn=>by kernel_rfl) (λx=>by kernel_rfl) (λ_=>rfl) ⟨λ_=>rfl,trivial⟩
 (λn=>λx=>(kzo.eq_2 _ _ n).trans (by kernel_rfl))
 (λn=>⟨λx=>(yzj.eq_2 _ _ _ n).trans (by kernel_rfl),
  trivial⟩)
 (λx=>.inl rfl)
theorem zml:OkL Tryz.prog [z9b]:=kz7 (kz2 _) (bs:=[zhl,zag,zfo,zc1,zgb,zi2]) ⟨yer,zti,y87,zva,y9l,yh7,trivial⟩ zm8
theorem zlq:FOk Tryz.prog z9b:=zml.1
theorem zl8 (a0:zz0) (a1:List yz6):VRL dat [] 0 [dat.tv (.st 8) a0,dat.tv (.sl (.st 9)) a1] [dat.el (.st 8) a0,dat.el (.sl (.st 9)) a1]:=by
 simp only [VRL];exact ⟨_,_,rfl,VR.tv (kz2 Tryz.prog) (DR.el _ _),⟨_,_,rfl,VR.tv (kz2 Tryz.prog) (DR.el _ _),rfl⟩⟩
theorem zjb (n:Nat) (a0:zz0) (a1:List yz6) (r:Bool) (h:kzo n a0 a1=some r):ya5 Tryz.prog 3 [dat.el (.st 8) a0,dat.el (.sl (.st 9)) a1] (.bool r):=by
 obtain ⟨y,h1,_,_,_,h2⟩:=zlq n _ (a0,a1,()) (λy=>some y.1) (λ_=>none) r (by show (kzo n a0 a1).bind (λr=>some r)=some r;rw [h];rfl);obtain ⟨vs,k1,k2⟩:=h2 0 [dat.el (.st 8) a0,dat.el (.sl (.st 9)) a1] (zl8 a0 a1);injection h1 with h1;subst h1;have:=k1 [] 0;replace this:VRL dat [] 0 [TV.bool y.1] vs:=this;simp only [VRL,VR] at this;obtain ⟨v,r,rfl,rfl,rfl⟩:=this;exact k2
end Go.Proofs.YtomdnlaakelghaaGreat
namespace Go.Proofs.Tryz
open Go Go.Ab
set_option linter.unusedSimpArgs false
@[simp] theorem ysf:Program.cellsOf Tryz.prog 2=1:=by kernel_rfl
@[simp] theorem z01h:Program.cellsOf Tryz.prog 3=1:=by kernel_rfl
@[simp] theorem z010:Program.cellsOf Tryz.prog 4=1:=by kernel_rfl
@[simp] theorem zq6:Program.cellsOf Tryz.prog 5=1:=by kernel_rfl
@[simp] theorem zi8:Program.cellsOf Tryz.prog 9=1:=by kernel_rfl
@[simp] theorem ywf:Program.cellsOf Tryz.prog 22=1:=by kernel_rfl
@[simp] theorem ywl:Program.cellsOf Tryz.prog 23=1:=by kernel_rfl
@[simp] theorem yw5:Program.cellsOf Tryz.prog 25=2:=by kernel_rfl
@[simp] theorem yhw:Program.cellsOf Tryz.prog 39=2:=by kernel_rfl
@[simp] theorem yx4:Program.cellsOf Tryz.prog 40=1:=by kernel_rfl
@[simp] theorem y0x:Program.cellsOf Tryz.prog 42=6:=by kernel_rfl
@[simp] theorem y1d:Program.cellsOf Tryz.prog 43=1:=by kernel_rfl
@[simp] theorem zjc:Program.cellsOf Tryz.prog 45=9:=by kernel_rfl
@[simp] theorem yih:Program.cellsOf Tryz.prog 47=10:=by kernel_rfl
@[simp] theorem yxa:Program.cellsOf Tryz.prog 48=1:=by kernel_rfl
@[simp] theorem yy2:Program.cellsOf Tryz.prog 49=1:=by kernel_rfl
@[simp] theorem y1i:Program.cellsOf Tryz.prog 51=3:=by kernel_rfl
@[simp] theorem yx8:Program.cellsOf Tryz.prog 53=1:=by kernel_rfl
@[simp] theorem yid:Program.cellsOf Tryz.prog 55=11:=by kernel_rfl
@[simp] theorem yim:Program.cellsOf Tryz.prog 57=15:=by kernel_rfl
@[simp] theorem ywu:Program.cellsOf Tryz.prog 71=1:=by kernel_rfl
@[simp] theorem yi0:Program.cellsOf Tryz.prog 73=5:=by kernel_rfl
@[simp] theorem yik:Program.cellsOf Tryz.prog 75=3:=by kernel_rfl
theorem z03b (n:Nat):Reads Tryz.prog n 39 kz6.ty:=(z79 Tryz.underlying39 yhw (λm hm=>(yz9 rfl ysf (zex Tryz.underlying2 m) (yz9 rfl ysf (zex Tryz.underlying2 m) zao)))).conv (λx=>(⟨x.1,x.2.1⟩:kz6)) (λx=>by show kz6.el _=_;rw [kz6.kz5];simp [Ty.struct,Ty.pair,Ty.unit,Ty.int,Ty.bool,Ty.str,Ty.slice,V.cells,kz6.ty,kz6.kz5,kz1.ty,kz1.kz5,yz1.ty,yz1.kz5,yz5.ty,yz5.kz5,yz7.ty,yz7.kz5,zz3.ty,zz3.kz5,yz4.ty,yz4.kz5,yz3.ty,yz3.kz5,zz0.ty,zz0.kz5,yz6.ty,yz6.kz5]) rfl (λx h=>by simp only [kz6.ty];rw [kz6.z04];simp only [Ty.struct,Ty.pair,Ty.unit,Ty.int,Ty.bool,Ty.str,Ty.slice,kz6.ty,kz1.ty,yz1.ty,yz5.ty,yz7.ty,zz3.ty,yz4.ty,yz3.ty,zz0.ty,yz6.ty] at h ⊢;simpa using h) (λx=>by simp only [Ty.struct,Ty.pair,Ty.unit,Ty.int,Ty.bool,Ty.str,Ty.slice,kz6.ty,kz1.ty,yz1.ty,yz5.ty,yz7.ty,zz3.ty,yz4.ty,yz3.ty,zz0.ty,yz6.ty];rw [kz6.size_eq];(try dsimp only);omega)
theorem z03a:∀n,Reads Tryz.prog n 42 kz1.ty:=λn=>by
 induction n using Nat.strongRecOn with
 |ind n ih=>exact (z79 Tryz.underlying42 y0x (λm hm=>(yz9 rfl zq6 (zex Tryz.underlying5 m) (yz9 rfl yhw (z03b m) (yz9 rfl z010 (yui Tryz.underlying4 m) (yz9 rfl zi8 (zet Tryz.underlying9 m) (yz9 rfl yx4 (z7g Tryz.underlying40 y0x (by decide) (λk hk=>(ih k (by omega)))) zao))))))).conv (λx=>(⟨x.1,x.2.1,x.2.2.1,x.2.2.2.1,x.2.2.2.2.1⟩:kz1)) (λx=>by show kz1.el _=_;rw [kz1.kz5];simp [Ty.struct,Ty.pair,Ty.unit,Ty.int,Ty.bool,Ty.str,Ty.slice,V.cells,kz6.ty,kz6.kz5,kz1.ty,kz1.kz5,yz1.ty,yz1.kz5,yz5.ty,yz5.kz5,yz7.ty,yz7.kz5,zz3.ty,zz3.kz5,yz4.ty,yz4.kz5,yz3.ty,yz3.kz5,zz0.ty,zz0.kz5,yz6.ty,yz6.kz5]) rfl (λx h=>by simp only [kz1.ty];rw [kz1.z04];simp only [Ty.struct,Ty.pair,Ty.unit,Ty.int,Ty.bool,Ty.str,Ty.slice,kz6.ty,kz1.ty,yz1.ty,yz5.ty,yz7.ty,zz3.ty,yz4.ty,yz3.ty,zz0.ty,yz6.ty] at h ⊢;simpa using h) (λx=>by simp only [Ty.struct,Ty.pair,Ty.unit,Ty.int,Ty.bool,Ty.str,Ty.slice,kz6.ty,kz1.ty,yz1.ty,yz5.ty,yz7.ty,zz3.ty,yz4.ty,yz3.ty,zz0.ty,yz6.ty];rw [kz1.size_eq];(try dsimp only);omega)
theorem y0k:∀n,Reads Tryz.prog n 45 yz1.ty:=λn=>by
 induction n using Nat.strongRecOn with
 |ind n ih=>exact (z79 Tryz.underlying45 zjc (λm hm=>(yz9 rfl zq6 (zex Tryz.underlying5 m) (yz9 rfl y0x (z03a m) (yz9 rfl zi8 (zet Tryz.underlying9 m) (yz9 rfl y1d (z7g Tryz.underlying43 zjc (by decide) (λk hk=>(ih k (by omega)))) zao)))))).conv (λx=>(⟨x.1,x.2.1,x.2.2.1,x.2.2.2.1⟩:yz1)) (λx=>by show yz1.el _=_;rw [yz1.kz5];simp [Ty.struct,Ty.pair,Ty.unit,Ty.int,Ty.bool,Ty.str,Ty.slice,V.cells,kz6.ty,kz6.kz5,kz1.ty,kz1.kz5,yz1.ty,yz1.kz5,yz5.ty,yz5.kz5,yz7.ty,yz7.kz5,zz3.ty,zz3.kz5,yz4.ty,yz4.kz5,yz3.ty,yz3.kz5,zz0.ty,zz0.kz5,yz6.ty,yz6.kz5]) rfl (λx h=>by simp only [yz1.ty];rw [yz1.z04];simp only [Ty.struct,Ty.pair,Ty.unit,Ty.int,Ty.bool,Ty.str,Ty.slice,kz6.ty,kz1.ty,yz1.ty,yz5.ty,yz7.ty,zz3.ty,yz4.ty,yz3.ty,zz0.ty,yz6.ty] at h ⊢;simpa using h) (λx=>by simp only [Ty.struct,Ty.pair,Ty.unit,Ty.int,Ty.bool,Ty.str,Ty.slice,kz6.ty,kz1.ty,yz1.ty,yz5.ty,yz7.ty,zz3.ty,yz4.ty,yz3.ty,zz0.ty,yz6.ty];rw [yz1.size_eq];(try dsimp only);omega)
theorem z02v (n:Nat):Reads Tryz.prog n 47 yz5.ty:=(z79 Tryz.underlying47 yih (λm hm=>(yz9 rfl zi8 (zet Tryz.underlying9 m) (yz9 rfl zjc (y0k m) zao)))).conv (λx=>(⟨x.1,x.2.1⟩:yz5)) (λx=>by show yz5.el _=_;rw [yz5.kz5];simp [Ty.struct,Ty.pair,Ty.unit,Ty.int,Ty.bool,Ty.str,Ty.slice,V.cells,kz6.ty,kz6.kz5,kz1.ty,kz1.kz5,yz1.ty,yz1.kz5,yz5.ty,yz5.kz5,yz7.ty,yz7.kz5,zz3.ty,zz3.kz5,yz4.ty,yz4.kz5,yz3.ty,yz3.kz5,zz0.ty,zz0.kz5,yz6.ty,yz6.kz5]) rfl (λx h=>by simp only [yz5.ty];rw [yz5.z04];simp only [Ty.struct,Ty.pair,Ty.unit,Ty.int,Ty.bool,Ty.str,Ty.slice,kz6.ty,kz1.ty,yz1.ty,yz5.ty,yz7.ty,zz3.ty,yz4.ty,yz3.ty,zz0.ty,yz6.ty] at h ⊢;simpa using h) (λx=>by simp only [Ty.struct,Ty.pair,Ty.unit,Ty.int,Ty.bool,Ty.str,Ty.slice,kz6.ty,kz1.ty,yz1.ty,yz5.ty,yz7.ty,zz3.ty,yz4.ty,yz3.ty,zz0.ty,yz6.ty];rw [yz5.size_eq];(try dsimp only);omega)
theorem z039 (n:Nat):Reads Tryz.prog n 75 yz7.ty:=(z79 Tryz.underlying75 yik (λm hm=>(yz9 rfl zq6 (zex Tryz.underlying5 m) (yz9 rfl zi8 (zet Tryz.underlying9 m) (yz9 rfl y1d (z7g Tryz.underlying43 zjc (by decide) (λk hk=>(y0k k))) zao))))).conv (λx=>(⟨x.1,x.2.1,x.2.2.1⟩:yz7)) (λx=>by show yz7.el _=_;rw [yz7.kz5];simp [Ty.struct,Ty.pair,Ty.unit,Ty.int,Ty.bool,Ty.str,Ty.slice,V.cells,kz6.ty,kz6.kz5,kz1.ty,kz1.kz5,yz1.ty,yz1.kz5,yz5.ty,yz5.kz5,yz7.ty,yz7.kz5,zz3.ty,zz3.kz5,yz4.ty,yz4.kz5,yz3.ty,yz3.kz5,zz0.ty,zz0.kz5,yz6.ty,yz6.kz5]) rfl (λx h=>by simp only [yz7.ty];rw [yz7.z04];simp only [Ty.struct,Ty.pair,Ty.unit,Ty.int,Ty.bool,Ty.str,Ty.slice,kz6.ty,kz1.ty,yz1.ty,yz5.ty,yz7.ty,zz3.ty,yz4.ty,yz3.ty,zz0.ty,yz6.ty] at h ⊢;simpa using h) (λx=>by simp only [Ty.struct,Ty.pair,Ty.unit,Ty.int,Ty.bool,Ty.str,Ty.slice,kz6.ty,kz1.ty,yz1.ty,yz5.ty,yz7.ty,zz3.ty,yz4.ty,yz3.ty,zz0.ty,yz6.ty];rw [yz7.size_eq];(try dsimp only);omega)
theorem z034 (n:Nat):Reads Tryz.prog n 73 zz3.ty:=(z79 Tryz.underlying73 yi0 (λm hm=>(yz9 rfl zq6 (zex Tryz.underlying5 m) (yz9 rfl zq6 (zex Tryz.underlying5 m) (yz9 rfl zi8 (zet Tryz.underlying9 m) (yz9 rfl y1d (z7g Tryz.underlying43 zjc (by decide) (λk hk=>(y0k k))) (yz9 rfl ywu (z7g Tryz.underlying71 yik (by decide) (λk hk=>(z039 k))) zao))))))).conv (λx=>(⟨x.1,x.2.1,x.2.2.1,x.2.2.2.1,x.2.2.2.2.1⟩:zz3)) (λx=>by show zz3.el _=_;rw [zz3.kz5];simp [Ty.struct,Ty.pair,Ty.unit,Ty.int,Ty.bool,Ty.str,Ty.slice,V.cells,kz6.ty,kz6.kz5,kz1.ty,kz1.kz5,yz1.ty,yz1.kz5,yz5.ty,yz5.kz5,yz7.ty,yz7.kz5,zz3.ty,zz3.kz5,yz4.ty,yz4.kz5,yz3.ty,yz3.kz5,zz0.ty,zz0.kz5,yz6.ty,yz6.kz5]) rfl (λx h=>by simp only [zz3.ty];rw [zz3.z04];simp only [Ty.struct,Ty.pair,Ty.unit,Ty.int,Ty.bool,Ty.str,Ty.slice,kz6.ty,kz1.ty,yz1.ty,yz5.ty,yz7.ty,zz3.ty,yz4.ty,yz3.ty,zz0.ty,yz6.ty] at h ⊢;simpa using h) (λx=>by simp only [Ty.struct,Ty.pair,Ty.unit,Ty.int,Ty.bool,Ty.str,Ty.slice,kz6.ty,kz1.ty,yz1.ty,yz5.ty,yz7.ty,zz3.ty,yz4.ty,yz3.ty,zz0.ty,yz6.ty];rw [zz3.size_eq];(try dsimp only);omega)
theorem z03o (n:Nat):Reads Tryz.prog n 55 yz4.ty:=(z79 Tryz.underlying55 yid (λm hm=>(yz9 rfl z01h (zex Tryz.underlying3 m) (yz9 rfl zjc (y0k m) (yz9 rfl yx8 (z7g Tryz.underlying53 yi0 (by decide) (λk hk=>(z034 k))) zao))))).conv (λx=>(⟨x.1,x.2.1,x.2.2.1⟩:yz4)) (λx=>by show yz4.el _=_;rw [yz4.kz5];simp [Ty.struct,Ty.pair,Ty.unit,Ty.int,Ty.bool,Ty.str,Ty.slice,V.cells,kz6.ty,kz6.kz5,kz1.ty,kz1.kz5,yz1.ty,yz1.kz5,yz5.ty,yz5.kz5,yz7.ty,yz7.kz5,zz3.ty,zz3.kz5,yz4.ty,yz4.kz5,yz3.ty,yz3.kz5,zz0.ty,zz0.kz5,yz6.ty,yz6.kz5]) rfl (λx h=>by simp only [yz4.ty];rw [yz4.z04];simp only [Ty.struct,Ty.pair,Ty.unit,Ty.int,Ty.bool,Ty.str,Ty.slice,kz6.ty,kz1.ty,yz1.ty,yz5.ty,yz7.ty,zz3.ty,yz4.ty,yz3.ty,zz0.ty,yz6.ty] at h ⊢;simpa using h) (λx=>by simp only [Ty.struct,Ty.pair,Ty.unit,Ty.int,Ty.bool,Ty.str,Ty.slice,kz6.ty,kz1.ty,yz1.ty,yz5.ty,yz7.ty,zz3.ty,yz4.ty,yz3.ty,zz0.ty,yz6.ty];rw [yz4.size_eq];(try dsimp only);omega)
theorem yvg (n:Nat):Reads Tryz.prog n 51 yz3.ty:=(z79 Tryz.underlying51 y1i (λm hm=>(yz9 rfl zi8 (zet Tryz.underlying9 m) (yz9 rfl yxa (z7g Tryz.underlying48 zi8 (by decide) (λk hk=>(zet Tryz.underlying9 k))) (yz9 rfl yy2 (z7g Tryz.underlying49 yid (by decide) (λk hk=>(z03o k))) zao))))).conv (λx=>(⟨x.1,x.2.1,x.2.2.1⟩:yz3)) (λx=>by show yz3.el _=_;rw [yz3.kz5];simp [Ty.struct,Ty.pair,Ty.unit,Ty.int,Ty.bool,Ty.str,Ty.slice,V.cells,kz6.ty,kz6.kz5,kz1.ty,kz1.kz5,yz1.ty,yz1.kz5,yz5.ty,yz5.kz5,yz7.ty,yz7.kz5,zz3.ty,zz3.kz5,yz4.ty,yz4.kz5,yz3.ty,yz3.kz5,zz0.ty,zz0.kz5,yz6.ty,yz6.kz5]) rfl (λx h=>by simp only [yz3.ty];rw [yz3.z04];simp only [Ty.struct,Ty.pair,Ty.unit,Ty.int,Ty.bool,Ty.str,Ty.slice,kz6.ty,kz1.ty,yz1.ty,yz5.ty,yz7.ty,zz3.ty,yz4.ty,yz3.ty,zz0.ty,yz6.ty] at h ⊢;simpa using h) (λx=>by simp only [Ty.struct,Ty.pair,Ty.unit,Ty.int,Ty.bool,Ty.str,Ty.slice,kz6.ty,kz1.ty,yz1.ty,yz5.ty,yz7.ty,zz3.ty,yz4.ty,yz3.ty,zz0.ty,yz6.ty];rw [yz3.size_eq];(try dsimp only);omega)
theorem z03d (n:Nat):Reads Tryz.prog n 25 zz0.ty:=(z79 Tryz.underlying25 yw5 (λm hm=>(yz9 rfl ywf (z7g Tryz.underlying22 yih (by decide) (λk hk=>(z02v k))) (yz9 rfl ywl (z7g Tryz.underlying23 y1i (by decide) (λk hk=>(yvg k))) zao)))).conv (λx=>(⟨x.1,x.2.1⟩:zz0)) (λx=>by show zz0.el _=_;rw [zz0.kz5];simp [Ty.struct,Ty.pair,Ty.unit,Ty.int,Ty.bool,Ty.str,Ty.slice,V.cells,kz6.ty,kz6.kz5,kz1.ty,kz1.kz5,yz1.ty,yz1.kz5,yz5.ty,yz5.kz5,yz7.ty,yz7.kz5,zz3.ty,zz3.kz5,yz4.ty,yz4.kz5,yz3.ty,yz3.kz5,zz0.ty,zz0.kz5,yz6.ty,yz6.kz5]) rfl (λx h=>by simp only [zz0.ty];rw [zz0.z04];simp only [Ty.struct,Ty.pair,Ty.unit,Ty.int,Ty.bool,Ty.str,Ty.slice,kz6.ty,kz1.ty,yz1.ty,yz5.ty,yz7.ty,zz3.ty,yz4.ty,yz3.ty,zz0.ty,yz6.ty] at h ⊢;simpa using h) (λx=>by simp only [Ty.struct,Ty.pair,Ty.unit,Ty.int,Ty.bool,Ty.str,Ty.slice,kz6.ty,kz1.ty,yz1.ty,yz5.ty,yz7.ty,zz3.ty,yz4.ty,yz3.ty,zz0.ty,yz6.ty];rw [zz0.size_eq];(try dsimp only);omega)
theorem z03g (n:Nat):Reads Tryz.prog n 57 yz6.ty:=(z79 Tryz.underlying57 yim (λm hm=>(yz9 rfl zq6 (zex Tryz.underlying5 m) (yz9 rfl zi8 (zet Tryz.underlying9 m) (yz9 rfl zi8 (zet Tryz.underlying9 m) (yz9 rfl y1i (yvg m) (yz9 rfl zjc (y0k m) zao))))))).conv (λx=>(⟨x.1,x.2.1,x.2.2.1,x.2.2.2.1,x.2.2.2.2.1⟩:yz6)) (λx=>by show yz6.el _=_;rw [yz6.kz5];simp [Ty.struct,Ty.pair,Ty.unit,Ty.int,Ty.bool,Ty.str,Ty.slice,V.cells,kz6.ty,kz6.kz5,kz1.ty,kz1.kz5,yz1.ty,yz1.kz5,yz5.ty,yz5.kz5,yz7.ty,yz7.kz5,zz3.ty,zz3.kz5,yz4.ty,yz4.kz5,yz3.ty,yz3.kz5,zz0.ty,zz0.kz5,yz6.ty,yz6.kz5]) rfl (λx h=>by simp only [yz6.ty];rw [yz6.z04];simp only [Ty.struct,Ty.pair,Ty.unit,Ty.int,Ty.bool,Ty.str,Ty.slice,kz6.ty,kz1.ty,yz1.ty,yz5.ty,yz7.ty,zz3.ty,yz4.ty,yz3.ty,zz0.ty,yz6.ty] at h ⊢;simpa using h) (λx=>by simp only [Ty.struct,Ty.pair,Ty.unit,Ty.int,Ty.bool,Ty.str,Ty.slice,kz6.ty,kz1.ty,yz1.ty,yz5.ty,yz7.ty,zz3.ty,yz4.ty,yz3.ty,zz0.ty,yz6.ty];rw [yz6.size_eq];(try dsimp only);omega)
theorem arg25:yvi Tryz.prog 25 zz0.ty:=ysk Tryz.underlying25 z03d zz0.zks
theorem arg26:yvi Tryz.prog 26 (Ty.slice yz6.ty):=yyz (λn=>(z7g Tryz.underlying26 yim (by decide) (λk hk=>(z03g k)))) (λ_=>rfl) (by rw [Tryz.underlying26])
end Go.Proofs.Tryz
