/-
  Go functions as Lean functions, by a program of this repo.
-/
import Derived.Test.YtomdnlaakelghaaGreatOwn0
namespace Go.Proofs.YtomdnlaakelghaaGreat
open Go Go.Ab
set_option linter.unusedVariables false
set_option maxRecDepth 100000
set_option maxHeartbeats 4000000
mutual
def z9o:Nat->zz0->Option Bool
 |0,_=>none
 |n+1,a0=>
  z1k n 0 a0.attrs (a0.attrs.length:Int) a0
def z1k:Nat->Int->(List yz5)->Int->zz0->Option Bool
 |0,_,_,_,_=>none
 |n+1,a0,a1,a2,a3=>
  pIf (decide (a0<a2))
   ((ix a1 a0).bind λx0=>
   (z2n n x0.name).bind λy1=>
   pIf (!y1)
    (z2v n a1 a2 a0 true a3)
    ((z2i n x0.value.re).bind λy2=>
    z2v n a1 a2 a0 (y2 != 0) a3))
   (z15 n 0 a3.rules (a3.rules.length:Int))
def z2v:Nat->(List yz5)->Int->Int->Bool->zz0->Option Bool
 |0,_,_,_,_,_=>none
 |n+1,a0,a1,a2,a3,a4=>
  pIf a3
   (some false)
   (z1k n (IntKind.i64.wrap (a2+1)) a0 a1 a4)
def z15:Nat->Int->(List yz3)->Int->Option Bool
 |0,_,_,_=>none
 |n+1,a0,a1,a2=>
  pIf (decide (a0<a2))
   ((ix a1 a0).bind λx3=>
   (z2n n x3.name).bind λy4=>
   pIf (!y4)
    (z2t n a1 a2 a0 true x3)
    ((yzg n x3.params).bind λy5=>
    z2t n a1 a2 a0 y5 x3))
   (some true)
def z2t:Nat->(List yz3)->Int->Int->Bool->yz3->Option Bool
 |0,_,_,_,_,_=>none
 |n+1,a0,a1,a2,a3,a4=>
  pIf a3
   (some false)
   (z1f n 0 a4.cases a0 a1 a2 (a4.cases.length:Int))
def z1f:Nat->Int->(List yz4)->(List yz3)->Int->Int->Int->Option Bool
 |0,_,_,_,_,_,_=>none
 |n+1,a0,a1,a2,a3,a4,a5=>
  pIf (decide (a0<a5))
   ((ix a1 a0).bind λx6=>
   pIf (decide (x6.weight<1))
    (z16 n a1 a2 a3 a4 a5 a0 true x6.re)
    (pIf (decide (x6.weight>1000000))
      (z16 n a1 a2 a3 a4 a5 a0 true x6.re)
      ((z2i n x6.when_.re).bind λy7=>
      z16 n a1 a2 a3 a4 a5 a0 (y7 != 0) x6.re)))
   (z15 n (IntKind.i64.wrap (a4+1)) a2 a3)
def z16:Nat->(List yz4)->(List yz3)->Int->Int->Int->Int->Bool->yz4->Option Bool
 |0,_,_,_,_,_,_,_,_=>none
 |n+1,a0,a1,a2,a3,a4,a5,a6,a7=>
  pIf a6
   (some false)
   (z19 n 0 a7.do_ a0 a1 a2 a3 a4 a5 (a7.do_.length:Int))
def z19:Nat->Int->(List zz3)->(List yz4)->(List yz3)->Int->Int->Int->Int->Int->Option Bool
 |0,_,_,_,_,_,_,_,_,_=>none
 |n+1,a0,a1,a2,a3,a4,a5,a6,a7,a8=>
  pIf (decide (a0<a8))
   ((ix a1 a0).bind λx8=>
   (z57 n x8).bind λy9=>
   pIf (!y9)
    (some false)
    (z19 n (IntKind.i64.wrap (a0+1)) a1 a2 a3 a4 a5 a6 a7 a8))
   (z1f n (IntKind.i64.wrap (a7+1)) a2 a3 a4 a5 a6)
end
def yb2:LSh:=⟨[(2,(.d .bool))],[],0,79,[]⟩
noncomputable def zdz:FI dat:=FI.of dat 29 79 0 [(.d (.st 8))] [] [(.d .bool)] [] true yb2 (R:=Bool) (λx=>x.1) (λr=>(r,())) (λn x=>z9o n x.1)
 (λn=>[(0,⟨⟨[(14,(.d (.int .i64))),(12,(.d (.sl (.st 3)))),(1,(.ptr 0 0)),(13,(.d (.int .i64)))],[(.st 8)],0,79,[]⟩,λx=>z1k n x.1 x.2.1 x.2.2.1 x.2.2.2.1⟩),(1,⟨⟨[(12,(.d (.sl (.st 3)))),(1,(.ptr 0 0)),(13,(.d (.int .i64))),(14,(.d (.int .i64))),(27,(.d .bool))],[(.st 8)],0,79,[]⟩,λx=>z2v n x.1 x.2.1 x.2.2.1 x.2.2.2.1 x.2.2.2.2.1⟩),(2,⟨⟨[(32,(.d (.int .i64))),(30,(.d (.sl (.st 7)))),(31,(.d (.int .i64)))],[],0,79,[]⟩,λx=>z15 n x.1 x.2.1 x.2.2.1⟩),(3,⟨⟨[(30,(.d (.sl (.st 7)))),(31,(.d (.int .i64))),(32,(.d (.int .i64))),(6,(.ptr 0 0)),(44,(.d .bool))],[(.st 7)],0,79,[]⟩,λx=>z2t n x.1 x.2.1 x.2.2.1 x.2.2.2.1 x.2.2.2.2.1⟩),(4,⟨⟨[(48,(.d (.int .i64))),(46,(.d (.sl (.st 6)))),(30,(.d (.sl (.st 7)))),(31,(.d (.int .i64))),(32,(.d (.int .i64))),(47,(.d (.int .i64)))],[],0,79,[]⟩,λx=>z1f n x.1 x.2.1 x.2.2.1 x.2.2.2.1 x.2.2.2.2.1 x.2.2.2.2.2.1⟩),(5,⟨⟨[(46,(.d (.sl (.st 6)))),(30,(.d (.sl (.st 7)))),(31,(.d (.int .i64))),(32,(.d (.int .i64))),(47,(.d (.int .i64))),(48,(.d (.int .i64))),(8,(.ptr 0 0)),(65,(.d .bool))],[(.st 6)],0,79,[]⟩,λx=>z16 n x.1 x.2.1 x.2.2.1 x.2.2.2.1 x.2.2.2.2.1 x.2.2.2.2.2.1 x.2.2.2.2.2.2.1 x.2.2.2.2.2.2.2.1⟩),(6,⟨⟨[(69,(.d (.int .i64))),(67,(.d (.sl (.st 5)))),(46,(.d (.sl (.st 6)))),(30,(.d (.sl (.st 7)))),(31,(.d (.int .i64))),(32,(.d (.int .i64))),(47,(.d (.int .i64))),(48,(.d (.int .i64))),(68,(.d (.int .i64)))],[],0,79,[]⟩,λx=>z19 n x.1 x.2.1 x.2.2.1 x.2.2.2.1 x.2.2.2.2.1 x.2.2.2.2.2.1 x.2.2.2.2.2.2.1 x.2.2.2.2.2.2.2.1 x.2.2.2.2.2.2.2.2.1⟩)]) (ann [(6,0),(19,1),(29,2),(43,3),(51,4),(65,5),(73,6)] (Tryz.f29.body.getD .skip) 0).1
noncomputable def ybv:List (FI dat):=[z73,z8d,yzp,z95]
theorem y9m:(zdz).Good Tryz.prog dat (tb ybv):=FI.kz4 (hD:=kz2 _) Tryz.func29 Tryz.ntmps29 Tryz.call29 (by kernel_rfl) (Qac (by kernel_rfl)) (by kernel_rfl) (λn=>by kernel_rfl) (λx=>by kernel_rfl) (λ_=>rfl) ⟨λ_=>rfl,λ_=>rfl,λ_=>rfl,λ_=>rfl,λ_=>rfl,λ_=>rfl,λ_=>rfl,trivial⟩
 (λn=>λx=>(z9o.eq_2 _ n).trans (by kernel_rfl))
 (λn=>⟨λx=>(z1k.eq_2 _ _ _ _ n).trans (by kernel_rfl),
  λx=>(z2v.eq_2 _ _ _ _ _ n).trans (by kernel_rfl),
  λx=>(z15.eq_2 _ _ _ n).trans (by kernel_rfl),
  λx=>(z2t.eq_2 _ _ _ _ _ n).trans (by kernel_rfl),
  λx=>(z1f.eq_2 _ _ _ _ _ _ n).trans (by kernel_rfl),
  λx=>(z16.eq_2 _ _ _ _ _ _ _ _ n).trans (by kernel_rfl),
  λx=>(z19.eq_2 _ _ _ _ _ _ _ _ _ n).trans (by kernel_rfl),
  trivial⟩)
 (λx=>.inl rfl)
theorem yar:OkL Tryz.prog [zdz]:=kz7 (kz2 _) (bs:=[z73,z8d,yzp,z95]) ⟨zmf,zpc,zf9,zuw,trivial⟩ y9m
theorem y5z:FOk Tryz.prog zdz:=yar.1
mutual
def yzl:Nat->(List UInt8)->(List (List UInt8))->Option (Int×(List (List UInt8)))
 |0,_,_=>none
 |n+1,a0,a1=>
  zze n 0 a0 (a1.length:Int) a1
def zze:Nat->Int->(List UInt8)->Int->(List (List UInt8))->Option (Int×(List (List UInt8)))
 |0,_,_,_,_=>none
 |n+1,a0,a1,a2,a3=>
  pIf (decide (a0<a2))
   ((ix a3 a0).bind λx0=>
   pIf (a1==x0)
    (some (a0,a3))
    (zze n (IntKind.i64.wrap (a0+1)) a1 a2 a3))
   (some ((-1),a3))
end
def ziv:LSh:=⟨[(4,(.d (.int .i64)))],[(.acc 9 .str true)],1,19,[]⟩
noncomputable def kzv:FI dat:=FI.of dat 31 19 1 [(.own 0),(.d .str)] [(.acc 9 .str true)] [(.d (.int .i64))] [(.acc 9 .str true)] false ziv (R:=Int×(List (List UInt8))) (λx=>(x.1,x.2.1)) (λr=>(r.1,r.2,())) (λn x=>yzl n x.1 x.2.1)
 (λn=>[(0,⟨⟨[(8,(.d (.int .i64))),(0,(.own 0)),(1,(.d .str)),(7,(.d (.int .i64)))],[(.acc 9 .str true)],1,19,[]⟩,λx=>zze n x.1 x.2.1 x.2.2.1 x.2.2.2.1⟩)]) (ann [(6,0)] (Tryz.f31.body.getD .skip) 0).1
noncomputable def zir:List (FI dat):=[]
theorem zix:(kzv).Good Tryz.prog dat (tb zir):=FI.kz4 (hD:=kz2 _) Tryz.func31 Tryz.ntmps31 Tryz.call31 (by kernel_rfl) (Qac (by kernel_rfl)) (by kernel_rfl) (λn=>by kernel_rfl) (λx=>by kernel_rfl) (λ_=>rfl) ⟨λ_=>rfl,trivial⟩
 (λn=>λx=>(yzl.eq_2 _ _ n).trans (by kernel_rfl))
 (λn=>⟨λx=>(zze.eq_2 _ _ _ _ n).trans (by kernel_rfl),
  trivial⟩)
 (λx=>.inr (by kernel_rfl))
theorem ziw:OkL Tryz.prog [kzv]:=kz7 (kz2 _) (bs:=[]) trivial zix
theorem zho:FOk Tryz.prog kzv:=ziw.1
def kzh:Nat->(List UInt8)->(List (List UInt8))->Option (Bool×(List (List UInt8)))
 |0,_,_=>none
 |n+1,a0,a1=>
  (yzl n a0 a1).bind λy0=>
  some ((decide (y0.1>=0)),y0.2)
def zgz:LSh:=⟨[(4,(.d .bool))],[(.acc 9 .str true)],1,9,[]⟩
noncomputable def yzr:FI dat:=FI.of dat 93 9 1 [(.own 0),(.d .str)] [(.acc 9 .str true)] [(.d .bool)] [(.acc 9 .str true)] false zgz (R:=Bool×(List (List UInt8))) (λx=>(x.1,x.2.1)) (λr=>(r.1,r.2,())) (λn x=>kzh n x.1 x.2.1)
 (λn=>[]) (ann [] (Tryz.f93.body.getD .skip) 0).1
noncomputable def zgy:List (FI dat):=[kzv]
theorem zh0:(yzr).Good Tryz.prog dat (tb zgy):=FI.kz4 (hD:=kz2 _) Tryz.func93 Tryz.ntmps93 Tryz.call93 (by kernel_rfl) (Qac (by kernel_rfl)) (by kernel_rfl) (λn=>by kernel_rfl) (λx=>by kernel_rfl) (λ_=>rfl) trivial
 (λn=>λx=>(kzh.eq_2 _ _ n).trans (by kernel_rfl))
 (λn=>trivial)
 (λx=>.inr (by kernel_rfl))
theorem zgu:OkL Tryz.prog [yzr]:=kz7 (kz2 _) (bs:=[kzv]) ⟨zho,trivial⟩ zh0
theorem zfq:FOk Tryz.prog yzr:=zgu.1
mutual
def zac:Nat->yz1->(List (List UInt8))->Option (List (List UInt8))
 |0,_,_=>none
 |n+1,a0,a1=>
  pIf (a0.op==2)
   ((kzh n a0.name a1).bind λy0=>
   z8s n (!y0.1) y0.2 a0.re)
   (z8s n false a1 a0.re)
def z8s:Nat->Bool->(List (List UInt8))->yz1->Option (List (List UInt8))
 |0,_,_,_=>none
 |n+1,a0,a1,a2=>
  pIf a0
   ((ext a1 [a2.name]).bind λx1=>
   z6d n x1 a2.re)
   (z6d n a1 a2.re)
def z6d:Nat->(List (List UInt8))->yz1->Option (List (List UInt8))
 |0,_,_=>none
 |n+1,a0,a1=>
  z6x n 0 a1.args (a1.args.length:Int) a0
def z6x:Nat->Int->(List yz1)->Int->(List (List UInt8))->Option (List (List UInt8))
 |0,_,_,_,_=>none
 |n+1,a0,a1,a2,a3=>
  pIf (decide (a0<a2))
   ((ix a1 a0).bind λx2=>
   (zac n x2.re a3).bind λy3=>
   z6x n (IntKind.i64.wrap (a0+1)) a1 a2 y3)
   (some a3)
end
def ynj:LSh:=⟨[],[(.cells [(.own 1)]),(.acc 9 .str true)],1,38,[]⟩
noncomputable def zep:FI dat:=FI.of dat 97 38 1 [(.d (.st 2)),(.ptr 0 0)] [(.cells [(.own 1)]),(.acc 9 .str true)] [] [(.cells [(.own 1)]),(.acc 9 .str true)] false ynj (R:=List (List UInt8)) (λx=>x.1) (λr=>(r,())) (λn x=>zac n x.1 x.2.1)
 (λn=>[(0,⟨⟨[(1,(.ptr 0 0)),(2,(.ptr 2 0)),(17,(.d .bool))],[(.cells [(.own 1)]),(.acc 9 .str true),(.st 2)],1,38,[]⟩,λx=>z8s n x.1 x.2.1 x.2.2.1⟩),(1,⟨⟨[(1,(.ptr 0 0)),(2,(.ptr 2 0))],[(.cells [(.own 1)]),(.acc 9 .str true),(.st 2)],1,38,[]⟩,λx=>z6d n x.1 x.2.1⟩),(2,⟨⟨[(30,(.d (.int .i64))),(1,(.ptr 0 0)),(28,(.d (.sl (.st 2)))),(29,(.d (.int .i64)))],[(.cells [(.own 1)]),(.acc 9 .str true)],1,38,[]⟩,λx=>z6x n x.1 x.2.1 x.2.2.1 x.2.2.2.1⟩)]) (ann [(5,0),(8,1),(11,2)] (Tryz.f97.body.getD .skip) 0).1
noncomputable def yjs:List (FI dat):=[zep]++[yzr]
theorem ykw:(zep).Good Tryz.prog dat (tb yjs):=FI.kz4 (hD:=kz2 _) Tryz.func97 Tryz.ntmps97 Tryz.call97 (by kernel_rfl) (Qac (by kernel_rfl)) (by kernel_rfl) (λn=>by kernel_rfl) (λx=>by kernel_rfl) (λ_=>rfl) ⟨λ_=>rfl,λ_=>rfl,λ_=>rfl,trivial⟩
 (λn=>λx=>(zac.eq_2 _ _ n).trans (by kernel_rfl))
 (λn=>⟨λx=>(z8s.eq_2 _ _ _ n).trans (by kernel_rfl),
  λx=>(z6d.eq_2 _ _ n).trans (by kernel_rfl),
  λx=>(z6x.eq_2 _ _ _ _ n).trans (by kernel_rfl),
  trivial⟩)
 (λx=>.inr (by kernel_rfl))
theorem yki:OkL Tryz.prog [zep]:=z5f (kz2 _) (bs:=[yzr]) ⟨zfq,trivial⟩ ⟨ykw,trivial⟩
theorem yf9:FOk Tryz.prog zep:=yki.1
def zd2:Nat->yz1->Option ((List (List UInt8))×Int)
 |0,_=>none
 |n+1,a0=>
  (z2i n a0.re).bind λy0=>
  pIf (y0 != 0)
   (some ([],y0))
   ((zac n a0.re []).bind λy1=>
   (z2p n y1).bind λy2=>
   some (y2,0))
def yna:LSh:=⟨[(2,(.d (.sl .str))),(3,(.d (.int .i64)))],[],0,16,[]⟩
noncomputable def zhv:FI dat:=FI.of dat 67 16 0 [(.d (.st 2))] [] [(.d (.sl .str)),(.d (.int .i64))] [] true yna (R:=(List (List UInt8))×Int) (λx=>(x.1,x.2.1)) (λr=>(r.1,r.2,())) (λn x=>zd2 n x.1)
 (λn=>[]) (ann [] (Tryz.f67.body.getD .skip) 0).1
noncomputable def ym3:List (FI dat):=[zep,z8c,z8d]
theorem yn3:(zhv).Good Tryz.prog dat (tb ym3):=FI.kz4 (hD:=kz2 _) Tryz.func67 Tryz.ntmps67 Tryz.call67 (by kernel_rfl) (Qac (by kernel_rfl)) (by kernel_rfl) (λn=>by kernel_rfl) (λx=>by kernel_rfl) (λ_=>rfl) trivial
 (λn=>λx=>(zd2.eq_2 _ n).trans (by kernel_rfl))
 (λn=>trivial)
 (λx=>.inl rfl)
theorem ylw:OkL Tryz.prog [zhv]:=kz7 (kz2 _) (bs:=[zep,z8c,z8d]) ⟨yf9,zkm,zpc,trivial⟩ yn3
theorem ygf:FOk Tryz.prog zhv:=ylw.1
def z9f:Nat->(List UInt8)->(List (List UInt8))->(List Bool)->Option (Bool×(List (List UInt8))×(List Bool))
 |0,_,_,_=>none
 |n+1,a0,a1,a2=>
  some ((!(Option.getD (z84 (List.zip a1 a2) a0) false)),(mks (List.zip a1 a2)),(mvs (List.zip a1 a2)))
def yan:LSh:=⟨[(3,(.d .bool))],[(.cells [(.map 1)]),(.mp 78 .bool)],2,8,[]⟩
noncomputable def zeb:FI dat:=FI.of dat 68 8 2 [(.d .str),(.ptr 0 0)] [(.cells [(.map 1)]),(.mp 78 .bool)] [(.d .bool)] [(.cells [(.map 1)]),(.mp 78 .bool)] false yan (R:=Bool×(List (List UInt8))×(List Bool)) (λx=>(x.1,x.2.1,x.2.2.1)) (λr=>(r.1,r.2.1,r.2.2,())) (λn x=>z9f n x.1 x.2.1 x.2.2.1)
 (λn=>[]) (ann [] (Tryz.f68.body.getD .skip) 0).1
noncomputable def y7y:List (FI dat):=[]
theorem y8o:(zeb).Good Tryz.prog dat (tb y7y):=FI.kz4 (hD:=kz2 _) Tryz.func68 Tryz.ntmps68 Tryz.call68 (by kernel_rfl) (Qac (by kernel_rfl)) (by kernel_rfl) (λn=>by kernel_rfl) (λx=>by kernel_rfl) (λ_=>rfl) trivial
 (λn=>λx=>(z9f.eq_2 _ _ _ n).trans (by kernel_rfl))
 (λn=>trivial)
 (λx=>.inr (by kernel_rfl))
theorem y9e:OkL Tryz.prog [zeb]:=kz7 (kz2 _) (bs:=[]) trivial y8o
theorem y5w:FOk Tryz.prog zeb:=y9e.1
mutual
def zzo:Nat->(List (List UInt8))->(List (List UInt8))->(List Bool)->Option (Int×(List (List UInt8))×(List Bool))
 |0,_,_,_=>none
 |n+1,a0,a1,a2=>
  kza n 0 a0 (a0.length:Int) (mks (List.zip a1 a2)) (mvs (List.zip a1 a2))
def kza:Nat->Int->(List (List UInt8))->Int->(List (List UInt8))->(List Bool)->Option (Int×(List (List UInt8))×(List Bool))
 |0,_,_,_,_,_=>none
 |n+1,a0,a1,a2,a3,a4=>
  pIf (decide (a0<a2))
   ((ix a1 a0).bind λx0=>
   (z9f n x0 (mks (List.zip a3 a4)) (mvs (List.zip a3 a4))).bind λy1=>
   pIf y1.1
    (some (a0,(mks (List.zip y1.2.1 y1.2.2)),(mvs (List.zip y1.2.1 y1.2.2))))
    (kza n (IntKind.i64.wrap (a0+1)) a1 a2 (mks (List.zip y1.2.1 y1.2.2)) (mvs (List.zip y1.2.1 y1.2.2))))
   (some ((-1),(mks (List.zip a3 a4)),(mvs (List.zip a3 a4))))
end
def zfw:LSh:=⟨[(4,(.d (.int .i64)))],[(.cells [(.map 1)]),(.mp 78 .bool)],2,19,[]⟩
noncomputable def zzp:FI dat:=FI.of dat 96 19 2 [(.d (.sl .str)),(.fn 68 [] [(.ptr 0 0)])] [(.cells [(.map 1)]),(.mp 78 .bool)] [(.d (.int .i64))] [(.cells [(.map 1)]),(.mp 78 .bool)] false zfw (R:=Int×(List (List UInt8))×(List Bool)) (λx=>(x.1,x.2.1,x.2.2.1)) (λr=>(r.1,r.2.1,r.2.2,())) (λn x=>zzo n x.1 x.2.1 x.2.2.1)
 (λn=>[(0,⟨⟨[(8,(.d (.int .i64))),(0,(.d (.sl .str))),(1,(.fn 68 [] [(.ptr 0 0)])),(7,(.d (.int .i64)))],[(.cells [(.map 1)]),(.mp 78 .bool)],2,19,[]⟩,λx=>kza n x.1 x.2.1 x.2.2.1 x.2.2.2.1 x.2.2.2.2.1⟩)]) (ann [(6,0)] (Tryz.f96.body.getD .skip) 0).1
noncomputable def zgn:List (FI dat):=[zeb]
theorem zga:(zzp).Good Tryz.prog dat (tb zgn):=FI.kz4 (hD:=kz2 _) Tryz.func96 Tryz.ntmps96 Tryz.call96 (by kernel_rfl) (Qac (by kernel_rfl)) (by kernel_rfl) (λn=>by kernel_rfl) (λx=>by kernel_rfl) (λ_=>rfl) ⟨λ_=>rfl,trivial⟩
 (λn=>λx=>(zzo.eq_2 _ _ _ n).trans (by kernel_rfl))
 (λn=>⟨λx=>(kza.eq_2 _ _ _ _ _ n).trans (by kernel_rfl),
  trivial⟩)
 (λx=>.inr (by kernel_rfl))
theorem zg7:OkL Tryz.prog [zzp]:=kz7 (kz2 _) (bs:=[zeb]) ⟨y5w,trivial⟩ zga
theorem zfa:FOk Tryz.prog zzp:=zg7.1
def yze:Nat->(List (List UInt8))->(List (List UInt8))->(List Bool)->Option (Bool×(List (List UInt8))×(List Bool))
 |0,_,_,_=>none
 |n+1,a0,a1,a2=>
  (zzo n a0 (mks (List.zip a1 a2)) (mvs (List.zip a1 a2))).bind λy0=>
  some ((decide (y0.1>=0)),(mks (List.zip y0.2.1 y0.2.2)),(mvs (List.zip y0.2.1 y0.2.2)))
def ze7:LSh:=⟨[(4,(.d .bool))],[(.cells [(.map 1)]),(.mp 78 .bool)],2,9,[]⟩
noncomputable def yzk:FI dat:=FI.of dat 64 9 2 [(.d (.sl .str)),(.fn 68 [] [(.ptr 0 0)])] [(.cells [(.map 1)]),(.mp 78 .bool)] [(.d .bool)] [(.cells [(.map 1)]),(.mp 78 .bool)] false ze7 (R:=Bool×(List (List UInt8))×(List Bool)) (λx=>(x.1,x.2.1,x.2.2.1)) (λr=>(r.1,r.2.1,r.2.2,())) (λn x=>yze n x.1 x.2.1 x.2.2.1)
 (λn=>[]) (ann [] (Tryz.f64.body.getD .skip) 0).1
noncomputable def ze8:List (FI dat):=[zzp]
theorem ze3:(yzk).Good Tryz.prog dat (tb ze8):=FI.kz4 (hD:=kz2 _) Tryz.func64 Tryz.ntmps64 Tryz.call64 (by kernel_rfl) (Qac (by kernel_rfl)) (by kernel_rfl) (λn=>by kernel_rfl) (λx=>by kernel_rfl) (λ_=>rfl) trivial
 (λn=>λx=>(yze.eq_2 _ _ _ n).trans (by kernel_rfl))
 (λn=>trivial)
 (λx=>.inr (by kernel_rfl))
theorem ze6:OkL Tryz.prog [yzk]:=kz7 (kz2 _) (bs:=[zzp]) ⟨zfa,trivial⟩ ze3
theorem zdm:FOk Tryz.prog yzk:=ze6.1
def za9:Nat->yz1->(List (List UInt8))->(List Bool)->Option (Bool×(List (List UInt8))×(List Bool))
 |0,_,_,_=>none
 |n+1,a0,a1,a2=>
  (zd2 n a0.re).bind λy0=>
  (yze n y0.1 (mks (List.zip a1 a2)) (mvs (List.zip a1 a2))).bind λy1=>
  some (y1.1,(mks (List.zip y1.2.1 y1.2.2)),(mvs (List.zip y1.2.1 y1.2.2)))
def yok:LSh:=⟨[(4,(.d .bool))],[(.mp 78 .bool)],1,15,[]⟩
noncomputable def zc4:FI dat:=FI.of dat 30 15 1 [(.d (.st 2)),(.map 0)] [(.mp 78 .bool)] [(.d .bool)] [(.mp 78 .bool)] false yok (R:=Bool×(List (List UInt8))×(List Bool)) (λx=>(x.1,x.2.1,x.2.2.1)) (λr=>(r.1,r.2.1,r.2.2,())) (λn x=>za9 n x.1 x.2.1 x.2.2.1)
 (λn=>[]) (ann [] (Tryz.f30.body.getD .skip) 0).1
noncomputable def ynu:List (FI dat):=[yzk,zhv]
theorem yjd:(zc4).Good Tryz.prog dat (tb ynu):=FI.kz4 (hD:=kz2 _) Tryz.func30 Tryz.ntmps30 Tryz.call30 (by kernel_rfl) (Qac (by kernel_rfl)) (by kernel_rfl) (λn=>by kernel_rfl) (λx=>by kernel_rfl) (λ_=>rfl) trivial
 (λn=>λx=>(za9.eq_2 _ _ _ n).trans (by kernel_rfl))
 (λn=>trivial)
 (λx=>.inr (by kernel_rfl))
theorem yk6:OkL Tryz.prog [zc4]:=kz7 (kz2 _) (bs:=[yzk,zhv]) ⟨zdm,ygf,trivial⟩ yjd
theorem zv9:FOk Tryz.prog zc4:=yk6.1
mutual
def zbq:Nat->yz3->Option (List yz1)
 |0,_=>none
 |n+1,a0=>
  z3w n 0 a0.cases (a0.cases.length:Int) []
def z3w:Nat->Int->(List yz4)->Int->(List yz1)->Option (List yz1)
 |0,_,_,_,_=>none
 |n+1,a0,a1,a2,a3=>
  pIf (decide (a0<a2))
   ((ix a1 a0).bind λx0=>
   (ext a3 [x0.when_.re]).bind λx1=>
   z4g n 0 x0.do_ a1 a2 a0 (x0.do_.length:Int) x1)
   (some a3)
def z4g:Nat->Int->(List zz3)->(List yz4)->Int->Int->Int->(List yz1)->Option (List yz1)
 |0,_,_,_,_,_,_,_=>none
 |n+1,a0,a1,a2,a3,a4,a5,a6=>
  pIf (decide (a0<a5))
   ((ix a1 a0).bind λx2=>
   (ext a6 x2.args).bind λx3=>
   z54 n 0 x2.items a1 a2 a3 a4 a5 a0 (x2.items.length:Int) x3)
   (z3w n (IntKind.i64.wrap (a4+1)) a2 a3 a6)
def z54:Nat->Int->(List yz7)->(List zz3)->(List yz4)->Int->Int->Int->Int->Int->(List yz1)->Option (List yz1)
 |0,_,_,_,_,_,_,_,_,_,_=>none
 |n+1,a0,a1,a2,a3,a4,a5,a6,a7,a8,a9=>
  pIf (decide (a0<a8))
   ((ix a1 a0).bind λx4=>
   (ext a9 x4.args).bind λx5=>
   z54 n (IntKind.i64.wrap (a0+1)) a1 a2 a3 a4 a5 a6 a7 a8 x5)
   (z4g n (IntKind.i64.wrap (a7+1)) a2 a3 a4 a5 a6 a9)
end
def yhg:LSh:=⟨[(2,(.d (.sl (.st 2))))],[],0,48,[]⟩
noncomputable def zfv:FI dat:=FI.of dat 33 48 0 [(.d (.st 7))] [] [(.d (.sl (.st 2)))] [] true yhg (R:=List yz1) (λx=>x.1) (λr=>(r,())) (λn x=>zbq n x.1)
 (λn=>[(0,⟨⟨[(13,(.d (.int .i64))),(3,(.own 0)),(11,(.d (.sl (.st 6)))),(12,(.d (.int .i64)))],[(.acc 45 (.st 2) true)],0,48,[]⟩,λx=>z3w n x.1 x.2.1 x.2.2.1 x.2.2.2.1⟩),(1,⟨⟨[(25,(.d (.int .i64))),(3,(.own 0)),(23,(.d (.sl (.st 5)))),(11,(.d (.sl (.st 6)))),(12,(.d (.int .i64))),(13,(.d (.int .i64))),(24,(.d (.int .i64)))],[(.acc 45 (.st 2) true)],0,48,[]⟩,λx=>z4g n x.1 x.2.1 x.2.2.1 x.2.2.2.1 x.2.2.2.2.1 x.2.2.2.2.2.1 x.2.2.2.2.2.2.1⟩),(2,⟨⟨[(36,(.d (.int .i64))),(3,(.own 0)),(34,(.d (.sl (.st 4)))),(23,(.d (.sl (.st 5)))),(11,(.d (.sl (.st 6)))),(12,(.d (.int .i64))),(13,(.d (.int .i64))),(24,(.d (.int .i64))),(25,(.d (.int .i64))),(35,(.d (.int .i64)))],[(.acc 45 (.st 2) true)],0,48,[]⟩,λx=>z54 n x.1 x.2.1 x.2.2.1 x.2.2.2.1 x.2.2.2.2.1 x.2.2.2.2.2.1 x.2.2.2.2.2.2.1 x.2.2.2.2.2.2.2.1 x.2.2.2.2.2.2.2.2.1 x.2.2.2.2.2.2.2.2.2.1⟩)]) (ann [(8,0),(24,1),(40,2)] (Tryz.f33.body.getD .skip) 0).1
noncomputable def yby:List (FI dat):=[]
theorem ygz:(zfv).Good Tryz.prog dat (tb yby):=FI.kz4 (hD:=kz2 _) Tryz.func33 Tryz.ntmps33 Tryz.call33 (by kernel_rfl) (Qac (by kernel_rfl)) (by kernel_rfl) (λn=>by kernel_rfl) (λx=>by kernel_rfl) (λ_=>rfl) ⟨λ_=>rfl,λ_=>rfl,λ_=>rfl,trivial⟩
 (λn=>λx=>(zbq.eq_2 _ n).trans (by kernel_rfl))
 (λn=>⟨λx=>(z3w.eq_2 _ _ _ _ n).trans (by kernel_rfl),
  λx=>(z4g.eq_2 _ _ _ _ _ _ _ n).trans (by kernel_rfl),
  λx=>(z54.eq_2 _ _ _ _ _ _ _ _ _ _ n).trans (by kernel_rfl),
  trivial⟩)
 (λx=>.inl rfl)
theorem yfh:OkL Tryz.prog [zfv]:=kz7 (kz2 _) (bs:=[]) trivial ygz
theorem y80:FOk Tryz.prog zfv:=yfh.1
def z8p:Nat->yz1->(List (List UInt8))->(List Bool)->Option (Bool×(List (List UInt8))×(List Bool))
 |0,_,_,_=>none
 |n+1,a0,a1,a2=>
  (za9 n a0.re (mks (List.zip a1 a2)) (mvs (List.zip a1 a2))).bind λy0=>
  some (y0.1,(mks (List.zip y0.2.1 y0.2.2)),(mvs (List.zip y0.2.1 y0.2.2)))
def y4v:LSh:=⟨[(3,(.d .bool))],[(.cells [(.map 1)]),(.mp 78 .bool)],2,7,[]⟩
noncomputable def zck:FI dat:=FI.of dat 34 7 2 [(.d (.st 2)),(.ptr 0 0)] [(.cells [(.map 1)]),(.mp 78 .bool)] [(.d .bool)] [(.cells [(.map 1)]),(.mp 78 .bool)] false y4v (R:=Bool×(List (List UInt8))×(List Bool)) (λx=>(x.1,x.2.1,x.2.2.1)) (λr=>(r.1,r.2.1,r.2.2,())) (λn x=>z8p n x.1 x.2.1 x.2.2.1)
 (λn=>[]) (ann [] (Tryz.f34.body.getD .skip) 0).1
noncomputable def y57:List (FI dat):=[zc4]
theorem y60:(zck).Good Tryz.prog dat (tb y57):=FI.kz4 (hD:=kz2 _) Tryz.func34 Tryz.ntmps34 Tryz.call34 (by kernel_rfl) (Qac (by kernel_rfl)) (by kernel_rfl) (λn=>by kernel_rfl) (λx=>by kernel_rfl) (λ_=>rfl) trivial
 (λn=>λx=>(z8p.eq_2 _ _ _ n).trans (by kernel_rfl))
 (λn=>trivial)
 (λx=>.inr (by kernel_rfl))
theorem y5d:OkL Tryz.prog [zck]:=kz7 (kz2 _) (bs:=[zc4]) ⟨zv9,trivial⟩ y60
theorem y0y:FOk Tryz.prog zck:=y5d.1
mutual
def kzl:Nat->(List yz1)->(List (List UInt8))->(List Bool)->Option (Int×(List (List UInt8))×(List Bool))
 |0,_,_,_=>none
 |n+1,a0,a1,a2=>
  kz9 n 0 a0 (a0.length:Int) (mks (List.zip a1 a2)) (mvs (List.zip a1 a2))
def kz9:Nat->Int->(List yz1)->Int->(List (List UInt8))->(List Bool)->Option (Int×(List (List UInt8))×(List Bool))
 |0,_,_,_,_,_=>none
 |n+1,a0,a1,a2,a3,a4=>
  pIf (decide (a0<a2))
   ((ix a1 a0).bind λx0=>
   (z8p n x0.re (mks (List.zip a3 a4)) (mvs (List.zip a3 a4))).bind λy1=>
   pIf y1.1
    (some (a0,(mks (List.zip y1.2.1 y1.2.2)),(mvs (List.zip y1.2.1 y1.2.2))))
    (kz9 n (IntKind.i64.wrap (a0+1)) a1 a2 (mks (List.zip y1.2.1 y1.2.2)) (mvs (List.zip y1.2.1 y1.2.2))))
   (some ((-1),(mks (List.zip a3 a4)),(mvs (List.zip a3 a4))))
end
def zfi:LSh:=⟨[(4,(.d (.int .i64)))],[(.cells [(.map 1)]),(.mp 78 .bool)],2,19,[]⟩
noncomputable def kzn:FI dat:=FI.of dat 69 19 2 [(.d (.sl (.st 2))),(.fn 34 [] [(.ptr 0 0)])] [(.cells [(.map 1)]),(.mp 78 .bool)] [(.d (.int .i64))] [(.cells [(.map 1)]),(.mp 78 .bool)] false zfi (R:=Int×(List (List UInt8))×(List Bool)) (λx=>(x.1,x.2.1,x.2.2.1)) (λr=>(r.1,r.2.1,r.2.2,())) (λn x=>kzl n x.1 x.2.1 x.2.2.1)
 (λn=>[(0,⟨⟨[(8,(.d (.int .i64))),(0,(.d (.sl (.st 2)))),(1,(.fn 34 [] [(.ptr 0 0)])),(7,(.d (.int .i64)))],[(.cells [(.map 1)]),(.mp 78 .bool)],2,19,[]⟩,λx=>kz9 n x.1 x.2.1 x.2.2.1 x.2.2.2.1 x.2.2.2.2.1⟩)]) (ann [(6,0)] (Tryz.f69.body.getD .skip) 0).1
noncomputable def zf5:List (FI dat):=[zck]
theorem zf7:(kzn).Good Tryz.prog dat (tb zf5):=FI.kz4 (hD:=kz2 _) Tryz.func69 Tryz.ntmps69 Tryz.call69 (by kernel_rfl) (Qac (by kernel_rfl)) (by kernel_rfl) (λn=>by kernel_rfl) (λx=>by kernel_rfl) (λ_=>rfl) ⟨λ_=>rfl,trivial⟩
 (λn=>λx=>(kzl.eq_2 _ _ _ n).trans (by kernel_rfl))
 (λn=>⟨λx=>(kz9.eq_2 _ _ _ _ _ n).trans (by kernel_rfl),
  trivial⟩)
 (λx=>.inr (by kernel_rfl))
theorem zfc:OkL Tryz.prog [kzn]:=kz7 (kz2 _) (bs:=[zck]) ⟨y0y,trivial⟩ zf7
theorem zed:FOk Tryz.prog kzn:=zfc.1
def zzd:Nat->(List yz1)->(List (List UInt8))->(List Bool)->Option (Bool×(List (List UInt8))×(List Bool))
 |0,_,_,_=>none
 |n+1,a0,a1,a2=>
  (kzl n a0 (mks (List.zip a1 a2)) (mvs (List.zip a1 a2))).bind λy0=>
  some ((decide (y0.1>=0)),(mks (List.zip y0.2.1 y0.2.2)),(mvs (List.zip y0.2.1 y0.2.2)))
def zdk:LSh:=⟨[(4,(.d .bool))],[(.cells [(.map 1)]),(.mp 78 .bool)],2,9,[]⟩
noncomputable def kzj:FI dat:=FI.of dat 32 9 2 [(.d (.sl (.st 2))),(.fn 34 [] [(.ptr 0 0)])] [(.cells [(.map 1)]),(.mp 78 .bool)] [(.d .bool)] [(.cells [(.map 1)]),(.mp 78 .bool)] false zdk (R:=Bool×(List (List UInt8))×(List Bool)) (λx=>(x.1,x.2.1,x.2.2.1)) (λr=>(r.1,r.2.1,r.2.2,())) (λn x=>zzd n x.1 x.2.1 x.2.2.1)
 (λn=>[]) (ann [] (Tryz.f32.body.getD .skip) 0).1
noncomputable def zdj:List (FI dat):=[kzn]
theorem zdo:(kzj).Good Tryz.prog dat (tb zdj):=FI.kz4 (hD:=kz2 _) Tryz.func32 Tryz.ntmps32 Tryz.call32 (by kernel_rfl) (Qac (by kernel_rfl)) (by kernel_rfl) (λn=>by kernel_rfl) (λx=>by kernel_rfl) (λ_=>rfl) trivial
 (λn=>λx=>(zzd.eq_2 _ _ _ n).trans (by kernel_rfl))
 (λn=>trivial)
 (λx=>.inr (by kernel_rfl))
theorem zdl:OkL Tryz.prog [kzj]:=kz7 (kz2 _) (bs:=[kzn]) ⟨zed,trivial⟩ zdo
theorem zd7:FOk Tryz.prog kzj:=zdl.1
mutual
def zaz:Nat->yz3->Option (List zzj)
 |0,_=>none
 |n+1,a0=>
  z4t n 0 a0.cases (a0.cases.length:Int) []
def z4t:Nat->Int->(List yz4)->Int->(List zzj)->Option (List zzj)
 |0,_,_,_,_=>none
 |n+1,a0,a1,a2,a3=>
  pIf (decide (a0<a2))
   ((ix a1 a0).bind λx0=>
   z2c n 0 x0.do_ a1 a2 a0 (x0.do_.length:Int) a3)
   (some a3)
def z2c:Nat->Int->(List zz3)->(List yz4)->Int->Int->Int->(List zzj)->Option (List zzj)
 |0,_,_,_,_,_,_,_=>none
 |n+1,a0,a1,a2,a3,a4,a5,a6=>
  pIf (decide (a0<a5))
   ((ix a1 a0).bind λx1=>
   pIf (!(x1.name==[]))
    ((z9s n x1.kind).bind λy2=>
    (ext a6 [(zzj.mk x1.name (IntKind.i64.wrap ((x1.args.length:Int)-y2)))]).bind λx3=>
    z4z n a1 a2 a3 a4 a5 a0 x3 x1)
    (z4z n a1 a2 a3 a4 a5 a0 a6 x1))
   (z4t n (IntKind.i64.wrap (a4+1)) a2 a3 a6)
def z4z:Nat->(List zz3)->(List yz4)->Int->Int->Int->Int->(List zzj)->zz3->Option (List zzj)
 |0,_,_,_,_,_,_,_,_=>none
 |n+1,a0,a1,a2,a3,a4,a5,a6,a7=>
  z4i n 0 a7.items a0 a1 a2 a3 a4 a5 (a7.items.length:Int) a6
def z4i:Nat->Int->(List yz7)->(List zz3)->(List yz4)->Int->Int->Int->Int->Int->(List zzj)->Option (List zzj)
 |0,_,_,_,_,_,_,_,_,_,_=>none
 |n+1,a0,a1,a2,a3,a4,a5,a6,a7,a8,a9=>
  pIf (decide (a0<a8))
   ((ix a1 a0).bind λx4=>
   (ext a9 [(zzj.mk x4.name (IntKind.i64.wrap ((x4.args.length:Int)-1)))]).bind λx5=>
   z4i n (IntKind.i64.wrap (a0+1)) a1 a2 a3 a4 a5 a6 a7 a8 x5)
   (z2c n (IntKind.i64.wrap (a7+1)) a2 a3 a4 a5 a6 a9)
end
def yci:LSh:=⟨[(2,(.d (.sl (.st 10))))],[],0,61,[]⟩
noncomputable def zg8:FI dat:=FI.of dat 35 61 0 [(.d (.st 7))] [] [(.d (.sl (.st 10)))] [] true yci (R:=List zzj) (λx=>x.1) (λr=>(r,())) (λn x=>zaz n x.1)
 (λn=>[(0,⟨⟨[(3,(.own 0)),(13,(.d (.int .i64))),(11,(.d (.sl (.st 6)))),(12,(.d (.int .i64)))],[(.acc 88 (.st 10) true)],0,61,[]⟩,λx=>z4t n x.1 x.2.1 x.2.2.1 x.2.2.2.1⟩),(1,⟨⟨[(20,(.d (.int .i64))),(3,(.own 0)),(18,(.d (.sl (.st 5)))),(11,(.d (.sl (.st 6)))),(12,(.d (.int .i64))),(13,(.d (.int .i64))),(19,(.d (.int .i64)))],[(.acc 88 (.st 10) true)],0,61,[]⟩,λx=>z2c n x.1 x.2.1 x.2.2.1 x.2.2.2.1 x.2.2.2.2.1 x.2.2.2.2.2.1 x.2.2.2.2.2.2.1⟩),(2,⟨⟨[(3,(.own 0)),(18,(.d (.sl (.st 5)))),(11,(.d (.sl (.st 6)))),(12,(.d (.int .i64))),(13,(.d (.int .i64))),(19,(.d (.int .i64))),(20,(.d (.int .i64))),(7,(.ptr 1 0))],[(.acc 88 (.st 10) true),(.st 5)],0,61,[]⟩,λx=>z4z n x.1 x.2.1 x.2.2.1 x.2.2.2.1 x.2.2.2.2.1 x.2.2.2.2.2.1 x.2.2.2.2.2.2.1 x.2.2.2.2.2.2.2.1⟩),(3,⟨⟨[(43,(.d (.int .i64))),(3,(.own 0)),(41,(.d (.sl (.st 4)))),(18,(.d (.sl (.st 5)))),(11,(.d (.sl (.st 6)))),(12,(.d (.int .i64))),(13,(.d (.int .i64))),(19,(.d (.int .i64))),(20,(.d (.int .i64))),(42,(.d (.int .i64)))],[(.acc 88 (.st 10) true)],0,61,[]⟩,λx=>z4i n x.1 x.2.1 x.2.2.1 x.2.2.2.1 x.2.2.2.2.1 x.2.2.2.2.2.1 x.2.2.2.2.2.2.1 x.2.2.2.2.2.2.2.1 x.2.2.2.2.2.2.2.2.1 x.2.2.2.2.2.2.2.2.2.1⟩)]) (ann [(8,0),(22,1),(39,2),(42,3)] (Tryz.f35.body.getD .skip) 0).1
noncomputable def yec:List (FI dat):=[zdx]
theorem yg9:(zg8).Good Tryz.prog dat (tb yec):=FI.kz4 (hD:=kz2 _) Tryz.func35 Tryz.ntmps35 Tryz.call35 (by kernel_rfl) (Qac (by kernel_rfl)) (by kernel_rfl) (λn=>by kernel_rfl) (λx=>by kernel_rfl) (λ_=>rfl) ⟨λ_=>rfl,λ_=>rfl,λ_=>rfl,λ_=>rfl,trivial⟩
 (λn=>λx=>(zaz.eq_2 _ n).trans (by kernel_rfl))
 (λn=>⟨λx=>(z4t.eq_2 _ _ _ _ n).trans (by kernel_rfl),
  λx=>(z2c.eq_2 _ _ _ _ _ _ _ n).trans (by kernel_rfl),
  λx=>(z4z.eq_2 _ _ _ _ _ _ _ _ n).trans (by kernel_rfl),
  λx=>(z4i.eq_2 _ _ _ _ _ _ _ _ _ _ n).trans (by kernel_rfl),
  trivial⟩)
 (λx=>.inl rfl)
theorem yh0:OkL Tryz.prog [zg8]:=kz7 (kz2 _) (bs:=[zdx]) ⟨zxp,trivial⟩ yg9
theorem yap:FOk Tryz.prog zg8:=yh0.1
mutual
noncomputable def z7e:Nat->zz0->Option Int
 |0,_=>none
 |n+1,a0=>
  (zcx n a0).bind λy0=>
  pIf y0
   (some 4)
   ((z9o n a0).bind λy1=>
   pIf (!y1)
    (some 8)
    (z4v n 0 false a0.attrs (a0.attrs.length:Int) [] [] [] [] a0))
noncomputable def z4v:Nat->Int->Bool->(List yz5)->Int->(List (List UInt8))->(List Bool)->(List (List UInt8))->(List Int)->zz0->Option Int
 |0,_,_,_,_,_,_,_,_,_=>none
 |n+1,a0,a1,a2,a3,a4,a5,a6,a7,a8=>
  pIf (decide (a0<a3))
   ((ix a2 a0).bind λx2=>
   pIf a1
    (z3r n true a2 a3 a0 (mks (List.zip a4 a5)) (mvs (List.zip a4 a5)) (mks (List.zip a6 a7)) (mvs (List.zip a6 a7)) a8 x2.re)
    ((za9 n x2.value.re (mks (List.zip a4 a5)) (mvs (List.zip a4 a5))).bind λy3=>
    z3r n y3.1 a2 a3 a0 (mks (List.zip y3.2.1 y3.2.2)) (mvs (List.zip y3.2.1 y3.2.2)) (mks (List.zip a6 a7)) (mvs (List.zip a6 a7)) a8 x2.re))
   (z52 n 0 a8.rules a1 (a8.rules.length:Int) (mks (List.zip a4 a5)) (mvs (List.zip a4 a5)) (mks (List.zip a6 a7)) (mvs (List.zip a6 a7)) a8)
noncomputable def z3r:Nat->Bool->(List yz5)->Int->Int->(List (List UInt8))->(List Bool)->(List (List UInt8))->(List Int)->zz0->yz5->Option Int
 |0,_,_,_,_,_,_,_,_,_,_=>none
 |n+1,a0,a1,a2,a3,a4,a5,a6,a7,a8,a9=>
  pIf (Option.getD (z84 (List.zip a4 a5) a9.name) false)
   (some 14)
   (z4v n (IntKind.i64.wrap (a3+1)) a0 a1 a2 (mks (zd5 (List.zip a4 a5) a9.name true)) (mvs (zd5 (List.zip a4 a5) a9.name true)) (mks (List.zip a6 a7)) (mvs (List.zip a6 a7)) a8)
noncomputable def z52:Nat->Int->(List yz3)->Bool->Int->(List (List UInt8))->(List Bool)->(List (List UInt8))->(List Int)->zz0->Option Int
 |0,_,_,_,_,_,_,_,_,_=>none
 |n+1,a0,a1,a2,a3,a4,a5,a6,a7,a8=>
  pIf (decide (a0<a3))
   ((ix a1 a0).bind λx4=>
   pIf (Option.isSome (z84 (List.zip a6 a7) x4.name))
    (some 14)
    (z48 n 0 x4.params a1 a2 a3 a0 (x4.params.length:Int) x4 (mks (List.zip a4 a5)) (mvs (List.zip a4 a5)) (mks (zd5 (List.zip a6 a7) x4.name a0)) (mvs (zd5 (List.zip a6 a7) x4.name a0)) a8))
   (z26 n false 0 a2 (mks (List.zip a4 a5)) (mvs (List.zip a4 a5)) a8.rules (a8.rules.length:Int) a8 (mks (List.zip a6 a7)) (mvs (List.zip a6 a7)))
noncomputable def z48:Nat->Int->(List (List UInt8))->(List yz3)->Bool->Int->Int->Int->yz3->(List (List UInt8))->(List Bool)->(List (List UInt8))->(List Int)->zz0->Option Int
 |0,_,_,_,_,_,_,_,_,_,_,_,_,_=>none
 |n+1,a0,a1,a2,a3,a4,a5,a6,a7,a8,a9,a10,a11,a12=>
  pIf (decide (a0<a6))
   ((ix a1 a0).bind λx5=>
   pIf (Option.getD (z84 (List.zip a8 a9) x5) false)
    (z4e n a1 a2 a3 a4 a5 a6 a0 true a7 (mks (List.zip a8 a9)) (mvs (List.zip a8 a9)) (mks (List.zip a10 a11)) (mvs (List.zip a10 a11)) a12)
    ((kzk n a7.params x5).bind λy6=>
    z4e n a1 a2 a3 a4 a5 a6 a0 (decide (y6<a0)) a7 (mks (List.zip a8 a9)) (mvs (List.zip a8 a9)) (mks (List.zip a10 a11)) (mvs (List.zip a10 a11)) a12))
   (z52 n (IntKind.i64.wrap (a5+1)) a2 a3 a4 (mks (List.zip a8 a9)) (mvs (List.zip a8 a9)) (mks (List.zip a10 a11)) (mvs (List.zip a10 a11)) a12)
noncomputable def z4e:Nat->(List (List UInt8))->(List yz3)->Bool->Int->Int->Int->Int->Bool->yz3->(List (List UInt8))->(List Bool)->(List (List UInt8))->(List Int)->zz0->Option Int
 |0,_,_,_,_,_,_,_,_,_,_,_,_,_,_=>none
 |n+1,a0,a1,a2,a3,a4,a5,a6,a7,a8,a9,a10,a11,a12,a13=>
  pIf a7
   (some 14)
   (z48 n (IntKind.i64.wrap (a6+1)) a0 a1 a2 a3 a4 a5 a8 (mks (List.zip a9 a10)) (mvs (List.zip a9 a10)) (mks (List.zip a11 a12)) (mvs (List.zip a11 a12)) a13)
noncomputable def z26:Nat->Bool->Int->Bool->(List (List UInt8))->(List Bool)->(List yz3)->Int->zz0->(List (List UInt8))->(List Int)->Option Int
 |0,_,_,_,_,_,_,_,_,_,_=>none
 |n+1,a0,a1,a2,a3,a4,a5,a6,a7,a8,a9=>
  pIf (decide (a1<a6))
   ((ix a5 a1).bind λx7=>
   z4n n a0 (mks (List.zip a3 a4)) (mvs (List.zip a3 a4)) a5 a6 a1 a2 (mks (List.zip a3 a4)) (mvs (List.zip a3 a4)) a7 (mks (List.zip a8 a9)) (mvs (List.zip a8 a9)) x7 (mks (zd5 (zd5 (zd5 [] [115,120] true) [115,121] true) [115,122] true)) (mvs (zd5 (zd5 (zd5 [] [115,120] true) [115,121] true) [115,122] true)))
   (pIf a2
     (some 6)
     (pIf a0
       (some 2)
       (some 0)))
noncomputable def z4n:Nat->Bool->(List (List UInt8))->(List Bool)->(List yz3)->Int->Int->Bool->(List (List UInt8))->(List Bool)->zz0->(List (List UInt8))->(List Int)->yz3->(List (List UInt8))->(List Bool)->Option Int
 |0,_,_,_,_,_,_,_,_,_,_,_,_,_,_,_=>none
 |n+1,a0,a1,a2,a3,a4,a5,a6,a7,a8,a9,a10,a11,a12,a13,a14=>
  y3m (List.zip a7 a8) (λk8 v9 r10=>
   z4n n a0 (mks (List.zip a1 a2)) (mvs (List.zip a1 a2)) a3 a4 a5 a6 (mks r10) (mvs r10) a9 (mks (List.zip a10 a11)) (mvs (List.zip a10 a11)) a12 (mks (zd5 (List.zip a13 a14) k8 true)) (mvs (zd5 (List.zip a13 a14) k8 true)))
   (z25 n 0 a12.params a0 (mks (List.zip a1 a2)) (mvs (List.zip a1 a2)) a3 a4 a5 a6 (a12.params.length:Int) a9 (mks (List.zip a10 a11)) (mvs (List.zip a10 a11)) a12 (mks (List.zip a13 a14)) (mvs (List.zip a13 a14)))
noncomputable def z25:Nat->Int->(List (List UInt8))->Bool->(List (List UInt8))->(List Bool)->(List yz3)->Int->Int->Bool->Int->zz0->(List (List UInt8))->(List Int)->yz3->(List (List UInt8))->(List Bool)->Option Int
 |0,_,_,_,_,_,_,_,_,_,_,_,_,_,_,_,_=>none
 |n+1,a0,a1,a2,a3,a4,a5,a6,a7,a8,a9,a10,a11,a12,a13,a14,a15=>
  pIf (decide (a0<a9))
   ((ix a1 a0).bind λx11=>
   z25 n (IntKind.i64.wrap (a0+1)) a1 a2 (mks (List.zip a3 a4)) (mvs (List.zip a3 a4)) a5 a6 a7 a8 a9 a10 (mks (List.zip a11 a12)) (mvs (List.zip a11 a12)) a13 (mks (zd5 (List.zip a14 a15) x11 true)) (mvs (zd5 (List.zip a14 a15) x11 true)))
   (pIf a8
     (z4r n a2 true (mks (List.zip a3 a4)) (mvs (List.zip a3 a4)) a5 a6 a7 a10 (mks (List.zip a11 a12)) (mvs (List.zip a11 a12)) a13)
     ((zbq n a13).bind λy12=>
     (zzd n y12 (mks (List.zip a14 a15)) (mvs (List.zip a14 a15))).bind λy13=>
     z4r n a2 y13.1 (mks (List.zip a3 a4)) (mvs (List.zip a3 a4)) a5 a6 a7 a10 (mks (List.zip a11 a12)) (mvs (List.zip a11 a12)) a13))
noncomputable def z4r:Nat->Bool->Bool->(List (List UInt8))->(List Bool)->(List yz3)->Int->Int->zz0->(List (List UInt8))->(List Int)->yz3->Option Int
 |0,_,_,_,_,_,_,_,_,_,_,_=>none
 |n+1,a0,a1,a2,a3,a4,a5,a6,a7,a8,a9,a10=>
  (zaz n a10).bind λy14=>
  z4p n 0 a0 a1 y14 (mks (List.zip a2 a3)) (mvs (List.zip a2 a3)) a4 a5 a6 (y14.length:Int) a7 (mks (List.zip a8 a9)) (mvs (List.zip a8 a9))
noncomputable def z4p:Nat->Int->Bool->Bool->(List zzj)->(List (List UInt8))->(List Bool)->(List yz3)->Int->Int->Int->zz0->(List (List UInt8))->(List Int)->Option Int
 |0,_,_,_,_,_,_,_,_,_,_,_,_,_=>none
 |n+1,a0,a1,a2,a3,a4,a5,a6,a7,a8,a9,a10,a11,a12=>
  pIf (decide (a0<a9))
   ((ix a3 a0).bind λx15=>
   pIf a2
    (z30 n true a3 (mks (List.zip a4 a5)) (mvs (List.zip a4 a5)) a6 a7 a8 a9 a0 (Option.getD (z84 (List.zip a11 a12) x15.name) 0) (Option.isSome (z84 (List.zip a11 a12) x15.name)) a1 a10 (mks (List.zip a11 a12)) (mvs (List.zip a11 a12)) x15)
    (z30 n (!(Option.isSome (z84 (List.zip a11 a12) x15.name))) a3 (mks (List.zip a4 a5)) (mvs (List.zip a4 a5)) a6 a7 a8 a9 a0 (Option.getD (z84 (List.zip a11 a12) x15.name) 0) (Option.isSome (z84 (List.zip a11 a12) x15.name)) a1 a10 (mks (List.zip a11 a12)) (mvs (List.zip a11 a12)) x15))
   (z26 n a1 (IntKind.i64.wrap (a8+1)) a2 (mks (List.zip a4 a5)) (mvs (List.zip a4 a5)) a6 a7 a10 (mks (List.zip a11 a12)) (mvs (List.zip a11 a12)))
noncomputable def z30:Nat->Bool->(List zzj)->(List (List UInt8))->(List Bool)->(List yz3)->Int->Int->Int->Int->Int->Bool->Bool->zz0->(List (List UInt8))->(List Int)->zzj->Option Int
 |0,_,_,_,_,_,_,_,_,_,_,_,_,_,_,_,_=>none
 |n+1,a0,a1,a2,a3,a4,a5,a6,a7,a8,a9,a10,a11,a12,a13,a14,a15=>
  pIf a11
   (z11 n true a0 a1 (mks (List.zip a2 a3)) (mvs (List.zip a2 a3)) a4 a5 a6 a7 a8 a12 (mks (List.zip a13 a14)) (mvs (List.zip a13 a14)))
   (pIf a10
     ((ix a12.rules a9).bind λx16=>
     z11 n (a15.many != (x16.params.length:Int)) a0 a1 (mks (List.zip a2 a3)) (mvs (List.zip a2 a3)) a4 a5 a6 a7 a8 a12 (mks (List.zip a13 a14)) (mvs (List.zip a13 a14)))
     (z11 n false a0 a1 (mks (List.zip a2 a3)) (mvs (List.zip a2 a3)) a4 a5 a6 a7 a8 a12 (mks (List.zip a13 a14)) (mvs (List.zip a13 a14))))
noncomputable def z11:Nat->Bool->Bool->(List zzj)->(List (List UInt8))->(List Bool)->(List yz3)->Int->Int->Int->Int->zz0->(List (List UInt8))->(List Int)->Option Int
 |0,_,_,_,_,_,_,_,_,_,_,_,_,_=>none
 |n+1,a0,a1,a2,a3,a4,a5,a6,a7,a8,a9,a10,a11,a12=>
  z4p n (IntKind.i64.wrap (a9+1)) a0 a1 a2 (mks (List.zip a3 a4)) (mvs (List.zip a3 a4)) a5 a6 a7 a8 a10 (mks (List.zip a11 a12)) (mvs (List.zip a11 a12))
end
def ycz:LSh:=⟨[(2,(.d (.int .i64)))],[],0,170,[]⟩
noncomputable def zgj:FI dat:=FI.of dat 14 170 0 [(.d (.st 8))] [] [(.d (.int .i64))] [] true ycz (R:=Int) (λx=>x.1) (λr=>(r,())) (λn x=>z7e n x.1)
 (λn=>[(0,⟨⟨[(35,(.d (.int .i64))),(3,(.map 0)),(5,(.d .bool)),(33,(.d (.sl (.st 3)))),(4,(.map 1)),(1,(.ptr 2 0)),(34,(.d (.int .i64)))],[(.mp 78 .bool),(.mp 79 (.int .i64)),(.st 8)],0,170,[]⟩,λx=>z4v n x.1 x.2.1 x.2.2.1 x.2.2.2.1 x.2.2.2.2.1 x.2.2.2.2.2.1 x.2.2.2.2.2.2.1 x.2.2.2.2.2.2.2.1 x.2.2.2.2.2.2.2.2.1⟩),(1,⟨⟨[(3,(.map 0)),(5,(.d .bool)),(33,(.d (.sl (.st 3)))),(4,(.map 1)),(1,(.ptr 2 0)),(34,(.d (.int .i64))),(35,(.d (.int .i64))),(7,(.ptr 3 0))],[(.mp 78 .bool),(.mp 79 (.int .i64)),(.st 8),(.st 3)],0,170,[]⟩,λx=>z3r n x.1 x.2.1 x.2.2.1 x.2.2.2.1 x.2.2.2.2.1 x.2.2.2.2.2.1 x.2.2.2.2.2.2.1 x.2.2.2.2.2.2.2.1 x.2.2.2.2.2.2.2.2.1 x.2.2.2.2.2.2.2.2.2.1⟩),(2,⟨⟨[(3,(.map 0)),(57,(.d (.int .i64))),(4,(.map 1)),(55,(.d (.sl (.st 7)))),(1,(.ptr 2 0)),(5,(.d .bool)),(56,(.d (.int .i64)))],[(.mp 78 .bool),(.mp 79 (.int .i64)),(.st 8)],0,170,[]⟩,λx=>z52 n x.1 x.2.1 x.2.2.1 x.2.2.2.1 x.2.2.2.2.1 x.2.2.2.2.2.1 x.2.2.2.2.2.2.1 x.2.2.2.2.2.2.2.1 x.2.2.2.2.2.2.2.2.1⟩),(3,⟨⟨[(77,(.d (.int .i64))),(9,(.ptr 0 0)),(3,(.map 1)),(75,(.d (.sl .str))),(4,(.map 2)),(55,(.d (.sl (.st 7)))),(1,(.ptr 3 0)),(5,(.d .bool)),(56,(.d (.int .i64))),(57,(.d (.int .i64))),(76,(.d (.int .i64)))],[(.st 7),(.mp 78 .bool),(.mp 79 (.int .i64)),(.st 8)],0,170,[]⟩,λx=>z48 n x.1 x.2.1 x.2.2.1 x.2.2.2.1 x.2.2.2.2.1 x.2.2.2.2.2.1 x.2.2.2.2.2.2.1 x.2.2.2.2.2.2.2.1 x.2.2.2.2.2.2.2.2.1 x.2.2.2.2.2.2.2.2.2.1 x.2.2.2.2.2.2.2.2.2.2.1 x.2.2.2.2.2.2.2.2.2.2.2.1 x.2.2.2.2.2.2.2.2.2.2.2.2.1⟩),(4,⟨⟨[(9,(.ptr 0 0)),(3,(.map 1)),(75,(.d (.sl .str))),(4,(.map 2)),(55,(.d (.sl (.st 7)))),(1,(.ptr 3 0)),(5,(.d .bool)),(56,(.d (.int .i64))),(57,(.d (.int .i64))),(76,(.d (.int .i64))),(77,(.d (.int .i64))),(92,(.d .bool))],[(.st 7),(.mp 78 .bool),(.mp 79 (.int .i64)),(.st 8)],0,170,[]⟩,λx=>z4e n x.1 x.2.1 x.2.2.1 x.2.2.2.1 x.2.2.2.2.1 x.2.2.2.2.2.1 x.2.2.2.2.2.2.1 x.2.2.2.2.2.2.2.1 x.2.2.2.2.2.2.2.2.1 x.2.2.2.2.2.2.2.2.2.1 x.2.2.2.2.2.2.2.2.2.2.1 x.2.2.2.2.2.2.2.2.2.2.2.1 x.2.2.2.2.2.2.2.2.2.2.2.2.1 x.2.2.2.2.2.2.2.2.2.2.2.2.2.1⟩),(5,⟨⟨[(1,(.ptr 0 0)),(14,(.d .bool)),(4,(.map 1)),(98,(.d (.int .i64))),(5,(.d .bool)),(3,(.mc .bool)),(96,(.d (.sl (.st 7)))),(97,(.d (.int .i64)))],[(.st 8),(.mp 79 (.int .i64))],0,170,[]⟩,λx=>z26 n x.1 x.2.1 x.2.2.1 x.2.2.2.1 x.2.2.2.2.1 x.2.2.2.2.2.1 x.2.2.2.2.2.2.1 x.2.2.2.2.2.2.2.1 x.2.2.2.2.2.2.2.2.1 x.2.2.2.2.2.2.2.2.2.1⟩),(6,⟨⟨[(17,(.ptr 0 0)),(105,(.ptr 1 0)),(1,(.ptr 2 0)),(14,(.d .bool)),(4,(.map 3)),(3,(.mc .bool)),(96,(.d (.sl (.st 7)))),(97,(.d (.int .i64))),(98,(.d (.int .i64))),(16,(.ptr 4 0)),(5,(.d .bool))],[(.cells [(.map 5)]),(.mit .bool),(.st 8),(.mp 79 (.int .i64)),(.st 7),(.mp 78 .bool)],0,170,[]⟩,λx=>z4n n x.1 x.2.1 x.2.2.1 x.2.2.2.1 x.2.2.2.2.1 x.2.2.2.2.2.1 x.2.2.2.2.2.2.1 x.2.2.2.2.2.2.2.1 x.2.2.2.2.2.2.2.2.1 x.2.2.2.2.2.2.2.2.2.1 x.2.2.2.2.2.2.2.2.2.2.1 x.2.2.2.2.2.2.2.2.2.2.2.1 x.2.2.2.2.2.2.2.2.2.2.2.2.1 x.2.2.2.2.2.2.2.2.2.2.2.2.2.1 x.2.2.2.2.2.2.2.2.2.2.2.2.2.2.1⟩),(7,⟨⟨[(115,(.d (.int .i64))),(17,(.ptr 0 0)),(113,(.d (.sl .str))),(1,(.ptr 1 0)),(14,(.d .bool)),(4,(.map 2)),(3,(.mc .bool)),(96,(.d (.sl (.st 7)))),(97,(.d (.int .i64))),(98,(.d (.int .i64))),(16,(.ptr 3 0)),(5,(.d .bool)),(114,(.d (.int .i64)))],[(.cells [(.map 4)]),(.st 8),(.mp 79 (.int .i64)),(.st 7),(.mp 78 .bool)],0,170,[]⟩,λx=>z25 n x.1 x.2.1 x.2.2.1 x.2.2.2.1 x.2.2.2.2.1 x.2.2.2.2.2.1 x.2.2.2.2.2.2.1 x.2.2.2.2.2.2.2.1 x.2.2.2.2.2.2.2.2.1 x.2.2.2.2.2.2.2.2.2.1 x.2.2.2.2.2.2.2.2.2.2.1 x.2.2.2.2.2.2.2.2.2.2.2.1 x.2.2.2.2.2.2.2.2.2.2.2.2.1 x.2.2.2.2.2.2.2.2.2.2.2.2.2.1 x.2.2.2.2.2.2.2.2.2.2.2.2.2.2.1 x.2.2.2.2.2.2.2.2.2.2.2.2.2.2.2.1⟩),(8,⟨⟨[(1,(.ptr 0 0)),(14,(.d .bool)),(5,(.d .bool)),(4,(.map 1)),(3,(.mc .bool)),(96,(.d (.sl (.st 7)))),(97,(.d (.int .i64))),(98,(.d (.int .i64))),(16,(.ptr 2 0))],[(.st 8),(.mp 79 (.int .i64)),(.st 7)],0,170,[]⟩,λx=>z4r n x.1 x.2.1 x.2.2.1 x.2.2.2.1 x.2.2.2.2.1 x.2.2.2.2.2.1 x.2.2.2.2.2.2.1 x.2.2.2.2.2.2.2.1 x.2.2.2.2.2.2.2.2.1 x.2.2.2.2.2.2.2.2.2.1 x.2.2.2.2.2.2.2.2.2.2.1⟩),(9,⟨⟨[(132,(.d (.int .i64))),(1,(.ptr 0 0)),(14,(.d .bool)),(5,(.d .bool)),(4,(.map 1)),(130,(.d (.sl (.st 10)))),(3,(.mc .bool)),(96,(.d (.sl (.st 7)))),(97,(.d (.int .i64))),(98,(.d (.int .i64))),(131,(.d (.int .i64)))],[(.st 8),(.mp 79 (.int .i64))],0,170,[]⟩,λx=>z4p n x.1 x.2.1 x.2.2.1 x.2.2.2.1 x.2.2.2.2.1 x.2.2.2.2.2.1 x.2.2.2.2.2.2.1 x.2.2.2.2.2.2.2.1 x.2.2.2.2.2.2.2.2.1 x.2.2.2.2.2.2.2.2.2.1 x.2.2.2.2.2.2.2.2.2.2.1 x.2.2.2.2.2.2.2.2.2.2.2.1 x.2.2.2.2.2.2.2.2.2.2.2.2.1⟩),(10,⟨⟨[(1,(.ptr 0 0)),(5,(.d .bool)),(4,(.map 1)),(130,(.d (.sl (.st 10)))),(3,(.mc .bool)),(96,(.d (.sl (.st 7)))),(97,(.d (.int .i64))),(98,(.d (.int .i64))),(131,(.d (.int .i64))),(132,(.d (.int .i64))),(23,(.d (.int .i64))),(22,(.ptr 2 0)),(24,(.d .bool)),(14,(.d .bool))],[(.st 8),(.mp 79 (.int .i64)),(.st 10)],0,170,[]⟩,λx=>z30 n x.1 x.2.1 x.2.2.1 x.2.2.2.1 x.2.2.2.2.1 x.2.2.2.2.2.1 x.2.2.2.2.2.2.1 x.2.2.2.2.2.2.2.1 x.2.2.2.2.2.2.2.2.1 x.2.2.2.2.2.2.2.2.2.1 x.2.2.2.2.2.2.2.2.2.2.1 x.2.2.2.2.2.2.2.2.2.2.2.1 x.2.2.2.2.2.2.2.2.2.2.2.2.1 x.2.2.2.2.2.2.2.2.2.2.2.2.2.1 x.2.2.2.2.2.2.2.2.2.2.2.2.2.2.1 x.2.2.2.2.2.2.2.2.2.2.2.2.2.2.2.1⟩),(11,⟨⟨[(1,(.ptr 0 0)),(14,(.d .bool)),(5,(.d .bool)),(4,(.map 1)),(130,(.d (.sl (.st 10)))),(3,(.mc .bool)),(96,(.d (.sl (.st 7)))),(97,(.d (.int .i64))),(98,(.d (.int .i64))),(131,(.d (.int .i64))),(132,(.d (.int .i64)))],[(.st 8),(.mp 79 (.int .i64))],0,170,[]⟩,λx=>z11 n x.1 x.2.1 x.2.2.1 x.2.2.2.1 x.2.2.2.2.1 x.2.2.2.2.2.1 x.2.2.2.2.2.2.1 x.2.2.2.2.2.2.2.1 x.2.2.2.2.2.2.2.2.1 x.2.2.2.2.2.2.2.2.2.1 x.2.2.2.2.2.2.2.2.2.2.1 x.2.2.2.2.2.2.2.2.2.2.2.1 x.2.2.2.2.2.2.2.2.2.2.2.2.1⟩)]) (ann [(26,0),(39,1),(53,2),(79,3),(92,4),(105,5),(122,6),(137,7),(152,8),(155,9),(170,10),(171,11)] (Tryz.f14.body.getD .skip) 0).1
noncomputable def yeg:List (FI dat):=[zc4,kzj,zhp,zdz,zzm,zfv,zg8]
theorem yfi:(zgj).Good Tryz.prog dat (tb yeg):=FI.kz4 (hD:=kz2 _) Tryz.func14 Tryz.ntmps14 Tryz.call14 (by kernel_rfl) (Qac (by kernel_rfl)) (by kernel_rfl) (λn=>by kernel_rfl) (λx=>by kernel_rfl) (λ_=>rfl) ⟨λ_=>rfl,λ_=>rfl,λ_=>rfl,λ_=>rfl,λ_=>rfl,λ_=>rfl,λ_=>rfl,λ_=>rfl,λ_=>rfl,λ_=>rfl,λ_=>rfl,λ_=>rfl,trivial⟩
 (λn=>λx=>(z7e.eq_2 _ n).trans (by kernel_rfl))
 (λn=>⟨λx=>(z4v.eq_2 _ _ _ _ _ _ _ _ _ n).trans (by kernel_rfl),
  λx=>(z3r.eq_2 _ _ _ _ _ _ _ _ _ _ n).trans (by kernel_rfl),
  λx=>(z52.eq_2 _ _ _ _ _ _ _ _ _ n).trans (by kernel_rfl),
  λx=>(z48.eq_2 _ _ _ _ _ _ _ _ _ _ _ _ _ n).trans (by kernel_rfl),
  λx=>(z4e.eq_2 _ _ _ _ _ _ _ _ _ _ _ _ _ _ n).trans (by kernel_rfl),
  λx=>(z26.eq_2 _ _ _ _ _ _ _ _ _ _ n).trans (by kernel_rfl),
  λx=>(z4n.eq_2 _ _ _ _ _ _ _ _ _ _ _ _ _ _ _ n).trans (by kernel_rfl),
  λx=>(z25.eq_2 _ _ _ _ _ _ _ _ _ _ _ _ _ _ _ _ n).trans (by kernel_rfl),
  λx=>(z4r.eq_2 _ _ _ _ _ _ _ _ _ _ _ n).trans (by kernel_rfl),
  λx=>(z4p.eq_2 _ _ _ _ _ _ _ _ _ _ _ _ _ n).trans (by kernel_rfl),
  λx=>(z30.eq_2 _ _ _ _ _ _ _ _ _ _ _ _ _ _ _ _ n).trans (by kernel_rfl),
  λx=>(z11.eq_2 _ _ _ _ _ _ _ _ _ _ _ _ _ n).trans (by kernel_rfl),
  trivial⟩)
 (λx=>.inl rfl)
theorem ydz:OkL Tryz.prog [zgj]:=kz7 (kz2 _) (bs:=[zc4,kzj,zhp,zdz,zzm,zfv,zg8]) ⟨zv9,zd7,yfk,y5z,zbx,y80,yap,trivial⟩ yfi
theorem y7z:FOk Tryz.prog zgj:=ydz.1
mutual
def z7s:Nat->kz1->Option kz1
 |0,_=>none
 |n+1,a0=>
  z2z n 0 a0.list (a0.list.length:Int) [] 0 0 0 false [] a0.re []
def z2z:Nat->Int->(List kz1)->Int->(List kz1)->Int->Int->Int->Bool->(List UInt8)->kz1->(List kz1)->Option kz1
 |0,_,_,_,_,_,_,_,_,_,_,_=>none
 |n+1,a0,a1,a2,a3,a4,a5,a6,a7,a8,a9,a10=>
  pIf (decide (a0<a2))
   ((ix a1 a0).bind λx0=>
   (z7s n x0.re).bind λy1=>
   (ext a3 [y1.re]).bind λx2=>
   z2z n (IntKind.i64.wrap (a0+1)) a1 a2 x2 a4 a5 a6 a7 a8 a9.re a10)
   (some (kz1.mk a9.kind a9.num a9.truth a9.str a3))
end
def y7u:LSh:=⟨[(3,(.ptr 1 0))],[(.cells [(.fn 99 [] [(.ptr 0 0)])]),(.st 1)],1,24,[]⟩
noncomputable def zav:FI dat:=FI.of dat 99 24 1 [(.d (.st 1)),(.ptr 0 0)] [(.cells [(.fn 99 [] [(.ptr 0 0)])])] [(.d (.st 1))] [(.cells [(.fn 99 [] [(.ptr 0 0)])]),(.st 1)] false y7u (R:=kz1) (λx=>x.1) (λr=>(r,r,())) (λn x=>z7s n x.1)
 (λn=>[(0,⟨⟨[(10,(.d (.int .i64))),(1,(.ptr 0 0)),(4,(.own 1)),(8,(.d (.sl (.st 1)))),(3,(.ptr 2 0)),(2,(.ptr 3 0)),(9,(.d (.int .i64)))],[(.cells [(.fn 99 [] [(.ptr 0 0)])]),(.acc 42 (.st 1) true),(.cells [(.d (.int .u8)),(.d (.int .i64)),(.d (.int .i64)),(.d .bool),(.d .str),(.own 4)]),(.st 1),(.acc 42 (.st 1) true)],1,24,[]⟩,λx=>z2z n x.1 x.2.1 x.2.2.1 x.2.2.2.1 x.2.2.2.2.1 x.2.2.2.2.2.1 x.2.2.2.2.2.2.1 x.2.2.2.2.2.2.2.1 x.2.2.2.2.2.2.2.2.1 x.2.2.2.2.2.2.2.2.2.1 x.2.2.2.2.2.2.2.2.2.2.1⟩)]) (ann [(8,0)] (Tryz.f99.body.getD .skip) 0).1
noncomputable def y7d:List (FI dat):=[zav]++[]
theorem yb3:(zav).Good Tryz.prog dat (tb y7d):=FI.kz4 (hD:=kz2 _) Tryz.func99 Tryz.ntmps99 Tryz.call99 (by kernel_rfl) (Qac (by kernel_rfl)) (by kernel_rfl) (λn=>by kernel_rfl) (λx=>by kernel_rfl) (λ_=>rfl) ⟨λ_=>rfl,trivial⟩
 (λn=>λx=>(z7s.eq_2 _ n).trans (by kernel_rfl))
 (λn=>⟨λx=>(z2z.eq_2 _ _ _ _ _ _ _ _ _ _ _ n).trans (by kernel_rfl),
  trivial⟩)
 (λx=>.inr (by kernel_rfl))
theorem y7i:OkL Tryz.prog [zav]:=z5f (kz2 _) (bs:=[]) trivial ⟨yb3,trivial⟩
theorem y45:FOk Tryz.prog zav:=y7i.1
def zcr:Nat->kz1->Option kz1
 |0,_=>none
 |n+1,a0=>
  (z7s n a0.re).bind λy0=>
  some y0.re
def yjc:LSh:=⟨[(2,(.ptr 0 0))],[(.st 1)],0,8,[]⟩
noncomputable def zi4:FI dat:=FI.of dat 73 8 0 [(.d (.st 1))] [] [(.d (.st 1))] [] true yjc (R:=kz1) (λx=>x.1) (λr=>(r,())) (λn x=>zcr n x.1)
 (λn=>[]) (ann [] (Tryz.f73.body.getD .skip) 0).1
noncomputable def yo3:List (FI dat):=[zav]
theorem yn5:(zi4).Good Tryz.prog dat (tb yo3):=FI.kz4 (hD:=kz2 _) Tryz.func73 Tryz.ntmps73 Tryz.call73 (by kernel_rfl) (Qac (by kernel_rfl)) (by kernel_rfl) (λn=>by kernel_rfl) (λx=>by kernel_rfl) (λ_=>rfl) trivial
 (λn=>λx=>(zcr.eq_2 _ n).trans (by kernel_rfl))
 (λn=>trivial)
 (λx=>.inl rfl)
theorem yl5:OkL Tryz.prog [zi4]:=kz7 (kz2 _) (bs:=[zav]) ⟨y45,trivial⟩ yn5
theorem ye5:FOk Tryz.prog zi4:=yl5.1
def zb2:Nat->yz1->Option yz1
 |0,_=>none
 |n+1,a0=>
  (zcr n a0.value.re).bind λy0=>
  some (yz1.mk a0.op y0.re a0.name a0.args)
def ycf:LSh:=⟨[(2,(.ptr 0 0))],[(.st 2)],0,8,[]⟩
noncomputable def zg9:FI dat:=FI.of dat 72 8 0 [(.d (.st 2))] [] [(.d (.st 2))] [] true ycf (R:=yz1) (λx=>x.1) (λr=>(r,())) (λn x=>zb2 n x.1)
 (λn=>[]) (ann [] (Tryz.f72.body.getD .skip) 0).1
noncomputable def yc7:List (FI dat):=[zi4]
theorem yeq:(zg9).Good Tryz.prog dat (tb yc7):=FI.kz4 (hD:=kz2 _) Tryz.func72 Tryz.ntmps72 Tryz.call72 (by kernel_rfl) (Qac (by kernel_rfl)) (by kernel_rfl) (λn=>by kernel_rfl) (λx=>by kernel_rfl) (λ_=>rfl) trivial
 (λn=>λx=>(zb2.eq_2 _ n).trans (by kernel_rfl))
 (λn=>trivial)
 (λx=>.inl rfl)
theorem ydi:OkL Tryz.prog [zg9]:=kz7 (kz2 _) (bs:=[zi4]) ⟨ye5,trivial⟩ yeq
theorem y8e:FOk Tryz.prog zg9:=ydi.1
mutual
def z9c:Nat->yz1->Option yz1
 |0,_=>none
 |n+1,a0=>
  z42 n 0 a0.args (a0.args.length:Int) a0.op a0.value.kind a0.value.num.num a0.value.num.den a0.value.truth a0.value.str a0.value.list a0.name 0 0 0 0 false [] [] [] [] []
def z42:Nat->Int->(List yz1)->Int->Int->Int->Int->Int->Bool->(List UInt8)->(List kz1)->(List UInt8)->Int->Int->Int->Int->Bool->(List UInt8)->(List kz1)->(List UInt8)->(List yz1)->(List yz1)->Option yz1
 |0,_,_,_,_,_,_,_,_,_,_,_,_,_,_,_,_,_,_,_,_,_=>none
 |n+1,a0,a1,a2,a3,a4,a5,a6,a7,a8,a9,a10,a11,a12,a13,a14,a15,a16,a17,a18,a19,a20=>
  pIf (decide (a0<a2))
   ((ix a1 a0).bind λx0=>
   (z9c n x0.re).bind λy1=>
   (ext a19 [y1.re]).bind λx2=>
   z42 n (IntKind.i64.wrap (a0+1)) a1 a2 a3 a4 a5 a6 a7 a8 a9 a10 a11 a12 a13 a14 a15 a16 a17 a18 x2 a20)
   ((zb2 n (yz1.mk a3 (kz1.mk a4 (kz6.mk a5 a6) a7 a8 a9) a10 a19)).bind λy3=>
   some y3.re)
end
def yff:LSh:=⟨[(4,(.ptr 0 0))],[(.st 2)],0,29,[]⟩
noncomputable def zcs:FI dat:=FI.of dat 71 29 0 [(.d (.st 2)),(.fn 72 [] [])] [] [(.d (.st 2))] [] true yff (R:=yz1) (λx=>x.1) (λr=>(r,())) (λn x=>z9c n x.1)
 (λn=>[(0,⟨⟨[(13,(.d (.int .i64))),(2,(.ptr 0 0)),(1,(.fn 72 [] [])),(11,(.d (.sl (.st 2)))),(4,(.ptr 1 0)),(12,(.d (.int .i64)))],[(.cells [(.d (.int .u8)),(.d (.int .u8)),(.d (.int .i64)),(.d (.int .i64)),(.d .bool),(.d .str),(.d (.sl (.st 1))),(.d .str),(.own 2)]),(.cells [(.d (.int .u8)),(.d (.int .u8)),(.d (.int .i64)),(.d (.int .i64)),(.d .bool),(.d .str),(.d (.sl (.st 1))),(.d .str),(.own 3)]),(.acc 45 (.st 2) true),(.acc 45 (.st 2) true)],0,29,[]⟩,λx=>z42 n x.1 x.2.1 x.2.2.1 x.2.2.2.1 x.2.2.2.2.1 x.2.2.2.2.2.1 x.2.2.2.2.2.2.1 x.2.2.2.2.2.2.2.1 x.2.2.2.2.2.2.2.2.1 x.2.2.2.2.2.2.2.2.2.1 x.2.2.2.2.2.2.2.2.2.2.1 x.2.2.2.2.2.2.2.2.2.2.2.1 x.2.2.2.2.2.2.2.2.2.2.2.2.1 x.2.2.2.2.2.2.2.2.2.2.2.2.2.1 x.2.2.2.2.2.2.2.2.2.2.2.2.2.2.1 x.2.2.2.2.2.2.2.2.2.2.2.2.2.2.2.1 x.2.2.2.2.2.2.2.2.2.2.2.2.2.2.2.2.1 x.2.2.2.2.2.2.2.2.2.2.2.2.2.2.2.2.2.1 x.2.2.2.2.2.2.2.2.2.2.2.2.2.2.2.2.2.2.1 x.2.2.2.2.2.2.2.2.2.2.2.2.2.2.2.2.2.2.2.1 x.2.2.2.2.2.2.2.2.2.2.2.2.2.2.2.2.2.2.2.2.1⟩)]) (ann [(10,0)] (Tryz.f71.body.getD .skip) 0).1
noncomputable def yg7:List (FI dat):=[zcs]++[zg9]
theorem yf2:(zcs).Good Tryz.prog dat (tb yg7):=FI.kz4 (hD:=kz2 _) Tryz.func71 Tryz.ntmps71 Tryz.call71 (by kernel_rfl) (Qac (by kernel_rfl)) (by kernel_rfl) (λn=>by kernel_rfl) (λx=>by kernel_rfl) (λ_=>rfl) ⟨λ_=>rfl,trivial⟩
 (λn=>λx=>(z9c.eq_2 _ n).trans (by kernel_rfl))
 (λn=>⟨λx=>(z42.eq_2 _ _ _ _ _ _ _ _ _ _ _ _ _ _ _ _ _ _ _ _ _ n).trans (by kernel_rfl),
  trivial⟩)
 (λx=>.inl rfl)
theorem yh4:OkL Tryz.prog [zcs]:=z5f (kz2 _) (bs:=[zg9]) ⟨y8e,trivial⟩ ⟨yf2,trivial⟩
theorem y6l:FOk Tryz.prog zcs:=yh4.1
def z89:Nat->yz1->Option yz1
 |0,_=>none
 |n+1,a0=>
  (z9c n a0.re).bind λy0=>
  some y0.re
def ypu:LSh:=⟨[(2,(.ptr 0 0))],[(.st 2)],0,5,[]⟩
noncomputable def z9t:FI dat:=FI.of dat 36 5 0 [(.d (.st 2))] [] [(.d (.st 2))] [] true ypu (R:=yz1) (λx=>x.1) (λr=>(r,())) (λn x=>z89 n x.1)
 (λn=>[]) (ann [] (Tryz.f36.body.getD .skip) 0).1
noncomputable def ypk:List (FI dat):=[zcs]
theorem yq9:(z9t).Good Tryz.prog dat (tb ypk):=FI.kz4 (hD:=kz2 _) Tryz.func36 Tryz.ntmps36 Tryz.call36 (by kernel_rfl) (Qac (by kernel_rfl)) (by kernel_rfl) (λn=>by kernel_rfl) (λx=>by kernel_rfl) (λ_=>rfl) trivial
 (λn=>λx=>(z89.eq_2 _ n).trans (by kernel_rfl))
 (λn=>trivial)
 (λx=>.inl rfl)
theorem yq3:OkL Tryz.prog [z9t]:=kz7 (kz2 _) (bs:=[zcs]) ⟨y6l,trivial⟩ yq9
theorem zsg:FOk Tryz.prog z9t:=yq3.1
def z4w:Nat->(List yz1)->Option (List yz1)
 |0,_=>none
 |n+1,a0=>
  (z77 n a0).bind λy0=>
  (z89 n y0.re).bind λy1=>
  some y1.args
def y1h:LSh:=⟨[(2,(.d (.sl (.st 2))))],[],0,7,[]⟩
noncomputable def zbo:FI dat:=FI.of dat 38 7 0 [(.d (.sl (.st 2)))] [] [(.d (.sl (.st 2)))] [] true y1h (R:=List yz1) (λx=>x.1) (λr=>(r,())) (λn x=>z4w n x.1)
 (λn=>[]) (ann [] (Tryz.f38.body.getD .skip) 0).1
noncomputable def y34:List (FI dat):=[zcb,z9t]
theorem y2w:(zbo).Good Tryz.prog dat (tb y34):=FI.kz4 (hD:=kz2 _) Tryz.func38 Tryz.ntmps38 Tryz.call38 (by kernel_rfl) (Qac (by kernel_rfl)) (by kernel_rfl) (λn=>by kernel_rfl) (λx=>by kernel_rfl) (λ_=>rfl) trivial
 (λn=>λx=>(z4w.eq_2 _ n).trans (by kernel_rfl))
 (λn=>trivial)
 (λx=>.inl rfl)
theorem y0r:OkL Tryz.prog [zbo]:=kz7 (kz2 _) (bs:=[zcb,z9t]) ⟨zvf,zsg,trivial⟩ y2w
theorem y0n:FOk Tryz.prog zbo:=y0r.1
mutual
def z8e:Nat->zz0->Option ((List yz5)×(List yz3))
 |0,_=>none
 |n+1,a0=>
  z67 n 0 a0.attrs (a0.attrs.length:Int) a0 [] [] [] []
def z67:Nat->Int->(List yz5)->Int->zz0->(List yz5)->(List yz3)->(List yz5)->(List yz3)->Option ((List yz5)×(List yz3))
 |0,_,_,_,_,_,_,_,_=>none
 |n+1,a0,a1,a2,a3,a4,a5,a6,a7=>
  pIf (decide (a0<a2))
   ((ix a1 a0).bind λx0=>
   (z89 n x0.value.re).bind λy1=>
   (ext a4 [(yz5.mk x0.name y1.re)]).bind λx2=>
   z67 n (IntKind.i64.wrap (a0+1)) a1 a2 a3 x2 a5 a6 a7)
   (z6q n 0 a3.rules (a3.rules.length:Int) a4 a5 a6 a7)
def z6q:Nat->Int->(List yz3)->Int->(List yz5)->(List yz3)->(List yz5)->(List yz3)->Option ((List yz5)×(List yz3))
 |0,_,_,_,_,_,_,_=>none
 |n+1,a0,a1,a2,a3,a4,a5,a6=>
  pIf (decide (a0<a2))
   ((ix a1 a0).bind λx3=>
   (z7a n x3.params).bind λy4=>
   z6i n 0 x3.cases a1 a2 a0 (x3.cases.length:Int) x3.name y4 [] a3 a4 a5 a6)
   (some (a3,a4))
def z6i:Nat->Int->(List yz4)->(List yz3)->Int->Int->Int->(List UInt8)->(List (List UInt8))->(List yz4)->(List yz5)->(List yz3)->(List yz5)->(List yz3)->Option ((List yz5)×(List yz3))
 |0,_,_,_,_,_,_,_,_,_,_,_,_,_=>none
 |n+1,a0,a1,a2,a3,a4,a5,a6,a7,a8,a9,a10,a11,a12=>
  pIf (decide (a0<a5))
   ((ix a1 a0).bind λx5=>
   (z89 n x5.when_.re).bind λy6=>
   z5n n 0 x5.do_ a1 a2 a3 a4 a5 a0 (x5.do_.length:Int) x5.weight y6.op y6.value.kind y6.value.num.num y6.value.num.den y6.value.truth y6.value.str y6.value.list y6.name y6.args a6 a7 [] a8 a9 a10 a11 a12)
   ((ext a10 [(yz3.mk a6 a7 [])]).bind λx7=>
   (ix x7 (a10.length:Int)).bind λx8=>
   z6q n (IntKind.i64.wrap (a4+1)) a2 a3 a9 (x7.set (Int.toNat (a10.length:Int)) (yz3.mk x8.name x8.params a8)) a11 a12)
def z5n:Nat->Int->(List zz3)->(List yz4)->(List yz3)->Int->Int->Int->Int->Int->Int->Int->Int->Int->Int->Bool->(List UInt8)->(List kz1)->(List UInt8)->(List yz1)->(List UInt8)->(List (List UInt8))->(List zz3)->(List yz4)->(List yz5)->(List yz3)->(List yz5)->(List yz3)->Option ((List yz5)×(List yz3))
 |0,_,_,_,_,_,_,_,_,_,_,_,_,_,_,_,_,_,_,_,_,_,_,_,_,_,_,_=>none
 |n+1,a0,a1,a2,a3,a4,a5,a6,a7,a8,a9,a10,a11,a12,a13,a14,a15,a16,a17,a18,a19,a20,a21,a22,a23,a24,a25,a26=>
  pIf (decide (a0<a8))
   ((ix a1 a0).bind λx9=>
   (z4w n x9.args).bind λy10=>
   z6f n 0 x9.items a1 a2 a3 a4 a5 a6 a7 a8 a0 (x9.items.length:Int) x9.kind x9.axis x9.name y10 a9 a10 a11 a12 a13 a14 a15 a16 a17 a18 a19 a20 [] a21 a22 a23 a24 a25 a26)
   ((ext a22 [(yz4.mk a9 (yz1.mk a10 (kz1.mk a11 (kz6.mk a12 a13) a14 a15 a16) a17 a18) [])]).bind λx11=>
   (ix x11 (a22.length:Int)).bind λx12=>
   z6i n (IntKind.i64.wrap (a7+1)) a2 a3 a4 a5 a6 a19 a20 (x11.set (Int.toNat (a22.length:Int)) (yz4.mk x12.weight x12.when_.re a21)) a23 a24 a25 a26)
def z6f:Nat->Int->(List yz7)->(List zz3)->(List yz4)->(List yz3)->Int->Int->Int->Int->Int->Int->Int->Int->Int->(List UInt8)->(List yz1)->Int->Int->Int->Int->Int->Bool->(List UInt8)->(List kz1)->(List UInt8)->(List yz1)->(List UInt8)->(List (List UInt8))->(List yz7)->(List zz3)->(List yz4)->(List yz5)->(List yz3)->(List yz5)->(List yz3)->Option ((List yz5)×(List yz3))
 |0,_,_,_,_,_,_,_,_,_,_,_,_,_,_,_,_,_,_,_,_,_,_,_,_,_,_,_,_,_,_,_,_,_,_,_=>none
 |n+1,a0,a1,a2,a3,a4,a5,a6,a7,a8,a9,a10,a11,a12,a13,a14,a15,a16,a17,a18,a19,a20,a21,a22,a23,a24,a25,a26,a27,a28,a29,a30,a31,a32,a33,a34=>
  pIf (decide (a0<a11))
   ((ix a1 a0).bind λx13=>
   (z4w n x13.args).bind λy14=>
   (ext a28 [(yz7.mk x13.kind x13.name y14)]).bind λx15=>
   z6f n (IntKind.i64.wrap (a0+1)) a1 a2 a3 a4 a5 a6 a7 a8 a9 a10 a11 a12 a13 a14 a15 a16 a17 a18 a19 a20 a21 a22 a23 a24 a25 a26 a27 x15 a29 a30 a31 a32 a33 a34)
   ((ext a29 [(zz3.mk a12 a13 a14 a15 [])]).bind λx16=>
   (ix x16 (a29.length:Int)).bind λx17=>
   z5n n (IntKind.i64.wrap (a10+1)) a2 a3 a4 a5 a6 a7 a8 a9 a16 a17 a18 a19 a20 a21 a22 a23 a24 a25 a26 a27 (x16.set (Int.toNat (a29.length:Int)) (zz3.mk x17.kind x17.axis x17.name x17.args a28)) a30 a31 a32 a33 a34)
end
def yla:LSh:=⟨[(2,(.ptr 0 0))],[(.cells [(.own 1),(.own 2)]),(.acc 47 (.st 3) true),(.deep 51 7)],0,118,[]⟩
noncomputable def zc9:FI dat:=FI.of dat 15 118 0 [(.d (.st 8))] [] [(.agg [(.own 1),(.own 2)])] [(.cells [(.own 1),(.own 2)]),(.acc 47 (.st 3) true),(.deep 51 7)] false yla (R:=(List yz5)×(List yz3)) (λx=>(x.1,x.2.1)) (λr=>(r.1,r.2,())) (λn x=>z8e n x.1)
 (λn=>[(0,⟨⟨[(20,(.d (.int .i64))),(3,(.ptr 0 0)),(18,(.d (.sl (.st 3)))),(2,(.ptr 1 0)),(1,(.ptr 2 0)),(19,(.d (.int .i64)))],[(.cells [(.own 3),(.own 4)]),(.cells [(.own 5),(.own 6)]),(.st 8),(.acc 47 (.st 3) true),(.deep 51 7),(.acc 47 (.st 3) true),(.deep 51 7)],0,118,[]⟩,λx=>z67 n x.1 x.2.1 x.2.2.1 x.2.2.2.1 x.2.2.2.2.1 x.2.2.2.2.2.1 x.2.2.2.2.2.2.1 x.2.2.2.2.2.2.2.1⟩),(1,⟨⟨[(39,(.d (.int .i64))),(3,(.ptr 0 0)),(37,(.d (.sl (.st 7)))),(2,(.ptr 1 0)),(38,(.d (.int .i64)))],[(.cells [(.own 2),(.own 3)]),(.cells [(.own 4),(.own 5)]),(.acc 47 (.st 3) true),(.deep 51 7),(.acc 47 (.st 3) true),(.deep 51 7)],0,118,[]⟩,λx=>z6q n x.1 x.2.1 x.2.2.1 x.2.2.2.1 x.2.2.2.2.1 x.2.2.2.2.2.1 x.2.2.2.2.2.2.1⟩),(2,⟨⟨[(52,(.d (.int .i64))),(8,(.ptr 0 0)),(50,(.d (.sl (.st 6)))),(3,(.ptr 1 0)),(37,(.d (.sl (.st 7)))),(2,(.ptr 2 0)),(38,(.d (.int .i64))),(39,(.d (.int .i64))),(51,(.d (.int .i64)))],[(.cells [(.d .str),(.d (.sl .str)),(.own 3)]),(.cells [(.own 4),(.own 5)]),(.cells [(.own 6),(.own 7)]),(.deep 55 6),(.acc 47 (.st 3) true),(.deep 51 7),(.acc 47 (.st 3) true),(.deep 51 7)],0,118,[]⟩,λx=>z6i n x.1 x.2.1 x.2.2.1 x.2.2.2.1 x.2.2.2.2.1 x.2.2.2.2.2.1 x.2.2.2.2.2.2.1 x.2.2.2.2.2.2.2.1 x.2.2.2.2.2.2.2.2.1 x.2.2.2.2.2.2.2.2.2.1 x.2.2.2.2.2.2.2.2.2.2.1 x.2.2.2.2.2.2.2.2.2.2.2.1 x.2.2.2.2.2.2.2.2.2.2.2.2.1⟩),(3,⟨⟨[(65,(.d (.int .i64))),(11,(.ptr 0 0)),(63,(.d (.sl (.st 5)))),(8,(.ptr 1 0)),(50,(.d (.sl (.st 6)))),(3,(.ptr 2 0)),(37,(.d (.sl (.st 7)))),(2,(.ptr 3 0)),(38,(.d (.int .i64))),(39,(.d (.int .i64))),(51,(.d (.int .i64))),(52,(.d (.int .i64))),(64,(.d (.int .i64)))],[(.cells [(.d (.int .i64)),(.d (.int .u8)),(.d (.int .u8)),(.d (.int .i64)),(.d (.int .i64)),(.d .bool),(.d .str),(.d (.sl (.st 1))),(.d .str),(.d (.sl (.st 2))),(.own 4)]),(.cells [(.d .str),(.d (.sl .str)),(.own 5)]),(.cells [(.own 6),(.own 7)]),(.cells [(.own 8),(.own 9)]),(.deep 73 5),(.deep 55 6),(.acc 47 (.st 3) true),(.deep 51 7),(.acc 47 (.st 3) true),(.deep 51 7)],0,118,[]⟩,λx=>z5n n x.1 x.2.1 x.2.2.1 x.2.2.2.1 x.2.2.2.2.1 x.2.2.2.2.2.1 x.2.2.2.2.2.2.1 x.2.2.2.2.2.2.2.1 x.2.2.2.2.2.2.2.2.1 x.2.2.2.2.2.2.2.2.2.1 x.2.2.2.2.2.2.2.2.2.2.1 x.2.2.2.2.2.2.2.2.2.2.2.1 x.2.2.2.2.2.2.2.2.2.2.2.2.1 x.2.2.2.2.2.2.2.2.2.2.2.2.2.1 x.2.2.2.2.2.2.2.2.2.2.2.2.2.2.1 x.2.2.2.2.2.2.2.2.2.2.2.2.2.2.2.1 x.2.2.2.2.2.2.2.2.2.2.2.2.2.2.2.2.1 x.2.2.2.2.2.2.2.2.2.2.2.2.2.2.2.2.2.1 x.2.2.2.2.2.2.2.2.2.2.2.2.2.2.2.2.2.2.1 x.2.2.2.2.2.2.2.2.2.2.2.2.2.2.2.2.2.2.2.1 x.2.2.2.2.2.2.2.2.2.2.2.2.2.2.2.2.2.2.2.2.1 x.2.2.2.2.2.2.2.2.2.2.2.2.2.2.2.2.2.2.2.2.2.1 x.2.2.2.2.2.2.2.2.2.2.2.2.2.2.2.2.2.2.2.2.2.2.1 x.2.2.2.2.2.2.2.2.2.2.2.2.2.2.2.2.2.2.2.2.2.2.2.1 x.2.2.2.2.2.2.2.2.2.2.2.2.2.2.2.2.2.2.2.2.2.2.2.2.1 x.2.2.2.2.2.2.2.2.2.2.2.2.2.2.2.2.2.2.2.2.2.2.2.2.2.1 x.2.2.2.2.2.2.2.2.2.2.2.2.2.2.2.2.2.2.2.2.2.2.2.2.2.2.1⟩),(4,⟨⟨[(78,(.d (.int .i64))),(14,(.ptr 0 0)),(76,(.d (.sl (.st 4)))),(11,(.ptr 1 0)),(63,(.d (.sl (.st 5)))),(8,(.ptr 2 0)),(50,(.d (.sl (.st 6)))),(3,(.ptr 3 0)),(37,(.d (.sl (.st 7)))),(2,(.ptr 4 0)),(38,(.d (.int .i64))),(39,(.d (.int .i64))),(51,(.d (.int .i64))),(52,(.d (.int .i64))),(64,(.d (.int .i64))),(65,(.d (.int .i64))),(77,(.d (.int .i64)))],[(.cells [(.d (.int .u8)),(.d (.int .u8)),(.d .str),(.d (.sl (.st 2))),(.own 5)]),(.cells [(.d (.int .i64)),(.d (.int .u8)),(.d (.int .u8)),(.d (.int .i64)),(.d (.int .i64)),(.d .bool),(.d .str),(.d (.sl (.st 1))),(.d .str),(.d (.sl (.st 2))),(.own 6)]),(.cells [(.d .str),(.d (.sl .str)),(.own 7)]),(.cells [(.own 8),(.own 9)]),(.cells [(.own 10),(.own 11)]),(.acc 75 (.st 4) true),(.deep 73 5),(.deep 55 6),(.acc 47 (.st 3) true),(.deep 51 7),(.acc 47 (.st 3) true),(.deep 51 7)],0,118,[]⟩,λx=>z6f n x.1 x.2.1 x.2.2.1 x.2.2.2.1 x.2.2.2.2.1 x.2.2.2.2.2.1 x.2.2.2.2.2.2.1 x.2.2.2.2.2.2.2.1 x.2.2.2.2.2.2.2.2.1 x.2.2.2.2.2.2.2.2.2.1 x.2.2.2.2.2.2.2.2.2.2.1 x.2.2.2.2.2.2.2.2.2.2.2.1 x.2.2.2.2.2.2.2.2.2.2.2.2.1 x.2.2.2.2.2.2.2.2.2.2.2.2.2.1 x.2.2.2.2.2.2.2.2.2.2.2.2.2.2.1 x.2.2.2.2.2.2.2.2.2.2.2.2.2.2.2.1 x.2.2.2.2.2.2.2.2.2.2.2.2.2.2.2.2.1 x.2.2.2.2.2.2.2.2.2.2.2.2.2.2.2.2.2.1 x.2.2.2.2.2.2.2.2.2.2.2.2.2.2.2.2.2.2.1 x.2.2.2.2.2.2.2.2.2.2.2.2.2.2.2.2.2.2.2.1 x.2.2.2.2.2.2.2.2.2.2.2.2.2.2.2.2.2.2.2.2.1 x.2.2.2.2.2.2.2.2.2.2.2.2.2.2.2.2.2.2.2.2.2.1 x.2.2.2.2.2.2.2.2.2.2.2.2.2.2.2.2.2.2.2.2.2.2.1 x.2.2.2.2.2.2.2.2.2.2.2.2.2.2.2.2.2.2.2.2.2.2.2.1 x.2.2.2.2.2.2.2.2.2.2.2.2.2.2.2.2.2.2.2.2.2.2.2.2.1 x.2.2.2.2.2.2.2.2.2.2.2.2.2.2.2.2.2.2.2.2.2.2.2.2.2.1 x.2.2.2.2.2.2.2.2.2.2.2.2.2.2.2.2.2.2.2.2.2.2.2.2.2.2.1 x.2.2.2.2.2.2.2.2.2.2.2.2.2.2.2.2.2.2.2.2.2.2.2.2.2.2.2.1 x.2.2.2.2.2.2.2.2.2.2.2.2.2.2.2.2.2.2.2.2.2.2.2.2.2.2.2.2.1 x.2.2.2.2.2.2.2.2.2.2.2.2.2.2.2.2.2.2.2.2.2.2.2.2.2.2.2.2.2.1 x.2.2.2.2.2.2.2.2.2.2.2.2.2.2.2.2.2.2.2.2.2.2.2.2.2.2.2.2.2.2.1 x.2.2.2.2.2.2.2.2.2.2.2.2.2.2.2.2.2.2.2.2.2.2.2.2.2.2.2.2.2.2.2.1 x.2.2.2.2.2.2.2.2.2.2.2.2.2.2.2.2.2.2.2.2.2.2.2.2.2.2.2.2.2.2.2.2.1 x.2.2.2.2.2.2.2.2.2.2.2.2.2.2.2.2.2.2.2.2.2.2.2.2.2.2.2.2.2.2.2.2.2.1 x.2.2.2.2.2.2.2.2.2.2.2.2.2.2.2.2.2.2.2.2.2.2.2.2.2.2.2.2.2.2.2.2.2.2.1⟩)]) (ann [(8,0),(25,1),(42,2),(59,3),(78,4)] (Tryz.f15.body.getD .skip) 0).1
noncomputable def ykr:List (FI dat):=[z9t,z7w,zbo]
theorem ym6:(zc9).Good Tryz.prog dat (tb ykr):=FI.kz4 (hD:=kz2 _) Tryz.func15 Tryz.ntmps15 Tryz.call15 (by kernel_rfl) (Qac (by kernel_rfl)) (by kernel_rfl) (λn=>by kernel_rfl) (λx=>by kernel_rfl) (λ_=>rfl) ⟨λ_=>rfl,λ_=>rfl,λ_=>rfl,λ_=>rfl,λ_=>rfl,trivial⟩
 (λn=>λx=>(z8e.eq_2 _ n).trans (by kernel_rfl))
 (λn=>⟨λx=>(z67.eq_2 _ _ _ _ _ _ _ _ n).trans (by kernel_rfl),
  λx=>(z6q.eq_2 _ _ _ _ _ _ _ n).trans (by kernel_rfl),
  λx=>(z6i.eq_2 _ _ _ _ _ _ _ _ _ _ _ _ _ n).trans (by kernel_rfl),
  λx=>(z5n.eq_2 _ _ _ _ _ _ _ _ _ _ _ _ _ _ _ _ _ _ _ _ _ _ _ _ _ _ _ n).trans (by kernel_rfl),
  λx=>(z6f.eq_2 _ _ _ _ _ _ _ _ _ _ _ _ _ _ _ _ _ _ _ _ _ _ _ _ _ _ _ _ _ _ _ _ _ _ _ n).trans (by kernel_rfl),
  trivial⟩)
 (λx=>.inr (by kernel_rfl))
theorem yn4:OkL Tryz.prog [zc9]:=kz7 (kz2 _) (bs:=[z9t,z7w,zbo]) ⟨zsg,zk1,y0n,trivial⟩ ym6
theorem zvj:FOk Tryz.prog zc9:=yn4.1
def zcy:Nat->yz3->Option Bool
 |0,_=>none
 |n+1,a0=>
  pIf (a0.name==[])
   (pIf ((a0.params.length:Int)==0)
     (some ((a0.cases.length:Int)==0))
     (some false))
   (some false)
def yj7:LSh:=⟨[(2,(.d .bool))],[],0,18,[]⟩
noncomputable def zhr:FI dat:=FI.of dat 39 18 0 [(.d (.st 7))] [] [(.d .bool)] [] true yj7 (R:=Bool) (λx=>x.1) (λr=>(r,())) (λn x=>zcy n x.1)
 (λn=>[]) (ann [] (Tryz.f39.body.getD .skip) 0).1
noncomputable def ykf:List (FI dat):=[]
theorem yjn:(zhr).Good Tryz.prog dat (tb ykf):=FI.kz4 (hD:=kz2 _) Tryz.func39 Tryz.ntmps39 Tryz.call39 (by kernel_rfl) (Qac (by kernel_rfl)) (by kernel_rfl) (λn=>by kernel_rfl) (λx=>by kernel_rfl) (λ_=>rfl) trivial
 (λn=>λx=>(zcy.eq_2 _ n).trans (by kernel_rfl))
 (λn=>trivial)
 (λx=>.inl rfl)
theorem ylt:OkL Tryz.prog [zhr]:=kz7 (kz2 _) (bs:=[]) trivial yjn
theorem yed:FOk Tryz.prog zhr:=ylt.1
mutual
def z86:Nat->yz1->yz1->Option Bool
 |0,_,_=>none
 |n+1,a0,a1=>
  pIf (a0.op==a1.op)
   (pIf (a0.name==a1.name)
     ((z2k n a0.value.re a1.value.re).bind λy0=>
     pIf y0
      ((yzd n a0.args a1.args).bind λy1=>
      some y1)
      (some false))
     (some false))
   (some false)
def yzd:Nat->(List yz1)->(List yz1)->Option Bool
 |0,_,_=>none
 |n+1,a0,a1=>
  pIf ((a0.length:Int) != (a1.length:Int))
   (some false)
   (zz8 n 0 a1 a0 (a0.length:Int))
def zz8:Nat->Int->(List yz1)->(List yz1)->Int->Option Bool
 |0,_,_,_,_=>none
 |n+1,a0,a1,a2,a3=>
  pIf (decide (a0<a3))
   ((ix a2 a0).bind λx0=>
   (ix a1 a0).bind λx1=>
   (z86 n x0.re x1.re).bind λy2=>
   pIf (!y2)
    (some false)
    (zz8 n (IntKind.i64.wrap (a0+1)) a1 a2 a3))
   (some true)
end
def yr5:LSh:=⟨[(4,(.d .bool))],[],0,31,[]⟩
noncomputable def zh4:FI dat:=FI.of dat 40 31 0 [(.d (.st 2)),(.d (.st 2))] [] [(.d .bool)] [] true yr5 (R:=Bool) (λx=>x.1) (λr=>(r,())) (λn x=>z86 n x.1 x.2.1)
 (λn=>[]) (ann [] (Tryz.f40.body.getD .skip) 0).1
def z7q:LSh:=⟨[(6,(.d .bool))],[],0,32,[]⟩
noncomputable def yzm:FI dat:=FI.of dat 76 32 0 [(.d (.sl (.st 2))),(.d (.sl (.st 2))),(.fn 40 [] [])] [] [(.d .bool)] [] true z7q (R:=Bool) (λx=>x.1) (λr=>(r,())) (λn x=>yzd n x.1 x.2.1)
 (λn=>[(0,⟨⟨[(17,(.d (.int .i64))),(2,(.fn 40 [] [])),(1,(.d (.sl (.st 2)))),(15,(.d (.sl (.st 2)))),(16,(.d (.int .i64)))],[],0,32,[]⟩,λx=>zz8 n x.1 x.2.1 x.2.2.1 x.2.2.2.1⟩)]) (ann [(14,0)] (Tryz.f76.body.getD .skip) 0).1
noncomputable def y3t:List (FI dat):=[zh4,yzm]++[z9q]
theorem ys7:(zh4).Good Tryz.prog dat (tb y3t):=FI.kz4 (hD:=kz2 _) Tryz.func40 Tryz.ntmps40 Tryz.call40 (by kernel_rfl) (Qac (by kernel_rfl)) (by kernel_rfl) (λn=>by kernel_rfl) (λx=>by kernel_rfl) (λ_=>rfl) trivial
 (λn=>λx=>(z86.eq_2 _ _ n).trans (by kernel_rfl))
 (λn=>trivial)
 (λx=>.inl rfl)
theorem z7n:(yzm).Good Tryz.prog dat (tb y3t):=FI.kz4 (hD:=kz2 _) Tryz.func76 Tryz.ntmps76 Tryz.call76 (by kernel_rfl) (Qac (by kernel_rfl)) (by kernel_rfl) (λn=>by kernel_rfl) (λx=>by kernel_rfl) (λ_=>rfl) ⟨λ_=>rfl,trivial⟩
 (λn=>λx=>(yzd.eq_2 _ _ n).trans (by kernel_rfl))
 (λn=>⟨λx=>(zz8.eq_2 _ _ _ _ n).trans (by kernel_rfl),
  trivial⟩)
 (λx=>.inl rfl)
theorem yp0:OkL Tryz.prog [zh4,yzm]:=z5f (kz2 _) (bs:=[z9q]) ⟨zvr,trivial⟩ ⟨ys7,z7n,trivial⟩
theorem yo2:FOk Tryz.prog zh4:=yp0.1
mutual
def zbh:Nat->yz6->Option Bool
 |0,_=>none
 |n+1,a0=>
  (zcy n a0.rule_).bind λy0=>
  (z86 n a0.value.re (yz1.mk 0 (kz1.mk 0 (kz6.mk 0 0) false [] []) [] [])).bind λy1=>
  pIf (a0.kind==1)
   (z0w n (!y1) (!y0) a0.kind true a0.re)
   (z0w n (!y1) (!y0) a0.kind (a0.kind==3) a0.re)
def z0w:Nat->Bool->Bool->Int->Bool->yz6->Option Bool
 |0,_,_,_,_,_=>none
 |n+1,a0,a1,a2,a3,a4=>
  pIf a3
   (pIf (a4.name==[])
     (pIf (a4.to_==[])
       (some (!a0))
       (some false))
     (some false))
   (pIf (a2==2)
     (pIf (a4.to_==[])
       (pIf (!a1)
         (some (!a0))
         (some false))
       (some false))
     (pIf (a2==4)
       (pIf (!a1)
         (some (!a0))
         (some false))
       (pIf (a2==5)
         (pIf (a4.to_==[])
           (some (!a1))
           (some false))
         (some false))))
end
def yga:LSh:=⟨[(2,(.d .bool))],[],0,61,[]⟩
noncomputable def zgm:FI dat:=FI.of dat 16 61 0 [(.d (.st 9))] [] [(.d .bool)] [] true yga (R:=Bool) (λx=>x.1) (λr=>(r,())) (λn x=>zbh n x.1)
 (λn=>[(0,⟨⟨[(4,(.d .bool)),(1,(.ptr 0 0)),(3,(.d .bool)),(15,(.d (.int .u8))),(16,(.d .bool))],[(.st 9)],0,61,[]⟩,λx=>z0w n x.1 x.2.1 x.2.2.1 x.2.2.2.1 x.2.2.2.2.1⟩)]) (ann [(14,0)] (Tryz.f16.body.getD .skip) 0).1
noncomputable def ygp:List (FI dat):=[zhr,zh4]
theorem ydm:(zgm).Good Tryz.prog dat (tb ygp):=FI.kz4 (hD:=kz2 _) Tryz.func16 Tryz.ntmps16 Tryz.call16 (by kernel_rfl) (Qac (by kernel_rfl)) (by kernel_rfl) (λn=>by kernel_rfl) (λx=>by kernel_rfl) (λ_=>rfl) ⟨λ_=>rfl,trivial⟩
 (λn=>λx=>(zbh.eq_2 _ n).trans (by kernel_rfl))
 (λn=>⟨λx=>(z0w.eq_2 _ _ _ _ _ n).trans (by kernel_rfl),
  trivial⟩)
 (λx=>.inl rfl)
theorem yh6:OkL Tryz.prog [zgm]:=kz7 (kz2 _) (bs:=[zhr,zh4]) ⟨yed,yo2,trivial⟩ ydm
theorem yb9:FOk Tryz.prog zgm:=yh6.1
def zb9:Nat->yz3->(List UInt8)->Option (Bool×(List UInt8))
 |0,_,_=>none
 |n+1,a0,a1=>
  some ((a0.name==a1),a1)
def yct:LSh:=⟨[(3,(.d .bool))],[(.cells [(.d .str)])],1,8,[]⟩
noncomputable def zfx:FI dat:=FI.of dat 78 8 1 [(.d (.st 7)),(.ptr 0 0)] [(.cells [(.d .str)])] [(.d .bool)] [(.cells [(.d .str)])] false yct (R:=Bool×(List UInt8)) (λx=>(x.1,x.2.1)) (λr=>(r.1,r.2,())) (λn x=>zb9 n x.1 x.2.1)
 (λn=>[]) (ann [] (Tryz.f78.body.getD .skip) 0).1
noncomputable def ycn:List (FI dat):=[]
theorem yem:(zfx).Good Tryz.prog dat (tb ycn):=FI.kz4 (hD:=kz2 _) Tryz.func78 Tryz.ntmps78 Tryz.call78 (by kernel_rfl) (Qac (by kernel_rfl)) (by kernel_rfl) (λn=>by kernel_rfl) (λx=>by kernel_rfl) (λ_=>rfl) trivial
 (λn=>λx=>(zb9.eq_2 _ _ n).trans (by kernel_rfl))
 (λn=>trivial)
 (λx=>.inr (by kernel_rfl))
theorem yfo:OkL Tryz.prog [zfx]:=kz7 (kz2 _) (bs:=[]) trivial yem
theorem yaw:FOk Tryz.prog zfx:=yfo.1
mutual
def yzf:Nat->(List yz3)->(List UInt8)->Option (Int×(List UInt8))
 |0,_,_=>none
 |n+1,a0,a1=>
  yza n 0 a0 (a0.length:Int) a1
def yza:Nat->Int->(List yz3)->Int->(List UInt8)->Option (Int×(List UInt8))
 |0,_,_,_,_=>none
 |n+1,a0,a1,a2,a3=>
  pIf (decide (a0<a2))
   ((ix a1 a0).bind λx0=>
   (zb9 n x0 a3).bind λy1=>
   pIf y1.1
    (some (a0,y1.2))
    (yza n (IntKind.i64.wrap (a0+1)) a1 a2 y1.2))
   (some ((-1),a3))
end
def zf8:LSh:=⟨[(4,(.d (.int .i64)))],[(.cells [(.d .str)])],1,19,[]⟩
noncomputable def yzn:FI dat:=FI.of dat 77 19 1 [(.d (.sl (.st 7))),(.fn 78 [] [(.ptr 0 0)])] [(.cells [(.d .str)])] [(.d (.int .i64))] [(.cells [(.d .str)])] false zf8 (R:=Int×(List UInt8)) (λx=>(x.1,x.2.1)) (λr=>(r.1,r.2,())) (λn x=>yzf n x.1 x.2.1)
 (λn=>[(0,⟨⟨[(8,(.d (.int .i64))),(0,(.d (.sl (.st 7)))),(1,(.fn 78 [] [(.ptr 0 0)])),(7,(.d (.int .i64)))],[(.cells [(.d .str)])],1,19,[]⟩,λx=>yza n x.1 x.2.1 x.2.2.1 x.2.2.2.1⟩)]) (ann [(6,0)] (Tryz.f77.body.getD .skip) 0).1
noncomputable def zf3:List (FI dat):=[zfx]
theorem zfh:(yzn).Good Tryz.prog dat (tb zf3):=FI.kz4 (hD:=kz2 _) Tryz.func77 Tryz.ntmps77 Tryz.call77 (by kernel_rfl) (Qac (by kernel_rfl)) (by kernel_rfl) (λn=>by kernel_rfl) (λx=>by kernel_rfl) (λ_=>rfl) ⟨λ_=>rfl,trivial⟩
 (λn=>λx=>(yzf.eq_2 _ _ n).trans (by kernel_rfl))
 (λn=>⟨λx=>(yza.eq_2 _ _ _ _ n).trans (by kernel_rfl),
  trivial⟩)
 (λx=>.inr (by kernel_rfl))
theorem zfd:OkL Tryz.prog [yzn]:=kz7 (kz2 _) (bs:=[zfx]) ⟨yaw,trivial⟩ zfh
theorem zes:FOk Tryz.prog yzn:=zfd.1
def z9u:Nat->zz0->(List UInt8)->Option Int
 |0,_,_=>none
 |n+1,a0,a1=>
  (yzf n a0.rules a1).bind λy0=>
  some y0.1
def yq2:LSh:=⟨[(4,(.d (.int .i64)))],[],0,9,[]⟩
noncomputable def zk3:FI dat:=FI.of dat 41 9 0 [(.d (.st 8)),(.d .str)] [] [(.d (.int .i64))] [] true yq2 (R:=Int) (λx=>x.1) (λr=>(r,())) (λn x=>z9u n x.1 x.2.1)
 (λn=>[]) (ann [] (Tryz.f41.body.getD .skip) 0).1
noncomputable def yp1:List (FI dat):=[yzn]
theorem ypq:(zk3).Good Tryz.prog dat (tb yp1):=FI.kz4 (hD:=kz2 _) Tryz.func41 Tryz.ntmps41 Tryz.call41 (by kernel_rfl) (Qac (by kernel_rfl)) (by kernel_rfl) (λn=>by kernel_rfl) (λx=>by kernel_rfl) (λ_=>rfl) trivial
 (λn=>λx=>(z9u.eq_2 _ _ n).trans (by kernel_rfl))
 (λn=>trivial)
 (λx=>.inl rfl)
theorem ypy:OkL Tryz.prog [zk3]:=kz7 (kz2 _) (bs:=[yzn]) ⟨zes,trivial⟩ ypq
theorem yl8:FOk Tryz.prog zk3:=ypy.1
def zbf:Nat->yz5->(List UInt8)->Option (Bool×(List UInt8))
 |0,_,_=>none
 |n+1,a0,a1=>
  some ((a0.name==a1),a1)
def yfa:LSh:=⟨[(3,(.d .bool))],[(.cells [(.d .str)])],1,8,[]⟩
noncomputable def zfz:FI dat:=FI.of dat 43 8 1 [(.d (.st 3)),(.ptr 0 0)] [(.cells [(.d .str)])] [(.d .bool)] [(.cells [(.d .str)])] false yfa (R:=Bool×(List UInt8)) (λx=>(x.1,x.2.1)) (λr=>(r.1,r.2,())) (λn x=>zbf n x.1 x.2.1)
 (λn=>[]) (ann [] (Tryz.f43.body.getD .skip) 0).1
noncomputable def ygo:List (FI dat):=[]
theorem ye9:(zfz).Good Tryz.prog dat (tb ygo):=FI.kz4 (hD:=kz2 _) Tryz.func43 Tryz.ntmps43 Tryz.call43 (by kernel_rfl) (Qac (by kernel_rfl)) (by kernel_rfl) (λn=>by kernel_rfl) (λx=>by kernel_rfl) (λ_=>rfl) trivial
 (λn=>λx=>(zbf.eq_2 _ _ n).trans (by kernel_rfl))
 (λn=>trivial)
 (λx=>.inr (by kernel_rfl))
theorem ycx:OkL Tryz.prog [zfz]:=kz7 (kz2 _) (bs:=[]) trivial ye9
theorem y81:FOk Tryz.prog zfz:=ycx.1
mutual
def zzf:Nat->(List UInt8)->(List yz5)->Option (Int×(List UInt8)×(List yz5))
 |0,_,_=>none
 |n+1,a0,a1=>
  zza n 0 (a1.length:Int) a0 a1
def zza:Nat->Int->Int->(List UInt8)->(List yz5)->Option (Int×(List UInt8)×(List yz5))
 |0,_,_,_,_=>none
 |n+1,a0,a1,a2,a3=>
  pIf (decide (a0<a1))
   ((ix a3 a0).bind λx0=>
   (zbf n x0.re a2).bind λy1=>
   pIf y1.1
    (some (a0,y1.2,a3))
    (zza n (IntKind.i64.wrap (a0+1)) a1 y1.2 a3))
   (some ((-1),a2,a3))
end
def zfb:LSh:=⟨[(4,(.d (.int .i64)))],[(.cells [(.d .str)]),(.acc 47 (.st 3) true)],2,19,[]⟩
noncomputable def kzm:FI dat:=FI.of dat 42 19 2 [(.own 1),(.fn 43 [] [(.ptr 0 0)])] [(.cells [(.d .str)]),(.acc 47 (.st 3) true)] [(.d (.int .i64))] [(.cells [(.d .str)]),(.acc 47 (.st 3) true)] false zfb (R:=Int×(List UInt8)×(List yz5)) (λx=>(x.1,x.2.1,x.2.2.1)) (λr=>(r.1,r.2.1,r.2.2,())) (λn x=>zzf n x.1 x.2.1)
 (λn=>[(0,⟨⟨[(8,(.d (.int .i64))),(0,(.own 1)),(1,(.fn 43 [] [(.ptr 0 0)])),(7,(.d (.int .i64)))],[(.cells [(.d .str)]),(.acc 47 (.st 3) true)],2,19,[]⟩,λx=>zza n x.1 x.2.1 x.2.2.1 x.2.2.2.1⟩)]) (ann [(6,0)] (Tryz.f42.body.getD .skip) 0).1
noncomputable def zfj:List (FI dat):=[zfz]
theorem zf2:(kzm).Good Tryz.prog dat (tb zfj):=FI.kz4 (hD:=kz2 _) Tryz.func42 Tryz.ntmps42 Tryz.call42 (by kernel_rfl) (Qac (by kernel_rfl)) (by kernel_rfl) (λn=>by kernel_rfl) (λx=>by kernel_rfl) (λ_=>rfl) ⟨λ_=>rfl,trivial⟩
 (λn=>λx=>(zzf.eq_2 _ _ n).trans (by kernel_rfl))
 (λn=>⟨λx=>(zza.eq_2 _ _ _ _ n).trans (by kernel_rfl),
  trivial⟩)
 (λx=>.inr (by kernel_rfl))
theorem zfe:OkL Tryz.prog [kzm]:=kz7 (kz2 _) (bs:=[zfz]) ⟨y81,trivial⟩ zf2
theorem zen:FOk Tryz.prog kzm:=zfe.1
def zc2:Nat->yz3->Option ((List UInt8)×(List (List UInt8))×(List yz4))
 |0,_=>none
 |n+1,a0=>
  (z8e n (zz0.mk [] [a0])).bind λy0=>
  (ix y0.2 0).bind λx1=>
  (ix y0.2 0).bind λx2=>
  (ix y0.2 0).bind λx3=>
  some (x3.name,x3.params,x2.cases)
def yq7:LSh:=⟨[(2,(.ptr 0 0))],[(.cells [(.d .str),(.d (.sl .str)),(.own 1)]),(.deep 55 6)],0,10,[]⟩
noncomputable def zkg:FI dat:=FI.of dat 44 10 0 [(.d (.st 7))] [] [(.agg [(.d .str),(.d (.sl .str)),(.own 1)])] [(.cells [(.d .str),(.d (.sl .str)),(.own 1)]),(.deep 55 6)] false yq7 (R:=(List UInt8)×(List (List UInt8))×(List yz4)) (λx=>(x.1,x.2.1,x.2.2.1)) (λr=>(r.1,r.2.1,r.1,r.2.1,r.2.2,())) (λn x=>zc2 n x.1)
 (λn=>[]) (ann [] (Tryz.f44.body.getD .skip) 0).1
noncomputable def ysd:List (FI dat):=[zc9]
theorem yru:(zkg).Good Tryz.prog dat (tb ysd):=FI.kz4 (hD:=kz2 _) Tryz.func44 Tryz.ntmps44 Tryz.call44 (by kernel_rfl) (Qac (by kernel_rfl)) (by kernel_rfl) (λn=>by kernel_rfl) (λx=>by kernel_rfl) (λ_=>rfl) trivial
 (λn=>λx=>(zc2.eq_2 _ n).trans (by kernel_rfl))
 (λn=>trivial)
 (λx=>.inr (by kernel_rfl))
theorem ypa:OkL Tryz.prog [zkg]:=kz7 (kz2 _) (bs:=[zc9]) ⟨zvj,trivial⟩ yru
theorem yoi:FOk Tryz.prog zkg:=ypa.1
def z8v:Nat->Int->(List UInt8)->(List UInt8)->(List yz3)->Option ((List UInt8)×(List UInt8)×(List yz3))
 |0,_,_,_,_=>none
 |n+1,a0,a1,a2,a3=>
  (ix a3 a0).bind λx0=>
  pIf (x0.name==a1)
   ((ix a3 a0).bind λx1=>
   some (a1,a2,(a3.set (Int.toNat a0) (yz3.mk a2 x1.params x1.cases))))
   (some (a1,a2,a3))
def y4a:LSh:=⟨[],[(.cells [(.d .str)]),(.cells [(.d .str)]),(.deep 51 7)],2,12,[2]⟩
noncomputable def zcn:FI dat:=FI.of dat 79 12 2 [(.dp 2 0),(.ptr 0 0),(.ptr 1 0)] [(.cells [(.d .str)]),(.cells [(.d .str)]),(.deep 51 7)] [] [(.cells [(.d .str)]),(.cells [(.d .str)]),(.deep 51 7)] false y4a (R:=(List UInt8)×(List UInt8)×(List yz3)) (λx=>(x.1,x.2.1,x.2.2.1)) (λr=>(r.1,r.2.1,r.2.2,())) (λn x=>z8v n x.1 x.2.1 x.2.2.1 x.2.2.2.1)
 (λn=>[]) (ann [] (Tryz.f79.body.getD .skip) 0).1 [2]
noncomputable def y5c:List (FI dat):=[]
theorem y4w:(zcn).Good Tryz.prog dat (tb y5c):=FI.kz4 (hD:=kz2 _) Tryz.func79 Tryz.ntmps79 Tryz.call79 (by kernel_rfl) (Qac (by kernel_rfl)) (by kernel_rfl) (λn=>by kernel_rfl) (λx=>by kernel_rfl) (λ_=>rfl) trivial
 (λn=>λx=>(z8v.eq_2 _ _ _ _ n).trans (by kernel_rfl))
 (λn=>trivial)
 (λx=>.inr (by kernel_rfl))
theorem y59:OkL Tryz.prog [zcn]:=kz7 (kz2 _) (bs:=[]) trivial y4w
theorem y2p:FOk Tryz.prog zcn:=y59.1
def z58:Nat->Int->(List UInt8)->(List UInt8)->(List zz3)->Option ((List UInt8)×(List UInt8)×(List zz3))
 |0,_,_,_,_=>none
 |n+1,a0,a1,a2,a3=>
  (ix a3 a0).bind λx0=>
  pIf (x0.name==a1)
   ((ix a3 a0).bind λx1=>
   some (a1,a2,(a3.set (Int.toNat a0) (zz3.mk x1.kind x1.axis a2 x1.args x1.items))))
   (some (a1,a2,a3))
def zwx:LSh:=⟨[],[(.cells [(.d .str)]),(.cells [(.d .str)]),(.deep 73 5)],2,12,[2]⟩
noncomputable def z90:FI dat:=FI.of dat 79 12 2 [(.dp 2 2),(.ptr 0 0),(.ptr 1 0)] [(.cells [(.d .str)]),(.cells [(.d .str)]),(.deep 73 5)] [] [(.cells [(.d .str)]),(.cells [(.d .str)]),(.deep 73 5)] false zwx (R:=(List UInt8)×(List UInt8)×(List zz3)) (λx=>(x.1,x.2.1,x.2.2.1)) (λr=>(r.1,r.2.1,r.2.2,())) (λn x=>z58 n x.1 x.2.1 x.2.2.1 x.2.2.2.1)
 (λn=>[]) (ann [] (Tryz.f79.body.getD .skip) 0).1 [2]
noncomputable def zx6:List (FI dat):=[]
theorem zx4:(z90).Good Tryz.prog dat (tb zx6):=FI.kz4 (hD:=kz2 _) Tryz.func79 Tryz.ntmps79 Tryz.call79 (by kernel_rfl) (Qac (by kernel_rfl)) (by kernel_rfl) (λn=>by kernel_rfl) (λx=>by kernel_rfl) (λ_=>rfl) trivial
 (λn=>λx=>(z58.eq_2 _ _ _ _ n).trans (by kernel_rfl))
 (λn=>trivial)
 (λx=>.inr (by kernel_rfl))
theorem zwt:OkL Tryz.prog [z90]:=kz7 (kz2 _) (bs:=[]) trivial zx4
theorem zv1:FOk Tryz.prog z90:=zwt.1
def z5a:Nat->Int->yz7->(List UInt8)->(List UInt8)->(List yz7)->Option ((List UInt8)×(List UInt8)×(List yz7))
 |0,_,_,_,_,_=>none
 |n+1,a0,a1,a2,a3,a4=>
  pIf (a1.name==a2)
   (some (a2,a3,(a4.set (Int.toNat a0) (yz7.mk a1.kind a3 a1.args))))
   (some (a2,a3,a4))
def zw4:LSh:=⟨[],[(.cells [(.d .str)]),(.cells [(.d .str)]),(.acc 75 (.st 4) true)],2,12,[2]⟩
noncomputable def z8y:FI dat:=FI.of dat 79 12 2 [(.ap 2 (.st 4) 1),(.ptr 0 0),(.ptr 1 0)] [(.cells [(.d .str)]),(.cells [(.d .str)]),(.acc 75 (.st 4) true)] [] [(.cells [(.d .str)]),(.cells [(.d .str)]),(.acc 75 (.st 4) true)] false zw4 (R:=(List UInt8)×(List UInt8)×(List yz7)) (λx=>(x.1,x.2.1,x.2.2.1)) (λr=>(r.1,r.2.1,r.2.2,())) (λn x=>z5a n x.1 x.2.1 x.2.2.1 x.2.2.2.1 x.2.2.2.2.1)
 (λn=>[]) (ann [] (Tryz.f79.body.getD .skip) 0).1 [2]
noncomputable def zxe:List (FI dat):=[]
theorem zw1:(z8y).Good Tryz.prog dat (tb zxe):=FI.kz4 (hD:=kz2 _) Tryz.func79 Tryz.ntmps79 Tryz.call79 (by kernel_rfl) (Qac (by kernel_rfl)) (by kernel_rfl) (λn=>by kernel_rfl) (λx=>by kernel_rfl) (λ_=>rfl) trivial
 (λn=>λx=>(z5a.eq_2 _ _ _ _ _ n).trans (by kernel_rfl))
 (λn=>trivial)
 (λx=>.inr (by kernel_rfl))
theorem zxj:OkL Tryz.prog [z8y]:=kz7 (kz2 _) (bs:=[]) trivial zw1
theorem zuy:FOk Tryz.prog z8y:=zxj.1
mutual
def z97:Nat->(List UInt8)->(List UInt8)->(List yz5)->(List yz3)->Option ((List yz5)×(List yz3))
 |0,_,_,_,_=>none
 |n+1,a0,a1,a2,a3=>
  z4x n 0 (a3.length:Int) a0 a1 a2 a3
def z4x:Nat->Int->Int->(List UInt8)->(List UInt8)->(List yz5)->(List yz3)->Option ((List yz5)×(List yz3))
 |0,_,_,_,_,_,_=>none
 |n+1,a0,a1,a2,a3,a4,a5=>
  pIf (decide (a0<a1))
   ((ix a5 a0).bind λx0=>
   (z8v n a0 a2 a3 a5).bind λy1=>
   (ix y1.2.2 a0).bind λx2=>
   (ix y1.2.2 a0).bind λx3=>
   (ix y1.2.2 a0).bind λx4=>
   z4y n 0 a1 a0 (x3.cases.length:Int) y1.1 y1.2.1 x3.cases a4 y1.2.2 a0)
   (some (a4,a5))
def z4y:Nat->Int->Int->Int->Int->(List UInt8)->(List UInt8)->(List yz4)->(List yz5)->(List yz3)->Int->Option ((List yz5)×(List yz3))
 |0,_,_,_,_,_,_,_,_,_,_=>none
 |n+1,a0,a1,a2,a3,a4,a5,a6,a7,a8,a9=>
  pIf (decide (a0<a3))
   ((ix a6 a0).bind λx5=>
   (ix a6 a0).bind λx6=>
   (ix a6 a0).bind λx7=>
   z4o n 0 a1 a2 a3 a0 (x6.do_.length:Int) x7.weight x7.when_.op x7.when_.value.kind x7.when_.value.num.num x7.when_.value.num.den x7.when_.value.truth x7.when_.value.str x7.when_.value.list x7.when_.name x7.when_.args a4 a5 a6 a0 a7 a8 a9 x6.do_)
   ((ix a8 a9).bind λx8=>
   z4x n (IntKind.i64.wrap (a2+1)) a1 a4 a5 a7 (a8.set (Int.toNat a9) (yz3.mk x8.name x8.params a6)))
def z4o:Nat->Int->Int->Int->Int->Int->Int->Int->Int->Int->Int->Int->Bool->(List UInt8)->(List kz1)->(List UInt8)->(List yz1)->(List UInt8)->(List UInt8)->(List yz4)->Int->(List yz5)->(List yz3)->Int->(List zz3)->Option ((List yz5)×(List yz3))
 |0,_,_,_,_,_,_,_,_,_,_,_,_,_,_,_,_,_,_,_,_,_,_,_,_=>none
 |n+1,a0,a1,a2,a3,a4,a5,a6,a7,a8,a9,a10,a11,a12,a13,a14,a15,a16,a17,a18,a19,a20,a21,a22,a23=>
  pIf (decide (a0<a5))
   ((ix a23 a0).bind λx9=>
   (z58 n a0 a16 a17 a23).bind λy10=>
   (ix y10.2.2 a0).bind λx11=>
   (ix y10.2.2 a0).bind λx12=>
   (ix y10.2.2 a0).bind λx13=>
   (ix y10.2.2 a0).bind λx14=>
   z3u n 0 a0 a1 a2 a3 a4 a5 a0 (x12.items.length:Int) a6 a7 a8 a9 a10 a11 a12 a13 a14 a15 y10.1 y10.2.1 a18 a19 a20 a21 a22 (y10.2.2.set (Int.toNat a0) (zz3.mk x14.kind x14.axis x14.name x14.args x12.items)))
   ((ix a18 a19).bind λx15=>
   z4y n (IntKind.i64.wrap (a4+1)) a1 a2 a3 a16 a17 (a18.set (Int.toNat a19) (yz4.mk x15.weight x15.when_.re a23)) a20 a21 a22)
def z3u:Nat->Int->Int->Int->Int->Int->Int->Int->Int->Int->Int->Int->Int->Int->Int->Bool->(List UInt8)->(List kz1)->(List UInt8)->(List yz1)->(List UInt8)->(List UInt8)->(List yz4)->Int->(List yz5)->(List yz3)->Int->(List zz3)->Option ((List yz5)×(List yz3))
 |0,_,_,_,_,_,_,_,_,_,_,_,_,_,_,_,_,_,_,_,_,_,_,_,_,_,_,_=>none
 |n+1,a0,a1,a2,a3,a4,a5,a6,a7,a8,a9,a10,a11,a12,a13,a14,a15,a16,a17,a18,a19,a20,a21,a22,a23,a24,a25,a26=>
  pIf (decide (a0<a8))
   ((ix a26 a1).bind λx16=>
   (ix a26 a1).bind λx17=>
   (ix a26 a1).bind λx18=>
   (ix x17.items a0).bind λx19=>
   (z5a n a0 x19 a19 a20 x17.items).bind λy20=>
   (ix a26 a1).bind λx21=>
   z3u n (IntKind.i64.wrap (a0+1)) a1 a2 a3 a4 a5 a6 a7 a8 a9 a10 a11 a12 a13 a14 a15 a16 a17 a18 y20.1 y20.2.1 a21 a22 a23 a24 a25 (a26.set (Int.toNat a1) (zz3.mk x21.kind x21.axis x21.name x21.args y20.2.2)))
   (z4o n (IntKind.i64.wrap (a7+1)) a2 a3 a4 a5 a6 a9 a10 a11 a12 a13 a14 a15 a16 a17 a18 a19 a20 a21 a22 a23 a24 a25 a26)
end
def yha:LSh:=⟨[],[(.acc 47 (.st 3) true),(.deep 51 7)],0,75,[0,1]⟩
noncomputable def zg4:FI dat:=FI.of dat 46 75 0 [(.agg [(.own 0),(.own 1)]),(.d .str),(.d .str)] [(.acc 47 (.st 3) true),(.deep 51 7)] [] [(.acc 47 (.st 3) true),(.deep 51 7)] false yha (R:=(List yz5)×(List yz3)) (λx=>(x.1,x.2.1)) (λr=>(r.1,r.2,())) (λn x=>z97 n x.1 x.2.1 x.2.2.1 x.2.2.2.1)
 (λn=>[(0,⟨⟨[(6,(.fn 79 [] [(.ptr 0 0),(.ptr 1 0)])),(16,(.d (.int .i64))),(3,(.ptr 2 0)),(15,(.d (.int .i64)))],[(.cells [(.d .str)]),(.cells [(.d .str)]),(.cells [(.own 3),(.own 4)]),(.acc 47 (.st 3) true),(.deep 51 7)],0,75,[3,4]⟩,λx=>z4x n x.1 x.2.1 x.2.2.1 x.2.2.2.1 x.2.2.2.2.1 x.2.2.2.2.2.1⟩),(1,⟨⟨[(6,(.fn 79 [] [(.ptr 0 0),(.ptr 1 0)])),(33,(.d (.int .i64))),(31,(.own 2)),(3,(.ptr 3 0)),(15,(.d (.int .i64))),(16,(.d (.int .i64))),(32,(.d (.int .i64)))],[(.cells [(.d .str)]),(.cells [(.d .str)]),(.deep 55 6),(.cells [(.own 4),(.own 5)]),(.acc 47 (.st 3) true),(.deeph 51 7 2 2)],0,75,[4,5]⟩,λx=>z4y n x.1 x.2.1 x.2.2.1 x.2.2.2.1 x.2.2.2.2.1 x.2.2.2.2.2.1 x.2.2.2.2.2.2.1 x.2.2.2.2.2.2.2.1 x.2.2.2.2.2.2.2.2.1 x.2.2.2.2.2.2.2.2.2.1⟩),(2,⟨⟨[(9,(.ptr 0 0)),(6,(.fn 79 [] [(.ptr 1 0),(.ptr 2 0)])),(40,(.d (.int .i64))),(31,(.own 3)),(3,(.ptr 4 0)),(15,(.d (.int .i64))),(16,(.d (.int .i64))),(32,(.d (.int .i64))),(33,(.d (.int .i64))),(39,(.d (.int .i64)))],[(.cells [(.d (.int .i64)),(.d (.int .u8)),(.d (.int .u8)),(.d (.int .i64)),(.d (.int .i64)),(.d .bool),(.d .str),(.d (.sl (.st 1))),(.d .str),(.d (.sl (.st 2))),(.own 7)]),(.cells [(.d .str)]),(.cells [(.d .str)]),(.deeph 55 6 10 7),(.cells [(.own 5),(.own 6)]),(.acc 47 (.st 3) true),(.deeph 51 7 2 3),(.deep 73 5)],0,75,[5,6]⟩,λx=>z4o n x.1 x.2.1 x.2.2.1 x.2.2.2.1 x.2.2.2.2.1 x.2.2.2.2.2.1 x.2.2.2.2.2.2.1 x.2.2.2.2.2.2.2.1 x.2.2.2.2.2.2.2.2.1 x.2.2.2.2.2.2.2.2.2.1 x.2.2.2.2.2.2.2.2.2.2.1 x.2.2.2.2.2.2.2.2.2.2.2.1 x.2.2.2.2.2.2.2.2.2.2.2.2.1 x.2.2.2.2.2.2.2.2.2.2.2.2.2.1 x.2.2.2.2.2.2.2.2.2.2.2.2.2.2.1 x.2.2.2.2.2.2.2.2.2.2.2.2.2.2.2.1 x.2.2.2.2.2.2.2.2.2.2.2.2.2.2.2.2.1 x.2.2.2.2.2.2.2.2.2.2.2.2.2.2.2.2.2.1 x.2.2.2.2.2.2.2.2.2.2.2.2.2.2.2.2.2.2.1 x.2.2.2.2.2.2.2.2.2.2.2.2.2.2.2.2.2.2.2.1 x.2.2.2.2.2.2.2.2.2.2.2.2.2.2.2.2.2.2.2.2.1 x.2.2.2.2.2.2.2.2.2.2.2.2.2.2.2.2.2.2.2.2.2.1 x.2.2.2.2.2.2.2.2.2.2.2.2.2.2.2.2.2.2.2.2.2.2.1 x.2.2.2.2.2.2.2.2.2.2.2.2.2.2.2.2.2.2.2.2.2.2.2.1⟩),(3,⟨⟨[(57,(.d (.int .i64))),(10,(.d (.int .i64))),(9,(.ptr 0 0)),(6,(.fn 79 [] [(.ptr 1 0),(.ptr 2 0)])),(31,(.own 3)),(3,(.ptr 4 0)),(15,(.d (.int .i64))),(16,(.d (.int .i64))),(32,(.d (.int .i64))),(33,(.d (.int .i64))),(39,(.d (.int .i64))),(40,(.d (.int .i64))),(56,(.d (.int .i64)))],[(.cells [(.d (.int .i64)),(.d (.int .u8)),(.d (.int .u8)),(.d (.int .i64)),(.d (.int .i64)),(.d .bool),(.d .str),(.d (.sl (.st 1))),(.d .str),(.d (.sl (.st 2))),(.own 7)]),(.cells [(.d .str)]),(.cells [(.d .str)]),(.deeph 55 6 10 7),(.cells [(.own 5),(.own 6)]),(.acc 47 (.st 3) true),(.deeph 51 7 2 3),(.deep 73 5)],0,75,[5,6]⟩,λx=>z3u n x.1 x.2.1 x.2.2.1 x.2.2.2.1 x.2.2.2.2.1 x.2.2.2.2.2.1 x.2.2.2.2.2.2.1 x.2.2.2.2.2.2.2.1 x.2.2.2.2.2.2.2.2.1 x.2.2.2.2.2.2.2.2.2.1 x.2.2.2.2.2.2.2.2.2.2.1 x.2.2.2.2.2.2.2.2.2.2.2.1 x.2.2.2.2.2.2.2.2.2.2.2.2.1 x.2.2.2.2.2.2.2.2.2.2.2.2.2.1 x.2.2.2.2.2.2.2.2.2.2.2.2.2.2.1 x.2.2.2.2.2.2.2.2.2.2.2.2.2.2.2.1 x.2.2.2.2.2.2.2.2.2.2.2.2.2.2.2.2.1 x.2.2.2.2.2.2.2.2.2.2.2.2.2.2.2.2.2.1 x.2.2.2.2.2.2.2.2.2.2.2.2.2.2.2.2.2.2.1 x.2.2.2.2.2.2.2.2.2.2.2.2.2.2.2.2.2.2.2.1 x.2.2.2.2.2.2.2.2.2.2.2.2.2.2.2.2.2.2.2.2.1 x.2.2.2.2.2.2.2.2.2.2.2.2.2.2.2.2.2.2.2.2.2.1 x.2.2.2.2.2.2.2.2.2.2.2.2.2.2.2.2.2.2.2.2.2.2.1 x.2.2.2.2.2.2.2.2.2.2.2.2.2.2.2.2.2.2.2.2.2.2.2.1 x.2.2.2.2.2.2.2.2.2.2.2.2.2.2.2.2.2.2.2.2.2.2.2.2.1 x.2.2.2.2.2.2.2.2.2.2.2.2.2.2.2.2.2.2.2.2.2.2.2.2.2.1 x.2.2.2.2.2.2.2.2.2.2.2.2.2.2.2.2.2.2.2.2.2.2.2.2.2.2.1⟩)]) (ann [(7,0),(23,1),(37,2),(53,3)] (Tryz.f46.body.getD .skip) 0).1 [0,1]
noncomputable def ydu:List (FI dat):=[zcn,z90,z8y]
theorem yco:(zg4).Good Tryz.prog dat (tb ydu):=FI.kz4 (hD:=kz2 _) Tryz.func46 Tryz.ntmps46 Tryz.call46 (by kernel_rfl) (Qac (by kernel_rfl)) (by kernel_rfl) (λn=>by kernel_rfl) (λx=>by kernel_rfl) (λ_=>rfl) ⟨λ_=>rfl,λ_=>rfl,λ_=>rfl,λ_=>rfl,trivial⟩
 (λn=>λx=>(z97.eq_2 _ _ _ _ n).trans (by kernel_rfl))
 (λn=>⟨λx=>(z4x.eq_2 _ _ _ _ _ _ n).trans (by kernel_rfl),
  λx=>(z4y.eq_2 _ _ _ _ _ _ _ _ _ _ n).trans (by kernel_rfl),
  λx=>(z4o.eq_2 _ _ _ _ _ _ _ _ _ _ _ _ _ _ _ _ _ _ _ _ _ _ _ _ n).trans (by kernel_rfl),
  λx=>(z3u.eq_2 _ _ _ _ _ _ _ _ _ _ _ _ _ _ _ _ _ _ _ _ _ _ _ _ _ _ _ n).trans (by kernel_rfl),
  trivial⟩)
 (λx=>.inr (by kernel_rfl))
theorem yfe:OkL Tryz.prog [zg4]:=kz7 (kz2 _) (bs:=[zcn,z90,z8y]) ⟨y2p,zv1,zuy,trivial⟩ yco
theorem y6n:FOk Tryz.prog zg4:=yfe.1
mutual
def zbz:Nat->yz6->(List yz5)->(List yz3)->Option (Int×(List yz5)×(List yz3))
 |0,_,_,_=>none
 |n+1,a0,a1,a2=>
  pIf (a0.kind==1)
   (z7y n true a1 a2 a0.re a0.name)
   (z7y n (a0.kind==3) a1 a2 a0.re a0.name)
def z7y:Nat->Bool->(List yz5)->(List yz3)->yz6->(List UInt8)->Option (Int×(List yz5)×(List yz3))
 |0,_,_,_,_,_=>none
 |n+1,a0,a1,a2,a3,a4=>
  pIf a0
   (z7o n a1 a2 a3.re a3.rule_.name)
   (z7o n a1 a2 a3.re a4)
def z7o:Nat->(List yz5)->(List yz3)->yz6->(List UInt8)->Option (Int×(List yz5)×(List yz3))
 |0,_,_,_,_=>none
 |n+1,a0,a1,a2,a3=>
  (z9u n (zz0.mk a0 a1) a3).bind λy0=>
  pIf (a2.kind==5)
   ((zzf n a3 a0).bind λy1=>
   z5e n y1.1 y1.2.2 a1 a2.re)
   (z5e n y0 a0 a1 a2.re)
def z5e:Nat->Int->(List yz5)->(List yz3)->yz6->Option (Int×(List yz5)×(List yz3))
 |0,_,_,_,_=>none
 |n+1,a0,a1,a2,a3=>
  pIf (decide (a0<0))
   (z7u n a0 (a3.kind != 1) a1 a2 a3.re)
   (z7u n a0 false a1 a2 a3.re)
def z7u:Nat->Int->Bool->(List yz5)->(List yz3)->yz6->Option (Int×(List yz5)×(List yz3))
 |0,_,_,_,_,_=>none
 |n+1,a0,a1,a2,a3,a4=>
  pIf a1
   (some (6,a2,a3))
   (pIf (a4.kind==1)
     (pIf (decide (a0>=0))
       (some (14,a2,a3))
       ((zc2 n a4.rule_).bind λy2=>
       (ext a3 [(yz3.mk y2.1 y2.2.1 [])]).bind λx3=>
       (ix x3 (a3.length:Int)).bind λx4=>
       z1m n a2 (x3.set (Int.toNat (a3.length:Int)) (yz3.mk x4.name x4.params y2.2.2))))
     (pIf (a4.kind==2)
       ((z3a n a0 (IntKind.i64.wrap (a0+1)) a3).bind λy5=>
       z1m n a2 y5)
       (pIf (a4.kind==3)
         ((zc2 n a4.rule_).bind λy6=>
         (ix a3 a0).bind λx7=>
         (ix a3 a0).bind λx8=>
         (ix (a3.set (Int.toNat a0) (yz3.mk y6.1 y6.2.1 [])) a0).bind λx9=>
         z1m n a2 ((a3.set (Int.toNat a0) (yz3.mk y6.1 y6.2.1 [])).set (Int.toNat a0) (yz3.mk x9.name x9.params y6.2.2)))
         (pIf (a4.kind==4)
           ((z9u n (zz0.mk a2 a3) a4.to_).bind λy10=>
           pIf (decide (y10>=0))
            (some (14,a2,a3))
            ((z97 n a4.name a4.to_ a2 a3).bind λy11=>
            z1m n y11.1 y11.2))
           ((z89 n a4.value.re).bind λy12=>
           (ix a2 a0).bind λx13=>
           z1m n (a2.set (Int.toNat a0) (yz5.mk x13.name y12.re)) a3)))))
def z1m:Nat->(List yz5)->(List yz3)->Option (Int×(List yz5)×(List yz3))
 |0,_,_=>none
 |n+1,a0,a1=>
  some (0,a0,a1)
end
def ys4:LSh:=⟨[(4,(.d (.int .i64)))],[(.cells [(.own 1),(.own 2)]),(.acc 47 (.st 3) true),(.deep 51 7)],1,110,[]⟩
noncomputable def zkf:FI dat:=FI.of dat 17 110 1 [(.ptr 0 0),(.d (.st 9))] [(.cells [(.own 1),(.own 2)]),(.acc 47 (.st 3) true),(.deep 51 7)] [(.d (.int .i64))] [(.cells [(.own 1),(.own 2)]),(.acc 47 (.st 3) true),(.deep 51 7)] false ys4 (R:=Int×(List yz5)×(List yz3)) (λx=>(x.1,x.2.1,x.2.2.1)) (λr=>(r.1,r.2.1,r.2.2,())) (λn x=>zbz n x.1 x.2.1 x.2.2.1)
 (λn=>[(0,⟨⟨[(3,(.ptr 3 0)),(0,(.ptr 0 0)),(5,(.ptr 4 0)),(16,(.d .bool))],[(.cells [(.own 1),(.own 2)]),(.acc 47 (.st 3) true),(.deep 51 7),(.st 9),(.cells [(.d .str)])],1,110,[]⟩,λx=>z7y n x.1 x.2.1 x.2.2.1 x.2.2.2.1 x.2.2.2.2.1⟩),(1,⟨⟨[(3,(.ptr 3 0)),(0,(.ptr 0 0)),(5,(.ptr 4 0))],[(.cells [(.own 1),(.own 2)]),(.acc 47 (.st 3) true),(.deep 51 7),(.st 9),(.cells [(.d .str)])],1,110,[]⟩,λx=>z7o n x.1 x.2.1 x.2.2.1 x.2.2.2.1⟩),(2,⟨⟨[(3,(.ptr 3 0)),(0,(.ptr 0 0)),(6,(.d (.int .i64)))],[(.cells [(.own 1),(.own 2)]),(.acc 47 (.st 3) true),(.deep 51 7),(.st 9)],1,110,[]⟩,λx=>z5e n x.1 x.2.1 x.2.2.1 x.2.2.2.1⟩),(3,⟨⟨[(3,(.ptr 3 0)),(0,(.ptr 0 0)),(6,(.d (.int .i64))),(40,(.d .bool))],[(.cells [(.own 1),(.own 2)]),(.acc 47 (.st 3) true),(.deep 51 7),(.st 9)],1,110,[]⟩,λx=>z7u n x.1 x.2.1 x.2.2.1 x.2.2.2.1 x.2.2.2.2.1⟩),(4,⟨⟨[],[(.cells [(.own 1),(.own 2)]),(.acc 47 (.st 3) true),(.deep 51 7)],1,110,[]⟩,λx=>z1m n x.1 x.2.1⟩)]) (ann [(7,0),(10,1),(18,2),(21,3),(63,4)] (Tryz.f17.body.getD .skip) 0).1
noncomputable def ysa:List (FI dat):=[kzm,zkg,z3o,zg4,zk3,z9t]
theorem yq8:(zkf).Good Tryz.prog dat (tb ysa):=FI.kz4 (hD:=kz2 _) Tryz.func17 Tryz.ntmps17 Tryz.call17 (by kernel_rfl) (Qac (by kernel_rfl)) (by kernel_rfl) (λn=>by kernel_rfl) (λx=>by kernel_rfl) (λ_=>rfl) ⟨λ_=>rfl,λ_=>rfl,λ_=>rfl,λ_=>rfl,λ_=>rfl,trivial⟩
 (λn=>λx=>(zbz.eq_2 _ _ _ n).trans (by kernel_rfl))
 (λn=>⟨λx=>(z7y.eq_2 _ _ _ _ _ n).trans (by kernel_rfl),
  λx=>(z7o.eq_2 _ _ _ _ n).trans (by kernel_rfl),
  λx=>(z5e.eq_2 _ _ _ _ n).trans (by kernel_rfl),
  λx=>(z7u.eq_2 _ _ _ _ _ n).trans (by kernel_rfl),
  λx=>(z1m.eq_2 _ _ n).trans (by kernel_rfl),
  trivial⟩)
 (λx=>.inr (by kernel_rfl))
theorem yr1:OkL Tryz.prog [zkf]:=kz7 (kz2 _) (bs:=[kzm,zkg,z3o,zg4,zk3,z9t]) ⟨zen,yoi,zgv,y6n,yl8,zsg,trivial⟩ yq8
theorem ynr:FOk Tryz.prog zkf:=yr1.1
mutual
noncomputable def zd0:Nat->zz0->(List yz6)->Option (Int×(List yz5)×(List yz3))
 |0,_,_=>none
 |n+1,a0,a1=>
  (z7e n a0).bind λy0=>
  pIf (y0 != 0)
   (some (y0,[],[]))
   (pIf (decide ((a1.length:Int)>40))
     (some (4,[],[]))
     ((z8e n a0).bind λy1=>
     z5w n 0 a1 (a1.length:Int) (zz0.mk [] []) y1.1 y1.2))
noncomputable def z5w:Nat->Int->(List yz6)->Int->zz0->(List yz5)->(List yz3)->Option (Int×(List yz5)×(List yz3))
 |0,_,_,_,_,_,_=>none
 |n+1,a0,a1,a2,a3,a4,a5=>
  pIf (decide (a0<a2))
   ((ix a1 a0).bind λx2=>
   (zbh n x2.re).bind λy3=>
   pIf (!y3)
    (some (8,[],[]))
    ((zbz n x2.re a4 a5).bind λy4=>
    pIf (y4.1 != 0)
     (some (y4.1,[],[]))
     (z5w n (IntKind.i64.wrap (a0+1)) a1 a2 a3 y4.2.1 y4.2.2)))
   ((z7e n (zz0.mk a4 a5)).bind λy5=>
   pIf (y5 != 0)
    (some (y5,[],[]))
    (some (0,a4,a5)))
end
def ynb:LSh:=⟨[(4,(.ptr 0 0)),(5,(.d (.int .i64)))],[(.cells [(.own 1),(.own 2)]),(.acc 47 (.st 3) true),(.deep 51 7)],0,48,[]⟩
noncomputable def zhl:FI dat:=FI.of dat 7 48 0 [(.d (.st 8)),(.d (.sl (.st 9)))] [] [(.agg [(.own 1),(.own 2)]),(.d (.int .i64))] [(.cells [(.own 1),(.own 2)]),(.acc 47 (.st 3) true),(.deep 51 7)] false ynb (R:=Int×(List yz5)×(List yz3)) (λx=>(x.1,x.2.1,x.2.2.1)) (λr=>(r.1,r.2.1,r.2.2,())) (λn x=>zd0 n x.1 x.2.1)
 (λn=>[(0,⟨⟨[(4,(.ptr 0 0)),(26,(.d (.int .i64))),(7,(.ptr 1 0)),(24,(.d (.sl (.st 9)))),(25,(.d (.int .i64)))],[(.st 8),(.cells [(.own 2),(.own 3)]),(.acc 47 (.st 3) true),(.deep 51 7)],0,48,[]⟩,λx=>z5w n x.1 x.2.1 x.2.2.1 x.2.2.2.1 x.2.2.2.2.1 x.2.2.2.2.2.1⟩)]) (ann [(26,0)] (Tryz.f7.body.getD .skip) 0).1
noncomputable def ymt:List (FI dat):=[zc9,zkf,zgj,zgm]
theorem yo5:(zhl).Good Tryz.prog dat (tb ymt):=FI.kz4 (hD:=kz2 _) Tryz.func7 Tryz.ntmps7 Tryz.call7 (by kernel_rfl) (Qac (by kernel_rfl)) (by kernel_rfl) (λn=>by kernel_rfl) (λx=>by kernel_rfl) (λ_=>rfl) ⟨λ_=>rfl,trivial⟩
 (λn=>λx=>(zd0.eq_2 _ _ n).trans (by kernel_rfl))
 (λn=>⟨λx=>(z5w.eq_2 _ _ _ _ _ _ n).trans (by kernel_rfl),
  trivial⟩)
 (λx=>.inr (by kernel_rfl))
theorem yjj:OkL Tryz.prog [zhl]:=kz7 (kz2 _) (bs:=[zc9,zkf,zgj,zgm]) ⟨zvj,ynr,y7z,yb9,trivial⟩ yo5
theorem yer:FOk Tryz.prog zhl:=yjj.1
mutual
def zcv:Nat->zz0->Option Bool
 |0,_=>none
 |n+1,a0=>
  pIf (decide ((a0.attrs.length:Int)>20))
   (z5k n true a0)
   (z5k n (decide ((a0.rules.length:Int)>40)) a0)
def z5k:Nat->Bool->zz0->Option Bool
 |0,_,_=>none
 |n+1,a0,a1=>
  pIf a0
   (some true)
   (z3b n 0 a1)
def z3b:Nat->Int->zz0->Option Bool
 |0,_,_=>none
 |n+1,a0,a1=>
  pIf (decide (a0<(a1.rules.length:Int)))
   ((ix a1.rules a0).bind λx0=>
   pIf (decide ((x0.params.length:Int)>4))
    (z6y n a0 true x0 a1)
    (z6y n a0 (decide ((x0.cases.length:Int)>6)) x0 a1))
   (some false)
def z6y:Nat->Int->Bool->yz3->zz0->Option Bool
 |0,_,_,_,_=>none
 |n+1,a0,a1,a2,a3=>
  pIf a1
   (some true)
   (z3h n 0 a0 a2 a3)
def z3h:Nat->Int->Int->yz3->zz0->Option Bool
 |0,_,_,_,_=>none
 |n+1,a0,a1,a2,a3=>
  pIf (decide (a0<(a2.cases.length:Int)))
   ((ix a2.cases a0).bind λx1=>
   pIf (decide ((x1.do_.length:Int)>10))
    (some true)
    (z3j n 0 a0 a1 a2 a3))
   (z3b n (IntKind.i64.wrap (a1+1)) a3)
def z3j:Nat->Int->Int->Int->yz3->zz0->Option Bool
 |0,_,_,_,_,_=>none
 |n+1,a0,a1,a2,a3,a4=>
  (ix a3.cases a1).bind λx2=>
  pIf (decide (a0<(x2.do_.length:Int)))
   ((ix a3.cases a1).bind λx3=>
   (ix x3.do_ a0).bind λx4=>
   pIf (decide ((x4.items.length:Int)>10))
    (some true)
    (z3j n (IntKind.i64.wrap (a0+1)) a1 a2 a3 a4))
   (z3h n (IntKind.i64.wrap (a1+1)) a2 a3 a4)
end
def ylp:LSh:=⟨[(2,(.d .bool))],[],0,77,[]⟩
noncomputable def zhx:FI dat:=FI.of dat 47 77 0 [(.d (.st 8))] [] [(.d .bool)] [] true ylp (R:=Bool) (λx=>x.1) (λr=>(r,())) (λn x=>zcv n x.1)
 (λn=>[(0,⟨⟨[(1,(.ptr 0 0)),(16,(.d .bool))],[(.st 8)],0,77,[]⟩,λx=>z5k n x.1 x.2.1⟩),(1,⟨⟨[(3,(.d (.int .i64))),(1,(.ptr 0 0))],[(.st 8)],0,77,[]⟩,λx=>z3b n x.1 x.2.1⟩),(2,⟨⟨[(4,(.ptr 0 0)),(1,(.ptr 1 0)),(3,(.d (.int .i64))),(38,(.d .bool))],[(.st 7),(.st 8)],0,77,[]⟩,λx=>z6y n x.1 x.2.1 x.2.2.1 x.2.2.2.1⟩),(3,⟨⟨[(5,(.d (.int .i64))),(4,(.ptr 0 0)),(1,(.ptr 1 0)),(3,(.d (.int .i64)))],[(.st 7),(.st 8)],0,77,[]⟩,λx=>z3h n x.1 x.2.1 x.2.2.1 x.2.2.2.1⟩),(4,⟨⟨[(6,(.d (.int .i64))),(5,(.d (.int .i64))),(4,(.ptr 0 0)),(1,(.ptr 1 0)),(3,(.d (.int .i64)))],[(.st 7),(.st 8)],0,77,[]⟩,λx=>z3j n x.1 x.2.1 x.2.2.1 x.2.2.2.1 x.2.2.2.2.1⟩)]) (ann [(5,0),(14,1),(28,2),(36,3),(56,4)] (Tryz.f47.body.getD .skip) 0).1
noncomputable def yka:List (FI dat):=[]
theorem yji:(zhx).Good Tryz.prog dat (tb yka):=FI.kz4 (hD:=kz2 _) Tryz.func47 Tryz.ntmps47 Tryz.call47 (by kernel_rfl) (Qac (by kernel_rfl)) (by kernel_rfl) (λn=>by kernel_rfl) (λx=>by kernel_rfl) (λ_=>rfl) ⟨λ_=>rfl,λ_=>rfl,λ_=>rfl,λ_=>rfl,λ_=>rfl,trivial⟩
 (λn=>λx=>(zcv.eq_2 _ n).trans (by kernel_rfl))
 (λn=>⟨λx=>(z5k.eq_2 _ _ n).trans (by kernel_rfl),
  λx=>(z3b.eq_2 _ _ n).trans (by kernel_rfl),
  λx=>(z6y.eq_2 _ _ _ _ n).trans (by kernel_rfl),
  λx=>(z3h.eq_2 _ _ _ _ n).trans (by kernel_rfl),
  λx=>(z3j.eq_2 _ _ _ _ _ n).trans (by kernel_rfl),
  trivial⟩)
 (λx=>.inl rfl)
theorem yj1:OkL Tryz.prog [zhx]:=kz7 (kz2 _) (bs:=[]) trivial yji
theorem yd8:FOk Tryz.prog zhx:=yj1.1
def z9e:Nat->Int->Option Bool
 |0,_=>none
 |n+1,a0=>
  pIf (decide (a0>=97))
   (some (decide (a0<=122)))
   (some false)
def y7q:LSh:=⟨[(2,(.d .bool))],[],0,9,[]⟩
noncomputable def zdw:FI dat:=FI.of dat 112 9 0 [(.d (.int .u8))] [] [(.d .bool)] [] true y7q (R:=Bool) (λx=>x.1) (λr=>(r,())) (λn x=>z9e n x.1)
 (λn=>[]) (ann [] (Tryz.f112.body.getD .skip) 0).1
noncomputable def y9p:List (FI dat):=[]
theorem y93:(zdw).Good Tryz.prog dat (tb y9p):=FI.kz4 (hD:=kz2 _) Tryz.func112 Tryz.ntmps112 Tryz.call112 (by kernel_rfl) (Qac (by kernel_rfl)) (by kernel_rfl) (λn=>by kernel_rfl) (λx=>by kernel_rfl) (λ_=>rfl) trivial
 (λn=>λx=>(z9e.eq_2 _ n).trans (by kernel_rfl))
 (λn=>trivial)
 (λx=>.inl rfl)
theorem y9a:OkL Tryz.prog [zdw]:=kz7 (kz2 _) (bs:=[]) trivial y93
theorem y5n:FOk Tryz.prog zdw:=y9a.1
def zbe:Nat->Int->Option Bool
 |0,_=>none
 |n+1,a0=>
  pIf (decide (a0>=48))
   (some (decide (a0<=57)))
   (some false)
def yd6:LSh:=⟨[(2,(.d .bool))],[],0,9,[]⟩
noncomputable def zft:FI dat:=FI.of dat 113 9 0 [(.d (.int .u8))] [] [(.d .bool)] [] true yd6 (R:=Bool) (λx=>x.1) (λr=>(r,())) (λn x=>zbe n x.1)
 (λn=>[]) (ann [] (Tryz.f113.body.getD .skip) 0).1
noncomputable def ycq:List (FI dat):=[]
theorem yeb:(zft).Good Tryz.prog dat (tb ycq):=FI.kz4 (hD:=kz2 _) Tryz.func113 Tryz.ntmps113 Tryz.call113 (by kernel_rfl) (Qac (by kernel_rfl)) (by kernel_rfl) (λn=>by kernel_rfl) (λx=>by kernel_rfl) (λ_=>rfl) trivial
 (λn=>λx=>(zbe.eq_2 _ n).trans (by kernel_rfl))
 (λn=>trivial)
 (λx=>.inl rfl)
theorem yfx:OkL Tryz.prog [zft]:=kz7 (kz2 _) (bs:=[]) trivial yeb
theorem y7o:FOk Tryz.prog zft:=yfx.1
mutual
def zam:Nat->(List UInt8)->Option Bool
 |0,_=>none
 |n+1,a0=>
  z00 n 0 a0
def z00:Nat->Int->(List UInt8)->Option Bool
 |0,_,_=>none
 |n+1,a0,a1=>
  pIf (decide (a0<(a1.length:Int)))
   ((ix a1 a0).bind λx0=>
   (z9e n (x0.toNat:Int)).bind λy1=>
   pIf (!y1)
    (pIf (a0==0)
      (z0h n a1 a0 true)
      ((ix a1 a0).bind λx2=>
      pIf ((x2.toNat:Int) != 45)
       ((ix a1 a0).bind λx3=>
       (zbe n (x3.toNat:Int)).bind λy4=>
       z0h n a1 a0 (!y4))
       (z0h n a1 a0 false)))
    (z0h n a1 a0 false))
   (pIf (decide ((a1.length:Int)>=1))
     (some (decide ((a1.length:Int)<=40)))
     (some false))
def z0h:Nat->(List UInt8)->Int->Bool->Option Bool
 |0,_,_,_=>none
 |n+1,a0,a1,a2=>
  pIf a2
   (some false)
   (z00 n (IntKind.i64.wrap (a1+1)) a0)
end
def ylk:LSh:=⟨[(2,(.d .bool))],[],0,40,[]⟩
noncomputable def zc0:FI dat:=FI.of dat 100 40 0 [(.d .str)] [] [(.d .bool)] [] true ylk (R:=Bool) (λx=>x.1) (λr=>(r,())) (λn x=>zam n x.1)
 (λn=>[(0,⟨⟨[(3,(.d (.int .i64))),(0,(.d .str))],[],0,40,[]⟩,λx=>z00 n x.1 x.2.1⟩),(1,⟨⟨[(0,(.d .str)),(3,(.d (.int .i64))),(31,(.d .bool))],[],0,40,[]⟩,λx=>z0h n x.1 x.2.1 x.2.2.1⟩)]) (ann [(6,0),(17,1)] (Tryz.f100.body.getD .skip) 0).1
noncomputable def yoj:List (FI dat):=[zdw,zft]
theorem yjg:(zc0).Good Tryz.prog dat (tb yoj):=FI.kz4 (hD:=kz2 _) Tryz.func100 Tryz.ntmps100 Tryz.call100 (by kernel_rfl) (Qac (by kernel_rfl)) (by kernel_rfl) (λn=>by kernel_rfl) (λx=>by kernel_rfl) (λ_=>rfl) ⟨λ_=>rfl,λ_=>rfl,trivial⟩
 (λn=>λx=>(zam.eq_2 _ n).trans (by kernel_rfl))
 (λn=>⟨λx=>(z00.eq_2 _ _ n).trans (by kernel_rfl),
  λx=>(z0h.eq_2 _ _ _ n).trans (by kernel_rfl),
  trivial⟩)
 (λx=>.inl rfl)
theorem yk5:OkL Tryz.prog [zc0]:=kz7 (kz2 _) (bs:=[zdw,zft]) ⟨y5n,y7o,trivial⟩ yjg
theorem zvo:FOk Tryz.prog zc0:=yk5.1
def z9k:Nat->(List UInt8)->Option Bool
 |0,_=>none
 |n+1,a0=>
  pIf (a0==[115,120])
   (some true)
   (pIf (a0==[115,121])
     (some true)
     (some (a0==[115,122])))
def y6o:LSh:=⟨[(2,(.d .bool))],[],0,13,[]⟩
noncomputable def ze9:FI dat:=FI.of dat 101 13 0 [(.d .str)] [] [(.d .bool)] [] true y6o (R:=Bool) (λx=>x.1) (λr=>(r,())) (λn x=>z9k n x.1)
 (λn=>[]) (ann [] (Tryz.f101.body.getD .skip) 0).1
noncomputable def y6k:List (FI dat):=[]
theorem y8a:(ze9).Good Tryz.prog dat (tb y6k):=FI.kz4 (hD:=kz2 _) Tryz.func101 Tryz.ntmps101 Tryz.call101 (by kernel_rfl) (Qac (by kernel_rfl)) (by kernel_rfl) (λn=>by kernel_rfl) (λx=>by kernel_rfl) (λ_=>rfl) trivial
 (λn=>λx=>(z9k.eq_2 _ n).trans (by kernel_rfl))
 (λn=>trivial)
 (λx=>.inl rfl)
theorem y7a:OkL Tryz.prog [ze9]:=kz7 (kz2 _) (bs:=[]) trivial y8a
theorem y4n:FOk Tryz.prog ze9:=y7a.1
def z3p:Nat->(List UInt8)->Option Bool
 |0,_=>none
 |n+1,a0=>
  (zam n a0).bind λy0=>
  pIf y0
   (pIf (!(a0==[116,114,117,101]))
     (pIf (!(a0==[102,97,108,115,101]))
       ((z9k n a0).bind λy1=>
       some (!y1))
       (some false))
     (some false))
   (some false)
def yky:LSh:=⟨[(2,(.d .bool))],[],0,18,[]⟩
noncomputable def zcc:FI dat:=FI.of dat 80 18 0 [(.d .str)] [] [(.d .bool)] [] true yky (R:=Bool) (λx=>x.1) (λr=>(r,())) (λn x=>z3p n x.1)
 (λn=>[]) (ann [] (Tryz.f80.body.getD .skip) 0).1
noncomputable def yof:List (FI dat):=[zc0,ze9]
theorem yk4:(zcc).Good Tryz.prog dat (tb yof):=FI.kz4 (hD:=kz2 _) Tryz.func80 Tryz.ntmps80 Tryz.call80 (by kernel_rfl) (Qac (by kernel_rfl)) (by kernel_rfl) (λn=>by kernel_rfl) (λx=>by kernel_rfl) (λ_=>rfl) trivial
 (λn=>λx=>(z3p.eq_2 _ n).trans (by kernel_rfl))
 (λn=>trivial)
 (λx=>.inl rfl)
theorem ym1:OkL Tryz.prog [zcc]:=kz7 (kz2 _) (bs:=[zc0,ze9]) ⟨zvo,y4n,trivial⟩ yk4
theorem zvm:FOk Tryz.prog zcc:=ym1.1
mutual
def zaq:Nat->yz1->Option Int
 |0,_=>none
 |n+1,a0=>
  z6s n 0 1 a0.re
def z6s:Nat->Int->Int->yz1->Option Int
 |0,_,_,_=>none
 |n+1,a0,a1,a2=>
  pIf (decide (a0<(a2.args.length:Int)))
   ((ix a2.args a0).bind λx0=>
   (zaq n x0.re).bind λy1=>
   z6s n (IntKind.i64.wrap (a0+1)) (mxI a1 (IntKind.i64.wrap (1+y1))) a2.re)
   (some a1)
end
def ynt:LSh:=⟨[(2,(.d (.int .i64)))],[],0,22,[]⟩
noncomputable def zem:FI dat:=FI.of dat 102 22 0 [(.d (.st 2))] [] [(.d (.int .i64))] [] true ynt (R:=Int) (λx=>x.1) (λr=>(r,())) (λn x=>zaq n x.1)
 (λn=>[(0,⟨⟨[(4,(.d (.int .i64))),(1,(.ptr 0 0)),(3,(.d (.int .i64)))],[(.st 2)],0,22,[]⟩,λx=>z6s n x.1 x.2.1 x.2.2.1⟩)]) (ann [(8,0)] (Tryz.f102.body.getD .skip) 0).1
noncomputable def ym9:List (FI dat):=[zem]++[]
theorem yle:(zem).Good Tryz.prog dat (tb ym9):=FI.kz4 (hD:=kz2 _) Tryz.func102 Tryz.ntmps102 Tryz.call102 (by kernel_rfl) (Qac (by kernel_rfl)) (by kernel_rfl) (λn=>by kernel_rfl) (λx=>by kernel_rfl) (λ_=>rfl) ⟨λ_=>rfl,trivial⟩
 (λn=>λx=>(zaq.eq_2 _ n).trans (by kernel_rfl))
 (λn=>⟨λx=>(z6s.eq_2 _ _ _ n).trans (by kernel_rfl),
  trivial⟩)
 (λx=>.inl rfl)
theorem ymc:OkL Tryz.prog [zem]:=z5f (kz2 _) (bs:=[]) trivial ⟨yle,trivial⟩
theorem yfg:FOk Tryz.prog zem:=ymc.1
mutual
def zct:Nat->Int->Option Int
 |0,_=>none
 |n+1,a0=>
  pIf (a0==1)
   (z8r n a0 true)
   (z8r n a0 (a0==2))
def z8r:Nat->Int->Bool->Option Int
 |0,_,_=>none
 |n+1,a0,a1=>
  pIf a1
   (some 0)
   (pIf (decide (a0>=3))
     (pIf (decide (a0<=10))
       (yzt n a0 true)
       (pIf (a0==13)
         (yzt n a0 true)
         (pIf (a0==14)
           (yzt n a0 true)
           (yzt n a0 (a0==17)))))
     (pIf (a0==13)
       (yzt n a0 true)
       (pIf (a0==14)
         (yzt n a0 true)
         (yzt n a0 (a0==17)))))
def yzt:Nat->Int->Bool->Option Int
 |0,_,_=>none
 |n+1,a0,a1=>
  pIf a1
   (some 2)
   (pIf (a0==11)
     (z5r n a0 true)
     (pIf (a0==15)
       (z5r n a0 true)
       (z5r n a0 (a0==16))))
def z5r:Nat->Int->Bool->Option Int
 |0,_,_=>none
 |n+1,a0,a1=>
  pIf a1
   (some 1)
   (pIf (a0==12)
     (some 3)
     (pIf (a0==18)
       (some (-1))
       (some (-2))))
end
def ymx:LSh:=⟨[(2,(.d (.int .i64)))],[],0,46,[]⟩
noncomputable def zih:FI dat:=FI.of dat 114 46 0 [(.d (.int .u8))] [] [(.d (.int .i64))] [] true ymx (R:=Int) (λx=>x.1) (λr=>(r,())) (λn x=>zct n x.1)
 (λn=>[(0,⟨⟨[(0,(.d (.int .u8))),(3,(.d .bool))],[],0,46,[]⟩,λx=>z8r n x.1 x.2.1⟩),(1,⟨⟨[(0,(.d (.int .u8))),(10,(.d .bool))],[],0,46,[]⟩,λx=>yzt n x.1 x.2.1⟩),(2,⟨⟨[(0,(.d (.int .u8))),(29,(.d .bool))],[],0,46,[]⟩,λx=>z5r n x.1 x.2.1⟩)]) (ann [(6,0),(12,1),(18,2)] (Tryz.f114.body.getD .skip) 0).1
noncomputable def yjz:List (FI dat):=[]
theorem yl1:(zih).Good Tryz.prog dat (tb yjz):=FI.kz4 (hD:=kz2 _) Tryz.func114 Tryz.ntmps114 Tryz.call114 (by kernel_rfl) (Qac (by kernel_rfl)) (by kernel_rfl) (λn=>by kernel_rfl) (λx=>by kernel_rfl) (λ_=>rfl) ⟨λ_=>rfl,λ_=>rfl,λ_=>rfl,trivial⟩
 (λn=>λx=>(zct.eq_2 _ n).trans (by kernel_rfl))
 (λn=>⟨λx=>(z8r.eq_2 _ _ n).trans (by kernel_rfl),
  λx=>(yzt.eq_2 _ _ n).trans (by kernel_rfl),
  λx=>(z5r.eq_2 _ _ n).trans (by kernel_rfl),
  trivial⟩)
 (λx=>.inl rfl)
theorem ykn:OkL Tryz.prog [zih]:=kz7 (kz2 _) (bs:=[]) trivial yl1
theorem yg4:FOk Tryz.prog zih:=ykn.1
mutual
def zaf:Nat->kz1->Option Int
 |0,_=>none
 |n+1,a0=>
  z5s n 0 1 a0.re
def z5s:Nat->Int->Int->kz1->Option Int
 |0,_,_,_=>none
 |n+1,a0,a1,a2=>
  pIf (decide (a0<(a2.list.length:Int)))
   (z66 n a0 a1 (a2.kind==4) a2.re)
   (z66 n a0 a1 false a2.re)
def z66:Nat->Int->Int->Bool->kz1->Option Int
 |0,_,_,_,_=>none
 |n+1,a0,a1,a2,a3=>
  pIf a2
   ((ix a3.list a0).bind λx0=>
   (zaf n x0.re).bind λy1=>
   z5s n (IntKind.i64.wrap (a0+1)) (mxI a1 (IntKind.i64.wrap (1+y1))) a3.re)
   (some a1)
end
def ykk:LSh:=⟨[(2,(.d (.int .i64)))],[],0,27,[]⟩
noncomputable def zeu:FI dat:=FI.of dat 131 27 0 [(.d (.st 1))] [] [(.d (.int .i64))] [] true ykk (R:=Int) (λx=>x.1) (λr=>(r,())) (λn x=>zaf n x.1)
 (λn=>[(0,⟨⟨[(4,(.d (.int .i64))),(1,(.ptr 0 0)),(3,(.d (.int .i64)))],[(.st 1)],0,27,[]⟩,λx=>z5s n x.1 x.2.1 x.2.2.1⟩),(1,⟨⟨[(1,(.ptr 0 0)),(4,(.d (.int .i64))),(3,(.d (.int .i64))),(14,(.d .bool))],[(.st 1)],0,27,[]⟩,λx=>z66 n x.1 x.2.1 x.2.2.1 x.2.2.2.1⟩)]) (ann [(8,0),(12,1)] (Tryz.f131.body.getD .skip) 0).1
noncomputable def yms:List (FI dat):=[zeu]++[]
theorem yl9:(zeu).Good Tryz.prog dat (tb yms):=FI.kz4 (hD:=kz2 _) Tryz.func131 Tryz.ntmps131 Tryz.call131 (by kernel_rfl) (Qac (by kernel_rfl)) (by kernel_rfl) (λn=>by kernel_rfl) (λx=>by kernel_rfl) (λ_=>rfl) ⟨λ_=>rfl,λ_=>rfl,trivial⟩
 (λn=>λx=>(zaf.eq_2 _ n).trans (by kernel_rfl))
 (λn=>⟨λx=>(z5s.eq_2 _ _ _ n).trans (by kernel_rfl),
  λx=>(z66.eq_2 _ _ _ _ n).trans (by kernel_rfl),
  trivial⟩)
 (λx=>.inl rfl)
theorem yj9:OkL Tryz.prog [zeu]:=z5f (kz2 _) (bs:=[]) trivial ⟨yl9,trivial⟩
theorem yfc:FOk Tryz.prog zeu:=yj9.1
mutual
def z9i:Nat->Int->Int->Option Int
 |0,_,_=>none
 |n+1,a0,a1=>
  z2u n a1 a0
def z2u:Nat->Int->Int->Option Int
 |0,_,_=>none
 |n+1,a0,a1=>
  pIf (a0 != 0)
   ((rem .i64 a1 a0).bind λx0=>
   z2u n x0 a0)
   (pIf (decide (a1<0))
     (some (IntKind.i64.wrap (0-a1)))
     (some a1))
end
def y89:LSh:=⟨[(4,(.d (.int .i64)))],[],0,16,[]⟩
noncomputable def zdy:FI dat:=FI.of dat 144 16 0 [(.d (.int .i64)),(.d (.int .i64))] [] [(.d (.int .i64))] [] true y89 (R:=Int) (λx=>x.1) (λr=>(r,())) (λn x=>z9i n x.1 x.2.1)
 (λn=>[(0,⟨⟨[(1,(.d (.int .i64))),(0,(.d (.int .i64)))],[],0,16,[]⟩,λx=>z2u n x.1 x.2.1⟩)]) (ann [(4,0)] (Tryz.f144.body.getD .skip) 0).1
noncomputable def yaa:List (FI dat):=[]
theorem ybo:(zdy).Good Tryz.prog dat (tb yaa):=FI.kz4 (hD:=kz2 _) Tryz.func144 Tryz.ntmps144 Tryz.call144 (by kernel_rfl) (Qac (by kernel_rfl)) (by kernel_rfl) (λn=>by kernel_rfl) (λx=>by kernel_rfl) (λ_=>rfl) ⟨λ_=>rfl,trivial⟩
 (λn=>λx=>(z9i.eq_2 _ _ n).trans (by kernel_rfl))
 (λn=>⟨λx=>(z2u.eq_2 _ _ n).trans (by kernel_rfl),
  trivial⟩)
 (λx=>.inl rfl)
theorem ybr:OkL Tryz.prog [zdy]:=kz7 (kz2 _) (bs:=[]) trivial ybo
theorem y4z:FOk Tryz.prog zdy:=ybr.1
mutual
def zbn:Nat->kz6->Option Int
 |0,_=>none
 |n+1,a0=>
  pIf (decide (a0.den<1))
   (z01 n true)
   (pIf (decide (a0.den>1000000000))
     (z01 n true)
     (pIf (decide (a0.num<(-1000000000)))
       (z01 n true)
       (pIf (decide (a0.num>1000000000))
         (z01 n true)
         ((z9i n a0.num a0.den).bind λy0=>
         z01 n (y0 != 1)))))
def z01:Nat->Bool->Option Int
 |0,_=>none
 |n+1,a0=>
  pIf a0
   (some 8)
   (some 0)
end
def ydd:LSh:=⟨[(2,(.d (.int .i64)))],[],0,29,[]⟩
noncomputable def zfm:FI dat:=FI.of dat 140 29 0 [(.d (.st 0))] [] [(.d (.int .i64))] [] true ydd (R:=Int) (λx=>x.1) (λr=>(r,())) (λn x=>zbn n x.1)
 (λn=>[(0,⟨⟨[(28,(.d .bool))],[],0,29,[]⟩,λx=>z01 n x.1⟩)]) (ann [(5,0)] (Tryz.f140.body.getD .skip) 0).1
noncomputable def yg6:List (FI dat):=[zdy]
theorem yh9:(zfm).Good Tryz.prog dat (tb yg6):=FI.kz4 (hD:=kz2 _) Tryz.func140 Tryz.ntmps140 Tryz.call140 (by kernel_rfl) (Qac (by kernel_rfl)) (by kernel_rfl) (λn=>by kernel_rfl) (λx=>by kernel_rfl) (λ_=>rfl) ⟨λ_=>rfl,trivial⟩
 (λn=>λx=>(zbn.eq_2 _ n).trans (by kernel_rfl))
 (λn=>⟨λx=>(z01.eq_2 _ n).trans (by kernel_rfl),
  trivial⟩)
 (λx=>.inl rfl)
theorem yej:OkL Tryz.prog [zfm]:=kz7 (kz2 _) (bs:=[zdy]) ⟨y4z,trivial⟩ yh9
theorem y9y:FOk Tryz.prog zfm:=yej.1
end Go.Proofs.YtomdnlaakelghaaGreat
