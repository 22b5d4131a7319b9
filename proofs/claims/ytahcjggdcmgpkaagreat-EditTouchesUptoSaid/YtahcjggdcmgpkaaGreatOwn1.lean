/-
  Go functions as Lean functions, by a program of this repo.
-/
import Derived.Test.YtahcjggdcmgpkaaGreatOwn0
namespace Go.Proofs.YtahcjggdcmgpkaaGreat
open Go Go.Ab
set_option linter.unusedVariables false
set_option maxRecDepth 100000
set_option maxHeartbeats 4000000
def yzn:Nat->(List (List UInt8))->(List (List UInt8))->(List Bool)->Option (Bool×(List (List UInt8))×(List Bool))
 |0,_,_,_=>none
 |n+1,a0,a1,a2 =>
  (kzy n a0 (mks (List.zip a1 a2)) (mvs (List.zip a1 a2))).bind λy0 =>
  some ((decide (y0.1>=0)),(mks (List.zip y0.2.1 y0.2.2)),(mvs (List.zip y0.2.1 y0.2.2)))
def zib:LSh:=⟨[(4,(.d .bool))],[(.cells [(.map 1)]),(.mp 55 .bool)],2,9⟩
noncomputable def zzv:FI dat:=FI.of dat 22 9 2 [(.d (.sl .str)),(.fn 103 [] [(.ptr 0 0)])] [(.cells [(.map 1)]),(.mp 55 .bool)] [(.d .bool)] [(.cells [(.map 1)]),(.mp 55 .bool)] false zib (R:=Bool×(List (List UInt8))×(List Bool)) (λx=>(x.1,x.2.1,x.2.2.1)) (λr=>(r.1,r.2.1,r.2.2,())) (λn x=>yzn n x.1 x.2.1 x.2.2.1)
 (λn=>[]) (ann [] (Tryz.f22.body.getD .skip) 0).1
noncomputable def zi2:List (FI dat):=[z04]
theorem zi9:(zzv).Good Tryz.prog dat (tb zi2):=FI.yz4 (hD:=zz2 _) Tryz.func22 Tryz.ntmps22 Tryz.call22 (by kernel_rfl) (of_decide_eq_true (by kernel_rfl)) (by kernel_rfl) (λn=>by kernel_rfl) (λx=>by kernel_rfl) (λ_=>rfl) trivial
 (λn=>λx=>(yzn.eq_2 x.1 x.2.1 x.2.2.1 n).trans (by kernel_rfl))
 (λn=>trivial)
 (λx=>.inr (by kernel_rfl))
theorem zhi:OkL Tryz.prog [zzv]:=zz6 (zz2 _) (bs:=[z04]) ⟨zjf,trivial⟩ zi9
theorem zgy:FOk Tryz.prog zzv:=zhi.1
def zd6:Nat->zz1->(List (List UInt8))->(List Bool)->Option (Bool×(List (List UInt8))×(List Bool))
 |0,_,_,_=>none
 |n+1,a0,a1,a2 =>
  (zdh n a0.re).bind λy0 =>
  (yzn n y0.1 (mks (List.zip a1 a2)) (mvs (List.zip a1 a2))).bind λy1 =>
  some (y1.1,(mks (List.zip y1.2.1 y1.2.2)),(mvs (List.zip y1.2.1 y1.2.2)))
def yqn:LSh:=⟨[(4,(.d .bool))],[(.mp 55 .bool)],1,15⟩
noncomputable def zfk:FI dat:=FI.of dat 58 15 1 [(.d (.st 2)),(.map 0)] [(.mp 55 .bool)] [(.d .bool)] [(.mp 55 .bool)] false yqn (R:=Bool×(List (List UInt8))×(List Bool)) (λx=>(x.1,x.2.1,x.2.2.1)) (λr=>(r.1,r.2.1,r.2.2,())) (λn x=>zd6 n x.1 x.2.1 x.2.2.1)
 (λn=>[]) (ann [] (Tryz.f58.body.getD .skip) 0).1
noncomputable def yrj:List (FI dat):=[zzv,zfh]
theorem yr2:(zfk).Good Tryz.prog dat (tb yrj):=FI.yz4 (hD:=zz2 _) Tryz.func58 Tryz.ntmps58 Tryz.call58 (by kernel_rfl) (of_decide_eq_true (by kernel_rfl)) (by kernel_rfl) (λn=>by kernel_rfl) (λx=>by kernel_rfl) (λ_=>rfl) trivial
 (λn=>λx=>(zd6.eq_2 x.1 x.2.1 x.2.2.1 n).trans (by kernel_rfl))
 (λn=>trivial)
 (λx=>.inr (by kernel_rfl))
theorem ypc:OkL Tryz.prog [zfk]:=zz6 (zz2 _) (bs:=[zzv,zfh]) ⟨zgy,y0w,trivial⟩ yr2
theorem y0t:FOk Tryz.prog zfk:=ypc.1
mutual
def zdy:Nat->kz4->Option (List zz1)
 |0,_=>none
 |n+1,a0 =>
  z6s n 0 a0.cases (a0.cases.length:Int) []
def z6s:Nat->Int->(List kz5)->Int->(List zz1)->Option (List zz1)
 |0,_,_,_,_=>none
 |n+1,a0,a1,a2,a3 =>
  pIf (decide (a0<a2))
   ((ix a1 a0).bind λx0 =>
   (ext a3 [x0.when_.re]).bind λx1 =>
   z6k n 0 x0.do_ a1 a2 a0 (x0.do_.length:Int) x1)
   (some a3)
def z6k:Nat->Int->(List zz3)->(List kz5)->Int->Int->Int->(List zz1)->Option (List zz1)
 |0,_,_,_,_,_,_,_=>none
 |n+1,a0,a1,a2,a3,a4,a5,a6 =>
  pIf (decide (a0<a5))
   ((ix a1 a0).bind λx2 =>
   (ext a6 x2.args).bind λx3 =>
   z61 n 0 x2.items a1 a2 a3 a4 a5 a0 (x2.items.length:Int) x3)
   (z6s n (IntKind.i64.wrap (a4+1)) a2 a3 a6)
def z61:Nat->Int->(List yza)->(List zz3)->(List kz5)->Int->Int->Int->Int->Int->(List zz1)->Option (List zz1)
 |0,_,_,_,_,_,_,_,_,_,_=>none
 |n+1,a0,a1,a2,a3,a4,a5,a6,a7,a8,a9 =>
  pIf (decide (a0<a8))
   ((ix a1 a0).bind λx4 =>
   (ext a9 x4.args).bind λx5 =>
   z61 n (IntKind.i64.wrap (a0+1)) a1 a2 a3 a4 a5 a6 a7 a8 x5)
   (z6k n (IntKind.i64.wrap (a7+1)) a2 a3 a4 a5 a6 a9)
end
def yjp:LSh:=⟨[(2,(.d (.sl (.st 2))))],[],0,48⟩
noncomputable def zk9:FI dat:=FI.of dat 61 48 0 [(.d (.st 7))] [] [(.d (.sl (.st 2)))] [] true yjp (R:=List zz1) (λx=>x.1) (λr=>(r,())) (λn x=>zdy n x.1)
 (λn=>[(0,⟨⟨[(13,(.d (.int .i64))),(3,(.own 0)),(11,(.d (.sl (.st 6)))),(12,(.d (.int .i64)))],[(.acc 43 (.st 2) true)],0,48⟩,λx=>z6s n x.1 x.2.1 x.2.2.1 x.2.2.2.1⟩),(1,⟨⟨[(25,(.d (.int .i64))),(3,(.own 0)),(23,(.d (.sl (.st 5)))),(11,(.d (.sl (.st 6)))),(12,(.d (.int .i64))),(13,(.d (.int .i64))),(24,(.d (.int .i64)))],[(.acc 43 (.st 2) true)],0,48⟩,λx=>z6k n x.1 x.2.1 x.2.2.1 x.2.2.2.1 x.2.2.2.2.1 x.2.2.2.2.2.1 x.2.2.2.2.2.2.1⟩),(2,⟨⟨[(36,(.d (.int .i64))),(3,(.own 0)),(34,(.d (.sl (.st 4)))),(23,(.d (.sl (.st 5)))),(11,(.d (.sl (.st 6)))),(12,(.d (.int .i64))),(13,(.d (.int .i64))),(24,(.d (.int .i64))),(25,(.d (.int .i64))),(35,(.d (.int .i64)))],[(.acc 43 (.st 2) true)],0,48⟩,λx=>z61 n x.1 x.2.1 x.2.2.1 x.2.2.2.1 x.2.2.2.2.1 x.2.2.2.2.2.1 x.2.2.2.2.2.2.1 x.2.2.2.2.2.2.2.1 x.2.2.2.2.2.2.2.2.1 x.2.2.2.2.2.2.2.2.2.1⟩)]) (ann [(8,0),(24,1),(40,2)] (Tryz.f61.body.getD .skip) 0).1
noncomputable def yj4:List (FI dat):=[]
theorem ykj:(zk9).Good Tryz.prog dat (tb yj4):=FI.yz4 (hD:=zz2 _) Tryz.func61 Tryz.ntmps61 Tryz.call61 (by kernel_rfl) (of_decide_eq_true (by kernel_rfl)) (by kernel_rfl) (λn=>by kernel_rfl) (λx=>by kernel_rfl) (λ_=>rfl) ⟨λ_=>rfl,λ_=>rfl,λ_=>rfl,trivial⟩
 (λn=>λx=>(zdy.eq_2 x.1 n).trans (by kernel_rfl))
 (λn=>⟨λx=>(z6s.eq_2 x.1 x.2.1 x.2.2.1 x.2.2.2.1 n).trans (by kernel_rfl),
  λx=>(z6k.eq_2 x.1 x.2.1 x.2.2.1 x.2.2.2.1 x.2.2.2.2.1 x.2.2.2.2.2.1 x.2.2.2.2.2.2.1 n).trans (by kernel_rfl),
  λx=>(z61.eq_2 x.1 x.2.1 x.2.2.1 x.2.2.2.1 x.2.2.2.2.1 x.2.2.2.2.2.1 x.2.2.2.2.2.2.1 x.2.2.2.2.2.2.2.1 x.2.2.2.2.2.2.2.2.1 x.2.2.2.2.2.2.2.2.2.1 n).trans (by kernel_rfl),
  trivial⟩)
 (λx=>.inl rfl)
theorem ylf:OkL Tryz.prog [zk9]:=zz6 (zz2 _) (bs:=[]) trivial ykj
theorem yfs:FOk Tryz.prog zk9:=ylf.1
def zbg:Nat->zz1->(List (List UInt8))->(List Bool)->Option (Bool×(List (List UInt8))×(List Bool))
 |0,_,_,_=>none
 |n+1,a0,a1,a2 =>
  (zd6 n a0.re (mks (List.zip a1 a2)) (mvs (List.zip a1 a2))).bind λy0 =>
  some (y0.1,(mks (List.zip y0.2.1 y0.2.2)),(mvs (List.zip y0.2.1 y0.2.2)))
def yay:LSh:=⟨[(3,(.d .bool))],[(.cells [(.map 1)]),(.mp 55 .bool)],2,7⟩
noncomputable def zfu:FI dat:=FI.of dat 62 7 2 [(.d (.st 2)),(.ptr 0 0)] [(.cells [(.map 1)]),(.mp 55 .bool)] [(.d .bool)] [(.cells [(.map 1)]),(.mp 55 .bool)] false yay (R:=Bool×(List (List UInt8))×(List Bool)) (λx=>(x.1,x.2.1,x.2.2.1)) (λr=>(r.1,r.2.1,r.2.2,())) (λn x=>zbg n x.1 x.2.1 x.2.2.1)
 (λn=>[]) (ann [] (Tryz.f62.body.getD .skip) 0).1
noncomputable def yal:List (FI dat):=[zfk]
theorem y9e:(zfu).Good Tryz.prog dat (tb yal):=FI.yz4 (hD:=zz2 _) Tryz.func62 Tryz.ntmps62 Tryz.call62 (by kernel_rfl) (of_decide_eq_true (by kernel_rfl)) (by kernel_rfl) (λn=>by kernel_rfl) (λx=>by kernel_rfl) (λ_=>rfl) trivial
 (λn=>λx=>(zbg.eq_2 x.1 x.2.1 x.2.2.1 n).trans (by kernel_rfl))
 (λn=>trivial)
 (λx=>.inr (by kernel_rfl))
theorem y9f:OkL Tryz.prog [zfu]:=zz6 (zz2 _) (bs:=[zfk]) ⟨y0t,trivial⟩ y9e
theorem y61:FOk Tryz.prog zfu:=y9f.1
mutual
def yzw:Nat->(List zz1)->(List (List UInt8))->(List Bool)->Option (Int×(List (List UInt8))×(List Bool))
 |0,_,_,_=>none
 |n+1,a0,a1,a2 =>
  kze n 0 a0 (a0.length:Int) (mks (List.zip a1 a2)) (mvs (List.zip a1 a2))
def kze:Nat->Int->(List zz1)->Int->(List (List UInt8))->(List Bool)->Option (Int×(List (List UInt8))×(List Bool))
 |0,_,_,_,_,_=>none
 |n+1,a0,a1,a2,a3,a4 =>
  pIf (decide (a0<a2))
   ((ix a1 a0).bind λx0 =>
   (zbg n x0.re (mks (List.zip a3 a4)) (mvs (List.zip a3 a4))).bind λy1 =>
   pIf y1.1
    (some (a0,(mks (List.zip y1.2.1 y1.2.2)),(mvs (List.zip y1.2.1 y1.2.2))))
    (kze n (IntKind.i64.wrap (a0+1)) a1 a2 (mks (List.zip y1.2.1 y1.2.2)) (mvs (List.zip y1.2.1 y1.2.2))))
   (some ((-1),(mks (List.zip a3 a4)),(mvs (List.zip a3 a4))))
end
def zjd:LSh:=⟨[(4,(.d (.int .i64)))],[(.cells [(.map 1)]),(.mp 55 .bool)],2,19⟩
noncomputable def yzy:FI dat:=FI.of dat 104 19 2 [(.d (.sl (.st 2))),(.fn 62 [] [(.ptr 0 0)])] [(.cells [(.map 1)]),(.mp 55 .bool)] [(.d (.int .i64))] [(.cells [(.map 1)]),(.mp 55 .bool)] false zjd (R:=Int×(List (List UInt8))×(List Bool)) (λx=>(x.1,x.2.1,x.2.2.1)) (λr=>(r.1,r.2.1,r.2.2,())) (λn x=>yzw n x.1 x.2.1 x.2.2.1)
 (λn=>[(0,⟨⟨[(8,(.d (.int .i64))),(0,(.d (.sl (.st 2)))),(1,(.fn 62 [] [(.ptr 0 0)])),(7,(.d (.int .i64)))],[(.cells [(.map 1)]),(.mp 55 .bool)],2,19⟩,λx=>kze n x.1 x.2.1 x.2.2.1 x.2.2.2.1 x.2.2.2.2.1⟩)]) (ann [(6,0)] (Tryz.f104.body.getD .skip) 0).1
noncomputable def ziy:List (FI dat):=[zfu]
theorem zjb:(yzy).Good Tryz.prog dat (tb ziy):=FI.yz4 (hD:=zz2 _) Tryz.func104 Tryz.ntmps104 Tryz.call104 (by kernel_rfl) (of_decide_eq_true (by kernel_rfl)) (by kernel_rfl) (λn=>by kernel_rfl) (λx=>by kernel_rfl) (λ_=>rfl) ⟨λ_=>rfl,trivial⟩
 (λn=>λx=>(yzw.eq_2 x.1 x.2.1 x.2.2.1 n).trans (by kernel_rfl))
 (λn=>⟨λx=>(kze.eq_2 x.1 x.2.1 x.2.2.1 x.2.2.2.1 x.2.2.2.2.1 n).trans (by kernel_rfl),
  trivial⟩)
 (λx=>.inr (by kernel_rfl))
theorem zj6:OkL Tryz.prog [yzy]:=zz6 (zz2 _) (bs:=[zfu]) ⟨y61,trivial⟩ zjb
theorem ziu:FOk Tryz.prog yzy:=zj6.1
def kzj:Nat->(List zz1)->(List (List UInt8))->(List Bool)->Option (Bool×(List (List UInt8))×(List Bool))
 |0,_,_,_=>none
 |n+1,a0,a1,a2 =>
  (yzw n a0 (mks (List.zip a1 a2)) (mvs (List.zip a1 a2))).bind λy0 =>
  some ((decide (y0.1>=0)),(mks (List.zip y0.2.1 y0.2.2)),(mvs (List.zip y0.2.1 y0.2.2)))
def zgw:LSh:=⟨[(4,(.d .bool))],[(.cells [(.map 1)]),(.mp 55 .bool)],2,9⟩
noncomputable def zzt:FI dat:=FI.of dat 60 9 2 [(.d (.sl (.st 2))),(.fn 62 [] [(.ptr 0 0)])] [(.cells [(.map 1)]),(.mp 55 .bool)] [(.d .bool)] [(.cells [(.map 1)]),(.mp 55 .bool)] false zgw (R:=Bool×(List (List UInt8))×(List Bool)) (λx=>(x.1,x.2.1,x.2.2.1)) (λr=>(r.1,r.2.1,r.2.2,())) (λn x=>kzj n x.1 x.2.1 x.2.2.1)
 (λn=>[]) (ann [] (Tryz.f60.body.getD .skip) 0).1
noncomputable def zgo:List (FI dat):=[yzy]
theorem zh5:(zzt).Good Tryz.prog dat (tb zgo):=FI.yz4 (hD:=zz2 _) Tryz.func60 Tryz.ntmps60 Tryz.call60 (by kernel_rfl) (of_decide_eq_true (by kernel_rfl)) (by kernel_rfl) (λn=>by kernel_rfl) (λx=>by kernel_rfl) (λ_=>rfl) trivial
 (λn=>λx=>(kzj.eq_2 x.1 x.2.1 x.2.2.1 n).trans (by kernel_rfl))
 (λn=>trivial)
 (λx=>.inr (by kernel_rfl))
theorem zgu:OkL Tryz.prog [zzt]:=zz6 (zz2 _) (bs:=[yzy]) ⟨ziu,trivial⟩ zh5
theorem zgl:FOk Tryz.prog zzt:=zgu.1
mutual
def zbt:Nat->kz4->Option (List zzq)
 |0,_=>none
 |n+1,a0 =>
  z6c n 0 a0.cases (a0.cases.length:Int) []
def z6c:Nat->Int->(List kz5)->Int->(List zzq)->Option (List zzq)
 |0,_,_,_,_=>none
 |n+1,a0,a1,a2,a3 =>
  pIf (decide (a0<a2))
   ((ix a1 a0).bind λx0 =>
   z3t n 0 x0.do_ a1 a2 a0 (x0.do_.length:Int) a3)
   (some a3)
def z3t:Nat->Int->(List zz3)->(List kz5)->Int->Int->Int->(List zzq)->Option (List zzq)
 |0,_,_,_,_,_,_,_=>none
 |n+1,a0,a1,a2,a3,a4,a5,a6 =>
  pIf (decide (a0<a5))
   ((ix a1 a0).bind λx1 =>
   pIf (!(x1.name==[]))
    ((zd0 n x1.kind).bind λy2 =>
    (ext a6 [(zzq.mk x1.name (IntKind.i64.wrap ((x1.args.length:Int)-y2)))]).bind λx3 =>
    z63 n a1 a2 a3 a4 a5 a0 x3 x1)
    (z63 n a1 a2 a3 a4 a5 a0 a6 x1))
   (z6c n (IntKind.i64.wrap (a4+1)) a2 a3 a6)
def z63:Nat->(List zz3)->(List kz5)->Int->Int->Int->Int->(List zzq)->zz3->Option (List zzq)
 |0,_,_,_,_,_,_,_,_=>none
 |n+1,a0,a1,a2,a3,a4,a5,a6,a7 =>
  z79 n 0 a7.items a0 a1 a2 a3 a4 a5 (a7.items.length:Int) a6
def z79:Nat->Int->(List yza)->(List zz3)->(List kz5)->Int->Int->Int->Int->Int->(List zzq)->Option (List zzq)
 |0,_,_,_,_,_,_,_,_,_,_=>none
 |n+1,a0,a1,a2,a3,a4,a5,a6,a7,a8,a9 =>
  pIf (decide (a0<a8))
   ((ix a1 a0).bind λx4 =>
   (ext a9 [(zzq.mk x4.name (IntKind.i64.wrap ((x4.args.length:Int)-1)))]).bind λx5 =>
   z79 n (IntKind.i64.wrap (a0+1)) a1 a2 a3 a4 a5 a6 a7 a8 x5)
   (z3t n (IntKind.i64.wrap (a7+1)) a2 a3 a4 a5 a6 a9)
end
def yls:LSh:=⟨[(2,(.d (.sl (.st 9))))],[],0,61⟩
noncomputable def zds:FI dat:=FI.of dat 50 61 0 [(.d (.st 7))] [] [(.d (.sl (.st 9)))] [] true yls (R:=List zzq) (λx=>x.1) (λr=>(r,())) (λn x=>zbt n x.1)
 (λn=>[(0,⟨⟨[(3,(.own 0)),(13,(.d (.int .i64))),(11,(.d (.sl (.st 6)))),(12,(.d (.int .i64)))],[(.acc 98 (.st 9) true)],0,61⟩,λx=>z6c n x.1 x.2.1 x.2.2.1 x.2.2.2.1⟩),(1,⟨⟨[(20,(.d (.int .i64))),(3,(.own 0)),(18,(.d (.sl (.st 5)))),(11,(.d (.sl (.st 6)))),(12,(.d (.int .i64))),(13,(.d (.int .i64))),(19,(.d (.int .i64)))],[(.acc 98 (.st 9) true)],0,61⟩,λx=>z3t n x.1 x.2.1 x.2.2.1 x.2.2.2.1 x.2.2.2.2.1 x.2.2.2.2.2.1 x.2.2.2.2.2.2.1⟩),(2,⟨⟨[(3,(.own 0)),(18,(.d (.sl (.st 5)))),(11,(.d (.sl (.st 6)))),(12,(.d (.int .i64))),(13,(.d (.int .i64))),(19,(.d (.int .i64))),(20,(.d (.int .i64))),(7,(.ptr 1 0))],[(.acc 98 (.st 9) true),(.st 5)],0,61⟩,λx=>z63 n x.1 x.2.1 x.2.2.1 x.2.2.2.1 x.2.2.2.2.1 x.2.2.2.2.2.1 x.2.2.2.2.2.2.1 x.2.2.2.2.2.2.2.1⟩),(3,⟨⟨[(43,(.d (.int .i64))),(3,(.own 0)),(41,(.d (.sl (.st 4)))),(18,(.d (.sl (.st 5)))),(11,(.d (.sl (.st 6)))),(12,(.d (.int .i64))),(13,(.d (.int .i64))),(19,(.d (.int .i64))),(20,(.d (.int .i64))),(42,(.d (.int .i64)))],[(.acc 98 (.st 9) true)],0,61⟩,λx=>z79 n x.1 x.2.1 x.2.2.1 x.2.2.2.1 x.2.2.2.2.1 x.2.2.2.2.2.1 x.2.2.2.2.2.2.1 x.2.2.2.2.2.2.2.1 x.2.2.2.2.2.2.2.2.1 x.2.2.2.2.2.2.2.2.2.1⟩)]) (ann [(8,0),(22,1),(39,2),(42,3)] (Tryz.f50.body.getD .skip) 0).1
noncomputable def yi5:List (FI dat):=[zhn]
theorem yjf:(zds).Good Tryz.prog dat (tb yi5):=FI.yz4 (hD:=zz2 _) Tryz.func50 Tryz.ntmps50 Tryz.call50 (by kernel_rfl) (of_decide_eq_true (by kernel_rfl)) (by kernel_rfl) (λn=>by kernel_rfl) (λx=>by kernel_rfl) (λ_=>rfl) ⟨λ_=>rfl,λ_=>rfl,λ_=>rfl,λ_=>rfl,trivial⟩
 (λn=>λx=>(zbt.eq_2 x.1 n).trans (by kernel_rfl))
 (λn=>⟨λx=>(z6c.eq_2 x.1 x.2.1 x.2.2.1 x.2.2.2.1 n).trans (by kernel_rfl),
  λx=>(z3t.eq_2 x.1 x.2.1 x.2.2.1 x.2.2.2.1 x.2.2.2.2.1 x.2.2.2.2.2.1 x.2.2.2.2.2.2.1 n).trans (by kernel_rfl),
  λx=>(z63.eq_2 x.1 x.2.1 x.2.2.1 x.2.2.2.1 x.2.2.2.2.1 x.2.2.2.2.2.1 x.2.2.2.2.2.2.1 x.2.2.2.2.2.2.2.1 n).trans (by kernel_rfl),
  λx=>(z79.eq_2 x.1 x.2.1 x.2.2.1 x.2.2.2.1 x.2.2.2.2.1 x.2.2.2.2.2.1 x.2.2.2.2.2.2.1 x.2.2.2.2.2.2.2.1 x.2.2.2.2.2.2.2.2.1 x.2.2.2.2.2.2.2.2.2.1 n).trans (by kernel_rfl),
  trivial⟩)
 (λx=>.inl rfl)
theorem ym9:OkL Tryz.prog [zds]:=zz6 (zz2 _) (bs:=[zhn]) ⟨y4a,trivial⟩ yjf
theorem zyj:FOk Tryz.prog zds:=ym9.1
mutual
noncomputable def z9d:Nat->zz0->Option Int
 |0,_=>none
 |n+1,a0 =>
  (zg1 n a0).bind λy0 =>
  pIf y0
   (some 4)
   ((zcf n a0).bind λy1 =>
   pIf (!y1)
    (some 8)
    (z6v n 0 false a0.attrs (a0.attrs.length:Int) [] [] [] [] a0))
noncomputable def z6v:Nat->Int->Bool->(List kz6)->Int->(List (List UInt8))->(List Bool)->(List (List UInt8))->(List Int)->zz0->Option Int
 |0,_,_,_,_,_,_,_,_,_=>none
 |n+1,a0,a1,a2,a3,a4,a5,a6,a7,a8 =>
  pIf (decide (a0<a3))
   ((ix a2 a0).bind λx2 =>
   pIf a1
    (z5z n true a2 a3 a0 (mks (List.zip a4 a5)) (mvs (List.zip a4 a5)) (mks (List.zip a6 a7)) (mvs (List.zip a6 a7)) a8 x2.re)
    ((zd6 n x2.value.re (mks (List.zip a4 a5)) (mvs (List.zip a4 a5))).bind λy3 =>
    z5z n y3.1 a2 a3 a0 (mks (List.zip y3.2.1 y3.2.2)) (mvs (List.zip y3.2.1 y3.2.2)) (mks (List.zip a6 a7)) (mvs (List.zip a6 a7)) a8 x2.re))
   (z73 n 0 a8.rules a1 (a8.rules.length:Int) (mks (List.zip a4 a5)) (mvs (List.zip a4 a5)) (mks (List.zip a6 a7)) (mvs (List.zip a6 a7)) a8)
noncomputable def z5z:Nat->Bool->(List kz6)->Int->Int->(List (List UInt8))->(List Bool)->(List (List UInt8))->(List Int)->zz0->kz6->Option Int
 |0,_,_,_,_,_,_,_,_,_,_=>none
 |n+1,a0,a1,a2,a3,a4,a5,a6,a7,a8,a9 =>
  pIf (Option.getD (z3k (List.zip a4 a5) a9.name) false)
   (some 14)
   (z6v n (IntKind.i64.wrap (a3+1)) a0 a1 a2 (mks (z90 (List.zip a4 a5) a9.name true)) (mvs (z90 (List.zip a4 a5) a9.name true)) (mks (List.zip a6 a7)) (mvs (List.zip a6 a7)) a8)
noncomputable def z73:Nat->Int->(List kz4)->Bool->Int->(List (List UInt8))->(List Bool)->(List (List UInt8))->(List Int)->zz0->Option Int
 |0,_,_,_,_,_,_,_,_,_=>none
 |n+1,a0,a1,a2,a3,a4,a5,a6,a7,a8 =>
  pIf (decide (a0<a3))
   ((ix a1 a0).bind λx4 =>
   pIf (Option.isSome (z3k (List.zip a6 a7) x4.name))
    (some 14)
    (z6b n 0 x4.params a1 a2 a3 a0 (x4.params.length:Int) x4 (mks (List.zip a4 a5)) (mvs (List.zip a4 a5)) (mks (z90 (List.zip a6 a7) x4.name a0)) (mvs (z90 (List.zip a6 a7) x4.name a0)) a8))
   (z3r n false 0 a2 (mks (List.zip a4 a5)) (mvs (List.zip a4 a5)) a8.rules (a8.rules.length:Int) a8 (mks (List.zip a6 a7)) (mvs (List.zip a6 a7)))
noncomputable def z6b:Nat->Int->(List (List UInt8))->(List kz4)->Bool->Int->Int->Int->kz4->(List (List UInt8))->(List Bool)->(List (List UInt8))->(List Int)->zz0->Option Int
 |0,_,_,_,_,_,_,_,_,_,_,_,_,_=>none
 |n+1,a0,a1,a2,a3,a4,a5,a6,a7,a8,a9,a10,a11,a12 =>
  pIf (decide (a0<a6))
   ((ix a1 a0).bind λx5 =>
   pIf (Option.getD (z3k (List.zip a8 a9) x5) false)
    (z6t n a1 a2 a3 a4 a5 a6 a0 true a7 (mks (List.zip a8 a9)) (mvs (List.zip a8 a9)) (mks (List.zip a10 a11)) (mvs (List.zip a10 a11)) a12)
    ((kzv n a7.params x5).bind λy6 =>
    z6t n a1 a2 a3 a4 a5 a6 a0 (decide (y6<a0)) a7 (mks (List.zip a8 a9)) (mvs (List.zip a8 a9)) (mks (List.zip a10 a11)) (mvs (List.zip a10 a11)) a12))
   (z73 n (IntKind.i64.wrap (a5+1)) a2 a3 a4 (mks (List.zip a8 a9)) (mvs (List.zip a8 a9)) (mks (List.zip a10 a11)) (mvs (List.zip a10 a11)) a12)
noncomputable def z6t:Nat->(List (List UInt8))->(List kz4)->Bool->Int->Int->Int->Int->Bool->kz4->(List (List UInt8))->(List Bool)->(List (List UInt8))->(List Int)->zz0->Option Int
 |0,_,_,_,_,_,_,_,_,_,_,_,_,_,_=>none
 |n+1,a0,a1,a2,a3,a4,a5,a6,a7,a8,a9,a10,a11,a12,a13 =>
  pIf a7
   (some 14)
   (z6b n (IntKind.i64.wrap (a6+1)) a0 a1 a2 a3 a4 a5 a8 (mks (List.zip a9 a10)) (mvs (List.zip a9 a10)) (mks (List.zip a11 a12)) (mvs (List.zip a11 a12)) a13)
noncomputable def z3r:Nat->Bool->Int->Bool->(List (List UInt8))->(List Bool)->(List kz4)->Int->zz0->(List (List UInt8))->(List Int)->Option Int
 |0,_,_,_,_,_,_,_,_,_,_=>none
 |n+1,a0,a1,a2,a3,a4,a5,a6,a7,a8,a9 =>
  pIf (decide (a1<a6))
   ((ix a5 a1).bind λx7 =>
   z5x n a0 (mks (List.zip a3 a4)) (mvs (List.zip a3 a4)) a5 a6 a1 a2 (mks (List.zip a3 a4)) (mvs (List.zip a3 a4)) a7 (mks (List.zip a8 a9)) (mvs (List.zip a8 a9)) x7 (mks (z90 (z90 (z90 [] [115,120] true) [115,121] true) [115,122] true)) (mvs (z90 (z90 (z90 [] [115,120] true) [115,121] true) [115,122] true)))
   (pIf a2
     (some 6)
     (pIf a0
       (some 2)
       (some 0)))
noncomputable def z5x:Nat->Bool->(List (List UInt8))->(List Bool)->(List kz4)->Int->Int->Bool->(List (List UInt8))->(List Bool)->zz0->(List (List UInt8))->(List Int)->kz4->(List (List UInt8))->(List Bool)->Option Int
 |0,_,_,_,_,_,_,_,_,_,_,_,_,_,_,_=>none
 |n+1,a0,a1,a2,a3,a4,a5,a6,a7,a8,a9,a10,a11,a12,a13,a14 =>
  y8c (List.zip a7 a8) (λk8 v9 r10 =>
   z5x n a0 (mks (List.zip a1 a2)) (mvs (List.zip a1 a2)) a3 a4 a5 a6 (mks r10) (mvs r10) a9 (mks (List.zip a10 a11)) (mvs (List.zip a10 a11)) a12 (mks (z90 (List.zip a13 a14) k8 true)) (mvs (z90 (List.zip a13 a14) k8 true)))
   (z3x n 0 a12.params a0 (mks (List.zip a1 a2)) (mvs (List.zip a1 a2)) a3 a4 a5 a6 (a12.params.length:Int) a9 (mks (List.zip a10 a11)) (mvs (List.zip a10 a11)) a12 (mks (List.zip a13 a14)) (mvs (List.zip a13 a14)))
noncomputable def z3x:Nat->Int->(List (List UInt8))->Bool->(List (List UInt8))->(List Bool)->(List kz4)->Int->Int->Bool->Int->zz0->(List (List UInt8))->(List Int)->kz4->(List (List UInt8))->(List Bool)->Option Int
 |0,_,_,_,_,_,_,_,_,_,_,_,_,_,_,_,_=>none
 |n+1,a0,a1,a2,a3,a4,a5,a6,a7,a8,a9,a10,a11,a12,a13,a14,a15 =>
  pIf (decide (a0<a9))
   ((ix a1 a0).bind λx11 =>
   z3x n (IntKind.i64.wrap (a0+1)) a1 a2 (mks (List.zip a3 a4)) (mvs (List.zip a3 a4)) a5 a6 a7 a8 a9 a10 (mks (List.zip a11 a12)) (mvs (List.zip a11 a12)) a13 (mks (z90 (List.zip a14 a15) x11 true)) (mvs (z90 (List.zip a14 a15) x11 true)))
   (pIf a8
     (z69 n a2 true (mks (List.zip a3 a4)) (mvs (List.zip a3 a4)) a5 a6 a7 a10 (mks (List.zip a11 a12)) (mvs (List.zip a11 a12)) a13)
     ((zdy n a13).bind λy12 =>
     (kzj n y12 (mks (List.zip a14 a15)) (mvs (List.zip a14 a15))).bind λy13 =>
     z69 n a2 y13.1 (mks (List.zip a3 a4)) (mvs (List.zip a3 a4)) a5 a6 a7 a10 (mks (List.zip a11 a12)) (mvs (List.zip a11 a12)) a13))
noncomputable def z69:Nat->Bool->Bool->(List (List UInt8))->(List Bool)->(List kz4)->Int->Int->zz0->(List (List UInt8))->(List Int)->kz4->Option Int
 |0,_,_,_,_,_,_,_,_,_,_,_=>none
 |n+1,a0,a1,a2,a3,a4,a5,a6,a7,a8,a9,a10 =>
  (zbt n a10).bind λy14 =>
  z6f n 0 a0 a1 y14 (mks (List.zip a2 a3)) (mvs (List.zip a2 a3)) a4 a5 a6 (y14.length:Int) a7 (mks (List.zip a8 a9)) (mvs (List.zip a8 a9))
noncomputable def z6f:Nat->Int->Bool->Bool->(List zzq)->(List (List UInt8))->(List Bool)->(List kz4)->Int->Int->Int->zz0->(List (List UInt8))->(List Int)->Option Int
 |0,_,_,_,_,_,_,_,_,_,_,_,_,_=>none
 |n+1,a0,a1,a2,a3,a4,a5,a6,a7,a8,a9,a10,a11,a12 =>
  pIf (decide (a0<a9))
   ((ix a3 a0).bind λx15 =>
   pIf a2
    (z4l n true a3 (mks (List.zip a4 a5)) (mvs (List.zip a4 a5)) a6 a7 a8 a9 a0 (Option.getD (z3k (List.zip a11 a12) x15.name) 0) (Option.isSome (z3k (List.zip a11 a12) x15.name)) a1 a10 (mks (List.zip a11 a12)) (mvs (List.zip a11 a12)) x15)
    (z4l n (!(Option.isSome (z3k (List.zip a11 a12) x15.name))) a3 (mks (List.zip a4 a5)) (mvs (List.zip a4 a5)) a6 a7 a8 a9 a0 (Option.getD (z3k (List.zip a11 a12) x15.name) 0) (Option.isSome (z3k (List.zip a11 a12) x15.name)) a1 a10 (mks (List.zip a11 a12)) (mvs (List.zip a11 a12)) x15))
   (z3r n a1 (IntKind.i64.wrap (a8+1)) a2 (mks (List.zip a4 a5)) (mvs (List.zip a4 a5)) a6 a7 a10 (mks (List.zip a11 a12)) (mvs (List.zip a11 a12)))
noncomputable def z4l:Nat->Bool->(List zzq)->(List (List UInt8))->(List Bool)->(List kz4)->Int->Int->Int->Int->Int->Bool->Bool->zz0->(List (List UInt8))->(List Int)->zzq->Option Int
 |0,_,_,_,_,_,_,_,_,_,_,_,_,_,_,_,_=>none
 |n+1,a0,a1,a2,a3,a4,a5,a6,a7,a8,a9,a10,a11,a12,a13,a14,a15 =>
  pIf a11
   (z2v n true a0 a1 (mks (List.zip a2 a3)) (mvs (List.zip a2 a3)) a4 a5 a6 a7 a8 a12 (mks (List.zip a13 a14)) (mvs (List.zip a13 a14)))
   (pIf a10
     ((ix a12.rules a9).bind λx16 =>
     z2v n (a15.many != (x16.params.length:Int)) a0 a1 (mks (List.zip a2 a3)) (mvs (List.zip a2 a3)) a4 a5 a6 a7 a8 a12 (mks (List.zip a13 a14)) (mvs (List.zip a13 a14)))
     (z2v n false a0 a1 (mks (List.zip a2 a3)) (mvs (List.zip a2 a3)) a4 a5 a6 a7 a8 a12 (mks (List.zip a13 a14)) (mvs (List.zip a13 a14))))
noncomputable def z2v:Nat->Bool->Bool->(List zzq)->(List (List UInt8))->(List Bool)->(List kz4)->Int->Int->Int->Int->zz0->(List (List UInt8))->(List Int)->Option Int
 |0,_,_,_,_,_,_,_,_,_,_,_,_,_=>none
 |n+1,a0,a1,a2,a3,a4,a5,a6,a7,a8,a9,a10,a11,a12 =>
  z6f n (IntKind.i64.wrap (a9+1)) a0 a1 a2 (mks (List.zip a3 a4)) (mvs (List.zip a3 a4)) a5 a6 a7 a8 a10 (mks (List.zip a11 a12)) (mvs (List.zip a11 a12))
end
def ym1:LSh:=⟨[(2,(.d (.int .i64)))],[],0,170⟩
noncomputable def zdm:FI dat:=FI.of dat 31 170 0 [(.d (.st 8))] [] [(.d (.int .i64))] [] true ym1 (R:=Int) (λx=>x.1) (λr=>(r,())) (λn x=>z9d n x.1)
 (λn=>[(0,⟨⟨[(35,(.d (.int .i64))),(3,(.map 0)),(5,(.d .bool)),(33,(.d (.sl (.st 3)))),(4,(.map 1)),(1,(.ptr 2 0)),(34,(.d (.int .i64)))],[(.mp 55 .bool),(.mp 106 (.int .i64)),(.st 8)],0,170⟩,λx=>z6v n x.1 x.2.1 x.2.2.1 x.2.2.2.1 x.2.2.2.2.1 x.2.2.2.2.2.1 x.2.2.2.2.2.2.1 x.2.2.2.2.2.2.2.1 x.2.2.2.2.2.2.2.2.1⟩),(1,⟨⟨[(3,(.map 0)),(5,(.d .bool)),(33,(.d (.sl (.st 3)))),(4,(.map 1)),(1,(.ptr 2 0)),(34,(.d (.int .i64))),(35,(.d (.int .i64))),(7,(.ptr 3 0))],[(.mp 55 .bool),(.mp 106 (.int .i64)),(.st 8),(.st 3)],0,170⟩,λx=>z5z n x.1 x.2.1 x.2.2.1 x.2.2.2.1 x.2.2.2.2.1 x.2.2.2.2.2.1 x.2.2.2.2.2.2.1 x.2.2.2.2.2.2.2.1 x.2.2.2.2.2.2.2.2.1 x.2.2.2.2.2.2.2.2.2.1⟩),(2,⟨⟨[(3,(.map 0)),(57,(.d (.int .i64))),(4,(.map 1)),(55,(.d (.sl (.st 7)))),(1,(.ptr 2 0)),(5,(.d .bool)),(56,(.d (.int .i64)))],[(.mp 55 .bool),(.mp 106 (.int .i64)),(.st 8)],0,170⟩,λx=>z73 n x.1 x.2.1 x.2.2.1 x.2.2.2.1 x.2.2.2.2.1 x.2.2.2.2.2.1 x.2.2.2.2.2.2.1 x.2.2.2.2.2.2.2.1 x.2.2.2.2.2.2.2.2.1⟩),(3,⟨⟨[(77,(.d (.int .i64))),(9,(.ptr 0 0)),(3,(.map 1)),(75,(.d (.sl .str))),(4,(.map 2)),(55,(.d (.sl (.st 7)))),(1,(.ptr 3 0)),(5,(.d .bool)),(56,(.d (.int .i64))),(57,(.d (.int .i64))),(76,(.d (.int .i64)))],[(.st 7),(.mp 55 .bool),(.mp 106 (.int .i64)),(.st 8)],0,170⟩,λx=>z6b n x.1 x.2.1 x.2.2.1 x.2.2.2.1 x.2.2.2.2.1 x.2.2.2.2.2.1 x.2.2.2.2.2.2.1 x.2.2.2.2.2.2.2.1 x.2.2.2.2.2.2.2.2.1 x.2.2.2.2.2.2.2.2.2.1 x.2.2.2.2.2.2.2.2.2.2.1 x.2.2.2.2.2.2.2.2.2.2.2.1 x.2.2.2.2.2.2.2.2.2.2.2.2.1⟩),(4,⟨⟨[(9,(.ptr 0 0)),(3,(.map 1)),(75,(.d (.sl .str))),(4,(.map 2)),(55,(.d (.sl (.st 7)))),(1,(.ptr 3 0)),(5,(.d .bool)),(56,(.d (.int .i64))),(57,(.d (.int .i64))),(76,(.d (.int .i64))),(77,(.d (.int .i64))),(92,(.d .bool))],[(.st 7),(.mp 55 .bool),(.mp 106 (.int .i64)),(.st 8)],0,170⟩,λx=>z6t n x.1 x.2.1 x.2.2.1 x.2.2.2.1 x.2.2.2.2.1 x.2.2.2.2.2.1 x.2.2.2.2.2.2.1 x.2.2.2.2.2.2.2.1 x.2.2.2.2.2.2.2.2.1 x.2.2.2.2.2.2.2.2.2.1 x.2.2.2.2.2.2.2.2.2.2.1 x.2.2.2.2.2.2.2.2.2.2.2.1 x.2.2.2.2.2.2.2.2.2.2.2.2.1 x.2.2.2.2.2.2.2.2.2.2.2.2.2.1⟩),(5,⟨⟨[(1,(.ptr 0 0)),(14,(.d .bool)),(4,(.map 1)),(98,(.d (.int .i64))),(5,(.d .bool)),(3,(.mc .bool)),(96,(.d (.sl (.st 7)))),(97,(.d (.int .i64)))],[(.st 8),(.mp 106 (.int .i64))],0,170⟩,λx=>z3r n x.1 x.2.1 x.2.2.1 x.2.2.2.1 x.2.2.2.2.1 x.2.2.2.2.2.1 x.2.2.2.2.2.2.1 x.2.2.2.2.2.2.2.1 x.2.2.2.2.2.2.2.2.1 x.2.2.2.2.2.2.2.2.2.1⟩),(6,⟨⟨[(17,(.ptr 0 0)),(105,(.ptr 1 0)),(1,(.ptr 2 0)),(14,(.d .bool)),(4,(.map 3)),(3,(.mc .bool)),(96,(.d (.sl (.st 7)))),(97,(.d (.int .i64))),(98,(.d (.int .i64))),(16,(.ptr 4 0)),(5,(.d .bool))],[(.cells [(.map 5)]),(.mit .bool),(.st 8),(.mp 106 (.int .i64)),(.st 7),(.mp 55 .bool)],0,170⟩,λx=>z5x n x.1 x.2.1 x.2.2.1 x.2.2.2.1 x.2.2.2.2.1 x.2.2.2.2.2.1 x.2.2.2.2.2.2.1 x.2.2.2.2.2.2.2.1 x.2.2.2.2.2.2.2.2.1 x.2.2.2.2.2.2.2.2.2.1 x.2.2.2.2.2.2.2.2.2.2.1 x.2.2.2.2.2.2.2.2.2.2.2.1 x.2.2.2.2.2.2.2.2.2.2.2.2.1 x.2.2.2.2.2.2.2.2.2.2.2.2.2.1 x.2.2.2.2.2.2.2.2.2.2.2.2.2.2.1⟩),(7,⟨⟨[(115,(.d (.int .i64))),(17,(.ptr 0 0)),(113,(.d (.sl .str))),(1,(.ptr 1 0)),(14,(.d .bool)),(4,(.map 2)),(3,(.mc .bool)),(96,(.d (.sl (.st 7)))),(97,(.d (.int .i64))),(98,(.d (.int .i64))),(16,(.ptr 3 0)),(5,(.d .bool)),(114,(.d (.int .i64)))],[(.cells [(.map 4)]),(.st 8),(.mp 106 (.int .i64)),(.st 7),(.mp 55 .bool)],0,170⟩,λx=>z3x n x.1 x.2.1 x.2.2.1 x.2.2.2.1 x.2.2.2.2.1 x.2.2.2.2.2.1 x.2.2.2.2.2.2.1 x.2.2.2.2.2.2.2.1 x.2.2.2.2.2.2.2.2.1 x.2.2.2.2.2.2.2.2.2.1 x.2.2.2.2.2.2.2.2.2.2.1 x.2.2.2.2.2.2.2.2.2.2.2.1 x.2.2.2.2.2.2.2.2.2.2.2.2.1 x.2.2.2.2.2.2.2.2.2.2.2.2.2.1 x.2.2.2.2.2.2.2.2.2.2.2.2.2.2.1 x.2.2.2.2.2.2.2.2.2.2.2.2.2.2.2.1⟩),(8,⟨⟨[(1,(.ptr 0 0)),(14,(.d .bool)),(5,(.d .bool)),(4,(.map 1)),(3,(.mc .bool)),(96,(.d (.sl (.st 7)))),(97,(.d (.int .i64))),(98,(.d (.int .i64))),(16,(.ptr 2 0))],[(.st 8),(.mp 106 (.int .i64)),(.st 7)],0,170⟩,λx=>z69 n x.1 x.2.1 x.2.2.1 x.2.2.2.1 x.2.2.2.2.1 x.2.2.2.2.2.1 x.2.2.2.2.2.2.1 x.2.2.2.2.2.2.2.1 x.2.2.2.2.2.2.2.2.1 x.2.2.2.2.2.2.2.2.2.1 x.2.2.2.2.2.2.2.2.2.2.1⟩),(9,⟨⟨[(132,(.d (.int .i64))),(1,(.ptr 0 0)),(14,(.d .bool)),(5,(.d .bool)),(4,(.map 1)),(130,(.d (.sl (.st 9)))),(3,(.mc .bool)),(96,(.d (.sl (.st 7)))),(97,(.d (.int .i64))),(98,(.d (.int .i64))),(131,(.d (.int .i64)))],[(.st 8),(.mp 106 (.int .i64))],0,170⟩,λx=>z6f n x.1 x.2.1 x.2.2.1 x.2.2.2.1 x.2.2.2.2.1 x.2.2.2.2.2.1 x.2.2.2.2.2.2.1 x.2.2.2.2.2.2.2.1 x.2.2.2.2.2.2.2.2.1 x.2.2.2.2.2.2.2.2.2.1 x.2.2.2.2.2.2.2.2.2.2.1 x.2.2.2.2.2.2.2.2.2.2.2.1 x.2.2.2.2.2.2.2.2.2.2.2.2.1⟩),(10,⟨⟨[(1,(.ptr 0 0)),(5,(.d .bool)),(4,(.map 1)),(130,(.d (.sl (.st 9)))),(3,(.mc .bool)),(96,(.d (.sl (.st 7)))),(97,(.d (.int .i64))),(98,(.d (.int .i64))),(131,(.d (.int .i64))),(132,(.d (.int .i64))),(23,(.d (.int .i64))),(22,(.ptr 2 0)),(24,(.d .bool)),(14,(.d .bool))],[(.st 8),(.mp 106 (.int .i64)),(.st 9)],0,170⟩,λx=>z4l n x.1 x.2.1 x.2.2.1 x.2.2.2.1 x.2.2.2.2.1 x.2.2.2.2.2.1 x.2.2.2.2.2.2.1 x.2.2.2.2.2.2.2.1 x.2.2.2.2.2.2.2.2.1 x.2.2.2.2.2.2.2.2.2.1 x.2.2.2.2.2.2.2.2.2.2.1 x.2.2.2.2.2.2.2.2.2.2.2.1 x.2.2.2.2.2.2.2.2.2.2.2.2.1 x.2.2.2.2.2.2.2.2.2.2.2.2.2.1 x.2.2.2.2.2.2.2.2.2.2.2.2.2.2.1 x.2.2.2.2.2.2.2.2.2.2.2.2.2.2.2.1⟩),(11,⟨⟨[(1,(.ptr 0 0)),(14,(.d .bool)),(5,(.d .bool)),(4,(.map 1)),(130,(.d (.sl (.st 9)))),(3,(.mc .bool)),(96,(.d (.sl (.st 7)))),(97,(.d (.int .i64))),(98,(.d (.int .i64))),(131,(.d (.int .i64))),(132,(.d (.int .i64)))],[(.st 8),(.mp 106 (.int .i64))],0,170⟩,λx=>z2v n x.1 x.2.1 x.2.2.1 x.2.2.2.1 x.2.2.2.2.1 x.2.2.2.2.2.1 x.2.2.2.2.2.2.1 x.2.2.2.2.2.2.2.1 x.2.2.2.2.2.2.2.2.1 x.2.2.2.2.2.2.2.2.2.1 x.2.2.2.2.2.2.2.2.2.2.1 x.2.2.2.2.2.2.2.2.2.2.2.1 x.2.2.2.2.2.2.2.2.2.2.2.2.1⟩)]) (ann [(26,0),(39,1),(53,2),(79,3),(92,4),(105,5),(122,6),(137,7),(152,8),(155,9),(170,10),(171,11)] (Tryz.f31.body.getD .skip) 0).1
noncomputable def yid:List (FI dat):=[zfk,zzt,zly,zhh,kzx,zk9,zds]
theorem yk6:(zdm).Good Tryz.prog dat (tb yid):=FI.yz4 (hD:=zz2 _) Tryz.func31 Tryz.ntmps31 Tryz.call31 (by kernel_rfl) (of_decide_eq_true (by kernel_rfl)) (by kernel_rfl) (λn=>by kernel_rfl) (λx=>by kernel_rfl) (λ_=>rfl) ⟨λ_=>rfl,λ_=>rfl,λ_=>rfl,λ_=>rfl,λ_=>rfl,λ_=>rfl,λ_=>rfl,λ_=>rfl,λ_=>rfl,λ_=>rfl,λ_=>rfl,λ_=>rfl,trivial⟩
 (λn=>λx=>(z9d.eq_2 x.1 n).trans (by kernel_rfl))
 (λn=>⟨λx=>(z6v.eq_2 x.1 x.2.1 x.2.2.1 x.2.2.2.1 x.2.2.2.2.1 x.2.2.2.2.2.1 x.2.2.2.2.2.2.1 x.2.2.2.2.2.2.2.1 x.2.2.2.2.2.2.2.2.1 n).trans (by kernel_rfl),
  λx=>(z5z.eq_2 x.1 x.2.1 x.2.2.1 x.2.2.2.1 x.2.2.2.2.1 x.2.2.2.2.2.1 x.2.2.2.2.2.2.1 x.2.2.2.2.2.2.2.1 x.2.2.2.2.2.2.2.2.1 x.2.2.2.2.2.2.2.2.2.1 n).trans (by kernel_rfl),
  λx=>(z73.eq_2 x.1 x.2.1 x.2.2.1 x.2.2.2.1 x.2.2.2.2.1 x.2.2.2.2.2.1 x.2.2.2.2.2.2.1 x.2.2.2.2.2.2.2.1 x.2.2.2.2.2.2.2.2.1 n).trans (by kernel_rfl),
  λx=>(z6b.eq_2 x.1 x.2.1 x.2.2.1 x.2.2.2.1 x.2.2.2.2.1 x.2.2.2.2.2.1 x.2.2.2.2.2.2.1 x.2.2.2.2.2.2.2.1 x.2.2.2.2.2.2.2.2.1 x.2.2.2.2.2.2.2.2.2.1 x.2.2.2.2.2.2.2.2.2.2.1 x.2.2.2.2.2.2.2.2.2.2.2.1 x.2.2.2.2.2.2.2.2.2.2.2.2.1 n).trans (by kernel_rfl),
  λx=>(z6t.eq_2 x.1 x.2.1 x.2.2.1 x.2.2.2.1 x.2.2.2.2.1 x.2.2.2.2.2.1 x.2.2.2.2.2.2.1 x.2.2.2.2.2.2.2.1 x.2.2.2.2.2.2.2.2.1 x.2.2.2.2.2.2.2.2.2.1 x.2.2.2.2.2.2.2.2.2.2.1 x.2.2.2.2.2.2.2.2.2.2.2.1 x.2.2.2.2.2.2.2.2.2.2.2.2.1 x.2.2.2.2.2.2.2.2.2.2.2.2.2.1 n).trans (by kernel_rfl),
  λx=>(z3r.eq_2 x.1 x.2.1 x.2.2.1 x.2.2.2.1 x.2.2.2.2.1 x.2.2.2.2.2.1 x.2.2.2.2.2.2.1 x.2.2.2.2.2.2.2.1 x.2.2.2.2.2.2.2.2.1 x.2.2.2.2.2.2.2.2.2.1 n).trans (by kernel_rfl),
  λx=>(z5x.eq_2 x.1 x.2.1 x.2.2.1 x.2.2.2.1 x.2.2.2.2.1 x.2.2.2.2.2.1 x.2.2.2.2.2.2.1 x.2.2.2.2.2.2.2.1 x.2.2.2.2.2.2.2.2.1 x.2.2.2.2.2.2.2.2.2.1 x.2.2.2.2.2.2.2.2.2.2.1 x.2.2.2.2.2.2.2.2.2.2.2.1 x.2.2.2.2.2.2.2.2.2.2.2.2.1 x.2.2.2.2.2.2.2.2.2.2.2.2.2.1 x.2.2.2.2.2.2.2.2.2.2.2.2.2.2.1 n).trans (by kernel_rfl),
  λx=>(z3x.eq_2 x.1 x.2.1 x.2.2.1 x.2.2.2.1 x.2.2.2.2.1 x.2.2.2.2.2.1 x.2.2.2.2.2.2.1 x.2.2.2.2.2.2.2.1 x.2.2.2.2.2.2.2.2.1 x.2.2.2.2.2.2.2.2.2.1 x.2.2.2.2.2.2.2.2.2.2.1 x.2.2.2.2.2.2.2.2.2.2.2.1 x.2.2.2.2.2.2.2.2.2.2.2.2.1 x.2.2.2.2.2.2.2.2.2.2.2.2.2.1 x.2.2.2.2.2.2.2.2.2.2.2.2.2.2.1 x.2.2.2.2.2.2.2.2.2.2.2.2.2.2.2.1 n).trans (by kernel_rfl),
  λx=>(z69.eq_2 x.1 x.2.1 x.2.2.1 x.2.2.2.1 x.2.2.2.2.1 x.2.2.2.2.2.1 x.2.2.2.2.2.2.1 x.2.2.2.2.2.2.2.1 x.2.2.2.2.2.2.2.2.1 x.2.2.2.2.2.2.2.2.2.1 x.2.2.2.2.2.2.2.2.2.2.1 n).trans (by kernel_rfl),
  λx=>(z6f.eq_2 x.1 x.2.1 x.2.2.1 x.2.2.2.1 x.2.2.2.2.1 x.2.2.2.2.2.1 x.2.2.2.2.2.2.1 x.2.2.2.2.2.2.2.1 x.2.2.2.2.2.2.2.2.1 x.2.2.2.2.2.2.2.2.2.1 x.2.2.2.2.2.2.2.2.2.2.1 x.2.2.2.2.2.2.2.2.2.2.2.1 x.2.2.2.2.2.2.2.2.2.2.2.2.1 n).trans (by kernel_rfl),
  λx=>(z4l.eq_2 x.1 x.2.1 x.2.2.1 x.2.2.2.1 x.2.2.2.2.1 x.2.2.2.2.2.1 x.2.2.2.2.2.2.1 x.2.2.2.2.2.2.2.1 x.2.2.2.2.2.2.2.2.1 x.2.2.2.2.2.2.2.2.2.1 x.2.2.2.2.2.2.2.2.2.2.1 x.2.2.2.2.2.2.2.2.2.2.2.1 x.2.2.2.2.2.2.2.2.2.2.2.2.1 x.2.2.2.2.2.2.2.2.2.2.2.2.2.1 x.2.2.2.2.2.2.2.2.2.2.2.2.2.2.1 x.2.2.2.2.2.2.2.2.2.2.2.2.2.2.2.1 n).trans (by kernel_rfl),
  λx=>(z2v.eq_2 x.1 x.2.1 x.2.2.1 x.2.2.2.1 x.2.2.2.2.1 x.2.2.2.2.2.1 x.2.2.2.2.2.2.1 x.2.2.2.2.2.2.2.1 x.2.2.2.2.2.2.2.2.1 x.2.2.2.2.2.2.2.2.2.1 x.2.2.2.2.2.2.2.2.2.2.1 x.2.2.2.2.2.2.2.2.2.2.2.1 x.2.2.2.2.2.2.2.2.2.2.2.2.1 n).trans (by kernel_rfl),
  trivial⟩)
 (λx=>.inl rfl)
theorem yk1:OkL Tryz.prog [zdm]:=zz6 (zz2 _) (bs:=[zfk,zzt,zly,zhh,kzx,zk9,zds]) ⟨y0t,zgl,yh5,yau,zf2,yfs,zyj,trivial⟩ yk6
theorem zyd:FOk Tryz.prog zdm:=yk1.1
end Go.Proofs.YtahcjggdcmgpkaaGreat
namespace Go.Proofs.YtahcjggdcmgpkaaGreat
open Go Go.Ab
set_option linter.unusedVariables false
set_option maxRecDepth 100000
set_option maxHeartbeats 4000000
noncomputable def zcp:Nat->zz0->zz0->Option Int
 |0,_,_=>none
 |n+1,a0,a1 =>
  (z9d n a0).bind λy0 =>
  pIf (y0 != 0)
   (some y0)
   ((z9d n a1).bind λy1 =>
   some y1)
def yvd:LSh:=⟨[(4,(.d (.int .i64)))],[],0,13⟩
noncomputable def zd2:FI dat:=FI.of dat 14 13 0 [(.d (.st 8)),(.d (.st 8))] [] [(.d (.int .i64))] [] true yvd (R:=Int) (λx=>x.1) (λr=>(r,())) (λn x=>zcp n x.1 x.2.1)
 (λn=>[]) (ann [] (Tryz.f14.body.getD .skip) 0).1
noncomputable def yvv:List (FI dat):=[zdm]
theorem yw8:(zd2).Good Tryz.prog dat (tb yvv):=FI.yz4 (hD:=zz2 _) Tryz.func14 Tryz.ntmps14 Tryz.call14 (by kernel_rfl) (of_decide_eq_true (by kernel_rfl)) (by kernel_rfl) (λn=>by kernel_rfl) (λx=>by kernel_rfl) (λ_=>rfl) trivial
 (λn=>λx=>(zcp.eq_2 x.1 x.2.1 n).trans (by kernel_rfl))
 (λn=>trivial)
 (λx=>.inl rfl)
theorem yub:OkL Tryz.prog [zd2]:=zz6 (zz2 _) (bs:=[zdm]) ⟨zyd,trivial⟩ yw8
theorem zwr:FOk Tryz.prog zd2:=yub.1
mutual
def z9v:Nat->zz0->Option ((List (List UInt8))×(List zz1))
 |0,_=>none
 |n+1,a0 =>
  z4w n 0 a0.attrs (a0.attrs.length:Int) [] []
def z4w:Nat->Int->(List kz6)->Int->(List (List UInt8))->(List zz1)->Option ((List (List UInt8))×(List zz1))
 |0,_,_,_,_,_=>none
 |n+1,a0,a1,a2,a3,a4 =>
  pIf (decide (a0<a2))
   ((ix a1 a0).bind λx0 =>
   z4w n (IntKind.i64.wrap (a0+1)) a1 a2 (mks (z90 (List.zip a3 a4) x0.name x0.value.re)) (mvs (z90 (List.zip a3 a4) x0.name x0.value.re)))
   (some ((mks (List.zip a3 a4)),(mvs (List.zip a3 a4))))
end
def ycb:LSh:=⟨[(2,(.map 0))],[(.mp 79 (.st 2))],0,21⟩
noncomputable def zhd:FI dat:=FI.of dat 34 21 0 [(.d (.st 8))] [] [(.map 0)] [(.mp 79 (.st 2))] false ycb (R:=(List (List UInt8))×(List zz1)) (λx=>(x.1,x.2.1)) (λr=>(r.1,r.2,())) (λn x=>z9v n x.1)
 (λn=>[(0,⟨⟨[(10,(.d (.int .i64))),(3,(.map 0)),(8,(.d (.sl (.st 3)))),(9,(.d (.int .i64)))],[(.mp 79 (.st 2))],0,21⟩,λx=>z4w n x.1 x.2.1 x.2.2.1 x.2.2.2.1 x.2.2.2.2.1⟩)]) (ann [(8,0)] (Tryz.f34.body.getD .skip) 0).1
noncomputable def yez:List (FI dat):=[]
theorem yef:(zhd).Good Tryz.prog dat (tb yez):=FI.yz4 (hD:=zz2 _) Tryz.func34 Tryz.ntmps34 Tryz.call34 (by kernel_rfl) (of_decide_eq_true (by kernel_rfl)) (by kernel_rfl) (λn=>by kernel_rfl) (λx=>by kernel_rfl) (λ_=>rfl) ⟨λ_=>rfl,trivial⟩
 (λn=>λx=>(z9v.eq_2 x.1 n).trans (by kernel_rfl))
 (λn=>⟨λx=>(z4w.eq_2 x.1 x.2.1 x.2.2.1 x.2.2.2.1 x.2.2.2.2.1 n).trans (by kernel_rfl),
  trivial⟩)
 (λx=>.inr (by kernel_rfl))
theorem ygi:OkL Tryz.prog [zhd]:=zz6 (zz2 _) (bs:=[]) trivial yef
theorem yaf:FOk Tryz.prog zhd:=ygi.1
mutual
def yzs:Nat->(List (List kz6))->Option (Res ((List UInt8)×Unit) (List kz6))
 |0,_=>none
 |n+1,a0 =>
  kzo n 0 0 a0 a0 (a0.length:Int)
def kzo:Nat->Int->Int->(List (List kz6))->(List (List kz6))->Int->Option (Res ((List UInt8)×Unit) (List kz6))
 |0,_,_,_,_,_=>none
 |n+1,a0,a1,a2,a3,a4 =>
  pIf (decide (a0<a4))
   ((ix a2 a0).bind λx0 =>
   pIf (decide ((IntKind.i64.wrap (a1+(x0.length:Int)))<0))
    (some (Res.pan ([108,101,110,32,111,117,116,32,111,102,32,114,97,110,103,101],())))
    (kzw n (IntKind.i64.wrap (a1+(x0.length:Int))) a2 a3 a4 a0))
   ((z6r n [] a1).bind λy1 =>
   yzh n 0 a3 (a3.length:Int) y1)
def kzw:Nat->Int->(List (List kz6))->(List (List kz6))->Int->Int->Option (Res ((List UInt8)×Unit) (List kz6))
 |0,_,_,_,_,_=>none
 |n+1,a0,a1,a2,a3,a4 =>
  kzo n (IntKind.i64.wrap (a4+1)) a0 a1 a2 a3
def yzh:Nat->Int->(List (List kz6))->Int->(List kz6)->Option (Res ((List UInt8)×Unit) (List kz6))
 |0,_,_,_,_=>none
 |n+1,a0,a1,a2,a3 =>
  pIf (decide (a0<a2))
   ((ix a1 a0).bind λx2 =>
   (ext a3 x2).bind λx3 =>
   yzh n (IntKind.i64.wrap (a0+1)) a1 a2 x3)
   (some (Res.ok a3))
end
def zln:LSh:=⟨[(2,(.d (.sl (.st 3))))],[],0,36⟩
noncomputable def z0f:FI dat:=FI.ofP dat 35 36 0 [(.d (.sl (.sl (.st 3))))] [] [(.d (.sl (.st 3)))] [] (.iface 9 (.d .str)) [] [] zln (R:=List kz6) (λx=>x.1) (λr=>(r,())) (λn x=>yzs n x.1)
 (λn=>[(0,⟨⟨[(11,(.d (.int .i64))),(3,(.d (.int .i64))),(9,(.d (.sl (.sl (.st 3))))),(0,(.d (.sl (.sl (.st 3))))),(10,(.d (.int .i64)))],[],0,36⟩,λx=>kzo n x.1 x.2.1 x.2.2.1 x.2.2.2.1 x.2.2.2.2.1⟩),(1,⟨⟨[(3,(.d (.int .i64))),(9,(.d (.sl (.sl (.st 3))))),(0,(.d (.sl (.sl (.st 3))))),(10,(.d (.int .i64))),(11,(.d (.int .i64)))],[],0,36⟩,λx=>kzw n x.1 x.2.1 x.2.2.1 x.2.2.2.1 x.2.2.2.2.1⟩),(2,⟨⟨[(27,(.d (.int .i64))),(6,(.own 0)),(25,(.d (.sl (.sl (.st 3))))),(26,(.d (.int .i64)))],[(.acc 45 (.st 3) true)],0,36⟩,λx=>yzh n x.1 x.2.1 x.2.2.1 x.2.2.2.1⟩)]) (ann [(8,0),(26,1),(33,2)] (Tryz.f35.body.getD .skip) 0).1
noncomputable def zlj:List (FI dat):=[z7j]
theorem zlr:(z0f).Good Tryz.prog dat (tb zlj):=FI.zo4 (hD:=zz2 _) Tryz.func35 Tryz.ntmps35 Tryz.call35 (by kernel_rfl) (of_decide_eq_true (by kernel_rfl)) (by kernel_rfl) (λn=>by kernel_rfl) trivial (λx=>by kernel_rfl) (λ_=>rfl) ⟨λ_=>rfl,λ_=>rfl,λ_=>rfl,trivial⟩
 (λn=>λx=>(yzs.eq_2 x.1 n).trans (by kernel_rfl))
 (λn=>⟨λx=>(kzo.eq_2 x.1 x.2.1 x.2.2.1 x.2.2.2.1 x.2.2.2.2.1 n).trans (by kernel_rfl),
  λx=>(kzw.eq_2 x.1 x.2.1 x.2.2.1 x.2.2.2.1 x.2.2.2.2.1 n).trans (by kernel_rfl),
  λx=>(yzh.eq_2 x.1 x.2.1 x.2.2.1 x.2.2.2.1 n).trans (by kernel_rfl),
  trivial⟩)
 (λx=>by kernel_rfl)
theorem zli:OkL Tryz.prog [z0f]:=zz6 (zz2 _) (bs:=[z7j]) ⟨zmy,trivial⟩ zlr
theorem zkt:FOk Tryz.prog z0f:=zli.1
mutual
def z4f:Nat->zz1->zz1->Option Bool
 |0,_,_=>none
 |n+1,a0,a1 =>
  pIf (a0.op==a1.op)
   (pIf (a0.name==a1.name)
     ((z4a n a0.value.re a1.value.re).bind λy0 =>
     pIf y0
      ((yz9 n a0.args a1.args).bind λy1 =>
      some y1)
      (some false))
     (some false))
   (some false)
def yz9:Nat->(List zz1)->(List zz1)->Option Bool
 |0,_,_=>none
 |n+1,a0,a1 =>
  pIf ((a0.length:Int) != (a1.length:Int))
   (some false)
   (zz8 n 0 a1 a0 (a0.length:Int))
def zz8:Nat->Int->(List zz1)->(List zz1)->Int->Option Bool
 |0,_,_,_,_=>none
 |n+1,a0,a1,a2,a3 =>
  pIf (decide (a0<a3))
   ((ix a2 a0).bind λx0 =>
   (ix a1 a0).bind λx1 =>
   (z4f n x0.re x1.re).bind λy2 =>
   pIf (!y2)
    (some false)
    (zz8 n (IntKind.i64.wrap (a0+1)) a1 a2 a3))
   (some true)
end
def yx3:LSh:=⟨[(4,(.d .bool))],[],0,31⟩
noncomputable def zba:FI dat:=FI.of dat 36 31 0 [(.d (.st 2)),(.d (.st 2))] [] [(.d .bool)] [] true yx3 (R:=Bool) (λx=>x.1) (λr=>(r,())) (λn x=>z4f n x.1 x.2.1)
 (λn=>[]) (ann [] (Tryz.f36.body.getD .skip) 0).1
def zam:LSh:=⟨[(6,(.d .bool))],[],0,32⟩
noncomputable def kz9:FI dat:=FI.of dat 67 32 0 [(.d (.sl (.st 2))),(.d (.sl (.st 2))),(.fn 36 [] [])] [] [(.d .bool)] [] true zam (R:=Bool) (λx=>x.1) (λr=>(r,())) (λn x=>yz9 n x.1 x.2.1)
 (λn=>[(0,⟨⟨[(17,(.d (.int .i64))),(2,(.fn 36 [] [])),(1,(.d (.sl (.st 2)))),(15,(.d (.sl (.st 2)))),(16,(.d (.int .i64)))],[],0,32⟩,λx=>zz8 n x.1 x.2.1 x.2.2.1 x.2.2.2.1⟩)]) (ann [(14,0)] (Tryz.f67.body.getD .skip) 0).1
noncomputable def y8h:List (FI dat):=[zba,kz9]++[zcl]
theorem yuf:(zba).Good Tryz.prog dat (tb y8h):=FI.yz4 (hD:=zz2 _) Tryz.func36 Tryz.ntmps36 Tryz.call36 (by kernel_rfl) (of_decide_eq_true (by kernel_rfl)) (by kernel_rfl) (λn=>by kernel_rfl) (λx=>by kernel_rfl) (λ_=>rfl) trivial
 (λn=>λx=>(z4f.eq_2 x.1 x.2.1 n).trans (by kernel_rfl))
 (λn=>trivial)
 (λx=>.inl rfl)
theorem zae:(kz9).Good Tryz.prog dat (tb y8h):=FI.yz4 (hD:=zz2 _) Tryz.func67 Tryz.ntmps67 Tryz.call67 (by kernel_rfl) (of_decide_eq_true (by kernel_rfl)) (by kernel_rfl) (λn=>by kernel_rfl) (λx=>by kernel_rfl) (λ_=>rfl) ⟨λ_=>rfl,trivial⟩
 (λn=>λx=>(yz9.eq_2 x.1 x.2.1 n).trans (by kernel_rfl))
 (λn=>⟨λx=>(zz8.eq_2 x.1 x.2.1 x.2.2.1 x.2.2.2.1 n).trans (by kernel_rfl),
  trivial⟩)
 (λx=>.inl rfl)
theorem y7v:OkL Tryz.prog [zba,kz9]:=zc5 (zz2 _) (bs:=[zcl]) ⟨y1m,trivial⟩ ⟨yuf,zae,trivial⟩
theorem zwt:FOk Tryz.prog zba:=y7v.1
theorem z9k:FOk Tryz.prog kz9:=y7v.2.1
def zef:Nat->(List UInt8)->(List (List UInt8))->(List Bool)->Option (Bool×(List (List UInt8))×(List Bool))
 |0,_,_,_=>none
 |n+1,a0,a1,a2 =>
  some ((Option.getD (z3k (List.zip a1 a2) a0) false),(mks (List.zip a1 a2)),(mvs (List.zip a1 a2)))
def yi9:LSh:=⟨[(3,(.d .bool))],[(.cells [(.map 1)]),(.mp 55 .bool)],2,7⟩
noncomputable def zka:FI dat:=FI.of dat 69 7 2 [(.d .str),(.ptr 0 0)] [(.cells [(.map 1)]),(.mp 55 .bool)] [(.d .bool)] [(.cells [(.map 1)]),(.mp 55 .bool)] false yi9 (R:=Bool×(List (List UInt8))×(List Bool)) (λx=>(x.1,x.2.1,x.2.2.1)) (λr=>(r.1,r.2.1,r.2.2,())) (λn x=>zef n x.1 x.2.1 x.2.2.1)
 (λn=>[]) (ann [] (Tryz.f69.body.getD .skip) 0).1
noncomputable def yjo:List (FI dat):=[]
theorem yk3:(zka).Good Tryz.prog dat (tb yjo):=FI.yz4 (hD:=zz2 _) Tryz.func69 Tryz.ntmps69 Tryz.call69 (by kernel_rfl) (of_decide_eq_true (by kernel_rfl)) (by kernel_rfl) (λn=>by kernel_rfl) (λx=>by kernel_rfl) (λ_=>rfl) trivial
 (λn=>λx=>(zef.eq_2 x.1 x.2.1 x.2.2.1 n).trans (by kernel_rfl))
 (λn=>trivial)
 (λx=>.inr (by kernel_rfl))
theorem yim:OkL Tryz.prog [zka]:=zz6 (zz2 _) (bs:=[]) trivial yk3
theorem yee:FOk Tryz.prog zka:=yim.1
mutual
def zzz:Nat->(List (List UInt8))->(List (List UInt8))->(List Bool)->Option (Int×(List (List UInt8))×(List Bool))
 |0,_,_,_=>none
 |n+1,a0,a1,a2 =>
  kzf n 0 a0 (a0.length:Int) (mks (List.zip a1 a2)) (mvs (List.zip a1 a2))
def kzf:Nat->Int->(List (List UInt8))->Int->(List (List UInt8))->(List Bool)->Option (Int×(List (List UInt8))×(List Bool))
 |0,_,_,_,_,_=>none
 |n+1,a0,a1,a2,a3,a4 =>
  pIf (decide (a0<a2))
   ((ix a1 a0).bind λx0 =>
   (zef n x0 (mks (List.zip a3 a4)) (mvs (List.zip a3 a4))).bind λy1 =>
   pIf y1.1
    (some (a0,(mks (List.zip y1.2.1 y1.2.2)),(mvs (List.zip y1.2.1 y1.2.2))))
    (kzf n (IntKind.i64.wrap (a0+1)) a1 a2 (mks (List.zip y1.2.1 y1.2.2)) (mvs (List.zip y1.2.1 y1.2.2))))
   (some ((-1),(mks (List.zip a3 a4)),(mvs (List.zip a3 a4))))
end
def zjw:LSh:=⟨[(4,(.d (.int .i64)))],[(.cells [(.map 1)]),(.mp 55 .bool)],2,19⟩
noncomputable def z01:FI dat:=FI.of dat 52 19 2 [(.d (.sl .str)),(.fn 69 [] [(.ptr 0 0)])] [(.cells [(.map 1)]),(.mp 55 .bool)] [(.d (.int .i64))] [(.cells [(.map 1)]),(.mp 55 .bool)] false zjw (R:=Int×(List (List UInt8))×(List Bool)) (λx=>(x.1,x.2.1,x.2.2.1)) (λr=>(r.1,r.2.1,r.2.2,())) (λn x=>zzz n x.1 x.2.1 x.2.2.1)
 (λn=>[(0,⟨⟨[(8,(.d (.int .i64))),(0,(.d (.sl .str))),(1,(.fn 69 [] [(.ptr 0 0)])),(7,(.d (.int .i64)))],[(.cells [(.map 1)]),(.mp 55 .bool)],2,19⟩,λx=>kzf n x.1 x.2.1 x.2.2.1 x.2.2.2.1 x.2.2.2.2.1⟩)]) (ann [(6,0)] (Tryz.f52.body.getD .skip) 0).1
noncomputable def zjx:List (FI dat):=[zka]
theorem zki:(z01).Good Tryz.prog dat (tb zjx):=FI.yz4 (hD:=zz2 _) Tryz.func52 Tryz.ntmps52 Tryz.call52 (by kernel_rfl) (of_decide_eq_true (by kernel_rfl)) (by kernel_rfl) (λn=>by kernel_rfl) (λx=>by kernel_rfl) (λ_=>rfl) ⟨λ_=>rfl,trivial⟩
 (λn=>λx=>(zzz.eq_2 x.1 x.2.1 x.2.2.1 n).trans (by kernel_rfl))
 (λn=>⟨λx=>(kzf.eq_2 x.1 x.2.1 x.2.2.1 x.2.2.2.1 x.2.2.2.2.1 n).trans (by kernel_rfl),
  trivial⟩)
 (λx=>.inr (by kernel_rfl))
theorem zk0:OkL Tryz.prog [z01]:=zz6 (zz2 _) (bs:=[zka]) ⟨yee,trivial⟩ zki
theorem zj9:FOk Tryz.prog z01:=zk0.1
def yzm:Nat->(List (List UInt8))->(List (List UInt8))->(List Bool)->Option (Bool×(List (List UInt8))×(List Bool))
 |0,_,_,_=>none
 |n+1,a0,a1,a2 =>
  (zzz n a0 (mks (List.zip a1 a2)) (mvs (List.zip a1 a2))).bind λy0 =>
  some ((decide (y0.1>=0)),(mks (List.zip y0.2.1 y0.2.2)),(mvs (List.zip y0.2.1 y0.2.2)))
def zi1:LSh:=⟨[(4,(.d .bool))],[(.cells [(.map 1)]),(.mp 55 .bool)],2,9⟩
noncomputable def kzu:FI dat:=FI.of dat 22 9 2 [(.d (.sl .str)),(.fn 69 [] [(.ptr 0 0)])] [(.cells [(.map 1)]),(.mp 55 .bool)] [(.d .bool)] [(.cells [(.map 1)]),(.mp 55 .bool)] false zi1 (R:=Bool×(List (List UInt8))×(List Bool)) (λx=>(x.1,x.2.1,x.2.2.1)) (λr=>(r.1,r.2.1,r.2.2,())) (λn x=>yzm n x.1 x.2.1 x.2.2.1)
 (λn=>[]) (ann [] (Tryz.f22.body.getD .skip) 0).1
noncomputable def zhz:List (FI dat):=[z01]
theorem zhb:(kzu).Good Tryz.prog dat (tb zhz):=FI.yz4 (hD:=zz2 _) Tryz.func22 Tryz.ntmps22 Tryz.call22 (by kernel_rfl) (of_decide_eq_true (by kernel_rfl)) (by kernel_rfl) (λn=>by kernel_rfl) (λx=>by kernel_rfl) (λ_=>rfl) trivial
 (λn=>λx=>(yzm.eq_2 x.1 x.2.1 x.2.2.1 n).trans (by kernel_rfl))
 (λn=>trivial)
 (λx=>.inr (by kernel_rfl))
theorem zi6:OkL Tryz.prog [kzu]:=zz6 (zz2 _) (bs:=[z01]) ⟨zj9,trivial⟩ zhb
theorem zgx:FOk Tryz.prog kzu:=zi6.1
def zcm:Nat->zz1->(List (List UInt8))->(List Bool)->Option (Bool×(List (List UInt8))×(List Bool))
 |0,_,_,_=>none
 |n+1,a0,a1,a2 =>
  (zdh n a0.re).bind λy0 =>
  (yzm n y0.1 (mks (List.zip a1 a2)) (mvs (List.zip a1 a2))).bind λy1 =>
  some (y1.1,(mks (List.zip y1.2.1 y1.2.2)),(mvs (List.zip y1.2.1 y1.2.2)))
def ywf:LSh:=⟨[(4,(.d .bool))],[(.mp 55 .bool)],1,15⟩
noncomputable def zct:FI dat:=FI.of dat 37 15 1 [(.d (.st 2)),(.map 0)] [(.mp 55 .bool)] [(.d .bool)] [(.mp 55 .bool)] false ywf (R:=Bool×(List (List UInt8))×(List Bool)) (λx=>(x.1,x.2.1,x.2.2.1)) (λr=>(r.1,r.2.1,r.2.2,())) (λn x=>zcm n x.1 x.2.1 x.2.2.1)
 (λn=>[]) (ann [] (Tryz.f37.body.getD .skip) 0).1
noncomputable def yws:List (FI dat):=[kzu,zfh]
theorem yto:(zct).Good Tryz.prog dat (tb yws):=FI.yz4 (hD:=zz2 _) Tryz.func37 Tryz.ntmps37 Tryz.call37 (by kernel_rfl) (of_decide_eq_true (by kernel_rfl)) (by kernel_rfl) (λn=>by kernel_rfl) (λx=>by kernel_rfl) (λ_=>rfl) trivial
 (λn=>λx=>(zcm.eq_2 x.1 x.2.1 x.2.2.1 n).trans (by kernel_rfl))
 (λn=>trivial)
 (λx=>.inr (by kernel_rfl))
theorem yx1:OkL Tryz.prog [zct]:=zz6 (zz2 _) (bs:=[kzu,zfh]) ⟨zgx,y0w,trivial⟩ yto
theorem zwh:FOk Tryz.prog zct:=yx1.1
mutual
def zd5:Nat->zz0->zz0->Option (Res ((List UInt8)×Unit) ((List (List UInt8))×(List Bool)))
 |0,_,_=>none
 |n+1,a0,a1 =>
  (z9v n a0).bind λy0 =>
  (z9v n a1).bind λy1 =>
  z7r n [] [] (mks (List.zip y1.1 y1.2)) (mvs (List.zip y1.1 y1.2)) (mks (List.zip y0.1 y0.2)) (mvs (List.zip y0.1 y0.2)) a1 a0
def z7r:Nat->(List (List UInt8))->(List Bool)->(List (List UInt8))->(List zz1)->(List (List UInt8))->(List zz1)->zz0->zz0->Option (Res ((List UInt8)×Unit) ((List (List UInt8))×(List Bool)))
 |0,_,_,_,_,_,_,_,_=>none
 |n+1,a0,a1,a2,a3,a4,a5,a6,a7 =>
  (yzs n [a7.attrs,a6.attrs]).bind λy2 =>
  y5u y2 (λr3 =>
   z3e n 0 r3 ((List.zip a0 a1).length:Int) (r3.length:Int) (mks (List.zip a0 a1)) (mvs (List.zip a0 a1)) (mks (List.zip a2 a3)) (mvs (List.zip a2 a3)) (mks (List.zip a4 a5)) (mvs (List.zip a4 a5)) a6 a7)
   (λe4 =>
   some (Res.pan (e4.1,())))
def z3e:Nat->Int->(List kz6)->Int->Int->(List (List UInt8))->(List Bool)->(List (List UInt8))->(List zz1)->(List (List UInt8))->(List zz1)->zz0->zz0->Option (Res ((List UInt8)×Unit) ((List (List UInt8))×(List Bool)))
 |0,_,_,_,_,_,_,_,_,_,_,_,_=>none
 |n+1,a0,a1,a2,a3,a4,a5,a6,a7,a8,a9,a10,a11 =>
  pIf (decide (a0<a3))
   ((ix a1 a0).bind λx5 =>
   pIf (!(Option.isSome (z3k (List.zip a8 a9) x5.name)))
    (z36 n a1 a2 a3 a0 true (mks (List.zip a4 a5)) (mvs (List.zip a4 a5)) (mks (List.zip a6 a7)) (mvs (List.zip a6 a7)) (mks (List.zip a8 a9)) (mvs (List.zip a8 a9)) a10 a11 x5.re)
    (pIf (!(Option.isSome (z3k (List.zip a6 a7) x5.name)))
      (z36 n a1 a2 a3 a0 true (mks (List.zip a4 a5)) (mvs (List.zip a4 a5)) (mks (List.zip a6 a7)) (mvs (List.zip a6 a7)) (mks (List.zip a8 a9)) (mvs (List.zip a8 a9)) a10 a11 x5.re)
      ((z4f n (Option.getD (z3k (List.zip a8 a9) x5.name) (zz1.mk 0 (yz2.mk 0 (zz7.mk 0 0) false [] []) [] [])).re (Option.getD (z3k (List.zip a6 a7) x5.name) (zz1.mk 0 (yz2.mk 0 (zz7.mk 0 0) false [] []) [] [])).re).bind λy6 =>
      pIf (!y6)
       (z36 n a1 a2 a3 a0 true (mks (List.zip a4 a5)) (mvs (List.zip a4 a5)) (mks (List.zip a6 a7)) (mvs (List.zip a6 a7)) (mks (List.zip a8 a9)) (mvs (List.zip a8 a9)) a10 a11 x5.re)
       ((zcm n x5.value.re (mks (List.zip a4 a5)) (mvs (List.zip a4 a5))).bind λy7 =>
       z36 n a1 a2 a3 a0 y7.1 (mks (List.zip y7.2.1 y7.2.2)) (mvs (List.zip y7.2.1 y7.2.2)) (mks (List.zip a6 a7)) (mvs (List.zip a6 a7)) (mks (List.zip a8 a9)) (mvs (List.zip a8 a9)) a10 a11 x5.re))))
   (pIf (((List.zip a4 a5).length:Int)==a2)
     (some (Res.ok ((mks (List.zip a4 a5)),(mvs (List.zip a4 a5)))))
     (z7r n (mks (List.zip a4 a5)) (mvs (List.zip a4 a5)) (mks (List.zip a6 a7)) (mvs (List.zip a6 a7)) (mks (List.zip a8 a9)) (mvs (List.zip a8 a9)) a10 a11))
def z36:Nat->(List kz6)->Int->Int->Int->Bool->(List (List UInt8))->(List Bool)->(List (List UInt8))->(List zz1)->(List (List UInt8))->(List zz1)->zz0->zz0->kz6->Option (Res ((List UInt8)×Unit) ((List (List UInt8))×(List Bool)))
 |0,_,_,_,_,_,_,_,_,_,_,_,_,_,_=>none
 |n+1,a0,a1,a2,a3,a4,a5,a6,a7,a8,a9,a10,a11,a12,a13 =>
  pIf a4
   (z7p n a0 a1 a2 a3 (mks (z90 (List.zip a5 a6) a13.name true)) (mvs (z90 (List.zip a5 a6) a13.name true)) (mks (List.zip a7 a8)) (mvs (List.zip a7 a8)) (mks (List.zip a9 a10)) (mvs (List.zip a9 a10)) a11 a12)
   (z7p n a0 a1 a2 a3 (mks (List.zip a5 a6)) (mvs (List.zip a5 a6)) (mks (List.zip a7 a8)) (mvs (List.zip a7 a8)) (mks (List.zip a9 a10)) (mvs (List.zip a9 a10)) a11 a12)
def z7p:Nat->(List kz6)->Int->Int->Int->(List (List UInt8))->(List Bool)->(List (List UInt8))->(List zz1)->(List (List UInt8))->(List zz1)->zz0->zz0->Option (Res ((List UInt8)×Unit) ((List (List UInt8))×(List Bool)))
 |0,_,_,_,_,_,_,_,_,_,_,_,_=>none
 |n+1,a0,a1,a2,a3,a4,a5,a6,a7,a8,a9,a10,a11 =>
  z3e n (IntKind.i64.wrap (a3+1)) a0 a1 a2 (mks (List.zip a4 a5)) (mvs (List.zip a4 a5)) (mks (List.zip a6 a7)) (mvs (List.zip a6 a7)) (mks (List.zip a8 a9)) (mvs (List.zip a8 a9)) a10 a11
end
def yt4:LSh:=⟨[(4,(.map 0))],[(.mp 55 .bool)],0,77⟩
noncomputable def zfd:FI dat:=FI.ofP dat 16 77 0 [(.d (.st 8)),(.d (.st 8))] [] [(.map 0)] [(.mp 55 .bool)] (.iface 9 (.d .str)) [] [] yt4 (R:=(List (List UInt8))×(List Bool)) (λx=>(x.1,x.2.1)) (λr=>(r.1,r.2,())) (λn x=>zd5 n x.1 x.2.1)
 (λn=>[(0,⟨⟨[(5,(.map 0)),(8,(.map 1)),(7,(.map 2)),(3,(.ptr 3 0)),(2,(.ptr 4 0))],[(.mp 55 .bool),(.mp 79 (.st 2)),(.mp 79 (.st 2)),(.st 8),(.st 8)],0,77⟩,λx=>z7r n x.1 x.2.1 x.2.2.1 x.2.2.2.1 x.2.2.2.2.1 x.2.2.2.2.2.1 x.2.2.2.2.2.2.1 x.2.2.2.2.2.2.2.1⟩),(1,⟨⟨[(32,(.d (.int .i64))),(5,(.map 0)),(8,(.map 1)),(7,(.map 2)),(30,(.d (.sl (.st 3)))),(3,(.ptr 3 0)),(2,(.ptr 4 0)),(9,(.d (.int .i64))),(31,(.d (.int .i64)))],[(.mp 55 .bool),(.mp 79 (.st 2)),(.mp 79 (.st 2)),(.st 8),(.st 8)],0,77⟩,λx=>z3e n x.1 x.2.1 x.2.2.1 x.2.2.2.1 x.2.2.2.2.1 x.2.2.2.2.2.1 x.2.2.2.2.2.2.1 x.2.2.2.2.2.2.2.1 x.2.2.2.2.2.2.2.2.1 x.2.2.2.2.2.2.2.2.2.1 x.2.2.2.2.2.2.2.2.2.2.1 x.2.2.2.2.2.2.2.2.2.2.2.1⟩),(2,⟨⟨[(5,(.map 0)),(8,(.map 1)),(7,(.map 2)),(30,(.d (.sl (.st 3)))),(3,(.ptr 3 0)),(2,(.ptr 4 0)),(9,(.d (.int .i64))),(31,(.d (.int .i64))),(32,(.d (.int .i64))),(11,(.ptr 5 0)),(67,(.d .bool))],[(.mp 55 .bool),(.mp 79 (.st 2)),(.mp 79 (.st 2)),(.st 8),(.st 8),(.st 3)],0,77⟩,λx=>z36 n x.1 x.2.1 x.2.2.1 x.2.2.2.1 x.2.2.2.2.1 x.2.2.2.2.2.1 x.2.2.2.2.2.2.1 x.2.2.2.2.2.2.2.1 x.2.2.2.2.2.2.2.2.1 x.2.2.2.2.2.2.2.2.2.1 x.2.2.2.2.2.2.2.2.2.2.1 x.2.2.2.2.2.2.2.2.2.2.2.1 x.2.2.2.2.2.2.2.2.2.2.2.2.1 x.2.2.2.2.2.2.2.2.2.2.2.2.2.1⟩),(3,⟨⟨[(5,(.map 0)),(8,(.map 1)),(7,(.map 2)),(30,(.d (.sl (.st 3)))),(3,(.ptr 3 0)),(2,(.ptr 4 0)),(9,(.d (.int .i64))),(31,(.d (.int .i64))),(32,(.d (.int .i64)))],[(.mp 55 .bool),(.mp 79 (.st 2)),(.mp 79 (.st 2)),(.st 8),(.st 8)],0,77⟩,λx=>z7p n x.1 x.2.1 x.2.2.1 x.2.2.2.1 x.2.2.2.2.1 x.2.2.2.2.2.1 x.2.2.2.2.2.2.1 x.2.2.2.2.2.2.2.1 x.2.2.2.2.2.2.2.2.1 x.2.2.2.2.2.2.2.2.2.1 x.2.2.2.2.2.2.2.2.2.2.1 x.2.2.2.2.2.2.2.2.2.2.2.1⟩)]) (ann [(9,0),(17,1),(34,2),(37,3)] (Tryz.f16.body.getD .skip) 0).1
noncomputable def yoy:List (FI dat):=[zhd,z0f,zct,zba]
theorem ysb:(zfd).Good Tryz.prog dat (tb yoy):=FI.zo4 (hD:=zz2 _) Tryz.func16 Tryz.ntmps16 Tryz.call16 (by kernel_rfl) (of_decide_eq_true (by kernel_rfl)) (by kernel_rfl) (λn=>by kernel_rfl) trivial (λx=>by kernel_rfl) (λ_=>rfl) ⟨λ_=>rfl,λ_=>rfl,λ_=>rfl,λ_=>rfl,trivial⟩
 (λn=>λx=>(zd5.eq_2 x.1 x.2.1 n).trans (by kernel_rfl))
 (λn=>⟨λx=>(z7r.eq_2 x.1 x.2.1 x.2.2.1 x.2.2.2.1 x.2.2.2.2.1 x.2.2.2.2.2.1 x.2.2.2.2.2.2.1 x.2.2.2.2.2.2.2.1 n).trans (by kernel_rfl),
  λx=>(z3e.eq_2 x.1 x.2.1 x.2.2.1 x.2.2.2.1 x.2.2.2.2.1 x.2.2.2.2.2.1 x.2.2.2.2.2.2.1 x.2.2.2.2.2.2.2.1 x.2.2.2.2.2.2.2.2.1 x.2.2.2.2.2.2.2.2.2.1 x.2.2.2.2.2.2.2.2.2.2.1 x.2.2.2.2.2.2.2.2.2.2.2.1 n).trans (by kernel_rfl),
  λx=>(z36.eq_2 x.1 x.2.1 x.2.2.1 x.2.2.2.1 x.2.2.2.2.1 x.2.2.2.2.2.1 x.2.2.2.2.2.2.1 x.2.2.2.2.2.2.2.1 x.2.2.2.2.2.2.2.2.1 x.2.2.2.2.2.2.2.2.2.1 x.2.2.2.2.2.2.2.2.2.2.1 x.2.2.2.2.2.2.2.2.2.2.2.1 x.2.2.2.2.2.2.2.2.2.2.2.2.1 x.2.2.2.2.2.2.2.2.2.2.2.2.2.1 n).trans (by kernel_rfl),
  λx=>(z7p.eq_2 x.1 x.2.1 x.2.2.1 x.2.2.2.1 x.2.2.2.2.1 x.2.2.2.2.2.1 x.2.2.2.2.2.2.1 x.2.2.2.2.2.2.2.1 x.2.2.2.2.2.2.2.2.1 x.2.2.2.2.2.2.2.2.2.1 x.2.2.2.2.2.2.2.2.2.2.1 x.2.2.2.2.2.2.2.2.2.2.2.1 n).trans (by kernel_rfl),
  trivial⟩)
 (λx=>by kernel_rfl)
theorem ytc:OkL Tryz.prog [zfd]:=zz6 (zz2 _) (bs:=[zhd,z0f,zct,zba]) ⟨yaf,zkt,zwh,zwt,trivial⟩ ysb
theorem y1l:FOk Tryz.prog zfd:=ytc.1
end Go.Proofs.YtahcjggdcmgpkaaGreat
namespace Go.Proofs.YtahcjggdcmgpkaaGreat
open Go Go.Ab
set_option linter.unusedVariables false
set_option maxRecDepth 100000
set_option maxHeartbeats 4000000
noncomputable def zdb:Nat->zz0->zz0->Option (Res ((List UInt8)×Unit) ((List (List UInt8))×Int))
 |0,_,_=>none
 |n+1,a0,a1 =>
  (zcp n a0 a1).bind λy0 =>
  pIf (y0 != 0)
   (some (Res.ok ([],y0)))
   ((zd5 n a0 a1).bind λy1 =>
   y5u y1 (λr2 =>
    (zc1 n (mks (List.zip r2.1 r2.2)) (mvs (List.zip r2.1 r2.2))).bind λy3 =>
    some (Res.ok (y3.1,0)))
    (λe4 =>
    some (Res.pan (e4.1,()))))
def ysx:LSh:=⟨[(4,(.d (.sl .str))),(5,(.d (.int .i64)))],[],0,17⟩
noncomputable def zm9:FI dat:=FI.ofP dat 5 17 0 [(.d (.st 8)),(.d (.st 8))] [] [(.d (.sl .str)),(.d (.int .i64))] [] (.iface 9 (.d .str)) [] [] ysx (R:=(List (List UInt8))×Int) (λx=>(x.1,x.2.1)) (λr=>(r.1,r.2,())) (λn x=>zdb n x.1 x.2.1)
 (λn=>[]) (ann [] (Tryz.f5.body.getD .skip) 0).1
noncomputable def yp1:List (FI dat):=[zfd,zda,zd2]
theorem ypp:(zm9).Good Tryz.prog dat (tb yp1):=FI.zo4 (hD:=zz2 _) Tryz.func5 Tryz.ntmps5 Tryz.call5 (by kernel_rfl) (of_decide_eq_true (by kernel_rfl)) (by kernel_rfl) (λn=>by kernel_rfl) trivial (λx=>by kernel_rfl) (λ_=>rfl) trivial
 (λn=>λx=>(zdb.eq_2 x.1 x.2.1 n).trans (by kernel_rfl))
 (λn=>trivial)
 (λx=>by kernel_rfl)
theorem yse:OkL Tryz.prog [zm9]:=zz6 (zz2 _) (bs:=[zfd,zda,zd2]) ⟨y1l,zrb,zwr,trivial⟩ ypp
theorem ym3:FOk Tryz.prog zm9:=yse.1
mutual
def zg0:Nat->zz0->Option Bool
 |0,_=>none
 |n+1,a0 =>
  pIf (decide ((a0.attrs.length:Int)>20))
   (z8p n true a0)
   (z8p n (decide ((a0.rules.length:Int)>40)) a0)
def z8p:Nat->Bool->zz0->Option Bool
 |0,_,_=>none
 |n+1,a0,a1 =>
  pIf a0
   (some true)
   (z5g n 0 a1)
def z5g:Nat->Int->zz0->Option Bool
 |0,_,_=>none
 |n+1,a0,a1 =>
  pIf (decide (a0<(a1.rules.length:Int)))
   ((ix a1.rules a0).bind λx0 =>
   pIf (decide ((x0.params.length:Int)>4))
    (z8e n a0 true x0 a1)
    (z8e n a0 (decide ((x0.cases.length:Int)>6)) x0 a1))
   (some false)
def z8e:Nat->Int->Bool->kz4->zz0->Option Bool
 |0,_,_,_,_=>none
 |n+1,a0,a1,a2,a3 =>
  pIf a1
   (some true)
   (z5d n 0 a0 a2 a3)
def z5d:Nat->Int->Int->kz4->zz0->Option Bool
 |0,_,_,_,_=>none
 |n+1,a0,a1,a2,a3 =>
  pIf (decide (a0<(a2.cases.length:Int)))
   ((ix a2.cases a0).bind λx1 =>
   pIf (decide ((x1.do_.length:Int)>10))
    (some true)
    (z57 n 0 a0 a1 a2 a3))
   (z5g n (IntKind.i64.wrap (a1+1)) a3)
def z57:Nat->Int->Int->Int->kz4->zz0->Option Bool
 |0,_,_,_,_,_=>none
 |n+1,a0,a1,a2,a3,a4 =>
  (ix a3.cases a1).bind λx2 =>
  pIf (decide (a0<(x2.do_.length:Int)))
   ((ix a3.cases a1).bind λx3 =>
   (ix x3.do_ a0).bind λx4 =>
   pIf (decide ((x4.items.length:Int)>10))
    (some true)
    (z57 n (IntKind.i64.wrap (a0+1)) a1 a2 a3 a4))
   (z5d n (IntKind.i64.wrap (a1+1)) a2 a3 a4)
end
def yqr:LSh:=⟨[(2,(.d .bool))],[],0,77⟩
noncomputable def zms:FI dat:=FI.of dat 70 77 0 [(.d (.st 8))] [] [(.d .bool)] [] true yqr (R:=Bool) (λx=>x.1) (λr=>(r,())) (λn x=>zg0 n x.1)
 (λn=>[(0,⟨⟨[(1,(.ptr 0 0)),(16,(.d .bool))],[(.st 8)],0,77⟩,λx=>z8p n x.1 x.2.1⟩),(1,⟨⟨[(3,(.d (.int .i64))),(1,(.ptr 0 0))],[(.st 8)],0,77⟩,λx=>z5g n x.1 x.2.1⟩),(2,⟨⟨[(4,(.ptr 0 0)),(1,(.ptr 1 0)),(3,(.d (.int .i64))),(38,(.d .bool))],[(.st 7),(.st 8)],0,77⟩,λx=>z8e n x.1 x.2.1 x.2.2.1 x.2.2.2.1⟩),(3,⟨⟨[(5,(.d (.int .i64))),(4,(.ptr 0 0)),(1,(.ptr 1 0)),(3,(.d (.int .i64)))],[(.st 7),(.st 8)],0,77⟩,λx=>z5d n x.1 x.2.1 x.2.2.1 x.2.2.2.1⟩),(4,⟨⟨[(6,(.d (.int .i64))),(5,(.d (.int .i64))),(4,(.ptr 0 0)),(1,(.ptr 1 0)),(3,(.d (.int .i64)))],[(.st 7),(.st 8)],0,77⟩,λx=>z57 n x.1 x.2.1 x.2.2.1 x.2.2.2.1 x.2.2.2.2.1⟩)]) (ann [(5,0),(14,1),(28,2),(36,3),(56,4)] (Tryz.f70.body.getD .skip) 0).1
noncomputable def yq4:List (FI dat):=[]
theorem yoa:(zms).Good Tryz.prog dat (tb yq4):=FI.yz4 (hD:=zz2 _) Tryz.func70 Tryz.ntmps70 Tryz.call70 (by kernel_rfl) (of_decide_eq_true (by kernel_rfl)) (by kernel_rfl) (λn=>by kernel_rfl) (λx=>by kernel_rfl) (λ_=>rfl) ⟨λ_=>rfl,λ_=>rfl,λ_=>rfl,λ_=>rfl,λ_=>rfl,trivial⟩
 (λn=>λx=>(zg0.eq_2 x.1 n).trans (by kernel_rfl))
 (λn=>⟨λx=>(z8p.eq_2 x.1 x.2.1 n).trans (by kernel_rfl),
  λx=>(z5g.eq_2 x.1 x.2.1 n).trans (by kernel_rfl),
  λx=>(z8e.eq_2 x.1 x.2.1 x.2.2.1 x.2.2.2.1 n).trans (by kernel_rfl),
  λx=>(z5d.eq_2 x.1 x.2.1 x.2.2.1 x.2.2.2.1 n).trans (by kernel_rfl),
  λx=>(z57.eq_2 x.1 x.2.1 x.2.2.1 x.2.2.2.1 x.2.2.2.2.1 n).trans (by kernel_rfl),
  trivial⟩)
 (λx=>.inl rfl)
theorem yq5:OkL Tryz.prog [zms]:=zz6 (zz2 _) (bs:=[]) trivial yoa
theorem yjn:FOk Tryz.prog zms:=yq5.1
def zci:Nat->Int->Option Bool
 |0,_=>none
 |n+1,a0 =>
  pIf (decide (a0>=97))
   (some (decide (a0<=122)))
   (some false)
def yfd:LSh:=⟨[(2,(.d .bool))],[],0,9⟩
noncomputable def zhs:FI dat:=FI.of dat 152 9 0 [(.d (.int .u8))] [] [(.d .bool)] [] true yfd (R:=Bool) (λx=>x.1) (λr=>(r,())) (λn x=>zci n x.1)
 (λn=>[]) (ann [] (Tryz.f152.body.getD .skip) 0).1
noncomputable def yg6:List (FI dat):=[]
theorem yfe:(zhs).Good Tryz.prog dat (tb yg6):=FI.yz4 (hD:=zz2 _) Tryz.func152 Tryz.ntmps152 Tryz.call152 (by kernel_rfl) (of_decide_eq_true (by kernel_rfl)) (by kernel_rfl) (λn=>by kernel_rfl) (λx=>by kernel_rfl) (λ_=>rfl) trivial
 (λn=>λx=>(zci.eq_2 x.1 n).trans (by kernel_rfl))
 (λn=>trivial)
 (λx=>.inl rfl)
theorem yf8:OkL Tryz.prog [zhs]:=zz6 (zz2 _) (bs:=[]) trivial yfe
theorem y9b:FOk Tryz.prog zhs:=yf8.1
def zea:Nat->Int->Option Bool
 |0,_=>none
 |n+1,a0 =>
  pIf (decide (a0>=48))
   (some (decide (a0<=57)))
   (some false)
def yhc:LSh:=⟨[(2,(.d .bool))],[],0,9⟩
noncomputable def zkj:FI dat:=FI.of dat 153 9 0 [(.d (.int .u8))] [] [(.d .bool)] [] true yhc (R:=Bool) (λx=>x.1) (λr=>(r,())) (λn x=>zea n x.1)
 (λn=>[]) (ann [] (Tryz.f153.body.getD .skip) 0).1
noncomputable def yml:List (FI dat):=[]
theorem ykv:(zkj).Good Tryz.prog dat (tb yml):=FI.yz4 (hD:=zz2 _) Tryz.func153 Tryz.ntmps153 Tryz.call153 (by kernel_rfl) (of_decide_eq_true (by kernel_rfl)) (by kernel_rfl) (λn=>by kernel_rfl) (λx=>by kernel_rfl) (λ_=>rfl) trivial
 (λn=>λx=>(zea.eq_2 x.1 n).trans (by kernel_rfl))
 (λn=>trivial)
 (λx=>.inl rfl)
theorem yjw:OkL Tryz.prog [zkj]:=zz6 (zz2 _) (bs:=[]) trivial ykv
theorem yc3:FOk Tryz.prog zkj:=yjw.1
mutual
def zd3:Nat->(List UInt8)->Option Bool
 |0,_=>none
 |n+1,a0 =>
  z13 n 0 a0
def z13:Nat->Int->(List UInt8)->Option Bool
 |0,_,_=>none
 |n+1,a0,a1 =>
  pIf (decide (a0<(a1.length:Int)))
   ((ix a1 a0).bind λx0 =>
   (zci n (x0.toNat:Int)).bind λy1 =>
   pIf (!y1)
    (pIf (a0==0)
      (z1s n a1 a0 true)
      ((ix a1 a0).bind λx2 =>
      pIf ((x2.toNat:Int) != 45)
       ((ix a1 a0).bind λx3 =>
       (zea n (x3.toNat:Int)).bind λy4 =>
       z1s n a1 a0 (!y4))
       (z1s n a1 a0 false)))
    (z1s n a1 a0 false))
   (pIf (decide ((a1.length:Int)>=1))
     (some (decide ((a1.length:Int)<=40)))
     (some false))
def z1s:Nat->(List UInt8)->Int->Bool->Option Bool
 |0,_,_,_=>none
 |n+1,a0,a1,a2 =>
  pIf a2
   (some false)
   (z13 n (IntKind.i64.wrap (a1+1)) a0)
end
def yqm:LSh:=⟨[(2,(.d .bool))],[],0,40⟩
noncomputable def zf6:FI dat:=FI.of dat 134 40 0 [(.d .str)] [] [(.d .bool)] [] true yqm (R:=Bool) (λx=>x.1) (λr=>(r,())) (λn x=>zd3 n x.1)
 (λn=>[(0,⟨⟨[(3,(.d (.int .i64))),(0,(.d .str))],[],0,40⟩,λx=>z13 n x.1 x.2.1⟩),(1,⟨⟨[(0,(.d .str)),(3,(.d (.int .i64))),(31,(.d .bool))],[],0,40⟩,λx=>z1s n x.1 x.2.1 x.2.2.1⟩)]) (ann [(6,0),(17,1)] (Tryz.f134.body.getD .skip) 0).1
noncomputable def yps:List (FI dat):=[zhs,zkj]
theorem you:(zf6).Good Tryz.prog dat (tb yps):=FI.yz4 (hD:=zz2 _) Tryz.func134 Tryz.ntmps134 Tryz.call134 (by kernel_rfl) (of_decide_eq_true (by kernel_rfl)) (by kernel_rfl) (λn=>by kernel_rfl) (λx=>by kernel_rfl) (λ_=>rfl) ⟨λ_=>rfl,λ_=>rfl,trivial⟩
 (λn=>λx=>(zd3.eq_2 x.1 n).trans (by kernel_rfl))
 (λn=>⟨λx=>(z13.eq_2 x.1 x.2.1 n).trans (by kernel_rfl),
  λx=>(z1s.eq_2 x.1 x.2.1 x.2.2.1 n).trans (by kernel_rfl),
  trivial⟩)
 (λx=>.inl rfl)
theorem yqi:OkL Tryz.prog [zf6]:=zz6 (zz2 _) (bs:=[zhs,zkj]) ⟨y9b,yc3,trivial⟩ you
theorem y0u:FOk Tryz.prog zf6:=yqi.1
def zcj:Nat->(List UInt8)->Option Bool
 |0,_=>none
 |n+1,a0 =>
  pIf (a0==[115,120])
   (some true)
   (pIf (a0==[115,121])
     (some true)
     (some (a0==[115,122])))
def ycs:LSh:=⟨[(2,(.d .bool))],[],0,13⟩
noncomputable def zhv:FI dat:=FI.of dat 135 13 0 [(.d .str)] [] [(.d .bool)] [] true ycs (R:=Bool) (λx=>x.1) (λr=>(r,())) (λn x=>zcj n x.1)
 (λn=>[]) (ann [] (Tryz.f135.body.getD .skip) 0).1
noncomputable def yd5:List (FI dat):=[]
theorem yev:(zhv).Good Tryz.prog dat (tb yd5):=FI.yz4 (hD:=zz2 _) Tryz.func135 Tryz.ntmps135 Tryz.call135 (by kernel_rfl) (of_decide_eq_true (by kernel_rfl)) (by kernel_rfl) (λn=>by kernel_rfl) (λx=>by kernel_rfl) (λ_=>rfl) trivial
 (λn=>λx=>(zcj.eq_2 x.1 n).trans (by kernel_rfl))
 (λn=>trivial)
 (λx=>.inl rfl)
theorem yfz:OkL Tryz.prog [zhv]:=zz6 (zz2 _) (bs:=[]) trivial yev
theorem y9i:FOk Tryz.prog zhv:=yfz.1
def z5o:Nat->(List UInt8)->Option Bool
 |0,_=>none
 |n+1,a0 =>
  (zd3 n a0).bind λy0 =>
  pIf y0
   (pIf (!(a0==[116,114,117,101]))
     (pIf (!(a0==[102,97,108,115,101]))
       ((zcj n a0).bind λy1 =>
       some (!y1))
       (some false))
     (some false))
   (some false)
def yo0:LSh:=⟨[(2,(.d .bool))],[],0,18⟩
noncomputable def zf7:FI dat:=FI.of dat 107 18 0 [(.d .str)] [] [(.d .bool)] [] true yo0 (R:=Bool) (λx=>x.1) (λr=>(r,())) (λn x=>z5o n x.1)
 (λn=>[]) (ann [] (Tryz.f107.body.getD .skip) 0).1
noncomputable def ys4:List (FI dat):=[zf6,zhv]
theorem yqo:(zf7).Good Tryz.prog dat (tb ys4):=FI.yz4 (hD:=zz2 _) Tryz.func107 Tryz.ntmps107 Tryz.call107 (by kernel_rfl) (of_decide_eq_true (by kernel_rfl)) (by kernel_rfl) (λn=>by kernel_rfl) (λx=>by kernel_rfl) (λ_=>rfl) trivial
 (λn=>λx=>(z5o.eq_2 x.1 n).trans (by kernel_rfl))
 (λn=>trivial)
 (λx=>.inl rfl)
theorem yrz:OkL Tryz.prog [zf7]:=zz6 (zz2 _) (bs:=[zf6,zhv]) ⟨y0u,y9i,trivial⟩ yqo
theorem y1j:FOk Tryz.prog zf7:=yrz.1
mutual
def zdc:Nat->zz1->Option Int
 |0,_=>none
 |n+1,a0 =>
  z8o n 0 1 a0.re
def z8o:Nat->Int->Int->zz1->Option Int
 |0,_,_,_=>none
 |n+1,a0,a1,a2 =>
  pIf (decide (a0<(a2.args.length:Int)))
   ((ix a2.args a0).bind λx0 =>
   (zdc n x0.re).bind λy1 =>
   z8o n (IntKind.i64.wrap (a0+1)) (mxI a1 (IntKind.i64.wrap (1+y1))) a2.re)
   (some a1)
end
def yoi:LSh:=⟨[(2,(.d (.int .i64)))],[],0,22⟩
noncomputable def zim:FI dat:=FI.of dat 136 22 0 [(.d (.st 2))] [] [(.d (.int .i64))] [] true yoi (R:=Int) (λx=>x.1) (λr=>(r,())) (λn x=>zdc n x.1)
 (λn=>[(0,⟨⟨[(4,(.d (.int .i64))),(1,(.ptr 0 0)),(3,(.d (.int .i64)))],[(.st 2)],0,22⟩,λx=>z8o n x.1 x.2.1 x.2.2.1⟩)]) (ann [(8,0)] (Tryz.f136.body.getD .skip) 0).1
noncomputable def yr5:List (FI dat):=[zim]++[]
theorem ysw:(zim).Good Tryz.prog dat (tb yr5):=FI.yz4 (hD:=zz2 _) Tryz.func136 Tryz.ntmps136 Tryz.call136 (by kernel_rfl) (of_decide_eq_true (by kernel_rfl)) (by kernel_rfl) (λn=>by kernel_rfl) (λx=>by kernel_rfl) (λ_=>rfl) ⟨λ_=>rfl,trivial⟩
 (λn=>λx=>(zdc.eq_2 x.1 n).trans (by kernel_rfl))
 (λn=>⟨λx=>(z8o.eq_2 x.1 x.2.1 x.2.2.1 n).trans (by kernel_rfl),
  trivial⟩)
 (λx=>.inl rfl)
theorem yrk:OkL Tryz.prog [zim]:=zc5 (zz2 _) (bs:=[]) trivial ⟨ysw,trivial⟩
theorem yhv:FOk Tryz.prog zim:=yrk.1
mutual
def zg8:Nat->Int->Option Int
 |0,_=>none
 |n+1,a0 =>
  pIf (a0==1)
   (zbj n a0 true)
   (zbj n a0 (a0==2))
def zbj:Nat->Int->Bool->Option Int
 |0,_,_=>none
 |n+1,a0,a1 =>
  pIf a1
   (some 0)
   (pIf (decide (a0>=3))
     (pIf (decide (a0<=10))
       (z0i n a0 true)
       (pIf (a0==13)
         (z0i n a0 true)
         (pIf (a0==14)
           (z0i n a0 true)
           (z0i n a0 (a0==17)))))
     (pIf (a0==13)
       (z0i n a0 true)
       (pIf (a0==14)
         (z0i n a0 true)
         (z0i n a0 (a0==17)))))
def z0i:Nat->Int->Bool->Option Int
 |0,_,_=>none
 |n+1,a0,a1 =>
  pIf a1
   (some 2)
   (pIf (a0==11)
     (z82 n a0 true)
     (pIf (a0==15)
       (z82 n a0 true)
       (z82 n a0 (a0==16))))
def z82:Nat->Int->Bool->Option Int
 |0,_,_=>none
 |n+1,a0,a1 =>
  pIf a1
   (some 1)
   (pIf (a0==12)
     (some 3)
     (pIf (a0==18)
       (some (-1))
       (some (-2))))
end
def yoz:LSh:=⟨[(2,(.d (.int .i64)))],[],0,46⟩
noncomputable def zma:FI dat:=FI.of dat 154 46 0 [(.d (.int .u8))] [] [(.d (.int .i64))] [] true yoz (R:=Int) (λx=>x.1) (λr=>(r,())) (λn x=>zg8 n x.1)
 (λn=>[(0,⟨⟨[(0,(.d (.int .u8))),(3,(.d .bool))],[],0,46⟩,λx=>zbj n x.1 x.2.1⟩),(1,⟨⟨[(0,(.d (.int .u8))),(10,(.d .bool))],[],0,46⟩,λx=>z0i n x.1 x.2.1⟩),(2,⟨⟨[(0,(.d (.int .u8))),(29,(.d .bool))],[],0,46⟩,λx=>z82 n x.1 x.2.1⟩)]) (ann [(6,0),(12,1),(18,2)] (Tryz.f154.body.getD .skip) 0).1
noncomputable def ypb:List (FI dat):=[]
theorem ysh:(zma).Good Tryz.prog dat (tb ypb):=FI.yz4 (hD:=zz2 _) Tryz.func154 Tryz.ntmps154 Tryz.call154 (by kernel_rfl) (of_decide_eq_true (by kernel_rfl)) (by kernel_rfl) (λn=>by kernel_rfl) (λx=>by kernel_rfl) (λ_=>rfl) ⟨λ_=>rfl,λ_=>rfl,λ_=>rfl,trivial⟩
 (λn=>λx=>(zg8.eq_2 x.1 n).trans (by kernel_rfl))
 (λn=>⟨λx=>(zbj.eq_2 x.1 x.2.1 n).trans (by kernel_rfl),
  λx=>(z0i.eq_2 x.1 x.2.1 n).trans (by kernel_rfl),
  λx=>(z82.eq_2 x.1 x.2.1 n).trans (by kernel_rfl),
  trivial⟩)
 (λx=>.inl rfl)
theorem ypa:OkL Tryz.prog [zma]:=zz6 (zz2 _) (bs:=[]) trivial ysh
theorem ygz:FOk Tryz.prog zma:=ypa.1
mutual
def zdr:Nat->yz2->Option Int
 |0,_=>none
 |n+1,a0 =>
  z84 n 0 1 a0.re
def z84:Nat->Int->Int->yz2->Option Int
 |0,_,_,_=>none
 |n+1,a0,a1,a2 =>
  pIf (decide (a0<(a2.list.length:Int)))
   (z8j n a0 a1 (a2.kind==4) a2.re)
   (z8j n a0 a1 false a2.re)
def z8j:Nat->Int->Int->Bool->yz2->Option Int
 |0,_,_,_,_=>none
 |n+1,a0,a1,a2,a3 =>
  pIf a2
   ((ix a3.list a0).bind λx0 =>
   (zdr n x0.re).bind λy1 =>
   z84 n (IntKind.i64.wrap (a0+1)) (mxI a1 (IntKind.i64.wrap (1+y1))) a3.re)
   (some a1)
end
def yp3:LSh:=⟨[(2,(.d (.int .i64)))],[],0,27⟩
noncomputable def ziq:FI dat:=FI.of dat 160 27 0 [(.d (.st 1))] [] [(.d (.int .i64))] [] true yp3 (R:=Int) (λx=>x.1) (λr=>(r,())) (λn x=>zdr n x.1)
 (λn=>[(0,⟨⟨[(4,(.d (.int .i64))),(1,(.ptr 0 0)),(3,(.d (.int .i64)))],[(.st 1)],0,27⟩,λx=>z84 n x.1 x.2.1 x.2.2.1⟩),(1,⟨⟨[(1,(.ptr 0 0)),(4,(.d (.int .i64))),(3,(.d (.int .i64))),(14,(.d .bool))],[(.st 1)],0,27⟩,λx=>z8j n x.1 x.2.1 x.2.2.1 x.2.2.2.1⟩)]) (ann [(8,0),(12,1)] (Tryz.f160.body.getD .skip) 0).1
noncomputable def yrx:List (FI dat):=[ziq]++[]
theorem yru:(ziq).Good Tryz.prog dat (tb yrx):=FI.yz4 (hD:=zz2 _) Tryz.func160 Tryz.ntmps160 Tryz.call160 (by kernel_rfl) (of_decide_eq_true (by kernel_rfl)) (by kernel_rfl) (λn=>by kernel_rfl) (λx=>by kernel_rfl) (λ_=>rfl) ⟨λ_=>rfl,λ_=>rfl,trivial⟩
 (λn=>λx=>(zdr.eq_2 x.1 n).trans (by kernel_rfl))
 (λn=>⟨λx=>(z84.eq_2 x.1 x.2.1 x.2.2.1 n).trans (by kernel_rfl),
  λx=>(z8j.eq_2 x.1 x.2.1 x.2.2.1 x.2.2.2.1 n).trans (by kernel_rfl),
  trivial⟩)
 (λx=>.inl rfl)
theorem yq9:OkL Tryz.prog [ziq]:=zc5 (zz2 _) (bs:=[]) trivial ⟨yru,trivial⟩
theorem yhm:FOk Tryz.prog ziq:=yq9.1
mutual
def zce:Nat->Int->Int->Option Int
 |0,_,_=>none
 |n+1,a0,a1 =>
  z4s n a1 a0
def z4s:Nat->Int->Int->Option Int
 |0,_,_=>none
 |n+1,a0,a1 =>
  pIf (a0 != 0)
   ((rem .i64 a1 a0).bind λx0 =>
   z4s n x0 a0)
   (pIf (decide (a1<0))
     (some (IntKind.i64.wrap (0-a1)))
     (some a1))
end
def yfh:LSh:=⟨[(4,(.d (.int .i64)))],[],0,16⟩
noncomputable def zhg:FI dat:=FI.of dat 166 16 0 [(.d (.int .i64)),(.d (.int .i64))] [] [(.d (.int .i64))] [] true yfh (R:=Int) (λx=>x.1) (λr=>(r,())) (λn x=>zce n x.1 x.2.1)
 (λn=>[(0,⟨⟨[(1,(.d (.int .i64))),(0,(.d (.int .i64)))],[],0,16⟩,λx=>z4s n x.1 x.2.1⟩)]) (ann [(4,0)] (Tryz.f166.body.getD .skip) 0).1
noncomputable def ygo:List (FI dat):=[]
theorem ygv:(zhg).Good Tryz.prog dat (tb ygo):=FI.yz4 (hD:=zz2 _) Tryz.func166 Tryz.ntmps166 Tryz.call166 (by kernel_rfl) (of_decide_eq_true (by kernel_rfl)) (by kernel_rfl) (λn=>by kernel_rfl) (λx=>by kernel_rfl) (λ_=>rfl) ⟨λ_=>rfl,trivial⟩
 (λn=>λx=>(zce.eq_2 x.1 x.2.1 n).trans (by kernel_rfl))
 (λn=>⟨λx=>(z4s.eq_2 x.1 x.2.1 n).trans (by kernel_rfl),
  trivial⟩)
 (λx=>.inl rfl)
theorem yds:OkL Tryz.prog [zhg]:=zz6 (zz2 _) (bs:=[]) trivial ygv
theorem y9l:FOk Tryz.prog zhg:=yds.1
end Go.Proofs.YtahcjggdcmgpkaaGreat
namespace Go.Proofs.YtahcjggdcmgpkaaGreat
open Go Go.Ab
set_option linter.unusedVariables false
set_option maxRecDepth 100000
set_option maxHeartbeats 4000000
mutual
def zes:Nat->zz7->Option Int
 |0,_=>none
 |n+1,a0 =>
  pIf (decide (a0.den<1))
   (z17 n true)
   (pIf (decide (a0.den>1000000000))
     (z17 n true)
     (pIf (decide (a0.num<(-1000000000)))
       (z17 n true)
       (pIf (decide (a0.num>1000000000))
         (z17 n true)
         ((zce n a0.num a0.den).bind λy0 =>
         z17 n (y0 != 1)))))
def z17:Nat->Bool->Option Int
 |0,_=>none
 |n+1,a0 =>
  pIf a0
   (some 8)
   (some 0)
end
def yki:LSh:=⟨[(2,(.d (.int .i64)))],[],0,29⟩
noncomputable def zjr:FI dat:=FI.of dat 163 29 0 [(.d (.st 0))] [] [(.d (.int .i64))] [] true yki (R:=Int) (λx=>x.1) (λr=>(r,())) (λn x=>zes n x.1)
 (λn=>[(0,⟨⟨[(28,(.d .bool))],[],0,29⟩,λx=>z17 n x.1⟩)]) (ann [(5,0)] (Tryz.f163.body.getD .skip) 0).1
noncomputable def yh4:List (FI dat):=[zhg]
theorem yly:(zjr).Good Tryz.prog dat (tb yh4):=FI.yz4 (hD:=zz2 _) Tryz.func163 Tryz.ntmps163 Tryz.call163 (by kernel_rfl) (of_decide_eq_true (by kernel_rfl)) (by kernel_rfl) (λn=>by kernel_rfl) (λx=>by kernel_rfl) (λ_=>rfl) ⟨λ_=>rfl,trivial⟩
 (λn=>λx=>(zes.eq_2 x.1 n).trans (by kernel_rfl))
 (λn=>⟨λx=>(z17.eq_2 x.1 n).trans (by kernel_rfl),
  trivial⟩)
 (λx=>.inl rfl)
theorem yiz:OkL Tryz.prog [zjr]:=zz6 (zz2 _) (bs:=[zhg]) ⟨y9l,trivial⟩ yly
theorem ygr:FOk Tryz.prog zjr:=yiz.1
mutual
def zd7:Nat->yz2->Option Bool
 |0,_=>none
 |n+1,a0 =>
  pIf (a0.kind==1)
   ((zes n a0.num).bind λy0 =>
   pIf (y0==0)
    (pIf (!a0.truth)
      (pIf ((a0.str.length:Int)==0)
        (some ((a0.list.length:Int)==0))
        (some false))
      (some false))
    (some false))
   (pIf (a0.kind==2)
     (pIf ((a0.num.num==0)&&((a0.num.den==0)&&true))
       (pIf ((a0.str.length:Int)==0)
         (some ((a0.list.length:Int)==0))
         (some false))
       (some false))
     (pIf (a0.kind==3)
       (pIf (!((a0.num.num==0)&&((a0.num.den==0)&&true)))
         (z1p n true a0.re)
         (pIf a0.truth
           (z1p n true a0.re)
           (pIf (decide ((a0.list.length:Int)>0))
             (z1p n true a0.re)
             (z1p n (decide ((a0.str.length:Int)>60)) a0.re))))
       (pIf (a0.kind==4)
         (pIf (!((a0.num.num==0)&&((a0.num.den==0)&&true)))
           (z3d n true a0.re)
           (pIf a0.truth
             (z3d n true a0.re)
             (z3d n (decide ((a0.str.length:Int)>0)) a0.re)))
         (some false))))
def z1p:Nat->Bool->yz2->Option Bool
 |0,_,_=>none
 |n+1,a0,a1 =>
  pIf a0
   (some false)
   (z7m n 0 a1.re)
def z7m:Nat->Int->yz2->Option Bool
 |0,_,_=>none
 |n+1,a0,a1 =>
  pIf (decide (a0<(a1.str.length:Int)))
   ((ix a1.str a0).bind λx1 =>
   pIf (decide ((x1.toNat:Int)<32))
    (z7n n a0 true a1.re)
    ((ix a1.str a0).bind λx2 =>
    z7n n a0 (decide ((x2.toNat:Int)>126)) a1.re))
   (some true)
def z7n:Nat->Int->Bool->yz2->Option Bool
 |0,_,_,_=>none
 |n+1,a0,a1,a2 =>
  pIf a1
   (some false)
   (z7m n (IntKind.i64.wrap (a0+1)) a2.re)
def z3d:Nat->Bool->yz2->Option Bool
 |0,_,_=>none
 |n+1,a0,a1 =>
  pIf a0
   (some false)
   (z8g n 0 a1.re)
def z8g:Nat->Int->yz2->Option Bool
 |0,_,_=>none
 |n+1,a0,a1 =>
  pIf (decide (a0<(a1.list.length:Int)))
   ((ix a1.list a0).bind λx3 =>
   (zd7 n x3.re).bind λy4 =>
   pIf (!y4)
    (some false)
    (z8g n (IntKind.i64.wrap (a0+1)) a1.re))
   (some true)
end
def yrv:LSh:=⟨[(2,(.d .bool))],[],0,121⟩
noncomputable def zit:FI dat:=FI.of dat 161 121 0 [(.d (.st 1))] [] [(.d .bool)] [] true yrv (R:=Bool) (λx=>x.1) (λr=>(r,())) (λn x=>zd7 n x.1)
 (λn=>[(0,⟨⟨[(1,(.ptr 0 0)),(71,(.d .bool))],[(.st 1)],0,121⟩,λx=>z1p n x.1 x.2.1⟩),(1,⟨⟨[(4,(.d (.int .i64))),(1,(.ptr 0 0))],[(.st 1)],0,121⟩,λx=>z7m n x.1 x.2.1⟩),(2,⟨⟨[(1,(.ptr 0 0)),(4,(.d (.int .i64))),(90,(.d .bool))],[(.st 1)],0,121⟩,λx=>z7n n x.1 x.2.1 x.2.2.1⟩),(3,⟨⟨[(1,(.ptr 0 0)),(106,(.d .bool))],[(.st 1)],0,121⟩,λx=>z3d n x.1 x.2.1⟩),(4,⟨⟨[(5,(.d (.int .i64))),(1,(.ptr 0 0))],[(.st 1)],0,121⟩,λx=>z8g n x.1 x.2.1⟩)]) (ann [(26,0),(35,1),(46,2),(61,3),(70,4)] (Tryz.f161.body.getD .skip) 0).1
noncomputable def yp5:List (FI dat):=[zit]++[zjr]
theorem ypk:(zit).Good Tryz.prog dat (tb yp5):=FI.yz4 (hD:=zz2 _) Tryz.func161 Tryz.ntmps161 Tryz.call161 (by kernel_rfl) (of_decide_eq_true (by kernel_rfl)) (by kernel_rfl) (λn=>by kernel_rfl) (λx=>by kernel_rfl) (λ_=>rfl) ⟨λ_=>rfl,λ_=>rfl,λ_=>rfl,λ_=>rfl,λ_=>rfl,trivial⟩
 (λn=>λx=>(zd7.eq_2 x.1 n).trans (by kernel_rfl))
 (λn=>⟨λx=>(z1p.eq_2 x.1 x.2.1 n).trans (by kernel_rfl),
  λx=>(z7m.eq_2 x.1 x.2.1 n).trans (by kernel_rfl),
  λx=>(z7n.eq_2 x.1 x.2.1 x.2.2.1 n).trans (by kernel_rfl),
  λx=>(z3d.eq_2 x.1 x.2.1 n).trans (by kernel_rfl),
  λx=>(z8g.eq_2 x.1 x.2.1 n).trans (by kernel_rfl),
  trivial⟩)
 (λx=>.inl rfl)
theorem ysi:OkL Tryz.prog [zit]:=zc5 (zz2 _) (bs:=[zjr]) ⟨ygr,trivial⟩ ⟨ypk,trivial⟩
theorem yil:FOk Tryz.prog zit:=ysi.1
mutual
def zdz:Nat->yz2->Option Int
 |0,_=>none
 |n+1,a0 =>
  (z9f n a0.re).bind λy0 =>
  pIf (decide (y0>100))
   (z74 n true a0.re)
   ((zdr n a0.re).bind λy1 =>
   z74 n (decide (y1>6)) a0.re)
def z74:Nat->Bool->yz2->Option Int
 |0,_,_=>none
 |n+1,a0,a1 =>
  pIf a0
   (some 4)
   ((zd7 n a1.re).bind λy2 =>
   pIf (!y2)
    (some 8)
    (some 0))
end
def yh3:LSh:=⟨[(2,(.d (.int .i64)))],[],0,14⟩
noncomputable def zjo:FI dat:=FI.of dat 155 14 0 [(.d (.st 1))] [] [(.d (.int .i64))] [] true yh3 (R:=Int) (λx=>x.1) (λr=>(r,())) (λn x=>zdz n x.1)
 (λn=>[(0,⟨⟨[(1,(.ptr 0 0)),(10,(.d .bool))],[(.st 1)],0,14⟩,λx=>z74 n x.1 x.2.1⟩)]) (ann [(5,0)] (Tryz.f155.body.getD .skip) 0).1
noncomputable def yh1:List (FI dat):=[zbd,ziq,zit]
theorem yli:(zjo).Good Tryz.prog dat (tb yh1):=FI.yz4 (hD:=zz2 _) Tryz.func155 Tryz.ntmps155 Tryz.call155 (by kernel_rfl) (of_decide_eq_true (by kernel_rfl)) (by kernel_rfl) (λn=>by kernel_rfl) (λx=>by kernel_rfl) (λ_=>rfl) ⟨λ_=>rfl,trivial⟩
 (λn=>λx=>(zdz.eq_2 x.1 n).trans (by kernel_rfl))
 (λn=>⟨λx=>(z74.eq_2 x.1 x.2.1 n).trans (by kernel_rfl),
  trivial⟩)
 (λx=>.inl rfl)
theorem yke:OkL Tryz.prog [zjo]:=zz6 (zz2 _) (bs:=[zbd,ziq,zit]) ⟨zxc,yhm,yil,trivial⟩ yli
theorem yck:FOk Tryz.prog zjo:=yke.1
mutual
def z45:Nat->yz2->yz2->Option Bool
 |0,_,_=>none
 |n+1,a0,a1 =>
  pIf (a0.kind != a1.kind)
   (z1q n true a1.re a0.re)
   (pIf (!((a0.num.num==a1.num.num)&&((a0.num.den==a1.num.den)&&true)))
     (z1q n true a1.re a0.re)
     (pIf (!(a0.truth==a1.truth))
       (z1q n true a1.re a0.re)
       (pIf (!(a0.str==a1.str))
         (z1q n true a1.re a0.re)
         (z1q n ((a0.list.length:Int) != (a1.list.length:Int)) a1.re a0.re))))
def z1q:Nat->Bool->yz2->yz2->Option Bool
 |0,_,_,_=>none
 |n+1,a0,a1,a2 =>
  pIf a0
   (some false)
   (z8s n 0 a1.re a2.re)
def z8s:Nat->Int->yz2->yz2->Option Bool
 |0,_,_,_=>none
 |n+1,a0,a1,a2 =>
  pIf (decide (a0<(a2.list.length:Int)))
   ((ix a2.list a0).bind λx0 =>
   (ix a1.list a0).bind λx1 =>
   (z45 n x0.re x1.re).bind λy2 =>
   pIf (!y2)
    (some false)
    (z8s n (IntKind.i64.wrap (a0+1)) a1.re a2.re))
   (some true)
end
def ysv:LSh:=⟨[(4,(.d .bool))],[],0,60⟩
noncomputable def zcz:FI dat:=FI.of dat 75 60 0 [(.d (.st 1)),(.d (.st 1))] [] [(.d .bool)] [] true ysv (R:=Bool) (λx=>x.1) (λr=>(r,())) (λn x=>z45 n x.1 x.2.1)
 (λn=>[(0,⟨⟨[(3,(.ptr 0 0)),(2,(.ptr 1 0)),(40,(.d .bool))],[(.st 1),(.st 1)],0,60⟩,λx=>z1q n x.1 x.2.1 x.2.2.1⟩),(1,⟨⟨[(5,(.d (.int .i64))),(3,(.ptr 0 0)),(2,(.ptr 1 0))],[(.st 1),(.st 1)],0,60⟩,λx=>z8s n x.1 x.2.1 x.2.2.1⟩)]) (ann [(5,0),(14,1)] (Tryz.f75.body.getD .skip) 0).1
noncomputable def ys7:List (FI dat):=[zcz]++[]
theorem yot:(zcz).Good Tryz.prog dat (tb ys7):=FI.yz4 (hD:=zz2 _) Tryz.func75 Tryz.ntmps75 Tryz.call75 (by kernel_rfl) (of_decide_eq_true (by kernel_rfl)) (by kernel_rfl) (λn=>by kernel_rfl) (λx=>by kernel_rfl) (λ_=>rfl) ⟨λ_=>rfl,λ_=>rfl,trivial⟩
 (λn=>λx=>(z45.eq_2 x.1 x.2.1 n).trans (by kernel_rfl))
 (λn=>⟨λx=>(z1q.eq_2 x.1 x.2.1 x.2.2.1 n).trans (by kernel_rfl),
  λx=>(z8s.eq_2 x.1 x.2.1 x.2.2.1 n).trans (by kernel_rfl),
  trivial⟩)
 (λx=>.inl rfl)
theorem yra:OkL Tryz.prog [zcz]:=zc5 (zz2 _) (bs:=[]) trivial ⟨yot,trivial⟩
theorem y0v:FOk Tryz.prog zcz:=yra.1
def ze2:Nat->(List UInt8)->Option Bool
 |0,_=>none
 |n+1,a0 =>
  (zd3 n a0).bind λy0 =>
  pIf y0
   (pIf (!(a0==[116,114,117,101]))
     (some (!(a0==[102,97,108,115,101])))
     (some false))
   (some false)
def yih:LSh:=⟨[(2,(.d .bool))],[],0,13⟩
noncomputable def zk3:FI dat:=FI.of dat 156 13 0 [(.d .str)] [] [(.d .bool)] [] true yih (R:=Bool) (λx=>x.1) (λr=>(r,())) (λn x=>ze2 n x.1)
 (λn=>[]) (ann [] (Tryz.f156.body.getD .skip) 0).1
noncomputable def ykl:List (FI dat):=[zf6]
theorem ykt:(zk3).Good Tryz.prog dat (tb ykl):=FI.yz4 (hD:=zz2 _) Tryz.func156 Tryz.ntmps156 Tryz.call156 (by kernel_rfl) (of_decide_eq_true (by kernel_rfl)) (by kernel_rfl) (λn=>by kernel_rfl) (λx=>by kernel_rfl) (λ_=>rfl) trivial
 (λn=>λx=>(ze2.eq_2 x.1 n).trans (by kernel_rfl))
 (λn=>trivial)
 (λx=>.inl rfl)
theorem yhi:OkL Tryz.prog [zk3]:=zz6 (zz2 _) (bs:=[zf6]) ⟨y0u,trivial⟩ ykt
theorem ygk:FOk Tryz.prog zk3:=yhi.1
mutual
def zdd:Nat->zz1->Option Bool
 |0,_=>none
 |n+1,a0 =>
  (zg8 n a0.op).bind λy0 =>
  pIf (y0==(-2))
   (z5c n true a0.re)
   (pIf (decide (y0>=0))
     (z5c n ((a0.args.length:Int) != y0) a0.re)
     (z5c n false a0.re))
def z5c:Nat->Bool->zz1->Option Bool
 |0,_,_=>none
 |n+1,a0,a1 =>
  pIf a0
   (some false)
   (pIf (a1.op==1)
     ((zdz n a1.value.re).bind λy1 =>
     pIf (y1 != 0)
      (z14 n true a1.re)
      (pIf (a1.value.kind==4)
        (z14 n true a1.re)
        (pIf (a1.op != 1)
          ((z45 n a1.value.re (yz2.mk 0 (zz7.mk 0 0) false [] [])).bind λy2 =>
          z14 n (!y2) a1.re)
          (z14 n false a1.re))))
     (pIf (a1.op != 1)
       ((z45 n a1.value.re (yz2.mk 0 (zz7.mk 0 0) false [] [])).bind λy3 =>
       z14 n (!y3) a1.re)
       (z14 n false a1.re)))
def z14:Nat->Bool->zz1->Option Bool
 |0,_,_=>none
 |n+1,a0,a1 =>
  pIf a0
   (some false)
   (pIf (a1.op==2)
     ((ze2 n a1.name).bind λy4 =>
     pIf (!y4)
      (z1t n true a1.re)
      (pIf (a1.op != 2)
        (z1t n (decide ((a1.name.length:Int)>0)) a1.re)
        (z1t n false a1.re)))
     (pIf (a1.op != 2)
       (z1t n (decide ((a1.name.length:Int)>0)) a1.re)
       (z1t n false a1.re)))
def z1t:Nat->Bool->zz1->Option Bool
 |0,_,_=>none
 |n+1,a0,a1 =>
  pIf a0
   (some false)
   (z8b n 0 a1.re)
def z8b:Nat->Int->zz1->Option Bool
 |0,_,_=>none
 |n+1,a0,a1 =>
  pIf (decide (a0<(a1.args.length:Int)))
   ((ix a1.args a0).bind λx5 =>
   (zdd n x5.re).bind λy6 =>
   pIf (!y6)
    (some false)
    (z8b n (IntKind.i64.wrap (a0+1)) a1.re))
   (some true)
end
def yqa:LSh:=⟨[(2,(.d .bool))],[],0,82⟩
noncomputable def zii:FI dat:=FI.of dat 137 82 0 [(.d (.st 2))] [] [(.d .bool)] [] true yqa (R:=Bool) (λx=>x.1) (λr=>(r,())) (λn x=>zdd n x.1)
 (λn=>[(0,⟨⟨[(1,(.ptr 0 0)),(20,(.d .bool))],[(.st 2)],0,82⟩,λx=>z5c n x.1 x.2.1⟩),(1,⟨⟨[(1,(.ptr 0 0)),(47,(.d .bool))],[(.st 2)],0,82⟩,λx=>z14 n x.1 x.2.1⟩),(2,⟨⟨[(1,(.ptr 0 0)),(67,(.d .bool))],[(.st 2)],0,82⟩,λx=>z1t n x.1 x.2.1⟩),(3,⟨⟨[(4,(.d (.int .i64))),(1,(.ptr 0 0))],[(.st 2)],0,82⟩,λx=>z8b n x.1 x.2.1⟩)]) (ann [(7,0),(15,1),(23,2),(32,3)] (Tryz.f137.body.getD .skip) 0).1
noncomputable def yq3:List (FI dat):=[zii]++[zma,zjo,zcz,zk3]
theorem ypf:(zii).Good Tryz.prog dat (tb yq3):=FI.yz4 (hD:=zz2 _) Tryz.func137 Tryz.ntmps137 Tryz.call137 (by kernel_rfl) (of_decide_eq_true (by kernel_rfl)) (by kernel_rfl) (λn=>by kernel_rfl) (λx=>by kernel_rfl) (λ_=>rfl) ⟨λ_=>rfl,λ_=>rfl,λ_=>rfl,λ_=>rfl,trivial⟩
 (λn=>λx=>(zdd.eq_2 x.1 n).trans (by kernel_rfl))
 (λn=>⟨λx=>(z5c.eq_2 x.1 x.2.1 n).trans (by kernel_rfl),
  λx=>(z14.eq_2 x.1 x.2.1 n).trans (by kernel_rfl),
  λx=>(z1t.eq_2 x.1 x.2.1 n).trans (by kernel_rfl),
  λx=>(z8b.eq_2 x.1 x.2.1 n).trans (by kernel_rfl),
  trivial⟩)
 (λx=>.inl rfl)
theorem ys2:OkL Tryz.prog [zii]:=zc5 (zz2 _) (bs:=[zma,zjo,zcz,zk3]) ⟨ygz,yck,y0v,ygk,trivial⟩ ⟨ypf,trivial⟩
theorem ymh:FOk Tryz.prog zii:=ys2.1
mutual
def z32:Nat->zz1->Option Int
 |0,_=>none
 |n+1,a0 =>
  (z9e n a0.re).bind λy0 =>
  pIf (decide (y0>100))
   (z6a n true a0.re)
   ((zdc n a0.re).bind λy1 =>
   z6a n (decide (y1>12)) a0.re)
def z6a:Nat->Bool->zz1->Option Int
 |0,_,_=>none
 |n+1,a0,a1 =>
  pIf a0
   (some 4)
   ((zdd n a1.re).bind λy2 =>
   pIf (!y2)
    (some 8)
    (some 0))
end
def yks:LSh:=⟨[(2,(.d (.int .i64)))],[],0,14⟩
noncomputable def z94:FI dat:=FI.of dat 108 14 0 [(.d (.st 2))] [] [(.d (.int .i64))] [] true yks (R:=Int) (λx=>x.1) (λr=>(r,())) (λn x=>z32 n x.1)
 (λn=>[(0,⟨⟨[(1,(.ptr 0 0)),(10,(.d .bool))],[(.st 2)],0,14⟩,λx=>z6a n x.1 x.2.1⟩)]) (ann [(5,0)] (Tryz.f108.body.getD .skip) 0).1
noncomputable def yjq:List (FI dat):=[zb9,zim,zii]
theorem yh9:(z94).Good Tryz.prog dat (tb yjq):=FI.yz4 (hD:=zz2 _) Tryz.func108 Tryz.ntmps108 Tryz.call108 (by kernel_rfl) (of_decide_eq_true (by kernel_rfl)) (by kernel_rfl) (λn=>by kernel_rfl) (λx=>by kernel_rfl) (λ_=>rfl) ⟨λ_=>rfl,trivial⟩
 (λn=>λx=>(z32.eq_2 x.1 n).trans (by kernel_rfl))
 (λn=>⟨λx=>(z6a.eq_2 x.1 x.2.1 n).trans (by kernel_rfl),
  trivial⟩)
 (λx=>.inl rfl)
theorem ym7:OkL Tryz.prog [z94]:=zz6 (zz2 _) (bs:=[zb9,zim,zii]) ⟨zxl,yhv,ymh,trivial⟩ yh9
theorem zra:FOk Tryz.prog z94:=ym7.1
mutual
def zf4:Nat->Int->Option Int
 |0,_=>none
 |n+1,a0 =>
  pIf (a0==2)
   (z9w n a0 true)
   (z9w n a0 (a0==3))
def z9w:Nat->Int->Bool->Option Int
 |0,_,_=>none
 |n+1,a0,a1 =>
  pIf a1
   (some 3)
   (pIf (a0==4)
     (zap n true)
     (zap n (a0==6)))
def zap:Nat->Bool->Option Int
 |0,_=>none
 |n+1,a0 =>
  pIf a0
   (some 1)
   (some 0)
end
def yuo:LSh:=⟨[(2,(.d (.int .i64)))],[],0,10⟩
noncomputable def zha:FI dat:=FI.of dat 94 10 0 [(.d (.int .u8))] [] [(.d (.int .i64))] [] true yuo (R:=Int) (λx=>x.1) (λr=>(r,())) (λn x=>zf4 n x.1)
 (λn=>[(0,⟨⟨[(3,(.d (.int .u8))),(4,(.d .bool))],[],0,10⟩,λx=>z9w n x.1 x.2.1⟩),(1,⟨⟨[(7,(.d .bool))],[],0,10⟩,λx=>zap n x.1⟩)]) (ann [(12,0),(22,1)] (Tryz.f94.body.getD .skip) 0).1
noncomputable def yww:List (FI dat):=[]
theorem yv7:(zha).Good Tryz.prog dat (tb yww):=FI.yz4 (hD:=zz2 _) Tryz.func94 Tryz.ntmps94 Tryz.call94 (by kernel_rfl) (of_decide_eq_true (by kernel_rfl)) (by kernel_rfl) (λn=>by kernel_rfl) (λx=>by kernel_rfl) (λ_=>rfl) ⟨λ_=>rfl,λ_=>rfl,trivial⟩
 (λn=>λx=>(zf4.eq_2 x.1 n).trans (by kernel_rfl))
 (λn=>⟨λx=>(z9w.eq_2 x.1 x.2.1 n).trans (by kernel_rfl),
  λx=>(zap.eq_2 x.1 n).trans (by kernel_rfl),
  trivial⟩)
 (λx=>.inl rfl)
theorem yvt:OkL Tryz.prog [zha]:=zz6 (zz2 _) (bs:=[]) trivial yv7
theorem y3f:FOk Tryz.prog zha:=yvt.1
mutual
def zca:Nat->zz3->Option Bool
 |0,_=>none
 |n+1,a0 =>
  pIf (decide (a0.kind<1))
   (z1k n true a0)
   (pIf (decide (a0.kind>6))
     (z1k n true a0)
     ((z03 n a0.args).bind λy0 =>
     (z32 n y0.re).bind λy1 =>
     pIf (y1 != 0)
      (z1k n true a0)
      ((zf4 n a0.kind).bind λy2 =>
      z1k n (decide ((a0.args.length:Int)<y2)) a0)))
def z1k:Nat->Bool->zz3->Option Bool
 |0,_,_=>none
 |n+1,a0,a1 =>
  pIf a0
   (some false)
   (pIf (a1.kind==4)
     (z4i n true a1)
     (z4i n (a1.kind==5) a1))
def z4i:Nat->Bool->zz3->Option Bool
 |0,_,_=>none
 |n+1,a0,a1 =>
  pIf a0
   (pIf (decide (a1.axis>2))
     (some false)
     (z4q n a1))
   (pIf (a1.axis != 0)
     (some false)
     (z4q n a1))
def z4q:Nat->zz3->Option Bool
 |0,_=>none
 |n+1,a0 =>
  pIf (a0.kind==5)
   (z8u n true a0)
   (z8u n (a0.kind==6) a0)
def z8u:Nat->Bool->zz3->Option Bool
 |0,_,_=>none
 |n+1,a0,a1 =>
  pIf a0
   (pIf (decide ((a1.name.length:Int)>0))
     (z0a n true a1)
     (pIf (a1.kind==5)
       (pIf (decide ((a1.args.length:Int)>0))
         (z0a n true a1)
         (pIf (a1.kind==6)
           (z0a n (decide ((a1.args.length:Int)>1)) a1)
           (z0a n false a1)))
       (pIf (a1.kind==6)
         (z0a n (decide ((a1.args.length:Int)>1)) a1)
         (z0a n false a1))))
   ((z5o n a1.name).bind λy3 =>
   pIf (!y3)
    (some false)
    (z4j n a1))
def z0a:Nat->Bool->zz3->Option Bool
 |0,_,_=>none
 |n+1,a0,a1 =>
  pIf a0
   (some false)
   (z4j n a1)
def z4j:Nat->zz3->Option Bool
 |0,_=>none
 |n+1,a0 =>
  pIf (!((a0.kind==5)==(decide ((a0.items.length:Int)>0))))
   (some false)
   (z2k n 0 a0)
def z2k:Nat->Int->zz3->Option Bool
 |0,_,_=>none
 |n+1,a0,a1 =>
  pIf (decide (a0<(a1.items.length:Int)))
   ((ix a1.items a0).bind λx4 =>
   pIf (decide (x4.kind<1))
    (z0r n a0 true a1)
    (pIf (decide (x4.kind>3))
      (z0r n a0 true a1)
      ((z5o n x4.name).bind λy5 =>
      pIf (!y5)
       (z0r n a0 true a1)
       (pIf ((x4.args.length:Int)==0)
         (z0r n a0 true a1)
         ((z03 n x4.args).bind λy6 =>
         (z32 n y6.re).bind λy7 =>
         z0r n a0 (y7 != 0) a1)))))
   (some true)
def z0r:Nat->Int->Bool->zz3->Option Bool
 |0,_,_,_=>none
 |n+1,a0,a1,a2 =>
  pIf a1
   (some false)
   (z2k n (IntKind.i64.wrap (a0+1)) a2)
end
def ybv:LSh:=⟨[(2,(.d .bool))],[],0,128⟩
noncomputable def zh9:FI dat:=FI.of dat 109 128 0 [(.d (.st 5))] [] [(.d .bool)] [] true ybv (R:=Bool) (λx=>x.1) (λr=>(r,())) (λn x=>zca n x.1)
 (λn=>[(0,⟨⟨[(1,(.ptr 0 0)),(28,(.d .bool))],[(.st 5)],0,128⟩,λx=>z1k n x.1 x.2.1⟩),(1,⟨⟨[(1,(.ptr 0 0)),(36,(.d .bool))],[(.st 5)],0,128⟩,λx=>z4i n x.1 x.2.1⟩),(2,⟨⟨[(1,(.ptr 0 0))],[(.st 5)],0,128⟩,λx=>z4q n x.1⟩),(3,⟨⟨[(1,(.ptr 0 0)),(50,(.d .bool))],[(.st 5)],0,128⟩,λx=>z8u n x.1 x.2.1⟩),(4,⟨⟨[(1,(.ptr 0 0)),(76,(.d .bool))],[(.st 5)],0,128⟩,λx=>z0a n x.1 x.2.1⟩),(5,⟨⟨[(1,(.ptr 0 0))],[(.st 5)],0,128⟩,λx=>z4j n x.1⟩),(6,⟨⟨[(3,(.d (.int .i64))),(1,(.ptr 0 0))],[(.st 5)],0,128⟩,λx=>z2k n x.1 x.2.1⟩),(7,⟨⟨[(1,(.ptr 0 0)),(3,(.d (.int .i64))),(127,(.d .bool))],[(.st 5)],0,128⟩,λx=>z0r n x.1 x.2.1 x.2.2.1⟩)]) (ann [(5,0),(13,1),(28,2),(31,3),(34,4),(46,5),(58,6),(71,7)] (Tryz.f109.body.getD .skip) 0).1
noncomputable def yem:List (FI dat):=[z5s,z94,zha,zf7]
theorem yfr:(zh9).Good Tryz.prog dat (tb yem):=FI.yz4 (hD:=zz2 _) Tryz.func109 Tryz.ntmps109 Tryz.call109 (by kernel_rfl) (of_decide_eq_true (by kernel_rfl)) (by kernel_rfl) (λn=>by kernel_rfl) (λx=>by kernel_rfl) (λ_=>rfl) ⟨λ_=>rfl,λ_=>rfl,λ_=>rfl,λ_=>rfl,λ_=>rfl,λ_=>rfl,λ_=>rfl,λ_=>rfl,trivial⟩
 (λn=>λx=>(zca.eq_2 x.1 n).trans (by kernel_rfl))
 (λn=>⟨λx=>(z1k.eq_2 x.1 x.2.1 n).trans (by kernel_rfl),
  λx=>(z4i.eq_2 x.1 x.2.1 n).trans (by kernel_rfl),
  λx=>(z4q.eq_2 x.1 n).trans (by kernel_rfl),
  λx=>(z8u.eq_2 x.1 x.2.1 n).trans (by kernel_rfl),
  λx=>(z0a.eq_2 x.1 x.2.1 n).trans (by kernel_rfl),
  λx=>(z4j.eq_2 x.1 n).trans (by kernel_rfl),
  λx=>(z2k.eq_2 x.1 x.2.1 n).trans (by kernel_rfl),
  λx=>(z0r.eq_2 x.1 x.2.1 x.2.2.1 n).trans (by kernel_rfl),
  trivial⟩)
 (λx=>.inl rfl)
theorem yda:OkL Tryz.prog [zh9]:=zz6 (zz2 _) (bs:=[z5s,z94,zha,zf7]) ⟨zo2,zra,y3f,y1j,trivial⟩ yfr
theorem yb0:FOk Tryz.prog zh9:=yda.1
end Go.Proofs.YtahcjggdcmgpkaaGreat
namespace Go.Proofs.YtahcjggdcmgpkaaGreat
open Go Go.Ab
set_option linter.unusedVariables false
set_option maxRecDepth 100000
set_option maxHeartbeats 4000000
mutual
def zc9:Nat->zz0->Option Bool
 |0,_=>none
 |n+1,a0 =>
  z2y n 0 a0
def z2y:Nat->Int->zz0->Option Bool
 |0,_,_=>none
 |n+1,a0,a1 =>
  pIf (decide (a0<(a1.attrs.length:Int)))
   ((ix a1.attrs a0).bind λx0 =>
   (z5o n x0.name).bind λy1 =>
   pIf (!y1)
    (z4n n a0 true a1)
    ((ix a1.attrs a0).bind λx2 =>
    (z32 n x2.value.re).bind λy3 =>
    z4n n a0 (y3 != 0) a1))
   (z2z n 0 a1)
def z4n:Nat->Int->Bool->zz0->Option Bool
 |0,_,_,_=>none
 |n+1,a0,a1,a2 =>
  pIf a1
   (some false)
   (z2y n (IntKind.i64.wrap (a0+1)) a2)
def z2z:Nat->Int->zz0->Option Bool
 |0,_,_=>none
 |n+1,a0,a1 =>
  pIf (decide (a0<(a1.rules.length:Int)))
   ((ix a1.rules a0).bind λx4 =>
   (z5o n x4.name).bind λy5 =>
   pIf (!y5)
    (some false)
    (z2w n 0 a0 x4 a1))
   (some true)
def z2w:Nat->Int->Int->kz4->zz0->Option Bool
 |0,_,_,_,_=>none
 |n+1,a0,a1,a2,a3 =>
  pIf (decide (a0<(a2.params.length:Int)))
   ((ix a2.params a0).bind λx6 =>
   (z5o n x6).bind λy7 =>
   pIf (!y7)
    (some false)
    (z2w n (IntKind.i64.wrap (a0+1)) a1 a2 a3))
   (z2m n 0 a1 a2 a3)
def z2m:Nat->Int->Int->kz4->zz0->Option Bool
 |0,_,_,_,_=>none
 |n+1,a0,a1,a2,a3 =>
  pIf (decide (a0<(a2.cases.length:Int)))
   ((ix a2.cases a0).bind λx8 =>
   pIf (decide (x8.weight<1))
    (z2r n a1 a0 true x8.re a2 a3)
    (pIf (decide (x8.weight>1000000))
      (z2r n a1 a0 true x8.re a2 a3)
      ((z32 n x8.when_.re).bind λy9 =>
      z2r n a1 a0 (y9 != 0) x8.re a2 a3)))
   (z2z n (IntKind.i64.wrap (a1+1)) a3)
def z2r:Nat->Int->Int->Bool->kz5->kz4->zz0->Option Bool
 |0,_,_,_,_,_,_=>none
 |n+1,a0,a1,a2,a3,a4,a5 =>
  pIf a2
   (some false)
   (z2o n 0 a0 a1 a3.re a4 a5)
def z2o:Nat->Int->Int->Int->kz5->kz4->zz0->Option Bool
 |0,_,_,_,_,_,_=>none
 |n+1,a0,a1,a2,a3,a4,a5 =>
  pIf (decide (a0<(a3.do_.length:Int)))
   ((ix a3.do_ a0).bind λx10 =>
   (zca n x10).bind λy11 =>
   pIf (!y11)
    (some false)
    (z2o n (IntKind.i64.wrap (a0+1)) a1 a2 a3.re a4 a5))
   (z2m n (IntKind.i64.wrap (a2+1)) a1 a4 a5)
end
def yc5:LSh:=⟨[(2,(.d .bool))],[],0,105⟩
noncomputable def zhp:FI dat:=FI.of dat 71 105 0 [(.d (.st 8))] [] [(.d .bool)] [] true yc5 (R:=Bool) (λx=>x.1) (λr=>(r,())) (λn x=>zc9 n x.1)
 (λn=>[(0,⟨⟨[(3,(.d (.int .i64))),(1,(.ptr 0 0))],[(.st 8)],0,105⟩,λx=>z2y n x.1 x.2.1⟩),(1,⟨⟨[(1,(.ptr 0 0)),(3,(.d (.int .i64))),(34,(.d .bool))],[(.st 8)],0,105⟩,λx=>z4n n x.1 x.2.1 x.2.2.1⟩),(2,⟨⟨[(4,(.d (.int .i64))),(1,(.ptr 0 0))],[(.st 8)],0,105⟩,λx=>z2z n x.1 x.2.1⟩),(3,⟨⟨[(6,(.d (.int .i64))),(5,(.ptr 0 0)),(1,(.ptr 1 0)),(4,(.d (.int .i64)))],[(.st 7),(.st 8)],0,105⟩,λx=>z2w n x.1 x.2.1 x.2.2.1 x.2.2.2.1⟩),(4,⟨⟨[(7,(.d (.int .i64))),(5,(.ptr 0 0)),(1,(.ptr 1 0)),(4,(.d (.int .i64)))],[(.st 7),(.st 8)],0,105⟩,λx=>z2m n x.1 x.2.1 x.2.2.1 x.2.2.2.1⟩),(5,⟨⟨[(8,(.ptr 0 0)),(5,(.ptr 1 0)),(1,(.ptr 2 0)),(4,(.d (.int .i64))),(7,(.d (.int .i64))),(90,(.d .bool))],[(.st 6),(.st 7),(.st 8)],0,105⟩,λx=>z2r n x.1 x.2.1 x.2.2.1 x.2.2.2.1 x.2.2.2.2.1 x.2.2.2.2.2.1⟩),(6,⟨⟨[(9,(.d (.int .i64))),(8,(.ptr 0 0)),(5,(.ptr 1 0)),(1,(.ptr 2 0)),(4,(.d (.int .i64))),(7,(.d (.int .i64)))],[(.st 6),(.st 7),(.st 8)],0,105⟩,λx=>z2o n x.1 x.2.1 x.2.2.1 x.2.2.2.1 x.2.2.2.2.1 x.2.2.2.2.2.1⟩)]) (ann [(6,0),(17,1),(27,2),(50,3),(70,4),(84,5),(92,6)] (Tryz.f71.body.getD .skip) 0).1
noncomputable def yey:List (FI dat):=[zf7,z94,zh9]
theorem yd6:(zhp).Good Tryz.prog dat (tb yey):=FI.yz4 (hD:=zz2 _) Tryz.func71 Tryz.ntmps71 Tryz.call71 (by kernel_rfl) (of_decide_eq_true (by kernel_rfl)) (by kernel_rfl) (λn=>by kernel_rfl) (λx=>by kernel_rfl) (λ_=>rfl) ⟨λ_=>rfl,λ_=>rfl,λ_=>rfl,λ_=>rfl,λ_=>rfl,λ_=>rfl,λ_=>rfl,trivial⟩
 (λn=>λx=>(zc9.eq_2 x.1 n).trans (by kernel_rfl))
 (λn=>⟨λx=>(z2y.eq_2 x.1 x.2.1 n).trans (by kernel_rfl),
  λx=>(z4n.eq_2 x.1 x.2.1 x.2.2.1 n).trans (by kernel_rfl),
  λx=>(z2z.eq_2 x.1 x.2.1 n).trans (by kernel_rfl),
  λx=>(z2w.eq_2 x.1 x.2.1 x.2.2.1 x.2.2.2.1 n).trans (by kernel_rfl),
  λx=>(z2m.eq_2 x.1 x.2.1 x.2.2.1 x.2.2.2.1 n).trans (by kernel_rfl),
  λx=>(z2r.eq_2 x.1 x.2.1 x.2.2.1 x.2.2.2.1 x.2.2.2.2.1 x.2.2.2.2.2.1 n).trans (by kernel_rfl),
  λx=>(z2o.eq_2 x.1 x.2.1 x.2.2.1 x.2.2.2.1 x.2.2.2.2.1 x.2.2.2.2.2.1 n).trans (by kernel_rfl),
  trivial⟩)
 (λx=>.inl rfl)
theorem ydy:OkL Tryz.prog [zhp]:=zz6 (zz2 _) (bs:=[zf7,z94,zh9]) ⟨y1j,zra,yb0,trivial⟩ yd6
theorem y9a:FOk Tryz.prog zhp:=ydy.1
mutual
def z5w:Nat->zz0->Option (List (List UInt8))
 |0,_=>none
 |n+1,a0 =>
  z65 n 0 a0 []
def z65:Nat->Int->zz0->(List (List UInt8))->Option (List (List UInt8))
 |0,_,_,_=>none
 |n+1,a0,a1,a2 =>
  pIf (decide (a0<(a1.attrs.length:Int)))
   ((ix a1.attrs a0).bind λx0 =>
   (ext a2 [x0.name]).bind λx1 =>
   z65 n (IntKind.i64.wrap (a0+1)) a1 x1)
   (some a2)
end
def ylg:LSh:=⟨[(2,(.d (.sl .str)))],[],0,22⟩
noncomputable def z97:FI dat:=FI.of dat 74 22 0 [(.d (.st 8))] [] [(.d (.sl .str))] [] true ylg (R:=List (List UInt8)) (λx=>x.1) (λr=>(r,())) (λn x=>z5w n x.1)
 (λn=>[(0,⟨⟨[(4,(.d (.int .i64))),(1,(.ptr 0 0)),(3,(.own 1))],[(.st 8),(.acc 9 .str true)],0,22⟩,λx=>z65 n x.1 x.2.1 x.2.2.1⟩)]) (ann [(8,0)] (Tryz.f74.body.getD .skip) 0).1
noncomputable def yh8:List (FI dat):=[]
theorem yht:(z97).Good Tryz.prog dat (tb yh8):=FI.yz4 (hD:=zz2 _) Tryz.func74 Tryz.ntmps74 Tryz.call74 (by kernel_rfl) (of_decide_eq_true (by kernel_rfl)) (by kernel_rfl) (λn=>by kernel_rfl) (λx=>by kernel_rfl) (λ_=>rfl) ⟨λ_=>rfl,trivial⟩
 (λn=>λx=>(z5w.eq_2 x.1 n).trans (by kernel_rfl))
 (λn=>⟨λx=>(z65.eq_2 x.1 x.2.1 x.2.2.1 n).trans (by kernel_rfl),
  trivial⟩)
 (λx=>.inl rfl)
theorem yk8:OkL Tryz.prog [z97]:=zz6 (zz2 _) (bs:=[]) trivial yht
theorem zqj:FOk Tryz.prog z97:=yk8.1
mutual
def z44:Nat->(List (List UInt8))->(List UInt8)->Option Int
 |0,_,_=>none
 |n+1,a0,a1 =>
  zej n 0 a1 a0
def zej:Nat->Int->(List UInt8)->(List (List UInt8))->Option Int
 |0,_,_,_=>none
 |n+1,a0,a1,a2 =>
  pIf (decide (a0<(a2.length:Int)))
   ((ix a2 a0).bind λx0 =>
   pIf (x0==a1)
    (some a0)
    (zej n (IntKind.i64.wrap (a0+1)) a1 a2))
   (some (-1))
end
def z00c:LSh:=⟨[(4,(.d (.int .i64)))],[],0,19⟩
noncomputable def z0s:FI dat:=FI.of dat 26 19 0 [(.d (.sl .str)),(.d .str)] [] [(.d (.int .i64))] [] true z00c (R:=Int) (λx=>x.1) (λr=>(r,())) (λn x=>z44 n x.1 x.2.1)
 (λn=>[(0,⟨⟨[(5,(.d (.int .i64))),(1,(.d .str)),(0,(.d (.sl .str)))],[],0,19⟩,λx=>zej n x.1 x.2.1 x.2.2.1⟩)]) (ann [(6,0)] (Tryz.f26.body.getD .skip) 0).1
noncomputable def yyq:List (FI dat):=[]
theorem z007:(z0s).Good Tryz.prog dat (tb yyq):=FI.yz4 (hD:=zz2 _) Tryz.func26 Tryz.ntmps26 Tryz.call26 (by kernel_rfl) (of_decide_eq_true (by kernel_rfl)) (by kernel_rfl) (λn=>by kernel_rfl) (λx=>by kernel_rfl) (λ_=>rfl) ⟨λ_=>rfl,trivial⟩
 (λn=>λx=>(z44.eq_2 x.1 x.2.1 n).trans (by kernel_rfl))
 (λn=>⟨λx=>(zej.eq_2 x.1 x.2.1 x.2.2.1 n).trans (by kernel_rfl),
  trivial⟩)
 (λx=>.inl rfl)
theorem yyv:OkL Tryz.prog [z0s]:=zz6 (zz2 _) (bs:=[]) trivial z007
theorem zcv:FOk Tryz.prog z0s:=yyv.1
mutual
def zbz:Nat->(List (List UInt8))->Option Bool
 |0,_=>none
 |n+1,a0 =>
  z5v n 0 a0
def z5v:Nat->Int->(List (List UInt8))->Option Bool
 |0,_,_=>none
 |n+1,a0,a1 =>
  pIf (decide (a0<(a1.length:Int)))
   ((ix a1 a0).bind λx0 =>
   (z44 n a1 x0).bind λy1 =>
   pIf (decide (y1<a0))
    (some true)
    (z5v n (IntKind.i64.wrap (a0+1)) a1))
   (some false)
end
def ykh:LSh:=⟨[(2,(.d .bool))],[],0,18⟩
noncomputable def zkh:FI dat:=FI.of dat 110 18 0 [(.d (.sl .str))] [] [(.d .bool)] [] true ykh (R:=Bool) (λx=>x.1) (λr=>(r,())) (λn x=>zbz n x.1)
 (λn=>[(0,⟨⟨[(3,(.d (.int .i64))),(0,(.d (.sl .str)))],[],0,18⟩,λx=>z5v n x.1 x.2.1⟩)]) (ann [(6,0)] (Tryz.f110.body.getD .skip) 0).1
noncomputable def yl3:List (FI dat):=[z0s]
theorem yi1:(zkh).Good Tryz.prog dat (tb yl3):=FI.yz4 (hD:=zz2 _) Tryz.func110 Tryz.ntmps110 Tryz.call110 (by kernel_rfl) (of_decide_eq_true (by kernel_rfl)) (by kernel_rfl) (λn=>by kernel_rfl) (λx=>by kernel_rfl) (λ_=>rfl) ⟨λ_=>rfl,trivial⟩
 (λn=>λx=>(zbz.eq_2 x.1 n).trans (by kernel_rfl))
 (λn=>⟨λx=>(z5v.eq_2 x.1 x.2.1 n).trans (by kernel_rfl),
  trivial⟩)
 (λx=>.inl rfl)
theorem yhx:OkL Tryz.prog [zkh]:=zz6 (zz2 _) (bs:=[z0s]) ⟨zcv,trivial⟩ yi1
theorem yf0:FOk Tryz.prog zkh:=yhx.1
mutual
def z11:Nat->zz0->Option (List (List UInt8))
 |0,_=>none
 |n+1,a0 =>
  z5p n 0 a0 []
def z5p:Nat->Int->zz0->(List (List UInt8))->Option (List (List UInt8))
 |0,_,_,_=>none
 |n+1,a0,a1,a2 =>
  pIf (decide (a0<(a1.rules.length:Int)))
   ((ix a1.rules a0).bind λx0 =>
   (ext a2 [x0.name]).bind λx1 =>
   z5p n (IntKind.i64.wrap (a0+1)) a1 x1)
   (some a2)
end
def yj2:LSh:=⟨[(2,(.d (.sl .str)))],[],0,22⟩
noncomputable def z05:FI dat:=FI.of dat 24 22 0 [(.d (.st 8))] [] [(.d (.sl .str))] [] true yj2 (R:=List (List UInt8)) (λx=>x.1) (λr=>(r,())) (λn x=>z11 n x.1)
 (λn=>[(0,⟨⟨[(4,(.d (.int .i64))),(1,(.ptr 0 0)),(3,(.own 1))],[(.st 8),(.acc 9 .str true)],0,22⟩,λx=>z5p n x.1 x.2.1 x.2.2.1⟩)]) (ann [(8,0)] (Tryz.f24.body.getD .skip) 0).1
noncomputable def ylk:List (FI dat):=[]
theorem yjz:(z05).Good Tryz.prog dat (tb ylk):=FI.yz4 (hD:=zz2 _) Tryz.func24 Tryz.ntmps24 Tryz.call24 (by kernel_rfl) (of_decide_eq_true (by kernel_rfl)) (by kernel_rfl) (λn=>by kernel_rfl) (λx=>by kernel_rfl) (λ_=>rfl) ⟨λ_=>rfl,trivial⟩
 (λn=>λx=>(z11.eq_2 x.1 n).trans (by kernel_rfl))
 (λn=>⟨λx=>(z5p.eq_2 x.1 x.2.1 x.2.2.1 n).trans (by kernel_rfl),
  trivial⟩)
 (λx=>.inl rfl)
theorem yhu:OkL Tryz.prog [z05]:=zz6 (zz2 _) (bs:=[]) trivial yjz
theorem zbx:FOk Tryz.prog z05:=yhu.1
mutual
def z47:Nat->(List UInt8)->(List (List UInt8))->Option (Int×(List (List UInt8)))
 |0,_,_=>none
 |n+1,a0,a1 =>
  z08 n 0 a0 a1
def z08:Nat->Int->(List UInt8)->(List (List UInt8))->Option (Int×(List (List UInt8)))
 |0,_,_,_=>none
 |n+1,a0,a1,a2 =>
  pIf (decide (a0<(a2.length:Int)))
   ((ix a2 a0).bind λx0 =>
   pIf (x0==a1)
    (some (a0,a2))
    (z08 n (IntKind.i64.wrap (a0+1)) a1 a2))
   (some ((-1),a2))
end
def yhb:LSh:=⟨[(4,(.d (.int .i64)))],[(.acc 9 .str true)],1,19⟩
noncomputable def zdt:FI dat:=FI.of dat 26 19 1 [(.own 0),(.d .str)] [(.acc 9 .str true)] [(.d (.int .i64))] [(.acc 9 .str true)] false yhb (R:=Int×(List (List UInt8))) (λx=>(x.1,x.2.1)) (λr=>(r.1,r.2,())) (λn x=>z47 n x.1 x.2.1)
 (λn=>[(0,⟨⟨[(5,(.d (.int .i64))),(1,(.d .str)),(0,(.own 0))],[(.acc 9 .str true)],1,19⟩,λx=>z08 n x.1 x.2.1 x.2.2.1⟩)]) (ann [(6,0)] (Tryz.f26.body.getD .skip) 0).1
noncomputable def ymc:List (FI dat):=[]
theorem yjy:(zdt).Good Tryz.prog dat (tb ymc):=FI.yz4 (hD:=zz2 _) Tryz.func26 Tryz.ntmps26 Tryz.call26 (by kernel_rfl) (of_decide_eq_true (by kernel_rfl)) (by kernel_rfl) (λn=>by kernel_rfl) (λx=>by kernel_rfl) (λ_=>rfl) ⟨λ_=>rfl,trivial⟩
 (λn=>λx=>(z47.eq_2 x.1 x.2.1 n).trans (by kernel_rfl))
 (λn=>⟨λx=>(z08.eq_2 x.1 x.2.1 x.2.2.1 n).trans (by kernel_rfl),
  trivial⟩)
 (λx=>.inr (by kernel_rfl))
theorem ym4:OkL Tryz.prog [zdt]:=zz6 (zz2 _) (bs:=[]) trivial yjy
theorem zyk:FOk Tryz.prog zdt:=ym4.1
mutual
def z9q:Nat->(List (List UInt8))->Option (Bool×(List (List UInt8)))
 |0,_=>none
 |n+1,a0 =>
  z2t n 0 a0
def z2t:Nat->Int->(List (List UInt8))->Option (Bool×(List (List UInt8)))
 |0,_,_=>none
 |n+1,a0,a1 =>
  pIf (decide (a0<(a1.length:Int)))
   ((ix a1 a0).bind λx0 =>
   (z47 n x0 a1).bind λy1 =>
   pIf (decide (y1.1<a0))
    (some (true,y1.2))
    (z2t n (IntKind.i64.wrap (a0+1)) y1.2))
   (some (false,a1))
end
def y5r:LSh:=⟨[(2,(.d .bool))],[(.acc 9 .str true)],1,18⟩
noncomputable def zec:FI dat:=FI.of dat 110 18 1 [(.own 0)] [(.acc 9 .str true)] [(.d .bool)] [(.acc 9 .str true)] false y5r (R:=Bool×(List (List UInt8))) (λx=>(x.1,x.2.1)) (λr=>(r.1,r.2,())) (λn x=>z9q n x.1)
 (λn=>[(0,⟨⟨[(3,(.d (.int .i64))),(0,(.own 0))],[(.acc 9 .str true)],1,18⟩,λx=>z2t n x.1 x.2.1⟩)]) (ann [(6,0)] (Tryz.f110.body.getD .skip) 0).1
noncomputable def y6e:List (FI dat):=[zdt]
theorem y60:(zec).Good Tryz.prog dat (tb y6e):=FI.yz4 (hD:=zz2 _) Tryz.func110 Tryz.ntmps110 Tryz.call110 (by kernel_rfl) (of_decide_eq_true (by kernel_rfl)) (by kernel_rfl) (λn=>by kernel_rfl) (λx=>by kernel_rfl) (λ_=>rfl) ⟨λ_=>rfl,trivial⟩
 (λn=>λx=>(z9q.eq_2 x.1 n).trans (by kernel_rfl))
 (λn=>⟨λx=>(z2t.eq_2 x.1 x.2.1 n).trans (by kernel_rfl),
  trivial⟩)
 (λx=>.inr (by kernel_rfl))
theorem y74:OkL Tryz.prog [zec]:=zz6 (zz2 _) (bs:=[zdt]) ⟨zyk,trivial⟩ y60
theorem y42:FOk Tryz.prog zec:=y74.1
mutual
def zbf:Nat->zz0->Option Bool
 |0,_=>none
 |n+1,a0 =>
  (z5w n a0).bind λy0 =>
  (zbz n y0).bind λy1 =>
  pIf y1
   (z3h n true a0)
   ((z11 n a0).bind λy2 =>
   (zbz n y2).bind λy3 =>
   z3h n y3 a0)
def z3h:Nat->Bool->zz0->Option Bool
 |0,_,_=>none
 |n+1,a0,a1 =>
  pIf a0
   (some true)
   (z1x n 0 a1)
def z1x:Nat->Int->zz0->Option Bool
 |0,_,_=>none
 |n+1,a0,a1 =>
  pIf (decide (a0<(a1.rules.length:Int)))
   ((ix a1.rules a0).bind λx4 =>
   (ext [] x4.params).bind λx5 =>
   (z5w n a1).bind λy6 =>
   (ext x5 y6).bind λx7 =>
   (z9q n x7).bind λy8 =>
   pIf y8.1
    (some true)
    (z1x n (IntKind.i64.wrap (a0+1)) a1))
   (some false)
end
def yae:LSh:=⟨[(2,(.d .bool))],[],0,31⟩
noncomputable def zfy:FI dat:=FI.of dat 72 31 0 [(.d (.st 8))] [] [(.d .bool)] [] true yae (R:=Bool) (λx=>x.1) (λr=>(r,())) (λn x=>zbf n x.1)
 (λn=>[(0,⟨⟨[(1,(.ptr 0 0)),(11,(.d .bool))],[(.st 8)],0,31⟩,λx=>z3h n x.1 x.2.1⟩),(1,⟨⟨[(3,(.d (.int .i64))),(1,(.ptr 0 0))],[(.st 8)],0,31⟩,λx=>z1x n x.1 x.2.1⟩)]) (ann [(5,0),(14,1)] (Tryz.f72.body.getD .skip) 0).1
noncomputable def yaa:List (FI dat):=[zec,z97,zkh,z05]
theorem y94:(zfy).Good Tryz.prog dat (tb yaa):=FI.yz4 (hD:=zz2 _) Tryz.func72 Tryz.ntmps72 Tryz.call72 (by kernel_rfl) (of_decide_eq_true (by kernel_rfl)) (by kernel_rfl) (λn=>by kernel_rfl) (λx=>by kernel_rfl) (λ_=>rfl) ⟨λ_=>rfl,λ_=>rfl,trivial⟩
 (λn=>λx=>(zbf.eq_2 x.1 n).trans (by kernel_rfl))
 (λn=>⟨λx=>(z3h.eq_2 x.1 x.2.1 n).trans (by kernel_rfl),
  λx=>(z1x.eq_2 x.1 x.2.1 n).trans (by kernel_rfl),
  trivial⟩)
 (λx=>.inl rfl)
theorem ya9:OkL Tryz.prog [zfy]:=zz6 (zz2 _) (bs:=[zec,z97,zkh,z05]) ⟨y42,zqj,yf0,zbx,trivial⟩ y94
theorem y6t:FOk Tryz.prog zfy:=ya9.1
mutual
def zdu:Nat->zz1->(List (List UInt8))->Option (List (List UInt8))
 |0,_,_=>none
 |n+1,a0,a1 =>
  pIf (a0.op==2)
   (z56 n 0 a0.re a1)
   (z5f n a1 a0.re)
def z56:Nat->Int->zz1->(List (List UInt8))->Option (List (List UInt8))
 |0,_,_,_=>none
 |n+1,a0,a1,a2 =>
  pIf (decide (a0<(a2.length:Int)))
   ((ix a2 a0).bind λx0 =>
   z8n n a0 (Op.bytesLess x0 a1.name) a1.re a2)
   (z8n n a0 false a1.re a2)
def z8n:Nat->Int->Bool->zz1->(List (List UInt8))->Option (List (List UInt8))
 |0,_,_,_,_=>none
 |n+1,a0,a1,a2,a3 =>
  pIf a1
   (z56 n (IntKind.i64.wrap (a0+1)) a2.re a3)
   (pIf (a0==(a3.length:Int))
     (z8y n a0 true a2.re a3)
     ((ix a3 a0).bind λx1 =>
     z8y n a0 (!(x1==a2.name)) a2.re a3))
def z8y:Nat->Int->Bool->zz1->(List (List UInt8))->Option (List (List UInt8))
 |0,_,_,_,_=>none
 |n+1,a0,a1,a2,a3 =>
  pIf a1
   ((ext a3 [[]]).bind λx4 =>
   (y49 x4 (IntKind.i64.wrap (a0+1))).bind λx5 =>
   (y49 x4 a0).bind λx6 =>
   (zys x4 (IntKind.i64.wrap (a0+1)) a0).bind λx7 =>
   (ix x7 a0).bind λx8 =>
   z5f n (x7.set (Int.toNat a0) a2.name) a2.re)
   (z5f n a3 a2.re)
def z5f:Nat->(List (List UInt8))->zz1->Option (List (List UInt8))
 |0,_,_=>none
 |n+1,a0,a1 =>
  z8m n 0 a0 a1.re
def z8m:Nat->Int->(List (List UInt8))->zz1->Option (List (List UInt8))
 |0,_,_,_=>none
 |n+1,a0,a1,a2 =>
  pIf (decide (a0<(a2.args.length:Int)))
   ((ix a2.args a0).bind λx2 =>
   (zdu n x2.re a1).bind λy3 =>
   z8m n (IntKind.i64.wrap (a0+1)) y3 a2.re)
   (some a1)
end
def ysq:LSh:=⟨[(4,(.own 0))],[(.acc 9 .str true)],0,69⟩
noncomputable def zin:FI dat:=FI.of dat 113 69 0 [(.d (.st 2)),(.own 0)] [(.acc 9 .str true)] [(.own 0)] [(.acc 9 .str true)] false ysq (R:=List (List UInt8)) (λx=>x.1) (λr=>(r,())) (λn x=>zdu n x.1 x.2.1)
 (λn=>[(0,⟨⟨[(5,(.d (.int .i64))),(2,(.ptr 0 0)),(1,(.own 1))],[(.st 2),(.acc 9 .str true)],0,69⟩,λx=>z56 n x.1 x.2.1 x.2.2.1⟩),(1,⟨⟨[(2,(.ptr 0 0)),(1,(.own 1)),(5,(.d (.int .i64))),(22,(.d .bool))],[(.st 2),(.acc 9 .str true)],0,69⟩,λx=>z8n n x.1 x.2.1 x.2.2.1 x.2.2.2.1⟩),(2,⟨⟨[(2,(.ptr 0 0)),(5,(.d (.int .i64))),(1,(.own 1)),(37,(.d .bool))],[(.st 2),(.acc 9 .str true)],0,69⟩,λx=>z8y n x.1 x.2.1 x.2.2.1 x.2.2.2.1⟩),(3,⟨⟨[(1,(.own 0)),(2,(.ptr 1 0))],[(.acc 9 .str true),(.st 2)],0,69⟩,λx=>z5f n x.1 x.2.1⟩),(4,⟨⟨[(6,(.d (.int .i64))),(1,(.own 0)),(2,(.ptr 1 0))],[(.acc 9 .str true),(.st 2)],0,69⟩,λx=>z8m n x.1 x.2.1 x.2.2.1⟩)]) (ann [(10,0),(14,1),(21,2),(29,3),(33,4)] (Tryz.f113.body.getD .skip) 0).1
noncomputable def ysg:List (FI dat):=[zin]++[]
theorem yo2:(zin).Good Tryz.prog dat (tb ysg):=FI.yz4 (hD:=zz2 _) Tryz.func113 Tryz.ntmps113 Tryz.call113 (by kernel_rfl) (of_decide_eq_true (by kernel_rfl)) (by kernel_rfl) (λn=>by kernel_rfl) (λx=>by kernel_rfl) (λ_=>rfl) ⟨λ_=>rfl,λ_=>rfl,λ_=>rfl,λ_=>rfl,λ_=>rfl,trivial⟩
 (λn=>λx=>(zdu.eq_2 x.1 x.2.1 n).trans (by kernel_rfl))
 (λn=>⟨λx=>(z56.eq_2 x.1 x.2.1 x.2.2.1 n).trans (by kernel_rfl),
  λx=>(z8n.eq_2 x.1 x.2.1 x.2.2.1 x.2.2.2.1 n).trans (by kernel_rfl),
  λx=>(z8y.eq_2 x.1 x.2.1 x.2.2.1 x.2.2.2.1 n).trans (by kernel_rfl),
  λx=>(z5f.eq_2 x.1 x.2.1 n).trans (by kernel_rfl),
  λx=>(z8m.eq_2 x.1 x.2.1 x.2.2.1 n).trans (by kernel_rfl),
  trivial⟩)
 (λx=>.inr (by kernel_rfl))
theorem ysn:OkL Tryz.prog [zin]:=zc5 (zz2 _) (bs:=[]) trivial ⟨yo2,trivial⟩
theorem yk4:FOk Tryz.prog zin:=ysn.1
end Go.Proofs.YtahcjggdcmgpkaaGreat
namespace Go.Proofs.YtahcjggdcmgpkaaGreat
open Go Go.Ab
set_option linter.unusedVariables false
set_option maxRecDepth 100000
set_option maxHeartbeats 4000000
def zbu:Nat->zz1->Option ((List (List UInt8))×Int)
 |0,_=>none
 |n+1,a0 =>
  (z32 n a0.re).bind λy0 =>
  pIf (y0 != 0)
   ((z32 n a0.re).bind λy1 =>
   some ([],y1))
   ((zdu n a0.re []).bind λy2 =>
   some (y2,0))
def yjk:LSh:=⟨[(2,(.d (.sl .str))),(3,(.d (.int .i64)))],[],0,11⟩
noncomputable def zdp:FI dat:=FI.of dat 76 11 0 [(.d (.st 2))] [] [(.d (.sl .str)),(.d (.int .i64))] [] true yjk (R:=(List (List UInt8))×Int) (λx=>(x.1,x.2.1)) (λr=>(r.1,r.2,())) (λn x=>zbu n x.1)
 (λn=>[]) (ann [] (Tryz.f76.body.getD .skip) 0).1
noncomputable def ykw:List (FI dat):=[zin,z94]
theorem yl5:(zdp).Good Tryz.prog dat (tb ykw):=FI.yz4 (hD:=zz2 _) Tryz.func76 Tryz.ntmps76 Tryz.call76 (by kernel_rfl) (of_decide_eq_true (by kernel_rfl)) (by kernel_rfl) (λn=>by kernel_rfl) (λx=>by kernel_rfl) (λ_=>rfl) trivial
 (λn=>λx=>(zbu.eq_2 x.1 n).trans (by kernel_rfl))
 (λn=>trivial)
 (λx=>.inl rfl)
theorem yhz:OkL Tryz.prog [zdp]:=zz6 (zz2 _) (bs:=[zin,z94]) ⟨yk4,zra,trivial⟩ yl5
theorem zxp:FOk Tryz.prog zdp:=yhz.1
mutual
def z9z:Nat->zz1->(List (List UInt8))->Option Bool
 |0,_,_=>none
 |n+1,a0,a1 =>
  (zbu n a0.re).bind λy0 =>
  z4u n 0 y0.1 a1
def z4u:Nat->Int->(List (List UInt8))->(List (List UInt8))->Option Bool
 |0,_,_,_=>none
 |n+1,a0,a1,a2 =>
  pIf (decide (a0<(a1.length:Int)))
   ((ix a1 a0).bind λx1 =>
   (z44 n a2 x1).bind λy2 =>
   pIf (decide (y2<0))
    (some false)
    (z4u n (IntKind.i64.wrap (a0+1)) a1 a2))
   (some true)
end
def yf9:LSh:=⟨[(4,(.d .bool))],[],0,26⟩
noncomputable def zhk:FI dat:=FI.of dat 111 26 0 [(.d (.st 2)),(.d (.sl .str))] [] [(.d .bool)] [] true yf9 (R:=Bool) (λx=>x.1) (λr=>(r,())) (λn x=>z9z n x.1 x.2.1)
 (λn=>[(0,⟨⟨[(7,(.d (.int .i64))),(5,(.d (.sl .str))),(1,(.d (.sl .str)))],[],0,26⟩,λx=>z4u n x.1 x.2.1 x.2.2.1⟩)]) (ann [(8,0)] (Tryz.f111.body.getD .skip) 0).1
noncomputable def ygu:List (FI dat):=[zdp,z0s]
theorem ye1:(zhk).Good Tryz.prog dat (tb ygu):=FI.yz4 (hD:=zz2 _) Tryz.func111 Tryz.ntmps111 Tryz.call111 (by kernel_rfl) (of_decide_eq_true (by kernel_rfl)) (by kernel_rfl) (λn=>by kernel_rfl) (λx=>by kernel_rfl) (λ_=>rfl) ⟨λ_=>rfl,trivial⟩
 (λn=>λx=>(z9z.eq_2 x.1 x.2.1 n).trans (by kernel_rfl))
 (λn=>⟨λx=>(z4u.eq_2 x.1 x.2.1 x.2.2.1 n).trans (by kernel_rfl),
  trivial⟩)
 (λx=>.inl rfl)
theorem yf4:OkL Tryz.prog [zhk]:=zz6 (zz2 _) (bs:=[zdp,z0s]) ⟨zxp,zcv,trivial⟩ ye1
theorem y9r:FOk Tryz.prog zhk:=yf4.1
mutual
def ze3:Nat->kz5->Option (List zz1)
 |0,_=>none
 |n+1,a0 =>
  z67 n 0 a0.re [a0.when_.re]
def z67:Nat->Int->kz5->(List zz1)->Option (List zz1)
 |0,_,_,_=>none
 |n+1,a0,a1,a2 =>
  pIf (decide (a0<(a1.do_.length:Int)))
   ((ix a1.do_ a0).bind λx0 =>
   (ext a2 x0.args).bind λx1 =>
   z5u n 0 a0 a1.re x1)
   (some a2)
def z5u:Nat->Int->Int->kz5->(List zz1)->Option (List zz1)
 |0,_,_,_,_=>none
 |n+1,a0,a1,a2,a3 =>
  (ix a2.do_ a1).bind λx2 =>
  pIf (decide (a0<(x2.items.length:Int)))
   ((ix a2.do_ a1).bind λx3 =>
   (ix x3.items a0).bind λx4 =>
   (ext a3 x4.args).bind λx5 =>
   z5u n (IntKind.i64.wrap (a0+1)) a1 a2.re x5)
   (z67 n (IntKind.i64.wrap (a1+1)) a2.re a3)
end
def ym6:LSh:=⟨[(2,(.d (.sl (.st 2))))],[],0,48⟩
noncomputable def zk1:FI dat:=FI.of dat 112 48 0 [(.d (.st 6))] [] [(.d (.sl (.st 2)))] [] true ym6 (R:=List zz1) (λx=>x.1) (λr=>(r,())) (λn x=>ze3 n x.1)
 (λn=>[(0,⟨⟨[(4,(.d (.int .i64))),(1,(.ptr 0 0)),(3,(.own 1))],[(.st 6),(.acc 43 (.st 2) true)],0,48⟩,λx=>z67 n x.1 x.2.1 x.2.2.1⟩),(1,⟨⟨[(5,(.d (.int .i64))),(4,(.d (.int .i64))),(1,(.ptr 0 0)),(3,(.own 1))],[(.st 6),(.acc 43 (.st 2) true)],0,48⟩,λx=>z5u n x.1 x.2.1 x.2.2.1 x.2.2.2.1⟩)]) (ann [(8,0),(22,1)] (Tryz.f112.body.getD .skip) 0).1
noncomputable def ykk:List (FI dat):=[]
theorem yjd:(zk1).Good Tryz.prog dat (tb ykk):=FI.yz4 (hD:=zz2 _) Tryz.func112 Tryz.ntmps112 Tryz.call112 (by kernel_rfl) (of_decide_eq_true (by kernel_rfl)) (by kernel_rfl) (λn=>by kernel_rfl) (λx=>by kernel_rfl) (λ_=>rfl) ⟨λ_=>rfl,λ_=>rfl,trivial⟩
 (λn=>λx=>(ze3.eq_2 x.1 n).trans (by kernel_rfl))
 (λn=>⟨λx=>(z67.eq_2 x.1 x.2.1 x.2.2.1 n).trans (by kernel_rfl),
  λx=>(z5u.eq_2 x.1 x.2.1 x.2.2.1 x.2.2.2.1 n).trans (by kernel_rfl),
  trivial⟩)
 (λx=>.inl rfl)
theorem yje:OkL Tryz.prog [zk1]:=zz6 (zz2 _) (bs:=[]) trivial yjd
theorem yeg:FOk Tryz.prog zk1:=yje.1
mutual
def zbc:Nat->kz4->Option (List z0q)
 |0,_=>none
 |n+1,a0 =>
  z7o n 0 [] a0
def z7o:Nat->Int->(List z0q)->kz4->Option (List z0q)
 |0,_,_,_=>none
 |n+1,a0,a1,a2 =>
  pIf (decide (a0<(a2.cases.length:Int)))
   (z55 n 0 a0 a1 a2)
   (some a1)
def z55:Nat->Int->Int->(List z0q)->kz4->Option (List z0q)
 |0,_,_,_,_=>none
 |n+1,a0,a1,a2,a3 =>
  (ix a3.cases a1).bind λx0 =>
  pIf (decide (a0<(x0.do_.length:Int)))
   ((ix a3.cases a1).bind λx1 =>
   (ix x1.do_ a0).bind λx2 =>
   pIf (x2.kind != 5)
    (z7t n a1 a0 (x2.kind != 6) x2 a3 a2)
    (z7t n a1 a0 false x2 a3 a2))
   (z7o n (IntKind.i64.wrap (a1+1)) a2 a3)
def z7t:Nat->Int->Int->Bool->zz3->kz4->(List z0q)->Option (List z0q)
 |0,_,_,_,_,_,_=>none
 |n+1,a0,a1,a2,a3,a4,a5 =>
  pIf a2
   ((zf4 n a3.kind).bind λy3 =>
   (ext a5 [(z0q.mk a3.name (IntKind.i64.wrap ((a3.args.length:Int)-y3)))]).bind λx4 =>
   z83 n a0 a1 a3 x4 a4)
   (z83 n a0 a1 a3 a5 a4)
def z83:Nat->Int->Int->zz3->(List z0q)->kz4->Option (List z0q)
 |0,_,_,_,_,_=>none
 |n+1,a0,a1,a2,a3,a4 =>
  z80 n 0 a0 a1 a2 a3 a4
def z80:Nat->Int->Int->Int->zz3->(List z0q)->kz4->Option (List z0q)
 |0,_,_,_,_,_,_=>none
 |n+1,a0,a1,a2,a3,a4,a5 =>
  pIf (decide (a0<(a3.items.length:Int)))
   ((ix a3.items a0).bind λx5 =>
   (ix a3.items a0).bind λx6 =>
   (ext a4 [(z0q.mk x5.name (IntKind.i64.wrap ((x6.args.length:Int)-1)))]).bind λx7 =>
   z80 n (IntKind.i64.wrap (a0+1)) a1 a2 a3 x7 a5)
   (z55 n (IntKind.i64.wrap (a2+1)) a1 a4 a5)
end
def yo7:LSh:=⟨[(2,(.d (.sl (.st 10))))],[],0,82⟩
noncomputable def zb0:FI dat:=FI.of dat 53 82 0 [(.d (.st 7))] [] [(.d (.sl (.st 10)))] [] true yo7 (R:=List z0q) (λx=>x.1) (λr=>(r,())) (λn x=>zbc n x.1)
 (λn=>[(0,⟨⟨[(3,(.own 0)),(4,(.d (.int .i64))),(1,(.ptr 1 0))],[(.acc 104 (.st 10) true),(.st 7)],0,82⟩,λx=>z7o n x.1 x.2.1 x.2.2.1⟩),(1,⟨⟨[(5,(.d (.int .i64))),(3,(.own 0)),(4,(.d (.int .i64))),(1,(.ptr 1 0))],[(.acc 104 (.st 10) true),(.st 7)],0,82⟩,λx=>z55 n x.1 x.2.1 x.2.2.1 x.2.2.2.1⟩),(2,⟨⟨[(6,(.ptr 0 0)),(4,(.d (.int .i64))),(1,(.ptr 1 0)),(5,(.d (.int .i64))),(3,(.own 2)),(42,(.d .bool))],[(.st 5),(.st 7),(.acc 104 (.st 10) true)],0,82⟩,λx=>z7t n x.1 x.2.1 x.2.2.1 x.2.2.2.1 x.2.2.2.2.1 x.2.2.2.2.2.1⟩),(3,⟨⟨[(6,(.ptr 0 0)),(3,(.own 1)),(4,(.d (.int .i64))),(1,(.ptr 2 0)),(5,(.d (.int .i64)))],[(.st 5),(.acc 104 (.st 10) true),(.st 7)],0,82⟩,λx=>z83 n x.1 x.2.1 x.2.2.1 x.2.2.2.1 x.2.2.2.2.1⟩),(4,⟨⟨[(7,(.d (.int .i64))),(6,(.ptr 0 0)),(3,(.own 1)),(4,(.d (.int .i64))),(1,(.ptr 2 0)),(5,(.d (.int .i64)))],[(.st 5),(.acc 104 (.st 10) true),(.st 7)],0,82⟩,λx=>z80 n x.1 x.2.1 x.2.2.1 x.2.2.2.1 x.2.2.2.2.1 x.2.2.2.2.2.1⟩)]) (ann [(8,0),(20,1),(34,2),(37,3),(40,4)] (Tryz.f53.body.getD .skip) 0).1
noncomputable def yoc:List (FI dat):=[zha]
theorem ysa:(zb0).Good Tryz.prog dat (tb yoc):=FI.yz4 (hD:=zz2 _) Tryz.func53 Tryz.ntmps53 Tryz.call53 (by kernel_rfl) (of_decide_eq_true (by kernel_rfl)) (by kernel_rfl) (λn=>by kernel_rfl) (λx=>by kernel_rfl) (λ_=>rfl) ⟨λ_=>rfl,λ_=>rfl,λ_=>rfl,λ_=>rfl,λ_=>rfl,trivial⟩
 (λn=>λx=>(zbc.eq_2 x.1 n).trans (by kernel_rfl))
 (λn=>⟨λx=>(z7o.eq_2 x.1 x.2.1 x.2.2.1 n).trans (by kernel_rfl),
  λx=>(z55.eq_2 x.1 x.2.1 x.2.2.1 x.2.2.2.1 n).trans (by kernel_rfl),
  λx=>(z7t.eq_2 x.1 x.2.1 x.2.2.1 x.2.2.2.1 x.2.2.2.2.1 x.2.2.2.2.2.1 n).trans (by kernel_rfl),
  λx=>(z83.eq_2 x.1 x.2.1 x.2.2.1 x.2.2.2.1 x.2.2.2.2.1 n).trans (by kernel_rfl),
  λx=>(z80.eq_2 x.1 x.2.1 x.2.2.1 x.2.2.2.1 x.2.2.2.2.1 x.2.2.2.2.2.1 n).trans (by kernel_rfl),
  trivial⟩)
 (λx=>.inl rfl)
theorem ypo:OkL Tryz.prog [zb0]:=zz6 (zz2 _) (bs:=[zha]) ⟨y3f,trivial⟩ ysa
theorem ztu:FOk Tryz.prog zb0:=ypo.1
mutual
def zel:Nat->zz0->Option Bool
 |0,_=>none
 |n+1,a0 =>
  (z5w n a0).bind λy0 =>
  z6p n 0 y0 a0
def z6p:Nat->Int->(List (List UInt8))->zz0->Option Bool
 |0,_,_,_=>none
 |n+1,a0,a1,a2 =>
  pIf (decide (a0<(a2.attrs.length:Int)))
   ((ix a2.attrs a0).bind λx1 =>
   (sub a1 0 a0).bind λx2 =>
   (z9z n x1.value.re x2).bind λy3 =>
   pIf (!y3)
    (some false)
    (z6p n (IntKind.i64.wrap (a0+1)) a1 a2))
   (z3w n 0 a1 a2)
def z3w:Nat->Int->(List (List UInt8))->zz0->Option Bool
 |0,_,_,_=>none
 |n+1,a0,a1,a2 =>
  pIf (decide (a0<(a2.rules.length:Int)))
   ((ix a2.rules a0).bind λx4 =>
   (ext [[115,120],[115,121],[115,122]] a1).bind λx5 =>
   (ext x5 x4.params).bind λx6 =>
   z3u n x6 0 a1 a0 x4 a2)
   (some true)
def z3u:Nat->(List (List UInt8))->Int->(List (List UInt8))->Int->kz4->zz0->Option Bool
 |0,_,_,_,_,_,_=>none
 |n+1,a0,a1,a2,a3,a4,a5 =>
  pIf (decide (a1<(a4.cases.length:Int)))
   ((ix a4.cases a1).bind λx7 =>
   (ze3 n x7.re).bind λy8 =>
   z6i n 0 a0 y8 a2 a3 a1 a4 a5)
   ((zbc n a4).bind λy9 =>
   z43 n 0 y9 a2 a3 a5)
def z6i:Nat->Int->(List (List UInt8))->(List zz1)->(List (List UInt8))->Int->Int->kz4->zz0->Option Bool
 |0,_,_,_,_,_,_,_,_=>none
 |n+1,a0,a1,a2,a3,a4,a5,a6,a7 =>
  pIf (decide (a0<(a2.length:Int)))
   ((ix a2 a0).bind λx10 =>
   (z9z n x10.re a1).bind λy11 =>
   pIf (!y11)
    (some false)
    (z6i n (IntKind.i64.wrap (a0+1)) a1 a2 a3 a4 a5 a6 a7))
   (z3u n a1 (IntKind.i64.wrap (a5+1)) a3 a4 a6 a7)
def z43:Nat->Int->(List z0q)->(List (List UInt8))->Int->zz0->Option Bool
 |0,_,_,_,_,_=>none
 |n+1,a0,a1,a2,a3,a4 =>
  pIf (decide (a0<(a1.length:Int)))
   ((z11 n a4).bind λy12 =>
   (ix a1 a0).bind λx13 =>
   (z44 n y12 x13.name).bind λy14 =>
   pIf (decide (y14<0))
    (some false)
    (z43 n (IntKind.i64.wrap (a0+1)) a1 a2 a3 a4))
   (z3w n (IntKind.i64.wrap (a3+1)) a2 a4)
end
def yl0:LSh:=⟨[(2,(.d .bool))],[],0,94⟩
noncomputable def zkc:FI dat:=FI.of dat 73 94 0 [(.d (.st 8))] [] [(.d .bool)] [] true yl0 (R:=Bool) (λx=>x.1) (λr=>(r,())) (λn x=>zel n x.1)
 (λn=>[(0,⟨⟨[(4,(.d (.int .i64))),(3,(.d (.sl .str))),(1,(.ptr 0 0))],[(.st 8)],0,94⟩,λx=>z6p n x.1 x.2.1 x.2.2.1⟩),(1,⟨⟨[(1,(.ptr 0 0)),(5,(.d (.int .i64))),(3,(.d (.sl .str)))],[(.st 8)],0,94⟩,λx=>z3w n x.1 x.2.1 x.2.2.1⟩),(2,⟨⟨[(7,(.d (.sl .str))),(8,(.d (.int .i64))),(6,(.ptr 0 0)),(1,(.ptr 1 0)),(3,(.d (.sl .str))),(5,(.d (.int .i64)))],[(.st 7),(.st 8)],0,94⟩,λx=>z3u n x.1 x.2.1 x.2.2.1 x.2.2.2.1 x.2.2.2.2.1 x.2.2.2.2.2.1⟩),(3,⟨⟨[(10,(.d (.int .i64))),(7,(.d (.sl .str))),(9,(.d (.sl (.st 2)))),(6,(.ptr 0 0)),(1,(.ptr 1 0)),(3,(.d (.sl .str))),(5,(.d (.int .i64))),(8,(.d (.int .i64)))],[(.st 7),(.st 8)],0,94⟩,λx=>z6i n x.1 x.2.1 x.2.2.1 x.2.2.2.1 x.2.2.2.2.1 x.2.2.2.2.2.1 x.2.2.2.2.2.2.1 x.2.2.2.2.2.2.2.1⟩),(4,⟨⟨[(12,(.d (.int .i64))),(11,(.d (.sl (.st 10)))),(1,(.ptr 0 0)),(3,(.d (.sl .str))),(5,(.d (.int .i64)))],[(.st 8)],0,94⟩,λx=>z43 n x.1 x.2.1 x.2.2.1 x.2.2.2.1 x.2.2.2.2.1⟩)]) (ann [(8,0),(29,1),(46,2),(60,3),(83,4)] (Tryz.f73.body.getD .skip) 0).1
noncomputable def ykd:List (FI dat):=[z97,zhk,zk1,zb0,z05,z0s]
theorem yjm:(zkc).Good Tryz.prog dat (tb ykd):=FI.yz4 (hD:=zz2 _) Tryz.func73 Tryz.ntmps73 Tryz.call73 (by kernel_rfl) (of_decide_eq_true (by kernel_rfl)) (by kernel_rfl) (λn=>by kernel_rfl) (λx=>by kernel_rfl) (λ_=>rfl) ⟨λ_=>rfl,λ_=>rfl,λ_=>rfl,λ_=>rfl,λ_=>rfl,trivial⟩
 (λn=>λx=>(zel.eq_2 x.1 n).trans (by kernel_rfl))
 (λn=>⟨λx=>(z6p.eq_2 x.1 x.2.1 x.2.2.1 n).trans (by kernel_rfl),
  λx=>(z3w.eq_2 x.1 x.2.1 x.2.2.1 n).trans (by kernel_rfl),
  λx=>(z3u.eq_2 x.1 x.2.1 x.2.2.1 x.2.2.2.1 x.2.2.2.2.1 x.2.2.2.2.2.1 n).trans (by kernel_rfl),
  λx=>(z6i.eq_2 x.1 x.2.1 x.2.2.1 x.2.2.2.1 x.2.2.2.2.1 x.2.2.2.2.2.1 x.2.2.2.2.2.2.1 x.2.2.2.2.2.2.2.1 n).trans (by kernel_rfl),
  λx=>(z43.eq_2 x.1 x.2.1 x.2.2.1 x.2.2.2.1 x.2.2.2.2.1 n).trans (by kernel_rfl),
  trivial⟩)
 (λx=>.inl rfl)
theorem yjv:OkL Tryz.prog [zkc]:=zz6 (zz2 _) (bs:=[z97,zhk,zk1,zb0,z05,z0s]) ⟨zqj,y9r,yeg,ztu,zbx,zcv,trivial⟩ yjm
theorem yeo:FOk Tryz.prog zkc:=yjv.1
mutual
def z4c:Nat->zz0->Option Int
 |0,_=>none
 |n+1,a0 =>
  (zg0 n a0).bind λy0 =>
  pIf y0
   (some 4)
   ((zc9 n a0).bind λy1 =>
   pIf (!y1)
    (some 8)
    ((zbf n a0).bind λy2 =>
    pIf y2
     (some 14)
     ((zel n a0).bind λy3 =>
     pIf (!y3)
      (some 6)
      (z6o n 0 a0))))
def z6o:Nat->Int->zz0->Option Int
 |0,_,_=>none
 |n+1,a0,a1 =>
  pIf (decide (a0<(a1.rules.length:Int)))
   ((ix a1.rules a0).bind λx4 =>
   (zbc n x4).bind λy5 =>
   z6g n 0 y5 a0 a1)
   (some 0)
def z6g:Nat->Int->(List z0q)->Int->zz0->Option Int
 |0,_,_,_,_=>none
 |n+1,a0,a1,a2,a3 =>
  pIf (decide (a0<(a1.length:Int)))
   ((ix a1 a0).bind λx6 =>
   (z11 n a3).bind λy7 =>
   (ix a1 a0).bind λx8 =>
   (z44 n y7 x8.name).bind λy9 =>
   (ix a3.rules y9).bind λx10 =>
   pIf (x6.many != (x10.params.length:Int))
    (some 2)
    (z6g n (IntKind.i64.wrap (a0+1)) a1 a2 a3))
   (z6o n (IntKind.i64.wrap (a2+1)) a3)
end
def yla:LSh:=⟨[(2,(.d (.int .i64)))],[],0,59⟩
noncomputable def zde:FI dat:=FI.of dat 38 59 0 [(.d (.st 8))] [] [(.d (.int .i64))] [] true yla (R:=Int) (λx=>x.1) (λr=>(r,())) (λn x=>z4c n x.1)
 (λn=>[(0,⟨⟨[(1,(.ptr 0 0)),(3,(.d (.int .i64)))],[(.st 8)],0,59⟩,λx=>z6o n x.1 x.2.1⟩),(1,⟨⟨[(5,(.d (.int .i64))),(4,(.d (.sl (.st 10)))),(1,(.ptr 0 0)),(3,(.d (.int .i64)))],[(.st 8)],0,59⟩,λx=>z6g n x.1 x.2.1 x.2.2.1 x.2.2.2.1⟩)]) (ann [(33,0),(47,1)] (Tryz.f38.body.getD .skip) 0).1
noncomputable def ykm:List (FI dat):=[zms,zhp,zfy,zkc,zb0,z05,z0s]
theorem ymb:(zde).Good Tryz.prog dat (tb ykm):=FI.yz4 (hD:=zz2 _) Tryz.func38 Tryz.ntmps38 Tryz.call38 (by kernel_rfl) (of_decide_eq_true (by kernel_rfl)) (by kernel_rfl) (λn=>by kernel_rfl) (λx=>by kernel_rfl) (λ_=>rfl) ⟨λ_=>rfl,λ_=>rfl,trivial⟩
 (λn=>λx=>(z4c.eq_2 x.1 n).trans (by kernel_rfl))
 (λn=>⟨λx=>(z6o.eq_2 x.1 x.2.1 n).trans (by kernel_rfl),
  λx=>(z6g.eq_2 x.1 x.2.1 x.2.2.1 x.2.2.2.1 n).trans (by kernel_rfl),
  trivial⟩)
 (λx=>.inl rfl)
theorem yl6:OkL Tryz.prog [zde]:=zz6 (zz2 _) (bs:=[zms,zhp,zfy,zkc,zb0,z05,z0s]) ⟨yjn,y9a,y6t,yeo,ztu,zbx,zcv,trivial⟩ ymb
theorem zyq:FOk Tryz.prog zde:=yl6.1
def z48:Nat->zz0->zz0->Option Int
 |0,_,_=>none
 |n+1,a0,a1 =>
  (z4c n a0).bind λy0 =>
  pIf (y0 != 0)
   ((z4c n a0).bind λy1 =>
   some y1)
   ((z4c n a1).bind λy2 =>
   some y2)
def yp2:LSh:=⟨[(4,(.d (.int .i64)))],[],0,12⟩
noncomputable def zb2:FI dat:=FI.of dat 17 12 0 [(.d (.st 8)),(.d (.st 8))] [] [(.d (.int .i64))] [] true yp2 (R:=Int) (λx=>x.1) (λr=>(r,())) (λn x=>z48 n x.1 x.2.1)
 (λn=>[]) (ann [] (Tryz.f17.body.getD .skip) 0).1
noncomputable def yph:List (FI dat):=[zde]
theorem yr3:(zb2).Good Tryz.prog dat (tb yph):=FI.yz4 (hD:=zz2 _) Tryz.func17 Tryz.ntmps17 Tryz.call17 (by kernel_rfl) (of_decide_eq_true (by kernel_rfl)) (by kernel_rfl) (λn=>by kernel_rfl) (λx=>by kernel_rfl) (λ_=>rfl) trivial
 (λn=>λx=>(z48.eq_2 x.1 x.2.1 n).trans (by kernel_rfl))
 (λn=>trivial)
 (λx=>.inl rfl)
theorem yp8:OkL Tryz.prog [zb2]:=zz6 (zz2 _) (bs:=[zde]) ⟨zyq,trivial⟩ yr3
theorem ztl:FOk Tryz.prog zb2:=yp8.1
end Go.Proofs.YtahcjggdcmgpkaaGreat
