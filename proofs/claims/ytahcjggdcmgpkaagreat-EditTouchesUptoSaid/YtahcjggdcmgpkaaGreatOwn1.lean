/-
  Go functions as Lean functions, by a program of this repo.
-/
import Derived.Test.YtahcjggdcmgpkaaGreatOwn0
namespace Go.Proofs.YtahcjggdcmgpkaaGreat
open Go Go.Ab
set_option linter.unusedVariables false
set_option maxRecDepth 100000
set_option maxHeartbeats 4000000
def kzm:Nat->(List (List UInt8))->(List (List UInt8))->(List Bool)->Option (Bool×(List (List UInt8))×(List Bool))
 |0,_,_,_=>none
 |n+1,a0,a1,a2 =>
  (kzy n a0 (mks (List.zip a1 a2)) (mvs (List.zip a1 a2))).bind λy0 =>
  some ((decide (y0.1>=0)),(mks (List.zip y0.2.1 y0.2.2)),(mvs (List.zip y0.2.1 y0.2.2)))
def zi2:LSh:=⟨[(4,(.d .bool))],[(.cells [(.map 1)]),(.mp 55 .bool)],2,9⟩
noncomputable def kzu:FI dat:=FI.of dat 22 9 2 [(.d (.sl .str)),(.fn 103 [] [(.ptr 0 0)])] [(.cells [(.map 1)]),(.mp 55 .bool)] [(.d .bool)] [(.cells [(.map 1)]),(.mp 55 .bool)] false zi2 (R:=Bool×(List (List UInt8))×(List Bool)) (λx=>(x.1,x.2.1,x.2.2.1)) (λr=>(r.1,r.2.1,r.2.2,())) (λn x=>kzm n x.1 x.2.1 x.2.2.1)
 (λn=>[]) (ann [] (Tryz.f22.body.getD .skip) 0).1
noncomputable def zh8:List (FI dat):=[z04]
theorem zhk:(kzu).Good Tryz.prog dat (tb zh8):=FI.yz4 (hD:=zz2 _) Tryz.func22 Tryz.ntmps22 Tryz.call22 (by kernel_rfl) (of_decide_eq_true (by kernel_rfl)) (by kernel_rfl) (λn=>by kernel_rfl) (λx=>by kernel_rfl) (λ_=>rfl) trivial
 (λn=>λx=>(kzm.eq_2 x.1 x.2.1 x.2.2.1 n).trans (by kernel_rfl))
 (λn=>trivial)
 (λx=>.inr (by kernel_rfl))
theorem zi6:OkL Tryz.prog [kzu]:=zz6 (zz2 _) (bs:=[z04]) ⟨zj3,trivial⟩ zhk
theorem zgq:FOk Tryz.prog kzu:=zi6.1
def zdo:Nat->zz1->(List (List UInt8))->(List Bool)->Option (Bool×(List (List UInt8))×(List Bool))
 |0,_,_,_=>none
 |n+1,a0,a1,a2 =>
  (zdb n a0.re).bind λy0 =>
  (kzm n y0.1 (mks (List.zip a1 a2)) (mvs (List.zip a1 a2))).bind λy1 =>
  some (y1.1,(mks (List.zip y1.2.1 y1.2.2)),(mvs (List.zip y1.2.1 y1.2.2)))
def yta:LSh:=⟨[(4,(.d .bool))],[(.mp 55 .bool)],1,15⟩
noncomputable def zfh:FI dat:=FI.of dat 58 15 1 [(.d (.st 2)),(.map 0)] [(.mp 55 .bool)] [(.d .bool)] [(.mp 55 .bool)] false yta (R:=Bool×(List (List UInt8))×(List Bool)) (λx=>(x.1,x.2.1,x.2.2.1)) (λr=>(r.1,r.2.1,r.2.2,())) (λn x=>zdo n x.1 x.2.1 x.2.2.1)
 (λn=>[]) (ann [] (Tryz.f58.body.getD .skip) 0).1
noncomputable def yq2:List (FI dat):=[kzu,zfb]
theorem yt9:(zfh).Good Tryz.prog dat (tb yq2):=FI.yz4 (hD:=zz2 _) Tryz.func58 Tryz.ntmps58 Tryz.call58 (by kernel_rfl) (of_decide_eq_true (by kernel_rfl)) (by kernel_rfl) (λn=>by kernel_rfl) (λx=>by kernel_rfl) (λ_=>rfl) trivial
 (λn=>λx=>(zdo.eq_2 x.1 x.2.1 x.2.2.1 n).trans (by kernel_rfl))
 (λn=>trivial)
 (λx=>.inr (by kernel_rfl))
theorem yq3:OkL Tryz.prog [zfh]:=zz6 (zz2 _) (bs:=[kzu,zfb]) ⟨zgq,y17,trivial⟩ yt9
theorem y1h:FOk Tryz.prog zfh:=yq3.1
mutual
def zer:Nat->kz4->Option (List zz1)
 |0,_=>none
 |n+1,a0 =>
  z5z n 0 a0.cases (a0.cases.length:Int) []
def z5z:Nat->Int->(List kz5)->Int->(List zz1)->Option (List zz1)
 |0,_,_,_,_=>none
 |n+1,a0,a1,a2,a3 =>
  pIf (decide (a0<a2))
   ((ix a1 a0).bind λx0 =>
   (ext a3 [x0.when_.re]).bind λx1 =>
   z5w n 0 x0.do_ a1 a2 a0 (x0.do_.length:Int) x1)
   (some a3)
def z5w:Nat->Int->(List zz3)->(List kz5)->Int->Int->Int->(List zz1)->Option (List zz1)
 |0,_,_,_,_,_,_,_=>none
 |n+1,a0,a1,a2,a3,a4,a5,a6 =>
  pIf (decide (a0<a5))
   ((ix a1 a0).bind λx2 =>
   (ext a6 x2.args).bind λx3 =>
   z60 n 0 x2.items a1 a2 a3 a4 a5 a0 (x2.items.length:Int) x3)
   (z5z n (IntKind.i64.wrap (a4+1)) a2 a3 a6)
def z60:Nat->Int->(List yza)->(List zz3)->(List kz5)->Int->Int->Int->Int->Int->(List zz1)->Option (List zz1)
 |0,_,_,_,_,_,_,_,_,_,_=>none
 |n+1,a0,a1,a2,a3,a4,a5,a6,a7,a8,a9 =>
  pIf (decide (a0<a8))
   ((ix a1 a0).bind λx4 =>
   (ext a9 x4.args).bind λx5 =>
   z60 n (IntKind.i64.wrap (a0+1)) a1 a2 a3 a4 a5 a6 a7 a8 x5)
   (z5w n (IntKind.i64.wrap (a7+1)) a2 a3 a4 a5 a6 a9)
end
def yl7:LSh:=⟨[(2,(.d (.sl (.st 2))))],[],0,48⟩
noncomputable def zke:FI dat:=FI.of dat 61 48 0 [(.d (.st 7))] [] [(.d (.sl (.st 2)))] [] true yl7 (R:=List zz1) (λx=>x.1) (λr=>(r,())) (λn x=>zer n x.1)
 (λn=>[(0,⟨⟨[(13,(.d (.int .i64))),(3,(.own 0)),(11,(.d (.sl (.st 6)))),(12,(.d (.int .i64)))],[(.acc 43 (.st 2) true)],0,48⟩,λx=>z5z n x.1 x.2.1 x.2.2.1 x.2.2.2.1⟩),(1,⟨⟨[(25,(.d (.int .i64))),(3,(.own 0)),(23,(.d (.sl (.st 5)))),(11,(.d (.sl (.st 6)))),(12,(.d (.int .i64))),(13,(.d (.int .i64))),(24,(.d (.int .i64)))],[(.acc 43 (.st 2) true)],0,48⟩,λx=>z5w n x.1 x.2.1 x.2.2.1 x.2.2.2.1 x.2.2.2.2.1 x.2.2.2.2.2.1 x.2.2.2.2.2.2.1⟩),(2,⟨⟨[(36,(.d (.int .i64))),(3,(.own 0)),(34,(.d (.sl (.st 4)))),(23,(.d (.sl (.st 5)))),(11,(.d (.sl (.st 6)))),(12,(.d (.int .i64))),(13,(.d (.int .i64))),(24,(.d (.int .i64))),(25,(.d (.int .i64))),(35,(.d (.int .i64)))],[(.acc 43 (.st 2) true)],0,48⟩,λx=>z60 n x.1 x.2.1 x.2.2.1 x.2.2.2.1 x.2.2.2.2.1 x.2.2.2.2.2.1 x.2.2.2.2.2.2.1 x.2.2.2.2.2.2.2.1 x.2.2.2.2.2.2.2.2.1 x.2.2.2.2.2.2.2.2.2.1⟩)]) (ann [(8,0),(24,1),(40,2)] (Tryz.f61.body.getD .skip) 0).1
noncomputable def yiv:List (FI dat):=[]
theorem yjo:(zke).Good Tryz.prog dat (tb yiv):=FI.yz4 (hD:=zz2 _) Tryz.func61 Tryz.ntmps61 Tryz.call61 (by kernel_rfl) (of_decide_eq_true (by kernel_rfl)) (by kernel_rfl) (λn=>by kernel_rfl) (λx=>by kernel_rfl) (λ_=>rfl) ⟨λ_=>rfl,λ_=>rfl,λ_=>rfl,trivial⟩
 (λn=>λx=>(zer.eq_2 x.1 n).trans (by kernel_rfl))
 (λn=>⟨λx=>(z5z.eq_2 x.1 x.2.1 x.2.2.1 x.2.2.2.1 n).trans (by kernel_rfl),
  λx=>(z5w.eq_2 x.1 x.2.1 x.2.2.1 x.2.2.2.1 x.2.2.2.2.1 x.2.2.2.2.2.1 x.2.2.2.2.2.2.1 n).trans (by kernel_rfl),
  λx=>(z60.eq_2 x.1 x.2.1 x.2.2.1 x.2.2.2.1 x.2.2.2.2.1 x.2.2.2.2.2.1 x.2.2.2.2.2.2.1 x.2.2.2.2.2.2.2.1 x.2.2.2.2.2.2.2.2.1 x.2.2.2.2.2.2.2.2.2.1 n).trans (by kernel_rfl),
  trivial⟩)
 (λx=>.inl rfl)
theorem yjn:OkL Tryz.prog [zke]:=zz6 (zz2 _) (bs:=[]) trivial yjo
theorem yfi:FOk Tryz.prog zke:=yjn.1
def zbe:Nat->zz1->(List (List UInt8))->(List Bool)->Option (Bool×(List (List UInt8))×(List Bool))
 |0,_,_,_=>none
 |n+1,a0,a1,a2 =>
  (zdo n a0.re (mks (List.zip a1 a2)) (mvs (List.zip a1 a2))).bind λy0 =>
  some (y0.1,(mks (List.zip y0.2.1 y0.2.2)),(mvs (List.zip y0.2.1 y0.2.2)))
def y9f:LSh:=⟨[(3,(.d .bool))],[(.cells [(.map 1)]),(.mp 55 .bool)],2,7⟩
noncomputable def zfu:FI dat:=FI.of dat 62 7 2 [(.d (.st 2)),(.ptr 0 0)] [(.cells [(.map 1)]),(.mp 55 .bool)] [(.d .bool)] [(.cells [(.map 1)]),(.mp 55 .bool)] false y9f (R:=Bool×(List (List UInt8))×(List Bool)) (λx=>(x.1,x.2.1,x.2.2.1)) (λr=>(r.1,r.2.1,r.2.2,())) (λn x=>zbe n x.1 x.2.1 x.2.2.1)
 (λn=>[]) (ann [] (Tryz.f62.body.getD .skip) 0).1
noncomputable def yar:List (FI dat):=[zfh]
theorem yam:(zfu).Good Tryz.prog dat (tb yar):=FI.yz4 (hD:=zz2 _) Tryz.func62 Tryz.ntmps62 Tryz.call62 (by kernel_rfl) (of_decide_eq_true (by kernel_rfl)) (by kernel_rfl) (λn=>by kernel_rfl) (λx=>by kernel_rfl) (λ_=>rfl) trivial
 (λn=>λx=>(zbe.eq_2 x.1 x.2.1 x.2.2.1 n).trans (by kernel_rfl))
 (λn=>trivial)
 (λx=>.inr (by kernel_rfl))
theorem yb1:OkL Tryz.prog [zfu]:=zz6 (zz2 _) (bs:=[zfh]) ⟨y1h,trivial⟩ yam
theorem y5q:FOk Tryz.prog zfu:=yb1.1
mutual
def yzx:Nat->(List zz1)->(List (List UInt8))->(List Bool)->Option (Int×(List (List UInt8))×(List Bool))
 |0,_,_,_=>none
 |n+1,a0,a1,a2 =>
  zzf n 0 a0 (a0.length:Int) (mks (List.zip a1 a2)) (mvs (List.zip a1 a2))
def zzf:Nat->Int->(List zz1)->Int->(List (List UInt8))->(List Bool)->Option (Int×(List (List UInt8))×(List Bool))
 |0,_,_,_,_,_=>none
 |n+1,a0,a1,a2,a3,a4 =>
  pIf (decide (a0<a2))
   ((ix a1 a0).bind λx0 =>
   (zbe n x0.re (mks (List.zip a3 a4)) (mvs (List.zip a3 a4))).bind λy1 =>
   pIf y1.1
    (some (a0,(mks (List.zip y1.2.1 y1.2.2)),(mvs (List.zip y1.2.1 y1.2.2))))
    (zzf n (IntKind.i64.wrap (a0+1)) a1 a2 (mks (List.zip y1.2.1 y1.2.2)) (mvs (List.zip y1.2.1 y1.2.2))))
   (some ((-1),(mks (List.zip a3 a4)),(mvs (List.zip a3 a4))))
end
def zjb:LSh:=⟨[(4,(.d (.int .i64)))],[(.cells [(.map 1)]),(.mp 55 .bool)],2,19⟩
noncomputable def yzz:FI dat:=FI.of dat 104 19 2 [(.d (.sl (.st 2))),(.fn 62 [] [(.ptr 0 0)])] [(.cells [(.map 1)]),(.mp 55 .bool)] [(.d (.int .i64))] [(.cells [(.map 1)]),(.mp 55 .bool)] false zjb (R:=Int×(List (List UInt8))×(List Bool)) (λx=>(x.1,x.2.1,x.2.2.1)) (λr=>(r.1,r.2.1,r.2.2,())) (λn x=>yzx n x.1 x.2.1 x.2.2.1)
 (λn=>[(0,⟨⟨[(8,(.d (.int .i64))),(0,(.d (.sl (.st 2)))),(1,(.fn 62 [] [(.ptr 0 0)])),(7,(.d (.int .i64)))],[(.cells [(.map 1)]),(.mp 55 .bool)],2,19⟩,λx=>zzf n x.1 x.2.1 x.2.2.1 x.2.2.2.1 x.2.2.2.2.1⟩)]) (ann [(6,0)] (Tryz.f104.body.getD .skip) 0).1
noncomputable def zj2:List (FI dat):=[zfu]
theorem zjf:(yzz).Good Tryz.prog dat (tb zj2):=FI.yz4 (hD:=zz2 _) Tryz.func104 Tryz.ntmps104 Tryz.call104 (by kernel_rfl) (of_decide_eq_true (by kernel_rfl)) (by kernel_rfl) (λn=>by kernel_rfl) (λx=>by kernel_rfl) (λ_=>rfl) ⟨λ_=>rfl,trivial⟩
 (λn=>λx=>(yzx.eq_2 x.1 x.2.1 x.2.2.1 n).trans (by kernel_rfl))
 (λn=>⟨λx=>(zzf.eq_2 x.1 x.2.1 x.2.2.1 x.2.2.2.1 x.2.2.2.2.1 n).trans (by kernel_rfl),
  trivial⟩)
 (λx=>.inr (by kernel_rfl))
theorem zj4:OkL Tryz.prog [yzz]:=zz6 (zz2 _) (bs:=[zfu]) ⟨y5q,trivial⟩ zjf
theorem zig:FOk Tryz.prog yzz:=zj4.1
def zzj:Nat->(List zz1)->(List (List UInt8))->(List Bool)->Option (Bool×(List (List UInt8))×(List Bool))
 |0,_,_,_=>none
 |n+1,a0,a1,a2 =>
  (yzx n a0 (mks (List.zip a1 a2)) (mvs (List.zip a1 a2))).bind λy0 =>
  some ((decide (y0.1>=0)),(mks (List.zip y0.2.1 y0.2.2)),(mvs (List.zip y0.2.1 y0.2.2)))
def zgo:LSh:=⟨[(4,(.d .bool))],[(.cells [(.map 1)]),(.mp 55 .bool)],2,9⟩
noncomputable def kzt:FI dat:=FI.of dat 60 9 2 [(.d (.sl (.st 2))),(.fn 62 [] [(.ptr 0 0)])] [(.cells [(.map 1)]),(.mp 55 .bool)] [(.d .bool)] [(.cells [(.map 1)]),(.mp 55 .bool)] false zgo (R:=Bool×(List (List UInt8))×(List Bool)) (λx=>(x.1,x.2.1,x.2.2.1)) (λr=>(r.1,r.2.1,r.2.2,())) (λn x=>zzj n x.1 x.2.1 x.2.2.1)
 (λn=>[]) (ann [] (Tryz.f60.body.getD .skip) 0).1
noncomputable def zh3:List (FI dat):=[yzz]
theorem zh4:(kzt).Good Tryz.prog dat (tb zh3):=FI.yz4 (hD:=zz2 _) Tryz.func60 Tryz.ntmps60 Tryz.call60 (by kernel_rfl) (of_decide_eq_true (by kernel_rfl)) (by kernel_rfl) (λn=>by kernel_rfl) (λx=>by kernel_rfl) (λ_=>rfl) trivial
 (λn=>λx=>(zzj.eq_2 x.1 x.2.1 x.2.2.1 n).trans (by kernel_rfl))
 (λn=>trivial)
 (λx=>.inr (by kernel_rfl))
theorem zgs:OkL Tryz.prog [kzt]:=zz6 (zz2 _) (bs:=[yzz]) ⟨zig,trivial⟩ zh4
theorem zgc:FOk Tryz.prog kzt:=zgs.1
mutual
def zc0:Nat->kz4->Option (List zzq)
 |0,_=>none
 |n+1,a0 =>
  z6j n 0 a0.cases (a0.cases.length:Int) []
def z6j:Nat->Int->(List kz5)->Int->(List zzq)->Option (List zzq)
 |0,_,_,_,_=>none
 |n+1,a0,a1,a2,a3 =>
  pIf (decide (a0<a2))
   ((ix a1 a0).bind λx0 =>
   z3q n 0 x0.do_ a1 a2 a0 (x0.do_.length:Int) a3)
   (some a3)
def z3q:Nat->Int->(List zz3)->(List kz5)->Int->Int->Int->(List zzq)->Option (List zzq)
 |0,_,_,_,_,_,_,_=>none
 |n+1,a0,a1,a2,a3,a4,a5,a6 =>
  pIf (decide (a0<a5))
   ((ix a1 a0).bind λx1 =>
   pIf (!(x1.name==[]))
    ((zcp n x1.kind).bind λy2 =>
    (ext a6 [(zzq.mk x1.name (IntKind.i64.wrap ((x1.args.length:Int)-y2)))]).bind λx3 =>
    z6b n a1 a2 a3 a4 a5 a0 x3 x1)
    (z6b n a1 a2 a3 a4 a5 a0 a6 x1))
   (z6j n (IntKind.i64.wrap (a4+1)) a2 a3 a6)
def z6b:Nat->(List zz3)->(List kz5)->Int->Int->Int->Int->(List zzq)->zz3->Option (List zzq)
 |0,_,_,_,_,_,_,_,_=>none
 |n+1,a0,a1,a2,a3,a4,a5,a6,a7 =>
  z5y n 0 a7.items a0 a1 a2 a3 a4 a5 (a7.items.length:Int) a6
def z5y:Nat->Int->(List yza)->(List zz3)->(List kz5)->Int->Int->Int->Int->Int->(List zzq)->Option (List zzq)
 |0,_,_,_,_,_,_,_,_,_,_=>none
 |n+1,a0,a1,a2,a3,a4,a5,a6,a7,a8,a9 =>
  pIf (decide (a0<a8))
   ((ix a1 a0).bind λx4 =>
   (ext a9 [(zzq.mk x4.name (IntKind.i64.wrap ((x4.args.length:Int)-1)))]).bind λx5 =>
   z5y n (IntKind.i64.wrap (a0+1)) a1 a2 a3 a4 a5 a6 a7 a8 x5)
   (z3q n (IntKind.i64.wrap (a7+1)) a2 a3 a4 a5 a6 a9)
end
def yhw:LSh:=⟨[(2,(.d (.sl (.st 9))))],[],0,61⟩
noncomputable def zda:FI dat:=FI.of dat 50 61 0 [(.d (.st 7))] [] [(.d (.sl (.st 9)))] [] true yhw (R:=List zzq) (λx=>x.1) (λr=>(r,())) (λn x=>zc0 n x.1)
 (λn=>[(0,⟨⟨[(3,(.own 0)),(13,(.d (.int .i64))),(11,(.d (.sl (.st 6)))),(12,(.d (.int .i64)))],[(.acc 98 (.st 9) true)],0,61⟩,λx=>z6j n x.1 x.2.1 x.2.2.1 x.2.2.2.1⟩),(1,⟨⟨[(20,(.d (.int .i64))),(3,(.own 0)),(18,(.d (.sl (.st 5)))),(11,(.d (.sl (.st 6)))),(12,(.d (.int .i64))),(13,(.d (.int .i64))),(19,(.d (.int .i64)))],[(.acc 98 (.st 9) true)],0,61⟩,λx=>z3q n x.1 x.2.1 x.2.2.1 x.2.2.2.1 x.2.2.2.2.1 x.2.2.2.2.2.1 x.2.2.2.2.2.2.1⟩),(2,⟨⟨[(3,(.own 0)),(18,(.d (.sl (.st 5)))),(11,(.d (.sl (.st 6)))),(12,(.d (.int .i64))),(13,(.d (.int .i64))),(19,(.d (.int .i64))),(20,(.d (.int .i64))),(7,(.ptr 1 0))],[(.acc 98 (.st 9) true),(.st 5)],0,61⟩,λx=>z6b n x.1 x.2.1 x.2.2.1 x.2.2.2.1 x.2.2.2.2.1 x.2.2.2.2.2.1 x.2.2.2.2.2.2.1 x.2.2.2.2.2.2.2.1⟩),(3,⟨⟨[(43,(.d (.int .i64))),(3,(.own 0)),(41,(.d (.sl (.st 4)))),(18,(.d (.sl (.st 5)))),(11,(.d (.sl (.st 6)))),(12,(.d (.int .i64))),(13,(.d (.int .i64))),(19,(.d (.int .i64))),(20,(.d (.int .i64))),(42,(.d (.int .i64)))],[(.acc 98 (.st 9) true)],0,61⟩,λx=>z5y n x.1 x.2.1 x.2.2.1 x.2.2.2.1 x.2.2.2.2.1 x.2.2.2.2.2.1 x.2.2.2.2.2.2.1 x.2.2.2.2.2.2.2.1 x.2.2.2.2.2.2.2.2.1 x.2.2.2.2.2.2.2.2.2.1⟩)]) (ann [(8,0),(22,1),(39,2),(42,3)] (Tryz.f50.body.getD .skip) 0).1
noncomputable def yhb:List (FI dat):=[zi7]
theorem ylr:(zda).Good Tryz.prog dat (tb yhb):=FI.yz4 (hD:=zz2 _) Tryz.func50 Tryz.ntmps50 Tryz.call50 (by kernel_rfl) (of_decide_eq_true (by kernel_rfl)) (by kernel_rfl) (λn=>by kernel_rfl) (λx=>by kernel_rfl) (λ_=>rfl) ⟨λ_=>rfl,λ_=>rfl,λ_=>rfl,λ_=>rfl,trivial⟩
 (λn=>λx=>(zc0.eq_2 x.1 n).trans (by kernel_rfl))
 (λn=>⟨λx=>(z6j.eq_2 x.1 x.2.1 x.2.2.1 x.2.2.2.1 n).trans (by kernel_rfl),
  λx=>(z3q.eq_2 x.1 x.2.1 x.2.2.1 x.2.2.2.1 x.2.2.2.2.1 x.2.2.2.2.2.1 x.2.2.2.2.2.2.1 n).trans (by kernel_rfl),
  λx=>(z6b.eq_2 x.1 x.2.1 x.2.2.1 x.2.2.2.1 x.2.2.2.2.1 x.2.2.2.2.2.1 x.2.2.2.2.2.2.1 x.2.2.2.2.2.2.2.1 n).trans (by kernel_rfl),
  λx=>(z5y.eq_2 x.1 x.2.1 x.2.2.1 x.2.2.2.1 x.2.2.2.2.1 x.2.2.2.2.2.1 x.2.2.2.2.2.2.1 x.2.2.2.2.2.2.2.1 x.2.2.2.2.2.2.2.2.1 x.2.2.2.2.2.2.2.2.2.1 n).trans (by kernel_rfl),
  trivial⟩)
 (λx=>.inl rfl)
theorem yl6:OkL Tryz.prog [zda]:=zz6 (zz2 _) (bs:=[zi7]) ⟨y39,trivial⟩ ylr
theorem zxi:FOk Tryz.prog zda:=yl6.1
mutual
noncomputable def z9c:Nat->zz0->Option Int
 |0,_=>none
 |n+1,a0 =>
  (zg1 n a0).bind λy0 =>
  pIf y0
   (some 4)
   ((zcj n a0).bind λy1 =>
   pIf (!y1)
    (some 8)
    (z5v n 0 false a0.attrs (a0.attrs.length:Int) [] [] [] [] a0))
noncomputable def z5v:Nat->Int->Bool->(List zz7)->Int->(List (List UInt8))->(List Bool)->(List (List UInt8))->(List Int)->zz0->Option Int
 |0,_,_,_,_,_,_,_,_,_=>none
 |n+1,a0,a1,a2,a3,a4,a5,a6,a7,a8 =>
  pIf (decide (a0<a3))
   ((ix a2 a0).bind λx2 =>
   pIf a1
    (z6t n true a2 a3 a0 (mks (List.zip a4 a5)) (mvs (List.zip a4 a5)) (mks (List.zip a6 a7)) (mvs (List.zip a6 a7)) a8 x2.re)
    ((zdo n x2.value.re (mks (List.zip a4 a5)) (mvs (List.zip a4 a5))).bind λy3 =>
    z6t n y3.1 a2 a3 a0 (mks (List.zip y3.2.1 y3.2.2)) (mvs (List.zip y3.2.1 y3.2.2)) (mks (List.zip a6 a7)) (mvs (List.zip a6 a7)) a8 x2.re))
   (z5u n 0 a8.rules a1 (a8.rules.length:Int) (mks (List.zip a4 a5)) (mvs (List.zip a4 a5)) (mks (List.zip a6 a7)) (mvs (List.zip a6 a7)) a8)
noncomputable def z6t:Nat->Bool->(List zz7)->Int->Int->(List (List UInt8))->(List Bool)->(List (List UInt8))->(List Int)->zz0->zz7->Option Int
 |0,_,_,_,_,_,_,_,_,_,_=>none
 |n+1,a0,a1,a2,a3,a4,a5,a6,a7,a8,a9 =>
  pIf (Option.getD (z3p (List.zip a4 a5) a9.name) false)
   (some 14)
   (z5v n (IntKind.i64.wrap (a3+1)) a0 a1 a2 (mks (z95 (List.zip a4 a5) a9.name true)) (mvs (z95 (List.zip a4 a5) a9.name true)) (mks (List.zip a6 a7)) (mvs (List.zip a6 a7)) a8)
noncomputable def z5u:Nat->Int->(List kz4)->Bool->Int->(List (List UInt8))->(List Bool)->(List (List UInt8))->(List Int)->zz0->Option Int
 |0,_,_,_,_,_,_,_,_,_=>none
 |n+1,a0,a1,a2,a3,a4,a5,a6,a7,a8 =>
  pIf (decide (a0<a3))
   ((ix a1 a0).bind λx4 =>
   pIf (Option.isSome (z3p (List.zip a6 a7) x4.name))
    (some 14)
    (z6c n 0 x4.params a1 a2 a3 a0 (x4.params.length:Int) x4 (mks (List.zip a4 a5)) (mvs (List.zip a4 a5)) (mks (z95 (List.zip a6 a7) x4.name a0)) (mvs (z95 (List.zip a6 a7) x4.name a0)) a8))
   (z3x n false 0 a2 (mks (List.zip a4 a5)) (mvs (List.zip a4 a5)) a8.rules (a8.rules.length:Int) a8 (mks (List.zip a6 a7)) (mvs (List.zip a6 a7)))
noncomputable def z6c:Nat->Int->(List (List UInt8))->(List kz4)->Bool->Int->Int->Int->kz4->(List (List UInt8))->(List Bool)->(List (List UInt8))->(List Int)->zz0->Option Int
 |0,_,_,_,_,_,_,_,_,_,_,_,_,_=>none
 |n+1,a0,a1,a2,a3,a4,a5,a6,a7,a8,a9,a10,a11,a12 =>
  pIf (decide (a0<a6))
   ((ix a1 a0).bind λx5 =>
   pIf (Option.getD (z3p (List.zip a8 a9) x5) false)
    (z71 n a1 a2 a3 a4 a5 a6 a0 true a7 (mks (List.zip a8 a9)) (mvs (List.zip a8 a9)) (mks (List.zip a10 a11)) (mvs (List.zip a10 a11)) a12)
    ((zzv n a7.params x5).bind λy6 =>
    z71 n a1 a2 a3 a4 a5 a6 a0 (decide (y6<a0)) a7 (mks (List.zip a8 a9)) (mvs (List.zip a8 a9)) (mks (List.zip a10 a11)) (mvs (List.zip a10 a11)) a12))
   (z5u n (IntKind.i64.wrap (a5+1)) a2 a3 a4 (mks (List.zip a8 a9)) (mvs (List.zip a8 a9)) (mks (List.zip a10 a11)) (mvs (List.zip a10 a11)) a12)
noncomputable def z71:Nat->(List (List UInt8))->(List kz4)->Bool->Int->Int->Int->Int->Bool->kz4->(List (List UInt8))->(List Bool)->(List (List UInt8))->(List Int)->zz0->Option Int
 |0,_,_,_,_,_,_,_,_,_,_,_,_,_,_=>none
 |n+1,a0,a1,a2,a3,a4,a5,a6,a7,a8,a9,a10,a11,a12,a13 =>
  pIf a7
   (some 14)
   (z6c n (IntKind.i64.wrap (a6+1)) a0 a1 a2 a3 a4 a5 a8 (mks (List.zip a9 a10)) (mvs (List.zip a9 a10)) (mks (List.zip a11 a12)) (mvs (List.zip a11 a12)) a13)
noncomputable def z3x:Nat->Bool->Int->Bool->(List (List UInt8))->(List Bool)->(List kz4)->Int->zz0->(List (List UInt8))->(List Int)->Option Int
 |0,_,_,_,_,_,_,_,_,_,_=>none
 |n+1,a0,a1,a2,a3,a4,a5,a6,a7,a8,a9 =>
  pIf (decide (a1<a6))
   ((ix a5 a1).bind λx7 =>
   z6u n a0 (mks (List.zip a3 a4)) (mvs (List.zip a3 a4)) a5 a6 a1 a2 (mks (List.zip a3 a4)) (mvs (List.zip a3 a4)) a7 (mks (List.zip a8 a9)) (mvs (List.zip a8 a9)) x7 (mks (z95 (z95 (z95 [] [115,120] true) [115,121] true) [115,122] true)) (mvs (z95 (z95 (z95 [] [115,120] true) [115,121] true) [115,122] true)))
   (pIf a2
     (some 6)
     (pIf a0
       (some 2)
       (some 0)))
noncomputable def z6u:Nat->Bool->(List (List UInt8))->(List Bool)->(List kz4)->Int->Int->Bool->(List (List UInt8))->(List Bool)->zz0->(List (List UInt8))->(List Int)->kz4->(List (List UInt8))->(List Bool)->Option Int
 |0,_,_,_,_,_,_,_,_,_,_,_,_,_,_,_=>none
 |n+1,a0,a1,a2,a3,a4,a5,a6,a7,a8,a9,a10,a11,a12,a13,a14 =>
  y82 (List.zip a7 a8) (λk8 v9 r10 =>
   z6u n a0 (mks (List.zip a1 a2)) (mvs (List.zip a1 a2)) a3 a4 a5 a6 (mks r10) (mvs r10) a9 (mks (List.zip a10 a11)) (mvs (List.zip a10 a11)) a12 (mks (z95 (List.zip a13 a14) k8 true)) (mvs (z95 (List.zip a13 a14) k8 true)))
   (z3w n 0 a12.params a0 (mks (List.zip a1 a2)) (mvs (List.zip a1 a2)) a3 a4 a5 a6 (a12.params.length:Int) a9 (mks (List.zip a10 a11)) (mvs (List.zip a10 a11)) a12 (mks (List.zip a13 a14)) (mvs (List.zip a13 a14)))
noncomputable def z3w:Nat->Int->(List (List UInt8))->Bool->(List (List UInt8))->(List Bool)->(List kz4)->Int->Int->Bool->Int->zz0->(List (List UInt8))->(List Int)->kz4->(List (List UInt8))->(List Bool)->Option Int
 |0,_,_,_,_,_,_,_,_,_,_,_,_,_,_,_,_=>none
 |n+1,a0,a1,a2,a3,a4,a5,a6,a7,a8,a9,a10,a11,a12,a13,a14,a15 =>
  pIf (decide (a0<a9))
   ((ix a1 a0).bind λx11 =>
   z3w n (IntKind.i64.wrap (a0+1)) a1 a2 (mks (List.zip a3 a4)) (mvs (List.zip a3 a4)) a5 a6 a7 a8 a9 a10 (mks (List.zip a11 a12)) (mvs (List.zip a11 a12)) a13 (mks (z95 (List.zip a14 a15) x11 true)) (mvs (z95 (List.zip a14 a15) x11 true)))
   (pIf a8
     (z6r n a2 true (mks (List.zip a3 a4)) (mvs (List.zip a3 a4)) a5 a6 a7 a10 (mks (List.zip a11 a12)) (mvs (List.zip a11 a12)) a13)
     ((zer n a13).bind λy12 =>
     (zzj n y12 (mks (List.zip a14 a15)) (mvs (List.zip a14 a15))).bind λy13 =>
     z6r n a2 y13.1 (mks (List.zip a3 a4)) (mvs (List.zip a3 a4)) a5 a6 a7 a10 (mks (List.zip a11 a12)) (mvs (List.zip a11 a12)) a13))
noncomputable def z6r:Nat->Bool->Bool->(List (List UInt8))->(List Bool)->(List kz4)->Int->Int->zz0->(List (List UInt8))->(List Int)->kz4->Option Int
 |0,_,_,_,_,_,_,_,_,_,_,_=>none
 |n+1,a0,a1,a2,a3,a4,a5,a6,a7,a8,a9,a10 =>
  (zc0 n a10).bind λy14 =>
  z6a n 0 a0 a1 y14 (mks (List.zip a2 a3)) (mvs (List.zip a2 a3)) a4 a5 a6 (y14.length:Int) a7 (mks (List.zip a8 a9)) (mvs (List.zip a8 a9))
noncomputable def z6a:Nat->Int->Bool->Bool->(List zzq)->(List (List UInt8))->(List Bool)->(List kz4)->Int->Int->Int->zz0->(List (List UInt8))->(List Int)->Option Int
 |0,_,_,_,_,_,_,_,_,_,_,_,_,_=>none
 |n+1,a0,a1,a2,a3,a4,a5,a6,a7,a8,a9,a10,a11,a12 =>
  pIf (decide (a0<a9))
   ((ix a3 a0).bind λx15 =>
   pIf a2
    (z4o n true a3 (mks (List.zip a4 a5)) (mvs (List.zip a4 a5)) a6 a7 a8 a9 a0 (Option.getD (z3p (List.zip a11 a12) x15.name) 0) (Option.isSome (z3p (List.zip a11 a12) x15.name)) a1 a10 (mks (List.zip a11 a12)) (mvs (List.zip a11 a12)) x15)
    (z4o n (!(Option.isSome (z3p (List.zip a11 a12) x15.name))) a3 (mks (List.zip a4 a5)) (mvs (List.zip a4 a5)) a6 a7 a8 a9 a0 (Option.getD (z3p (List.zip a11 a12) x15.name) 0) (Option.isSome (z3p (List.zip a11 a12) x15.name)) a1 a10 (mks (List.zip a11 a12)) (mvs (List.zip a11 a12)) x15))
   (z3x n a1 (IntKind.i64.wrap (a8+1)) a2 (mks (List.zip a4 a5)) (mvs (List.zip a4 a5)) a6 a7 a10 (mks (List.zip a11 a12)) (mvs (List.zip a11 a12)))
noncomputable def z4o:Nat->Bool->(List zzq)->(List (List UInt8))->(List Bool)->(List kz4)->Int->Int->Int->Int->Int->Bool->Bool->zz0->(List (List UInt8))->(List Int)->zzq->Option Int
 |0,_,_,_,_,_,_,_,_,_,_,_,_,_,_,_,_=>none
 |n+1,a0,a1,a2,a3,a4,a5,a6,a7,a8,a9,a10,a11,a12,a13,a14,a15 =>
  pIf a11
   (z2w n true a0 a1 (mks (List.zip a2 a3)) (mvs (List.zip a2 a3)) a4 a5 a6 a7 a8 a12 (mks (List.zip a13 a14)) (mvs (List.zip a13 a14)))
   (pIf a10
     ((ix a12.rules a9).bind λx16 =>
     z2w n (a15.many != (x16.params.length:Int)) a0 a1 (mks (List.zip a2 a3)) (mvs (List.zip a2 a3)) a4 a5 a6 a7 a8 a12 (mks (List.zip a13 a14)) (mvs (List.zip a13 a14)))
     (z2w n false a0 a1 (mks (List.zip a2 a3)) (mvs (List.zip a2 a3)) a4 a5 a6 a7 a8 a12 (mks (List.zip a13 a14)) (mvs (List.zip a13 a14))))
noncomputable def z2w:Nat->Bool->Bool->(List zzq)->(List (List UInt8))->(List Bool)->(List kz4)->Int->Int->Int->Int->zz0->(List (List UInt8))->(List Int)->Option Int
 |0,_,_,_,_,_,_,_,_,_,_,_,_,_=>none
 |n+1,a0,a1,a2,a3,a4,a5,a6,a7,a8,a9,a10,a11,a12 =>
  z6a n (IntKind.i64.wrap (a9+1)) a0 a1 a2 (mks (List.zip a3 a4)) (mvs (List.zip a3 a4)) a5 a6 a7 a8 a10 (mks (List.zip a11 a12)) (mvs (List.zip a11 a12))
end
def yi6:LSh:=⟨[(2,(.d (.int .i64)))],[],0,170⟩
noncomputable def zdn:FI dat:=FI.of dat 31 170 0 [(.d (.st 8))] [] [(.d (.int .i64))] [] true yi6 (R:=Int) (λx=>x.1) (λr=>(r,())) (λn x=>z9c n x.1)
 (λn=>[(0,⟨⟨[(35,(.d (.int .i64))),(3,(.map 0)),(5,(.d .bool)),(33,(.d (.sl (.st 3)))),(4,(.map 1)),(1,(.ptr 2 0)),(34,(.d (.int .i64)))],[(.mp 55 .bool),(.mp 106 (.int .i64)),(.st 8)],0,170⟩,λx=>z5v n x.1 x.2.1 x.2.2.1 x.2.2.2.1 x.2.2.2.2.1 x.2.2.2.2.2.1 x.2.2.2.2.2.2.1 x.2.2.2.2.2.2.2.1 x.2.2.2.2.2.2.2.2.1⟩),(1,⟨⟨[(3,(.map 0)),(5,(.d .bool)),(33,(.d (.sl (.st 3)))),(4,(.map 1)),(1,(.ptr 2 0)),(34,(.d (.int .i64))),(35,(.d (.int .i64))),(7,(.ptr 3 0))],[(.mp 55 .bool),(.mp 106 (.int .i64)),(.st 8),(.st 3)],0,170⟩,λx=>z6t n x.1 x.2.1 x.2.2.1 x.2.2.2.1 x.2.2.2.2.1 x.2.2.2.2.2.1 x.2.2.2.2.2.2.1 x.2.2.2.2.2.2.2.1 x.2.2.2.2.2.2.2.2.1 x.2.2.2.2.2.2.2.2.2.1⟩),(2,⟨⟨[(3,(.map 0)),(57,(.d (.int .i64))),(4,(.map 1)),(55,(.d (.sl (.st 7)))),(1,(.ptr 2 0)),(5,(.d .bool)),(56,(.d (.int .i64)))],[(.mp 55 .bool),(.mp 106 (.int .i64)),(.st 8)],0,170⟩,λx=>z5u n x.1 x.2.1 x.2.2.1 x.2.2.2.1 x.2.2.2.2.1 x.2.2.2.2.2.1 x.2.2.2.2.2.2.1 x.2.2.2.2.2.2.2.1 x.2.2.2.2.2.2.2.2.1⟩),(3,⟨⟨[(77,(.d (.int .i64))),(9,(.ptr 0 0)),(3,(.map 1)),(75,(.d (.sl .str))),(4,(.map 2)),(55,(.d (.sl (.st 7)))),(1,(.ptr 3 0)),(5,(.d .bool)),(56,(.d (.int .i64))),(57,(.d (.int .i64))),(76,(.d (.int .i64)))],[(.st 7),(.mp 55 .bool),(.mp 106 (.int .i64)),(.st 8)],0,170⟩,λx=>z6c n x.1 x.2.1 x.2.2.1 x.2.2.2.1 x.2.2.2.2.1 x.2.2.2.2.2.1 x.2.2.2.2.2.2.1 x.2.2.2.2.2.2.2.1 x.2.2.2.2.2.2.2.2.1 x.2.2.2.2.2.2.2.2.2.1 x.2.2.2.2.2.2.2.2.2.2.1 x.2.2.2.2.2.2.2.2.2.2.2.1 x.2.2.2.2.2.2.2.2.2.2.2.2.1⟩),(4,⟨⟨[(9,(.ptr 0 0)),(3,(.map 1)),(75,(.d (.sl .str))),(4,(.map 2)),(55,(.d (.sl (.st 7)))),(1,(.ptr 3 0)),(5,(.d .bool)),(56,(.d (.int .i64))),(57,(.d (.int .i64))),(76,(.d (.int .i64))),(77,(.d (.int .i64))),(92,(.d .bool))],[(.st 7),(.mp 55 .bool),(.mp 106 (.int .i64)),(.st 8)],0,170⟩,λx=>z71 n x.1 x.2.1 x.2.2.1 x.2.2.2.1 x.2.2.2.2.1 x.2.2.2.2.2.1 x.2.2.2.2.2.2.1 x.2.2.2.2.2.2.2.1 x.2.2.2.2.2.2.2.2.1 x.2.2.2.2.2.2.2.2.2.1 x.2.2.2.2.2.2.2.2.2.2.1 x.2.2.2.2.2.2.2.2.2.2.2.1 x.2.2.2.2.2.2.2.2.2.2.2.2.1 x.2.2.2.2.2.2.2.2.2.2.2.2.2.1⟩),(5,⟨⟨[(1,(.ptr 0 0)),(14,(.d .bool)),(4,(.map 1)),(98,(.d (.int .i64))),(5,(.d .bool)),(3,(.mc .bool)),(96,(.d (.sl (.st 7)))),(97,(.d (.int .i64)))],[(.st 8),(.mp 106 (.int .i64))],0,170⟩,λx=>z3x n x.1 x.2.1 x.2.2.1 x.2.2.2.1 x.2.2.2.2.1 x.2.2.2.2.2.1 x.2.2.2.2.2.2.1 x.2.2.2.2.2.2.2.1 x.2.2.2.2.2.2.2.2.1 x.2.2.2.2.2.2.2.2.2.1⟩),(6,⟨⟨[(17,(.ptr 0 0)),(105,(.ptr 1 0)),(1,(.ptr 2 0)),(14,(.d .bool)),(4,(.map 3)),(3,(.mc .bool)),(96,(.d (.sl (.st 7)))),(97,(.d (.int .i64))),(98,(.d (.int .i64))),(16,(.ptr 4 0)),(5,(.d .bool))],[(.cells [(.map 5)]),(.mit .bool),(.st 8),(.mp 106 (.int .i64)),(.st 7),(.mp 55 .bool)],0,170⟩,λx=>z6u n x.1 x.2.1 x.2.2.1 x.2.2.2.1 x.2.2.2.2.1 x.2.2.2.2.2.1 x.2.2.2.2.2.2.1 x.2.2.2.2.2.2.2.1 x.2.2.2.2.2.2.2.2.1 x.2.2.2.2.2.2.2.2.2.1 x.2.2.2.2.2.2.2.2.2.2.1 x.2.2.2.2.2.2.2.2.2.2.2.1 x.2.2.2.2.2.2.2.2.2.2.2.2.1 x.2.2.2.2.2.2.2.2.2.2.2.2.2.1 x.2.2.2.2.2.2.2.2.2.2.2.2.2.2.1⟩),(7,⟨⟨[(115,(.d (.int .i64))),(17,(.ptr 0 0)),(113,(.d (.sl .str))),(1,(.ptr 1 0)),(14,(.d .bool)),(4,(.map 2)),(3,(.mc .bool)),(96,(.d (.sl (.st 7)))),(97,(.d (.int .i64))),(98,(.d (.int .i64))),(16,(.ptr 3 0)),(5,(.d .bool)),(114,(.d (.int .i64)))],[(.cells [(.map 4)]),(.st 8),(.mp 106 (.int .i64)),(.st 7),(.mp 55 .bool)],0,170⟩,λx=>z3w n x.1 x.2.1 x.2.2.1 x.2.2.2.1 x.2.2.2.2.1 x.2.2.2.2.2.1 x.2.2.2.2.2.2.1 x.2.2.2.2.2.2.2.1 x.2.2.2.2.2.2.2.2.1 x.2.2.2.2.2.2.2.2.2.1 x.2.2.2.2.2.2.2.2.2.2.1 x.2.2.2.2.2.2.2.2.2.2.2.1 x.2.2.2.2.2.2.2.2.2.2.2.2.1 x.2.2.2.2.2.2.2.2.2.2.2.2.2.1 x.2.2.2.2.2.2.2.2.2.2.2.2.2.2.1 x.2.2.2.2.2.2.2.2.2.2.2.2.2.2.2.1⟩),(8,⟨⟨[(1,(.ptr 0 0)),(14,(.d .bool)),(5,(.d .bool)),(4,(.map 1)),(3,(.mc .bool)),(96,(.d (.sl (.st 7)))),(97,(.d (.int .i64))),(98,(.d (.int .i64))),(16,(.ptr 2 0))],[(.st 8),(.mp 106 (.int .i64)),(.st 7)],0,170⟩,λx=>z6r n x.1 x.2.1 x.2.2.1 x.2.2.2.1 x.2.2.2.2.1 x.2.2.2.2.2.1 x.2.2.2.2.2.2.1 x.2.2.2.2.2.2.2.1 x.2.2.2.2.2.2.2.2.1 x.2.2.2.2.2.2.2.2.2.1 x.2.2.2.2.2.2.2.2.2.2.1⟩),(9,⟨⟨[(132,(.d (.int .i64))),(1,(.ptr 0 0)),(14,(.d .bool)),(5,(.d .bool)),(4,(.map 1)),(130,(.d (.sl (.st 9)))),(3,(.mc .bool)),(96,(.d (.sl (.st 7)))),(97,(.d (.int .i64))),(98,(.d (.int .i64))),(131,(.d (.int .i64)))],[(.st 8),(.mp 106 (.int .i64))],0,170⟩,λx=>z6a n x.1 x.2.1 x.2.2.1 x.2.2.2.1 x.2.2.2.2.1 x.2.2.2.2.2.1 x.2.2.2.2.2.2.1 x.2.2.2.2.2.2.2.1 x.2.2.2.2.2.2.2.2.1 x.2.2.2.2.2.2.2.2.2.1 x.2.2.2.2.2.2.2.2.2.2.1 x.2.2.2.2.2.2.2.2.2.2.2.1 x.2.2.2.2.2.2.2.2.2.2.2.2.1⟩),(10,⟨⟨[(1,(.ptr 0 0)),(5,(.d .bool)),(4,(.map 1)),(130,(.d (.sl (.st 9)))),(3,(.mc .bool)),(96,(.d (.sl (.st 7)))),(97,(.d (.int .i64))),(98,(.d (.int .i64))),(131,(.d (.int .i64))),(132,(.d (.int .i64))),(23,(.d (.int .i64))),(22,(.ptr 2 0)),(24,(.d .bool)),(14,(.d .bool))],[(.st 8),(.mp 106 (.int .i64)),(.st 9)],0,170⟩,λx=>z4o n x.1 x.2.1 x.2.2.1 x.2.2.2.1 x.2.2.2.2.1 x.2.2.2.2.2.1 x.2.2.2.2.2.2.1 x.2.2.2.2.2.2.2.1 x.2.2.2.2.2.2.2.2.1 x.2.2.2.2.2.2.2.2.2.1 x.2.2.2.2.2.2.2.2.2.2.1 x.2.2.2.2.2.2.2.2.2.2.2.1 x.2.2.2.2.2.2.2.2.2.2.2.2.1 x.2.2.2.2.2.2.2.2.2.2.2.2.2.1 x.2.2.2.2.2.2.2.2.2.2.2.2.2.2.1 x.2.2.2.2.2.2.2.2.2.2.2.2.2.2.2.1⟩),(11,⟨⟨[(1,(.ptr 0 0)),(14,(.d .bool)),(5,(.d .bool)),(4,(.map 1)),(130,(.d (.sl (.st 9)))),(3,(.mc .bool)),(96,(.d (.sl (.st 7)))),(97,(.d (.int .i64))),(98,(.d (.int .i64))),(131,(.d (.int .i64))),(132,(.d (.int .i64)))],[(.st 8),(.mp 106 (.int .i64))],0,170⟩,λx=>z2w n x.1 x.2.1 x.2.2.1 x.2.2.2.1 x.2.2.2.2.1 x.2.2.2.2.2.1 x.2.2.2.2.2.2.1 x.2.2.2.2.2.2.2.1 x.2.2.2.2.2.2.2.2.1 x.2.2.2.2.2.2.2.2.2.1 x.2.2.2.2.2.2.2.2.2.2.1 x.2.2.2.2.2.2.2.2.2.2.2.1 x.2.2.2.2.2.2.2.2.2.2.2.2.1⟩)]) (ann [(26,0),(39,1),(53,2),(79,3),(92,4),(105,5),(122,6),(137,7),(152,8),(155,9),(170,10),(171,11)] (Tryz.f31.body.getD .skip) 0).1
noncomputable def yjy:List (FI dat):=[zfh,kzt,zlu,zi0,kzx,zke,zda]
theorem yme:(zdn).Good Tryz.prog dat (tb yjy):=FI.yz4 (hD:=zz2 _) Tryz.func31 Tryz.ntmps31 Tryz.call31 (by kernel_rfl) (of_decide_eq_true (by kernel_rfl)) (by kernel_rfl) (λn=>by kernel_rfl) (λx=>by kernel_rfl) (λ_=>rfl) ⟨λ_=>rfl,λ_=>rfl,λ_=>rfl,λ_=>rfl,λ_=>rfl,λ_=>rfl,λ_=>rfl,λ_=>rfl,λ_=>rfl,λ_=>rfl,λ_=>rfl,λ_=>rfl,trivial⟩
 (λn=>λx=>(z9c.eq_2 x.1 n).trans (by kernel_rfl))
 (λn=>⟨λx=>(z5v.eq_2 x.1 x.2.1 x.2.2.1 x.2.2.2.1 x.2.2.2.2.1 x.2.2.2.2.2.1 x.2.2.2.2.2.2.1 x.2.2.2.2.2.2.2.1 x.2.2.2.2.2.2.2.2.1 n).trans (by kernel_rfl),
  λx=>(z6t.eq_2 x.1 x.2.1 x.2.2.1 x.2.2.2.1 x.2.2.2.2.1 x.2.2.2.2.2.1 x.2.2.2.2.2.2.1 x.2.2.2.2.2.2.2.1 x.2.2.2.2.2.2.2.2.1 x.2.2.2.2.2.2.2.2.2.1 n).trans (by kernel_rfl),
  λx=>(z5u.eq_2 x.1 x.2.1 x.2.2.1 x.2.2.2.1 x.2.2.2.2.1 x.2.2.2.2.2.1 x.2.2.2.2.2.2.1 x.2.2.2.2.2.2.2.1 x.2.2.2.2.2.2.2.2.1 n).trans (by kernel_rfl),
  λx=>(z6c.eq_2 x.1 x.2.1 x.2.2.1 x.2.2.2.1 x.2.2.2.2.1 x.2.2.2.2.2.1 x.2.2.2.2.2.2.1 x.2.2.2.2.2.2.2.1 x.2.2.2.2.2.2.2.2.1 x.2.2.2.2.2.2.2.2.2.1 x.2.2.2.2.2.2.2.2.2.2.1 x.2.2.2.2.2.2.2.2.2.2.2.1 x.2.2.2.2.2.2.2.2.2.2.2.2.1 n).trans (by kernel_rfl),
  λx=>(z71.eq_2 x.1 x.2.1 x.2.2.1 x.2.2.2.1 x.2.2.2.2.1 x.2.2.2.2.2.1 x.2.2.2.2.2.2.1 x.2.2.2.2.2.2.2.1 x.2.2.2.2.2.2.2.2.1 x.2.2.2.2.2.2.2.2.2.1 x.2.2.2.2.2.2.2.2.2.2.1 x.2.2.2.2.2.2.2.2.2.2.2.1 x.2.2.2.2.2.2.2.2.2.2.2.2.1 x.2.2.2.2.2.2.2.2.2.2.2.2.2.1 n).trans (by kernel_rfl),
  λx=>(z3x.eq_2 x.1 x.2.1 x.2.2.1 x.2.2.2.1 x.2.2.2.2.1 x.2.2.2.2.2.1 x.2.2.2.2.2.2.1 x.2.2.2.2.2.2.2.1 x.2.2.2.2.2.2.2.2.1 x.2.2.2.2.2.2.2.2.2.1 n).trans (by kernel_rfl),
  λx=>(z6u.eq_2 x.1 x.2.1 x.2.2.1 x.2.2.2.1 x.2.2.2.2.1 x.2.2.2.2.2.1 x.2.2.2.2.2.2.1 x.2.2.2.2.2.2.2.1 x.2.2.2.2.2.2.2.2.1 x.2.2.2.2.2.2.2.2.2.1 x.2.2.2.2.2.2.2.2.2.2.1 x.2.2.2.2.2.2.2.2.2.2.2.1 x.2.2.2.2.2.2.2.2.2.2.2.2.1 x.2.2.2.2.2.2.2.2.2.2.2.2.2.1 x.2.2.2.2.2.2.2.2.2.2.2.2.2.2.1 n).trans (by kernel_rfl),
  λx=>(z3w.eq_2 x.1 x.2.1 x.2.2.1 x.2.2.2.1 x.2.2.2.2.1 x.2.2.2.2.2.1 x.2.2.2.2.2.2.1 x.2.2.2.2.2.2.2.1 x.2.2.2.2.2.2.2.2.1 x.2.2.2.2.2.2.2.2.2.1 x.2.2.2.2.2.2.2.2.2.2.1 x.2.2.2.2.2.2.2.2.2.2.2.1 x.2.2.2.2.2.2.2.2.2.2.2.2.1 x.2.2.2.2.2.2.2.2.2.2.2.2.2.1 x.2.2.2.2.2.2.2.2.2.2.2.2.2.2.1 x.2.2.2.2.2.2.2.2.2.2.2.2.2.2.2.1 n).trans (by kernel_rfl),
  λx=>(z6r.eq_2 x.1 x.2.1 x.2.2.1 x.2.2.2.1 x.2.2.2.2.1 x.2.2.2.2.2.1 x.2.2.2.2.2.2.1 x.2.2.2.2.2.2.2.1 x.2.2.2.2.2.2.2.2.1 x.2.2.2.2.2.2.2.2.2.1 x.2.2.2.2.2.2.2.2.2.2.1 n).trans (by kernel_rfl),
  λx=>(z6a.eq_2 x.1 x.2.1 x.2.2.1 x.2.2.2.1 x.2.2.2.2.1 x.2.2.2.2.2.1 x.2.2.2.2.2.2.1 x.2.2.2.2.2.2.2.1 x.2.2.2.2.2.2.2.2.1 x.2.2.2.2.2.2.2.2.2.1 x.2.2.2.2.2.2.2.2.2.2.1 x.2.2.2.2.2.2.2.2.2.2.2.1 x.2.2.2.2.2.2.2.2.2.2.2.2.1 n).trans (by kernel_rfl),
  λx=>(z4o.eq_2 x.1 x.2.1 x.2.2.1 x.2.2.2.1 x.2.2.2.2.1 x.2.2.2.2.2.1 x.2.2.2.2.2.2.1 x.2.2.2.2.2.2.2.1 x.2.2.2.2.2.2.2.2.1 x.2.2.2.2.2.2.2.2.2.1 x.2.2.2.2.2.2.2.2.2.2.1 x.2.2.2.2.2.2.2.2.2.2.2.1 x.2.2.2.2.2.2.2.2.2.2.2.2.1 x.2.2.2.2.2.2.2.2.2.2.2.2.2.1 x.2.2.2.2.2.2.2.2.2.2.2.2.2.2.1 x.2.2.2.2.2.2.2.2.2.2.2.2.2.2.2.1 n).trans (by kernel_rfl),
  λx=>(z2w.eq_2 x.1 x.2.1 x.2.2.1 x.2.2.2.1 x.2.2.2.2.1 x.2.2.2.2.2.1 x.2.2.2.2.2.2.1 x.2.2.2.2.2.2.2.1 x.2.2.2.2.2.2.2.2.1 x.2.2.2.2.2.2.2.2.2.1 x.2.2.2.2.2.2.2.2.2.2.1 x.2.2.2.2.2.2.2.2.2.2.2.1 x.2.2.2.2.2.2.2.2.2.2.2.2.1 n).trans (by kernel_rfl),
  trivial⟩)
 (λx=>.inl rfl)
theorem ykp:OkL Tryz.prog [zdn]:=zz6 (zz2 _) (bs:=[zfh,kzt,zlu,zi0,kzx,zke,zda]) ⟨y1h,zgc,yhc,y9a,zf1,yfi,zxi,trivial⟩ yme
theorem zyp:FOk Tryz.prog zdn:=ykp.1
end Go.Proofs.YtahcjggdcmgpkaaGreat
namespace Go.Proofs.YtahcjggdcmgpkaaGreat
open Go Go.Ab
set_option linter.unusedVariables false
set_option maxRecDepth 100000
set_option maxHeartbeats 4000000
noncomputable def zcm:Nat->zz0->zz0->Option Int
 |0,_,_=>none
 |n+1,a0,a1 =>
  (z9c n a0).bind λy0 =>
  pIf (y0 != 0)
   (some y0)
   ((z9c n a1).bind λy1 =>
   some y1)
def yuh:LSh:=⟨[(4,(.d (.int .i64)))],[],0,13⟩
noncomputable def zcy:FI dat:=FI.of dat 14 13 0 [(.d (.st 8)),(.d (.st 8))] [] [(.d (.int .i64))] [] true yuh (R:=Int) (λx=>x.1) (λr=>(r,())) (λn x=>zcm n x.1 x.2.1)
 (λn=>[]) (ann [] (Tryz.f14.body.getD .skip) 0).1
noncomputable def yx2:List (FI dat):=[zdn]
theorem yud:(zcy).Good Tryz.prog dat (tb yx2):=FI.yz4 (hD:=zz2 _) Tryz.func14 Tryz.ntmps14 Tryz.call14 (by kernel_rfl) (of_decide_eq_true (by kernel_rfl)) (by kernel_rfl) (λn=>by kernel_rfl) (λx=>by kernel_rfl) (λ_=>rfl) trivial
 (λn=>λx=>(zcm.eq_2 x.1 x.2.1 n).trans (by kernel_rfl))
 (λn=>trivial)
 (λx=>.inl rfl)
theorem ywq:OkL Tryz.prog [zcy]:=zz6 (zz2 _) (bs:=[zdn]) ⟨zyp,trivial⟩ yud
theorem zw5:FOk Tryz.prog zcy:=ywq.1
mutual
def zat:Nat->zz0->Option ((List (List UInt8))×(List zz1))
 |0,_=>none
 |n+1,a0 =>
  z4i n 0 a0.attrs (a0.attrs.length:Int) [] []
def z4i:Nat->Int->(List zz7)->Int->(List (List UInt8))->(List zz1)->Option ((List (List UInt8))×(List zz1))
 |0,_,_,_,_,_=>none
 |n+1,a0,a1,a2,a3,a4 =>
  pIf (decide (a0<a2))
   ((ix a1 a0).bind λx0 =>
   z4i n (IntKind.i64.wrap (a0+1)) a1 a2 (mks (z95 (List.zip a3 a4) x0.name x0.value.re)) (mvs (z95 (List.zip a3 a4) x0.name x0.value.re)))
   (some ((mks (List.zip a3 a4)),(mvs (List.zip a3 a4))))
end
def ydj:LSh:=⟨[(2,(.map 0))],[(.mp 79 (.st 2))],0,21⟩
noncomputable def zha:FI dat:=FI.of dat 34 21 0 [(.d (.st 8))] [] [(.map 0)] [(.mp 79 (.st 2))] false ydj (R:=(List (List UInt8))×(List zz1)) (λx=>(x.1,x.2.1)) (λr=>(r.1,r.2,())) (λn x=>zat n x.1)
 (λn=>[(0,⟨⟨[(10,(.d (.int .i64))),(3,(.map 0)),(8,(.d (.sl (.st 3)))),(9,(.d (.int .i64)))],[(.mp 79 (.st 2))],0,21⟩,λx=>z4i n x.1 x.2.1 x.2.2.1 x.2.2.2.1 x.2.2.2.2.1⟩)]) (ann [(8,0)] (Tryz.f34.body.getD .skip) 0).1
noncomputable def yff:List (FI dat):=[]
theorem yd7:(zha).Good Tryz.prog dat (tb yff):=FI.yz4 (hD:=zz2 _) Tryz.func34 Tryz.ntmps34 Tryz.call34 (by kernel_rfl) (of_decide_eq_true (by kernel_rfl)) (by kernel_rfl) (λn=>by kernel_rfl) (λx=>by kernel_rfl) (λ_=>rfl) ⟨λ_=>rfl,trivial⟩
 (λn=>λx=>(zat.eq_2 x.1 n).trans (by kernel_rfl))
 (λn=>⟨λx=>(z4i.eq_2 x.1 x.2.1 x.2.2.1 x.2.2.2.1 x.2.2.2.2.1 n).trans (by kernel_rfl),
  trivial⟩)
 (λx=>.inr (by kernel_rfl))
theorem ycj:OkL Tryz.prog [zha]:=zz6 (zz2 _) (bs:=[]) trivial yd7
theorem y9i:FOk Tryz.prog zha:=ycj.1
mutual
def yzs:Nat->(List (List zz7))->Option (Res ((List UInt8)×Unit) (List zz7))
 |0,_=>none
 |n+1,a0 =>
  yzo n 0 0 a0 a0 (a0.length:Int)
def yzo:Nat->Int->Int->(List (List zz7))->(List (List zz7))->Int->Option (Res ((List UInt8)×Unit) (List zz7))
 |0,_,_,_,_,_=>none
 |n+1,a0,a1,a2,a3,a4 =>
  pIf (decide (a0<a4))
   ((ix a2 a0).bind λx0 =>
   pIf (decide ((IntKind.i64.wrap (a1+(x0.length:Int)))<0))
    (some (Res.pan ([108,101,110,32,111,117,116,32,111,102,32,114,97,110,103,101],())))
    (zzw n (IntKind.i64.wrap (a1+(x0.length:Int))) a2 a3 a4 a0))
   ((z6g n [] a1).bind λy1 =>
   yzh n 0 a3 (a3.length:Int) y1)
def zzw:Nat->Int->(List (List zz7))->(List (List zz7))->Int->Int->Option (Res ((List UInt8)×Unit) (List zz7))
 |0,_,_,_,_,_=>none
 |n+1,a0,a1,a2,a3,a4 =>
  yzo n (IntKind.i64.wrap (a4+1)) a0 a1 a2 a3
def yzh:Nat->Int->(List (List zz7))->Int->(List zz7)->Option (Res ((List UInt8)×Unit) (List zz7))
 |0,_,_,_,_=>none
 |n+1,a0,a1,a2,a3 =>
  pIf (decide (a0<a2))
   ((ix a1 a0).bind λx2 =>
   (ext a3 x2).bind λx3 =>
   yzh n (IntKind.i64.wrap (a0+1)) a1 a2 x3)
   (some (Res.ok a3))
end
def zlj:LSh:=⟨[(2,(.d (.sl (.st 3))))],[],0,36⟩
noncomputable def z0e:FI dat:=FI.ofP dat 35 36 0 [(.d (.sl (.sl (.st 3))))] [] [(.d (.sl (.st 3)))] [] (.iface 9 (.d .str)) [] [] zlj (R:=List zz7) (λx=>x.1) (λr=>(r,())) (λn x=>yzs n x.1)
 (λn=>[(0,⟨⟨[(11,(.d (.int .i64))),(3,(.d (.int .i64))),(9,(.d (.sl (.sl (.st 3))))),(0,(.d (.sl (.sl (.st 3))))),(10,(.d (.int .i64)))],[],0,36⟩,λx=>yzo n x.1 x.2.1 x.2.2.1 x.2.2.2.1 x.2.2.2.2.1⟩),(1,⟨⟨[(3,(.d (.int .i64))),(9,(.d (.sl (.sl (.st 3))))),(0,(.d (.sl (.sl (.st 3))))),(10,(.d (.int .i64))),(11,(.d (.int .i64)))],[],0,36⟩,λx=>zzw n x.1 x.2.1 x.2.2.1 x.2.2.2.1 x.2.2.2.2.1⟩),(2,⟨⟨[(27,(.d (.int .i64))),(6,(.own 0)),(25,(.d (.sl (.sl (.st 3))))),(26,(.d (.int .i64)))],[(.acc 45 (.st 3) true)],0,36⟩,λx=>yzh n x.1 x.2.1 x.2.2.1 x.2.2.2.1⟩)]) (ann [(8,0),(26,1),(33,2)] (Tryz.f35.body.getD .skip) 0).1
noncomputable def zlr:List (FI dat):=[z7k]
theorem zll:(z0e).Good Tryz.prog dat (tb zlr):=FI.zol (hD:=zz2 _) Tryz.func35 Tryz.ntmps35 Tryz.call35 (by kernel_rfl) (of_decide_eq_true (by kernel_rfl)) (by kernel_rfl) (λn=>by kernel_rfl) trivial (λx=>by kernel_rfl) (λ_=>rfl) ⟨λ_=>rfl,λ_=>rfl,λ_=>rfl,trivial⟩
 (λn=>λx=>(yzs.eq_2 x.1 n).trans (by kernel_rfl))
 (λn=>⟨λx=>(yzo.eq_2 x.1 x.2.1 x.2.2.1 x.2.2.2.1 x.2.2.2.2.1 n).trans (by kernel_rfl),
  λx=>(zzw.eq_2 x.1 x.2.1 x.2.2.1 x.2.2.2.1 x.2.2.2.2.1 n).trans (by kernel_rfl),
  λx=>(yzh.eq_2 x.1 x.2.1 x.2.2.1 x.2.2.2.1 n).trans (by kernel_rfl),
  trivial⟩)
 (λx=>by kernel_rfl)
theorem zlh:OkL Tryz.prog [z0e]:=zz6 (zz2 _) (bs:=[z7k]) ⟨zml,trivial⟩ zll
theorem zkv:FOk Tryz.prog z0e:=zlh.1
mutual
def z4f:Nat->zz1->zz1->Option Bool
 |0,_,_=>none
 |n+1,a0,a1 =>
  pIf (a0.op==a1.op)
   (pIf (a0.name==a1.name)
     ((z47 n a0.value.re a1.value.re).bind λy0 =>
     pIf y0
      ((yz9 n a0.args a1.args).bind λy1 =>
      some y1)
      (some false))
     (some false))
   (some false)
def yz9:Nat->(List zz1)->(List zz1)->Option Bool
 |0,_,_=>none
 |n+1,a0,a1 =>
  pIf ((a0.length:Int) != (a1.length:Int))
   (some false)
   (zz8 n 0 a1 a0 (a0.length:Int))
def zz8:Nat->Int->(List zz1)->(List zz1)->Int->Option Bool
 |0,_,_,_,_=>none
 |n+1,a0,a1,a2,a3 =>
  pIf (decide (a0<a3))
   ((ix a2 a0).bind λx0 =>
   (ix a1 a0).bind λx1 =>
   (z4f n x0.re x1.re).bind λy2 =>
   pIf (!y2)
    (some false)
    (zz8 n (IntKind.i64.wrap (a0+1)) a1 a2 a3))
   (some true)
end
def ywi:LSh:=⟨[(4,(.d .bool))],[],0,31⟩
noncomputable def zb7:FI dat:=FI.of dat 36 31 0 [(.d (.st 2)),(.d (.st 2))] [] [(.d .bool)] [] true ywi (R:=Bool) (λx=>x.1) (λr=>(r,())) (λn x=>z4f n x.1 x.2.1)
 (λn=>[]) (ann [] (Tryz.f36.body.getD .skip) 0).1
def z9v:LSh:=⟨[(6,(.d .bool))],[],0,32⟩
noncomputable def kz9:FI dat:=FI.of dat 67 32 0 [(.d (.sl (.st 2))),(.d (.sl (.st 2))),(.fn 36 [] [])] [] [(.d .bool)] [] true z9v (R:=Bool) (λx=>x.1) (λr=>(r,())) (λn x=>yz9 n x.1 x.2.1)
 (λn=>[(0,⟨⟨[(17,(.d (.int .i64))),(2,(.fn 36 [] [])),(1,(.d (.sl (.st 2)))),(15,(.d (.sl (.st 2)))),(16,(.d (.int .i64)))],[],0,32⟩,λx=>zz8 n x.1 x.2.1 x.2.2.1 x.2.2.2.1⟩)]) (ann [(14,0)] (Tryz.f67.body.getD .skip) 0).1
noncomputable def y7s:List (FI dat):=[zb7,kz9]++[zcx]
theorem yu4:(zb7).Good Tryz.prog dat (tb y7s):=FI.yz4 (hD:=zz2 _) Tryz.func36 Tryz.ntmps36 Tryz.call36 (by kernel_rfl) (of_decide_eq_true (by kernel_rfl)) (by kernel_rfl) (λn=>by kernel_rfl) (λx=>by kernel_rfl) (λ_=>rfl) trivial
 (λn=>λx=>(z4f.eq_2 x.1 x.2.1 n).trans (by kernel_rfl))
 (λn=>trivial)
 (λx=>.inl rfl)
theorem za8:(kz9).Good Tryz.prog dat (tb y7s):=FI.yz4 (hD:=zz2 _) Tryz.func67 Tryz.ntmps67 Tryz.call67 (by kernel_rfl) (of_decide_eq_true (by kernel_rfl)) (by kernel_rfl) (λn=>by kernel_rfl) (λx=>by kernel_rfl) (λ_=>rfl) ⟨λ_=>rfl,trivial⟩
 (λn=>λx=>(yz9.eq_2 x.1 x.2.1 n).trans (by kernel_rfl))
 (λn=>⟨λx=>(zz8.eq_2 x.1 x.2.1 x.2.2.1 x.2.2.2.1 n).trans (by kernel_rfl),
  trivial⟩)
 (λx=>.inl rfl)
theorem y7u:OkL Tryz.prog [zb7,kz9]:=zc5 (zz2 _) (bs:=[zcx]) ⟨y0x,trivial⟩ ⟨yu4,za8,trivial⟩
theorem zwr:FOk Tryz.prog zb7:=y7u.1
theorem z9i:FOk Tryz.prog kz9:=y7u.2.1
def zeo:Nat->(List UInt8)->(List (List UInt8))->(List Bool)->Option (Bool×(List (List UInt8))×(List Bool))
 |0,_,_,_=>none
 |n+1,a0,a1,a2 =>
  some ((Option.getD (z3p (List.zip a1 a2) a0) false),(mks (List.zip a1 a2)),(mvs (List.zip a1 a2)))
def yi8:LSh:=⟨[(3,(.d .bool))],[(.cells [(.map 1)]),(.mp 55 .bool)],2,7⟩
noncomputable def zjs:FI dat:=FI.of dat 69 7 2 [(.d .str),(.ptr 0 0)] [(.cells [(.map 1)]),(.mp 55 .bool)] [(.d .bool)] [(.cells [(.map 1)]),(.mp 55 .bool)] false yi8 (R:=Bool×(List (List UInt8))×(List Bool)) (λx=>(x.1,x.2.1,x.2.2.1)) (λr=>(r.1,r.2.1,r.2.2,())) (λn x=>zeo n x.1 x.2.1 x.2.2.1)
 (λn=>[]) (ann [] (Tryz.f69.body.getD .skip) 0).1
noncomputable def yks:List (FI dat):=[]
theorem yjx:(zjs).Good Tryz.prog dat (tb yks):=FI.yz4 (hD:=zz2 _) Tryz.func69 Tryz.ntmps69 Tryz.call69 (by kernel_rfl) (of_decide_eq_true (by kernel_rfl)) (by kernel_rfl) (λn=>by kernel_rfl) (λx=>by kernel_rfl) (λ_=>rfl) trivial
 (λn=>λx=>(zeo.eq_2 x.1 x.2.1 x.2.2.1 n).trans (by kernel_rfl))
 (λn=>trivial)
 (λx=>.inr (by kernel_rfl))
theorem yip:OkL Tryz.prog [zjs]:=zz6 (zz2 _) (bs:=[]) trivial yjx
theorem yeb:FOk Tryz.prog zjs:=yip.1
mutual
def zzz:Nat->(List (List UInt8))->(List (List UInt8))->(List Bool)->Option (Int×(List (List UInt8))×(List Bool))
 |0,_,_,_=>none
 |n+1,a0,a1,a2 =>
  kzf n 0 a0 (a0.length:Int) (mks (List.zip a1 a2)) (mvs (List.zip a1 a2))
def kzf:Nat->Int->(List (List UInt8))->Int->(List (List UInt8))->(List Bool)->Option (Int×(List (List UInt8))×(List Bool))
 |0,_,_,_,_,_=>none
 |n+1,a0,a1,a2,a3,a4 =>
  pIf (decide (a0<a2))
   ((ix a1 a0).bind λx0 =>
   (zeo n x0 (mks (List.zip a3 a4)) (mvs (List.zip a3 a4))).bind λy1 =>
   pIf y1.1
    (some (a0,(mks (List.zip y1.2.1 y1.2.2)),(mvs (List.zip y1.2.1 y1.2.2))))
    (kzf n (IntKind.i64.wrap (a0+1)) a1 a2 (mks (List.zip y1.2.1 y1.2.2)) (mvs (List.zip y1.2.1 y1.2.2))))
   (some ((-1),(mks (List.zip a3 a4)),(mvs (List.zip a3 a4))))
end
def zjh:LSh:=⟨[(4,(.d (.int .i64)))],[(.cells [(.map 1)]),(.mp 55 .bool)],2,19⟩
noncomputable def z06:FI dat:=FI.of dat 52 19 2 [(.d (.sl .str)),(.fn 69 [] [(.ptr 0 0)])] [(.cells [(.map 1)]),(.mp 55 .bool)] [(.d (.int .i64))] [(.cells [(.map 1)]),(.mp 55 .bool)] false zjh (R:=Int×(List (List UInt8))×(List Bool)) (λx=>(x.1,x.2.1,x.2.2.1)) (λr=>(r.1,r.2.1,r.2.2,())) (λn x=>zzz n x.1 x.2.1 x.2.2.1)
 (λn=>[(0,⟨⟨[(8,(.d (.int .i64))),(0,(.d (.sl .str))),(1,(.fn 69 [] [(.ptr 0 0)])),(7,(.d (.int .i64)))],[(.cells [(.map 1)]),(.mp 55 .bool)],2,19⟩,λx=>kzf n x.1 x.2.1 x.2.2.1 x.2.2.2.1 x.2.2.2.2.1⟩)]) (ann [(6,0)] (Tryz.f52.body.getD .skip) 0).1
noncomputable def zkk:List (FI dat):=[zjs]
theorem zjr:(z06).Good Tryz.prog dat (tb zkk):=FI.yz4 (hD:=zz2 _) Tryz.func52 Tryz.ntmps52 Tryz.call52 (by kernel_rfl) (of_decide_eq_true (by kernel_rfl)) (by kernel_rfl) (λn=>by kernel_rfl) (λx=>by kernel_rfl) (λ_=>rfl) ⟨λ_=>rfl,trivial⟩
 (λn=>λx=>(zzz.eq_2 x.1 x.2.1 x.2.2.1 n).trans (by kernel_rfl))
 (λn=>⟨λx=>(kzf.eq_2 x.1 x.2.1 x.2.2.1 x.2.2.2.1 x.2.2.2.2.1 n).trans (by kernel_rfl),
  trivial⟩)
 (λx=>.inr (by kernel_rfl))
theorem zk8:OkL Tryz.prog [z06]:=zz6 (zz2 _) (bs:=[zjs]) ⟨yeb,trivial⟩ zjr
theorem zj0:FOk Tryz.prog z06:=zk8.1
def zzn:Nat->(List (List UInt8))->(List (List UInt8))->(List Bool)->Option (Bool×(List (List UInt8))×(List Bool))
 |0,_,_,_=>none
 |n+1,a0,a1,a2 =>
  (zzz n a0 (mks (List.zip a1 a2)) (mvs (List.zip a1 a2))).bind λy0 =>
  some ((decide (y0.1>=0)),(mks (List.zip y0.2.1 y0.2.2)),(mvs (List.zip y0.2.1 y0.2.2)))
def zib:LSh:=⟨[(4,(.d .bool))],[(.cells [(.map 1)]),(.mp 55 .bool)],2,9⟩
noncomputable def yzv:FI dat:=FI.of dat 22 9 2 [(.d (.sl .str)),(.fn 69 [] [(.ptr 0 0)])] [(.cells [(.map 1)]),(.mp 55 .bool)] [(.d .bool)] [(.cells [(.map 1)]),(.mp 55 .bool)] false zib (R:=Bool×(List (List UInt8))×(List Bool)) (λx=>(x.1,x.2.1,x.2.2.1)) (λr=>(r.1,r.2.1,r.2.2,())) (λn x=>zzn n x.1 x.2.1 x.2.2.1)
 (λn=>[]) (ann [] (Tryz.f22.body.getD .skip) 0).1
noncomputable def zhl:List (FI dat):=[z06]
theorem zic:(yzv).Good Tryz.prog dat (tb zhl):=FI.yz4 (hD:=zz2 _) Tryz.func22 Tryz.ntmps22 Tryz.call22 (by kernel_rfl) (of_decide_eq_true (by kernel_rfl)) (by kernel_rfl) (λn=>by kernel_rfl) (λx=>by kernel_rfl) (λ_=>rfl) trivial
 (λn=>λx=>(zzn.eq_2 x.1 x.2.1 x.2.2.1 n).trans (by kernel_rfl))
 (λn=>trivial)
 (λx=>.inr (by kernel_rfl))
theorem zhb:OkL Tryz.prog [yzv]:=zz6 (zz2 _) (bs:=[z06]) ⟨zj0,trivial⟩ zic
theorem zh5:FOk Tryz.prog yzv:=zhb.1
def zd2:Nat->zz1->(List (List UInt8))->(List Bool)->Option (Bool×(List (List UInt8))×(List Bool))
 |0,_,_,_=>none
 |n+1,a0,a1,a2 =>
  (zdb n a0.re).bind λy0 =>
  (zzn n y0.1 (mks (List.zip a1 a2)) (mvs (List.zip a1 a2))).bind λy1 =>
  some (y1.1,(mks (List.zip y1.2.1 y1.2.2)),(mvs (List.zip y1.2.1 y1.2.2)))
def yuu:LSh:=⟨[(4,(.d .bool))],[(.mp 55 .bool)],1,15⟩
noncomputable def zcw:FI dat:=FI.of dat 37 15 1 [(.d (.st 2)),(.map 0)] [(.mp 55 .bool)] [(.d .bool)] [(.mp 55 .bool)] false yuu (R:=Bool×(List (List UInt8))×(List Bool)) (λx=>(x.1,x.2.1,x.2.2.1)) (λr=>(r.1,r.2.1,r.2.2,())) (λn x=>zd2 n x.1 x.2.1 x.2.2.1)
 (λn=>[]) (ann [] (Tryz.f37.body.getD .skip) 0).1
noncomputable def yvr:List (FI dat):=[yzv,zfb]
theorem ytq:(zcw).Good Tryz.prog dat (tb yvr):=FI.yz4 (hD:=zz2 _) Tryz.func37 Tryz.ntmps37 Tryz.call37 (by kernel_rfl) (of_decide_eq_true (by kernel_rfl)) (by kernel_rfl) (λn=>by kernel_rfl) (λx=>by kernel_rfl) (λ_=>rfl) trivial
 (λn=>λx=>(zd2.eq_2 x.1 x.2.1 x.2.2.1 n).trans (by kernel_rfl))
 (λn=>trivial)
 (λx=>.inr (by kernel_rfl))
theorem yv0:OkL Tryz.prog [zcw]:=zz6 (zz2 _) (bs:=[yzv,zfb]) ⟨zh5,y17,trivial⟩ ytq
theorem zwe:FOk Tryz.prog zcw:=yv0.1
mutual
def zd7:Nat->zz0->zz0->Option (Res ((List UInt8)×Unit) ((List (List UInt8))×(List Bool)))
 |0,_,_=>none
 |n+1,a0,a1 =>
  (zat n a0).bind λy0 =>
  (zat n a1).bind λy1 =>
  z7w n [] [] (mks (List.zip y1.1 y1.2)) (mvs (List.zip y1.1 y1.2)) (mks (List.zip y0.1 y0.2)) (mvs (List.zip y0.1 y0.2)) a1 a0
def z7w:Nat->(List (List UInt8))->(List Bool)->(List (List UInt8))->(List zz1)->(List (List UInt8))->(List zz1)->zz0->zz0->Option (Res ((List UInt8)×Unit) ((List (List UInt8))×(List Bool)))
 |0,_,_,_,_,_,_,_,_=>none
 |n+1,a0,a1,a2,a3,a4,a5,a6,a7 =>
  (yzs n [a7.attrs,a6.attrs]).bind λy2 =>
  y60 y2 (λr3 =>
   z38 n 0 r3 ((List.zip a0 a1).length:Int) (r3.length:Int) (mks (List.zip a0 a1)) (mvs (List.zip a0 a1)) (mks (List.zip a2 a3)) (mvs (List.zip a2 a3)) (mks (List.zip a4 a5)) (mvs (List.zip a4 a5)) a6 a7)
   (λe4 =>
   some (Res.pan (e4.1,())))
def z38:Nat->Int->(List zz7)->Int->Int->(List (List UInt8))->(List Bool)->(List (List UInt8))->(List zz1)->(List (List UInt8))->(List zz1)->zz0->zz0->Option (Res ((List UInt8)×Unit) ((List (List UInt8))×(List Bool)))
 |0,_,_,_,_,_,_,_,_,_,_,_,_=>none
 |n+1,a0,a1,a2,a3,a4,a5,a6,a7,a8,a9,a10,a11 =>
  pIf (decide (a0<a3))
   ((ix a1 a0).bind λx5 =>
   pIf (!(Option.isSome (z3p (List.zip a8 a9) x5.name)))
    (z36 n a1 a2 a3 a0 true (mks (List.zip a4 a5)) (mvs (List.zip a4 a5)) (mks (List.zip a6 a7)) (mvs (List.zip a6 a7)) (mks (List.zip a8 a9)) (mvs (List.zip a8 a9)) a10 a11 x5.re)
    (pIf (!(Option.isSome (z3p (List.zip a6 a7) x5.name)))
      (z36 n a1 a2 a3 a0 true (mks (List.zip a4 a5)) (mvs (List.zip a4 a5)) (mks (List.zip a6 a7)) (mvs (List.zip a6 a7)) (mks (List.zip a8 a9)) (mvs (List.zip a8 a9)) a10 a11 x5.re)
      ((z4f n (Option.getD (z3p (List.zip a8 a9) x5.name) (zz1.mk 0 (yz2.mk 0 (kz6.mk 0 0) false [] []) [] [])).re (Option.getD (z3p (List.zip a6 a7) x5.name) (zz1.mk 0 (yz2.mk 0 (kz6.mk 0 0) false [] []) [] [])).re).bind λy6 =>
      pIf (!y6)
       (z36 n a1 a2 a3 a0 true (mks (List.zip a4 a5)) (mvs (List.zip a4 a5)) (mks (List.zip a6 a7)) (mvs (List.zip a6 a7)) (mks (List.zip a8 a9)) (mvs (List.zip a8 a9)) a10 a11 x5.re)
       ((zd2 n x5.value.re (mks (List.zip a4 a5)) (mvs (List.zip a4 a5))).bind λy7 =>
       z36 n a1 a2 a3 a0 y7.1 (mks (List.zip y7.2.1 y7.2.2)) (mvs (List.zip y7.2.1 y7.2.2)) (mks (List.zip a6 a7)) (mvs (List.zip a6 a7)) (mks (List.zip a8 a9)) (mvs (List.zip a8 a9)) a10 a11 x5.re))))
   (pIf (((List.zip a4 a5).length:Int)==a2)
     (some (Res.ok ((mks (List.zip a4 a5)),(mvs (List.zip a4 a5)))))
     (z7w n (mks (List.zip a4 a5)) (mvs (List.zip a4 a5)) (mks (List.zip a6 a7)) (mvs (List.zip a6 a7)) (mks (List.zip a8 a9)) (mvs (List.zip a8 a9)) a10 a11))
def z36:Nat->(List zz7)->Int->Int->Int->Bool->(List (List UInt8))->(List Bool)->(List (List UInt8))->(List zz1)->(List (List UInt8))->(List zz1)->zz0->zz0->zz7->Option (Res ((List UInt8)×Unit) ((List (List UInt8))×(List Bool)))
 |0,_,_,_,_,_,_,_,_,_,_,_,_,_,_=>none
 |n+1,a0,a1,a2,a3,a4,a5,a6,a7,a8,a9,a10,a11,a12,a13 =>
  pIf a4
   (z8r n a0 a1 a2 a3 (mks (z95 (List.zip a5 a6) a13.name true)) (mvs (z95 (List.zip a5 a6) a13.name true)) (mks (List.zip a7 a8)) (mvs (List.zip a7 a8)) (mks (List.zip a9 a10)) (mvs (List.zip a9 a10)) a11 a12)
   (z8r n a0 a1 a2 a3 (mks (List.zip a5 a6)) (mvs (List.zip a5 a6)) (mks (List.zip a7 a8)) (mvs (List.zip a7 a8)) (mks (List.zip a9 a10)) (mvs (List.zip a9 a10)) a11 a12)
def z8r:Nat->(List zz7)->Int->Int->Int->(List (List UInt8))->(List Bool)->(List (List UInt8))->(List zz1)->(List (List UInt8))->(List zz1)->zz0->zz0->Option (Res ((List UInt8)×Unit) ((List (List UInt8))×(List Bool)))
 |0,_,_,_,_,_,_,_,_,_,_,_,_=>none
 |n+1,a0,a1,a2,a3,a4,a5,a6,a7,a8,a9,a10,a11 =>
  z38 n (IntKind.i64.wrap (a3+1)) a0 a1 a2 (mks (List.zip a4 a5)) (mvs (List.zip a4 a5)) (mks (List.zip a6 a7)) (mvs (List.zip a6 a7)) (mks (List.zip a8 a9)) (mvs (List.zip a8 a9)) a10 a11
end
def yst:LSh:=⟨[(4,(.map 0))],[(.mp 55 .bool)],0,77⟩
noncomputable def zfo:FI dat:=FI.ofP dat 16 77 0 [(.d (.st 8)),(.d (.st 8))] [] [(.map 0)] [(.mp 55 .bool)] (.iface 9 (.d .str)) [] [] yst (R:=(List (List UInt8))×(List Bool)) (λx=>(x.1,x.2.1)) (λr=>(r.1,r.2,())) (λn x=>zd7 n x.1 x.2.1)
 (λn=>[(0,⟨⟨[(5,(.map 0)),(8,(.map 1)),(7,(.map 2)),(3,(.ptr 3 0)),(2,(.ptr 4 0))],[(.mp 55 .bool),(.mp 79 (.st 2)),(.mp 79 (.st 2)),(.st 8),(.st 8)],0,77⟩,λx=>z7w n x.1 x.2.1 x.2.2.1 x.2.2.2.1 x.2.2.2.2.1 x.2.2.2.2.2.1 x.2.2.2.2.2.2.1 x.2.2.2.2.2.2.2.1⟩),(1,⟨⟨[(32,(.d (.int .i64))),(5,(.map 0)),(8,(.map 1)),(7,(.map 2)),(30,(.d (.sl (.st 3)))),(3,(.ptr 3 0)),(2,(.ptr 4 0)),(9,(.d (.int .i64))),(31,(.d (.int .i64)))],[(.mp 55 .bool),(.mp 79 (.st 2)),(.mp 79 (.st 2)),(.st 8),(.st 8)],0,77⟩,λx=>z38 n x.1 x.2.1 x.2.2.1 x.2.2.2.1 x.2.2.2.2.1 x.2.2.2.2.2.1 x.2.2.2.2.2.2.1 x.2.2.2.2.2.2.2.1 x.2.2.2.2.2.2.2.2.1 x.2.2.2.2.2.2.2.2.2.1 x.2.2.2.2.2.2.2.2.2.2.1 x.2.2.2.2.2.2.2.2.2.2.2.1⟩),(2,⟨⟨[(5,(.map 0)),(8,(.map 1)),(7,(.map 2)),(30,(.d (.sl (.st 3)))),(3,(.ptr 3 0)),(2,(.ptr 4 0)),(9,(.d (.int .i64))),(31,(.d (.int .i64))),(32,(.d (.int .i64))),(11,(.ptr 5 0)),(67,(.d .bool))],[(.mp 55 .bool),(.mp 79 (.st 2)),(.mp 79 (.st 2)),(.st 8),(.st 8),(.st 3)],0,77⟩,λx=>z36 n x.1 x.2.1 x.2.2.1 x.2.2.2.1 x.2.2.2.2.1 x.2.2.2.2.2.1 x.2.2.2.2.2.2.1 x.2.2.2.2.2.2.2.1 x.2.2.2.2.2.2.2.2.1 x.2.2.2.2.2.2.2.2.2.1 x.2.2.2.2.2.2.2.2.2.2.1 x.2.2.2.2.2.2.2.2.2.2.2.1 x.2.2.2.2.2.2.2.2.2.2.2.2.1 x.2.2.2.2.2.2.2.2.2.2.2.2.2.1⟩),(3,⟨⟨[(5,(.map 0)),(8,(.map 1)),(7,(.map 2)),(30,(.d (.sl (.st 3)))),(3,(.ptr 3 0)),(2,(.ptr 4 0)),(9,(.d (.int .i64))),(31,(.d (.int .i64))),(32,(.d (.int .i64)))],[(.mp 55 .bool),(.mp 79 (.st 2)),(.mp 79 (.st 2)),(.st 8),(.st 8)],0,77⟩,λx=>z8r n x.1 x.2.1 x.2.2.1 x.2.2.2.1 x.2.2.2.2.1 x.2.2.2.2.2.1 x.2.2.2.2.2.2.1 x.2.2.2.2.2.2.2.1 x.2.2.2.2.2.2.2.2.1 x.2.2.2.2.2.2.2.2.2.1 x.2.2.2.2.2.2.2.2.2.2.1 x.2.2.2.2.2.2.2.2.2.2.2.1⟩)]) (ann [(9,0),(17,1),(34,2),(37,3)] (Tryz.f16.body.getD .skip) 0).1
noncomputable def yte:List (FI dat):=[zha,z0e,zcw,zb7]
theorem yot:(zfo).Good Tryz.prog dat (tb yte):=FI.zol (hD:=zz2 _) Tryz.func16 Tryz.ntmps16 Tryz.call16 (by kernel_rfl) (of_decide_eq_true (by kernel_rfl)) (by kernel_rfl) (λn=>by kernel_rfl) trivial (λx=>by kernel_rfl) (λ_=>rfl) ⟨λ_=>rfl,λ_=>rfl,λ_=>rfl,λ_=>rfl,trivial⟩
 (λn=>λx=>(zd7.eq_2 x.1 x.2.1 n).trans (by kernel_rfl))
 (λn=>⟨λx=>(z7w.eq_2 x.1 x.2.1 x.2.2.1 x.2.2.2.1 x.2.2.2.2.1 x.2.2.2.2.2.1 x.2.2.2.2.2.2.1 x.2.2.2.2.2.2.2.1 n).trans (by kernel_rfl),
  λx=>(z38.eq_2 x.1 x.2.1 x.2.2.1 x.2.2.2.1 x.2.2.2.2.1 x.2.2.2.2.2.1 x.2.2.2.2.2.2.1 x.2.2.2.2.2.2.2.1 x.2.2.2.2.2.2.2.2.1 x.2.2.2.2.2.2.2.2.2.1 x.2.2.2.2.2.2.2.2.2.2.1 x.2.2.2.2.2.2.2.2.2.2.2.1 n).trans (by kernel_rfl),
  λx=>(z36.eq_2 x.1 x.2.1 x.2.2.1 x.2.2.2.1 x.2.2.2.2.1 x.2.2.2.2.2.1 x.2.2.2.2.2.2.1 x.2.2.2.2.2.2.2.1 x.2.2.2.2.2.2.2.2.1 x.2.2.2.2.2.2.2.2.2.1 x.2.2.2.2.2.2.2.2.2.2.1 x.2.2.2.2.2.2.2.2.2.2.2.1 x.2.2.2.2.2.2.2.2.2.2.2.2.1 x.2.2.2.2.2.2.2.2.2.2.2.2.2.1 n).trans (by kernel_rfl),
  λx=>(z8r.eq_2 x.1 x.2.1 x.2.2.1 x.2.2.2.1 x.2.2.2.2.1 x.2.2.2.2.2.1 x.2.2.2.2.2.2.1 x.2.2.2.2.2.2.2.1 x.2.2.2.2.2.2.2.2.1 x.2.2.2.2.2.2.2.2.2.1 x.2.2.2.2.2.2.2.2.2.2.1 x.2.2.2.2.2.2.2.2.2.2.2.1 n).trans (by kernel_rfl),
  trivial⟩)
 (λx=>by kernel_rfl)
theorem yoi:OkL Tryz.prog [zfo]:=zz6 (zz2 _) (bs:=[zha,z0e,zcw,zb7]) ⟨y9i,zkv,zwe,zwr,trivial⟩ yot
theorem y0z:FOk Tryz.prog zfo:=yoi.1
end Go.Proofs.YtahcjggdcmgpkaaGreat
namespace Go.Proofs.YtahcjggdcmgpkaaGreat
open Go Go.Ab
set_option linter.unusedVariables false
set_option maxRecDepth 100000
set_option maxHeartbeats 4000000
noncomputable def zdi:Nat->zz0->zz0->Option (Res ((List UInt8)×Unit) ((List (List UInt8))×Int))
 |0,_,_=>none
 |n+1,a0,a1 =>
  (zcm n a0 a1).bind λy0 =>
  pIf (y0 != 0)
   (some (Res.ok ([],y0)))
   ((zd7 n a0 a1).bind λy1 =>
   y60 y1 (λr2 =>
    (zbr n (mks (List.zip r2.1 r2.2)) (mvs (List.zip r2.1 r2.2))).bind λy3 =>
    some (Res.ok (y3.1,0)))
    (λe4 =>
    some (Res.pan (e4.1,()))))
def ypr:LSh:=⟨[(4,(.d (.sl .str))),(5,(.d (.int .i64)))],[],0,17⟩
noncomputable def zm2:FI dat:=FI.ofP dat 5 17 0 [(.d (.st 8)),(.d (.st 8))] [] [(.d (.sl .str)),(.d (.int .i64))] [] (.iface 9 (.d .str)) [] [] ypr (R:=(List (List UInt8))×Int) (λx=>(x.1,x.2.1)) (λr=>(r.1,r.2,())) (λn x=>zdi n x.1 x.2.1)
 (λn=>[]) (ann [] (Tryz.f5.body.getD .skip) 0).1
noncomputable def yop:List (FI dat):=[zfo,zds,zcy]
theorem ypz:(zm2).Good Tryz.prog dat (tb yop):=FI.zol (hD:=zz2 _) Tryz.func5 Tryz.ntmps5 Tryz.call5 (by kernel_rfl) (of_decide_eq_true (by kernel_rfl)) (by kernel_rfl) (λn=>by kernel_rfl) trivial (λx=>by kernel_rfl) (λ_=>rfl) trivial
 (λn=>λx=>(zdi.eq_2 x.1 x.2.1 n).trans (by kernel_rfl))
 (λn=>trivial)
 (λx=>by kernel_rfl)
theorem ysw:OkL Tryz.prog [zm2]:=zz6 (zz2 _) (bs:=[zfo,zds,zcy]) ⟨y0z,zra,zw5,trivial⟩ ypz
theorem ylq:FOk Tryz.prog zm2:=ysw.1
mutual
def zfz:Nat->zz0->Option Bool
 |0,_=>none
 |n+1,a0 =>
  pIf (decide ((a0.attrs.length:Int)>20))
   (z7n n true a0)
   (z7n n (decide ((a0.rules.length:Int)>40)) a0)
def z7n:Nat->Bool->zz0->Option Bool
 |0,_,_=>none
 |n+1,a0,a1 =>
  pIf a0
   (some true)
   (z5b n 0 a1)
def z5b:Nat->Int->zz0->Option Bool
 |0,_,_=>none
 |n+1,a0,a1 =>
  pIf (decide (a0<(a1.rules.length:Int)))
   ((ix a1.rules a0).bind λx0 =>
   pIf (decide ((x0.params.length:Int)>4))
    (z8p n a0 true x0 a1)
    (z8p n a0 (decide ((x0.cases.length:Int)>6)) x0 a1))
   (some false)
def z8p:Nat->Int->Bool->kz4->zz0->Option Bool
 |0,_,_,_,_=>none
 |n+1,a0,a1,a2,a3 =>
  pIf a1
   (some true)
   (z5d n 0 a0 a2 a3)
def z5d:Nat->Int->Int->kz4->zz0->Option Bool
 |0,_,_,_,_=>none
 |n+1,a0,a1,a2,a3 =>
  pIf (decide (a0<(a2.cases.length:Int)))
   ((ix a2.cases a0).bind λx1 =>
   pIf (decide ((x1.do_.length:Int)>10))
    (some true)
    (z55 n 0 a0 a1 a2 a3))
   (z5b n (IntKind.i64.wrap (a1+1)) a3)
def z55:Nat->Int->Int->Int->kz4->zz0->Option Bool
 |0,_,_,_,_,_=>none
 |n+1,a0,a1,a2,a3,a4 =>
  (ix a3.cases a1).bind λx2 =>
  pIf (decide (a0<(x2.do_.length:Int)))
   ((ix a3.cases a1).bind λx3 =>
   (ix x3.do_ a0).bind λx4 =>
   pIf (decide ((x4.items.length:Int)>10))
    (some true)
    (z55 n (IntKind.i64.wrap (a0+1)) a1 a2 a3 a4))
   (z5d n (IntKind.i64.wrap (a1+1)) a2 a3 a4)
end
def yr1:LSh:=⟨[(2,(.d .bool))],[],0,77⟩
noncomputable def zmi:FI dat:=FI.of dat 70 77 0 [(.d (.st 8))] [] [(.d .bool)] [] true yr1 (R:=Bool) (λx=>x.1) (λr=>(r,())) (λn x=>zfz n x.1)
 (λn=>[(0,⟨⟨[(1,(.ptr 0 0)),(16,(.d .bool))],[(.st 8)],0,77⟩,λx=>z7n n x.1 x.2.1⟩),(1,⟨⟨[(3,(.d (.int .i64))),(1,(.ptr 0 0))],[(.st 8)],0,77⟩,λx=>z5b n x.1 x.2.1⟩),(2,⟨⟨[(4,(.ptr 0 0)),(1,(.ptr 1 0)),(3,(.d (.int .i64))),(38,(.d .bool))],[(.st 7),(.st 8)],0,77⟩,λx=>z8p n x.1 x.2.1 x.2.2.1 x.2.2.2.1⟩),(3,⟨⟨[(5,(.d (.int .i64))),(4,(.ptr 0 0)),(1,(.ptr 1 0)),(3,(.d (.int .i64)))],[(.st 7),(.st 8)],0,77⟩,λx=>z5d n x.1 x.2.1 x.2.2.1 x.2.2.2.1⟩),(4,⟨⟨[(6,(.d (.int .i64))),(5,(.d (.int .i64))),(4,(.ptr 0 0)),(1,(.ptr 1 0)),(3,(.d (.int .i64)))],[(.st 7),(.st 8)],0,77⟩,λx=>z55 n x.1 x.2.1 x.2.2.1 x.2.2.2.1 x.2.2.2.2.1⟩)]) (ann [(5,0),(14,1),(28,2),(36,3),(56,4)] (Tryz.f70.body.getD .skip) 0).1
noncomputable def yps:List (FI dat):=[]
theorem yqu:(zmi).Good Tryz.prog dat (tb yps):=FI.yz4 (hD:=zz2 _) Tryz.func70 Tryz.ntmps70 Tryz.call70 (by kernel_rfl) (of_decide_eq_true (by kernel_rfl)) (by kernel_rfl) (λn=>by kernel_rfl) (λx=>by kernel_rfl) (λ_=>rfl) ⟨λ_=>rfl,λ_=>rfl,λ_=>rfl,λ_=>rfl,λ_=>rfl,trivial⟩
 (λn=>λx=>(zfz.eq_2 x.1 n).trans (by kernel_rfl))
 (λn=>⟨λx=>(z7n.eq_2 x.1 x.2.1 n).trans (by kernel_rfl),
  λx=>(z5b.eq_2 x.1 x.2.1 n).trans (by kernel_rfl),
  λx=>(z8p.eq_2 x.1 x.2.1 x.2.2.1 x.2.2.2.1 n).trans (by kernel_rfl),
  λx=>(z5d.eq_2 x.1 x.2.1 x.2.2.1 x.2.2.2.1 n).trans (by kernel_rfl),
  λx=>(z55.eq_2 x.1 x.2.1 x.2.2.1 x.2.2.2.1 x.2.2.2.2.1 n).trans (by kernel_rfl),
  trivial⟩)
 (λx=>.inl rfl)
theorem yp1:OkL Tryz.prog [zmi]:=zz6 (zz2 _) (bs:=[]) trivial yqu
theorem ylv:FOk Tryz.prog zmi:=yp1.1
def zcg:Nat->Int->Option Bool
 |0,_=>none
 |n+1,a0 =>
  pIf (decide (a0>=97))
   (some (decide (a0<=122)))
   (some false)
def ydh:LSh:=⟨[(2,(.d .bool))],[],0,9⟩
noncomputable def zho:FI dat:=FI.of dat 152 9 0 [(.d (.int .u8))] [] [(.d .bool)] [] true ydh (R:=Bool) (λx=>x.1) (λr=>(r,())) (λn x=>zcg n x.1)
 (λn=>[]) (ann [] (Tryz.f152.body.getD .skip) 0).1
noncomputable def yg7:List (FI dat):=[]
theorem yen:(zho).Good Tryz.prog dat (tb yg7):=FI.yz4 (hD:=zz2 _) Tryz.func152 Tryz.ntmps152 Tryz.call152 (by kernel_rfl) (of_decide_eq_true (by kernel_rfl)) (by kernel_rfl) (λn=>by kernel_rfl) (λx=>by kernel_rfl) (λ_=>rfl) trivial
 (λn=>λx=>(zcg.eq_2 x.1 n).trans (by kernel_rfl))
 (λn=>trivial)
 (λx=>.inl rfl)
theorem yck:OkL Tryz.prog [zho]:=zz6 (zz2 _) (bs:=[]) trivial yen
theorem y95:FOk Tryz.prog zho:=yck.1
def zdz:Nat->Int->Option Bool
 |0,_=>none
 |n+1,a0 =>
  pIf (decide (a0>=48))
   (some (decide (a0<=57)))
   (some false)
def ykx:LSh:=⟨[(2,(.d .bool))],[],0,9⟩
noncomputable def zjz:FI dat:=FI.of dat 153 9 0 [(.d (.int .u8))] [] [(.d .bool)] [] true ykx (R:=Bool) (λx=>x.1) (λr=>(r,())) (λn x=>zdz n x.1)
 (λn=>[]) (ann [] (Tryz.f153.body.getD .skip) 0).1
noncomputable def ykz:List (FI dat):=[]
theorem ygz:(zjz).Good Tryz.prog dat (tb ykz):=FI.yz4 (hD:=zz2 _) Tryz.func153 Tryz.ntmps153 Tryz.call153 (by kernel_rfl) (of_decide_eq_true (by kernel_rfl)) (by kernel_rfl) (λn=>by kernel_rfl) (λx=>by kernel_rfl) (λ_=>rfl) trivial
 (λn=>λx=>(zdz.eq_2 x.1 n).trans (by kernel_rfl))
 (λn=>trivial)
 (λx=>.inl rfl)
theorem yh3:OkL Tryz.prog [zjz]:=zz6 (zz2 _) (bs:=[]) trivial ygz
theorem yfp:FOk Tryz.prog zjz:=yh3.1
mutual
def zdp:Nat->(List UInt8)->Option Bool
 |0,_=>none
 |n+1,a0 =>
  z11 n 0 a0
def z11:Nat->Int->(List UInt8)->Option Bool
 |0,_,_=>none
 |n+1,a0,a1 =>
  pIf (decide (a0<(a1.length:Int)))
   ((ix a1 a0).bind λx0 =>
   (zcg n (x0.toNat:Int)).bind λy1 =>
   pIf (!y1)
    (pIf (a0==0)
      (z1n n a1 a0 true)
      ((ix a1 a0).bind λx2 =>
      pIf ((x2.toNat:Int) != 45)
       ((ix a1 a0).bind λx3 =>
       (zdz n (x3.toNat:Int)).bind λy4 =>
       z1n n a1 a0 (!y4))
       (z1n n a1 a0 false)))
    (z1n n a1 a0 false))
   (pIf (decide ((a1.length:Int)>=1))
     (some (decide ((a1.length:Int)<=40)))
     (some false))
def z1n:Nat->(List UInt8)->Int->Bool->Option Bool
 |0,_,_,_=>none
 |n+1,a0,a1,a2 =>
  pIf a2
   (some false)
   (z11 n (IntKind.i64.wrap (a1+1)) a0)
end
def ysf:LSh:=⟨[(2,(.d .bool))],[],0,40⟩
noncomputable def zfj:FI dat:=FI.of dat 134 40 0 [(.d .str)] [] [(.d .bool)] [] true ysf (R:=Bool) (λx=>x.1) (λr=>(r,())) (λn x=>zdp n x.1)
 (λn=>[(0,⟨⟨[(3,(.d (.int .i64))),(0,(.d .str))],[],0,40⟩,λx=>z11 n x.1 x.2.1⟩),(1,⟨⟨[(0,(.d .str)),(3,(.d (.int .i64))),(31,(.d .bool))],[],0,40⟩,λx=>z1n n x.1 x.2.1 x.2.2.1⟩)]) (ann [(6,0),(17,1)] (Tryz.f134.body.getD .skip) 0).1
noncomputable def ysh:List (FI dat):=[zho,zjz]
theorem yox:(zfj).Good Tryz.prog dat (tb ysh):=FI.yz4 (hD:=zz2 _) Tryz.func134 Tryz.ntmps134 Tryz.call134 (by kernel_rfl) (of_decide_eq_true (by kernel_rfl)) (by kernel_rfl) (λn=>by kernel_rfl) (λx=>by kernel_rfl) (λ_=>rfl) ⟨λ_=>rfl,λ_=>rfl,trivial⟩
 (λn=>λx=>(zdp.eq_2 x.1 n).trans (by kernel_rfl))
 (λn=>⟨λx=>(z11.eq_2 x.1 x.2.1 n).trans (by kernel_rfl),
  λx=>(z1n.eq_2 x.1 x.2.1 x.2.2.1 n).trans (by kernel_rfl),
  trivial⟩)
 (λx=>.inl rfl)
theorem yt7:OkL Tryz.prog [zfj]:=zz6 (zz2 _) (bs:=[zho,zjz]) ⟨y95,yfp,trivial⟩ yox
theorem y0t:FOk Tryz.prog zfj:=yt7.1
def zci:Nat->(List UInt8)->Option Bool
 |0,_=>none
 |n+1,a0 =>
  pIf (a0==[115,120])
   (some true)
   (pIf (a0==[115,121])
     (some true)
     (some (a0==[115,122])))
def yg5:LSh:=⟨[(2,(.d .bool))],[],0,13⟩
noncomputable def zhi:FI dat:=FI.of dat 135 13 0 [(.d .str)] [] [(.d .bool)] [] true yg5 (R:=Bool) (λx=>x.1) (λr=>(r,())) (λn x=>zci n x.1)
 (λn=>[]) (ann [] (Tryz.f135.body.getD .skip) 0).1
noncomputable def yfb:List (FI dat):=[]
theorem ye2:(zhi).Good Tryz.prog dat (tb yfb):=FI.yz4 (hD:=zz2 _) Tryz.func135 Tryz.ntmps135 Tryz.call135 (by kernel_rfl) (of_decide_eq_true (by kernel_rfl)) (by kernel_rfl) (λn=>by kernel_rfl) (λx=>by kernel_rfl) (λ_=>rfl) trivial
 (λn=>λx=>(zci.eq_2 x.1 n).trans (by kernel_rfl))
 (λn=>trivial)
 (λx=>.inl rfl)
theorem ydb:OkL Tryz.prog [zhi]:=zz6 (zz2 _) (bs:=[]) trivial ye2
theorem y9w:FOk Tryz.prog zhi:=ydb.1
def z5n:Nat->(List UInt8)->Option Bool
 |0,_=>none
 |n+1,a0 =>
  (zdp n a0).bind λy0 =>
  pIf y0
   (pIf (!(a0==[116,114,117,101]))
     (pIf (!(a0==[102,97,108,115,101]))
       ((zci n a0).bind λy1 =>
       some (!y1))
       (some false))
     (some false))
   (some false)
def yss:LSh:=⟨[(2,(.d .bool))],[],0,18⟩
noncomputable def zf7:FI dat:=FI.of dat 107 18 0 [(.d .str)] [] [(.d .bool)] [] true yss (R:=Bool) (λx=>x.1) (λr=>(r,())) (λn x=>z5n n x.1)
 (λn=>[]) (ann [] (Tryz.f107.body.getD .skip) 0).1
noncomputable def yrf:List (FI dat):=[zfj,zhi]
theorem yrq:(zf7).Good Tryz.prog dat (tb yrf):=FI.yz4 (hD:=zz2 _) Tryz.func107 Tryz.ntmps107 Tryz.call107 (by kernel_rfl) (of_decide_eq_true (by kernel_rfl)) (by kernel_rfl) (λn=>by kernel_rfl) (λx=>by kernel_rfl) (λ_=>rfl) trivial
 (λn=>λx=>(z5n.eq_2 x.1 n).trans (by kernel_rfl))
 (λn=>trivial)
 (λx=>.inl rfl)
theorem yru:OkL Tryz.prog [zf7]:=zz6 (zz2 _) (bs:=[zfj,zhi]) ⟨y0t,y9w,trivial⟩ yrq
theorem y16:FOk Tryz.prog zf7:=yru.1
mutual
def zdf:Nat->zz1->Option Int
 |0,_=>none
 |n+1,a0 =>
  z7s n 0 1 a0.re
def z7s:Nat->Int->Int->zz1->Option Int
 |0,_,_,_=>none
 |n+1,a0,a1,a2 =>
  pIf (decide (a0<(a2.args.length:Int)))
   ((ix a2.args a0).bind λx0 =>
   (zdf n x0.re).bind λy1 =>
   z7s n (IntKind.i64.wrap (a0+1)) (mxI a1 (IntKind.i64.wrap (1+y1))) a2.re)
   (some a1)
end
def yrt:LSh:=⟨[(2,(.d (.int .i64)))],[],0,22⟩
noncomputable def zit:FI dat:=FI.of dat 136 22 0 [(.d (.st 2))] [] [(.d (.int .i64))] [] true yrt (R:=Int) (λx=>x.1) (λr=>(r,())) (λn x=>zdf n x.1)
 (λn=>[(0,⟨⟨[(4,(.d (.int .i64))),(1,(.ptr 0 0)),(3,(.d (.int .i64)))],[(.st 2)],0,22⟩,λx=>z7s n x.1 x.2.1 x.2.2.1⟩)]) (ann [(8,0)] (Tryz.f136.body.getD .skip) 0).1
noncomputable def yp9:List (FI dat):=[zit]++[]
theorem ysi:(zit).Good Tryz.prog dat (tb yp9):=FI.yz4 (hD:=zz2 _) Tryz.func136 Tryz.ntmps136 Tryz.call136 (by kernel_rfl) (of_decide_eq_true (by kernel_rfl)) (by kernel_rfl) (λn=>by kernel_rfl) (λx=>by kernel_rfl) (λ_=>rfl) ⟨λ_=>rfl,trivial⟩
 (λn=>λx=>(zdf.eq_2 x.1 n).trans (by kernel_rfl))
 (λn=>⟨λx=>(z7s.eq_2 x.1 x.2.1 x.2.2.1 n).trans (by kernel_rfl),
  trivial⟩)
 (λx=>.inl rfl)
theorem ynq:OkL Tryz.prog [zit]:=zc5 (zz2 _) (bs:=[]) trivial ⟨ysi,trivial⟩
theorem yj4:FOk Tryz.prog zit:=ynq.1
mutual
def zg7:Nat->Int->Option Int
 |0,_=>none
 |n+1,a0 =>
  pIf (a0==1)
   (zbf n a0 true)
   (zbf n a0 (a0==2))
def zbf:Nat->Int->Bool->Option Int
 |0,_,_=>none
 |n+1,a0,a1 =>
  pIf a1
   (some 0)
   (pIf (decide (a0>=3))
     (pIf (decide (a0<=10))
       (z0i n a0 true)
       (pIf (a0==13)
         (z0i n a0 true)
         (pIf (a0==14)
           (z0i n a0 true)
           (z0i n a0 (a0==17)))))
     (pIf (a0==13)
       (z0i n a0 true)
       (pIf (a0==14)
         (z0i n a0 true)
         (z0i n a0 (a0==17)))))
def z0i:Nat->Int->Bool->Option Int
 |0,_,_=>none
 |n+1,a0,a1 =>
  pIf a1
   (some 2)
   (pIf (a0==11)
     (z8o n a0 true)
     (pIf (a0==15)
       (z8o n a0 true)
       (z8o n a0 (a0==16))))
def z8o:Nat->Int->Bool->Option Int
 |0,_,_=>none
 |n+1,a0,a1 =>
  pIf a1
   (some 1)
   (pIf (a0==12)
     (some 3)
     (pIf (a0==18)
       (some (-1))
       (some (-2))))
end
def yt0:LSh:=⟨[(2,(.d (.int .i64)))],[],0,46⟩
noncomputable def zme:FI dat:=FI.of dat 154 46 0 [(.d (.int .u8))] [] [(.d (.int .i64))] [] true yt0 (R:=Int) (λx=>x.1) (λr=>(r,())) (λn x=>zg7 n x.1)
 (λn=>[(0,⟨⟨[(0,(.d (.int .u8))),(3,(.d .bool))],[],0,46⟩,λx=>zbf n x.1 x.2.1⟩),(1,⟨⟨[(0,(.d (.int .u8))),(10,(.d .bool))],[],0,46⟩,λx=>z0i n x.1 x.2.1⟩),(2,⟨⟨[(0,(.d (.int .u8))),(29,(.d .bool))],[],0,46⟩,λx=>z8o n x.1 x.2.1⟩)]) (ann [(6,0),(12,1),(18,2)] (Tryz.f154.body.getD .skip) 0).1
noncomputable def yrb:List (FI dat):=[]
theorem yra:(zme).Good Tryz.prog dat (tb yrb):=FI.yz4 (hD:=zz2 _) Tryz.func154 Tryz.ntmps154 Tryz.call154 (by kernel_rfl) (of_decide_eq_true (by kernel_rfl)) (by kernel_rfl) (λn=>by kernel_rfl) (λx=>by kernel_rfl) (λ_=>rfl) ⟨λ_=>rfl,λ_=>rfl,λ_=>rfl,trivial⟩
 (λn=>λx=>(zg7.eq_2 x.1 n).trans (by kernel_rfl))
 (λn=>⟨λx=>(zbf.eq_2 x.1 x.2.1 n).trans (by kernel_rfl),
  λx=>(z0i.eq_2 x.1 x.2.1 n).trans (by kernel_rfl),
  λx=>(z8o.eq_2 x.1 x.2.1 n).trans (by kernel_rfl),
  trivial⟩)
 (λx=>.inl rfl)
theorem yp0:OkL Tryz.prog [zme]:=zz6 (zz2 _) (bs:=[]) trivial yra
theorem yhd:FOk Tryz.prog zme:=yp0.1
mutual
def zdl:Nat->yz2->Option Int
 |0,_=>none
 |n+1,a0 =>
  z81 n 0 1 a0.re
def z81:Nat->Int->Int->yz2->Option Int
 |0,_,_,_=>none
 |n+1,a0,a1,a2 =>
  pIf (decide (a0<(a2.list.length:Int)))
   (z7t n a0 a1 (a2.kind==4) a2.re)
   (z7t n a0 a1 false a2.re)
def z7t:Nat->Int->Int->Bool->yz2->Option Int
 |0,_,_,_,_=>none
 |n+1,a0,a1,a2,a3 =>
  pIf a2
   ((ix a3.list a0).bind λx0 =>
   (zdl n x0.re).bind λy1 =>
   z81 n (IntKind.i64.wrap (a0+1)) (mxI a1 (IntKind.i64.wrap (1+y1))) a3.re)
   (some a1)
end
def yqk:LSh:=⟨[(2,(.d (.int .i64)))],[],0,27⟩
noncomputable def zir:FI dat:=FI.of dat 160 27 0 [(.d (.st 1))] [] [(.d (.int .i64))] [] true yqk (R:=Int) (λx=>x.1) (λr=>(r,())) (λn x=>zdl n x.1)
 (λn=>[(0,⟨⟨[(4,(.d (.int .i64))),(1,(.ptr 0 0)),(3,(.d (.int .i64)))],[(.st 1)],0,27⟩,λx=>z81 n x.1 x.2.1 x.2.2.1⟩),(1,⟨⟨[(1,(.ptr 0 0)),(4,(.d (.int .i64))),(3,(.d (.int .i64))),(14,(.d .bool))],[(.st 1)],0,27⟩,λx=>z7t n x.1 x.2.1 x.2.2.1 x.2.2.2.1⟩)]) (ann [(8,0),(12,1)] (Tryz.f160.body.getD .skip) 0).1
noncomputable def yr6:List (FI dat):=[zir]++[]
theorem ys8:(zir).Good Tryz.prog dat (tb yr6):=FI.yz4 (hD:=zz2 _) Tryz.func160 Tryz.ntmps160 Tryz.call160 (by kernel_rfl) (of_decide_eq_true (by kernel_rfl)) (by kernel_rfl) (λn=>by kernel_rfl) (λx=>by kernel_rfl) (λ_=>rfl) ⟨λ_=>rfl,λ_=>rfl,trivial⟩
 (λn=>λx=>(zdl.eq_2 x.1 n).trans (by kernel_rfl))
 (λn=>⟨λx=>(z81.eq_2 x.1 x.2.1 x.2.2.1 n).trans (by kernel_rfl),
  λx=>(z7t.eq_2 x.1 x.2.1 x.2.2.1 x.2.2.2.1 n).trans (by kernel_rfl),
  trivial⟩)
 (λx=>.inl rfl)
theorem yqi:OkL Tryz.prog [zir]:=zc5 (zz2 _) (bs:=[]) trivial ⟨ys8,trivial⟩
theorem ylc:FOk Tryz.prog zir:=yqi.1
mutual
def zcb:Nat->Int->Int->Option Int
 |0,_,_=>none
 |n+1,a0,a1 =>
  z4t n a1 a0
def z4t:Nat->Int->Int->Option Int
 |0,_,_=>none
 |n+1,a0,a1 =>
  pIf (a0 != 0)
   ((rem .i64 a1 a0).bind λx0 =>
   z4t n x0 a0)
   (pIf (decide (a1<0))
     (some (IntKind.i64.wrap (0-a1)))
     (some a1))
end
def ycn:LSh:=⟨[(4,(.d (.int .i64)))],[],0,16⟩
noncomputable def zhs:FI dat:=FI.of dat 166 16 0 [(.d (.int .i64)),(.d (.int .i64))] [] [(.d (.int .i64))] [] true ycn (R:=Int) (λx=>x.1) (λr=>(r,())) (λn x=>zcb n x.1 x.2.1)
 (λn=>[(0,⟨⟨[(1,(.d (.int .i64))),(0,(.d (.int .i64)))],[],0,16⟩,λx=>z4t n x.1 x.2.1⟩)]) (ann [(4,0)] (Tryz.f166.body.getD .skip) 0).1
noncomputable def yfy:List (FI dat):=[]
theorem ycm:(zhs).Good Tryz.prog dat (tb yfy):=FI.yz4 (hD:=zz2 _) Tryz.func166 Tryz.ntmps166 Tryz.call166 (by kernel_rfl) (of_decide_eq_true (by kernel_rfl)) (by kernel_rfl) (λn=>by kernel_rfl) (λx=>by kernel_rfl) (λ_=>rfl) ⟨λ_=>rfl,trivial⟩
 (λn=>λx=>(zcb.eq_2 x.1 x.2.1 n).trans (by kernel_rfl))
 (λn=>⟨λx=>(z4t.eq_2 x.1 x.2.1 n).trans (by kernel_rfl),
  trivial⟩)
 (λx=>.inl rfl)
theorem yc3:OkL Tryz.prog [zhs]:=zz6 (zz2 _) (bs:=[]) trivial ycm
theorem y9x:FOk Tryz.prog zhs:=yc3.1
end Go.Proofs.YtahcjggdcmgpkaaGreat
namespace Go.Proofs.YtahcjggdcmgpkaaGreat
open Go Go.Ab
set_option linter.unusedVariables false
set_option maxRecDepth 100000
set_option maxHeartbeats 4000000
mutual
def zeg:Nat->kz6->Option Int
 |0,_=>none
 |n+1,a0 =>
  pIf (decide (a0.den<1))
   (z17 n true)
   (pIf (decide (a0.den>1000000000))
     (z17 n true)
     (pIf (decide (a0.num<(-1000000000)))
       (z17 n true)
       (pIf (decide (a0.num>1000000000))
         (z17 n true)
         ((zcb n a0.num a0.den).bind λy0 =>
         z17 n (y0 != 1)))))
def z17:Nat->Bool->Option Int
 |0,_=>none
 |n+1,a0 =>
  pIf a0
   (some 8)
   (some 0)
end
def yjj:LSh:=⟨[(2,(.d (.int .i64)))],[],0,29⟩
noncomputable def zkd:FI dat:=FI.of dat 163 29 0 [(.d (.st 0))] [] [(.d (.int .i64))] [] true yjj (R:=Int) (λx=>x.1) (λr=>(r,())) (λn x=>zeg n x.1)
 (λn=>[(0,⟨⟨[(28,(.d .bool))],[],0,29⟩,λx=>z17 n x.1⟩)]) (ann [(5,0)] (Tryz.f163.body.getD .skip) 0).1
noncomputable def yml:List (FI dat):=[zhs]
theorem yia:(zkd).Good Tryz.prog dat (tb yml):=FI.yz4 (hD:=zz2 _) Tryz.func163 Tryz.ntmps163 Tryz.call163 (by kernel_rfl) (of_decide_eq_true (by kernel_rfl)) (by kernel_rfl) (λn=>by kernel_rfl) (λx=>by kernel_rfl) (λ_=>rfl) ⟨λ_=>rfl,trivial⟩
 (λn=>λx=>(zeg.eq_2 x.1 n).trans (by kernel_rfl))
 (λn=>⟨λx=>(z17.eq_2 x.1 n).trans (by kernel_rfl),
  trivial⟩)
 (λx=>.inl rfl)
theorem ykh:OkL Tryz.prog [zkd]:=zz6 (zz2 _) (bs:=[zhs]) ⟨y9x,trivial⟩ yia
theorem yee:FOk Tryz.prog zkd:=ykh.1
mutual
def zdk:Nat->yz2->Option Bool
 |0,_=>none
 |n+1,a0 =>
  pIf (a0.kind==1)
   ((zeg n a0.num).bind λy0 =>
   pIf (y0==0)
    (pIf (!a0.truth)
      (pIf ((a0.str.length:Int)==0)
        (some ((a0.list.length:Int)==0))
        (some false))
      (some false))
    (some false))
   (pIf (a0.kind==2)
     (pIf ((a0.num.num==0)&&((a0.num.den==0)&&true))
       (pIf ((a0.str.length:Int)==0)
         (some ((a0.list.length:Int)==0))
         (some false))
       (some false))
     (pIf (a0.kind==3)
       (pIf (!((a0.num.num==0)&&((a0.num.den==0)&&true)))
         (z1r n true a0.re)
         (pIf a0.truth
           (z1r n true a0.re)
           (pIf (decide ((a0.list.length:Int)>0))
             (z1r n true a0.re)
             (z1r n (decide ((a0.str.length:Int)>60)) a0.re))))
       (pIf (a0.kind==4)
         (pIf (!((a0.num.num==0)&&((a0.num.den==0)&&true)))
           (z3e n true a0.re)
           (pIf a0.truth
             (z3e n true a0.re)
             (z3e n (decide ((a0.str.length:Int)>0)) a0.re)))
         (some false))))
def z1r:Nat->Bool->yz2->Option Bool
 |0,_,_=>none
 |n+1,a0,a1 =>
  pIf a0
   (some false)
   (z8m n 0 a1.re)
def z8m:Nat->Int->yz2->Option Bool
 |0,_,_=>none
 |n+1,a0,a1 =>
  pIf (decide (a0<(a1.str.length:Int)))
   ((ix a1.str a0).bind λx1 =>
   pIf (decide ((x1.toNat:Int)<32))
    (z7y n a0 true a1.re)
    ((ix a1.str a0).bind λx2 =>
    z7y n a0 (decide ((x2.toNat:Int)>126)) a1.re))
   (some true)
def z7y:Nat->Int->Bool->yz2->Option Bool
 |0,_,_,_=>none
 |n+1,a0,a1,a2 =>
  pIf a1
   (some false)
   (z8m n (IntKind.i64.wrap (a0+1)) a2.re)
def z3e:Nat->Bool->yz2->Option Bool
 |0,_,_=>none
 |n+1,a0,a1 =>
  pIf a0
   (some false)
   (z7v n 0 a1.re)
def z7v:Nat->Int->yz2->Option Bool
 |0,_,_=>none
 |n+1,a0,a1 =>
  pIf (decide (a0<(a1.list.length:Int)))
   ((ix a1.list a0).bind λx3 =>
   (zdk n x3.re).bind λy4 =>
   pIf (!y4)
    (some false)
    (z7v n (IntKind.i64.wrap (a0+1)) a1.re))
   (some true)
end
def ysq:LSh:=⟨[(2,(.d .bool))],[],0,121⟩
noncomputable def ziu:FI dat:=FI.of dat 161 121 0 [(.d (.st 1))] [] [(.d .bool)] [] true ysq (R:=Bool) (λx=>x.1) (λr=>(r,())) (λn x=>zdk n x.1)
 (λn=>[(0,⟨⟨[(1,(.ptr 0 0)),(71,(.d .bool))],[(.st 1)],0,121⟩,λx=>z1r n x.1 x.2.1⟩),(1,⟨⟨[(4,(.d (.int .i64))),(1,(.ptr 0 0))],[(.st 1)],0,121⟩,λx=>z8m n x.1 x.2.1⟩),(2,⟨⟨[(1,(.ptr 0 0)),(4,(.d (.int .i64))),(90,(.d .bool))],[(.st 1)],0,121⟩,λx=>z7y n x.1 x.2.1 x.2.2.1⟩),(3,⟨⟨[(1,(.ptr 0 0)),(106,(.d .bool))],[(.st 1)],0,121⟩,λx=>z3e n x.1 x.2.1⟩),(4,⟨⟨[(5,(.d (.int .i64))),(1,(.ptr 0 0))],[(.st 1)],0,121⟩,λx=>z7v n x.1 x.2.1⟩)]) (ann [(26,0),(35,1),(46,2),(61,3),(70,4)] (Tryz.f161.body.getD .skip) 0).1
noncomputable def ysx:List (FI dat):=[ziu]++[zkd]
theorem yq6:(ziu).Good Tryz.prog dat (tb ysx):=FI.yz4 (hD:=zz2 _) Tryz.func161 Tryz.ntmps161 Tryz.call161 (by kernel_rfl) (of_decide_eq_true (by kernel_rfl)) (by kernel_rfl) (λn=>by kernel_rfl) (λx=>by kernel_rfl) (λ_=>rfl) ⟨λ_=>rfl,λ_=>rfl,λ_=>rfl,λ_=>rfl,λ_=>rfl,trivial⟩
 (λn=>λx=>(zdk.eq_2 x.1 n).trans (by kernel_rfl))
 (λn=>⟨λx=>(z1r.eq_2 x.1 x.2.1 n).trans (by kernel_rfl),
  λx=>(z8m.eq_2 x.1 x.2.1 n).trans (by kernel_rfl),
  λx=>(z7y.eq_2 x.1 x.2.1 x.2.2.1 n).trans (by kernel_rfl),
  λx=>(z3e.eq_2 x.1 x.2.1 n).trans (by kernel_rfl),
  λx=>(z7v.eq_2 x.1 x.2.1 n).trans (by kernel_rfl),
  trivial⟩)
 (λx=>.inl rfl)
theorem yr8:OkL Tryz.prog [ziu]:=zc5 (zz2 _) (bs:=[zkd]) ⟨yee,trivial⟩ ⟨yq6,trivial⟩
theorem ylk:FOk Tryz.prog ziu:=yr8.1
mutual
def ze0:Nat->yz2->Option Int
 |0,_=>none
 |n+1,a0 =>
  (z9b n a0.re).bind λy0 =>
  pIf (decide (y0>100))
   (z78 n true a0.re)
   ((zdl n a0.re).bind λy1 =>
   z78 n (decide (y1>6)) a0.re)
def z78:Nat->Bool->yz2->Option Int
 |0,_,_=>none
 |n+1,a0,a1 =>
  pIf a0
   (some 4)
   ((zdk n a1.re).bind λy2 =>
   pIf (!y2)
    (some 8)
    (some 0))
end
def ykf:LSh:=⟨[(2,(.d (.int .i64)))],[],0,14⟩
noncomputable def zk7:FI dat:=FI.of dat 155 14 0 [(.d (.st 1))] [] [(.d (.int .i64))] [] true ykf (R:=Int) (λx=>x.1) (λr=>(r,())) (λn x=>ze0 n x.1)
 (λn=>[(0,⟨⟨[(1,(.ptr 0 0)),(10,(.d .bool))],[(.st 1)],0,14⟩,λx=>z78 n x.1 x.2.1⟩)]) (ann [(5,0)] (Tryz.f155.body.getD .skip) 0).1
noncomputable def ym2:List (FI dat):=[zb8,zir,ziu]
theorem yho:(zk7).Good Tryz.prog dat (tb ym2):=FI.yz4 (hD:=zz2 _) Tryz.func155 Tryz.ntmps155 Tryz.call155 (by kernel_rfl) (of_decide_eq_true (by kernel_rfl)) (by kernel_rfl) (λn=>by kernel_rfl) (λx=>by kernel_rfl) (λ_=>rfl) ⟨λ_=>rfl,trivial⟩
 (λn=>λx=>(ze0.eq_2 x.1 n).trans (by kernel_rfl))
 (λn=>⟨λx=>(z78.eq_2 x.1 x.2.1 n).trans (by kernel_rfl),
  trivial⟩)
 (λx=>.inl rfl)
theorem ymk:OkL Tryz.prog [zk7]:=zz6 (zz2 _) (bs:=[zb8,zir,ziu]) ⟨zxn,ylc,ylk,trivial⟩ yho
theorem yc5:FOk Tryz.prog zk7:=ymk.1
mutual
def z4a:Nat->yz2->yz2->Option Bool
 |0,_,_=>none
 |n+1,a0,a1 =>
  pIf (a0.kind != a1.kind)
   (z1q n true a1.re a0.re)
   (pIf (!((a0.num.num==a1.num.num)&&((a0.num.den==a1.num.den)&&true)))
     (z1q n true a1.re a0.re)
     (pIf (!(a0.truth==a1.truth))
       (z1q n true a1.re a0.re)
       (pIf (!(a0.str==a1.str))
         (z1q n true a1.re a0.re)
         (z1q n ((a0.list.length:Int) != (a1.list.length:Int)) a1.re a0.re))))
def z1q:Nat->Bool->yz2->yz2->Option Bool
 |0,_,_,_=>none
 |n+1,a0,a1,a2 =>
  pIf a0
   (some false)
   (z8k n 0 a1.re a2.re)
def z8k:Nat->Int->yz2->yz2->Option Bool
 |0,_,_,_=>none
 |n+1,a0,a1,a2 =>
  pIf (decide (a0<(a2.list.length:Int)))
   ((ix a2.list a0).bind λx0 =>
   (ix a1.list a0).bind λx1 =>
   (z4a n x0.re x1.re).bind λy2 =>
   pIf (!y2)
    (some false)
    (z8k n (IntKind.i64.wrap (a0+1)) a1.re a2.re))
   (some true)
end
def yrg:LSh:=⟨[(4,(.d .bool))],[],0,60⟩
noncomputable def zd1:FI dat:=FI.of dat 75 60 0 [(.d (.st 1)),(.d (.st 1))] [] [(.d .bool)] [] true yrg (R:=Bool) (λx=>x.1) (λr=>(r,())) (λn x=>z4a n x.1 x.2.1)
 (λn=>[(0,⟨⟨[(3,(.ptr 0 0)),(2,(.ptr 1 0)),(40,(.d .bool))],[(.st 1),(.st 1)],0,60⟩,λx=>z1q n x.1 x.2.1 x.2.2.1⟩),(1,⟨⟨[(5,(.d (.int .i64))),(3,(.ptr 0 0)),(2,(.ptr 1 0))],[(.st 1),(.st 1)],0,60⟩,λx=>z8k n x.1 x.2.1 x.2.2.1⟩)]) (ann [(5,0),(14,1)] (Tryz.f75.body.getD .skip) 0).1
noncomputable def ys2:List (FI dat):=[zd1]++[]
theorem yre:(zd1).Good Tryz.prog dat (tb ys2):=FI.yz4 (hD:=zz2 _) Tryz.func75 Tryz.ntmps75 Tryz.call75 (by kernel_rfl) (of_decide_eq_true (by kernel_rfl)) (by kernel_rfl) (λn=>by kernel_rfl) (λx=>by kernel_rfl) (λ_=>rfl) ⟨λ_=>rfl,λ_=>rfl,trivial⟩
 (λn=>λx=>(z4a.eq_2 x.1 x.2.1 n).trans (by kernel_rfl))
 (λn=>⟨λx=>(z1q.eq_2 x.1 x.2.1 x.2.2.1 n).trans (by kernel_rfl),
  λx=>(z8k.eq_2 x.1 x.2.1 x.2.2.1 n).trans (by kernel_rfl),
  trivial⟩)
 (λx=>.inl rfl)
theorem yqc:OkL Tryz.prog [zd1]:=zc5 (zz2 _) (bs:=[]) trivial ⟨yre,trivial⟩
theorem y1c:FOk Tryz.prog zd1:=yqc.1
def ze3:Nat->(List UInt8)->Option Bool
 |0,_=>none
 |n+1,a0 =>
  (zdp n a0).bind λy0 =>
  pIf y0
   (pIf (!(a0==[116,114,117,101]))
     (some (!(a0==[102,97,108,115,101])))
     (some false))
   (some false)
def yib:LSh:=⟨[(2,(.d .bool))],[],0,13⟩
noncomputable def zjm:FI dat:=FI.of dat 156 13 0 [(.d .str)] [] [(.d .bool)] [] true yib (R:=Bool) (λx=>x.1) (λr=>(r,())) (λn x=>ze3 n x.1)
 (λn=>[]) (ann [] (Tryz.f156.body.getD .skip) 0).1
noncomputable def yjk:List (FI dat):=[zfj]
theorem yhy:(zjm).Good Tryz.prog dat (tb yjk):=FI.yz4 (hD:=zz2 _) Tryz.func156 Tryz.ntmps156 Tryz.call156 (by kernel_rfl) (of_decide_eq_true (by kernel_rfl)) (by kernel_rfl) (λn=>by kernel_rfl) (λx=>by kernel_rfl) (λ_=>rfl) trivial
 (λn=>λx=>(ze3.eq_2 x.1 n).trans (by kernel_rfl))
 (λn=>trivial)
 (λx=>.inl rfl)
theorem ylo:OkL Tryz.prog [zjm]:=zz6 (zz2 _) (bs:=[zfj]) ⟨y0t,trivial⟩ yhy
theorem ydz:FOk Tryz.prog zjm:=ylo.1
mutual
def zd4:Nat->zz1->Option Bool
 |0,_=>none
 |n+1,a0 =>
  (zg7 n a0.op).bind λy0 =>
  pIf (y0==(-2))
   (z5c n true a0.re)
   (pIf (decide (y0>=0))
     (z5c n ((a0.args.length:Int) != y0) a0.re)
     (z5c n false a0.re))
def z5c:Nat->Bool->zz1->Option Bool
 |0,_,_=>none
 |n+1,a0,a1 =>
  pIf a0
   (some false)
   (pIf (a1.op==1)
     ((ze0 n a1.value.re).bind λy1 =>
     pIf (y1 != 0)
      (z15 n true a1.re)
      (pIf (a1.value.kind==4)
        (z15 n true a1.re)
        (pIf (a1.op != 1)
          ((z4a n a1.value.re (yz2.mk 0 (kz6.mk 0 0) false [] [])).bind λy2 =>
          z15 n (!y2) a1.re)
          (z15 n false a1.re))))
     (pIf (a1.op != 1)
       ((z4a n a1.value.re (yz2.mk 0 (kz6.mk 0 0) false [] [])).bind λy3 =>
       z15 n (!y3) a1.re)
       (z15 n false a1.re)))
def z15:Nat->Bool->zz1->Option Bool
 |0,_,_=>none
 |n+1,a0,a1 =>
  pIf a0
   (some false)
   (pIf (a1.op==2)
     ((ze3 n a1.name).bind λy4 =>
     pIf (!y4)
      (z1o n true a1.re)
      (pIf (a1.op != 2)
        (z1o n (decide ((a1.name.length:Int)>0)) a1.re)
        (z1o n false a1.re)))
     (pIf (a1.op != 2)
       (z1o n (decide ((a1.name.length:Int)>0)) a1.re)
       (z1o n false a1.re)))
def z1o:Nat->Bool->zz1->Option Bool
 |0,_,_=>none
 |n+1,a0,a1 =>
  pIf a0
   (some false)
   (z89 n 0 a1.re)
def z89:Nat->Int->zz1->Option Bool
 |0,_,_=>none
 |n+1,a0,a1 =>
  pIf (decide (a0<(a1.args.length:Int)))
   ((ix a1.args a0).bind λx5 =>
   (zd4 n x5.re).bind λy6 =>
   pIf (!y6)
    (some false)
    (z89 n (IntKind.i64.wrap (a0+1)) a1.re))
   (some true)
end
def ypa:LSh:=⟨[(2,(.d .bool))],[],0,82⟩
noncomputable def zil:FI dat:=FI.of dat 137 82 0 [(.d (.st 2))] [] [(.d .bool)] [] true ypa (R:=Bool) (λx=>x.1) (λr=>(r,())) (λn x=>zd4 n x.1)
 (λn=>[(0,⟨⟨[(1,(.ptr 0 0)),(20,(.d .bool))],[(.st 2)],0,82⟩,λx=>z5c n x.1 x.2.1⟩),(1,⟨⟨[(1,(.ptr 0 0)),(47,(.d .bool))],[(.st 2)],0,82⟩,λx=>z15 n x.1 x.2.1⟩),(2,⟨⟨[(1,(.ptr 0 0)),(67,(.d .bool))],[(.st 2)],0,82⟩,λx=>z1o n x.1 x.2.1⟩),(3,⟨⟨[(4,(.d (.int .i64))),(1,(.ptr 0 0))],[(.st 2)],0,82⟩,λx=>z89 n x.1 x.2.1⟩)]) (ann [(7,0),(15,1),(23,2),(32,3)] (Tryz.f137.body.getD .skip) 0).1
noncomputable def ysm:List (FI dat):=[zil]++[zme,zk7,zd1,zjm]
theorem yow:(zil).Good Tryz.prog dat (tb ysm):=FI.yz4 (hD:=zz2 _) Tryz.func137 Tryz.ntmps137 Tryz.call137 (by kernel_rfl) (of_decide_eq_true (by kernel_rfl)) (by kernel_rfl) (λn=>by kernel_rfl) (λx=>by kernel_rfl) (λ_=>rfl) ⟨λ_=>rfl,λ_=>rfl,λ_=>rfl,λ_=>rfl,trivial⟩
 (λn=>λx=>(zd4.eq_2 x.1 n).trans (by kernel_rfl))
 (λn=>⟨λx=>(z5c.eq_2 x.1 x.2.1 n).trans (by kernel_rfl),
  λx=>(z15.eq_2 x.1 x.2.1 n).trans (by kernel_rfl),
  λx=>(z1o.eq_2 x.1 x.2.1 n).trans (by kernel_rfl),
  λx=>(z89.eq_2 x.1 x.2.1 n).trans (by kernel_rfl),
  trivial⟩)
 (λx=>.inl rfl)
theorem ys1:OkL Tryz.prog [zil]:=zc5 (zz2 _) (bs:=[zme,zk7,zd1,zjm]) ⟨yhd,yc5,y1c,ydz,trivial⟩ ⟨yow,trivial⟩
theorem yjb:FOk Tryz.prog zil:=ys1.1
mutual
def z2o:Nat->zz1->Option Int
 |0,_=>none
 |n+1,a0 =>
  (z9f n a0.re).bind λy0 =>
  pIf (decide (y0>100))
   (z6k n true a0.re)
   ((zdf n a0.re).bind λy1 =>
   z6k n (decide (y1>12)) a0.re)
def z6k:Nat->Bool->zz1->Option Int
 |0,_,_=>none
 |n+1,a0,a1 =>
  pIf a0
   (some 4)
   ((zd4 n a1.re).bind λy2 =>
   pIf (!y2)
    (some 8)
    (some 0))
end
def ymh:LSh:=⟨[(2,(.d (.int .i64)))],[],0,14⟩
noncomputable def z97:FI dat:=FI.of dat 108 14 0 [(.d (.st 2))] [] [(.d (.int .i64))] [] true ymh (R:=Int) (λx=>x.1) (λr=>(r,())) (λn x=>z2o n x.1)
 (λn=>[(0,⟨⟨[(1,(.ptr 0 0)),(10,(.d .bool))],[(.st 2)],0,14⟩,λx=>z6k n x.1 x.2.1⟩)]) (ann [(5,0)] (Tryz.f108.body.getD .skip) 0).1
noncomputable def yk0:List (FI dat):=[zba,zit,zil]
theorem yii:(z97).Good Tryz.prog dat (tb yk0):=FI.yz4 (hD:=zz2 _) Tryz.func108 Tryz.ntmps108 Tryz.call108 (by kernel_rfl) (of_decide_eq_true (by kernel_rfl)) (by kernel_rfl) (λn=>by kernel_rfl) (λx=>by kernel_rfl) (λ_=>rfl) ⟨λ_=>rfl,trivial⟩
 (λn=>λx=>(z2o.eq_2 x.1 n).trans (by kernel_rfl))
 (λn=>⟨λx=>(z6k.eq_2 x.1 x.2.1 n).trans (by kernel_rfl),
  trivial⟩)
 (λx=>.inl rfl)
theorem yiu:OkL Tryz.prog [z97]:=zz6 (zz2 _) (bs:=[zba,zit,zil]) ⟨zxx,yj4,yjb,trivial⟩ yii
theorem zrc:FOk Tryz.prog z97:=yiu.1
mutual
def zfn:Nat->Int->Option Int
 |0,_=>none
 |n+1,a0 =>
  pIf (a0==2)
   (za5 n a0 true)
   (za5 n a0 (a0==3))
def za5:Nat->Int->Bool->Option Int
 |0,_,_=>none
 |n+1,a0,a1 =>
  pIf a1
   (some 3)
   (pIf (a0==4)
     (zam n true)
     (zam n (a0==6)))
def zam:Nat->Bool->Option Int
 |0,_=>none
 |n+1,a0 =>
  pIf a0
   (some 1)
   (some 0)
end
def yul:LSh:=⟨[(2,(.d (.int .i64)))],[],0,10⟩
noncomputable def zhn:FI dat:=FI.of dat 94 10 0 [(.d (.int .u8))] [] [(.d (.int .i64))] [] true yul (R:=Int) (λx=>x.1) (λr=>(r,())) (λn x=>zfn n x.1)
 (λn=>[(0,⟨⟨[(3,(.d (.int .u8))),(4,(.d .bool))],[],0,10⟩,λx=>za5 n x.1 x.2.1⟩),(1,⟨⟨[(7,(.d .bool))],[],0,10⟩,λx=>zam n x.1⟩)]) (ann [(12,0),(22,1)] (Tryz.f94.body.getD .skip) 0).1
noncomputable def yw6:List (FI dat):=[]
theorem yv4:(zhn).Good Tryz.prog dat (tb yw6):=FI.yz4 (hD:=zz2 _) Tryz.func94 Tryz.ntmps94 Tryz.call94 (by kernel_rfl) (of_decide_eq_true (by kernel_rfl)) (by kernel_rfl) (λn=>by kernel_rfl) (λx=>by kernel_rfl) (λ_=>rfl) ⟨λ_=>rfl,λ_=>rfl,trivial⟩
 (λn=>λx=>(zfn.eq_2 x.1 n).trans (by kernel_rfl))
 (λn=>⟨λx=>(za5.eq_2 x.1 x.2.1 n).trans (by kernel_rfl),
  λx=>(zam.eq_2 x.1 n).trans (by kernel_rfl),
  trivial⟩)
 (λx=>.inl rfl)
theorem yu7:OkL Tryz.prog [zhn]:=zz6 (zz2 _) (bs:=[]) trivial yv4
theorem y3k:FOk Tryz.prog zhn:=yu7.1
mutual
def zc7:Nat->zz3->Option Bool
 |0,_=>none
 |n+1,a0 =>
  pIf (decide (a0.kind<1))
   (z1g n true a0)
   (pIf (decide (a0.kind>6))
     (z1g n true a0)
     ((z05 n a0.args).bind λy0 =>
     (z2o n y0.re).bind λy1 =>
     pIf (y1 != 0)
      (z1g n true a0)
      ((zfn n a0.kind).bind λy2 =>
      z1g n (decide ((a0.args.length:Int)<y2)) a0)))
def z1g:Nat->Bool->zz3->Option Bool
 |0,_,_=>none
 |n+1,a0,a1 =>
  pIf a0
   (some false)
   (pIf (a1.kind==4)
     (z4n n true a1)
     (z4n n (a1.kind==5) a1))
def z4n:Nat->Bool->zz3->Option Bool
 |0,_,_=>none
 |n+1,a0,a1 =>
  pIf a0
   (pIf (decide (a1.axis>2))
     (some false)
     (z4w n a1))
   (pIf (a1.axis != 0)
     (some false)
     (z4w n a1))
def z4w:Nat->zz3->Option Bool
 |0,_=>none
 |n+1,a0 =>
  pIf (a0.kind==5)
   (z84 n true a0)
   (z84 n (a0.kind==6) a0)
def z84:Nat->Bool->zz3->Option Bool
 |0,_,_=>none
 |n+1,a0,a1 =>
  pIf a0
   (pIf (decide ((a1.name.length:Int)>0))
     (z09 n true a1)
     (pIf (a1.kind==5)
       (pIf (decide ((a1.args.length:Int)>0))
         (z09 n true a1)
         (pIf (a1.kind==6)
           (z09 n (decide ((a1.args.length:Int)>1)) a1)
           (z09 n false a1)))
       (pIf (a1.kind==6)
         (z09 n (decide ((a1.args.length:Int)>1)) a1)
         (z09 n false a1))))
   ((z5n n a1.name).bind λy3 =>
   pIf (!y3)
    (some false)
    (z4y n a1))
def z09:Nat->Bool->zz3->Option Bool
 |0,_,_=>none
 |n+1,a0,a1 =>
  pIf a0
   (some false)
   (z4y n a1)
def z4y:Nat->zz3->Option Bool
 |0,_=>none
 |n+1,a0 =>
  pIf (!((a0.kind==5)==(decide ((a0.items.length:Int)>0))))
   (some false)
   (z2u n 0 a0)
def z2u:Nat->Int->zz3->Option Bool
 |0,_,_=>none
 |n+1,a0,a1 =>
  pIf (decide (a0<(a1.items.length:Int)))
   ((ix a1.items a0).bind λx4 =>
   pIf (decide (x4.kind<1))
    (z0s n a0 true a1)
    (pIf (decide (x4.kind>3))
      (z0s n a0 true a1)
      ((z5n n x4.name).bind λy5 =>
      pIf (!y5)
       (z0s n a0 true a1)
       (pIf ((x4.args.length:Int)==0)
         (z0s n a0 true a1)
         ((z05 n x4.args).bind λy6 =>
         (z2o n y6.re).bind λy7 =>
         z0s n a0 (y7 != 0) a1)))))
   (some true)
def z0s:Nat->Int->Bool->zz3->Option Bool
 |0,_,_,_=>none
 |n+1,a0,a1,a2 =>
  pIf a1
   (some false)
   (z2u n (IntKind.i64.wrap (a0+1)) a2)
end
def ybv:LSh:=⟨[(2,(.d .bool))],[],0,128⟩
noncomputable def zhp:FI dat:=FI.of dat 109 128 0 [(.d (.st 5))] [] [(.d .bool)] [] true ybv (R:=Bool) (λx=>x.1) (λr=>(r,())) (λn x=>zc7 n x.1)
 (λn=>[(0,⟨⟨[(1,(.ptr 0 0)),(28,(.d .bool))],[(.st 5)],0,128⟩,λx=>z1g n x.1 x.2.1⟩),(1,⟨⟨[(1,(.ptr 0 0)),(36,(.d .bool))],[(.st 5)],0,128⟩,λx=>z4n n x.1 x.2.1⟩),(2,⟨⟨[(1,(.ptr 0 0))],[(.st 5)],0,128⟩,λx=>z4w n x.1⟩),(3,⟨⟨[(1,(.ptr 0 0)),(50,(.d .bool))],[(.st 5)],0,128⟩,λx=>z84 n x.1 x.2.1⟩),(4,⟨⟨[(1,(.ptr 0 0)),(76,(.d .bool))],[(.st 5)],0,128⟩,λx=>z09 n x.1 x.2.1⟩),(5,⟨⟨[(1,(.ptr 0 0))],[(.st 5)],0,128⟩,λx=>z4y n x.1⟩),(6,⟨⟨[(3,(.d (.int .i64))),(1,(.ptr 0 0))],[(.st 5)],0,128⟩,λx=>z2u n x.1 x.2.1⟩),(7,⟨⟨[(1,(.ptr 0 0)),(3,(.d (.int .i64))),(127,(.d .bool))],[(.st 5)],0,128⟩,λx=>z0s n x.1 x.2.1 x.2.2.1⟩)]) (ann [(5,0),(13,1),(28,2),(31,3),(34,4),(46,5),(58,6),(71,7)] (Tryz.f109.body.getD .skip) 0).1
noncomputable def ydf:List (FI dat):=[z6n,z97,zhn,zf7]
theorem ye4:(zhp).Good Tryz.prog dat (tb ydf):=FI.yz4 (hD:=zz2 _) Tryz.func109 Tryz.ntmps109 Tryz.call109 (by kernel_rfl) (of_decide_eq_true (by kernel_rfl)) (by kernel_rfl) (λn=>by kernel_rfl) (λx=>by kernel_rfl) (λ_=>rfl) ⟨λ_=>rfl,λ_=>rfl,λ_=>rfl,λ_=>rfl,λ_=>rfl,λ_=>rfl,λ_=>rfl,λ_=>rfl,trivial⟩
 (λn=>λx=>(zc7.eq_2 x.1 n).trans (by kernel_rfl))
 (λn=>⟨λx=>(z1g.eq_2 x.1 x.2.1 n).trans (by kernel_rfl),
  λx=>(z4n.eq_2 x.1 x.2.1 n).trans (by kernel_rfl),
  λx=>(z4w.eq_2 x.1 n).trans (by kernel_rfl),
  λx=>(z84.eq_2 x.1 x.2.1 n).trans (by kernel_rfl),
  λx=>(z09.eq_2 x.1 x.2.1 n).trans (by kernel_rfl),
  λx=>(z4y.eq_2 x.1 n).trans (by kernel_rfl),
  λx=>(z2u.eq_2 x.1 x.2.1 n).trans (by kernel_rfl),
  λx=>(z0s.eq_2 x.1 x.2.1 x.2.2.1 n).trans (by kernel_rfl),
  trivial⟩)
 (λx=>.inl rfl)
theorem yfc:OkL Tryz.prog [zhp]:=zz6 (zz2 _) (bs:=[z6n,z97,zhn,zf7]) ⟨zo0,zrc,y3k,y16,trivial⟩ ye4
theorem y9o:FOk Tryz.prog zhp:=yfc.1
end Go.Proofs.YtahcjggdcmgpkaaGreat
namespace Go.Proofs.YtahcjggdcmgpkaaGreat
open Go Go.Ab
set_option linter.unusedVariables false
set_option maxRecDepth 100000
set_option maxHeartbeats 4000000
mutual
def zca:Nat->zz0->Option Bool
 |0,_=>none
 |n+1,a0 =>
  z2m n 0 a0
def z2m:Nat->Int->zz0->Option Bool
 |0,_,_=>none
 |n+1,a0,a1 =>
  pIf (decide (a0<(a1.attrs.length:Int)))
   ((ix a1.attrs a0).bind λx0 =>
   (z5n n x0.name).bind λy1 =>
   pIf (!y1)
    (z4v n a0 true a1)
    ((ix a1.attrs a0).bind λx2 =>
    (z2o n x2.value.re).bind λy3 =>
    z4v n a0 (y3 != 0) a1))
   (z2z n 0 a1)
def z4v:Nat->Int->Bool->zz0->Option Bool
 |0,_,_,_=>none
 |n+1,a0,a1,a2 =>
  pIf a1
   (some false)
   (z2m n (IntKind.i64.wrap (a0+1)) a2)
def z2z:Nat->Int->zz0->Option Bool
 |0,_,_=>none
 |n+1,a0,a1 =>
  pIf (decide (a0<(a1.rules.length:Int)))
   ((ix a1.rules a0).bind λx4 =>
   (z5n n x4.name).bind λy5 =>
   pIf (!y5)
    (some false)
    (z2k n 0 a0 x4 a1))
   (some true)
def z2k:Nat->Int->Int->kz4->zz0->Option Bool
 |0,_,_,_,_=>none
 |n+1,a0,a1,a2,a3 =>
  pIf (decide (a0<(a2.params.length:Int)))
   ((ix a2.params a0).bind λx6 =>
   (z5n n x6).bind λy7 =>
   pIf (!y7)
    (some false)
    (z2k n (IntKind.i64.wrap (a0+1)) a1 a2 a3))
   (z2n n 0 a1 a2 a3)
def z2n:Nat->Int->Int->kz4->zz0->Option Bool
 |0,_,_,_,_=>none
 |n+1,a0,a1,a2,a3 =>
  pIf (decide (a0<(a2.cases.length:Int)))
   ((ix a2.cases a0).bind λx8 =>
   pIf (decide (x8.weight<1))
    (z2p n a1 a0 true x8.re a2 a3)
    (pIf (decide (x8.weight>1000000))
      (z2p n a1 a0 true x8.re a2 a3)
      ((z2o n x8.when_.re).bind λy9 =>
      z2p n a1 a0 (y9 != 0) x8.re a2 a3)))
   (z2z n (IntKind.i64.wrap (a1+1)) a3)
def z2p:Nat->Int->Int->Bool->kz5->kz4->zz0->Option Bool
 |0,_,_,_,_,_,_=>none
 |n+1,a0,a1,a2,a3,a4,a5 =>
  pIf a2
   (some false)
   (z2x n 0 a0 a1 a3.re a4 a5)
def z2x:Nat->Int->Int->Int->kz5->kz4->zz0->Option Bool
 |0,_,_,_,_,_,_=>none
 |n+1,a0,a1,a2,a3,a4,a5 =>
  pIf (decide (a0<(a3.do_.length:Int)))
   ((ix a3.do_ a0).bind λx10 =>
   (zc7 n x10).bind λy11 =>
   pIf (!y11)
    (some false)
    (z2x n (IntKind.i64.wrap (a0+1)) a1 a2 a3.re a4 a5))
   (z2n n (IntKind.i64.wrap (a2+1)) a1 a4 a5)
end
def ygd:LSh:=⟨[(2,(.d .bool))],[],0,105⟩
noncomputable def zhz:FI dat:=FI.of dat 71 105 0 [(.d (.st 8))] [] [(.d .bool)] [] true ygd (R:=Bool) (λx=>x.1) (λr=>(r,())) (λn x=>zca n x.1)
 (λn=>[(0,⟨⟨[(3,(.d (.int .i64))),(1,(.ptr 0 0))],[(.st 8)],0,105⟩,λx=>z2m n x.1 x.2.1⟩),(1,⟨⟨[(1,(.ptr 0 0)),(3,(.d (.int .i64))),(34,(.d .bool))],[(.st 8)],0,105⟩,λx=>z4v n x.1 x.2.1 x.2.2.1⟩),(2,⟨⟨[(4,(.d (.int .i64))),(1,(.ptr 0 0))],[(.st 8)],0,105⟩,λx=>z2z n x.1 x.2.1⟩),(3,⟨⟨[(6,(.d (.int .i64))),(5,(.ptr 0 0)),(1,(.ptr 1 0)),(4,(.d (.int .i64)))],[(.st 7),(.st 8)],0,105⟩,λx=>z2k n x.1 x.2.1 x.2.2.1 x.2.2.2.1⟩),(4,⟨⟨[(7,(.d (.int .i64))),(5,(.ptr 0 0)),(1,(.ptr 1 0)),(4,(.d (.int .i64)))],[(.st 7),(.st 8)],0,105⟩,λx=>z2n n x.1 x.2.1 x.2.2.1 x.2.2.2.1⟩),(5,⟨⟨[(8,(.ptr 0 0)),(5,(.ptr 1 0)),(1,(.ptr 2 0)),(4,(.d (.int .i64))),(7,(.d (.int .i64))),(90,(.d .bool))],[(.st 6),(.st 7),(.st 8)],0,105⟩,λx=>z2p n x.1 x.2.1 x.2.2.1 x.2.2.2.1 x.2.2.2.2.1 x.2.2.2.2.2.1⟩),(6,⟨⟨[(9,(.d (.int .i64))),(8,(.ptr 0 0)),(5,(.ptr 1 0)),(1,(.ptr 2 0)),(4,(.d (.int .i64))),(7,(.d (.int .i64)))],[(.st 6),(.st 7),(.st 8)],0,105⟩,λx=>z2x n x.1 x.2.1 x.2.2.1 x.2.2.2.1 x.2.2.2.2.1 x.2.2.2.2.2.1⟩)]) (ann [(6,0),(17,1),(27,2),(50,3),(70,4),(84,5),(92,6)] (Tryz.f71.body.getD .skip) 0).1
noncomputable def ygt:List (FI dat):=[zf7,z97,zhp]
theorem ydd:(zhz).Good Tryz.prog dat (tb ygt):=FI.yz4 (hD:=zz2 _) Tryz.func71 Tryz.ntmps71 Tryz.call71 (by kernel_rfl) (of_decide_eq_true (by kernel_rfl)) (by kernel_rfl) (λn=>by kernel_rfl) (λx=>by kernel_rfl) (λ_=>rfl) ⟨λ_=>rfl,λ_=>rfl,λ_=>rfl,λ_=>rfl,λ_=>rfl,λ_=>rfl,λ_=>rfl,trivial⟩
 (λn=>λx=>(zca.eq_2 x.1 n).trans (by kernel_rfl))
 (λn=>⟨λx=>(z2m.eq_2 x.1 x.2.1 n).trans (by kernel_rfl),
  λx=>(z4v.eq_2 x.1 x.2.1 x.2.2.1 n).trans (by kernel_rfl),
  λx=>(z2z.eq_2 x.1 x.2.1 n).trans (by kernel_rfl),
  λx=>(z2k.eq_2 x.1 x.2.1 x.2.2.1 x.2.2.2.1 n).trans (by kernel_rfl),
  λx=>(z2n.eq_2 x.1 x.2.1 x.2.2.1 x.2.2.2.1 n).trans (by kernel_rfl),
  λx=>(z2p.eq_2 x.1 x.2.1 x.2.2.1 x.2.2.2.1 x.2.2.2.2.1 x.2.2.2.2.2.1 n).trans (by kernel_rfl),
  λx=>(z2x.eq_2 x.1 x.2.1 x.2.2.1 x.2.2.2.1 x.2.2.2.2.1 x.2.2.2.2.2.1 n).trans (by kernel_rfl),
  trivial⟩)
 (λx=>.inl rfl)
theorem yfm:OkL Tryz.prog [zhz]:=zz6 (zz2 _) (bs:=[zf7,z97,zhp]) ⟨y16,zrc,y9o,trivial⟩ ydd
theorem yag:FOk Tryz.prog zhz:=yfm.1
mutual
def z6p:Nat->zz0->Option (List (List UInt8))
 |0,_=>none
 |n+1,a0 =>
  z6e n 0 a0 []
def z6e:Nat->Int->zz0->(List (List UInt8))->Option (List (List UInt8))
 |0,_,_,_=>none
 |n+1,a0,a1,a2 =>
  pIf (decide (a0<(a1.attrs.length:Int)))
   ((ix a1.attrs a0).bind λx0 =>
   (ext a2 [x0.name]).bind λx1 =>
   z6e n (IntKind.i64.wrap (a0+1)) a1 x1)
   (some a2)
end
def yhf:LSh:=⟨[(2,(.d (.sl .str)))],[],0,22⟩
noncomputable def z94:FI dat:=FI.of dat 74 22 0 [(.d (.st 8))] [] [(.d (.sl .str))] [] true yhf (R:=List (List UInt8)) (λx=>x.1) (λr=>(r,())) (λn x=>z6p n x.1)
 (λn=>[(0,⟨⟨[(4,(.d (.int .i64))),(1,(.ptr 0 0)),(3,(.own 1))],[(.st 8),(.acc 9 .str true)],0,22⟩,λx=>z6e n x.1 x.2.1 x.2.2.1⟩)]) (ann [(8,0)] (Tryz.f74.body.getD .skip) 0).1
noncomputable def yko:List (FI dat):=[]
theorem ykm:(z94).Good Tryz.prog dat (tb yko):=FI.yz4 (hD:=zz2 _) Tryz.func74 Tryz.ntmps74 Tryz.call74 (by kernel_rfl) (of_decide_eq_true (by kernel_rfl)) (by kernel_rfl) (λn=>by kernel_rfl) (λx=>by kernel_rfl) (λ_=>rfl) ⟨λ_=>rfl,trivial⟩
 (λn=>λx=>(z6p.eq_2 x.1 n).trans (by kernel_rfl))
 (λn=>⟨λx=>(z6e.eq_2 x.1 x.2.1 x.2.2.1 n).trans (by kernel_rfl),
  trivial⟩)
 (λx=>.inl rfl)
theorem yjs:OkL Tryz.prog [z94]:=zz6 (zz2 _) (bs:=[]) trivial ykm
theorem zqy:FOk Tryz.prog z94:=yjs.1
mutual
def z44:Nat->(List (List UInt8))->(List UInt8)->Option Int
 |0,_,_=>none
 |n+1,a0,a1 =>
  zeb n 0 a1 a0
def zeb:Nat->Int->(List UInt8)->(List (List UInt8))->Option Int
 |0,_,_,_=>none
 |n+1,a0,a1,a2 =>
  pIf (decide (a0<(a2.length:Int)))
   ((ix a2 a0).bind λx0 =>
   pIf (x0==a1)
    (some a0)
    (zeb n (IntKind.i64.wrap (a0+1)) a1 a2))
   (some (-1))
end
def yy0:LSh:=⟨[(4,(.d (.int .i64)))],[],0,19⟩
noncomputable def z0r:FI dat:=FI.of dat 26 19 0 [(.d (.sl .str)),(.d .str)] [] [(.d (.int .i64))] [] true yy0 (R:=Int) (λx=>x.1) (λr=>(r,())) (λn x=>z44 n x.1 x.2.1)
 (λn=>[(0,⟨⟨[(5,(.d (.int .i64))),(1,(.d .str)),(0,(.d (.sl .str)))],[],0,19⟩,λx=>zeb n x.1 x.2.1 x.2.2.1⟩)]) (ann [(6,0)] (Tryz.f26.body.getD .skip) 0).1
noncomputable def yy3:List (FI dat):=[]
theorem yxp:(z0r).Good Tryz.prog dat (tb yy3):=FI.yz4 (hD:=zz2 _) Tryz.func26 Tryz.ntmps26 Tryz.call26 (by kernel_rfl) (of_decide_eq_true (by kernel_rfl)) (by kernel_rfl) (λn=>by kernel_rfl) (λx=>by kernel_rfl) (λ_=>rfl) ⟨λ_=>rfl,trivial⟩
 (λn=>λx=>(z44.eq_2 x.1 x.2.1 n).trans (by kernel_rfl))
 (λn=>⟨λx=>(zeb.eq_2 x.1 x.2.1 x.2.2.1 n).trans (by kernel_rfl),
  trivial⟩)
 (λx=>.inl rfl)
theorem z00k:OkL Tryz.prog [z0r]:=zz6 (zz2 _) (bs:=[]) trivial yxp
theorem zcr:FOk Tryz.prog z0r:=z00k.1
mutual
def zc4:Nat->(List (List UInt8))->Option Bool
 |0,_=>none
 |n+1,a0 =>
  z68 n 0 a0
def z68:Nat->Int->(List (List UInt8))->Option Bool
 |0,_,_=>none
 |n+1,a0,a1 =>
  pIf (decide (a0<(a1.length:Int)))
   ((ix a1 a0).bind λx0 =>
   (z44 n a1 x0).bind λy1 =>
   pIf (decide (y1<a0))
    (some true)
    (z68 n (IntKind.i64.wrap (a0+1)) a1))
   (some false)
end
def yhz:LSh:=⟨[(2,(.d .bool))],[],0,18⟩
noncomputable def zjq:FI dat:=FI.of dat 110 18 0 [(.d (.sl .str))] [] [(.d .bool)] [] true yhz (R:=Bool) (λx=>x.1) (λr=>(r,())) (λn x=>zc4 n x.1)
 (λn=>[(0,⟨⟨[(3,(.d (.int .i64))),(0,(.d (.sl .str)))],[],0,18⟩,λx=>z68 n x.1 x.2.1⟩)]) (ann [(6,0)] (Tryz.f110.body.getD .skip) 0).1
noncomputable def yj5:List (FI dat):=[z0r]
theorem yh5:(zjq).Good Tryz.prog dat (tb yj5):=FI.yz4 (hD:=zz2 _) Tryz.func110 Tryz.ntmps110 Tryz.call110 (by kernel_rfl) (of_decide_eq_true (by kernel_rfl)) (by kernel_rfl) (λn=>by kernel_rfl) (λx=>by kernel_rfl) (λ_=>rfl) ⟨λ_=>rfl,trivial⟩
 (λn=>λx=>(zc4.eq_2 x.1 n).trans (by kernel_rfl))
 (λn=>⟨λx=>(z68.eq_2 x.1 x.2.1 n).trans (by kernel_rfl),
  trivial⟩)
 (λx=>.inl rfl)
theorem ymi:OkL Tryz.prog [zjq]:=zz6 (zz2 _) (bs:=[z0r]) ⟨zcr,trivial⟩ yh5
theorem ygi:FOk Tryz.prog zjq:=ymi.1
mutual
def z16:Nat->zz0->Option (List (List UInt8))
 |0,_=>none
 |n+1,a0 =>
  z5s n 0 a0 []
def z5s:Nat->Int->zz0->(List (List UInt8))->Option (List (List UInt8))
 |0,_,_,_=>none
 |n+1,a0,a1,a2 =>
  pIf (decide (a0<(a1.rules.length:Int)))
   ((ix a1.rules a0).bind λx0 =>
   (ext a2 [x0.name]).bind λx1 =>
   z5s n (IntKind.i64.wrap (a0+1)) a1 x1)
   (some a2)
end
def yjr:LSh:=⟨[(2,(.d (.sl .str)))],[],0,22⟩
noncomputable def z03:FI dat:=FI.of dat 24 22 0 [(.d (.st 8))] [] [(.d (.sl .str))] [] true yjr (R:=List (List UInt8)) (λx=>x.1) (λr=>(r,())) (λn x=>z16 n x.1)
 (λn=>[(0,⟨⟨[(4,(.d (.int .i64))),(1,(.ptr 0 0)),(3,(.own 1))],[(.st 8),(.acc 9 .str true)],0,22⟩,λx=>z5s n x.1 x.2.1 x.2.2.1⟩)]) (ann [(8,0)] (Tryz.f24.body.getD .skip) 0).1
noncomputable def yhi:List (FI dat):=[]
theorem yil:(z03).Good Tryz.prog dat (tb yhi):=FI.yz4 (hD:=zz2 _) Tryz.func24 Tryz.ntmps24 Tryz.call24 (by kernel_rfl) (of_decide_eq_true (by kernel_rfl)) (by kernel_rfl) (λn=>by kernel_rfl) (λx=>by kernel_rfl) (λ_=>rfl) ⟨λ_=>rfl,trivial⟩
 (λn=>λx=>(z16.eq_2 x.1 n).trans (by kernel_rfl))
 (λn=>⟨λx=>(z5s.eq_2 x.1 x.2.1 x.2.2.1 n).trans (by kernel_rfl),
  trivial⟩)
 (λx=>.inl rfl)
theorem yih:OkL Tryz.prog [z03]:=zz6 (zz2 _) (bs:=[]) trivial yil
theorem zbn:FOk Tryz.prog z03:=yih.1
mutual
def z4c:Nat->(List UInt8)->(List (List UInt8))->Option (Int×(List (List UInt8)))
 |0,_,_=>none
 |n+1,a0,a1 =>
  z08 n 0 a0 a1
def z08:Nat->Int->(List UInt8)->(List (List UInt8))->Option (Int×(List (List UInt8)))
 |0,_,_,_=>none
 |n+1,a0,a1,a2 =>
  pIf (decide (a0<(a2.length:Int)))
   ((ix a2 a0).bind λx0 =>
   pIf (x0==a1)
    (some (a0,a2))
    (z08 n (IntKind.i64.wrap (a0+1)) a1 a2))
   (some ((-1),a2))
end
def yis:LSh:=⟨[(4,(.d (.int .i64)))],[(.acc 9 .str true)],1,19⟩
noncomputable def zdv:FI dat:=FI.of dat 26 19 1 [(.own 0),(.d .str)] [(.acc 9 .str true)] [(.d (.int .i64))] [(.acc 9 .str true)] false yis (R:=Int×(List (List UInt8))) (λx=>(x.1,x.2.1)) (λr=>(r.1,r.2,())) (λn x=>z4c n x.1 x.2.1)
 (λn=>[(0,⟨⟨[(5,(.d (.int .i64))),(1,(.d .str)),(0,(.own 0))],[(.acc 9 .str true)],1,19⟩,λx=>z08 n x.1 x.2.1 x.2.2.1⟩)]) (ann [(6,0)] (Tryz.f26.body.getD .skip) 0).1
noncomputable def ylh:List (FI dat):=[]
theorem yle:(zdv).Good Tryz.prog dat (tb ylh):=FI.yz4 (hD:=zz2 _) Tryz.func26 Tryz.ntmps26 Tryz.call26 (by kernel_rfl) (of_decide_eq_true (by kernel_rfl)) (by kernel_rfl) (λn=>by kernel_rfl) (λx=>by kernel_rfl) (λ_=>rfl) ⟨λ_=>rfl,trivial⟩
 (λn=>λx=>(z4c.eq_2 x.1 x.2.1 n).trans (by kernel_rfl))
 (λn=>⟨λx=>(z08.eq_2 x.1 x.2.1 x.2.2.1 n).trans (by kernel_rfl),
  trivial⟩)
 (λx=>.inr (by kernel_rfl))
theorem ymb:OkL Tryz.prog [zdv]:=zz6 (zz2 _) (bs:=[]) trivial yle
theorem zxz:FOk Tryz.prog zdv:=ymb.1
mutual
def z9n:Nat->(List (List UInt8))->Option (Bool×(List (List UInt8)))
 |0,_=>none
 |n+1,a0 =>
  z2q n 0 a0
def z2q:Nat->Int->(List (List UInt8))->Option (Bool×(List (List UInt8)))
 |0,_,_=>none
 |n+1,a0,a1 =>
  pIf (decide (a0<(a1.length:Int)))
   ((ix a1 a0).bind λx0 =>
   (z4c n x0 a1).bind λy1 =>
   pIf (decide (y1.1<a0))
    (some (true,y1.2))
    (z2q n (IntKind.i64.wrap (a0+1)) y1.2))
   (some (false,a1))
end
def y6b:LSh:=⟨[(2,(.d .bool))],[(.acc 9 .str true)],1,18⟩
noncomputable def zes:FI dat:=FI.of dat 110 18 1 [(.own 0)] [(.acc 9 .str true)] [(.d .bool)] [(.acc 9 .str true)] false y6b (R:=Bool×(List (List UInt8))) (λx=>(x.1,x.2.1)) (λr=>(r.1,r.2,())) (λn x=>z9n n x.1)
 (λn=>[(0,⟨⟨[(3,(.d (.int .i64))),(0,(.own 0))],[(.acc 9 .str true)],1,18⟩,λx=>z2q n x.1 x.2.1⟩)]) (ann [(6,0)] (Tryz.f110.body.getD .skip) 0).1
noncomputable def y5t:List (FI dat):=[zdv]
theorem y77:(zes).Good Tryz.prog dat (tb y5t):=FI.yz4 (hD:=zz2 _) Tryz.func110 Tryz.ntmps110 Tryz.call110 (by kernel_rfl) (of_decide_eq_true (by kernel_rfl)) (by kernel_rfl) (λn=>by kernel_rfl) (λx=>by kernel_rfl) (λ_=>rfl) ⟨λ_=>rfl,trivial⟩
 (λn=>λx=>(z9n.eq_2 x.1 n).trans (by kernel_rfl))
 (λn=>⟨λx=>(z2q.eq_2 x.1 x.2.1 n).trans (by kernel_rfl),
  trivial⟩)
 (λx=>.inr (by kernel_rfl))
theorem y5y:OkL Tryz.prog [zes]:=zz6 (zz2 _) (bs:=[zdv]) ⟨zxz,trivial⟩ y77
theorem y4q:FOk Tryz.prog zes:=y5y.1
mutual
def zbh:Nat->zz0->Option Bool
 |0,_=>none
 |n+1,a0 =>
  (z6p n a0).bind λy0 =>
  (zc4 n y0).bind λy1 =>
  pIf y1
   (z3k n true a0)
   ((z16 n a0).bind λy2 =>
   (zc4 n y2).bind λy3 =>
   z3k n y3 a0)
def z3k:Nat->Bool->zz0->Option Bool
 |0,_,_=>none
 |n+1,a0,a1 =>
  pIf a0
   (some true)
   (z1x n 0 a1)
def z1x:Nat->Int->zz0->Option Bool
 |0,_,_=>none
 |n+1,a0,a1 =>
  pIf (decide (a0<(a1.rules.length:Int)))
   ((ix a1.rules a0).bind λx4 =>
   (ext [] x4.params).bind λx5 =>
   (z6p n a1).bind λy6 =>
   (ext x5 y6).bind λx7 =>
   (z9n n x7).bind λy8 =>
   pIf y8.1
    (some true)
    (z1x n (IntKind.i64.wrap (a0+1)) a1))
   (some false)
end
def y9z:LSh:=⟨[(2,(.d .bool))],[],0,31⟩
noncomputable def zfr:FI dat:=FI.of dat 72 31 0 [(.d (.st 8))] [] [(.d .bool)] [] true y9z (R:=Bool) (λx=>x.1) (λr=>(r,())) (λn x=>zbh n x.1)
 (λn=>[(0,⟨⟨[(1,(.ptr 0 0)),(11,(.d .bool))],[(.st 8)],0,31⟩,λx=>z3k n x.1 x.2.1⟩),(1,⟨⟨[(3,(.d (.int .i64))),(1,(.ptr 0 0))],[(.st 8)],0,31⟩,λx=>z1x n x.1 x.2.1⟩)]) (ann [(5,0),(14,1)] (Tryz.f72.body.getD .skip) 0).1
noncomputable def yae:List (FI dat):=[zes,z94,zjq,z03]
theorem y8z:(zfr).Good Tryz.prog dat (tb yae):=FI.yz4 (hD:=zz2 _) Tryz.func72 Tryz.ntmps72 Tryz.call72 (by kernel_rfl) (of_decide_eq_true (by kernel_rfl)) (by kernel_rfl) (λn=>by kernel_rfl) (λx=>by kernel_rfl) (λ_=>rfl) ⟨λ_=>rfl,λ_=>rfl,trivial⟩
 (λn=>λx=>(zbh.eq_2 x.1 n).trans (by kernel_rfl))
 (λn=>⟨λx=>(z3k.eq_2 x.1 x.2.1 n).trans (by kernel_rfl),
  λx=>(z1x.eq_2 x.1 x.2.1 n).trans (by kernel_rfl),
  trivial⟩)
 (λx=>.inl rfl)
theorem yad:OkL Tryz.prog [zfr]:=zz6 (zz2 _) (bs:=[zes,z94,zjq,z03]) ⟨y4q,zqy,ygi,zbn,trivial⟩ y8z
theorem y5z:FOk Tryz.prog zfr:=yad.1
mutual
def zd8:Nat->zz1->(List (List UInt8))->Option (List (List UInt8))
 |0,_,_=>none
 |n+1,a0,a1 =>
  pIf (a0.op==2)
   (z5h n 0 a0.re a1)
   (z57 n a1 a0.re)
def z5h:Nat->Int->zz1->(List (List UInt8))->Option (List (List UInt8))
 |0,_,_,_=>none
 |n+1,a0,a1,a2 =>
  pIf (decide (a0<(a2.length:Int)))
   ((ix a2 a0).bind λx0 =>
   z8b n a0 (Op.bytesLess x0 a1.name) a1.re a2)
   (z8b n a0 false a1.re a2)
def z8b:Nat->Int->Bool->zz1->(List (List UInt8))->Option (List (List UInt8))
 |0,_,_,_,_=>none
 |n+1,a0,a1,a2,a3 =>
  pIf a1
   (z5h n (IntKind.i64.wrap (a0+1)) a2.re a3)
   (pIf (a0==(a3.length:Int))
     (z8a n a0 true a2.re a3)
     ((ix a3 a0).bind λx1 =>
     z8a n a0 (!(x1==a2.name)) a2.re a3))
def z8a:Nat->Int->Bool->zz1->(List (List UInt8))->Option (List (List UInt8))
 |0,_,_,_,_=>none
 |n+1,a0,a1,a2,a3 =>
  pIf a1
   ((ext a3 [[]]).bind λx4 =>
   (y4b x4 (IntKind.i64.wrap (a0+1))).bind λx5 =>
   (y4b x4 a0).bind λx6 =>
   (zy0 x4 (IntKind.i64.wrap (a0+1)) a0).bind λx7 =>
   (ix x7 a0).bind λx8 =>
   z57 n (x7.set (Int.toNat a0) a2.name) a2.re)
   (z57 n a3 a2.re)
def z57:Nat->(List (List UInt8))->zz1->Option (List (List UInt8))
 |0,_,_=>none
 |n+1,a0,a1 =>
  z7o n 0 a0 a1.re
def z7o:Nat->Int->(List (List UInt8))->zz1->Option (List (List UInt8))
 |0,_,_,_=>none
 |n+1,a0,a1,a2 =>
  pIf (decide (a0<(a2.args.length:Int)))
   ((ix a2.args a0).bind λx2 =>
   (zd8 n x2.re a1).bind λy3 =>
   z7o n (IntKind.i64.wrap (a0+1)) y3 a2.re)
   (some a1)
end
def yr0:LSh:=⟨[(4,(.own 0))],[(.acc 9 .str true)],0,69⟩
noncomputable def zii:FI dat:=FI.of dat 113 69 0 [(.d (.st 2)),(.own 0)] [(.acc 9 .str true)] [(.own 0)] [(.acc 9 .str true)] false yr0 (R:=List (List UInt8)) (λx=>x.1) (λr=>(r,())) (λn x=>zd8 n x.1 x.2.1)
 (λn=>[(0,⟨⟨[(5,(.d (.int .i64))),(2,(.ptr 0 0)),(1,(.own 1))],[(.st 2),(.acc 9 .str true)],0,69⟩,λx=>z5h n x.1 x.2.1 x.2.2.1⟩),(1,⟨⟨[(2,(.ptr 0 0)),(1,(.own 1)),(5,(.d (.int .i64))),(22,(.d .bool))],[(.st 2),(.acc 9 .str true)],0,69⟩,λx=>z8b n x.1 x.2.1 x.2.2.1 x.2.2.2.1⟩),(2,⟨⟨[(2,(.ptr 0 0)),(5,(.d (.int .i64))),(1,(.own 1)),(37,(.d .bool))],[(.st 2),(.acc 9 .str true)],0,69⟩,λx=>z8a n x.1 x.2.1 x.2.2.1 x.2.2.2.1⟩),(3,⟨⟨[(1,(.own 0)),(2,(.ptr 1 0))],[(.acc 9 .str true),(.st 2)],0,69⟩,λx=>z57 n x.1 x.2.1⟩),(4,⟨⟨[(6,(.d (.int .i64))),(1,(.own 0)),(2,(.ptr 1 0))],[(.acc 9 .str true),(.st 2)],0,69⟩,λx=>z7o n x.1 x.2.1 x.2.2.1⟩)]) (ann [(10,0),(14,1),(21,2),(29,3),(33,4)] (Tryz.f113.body.getD .skip) 0).1
noncomputable def ypl:List (FI dat):=[zii]++[]
theorem yov:(zii).Good Tryz.prog dat (tb ypl):=FI.yz4 (hD:=zz2 _) Tryz.func113 Tryz.ntmps113 Tryz.call113 (by kernel_rfl) (of_decide_eq_true (by kernel_rfl)) (by kernel_rfl) (λn=>by kernel_rfl) (λx=>by kernel_rfl) (λ_=>rfl) ⟨λ_=>rfl,λ_=>rfl,λ_=>rfl,λ_=>rfl,λ_=>rfl,trivial⟩
 (λn=>λx=>(zd8.eq_2 x.1 x.2.1 n).trans (by kernel_rfl))
 (λn=>⟨λx=>(z5h.eq_2 x.1 x.2.1 x.2.2.1 n).trans (by kernel_rfl),
  λx=>(z8b.eq_2 x.1 x.2.1 x.2.2.1 x.2.2.2.1 n).trans (by kernel_rfl),
  λx=>(z8a.eq_2 x.1 x.2.1 x.2.2.1 x.2.2.2.1 n).trans (by kernel_rfl),
  λx=>(z57.eq_2 x.1 x.2.1 n).trans (by kernel_rfl),
  λx=>(z7o.eq_2 x.1 x.2.1 x.2.2.1 n).trans (by kernel_rfl),
  trivial⟩)
 (λx=>.inr (by kernel_rfl))
theorem yp2:OkL Tryz.prog [zii]:=zc5 (zz2 _) (bs:=[]) trivial ⟨yov,trivial⟩
theorem yky:FOk Tryz.prog zii:=yp2.1
end Go.Proofs.YtahcjggdcmgpkaaGreat
namespace Go.Proofs.YtahcjggdcmgpkaaGreat
open Go Go.Ab
set_option linter.unusedVariables false
set_option maxRecDepth 100000
set_option maxHeartbeats 4000000
def zc2:Nat->zz1->Option ((List (List UInt8))×Int)
 |0,_=>none
 |n+1,a0 =>
  (z2o n a0.re).bind λy0 =>
  pIf (y0 != 0)
   ((z2o n a0.re).bind λy1 =>
   some ([],y1))
   ((zd8 n a0.re []).bind λy2 =>
   some (y2,0))
def ym9:LSh:=⟨[(2,(.d (.sl .str))),(3,(.d (.int .i64)))],[],0,11⟩
noncomputable def zdc:FI dat:=FI.of dat 76 11 0 [(.d (.st 2))] [] [(.d (.sl .str)),(.d (.int .i64))] [] true ym9 (R:=(List (List UInt8))×Int) (λx=>(x.1,x.2.1)) (λr=>(r.1,r.2,())) (λn x=>zc2 n x.1)
 (λn=>[]) (ann [] (Tryz.f76.body.getD .skip) 0).1
noncomputable def ykk:List (FI dat):=[zii,z97]
theorem yhe:(zdc).Good Tryz.prog dat (tb ykk):=FI.yz4 (hD:=zz2 _) Tryz.func76 Tryz.ntmps76 Tryz.call76 (by kernel_rfl) (of_decide_eq_true (by kernel_rfl)) (by kernel_rfl) (λn=>by kernel_rfl) (λx=>by kernel_rfl) (λ_=>rfl) trivial
 (λn=>λx=>(zc2.eq_2 x.1 n).trans (by kernel_rfl))
 (λn=>trivial)
 (λx=>.inl rfl)
theorem yjt:OkL Tryz.prog [zdc]:=zz6 (zz2 _) (bs:=[zii,z97]) ⟨yky,zrc,trivial⟩ yhe
theorem zxu:FOk Tryz.prog zdc:=yjt.1
mutual
def zar:Nat->zz1->(List (List UInt8))->Option Bool
 |0,_,_=>none
 |n+1,a0,a1 =>
  (zc2 n a0.re).bind λy0 =>
  z4u n 0 y0.1 a1
def z4u:Nat->Int->(List (List UInt8))->(List (List UInt8))->Option Bool
 |0,_,_,_=>none
 |n+1,a0,a1,a2 =>
  pIf (decide (a0<(a1.length:Int)))
   ((ix a1 a0).bind λx1 =>
   (z44 n a2 x1).bind λy2 =>
   pIf (decide (y2<0))
    (some false)
    (z4u n (IntKind.i64.wrap (a0+1)) a1 a2))
   (some true)
end
def yga:LSh:=⟨[(4,(.d .bool))],[],0,26⟩
noncomputable def zhd:FI dat:=FI.of dat 111 26 0 [(.d (.st 2)),(.d (.sl .str))] [] [(.d .bool)] [] true yga (R:=Bool) (λx=>x.1) (λr=>(r,())) (λn x=>zar n x.1 x.2.1)
 (λn=>[(0,⟨⟨[(7,(.d (.int .i64))),(5,(.d (.sl .str))),(1,(.d (.sl .str)))],[],0,26⟩,λx=>z4u n x.1 x.2.1 x.2.2.1⟩)]) (ann [(8,0)] (Tryz.f111.body.getD .skip) 0).1
noncomputable def yg2:List (FI dat):=[zdc,z0r]
theorem yed:(zhd).Good Tryz.prog dat (tb yg2):=FI.yz4 (hD:=zz2 _) Tryz.func111 Tryz.ntmps111 Tryz.call111 (by kernel_rfl) (of_decide_eq_true (by kernel_rfl)) (by kernel_rfl) (λn=>by kernel_rfl) (λx=>by kernel_rfl) (λ_=>rfl) ⟨λ_=>rfl,trivial⟩
 (λn=>λx=>(zar.eq_2 x.1 x.2.1 n).trans (by kernel_rfl))
 (λn=>⟨λx=>(z4u.eq_2 x.1 x.2.1 x.2.2.1 n).trans (by kernel_rfl),
  trivial⟩)
 (λx=>.inl rfl)
theorem yd4:OkL Tryz.prog [zhd]:=zz6 (zz2 _) (bs:=[zdc,z0r]) ⟨zxu,zcr,trivial⟩ yed
theorem yb0:FOk Tryz.prog zhd:=yd4.1
mutual
def zei:Nat->kz5->Option (List zz1)
 |0,_=>none
 |n+1,a0 =>
  z67 n 0 a0.re [a0.when_.re]
def z67:Nat->Int->kz5->(List zz1)->Option (List zz1)
 |0,_,_,_=>none
 |n+1,a0,a1,a2 =>
  pIf (decide (a0<(a1.do_.length:Int)))
   ((ix a1.do_ a0).bind λx0 =>
   (ext a2 x0.args).bind λx1 =>
   z66 n 0 a0 a1.re x1)
   (some a2)
def z66:Nat->Int->Int->kz5->(List zz1)->Option (List zz1)
 |0,_,_,_,_=>none
 |n+1,a0,a1,a2,a3 =>
  (ix a2.do_ a1).bind λx2 =>
  pIf (decide (a0<(x2.items.length:Int)))
   ((ix a2.do_ a1).bind λx3 =>
   (ix x3.items a0).bind λx4 =>
   (ext a3 x4.args).bind λx5 =>
   z66 n (IntKind.i64.wrap (a0+1)) a1 a2.re x5)
   (z67 n (IntKind.i64.wrap (a1+1)) a2.re a3)
end
def yha:LSh:=⟨[(2,(.d (.sl (.st 2))))],[],0,48⟩
noncomputable def zjy:FI dat:=FI.of dat 112 48 0 [(.d (.st 6))] [] [(.d (.sl (.st 2)))] [] true yha (R:=List zz1) (λx=>x.1) (λr=>(r,())) (λn x=>zei n x.1)
 (λn=>[(0,⟨⟨[(4,(.d (.int .i64))),(1,(.ptr 0 0)),(3,(.own 1))],[(.st 6),(.acc 43 (.st 2) true)],0,48⟩,λx=>z67 n x.1 x.2.1 x.2.2.1⟩),(1,⟨⟨[(5,(.d (.int .i64))),(4,(.d (.int .i64))),(1,(.ptr 0 0)),(3,(.own 1))],[(.st 6),(.acc 43 (.st 2) true)],0,48⟩,λx=>z66 n x.1 x.2.1 x.2.2.1 x.2.2.2.1⟩)]) (ann [(8,0),(22,1)] (Tryz.f112.body.getD .skip) 0).1
noncomputable def yju:List (FI dat):=[]
theorem yhl:(zjy).Good Tryz.prog dat (tb yju):=FI.yz4 (hD:=zz2 _) Tryz.func112 Tryz.ntmps112 Tryz.call112 (by kernel_rfl) (of_decide_eq_true (by kernel_rfl)) (by kernel_rfl) (λn=>by kernel_rfl) (λx=>by kernel_rfl) (λ_=>rfl) ⟨λ_=>rfl,λ_=>rfl,trivial⟩
 (λn=>λx=>(zei.eq_2 x.1 n).trans (by kernel_rfl))
 (λn=>⟨λx=>(z67.eq_2 x.1 x.2.1 x.2.2.1 n).trans (by kernel_rfl),
  λx=>(z66.eq_2 x.1 x.2.1 x.2.2.1 x.2.2.2.1 n).trans (by kernel_rfl),
  trivial⟩)
 (λx=>.inl rfl)
theorem yhn:OkL Tryz.prog [zjy]:=zz6 (zz2 _) (bs:=[]) trivial yhl
theorem ybo:FOk Tryz.prog zjy:=yhn.1
mutual
def zb9:Nat->kz4->Option (List z0q)
 |0,_=>none
 |n+1,a0 =>
  z83 n 0 [] a0
def z83:Nat->Int->(List z0q)->kz4->Option (List z0q)
 |0,_,_,_=>none
 |n+1,a0,a1,a2 =>
  pIf (decide (a0<(a2.cases.length:Int)))
   (z58 n 0 a0 a1 a2)
   (some a1)
def z58:Nat->Int->Int->(List z0q)->kz4->Option (List z0q)
 |0,_,_,_,_=>none
 |n+1,a0,a1,a2,a3 =>
  (ix a3.cases a1).bind λx0 =>
  pIf (decide (a0<(x0.do_.length:Int)))
   ((ix a3.cases a1).bind λx1 =>
   (ix x1.do_ a0).bind λx2 =>
   pIf (x2.kind != 5)
    (z8w n a1 a0 (x2.kind != 6) x2 a3 a2)
    (z8w n a1 a0 false x2 a3 a2))
   (z83 n (IntKind.i64.wrap (a1+1)) a2 a3)
def z8w:Nat->Int->Int->Bool->zz3->kz4->(List z0q)->Option (List z0q)
 |0,_,_,_,_,_,_=>none
 |n+1,a0,a1,a2,a3,a4,a5 =>
  pIf a2
   ((zfn n a3.kind).bind λy3 =>
   (ext a5 [(z0q.mk a3.name (IntKind.i64.wrap ((a3.args.length:Int)-y3)))]).bind λx4 =>
   z8j n a0 a1 a3 x4 a4)
   (z8j n a0 a1 a3 a5 a4)
def z8j:Nat->Int->Int->zz3->(List z0q)->kz4->Option (List z0q)
 |0,_,_,_,_,_=>none
 |n+1,a0,a1,a2,a3,a4 =>
  z8t n 0 a0 a1 a2 a3 a4
def z8t:Nat->Int->Int->Int->zz3->(List z0q)->kz4->Option (List z0q)
 |0,_,_,_,_,_,_=>none
 |n+1,a0,a1,a2,a3,a4,a5 =>
  pIf (decide (a0<(a3.items.length:Int)))
   ((ix a3.items a0).bind λx5 =>
   (ix a3.items a0).bind λx6 =>
   (ext a4 [(z0q.mk x5.name (IntKind.i64.wrap ((x6.args.length:Int)-1)))]).bind λx7 =>
   z8t n (IntKind.i64.wrap (a0+1)) a1 a2 a3 x7 a5)
   (z58 n (IntKind.i64.wrap (a2+1)) a1 a4 a5)
end
def yri:LSh:=⟨[(2,(.d (.sl (.st 10))))],[],0,82⟩
noncomputable def zb2:FI dat:=FI.of dat 53 82 0 [(.d (.st 7))] [] [(.d (.sl (.st 10)))] [] true yri (R:=List z0q) (λx=>x.1) (λr=>(r,())) (λn x=>zb9 n x.1)
 (λn=>[(0,⟨⟨[(3,(.own 0)),(4,(.d (.int .i64))),(1,(.ptr 1 0))],[(.acc 104 (.st 10) true),(.st 7)],0,82⟩,λx=>z83 n x.1 x.2.1 x.2.2.1⟩),(1,⟨⟨[(5,(.d (.int .i64))),(3,(.own 0)),(4,(.d (.int .i64))),(1,(.ptr 1 0))],[(.acc 104 (.st 10) true),(.st 7)],0,82⟩,λx=>z58 n x.1 x.2.1 x.2.2.1 x.2.2.2.1⟩),(2,⟨⟨[(6,(.ptr 0 0)),(4,(.d (.int .i64))),(1,(.ptr 1 0)),(5,(.d (.int .i64))),(3,(.own 2)),(42,(.d .bool))],[(.st 5),(.st 7),(.acc 104 (.st 10) true)],0,82⟩,λx=>z8w n x.1 x.2.1 x.2.2.1 x.2.2.2.1 x.2.2.2.2.1 x.2.2.2.2.2.1⟩),(3,⟨⟨[(6,(.ptr 0 0)),(3,(.own 1)),(4,(.d (.int .i64))),(1,(.ptr 2 0)),(5,(.d (.int .i64)))],[(.st 5),(.acc 104 (.st 10) true),(.st 7)],0,82⟩,λx=>z8j n x.1 x.2.1 x.2.2.1 x.2.2.2.1 x.2.2.2.2.1⟩),(4,⟨⟨[(7,(.d (.int .i64))),(6,(.ptr 0 0)),(3,(.own 1)),(4,(.d (.int .i64))),(1,(.ptr 2 0)),(5,(.d (.int .i64)))],[(.st 5),(.acc 104 (.st 10) true),(.st 7)],0,82⟩,λx=>z8t n x.1 x.2.1 x.2.2.1 x.2.2.2.1 x.2.2.2.2.1 x.2.2.2.2.2.1⟩)]) (ann [(8,0),(20,1),(34,2),(37,3),(40,4)] (Tryz.f53.body.getD .skip) 0).1
noncomputable def yq9:List (FI dat):=[zhn]
theorem yom:(zb2).Good Tryz.prog dat (tb yq9):=FI.yz4 (hD:=zz2 _) Tryz.func53 Tryz.ntmps53 Tryz.call53 (by kernel_rfl) (of_decide_eq_true (by kernel_rfl)) (by kernel_rfl) (λn=>by kernel_rfl) (λx=>by kernel_rfl) (λ_=>rfl) ⟨λ_=>rfl,λ_=>rfl,λ_=>rfl,λ_=>rfl,λ_=>rfl,trivial⟩
 (λn=>λx=>(zb9.eq_2 x.1 n).trans (by kernel_rfl))
 (λn=>⟨λx=>(z83.eq_2 x.1 x.2.1 x.2.2.1 n).trans (by kernel_rfl),
  λx=>(z58.eq_2 x.1 x.2.1 x.2.2.1 x.2.2.2.1 n).trans (by kernel_rfl),
  λx=>(z8w.eq_2 x.1 x.2.1 x.2.2.1 x.2.2.2.1 x.2.2.2.2.1 x.2.2.2.2.2.1 n).trans (by kernel_rfl),
  λx=>(z8j.eq_2 x.1 x.2.1 x.2.2.1 x.2.2.2.1 x.2.2.2.2.1 n).trans (by kernel_rfl),
  λx=>(z8t.eq_2 x.1 x.2.1 x.2.2.1 x.2.2.2.1 x.2.2.2.2.1 x.2.2.2.2.2.1 n).trans (by kernel_rfl),
  trivial⟩)
 (λx=>.inl rfl)
theorem yr3:OkL Tryz.prog [zb2]:=zz6 (zz2 _) (bs:=[zhn]) ⟨y3k,trivial⟩ yom
theorem ztu:FOk Tryz.prog zb2:=yr3.1
mutual
def zec:Nat->zz0->Option Bool
 |0,_=>none
 |n+1,a0 =>
  (z6p n a0).bind λy0 =>
  z74 n 0 y0 a0
def z74:Nat->Int->(List (List UInt8))->zz0->Option Bool
 |0,_,_,_=>none
 |n+1,a0,a1,a2 =>
  pIf (decide (a0<(a2.attrs.length:Int)))
   ((ix a2.attrs a0).bind λx1 =>
   (sub a1 0 a0).bind λx2 =>
   (zar n x1.value.re x2).bind λy3 =>
   pIf (!y3)
    (some false)
    (z74 n (IntKind.i64.wrap (a0+1)) a1 a2))
   (z42 n 0 a1 a2)
def z42:Nat->Int->(List (List UInt8))->zz0->Option Bool
 |0,_,_,_=>none
 |n+1,a0,a1,a2 =>
  pIf (decide (a0<(a2.rules.length:Int)))
   ((ix a2.rules a0).bind λx4 =>
   (ext [[115,120],[115,121],[115,122]] a1).bind λx5 =>
   (ext x5 x4.params).bind λx6 =>
   z3s n x6 0 a1 a0 x4 a2)
   (some true)
def z3s:Nat->(List (List UInt8))->Int->(List (List UInt8))->Int->kz4->zz0->Option Bool
 |0,_,_,_,_,_,_=>none
 |n+1,a0,a1,a2,a3,a4,a5 =>
  pIf (decide (a1<(a4.cases.length:Int)))
   ((ix a4.cases a1).bind λx7 =>
   (zei n x7.re).bind λy8 =>
   z62 n 0 a0 y8 a2 a3 a1 a4 a5)
   ((zb9 n a4).bind λy9 =>
   z43 n 0 y9 a2 a3 a5)
def z62:Nat->Int->(List (List UInt8))->(List zz1)->(List (List UInt8))->Int->Int->kz4->zz0->Option Bool
 |0,_,_,_,_,_,_,_,_=>none
 |n+1,a0,a1,a2,a3,a4,a5,a6,a7 =>
  pIf (decide (a0<(a2.length:Int)))
   ((ix a2 a0).bind λx10 =>
   (zar n x10.re a1).bind λy11 =>
   pIf (!y11)
    (some false)
    (z62 n (IntKind.i64.wrap (a0+1)) a1 a2 a3 a4 a5 a6 a7))
   (z3s n a1 (IntKind.i64.wrap (a5+1)) a3 a4 a6 a7)
def z43:Nat->Int->(List z0q)->(List (List UInt8))->Int->zz0->Option Bool
 |0,_,_,_,_,_=>none
 |n+1,a0,a1,a2,a3,a4 =>
  pIf (decide (a0<(a1.length:Int)))
   ((z16 n a4).bind λy12 =>
   (ix a1 a0).bind λx13 =>
   (z44 n y12 x13.name).bind λy14 =>
   pIf (decide (y14<0))
    (some false)
    (z43 n (IntKind.i64.wrap (a0+1)) a1 a2 a3 a4))
   (z42 n (IntKind.i64.wrap (a3+1)) a2 a4)
end
def yk7:LSh:=⟨[(2,(.d .bool))],[],0,94⟩
noncomputable def zjo:FI dat:=FI.of dat 73 94 0 [(.d (.st 8))] [] [(.d .bool)] [] true yk7 (R:=Bool) (λx=>x.1) (λr=>(r,())) (λn x=>zec n x.1)
 (λn=>[(0,⟨⟨[(4,(.d (.int .i64))),(3,(.d (.sl .str))),(1,(.ptr 0 0))],[(.st 8)],0,94⟩,λx=>z74 n x.1 x.2.1 x.2.2.1⟩),(1,⟨⟨[(1,(.ptr 0 0)),(5,(.d (.int .i64))),(3,(.d (.sl .str)))],[(.st 8)],0,94⟩,λx=>z42 n x.1 x.2.1 x.2.2.1⟩),(2,⟨⟨[(7,(.d (.sl .str))),(8,(.d (.int .i64))),(6,(.ptr 0 0)),(1,(.ptr 1 0)),(3,(.d (.sl .str))),(5,(.d (.int .i64)))],[(.st 7),(.st 8)],0,94⟩,λx=>z3s n x.1 x.2.1 x.2.2.1 x.2.2.2.1 x.2.2.2.2.1 x.2.2.2.2.2.1⟩),(3,⟨⟨[(10,(.d (.int .i64))),(7,(.d (.sl .str))),(9,(.d (.sl (.st 2)))),(6,(.ptr 0 0)),(1,(.ptr 1 0)),(3,(.d (.sl .str))),(5,(.d (.int .i64))),(8,(.d (.int .i64)))],[(.st 7),(.st 8)],0,94⟩,λx=>z62 n x.1 x.2.1 x.2.2.1 x.2.2.2.1 x.2.2.2.2.1 x.2.2.2.2.2.1 x.2.2.2.2.2.2.1 x.2.2.2.2.2.2.2.1⟩),(4,⟨⟨[(12,(.d (.int .i64))),(11,(.d (.sl (.st 10)))),(1,(.ptr 0 0)),(3,(.d (.sl .str))),(5,(.d (.int .i64)))],[(.st 8)],0,94⟩,λx=>z43 n x.1 x.2.1 x.2.2.1 x.2.2.2.1 x.2.2.2.2.1⟩)]) (ann [(8,0),(29,1),(46,2),(60,3),(83,4)] (Tryz.f73.body.getD .skip) 0).1
noncomputable def yjv:List (FI dat):=[z94,zhd,zjy,zb2,z03,z0r]
theorem ymg:(zjo).Good Tryz.prog dat (tb yjv):=FI.yz4 (hD:=zz2 _) Tryz.func73 Tryz.ntmps73 Tryz.call73 (by kernel_rfl) (of_decide_eq_true (by kernel_rfl)) (by kernel_rfl) (λn=>by kernel_rfl) (λx=>by kernel_rfl) (λ_=>rfl) ⟨λ_=>rfl,λ_=>rfl,λ_=>rfl,λ_=>rfl,λ_=>rfl,trivial⟩
 (λn=>λx=>(zec.eq_2 x.1 n).trans (by kernel_rfl))
 (λn=>⟨λx=>(z74.eq_2 x.1 x.2.1 x.2.2.1 n).trans (by kernel_rfl),
  λx=>(z42.eq_2 x.1 x.2.1 x.2.2.1 n).trans (by kernel_rfl),
  λx=>(z3s.eq_2 x.1 x.2.1 x.2.2.1 x.2.2.2.1 x.2.2.2.2.1 x.2.2.2.2.2.1 n).trans (by kernel_rfl),
  λx=>(z62.eq_2 x.1 x.2.1 x.2.2.1 x.2.2.2.1 x.2.2.2.2.1 x.2.2.2.2.2.1 x.2.2.2.2.2.2.1 x.2.2.2.2.2.2.2.1 n).trans (by kernel_rfl),
  λx=>(z43.eq_2 x.1 x.2.1 x.2.2.1 x.2.2.2.1 x.2.2.2.2.1 n).trans (by kernel_rfl),
  trivial⟩)
 (λx=>.inl rfl)
theorem yk3:OkL Tryz.prog [zjo]:=zz6 (zz2 _) (bs:=[z94,zhd,zjy,zb2,z03,z0r]) ⟨zqy,yb0,ybo,ztu,zbn,zcr,trivial⟩ ymg
theorem yd5:FOk Tryz.prog zjo:=yk3.1
mutual
def z45:Nat->zz0->Option Int
 |0,_=>none
 |n+1,a0 =>
  (zfz n a0).bind λy0 =>
  pIf y0
   (some 4)
   ((zca n a0).bind λy1 =>
   pIf (!y1)
    (some 8)
    ((zbh n a0).bind λy2 =>
    pIf y2
     (some 14)
     ((zec n a0).bind λy3 =>
     pIf (!y3)
      (some 6)
      (z61 n 0 a0))))
def z61:Nat->Int->zz0->Option Int
 |0,_,_=>none
 |n+1,a0,a1 =>
  pIf (decide (a0<(a1.rules.length:Int)))
   ((ix a1.rules a0).bind λx4 =>
   (zb9 n x4).bind λy5 =>
   z5p n 0 y5 a0 a1)
   (some 0)
def z5p:Nat->Int->(List z0q)->Int->zz0->Option Int
 |0,_,_,_,_=>none
 |n+1,a0,a1,a2,a3 =>
  pIf (decide (a0<(a1.length:Int)))
   ((ix a1 a0).bind λx6 =>
   (z16 n a3).bind λy7 =>
   (ix a1 a0).bind λx8 =>
   (z44 n y7 x8.name).bind λy9 =>
   (ix a3.rules y9).bind λx10 =>
   pIf (x6.many != (x10.params.length:Int))
    (some 2)
    (z5p n (IntKind.i64.wrap (a0+1)) a1 a2 a3))
   (z61 n (IntKind.i64.wrap (a2+1)) a3)
end
def yj9:LSh:=⟨[(2,(.d (.int .i64)))],[],0,59⟩
noncomputable def zdq:FI dat:=FI.of dat 38 59 0 [(.d (.st 8))] [] [(.d (.int .i64))] [] true yj9 (R:=Int) (λx=>x.1) (λr=>(r,())) (λn x=>z45 n x.1)
 (λn=>[(0,⟨⟨[(1,(.ptr 0 0)),(3,(.d (.int .i64)))],[(.st 8)],0,59⟩,λx=>z61 n x.1 x.2.1⟩),(1,⟨⟨[(5,(.d (.int .i64))),(4,(.d (.sl (.st 10)))),(1,(.ptr 0 0)),(3,(.d (.int .i64)))],[(.st 8)],0,59⟩,λx=>z5p n x.1 x.2.1 x.2.2.1 x.2.2.2.1⟩)]) (ann [(33,0),(47,1)] (Tryz.f38.body.getD .skip) 0).1
noncomputable def ykr:List (FI dat):=[zmi,zhz,zfr,zjo,zb2,z03,z0r]
theorem ykj:(zdq).Good Tryz.prog dat (tb ykr):=FI.yz4 (hD:=zz2 _) Tryz.func38 Tryz.ntmps38 Tryz.call38 (by kernel_rfl) (of_decide_eq_true (by kernel_rfl)) (by kernel_rfl) (λn=>by kernel_rfl) (λx=>by kernel_rfl) (λ_=>rfl) ⟨λ_=>rfl,λ_=>rfl,trivial⟩
 (λn=>λx=>(z45.eq_2 x.1 n).trans (by kernel_rfl))
 (λn=>⟨λx=>(z61.eq_2 x.1 x.2.1 n).trans (by kernel_rfl),
  λx=>(z5p.eq_2 x.1 x.2.1 x.2.2.1 x.2.2.2.1 n).trans (by kernel_rfl),
  trivial⟩)
 (λx=>.inl rfl)
theorem yli:OkL Tryz.prog [zdq]:=zz6 (zz2 _) (bs:=[zmi,zhz,zfr,zjo,zb2,z03,z0r]) ⟨ylv,yag,y5z,yd5,ztu,zbn,zcr,trivial⟩ ykj
theorem zya:FOk Tryz.prog zdq:=yli.1
def z4b:Nat->zz0->zz0->Option Int
 |0,_,_=>none
 |n+1,a0,a1 =>
  (z45 n a0).bind λy0 =>
  pIf (y0 != 0)
   ((z45 n a0).bind λy1 =>
   some y1)
   ((z45 n a1).bind λy2 =>
   some y2)
def yro:LSh:=⟨[(4,(.d (.int .i64)))],[],0,12⟩
noncomputable def zaz:FI dat:=FI.of dat 17 12 0 [(.d (.st 8)),(.d (.st 8))] [] [(.d (.int .i64))] [] true yro (R:=Int) (λx=>x.1) (λr=>(r,())) (λn x=>z4b n x.1 x.2.1)
 (λn=>[]) (ann [] (Tryz.f17.body.getD .skip) 0).1
noncomputable def yql:List (FI dat):=[zdq]
theorem ypw:(zaz).Good Tryz.prog dat (tb yql):=FI.yz4 (hD:=zz2 _) Tryz.func17 Tryz.ntmps17 Tryz.call17 (by kernel_rfl) (of_decide_eq_true (by kernel_rfl)) (by kernel_rfl) (λn=>by kernel_rfl) (λx=>by kernel_rfl) (λ_=>rfl) trivial
 (λn=>λx=>(z4b.eq_2 x.1 x.2.1 n).trans (by kernel_rfl))
 (λn=>trivial)
 (λx=>.inl rfl)
theorem ysz:OkL Tryz.prog [zaz]:=zz6 (zz2 _) (bs:=[zdq]) ⟨zya,trivial⟩ ypw
theorem zto:FOk Tryz.prog zaz:=ysz.1
end Go.Proofs.YtahcjggdcmgpkaaGreat
