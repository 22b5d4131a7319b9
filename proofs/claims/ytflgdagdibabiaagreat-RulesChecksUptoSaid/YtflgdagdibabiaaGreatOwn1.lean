/-
  Go functions as Lean functions, by a program of this repo.
-/
import Derived.Test.YtflgdagdibabiaaGreatOwn0
namespace Go.Proofs.YtflgdagdibabiaaGreat
open Go Go.Ab
set_option linter.unusedVariables false
set_option maxRecDepth 100000
set_option maxHeartbeats 4000000
def yzj : Nat → (List (List UInt8)) → (List (List UInt8)) → (List Bool) → Option (Bool × (List (List UInt8)) × (List Bool))
 | 0, _, _, _ => none
 | n + 1, a0, a1, a2 =>
   (yzr n a0 (mks (List.zip a1 a2)) (mvs (List.zip a1 a2))).bind fun y0 =>
   some ((decide (y0.1 ≥ 0)), (mks (List.zip y0.2.1 y0.2.2)), (mvs (List.zip y0.2.1 y0.2.2)))
def zd7 : LSh := ⟨[(4, (.d .bool))], [(.cells [(.map 1)]), (.mp 70 .bool)], 2, 9⟩
noncomputable def yzo : FI dat := FI.of dat 58 9 2 [(.d (.sl .str)), (.fn 62 [] [(.ptr 0 0)])] [(.cells [(.map 1)]), (.mp 70 .bool)] [(.d .bool)] [(.cells [(.map 1)]), (.mp 70 .bool)] false zd7 (R := Bool × (List (List UInt8)) × (List Bool)) (fun x => (x.1, x.2.1, x.2.2.1)) (fun r => (r.1, r.2.1, r.2.2, ())) (fun n x => yzj n x.1 x.2.1 x.2.2.1)
 (fun n => []) (ann [] (Tryz.f58.body.getD .skip) 0).1
noncomputable def zdd : List (FI dat) := [zzt]
theorem zdq : (yzo).Good Tryz.prog dat (tb zdd) := FI.zz4 (hD := yz2 _) Tryz.func58 Tryz.ntmps58 Tryz.call58 (by kernel_rfl) (of_decide_eq_true (by kernel_rfl)) (by kernel_rfl) (fun n => by kernel_rfl) (fun x => by kernel_rfl) (fun _ => rfl) trivial
 (fun n => fun x => (yzj.eq_2 x.1 x.2.1 x.2.2.1 n).trans (by kernel_rfl))
 (fun n => trivial)
 (fun x => .inr (by kernel_rfl))
theorem zda : OkL Tryz.prog [yzo] := yz7 (yz2 _) (bs := [zzt]) ⟨zer, trivial⟩ zdq
theorem zcx : FOk Tryz.prog yzo := zda.1
def zag : Nat → zz1 → (List (List UInt8)) → (List Bool) → Option (Bool × (List (List UInt8)) × (List Bool))
 | 0, _, _, _ => none
 | n + 1, a0, a1, a2 =>
   (zcc n a0.re).bind fun y0 =>
   (yzj n y0.1 (mks (List.zip a1 a2)) (mvs (List.zip a1 a2))).bind fun y1 =>
   some (y1.1, (mks (List.zip y1.2.1 y1.2.2)), (mvs (List.zip y1.2.1 y1.2.2)))
def yfr : LSh := ⟨[(4, (.d .bool))], [(.mp 70 .bool)], 1, 15⟩
noncomputable def zbs : FI dat := FI.of dat 26 15 1 [(.d (.st 2)), (.map 0)] [(.mp 70 .bool)] [(.d .bool)] [(.mp 70 .bool)] false yfr (R := Bool × (List (List UInt8)) × (List Bool)) (fun x => (x.1, x.2.1, x.2.2.1)) (fun r => (r.1, r.2.1, r.2.2, ())) (fun n x => zag n x.1 x.2.1 x.2.2.1)
 (fun n => []) (ann [] (Tryz.f26.body.getD .skip) 0).1
noncomputable def yg0 : List (FI dat) := [yzo, zgl]
theorem yff : (zbs).Good Tryz.prog dat (tb yg0) := FI.zz4 (hD := yz2 _) Tryz.func26 Tryz.ntmps26 Tryz.call26 (by kernel_rfl) (of_decide_eq_true (by kernel_rfl)) (by kernel_rfl) (fun n => by kernel_rfl) (fun x => by kernel_rfl) (fun _ => rfl) trivial
 (fun n => fun x => (zag.eq_2 x.1 x.2.1 x.2.2.1 n).trans (by kernel_rfl))
 (fun n => trivial)
 (fun x => .inr (by kernel_rfl))
theorem ygp : OkL Tryz.prog [zbs] := yz7 (yz2 _) (bs := [yzo, zgl]) ⟨zcx, y82, trivial⟩ yff
theorem ztf : FOk Tryz.prog zbs := ygp.1
mutual
def zbd : Nat → kz4 → Option (List zz1)
 | 0, _ => none
 | n + 1, a0 =>
   z4z n 0 a0.cases (a0.cases.length : Int) []
def z4z : Nat → Int → (List zz5) → Int → (List zz1) → Option (List zz1)
 | 0, _, _, _, _ => none
 | n + 1, a0, a1, a2, a3 =>
   pIf (decide (a0 < a2))
     ((ix a1 a0).bind fun x0 =>
     (ext a3 [x0.when_.re]).bind fun x1 =>
     z4a n 0 x0.do_ a1 a2 a0 (x0.do_.length : Int) x1)
     (some a3)
def z4a : Nat → Int → (List zz3) → (List zz5) → Int → Int → Int → (List zz1) → Option (List zz1)
 | 0, _, _, _, _, _, _, _ => none
 | n + 1, a0, a1, a2, a3, a4, a5, a6 =>
   pIf (decide (a0 < a5))
     ((ix a1 a0).bind fun x2 =>
     (ext a6 x2.args).bind fun x3 =>
     z47 n 0 x2.items a1 a2 a3 a4 a5 a0 (x2.items.length : Int) x3)
     (z4z n (IntKind.i64.wrap (a4 + 1)) a2 a3 a6)
def z47 : Nat → Int → (List zza) → (List zz3) → (List zz5) → Int → Int → Int → Int → Int → (List zz1) → Option (List zz1)
 | 0, _, _, _, _, _, _, _, _, _, _ => none
 | n + 1, a0, a1, a2, a3, a4, a5, a6, a7, a8, a9 =>
   pIf (decide (a0 < a8))
     ((ix a1 a0).bind fun x4 =>
     (ext a9 x4.args).bind fun x5 =>
     z47 n (IntKind.i64.wrap (a0 + 1)) a1 a2 a3 a4 a5 a6 a7 a8 x5)
     (z4a n (IntKind.i64.wrap (a7 + 1)) a2 a3 a4 a5 a6 a9)
end
def y7w : LSh := ⟨[(2, (.d (.sl (.st 2))))], [], 0, 48⟩
noncomputable def zfb : FI dat := FI.of dat 29 48 0 [(.d (.st 7))] [] [(.d (.sl (.st 2)))] [] true y7w (R := List zz1) (fun x => x.1) (fun r => (r, ())) (fun n x => zbd n x.1)
 (fun n => [(0, ⟨⟨[(13, (.d (.int .i64))), (3, (.own 0)), (11, (.d (.sl (.st 6)))), (12, (.d (.int .i64)))], [(.acc 46 (.st 2) true)], 0, 48⟩, fun x => z4z n x.1 x.2.1 x.2.2.1 x.2.2.2.1⟩), (1, ⟨⟨[(25, (.d (.int .i64))), (3, (.own 0)), (23, (.d (.sl (.st 5)))), (11, (.d (.sl (.st 6)))), (12, (.d (.int .i64))), (13, (.d (.int .i64))), (24, (.d (.int .i64)))], [(.acc 46 (.st 2) true)], 0, 48⟩, fun x => z4a n x.1 x.2.1 x.2.2.1 x.2.2.2.1 x.2.2.2.2.1 x.2.2.2.2.2.1 x.2.2.2.2.2.2.1⟩), (2, ⟨⟨[(36, (.d (.int .i64))), (3, (.own 0)), (34, (.d (.sl (.st 4)))), (23, (.d (.sl (.st 5)))), (11, (.d (.sl (.st 6)))), (12, (.d (.int .i64))), (13, (.d (.int .i64))), (24, (.d (.int .i64))), (25, (.d (.int .i64))), (35, (.d (.int .i64)))], [(.acc 46 (.st 2) true)], 0, 48⟩, fun x => z47 n x.1 x.2.1 x.2.2.1 x.2.2.2.1 x.2.2.2.2.1 x.2.2.2.2.2.1 x.2.2.2.2.2.2.1 x.2.2.2.2.2.2.2.1 x.2.2.2.2.2.2.2.2.1 x.2.2.2.2.2.2.2.2.2.1⟩)]) (ann [(8, 0), (24, 1), (40, 2)] (Tryz.f29.body.getD .skip) 0).1
noncomputable def ybg : List (FI dat) := []
theorem yb1 : (zfb).Good Tryz.prog dat (tb ybg) := FI.zz4 (hD := yz2 _) Tryz.func29 Tryz.ntmps29 Tryz.call29 (by kernel_rfl) (of_decide_eq_true (by kernel_rfl)) (by kernel_rfl) (fun n => by kernel_rfl) (fun x => by kernel_rfl) (fun _ => rfl) ⟨fun _ => rfl, fun _ => rfl, fun _ => rfl, trivial⟩
 (fun n => fun x => (zbd.eq_2 x.1 n).trans (by kernel_rfl))
 (fun n => ⟨fun x => (z4z.eq_2 x.1 x.2.1 x.2.2.1 x.2.2.2.1 n).trans (by kernel_rfl),
  fun x => (z4a.eq_2 x.1 x.2.1 x.2.2.1 x.2.2.2.1 x.2.2.2.2.1 x.2.2.2.2.2.1 x.2.2.2.2.2.2.1 n).trans (by kernel_rfl),
  fun x => (z47.eq_2 x.1 x.2.1 x.2.2.1 x.2.2.2.1 x.2.2.2.2.1 x.2.2.2.2.2.1 x.2.2.2.2.2.2.1 x.2.2.2.2.2.2.2.1 x.2.2.2.2.2.2.2.2.1 x.2.2.2.2.2.2.2.2.2.1 n).trans (by kernel_rfl),
  trivial⟩)
 (fun x => .inl rfl)
theorem y8n : OkL Tryz.prog [zfb] := yz7 (yz2 _) (bs := []) trivial yb1
theorem y59 : FOk Tryz.prog zfb := y8n.1
def z8s : Nat → zz1 → (List (List UInt8)) → (List Bool) → Option (Bool × (List (List UInt8)) × (List Bool))
 | 0, _, _, _ => none
 | n + 1, a0, a1, a2 =>
   (zag n a0.re (mks (List.zip a1 a2)) (mvs (List.zip a1 a2))).bind fun y0 =>
   some (y0.1, (mks (List.zip y0.2.1 y0.2.2)), (mvs (List.zip y0.2.1 y0.2.2)))
def y2k : LSh := ⟨[(3, (.d .bool))], [(.cells [(.map 1)]), (.mp 70 .bool)], 2, 7⟩
noncomputable def zc7 : FI dat := FI.of dat 30 7 2 [(.d (.st 2)), (.ptr 0 0)] [(.cells [(.map 1)]), (.mp 70 .bool)] [(.d .bool)] [(.cells [(.map 1)]), (.mp 70 .bool)] false y2k (R := Bool × (List (List UInt8)) × (List Bool)) (fun x => (x.1, x.2.1, x.2.2.1)) (fun r => (r.1, r.2.1, r.2.2, ())) (fun n x => z8s n x.1 x.2.1 x.2.2.1)
 (fun n => []) (ann [] (Tryz.f30.body.getD .skip) 0).1
noncomputable def y0z : List (FI dat) := [zbs]
theorem y0y : (zc7).Good Tryz.prog dat (tb y0z) := FI.zz4 (hD := yz2 _) Tryz.func30 Tryz.ntmps30 Tryz.call30 (by kernel_rfl) (of_decide_eq_true (by kernel_rfl)) (by kernel_rfl) (fun n => by kernel_rfl) (fun x => by kernel_rfl) (fun _ => rfl) trivial
 (fun n => fun x => (z8s.eq_2 x.1 x.2.1 x.2.2.1 n).trans (by kernel_rfl))
 (fun n => trivial)
 (fun x => .inr (by kernel_rfl))
theorem y2a : OkL Tryz.prog [zc7] := yz7 (yz2 _) (bs := [zbs]) ⟨ztf, trivial⟩ y0y
theorem zy2 : FOk Tryz.prog zc7 := y2a.1
mutual
def kzo : Nat → (List zz1) → (List (List UInt8)) → (List Bool) → Option (Int × (List (List UInt8)) × (List Bool))
 | 0, _, _, _ => none
 | n + 1, a0, a1, a2 =>
   kzd n 0 a0 (a0.length : Int) (mks (List.zip a1 a2)) (mvs (List.zip a1 a2))
def kzd : Nat → Int → (List zz1) → Int → (List (List UInt8)) → (List Bool) → Option (Int × (List (List UInt8)) × (List Bool))
 | 0, _, _, _, _, _ => none
 | n + 1, a0, a1, a2, a3, a4 =>
   pIf (decide (a0 < a2))
     ((ix a1 a0).bind fun x0 =>
     (z8s n x0.re (mks (List.zip a3 a4)) (mvs (List.zip a3 a4))).bind fun y1 =>
     pIf y1.1
       (some (a0, (mks (List.zip y1.2.1 y1.2.2)), (mvs (List.zip y1.2.1 y1.2.2))))
       (kzd n (IntKind.i64.wrap (a0 + 1)) a1 a2 (mks (List.zip y1.2.1 y1.2.2)) (mvs (List.zip y1.2.1 y1.2.2))))
     (some ((-1), (mks (List.zip a3 a4)), (mvs (List.zip a3 a4))))
end
def zel : LSh := ⟨[(4, (.d (.int .i64)))], [(.cells [(.map 1)]), (.mp 70 .bool)], 2, 19⟩
noncomputable def yzq : FI dat := FI.of dat 63 19 2 [(.d (.sl (.st 2))), (.fn 30 [] [(.ptr 0 0)])] [(.cells [(.map 1)]), (.mp 70 .bool)] [(.d (.int .i64))] [(.cells [(.map 1)]), (.mp 70 .bool)] false zel (R := Int × (List (List UInt8)) × (List Bool)) (fun x => (x.1, x.2.1, x.2.2.1)) (fun r => (r.1, r.2.1, r.2.2, ())) (fun n x => kzo n x.1 x.2.1 x.2.2.1)
 (fun n => [(0, ⟨⟨[(8, (.d (.int .i64))), (0, (.d (.sl (.st 2)))), (1, (.fn 30 [] [(.ptr 0 0)])), (7, (.d (.int .i64)))], [(.cells [(.map 1)]), (.mp 70 .bool)], 2, 19⟩, fun x => kzd n x.1 x.2.1 x.2.2.1 x.2.2.2.1 x.2.2.2.2.1⟩)]) (ann [(6, 0)] (Tryz.f63.body.getD .skip) 0).1
noncomputable def zei : List (FI dat) := [zc7]
theorem zep : (yzq).Good Tryz.prog dat (tb zei) := FI.zz4 (hD := yz2 _) Tryz.func63 Tryz.ntmps63 Tryz.call63 (by kernel_rfl) (of_decide_eq_true (by kernel_rfl)) (by kernel_rfl) (fun n => by kernel_rfl) (fun x => by kernel_rfl) (fun _ => rfl) ⟨fun _ => rfl, trivial⟩
 (fun n => fun x => (kzo.eq_2 x.1 x.2.1 x.2.2.1 n).trans (by kernel_rfl))
 (fun n => ⟨fun x => (kzd.eq_2 x.1 x.2.1 x.2.2.1 x.2.2.2.1 x.2.2.2.2.1 n).trans (by kernel_rfl),
  trivial⟩)
 (fun x => .inr (by kernel_rfl))
theorem zem : OkL Tryz.prog [yzq] := yz7 (yz2 _) (bs := [zc7]) ⟨zy2, trivial⟩ zep
theorem zeb : FOk Tryz.prog yzq := zem.1
def yzg : Nat → (List zz1) → (List (List UInt8)) → (List Bool) → Option (Bool × (List (List UInt8)) × (List Bool))
 | 0, _, _, _ => none
 | n + 1, a0, a1, a2 =>
   (kzo n a0 (mks (List.zip a1 a2)) (mvs (List.zip a1 a2))).bind fun y0 =>
   some ((decide (y0.1 ≥ 0)), (mks (List.zip y0.2.1 y0.2.2)), (mvs (List.zip y0.2.1 y0.2.2)))
def zd1 : LSh := ⟨[(4, (.d .bool))], [(.cells [(.map 1)]), (.mp 70 .bool)], 2, 9⟩
noncomputable def yzn : FI dat := FI.of dat 28 9 2 [(.d (.sl (.st 2))), (.fn 30 [] [(.ptr 0 0)])] [(.cells [(.map 1)]), (.mp 70 .bool)] [(.d .bool)] [(.cells [(.map 1)]), (.mp 70 .bool)] false zd1 (R := Bool × (List (List UInt8)) × (List Bool)) (fun x => (x.1, x.2.1, x.2.2.1)) (fun r => (r.1, r.2.1, r.2.2, ())) (fun n x => yzg n x.1 x.2.1 x.2.2.1)
 (fun n => []) (ann [] (Tryz.f28.body.getD .skip) 0).1
noncomputable def zcz : List (FI dat) := [yzq]
theorem zcw : (yzn).Good Tryz.prog dat (tb zcz) := FI.zz4 (hD := yz2 _) Tryz.func28 Tryz.ntmps28 Tryz.call28 (by kernel_rfl) (of_decide_eq_true (by kernel_rfl)) (by kernel_rfl) (fun n => by kernel_rfl) (fun x => by kernel_rfl) (fun _ => rfl) trivial
 (fun n => fun x => (yzg.eq_2 x.1 x.2.1 x.2.2.1 n).trans (by kernel_rfl))
 (fun n => trivial)
 (fun x => .inr (by kernel_rfl))
theorem zd0 : OkL Tryz.prog [yzn] := yz7 (yz2 _) (bs := [yzq]) ⟨zeb, trivial⟩ zcw
theorem zcm : FOk Tryz.prog yzn := zd0.1
mutual
def z6v : Nat → kz4 → Option (List kzk)
 | 0, _ => none
 | n + 1, a0 =>
   z4b n 0 a0.cases (a0.cases.length : Int) []
def z4b : Nat → Int → (List zz5) → Int → (List kzk) → Option (List kzk)
 | 0, _, _, _, _ => none
 | n + 1, a0, a1, a2, a3 =>
   pIf (decide (a0 < a2))
     ((ix a1 a0).bind fun x0 =>
     z2c n 0 x0.do_ a1 a2 a0 (x0.do_.length : Int) a3)
     (some a3)
def z2c : Nat → Int → (List zz3) → (List zz5) → Int → Int → Int → (List kzk) → Option (List kzk)
 | 0, _, _, _, _, _, _, _ => none
 | n + 1, a0, a1, a2, a3, a4, a5, a6 =>
   pIf (decide (a0 < a5))
     ((ix a1 a0).bind fun x1 =>
     pIf (!(x1.name == []))
       ((z9x n x1.kind).bind fun y2 =>
       (ext a6 [(kzk.mk x1.name (IntKind.i64.wrap ((x1.args.length : Int) - y2)))]).bind fun x3 =>
       z42 n a1 a2 a3 a4 a5 a0 x3 x1)
       (z42 n a1 a2 a3 a4 a5 a0 a6 x1))
     (z4b n (IntKind.i64.wrap (a4 + 1)) a2 a3 a6)
def z42 : Nat → (List zz3) → (List zz5) → Int → Int → Int → Int → (List kzk) → zz3 → Option (List kzk)
 | 0, _, _, _, _, _, _, _, _ => none
 | n + 1, a0, a1, a2, a3, a4, a5, a6, a7 =>
   z4t n 0 a7.items a0 a1 a2 a3 a4 a5 (a7.items.length : Int) a6
def z4t : Nat → Int → (List zza) → (List zz3) → (List zz5) → Int → Int → Int → Int → Int → (List kzk) → Option (List kzk)
 | 0, _, _, _, _, _, _, _, _, _, _ => none
 | n + 1, a0, a1, a2, a3, a4, a5, a6, a7, a8, a9 =>
   pIf (decide (a0 < a8))
     ((ix a1 a0).bind fun x4 =>
     (ext a9 [(kzk.mk x4.name (IntKind.i64.wrap ((x4.args.length : Int) - 1)))]).bind fun x5 =>
     z4t n (IntKind.i64.wrap (a0 + 1)) a1 a2 a3 a4 a5 a6 a7 a8 x5)
     (z2c n (IntKind.i64.wrap (a7 + 1)) a2 a3 a4 a5 a6 a9)
end
def yan : LSh := ⟨[(2, (.d (.sl (.st 9))))], [], 0, 61⟩
noncomputable def z6p : FI dat := FI.of dat 17 61 0 [(.d (.st 7))] [] [(.d (.sl (.st 9)))] [] true yan (R := List kzk) (fun x => x.1) (fun r => (r, ())) (fun n x => z6v n x.1)
 (fun n => [(0, ⟨⟨[(3, (.own 0)), (13, (.d (.int .i64))), (11, (.d (.sl (.st 6)))), (12, (.d (.int .i64)))], [(.acc 60 (.st 9) true)], 0, 61⟩, fun x => z4b n x.1 x.2.1 x.2.2.1 x.2.2.2.1⟩), (1, ⟨⟨[(20, (.d (.int .i64))), (3, (.own 0)), (18, (.d (.sl (.st 5)))), (11, (.d (.sl (.st 6)))), (12, (.d (.int .i64))), (13, (.d (.int .i64))), (19, (.d (.int .i64)))], [(.acc 60 (.st 9) true)], 0, 61⟩, fun x => z2c n x.1 x.2.1 x.2.2.1 x.2.2.2.1 x.2.2.2.2.1 x.2.2.2.2.2.1 x.2.2.2.2.2.2.1⟩), (2, ⟨⟨[(3, (.own 0)), (18, (.d (.sl (.st 5)))), (11, (.d (.sl (.st 6)))), (12, (.d (.int .i64))), (13, (.d (.int .i64))), (19, (.d (.int .i64))), (20, (.d (.int .i64))), (7, (.ptr 1 0))], [(.acc 60 (.st 9) true), (.st 5)], 0, 61⟩, fun x => z42 n x.1 x.2.1 x.2.2.1 x.2.2.2.1 x.2.2.2.2.1 x.2.2.2.2.2.1 x.2.2.2.2.2.2.1 x.2.2.2.2.2.2.2.1⟩), (3, ⟨⟨[(43, (.d (.int .i64))), (3, (.own 0)), (41, (.d (.sl (.st 4)))), (18, (.d (.sl (.st 5)))), (11, (.d (.sl (.st 6)))), (12, (.d (.int .i64))), (13, (.d (.int .i64))), (19, (.d (.int .i64))), (20, (.d (.int .i64))), (42, (.d (.int .i64)))], [(.acc 60 (.st 9) true)], 0, 61⟩, fun x => z4t n x.1 x.2.1 x.2.2.1 x.2.2.2.1 x.2.2.2.2.1 x.2.2.2.2.2.1 x.2.2.2.2.2.2.1 x.2.2.2.2.2.2.2.1 x.2.2.2.2.2.2.2.2.1 x.2.2.2.2.2.2.2.2.2.1⟩)]) (ann [(8, 0), (22, 1), (39, 2), (42, 3)] (Tryz.f17.body.getD .skip) 0).1
noncomputable def y96 : List (FI dat) := [zd8]
theorem y7v : (z6p).Good Tryz.prog dat (tb y96) := FI.zz4 (hD := yz2 _) Tryz.func17 Tryz.ntmps17 Tryz.call17 (by kernel_rfl) (of_decide_eq_true (by kernel_rfl)) (by kernel_rfl) (fun n => by kernel_rfl) (fun x => by kernel_rfl) (fun _ => rfl) ⟨fun _ => rfl, fun _ => rfl, fun _ => rfl, fun _ => rfl, trivial⟩
 (fun n => fun x => (z6v.eq_2 x.1 n).trans (by kernel_rfl))
 (fun n => ⟨fun x => (z4b.eq_2 x.1 x.2.1 x.2.2.1 x.2.2.2.1 n).trans (by kernel_rfl),
  fun x => (z2c.eq_2 x.1 x.2.1 x.2.2.1 x.2.2.2.1 x.2.2.2.2.1 x.2.2.2.2.2.1 x.2.2.2.2.2.2.1 n).trans (by kernel_rfl),
  fun x => (z42.eq_2 x.1 x.2.1 x.2.2.1 x.2.2.2.1 x.2.2.2.2.1 x.2.2.2.2.2.1 x.2.2.2.2.2.2.1 x.2.2.2.2.2.2.2.1 n).trans (by kernel_rfl),
  fun x => (z4t.eq_2 x.1 x.2.1 x.2.2.1 x.2.2.2.1 x.2.2.2.2.1 x.2.2.2.2.2.1 x.2.2.2.2.2.2.1 x.2.2.2.2.2.2.2.1 x.2.2.2.2.2.2.2.2.1 x.2.2.2.2.2.2.2.2.2.1 n).trans (by kernel_rfl),
  trivial⟩)
 (fun x => .inl rfl)
theorem ya4 : OkL Tryz.prog [z6p] := yz7 (yz2 _) (bs := [zd8]) ⟨zx1, trivial⟩ y7v
theorem zki : FOk Tryz.prog z6p := ya4.1
mutual
noncomputable def z6t : Nat → yz0 → Option Int
 | 0, _ => none
 | n + 1, a0 =>
   (zc8 n a0).bind fun y0 =>
   pIf y0
     (some 4)
     ((z9n n a0).bind fun y1 =>
     pIf (!y1)
       (some 8)
       (z4x n 0 false a0.attrs (a0.attrs.length : Int) [] [] [] [] a0))
noncomputable def z4x : Nat → Int → Bool → (List kz9) → Int → (List (List UInt8)) → (List Bool) → (List (List UInt8)) → (List Int) → yz0 → Option Int
 | 0, _, _, _, _, _, _, _, _, _ => none
 | n + 1, a0, a1, a2, a3, a4, a5, a6, a7, a8 =>
   pIf (decide (a0 < a3))
     ((ix a2 a0).bind fun x2 =>
     pIf a1
       (z4f n true a2 a3 a0 (mks (List.zip a4 a5)) (mvs (List.zip a4 a5)) (mks (List.zip a6 a7)) (mvs (List.zip a6 a7)) a8 x2.re)
       ((zag n x2.value.re (mks (List.zip a4 a5)) (mvs (List.zip a4 a5))).bind fun y3 =>
       z4f n y3.1 a2 a3 a0 (mks (List.zip y3.2.1 y3.2.2)) (mvs (List.zip y3.2.1 y3.2.2)) (mks (List.zip a6 a7)) (mvs (List.zip a6 a7)) a8 x2.re))
     (z3z n 0 a8.rules a1 (a8.rules.length : Int) (mks (List.zip a4 a5)) (mvs (List.zip a4 a5)) (mks (List.zip a6 a7)) (mvs (List.zip a6 a7)) a8)
noncomputable def z4f : Nat → Bool → (List kz9) → Int → Int → (List (List UInt8)) → (List Bool) → (List (List UInt8)) → (List Int) → yz0 → kz9 → Option Int
 | 0, _, _, _, _, _, _, _, _, _, _ => none
 | n + 1, a0, a1, a2, a3, a4, a5, a6, a7, a8, a9 =>
   pIf (Option.getD (zby (List.zip a4 a5) a9.name) false)
     (some 14)
     (z4x n (IntKind.i64.wrap (a3 + 1)) a0 a1 a2 (mks (zdk (List.zip a4 a5) a9.name true)) (mvs (zdk (List.zip a4 a5) a9.name true)) (mks (List.zip a6 a7)) (mvs (List.zip a6 a7)) a8)
noncomputable def z3z : Nat → Int → (List kz4) → Bool → Int → (List (List UInt8)) → (List Bool) → (List (List UInt8)) → (List Int) → yz0 → Option Int
 | 0, _, _, _, _, _, _, _, _, _ => none
 | n + 1, a0, a1, a2, a3, a4, a5, a6, a7, a8 =>
   pIf (decide (a0 < a3))
     ((ix a1 a0).bind fun x4 =>
     pIf (Option.isSome (zby (List.zip a6 a7) x4.name))
       (some 14)
       (z48 n 0 x4.params a1 a2 a3 a0 (x4.params.length : Int) x4 (mks (List.zip a4 a5)) (mvs (List.zip a4 a5)) (mks (zdk (List.zip a6 a7) x4.name a0)) (mvs (zdk (List.zip a6 a7) x4.name a0)) a8))
     (z22 n false 0 a2 (mks (List.zip a4 a5)) (mvs (List.zip a4 a5)) a8.rules (a8.rules.length : Int) a8 (mks (List.zip a6 a7)) (mvs (List.zip a6 a7)))
noncomputable def z48 : Nat → Int → (List (List UInt8)) → (List kz4) → Bool → Int → Int → Int → kz4 → (List (List UInt8)) → (List Bool) → (List (List UInt8)) → (List Int) → yz0 → Option Int
 | 0, _, _, _, _, _, _, _, _, _, _, _, _, _ => none
 | n + 1, a0, a1, a2, a3, a4, a5, a6, a7, a8, a9, a10, a11, a12 =>
   pIf (decide (a0 < a6))
     ((ix a1 a0).bind fun x5 =>
     pIf (Option.getD (zby (List.zip a8 a9) x5) false)
       (z4g n a1 a2 a3 a4 a5 a6 a0 true a7 (mks (List.zip a8 a9)) (mvs (List.zip a8 a9)) (mks (List.zip a10 a11)) (mvs (List.zip a10 a11)) a12)
       ((zzo n a7.params x5).bind fun y6 =>
       z4g n a1 a2 a3 a4 a5 a6 a0 (decide (y6 < a0)) a7 (mks (List.zip a8 a9)) (mvs (List.zip a8 a9)) (mks (List.zip a10 a11)) (mvs (List.zip a10 a11)) a12))
     (z3z n (IntKind.i64.wrap (a5 + 1)) a2 a3 a4 (mks (List.zip a8 a9)) (mvs (List.zip a8 a9)) (mks (List.zip a10 a11)) (mvs (List.zip a10 a11)) a12)
noncomputable def z4g : Nat → (List (List UInt8)) → (List kz4) → Bool → Int → Int → Int → Int → Bool → kz4 → (List (List UInt8)) → (List Bool) → (List (List UInt8)) → (List Int) → yz0 → Option Int
 | 0, _, _, _, _, _, _, _, _, _, _, _, _, _, _ => none
 | n + 1, a0, a1, a2, a3, a4, a5, a6, a7, a8, a9, a10, a11, a12, a13 =>
   pIf a7
     (some 14)
     (z48 n (IntKind.i64.wrap (a6 + 1)) a0 a1 a2 a3 a4 a5 a8 (mks (List.zip a9 a10)) (mvs (List.zip a9 a10)) (mks (List.zip a11 a12)) (mvs (List.zip a11 a12)) a13)
noncomputable def z22 : Nat → Bool → Int → Bool → (List (List UInt8)) → (List Bool) → (List kz4) → Int → yz0 → (List (List UInt8)) → (List Int) → Option Int
 | 0, _, _, _, _, _, _, _, _, _, _ => none
 | n + 1, a0, a1, a2, a3, a4, a5, a6, a7, a8, a9 =>
   pIf (decide (a1 < a6))
     ((ix a5 a1).bind fun x7 =>
     z4i n a0 (mks (List.zip a3 a4)) (mvs (List.zip a3 a4)) a5 a6 a1 a2 (mks (List.zip a3 a4)) (mvs (List.zip a3 a4)) a7 (mks (List.zip a8 a9)) (mvs (List.zip a8 a9)) x7 (mks (zdk (zdk (zdk [] [115, 120] true) [115, 121] true) [115, 122] true)) (mvs (zdk (zdk (zdk [] [115, 120] true) [115, 121] true) [115, 122] true)))
     (pIf a2
       (some 6)
       (pIf a0
         (some 2)
         (some 0)))
noncomputable def z4i : Nat → Bool → (List (List UInt8)) → (List Bool) → (List kz4) → Int → Int → Bool → (List (List UInt8)) → (List Bool) → yz0 → (List (List UInt8)) → (List Int) → kz4 → (List (List UInt8)) → (List Bool) → Option Int
 | 0, _, _, _, _, _, _, _, _, _, _, _, _, _, _, _ => none
 | n + 1, a0, a1, a2, a3, a4, a5, a6, a7, a8, a9, a10, a11, a12, a13, a14 =>
   y0f (List.zip a7 a8) (fun k8 v9 r10 =>
     z4i n a0 (mks (List.zip a1 a2)) (mvs (List.zip a1 a2)) a3 a4 a5 a6 (mks r10) (mvs r10) a9 (mks (List.zip a10 a11)) (mvs (List.zip a10 a11)) a12 (mks (zdk (List.zip a13 a14) k8 true)) (mvs (zdk (List.zip a13 a14) k8 true)))
     (z2b n 0 a12.params a0 (mks (List.zip a1 a2)) (mvs (List.zip a1 a2)) a3 a4 a5 a6 (a12.params.length : Int) a9 (mks (List.zip a10 a11)) (mvs (List.zip a10 a11)) a12 (mks (List.zip a13 a14)) (mvs (List.zip a13 a14)))
noncomputable def z2b : Nat → Int → (List (List UInt8)) → Bool → (List (List UInt8)) → (List Bool) → (List kz4) → Int → Int → Bool → Int → yz0 → (List (List UInt8)) → (List Int) → kz4 → (List (List UInt8)) → (List Bool) → Option Int
 | 0, _, _, _, _, _, _, _, _, _, _, _, _, _, _, _, _ => none
 | n + 1, a0, a1, a2, a3, a4, a5, a6, a7, a8, a9, a10, a11, a12, a13, a14, a15 =>
   pIf (decide (a0 < a9))
     ((ix a1 a0).bind fun x11 =>
     z2b n (IntKind.i64.wrap (a0 + 1)) a1 a2 (mks (List.zip a3 a4)) (mvs (List.zip a3 a4)) a5 a6 a7 a8 a9 a10 (mks (List.zip a11 a12)) (mvs (List.zip a11 a12)) a13 (mks (zdk (List.zip a14 a15) x11 true)) (mvs (zdk (List.zip a14 a15) x11 true)))
     (pIf a8
       (z43 n a2 true (mks (List.zip a3 a4)) (mvs (List.zip a3 a4)) a5 a6 a7 a10 (mks (List.zip a11 a12)) (mvs (List.zip a11 a12)) a13)
       ((zbd n a13).bind fun y12 =>
       (yzg n y12 (mks (List.zip a14 a15)) (mvs (List.zip a14 a15))).bind fun y13 =>
       z43 n a2 y13.1 (mks (List.zip a3 a4)) (mvs (List.zip a3 a4)) a5 a6 a7 a10 (mks (List.zip a11 a12)) (mvs (List.zip a11 a12)) a13))
noncomputable def z43 : Nat → Bool → Bool → (List (List UInt8)) → (List Bool) → (List kz4) → Int → Int → yz0 → (List (List UInt8)) → (List Int) → kz4 → Option Int
 | 0, _, _, _, _, _, _, _, _, _, _, _ => none
 | n + 1, a0, a1, a2, a3, a4, a5, a6, a7, a8, a9, a10 =>
   (z6v n a10).bind fun y14 =>
   z3o n 0 a0 a1 y14 (mks (List.zip a2 a3)) (mvs (List.zip a2 a3)) a4 a5 a6 (y14.length : Int) a7 (mks (List.zip a8 a9)) (mvs (List.zip a8 a9))
noncomputable def z3o : Nat → Int → Bool → Bool → (List kzk) → (List (List UInt8)) → (List Bool) → (List kz4) → Int → Int → Int → yz0 → (List (List UInt8)) → (List Int) → Option Int
 | 0, _, _, _, _, _, _, _, _, _, _, _, _, _ => none
 | n + 1, a0, a1, a2, a3, a4, a5, a6, a7, a8, a9, a10, a11, a12 =>
   pIf (decide (a0 < a9))
     ((ix a3 a0).bind fun x15 =>
     pIf a2
       (z2q n true a3 (mks (List.zip a4 a5)) (mvs (List.zip a4 a5)) a6 a7 a8 a9 a0 (Option.getD (zby (List.zip a11 a12) x15.name) 0) (Option.isSome (zby (List.zip a11 a12) x15.name)) a1 a10 (mks (List.zip a11 a12)) (mvs (List.zip a11 a12)) x15)
       (z2q n (!(Option.isSome (zby (List.zip a11 a12) x15.name))) a3 (mks (List.zip a4 a5)) (mvs (List.zip a4 a5)) a6 a7 a8 a9 a0 (Option.getD (zby (List.zip a11 a12) x15.name) 0) (Option.isSome (zby (List.zip a11 a12) x15.name)) a1 a10 (mks (List.zip a11 a12)) (mvs (List.zip a11 a12)) x15))
     (z22 n a1 (IntKind.i64.wrap (a8 + 1)) a2 (mks (List.zip a4 a5)) (mvs (List.zip a4 a5)) a6 a7 a10 (mks (List.zip a11 a12)) (mvs (List.zip a11 a12)))
noncomputable def z2q : Nat → Bool → (List kzk) → (List (List UInt8)) → (List Bool) → (List kz4) → Int → Int → Int → Int → Int → Bool → Bool → yz0 → (List (List UInt8)) → (List Int) → kzk → Option Int
 | 0, _, _, _, _, _, _, _, _, _, _, _, _, _, _, _, _ => none
 | n + 1, a0, a1, a2, a3, a4, a5, a6, a7, a8, a9, a10, a11, a12, a13, a14, a15 =>
   pIf a11
     (z1l n true a0 a1 (mks (List.zip a2 a3)) (mvs (List.zip a2 a3)) a4 a5 a6 a7 a8 a12 (mks (List.zip a13 a14)) (mvs (List.zip a13 a14)))
     (pIf a10
       ((ix a12.rules a9).bind fun x16 =>
       z1l n (a15.many != (x16.params.length : Int)) a0 a1 (mks (List.zip a2 a3)) (mvs (List.zip a2 a3)) a4 a5 a6 a7 a8 a12 (mks (List.zip a13 a14)) (mvs (List.zip a13 a14)))
       (z1l n false a0 a1 (mks (List.zip a2 a3)) (mvs (List.zip a2 a3)) a4 a5 a6 a7 a8 a12 (mks (List.zip a13 a14)) (mvs (List.zip a13 a14))))
noncomputable def z1l : Nat → Bool → Bool → (List kzk) → (List (List UInt8)) → (List Bool) → (List kz4) → Int → Int → Int → Int → yz0 → (List (List UInt8)) → (List Int) → Option Int
 | 0, _, _, _, _, _, _, _, _, _, _, _, _, _ => none
 | n + 1, a0, a1, a2, a3, a4, a5, a6, a7, a8, a9, a10, a11, a12 =>
   z3o n (IntKind.i64.wrap (a9 + 1)) a0 a1 a2 (mks (List.zip a3 a4)) (mvs (List.zip a3 a4)) a5 a6 a7 a8 a10 (mks (List.zip a11 a12)) (mvs (List.zip a11 a12))
end
def y7s : LSh := ⟨[(2, (.d (.int .i64)))], [], 0, 170⟩
noncomputable def z6r : FI dat := FI.of dat 9 170 0 [(.d (.st 8))] [] [(.d (.int .i64))] [] true y7s (R := Int) (fun x => x.1) (fun r => (r, ())) (fun n x => z6t n x.1)
 (fun n => [(0, ⟨⟨[(35, (.d (.int .i64))), (3, (.map 0)), (5, (.d .bool)), (33, (.d (.sl (.st 3)))), (4, (.map 1)), (1, (.ptr 2 0)), (34, (.d (.int .i64)))], [(.mp 70 .bool), (.mp 71 (.int .i64)), (.st 8)], 0, 170⟩, fun x => z4x n x.1 x.2.1 x.2.2.1 x.2.2.2.1 x.2.2.2.2.1 x.2.2.2.2.2.1 x.2.2.2.2.2.2.1 x.2.2.2.2.2.2.2.1 x.2.2.2.2.2.2.2.2.1⟩), (1, ⟨⟨[(3, (.map 0)), (5, (.d .bool)), (33, (.d (.sl (.st 3)))), (4, (.map 1)), (1, (.ptr 2 0)), (34, (.d (.int .i64))), (35, (.d (.int .i64))), (7, (.ptr 3 0))], [(.mp 70 .bool), (.mp 71 (.int .i64)), (.st 8), (.st 3)], 0, 170⟩, fun x => z4f n x.1 x.2.1 x.2.2.1 x.2.2.2.1 x.2.2.2.2.1 x.2.2.2.2.2.1 x.2.2.2.2.2.2.1 x.2.2.2.2.2.2.2.1 x.2.2.2.2.2.2.2.2.1 x.2.2.2.2.2.2.2.2.2.1⟩), (2, ⟨⟨[(3, (.map 0)), (57, (.d (.int .i64))), (4, (.map 1)), (55, (.d (.sl (.st 7)))), (1, (.ptr 2 0)), (5, (.d .bool)), (56, (.d (.int .i64)))], [(.mp 70 .bool), (.mp 71 (.int .i64)), (.st 8)], 0, 170⟩, fun x => z3z n x.1 x.2.1 x.2.2.1 x.2.2.2.1 x.2.2.2.2.1 x.2.2.2.2.2.1 x.2.2.2.2.2.2.1 x.2.2.2.2.2.2.2.1 x.2.2.2.2.2.2.2.2.1⟩), (3, ⟨⟨[(77, (.d (.int .i64))), (9, (.ptr 0 0)), (3, (.map 1)), (75, (.d (.sl .str))), (4, (.map 2)), (55, (.d (.sl (.st 7)))), (1, (.ptr 3 0)), (5, (.d .bool)), (56, (.d (.int .i64))), (57, (.d (.int .i64))), (76, (.d (.int .i64)))], [(.st 7), (.mp 70 .bool), (.mp 71 (.int .i64)), (.st 8)], 0, 170⟩, fun x => z48 n x.1 x.2.1 x.2.2.1 x.2.2.2.1 x.2.2.2.2.1 x.2.2.2.2.2.1 x.2.2.2.2.2.2.1 x.2.2.2.2.2.2.2.1 x.2.2.2.2.2.2.2.2.1 x.2.2.2.2.2.2.2.2.2.1 x.2.2.2.2.2.2.2.2.2.2.1 x.2.2.2.2.2.2.2.2.2.2.2.1 x.2.2.2.2.2.2.2.2.2.2.2.2.1⟩), (4, ⟨⟨[(9, (.ptr 0 0)), (3, (.map 1)), (75, (.d (.sl .str))), (4, (.map 2)), (55, (.d (.sl (.st 7)))), (1, (.ptr 3 0)), (5, (.d .bool)), (56, (.d (.int .i64))), (57, (.d (.int .i64))), (76, (.d (.int .i64))), (77, (.d (.int .i64))), (92, (.d .bool))], [(.st 7), (.mp 70 .bool), (.mp 71 (.int .i64)), (.st 8)], 0, 170⟩, fun x => z4g n x.1 x.2.1 x.2.2.1 x.2.2.2.1 x.2.2.2.2.1 x.2.2.2.2.2.1 x.2.2.2.2.2.2.1 x.2.2.2.2.2.2.2.1 x.2.2.2.2.2.2.2.2.1 x.2.2.2.2.2.2.2.2.2.1 x.2.2.2.2.2.2.2.2.2.2.1 x.2.2.2.2.2.2.2.2.2.2.2.1 x.2.2.2.2.2.2.2.2.2.2.2.2.1 x.2.2.2.2.2.2.2.2.2.2.2.2.2.1⟩), (5, ⟨⟨[(1, (.ptr 0 0)), (14, (.d .bool)), (4, (.map 1)), (98, (.d (.int .i64))), (5, (.d .bool)), (3, (.mc .bool)), (96, (.d (.sl (.st 7)))), (97, (.d (.int .i64)))], [(.st 8), (.mp 71 (.int .i64))], 0, 170⟩, fun x => z22 n x.1 x.2.1 x.2.2.1 x.2.2.2.1 x.2.2.2.2.1 x.2.2.2.2.2.1 x.2.2.2.2.2.2.1 x.2.2.2.2.2.2.2.1 x.2.2.2.2.2.2.2.2.1 x.2.2.2.2.2.2.2.2.2.1⟩), (6, ⟨⟨[(17, (.ptr 0 0)), (105, (.ptr 1 0)), (1, (.ptr 2 0)), (14, (.d .bool)), (4, (.map 3)), (3, (.mc .bool)), (96, (.d (.sl (.st 7)))), (97, (.d (.int .i64))), (98, (.d (.int .i64))), (16, (.ptr 4 0)), (5, (.d .bool))], [(.cells [(.map 5)]), (.mit .bool), (.st 8), (.mp 71 (.int .i64)), (.st 7), (.mp 70 .bool)], 0, 170⟩, fun x => z4i n x.1 x.2.1 x.2.2.1 x.2.2.2.1 x.2.2.2.2.1 x.2.2.2.2.2.1 x.2.2.2.2.2.2.1 x.2.2.2.2.2.2.2.1 x.2.2.2.2.2.2.2.2.1 x.2.2.2.2.2.2.2.2.2.1 x.2.2.2.2.2.2.2.2.2.2.1 x.2.2.2.2.2.2.2.2.2.2.2.1 x.2.2.2.2.2.2.2.2.2.2.2.2.1 x.2.2.2.2.2.2.2.2.2.2.2.2.2.1 x.2.2.2.2.2.2.2.2.2.2.2.2.2.2.1⟩), (7, ⟨⟨[(115, (.d (.int .i64))), (17, (.ptr 0 0)), (113, (.d (.sl .str))), (1, (.ptr 1 0)), (14, (.d .bool)), (4, (.map 2)), (3, (.mc .bool)), (96, (.d (.sl (.st 7)))), (97, (.d (.int .i64))), (98, (.d (.int .i64))), (16, (.ptr 3 0)), (5, (.d .bool)), (114, (.d (.int .i64)))], [(.cells [(.map 4)]), (.st 8), (.mp 71 (.int .i64)), (.st 7), (.mp 70 .bool)], 0, 170⟩, fun x => z2b n x.1 x.2.1 x.2.2.1 x.2.2.2.1 x.2.2.2.2.1 x.2.2.2.2.2.1 x.2.2.2.2.2.2.1 x.2.2.2.2.2.2.2.1 x.2.2.2.2.2.2.2.2.1 x.2.2.2.2.2.2.2.2.2.1 x.2.2.2.2.2.2.2.2.2.2.1 x.2.2.2.2.2.2.2.2.2.2.2.1 x.2.2.2.2.2.2.2.2.2.2.2.2.1 x.2.2.2.2.2.2.2.2.2.2.2.2.2.1 x.2.2.2.2.2.2.2.2.2.2.2.2.2.2.1 x.2.2.2.2.2.2.2.2.2.2.2.2.2.2.2.1⟩), (8, ⟨⟨[(1, (.ptr 0 0)), (14, (.d .bool)), (5, (.d .bool)), (4, (.map 1)), (3, (.mc .bool)), (96, (.d (.sl (.st 7)))), (97, (.d (.int .i64))), (98, (.d (.int .i64))), (16, (.ptr 2 0))], [(.st 8), (.mp 71 (.int .i64)), (.st 7)], 0, 170⟩, fun x => z43 n x.1 x.2.1 x.2.2.1 x.2.2.2.1 x.2.2.2.2.1 x.2.2.2.2.2.1 x.2.2.2.2.2.2.1 x.2.2.2.2.2.2.2.1 x.2.2.2.2.2.2.2.2.1 x.2.2.2.2.2.2.2.2.2.1 x.2.2.2.2.2.2.2.2.2.2.1⟩), (9, ⟨⟨[(132, (.d (.int .i64))), (1, (.ptr 0 0)), (14, (.d .bool)), (5, (.d .bool)), (4, (.map 1)), (130, (.d (.sl (.st 9)))), (3, (.mc .bool)), (96, (.d (.sl (.st 7)))), (97, (.d (.int .i64))), (98, (.d (.int .i64))), (131, (.d (.int .i64)))], [(.st 8), (.mp 71 (.int .i64))], 0, 170⟩, fun x => z3o n x.1 x.2.1 x.2.2.1 x.2.2.2.1 x.2.2.2.2.1 x.2.2.2.2.2.1 x.2.2.2.2.2.2.1 x.2.2.2.2.2.2.2.1 x.2.2.2.2.2.2.2.2.1 x.2.2.2.2.2.2.2.2.2.1 x.2.2.2.2.2.2.2.2.2.2.1 x.2.2.2.2.2.2.2.2.2.2.2.1 x.2.2.2.2.2.2.2.2.2.2.2.2.1⟩), (10, ⟨⟨[(1, (.ptr 0 0)), (5, (.d .bool)), (4, (.map 1)), (130, (.d (.sl (.st 9)))), (3, (.mc .bool)), (96, (.d (.sl (.st 7)))), (97, (.d (.int .i64))), (98, (.d (.int .i64))), (131, (.d (.int .i64))), (132, (.d (.int .i64))), (23, (.d (.int .i64))), (22, (.ptr 2 0)), (24, (.d .bool)), (14, (.d .bool))], [(.st 8), (.mp 71 (.int .i64)), (.st 9)], 0, 170⟩, fun x => z2q n x.1 x.2.1 x.2.2.1 x.2.2.2.1 x.2.2.2.2.1 x.2.2.2.2.2.1 x.2.2.2.2.2.2.1 x.2.2.2.2.2.2.2.1 x.2.2.2.2.2.2.2.2.1 x.2.2.2.2.2.2.2.2.2.1 x.2.2.2.2.2.2.2.2.2.2.1 x.2.2.2.2.2.2.2.2.2.2.2.1 x.2.2.2.2.2.2.2.2.2.2.2.2.1 x.2.2.2.2.2.2.2.2.2.2.2.2.2.1 x.2.2.2.2.2.2.2.2.2.2.2.2.2.2.1 x.2.2.2.2.2.2.2.2.2.2.2.2.2.2.2.1⟩), (11, ⟨⟨[(1, (.ptr 0 0)), (14, (.d .bool)), (5, (.d .bool)), (4, (.map 1)), (130, (.d (.sl (.st 9)))), (3, (.mc .bool)), (96, (.d (.sl (.st 7)))), (97, (.d (.int .i64))), (98, (.d (.int .i64))), (131, (.d (.int .i64))), (132, (.d (.int .i64)))], [(.st 8), (.mp 71 (.int .i64))], 0, 170⟩, fun x => z1l n x.1 x.2.1 x.2.2.1 x.2.2.2.1 x.2.2.2.2.1 x.2.2.2.2.2.1 x.2.2.2.2.2.2.1 x.2.2.2.2.2.2.2.1 x.2.2.2.2.2.2.2.2.1 x.2.2.2.2.2.2.2.2.2.1 x.2.2.2.2.2.2.2.2.2.2.1 x.2.2.2.2.2.2.2.2.2.2.2.1 x.2.2.2.2.2.2.2.2.2.2.2.2.1⟩)]) (ann [(26, 0), (39, 1), (53, 2), (79, 3), (92, 4), (105, 5), (122, 6), (137, 7), (152, 8), (155, 9), (170, 10), (171, 11)] (Tryz.f9.body.getD .skip) 0).1
noncomputable def yca : List (FI dat) := [zbs, yzn, zhd, zdp, zzq, zfb, z6p]
theorem ybq : (z6r).Good Tryz.prog dat (tb yca) := FI.zz4 (hD := yz2 _) Tryz.func9 Tryz.ntmps9 Tryz.call9 (by kernel_rfl) (of_decide_eq_true (by kernel_rfl)) (by kernel_rfl) (fun n => by kernel_rfl) (fun x => by kernel_rfl) (fun _ => rfl) ⟨fun _ => rfl, fun _ => rfl, fun _ => rfl, fun _ => rfl, fun _ => rfl, fun _ => rfl, fun _ => rfl, fun _ => rfl, fun _ => rfl, fun _ => rfl, fun _ => rfl, fun _ => rfl, trivial⟩
 (fun n => fun x => (z6t.eq_2 x.1 n).trans (by kernel_rfl))
 (fun n => ⟨fun x => (z4x.eq_2 x.1 x.2.1 x.2.2.1 x.2.2.2.1 x.2.2.2.2.1 x.2.2.2.2.2.1 x.2.2.2.2.2.2.1 x.2.2.2.2.2.2.2.1 x.2.2.2.2.2.2.2.2.1 n).trans (by kernel_rfl),
  fun x => (z4f.eq_2 x.1 x.2.1 x.2.2.1 x.2.2.2.1 x.2.2.2.2.1 x.2.2.2.2.2.1 x.2.2.2.2.2.2.1 x.2.2.2.2.2.2.2.1 x.2.2.2.2.2.2.2.2.1 x.2.2.2.2.2.2.2.2.2.1 n).trans (by kernel_rfl),
  fun x => (z3z.eq_2 x.1 x.2.1 x.2.2.1 x.2.2.2.1 x.2.2.2.2.1 x.2.2.2.2.2.1 x.2.2.2.2.2.2.1 x.2.2.2.2.2.2.2.1 x.2.2.2.2.2.2.2.2.1 n).trans (by kernel_rfl),
  fun x => (z48.eq_2 x.1 x.2.1 x.2.2.1 x.2.2.2.1 x.2.2.2.2.1 x.2.2.2.2.2.1 x.2.2.2.2.2.2.1 x.2.2.2.2.2.2.2.1 x.2.2.2.2.2.2.2.2.1 x.2.2.2.2.2.2.2.2.2.1 x.2.2.2.2.2.2.2.2.2.2.1 x.2.2.2.2.2.2.2.2.2.2.2.1 x.2.2.2.2.2.2.2.2.2.2.2.2.1 n).trans (by kernel_rfl),
  fun x => (z4g.eq_2 x.1 x.2.1 x.2.2.1 x.2.2.2.1 x.2.2.2.2.1 x.2.2.2.2.2.1 x.2.2.2.2.2.2.1 x.2.2.2.2.2.2.2.1 x.2.2.2.2.2.2.2.2.1 x.2.2.2.2.2.2.2.2.2.1 x.2.2.2.2.2.2.2.2.2.2.1 x.2.2.2.2.2.2.2.2.2.2.2.1 x.2.2.2.2.2.2.2.2.2.2.2.2.1 x.2.2.2.2.2.2.2.2.2.2.2.2.2.1 n).trans (by kernel_rfl),
  fun x => (z22.eq_2 x.1 x.2.1 x.2.2.1 x.2.2.2.1 x.2.2.2.2.1 x.2.2.2.2.2.1 x.2.2.2.2.2.2.1 x.2.2.2.2.2.2.2.1 x.2.2.2.2.2.2.2.2.1 x.2.2.2.2.2.2.2.2.2.1 n).trans (by kernel_rfl),
  fun x => (z4i.eq_2 x.1 x.2.1 x.2.2.1 x.2.2.2.1 x.2.2.2.2.1 x.2.2.2.2.2.1 x.2.2.2.2.2.2.1 x.2.2.2.2.2.2.2.1 x.2.2.2.2.2.2.2.2.1 x.2.2.2.2.2.2.2.2.2.1 x.2.2.2.2.2.2.2.2.2.2.1 x.2.2.2.2.2.2.2.2.2.2.2.1 x.2.2.2.2.2.2.2.2.2.2.2.2.1 x.2.2.2.2.2.2.2.2.2.2.2.2.2.1 x.2.2.2.2.2.2.2.2.2.2.2.2.2.2.1 n).trans (by kernel_rfl),
  fun x => (z2b.eq_2 x.1 x.2.1 x.2.2.1 x.2.2.2.1 x.2.2.2.2.1 x.2.2.2.2.2.1 x.2.2.2.2.2.2.1 x.2.2.2.2.2.2.2.1 x.2.2.2.2.2.2.2.2.1 x.2.2.2.2.2.2.2.2.2.1 x.2.2.2.2.2.2.2.2.2.2.1 x.2.2.2.2.2.2.2.2.2.2.2.1 x.2.2.2.2.2.2.2.2.2.2.2.2.1 x.2.2.2.2.2.2.2.2.2.2.2.2.2.1 x.2.2.2.2.2.2.2.2.2.2.2.2.2.2.1 x.2.2.2.2.2.2.2.2.2.2.2.2.2.2.2.1 n).trans (by kernel_rfl),
  fun x => (z43.eq_2 x.1 x.2.1 x.2.2.1 x.2.2.2.1 x.2.2.2.2.1 x.2.2.2.2.2.1 x.2.2.2.2.2.2.1 x.2.2.2.2.2.2.2.1 x.2.2.2.2.2.2.2.2.1 x.2.2.2.2.2.2.2.2.2.1 x.2.2.2.2.2.2.2.2.2.2.1 n).trans (by kernel_rfl),
  fun x => (z3o.eq_2 x.1 x.2.1 x.2.2.1 x.2.2.2.1 x.2.2.2.2.1 x.2.2.2.2.2.1 x.2.2.2.2.2.2.1 x.2.2.2.2.2.2.2.1 x.2.2.2.2.2.2.2.2.1 x.2.2.2.2.2.2.2.2.2.1 x.2.2.2.2.2.2.2.2.2.2.1 x.2.2.2.2.2.2.2.2.2.2.2.1 x.2.2.2.2.2.2.2.2.2.2.2.2.1 n).trans (by kernel_rfl),
  fun x => (z2q.eq_2 x.1 x.2.1 x.2.2.1 x.2.2.2.1 x.2.2.2.2.1 x.2.2.2.2.2.1 x.2.2.2.2.2.2.1 x.2.2.2.2.2.2.2.1 x.2.2.2.2.2.2.2.2.1 x.2.2.2.2.2.2.2.2.2.1 x.2.2.2.2.2.2.2.2.2.2.1 x.2.2.2.2.2.2.2.2.2.2.2.1 x.2.2.2.2.2.2.2.2.2.2.2.2.1 x.2.2.2.2.2.2.2.2.2.2.2.2.2.1 x.2.2.2.2.2.2.2.2.2.2.2.2.2.2.1 x.2.2.2.2.2.2.2.2.2.2.2.2.2.2.2.1 n).trans (by kernel_rfl),
  fun x => (z1l.eq_2 x.1 x.2.1 x.2.2.1 x.2.2.2.1 x.2.2.2.2.1 x.2.2.2.2.2.1 x.2.2.2.2.2.2.1 x.2.2.2.2.2.2.2.1 x.2.2.2.2.2.2.2.2.1 x.2.2.2.2.2.2.2.2.2.1 x.2.2.2.2.2.2.2.2.2.2.1 x.2.2.2.2.2.2.2.2.2.2.2.1 x.2.2.2.2.2.2.2.2.2.2.2.2.1 n).trans (by kernel_rfl),
  trivial⟩)
 (fun x => .inl rfl)
theorem yal : OkL Tryz.prog [z6r] := yz7 (yz2 _) (bs := [zbs, yzn, zhd, zdp, zzq, zfb, z6p]) ⟨ztf, zcm, ycg, y24, zbo, y59, zki, trivial⟩ ybq
theorem zla : FOk Tryz.prog z6r := yal.1
end Go.Proofs.YtflgdagdibabiaaGreat


namespace Go.Proofs.YtflgdagdibabiaaGreat
open Go Go.Ab
set_option linter.unusedVariables false
set_option maxRecDepth 100000
set_option maxHeartbeats 4000000
def zcj : Nat → kz4 → (List UInt8) → Option (Bool × (List UInt8))
 | 0, _, _ => none
 | n + 1, a0, a1 =>
   some ((a0.name == a1), a1)
def ygm : LSh := ⟨[(3, (.d .bool))], [(.cells [(.d .str)])], 1, 8⟩
noncomputable def zh7 : FI dat := FI.of dat 49 8 1 [(.d (.st 7)), (.ptr 0 0)] [(.cells [(.d .str)])] [(.d .bool)] [(.cells [(.d .str)])] false ygm (R := Bool × (List UInt8)) (fun x => (x.1, x.2.1)) (fun r => (r.1, r.2, ())) (fun n x => zcj n x.1 x.2.1)
 (fun n => []) (ann [] (Tryz.f49.body.getD .skip) 0).1
noncomputable def yfe : List (FI dat) := []
theorem yhc : (zh7).Good Tryz.prog dat (tb yfe) := FI.zz4 (hD := yz2 _) Tryz.func49 Tryz.ntmps49 Tryz.call49 (by kernel_rfl) (of_decide_eq_true (by kernel_rfl)) (by kernel_rfl) (fun n => by kernel_rfl) (fun x => by kernel_rfl) (fun _ => rfl) trivial
 (fun n => fun x => (zcj.eq_2 x.1 x.2.1 n).trans (by kernel_rfl))
 (fun n => trivial)
 (fun x => .inr (by kernel_rfl))
theorem yhf : OkL Tryz.prog [zh7] := yz7 (yz2 _) (bs := []) trivial yhc
theorem y9x : FOk Tryz.prog zh7 := yhf.1
mutual
def yzk : Nat → (List kz4) → (List UInt8) → Option (Int × (List UInt8))
 | 0, _, _ => none
 | n + 1, a0, a1 =>
   zze n 0 a0 (a0.length : Int) a1
def zze : Nat → Int → (List kz4) → Int → (List UInt8) → Option (Int × (List UInt8))
 | 0, _, _, _, _ => none
 | n + 1, a0, a1, a2, a3 =>
   pIf (decide (a0 < a2))
     ((ix a1 a0).bind fun x0 =>
     (zcj n x0 a3).bind fun y1 =>
     pIf y1.1
       (some (a0, y1.2))
       (zze n (IntKind.i64.wrap (a0 + 1)) a1 a2 y1.2))
     (some ((-1), a3))
end
def zee : LSh := ⟨[(4, (.d (.int .i64)))], [(.cells [(.d .str)])], 1, 19⟩
noncomputable def zzr : FI dat := FI.of dat 48 19 1 [(.d (.sl (.st 7))), (.fn 49 [] [(.ptr 0 0)])] [(.cells [(.d .str)])] [(.d (.int .i64))] [(.cells [(.d .str)])] false zee (R := Int × (List UInt8)) (fun x => (x.1, x.2.1)) (fun r => (r.1, r.2, ())) (fun n x => yzk n x.1 x.2.1)
 (fun n => [(0, ⟨⟨[(8, (.d (.int .i64))), (0, (.d (.sl (.st 7)))), (1, (.fn 49 [] [(.ptr 0 0)])), (7, (.d (.int .i64)))], [(.cells [(.d .str)])], 1, 19⟩, fun x => zze n x.1 x.2.1 x.2.2.1 x.2.2.2.1⟩)]) (ann [(6, 0)] (Tryz.f48.body.getD .skip) 0).1
noncomputable def zek : List (FI dat) := [zh7]
theorem zen : (zzr).Good Tryz.prog dat (tb zek) := FI.zz4 (hD := yz2 _) Tryz.func48 Tryz.ntmps48 Tryz.call48 (by kernel_rfl) (of_decide_eq_true (by kernel_rfl)) (by kernel_rfl) (fun n => by kernel_rfl) (fun x => by kernel_rfl) (fun _ => rfl) ⟨fun _ => rfl, trivial⟩
 (fun n => fun x => (yzk.eq_2 x.1 x.2.1 n).trans (by kernel_rfl))
 (fun n => ⟨fun x => (zze.eq_2 x.1 x.2.1 x.2.2.1 x.2.2.2.1 n).trans (by kernel_rfl),
  trivial⟩)
 (fun x => .inr (by kernel_rfl))
theorem zeq : OkL Tryz.prog [zzr] := yz7 (yz2 _) (bs := [zh7]) ⟨y9x, trivial⟩ zen
theorem ze8 : FOk Tryz.prog zzr := zeq.1
def zbn : Nat → yz0 → (List UInt8) → Option Int
 | 0, _, _ => none
 | n + 1, a0, a1 =>
   (yzk n a0.rules a1).bind fun y0 =>
   some y0.1
def yo9 : LSh := ⟨[(4, (.d (.int .i64)))], [], 0, 9⟩
noncomputable def zfx : FI dat := FI.of dat 16 9 0 [(.d (.st 8)), (.d .str)] [] [(.d (.int .i64))] [] true yo9 (R := Int) (fun x => x.1) (fun r => (r, ())) (fun n x => zbn n x.1 x.2.1)
 (fun n => []) (ann [] (Tryz.f16.body.getD .skip) 0).1
noncomputable def yn8 : List (FI dat) := [zzr]
theorem yo3 : (zfx).Good Tryz.prog dat (tb yn8) := FI.zz4 (hD := yz2 _) Tryz.func16 Tryz.ntmps16 Tryz.call16 (by kernel_rfl) (of_decide_eq_true (by kernel_rfl)) (by kernel_rfl) (fun n => by kernel_rfl) (fun x => by kernel_rfl) (fun _ => rfl) trivial
 (fun n => fun x => (zbn.eq_2 x.1 x.2.1 n).trans (by kernel_rfl))
 (fun n => trivial)
 (fun x => .inl rfl)
theorem ylt : OkL Tryz.prog [zfx] := yz7 (yz2 _) (bs := [zzr]) ⟨ze8, trivial⟩ yo3
theorem y0k : FOk Tryz.prog zfx := ylt.1
mutual
noncomputable def zb3 : Nat → yz0 → (List UInt8) → Option ((List (List UInt8)) × Int)
 | 0, _, _ => none
 | n + 1, a0, a1 =>
   (z6t n a0).bind fun y0 =>
   pIf (y0 != 0)
     (some ([], y0))
     ((zbn n a0 a1).bind fun y1 =>
     pIf (decide (y1 < 0))
       (some ([], 6))
       ((ix a0.rules y1).bind fun x2 =>
       (z6v n x2).bind fun y3 =>
       z4k n 0 y3 (y3.length : Int) []))
noncomputable def z4k : Nat → Int → (List kzk) → Int → (List (List UInt8)) → Option ((List (List UInt8)) × Int)
 | 0, _, _, _, _ => none
 | n + 1, a0, a1, a2, a3 =>
   pIf (decide (a0 < a2))
     ((ix a1 a0).bind fun x4 =>
     (ext a3 [x4.name]).bind fun x5 =>
     z4k n (IntKind.i64.wrap (a0 + 1)) a1 a2 x5)
     ((kzp n a3).bind fun y6 =>
     (z5a n y6).bind fun y7 =>
     some (y7, 0))
end
def y86 : LSh := ⟨[(4, (.d (.sl .str))), (5, (.d (.int .i64)))], [], 0, 42⟩
noncomputable def zf3 : FI dat := FI.of dat 5 42 0 [(.d (.st 8)), (.d .str)] [] [(.d (.sl .str)), (.d (.int .i64))] [] true y86 (R := (List (List UInt8)) × Int) (fun x => (x.1, x.2.1)) (fun r => (r.1, r.2, ())) (fun n x => zb3 n x.1 x.2.1)
 (fun n => [(0, ⟨⟨[(28, (.d (.int .i64))), (8, (.own 0)), (26, (.d (.sl (.st 9)))), (27, (.d (.int .i64)))], [(.acc 9 .str true)], 0, 42⟩, fun x => z4k n x.1 x.2.1 x.2.2.1 x.2.2.2.1⟩)]) (ann [(28, 0)] (Tryz.f5.body.getD .skip) 0).1
noncomputable def ycl : List (FI dat) := [zzs, z5z, z6r, zfx, z6p]
theorem y9c : (zf3).Good Tryz.prog dat (tb ycl) := FI.zz4 (hD := yz2 _) Tryz.func5 Tryz.ntmps5 Tryz.call5 (by kernel_rfl) (of_decide_eq_true (by kernel_rfl)) (by kernel_rfl) (fun n => by kernel_rfl) (fun x => by kernel_rfl) (fun _ => rfl) ⟨fun _ => rfl, trivial⟩
 (fun n => fun x => (zb3.eq_2 x.1 x.2.1 n).trans (by kernel_rfl))
 (fun n => ⟨fun x => (z4k.eq_2 x.1 x.2.1 x.2.2.1 x.2.2.2.1 n).trans (by kernel_rfl),
  trivial⟩)
 (fun x => .inl rfl)
theorem yam : OkL Tryz.prog [zf3] := yz7 (yz2 _) (bs := [zzs, z5z, z6r, zfx, z6p]) ⟨z7t, zhn, zla, y0k, zki, trivial⟩ y9c
theorem y5o : FOk Tryz.prog zf3 := yam.1
mutual
def zck : Nat → yz0 → Option Bool
 | 0, _ => none
 | n + 1, a0 =>
   pIf (decide ((a0.attrs.length : Int) > 20))
     (z67 n true a0)
     (z67 n (decide ((a0.rules.length : Int) > 40)) a0)
def z67 : Nat → Bool → yz0 → Option Bool
 | 0, _, _ => none
 | n + 1, a0, a1 =>
   pIf a0
     (some true)
     (z36 n 0 a1)
def z36 : Nat → Int → yz0 → Option Bool
 | 0, _, _ => none
 | n + 1, a0, a1 =>
   pIf (decide (a0 < (a1.rules.length : Int)))
     ((ix a1.rules a0).bind fun x0 =>
     pIf (decide ((x0.params.length : Int) > 4))
       (z6j n a0 true x0 a1)
       (z6j n a0 (decide ((x0.cases.length : Int) > 6)) x0 a1))
     (some false)
def z6j : Nat → Int → Bool → kz4 → yz0 → Option Bool
 | 0, _, _, _, _ => none
 | n + 1, a0, a1, a2, a3 =>
   pIf a1
     (some true)
     (z35 n 0 a0 a2 a3)
def z35 : Nat → Int → Int → kz4 → yz0 → Option Bool
 | 0, _, _, _, _ => none
 | n + 1, a0, a1, a2, a3 =>
   pIf (decide (a0 < (a2.cases.length : Int)))
     ((ix a2.cases a0).bind fun x1 =>
     pIf (decide ((x1.do_.length : Int) > 10))
       (some true)
       (z38 n 0 a0 a1 a2 a3))
     (z36 n (IntKind.i64.wrap (a1 + 1)) a3)
def z38 : Nat → Int → Int → Int → kz4 → yz0 → Option Bool
 | 0, _, _, _, _, _ => none
 | n + 1, a0, a1, a2, a3, a4 =>
   (ix a3.cases a1).bind fun x2 =>
   pIf (decide (a0 < (x2.do_.length : Int)))
     ((ix a3.cases a1).bind fun x3 =>
     (ix x3.do_ a0).bind fun x4 =>
     pIf (decide ((x4.items.length : Int) > 10))
       (some true)
       (z38 n (IntKind.i64.wrap (a0 + 1)) a1 a2 a3 a4))
     (z35 n (IntKind.i64.wrap (a1 + 1)) a2 a3 a4)
end
def yi6 : LSh := ⟨[(2, (.d .bool))], [], 0, 77⟩
noncomputable def zhe : FI dat := FI.of dat 31 77 0 [(.d (.st 8))] [] [(.d .bool)] [] true yi6 (R := Bool) (fun x => x.1) (fun r => (r, ())) (fun n x => zck n x.1)
 (fun n => [(0, ⟨⟨[(1, (.ptr 0 0)), (16, (.d .bool))], [(.st 8)], 0, 77⟩, fun x => z67 n x.1 x.2.1⟩), (1, ⟨⟨[(3, (.d (.int .i64))), (1, (.ptr 0 0))], [(.st 8)], 0, 77⟩, fun x => z36 n x.1 x.2.1⟩), (2, ⟨⟨[(4, (.ptr 0 0)), (1, (.ptr 1 0)), (3, (.d (.int .i64))), (38, (.d .bool))], [(.st 7), (.st 8)], 0, 77⟩, fun x => z6j n x.1 x.2.1 x.2.2.1 x.2.2.2.1⟩), (3, ⟨⟨[(5, (.d (.int .i64))), (4, (.ptr 0 0)), (1, (.ptr 1 0)), (3, (.d (.int .i64)))], [(.st 7), (.st 8)], 0, 77⟩, fun x => z35 n x.1 x.2.1 x.2.2.1 x.2.2.2.1⟩), (4, ⟨⟨[(6, (.d (.int .i64))), (5, (.d (.int .i64))), (4, (.ptr 0 0)), (1, (.ptr 1 0)), (3, (.d (.int .i64)))], [(.st 7), (.st 8)], 0, 77⟩, fun x => z38 n x.1 x.2.1 x.2.2.1 x.2.2.2.1 x.2.2.2.2.1⟩)]) (ann [(5, 0), (14, 1), (28, 2), (36, 3), (56, 4)] (Tryz.f31.body.getD .skip) 0).1
noncomputable def yfh : List (FI dat) := []
theorem yhm : (zhe).Good Tryz.prog dat (tb yfh) := FI.zz4 (hD := yz2 _) Tryz.func31 Tryz.ntmps31 Tryz.call31 (by kernel_rfl) (of_decide_eq_true (by kernel_rfl)) (by kernel_rfl) (fun n => by kernel_rfl) (fun x => by kernel_rfl) (fun _ => rfl) ⟨fun _ => rfl, fun _ => rfl, fun _ => rfl, fun _ => rfl, fun _ => rfl, trivial⟩
 (fun n => fun x => (zck.eq_2 x.1 n).trans (by kernel_rfl))
 (fun n => ⟨fun x => (z67.eq_2 x.1 x.2.1 n).trans (by kernel_rfl),
  fun x => (z36.eq_2 x.1 x.2.1 n).trans (by kernel_rfl),
  fun x => (z6j.eq_2 x.1 x.2.1 x.2.2.1 x.2.2.2.1 n).trans (by kernel_rfl),
  fun x => (z35.eq_2 x.1 x.2.1 x.2.2.1 x.2.2.2.1 n).trans (by kernel_rfl),
  fun x => (z38.eq_2 x.1 x.2.1 x.2.2.1 x.2.2.2.1 x.2.2.2.2.1 n).trans (by kernel_rfl),
  trivial⟩)
 (fun x => .inl rfl)
theorem yee : OkL Tryz.prog [zhe] := yz7 (yz2 _) (bs := []) trivial yhm
theorem ybp : FOk Tryz.prog zhe := yee.1
def z9f : Nat → Int → Option Bool
 | 0, _ => none
 | n + 1, a0 =>
   pIf (decide (a0 ≥ 97))
     (some (decide (a0 ≤ 122)))
     (some false)
def y5b : LSh := ⟨[(2, (.d .bool))], [], 0, 9⟩
noncomputable def zd5 : FI dat := FI.of dat 118 9 0 [(.d (.int .u8))] [] [(.d .bool)] [] true y5b (R := Bool) (fun x => x.1) (fun r => (r, ())) (fun n x => z9f n x.1)
 (fun n => []) (ann [] (Tryz.f118.body.getD .skip) 0).1
noncomputable def y5j : List (FI dat) := []
theorem y6k : (zd5).Good Tryz.prog dat (tb y5j) := FI.zz4 (hD := yz2 _) Tryz.func118 Tryz.ntmps118 Tryz.call118 (by kernel_rfl) (of_decide_eq_true (by kernel_rfl)) (by kernel_rfl) (fun n => by kernel_rfl) (fun x => by kernel_rfl) (fun _ => rfl) trivial
 (fun n => fun x => (z9f.eq_2 x.1 n).trans (by kernel_rfl))
 (fun n => trivial)
 (fun x => .inl rfl)
theorem y6g : OkL Tryz.prog [zd5] := yz7 (yz2 _) (bs := []) trivial y6k
theorem y1p : FOk Tryz.prog zd5 := y6g.1
def zb4 : Nat → Int → Option Bool
 | 0, _ => none
 | n + 1, a0 =>
   pIf (decide (a0 ≥ 48))
     (some (decide (a0 ≤ 57)))
     (some false)
def y8d : LSh := ⟨[(2, (.d .bool))], [], 0, 9⟩
noncomputable def zff : FI dat := FI.of dat 119 9 0 [(.d (.int .u8))] [] [(.d .bool)] [] true y8d (R := Bool) (fun x => x.1) (fun r => (r, ())) (fun n x => zb4 n x.1)
 (fun n => []) (ann [] (Tryz.f119.body.getD .skip) 0).1
noncomputable def yb6 : List (FI dat) := []
theorem y88 : (zff).Good Tryz.prog dat (tb yb6) := FI.zz4 (hD := yz2 _) Tryz.func119 Tryz.ntmps119 Tryz.call119 (by kernel_rfl) (of_decide_eq_true (by kernel_rfl)) (by kernel_rfl) (fun n => by kernel_rfl) (fun x => by kernel_rfl) (fun _ => rfl) trivial
 (fun n => fun x => (zb4.eq_2 x.1 n).trans (by kernel_rfl))
 (fun n => trivial)
 (fun x => .inl rfl)
theorem ybj : OkL Tryz.prog [zff] := yz7 (yz2 _) (bs := []) trivial y88
theorem y73 : FOk Tryz.prog zff := ybj.1
mutual
def za1 : Nat → (List UInt8) → Option Bool
 | 0, _ => none
 | n + 1, a0 =>
   z07 n 0 a0
def z07 : Nat → Int → (List UInt8) → Option Bool
 | 0, _, _ => none
 | n + 1, a0, a1 =>
   pIf (decide (a0 < (a1.length : Int)))
     ((ix a1 a0).bind fun x0 =>
     (z9f n (x0.toNat : Int)).bind fun y1 =>
     pIf (!y1)
       (pIf (a0 == 0)
         (z0s n a1 a0 true)
         ((ix a1 a0).bind fun x2 =>
         pIf ((x2.toNat : Int) != 45)
           ((ix a1 a0).bind fun x3 =>
           (zb4 n (x3.toNat : Int)).bind fun y4 =>
           z0s n a1 a0 (!y4))
           (z0s n a1 a0 false)))
       (z0s n a1 a0 false))
     (pIf (decide ((a1.length : Int) ≥ 1))
       (some (decide ((a1.length : Int) ≤ 40)))
       (some false))
def z0s : Nat → (List UInt8) → Int → Bool → Option Bool
 | 0, _, _, _ => none
 | n + 1, a0, a1, a2 =>
   pIf a2
     (some false)
     (z07 n (IntKind.i64.wrap (a1 + 1)) a0)
end
def yhq : LSh := ⟨[(2, (.d .bool))], [], 0, 40⟩
noncomputable def zbp : FI dat := FI.of dat 97 40 0 [(.d .str)] [] [(.d .bool)] [] true yhq (R := Bool) (fun x => x.1) (fun r => (r, ())) (fun n x => za1 n x.1)
 (fun n => [(0, ⟨⟨[(3, (.d (.int .i64))), (0, (.d .str))], [], 0, 40⟩, fun x => z07 n x.1 x.2.1⟩), (1, ⟨⟨[(0, (.d .str)), (3, (.d (.int .i64))), (31, (.d .bool))], [], 0, 40⟩, fun x => z0s n x.1 x.2.1 x.2.2.1⟩)]) (ann [(6, 0), (17, 1)] (Tryz.f97.body.getD .skip) 0).1
noncomputable def yhw : List (FI dat) := [zd5, zff]
theorem yf7 : (zbp).Good Tryz.prog dat (tb yhw) := FI.zz4 (hD := yz2 _) Tryz.func97 Tryz.ntmps97 Tryz.call97 (by kernel_rfl) (of_decide_eq_true (by kernel_rfl)) (by kernel_rfl) (fun n => by kernel_rfl) (fun x => by kernel_rfl) (fun _ => rfl) ⟨fun _ => rfl, fun _ => rfl, trivial⟩
 (fun n => fun x => (za1.eq_2 x.1 n).trans (by kernel_rfl))
 (fun n => ⟨fun x => (z07.eq_2 x.1 x.2.1 n).trans (by kernel_rfl),
  fun x => (z0s.eq_2 x.1 x.2.1 x.2.2.1 n).trans (by kernel_rfl),
  trivial⟩)
 (fun x => .inl rfl)
theorem yid : OkL Tryz.prog [zbp] := yz7 (yz2 _) (bs := [zd5, zff]) ⟨y1p, y73, trivial⟩ yf7
theorem ztm : FOk Tryz.prog zbp := yid.1
def z9l : Nat → (List UInt8) → Option Bool
 | 0, _ => none
 | n + 1, a0 =>
   pIf (a0 == [115, 120])
     (some true)
     (pIf (a0 == [115, 121])
       (some true)
       (some (a0 == [115, 122])))
def y56 : LSh := ⟨[(2, (.d .bool))], [], 0, 13⟩
noncomputable def zdc : FI dat := FI.of dat 98 13 0 [(.d .str)] [] [(.d .bool)] [] true y56 (R := Bool) (fun x => x.1) (fun r => (r, ())) (fun n x => z9l n x.1)
 (fun n => []) (ann [] (Tryz.f98.body.getD .skip) 0).1
noncomputable def y64 : List (FI dat) := []
theorem y79 : (zdc).Good Tryz.prog dat (tb y64) := FI.zz4 (hD := yz2 _) Tryz.func98 Tryz.ntmps98 Tryz.call98 (by kernel_rfl) (of_decide_eq_true (by kernel_rfl)) (by kernel_rfl) (fun n => by kernel_rfl) (fun x => by kernel_rfl) (fun _ => rfl) trivial
 (fun n => fun x => (z9l.eq_2 x.1 n).trans (by kernel_rfl))
 (fun n => trivial)
 (fun x => .inl rfl)
theorem y68 : OkL Tryz.prog [zdc] := yz7 (yz2 _) (bs := []) trivial y79
theorem y1r : FOk Tryz.prog zdc := y68.1
def z3j : Nat → (List UInt8) → Option Bool
 | 0, _ => none
 | n + 1, a0 =>
   (za1 n a0).bind fun y0 =>
   pIf y0
     (pIf (!(a0 == [116, 114, 117, 101]))
       (pIf (!(a0 == [102, 97, 108, 115, 101]))
         ((z9l n a0).bind fun y1 =>
         some (!y1))
         (some false))
       (some false))
     (some false)
def yg2 : LSh := ⟨[(2, (.d .bool))], [], 0, 18⟩
noncomputable def zbr : FI dat := FI.of dat 64 18 0 [(.d .str)] [] [(.d .bool)] [] true yg2 (R := Bool) (fun x => x.1) (fun r => (r, ())) (fun n x => z3j n x.1)
 (fun n => []) (ann [] (Tryz.f64.body.getD .skip) 0).1
noncomputable def yil : List (FI dat) := [zbp, zdc]
theorem yef : (zbr).Good Tryz.prog dat (tb yil) := FI.zz4 (hD := yz2 _) Tryz.func64 Tryz.ntmps64 Tryz.call64 (by kernel_rfl) (of_decide_eq_true (by kernel_rfl)) (by kernel_rfl) (fun n => by kernel_rfl) (fun x => by kernel_rfl) (fun _ => rfl) trivial
 (fun n => fun x => (z3j.eq_2 x.1 n).trans (by kernel_rfl))
 (fun n => trivial)
 (fun x => .inl rfl)
theorem yi8 : OkL Tryz.prog [zbr] := yz7 (yz2 _) (bs := [zbp, zdc]) ⟨ztm, y1r, trivial⟩ yef
theorem ztq : FOk Tryz.prog zbr := yi8.1
mutual
def za2 : Nat → zz1 → Option Int
 | 0, _ => none
 | n + 1, a0 =>
   z68 n 0 1 a0.re
def z68 : Nat → Int → Int → zz1 → Option Int
 | 0, _, _, _ => none
 | n + 1, a0, a1, a2 =>
   pIf (decide (a0 < (a2.args.length : Int)))
     ((ix a2.args a0).bind fun x0 =>
     (za2 n x0.re).bind fun y1 =>
     z68 n (IntKind.i64.wrap (a0 + 1)) (mxI a1 (IntKind.i64.wrap (1 + y1))) a2.re)
     (some a1)
end
def yf1 : LSh := ⟨[(2, (.d (.int .i64)))], [], 0, 22⟩
noncomputable def zdx : FI dat := FI.of dat 99 22 0 [(.d (.st 2))] [] [(.d (.int .i64))] [] true yf1 (R := Int) (fun x => x.1) (fun r => (r, ())) (fun n x => za2 n x.1)
 (fun n => [(0, ⟨⟨[(4, (.d (.int .i64))), (1, (.ptr 0 0)), (3, (.d (.int .i64)))], [(.st 2)], 0, 22⟩, fun x => z68 n x.1 x.2.1 x.2.2.1⟩)]) (ann [(8, 0)] (Tryz.f99.body.getD .skip) 0).1
noncomputable def yfu : List (FI dat) := [zdx] ++ []
theorem ye4 : (zdx).Good Tryz.prog dat (tb yfu) := FI.zz4 (hD := yz2 _) Tryz.func99 Tryz.ntmps99 Tryz.call99 (by kernel_rfl) (of_decide_eq_true (by kernel_rfl)) (by kernel_rfl) (fun n => by kernel_rfl) (fun x => by kernel_rfl) (fun _ => rfl) ⟨fun _ => rfl, trivial⟩
 (fun n => fun x => (za2.eq_2 x.1 n).trans (by kernel_rfl))
 (fun n => ⟨fun x => (z68.eq_2 x.1 x.2.1 x.2.2.1 n).trans (by kernel_rfl),
  trivial⟩)
 (fun x => .inl rfl)
theorem yeu : OkL Tryz.prog [zdx] := z9e (yz2 _) (bs := []) trivial ⟨ye4, trivial⟩
theorem y9l : FOk Tryz.prog zdx := yeu.1
end Go.Proofs.YtflgdagdibabiaaGreat


namespace Go.Proofs.YtflgdagdibabiaaGreat
open Go Go.Ab
set_option linter.unusedVariables false
set_option maxRecDepth 100000
set_option maxHeartbeats 4000000
mutual
def zce : Nat → Int → Option Int
 | 0, _ => none
 | n + 1, a0 =>
   pIf (a0 == 1)
     (z8r n a0 true)
     (z8r n a0 (a0 == 2))
def z8r : Nat → Int → Bool → Option Int
 | 0, _, _ => none
 | n + 1, a0, a1 =>
   pIf a1
     (some 0)
     (pIf (decide (a0 ≥ 3))
       (pIf (decide (a0 ≤ 10))
         (zzw n a0 true)
         (pIf (a0 == 13)
           (zzw n a0 true)
           (pIf (a0 == 14)
             (zzw n a0 true)
             (zzw n a0 (a0 == 17)))))
       (pIf (a0 == 13)
         (zzw n a0 true)
         (pIf (a0 == 14)
           (zzw n a0 true)
           (zzw n a0 (a0 == 17)))))
def zzw : Nat → Int → Bool → Option Int
 | 0, _, _ => none
 | n + 1, a0, a1 =>
   pIf a1
     (some 2)
     (pIf (a0 == 11)
       (z6f n a0 true)
       (pIf (a0 == 15)
         (z6f n a0 true)
         (z6f n a0 (a0 == 16))))
def z6f : Nat → Int → Bool → Option Int
 | 0, _, _ => none
 | n + 1, a0, a1 =>
   pIf a1
     (some 1)
     (pIf (a0 == 12)
       (some 3)
       (pIf (a0 == 18)
         (some (-1))
         (some (-2))))
end
def yfq : LSh := ⟨[(2, (.d (.int .i64)))], [], 0, 46⟩
noncomputable def zhf : FI dat := FI.of dat 120 46 0 [(.d (.int .u8))] [] [(.d (.int .i64))] [] true yfq (R := Int) (fun x => x.1) (fun r => (r, ())) (fun n x => zce n x.1)
 (fun n => [(0, ⟨⟨[(0, (.d (.int .u8))), (3, (.d .bool))], [], 0, 46⟩, fun x => z8r n x.1 x.2.1⟩), (1, ⟨⟨[(0, (.d (.int .u8))), (10, (.d .bool))], [], 0, 46⟩, fun x => zzw n x.1 x.2.1⟩), (2, ⟨⟨[(0, (.d (.int .u8))), (29, (.d .bool))], [], 0, 46⟩, fun x => z6f n x.1 x.2.1⟩)]) (ann [(6, 0), (12, 1), (18, 2)] (Tryz.f120.body.getD .skip) 0).1
noncomputable def yig : List (FI dat) := []
theorem yeq : (zhf).Good Tryz.prog dat (tb yig) := FI.zz4 (hD := yz2 _) Tryz.func120 Tryz.ntmps120 Tryz.call120 (by kernel_rfl) (of_decide_eq_true (by kernel_rfl)) (by kernel_rfl) (fun n => by kernel_rfl) (fun x => by kernel_rfl) (fun _ => rfl) ⟨fun _ => rfl, fun _ => rfl, fun _ => rfl, trivial⟩
 (fun n => fun x => (zce.eq_2 x.1 n).trans (by kernel_rfl))
 (fun n => ⟨fun x => (z8r.eq_2 x.1 x.2.1 n).trans (by kernel_rfl),
  fun x => (zzw.eq_2 x.1 x.2.1 n).trans (by kernel_rfl),
  fun x => (z6f.eq_2 x.1 x.2.1 n).trans (by kernel_rfl),
  trivial⟩)
 (fun x => .inl rfl)
theorem yhr : OkL Tryz.prog [zhf] := yz7 (yz2 _) (bs := []) trivial yeq
theorem y8q : FOk Tryz.prog zhf := yhr.1
mutual
def zae : Nat → yz1 → Option Int
 | 0, _ => none
 | n + 1, a0 =>
   z5i n 0 1 a0.re
def z5i : Nat → Int → Int → yz1 → Option Int
 | 0, _, _, _ => none
 | n + 1, a0, a1, a2 =>
   pIf (decide (a0 < (a2.list.length : Int)))
     (z6a n a0 a1 (a2.kind == 4) a2.re)
     (z6a n a0 a1 false a2.re)
def z6a : Nat → Int → Int → Bool → yz1 → Option Int
 | 0, _, _, _, _ => none
 | n + 1, a0, a1, a2, a3 =>
   pIf a2
     ((ix a3.list a0).bind fun x0 =>
     (zae n x0.re).bind fun y1 =>
     z5i n (IntKind.i64.wrap (a0 + 1)) (mxI a1 (IntKind.i64.wrap (1 + y1))) a3.re)
     (some a1)
end
def yg5 : LSh := ⟨[(2, (.d (.int .i64)))], [], 0, 27⟩
noncomputable def zdy : FI dat := FI.of dat 128 27 0 [(.d (.st 1))] [] [(.d (.int .i64))] [] true yg5 (R := Int) (fun x => x.1) (fun r => (r, ())) (fun n x => zae n x.1)
 (fun n => [(0, ⟨⟨[(4, (.d (.int .i64))), (1, (.ptr 0 0)), (3, (.d (.int .i64)))], [(.st 1)], 0, 27⟩, fun x => z5i n x.1 x.2.1 x.2.2.1⟩), (1, ⟨⟨[(1, (.ptr 0 0)), (4, (.d (.int .i64))), (3, (.d (.int .i64))), (14, (.d .bool))], [(.st 1)], 0, 27⟩, fun x => z6a n x.1 x.2.1 x.2.2.1 x.2.2.2.1⟩)]) (ann [(8, 0), (12, 1)] (Tryz.f128.body.getD .skip) 0).1
noncomputable def yg7 : List (FI dat) := [zdy] ++ []
theorem yet : (zdy).Good Tryz.prog dat (tb yg7) := FI.zz4 (hD := yz2 _) Tryz.func128 Tryz.ntmps128 Tryz.call128 (by kernel_rfl) (of_decide_eq_true (by kernel_rfl)) (by kernel_rfl) (fun n => by kernel_rfl) (fun x => by kernel_rfl) (fun _ => rfl) ⟨fun _ => rfl, fun _ => rfl, trivial⟩
 (fun n => fun x => (zae.eq_2 x.1 n).trans (by kernel_rfl))
 (fun n => ⟨fun x => (z5i.eq_2 x.1 x.2.1 x.2.2.1 n).trans (by kernel_rfl),
  fun x => (z6a.eq_2 x.1 x.2.1 x.2.2.1 x.2.2.2.1 n).trans (by kernel_rfl),
  trivial⟩)
 (fun x => .inl rfl)
theorem yh6 : OkL Tryz.prog [zdy] := z9e (yz2 _) (bs := []) trivial ⟨yet, trivial⟩
theorem y8m : FOk Tryz.prog zdy := yh6.1
mutual
def z9g : Nat → Int → Int → Option Int
 | 0, _, _ => none
 | n + 1, a0, a1 =>
   z2n n a1 a0
def z2n : Nat → Int → Int → Option Int
 | 0, _, _ => none
 | n + 1, a0, a1 =>
   pIf (a0 != 0)
     ((rem .i64 a1 a0).bind fun x0 =>
     z2n n x0 a0)
     (pIf (decide (a1 < 0))
       (some (IntKind.i64.wrap (0 - a1)))
       (some a1))
end
def y5p : LSh := ⟨[(4, (.d (.int .i64)))], [], 0, 16⟩
noncomputable def zdu : FI dat := FI.of dat 134 16 0 [(.d (.int .i64)), (.d (.int .i64))] [] [(.d (.int .i64))] [] true y5p (R := Int) (fun x => x.1) (fun r => (r, ())) (fun n x => z9g n x.1 x.2.1)
 (fun n => [(0, ⟨⟨[(1, (.d (.int .i64))), (0, (.d (.int .i64)))], [], 0, 16⟩, fun x => z2n n x.1 x.2.1⟩)]) (ann [(4, 0)] (Tryz.f134.body.getD .skip) 0).1
noncomputable def y5s : List (FI dat) := []
theorem y5z : (zdu).Good Tryz.prog dat (tb y5s) := FI.zz4 (hD := yz2 _) Tryz.func134 Tryz.ntmps134 Tryz.call134 (by kernel_rfl) (of_decide_eq_true (by kernel_rfl)) (by kernel_rfl) (fun n => by kernel_rfl) (fun x => by kernel_rfl) (fun _ => rfl) ⟨fun _ => rfl, trivial⟩
 (fun n => fun x => (z9g.eq_2 x.1 x.2.1 n).trans (by kernel_rfl))
 (fun n => ⟨fun x => (z2n.eq_2 x.1 x.2.1 n).trans (by kernel_rfl),
  trivial⟩)
 (fun x => .inl rfl)
theorem y41 : OkL Tryz.prog [zdu] := yz7 (yz2 _) (bs := []) trivial y5z
theorem y1f : FOk Tryz.prog zdu := y41.1
mutual
def zb2 : Nat → yz6 → Option Int
 | 0, _ => none
 | n + 1, a0 =>
   pIf (decide (a0.den < 1))
     (z09 n true)
     (pIf (decide (a0.den > 1000000000))
       (z09 n true)
       (pIf (decide (a0.num < (-1000000000)))
         (z09 n true)
         (pIf (decide (a0.num > 1000000000))
           (z09 n true)
           ((z9g n a0.num a0.den).bind fun y0 =>
           z09 n (y0 != 1)))))
def z09 : Nat → Bool → Option Int
 | 0, _ => none
 | n + 1, a0 =>
   pIf a0
     (some 8)
     (some 0)
end
def yad : LSh := ⟨[(2, (.d (.int .i64)))], [], 0, 29⟩
noncomputable def zfl : FI dat := FI.of dat 131 29 0 [(.d (.st 0))] [] [(.d (.int .i64))] [] true yad (R := Int) (fun x => x.1) (fun r => (r, ())) (fun n x => zb2 n x.1)
 (fun n => [(0, ⟨⟨[(28, (.d .bool))], [], 0, 29⟩, fun x => z09 n x.1⟩)]) (ann [(5, 0)] (Tryz.f131.body.getD .skip) 0).1
noncomputable def yae : List (FI dat) := [zdu]
theorem y7t : (zfl).Good Tryz.prog dat (tb yae) := FI.zz4 (hD := yz2 _) Tryz.func131 Tryz.ntmps131 Tryz.call131 (by kernel_rfl) (of_decide_eq_true (by kernel_rfl)) (by kernel_rfl) (fun n => by kernel_rfl) (fun x => by kernel_rfl) (fun _ => rfl) ⟨fun _ => rfl, trivial⟩
 (fun n => fun x => (zb2.eq_2 x.1 n).trans (by kernel_rfl))
 (fun n => ⟨fun x => (z09.eq_2 x.1 n).trans (by kernel_rfl),
  trivial⟩)
 (fun x => .inl rfl)
theorem y94 : OkL Tryz.prog [zfl] := yz7 (yz2 _) (bs := [zdu]) ⟨y1f, trivial⟩ y7t
theorem y39 : FOk Tryz.prog zfl := y94.1
mutual
def za4 : Nat → yz1 → Option Bool
 | 0, _ => none
 | n + 1, a0 =>
   pIf (a0.kind == 1)
     ((zb2 n a0.num).bind fun y0 =>
     pIf (y0 == 0)
       (pIf (!a0.truth)
         (pIf ((a0.str.length : Int) == 0)
           (some ((a0.list.length : Int) == 0))
           (some false))
         (some false))
       (some false))
     (pIf (a0.kind == 2)
       (pIf ((a0.num.num == 0) && ((a0.num.den == 0) && true))
         (pIf ((a0.str.length : Int) == 0)
           (some ((a0.list.length : Int) == 0))
           (some false))
         (some false))
       (pIf (a0.kind == 3)
         (pIf (!((a0.num.num == 0) && ((a0.num.den == 0) && true)))
           (z0o n true a0.re)
           (pIf a0.truth
             (z0o n true a0.re)
             (pIf (decide ((a0.list.length : Int) > 0))
               (z0o n true a0.re)
               (z0o n (decide ((a0.str.length : Int) > 60)) a0.re))))
         (pIf (a0.kind == 4)
           (pIf (!((a0.num.num == 0) && ((a0.num.den == 0) && true)))
             (z1r n true a0.re)
             (pIf a0.truth
               (z1r n true a0.re)
               (z1r n (decide ((a0.str.length : Int) > 0)) a0.re)))
           (some false))))
def z0o : Nat → Bool → yz1 → Option Bool
 | 0, _, _ => none
 | n + 1, a0, a1 =>
   pIf a0
     (some false)
     (z6i n 0 a1.re)
def z6i : Nat → Int → yz1 → Option Bool
 | 0, _, _ => none
 | n + 1, a0, a1 =>
   pIf (decide (a0 < (a1.str.length : Int)))
     ((ix a1.str a0).bind fun x1 =>
     pIf (decide ((x1.toNat : Int) < 32))
       (z5f n a0 true a1.re)
       ((ix a1.str a0).bind fun x2 =>
       z5f n a0 (decide ((x2.toNat : Int) > 126)) a1.re))
     (some true)
def z5f : Nat → Int → Bool → yz1 → Option Bool
 | 0, _, _, _ => none
 | n + 1, a0, a1, a2 =>
   pIf a1
     (some false)
     (z6i n (IntKind.i64.wrap (a0 + 1)) a2.re)
def z1r : Nat → Bool → yz1 → Option Bool
 | 0, _, _ => none
 | n + 1, a0, a1 =>
   pIf a0
     (some false)
     (z5s n 0 a1.re)
def z5s : Nat → Int → yz1 → Option Bool
 | 0, _, _ => none
 | n + 1, a0, a1 =>
   pIf (decide (a0 < (a1.list.length : Int)))
     ((ix a1.list a0).bind fun x3 =>
     (za4 n x3.re).bind fun y4 =>
     pIf (!y4)
       (some false)
       (z5s n (IntKind.i64.wrap (a0 + 1)) a1.re))
     (some true)
end
def yf5 : LSh := ⟨[(2, (.d .bool))], [], 0, 121⟩
noncomputable def ze2 : FI dat := FI.of dat 129 121 0 [(.d (.st 1))] [] [(.d .bool)] [] true yf5 (R := Bool) (fun x => x.1) (fun r => (r, ())) (fun n x => za4 n x.1)
 (fun n => [(0, ⟨⟨[(1, (.ptr 0 0)), (71, (.d .bool))], [(.st 1)], 0, 121⟩, fun x => z0o n x.1 x.2.1⟩), (1, ⟨⟨[(4, (.d (.int .i64))), (1, (.ptr 0 0))], [(.st 1)], 0, 121⟩, fun x => z6i n x.1 x.2.1⟩), (2, ⟨⟨[(1, (.ptr 0 0)), (4, (.d (.int .i64))), (90, (.d .bool))], [(.st 1)], 0, 121⟩, fun x => z5f n x.1 x.2.1 x.2.2.1⟩), (3, ⟨⟨[(1, (.ptr 0 0)), (106, (.d .bool))], [(.st 1)], 0, 121⟩, fun x => z1r n x.1 x.2.1⟩), (4, ⟨⟨[(5, (.d (.int .i64))), (1, (.ptr 0 0))], [(.st 1)], 0, 121⟩, fun x => z5s n x.1 x.2.1⟩)]) (ann [(26, 0), (35, 1), (46, 2), (61, 3), (70, 4)] (Tryz.f129.body.getD .skip) 0).1
noncomputable def yf8 : List (FI dat) := [ze2] ++ [zfl]
theorem yfn : (ze2).Good Tryz.prog dat (tb yf8) := FI.zz4 (hD := yz2 _) Tryz.func129 Tryz.ntmps129 Tryz.call129 (by kernel_rfl) (of_decide_eq_true (by kernel_rfl)) (by kernel_rfl) (fun n => by kernel_rfl) (fun x => by kernel_rfl) (fun _ => rfl) ⟨fun _ => rfl, fun _ => rfl, fun _ => rfl, fun _ => rfl, fun _ => rfl, trivial⟩
 (fun n => fun x => (za4.eq_2 x.1 n).trans (by kernel_rfl))
 (fun n => ⟨fun x => (z0o.eq_2 x.1 x.2.1 n).trans (by kernel_rfl),
  fun x => (z6i.eq_2 x.1 x.2.1 n).trans (by kernel_rfl),
  fun x => (z5f.eq_2 x.1 x.2.1 x.2.2.1 n).trans (by kernel_rfl),
  fun x => (z1r.eq_2 x.1 x.2.1 n).trans (by kernel_rfl),
  fun x => (z5s.eq_2 x.1 x.2.1 n).trans (by kernel_rfl),
  trivial⟩)
 (fun x => .inl rfl)
theorem yhv : OkL Tryz.prog [ze2] := z9e (yz2 _) (bs := [zfl]) ⟨y39, trivial⟩ ⟨yfn, trivial⟩
theorem y7u : FOk Tryz.prog ze2 := yhv.1
mutual
def zbf : Nat → yz1 → Option Int
 | 0, _ => none
 | n + 1, a0 =>
   (z6x n a0.re).bind fun y0 =>
   pIf (decide (y0 > 100))
     (z4e n true a0.re)
     ((zae n a0.re).bind fun y1 =>
     z4e n (decide (y1 > 6)) a0.re)
def z4e : Nat → Bool → yz1 → Option Int
 | 0, _, _ => none
 | n + 1, a0, a1 =>
   pIf a0
     (some 4)
     ((za4 n a1.re).bind fun y2 =>
     pIf (!y2)
       (some 8)
       (some 0))
end
def yc1 : LSh := ⟨[(2, (.d (.int .i64)))], [], 0, 14⟩
noncomputable def zez : FI dat := FI.of dat 121 14 0 [(.d (.st 1))] [] [(.d (.int .i64))] [] true yc1 (R := Int) (fun x => x.1) (fun r => (r, ())) (fun n x => zbf n x.1)
 (fun n => [(0, ⟨⟨[(1, (.ptr 0 0)), (10, (.d .bool))], [(.st 1)], 0, 14⟩, fun x => z4e n x.1 x.2.1⟩)]) (ann [(5, 0)] (Tryz.f121.body.getD .skip) 0).1
noncomputable def ycj : List (FI dat) := [z8n, zdy, ze2]
theorem y8o : (zez).Good Tryz.prog dat (tb ycj) := FI.zz4 (hD := yz2 _) Tryz.func121 Tryz.ntmps121 Tryz.call121 (by kernel_rfl) (of_decide_eq_true (by kernel_rfl)) (by kernel_rfl) (fun n => by kernel_rfl) (fun x => by kernel_rfl) (fun _ => rfl) ⟨fun _ => rfl, trivial⟩
 (fun n => fun x => (zbf.eq_2 x.1 n).trans (by kernel_rfl))
 (fun n => ⟨fun x => (z4e.eq_2 x.1 x.2.1 n).trans (by kernel_rfl),
  trivial⟩)
 (fun x => .inl rfl)
theorem y84 : OkL Tryz.prog [zez] := yz7 (yz2 _) (bs := [z8n, zdy, ze2]) ⟨zrw, y8m, y7u, trivial⟩ y8o
theorem y6q : FOk Tryz.prog zez := y84.1
mutual
def z2l : Nat → yz1 → yz1 → Option Bool
 | 0, _, _ => none
 | n + 1, a0, a1 =>
   pIf (a0.kind != a1.kind)
     (z0u n true a1.re a0.re)
     (pIf (!((a0.num.num == a1.num.num) && ((a0.num.den == a1.num.den) && true)))
       (z0u n true a1.re a0.re)
       (pIf (!(a0.truth == a1.truth))
         (z0u n true a1.re a0.re)
         (pIf (!(a0.str == a1.str))
           (z0u n true a1.re a0.re)
           (z0u n ((a0.list.length : Int) != (a1.list.length : Int)) a1.re a0.re))))
def z0u : Nat → Bool → yz1 → yz1 → Option Bool
 | 0, _, _, _ => none
 | n + 1, a0, a1, a2 =>
   pIf a0
     (some false)
     (z5h n 0 a1.re a2.re)
def z5h : Nat → Int → yz1 → yz1 → Option Bool
 | 0, _, _, _ => none
 | n + 1, a0, a1, a2 =>
   pIf (decide (a0 < (a2.list.length : Int)))
     ((ix a2.list a0).bind fun x0 =>
     (ix a1.list a0).bind fun x1 =>
     (z2l n x0.re x1.re).bind fun y2 =>
     pIf (!y2)
       (some false)
       (z5h n (IntKind.i64.wrap (a0 + 1)) a1.re a2.re))
     (some true)
end
def yih : LSh := ⟨[(4, (.d .bool))], [], 0, 60⟩
noncomputable def z9t : FI dat := FI.of dat 75 60 0 [(.d (.st 1)), (.d (.st 1))] [] [(.d .bool)] [] true yih (R := Bool) (fun x => x.1) (fun r => (r, ())) (fun n x => z2l n x.1 x.2.1)
 (fun n => [(0, ⟨⟨[(3, (.ptr 0 0)), (2, (.ptr 1 0)), (40, (.d .bool))], [(.st 1), (.st 1)], 0, 60⟩, fun x => z0u n x.1 x.2.1 x.2.2.1⟩), (1, ⟨⟨[(5, (.d (.int .i64))), (3, (.ptr 0 0)), (2, (.ptr 1 0))], [(.st 1), (.st 1)], 0, 60⟩, fun x => z5h n x.1 x.2.1 x.2.2.1⟩)]) (ann [(5, 0), (14, 1)] (Tryz.f75.body.getD .skip) 0).1
noncomputable def yfy : List (FI dat) := [z9t] ++ []
theorem yhk : (z9t).Good Tryz.prog dat (tb yfy) := FI.zz4 (hD := yz2 _) Tryz.func75 Tryz.ntmps75 Tryz.call75 (by kernel_rfl) (of_decide_eq_true (by kernel_rfl)) (by kernel_rfl) (fun n => by kernel_rfl) (fun x => by kernel_rfl) (fun _ => rfl) ⟨fun _ => rfl, fun _ => rfl, trivial⟩
 (fun n => fun x => (z2l.eq_2 x.1 x.2.1 n).trans (by kernel_rfl))
 (fun n => ⟨fun x => (z0u.eq_2 x.1 x.2.1 x.2.2.1 n).trans (by kernel_rfl),
  fun x => (z5h.eq_2 x.1 x.2.1 x.2.2.1 n).trans (by kernel_rfl),
  trivial⟩)
 (fun x => .inl rfl)
theorem yek : OkL Tryz.prog [z9t] := z9e (yz2 _) (bs := []) trivial ⟨yhk, trivial⟩
theorem ztn : FOk Tryz.prog z9t := yek.1
def zb6 : Nat → (List UInt8) → Option Bool
 | 0, _ => none
 | n + 1, a0 =>
   (za1 n a0).bind fun y0 =>
   pIf y0
     (pIf (!(a0 == [116, 114, 117, 101]))
       (some (!(a0 == [102, 97, 108, 115, 101])))
       (some false))
     (some false)
def yaz : LSh := ⟨[(2, (.d .bool))], [], 0, 13⟩
noncomputable def zf8 : FI dat := FI.of dat 122 13 0 [(.d .str)] [] [(.d .bool)] [] true yaz (R := Bool) (fun x => x.1) (fun r => (r, ())) (fun n x => zb6 n x.1)
 (fun n => []) (ann [] (Tryz.f122.body.getD .skip) 0).1
noncomputable def yci : List (FI dat) := [zbp]
theorem y80 : (zf8).Good Tryz.prog dat (tb yci) := FI.zz4 (hD := yz2 _) Tryz.func122 Tryz.ntmps122 Tryz.call122 (by kernel_rfl) (of_decide_eq_true (by kernel_rfl)) (by kernel_rfl) (fun n => by kernel_rfl) (fun x => by kernel_rfl) (fun _ => rfl) trivial
 (fun n => fun x => (zb6.eq_2 x.1 n).trans (by kernel_rfl))
 (fun n => trivial)
 (fun x => .inl rfl)
theorem yba : OkL Tryz.prog [zf8] := yz7 (yz2 _) (bs := [zbp]) ⟨ztm, trivial⟩ y80
theorem y3j : FOk Tryz.prog zf8 := yba.1
mutual
def zac : Nat → zz1 → Option Bool
 | 0, _ => none
 | n + 1, a0 =>
   (zce n a0.op).bind fun y0 =>
   pIf (y0 == (-2))
     (z3f n true a0.re)
     (pIf (decide (y0 ≥ 0))
       (z3f n ((a0.args.length : Int) != y0) a0.re)
       (z3f n false a0.re))
def z3f : Nat → Bool → zz1 → Option Bool
 | 0, _, _ => none
 | n + 1, a0, a1 =>
   pIf a0
     (some false)
     (pIf (a1.op == 1)
       ((zbf n a1.value.re).bind fun y1 =>
       pIf (y1 != 0)
         (z04 n true a1.re)
         (pIf (a1.value.kind == 4)
           (z04 n true a1.re)
           (pIf (a1.op != 1)
             ((z2l n a1.value.re (yz1.mk 0 (yz6.mk 0 0) false [] [])).bind fun y2 =>
             z04 n (!y2) a1.re)
             (z04 n false a1.re))))
       (pIf (a1.op != 1)
         ((z2l n a1.value.re (yz1.mk 0 (yz6.mk 0 0) false [] [])).bind fun y3 =>
         z04 n (!y3) a1.re)
         (z04 n false a1.re)))
def z04 : Nat → Bool → zz1 → Option Bool
 | 0, _, _ => none
 | n + 1, a0, a1 =>
   pIf a0
     (some false)
     (pIf (a1.op == 2)
       ((zb6 n a1.name).bind fun y4 =>
       pIf (!y4)
         (z0t n true a1.re)
         (pIf (a1.op != 2)
           (z0t n (decide ((a1.name.length : Int) > 0)) a1.re)
           (z0t n false a1.re)))
       (pIf (a1.op != 2)
         (z0t n (decide ((a1.name.length : Int) > 0)) a1.re)
         (z0t n false a1.re)))
def z0t : Nat → Bool → zz1 → Option Bool
 | 0, _, _ => none
 | n + 1, a0, a1 =>
   pIf a0
     (some false)
     (z5u n 0 a1.re)
def z5u : Nat → Int → zz1 → Option Bool
 | 0, _, _ => none
 | n + 1, a0, a1 =>
   pIf (decide (a0 < (a1.args.length : Int)))
     ((ix a1.args a0).bind fun x5 =>
     (zac n x5.re).bind fun y6 =>
     pIf (!y6)
       (some false)
       (z5u n (IntKind.i64.wrap (a0 + 1)) a1.re))
     (some true)
end
def yhn : LSh := ⟨[(2, (.d .bool))], [], 0, 82⟩
noncomputable def zea : FI dat := FI.of dat 100 82 0 [(.d (.st 2))] [] [(.d .bool)] [] true yhn (R := Bool) (fun x => x.1) (fun r => (r, ())) (fun n x => zac n x.1)
 (fun n => [(0, ⟨⟨[(1, (.ptr 0 0)), (20, (.d .bool))], [(.st 2)], 0, 82⟩, fun x => z3f n x.1 x.2.1⟩), (1, ⟨⟨[(1, (.ptr 0 0)), (47, (.d .bool))], [(.st 2)], 0, 82⟩, fun x => z04 n x.1 x.2.1⟩), (2, ⟨⟨[(1, (.ptr 0 0)), (67, (.d .bool))], [(.st 2)], 0, 82⟩, fun x => z0t n x.1 x.2.1⟩), (3, ⟨⟨[(4, (.d (.int .i64))), (1, (.ptr 0 0))], [(.st 2)], 0, 82⟩, fun x => z5u n x.1 x.2.1⟩)]) (ann [(7, 0), (15, 1), (23, 2), (32, 3)] (Tryz.f100.body.getD .skip) 0).1
noncomputable def yev : List (FI dat) := [zea] ++ [zhf, zez, z9t, zf8]
theorem ygq : (zea).Good Tryz.prog dat (tb yev) := FI.zz4 (hD := yz2 _) Tryz.func100 Tryz.ntmps100 Tryz.call100 (by kernel_rfl) (of_decide_eq_true (by kernel_rfl)) (by kernel_rfl) (fun n => by kernel_rfl) (fun x => by kernel_rfl) (fun _ => rfl) ⟨fun _ => rfl, fun _ => rfl, fun _ => rfl, fun _ => rfl, trivial⟩
 (fun n => fun x => (zac.eq_2 x.1 n).trans (by kernel_rfl))
 (fun n => ⟨fun x => (z3f.eq_2 x.1 x.2.1 n).trans (by kernel_rfl),
  fun x => (z04.eq_2 x.1 x.2.1 n).trans (by kernel_rfl),
  fun x => (z0t.eq_2 x.1 x.2.1 n).trans (by kernel_rfl),
  fun x => (z5u.eq_2 x.1 x.2.1 n).trans (by kernel_rfl),
  trivial⟩)
 (fun x => .inl rfl)
theorem ygi : OkL Tryz.prog [zea] := z9e (yz2 _) (bs := [zhf, zez, z9t, zf8]) ⟨y8q, y6q, ztn, y3j, trivial⟩ ⟨ygq, trivial⟩
theorem yaf : FOk Tryz.prog zea := ygi.1
end Go.Proofs.YtflgdagdibabiaaGreat


namespace Go.Proofs.YtflgdagdibabiaaGreat
open Go Go.Ab
set_option linter.unusedVariables false
set_option maxRecDepth 100000
set_option maxHeartbeats 4000000
mutual
def z1e : Nat → zz1 → Option Int
 | 0, _ => none
 | n + 1, a0 =>
   (z6u n a0.re).bind fun y0 =>
   pIf (decide (y0 > 100))
     (z4v n true a0.re)
     ((za2 n a0.re).bind fun y1 =>
     z4v n (decide (y1 > 12)) a0.re)
def z4v : Nat → Bool → zz1 → Option Int
 | 0, _, _ => none
 | n + 1, a0, a1 =>
   pIf a0
     (some 4)
     ((zac n a1.re).bind fun y2 =>
     pIf (!y2)
       (some 8)
       (some 0))
end
def ya8 : LSh := ⟨[(2, (.d (.int .i64)))], [], 0, 14⟩
noncomputable def z6l : FI dat := FI.of dat 65 14 0 [(.d (.st 2))] [] [(.d (.int .i64))] [] true ya8 (R := Int) (fun x => x.1) (fun r => (r, ())) (fun n x => z1e n x.1)
 (fun n => [(0, ⟨⟨[(1, (.ptr 0 0)), (10, (.d .bool))], [(.st 2)], 0, 14⟩, fun x => z4v n x.1 x.2.1⟩)]) (ann [(5, 0)] (Tryz.f65.body.getD .skip) 0).1
noncomputable def y98 : List (FI dat) := [z8p, zdx, zea]
theorem yc4 : (z6l).Good Tryz.prog dat (tb y98) := FI.zz4 (hD := yz2 _) Tryz.func65 Tryz.ntmps65 Tryz.call65 (by kernel_rfl) (of_decide_eq_true (by kernel_rfl)) (by kernel_rfl) (fun n => by kernel_rfl) (fun x => by kernel_rfl) (fun _ => rfl) ⟨fun _ => rfl, trivial⟩
 (fun n => fun x => (z1e.eq_2 x.1 n).trans (by kernel_rfl))
 (fun n => ⟨fun x => (z4v.eq_2 x.1 x.2.1 n).trans (by kernel_rfl),
  trivial⟩)
 (fun x => .inl rfl)
theorem yas : OkL Tryz.prog [z6l] := yz7 (yz2 _) (bs := [z8p, zdx, zea]) ⟨zqq, y9l, yaf, trivial⟩ yc4
theorem zlm : FOk Tryz.prog z6l := yas.1
mutual
def zc1 : Nat → Int → Option Int
 | 0, _ => none
 | n + 1, a0 =>
   pIf (a0 == 2)
     (z7u n a0 true)
     (z7u n a0 (a0 == 3))
def z7u : Nat → Int → Bool → Option Int
 | 0, _, _ => none
 | n + 1, a0, a1 =>
   pIf a1
     (some 3)
     (pIf (a0 == 4)
       (z81 n true)
       (z81 n (a0 == 6)))
def z81 : Nat → Bool → Option Int
 | 0, _ => none
 | n + 1, a0 =>
   pIf a0
     (some 1)
     (some 0)
end
def yl9 : LSh := ⟨[(2, (.d (.int .i64)))], [], 0, 10⟩
noncomputable def zdr : FI dat := FI.of dat 53 10 0 [(.d (.int .u8))] [] [(.d (.int .i64))] [] true yl9 (R := Int) (fun x => x.1) (fun r => (r, ())) (fun n x => zc1 n x.1)
 (fun n => [(0, ⟨⟨[(3, (.d (.int .u8))), (4, (.d .bool))], [], 0, 10⟩, fun x => z7u n x.1 x.2.1⟩), (1, ⟨⟨[(7, (.d .bool))], [], 0, 10⟩, fun x => z81 n x.1⟩)]) (ann [(12, 0), (22, 1)] (Tryz.f53.body.getD .skip) 0).1
noncomputable def ylc : List (FI dat) := []
theorem yj8 : (zdr).Good Tryz.prog dat (tb ylc) := FI.zz4 (hD := yz2 _) Tryz.func53 Tryz.ntmps53 Tryz.call53 (by kernel_rfl) (of_decide_eq_true (by kernel_rfl)) (by kernel_rfl) (fun n => by kernel_rfl) (fun x => by kernel_rfl) (fun _ => rfl) ⟨fun _ => rfl, fun _ => rfl, trivial⟩
 (fun n => fun x => (zc1.eq_2 x.1 n).trans (by kernel_rfl))
 (fun n => ⟨fun x => (z7u.eq_2 x.1 x.2.1 n).trans (by kernel_rfl),
  fun x => (z81.eq_2 x.1 n).trans (by kernel_rfl),
  trivial⟩)
 (fun x => .inl rfl)
theorem ykb : OkL Tryz.prog [zdr] := yz7 (yz2 _) (bs := []) trivial yj8
theorem zwk : FOk Tryz.prog zdr := ykb.1
mutual
def z9k : Nat → zz3 → Option Bool
 | 0, _ => none
 | n + 1, a0 =>
   pIf (decide (a0.kind < 1))
     (z0g n true a0)
     (pIf (decide (a0.kind > 6))
       (z0g n true a0)
       ((z0a n a0.args).bind fun y0 =>
       (z1e n y0.re).bind fun y1 =>
       pIf (y1 != 0)
         (z0g n true a0)
         ((zc1 n a0.kind).bind fun y2 =>
         z0g n (decide ((a0.args.length : Int) < y2)) a0)))
def z0g : Nat → Bool → zz3 → Option Bool
 | 0, _, _ => none
 | n + 1, a0, a1 =>
   pIf a0
     (some false)
     (pIf (a1.kind == 4)
       (z2z n true a1)
       (z2z n (a1.kind == 5) a1))
def z2z : Nat → Bool → zz3 → Option Bool
 | 0, _, _ => none
 | n + 1, a0, a1 =>
   pIf a0
     (pIf (decide (a1.axis > 2))
       (some false)
       (z2w n a1))
     (pIf (a1.axis != 0)
       (some false)
       (z2w n a1))
def z2w : Nat → zz3 → Option Bool
 | 0, _ => none
 | n + 1, a0 =>
   pIf (a0.kind == 5)
     (z5q n true a0)
     (z5q n (a0.kind == 6) a0)
def z5q : Nat → Bool → zz3 → Option Bool
 | 0, _, _ => none
 | n + 1, a0, a1 =>
   pIf a0
     (pIf (decide ((a1.name.length : Int) > 0))
       (zzu n true a1)
       (pIf (a1.kind == 5)
         (pIf (decide ((a1.args.length : Int) > 0))
           (zzu n true a1)
           (pIf (a1.kind == 6)
             (zzu n (decide ((a1.args.length : Int) > 1)) a1)
             (zzu n false a1)))
         (pIf (a1.kind == 6)
           (zzu n (decide ((a1.args.length : Int) > 1)) a1)
           (zzu n false a1))))
     ((z3j n a1.name).bind fun y3 =>
     pIf (!y3)
       (some false)
       (z34 n a1))
def zzu : Nat → Bool → zz3 → Option Bool
 | 0, _, _ => none
 | n + 1, a0, a1 =>
   pIf a0
     (some false)
     (z34 n a1)
def z34 : Nat → zz3 → Option Bool
 | 0, _ => none
 | n + 1, a0 =>
   pIf (!((a0.kind == 5) == (decide ((a0.items.length : Int) > 0))))
     (some false)
     (z1g n 0 a0)
def z1g : Nat → Int → zz3 → Option Bool
 | 0, _, _ => none
 | n + 1, a0, a1 =>
   pIf (decide (a0 < (a1.items.length : Int)))
     ((ix a1.items a0).bind fun x4 =>
     pIf (decide (x4.kind < 1))
       (kzy n a0 true a1)
       (pIf (decide (x4.kind > 3))
         (kzy n a0 true a1)
         ((z3j n x4.name).bind fun y5 =>
         pIf (!y5)
           (kzy n a0 true a1)
           (pIf ((x4.args.length : Int) == 0)
             (kzy n a0 true a1)
             ((z0a n x4.args).bind fun y6 =>
             (z1e n y6.re).bind fun y7 =>
             kzy n a0 (y7 != 0) a1)))))
     (some true)
def kzy : Nat → Int → Bool → zz3 → Option Bool
 | 0, _, _, _ => none
 | n + 1, a0, a1, a2 =>
   pIf a1
     (some false)
     (z1g n (IntKind.i64.wrap (a0 + 1)) a2)
end
def y43 : LSh := ⟨[(2, (.d .bool))], [], 0, 128⟩
noncomputable def zdf : FI dat := FI.of dat 66 128 0 [(.d (.st 5))] [] [(.d .bool)] [] true y43 (R := Bool) (fun x => x.1) (fun r => (r, ())) (fun n x => z9k n x.1)
 (fun n => [(0, ⟨⟨[(1, (.ptr 0 0)), (28, (.d .bool))], [(.st 5)], 0, 128⟩, fun x => z0g n x.1 x.2.1⟩), (1, ⟨⟨[(1, (.ptr 0 0)), (36, (.d .bool))], [(.st 5)], 0, 128⟩, fun x => z2z n x.1 x.2.1⟩), (2, ⟨⟨[(1, (.ptr 0 0))], [(.st 5)], 0, 128⟩, fun x => z2w n x.1⟩), (3, ⟨⟨[(1, (.ptr 0 0)), (50, (.d .bool))], [(.st 5)], 0, 128⟩, fun x => z5q n x.1 x.2.1⟩), (4, ⟨⟨[(1, (.ptr 0 0)), (76, (.d .bool))], [(.st 5)], 0, 128⟩, fun x => zzu n x.1 x.2.1⟩), (5, ⟨⟨[(1, (.ptr 0 0))], [(.st 5)], 0, 128⟩, fun x => z34 n x.1⟩), (6, ⟨⟨[(3, (.d (.int .i64))), (1, (.ptr 0 0))], [(.st 5)], 0, 128⟩, fun x => z1g n x.1 x.2.1⟩), (7, ⟨⟨[(1, (.ptr 0 0)), (3, (.d (.int .i64))), (127, (.d .bool))], [(.st 5)], 0, 128⟩, fun x => kzy n x.1 x.2.1 x.2.2.1⟩)]) (ann [(5, 0), (13, 1), (28, 2), (31, 3), (34, 4), (46, 5), (58, 6), (71, 7)] (Tryz.f66.body.getD .skip) 0).1
noncomputable def y4f : List (FI dat) := [z8l, z6l, zdr, zbr]
theorem y5q : (zdf).Good Tryz.prog dat (tb y4f) := FI.zz4 (hD := yz2 _) Tryz.func66 Tryz.ntmps66 Tryz.call66 (by kernel_rfl) (of_decide_eq_true (by kernel_rfl)) (by kernel_rfl) (fun n => by kernel_rfl) (fun x => by kernel_rfl) (fun _ => rfl) ⟨fun _ => rfl, fun _ => rfl, fun _ => rfl, fun _ => rfl, fun _ => rfl, fun _ => rfl, fun _ => rfl, fun _ => rfl, trivial⟩
 (fun n => fun x => (z9k.eq_2 x.1 n).trans (by kernel_rfl))
 (fun n => ⟨fun x => (z0g.eq_2 x.1 x.2.1 n).trans (by kernel_rfl),
  fun x => (z2z.eq_2 x.1 x.2.1 n).trans (by kernel_rfl),
  fun x => (z2w.eq_2 x.1 n).trans (by kernel_rfl),
  fun x => (z5q.eq_2 x.1 x.2.1 n).trans (by kernel_rfl),
  fun x => (zzu.eq_2 x.1 x.2.1 n).trans (by kernel_rfl),
  fun x => (z34.eq_2 x.1 n).trans (by kernel_rfl),
  fun x => (z1g.eq_2 x.1 x.2.1 n).trans (by kernel_rfl),
  fun x => (kzy.eq_2 x.1 x.2.1 x.2.2.1 n).trans (by kernel_rfl),
  trivial⟩)
 (fun x => .inl rfl)
theorem y78 : OkL Tryz.prog [zdf] := yz7 (yz2 _) (bs := [z8l, z6l, zdr, zbr]) ⟨znk, zlm, zwk, ztq, trivial⟩ y5q
theorem y29 : FOk Tryz.prog zdf := y78.1
mutual
def z9p : Nat → yz0 → Option Bool
 | 0, _ => none
 | n + 1, a0 =>
   z1f n 0 a0
def z1f : Nat → Int → yz0 → Option Bool
 | 0, _, _ => none
 | n + 1, a0, a1 =>
   pIf (decide (a0 < (a1.attrs.length : Int)))
     ((ix a1.attrs a0).bind fun x0 =>
     (z3j n x0.name).bind fun y1 =>
     pIf (!y1)
       (z2r n a0 true a1)
       ((ix a1.attrs a0).bind fun x2 =>
       (z1e n x2.value.re).bind fun y3 =>
       z2r n a0 (y3 != 0) a1))
     (z1a n 0 a1)
def z2r : Nat → Int → Bool → yz0 → Option Bool
 | 0, _, _, _ => none
 | n + 1, a0, a1, a2 =>
   pIf a1
     (some false)
     (z1f n (IntKind.i64.wrap (a0 + 1)) a2)
def z1a : Nat → Int → yz0 → Option Bool
 | 0, _, _ => none
 | n + 1, a0, a1 =>
   pIf (decide (a0 < (a1.rules.length : Int)))
     ((ix a1.rules a0).bind fun x4 =>
     (z3j n x4.name).bind fun y5 =>
     pIf (!y5)
       (some false)
       (z1c n 0 a0 x4 a1))
     (some true)
def z1c : Nat → Int → Int → kz4 → yz0 → Option Bool
 | 0, _, _, _, _ => none
 | n + 1, a0, a1, a2, a3 =>
   pIf (decide (a0 < (a2.params.length : Int)))
     ((ix a2.params a0).bind fun x6 =>
     (z3j n x6).bind fun y7 =>
     pIf (!y7)
       (some false)
       (z1c n (IntKind.i64.wrap (a0 + 1)) a1 a2 a3))
     (z1b n 0 a1 a2 a3)
def z1b : Nat → Int → Int → kz4 → yz0 → Option Bool
 | 0, _, _, _, _ => none
 | n + 1, a0, a1, a2, a3 =>
   pIf (decide (a0 < (a2.cases.length : Int)))
     ((ix a2.cases a0).bind fun x8 =>
     pIf (decide (x8.weight < 1))
       (z19 n a1 a0 true x8.re a2 a3)
       (pIf (decide (x8.weight > 1000000))
         (z19 n a1 a0 true x8.re a2 a3)
         ((z1e n x8.when_.re).bind fun y9 =>
         z19 n a1 a0 (y9 != 0) x8.re a2 a3)))
     (z1a n (IntKind.i64.wrap (a1 + 1)) a3)
def z19 : Nat → Int → Int → Bool → zz5 → kz4 → yz0 → Option Bool
 | 0, _, _, _, _, _, _ => none
 | n + 1, a0, a1, a2, a3, a4, a5 =>
   pIf a2
     (some false)
     (z1n n 0 a0 a1 a3.re a4 a5)
def z1n : Nat → Int → Int → Int → zz5 → kz4 → yz0 → Option Bool
 | 0, _, _, _, _, _, _ => none
 | n + 1, a0, a1, a2, a3, a4, a5 =>
   pIf (decide (a0 < (a3.do_.length : Int)))
     ((ix a3.do_ a0).bind fun x10 =>
     (z9k n x10).bind fun y11 =>
     pIf (!y11)
       (some false)
       (z1n n (IntKind.i64.wrap (a0 + 1)) a1 a2 a3.re a4 a5))
     (z1b n (IntKind.i64.wrap (a2 + 1)) a1 a4 a5)
end
def y44 : LSh := ⟨[(2, (.d .bool))], [], 0, 105⟩
noncomputable def zdb : FI dat := FI.of dat 32 105 0 [(.d (.st 8))] [] [(.d .bool)] [] true y44 (R := Bool) (fun x => x.1) (fun r => (r, ())) (fun n x => z9p n x.1)
 (fun n => [(0, ⟨⟨[(3, (.d (.int .i64))), (1, (.ptr 0 0))], [(.st 8)], 0, 105⟩, fun x => z1f n x.1 x.2.1⟩), (1, ⟨⟨[(1, (.ptr 0 0)), (3, (.d (.int .i64))), (34, (.d .bool))], [(.st 8)], 0, 105⟩, fun x => z2r n x.1 x.2.1 x.2.2.1⟩), (2, ⟨⟨[(4, (.d (.int .i64))), (1, (.ptr 0 0))], [(.st 8)], 0, 105⟩, fun x => z1a n x.1 x.2.1⟩), (3, ⟨⟨[(6, (.d (.int .i64))), (5, (.ptr 0 0)), (1, (.ptr 1 0)), (4, (.d (.int .i64)))], [(.st 7), (.st 8)], 0, 105⟩, fun x => z1c n x.1 x.2.1 x.2.2.1 x.2.2.2.1⟩), (4, ⟨⟨[(7, (.d (.int .i64))), (5, (.ptr 0 0)), (1, (.ptr 1 0)), (4, (.d (.int .i64)))], [(.st 7), (.st 8)], 0, 105⟩, fun x => z1b n x.1 x.2.1 x.2.2.1 x.2.2.2.1⟩), (5, ⟨⟨[(8, (.ptr 0 0)), (5, (.ptr 1 0)), (1, (.ptr 2 0)), (4, (.d (.int .i64))), (7, (.d (.int .i64))), (90, (.d .bool))], [(.st 6), (.st 7), (.st 8)], 0, 105⟩, fun x => z19 n x.1 x.2.1 x.2.2.1 x.2.2.2.1 x.2.2.2.2.1 x.2.2.2.2.2.1⟩), (6, ⟨⟨[(9, (.d (.int .i64))), (8, (.ptr 0 0)), (5, (.ptr 1 0)), (1, (.ptr 2 0)), (4, (.d (.int .i64))), (7, (.d (.int .i64)))], [(.st 6), (.st 7), (.st 8)], 0, 105⟩, fun x => z1n n x.1 x.2.1 x.2.2.1 x.2.2.2.1 x.2.2.2.2.1 x.2.2.2.2.2.1⟩)]) (ann [(6, 0), (17, 1), (27, 2), (50, 3), (70, 4), (84, 5), (92, 6)] (Tryz.f32.body.getD .skip) 0).1
noncomputable def y66 : List (FI dat) := [zbr, z6l, zdf]
theorem y3y : (zdb).Good Tryz.prog dat (tb y66) := FI.zz4 (hD := yz2 _) Tryz.func32 Tryz.ntmps32 Tryz.call32 (by kernel_rfl) (of_decide_eq_true (by kernel_rfl)) (by kernel_rfl) (fun n => by kernel_rfl) (fun x => by kernel_rfl) (fun _ => rfl) ⟨fun _ => rfl, fun _ => rfl, fun _ => rfl, fun _ => rfl, fun _ => rfl, fun _ => rfl, fun _ => rfl, trivial⟩
 (fun n => fun x => (z9p.eq_2 x.1 n).trans (by kernel_rfl))
 (fun n => ⟨fun x => (z1f.eq_2 x.1 x.2.1 n).trans (by kernel_rfl),
  fun x => (z2r.eq_2 x.1 x.2.1 x.2.2.1 n).trans (by kernel_rfl),
  fun x => (z1a.eq_2 x.1 x.2.1 n).trans (by kernel_rfl),
  fun x => (z1c.eq_2 x.1 x.2.1 x.2.2.1 x.2.2.2.1 n).trans (by kernel_rfl),
  fun x => (z1b.eq_2 x.1 x.2.1 x.2.2.1 x.2.2.2.1 n).trans (by kernel_rfl),
  fun x => (z19.eq_2 x.1 x.2.1 x.2.2.1 x.2.2.2.1 x.2.2.2.2.1 x.2.2.2.2.2.1 n).trans (by kernel_rfl),
  fun x => (z1n.eq_2 x.1 x.2.1 x.2.2.1 x.2.2.2.1 x.2.2.2.2.1 x.2.2.2.2.2.1 n).trans (by kernel_rfl),
  trivial⟩)
 (fun x => .inl rfl)
theorem y3n : OkL Tryz.prog [zdb] := yz7 (yz2 _) (bs := [zbr, z6l, zdf]) ⟨ztq, zlm, y29, trivial⟩ y3y
theorem y1t : FOk Tryz.prog zdb := y3n.1
mutual
def z71 : Nat → yz0 → Option (List (List UInt8))
 | 0, _ => none
 | n + 1, a0 =>
   z3t n 0 a0 []
def z3t : Nat → Int → yz0 → (List (List UInt8)) → Option (List (List UInt8))
 | 0, _, _, _ => none
 | n + 1, a0, a1, a2 =>
   pIf (decide (a0 < (a1.attrs.length : Int)))
     ((ix a1.attrs a0).bind fun x0 =>
     (ext a2 [x0.name]).bind fun x1 =>
     z3t n (IntKind.i64.wrap (a0 + 1)) a1 x1)
     (some a2)
end
def ycd : LSh := ⟨[(2, (.d (.sl .str)))], [], 0, 22⟩
noncomputable def za8 : FI dat := FI.of dat 68 22 0 [(.d (.st 8))] [] [(.d (.sl .str))] [] true ycd (R := List (List UInt8)) (fun x => x.1) (fun r => (r, ())) (fun n x => z71 n x.1)
 (fun n => [(0, ⟨⟨[(4, (.d (.int .i64))), (1, (.ptr 0 0)), (3, (.own 1))], [(.st 8), (.acc 9 .str true)], 0, 22⟩, fun x => z3t n x.1 x.2.1 x.2.2.1⟩)]) (ann [(8, 0)] (Tryz.f68.body.getD .skip) 0).1
noncomputable def y9d : List (FI dat) := []
theorem yay : (za8).Good Tryz.prog dat (tb y9d) := FI.zz4 (hD := yz2 _) Tryz.func68 Tryz.ntmps68 Tryz.call68 (by kernel_rfl) (of_decide_eq_true (by kernel_rfl)) (by kernel_rfl) (fun n => by kernel_rfl) (fun x => by kernel_rfl) (fun _ => rfl) ⟨fun _ => rfl, trivial⟩
 (fun n => fun x => (z71.eq_2 x.1 n).trans (by kernel_rfl))
 (fun n => ⟨fun x => (z3t.eq_2 x.1 x.2.1 x.2.2.1 n).trans (by kernel_rfl),
  trivial⟩)
 (fun x => .inl rfl)
theorem y9p : OkL Tryz.prog [za8] := yz7 (yz2 _) (bs := []) trivial yay
theorem zrp : FOk Tryz.prog za8 := y9p.1
mutual
def z6s : Nat → (List (List UInt8)) → (List UInt8) → Option Int
 | 0, _, _ => none
 | n + 1, a0, a1 =>
   zas n 0 a1 a0
def zas : Nat → Int → (List UInt8) → (List (List UInt8)) → Option Int
 | 0, _, _, _ => none
 | n + 1, a0, a1, a2 =>
   pIf (decide (a0 < (a2.length : Int)))
     ((ix a2 a0).bind fun x0 =>
     pIf (x0 == a1)
       (some a0)
       (zas n (IntKind.i64.wrap (a0 + 1)) a1 a2))
     (some (-1))
end
def yo7 : LSh := ⟨[(4, (.d (.int .i64)))], [], 0, 19⟩
noncomputable def z2o : FI dat := FI.of dat 20 19 0 [(.d (.sl .str)), (.d .str)] [] [(.d (.int .i64))] [] true yo7 (R := Int) (fun x => x.1) (fun r => (r, ())) (fun n x => z6s n x.1 x.2.1)
 (fun n => [(0, ⟨⟨[(5, (.d (.int .i64))), (1, (.d .str)), (0, (.d (.sl .str)))], [], 0, 19⟩, fun x => zas n x.1 x.2.1 x.2.2.1⟩)]) (ann [(6, 0)] (Tryz.f20.body.getD .skip) 0).1
noncomputable def ynq : List (FI dat) := []
theorem yn3 : (z2o).Good Tryz.prog dat (tb ynq) := FI.zz4 (hD := yz2 _) Tryz.func20 Tryz.ntmps20 Tryz.call20 (by kernel_rfl) (of_decide_eq_true (by kernel_rfl)) (by kernel_rfl) (fun n => by kernel_rfl) (fun x => by kernel_rfl) (fun _ => rfl) ⟨fun _ => rfl, trivial⟩
 (fun n => fun x => (z6s.eq_2 x.1 x.2.1 n).trans (by kernel_rfl))
 (fun n => ⟨fun x => (zas.eq_2 x.1 x.2.1 x.2.2.1 n).trans (by kernel_rfl),
  trivial⟩)
 (fun x => .inl rfl)
theorem ynl : OkL Tryz.prog [z2o] := yz7 (yz2 _) (bs := []) trivial yn3
theorem zgc : FOk Tryz.prog z2o := ynl.1
mutual
def z8z : Nat → (List (List UInt8)) → Option Bool
 | 0, _ => none
 | n + 1, a0 =>
   z52 n 0 a0
def z52 : Nat → Int → (List (List UInt8)) → Option Bool
 | 0, _, _ => none
 | n + 1, a0, a1 =>
   pIf (decide (a0 < (a1.length : Int)))
     ((ix a1 a0).bind fun x0 =>
     (z6s n a1 x0).bind fun y1 =>
     pIf (decide (y1 < a0))
       (some true)
       (z52 n (IntKind.i64.wrap (a0 + 1)) a1))
     (some false)
end
def ycn : LSh := ⟨[(2, (.d .bool))], [], 0, 18⟩
noncomputable def zf9 : FI dat := FI.of dat 67 18 0 [(.d (.sl .str))] [] [(.d .bool)] [] true ycn (R := Bool) (fun x => x.1) (fun r => (r, ())) (fun n x => z8z n x.1)
 (fun n => [(0, ⟨⟨[(3, (.d (.int .i64))), (0, (.d (.sl .str)))], [], 0, 18⟩, fun x => z52 n x.1 x.2.1⟩)]) (ann [(6, 0)] (Tryz.f67.body.getD .skip) 0).1
noncomputable def yb9 : List (FI dat) := [z2o]
theorem y8u : (zf9).Good Tryz.prog dat (tb yb9) := FI.zz4 (hD := yz2 _) Tryz.func67 Tryz.ntmps67 Tryz.call67 (by kernel_rfl) (of_decide_eq_true (by kernel_rfl)) (by kernel_rfl) (fun n => by kernel_rfl) (fun x => by kernel_rfl) (fun _ => rfl) ⟨fun _ => rfl, trivial⟩
 (fun n => fun x => (z8z.eq_2 x.1 n).trans (by kernel_rfl))
 (fun n => ⟨fun x => (z52.eq_2 x.1 x.2.1 n).trans (by kernel_rfl),
  trivial⟩)
 (fun x => .inl rfl)
theorem y90 : OkL Tryz.prog [zf9] := yz7 (yz2 _) (bs := [z2o]) ⟨zgc, trivial⟩ y8u
theorem y74 : FOk Tryz.prog zf9 := y90.1
end Go.Proofs.YtflgdagdibabiaaGreat


namespace Go.Proofs.YtflgdagdibabiaaGreat
open Go Go.Ab
set_option linter.unusedVariables false
set_option maxRecDepth 100000
set_option maxHeartbeats 4000000
mutual
def z2h : Nat → yz0 → Option (List (List UInt8))
 | 0, _ => none
 | n + 1, a0 =>
   z3r n 0 a0 []
def z3r : Nat → Int → yz0 → (List (List UInt8)) → Option (List (List UInt8))
 | 0, _, _, _ => none
 | n + 1, a0, a1, a2 =>
   pIf (decide (a0 < (a1.rules.length : Int)))
     ((ix a1.rules a0).bind fun x0 =>
     (ext a2 [x0.name]).bind fun x1 =>
     z3r n (IntKind.i64.wrap (a0 + 1)) a1 x1)
     (some a2)
end
def y9v : LSh := ⟨[(2, (.d (.sl .str)))], [], 0, 22⟩
noncomputable def z0r : FI dat := FI.of dat 21 22 0 [(.d (.st 8))] [] [(.d (.sl .str))] [] true y9v (R := List (List UInt8)) (fun x => x.1) (fun r => (r, ())) (fun n x => z2h n x.1)
 (fun n => [(0, ⟨⟨[(4, (.d (.int .i64))), (1, (.ptr 0 0)), (3, (.own 1))], [(.st 8), (.acc 9 .str true)], 0, 22⟩, fun x => z3r n x.1 x.2.1 x.2.2.1⟩)]) (ann [(8, 0)] (Tryz.f21.body.getD .skip) 0).1
noncomputable def ybv : List (FI dat) := []
theorem y9u : (z0r).Good Tryz.prog dat (tb ybv) := FI.zz4 (hD := yz2 _) Tryz.func21 Tryz.ntmps21 Tryz.call21 (by kernel_rfl) (of_decide_eq_true (by kernel_rfl)) (by kernel_rfl) (fun n => by kernel_rfl) (fun x => by kernel_rfl) (fun _ => rfl) ⟨fun _ => rfl, trivial⟩
 (fun n => fun x => (z2h.eq_2 x.1 n).trans (by kernel_rfl))
 (fun n => ⟨fun x => (z3r.eq_2 x.1 x.2.1 x.2.2.1 n).trans (by kernel_rfl),
  trivial⟩)
 (fun x => .inl rfl)
theorem ya5 : OkL Tryz.prog [z0r] := yz7 (yz2 _) (bs := []) trivial y9u
theorem zdm : FOk Tryz.prog z0r := ya5.1
mutual
def z2g : Nat → (List UInt8) → (List (List UInt8)) → Option (Int × (List (List UInt8)))
 | 0, _, _ => none
 | n + 1, a0, a1 =>
   kzt n 0 a0 a1
def kzt : Nat → Int → (List UInt8) → (List (List UInt8)) → Option (Int × (List (List UInt8)))
 | 0, _, _, _ => none
 | n + 1, a0, a1, a2 =>
   pIf (decide (a0 < (a2.length : Int)))
     ((ix a2 a0).bind fun x0 =>
     pIf (x0 == a1)
       (some (a0, a2))
       (kzt n (IntKind.i64.wrap (a0 + 1)) a1 a2))
     (some ((-1), a2))
end
def yb0 : LSh := ⟨[(4, (.d (.int .i64)))], [(.acc 9 .str true)], 1, 19⟩
noncomputable def za3 : FI dat := FI.of dat 20 19 1 [(.own 0), (.d .str)] [(.acc 9 .str true)] [(.d (.int .i64))] [(.acc 9 .str true)] false yb0 (R := Int × (List (List UInt8))) (fun x => (x.1, x.2.1)) (fun r => (r.1, r.2, ())) (fun n x => z2g n x.1 x.2.1)
 (fun n => [(0, ⟨⟨[(5, (.d (.int .i64))), (1, (.d .str)), (0, (.own 0))], [(.acc 9 .str true)], 1, 19⟩, fun x => kzt n x.1 x.2.1 x.2.2.1⟩)]) (ann [(6, 0)] (Tryz.f20.body.getD .skip) 0).1
noncomputable def y87 : List (FI dat) := []
theorem ya6 : (za3).Good Tryz.prog dat (tb y87) := FI.zz4 (hD := yz2 _) Tryz.func20 Tryz.ntmps20 Tryz.call20 (by kernel_rfl) (of_decide_eq_true (by kernel_rfl)) (by kernel_rfl) (fun n => by kernel_rfl) (fun x => by kernel_rfl) (fun _ => rfl) ⟨fun _ => rfl, trivial⟩
 (fun n => fun x => (z2g.eq_2 x.1 x.2.1 n).trans (by kernel_rfl))
 (fun n => ⟨fun x => (kzt.eq_2 x.1 x.2.1 x.2.2.1 n).trans (by kernel_rfl),
  trivial⟩)
 (fun x => .inr (by kernel_rfl))
theorem y91 : OkL Tryz.prog [za3] := yz7 (yz2 _) (bs := []) trivial ya6
theorem zre : FOk Tryz.prog za3 := y91.1
mutual
def z7e : Nat → (List (List UInt8)) → Option (Bool × (List (List UInt8)))
 | 0, _ => none
 | n + 1, a0 =>
   z1h n 0 a0
def z1h : Nat → Int → (List (List UInt8)) → Option (Bool × (List (List UInt8)))
 | 0, _, _ => none
 | n + 1, a0, a1 =>
   pIf (decide (a0 < (a1.length : Int)))
     ((ix a1 a0).bind fun x0 =>
     (z2g n x0 a1).bind fun y1 =>
     pIf (decide (y1.1 < a0))
       (some (true, y1.2))
       (z1h n (IntKind.i64.wrap (a0 + 1)) y1.2))
     (some (false, a1))
end
def zy3 : LSh := ⟨[(2, (.d .bool))], [(.acc 9 .str true)], 1, 18⟩
noncomputable def zb5 : FI dat := FI.of dat 67 18 1 [(.own 0)] [(.acc 9 .str true)] [(.d .bool)] [(.acc 9 .str true)] false zy3 (R := Bool × (List (List UInt8))) (fun x => (x.1, x.2.1)) (fun r => (r.1, r.2, ())) (fun n x => z7e n x.1)
 (fun n => [(0, ⟨⟨[(3, (.d (.int .i64))), (0, (.own 0))], [(.acc 9 .str true)], 1, 18⟩, fun x => z1h n x.1 x.2.1⟩)]) (ann [(6, 0)] (Tryz.f67.body.getD .skip) 0).1
noncomputable def zyn : List (FI dat) := [za3]
theorem zyw : (zb5).Good Tryz.prog dat (tb zyn) := FI.zz4 (hD := yz2 _) Tryz.func67 Tryz.ntmps67 Tryz.call67 (by kernel_rfl) (of_decide_eq_true (by kernel_rfl)) (by kernel_rfl) (fun n => by kernel_rfl) (fun x => by kernel_rfl) (fun _ => rfl) ⟨fun _ => rfl, trivial⟩
 (fun n => fun x => (z7e.eq_2 x.1 n).trans (by kernel_rfl))
 (fun n => ⟨fun x => (z1h.eq_2 x.1 x.2.1 n).trans (by kernel_rfl),
  trivial⟩)
 (fun x => .inr (by kernel_rfl))
theorem zxt : OkL Tryz.prog [zb5] := yz7 (yz2 _) (bs := [za3]) ⟨zre, trivial⟩ zyw
theorem zwu : FOk Tryz.prog zb5 := zxt.1
mutual
def z8v : Nat → yz0 → Option Bool
 | 0, _ => none
 | n + 1, a0 =>
   (z71 n a0).bind fun y0 =>
   (z8z n y0).bind fun y1 =>
   pIf y1
     (z1v n true a0)
     ((z2h n a0).bind fun y2 =>
     (z8z n y2).bind fun y3 =>
     z1v n y3 a0)
def z1v : Nat → Bool → yz0 → Option Bool
 | 0, _, _ => none
 | n + 1, a0, a1 =>
   pIf a0
     (some true)
     (z0w n 0 a1)
def z0w : Nat → Int → yz0 → Option Bool
 | 0, _, _ => none
 | n + 1, a0, a1 =>
   pIf (decide (a0 < (a1.rules.length : Int)))
     ((ix a1.rules a0).bind fun x4 =>
     (ext [] x4.params).bind fun x5 =>
     (z71 n a1).bind fun y6 =>
     (ext x5 y6).bind fun x7 =>
     (z7e n x7).bind fun y8 =>
     pIf y8.1
       (some true)
       (z0w n (IntKind.i64.wrap (a0 + 1)) a1))
     (some false)
end
def y1a : LSh := ⟨[(2, (.d .bool))], [], 0, 31⟩
noncomputable def zc4 : FI dat := FI.of dat 33 31 0 [(.d (.st 8))] [] [(.d .bool)] [] true y1a (R := Bool) (fun x => x.1) (fun r => (r, ())) (fun n x => z8v n x.1)
 (fun n => [(0, ⟨⟨[(1, (.ptr 0 0)), (11, (.d .bool))], [(.st 8)], 0, 31⟩, fun x => z1v n x.1 x.2.1⟩), (1, ⟨⟨[(3, (.d (.int .i64))), (1, (.ptr 0 0))], [(.st 8)], 0, 31⟩, fun x => z0w n x.1 x.2.1⟩)]) (ann [(5, 0), (14, 1)] (Tryz.f33.body.getD .skip) 0).1
noncomputable def y25 : List (FI dat) := [zb5, za8, zf9, z0r]
theorem y1z : (zc4).Good Tryz.prog dat (tb y25) := FI.zz4 (hD := yz2 _) Tryz.func33 Tryz.ntmps33 Tryz.call33 (by kernel_rfl) (of_decide_eq_true (by kernel_rfl)) (by kernel_rfl) (fun n => by kernel_rfl) (fun x => by kernel_rfl) (fun _ => rfl) ⟨fun _ => rfl, fun _ => rfl, trivial⟩
 (fun n => fun x => (z8v.eq_2 x.1 n).trans (by kernel_rfl))
 (fun n => ⟨fun x => (z1v.eq_2 x.1 x.2.1 n).trans (by kernel_rfl),
  fun x => (z0w.eq_2 x.1 x.2.1 n).trans (by kernel_rfl),
  trivial⟩)
 (fun x => .inl rfl)
theorem y1m : OkL Tryz.prog [zc4] := yz7 (yz2 _) (bs := [zb5, za8, zf9, z0r]) ⟨zwu, zrp, y74, zdm, trivial⟩ y1z
theorem zxn : FOk Tryz.prog zc4 := y1m.1
mutual
def zad : Nat → zz1 → (List (List UInt8)) → Option (List (List UInt8))
 | 0, _, _ => none
 | n + 1, a0, a1 =>
   pIf (a0.op == 2)
     (z3e n 0 a0.re a1)
     (z39 n a1 a0.re)
def z3e : Nat → Int → zz1 → (List (List UInt8)) → Option (List (List UInt8))
 | 0, _, _, _ => none
 | n + 1, a0, a1, a2 =>
   pIf (decide (a0 < (a2.length : Int)))
     ((ix a2 a0).bind fun x0 =>
     z62 n a0 (Op.bytesLess x0 a1.name) a1.re a2)
     (z62 n a0 false a1.re a2)
def z62 : Nat → Int → Bool → zz1 → (List (List UInt8)) → Option (List (List UInt8))
 | 0, _, _, _, _ => none
 | n + 1, a0, a1, a2, a3 =>
   pIf a1
     (z3e n (IntKind.i64.wrap (a0 + 1)) a2.re a3)
     (pIf (a0 == (a3.length : Int))
       (z66 n a0 true a2.re a3)
       ((ix a3 a0).bind fun x1 =>
       z66 n a0 (!(x1 == a2.name)) a2.re a3))
def z66 : Nat → Int → Bool → zz1 → (List (List UInt8)) → Option (List (List UInt8))
 | 0, _, _, _, _ => none
 | n + 1, a0, a1, a2, a3 =>
   pIf a1
     ((ext a3 [[]]).bind fun x4 =>
     (zwt x4 (IntKind.i64.wrap (a0 + 1))).bind fun x5 =>
     (zwt x4 a0).bind fun x6 =>
     (zrb x4 (IntKind.i64.wrap (a0 + 1)) a0).bind fun x7 =>
     (ix x7 a0).bind fun x8 =>
     z39 n (x7.set (Int.toNat a0) a2.name) a2.re)
     (z39 n a3 a2.re)
def z39 : Nat → (List (List UInt8)) → zz1 → Option (List (List UInt8))
 | 0, _, _ => none
 | n + 1, a0, a1 =>
   z5m n 0 a0 a1.re
def z5m : Nat → Int → (List (List UInt8)) → zz1 → Option (List (List UInt8))
 | 0, _, _, _ => none
 | n + 1, a0, a1, a2 =>
   pIf (decide (a0 < (a2.args.length : Int)))
     ((ix a2.args a0).bind fun x2 =>
     (zad n x2.re a1).bind fun y3 =>
     z5m n (IntKind.i64.wrap (a0 + 1)) y3 a2.re)
     (some a1)
end
def ye2 : LSh := ⟨[(4, (.own 0))], [(.acc 9 .str true)], 0, 69⟩
noncomputable def ze3 : FI dat := FI.of dat 123 69 0 [(.d (.st 2)), (.own 0)] [(.acc 9 .str true)] [(.own 0)] [(.acc 9 .str true)] false ye2 (R := List (List UInt8)) (fun x => x.1) (fun r => (r, ())) (fun n x => zad n x.1 x.2.1)
 (fun n => [(0, ⟨⟨[(5, (.d (.int .i64))), (2, (.ptr 0 0)), (1, (.own 1))], [(.st 2), (.acc 9 .str true)], 0, 69⟩, fun x => z3e n x.1 x.2.1 x.2.2.1⟩), (1, ⟨⟨[(2, (.ptr 0 0)), (1, (.own 1)), (5, (.d (.int .i64))), (22, (.d .bool))], [(.st 2), (.acc 9 .str true)], 0, 69⟩, fun x => z62 n x.1 x.2.1 x.2.2.1 x.2.2.2.1⟩), (2, ⟨⟨[(2, (.ptr 0 0)), (5, (.d (.int .i64))), (1, (.own 1)), (37, (.d .bool))], [(.st 2), (.acc 9 .str true)], 0, 69⟩, fun x => z66 n x.1 x.2.1 x.2.2.1 x.2.2.2.1⟩), (3, ⟨⟨[(1, (.own 0)), (2, (.ptr 1 0))], [(.acc 9 .str true), (.st 2)], 0, 69⟩, fun x => z39 n x.1 x.2.1⟩), (4, ⟨⟨[(6, (.d (.int .i64))), (1, (.own 0)), (2, (.ptr 1 0))], [(.acc 9 .str true), (.st 2)], 0, 69⟩, fun x => z5m n x.1 x.2.1 x.2.2.1⟩)]) (ann [(10, 0), (14, 1), (21, 2), (29, 3), (33, 4)] (Tryz.f123.body.getD .skip) 0).1
noncomputable def yfv : List (FI dat) := [ze3] ++ []
theorem yh9 : (ze3).Good Tryz.prog dat (tb yfv) := FI.zz4 (hD := yz2 _) Tryz.func123 Tryz.ntmps123 Tryz.call123 (by kernel_rfl) (of_decide_eq_true (by kernel_rfl)) (by kernel_rfl) (fun n => by kernel_rfl) (fun x => by kernel_rfl) (fun _ => rfl) ⟨fun _ => rfl, fun _ => rfl, fun _ => rfl, fun _ => rfl, fun _ => rfl, trivial⟩
 (fun n => fun x => (zad.eq_2 x.1 x.2.1 n).trans (by kernel_rfl))
 (fun n => ⟨fun x => (z3e.eq_2 x.1 x.2.1 x.2.2.1 n).trans (by kernel_rfl),
  fun x => (z62.eq_2 x.1 x.2.1 x.2.2.1 x.2.2.2.1 n).trans (by kernel_rfl),
  fun x => (z66.eq_2 x.1 x.2.1 x.2.2.1 x.2.2.2.1 n).trans (by kernel_rfl),
  fun x => (z39.eq_2 x.1 x.2.1 n).trans (by kernel_rfl),
  fun x => (z5m.eq_2 x.1 x.2.1 x.2.2.1 n).trans (by kernel_rfl),
  trivial⟩)
 (fun x => .inr (by kernel_rfl))
theorem ygv : OkL Tryz.prog [ze3] := z9e (yz2 _) (bs := []) trivial ⟨yh9, trivial⟩
theorem yap : FOk Tryz.prog ze3 := ygv.1
def zau : Nat → zz1 → Option ((List (List UInt8)) × Int)
 | 0, _ => none
 | n + 1, a0 =>
   (z1e n a0.re).bind fun y0 =>
   pIf (y0 != 0)
     ((z1e n a0.re).bind fun y1 =>
     some ([], y1))
     ((zad n a0.re []).bind fun y2 =>
     some (y2, 0))
def y9g : LSh := ⟨[(2, (.d (.sl .str))), (3, (.d (.int .i64)))], [], 0, 11⟩
noncomputable def zf1 : FI dat := FI.of dat 101 11 0 [(.d (.st 2))] [] [(.d (.sl .str)), (.d (.int .i64))] [] true y9g (R := (List (List UInt8)) × Int) (fun x => (x.1, x.2.1)) (fun r => (r.1, r.2, ())) (fun n x => zau n x.1)
 (fun n => []) (ann [] (Tryz.f101.body.getD .skip) 0).1
noncomputable def ybk : List (FI dat) := [ze3, z6l]
theorem ya3 : (zf1).Good Tryz.prog dat (tb ybk) := FI.zz4 (hD := yz2 _) Tryz.func101 Tryz.ntmps101 Tryz.call101 (by kernel_rfl) (of_decide_eq_true (by kernel_rfl)) (by kernel_rfl) (fun n => by kernel_rfl) (fun x => by kernel_rfl) (fun _ => rfl) trivial
 (fun n => fun x => (zau.eq_2 x.1 n).trans (by kernel_rfl))
 (fun n => trivial)
 (fun x => .inl rfl)
theorem ybb : OkL Tryz.prog [zf1] := yz7 (yz2 _) (bs := [ze3, z6l]) ⟨yap, zlm, trivial⟩ ya3
theorem y6a : FOk Tryz.prog zf1 := ybb.1
mutual
def z83 : Nat → zz1 → (List (List UInt8)) → Option Bool
 | 0, _, _ => none
 | n + 1, a0, a1 =>
   (zau n a0.re).bind fun y0 =>
   z2p n 0 y0.1 a1
def z2p : Nat → Int → (List (List UInt8)) → (List (List UInt8)) → Option Bool
 | 0, _, _, _ => none
 | n + 1, a0, a1, a2 =>
   pIf (decide (a0 < (a1.length : Int)))
     ((ix a1 a0).bind fun x1 =>
     (z6s n a2 x1).bind fun y2 =>
     pIf (decide (y2 < 0))
       (some false)
       (z2p n (IntKind.i64.wrap (a0 + 1)) a1 a2))
     (some true)
end
def y7d : LSh := ⟨[(4, (.d .bool))], [], 0, 26⟩
noncomputable def zd6 : FI dat := FI.of dat 69 26 0 [(.d (.st 2)), (.d (.sl .str))] [] [(.d .bool)] [] true y7d (R := Bool) (fun x => x.1) (fun r => (r, ())) (fun n x => z83 n x.1 x.2.1)
 (fun n => [(0, ⟨⟨[(7, (.d (.int .i64))), (5, (.d (.sl .str))), (1, (.d (.sl .str)))], [], 0, 26⟩, fun x => z2p n x.1 x.2.1 x.2.2.1⟩)]) (ann [(8, 0)] (Tryz.f69.body.getD .skip) 0).1
noncomputable def y5d : List (FI dat) := [zf1, z2o]
theorem y3b : (zd6).Good Tryz.prog dat (tb y5d) := FI.zz4 (hD := yz2 _) Tryz.func69 Tryz.ntmps69 Tryz.call69 (by kernel_rfl) (of_decide_eq_true (by kernel_rfl)) (by kernel_rfl) (fun n => by kernel_rfl) (fun x => by kernel_rfl) (fun _ => rfl) ⟨fun _ => rfl, trivial⟩
 (fun n => fun x => (z83.eq_2 x.1 x.2.1 n).trans (by kernel_rfl))
 (fun n => ⟨fun x => (z2p.eq_2 x.1 x.2.1 x.2.2.1 n).trans (by kernel_rfl),
  trivial⟩)
 (fun x => .inl rfl)
theorem y5m : OkL Tryz.prog [zd6] := yz7 (yz2 _) (bs := [zf1, z2o]) ⟨y6a, zgc, trivial⟩ y3b
theorem y1y : FOk Tryz.prog zd6 := y5m.1
mutual
def zao : Nat → zz5 → Option (List zz1)
 | 0, _ => none
 | n + 1, a0 =>
   z3l n 0 a0.re [a0.when_.re]
def z3l : Nat → Int → zz5 → (List zz1) → Option (List zz1)
 | 0, _, _, _ => none
 | n + 1, a0, a1, a2 =>
   pIf (decide (a0 < (a1.do_.length : Int)))
     ((ix a1.do_ a0).bind fun x0 =>
     (ext a2 x0.args).bind fun x1 =>
     z4j n 0 a0 a1.re x1)
     (some a2)
def z4j : Nat → Int → Int → zz5 → (List zz1) → Option (List zz1)
 | 0, _, _, _, _ => none
 | n + 1, a0, a1, a2, a3 =>
   (ix a2.do_ a1).bind fun x2 =>
   pIf (decide (a0 < (x2.items.length : Int)))
     ((ix a2.do_ a1).bind fun x3 =>
     (ix x3.items a0).bind fun x4 =>
     (ext a3 x4.args).bind fun x5 =>
     z4j n (IntKind.i64.wrap (a0 + 1)) a1 a2.re x5)
     (z3l n (IntKind.i64.wrap (a1 + 1)) a2.re a3)
end
def yat : LSh := ⟨[(2, (.d (.sl (.st 2))))], [], 0, 48⟩
noncomputable def zey : FI dat := FI.of dat 70 48 0 [(.d (.st 6))] [] [(.d (.sl (.st 2)))] [] true yat (R := List zz1) (fun x => x.1) (fun r => (r, ())) (fun n x => zao n x.1)
 (fun n => [(0, ⟨⟨[(4, (.d (.int .i64))), (1, (.ptr 0 0)), (3, (.own 1))], [(.st 6), (.acc 46 (.st 2) true)], 0, 48⟩, fun x => z3l n x.1 x.2.1 x.2.2.1⟩), (1, ⟨⟨[(5, (.d (.int .i64))), (4, (.d (.int .i64))), (1, (.ptr 0 0)), (3, (.own 1))], [(.st 6), (.acc 46 (.st 2) true)], 0, 48⟩, fun x => z4j n x.1 x.2.1 x.2.2.1 x.2.2.2.1⟩)]) (ann [(8, 0), (22, 1)] (Tryz.f70.body.getD .skip) 0).1
noncomputable def y8s : List (FI dat) := []
theorem y8f : (zey).Good Tryz.prog dat (tb y8s) := FI.zz4 (hD := yz2 _) Tryz.func70 Tryz.ntmps70 Tryz.call70 (by kernel_rfl) (of_decide_eq_true (by kernel_rfl)) (by kernel_rfl) (fun n => by kernel_rfl) (fun x => by kernel_rfl) (fun _ => rfl) ⟨fun _ => rfl, fun _ => rfl, trivial⟩
 (fun n => fun x => (zao.eq_2 x.1 n).trans (by kernel_rfl))
 (fun n => ⟨fun x => (z3l.eq_2 x.1 x.2.1 x.2.2.1 n).trans (by kernel_rfl),
  fun x => (z4j.eq_2 x.1 x.2.1 x.2.2.1 x.2.2.2.1 n).trans (by kernel_rfl),
  trivial⟩)
 (fun x => .inl rfl)
theorem ybi : OkL Tryz.prog [zey] := yz7 (yz2 _) (bs := []) trivial y8f
theorem y4r : FOk Tryz.prog zey := ybi.1
mutual
def z6o : Nat → kz4 → Option (List yzy)
 | 0, _ => none
 | n + 1, a0 =>
   z5v n 0 [] a0
def z5v : Nat → Int → (List yzy) → kz4 → Option (List yzy)
 | 0, _, _, _ => none
 | n + 1, a0, a1, a2 =>
   pIf (decide (a0 < (a2.cases.length : Int)))
     (z3b n 0 a0 a1 a2)
     (some a1)
def z3b : Nat → Int → Int → (List yzy) → kz4 → Option (List yzy)
 | 0, _, _, _, _ => none
 | n + 1, a0, a1, a2, a3 =>
   (ix a3.cases a1).bind fun x0 =>
   pIf (decide (a0 < (x0.do_.length : Int)))
     ((ix a3.cases a1).bind fun x1 =>
     (ix x1.do_ a0).bind fun x2 =>
     pIf (x2.kind != 5)
       (z5n n a1 a0 (x2.kind != 6) x2 a3 a2)
       (z5n n a1 a0 false x2 a3 a2))
     (z5v n (IntKind.i64.wrap (a1 + 1)) a2 a3)
def z5n : Nat → Int → Int → Bool → zz3 → kz4 → (List yzy) → Option (List yzy)
 | 0, _, _, _, _, _, _ => none
 | n + 1, a0, a1, a2, a3, a4, a5 =>
   pIf a2
     ((zc1 n a3.kind).bind fun y3 =>
     (ext a5 [(yzy.mk a3.name (IntKind.i64.wrap ((a3.args.length : Int) - y3)))]).bind fun x4 =>
     z6d n a0 a1 a3 x4 a4)
     (z6d n a0 a1 a3 a5 a4)
def z6d : Nat → Int → Int → zz3 → (List yzy) → kz4 → Option (List yzy)
 | 0, _, _, _, _, _ => none
 | n + 1, a0, a1, a2, a3, a4 =>
   z5e n 0 a0 a1 a2 a3 a4
def z5e : Nat → Int → Int → Int → zz3 → (List yzy) → kz4 → Option (List yzy)
 | 0, _, _, _, _, _, _ => none
 | n + 1, a0, a1, a2, a3, a4, a5 =>
   pIf (decide (a0 < (a3.items.length : Int)))
     ((ix a3.items a0).bind fun x5 =>
     (ix a3.items a0).bind fun x6 =>
     (ext a4 [(yzy.mk x5.name (IntKind.i64.wrap ((x6.args.length : Int) - 1)))]).bind fun x7 =>
     z5e n (IntKind.i64.wrap (a0 + 1)) a1 a2 a3 x7 a5)
     (z3b n (IntKind.i64.wrap (a2 + 1)) a1 a4 a5)
end
def yh7 : LSh := ⟨[(2, (.d (.sl (.st 10))))], [], 0, 82⟩
noncomputable def z3v : FI dat := FI.of dat 22 82 0 [(.d (.st 7))] [] [(.d (.sl (.st 10)))] [] true yh7 (R := List yzy) (fun x => x.1) (fun r => (r, ())) (fun n x => z6o n x.1)
 (fun n => [(0, ⟨⟨[(3, (.own 0)), (4, (.d (.int .i64))), (1, (.ptr 1 0))], [(.acc 69 (.st 10) true), (.st 7)], 0, 82⟩, fun x => z5v n x.1 x.2.1 x.2.2.1⟩), (1, ⟨⟨[(5, (.d (.int .i64))), (3, (.own 0)), (4, (.d (.int .i64))), (1, (.ptr 1 0))], [(.acc 69 (.st 10) true), (.st 7)], 0, 82⟩, fun x => z3b n x.1 x.2.1 x.2.2.1 x.2.2.2.1⟩), (2, ⟨⟨[(6, (.ptr 0 0)), (4, (.d (.int .i64))), (1, (.ptr 1 0)), (5, (.d (.int .i64))), (3, (.own 2)), (42, (.d .bool))], [(.st 5), (.st 7), (.acc 69 (.st 10) true)], 0, 82⟩, fun x => z5n n x.1 x.2.1 x.2.2.1 x.2.2.2.1 x.2.2.2.2.1 x.2.2.2.2.2.1⟩), (3, ⟨⟨[(6, (.ptr 0 0)), (3, (.own 1)), (4, (.d (.int .i64))), (1, (.ptr 2 0)), (5, (.d (.int .i64)))], [(.st 5), (.acc 69 (.st 10) true), (.st 7)], 0, 82⟩, fun x => z6d n x.1 x.2.1 x.2.2.1 x.2.2.2.1 x.2.2.2.2.1⟩), (4, ⟨⟨[(7, (.d (.int .i64))), (6, (.ptr 0 0)), (3, (.own 1)), (4, (.d (.int .i64))), (1, (.ptr 2 0)), (5, (.d (.int .i64)))], [(.st 5), (.acc 69 (.st 10) true), (.st 7)], 0, 82⟩, fun x => z5e n x.1 x.2.1 x.2.2.1 x.2.2.2.1 x.2.2.2.2.1 x.2.2.2.2.2.1⟩)]) (ann [(8, 0), (20, 1), (34, 2), (37, 3), (40, 4)] (Tryz.f22.body.getD .skip) 0).1
noncomputable def yi1 : List (FI dat) := [zdr]
theorem yey : (z3v).Good Tryz.prog dat (tb yi1) := FI.zz4 (hD := yz2 _) Tryz.func22 Tryz.ntmps22 Tryz.call22 (by kernel_rfl) (of_decide_eq_true (by kernel_rfl)) (by kernel_rfl) (fun n => by kernel_rfl) (fun x => by kernel_rfl) (fun _ => rfl) ⟨fun _ => rfl, fun _ => rfl, fun _ => rfl, fun _ => rfl, fun _ => rfl, trivial⟩
 (fun n => fun x => (z6o.eq_2 x.1 n).trans (by kernel_rfl))
 (fun n => ⟨fun x => (z5v.eq_2 x.1 x.2.1 x.2.2.1 n).trans (by kernel_rfl),
  fun x => (z3b.eq_2 x.1 x.2.1 x.2.2.1 x.2.2.2.1 n).trans (by kernel_rfl),
  fun x => (z5n.eq_2 x.1 x.2.1 x.2.2.1 x.2.2.2.1 x.2.2.2.2.1 x.2.2.2.2.2.1 n).trans (by kernel_rfl),
  fun x => (z6d.eq_2 x.1 x.2.1 x.2.2.1 x.2.2.2.1 x.2.2.2.2.1 n).trans (by kernel_rfl),
  fun x => (z5e.eq_2 x.1 x.2.1 x.2.2.1 x.2.2.2.1 x.2.2.2.2.1 x.2.2.2.2.2.1 n).trans (by kernel_rfl),
  trivial⟩)
 (fun x => .inl rfl)
theorem yfx : OkL Tryz.prog [z3v] := yz7 (yz2 _) (bs := [zdr]) ⟨zwk, trivial⟩ yey
theorem zik : FOk Tryz.prog z3v := yfx.1
end Go.Proofs.YtflgdagdibabiaaGreat


namespace Go.Proofs.YtflgdagdibabiaaGreat
open Go Go.Ab
set_option linter.unusedVariables false
set_option maxRecDepth 100000
set_option maxHeartbeats 4000000
mutual
def zb9 : Nat → yz0 → Option Bool
 | 0, _ => none
 | n + 1, a0 =>
   (z71 n a0).bind fun y0 =>
   z4m n 0 y0 a0
def z4m : Nat → Int → (List (List UInt8)) → yz0 → Option Bool
 | 0, _, _, _ => none
 | n + 1, a0, a1, a2 =>
   pIf (decide (a0 < (a2.attrs.length : Int)))
     ((ix a2.attrs a0).bind fun x1 =>
     (sub a1 0 a0).bind fun x2 =>
     (z83 n x1.value.re x2).bind fun y3 =>
     pIf (!y3)
       (some false)
       (z4m n (IntKind.i64.wrap (a0 + 1)) a1 a2))
     (z29 n 0 a1 a2)
def z29 : Nat → Int → (List (List UInt8)) → yz0 → Option Bool
 | 0, _, _, _ => none
 | n + 1, a0, a1, a2 =>
   pIf (decide (a0 < (a2.rules.length : Int)))
     ((ix a2.rules a0).bind fun x4 =>
     (ext [[115, 120], [115, 121], [115, 122]] a1).bind fun x5 =>
     (ext x5 x4.params).bind fun x6 =>
     z2a n x6 0 a1 a0 x4 a2)
     (some true)
def z2a : Nat → (List (List UInt8)) → Int → (List (List UInt8)) → Int → kz4 → yz0 → Option Bool
 | 0, _, _, _, _, _, _ => none
 | n + 1, a0, a1, a2, a3, a4, a5 =>
   pIf (decide (a1 < (a4.cases.length : Int)))
     ((ix a4.cases a1).bind fun x7 =>
     (zao n x7.re).bind fun y8 =>
     z3y n 0 a0 y8 a2 a3 a1 a4 a5)
     ((z6o n a4).bind fun y9 =>
     z27 n 0 y9 a2 a3 a5)
def z3y : Nat → Int → (List (List UInt8)) → (List zz1) → (List (List UInt8)) → Int → Int → kz4 → yz0 → Option Bool
 | 0, _, _, _, _, _, _, _, _ => none
 | n + 1, a0, a1, a2, a3, a4, a5, a6, a7 =>
   pIf (decide (a0 < (a2.length : Int)))
     ((ix a2 a0).bind fun x10 =>
     (z83 n x10.re a1).bind fun y11 =>
     pIf (!y11)
       (some false)
       (z3y n (IntKind.i64.wrap (a0 + 1)) a1 a2 a3 a4 a5 a6 a7))
     (z2a n a1 (IntKind.i64.wrap (a5 + 1)) a3 a4 a6 a7)
def z27 : Nat → Int → (List yzy) → (List (List UInt8)) → Int → yz0 → Option Bool
 | 0, _, _, _, _, _ => none
 | n + 1, a0, a1, a2, a3, a4 =>
   pIf (decide (a0 < (a1.length : Int)))
     ((z2h n a4).bind fun y12 =>
     (ix a1 a0).bind fun x13 =>
     (z6s n y12 x13.name).bind fun y14 =>
     pIf (decide (y14 < 0))
       (some false)
       (z27 n (IntKind.i64.wrap (a0 + 1)) a1 a2 a3 a4))
     (z29 n (IntKind.i64.wrap (a3 + 1)) a2 a4)
end
def yaj : LSh := ⟨[(2, (.d .bool))], [], 0, 94⟩
noncomputable def zfe : FI dat := FI.of dat 34 94 0 [(.d (.st 8))] [] [(.d .bool)] [] true yaj (R := Bool) (fun x => x.1) (fun r => (r, ())) (fun n x => zb9 n x.1)
 (fun n => [(0, ⟨⟨[(4, (.d (.int .i64))), (3, (.d (.sl .str))), (1, (.ptr 0 0))], [(.st 8)], 0, 94⟩, fun x => z4m n x.1 x.2.1 x.2.2.1⟩), (1, ⟨⟨[(1, (.ptr 0 0)), (5, (.d (.int .i64))), (3, (.d (.sl .str)))], [(.st 8)], 0, 94⟩, fun x => z29 n x.1 x.2.1 x.2.2.1⟩), (2, ⟨⟨[(7, (.d (.sl .str))), (8, (.d (.int .i64))), (6, (.ptr 0 0)), (1, (.ptr 1 0)), (3, (.d (.sl .str))), (5, (.d (.int .i64)))], [(.st 7), (.st 8)], 0, 94⟩, fun x => z2a n x.1 x.2.1 x.2.2.1 x.2.2.2.1 x.2.2.2.2.1 x.2.2.2.2.2.1⟩), (3, ⟨⟨[(10, (.d (.int .i64))), (7, (.d (.sl .str))), (9, (.d (.sl (.st 2)))), (6, (.ptr 0 0)), (1, (.ptr 1 0)), (3, (.d (.sl .str))), (5, (.d (.int .i64))), (8, (.d (.int .i64)))], [(.st 7), (.st 8)], 0, 94⟩, fun x => z3y n x.1 x.2.1 x.2.2.1 x.2.2.2.1 x.2.2.2.2.1 x.2.2.2.2.2.1 x.2.2.2.2.2.2.1 x.2.2.2.2.2.2.2.1⟩), (4, ⟨⟨[(12, (.d (.int .i64))), (11, (.d (.sl (.st 10)))), (1, (.ptr 0 0)), (3, (.d (.sl .str))), (5, (.d (.int .i64)))], [(.st 8)], 0, 94⟩, fun x => z27 n x.1 x.2.1 x.2.2.1 x.2.2.2.1 x.2.2.2.2.1⟩)]) (ann [(8, 0), (29, 1), (46, 2), (60, 3), (83, 4)] (Tryz.f34.body.getD .skip) 0).1
noncomputable def ybs : List (FI dat) := [za8, zd6, zey, z3v, z0r, z2o]
theorem ycp : (zfe).Good Tryz.prog dat (tb ybs) := FI.zz4 (hD := yz2 _) Tryz.func34 Tryz.ntmps34 Tryz.call34 (by kernel_rfl) (of_decide_eq_true (by kernel_rfl)) (by kernel_rfl) (fun n => by kernel_rfl) (fun x => by kernel_rfl) (fun _ => rfl) ⟨fun _ => rfl, fun _ => rfl, fun _ => rfl, fun _ => rfl, fun _ => rfl, trivial⟩
 (fun n => fun x => (zb9.eq_2 x.1 n).trans (by kernel_rfl))
 (fun n => ⟨fun x => (z4m.eq_2 x.1 x.2.1 x.2.2.1 n).trans (by kernel_rfl),
  fun x => (z29.eq_2 x.1 x.2.1 x.2.2.1 n).trans (by kernel_rfl),
  fun x => (z2a.eq_2 x.1 x.2.1 x.2.2.1 x.2.2.2.1 x.2.2.2.2.1 x.2.2.2.2.2.1 n).trans (by kernel_rfl),
  fun x => (z3y.eq_2 x.1 x.2.1 x.2.2.1 x.2.2.2.1 x.2.2.2.2.1 x.2.2.2.2.2.1 x.2.2.2.2.2.2.1 x.2.2.2.2.2.2.2.1 n).trans (by kernel_rfl),
  fun x => (z27.eq_2 x.1 x.2.1 x.2.2.1 x.2.2.2.1 x.2.2.2.2.1 n).trans (by kernel_rfl),
  trivial⟩)
 (fun x => .inl rfl)
theorem y85 : OkL Tryz.prog [zfe] := yz7 (yz2 _) (bs := [za8, zd6, zey, z3v, z0r, z2o]) ⟨zrp, y1y, y4r, zik, zdm, zgc, trivial⟩ ycp
theorem y3m : FOk Tryz.prog zfe := y85.1
mutual
def z2k : Nat → yz0 → Option Int
 | 0, _ => none
 | n + 1, a0 =>
   (zck n a0).bind fun y0 =>
   pIf y0
     (some 4)
     ((z9p n a0).bind fun y1 =>
     pIf (!y1)
       (some 8)
       ((z8v n a0).bind fun y2 =>
       pIf y2
         (some 14)
         ((zb9 n a0).bind fun y3 =>
         pIf (!y3)
           (some 6)
           (z4u n 0 a0))))
def z4u : Nat → Int → yz0 → Option Int
 | 0, _, _ => none
 | n + 1, a0, a1 =>
   pIf (decide (a0 < (a1.rules.length : Int)))
     ((ix a1.rules a0).bind fun x4 =>
     (z6o n x4).bind fun y5 =>
     z45 n 0 y5 a0 a1)
     (some 0)
def z45 : Nat → Int → (List yzy) → Int → yz0 → Option Int
 | 0, _, _, _, _ => none
 | n + 1, a0, a1, a2, a3 =>
   pIf (decide (a0 < (a1.length : Int)))
     ((ix a1 a0).bind fun x6 =>
     (z2h n a3).bind fun y7 =>
     (ix a1 a0).bind fun x8 =>
     (z6s n y7 x8.name).bind fun y9 =>
     (ix a3.rules y9).bind fun x10 =>
     pIf (x6.many != (x10.params.length : Int))
       (some 2)
       (z45 n (IntKind.i64.wrap (a0 + 1)) a1 a2 a3))
     (z4u n (IntKind.i64.wrap (a2 + 1)) a3)
end
def yct : LSh := ⟨[(2, (.d (.int .i64)))], [], 0, 59⟩
noncomputable def z6m : FI dat := FI.of dat 10 59 0 [(.d (.st 8))] [] [(.d (.int .i64))] [] true yct (R := Int) (fun x => x.1) (fun r => (r, ())) (fun n x => z2k n x.1)
 (fun n => [(0, ⟨⟨[(1, (.ptr 0 0)), (3, (.d (.int .i64)))], [(.st 8)], 0, 59⟩, fun x => z4u n x.1 x.2.1⟩), (1, ⟨⟨[(5, (.d (.int .i64))), (4, (.d (.sl (.st 10)))), (1, (.ptr 0 0)), (3, (.d (.int .i64)))], [(.st 8)], 0, 59⟩, fun x => z45 n x.1 x.2.1 x.2.2.1 x.2.2.2.1⟩)]) (ann [(33, 0), (47, 1)] (Tryz.f10.body.getD .skip) 0).1
noncomputable def y8y : List (FI dat) := [zhe, zdb, zc4, zfe, z3v, z0r, z2o]
theorem ybr : (z6m).Good Tryz.prog dat (tb y8y) := FI.zz4 (hD := yz2 _) Tryz.func10 Tryz.ntmps10 Tryz.call10 (by kernel_rfl) (of_decide_eq_true (by kernel_rfl)) (by kernel_rfl) (fun n => by kernel_rfl) (fun x => by kernel_rfl) (fun _ => rfl) ⟨fun _ => rfl, fun _ => rfl, trivial⟩
 (fun n => fun x => (z2k.eq_2 x.1 n).trans (by kernel_rfl))
 (fun n => ⟨fun x => (z4u.eq_2 x.1 x.2.1 n).trans (by kernel_rfl),
  fun x => (z45.eq_2 x.1 x.2.1 x.2.2.1 x.2.2.2.1 n).trans (by kernel_rfl),
  trivial⟩)
 (fun x => .inl rfl)
theorem yb7 : OkL Tryz.prog [z6m] := yz7 (yz2 _) (bs := [zhe, zdb, zc4, zfe, z3v, z0r, z2o]) ⟨ybp, y1t, zxn, y3m, zik, zdm, zgc, trivial⟩ ybr
theorem zkb : FOk Tryz.prog z6m := yb7.1
mutual
def z57 : Nat → (List UInt8) → (List (List UInt8)) → Option (List (List UInt8))
 | 0, _, _ => none
 | n + 1, a0, a1 =>
   z1k n 0 a0 a1
def z1k : Nat → Int → (List UInt8) → (List (List UInt8)) → Option (List (List UInt8))
 | 0, _, _, _ => none
 | n + 1, a0, a1, a2 =>
   pIf (decide (a0 < (a2.length : Int)))
     ((ix a2 a0).bind fun x0 =>
     z2s n a1 a0 (Op.bytesLess x0 a1) a2)
     (z2s n a1 a0 false a2)
def z2s : Nat → (List UInt8) → Int → Bool → (List (List UInt8)) → Option (List (List UInt8))
 | 0, _, _, _, _ => none
 | n + 1, a0, a1, a2, a3 =>
   pIf a2
     (z1k n (IntKind.i64.wrap (a1 + 1)) a0 a3)
     (pIf (decide (a1 < (a3.length : Int)))
       ((ix a3 a1).bind fun x1 =>
       z2t n a0 a1 (x1 == a0) a3)
       (z2t n a0 a1 false a3))
def z2t : Nat → (List UInt8) → Int → Bool → (List (List UInt8)) → Option (List (List UInt8))
 | 0, _, _, _, _ => none
 | n + 1, a0, a1, a2, a3 =>
   pIf a2
     (some a3)
     ((ext a3 [[]]).bind fun x2 =>
     (zwt x2 (IntKind.i64.wrap (a1 + 1))).bind fun x3 =>
     (zwt x2 a1).bind fun x4 =>
     (zrb x2 (IntKind.i64.wrap (a1 + 1)) a1).bind fun x5 =>
     (ix x5 a1).bind fun x6 =>
     some (x5.set (Int.toNat a1) a0))
end
def y7e : LSh := ⟨[(4, (.own 0))], [(.acc 9 .str true)], 0, 49⟩
noncomputable def z95 : FI dat := FI.of dat 23 49 0 [(.own 0), (.d .str)] [(.acc 9 .str true)] [(.own 0)] [(.acc 9 .str true)] false y7e (R := List (List UInt8)) (fun x => x.1) (fun r => (r, ())) (fun n x => z57 n x.1 x.2.1)
 (fun n => [(0, ⟨⟨[(5, (.d (.int .i64))), (0, (.own 0)), (1, (.d .str))], [(.acc 9 .str true)], 0, 49⟩, fun x => z1k n x.1 x.2.1 x.2.2.1⟩), (1, ⟨⟨[(0, (.own 0)), (1, (.d .str)), (5, (.d (.int .i64))), (17, (.d .bool))], [(.acc 9 .str true)], 0, 49⟩, fun x => z2s n x.1 x.2.1 x.2.2.1 x.2.2.2.1⟩), (2, ⟨⟨[(0, (.own 0)), (1, (.d .str)), (5, (.d (.int .i64))), (31, (.d .bool))], [(.acc 9 .str true)], 0, 49⟩, fun x => z2t n x.1 x.2.1 x.2.2.1 x.2.2.2.1⟩)]) (ann [(6, 0), (10, 1), (18, 2)] (Tryz.f23.body.getD .skip) 0).1
noncomputable def y70 : List (FI dat) := []
theorem y6z : (z95).Good Tryz.prog dat (tb y70) := FI.zz4 (hD := yz2 _) Tryz.func23 Tryz.ntmps23 Tryz.call23 (by kernel_rfl) (of_decide_eq_true (by kernel_rfl)) (by kernel_rfl) (fun n => by kernel_rfl) (fun x => by kernel_rfl) (fun _ => rfl) ⟨fun _ => rfl, fun _ => rfl, fun _ => rfl, trivial⟩
 (fun n => fun x => (z57.eq_2 x.1 x.2.1 n).trans (by kernel_rfl))
 (fun n => ⟨fun x => (z1k.eq_2 x.1 x.2.1 x.2.2.1 n).trans (by kernel_rfl),
  fun x => (z2s.eq_2 x.1 x.2.1 x.2.2.1 x.2.2.2.1 n).trans (by kernel_rfl),
  fun x => (z2t.eq_2 x.1 x.2.1 x.2.2.1 x.2.2.2.1 n).trans (by kernel_rfl),
  trivial⟩)
 (fun x => .inr (by kernel_rfl))
theorem y5i : OkL Tryz.prog [z95] := yz7 (yz2 _) (bs := []) trivial y6z
theorem zqi : FOk Tryz.prog z95 := y5i.1
mutual
def zb7 : Nat → yz0 → (List UInt8) → Option ((List (List UInt8)) × Int)
 | 0, _, _ => none
 | n + 1, a0, a1 =>
   (z2k n a0).bind fun y0 =>
   pIf (y0 != 0)
     ((z2k n a0).bind fun y1 =>
     some ([], y1))
     ((z2h n a0).bind fun y2 =>
     (z6s n y2 a1).bind fun y3 =>
     pIf (decide (y3 < 0))
       (some ([], 6))
       ((ix a0.rules y3).bind fun x4 =>
       (z6o n x4).bind fun y5 =>
       z4c n 0 y5 []))
def z4c : Nat → Int → (List yzy) → (List (List UInt8)) → Option ((List (List UInt8)) × Int)
 | 0, _, _, _ => none
 | n + 1, a0, a1, a2 =>
   pIf (decide (a0 < (a1.length : Int)))
     ((ix a1 a0).bind fun x6 =>
     (z57 n x6.name a2).bind fun y7 =>
     z4c n (IntKind.i64.wrap (a0 + 1)) a1 y7)
     (some (a2, 0))
end
def y9j : LSh := ⟨[(4, (.d (.sl .str))), (5, (.d (.int .i64)))], [], 0, 41⟩
noncomputable def zfg : FI dat := FI.of dat 6 41 0 [(.d (.st 8)), (.d .str)] [] [(.d (.sl .str)), (.d (.int .i64))] [] true y9j (R := (List (List UInt8)) × Int) (fun x => (x.1, x.2.1)) (fun r => (r.1, r.2, ())) (fun n x => zb7 n x.1 x.2.1)
 (fun n => [(0, ⟨⟨[(9, (.d (.int .i64))), (8, (.d (.sl (.st 10)))), (7, (.own 0))], [(.acc 9 .str true)], 0, 41⟩, fun x => z4c n x.1 x.2.1 x.2.2.1⟩)]) (ann [(28, 0)] (Tryz.f6.body.getD .skip) 0).1
noncomputable def ybl : List (FI dat) := [z95, z6m, z0r, z2o, z3v]
theorem y93 : (zfg).Good Tryz.prog dat (tb ybl) := FI.zz4 (hD := yz2 _) Tryz.func6 Tryz.ntmps6 Tryz.call6 (by kernel_rfl) (of_decide_eq_true (by kernel_rfl)) (by kernel_rfl) (fun n => by kernel_rfl) (fun x => by kernel_rfl) (fun _ => rfl) ⟨fun _ => rfl, trivial⟩
 (fun n => fun x => (zb7.eq_2 x.1 x.2.1 n).trans (by kernel_rfl))
 (fun n => ⟨fun x => (z4c.eq_2 x.1 x.2.1 x.2.2.1 n).trans (by kernel_rfl),
  trivial⟩)
 (fun x => .inl rfl)
theorem y9i : OkL Tryz.prog [zfg] := yz7 (yz2 _) (bs := [z95, z6m, z0r, z2o, z3v]) ⟨zqi, zkb, zdm, zgc, zik, trivial⟩ y93
theorem y67 : FOk Tryz.prog zfg := y9i.1
mutual
noncomputable def zba : Nat → yz0 → (List UInt8) → Option ((List (List UInt8)) × Int)
 | 0, _, _ => none
 | n + 1, a0, a1 =>
   (z6t n a0).bind fun y0 =>
   pIf (y0 != 0)
     (some ([], y0))
     ((zbn n a0 a1).bind fun y1 =>
     pIf (decide (y1 < 0))
       (some ([], 6))
       (z3q n 0 [a1] (mks (zdk [] a1 true)) (mvs (zdk [] a1 true)) a0))
noncomputable def z3q : Nat → Int → (List (List UInt8)) → (List (List UInt8)) → (List Bool) → yz0 → Option ((List (List UInt8)) × Int)
 | 0, _, _, _, _, _ => none
 | n + 1, a0, a1, a2, a3, a4 =>
   pIf (decide (a0 < (a1.length : Int)))
     ((ix a1 a0).bind fun x2 =>
     (zbn n a4 x2).bind fun y3 =>
     (ix a4.rules y3).bind fun x4 =>
     (z6v n x4).bind fun y5 =>
     z41 n 0 y5 a0 (y5.length : Int) a1 (mks (List.zip a2 a3)) (mvs (List.zip a2 a3)) a4)
     ((kzp n a1).bind fun y6 =>
     some (y6, 0))
noncomputable def z41 : Nat → Int → (List kzk) → Int → Int → (List (List UInt8)) → (List (List UInt8)) → (List Bool) → yz0 → Option ((List (List UInt8)) × Int)
 | 0, _, _, _, _, _, _, _, _ => none
 | n + 1, a0, a1, a2, a3, a4, a5, a6, a7 =>
   pIf (decide (a0 < a3))
     ((ix a1 a0).bind fun x7 =>
     pIf (!(Option.getD (zby (List.zip a5 a6) x7.name) false))
       ((ext a4 [x7.name]).bind fun x8 =>
       z7d n a1 a2 a3 a0 x8 (mks (zdk (List.zip a5 a6) x7.name true)) (mvs (zdk (List.zip a5 a6) x7.name true)) a7)
       (z7d n a1 a2 a3 a0 a4 (mks (List.zip a5 a6)) (mvs (List.zip a5 a6)) a7))
     (z3q n (IntKind.i64.wrap (a2 + 1)) a4 (mks (List.zip a5 a6)) (mvs (List.zip a5 a6)) a7)
noncomputable def z7d : Nat → (List kzk) → Int → Int → Int → (List (List UInt8)) → (List (List UInt8)) → (List Bool) → yz0 → Option ((List (List UInt8)) × Int)
 | 0, _, _, _, _, _, _, _, _ => none
 | n + 1, a0, a1, a2, a3, a4, a5, a6, a7 =>
   z41 n (IntKind.i64.wrap (a3 + 1)) a0 a1 a2 a4 (mks (List.zip a5 a6)) (mvs (List.zip a5 a6)) a7
end
def yb5 : LSh := ⟨[(4, (.d (.sl .str))), (5, (.d (.int .i64)))], [], 0, 65⟩
noncomputable def zf0 : FI dat := FI.of dat 7 65 0 [(.d (.st 8)), (.d .str)] [] [(.d (.sl .str)), (.d (.int .i64))] [] true yb5 (R := (List (List UInt8)) × Int) (fun x => (x.1, x.2.1)) (fun r => (r.1, r.2, ())) (fun n x => zba n x.1 x.2.1)
 (fun n => [(0, ⟨⟨[(8, (.own 0)), (7, (.map 1)), (9, (.d (.int .i64))), (2, (.ptr 2 0))], [(.acc 9 .str true), (.mp 70 .bool), (.st 8)], 0, 65⟩, fun x => z3q n x.1 x.2.1 x.2.2.1 x.2.2.2.1 x.2.2.2.2.1⟩), (1, ⟨⟨[(44, (.d (.int .i64))), (8, (.own 0)), (7, (.map 1)), (42, (.d (.sl (.st 9)))), (2, (.ptr 2 0)), (9, (.d (.int .i64))), (43, (.d (.int .i64)))], [(.acc 9 .str true), (.mp 70 .bool), (.st 8)], 0, 65⟩, fun x => z41 n x.1 x.2.1 x.2.2.1 x.2.2.2.1 x.2.2.2.2.1 x.2.2.2.2.2.1 x.2.2.2.2.2.2.1 x.2.2.2.2.2.2.2.1⟩), (2, ⟨⟨[(8, (.own 0)), (7, (.map 1)), (42, (.d (.sl (.st 9)))), (2, (.ptr 2 0)), (9, (.d (.int .i64))), (43, (.d (.int .i64))), (44, (.d (.int .i64)))], [(.acc 9 .str true), (.mp 70 .bool), (.st 8)], 0, 65⟩, fun x => z7d n x.1 x.2.1 x.2.2.1 x.2.2.2.1 x.2.2.2.2.1 x.2.2.2.2.2.1 x.2.2.2.2.2.2.1 x.2.2.2.2.2.2.2.1⟩)]) (ann [(28, 0), (40, 1), (58, 2)] (Tryz.f7.body.getD .skip) 0).1
noncomputable def y8h : List (FI dat) := [zzs, z6r, zfx, z6p]
theorem yao : (zf0).Good Tryz.prog dat (tb y8h) := FI.zz4 (hD := yz2 _) Tryz.func7 Tryz.ntmps7 Tryz.call7 (by kernel_rfl) (of_decide_eq_true (by kernel_rfl)) (by kernel_rfl) (fun n => by kernel_rfl) (fun x => by kernel_rfl) (fun _ => rfl) ⟨fun _ => rfl, fun _ => rfl, fun _ => rfl, trivial⟩
 (fun n => fun x => (zba.eq_2 x.1 x.2.1 n).trans (by kernel_rfl))
 (fun n => ⟨fun x => (z3q.eq_2 x.1 x.2.1 x.2.2.1 x.2.2.2.1 x.2.2.2.2.1 n).trans (by kernel_rfl),
  fun x => (z41.eq_2 x.1 x.2.1 x.2.2.1 x.2.2.2.1 x.2.2.2.2.1 x.2.2.2.2.2.1 x.2.2.2.2.2.2.1 x.2.2.2.2.2.2.2.1 n).trans (by kernel_rfl),
  fun x => (z7d.eq_2 x.1 x.2.1 x.2.2.1 x.2.2.2.1 x.2.2.2.2.1 x.2.2.2.2.2.1 x.2.2.2.2.2.2.1 x.2.2.2.2.2.2.2.1 n).trans (by kernel_rfl),
  trivial⟩)
 (fun x => .inl rfl)
theorem y8w : OkL Tryz.prog [zf0] := yz7 (yz2 _) (bs := [zzs, z6r, zfx, z6p]) ⟨z7t, zla, y0k, zki, trivial⟩ yao
theorem y5k : FOk Tryz.prog zf0 := y8w.1
mutual
def zb8 : Nat → yz0 → (List UInt8) → Option ((List (List UInt8)) × Int)
 | 0, _, _ => none
 | n + 1, a0, a1 =>
   (z2k n a0).bind fun y0 =>
   pIf (y0 != 0)
     ((z2k n a0).bind fun y1 =>
     some ([], y1))
     ((z2h n a0).bind fun y2 =>
     (z6s n y2 a1).bind fun y3 =>
     pIf (decide (y3 < 0))
       (some ([], 6))
       (z4w n true [a1] a0))
def z4w : Nat → Bool → (List (List UInt8)) → yz0 → Option ((List (List UInt8)) × Int)
 | 0, _, _, _ => none
 | n + 1, a0, a1, a2 =>
   pIf a0
     (z44 n 0 false a1 a2)
     (some (a1, 0))
def z44 : Nat → Int → Bool → (List (List UInt8)) → yz0 → Option ((List (List UInt8)) × Int)
 | 0, _, _, _, _ => none
 | n + 1, a0, a1, a2, a3 =>
   pIf (decide (a0 < (a3.rules.length : Int)))
     ((ix a3.rules a0).bind fun x4 =>
     (z2g n x4.name a2).bind fun y5 =>
     pIf (decide (y5.1 < 0))
       (z3s n a1 a0 y5.2 a3)
       ((ix a3.rules a0).bind fun x6 =>
       (z6o n x6).bind fun y7 =>
       z3n n 0 y7 a1 a0 y5.2 a3))
     (z4w n a1 a2 a3)
def z3n : Nat → Int → (List yzy) → Bool → Int → (List (List UInt8)) → yz0 → Option ((List (List UInt8)) × Int)
 | 0, _, _, _, _, _, _ => none
 | n + 1, a0, a1, a2, a3, a4, a5 =>
   pIf (decide (a0 < (a1.length : Int)))
     ((ix a1 a0).bind fun x8 =>
     (z2g n x8.name a4).bind fun y9 =>
     pIf (decide (y9.1 < 0))
       ((ix a1 a0).bind fun x10 =>
       (z57 n x10.name y9.2).bind fun y11 =>
       z7a n a1 true a3 a0 y11 a5)
       (z7a n a1 a2 a3 a0 y9.2 a5))
     (z3s n a2 a3 a4 a5)
def z7a : Nat → (List yzy) → Bool → Int → Int → (List (List UInt8)) → yz0 → Option ((List (List UInt8)) × Int)
 | 0, _, _, _, _, _, _ => none
 | n + 1, a0, a1, a2, a3, a4, a5 =>
   z3n n (IntKind.i64.wrap (a3 + 1)) a0 a1 a2 a4 a5
def z3s : Nat → Bool → Int → (List (List UInt8)) → yz0 → Option ((List (List UInt8)) × Int)
 | 0, _, _, _, _ => none
 | n + 1, a0, a1, a2, a3 =>
   z44 n (IntKind.i64.wrap (a1 + 1)) a0 a2 a3
end
def ybf : LSh := ⟨[(4, (.d (.sl .str))), (5, (.d (.int .i64)))], [], 0, 68⟩
noncomputable def zfm : FI dat := FI.of dat 8 68 0 [(.d (.st 8)), (.d .str)] [] [(.d (.sl .str)), (.d (.int .i64))] [] true ybf (R := (List (List UInt8)) × Int) (fun x => (x.1, x.2.1)) (fun r => (r.1, r.2, ())) (fun n x => zb8 n x.1 x.2.1)
 (fun n => [(0, ⟨⟨[(6, (.own 0)), (2, (.ptr 1 0)), (7, (.d .bool))], [(.acc 9 .str true), (.st 8)], 0, 68⟩, fun x => z4w n x.1 x.2.1 x.2.2.1⟩), (1, ⟨⟨[(8, (.d (.int .i64))), (6, (.own 0)), (2, (.ptr 1 0)), (7, (.d .bool))], [(.acc 9 .str true), (.st 8)], 0, 68⟩, fun x => z44 n x.1 x.2.1 x.2.2.1 x.2.2.2.1⟩), (2, ⟨⟨[(10, (.d (.int .i64))), (9, (.d (.sl (.st 10)))), (6, (.own 0)), (2, (.ptr 1 0)), (7, (.d .bool)), (8, (.d (.int .i64)))], [(.acc 9 .str true), (.st 8)], 0, 68⟩, fun x => z3n n x.1 x.2.1 x.2.2.1 x.2.2.2.1 x.2.2.2.2.1 x.2.2.2.2.2.1⟩), (3, ⟨⟨[(9, (.d (.sl (.st 10)))), (6, (.own 0)), (2, (.ptr 1 0)), (7, (.d .bool)), (8, (.d (.int .i64))), (10, (.d (.int .i64)))], [(.acc 9 .str true), (.st 8)], 0, 68⟩, fun x => z7a n x.1 x.2.1 x.2.2.1 x.2.2.2.1 x.2.2.2.2.1 x.2.2.2.2.2.1⟩), (4, ⟨⟨[(6, (.own 0)), (2, (.ptr 1 0)), (7, (.d .bool)), (8, (.d (.int .i64)))], [(.acc 9 .str true), (.st 8)], 0, 68⟩, fun x => z3s n x.1 x.2.1 x.2.2.1 x.2.2.2.1⟩)]) (ann [(24, 0), (37, 1), (57, 2), (73, 3), (74, 4)] (Tryz.f8.body.getD .skip) 0).1
noncomputable def y8j : List (FI dat) := [za3, z95, z6m, z0r, z2o, z3v]
theorem yb2 : (zfm).Good Tryz.prog dat (tb y8j) := FI.zz4 (hD := yz2 _) Tryz.func8 Tryz.ntmps8 Tryz.call8 (by kernel_rfl) (of_decide_eq_true (by kernel_rfl)) (by kernel_rfl) (fun n => by kernel_rfl) (fun x => by kernel_rfl) (fun _ => rfl) ⟨fun _ => rfl, fun _ => rfl, fun _ => rfl, fun _ => rfl, fun _ => rfl, trivial⟩
 (fun n => fun x => (zb8.eq_2 x.1 x.2.1 n).trans (by kernel_rfl))
 (fun n => ⟨fun x => (z4w.eq_2 x.1 x.2.1 x.2.2.1 n).trans (by kernel_rfl),
  fun x => (z44.eq_2 x.1 x.2.1 x.2.2.1 x.2.2.2.1 n).trans (by kernel_rfl),
  fun x => (z3n.eq_2 x.1 x.2.1 x.2.2.1 x.2.2.2.1 x.2.2.2.2.1 x.2.2.2.2.2.1 n).trans (by kernel_rfl),
  fun x => (z7a.eq_2 x.1 x.2.1 x.2.2.1 x.2.2.2.1 x.2.2.2.2.1 x.2.2.2.2.2.1 n).trans (by kernel_rfl),
  fun x => (z3s.eq_2 x.1 x.2.1 x.2.2.1 x.2.2.2.1 n).trans (by kernel_rfl),
  trivial⟩)
 (fun x => .inl rfl)
theorem ybc : OkL Tryz.prog [zfm] := yz7 (yz2 _) (bs := [za3, z95, z6m, z0r, z2o, z3v]) ⟨zre, zqi, zkb, zdm, zgc, zik, trivial⟩ yb2
theorem y4d : FOk Tryz.prog zfm := ybc.1
end Go.Proofs.YtflgdagdibabiaaGreat

