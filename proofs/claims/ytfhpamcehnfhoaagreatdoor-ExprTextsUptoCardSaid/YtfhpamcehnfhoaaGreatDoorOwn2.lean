/-
  Go functions as Lean functions, by a program of this repo.
-/
import Derived.Test.YtfhpamcehnfhoaaGreatDoorOwn1
import Derived.Test.YtfhpamcehnfhoaaGreatDoorLib2
import Derived.Test.YtfhpamcehnfhoaaGreatDoorProg
namespace Go.Proofs.YtfhpamcehnfhoaaGreatDoor
open Go Go.Ab
set_option linter.unusedVariables false
set_option maxRecDepth 100000
mutual
def z6t : Nat → yz0 → Option Bool
 | 0, _ => none
 | n + 1, a0 =>
   pIf (a0.kind == 1)
     ((z1t n a0.num).bind fun y0 =>
     pIf (y0 == 0)
       (pIf (!a0.truth)
         (pIf ((a0.str.length : Int) == 0)
           (some ((a0.list.length : Int) == 0))
           (some false))
         (some false))
       (some false))
     (pIf (a0.kind == 2)
       (pIf ((a0.num.num == 0) && ((a0.num.den == 0) && true))
         (pIf ((a0.str.length : Int) == 0)
           (some ((a0.list.length : Int) == 0))
           (some false))
         (some false))
       (pIf (a0.kind == 3)
         (pIf (!((a0.num.num == 0) && ((a0.num.den == 0) && true)))
           (z0d n true a0.re)
           (pIf a0.truth
             (z0d n true a0.re)
             (pIf (decide ((a0.list.length : Int) > 0))
               (z0d n true a0.re)
               (z0d n (decide ((a0.str.length : Int) > 60)) a0.re))))
         (pIf (a0.kind == 4)
           (pIf (!((a0.num.num == 0) && ((a0.num.den == 0) && true)))
             (z0y n true a0.re)
             (pIf a0.truth
               (z0y n true a0.re)
               (z0y n (decide ((a0.str.length : Int) > 0)) a0.re)))
           (some false))))
def z0d : Nat → Bool → yz0 → Option Bool
 | 0, _, _ => none
 | n + 1, a0, a1 =>
   pIf a0
     (some false)
     (z39 n 0 a1.re)
def z39 : Nat → Int → yz0 → Option Bool
 | 0, _, _ => none
 | n + 1, a0, a1 =>
   pIf (decide (a0 < (a1.str.length : Int)))
     ((ix a1.str a0).bind fun x1 =>
     pIf (decide ((x1.toNat : Int) < 32))
       (z3r n a0 true a1.re)
       ((ix a1.str a0).bind fun x2 =>
       z3r n a0 (decide ((x2.toNat : Int) > 126)) a1.re))
     (some true)
def z3r : Nat → Int → Bool → yz0 → Option Bool
 | 0, _, _, _ => none
 | n + 1, a0, a1, a2 =>
   pIf a1
     (some false)
     (z39 n (IntKind.i64.wrap (a0 + 1)) a2.re)
def z0y : Nat → Bool → yz0 → Option Bool
 | 0, _, _ => none
 | n + 1, a0, a1 =>
   pIf a0
     (some false)
     (z34 n 0 a1.re)
def z34 : Nat → Int → yz0 → Option Bool
 | 0, _, _ => none
 | n + 1, a0, a1 =>
   pIf (decide (a0 < (a1.list.length : Int)))
     ((ix a1.list a0).bind fun x3 =>
     (z6t n x3.re).bind fun y4 =>
     pIf (!y4)
       (some false)
       (z34 n (IntKind.i64.wrap (a0 + 1)) a1.re))
     (some true)
end
def yf2 : LSh := ⟨[(2, (.d .bool))], [], 0, 121⟩
noncomputable def zdk : FI dat := FI.of dat 89 121 0 [(.d (.st 3))] [] [(.d .bool)] [] true yf2 (R := Bool) (fun x => x.1) (fun r => (r, ())) (fun n x => z6t n x.1)
 (fun n => [(0, ⟨⟨[(1, (.ptr 0 0)), (71, (.d .bool))], [(.st 3)], 0, 121⟩, fun x => z0d n x.1 x.2.1⟩), (1, ⟨⟨[(4, (.d (.int .i64))), (1, (.ptr 0 0))], [(.st 3)], 0, 121⟩, fun x => z39 n x.1 x.2.1⟩), (2, ⟨⟨[(1, (.ptr 0 0)), (4, (.d (.int .i64))), (90, (.d .bool))], [(.st 3)], 0, 121⟩, fun x => z3r n x.1 x.2.1 x.2.2.1⟩), (3, ⟨⟨[(1, (.ptr 0 0)), (106, (.d .bool))], [(.st 3)], 0, 121⟩, fun x => z0y n x.1 x.2.1⟩), (4, ⟨⟨[(5, (.d (.int .i64))), (1, (.ptr 0 0))], [(.st 3)], 0, 121⟩, fun x => z34 n x.1 x.2.1⟩)]) (ann [(26, 0), (35, 1), (46, 2), (61, 3), (70, 4)] (Tryz.f89.body.getD .skip) 0).1
noncomputable def ydu : List (FI dat) := [zdk] ++ [z6x]
theorem yei : (zdk).Good Tryz.prog dat (tb ydu) := FI.yz5 (hD := zz3 _) Tryz.func89 Tryz.ntmps89 Tryz.call89 (by kernel_rfl) (of_decide_eq_true (by kernel_rfl)) (by kernel_rfl) (fun n => by kernel_rfl) (fun x => by kernel_rfl) (fun _ => rfl) ⟨fun _ => rfl, fun _ => rfl, fun _ => rfl, fun _ => rfl, fun _ => rfl, trivial⟩
 (fun n => fun x => (z6t.eq_2 x.1 n).trans (by kernel_rfl))
 (fun n => ⟨fun x => (z0d.eq_2 x.1 x.2.1 n).trans (by kernel_rfl),
  fun x => (z39.eq_2 x.1 x.2.1 n).trans (by kernel_rfl),
  fun x => (z3r.eq_2 x.1 x.2.1 x.2.2.1 n).trans (by kernel_rfl),
  fun x => (z0y.eq_2 x.1 x.2.1 n).trans (by kernel_rfl),
  fun x => (z34.eq_2 x.1 x.2.1 n).trans (by kernel_rfl),
  trivial⟩)
 (fun x => .inl rfl)
theorem yd5 : OkL Tryz.prog [zdk] := z4p (zz3 _) (bs := [z6x]) ⟨zkz, trivial⟩ ⟨yei, trivial⟩
theorem yam : FOk Tryz.prog zdk := yd5.1
mutual
def z7l : Nat → yz0 → Option Int
 | 0, _ => none
 | n + 1, a0 =>
   (z4l n a0.re).bind fun y0 =>
   pIf (decide (y0 > 100))
     (z2h n true a0.re)
     ((z71 n a0.re).bind fun y1 =>
     z2h n (decide (y1 > 6)) a0.re)
def z2h : Nat → Bool → yz0 → Option Int
 | 0, _, _ => none
 | n + 1, a0, a1 =>
   pIf a0
     (some 4)
     ((z6t n a1.re).bind fun y2 =>
     pIf (!y2)
       (some 8)
       (some 0))
end
def y9w : LSh := ⟨[(2, (.d (.int .i64)))], [], 0, 14⟩
noncomputable def zeb : FI dat := FI.of dat 55 14 0 [(.d (.st 3))] [] [(.d (.int .i64))] [] true y9w (R := Int) (fun x => x.1) (fun r => (r, ())) (fun n x => z7l n x.1)
 (fun n => [(0, ⟨⟨[(1, (.ptr 0 0)), (10, (.d .bool))], [(.st 3)], 0, 14⟩, fun x => z2h n x.1 x.2.1⟩)]) (ann [(5, 0)] (Tryz.f55.body.getD .skip) 0).1
noncomputable def yag : List (FI dat) := [z8h, zdo, zdk]
theorem y86 : (zeb).Good Tryz.prog dat (tb yag) := FI.yz5 (hD := zz3 _) Tryz.func55 Tryz.ntmps55 Tryz.call55 (by kernel_rfl) (of_decide_eq_true (by kernel_rfl)) (by kernel_rfl) (fun n => by kernel_rfl) (fun x => by kernel_rfl) (fun _ => rfl) ⟨fun _ => rfl, trivial⟩
 (fun n => fun x => (z7l.eq_2 x.1 n).trans (by kernel_rfl))
 (fun n => ⟨fun x => (z2h.eq_2 x.1 x.2.1 n).trans (by kernel_rfl),
  trivial⟩)
 (fun x => .inl rfl)
theorem y8y : OkL Tryz.prog [zeb] := yze (zz3 _) (bs := [z8h, zdo, zdk]) ⟨zsl, yaz, yam, trivial⟩ y86
theorem y7w : FOk Tryz.prog zeb := y8y.1
mutual
def z19 : Nat → yz0 → yz0 → Option Bool
 | 0, _, _ => none
 | n + 1, a0, a1 =>
   pIf (a0.kind != a1.kind)
     (z0a n true a1.re a0.re)
     (pIf (!((a0.num.num == a1.num.num) && ((a0.num.den == a1.num.den) && true)))
       (z0a n true a1.re a0.re)
       (pIf (!(a0.truth == a1.truth))
         (z0a n true a1.re a0.re)
         (pIf (!(a0.str == a1.str))
           (z0a n true a1.re a0.re)
           (z0a n ((a0.list.length : Int) != (a1.list.length : Int)) a1.re a0.re))))
def z0a : Nat → Bool → yz0 → yz0 → Option Bool
 | 0, _, _, _ => none
 | n + 1, a0, a1, a2 =>
   pIf a0
     (some false)
     (z3i n 0 a1.re a2.re)
def z3i : Nat → Int → yz0 → yz0 → Option Bool
 | 0, _, _, _ => none
 | n + 1, a0, a1, a2 =>
   pIf (decide (a0 < (a2.list.length : Int)))
     ((ix a2.list a0).bind fun x0 =>
     (ix a1.list a0).bind fun x1 =>
     (z19 n x0.re x1.re).bind fun y2 =>
     pIf (!y2)
       (some false)
       (z3i n (IntKind.i64.wrap (a0 + 1)) a1.re a2.re))
     (some true)
end
def ygb : LSh := ⟨[(4, (.d .bool))], [], 0, 60⟩
noncomputable def z9j : FI dat := FI.of dat 23 60 0 [(.d (.st 3)), (.d (.st 3))] [] [(.d .bool)] [] true ygb (R := Bool) (fun x => x.1) (fun r => (r, ())) (fun n x => z19 n x.1 x.2.1)
 (fun n => [(0, ⟨⟨[(3, (.ptr 0 0)), (2, (.ptr 1 0)), (40, (.d .bool))], [(.st 3), (.st 3)], 0, 60⟩, fun x => z0a n x.1 x.2.1 x.2.2.1⟩), (1, ⟨⟨[(5, (.d (.int .i64))), (3, (.ptr 0 0)), (2, (.ptr 1 0))], [(.st 3), (.st 3)], 0, 60⟩, fun x => z3i n x.1 x.2.1 x.2.2.1⟩)]) (ann [(5, 0), (14, 1)] (Tryz.f23.body.getD .skip) 0).1
noncomputable def yee : List (FI dat) := [z9j] ++ []
theorem yez : (z9j).Good Tryz.prog dat (tb yee) := FI.yz5 (hD := zz3 _) Tryz.func23 Tryz.ntmps23 Tryz.call23 (by kernel_rfl) (of_decide_eq_true (by kernel_rfl)) (by kernel_rfl) (fun n => by kernel_rfl) (fun x => by kernel_rfl) (fun _ => rfl) ⟨fun _ => rfl, fun _ => rfl, trivial⟩
 (fun n => fun x => (z19.eq_2 x.1 x.2.1 n).trans (by kernel_rfl))
 (fun n => ⟨fun x => (z0a.eq_2 x.1 x.2.1 x.2.2.1 n).trans (by kernel_rfl),
  fun x => (z3i.eq_2 x.1 x.2.1 x.2.2.1 n).trans (by kernel_rfl),
  trivial⟩)
 (fun x => .inl rfl)
theorem yf0 : OkL Tryz.prog [z9j] := z4p (zz3 _) (bs := []) trivial ⟨yez, trivial⟩
theorem zvj : FOk Tryz.prog z9j := yf0.1
def z63 : Nat → Int → Option Bool
 | 0, _ => none
 | n + 1, a0 =>
   pIf (decide (a0 ≥ 97))
     (some (decide (a0 ≤ 122)))
     (some false)
def y5b : LSh := ⟨[(2, (.d .bool))], [], 0, 9⟩
noncomputable def zct : FI dat := FI.of dat 86 9 0 [(.d (.int .u8))] [] [(.d .bool)] [] true y5b (R := Bool) (fun x => x.1) (fun r => (r, ())) (fun n x => z63 n x.1)
 (fun n => []) (ann [] (Tryz.f86.body.getD .skip) 0).1
noncomputable def y5t : List (FI dat) := []
theorem y7v : (zct).Good Tryz.prog dat (tb y5t) := FI.yz5 (hD := zz3 _) Tryz.func86 Tryz.ntmps86 Tryz.call86 (by kernel_rfl) (of_decide_eq_true (by kernel_rfl)) (by kernel_rfl) (fun n => by kernel_rfl) (fun x => by kernel_rfl) (fun _ => rfl) trivial
 (fun n => fun x => (z63.eq_2 x.1 n).trans (by kernel_rfl))
 (fun n => trivial)
 (fun x => .inl rfl)
theorem y7j : OkL Tryz.prog [zct] := yze (zz3 _) (bs := []) trivial y7v
theorem y3h : FOk Tryz.prog zct := y7j.1
def z7m : Nat → Int → Option Bool
 | 0, _ => none
 | n + 1, a0 =>
   pIf (decide (a0 ≥ 48))
     (some (decide (a0 ≤ 57)))
     (some false)
def y8c : LSh := ⟨[(2, (.d .bool))], [], 0, 9⟩
noncomputable def ze9 : FI dat := FI.of dat 87 9 0 [(.d (.int .u8))] [] [(.d .bool)] [] true y8c (R := Bool) (fun x => x.1) (fun r => (r, ())) (fun n x => z7m n x.1)
 (fun n => []) (ann [] (Tryz.f87.body.getD .skip) 0).1
noncomputable def y93 : List (FI dat) := []
theorem y9a : (ze9).Good Tryz.prog dat (tb y93) := FI.yz5 (hD := zz3 _) Tryz.func87 Tryz.ntmps87 Tryz.call87 (by kernel_rfl) (of_decide_eq_true (by kernel_rfl)) (by kernel_rfl) (fun n => by kernel_rfl) (fun x => by kernel_rfl) (fun _ => rfl) trivial
 (fun n => fun x => (z7m.eq_2 x.1 n).trans (by kernel_rfl))
 (fun n => trivial)
 (fun x => .inl rfl)
theorem y98 : OkL Tryz.prog [ze9] := yze (zz3 _) (bs := []) trivial y9a
theorem y5p : FOk Tryz.prog ze9 := y98.1
mutual
def z8i : Nat → (List UInt8) → Option Bool
 | 0, _ => none
 | n + 1, a0 =>
   z03 n 0 a0
def z03 : Nat → Int → (List UInt8) → Option Bool
 | 0, _, _ => none
 | n + 1, a0, a1 =>
   pIf (decide (a0 < (a1.length : Int)))
     ((ix a1 a0).bind fun x0 =>
     (z63 n (x0.toNat : Int)).bind fun y1 =>
     pIf (!y1)
       (pIf (a0 == 0)
         (z0e n a1 a0 true)
         ((ix a1 a0).bind fun x2 =>
         pIf ((x2.toNat : Int) != 45)
           ((ix a1 a0).bind fun x3 =>
           (z7m n (x3.toNat : Int)).bind fun y4 =>
           z0e n a1 a0 (!y4))
           (z0e n a1 a0 false)))
       (z0e n a1 a0 false))
     (pIf (decide ((a1.length : Int) ≥ 1))
       (some (decide ((a1.length : Int) ≤ 40)))
       (some false))
def z0e : Nat → (List UInt8) → Int → Bool → Option Bool
 | 0, _, _, _ => none
 | n + 1, a0, a1, a2 =>
   pIf a2
     (some false)
     (z03 n (IntKind.i64.wrap (a1 + 1)) a0)
end
def yge : LSh := ⟨[(2, (.d .bool))], [], 0, 40⟩
noncomputable def zga : FI dat := FI.of dat 54 40 0 [(.d .str)] [] [(.d .bool)] [] true yge (R := Bool) (fun x => x.1) (fun r => (r, ())) (fun n x => z8i n x.1)
 (fun n => [(0, ⟨⟨[(3, (.d (.int .i64))), (0, (.d .str))], [], 0, 40⟩, fun x => z03 n x.1 x.2.1⟩), (1, ⟨⟨[(0, (.d .str)), (3, (.d (.int .i64))), (31, (.d .bool))], [], 0, 40⟩, fun x => z0e n x.1 x.2.1 x.2.2.1⟩)]) (ann [(6, 0), (17, 1)] (Tryz.f54.body.getD .skip) 0).1
noncomputable def yde : List (FI dat) := [zct, ze9]
theorem ydf : (zga).Good Tryz.prog dat (tb yde) := FI.yz5 (hD := zz3 _) Tryz.func54 Tryz.ntmps54 Tryz.call54 (by kernel_rfl) (of_decide_eq_true (by kernel_rfl)) (by kernel_rfl) (fun n => by kernel_rfl) (fun x => by kernel_rfl) (fun _ => rfl) ⟨fun _ => rfl, fun _ => rfl, trivial⟩
 (fun n => fun x => (z8i.eq_2 x.1 n).trans (by kernel_rfl))
 (fun n => ⟨fun x => (z03.eq_2 x.1 x.2.1 n).trans (by kernel_rfl),
  fun x => (z0e.eq_2 x.1 x.2.1 x.2.2.1 n).trans (by kernel_rfl),
  trivial⟩)
 (fun x => .inl rfl)
theorem yg2 : OkL Tryz.prog [zga] := yze (zz3 _) (bs := [zct, ze9]) ⟨y3h, y5p, trivial⟩ ydf
theorem yaf : FOk Tryz.prog zga := yg2.1
def z7b : Nat → (List UInt8) → Option Bool
 | 0, _ => none
 | n + 1, a0 =>
   (z8i n a0).bind fun y0 =>
   pIf y0
     (pIf (!(a0 == [116, 114, 117, 101]))
       (some (!(a0 == [102, 97, 108, 115, 101])))
       (some false))
     (some false)
def y9t : LSh := ⟨[(2, (.d .bool))], [], 0, 13⟩
noncomputable def ze4 : FI dat := FI.of dat 98 13 0 [(.d .str)] [] [(.d .bool)] [] true y9t (R := Bool) (fun x => x.1) (fun r => (r, ())) (fun n x => z7b n x.1)
 (fun n => []) (ann [] (Tryz.f98.body.getD .skip) 0).1
noncomputable def yb0 : List (FI dat) := [zga]
theorem y8n : (ze4).Good Tryz.prog dat (tb yb0) := FI.yz5 (hD := zz3 _) Tryz.func98 Tryz.ntmps98 Tryz.call98 (by kernel_rfl) (of_decide_eq_true (by kernel_rfl)) (by kernel_rfl) (fun n => by kernel_rfl) (fun x => by kernel_rfl) (fun _ => rfl) trivial
 (fun n => fun x => (z7b.eq_2 x.1 n).trans (by kernel_rfl))
 (fun n => trivial)
 (fun x => .inl rfl)
theorem y95 : OkL Tryz.prog [ze4] := yze (zz3 _) (bs := [zga]) ⟨yaf, trivial⟩ y8n
theorem y71 : FOk Tryz.prog ze4 := y95.1
mutual
def z6p : Nat → kz0 → Option Bool
 | 0, _ => none
 | n + 1, a0 =>
   (z8e n a0.op).bind fun y0 =>
   pIf (y0 == (-2))
     (z1z n true a0.re)
     (pIf (decide (y0 ≥ 0))
       (z1z n ((a0.args.length : Int) != y0) a0.re)
       (z1z n false a0.re))
def z1z : Nat → Bool → kz0 → Option Bool
 | 0, _, _ => none
 | n + 1, a0, a1 =>
   pIf a0
     (some false)
     (pIf (a1.op == 1)
       ((z7l n a1.value.re).bind fun y1 =>
       pIf (y1 != 0)
         (z01 n true a1.re)
         (pIf (a1.value.kind == 4)
           (z01 n true a1.re)
           (pIf (a1.op != 1)
             ((z19 n a1.value.re (yz0.mk 0 (zz2.mk 0 0) false [] [])).bind fun y2 =>
             z01 n (!y2) a1.re)
             (z01 n false a1.re))))
       (pIf (a1.op != 1)
         ((z19 n a1.value.re (yz0.mk 0 (zz2.mk 0 0) false [] [])).bind fun y3 =>
         z01 n (!y3) a1.re)
         (z01 n false a1.re)))
def z01 : Nat → Bool → kz0 → Option Bool
 | 0, _, _ => none
 | n + 1, a0, a1 =>
   pIf a0
     (some false)
     (pIf (a1.op == 2)
       ((z7b n a1.name).bind fun y4 =>
       pIf (!y4)
         (z0g n true a1.re)
         (pIf (a1.op != 2)
           (z0g n (decide ((a1.name.length : Int) > 0)) a1.re)
           (z0g n false a1.re)))
       (pIf (a1.op != 2)
         (z0g n (decide ((a1.name.length : Int) > 0)) a1.re)
         (z0g n false a1.re)))
def z0g : Nat → Bool → kz0 → Option Bool
 | 0, _, _ => none
 | n + 1, a0, a1 =>
   pIf a0
     (some false)
     (z3j n 0 a1.re)
def z3j : Nat → Int → kz0 → Option Bool
 | 0, _, _ => none
 | n + 1, a0, a1 =>
   pIf (decide (a0 < (a1.args.length : Int)))
     ((ix a1.args a0).bind fun x5 =>
     (z6p n x5.re).bind fun y6 =>
     pIf (!y6)
       (some false)
       (z3j n (IntKind.i64.wrap (a0 + 1)) a1.re))
     (some true)
end
def yd8 : LSh := ⟨[(2, (.d .bool))], [], 0, 82⟩
noncomputable def zdm : FI dat := FI.of dat 68 82 0 [(.d (.st 4))] [] [(.d .bool)] [] true yd8 (R := Bool) (fun x => x.1) (fun r => (r, ())) (fun n x => z6p n x.1)
 (fun n => [(0, ⟨⟨[(1, (.ptr 0 0)), (20, (.d .bool))], [(.st 4)], 0, 82⟩, fun x => z1z n x.1 x.2.1⟩), (1, ⟨⟨[(1, (.ptr 0 0)), (47, (.d .bool))], [(.st 4)], 0, 82⟩, fun x => z01 n x.1 x.2.1⟩), (2, ⟨⟨[(1, (.ptr 0 0)), (67, (.d .bool))], [(.st 4)], 0, 82⟩, fun x => z0g n x.1 x.2.1⟩), (3, ⟨⟨[(4, (.d (.int .i64))), (1, (.ptr 0 0))], [(.st 4)], 0, 82⟩, fun x => z3j n x.1 x.2.1⟩)]) (ann [(7, 0), (15, 1), (23, 2), (32, 3)] (Tryz.f68.body.getD .skip) 0).1
noncomputable def yd4 : List (FI dat) := [zdm] ++ [zg5, zeb, z9j, ze4]
theorem yg9 : (zdm).Good Tryz.prog dat (tb yd4) := FI.yz5 (hD := zz3 _) Tryz.func68 Tryz.ntmps68 Tryz.call68 (by kernel_rfl) (of_decide_eq_true (by kernel_rfl)) (by kernel_rfl) (fun n => by kernel_rfl) (fun x => by kernel_rfl) (fun _ => rfl) ⟨fun _ => rfl, fun _ => rfl, fun _ => rfl, fun _ => rfl, trivial⟩
 (fun n => fun x => (z6p.eq_2 x.1 n).trans (by kernel_rfl))
 (fun n => ⟨fun x => (z1z.eq_2 x.1 x.2.1 n).trans (by kernel_rfl),
  fun x => (z01.eq_2 x.1 x.2.1 n).trans (by kernel_rfl),
  fun x => (z0g.eq_2 x.1 x.2.1 n).trans (by kernel_rfl),
  fun x => (z3j.eq_2 x.1 x.2.1 n).trans (by kernel_rfl),
  trivial⟩)
 (fun x => .inl rfl)
theorem ydn : OkL Tryz.prog [zdm] := z4p (zz3 _) (bs := [zg5, zeb, z9j, ze4]) ⟨yab, y7w, zvj, y71, trivial⟩ ⟨yg9, trivial⟩
theorem y88 : FOk Tryz.prog zdm := ydn.1
mutual
def z1p : Nat → kz0 → Option Int
 | 0, _ => none
 | n + 1, a0 =>
   (z4h n a0.re).bind fun y0 =>
   pIf (decide (y0 > 100))
     (z2i n true a0.re)
     ((z6q n a0.re).bind fun y1 =>
     z2i n (decide (y1 > 12)) a0.re)
def z2i : Nat → Bool → kz0 → Option Int
 | 0, _, _ => none
 | n + 1, a0, a1 =>
   pIf a0
     (some 4)
     ((z6p n a1.re).bind fun y2 =>
     pIf (!y2)
       (some 8)
       (some 0))
end
def yb8 : LSh := ⟨[(2, (.d (.int .i64)))], [], 0, 14⟩
noncomputable def z78 : FI dat := FI.of dat 40 14 0 [(.d (.st 4))] [] [(.d (.int .i64))] [] true yb8 (R := Int) (fun x => x.1) (fun r => (r, ())) (fun n x => z1p n x.1)
 (fun n => [(0, ⟨⟨[(1, (.ptr 0 0)), (10, (.d .bool))], [(.st 4)], 0, 14⟩, fun x => z2i n x.1 x.2.1⟩)]) (ann [(5, 0)] (Tryz.f40.body.getD .skip) 0).1
noncomputable def y9b : List (FI dat) := [z8n, zds, zdm]
theorem ya1 : (z78).Good Tryz.prog dat (tb y9b) := FI.yz5 (hD := zz3 _) Tryz.func40 Tryz.ntmps40 Tryz.call40 (by kernel_rfl) (of_decide_eq_true (by kernel_rfl)) (by kernel_rfl) (fun n => by kernel_rfl) (fun x => by kernel_rfl) (fun _ => rfl) ⟨fun _ => rfl, trivial⟩
 (fun n => fun x => (z1p.eq_2 x.1 n).trans (by kernel_rfl))
 (fun n => ⟨fun x => (z2i.eq_2 x.1 x.2.1 n).trans (by kernel_rfl),
  trivial⟩)
 (fun x => .inl rfl)
theorem y8l : OkL Tryz.prog [z78] := yze (zz3 _) (bs := [z8n, zds, zdm]) ⟨zsy, ybh, y88, trivial⟩ ya1
theorem zkx : FOk Tryz.prog z78 := y8l.1
end Go.Proofs.YtfhpamcehnfhoaaGreatDoor


namespace Go.Proofs.YtfhpamcehnfhoaaGreatDoor
open Go Go.Ab
set_option linter.unusedVariables false
set_option maxRecDepth 100000
mutual
def z02 : Nat → Int → Option (List UInt8)
 | 0, _ => none
 | n + 1, a0 =>
   pIf (decide (a0 < 0))
     ((z02 n (IntKind.i64.wrap (0 - a0))).bind fun y0 =>
     (cat [45] y0).bind fun x1 =>
     some x1)
     (z07 n a0 [])
def z07 : Nat → Int → (List UInt8) → Option (List UInt8)
 | 0, _, _ => none
 | n + 1, a0, a1 =>
   (rem .i64 a0 10).bind fun x2 =>
   (zr2 [(IntKind.u8.wrap (IntKind.i64.wrap (48 + x2)))]).bind fun x3 =>
   (cat x3 a1).bind fun x4 =>
   (quo .i64 a0 10).bind fun x5 =>
   pIf (x5 == 0)
     (some x4)
     (z07 n x5 x4)
end
def y2u : LSh := ⟨[(2, (.d .str))], [], 0, 23⟩
noncomputable def z62 : FI dat := FI.of dat 132 23 0 [(.d (.int .i64))] [] [(.d .str)] [] true y2u (R := List UInt8) (fun x => x.1) (fun r => (r, ())) (fun n x => z02 n x.1)
 (fun n => [(0, ⟨⟨[(0, (.d (.int .i64))), (3, (.d .str))], [], 0, 23⟩, fun x => z07 n x.1 x.2.1⟩)]) (ann [(13, 0)] (Tryz.f132.body.getD .skip) 0).1
noncomputable def y3g : List (FI dat) := [z62] ++ []
theorem y3m : (z62).Good Tryz.prog dat (tb y3g) := FI.yz5 (hD := zz3 _) Tryz.func132 Tryz.ntmps132 Tryz.call132 (by kernel_rfl) (of_decide_eq_true (by kernel_rfl)) (by kernel_rfl) (fun n => by kernel_rfl) (fun x => by kernel_rfl) (fun _ => rfl) ⟨fun _ => rfl, trivial⟩
 (fun n => fun x => (z02.eq_2 x.1 n).trans (by kernel_rfl))
 (fun n => ⟨fun x => (z07.eq_2 x.1 x.2.1 n).trans (by kernel_rfl),
  trivial⟩)
 (fun x => .inl rfl)
theorem y2z : OkL Tryz.prog [z62] := z4p (zz3 _) (bs := []) trivial ⟨y3m, trivial⟩
theorem zp4 : FOk Tryz.prog z62 := y2z.1
def zbp : Nat → zz2 → Option ((List UInt8) × Int)
 | 0, _ => none
 | n + 1, a0 =>
   (z1t n a0).bind fun y0 =>
   pIf (y0 != 0)
     ((z1t n a0).bind fun y1 =>
     some ([], y1))
     (pIf (a0.den == 1)
       ((z02 n a0.num).bind fun y2 =>
       some (y2, 0))
       ((z02 n a0.num).bind fun y3 =>
       (cat y3 [47]).bind fun x4 =>
       (z02 n a0.den).bind fun y5 =>
       (cat x4 y5).bind fun x6 =>
       some (x6, 0)))
def yh0 : LSh := ⟨[(2, (.d .str)), (3, (.d (.int .i64)))], [], 0, 23⟩
noncomputable def zfq : FI dat := FI.of dat 99 23 0 [(.d (.st 2))] [] [(.d .str), (.d (.int .i64))] [] true yh0 (R := (List UInt8) × Int) (fun x => (x.1, x.2.1)) (fun r => (r.1, r.2, ())) (fun n x => zbp n x.1)
 (fun n => []) (ann [] (Tryz.f99.body.getD .skip) 0).1
noncomputable def ygq : List (FI dat) := [z6x, z62]
theorem yej : (zfq).Good Tryz.prog dat (tb ygq) := FI.yz5 (hD := zz3 _) Tryz.func99 Tryz.ntmps99 Tryz.call99 (by kernel_rfl) (of_decide_eq_true (by kernel_rfl)) (by kernel_rfl) (fun n => by kernel_rfl) (fun x => by kernel_rfl) (fun _ => rfl) trivial
 (fun n => fun x => (zbp.eq_2 x.1 n).trans (by kernel_rfl))
 (fun n => trivial)
 (fun x => .inl rfl)
theorem yfw : OkL Tryz.prog [zfq] := yze (zz3 _) (bs := [z6x, z62]) ⟨zkz, zp4, trivial⟩ yej
theorem y8x : FOk Tryz.prog zfq := yfw.1
mutual
def z6h : Nat → yz0 → Option (List UInt8)
 | 0, _ => none
 | n + 1, a0 =>
   pIf (a0.kind == 1)
     ((zbp n a0.num).bind fun y0 =>
     some y0.1)
     (pIf (a0.kind == 2)
       (pIf a0.truth
         (some [116, 114, 117, 101])
         (some [102, 97, 108, 115, 101]))
       (pIf (a0.kind == 3)
         (z42 n 0 [34] a0.re)
         (za6 n 0 [91] a0.re)))
def z42 : Nat → Int → (List UInt8) → yz0 → Option (List UInt8)
 | 0, _, _, _ => none
 | n + 1, a0, a1, a2 =>
   pIf (decide (a0 < (a2.str.length : Int)))
     ((ix a2.str a0).bind fun x1 =>
     pIf ((x1.toNat : Int) == 34)
       (z4d n a0 a1 true a2.re)
       ((ix a2.str a0).bind fun x2 =>
       z4d n a0 a1 ((x2.toNat : Int) == 92) a2.re))
     ((cat a1 [34]).bind fun x3 =>
     some x3)
def z4d : Nat → Int → (List UInt8) → Bool → yz0 → Option (List UInt8)
 | 0, _, _, _, _ => none
 | n + 1, a0, a1, a2, a3 =>
   pIf a2
     ((cat a1 [92]).bind fun x6 =>
     z4b n a0 x6 a3.re)
     (z4b n a0 a1 a3.re)
def z4b : Nat → Int → (List UInt8) → yz0 → Option (List UInt8)
 | 0, _, _, _ => none
 | n + 1, a0, a1, a2 =>
   (sub a2.str a0 (IntKind.i64.wrap (a0 + 1))).bind fun x10 =>
   (cat a1 x10).bind fun x11 =>
   z42 n (IntKind.i64.wrap (a0 + 1)) x11 a2.re
def za6 : Nat → Int → (List UInt8) → yz0 → Option (List UInt8)
 | 0, _, _, _ => none
 | n + 1, a0, a1, a2 =>
   pIf (decide (a0 < (a2.list.length : Int)))
     (pIf (decide (a0 > 0))
       ((cat a1 [44, 32]).bind fun x4 =>
       za7 n a0 x4 a2.re)
       (za7 n a0 a1 a2.re))
     ((cat a1 [93]).bind fun x5 =>
     some x5)
def za7 : Nat → Int → (List UInt8) → yz0 → Option (List UInt8)
 | 0, _, _, _ => none
 | n + 1, a0, a1, a2 =>
   (ix a2.list a0).bind fun x7 =>
   (z6h n x7.re).bind fun y8 =>
   (cat a1 y8).bind fun x9 =>
   za6 n (IntKind.i64.wrap (a0 + 1)) x9 a2.re
end
def y2x : LSh := ⟨[(2, (.d .str))], [], 0, 78⟩
noncomputable def z9f : FI dat := FI.of dat 69 78 0 [(.d (.st 3))] [] [(.d .str)] [] true y2x (R := List UInt8) (fun x => x.1) (fun r => (r, ())) (fun n x => z6h n x.1)
 (fun n => [(0, ⟨⟨[(6, (.d (.int .i64))), (1, (.ptr 0 0)), (5, (.d .str))], [(.st 3)], 0, 78⟩, fun x => z42 n x.1 x.2.1 x.2.2.1⟩), (1, ⟨⟨[(1, (.ptr 0 0)), (6, (.d (.int .i64))), (5, (.d .str)), (44, (.d .bool))], [(.st 3)], 0, 78⟩, fun x => z4d n x.1 x.2.1 x.2.2.1 x.2.2.2.1⟩), (2, ⟨⟨[(1, (.ptr 0 0)), (6, (.d (.int .i64))), (5, (.d .str))], [(.st 3)], 0, 78⟩, fun x => z4b n x.1 x.2.1 x.2.2.1⟩), (3, ⟨⟨[(8, (.d (.int .i64))), (1, (.ptr 0 0)), (7, (.d .str))], [(.st 3)], 0, 78⟩, fun x => za6 n x.1 x.2.1 x.2.2.1⟩), (4, ⟨⟨[(1, (.ptr 0 0)), (8, (.d (.int .i64))), (7, (.d .str))], [(.st 3)], 0, 78⟩, fun x => za7 n x.1 x.2.1 x.2.2.1⟩)]) (ann [(37, 0), (49, 1), (52, 2), (64, 3), (79, 4)] (Tryz.f69.body.getD .skip) 0).1
noncomputable def y31 : List (FI dat) := [z9f] ++ [zfq]
theorem y3a : (z9f).Good Tryz.prog dat (tb y31) := FI.yz5 (hD := zz3 _) Tryz.func69 Tryz.ntmps69 Tryz.call69 (by kernel_rfl) (of_decide_eq_true (by kernel_rfl)) (by kernel_rfl) (fun n => by kernel_rfl) (fun x => by kernel_rfl) (fun _ => rfl) ⟨fun _ => rfl, fun _ => rfl, fun _ => rfl, fun _ => rfl, fun _ => rfl, trivial⟩
 (fun n => fun x => (z6h.eq_2 x.1 n).trans (by kernel_rfl))
 (fun n => ⟨fun x => (z42.eq_2 x.1 x.2.1 x.2.2.1 n).trans (by kernel_rfl),
  fun x => (z4d.eq_2 x.1 x.2.1 x.2.2.1 x.2.2.2.1 n).trans (by kernel_rfl),
  fun x => (z4b.eq_2 x.1 x.2.1 x.2.2.1 n).trans (by kernel_rfl),
  fun x => (za6.eq_2 x.1 x.2.1 x.2.2.1 n).trans (by kernel_rfl),
  fun x => (za7.eq_2 x.1 x.2.1 x.2.2.1 n).trans (by kernel_rfl),
  trivial⟩)
 (fun x => .inl rfl)
theorem y33 : OkL Tryz.prog [z9f] := z4p (zz3 _) (bs := [zfq]) ⟨y8x, trivial⟩ ⟨y3a, trivial⟩
theorem y00 : FOk Tryz.prog z9f := y33.1
mutual
def z6r : Nat → Int → Option (List UInt8)
 | 0, _ => none
 | n + 1, a0 =>
   pIf (decide (a0 ≥ 3))
     (z8s n a0 (decide (a0 ≤ 10)) (zaa.mk [43] [45] [42] [47] [60] [61] [97, 110, 100] [111, 114]))
     (z8s n a0 false (zaa.mk [43] [45] [42] [47] [60] [61] [97, 110, 100] [111, 114]))
def z8s : Nat → Int → Bool → zaa → Option (List UInt8)
 | 0, _, _, _ => none
 | n + 1, a0, a1, a2 =>
   pIf a1
     ((inR 8 (IntKind.u8.wrap (a0 - 3))).bind fun x0 =>
     pIf ((IntKind.u8.wrap (a0 - 3)) == (((6 + 1) : Nat) : Int))
       (some a2.e7)
       (pIf ((IntKind.u8.wrap (a0 - 3)) == (((5 + 1) : Nat) : Int))
         (some a2.e6)
         (pIf ((IntKind.u8.wrap (a0 - 3)) == (((4 + 1) : Nat) : Int))
           (some a2.e5)
           (pIf ((IntKind.u8.wrap (a0 - 3)) == (((3 + 1) : Nat) : Int))
             (some a2.e4)
             (pIf ((IntKind.u8.wrap (a0 - 3)) == (((2 + 1) : Nat) : Int))
               (some a2.e3)
               (pIf ((IntKind.u8.wrap (a0 - 3)) == (((1 + 1) : Nat) : Int))
                 (some a2.e2)
                 (pIf ((IntKind.u8.wrap (a0 - 3)) == (((0 + 1) : Nat) : Int))
                   (some a2.e1)
                   (some a2.e0))))))))
     (some [])
end
def ye1 : LSh := ⟨[(2, (.d .str))], [], 0, 15⟩
noncomputable def zbc : FI dat := FI.of dat 70 15 0 [(.d (.int .u8))] [] [(.d .str)] [] true ye1 (R := List UInt8) (fun x => x.1) (fun r => (r, ())) (fun n x => z6r n x.1)
 (fun n => [(0, ⟨⟨[(3, (.ptr 0 0)), (0, (.d (.int .u8))), (10, (.d .bool))], [(.st 0)], 0, 15⟩, fun x => z8s n x.1 x.2.1 x.2.2.1⟩)]) (ann [(7, 0)] (Tryz.f70.body.getD .skip) 0).1
noncomputable def yfv : List (FI dat) := []
theorem ycx : (zbc).Good Tryz.prog dat (tb yfv) := FI.yz5 (hD := zz3 _) Tryz.func70 Tryz.ntmps70 Tryz.call70 (by kernel_rfl) (of_decide_eq_true (by kernel_rfl)) (by kernel_rfl) (fun n => by kernel_rfl) (fun x => by kernel_rfl) (fun _ => rfl) ⟨fun _ => rfl, trivial⟩
 (fun n => fun x => (z6r.eq_2 x.1 n).trans (by kernel_rfl))
 (fun n => ⟨fun x => (z8s.eq_2 x.1 x.2.1 x.2.2.1 n).trans (by kernel_rfl),
  trivial⟩)
 (fun x => .inl rfl)
theorem ycr : OkL Tryz.prog [zbc] := yze (zz3 _) (bs := []) trivial ycx
theorem zvi : FOk Tryz.prog zbc := ycr.1
mutual
def z7x : Nat → Int → Option (List UInt8)
 | 0, _ => none
 | n + 1, a0 =>
   pIf (decide (a0 ≥ 11))
     (z6k n a0 (decide (a0 ≤ 17)) (za8.mk [110, 111, 116] [105, 102] [109, 105, 110] [109, 97, 120] [102, 108, 111, 111, 114] [108, 101, 110] [97, 116]))
     (z6k n a0 false (za8.mk [110, 111, 116] [105, 102] [109, 105, 110] [109, 97, 120] [102, 108, 111, 111, 114] [108, 101, 110] [97, 116]))
def z6k : Nat → Int → Bool → za8 → Option (List UInt8)
 | 0, _, _, _ => none
 | n + 1, a0, a1, a2 =>
   pIf a1
     ((inR 7 (IntKind.u8.wrap (a0 - 11))).bind fun x0 =>
     pIf ((IntKind.u8.wrap (a0 - 11)) == (((5 + 1) : Nat) : Int))
       (some a2.e6)
       (pIf ((IntKind.u8.wrap (a0 - 11)) == (((4 + 1) : Nat) : Int))
         (some a2.e5)
         (pIf ((IntKind.u8.wrap (a0 - 11)) == (((3 + 1) : Nat) : Int))
           (some a2.e4)
           (pIf ((IntKind.u8.wrap (a0 - 11)) == (((2 + 1) : Nat) : Int))
             (some a2.e3)
             (pIf ((IntKind.u8.wrap (a0 - 11)) == (((1 + 1) : Nat) : Int))
               (some a2.e2)
               (pIf ((IntKind.u8.wrap (a0 - 11)) == (((0 + 1) : Nat) : Int))
                 (some a2.e1)
                 (some a2.e0)))))))
     (some [])
end
def y7r : LSh := ⟨[(2, (.d .str))], [], 0, 15⟩
noncomputable def z8u : FI dat := FI.of dat 71 15 0 [(.d (.int .u8))] [] [(.d .str)] [] true y7r (R := List UInt8) (fun x => x.1) (fun r => (r, ())) (fun n x => z7x n x.1)
 (fun n => [(0, ⟨⟨[(3, (.ptr 0 0)), (0, (.d (.int .u8))), (10, (.d .bool))], [(.st 1)], 0, 15⟩, fun x => z6k n x.1 x.2.1 x.2.2.1⟩)]) (ann [(7, 0)] (Tryz.f71.body.getD .skip) 0).1
noncomputable def y5g : List (FI dat) := []
theorem y6e : (z8u).Good Tryz.prog dat (tb y5g) := FI.yz5 (hD := zz3 _) Tryz.func71 Tryz.ntmps71 Tryz.call71 (by kernel_rfl) (of_decide_eq_true (by kernel_rfl)) (by kernel_rfl) (fun n => by kernel_rfl) (fun x => by kernel_rfl) (fun _ => rfl) ⟨fun _ => rfl, trivial⟩
 (fun n => fun x => (z7x.eq_2 x.1 n).trans (by kernel_rfl))
 (fun n => ⟨fun x => (z6k.eq_2 x.1 x.2.1 x.2.2.1 n).trans (by kernel_rfl),
  trivial⟩)
 (fun x => .inl rfl)
theorem y7y : OkL Tryz.prog [z8u] := yze (zz3 _) (bs := []) trivial y6e
theorem zqg : FOk Tryz.prog z8u := y7y.1
mutual
def z1x : Nat → kz0 → Option (List UInt8)
 | 0, _ => none
 | n + 1, a0 =>
   pIf (a0.op == 1)
     ((z6h n a0.value.re).bind fun y0 =>
     some y0)
     (pIf (a0.op == 2)
       (some a0.name)
       ((z6r n a0.op).bind fun y1 =>
       pIf (decide ((y1.length : Int) > 0))
         ((ix a0.args 0).bind fun x2 =>
         (z1x n x2.re).bind fun y3 =>
         (cat [40] y3).bind fun x4 =>
         (cat x4 [32]).bind fun x5 =>
         (z6r n a0.op).bind fun y6 =>
         (cat x5 y6).bind fun x7 =>
         (cat x7 [32]).bind fun x8 =>
         (ix a0.args 1).bind fun x9 =>
         (z1x n x9.re).bind fun y10 =>
         (cat x8 y10).bind fun x11 =>
         (cat x11 [41]).bind fun x12 =>
         some x12)
         (pIf (a0.op != 18)
           ((z7x n a0.op).bind fun y13 =>
           (cat y13 [40]).bind fun x14 =>
           z4a n x14 a0.re)
           (z4a n [91] a0.re))))
def z4a : Nat → (List UInt8) → kz0 → Option (List UInt8)
 | 0, _, _ => none
 | n + 1, a0, a1 =>
   z41 n 0 a0 a1.re
def z41 : Nat → Int → (List UInt8) → kz0 → Option (List UInt8)
 | 0, _, _, _ => none
 | n + 1, a0, a1, a2 =>
   pIf (decide (a0 < (a2.args.length : Int)))
     (pIf (decide (a0 > 0))
       ((cat a1 [44, 32]).bind fun x15 =>
       z47 n a0 x15 a2.re)
       (z47 n a0 a1 a2.re))
     (pIf (a2.op == 18)
       ((cat a1 [93]).bind fun x16 =>
       some x16)
       ((cat a1 [41]).bind fun x17 =>
       some x17))
def z47 : Nat → Int → (List UInt8) → kz0 → Option (List UInt8)
 | 0, _, _, _ => none
 | n + 1, a0, a1, a2 =>
   (ix a2.args a0).bind fun x18 =>
   (z1x n x18.re).bind fun y19 =>
   (cat a1 y19).bind fun x20 =>
   z41 n (IntKind.i64.wrap (a0 + 1)) x20 a2.re
end
def y3e : LSh := ⟨[(2, (.d .str))], [], 0, 76⟩
noncomputable def z9g : FI dat := FI.of dat 41 76 0 [(.d (.st 4))] [] [(.d .str)] [] true y3e (R := List UInt8) (fun x => x.1) (fun r => (r, ())) (fun n x => z1x n x.1)
 (fun n => [(0, ⟨⟨[(1, (.ptr 0 0)), (3, (.d .str))], [(.st 4)], 0, 76⟩, fun x => z4a n x.1 x.2.1⟩), (1, ⟨⟨[(4, (.d (.int .i64))), (1, (.ptr 0 0)), (3, (.d .str))], [(.st 4)], 0, 76⟩, fun x => z41 n x.1 x.2.1 x.2.2.1⟩), (2, ⟨⟨[(1, (.ptr 0 0)), (4, (.d (.int .i64))), (3, (.d .str))], [(.st 4)], 0, 76⟩, fun x => z47 n x.1 x.2.1 x.2.2.1⟩)]) (ann [(31, 0), (35, 1), (50, 2)] (Tryz.f41.body.getD .skip) 0).1
noncomputable def y37 : List (FI dat) := [z9g] ++ [z9f, zbc, z8u]
theorem y3u : (z9g).Good Tryz.prog dat (tb y37) := FI.yz5 (hD := zz3 _) Tryz.func41 Tryz.ntmps41 Tryz.call41 (by kernel_rfl) (of_decide_eq_true (by kernel_rfl)) (by kernel_rfl) (fun n => by kernel_rfl) (fun x => by kernel_rfl) (fun _ => rfl) ⟨fun _ => rfl, fun _ => rfl, fun _ => rfl, trivial⟩
 (fun n => fun x => (z1x.eq_2 x.1 n).trans (by kernel_rfl))
 (fun n => ⟨fun x => (z4a.eq_2 x.1 x.2.1 n).trans (by kernel_rfl),
  fun x => (z41.eq_2 x.1 x.2.1 x.2.2.1 n).trans (by kernel_rfl),
  fun x => (z47.eq_2 x.1 x.2.1 x.2.2.1 n).trans (by kernel_rfl),
  trivial⟩)
 (fun x => .inl rfl)
theorem y3k : OkL Tryz.prog [z9g] := z4p (zz3 _) (bs := [z9f, zbc, z8u]) ⟨y00, zvi, zqg, trivial⟩ ⟨y3u, trivial⟩
theorem y1c : FOk Tryz.prog z9g := y3k.1
def zbv : Nat → kz0 → Option ((List UInt8) × Int)
 | 0, _ => none
 | n + 1, a0 =>
   (z1p n a0.re).bind fun y0 =>
   pIf (y0 != 0)
     ((z1p n a0.re).bind fun y1 =>
     some ([], y1))
     ((z1x n a0.re).bind fun y2 =>
     pIf (decide ((y2.length : Int) > 4000))
       (some ([], 4))
       (some (y2, 0)))
def yck : LSh := ⟨[(2, (.d .str)), (3, (.d (.int .i64)))], [], 0, 16⟩
noncomputable def zg0 : FI dat := FI.of dat 12 16 0 [(.d (.st 4))] [] [(.d .str), (.d (.int .i64))] [] true yck (R := (List UInt8) × Int) (fun x => (x.1, x.2.1)) (fun r => (r.1, r.2, ())) (fun n x => zbv n x.1)
 (fun n => []) (ann [] (Tryz.f12.body.getD .skip) 0).1
noncomputable def yfh : List (FI dat) := [z78, z9g]
theorem yeg : (zg0).Good Tryz.prog dat (tb yfh) := FI.yz5 (hD := zz3 _) Tryz.func12 Tryz.ntmps12 Tryz.call12 (by kernel_rfl) (of_decide_eq_true (by kernel_rfl)) (by kernel_rfl) (fun n => by kernel_rfl) (fun x => by kernel_rfl) (fun _ => rfl) trivial
 (fun n => fun x => (zbv.eq_2 x.1 n).trans (by kernel_rfl))
 (fun n => trivial)
 (fun x => .inl rfl)
theorem ygp : OkL Tryz.prog [zg0] := yze (zz3 _) (bs := [z78, z9g]) ⟨zkx, y1c, trivial⟩ yeg
theorem y96 : FOk Tryz.prog zg0 := ygp.1
def kzq : Nat → Int → Option (Res (Int × Unit) Unit)
 | 0, _ => none
 | n + 1, a0 =>
   pIf (a0 != 0)
     (some (Res.pan (a0, ())))
     (some (Res.ok ()))
def zt5 : LSh := ⟨[], [], 0, 6⟩
noncomputable def z2r : FI dat := FI.ofP dat 74 6 0 [(.d (.int .i64))] [] [] [] (.iface 31 (.d (.int .i64))) [] [] zt5 (R := Unit) (fun x => ()) (fun _ => ()) (fun n x => kzq n x.1)
 (fun n => []) (ann [] (Tryz.f74.body.getD .skip) 0).1
noncomputable def zs0 : List (FI dat) := []
theorem zs5 : (z2r).Good Tryz.prog dat (tb zs0) := FI.zp2 (hD := zz3 _) Tryz.func74 Tryz.ntmps74 Tryz.call74 (by kernel_rfl) (of_decide_eq_true (by kernel_rfl)) (by kernel_rfl) (fun n => by kernel_rfl) trivial (fun x => by kernel_rfl) (fun _ => rfl) trivial
 (fun n => fun x => (kzq.eq_2 x.1 n).trans (by kernel_rfl))
 (fun n => trivial)
 (fun x => by kernel_rfl)
theorem zrh : OkL Tryz.prog [z2r] := yze (zz3 _) (bs := []) trivial zs5
theorem zfo : FOk Tryz.prog z2r := zrh.1
def kz6 : Nat → (List UInt8) → (List UInt8) → Option Bool
 | 0, _, _ => none
 | n + 1, a0, a1 =>
   pIf (decide ((a0.length : Int) ≥ (a1.length : Int)))
     ((sub a0 0 (a1.length : Int)).bind fun x0 =>
     some (x0 == a1))
     (some false)
def z5o : LSh := ⟨[(4, (.d .bool))], [], 0, 18⟩
noncomputable def zza : FI dat := FI.of dat 162 18 0 [(.d .str), (.d .str)] [] [(.d .bool)] [] true z5o (R := Bool) (fun x => x.1) (fun r => (r, ())) (fun n x => kz6 n x.1 x.2.1)
 (fun n => []) (ann [] (Tryz.f162.body.getD .skip) 0).1
noncomputable def z5k : List (FI dat) := []
theorem z5m : (zza).Good Tryz.prog dat (tb z5k) := FI.yz5 (hD := zz3 _) Tryz.func162 Tryz.ntmps162 Tryz.call162 (by kernel_rfl) (of_decide_eq_true (by kernel_rfl)) (by kernel_rfl) (fun n => by kernel_rfl) (fun x => by kernel_rfl) (fun _ => rfl) trivial
 (fun n => fun x => (kz6.eq_2 x.1 x.2.1 n).trans (by kernel_rfl))
 (fun n => trivial)
 (fun x => .inl rfl)
theorem z5p : OkL Tryz.prog [zza] := yze (zz3 _) (bs := []) trivial z5m
theorem z5f : FOk Tryz.prog zza := z5p.1
end Go.Proofs.YtfhpamcehnfhoaaGreatDoor


namespace Go.Proofs.YtfhpamcehnfhoaaGreatDoor
open Go Go.Ab
set_option linter.unusedVariables false
set_option maxRecDepth 100000
def zze : Nat → (List UInt8) → (List UInt8) → Option ((List UInt8) × Bool)
 | 0, _, _ => none
 | n + 1, a0, a1 =>
   (kz6 n a0 a1).bind fun y0 =>
   pIf (!y0)
     (some (a0, false))
     ((sub a0 (a1.length : Int) (a0.length : Int)).bind fun x1 =>
     some (x1, true))
def zgo : LSh := ⟨[(4, (.d .str)), (5, (.d .bool))], [], 0, 15⟩
noncomputable def z0k : FI dat := FI.of dat 161 15 0 [(.d .str), (.d .str)] [] [(.d .str), (.d .bool)] [] true zgo (R := (List UInt8) × Bool) (fun x => (x.1, x.2.1)) (fun r => (r.1, r.2, ())) (fun n x => zze n x.1 x.2.1)
 (fun n => []) (ann [] (Tryz.f161.body.getD .skip) 0).1
noncomputable def zfr : List (FI dat) := [zza]
theorem zfu : (z0k).Good Tryz.prog dat (tb zfr) := FI.yz5 (hD := zz3 _) Tryz.func161 Tryz.ntmps161 Tryz.call161 (by kernel_rfl) (of_decide_eq_true (by kernel_rfl)) (by kernel_rfl) (fun n => by kernel_rfl) (fun x => by kernel_rfl) (fun _ => rfl) trivial
 (fun n => fun x => (zze.eq_2 x.1 x.2.1 n).trans (by kernel_rfl))
 (fun n => trivial)
 (fun x => .inl rfl)
theorem zft : OkL Tryz.prog [z0k] := yze (zz3 _) (bs := [zza]) ⟨z5f, trivial⟩ zfu
theorem zfj : FOk Tryz.prog z0k := zft.1
def zzy : Nat → (List UInt8) → (List UInt8) → Option ((List UInt8) × Bool)
 | 0, _, _ => none
 | n + 1, a0, a1 =>
   (zze n a0 a1).bind fun y0 =>
   some (y0.1, y0.2)
def zuj : LSh := ⟨[(4, (.d .str)), (5, (.d .bool))], [], 0, 11⟩
noncomputable def z48 : FI dat := FI.of dat 133 11 0 [(.d .str), (.d .str)] [] [(.d .str), (.d .bool)] [] true zuj (R := (List UInt8) × Bool) (fun x => (x.1, x.2.1)) (fun r => (r.1, r.2, ())) (fun n x => zzy n x.1 x.2.1)
 (fun n => []) (ann [] (Tryz.f133.body.getD .skip) 0).1
noncomputable def zue : List (FI dat) := [z0k]
theorem zun : (z48).Good Tryz.prog dat (tb zue) := FI.yz5 (hD := zz3 _) Tryz.func133 Tryz.ntmps133 Tryz.call133 (by kernel_rfl) (of_decide_eq_true (by kernel_rfl)) (by kernel_rfl) (fun n => by kernel_rfl) (fun x => by kernel_rfl) (fun _ => rfl) trivial
 (fun n => fun x => (zzy.eq_2 x.1 x.2.1 n).trans (by kernel_rfl))
 (fun n => trivial)
 (fun x => .inl rfl)
theorem zus : OkL Tryz.prog [z48] := yze (zz3 _) (bs := [z0k]) ⟨zfj, trivial⟩ zun
theorem ziv : FOk Tryz.prog z48 := zus.1
def kz7 : Nat → (List UInt8) → yz3 → Option (Bool × yz3)
 | 0, _, _ => none
 | n + 1, a0, a1 =>
   (zzy n a1.s a0).bind fun y0 =>
   some (y0.2, (yz3.mk y0.1))
def zw8 : LSh := ⟨[(4, (.d .bool))], [(.st 6)], 1, 21⟩
noncomputable def z4y : FI dat := FI.of dat 100 21 1 [(.ptr 0 0), (.d .str)] [(.st 6)] [(.d .bool)] [(.st 6)] false zw8 (R := Bool × yz3) (fun x => (x.1, x.2.1)) (fun r => (r.1, r.2, ())) (fun n x => kz7 n x.1 x.2.1)
 (fun n => []) (ann [] (Tryz.f100.body.getD .skip) 0).1
noncomputable def zvz : List (FI dat) := [z48]
theorem zwd : (z4y).Good Tryz.prog dat (tb zvz) := FI.yz5 (hD := zz3 _) Tryz.func100 Tryz.ntmps100 Tryz.call100 (by kernel_rfl) (of_decide_eq_true (by kernel_rfl)) (by kernel_rfl) (fun n => by kernel_rfl) (fun x => by kernel_rfl) (fun _ => rfl) trivial
 (fun n => fun x => (kz7.eq_2 x.1 x.2.1 n).trans (by kernel_rfl))
 (fun n => trivial)
 (fun x => .inr (by kernel_rfl))
theorem zwn : OkL Tryz.prog [z4y] := yze (zz3 _) (bs := [z48]) ⟨ziv, trivial⟩ zwd
theorem zjs : FOk Tryz.prog z4y := zwn.1
def yzc : Nat → (List UInt8) → yz3 → Option (Res (Int × Unit) yz3)
 | 0, _, _ => none
 | n + 1, a0, a1 =>
   (kz7 n a0 a1).bind fun y0 =>
   pIf (!y0.1)
     ((kzq n 12).bind fun y1 =>
     zh5 y1 (fun r2 =>
       some (Res.ok y0.2))
       (fun e3 =>
       some (Res.pan (e3.1, ()))))
     (some (Res.ok y0.2))
def zw0 : LSh := ⟨[], [(.st 6)], 1, 9⟩
noncomputable def z8y : FI dat := FI.ofP dat 101 9 1 [(.ptr 0 0), (.d .str)] [(.st 6)] [] [(.st 6)] (.iface 31 (.d (.int .i64))) [(.cells [.any])] [] zw0 (R := yz3) (fun x => x.1) (fun r => (r, ())) (fun n x => yzc n x.1 x.2.1)
 (fun n => []) (ann [] (Tryz.f101.body.getD .skip) 0).1
noncomputable def zvt : List (FI dat) := [z4y, z2r]
theorem zw1 : (z8y).Good Tryz.prog dat (tb zvt) := FI.zp2 (hD := zz3 _) Tryz.func101 Tryz.ntmps101 Tryz.call101 (by kernel_rfl) (of_decide_eq_true (by kernel_rfl)) (by kernel_rfl) (fun n => by kernel_rfl) trivial (fun x => by kernel_rfl) (fun _ => rfl) trivial
 (fun n => fun x => (yzc.eq_2 x.1 x.2.1 n).trans (by kernel_rfl))
 (fun n => trivial)
 (fun x => by kernel_rfl)
theorem zwr : OkL Tryz.prog [z8y] := yze (zz3 _) (bs := [z4y, z2r]) ⟨zjs, zfo, trivial⟩ zw1
theorem zul : FOk Tryz.prog z8y := zwr.1
def z0m : Nat → (List UInt8) → (List UInt8) → Option Bool
 | 0, _, _ => none
 | n + 1, a0, a1 =>
   (kz6 n a0 a1).bind fun y0 =>
   some y0
def zuf : LSh := ⟨[(4, (.d .bool))], [], 0, 8⟩
noncomputable def z43 : FI dat := FI.of dat 134 8 0 [(.d .str), (.d .str)] [] [(.d .bool)] [] true zuf (R := Bool) (fun x => x.1) (fun r => (r, ())) (fun n x => z0m n x.1 x.2.1)
 (fun n => []) (ann [] (Tryz.f134.body.getD .skip) 0).1
noncomputable def zug : List (FI dat) := [zza]
theorem zuv : (z43).Good Tryz.prog dat (tb zug) := FI.yz5 (hD := zz3 _) Tryz.func134 Tryz.ntmps134 Tryz.call134 (by kernel_rfl) (of_decide_eq_true (by kernel_rfl)) (by kernel_rfl) (fun n => by kernel_rfl) (fun x => by kernel_rfl) (fun _ => rfl) trivial
 (fun n => fun x => (z0m.eq_2 x.1 x.2.1 n).trans (by kernel_rfl))
 (fun n => trivial)
 (fun x => .inl rfl)
theorem zuh : OkL Tryz.prog [z43] := yze (zz3 _) (bs := [zza]) ⟨z5f, trivial⟩ zuv
theorem zj8 : FOk Tryz.prog z43 := zuh.1
def kzy : Nat → (List UInt8) → Int → Option Int
 | 0, _, _ => none
 | n + 1, a0, a1 =>
   (yzo n a0 a1).bind fun y0 =>
   some y0
def zut : LSh := ⟨[(4, (.d (.int .i64)))], [], 0, 8⟩
noncomputable def z4c : FI dat := FI.of dat 135 8 0 [(.d .str), (.d (.int .u8))] [] [(.d (.int .i64))] [] true zut (R := Int) (fun x => x.1) (fun r => (r, ())) (fun n x => kzy n x.1 x.2.1)
 (fun n => []) (ann [] (Tryz.f135.body.getD .skip) 0).1
noncomputable def zuk : List (FI dat) := [z0l]
theorem zuy : (z4c).Good Tryz.prog dat (tb zuk) := FI.yz5 (hD := zz3 _) Tryz.func135 Tryz.ntmps135 Tryz.call135 (by kernel_rfl) (of_decide_eq_true (by kernel_rfl)) (by kernel_rfl) (fun n => by kernel_rfl) (fun x => by kernel_rfl) (fun _ => rfl) trivial
 (fun n => fun x => (kzy.eq_2 x.1 x.2.1 n).trans (by kernel_rfl))
 (fun n => trivial)
 (fun x => .inl rfl)
theorem zur : OkL Tryz.prog [z4c] := yze (zz3 _) (bs := [z0l]) ⟨z9b, trivial⟩ zuy
theorem zik : FOk Tryz.prog z4c := zur.1
def kz9 : Nat → (List UInt8) → kz3 → Option (Bool × kz3)
 | 0, _, _ => none
 | n + 1, a0, a1 =>
   (sub a1.s a1.at_ (a1.s.length : Int)).bind fun x0 =>
   (z0m n x0 a0).bind fun y1 =>
   pIf (!y1)
     (some (false, a1))
     (some (true, (kz3.mk a1.s (IntKind.i64.wrap (a1.at_ + (a0.length : Int))) a1.ok)))
def zuq : LSh := ⟨[(4, (.d .bool))], [(.st 7)], 1, 26⟩
noncomputable def z86 : FI dat := FI.of dat 178 26 1 [(.ptr 0 0), (.d .str)] [(.st 7)] [(.d .bool)] [(.st 7)] false zuq (R := Bool × kz3) (fun x => (x.1, x.2.1)) (fun r => (r.1, r.2, ())) (fun n x => kz9 n x.1 x.2.1)
 (fun n => []) (ann [] (Tryz.f178.body.getD .skip) 0).1
noncomputable def zuo : List (FI dat) := [z43]
theorem zu6 : (z86).Good Tryz.prog dat (tb zuo) := FI.yz5 (hD := zz3 _) Tryz.func178 Tryz.ntmps178 Tryz.call178 (by kernel_rfl) (of_decide_eq_true (by kernel_rfl)) (by kernel_rfl) (fun n => by kernel_rfl) (fun x => by kernel_rfl) (fun _ => rfl) trivial
 (fun n => fun x => (kz9.eq_2 x.1 x.2.1 n).trans (by kernel_rfl))
 (fun n => trivial)
 (fun x => .inr (by kernel_rfl))
theorem zui : OkL Tryz.prog [z86] := yze (zz3 _) (bs := [z43]) ⟨zj8, trivial⟩ zu6
theorem zsr : FOk Tryz.prog z86 := zui.1
mutual
def zzl : Nat → kz3 → Option ((List UInt8) × kz3)
 | 0, _ => none
 | n + 1, a0 =>
   yz9 n a0 []
def yz9 : Nat → kz3 → (List Int) → Option ((List UInt8) × kz3)
 | 0, _, _ => none
 | n + 1, a0, a1 =>
   pIf (decide (a0.at_ < (a0.s.length : Int)))
     ((ix a0.s a0.at_).bind fun x0 =>
     pIf ((x0.toNat : Int) == 34)
       ((zzu n a1).bind fun y1 =>
       some (y1, (kz3.mk a0.s (IntKind.i64.wrap (a0.at_ + 1)) a0.ok)))
       (pIf ((x0.toNat : Int) == 92)
         (pIf ((IntKind.i64.wrap (a0.at_ + 1)) == (a0.s.length : Int))
           (yzi n true (kz3.mk a0.s (IntKind.i64.wrap (a0.at_ + 1)) a0.ok) a1)
           ((ix a0.s (IntKind.i64.wrap (a0.at_ + 1))).bind fun x2 =>
           pIf ((x2.toNat : Int) != 34)
             ((ix a0.s (IntKind.i64.wrap (a0.at_ + 1))).bind fun x3 =>
             yzi n ((x3.toNat : Int) != 92) (kz3.mk a0.s (IntKind.i64.wrap (a0.at_ + 1)) a0.ok) a1)
             (yzi n false (kz3.mk a0.s (IntKind.i64.wrap (a0.at_ + 1)) a0.ok) a1)))
         (yzm n (x0.toNat : Int) (kz3.mk a0.s (IntKind.i64.wrap (a0.at_ + 1)) a0.ok) a1)))
     (zzt n a0)
def yzi : Nat → Bool → kz3 → (List Int) → Option ((List UInt8) × kz3)
 | 0, _, _, _ => none
 | n + 1, a0, a1, a2 =>
   pIf a0
     (zzt n a1)
     ((ix a1.s a1.at_).bind fun x4 =>
     yzm n (x4.toNat : Int) (kz3.mk a1.s (IntKind.i64.wrap (a1.at_ + 1)) a1.ok) a2)
def yzm : Nat → Int → kz3 → (List Int) → Option ((List UInt8) × kz3)
 | 0, _, _, _ => none
 | n + 1, a0, a1, a2 =>
   (zz8 n a0 a2).bind fun y5 =>
   yz9 n a1 y5
def zzt : Nat → kz3 → Option ((List UInt8) × kz3)
 | 0, _ => none
 | n + 1, a0 =>
   some ([], (kz3.mk a0.s a0.at_ false))
end
def zra : LSh := ⟨[(2, (.d .str))], [(.st 7)], 1, 91⟩
noncomputable def z6c : FI dat := FI.of dat 179 91 1 [(.ptr 0 0)] [(.st 7)] [(.d .str)] [(.st 7)] false zra (R := (List UInt8) × kz3) (fun x => (x.1, x.2.1)) (fun r => (r.1, r.2, ())) (fun n x => zzl n x.1)
 (fun n => [(0, ⟨⟨[(3, (.bp 1)), (0, (.ptr 0 0))], [(.st 7), (.bld 74 2), (.acc 5 (.int .u8) true)], 1, 91⟩, fun x => yz9 n x.1 x.2.1⟩), (1, ⟨⟨[(0, (.ptr 0 0)), (3, (.bp 1)), (69, (.d .bool))], [(.st 7), (.bld 74 2), (.acc 5 (.int .u8) true)], 1, 91⟩, fun x => yzi n x.1 x.2.1 x.2.2.1⟩), (2, ⟨⟨[(3, (.bp 1)), (0, (.ptr 0 0)), (4, (.d (.int .u8)))], [(.st 7), (.bld 74 2), (.acc 5 (.int .u8) true)], 1, 91⟩, fun x => yzm n x.1 x.2.1 x.2.2.1⟩), (3, ⟨⟨[(0, (.ptr 0 0))], [(.st 7)], 1, 91⟩, fun x => zzt n x.1⟩)]) (ann [(6, 0), (33, 1), (40, 2), (41, 3)] (Tryz.f179.body.getD .skip) 0).1
noncomputable def zr0 : List (FI dat) := [yzf, yzx]
theorem zqz : (z6c).Good Tryz.prog dat (tb zr0) := FI.yz5 (hD := zz3 _) Tryz.func179 Tryz.ntmps179 Tryz.call179 (by kernel_rfl) (of_decide_eq_true (by kernel_rfl)) (by kernel_rfl) (fun n => by kernel_rfl) (fun x => by kernel_rfl) (fun _ => rfl) ⟨fun _ => rfl, fun _ => rfl, fun _ => rfl, fun _ => rfl, trivial⟩
 (fun n => fun x => (zzl.eq_2 x.1 n).trans (by kernel_rfl))
 (fun n => ⟨fun x => (yz9.eq_2 x.1 x.2.1 n).trans (by kernel_rfl),
  fun x => (yzi.eq_2 x.1 x.2.1 x.2.2.1 n).trans (by kernel_rfl),
  fun x => (yzm.eq_2 x.1 x.2.1 x.2.2.1 n).trans (by kernel_rfl),
  fun x => (zzt.eq_2 x.1 n).trans (by kernel_rfl),
  trivial⟩)
 (fun x => .inr (by kernel_rfl))
theorem zqv : OkL Tryz.prog [z6c] := yze (zz3 _) (bs := [yzf, yzx]) ⟨z66, zbl, trivial⟩ zqz
theorem zpp : FOk Tryz.prog z6c := zqv.1
def kzm : Nat → (List UInt8) → (List UInt8) → Option ((List UInt8) × (List UInt8) × Bool)
 | 0, _, _ => none
 | n + 1, a0, a1 =>
   (yzp n a0 a1).bind fun y0 =>
   pIf (decide (y0 ≥ 0))
     ((sub a0 0 y0).bind fun x1 =>
     (sub a0 (IntKind.i64.wrap (y0 + (a1.length : Int))) (a0.length : Int)).bind fun x2 =>
     some (x1, x2, true))
     (some (a0, [], false))
def zmb : LSh := ⟨[(4, (.d .str)), (5, (.d .str)), (6, (.d .bool))], [], 0, 23⟩
noncomputable def z2s : FI dat := FI.of dat 200 23 0 [(.d .str), (.d .str)] [] [(.d .str), (.d .str), (.d .bool)] [] true zmb (R := (List UInt8) × (List UInt8) × Bool) (fun x => (x.1, x.2.1, x.2.2.1)) (fun r => (r.1, r.2.1, r.2.2, ())) (fun n x => kzm n x.1 x.2.1)
 (fun n => []) (ann [] (Tryz.f200.body.getD .skip) 0).1
noncomputable def zl7 : List (FI dat) := [z1o]
theorem zm4 : (z2s).Good Tryz.prog dat (tb zl7) := FI.yz5 (hD := zz3 _) Tryz.func200 Tryz.ntmps200 Tryz.call200 (by kernel_rfl) (of_decide_eq_true (by kernel_rfl)) (by kernel_rfl) (fun n => by kernel_rfl) (fun x => by kernel_rfl) (fun _ => rfl) trivial
 (fun n => fun x => (kzm.eq_2 x.1 x.2.1 n).trans (by kernel_rfl))
 (fun n => trivial)
 (fun x => .inl rfl)
theorem zle : OkL Tryz.prog [z2s] := yze (zz3 _) (bs := [z1o]) ⟨zay, trivial⟩ zm4
theorem zk1 : FOk Tryz.prog z2s := zle.1
def z7k : Nat → (List UInt8) → (List UInt8) → Option ((List UInt8) × (List UInt8) × Bool)
 | 0, _, _ => none
 | n + 1, a0, a1 =>
   (kzm n a0 a1).bind fun y0 =>
   some (y0.1, y0.2.1, y0.2.2)
def yb7 : LSh := ⟨[(4, (.d .str)), (5, (.d .str)), (6, (.d .bool))], [], 0, 13⟩
noncomputable def zeg : FI dat := FI.of dat 191 13 0 [(.d .str), (.d .str)] [] [(.d .str), (.d .str), (.d .bool)] [] true yb7 (R := (List UInt8) × (List UInt8) × Bool) (fun x => (x.1, x.2.1, x.2.2.1)) (fun r => (r.1, r.2.1, r.2.2, ())) (fun n x => z7k n x.1 x.2.1)
 (fun n => []) (ann [] (Tryz.f191.body.getD .skip) 0).1
noncomputable def y9k : List (FI dat) := [z2s]
theorem yb6 : (zeg).Good Tryz.prog dat (tb y9k) := FI.yz5 (hD := zz3 _) Tryz.func191 Tryz.ntmps191 Tryz.call191 (by kernel_rfl) (of_decide_eq_true (by kernel_rfl)) (by kernel_rfl) (fun n => by kernel_rfl) (fun x => by kernel_rfl) (fun _ => rfl) trivial
 (fun n => fun x => (z7k.eq_2 x.1 x.2.1 n).trans (by kernel_rfl))
 (fun n => trivial)
 (fun x => .inl rfl)
theorem yac : OkL Tryz.prog [zeg] := yze (zz3 _) (bs := [z2s]) ⟨zk1, trivial⟩ yb6
theorem y5c : FOk Tryz.prog zeg := yac.1
mutual
def z4n : Nat → (List UInt8) → Option (Int × Bool)
 | 0, _ => none
 | n + 1, a0 =>
   pIf ((a0.length : Int) == 0)
     (z05 n a0 true)
     (pIf (decide ((a0.length : Int) > 10))
       (z05 n a0 true)
       ((ix a0 0).bind fun x0 =>
       pIf ((x0.toNat : Int) == 48)
         (z05 n a0 (decide ((a0.length : Int) > 1)))
         (z05 n a0 false)))
def z05 : Nat → (List UInt8) → Bool → Option (Int × Bool)
 | 0, _, _ => none
 | n + 1, a0, a1 =>
   pIf a1
     (some (0, false))
     (z1i n 0 a0 0)
def z1i : Nat → Int → (List UInt8) → Nat → Option (Int × Bool)
 | 0, _, _, _ => none
 | n + 1, a0, a1, a2 =>
   pIf (decide (a2 < a1.length))
     (pIf (decide (((zat a1 a2).1 : Int) < 48))
       (z1g n ((zat a1 a2).1 : Int) a0 true a1 (a2 + (zat a1 a2).2))
       (z1g n ((zat a1 a2).1 : Int) a0 (decide (((zat a1 a2).1 : Int) > 57)) a1 (a2 + (zat a1 a2).2)))
     (some (a0, true))
def z1g : Nat → Int → Int → Bool → (List UInt8) → Nat → Option (Int × Bool)
 | 0, _, _, _, _, _ => none
 | n + 1, a0, a1, a2, a3, a4 =>
   pIf a2
     (some (0, false))
     (z1i n (IntKind.i64.wrap ((IntKind.i64.wrap (10 * a1)) + (IntKind.i64.wrap (IntKind.i32.wrap (a0 - 48))))) a3 a4)
end
def y7b : LSh := ⟨[(2, (.d (.int .i64))), (3, (.d .bool))], [], 0, 43⟩
noncomputable def zcu : FI dat := FI.of dat 192 43 0 [(.d .str)] [] [(.d (.int .i64)), (.d .bool)] [] true y7b (R := Int × Bool) (fun x => (x.1, x.2.1)) (fun r => (r.1, r.2, ())) (fun n x => z4n n x.1)
 (fun n => [(0, ⟨⟨[(0, (.d .str)), (24, (.d .bool))], [], 0, 43⟩, fun x => z05 n x.1 x.2.1⟩), (1, ⟨⟨[(4, (.d (.int .i64))), (26, (.ptr 0 0))], [.siter], 0, 43⟩, fun x => z1i n x.1 x.2.1 x.2.2.1⟩), (2, ⟨⟨[(26, (.ptr 0 0)), (6, (.d (.int .i32))), (4, (.d (.int .i64))), (35, (.d .bool))], [.siter], 0, 43⟩, fun x => z1g n x.1 x.2.1 x.2.2.1 x.2.2.2.1 x.2.2.2.2.1⟩)]) (ann [(5, 0), (16, 1), (29, 2)] (Tryz.f192.body.getD .skip) 0).1
noncomputable def y80 : List (FI dat) := []
theorem y7q : (zcu).Good Tryz.prog dat (tb y80) := FI.yz5 (hD := zz3 _) Tryz.func192 Tryz.ntmps192 Tryz.call192 (by kernel_rfl) (of_decide_eq_true (by kernel_rfl)) (by kernel_rfl) (fun n => by kernel_rfl) (fun x => by kernel_rfl) (fun _ => rfl) ⟨fun _ => rfl, fun _ => rfl, fun _ => rfl, trivial⟩
 (fun n => fun x => (z4n.eq_2 x.1 n).trans (by kernel_rfl))
 (fun n => ⟨fun x => (z05.eq_2 x.1 x.2.1 n).trans (by kernel_rfl),
  fun x => (z1i.eq_2 x.1 x.2.1 x.2.2.1 n).trans (by kernel_rfl),
  fun x => (z1g.eq_2 x.1 x.2.1 x.2.2.1 x.2.2.2.1 x.2.2.2.2.1 n).trans (by kernel_rfl),
  trivial⟩)
 (fun x => .inl rfl)
theorem y4q : OkL Tryz.prog [zcu] := yze (zz3 _) (bs := []) trivial y7q
theorem y32 : FOk Tryz.prog zcu := y4q.1
end Go.Proofs.YtfhpamcehnfhoaaGreatDoor


namespace Go.Proofs.YtfhpamcehnfhoaaGreatDoor
open Go Go.Ab
set_option linter.unusedVariables false
set_option maxRecDepth 100000
mutual
def z1q : Nat → (List UInt8) → Option (Int × zz2)
 | 0, _ => none
 | n + 1, a0 =>
   (zzy n a0 [45]).bind fun y0 =>
   (z7k n y0.1 [47]).bind fun y1 =>
   pIf (!y1.2.2)
     (z17 n a0 y0.2 [49] y1.1 (zz2.mk 0 0))
     (z17 n a0 y0.2 y1.2.1 y1.1 (zz2.mk 0 0))
def z17 : Nat → (List UInt8) → Bool → (List UInt8) → (List UInt8) → zz2 → Option (Int × zz2)
 | 0, _, _, _, _, _ => none
 | n + 1, a0, a1, a2, a3, a4 =>
   (z4n n a3).bind fun y2 =>
   (z4n n a2).bind fun y3 =>
   pIf a1
     (z15 n a0 y3.2 y2.2 y3.1 (IntKind.i64.wrap (0 - y2.1)) a4)
     (z15 n a0 y3.2 y2.2 y3.1 y2.1 a4)
def z15 : Nat → (List UInt8) → Bool → Bool → Int → Int → zz2 → Option (Int × zz2)
 | 0, _, _, _, _, _, _ => none
 | n + 1, a0, a1, a2, a3, a4, a5 =>
   pIf (!a2)
     (z1a n a0 true a5 (zz2.mk a4 a3))
     (pIf (!a1)
       (z1a n a0 true a5 (zz2.mk a4 a3))
       ((z1r n (zz2.mk a4 a3)).bind fun y4 =>
       z1a n a0 (y4 != 0) a5 (zz2.mk a4 a3)))
def z1a : Nat → (List UInt8) → Bool → zz2 → zz2 → Option (Int × zz2)
 | 0, _, _, _, _ => none
 | n + 1, a0, a1, a2, a3 =>
   pIf a1
     (some (12, (zz2.mk 0 0)))
     ((z4k n a3).bind fun y5 =>
     pIf (!(y5.1 == a0))
       (some (12, (zz2.mk 0 0)))
       (some (0, a3)))
end
def yba : LSh := ⟨[(2, (.ptr 0 0)), (3, (.d (.int .i64)))], [(.st 2)], 0, 67⟩
noncomputable def zea : FI dat := FI.of dat 180 67 0 [(.d .str)] [] [(.d (.st 2)), (.d (.int .i64))] [] true yba (R := Int × zz2) (fun x => (x.1, x.2.1)) (fun r => (r.2, r.1, ())) (fun n x => z1q n x.1)
 (fun n => [(0, ⟨⟨[(2, (.ptr 0 0)), (0, (.d .str)), (5, (.d .bool)), (7, (.d .str)), (6, (.d .str))], [(.st 2)], 0, 67⟩, fun x => z17 n x.1 x.2.1 x.2.2.1 x.2.2.2.1 x.2.2.2.2.1⟩), (1, ⟨⟨[(2, (.ptr 0 0)), (0, (.d .str)), (12, (.d .bool)), (10, (.d .bool)), (11, (.d (.int .i64))), (9, (.d (.int .i64)))], [(.st 2)], 0, 67⟩, fun x => z15 n x.1 x.2.1 x.2.2.1 x.2.2.2.1 x.2.2.2.2.1 x.2.2.2.2.2.1⟩), (2, ⟨⟨[(2, (.ptr 0 0)), (13, (.ptr 1 0)), (0, (.d .str)), (55, (.d .bool))], [(.st 2), (.st 2)], 0, 67⟩, fun x => z1a n x.1 x.2.1 x.2.2.1 x.2.2.2.1⟩)]) (ann [(12, 0), (22, 1), (27, 2)] (Tryz.f180.body.getD .skip) 0).1
noncomputable def yap : List (FI dat) := [z48, zeg, zcu, z74, zbd]
theorem y9f : (zea).Good Tryz.prog dat (tb yap) := FI.yz5 (hD := zz3 _) Tryz.func180 Tryz.ntmps180 Tryz.call180 (by kernel_rfl) (of_decide_eq_true (by kernel_rfl)) (by kernel_rfl) (fun n => by kernel_rfl) (fun x => by kernel_rfl) (fun _ => rfl) ⟨fun _ => rfl, fun _ => rfl, fun _ => rfl, trivial⟩
 (fun n => fun x => (z1q.eq_2 x.1 n).trans (by kernel_rfl))
 (fun n => ⟨fun x => (z17.eq_2 x.1 x.2.1 x.2.2.1 x.2.2.2.1 x.2.2.2.2.1 n).trans (by kernel_rfl),
  fun x => (z15.eq_2 x.1 x.2.1 x.2.2.1 x.2.2.2.1 x.2.2.2.2.1 x.2.2.2.2.2.1 n).trans (by kernel_rfl),
  fun x => (z1a.eq_2 x.1 x.2.1 x.2.2.1 x.2.2.2.1 n).trans (by kernel_rfl),
  trivial⟩)
 (fun x => .inl rfl)
theorem y87 : OkL Tryz.prog [zea] := yze (zz3 _) (bs := [z48, zeg, zcu, z74, zbd]) ⟨ziv, y5c, y32, zm7, zv0, trivial⟩ y9f
theorem y7a : FOk Tryz.prog zea := y87.1
mutual
def zzk : Nat → Int → kz3 → Option (kz3 × yz0)
 | 0, _, _ => none
 | n + 1, a0, a1 =>
   pIf (a0 == 0)
     (yzz n (kz3.mk a1.s a1.at_ false) 0 0 0 false [] [])
     ((kz9 n [116, 114, 117, 101] a1).bind fun y0 =>
     pIf y0.1
       (some (y0.2, (yz0.mk 2 (zz2.mk 0 0) true [] [])))
       ((kz9 n [102, 97, 108, 115, 101] y0.2).bind fun y1 =>
       pIf y1.1
         (some (y1.2, (yz0.mk 2 (zz2.mk 0 0) false [] [])))
         ((kz9 n [34] y1.2).bind fun y2 =>
         pIf y2.1
           ((zzl n y2.2).bind fun y3 =>
           some (y3.2, (yz0.mk 3 (zz2.mk 0 0) false y3.1 [])))
           ((kz9 n [91, 93] y2.2).bind fun y4 =>
           pIf y4.1
             (some (y4.2, (yz0.mk 4 (zz2.mk 0 0) false [] [])))
             ((kz9 n [91] y4.2).bind fun y5 =>
             pIf y5.1
               (z7a n a0 true y5.2 4 0 0 false [] 0 0 0 false [] [] [])
               (yzz n y5.2 0 0 0 false [] []))))))
def z7a : Nat → Int → Bool → kz3 → Int → Int → Int → Bool → (List UInt8) → Int → Int → Int → Bool → (List UInt8) → (List yz0) → (List yz0) → Option (kz3 × yz0)
 | 0, _, _, _, _, _, _, _, _, _, _, _, _, _, _, _ => none
 | n + 1, a0, a1, a2, a3, a4, a5, a6, a7, a8, a9, a10, a11, a12, a13, a14 =>
   pIf a1
     (z6o n a0 a2.ok a2 a3 a4 a5 a6 a7 a8 a9 a10 a11 a12 a13 a14)
     (z6o n a0 false a2 a3 a4 a5 a6 a7 a8 a9 a10 a11 a12 a13 a14)
def z6o : Nat → Int → Bool → kz3 → Int → Int → Int → Bool → (List UInt8) → Int → Int → Int → Bool → (List UInt8) → (List yz0) → (List yz0) → Option (kz3 × yz0)
 | 0, _, _, _, _, _, _, _, _, _, _, _, _, _, _, _ => none
 | n + 1, a0, a1, a2, a3, a4, a5, a6, a7, a8, a9, a10, a11, a12, a13, a14 =>
   pIf a1
     ((zzk n (IntKind.i64.wrap (a0 - 1)) a2).bind fun y8 =>
     (ext a13 [y8.2.re]).bind fun x9 =>
     (kz9 n [44, 32] y8.1).bind fun y10 =>
     z7a n a0 y10.1 y10.2 a3 a4 a5 a6 a7 a8 a9 a10 a11 a12 x9 a14)
     ((kz9 n [93] a2).bind fun y11 =>
     pIf y11.1
       (z6s n y11.2 a8 a9 a10 a11 a12 a3 a4 a5 a6 a7 a14 a13)
       (z6s n (kz3.mk y11.2.s y11.2.at_ false) a8 a9 a10 a11 a12 a3 a4 a5 a6 a7 a14 a13))
def z6s : Nat → kz3 → Int → Int → Int → Bool → (List UInt8) → Int → Int → Int → Bool → (List UInt8) → (List yz0) → (List yz0) → Option (kz3 × yz0)
 | 0, _, _, _, _, _, _, _, _, _, _, _, _, _ => none
 | n + 1, a0, a1, a2, a3, a4, a5, a6, a7, a8, a9, a10, a11, a12 =>
   some (a0, (yz0.mk a6 (zz2.mk a7 a8) a9 a10 a12))
def yzz : Nat → kz3 → Int → Int → Int → Bool → (List UInt8) → (List yz0) → Option (kz3 × yz0)
 | 0, _, _, _, _, _, _, _ => none
 | n + 1, a0, a1, a2, a3, a4, a5, a6 =>
   yzk n a0.at_ a0 a1 a2 a3 a4 a5 a6
def yzk : Nat → Int → kz3 → Int → Int → Int → Bool → (List UInt8) → (List yz0) → Option (kz3 × yz0)
 | 0, _, _, _, _, _, _, _, _ => none
 | n + 1, a0, a1, a2, a3, a4, a5, a6, a7 =>
   pIf (decide (a0 < (a1.s.length : Int)))
     ((ix a1.s a0).bind fun x6 =>
     (kzy n [48, 49, 50, 51, 52, 53, 54, 55, 56, 57, 47, 45] (x6.toNat : Int)).bind fun y7 =>
     zzz n a0 (decide (y7 ≥ 0)) a1 a2 a3 a4 a5 a6 a7)
     (zzz n a0 false a1 a2 a3 a4 a5 a6 a7)
def zzz : Nat → Int → Bool → kz3 → Int → Int → Int → Bool → (List UInt8) → (List yz0) → Option (kz3 × yz0)
 | 0, _, _, _, _, _, _, _, _, _ => none
 | n + 1, a0, a1, a2, a3, a4, a5, a6, a7, a8 =>
   pIf a1
     (yzk n (IntKind.i64.wrap (a0 + 1)) a2 a3 a4 a5 a6 a7 a8)
     ((sub a2.s a2.at_ a0).bind fun x12 =>
     (z1q n x12).bind fun y13 =>
     pIf a2.ok
       (yzy n a0 (kz3.mk a2.s a2.at_ (y13.1 == 0)) a3 a4 a5 a6 a7 y13.2 a8)
       (yzy n a0 (kz3.mk a2.s a2.at_ false) a3 a4 a5 a6 a7 y13.2 a8))
def yzy : Nat → Int → kz3 → Int → Int → Int → Bool → (List UInt8) → zz2 → (List yz0) → Option (kz3 × yz0)
 | 0, _, _, _, _, _, _, _, _, _ => none
 | n + 1, a0, a1, a2, a3, a4, a5, a6, a7, a8 =>
   some ((kz3.mk a1.s a0 a1.ok), (yz0.mk 1 a7 false [] []))
end
def zru : LSh := ⟨[(4, (.ptr 1 0))], [(.st 7), (.st 3)], 1, 122⟩
noncomputable def z5c : FI dat := FI.of dat 164 122 1 [(.ptr 0 0), (.d (.int .i64))] [(.st 7)] [(.d (.st 3))] [(.st 7), (.st 3)] false zru (R := kz3 × yz0) (fun x => (x.1, x.2.1)) (fun r => (r.2, r.1, r.2, ())) (fun n x => zzk n x.1 x.2.1)
 (fun n => [(0, ⟨⟨[(0, (.ptr 0 0)), (5, (.ptr 1 0)), (1, (.d (.int .i64))), (4, (.ptr 2 0)), (6, (.d .bool))], [(.st 7), (.cells [(.d (.int .u8)), (.d (.int .i64)), (.d (.int .i64)), (.d .bool), (.d .str), (.own 3)]), (.cells [(.d (.int .u8)), (.d (.int .i64)), (.d (.int .i64)), (.d .bool), (.d .str), (.own 4)]), (.acc 26 (.st 3) true), (.acc 26 (.st 3) true)], 1, 122⟩, fun x => z7a n x.1 x.2.1 x.2.2.1 x.2.2.2.1 x.2.2.2.2.1 x.2.2.2.2.2.1 x.2.2.2.2.2.2.1 x.2.2.2.2.2.2.2.1 x.2.2.2.2.2.2.2.2.1 x.2.2.2.2.2.2.2.2.2.1 x.2.2.2.2.2.2.2.2.2.2.1 x.2.2.2.2.2.2.2.2.2.2.2.1 x.2.2.2.2.2.2.2.2.2.2.2.2.1 x.2.2.2.2.2.2.2.2.2.2.2.2.2.1 x.2.2.2.2.2.2.2.2.2.2.2.2.2.2.1⟩), (1, ⟨⟨[(0, (.ptr 0 0)), (5, (.ptr 1 0)), (1, (.d (.int .i64))), (4, (.ptr 2 0)), (44, (.d .bool))], [(.st 7), (.cells [(.d (.int .u8)), (.d (.int .i64)), (.d (.int .i64)), (.d .bool), (.d .str), (.own 3)]), (.cells [(.d (.int .u8)), (.d (.int .i64)), (.d (.int .i64)), (.d .bool), (.d .str), (.own 4)]), (.acc 26 (.st 3) true), (.acc 26 (.st 3) true)], 1, 122⟩, fun x => z6o n x.1 x.2.1 x.2.2.1 x.2.2.2.1 x.2.2.2.2.1 x.2.2.2.2.2.1 x.2.2.2.2.2.2.1 x.2.2.2.2.2.2.2.1 x.2.2.2.2.2.2.2.2.1 x.2.2.2.2.2.2.2.2.2.1 x.2.2.2.2.2.2.2.2.2.2.1 x.2.2.2.2.2.2.2.2.2.2.2.1 x.2.2.2.2.2.2.2.2.2.2.2.2.1 x.2.2.2.2.2.2.2.2.2.2.2.2.2.1 x.2.2.2.2.2.2.2.2.2.2.2.2.2.2.1⟩), (2, ⟨⟨[(4, (.ptr 1 0)), (5, (.ptr 2 0))], [(.st 7), (.cells [(.d (.int .u8)), (.d (.int .i64)), (.d (.int .i64)), (.d .bool), (.d .str), (.own 3)]), (.cells [(.d (.int .u8)), (.d (.int .i64)), (.d (.int .i64)), (.d .bool), (.d .str), (.own 4)]), (.acc 26 (.st 3) true), (.acc 26 (.st 3) true)], 1, 122⟩, fun x => z6s n x.1 x.2.1 x.2.2.1 x.2.2.2.1 x.2.2.2.2.1 x.2.2.2.2.2.1 x.2.2.2.2.2.2.1 x.2.2.2.2.2.2.2.1 x.2.2.2.2.2.2.2.2.1 x.2.2.2.2.2.2.2.2.2.1 x.2.2.2.2.2.2.2.2.2.2.1 x.2.2.2.2.2.2.2.2.2.2.2.1 x.2.2.2.2.2.2.2.2.2.2.2.2.1⟩), (3, ⟨⟨[(4, (.ptr 1 0)), (0, (.ptr 0 0))], [(.st 7), (.cells [(.d (.int .u8)), (.d (.int .i64)), (.d (.int .i64)), (.d .bool), (.d .str), (.own 2)]), (.acc 26 (.st 3) true)], 1, 122⟩, fun x => yzz n x.1 x.2.1 x.2.2.1 x.2.2.2.1 x.2.2.2.2.1 x.2.2.2.2.2.1 x.2.2.2.2.2.2.1⟩), (4, ⟨⟨[(7, (.d (.int .i64))), (4, (.ptr 1 0)), (0, (.ptr 0 0))], [(.st 7), (.cells [(.d (.int .u8)), (.d (.int .i64)), (.d (.int .i64)), (.d .bool), (.d .str), (.own 2)]), (.acc 26 (.st 3) true)], 1, 122⟩, fun x => yzk n x.1 x.2.1 x.2.2.1 x.2.2.2.1 x.2.2.2.2.1 x.2.2.2.2.2.1 x.2.2.2.2.2.2.1 x.2.2.2.2.2.2.2.1⟩), (5, ⟨⟨[(4, (.ptr 1 0)), (0, (.ptr 0 0)), (7, (.d (.int .i64))), (88, (.d .bool))], [(.st 7), (.cells [(.d (.int .u8)), (.d (.int .i64)), (.d (.int .i64)), (.d .bool), (.d .str), (.own 2)]), (.acc 26 (.st 3) true)], 1, 122⟩, fun x => zzz n x.1 x.2.1 x.2.2.1 x.2.2.2.1 x.2.2.2.2.1 x.2.2.2.2.2.1 x.2.2.2.2.2.2.1 x.2.2.2.2.2.2.2.1 x.2.2.2.2.2.2.2.2.1⟩), (6, ⟨⟨[(4, (.ptr 1 0)), (8, (.ptr 2 0)), (7, (.d (.int .i64))), (0, (.ptr 0 0))], [(.st 7), (.cells [(.d (.int .u8)), (.d (.int .i64)), (.d (.int .i64)), (.d .bool), (.d .str), (.own 3)]), (.st 2), (.acc 26 (.st 3) true)], 1, 122⟩, fun x => yzy n x.1 x.2.1 x.2.2.1 x.2.2.2.1 x.2.2.2.2.1 x.2.2.2.2.2.1 x.2.2.2.2.2.2.1 x.2.2.2.2.2.2.2.1 x.2.2.2.2.2.2.2.2.1⟩)]) (ann [(41, 0), (45, 1), (54, 2), (58, 3), (62, 4), (66, 5), (75, 6)] (Tryz.f164.body.getD .skip) 0).1
noncomputable def zsc : List (FI dat) := [z5c] ++ [z86, z6c, z4c, zea]
theorem zt2 : (z5c).Good Tryz.prog dat (tb zsc) := FI.yz5 (hD := zz3 _) Tryz.func164 Tryz.ntmps164 Tryz.call164 (by kernel_rfl) (of_decide_eq_true (by kernel_rfl)) (by kernel_rfl) (fun n => by kernel_rfl) (fun x => by kernel_rfl) (fun _ => rfl) ⟨fun _ => rfl, fun _ => rfl, fun _ => rfl, fun _ => rfl, fun _ => rfl, fun _ => rfl, fun _ => rfl, trivial⟩
 (fun n => fun x => (zzk.eq_2 x.1 x.2.1 n).trans (by kernel_rfl))
 (fun n => ⟨fun x => (z7a.eq_2 x.1 x.2.1 x.2.2.1 x.2.2.2.1 x.2.2.2.2.1 x.2.2.2.2.2.1 x.2.2.2.2.2.2.1 x.2.2.2.2.2.2.2.1 x.2.2.2.2.2.2.2.2.1 x.2.2.2.2.2.2.2.2.2.1 x.2.2.2.2.2.2.2.2.2.2.1 x.2.2.2.2.2.2.2.2.2.2.2.1 x.2.2.2.2.2.2.2.2.2.2.2.2.1 x.2.2.2.2.2.2.2.2.2.2.2.2.2.1 x.2.2.2.2.2.2.2.2.2.2.2.2.2.2.1 n).trans (by kernel_rfl),
  fun x => (z6o.eq_2 x.1 x.2.1 x.2.2.1 x.2.2.2.1 x.2.2.2.2.1 x.2.2.2.2.2.1 x.2.2.2.2.2.2.1 x.2.2.2.2.2.2.2.1 x.2.2.2.2.2.2.2.2.1 x.2.2.2.2.2.2.2.2.2.1 x.2.2.2.2.2.2.2.2.2.2.1 x.2.2.2.2.2.2.2.2.2.2.2.1 x.2.2.2.2.2.2.2.2.2.2.2.2.1 x.2.2.2.2.2.2.2.2.2.2.2.2.2.1 x.2.2.2.2.2.2.2.2.2.2.2.2.2.2.1 n).trans (by kernel_rfl),
  fun x => (z6s.eq_2 x.1 x.2.1 x.2.2.1 x.2.2.2.1 x.2.2.2.2.1 x.2.2.2.2.2.1 x.2.2.2.2.2.2.1 x.2.2.2.2.2.2.2.1 x.2.2.2.2.2.2.2.2.1 x.2.2.2.2.2.2.2.2.2.1 x.2.2.2.2.2.2.2.2.2.2.1 x.2.2.2.2.2.2.2.2.2.2.2.1 x.2.2.2.2.2.2.2.2.2.2.2.2.1 n).trans (by kernel_rfl),
  fun x => (yzz.eq_2 x.1 x.2.1 x.2.2.1 x.2.2.2.1 x.2.2.2.2.1 x.2.2.2.2.2.1 x.2.2.2.2.2.2.1 n).trans (by kernel_rfl),
  fun x => (yzk.eq_2 x.1 x.2.1 x.2.2.1 x.2.2.2.1 x.2.2.2.2.1 x.2.2.2.2.2.1 x.2.2.2.2.2.2.1 x.2.2.2.2.2.2.2.1 n).trans (by kernel_rfl),
  fun x => (zzz.eq_2 x.1 x.2.1 x.2.2.1 x.2.2.2.1 x.2.2.2.2.1 x.2.2.2.2.2.1 x.2.2.2.2.2.2.1 x.2.2.2.2.2.2.2.1 x.2.2.2.2.2.2.2.2.1 n).trans (by kernel_rfl),
  fun x => (yzy.eq_2 x.1 x.2.1 x.2.2.1 x.2.2.2.1 x.2.2.2.2.1 x.2.2.2.2.2.1 x.2.2.2.2.2.2.1 x.2.2.2.2.2.2.2.1 x.2.2.2.2.2.2.2.2.1 n).trans (by kernel_rfl),
  trivial⟩)
 (fun x => .inr (by kernel_rfl))
theorem zry : OkL Tryz.prog [z5c] := z4p (zz3 _) (bs := [z86, z6c, z4c, zea]) ⟨zsr, zpp, zik, y7a, trivial⟩ ⟨zt2, trivial⟩
theorem zqx : FOk Tryz.prog z5c := zry.1
mutual
def z10 : Nat → (List UInt8) → Option (Int × yz0)
 | 0, _ => none
 | n + 1, a0 =>
   pIf (decide ((a0.length : Int) > 4000))
     (some (12, (yz0.mk 0 (zz2.mk 0 0) false [] [])))
     ((zzk n 6 (kz3.mk a0 0 true)).bind fun y0 =>
     pIf (!y0.1.ok)
       (z0n n true (yz0.mk 0 (zz2.mk 0 0) false [] []) y0.2.re)
       (pIf (y0.1.at_ != (a0.length : Int))
         (z0n n true (yz0.mk 0 (zz2.mk 0 0) false [] []) y0.2.re)
         ((z4i n y0.2.re).bind fun y1 =>
         z0n n (y1 != 0) (yz0.mk 0 (zz2.mk 0 0) false [] []) y0.2.re)))
def z0n : Nat → Bool → yz0 → yz0 → Option (Int × yz0)
 | 0, _, _, _ => none
 | n + 1, a0, a1, a2 =>
   pIf a0
     (some (12, (yz0.mk 0 (zz2.mk 0 0) false [] [])))
     (some (0, a2.re))
end
def yas : LSh := ⟨[(2, (.ptr 0 0)), (3, (.d (.int .i64)))], [(.st 3)], 0, 36⟩
noncomputable def ze8 : FI dat := FI.of dat 136 36 0 [(.d .str)] [] [(.d (.st 3)), (.d (.int .i64))] [] true yas (R := Int × yz0) (fun x => (x.1, x.2.1)) (fun r => (r.2, r.1, ())) (fun n x => z10 n x.1)
 (fun n => [(0, ⟨⟨[(2, (.ptr 0 0)), (5, (.ptr 1 0)), (33, (.d .bool))], [(.st 3), (.st 3)], 0, 36⟩, fun x => z0n n x.1 x.2.1 x.2.2.1⟩)]) (ann [(17, 0)] (Tryz.f136.body.getD .skip) 0).1
noncomputable def y9h : List (FI dat) := [z5c, z6y]
theorem y8o : (ze8).Good Tryz.prog dat (tb y9h) := FI.yz5 (hD := zz3 _) Tryz.func136 Tryz.ntmps136 Tryz.call136 (by kernel_rfl) (of_decide_eq_true (by kernel_rfl)) (by kernel_rfl) (fun n => by kernel_rfl) (fun x => by kernel_rfl) (fun _ => rfl) ⟨fun _ => rfl, trivial⟩
 (fun n => fun x => (z10.eq_2 x.1 n).trans (by kernel_rfl))
 (fun n => ⟨fun x => (z0n.eq_2 x.1 x.2.1 x.2.2.1 n).trans (by kernel_rfl),
  trivial⟩)
 (fun x => .inl rfl)
theorem y9e : OkL Tryz.prog [ze8] := yze (zz3 _) (bs := [z5c, z6y]) ⟨zqx, zls, trivial⟩ y8o
theorem y5e : FOk Tryz.prog ze8 := y9e.1
mutual
def zzx : Nat → yz3 → Option (Res (Int × Unit) (yz3 × kz0))
 | 0, _ => none
 | n + 1, a0 =>
   (z0m n a0.s [34]).bind fun y0 =>
   pIf y0
     (zzi n 1 a0 (kz0.mk 0 (yz0.mk 0 (zz2.mk 0 0) false [] []) [] []))
     (kzi n 0 a0 (kz0.mk 0 (yz0.mk 0 (zz2.mk 0 0) false [] []) [] []))
def zzi : Nat → Int → yz3 → kz0 → Option (Res (Int × Unit) (yz3 × kz0))
 | 0, _, _, _ => none
 | n + 1, a0, a1, a2 =>
   pIf (decide (a0 < (a1.s.length : Int)))
     ((ix a1.s a0).bind fun x1 =>
     zzj n a0 ((x1.toNat : Int) != 34) a1 a2.re)
     (zzj n a0 false a1 a2.re)
def zzj : Nat → Int → Bool → yz3 → kz0 → Option (Res (Int × Unit) (yz3 × kz0))
 | 0, _, _, _, _ => none
 | n + 1, a0, a1, a2, a3 =>
   pIf a1
     ((ix a2.s a0).bind fun x4 =>
     pIf ((x4.toNat : Int) == 92)
       (kzs n (IntKind.i64.wrap (a0 + 1)) a2 a3.re)
       (kzs n a0 a2 a3.re))
     (yz7 n (mnI (IntKind.i64.wrap (a0 + 1)) (a2.s.length : Int)) a2 a3.re)
def kzs : Nat → Int → yz3 → kz0 → Option (Res (Int × Unit) (yz3 × kz0))
 | 0, _, _, _ => none
 | n + 1, a0, a1, a2 =>
   zzi n (IntKind.i64.wrap (a0 + 1)) a1 a2.re
def kzi : Nat → Int → yz3 → kz0 → Option (Res (Int × Unit) (yz3 × kz0))
 | 0, _, _, _ => none
 | n + 1, a0, a1, a2 =>
   pIf (decide (a0 < (a1.s.length : Int)))
     ((ix a1.s a0).bind fun x2 =>
     (kzy n [48, 49, 50, 51, 52, 53, 54, 55, 56, 57, 47, 45] (x2.toNat : Int)).bind fun y3 =>
     yzu n a0 (decide (y3 ≥ 0)) a1 a2.re)
     (yzu n a0 false a1 a2.re)
def yzu : Nat → Int → Bool → yz3 → kz0 → Option (Res (Int × Unit) (yz3 × kz0))
 | 0, _, _, _, _ => none
 | n + 1, a0, a1, a2, a3 =>
   pIf a1
     (kzi n (IntKind.i64.wrap (a0 + 1)) a2 a3.re)
     (yz7 n a0 a2 a3.re)
def yz7 : Nat → Int → yz3 → kz0 → Option (Res (Int × Unit) (yz3 × kz0))
 | 0, _, _, _ => none
 | n + 1, a0, a1, a2 =>
   (sub a1.s 0 a0).bind fun x5 =>
   (z10 n x5).bind fun y6 =>
   (kzq n y6.1).bind fun y7 =>
   zh5 y7 (fun r8 =>
     (sub a1.s a0 (a1.s.length : Int)).bind fun x9 =>
     some (Res.ok ((yz3.mk x9), (kz0.mk 1 y6.2.re [] []))))
     (fun e10 =>
     some (Res.pan (e10.1, ())))
end
def zqy : LSh := ⟨[(2, (.ptr 1 0))], [(.st 6), (.st 4)], 1, 88⟩
noncomputable def z6b : FI dat := FI.ofP dat 103 88 1 [(.ptr 0 0)] [(.st 6)] [(.d (.st 4))] [(.st 6), (.st 4)] (.iface 31 (.d (.int .i64))) [(.cells [.any])] [] zqy (R := yz3 × kz0) (fun x => (x.1, x.2.1)) (fun r => (r.2, r.1, r.2, ())) (fun n x => zzx n x.1)
 (fun n => [(0, ⟨⟨[(3, (.d (.int .i64))), (0, (.ptr 0 0)), (2, (.ptr 1 0))], [(.st 6), (.st 4)], 1, 88⟩, fun x => zzi n x.1 x.2.1 x.2.2.1⟩), (1, ⟨⟨[(0, (.ptr 0 0)), (2, (.ptr 1 0)), (3, (.d (.int .i64))), (26, (.d .bool))], [(.st 6), (.st 4)], 1, 88⟩, fun x => zzj n x.1 x.2.1 x.2.2.1 x.2.2.2.1⟩), (2, ⟨⟨[(0, (.ptr 0 0)), (2, (.ptr 1 0)), (3, (.d (.int .i64)))], [(.st 6), (.st 4)], 1, 88⟩, fun x => kzs n x.1 x.2.1 x.2.2.1⟩), (3, ⟨⟨[(3, (.d (.int .i64))), (2, (.ptr 1 0)), (0, (.ptr 0 0))], [(.st 6), (.st 4)], 1, 88⟩, fun x => kzi n x.1 x.2.1 x.2.2.1⟩), (4, ⟨⟨[(2, (.ptr 1 0)), (0, (.ptr 0 0)), (3, (.d (.int .i64))), (62, (.d .bool))], [(.st 6), (.st 4)], 1, 88⟩, fun x => yzu n x.1 x.2.1 x.2.2.1 x.2.2.2.1⟩), (5, ⟨⟨[(2, (.ptr 1 0)), (3, (.d (.int .i64))), (0, (.ptr 0 0))], [(.st 6), (.st 4)], 1, 88⟩, fun x => yz7 n x.1 x.2.1 x.2.2.1⟩)]) (ann [(12, 0), (16, 1), (26, 2), (29, 3), (33, 4), (38, 5)] (Tryz.f103.body.getD .skip) 0).1
noncomputable def zr9 : List (FI dat) := [z43, z4c, ze8, z2r]
theorem zqw : (z6b).Good Tryz.prog dat (tb zr9) := FI.zp2 (hD := zz3 _) Tryz.func103 Tryz.ntmps103 Tryz.call103 (by kernel_rfl) (of_decide_eq_true (by kernel_rfl)) (by kernel_rfl) (fun n => by kernel_rfl) trivial (fun x => by kernel_rfl) (fun _ => rfl) ⟨fun _ => rfl, fun _ => rfl, fun _ => rfl, fun _ => rfl, fun _ => rfl, fun _ => rfl, trivial⟩
 (fun n => fun x => (zzx.eq_2 x.1 n).trans (by kernel_rfl))
 (fun n => ⟨fun x => (zzi.eq_2 x.1 x.2.1 x.2.2.1 n).trans (by kernel_rfl),
  fun x => (zzj.eq_2 x.1 x.2.1 x.2.2.1 x.2.2.2.1 n).trans (by kernel_rfl),
  fun x => (kzs.eq_2 x.1 x.2.1 x.2.2.1 n).trans (by kernel_rfl),
  fun x => (kzi.eq_2 x.1 x.2.1 x.2.2.1 n).trans (by kernel_rfl),
  fun x => (yzu.eq_2 x.1 x.2.1 x.2.2.1 x.2.2.2.1 n).trans (by kernel_rfl),
  fun x => (yz7.eq_2 x.1 x.2.1 x.2.2.1 n).trans (by kernel_rfl),
  trivial⟩)
 (fun x => by kernel_rfl)
theorem zr5 : OkL Tryz.prog [z6b] := yze (zz3 _) (bs := [z43, z4c, ze8, z2r]) ⟨zj8, zik, y5e, zfo, trivial⟩ zqw
theorem zq1 : FOk Tryz.prog z6b := zr5.1
end Go.Proofs.YtfhpamcehnfhoaaGreatDoor


namespace Go.Proofs.YtfhpamcehnfhoaaGreatDoor
open Go Go.Ab
set_option linter.unusedVariables false
set_option maxRecDepth 100000
def z6v : Nat → Bool → Option yz0
 | 0, _ => none
 | n + 1, a0 =>
   some (yz0.mk 2 (zz2.mk 0 0) a0 [] [])
def ygt : LSh := ⟨[(2, (.ptr 0 0))], [(.st 3)], 0, 5⟩
noncomputable def zfx : FI dat := FI.of dat 104 5 0 [(.d .bool)] [] [(.d (.st 3))] [] true ygt (R := yz0) (fun x => x.1) (fun r => (r, ())) (fun n x => z6v n x.1)
 (fun n => []) (ann [] (Tryz.f104.body.getD .skip) 0).1
noncomputable def ydc : List (FI dat) := []
theorem ye7 : (zfx).Good Tryz.prog dat (tb ydc) := FI.yz5 (hD := zz3 _) Tryz.func104 Tryz.ntmps104 Tryz.call104 (by kernel_rfl) (of_decide_eq_true (by kernel_rfl)) (by kernel_rfl) (fun n => by kernel_rfl) (fun x => by kernel_rfl) (fun _ => rfl) trivial
 (fun n => fun x => (z6v.eq_2 x.1 n).trans (by kernel_rfl))
 (fun n => trivial)
 (fun x => .inl rfl)
theorem yci : OkL Tryz.prog [zfx] := yze (zz3 _) (bs := []) trivial ye7
theorem y8g : FOk Tryz.prog zfx := yci.1
mutual
def kze : Nat → (List (List UInt8)) → (List UInt8) → Option Int
 | 0, _, _ => none
 | n + 1, a0, a1 =>
   kz5 n 0 a0 a1 (a0.length : Int)
def kz5 : Nat → Int → (List (List UInt8)) → (List UInt8) → Int → Option Int
 | 0, _, _, _, _ => none
 | n + 1, a0, a1, a2, a3 =>
   pIf (decide (a0 < a3))
     ((ix a1 a0).bind fun x0 =>
     pIf (a2 == x0)
       (some a0)
       (kz5 n (IntKind.i64.wrap (a0 + 1)) a1 a2 a3))
     (some (-1))
end
def zjm : LSh := ⟨[(4, (.d (.int .i64)))], [], 0, 19⟩
noncomputable def z1m : FI dat := FI.of dat 105 19 0 [(.d (.sl .str)), (.d .str)] [] [(.d (.int .i64))] [] true zjm (R := Int) (fun x => x.1) (fun r => (r, ())) (fun n x => kze n x.1 x.2.1)
 (fun n => [(0, ⟨⟨[(8, (.d (.int .i64))), (0, (.d (.sl .str))), (1, (.d .str)), (7, (.d (.int .i64)))], [], 0, 19⟩, fun x => kz5 n x.1 x.2.1 x.2.2.1 x.2.2.2.1⟩)]) (ann [(6, 0)] (Tryz.f105.body.getD .skip) 0).1
noncomputable def zjr : List (FI dat) := []
theorem zjd : (z1m).Good Tryz.prog dat (tb zjr) := FI.yz5 (hD := zz3 _) Tryz.func105 Tryz.ntmps105 Tryz.call105 (by kernel_rfl) (of_decide_eq_true (by kernel_rfl)) (by kernel_rfl) (fun n => by kernel_rfl) (fun x => by kernel_rfl) (fun _ => rfl) ⟨fun _ => rfl, trivial⟩
 (fun n => fun x => (kze.eq_2 x.1 x.2.1 n).trans (by kernel_rfl))
 (fun n => ⟨fun x => (kz5.eq_2 x.1 x.2.1 x.2.2.1 x.2.2.2.1 n).trans (by kernel_rfl),
  trivial⟩)
 (fun x => .inl rfl)
theorem zjf : OkL Tryz.prog [z1m] := yze (zz3 _) (bs := []) trivial zjd
theorem zio : FOk Tryz.prog z1m := zjf.1
mutual
def yzd : Nat → Int → yz3 → Option (Res (Int × Unit) (yz3 × kz0))
 | 0, _, _ => none
 | n + 1, a0, a1 =>
   pIf (a0 == 0)
     ((kzq n 12).bind fun y0 =>
     zh5 y0 (fun r1 =>
       yz6 n a0 a1 (kz0.mk 0 (yz0.mk 0 (zz2.mk 0 0) false [] []) [] []))
       (fun e2 =>
       some (Res.pan (e2.1, ()))))
     (yz6 n a0 a1 (kz0.mk 0 (yz0.mk 0 (zz2.mk 0 0) false [] []) [] []))
def yz6 : Nat → Int → yz3 → kz0 → Option (Res (Int × Unit) (yz3 × kz0))
 | 0, _, _, _ => none
 | n + 1, a0, a1, a2 =>
   (kz7 n [40] a1).bind fun y3 =>
   pIf y3.1
     ((yzd n (IntKind.i64.wrap (a0 - 1)) y3.2).bind fun y4 =>
     zh5 y4 (fun r5 =>
       (yzc n [32] r5.1).bind fun y6 =>
       zh5 y6 (fun r7 =>
         zz7 n 3 a0 r7 a2.re r5.2.re)
         (fun e8 =>
         some (Res.pan (e8.1, ()))))
       (fun e9 =>
       some (Res.pan (e9.1, ()))))
     (z0h n a0 y3.2 a2.re)
def zz7 : Nat → Int → Int → yz3 → kz0 → kz0 → Option (Res (Int × Unit) (yz3 × kz0))
 | 0, _, _, _, _, _ => none
 | n + 1, a0, a1, a2, a3, a4 =>
   pIf (decide (a0 ≤ 10))
     ((z5s n a0).bind fun y10 =>
     (cat y10 [32]).bind fun x11 =>
     (kz7 n x11 a2).bind fun y12 =>
     pIf y12.1
       ((yzd n (IntKind.i64.wrap (a1 - 1)) y12.2).bind fun y13 =>
       zh5 y13 (fun r14 =>
         (yzc n [41] r14.1).bind fun y15 =>
         zh5 y15 (fun r16 =>
           some (Res.ok (r16, (kz0.mk a0 (yz0.mk 0 (zz2.mk 0 0) false [] []) [] [a4.re, r14.2.re]))))
           (fun e17 =>
           some (Res.pan (e17.1, ()))))
         (fun e18 =>
         some (Res.pan (e18.1, ()))))
       (zz7 n (IntKind.u8.wrap (a0 + 1)) a1 y12.2 a3.re a4.re))
     ((kzq n 12).bind fun y19 =>
     zh5 y19 (fun r20 =>
       z0h n a1 a2 a3.re)
       (fun e21 =>
       some (Res.pan (e21.1, ()))))
def z0h : Nat → Int → yz3 → kz0 → Option (Res (Int × Unit) (yz3 × kz0))
 | 0, _, _, _ => none
 | n + 1, a0, a1, a2 =>
   (kz7 n [91] a1).bind fun y22 =>
   pIf y22.1
     ((kza n (IntKind.i64.wrap (a0 - 1)) [93] y22.2).bind fun y23 =>
     zh5 y23 (fun r24 =>
       some (Res.ok (r24.2, (kz0.mk 18 (yz0.mk 0 (zz2.mk 0 0) false [] []) [] r24.1))))
       (fun e25 =>
       some (Res.pan (e25.1, ()))))
     (zzd n 0 a0 y22.2 a2.re)
def zzd : Nat → Int → Int → yz3 → kz0 → Option (Res (Int × Unit) (yz3 × kz0))
 | 0, _, _, _, _ => none
 | n + 1, a0, a1, a2, a3 =>
   pIf (decide (a0 < (a2.s.length : Int)))
     ((ix a2.s a0).bind fun x26 =>
     pIf (decide ((x26.toNat : Int) ≥ 97))
       ((ix a2.s a0).bind fun x27 =>
       pIf (decide ((x27.toNat : Int) ≤ 122))
         (zz5 n a1 a0 true a2 a3.re)
         (pIf (decide (a0 > 0))
           ((ix a2.s a0).bind fun x28 =>
           pIf ((x28.toNat : Int) == 45)
             (zz5 n a1 a0 true a2 a3.re)
             ((ix a2.s a0).bind fun x29 =>
             pIf (decide ((x29.toNat : Int) ≥ 48))
               ((ix a2.s a0).bind fun x30 =>
               zz5 n a1 a0 (decide ((x30.toNat : Int) ≤ 57)) a2 a3.re)
               (zz5 n a1 a0 false a2 a3.re)))
           (zz5 n a1 a0 false a2 a3.re)))
       (pIf (decide (a0 > 0))
         ((ix a2.s a0).bind fun x31 =>
         pIf ((x31.toNat : Int) == 45)
           (zz5 n a1 a0 true a2 a3.re)
           ((ix a2.s a0).bind fun x32 =>
           pIf (decide ((x32.toNat : Int) ≥ 48))
             ((ix a2.s a0).bind fun x33 =>
             zz5 n a1 a0 (decide ((x33.toNat : Int) ≤ 57)) a2 a3.re)
             (zz5 n a1 a0 false a2 a3.re)))
         (zz5 n a1 a0 false a2 a3.re)))
     (zz5 n a1 a0 false a2 a3.re)
def zz5 : Nat → Int → Int → Bool → yz3 → kz0 → Option (Res (Int × Unit) (yz3 × kz0))
 | 0, _, _, _, _, _ => none
 | n + 1, a0, a1, a2, a3, a4 =>
   pIf a2
     (zzd n (IntKind.i64.wrap (a1 + 1)) a0 a3 a4.re)
     ((sub a3.s 0 a1).bind fun x34 =>
     pIf (a1 == 0)
       ((zzx n a3).bind fun y35 =>
       zh5 y35 (fun r36 =>
         some (Res.ok (r36.1, r36.2.re)))
         (fun e37 =>
         some (Res.pan (e37.1, ()))))
       (pIf (x34 == [116, 114, 117, 101])
         (kzn n x34 a1 a0 true a3 a4.re)
         (kzn n x34 a1 a0 (x34 == [102, 97, 108, 115, 101]) a3 a4.re)))
def kzn : Nat → (List UInt8) → Int → Int → Bool → yz3 → kz0 → Option (Res (Int × Unit) (yz3 × kz0))
 | 0, _, _, _, _, _, _ => none
 | n + 1, a0, a1, a2, a3, a4, a5 =>
   pIf a3
     ((sub a4.s a1 (a4.s.length : Int)).bind fun x38 =>
     (z6v n (a0 == [116, 114, 117, 101])).bind fun y39 =>
     some (Res.ok ((yz3.mk x38), (kz0.mk 1 y39.re [] []))))
     ((sub a4.s a1 (a4.s.length : Int)).bind fun x40 =>
     (kz7 n [40] (yz3.mk x40)).bind fun y41 =>
     pIf (!y41.1)
       (some (Res.ok (y41.2, (kz0.mk 2 (yz0.mk 0 (zz2.mk 0 0) false [] []) a0 []))))
       ((kzd n [110, 111, 116, 32, 105, 102, 32, 109, 105, 110, 32, 109, 97, 120, 32, 102, 108, 111, 111, 114, 32, 108, 101, 110, 32, 97, 116]).bind fun y42 =>
       (kze n y42 a0).bind fun y43 =>
       pIf (decide (y43 < 0))
         ((kzq n 12).bind fun y44 =>
         zh5 y44 (fun r45 =>
           yzn n a2 y43 y41.2 a5.re)
           (fun e46 =>
           some (Res.pan (e46.1, ()))))
         (yzn n a2 y43 y41.2 a5.re)))
def yzn : Nat → Int → Int → yz3 → kz0 → Option (Res (Int × Unit) (yz3 × kz0))
 | 0, _, _, _, _ => none
 | n + 1, a0, a1, a2, a3 =>
   (kza n (IntKind.i64.wrap (a0 - 1)) [41] a2).bind fun y47 =>
   zh5 y47 (fun r48 =>
     some (Res.ok (r48.2, (kz0.mk (IntKind.u8.wrap (11 + (IntKind.u8.wrap a1))) (yz0.mk 0 (zz2.mk 0 0) false [] []) [] r48.1))))
     (fun e49 =>
     some (Res.pan (e49.1, ())))
def kza : Nat → Int → (List UInt8) → yz3 → Option (Res (Int × Unit) ((List kz0) × yz3))
 | 0, _, _, _ => none
 | n + 1, a0, a1, a2 =>
   (kz7 n a1 a2).bind fun y0 =>
   pIf y0.1
     (some (Res.ok ([], y0.2)))
     (kzf n a1 a0 y0.2 [])
def kzf : Nat → (List UInt8) → Int → yz3 → (List kz0) → Option (Res (Int × Unit) ((List kz0) × yz3))
 | 0, _, _, _, _ => none
 | n + 1, a0, a1, a2, a3 =>
   (yzd n a1 a2).bind fun y1 =>
   zh5 y1 (fun r2 =>
     (ext a3 [r2.2.re]).bind fun x3 =>
     (kz7 n a0 r2.1).bind fun y4 =>
     pIf y4.1
       (some (Res.ok (x3, y4.2)))
       ((yzc n [44, 32] y4.2).bind fun y5 =>
       zh5 y5 (fun r6 =>
         kzf n a0 a1 r6 x3)
         (fun e7 =>
         some (Res.pan (e7.1, ())))))
     (fun e8 =>
     some (Res.pan (e8.1, ())))
end
def zwo : LSh := ⟨[(4, (.ptr 1 0))], [(.st 6), (.st 4)], 1, 167⟩
noncomputable def z6j : FI dat := FI.ofP dat 73 167 1 [(.ptr 0 0), (.d (.int .i64))] [(.st 6)] [(.d (.st 4))] [(.st 6), (.st 4)] (.iface 31 (.d (.int .i64))) [(.cells [.any])] [] zwo (R := yz3 × kz0) (fun x => (x.1, x.2.1)) (fun r => (r.2, r.1, r.2, ())) (fun n x => yzd n x.1 x.2.1)
 (fun n => [(0, ⟨⟨[(4, (.ptr 1 0)), (0, (.ptr 0 0)), (1, (.d (.int .i64)))], [(.st 6), (.st 4)], 1, 167⟩, fun x => yz6 n x.1 x.2.1 x.2.2.1⟩), (1, ⟨⟨[(4, (.ptr 1 0)), (5, (.ptr 2 0)), (6, (.d (.int .u8))), (0, (.ptr 0 0)), (1, (.d (.int .i64)))], [(.st 6), (.st 4), (.st 4)], 1, 167⟩, fun x => zz7 n x.1 x.2.1 x.2.2.1 x.2.2.2.1 x.2.2.2.2.1⟩), (2, ⟨⟨[(4, (.ptr 1 0)), (1, (.d (.int .i64))), (0, (.ptr 0 0))], [(.st 6), (.st 4)], 1, 167⟩, fun x => z0h n x.1 x.2.1 x.2.2.1⟩), (3, ⟨⟨[(8, (.d (.int .i64))), (4, (.ptr 1 0)), (0, (.ptr 0 0)), (1, (.d (.int .i64)))], [(.st 6), (.st 4)], 1, 167⟩, fun x => zzd n x.1 x.2.1 x.2.2.1 x.2.2.2.1⟩), (4, ⟨⟨[(4, (.ptr 1 0)), (0, (.ptr 0 0)), (1, (.d (.int .i64))), (8, (.d (.int .i64))), (105, (.d .bool))], [(.st 6), (.st 4)], 1, 167⟩, fun x => zz5 n x.1 x.2.1 x.2.2.1 x.2.2.2.1 x.2.2.2.2.1⟩), (5, ⟨⟨[(4, (.ptr 1 0)), (9, (.d .str)), (8, (.d (.int .i64))), (0, (.ptr 0 0)), (1, (.d (.int .i64))), (119, (.d .bool))], [(.st 6), (.st 4)], 1, 167⟩, fun x => kzn n x.1 x.2.1 x.2.2.1 x.2.2.2.1 x.2.2.2.2.1 x.2.2.2.2.2.1⟩), (6, ⟨⟨[(4, (.ptr 1 0)), (1, (.d (.int .i64))), (0, (.ptr 0 0)), (10, (.d (.int .i64)))], [(.st 6), (.st 4)], 1, 167⟩, fun x => yzn n x.1 x.2.1 x.2.2.1 x.2.2.2.1⟩)]) (ann [(8, 0), (20, 1), (43, 2), (55, 3), (59, 4), (76, 5), (101, 6)] (Tryz.f73.body.getD .skip) 0).1
def zrd : LSh := ⟨[(6, (.d (.sl (.st 4))))], [(.st 6)], 1, 24⟩
noncomputable def zcc : FI dat := FI.ofP dat 102 24 1 [(.ptr 0 0), (.d (.int .i64)), (.d .str)] [(.st 6)] [(.d (.sl (.st 4)))] [(.st 6)] (.iface 31 (.d (.int .i64))) [(.cells [.any])] [] zrd (R := (List kz0) × yz3) (fun x => (x.1, x.2.1)) (fun r => (r.1, r.2, ())) (fun n x => kza n x.1 x.2.1 x.2.2.1)
 (fun n => [(0, ⟨⟨[(0, (.ptr 0 0)), (2, (.d .str)), (1, (.d (.int .i64))), (7, (.own 1))], [(.st 6), (.acc 29 (.st 4) true)], 1, 24⟩, fun x => kzf n x.1 x.2.1 x.2.2.1 x.2.2.2.1⟩)]) (ann [(13, 0)] (Tryz.f102.body.getD .skip) 0).1
noncomputable def zmc : List (FI dat) := [z6j, zcc] ++ [z2r, z4y, z8y, zcf, z6b, zfx, z3m, z1m]
theorem zwk : (z6j).Good Tryz.prog dat (tb zmc) := FI.zp2 (hD := zz3 _) Tryz.func73 Tryz.ntmps73 Tryz.call73 (by kernel_rfl) (of_decide_eq_true (by kernel_rfl)) (by kernel_rfl) (fun n => by kernel_rfl) trivial (fun x => by kernel_rfl) (fun _ => rfl) ⟨fun _ => rfl, fun _ => rfl, fun _ => rfl, fun _ => rfl, fun _ => rfl, fun _ => rfl, fun _ => rfl, trivial⟩
 (fun n => fun x => (yzd.eq_2 x.1 x.2.1 n).trans (by kernel_rfl))
 (fun n => ⟨fun x => (yz6.eq_2 x.1 x.2.1 x.2.2.1 n).trans (by kernel_rfl),
  fun x => (zz7.eq_2 x.1 x.2.1 x.2.2.1 x.2.2.2.1 x.2.2.2.2.1 n).trans (by kernel_rfl),
  fun x => (z0h.eq_2 x.1 x.2.1 x.2.2.1 n).trans (by kernel_rfl),
  fun x => (zzd.eq_2 x.1 x.2.1 x.2.2.1 x.2.2.2.1 n).trans (by kernel_rfl),
  fun x => (zz5.eq_2 x.1 x.2.1 x.2.2.1 x.2.2.2.1 x.2.2.2.2.1 n).trans (by kernel_rfl),
  fun x => (kzn.eq_2 x.1 x.2.1 x.2.2.1 x.2.2.2.1 x.2.2.2.2.1 x.2.2.2.2.2.1 n).trans (by kernel_rfl),
  fun x => (yzn.eq_2 x.1 x.2.1 x.2.2.1 x.2.2.2.1 n).trans (by kernel_rfl),
  trivial⟩)
 (fun x => by kernel_rfl)
theorem zrk : (zcc).Good Tryz.prog dat (tb zmc) := FI.zp2 (hD := zz3 _) Tryz.func102 Tryz.ntmps102 Tryz.call102 (by kernel_rfl) (of_decide_eq_true (by kernel_rfl)) (by kernel_rfl) (fun n => by kernel_rfl) trivial (fun x => by kernel_rfl) (fun _ => rfl) ⟨fun _ => rfl, trivial⟩
 (fun n => fun x => (kza.eq_2 x.1 x.2.1 x.2.2.1 n).trans (by kernel_rfl))
 (fun n => ⟨fun x => (kzf.eq_2 x.1 x.2.1 x.2.2.1 x.2.2.2.1 n).trans (by kernel_rfl),
  trivial⟩)
 (fun x => by kernel_rfl)
theorem zwu : OkL Tryz.prog [z6j, zcc] := z4p (zz3 _) (bs := [z2r, z4y, z8y, zcf, z6b, zfx, z3m, z1m]) ⟨zfo, zjs, zul, zy4, zq1, y8g, zc6, zio, trivial⟩ ⟨zwk, zrk, trivial⟩
theorem zub : FOk Tryz.prog z6j := zwu.1
def zfk (a0 : Int) : Option Int :=
  some a0
def ya4 : LSh := ⟨[], [(.cells [(.d (.int .i64))])], 1, 10⟩
noncomputable def zvk : zll dat := { f := 72, args := [(.ptr 0 0)], aos := [(.cells [(.d (.int .i64))])], m := none, ros := [(.cells [(.d (.int .i64))])], go := fun x mx => (zfk x.1 ).bind fun r => some (r, ()) }
theorem y3j : (zvk).Ok Tryz.prog := ykd (c := (ann [] (Tryz.f72.body.getD .skip) 0).1) (args := [(.ptr 0 0)]) (aos := [(.cells [(.d (.int .i64))])]) (ros := [(.cells [(.d (.int .i64))])]) (m := none) (l := ya4) (pack := fun x => x.1) (un := fun r => (r, ())) (go := fun x mx => zfk x.1 ) (by kernel_rfl) (zz3 _) Tryz.func72 (by kernel_rfl) Tryz.ntmps72 Tryz.call72 (Nat.le_of_ble_eq_true (by kernel_rfl)) (Nat.le_of_ble_eq_true (by kernel_rfl)) (Nat.le_of_ble_eq_true (by kernel_rfl)) (by kernel_rfl) (by kernel_rfl) (by kernel_rfl) (by kernel_rfl) (fun x => by kernel_rfl) (fun x mx => by kernel_rfl)
def zc2 (a0 : Int) (a1 : Int) : Option Int :=
  pIf (!false)
   (some a1)
   (some a0)
def y1k : LSh := ⟨[], [(.cells [(.d (.int .i64))])], 1, 10⟩
noncomputable def zov : zll dat := { f := 72, args := [(.ptr 0 0)], aos := [(.cells [(.d (.int .i64))])], m := (some (.iface 31 (.d (.int .i64)))), ros := [(.cells [(.d (.int .i64))])], go := fun x mx => (zc2 x.1 mx.1).bind fun r => some (r, ()) }
theorem zwz : (zov).Ok Tryz.prog := ykd (c := (ann [] (Tryz.f72.body.getD .skip) 0).1) (args := [(.ptr 0 0)]) (aos := [(.cells [(.d (.int .i64))])]) (ros := [(.cells [(.d (.int .i64))])]) (m := (some (.iface 31 (.d (.int .i64))))) (l := y1k) (pack := fun x => x.1) (un := fun r => (r, ())) (go := fun x mx => zc2 x.1 mx.1) (by kernel_rfl) (zz3 _) Tryz.func72 (by kernel_rfl) Tryz.ntmps72 Tryz.call72 (Nat.le_of_ble_eq_true (by kernel_rfl)) (Nat.le_of_ble_eq_true (by kernel_rfl)) (Nat.le_of_ble_eq_true (by kernel_rfl)) (by kernel_rfl) (by kernel_rfl) (by kernel_rfl) (by kernel_rfl) (fun x => by kernel_rfl) (fun x mx => by kernel_rfl)
def z2f : Nat → (List UInt8) → Option (kz0 × Int)
 | 0, _ => none
 | n + 1, a0 =>
   (yzd n 12 (yz3.mk a0)).bind fun y0 =>
   zh5 y0 (fun r1 =>
     pIf (!(r1.1.s == []))
       ((kzq n 12).bind fun y2 =>
       zh5 y2 (fun r3 =>
         (((zfk 0).bind fun r5 => some (r5, ()))).bind fun y4 =>
         some (r1.2.re, y4.1))
         (fun e6 =>
         (((zc2 0 e6.1).bind fun r8 => some (r8, ()))).bind fun y7 =>
         some (r1.2.re, y7.1)))
       ((((zfk 0).bind fun r10 => some (r10, ()))).bind fun y9 =>
       some (r1.2.re, y9.1)))
     (fun e11 =>
     (((zc2 0 e11.1).bind fun r13 => some (r13, ()))).bind fun y12 =>
     some ((kz0.mk 0 (yz0.mk 0 (zz2.mk 0 0) false [] []) [] []), y12.1))
def yj3 : LSh := ⟨[(2, (.ptr 0 0)), (3, (.ptr 1 0))], [(.st 4), (.cells [(.d (.int .i64))])], 0, 17⟩
noncomputable def zcj : FI dat := FI.ofD dat 42 17 0 [(.d .str)] [] [(.d (.st 4)), (.d (.int .i64))] [(.st 4), (.cells [(.d (.int .i64))])] [zvk, zov] yj3 (R := kz0 × Int) (fun x => (x.1, x.2.1)) (fun r => (r.1, r.2, r.1, r.2, ())) (fun n x => z2f n x.1)
 (fun n => []) (ann [] (Tryz.f42.body.getD .skip) 0).1
noncomputable def yjf : List (FI dat) := [z6j, z2r]
theorem yi0 : (zcj).Good Tryz.prog dat (tb yjf) := FI.ysj (hD := zz3 _) Tryz.func42 Tryz.ntmps42 Tryz.call42 (by kernel_rfl) (of_decide_eq_true (by kernel_rfl)) (by kernel_rfl) (fun n => by kernel_rfl) ⟨y3j, zwz, trivial⟩ (fun x => by kernel_rfl) (fun _ => rfl) trivial
 (fun n => fun x => (z2f.eq_2 x.1 n).trans (by kernel_rfl))
 (fun n => trivial)
 (fun x => by kernel_rfl)
theorem yhg : OkL Tryz.prog [zcj] := yze (zz3 _) (bs := [z6j, z2r]) ⟨zub, zfo, trivial⟩ yi0
theorem zxj : FOk Tryz.prog zcj := yhg.1
end Go.Proofs.YtfhpamcehnfhoaaGreatDoor


namespace Go.Proofs.YtfhpamcehnfhoaaGreatDoor
open Go Go.Ab
set_option linter.unusedVariables false
set_option maxRecDepth 100000
mutual
def z08 : Nat → (List UInt8) → Option (Int × kz0)
 | 0, _ => none
 | n + 1, a0 =>
   pIf (decide ((a0.length : Int) > 4000))
     (some (12, (kz0.mk 0 (yz0.mk 0 (zz2.mk 0 0) false [] []) [] [])))
     ((z2f n a0).bind fun y0 =>
     pIf (y0.2 != 0)
       (yzj n true (kz0.mk 0 (yz0.mk 0 (zz2.mk 0 0) false [] []) [] []) y0.1.re)
       ((z2y n y0.1.re).bind fun y1 =>
       yzj n (y1 != 0) (kz0.mk 0 (yz0.mk 0 (zz2.mk 0 0) false [] []) [] []) y0.1.re))
def yzj : Nat → Bool → kz0 → kz0 → Option (Int × kz0)
 | 0, _, _, _ => none
 | n + 1, a0, a1, a2 =>
   pIf a0
     (some (12, (kz0.mk 0 (yz0.mk 0 (zz2.mk 0 0) false [] []) [] [])))
     (some (0, a2.re))
end
def zpf : LSh := ⟨[(2, (.ptr 0 0)), (3, (.d (.int .i64)))], [(.st 4)], 0, 24⟩
noncomputable def z5z : FI dat := FI.of dat 13 24 0 [(.d .str)] [] [(.d (.st 4)), (.d (.int .i64))] [] true zpf (R := Int × kz0) (fun x => (x.1, x.2.1)) (fun r => (r.2, r.1, ())) (fun n x => z08 n x.1)
 (fun n => [(0, ⟨⟨[(2, (.ptr 0 0)), (4, (.ptr 1 0)), (21, (.d .bool))], [(.st 4), (.st 4)], 0, 24⟩, fun x => yzj n x.1 x.2.1 x.2.2.1⟩)]) (ann [(15, 0)] (Tryz.f13.body.getD .skip) 0).1
noncomputable def zpy : List (FI dat) := [zcj, z8b]
theorem zpe : (z5z).Good Tryz.prog dat (tb zpy) := FI.yz5 (hD := zz3 _) Tryz.func13 Tryz.ntmps13 Tryz.call13 (by kernel_rfl) (of_decide_eq_true (by kernel_rfl)) (by kernel_rfl) (fun n => by kernel_rfl) (fun x => by kernel_rfl) (fun _ => rfl) ⟨fun _ => rfl, trivial⟩
 (fun n => fun x => (z08.eq_2 x.1 n).trans (by kernel_rfl))
 (fun n => ⟨fun x => (yzj.eq_2 x.1 x.2.1 x.2.2.1 n).trans (by kernel_rfl),
  trivial⟩)
 (fun x => .inl rfl)
theorem zpn : OkL Tryz.prog [z5z] := yze (zz3 _) (bs := [zcj, z8b]) ⟨zxj, zo2, trivial⟩ zpe
theorem znc : FOk Tryz.prog z5z := zpn.1
def zzg : Nat → (List UInt8) → Int → (List UInt8) → Option Bool
 | 0, _, _, _ => none
 | n + 1, a0, a1, a2 =>
   pIf (decide ((IntKind.i64.wrap (a1 + (a2.length : Int))) ≤ (a0.length : Int)))
     ((sub a0 a1 (IntKind.i64.wrap (a1 + (a2.length : Int)))).bind fun x0 =>
     some (x0 == a2))
     (some false)
def y7i : LSh := ⟨[(6, (.d .bool))], [], 0, 25⟩
noncomputable def z90 : FI dat := FI.of dat 78 25 0 [(.d .str), (.d (.int .i64)), (.d .str)] [] [(.d .bool)] [] true y7i (R := Bool) (fun x => x.1) (fun r => (r, ())) (fun n x => zzg n x.1 x.2.1 x.2.2.1)
 (fun n => []) (ann [] (Tryz.f78.body.getD .skip) 0).1
noncomputable def y6k : List (FI dat) := []
theorem y7s : (z90).Good Tryz.prog dat (tb y6k) := FI.yz5 (hD := zz3 _) Tryz.func78 Tryz.ntmps78 Tryz.call78 (by kernel_rfl) (of_decide_eq_true (by kernel_rfl)) (by kernel_rfl) (fun n => by kernel_rfl) (fun x => by kernel_rfl) (fun _ => rfl) trivial
 (fun n => fun x => (zzg.eq_2 x.1 x.2.1 x.2.2.1 n).trans (by kernel_rfl))
 (fun n => trivial)
 (fun x => .inl rfl)
theorem y67 : OkL Tryz.prog [z90] := yze (zz3 _) (bs := []) trivial y7s
theorem zql : FOk Tryz.prog z90 := y67.1
def zcd : Nat → Bool → Option yz0
 | 0, _ => none
 | n + 1, a0 =>
   some (yz0.mk 2 (zz2.mk 0 0) a0 [] [])
def yls : LSh := ⟨[(2, (.ptr 0 0))], [(.st 3)], 0, 5⟩
noncomputable def zma : FI dat := FI.of dat 17 5 0 [(.d .bool)] [] [(.d (.st 3))] [] true yls (R := yz0) (fun x => x.1) (fun r => (r, ())) (fun n x => zcd n x.1)
 (fun n => []) (ann [] (Tryz.f17.body.getD .skip) 0).1
noncomputable def ynd : List (FI dat) := []
theorem ym2 : (zma).Good Tryz.prog dat (tb ynd) := FI.yz5 (hD := zz3 _) Tryz.func17 Tryz.ntmps17 Tryz.call17 (by kernel_rfl) (of_decide_eq_true (by kernel_rfl)) (by kernel_rfl) (fun n => by kernel_rfl) (fun x => by kernel_rfl) (fun _ => rfl) trivial
 (fun n => fun x => (zcd.eq_2 x.1 n).trans (by kernel_rfl))
 (fun n => trivial)
 (fun x => .inl rfl)
theorem yly : OkL Tryz.prog [zma] := yze (zz3 _) (bs := []) trivial ym2
theorem yhk : FOk Tryz.prog zma := yly.1
def zd6 : Nat → (List UInt8) → Option yz0
 | 0, _ => none
 | n + 1, a0 =>
   some (yz0.mk 3 (zz2.mk 0 0) false a0 [])
def yib : LSh := ⟨[(2, (.ptr 0 0))], [(.st 3)], 0, 5⟩
noncomputable def zja : FI dat := FI.of dat 19 5 0 [(.d .str)] [] [(.d (.st 3))] [] true yib (R := yz0) (fun x => x.1) (fun r => (r, ())) (fun n x => zd6 n x.1)
 (fun n => []) (ann [] (Tryz.f19.body.getD .skip) 0).1
noncomputable def ykb : List (FI dat) := []
theorem yi5 : (zja).Good Tryz.prog dat (tb ykb) := FI.yz5 (hD := zz3 _) Tryz.func19 Tryz.ntmps19 Tryz.call19 (by kernel_rfl) (of_decide_eq_true (by kernel_rfl)) (by kernel_rfl) (fun n => by kernel_rfl) (fun x => by kernel_rfl) (fun _ => rfl) trivial
 (fun n => fun x => (zd6.eq_2 x.1 n).trans (by kernel_rfl))
 (fun n => trivial)
 (fun x => .inl rfl)
theorem yjm : OkL Tryz.prog [zja] := yze (zz3 _) (bs := []) trivial yi5
theorem ygo : FOk Tryz.prog zja := yjm.1
mutual
def z4s : Nat → (List UInt8) → Int → Option (Int × Bool × yz0)
 | 0, _, _ => none
 | n + 1, a0, a1 =>
   zzh n (IntKind.i64.wrap (a1 + 1)) [] a0 (yz0.mk 0 (zz2.mk 0 0) false [] [])
def zzh : Nat → Int → (List UInt8) → (List UInt8) → yz0 → Option (Int × Bool × yz0)
 | 0, _, _, _, _ => none
 | n + 1, a0, a1, a2, a3 =>
   pIf (decide (a0 < (a2.length : Int)))
     ((ix a2 a0).bind fun x0 =>
     pIf ((x0.toNat : Int) == 34)
       ((zd6 n a1).bind fun y1 =>
       some ((IntKind.i64.wrap (a0 + 1)), true, y1.re))
       ((ix a2 a0).bind fun x2 =>
       pIf ((x2.toNat : Int) == 92)
         (pIf (decide ((IntKind.i64.wrap (a0 + 1)) < (a2.length : Int)))
           ((ix a2 (IntKind.i64.wrap (a0 + 1))).bind fun x3 =>
           pIf ((x3.toNat : Int) == 34)
             (z0r n a2 a1 a0 true a3.re)
             ((ix a2 (IntKind.i64.wrap (a0 + 1))).bind fun x4 =>
             z0r n a2 a1 a0 ((x4.toNat : Int) == 92) a3.re))
           (z0r n a2 a1 a0 false a3.re))
         (z0r n a2 a1 a0 false a3.re)))
     (some (0, false, (yz0.mk 0 (zz2.mk 0 0) false [] [])))
def z0r : Nat → (List UInt8) → (List UInt8) → Int → Bool → yz0 → Option (Int × Bool × yz0)
 | 0, _, _, _, _, _ => none
 | n + 1, a0, a1, a2, a3, a4 =>
   pIf a3
     (z4z n a0 (IntKind.i64.wrap (a2 + 1)) a1 a4.re)
     ((ix a0 a2).bind fun x5 =>
     pIf ((x5.toNat : Int) == 92)
       (some (0, false, (yz0.mk 0 (zz2.mk 0 0) false [] [])))
       (z4z n a0 a2 a1 a4.re))
def z4z : Nat → (List UInt8) → Int → (List UInt8) → yz0 → Option (Int × Bool × yz0)
 | 0, _, _, _, _ => none
 | n + 1, a0, a1, a2, a3 =>
   (sub a0 a1 (IntKind.i64.wrap (a1 + 1))).bind fun x6 =>
   (cat a2 x6).bind fun x7 =>
   zzh n (IntKind.i64.wrap (a1 + 1)) x7 a0 a3.re
end
def y70 : LSh := ⟨[(4, (.ptr 0 0)), (5, (.d (.int .i64))), (6, (.d .bool))], [(.st 3)], 0, 68⟩
noncomputable def zco : FI dat := FI.of dat 106 68 0 [(.d .str), (.d (.int .i64))] [] [(.d (.st 3)), (.d (.int .i64)), (.d .bool)] [] true y70 (R := Int × Bool × yz0) (fun x => (x.1, x.2.1, x.2.2.1)) (fun r => (r.2.2, r.1, r.2.1, ())) (fun n x => z4s n x.1 x.2.1)
 (fun n => [(0, ⟨⟨[(4, (.ptr 0 0)), (8, (.d (.int .i64))), (7, (.d .str)), (0, (.d .str))], [(.st 3)], 0, 68⟩, fun x => zzh n x.1 x.2.1 x.2.2.1 x.2.2.2.1⟩), (1, ⟨⟨[(4, (.ptr 0 0)), (0, (.d .str)), (7, (.d .str)), (8, (.d (.int .i64))), (26, (.d .bool))], [(.st 3)], 0, 68⟩, fun x => z0r n x.1 x.2.1 x.2.2.1 x.2.2.2.1 x.2.2.2.2.1⟩), (2, ⟨⟨[(4, (.ptr 0 0)), (0, (.d .str)), (8, (.d (.int .i64))), (7, (.d .str))], [(.st 3)], 0, 68⟩, fun x => z4z n x.1 x.2.1 x.2.2.1 x.2.2.2.1⟩)]) (ann [(8, 0), (27, 1), (36, 2)] (Tryz.f106.body.getD .skip) 0).1
noncomputable def y78 : List (FI dat) := [zja]
theorem y7d : (zco).Good Tryz.prog dat (tb y78) := FI.yz5 (hD := zz3 _) Tryz.func106 Tryz.ntmps106 Tryz.call106 (by kernel_rfl) (of_decide_eq_true (by kernel_rfl)) (by kernel_rfl) (fun n => by kernel_rfl) (fun x => by kernel_rfl) (fun _ => rfl) ⟨fun _ => rfl, fun _ => rfl, fun _ => rfl, trivial⟩
 (fun n => fun x => (z4s.eq_2 x.1 x.2.1 n).trans (by kernel_rfl))
 (fun n => ⟨fun x => (zzh.eq_2 x.1 x.2.1 x.2.2.1 x.2.2.2.1 n).trans (by kernel_rfl),
  fun x => (z0r.eq_2 x.1 x.2.1 x.2.2.1 x.2.2.2.1 x.2.2.2.2.1 n).trans (by kernel_rfl),
  fun x => (z4z.eq_2 x.1 x.2.1 x.2.2.1 x.2.2.2.1 n).trans (by kernel_rfl),
  trivial⟩)
 (fun x => .inl rfl)
theorem y6g : OkL Tryz.prog [zco] := yze (zz3 _) (bs := [zja]) ⟨ygo, trivial⟩ y7d
theorem y2q : FOk Tryz.prog zco := y6g.1
mutual
def z7w : Nat → (List UInt8) → Option (Int × Bool)
 | 0, _ => none
 | n + 1, a0 =>
   pIf (decide ((a0.length : Int) > 0))
     ((ix a0 0).bind fun x0 =>
     z54 n a0 0 0 ((x0.toNat : Int) == 45))
     (z54 n a0 0 0 false)
def z54 : Nat → (List UInt8) → Int → Int → Bool → Option (Int × Bool)
 | 0, _, _, _, _ => none
 | n + 1, a0, a1, a2, a3 =>
   pIf a3
     (z6i n a0 a1 1)
     (z6i n a0 a1 a2)
def z6i : Nat → (List UInt8) → Int → Int → Option (Int × Bool)
 | 0, _, _, _ => none
 | n + 1, a0, a1, a2 =>
   z50 n a2 a0 a1 a2
def z50 : Nat → Int → (List UInt8) → Int → Int → Option (Int × Bool)
 | 0, _, _, _, _ => none
 | n + 1, a0, a1, a2, a3 =>
   pIf (decide (a0 < (a1.length : Int)))
     ((ix a1 a0).bind fun x1 =>
     pIf (decide ((x1.toNat : Int) < 48))
       (z2q n a1 a3 a0 a2 true)
       ((ix a1 a0).bind fun x2 =>
       pIf (decide ((x2.toNat : Int) > 57))
         (z2q n a1 a3 a0 a2 true)
         (z2q n a1 a3 a0 a2 (decide (a0 > (IntKind.i64.wrap (a3 + 9)))))))
     (pIf (a3 == 1)
       (z1e n a1 (IntKind.i64.wrap (0 - a2)) a3)
       (z1e n a1 a2 a3))
def z2q : Nat → (List UInt8) → Int → Int → Int → Bool → Option (Int × Bool)
 | 0, _, _, _, _, _ => none
 | n + 1, a0, a1, a2, a3, a4 =>
   pIf a4
     (some (0, false))
     ((ix a0 a2).bind fun x3 =>
     z50 n (IntKind.i64.wrap (a2 + 1)) a0 (IntKind.i64.wrap ((IntKind.i64.wrap (10 * a3)) + (IntKind.i64.wrap (IntKind.u8.wrap ((x3.toNat : Int) - 48))))) a1)
def z1e : Nat → (List UInt8) → Int → Int → Option (Int × Bool)
 | 0, _, _, _ => none
 | n + 1, a0, a1, a2 =>
   pIf (decide ((a0.length : Int) > a2))
     ((z02 n a1).bind fun y4 =>
     some (a1, (y4 == a0)))
     (some (a1, false))
end
def y6i : LSh := ⟨[(2, (.d (.int .i64))), (3, (.d .bool))], [], 0, 61⟩
noncomputable def zcn : FI dat := FI.of dat 165 61 0 [(.d .str)] [] [(.d (.int .i64)), (.d .bool)] [] true y6i (R := Int × Bool) (fun x => (x.1, x.2.1)) (fun r => (r.1, r.2, ())) (fun n x => z7w n x.1)
 (fun n => [(0, ⟨⟨[(0, (.d .str)), (5, (.d (.int .i64))), (4, (.d (.int .i64))), (14, (.d .bool))], [], 0, 61⟩, fun x => z54 n x.1 x.2.1 x.2.2.1 x.2.2.2.1⟩), (1, ⟨⟨[(0, (.d .str)), (5, (.d (.int .i64))), (4, (.d (.int .i64)))], [], 0, 61⟩, fun x => z6i n x.1 x.2.1 x.2.2.1⟩), (2, ⟨⟨[(6, (.d (.int .i64))), (0, (.d .str)), (5, (.d (.int .i64))), (4, (.d (.int .i64)))], [], 0, 61⟩, fun x => z50 n x.1 x.2.1 x.2.2.1 x.2.2.2.1⟩), (3, ⟨⟨[(0, (.d .str)), (4, (.d (.int .i64))), (6, (.d (.int .i64))), (5, (.d (.int .i64))), (37, (.d .bool))], [], 0, 61⟩, fun x => z2q n x.1 x.2.1 x.2.2.1 x.2.2.2.1 x.2.2.2.2.1⟩), (4, ⟨⟨[(0, (.d .str)), (5, (.d (.int .i64))), (4, (.d (.int .i64)))], [], 0, 61⟩, fun x => z1e n x.1 x.2.1 x.2.2.1⟩)]) (ann [(7, 0), (10, 1), (14, 2), (26, 3), (39, 4)] (Tryz.f165.body.getD .skip) 0).1
noncomputable def y63 : List (FI dat) := [z62]
theorem y4l : (zcn).Good Tryz.prog dat (tb y63) := FI.yz5 (hD := zz3 _) Tryz.func165 Tryz.ntmps165 Tryz.call165 (by kernel_rfl) (of_decide_eq_true (by kernel_rfl)) (by kernel_rfl) (fun n => by kernel_rfl) (fun x => by kernel_rfl) (fun _ => rfl) ⟨fun _ => rfl, fun _ => rfl, fun _ => rfl, fun _ => rfl, fun _ => rfl, trivial⟩
 (fun n => fun x => (z7w.eq_2 x.1 n).trans (by kernel_rfl))
 (fun n => ⟨fun x => (z54.eq_2 x.1 x.2.1 x.2.2.1 x.2.2.2.1 n).trans (by kernel_rfl),
  fun x => (z6i.eq_2 x.1 x.2.1 x.2.2.1 n).trans (by kernel_rfl),
  fun x => (z50.eq_2 x.1 x.2.1 x.2.2.1 x.2.2.2.1 n).trans (by kernel_rfl),
  fun x => (z2q.eq_2 x.1 x.2.1 x.2.2.1 x.2.2.2.1 x.2.2.2.2.1 n).trans (by kernel_rfl),
  fun x => (z1e.eq_2 x.1 x.2.1 x.2.2.1 n).trans (by kernel_rfl),
  trivial⟩)
 (fun x => .inl rfl)
theorem y77 : OkL Tryz.prog [zcn] := yze (zz3 _) (bs := [z62]) ⟨zp4, trivial⟩ y4l
theorem y3i : FOk Tryz.prog zcn := y77.1
mutual
def zag : Nat → (List UInt8) → Option (Int × zz2)
 | 0, _ => none
 | n + 1, a0 =>
   z60 n 0 a0 (zz2.mk 0 0)
def z60 : Nat → Int → (List UInt8) → zz2 → Option (Int × zz2)
 | 0, _, _, _ => none
 | n + 1, a0, a1, a2 =>
   pIf (decide (a0 < (a1.length : Int)))
     ((ix a1 a0).bind fun x0 =>
     z5q n a1 a0 ((x0.toNat : Int) != 47) a2)
     (z5q n a1 a0 false a2)
def z5q : Nat → (List UInt8) → Int → Bool → zz2 → Option (Int × zz2)
 | 0, _, _, _, _ => none
 | n + 1, a0, a1, a2, a3 =>
   pIf a2
     (z60 n (IntKind.i64.wrap (a1 + 1)) a0 a3)
     ((sub a0 0 a1).bind fun x1 =>
     (z7w n x1).bind fun y2 =>
     pIf (!y2.2)
       (some (12, (zz2.mk 0 0)))
       (pIf (decide (a1 < (a0.length : Int)))
         ((sub a0 (IntKind.i64.wrap (a1 + 1)) (a0.length : Int)).bind fun x3 =>
         (z7w n x3).bind fun y4 =>
         pIf (!y4.2)
           (z5x n true a3 (zz2.mk y2.1 y4.1))
           (z5x n (y4.1 == 1) a3 (zz2.mk y2.1 y4.1)))
         (z5r n a3 (zz2.mk y2.1 1))))
def z5x : Nat → Bool → zz2 → zz2 → Option (Int × zz2)
 | 0, _, _, _ => none
 | n + 1, a0, a1, a2 =>
   pIf a0
     (some (12, (zz2.mk 0 0)))
     (z5r n a1 a2)
def z5r : Nat → zz2 → zz2 → Option (Int × zz2)
 | 0, _, _ => none
 | n + 1, a0, a1 =>
   (z1t n a1).bind fun y5 =>
   pIf (y5 != 0)
     (some (12, (zz2.mk 0 0)))
     (some (0, a1))
end
def y85 : LSh := ⟨[(2, (.ptr 0 0)), (3, (.d (.int .i64)))], [(.st 2)], 0, 57⟩
noncomputable def zeh : FI dat := FI.of dat 137 57 0 [(.d .str)] [] [(.d (.st 2)), (.d (.int .i64))] [] true y85 (R := Int × zz2) (fun x => (x.1, x.2.1)) (fun r => (r.2, r.1, ())) (fun n x => zag n x.1)
 (fun n => [(0, ⟨⟨[(4, (.d (.int .i64))), (2, (.ptr 0 0)), (0, (.d .str))], [(.st 2)], 0, 57⟩, fun x => z60 n x.1 x.2.1 x.2.2.1⟩), (1, ⟨⟨[(2, (.ptr 0 0)), (0, (.d .str)), (4, (.d (.int .i64))), (16, (.d .bool))], [(.st 2)], 0, 57⟩, fun x => z5q n x.1 x.2.1 x.2.2.1 x.2.2.2.1⟩), (2, ⟨⟨[(2, (.ptr 0 0)), (5, (.ptr 1 0)), (50, (.d .bool))], [(.st 2), (.st 2)], 0, 57⟩, fun x => z5x n x.1 x.2.1 x.2.2.1⟩), (3, ⟨⟨[(2, (.ptr 0 0)), (5, (.ptr 1 0))], [(.st 2), (.st 2)], 0, 57⟩, fun x => z5r n x.1 x.2.1⟩)]) (ann [(6, 0), (10, 1), (37, 2), (43, 3)] (Tryz.f137.body.getD .skip) 0).1
noncomputable def y9j : List (FI dat) := [zcn, z6x]
theorem y9v : (zeh).Good Tryz.prog dat (tb y9j) := FI.yz5 (hD := zz3 _) Tryz.func137 Tryz.ntmps137 Tryz.call137 (by kernel_rfl) (of_decide_eq_true (by kernel_rfl)) (by kernel_rfl) (fun n => by kernel_rfl) (fun x => by kernel_rfl) (fun _ => rfl) ⟨fun _ => rfl, fun _ => rfl, fun _ => rfl, fun _ => rfl, trivial⟩
 (fun n => fun x => (zag.eq_2 x.1 n).trans (by kernel_rfl))
 (fun n => ⟨fun x => (z60.eq_2 x.1 x.2.1 x.2.2.1 n).trans (by kernel_rfl),
  fun x => (z5q.eq_2 x.1 x.2.1 x.2.2.1 x.2.2.2.1 n).trans (by kernel_rfl),
  fun x => (z5x.eq_2 x.1 x.2.1 x.2.2.1 n).trans (by kernel_rfl),
  fun x => (z5r.eq_2 x.1 x.2.1 n).trans (by kernel_rfl),
  trivial⟩)
 (fun x => .inl rfl)
theorem y97 : OkL Tryz.prog [zeh] := yze (zz3 _) (bs := [zcn, z6x]) ⟨y3i, zkz, trivial⟩ y9v
theorem y65 : FOk Tryz.prog zeh := y97.1
def zf5 : Nat → zz2 → Option yz0
 | 0, _ => none
 | n + 1, a0 =>
   some (yz0.mk 1 a0 false [] [])
def ykn : LSh := ⟨[(2, (.ptr 0 0))], [(.st 3)], 0, 5⟩
noncomputable def zm8 : FI dat := FI.of dat 44 5 0 [(.d (.st 2))] [] [(.d (.st 3))] [] true ykn (R := yz0) (fun x => x.1) (fun r => (r, ())) (fun n x => zf5 n x.1)
 (fun n => []) (ann [] (Tryz.f44.body.getD .skip) 0).1
noncomputable def ylb : List (FI dat) := []
theorem ymk : (zm8).Good Tryz.prog dat (tb ylb) := FI.yz5 (hD := zz3 _) Tryz.func44 Tryz.ntmps44 Tryz.call44 (by kernel_rfl) (of_decide_eq_true (by kernel_rfl)) (by kernel_rfl) (fun n => by kernel_rfl) (fun x => by kernel_rfl) (fun _ => rfl) trivial
 (fun n => fun x => (zf5.eq_2 x.1 n).trans (by kernel_rfl))
 (fun n => trivial)
 (fun x => .inl rfl)
theorem ymb : OkL Tryz.prog [zm8] := yze (zz3 _) (bs := []) trivial ymk
theorem yjv : FOk Tryz.prog zm8 := ymb.1
mutual
def z65 : Nat → (List UInt8) → Int → Option (Int × Bool × yz0)
 | 0, _, _ => none
 | n + 1, a0, a1 =>
   z2t n a1 a1 a0 (yz0.mk 0 (zz2.mk 0 0) false [] [])
def z2t : Nat → Int → Int → (List UInt8) → yz0 → Option (Int × Bool × yz0)
 | 0, _, _, _, _ => none
 | n + 1, a0, a1, a2, a3 =>
   pIf (decide (a0 < (a2.length : Int)))
     ((ix a2 a0).bind fun x0 =>
     pIf (decide ((x0.toNat : Int) ≥ 48))
       ((ix a2 a0).bind fun x1 =>
       pIf (decide ((x1.toNat : Int) ≤ 57))
         (yzh n a1 a2 a0 true a3.re)
         ((ix a2 a0).bind fun x2 =>
         pIf ((x2.toNat : Int) == 47)
           (yzh n a1 a2 a0 true a3.re)
           ((ix a2 a0).bind fun x3 =>
           pIf ((x3.toNat : Int) == 45)
             (yzh n a1 a2 a0 (a0 == a1) a3.re)
             (yzh n a1 a2 a0 false a3.re))))
       ((ix a2 a0).bind fun x4 =>
       pIf ((x4.toNat : Int) == 47)
         (yzh n a1 a2 a0 true a3.re)
         ((ix a2 a0).bind fun x5 =>
         pIf ((x5.toNat : Int) == 45)
           (yzh n a1 a2 a0 (a0 == a1) a3.re)
           (yzh n a1 a2 a0 false a3.re))))
     (yzh n a1 a2 a0 false a3.re)
def yzh : Nat → Int → (List UInt8) → Int → Bool → yz0 → Option (Int × Bool × yz0)
 | 0, _, _, _, _, _ => none
 | n + 1, a0, a1, a2, a3, a4 =>
   pIf a3
     (z2t n (IntKind.i64.wrap (a2 + 1)) a0 a1 a4.re)
     ((sub a1 a0 a2).bind fun x6 =>
     (zag n x6).bind fun y7 =>
     (zf5 n y7.2).bind fun y8 =>
     some (a2, (y7.1 == 0), y8.re))
end
def y72 : LSh := ⟨[(4, (.ptr 0 0)), (5, (.d (.int .i64))), (6, (.d .bool))], [(.st 3)], 0, 59⟩
noncomputable def zcp : FI dat := FI.of dat 107 59 0 [(.d .str), (.d (.int .i64))] [] [(.d (.st 3)), (.d (.int .i64)), (.d .bool)] [] true y72 (R := Int × Bool × yz0) (fun x => (x.1, x.2.1, x.2.2.1)) (fun r => (r.2.2, r.1, r.2.1, ())) (fun n x => z65 n x.1 x.2.1)
 (fun n => [(0, ⟨⟨[(7, (.d (.int .i64))), (4, (.ptr 0 0)), (1, (.d (.int .i64))), (0, (.d .str))], [(.st 3)], 0, 59⟩, fun x => z2t n x.1 x.2.1 x.2.2.1 x.2.2.2.1⟩), (1, ⟨⟨[(4, (.ptr 0 0)), (1, (.d (.int .i64))), (0, (.d .str)), (7, (.d (.int .i64))), (43, (.d .bool))], [(.st 3)], 0, 59⟩, fun x => yzh n x.1 x.2.1 x.2.2.1 x.2.2.2.1 x.2.2.2.2.1⟩)]) (ann [(6, 0), (10, 1)] (Tryz.f107.body.getD .skip) 0).1
noncomputable def y7n : List (FI dat) := [zeh, zm8]
theorem y55 : (zcp).Good Tryz.prog dat (tb y7n) := FI.yz5 (hD := zz3 _) Tryz.func107 Tryz.ntmps107 Tryz.call107 (by kernel_rfl) (of_decide_eq_true (by kernel_rfl)) (by kernel_rfl) (fun n => by kernel_rfl) (fun x => by kernel_rfl) (fun _ => rfl) ⟨fun _ => rfl, fun _ => rfl, trivial⟩
 (fun n => fun x => (z65.eq_2 x.1 x.2.1 n).trans (by kernel_rfl))
 (fun n => ⟨fun x => (z2t.eq_2 x.1 x.2.1 x.2.2.1 x.2.2.2.1 n).trans (by kernel_rfl),
  fun x => (yzh.eq_2 x.1 x.2.1 x.2.2.1 x.2.2.2.1 x.2.2.2.2.1 n).trans (by kernel_rfl),
  trivial⟩)
 (fun x => .inl rfl)
theorem y4s : OkL Tryz.prog [zcp] := yze (zz3 _) (bs := [zeh, zm8]) ⟨y65, yjv, trivial⟩ y55
theorem y2t : FOk Tryz.prog zcp := y4s.1
end Go.Proofs.YtfhpamcehnfhoaaGreatDoor


namespace Go.Proofs.YtfhpamcehnfhoaaGreatDoor
open Go Go.Ab
set_option linter.unusedVariables false
set_option maxRecDepth 100000
mutual
def z30 : Nat → (List UInt8) → Int → Int → Option (Int × Bool × yz0)
 | 0, _, _, _ => none
 | n + 1, a0, a1, a2 =>
   pIf (a2 == 0)
     (z8q n a1 a0 a2 true 0 0 0 false [] [])
     (z8q n a1 a0 a2 (decide (a1 ≥ (a0.length : Int))) 0 0 0 false [] [])
def z8q : Nat → Int → (List UInt8) → Int → Bool → Int → Int → Int → Bool → (List UInt8) → (List yz0) → Option (Int × Bool × yz0)
 | 0, _, _, _, _, _, _, _, _, _, _ => none
 | n + 1, a0, a1, a2, a3, a4, a5, a6, a7, a8, a9 =>
   pIf a3
     (some (0, false, (yz0.mk 0 (zz2.mk 0 0) false [] [])))
     ((zzg n a1 a0 [116, 114, 117, 101]).bind fun y0 =>
     pIf y0
       ((zcd n true).bind fun y1 =>
       some ((IntKind.i64.wrap (a0 + 4)), true, y1.re))
       ((zzg n a1 a0 [102, 97, 108, 115, 101]).bind fun y2 =>
       pIf y2
         ((zcd n false).bind fun y3 =>
         some ((IntKind.i64.wrap (a0 + 5)), true, y3.re))
         ((ix a1 a0).bind fun x4 =>
         pIf ((x4.toNat : Int) == 34)
           ((z4s n a1 a0).bind fun y5 =>
           some (y5.1, y5.2.1, y5.2.2.re))
           ((ix a1 a0).bind fun x6 =>
           pIf ((x6.toNat : Int) != 91)
             ((z65 n a1 a0).bind fun y7 =>
             some (y7.1, y7.2.1, y7.2.2.re))
             ((zzg n a1 (IntKind.i64.wrap (a0 + 1)) [93]).bind fun y8 =>
             pIf y8
               (some ((IntKind.i64.wrap ((IntKind.i64.wrap (a0 + 1)) + 1)), true, (yz0.mk 4 (zz2.mk 0 0) false [] [])))
               (zde n a1 a2 (IntKind.i64.wrap (a0 + 1)) a4 a5 a6 a7 a8 4 0 0 false [] a9 []))))))
def zde : Nat → (List UInt8) → Int → Int → Int → Int → Int → Bool → (List UInt8) → Int → Int → Int → Bool → (List UInt8) → (List yz0) → (List yz0) → Option (Int × Bool × yz0)
 | 0, _, _, _, _, _, _, _, _, _, _, _, _, _, _, _ => none
 | n + 1, a0, a1, a2, a3, a4, a5, a6, a7, a8, a9, a10, a11, a12, a13, a14 =>
   (z30 n a0 a2 (IntKind.i64.wrap (a1 - 1))).bind fun y9 =>
   pIf (!y9.2.1)
     (some (0, false, (yz0.mk 0 (zz2.mk 0 0) false [] [])))
     ((ext a14 [y9.2.2.re]).bind fun x10 =>
     (zzg n a0 y9.1 [93]).bind fun y11 =>
     pIf y11
       (some ((IntKind.i64.wrap (y9.1 + 1)), true, (yz0.mk a8 (zz2.mk a9 a10) a11 a12 x10)))
       ((zzg n a0 y9.1 [44, 32]).bind fun y12 =>
       pIf (!y12)
         (some (0, false, (yz0.mk 0 (zz2.mk 0 0) false [] [])))
         (zde n a0 a1 (IntKind.i64.wrap (y9.1 + 2)) a3 a4 a5 a6 a7 a8 a9 a10 a11 a12 a13 x10)))
end
def yg0 : LSh := ⟨[(6, (.ptr 0 0)), (7, (.d (.int .i64))), (8, (.d .bool))], [(.st 3)], 0, 113⟩
noncomputable def zdd : FI dat := FI.of dat 77 113 0 [(.d .str), (.d (.int .i64)), (.d (.int .i64))] [] [(.d (.st 3)), (.d (.int .i64)), (.d .bool)] [] true yg0 (R := Int × Bool × yz0) (fun x => (x.1, x.2.1, x.2.2.1)) (fun r => (r.2.2, r.1, r.2.1, ())) (fun n x => z30 n x.1 x.2.1 x.2.2.1)
 (fun n => [(0, ⟨⟨[(6, (.ptr 0 0)), (1, (.d (.int .i64))), (0, (.d .str)), (2, (.d (.int .i64))), (19, (.d .bool))], [(.cells [(.d (.int .u8)), (.d (.int .i64)), (.d (.int .i64)), (.d .bool), (.d .str), (.own 1)]), (.acc 26 (.st 3) true)], 0, 113⟩, fun x => z8q n x.1 x.2.1 x.2.2.1 x.2.2.2.1 x.2.2.2.2.1 x.2.2.2.2.2.1 x.2.2.2.2.2.2.1 x.2.2.2.2.2.2.2.1 x.2.2.2.2.2.2.2.2.1 x.2.2.2.2.2.2.2.2.2.1⟩), (1, ⟨⟨[(6, (.ptr 0 0)), (15, (.ptr 1 0)), (0, (.d .str)), (2, (.d (.int .i64))), (1, (.d (.int .i64)))], [(.cells [(.d (.int .u8)), (.d (.int .i64)), (.d (.int .i64)), (.d .bool), (.d .str), (.own 2)]), (.cells [(.d (.int .u8)), (.d (.int .i64)), (.d (.int .i64)), (.d .bool), (.d .str), (.own 3)]), (.acc 26 (.st 3) true), (.acc 26 (.st 3) true)], 0, 113⟩, fun x => zde n x.1 x.2.1 x.2.2.1 x.2.2.2.1 x.2.2.2.2.1 x.2.2.2.2.2.1 x.2.2.2.2.2.2.1 x.2.2.2.2.2.2.2.1 x.2.2.2.2.2.2.2.2.1 x.2.2.2.2.2.2.2.2.2.1 x.2.2.2.2.2.2.2.2.2.2.1 x.2.2.2.2.2.2.2.2.2.2.2.1 x.2.2.2.2.2.2.2.2.2.2.2.2.1 x.2.2.2.2.2.2.2.2.2.2.2.2.2.1 x.2.2.2.2.2.2.2.2.2.2.2.2.2.2.1⟩)]) (ann [(6, 0), (52, 1)] (Tryz.f77.body.getD .skip) 0).1
noncomputable def ycm : List (FI dat) := [zdd] ++ [z90, zma, zco, zcp]
theorem yfs : (zdd).Good Tryz.prog dat (tb ycm) := FI.yz5 (hD := zz3 _) Tryz.func77 Tryz.ntmps77 Tryz.call77 (by kernel_rfl) (of_decide_eq_true (by kernel_rfl)) (by kernel_rfl) (fun n => by kernel_rfl) (fun x => by kernel_rfl) (fun _ => rfl) ⟨fun _ => rfl, fun _ => rfl, trivial⟩
 (fun n => fun x => (z30.eq_2 x.1 x.2.1 x.2.2.1 n).trans (by kernel_rfl))
 (fun n => ⟨fun x => (z8q.eq_2 x.1 x.2.1 x.2.2.1 x.2.2.2.1 x.2.2.2.2.1 x.2.2.2.2.2.1 x.2.2.2.2.2.2.1 x.2.2.2.2.2.2.2.1 x.2.2.2.2.2.2.2.2.1 x.2.2.2.2.2.2.2.2.2.1 n).trans (by kernel_rfl),
  fun x => (zde.eq_2 x.1 x.2.1 x.2.2.1 x.2.2.2.1 x.2.2.2.2.1 x.2.2.2.2.2.1 x.2.2.2.2.2.2.1 x.2.2.2.2.2.2.2.1 x.2.2.2.2.2.2.2.2.1 x.2.2.2.2.2.2.2.2.2.1 x.2.2.2.2.2.2.2.2.2.2.1 x.2.2.2.2.2.2.2.2.2.2.2.1 x.2.2.2.2.2.2.2.2.2.2.2.2.1 x.2.2.2.2.2.2.2.2.2.2.2.2.2.1 x.2.2.2.2.2.2.2.2.2.2.2.2.2.2.1 n).trans (by kernel_rfl),
  trivial⟩)
 (fun x => .inl rfl)
theorem ydb : OkL Tryz.prog [zdd] := z4p (zz3 _) (bs := [z90, zma, zco, zcp]) ⟨zql, yhk, y2q, y2t, trivial⟩ ⟨yfs, trivial⟩
theorem yb3 : FOk Tryz.prog zdd := ydb.1
mutual
def zzs : Nat → (List UInt8) → Int → Int → Option (Int × Bool × kz0)
 | 0, _, _, _ => none
 | n + 1, a0, a1, a2 =>
   pIf (a2 == 0)
     (z6g n a2 a1 a0 true (kz0.mk 0 (yz0.mk 0 (zz2.mk 0 0) false [] []) [] []))
     (z6g n a2 a1 a0 (decide (a1 ≥ (a0.length : Int))) (kz0.mk 0 (yz0.mk 0 (zz2.mk 0 0) false [] []) [] []))
def z6g : Nat → Int → Int → (List UInt8) → Bool → kz0 → Option (Int × Bool × kz0)
 | 0, _, _, _, _, _ => none
 | n + 1, a0, a1, a2, a3, a4 =>
   pIf a3
     (some (0, false, (kz0.mk 0 (yz0.mk 0 (zz2.mk 0 0) false [] []) [] [])))
     ((ix a2 a1).bind fun x0 =>
     pIf ((x0.toNat : Int) == 40)
       ((zav n a2 (IntKind.i64.wrap (a1 + 1)) (IntKind.i64.wrap (a0 - 1))).bind fun y1 =>
       some (y1.1, y1.2.1, y1.2.2.re))
       ((ix a2 a1).bind fun x2 =>
       pIf ((x2.toNat : Int) == 91)
         ((z64 n a2 (IntKind.i64.wrap (a1 + 1)) (IntKind.i64.wrap (a0 - 1)) [93]).bind fun y3 =>
         some (y3.2.1, y3.2.2, (kz0.mk 18 (yz0.mk 0 (zz2.mk 0 0) false [] []) [] y3.1)))
         (z3b n a1 a1 a2 a0 a4.re)))
def z3b : Nat → Int → Int → (List UInt8) → Int → kz0 → Option (Int × Bool × kz0)
 | 0, _, _, _, _, _ => none
 | n + 1, a0, a1, a2, a3, a4 =>
   pIf (decide (a0 < (a2.length : Int)))
     ((ix a2 a0).bind fun x4 =>
     pIf (decide ((x4.toNat : Int) ≥ 97))
       ((ix a2 a0).bind fun x5 =>
       pIf (decide ((x5.toNat : Int) ≤ 122))
         (zzf n a1 a2 a3 a0 true a4.re)
         (pIf (decide (a0 > a1))
           ((ix a2 a0).bind fun x6 =>
           pIf (decide ((x6.toNat : Int) ≥ 48))
             ((ix a2 a0).bind fun x7 =>
             pIf (decide ((x7.toNat : Int) ≤ 57))
               (zzf n a1 a2 a3 a0 true a4.re)
               ((ix a2 a0).bind fun x8 =>
               zzf n a1 a2 a3 a0 ((x8.toNat : Int) == 45) a4.re))
             ((ix a2 a0).bind fun x9 =>
             zzf n a1 a2 a3 a0 ((x9.toNat : Int) == 45) a4.re))
           (zzf n a1 a2 a3 a0 false a4.re)))
       (pIf (decide (a0 > a1))
         ((ix a2 a0).bind fun x10 =>
         pIf (decide ((x10.toNat : Int) ≥ 48))
           ((ix a2 a0).bind fun x11 =>
           pIf (decide ((x11.toNat : Int) ≤ 57))
             (zzf n a1 a2 a3 a0 true a4.re)
             ((ix a2 a0).bind fun x12 =>
             zzf n a1 a2 a3 a0 ((x12.toNat : Int) == 45) a4.re))
           ((ix a2 a0).bind fun x13 =>
           zzf n a1 a2 a3 a0 ((x13.toNat : Int) == 45) a4.re))
         (zzf n a1 a2 a3 a0 false a4.re)))
     (zzf n a1 a2 a3 a0 false a4.re)
def zzf : Nat → Int → (List UInt8) → Int → Int → Bool → kz0 → Option (Int × Bool × kz0)
 | 0, _, _, _, _, _, _ => none
 | n + 1, a0, a1, a2, a3, a4, a5 =>
   pIf a4
     (z3b n (IntKind.i64.wrap (a3 + 1)) a0 a1 a2 a5.re)
     ((sub a1 a0 a3).bind fun x14 =>
     pIf (a3 == a0)
       (z58 n a0 a1 a3 x14 a2 true a5.re)
       (pIf (x14 == [116, 114, 117, 101])
         (z58 n a0 a1 a3 x14 a2 true a5.re)
         (z58 n a0 a1 a3 x14 a2 (x14 == [102, 97, 108, 115, 101]) a5.re)))
def z58 : Nat → Int → (List UInt8) → Int → (List UInt8) → Int → Bool → kz0 → Option (Int × Bool × kz0)
 | 0, _, _, _, _, _, _, _ => none
 | n + 1, a0, a1, a2, a3, a4, a5, a6 =>
   pIf a5
     ((z30 n a1 a0 1).bind fun y15 =>
     some (y15.1, y15.2.1, (kz0.mk 1 y15.2.2.re [] [])))
     ((zzg n a1 a2 [40]).bind fun y16 =>
     pIf (!y16)
       (some (a2, true, (kz0.mk 2 (yz0.mk 0 (zz2.mk 0 0) false [] []) a3 [])))
       (z0x n 11 a4 a2 a1 a3 a6.re))
def z0x : Nat → Int → Int → Int → (List UInt8) → (List UInt8) → kz0 → Option (Int × Bool × kz0)
 | 0, _, _, _, _, _, _ => none
 | n + 1, a0, a1, a2, a3, a4, a5 =>
   pIf (decide (a0 ≤ 17))
     ((z7x n a0).bind fun y17 =>
     pIf (y17 == a4)
       ((z64 n a3 (IntKind.i64.wrap (a2 + 1)) (IntKind.i64.wrap (a1 - 1)) [41]).bind fun y18 =>
       some (y18.2.1, y18.2.2, (kz0.mk a0 (yz0.mk 0 (zz2.mk 0 0) false [] []) [] y18.1)))
       (z0x n (IntKind.u8.wrap (a0 + 1)) a1 a2 a3 a4 a5.re))
     (some (0, false, (kz0.mk 0 (yz0.mk 0 (zz2.mk 0 0) false [] []) [] [])))
def zav : Nat → (List UInt8) → Int → Int → Option (Int × Bool × kz0)
 | 0, _, _, _ => none
 | n + 1, a0, a1, a2 =>
   (zzs n a0 a1 a2).bind fun y0 =>
   pIf (!y0.2.1)
     (some (0, false, (kz0.mk 0 (yz0.mk 0 (zz2.mk 0 0) false [] []) [] [])))
     (z16 n 3 a0 a2 y0.1 (kz0.mk 0 (yz0.mk 0 (zz2.mk 0 0) false [] []) [] []) y0.2.2.re)
def z16 : Nat → Int → (List UInt8) → Int → Int → kz0 → kz0 → Option (Int × Bool × kz0)
 | 0, _, _, _, _, _, _ => none
 | n + 1, a0, a1, a2, a3, a4, a5 =>
   pIf (decide (a0 ≤ 10))
     ((z6r n a0).bind fun y1 =>
     (cat [32] y1).bind fun x2 =>
     (cat x2 [32]).bind fun x3 =>
     (zzg n a1 a3 x3).bind fun y4 =>
     pIf (!y4)
       (z16 n (IntKind.u8.wrap (a0 + 1)) a1 a2 a3 a4.re a5.re)
       ((zzs n a1 (IntKind.i64.wrap (a3 + (x3.length : Int))) a2).bind fun y5 =>
       pIf (!y5.2.1)
         (z2a n y5.1 a0 true a4.re y5.2.2.re a5.re)
         ((zzg n a1 y5.1 [41]).bind fun y6 =>
         z2a n y5.1 a0 (!y6) a4.re y5.2.2.re a5.re)))
     (some (0, false, (kz0.mk 0 (yz0.mk 0 (zz2.mk 0 0) false [] []) [] [])))
def z2a : Nat → Int → Int → Bool → kz0 → kz0 → kz0 → Option (Int × Bool × kz0)
 | 0, _, _, _, _, _, _ => none
 | n + 1, a0, a1, a2, a3, a4, a5 =>
   pIf a2
     (some (0, false, (kz0.mk 0 (yz0.mk 0 (zz2.mk 0 0) false [] []) [] [])))
     (some ((IntKind.i64.wrap (a0 + 1)), true, (kz0.mk a1 (yz0.mk 0 (zz2.mk 0 0) false [] []) [] [a5.re, a4.re])))
def z64 : Nat → (List UInt8) → Int → Int → (List UInt8) → Option ((List kz0) × Int × Bool)
 | 0, _, _, _, _ => none
 | n + 1, a0, a1, a2, a3 =>
   (zzg n a0 a1 a3).bind fun y0 =>
   pIf y0
     (some ([], (IntKind.i64.wrap (a1 + 1)), true))
     (z0p n a0 a3 a2 a1 [])
def z0p : Nat → (List UInt8) → (List UInt8) → Int → Int → (List kz0) → Option ((List kz0) × Int × Bool)
 | 0, _, _, _, _, _ => none
 | n + 1, a0, a1, a2, a3, a4 =>
   (zzs n a0 a3 a2).bind fun y1 =>
   pIf (!y1.2.1)
     (some ([], 0, false))
     ((ext a4 [y1.2.2.re]).bind fun x2 =>
     (zzg n a0 y1.1 a1).bind fun y3 =>
     pIf y3
       (some (x2, (IntKind.i64.wrap (y1.1 + 1)), true))
       ((zzg n a0 y1.1 [44, 32]).bind fun y4 =>
       pIf (!y4)
         (some ([], 0, false))
         (z0p n a0 a1 a2 (IntKind.i64.wrap (y1.1 + 2)) x2)))
end
def ycn : LSh := ⟨[(6, (.ptr 0 0)), (7, (.d (.int .i64))), (8, (.d .bool))], [(.st 4)], 0, 169⟩
noncomputable def zdi : FI dat := FI.of dat 43 169 0 [(.d .str), (.d (.int .i64)), (.d (.int .i64))] [] [(.d (.st 4)), (.d (.int .i64)), (.d .bool)] [] true ycn (R := Int × Bool × kz0) (fun x => (x.1, x.2.1, x.2.2.1)) (fun r => (r.2.2, r.1, r.2.1, ())) (fun n x => zzs n x.1 x.2.1 x.2.2.1)
 (fun n => [(0, ⟨⟨[(6, (.ptr 0 0)), (2, (.d (.int .i64))), (1, (.d (.int .i64))), (0, (.d .str)), (31, (.d .bool))], [(.st 4)], 0, 169⟩, fun x => z6g n x.1 x.2.1 x.2.2.1 x.2.2.2.1 x.2.2.2.2.1⟩), (1, ⟨⟨[(15, (.d (.int .i64))), (6, (.ptr 0 0)), (1, (.d (.int .i64))), (0, (.d .str)), (2, (.d (.int .i64)))], [(.st 4)], 0, 169⟩, fun x => z3b n x.1 x.2.1 x.2.2.1 x.2.2.2.1 x.2.2.2.2.1⟩), (2, ⟨⟨[(6, (.ptr 0 0)), (1, (.d (.int .i64))), (0, (.d .str)), (2, (.d (.int .i64))), (15, (.d (.int .i64))), (107, (.d .bool))], [(.st 4)], 0, 169⟩, fun x => zzf n x.1 x.2.1 x.2.2.1 x.2.2.2.1 x.2.2.2.2.1 x.2.2.2.2.2.1⟩), (3, ⟨⟨[(6, (.ptr 0 0)), (1, (.d (.int .i64))), (0, (.d .str)), (15, (.d (.int .i64))), (16, (.d .str)), (2, (.d (.int .i64))), (114, (.d .bool))], [(.st 4)], 0, 169⟩, fun x => z58 n x.1 x.2.1 x.2.2.1 x.2.2.2.1 x.2.2.2.2.1 x.2.2.2.2.2.1 x.2.2.2.2.2.2.1⟩), (4, ⟨⟨[(6, (.ptr 0 0)), (20, (.d (.int .u8))), (2, (.d (.int .i64))), (15, (.d (.int .i64))), (0, (.d .str)), (16, (.d .str))], [(.st 4)], 0, 169⟩, fun x => z0x n x.1 x.2.1 x.2.2.1 x.2.2.2.1 x.2.2.2.2.1 x.2.2.2.2.2.1⟩)]) (ann [(5, 0), (34, 1), (38, 2), (49, 3), (66, 4)] (Tryz.f43.body.getD .skip) 0).1
def y8h : LSh := ⟨[(6, (.ptr 0 0)), (7, (.d (.int .i64))), (8, (.d .bool))], [(.st 4)], 0, 69⟩
noncomputable def zo1 : FI dat := FI.of dat 75 69 0 [(.d .str), (.d (.int .i64)), (.d (.int .i64))] [] [(.d (.st 4)), (.d (.int .i64)), (.d .bool)] [] true y8h (R := Int × Bool × kz0) (fun x => (x.1, x.2.1, x.2.2.1)) (fun r => (r.2.2, r.1, r.2.1, ())) (fun n x => zav n x.1 x.2.1 x.2.2.1)
 (fun n => [(0, ⟨⟨[(12, (.d (.int .u8))), (6, (.ptr 0 0)), (9, (.ptr 1 0)), (0, (.d .str)), (2, (.d (.int .i64))), (10, (.d (.int .i64)))], [(.st 4), (.st 4)], 0, 69⟩, fun x => z16 n x.1 x.2.1 x.2.2.1 x.2.2.2.1 x.2.2.2.2.1 x.2.2.2.2.2.1⟩), (1, ⟨⟨[(6, (.ptr 0 0)), (15, (.d (.int .i64))), (14, (.ptr 1 0)), (9, (.ptr 2 0)), (12, (.d (.int .u8))), (59, (.d .bool))], [(.st 4), (.st 4), (.st 4)], 0, 69⟩, fun x => z2a n x.1 x.2.1 x.2.2.1 x.2.2.2.1 x.2.2.2.2.1 x.2.2.2.2.2.1⟩)]) (ann [(16, 0), (38, 1)] (Tryz.f75.body.getD .skip) 0).1
def y5s : LSh := ⟨[(8, (.d (.sl (.st 4)))), (9, (.d (.int .i64))), (10, (.d .bool))], [], 0, 48⟩
noncomputable def zlq : FI dat := FI.of dat 76 48 0 [(.d .str), (.d (.int .i64)), (.d (.int .i64)), (.d .str)] [] [(.d (.sl (.st 4))), (.d (.int .i64)), (.d .bool)] [] true y5s (R := (List kz0) × Int × Bool) (fun x => (x.1, x.2.1, x.2.2.1)) (fun r => (r.1, r.2.1, r.2.2, ())) (fun n x => z64 n x.1 x.2.1 x.2.2.1 x.2.2.2.1)
 (fun n => [(0, ⟨⟨[(0, (.d .str)), (3, (.d .str)), (11, (.own 0)), (2, (.d (.int .i64))), (1, (.d (.int .i64)))], [(.acc 29 (.st 4) true)], 0, 48⟩, fun x => z0p n x.1 x.2.1 x.2.2.1 x.2.2.2.1 x.2.2.2.2.1⟩)]) (ann [(13, 0)] (Tryz.f76.body.getD .skip) 0).1
noncomputable def zq6 : List (FI dat) := [zdi, zo1, zlq] ++ [zdd, z90, z8u, zbc]
theorem ydq : (zdi).Good Tryz.prog dat (tb zq6) := FI.yz5 (hD := zz3 _) Tryz.func43 Tryz.ntmps43 Tryz.call43 (by kernel_rfl) (of_decide_eq_true (by kernel_rfl)) (by kernel_rfl) (fun n => by kernel_rfl) (fun x => by kernel_rfl) (fun _ => rfl) ⟨fun _ => rfl, fun _ => rfl, fun _ => rfl, fun _ => rfl, fun _ => rfl, trivial⟩
 (fun n => fun x => (zzs.eq_2 x.1 x.2.1 x.2.2.1 n).trans (by kernel_rfl))
 (fun n => ⟨fun x => (z6g.eq_2 x.1 x.2.1 x.2.2.1 x.2.2.2.1 x.2.2.2.2.1 n).trans (by kernel_rfl),
  fun x => (z3b.eq_2 x.1 x.2.1 x.2.2.1 x.2.2.2.1 x.2.2.2.2.1 n).trans (by kernel_rfl),
  fun x => (zzf.eq_2 x.1 x.2.1 x.2.2.1 x.2.2.2.1 x.2.2.2.2.1 x.2.2.2.2.2.1 n).trans (by kernel_rfl),
  fun x => (z58.eq_2 x.1 x.2.1 x.2.2.1 x.2.2.2.1 x.2.2.2.2.1 x.2.2.2.2.2.1 x.2.2.2.2.2.2.1 n).trans (by kernel_rfl),
  fun x => (z0x.eq_2 x.1 x.2.1 x.2.2.1 x.2.2.2.1 x.2.2.2.2.1 x.2.2.2.2.2.1 n).trans (by kernel_rfl),
  trivial⟩)
 (fun x => .inl rfl)
theorem y9u : (zo1).Good Tryz.prog dat (tb zq6) := FI.yz5 (hD := zz3 _) Tryz.func75 Tryz.ntmps75 Tryz.call75 (by kernel_rfl) (of_decide_eq_true (by kernel_rfl)) (by kernel_rfl) (fun n => by kernel_rfl) (fun x => by kernel_rfl) (fun _ => rfl) ⟨fun _ => rfl, fun _ => rfl, trivial⟩
 (fun n => fun x => (zav.eq_2 x.1 x.2.1 x.2.2.1 n).trans (by kernel_rfl))
 (fun n => ⟨fun x => (z16.eq_2 x.1 x.2.1 x.2.2.1 x.2.2.2.1 x.2.2.2.2.1 x.2.2.2.2.2.1 n).trans (by kernel_rfl),
  fun x => (z2a.eq_2 x.1 x.2.1 x.2.2.1 x.2.2.2.1 x.2.2.2.2.1 x.2.2.2.2.2.1 n).trans (by kernel_rfl),
  trivial⟩)
 (fun x => .inl rfl)
theorem y6b : (zlq).Good Tryz.prog dat (tb zq6) := FI.yz5 (hD := zz3 _) Tryz.func76 Tryz.ntmps76 Tryz.call76 (by kernel_rfl) (of_decide_eq_true (by kernel_rfl)) (by kernel_rfl) (fun n => by kernel_rfl) (fun x => by kernel_rfl) (fun _ => rfl) ⟨fun _ => rfl, trivial⟩
 (fun n => fun x => (z64.eq_2 x.1 x.2.1 x.2.2.1 x.2.2.2.1 n).trans (by kernel_rfl))
 (fun n => ⟨fun x => (z0p.eq_2 x.1 x.2.1 x.2.2.1 x.2.2.2.1 x.2.2.2.2.1 n).trans (by kernel_rfl),
  trivial⟩)
 (fun x => .inl rfl)
theorem ycy : OkL Tryz.prog [zdi, zo1, zlq] := z4p (zz3 _) (bs := [zdd, z90, z8u, zbc]) ⟨yb3, zql, zqg, zvi, trivial⟩ ⟨ydq, y9u, y6b, trivial⟩
theorem yan : FOk Tryz.prog zdi := ycy.1
mutual
def z8v : Nat → (List UInt8) → Option (Int × kz0)
 | 0, _ => none
 | n + 1, a0 =>
   pIf (decide ((a0.length : Int) > 4000))
     (some (12, (kz0.mk 0 (yz0.mk 0 (zz2.mk 0 0) false [] []) [] [])))
     ((zzs n a0 0 12).bind fun y0 =>
     pIf (!y0.2.1)
       (z2m n true (kz0.mk 0 (yz0.mk 0 (zz2.mk 0 0) false [] []) [] []) y0.2.2.re)
       (pIf (y0.1 != (a0.length : Int))
         (z2m n true (kz0.mk 0 (yz0.mk 0 (zz2.mk 0 0) false [] []) [] []) y0.2.2.re)
         ((z1p n y0.2.2.re).bind fun y1 =>
         z2m n (y1 != 0) (kz0.mk 0 (yz0.mk 0 (zz2.mk 0 0) false [] []) [] []) y0.2.2.re)))
def z2m : Nat → Bool → kz0 → kz0 → Option (Int × kz0)
 | 0, _, _, _ => none
 | n + 1, a0, a1, a2 =>
   pIf a0
     (some (12, (kz0.mk 0 (yz0.mk 0 (zz2.mk 0 0) false [] []) [] [])))
     (some (0, a2.re))
end
def yar : LSh := ⟨[(2, (.ptr 0 0)), (3, (.d (.int .i64)))], [(.st 4)], 0, 32⟩
noncomputable def zei : FI dat := FI.of dat 14 32 0 [(.d .str)] [] [(.d (.st 4)), (.d (.int .i64))] [] true yar (R := Int × kz0) (fun x => (x.1, x.2.1)) (fun r => (r.2, r.1, ())) (fun n x => z8v n x.1)
 (fun n => [(0, ⟨⟨[(2, (.ptr 0 0)), (4, (.ptr 1 0)), (29, (.d .bool))], [(.st 4), (.st 4)], 0, 32⟩, fun x => z2m n x.1 x.2.1 x.2.2.1⟩)]) (ann [(15, 0)] (Tryz.f14.body.getD .skip) 0).1
noncomputable def y8b : List (FI dat) := [zdi, z78]
theorem yal : (zei).Good Tryz.prog dat (tb y8b) := FI.yz5 (hD := zz3 _) Tryz.func14 Tryz.ntmps14 Tryz.call14 (by kernel_rfl) (of_decide_eq_true (by kernel_rfl)) (by kernel_rfl) (fun n => by kernel_rfl) (fun x => by kernel_rfl) (fun _ => rfl) ⟨fun _ => rfl, trivial⟩
 (fun n => fun x => (z8v.eq_2 x.1 n).trans (by kernel_rfl))
 (fun n => ⟨fun x => (z2m.eq_2 x.1 x.2.1 x.2.2.1 n).trans (by kernel_rfl),
  trivial⟩)
 (fun x => .inl rfl)
theorem ybg : OkL Tryz.prog [zei] := yze (zz3 _) (bs := [zdi, z78]) ⟨yan, zkx, trivial⟩ yal
theorem y68 : FOk Tryz.prog zei := ybg.1
end Go.Proofs.YtfhpamcehnfhoaaGreatDoor


namespace Go.Proofs.YtfhpamcehnfhoaaGreatDoor
open Go Go.Ab
set_option linter.unusedVariables false
set_option maxRecDepth 100000
mutual
def z6z : Nat → kz0 → kz0 → Option Bool
 | 0, _, _ => none
 | n + 1, a0, a1 =>
   pIf (a0.op != a1.op)
     (kzz n true a1.re a0.re)
     (pIf (!(a0.name == a1.name))
       (kzz n true a1.re a0.re)
       ((z19 n a0.value.re a1.value.re).bind fun y0 =>
       pIf (!y0)
         (kzz n true a1.re a0.re)
         (kzz n ((a0.args.length : Int) != (a1.args.length : Int)) a1.re a0.re)))
def kzz : Nat → Bool → kz0 → kz0 → Option Bool
 | 0, _, _, _ => none
 | n + 1, a0, a1, a2 =>
   pIf a0
     (some false)
     (z1y n 0 a1.re a2.re)
def z1y : Nat → Int → kz0 → kz0 → Option Bool
 | 0, _, _, _ => none
 | n + 1, a0, a1, a2 =>
   pIf (decide (a0 < (a2.args.length : Int)))
     ((ix a2.args a0).bind fun x1 =>
     (ix a1.args a0).bind fun x2 =>
     (z6z n x1.re x2.re).bind fun y3 =>
     pIf (!y3)
       (some false)
       (z1y n (IntKind.i64.wrap (a0 + 1)) a1.re a2.re))
     (some true)
end
def yfc : LSh := ⟨[(4, (.d .bool))], [], 0, 54⟩
noncomputable def zd9 : FI dat := FI.of dat 15 54 0 [(.d (.st 4)), (.d (.st 4))] [] [(.d .bool)] [] true yfc (R := Bool) (fun x => x.1) (fun r => (r, ())) (fun n x => z6z n x.1 x.2.1)
 (fun n => [(0, ⟨⟨[(3, (.ptr 0 0)), (2, (.ptr 1 0)), (34, (.d .bool))], [(.st 4), (.st 4)], 0, 54⟩, fun x => kzz n x.1 x.2.1 x.2.2.1⟩), (1, ⟨⟨[(5, (.d (.int .i64))), (3, (.ptr 0 0)), (2, (.ptr 1 0))], [(.st 4), (.st 4)], 0, 54⟩, fun x => z1y n x.1 x.2.1 x.2.2.1⟩)]) (ann [(5, 0), (14, 1)] (Tryz.f15.body.getD .skip) 0).1
noncomputable def ygk : List (FI dat) := [zd9] ++ [z9j]
theorem ygy : (zd9).Good Tryz.prog dat (tb ygk) := FI.yz5 (hD := zz3 _) Tryz.func15 Tryz.ntmps15 Tryz.call15 (by kernel_rfl) (of_decide_eq_true (by kernel_rfl)) (by kernel_rfl) (fun n => by kernel_rfl) (fun x => by kernel_rfl) (fun _ => rfl) ⟨fun _ => rfl, fun _ => rfl, trivial⟩
 (fun n => fun x => (z6z.eq_2 x.1 x.2.1 n).trans (by kernel_rfl))
 (fun n => ⟨fun x => (kzz.eq_2 x.1 x.2.1 x.2.2.1 n).trans (by kernel_rfl),
  fun x => (z1y.eq_2 x.1 x.2.1 x.2.2.1 n).trans (by kernel_rfl),
  trivial⟩)
 (fun x => .inl rfl)
theorem ycv : OkL Tryz.prog [zd9] := z4p (zz3 _) (bs := [z9j]) ⟨zvj, trivial⟩ ⟨ygy, trivial⟩
theorem y9g : FOk Tryz.prog zd9 := ycv.1
mutual
def kzt : Nat → kz0 → (List UInt8) → Option Bool
 | 0, _, _ => none
 | n + 1, a0, a1 =>
   (z5t n a0.re).bind fun y0 =>
   pIf y0
     (yzl n a1 true a0.re)
     (yzl n a1 (decide ((a1.length : Int) > 5000)) a0.re)
def yzl : Nat → (List UInt8) → Bool → kz0 → Option Bool
 | 0, _, _, _ => none
 | n + 1, a0, a1, a2 =>
   pIf a1
     (some true)
     ((z6u n a2.re).bind fun y1 =>
     (zbv n a2.re).bind fun y2 =>
     (z08 n a0).bind fun y3 =>
     (z8v n a0).bind fun y4 =>
     pIf (y1.1 == y2.1)
       (pIf (y1.2 == y2.2)
         ((z6z n y3.2.re y4.2.re).bind fun y5 =>
         pIf y5
           (some (y3.1 == y4.1))
           (some false))
         (some false))
       (some false))
end
def znf : LSh := ⟨[(4, (.d .bool))], [], 0, 58⟩
noncomputable def z9y : FI dat := FI.of dat 3 58 0 [(.d (.st 4)), (.d .str)] [] [(.d .bool)] [] true znf (R := Bool) (fun x => x.1) (fun r => (r, ())) (fun n x => kzt n x.1 x.2.1)
 (fun n => [(0, ⟨⟨[(1, (.d .str)), (2, (.ptr 0 0)), (19, (.d .bool))], [(.st 4)], 0, 58⟩, fun x => yzl n x.1 x.2.1 x.2.2.1⟩)]) (ann [(5, 0)] (Tryz.f3.body.getD .skip) 0).1
noncomputable def zo0 : List (FI dat) := [z9v, zcq, zg0, z5z, zei, zd9]
theorem znj : (z9y).Good Tryz.prog dat (tb zo0) := FI.yz5 (hD := zz3 _) Tryz.func3 Tryz.ntmps3 Tryz.call3 (by kernel_rfl) (of_decide_eq_true (by kernel_rfl)) (by kernel_rfl) (fun n => by kernel_rfl) (fun x => by kernel_rfl) (fun _ => rfl) ⟨fun _ => rfl, trivial⟩
 (fun n => fun x => (kzt.eq_2 x.1 x.2.1 n).trans (by kernel_rfl))
 (fun n => ⟨fun x => (yzl.eq_2 x.1 x.2.1 x.2.2.1 n).trans (by kernel_rfl),
  trivial⟩)
 (fun x => .inl rfl)
theorem znn : OkL Tryz.prog [z9y] := yze (zz3 _) (bs := [z9v, zcq, zg0, z5z, zei, zd9]) ⟨zrt, zxb, y96, znc, y68, y9g, trivial⟩ znj
theorem zmh : FOk Tryz.prog z9y := znn.1
theorem zmj (a0 : kz0) (a1 : List UInt8) : VRL dat [] 0 [dat.tv (.st 4) a0, dat.tv .str a1] [dat.el (.st 4) a0, dat.el .str a1] := by
 simp only [VRL]
 exact ⟨_, _, rfl, VR.tv (zz3 Tryz.prog) (DR.el _ _), ⟨_, _, rfl, VR.tv (zz3 Tryz.prog) (DR.el _ _), rfl⟩⟩
theorem zji (n : Nat) (a0 : kz0) (a1 : List UInt8) (r : Bool) (h : kzt n a0 a1 = some r) : zj2 Tryz.prog 3 [dat.el (.st 4) a0, dat.el .str a1] (.bool r) := by
 obtain ⟨y, h1, _, _, _, h2⟩ := zmh n _ (a0, a1, ()) (fun y => some y.1) (fun _ => none) r (by show (kzt n a0 a1).bind (fun r => some r) = some r; rw [h]; rfl)
 obtain ⟨vs, k1, k2⟩ := h2 0 [dat.el (.st 4) a0, dat.el .str a1] (zmj a0 a1)
 injection h1 with h1
 subst h1
 have := k1 [] 0
 replace this : VRL dat [] 0 [TV.bool y.1] vs := this
 simp only [VRL, VR] at this
 obtain ⟨v, r, rfl, rfl, rfl⟩ := this
 exact k2
end Go.Proofs.YtfhpamcehnfhoaaGreatDoor


namespace Go.Proofs.Tryz
open Go Go.Ab
set_option linter.unusedSimpArgs false
@[simp] theorem zy0 : Program.cellsOf Tryz.prog 2 = 1 := by kernel_rfl
@[simp] theorem yip : Program.cellsOf Tryz.prog 4 = 1 := by kernel_rfl
@[simp] theorem zx8 : Program.cellsOf Tryz.prog 5 = 1 := by kernel_rfl
@[simp] theorem zy3 : Program.cellsOf Tryz.prog 9 = 1 := by kernel_rfl
@[simp] theorem ztf : Program.cellsOf Tryz.prog 23 = 2 := by kernel_rfl
@[simp] theorem ybs : Program.cellsOf Tryz.prog 24 = 1 := by kernel_rfl
@[simp] theorem zks : Program.cellsOf Tryz.prog 26 = 6 := by kernel_rfl
@[simp] theorem ybq : Program.cellsOf Tryz.prog 27 = 1 := by kernel_rfl
@[simp] theorem ztm : Program.cellsOf Tryz.prog 29 = 9 := by kernel_rfl
end Go.Proofs.Tryz


namespace Go.Proofs.Tryz
open Go Go.Ab
set_option linter.unusedSimpArgs false
theorem ydw (n : Nat) : Reads Tryz.prog n 23 zz2.ty := (zb0 Tryz.underlying23 ztf (fun m hm => (zzp rfl zy0 (zdg Tryz.underlying2 m) (zzp rfl zy0 (zdg Tryz.underlying2 m) zer)))).conv (fun x => (⟨x.1, x.2.1⟩ : zz2)) (fun x => by show zz2.el _ = _; rw [zz2.yzt]; simp [Ty.struct, Ty.pair, Ty.unit, Ty.int, Ty.bool, Ty.str, Ty.slice, V.cells, zz2.ty, zz2.yzt, yz0.ty, yz0.yzt, kz0.ty, kz0.yzt, zzw.ty, zzw.yzt]) rfl (fun x h => by simp only [zz2.ty]; rw [zz2.z99]; simp only [Ty.struct, Ty.pair, Ty.unit, Ty.int, Ty.bool, Ty.str, Ty.slice, zz2.ty, yz0.ty, kz0.ty, zzw.ty] at h ⊢; simpa using h) (fun x => by simp only [Ty.struct, Ty.pair, Ty.unit, Ty.int, Ty.bool, Ty.str, Ty.slice, zz2.ty, yz0.ty, kz0.ty, zzw.ty]; rw [zz2.size_eq]; (try dsimp only); omega)
theorem yek : ∀ n, Reads Tryz.prog n 26 yz0.ty := fun n => by
 induction n using Nat.strongRecOn with
 | ind n ih => exact (zb0 Tryz.underlying26 zks (fun m hm => (zzp rfl zx8 (zdg Tryz.underlying5 m) (zzp rfl ztf (ydw m) (zzp rfl yip (zvy Tryz.underlying4 m) (zzp rfl zy3 (zkm Tryz.underlying9 m) (zzp rfl ybs (zj7 Tryz.underlying24 zks (by decide) (fun k hk => (ih k (by omega)))) zer))))))).conv (fun x => (⟨x.1, x.2.1, x.2.2.1, x.2.2.2.1, x.2.2.2.2.1⟩ : yz0)) (fun x => by show yz0.el _ = _; rw [yz0.yzt]; simp [Ty.struct, Ty.pair, Ty.unit, Ty.int, Ty.bool, Ty.str, Ty.slice, V.cells, zz2.ty, zz2.yzt, yz0.ty, yz0.yzt, kz0.ty, kz0.yzt, zzw.ty, zzw.yzt]) rfl (fun x h => by simp only [yz0.ty]; rw [yz0.z99]; simp only [Ty.struct, Ty.pair, Ty.unit, Ty.int, Ty.bool, Ty.str, Ty.slice, zz2.ty, yz0.ty, kz0.ty, zzw.ty] at h ⊢; simpa using h) (fun x => by simp only [Ty.struct, Ty.pair, Ty.unit, Ty.int, Ty.bool, Ty.str, Ty.slice, zz2.ty, yz0.ty, kz0.ty, zzw.ty]; rw [yz0.size_eq]; (try dsimp only); omega)
theorem yf5 : ∀ n, Reads Tryz.prog n 29 kz0.ty := fun n => by
 induction n using Nat.strongRecOn with
 | ind n ih => exact (zb0 Tryz.underlying29 ztm (fun m hm => (zzp rfl zx8 (zdg Tryz.underlying5 m) (zzp rfl zks (yek m) (zzp rfl zy3 (zkm Tryz.underlying9 m) (zzp rfl ybq (zj7 Tryz.underlying27 ztm (by decide) (fun k hk => (ih k (by omega)))) zer)))))).conv (fun x => (⟨x.1, x.2.1, x.2.2.1, x.2.2.2.1⟩ : kz0)) (fun x => by show kz0.el _ = _; rw [kz0.yzt]; simp [Ty.struct, Ty.pair, Ty.unit, Ty.int, Ty.bool, Ty.str, Ty.slice, V.cells, zz2.ty, zz2.yzt, yz0.ty, yz0.yzt, kz0.ty, kz0.yzt, zzw.ty, zzw.yzt]) rfl (fun x h => by simp only [kz0.ty]; rw [kz0.z99]; simp only [Ty.struct, Ty.pair, Ty.unit, Ty.int, Ty.bool, Ty.str, Ty.slice, zz2.ty, yz0.ty, kz0.ty, zzw.ty] at h ⊢; simpa using h) (fun x => by simp only [Ty.struct, Ty.pair, Ty.unit, Ty.int, Ty.bool, Ty.str, Ty.slice, zz2.ty, yz0.ty, kz0.ty, zzw.ty]; rw [kz0.size_eq]; (try dsimp only); omega)
theorem ysn : y4u Tryz.prog 29 kz0.ty := zw3 Tryz.underlying29 yf5 kz0.zse
theorem arg9 : y4u Tryz.prog 9 Ty.str := yss (fun n => (zkm Tryz.underlying9 n)) (fun _ => rfl) (by rw [Tryz.underlying9])
end Go.Proofs.Tryz

