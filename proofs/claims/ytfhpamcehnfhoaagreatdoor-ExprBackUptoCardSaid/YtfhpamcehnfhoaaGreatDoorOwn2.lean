/-
  Go functions as Lean functions, by a program of this repo.
-/
import Derived.Test.YtfhpamcehnfhoaaGreatDoorOwn1
import Derived.Test.YtfhpamcehnfhoaaGreatDoorLib2
import Derived.Test.YtfhpamcehnfhoaaGreatDoorProg
import Derived.Test.YtfhpamcehnfhoaaGreatDoorLib6
namespace Go.Proofs.YtfhpamcehnfhoaaGreatDoor
open Go Go.Ab
set_option linter.unusedVariables false
set_option maxRecDepth 100000
mutual
def z6t : Nat → yz0 → Option Bool
 | 0, _ => none
 | n + 1, a0 =>
   pIf (a0.kind == 1)
     ((z1t n a0.num).bind fun y0 =>
     pIf (y0 == 0)
       (pIf (!a0.truth)
         (pIf ((a0.str.length : Int) == 0)
           (some ((a0.list.length : Int) == 0))
           (some false))
         (some false))
       (some false))
     (pIf (a0.kind == 2)
       (pIf ((a0.num.num == 0) && ((a0.num.den == 0) && true))
         (pIf ((a0.str.length : Int) == 0)
           (some ((a0.list.length : Int) == 0))
           (some false))
         (some false))
       (pIf (a0.kind == 3)
         (pIf (!((a0.num.num == 0) && ((a0.num.den == 0) && true)))
           (z0d n true a0.re)
           (pIf a0.truth
             (z0d n true a0.re)
             (pIf (decide ((a0.list.length : Int) > 0))
               (z0d n true a0.re)
               (z0d n (decide ((a0.str.length : Int) > 60)) a0.re))))
         (pIf (a0.kind == 4)
           (pIf (!((a0.num.num == 0) && ((a0.num.den == 0) && true)))
             (z0y n true a0.re)
             (pIf a0.truth
               (z0y n true a0.re)
               (z0y n (decide ((a0.str.length : Int) > 0)) a0.re)))
           (some false))))
def z0d : Nat → Bool → yz0 → Option Bool
 | 0, _, _ => none
 | n + 1, a0, a1 =>
   pIf a0
     (some false)
     (z39 n 0 a1.re)
def z39 : Nat → Int → yz0 → Option Bool
 | 0, _, _ => none
 | n + 1, a0, a1 =>
   pIf (decide (a0 < (a1.str.length : Int)))
     ((ix a1.str a0).bind fun x1 =>
     pIf (decide ((x1.toNat : Int) < 32))
       (z3r n a0 true a1.re)
       ((ix a1.str a0).bind fun x2 =>
       z3r n a0 (decide ((x2.toNat : Int) > 126)) a1.re))
     (some true)
def z3r : Nat → Int → Bool → yz0 → Option Bool
 | 0, _, _, _ => none
 | n + 1, a0, a1, a2 =>
   pIf a1
     (some false)
     (z39 n (IntKind.i64.wrap (a0 + 1)) a2.re)
def z0y : Nat → Bool → yz0 → Option Bool
 | 0, _, _ => none
 | n + 1, a0, a1 =>
   pIf a0
     (some false)
     (z34 n 0 a1.re)
def z34 : Nat → Int → yz0 → Option Bool
 | 0, _, _ => none
 | n + 1, a0, a1 =>
   pIf (decide (a0 < (a1.list.length : Int)))
     ((ix a1.list a0).bind fun x3 =>
     (z6t n x3.re).bind fun y4 =>
     pIf (!y4)
       (some false)
       (z34 n (IntKind.i64.wrap (a0 + 1)) a1.re))
     (some true)
end
def yf2 : LSh := ⟨[(2, (.d .bool))], [], 0, 121⟩
noncomputable def zdk : FI dat := FI.of dat 89 121 0 [(.d (.st 3))] [] [(.d .bool)] [] true yf2 (R := Bool) (fun x => x.1) (fun r => (r, ())) (fun n x => z6t n x.1)
 (fun n => [(0, ⟨⟨[(1, (.ptr 0 0)), (71, (.d .bool))], [(.st 3)], 0, 121⟩, fun x => z0d n x.1 x.2.1⟩), (1, ⟨⟨[(4, (.d (.int .i64))), (1, (.ptr 0 0))], [(.st 3)], 0, 121⟩, fun x => z39 n x.1 x.2.1⟩), (2, ⟨⟨[(1, (.ptr 0 0)), (4, (.d (.int .i64))), (90, (.d .bool))], [(.st 3)], 0, 121⟩, fun x => z3r n x.1 x.2.1 x.2.2.1⟩), (3, ⟨⟨[(1, (.ptr 0 0)), (106, (.d .bool))], [(.st 3)], 0, 121⟩, fun x => z0y n x.1 x.2.1⟩), (4, ⟨⟨[(5, (.d (.int .i64))), (1, (.ptr 0 0))], [(.st 3)], 0, 121⟩, fun x => z34 n x.1 x.2.1⟩)]) (ann [(26, 0), (35, 1), (46, 2), (61, 3), (70, 4)] (Tryz.f89.body.getD .skip) 0).1
noncomputable def ydu : List (FI dat) := [zdk] ++ [z6x]
theorem yei : (zdk).Good Tryz.prog dat (tb ydu) := FI.yz5 (hD := zz3 _) Tryz.func89 Tryz.ntmps89 Tryz.call89 (by kernel_rfl) (of_decide_eq_true (by kernel_rfl)) (by kernel_rfl) (fun n => by kernel_rfl) (fun x => by kernel_rfl) (fun _ => rfl) ⟨fun _ => rfl, fun _ => rfl, fun _ => rfl, fun _ => rfl, fun _ => rfl, trivial⟩
 (fun n => fun x => (z6t.eq_2 x.1 n).trans (by kernel_rfl))
 (fun n => ⟨fun x => (z0d.eq_2 x.1 x.2.1 n).trans (by kernel_rfl),
  fun x => (z39.eq_2 x.1 x.2.1 n).trans (by kernel_rfl),
  fun x => (z3r.eq_2 x.1 x.2.1 x.2.2.1 n).trans (by kernel_rfl),
  fun x => (z0y.eq_2 x.1 x.2.1 n).trans (by kernel_rfl),
  fun x => (z34.eq_2 x.1 x.2.1 n).trans (by kernel_rfl),
  trivial⟩)
 (fun x => .inl rfl)
theorem yd5 : OkL Tryz.prog [zdk] := z4p (zz3 _) (bs := [z6x]) ⟨zkz, trivial⟩ ⟨yei, trivial⟩
theorem yam : FOk Tryz.prog zdk := yd5.1
mutual
def z7l : Nat → yz0 → Option Int
 | 0, _ => none
 | n + 1, a0 =>
   (z4l n a0.re).bind fun y0 =>
   pIf (decide (y0 > 100))
     (z2h n true a0.re)
     ((z71 n a0.re).bind fun y1 =>
     z2h n (decide (y1 > 6)) a0.re)
def z2h : Nat → Bool → yz0 → Option Int
 | 0, _, _ => none
 | n + 1, a0, a1 =>
   pIf a0
     (some 4)
     ((z6t n a1.re).bind fun y2 =>
     pIf (!y2)
       (some 8)
       (some 0))
end
def y9w : LSh := ⟨[(2, (.d (.int .i64)))], [], 0, 14⟩
noncomputable def zeb : FI dat := FI.of dat 55 14 0 [(.d (.st 3))] [] [(.d (.int .i64))] [] true y9w (R := Int) (fun x => x.1) (fun r => (r, ())) (fun n x => z7l n x.1)
 (fun n => [(0, ⟨⟨[(1, (.ptr 0 0)), (10, (.d .bool))], [(.st 3)], 0, 14⟩, fun x => z2h n x.1 x.2.1⟩)]) (ann [(5, 0)] (Tryz.f55.body.getD .skip) 0).1
noncomputable def yag : List (FI dat) := [z8h, zdo, zdk]
theorem y86 : (zeb).Good Tryz.prog dat (tb yag) := FI.yz5 (hD := zz3 _) Tryz.func55 Tryz.ntmps55 Tryz.call55 (by kernel_rfl) (of_decide_eq_true (by kernel_rfl)) (by kernel_rfl) (fun n => by kernel_rfl) (fun x => by kernel_rfl) (fun _ => rfl) ⟨fun _ => rfl, trivial⟩
 (fun n => fun x => (z7l.eq_2 x.1 n).trans (by kernel_rfl))
 (fun n => ⟨fun x => (z2h.eq_2 x.1 x.2.1 n).trans (by kernel_rfl),
  trivial⟩)
 (fun x => .inl rfl)
theorem y8y : OkL Tryz.prog [zeb] := yze (zz3 _) (bs := [z8h, zdo, zdk]) ⟨zsl, yaz, yam, trivial⟩ y86
theorem y7w : FOk Tryz.prog zeb := y8y.1
mutual
def z19 : Nat → yz0 → yz0 → Option Bool
 | 0, _, _ => none
 | n + 1, a0, a1 =>
   pIf (a0.kind != a1.kind)
     (z0a n true a1.re a0.re)
     (pIf (!((a0.num.num == a1.num.num) && ((a0.num.den == a1.num.den) && true)))
       (z0a n true a1.re a0.re)
       (pIf (!(a0.truth == a1.truth))
         (z0a n true a1.re a0.re)
         (pIf (!(a0.str == a1.str))
           (z0a n true a1.re a0.re)
           (z0a n ((a0.list.length : Int) != (a1.list.length : Int)) a1.re a0.re))))
def z0a : Nat → Bool → yz0 → yz0 → Option Bool
 | 0, _, _, _ => none
 | n + 1, a0, a1, a2 =>
   pIf a0
     (some false)
     (z3i n 0 a1.re a2.re)
def z3i : Nat → Int → yz0 → yz0 → Option Bool
 | 0, _, _, _ => none
 | n + 1, a0, a1, a2 =>
   pIf (decide (a0 < (a2.list.length : Int)))
     ((ix a2.list a0).bind fun x0 =>
     (ix a1.list a0).bind fun x1 =>
     (z19 n x0.re x1.re).bind fun y2 =>
     pIf (!y2)
       (some false)
       (z3i n (IntKind.i64.wrap (a0 + 1)) a1.re a2.re))
     (some true)
end
def ygb : LSh := ⟨[(4, (.d .bool))], [], 0, 60⟩
noncomputable def z9j : FI dat := FI.of dat 23 60 0 [(.d (.st 3)), (.d (.st 3))] [] [(.d .bool)] [] true ygb (R := Bool) (fun x => x.1) (fun r => (r, ())) (fun n x => z19 n x.1 x.2.1)
 (fun n => [(0, ⟨⟨[(3, (.ptr 0 0)), (2, (.ptr 1 0)), (40, (.d .bool))], [(.st 3), (.st 3)], 0, 60⟩, fun x => z0a n x.1 x.2.1 x.2.2.1⟩), (1, ⟨⟨[(5, (.d (.int .i64))), (3, (.ptr 0 0)), (2, (.ptr 1 0))], [(.st 3), (.st 3)], 0, 60⟩, fun x => z3i n x.1 x.2.1 x.2.2.1⟩)]) (ann [(5, 0), (14, 1)] (Tryz.f23.body.getD .skip) 0).1
noncomputable def yee : List (FI dat) := [z9j] ++ []
theorem yez : (z9j).Good Tryz.prog dat (tb yee) := FI.yz5 (hD := zz3 _) Tryz.func23 Tryz.ntmps23 Tryz.call23 (by kernel_rfl) (of_decide_eq_true (by kernel_rfl)) (by kernel_rfl) (fun n => by kernel_rfl) (fun x => by kernel_rfl) (fun _ => rfl) ⟨fun _ => rfl, fun _ => rfl, trivial⟩
 (fun n => fun x => (z19.eq_2 x.1 x.2.1 n).trans (by kernel_rfl))
 (fun n => ⟨fun x => (z0a.eq_2 x.1 x.2.1 x.2.2.1 n).trans (by kernel_rfl),
  fun x => (z3i.eq_2 x.1 x.2.1 x.2.2.1 n).trans (by kernel_rfl),
  trivial⟩)
 (fun x => .inl rfl)
theorem yf0 : OkL Tryz.prog [z9j] := z4p (zz3 _) (bs := []) trivial ⟨yez, trivial⟩
theorem zvj : FOk Tryz.prog z9j := yf0.1
def z63 : Nat → Int → Option Bool
 | 0, _ => none
 | n + 1, a0 =>
   pIf (decide (a0 ≥ 97))
     (some (decide (a0 ≤ 122)))
     (some false)
def y5b : LSh := ⟨[(2, (.d .bool))], [], 0, 9⟩
noncomputable def zct : FI dat := FI.of dat 86 9 0 [(.d (.int .u8))] [] [(.d .bool)] [] true y5b (R := Bool) (fun x => x.1) (fun r => (r, ())) (fun n x => z63 n x.1)
 (fun n => []) (ann [] (Tryz.f86.body.getD .skip) 0).1
noncomputable def y5t : List (FI dat) := []
theorem y7v : (zct).Good Tryz.prog dat (tb y5t) := FI.yz5 (hD := zz3 _) Tryz.func86 Tryz.ntmps86 Tryz.call86 (by kernel_rfl) (of_decide_eq_true (by kernel_rfl)) (by kernel_rfl) (fun n => by kernel_rfl) (fun x => by kernel_rfl) (fun _ => rfl) trivial
 (fun n => fun x => (z63.eq_2 x.1 n).trans (by kernel_rfl))
 (fun n => trivial)
 (fun x => .inl rfl)
theorem y7j : OkL Tryz.prog [zct] := yze (zz3 _) (bs := []) trivial y7v
theorem y3h : FOk Tryz.prog zct := y7j.1
def z7m : Nat → Int → Option Bool
 | 0, _ => none
 | n + 1, a0 =>
   pIf (decide (a0 ≥ 48))
     (some (decide (a0 ≤ 57)))
     (some false)
def y8c : LSh := ⟨[(2, (.d .bool))], [], 0, 9⟩
noncomputable def ze9 : FI dat := FI.of dat 87 9 0 [(.d (.int .u8))] [] [(.d .bool)] [] true y8c (R := Bool) (fun x => x.1) (fun r => (r, ())) (fun n x => z7m n x.1)
 (fun n => []) (ann [] (Tryz.f87.body.getD .skip) 0).1
noncomputable def y93 : List (FI dat) := []
theorem y9a : (ze9).Good Tryz.prog dat (tb y93) := FI.yz5 (hD := zz3 _) Tryz.func87 Tryz.ntmps87 Tryz.call87 (by kernel_rfl) (of_decide_eq_true (by kernel_rfl)) (by kernel_rfl) (fun n => by kernel_rfl) (fun x => by kernel_rfl) (fun _ => rfl) trivial
 (fun n => fun x => (z7m.eq_2 x.1 n).trans (by kernel_rfl))
 (fun n => trivial)
 (fun x => .inl rfl)
theorem y98 : OkL Tryz.prog [ze9] := yze (zz3 _) (bs := []) trivial y9a
theorem y5p : FOk Tryz.prog ze9 := y98.1
mutual
def z8i : Nat → (List UInt8) → Option Bool
 | 0, _ => none
 | n + 1, a0 =>
   z03 n 0 a0
def z03 : Nat → Int → (List UInt8) → Option Bool
 | 0, _, _ => none
 | n + 1, a0, a1 =>
   pIf (decide (a0 < (a1.length : Int)))
     ((ix a1 a0).bind fun x0 =>
     (z63 n (x0.toNat : Int)).bind fun y1 =>
     pIf (!y1)
       (pIf (a0 == 0)
         (z0e n a1 a0 true)
         ((ix a1 a0).bind fun x2 =>
         pIf ((x2.toNat : Int) != 45)
           ((ix a1 a0).bind fun x3 =>
           (z7m n (x3.toNat : Int)).bind fun y4 =>
           z0e n a1 a0 (!y4))
           (z0e n a1 a0 false)))
       (z0e n a1 a0 false))
     (pIf (decide ((a1.length : Int) ≥ 1))
       (some (decide ((a1.length : Int) ≤ 40)))
       (some false))
def z0e : Nat → (List UInt8) → Int → Bool → Option Bool
 | 0, _, _, _ => none
 | n + 1, a0, a1, a2 =>
   pIf a2
     (some false)
     (z03 n (IntKind.i64.wrap (a1 + 1)) a0)
end
def yge : LSh := ⟨[(2, (.d .bool))], [], 0, 40⟩
noncomputable def zga : FI dat := FI.of dat 54 40 0 [(.d .str)] [] [(.d .bool)] [] true yge (R := Bool) (fun x => x.1) (fun r => (r, ())) (fun n x => z8i n x.1)
 (fun n => [(0, ⟨⟨[(3, (.d (.int .i64))), (0, (.d .str))], [], 0, 40⟩, fun x => z03 n x.1 x.2.1⟩), (1, ⟨⟨[(0, (.d .str)), (3, (.d (.int .i64))), (31, (.d .bool))], [], 0, 40⟩, fun x => z0e n x.1 x.2.1 x.2.2.1⟩)]) (ann [(6, 0), (17, 1)] (Tryz.f54.body.getD .skip) 0).1
noncomputable def yde : List (FI dat) := [zct, ze9]
theorem ydf : (zga).Good Tryz.prog dat (tb yde) := FI.yz5 (hD := zz3 _) Tryz.func54 Tryz.ntmps54 Tryz.call54 (by kernel_rfl) (of_decide_eq_true (by kernel_rfl)) (by kernel_rfl) (fun n => by kernel_rfl) (fun x => by kernel_rfl) (fun _ => rfl) ⟨fun _ => rfl, fun _ => rfl, trivial⟩
 (fun n => fun x => (z8i.eq_2 x.1 n).trans (by kernel_rfl))
 (fun n => ⟨fun x => (z03.eq_2 x.1 x.2.1 n).trans (by kernel_rfl),
  fun x => (z0e.eq_2 x.1 x.2.1 x.2.2.1 n).trans (by kernel_rfl),
  trivial⟩)
 (fun x => .inl rfl)
theorem yg2 : OkL Tryz.prog [zga] := yze (zz3 _) (bs := [zct, ze9]) ⟨y3h, y5p, trivial⟩ ydf
theorem yaf : FOk Tryz.prog zga := yg2.1
def z7b : Nat → (List UInt8) → Option Bool
 | 0, _ => none
 | n + 1, a0 =>
   (z8i n a0).bind fun y0 =>
   pIf y0
     (pIf (!(a0 == [116, 114, 117, 101]))
       (some (!(a0 == [102, 97, 108, 115, 101])))
       (some false))
     (some false)
def y9t : LSh := ⟨[(2, (.d .bool))], [], 0, 13⟩
noncomputable def ze4 : FI dat := FI.of dat 98 13 0 [(.d .str)] [] [(.d .bool)] [] true y9t (R := Bool) (fun x => x.1) (fun r => (r, ())) (fun n x => z7b n x.1)
 (fun n => []) (ann [] (Tryz.f98.body.getD .skip) 0).1
noncomputable def yb0 : List (FI dat) := [zga]
theorem y8n : (ze4).Good Tryz.prog dat (tb yb0) := FI.yz5 (hD := zz3 _) Tryz.func98 Tryz.ntmps98 Tryz.call98 (by kernel_rfl) (of_decide_eq_true (by kernel_rfl)) (by kernel_rfl) (fun n => by kernel_rfl) (fun x => by kernel_rfl) (fun _ => rfl) trivial
 (fun n => fun x => (z7b.eq_2 x.1 n).trans (by kernel_rfl))
 (fun n => trivial)
 (fun x => .inl rfl)
theorem y95 : OkL Tryz.prog [ze4] := yze (zz3 _) (bs := [zga]) ⟨yaf, trivial⟩ y8n
theorem y71 : FOk Tryz.prog ze4 := y95.1
mutual
def z6p : Nat → kz0 → Option Bool
 | 0, _ => none
 | n + 1, a0 =>
   (z8e n a0.op).bind fun y0 =>
   pIf (y0 == (-2))
     (z1z n true a0.re)
     (pIf (decide (y0 ≥ 0))
       (z1z n ((a0.args.length : Int) != y0) a0.re)
       (z1z n false a0.re))
def z1z : Nat → Bool → kz0 → Option Bool
 | 0, _, _ => none
 | n + 1, a0, a1 =>
   pIf a0
     (some false)
     (pIf (a1.op == 1)
       ((z7l n a1.value.re).bind fun y1 =>
       pIf (y1 != 0)
         (z01 n true a1.re)
         (pIf (a1.value.kind == 4)
           (z01 n true a1.re)
           (pIf (a1.op != 1)
             ((z19 n a1.value.re (yz0.mk 0 (zz2.mk 0 0) false [] [])).bind fun y2 =>
             z01 n (!y2) a1.re)
             (z01 n false a1.re))))
       (pIf (a1.op != 1)
         ((z19 n a1.value.re (yz0.mk 0 (zz2.mk 0 0) false [] [])).bind fun y3 =>
         z01 n (!y3) a1.re)
         (z01 n false a1.re)))
def z01 : Nat → Bool → kz0 → Option Bool
 | 0, _, _ => none
 | n + 1, a0, a1 =>
   pIf a0
     (some false)
     (pIf (a1.op == 2)
       ((z7b n a1.name).bind fun y4 =>
       pIf (!y4)
         (z0g n true a1.re)
         (pIf (a1.op != 2)
           (z0g n (decide ((a1.name.length : Int) > 0)) a1.re)
           (z0g n false a1.re)))
       (pIf (a1.op != 2)
         (z0g n (decide ((a1.name.length : Int) > 0)) a1.re)
         (z0g n false a1.re)))
def z0g : Nat → Bool → kz0 → Option Bool
 | 0, _, _ => none
 | n + 1, a0, a1 =>
   pIf a0
     (some false)
     (z3j n 0 a1.re)
def z3j : Nat → Int → kz0 → Option Bool
 | 0, _, _ => none
 | n + 1, a0, a1 =>
   pIf (decide (a0 < (a1.args.length : Int)))
     ((ix a1.args a0).bind fun x5 =>
     (z6p n x5.re).bind fun y6 =>
     pIf (!y6)
       (some false)
       (z3j n (IntKind.i64.wrap (a0 + 1)) a1.re))
     (some true)
end
def yd8 : LSh := ⟨[(2, (.d .bool))], [], 0, 82⟩
noncomputable def zdm : FI dat := FI.of dat 68 82 0 [(.d (.st 4))] [] [(.d .bool)] [] true yd8 (R := Bool) (fun x => x.1) (fun r => (r, ())) (fun n x => z6p n x.1)
 (fun n => [(0, ⟨⟨[(1, (.ptr 0 0)), (20, (.d .bool))], [(.st 4)], 0, 82⟩, fun x => z1z n x.1 x.2.1⟩), (1, ⟨⟨[(1, (.ptr 0 0)), (47, (.d .bool))], [(.st 4)], 0, 82⟩, fun x => z01 n x.1 x.2.1⟩), (2, ⟨⟨[(1, (.ptr 0 0)), (67, (.d .bool))], [(.st 4)], 0, 82⟩, fun x => z0g n x.1 x.2.1⟩), (3, ⟨⟨[(4, (.d (.int .i64))), (1, (.ptr 0 0))], [(.st 4)], 0, 82⟩, fun x => z3j n x.1 x.2.1⟩)]) (ann [(7, 0), (15, 1), (23, 2), (32, 3)] (Tryz.f68.body.getD .skip) 0).1
noncomputable def yd4 : List (FI dat) := [zdm] ++ [zg5, zeb, z9j, ze4]
theorem yg9 : (zdm).Good Tryz.prog dat (tb yd4) := FI.yz5 (hD := zz3 _) Tryz.func68 Tryz.ntmps68 Tryz.call68 (by kernel_rfl) (of_decide_eq_true (by kernel_rfl)) (by kernel_rfl) (fun n => by kernel_rfl) (fun x => by kernel_rfl) (fun _ => rfl) ⟨fun _ => rfl, fun _ => rfl, fun _ => rfl, fun _ => rfl, trivial⟩
 (fun n => fun x => (z6p.eq_2 x.1 n).trans (by kernel_rfl))
 (fun n => ⟨fun x => (z1z.eq_2 x.1 x.2.1 n).trans (by kernel_rfl),
  fun x => (z01.eq_2 x.1 x.2.1 n).trans (by kernel_rfl),
  fun x => (z0g.eq_2 x.1 x.2.1 n).trans (by kernel_rfl),
  fun x => (z3j.eq_2 x.1 x.2.1 n).trans (by kernel_rfl),
  trivial⟩)
 (fun x => .inl rfl)
theorem ydn : OkL Tryz.prog [zdm] := z4p (zz3 _) (bs := [zg5, zeb, z9j, ze4]) ⟨yab, y7w, zvj, y71, trivial⟩ ⟨yg9, trivial⟩
theorem y88 : FOk Tryz.prog zdm := ydn.1
mutual
def z1p : Nat → kz0 → Option Int
 | 0, _ => none
 | n + 1, a0 =>
   (z4h n a0.re).bind fun y0 =>
   pIf (decide (y0 > 100))
     (z2i n true a0.re)
     ((z6q n a0.re).bind fun y1 =>
     z2i n (decide (y1 > 12)) a0.re)
def z2i : Nat → Bool → kz0 → Option Int
 | 0, _, _ => none
 | n + 1, a0, a1 =>
   pIf a0
     (some 4)
     ((z6p n a1.re).bind fun y2 =>
     pIf (!y2)
       (some 8)
       (some 0))
end
def yb8 : LSh := ⟨[(2, (.d (.int .i64)))], [], 0, 14⟩
noncomputable def z78 : FI dat := FI.of dat 40 14 0 [(.d (.st 4))] [] [(.d (.int .i64))] [] true yb8 (R := Int) (fun x => x.1) (fun r => (r, ())) (fun n x => z1p n x.1)
 (fun n => [(0, ⟨⟨[(1, (.ptr 0 0)), (10, (.d .bool))], [(.st 4)], 0, 14⟩, fun x => z2i n x.1 x.2.1⟩)]) (ann [(5, 0)] (Tryz.f40.body.getD .skip) 0).1
noncomputable def y9b : List (FI dat) := [z8n, zds, zdm]
theorem ya1 : (z78).Good Tryz.prog dat (tb y9b) := FI.yz5 (hD := zz3 _) Tryz.func40 Tryz.ntmps40 Tryz.call40 (by kernel_rfl) (of_decide_eq_true (by kernel_rfl)) (by kernel_rfl) (fun n => by kernel_rfl) (fun x => by kernel_rfl) (fun _ => rfl) ⟨fun _ => rfl, trivial⟩
 (fun n => fun x => (z1p.eq_2 x.1 n).trans (by kernel_rfl))
 (fun n => ⟨fun x => (z2i.eq_2 x.1 x.2.1 n).trans (by kernel_rfl),
  trivial⟩)
 (fun x => .inl rfl)
theorem y8l : OkL Tryz.prog [z78] := yze (zz3 _) (bs := [z8n, zds, zdm]) ⟨zsy, ybh, y88, trivial⟩ ya1
theorem zkx : FOk Tryz.prog z78 := y8l.1
end Go.Proofs.YtfhpamcehnfhoaaGreatDoor


namespace Go.Proofs.YtfhpamcehnfhoaaGreatDoor
open Go Go.Ab
set_option linter.unusedVariables false
set_option maxRecDepth 100000
mutual
def z02 : Nat → Int → Option (List UInt8)
 | 0, _ => none
 | n + 1, a0 =>
   pIf (decide (a0 < 0))
     ((z02 n (IntKind.i64.wrap (0 - a0))).bind fun y0 =>
     (cat [45] y0).bind fun x1 =>
     some x1)
     (z07 n a0 [])
def z07 : Nat → Int → (List UInt8) → Option (List UInt8)
 | 0, _, _ => none
 | n + 1, a0, a1 =>
   (rem .i64 a0 10).bind fun x2 =>
   (zr2 [(IntKind.u8.wrap (IntKind.i64.wrap (48 + x2)))]).bind fun x3 =>
   (cat x3 a1).bind fun x4 =>
   (quo .i64 a0 10).bind fun x5 =>
   pIf (x5 == 0)
     (some x4)
     (z07 n x5 x4)
end
def kzq : Nat → Int → Option (Res (Int × Unit) Unit)
 | 0, _ => none
 | n + 1, a0 =>
   pIf (a0 != 0)
     (some (Res.pan (a0, ())))
     (some (Res.ok ()))
def zt5 : LSh := ⟨[], [], 0, 6⟩
noncomputable def z2r : FI dat := FI.ofP dat 74 6 0 [(.d (.int .i64))] [] [] [] (.iface 31 (.d (.int .i64))) [] [] zt5 (R := Unit) (fun x => ()) (fun _ => ()) (fun n x => kzq n x.1)
 (fun n => []) (ann [] (Tryz.f74.body.getD .skip) 0).1
noncomputable def zs0 : List (FI dat) := []
theorem zs5 : (z2r).Good Tryz.prog dat (tb zs0) := FI.zp2 (hD := zz3 _) Tryz.func74 Tryz.ntmps74 Tryz.call74 (by kernel_rfl) (of_decide_eq_true (by kernel_rfl)) (by kernel_rfl) (fun n => by kernel_rfl) trivial (fun x => by kernel_rfl) (fun _ => rfl) trivial
 (fun n => fun x => (kzq.eq_2 x.1 n).trans (by kernel_rfl))
 (fun n => trivial)
 (fun x => by kernel_rfl)
theorem zrh : OkL Tryz.prog [z2r] := yze (zz3 _) (bs := []) trivial zs5
theorem zfo : FOk Tryz.prog z2r := zrh.1
def kz6 : Nat → (List UInt8) → (List UInt8) → Option Bool
 | 0, _, _ => none
 | n + 1, a0, a1 =>
   pIf (decide ((a0.length : Int) ≥ (a1.length : Int)))
     ((sub a0 0 (a1.length : Int)).bind fun x0 =>
     some (x0 == a1))
     (some false)
def z5o : LSh := ⟨[(4, (.d .bool))], [], 0, 18⟩
noncomputable def zza : FI dat := FI.of dat 162 18 0 [(.d .str), (.d .str)] [] [(.d .bool)] [] true z5o (R := Bool) (fun x => x.1) (fun r => (r, ())) (fun n x => kz6 n x.1 x.2.1)
 (fun n => []) (ann [] (Tryz.f162.body.getD .skip) 0).1
noncomputable def z5k : List (FI dat) := []
theorem z5m : (zza).Good Tryz.prog dat (tb z5k) := FI.yz5 (hD := zz3 _) Tryz.func162 Tryz.ntmps162 Tryz.call162 (by kernel_rfl) (of_decide_eq_true (by kernel_rfl)) (by kernel_rfl) (fun n => by kernel_rfl) (fun x => by kernel_rfl) (fun _ => rfl) trivial
 (fun n => fun x => (kz6.eq_2 x.1 x.2.1 n).trans (by kernel_rfl))
 (fun n => trivial)
 (fun x => .inl rfl)
theorem z5p : OkL Tryz.prog [zza] := yze (zz3 _) (bs := []) trivial z5m
theorem z5f : FOk Tryz.prog zza := z5p.1
end Go.Proofs.YtfhpamcehnfhoaaGreatDoor


namespace Go.Proofs.YtfhpamcehnfhoaaGreatDoor
open Go Go.Ab
set_option linter.unusedVariables false
set_option maxRecDepth 100000
def zze : Nat → (List UInt8) → (List UInt8) → Option ((List UInt8) × Bool)
 | 0, _, _ => none
 | n + 1, a0, a1 =>
   (kz6 n a0 a1).bind fun y0 =>
   pIf (!y0)
     (some (a0, false))
     ((sub a0 (a1.length : Int) (a0.length : Int)).bind fun x1 =>
     some (x1, true))
def zgo : LSh := ⟨[(4, (.d .str)), (5, (.d .bool))], [], 0, 15⟩
noncomputable def z0k : FI dat := FI.of dat 161 15 0 [(.d .str), (.d .str)] [] [(.d .str), (.d .bool)] [] true zgo (R := (List UInt8) × Bool) (fun x => (x.1, x.2.1)) (fun r => (r.1, r.2, ())) (fun n x => zze n x.1 x.2.1)
 (fun n => []) (ann [] (Tryz.f161.body.getD .skip) 0).1
noncomputable def zfr : List (FI dat) := [zza]
theorem zfu : (z0k).Good Tryz.prog dat (tb zfr) := FI.yz5 (hD := zz3 _) Tryz.func161 Tryz.ntmps161 Tryz.call161 (by kernel_rfl) (of_decide_eq_true (by kernel_rfl)) (by kernel_rfl) (fun n => by kernel_rfl) (fun x => by kernel_rfl) (fun _ => rfl) trivial
 (fun n => fun x => (zze.eq_2 x.1 x.2.1 n).trans (by kernel_rfl))
 (fun n => trivial)
 (fun x => .inl rfl)
theorem zft : OkL Tryz.prog [z0k] := yze (zz3 _) (bs := [zza]) ⟨z5f, trivial⟩ zfu
theorem zfj : FOk Tryz.prog z0k := zft.1
def zzy : Nat → (List UInt8) → (List UInt8) → Option ((List UInt8) × Bool)
 | 0, _, _ => none
 | n + 1, a0, a1 =>
   (zze n a0 a1).bind fun y0 =>
   some (y0.1, y0.2)
def zuj : LSh := ⟨[(4, (.d .str)), (5, (.d .bool))], [], 0, 11⟩
noncomputable def z48 : FI dat := FI.of dat 133 11 0 [(.d .str), (.d .str)] [] [(.d .str), (.d .bool)] [] true zuj (R := (List UInt8) × Bool) (fun x => (x.1, x.2.1)) (fun r => (r.1, r.2, ())) (fun n x => zzy n x.1 x.2.1)
 (fun n => []) (ann [] (Tryz.f133.body.getD .skip) 0).1
noncomputable def zue : List (FI dat) := [z0k]
theorem zun : (z48).Good Tryz.prog dat (tb zue) := FI.yz5 (hD := zz3 _) Tryz.func133 Tryz.ntmps133 Tryz.call133 (by kernel_rfl) (of_decide_eq_true (by kernel_rfl)) (by kernel_rfl) (fun n => by kernel_rfl) (fun x => by kernel_rfl) (fun _ => rfl) trivial
 (fun n => fun x => (zzy.eq_2 x.1 x.2.1 n).trans (by kernel_rfl))
 (fun n => trivial)
 (fun x => .inl rfl)
theorem zus : OkL Tryz.prog [z48] := yze (zz3 _) (bs := [z0k]) ⟨zfj, trivial⟩ zun
theorem ziv : FOk Tryz.prog z48 := zus.1
def kz7 : Nat → (List UInt8) → yz3 → Option (Bool × yz3)
 | 0, _, _ => none
 | n + 1, a0, a1 =>
   (zzy n a1.s a0).bind fun y0 =>
   some (y0.2, (yz3.mk y0.1))
def zw8 : LSh := ⟨[(4, (.d .bool))], [(.st 6)], 1, 21⟩
noncomputable def z4y : FI dat := FI.of dat 100 21 1 [(.ptr 0 0), (.d .str)] [(.st 6)] [(.d .bool)] [(.st 6)] false zw8 (R := Bool × yz3) (fun x => (x.1, x.2.1)) (fun r => (r.1, r.2, ())) (fun n x => kz7 n x.1 x.2.1)
 (fun n => []) (ann [] (Tryz.f100.body.getD .skip) 0).1
noncomputable def zvz : List (FI dat) := [z48]
theorem zwd : (z4y).Good Tryz.prog dat (tb zvz) := FI.yz5 (hD := zz3 _) Tryz.func100 Tryz.ntmps100 Tryz.call100 (by kernel_rfl) (of_decide_eq_true (by kernel_rfl)) (by kernel_rfl) (fun n => by kernel_rfl) (fun x => by kernel_rfl) (fun _ => rfl) trivial
 (fun n => fun x => (kz7.eq_2 x.1 x.2.1 n).trans (by kernel_rfl))
 (fun n => trivial)
 (fun x => .inr (by kernel_rfl))
theorem zwn : OkL Tryz.prog [z4y] := yze (zz3 _) (bs := [z48]) ⟨ziv, trivial⟩ zwd
theorem zjs : FOk Tryz.prog z4y := zwn.1
def yzc : Nat → (List UInt8) → yz3 → Option (Res (Int × Unit) yz3)
 | 0, _, _ => none
 | n + 1, a0, a1 =>
   (kz7 n a0 a1).bind fun y0 =>
   pIf (!y0.1)
     ((kzq n 12).bind fun y1 =>
     zh5 y1 (fun r2 =>
       some (Res.ok y0.2))
       (fun e3 =>
       some (Res.pan (e3.1, ()))))
     (some (Res.ok y0.2))
def zw0 : LSh := ⟨[], [(.st 6)], 1, 9⟩
noncomputable def z8y : FI dat := FI.ofP dat 101 9 1 [(.ptr 0 0), (.d .str)] [(.st 6)] [] [(.st 6)] (.iface 31 (.d (.int .i64))) [(.cells [.any])] [] zw0 (R := yz3) (fun x => x.1) (fun r => (r, ())) (fun n x => yzc n x.1 x.2.1)
 (fun n => []) (ann [] (Tryz.f101.body.getD .skip) 0).1
noncomputable def zvt : List (FI dat) := [z4y, z2r]
theorem zw1 : (z8y).Good Tryz.prog dat (tb zvt) := FI.zp2 (hD := zz3 _) Tryz.func101 Tryz.ntmps101 Tryz.call101 (by kernel_rfl) (of_decide_eq_true (by kernel_rfl)) (by kernel_rfl) (fun n => by kernel_rfl) trivial (fun x => by kernel_rfl) (fun _ => rfl) trivial
 (fun n => fun x => (yzc.eq_2 x.1 x.2.1 n).trans (by kernel_rfl))
 (fun n => trivial)
 (fun x => by kernel_rfl)
theorem zwr : OkL Tryz.prog [z8y] := yze (zz3 _) (bs := [z4y, z2r]) ⟨zjs, zfo, trivial⟩ zw1
theorem zul : FOk Tryz.prog z8y := zwr.1
def z0m : Nat → (List UInt8) → (List UInt8) → Option Bool
 | 0, _, _ => none
 | n + 1, a0, a1 =>
   (kz6 n a0 a1).bind fun y0 =>
   some y0
def zuf : LSh := ⟨[(4, (.d .bool))], [], 0, 8⟩
noncomputable def z43 : FI dat := FI.of dat 134 8 0 [(.d .str), (.d .str)] [] [(.d .bool)] [] true zuf (R := Bool) (fun x => x.1) (fun r => (r, ())) (fun n x => z0m n x.1 x.2.1)
 (fun n => []) (ann [] (Tryz.f134.body.getD .skip) 0).1
noncomputable def zug : List (FI dat) := [zza]
theorem zuv : (z43).Good Tryz.prog dat (tb zug) := FI.yz5 (hD := zz3 _) Tryz.func134 Tryz.ntmps134 Tryz.call134 (by kernel_rfl) (of_decide_eq_true (by kernel_rfl)) (by kernel_rfl) (fun n => by kernel_rfl) (fun x => by kernel_rfl) (fun _ => rfl) trivial
 (fun n => fun x => (z0m.eq_2 x.1 x.2.1 n).trans (by kernel_rfl))
 (fun n => trivial)
 (fun x => .inl rfl)
theorem zuh : OkL Tryz.prog [z43] := yze (zz3 _) (bs := [zza]) ⟨z5f, trivial⟩ zuv
theorem zj8 : FOk Tryz.prog z43 := zuh.1
def kzy : Nat → (List UInt8) → Int → Option Int
 | 0, _, _ => none
 | n + 1, a0, a1 =>
   (yzo n a0 a1).bind fun y0 =>
   some y0
def zut : LSh := ⟨[(4, (.d (.int .i64)))], [], 0, 8⟩
noncomputable def z4c : FI dat := FI.of dat 135 8 0 [(.d .str), (.d (.int .u8))] [] [(.d (.int .i64))] [] true zut (R := Int) (fun x => x.1) (fun r => (r, ())) (fun n x => kzy n x.1 x.2.1)
 (fun n => []) (ann [] (Tryz.f135.body.getD .skip) 0).1
noncomputable def zuk : List (FI dat) := [z0l]
theorem zuy : (z4c).Good Tryz.prog dat (tb zuk) := FI.yz5 (hD := zz3 _) Tryz.func135 Tryz.ntmps135 Tryz.call135 (by kernel_rfl) (of_decide_eq_true (by kernel_rfl)) (by kernel_rfl) (fun n => by kernel_rfl) (fun x => by kernel_rfl) (fun _ => rfl) trivial
 (fun n => fun x => (kzy.eq_2 x.1 x.2.1 n).trans (by kernel_rfl))
 (fun n => trivial)
 (fun x => .inl rfl)
theorem zur : OkL Tryz.prog [z4c] := yze (zz3 _) (bs := [z0l]) ⟨z9b, trivial⟩ zuy
theorem zik : FOk Tryz.prog z4c := zur.1
def kz9 : Nat → (List UInt8) → kz3 → Option (Bool × kz3)
 | 0, _, _ => none
 | n + 1, a0, a1 =>
   (sub a1.s a1.at_ (a1.s.length : Int)).bind fun x0 =>
   (z0m n x0 a0).bind fun y1 =>
   pIf (!y1)
     (some (false, a1))
     (some (true, (kz3.mk a1.s (IntKind.i64.wrap (a1.at_ + (a0.length : Int))) a1.ok)))
def zuq : LSh := ⟨[(4, (.d .bool))], [(.st 7)], 1, 26⟩
noncomputable def z86 : FI dat := FI.of dat 178 26 1 [(.ptr 0 0), (.d .str)] [(.st 7)] [(.d .bool)] [(.st 7)] false zuq (R := Bool × kz3) (fun x => (x.1, x.2.1)) (fun r => (r.1, r.2, ())) (fun n x => kz9 n x.1 x.2.1)
 (fun n => []) (ann [] (Tryz.f178.body.getD .skip) 0).1
noncomputable def zuo : List (FI dat) := [z43]
theorem zu6 : (z86).Good Tryz.prog dat (tb zuo) := FI.yz5 (hD := zz3 _) Tryz.func178 Tryz.ntmps178 Tryz.call178 (by kernel_rfl) (of_decide_eq_true (by kernel_rfl)) (by kernel_rfl) (fun n => by kernel_rfl) (fun x => by kernel_rfl) (fun _ => rfl) trivial
 (fun n => fun x => (kz9.eq_2 x.1 x.2.1 n).trans (by kernel_rfl))
 (fun n => trivial)
 (fun x => .inr (by kernel_rfl))
theorem zui : OkL Tryz.prog [z86] := yze (zz3 _) (bs := [z43]) ⟨zj8, trivial⟩ zu6
theorem zsr : FOk Tryz.prog z86 := zui.1
mutual
def zzl : Nat → kz3 → Option ((List UInt8) × kz3)
 | 0, _ => none
 | n + 1, a0 =>
   yz9 n a0 []
def yz9 : Nat → kz3 → (List Int) → Option ((List UInt8) × kz3)
 | 0, _, _ => none
 | n + 1, a0, a1 =>
   pIf (decide (a0.at_ < (a0.s.length : Int)))
     ((ix a0.s a0.at_).bind fun x0 =>
     pIf ((x0.toNat : Int) == 34)
       ((zzu n a1).bind fun y1 =>
       some (y1, (kz3.mk a0.s (IntKind.i64.wrap (a0.at_ + 1)) a0.ok)))
       (pIf ((x0.toNat : Int) == 92)
         (pIf ((IntKind.i64.wrap (a0.at_ + 1)) == (a0.s.length : Int))
           (yzi n true (kz3.mk a0.s (IntKind.i64.wrap (a0.at_ + 1)) a0.ok) a1)
           ((ix a0.s (IntKind.i64.wrap (a0.at_ + 1))).bind fun x2 =>
           pIf ((x2.toNat : Int) != 34)
             ((ix a0.s (IntKind.i64.wrap (a0.at_ + 1))).bind fun x3 =>
             yzi n ((x3.toNat : Int) != 92) (kz3.mk a0.s (IntKind.i64.wrap (a0.at_ + 1)) a0.ok) a1)
             (yzi n false (kz3.mk a0.s (IntKind.i64.wrap (a0.at_ + 1)) a0.ok) a1)))
         (yzm n (x0.toNat : Int) (kz3.mk a0.s (IntKind.i64.wrap (a0.at_ + 1)) a0.ok) a1)))
     (zzt n a0)
def yzi : Nat → Bool → kz3 → (List Int) → Option ((List UInt8) × kz3)
 | 0, _, _, _ => none
 | n + 1, a0, a1, a2 =>
   pIf a0
     (zzt n a1)
     ((ix a1.s a1.at_).bind fun x4 =>
     yzm n (x4.toNat : Int) (kz3.mk a1.s (IntKind.i64.wrap (a1.at_ + 1)) a1.ok) a2)
def yzm : Nat → Int → kz3 → (List Int) → Option ((List UInt8) × kz3)
 | 0, _, _, _ => none
 | n + 1, a0, a1, a2 =>
   (zz8 n a0 a2).bind fun y5 =>
   yz9 n a1 y5
def zzt : Nat → kz3 → Option ((List UInt8) × kz3)
 | 0, _ => none
 | n + 1, a0 =>
   some ([], (kz3.mk a0.s a0.at_ false))
end
def zra : LSh := ⟨[(2, (.d .str))], [(.st 7)], 1, 91⟩
noncomputable def z6c : FI dat := FI.of dat 179 91 1 [(.ptr 0 0)] [(.st 7)] [(.d .str)] [(.st 7)] false zra (R := (List UInt8) × kz3) (fun x => (x.1, x.2.1)) (fun r => (r.1, r.2, ())) (fun n x => zzl n x.1)
 (fun n => [(0, ⟨⟨[(3, (.bp 1)), (0, (.ptr 0 0))], [(.st 7), (.bld 74 2), (.acc 5 (.int .u8) true)], 1, 91⟩, fun x => yz9 n x.1 x.2.1⟩), (1, ⟨⟨[(0, (.ptr 0 0)), (3, (.bp 1)), (69, (.d .bool))], [(.st 7), (.bld 74 2), (.acc 5 (.int .u8) true)], 1, 91⟩, fun x => yzi n x.1 x.2.1 x.2.2.1⟩), (2, ⟨⟨[(3, (.bp 1)), (0, (.ptr 0 0)), (4, (.d (.int .u8)))], [(.st 7), (.bld 74 2), (.acc 5 (.int .u8) true)], 1, 91⟩, fun x => yzm n x.1 x.2.1 x.2.2.1⟩), (3, ⟨⟨[(0, (.ptr 0 0))], [(.st 7)], 1, 91⟩, fun x => zzt n x.1⟩)]) (ann [(6, 0), (33, 1), (40, 2), (41, 3)] (Tryz.f179.body.getD .skip) 0).1
noncomputable def zr0 : List (FI dat) := [yzf, yzx]
theorem zqz : (z6c).Good Tryz.prog dat (tb zr0) := FI.yz5 (hD := zz3 _) Tryz.func179 Tryz.ntmps179 Tryz.call179 (by kernel_rfl) (of_decide_eq_true (by kernel_rfl)) (by kernel_rfl) (fun n => by kernel_rfl) (fun x => by kernel_rfl) (fun _ => rfl) ⟨fun _ => rfl, fun _ => rfl, fun _ => rfl, fun _ => rfl, trivial⟩
 (fun n => fun x => (zzl.eq_2 x.1 n).trans (by kernel_rfl))
 (fun n => ⟨fun x => (yz9.eq_2 x.1 x.2.1 n).trans (by kernel_rfl),
  fun x => (yzi.eq_2 x.1 x.2.1 x.2.2.1 n).trans (by kernel_rfl),
  fun x => (yzm.eq_2 x.1 x.2.1 x.2.2.1 n).trans (by kernel_rfl),
  fun x => (zzt.eq_2 x.1 n).trans (by kernel_rfl),
  trivial⟩)
 (fun x => .inr (by kernel_rfl))
theorem zqv : OkL Tryz.prog [z6c] := yze (zz3 _) (bs := [yzf, yzx]) ⟨z66, zbl, trivial⟩ zqz
theorem zpp : FOk Tryz.prog z6c := zqv.1
def kzm : Nat → (List UInt8) → (List UInt8) → Option ((List UInt8) × (List UInt8) × Bool)
 | 0, _, _ => none
 | n + 1, a0, a1 =>
   (yzp n a0 a1).bind fun y0 =>
   pIf (decide (y0 ≥ 0))
     ((sub a0 0 y0).bind fun x1 =>
     (sub a0 (IntKind.i64.wrap (y0 + (a1.length : Int))) (a0.length : Int)).bind fun x2 =>
     some (x1, x2, true))
     (some (a0, [], false))
def zmb : LSh := ⟨[(4, (.d .str)), (5, (.d .str)), (6, (.d .bool))], [], 0, 23⟩
noncomputable def z2s : FI dat := FI.of dat 200 23 0 [(.d .str), (.d .str)] [] [(.d .str), (.d .str), (.d .bool)] [] true zmb (R := (List UInt8) × (List UInt8) × Bool) (fun x => (x.1, x.2.1, x.2.2.1)) (fun r => (r.1, r.2.1, r.2.2, ())) (fun n x => kzm n x.1 x.2.1)
 (fun n => []) (ann [] (Tryz.f200.body.getD .skip) 0).1
noncomputable def zl7 : List (FI dat) := [z1o]
theorem zm4 : (z2s).Good Tryz.prog dat (tb zl7) := FI.yz5 (hD := zz3 _) Tryz.func200 Tryz.ntmps200 Tryz.call200 (by kernel_rfl) (of_decide_eq_true (by kernel_rfl)) (by kernel_rfl) (fun n => by kernel_rfl) (fun x => by kernel_rfl) (fun _ => rfl) trivial
 (fun n => fun x => (kzm.eq_2 x.1 x.2.1 n).trans (by kernel_rfl))
 (fun n => trivial)
 (fun x => .inl rfl)
theorem zle : OkL Tryz.prog [z2s] := yze (zz3 _) (bs := [z1o]) ⟨zay, trivial⟩ zm4
theorem zk1 : FOk Tryz.prog z2s := zle.1
def z7k : Nat → (List UInt8) → (List UInt8) → Option ((List UInt8) × (List UInt8) × Bool)
 | 0, _, _ => none
 | n + 1, a0, a1 =>
   (kzm n a0 a1).bind fun y0 =>
   some (y0.1, y0.2.1, y0.2.2)
def yb7 : LSh := ⟨[(4, (.d .str)), (5, (.d .str)), (6, (.d .bool))], [], 0, 13⟩
noncomputable def zeg : FI dat := FI.of dat 191 13 0 [(.d .str), (.d .str)] [] [(.d .str), (.d .str), (.d .bool)] [] true yb7 (R := (List UInt8) × (List UInt8) × Bool) (fun x => (x.1, x.2.1, x.2.2.1)) (fun r => (r.1, r.2.1, r.2.2, ())) (fun n x => z7k n x.1 x.2.1)
 (fun n => []) (ann [] (Tryz.f191.body.getD .skip) 0).1
noncomputable def y9k : List (FI dat) := [z2s]
theorem yb6 : (zeg).Good Tryz.prog dat (tb y9k) := FI.yz5 (hD := zz3 _) Tryz.func191 Tryz.ntmps191 Tryz.call191 (by kernel_rfl) (of_decide_eq_true (by kernel_rfl)) (by kernel_rfl) (fun n => by kernel_rfl) (fun x => by kernel_rfl) (fun _ => rfl) trivial
 (fun n => fun x => (z7k.eq_2 x.1 x.2.1 n).trans (by kernel_rfl))
 (fun n => trivial)
 (fun x => .inl rfl)
theorem yac : OkL Tryz.prog [zeg] := yze (zz3 _) (bs := [z2s]) ⟨zk1, trivial⟩ yb6
theorem y5c : FOk Tryz.prog zeg := yac.1
mutual
def z4n : Nat → (List UInt8) → Option (Int × Bool)
 | 0, _ => none
 | n + 1, a0 =>
   pIf ((a0.length : Int) == 0)
     (z05 n a0 true)
     (pIf (decide ((a0.length : Int) > 10))
       (z05 n a0 true)
       ((ix a0 0).bind fun x0 =>
       pIf ((x0.toNat : Int) == 48)
         (z05 n a0 (decide ((a0.length : Int) > 1)))
         (z05 n a0 false)))
def z05 : Nat → (List UInt8) → Bool → Option (Int × Bool)
 | 0, _, _ => none
 | n + 1, a0, a1 =>
   pIf a1
     (some (0, false))
     (z1i n 0 a0 0)
def z1i : Nat → Int → (List UInt8) → Nat → Option (Int × Bool)
 | 0, _, _, _ => none
 | n + 1, a0, a1, a2 =>
   pIf (decide (a2 < a1.length))
     (pIf (decide (((zat a1 a2).1 : Int) < 48))
       (z1g n ((zat a1 a2).1 : Int) a0 true a1 (a2 + (zat a1 a2).2))
       (z1g n ((zat a1 a2).1 : Int) a0 (decide (((zat a1 a2).1 : Int) > 57)) a1 (a2 + (zat a1 a2).2)))
     (some (a0, true))
def z1g : Nat → Int → Int → Bool → (List UInt8) → Nat → Option (Int × Bool)
 | 0, _, _, _, _, _ => none
 | n + 1, a0, a1, a2, a3, a4 =>
   pIf a2
     (some (0, false))
     (z1i n (IntKind.i64.wrap ((IntKind.i64.wrap (10 * a1)) + (IntKind.i64.wrap (IntKind.i32.wrap (a0 - 48))))) a3 a4)
end
def y7b : LSh := ⟨[(2, (.d (.int .i64))), (3, (.d .bool))], [], 0, 43⟩
noncomputable def zcu : FI dat := FI.of dat 192 43 0 [(.d .str)] [] [(.d (.int .i64)), (.d .bool)] [] true y7b (R := Int × Bool) (fun x => (x.1, x.2.1)) (fun r => (r.1, r.2, ())) (fun n x => z4n n x.1)
 (fun n => [(0, ⟨⟨[(0, (.d .str)), (24, (.d .bool))], [], 0, 43⟩, fun x => z05 n x.1 x.2.1⟩), (1, ⟨⟨[(4, (.d (.int .i64))), (26, (.ptr 0 0))], [.siter], 0, 43⟩, fun x => z1i n x.1 x.2.1 x.2.2.1⟩), (2, ⟨⟨[(26, (.ptr 0 0)), (6, (.d (.int .i32))), (4, (.d (.int .i64))), (35, (.d .bool))], [.siter], 0, 43⟩, fun x => z1g n x.1 x.2.1 x.2.2.1 x.2.2.2.1 x.2.2.2.2.1⟩)]) (ann [(5, 0), (16, 1), (29, 2)] (Tryz.f192.body.getD .skip) 0).1
noncomputable def y80 : List (FI dat) := []
theorem y7q : (zcu).Good Tryz.prog dat (tb y80) := FI.yz5 (hD := zz3 _) Tryz.func192 Tryz.ntmps192 Tryz.call192 (by kernel_rfl) (of_decide_eq_true (by kernel_rfl)) (by kernel_rfl) (fun n => by kernel_rfl) (fun x => by kernel_rfl) (fun _ => rfl) ⟨fun _ => rfl, fun _ => rfl, fun _ => rfl, trivial⟩
 (fun n => fun x => (z4n.eq_2 x.1 n).trans (by kernel_rfl))
 (fun n => ⟨fun x => (z05.eq_2 x.1 x.2.1 n).trans (by kernel_rfl),
  fun x => (z1i.eq_2 x.1 x.2.1 x.2.2.1 n).trans (by kernel_rfl),
  fun x => (z1g.eq_2 x.1 x.2.1 x.2.2.1 x.2.2.2.1 x.2.2.2.2.1 n).trans (by kernel_rfl),
  trivial⟩)
 (fun x => .inl rfl)
theorem y4q : OkL Tryz.prog [zcu] := yze (zz3 _) (bs := []) trivial y7q
theorem y32 : FOk Tryz.prog zcu := y4q.1
end Go.Proofs.YtfhpamcehnfhoaaGreatDoor


namespace Go.Proofs.YtfhpamcehnfhoaaGreatDoor
open Go Go.Ab
set_option linter.unusedVariables false
set_option maxRecDepth 100000
mutual
def z1q : Nat → (List UInt8) → Option (Int × zz2)
 | 0, _ => none
 | n + 1, a0 =>
   (zzy n a0 [45]).bind fun y0 =>
   (z7k n y0.1 [47]).bind fun y1 =>
   pIf (!y1.2.2)
     (z17 n a0 y0.2 [49] y1.1 (zz2.mk 0 0))
     (z17 n a0 y0.2 y1.2.1 y1.1 (zz2.mk 0 0))
def z17 : Nat → (List UInt8) → Bool → (List UInt8) → (List UInt8) → zz2 → Option (Int × zz2)
 | 0, _, _, _, _, _ => none
 | n + 1, a0, a1, a2, a3, a4 =>
   (z4n n a3).bind fun y2 =>
   (z4n n a2).bind fun y3 =>
   pIf a1
     (z15 n a0 y3.2 y2.2 y3.1 (IntKind.i64.wrap (0 - y2.1)) a4)
     (z15 n a0 y3.2 y2.2 y3.1 y2.1 a4)
def z15 : Nat → (List UInt8) → Bool → Bool → Int → Int → zz2 → Option (Int × zz2)
 | 0, _, _, _, _, _, _ => none
 | n + 1, a0, a1, a2, a3, a4, a5 =>
   pIf (!a2)
     (z1a n a0 true a5 (zz2.mk a4 a3))
     (pIf (!a1)
       (z1a n a0 true a5 (zz2.mk a4 a3))
       ((z1r n (zz2.mk a4 a3)).bind fun y4 =>
       z1a n a0 (y4 != 0) a5 (zz2.mk a4 a3)))
def z1a : Nat → (List UInt8) → Bool → zz2 → zz2 → Option (Int × zz2)
 | 0, _, _, _, _ => none
 | n + 1, a0, a1, a2, a3 =>
   pIf a1
     (some (12, (zz2.mk 0 0)))
     ((z4k n a3).bind fun y5 =>
     pIf (!(y5.1 == a0))
       (some (12, (zz2.mk 0 0)))
       (some (0, a3)))
end
def yba : LSh := ⟨[(2, (.ptr 0 0)), (3, (.d (.int .i64)))], [(.st 2)], 0, 67⟩
noncomputable def zea : FI dat := FI.of dat 180 67 0 [(.d .str)] [] [(.d (.st 2)), (.d (.int .i64))] [] true yba (R := Int × zz2) (fun x => (x.1, x.2.1)) (fun r => (r.2, r.1, ())) (fun n x => z1q n x.1)
 (fun n => [(0, ⟨⟨[(2, (.ptr 0 0)), (0, (.d .str)), (5, (.d .bool)), (7, (.d .str)), (6, (.d .str))], [(.st 2)], 0, 67⟩, fun x => z17 n x.1 x.2.1 x.2.2.1 x.2.2.2.1 x.2.2.2.2.1⟩), (1, ⟨⟨[(2, (.ptr 0 0)), (0, (.d .str)), (12, (.d .bool)), (10, (.d .bool)), (11, (.d (.int .i64))), (9, (.d (.int .i64)))], [(.st 2)], 0, 67⟩, fun x => z15 n x.1 x.2.1 x.2.2.1 x.2.2.2.1 x.2.2.2.2.1 x.2.2.2.2.2.1⟩), (2, ⟨⟨[(2, (.ptr 0 0)), (13, (.ptr 1 0)), (0, (.d .str)), (55, (.d .bool))], [(.st 2), (.st 2)], 0, 67⟩, fun x => z1a n x.1 x.2.1 x.2.2.1 x.2.2.2.1⟩)]) (ann [(12, 0), (22, 1), (27, 2)] (Tryz.f180.body.getD .skip) 0).1
noncomputable def yap : List (FI dat) := [z48, zeg, zcu, z74, zbd]
theorem y9f : (zea).Good Tryz.prog dat (tb yap) := FI.yz5 (hD := zz3 _) Tryz.func180 Tryz.ntmps180 Tryz.call180 (by kernel_rfl) (of_decide_eq_true (by kernel_rfl)) (by kernel_rfl) (fun n => by kernel_rfl) (fun x => by kernel_rfl) (fun _ => rfl) ⟨fun _ => rfl, fun _ => rfl, fun _ => rfl, trivial⟩
 (fun n => fun x => (z1q.eq_2 x.1 n).trans (by kernel_rfl))
 (fun n => ⟨fun x => (z17.eq_2 x.1 x.2.1 x.2.2.1 x.2.2.2.1 x.2.2.2.2.1 n).trans (by kernel_rfl),
  fun x => (z15.eq_2 x.1 x.2.1 x.2.2.1 x.2.2.2.1 x.2.2.2.2.1 x.2.2.2.2.2.1 n).trans (by kernel_rfl),
  fun x => (z1a.eq_2 x.1 x.2.1 x.2.2.1 x.2.2.2.1 n).trans (by kernel_rfl),
  trivial⟩)
 (fun x => .inl rfl)
theorem y87 : OkL Tryz.prog [zea] := yze (zz3 _) (bs := [z48, zeg, zcu, z74, zbd]) ⟨ziv, y5c, y32, zm7, zv0, trivial⟩ y9f
theorem y7a : FOk Tryz.prog zea := y87.1
mutual
def zzk : Nat → Int → kz3 → Option (kz3 × yz0)
 | 0, _, _ => none
 | n + 1, a0, a1 =>
   pIf (a0 == 0)
     (yzz n (kz3.mk a1.s a1.at_ false) 0 0 0 false [] [])
     ((kz9 n [116, 114, 117, 101] a1).bind fun y0 =>
     pIf y0.1
       (some (y0.2, (yz0.mk 2 (zz2.mk 0 0) true [] [])))
       ((kz9 n [102, 97, 108, 115, 101] y0.2).bind fun y1 =>
       pIf y1.1
         (some (y1.2, (yz0.mk 2 (zz2.mk 0 0) false [] [])))
         ((kz9 n [34] y1.2).bind fun y2 =>
         pIf y2.1
           ((zzl n y2.2).bind fun y3 =>
           some (y3.2, (yz0.mk 3 (zz2.mk 0 0) false y3.1 [])))
           ((kz9 n [91, 93] y2.2).bind fun y4 =>
           pIf y4.1
             (some (y4.2, (yz0.mk 4 (zz2.mk 0 0) false [] [])))
             ((kz9 n [91] y4.2).bind fun y5 =>
             pIf y5.1
               (z7a n a0 true y5.2 4 0 0 false [] 0 0 0 false [] [] [])
               (yzz n y5.2 0 0 0 false [] []))))))
def z7a : Nat → Int → Bool → kz3 → Int → Int → Int → Bool → (List UInt8) → Int → Int → Int → Bool → (List UInt8) → (List yz0) → (List yz0) → Option (kz3 × yz0)
 | 0, _, _, _, _, _, _, _, _, _, _, _, _, _, _, _ => none
 | n + 1, a0, a1, a2, a3, a4, a5, a6, a7, a8, a9, a10, a11, a12, a13, a14 =>
   pIf a1
     (z6o n a0 a2.ok a2 a3 a4 a5 a6 a7 a8 a9 a10 a11 a12 a13 a14)
     (z6o n a0 false a2 a3 a4 a5 a6 a7 a8 a9 a10 a11 a12 a13 a14)
def z6o : Nat → Int → Bool → kz3 → Int → Int → Int → Bool → (List UInt8) → Int → Int → Int → Bool → (List UInt8) → (List yz0) → (List yz0) → Option (kz3 × yz0)
 | 0, _, _, _, _, _, _, _, _, _, _, _, _, _, _, _ => none
 | n + 1, a0, a1, a2, a3, a4, a5, a6, a7, a8, a9, a10, a11, a12, a13, a14 =>
   pIf a1
     ((zzk n (IntKind.i64.wrap (a0 - 1)) a2).bind fun y8 =>
     (ext a13 [y8.2.re]).bind fun x9 =>
     (kz9 n [44, 32] y8.1).bind fun y10 =>
     z7a n a0 y10.1 y10.2 a3 a4 a5 a6 a7 a8 a9 a10 a11 a12 x9 a14)
     ((kz9 n [93] a2).bind fun y11 =>
     pIf y11.1
       (z6s n y11.2 a8 a9 a10 a11 a12 a3 a4 a5 a6 a7 a14 a13)
       (z6s n (kz3.mk y11.2.s y11.2.at_ false) a8 a9 a10 a11 a12 a3 a4 a5 a6 a7 a14 a13))
def z6s : Nat → kz3 → Int → Int → Int → Bool → (List UInt8) → Int → Int → Int → Bool → (List UInt8) → (List yz0) → (List yz0) → Option (kz3 × yz0)
 | 0, _, _, _, _, _, _, _, _, _, _, _, _, _ => none
 | n + 1, a0, a1, a2, a3, a4, a5, a6, a7, a8, a9, a10, a11, a12 =>
   some (a0, (yz0.mk a6 (zz2.mk a7 a8) a9 a10 a12))
def yzz : Nat → kz3 → Int → Int → Int → Bool → (List UInt8) → (List yz0) → Option (kz3 × yz0)
 | 0, _, _, _, _, _, _, _ => none
 | n + 1, a0, a1, a2, a3, a4, a5, a6 =>
   yzk n a0.at_ a0 a1 a2 a3 a4 a5 a6
def yzk : Nat → Int → kz3 → Int → Int → Int → Bool → (List UInt8) → (List yz0) → Option (kz3 × yz0)
 | 0, _, _, _, _, _, _, _, _ => none
 | n + 1, a0, a1, a2, a3, a4, a5, a6, a7 =>
   pIf (decide (a0 < (a1.s.length : Int)))
     ((ix a1.s a0).bind fun x6 =>
     (kzy n [48, 49, 50, 51, 52, 53, 54, 55, 56, 57, 47, 45] (x6.toNat : Int)).bind fun y7 =>
     zzz n a0 (decide (y7 ≥ 0)) a1 a2 a3 a4 a5 a6 a7)
     (zzz n a0 false a1 a2 a3 a4 a5 a6 a7)
def zzz : Nat → Int → Bool → kz3 → Int → Int → Int → Bool → (List UInt8) → (List yz0) → Option (kz3 × yz0)
 | 0, _, _, _, _, _, _, _, _, _ => none
 | n + 1, a0, a1, a2, a3, a4, a5, a6, a7, a8 =>
   pIf a1
     (yzk n (IntKind.i64.wrap (a0 + 1)) a2 a3 a4 a5 a6 a7 a8)
     ((sub a2.s a2.at_ a0).bind fun x12 =>
     (z1q n x12).bind fun y13 =>
     pIf a2.ok
       (yzy n a0 (kz3.mk a2.s a2.at_ (y13.1 == 0)) a3 a4 a5 a6 a7 y13.2 a8)
       (yzy n a0 (kz3.mk a2.s a2.at_ false) a3 a4 a5 a6 a7 y13.2 a8))
def yzy : Nat → Int → kz3 → Int → Int → Int → Bool → (List UInt8) → zz2 → (List yz0) → Option (kz3 × yz0)
 | 0, _, _, _, _, _, _, _, _, _ => none
 | n + 1, a0, a1, a2, a3, a4, a5, a6, a7, a8 =>
   some ((kz3.mk a1.s a0 a1.ok), (yz0.mk 1 a7 false [] []))
end
def zru : LSh := ⟨[(4, (.ptr 1 0))], [(.st 7), (.st 3)], 1, 122⟩
noncomputable def z5c : FI dat := FI.of dat 164 122 1 [(.ptr 0 0), (.d (.int .i64))] [(.st 7)] [(.d (.st 3))] [(.st 7), (.st 3)] false zru (R := kz3 × yz0) (fun x => (x.1, x.2.1)) (fun r => (r.2, r.1, r.2, ())) (fun n x => zzk n x.1 x.2.1)
 (fun n => [(0, ⟨⟨[(0, (.ptr 0 0)), (5, (.ptr 1 0)), (1, (.d (.int .i64))), (4, (.ptr 2 0)), (6, (.d .bool))], [(.st 7), (.cells [(.d (.int .u8)), (.d (.int .i64)), (.d (.int .i64)), (.d .bool), (.d .str), (.own 3)]), (.cells [(.d (.int .u8)), (.d (.int .i64)), (.d (.int .i64)), (.d .bool), (.d .str), (.own 4)]), (.acc 26 (.st 3) true), (.acc 26 (.st 3) true)], 1, 122⟩, fun x => z7a n x.1 x.2.1 x.2.2.1 x.2.2.2.1 x.2.2.2.2.1 x.2.2.2.2.2.1 x.2.2.2.2.2.2.1 x.2.2.2.2.2.2.2.1 x.2.2.2.2.2.2.2.2.1 x.2.2.2.2.2.2.2.2.2.1 x.2.2.2.2.2.2.2.2.2.2.1 x.2.2.2.2.2.2.2.2.2.2.2.1 x.2.2.2.2.2.2.2.2.2.2.2.2.1 x.2.2.2.2.2.2.2.2.2.2.2.2.2.1 x.2.2.2.2.2.2.2.2.2.2.2.2.2.2.1⟩), (1, ⟨⟨[(0, (.ptr 0 0)), (5, (.ptr 1 0)), (1, (.d (.int .i64))), (4, (.ptr 2 0)), (44, (.d .bool))], [(.st 7), (.cells [(.d (.int .u8)), (.d (.int .i64)), (.d (.int .i64)), (.d .bool), (.d .str), (.own 3)]), (.cells [(.d (.int .u8)), (.d (.int .i64)), (.d (.int .i64)), (.d .bool), (.d .str), (.own 4)]), (.acc 26 (.st 3) true), (.acc 26 (.st 3) true)], 1, 122⟩, fun x => z6o n x.1 x.2.1 x.2.2.1 x.2.2.2.1 x.2.2.2.2.1 x.2.2.2.2.2.1 x.2.2.2.2.2.2.1 x.2.2.2.2.2.2.2.1 x.2.2.2.2.2.2.2.2.1 x.2.2.2.2.2.2.2.2.2.1 x.2.2.2.2.2.2.2.2.2.2.1 x.2.2.2.2.2.2.2.2.2.2.2.1 x.2.2.2.2.2.2.2.2.2.2.2.2.1 x.2.2.2.2.2.2.2.2.2.2.2.2.2.1 x.2.2.2.2.2.2.2.2.2.2.2.2.2.2.1⟩), (2, ⟨⟨[(4, (.ptr 1 0)), (5, (.ptr 2 0))], [(.st 7), (.cells [(.d (.int .u8)), (.d (.int .i64)), (.d (.int .i64)), (.d .bool), (.d .str), (.own 3)]), (.cells [(.d (.int .u8)), (.d (.int .i64)), (.d (.int .i64)), (.d .bool), (.d .str), (.own 4)]), (.acc 26 (.st 3) true), (.acc 26 (.st 3) true)], 1, 122⟩, fun x => z6s n x.1 x.2.1 x.2.2.1 x.2.2.2.1 x.2.2.2.2.1 x.2.2.2.2.2.1 x.2.2.2.2.2.2.1 x.2.2.2.2.2.2.2.1 x.2.2.2.2.2.2.2.2.1 x.2.2.2.2.2.2.2.2.2.1 x.2.2.2.2.2.2.2.2.2.2.1 x.2.2.2.2.2.2.2.2.2.2.2.1 x.2.2.2.2.2.2.2.2.2.2.2.2.1⟩), (3, ⟨⟨[(4, (.ptr 1 0)), (0, (.ptr 0 0))], [(.st 7), (.cells [(.d (.int .u8)), (.d (.int .i64)), (.d (.int .i64)), (.d .bool), (.d .str), (.own 2)]), (.acc 26 (.st 3) true)], 1, 122⟩, fun x => yzz n x.1 x.2.1 x.2.2.1 x.2.2.2.1 x.2.2.2.2.1 x.2.2.2.2.2.1 x.2.2.2.2.2.2.1⟩), (4, ⟨⟨[(7, (.d (.int .i64))), (4, (.ptr 1 0)), (0, (.ptr 0 0))], [(.st 7), (.cells [(.d (.int .u8)), (.d (.int .i64)), (.d (.int .i64)), (.d .bool), (.d .str), (.own 2)]), (.acc 26 (.st 3) true)], 1, 122⟩, fun x => yzk n x.1 x.2.1 x.2.2.1 x.2.2.2.1 x.2.2.2.2.1 x.2.2.2.2.2.1 x.2.2.2.2.2.2.1 x.2.2.2.2.2.2.2.1⟩), (5, ⟨⟨[(4, (.ptr 1 0)), (0, (.ptr 0 0)), (7, (.d (.int .i64))), (88, (.d .bool))], [(.st 7), (.cells [(.d (.int .u8)), (.d (.int .i64)), (.d (.int .i64)), (.d .bool), (.d .str), (.own 2)]), (.acc 26 (.st 3) true)], 1, 122⟩, fun x => zzz n x.1 x.2.1 x.2.2.1 x.2.2.2.1 x.2.2.2.2.1 x.2.2.2.2.2.1 x.2.2.2.2.2.2.1 x.2.2.2.2.2.2.2.1 x.2.2.2.2.2.2.2.2.1⟩), (6, ⟨⟨[(4, (.ptr 1 0)), (8, (.ptr 2 0)), (7, (.d (.int .i64))), (0, (.ptr 0 0))], [(.st 7), (.cells [(.d (.int .u8)), (.d (.int .i64)), (.d (.int .i64)), (.d .bool), (.d .str), (.own 3)]), (.st 2), (.acc 26 (.st 3) true)], 1, 122⟩, fun x => yzy n x.1 x.2.1 x.2.2.1 x.2.2.2.1 x.2.2.2.2.1 x.2.2.2.2.2.1 x.2.2.2.2.2.2.1 x.2.2.2.2.2.2.2.1 x.2.2.2.2.2.2.2.2.1⟩)]) (ann [(41, 0), (45, 1), (54, 2), (58, 3), (62, 4), (66, 5), (75, 6)] (Tryz.f164.body.getD .skip) 0).1
noncomputable def zsc : List (FI dat) := [z5c] ++ [z86, z6c, z4c, zea]
theorem zt2 : (z5c).Good Tryz.prog dat (tb zsc) := FI.yz5 (hD := zz3 _) Tryz.func164 Tryz.ntmps164 Tryz.call164 (by kernel_rfl) (of_decide_eq_true (by kernel_rfl)) (by kernel_rfl) (fun n => by kernel_rfl) (fun x => by kernel_rfl) (fun _ => rfl) ⟨fun _ => rfl, fun _ => rfl, fun _ => rfl, fun _ => rfl, fun _ => rfl, fun _ => rfl, fun _ => rfl, trivial⟩
 (fun n => fun x => (zzk.eq_2 x.1 x.2.1 n).trans (by kernel_rfl))
 (fun n => ⟨fun x => (z7a.eq_2 x.1 x.2.1 x.2.2.1 x.2.2.2.1 x.2.2.2.2.1 x.2.2.2.2.2.1 x.2.2.2.2.2.2.1 x.2.2.2.2.2.2.2.1 x.2.2.2.2.2.2.2.2.1 x.2.2.2.2.2.2.2.2.2.1 x.2.2.2.2.2.2.2.2.2.2.1 x.2.2.2.2.2.2.2.2.2.2.2.1 x.2.2.2.2.2.2.2.2.2.2.2.2.1 x.2.2.2.2.2.2.2.2.2.2.2.2.2.1 x.2.2.2.2.2.2.2.2.2.2.2.2.2.2.1 n).trans (by kernel_rfl),
  fun x => (z6o.eq_2 x.1 x.2.1 x.2.2.1 x.2.2.2.1 x.2.2.2.2.1 x.2.2.2.2.2.1 x.2.2.2.2.2.2.1 x.2.2.2.2.2.2.2.1 x.2.2.2.2.2.2.2.2.1 x.2.2.2.2.2.2.2.2.2.1 x.2.2.2.2.2.2.2.2.2.2.1 x.2.2.2.2.2.2.2.2.2.2.2.1 x.2.2.2.2.2.2.2.2.2.2.2.2.1 x.2.2.2.2.2.2.2.2.2.2.2.2.2.1 x.2.2.2.2.2.2.2.2.2.2.2.2.2.2.1 n).trans (by kernel_rfl),
  fun x => (z6s.eq_2 x.1 x.2.1 x.2.2.1 x.2.2.2.1 x.2.2.2.2.1 x.2.2.2.2.2.1 x.2.2.2.2.2.2.1 x.2.2.2.2.2.2.2.1 x.2.2.2.2.2.2.2.2.1 x.2.2.2.2.2.2.2.2.2.1 x.2.2.2.2.2.2.2.2.2.2.1 x.2.2.2.2.2.2.2.2.2.2.2.1 x.2.2.2.2.2.2.2.2.2.2.2.2.1 n).trans (by kernel_rfl),
  fun x => (yzz.eq_2 x.1 x.2.1 x.2.2.1 x.2.2.2.1 x.2.2.2.2.1 x.2.2.2.2.2.1 x.2.2.2.2.2.2.1 n).trans (by kernel_rfl),
  fun x => (yzk.eq_2 x.1 x.2.1 x.2.2.1 x.2.2.2.1 x.2.2.2.2.1 x.2.2.2.2.2.1 x.2.2.2.2.2.2.1 x.2.2.2.2.2.2.2.1 n).trans (by kernel_rfl),
  fun x => (zzz.eq_2 x.1 x.2.1 x.2.2.1 x.2.2.2.1 x.2.2.2.2.1 x.2.2.2.2.2.1 x.2.2.2.2.2.2.1 x.2.2.2.2.2.2.2.1 x.2.2.2.2.2.2.2.2.1 n).trans (by kernel_rfl),
  fun x => (yzy.eq_2 x.1 x.2.1 x.2.2.1 x.2.2.2.1 x.2.2.2.2.1 x.2.2.2.2.2.1 x.2.2.2.2.2.2.1 x.2.2.2.2.2.2.2.1 x.2.2.2.2.2.2.2.2.1 n).trans (by kernel_rfl),
  trivial⟩)
 (fun x => .inr (by kernel_rfl))
theorem zry : OkL Tryz.prog [z5c] := z4p (zz3 _) (bs := [z86, z6c, z4c, zea]) ⟨zsr, zpp, zik, y7a, trivial⟩ ⟨zt2, trivial⟩
theorem zqx : FOk Tryz.prog z5c := zry.1
mutual
def z10 : Nat → (List UInt8) → Option (Int × yz0)
 | 0, _ => none
 | n + 1, a0 =>
   pIf (decide ((a0.length : Int) > 4000))
     (some (12, (yz0.mk 0 (zz2.mk 0 0) false [] [])))
     ((zzk n 6 (kz3.mk a0 0 true)).bind fun y0 =>
     pIf (!y0.1.ok)
       (z0n n true (yz0.mk 0 (zz2.mk 0 0) false [] []) y0.2.re)
       (pIf (y0.1.at_ != (a0.length : Int))
         (z0n n true (yz0.mk 0 (zz2.mk 0 0) false [] []) y0.2.re)
         ((z4i n y0.2.re).bind fun y1 =>
         z0n n (y1 != 0) (yz0.mk 0 (zz2.mk 0 0) false [] []) y0.2.re)))
def z0n : Nat → Bool → yz0 → yz0 → Option (Int × yz0)
 | 0, _, _, _ => none
 | n + 1, a0, a1, a2 =>
   pIf a0
     (some (12, (yz0.mk 0 (zz2.mk 0 0) false [] [])))
     (some (0, a2.re))
end
def yas : LSh := ⟨[(2, (.ptr 0 0)), (3, (.d (.int .i64)))], [(.st 3)], 0, 36⟩
noncomputable def ze8 : FI dat := FI.of dat 136 36 0 [(.d .str)] [] [(.d (.st 3)), (.d (.int .i64))] [] true yas (R := Int × yz0) (fun x => (x.1, x.2.1)) (fun r => (r.2, r.1, ())) (fun n x => z10 n x.1)
 (fun n => [(0, ⟨⟨[(2, (.ptr 0 0)), (5, (.ptr 1 0)), (33, (.d .bool))], [(.st 3), (.st 3)], 0, 36⟩, fun x => z0n n x.1 x.2.1 x.2.2.1⟩)]) (ann [(17, 0)] (Tryz.f136.body.getD .skip) 0).1
noncomputable def y9h : List (FI dat) := [z5c, z6y]
theorem y8o : (ze8).Good Tryz.prog dat (tb y9h) := FI.yz5 (hD := zz3 _) Tryz.func136 Tryz.ntmps136 Tryz.call136 (by kernel_rfl) (of_decide_eq_true (by kernel_rfl)) (by kernel_rfl) (fun n => by kernel_rfl) (fun x => by kernel_rfl) (fun _ => rfl) ⟨fun _ => rfl, trivial⟩
 (fun n => fun x => (z10.eq_2 x.1 n).trans (by kernel_rfl))
 (fun n => ⟨fun x => (z0n.eq_2 x.1 x.2.1 x.2.2.1 n).trans (by kernel_rfl),
  trivial⟩)
 (fun x => .inl rfl)
theorem y9e : OkL Tryz.prog [ze8] := yze (zz3 _) (bs := [z5c, z6y]) ⟨zqx, zls, trivial⟩ y8o
theorem y5e : FOk Tryz.prog ze8 := y9e.1
mutual
def zzx : Nat → yz3 → Option (Res (Int × Unit) (yz3 × kz0))
 | 0, _ => none
 | n + 1, a0 =>
   (z0m n a0.s [34]).bind fun y0 =>
   pIf y0
     (zzi n 1 a0 (kz0.mk 0 (yz0.mk 0 (zz2.mk 0 0) false [] []) [] []))
     (kzi n 0 a0 (kz0.mk 0 (yz0.mk 0 (zz2.mk 0 0) false [] []) [] []))
def zzi : Nat → Int → yz3 → kz0 → Option (Res (Int × Unit) (yz3 × kz0))
 | 0, _, _, _ => none
 | n + 1, a0, a1, a2 =>
   pIf (decide (a0 < (a1.s.length : Int)))
     ((ix a1.s a0).bind fun x1 =>
     zzj n a0 ((x1.toNat : Int) != 34) a1 a2.re)
     (zzj n a0 false a1 a2.re)
def zzj : Nat → Int → Bool → yz3 → kz0 → Option (Res (Int × Unit) (yz3 × kz0))
 | 0, _, _, _, _ => none
 | n + 1, a0, a1, a2, a3 =>
   pIf a1
     ((ix a2.s a0).bind fun x4 =>
     pIf ((x4.toNat : Int) == 92)
       (kzs n (IntKind.i64.wrap (a0 + 1)) a2 a3.re)
       (kzs n a0 a2 a3.re))
     (yz7 n (mnI (IntKind.i64.wrap (a0 + 1)) (a2.s.length : Int)) a2 a3.re)
def kzs : Nat → Int → yz3 → kz0 → Option (Res (Int × Unit) (yz3 × kz0))
 | 0, _, _, _ => none
 | n + 1, a0, a1, a2 =>
   zzi n (IntKind.i64.wrap (a0 + 1)) a1 a2.re
def kzi : Nat → Int → yz3 → kz0 → Option (Res (Int × Unit) (yz3 × kz0))
 | 0, _, _, _ => none
 | n + 1, a0, a1, a2 =>
   pIf (decide (a0 < (a1.s.length : Int)))
     ((ix a1.s a0).bind fun x2 =>
     (kzy n [48, 49, 50, 51, 52, 53, 54, 55, 56, 57, 47, 45] (x2.toNat : Int)).bind fun y3 =>
     yzu n a0 (decide (y3 ≥ 0)) a1 a2.re)
     (yzu n a0 false a1 a2.re)
def yzu : Nat → Int → Bool → yz3 → kz0 → Option (Res (Int × Unit) (yz3 × kz0))
 | 0, _, _, _, _ => none
 | n + 1, a0, a1, a2, a3 =>
   pIf a1
     (kzi n (IntKind.i64.wrap (a0 + 1)) a2 a3.re)
     (yz7 n a0 a2 a3.re)
def yz7 : Nat → Int → yz3 → kz0 → Option (Res (Int × Unit) (yz3 × kz0))
 | 0, _, _, _ => none
 | n + 1, a0, a1, a2 =>
   (sub a1.s 0 a0).bind fun x5 =>
   (z10 n x5).bind fun y6 =>
   (kzq n y6.1).bind fun y7 =>
   zh5 y7 (fun r8 =>
     (sub a1.s a0 (a1.s.length : Int)).bind fun x9 =>
     some (Res.ok ((yz3.mk x9), (kz0.mk 1 y6.2.re [] []))))
     (fun e10 =>
     some (Res.pan (e10.1, ())))
end
def zqy : LSh := ⟨[(2, (.ptr 1 0))], [(.st 6), (.st 4)], 1, 88⟩
noncomputable def z6b : FI dat := FI.ofP dat 103 88 1 [(.ptr 0 0)] [(.st 6)] [(.d (.st 4))] [(.st 6), (.st 4)] (.iface 31 (.d (.int .i64))) [(.cells [.any])] [] zqy (R := yz3 × kz0) (fun x => (x.1, x.2.1)) (fun r => (r.2, r.1, r.2, ())) (fun n x => zzx n x.1)
 (fun n => [(0, ⟨⟨[(3, (.d (.int .i64))), (0, (.ptr 0 0)), (2, (.ptr 1 0))], [(.st 6), (.st 4)], 1, 88⟩, fun x => zzi n x.1 x.2.1 x.2.2.1⟩), (1, ⟨⟨[(0, (.ptr 0 0)), (2, (.ptr 1 0)), (3, (.d (.int .i64))), (26, (.d .bool))], [(.st 6), (.st 4)], 1, 88⟩, fun x => zzj n x.1 x.2.1 x.2.2.1 x.2.2.2.1⟩), (2, ⟨⟨[(0, (.ptr 0 0)), (2, (.ptr 1 0)), (3, (.d (.int .i64)))], [(.st 6), (.st 4)], 1, 88⟩, fun x => kzs n x.1 x.2.1 x.2.2.1⟩), (3, ⟨⟨[(3, (.d (.int .i64))), (2, (.ptr 1 0)), (0, (.ptr 0 0))], [(.st 6), (.st 4)], 1, 88⟩, fun x => kzi n x.1 x.2.1 x.2.2.1⟩), (4, ⟨⟨[(2, (.ptr 1 0)), (0, (.ptr 0 0)), (3, (.d (.int .i64))), (62, (.d .bool))], [(.st 6), (.st 4)], 1, 88⟩, fun x => yzu n x.1 x.2.1 x.2.2.1 x.2.2.2.1⟩), (5, ⟨⟨[(2, (.ptr 1 0)), (3, (.d (.int .i64))), (0, (.ptr 0 0))], [(.st 6), (.st 4)], 1, 88⟩, fun x => yz7 n x.1 x.2.1 x.2.2.1⟩)]) (ann [(12, 0), (16, 1), (26, 2), (29, 3), (33, 4), (38, 5)] (Tryz.f103.body.getD .skip) 0).1
noncomputable def zr9 : List (FI dat) := [z43, z4c, ze8, z2r]
theorem zqw : (z6b).Good Tryz.prog dat (tb zr9) := FI.zp2 (hD := zz3 _) Tryz.func103 Tryz.ntmps103 Tryz.call103 (by kernel_rfl) (of_decide_eq_true (by kernel_rfl)) (by kernel_rfl) (fun n => by kernel_rfl) trivial (fun x => by kernel_rfl) (fun _ => rfl) ⟨fun _ => rfl, fun _ => rfl, fun _ => rfl, fun _ => rfl, fun _ => rfl, fun _ => rfl, trivial⟩
 (fun n => fun x => (zzx.eq_2 x.1 n).trans (by kernel_rfl))
 (fun n => ⟨fun x => (zzi.eq_2 x.1 x.2.1 x.2.2.1 n).trans (by kernel_rfl),
  fun x => (zzj.eq_2 x.1 x.2.1 x.2.2.1 x.2.2.2.1 n).trans (by kernel_rfl),
  fun x => (kzs.eq_2 x.1 x.2.1 x.2.2.1 n).trans (by kernel_rfl),
  fun x => (kzi.eq_2 x.1 x.2.1 x.2.2.1 n).trans (by kernel_rfl),
  fun x => (yzu.eq_2 x.1 x.2.1 x.2.2.1 x.2.2.2.1 n).trans (by kernel_rfl),
  fun x => (yz7.eq_2 x.1 x.2.1 x.2.2.1 n).trans (by kernel_rfl),
  trivial⟩)
 (fun x => by kernel_rfl)
theorem zr5 : OkL Tryz.prog [z6b] := yze (zz3 _) (bs := [z43, z4c, ze8, z2r]) ⟨zj8, zik, y5e, zfo, trivial⟩ zqw
theorem zq1 : FOk Tryz.prog z6b := zr5.1
end Go.Proofs.YtfhpamcehnfhoaaGreatDoor


namespace Go.Proofs.YtfhpamcehnfhoaaGreatDoor
open Go Go.Ab
set_option linter.unusedVariables false
set_option maxRecDepth 100000
def z6v : Nat → Bool → Option yz0
 | 0, _ => none
 | n + 1, a0 =>
   some (yz0.mk 2 (zz2.mk 0 0) a0 [] [])
def ygt : LSh := ⟨[(2, (.ptr 0 0))], [(.st 3)], 0, 5⟩
noncomputable def zfx : FI dat := FI.of dat 104 5 0 [(.d .bool)] [] [(.d (.st 3))] [] true ygt (R := yz0) (fun x => x.1) (fun r => (r, ())) (fun n x => z6v n x.1)
 (fun n => []) (ann [] (Tryz.f104.body.getD .skip) 0).1
noncomputable def ydc : List (FI dat) := []
theorem ye7 : (zfx).Good Tryz.prog dat (tb ydc) := FI.yz5 (hD := zz3 _) Tryz.func104 Tryz.ntmps104 Tryz.call104 (by kernel_rfl) (of_decide_eq_true (by kernel_rfl)) (by kernel_rfl) (fun n => by kernel_rfl) (fun x => by kernel_rfl) (fun _ => rfl) trivial
 (fun n => fun x => (z6v.eq_2 x.1 n).trans (by kernel_rfl))
 (fun n => trivial)
 (fun x => .inl rfl)
theorem yci : OkL Tryz.prog [zfx] := yze (zz3 _) (bs := []) trivial ye7
theorem y8g : FOk Tryz.prog zfx := yci.1
mutual
def kze : Nat → (List (List UInt8)) → (List UInt8) → Option Int
 | 0, _, _ => none
 | n + 1, a0, a1 =>
   kz5 n 0 a0 a1 (a0.length : Int)
def kz5 : Nat → Int → (List (List UInt8)) → (List UInt8) → Int → Option Int
 | 0, _, _, _, _ => none
 | n + 1, a0, a1, a2, a3 =>
   pIf (decide (a0 < a3))
     ((ix a1 a0).bind fun x0 =>
     pIf (a2 == x0)
       (some a0)
       (kz5 n (IntKind.i64.wrap (a0 + 1)) a1 a2 a3))
     (some (-1))
end
def zjm : LSh := ⟨[(4, (.d (.int .i64)))], [], 0, 19⟩
noncomputable def z1m : FI dat := FI.of dat 105 19 0 [(.d (.sl .str)), (.d .str)] [] [(.d (.int .i64))] [] true zjm (R := Int) (fun x => x.1) (fun r => (r, ())) (fun n x => kze n x.1 x.2.1)
 (fun n => [(0, ⟨⟨[(8, (.d (.int .i64))), (0, (.d (.sl .str))), (1, (.d .str)), (7, (.d (.int .i64)))], [], 0, 19⟩, fun x => kz5 n x.1 x.2.1 x.2.2.1 x.2.2.2.1⟩)]) (ann [(6, 0)] (Tryz.f105.body.getD .skip) 0).1
noncomputable def zjr : List (FI dat) := []
theorem zjd : (z1m).Good Tryz.prog dat (tb zjr) := FI.yz5 (hD := zz3 _) Tryz.func105 Tryz.ntmps105 Tryz.call105 (by kernel_rfl) (of_decide_eq_true (by kernel_rfl)) (by kernel_rfl) (fun n => by kernel_rfl) (fun x => by kernel_rfl) (fun _ => rfl) ⟨fun _ => rfl, trivial⟩
 (fun n => fun x => (kze.eq_2 x.1 x.2.1 n).trans (by kernel_rfl))
 (fun n => ⟨fun x => (kz5.eq_2 x.1 x.2.1 x.2.2.1 x.2.2.2.1 n).trans (by kernel_rfl),
  trivial⟩)
 (fun x => .inl rfl)
theorem zjf : OkL Tryz.prog [z1m] := yze (zz3 _) (bs := []) trivial zjd
theorem zio : FOk Tryz.prog z1m := zjf.1
mutual
def yzd : Nat → Int → yz3 → Option (Res (Int × Unit) (yz3 × kz0))
 | 0, _, _ => none
 | n + 1, a0, a1 =>
   pIf (a0 == 0)
     ((kzq n 12).bind fun y0 =>
     zh5 y0 (fun r1 =>
       yz6 n a0 a1 (kz0.mk 0 (yz0.mk 0 (zz2.mk 0 0) false [] []) [] []))
       (fun e2 =>
       some (Res.pan (e2.1, ()))))
     (yz6 n a0 a1 (kz0.mk 0 (yz0.mk 0 (zz2.mk 0 0) false [] []) [] []))
def yz6 : Nat → Int → yz3 → kz0 → Option (Res (Int × Unit) (yz3 × kz0))
 | 0, _, _, _ => none
 | n + 1, a0, a1, a2 =>
   (kz7 n [40] a1).bind fun y3 =>
   pIf y3.1
     ((yzd n (IntKind.i64.wrap (a0 - 1)) y3.2).bind fun y4 =>
     zh5 y4 (fun r5 =>
       (yzc n [32] r5.1).bind fun y6 =>
       zh5 y6 (fun r7 =>
         zz7 n 3 a0 r7 a2.re r5.2.re)
         (fun e8 =>
         some (Res.pan (e8.1, ()))))
       (fun e9 =>
       some (Res.pan (e9.1, ()))))
     (z0h n a0 y3.2 a2.re)
def zz7 : Nat → Int → Int → yz3 → kz0 → kz0 → Option (Res (Int × Unit) (yz3 × kz0))
 | 0, _, _, _, _, _ => none
 | n + 1, a0, a1, a2, a3, a4 =>
   pIf (decide (a0 ≤ 10))
     ((z5s n a0).bind fun y10 =>
     (cat y10 [32]).bind fun x11 =>
     (kz7 n x11 a2).bind fun y12 =>
     pIf y12.1
       ((yzd n (IntKind.i64.wrap (a1 - 1)) y12.2).bind fun y13 =>
       zh5 y13 (fun r14 =>
         (yzc n [41] r14.1).bind fun y15 =>
         zh5 y15 (fun r16 =>
           some (Res.ok (r16, (kz0.mk a0 (yz0.mk 0 (zz2.mk 0 0) false [] []) [] [a4.re, r14.2.re]))))
           (fun e17 =>
           some (Res.pan (e17.1, ()))))
         (fun e18 =>
         some (Res.pan (e18.1, ()))))
       (zz7 n (IntKind.u8.wrap (a0 + 1)) a1 y12.2 a3.re a4.re))
     ((kzq n 12).bind fun y19 =>
     zh5 y19 (fun r20 =>
       z0h n a1 a2 a3.re)
       (fun e21 =>
       some (Res.pan (e21.1, ()))))
def z0h : Nat → Int → yz3 → kz0 → Option (Res (Int × Unit) (yz3 × kz0))
 | 0, _, _, _ => none
 | n + 1, a0, a1, a2 =>
   (kz7 n [91] a1).bind fun y22 =>
   pIf y22.1
     ((kza n (IntKind.i64.wrap (a0 - 1)) [93] y22.2).bind fun y23 =>
     zh5 y23 (fun r24 =>
       some (Res.ok (r24.2, (kz0.mk 18 (yz0.mk 0 (zz2.mk 0 0) false [] []) [] r24.1))))
       (fun e25 =>
       some (Res.pan (e25.1, ()))))
     (zzd n 0 a0 y22.2 a2.re)
def zzd : Nat → Int → Int → yz3 → kz0 → Option (Res (Int × Unit) (yz3 × kz0))
 | 0, _, _, _, _ => none
 | n + 1, a0, a1, a2, a3 =>
   pIf (decide (a0 < (a2.s.length : Int)))
     ((ix a2.s a0).bind fun x26 =>
     pIf (decide ((x26.toNat : Int) ≥ 97))
       ((ix a2.s a0).bind fun x27 =>
       pIf (decide ((x27.toNat : Int) ≤ 122))
         (zz5 n a1 a0 true a2 a3.re)
         (pIf (decide (a0 > 0))
           ((ix a2.s a0).bind fun x28 =>
           pIf ((x28.toNat : Int) == 45)
             (zz5 n a1 a0 true a2 a3.re)
             ((ix a2.s a0).bind fun x29 =>
             pIf (decide ((x29.toNat : Int) ≥ 48))
               ((ix a2.s a0).bind fun x30 =>
               zz5 n a1 a0 (decide ((x30.toNat : Int) ≤ 57)) a2 a3.re)
               (zz5 n a1 a0 false a2 a3.re)))
           (zz5 n a1 a0 false a2 a3.re)))
       (pIf (decide (a0 > 0))
         ((ix a2.s a0).bind fun x31 =>
         pIf ((x31.toNat : Int) == 45)
           (zz5 n a1 a0 true a2 a3.re)
           ((ix a2.s a0).bind fun x32 =>
           pIf (decide ((x32.toNat : Int) ≥ 48))
             ((ix a2.s a0).bind fun x33 =>
             zz5 n a1 a0 (decide ((x33.toNat : Int) ≤ 57)) a2 a3.re)
             (zz5 n a1 a0 false a2 a3.re)))
         (zz5 n a1 a0 false a2 a3.re)))
     (zz5 n a1 a0 false a2 a3.re)
def zz5 : Nat → Int → Int → Bool → yz3 → kz0 → Option (Res (Int × Unit) (yz3 × kz0))
 | 0, _, _, _, _, _ => none
 | n + 1, a0, a1, a2, a3, a4 =>
   pIf a2
     (zzd n (IntKind.i64.wrap (a1 + 1)) a0 a3 a4.re)
     ((sub a3.s 0 a1).bind fun x34 =>
     pIf (a1 == 0)
       ((zzx n a3).bind fun y35 =>
       zh5 y35 (fun r36 =>
         some (Res.ok (r36.1, r36.2.re)))
         (fun e37 =>
         some (Res.pan (e37.1, ()))))
       (pIf (x34 == [116, 114, 117, 101])
         (kzn n x34 a1 a0 true a3 a4.re)
         (kzn n x34 a1 a0 (x34 == [102, 97, 108, 115, 101]) a3 a4.re)))
def kzn : Nat → (List UInt8) → Int → Int → Bool → yz3 → kz0 → Option (Res (Int × Unit) (yz3 × kz0))
 | 0, _, _, _, _, _, _ => none
 | n + 1, a0, a1, a2, a3, a4, a5 =>
   pIf a3
     ((sub a4.s a1 (a4.s.length : Int)).bind fun x38 =>
     (z6v n (a0 == [116, 114, 117, 101])).bind fun y39 =>
     some (Res.ok ((yz3.mk x38), (kz0.mk 1 y39.re [] []))))
     ((sub a4.s a1 (a4.s.length : Int)).bind fun x40 =>
     (kz7 n [40] (yz3.mk x40)).bind fun y41 =>
     pIf (!y41.1)
       (some (Res.ok (y41.2, (kz0.mk 2 (yz0.mk 0 (zz2.mk 0 0) false [] []) a0 []))))
       ((kzd n [110, 111, 116, 32, 105, 102, 32, 109, 105, 110, 32, 109, 97, 120, 32, 102, 108, 111, 111, 114, 32, 108, 101, 110, 32, 97, 116]).bind fun y42 =>
       (kze n y42 a0).bind fun y43 =>
       pIf (decide (y43 < 0))
         ((kzq n 12).bind fun y44 =>
         zh5 y44 (fun r45 =>
           yzn n a2 y43 y41.2 a5.re)
           (fun e46 =>
           some (Res.pan (e46.1, ()))))
         (yzn n a2 y43 y41.2 a5.re)))
def yzn : Nat → Int → Int → yz3 → kz0 → Option (Res (Int × Unit) (yz3 × kz0))
 | 0, _, _, _, _ => none
 | n + 1, a0, a1, a2, a3 =>
   (kza n (IntKind.i64.wrap (a0 - 1)) [41] a2).bind fun y47 =>
   zh5 y47 (fun r48 =>
     some (Res.ok (r48.2, (kz0.mk (IntKind.u8.wrap (11 + (IntKind.u8.wrap a1))) (yz0.mk 0 (zz2.mk 0 0) false [] []) [] r48.1))))
     (fun e49 =>
     some (Res.pan (e49.1, ())))
def kza : Nat → Int → (List UInt8) → yz3 → Option (Res (Int × Unit) ((List kz0) × yz3))
 | 0, _, _, _ => none
 | n + 1, a0, a1, a2 =>
   (kz7 n a1 a2).bind fun y0 =>
   pIf y0.1
     (some (Res.ok ([], y0.2)))
     (kzf n a1 a0 y0.2 [])
def kzf : Nat → (List UInt8) → Int → yz3 → (List kz0) → Option (Res (Int × Unit) ((List kz0) × yz3))
 | 0, _, _, _, _ => none
 | n + 1, a0, a1, a2, a3 =>
   (yzd n a1 a2).bind fun y1 =>
   zh5 y1 (fun r2 =>
     (ext a3 [r2.2.re]).bind fun x3 =>
     (kz7 n a0 r2.1).bind fun y4 =>
     pIf y4.1
       (some (Res.ok (x3, y4.2)))
       ((yzc n [44, 32] y4.2).bind fun y5 =>
       zh5 y5 (fun r6 =>
         kzf n a0 a1 r6 x3)
         (fun e7 =>
         some (Res.pan (e7.1, ())))))
     (fun e8 =>
     some (Res.pan (e8.1, ())))
end
def zwo : LSh := ⟨[(4, (.ptr 1 0))], [(.st 6), (.st 4)], 1, 167⟩
noncomputable def z6j : FI dat := FI.ofP dat 73 167 1 [(.ptr 0 0), (.d (.int .i64))] [(.st 6)] [(.d (.st 4))] [(.st 6), (.st 4)] (.iface 31 (.d (.int .i64))) [(.cells [.any])] [] zwo (R := yz3 × kz0) (fun x => (x.1, x.2.1)) (fun r => (r.2, r.1, r.2, ())) (fun n x => yzd n x.1 x.2.1)
 (fun n => [(0, ⟨⟨[(4, (.ptr 1 0)), (0, (.ptr 0 0)), (1, (.d (.int .i64)))], [(.st 6), (.st 4)], 1, 167⟩, fun x => yz6 n x.1 x.2.1 x.2.2.1⟩), (1, ⟨⟨[(4, (.ptr 1 0)), (5, (.ptr 2 0)), (6, (.d (.int .u8))), (0, (.ptr 0 0)), (1, (.d (.int .i64)))], [(.st 6), (.st 4), (.st 4)], 1, 167⟩, fun x => zz7 n x.1 x.2.1 x.2.2.1 x.2.2.2.1 x.2.2.2.2.1⟩), (2, ⟨⟨[(4, (.ptr 1 0)), (1, (.d (.int .i64))), (0, (.ptr 0 0))], [(.st 6), (.st 4)], 1, 167⟩, fun x => z0h n x.1 x.2.1 x.2.2.1⟩), (3, ⟨⟨[(8, (.d (.int .i64))), (4, (.ptr 1 0)), (0, (.ptr 0 0)), (1, (.d (.int .i64)))], [(.st 6), (.st 4)], 1, 167⟩, fun x => zzd n x.1 x.2.1 x.2.2.1 x.2.2.2.1⟩), (4, ⟨⟨[(4, (.ptr 1 0)), (0, (.ptr 0 0)), (1, (.d (.int .i64))), (8, (.d (.int .i64))), (105, (.d .bool))], [(.st 6), (.st 4)], 1, 167⟩, fun x => zz5 n x.1 x.2.1 x.2.2.1 x.2.2.2.1 x.2.2.2.2.1⟩), (5, ⟨⟨[(4, (.ptr 1 0)), (9, (.d .str)), (8, (.d (.int .i64))), (0, (.ptr 0 0)), (1, (.d (.int .i64))), (119, (.d .bool))], [(.st 6), (.st 4)], 1, 167⟩, fun x => kzn n x.1 x.2.1 x.2.2.1 x.2.2.2.1 x.2.2.2.2.1 x.2.2.2.2.2.1⟩), (6, ⟨⟨[(4, (.ptr 1 0)), (1, (.d (.int .i64))), (0, (.ptr 0 0)), (10, (.d (.int .i64)))], [(.st 6), (.st 4)], 1, 167⟩, fun x => yzn n x.1 x.2.1 x.2.2.1 x.2.2.2.1⟩)]) (ann [(8, 0), (20, 1), (43, 2), (55, 3), (59, 4), (76, 5), (101, 6)] (Tryz.f73.body.getD .skip) 0).1
def zrd : LSh := ⟨[(6, (.d (.sl (.st 4))))], [(.st 6)], 1, 24⟩
noncomputable def zcc : FI dat := FI.ofP dat 102 24 1 [(.ptr 0 0), (.d (.int .i64)), (.d .str)] [(.st 6)] [(.d (.sl (.st 4)))] [(.st 6)] (.iface 31 (.d (.int .i64))) [(.cells [.any])] [] zrd (R := (List kz0) × yz3) (fun x => (x.1, x.2.1)) (fun r => (r.1, r.2, ())) (fun n x => kza n x.1 x.2.1 x.2.2.1)
 (fun n => [(0, ⟨⟨[(0, (.ptr 0 0)), (2, (.d .str)), (1, (.d (.int .i64))), (7, (.own 1))], [(.st 6), (.acc 29 (.st 4) true)], 1, 24⟩, fun x => kzf n x.1 x.2.1 x.2.2.1 x.2.2.2.1⟩)]) (ann [(13, 0)] (Tryz.f102.body.getD .skip) 0).1
noncomputable def zmc : List (FI dat) := [z6j, zcc] ++ [z2r, z4y, z8y, zcf, z6b, zfx, z3m, z1m]
theorem zwk : (z6j).Good Tryz.prog dat (tb zmc) := FI.zp2 (hD := zz3 _) Tryz.func73 Tryz.ntmps73 Tryz.call73 (by kernel_rfl) (of_decide_eq_true (by kernel_rfl)) (by kernel_rfl) (fun n => by kernel_rfl) trivial (fun x => by kernel_rfl) (fun _ => rfl) ⟨fun _ => rfl, fun _ => rfl, fun _ => rfl, fun _ => rfl, fun _ => rfl, fun _ => rfl, fun _ => rfl, trivial⟩
 (fun n => fun x => (yzd.eq_2 x.1 x.2.1 n).trans (by kernel_rfl))
 (fun n => ⟨fun x => (yz6.eq_2 x.1 x.2.1 x.2.2.1 n).trans (by kernel_rfl),
  fun x => (zz7.eq_2 x.1 x.2.1 x.2.2.1 x.2.2.2.1 x.2.2.2.2.1 n).trans (by kernel_rfl),
  fun x => (z0h.eq_2 x.1 x.2.1 x.2.2.1 n).trans (by kernel_rfl),
  fun x => (zzd.eq_2 x.1 x.2.1 x.2.2.1 x.2.2.2.1 n).trans (by kernel_rfl),
  fun x => (zz5.eq_2 x.1 x.2.1 x.2.2.1 x.2.2.2.1 x.2.2.2.2.1 n).trans (by kernel_rfl),
  fun x => (kzn.eq_2 x.1 x.2.1 x.2.2.1 x.2.2.2.1 x.2.2.2.2.1 x.2.2.2.2.2.1 n).trans (by kernel_rfl),
  fun x => (yzn.eq_2 x.1 x.2.1 x.2.2.1 x.2.2.2.1 n).trans (by kernel_rfl),
  trivial⟩)
 (fun x => by kernel_rfl)
theorem zrk : (zcc).Good Tryz.prog dat (tb zmc) := FI.zp2 (hD := zz3 _) Tryz.func102 Tryz.ntmps102 Tryz.call102 (by kernel_rfl) (of_decide_eq_true (by kernel_rfl)) (by kernel_rfl) (fun n => by kernel_rfl) trivial (fun x => by kernel_rfl) (fun _ => rfl) ⟨fun _ => rfl, trivial⟩
 (fun n => fun x => (kza.eq_2 x.1 x.2.1 x.2.2.1 n).trans (by kernel_rfl))
 (fun n => ⟨fun x => (kzf.eq_2 x.1 x.2.1 x.2.2.1 x.2.2.2.1 n).trans (by kernel_rfl),
  trivial⟩)
 (fun x => by kernel_rfl)
theorem zwu : OkL Tryz.prog [z6j, zcc] := z4p (zz3 _) (bs := [z2r, z4y, z8y, zcf, z6b, zfx, z3m, z1m]) ⟨zfo, zjs, zul, zy4, zq1, y8g, zc6, zio, trivial⟩ ⟨zwk, zrk, trivial⟩
theorem zub : FOk Tryz.prog z6j := zwu.1
def zfk (a0 : Int) : Option Int :=
  some a0
def ya4 : LSh := ⟨[], [(.cells [(.d (.int .i64))])], 1, 10⟩
noncomputable def zvk : zll dat := { f := 72, args := [(.ptr 0 0)], aos := [(.cells [(.d (.int .i64))])], m := none, ros := [(.cells [(.d (.int .i64))])], go := fun x mx => (zfk x.1 ).bind fun r => some (r, ()) }
theorem y3j : (zvk).Ok Tryz.prog := ykd (c := (ann [] (Tryz.f72.body.getD .skip) 0).1) (args := [(.ptr 0 0)]) (aos := [(.cells [(.d (.int .i64))])]) (ros := [(.cells [(.d (.int .i64))])]) (m := none) (l := ya4) (pack := fun x => x.1) (un := fun r => (r, ())) (go := fun x mx => zfk x.1 ) (by kernel_rfl) (zz3 _) Tryz.func72 (by kernel_rfl) Tryz.ntmps72 Tryz.call72 (Nat.le_of_ble_eq_true (by kernel_rfl)) (Nat.le_of_ble_eq_true (by kernel_rfl)) (Nat.le_of_ble_eq_true (by kernel_rfl)) (by kernel_rfl) (by kernel_rfl) (by kernel_rfl) (by kernel_rfl) (fun x => by kernel_rfl) (fun x mx => by kernel_rfl)
def zc2 (a0 : Int) (a1 : Int) : Option Int :=
  pIf (!false)
   (some a1)
   (some a0)
def y1k : LSh := ⟨[], [(.cells [(.d (.int .i64))])], 1, 10⟩
noncomputable def zov : zll dat := { f := 72, args := [(.ptr 0 0)], aos := [(.cells [(.d (.int .i64))])], m := (some (.iface 31 (.d (.int .i64)))), ros := [(.cells [(.d (.int .i64))])], go := fun x mx => (zc2 x.1 mx.1).bind fun r => some (r, ()) }
theorem zwz : (zov).Ok Tryz.prog := ykd (c := (ann [] (Tryz.f72.body.getD .skip) 0).1) (args := [(.ptr 0 0)]) (aos := [(.cells [(.d (.int .i64))])]) (ros := [(.cells [(.d (.int .i64))])]) (m := (some (.iface 31 (.d (.int .i64))))) (l := y1k) (pack := fun x => x.1) (un := fun r => (r, ())) (go := fun x mx => zc2 x.1 mx.1) (by kernel_rfl) (zz3 _) Tryz.func72 (by kernel_rfl) Tryz.ntmps72 Tryz.call72 (Nat.le_of_ble_eq_true (by kernel_rfl)) (Nat.le_of_ble_eq_true (by kernel_rfl)) (Nat.le_of_ble_eq_true (by kernel_rfl)) (by kernel_rfl) (by kernel_rfl) (by kernel_rfl) (by kernel_rfl) (fun x => by kernel_rfl) (fun x mx => by kernel_rfl)
def z2f : Nat → (List UInt8) → Option (kz0 × Int)
 | 0, _ => none
 | n + 1, a0 =>
   (yzd n 12 (yz3.mk a0)).bind fun y0 =>
   zh5 y0 (fun r1 =>
     pIf (!(r1.1.s == []))
       ((kzq n 12).bind fun y2 =>
       zh5 y2 (fun r3 =>
         (((zfk 0).bind fun r5 => some (r5, ()))).bind fun y4 =>
         some (r1.2.re, y4.1))
         (fun e6 =>
         (((zc2 0 e6.1).bind fun r8 => some (r8, ()))).bind fun y7 =>
         some (r1.2.re, y7.1)))
       ((((zfk 0).bind fun r10 => some (r10, ()))).bind fun y9 =>
       some (r1.2.re, y9.1)))
     (fun e11 =>
     (((zc2 0 e11.1).bind fun r13 => some (r13, ()))).bind fun y12 =>
     some ((kz0.mk 0 (yz0.mk 0 (zz2.mk 0 0) false [] []) [] []), y12.1))
def yj3 : LSh := ⟨[(2, (.ptr 0 0)), (3, (.ptr 1 0))], [(.st 4), (.cells [(.d (.int .i64))])], 0, 17⟩
noncomputable def zcj : FI dat := FI.ofD dat 42 17 0 [(.d .str)] [] [(.d (.st 4)), (.d (.int .i64))] [(.st 4), (.cells [(.d (.int .i64))])] [zvk, zov] yj3 (R := kz0 × Int) (fun x => (x.1, x.2.1)) (fun r => (r.1, r.2, r.1, r.2, ())) (fun n x => z2f n x.1)
 (fun n => []) (ann [] (Tryz.f42.body.getD .skip) 0).1
noncomputable def yjf : List (FI dat) := [z6j, z2r]
theorem yi0 : (zcj).Good Tryz.prog dat (tb yjf) := FI.ysj (hD := zz3 _) Tryz.func42 Tryz.ntmps42 Tryz.call42 (by kernel_rfl) (of_decide_eq_true (by kernel_rfl)) (by kernel_rfl) (fun n => by kernel_rfl) ⟨y3j, zwz, trivial⟩ (fun x => by kernel_rfl) (fun _ => rfl) trivial
 (fun n => fun x => (z2f.eq_2 x.1 n).trans (by kernel_rfl))
 (fun n => trivial)
 (fun x => by kernel_rfl)
theorem yhg : OkL Tryz.prog [zcj] := yze (zz3 _) (bs := [z6j, z2r]) ⟨zub, zfo, trivial⟩ yi0
theorem zxj : FOk Tryz.prog zcj := yhg.1
end Go.Proofs.YtfhpamcehnfhoaaGreatDoor


namespace Go.Proofs.YtfhpamcehnfhoaaGreatDoor
open Go Go.Ab
set_option linter.unusedVariables false
set_option maxRecDepth 100000
mutual
def z08 : Nat → (List UInt8) → Option (Int × kz0)
 | 0, _ => none
 | n + 1, a0 =>
   pIf (decide ((a0.length : Int) > 4000))
     (some (12, (kz0.mk 0 (yz0.mk 0 (zz2.mk 0 0) false [] []) [] [])))
     ((z2f n a0).bind fun y0 =>
     pIf (y0.2 != 0)
       (yzj n true (kz0.mk 0 (yz0.mk 0 (zz2.mk 0 0) false [] []) [] []) y0.1.re)
       ((z2y n y0.1.re).bind fun y1 =>
       yzj n (y1 != 0) (kz0.mk 0 (yz0.mk 0 (zz2.mk 0 0) false [] []) [] []) y0.1.re))
def yzj : Nat → Bool → kz0 → kz0 → Option (Int × kz0)
 | 0, _, _, _ => none
 | n + 1, a0, a1, a2 =>
   pIf a0
     (some (12, (kz0.mk 0 (yz0.mk 0 (zz2.mk 0 0) false [] []) [] [])))
     (some (0, a2.re))
end
def zpf : LSh := ⟨[(2, (.ptr 0 0)), (3, (.d (.int .i64)))], [(.st 4)], 0, 24⟩
noncomputable def z5z : FI dat := FI.of dat 13 24 0 [(.d .str)] [] [(.d (.st 4)), (.d (.int .i64))] [] true zpf (R := Int × kz0) (fun x => (x.1, x.2.1)) (fun r => (r.2, r.1, ())) (fun n x => z08 n x.1)
 (fun n => [(0, ⟨⟨[(2, (.ptr 0 0)), (4, (.ptr 1 0)), (21, (.d .bool))], [(.st 4), (.st 4)], 0, 24⟩, fun x => yzj n x.1 x.2.1 x.2.2.1⟩)]) (ann [(15, 0)] (Tryz.f13.body.getD .skip) 0).1
noncomputable def zpy : List (FI dat) := [zcj, z8b]
theorem zpe : (z5z).Good Tryz.prog dat (tb zpy) := FI.yz5 (hD := zz3 _) Tryz.func13 Tryz.ntmps13 Tryz.call13 (by kernel_rfl) (of_decide_eq_true (by kernel_rfl)) (by kernel_rfl) (fun n => by kernel_rfl) (fun x => by kernel_rfl) (fun _ => rfl) ⟨fun _ => rfl, trivial⟩
 (fun n => fun x => (z08.eq_2 x.1 n).trans (by kernel_rfl))
 (fun n => ⟨fun x => (yzj.eq_2 x.1 x.2.1 x.2.2.1 n).trans (by kernel_rfl),
  trivial⟩)
 (fun x => .inl rfl)
theorem zpn : OkL Tryz.prog [z5z] := yze (zz3 _) (bs := [zcj, z8b]) ⟨zxj, zo2, trivial⟩ zpe
theorem znc : FOk Tryz.prog z5z := zpn.1
end Go.Proofs.YtfhpamcehnfhoaaGreatDoor


namespace Go.Proofs.YtfhpamcehnfhoaaGreatDoor
open Go Go.Ab
set_option linter.unusedVariables false
set_option maxRecDepth 100000
end Go.Proofs.YtfhpamcehnfhoaaGreatDoor


namespace Go.Proofs.YtfhpamcehnfhoaaGreatDoor
open Go Go.Ab
set_option linter.unusedVariables false
set_option maxRecDepth 100000
mutual
def z6z : Nat → kz0 → kz0 → Option Bool
 | 0, _, _ => none
 | n + 1, a0, a1 =>
   pIf (a0.op != a1.op)
     (kzz n true a1.re a0.re)
     (pIf (!(a0.name == a1.name))
       (kzz n true a1.re a0.re)
       ((z19 n a0.value.re a1.value.re).bind fun y0 =>
       pIf (!y0)
         (kzz n true a1.re a0.re)
         (kzz n ((a0.args.length : Int) != (a1.args.length : Int)) a1.re a0.re)))
def kzz : Nat → Bool → kz0 → kz0 → Option Bool
 | 0, _, _, _ => none
 | n + 1, a0, a1, a2 =>
   pIf a0
     (some false)
     (z1y n 0 a1.re a2.re)
def z1y : Nat → Int → kz0 → kz0 → Option Bool
 | 0, _, _, _ => none
 | n + 1, a0, a1, a2 =>
   pIf (decide (a0 < (a2.args.length : Int)))
     ((ix a2.args a0).bind fun x1 =>
     (ix a1.args a0).bind fun x2 =>
     (z6z n x1.re x2.re).bind fun y3 =>
     pIf (!y3)
       (some false)
       (z1y n (IntKind.i64.wrap (a0 + 1)) a1.re a2.re))
     (some true)
end
def z26 : Nat → kz0 → Option Bool
 | 0, _ => none
 | n + 1, a0 =>
   (z5t n a0.re).bind fun y0 =>
   pIf (!y0)
     ((z1p n a0.re).bind fun y1 =>
     some (y1 == 0))
     (some false)
def zsn : LSh := ⟨[(2, (.d .bool))], [], 0, 11⟩
noncomputable def z7n : FI dat := FI.of dat 27 11 0 [(.d (.st 4))] [] [(.d .bool)] [] true zsn (R := Bool) (fun x => x.1) (fun r => (r, ())) (fun n x => z26 n x.1)
 (fun n => []) (ann [] (Tryz.f27.body.getD .skip) 0).1
noncomputable def zrr : List (FI dat) := [z9v, z78]
theorem zrl : (z7n).Good Tryz.prog dat (tb zrr) := FI.yz5 (hD := zz3 _) Tryz.func27 Tryz.ntmps27 Tryz.call27 (by kernel_rfl) (of_decide_eq_true (by kernel_rfl)) (by kernel_rfl) (fun n => by kernel_rfl) (fun x => by kernel_rfl) (fun _ => rfl) trivial
 (fun n => fun x => (z26.eq_2 x.1 n).trans (by kernel_rfl))
 (fun n => trivial)
 (fun x => .inl rfl)
theorem zt1 : OkL Tryz.prog [z7n] := yze (zz3 _) (bs := [z9v, z78]) ⟨zrt, zkx, trivial⟩ zrl
theorem zrb : FOk Tryz.prog z7n := zt1.1
mutual
def zba : Nat → kz0 → kz0 → Option Bool
 | 0, _, _ => none
 | n + 1, a0, a1 =>
   pIf (a0.op == a1.op)
     (pIf (a0.name == a1.name)
       ((z1v n a0.value.re a1.value.re).bind fun y0 =>
       pIf y0
         ((zz9 n a0.args a1.args).bind fun y1 =>
         some y1)
         (some false))
       (some false))
     (some false)
def zz9 : Nat → (List kz0) → (List kz0) → Option Bool
 | 0, _, _ => none
 | n + 1, a0, a1 =>
   pIf ((a0.length : Int) != (a1.length : Int))
     (some false)
     (zz6 n 0 a1 a0 (a0.length : Int))
def zz6 : Nat → Int → (List kz0) → (List kz0) → Int → Option Bool
 | 0, _, _, _, _ => none
 | n + 1, a0, a1, a2, a3 =>
   pIf (decide (a0 < a3))
     ((ix a2 a0).bind fun x0 =>
     (ix a1 a0).bind fun x1 =>
     (zba n x0.re x1.re).bind fun y2 =>
     pIf (!y2)
       (some false)
       (zz6 n (IntKind.i64.wrap (a0 + 1)) a1 a2 a3))
     (some true)
end
def yij : LSh := ⟨[(4, (.d .bool))], [], 0, 31⟩
noncomputable def zf2 : FI dat := FI.of dat 30 31 0 [(.d (.st 4)), (.d (.st 4))] [] [(.d .bool)] [] true yij (R := Bool) (fun x => x.1) (fun r => (r, ())) (fun n x => zba n x.1 x.2.1)
 (fun n => []) (ann [] (Tryz.f30.body.getD .skip) 0).1
def z7z : LSh := ⟨[(6, (.d .bool))], [], 0, 32⟩
noncomputable def yzs : FI dat := FI.of dat 57 32 0 [(.d (.sl (.st 4))), (.d (.sl (.st 4))), (.fn 30 [] [])] [] [(.d .bool)] [] true z7z (R := Bool) (fun x => x.1) (fun r => (r, ())) (fun n x => zz9 n x.1 x.2.1)
 (fun n => [(0, ⟨⟨[(17, (.d (.int .i64))), (2, (.fn 30 [] [])), (1, (.d (.sl (.st 4)))), (15, (.d (.sl (.st 4)))), (16, (.d (.int .i64)))], [], 0, 32⟩, fun x => zz6 n x.1 x.2.1 x.2.2.1 x.2.2.2.1⟩)]) (ann [(14, 0)] (Tryz.f57.body.getD .skip) 0).1
noncomputable def y2m : List (FI dat) := [zf2, yzs] ++ [z9t]
theorem yik : (zf2).Good Tryz.prog dat (tb y2m) := FI.yz5 (hD := zz3 _) Tryz.func30 Tryz.ntmps30 Tryz.call30 (by kernel_rfl) (of_decide_eq_true (by kernel_rfl)) (by kernel_rfl) (fun n => by kernel_rfl) (fun x => by kernel_rfl) (fun _ => rfl) trivial
 (fun n => fun x => (zba.eq_2 x.1 x.2.1 n).trans (by kernel_rfl))
 (fun n => trivial)
 (fun x => .inl rfl)
theorem z81 : (yzs).Good Tryz.prog dat (tb y2m) := FI.yz5 (hD := zz3 _) Tryz.func57 Tryz.ntmps57 Tryz.call57 (by kernel_rfl) (of_decide_eq_true (by kernel_rfl)) (by kernel_rfl) (fun n => by kernel_rfl) (fun x => by kernel_rfl) (fun _ => rfl) ⟨fun _ => rfl, trivial⟩
 (fun n => fun x => (zz9.eq_2 x.1 x.2.1 n).trans (by kernel_rfl))
 (fun n => ⟨fun x => (zz6.eq_2 x.1 x.2.1 x.2.2.1 x.2.2.2.1 n).trans (by kernel_rfl),
  trivial⟩)
 (fun x => .inl rfl)
theorem yi4 : OkL Tryz.prog [zf2, yzs] := z4p (zz3 _) (bs := [z9t]) ⟨zv6, trivial⟩ ⟨yik, z81, trivial⟩
theorem ygn : FOk Tryz.prog zf2 := yi4.1
def kzx : Nat → kz0 → Option Bool
 | 0, _ => none
 | n + 1, a0 =>
   (z26 n a0.re).bind fun y0 =>
   pIf (!y0)
     ((z4e n ).bind fun y1 =>
     some y1)
     ((z6u n a0.re).bind fun y2 =>
     pIf (y2.2 != 0)
       (pIf (y2.2 == 4)
         ((z4e n ).bind fun y3 =>
         some y3)
         (some false))
       ((z08 n y2.1).bind fun y4 =>
       pIf (y4.1 == 0)
         ((zba n a0.re y4.2.re).bind fun y5 =>
         pIf y5
           ((z4e n ).bind fun y6 =>
           some y6)
           (some false))
         (some false)))
def zox : LSh := ⟨[(2, (.d .bool))], [], 0, 38⟩
noncomputable def zas : FI dat := FI.of dat 6 38 0 [(.d (.st 4))] [] [(.d .bool)] [] true zox (R := Bool) (fun x => x.1) (fun r => (r, ())) (fun n x => kzx n x.1)
 (fun n => []) (ann [] (Tryz.f6.body.getD .skip) 0).1
noncomputable def zon : List (FI dat) := [z7n, zca, zcq, z5z, zf2]
theorem zou : (zas).Good Tryz.prog dat (tb zon) := FI.yz5 (hD := zz3 _) Tryz.func6 Tryz.ntmps6 Tryz.call6 (by kernel_rfl) (of_decide_eq_true (by kernel_rfl)) (by kernel_rfl) (fun n => by kernel_rfl) (fun x => by kernel_rfl) (fun _ => rfl) trivial
 (fun n => fun x => (kzx.eq_2 x.1 n).trans (by kernel_rfl))
 (fun n => trivial)
 (fun x => .inl rfl)
theorem zoe : OkL Tryz.prog [zas] := yze (zz3 _) (bs := [z7n, zca, zcq, z5z, zf2]) ⟨zrb, zr3, zxb, znc, ygn, trivial⟩ zou
theorem znb : FOk Tryz.prog zas := zoe.1
theorem znd (a0 : kz0) : VRL dat [] 0 [dat.tv (.st 4) a0] [dat.el (.st 4) a0] := by
 simp only [VRL]
 exact ⟨_, _, rfl, VR.tv (zz3 Tryz.prog) (DR.el _ _), rfl⟩
theorem zk3 (n : Nat) (a0 : kz0) (r : Bool) (h : kzx n a0 = some r) : zj2 Tryz.prog 6 [dat.el (.st 4) a0] (.bool r) := by
 obtain ⟨y, h1, _, _, _, h2⟩ := znb n _ (a0, ()) (fun y => some y.1) (fun _ => none) r (by show (kzx n a0).bind (fun r => some r) = some r; rw [h]; rfl)
 obtain ⟨vs, k1, k2⟩ := h2 0 [dat.el (.st 4) a0] (znd a0)
 injection h1 with h1
 subst h1
 have := k1 [] 0
 replace this : VRL dat [] 0 [TV.bool y.1] vs := this
 simp only [VRL, VR] at this
 obtain ⟨v, r, rfl, rfl, rfl⟩ := this
 exact k2
end Go.Proofs.YtfhpamcehnfhoaaGreatDoor


namespace Go.Proofs.Tryz
open Go Go.Ab
set_option linter.unusedSimpArgs false
@[simp] theorem zy0 : Program.cellsOf Tryz.prog 2 = 1 := by kernel_rfl
@[simp] theorem yip : Program.cellsOf Tryz.prog 4 = 1 := by kernel_rfl
@[simp] theorem zx8 : Program.cellsOf Tryz.prog 5 = 1 := by kernel_rfl
@[simp] theorem zy3 : Program.cellsOf Tryz.prog 9 = 1 := by kernel_rfl
@[simp] theorem ztf : Program.cellsOf Tryz.prog 23 = 2 := by kernel_rfl
@[simp] theorem ybs : Program.cellsOf Tryz.prog 24 = 1 := by kernel_rfl
@[simp] theorem zks : Program.cellsOf Tryz.prog 26 = 6 := by kernel_rfl
@[simp] theorem ybq : Program.cellsOf Tryz.prog 27 = 1 := by kernel_rfl
@[simp] theorem ztm : Program.cellsOf Tryz.prog 29 = 9 := by kernel_rfl
end Go.Proofs.Tryz


namespace Go.Proofs.Tryz
open Go Go.Ab
set_option linter.unusedSimpArgs false
theorem ydw (n : Nat) : Reads Tryz.prog n 23 zz2.ty := (zb0 Tryz.underlying23 ztf (fun m hm => (zzp rfl zy0 (zdg Tryz.underlying2 m) (zzp rfl zy0 (zdg Tryz.underlying2 m) zer)))).conv (fun x => (⟨x.1, x.2.1⟩ : zz2)) (fun x => by show zz2.el _ = _; rw [zz2.yzt]; simp [Ty.struct, Ty.pair, Ty.unit, Ty.int, Ty.bool, Ty.str, Ty.slice, V.cells, zz2.ty, zz2.yzt, yz0.ty, yz0.yzt, kz0.ty, kz0.yzt, zzw.ty, zzw.yzt]) rfl (fun x h => by simp only [zz2.ty]; rw [zz2.z99]; simp only [Ty.struct, Ty.pair, Ty.unit, Ty.int, Ty.bool, Ty.str, Ty.slice, zz2.ty, yz0.ty, kz0.ty, zzw.ty] at h ⊢; simpa using h) (fun x => by simp only [Ty.struct, Ty.pair, Ty.unit, Ty.int, Ty.bool, Ty.str, Ty.slice, zz2.ty, yz0.ty, kz0.ty, zzw.ty]; rw [zz2.size_eq]; (try dsimp only); omega)
theorem yek : ∀ n, Reads Tryz.prog n 26 yz0.ty := fun n => by
 induction n using Nat.strongRecOn with
 | ind n ih => exact (zb0 Tryz.underlying26 zks (fun m hm => (zzp rfl zx8 (zdg Tryz.underlying5 m) (zzp rfl ztf (ydw m) (zzp rfl yip (zvy Tryz.underlying4 m) (zzp rfl zy3 (zkm Tryz.underlying9 m) (zzp rfl ybs (zj7 Tryz.underlying24 zks (by decide) (fun k hk => (ih k (by omega)))) zer))))))).conv (fun x => (⟨x.1, x.2.1, x.2.2.1, x.2.2.2.1, x.2.2.2.2.1⟩ : yz0)) (fun x => by show yz0.el _ = _; rw [yz0.yzt]; simp [Ty.struct, Ty.pair, Ty.unit, Ty.int, Ty.bool, Ty.str, Ty.slice, V.cells, zz2.ty, zz2.yzt, yz0.ty, yz0.yzt, kz0.ty, kz0.yzt, zzw.ty, zzw.yzt]) rfl (fun x h => by simp only [yz0.ty]; rw [yz0.z99]; simp only [Ty.struct, Ty.pair, Ty.unit, Ty.int, Ty.bool, Ty.str, Ty.slice, zz2.ty, yz0.ty, kz0.ty, zzw.ty] at h ⊢; simpa using h) (fun x => by simp only [Ty.struct, Ty.pair, Ty.unit, Ty.int, Ty.bool, Ty.str, Ty.slice, zz2.ty, yz0.ty, kz0.ty, zzw.ty]; rw [yz0.size_eq]; (try dsimp only); omega)
theorem yf5 : ∀ n, Reads Tryz.prog n 29 kz0.ty := fun n => by
 induction n using Nat.strongRecOn with
 | ind n ih => exact (zb0 Tryz.underlying29 ztm (fun m hm => (zzp rfl zx8 (zdg Tryz.underlying5 m) (zzp rfl zks (yek m) (zzp rfl zy3 (zkm Tryz.underlying9 m) (zzp rfl ybq (zj7 Tryz.underlying27 ztm (by decide) (fun k hk => (ih k (by omega)))) zer)))))).conv (fun x => (⟨x.1, x.2.1, x.2.2.1, x.2.2.2.1⟩ : kz0)) (fun x => by show kz0.el _ = _; rw [kz0.yzt]; simp [Ty.struct, Ty.pair, Ty.unit, Ty.int, Ty.bool, Ty.str, Ty.slice, V.cells, zz2.ty, zz2.yzt, yz0.ty, yz0.yzt, kz0.ty, kz0.yzt, zzw.ty, zzw.yzt]) rfl (fun x h => by simp only [kz0.ty]; rw [kz0.z99]; simp only [Ty.struct, Ty.pair, Ty.unit, Ty.int, Ty.bool, Ty.str, Ty.slice, zz2.ty, yz0.ty, kz0.ty, zzw.ty] at h ⊢; simpa using h) (fun x => by simp only [Ty.struct, Ty.pair, Ty.unit, Ty.int, Ty.bool, Ty.str, Ty.slice, zz2.ty, yz0.ty, kz0.ty, zzw.ty]; rw [kz0.size_eq]; (try dsimp only); omega)
theorem ysn : y4u Tryz.prog 29 kz0.ty := zw3 Tryz.underlying29 yf5 kz0.zse
end Go.Proofs.Tryz


namespace Go.Proofs.YtfhpamcehnfhoaaGreatDoor
open Go Go.Ab
set_option linter.unusedVariables false
theorem znq {r} (a0) : type_of% (evS (fun n => kzx n a0) r fun n => kzx.eq_2 a0 n) := evS _ _ fun _ => rfl
theorem zky {r} (a0) : type_of% (evS (fun n => z5t n a0) r fun n => z5t.eq_2 a0 n) := evS _ _ fun _ => rfl
theorem zpq {r} (a0) : type_of% (evS (fun n => z6u n a0) r fun n => z6u.eq_2 a0 n) := evS _ _ fun _ => rfl
theorem z8j {r} (a0) : type_of% (evS (fun n => z08 n a0) r fun n => z08.eq_2 a0 n) := evS _ _ fun _ => rfl
theorem zam {r} (a0 a1 a2) : type_of% (evS (fun n => yzj n a0 a1 a2) r fun n => yzj.eq_2 a0 a1 a2 n) := evS _ _ fun _ => rfl
theorem zbx {r} (a0) : type_of% (evS (fun n => z26 n a0) r fun n => z26.eq_2 a0 n) := evS _ _ fun _ => rfl
theorem yfp {r} (a0 a1) : type_of% (evS (fun n => zba n a0 a1) r fun n => zba.eq_2 a0 a1 n) := evS _ _ fun _ => rfl
theorem zt7 {r} (a0 a1) : type_of% (evS (fun n => z61 n a0 a1) r fun n => z61.eq_2 a0 a1 n) := evS _ _ fun _ => rfl
theorem zgk {r} (a0 a1 a2) : type_of% (evS (fun n => z0j n a0 a1 a2) r fun n => z0j.eq_2 a0 a1 a2 n) := evS _ _ fun _ => rfl
theorem zg3 {r} (a0 a1 a2) : type_of% (evS (fun n => z2l n a0 a1 a2) r fun n => z2l.eq_2 a0 a1 a2 n) := evS _ _ fun _ => rfl
theorem zrw {r} (a0) : type_of% (evS (fun n => z4h n a0) r fun n => z4h.eq_2 a0 n) := evS _ _ fun _ => rfl
theorem zgn {r} (a0 a1 a2) : type_of% (evS (fun n => z2b n a0 a1 a2) r fun n => z2b.eq_2 a0 a1 a2 n) := evS _ _ fun _ => rfl
theorem zv9 {r} (a0) : type_of% (evS (fun n => z2y n a0) r fun n => z2y.eq_2 a0 n) := evS _ _ fun _ => rfl
theorem zoo {r} (a0 a1) : type_of% (evS (fun n => z3d n a0 a1) r fun n => z3d.eq_2 a0 a1 n) := evS _ _ fun _ => rfl
theorem zns {r} (a0 a1) : type_of% (evS (fun n => z5i n a0 a1) r fun n => z5i.eq_2 a0 a1 n) := evS _ _ fun _ => rfl
theorem zi0 {r} (a0 a1 a2 a3 a4) : type_of% (evS (fun n => z11 n a0 a1 a2 a3 a4) r fun n => z11.eq_2 a0 a1 a2 a3 a4 n) := evS _ _ fun _ => rfl
theorem zaj {r} (a0 a1 a2 a3 a4 a5) : type_of% (evS (fun n => z22 n a0 a1 a2 a3 a4 a5) r fun n => z22.eq_2 a0 a1 a2 a3 a4 a5 n) := evS _ _ fun _ => rfl
theorem zhf {r} (a0 a1 a2 a3 a4 a5 a6) : type_of% (evS (fun n => z1w n a0 a1 a2 a3 a4 a5 a6) r fun n => z1w.eq_2 a0 a1 a2 a3 a4 a5 a6 n) := evS _ _ fun _ => rfl
theorem zbe {r} (a0) : type_of% (evS (fun n => zzo n a0) r fun n => zzo.eq_2 a0 n) := evS _ _ fun _ => rfl
theorem zsh {r} (a0) : type_of% (evS (fun n => z1p n a0) r fun n => z1p.eq_2 a0 n) := evS _ _ fun _ => rfl
theorem zn9 {r} (a0 a1) : type_of% (evS (fun n => z2i n a0 a1) r fun n => z2i.eq_2 a0 a1 n) := evS _ _ fun _ => rfl
theorem zb1 {r} (a0) : type_of% (evS (fun n => z2f n a0) r fun n => z2f.eq_2 a0 n) := evS _ _ fun _ => rfl
theorem zvd {r} (a0 a1) : type_of% (evS (fun n => z19 n a0 a1) r fun n => z19.eq_2 a0 a1 n) := evS _ _ fun _ => rfl
theorem zhj {r} (a0 a1 a2) : type_of% (evS (fun n => z0a n a0 a1 a2) r fun n => z0a.eq_2 a0 a1 a2 n) := evS _ _ fun _ => rfl
theorem zh7 {r} (a0 a1 a2) : type_of% (evS (fun n => z3i n a0 a1 a2) r fun n => z3i.eq_2 a0 a1 a2 n) := evS _ _ fun _ => rfl
theorem zvs {r} (a0 a1) : type_of% (evS (fun n => z1v n a0 a1) r fun n => z1v.eq_2 a0 a1 n) := evS _ _ fun _ => rfl
theorem zi5 {r} (a0 a1 a2) : type_of% (evS (fun n => z0b n a0 a1 a2) r fun n => z0b.eq_2 a0 a1 a2 n) := evS _ _ fun _ => rfl
theorem zgy {r} (a0 a1 a2 a3) : type_of% (evS (fun n => z3q n a0 a1 a2 a3) r fun n => z3q.eq_2 a0 a1 a2 a3 n) := evS _ _ fun _ => rfl
theorem z7o {r} (a0 a1) : type_of% (evS (fun n => zz9 n a0 a1) r fun n => zz9.eq_2 a0 a1 n) := evS _ _ fun _ => rfl
theorem z0w {r} (a0 a1 a2 a3) : type_of% (evS (fun n => zz6 n a0 a1 a2 a3) r fun n => zz6.eq_2 a0 a1 a2 a3 n) := evS _ _ fun _ => rfl
theorem zlp {r} (a0) : type_of% (evS (fun n => z7f n a0) r fun n => z7f.eq_2 a0 n) := evS _ _ fun _ => rfl
theorem zqs {r} (a0) : type_of% (evS (fun n => z4r n a0) r fun n => z4r.eq_2 a0 n) := evS _ _ fun _ => rfl
theorem zep {r} (a0 a1 a2 a3 a4) : type_of% (evS (fun n => z1h n a0 a1 a2 a3 a4) r fun n => z1h.eq_2 a0 a1 a2 a3 a4 n) := evS _ _ fun _ => rfl
theorem zym {r} (a0) : type_of% (evS (fun n => z8a n a0) r fun n => z8a.eq_2 a0 n) := evS _ _ fun _ => rfl
theorem zqj {r} (a0 a1) : type_of% (evS (fun n => z2v n a0 a1) r fun n => z2v.eq_2 a0 a1 n) := evS _ _ fun _ => rfl
theorem zqt {r} (a0 a1) : type_of% (evS (fun n => z2u n a0 a1) r fun n => z2u.eq_2 a0 a1 n) := evS _ _ fun _ => rfl
theorem zqk {r} (a0 a1) : type_of% (evS (fun n => z4w n a0 a1) r fun n => z4w.eq_2 a0 a1 n) := evS _ _ fun _ => rfl
theorem zqo {r} (a0 a1) : type_of% (evS (fun n => z4x n a0 a1) r fun n => z4x.eq_2 a0 a1 n) := evS _ _ fun _ => rfl
theorem zqu {r} (a0) : type_of% (evS (fun n => z2x n a0) r fun n => z2x.eq_2 a0 n) := evS _ _ fun _ => rfl
theorem znw {r} (a0) : type_of% (evS (fun n => z79 n a0) r fun n => z79.eq_2 a0 n) := evS _ _ fun _ => rfl
theorem z6f {r} (a0 a1) : type_of% (evS (fun n => kz4 n a0 a1) r fun n => kz4.eq_2 a0 a1 n) := evS _ _ fun _ => rfl
theorem zpw {r} (a0) : type_of% (evS (fun n => z5s n a0) r fun n => z5s.eq_2 a0 n) := evS _ _ fun _ => rfl
theorem zjo {r} (a0 a1) : type_of% (evS (fun n => z2w n a0 a1) r fun n => z2w.eq_2 a0 a1 n) := evS _ _ fun _ => rfl
theorem zvo {r} (a0) : type_of% (evS (fun n => z6q n a0) r fun n => z6q.eq_2 a0 n) := evS _ _ fun _ => rfl
theorem zhk {r} (a0 a1 a2) : type_of% (evS (fun n => z3g n a0 a1 a2) r fun n => z3g.eq_2 a0 a1 a2 n) := evS _ _ fun _ => rfl
theorem zve {r} (a0) : type_of% (evS (fun n => z6p n a0) r fun n => z6p.eq_2 a0 n) := evS _ _ fun _ => rfl
theorem zof {r} (a0 a1) : type_of% (evS (fun n => z1z n a0 a1) r fun n => z1z.eq_2 a0 a1 n) := evS _ _ fun _ => rfl
theorem zp6 {r} (a0 a1) : type_of% (evS (fun n => z01 n a0 a1) r fun n => z01.eq_2 a0 a1 n) := evS _ _ fun _ => rfl
theorem zoc {r} (a0 a1) : type_of% (evS (fun n => z0g n a0 a1) r fun n => z0g.eq_2 a0 a1 n) := evS _ _ fun _ => rfl
theorem zhm {r} (a0 a1) : type_of% (evS (fun n => z3j n a0 a1) r fun n => z3j.eq_2 a0 a1 n) := evS _ _ fun _ => rfl
theorem za9 {r} (a0 a1) : type_of% (evS (fun n => yzd n a0 a1) r fun n => yzd.eq_2 a0 a1 n) := evS _ _ fun _ => rfl
theorem z0o {r} (a0 a1 a2) : type_of% (evS (fun n => yz6 n a0 a1 a2) r fun n => yz6.eq_2 a0 a1 a2 n) := evS _ _ fun _ => rfl
theorem z38 {r} (a0 a1 a2 a3 a4) : type_of% (evS (fun n => zz7 n a0 a1 a2 a3 a4) r fun n => zz7.eq_2 a0 a1 a2 a3 a4 n) := evS _ _ fun _ => rfl
theorem z5l {r} (a0 a1 a2) : type_of% (evS (fun n => z0h n a0 a1 a2) r fun n => z0h.eq_2 a0 a1 a2 n) := evS _ _ fun _ => rfl
theorem z1f {r} (a0 a1 a2 a3) : type_of% (evS (fun n => zzd n a0 a1 a2 a3) r fun n => zzd.eq_2 a0 a1 a2 a3 n) := evS _ _ fun _ => rfl
theorem yzw {r} (a0 a1 a2 a3 a4) : type_of% (evS (fun n => zz5 n a0 a1 a2 a3 a4) r fun n => zz5.eq_2 a0 a1 a2 a3 a4 n) := evS _ _ fun _ => rfl
theorem kzw {r} (a0 a1 a2 a3 a4 a5) : type_of% (evS (fun n => kzn n a0 a1 a2 a3 a4 a5) r fun n => kzn.eq_2 a0 a1 a2 a3 a4 a5 n) := evS _ _ fun _ => rfl
theorem zb2 {r} (a0 a1 a2 a3) : type_of% (evS (fun n => yzn n a0 a1 a2 a3) r fun n => yzn.eq_2 a0 a1 a2 a3 n) := evS _ _ fun _ => rfl
theorem zg1 {r} (a0) : type_of% (evS (fun n => kzq n a0) r fun n => kzq.eq_2 a0 n) := evS _ _ fun _ => rfl
theorem zrq {r} (a0 a1) : type_of% (evS (fun n => z5w n a0 a1) r fun n => z5w.eq_2 a0 a1 n) := evS _ _ fun _ => rfl
theorem zg6 {r} (a0 a1 a2) : type_of% (evS (fun n => z18 n a0 a1 a2) r fun n => z18.eq_2 a0 a1 a2 n) := evS _ _ fun _ => rfl
theorem zg2 {r} (a0 a1 a2) : type_of% (evS (fun n => z2g n a0 a1 a2) r fun n => z2g.eq_2 a0 a1 a2 n) := evS _ _ fun _ => rfl
theorem zsv {r} (a0) : type_of% (evS (fun n => z4l n a0) r fun n => z4l.eq_2 a0 n) := evS _ _ fun _ => rfl
theorem zc5 {r} (a0 a1 a2) : type_of% (evS (fun n => z2c n a0 a1 a2) r fun n => z2c.eq_2 a0 a1 a2 n) := evS _ _ fun _ => rfl
theorem zby {r} (a0 a1 a2 a3) : type_of% (evS (fun n => z2d n a0 a1 a2 a3) r fun n => z2d.eq_2 a0 a1 a2 a3 n) := evS _ _ fun _ => rfl
theorem zo3 {r} (a0) : type_of% (evS (fun n => z8m n a0) r fun n => z8m.eq_2 a0 n) := evS _ _ fun _ => rfl
theorem zhl {r} (a0 a1 a2) : type_of% (evS (fun n => yzq n a0 a1 a2) r fun n => yzq.eq_2 a0 a1 a2 n) := evS _ _ fun _ => rfl
theorem zhn {r} (a0 a1 a2) : type_of% (evS (fun n => z3f n a0 a1 a2) r fun n => z3f.eq_2 a0 a1 a2 n) := evS _ _ fun _ => rfl
theorem zh6 {r} (a0 a1 a2) : type_of% (evS (fun n => z3a n a0 a1 a2) r fun n => z3a.eq_2 a0 a1 a2 n) := evS _ _ fun _ => rfl
theorem zgt {r} (a0 a1 a2) : type_of% (evS (fun n => z56 n a0 a1 a2) r fun n => z56.eq_2 a0 a1 a2 n) := evS _ _ fun _ => rfl
theorem zhu {r} : type_of% (evS (fun n => z5b n) r fun n => z5b.eq_2 n) := evS _ _ fun _ => rfl
theorem zi4 {r} (a0) : type_of% (evS (fun n => z0c n a0) r fun n => z0c.eq_2 a0 n) := evS _ _ fun _ => rfl
theorem zrj {r} (a0) : type_of% (evS (fun n => z4i n a0) r fun n => z4i.eq_2 a0 n) := evS _ _ fun _ => rfl
theorem zmz {r} (a0 a1) : type_of% (evS (fun n => z2n n a0 a1) r fun n => z2n.eq_2 a0 a1 n) := evS _ _ fun _ => rfl
theorem zv8 {r} (a0) : type_of% (evS (fun n => z8g n a0) r fun n => z8g.eq_2 a0 n) := evS _ _ fun _ => rfl
theorem z6a {r} (a0) : type_of% (evS (fun n => zzb n a0) r fun n => zzb.eq_2 a0 n) := evS _ _ fun _ => rfl
theorem zlr {r} (a0 a1) : type_of% (evS (fun n => z4m n a0 a1) r fun n => z4m.eq_2 a0 a1 n) := evS _ _ fun _ => rfl
theorem z9m {r} (a0 a1 a2) : type_of% (evS (fun n => z1c n a0 a1 a2) r fun n => z1c.eq_2 a0 a1 a2 n) := evS _ _ fun _ => rfl
theorem zgi {r} (a0 a1 a2 a3) : type_of% (evS (fun n => z1b n a0 a1 a2 a3) r fun n => z1b.eq_2 a0 a1 a2 a3 n) := evS _ _ fun _ => rfl
theorem zfv {r} (a0 a1 a2 a3) : type_of% (evS (fun n => z1d n a0 a1 a2 a3) r fun n => z1d.eq_2 a0 a1 a2 a3 n) := evS _ _ fun _ => rfl
theorem znr {r} (a0) : type_of% (evS (fun n => z8e n a0) r fun n => z8e.eq_2 a0 n) := evS _ _ fun _ => rfl
theorem zhs {r} (a0 a1) : type_of% (evS (fun n => z5d n a0 a1) r fun n => z5d.eq_2 a0 a1 n) := evS _ _ fun _ => rfl
theorem zhp {r} (a0 a1) : type_of% (evS (fun n => zzr n a0 a1) r fun n => zzr.eq_2 a0 a1 n) := evS _ _ fun _ => rfl
theorem zgx {r} (a0 a1) : type_of% (evS (fun n => z33 n a0 a1) r fun n => z33.eq_2 a0 a1 n) := evS _ _ fun _ => rfl
theorem zsu {r} (a0) : type_of% (evS (fun n => z7l n a0) r fun n => z7l.eq_2 a0 n) := evS _ _ fun _ => rfl
theorem zmn {r} (a0 a1) : type_of% (evS (fun n => z2h n a0 a1) r fun n => z2h.eq_2 a0 a1 n) := evS _ _ fun _ => rfl
theorem zt8 {r} (a0) : type_of% (evS (fun n => z7b n a0) r fun n => z7b.eq_2 a0 n) := evS _ _ fun _ => rfl
theorem zdv {r} (a0 a1) : type_of% (evS (fun n => kz7 n a0 a1) r fun n => kz7.eq_2 a0 a1 n) := evS _ _ fun _ => rfl
theorem za5 {r} (a0 a1) : type_of% (evS (fun n => yzc n a0 a1) r fun n => yzc.eq_2 a0 a1 n) := evS _ _ fun _ => rfl
theorem z69 {r} (a0 a1 a2) : type_of% (evS (fun n => kza n a0 a1 a2) r fun n => kza.eq_2 a0 a1 a2 n) := evS _ _ fun _ => rfl
theorem z4f {r} (a0 a1 a2 a3) : type_of% (evS (fun n => kzf n a0 a1 a2 a3) r fun n => kzf.eq_2 a0 a1 a2 a3 n) := evS _ _ fun _ => rfl
theorem zb6 {r} (a0) : type_of% (evS (fun n => zzx n a0) r fun n => zzx.eq_2 a0 n) := evS _ _ fun _ => rfl
theorem zzm {r} (a0 a1 a2) : type_of% (evS (fun n => zzi n a0 a1 a2) r fun n => zzi.eq_2 a0 a1 a2 n) := evS _ _ fun _ => rfl
theorem z3w {r} (a0 a1 a2 a3) : type_of% (evS (fun n => zzj n a0 a1 a2 a3) r fun n => zzj.eq_2 a0 a1 a2 a3 n) := evS _ _ fun _ => rfl
theorem z3y {r} (a0 a1 a2) : type_of% (evS (fun n => kzs n a0 a1 a2) r fun n => kzs.eq_2 a0 a1 a2 n) := evS _ _ fun _ => rfl
theorem z3s {r} (a0 a1 a2) : type_of% (evS (fun n => kzi n a0 a1 a2) r fun n => kzi.eq_2 a0 a1 a2 n) := evS _ _ fun _ => rfl
theorem z3u {r} (a0 a1 a2 a3) : type_of% (evS (fun n => yzu n a0 a1 a2 a3) r fun n => yzu.eq_2 a0 a1 a2 a3 n) := evS _ _ fun _ => rfl
theorem z9d {r} (a0 a1 a2) : type_of% (evS (fun n => yz7 n a0 a1 a2) r fun n => yz7.eq_2 a0 a1 a2 n) := evS _ _ fun _ => rfl
theorem znv {r} (a0) : type_of% (evS (fun n => z6v n a0) r fun n => z6v.eq_2 a0 n) := evS _ _ fun _ => rfl
theorem z7g {r} (a0 a1) : type_of% (evS (fun n => kze n a0 a1) r fun n => kze.eq_2 a0 a1 n) := evS _ _ fun _ => rfl
theorem kzp {r} (a0 a1 a2 a3) : type_of% (evS (fun n => kz5 n a0 a1 a2 a3) r fun n => kz5.eq_2 a0 a1 a2 a3 n) := evS _ _ fun _ => rfl
theorem zoa {r} (a0) : type_of% (evS (fun n => z36 n a0) r fun n => z36.eq_2 a0 n) := evS _ _ fun _ => rfl
theorem ze2 {r} (a0 a1 a2 a3 a4) : type_of% (evS (fun n => z0v n a0 a1 a2 a3 a4) r fun n => z0v.eq_2 a0 a1 a2 a3 a4 n) := evS _ _ fun _ => rfl
theorem zjx {r} (a0 a1) : type_of% (evS (fun n => z0u n a0 a1) r fun n => z0u.eq_2 a0 a1 n) := evS _ _ fun _ => rfl
theorem zv5 {r} (a0) : type_of% (evS (fun n => z77 n a0) r fun n => z77.eq_2 a0 n) := evS _ _ fun _ => rfl
theorem zh9 {r} (a0 a1 a2) : type_of% (evS (fun n => z3c n a0 a1 a2) r fun n => z3c.eq_2 a0 a1 a2 n) := evS _ _ fun _ => rfl
theorem zi6 {r} (a0 a1 a2 a3) : type_of% (evS (fun n => z3h n a0 a1 a2 a3) r fun n => z3h.eq_2 a0 a1 a2 a3 n) := evS _ _ fun _ => rfl
theorem zgw {r} (a0 a1 a2 a3) : type_of% (evS (fun n => z3p n a0 a1 a2 a3) r fun n => z3p.eq_2 a0 a1 a2 a3 n) := evS _ _ fun _ => rfl
theorem zoj {r} (a0) : type_of% (evS (fun n => z0z n a0) r fun n => z0z.eq_2 a0 n) := evS _ _ fun _ => rfl
theorem zv3 {r} (a0) : type_of% (evS (fun n => z8l n a0) r fun n => z8l.eq_2 a0 n) := evS _ _ fun _ => rfl
theorem zhq {r} (a0 a1) : type_of% (evS (fun n => z57 n a0 a1) r fun n => z57.eq_2 a0 a1 n) := evS _ _ fun _ => rfl
theorem zhy {r} (a0 a1) : type_of% (evS (fun n => z0f n a0 a1) r fun n => z0f.eq_2 a0 a1 n) := evS _ _ fun _ => rfl
theorem zhz {r} (a0 a1 a2 a3 a4) : type_of% (evS (fun n => z35 n a0 a1 a2 a3 a4) r fun n => z35.eq_2 a0 a1 a2 a3 a4 n) := evS _ _ fun _ => rfl
theorem zi2 {r} (a0 a1 a2) : type_of% (evS (fun n => z00 n a0 a1 a2) r fun n => z00.eq_2 a0 a1 a2 n) := evS _ _ fun _ => rfl
theorem z7q {r} (a0) : type_of% (evS (fun n => kzb n a0) r fun n => kzb.eq_2 a0 n) := evS _ _ fun _ => rfl
theorem z06 {r} (a0 a1 a2) : type_of% (evS (fun n => yz8 n a0 a1 a2) r fun n => yz8.eq_2 a0 a1 a2 n) := evS _ _ fun _ => rfl
theorem zno {r} (a0) : type_of% (evS (fun n => z4k n a0) r fun n => z4k.eq_2 a0 n) := evS _ _ fun _ => rfl
theorem zau {r} (a0) : type_of% (evS (fun n => z5a n a0) r fun n => z5a.eq_2 a0 n) := evS _ _ fun _ => rfl
theorem z82 {r} (a0 a1) : type_of% (evS (fun n => zz8 n a0 a1) r fun n => zz8.eq_2 a0 a1 n) := evS _ _ fun _ => rfl
theorem z7v {r} (a0 a1) : type_of% (evS (fun n => yzg n a0 a1) r fun n => yzg.eq_2 a0 a1 n) := evS _ _ fun _ => rfl
theorem zvn {r} (a0) : type_of% (evS (fun n => z71 n a0) r fun n => z71.eq_2 a0 n) := evS _ _ fun _ => rfl
theorem zdh {r} (a0 a1 a2) : type_of% (evS (fun n => z3k n a0 a1 a2) r fun n => z3k.eq_2 a0 a1 a2 n) := evS _ _ fun _ => rfl
theorem zda {r} (a0 a1 a2 a3) : type_of% (evS (fun n => z3e n a0 a1 a2 a3) r fun n => z3e.eq_2 a0 a1 a2 a3 n) := evS _ _ fun _ => rfl
theorem zvq {r} (a0) : type_of% (evS (fun n => z6t n a0) r fun n => z6t.eq_2 a0 n) := evS _ _ fun _ => rfl
theorem zhc {r} (a0 a1) : type_of% (evS (fun n => z0d n a0 a1) r fun n => z0d.eq_2 a0 a1 n) := evS _ _ fun _ => rfl
theorem zgz {r} (a0 a1) : type_of% (evS (fun n => z39 n a0 a1) r fun n => z39.eq_2 a0 a1 n) := evS _ _ fun _ => rfl
theorem zi1 {r} (a0 a1 a2) : type_of% (evS (fun n => z3r n a0 a1 a2) r fun n => z3r.eq_2 a0 a1 a2 n) := evS _ _ fun _ => rfl
theorem zhi {r} (a0 a1) : type_of% (evS (fun n => z0y n a0 a1) r fun n => z0y.eq_2 a0 a1 n) := evS _ _ fun _ => rfl
theorem zh0 {r} (a0 a1) : type_of% (evS (fun n => z34 n a0 a1) r fun n => z34.eq_2 a0 a1 n) := evS _ _ fun _ => rfl
theorem zvh {r} (a0) : type_of% (evS (fun n => z8i n a0) r fun n => z8i.eq_2 a0 n) := evS _ _ fun _ => rfl
theorem zia {r} (a0 a1) : type_of% (evS (fun n => z03 n a0 a1) r fun n => z03.eq_2 a0 a1 n) := evS _ _ fun _ => rfl
theorem zgu {r} (a0 a1 a2) : type_of% (evS (fun n => z0e n a0 a1 a2) r fun n => z0e.eq_2 a0 a1 a2 n) := evS _ _ fun _ => rfl
theorem zld {r} (a0) : type_of% (evS (fun n => z1t n a0) r fun n => z1t.eq_2 a0 n) := evS _ _ fun _ => rfl
theorem zge {r} (a0) : type_of% (evS (fun n => kzr n a0) r fun n => kzr.eq_2 a0 n) := evS _ _ fun _ => rfl
theorem ziy {r} (a0 a1) : type_of% (evS (fun n => zzy n a0 a1) r fun n => zzy.eq_2 a0 a1 n) := evS _ _ fun _ => rfl
theorem zit {r} (a0 a1) : type_of% (evS (fun n => z0m n a0 a1) r fun n => z0m.eq_2 a0 a1 n) := evS _ _ fun _ => rfl
theorem zd3 {r} (a0 a1) : type_of% (evS (fun n => kzy n a0 a1) r fun n => kzy.eq_2 a0 a1 n) := evS _ _ fun _ => rfl
theorem zcg {r} (a0) : type_of% (evS (fun n => z10 n a0) r fun n => z10.eq_2 a0 n) := evS _ _ fun _ => rfl
theorem z2e {r} (a0 a1 a2) : type_of% (evS (fun n => z0n n a0 a1 a2) r fun n => z0n.eq_2 a0 a1 a2 n) := evS _ _ fun _ => rfl
theorem zm1 {r} (a0) : type_of% (evS (fun n => z1r n a0) r fun n => z1r.eq_2 a0 n) := evS _ _ fun _ => rfl
theorem zg7 {r} (a0) : type_of% (evS (fun n => z04 n a0) r fun n => z04.eq_2 a0 n) := evS _ _ fun _ => rfl
theorem zsg {r} (a0) : type_of% (evS (fun n => z7c n a0) r fun n => z7c.eq_2 a0 n) := evS _ _ fun _ => rfl
theorem z92 {r} (a0 a1) : type_of% (evS (fun n => kzk n a0 a1) r fun n => kzk.eq_2 a0 a1 n) := evS _ _ fun _ => rfl
theorem zqi {r} (a0) : type_of% (evS (fun n => z63 n a0) r fun n => z63.eq_2 a0 n) := evS _ _ fun _ => rfl
theorem zsb {r} (a0) : type_of% (evS (fun n => z7m n a0) r fun n => z7m.eq_2 a0 n) := evS _ _ fun _ => rfl
theorem zjj {r} (a0 a1) : type_of% (evS (fun n => z4v n a0 a1) r fun n => z4v.eq_2 a0 a1 n) := evS _ _ fun _ => rfl
theorem zet {r} (a0 a1) : type_of% (evS (fun n => z0q n a0 a1) r fun n => z0q.eq_2 a0 a1 n) := evS _ _ fun _ => rfl
theorem z9a {r} (a0 a1) : type_of% (evS (fun n => zze n a0 a1) r fun n => zze.eq_2 a0 a1 n) := evS _ _ fun _ => rfl
theorem z9c {r} (a0 a1) : type_of% (evS (fun n => kz6 n a0 a1) r fun n => kz6.eq_2 a0 a1 n) := evS _ _ fun _ => rfl
theorem z6d {r} (a0 a1) : type_of% (evS (fun n => zzk n a0 a1) r fun n => zzk.eq_2 a0 a1 n) := evS _ _ fun _ => rfl
theorem za1 {r} (a0 a1 a2 a3 a4 a5 a6) : type_of% (evS (fun n => yzz n a0 a1 a2 a3 a4 a5 a6) r fun n => yzz.eq_2 a0 a1 a2 a3 a4 a5 a6 n) := evS _ _ fun _ => rfl
theorem z4g {r} (a0 a1 a2 a3 a4 a5 a6 a7) : type_of% (evS (fun n => yzk n a0 a1 a2 a3 a4 a5 a6 a7) r fun n => yzk.eq_2 a0 a1 a2 a3 a4 a5 a6 a7 n) := evS _ _ fun _ => rfl
theorem z4j {r} (a0 a1 a2 a3 a4 a5 a6 a7 a8) : type_of% (evS (fun n => zzz n a0 a1 a2 a3 a4 a5 a6 a7 a8) r fun n => zzz.eq_2 a0 a1 a2 a3 a4 a5 a6 a7 a8 n) := evS _ _ fun _ => rfl
theorem z9x {r} (a0 a1 a2 a3 a4 a5 a6 a7 a8) : type_of% (evS (fun n => yzy n a0 a1 a2 a3 a4 a5 a6 a7 a8) r fun n => yzy.eq_2 a0 a1 a2 a3 a4 a5 a6 a7 a8 n) := evS _ _ fun _ => rfl
theorem znx {r} (a0) : type_of% (evS (fun n => z5j n a0) r fun n => z5j.eq_2 a0 n) := evS _ _ fun _ => rfl
theorem zq9 {r} (a0 a1) : type_of% (evS (fun n => z89 n a0 a1) r fun n => z89.eq_2 a0 a1 n) := evS _ _ fun _ => rfl
theorem zjk {r} (a0 a1) : type_of% (evS (fun n => z2z n a0 a1) r fun n => z2z.eq_2 a0 a1 n) := evS _ _ fun _ => rfl
theorem zcb {r} (a0 a1) : type_of% (evS (fun n => kz9 n a0 a1) r fun n => kz9.eq_2 a0 a1 n) := evS _ _ fun _ => rfl
theorem zbb {r} (a0) : type_of% (evS (fun n => zzl n a0) r fun n => zzl.eq_2 a0 n) := evS _ _ fun _ => rfl
theorem kzu {r} (a0 a1) : type_of% (evS (fun n => yz9 n a0 a1) r fun n => yz9.eq_2 a0 a1 n) := evS _ _ fun _ => rfl
theorem z67 {r} (a0 a1 a2) : type_of% (evS (fun n => yzi n a0 a1 a2) r fun n => yzi.eq_2 a0 a1 a2 n) := evS _ _ fun _ => rfl
theorem zdt {r} (a0 a1 a2) : type_of% (evS (fun n => yzm n a0 a1 a2) r fun n => yzm.eq_2 a0 a1 a2 n) := evS _ _ fun _ => rfl
theorem z3z {r} (a0) : type_of% (evS (fun n => zzt n a0) r fun n => zzt.eq_2 a0 n) := evS _ _ fun _ => rfl
theorem zgc {r} (a0) : type_of% (evS (fun n => z1q n a0) r fun n => z1q.eq_2 a0 n) := evS _ _ fun _ => rfl
theorem zbz {r} (a0 a1 a2 a3 a4) : type_of% (evS (fun n => z17 n a0 a1 a2 a3 a4) r fun n => z17.eq_2 a0 a1 a2 a3 a4 n) := evS _ _ fun _ => rfl
theorem z9q {r} (a0 a1 a2 a3 a4 a5) : type_of% (evS (fun n => z15 n a0 a1 a2 a3 a4 a5) r fun n => z15.eq_2 a0 a1 a2 a3 a4 a5 n) := evS _ _ fun _ => rfl
theorem z9p {r} (a0 a1 a2 a3) : type_of% (evS (fun n => z1a n a0 a1 a2 a3) r fun n => z1a.eq_2 a0 a1 a2 a3 n) := evS _ _ fun _ => rfl
theorem ztb {r} (a0 a1) : type_of% (evS (fun n => z7k n a0 a1) r fun n => z7k.eq_2 a0 a1 n) := evS _ _ fun _ => rfl
theorem zqn {r} (a0) : type_of% (evS (fun n => z4n n a0) r fun n => z4n.eq_2 a0 n) := evS _ _ fun _ => rfl
theorem zlk {r} (a0 a1) : type_of% (evS (fun n => z05 n a0 a1) r fun n => z05.eq_2 a0 a1 n) := evS _ _ fun _ => rfl
theorem zey {r} (a0 a1 a2) : type_of% (evS (fun n => z1i n a0 a1 a2) r fun n => z1i.eq_2 a0 a1 a2 n) := evS _ _ fun _ => rfl
theorem zex {r} (a0 a1 a2 a3 a4) : type_of% (evS (fun n => z1g n a0 a1 a2 a3 a4) r fun n => z1g.eq_2 a0 a1 a2 a3 a4 n) := evS _ _ fun _ => rfl
theorem zc4 {r} (a0 a1) : type_of% (evS (fun n => kzm n a0 a1) r fun n => kzm.eq_2 a0 a1 n) := evS _ _ fun _ => rfl
end Go.Proofs.YtfhpamcehnfhoaaGreatDoor


namespace Go.Proofs.YtfhpamcehnfhoaaGreatDoor
open Go Go.Ab
set_option linter.unusedVariables false
theorem zpd {α : Type} {x y : List α} (h : x.length + y.length ≤ 268435456) : ext x y = some (x ++ y) := by unfold ext; rw [if_pos (by simpa [zc3] using h)]
set_option linter.unusedSimpArgs false
def I64 (x : Int) : Prop := -9223372036854775808 ≤ x ∧ x ≤ 9223372036854775807
theorem zl1 {x : Int} (h : I64 x) : Ev (fun n => z5j n x) (x.natAbs : Int) := by
 unfold I64 at h
 rw [znx]
 simp only [Ev.pif, Ev.zz1, decide_eq_true_eq]
 split
 ·rw [wUn (x := x) (by omega), wUn (by omega)]; omega
 ·rw [wU (by omega)]; omega
theorem zx1 : ∀ (b a : Nat), Ev (fun n => z2z n (b : Int) (a : Int)) (Nat.gcd a b : Int) := by
 intro b
 induction b using Nat.strongRecOn with
 | ind b ih =>
   intro a
   rw [zjk]
   by_cases hb : b = 0
   · subst hb
     simp [Ev.pif, Ev.zz1]
   · have hm : rem .u64 (a : Int) (b : Int) = some ((a % b : Nat) : Int) := by
       unfold rem; rw [if_neg (by omega), Int.tmod_eq_emod_of_nonneg (by omega)]; simp
     rw [Ev.kz1 (by simpa using hb), Ev.yz2 hm]
     have := ih (a % b) (Nat.mod_lt _ (by omega)) b
     rw [Nat.gcd_comm a b, Nat.gcd_rec b a, Nat.gcd_comm]
     exact this
theorem y1i {a b : Nat} : Ev (fun n => z89 n (a : Int) (b : Int)) (Nat.gcd a b : Int) := by
 rw [zq9]; exact zx1 b a
def rok (r : zz2) : Bool := decide (1 ≤ r.den) && decide (r.den ≤ 1000000000) && decide (r.num.natAbs ≤ 1000000000) && (Nat.gcd r.num.natAbs r.den.natAbs == 1)
theorem z68 {r : zz2} : rok r = true ↔ 1 ≤ r.den ∧ r.den ≤ 1000000000 ∧ r.num.natAbs ≤ 1000000000 ∧ Nat.gcd r.num.natAbs r.den.natAbs = 1 := by
 simp [rok, and_assoc]
theorem zfb {r : zz2} (h : I64 r.num) : Ev (fun n => z1r n r) (if rok r then 0 else 8) := by
 have l0 : ∀ b, Ev (fun n => z04 n b) (if b then 8 else 0) := fun b => by
  rw [zg7]; cases b <;> simp [Ev.pif, Ev.zz1]
 rw [zm1]
 simp only [Ev.pif, decide_eq_true_eq]
 split
 ·refine (l0 _).to ?_; rw [if_pos rfl, if_neg]; rw [z68]; omega
 split
 ·refine (l0 _).to ?_; rw [if_pos rfl, if_neg]; rw [z68]; omega
 rw [Ev.zz0 (zl1 h)]
 simp only [Ev.pif, decide_eq_true_eq]
 split
 ·refine (l0 _).to ?_; rw [if_pos rfl, if_neg]; rw [z68]; omega
 rw [Ev.zz0 (zl1 h), wU (by omega)]
 have hd : r.den = (r.den.natAbs : Int) := by omega
 rw [hd, Ev.zz0 y1i]
 refine (l0 _).to ?_
 have : ((((Nat.gcd r.num.natAbs r.den.natAbs : Nat) : Int) != 1) = true) ↔ ¬ rok r = true := by
  rw [z68]
  simp only [bne_iff_ne, ne_eq]
  omega
 by_cases hr : rok r = true
 ·rw [if_neg (by rw [this]; simpa using hr), if_pos hr]
 ·rw [if_pos (by rw [this]; exact hr), if_neg hr]
theorem y81 (a b : Int) : Nat.gcd a.natAbs b.natAbs = Nat.gcd b.natAbs (a.tmod b).natAbs := by
 rw [Int.natAbs_tmod, Nat.gcd_comm a.natAbs, Nat.gcd_rec b.natAbs a.natAbs, Nat.gcd_comm]
theorem zo4 : ∀ (m : Nat) (b a : Int), b.natAbs = m → I64 a → I64 b → ¬ a = -9223372036854775808 → ¬ b = -9223372036854775808 → Ev (fun n => z0q n b a) (Nat.gcd a.natAbs b.natAbs : Int) := by
 intro m
 induction m using Nat.strongRecOn with
 | ind m ih =>
   intro b a hm ha hb ha0 hb0
   unfold I64 at ha hb
   rw [zet]
   by_cases h0 : b = 0
   · subst h0
     simp only [Ev.pif, Ev.zz1, decide_eq_true_eq]
     rw [if_neg (by simp)]
     split
     · rw [wI (by omega)]; simp; omega
     · simp; omega
   · have hr : rem .i64 a b = some (a.tmod b) := by unfold rem; rw [if_neg h0]
     have h1 : (a.tmod b).natAbs < b.natAbs := by rw [Int.natAbs_tmod]; exact Nat.mod_lt _ (by omega)
     rw [Ev.kz1 (by simpa using h0), Ev.yz2 hr]
     have := ih _ (by rw [← hm]; exact h1) (a.tmod b) b rfl hb (by unfold I64; omega) hb0 (by omega)
     rw [y81 a b]
     exact this
theorem zpt {a b : Int} (ha : I64 a) (hb : I64 b) (ha0 : ¬ a = -9223372036854775808) (hb0 : ¬ b = -9223372036854775808) : Ev (fun n => z4v n a b) (Nat.gcd a.natAbs b.natAbs : Int) := by
 rw [zjj]; exact zo4 _ b a rfl ha hb ha0 hb0
theorem zmu {r : zz2} : Ev (fun n => z1t n r) (if rok r then 0 else 8) := by
 have l0 : ∀ b, Ev (fun n => kzr n b) (if b then 8 else 0) := fun b => by
  rw [zge]; cases b <;> simp [Ev.pif, Ev.zz1]
 rw [zld]
 simp only [Ev.pif, decide_eq_true_eq]
 split
 ·refine (l0 _).to ?_; rw [if_pos rfl, if_neg]; rw [z68]; omega
 split
 ·refine (l0 _).to ?_; rw [if_pos rfl, if_neg]; rw [z68]; omega
 split
 ·refine (l0 _).to ?_; rw [if_pos rfl, if_neg]; rw [z68]; omega
 split
 ·refine (l0 _).to ?_; rw [if_pos rfl, if_neg]; rw [z68]; omega
 rw [Ev.zz0 (zpt (by unfold I64; omega) (by unfold I64; omega) (by omega) (by omega))]
 refine (l0 _).to ?_
 have : ((((Nat.gcd r.num.natAbs r.den.natAbs : Nat) : Int) != 1) = true) ↔ ¬ rok r = true := by
  rw [z68]
  simp only [bne_iff_ne, ne_eq]
  omega
 by_cases hr : rok r = true
 ·rw [if_neg (by rw [this]; simpa using hr), if_pos hr]
 ·rw [if_pos (by rw [this]; exact hr), if_neg hr]
end Go.Proofs.YtfhpamcehnfhoaaGreatDoor


namespace Go.Proofs.YtfhpamcehnfhoaaGreatDoor
open Go Go.Ab
set_option linter.unusedVariables false
set_option linter.unusedSimpArgs false
def wfR (r : zz2) : Prop := I64 r.num ∧ I64 r.den
theorem zyj {r : zz2} (h : rok r = true) : (-1000000000 ≤ r.num ∧ r.num ≤ 1000000000) ∧ (-1000000000 ≤ r.den ∧ r.den ≤ 1000000000) ∧ 1 ≤ r.den := by
 rw [z68] at h; omega
end Go.Proofs.YtfhpamcehnfhoaaGreatDoor


namespace Go.Proofs.YtfhpamcehnfhoaaGreatDoor
open Go Go.Ab
set_option linter.unusedVariables false
set_option linter.unusedSimpArgs false
theorem zw4 {P : yz0 → Prop} (h : ∀ v : yz0, (∀ x, x ∈ v.list → P x) → P v) (v : yz0) : P v := h v fun x hx => zw4 h x
termination_by v
decreasing_by exact yz0.zxa hx
mutual
def zb4 : yz0 → Nat
 | ⟨k, _, _, _, l⟩ => if k = 4 then 1 + z5e l else 1
def z5e : List yz0 → Nat
 | [] => 0
 | x :: l => zb4 x + z5e l
end
mutual
def ze7 : yz0 → Nat
 | ⟨k, _, _, _, l⟩ => if k = 4 then max 1 (zjl l) else 1
def zjl : List yz0 → Nat
 | [] => 0
 | x :: l => max (1 + ze7 x) (zjl l)
end
theorem zdb (v : yz0) : zb4 v = if v.kind = 4 then 1 + z5e v.list else 1 := by cases v; rw [zb4]
theorem zor (v : yz0) : ze7 v = if v.kind = 4 then max 1 (zjl v.list) else 1 := by cases v; rw [ze7]
theorem yr3 {l : List yz0} {x : yz0} (h : x ∈ l) : x.size ≤ (l.map yz0.size).sum := by
 induction l with
 | nil => cases h
 | cons y l ih =>
   rcases List.mem_cons.1 h with rfl | h
   · simp
   · have := ih h; simp; omega
theorem zak (v : yz0) : (v.list.map yz0.size).sum + v.str.length + 4 ≤ v.size := by rw [yz0.size_eq]; omega
theorem zmv {v x : yz0} (h : x ∈ v.list) : x.size ≤ v.size := by have := yr3 h; have := zak v; omega
theorem ziz (l : List yz0) : l.length ≤ (l.map yz0.size).sum := by
 induction l with
 | nil => simp
 | cons x l ih => have := zak x; simp; omega
theorem ztp : ∀ v : yz0, zb4 v ≤ v.size := zw4 fun v ih => by
 have : ∀ l : List yz0, (∀ x, x ∈ l → x ∈ v.list) → z5e l ≤ (l.map yz0.size).sum := fun l => by
  induction l with
  | nil => intro _; simp [z5e]
  | cons x l ihl =>
    intro hl
    have := ih x (hl x List.mem_cons_self)
    have := ihl fun y hy => hl y (List.mem_cons_of_mem _ hy)
    simp [z5e]; omega
 have := this v.list fun _ h => h
 have := zak v
 rw [zdb]; split <;> omega
theorem yht : ∀ v : yz0, ze7 v ≤ zb4 v := zw4 fun v ih => by
 have : ∀ l : List yz0, (∀ x, x ∈ l → x ∈ v.list) → zjl l ≤ 1 + z5e l := fun l => by
  induction l with
  | nil => intro _; simp [z5e, zjl]
  | cons x l ihl =>
    intro hl
    have := ih x (hl x List.mem_cons_self)
    have := ihl fun y hy => hl y (List.mem_cons_of_mem _ hy)
    simp [z5e, zjl]; omega
 have := this v.list fun _ h => h
 rw [zdb, zor]; split <;> omega
theorem y6h (l : List yz0) : z5e l ≤ (l.map yz0.size).sum := by
 induction l with
 | nil => simp [z5e]
 | cons x l ih => have := ztp x; simp [z5e]; omega
theorem yaj : ∀ v : yz0, v.size ≤ 8388608 → Ev (fun n => z36 n v) ((zb4 v : Int), (ze7 v : Int)) := zw4 fun v ih hs => by
 have l1 : ∀ d p, Ev (fun n => z0u n d p) (p, d) := fun d p => by rw [zjx, Ev.zz1]
 have hsl := zak v
 have hlen := ziz v.list
 have loop : ∀ k, k ≤ v.list.length → ∀ d p : Nat, p + z5e (v.list.drop k) ≤ 8388609 → d ≤ 8388609 → Ev (fun n => z0v n (k : Int) (d : Int) (p : Int) v.list (v.list.length : Int)) (((p + z5e (v.list.drop k) : Nat) : Int), ((max d (zjl (v.list.drop k)) : Nat) : Int)) :=
  down (fun d p hp hd => by
   rw [ze2, Ev.yz1 (by simp)]
   refine (l1 _ _).to ?_
   simp [z5e, zjl]) fun k hk ihk d p hp hd => by
   have hx := List.getElem_mem hk
   have hsx := zmv hx
   rw [← List.getElem_cons_drop (h := hk)] at hp ⊢
   simp only [z5e, zjl] at hp ⊢
   have hpl := ztp v.list[k]
   have hdl := yht v.list[k]
   rw [ze2, Ev.kz1 (by simpa using hk), Ev.yz2 (yzb hk), yz0.kz2, Ev.zz0 (ih _ hx (by omega)), wI (x := _ + 1) (by omega), wI (x := (ze7 _ : Int) + 1) (by omega), wI (x := (p : Int) + _) (by omega)]
   have e1 : (k : Int) + 1 = ((k + 1 : Nat) : Int) := by omega
   have e2 : (ze7 v.list[k] : Int) + 1 = ((1 + ze7 v.list[k] : Nat) : Int) := by omega
   have e3 : (p : Int) + (zb4 v.list[k] : Int) = ((p + zb4 v.list[k] : Nat) : Int) := by omega
   rw [e1, e2, e3, y40]
   refine (ihk (max d (1 + ze7 v.list[k])) (p + zb4 v.list[k]) (by omega) (by omega)).to ?_
   congr 2 <;> omega
 rw [zoa]
 by_cases hk : v.kind = 4
 ·rw [Ev.kz1 (by simpa using hk)]
  have hv := y6h v.list
  have := loop 0 (Nat.zero_le _) 1 1 (by simp; omega) (by omega)
  refine this.to ?_
  rw [zdb, zor, if_pos hk, if_pos hk, List.drop_zero]
 ·rw [Ev.yz1 (by simpa using hk)]
  refine (l1 1 1).to ?_
  rw [zdb, zor, if_neg hk, if_neg hk]; rfl
theorem y2c : ∀ v : yz0, v.size ≤ 8388608 → Ev (fun n => z4l n v) (zb4 v : Int) := zw4 fun v ih hs => by
 have hsl := zak v
 have hlen := ziz v.list
 rw [zsv, yz0.kz2, zdb]
 by_cases hk : v.kind = 4
 ·rw [if_pos hk]
  have hkk : (v.kind == 4) = true := by simpa using hk
  have loop : ∀ k, k ≤ v.list.length → ∀ p : Nat, p + z5e (v.list.drop k) ≤ 8388609 → Ev (fun n => z2c n (k : Int) (p : Int) v) ((p + z5e (v.list.drop k) : Nat) : Int) :=
   down (fun p hp => by
    rw [zc5, Ev.yz1 (by simp), zby, Ev.yz1 (by rfl), Ev.zz1]
    simp [z5e]) fun k hk ihk p hp => by
    have hx := List.getElem_mem hk
    have hsx := zmv hx
    rw [← List.getElem_cons_drop (h := hk)] at hp ⊢
    simp only [z5e] at hp ⊢
    have hpl := ztp v.list[k]
    rw [zc5, Ev.kz1 (by simpa using hk), hkk, yz0.kz2, zby, Ev.kz1 (by rfl), Ev.yz2 (yzb hk), yz0.kz2, Ev.zz0 (ih _ hx (by omega)), wI (x := _ + 1) (by omega), wI (x := (p : Int) + _) (by omega)]
    have e1 : (k : Int) + 1 = ((k + 1 : Nat) : Int) := by omega
    have e3 : (p : Int) + (zb4 v.list[k] : Int) = ((p + zb4 v.list[k] : Nat) : Int) := by omega
    rw [e1, e3, yz0.kz2]
    refine (ihk (p + zb4 v.list[k]) (by omega)).to ?_
    congr 1; omega
  have hv := y6h v.list
  exact loop 0 (Nat.zero_le _) 1 (by simp; omega)
 ·rw [if_neg hk]
  have hkk : (v.kind == 4) = false := by simpa using hk
  have l1 : Ev (fun n => z2d n 0 1 false v) 1 := by rw [zby, Ev.yz1 (by rfl), Ev.zz1]
  rw [zc5, hkk, yz0.kz2, Ev.pif]
  split <;> exact l1
theorem yle : ∀ v : yz0, v.size ≤ 8388608 → Ev (fun n => z71 n v) (ze7 v : Int) := zw4 fun v ih hs => by
 have hsl := zak v
 have hlen := ziz v.list
 rw [zvn, yz0.kz2, zor]
 by_cases hk : v.kind = 4
 ·rw [if_pos hk]
  have hkk : (v.kind == 4) = true := by simpa using hk
  have loop : ∀ k, k ≤ v.list.length → ∀ p : Nat, p ≤ 8388609 → Ev (fun n => z3k n (k : Int) (p : Int) v) ((max p (zjl (v.list.drop k)) : Nat) : Int) :=
   down (fun p hp => by
    rw [zdh, Ev.yz1 (by simp), zda, Ev.yz1 (by rfl), Ev.zz1]
    simp [zjl]) fun k hk ihk p hp => by
    have hx := List.getElem_mem hk
    have hsx := zmv hx
    rw [← List.getElem_cons_drop (h := hk)]
    simp only [zjl]
    have hpl := ztp v.list[k]
    have hdl := yht v.list[k]
    rw [zdh, Ev.kz1 (by simpa using hk), hkk, yz0.kz2, zda, Ev.kz1 (by rfl), Ev.yz2 (yzb hk), yz0.kz2, Ev.zz0 (ih _ hx (by omega)), wI (x := _ + 1) (by omega), wI (x := 1 + _) (by omega)]
    have e1 : (k : Int) + 1 = ((k + 1 : Nat) : Int) := by omega
    have e3 : 1 + (ze7 v.list[k] : Int) = ((1 + ze7 v.list[k] : Nat) : Int) := by omega
    rw [e1, e3, yz0.kz2, y40]
    refine (ihk (max p (1 + ze7 v.list[k])) (by omega)).to ?_
    congr 1; omega
  exact loop 0 (Nat.zero_le _) 1 (by omega)
 ·rw [if_neg hk]
  have hkk : (v.kind == 4) = false := by simpa using hk
  have l1 : Ev (fun n => z3e n 0 1 false v) 1 := by rw [zda, Ev.yz1 (by rfl), Ev.zz1]
  rw [zdh, hkk, yz0.kz2, Ev.pif]
  split <;> exact l1
end Go.Proofs.YtfhpamcehnfhoaaGreatDoor


namespace Go.Proofs.YtfhpamcehnfhoaaGreatDoor
open Go Go.Ab
set_option linter.unusedVariables false
set_option linter.unusedSimpArgs false
def r0 : zz2 := ⟨0, 0⟩
def v0 : yz0 := ⟨0, ⟨0, 0⟩, false, [], []⟩
def zj6 (c : UInt8) : Bool := decide (32 ≤ c.toNat) && decide (c.toNat ≤ 126)
def nul (v : zz2) : Bool := v.num == 0 && v.den == 0
mutual
def z8k : yz0 → Bool
 | ⟨k, q, t, s, l⟩ =>
   if k = 1 then rok q && (!t && (s.isEmpty && l.isEmpty))
   else if k = 2 then nul q && (s.isEmpty && l.isEmpty)
   else if k = 3 then nul q && (!t && (l.isEmpty && (decide (s.length ≤ 60) && s.all zj6)))
   else if k = 4 then nul q && (!t && (s.isEmpty && zh4 l))
   else false
def zh4 : List yz0 → Bool
 | [] => true
 | x :: l => z8k x && zh4 l
end
theorem z7i (v : yz0) : z8k v =
  if v.kind = 1 then rok v.num && (!v.truth && (v.str.isEmpty && v.list.isEmpty))
  else if v.kind = 2 then nul v.num && (v.str.isEmpty && v.list.isEmpty)
  else if v.kind = 3 then nul v.num && (!v.truth && (v.list.isEmpty && (decide (v.str.length ≤ 60) && v.str.all zj6)))
  else if v.kind = 4 then nul v.num && (!v.truth && (v.str.isEmpty && zh4 v.list))
  else false := by cases v; rw [z8k]
theorem ylo (l : List yz0) : zh4 l = l.all z8k := by
 induction l with
 | nil => rfl
 | cons x l ih => simp [zh4, ih]
def z1l (v : yz0) : Int := if 100 < zb4 v ∨ 6 < ze7 v then 4 else if z8k v then 0 else 8
theorem yv2 {v : yz0} (h : v.wf) : wfR v.num := by
 rw [yz0.z99] at h
 have := h.2.1
 rw [zz2.z99] at this
 simpa [wfR, I64, IntKind.min, IntKind.max, IntKind.signed, IntKind.bits] using this
theorem ytz {v : yz0} (h : v.wf) : ∀ x ∈ v.list, x.wf := by
 rw [yz0.z99] at h; exact h.2.2.2.2
theorem zif {v : yz0} : Ev (fun n => z0z n v) (nul v.num && (!v.truth && (v.str.isEmpty && v.list.isEmpty))) := by
 rw [zoj]
 obtain ⟨k, ⟨p, q⟩, t, s, l⟩ := v
 simp only [Ev.pif, Ev.zz1, nul, Bool.and_true]
 cases p == 0 <;> cases q == 0 <;> cases t <;> cases s <;> cases l <;> simp <;> omega
theorem ylk : ∀ v : yz0, v.wf → v.size ≤ 8388608 → Ev (fun n => z77 n v) (z8k v) := zw4 fun v ih hw hs => by
 have hsl := zak v
 have hlen := ziz v.list
 rw [zv5, z7i]
 by_cases h1 : v.kind = 1
 ·rw [if_pos h1, Ev.kz1 (by simpa using h1), Ev.zz0 (zfb (yv2 hw).1)]
  cases hr : rok v.num
  ·rw [Ev.kz1 (by rfl), Ev.zz1]; rfl
  ·rw [Ev.yz1 (by rfl)]
   exact zif
 rw [if_neg h1, Ev.yz1 (by simpa using h1)]
 by_cases h2 : v.kind = 2
 ·rw [if_pos h2, Ev.kz1 (by simpa using h2)]
  exact zif
 rw [if_neg h2, Ev.yz1 (by simpa using h2)]
 by_cases h3 : v.kind = 3
 ·rw [if_pos h3, Ev.kz1 (by simpa using h3)]
  by_cases hl : v.str.length ≤ 60
  ·rw [Ev.yz1 (by simp; omega), yz0.kz2]
   have loop : ∀ w : yz0, ∀ k, k ≤ v.str.length → Ev (fun n => z3c n (k : Int) v w) ((v.str.drop k).all zj6 && (nul w.num && (!w.truth && (w.str.isEmpty && w.list.isEmpty)))) := fun w =>
    down (by
     rw [zh9, Ev.yz1 (by simp), yz0.kz2]
     simpa using zif) fun k hk ihk => by
     have bad : Ev (fun n => z3h n (k : Int) true v w) false := by rw [zi6, Ev.kz1 (by rfl), Ev.zz1]
     rw [← List.getElem_cons_drop (h := hk), List.all_cons]
     rw [zh9, Ev.kz1 (by simpa using hk), Ev.yz2 (yzb hk), yz0.kz2, yz0.kz2]
     by_cases c1 : v.str[k].toNat < 32
     ·rw [Ev.kz1 (by simp; omega)]
      refine bad.to ?_
      have : zj6 v.str[k] = false := by simp [zj6]; omega
      rw [this]; rfl
     ·rw [Ev.yz1 (by simp; omega), Ev.yz2 (yzb hk)]
      by_cases c2 : v.str[k].toNat > 126
      ·rw [show decide ((v.str[k].toNat : Int) > 126) = true by simp; omega]
       refine bad.to ?_
       have : zj6 v.str[k] = false := by simp [zj6]; omega
       rw [this]; rfl
      ·rw [show decide ((v.str[k].toNat : Int) > 126) = false by simp; omega, zi6, Ev.yz1 (by rfl), wrk (by omega), yz0.kz2, yz0.kz2]
       have : zj6 v.str[k] = true := by simp [zj6]; omega
       rw [this, Bool.true_and]
       exact ihk
   refine (loop ⟨v.kind, v.num, v.truth, [], v.list⟩ 0 (Nat.zero_le _)).to ?_
   simp only [List.drop_zero, hl, decide_true, Bool.true_and, List.isEmpty_nil]
   cases nul v.num <;> cases v.truth <;> cases v.list.isEmpty <;> cases v.str.all zj6 <;> rfl
  ·rw [Ev.kz1 (by simp; omega), Ev.zz1]
   simp [hl]
 rw [if_neg h3, Ev.yz1 (by simpa using h3)]
 by_cases h4 : v.kind = 4
 ·rw [if_pos h4, Ev.kz1 (by simpa using h4)]
  have loop : ∀ w : yz0, ∀ k, k ≤ v.list.length → Ev (fun n => z3p n (k : Int) v.list (v.list.length : Int) w) (zh4 (v.list.drop k) && (nul w.num && (!w.truth && (w.str.isEmpty && w.list.isEmpty)))) := fun w =>
   down (by
    rw [zgw, Ev.yz1 (by simp), yz0.kz2]
    simpa [zh4] using zif) fun k hk ihk => by
    have hx := List.getElem_mem hk
    have hsx := zmv hx
    rw [← List.getElem_cons_drop (h := hk), zh4]
    rw [zgw, Ev.kz1 (by simpa using hk), Ev.yz2 (yzb hk), yz0.kz2, Ev.zz0 (ih _ hx (ytz hw _ hx) (by omega))]
    cases hf : z8k v.list[k]
    ·rw [Ev.kz1 (by rfl), Ev.zz1]; rfl
    ·rw [Ev.yz1 (by rfl), wrk (by omega), yz0.kz2, Bool.true_and]
     exact ihk
  refine (loop ⟨v.kind, v.num, v.truth, v.str, []⟩ 0 (Nat.zero_le _)).to ?_
  simp only [List.drop_zero, List.isEmpty_nil, Bool.and_true]
  cases nul v.num <;> cases v.truth <;> cases v.str.isEmpty <;> cases zh4 v.list <;> rfl
 ·rw [if_neg h4, Ev.yz1 (by simpa using h4), Ev.zz1]
theorem zce {v : yz0} (hw : v.wf) (hs : v.size ≤ 8388608) : Ev (fun n => z4i n v) (z1l v) := by
 have l0 : ∀ b, Ev (fun n => z2n n b v) (if b then 4 else if z8k v then 0 else 8) := fun b => by
  rw [zmz]
  cases b
  ·rw [Ev.yz1 (by rfl), yz0.kz2, Ev.zz0 (ylk v hw hs)]
   cases z8k v
   ·rw [Ev.kz1 (by rfl), Ev.zz1]; rfl
   ·rw [Ev.yz1 (by rfl), Ev.zz1]; rfl
  ·rw [Ev.kz1 (by rfl), Ev.zz1]; rfl
 rw [zrj, yz0.kz2, Ev.zz0 (yaj v hs)]
 unfold z1l
 simp only [Ev.pif]
 by_cases h1 : 100 < zb4 v
 ·rw [if_pos (by simp; omega), if_pos (.inl h1)]; exact l0 true
 ·rw [if_neg (by simp; omega)]
  by_cases h2 : 6 < ze7 v
  ·rw [if_pos (.inr h2), show decide ((ze7 v : Int) > 6) = true by simp; omega]; exact l0 true
  ·rw [if_neg (by omega), show decide ((ze7 v : Int) > 6) = false by simp; omega]; exact l0 false
theorem ymp : ∀ v : yz0, v.size ≤ 8388608 → Ev (fun n => z6t n v) (z8k v) := zw4 fun v ih hs => by
 have hsl := zak v
 have hlen := ziz v.list
 rw [zvq, z7i]
 have hnul : ((v.num.num == 0) && ((v.num.den == 0) && true)) = nul v.num := by simp [nul]
 have hstr : ((v.str.length : Int) == 0) = v.str.isEmpty := by cases v.str <;> simp; omega
 have hlst : ((v.list.length : Int) == 0) = v.list.isEmpty := by cases v.list <;> simp; omega
 have hgt : decide ((v.list.length : Int) > 0) = !v.list.isEmpty := by cases v.list <;> simp
 have hgs : decide ((v.str.length : Int) > 0) = !v.str.isEmpty := by cases v.str <;> simp
 simp only [hnul, hstr, hlst, hgt, hgs]
 by_cases h1 : v.kind = 1
 ·rw [if_pos h1, Ev.kz1 (by simpa using h1), Ev.zz0 zmu]
  cases hr : rok v.num <;> cases ht : v.truth <;> cases hss : v.str.isEmpty <;> simp [Ev.pif, Ev.zz1]
 rw [if_neg h1, Ev.yz1 (by simpa using h1)]
 by_cases h2 : v.kind = 2
 ·rw [if_pos h2, Ev.kz1 (by simpa using h2)]
  cases hr : nul v.num <;> cases hss : v.str.isEmpty <;> simp [Ev.pif, Ev.zz1]
 rw [if_neg h2, Ev.yz1 (by simpa using h2)]
 by_cases h3 : v.kind = 3
 ·rw [if_pos h3, Ev.kz1 (by simpa using h3)]
  have bad : Ev (fun n => z0d n true v) false := by rw [zhc, Ev.kz1 (by rfl), Ev.zz1]
  have loop : ∀ k, k ≤ v.str.length → Ev (fun n => z39 n (k : Int) v) ((v.str.drop k).all zj6) :=
   down (by
    rw [zgz, Ev.yz1 (by simp), Ev.zz1]
    simp) fun k hk ihk => by
    have bad : Ev (fun n => z3r n (k : Int) true v) false := by rw [zi1, Ev.kz1 (by rfl), Ev.zz1]
    rw [← List.getElem_cons_drop (h := hk), List.all_cons]
    rw [zgz, Ev.kz1 (by simpa using hk), Ev.yz2 (yzb hk), yz0.kz2]
    by_cases c1 : v.str[k].toNat < 32
    ·rw [Ev.kz1 (by simp; omega)]
     refine bad.to ?_
     have : zj6 v.str[k] = false := by simp [zj6]; omega
     rw [this]; rfl
    ·rw [Ev.yz1 (by simp; omega), Ev.yz2 (yzb hk)]
     by_cases c2 : v.str[k].toNat > 126
     ·rw [show decide ((v.str[k].toNat : Int) > 126) = true by simp; omega]
      refine bad.to ?_
      have : zj6 v.str[k] = false := by simp [zj6]; omega
      rw [this]; rfl
     ·rw [show decide ((v.str[k].toNat : Int) > 126) = false by simp; omega, zi1, Ev.yz1 (by rfl), wrk (by omega), yz0.kz2]
      have : zj6 v.str[k] = true := by simp [zj6]; omega
      rw [this, Bool.true_and]
      exact ihk
  have good : Ev (fun n => z0d n false v) (v.str.all zj6) := by
   rw [zhc, Ev.yz1 (by rfl), yz0.kz2]; simpa using loop 0 (Nat.zero_le _)
  rw [yz0.kz2]
  cases hr : nul v.num
  ·rw [Ev.kz1 (by rfl)]; exact bad
  rw [Ev.yz1 (by rfl)]
  cases ht : v.truth
  ·rw [Ev.yz1 (by rfl)]
   cases hl : v.list.isEmpty
   ·rw [Ev.kz1 (by rfl)]; exact bad
   ·rw [Ev.yz1 (by rfl)]
    by_cases h60 : v.str.length ≤ 60
    ·rw [show decide ((v.str.length : Int) > 60) = false by simp; omega]
     simpa [h60] using good
    ·rw [show decide ((v.str.length : Int) > 60) = true by simp; omega]
     simpa [h60] using bad
  ·rw [Ev.kz1 (by rfl)]; exact bad
 rw [if_neg h3, Ev.yz1 (by simpa using h3)]
 by_cases h4 : v.kind = 4
 ·rw [if_pos h4, Ev.kz1 (by simpa using h4)]
  have bad : Ev (fun n => z0y n true v) false := by rw [zhi, Ev.kz1 (by rfl), Ev.zz1]
  have loop : ∀ k, k ≤ v.list.length → Ev (fun n => z34 n (k : Int) v) (zh4 (v.list.drop k)) :=
   down (by
    rw [zh0, Ev.yz1 (by simp), Ev.zz1]
    simp [zh4]) fun k hk ihk => by
    have hx := List.getElem_mem hk
    have hsx := zmv hx
    rw [← List.getElem_cons_drop (h := hk), zh4]
    rw [zh0, Ev.kz1 (by simpa using hk), Ev.yz2 (yzb hk), yz0.kz2, Ev.zz0 (ih _ hx (by omega))]
    cases hf : z8k v.list[k]
    ·rw [Ev.kz1 (by rfl), Ev.zz1]; rfl
    ·rw [Ev.yz1 (by rfl), wrk (by omega), yz0.kz2, Bool.true_and]
     exact ihk
  have good : Ev (fun n => z0y n false v) (zh4 v.list) := by
   rw [zhi, Ev.yz1 (by rfl), yz0.kz2]; simpa using loop 0 (Nat.zero_le _)
  rw [yz0.kz2]
  cases hr : nul v.num
  ·rw [Ev.kz1 (by rfl)]; exact bad
  rw [Ev.yz1 (by rfl)]
  cases ht : v.truth
  ·rw [Ev.yz1 (by rfl)]
   cases hl : v.str.isEmpty
   ·exact bad
   ·simpa using good
  ·rw [Ev.kz1 (by rfl)]; exact bad
 ·rw [if_neg h4, Ev.yz1 (by simpa using h4), Ev.zz1]
theorem yit {v : yz0} (hs : v.size ≤ 8388608) : Ev (fun n => z7l n v) (z1l v) := by
 have l0 : ∀ b, Ev (fun n => z2h n b v) (if b then 4 else if z8k v then 0 else 8) := fun b => by
  rw [zmn]
  cases b
  ·rw [Ev.yz1 (by rfl), yz0.kz2, Ev.zz0 (ymp v hs)]
   cases z8k v
   ·rw [Ev.kz1 (by rfl), Ev.zz1]; rfl
   ·rw [Ev.yz1 (by rfl), Ev.zz1]; rfl
  ·rw [Ev.kz1 (by rfl), Ev.zz1]; rfl
 rw [zsu, yz0.kz2, Ev.zz0 (y2c v hs)]
 unfold z1l
 by_cases h1 : 100 < zb4 v
 ·rw [Ev.kz1 (by simp; omega), if_pos (.inl h1)]; exact l0 true
 ·rw [Ev.yz1 (by simp; omega), Ev.zz0 (yle v hs)]
  by_cases h2 : 6 < ze7 v
  ·rw [if_pos (.inr h2), show decide ((ze7 v : Int) > 6) = true by simp; omega]; exact l0 true
  ·rw [if_neg (by omega), show decide ((ze7 v : Int) > 6) = false by simp; omega]; exact l0 false
end Go.Proofs.YtfhpamcehnfhoaaGreatDoor


namespace Go.Proofs.YtfhpamcehnfhoaaGreatDoor
open Go Go.Ab
set_option linter.unusedVariables false
set_option linter.unusedSimpArgs false
theorem vext {a b : yz0} (h1 : a.kind = b.kind) (h2 : a.num.num = b.num.num) (h3 : a.num.den = b.num.den) (h4 : a.truth = b.truth) (h5 : a.str = b.str) (h6 : a.list = b.list) : a = b := by
 obtain ⟨k, ⟨p, q⟩, t, s, l⟩ := a
 obtain ⟨k', ⟨p', q'⟩, t', s', l'⟩ := b
 simp_all
theorem yjk {α : Type} {x y : α} {l m : List α} : eqB (x :: l) (y :: m) = (eqB x y && eqB l m) := by
 cases h : (eqB x y && eqB l m)
 ·rw [zdj]; intro hh; injection hh with h1 h2
  rw [Bool.and_eq_false_iff, zdj, zdj] at h
  exact h.elim (fun h => h h1) (fun h => h h2)
 ·rw [zbj]
  rw [Bool.and_eq_true, zbj, zbj] at h
  rw [h.1, h.2]
theorem y52 : ∀ a b : yz0, a.size ≤ 8388608 → Ev (fun n => z1v n a b) (eqB a b) := zw4 (P := fun a => ∀ b : yz0, a.size ≤ 8388608 → Ev (fun n => z1v n a b) (eqB a b)) fun a ih b hs => by
 have hsl := zak a
 have hlen := ziz a.list
 have bad : a ≠ b → Ev (fun n => z0b n true b a) (eqB a b) := fun h => by rw [zi5, Ev.kz1 (by rfl), Ev.zz1, zdj.2 h]
 rw [zvs, yz0.kz2, yz0.kz2]
 by_cases h1 : a.kind = b.kind
 case neg => rw [Ev.kz1 (by simpa using h1)]; exact bad fun h => h1 (by rw [h])
 rw [Ev.yz1 (by simpa using h1)]
 by_cases h2 : a.num.num = b.num.num ∧ a.num.den = b.num.den
 case neg => rw [Ev.kz1 (by simp; omega)]; exact bad fun h => h2 (by rw [h]; exact ⟨rfl, rfl⟩)
 rw [Ev.yz1 (by simp [h2])]
 by_cases h3 : a.truth = b.truth
 case neg => rw [Ev.kz1 (by simpa using h3)]; exact bad fun h => h3 (by rw [h])
 rw [Ev.yz1 (by simp [h3])]
 by_cases h4 : a.str = b.str
 case neg => rw [Ev.kz1 (by simpa using h4)]; exact bad fun h => h4 (by rw [h])
 rw [Ev.yz1 (by simp [h4])]
 by_cases h5 : a.list.length = b.list.length
 case neg => rw [show ((a.list.length : Int) != (b.list.length : Int)) = true by simp; omega]; exact bad fun h => h5 (by rw [h])
 rw [show ((a.list.length : Int) != (b.list.length : Int)) = false by simp; omega, zi5, Ev.yz1 (by rfl), yz0.kz2, yz0.kz2]
 have loop : ∀ k, k ≤ a.list.length → Ev (fun n => z3q n (k : Int) (a.list.length : Int) b a) (eqB (a.list.drop k) (b.list.drop k)) :=
  down (by
   rw [zgy, Ev.yz1 (by simp), Ev.zz1, List.drop_length, h5, List.drop_length, yop]) fun k hk ihk => by
   have hk2 : k < b.list.length := by omega
   have hx := List.getElem_mem hk
   have hsx := zmv hx
   rw [← List.getElem_cons_drop (h := hk), ← List.getElem_cons_drop (h := hk2), yjk]
   rw [zgy, Ev.kz1 (by simpa using hk), Ev.yz2 (yzb hk), Ev.yz2 (yzb hk2), yz0.kz2, yz0.kz2, Ev.zz0 (ih _ hx _ (by omega))]
   cases hf : eqB a.list[k] b.list[k]
   ·rw [Ev.kz1 (by rfl), Ev.zz1]; rfl
   ·rw [Ev.yz1 (by rfl), wrk (by omega), yz0.kz2, yz0.kz2, Bool.true_and]
    exact ihk
 refine (loop 0 (Nat.zero_le _)).to ?_
 rw [List.drop_zero, List.drop_zero]
 by_cases h6 : a.list = b.list
 ·rw [zbj.2 h6, zbj.2 (vext h1 h2.1 h2.2 h3 h4 h6)]
 ·rw [zdj.2 h6, zdj.2 fun h => h6 (by rw [h])]
theorem y5x : ∀ a b : yz0, a.size ≤ 8388608 → Ev (fun n => z19 n a b) (eqB a b) := zw4 (P := fun a => ∀ b : yz0, a.size ≤ 8388608 → Ev (fun n => z19 n a b) (eqB a b)) fun a ih b hs => by
 have hsl := zak a
 have hlen := ziz a.list
 have bad : a ≠ b → Ev (fun n => z0a n true b a) (eqB a b) := fun h => by rw [zhj, Ev.kz1 (by rfl), Ev.zz1, zdj.2 h]
 rw [zvd, yz0.kz2, yz0.kz2]
 by_cases h1 : a.kind = b.kind
 case neg => rw [Ev.kz1 (by simpa using h1)]; exact bad fun h => h1 (by rw [h])
 rw [Ev.yz1 (by simpa using h1)]
 by_cases h2 : a.num.num = b.num.num ∧ a.num.den = b.num.den
 case neg => rw [Ev.kz1 (by simp; omega)]; exact bad fun h => h2 (by rw [h]; exact ⟨rfl, rfl⟩)
 rw [Ev.yz1 (by simp [h2])]
 by_cases h3 : a.truth = b.truth
 case neg => rw [Ev.kz1 (by simpa using h3)]; exact bad fun h => h3 (by rw [h])
 rw [Ev.yz1 (by simp [h3])]
 by_cases h4 : a.str = b.str
 case neg => rw [Ev.kz1 (by simpa using h4)]; exact bad fun h => h4 (by rw [h])
 rw [Ev.yz1 (by simp [h4])]
 by_cases h5 : a.list.length = b.list.length
 case neg => rw [show ((a.list.length : Int) != (b.list.length : Int)) = true by simp; omega]; exact bad fun h => h5 (by rw [h])
 rw [show ((a.list.length : Int) != (b.list.length : Int)) = false by simp; omega, zhj, Ev.yz1 (by rfl), yz0.kz2, yz0.kz2]
 have loop : ∀ k, k ≤ a.list.length → Ev (fun n => z3i n (k : Int) b a) (eqB (a.list.drop k) (b.list.drop k)) :=
  down (by
   rw [zh7, Ev.yz1 (by simp), Ev.zz1, List.drop_length, h5, List.drop_length, yop]) fun k hk ihk => by
   have hk2 : k < b.list.length := by omega
   have hx := List.getElem_mem hk
   have hsx := zmv hx
   rw [← List.getElem_cons_drop (h := hk), ← List.getElem_cons_drop (h := hk2), yjk]
   rw [zh7, Ev.kz1 (by simpa using hk), Ev.yz2 (yzb hk), Ev.yz2 (yzb hk2), yz0.kz2, yz0.kz2, Ev.zz0 (ih _ hx _ (by omega))]
   cases hf : eqB a.list[k] b.list[k]
   ·rw [Ev.kz1 (by rfl), Ev.zz1]; rfl
   ·rw [Ev.yz1 (by rfl), wrk (by omega), yz0.kz2, yz0.kz2, Bool.true_and]
    exact ihk
 refine (loop 0 (Nat.zero_le _)).to ?_
 rw [List.drop_zero, List.drop_zero]
 by_cases h6 : a.list = b.list
 ·rw [zbj.2 h6, zbj.2 (vext h1 h2.1 h2.2 h3 h4 h6)]
 ·rw [zdj.2 h6, zdj.2 fun h => h6 (by rw [h])]
theorem yig : ∀ v : yz0, v.size ≤ 8388608 → ∀ d : Int, ∃ b, Ev (fun n => z5w n v d) b := zw4 fun v ih hs d => by
 have hsl := zak v
 have hlen := ziz v.list
 have loop : ∀ k, k ≤ v.list.length → ∀ d : Int, ∃ b, Ev (fun n => z2g n (k : Int) d v) b :=
  down (fun d => ⟨false, by rw [zg2, Ev.yz1 (by simp), Ev.zz1]⟩) fun k hk ihk d => by
   have hx := List.getElem_mem hk
   have hsx := zmv hx
   obtain ⟨b, hb⟩ := ih _ hx (by omega) (IntKind.i64.wrap (d - 1))
   obtain ⟨c, hc⟩ := ihk d
   refine ⟨if b then true else c, ?_⟩
   rw [zg2, Ev.kz1 (by simpa using hk), Ev.yz2 (yzb hk), yz0.kz2, Ev.zz0 hb, yz0.kz2, wrk (by omega)]
   cases b
   ·rw [Ev.yz1 (by rfl)]; exact hc
   ·rw [Ev.kz1 (by rfl), Ev.zz1]; rfl
 have l0 : ∀ d b, ∃ c, Ev (fun n => z18 n d b v) c := fun d b => by
  cases b
  ·obtain ⟨c, hc⟩ := loop 0 (Nat.zero_le _) d
   exact ⟨c, by rw [zg6, Ev.yz1 (by rfl), yz0.kz2]; exact hc⟩
  ·exact ⟨true, by rw [zg6, Ev.kz1 (by rfl), Ev.zz1]⟩
 simp only [zrq, yz0.kz2, Ev.pif]
 split
 ·exact l0 _ _
 split
 ·exact l0 _ _
 ·exact l0 _ _
theorem yk3 {v : yz0} (hs : v.size ≤ 8388608) : ∃ b, Ev (fun n => z7f n v) b := by
 obtain ⟨b, hb⟩ := yig v hs 10
 cases b
 ·exact ⟨_, by rw [zlp, yz0.kz2, Ev.zz0 hb, Ev.yz1 (by rfl), Ev.zz0 (y2c v hs)]; exact Ev.zz1.2 rfl⟩
 ·exact ⟨true, by rw [zlp, yz0.kz2, Ev.zz0 hb, Ev.kz1 (by rfl), Ev.zz1]⟩
end Go.Proofs.YtfhpamcehnfhoaaGreatDoor

