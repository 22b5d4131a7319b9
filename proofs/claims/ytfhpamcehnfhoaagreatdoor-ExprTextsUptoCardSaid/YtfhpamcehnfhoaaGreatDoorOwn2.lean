/-
  Go functions as Lean functions, by a program of this repo.
-/
import Derived.Test.YtfhpamcehnfhoaaGreatDoorOwn1
import Derived.Test.YtfhpamcehnfhoaaGreatDoorLib2
import Derived.Test.YtfhpamcehnfhoaaGreatDoorProg
namespace Go.Proofs.YtfhpamcehnfhoaaGreatDoor
open Go Go.Ab
set_option linter.unusedVariables false
set_option maxRecDepth 100000
mutual
def z6u : Nat → yz0 → Option Bool
 | 0, _ => none
 | n + 1, a0 =>
   pIf (a0.kind == 1)
     ((z1m n a0.num).bind fun y0 =>
     pIf (y0 == 0)
       (pIf (!a0.truth)
         (pIf ((a0.str.length : Int) == 0)
           (some ((a0.list.length : Int) == 0))
           (some false))
         (some false))
       (some false))
     (pIf (a0.kind == 2)
       (pIf ((a0.num.num == 0) && ((a0.num.den == 0) && true))
         (pIf ((a0.str.length : Int) == 0)
           (some ((a0.list.length : Int) == 0))
           (some false))
         (some false))
       (pIf (a0.kind == 3)
         (pIf (!((a0.num.num == 0) && ((a0.num.den == 0) && true)))
           (z0d n true a0.re)
           (pIf a0.truth
             (z0d n true a0.re)
             (pIf (decide ((a0.list.length : Int) > 0))
               (z0d n true a0.re)
               (z0d n (decide ((a0.str.length : Int) > 60)) a0.re))))
         (pIf (a0.kind == 4)
           (pIf (!((a0.num.num == 0) && ((a0.num.den == 0) && true)))
             (z11 n true a0.re)
             (pIf a0.truth
               (z11 n true a0.re)
               (z11 n (decide ((a0.str.length : Int) > 0)) a0.re)))
           (some false))))
def z0d : Nat → Bool → yz0 → Option Bool
 | 0, _, _ => none
 | n + 1, a0, a1 =>
   pIf a0
     (some false)
     (z3i n 0 a1.re)
def z3i : Nat → Int → yz0 → Option Bool
 | 0, _, _ => none
 | n + 1, a0, a1 =>
   pIf (decide (a0 < (a1.str.length : Int)))
     ((ix a1.str a0).bind fun x1 =>
     pIf (decide ((x1.toNat : Int) < 32))
       (z3m n a0 true a1.re)
       ((ix a1.str a0).bind fun x2 =>
       z3m n a0 (decide ((x2.toNat : Int) > 126)) a1.re))
     (some true)
def z3m : Nat → Int → Bool → yz0 → Option Bool
 | 0, _, _, _ => none
 | n + 1, a0, a1, a2 =>
   pIf a1
     (some false)
     (z3i n (IntKind.i64.wrap (a0 + 1)) a2.re)
def z11 : Nat → Bool → yz0 → Option Bool
 | 0, _, _ => none
 | n + 1, a0, a1 =>
   pIf a0
     (some false)
     (z34 n 0 a1.re)
def z34 : Nat → Int → yz0 → Option Bool
 | 0, _, _ => none
 | n + 1, a0, a1 =>
   pIf (decide (a0 < (a1.list.length : Int)))
     ((ix a1.list a0).bind fun x3 =>
     (z6u n x3.re).bind fun y4 =>
     pIf (!y4)
       (some false)
       (z34 n (IntKind.i64.wrap (a0 + 1)) a1.re))
     (some true)
end
def yck : LSh := ⟨[(2, (.d .bool))], [], 0, 121⟩
noncomputable def zdh : FI dat := FI.of dat 89 121 0 [(.d (.st 3))] [] [(.d .bool)] [] true yck (R := Bool) (fun x => x.1) (fun r => (r, ())) (fun n x => z6u n x.1)
 (fun n => [(0, ⟨⟨[(1, (.ptr 0 0)), (71, (.d .bool))], [(.st 3)], 0, 121⟩, fun x => z0d n x.1 x.2.1⟩), (1, ⟨⟨[(4, (.d (.int .i64))), (1, (.ptr 0 0))], [(.st 3)], 0, 121⟩, fun x => z3i n x.1 x.2.1⟩), (2, ⟨⟨[(1, (.ptr 0 0)), (4, (.d (.int .i64))), (90, (.d .bool))], [(.st 3)], 0, 121⟩, fun x => z3m n x.1 x.2.1 x.2.2.1⟩), (3, ⟨⟨[(1, (.ptr 0 0)), (106, (.d .bool))], [(.st 3)], 0, 121⟩, fun x => z11 n x.1 x.2.1⟩), (4, ⟨⟨[(5, (.d (.int .i64))), (1, (.ptr 0 0))], [(.st 3)], 0, 121⟩, fun x => z34 n x.1 x.2.1⟩)]) (ann [(26, 0), (35, 1), (46, 2), (61, 3), (70, 4)] (Tryz.f89.body.getD .skip) 0).1
noncomputable def ycl : List (FI dat) := [zdh] ++ [z6s]
theorem yfe : (zdh).Good Tryz.prog dat (tb ycl) := FI.yz5 (hD := zz3 _) Tryz.func89 Tryz.ntmps89 Tryz.call89 (by kernel_rfl) (of_decide_eq_true (by kernel_rfl)) (by kernel_rfl) (fun n => by kernel_rfl) (fun x => by kernel_rfl) (fun _ => rfl) ⟨fun _ => rfl, fun _ => rfl, fun _ => rfl, fun _ => rfl, fun _ => rfl, trivial⟩
 (fun n => fun x => (z6u.eq_2 x.1 n).trans (by kernel_rfl))
 (fun n => ⟨fun x => (z0d.eq_2 x.1 x.2.1 n).trans (by kernel_rfl),
  fun x => (z3i.eq_2 x.1 x.2.1 n).trans (by kernel_rfl),
  fun x => (z3m.eq_2 x.1 x.2.1 x.2.2.1 n).trans (by kernel_rfl),
  fun x => (z11.eq_2 x.1 x.2.1 n).trans (by kernel_rfl),
  fun x => (z34.eq_2 x.1 x.2.1 n).trans (by kernel_rfl),
  trivial⟩)
 (fun x => .inl rfl)
theorem ydl : OkL Tryz.prog [zdh] := z4s (zz3 _) (bs := [z6s]) ⟨zkx, trivial⟩ ⟨yfe, trivial⟩
theorem y94 : FOk Tryz.prog zdh := ydl.1
mutual
def z7b : Nat → yz0 → Option Int
 | 0, _ => none
 | n + 1, a0 =>
   (z4l n a0.re).bind fun y0 =>
   pIf (decide (y0 > 100))
     (z2h n true a0.re)
     ((z6y n a0.re).bind fun y1 =>
     z2h n (decide (y1 > 6)) a0.re)
def z2h : Nat → Bool → yz0 → Option Int
 | 0, _, _ => none
 | n + 1, a0, a1 =>
   pIf a0
     (some 4)
     ((z6u n a1.re).bind fun y2 =>
     pIf (!y2)
       (some 8)
       (some 0))
end
def y9r : LSh := ⟨[(2, (.d (.int .i64)))], [], 0, 14⟩
noncomputable def zeh : FI dat := FI.of dat 55 14 0 [(.d (.st 3))] [] [(.d (.int .i64))] [] true y9r (R := Int) (fun x => x.1) (fun r => (r, ())) (fun n x => z7b n x.1)
 (fun n => [(0, ⟨⟨[(1, (.ptr 0 0)), (10, (.d .bool))], [(.st 3)], 0, 14⟩, fun x => z2h n x.1 x.2.1⟩)]) (ann [(5, 0)] (Tryz.f55.body.getD .skip) 0).1
noncomputable def y8r : List (FI dat) := [z8h, zdi, zdh]
theorem yaj : (zeh).Good Tryz.prog dat (tb y8r) := FI.yz5 (hD := zz3 _) Tryz.func55 Tryz.ntmps55 Tryz.call55 (by kernel_rfl) (of_decide_eq_true (by kernel_rfl)) (by kernel_rfl) (fun n => by kernel_rfl) (fun x => by kernel_rfl) (fun _ => rfl) ⟨fun _ => rfl, trivial⟩
 (fun n => fun x => (z7b.eq_2 x.1 n).trans (by kernel_rfl))
 (fun n => ⟨fun x => (z2h.eq_2 x.1 x.2.1 n).trans (by kernel_rfl),
  trivial⟩)
 (fun x => .inl rfl)
theorem ya7 : OkL Tryz.prog [zeh] := yze (zz3 _) (bs := [z8h, zdi, zdh]) ⟨zs9, y8m, y94, trivial⟩ yaj
theorem y6m : FOk Tryz.prog zeh := ya7.1
mutual
def z1c : Nat → yz0 → yz0 → Option Bool
 | 0, _, _ => none
 | n + 1, a0, a1 =>
   pIf (a0.kind != a1.kind)
     (z0g n true a1.re a0.re)
     (pIf (!((a0.num.num == a1.num.num) && ((a0.num.den == a1.num.den) && true)))
       (z0g n true a1.re a0.re)
       (pIf (!(a0.truth == a1.truth))
         (z0g n true a1.re a0.re)
         (pIf (!(a0.str == a1.str))
           (z0g n true a1.re a0.re)
           (z0g n ((a0.list.length : Int) != (a1.list.length : Int)) a1.re a0.re))))
def z0g : Nat → Bool → yz0 → yz0 → Option Bool
 | 0, _, _, _ => none
 | n + 1, a0, a1, a2 =>
   pIf a0
     (some false)
     (z38 n 0 a1.re a2.re)
def z38 : Nat → Int → yz0 → yz0 → Option Bool
 | 0, _, _, _ => none
 | n + 1, a0, a1, a2 =>
   pIf (decide (a0 < (a2.list.length : Int)))
     ((ix a2.list a0).bind fun x0 =>
     (ix a1.list a0).bind fun x1 =>
     (z1c n x0.re x1.re).bind fun y2 =>
     pIf (!y2)
       (some false)
       (z38 n (IntKind.i64.wrap (a0 + 1)) a1.re a2.re))
     (some true)
end
def ygn : LSh := ⟨[(4, (.d .bool))], [], 0, 60⟩
noncomputable def z9m : FI dat := FI.of dat 23 60 0 [(.d (.st 3)), (.d (.st 3))] [] [(.d .bool)] [] true ygn (R := Bool) (fun x => x.1) (fun r => (r, ())) (fun n x => z1c n x.1 x.2.1)
 (fun n => [(0, ⟨⟨[(3, (.ptr 0 0)), (2, (.ptr 1 0)), (40, (.d .bool))], [(.st 3), (.st 3)], 0, 60⟩, fun x => z0g n x.1 x.2.1 x.2.2.1⟩), (1, ⟨⟨[(5, (.d (.int .i64))), (3, (.ptr 0 0)), (2, (.ptr 1 0))], [(.st 3), (.st 3)], 0, 60⟩, fun x => z38 n x.1 x.2.1 x.2.2.1⟩)]) (ann [(5, 0), (14, 1)] (Tryz.f23.body.getD .skip) 0).1
noncomputable def yf8 : List (FI dat) := [z9m] ++ []
theorem yf9 : (z9m).Good Tryz.prog dat (tb yf8) := FI.yz5 (hD := zz3 _) Tryz.func23 Tryz.ntmps23 Tryz.call23 (by kernel_rfl) (of_decide_eq_true (by kernel_rfl)) (by kernel_rfl) (fun n => by kernel_rfl) (fun x => by kernel_rfl) (fun _ => rfl) ⟨fun _ => rfl, fun _ => rfl, trivial⟩
 (fun n => fun x => (z1c.eq_2 x.1 x.2.1 n).trans (by kernel_rfl))
 (fun n => ⟨fun x => (z0g.eq_2 x.1 x.2.1 x.2.2.1 n).trans (by kernel_rfl),
  fun x => (z38.eq_2 x.1 x.2.1 x.2.2.1 n).trans (by kernel_rfl),
  trivial⟩)
 (fun x => .inl rfl)
theorem yf0 : OkL Tryz.prog [z9m] := z4s (zz3 _) (bs := []) trivial ⟨yf9, trivial⟩
theorem zvu : FOk Tryz.prog z9m := yf0.1
def z64 : Nat → Int → Option Bool
 | 0, _ => none
 | n + 1, a0 =>
   pIf (decide (a0 ≥ 97))
     (some (decide (a0 ≤ 122)))
     (some false)
def y5f : LSh := ⟨[(2, (.d .bool))], [], 0, 9⟩
noncomputable def zcm : FI dat := FI.of dat 86 9 0 [(.d (.int .u8))] [] [(.d .bool)] [] true y5f (R := Bool) (fun x => x.1) (fun r => (r, ())) (fun n x => z64 n x.1)
 (fun n => []) (ann [] (Tryz.f86.body.getD .skip) 0).1
noncomputable def y55 : List (FI dat) := []
theorem y5m : (zcm).Good Tryz.prog dat (tb y55) := FI.yz5 (hD := zz3 _) Tryz.func86 Tryz.ntmps86 Tryz.call86 (by kernel_rfl) (of_decide_eq_true (by kernel_rfl)) (by kernel_rfl) (fun n => by kernel_rfl) (fun x => by kernel_rfl) (fun _ => rfl) trivial
 (fun n => fun x => (z64.eq_2 x.1 n).trans (by kernel_rfl))
 (fun n => trivial)
 (fun x => .inl rfl)
theorem y51 : OkL Tryz.prog [zcm] := yze (zz3 _) (bs := []) trivial y5m
theorem y38 : FOk Tryz.prog zcm := y51.1
def z7k : Nat → Int → Option Bool
 | 0, _ => none
 | n + 1, a0 =>
   pIf (decide (a0 ≥ 48))
     (some (decide (a0 ≤ 57)))
     (some false)
def yaf : LSh := ⟨[(2, (.d .bool))], [], 0, 9⟩
noncomputable def ze8 : FI dat := FI.of dat 87 9 0 [(.d (.int .u8))] [] [(.d .bool)] [] true yaf (R := Bool) (fun x => x.1) (fun r => (r, ())) (fun n x => z7k n x.1)
 (fun n => []) (ann [] (Tryz.f87.body.getD .skip) 0).1
noncomputable def y8p : List (FI dat) := []
theorem y9l : (ze8).Good Tryz.prog dat (tb y8p) := FI.yz5 (hD := zz3 _) Tryz.func87 Tryz.ntmps87 Tryz.call87 (by kernel_rfl) (of_decide_eq_true (by kernel_rfl)) (by kernel_rfl) (fun n => by kernel_rfl) (fun x => by kernel_rfl) (fun _ => rfl) trivial
 (fun n => fun x => (z7k.eq_2 x.1 n).trans (by kernel_rfl))
 (fun n => trivial)
 (fun x => .inl rfl)
theorem ya4 : OkL Tryz.prog [ze8] := yze (zz3 _) (bs := []) trivial y9l
theorem y5i : FOk Tryz.prog ze8 := ya4.1
mutual
def z8g : Nat → (List UInt8) → Option Bool
 | 0, _ => none
 | n + 1, a0 =>
   z00 n 0 a0
def z00 : Nat → Int → (List UInt8) → Option Bool
 | 0, _, _ => none
 | n + 1, a0, a1 =>
   pIf (decide (a0 < (a1.length : Int)))
     ((ix a1 a0).bind fun x0 =>
     (z64 n (x0.toNat : Int)).bind fun y1 =>
     pIf (!y1)
       (pIf (a0 == 0)
         (z0b n a1 a0 true)
         ((ix a1 a0).bind fun x2 =>
         pIf ((x2.toNat : Int) != 45)
           ((ix a1 a0).bind fun x3 =>
           (z7k n (x3.toNat : Int)).bind fun y4 =>
           z0b n a1 a0 (!y4))
           (z0b n a1 a0 false)))
       (z0b n a1 a0 false))
     (pIf (decide ((a1.length : Int) ≥ 1))
       (some (decide ((a1.length : Int) ≤ 40)))
       (some false))
def z0b : Nat → (List UInt8) → Int → Bool → Option Bool
 | 0, _, _, _ => none
 | n + 1, a0, a1, a2 =>
   pIf a2
     (some false)
     (z00 n (IntKind.i64.wrap (a1 + 1)) a0)
end
def yfk : LSh := ⟨[(2, (.d .bool))], [], 0, 40⟩
noncomputable def zfp : FI dat := FI.of dat 54 40 0 [(.d .str)] [] [(.d .bool)] [] true yfk (R := Bool) (fun x => x.1) (fun r => (r, ())) (fun n x => z8g n x.1)
 (fun n => [(0, ⟨⟨[(3, (.d (.int .i64))), (0, (.d .str))], [], 0, 40⟩, fun x => z00 n x.1 x.2.1⟩), (1, ⟨⟨[(0, (.d .str)), (3, (.d (.int .i64))), (31, (.d .bool))], [], 0, 40⟩, fun x => z0b n x.1 x.2.1 x.2.2.1⟩)]) (ann [(6, 0), (17, 1)] (Tryz.f54.body.getD .skip) 0).1
noncomputable def yg8 : List (FI dat) := [zcm, ze8]
theorem yfs : (zfp).Good Tryz.prog dat (tb yg8) := FI.yz5 (hD := zz3 _) Tryz.func54 Tryz.ntmps54 Tryz.call54 (by kernel_rfl) (of_decide_eq_true (by kernel_rfl)) (by kernel_rfl) (fun n => by kernel_rfl) (fun x => by kernel_rfl) (fun _ => rfl) ⟨fun _ => rfl, fun _ => rfl, trivial⟩
 (fun n => fun x => (z8g.eq_2 x.1 n).trans (by kernel_rfl))
 (fun n => ⟨fun x => (z00.eq_2 x.1 x.2.1 n).trans (by kernel_rfl),
  fun x => (z0b.eq_2 x.1 x.2.1 x.2.2.1 n).trans (by kernel_rfl),
  trivial⟩)
 (fun x => .inl rfl)
theorem yfb : OkL Tryz.prog [zfp] := yze (zz3 _) (bs := [zcm, ze8]) ⟨y38, y5i, trivial⟩ yfs
theorem y9m : FOk Tryz.prog zfp := yfb.1
def z7i : Nat → (List UInt8) → Option Bool
 | 0, _ => none
 | n + 1, a0 =>
   (z8g n a0).bind fun y0 =>
   pIf y0
     (pIf (!(a0 == [116, 114, 117, 101]))
       (some (!(a0 == [102, 97, 108, 115, 101])))
       (some false))
     (some false)
def y8q : LSh := ⟨[(2, (.d .bool))], [], 0, 13⟩
noncomputable def ze7 : FI dat := FI.of dat 98 13 0 [(.d .str)] [] [(.d .bool)] [] true y8q (R := Bool) (fun x => x.1) (fun r => (r, ())) (fun n x => z7i n x.1)
 (fun n => []) (ann [] (Tryz.f98.body.getD .skip) 0).1
noncomputable def y9b : List (FI dat) := [zfp]
theorem ybi : (ze7).Good Tryz.prog dat (tb y9b) := FI.yz5 (hD := zz3 _) Tryz.func98 Tryz.ntmps98 Tryz.call98 (by kernel_rfl) (of_decide_eq_true (by kernel_rfl)) (by kernel_rfl) (fun n => by kernel_rfl) (fun x => by kernel_rfl) (fun _ => rfl) trivial
 (fun n => fun x => (z7i.eq_2 x.1 n).trans (by kernel_rfl))
 (fun n => trivial)
 (fun x => .inl rfl)
theorem yb2 : OkL Tryz.prog [ze7] := yze (zz3 _) (bs := [zfp]) ⟨y9m, trivial⟩ ybi
theorem y61 : FOk Tryz.prog ze7 := yb2.1
mutual
def z73 : Nat → kz0 → Option Bool
 | 0, _ => none
 | n + 1, a0 =>
   (z8p n a0.op).bind fun y0 =>
   pIf (y0 == (-2))
     (z22 n true a0.re)
     (pIf (decide (y0 ≥ 0))
       (z22 n ((a0.args.length : Int) != y0) a0.re)
       (z22 n false a0.re))
def z22 : Nat → Bool → kz0 → Option Bool
 | 0, _, _ => none
 | n + 1, a0, a1 =>
   pIf a0
     (some false)
     (pIf (a1.op == 1)
       ((z7b n a1.value.re).bind fun y1 =>
       pIf (y1 != 0)
         (z01 n true a1.re)
         (pIf (a1.value.kind == 4)
           (z01 n true a1.re)
           (pIf (a1.op != 1)
             ((z1c n a1.value.re (yz0.mk 0 (zz2.mk 0 0) false [] [])).bind fun y2 =>
             z01 n (!y2) a1.re)
             (z01 n false a1.re))))
       (pIf (a1.op != 1)
         ((z1c n a1.value.re (yz0.mk 0 (zz2.mk 0 0) false [] [])).bind fun y3 =>
         z01 n (!y3) a1.re)
         (z01 n false a1.re)))
def z01 : Nat → Bool → kz0 → Option Bool
 | 0, _, _ => none
 | n + 1, a0, a1 =>
   pIf a0
     (some false)
     (pIf (a1.op == 2)
       ((z7i n a1.name).bind fun y4 =>
       pIf (!y4)
         (z0e n true a1.re)
         (pIf (a1.op != 2)
           (z0e n (decide ((a1.name.length : Int) > 0)) a1.re)
           (z0e n false a1.re)))
       (pIf (a1.op != 2)
         (z0e n (decide ((a1.name.length : Int) > 0)) a1.re)
         (z0e n false a1.re)))
def z0e : Nat → Bool → kz0 → Option Bool
 | 0, _, _ => none
 | n + 1, a0, a1 =>
   pIf a0
     (some false)
     (z3c n 0 a1.re)
def z3c : Nat → Int → kz0 → Option Bool
 | 0, _, _ => none
 | n + 1, a0, a1 =>
   pIf (decide (a0 < (a1.args.length : Int)))
     ((ix a1.args a0).bind fun x5 =>
     (z73 n x5.re).bind fun y6 =>
     pIf (!y6)
       (some false)
       (z3c n (IntKind.i64.wrap (a0 + 1)) a1.re))
     (some true)
end
def yft : LSh := ⟨[(2, (.d .bool))], [], 0, 82⟩
noncomputable def zdn : FI dat := FI.of dat 68 82 0 [(.d (.st 4))] [] [(.d .bool)] [] true yft (R := Bool) (fun x => x.1) (fun r => (r, ())) (fun n x => z73 n x.1)
 (fun n => [(0, ⟨⟨[(1, (.ptr 0 0)), (20, (.d .bool))], [(.st 4)], 0, 82⟩, fun x => z22 n x.1 x.2.1⟩), (1, ⟨⟨[(1, (.ptr 0 0)), (47, (.d .bool))], [(.st 4)], 0, 82⟩, fun x => z01 n x.1 x.2.1⟩), (2, ⟨⟨[(1, (.ptr 0 0)), (67, (.d .bool))], [(.st 4)], 0, 82⟩, fun x => z0e n x.1 x.2.1⟩), (3, ⟨⟨[(4, (.d (.int .i64))), (1, (.ptr 0 0))], [(.st 4)], 0, 82⟩, fun x => z3c n x.1 x.2.1⟩)]) (ann [(7, 0), (15, 1), (23, 2), (32, 3)] (Tryz.f68.body.getD .skip) 0).1
noncomputable def ygh : List (FI dat) := [zdn] ++ [zg8, zeh, z9m, ze7]
theorem ydr : (zdn).Good Tryz.prog dat (tb ygh) := FI.yz5 (hD := zz3 _) Tryz.func68 Tryz.ntmps68 Tryz.call68 (by kernel_rfl) (of_decide_eq_true (by kernel_rfl)) (by kernel_rfl) (fun n => by kernel_rfl) (fun x => by kernel_rfl) (fun _ => rfl) ⟨fun _ => rfl, fun _ => rfl, fun _ => rfl, fun _ => rfl, trivial⟩
 (fun n => fun x => (z73.eq_2 x.1 n).trans (by kernel_rfl))
 (fun n => ⟨fun x => (z22.eq_2 x.1 x.2.1 n).trans (by kernel_rfl),
  fun x => (z01.eq_2 x.1 x.2.1 n).trans (by kernel_rfl),
  fun x => (z0e.eq_2 x.1 x.2.1 n).trans (by kernel_rfl),
  fun x => (z3c.eq_2 x.1 x.2.1 n).trans (by kernel_rfl),
  trivial⟩)
 (fun x => .inl rfl)
theorem ygl : OkL Tryz.prog [zdn] := z4s (zz3 _) (bs := [zg8, zeh, z9m, ze7]) ⟨y9e, y6m, zvu, y61, trivial⟩ ⟨ydr, trivial⟩
theorem y9o : FOk Tryz.prog zdn := ygl.1
mutual
def z1n : Nat → kz0 → Option Int
 | 0, _ => none
 | n + 1, a0 =>
   (z4g n a0.re).bind fun y0 =>
   pIf (decide (y0 > 100))
     (z2j n true a0.re)
     ((z7a n a0.re).bind fun y1 =>
     z2j n (decide (y1 > 12)) a0.re)
def z2j : Nat → Bool → kz0 → Option Int
 | 0, _, _ => none
 | n + 1, a0, a1 =>
   pIf a0
     (some 4)
     ((z73 n a1.re).bind fun y2 =>
     pIf (!y2)
       (some 8)
       (some 0))
end
def y8g : LSh := ⟨[(2, (.d (.int .i64)))], [], 0, 14⟩
noncomputable def z6r : FI dat := FI.of dat 40 14 0 [(.d (.st 4))] [] [(.d (.int .i64))] [] true y8g (R := Int) (fun x => x.1) (fun r => (r, ())) (fun n x => z1n n x.1)
 (fun n => [(0, ⟨⟨[(1, (.ptr 0 0)), (10, (.d .bool))], [(.st 4)], 0, 14⟩, fun x => z2j n x.1 x.2.1⟩)]) (ann [(5, 0)] (Tryz.f40.body.getD .skip) 0).1
noncomputable def y9c : List (FI dat) := [z8n, zdo, zdn]
theorem y86 : (z6r).Good Tryz.prog dat (tb y9c) := FI.yz5 (hD := zz3 _) Tryz.func40 Tryz.ntmps40 Tryz.call40 (by kernel_rfl) (of_decide_eq_true (by kernel_rfl)) (by kernel_rfl) (fun n => by kernel_rfl) (fun x => by kernel_rfl) (fun _ => rfl) ⟨fun _ => rfl, trivial⟩
 (fun n => fun x => (z1n.eq_2 x.1 n).trans (by kernel_rfl))
 (fun n => ⟨fun x => (z2j.eq_2 x.1 x.2.1 n).trans (by kernel_rfl),
  trivial⟩)
 (fun x => .inl rfl)
theorem yb6 : OkL Tryz.prog [z6r] := yze (zz3 _) (bs := [z8n, zdo, zdn]) ⟨zt5, y8c, y9o, trivial⟩ y86
theorem zlr : FOk Tryz.prog z6r := yb6.1
end Go.Proofs.YtfhpamcehnfhoaaGreatDoor


namespace Go.Proofs.YtfhpamcehnfhoaaGreatDoor
open Go Go.Ab
set_option linter.unusedVariables false
set_option maxRecDepth 100000
mutual
def z02 : Nat → Int → Option (List UInt8)
 | 0, _ => none
 | n + 1, a0 =>
   pIf (decide (a0 < 0))
     ((z02 n (IntKind.i64.wrap (0 - a0))).bind fun y0 =>
     (cat [45] y0).bind fun x1 =>
     some x1)
     (z08 n a0 [])
def z08 : Nat → Int → (List UInt8) → Option (List UInt8)
 | 0, _, _ => none
 | n + 1, a0, a1 =>
   (rem .i64 a0 10).bind fun x2 =>
   (zqy [(IntKind.u8.wrap (IntKind.i64.wrap (48 + x2)))]).bind fun x3 =>
   (cat x3 a1).bind fun x4 =>
   (quo .i64 a0 10).bind fun x5 =>
   pIf (x5 == 0)
     (some x4)
     (z08 n x5 x4)
end
def y2x : LSh := ⟨[(2, (.d .str))], [], 0, 23⟩
noncomputable def z62 : FI dat := FI.of dat 132 23 0 [(.d (.int .i64))] [] [(.d .str)] [] true y2x (R := List UInt8) (fun x => x.1) (fun r => (r, ())) (fun n x => z02 n x.1)
 (fun n => [(0, ⟨⟨[(0, (.d (.int .i64))), (3, (.d .str))], [], 0, 23⟩, fun x => z08 n x.1 x.2.1⟩)]) (ann [(13, 0)] (Tryz.f132.body.getD .skip) 0).1
noncomputable def y2y : List (FI dat) := [z62] ++ []
theorem y3d : (z62).Good Tryz.prog dat (tb y2y) := FI.yz5 (hD := zz3 _) Tryz.func132 Tryz.ntmps132 Tryz.call132 (by kernel_rfl) (of_decide_eq_true (by kernel_rfl)) (by kernel_rfl) (fun n => by kernel_rfl) (fun x => by kernel_rfl) (fun _ => rfl) ⟨fun _ => rfl, trivial⟩
 (fun n => fun x => (z02.eq_2 x.1 n).trans (by kernel_rfl))
 (fun n => ⟨fun x => (z08.eq_2 x.1 x.2.1 n).trans (by kernel_rfl),
  trivial⟩)
 (fun x => .inl rfl)
theorem y3c : OkL Tryz.prog [z62] := z4s (zz3 _) (bs := []) trivial ⟨y3d, trivial⟩
theorem zoh : FOk Tryz.prog z62 := y3c.1
def zbq : Nat → zz2 → Option ((List UInt8) × Int)
 | 0, _ => none
 | n + 1, a0 =>
   (z1m n a0).bind fun y0 =>
   pIf (y0 != 0)
     ((z1m n a0).bind fun y1 =>
     some ([], y1))
     (pIf (a0.den == 1)
       ((z02 n a0.num).bind fun y2 =>
       some (y2, 0))
       ((z02 n a0.num).bind fun y3 =>
       (cat y3 [47]).bind fun x4 =>
       (z02 n a0.den).bind fun y5 =>
       (cat x4 y5).bind fun x6 =>
       some (x6, 0)))
def yee : LSh := ⟨[(2, (.d .str)), (3, (.d (.int .i64)))], [], 0, 23⟩
noncomputable def zgr : FI dat := FI.of dat 99 23 0 [(.d (.st 2))] [] [(.d .str), (.d (.int .i64))] [] true yee (R := (List UInt8) × Int) (fun x => (x.1, x.2.1)) (fun r => (r.1, r.2, ())) (fun n x => zbq n x.1)
 (fun n => []) (ann [] (Tryz.f99.body.getD .skip) 0).1
noncomputable def yew : List (FI dat) := [z6s, z62]
theorem ycx : (zgr).Good Tryz.prog dat (tb yew) := FI.yz5 (hD := zz3 _) Tryz.func99 Tryz.ntmps99 Tryz.call99 (by kernel_rfl) (of_decide_eq_true (by kernel_rfl)) (by kernel_rfl) (fun n => by kernel_rfl) (fun x => by kernel_rfl) (fun _ => rfl) trivial
 (fun n => fun x => (zbq.eq_2 x.1 n).trans (by kernel_rfl))
 (fun n => trivial)
 (fun x => .inl rfl)
theorem yd7 : OkL Tryz.prog [zgr] := yze (zz3 _) (bs := [z6s, z62]) ⟨zkx, zoh, trivial⟩ ycx
theorem y90 : FOk Tryz.prog zgr := yd7.1
mutual
def z6k : Nat → yz0 → Option (List UInt8)
 | 0, _ => none
 | n + 1, a0 =>
   pIf (a0.kind == 1)
     ((zbq n a0.num).bind fun y0 =>
     some y0.1)
     (pIf (a0.kind == 2)
       (pIf a0.truth
         (some [116, 114, 117, 101])
         (some [102, 97, 108, 115, 101]))
       (pIf (a0.kind == 3)
         (z47 n 0 [34] a0.re)
         (zab n 0 [91] a0.re)))
def z47 : Nat → Int → (List UInt8) → yz0 → Option (List UInt8)
 | 0, _, _, _ => none
 | n + 1, a0, a1, a2 =>
   pIf (decide (a0 < (a2.str.length : Int)))
     ((ix a2.str a0).bind fun x1 =>
     pIf ((x1.toNat : Int) == 34)
       (z45 n a0 a1 true a2.re)
       ((ix a2.str a0).bind fun x2 =>
       z45 n a0 a1 ((x2.toNat : Int) == 92) a2.re))
     ((cat a1 [34]).bind fun x3 =>
     some x3)
def z45 : Nat → Int → (List UInt8) → Bool → yz0 → Option (List UInt8)
 | 0, _, _, _, _ => none
 | n + 1, a0, a1, a2, a3 =>
   pIf a2
     ((cat a1 [92]).bind fun x6 =>
     z41 n a0 x6 a3.re)
     (z41 n a0 a1 a3.re)
def z41 : Nat → Int → (List UInt8) → yz0 → Option (List UInt8)
 | 0, _, _, _ => none
 | n + 1, a0, a1, a2 =>
   (sub a2.str a0 (IntKind.i64.wrap (a0 + 1))).bind fun x10 =>
   (cat a1 x10).bind fun x11 =>
   z47 n (IntKind.i64.wrap (a0 + 1)) x11 a2.re
def zab : Nat → Int → (List UInt8) → yz0 → Option (List UInt8)
 | 0, _, _, _ => none
 | n + 1, a0, a1, a2 =>
   pIf (decide (a0 < (a2.list.length : Int)))
     (pIf (decide (a0 > 0))
       ((cat a1 [44, 32]).bind fun x4 =>
       zaa n a0 x4 a2.re)
       (zaa n a0 a1 a2.re))
     ((cat a1 [93]).bind fun x5 =>
     some x5)
def zaa : Nat → Int → (List UInt8) → yz0 → Option (List UInt8)
 | 0, _, _, _ => none
 | n + 1, a0, a1, a2 =>
   (ix a2.list a0).bind fun x7 =>
   (z6k n x7.re).bind fun y8 =>
   (cat a1 y8).bind fun x9 =>
   zab n (IntKind.i64.wrap (a0 + 1)) x9 a2.re
end
def y31 : LSh := ⟨[(2, (.d .str))], [], 0, 78⟩
noncomputable def z9j : FI dat := FI.of dat 69 78 0 [(.d (.st 3))] [] [(.d .str)] [] true y31 (R := List UInt8) (fun x => x.1) (fun r => (r, ())) (fun n x => z6k n x.1)
 (fun n => [(0, ⟨⟨[(6, (.d (.int .i64))), (1, (.ptr 0 0)), (5, (.d .str))], [(.st 3)], 0, 78⟩, fun x => z47 n x.1 x.2.1 x.2.2.1⟩), (1, ⟨⟨[(1, (.ptr 0 0)), (6, (.d (.int .i64))), (5, (.d .str)), (44, (.d .bool))], [(.st 3)], 0, 78⟩, fun x => z45 n x.1 x.2.1 x.2.2.1 x.2.2.2.1⟩), (2, ⟨⟨[(1, (.ptr 0 0)), (6, (.d (.int .i64))), (5, (.d .str))], [(.st 3)], 0, 78⟩, fun x => z41 n x.1 x.2.1 x.2.2.1⟩), (3, ⟨⟨[(8, (.d (.int .i64))), (1, (.ptr 0 0)), (7, (.d .str))], [(.st 3)], 0, 78⟩, fun x => zab n x.1 x.2.1 x.2.2.1⟩), (4, ⟨⟨[(1, (.ptr 0 0)), (8, (.d (.int .i64))), (7, (.d .str))], [(.st 3)], 0, 78⟩, fun x => zaa n x.1 x.2.1 x.2.2.1⟩)]) (ann [(37, 0), (49, 1), (52, 2), (64, 3), (79, 4)] (Tryz.f69.body.getD .skip) 0).1
noncomputable def y3m : List (FI dat) := [z9j] ++ [zgr]
theorem y3s : (z9j).Good Tryz.prog dat (tb y3m) := FI.yz5 (hD := zz3 _) Tryz.func69 Tryz.ntmps69 Tryz.call69 (by kernel_rfl) (of_decide_eq_true (by kernel_rfl)) (by kernel_rfl) (fun n => by kernel_rfl) (fun x => by kernel_rfl) (fun _ => rfl) ⟨fun _ => rfl, fun _ => rfl, fun _ => rfl, fun _ => rfl, fun _ => rfl, trivial⟩
 (fun n => fun x => (z6k.eq_2 x.1 n).trans (by kernel_rfl))
 (fun n => ⟨fun x => (z47.eq_2 x.1 x.2.1 x.2.2.1 n).trans (by kernel_rfl),
  fun x => (z45.eq_2 x.1 x.2.1 x.2.2.1 x.2.2.2.1 n).trans (by kernel_rfl),
  fun x => (z41.eq_2 x.1 x.2.1 x.2.2.1 n).trans (by kernel_rfl),
  fun x => (zab.eq_2 x.1 x.2.1 x.2.2.1 n).trans (by kernel_rfl),
  fun x => (zaa.eq_2 x.1 x.2.1 x.2.2.1 n).trans (by kernel_rfl),
  trivial⟩)
 (fun x => .inl rfl)
theorem y3e : OkL Tryz.prog [z9j] := z4s (zz3 _) (bs := [zgr]) ⟨y90, trivial⟩ ⟨y3s, trivial⟩
theorem y0c : FOk Tryz.prog z9j := y3e.1
mutual
def z6q : Nat → Int → Option (List UInt8)
 | 0, _ => none
 | n + 1, a0 =>
   pIf (decide (a0 ≥ 3))
     (z8t n a0 (decide (a0 ≤ 10)) (za7.mk [43] [45] [42] [47] [60] [61] [97, 110, 100] [111, 114]))
     (z8t n a0 false (za7.mk [43] [45] [42] [47] [60] [61] [97, 110, 100] [111, 114]))
def z8t : Nat → Int → Bool → za7 → Option (List UInt8)
 | 0, _, _, _ => none
 | n + 1, a0, a1, a2 =>
   pIf a1
     ((inR 8 (IntKind.u8.wrap (a0 - 3))).bind fun x0 =>
     pIf ((IntKind.u8.wrap (a0 - 3)) == (((6 + 1) : Nat) : Int))
       (some a2.e7)
       (pIf ((IntKind.u8.wrap (a0 - 3)) == (((5 + 1) : Nat) : Int))
         (some a2.e6)
         (pIf ((IntKind.u8.wrap (a0 - 3)) == (((4 + 1) : Nat) : Int))
           (some a2.e5)
           (pIf ((IntKind.u8.wrap (a0 - 3)) == (((3 + 1) : Nat) : Int))
             (some a2.e4)
             (pIf ((IntKind.u8.wrap (a0 - 3)) == (((2 + 1) : Nat) : Int))
               (some a2.e3)
               (pIf ((IntKind.u8.wrap (a0 - 3)) == (((1 + 1) : Nat) : Int))
                 (some a2.e2)
                 (pIf ((IntKind.u8.wrap (a0 - 3)) == (((0 + 1) : Nat) : Int))
                   (some a2.e1)
                   (some a2.e0))))))))
     (some [])
end
def yeq : LSh := ⟨[(2, (.d .str))], [], 0, 15⟩
noncomputable def zb9 : FI dat := FI.of dat 70 15 0 [(.d (.int .u8))] [] [(.d .str)] [] true yeq (R := List UInt8) (fun x => x.1) (fun r => (r, ())) (fun n x => z6q n x.1)
 (fun n => [(0, ⟨⟨[(3, (.ptr 0 0)), (0, (.d (.int .u8))), (10, (.d .bool))], [(.st 0)], 0, 15⟩, fun x => z8t n x.1 x.2.1 x.2.2.1⟩)]) (ann [(7, 0)] (Tryz.f70.body.getD .skip) 0).1
noncomputable def ydn : List (FI dat) := []
theorem yf3 : (zb9).Good Tryz.prog dat (tb ydn) := FI.yz5 (hD := zz3 _) Tryz.func70 Tryz.ntmps70 Tryz.call70 (by kernel_rfl) (of_decide_eq_true (by kernel_rfl)) (by kernel_rfl) (fun n => by kernel_rfl) (fun x => by kernel_rfl) (fun _ => rfl) ⟨fun _ => rfl, trivial⟩
 (fun n => fun x => (z6q.eq_2 x.1 n).trans (by kernel_rfl))
 (fun n => ⟨fun x => (z8t.eq_2 x.1 x.2.1 x.2.2.1 n).trans (by kernel_rfl),
  trivial⟩)
 (fun x => .inl rfl)
theorem yci : OkL Tryz.prog [zb9] := yze (zz3 _) (bs := []) trivial yf3
theorem zvp : FOk Tryz.prog zb9 := yci.1
mutual
def z83 : Nat → Int → Option (List UInt8)
 | 0, _ => none
 | n + 1, a0 =>
   pIf (decide (a0 ≥ 11))
     (z6l n a0 (decide (a0 ≤ 17)) (za9.mk [110, 111, 116] [105, 102] [109, 105, 110] [109, 97, 120] [102, 108, 111, 111, 114] [108, 101, 110] [97, 116]))
     (z6l n a0 false (za9.mk [110, 111, 116] [105, 102] [109, 105, 110] [109, 97, 120] [102, 108, 111, 111, 114] [108, 101, 110] [97, 116]))
def z6l : Nat → Int → Bool → za9 → Option (List UInt8)
 | 0, _, _, _ => none
 | n + 1, a0, a1, a2 =>
   pIf a1
     ((inR 7 (IntKind.u8.wrap (a0 - 11))).bind fun x0 =>
     pIf ((IntKind.u8.wrap (a0 - 11)) == (((5 + 1) : Nat) : Int))
       (some a2.e6)
       (pIf ((IntKind.u8.wrap (a0 - 11)) == (((4 + 1) : Nat) : Int))
         (some a2.e5)
         (pIf ((IntKind.u8.wrap (a0 - 11)) == (((3 + 1) : Nat) : Int))
           (some a2.e4)
           (pIf ((IntKind.u8.wrap (a0 - 11)) == (((2 + 1) : Nat) : Int))
             (some a2.e3)
             (pIf ((IntKind.u8.wrap (a0 - 11)) == (((1 + 1) : Nat) : Int))
               (some a2.e2)
               (pIf ((IntKind.u8.wrap (a0 - 11)) == (((0 + 1) : Nat) : Int))
                 (some a2.e1)
                 (some a2.e0)))))))
     (some [])
end
def y59 : LSh := ⟨[(2, (.d .str))], [], 0, 15⟩
noncomputable def z92 : FI dat := FI.of dat 71 15 0 [(.d (.int .u8))] [] [(.d .str)] [] true y59 (R := List UInt8) (fun x => x.1) (fun r => (r, ())) (fun n x => z83 n x.1)
 (fun n => [(0, ⟨⟨[(3, (.ptr 0 0)), (0, (.d (.int .u8))), (10, (.d .bool))], [(.st 1)], 0, 15⟩, fun x => z6l n x.1 x.2.1 x.2.2.1⟩)]) (ann [(7, 0)] (Tryz.f71.body.getD .skip) 0).1
noncomputable def y80 : List (FI dat) := []
theorem y5d : (z92).Good Tryz.prog dat (tb y80) := FI.yz5 (hD := zz3 _) Tryz.func71 Tryz.ntmps71 Tryz.call71 (by kernel_rfl) (of_decide_eq_true (by kernel_rfl)) (by kernel_rfl) (fun n => by kernel_rfl) (fun x => by kernel_rfl) (fun _ => rfl) ⟨fun _ => rfl, trivial⟩
 (fun n => fun x => (z83.eq_2 x.1 n).trans (by kernel_rfl))
 (fun n => ⟨fun x => (z6l.eq_2 x.1 x.2.1 x.2.2.1 n).trans (by kernel_rfl),
  trivial⟩)
 (fun x => .inl rfl)
theorem y5v : OkL Tryz.prog [z92] := yze (zz3 _) (bs := []) trivial y5d
theorem zql : FOk Tryz.prog z92 := y5v.1
mutual
def z23 : Nat → kz0 → Option (List UInt8)
 | 0, _ => none
 | n + 1, a0 =>
   pIf (a0.op == 1)
     ((z6k n a0.value.re).bind fun y0 =>
     some y0)
     (pIf (a0.op == 2)
       (some a0.name)
       ((z6q n a0.op).bind fun y1 =>
       pIf (decide ((y1.length : Int) > 0))
         ((ix a0.args 0).bind fun x2 =>
         (z23 n x2.re).bind fun y3 =>
         (cat [40] y3).bind fun x4 =>
         (cat x4 [32]).bind fun x5 =>
         (z6q n a0.op).bind fun y6 =>
         (cat x5 y6).bind fun x7 =>
         (cat x7 [32]).bind fun x8 =>
         (ix a0.args 1).bind fun x9 =>
         (z23 n x9.re).bind fun y10 =>
         (cat x8 y10).bind fun x11 =>
         (cat x11 [41]).bind fun x12 =>
         some x12)
         (pIf (a0.op != 18)
           ((z83 n a0.op).bind fun y13 =>
           (cat y13 [40]).bind fun x14 =>
           z42 n x14 a0.re)
           (z42 n [91] a0.re))))
def z42 : Nat → (List UInt8) → kz0 → Option (List UInt8)
 | 0, _, _ => none
 | n + 1, a0, a1 =>
   z4a n 0 a0 a1.re
def z4a : Nat → Int → (List UInt8) → kz0 → Option (List UInt8)
 | 0, _, _, _ => none
 | n + 1, a0, a1, a2 =>
   pIf (decide (a0 < (a2.args.length : Int)))
     (pIf (decide (a0 > 0))
       ((cat a1 [44, 32]).bind fun x15 =>
       z44 n a0 x15 a2.re)
       (z44 n a0 a1 a2.re))
     (pIf (a2.op == 18)
       ((cat a1 [93]).bind fun x16 =>
       some x16)
       ((cat a1 [41]).bind fun x17 =>
       some x17))
def z44 : Nat → Int → (List UInt8) → kz0 → Option (List UInt8)
 | 0, _, _, _ => none
 | n + 1, a0, a1, a2 =>
   (ix a2.args a0).bind fun x18 =>
   (z23 n x18.re).bind fun y19 =>
   (cat a1 y19).bind fun x20 =>
   z4a n (IntKind.i64.wrap (a0 + 1)) x20 a2.re
end
def y3v : LSh := ⟨[(2, (.d .str))], [], 0, 76⟩
noncomputable def z9g : FI dat := FI.of dat 41 76 0 [(.d (.st 4))] [] [(.d .str)] [] true y3v (R := List UInt8) (fun x => x.1) (fun r => (r, ())) (fun n x => z23 n x.1)
 (fun n => [(0, ⟨⟨[(1, (.ptr 0 0)), (3, (.d .str))], [(.st 4)], 0, 76⟩, fun x => z42 n x.1 x.2.1⟩), (1, ⟨⟨[(4, (.d (.int .i64))), (1, (.ptr 0 0)), (3, (.d .str))], [(.st 4)], 0, 76⟩, fun x => z4a n x.1 x.2.1 x.2.2.1⟩), (2, ⟨⟨[(1, (.ptr 0 0)), (4, (.d (.int .i64))), (3, (.d .str))], [(.st 4)], 0, 76⟩, fun x => z44 n x.1 x.2.1 x.2.2.1⟩)]) (ann [(31, 0), (35, 1), (50, 2)] (Tryz.f41.body.getD .skip) 0).1
noncomputable def y3n : List (FI dat) := [z9g] ++ [z9j, zb9, z92]
theorem y32 : (z9g).Good Tryz.prog dat (tb y3n) := FI.yz5 (hD := zz3 _) Tryz.func41 Tryz.ntmps41 Tryz.call41 (by kernel_rfl) (of_decide_eq_true (by kernel_rfl)) (by kernel_rfl) (fun n => by kernel_rfl) (fun x => by kernel_rfl) (fun _ => rfl) ⟨fun _ => rfl, fun _ => rfl, fun _ => rfl, trivial⟩
 (fun n => fun x => (z23.eq_2 x.1 n).trans (by kernel_rfl))
 (fun n => ⟨fun x => (z42.eq_2 x.1 x.2.1 n).trans (by kernel_rfl),
  fun x => (z4a.eq_2 x.1 x.2.1 x.2.2.1 n).trans (by kernel_rfl),
  fun x => (z44.eq_2 x.1 x.2.1 x.2.2.1 n).trans (by kernel_rfl),
  trivial⟩)
 (fun x => .inl rfl)
theorem y3g : OkL Tryz.prog [z9g] := z4s (zz3 _) (bs := [z9j, zb9, z92]) ⟨y0c, zvp, zql, trivial⟩ ⟨y32, trivial⟩
theorem y04 : FOk Tryz.prog z9g := y3g.1
def zbu : Nat → kz0 → Option ((List UInt8) × Int)
 | 0, _ => none
 | n + 1, a0 =>
   (z1n n a0.re).bind fun y0 =>
   pIf (y0 != 0)
     ((z1n n a0.re).bind fun y1 =>
     some ([], y1))
     ((z23 n a0.re).bind fun y2 =>
     pIf (decide ((y2.length : Int) > 4000))
       (some ([], 4))
       (some (y2, 0)))
def yfg : LSh := ⟨[(2, (.d .str)), (3, (.d (.int .i64)))], [], 0, 16⟩
noncomputable def zfu : FI dat := FI.of dat 12 16 0 [(.d (.st 4))] [] [(.d .str), (.d (.int .i64))] [] true yfg (R := (List UInt8) × Int) (fun x => (x.1, x.2.1)) (fun r => (r.1, r.2, ())) (fun n x => zbu n x.1)
 (fun n => []) (ann [] (Tryz.f12.body.getD .skip) 0).1
noncomputable def ydg : List (FI dat) := [z6r, z9g]
theorem ydw : (zfu).Good Tryz.prog dat (tb ydg) := FI.yz5 (hD := zz3 _) Tryz.func12 Tryz.ntmps12 Tryz.call12 (by kernel_rfl) (of_decide_eq_true (by kernel_rfl)) (by kernel_rfl) (fun n => by kernel_rfl) (fun x => by kernel_rfl) (fun _ => rfl) trivial
 (fun n => fun x => (zbu.eq_2 x.1 n).trans (by kernel_rfl))
 (fun n => trivial)
 (fun x => .inl rfl)
theorem ycy : OkL Tryz.prog [zfu] := yze (zz3 _) (bs := [z6r, z9g]) ⟨zlr, y04, trivial⟩ ydw
theorem yac : FOk Tryz.prog zfu := ycy.1
def zzq : Nat → Int → Option (Res (Int × Unit) Unit)
 | 0, _ => none
 | n + 1, a0 =>
   pIf (a0 != 0)
     (some (Res.pan (a0, ())))
     (some (Res.ok ()))
def zt2 : LSh := ⟨[], [], 0, 6⟩
noncomputable def z2r : FI dat := FI.ofP dat 74 6 0 [(.d (.int .i64))] [] [] [] (.iface 31 (.d (.int .i64))) [] [] zt2 (R := Unit) (fun x => ()) (fun _ => ()) (fun n x => zzq n x.1)
 (fun n => []) (ann [] (Tryz.f74.body.getD .skip) 0).1
noncomputable def ztg : List (FI dat) := []
theorem zrv : (z2r).Good Tryz.prog dat (tb ztg) := FI.zp5 (hD := zz3 _) Tryz.func74 Tryz.ntmps74 Tryz.call74 (by kernel_rfl) (of_decide_eq_true (by kernel_rfl)) (by kernel_rfl) (fun n => by kernel_rfl) trivial (fun x => by kernel_rfl) (fun _ => rfl) trivial
 (fun n => fun x => (zzq.eq_2 x.1 n).trans (by kernel_rfl))
 (fun n => trivial)
 (fun x => by kernel_rfl)
theorem zrr : OkL Tryz.prog [z2r] := yze (zz3 _) (bs := []) trivial zrv
theorem zfn : FOk Tryz.prog z2r := zrr.1
def kz6 : Nat → (List UInt8) → (List UInt8) → Option Bool
 | 0, _, _ => none
 | n + 1, a0, a1 =>
   pIf (decide ((a0.length : Int) ≥ (a1.length : Int)))
     ((sub a0 0 (a1.length : Int)).bind fun x0 =>
     some (x0 == a1))
     (some false)
def z5p : LSh := ⟨[(4, (.d .bool))], [], 0, 18⟩
noncomputable def zza : FI dat := FI.of dat 162 18 0 [(.d .str), (.d .str)] [] [(.d .bool)] [] true z5p (R := Bool) (fun x => x.1) (fun r => (r, ())) (fun n x => kz6 n x.1 x.2.1)
 (fun n => []) (ann [] (Tryz.f162.body.getD .skip) 0).1
noncomputable def z5x : List (FI dat) := []
theorem z5o : (zza).Good Tryz.prog dat (tb z5x) := FI.yz5 (hD := zz3 _) Tryz.func162 Tryz.ntmps162 Tryz.call162 (by kernel_rfl) (of_decide_eq_true (by kernel_rfl)) (by kernel_rfl) (fun n => by kernel_rfl) (fun x => by kernel_rfl) (fun _ => rfl) trivial
 (fun n => fun x => (kz6.eq_2 x.1 x.2.1 n).trans (by kernel_rfl))
 (fun n => trivial)
 (fun x => .inl rfl)
theorem z5s : OkL Tryz.prog [zza] := yze (zz3 _) (bs := []) trivial z5o
theorem z5f : FOk Tryz.prog zza := z5s.1
end Go.Proofs.YtfhpamcehnfhoaaGreatDoor


namespace Go.Proofs.YtfhpamcehnfhoaaGreatDoor
open Go Go.Ab
set_option linter.unusedVariables false
set_option maxRecDepth 100000
def zze : Nat → (List UInt8) → (List UInt8) → Option ((List UInt8) × Bool)
 | 0, _, _ => none
 | n + 1, a0, a1 =>
   (kz6 n a0 a1).bind fun y0 =>
   pIf (!y0)
     (some (a0, false))
     ((sub a0 (a1.length : Int) (a0.length : Int)).bind fun x1 =>
     some (x1, true))
def zgd : LSh := ⟨[(4, (.d .str)), (5, (.d .bool))], [], 0, 15⟩
noncomputable def z0i : FI dat := FI.of dat 161 15 0 [(.d .str), (.d .str)] [] [(.d .str), (.d .bool)] [] true zgd (R := (List UInt8) × Bool) (fun x => (x.1, x.2.1)) (fun r => (r.1, r.2, ())) (fun n x => zze n x.1 x.2.1)
 (fun n => []) (ann [] (Tryz.f161.body.getD .skip) 0).1
noncomputable def zg1 : List (FI dat) := [zza]
theorem zgt : (z0i).Good Tryz.prog dat (tb zg1) := FI.yz5 (hD := zz3 _) Tryz.func161 Tryz.ntmps161 Tryz.call161 (by kernel_rfl) (of_decide_eq_true (by kernel_rfl)) (by kernel_rfl) (fun n => by kernel_rfl) (fun x => by kernel_rfl) (fun _ => rfl) trivial
 (fun n => fun x => (zze.eq_2 x.1 x.2.1 n).trans (by kernel_rfl))
 (fun n => trivial)
 (fun x => .inl rfl)
theorem zg7 : OkL Tryz.prog [z0i] := yze (zz3 _) (bs := [zza]) ⟨z5f, trivial⟩ zgt
theorem zfh : FOk Tryz.prog z0i := zg7.1
def yzy : Nat → (List UInt8) → (List UInt8) → Option ((List UInt8) × Bool)
 | 0, _, _ => none
 | n + 1, a0, a1 =>
   (zze n a0 a1).bind fun y0 =>
   some (y0.1, y0.2)
def zuc : LSh := ⟨[(4, (.d .str)), (5, (.d .bool))], [], 0, 11⟩
noncomputable def z43 : FI dat := FI.of dat 133 11 0 [(.d .str), (.d .str)] [] [(.d .str), (.d .bool)] [] true zuc (R := (List UInt8) × Bool) (fun x => (x.1, x.2.1)) (fun r => (r.1, r.2, ())) (fun n x => yzy n x.1 x.2.1)
 (fun n => []) (ann [] (Tryz.f133.body.getD .skip) 0).1
noncomputable def zv1 : List (FI dat) := [z0i]
theorem zuy : (z43).Good Tryz.prog dat (tb zv1) := FI.yz5 (hD := zz3 _) Tryz.func133 Tryz.ntmps133 Tryz.call133 (by kernel_rfl) (of_decide_eq_true (by kernel_rfl)) (by kernel_rfl) (fun n => by kernel_rfl) (fun x => by kernel_rfl) (fun _ => rfl) trivial
 (fun n => fun x => (yzy.eq_2 x.1 x.2.1 n).trans (by kernel_rfl))
 (fun n => trivial)
 (fun x => .inl rfl)
theorem zug : OkL Tryz.prog [z43] := yze (zz3 _) (bs := [z0i]) ⟨zfh, trivial⟩ zuy
theorem ziz : FOk Tryz.prog z43 := zug.1
def kz7 : Nat → (List UInt8) → yz3 → Option (Bool × yz3)
 | 0, _, _ => none
 | n + 1, a0, a1 =>
   (yzy n a1.s a0).bind fun y0 =>
   some (y0.2, (yz3.mk y0.1))
def zx1 : LSh := ⟨[(4, (.d .bool))], [(.st 6)], 1, 21⟩
noncomputable def z50 : FI dat := FI.of dat 100 21 1 [(.ptr 0 0), (.d .str)] [(.st 6)] [(.d .bool)] [(.st 6)] false zx1 (R := Bool × yz3) (fun x => (x.1, x.2.1)) (fun r => (r.1, r.2, ())) (fun n x => kz7 n x.1 x.2.1)
 (fun n => []) (ann [] (Tryz.f100.body.getD .skip) 0).1
noncomputable def zwn : List (FI dat) := [z43]
theorem zw1 : (z50).Good Tryz.prog dat (tb zwn) := FI.yz5 (hD := zz3 _) Tryz.func100 Tryz.ntmps100 Tryz.call100 (by kernel_rfl) (of_decide_eq_true (by kernel_rfl)) (by kernel_rfl) (fun n => by kernel_rfl) (fun x => by kernel_rfl) (fun _ => rfl) trivial
 (fun n => fun x => (kz7.eq_2 x.1 x.2.1 n).trans (by kernel_rfl))
 (fun n => trivial)
 (fun x => .inr (by kernel_rfl))
theorem zwo : OkL Tryz.prog [z50] := yze (zz3 _) (bs := [z43]) ⟨ziz, trivial⟩ zw1
theorem zju : FOk Tryz.prog z50 := zwo.1
def yzc : Nat → (List UInt8) → yz3 → Option (Res (Int × Unit) yz3)
 | 0, _, _ => none
 | n + 1, a0, a1 =>
   (kz7 n a0 a1).bind fun y0 =>
   pIf (!y0.1)
     ((zzq n 12).bind fun y1 =>
     zi4 y1 (fun r2 =>
       some (Res.ok y0.2))
       (fun e3 =>
       some (Res.pan (e3.1, ()))))
     (some (Res.ok y0.2))
def zwm : LSh := ⟨[], [(.st 6)], 1, 9⟩
noncomputable def z94 : FI dat := FI.ofP dat 101 9 1 [(.ptr 0 0), (.d .str)] [(.st 6)] [] [(.st 6)] (.iface 31 (.d (.int .i64))) [(.cells [.any])] [] zwm (R := yz3) (fun x => x.1) (fun r => (r, ())) (fun n x => yzc n x.1 x.2.1)
 (fun n => []) (ann [] (Tryz.f101.body.getD .skip) 0).1
noncomputable def zx2 : List (FI dat) := [z50, z2r]
theorem zwz : (z94).Good Tryz.prog dat (tb zx2) := FI.zp5 (hD := zz3 _) Tryz.func101 Tryz.ntmps101 Tryz.call101 (by kernel_rfl) (of_decide_eq_true (by kernel_rfl)) (by kernel_rfl) (fun n => by kernel_rfl) trivial (fun x => by kernel_rfl) (fun _ => rfl) trivial
 (fun n => fun x => (yzc.eq_2 x.1 x.2.1 n).trans (by kernel_rfl))
 (fun n => trivial)
 (fun x => by kernel_rfl)
theorem zwu : OkL Tryz.prog [z94] := yze (zz3 _) (bs := [z50, z2r]) ⟨zju, zfn, trivial⟩ zwz
theorem zul : FOk Tryz.prog z94 := zwu.1
def z0j : Nat → (List UInt8) → (List UInt8) → Option Bool
 | 0, _, _ => none
 | n + 1, a0, a1 =>
   (kz6 n a0 a1).bind fun y0 =>
   some y0
def zuf : LSh := ⟨[(4, (.d .bool))], [], 0, 8⟩
noncomputable def z48 : FI dat := FI.of dat 134 8 0 [(.d .str), (.d .str)] [] [(.d .bool)] [] true zuf (R := Bool) (fun x => x.1) (fun r => (r, ())) (fun n x => z0j n x.1 x.2.1)
 (fun n => []) (ann [] (Tryz.f134.body.getD .skip) 0).1
noncomputable def zuw : List (FI dat) := [zza]
theorem zur : (z48).Good Tryz.prog dat (tb zuw) := FI.yz5 (hD := zz3 _) Tryz.func134 Tryz.ntmps134 Tryz.call134 (by kernel_rfl) (of_decide_eq_true (by kernel_rfl)) (by kernel_rfl) (fun n => by kernel_rfl) (fun x => by kernel_rfl) (fun _ => rfl) trivial
 (fun n => fun x => (z0j.eq_2 x.1 x.2.1 n).trans (by kernel_rfl))
 (fun n => trivial)
 (fun x => .inl rfl)
theorem zum : OkL Tryz.prog [z48] := yze (zz3 _) (bs := [zza]) ⟨z5f, trivial⟩ zur
theorem zio : FOk Tryz.prog z48 := zum.1
def kzx : Nat → (List UInt8) → Int → Option Int
 | 0, _, _ => none
 | n + 1, a0, a1 =>
   (yzo n a0 a1).bind fun y0 =>
   some y0
def zv0 : LSh := ⟨[(4, (.d (.int .i64)))], [], 0, 8⟩
noncomputable def z4b : FI dat := FI.of dat 135 8 0 [(.d .str), (.d (.int .u8))] [] [(.d (.int .i64))] [] true zv0 (R := Int) (fun x => x.1) (fun r => (r, ())) (fun n x => kzx n x.1 x.2.1)
 (fun n => []) (ann [] (Tryz.f135.body.getD .skip) 0).1
noncomputable def zuv : List (FI dat) := [z0n]
theorem zuu : (z4b).Good Tryz.prog dat (tb zuv) := FI.yz5 (hD := zz3 _) Tryz.func135 Tryz.ntmps135 Tryz.call135 (by kernel_rfl) (of_decide_eq_true (by kernel_rfl)) (by kernel_rfl) (fun n => by kernel_rfl) (fun x => by kernel_rfl) (fun _ => rfl) trivial
 (fun n => fun x => (kzx.eq_2 x.1 x.2.1 n).trans (by kernel_rfl))
 (fun n => trivial)
 (fun x => .inl rfl)
theorem zuo : OkL Tryz.prog [z4b] := yze (zz3 _) (bs := [z0n]) ⟨z9c, trivial⟩ zuu
theorem zj3 : FOk Tryz.prog z4b := zuo.1
def kz9 : Nat → (List UInt8) → kz3 → Option (Bool × kz3)
 | 0, _, _ => none
 | n + 1, a0, a1 =>
   (sub a1.s a1.at_ (a1.s.length : Int)).bind fun x0 =>
   (z0j n x0 a0).bind fun y1 =>
   pIf (!y1)
     (some (false, a1))
     (some (true, (kz3.mk a1.s (IntKind.i64.wrap (a1.at_ + (a0.length : Int))) a1.ok)))
def zuj : LSh := ⟨[(4, (.d .bool))], [(.st 7)], 1, 26⟩
noncomputable def z89 : FI dat := FI.of dat 178 26 1 [(.ptr 0 0), (.d .str)] [(.st 7)] [(.d .bool)] [(.st 7)] false zuj (R := Bool × kz3) (fun x => (x.1, x.2.1)) (fun r => (r.1, r.2, ())) (fun n x => kz9 n x.1 x.2.1)
 (fun n => []) (ann [] (Tryz.f178.body.getD .skip) 0).1
noncomputable def zux : List (FI dat) := [z48]
theorem zuh : (z89).Good Tryz.prog dat (tb zux) := FI.yz5 (hD := zz3 _) Tryz.func178 Tryz.ntmps178 Tryz.call178 (by kernel_rfl) (of_decide_eq_true (by kernel_rfl)) (by kernel_rfl) (fun n => by kernel_rfl) (fun x => by kernel_rfl) (fun _ => rfl) trivial
 (fun n => fun x => (kz9.eq_2 x.1 x.2.1 n).trans (by kernel_rfl))
 (fun n => trivial)
 (fun x => .inr (by kernel_rfl))
theorem zui : OkL Tryz.prog [z89] := yze (zz3 _) (bs := [z48]) ⟨zio, trivial⟩ zuh
theorem zt4 : FOk Tryz.prog z89 := zui.1
mutual
def zzl : Nat → kz3 → Option ((List UInt8) × kz3)
 | 0, _ => none
 | n + 1, a0 =>
   yz9 n a0 []
def yz9 : Nat → kz3 → (List Int) → Option ((List UInt8) × kz3)
 | 0, _, _ => none
 | n + 1, a0, a1 =>
   pIf (decide (a0.at_ < (a0.s.length : Int)))
     ((ix a0.s a0.at_).bind fun x0 =>
     pIf ((x0.toNat : Int) == 34)
       ((kzt n a1).bind fun y1 =>
       some (y1, (kz3.mk a0.s (IntKind.i64.wrap (a0.at_ + 1)) a0.ok)))
       (pIf ((x0.toNat : Int) == 92)
         (pIf ((IntKind.i64.wrap (a0.at_ + 1)) == (a0.s.length : Int))
           (zzj n true (kz3.mk a0.s (IntKind.i64.wrap (a0.at_ + 1)) a0.ok) a1)
           ((ix a0.s (IntKind.i64.wrap (a0.at_ + 1))).bind fun x2 =>
           pIf ((x2.toNat : Int) != 34)
             ((ix a0.s (IntKind.i64.wrap (a0.at_ + 1))).bind fun x3 =>
             zzj n ((x3.toNat : Int) != 92) (kz3.mk a0.s (IntKind.i64.wrap (a0.at_ + 1)) a0.ok) a1)
             (zzj n false (kz3.mk a0.s (IntKind.i64.wrap (a0.at_ + 1)) a0.ok) a1)))
         (zzm n (x0.toNat : Int) (kz3.mk a0.s (IntKind.i64.wrap (a0.at_ + 1)) a0.ok) a1)))
     (zzt n a0)
def zzj : Nat → Bool → kz3 → (List Int) → Option ((List UInt8) × kz3)
 | 0, _, _, _ => none
 | n + 1, a0, a1, a2 =>
   pIf a0
     (zzt n a1)
     ((ix a1.s a1.at_).bind fun x4 =>
     zzm n (x4.toNat : Int) (kz3.mk a1.s (IntKind.i64.wrap (a1.at_ + 1)) a1.ok) a2)
def zzm : Nat → Int → kz3 → (List Int) → Option ((List UInt8) × kz3)
 | 0, _, _, _ => none
 | n + 1, a0, a1, a2 =>
   (zz8 n a0 a2).bind fun y5 =>
   yz9 n a1 y5
def zzt : Nat → kz3 → Option ((List UInt8) × kz3)
 | 0, _ => none
 | n + 1, a0 =>
   some ([], (kz3.mk a0.s a0.at_ false))
end
def zr9 : LSh := ⟨[(2, (.d .str))], [(.st 7)], 1, 91⟩
noncomputable def z6b : FI dat := FI.of dat 179 91 1 [(.ptr 0 0)] [(.st 7)] [(.d .str)] [(.st 7)] false zr9 (R := (List UInt8) × kz3) (fun x => (x.1, x.2.1)) (fun r => (r.1, r.2, ())) (fun n x => zzl n x.1)
 (fun n => [(0, ⟨⟨[(3, (.bp 1)), (0, (.ptr 0 0))], [(.st 7), (.bld 74 2), (.acc 5 (.int .u8) true)], 1, 91⟩, fun x => yz9 n x.1 x.2.1⟩), (1, ⟨⟨[(0, (.ptr 0 0)), (3, (.bp 1)), (69, (.d .bool))], [(.st 7), (.bld 74 2), (.acc 5 (.int .u8) true)], 1, 91⟩, fun x => zzj n x.1 x.2.1 x.2.2.1⟩), (2, ⟨⟨[(3, (.bp 1)), (0, (.ptr 0 0)), (4, (.d (.int .u8)))], [(.st 7), (.bld 74 2), (.acc 5 (.int .u8) true)], 1, 91⟩, fun x => zzm n x.1 x.2.1 x.2.2.1⟩), (3, ⟨⟨[(0, (.ptr 0 0))], [(.st 7)], 1, 91⟩, fun x => zzt n x.1⟩)]) (ann [(6, 0), (33, 1), (40, 2), (41, 3)] (Tryz.f179.body.getD .skip) 0).1
noncomputable def zr2 : List (FI dat) := [kzf, yzw]
theorem zre : (z6b).Good Tryz.prog dat (tb zr2) := FI.yz5 (hD := zz3 _) Tryz.func179 Tryz.ntmps179 Tryz.call179 (by kernel_rfl) (of_decide_eq_true (by kernel_rfl)) (by kernel_rfl) (fun n => by kernel_rfl) (fun x => by kernel_rfl) (fun _ => rfl) ⟨fun _ => rfl, fun _ => rfl, fun _ => rfl, fun _ => rfl, trivial⟩
 (fun n => fun x => (zzl.eq_2 x.1 n).trans (by kernel_rfl))
 (fun n => ⟨fun x => (yz9.eq_2 x.1 x.2.1 n).trans (by kernel_rfl),
  fun x => (zzj.eq_2 x.1 x.2.1 x.2.2.1 n).trans (by kernel_rfl),
  fun x => (zzm.eq_2 x.1 x.2.1 x.2.2.1 n).trans (by kernel_rfl),
  fun x => (zzt.eq_2 x.1 n).trans (by kernel_rfl),
  trivial⟩)
 (fun x => .inr (by kernel_rfl))
theorem zr4 : OkL Tryz.prog [z6b] := yze (zz3 _) (bs := [kzf, yzw]) ⟨z66, zbh, trivial⟩ zre
theorem zpi : FOk Tryz.prog z6b := zr4.1
def kzm : Nat → (List UInt8) → (List UInt8) → Option ((List UInt8) × (List UInt8) × Bool)
 | 0, _, _ => none
 | n + 1, a0, a1 =>
   (yzp n a0 a1).bind fun y0 =>
   pIf (decide (y0 ≥ 0))
     ((sub a0 0 y0).bind fun x1 =>
     (sub a0 (IntKind.i64.wrap (y0 + (a1.length : Int))) (a0.length : Int)).bind fun x2 =>
     some (x1, x2, true))
     (some (a0, [], false))
def zlw : LSh := ⟨[(4, (.d .str)), (5, (.d .str)), (6, (.d .bool))], [], 0, 23⟩
noncomputable def z2t : FI dat := FI.of dat 200 23 0 [(.d .str), (.d .str)] [] [(.d .str), (.d .str), (.d .bool)] [] true zlw (R := (List UInt8) × (List UInt8) × Bool) (fun x => (x.1, x.2.1, x.2.2.1)) (fun r => (r.1, r.2.1, r.2.2, ())) (fun n x => kzm n x.1 x.2.1)
 (fun n => []) (ann [] (Tryz.f200.body.getD .skip) 0).1
noncomputable def zlp : List (FI dat) := [z1p]
theorem zm0 : (z2t).Good Tryz.prog dat (tb zlp) := FI.yz5 (hD := zz3 _) Tryz.func200 Tryz.ntmps200 Tryz.call200 (by kernel_rfl) (of_decide_eq_true (by kernel_rfl)) (by kernel_rfl) (fun n => by kernel_rfl) (fun x => by kernel_rfl) (fun _ => rfl) trivial
 (fun n => fun x => (kzm.eq_2 x.1 x.2.1 n).trans (by kernel_rfl))
 (fun n => trivial)
 (fun x => .inl rfl)
theorem zl6 : OkL Tryz.prog [z2t] := yze (zz3 _) (bs := [z1p]) ⟨zay, trivial⟩ zm0
theorem zk3 : FOk Tryz.prog z2t := zl6.1
def z7n : Nat → (List UInt8) → (List UInt8) → Option ((List UInt8) × (List UInt8) × Bool)
 | 0, _, _ => none
 | n + 1, a0, a1 =>
   (kzm n a0 a1).bind fun y0 =>
   some (y0.1, y0.2.1, y0.2.2)
def ya0 : LSh := ⟨[(4, (.d .str)), (5, (.d .str)), (6, (.d .bool))], [], 0, 13⟩
noncomputable def zea : FI dat := FI.of dat 191 13 0 [(.d .str), (.d .str)] [] [(.d .str), (.d .str), (.d .bool)] [] true ya0 (R := (List UInt8) × (List UInt8) × Bool) (fun x => (x.1, x.2.1, x.2.2.1)) (fun r => (r.1, r.2.1, r.2.2, ())) (fun n x => z7n n x.1 x.2.1)
 (fun n => []) (ann [] (Tryz.f191.body.getD .skip) 0).1
noncomputable def y8f : List (FI dat) := [z2t]
theorem y8h : (zea).Good Tryz.prog dat (tb y8f) := FI.yz5 (hD := zz3 _) Tryz.func191 Tryz.ntmps191 Tryz.call191 (by kernel_rfl) (of_decide_eq_true (by kernel_rfl)) (by kernel_rfl) (fun n => by kernel_rfl) (fun x => by kernel_rfl) (fun _ => rfl) trivial
 (fun n => fun x => (z7n.eq_2 x.1 x.2.1 n).trans (by kernel_rfl))
 (fun n => trivial)
 (fun x => .inl rfl)
theorem yau : OkL Tryz.prog [zea] := yze (zz3 _) (bs := [z2t]) ⟨zk3, trivial⟩ y8h
theorem y7j : FOk Tryz.prog zea := yau.1
mutual
def z4u : Nat → (List UInt8) → Option (Int × Bool)
 | 0, _ => none
 | n + 1, a0 =>
   pIf ((a0.length : Int) == 0)
     (z05 n a0 true)
     (pIf (decide ((a0.length : Int) > 10))
       (z05 n a0 true)
       ((ix a0 0).bind fun x0 =>
       pIf ((x0.toNat : Int) == 48)
         (z05 n a0 (decide ((a0.length : Int) > 1)))
         (z05 n a0 false)))
def z05 : Nat → (List UInt8) → Bool → Option (Int × Bool)
 | 0, _, _ => none
 | n + 1, a0, a1 =>
   pIf a1
     (some (0, false))
     (z1h n 0 a0 0)
def z1h : Nat → Int → (List UInt8) → Nat → Option (Int × Bool)
 | 0, _, _, _ => none
 | n + 1, a0, a1, a2 =>
   pIf (decide (a2 < a1.length))
     (pIf (decide (((zav a1 a2).1 : Int) < 48))
       (z1g n ((zav a1 a2).1 : Int) a0 true a1 (a2 + (zav a1 a2).2))
       (z1g n ((zav a1 a2).1 : Int) a0 (decide (((zav a1 a2).1 : Int) > 57)) a1 (a2 + (zav a1 a2).2)))
     (some (a0, true))
def z1g : Nat → Int → Int → Bool → (List UInt8) → Nat → Option (Int × Bool)
 | 0, _, _, _, _, _ => none
 | n + 1, a0, a1, a2, a3, a4 =>
   pIf a2
     (some (0, false))
     (z1h n (IntKind.i64.wrap ((IntKind.i64.wrap (10 * a1)) + (IntKind.i64.wrap (IntKind.i32.wrap (a0 - 48))))) a3 a4)
end
def y6w : LSh := ⟨[(2, (.d (.int .i64))), (3, (.d .bool))], [], 0, 43⟩
noncomputable def zci : FI dat := FI.of dat 192 43 0 [(.d .str)] [] [(.d (.int .i64)), (.d .bool)] [] true y6w (R := Int × Bool) (fun x => (x.1, x.2.1)) (fun r => (r.1, r.2, ())) (fun n x => z4u n x.1)
 (fun n => [(0, ⟨⟨[(0, (.d .str)), (24, (.d .bool))], [], 0, 43⟩, fun x => z05 n x.1 x.2.1⟩), (1, ⟨⟨[(4, (.d (.int .i64))), (26, (.ptr 0 0))], [.siter], 0, 43⟩, fun x => z1h n x.1 x.2.1 x.2.2.1⟩), (2, ⟨⟨[(26, (.ptr 0 0)), (6, (.d (.int .i32))), (4, (.d (.int .i64))), (35, (.d .bool))], [.siter], 0, 43⟩, fun x => z1g n x.1 x.2.1 x.2.2.1 x.2.2.2.1 x.2.2.2.2.1⟩)]) (ann [(5, 0), (16, 1), (29, 2)] (Tryz.f192.body.getD .skip) 0).1
noncomputable def y4q : List (FI dat) := []
theorem y5o : (zci).Good Tryz.prog dat (tb y4q) := FI.yz5 (hD := zz3 _) Tryz.func192 Tryz.ntmps192 Tryz.call192 (by kernel_rfl) (of_decide_eq_true (by kernel_rfl)) (by kernel_rfl) (fun n => by kernel_rfl) (fun x => by kernel_rfl) (fun _ => rfl) ⟨fun _ => rfl, fun _ => rfl, fun _ => rfl, trivial⟩
 (fun n => fun x => (z4u.eq_2 x.1 n).trans (by kernel_rfl))
 (fun n => ⟨fun x => (z05.eq_2 x.1 x.2.1 n).trans (by kernel_rfl),
  fun x => (z1h.eq_2 x.1 x.2.1 x.2.2.1 n).trans (by kernel_rfl),
  fun x => (z1g.eq_2 x.1 x.2.1 x.2.2.1 x.2.2.2.1 x.2.2.2.2.1 n).trans (by kernel_rfl),
  trivial⟩)
 (fun x => .inl rfl)
theorem y7w : OkL Tryz.prog [zci] := yze (zz3 _) (bs := []) trivial y5o
theorem y2v : FOk Tryz.prog zci := y7w.1
end Go.Proofs.YtfhpamcehnfhoaaGreatDoor


namespace Go.Proofs.YtfhpamcehnfhoaaGreatDoor
open Go Go.Ab
set_option linter.unusedVariables false
set_option maxRecDepth 100000
mutual
def z1o : Nat → (List UInt8) → Option (Int × zz2)
 | 0, _ => none
 | n + 1, a0 =>
   (yzy n a0 [45]).bind fun y0 =>
   (z7n n y0.1 [47]).bind fun y1 =>
   pIf (!y1.2.2)
     (z1a n a0 y0.2 [49] y1.1 (zz2.mk 0 0))
     (z1a n a0 y0.2 y1.2.1 y1.1 (zz2.mk 0 0))
def z1a : Nat → (List UInt8) → Bool → (List UInt8) → (List UInt8) → zz2 → Option (Int × zz2)
 | 0, _, _, _, _, _ => none
 | n + 1, a0, a1, a2, a3, a4 =>
   (z4u n a3).bind fun y2 =>
   (z4u n a2).bind fun y3 =>
   pIf a1
     (z17 n a0 y3.2 y2.2 y3.1 (IntKind.i64.wrap (0 - y2.1)) a4)
     (z17 n a0 y3.2 y2.2 y3.1 y2.1 a4)
def z17 : Nat → (List UInt8) → Bool → Bool → Int → Int → zz2 → Option (Int × zz2)
 | 0, _, _, _, _, _, _ => none
 | n + 1, a0, a1, a2, a3, a4, a5 =>
   pIf (!a2)
     (z19 n a0 true a5 (zz2.mk a4 a3))
     (pIf (!a1)
       (z19 n a0 true a5 (zz2.mk a4 a3))
       ((z1r n (zz2.mk a4 a3)).bind fun y4 =>
       z19 n a0 (y4 != 0) a5 (zz2.mk a4 a3)))
def z19 : Nat → (List UInt8) → Bool → zz2 → zz2 → Option (Int × zz2)
 | 0, _, _, _, _ => none
 | n + 1, a0, a1, a2, a3 =>
   pIf a1
     (some (12, (zz2.mk 0 0)))
     ((z4k n a3).bind fun y5 =>
     pIf (!(y5.1 == a0))
       (some (12, (zz2.mk 0 0)))
       (some (0, a3)))
end
def yb7 : LSh := ⟨[(2, (.ptr 0 0)), (3, (.d (.int .i64)))], [(.st 2)], 0, 67⟩
noncomputable def zej : FI dat := FI.of dat 180 67 0 [(.d .str)] [] [(.d (.st 2)), (.d (.int .i64))] [] true yb7 (R := Int × zz2) (fun x => (x.1, x.2.1)) (fun r => (r.2, r.1, ())) (fun n x => z1o n x.1)
 (fun n => [(0, ⟨⟨[(2, (.ptr 0 0)), (0, (.d .str)), (5, (.d .bool)), (7, (.d .str)), (6, (.d .str))], [(.st 2)], 0, 67⟩, fun x => z1a n x.1 x.2.1 x.2.2.1 x.2.2.2.1 x.2.2.2.2.1⟩), (1, ⟨⟨[(2, (.ptr 0 0)), (0, (.d .str)), (12, (.d .bool)), (10, (.d .bool)), (11, (.d (.int .i64))), (9, (.d (.int .i64)))], [(.st 2)], 0, 67⟩, fun x => z17 n x.1 x.2.1 x.2.2.1 x.2.2.2.1 x.2.2.2.2.1 x.2.2.2.2.2.1⟩), (2, ⟨⟨[(2, (.ptr 0 0)), (13, (.ptr 1 0)), (0, (.d .str)), (55, (.d .bool))], [(.st 2), (.st 2)], 0, 67⟩, fun x => z19 n x.1 x.2.1 x.2.2.1 x.2.2.2.1⟩)]) (ann [(12, 0), (22, 1), (27, 2)] (Tryz.f180.body.getD .skip) 0).1
noncomputable def y9t : List (FI dat) := [z43, zea, zci, z79, zb1]
theorem yay : (zej).Good Tryz.prog dat (tb y9t) := FI.yz5 (hD := zz3 _) Tryz.func180 Tryz.ntmps180 Tryz.call180 (by kernel_rfl) (of_decide_eq_true (by kernel_rfl)) (by kernel_rfl) (fun n => by kernel_rfl) (fun x => by kernel_rfl) (fun _ => rfl) ⟨fun _ => rfl, fun _ => rfl, fun _ => rfl, trivial⟩
 (fun n => fun x => (z1o.eq_2 x.1 n).trans (by kernel_rfl))
 (fun n => ⟨fun x => (z1a.eq_2 x.1 x.2.1 x.2.2.1 x.2.2.2.1 x.2.2.2.2.1 n).trans (by kernel_rfl),
  fun x => (z17.eq_2 x.1 x.2.1 x.2.2.1 x.2.2.2.1 x.2.2.2.2.1 x.2.2.2.2.2.1 n).trans (by kernel_rfl),
  fun x => (z19.eq_2 x.1 x.2.1 x.2.2.1 x.2.2.2.1 n).trans (by kernel_rfl),
  trivial⟩)
 (fun x => .inl rfl)
theorem y9w : OkL Tryz.prog [zej] := yze (zz3 _) (bs := [z43, zea, zci, z79, zb1]) ⟨ziz, y7j, y2v, zm4, zvl, trivial⟩ yay
theorem y4x : FOk Tryz.prog zej := y9w.1
mutual
def zzk : Nat → Int → kz3 → Option (kz3 × yz0)
 | 0, _, _ => none
 | n + 1, a0, a1 =>
   pIf (a0 == 0)
     (kzy n (kz3.mk a1.s a1.at_ false) 0 0 0 false [] [])
     ((kz9 n [116, 114, 117, 101] a1).bind fun y0 =>
     pIf y0.1
       (some (y0.2, (yz0.mk 2 (zz2.mk 0 0) true [] [])))
       ((kz9 n [102, 97, 108, 115, 101] y0.2).bind fun y1 =>
       pIf y1.1
         (some (y1.2, (yz0.mk 2 (zz2.mk 0 0) false [] [])))
         ((kz9 n [34] y1.2).bind fun y2 =>
         pIf y2.1
           ((zzl n y2.2).bind fun y3 =>
           some (y3.2, (yz0.mk 3 (zz2.mk 0 0) false y3.1 [])))
           ((kz9 n [91, 93] y2.2).bind fun y4 =>
           pIf y4.1
             (some (y4.2, (yz0.mk 4 (zz2.mk 0 0) false [] [])))
             ((kz9 n [91] y4.2).bind fun y5 =>
             pIf y5.1
               (z78 n a0 true y5.2 4 0 0 false [] 0 0 0 false [] [] [])
               (kzy n y5.2 0 0 0 false [] []))))))
def z78 : Nat → Int → Bool → kz3 → Int → Int → Int → Bool → (List UInt8) → Int → Int → Int → Bool → (List UInt8) → (List yz0) → (List yz0) → Option (kz3 × yz0)
 | 0, _, _, _, _, _, _, _, _, _, _, _, _, _, _, _ => none
 | n + 1, a0, a1, a2, a3, a4, a5, a6, a7, a8, a9, a10, a11, a12, a13, a14 =>
   pIf a1
     (z6v n a0 a2.ok a2 a3 a4 a5 a6 a7 a8 a9 a10 a11 a12 a13 a14)
     (z6v n a0 false a2 a3 a4 a5 a6 a7 a8 a9 a10 a11 a12 a13 a14)
def z6v : Nat → Int → Bool → kz3 → Int → Int → Int → Bool → (List UInt8) → Int → Int → Int → Bool → (List UInt8) → (List yz0) → (List yz0) → Option (kz3 × yz0)
 | 0, _, _, _, _, _, _, _, _, _, _, _, _, _, _, _ => none
 | n + 1, a0, a1, a2, a3, a4, a5, a6, a7, a8, a9, a10, a11, a12, a13, a14 =>
   pIf a1
     ((zzk n (IntKind.i64.wrap (a0 - 1)) a2).bind fun y8 =>
     (ext a13 [y8.2.re]).bind fun x9 =>
     (kz9 n [44, 32] y8.1).bind fun y10 =>
     z78 n a0 y10.1 y10.2 a3 a4 a5 a6 a7 a8 a9 a10 a11 a12 x9 a14)
     ((kz9 n [93] a2).bind fun y11 =>
     pIf y11.1
       (z71 n y11.2 a8 a9 a10 a11 a12 a3 a4 a5 a6 a7 a14 a13)
       (z71 n (kz3.mk y11.2.s y11.2.at_ false) a8 a9 a10 a11 a12 a3 a4 a5 a6 a7 a14 a13))
def z71 : Nat → kz3 → Int → Int → Int → Bool → (List UInt8) → Int → Int → Int → Bool → (List UInt8) → (List yz0) → (List yz0) → Option (kz3 × yz0)
 | 0, _, _, _, _, _, _, _, _, _, _, _, _, _ => none
 | n + 1, a0, a1, a2, a3, a4, a5, a6, a7, a8, a9, a10, a11, a12 =>
   some (a0, (yz0.mk a6 (zz2.mk a7 a8) a9 a10 a12))
def kzy : Nat → kz3 → Int → Int → Int → Bool → (List UInt8) → (List yz0) → Option (kz3 × yz0)
 | 0, _, _, _, _, _, _, _ => none
 | n + 1, a0, a1, a2, a3, a4, a5, a6 =>
   yzk n a0.at_ a0 a1 a2 a3 a4 a5 a6
def yzk : Nat → Int → kz3 → Int → Int → Int → Bool → (List UInt8) → (List yz0) → Option (kz3 × yz0)
 | 0, _, _, _, _, _, _, _, _ => none
 | n + 1, a0, a1, a2, a3, a4, a5, a6, a7 =>
   pIf (decide (a0 < (a1.s.length : Int)))
     ((ix a1.s a0).bind fun x6 =>
     (kzx n [48, 49, 50, 51, 52, 53, 54, 55, 56, 57, 47, 45] (x6.toNat : Int)).bind fun y7 =>
     zzy n a0 (decide (y7 ≥ 0)) a1 a2 a3 a4 a5 a6 a7)
     (zzy n a0 false a1 a2 a3 a4 a5 a6 a7)
def zzy : Nat → Int → Bool → kz3 → Int → Int → Int → Bool → (List UInt8) → (List yz0) → Option (kz3 × yz0)
 | 0, _, _, _, _, _, _, _, _, _ => none
 | n + 1, a0, a1, a2, a3, a4, a5, a6, a7, a8 =>
   pIf a1
     (yzk n (IntKind.i64.wrap (a0 + 1)) a2 a3 a4 a5 a6 a7 a8)
     ((sub a2.s a2.at_ a0).bind fun x12 =>
     (z1o n x12).bind fun y13 =>
     pIf a2.ok
       (zzz n a0 (kz3.mk a2.s a2.at_ (y13.1 == 0)) a3 a4 a5 a6 a7 y13.2 a8)
       (zzz n a0 (kz3.mk a2.s a2.at_ false) a3 a4 a5 a6 a7 y13.2 a8))
def zzz : Nat → Int → kz3 → Int → Int → Int → Bool → (List UInt8) → zz2 → (List yz0) → Option (kz3 × yz0)
 | 0, _, _, _, _, _, _, _, _, _ => none
 | n + 1, a0, a1, a2, a3, a4, a5, a6, a7, a8 =>
   some ((kz3.mk a1.s a0 a1.ok), (yz0.mk 1 a7 false [] []))
end
def zsn : LSh := ⟨[(4, (.ptr 1 0))], [(.st 7), (.st 3)], 1, 122⟩
noncomputable def z58 : FI dat := FI.of dat 164 122 1 [(.ptr 0 0), (.d (.int .i64))] [(.st 7)] [(.d (.st 3))] [(.st 7), (.st 3)] false zsn (R := kz3 × yz0) (fun x => (x.1, x.2.1)) (fun r => (r.2, r.1, r.2, ())) (fun n x => zzk n x.1 x.2.1)
 (fun n => [(0, ⟨⟨[(0, (.ptr 0 0)), (5, (.ptr 1 0)), (1, (.d (.int .i64))), (4, (.ptr 2 0)), (6, (.d .bool))], [(.st 7), (.cells [(.d (.int .u8)), (.d (.int .i64)), (.d (.int .i64)), (.d .bool), (.d .str), (.own 3)]), (.cells [(.d (.int .u8)), (.d (.int .i64)), (.d (.int .i64)), (.d .bool), (.d .str), (.own 4)]), (.acc 26 (.st 3) true), (.acc 26 (.st 3) true)], 1, 122⟩, fun x => z78 n x.1 x.2.1 x.2.2.1 x.2.2.2.1 x.2.2.2.2.1 x.2.2.2.2.2.1 x.2.2.2.2.2.2.1 x.2.2.2.2.2.2.2.1 x.2.2.2.2.2.2.2.2.1 x.2.2.2.2.2.2.2.2.2.1 x.2.2.2.2.2.2.2.2.2.2.1 x.2.2.2.2.2.2.2.2.2.2.2.1 x.2.2.2.2.2.2.2.2.2.2.2.2.1 x.2.2.2.2.2.2.2.2.2.2.2.2.2.1 x.2.2.2.2.2.2.2.2.2.2.2.2.2.2.1⟩), (1, ⟨⟨[(0, (.ptr 0 0)), (5, (.ptr 1 0)), (1, (.d (.int .i64))), (4, (.ptr 2 0)), (44, (.d .bool))], [(.st 7), (.cells [(.d (.int .u8)), (.d (.int .i64)), (.d (.int .i64)), (.d .bool), (.d .str), (.own 3)]), (.cells [(.d (.int .u8)), (.d (.int .i64)), (.d (.int .i64)), (.d .bool), (.d .str), (.own 4)]), (.acc 26 (.st 3) true), (.acc 26 (.st 3) true)], 1, 122⟩, fun x => z6v n x.1 x.2.1 x.2.2.1 x.2.2.2.1 x.2.2.2.2.1 x.2.2.2.2.2.1 x.2.2.2.2.2.2.1 x.2.2.2.2.2.2.2.1 x.2.2.2.2.2.2.2.2.1 x.2.2.2.2.2.2.2.2.2.1 x.2.2.2.2.2.2.2.2.2.2.1 x.2.2.2.2.2.2.2.2.2.2.2.1 x.2.2.2.2.2.2.2.2.2.2.2.2.1 x.2.2.2.2.2.2.2.2.2.2.2.2.2.1 x.2.2.2.2.2.2.2.2.2.2.2.2.2.2.1⟩), (2, ⟨⟨[(4, (.ptr 1 0)), (5, (.ptr 2 0))], [(.st 7), (.cells [(.d (.int .u8)), (.d (.int .i64)), (.d (.int .i64)), (.d .bool), (.d .str), (.own 3)]), (.cells [(.d (.int .u8)), (.d (.int .i64)), (.d (.int .i64)), (.d .bool), (.d .str), (.own 4)]), (.acc 26 (.st 3) true), (.acc 26 (.st 3) true)], 1, 122⟩, fun x => z71 n x.1 x.2.1 x.2.2.1 x.2.2.2.1 x.2.2.2.2.1 x.2.2.2.2.2.1 x.2.2.2.2.2.2.1 x.2.2.2.2.2.2.2.1 x.2.2.2.2.2.2.2.2.1 x.2.2.2.2.2.2.2.2.2.1 x.2.2.2.2.2.2.2.2.2.2.1 x.2.2.2.2.2.2.2.2.2.2.2.1 x.2.2.2.2.2.2.2.2.2.2.2.2.1⟩), (3, ⟨⟨[(4, (.ptr 1 0)), (0, (.ptr 0 0))], [(.st 7), (.cells [(.d (.int .u8)), (.d (.int .i64)), (.d (.int .i64)), (.d .bool), (.d .str), (.own 2)]), (.acc 26 (.st 3) true)], 1, 122⟩, fun x => kzy n x.1 x.2.1 x.2.2.1 x.2.2.2.1 x.2.2.2.2.1 x.2.2.2.2.2.1 x.2.2.2.2.2.2.1⟩), (4, ⟨⟨[(7, (.d (.int .i64))), (4, (.ptr 1 0)), (0, (.ptr 0 0))], [(.st 7), (.cells [(.d (.int .u8)), (.d (.int .i64)), (.d (.int .i64)), (.d .bool), (.d .str), (.own 2)]), (.acc 26 (.st 3) true)], 1, 122⟩, fun x => yzk n x.1 x.2.1 x.2.2.1 x.2.2.2.1 x.2.2.2.2.1 x.2.2.2.2.2.1 x.2.2.2.2.2.2.1 x.2.2.2.2.2.2.2.1⟩), (5, ⟨⟨[(4, (.ptr 1 0)), (0, (.ptr 0 0)), (7, (.d (.int .i64))), (88, (.d .bool))], [(.st 7), (.cells [(.d (.int .u8)), (.d (.int .i64)), (.d (.int .i64)), (.d .bool), (.d .str), (.own 2)]), (.acc 26 (.st 3) true)], 1, 122⟩, fun x => zzy n x.1 x.2.1 x.2.2.1 x.2.2.2.1 x.2.2.2.2.1 x.2.2.2.2.2.1 x.2.2.2.2.2.2.1 x.2.2.2.2.2.2.2.1 x.2.2.2.2.2.2.2.2.1⟩), (6, ⟨⟨[(4, (.ptr 1 0)), (8, (.ptr 2 0)), (7, (.d (.int .i64))), (0, (.ptr 0 0))], [(.st 7), (.cells [(.d (.int .u8)), (.d (.int .i64)), (.d (.int .i64)), (.d .bool), (.d .str), (.own 3)]), (.st 2), (.acc 26 (.st 3) true)], 1, 122⟩, fun x => zzz n x.1 x.2.1 x.2.2.1 x.2.2.2.1 x.2.2.2.2.1 x.2.2.2.2.2.1 x.2.2.2.2.2.2.1 x.2.2.2.2.2.2.2.1 x.2.2.2.2.2.2.2.2.1⟩)]) (ann [(41, 0), (45, 1), (54, 2), (58, 3), (62, 4), (66, 5), (75, 6)] (Tryz.f164.body.getD .skip) 0).1
noncomputable def zrp : List (FI dat) := [z58] ++ [z89, z6b, z4b, zej]
theorem zte : (z58).Good Tryz.prog dat (tb zrp) := FI.yz5 (hD := zz3 _) Tryz.func164 Tryz.ntmps164 Tryz.call164 (by kernel_rfl) (of_decide_eq_true (by kernel_rfl)) (by kernel_rfl) (fun n => by kernel_rfl) (fun x => by kernel_rfl) (fun _ => rfl) ⟨fun _ => rfl, fun _ => rfl, fun _ => rfl, fun _ => rfl, fun _ => rfl, fun _ => rfl, fun _ => rfl, trivial⟩
 (fun n => fun x => (zzk.eq_2 x.1 x.2.1 n).trans (by kernel_rfl))
 (fun n => ⟨fun x => (z78.eq_2 x.1 x.2.1 x.2.2.1 x.2.2.2.1 x.2.2.2.2.1 x.2.2.2.2.2.1 x.2.2.2.2.2.2.1 x.2.2.2.2.2.2.2.1 x.2.2.2.2.2.2.2.2.1 x.2.2.2.2.2.2.2.2.2.1 x.2.2.2.2.2.2.2.2.2.2.1 x.2.2.2.2.2.2.2.2.2.2.2.1 x.2.2.2.2.2.2.2.2.2.2.2.2.1 x.2.2.2.2.2.2.2.2.2.2.2.2.2.1 x.2.2.2.2.2.2.2.2.2.2.2.2.2.2.1 n).trans (by kernel_rfl),
  fun x => (z6v.eq_2 x.1 x.2.1 x.2.2.1 x.2.2.2.1 x.2.2.2.2.1 x.2.2.2.2.2.1 x.2.2.2.2.2.2.1 x.2.2.2.2.2.2.2.1 x.2.2.2.2.2.2.2.2.1 x.2.2.2.2.2.2.2.2.2.1 x.2.2.2.2.2.2.2.2.2.2.1 x.2.2.2.2.2.2.2.2.2.2.2.1 x.2.2.2.2.2.2.2.2.2.2.2.2.1 x.2.2.2.2.2.2.2.2.2.2.2.2.2.1 x.2.2.2.2.2.2.2.2.2.2.2.2.2.2.1 n).trans (by kernel_rfl),
  fun x => (z71.eq_2 x.1 x.2.1 x.2.2.1 x.2.2.2.1 x.2.2.2.2.1 x.2.2.2.2.2.1 x.2.2.2.2.2.2.1 x.2.2.2.2.2.2.2.1 x.2.2.2.2.2.2.2.2.1 x.2.2.2.2.2.2.2.2.2.1 x.2.2.2.2.2.2.2.2.2.2.1 x.2.2.2.2.2.2.2.2.2.2.2.1 x.2.2.2.2.2.2.2.2.2.2.2.2.1 n).trans (by kernel_rfl),
  fun x => (kzy.eq_2 x.1 x.2.1 x.2.2.1 x.2.2.2.1 x.2.2.2.2.1 x.2.2.2.2.2.1 x.2.2.2.2.2.2.1 n).trans (by kernel_rfl),
  fun x => (yzk.eq_2 x.1 x.2.1 x.2.2.1 x.2.2.2.1 x.2.2.2.2.1 x.2.2.2.2.2.1 x.2.2.2.2.2.2.1 x.2.2.2.2.2.2.2.1 n).trans (by kernel_rfl),
  fun x => (zzy.eq_2 x.1 x.2.1 x.2.2.1 x.2.2.2.1 x.2.2.2.2.1 x.2.2.2.2.2.1 x.2.2.2.2.2.2.1 x.2.2.2.2.2.2.2.1 x.2.2.2.2.2.2.2.2.1 n).trans (by kernel_rfl),
  fun x => (zzz.eq_2 x.1 x.2.1 x.2.2.1 x.2.2.2.1 x.2.2.2.2.1 x.2.2.2.2.2.1 x.2.2.2.2.2.2.1 x.2.2.2.2.2.2.2.1 x.2.2.2.2.2.2.2.2.1 n).trans (by kernel_rfl),
  trivial⟩)
 (fun x => .inr (by kernel_rfl))
theorem zrn : OkL Tryz.prog [z58] := z4s (zz3 _) (bs := [z89, z6b, z4b, zej]) ⟨zt4, zpi, zj3, y4x, trivial⟩ ⟨zte, trivial⟩
theorem zr3 : FOk Tryz.prog z58 := zrn.1
mutual
def z0y : Nat → (List UInt8) → Option (Int × yz0)
 | 0, _ => none
 | n + 1, a0 =>
   pIf (decide ((a0.length : Int) > 4000))
     (some (12, (yz0.mk 0 (zz2.mk 0 0) false [] [])))
     ((zzk n 6 (kz3.mk a0 0 true)).bind fun y0 =>
     pIf (!y0.1.ok)
       (z0o n true (yz0.mk 0 (zz2.mk 0 0) false [] []) y0.2.re)
       (pIf (y0.1.at_ != (a0.length : Int))
         (z0o n true (yz0.mk 0 (zz2.mk 0 0) false [] []) y0.2.re)
         ((z4j n y0.2.re).bind fun y1 =>
         z0o n (y1 != 0) (yz0.mk 0 (zz2.mk 0 0) false [] []) y0.2.re)))
def z0o : Nat → Bool → yz0 → yz0 → Option (Int × yz0)
 | 0, _, _, _ => none
 | n + 1, a0, a1, a2 =>
   pIf a0
     (some (12, (yz0.mk 0 (zz2.mk 0 0) false [] [])))
     (some (0, a2.re))
end
def y99 : LSh := ⟨[(2, (.ptr 0 0)), (3, (.d (.int .i64)))], [(.st 3)], 0, 36⟩
noncomputable def zee : FI dat := FI.of dat 136 36 0 [(.d .str)] [] [(.d (.st 3)), (.d (.int .i64))] [] true y99 (R := Int × yz0) (fun x => (x.1, x.2.1)) (fun r => (r.2, r.1, ())) (fun n x => z0y n x.1)
 (fun n => [(0, ⟨⟨[(2, (.ptr 0 0)), (5, (.ptr 1 0)), (33, (.d .bool))], [(.st 3), (.st 3)], 0, 36⟩, fun x => z0o n x.1 x.2.1 x.2.2.1⟩)]) (ann [(17, 0)] (Tryz.f136.body.getD .skip) 0).1
noncomputable def ya2 : List (FI dat) := [z58, z77]
theorem ya3 : (zee).Good Tryz.prog dat (tb ya2) := FI.yz5 (hD := zz3 _) Tryz.func136 Tryz.ntmps136 Tryz.call136 (by kernel_rfl) (of_decide_eq_true (by kernel_rfl)) (by kernel_rfl) (fun n => by kernel_rfl) (fun x => by kernel_rfl) (fun _ => rfl) ⟨fun _ => rfl, trivial⟩
 (fun n => fun x => (z0y.eq_2 x.1 n).trans (by kernel_rfl))
 (fun n => ⟨fun x => (z0o.eq_2 x.1 x.2.1 x.2.2.1 n).trans (by kernel_rfl),
  trivial⟩)
 (fun x => .inl rfl)
theorem y85 : OkL Tryz.prog [zee] := yze (zz3 _) (bs := [z58, z77]) ⟨zr3, zmc, trivial⟩ ya3
theorem y4y : FOk Tryz.prog zee := y85.1
mutual
def yzx : Nat → yz3 → Option (Res (Int × Unit) (yz3 × kz0))
 | 0, _ => none
 | n + 1, a0 =>
   (z0j n a0.s [34]).bind fun y0 =>
   pIf y0
     (zzi n 1 a0 (kz0.mk 0 (yz0.mk 0 (zz2.mk 0 0) false [] []) [] []))
     (kzi n 0 a0 (kz0.mk 0 (yz0.mk 0 (zz2.mk 0 0) false [] []) [] []))
def zzi : Nat → Int → yz3 → kz0 → Option (Res (Int × Unit) (yz3 × kz0))
 | 0, _, _, _ => none
 | n + 1, a0, a1, a2 =>
   pIf (decide (a0 < (a1.s.length : Int)))
     ((ix a1.s a0).bind fun x1 =>
     yzi n a0 ((x1.toNat : Int) != 34) a1 a2.re)
     (yzi n a0 false a1 a2.re)
def yzi : Nat → Int → Bool → yz3 → kz0 → Option (Res (Int × Unit) (yz3 × kz0))
 | 0, _, _, _, _ => none
 | n + 1, a0, a1, a2, a3 =>
   pIf a1
     ((ix a2.s a0).bind fun x4 =>
     pIf ((x4.toNat : Int) == 92)
       (yzt n (IntKind.i64.wrap (a0 + 1)) a2 a3.re)
       (yzt n a0 a2 a3.re))
     (yz7 n (mnI (IntKind.i64.wrap (a0 + 1)) (a2.s.length : Int)) a2 a3.re)
def yzt : Nat → Int → yz3 → kz0 → Option (Res (Int × Unit) (yz3 × kz0))
 | 0, _, _, _ => none
 | n + 1, a0, a1, a2 =>
   zzi n (IntKind.i64.wrap (a0 + 1)) a1 a2.re
def kzi : Nat → Int → yz3 → kz0 → Option (Res (Int × Unit) (yz3 × kz0))
 | 0, _, _, _ => none
 | n + 1, a0, a1, a2 =>
   pIf (decide (a0 < (a1.s.length : Int)))
     ((ix a1.s a0).bind fun x2 =>
     (kzx n [48, 49, 50, 51, 52, 53, 54, 55, 56, 57, 47, 45] (x2.toNat : Int)).bind fun y3 =>
     kzu n a0 (decide (y3 ≥ 0)) a1 a2.re)
     (kzu n a0 false a1 a2.re)
def kzu : Nat → Int → Bool → yz3 → kz0 → Option (Res (Int × Unit) (yz3 × kz0))
 | 0, _, _, _, _ => none
 | n + 1, a0, a1, a2, a3 =>
   pIf a1
     (kzi n (IntKind.i64.wrap (a0 + 1)) a2 a3.re)
     (yz7 n a0 a2 a3.re)
def yz7 : Nat → Int → yz3 → kz0 → Option (Res (Int × Unit) (yz3 × kz0))
 | 0, _, _, _ => none
 | n + 1, a0, a1, a2 =>
   (sub a1.s 0 a0).bind fun x5 =>
   (z0y n x5).bind fun y6 =>
   (zzq n y6.1).bind fun y7 =>
   zi4 y7 (fun r8 =>
     (sub a1.s a0 (a1.s.length : Int)).bind fun x9 =>
     some (Res.ok ((yz3.mk x9), (kz0.mk 1 y6.2.re [] []))))
     (fun e10 =>
     some (Res.pan (e10.1, ())))
end
def zra : LSh := ⟨[(2, (.ptr 1 0))], [(.st 6), (.st 4)], 1, 88⟩
noncomputable def z6d : FI dat := FI.ofP dat 103 88 1 [(.ptr 0 0)] [(.st 6)] [(.d (.st 4))] [(.st 6), (.st 4)] (.iface 31 (.d (.int .i64))) [(.cells [.any])] [] zra (R := yz3 × kz0) (fun x => (x.1, x.2.1)) (fun r => (r.2, r.1, r.2, ())) (fun n x => yzx n x.1)
 (fun n => [(0, ⟨⟨[(3, (.d (.int .i64))), (0, (.ptr 0 0)), (2, (.ptr 1 0))], [(.st 6), (.st 4)], 1, 88⟩, fun x => zzi n x.1 x.2.1 x.2.2.1⟩), (1, ⟨⟨[(0, (.ptr 0 0)), (2, (.ptr 1 0)), (3, (.d (.int .i64))), (26, (.d .bool))], [(.st 6), (.st 4)], 1, 88⟩, fun x => yzi n x.1 x.2.1 x.2.2.1 x.2.2.2.1⟩), (2, ⟨⟨[(0, (.ptr 0 0)), (2, (.ptr 1 0)), (3, (.d (.int .i64)))], [(.st 6), (.st 4)], 1, 88⟩, fun x => yzt n x.1 x.2.1 x.2.2.1⟩), (3, ⟨⟨[(3, (.d (.int .i64))), (2, (.ptr 1 0)), (0, (.ptr 0 0))], [(.st 6), (.st 4)], 1, 88⟩, fun x => kzi n x.1 x.2.1 x.2.2.1⟩), (4, ⟨⟨[(2, (.ptr 1 0)), (0, (.ptr 0 0)), (3, (.d (.int .i64))), (62, (.d .bool))], [(.st 6), (.st 4)], 1, 88⟩, fun x => kzu n x.1 x.2.1 x.2.2.1 x.2.2.2.1⟩), (5, ⟨⟨[(2, (.ptr 1 0)), (3, (.d (.int .i64))), (0, (.ptr 0 0))], [(.st 6), (.st 4)], 1, 88⟩, fun x => yz7 n x.1 x.2.1 x.2.2.1⟩)]) (ann [(12, 0), (16, 1), (26, 2), (29, 3), (33, 4), (38, 5)] (Tryz.f103.body.getD .skip) 0).1
noncomputable def zr1 : List (FI dat) := [z48, z4b, zee, z2r]
theorem zr5 : (z6d).Good Tryz.prog dat (tb zr1) := FI.zp5 (hD := zz3 _) Tryz.func103 Tryz.ntmps103 Tryz.call103 (by kernel_rfl) (of_decide_eq_true (by kernel_rfl)) (by kernel_rfl) (fun n => by kernel_rfl) trivial (fun x => by kernel_rfl) (fun _ => rfl) ⟨fun _ => rfl, fun _ => rfl, fun _ => rfl, fun _ => rfl, fun _ => rfl, fun _ => rfl, trivial⟩
 (fun n => fun x => (yzx.eq_2 x.1 n).trans (by kernel_rfl))
 (fun n => ⟨fun x => (zzi.eq_2 x.1 x.2.1 x.2.2.1 n).trans (by kernel_rfl),
  fun x => (yzi.eq_2 x.1 x.2.1 x.2.2.1 x.2.2.2.1 n).trans (by kernel_rfl),
  fun x => (yzt.eq_2 x.1 x.2.1 x.2.2.1 n).trans (by kernel_rfl),
  fun x => (kzi.eq_2 x.1 x.2.1 x.2.2.1 n).trans (by kernel_rfl),
  fun x => (kzu.eq_2 x.1 x.2.1 x.2.2.1 x.2.2.2.1 n).trans (by kernel_rfl),
  fun x => (yz7.eq_2 x.1 x.2.1 x.2.2.1 n).trans (by kernel_rfl),
  trivial⟩)
 (fun x => by kernel_rfl)
theorem zqz : OkL Tryz.prog [z6d] := yze (zz3 _) (bs := [z48, z4b, zee, z2r]) ⟨zio, zj3, y4y, zfn, trivial⟩ zr5
theorem zqa : FOk Tryz.prog z6d := zqz.1
end Go.Proofs.YtfhpamcehnfhoaaGreatDoor


namespace Go.Proofs.YtfhpamcehnfhoaaGreatDoor
open Go Go.Ab
set_option linter.unusedVariables false
set_option maxRecDepth 100000
def z74 : Nat → Bool → Option yz0
 | 0, _ => none
 | n + 1, a0 =>
   some (yz0.mk 2 (zz2.mk 0 0) a0 [] [])
def ygj : LSh := ⟨[(2, (.ptr 0 0))], [(.st 3)], 0, 5⟩
noncomputable def zgo : FI dat := FI.of dat 104 5 0 [(.d .bool)] [] [(.d (.st 3))] [] true ygj (R := yz0) (fun x => x.1) (fun r => (r, ())) (fun n x => z74 n x.1)
 (fun n => []) (ann [] (Tryz.f104.body.getD .skip) 0).1
noncomputable def yed : List (FI dat) := []
theorem yg2 : (zgo).Good Tryz.prog dat (tb yed) := FI.yz5 (hD := zz3 _) Tryz.func104 Tryz.ntmps104 Tryz.call104 (by kernel_rfl) (of_decide_eq_true (by kernel_rfl)) (by kernel_rfl) (fun n => by kernel_rfl) (fun x => by kernel_rfl) (fun _ => rfl) trivial
 (fun n => fun x => (z74.eq_2 x.1 n).trans (by kernel_rfl))
 (fun n => trivial)
 (fun x => .inl rfl)
theorem ye7 : OkL Tryz.prog [zgo] := yze (zz3 _) (bs := []) trivial yg2
theorem yb3 : FOk Tryz.prog zgo := ye7.1
mutual
def kze : Nat → (List (List UInt8)) → (List UInt8) → Option Int
 | 0, _, _ => none
 | n + 1, a0, a1 =>
   kz5 n 0 a0 a1 (a0.length : Int)
def kz5 : Nat → Int → (List (List UInt8)) → (List UInt8) → Int → Option Int
 | 0, _, _, _, _ => none
 | n + 1, a0, a1, a2, a3 =>
   pIf (decide (a0 < a3))
     ((ix a1 a0).bind fun x0 =>
     pIf (a2 == x0)
       (some a0)
       (kz5 n (IntKind.i64.wrap (a0 + 1)) a1 a2 a3))
     (some (-1))
end
def zjr : LSh := ⟨[(4, (.d (.int .i64)))], [], 0, 19⟩
noncomputable def z1l : FI dat := FI.of dat 105 19 0 [(.d (.sl .str)), (.d .str)] [] [(.d (.int .i64))] [] true zjr (R := Int) (fun x => x.1) (fun r => (r, ())) (fun n x => kze n x.1 x.2.1)
 (fun n => [(0, ⟨⟨[(8, (.d (.int .i64))), (0, (.d (.sl .str))), (1, (.d .str)), (7, (.d (.int .i64)))], [], 0, 19⟩, fun x => kz5 n x.1 x.2.1 x.2.2.1 x.2.2.2.1⟩)]) (ann [(6, 0)] (Tryz.f105.body.getD .skip) 0).1
noncomputable def zji : List (FI dat) := []
theorem zjg : (z1l).Good Tryz.prog dat (tb zji) := FI.yz5 (hD := zz3 _) Tryz.func105 Tryz.ntmps105 Tryz.call105 (by kernel_rfl) (of_decide_eq_true (by kernel_rfl)) (by kernel_rfl) (fun n => by kernel_rfl) (fun x => by kernel_rfl) (fun _ => rfl) ⟨fun _ => rfl, trivial⟩
 (fun n => fun x => (kze.eq_2 x.1 x.2.1 n).trans (by kernel_rfl))
 (fun n => ⟨fun x => (kz5.eq_2 x.1 x.2.1 x.2.2.1 x.2.2.2.1 n).trans (by kernel_rfl),
  trivial⟩)
 (fun x => .inl rfl)
theorem zjf : OkL Tryz.prog [z1l] := yze (zz3 _) (bs := []) trivial zjg
theorem ziv : FOk Tryz.prog z1l := zjf.1
mutual
def yzd : Nat → Int → yz3 → Option (Res (Int × Unit) (yz3 × kz0))
 | 0, _, _ => none
 | n + 1, a0, a1 =>
   pIf (a0 == 0)
     ((zzq n 12).bind fun y0 =>
     zi4 y0 (fun r1 =>
       yz6 n a0 a1 (kz0.mk 0 (yz0.mk 0 (zz2.mk 0 0) false [] []) [] []))
       (fun e2 =>
       some (Res.pan (e2.1, ()))))
     (yz6 n a0 a1 (kz0.mk 0 (yz0.mk 0 (zz2.mk 0 0) false [] []) [] []))
def yz6 : Nat → Int → yz3 → kz0 → Option (Res (Int × Unit) (yz3 × kz0))
 | 0, _, _, _ => none
 | n + 1, a0, a1, a2 =>
   (kz7 n [40] a1).bind fun y3 =>
   pIf y3.1
     ((yzd n (IntKind.i64.wrap (a0 - 1)) y3.2).bind fun y4 =>
     zi4 y4 (fun r5 =>
       (yzc n [32] r5.1).bind fun y6 =>
       zi4 y6 (fun r7 =>
         zz7 n 3 a0 r7 a2.re r5.2.re)
         (fun e8 =>
         some (Res.pan (e8.1, ()))))
       (fun e9 =>
       some (Res.pan (e9.1, ()))))
     (z0h n a0 y3.2 a2.re)
def zz7 : Nat → Int → Int → yz3 → kz0 → kz0 → Option (Res (Int × Unit) (yz3 × kz0))
 | 0, _, _, _, _, _ => none
 | n + 1, a0, a1, a2, a3, a4 =>
   pIf (decide (a0 ≤ 10))
     ((z61 n a0).bind fun y10 =>
     (cat y10 [32]).bind fun x11 =>
     (kz7 n x11 a2).bind fun y12 =>
     pIf y12.1
       ((yzd n (IntKind.i64.wrap (a1 - 1)) y12.2).bind fun y13 =>
       zi4 y13 (fun r14 =>
         (yzc n [41] r14.1).bind fun y15 =>
         zi4 y15 (fun r16 =>
           some (Res.ok (r16, (kz0.mk a0 (yz0.mk 0 (zz2.mk 0 0) false [] []) [] [a4.re, r14.2.re]))))
           (fun e17 =>
           some (Res.pan (e17.1, ()))))
         (fun e18 =>
         some (Res.pan (e18.1, ()))))
       (zz7 n (IntKind.u8.wrap (a0 + 1)) a1 y12.2 a3.re a4.re))
     ((zzq n 12).bind fun y19 =>
     zi4 y19 (fun r20 =>
       z0h n a1 a2 a3.re)
       (fun e21 =>
       some (Res.pan (e21.1, ()))))
def z0h : Nat → Int → yz3 → kz0 → Option (Res (Int × Unit) (yz3 × kz0))
 | 0, _, _, _ => none
 | n + 1, a0, a1, a2 =>
   (kz7 n [91] a1).bind fun y22 =>
   pIf y22.1
     ((zzb n (IntKind.i64.wrap (a0 - 1)) [93] y22.2).bind fun y23 =>
     zi4 y23 (fun r24 =>
       some (Res.ok (r24.2, (kz0.mk 18 (yz0.mk 0 (zz2.mk 0 0) false [] []) [] r24.1))))
       (fun e25 =>
       some (Res.pan (e25.1, ()))))
     (kzc n 0 a0 y22.2 a2.re)
def kzc : Nat → Int → Int → yz3 → kz0 → Option (Res (Int × Unit) (yz3 × kz0))
 | 0, _, _, _, _ => none
 | n + 1, a0, a1, a2, a3 =>
   pIf (decide (a0 < (a2.s.length : Int)))
     ((ix a2.s a0).bind fun x26 =>
     pIf (decide ((x26.toNat : Int) ≥ 97))
       ((ix a2.s a0).bind fun x27 =>
       pIf (decide ((x27.toNat : Int) ≤ 122))
         (zz5 n a1 a0 true a2 a3.re)
         (pIf (decide (a0 > 0))
           ((ix a2.s a0).bind fun x28 =>
           pIf ((x28.toNat : Int) == 45)
             (zz5 n a1 a0 true a2 a3.re)
             ((ix a2.s a0).bind fun x29 =>
             pIf (decide ((x29.toNat : Int) ≥ 48))
               ((ix a2.s a0).bind fun x30 =>
               zz5 n a1 a0 (decide ((x30.toNat : Int) ≤ 57)) a2 a3.re)
               (zz5 n a1 a0 false a2 a3.re)))
           (zz5 n a1 a0 false a2 a3.re)))
       (pIf (decide (a0 > 0))
         ((ix a2.s a0).bind fun x31 =>
         pIf ((x31.toNat : Int) == 45)
           (zz5 n a1 a0 true a2 a3.re)
           ((ix a2.s a0).bind fun x32 =>
           pIf (decide ((x32.toNat : Int) ≥ 48))
             ((ix a2.s a0).bind fun x33 =>
             zz5 n a1 a0 (decide ((x33.toNat : Int) ≤ 57)) a2 a3.re)
             (zz5 n a1 a0 false a2 a3.re)))
         (zz5 n a1 a0 false a2 a3.re)))
     (zz5 n a1 a0 false a2 a3.re)
def zz5 : Nat → Int → Int → Bool → yz3 → kz0 → Option (Res (Int × Unit) (yz3 × kz0))
 | 0, _, _, _, _, _ => none
 | n + 1, a0, a1, a2, a3, a4 =>
   pIf a2
     (kzc n (IntKind.i64.wrap (a1 + 1)) a0 a3 a4.re)
     ((sub a3.s 0 a1).bind fun x34 =>
     pIf (a1 == 0)
       ((yzx n a3).bind fun y35 =>
       zi4 y35 (fun r36 =>
         some (Res.ok (r36.1, r36.2.re)))
         (fun e37 =>
         some (Res.pan (e37.1, ()))))
       (pIf (x34 == [116, 114, 117, 101])
         (kzn n x34 a1 a0 true a3 a4.re)
         (kzn n x34 a1 a0 (x34 == [102, 97, 108, 115, 101]) a3 a4.re)))
def kzn : Nat → (List UInt8) → Int → Int → Bool → yz3 → kz0 → Option (Res (Int × Unit) (yz3 × kz0))
 | 0, _, _, _, _, _, _ => none
 | n + 1, a0, a1, a2, a3, a4, a5 =>
   pIf a3
     ((sub a4.s a1 (a4.s.length : Int)).bind fun x38 =>
     (z74 n (a0 == [116, 114, 117, 101])).bind fun y39 =>
     some (Res.ok ((yz3.mk x38), (kz0.mk 1 y39.re [] []))))
     ((sub a4.s a1 (a4.s.length : Int)).bind fun x40 =>
     (kz7 n [40] (yz3.mk x40)).bind fun y41 =>
     pIf (!y41.1)
       (some (Res.ok (y41.2, (kz0.mk 2 (yz0.mk 0 (zz2.mk 0 0) false [] []) a0 []))))
       ((kzd n [110, 111, 116, 32, 105, 102, 32, 109, 105, 110, 32, 109, 97, 120, 32, 102, 108, 111, 111, 114, 32, 108, 101, 110, 32, 97, 116]).bind fun y42 =>
       (kze n y42 a0).bind fun y43 =>
       pIf (decide (y43 < 0))
         ((zzq n 12).bind fun y44 =>
         zi4 y44 (fun r45 =>
           zzo n a2 y43 y41.2 a5.re)
           (fun e46 =>
           some (Res.pan (e46.1, ()))))
         (zzo n a2 y43 y41.2 a5.re)))
def zzo : Nat → Int → Int → yz3 → kz0 → Option (Res (Int × Unit) (yz3 × kz0))
 | 0, _, _, _, _ => none
 | n + 1, a0, a1, a2, a3 =>
   (zzb n (IntKind.i64.wrap (a0 - 1)) [41] a2).bind fun y47 =>
   zi4 y47 (fun r48 =>
     some (Res.ok (r48.2, (kz0.mk (IntKind.u8.wrap (11 + (IntKind.u8.wrap a1))) (yz0.mk 0 (zz2.mk 0 0) false [] []) [] r48.1))))
     (fun e49 =>
     some (Res.pan (e49.1, ())))
def zzb : Nat → Int → (List UInt8) → yz3 → Option (Res (Int × Unit) ((List kz0) × yz3))
 | 0, _, _, _ => none
 | n + 1, a0, a1, a2 =>
   (kz7 n a1 a2).bind fun y0 =>
   pIf y0.1
     (some (Res.ok ([], y0.2)))
     (yzf n a1 a0 y0.2 [])
def yzf : Nat → (List UInt8) → Int → yz3 → (List kz0) → Option (Res (Int × Unit) ((List kz0) × yz3))
 | 0, _, _, _, _ => none
 | n + 1, a0, a1, a2, a3 =>
   (yzd n a1 a2).bind fun y1 =>
   zi4 y1 (fun r2 =>
     (ext a3 [r2.2.re]).bind fun x3 =>
     (kz7 n a0 r2.1).bind fun y4 =>
     pIf y4.1
       (some (Res.ok (x3, y4.2)))
       ((yzc n [44, 32] y4.2).bind fun y5 =>
       zi4 y5 (fun r6 =>
         yzf n a0 a1 r6 x3)
         (fun e7 =>
         some (Res.pan (e7.1, ())))))
     (fun e8 =>
     some (Res.pan (e8.1, ())))
end
def zw6 : LSh := ⟨[(4, (.ptr 1 0))], [(.st 6), (.st 4)], 1, 167⟩
noncomputable def z6j : FI dat := FI.ofP dat 73 167 1 [(.ptr 0 0), (.d (.int .i64))] [(.st 6)] [(.d (.st 4))] [(.st 6), (.st 4)] (.iface 31 (.d (.int .i64))) [(.cells [.any])] [] zw6 (R := yz3 × kz0) (fun x => (x.1, x.2.1)) (fun r => (r.2, r.1, r.2, ())) (fun n x => yzd n x.1 x.2.1)
 (fun n => [(0, ⟨⟨[(4, (.ptr 1 0)), (0, (.ptr 0 0)), (1, (.d (.int .i64)))], [(.st 6), (.st 4)], 1, 167⟩, fun x => yz6 n x.1 x.2.1 x.2.2.1⟩), (1, ⟨⟨[(4, (.ptr 1 0)), (5, (.ptr 2 0)), (6, (.d (.int .u8))), (0, (.ptr 0 0)), (1, (.d (.int .i64)))], [(.st 6), (.st 4), (.st 4)], 1, 167⟩, fun x => zz7 n x.1 x.2.1 x.2.2.1 x.2.2.2.1 x.2.2.2.2.1⟩), (2, ⟨⟨[(4, (.ptr 1 0)), (1, (.d (.int .i64))), (0, (.ptr 0 0))], [(.st 6), (.st 4)], 1, 167⟩, fun x => z0h n x.1 x.2.1 x.2.2.1⟩), (3, ⟨⟨[(8, (.d (.int .i64))), (4, (.ptr 1 0)), (0, (.ptr 0 0)), (1, (.d (.int .i64)))], [(.st 6), (.st 4)], 1, 167⟩, fun x => kzc n x.1 x.2.1 x.2.2.1 x.2.2.2.1⟩), (4, ⟨⟨[(4, (.ptr 1 0)), (0, (.ptr 0 0)), (1, (.d (.int .i64))), (8, (.d (.int .i64))), (105, (.d .bool))], [(.st 6), (.st 4)], 1, 167⟩, fun x => zz5 n x.1 x.2.1 x.2.2.1 x.2.2.2.1 x.2.2.2.2.1⟩), (5, ⟨⟨[(4, (.ptr 1 0)), (9, (.d .str)), (8, (.d (.int .i64))), (0, (.ptr 0 0)), (1, (.d (.int .i64))), (119, (.d .bool))], [(.st 6), (.st 4)], 1, 167⟩, fun x => kzn n x.1 x.2.1 x.2.2.1 x.2.2.2.1 x.2.2.2.2.1 x.2.2.2.2.2.1⟩), (6, ⟨⟨[(4, (.ptr 1 0)), (1, (.d (.int .i64))), (0, (.ptr 0 0)), (10, (.d (.int .i64)))], [(.st 6), (.st 4)], 1, 167⟩, fun x => zzo n x.1 x.2.1 x.2.2.1 x.2.2.2.1⟩)]) (ann [(8, 0), (20, 1), (43, 2), (55, 3), (59, 4), (76, 5), (101, 6)] (Tryz.f73.body.getD .skip) 0).1
def zsl : LSh := ⟨[(6, (.d (.sl (.st 4))))], [(.st 6)], 1, 24⟩
noncomputable def zcj : FI dat := FI.ofP dat 102 24 1 [(.ptr 0 0), (.d (.int .i64)), (.d .str)] [(.st 6)] [(.d (.sl (.st 4)))] [(.st 6)] (.iface 31 (.d (.int .i64))) [(.cells [.any])] [] zsl (R := (List kz0) × yz3) (fun x => (x.1, x.2.1)) (fun r => (r.1, r.2, ())) (fun n x => zzb n x.1 x.2.1 x.2.2.1)
 (fun n => [(0, ⟨⟨[(0, (.ptr 0 0)), (2, (.d .str)), (1, (.d (.int .i64))), (7, (.own 1))], [(.st 6), (.acc 29 (.st 4) true)], 1, 24⟩, fun x => yzf n x.1 x.2.1 x.2.2.1 x.2.2.2.1⟩)]) (ann [(13, 0)] (Tryz.f102.body.getD .skip) 0).1
noncomputable def zlq : List (FI dat) := [z6j, zcj] ++ [z2r, z50, z94, zcf, z6d, zgo, z3q, z1l]
theorem zxa : (z6j).Good Tryz.prog dat (tb zlq) := FI.zp5 (hD := zz3 _) Tryz.func73 Tryz.ntmps73 Tryz.call73 (by kernel_rfl) (of_decide_eq_true (by kernel_rfl)) (by kernel_rfl) (fun n => by kernel_rfl) trivial (fun x => by kernel_rfl) (fun _ => rfl) ⟨fun _ => rfl, fun _ => rfl, fun _ => rfl, fun _ => rfl, fun _ => rfl, fun _ => rfl, fun _ => rfl, trivial⟩
 (fun n => fun x => (yzd.eq_2 x.1 x.2.1 n).trans (by kernel_rfl))
 (fun n => ⟨fun x => (yz6.eq_2 x.1 x.2.1 x.2.2.1 n).trans (by kernel_rfl),
  fun x => (zz7.eq_2 x.1 x.2.1 x.2.2.1 x.2.2.2.1 x.2.2.2.2.1 n).trans (by kernel_rfl),
  fun x => (z0h.eq_2 x.1 x.2.1 x.2.2.1 n).trans (by kernel_rfl),
  fun x => (kzc.eq_2 x.1 x.2.1 x.2.2.1 x.2.2.2.1 n).trans (by kernel_rfl),
  fun x => (zz5.eq_2 x.1 x.2.1 x.2.2.1 x.2.2.2.1 x.2.2.2.2.1 n).trans (by kernel_rfl),
  fun x => (kzn.eq_2 x.1 x.2.1 x.2.2.1 x.2.2.2.1 x.2.2.2.2.1 x.2.2.2.2.2.1 n).trans (by kernel_rfl),
  fun x => (zzo.eq_2 x.1 x.2.1 x.2.2.1 x.2.2.2.1 n).trans (by kernel_rfl),
  trivial⟩)
 (fun x => by kernel_rfl)
theorem zrq : (zcj).Good Tryz.prog dat (tb zlq) := FI.zp5 (hD := zz3 _) Tryz.func102 Tryz.ntmps102 Tryz.call102 (by kernel_rfl) (of_decide_eq_true (by kernel_rfl)) (by kernel_rfl) (fun n => by kernel_rfl) trivial (fun x => by kernel_rfl) (fun _ => rfl) ⟨fun _ => rfl, trivial⟩
 (fun n => fun x => (zzb.eq_2 x.1 x.2.1 x.2.2.1 n).trans (by kernel_rfl))
 (fun n => ⟨fun x => (yzf.eq_2 x.1 x.2.1 x.2.2.1 x.2.2.2.1 n).trans (by kernel_rfl),
  trivial⟩)
 (fun x => by kernel_rfl)
theorem zww : OkL Tryz.prog [z6j, zcj] := z4s (zz3 _) (bs := [z2r, z50, z94, zcf, z6d, zgo, z3q, z1l]) ⟨zfn, zju, zul, zys, zqa, yb3, zc6, ziv, trivial⟩ ⟨zxa, zrq, trivial⟩
theorem zuk : FOk Tryz.prog z6j := zww.1
def zgs (a0 : Int) : Option Int :=
  some a0
def yat : LSh := ⟨[], [(.cells [(.d (.int .i64))])], 1, 10⟩
noncomputable def zvj : zlf dat := { f := 72, args := [(.ptr 0 0)], aos := [(.cells [(.d (.int .i64))])], m := none, ros := [(.cells [(.d (.int .i64))])], go := fun x mx => (zgs x.1 ).bind fun r => some (r, ()) }
theorem y3f : (zvj).Ok Tryz.prog := yhu (c := (ann [] (Tryz.f72.body.getD .skip) 0).1) (args := [(.ptr 0 0)]) (aos := [(.cells [(.d (.int .i64))])]) (ros := [(.cells [(.d (.int .i64))])]) (m := none) (l := yat) (pack := fun x => x.1) (un := fun r => (r, ())) (go := fun x mx => zgs x.1 ) (by kernel_rfl) (zz3 _) Tryz.func72 (by kernel_rfl) Tryz.ntmps72 Tryz.call72 (Nat.le_of_ble_eq_true (by kernel_rfl)) (Nat.le_of_ble_eq_true (by kernel_rfl)) (Nat.le_of_ble_eq_true (by kernel_rfl)) (by kernel_rfl) (by kernel_rfl) (by kernel_rfl) (by kernel_rfl) (fun x => by kernel_rfl) (fun x mx => by kernel_rfl)
def zc4 (a0 : Int) (a1 : Int) : Option Int :=
  pIf (!false)
   (some a1)
   (some a0)
def zyw : LSh := ⟨[], [(.cells [(.d (.int .i64))])], 1, 10⟩
noncomputable def zov : zlf dat := { f := 72, args := [(.ptr 0 0)], aos := [(.cells [(.d (.int .i64))])], m := (some (.iface 31 (.d (.int .i64)))), ros := [(.cells [(.d (.int .i64))])], go := fun x mx => (zc4 x.1 mx.1).bind fun r => some (r, ()) }
theorem zvy : (zov).Ok Tryz.prog := yhu (c := (ann [] (Tryz.f72.body.getD .skip) 0).1) (args := [(.ptr 0 0)]) (aos := [(.cells [(.d (.int .i64))])]) (ros := [(.cells [(.d (.int .i64))])]) (m := (some (.iface 31 (.d (.int .i64))))) (l := zyw) (pack := fun x => x.1) (un := fun r => (r, ())) (go := fun x mx => zc4 x.1 mx.1) (by kernel_rfl) (zz3 _) Tryz.func72 (by kernel_rfl) Tryz.ntmps72 Tryz.call72 (Nat.le_of_ble_eq_true (by kernel_rfl)) (Nat.le_of_ble_eq_true (by kernel_rfl)) (Nat.le_of_ble_eq_true (by kernel_rfl)) (by kernel_rfl) (by kernel_rfl) (by kernel_rfl) (by kernel_rfl) (fun x => by kernel_rfl) (fun x mx => by kernel_rfl)
def z2a : Nat → (List UInt8) → Option (kz0 × Int)
 | 0, _ => none
 | n + 1, a0 =>
   (yzd n 12 (yz3.mk a0)).bind fun y0 =>
   zi4 y0 (fun r1 =>
     pIf (!(r1.1.s == []))
       ((zzq n 12).bind fun y2 =>
       zi4 y2 (fun r3 =>
         (((zgs 0).bind fun r5 => some (r5, ()))).bind fun y4 =>
         some (r1.2.re, y4.1))
         (fun e6 =>
         (((zc4 0 e6.1).bind fun r8 => some (r8, ()))).bind fun y7 =>
         some (r1.2.re, y7.1)))
       ((((zgs 0).bind fun r10 => some (r10, ()))).bind fun y9 =>
       some (r1.2.re, y9.1)))
     (fun e11 =>
     (((zc4 0 e11.1).bind fun r13 => some (r13, ()))).bind fun y12 =>
     some ((kz0.mk 0 (yz0.mk 0 (zz2.mk 0 0) false [] []) [] []), y12.1))
def yht : LSh := ⟨[(2, (.ptr 0 0)), (3, (.ptr 1 0))], [(.st 4), (.cells [(.d (.int .i64))])], 0, 17⟩
noncomputable def zd5 : FI dat := FI.ofD dat 42 17 0 [(.d .str)] [] [(.d (.st 4)), (.d (.int .i64))] [(.st 4), (.cells [(.d (.int .i64))])] [zvj, zov] yht (R := kz0 × Int) (fun x => (x.1, x.2.1)) (fun r => (r.1, r.2, r.1, r.2, ())) (fun n x => z2a n x.1)
 (fun n => []) (ann [] (Tryz.f42.body.getD .skip) 0).1
noncomputable def yip : List (FI dat) := [z6j, z2r]
theorem yi3 : (zd5).Good Tryz.prog dat (tb yip) := FI.yqz (hD := zz3 _) Tryz.func42 Tryz.ntmps42 Tryz.call42 (by kernel_rfl) (of_decide_eq_true (by kernel_rfl)) (by kernel_rfl) (fun n => by kernel_rfl) ⟨y3f, zvy, trivial⟩ (fun x => by kernel_rfl) (fun _ => rfl) trivial
 (fun n => fun x => (z2a.eq_2 x.1 n).trans (by kernel_rfl))
 (fun n => trivial)
 (fun x => by kernel_rfl)
theorem yj0 : OkL Tryz.prog [zd5] := yze (zz3 _) (bs := [z6j, z2r]) ⟨zuk, zfn, trivial⟩ yi3
theorem zyl : FOk Tryz.prog zd5 := yj0.1
end Go.Proofs.YtfhpamcehnfhoaaGreatDoor


namespace Go.Proofs.YtfhpamcehnfhoaaGreatDoor
open Go Go.Ab
set_option linter.unusedVariables false
set_option maxRecDepth 100000
mutual
def z07 : Nat → (List UInt8) → Option (Int × kz0)
 | 0, _ => none
 | n + 1, a0 =>
   pIf (decide ((a0.length : Int) > 4000))
     (some (12, (kz0.mk 0 (yz0.mk 0 (zz2.mk 0 0) false [] []) [] [])))
     ((z2a n a0).bind fun y0 =>
     pIf (y0.2 != 0)
       (kzj n true (kz0.mk 0 (yz0.mk 0 (zz2.mk 0 0) false [] []) [] []) y0.1.re)
       ((z2z n y0.1.re).bind fun y1 =>
       kzj n (y1 != 0) (kz0.mk 0 (yz0.mk 0 (zz2.mk 0 0) false [] []) [] []) y0.1.re))
def kzj : Nat → Bool → kz0 → kz0 → Option (Int × kz0)
 | 0, _, _, _ => none
 | n + 1, a0, a1, a2 =>
   pIf a0
     (some (12, (kz0.mk 0 (yz0.mk 0 (zz2.mk 0 0) false [] []) [] [])))
     (some (0, a2.re))
end
def zq5 : LSh := ⟨[(2, (.ptr 0 0)), (3, (.d (.int .i64)))], [(.st 4)], 0, 24⟩
noncomputable def z5m : FI dat := FI.of dat 13 24 0 [(.d .str)] [] [(.d (.st 4)), (.d (.int .i64))] [] true zq5 (R := Int × kz0) (fun x => (x.1, x.2.1)) (fun r => (r.2, r.1, ())) (fun n x => z07 n x.1)
 (fun n => [(0, ⟨⟨[(2, (.ptr 0 0)), (4, (.ptr 1 0)), (21, (.d .bool))], [(.st 4), (.st 4)], 0, 24⟩, fun x => kzj n x.1 x.2.1 x.2.2.1⟩)]) (ann [(15, 0)] (Tryz.f13.body.getD .skip) 0).1
noncomputable def zpu : List (FI dat) := [zd5, z8f]
theorem zq8 : (z5m).Good Tryz.prog dat (tb zpu) := FI.yz5 (hD := zz3 _) Tryz.func13 Tryz.ntmps13 Tryz.call13 (by kernel_rfl) (of_decide_eq_true (by kernel_rfl)) (by kernel_rfl) (fun n => by kernel_rfl) (fun x => by kernel_rfl) (fun _ => rfl) ⟨fun _ => rfl, trivial⟩
 (fun n => fun x => (z07.eq_2 x.1 n).trans (by kernel_rfl))
 (fun n => ⟨fun x => (kzj.eq_2 x.1 x.2.1 x.2.2.1 n).trans (by kernel_rfl),
  trivial⟩)
 (fun x => .inl rfl)
theorem zpp : OkL Tryz.prog [z5m] := yze (zz3 _) (bs := [zd5, z8f]) ⟨zyl, zny, trivial⟩ zq8
theorem znx : FOk Tryz.prog z5m := zpp.1
def zzg : Nat → (List UInt8) → Int → (List UInt8) → Option Bool
 | 0, _, _, _ => none
 | n + 1, a0, a1, a2 =>
   pIf (decide ((IntKind.i64.wrap (a1 + (a2.length : Int))) ≤ (a0.length : Int)))
     ((sub a0 a1 (IntKind.i64.wrap (a1 + (a2.length : Int)))).bind fun x0 =>
     some (x0 == a2))
     (some false)
def y5p : LSh := ⟨[(6, (.d .bool))], [], 0, 25⟩
noncomputable def z8v : FI dat := FI.of dat 78 25 0 [(.d .str), (.d (.int .i64)), (.d .str)] [] [(.d .bool)] [] true y5p (R := Bool) (fun x => x.1) (fun r => (r, ())) (fun n x => zzg n x.1 x.2.1 x.2.2.1)
 (fun n => []) (ann [] (Tryz.f78.body.getD .skip) 0).1
noncomputable def y7q : List (FI dat) := []
theorem y4h : (z8v).Good Tryz.prog dat (tb y7q) := FI.yz5 (hD := zz3 _) Tryz.func78 Tryz.ntmps78 Tryz.call78 (by kernel_rfl) (of_decide_eq_true (by kernel_rfl)) (by kernel_rfl) (fun n => by kernel_rfl) (fun x => by kernel_rfl) (fun _ => rfl) trivial
 (fun n => fun x => (zzg.eq_2 x.1 x.2.1 x.2.2.1 n).trans (by kernel_rfl))
 (fun n => trivial)
 (fun x => .inl rfl)
theorem y6r : OkL Tryz.prog [z8v] := yze (zz3 _) (bs := []) trivial y4h
theorem zqn : FOk Tryz.prog z8v := y6r.1
def zd3 : Nat → Bool → Option yz0
 | 0, _ => none
 | n + 1, a0 =>
   some (yz0.mk 2 (zz2.mk 0 0) a0 [] [])
def yl3 : LSh := ⟨[(2, (.ptr 0 0))], [(.st 3)], 0, 5⟩
noncomputable def zkz : FI dat := FI.of dat 17 5 0 [(.d .bool)] [] [(.d (.st 3))] [] true yl3 (R := yz0) (fun x => x.1) (fun r => (r, ())) (fun n x => zd3 n x.1)
 (fun n => []) (ann [] (Tryz.f17.body.getD .skip) 0).1
noncomputable def ymx : List (FI dat) := []
theorem yme : (zkz).Good Tryz.prog dat (tb ymx) := FI.yz5 (hD := zz3 _) Tryz.func17 Tryz.ntmps17 Tryz.call17 (by kernel_rfl) (of_decide_eq_true (by kernel_rfl)) (by kernel_rfl) (fun n => by kernel_rfl) (fun x => by kernel_rfl) (fun _ => rfl) trivial
 (fun n => fun x => (zd3.eq_2 x.1 n).trans (by kernel_rfl))
 (fun n => trivial)
 (fun x => .inl rfl)
theorem yls : OkL Tryz.prog [zkz] := yze (zz3 _) (bs := []) trivial yme
theorem yi1 : FOk Tryz.prog zkz := yls.1
def zd8 : Nat → (List UInt8) → Option yz0
 | 0, _ => none
 | n + 1, a0 =>
   some (yz0.mk 3 (zz2.mk 0 0) false a0 [])
def yjr : LSh := ⟨[(2, (.ptr 0 0))], [(.st 3)], 0, 5⟩
noncomputable def zil : FI dat := FI.of dat 19 5 0 [(.d .str)] [] [(.d (.st 3))] [] true yjr (R := yz0) (fun x => x.1) (fun r => (r, ())) (fun n x => zd8 n x.1)
 (fun n => []) (ann [] (Tryz.f19.body.getD .skip) 0).1
noncomputable def ykh : List (FI dat) := []
theorem ykk : (zil).Good Tryz.prog dat (tb ykh) := FI.yz5 (hD := zz3 _) Tryz.func19 Tryz.ntmps19 Tryz.call19 (by kernel_rfl) (of_decide_eq_true (by kernel_rfl)) (by kernel_rfl) (fun n => by kernel_rfl) (fun x => by kernel_rfl) (fun _ => rfl) trivial
 (fun n => fun x => (zd8.eq_2 x.1 n).trans (by kernel_rfl))
 (fun n => trivial)
 (fun x => .inl rfl)
theorem yhg : OkL Tryz.prog [zil] := yze (zz3 _) (bs := []) trivial ykk
theorem ygy : FOk Tryz.prog zil := yhg.1
mutual
def z4r : Nat → (List UInt8) → Int → Option (Int × Bool × yz0)
 | 0, _, _ => none
 | n + 1, a0, a1 =>
   kzh n (IntKind.i64.wrap (a1 + 1)) [] a0 (yz0.mk 0 (zz2.mk 0 0) false [] [])
def kzh : Nat → Int → (List UInt8) → (List UInt8) → yz0 → Option (Int × Bool × yz0)
 | 0, _, _, _, _ => none
 | n + 1, a0, a1, a2, a3 =>
   pIf (decide (a0 < (a2.length : Int)))
     ((ix a2 a0).bind fun x0 =>
     pIf ((x0.toNat : Int) == 34)
       ((zd8 n a1).bind fun y1 =>
       some ((IntKind.i64.wrap (a0 + 1)), true, y1.re))
       ((ix a2 a0).bind fun x2 =>
       pIf ((x2.toNat : Int) == 92)
         (pIf (decide ((IntKind.i64.wrap (a0 + 1)) < (a2.length : Int)))
           ((ix a2 (IntKind.i64.wrap (a0 + 1))).bind fun x3 =>
           pIf ((x3.toNat : Int) == 34)
             (z0s n a2 a1 a0 true a3.re)
             ((ix a2 (IntKind.i64.wrap (a0 + 1))).bind fun x4 =>
             z0s n a2 a1 a0 ((x4.toNat : Int) == 92) a3.re))
           (z0s n a2 a1 a0 false a3.re))
         (z0s n a2 a1 a0 false a3.re)))
     (some (0, false, (yz0.mk 0 (zz2.mk 0 0) false [] [])))
def z0s : Nat → (List UInt8) → (List UInt8) → Int → Bool → yz0 → Option (Int × Bool × yz0)
 | 0, _, _, _, _, _ => none
 | n + 1, a0, a1, a2, a3, a4 =>
   pIf a3
     (z4y n a0 (IntKind.i64.wrap (a2 + 1)) a1 a4.re)
     ((ix a0 a2).bind fun x5 =>
     pIf ((x5.toNat : Int) == 92)
       (some (0, false, (yz0.mk 0 (zz2.mk 0 0) false [] [])))
       (z4y n a0 a2 a1 a4.re))
def z4y : Nat → (List UInt8) → Int → (List UInt8) → yz0 → Option (Int × Bool × yz0)
 | 0, _, _, _, _ => none
 | n + 1, a0, a1, a2, a3 =>
   (sub a0 a1 (IntKind.i64.wrap (a1 + 1))).bind fun x6 =>
   (cat a2 x6).bind fun x7 =>
   kzh n (IntKind.i64.wrap (a1 + 1)) x7 a0 a3.re
end
def y6o : LSh := ⟨[(4, (.ptr 0 0)), (5, (.d (.int .i64))), (6, (.d .bool))], [(.st 3)], 0, 68⟩
noncomputable def zct : FI dat := FI.of dat 106 68 0 [(.d .str), (.d (.int .i64))] [] [(.d (.st 3)), (.d (.int .i64)), (.d .bool)] [] true y6o (R := Int × Bool × yz0) (fun x => (x.1, x.2.1, x.2.2.1)) (fun r => (r.2.2, r.1, r.2.1, ())) (fun n x => z4r n x.1 x.2.1)
 (fun n => [(0, ⟨⟨[(4, (.ptr 0 0)), (8, (.d (.int .i64))), (7, (.d .str)), (0, (.d .str))], [(.st 3)], 0, 68⟩, fun x => kzh n x.1 x.2.1 x.2.2.1 x.2.2.2.1⟩), (1, ⟨⟨[(4, (.ptr 0 0)), (0, (.d .str)), (7, (.d .str)), (8, (.d (.int .i64))), (26, (.d .bool))], [(.st 3)], 0, 68⟩, fun x => z0s n x.1 x.2.1 x.2.2.1 x.2.2.2.1 x.2.2.2.2.1⟩), (2, ⟨⟨[(4, (.ptr 0 0)), (0, (.d .str)), (8, (.d (.int .i64))), (7, (.d .str))], [(.st 3)], 0, 68⟩, fun x => z4y n x.1 x.2.1 x.2.2.1 x.2.2.2.1⟩)]) (ann [(8, 0), (27, 1), (36, 2)] (Tryz.f106.body.getD .skip) 0).1
noncomputable def y54 : List (FI dat) := [zil]
theorem y6y : (zct).Good Tryz.prog dat (tb y54) := FI.yz5 (hD := zz3 _) Tryz.func106 Tryz.ntmps106 Tryz.call106 (by kernel_rfl) (of_decide_eq_true (by kernel_rfl)) (by kernel_rfl) (fun n => by kernel_rfl) (fun x => by kernel_rfl) (fun _ => rfl) ⟨fun _ => rfl, fun _ => rfl, fun _ => rfl, trivial⟩
 (fun n => fun x => (z4r.eq_2 x.1 x.2.1 n).trans (by kernel_rfl))
 (fun n => ⟨fun x => (kzh.eq_2 x.1 x.2.1 x.2.2.1 x.2.2.2.1 n).trans (by kernel_rfl),
  fun x => (z0s.eq_2 x.1 x.2.1 x.2.2.1 x.2.2.2.1 x.2.2.2.2.1 n).trans (by kernel_rfl),
  fun x => (z4y.eq_2 x.1 x.2.1 x.2.2.1 x.2.2.2.1 n).trans (by kernel_rfl),
  trivial⟩)
 (fun x => .inl rfl)
theorem y4l : OkL Tryz.prog [zct] := yze (zz3 _) (bs := [zil]) ⟨ygy, trivial⟩ y6y
theorem y3k : FOk Tryz.prog zct := y4l.1
mutual
def z81 : Nat → (List UInt8) → Option (Int × Bool)
 | 0, _ => none
 | n + 1, a0 =>
   pIf (decide ((a0.length : Int) > 0))
     ((ix a0 0).bind fun x0 =>
     z52 n a0 0 0 ((x0.toNat : Int) == 45))
     (z52 n a0 0 0 false)
def z52 : Nat → (List UInt8) → Int → Int → Bool → Option (Int × Bool)
 | 0, _, _, _, _ => none
 | n + 1, a0, a1, a2, a3 =>
   pIf a3
     (z6i n a0 a1 1)
     (z6i n a0 a1 a2)
def z6i : Nat → (List UInt8) → Int → Int → Option (Int × Bool)
 | 0, _, _, _ => none
 | n + 1, a0, a1, a2 =>
   z54 n a2 a0 a1 a2
def z54 : Nat → Int → (List UInt8) → Int → Int → Option (Int × Bool)
 | 0, _, _, _, _ => none
 | n + 1, a0, a1, a2, a3 =>
   pIf (decide (a0 < (a1.length : Int)))
     ((ix a1 a0).bind fun x1 =>
     pIf (decide ((x1.toNat : Int) < 48))
       (z2s n a1 a3 a0 a2 true)
       ((ix a1 a0).bind fun x2 =>
       pIf (decide ((x2.toNat : Int) > 57))
         (z2s n a1 a3 a0 a2 true)
         (z2s n a1 a3 a0 a2 (decide (a0 > (IntKind.i64.wrap (a3 + 9)))))))
     (pIf (a3 == 1)
       (z1i n a1 (IntKind.i64.wrap (0 - a2)) a3)
       (z1i n a1 a2 a3))
def z2s : Nat → (List UInt8) → Int → Int → Int → Bool → Option (Int × Bool)
 | 0, _, _, _, _, _ => none
 | n + 1, a0, a1, a2, a3, a4 =>
   pIf a4
     (some (0, false))
     ((ix a0 a2).bind fun x3 =>
     z54 n (IntKind.i64.wrap (a2 + 1)) a0 (IntKind.i64.wrap ((IntKind.i64.wrap (10 * a3)) + (IntKind.i64.wrap (IntKind.u8.wrap ((x3.toNat : Int) - 48))))) a1)
def z1i : Nat → (List UInt8) → Int → Int → Option (Int × Bool)
 | 0, _, _, _ => none
 | n + 1, a0, a1, a2 =>
   pIf (decide ((a0.length : Int) > a2))
     ((z02 n a1).bind fun y4 =>
     some (a1, (y4 == a0)))
     (some (a1, false))
end
def y5a : LSh := ⟨[(2, (.d (.int .i64))), (3, (.d .bool))], [], 0, 61⟩
noncomputable def zd0 : FI dat := FI.of dat 165 61 0 [(.d .str)] [] [(.d (.int .i64)), (.d .bool)] [] true y5a (R := Int × Bool) (fun x => (x.1, x.2.1)) (fun r => (r.1, r.2, ())) (fun n x => z81 n x.1)
 (fun n => [(0, ⟨⟨[(0, (.d .str)), (5, (.d (.int .i64))), (4, (.d (.int .i64))), (14, (.d .bool))], [], 0, 61⟩, fun x => z52 n x.1 x.2.1 x.2.2.1 x.2.2.2.1⟩), (1, ⟨⟨[(0, (.d .str)), (5, (.d (.int .i64))), (4, (.d (.int .i64)))], [], 0, 61⟩, fun x => z6i n x.1 x.2.1 x.2.2.1⟩), (2, ⟨⟨[(6, (.d (.int .i64))), (0, (.d .str)), (5, (.d (.int .i64))), (4, (.d (.int .i64)))], [], 0, 61⟩, fun x => z54 n x.1 x.2.1 x.2.2.1 x.2.2.2.1⟩), (3, ⟨⟨[(0, (.d .str)), (4, (.d (.int .i64))), (6, (.d (.int .i64))), (5, (.d (.int .i64))), (37, (.d .bool))], [], 0, 61⟩, fun x => z2s n x.1 x.2.1 x.2.2.1 x.2.2.2.1 x.2.2.2.2.1⟩), (4, ⟨⟨[(0, (.d .str)), (5, (.d (.int .i64))), (4, (.d (.int .i64)))], [], 0, 61⟩, fun x => z1i n x.1 x.2.1 x.2.2.1⟩)]) (ann [(7, 0), (10, 1), (14, 2), (26, 3), (39, 4)] (Tryz.f165.body.getD .skip) 0).1
noncomputable def y5c : List (FI dat) := [z62]
theorem y71 : (zd0).Good Tryz.prog dat (tb y5c) := FI.yz5 (hD := zz3 _) Tryz.func165 Tryz.ntmps165 Tryz.call165 (by kernel_rfl) (of_decide_eq_true (by kernel_rfl)) (by kernel_rfl) (fun n => by kernel_rfl) (fun x => by kernel_rfl) (fun _ => rfl) ⟨fun _ => rfl, fun _ => rfl, fun _ => rfl, fun _ => rfl, fun _ => rfl, trivial⟩
 (fun n => fun x => (z81.eq_2 x.1 n).trans (by kernel_rfl))
 (fun n => ⟨fun x => (z52.eq_2 x.1 x.2.1 x.2.2.1 x.2.2.2.1 n).trans (by kernel_rfl),
  fun x => (z6i.eq_2 x.1 x.2.1 x.2.2.1 n).trans (by kernel_rfl),
  fun x => (z54.eq_2 x.1 x.2.1 x.2.2.1 x.2.2.2.1 n).trans (by kernel_rfl),
  fun x => (z2s.eq_2 x.1 x.2.1 x.2.2.1 x.2.2.2.1 x.2.2.2.2.1 n).trans (by kernel_rfl),
  fun x => (z1i.eq_2 x.1 x.2.1 x.2.2.1 n).trans (by kernel_rfl),
  trivial⟩)
 (fun x => .inl rfl)
theorem y58 : OkL Tryz.prog [zd0] := yze (zz3 _) (bs := [z62]) ⟨zoh, trivial⟩ y71
theorem y3r : FOk Tryz.prog zd0 := y58.1
mutual
def zal : Nat → (List UInt8) → Option (Int × zz2)
 | 0, _ => none
 | n + 1, a0 =>
   z60 n 0 a0 (zz2.mk 0 0)
def z60 : Nat → Int → (List UInt8) → zz2 → Option (Int × zz2)
 | 0, _, _, _ => none
 | n + 1, a0, a1, a2 =>
   pIf (decide (a0 < (a1.length : Int)))
     ((ix a1 a0).bind fun x0 =>
     z5q n a1 a0 ((x0.toNat : Int) != 47) a2)
     (z5q n a1 a0 false a2)
def z5q : Nat → (List UInt8) → Int → Bool → zz2 → Option (Int × zz2)
 | 0, _, _, _, _ => none
 | n + 1, a0, a1, a2, a3 =>
   pIf a2
     (z60 n (IntKind.i64.wrap (a1 + 1)) a0 a3)
     ((sub a0 0 a1).bind fun x1 =>
     (z81 n x1).bind fun y2 =>
     pIf (!y2.2)
       (some (12, (zz2.mk 0 0)))
       (pIf (decide (a1 < (a0.length : Int)))
         ((sub a0 (IntKind.i64.wrap (a1 + 1)) (a0.length : Int)).bind fun x3 =>
         (z81 n x3).bind fun y4 =>
         pIf (!y4.2)
           (z5u n true a3 (zz2.mk y2.1 y4.1))
           (z5u n (y4.1 == 1) a3 (zz2.mk y2.1 y4.1)))
         (z5r n a3 (zz2.mk y2.1 1))))
def z5u : Nat → Bool → zz2 → zz2 → Option (Int × zz2)
 | 0, _, _, _ => none
 | n + 1, a0, a1, a2 =>
   pIf a0
     (some (12, (zz2.mk 0 0)))
     (z5r n a1 a2)
def z5r : Nat → zz2 → zz2 → Option (Int × zz2)
 | 0, _, _ => none
 | n + 1, a0, a1 =>
   (z1m n a1).bind fun y5 =>
   pIf (y5 != 0)
     (some (12, (zz2.mk 0 0)))
     (some (0, a1))
end
def ya8 : LSh := ⟨[(2, (.ptr 0 0)), (3, (.d (.int .i64)))], [(.st 2)], 0, 57⟩
noncomputable def ze6 : FI dat := FI.of dat 137 57 0 [(.d .str)] [] [(.d (.st 2)), (.d (.int .i64))] [] true ya8 (R := Int × zz2) (fun x => (x.1, x.2.1)) (fun r => (r.2, r.1, ())) (fun n x => zal n x.1)
 (fun n => [(0, ⟨⟨[(4, (.d (.int .i64))), (2, (.ptr 0 0)), (0, (.d .str))], [(.st 2)], 0, 57⟩, fun x => z60 n x.1 x.2.1 x.2.2.1⟩), (1, ⟨⟨[(2, (.ptr 0 0)), (0, (.d .str)), (4, (.d (.int .i64))), (16, (.d .bool))], [(.st 2)], 0, 57⟩, fun x => z5q n x.1 x.2.1 x.2.2.1 x.2.2.2.1⟩), (2, ⟨⟨[(2, (.ptr 0 0)), (5, (.ptr 1 0)), (50, (.d .bool))], [(.st 2), (.st 2)], 0, 57⟩, fun x => z5u n x.1 x.2.1 x.2.2.1⟩), (3, ⟨⟨[(2, (.ptr 0 0)), (5, (.ptr 1 0))], [(.st 2), (.st 2)], 0, 57⟩, fun x => z5r n x.1 x.2.1⟩)]) (ann [(6, 0), (10, 1), (37, 2), (43, 3)] (Tryz.f137.body.getD .skip) 0).1
noncomputable def y9i : List (FI dat) := [zd0, z6s]
theorem y97 : (ze6).Good Tryz.prog dat (tb y9i) := FI.yz5 (hD := zz3 _) Tryz.func137 Tryz.ntmps137 Tryz.call137 (by kernel_rfl) (of_decide_eq_true (by kernel_rfl)) (by kernel_rfl) (fun n => by kernel_rfl) (fun x => by kernel_rfl) (fun _ => rfl) ⟨fun _ => rfl, fun _ => rfl, fun _ => rfl, fun _ => rfl, trivial⟩
 (fun n => fun x => (zal.eq_2 x.1 n).trans (by kernel_rfl))
 (fun n => ⟨fun x => (z60.eq_2 x.1 x.2.1 x.2.2.1 n).trans (by kernel_rfl),
  fun x => (z5q.eq_2 x.1 x.2.1 x.2.2.1 x.2.2.2.1 n).trans (by kernel_rfl),
  fun x => (z5u.eq_2 x.1 x.2.1 x.2.2.1 n).trans (by kernel_rfl),
  fun x => (z5r.eq_2 x.1 x.2.1 n).trans (by kernel_rfl),
  trivial⟩)
 (fun x => .inl rfl)
theorem y8a : OkL Tryz.prog [ze6] := yze (zz3 _) (bs := [zd0, z6s]) ⟨y3r, zkx, trivial⟩ y97
theorem y81 : FOk Tryz.prog ze6 := y8a.1
def zfc : Nat → zz2 → Option yz0
 | 0, _ => none
 | n + 1, a0 =>
   some (yz0.mk 1 a0 false [] [])
def ynf : LSh := ⟨[(2, (.ptr 0 0))], [(.st 3)], 0, 5⟩
noncomputable def zlm : FI dat := FI.of dat 44 5 0 [(.d (.st 2))] [] [(.d (.st 3))] [] true ynf (R := yz0) (fun x => x.1) (fun r => (r, ())) (fun n x => zfc n x.1)
 (fun n => []) (ann [] (Tryz.f44.body.getD .skip) 0).1
noncomputable def ykq : List (FI dat) := []
theorem ym1 : (zlm).Good Tryz.prog dat (tb ykq) := FI.yz5 (hD := zz3 _) Tryz.func44 Tryz.ntmps44 Tryz.call44 (by kernel_rfl) (of_decide_eq_true (by kernel_rfl)) (by kernel_rfl) (fun n => by kernel_rfl) (fun x => by kernel_rfl) (fun _ => rfl) trivial
 (fun n => fun x => (zfc.eq_2 x.1 n).trans (by kernel_rfl))
 (fun n => trivial)
 (fun x => .inl rfl)
theorem ykl : OkL Tryz.prog [zlm] := yze (zz3 _) (bs := []) trivial ym1
theorem yjn : FOk Tryz.prog zlm := ykl.1
mutual
def z65 : Nat → (List UInt8) → Int → Option (Int × Bool × yz0)
 | 0, _, _ => none
 | n + 1, a0, a1 =>
   z2q n a1 a1 a0 (yz0.mk 0 (zz2.mk 0 0) false [] [])
def z2q : Nat → Int → Int → (List UInt8) → yz0 → Option (Int × Bool × yz0)
 | 0, _, _, _, _ => none
 | n + 1, a0, a1, a2, a3 =>
   pIf (decide (a0 < (a2.length : Int)))
     ((ix a2 a0).bind fun x0 =>
     pIf (decide ((x0.toNat : Int) ≥ 48))
       ((ix a2 a0).bind fun x1 =>
       pIf (decide ((x1.toNat : Int) ≤ 57))
         (yzh n a1 a2 a0 true a3.re)
         ((ix a2 a0).bind fun x2 =>
         pIf ((x2.toNat : Int) == 47)
           (yzh n a1 a2 a0 true a3.re)
           ((ix a2 a0).bind fun x3 =>
           pIf ((x3.toNat : Int) == 45)
             (yzh n a1 a2 a0 (a0 == a1) a3.re)
             (yzh n a1 a2 a0 false a3.re))))
       ((ix a2 a0).bind fun x4 =>
       pIf ((x4.toNat : Int) == 47)
         (yzh n a1 a2 a0 true a3.re)
         ((ix a2 a0).bind fun x5 =>
         pIf ((x5.toNat : Int) == 45)
           (yzh n a1 a2 a0 (a0 == a1) a3.re)
           (yzh n a1 a2 a0 false a3.re))))
     (yzh n a1 a2 a0 false a3.re)
def yzh : Nat → Int → (List UInt8) → Int → Bool → yz0 → Option (Int × Bool × yz0)
 | 0, _, _, _, _, _ => none
 | n + 1, a0, a1, a2, a3, a4 =>
   pIf a3
     (z2q n (IntKind.i64.wrap (a2 + 1)) a0 a1 a4.re)
     ((sub a1 a0 a2).bind fun x6 =>
     (zal n x6).bind fun y7 =>
     (zfc n y7.2).bind fun y8 =>
     some (a2, (y7.1 == 0), y8.re))
end
def y70 : LSh := ⟨[(4, (.ptr 0 0)), (5, (.d (.int .i64))), (6, (.d .bool))], [(.st 3)], 0, 59⟩
noncomputable def zck : FI dat := FI.of dat 107 59 0 [(.d .str), (.d (.int .i64))] [] [(.d (.st 3)), (.d (.int .i64)), (.d .bool)] [] true y70 (R := Int × Bool × yz0) (fun x => (x.1, x.2.1, x.2.2.1)) (fun r => (r.2.2, r.1, r.2.1, ())) (fun n x => z65 n x.1 x.2.1)
 (fun n => [(0, ⟨⟨[(7, (.d (.int .i64))), (4, (.ptr 0 0)), (1, (.d (.int .i64))), (0, (.d .str))], [(.st 3)], 0, 59⟩, fun x => z2q n x.1 x.2.1 x.2.2.1 x.2.2.2.1⟩), (1, ⟨⟨[(4, (.ptr 0 0)), (1, (.d (.int .i64))), (0, (.d .str)), (7, (.d (.int .i64))), (43, (.d .bool))], [(.st 3)], 0, 59⟩, fun x => yzh n x.1 x.2.1 x.2.2.1 x.2.2.2.1 x.2.2.2.2.1⟩)]) (ann [(6, 0), (10, 1)] (Tryz.f107.body.getD .skip) 0).1
noncomputable def y6u : List (FI dat) := [ze6, zlm]
theorem y75 : (zck).Good Tryz.prog dat (tb y6u) := FI.yz5 (hD := zz3 _) Tryz.func107 Tryz.ntmps107 Tryz.call107 (by kernel_rfl) (of_decide_eq_true (by kernel_rfl)) (by kernel_rfl) (fun n => by kernel_rfl) (fun x => by kernel_rfl) (fun _ => rfl) ⟨fun _ => rfl, fun _ => rfl, trivial⟩
 (fun n => fun x => (z65.eq_2 x.1 x.2.1 n).trans (by kernel_rfl))
 (fun n => ⟨fun x => (z2q.eq_2 x.1 x.2.1 x.2.2.1 x.2.2.2.1 n).trans (by kernel_rfl),
  fun x => (yzh.eq_2 x.1 x.2.1 x.2.2.1 x.2.2.2.1 x.2.2.2.2.1 n).trans (by kernel_rfl),
  trivial⟩)
 (fun x => .inl rfl)
theorem y67 : OkL Tryz.prog [zck] := yze (zz3 _) (bs := [ze6, zlm]) ⟨y81, yjn, trivial⟩ y75
theorem y3p : FOk Tryz.prog zck := y67.1
end Go.Proofs.YtfhpamcehnfhoaaGreatDoor


namespace Go.Proofs.YtfhpamcehnfhoaaGreatDoor
open Go Go.Ab
set_option linter.unusedVariables false
set_option maxRecDepth 100000
mutual
def z30 : Nat → (List UInt8) → Int → Int → Option (Int × Bool × yz0)
 | 0, _, _, _ => none
 | n + 1, a0, a1, a2 =>
   pIf (a2 == 0)
     (z8s n a1 a0 a2 true 0 0 0 false [] [])
     (z8s n a1 a0 a2 (decide (a1 ≥ (a0.length : Int))) 0 0 0 false [] [])
def z8s : Nat → Int → (List UInt8) → Int → Bool → Int → Int → Int → Bool → (List UInt8) → (List yz0) → Option (Int × Bool × yz0)
 | 0, _, _, _, _, _, _, _, _, _, _ => none
 | n + 1, a0, a1, a2, a3, a4, a5, a6, a7, a8, a9 =>
   pIf a3
     (some (0, false, (yz0.mk 0 (zz2.mk 0 0) false [] [])))
     ((zzg n a1 a0 [116, 114, 117, 101]).bind fun y0 =>
     pIf y0
       ((zd3 n true).bind fun y1 =>
       some ((IntKind.i64.wrap (a0 + 4)), true, y1.re))
       ((zzg n a1 a0 [102, 97, 108, 115, 101]).bind fun y2 =>
       pIf y2
         ((zd3 n false).bind fun y3 =>
         some ((IntKind.i64.wrap (a0 + 5)), true, y3.re))
         ((ix a1 a0).bind fun x4 =>
         pIf ((x4.toNat : Int) == 34)
           ((z4r n a1 a0).bind fun y5 =>
           some (y5.1, y5.2.1, y5.2.2.re))
           ((ix a1 a0).bind fun x6 =>
           pIf ((x6.toNat : Int) != 91)
             ((z65 n a1 a0).bind fun y7 =>
             some (y7.1, y7.2.1, y7.2.2.re))
             ((zzg n a1 (IntKind.i64.wrap (a0 + 1)) [93]).bind fun y8 =>
             pIf y8
               (some ((IntKind.i64.wrap ((IntKind.i64.wrap (a0 + 1)) + 1)), true, (yz0.mk 4 (zz2.mk 0 0) false [] [])))
               (zdb n a1 a2 (IntKind.i64.wrap (a0 + 1)) a4 a5 a6 a7 a8 4 0 0 false [] a9 []))))))
def zdb : Nat → (List UInt8) → Int → Int → Int → Int → Int → Bool → (List UInt8) → Int → Int → Int → Bool → (List UInt8) → (List yz0) → (List yz0) → Option (Int × Bool × yz0)
 | 0, _, _, _, _, _, _, _, _, _, _, _, _, _, _, _ => none
 | n + 1, a0, a1, a2, a3, a4, a5, a6, a7, a8, a9, a10, a11, a12, a13, a14 =>
   (z30 n a0 a2 (IntKind.i64.wrap (a1 - 1))).bind fun y9 =>
   pIf (!y9.2.1)
     (some (0, false, (yz0.mk 0 (zz2.mk 0 0) false [] [])))
     ((ext a14 [y9.2.2.re]).bind fun x10 =>
     (zzg n a0 y9.1 [93]).bind fun y11 =>
     pIf y11
       (some ((IntKind.i64.wrap (y9.1 + 1)), true, (yz0.mk a8 (zz2.mk a9 a10) a11 a12 x10)))
       ((zzg n a0 y9.1 [44, 32]).bind fun y12 =>
       pIf (!y12)
         (some (0, false, (yz0.mk 0 (zz2.mk 0 0) false [] [])))
         (zdb n a0 a1 (IntKind.i64.wrap (y9.1 + 2)) a3 a4 a5 a6 a7 a8 a9 a10 a11 a12 a13 x10)))
end
def ydz : LSh := ⟨[(6, (.ptr 0 0)), (7, (.d (.int .i64))), (8, (.d .bool))], [(.st 3)], 0, 113⟩
noncomputable def zdk : FI dat := FI.of dat 77 113 0 [(.d .str), (.d (.int .i64)), (.d (.int .i64))] [] [(.d (.st 3)), (.d (.int .i64)), (.d .bool)] [] true ydz (R := Int × Bool × yz0) (fun x => (x.1, x.2.1, x.2.2.1)) (fun r => (r.2.2, r.1, r.2.1, ())) (fun n x => z30 n x.1 x.2.1 x.2.2.1)
 (fun n => [(0, ⟨⟨[(6, (.ptr 0 0)), (1, (.d (.int .i64))), (0, (.d .str)), (2, (.d (.int .i64))), (19, (.d .bool))], [(.cells [(.d (.int .u8)), (.d (.int .i64)), (.d (.int .i64)), (.d .bool), (.d .str), (.own 1)]), (.acc 26 (.st 3) true)], 0, 113⟩, fun x => z8s n x.1 x.2.1 x.2.2.1 x.2.2.2.1 x.2.2.2.2.1 x.2.2.2.2.2.1 x.2.2.2.2.2.2.1 x.2.2.2.2.2.2.2.1 x.2.2.2.2.2.2.2.2.1 x.2.2.2.2.2.2.2.2.2.1⟩), (1, ⟨⟨[(6, (.ptr 0 0)), (15, (.ptr 1 0)), (0, (.d .str)), (2, (.d (.int .i64))), (1, (.d (.int .i64)))], [(.cells [(.d (.int .u8)), (.d (.int .i64)), (.d (.int .i64)), (.d .bool), (.d .str), (.own 2)]), (.cells [(.d (.int .u8)), (.d (.int .i64)), (.d (.int .i64)), (.d .bool), (.d .str), (.own 3)]), (.acc 26 (.st 3) true), (.acc 26 (.st 3) true)], 0, 113⟩, fun x => zdb n x.1 x.2.1 x.2.2.1 x.2.2.2.1 x.2.2.2.2.1 x.2.2.2.2.2.1 x.2.2.2.2.2.2.1 x.2.2.2.2.2.2.2.1 x.2.2.2.2.2.2.2.2.1 x.2.2.2.2.2.2.2.2.2.1 x.2.2.2.2.2.2.2.2.2.2.1 x.2.2.2.2.2.2.2.2.2.2.2.1 x.2.2.2.2.2.2.2.2.2.2.2.2.1 x.2.2.2.2.2.2.2.2.2.2.2.2.2.1 x.2.2.2.2.2.2.2.2.2.2.2.2.2.2.1⟩)]) (ann [(6, 0), (52, 1)] (Tryz.f77.body.getD .skip) 0).1
noncomputable def yg7 : List (FI dat) := [zdk] ++ [z8v, zkz, zct, zck]
theorem yfx : (zdk).Good Tryz.prog dat (tb yg7) := FI.yz5 (hD := zz3 _) Tryz.func77 Tryz.ntmps77 Tryz.call77 (by kernel_rfl) (of_decide_eq_true (by kernel_rfl)) (by kernel_rfl) (fun n => by kernel_rfl) (fun x => by kernel_rfl) (fun _ => rfl) ⟨fun _ => rfl, fun _ => rfl, trivial⟩
 (fun n => fun x => (z30.eq_2 x.1 x.2.1 x.2.2.1 n).trans (by kernel_rfl))
 (fun n => ⟨fun x => (z8s.eq_2 x.1 x.2.1 x.2.2.1 x.2.2.2.1 x.2.2.2.2.1 x.2.2.2.2.2.1 x.2.2.2.2.2.2.1 x.2.2.2.2.2.2.2.1 x.2.2.2.2.2.2.2.2.1 x.2.2.2.2.2.2.2.2.2.1 n).trans (by kernel_rfl),
  fun x => (zdb.eq_2 x.1 x.2.1 x.2.2.1 x.2.2.2.1 x.2.2.2.2.1 x.2.2.2.2.2.1 x.2.2.2.2.2.2.1 x.2.2.2.2.2.2.2.1 x.2.2.2.2.2.2.2.2.1 x.2.2.2.2.2.2.2.2.2.1 x.2.2.2.2.2.2.2.2.2.2.1 x.2.2.2.2.2.2.2.2.2.2.2.1 x.2.2.2.2.2.2.2.2.2.2.2.2.1 x.2.2.2.2.2.2.2.2.2.2.2.2.2.1 x.2.2.2.2.2.2.2.2.2.2.2.2.2.2.1 n).trans (by kernel_rfl),
  trivial⟩)
 (fun x => .inl rfl)
theorem ycz : OkL Tryz.prog [zdk] := z4s (zz3 _) (bs := [z8v, zkz, zct, zck]) ⟨zqn, yi1, y3k, y3p, trivial⟩ ⟨yfx, trivial⟩
theorem y9g : FOk Tryz.prog zdk := ycz.1
mutual
def yzs : Nat → (List UInt8) → Int → Int → Option (Int × Bool × kz0)
 | 0, _, _, _ => none
 | n + 1, a0, a1, a2 =>
   pIf (a2 == 0)
     (z6g n a2 a1 a0 true (kz0.mk 0 (yz0.mk 0 (zz2.mk 0 0) false [] []) [] []))
     (z6g n a2 a1 a0 (decide (a1 ≥ (a0.length : Int))) (kz0.mk 0 (yz0.mk 0 (zz2.mk 0 0) false [] []) [] []))
def z6g : Nat → Int → Int → (List UInt8) → Bool → kz0 → Option (Int × Bool × kz0)
 | 0, _, _, _, _, _ => none
 | n + 1, a0, a1, a2, a3, a4 =>
   pIf a3
     (some (0, false, (kz0.mk 0 (yz0.mk 0 (zz2.mk 0 0) false [] []) [] [])))
     ((ix a2 a1).bind fun x0 =>
     pIf ((x0.toNat : Int) == 40)
       ((zan n a2 (IntKind.i64.wrap (a1 + 1)) (IntKind.i64.wrap (a0 - 1))).bind fun y1 =>
       some (y1.1, y1.2.1, y1.2.2.re))
       ((ix a2 a1).bind fun x2 =>
       pIf ((x2.toNat : Int) == 91)
         ((z63 n a2 (IntKind.i64.wrap (a1 + 1)) (IntKind.i64.wrap (a0 - 1)) [93]).bind fun y3 =>
         some (y3.2.1, y3.2.2, (kz0.mk 18 (yz0.mk 0 (zz2.mk 0 0) false [] []) [] y3.1)))
         (z3a n a1 a1 a2 a0 a4.re)))
def z3a : Nat → Int → Int → (List UInt8) → Int → kz0 → Option (Int × Bool × kz0)
 | 0, _, _, _, _, _ => none
 | n + 1, a0, a1, a2, a3, a4 =>
   pIf (decide (a0 < (a2.length : Int)))
     ((ix a2 a0).bind fun x4 =>
     pIf (decide ((x4.toNat : Int) ≥ 97))
       ((ix a2 a0).bind fun x5 =>
       pIf (decide ((x5.toNat : Int) ≤ 122))
         (zzf n a1 a2 a3 a0 true a4.re)
         (pIf (decide (a0 > a1))
           ((ix a2 a0).bind fun x6 =>
           pIf (decide ((x6.toNat : Int) ≥ 48))
             ((ix a2 a0).bind fun x7 =>
             pIf (decide ((x7.toNat : Int) ≤ 57))
               (zzf n a1 a2 a3 a0 true a4.re)
               ((ix a2 a0).bind fun x8 =>
               zzf n a1 a2 a3 a0 ((x8.toNat : Int) == 45) a4.re))
             ((ix a2 a0).bind fun x9 =>
             zzf n a1 a2 a3 a0 ((x9.toNat : Int) == 45) a4.re))
           (zzf n a1 a2 a3 a0 false a4.re)))
       (pIf (decide (a0 > a1))
         ((ix a2 a0).bind fun x10 =>
         pIf (decide ((x10.toNat : Int) ≥ 48))
           ((ix a2 a0).bind fun x11 =>
           pIf (decide ((x11.toNat : Int) ≤ 57))
             (zzf n a1 a2 a3 a0 true a4.re)
             ((ix a2 a0).bind fun x12 =>
             zzf n a1 a2 a3 a0 ((x12.toNat : Int) == 45) a4.re))
           ((ix a2 a0).bind fun x13 =>
           zzf n a1 a2 a3 a0 ((x13.toNat : Int) == 45) a4.re))
         (zzf n a1 a2 a3 a0 false a4.re)))
     (zzf n a1 a2 a3 a0 false a4.re)
def zzf : Nat → Int → (List UInt8) → Int → Int → Bool → kz0 → Option (Int × Bool × kz0)
 | 0, _, _, _, _, _, _ => none
 | n + 1, a0, a1, a2, a3, a4, a5 =>
   pIf a4
     (z3a n (IntKind.i64.wrap (a3 + 1)) a0 a1 a2 a5.re)
     ((sub a1 a0 a3).bind fun x14 =>
     pIf (a3 == a0)
       (z5b n a0 a1 a3 x14 a2 true a5.re)
       (pIf (x14 == [116, 114, 117, 101])
         (z5b n a0 a1 a3 x14 a2 true a5.re)
         (z5b n a0 a1 a3 x14 a2 (x14 == [102, 97, 108, 115, 101]) a5.re)))
def z5b : Nat → Int → (List UInt8) → Int → (List UInt8) → Int → Bool → kz0 → Option (Int × Bool × kz0)
 | 0, _, _, _, _, _, _, _ => none
 | n + 1, a0, a1, a2, a3, a4, a5, a6 =>
   pIf a5
     ((z30 n a1 a0 1).bind fun y15 =>
     some (y15.1, y15.2.1, (kz0.mk 1 y15.2.2.re [] [])))
     ((zzg n a1 a2 [40]).bind fun y16 =>
     pIf (!y16)
       (some (a2, true, (kz0.mk 2 (yz0.mk 0 (zz2.mk 0 0) false [] []) a3 [])))
       (z0x n 11 a4 a2 a1 a3 a6.re))
def z0x : Nat → Int → Int → Int → (List UInt8) → (List UInt8) → kz0 → Option (Int × Bool × kz0)
 | 0, _, _, _, _, _, _ => none
 | n + 1, a0, a1, a2, a3, a4, a5 =>
   pIf (decide (a0 ≤ 17))
     ((z83 n a0).bind fun y17 =>
     pIf (y17 == a4)
       ((z63 n a3 (IntKind.i64.wrap (a2 + 1)) (IntKind.i64.wrap (a1 - 1)) [41]).bind fun y18 =>
       some (y18.2.1, y18.2.2, (kz0.mk a0 (yz0.mk 0 (zz2.mk 0 0) false [] []) [] y18.1)))
       (z0x n (IntKind.u8.wrap (a0 + 1)) a1 a2 a3 a4 a5.re))
     (some (0, false, (kz0.mk 0 (yz0.mk 0 (zz2.mk 0 0) false [] []) [] [])))
def zan : Nat → (List UInt8) → Int → Int → Option (Int × Bool × kz0)
 | 0, _, _, _ => none
 | n + 1, a0, a1, a2 =>
   (yzs n a0 a1 a2).bind fun y0 =>
   pIf (!y0.2.1)
     (some (0, false, (kz0.mk 0 (yz0.mk 0 (zz2.mk 0 0) false [] []) [] [])))
     (z1b n 3 a0 a2 y0.1 (kz0.mk 0 (yz0.mk 0 (zz2.mk 0 0) false [] []) [] []) y0.2.2.re)
def z1b : Nat → Int → (List UInt8) → Int → Int → kz0 → kz0 → Option (Int × Bool × kz0)
 | 0, _, _, _, _, _, _ => none
 | n + 1, a0, a1, a2, a3, a4, a5 =>
   pIf (decide (a0 ≤ 10))
     ((z6q n a0).bind fun y1 =>
     (cat [32] y1).bind fun x2 =>
     (cat x2 [32]).bind fun x3 =>
     (zzg n a1 a3 x3).bind fun y4 =>
     pIf (!y4)
       (z1b n (IntKind.u8.wrap (a0 + 1)) a1 a2 a3 a4.re a5.re)
       ((yzs n a1 (IntKind.i64.wrap (a3 + (x3.length : Int))) a2).bind fun y5 =>
       pIf (!y5.2.1)
         (z2f n y5.1 a0 true a4.re y5.2.2.re a5.re)
         ((zzg n a1 y5.1 [41]).bind fun y6 =>
         z2f n y5.1 a0 (!y6) a4.re y5.2.2.re a5.re)))
     (some (0, false, (kz0.mk 0 (yz0.mk 0 (zz2.mk 0 0) false [] []) [] [])))
def z2f : Nat → Int → Int → Bool → kz0 → kz0 → kz0 → Option (Int × Bool × kz0)
 | 0, _, _, _, _, _, _ => none
 | n + 1, a0, a1, a2, a3, a4, a5 =>
   pIf a2
     (some (0, false, (kz0.mk 0 (yz0.mk 0 (zz2.mk 0 0) false [] []) [] [])))
     (some ((IntKind.i64.wrap (a0 + 1)), true, (kz0.mk a1 (yz0.mk 0 (zz2.mk 0 0) false [] []) [] [a5.re, a4.re])))
def z63 : Nat → (List UInt8) → Int → Int → (List UInt8) → Option ((List kz0) × Int × Bool)
 | 0, _, _, _, _ => none
 | n + 1, a0, a1, a2, a3 =>
   (zzg n a0 a1 a3).bind fun y0 =>
   pIf y0
     (some ([], (IntKind.i64.wrap (a1 + 1)), true))
     (z0r n a0 a3 a2 a1 [])
def z0r : Nat → (List UInt8) → (List UInt8) → Int → Int → (List kz0) → Option ((List kz0) × Int × Bool)
 | 0, _, _, _, _, _ => none
 | n + 1, a0, a1, a2, a3, a4 =>
   (yzs n a0 a3 a2).bind fun y1 =>
   pIf (!y1.2.1)
     (some ([], 0, false))
     ((ext a4 [y1.2.2.re]).bind fun x2 =>
     (zzg n a0 y1.1 a1).bind fun y3 =>
     pIf y3
       (some (x2, (IntKind.i64.wrap (y1.1 + 1)), true))
       ((zzg n a0 y1.1 [44, 32]).bind fun y4 =>
       pIf (!y4)
         (some ([], 0, false))
         (z0r n a0 a1 a2 (IntKind.i64.wrap (y1.1 + 2)) x2)))
end
def ycf : LSh := ⟨[(6, (.ptr 0 0)), (7, (.d (.int .i64))), (8, (.d .bool))], [(.st 4)], 0, 169⟩
noncomputable def zdu : FI dat := FI.of dat 43 169 0 [(.d .str), (.d (.int .i64)), (.d (.int .i64))] [] [(.d (.st 4)), (.d (.int .i64)), (.d .bool)] [] true ycf (R := Int × Bool × kz0) (fun x => (x.1, x.2.1, x.2.2.1)) (fun r => (r.2.2, r.1, r.2.1, ())) (fun n x => yzs n x.1 x.2.1 x.2.2.1)
 (fun n => [(0, ⟨⟨[(6, (.ptr 0 0)), (2, (.d (.int .i64))), (1, (.d (.int .i64))), (0, (.d .str)), (31, (.d .bool))], [(.st 4)], 0, 169⟩, fun x => z6g n x.1 x.2.1 x.2.2.1 x.2.2.2.1 x.2.2.2.2.1⟩), (1, ⟨⟨[(15, (.d (.int .i64))), (6, (.ptr 0 0)), (1, (.d (.int .i64))), (0, (.d .str)), (2, (.d (.int .i64)))], [(.st 4)], 0, 169⟩, fun x => z3a n x.1 x.2.1 x.2.2.1 x.2.2.2.1 x.2.2.2.2.1⟩), (2, ⟨⟨[(6, (.ptr 0 0)), (1, (.d (.int .i64))), (0, (.d .str)), (2, (.d (.int .i64))), (15, (.d (.int .i64))), (107, (.d .bool))], [(.st 4)], 0, 169⟩, fun x => zzf n x.1 x.2.1 x.2.2.1 x.2.2.2.1 x.2.2.2.2.1 x.2.2.2.2.2.1⟩), (3, ⟨⟨[(6, (.ptr 0 0)), (1, (.d (.int .i64))), (0, (.d .str)), (15, (.d (.int .i64))), (16, (.d .str)), (2, (.d (.int .i64))), (114, (.d .bool))], [(.st 4)], 0, 169⟩, fun x => z5b n x.1 x.2.1 x.2.2.1 x.2.2.2.1 x.2.2.2.2.1 x.2.2.2.2.2.1 x.2.2.2.2.2.2.1⟩), (4, ⟨⟨[(6, (.ptr 0 0)), (20, (.d (.int .u8))), (2, (.d (.int .i64))), (15, (.d (.int .i64))), (0, (.d .str)), (16, (.d .str))], [(.st 4)], 0, 169⟩, fun x => z0x n x.1 x.2.1 x.2.2.1 x.2.2.2.1 x.2.2.2.2.1 x.2.2.2.2.2.1⟩)]) (ann [(5, 0), (34, 1), (38, 2), (49, 3), (66, 4)] (Tryz.f43.body.getD .skip) 0).1
def y8k : LSh := ⟨[(6, (.ptr 0 0)), (7, (.d (.int .i64))), (8, (.d .bool))], [(.st 4)], 0, 69⟩
noncomputable def znm : FI dat := FI.of dat 75 69 0 [(.d .str), (.d (.int .i64)), (.d (.int .i64))] [] [(.d (.st 4)), (.d (.int .i64)), (.d .bool)] [] true y8k (R := Int × Bool × kz0) (fun x => (x.1, x.2.1, x.2.2.1)) (fun r => (r.2.2, r.1, r.2.1, ())) (fun n x => zan n x.1 x.2.1 x.2.2.1)
 (fun n => [(0, ⟨⟨[(12, (.d (.int .u8))), (6, (.ptr 0 0)), (9, (.ptr 1 0)), (0, (.d .str)), (2, (.d (.int .i64))), (10, (.d (.int .i64)))], [(.st 4), (.st 4)], 0, 69⟩, fun x => z1b n x.1 x.2.1 x.2.2.1 x.2.2.2.1 x.2.2.2.2.1 x.2.2.2.2.2.1⟩), (1, ⟨⟨[(6, (.ptr 0 0)), (15, (.d (.int .i64))), (14, (.ptr 1 0)), (9, (.ptr 2 0)), (12, (.d (.int .u8))), (59, (.d .bool))], [(.st 4), (.st 4), (.st 4)], 0, 69⟩, fun x => z2f n x.1 x.2.1 x.2.2.1 x.2.2.2.1 x.2.2.2.2.1 x.2.2.2.2.2.1⟩)]) (ann [(16, 0), (38, 1)] (Tryz.f75.body.getD .skip) 0).1
def y5g : LSh := ⟨[(8, (.d (.sl (.st 4)))), (9, (.d (.int .i64))), (10, (.d .bool))], [], 0, 48⟩
noncomputable def zl5 : FI dat := FI.of dat 76 48 0 [(.d .str), (.d (.int .i64)), (.d (.int .i64)), (.d .str)] [] [(.d (.sl (.st 4))), (.d (.int .i64)), (.d .bool)] [] true y5g (R := (List kz0) × Int × Bool) (fun x => (x.1, x.2.1, x.2.2.1)) (fun r => (r.1, r.2.1, r.2.2, ())) (fun n x => z63 n x.1 x.2.1 x.2.2.1 x.2.2.2.1)
 (fun n => [(0, ⟨⟨[(0, (.d .str)), (3, (.d .str)), (11, (.own 0)), (2, (.d (.int .i64))), (1, (.d (.int .i64)))], [(.acc 29 (.st 4) true)], 0, 48⟩, fun x => z0r n x.1 x.2.1 x.2.2.1 x.2.2.2.1 x.2.2.2.2.1⟩)]) (ann [(13, 0)] (Tryz.f76.body.getD .skip) 0).1
noncomputable def zpq : List (FI dat) := [zdu, znm, zl5] ++ [zdk, z8v, z92, zb9]
theorem ydp : (zdu).Good Tryz.prog dat (tb zpq) := FI.yz5 (hD := zz3 _) Tryz.func43 Tryz.ntmps43 Tryz.call43 (by kernel_rfl) (of_decide_eq_true (by kernel_rfl)) (by kernel_rfl) (fun n => by kernel_rfl) (fun x => by kernel_rfl) (fun _ => rfl) ⟨fun _ => rfl, fun _ => rfl, fun _ => rfl, fun _ => rfl, fun _ => rfl, trivial⟩
 (fun n => fun x => (yzs.eq_2 x.1 x.2.1 x.2.2.1 n).trans (by kernel_rfl))
 (fun n => ⟨fun x => (z6g.eq_2 x.1 x.2.1 x.2.2.1 x.2.2.2.1 x.2.2.2.2.1 n).trans (by kernel_rfl),
  fun x => (z3a.eq_2 x.1 x.2.1 x.2.2.1 x.2.2.2.1 x.2.2.2.2.1 n).trans (by kernel_rfl),
  fun x => (zzf.eq_2 x.1 x.2.1 x.2.2.1 x.2.2.2.1 x.2.2.2.2.1 x.2.2.2.2.2.1 n).trans (by kernel_rfl),
  fun x => (z5b.eq_2 x.1 x.2.1 x.2.2.1 x.2.2.2.1 x.2.2.2.2.1 x.2.2.2.2.2.1 x.2.2.2.2.2.2.1 n).trans (by kernel_rfl),
  fun x => (z0x.eq_2 x.1 x.2.1 x.2.2.1 x.2.2.2.1 x.2.2.2.2.1 x.2.2.2.2.2.1 n).trans (by kernel_rfl),
  trivial⟩)
 (fun x => .inl rfl)
theorem y9d : (znm).Good Tryz.prog dat (tb zpq) := FI.yz5 (hD := zz3 _) Tryz.func75 Tryz.ntmps75 Tryz.call75 (by kernel_rfl) (of_decide_eq_true (by kernel_rfl)) (by kernel_rfl) (fun n => by kernel_rfl) (fun x => by kernel_rfl) (fun _ => rfl) ⟨fun _ => rfl, fun _ => rfl, trivial⟩
 (fun n => fun x => (zan.eq_2 x.1 x.2.1 x.2.2.1 n).trans (by kernel_rfl))
 (fun n => ⟨fun x => (z1b.eq_2 x.1 x.2.1 x.2.2.1 x.2.2.2.1 x.2.2.2.2.1 x.2.2.2.2.2.1 n).trans (by kernel_rfl),
  fun x => (z2f.eq_2 x.1 x.2.1 x.2.2.1 x.2.2.2.1 x.2.2.2.2.1 x.2.2.2.2.2.1 n).trans (by kernel_rfl),
  trivial⟩)
 (fun x => .inl rfl)
theorem y50 : (zl5).Good Tryz.prog dat (tb zpq) := FI.yz5 (hD := zz3 _) Tryz.func76 Tryz.ntmps76 Tryz.call76 (by kernel_rfl) (of_decide_eq_true (by kernel_rfl)) (by kernel_rfl) (fun n => by kernel_rfl) (fun x => by kernel_rfl) (fun _ => rfl) ⟨fun _ => rfl, trivial⟩
 (fun n => fun x => (z63.eq_2 x.1 x.2.1 x.2.2.1 x.2.2.2.1 n).trans (by kernel_rfl))
 (fun n => ⟨fun x => (z0r.eq_2 x.1 x.2.1 x.2.2.1 x.2.2.2.1 x.2.2.2.2.1 n).trans (by kernel_rfl),
  trivial⟩)
 (fun x => .inl rfl)
theorem yfv : OkL Tryz.prog [zdu, znm, zl5] := z4s (zz3 _) (bs := [zdk, z8v, z92, zb9]) ⟨y9g, zqn, zql, zvp, trivial⟩ ⟨ydp, y9d, y50, trivial⟩
theorem yax : FOk Tryz.prog zdu := yfv.1
mutual
def z90 : Nat → (List UInt8) → Option (Int × kz0)
 | 0, _ => none
 | n + 1, a0 =>
   pIf (decide ((a0.length : Int) > 4000))
     (some (12, (kz0.mk 0 (yz0.mk 0 (zz2.mk 0 0) false [] []) [] [])))
     ((yzs n a0 0 12).bind fun y0 =>
     pIf (!y0.2.1)
       (z2e n true (kz0.mk 0 (yz0.mk 0 (zz2.mk 0 0) false [] []) [] []) y0.2.2.re)
       (pIf (y0.1 != (a0.length : Int))
         (z2e n true (kz0.mk 0 (yz0.mk 0 (zz2.mk 0 0) false [] []) [] []) y0.2.2.re)
         ((z1n n y0.2.2.re).bind fun y1 =>
         z2e n (y1 != 0) (kz0.mk 0 (yz0.mk 0 (zz2.mk 0 0) false [] []) [] []) y0.2.2.re)))
def z2e : Nat → Bool → kz0 → kz0 → Option (Int × kz0)
 | 0, _, _, _ => none
 | n + 1, a0, a1, a2 =>
   pIf a0
     (some (12, (kz0.mk 0 (yz0.mk 0 (zz2.mk 0 0) false [] []) [] [])))
     (some (0, a2.re))
end
def yba : LSh := ⟨[(2, (.ptr 0 0)), (3, (.d (.int .i64)))], [(.st 4)], 0, 32⟩
noncomputable def zei : FI dat := FI.of dat 14 32 0 [(.d .str)] [] [(.d (.st 4)), (.d (.int .i64))] [] true yba (R := Int × kz0) (fun x => (x.1, x.2.1)) (fun r => (r.2, r.1, ())) (fun n x => z90 n x.1)
 (fun n => [(0, ⟨⟨[(2, (.ptr 0 0)), (4, (.ptr 1 0)), (29, (.d .bool))], [(.st 4), (.st 4)], 0, 32⟩, fun x => z2e n x.1 x.2.1 x.2.2.1⟩)]) (ann [(15, 0)] (Tryz.f14.body.getD .skip) 0).1
noncomputable def y9v : List (FI dat) := [zdu, z6r]
theorem y9n : (zei).Good Tryz.prog dat (tb y9v) := FI.yz5 (hD := zz3 _) Tryz.func14 Tryz.ntmps14 Tryz.call14 (by kernel_rfl) (of_decide_eq_true (by kernel_rfl)) (by kernel_rfl) (fun n => by kernel_rfl) (fun x => by kernel_rfl) (fun _ => rfl) ⟨fun _ => rfl, trivial⟩
 (fun n => fun x => (z90.eq_2 x.1 n).trans (by kernel_rfl))
 (fun n => ⟨fun x => (z2e.eq_2 x.1 x.2.1 x.2.2.1 n).trans (by kernel_rfl),
  trivial⟩)
 (fun x => .inl rfl)
theorem y8u : OkL Tryz.prog [zei] := yze (zz3 _) (bs := [zdu, z6r]) ⟨yax, zlr, trivial⟩ y9n
theorem y72 : FOk Tryz.prog zei := y8u.1
end Go.Proofs.YtfhpamcehnfhoaaGreatDoor


namespace Go.Proofs.YtfhpamcehnfhoaaGreatDoor
open Go Go.Ab
set_option linter.unusedVariables false
set_option maxRecDepth 100000
mutual
def z6t : Nat → kz0 → kz0 → Option Bool
 | 0, _, _ => none
 | n + 1, a0, a1 =>
   pIf (a0.op != a1.op)
     (kzz n true a1.re a0.re)
     (pIf (!(a0.name == a1.name))
       (kzz n true a1.re a0.re)
       ((z1c n a0.value.re a1.value.re).bind fun y0 =>
       pIf (!y0)
         (kzz n true a1.re a0.re)
         (kzz n ((a0.args.length : Int) != (a1.args.length : Int)) a1.re a0.re)))
def kzz : Nat → Bool → kz0 → kz0 → Option Bool
 | 0, _, _, _ => none
 | n + 1, a0, a1, a2 =>
   pIf a0
     (some false)
     (z1y n 0 a1.re a2.re)
def z1y : Nat → Int → kz0 → kz0 → Option Bool
 | 0, _, _, _ => none
 | n + 1, a0, a1, a2 =>
   pIf (decide (a0 < (a2.args.length : Int)))
     ((ix a2.args a0).bind fun x1 =>
     (ix a1.args a0).bind fun x2 =>
     (z6t n x1.re x2.re).bind fun y3 =>
     pIf (!y3)
       (some false)
       (z1y n (IntKind.i64.wrap (a0 + 1)) a1.re a2.re))
     (some true)
end
def ydh : LSh := ⟨[(4, (.d .bool))], [], 0, 54⟩
noncomputable def zdl : FI dat := FI.of dat 15 54 0 [(.d (.st 4)), (.d (.st 4))] [] [(.d .bool)] [] true ydh (R := Bool) (fun x => x.1) (fun r => (r, ())) (fun n x => z6t n x.1 x.2.1)
 (fun n => [(0, ⟨⟨[(3, (.ptr 0 0)), (2, (.ptr 1 0)), (34, (.d .bool))], [(.st 4), (.st 4)], 0, 54⟩, fun x => kzz n x.1 x.2.1 x.2.2.1⟩), (1, ⟨⟨[(5, (.d (.int .i64))), (3, (.ptr 0 0)), (2, (.ptr 1 0))], [(.st 4), (.st 4)], 0, 54⟩, fun x => z1y n x.1 x.2.1 x.2.2.1⟩)]) (ann [(5, 0), (14, 1)] (Tryz.f15.body.getD .skip) 0).1
noncomputable def yd8 : List (FI dat) := [zdl] ++ [z9m]
theorem ycw : (zdl).Good Tryz.prog dat (tb yd8) := FI.yz5 (hD := zz3 _) Tryz.func15 Tryz.ntmps15 Tryz.call15 (by kernel_rfl) (of_decide_eq_true (by kernel_rfl)) (by kernel_rfl) (fun n => by kernel_rfl) (fun x => by kernel_rfl) (fun _ => rfl) ⟨fun _ => rfl, fun _ => rfl, trivial⟩
 (fun n => fun x => (z6t.eq_2 x.1 x.2.1 n).trans (by kernel_rfl))
 (fun n => ⟨fun x => (kzz.eq_2 x.1 x.2.1 x.2.2.1 n).trans (by kernel_rfl),
  fun x => (z1y.eq_2 x.1 x.2.1 x.2.2.1 n).trans (by kernel_rfl),
  trivial⟩)
 (fun x => .inl rfl)
theorem yfi : OkL Tryz.prog [zdl] := z4s (zz3 _) (bs := [z9m]) ⟨zvu, trivial⟩ ⟨ycw, trivial⟩
theorem ybd : FOk Tryz.prog zdl := yfi.1
mutual
def zzv : Nat → kz0 → (List UInt8) → Option Bool
 | 0, _, _ => none
 | n + 1, a0, a1 =>
   (z5t n a0.re).bind fun y0 =>
   pIf y0
     (kzl n a1 true a0.re)
     (kzl n a1 (decide ((a1.length : Int) > 5000)) a0.re)
def kzl : Nat → (List UInt8) → Bool → kz0 → Option Bool
 | 0, _, _, _ => none
 | n + 1, a0, a1, a2 =>
   pIf a1
     (some true)
     ((z6p n a2.re).bind fun y1 =>
     (zbu n a2.re).bind fun y2 =>
     (z07 n a0).bind fun y3 =>
     (z90 n a0).bind fun y4 =>
     pIf (y1.1 == y2.1)
       (pIf (y1.2 == y2.2)
         ((z6t n y3.2.re y4.2.re).bind fun y5 =>
         pIf y5
           (some (y3.1 == y4.1))
           (some false))
         (some false))
       (some false))
end
def zns : LSh := ⟨[(4, (.d .bool))], [], 0, 58⟩
noncomputable def za2 : FI dat := FI.of dat 3 58 0 [(.d (.st 4)), (.d .str)] [] [(.d .bool)] [] true zns (R := Bool) (fun x => x.1) (fun r => (r, ())) (fun n x => zzv n x.1 x.2.1)
 (fun n => [(0, ⟨⟨[(1, (.d .str)), (2, (.ptr 0 0)), (19, (.d .bool))], [(.st 4)], 0, 58⟩, fun x => kzl n x.1 x.2.1 x.2.2.1⟩)]) (ann [(5, 0)] (Tryz.f3.body.getD .skip) 0).1
noncomputable def zo2 : List (FI dat) := [z9w, zcz, zfu, z5m, zei, zdl]
theorem znq : (za2).Good Tryz.prog dat (tb zo2) := FI.yz5 (hD := zz3 _) Tryz.func3 Tryz.ntmps3 Tryz.call3 (by kernel_rfl) (of_decide_eq_true (by kernel_rfl)) (by kernel_rfl) (fun n => by kernel_rfl) (fun x => by kernel_rfl) (fun _ => rfl) ⟨fun _ => rfl, trivial⟩
 (fun n => fun x => (zzv.eq_2 x.1 x.2.1 n).trans (by kernel_rfl))
 (fun n => ⟨fun x => (kzl.eq_2 x.1 x.2.1 x.2.2.1 n).trans (by kernel_rfl),
  trivial⟩)
 (fun x => .inl rfl)
theorem znp : OkL Tryz.prog [za2] := yze (zz3 _) (bs := [z9w, zcz, zfu, z5m, zei, zdl]) ⟨zsa, zxb, yac, znx, y72, ybd, trivial⟩ znq
theorem zmd : FOk Tryz.prog za2 := znp.1
theorem zmi (a0 : kz0) (a1 : List UInt8) : VRL dat [] 0 [dat.tv (.st 4) a0, dat.tv .str a1] [dat.el (.st 4) a0, dat.el .str a1] := by
 simp only [VRL]
 exact ⟨_, _, rfl, VR.tv (zz3 Tryz.prog) (DR.el _ _), ⟨_, _, rfl, VR.tv (zz3 Tryz.prog) (DR.el _ _), rfl⟩⟩
theorem zjm (n : Nat) (a0 : kz0) (a1 : List UInt8) (r : Bool) (h : zzv n a0 a1 = some r) : zj6 Tryz.prog 3 [dat.el (.st 4) a0, dat.el .str a1] (.bool r) := by
 obtain ⟨y, h1, _, _, _, h2⟩ := zmd n _ (a0, a1, ()) (fun y => some y.1) (fun _ => none) r (by show (zzv n a0 a1).bind (fun r => some r) = some r; rw [h]; rfl)
 obtain ⟨vs, k1, k2⟩ := h2 0 [dat.el (.st 4) a0, dat.el .str a1] (zmi a0 a1)
 injection h1 with h1
 subst h1
 have := k1 [] 0
 replace this : VRL dat [] 0 [TV.bool y.1] vs := this
 simp only [VRL, VR] at this
 obtain ⟨v, r, rfl, rfl, rfl⟩ := this
 exact k2
end Go.Proofs.YtfhpamcehnfhoaaGreatDoor


namespace Go.Proofs.Tryz
open Go Go.Ab
set_option linter.unusedSimpArgs false
@[simp] theorem zxd : Program.cellsOf Tryz.prog 2 = 1 := by kernel_rfl
@[simp] theorem yk0 : Program.cellsOf Tryz.prog 4 = 1 := by kernel_rfl
@[simp] theorem zxf : Program.cellsOf Tryz.prog 5 = 1 := by kernel_rfl
@[simp] theorem zy5 : Program.cellsOf Tryz.prog 9 = 1 := by kernel_rfl
@[simp] theorem zu3 : Program.cellsOf Tryz.prog 23 = 2 := by kernel_rfl
@[simp] theorem ybm : Program.cellsOf Tryz.prog 24 = 1 := by kernel_rfl
@[simp] theorem zkw : Program.cellsOf Tryz.prog 26 = 6 := by kernel_rfl
@[simp] theorem ybr : Program.cellsOf Tryz.prog 27 = 1 := by kernel_rfl
@[simp] theorem zu2 : Program.cellsOf Tryz.prog 29 = 9 := by kernel_rfl
end Go.Proofs.Tryz


namespace Go.Proofs.Tryz
open Go Go.Ab
set_option linter.unusedSimpArgs false
theorem yeu (n : Nat) : Reads Tryz.prog n 23 zz2.ty := (zb2 Tryz.underlying23 zu3 (fun m hm => (kzo rfl zxd (zdp Tryz.underlying2 m) (kzo rfl zxd (zdp Tryz.underlying2 m) zez)))).conv (fun x => (⟨x.1, x.2.1⟩ : zz2)) (fun x => by show zz2.el _ = _; rw [zz2.zzu]; simp [Ty.struct, Ty.pair, Ty.unit, Ty.int, Ty.bool, Ty.str, Ty.slice, V.cells, zz2.ty, zz2.zzu, yz0.ty, yz0.zzu, kz0.ty, kz0.zzu, zzw.ty, zzw.zzu]) rfl (fun x h => by simp only [zz2.ty]; rw [zz2.z9d]; simp only [Ty.struct, Ty.pair, Ty.unit, Ty.int, Ty.bool, Ty.str, Ty.slice, zz2.ty, yz0.ty, kz0.ty, zzw.ty] at h ⊢; simpa using h) (fun x => by simp only [Ty.struct, Ty.pair, Ty.unit, Ty.int, Ty.bool, Ty.str, Ty.slice, zz2.ty, yz0.ty, kz0.ty, zzw.ty]; rw [zz2.size_eq]; (try dsimp only); omega)
theorem ydy : ∀ n, Reads Tryz.prog n 26 yz0.ty := fun n => by
 induction n using Nat.strongRecOn with
 | ind n ih => exact (zb2 Tryz.underlying26 zkw (fun m hm => (kzo rfl zxf (zdp Tryz.underlying5 m) (kzo rfl zu3 (yeu m) (kzo rfl yk0 (zw5 Tryz.underlying4 m) (kzo rfl zy5 (zku Tryz.underlying9 m) (kzo rfl ybm (zjb Tryz.underlying24 zkw (by decide) (fun k hk => (ih k (by omega)))) zez))))))).conv (fun x => (⟨x.1, x.2.1, x.2.2.1, x.2.2.2.1, x.2.2.2.2.1⟩ : yz0)) (fun x => by show yz0.el _ = _; rw [yz0.zzu]; simp [Ty.struct, Ty.pair, Ty.unit, Ty.int, Ty.bool, Ty.str, Ty.slice, V.cells, zz2.ty, zz2.zzu, yz0.ty, yz0.zzu, kz0.ty, kz0.zzu, zzw.ty, zzw.zzu]) rfl (fun x h => by simp only [yz0.ty]; rw [yz0.z9d]; simp only [Ty.struct, Ty.pair, Ty.unit, Ty.int, Ty.bool, Ty.str, Ty.slice, zz2.ty, yz0.ty, kz0.ty, zzw.ty] at h ⊢; simpa using h) (fun x => by simp only [Ty.struct, Ty.pair, Ty.unit, Ty.int, Ty.bool, Ty.str, Ty.slice, zz2.ty, yz0.ty, kz0.ty, zzw.ty]; rw [yz0.size_eq]; (try dsimp only); omega)
theorem ydm : ∀ n, Reads Tryz.prog n 29 kz0.ty := fun n => by
 induction n using Nat.strongRecOn with
 | ind n ih => exact (zb2 Tryz.underlying29 zu2 (fun m hm => (kzo rfl zxf (zdp Tryz.underlying5 m) (kzo rfl zkw (ydy m) (kzo rfl zy5 (zku Tryz.underlying9 m) (kzo rfl ybr (zjb Tryz.underlying27 zu2 (by decide) (fun k hk => (ih k (by omega)))) zez)))))).conv (fun x => (⟨x.1, x.2.1, x.2.2.1, x.2.2.2.1⟩ : kz0)) (fun x => by show kz0.el _ = _; rw [kz0.zzu]; simp [Ty.struct, Ty.pair, Ty.unit, Ty.int, Ty.bool, Ty.str, Ty.slice, V.cells, zz2.ty, zz2.zzu, yz0.ty, yz0.zzu, kz0.ty, kz0.zzu, zzw.ty, zzw.zzu]) rfl (fun x h => by simp only [kz0.ty]; rw [kz0.z9d]; simp only [Ty.struct, Ty.pair, Ty.unit, Ty.int, Ty.bool, Ty.str, Ty.slice, zz2.ty, yz0.ty, kz0.ty, zzw.ty] at h ⊢; simpa using h) (fun x => by simp only [Ty.struct, Ty.pair, Ty.unit, Ty.int, Ty.bool, Ty.str, Ty.slice, zz2.ty, yz0.ty, kz0.ty, zzw.ty]; rw [kz0.size_eq]; (try dsimp only); omega)
theorem yrw : y82 Tryz.prog 29 kz0.ty := zx3 Tryz.underlying29 ydm kz0.zsf
theorem arg9 : y82 Tryz.prog 9 Ty.str := ysy (fun n => (zku Tryz.underlying9 n)) (fun _ => rfl) (by rw [Tryz.underlying9])
end Go.Proofs.Tryz

