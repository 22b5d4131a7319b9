/-
  Go functions as Lean functions, by a program of this repo.
-/
import Derived.Test.YtfhpamcehnfhoaaGreatDoorOwn1
import Derived.Test.YtfhpamcehnfhoaaGreatDoorLib2
import Derived.Test.YtfhpamcehnfhoaaGreatDoorProg
import Derived.Test.YtfhpamcehnfhoaaGreatDoorLib6
namespace Go.Proofs.YtfhpamcehnfhoaaGreatDoor
open Go Go.Ab
set_option linter.unusedVariables false
set_option maxRecDepth 100000
def z7k : Nat → yz1 → yz1 → Option (Int × yz1)
 | 0, _, _ => none
 | n + 1, a0, a1 =>
   (z3z n a0 a1).bind fun y0 =>
   some (y0.2, y0.1)
def ycp : LSh := ⟨[(4, (.ptr 0 0)), (5, (.d (.int .i64)))], [(.st 2)], 0, 11⟩
noncomputable def zbx : FI dat := FI.of dat 167 11 0 [(.d (.st 2)), (.d (.st 2))] [] [(.d (.st 2)), (.d (.int .i64))] [] true ycp (R := Int × yz1) (fun x => (x.1, x.2.1)) (fun r => (r.2, r.1, ())) (fun n x => z7k n x.1 x.2.1)
 (fun n => []) (ann [] (Tryz.f167.body.getD .skip) 0).1
noncomputable def yc6 : List (FI dat) := [z6w]
theorem ybs : (zbx).Good Tryz.prog dat (tb yc6) := FI.kz4 (hD := zz2 _) Tryz.func167 Tryz.ntmps167 Tryz.call167 (by kernel_rfl) (of_decide_eq_true (by kernel_rfl)) (by kernel_rfl) (fun n => by kernel_rfl) (fun x => by kernel_rfl) (fun _ => rfl) trivial
 (fun n => fun x => (z7k.eq_2 x.1 x.2.1 n).trans (by kernel_rfl))
 (fun n => trivial)
 (fun x => .inl rfl)
theorem y9x : OkL Tryz.prog [zbx] := kz7 (zz2 _) (bs := [z6w]) ⟨zqx, trivial⟩ ybs
theorem y33 : FOk Tryz.prog zbx := y9x.1
mutual
def z0x : Nat → zz0 → Option zz0
 | 0, _ => none
 | n + 1, a0 =>
   kzz n 0 a0.list (a0.list.length : Int) [] 0 0 0 false [] a0.re []
def kzz : Nat → Int → (List zz0) → Int → (List zz0) → Int → Int → Int → Bool → (List UInt8) → zz0 → (List zz0) → Option zz0
 | 0, _, _, _, _, _, _, _, _, _, _, _ => none
 | n + 1, a0, a1, a2, a3, a4, a5, a6, a7, a8, a9, a10 =>
   pIf (decide (a0 < a2))
     ((ix a1 a0).bind fun x0 =>
     (z0x n x0.re).bind fun y1 =>
     (ext a3 [y1.re]).bind fun x2 =>
     kzz n (IntKind.i64.wrap (a0 + 1)) a1 a2 x2 a4 a5 a6 a7 a8 a9.re a10)
     (some (zz0.mk a9.kind a9.num a9.truth a9.str a3))
end
def zu5 : LSh := ⟨[(3, (.ptr 1 0))], [(.cells [(.fn 109 [] [(.ptr 0 0)])]), (.st 3)], 1, 24⟩
noncomputable def z2a : FI dat := FI.of dat 109 24 1 [(.d (.st 3)), (.ptr 0 0)] [(.cells [(.fn 109 [] [(.ptr 0 0)])])] [(.d (.st 3))] [(.cells [(.fn 109 [] [(.ptr 0 0)])]), (.st 3)] false zu5 (R := zz0) (fun x => x.1) (fun r => (r, r, ())) (fun n x => z0x n x.1)
 (fun n => [(0, ⟨⟨[(10, (.d (.int .i64))), (1, (.ptr 0 0)), (4, (.own 1)), (8, (.d (.sl (.st 3)))), (3, (.ptr 2 0)), (2, (.ptr 3 0)), (9, (.d (.int .i64)))], [(.cells [(.fn 109 [] [(.ptr 0 0)])]), (.acc 26 (.st 3) true), (.cells [(.d (.int .u8)), (.d (.int .i64)), (.d (.int .i64)), (.d .bool), (.d .str), (.own 4)]), (.st 3), (.acc 26 (.st 3) true)], 1, 24⟩, fun x => kzz n x.1 x.2.1 x.2.2.1 x.2.2.2.1 x.2.2.2.2.1 x.2.2.2.2.2.1 x.2.2.2.2.2.2.1 x.2.2.2.2.2.2.2.1 x.2.2.2.2.2.2.2.2.1 x.2.2.2.2.2.2.2.2.2.1 x.2.2.2.2.2.2.2.2.2.2.1⟩)]) (ann [(8, 0)] (Tryz.f109.body.getD .skip) 0).1
noncomputable def zt2 : List (FI dat) := [z2a] ++ []
theorem zsn : (z2a).Good Tryz.prog dat (tb zt2) := FI.kz4 (hD := zz2 _) Tryz.func109 Tryz.ntmps109 Tryz.call109 (by kernel_rfl) (of_decide_eq_true (by kernel_rfl)) (by kernel_rfl) (fun n => by kernel_rfl) (fun x => by kernel_rfl) (fun _ => rfl) ⟨fun _ => rfl, trivial⟩
 (fun n => fun x => (z0x.eq_2 x.1 n).trans (by kernel_rfl))
 (fun n => ⟨fun x => (kzz.eq_2 x.1 x.2.1 x.2.2.1 x.2.2.2.1 x.2.2.2.2.1 x.2.2.2.2.2.1 x.2.2.2.2.2.2.1 x.2.2.2.2.2.2.2.1 x.2.2.2.2.2.2.2.2.1 x.2.2.2.2.2.2.2.2.2.1 x.2.2.2.2.2.2.2.2.2.2.1 n).trans (by kernel_rfl),
  trivial⟩)
 (fun x => .inr (by kernel_rfl))
theorem zsu : OkL Tryz.prog [z2a] := z2k (zz2 _) (bs := []) trivial ⟨zsn, trivial⟩
theorem zh8 : FOk Tryz.prog z2a := zsu.1
mutual
def z1r : Nat → zz0 → Option (Int × Int × Int × Bool × (List UInt8) × (List zz0))
 | 0, _ => none
 | n + 1, a0 =>
   yzo n 0 a0.list (a0.list.length : Int) [] 0 0 0 false [] a0.re []
def yzo : Nat → Int → (List zz0) → Int → (List zz0) → Int → Int → Int → Bool → (List UInt8) → zz0 → (List zz0) → Option (Int × Int × Int × Bool × (List UInt8) × (List zz0))
 | 0, _, _, _, _, _, _, _, _, _, _, _ => none
 | n + 1, a0, a1, a2, a3, a4, a5, a6, a7, a8, a9, a10 =>
   pIf (decide (a0 < a2))
     ((ix a1 a0).bind fun x0 =>
     (z0x n x0.re).bind fun y1 =>
     (ext a3 [y1.re]).bind fun x2 =>
     yzo n (IntKind.i64.wrap (a0 + 1)) a1 a2 x2 a4 a5 a6 a7 a8 a9.re a10)
     (some (a9.kind, a9.num.num, a9.num.den, a9.truth, a9.str, a3))
end
def zmd : LSh := ⟨[(3, (.ptr 1 0))], [(.cells [(.fn 109 [] [(.ptr 0 0)])]), (.cells [(.d (.int .u8)), (.d (.int .i64)), (.d (.int .i64)), (.d .bool), (.d .str), (.own 2)]), (.acc 26 (.st 3) true)], 1, 24⟩
noncomputable def z45 : FI dat := FI.of dat 109 24 1 [(.d (.st 3)), (.ptr 0 0)] [(.cells [(.fn 109 [] [(.ptr 0 0)])])] [(.agg [(.d (.int .u8)), (.d (.int .i64)), (.d (.int .i64)), (.d .bool), (.d .str), (.own 2)])] [(.cells [(.fn 109 [] [(.ptr 0 0)])]), (.cells [(.d (.int .u8)), (.d (.int .i64)), (.d (.int .i64)), (.d .bool), (.d .str), (.own 2)]), (.acc 26 (.st 3) true)] false zmd (R := Int × Int × Int × Bool × (List UInt8) × (List zz0)) (fun x => (x.1, x.2.1, x.2.2.1, x.2.2.2.1, x.2.2.2.2.1, x.2.2.2.2.2.1)) (fun r => (r.1, r.2.1, r.2.2.1, r.2.2.2.1, r.2.2.2.2.1, r.1, r.2.1, r.2.2.1, r.2.2.2.1, r.2.2.2.2.1, r.2.2.2.2.2, ())) (fun n x => z1r n x.1)
 (fun n => [(0, ⟨⟨[(10, (.d (.int .i64))), (1, (.ptr 0 0)), (4, (.own 1)), (8, (.d (.sl (.st 3)))), (3, (.ptr 2 0)), (2, (.ptr 3 0)), (9, (.d (.int .i64)))], [(.cells [(.fn 109 [] [(.ptr 0 0)])]), (.acc 26 (.st 3) true), (.cells [(.d (.int .u8)), (.d (.int .i64)), (.d (.int .i64)), (.d .bool), (.d .str), (.own 4)]), (.st 3), (.acc 26 (.st 3) true)], 1, 24⟩, fun x => yzo n x.1 x.2.1 x.2.2.1 x.2.2.2.1 x.2.2.2.2.1 x.2.2.2.2.2.1 x.2.2.2.2.2.2.1 x.2.2.2.2.2.2.2.1 x.2.2.2.2.2.2.2.2.1 x.2.2.2.2.2.2.2.2.2.1 x.2.2.2.2.2.2.2.2.2.2.1⟩)]) (ann [(8, 0)] (Tryz.f109.body.getD .skip) 0).1
noncomputable def zmj : List (FI dat) := [z2a]
theorem zmq : (z45).Good Tryz.prog dat (tb zmj) := FI.kz4 (hD := zz2 _) Tryz.func109 Tryz.ntmps109 Tryz.call109 (by kernel_rfl) (of_decide_eq_true (by kernel_rfl)) (by kernel_rfl) (fun n => by kernel_rfl) (fun x => by kernel_rfl) (fun _ => rfl) ⟨fun _ => rfl, trivial⟩
 (fun n => fun x => (z1r.eq_2 x.1 n).trans (by kernel_rfl))
 (fun n => ⟨fun x => (yzo.eq_2 x.1 x.2.1 x.2.2.1 x.2.2.2.1 x.2.2.2.2.1 x.2.2.2.2.2.1 x.2.2.2.2.2.2.1 x.2.2.2.2.2.2.2.1 x.2.2.2.2.2.2.2.2.1 x.2.2.2.2.2.2.2.2.2.1 x.2.2.2.2.2.2.2.2.2.2.1 n).trans (by kernel_rfl),
  trivial⟩)
 (fun x => .inr (by kernel_rfl))
theorem zn6 : OkL Tryz.prog [z45] := kz7 (zz2 _) (bs := [z2a]) ⟨zh8, trivial⟩ zmq
theorem zle : FOk Tryz.prog z45 := zn6.1
def z15 : Nat → zz0 → Option (Int × Int × Int × Bool × (List UInt8) × (List zz0))
 | 0, _ => none
 | n + 1, a0 =>
   (z1r n a0.re).bind fun y0 =>
   some (y0.1, y0.2.1, y0.2.2.1, y0.2.2.2.1, y0.2.2.2.2.1, y0.2.2.2.2.2)
def zr9 : LSh := ⟨[(2, (.ptr 0 0))], [(.cells [(.d (.int .u8)), (.d (.int .i64)), (.d (.int .i64)), (.d .bool), (.d .str), (.own 1)]), (.acc 26 (.st 3) true)], 0, 8⟩
noncomputable def z65 : FI dat := FI.of dat 81 8 0 [(.d (.st 3))] [] [(.agg [(.d (.int .u8)), (.d (.int .i64)), (.d (.int .i64)), (.d .bool), (.d .str), (.own 1)])] [(.cells [(.d (.int .u8)), (.d (.int .i64)), (.d (.int .i64)), (.d .bool), (.d .str), (.own 1)]), (.acc 26 (.st 3) true)] false zr9 (R := Int × Int × Int × Bool × (List UInt8) × (List zz0)) (fun x => (x.1, x.2.1, x.2.2.1, x.2.2.2.1, x.2.2.2.2.1, x.2.2.2.2.2.1)) (fun r => (r.1, r.2.1, r.2.2.1, r.2.2.2.1, r.2.2.2.2.1, r.1, r.2.1, r.2.2.1, r.2.2.2.1, r.2.2.2.2.1, r.2.2.2.2.2, ())) (fun n x => z15 n x.1)
 (fun n => []) (ann [] (Tryz.f81.body.getD .skip) 0).1
noncomputable def zqf : List (FI dat) := [z45]
theorem zrc : (z65).Good Tryz.prog dat (tb zqf) := FI.kz4 (hD := zz2 _) Tryz.func81 Tryz.ntmps81 Tryz.call81 (by kernel_rfl) (of_decide_eq_true (by kernel_rfl)) (by kernel_rfl) (fun n => by kernel_rfl) (fun x => by kernel_rfl) (fun _ => rfl) trivial
 (fun n => fun x => (z15.eq_2 x.1 n).trans (by kernel_rfl))
 (fun n => trivial)
 (fun x => .inr (by kernel_rfl))
theorem zqh : OkL Tryz.prog [z65] := kz7 (zz2 _) (bs := [z45]) ⟨zle, trivial⟩ zrc
theorem znn : FOk Tryz.prog z65 := zqh.1
mutual
def z7u : Nat → zz0 → zz0 → Option (Int × zz0)
 | 0, _, _ => none
 | n + 1, a0, a1 =>
   (z4n n a0.re a1.re).bind fun y0 =>
   pIf (y0 != 0)
     (some (y0, (zz0.mk 0 (yz1.mk 0 0) false [] [])))
     (pIf (a0.kind != a1.kind)
       (some (20, (zz0.mk 0 (yz1.mk 0 0) false [] [])))
       (pIf (a0.kind == 1)
         ((z7k n a0.num a1.num).bind fun y1 =>
         pIf (y1.1 != 0)
           (some (y1.1, (zz0.mk 0 (yz1.mk 0 0) false [] [])))
           (z0u n 0 0 0 false [] a0.kind y1.2.num y1.2.den false [] [] []))
         (pIf (a0.kind == 3)
           ((cat a0.str a1.str).bind fun x2 =>
           pIf (decide ((x2.length : Int) > 60))
             (some (4, (zz0.mk 0 (yz1.mk 0 0) false [] [])))
             (z0u n 0 0 0 false [] a0.kind 0 0 false x2 [] []))
           (pIf (a0.kind == 4)
             ((zzt n a0.re).bind fun y3 =>
             (zzt n a1.re).bind fun y4 =>
             pIf (decide ((IntKind.i64.wrap ((IntKind.i64.wrap (y3.1 + y4.1)) - 1)) > 100))
               (some (4, (zz0.mk 0 (yz1.mk 0 0) false [] [])))
               ((z15 n a0.re).bind fun y5 =>
               (z15 n a1.re).bind fun y6 =>
               (ext y5.2.2.2.2.2 y6.2.2.2.2.2).bind fun x7 =>
               z0u n 0 0 0 false [] a0.kind 0 0 false [] [] x7))
             (some (20, (zz0.mk 0 (yz1.mk 0 0) false [] [])))))))
def z0u : Nat → Int → Int → Int → Bool → (List UInt8) → Int → Int → Int → Bool → (List UInt8) → (List zz0) → (List zz0) → Option (Int × zz0)
 | 0, _, _, _, _, _, _, _, _, _, _, _, _ => none
 | n + 1, a0, a1, a2, a3, a4, a5, a6, a7, a8, a9, a10, a11 =>
   some (0, (zz0.mk a5 (yz1.mk a6 a7) a8 a9 a11))
end
def y8r : LSh := ⟨[(4, (.ptr 0 0)), (5, (.d (.int .i64)))], [(.st 3)], 0, 89⟩
noncomputable def zbg : FI dat := FI.of dat 140 89 0 [(.d (.st 3)), (.d (.st 3))] [] [(.d (.st 3)), (.d (.int .i64))] [] true y8r (R := Int × zz0) (fun x => (x.1, x.2.1)) (fun r => (r.2, r.1, ())) (fun n x => z7u n x.1 x.2.1)
 (fun n => [(0, ⟨⟨[(4, (.ptr 0 0)), (7, (.ptr 1 0))], [(.cells [(.d (.int .u8)), (.d (.int .i64)), (.d (.int .i64)), (.d .bool), (.d .str), (.own 2)]), (.cells [(.d (.int .u8)), (.d (.int .i64)), (.d (.int .i64)), (.d .bool), (.d .str), (.own 3)]), (.acc 26 (.st 3) true), (.acc 26 (.st 3) true)], 0, 89⟩, fun x => z0u n x.1 x.2.1 x.2.2.1 x.2.2.2.1 x.2.2.2.2.1 x.2.2.2.2.2.1 x.2.2.2.2.2.2.1 x.2.2.2.2.2.2.2.1 x.2.2.2.2.2.2.2.2.1 x.2.2.2.2.2.2.2.2.2.1 x.2.2.2.2.2.2.2.2.2.2.1 x.2.2.2.2.2.2.2.2.2.2.2.1⟩)]) (ann [(71, 0)] (Tryz.f140.body.getD .skip) 0).1
noncomputable def yco : List (FI dat) := [z5t, zbx, z0t, z65]
theorem ycq : (zbg).Good Tryz.prog dat (tb yco) := FI.kz4 (hD := zz2 _) Tryz.func140 Tryz.ntmps140 Tryz.call140 (by kernel_rfl) (of_decide_eq_true (by kernel_rfl)) (by kernel_rfl) (fun n => by kernel_rfl) (fun x => by kernel_rfl) (fun _ => rfl) ⟨fun _ => rfl, trivial⟩
 (fun n => fun x => (z7u.eq_2 x.1 x.2.1 n).trans (by kernel_rfl))
 (fun n => ⟨fun x => (z0u.eq_2 x.1 x.2.1 x.2.2.1 x.2.2.2.1 x.2.2.2.2.1 x.2.2.2.2.2.1 x.2.2.2.2.2.2.1 x.2.2.2.2.2.2.2.1 x.2.2.2.2.2.2.2.2.1 x.2.2.2.2.2.2.2.2.2.1 x.2.2.2.2.2.2.2.2.2.2.1 x.2.2.2.2.2.2.2.2.2.2.2.1 n).trans (by kernel_rfl),
  trivial⟩)
 (fun x => .inl rfl)
theorem y8s : OkL Tryz.prog [zbg] := kz7 (zz2 _) (bs := [z5t, zbx, z0t, z65]) ⟨zkf, y33, zg2, znn, trivial⟩ ycq
theorem y3z : FOk Tryz.prog zbg := y8s.1
def z5l : Nat → yz1 → yz1 → Option (Int × Int)
 | 0, _, _ => none
 | n + 1, a0, a1 =>
   some ((IntKind.i64.wrap ((IntKind.i64.wrap (a0.num * a1.den)) - (IntKind.i64.wrap (a1.num * a0.den)))), (IntKind.i64.wrap (a0.den * a1.den)))
def y13 : LSh := ⟨[(4, (.d (.int .i64))), (5, (.d (.int .i64)))], [], 0, 22⟩
noncomputable def z9a : FI dat := FI.of dat 169 22 0 [(.d (.st 2)), (.d (.st 2))] [] [(.d (.int .i64)), (.d (.int .i64))] [] true y13 (R := Int × Int) (fun x => (x.1, x.2.1)) (fun r => (r.1, r.2, ())) (fun n x => z5l n x.1 x.2.1)
 (fun n => []) (ann [] (Tryz.f169.body.getD .skip) 0).1
noncomputable def zy8 : List (FI dat) := []
theorem y0o : (z9a).Good Tryz.prog dat (tb zy8) := FI.kz4 (hD := zz2 _) Tryz.func169 Tryz.ntmps169 Tryz.call169 (by kernel_rfl) (of_decide_eq_true (by kernel_rfl)) (by kernel_rfl) (fun n => by kernel_rfl) (fun x => by kernel_rfl) (fun _ => rfl) trivial
 (fun n => fun x => (z5l.eq_2 x.1 x.2.1 n).trans (by kernel_rfl))
 (fun n => trivial)
 (fun x => .inl rfl)
theorem y02 : OkL Tryz.prog [z9a] := kz7 (zz2 _) (bs := []) trivial y0o
theorem zvm : FOk Tryz.prog z9a := y02.1
end Go.Proofs.YtfhpamcehnfhoaaGreatDoor


namespace Go.Proofs.YtfhpamcehnfhoaaGreatDoor
open Go Go.Ab
set_option linter.unusedVariables false
set_option maxRecDepth 100000
def z84 : Nat → yz1 → yz1 → Option (yz1 × Int)
 | 0, _, _ => none
 | n + 1, a0, a1 =>
   (yzy n a0 a1).bind fun y0 =>
   pIf (y0.e == 0)
     ((z5l n y0.a y0.b).bind fun y1 =>
     (zzq n y1.1 y1.2 y0).bind fun y2 =>
     (((kz8 9 y2.a.num y2.a.den y2.b.num y2.b.den y2.out.num y2.out.den y2.e 0 0 0).bind fun r4 => some (r4.1, r4.2.1, r4.2.2.1, r4.2.2.2.1, r4.2.2.2.2.1, r4.2.2.2.2.2.1, r4.2.2.2.2.2.2.1, r4.2.2.2.2.2.2.2.1, r4.2.2.2.2.2.2.2.2.1, r4.2.2.2.2.2.2.2.2.2, ()))).bind fun y3 =>
     some ((yz1.mk y3.2.2.2.2.2.2.2.1 y3.2.2.2.2.2.2.2.2.1), y3.2.2.2.2.2.2.2.2.2.1))
     ((((kz8 9 y0.a.num y0.a.den y0.b.num y0.b.den y0.out.num y0.out.den y0.e 0 0 0).bind fun r6 => some (r6.1, r6.2.1, r6.2.2.1, r6.2.2.2.1, r6.2.2.2.2.1, r6.2.2.2.2.2.1, r6.2.2.2.2.2.2.1, r6.2.2.2.2.2.2.2.1, r6.2.2.2.2.2.2.2.2.1, r6.2.2.2.2.2.2.2.2.2, ()))).bind fun y5 =>
     some ((yz1.mk y5.2.2.2.2.2.2.2.1 y5.2.2.2.2.2.2.2.2.1), y5.2.2.2.2.2.2.2.2.2.1))
def y9w : LSh := ⟨[(6, (.ptr 0 0)), (7, (.ptr 1 0))], [(.st 2), (.cells [(.d (.int .i64))])], 0, 27⟩
noncomputable def zbj : FI dat := FI.ofD dat 168 27 0 [(.d (.st 2)), (.d (.st 2)), (.fn 169 [] [])] [] [(.d (.st 2)), (.d (.int .i64))] [(.st 2), (.cells [(.d (.int .i64))])] [z96] y9w (R := yz1 × Int) (fun x => (x.1, x.2.1)) (fun r => (r.1, r.2, r.1, r.2, ())) (fun n x => z84 n x.1 x.2.1)
 (fun n => []) (ann [] (Tryz.f168.body.getD .skip) 0).1
noncomputable def y8w : List (FI dat) := [kzt, z9a, kzg]
theorem y9y : (zbj).Good Tryz.prog dat (tb y8w) := FI.zij (hD := zz2 _) Tryz.func168 Tryz.ntmps168 Tryz.call168 (by kernel_rfl) (of_decide_eq_true (by kernel_rfl)) (by kernel_rfl) (fun n => by kernel_rfl) ⟨z9f, trivial⟩ (fun x => by kernel_rfl) (fun _ => rfl) trivial
 (fun n => fun x => (z84.eq_2 x.1 x.2.1 n).trans (by kernel_rfl))
 (fun n => trivial)
 (fun x => by kernel_rfl)
theorem ybu : OkL Tryz.prog [zbj] := kz7 (zz2 _) (bs := [kzt, z9a, kzg]) ⟨z97, zvm, z6r, trivial⟩ y9y
theorem y5r : FOk Tryz.prog zbj := ybu.1
def z7n : Nat → yz1 → yz1 → Option (Int × yz1)
 | 0, _, _ => none
 | n + 1, a0, a1 =>
   (z84 n a0 a1).bind fun y0 =>
   some (y0.2, y0.1)
def y8p : LSh := ⟨[(4, (.ptr 0 0)), (5, (.d (.int .i64)))], [(.st 2)], 0, 11⟩
noncomputable def zbs : FI dat := FI.of dat 142 11 0 [(.d (.st 2)), (.d (.st 2))] [] [(.d (.st 2)), (.d (.int .i64))] [] true y8p (R := Int × yz1) (fun x => (x.1, x.2.1)) (fun r => (r.2, r.1, ())) (fun n x => z7n n x.1 x.2.1)
 (fun n => []) (ann [] (Tryz.f142.body.getD .skip) 0).1
noncomputable def y9n : List (FI dat) := [zbj]
theorem y8f : (zbs).Good Tryz.prog dat (tb y9n) := FI.kz4 (hD := zz2 _) Tryz.func142 Tryz.ntmps142 Tryz.call142 (by kernel_rfl) (of_decide_eq_true (by kernel_rfl)) (by kernel_rfl) (fun n => by kernel_rfl) (fun x => by kernel_rfl) (fun _ => rfl) trivial
 (fun n => fun x => (z7n.eq_2 x.1 x.2.1 n).trans (by kernel_rfl))
 (fun n => trivial)
 (fun x => .inl rfl)
theorem ycm : OkL Tryz.prog [zbs] := kz7 (zz2 _) (bs := [zbj]) ⟨y5r, trivial⟩ y8f
theorem y31 : FOk Tryz.prog zbs := ycm.1
def yzr : Nat → yz1 → Int → Option (Res (Int × Unit) zz0)
 | 0, _, _ => none
 | n + 1, a0, a1 =>
   (yzg n a1).bind fun y0 =>
   z6s y0 (fun r1 =>
     some (Res.ok (zz0.mk 1 a0 false [] [])))
     (fun e2 =>
     some (Res.pan (e2.1, ())))
def y03 : LSh := ⟨[(4, (.ptr 0 0))], [(.st 3)], 0, 9⟩
noncomputable def z8v : FI dat := FI.ofP dat 141 9 0 [(.d (.st 2)), (.d (.int .i64))] [] [(.d (.st 3))] [(.st 3)] (.iface 31 (.d (.int .i64))) [] [] y03 (R := zz0) (fun x => x.1) (fun r => (r, r, ())) (fun n x => yzr n x.1 x.2.1)
 (fun n => []) (ann [] (Tryz.f141.body.getD .skip) 0).1
noncomputable def zxn : List (FI dat) := [z2e]
theorem zyl : (z8v).Good Tryz.prog dat (tb zxn) := FI.zht (hD := zz2 _) Tryz.func141 Tryz.ntmps141 Tryz.call141 (by kernel_rfl) (of_decide_eq_true (by kernel_rfl)) (by kernel_rfl) (fun n => by kernel_rfl) trivial (fun x => by kernel_rfl) (fun _ => rfl) trivial
 (fun n => fun x => (yzr.eq_2 x.1 x.2.1 n).trans (by kernel_rfl))
 (fun n => trivial)
 (fun x => by kernel_rfl)
theorem zxs : OkL Tryz.prog [z8v] := kz7 (zz2 _) (bs := [z2e]) ⟨zcq, trivial⟩ zyl
theorem zuu : FOk Tryz.prog z8v := zxs.1
def z5d : Nat → yz1 → yz1 → Option (Int × Int)
 | 0, _, _ => none
 | n + 1, a0, a1 =>
   some ((IntKind.i64.wrap (a0.num * a1.num)), (IntKind.i64.wrap (a0.den * a1.den)))
def y0y : LSh := ⟨[(4, (.d (.int .i64))), (5, (.d (.int .i64)))], [], 0, 16⟩
noncomputable def z94 : FI dat := FI.of dat 170 16 0 [(.d (.st 2)), (.d (.st 2))] [] [(.d (.int .i64)), (.d (.int .i64))] [] true y0y (R := Int × Int) (fun x => (x.1, x.2.1)) (fun r => (r.1, r.2, ())) (fun n x => z5d n x.1 x.2.1)
 (fun n => []) (ann [] (Tryz.f170.body.getD .skip) 0).1
noncomputable def zwr : List (FI dat) := []
theorem zy2 : (z94).Good Tryz.prog dat (tb zwr) := FI.kz4 (hD := zz2 _) Tryz.func170 Tryz.ntmps170 Tryz.call170 (by kernel_rfl) (of_decide_eq_true (by kernel_rfl)) (by kernel_rfl) (fun n => by kernel_rfl) (fun x => by kernel_rfl) (fun _ => rfl) trivial
 (fun n => fun x => (z5d.eq_2 x.1 x.2.1 n).trans (by kernel_rfl))
 (fun n => trivial)
 (fun x => .inl rfl)
theorem zvt : OkL Tryz.prog [z94] := kz7 (zz2 _) (bs := []) trivial zy2
theorem zvj : FOk Tryz.prog z94 := zvt.1
def z41 : Nat → yz1 → yz1 → Option (yz1 × Int)
 | 0, _, _ => none
 | n + 1, a0, a1 =>
   (yzy n a0 a1).bind fun y0 =>
   pIf (y0.e == 0)
     ((z5d n y0.a y0.b).bind fun y1 =>
     (zzq n y1.1 y1.2 y0).bind fun y2 =>
     (((kz8 9 y2.a.num y2.a.den y2.b.num y2.b.den y2.out.num y2.out.den y2.e 0 0 0).bind fun r4 => some (r4.1, r4.2.1, r4.2.2.1, r4.2.2.2.1, r4.2.2.2.2.1, r4.2.2.2.2.2.1, r4.2.2.2.2.2.2.1, r4.2.2.2.2.2.2.2.1, r4.2.2.2.2.2.2.2.2.1, r4.2.2.2.2.2.2.2.2.2, ()))).bind fun y3 =>
     some ((yz1.mk y3.2.2.2.2.2.2.2.1 y3.2.2.2.2.2.2.2.2.1), y3.2.2.2.2.2.2.2.2.2.1))
     ((((kz8 9 y0.a.num y0.a.den y0.b.num y0.b.den y0.out.num y0.out.den y0.e 0 0 0).bind fun r6 => some (r6.1, r6.2.1, r6.2.2.1, r6.2.2.2.1, r6.2.2.2.2.1, r6.2.2.2.2.2.1, r6.2.2.2.2.2.2.1, r6.2.2.2.2.2.2.2.1, r6.2.2.2.2.2.2.2.2.1, r6.2.2.2.2.2.2.2.2.2, ()))).bind fun y5 =>
     some ((yz1.mk y5.2.2.2.2.2.2.2.1 y5.2.2.2.2.2.2.2.2.1), y5.2.2.2.2.2.2.2.2.2.1))
def zuw : LSh := ⟨[(6, (.ptr 0 0)), (7, (.ptr 1 0))], [(.st 2), (.cells [(.d (.int .i64))])], 0, 27⟩
noncomputable def z7e : FI dat := FI.ofD dat 168 27 0 [(.d (.st 2)), (.d (.st 2)), (.fn 170 [] [])] [] [(.d (.st 2)), (.d (.int .i64))] [(.st 2), (.cells [(.d (.int .i64))])] [z96] zuw (R := yz1 × Int) (fun x => (x.1, x.2.1)) (fun r => (r.1, r.2, r.1, r.2, ())) (fun n x => z41 n x.1 x.2.1)
 (fun n => []) (ann [] (Tryz.f168.body.getD .skip) 0).1
noncomputable def zrv : List (FI dat) := [kzt, z94, kzg]
theorem zup : (z7e).Good Tryz.prog dat (tb zrv) := FI.zij (hD := zz2 _) Tryz.func168 Tryz.ntmps168 Tryz.call168 (by kernel_rfl) (of_decide_eq_true (by kernel_rfl)) (by kernel_rfl) (fun n => by kernel_rfl) ⟨z9f, trivial⟩ (fun x => by kernel_rfl) (fun _ => rfl) trivial
 (fun n => fun x => (z41.eq_2 x.1 x.2.1 n).trans (by kernel_rfl))
 (fun n => trivial)
 (fun x => by kernel_rfl)
theorem zux : OkL Tryz.prog [z7e] := kz7 (zz2 _) (bs := [kzt, z94, kzg]) ⟨z97, zvj, z6r, trivial⟩ zup
theorem zqp : FOk Tryz.prog z7e := zux.1
def z83 : Nat → yz1 → yz1 → Option (Int × yz1)
 | 0, _, _ => none
 | n + 1, a0, a1 =>
   (z41 n a0 a1).bind fun y0 =>
   some (y0.2, y0.1)
def y9b : LSh := ⟨[(4, (.ptr 0 0)), (5, (.d (.int .i64)))], [(.st 2)], 0, 11⟩
noncomputable def zbk : FI dat := FI.of dat 143 11 0 [(.d (.st 2)), (.d (.st 2))] [] [(.d (.st 2)), (.d (.int .i64))] [] true y9b (R := Int × yz1) (fun x => (x.1, x.2.1)) (fun r => (r.2, r.1, ())) (fun n x => z83 n x.1 x.2.1)
 (fun n => []) (ann [] (Tryz.f143.body.getD .skip) 0).1
noncomputable def ybx : List (FI dat) := [z7e]
theorem ycl : (zbk).Good Tryz.prog dat (tb ybx) := FI.kz4 (hD := zz2 _) Tryz.func143 Tryz.ntmps143 Tryz.call143 (by kernel_rfl) (of_decide_eq_true (by kernel_rfl)) (by kernel_rfl) (fun n => by kernel_rfl) (fun x => by kernel_rfl) (fun _ => rfl) trivial
 (fun n => fun x => (z83.eq_2 x.1 x.2.1 n).trans (by kernel_rfl))
 (fun n => trivial)
 (fun x => .inl rfl)
theorem y84 : OkL Tryz.prog [zbk] := kz7 (zz2 _) (bs := [z7e]) ⟨zqp, trivial⟩ ycl
theorem y7m : FOk Tryz.prog zbk := y84.1
def z5i : Nat → yz1 → yz1 → Option (Int × Int)
 | 0, _, _ => none
 | n + 1, a0, a1 =>
   some ((IntKind.i64.wrap (a0.num * a1.den)), (IntKind.i64.wrap (a0.den * a1.num)))
def zx1 : LSh := ⟨[(4, (.d (.int .i64))), (5, (.d (.int .i64)))], [], 0, 16⟩
noncomputable def z99 : FI dat := FI.of dat 171 16 0 [(.d (.st 2)), (.d (.st 2))] [] [(.d (.int .i64)), (.d (.int .i64))] [] true zx1 (R := Int × Int) (fun x => (x.1, x.2.1)) (fun r => (r.1, r.2, ())) (fun n x => z5i n x.1 x.2.1)
 (fun n => []) (ann [] (Tryz.f171.body.getD .skip) 0).1
noncomputable def zw7 : List (FI dat) := []
theorem y05 : (z99).Good Tryz.prog dat (tb zw7) := FI.kz4 (hD := zz2 _) Tryz.func171 Tryz.ntmps171 Tryz.call171 (by kernel_rfl) (of_decide_eq_true (by kernel_rfl)) (by kernel_rfl) (fun n => by kernel_rfl) (fun x => by kernel_rfl) (fun _ => rfl) trivial
 (fun n => fun x => (z5i.eq_2 x.1 x.2.1 n).trans (by kernel_rfl))
 (fun n => trivial)
 (fun x => .inl rfl)
theorem zyw : OkL Tryz.prog [z99] := kz7 (zz2 _) (bs := []) trivial y05
theorem zth : FOk Tryz.prog z99 := zyw.1
def z42 : Nat → yz1 → yz1 → Option (yz1 × Int)
 | 0, _, _ => none
 | n + 1, a0, a1 =>
   (yzy n a0 a1).bind fun y0 =>
   pIf (y0.e == 0)
     ((z5i n y0.a y0.b).bind fun y1 =>
     (zzq n y1.1 y1.2 y0).bind fun y2 =>
     (((kz8 9 y2.a.num y2.a.den y2.b.num y2.b.den y2.out.num y2.out.den y2.e 0 0 0).bind fun r4 => some (r4.1, r4.2.1, r4.2.2.1, r4.2.2.2.1, r4.2.2.2.2.1, r4.2.2.2.2.2.1, r4.2.2.2.2.2.2.1, r4.2.2.2.2.2.2.2.1, r4.2.2.2.2.2.2.2.2.1, r4.2.2.2.2.2.2.2.2.2, ()))).bind fun y3 =>
     some ((yz1.mk y3.2.2.2.2.2.2.2.1 y3.2.2.2.2.2.2.2.2.1), y3.2.2.2.2.2.2.2.2.2.1))
     ((((kz8 9 y0.a.num y0.a.den y0.b.num y0.b.den y0.out.num y0.out.den y0.e 0 0 0).bind fun r6 => some (r6.1, r6.2.1, r6.2.2.1, r6.2.2.2.1, r6.2.2.2.2.1, r6.2.2.2.2.2.1, r6.2.2.2.2.2.2.1, r6.2.2.2.2.2.2.2.1, r6.2.2.2.2.2.2.2.2.1, r6.2.2.2.2.2.2.2.2.2, ()))).bind fun y5 =>
     some ((yz1.mk y5.2.2.2.2.2.2.2.1 y5.2.2.2.2.2.2.2.2.1), y5.2.2.2.2.2.2.2.2.2.1))
def zuq : LSh := ⟨[(6, (.ptr 0 0)), (7, (.ptr 1 0))], [(.st 2), (.cells [(.d (.int .i64))])], 0, 27⟩
noncomputable def z7b : FI dat := FI.ofD dat 168 27 0 [(.d (.st 2)), (.d (.st 2)), (.fn 171 [] [])] [] [(.d (.st 2)), (.d (.int .i64))] [(.st 2), (.cells [(.d (.int .i64))])] [z96] zuq (R := yz1 × Int) (fun x => (x.1, x.2.1)) (fun r => (r.1, r.2, r.1, r.2, ())) (fun n x => z42 n x.1 x.2.1)
 (fun n => []) (ann [] (Tryz.f168.body.getD .skip) 0).1
noncomputable def zv0 : List (FI dat) := [kzt, z99, kzg]
theorem zsx : (z7b).Good Tryz.prog dat (tb zv0) := FI.zij (hD := zz2 _) Tryz.func168 Tryz.ntmps168 Tryz.call168 (by kernel_rfl) (of_decide_eq_true (by kernel_rfl)) (by kernel_rfl) (fun n => by kernel_rfl) ⟨z9f, trivial⟩ (fun x => by kernel_rfl) (fun _ => rfl) trivial
 (fun n => fun x => (z42.eq_2 x.1 x.2.1 n).trans (by kernel_rfl))
 (fun n => trivial)
 (fun x => by kernel_rfl)
theorem zu8 : OkL Tryz.prog [z7b] := kz7 (zz2 _) (bs := [kzt, z99, kzg]) ⟨z97, zth, z6r, trivial⟩ zsx
theorem zr8 : FOk Tryz.prog z7b := zu8.1
def z7w : Nat → yz1 → yz1 → Option (Int × yz1)
 | 0, _, _ => none
 | n + 1, a0, a1 =>
   (z42 n a0 a1).bind fun y0 =>
   some (y0.2, y0.1)
def ycj : LSh := ⟨[(4, (.ptr 0 0)), (5, (.d (.int .i64)))], [(.st 2)], 0, 11⟩
noncomputable def zc0 : FI dat := FI.of dat 144 11 0 [(.d (.st 2)), (.d (.st 2))] [] [(.d (.st 2)), (.d (.int .i64))] [] true ycj (R := Int × yz1) (fun x => (x.1, x.2.1)) (fun r => (r.2, r.1, ())) (fun n x => z7w n x.1 x.2.1)
 (fun n => []) (ann [] (Tryz.f144.body.getD .skip) 0).1
noncomputable def ycs : List (FI dat) := [z7b]
theorem ycb : (zc0).Good Tryz.prog dat (tb ycs) := FI.kz4 (hD := zz2 _) Tryz.func144 Tryz.ntmps144 Tryz.call144 (by kernel_rfl) (of_decide_eq_true (by kernel_rfl)) (by kernel_rfl) (fun n => by kernel_rfl) (fun x => by kernel_rfl) (fun _ => rfl) trivial
 (fun n => fun x => (z7w.eq_2 x.1 x.2.1 n).trans (by kernel_rfl))
 (fun n => trivial)
 (fun x => .inl rfl)
theorem ycf : OkL Tryz.prog [zc0] := kz7 (zz2 _) (bs := [z7b]) ⟨zr8, trivial⟩ ycb
theorem y34 : FOk Tryz.prog zc0 := ycf.1
end Go.Proofs.YtfhpamcehnfhoaaGreatDoor


namespace Go.Proofs.YtfhpamcehnfhoaaGreatDoor
open Go Go.Ab
set_option linter.unusedVariables false
set_option maxRecDepth 100000
def yzs : Nat → Bool → Option zz0
 | 0, _ => none
 | n + 1, a0 =>
   some (zz0.mk 2 (yz1.mk 0 0) a0 [] [])
def y7u : LSh := ⟨[(2, (.ptr 0 0))], [(.st 3)], 0, 5⟩
noncomputable def zag : FI dat := FI.of dat 104 5 0 [(.d .bool)] [] [(.d (.st 3))] [] true y7u (R := zz0) (fun x => x.1) (fun r => (r, ())) (fun n x => yzs n x.1)
 (fun n => []) (ann [] (Tryz.f104.body.getD .skip) 0).1
noncomputable def y2p : List (FI dat) := []
theorem y7x : (zag).Good Tryz.prog dat (tb y2p) := FI.kz4 (hD := zz2 _) Tryz.func104 Tryz.ntmps104 Tryz.call104 (by kernel_rfl) (of_decide_eq_true (by kernel_rfl)) (by kernel_rfl) (fun n => by kernel_rfl) (fun x => by kernel_rfl) (fun _ => rfl) trivial
 (fun n => fun x => (yzs.eq_2 x.1 n).trans (by kernel_rfl))
 (fun n => trivial)
 (fun x => .inl rfl)
theorem y5p : OkL Tryz.prog [zag] := kz7 (zz2 _) (bs := []) trivial y7x
theorem y0j : FOk Tryz.prog zag := y5p.1
def z01 : Nat → Int → Option Bool
 | 0, _ => none
 | n + 1, a0 =>
   some (a0 != a0)
def zly : LSh := ⟨[(2, (.d .bool))], [], 0, 6⟩
noncomputable def z48 : FI dat := FI.of dat 201 6 0 [(.d (.int .i64))] [] [(.d .bool)] [] true zly (R := Bool) (fun x => x.1) (fun r => (r, ())) (fun n x => z01 n x.1)
 (fun n => []) (ann [] (Tryz.f201.body.getD .skip) 0).1
noncomputable def znf : List (FI dat) := []
theorem zmp : (z48).Good Tryz.prog dat (tb znf) := FI.kz4 (hD := zz2 _) Tryz.func201 Tryz.ntmps201 Tryz.call201 (by kernel_rfl) (of_decide_eq_true (by kernel_rfl)) (by kernel_rfl) (fun n => by kernel_rfl) (fun x => by kernel_rfl) (fun _ => rfl) trivial
 (fun n => fun x => (z01.eq_2 x.1 n).trans (by kernel_rfl))
 (fun n => trivial)
 (fun x => .inl rfl)
theorem zn2 : OkL Tryz.prog [z48] := kz7 (zz2 _) (bs := []) trivial zmp
theorem zl0 : FOk Tryz.prog z48 := zn2.1
def z05 : Nat → Int → Int → Option Int
 | 0, _, _ => none
 | n + 1, a0, a1 =>
   (z01 n a0).bind fun y0 =>
   (z01 n a1).bind fun y1 =>
   pIf y0
     (pIf y1
       (some 0)
       (some (-1)))
     (pIf y1
       (some 1)
       (pIf (decide (a0 < a1))
         (some (-1))
         (pIf (decide (a0 > a1))
           (some 1)
           (some 0))))
def zk5 : LSh := ⟨[(4, (.d (.int .i64)))], [], 0, 20⟩
noncomputable def z2x : FI dat := FI.of dat 194 20 0 [(.d (.int .i64)), (.d (.int .i64))] [] [(.d (.int .i64))] [] true zk5 (R := Int) (fun x => x.1) (fun r => (r, ())) (fun n x => z05 n x.1 x.2.1)
 (fun n => []) (ann [] (Tryz.f194.body.getD .skip) 0).1
noncomputable def zjz : List (FI dat) := [z48]
theorem zk1 : (z2x).Good Tryz.prog dat (tb zjz) := FI.kz4 (hD := zz2 _) Tryz.func194 Tryz.ntmps194 Tryz.call194 (by kernel_rfl) (of_decide_eq_true (by kernel_rfl)) (by kernel_rfl) (fun n => by kernel_rfl) (fun x => by kernel_rfl) (fun _ => rfl) trivial
 (fun n => fun x => (z05.eq_2 x.1 x.2.1 n).trans (by kernel_rfl))
 (fun n => trivial)
 (fun x => .inl rfl)
theorem zjt : OkL Tryz.prog [z2x] := kz7 (zz2 _) (bs := [z48]) ⟨zl0, trivial⟩ zk1
theorem zhi : FOk Tryz.prog z2x := zjt.1
def z7s : Nat → yz1 → yz1 → Option (Int × Int)
 | 0, _, _ => none
 | n + 1, a0, a1 =>
   (yzy n a0 a1).bind fun y0 =>
   pIf (y0.e != 0)
     (some (0, y0.e))
     ((z05 n (IntKind.i64.wrap (a0.num * a1.den)) (IntKind.i64.wrap (a1.num * a0.den))).bind fun y1 =>
     some (y1, 0))
def y9p : LSh := ⟨[(4, (.d (.int .i64))), (5, (.d (.int .i64)))], [], 0, 26⟩
noncomputable def zbh : FI dat := FI.of dat 185 26 0 [(.d (.st 2)), (.d (.st 2))] [] [(.d (.int .i64)), (.d (.int .i64))] [] true y9p (R := Int × Int) (fun x => (x.1, x.2.1)) (fun r => (r.1, r.2, ())) (fun n x => z7s n x.1 x.2.1)
 (fun n => []) (ann [] (Tryz.f185.body.getD .skip) 0).1
noncomputable def yaa : List (FI dat) := [kzt, z2x]
theorem y98 : (zbh).Good Tryz.prog dat (tb yaa) := FI.kz4 (hD := zz2 _) Tryz.func185 Tryz.ntmps185 Tryz.call185 (by kernel_rfl) (of_decide_eq_true (by kernel_rfl)) (by kernel_rfl) (fun n => by kernel_rfl) (fun x => by kernel_rfl) (fun _ => rfl) trivial
 (fun n => fun x => (z7s.eq_2 x.1 x.2.1 n).trans (by kernel_rfl))
 (fun n => trivial)
 (fun x => .inl rfl)
theorem yad : OkL Tryz.prog [zbh] := kz7 (zz2 _) (bs := [kzt, z2x]) ⟨z97, zhi, trivial⟩ y98
theorem y7w : FOk Tryz.prog zbh := yad.1
def z1d : Nat → (List UInt8) → (List UInt8) → Option Int
 | 0, _, _ => none
 | n + 1, a0, a1 =>
   (z08 n a0 a1).bind fun y0 =>
   some y0
def zn1 : LSh := ⟨[(4, (.d (.int .i64)))], [], 0, 8⟩
noncomputable def z4e : FI dat := FI.of dat 186 8 0 [(.d .str), (.d .str)] [] [(.d (.int .i64))] [] true zn1 (R := Int) (fun x => x.1) (fun r => (r, ())) (fun n x => z1d n x.1 x.2.1)
 (fun n => []) (ann [] (Tryz.f186.body.getD .skip) 0).1
noncomputable def znj : List (FI dat) := [z0k]
theorem zm1 : (z4e).Good Tryz.prog dat (tb znj) := FI.kz4 (hD := zz2 _) Tryz.func186 Tryz.ntmps186 Tryz.call186 (by kernel_rfl) (of_decide_eq_true (by kernel_rfl)) (by kernel_rfl) (fun n => by kernel_rfl) (fun x => by kernel_rfl) (fun _ => rfl) trivial
 (fun n => fun x => (z1d.eq_2 x.1 x.2.1 n).trans (by kernel_rfl))
 (fun n => trivial)
 (fun x => .inl rfl)
theorem zm9 : OkL Tryz.prog [z4e] := kz7 (zz2 _) (bs := [z0k]) ⟨z9v, trivial⟩ zm1
theorem zlh : FOk Tryz.prog z4e := zm9.1
mutual
def z2f : Nat → zz0 → zz0 → Option (Int × Int)
 | 0, _, _ => none
 | n + 1, a0, a1 =>
   pIf (a0.kind != a1.kind)
     (some (0, 20))
     (pIf (a0.kind == 1)
       ((z7s n a0.num a1.num).bind fun y0 =>
       some (y0.1, y0.2))
       (pIf (a0.kind == 2)
         (pIf (a0.truth == a1.truth)
           (some (0, 0))
           (pIf a0.truth
             (some (1, 0))
             (some ((-1), 0))))
         (pIf (a0.kind == 3)
           ((z1d n a0.str a1.str).bind fun y1 =>
           some (y1, 0))
           (kzw n 0 a0.list (a0.list.length : Int) a1.re a0.re))))
def kzw : Nat → Int → (List zz0) → Int → zz0 → zz0 → Option (Int × Int)
 | 0, _, _, _, _, _ => none
 | n + 1, a0, a1, a2, a3, a4 =>
   pIf (decide (a0 < a2))
     ((ix a1 a0).bind fun x2 =>
     pIf (a0 == (a3.list.length : Int))
       (some (1, 0))
       ((ix a3.list a0).bind fun x3 =>
       (zzs n x2.re x3.re).bind fun y4 =>
       pIf (!y4)
         ((ix a3.list a0).bind fun x5 =>
         (z2f n x2.re x5.re).bind fun y6 =>
         some (y6.1, y6.2))
         (kzw n (IntKind.i64.wrap (a0 + 1)) a1 a2 a3.re a4.re)))
     (pIf (decide ((a4.list.length : Int) < (a3.list.length : Int)))
       (some ((-1), 0))
       (some (0, 0)))
end
def zx0 : LSh := ⟨[(4, (.d (.int .i64))), (5, (.d (.int .i64)))], [], 0, 80⟩
noncomputable def z6b : FI dat := FI.of dat 172 80 0 [(.d (.st 3)), (.d (.st 3))] [] [(.d (.int .i64)), (.d (.int .i64))] [] true zx0 (R := Int × Int) (fun x => (x.1, x.2.1)) (fun r => (r.1, r.2, ())) (fun n x => z2f n x.1 x.2.1)
 (fun n => [(0, ⟨⟨[(3, (.ptr 0 0)), (45, (.d (.int .i64))), (43, (.d (.sl (.st 3)))), (2, (.ptr 1 0)), (44, (.d (.int .i64)))], [(.st 3), (.st 3)], 0, 80⟩, fun x => kzw n x.1 x.2.1 x.2.2.1 x.2.2.2.1 x.2.2.2.2.1⟩)]) (ann [(52, 0)] (Tryz.f172.body.getD .skip) 0).1
noncomputable def y0v : List (FI dat) := [z6b] ++ [zbh, z4e, z22]
theorem zxc : (z6b).Good Tryz.prog dat (tb y0v) := FI.kz4 (hD := zz2 _) Tryz.func172 Tryz.ntmps172 Tryz.call172 (by kernel_rfl) (of_decide_eq_true (by kernel_rfl)) (by kernel_rfl) (fun n => by kernel_rfl) (fun x => by kernel_rfl) (fun _ => rfl) ⟨fun _ => rfl, trivial⟩
 (fun n => fun x => (z2f.eq_2 x.1 x.2.1 n).trans (by kernel_rfl))
 (fun n => ⟨fun x => (kzw.eq_2 x.1 x.2.1 x.2.2.1 x.2.2.2.1 x.2.2.2.2.1 n).trans (by kernel_rfl),
  trivial⟩)
 (fun x => .inl rfl)
theorem zw0 : OkL Tryz.prog [z6b] := z2k (zz2 _) (bs := [zbh, z4e, z22]) ⟨y7w, zlh, zek, trivial⟩ ⟨zxc, trivial⟩
theorem zvi : FOk Tryz.prog z6b := zw0.1
def z3b : Nat → zz0 → zz0 → Option (Int × Int)
 | 0, _, _ => none
 | n + 1, a0, a1 =>
   (z4n n a0.re a1.re).bind fun y0 =>
   pIf (y0 != 0)
     (some (0, y0))
     ((z2f n a0.re a1.re).bind fun y1 =>
     some (y1.1, y1.2))
def zqy : LSh := ⟨[(4, (.d (.int .i64))), (5, (.d (.int .i64)))], [], 0, 18⟩
noncomputable def z64 : FI dat := FI.of dat 145 18 0 [(.d (.st 3)), (.d (.st 3))] [] [(.d (.int .i64)), (.d (.int .i64))] [] true zqy (R := Int × Int) (fun x => (x.1, x.2.1)) (fun r => (r.1, r.2, ())) (fun n x => z3b n x.1 x.2.1)
 (fun n => []) (ann [] (Tryz.f145.body.getD .skip) 0).1
noncomputable def zri : List (FI dat) := [z5t, z6b]
theorem zqb : (z64).Good Tryz.prog dat (tb zri) := FI.kz4 (hD := zz2 _) Tryz.func145 Tryz.ntmps145 Tryz.call145 (by kernel_rfl) (of_decide_eq_true (by kernel_rfl)) (by kernel_rfl) (fun n => by kernel_rfl) (fun x => by kernel_rfl) (fun _ => rfl) trivial
 (fun n => fun x => (z3b.eq_2 x.1 x.2.1 n).trans (by kernel_rfl))
 (fun n => trivial)
 (fun x => .inl rfl)
theorem zrh : OkL Tryz.prog [z64] := kz7 (zz2 _) (bs := [z5t, z6b]) ⟨zkf, zvi, trivial⟩ zqb
theorem zok : FOk Tryz.prog z64 := zrh.1
mutual
def z56 : Nat → Int → Int → Option Int
 | 0, _, _ => none
 | n + 1, a0, a1 =>
   (quo .i64 a0 a1).bind fun x0 =>
   (rem .i64 a0 a1).bind fun x1 =>
   pIf (decide (x1 < 0))
     (z0g n (IntKind.i64.wrap (x0 - 1)))
     (z0g n x0)
def z0g : Nat → Int → Option Int
 | 0, _ => none
 | n + 1, a0 =>
   some a0
end
def y08 : LSh := ⟨[(4, (.d (.int .i64)))], [], 0, 16⟩
noncomputable def z8z : FI dat := FI.of dat 173 16 0 [(.d (.int .i64)), (.d (.int .i64))] [] [(.d (.int .i64))] [] true y08 (R := Int) (fun x => x.1) (fun r => (r, ())) (fun n x => z56 n x.1 x.2.1)
 (fun n => [(0, ⟨⟨[(5, (.d (.int .i64)))], [], 0, 16⟩, fun x => z0g n x.1⟩)]) (ann [(10, 0)] (Tryz.f173.body.getD .skip) 0).1
noncomputable def zyq : List (FI dat) := []
theorem y0g : (z8z).Good Tryz.prog dat (tb zyq) := FI.kz4 (hD := zz2 _) Tryz.func173 Tryz.ntmps173 Tryz.call173 (by kernel_rfl) (of_decide_eq_true (by kernel_rfl)) (by kernel_rfl) (fun n => by kernel_rfl) (fun x => by kernel_rfl) (fun _ => rfl) ⟨fun _ => rfl, trivial⟩
 (fun n => fun x => (z56.eq_2 x.1 x.2.1 n).trans (by kernel_rfl))
 (fun n => ⟨fun x => (z0g.eq_2 x.1 n).trans (by kernel_rfl),
  trivial⟩)
 (fun x => .inl rfl)
theorem zwg : OkL Tryz.prog [z8z] := kz7 (zz2 _) (bs := []) trivial y0g
theorem zse : FOk Tryz.prog z8z := zwg.1
def z4z : Nat → yz1 → Option (Int × Int)
 | 0, _ => none
 | n + 1, a0 =>
   (z0e n a0).bind fun y0 =>
   pIf (y0 != 0)
     (some (0, y0))
     ((z56 n a0.num a0.den).bind fun y1 =>
     some (y1, 0))
def zyj : LSh := ⟨[(2, (.d (.int .i64))), (3, (.d (.int .i64)))], [], 0, 15⟩
noncomputable def z8p : FI dat := FI.of dat 146 15 0 [(.d (.st 2))] [] [(.d (.int .i64)), (.d (.int .i64))] [] true zyj (R := Int × Int) (fun x => (x.1, x.2.1)) (fun r => (r.1, r.2, ())) (fun n x => z4z n x.1)
 (fun n => []) (ann [] (Tryz.f146.body.getD .skip) 0).1
noncomputable def zx2 : List (FI dat) := [z1y, z8z]
theorem zwj : (z8p).Good Tryz.prog dat (tb zx2) := FI.kz4 (hD := zz2 _) Tryz.func146 Tryz.ntmps146 Tryz.call146 (by kernel_rfl) (of_decide_eq_true (by kernel_rfl)) (by kernel_rfl) (fun n => by kernel_rfl) (fun x => by kernel_rfl) (fun _ => rfl) trivial
 (fun n => fun x => (z4z.eq_2 x.1 n).trans (by kernel_rfl))
 (fun n => trivial)
 (fun x => .inl rfl)
theorem y0s : OkL Tryz.prog [z8p] := kz7 (zz2 _) (bs := [z1y, z8z]) ⟨zdb, zse, trivial⟩ zwj
theorem zvq : FOk Tryz.prog z8p := y0s.1
def z47 : Nat → zz0 → Option (Int × Int)
 | 0, _ => none
 | n + 1, a0 =>
   (kzh n a0.re).bind fun y0 =>
   pIf (y0 != 0)
     (some (0, y0))
     (pIf (a0.kind == 3)
       (some ((a0.str.length : Int), 0))
       (pIf (a0.kind == 4)
         (some ((a0.list.length : Int), 0))
         (some (0, 20))))
def y9e : LSh := ⟨[(2, (.d (.int .i64))), (3, (.d (.int .i64)))], [], 0, 22⟩
noncomputable def z7d : FI dat := FI.of dat 148 22 0 [(.d (.st 3))] [] [(.d (.int .i64)), (.d (.int .i64))] [] true y9e (R := Int × Int) (fun x => (x.1, x.2.1)) (fun r => (r.1, r.2, ())) (fun n x => z47 n x.1)
 (fun n => []) (ann [] (Tryz.f148.body.getD .skip) 0).1
noncomputable def yao : List (FI dat) := [kzf]
theorem ybv : (z7d).Good Tryz.prog dat (tb yao) := FI.kz4 (hD := zz2 _) Tryz.func148 Tryz.ntmps148 Tryz.call148 (by kernel_rfl) (of_decide_eq_true (by kernel_rfl)) (by kernel_rfl) (fun n => by kernel_rfl) (fun x => by kernel_rfl) (fun _ => rfl) trivial
 (fun n => fun x => (z47.eq_2 x.1 n).trans (by kernel_rfl))
 (fun n => trivial)
 (fun x => .inl rfl)
theorem ybm : OkL Tryz.prog [z7d] := kz7 (zz2 _) (bs := [kzf]) ⟨z55, trivial⟩ ybv
theorem zmc : FOk Tryz.prog z7d := ybm.1
end Go.Proofs.YtfhpamcehnfhoaaGreatDoor


namespace Go.Proofs.YtfhpamcehnfhoaaGreatDoor
open Go Go.Ab
set_option linter.unusedVariables false
set_option maxRecDepth 100000
def z4g : Nat → zz0 → Option zz0
 | 0, _ => none
 | n + 1, a0 =>
   (z0x n a0.re).bind fun y0 =>
   some y0.re
def y5y : LSh := ⟨[(2, (.ptr 0 0))], [(.st 3)], 0, 8⟩
noncomputable def z60 : FI dat := FI.of dat 81 8 0 [(.d (.st 3))] [] [(.d (.st 3))] [] true y5y (R := zz0) (fun x => x.1) (fun r => (r, ())) (fun n x => z4g n x.1)
 (fun n => []) (ann [] (Tryz.f81.body.getD .skip) 0).1
noncomputable def y6e : List (FI dat) := [z2a]
theorem y2w : (z60).Good Tryz.prog dat (tb y6e) := FI.kz4 (hD := zz2 _) Tryz.func81 Tryz.ntmps81 Tryz.call81 (by kernel_rfl) (of_decide_eq_true (by kernel_rfl)) (by kernel_rfl) (fun n => by kernel_rfl) (fun x => by kernel_rfl) (fun _ => rfl) trivial
 (fun n => fun x => (z4g.eq_2 x.1 n).trans (by kernel_rfl))
 (fun n => trivial)
 (fun x => .inl rfl)
theorem y3i : OkL Tryz.prog [z60] := kz7 (zz2 _) (bs := [z2a]) ⟨zh8, trivial⟩ y2w
theorem zkl : FOk Tryz.prog z60 := y3i.1
mutual
def z9p : Nat → zz0 → Int → Option (Int × zz0)
 | 0, _, _ => none
 | n + 1, a0, a1 =>
   (z47 n a0.re).bind fun y0 =>
   pIf (y0.2 != 0)
     (some (y0.2, (zz0.mk 0 (yz1.mk 0 0) false [] [])))
     (pIf (decide (a1 < 0))
       (z3p n a1 true (zz0.mk 0 (yz1.mk 0 0) false [] []) a0.re)
       (z3p n a1 (decide (a1 ≥ y0.1)) (zz0.mk 0 (yz1.mk 0 0) false [] []) a0.re))
def z3p : Nat → Int → Bool → zz0 → zz0 → Option (Int × zz0)
 | 0, _, _, _, _ => none
 | n + 1, a0, a1, a2, a3 =>
   pIf a1
     (some (2, (zz0.mk 0 (yz1.mk 0 0) false [] [])))
     (pIf (a3.kind == 4)
       ((ix a3.list a0).bind fun x1 =>
       (z4g n x1.re).bind fun y2 =>
       some (0, y2.re))
       ((sub a3.str a0 (IntKind.i64.wrap (a0 + 1))).bind fun x3 =>
       some (0, (zz0.mk 3 (yz1.mk 0 0) false x3 []))))
end
def ydd : LSh := ⟨[(4, (.ptr 0 0)), (5, (.d (.int .i64)))], [(.st 3)], 0, 41⟩
noncomputable def zda : FI dat := FI.of dat 149 41 0 [(.d (.st 3)), (.d (.int .i64))] [] [(.d (.st 3)), (.d (.int .i64))] [] true ydd (R := Int × zz0) (fun x => (x.1, x.2.1)) (fun r => (r.2, r.1, ())) (fun n x => z9p n x.1 x.2.1)
 (fun n => [(0, ⟨⟨[(4, (.ptr 0 0)), (1, (.d (.int .i64))), (2, (.ptr 1 0)), (23, (.d .bool))], [(.st 3), (.st 3)], 0, 41⟩, fun x => z3p n x.1 x.2.1 x.2.2.1 x.2.2.2.1⟩)]) (ann [(15, 0)] (Tryz.f149.body.getD .skip) 0).1
noncomputable def yej : List (FI dat) := [z7d, z60]
theorem yds : (zda).Good Tryz.prog dat (tb yej) := FI.kz4 (hD := zz2 _) Tryz.func149 Tryz.ntmps149 Tryz.call149 (by kernel_rfl) (of_decide_eq_true (by kernel_rfl)) (by kernel_rfl) (fun n => by kernel_rfl) (fun x => by kernel_rfl) (fun _ => rfl) ⟨fun _ => rfl, trivial⟩
 (fun n => fun x => (z9p.eq_2 x.1 x.2.1 n).trans (by kernel_rfl))
 (fun n => ⟨fun x => (z3p.eq_2 x.1 x.2.1 x.2.2.1 x.2.2.2.1 n).trans (by kernel_rfl),
  trivial⟩)
 (fun x => .inl rfl)
theorem yd5 : OkL Tryz.prog [zda] := kz7 (zz2 _) (bs := [z7d, z60]) ⟨zmc, zkl, trivial⟩ yds
theorem ycd : FOk Tryz.prog zda := yd5.1
mutual
def z1v : Nat → Int → (List zz0) → Option (Res (Int × Unit) zz0)
 | 0, _, _ => none
 | n + 1, a0, a1 =>
   pIf (a0 == 3)
     ((ix a1 0).bind fun x0 =>
     (ix a1 1).bind fun x1 =>
     (z7u n x0.re x1.re).bind fun y2 =>
     (yzg n y2.1).bind fun y3 =>
     z6s y3 (fun r4 =>
       some (Res.ok y2.2.re))
       (fun e5 =>
       some (Res.pan (e5.1, ()))))
     (pIf (a0 == 4)
       ((zzd n 1 a1).bind fun y6 =>
       z6s y6 (fun r7 =>
         (ix a1 0).bind fun x8 =>
         (ix a1 1).bind fun x9 =>
         (z7n n x8.num x9.num).bind fun y10 =>
         (yzr n y10.2 y10.1).bind fun y11 =>
         z6s y11 (fun r12 =>
           some (Res.ok r12.re))
           (fun e13 =>
           some (Res.pan (e13.1, ()))))
         (fun e14 =>
         some (Res.pan (e14.1, ()))))
       (pIf (a0 == 5)
         ((zzd n 1 a1).bind fun y15 =>
         z6s y15 (fun r16 =>
           (ix a1 0).bind fun x17 =>
           (ix a1 1).bind fun x18 =>
           (z83 n x17.num x18.num).bind fun y19 =>
           (yzr n y19.2 y19.1).bind fun y20 =>
           z6s y20 (fun r21 =>
             some (Res.ok r21.re))
             (fun e22 =>
             some (Res.pan (e22.1, ()))))
           (fun e23 =>
           some (Res.pan (e23.1, ()))))
         (pIf (a0 == 6)
           ((zzd n 1 a1).bind fun y24 =>
           z6s y24 (fun r25 =>
             (ix a1 0).bind fun x26 =>
             (ix a1 1).bind fun x27 =>
             (z7w n x26.num x27.num).bind fun y28 =>
             (yzr n y28.2 y28.1).bind fun y29 =>
             z6s y29 (fun r30 =>
               some (Res.ok r30.re))
               (fun e31 =>
               some (Res.pan (e31.1, ()))))
             (fun e32 =>
             some (Res.pan (e32.1, ()))))
           (pIf (a0 == 8)
             ((ix a1 0).bind fun x33 =>
             (ix a1 1).bind fun x34 =>
             (zzs n x33.re x34.re).bind fun y35 =>
             (yzs n y35).bind fun y36 =>
             some (Res.ok y36.re))
             (pIf (a0 == 7)
               (z06 n a1 a0 a0 true (zz0.mk 0 (yz1.mk 0 0) false [] []))
               (pIf (a0 == 13)
                 (z06 n a1 a0 a0 true (zz0.mk 0 (yz1.mk 0 0) false [] []))
                 (z06 n a1 a0 a0 (a0 == 14) (zz0.mk 0 (yz1.mk 0 0) false [] []))))))))
def z06 : Nat → (List zz0) → Int → Int → Bool → zz0 → Option (Res (Int × Unit) zz0)
 | 0, _, _, _, _, _ => none
 | n + 1, a0, a1, a2, a3, a4 =>
   pIf a3
     ((ix a0 0).bind fun x37 =>
     (ix a0 1).bind fun x38 =>
     (z3b n x37.re x38.re).bind fun y39 =>
     (yzg n y39.2).bind fun y40 =>
     z6s y40 (fun r41 =>
       pIf (a1 == 7)
         ((yzs n (decide (y39.1 < 0))).bind fun y42 =>
         some (Res.ok y42.re))
         (pIf ((a1 == 13) == (decide (y39.1 ≤ 0)))
           (z11 n a0 true a4.re)
           (z11 n a0 (y39.1 == 0) a4.re)))
       (fun e43 =>
       some (Res.pan (e43.1, ()))))
     (pIf (a2 == 9)
       ((zzd n 2 a0).bind fun y44 =>
       z6s y44 (fun r45 =>
         (ix a0 0).bind fun x46 =>
         pIf x46.truth
           ((ix a0 1).bind fun x47 =>
           (yzs n x47.truth).bind fun y48 =>
           some (Res.ok y48.re))
           ((yzs n false).bind fun y49 =>
           some (Res.ok y49.re)))
         (fun e50 =>
         some (Res.pan (e50.1, ()))))
       (pIf (a2 == 10)
         ((zzd n 2 a0).bind fun y51 =>
         z6s y51 (fun r52 =>
           (ix a0 0).bind fun x53 =>
           pIf x53.truth
             ((yzs n true).bind fun y54 =>
             some (Res.ok y54.re))
             ((ix a0 1).bind fun x55 =>
             (yzs n x55.truth).bind fun y56 =>
             some (Res.ok y56.re)))
           (fun e57 =>
           some (Res.pan (e57.1, ()))))
         (pIf (a2 == 11)
           ((zzd n 2 a0).bind fun y58 =>
           z6s y58 (fun r59 =>
             (ix a0 0).bind fun x60 =>
             (yzs n (!x60.truth)).bind fun y61 =>
             some (Res.ok y61.re))
             (fun e62 =>
             some (Res.pan (e62.1, ()))))
           (pIf (a2 == 15)
             ((zzd n 1 a0).bind fun y63 =>
             z6s y63 (fun r64 =>
               (ix a0 0).bind fun x65 =>
               (z4z n x65.num).bind fun y66 =>
               (z0c n y66.1 1).bind fun y67 =>
               (yzr n y67.2 y67.1).bind fun y68 =>
               z6s y68 (fun r69 =>
                 some (Res.ok r69.re))
                 (fun e70 =>
                 some (Res.pan (e70.1, ()))))
               (fun e71 =>
               some (Res.pan (e71.1, ()))))
             (pIf (a2 == 16)
               ((ix a0 0).bind fun x72 =>
               (z47 n x72.re).bind fun y73 =>
               (yzg n y73.2).bind fun y74 =>
               z6s y74 (fun r75 =>
                 (z0c n y73.1 1).bind fun y76 =>
                 (yzr n y76.2 y76.1).bind fun y77 =>
                 z6s y77 (fun r78 =>
                   some (Res.ok r78.re))
                   (fun e79 =>
                   some (Res.pan (e79.1, ()))))
                 (fun e80 =>
                 some (Res.pan (e80.1, ()))))
               (pIf (a2 == 17)
                 ((ix a0 0).bind fun x81 =>
                 (z47 n x81.re).bind fun y82 =>
                 (yzg n y82.2).bind fun y83 =>
                 z6s y83 (fun r84 =>
                   (ix a0 1).bind fun x85 =>
                   (zzd n 1 [x85.re]).bind fun y86 =>
                   z6s y86 (fun r87 =>
                     (ix a0 1).bind fun x88 =>
                     pIf (x88.num.den != 1)
                       ((yzg n 2).bind fun y89 =>
                       z6s y89 (fun r90 =>
                         z3d n a0 a4.re)
                         (fun e91 =>
                         some (Res.pan (e91.1, ()))))
                       (z3d n a0 a4.re))
                     (fun e92 =>
                     some (Res.pan (e92.1, ()))))
                   (fun e93 =>
                   some (Res.pan (e93.1, ()))))
                 ((kzh n (zz0.mk 4 (yz1.mk 0 0) false [] a0)).bind fun y94 =>
                 (yzg n y94).bind fun y95 =>
                 z6s y95 (fun r96 =>
                   some (Res.ok (zz0.mk 4 (yz1.mk 0 0) false [] a0)))
                   (fun e97 =>
                   some (Res.pan (e97.1, ()))))))))))
def z11 : Nat → (List zz0) → Bool → zz0 → Option (Res (Int × Unit) zz0)
 | 0, _, _, _ => none
 | n + 1, a0, a1, a2 =>
   pIf a1
     ((ix a0 0).bind fun x98 =>
     some (Res.ok x98.re))
     ((ix a0 1).bind fun x99 =>
     some (Res.ok x99.re))
def z3d : Nat → (List zz0) → zz0 → Option (Res (Int × Unit) zz0)
 | 0, _, _ => none
 | n + 1, a0, a1 =>
   (ix a0 0).bind fun x100 =>
   (ix a0 1).bind fun x101 =>
   (z9p n x100.re x101.num.num).bind fun y102 =>
   (yzg n y102.1).bind fun y103 =>
   z6s y103 (fun r104 =>
     some (Res.ok y102.2.re))
     (fun e105 =>
     some (Res.pan (e105.1, ())))
end
def y2m : LSh := ⟨[(4, (.ptr 0 0))], [(.st 3)], 0, 246⟩
noncomputable def za0 : FI dat := FI.ofP dat 113 246 0 [(.d (.int .u8)), (.d (.sl (.st 3)))] [] [(.d (.st 3))] [(.st 3)] (.iface 31 (.d (.int .i64))) [] [] y2m (R := zz0) (fun x => x.1) (fun r => (r, r, ())) (fun n x => z1v n x.1 x.2.1)
 (fun n => [(0, ⟨⟨[(4, (.ptr 0 0)), (1, (.d (.sl (.st 3)))), (0, (.d (.int .u8))), (17, (.d (.int .u8))), (91, (.d .bool))], [(.st 3)], 0, 246⟩, fun x => z06 n x.1 x.2.1 x.2.2.1 x.2.2.2.1 x.2.2.2.2.1⟩), (1, ⟨⟨[(4, (.ptr 0 0)), (1, (.d (.sl (.st 3)))), (113, (.d .bool))], [(.st 3)], 0, 246⟩, fun x => z11 n x.1 x.2.1 x.2.2.1⟩), (2, ⟨⟨[(4, (.ptr 0 0)), (1, (.d (.sl (.st 3))))], [(.st 3)], 0, 246⟩, fun x => z3d n x.1 x.2.1⟩)]) (ann [(56, 0), (71, 1), (138, 2)] (Tryz.f113.body.getD .skip) 0).1
noncomputable def y43 : List (FI dat) := [zbg, z2e, z71, zbs, z8v, zbk, zc0, z22, zag, z64, z8p, z5r, z7d, kzf, zda]
theorem y37 : (za0).Good Tryz.prog dat (tb y43) := FI.zht (hD := zz2 _) Tryz.func113 Tryz.ntmps113 Tryz.call113 (by kernel_rfl) (of_decide_eq_true (by kernel_rfl)) (by kernel_rfl) (fun n => by kernel_rfl) trivial (fun x => by kernel_rfl) (fun _ => rfl) ⟨fun _ => rfl, fun _ => rfl, fun _ => rfl, trivial⟩
 (fun n => fun x => (z1v.eq_2 x.1 x.2.1 n).trans (by kernel_rfl))
 (fun n => ⟨fun x => (z06.eq_2 x.1 x.2.1 x.2.2.1 x.2.2.2.1 x.2.2.2.2.1 n).trans (by kernel_rfl),
  fun x => (z11.eq_2 x.1 x.2.1 x.2.2.1 n).trans (by kernel_rfl),
  fun x => (z3d.eq_2 x.1 x.2.1 n).trans (by kernel_rfl),
  trivial⟩)
 (fun x => by kernel_rfl)
theorem y2s : OkL Tryz.prog [za0] := kz7 (zz2 _) (bs := [zbg, z2e, z71, zbs, z8v, zbk, zc0, z22, zag, z64, z8p, z5r, z7d, kzf, zda]) ⟨y3z, zcq, zn0, y31, zuu, y7m, y34, zek, y0j, zok, zvq, zki, zmc, z55, ycd, trivial⟩ y37
theorem zy6 : FOk Tryz.prog za0 := y2s.1
mutual
def zzu : Nat → zz1 → (List yz4) → Option (Res (Int × Unit) zz0)
 | 0, _, _ => none
 | n + 1, a0, a1 =>
   pIf (a0.op == 1)
     (some (Res.ok a0.value.re))
     (pIf (a0.op == 2)
       ((yz9 n a1 a0.op a0.value.kind a0.value.num.num a0.value.num.den a0.value.truth a0.value.str a0.value.list a0.name a0.args).bind fun y0 =>
       pIf (decide (y0.1 < 0))
         ((yzg n 6).bind fun y1 =>
         z6s y1 (fun r2 =>
           z3y n y0.1 a1 0 0 0 false [] [])
           (fun e3 =>
           some (Res.pan (e3.1, ()))))
         (z3y n y0.1 a1 0 0 0 false [] []))
       (pIf (a0.op == 12)
         ((ix a0.args 0).bind fun x4 =>
         (zzu n x4.re a1).bind fun y5 =>
         z6s y5 (fun r6 =>
           (zzd n 2 [r6.re]).bind fun y7 =>
           z6s y7 (fun r8 =>
             pIf r6.truth
               ((ix a0.args 1).bind fun x9 =>
               (zzu n x9.re a1).bind fun y10 =>
               z6s y10 (fun r11 =>
                 some (Res.ok r11.re))
                 (fun e12 =>
                 some (Res.pan (e12.1, ()))))
               ((ix a0.args 2).bind fun x13 =>
               (zzu n x13.re a1).bind fun y14 =>
               z6s y14 (fun r15 =>
                 some (Res.ok r15.re))
                 (fun e16 =>
                 some (Res.pan (e16.1, ())))))
             (fun e17 =>
             some (Res.pan (e17.1, ()))))
           (fun e18 =>
           some (Res.pan (e18.1, ()))))
         (z2u n 0 a1 a0.args (a0.args.length : Int) [] 0 0 0 false [] a0.re [])))
def z3y : Nat → Int → (List yz4) → Int → Int → Int → Bool → (List UInt8) → (List zz0) → Option (Res (Int × Unit) zz0)
 | 0, _, _, _, _, _, _, _, _ => none
 | n + 1, a0, a1, a2, a3, a4, a5, a6, a7 =>
   (ix a1 a0).bind fun x19 =>
   some (Res.ok x19.value.re)
def z2u : Nat → Int → (List yz4) → (List zz1) → Int → (List zz0) → Int → Int → Int → Bool → (List UInt8) → zz1 → (List zz0) → Option (Res (Int × Unit) zz0)
 | 0, _, _, _, _, _, _, _, _, _, _, _, _ => none
 | n + 1, a0, a1, a2, a3, a4, a5, a6, a7, a8, a9, a10, a11 =>
   pIf (decide (a0 < a3))
     ((ix a2 a0).bind fun x20 =>
     (zzu n x20.re a1).bind fun y21 =>
     z6s y21 (fun r22 =>
       (ext a4 [r22.re]).bind fun x23 =>
       z2u n (IntKind.i64.wrap (a0 + 1)) a1 a2 a3 x23 a5 a6 a7 a8 a9 a10.re a11)
       (fun e24 =>
       some (Res.pan (e24.1, ()))))
     ((z1v n a10.op a4).bind fun y25 =>
     z6s y25 (fun r26 =>
       some (Res.ok r26.re))
       (fun e27 =>
       some (Res.pan (e27.1, ()))))
end
def y7y : LSh := ⟨[(4, (.ptr 0 0))], [(.st 3)], 0, 72⟩
noncomputable def z9u : FI dat := FI.ofP dat 82 72 0 [(.d (.st 4)), (.d (.sl (.st 5)))] [] [(.d (.st 3))] [(.st 3)] (.iface 31 (.d (.int .i64))) [] [] y7y (R := zz0) (fun x => x.1) (fun r => (r, r, ())) (fun n x => zzu n x.1 x.2.1)
 (fun n => [(0, ⟨⟨[(4, (.ptr 0 0)), (5, (.d (.int .i64))), (1, (.d (.sl (.st 5))))], [(.cells [(.d (.int .u8)), (.d (.int .i64)), (.d (.int .i64)), (.d .bool), (.d .str), (.own 1)]), (.acc 26 (.st 3) true)], 0, 72⟩, fun x => z3y n x.1 x.2.1 x.2.2.1 x.2.2.2.1 x.2.2.2.2.1 x.2.2.2.2.2.1 x.2.2.2.2.2.2.1 x.2.2.2.2.2.2.2.1⟩), (1, ⟨⟨[(57, (.d (.int .i64))), (1, (.d (.sl (.st 5)))), (7, (.own 0)), (55, (.d (.sl (.st 4)))), (4, (.ptr 1 0)), (2, (.ptr 2 0)), (56, (.d (.int .i64)))], [(.acc 26 (.st 3) true), (.cells [(.d (.int .u8)), (.d (.int .i64)), (.d (.int .i64)), (.d .bool), (.d .str), (.own 3)]), (.st 4), (.acc 26 (.st 3) true)], 0, 72⟩, fun x => z2u n x.1 x.2.1 x.2.2.1 x.2.2.2.1 x.2.2.2.2.1 x.2.2.2.2.2.1 x.2.2.2.2.2.2.1 x.2.2.2.2.2.2.2.1 x.2.2.2.2.2.2.2.2.1 x.2.2.2.2.2.2.2.2.2.1 x.2.2.2.2.2.2.2.2.2.2.1 x.2.2.2.2.2.2.2.2.2.2.2.1⟩)]) (ann [(23, 0), (51, 1)] (Tryz.f82.body.getD .skip) 0).1
noncomputable def ya3 : List (FI dat) := [z9u] ++ [kzc, z2e, z71, za0]
theorem y85 : (z9u).Good Tryz.prog dat (tb ya3) := FI.zht (hD := zz2 _) Tryz.func82 Tryz.ntmps82 Tryz.call82 (by kernel_rfl) (of_decide_eq_true (by kernel_rfl)) (by kernel_rfl) (fun n => by kernel_rfl) trivial (fun x => by kernel_rfl) (fun _ => rfl) ⟨fun _ => rfl, fun _ => rfl, trivial⟩
 (fun n => fun x => (zzu.eq_2 x.1 x.2.1 n).trans (by kernel_rfl))
 (fun n => ⟨fun x => (z3y.eq_2 x.1 x.2.1 x.2.2.1 x.2.2.2.1 x.2.2.2.2.1 x.2.2.2.2.2.1 x.2.2.2.2.2.2.1 x.2.2.2.2.2.2.2.1 n).trans (by kernel_rfl),
  fun x => (z2u.eq_2 x.1 x.2.1 x.2.2.1 x.2.2.2.1 x.2.2.2.2.1 x.2.2.2.2.2.1 x.2.2.2.2.2.2.1 x.2.2.2.2.2.2.2.1 x.2.2.2.2.2.2.2.2.1 x.2.2.2.2.2.2.2.2.2.1 x.2.2.2.2.2.2.2.2.2.2.1 x.2.2.2.2.2.2.2.2.2.2.2.1 n).trans (by kernel_rfl),
  trivial⟩)
 (fun x => by kernel_rfl)
theorem y8y : OkL Tryz.prog [z9u] := z2k (zz2 _) (bs := [kzc, z2e, z71, za0]) ⟨z7r, zcq, zn0, zy6, trivial⟩ ⟨y85, trivial⟩
theorem y3h : FOk Tryz.prog z9u := y8y.1
end Go.Proofs.YtfhpamcehnfhoaaGreatDoor


namespace Go.Proofs.YtfhpamcehnfhoaaGreatDoor
open Go Go.Ab
set_option linter.unusedVariables false
set_option maxRecDepth 100000
def z9y (a0 : Int) : Option Int :=
  some a0
def zx6 : LSh := ⟨[], [(.cells [(.d (.int .i64))])], 1, 10⟩
noncomputable def zkt : zcr dat := { f := 72, args := [(.ptr 0 0)], aos := [(.cells [(.d (.int .i64))])], m := none, ros := [(.cells [(.d (.int .i64))])], go := fun x mx => (z9y x.1 ).bind fun r => some (r, ()) }
theorem zr2 : (zkt).Ok Tryz.prog := ych (c := (ann [] (Tryz.f72.body.getD .skip) 0).1) (args := [(.ptr 0 0)]) (aos := [(.cells [(.d (.int .i64))])]) (ros := [(.cells [(.d (.int .i64))])]) (m := none) (l := zx6) (pack := fun x => x.1) (un := fun r => (r, ())) (go := fun x mx => z9y x.1 ) (by kernel_rfl) (zz2 _) Tryz.func72 (by kernel_rfl) Tryz.ntmps72 Tryz.call72 (Nat.le_of_ble_eq_true (by kernel_rfl)) (Nat.le_of_ble_eq_true (by kernel_rfl)) (Nat.le_of_ble_eq_true (by kernel_rfl)) (by kernel_rfl) (by kernel_rfl) (by kernel_rfl) (by kernel_rfl) (fun x => by kernel_rfl) (fun x mx => by kernel_rfl)
def z6q (a0 : Int) (a1 : Int) : Option Int :=
  pIf (!false)
   (some a1)
   (some a0)
def zoq : LSh := ⟨[], [(.cells [(.d (.int .i64))])], 1, 10⟩
noncomputable def zfc : zcr dat := { f := 72, args := [(.ptr 0 0)], aos := [(.cells [(.d (.int .i64))])], m := (some (.iface 31 (.d (.int .i64)))), ros := [(.cells [(.d (.int .i64))])], go := fun x mx => (z6q x.1 mx.1).bind fun r => some (r, ()) }
theorem zli : (zfc).Ok Tryz.prog := ych (c := (ann [] (Tryz.f72.body.getD .skip) 0).1) (args := [(.ptr 0 0)]) (aos := [(.cells [(.d (.int .i64))])]) (ros := [(.cells [(.d (.int .i64))])]) (m := (some (.iface 31 (.d (.int .i64))))) (l := zoq) (pack := fun x => x.1) (un := fun r => (r, ())) (go := fun x mx => z6q x.1 mx.1) (by kernel_rfl) (zz2 _) Tryz.func72 (by kernel_rfl) Tryz.ntmps72 Tryz.call72 (Nat.le_of_ble_eq_true (by kernel_rfl)) (Nat.le_of_ble_eq_true (by kernel_rfl)) (Nat.le_of_ble_eq_true (by kernel_rfl)) (by kernel_rfl) (by kernel_rfl) (by kernel_rfl) (by kernel_rfl) (fun x => by kernel_rfl) (fun x mx => by kernel_rfl)
def z33 : Nat → zz1 → (List yz4) → Option (zz0 × Int)
 | 0, _, _ => none
 | n + 1, a0, a1 =>
   (zzu n a0.re a1).bind fun y0 =>
   z6s y0 (fun r1 =>
     (z4g n r1.re).bind fun y2 =>
     (((z9y 0).bind fun r4 => some (r4, ()))).bind fun y3 =>
     some (y2.re, y3.1))
     (fun e5 =>
     (((z6q 0 e5.1).bind fun r7 => some (r7, ()))).bind fun y6 =>
     some ((zz0.mk 0 (yz1.mk 0 0) false [] []), y6.1))
def y6z : LSh := ⟨[(4, (.ptr 0 0)), (5, (.ptr 1 0))], [(.st 3), (.cells [(.d (.int .i64))])], 0, 10⟩
noncomputable def zae : FI dat := FI.ofD dat 47 10 0 [(.d (.st 4)), (.d (.sl (.st 5)))] [] [(.d (.st 3)), (.d (.int .i64))] [(.st 3), (.cells [(.d (.int .i64))])] [zkt, zfc] y6z (R := zz0 × Int) (fun x => (x.1, x.2.1)) (fun r => (r.1, r.2, r.1, r.2, ())) (fun n x => z33 n x.1 x.2.1)
 (fun n => []) (ann [] (Tryz.f47.body.getD .skip) 0).1
noncomputable def y3u : List (FI dat) := [z9u, z60]
theorem y6i : (zae).Good Tryz.prog dat (tb y3u) := FI.zij (hD := zz2 _) Tryz.func47 Tryz.ntmps47 Tryz.call47 (by kernel_rfl) (of_decide_eq_true (by kernel_rfl)) (by kernel_rfl) (fun n => by kernel_rfl) ⟨zr2, zli, trivial⟩ (fun x => by kernel_rfl) (fun _ => rfl) trivial
 (fun n => fun x => (z33.eq_2 x.1 x.2.1 n).trans (by kernel_rfl))
 (fun n => trivial)
 (fun x => by kernel_rfl)
theorem y4f : OkL Tryz.prog [zae] := kz7 (zz2 _) (bs := [z9u, z60]) ⟨y3h, zkl, trivial⟩ y6i
theorem zvy : FOk Tryz.prog zae := y4f.1
mutual
def z5w : Nat → zz1 → (List yz4) → Option (Int × zz0)
 | 0, _, _ => none
 | n + 1, a0, a1 =>
   (z1w n a0.re).bind fun y0 =>
   pIf (y0 != 0)
     (some (y0, (zz0.mk 0 (yz1.mk 0 0) false [] [])))
     (pIf (decide ((a1.length : Int) > 40))
       (some (4, (zz0.mk 0 (yz1.mk 0 0) false [] [])))
       (z2r n 0 a1 a1 (a1.length : Int) (zz0.mk 0 (yz1.mk 0 0) false [] []) a0.re))
def z2r : Nat → Int → (List yz4) → (List yz4) → Int → zz0 → zz1 → Option (Int × zz0)
 | 0, _, _, _, _, _, _ => none
 | n + 1, a0, a1, a2, a3, a4, a5 =>
   pIf (decide (a0 < a3))
     ((ix a1 a0).bind fun x1 =>
     (z4p n x1.name).bind fun y2 =>
     pIf (!y2)
       (z2p n a1 a2 a3 a0 true a4.re a5.re)
       ((kzh n x1.value.re).bind fun y3 =>
       z2p n a1 a2 a3 a0 (y3 != 0) a4.re a5.re))
     ((z33 n a5.re a2).bind fun y4 =>
     some (y4.2, y4.1.re))
def z2p : Nat → (List yz4) → (List yz4) → Int → Int → Bool → zz0 → zz1 → Option (Int × zz0)
 | 0, _, _, _, _, _, _, _ => none
 | n + 1, a0, a1, a2, a3, a4, a5, a6 =>
   pIf a4
     (some (8, (zz0.mk 0 (yz1.mk 0 0) false [] [])))
     (z2r n (IntKind.i64.wrap (a3 + 1)) a0 a1 a2 a5.re a6.re)
end
def y9m : LSh := ⟨[(4, (.ptr 0 0)), (5, (.d (.int .i64)))], [(.st 3)], 0, 42⟩
noncomputable def zbm : FI dat := FI.of dat 21 42 0 [(.d (.st 4)), (.d (.sl (.st 5)))] [] [(.d (.st 3)), (.d (.int .i64))] [] true y9m (R := Int × zz0) (fun x => (x.1, x.2.1)) (fun r => (r.2, r.1, ())) (fun n x => z5w n x.1 x.2.1)
 (fun n => [(0, ⟨⟨[(4, (.ptr 0 0)), (21, (.d (.int .i64))), (19, (.d (.sl (.st 5)))), (1, (.d (.sl (.st 5)))), (2, (.ptr 1 0)), (20, (.d (.int .i64)))], [(.st 3), (.st 4)], 0, 42⟩, fun x => z2r n x.1 x.2.1 x.2.2.1 x.2.2.2.1 x.2.2.2.2.1 x.2.2.2.2.2.1⟩), (1, ⟨⟨[(4, (.ptr 0 0)), (19, (.d (.sl (.st 5)))), (1, (.d (.sl (.st 5)))), (2, (.ptr 1 0)), (20, (.d (.int .i64))), (21, (.d (.int .i64))), (34, (.d .bool))], [(.st 3), (.st 4)], 0, 42⟩, fun x => z2p n x.1 x.2.1 x.2.2.1 x.2.2.2.1 x.2.2.2.2.1 x.2.2.2.2.2.1 x.2.2.2.2.2.2.1⟩)]) (ann [(24, 0), (37, 1)] (Tryz.f21.body.getD .skip) 0).1
noncomputable def y8i : List (FI dat) := [z2y, z5x, kzf, zae]
theorem yb6 : (zbm).Good Tryz.prog dat (tb y8i) := FI.kz4 (hD := zz2 _) Tryz.func21 Tryz.ntmps21 Tryz.call21 (by kernel_rfl) (of_decide_eq_true (by kernel_rfl)) (by kernel_rfl) (fun n => by kernel_rfl) (fun x => by kernel_rfl) (fun _ => rfl) ⟨fun _ => rfl, fun _ => rfl, trivial⟩
 (fun n => fun x => (z5w.eq_2 x.1 x.2.1 n).trans (by kernel_rfl))
 (fun n => ⟨fun x => (z2r.eq_2 x.1 x.2.1 x.2.2.1 x.2.2.2.1 x.2.2.2.2.1 x.2.2.2.2.2.1 n).trans (by kernel_rfl),
  fun x => (z2p.eq_2 x.1 x.2.1 x.2.2.1 x.2.2.2.1 x.2.2.2.2.1 x.2.2.2.2.2.1 x.2.2.2.2.2.2.1 n).trans (by kernel_rfl),
  trivial⟩)
 (fun x => .inl rfl)
theorem y9i : OkL Tryz.prog [zbm] := kz7 (zz2 _) (bs := [z2y, z5x, kzf, zae]) ⟨zej, zkb, z55, zvy, trivial⟩ yb6
theorem y5j : FOk Tryz.prog zbm := y9i.1
mutual
def kzd : Nat → (List UInt8) → (List (List UInt8)) → Option (Int × (List (List UInt8)))
 | 0, _, _ => none
 | n + 1, a0, a1 =>
   kz9 n 0 a0 (a1.length : Int) a1
def kz9 : Nat → Int → (List UInt8) → Int → (List (List UInt8)) → Option (Int × (List (List UInt8)))
 | 0, _, _, _, _ => none
 | n + 1, a0, a1, a2, a3 =>
   pIf (decide (a0 < a2))
     ((ix a3 a0).bind fun x0 =>
     pIf (a1 == x0)
       (some (a0, a3))
       (kz9 n (IntKind.i64.wrap (a0 + 1)) a1 a2 a3))
     (some ((-1), a3))
end
def zc9 : LSh := ⟨[(4, (.d (.int .i64)))], [(.acc 9 .str true)], 1, 19⟩
noncomputable def kzk : FI dat := FI.of dat 105 19 1 [(.own 0), (.d .str)] [(.acc 9 .str true)] [(.d (.int .i64))] [(.acc 9 .str true)] false zc9 (R := Int × (List (List UInt8))) (fun x => (x.1, x.2.1)) (fun r => (r.1, r.2, ())) (fun n x => kzd n x.1 x.2.1)
 (fun n => [(0, ⟨⟨[(8, (.d (.int .i64))), (0, (.own 0)), (1, (.d .str)), (7, (.d (.int .i64)))], [(.acc 9 .str true)], 1, 19⟩, fun x => kz9 n x.1 x.2.1 x.2.2.1 x.2.2.2.1⟩)]) (ann [(6, 0)] (Tryz.f105.body.getD .skip) 0).1
noncomputable def zcc : List (FI dat) := []
theorem zca : (kzk).Good Tryz.prog dat (tb zcc) := FI.kz4 (hD := zz2 _) Tryz.func105 Tryz.ntmps105 Tryz.call105 (by kernel_rfl) (of_decide_eq_true (by kernel_rfl)) (by kernel_rfl) (fun n => by kernel_rfl) (fun x => by kernel_rfl) (fun _ => rfl) ⟨fun _ => rfl, trivial⟩
 (fun n => fun x => (kzd.eq_2 x.1 x.2.1 n).trans (by kernel_rfl))
 (fun n => ⟨fun x => (kz9.eq_2 x.1 x.2.1 x.2.2.1 x.2.2.2.1 n).trans (by kernel_rfl),
  trivial⟩)
 (fun x => .inr (by kernel_rfl))
theorem zcd : OkL Tryz.prog [kzk] := kz7 (zz2 _) (bs := []) trivial zca
theorem zbo : FOk Tryz.prog kzk := zcd.1
def zzc : Nat → (List UInt8) → (List (List UInt8)) → Option (Bool × (List (List UInt8)))
 | 0, _, _ => none
 | n + 1, a0, a1 =>
   (kzd n a0 a1).bind fun y0 =>
   some ((decide (y0.1 ≥ 0)), y0.2)
def zao : LSh := ⟨[(4, (.d .bool))], [(.acc 9 .str true)], 1, 9⟩
noncomputable def zzg : FI dat := FI.of dat 90 9 1 [(.own 0), (.d .str)] [(.acc 9 .str true)] [(.d .bool)] [(.acc 9 .str true)] false zao (R := Bool × (List (List UInt8))) (fun x => (x.1, x.2.1)) (fun r => (r.1, r.2, ())) (fun n x => zzc n x.1 x.2.1)
 (fun n => []) (ann [] (Tryz.f90.body.getD .skip) 0).1
noncomputable def zar : List (FI dat) := [kzk]
theorem zaq : (zzg).Good Tryz.prog dat (tb zar) := FI.kz4 (hD := zz2 _) Tryz.func90 Tryz.ntmps90 Tryz.call90 (by kernel_rfl) (of_decide_eq_true (by kernel_rfl)) (by kernel_rfl) (fun n => by kernel_rfl) (fun x => by kernel_rfl) (fun _ => rfl) trivial
 (fun n => fun x => (zzc.eq_2 x.1 x.2.1 n).trans (by kernel_rfl))
 (fun n => trivial)
 (fun x => .inr (by kernel_rfl))
theorem zas : OkL Tryz.prog [zzg] := kz7 (zz2 _) (bs := [kzk]) ⟨zbo, trivial⟩ zaq
theorem za9 : FOk Tryz.prog zzg := zas.1
mutual
def z4j : Nat → zz1 → (List (List UInt8)) → Option (List (List UInt8))
 | 0, _, _ => none
 | n + 1, a0, a1 =>
   pIf (a0.op == 2)
     ((zzc n a0.name a1).bind fun y0 =>
     z3c n (!y0.1) y0.2 a0.re)
     (z3c n false a1 a0.re)
def z3c : Nat → Bool → (List (List UInt8)) → zz1 → Option (List (List UInt8))
 | 0, _, _, _ => none
 | n + 1, a0, a1, a2 =>
   pIf a0
     ((ext a1 [a2.name]).bind fun x1 =>
     z1k n x1 a2.re)
     (z1k n a1 a2.re)
def z1k : Nat → (List (List UInt8)) → zz1 → Option (List (List UInt8))
 | 0, _, _ => none
 | n + 1, a0, a1 =>
   z18 n 0 a1.args (a1.args.length : Int) a0
def z18 : Nat → Int → (List zz1) → Int → (List (List UInt8)) → Option (List (List UInt8))
 | 0, _, _, _, _ => none
 | n + 1, a0, a1, a2, a3 =>
   pIf (decide (a0 < a2))
     ((ix a1 a0).bind fun x2 =>
     (z4j n x2.re a3).bind fun y3 =>
     z18 n (IntKind.i64.wrap (a0 + 1)) a1 a2 y3)
     (some a3)
end
def y57 : LSh := ⟨[], [(.cells [(.own 1)]), (.acc 9 .str true)], 1, 38⟩
noncomputable def z7l : FI dat := FI.of dat 60 38 1 [(.d (.st 4)), (.ptr 0 0)] [(.cells [(.own 1)]), (.acc 9 .str true)] [] [(.cells [(.own 1)]), (.acc 9 .str true)] false y57 (R := List (List UInt8)) (fun x => x.1) (fun r => (r, ())) (fun n x => z4j n x.1 x.2.1)
 (fun n => [(0, ⟨⟨[(1, (.ptr 0 0)), (2, (.ptr 2 0)), (17, (.d .bool))], [(.cells [(.own 1)]), (.acc 9 .str true), (.st 4)], 1, 38⟩, fun x => z3c n x.1 x.2.1 x.2.2.1⟩), (1, ⟨⟨[(1, (.ptr 0 0)), (2, (.ptr 2 0))], [(.cells [(.own 1)]), (.acc 9 .str true), (.st 4)], 1, 38⟩, fun x => z1k n x.1 x.2.1⟩), (2, ⟨⟨[(30, (.d (.int .i64))), (1, (.ptr 0 0)), (28, (.d (.sl (.st 4)))), (29, (.d (.int .i64)))], [(.cells [(.own 1)]), (.acc 9 .str true)], 1, 38⟩, fun x => z18 n x.1 x.2.1 x.2.2.1 x.2.2.2.1⟩)]) (ann [(5, 0), (8, 1), (11, 2)] (Tryz.f60.body.getD .skip) 0).1
noncomputable def y4t : List (FI dat) := [z7l] ++ [zzg]
theorem y6u : (z7l).Good Tryz.prog dat (tb y4t) := FI.kz4 (hD := zz2 _) Tryz.func60 Tryz.ntmps60 Tryz.call60 (by kernel_rfl) (of_decide_eq_true (by kernel_rfl)) (by kernel_rfl) (fun n => by kernel_rfl) (fun x => by kernel_rfl) (fun _ => rfl) ⟨fun _ => rfl, fun _ => rfl, fun _ => rfl, trivial⟩
 (fun n => fun x => (z4j.eq_2 x.1 x.2.1 n).trans (by kernel_rfl))
 (fun n => ⟨fun x => (z3c.eq_2 x.1 x.2.1 x.2.2.1 n).trans (by kernel_rfl),
  fun x => (z1k.eq_2 x.1 x.2.1 n).trans (by kernel_rfl),
  fun x => (z18.eq_2 x.1 x.2.1 x.2.2.1 x.2.2.2.1 n).trans (by kernel_rfl),
  trivial⟩)
 (fun x => .inr (by kernel_rfl))
theorem y4y : OkL Tryz.prog [z7l] := z2k (zz2 _) (bs := [zzg]) ⟨za9, trivial⟩ ⟨y6u, trivial⟩
theorem zyb : FOk Tryz.prog z7l := y4y.1
end Go.Proofs.YtfhpamcehnfhoaaGreatDoor


namespace Go.Proofs.YtfhpamcehnfhoaaGreatDoor
open Go Go.Ab
set_option linter.unusedVariables false
set_option maxRecDepth 100000
def z6h : Nat → zz1 → Option ((List (List UInt8)) × Int)
 | 0, _ => none
 | n + 1, a0 =>
   (z1w n a0.re).bind fun y0 =>
   pIf (y0 != 0)
     (some ([], y0))
     ((z4j n a0.re []).bind fun y1 =>
     (yzz n y1).bind fun y2 =>
     some (y2, 0))
def y6f : LSh := ⟨[(2, (.d (.sl .str))), (3, (.d (.int .i64)))], [], 0, 16⟩
noncomputable def za6 : FI dat := FI.of dat 32 16 0 [(.d (.st 4))] [] [(.d (.sl .str)), (.d (.int .i64))] [] true y6f (R := (List (List UInt8)) × Int) (fun x => (x.1, x.2.1)) (fun r => (r.1, r.2, ())) (fun n x => z6h n x.1)
 (fun n => []) (ann [] (Tryz.f32.body.getD .skip) 0).1
noncomputable def y2o : List (FI dat) := [z2y, z7l, z2z]
theorem y30 : (za6).Good Tryz.prog dat (tb y2o) := FI.kz4 (hD := zz2 _) Tryz.func32 Tryz.ntmps32 Tryz.call32 (by kernel_rfl) (of_decide_eq_true (by kernel_rfl)) (by kernel_rfl) (fun n => by kernel_rfl) (fun x => by kernel_rfl) (fun _ => rfl) trivial
 (fun n => fun x => (z6h.eq_2 x.1 n).trans (by kernel_rfl))
 (fun n => trivial)
 (fun x => .inl rfl)
theorem y7b : OkL Tryz.prog [za6] := kz7 (zz2 _) (bs := [z2y, z7l, z2z]) ⟨zej, zyb, zc5, trivial⟩ y30
theorem y12 : FOk Tryz.prog za6 := y7b.1
mutual
def zze : Nat → zz1 → (List yz4) → (List UInt8) → zz0 → Option Bool
 | 0, _, _, _, _ => none
 | n + 1, a0, a1, a2, a3 =>
   (kzo n a0.re).bind fun y0 =>
   pIf (!y0)
     (yz7 n a2 a1 true a3.re a0.re)
     ((z0r n a1).bind fun y1 =>
     pIf y1
       (yz7 n a2 a1 true a3.re a0.re)
       (pIf (decide ((a2.length : Int) > 200))
         (yz7 n a2 a1 true a3.re a0.re)
         ((z29 n a3.re).bind fun y2 =>
         yz7 n a2 a1 y2 a3.re a0.re)))
def yz7 : Nat → (List UInt8) → (List yz4) → Bool → zz0 → zz1 → Option Bool
 | 0, _, _, _, _, _ => none
 | n + 1, a0, a1, a2, a3, a4 =>
   pIf a2
     ((zzp n ).bind fun y3 =>
     some y3)
     ((z7q n a4.re a0 a3.re).bind fun y4 =>
     pIf (y4.1 != 0)
       (pIf (y4.1 == 8)
         ((zzp n ).bind fun y5 =>
         some y5)
         (pIf (y4.1 == 4)
           ((zzp n ).bind fun y6 =>
           some y6)
           (some false)))
       ((z5w n y4.2.re a1).bind fun y7 =>
       (ext [(yz4.mk a0 a3.re)] a1).bind fun x8 =>
       (z5w n a4.re x8).bind fun y9 =>
       pIf (decide ((a1.length : Int) < 40))
         (pIf (y7.1 != y9.1)
           (zza n a0 true y4.2.re)
           ((zzy n y7.2.re y9.2.re).bind fun y10 =>
           zza n a0 (!y10) y4.2.re))
         (zza n a0 false y4.2.re)))
def zza : Nat → (List UInt8) → Bool → zz1 → Option Bool
 | 0, _, _, _ => none
 | n + 1, a0, a1, a2 =>
   pIf a1
     (some false)
     ((z6h n a2.re).bind fun y11 =>
     yza n 0 y11.1 a0 y11.2)
def yza : Nat → Int → (List (List UInt8)) → (List UInt8) → Int → Option Bool
 | 0, _, _, _, _ => none
 | n + 1, a0, a1, a2, a3 =>
   pIf (decide (a0 < (a1.length : Int)))
     ((ix a1 a0).bind fun x12 =>
     pIf (x12 == a2)
       (kza n a1 a2 a3 a0 true)
       (pIf (decide (a0 > 0))
         ((ix a1 (IntKind.i64.wrap (a0 - 1))).bind fun x13 =>
         (ix a1 a0).bind fun x14 =>
         kza n a1 a2 a3 a0 (!(Op.bytesLess x13 x14)))
         (kza n a1 a2 a3 a0 false)))
     (pIf (a3 == 0)
       ((zzp n ).bind fun y15 =>
       some y15)
       (some false))
def kza : Nat → (List (List UInt8)) → (List UInt8) → Int → Int → Bool → Option Bool
 | 0, _, _, _, _, _ => none
 | n + 1, a0, a1, a2, a3, a4 =>
   pIf a4
     (some false)
     (yza n (IntKind.i64.wrap (a3 + 1)) a0 a1 a2)
end
def zer : LSh := ⟨[(8, (.d .bool))], [], 0, 122⟩
noncomputable def z4s : FI dat := FI.of dat 7 122 0 [(.d (.st 4)), (.d (.sl (.st 5))), (.d .str), (.d (.st 3))] [] [(.d .bool)] [] true zer (R := Bool) (fun x => x.1) (fun r => (r, ())) (fun n x => zze n x.1 x.2.1 x.2.2.1 x.2.2.2.1)
 (fun n => [(0, ⟨⟨[(2, (.d .str)), (1, (.d (.sl (.st 5)))), (7, (.ptr 0 0)), (4, (.ptr 1 0)), (33, (.d .bool))], [(.st 3), (.st 4)], 0, 122⟩, fun x => yz7 n x.1 x.2.1 x.2.2.1 x.2.2.2.1 x.2.2.2.2.1⟩), (1, ⟨⟨[(2, (.d .str)), (9, (.ptr 0 0)), (83, (.d .bool))], [(.st 4)], 0, 122⟩, fun x => zza n x.1 x.2.1 x.2.2.1⟩), (2, ⟨⟨[(17, (.d (.int .i64))), (15, (.d (.sl .str))), (2, (.d .str)), (16, (.d (.int .i64)))], [], 0, 122⟩, fun x => yza n x.1 x.2.1 x.2.2.1 x.2.2.2.1⟩), (3, ⟨⟨[(15, (.d (.sl .str))), (2, (.d .str)), (16, (.d (.int .i64))), (17, (.d (.int .i64))), (116, (.d .bool))], [], 0, 122⟩, fun x => kza n x.1 x.2.1 x.2.2.1 x.2.2.2.1 x.2.2.2.2.1⟩)]) (ann [(5, 0), (27, 1), (38, 2), (49, 3)] (Tryz.f7.body.getD .skip) 0).1
noncomputable def zen : List (FI dat) := [z2i, z3m, z1x, z73, zbt, zbm, z4a, za6]
theorem zet : (z4s).Good Tryz.prog dat (tb zen) := FI.kz4 (hD := zz2 _) Tryz.func7 Tryz.ntmps7 Tryz.call7 (by kernel_rfl) (of_decide_eq_true (by kernel_rfl)) (by kernel_rfl) (fun n => by kernel_rfl) (fun x => by kernel_rfl) (fun _ => rfl) ⟨fun _ => rfl, fun _ => rfl, fun _ => rfl, fun _ => rfl, trivial⟩
 (fun n => fun x => (zze.eq_2 x.1 x.2.1 x.2.2.1 x.2.2.2.1 n).trans (by kernel_rfl))
 (fun n => ⟨fun x => (yz7.eq_2 x.1 x.2.1 x.2.2.1 x.2.2.2.1 x.2.2.2.2.1 n).trans (by kernel_rfl),
  fun x => (zza.eq_2 x.1 x.2.1 x.2.2.1 n).trans (by kernel_rfl),
  fun x => (yza.eq_2 x.1 x.2.1 x.2.2.1 x.2.2.2.1 n).trans (by kernel_rfl),
  fun x => (kza.eq_2 x.1 x.2.1 x.2.2.1 x.2.2.2.1 x.2.2.2.2.1 n).trans (by kernel_rfl),
  trivial⟩)
 (fun x => .inl rfl)
theorem zee : OkL Tryz.prog [z4s] := kz7 (zz2 _) (bs := [z2i, z3m, z1x, z73, zbt, zbm, z4a, za6]) ⟨zhh, zjr, zde, zhg, y62, y5j, zk8, y12, trivial⟩ zet
theorem zdn : FOk Tryz.prog z4s := zee.1
theorem zdl (a0 : zz1) (a1 : List yz4) (a2 : List UInt8) (a3 : zz0) : VRL dat [] 0 [dat.tv (.st 4) a0, dat.tv (.sl (.st 5)) a1, dat.tv .str a2, dat.tv (.st 3) a3] [dat.el (.st 4) a0, dat.el (.sl (.st 5)) a1, dat.el .str a2, dat.el (.st 3) a3] := by
 simp only [VRL]
 exact ⟨_, _, rfl, VR.tv (zz2 Tryz.prog) (DR.el _ _), ⟨_, _, rfl, VR.tv (zz2 Tryz.prog) (DR.el _ _), ⟨_, _, rfl, VR.tv (zz2 Tryz.prog) (DR.el _ _), ⟨_, _, rfl, VR.tv (zz2 Tryz.prog) (DR.el _ _), rfl⟩⟩⟩⟩
theorem zc6 (n : Nat) (a0 : zz1) (a1 : List yz4) (a2 : List UInt8) (a3 : zz0) (r : Bool) (h : zze n a0 a1 a2 a3 = some r) : zsp Tryz.prog 7 [dat.el (.st 4) a0, dat.el (.sl (.st 5)) a1, dat.el .str a2, dat.el (.st 3) a3] (.bool r) := by
 obtain ⟨y, h1, _, _, _, h2⟩ := zdn n _ (a0, a1, a2, a3, ()) (fun y => some y.1) (fun _ => none) r (by show (zze n a0 a1 a2 a3).bind (fun r => some r) = some r; rw [h]; rfl)
 obtain ⟨vs, k1, k2⟩ := h2 0 [dat.el (.st 4) a0, dat.el (.sl (.st 5)) a1, dat.el .str a2, dat.el (.st 3) a3] (zdl a0 a1 a2 a3)
 injection h1 with h1
 subst h1
 have := k1 [] 0
 replace this : VRL dat [] 0 [TV.bool y.1] vs := this
 simp only [VRL, VR] at this
 obtain ⟨v, r, rfl, rfl, rfl⟩ := this
 exact k2
end Go.Proofs.YtfhpamcehnfhoaaGreatDoor


namespace Go.Proofs.Tryz
open Go Go.Ab
set_option linter.unusedSimpArgs false
@[simp] theorem y8h : Program.cellsOf Tryz.prog 2 = 1 := by kernel_rfl
@[simp] theorem yld : Program.cellsOf Tryz.prog 4 = 1 := by kernel_rfl
@[simp] theorem yb2 : Program.cellsOf Tryz.prog 5 = 1 := by kernel_rfl
@[simp] theorem zv4 : Program.cellsOf Tryz.prog 9 = 1 := by kernel_rfl
@[simp] theorem y2h : Program.cellsOf Tryz.prog 23 = 2 := by kernel_rfl
@[simp] theorem yic : Program.cellsOf Tryz.prog 24 = 1 := by kernel_rfl
@[simp] theorem zjg : Program.cellsOf Tryz.prog 26 = 6 := by kernel_rfl
@[simp] theorem ygr : Program.cellsOf Tryz.prog 27 = 1 := by kernel_rfl
@[simp] theorem y1h : Program.cellsOf Tryz.prog 29 = 9 := by kernel_rfl
@[simp] theorem y1m : Program.cellsOf Tryz.prog 51 = 7 := by kernel_rfl
end Go.Proofs.Tryz


namespace Go.Proofs.Tryz
open Go Go.Ab
set_option linter.unusedSimpArgs false
theorem ylt (n : Nat) : Reads Tryz.prog n 23 yz1.ty := (zcg Tryz.underlying23 y2h (fun m hm => (z07 rfl y8h (zj5 Tryz.underlying2 m) (z07 rfl y8h (zj5 Tryz.underlying2 m) zgr)))).conv (fun x => (⟨x.1, x.2.1⟩ : yz1)) (fun x => by show yz1.el _ = _; rw [yz1.yzf]; simp [Ty.struct, Ty.pair, Ty.unit, Ty.int, Ty.bool, Ty.str, Ty.slice, V.cells, yz1.ty, yz1.yzf, zz0.ty, zz0.yzf, zz1.ty, zz1.yzf, yz4.ty, yz4.yzf]) rfl (fun x h => by simp only [yz1.ty]; rw [yz1.z6p]; simp only [Ty.struct, Ty.pair, Ty.unit, Ty.int, Ty.bool, Ty.str, Ty.slice, yz1.ty, zz0.ty, zz1.ty, yz4.ty] at h ⊢; simpa using h) (fun x => by simp only [Ty.struct, Ty.pair, Ty.unit, Ty.int, Ty.bool, Ty.str, Ty.slice, yz1.ty, zz0.ty, zz1.ty, yz4.ty]; rw [yz1.size_eq]; (try dsimp only); omega)
theorem y69 : ∀ n, Reads Tryz.prog n 26 zz0.ty := fun n => by
 induction n using Nat.strongRecOn with
 | ind n ih => exact (zcg Tryz.underlying26 zjg (fun m hm => (z07 rfl yb2 (zj5 Tryz.underlying5 m) (z07 rfl y2h (ylt m) (z07 rfl yld (yef Tryz.underlying4 m) (z07 rfl zv4 (zjd Tryz.underlying9 m) (z07 rfl yic (ziq Tryz.underlying24 zjg (by decide) (fun k hk => (ih k (by omega)))) zgr))))))).conv (fun x => (⟨x.1, x.2.1, x.2.2.1, x.2.2.2.1, x.2.2.2.2.1⟩ : zz0)) (fun x => by show zz0.el _ = _; rw [zz0.yzf]; simp [Ty.struct, Ty.pair, Ty.unit, Ty.int, Ty.bool, Ty.str, Ty.slice, V.cells, yz1.ty, yz1.yzf, zz0.ty, zz0.yzf, zz1.ty, zz1.yzf, yz4.ty, yz4.yzf]) rfl (fun x h => by simp only [zz0.ty]; rw [zz0.z6p]; simp only [Ty.struct, Ty.pair, Ty.unit, Ty.int, Ty.bool, Ty.str, Ty.slice, yz1.ty, zz0.ty, zz1.ty, yz4.ty] at h ⊢; simpa using h) (fun x => by simp only [Ty.struct, Ty.pair, Ty.unit, Ty.int, Ty.bool, Ty.str, Ty.slice, yz1.ty, zz0.ty, zz1.ty, yz4.ty]; rw [zz0.size_eq]; (try dsimp only); omega)
theorem ylm : ∀ n, Reads Tryz.prog n 29 zz1.ty := fun n => by
 induction n using Nat.strongRecOn with
 | ind n ih => exact (zcg Tryz.underlying29 y1h (fun m hm => (z07 rfl yb2 (zj5 Tryz.underlying5 m) (z07 rfl zjg (y69 m) (z07 rfl zv4 (zjd Tryz.underlying9 m) (z07 rfl ygr (ziq Tryz.underlying27 y1h (by decide) (fun k hk => (ih k (by omega)))) zgr)))))).conv (fun x => (⟨x.1, x.2.1, x.2.2.1, x.2.2.2.1⟩ : zz1)) (fun x => by show zz1.el _ = _; rw [zz1.yzf]; simp [Ty.struct, Ty.pair, Ty.unit, Ty.int, Ty.bool, Ty.str, Ty.slice, V.cells, yz1.ty, yz1.yzf, zz0.ty, zz0.yzf, zz1.ty, zz1.yzf, yz4.ty, yz4.yzf]) rfl (fun x h => by simp only [zz1.ty]; rw [zz1.z6p]; simp only [Ty.struct, Ty.pair, Ty.unit, Ty.int, Ty.bool, Ty.str, Ty.slice, yz1.ty, zz0.ty, zz1.ty, yz4.ty] at h ⊢; simpa using h) (fun x => by simp only [Ty.struct, Ty.pair, Ty.unit, Ty.int, Ty.bool, Ty.str, Ty.slice, yz1.ty, zz0.ty, zz1.ty, yz4.ty]; rw [zz1.size_eq]; (try dsimp only); omega)
theorem ylx (n : Nat) : Reads Tryz.prog n 51 yz4.ty := (zcg Tryz.underlying51 y1m (fun m hm => (z07 rfl zv4 (zjd Tryz.underlying9 m) (z07 rfl zjg (y69 m) zgr)))).conv (fun x => (⟨x.1, x.2.1⟩ : yz4)) (fun x => by show yz4.el _ = _; rw [yz4.yzf]; simp [Ty.struct, Ty.pair, Ty.unit, Ty.int, Ty.bool, Ty.str, Ty.slice, V.cells, yz1.ty, yz1.yzf, zz0.ty, zz0.yzf, zz1.ty, zz1.yzf, yz4.ty, yz4.yzf]) rfl (fun x h => by simp only [yz4.ty]; rw [yz4.z6p]; simp only [Ty.struct, Ty.pair, Ty.unit, Ty.int, Ty.bool, Ty.str, Ty.slice, yz1.ty, zz0.ty, zz1.ty, yz4.ty] at h ⊢; simpa using h) (fun x => by simp only [Ty.struct, Ty.pair, Ty.unit, Ty.int, Ty.bool, Ty.str, Ty.slice, yz1.ty, zz0.ty, zz1.ty, yz4.ty]; rw [yz4.size_eq]; (try dsimp only); omega)
theorem arg29 : y1a Tryz.prog 29 zz1.ty := zta Tryz.underlying29 ylm zz1.zhj
theorem arg49 : y1a Tryz.prog 49 (Ty.slice yz4.ty) := yc2 (fun n => (ziq Tryz.underlying49 y1m (by decide) (fun k hk => (ylx k)))) (fun _ => rfl) (by rw [Tryz.underlying49])
theorem arg9 : y1a Tryz.prog 9 Ty.str := yc2 (fun n => (zjd Tryz.underlying9 n)) (fun _ => rfl) (by rw [Tryz.underlying9])
theorem arg26 : y1a Tryz.prog 26 zz0.ty := zta Tryz.underlying26 y69 zz0.zhj
end Go.Proofs.Tryz


namespace Go.Proofs.YtfhpamcehnfhoaaGreatDoor
open Go Go.Ab
set_option linter.unusedVariables false
theorem zdo {r} (a0 a1 a2 a3) : type_of% (evS (fun n => zze n a0 a1 a2 a3) r fun n => zze.eq_2 a0 a1 a2 a3 n) := evS _ _ fun _ => rfl
theorem z67 {r} (a0 a1 a2 a3 a4) : type_of% (evS (fun n => yz7 n a0 a1 a2 a3 a4) r fun n => yz7.eq_2 a0 a1 a2 a3 a4 n) := evS _ _ fun _ => rfl
theorem zc2 {r} (a0 a1 a2) : type_of% (evS (fun n => zza n a0 a1 a2) r fun n => zza.eq_2 a0 a1 a2 n) := evS _ _ fun _ => rfl
theorem z62 {r} (a0 a1 a2 a3) : type_of% (evS (fun n => yza n a0 a1 a2 a3) r fun n => yza.eq_2 a0 a1 a2 a3 n) := evS _ _ fun _ => rfl
theorem zc7 {r} (a0 a1 a2 a3 a4) : type_of% (evS (fun n => kza n a0 a1 a2 a3 a4) r fun n => kza.eq_2 a0 a1 a2 a3 a4 n) := evS _ _ fun _ => rfl
theorem z6k {r} (a0) : type_of% (evS (fun n => kzo n a0) r fun n => kzo.eq_2 a0 n) := evS _ _ fun _ => rfl
theorem zjw {r} (a0) : type_of% (evS (fun n => z0r n a0) r fun n => z0r.eq_2 a0 n) := evS _ _ fun _ => rfl
theorem zak {r} (a0 a1) : type_of% (evS (fun n => kzj n a0 a1) r fun n => kzj.eq_2 a0 a1 n) := evS _ _ fun _ => rfl
theorem zad {r} (a0 a1 a2) : type_of% (evS (fun n => zzf n a0 a1 a2) r fun n => zzf.eq_2 a0 a1 a2 n) := evS _ _ fun _ => rfl
theorem zaf {r} (a0 a1 a2) : type_of% (evS (fun n => zzk n a0 a1 a2) r fun n => zzk.eq_2 a0 a1 a2 n) := evS _ _ fun _ => rfl
theorem zi3 {r} (a0) : type_of% (evS (fun n => z29 n a0) r fun n => z29.eq_2 a0 n) := evS _ _ fun _ => rfl
theorem y6p {r} (a0 a1 a2) : type_of% (evS (fun n => z7q n a0 a1 a2) r fun n => z7q.eq_2 a0 a1 a2 n) := evS _ _ fun _ => rfl
theorem zr3 {r} (a0 a1 a2 a3 a4) : type_of% (evS (fun n => z2m n a0 a1 a2 a3 a4) r fun n => z2m.eq_2 a0 a1 a2 a3 a4 n) := evS _ _ fun _ => rfl
theorem y5o {r} (a0 a1) : type_of% (evS (fun n => z5w n a0 a1) r fun n => z5w.eq_2 a0 a1 n) := evS _ _ fun _ => rfl
theorem zh0 {r} (a0 a1 a2 a3 a4 a5) : type_of% (evS (fun n => z2r n a0 a1 a2 a3 a4 a5) r fun n => z2r.eq_2 a0 a1 a2 a3 a4 a5 n) := evS _ _ fun _ => rfl
theorem zh5 {r} (a0 a1 a2 a3 a4 a5 a6) : type_of% (evS (fun n => z2p n a0 a1 a2 a3 a4 a5 a6) r fun n => z2p.eq_2 a0 a1 a2 a3 a4 a5 a6 n) := evS _ _ fun _ => rfl
theorem zyx {r} (a0 a1) : type_of% (evS (fun n => zzy n a0 a1) r fun n => zzy.eq_2 a0 a1 n) := evS _ _ fun _ => rfl
theorem zfm {r} (a0 a1 a2) : type_of% (evS (fun n => yzm n a0 a1 a2) r fun n => yzm.eq_2 a0 a1 a2 n) := evS _ _ fun _ => rfl
theorem zf1 {r} (a0 a1 a2) : type_of% (evS (fun n => z1p n a0 a1 a2) r fun n => z1p.eq_2 a0 a1 a2 n) := evS _ _ fun _ => rfl
theorem zvz {r} (a0) : type_of% (evS (fun n => z6h n a0) r fun n => z6h.eq_2 a0 n) := evS _ _ fun _ => rfl
theorem zi7 {r} (a0) : type_of% (evS (fun n => z54 n a0) r fun n => z54.eq_2 a0 n) := evS _ _ fun _ => rfl
theorem zsm {r} (a0) : type_of% (evS (fun n => z4y n a0) r fun n => z4y.eq_2 a0 n) := evS _ _ fun _ => rfl
theorem zm2 {r} (a0 a1) : type_of% (evS (fun n => z0d n a0 a1) r fun n => z0d.eq_2 a0 a1 n) := evS _ _ fun _ => rfl
theorem ztd {r} (a0 a1) : type_of% (evS (fun n => z3j n a0 a1) r fun n => z3j.eq_2 a0 a1 n) := evS _ _ fun _ => rfl
theorem ze8 {r} (a0 a1 a2) : type_of% (evS (fun n => zzx n a0 a1 a2) r fun n => zzx.eq_2 a0 a1 a2 n) := evS _ _ fun _ => rfl
theorem zdz {r} (a0 a1 a2) : type_of% (evS (fun n => z0m n a0 a1 a2) r fun n => z0m.eq_2 a0 a1 a2 n) := evS _ _ fun _ => rfl
theorem zvf {r} (a0) : type_of% (evS (fun n => z2b n a0) r fun n => z2b.eq_2 a0 n) := evS _ _ fun _ => rfl
theorem zah {r} (a0 a1 a2) : type_of% (evS (fun n => z0n n a0 a1 a2) r fun n => z0n.eq_2 a0 a1 a2 n) := evS _ _ fun _ => rfl
theorem za8 {r} (a0 a1 a2 a3) : type_of% (evS (fun n => z0p n a0 a1 a2 a3) r fun n => z0p.eq_2 a0 a1 a2 a3 n) := evS _ _ fun _ => rfl
theorem y0q {r} (a0) : type_of% (evS (fun n => z1w n a0) r fun n => z1w.eq_2 a0 n) := evS _ _ fun _ => rfl
theorem zp1 {r} (a0 a1) : type_of% (evS (fun n => z16 n a0 a1) r fun n => z16.eq_2 a0 a1 n) := evS _ _ fun _ => rfl
theorem y04 {r} (a0) : type_of% (evS (fun n => z4h n a0) r fun n => z4h.eq_2 a0 n) := evS _ _ fun _ => rfl
theorem zts {r} (a0) : type_of% (evS (fun n => kzh n a0) r fun n => kzh.eq_2 a0 n) := evS _ _ fun _ => rfl
theorem zmn {r} (a0 a1) : type_of% (evS (fun n => z0q n a0 a1) r fun n => z0q.eq_2 a0 a1 n) := evS _ _ fun _ => rfl
theorem zuf {r} (a0 a1 a2 a3 a4 a5 a6 a7) : type_of% (evS (fun n => z3k n a0 a1 a2 a3 a4 a5 a6 a7) r fun n => z3k.eq_2 a0 a1 a2 a3 a4 a5 a6 a7 n) := evS _ _ fun _ => rfl
theorem ze7 {r} (a0 a1 a2 a3 a4 a5 a6 a7 a8 a9 a10 a11 a12 a13 a14 a15 a16 a17 a18 a19 a20 a21 a22 a23 a24 a25 a26 a27) : type_of% (evS (fun n => z0f n a0 a1 a2 a3 a4 a5 a6 a7 a8 a9 a10 a11 a12 a13 a14 a15 a16 a17 a18 a19 a20 a21 a22 a23 a24 a25 a26 a27) r fun n => z0f.eq_2 a0 a1 a2 a3 a4 a5 a6 a7 a8 a9 a10 a11 a12 a13 a14 a15 a16 a17 a18 a19 a20 a21 a22 a23 a24 a25 a26 a27 n) := evS _ _ fun _ => rfl
theorem zy3 {r} (a0) : type_of% (evS (fun n => z4p n a0) r fun n => z4p.eq_2 a0 n) := evS _ _ fun _ => rfl
theorem zfl {r} (a0 a1) : type_of% (evS (fun n => z39 n a0 a1) r fun n => z39.eq_2 a0 a1 n) := evS _ _ fun _ => rfl
theorem zg1 {r} (a0 a1) : type_of% (evS (fun n => kzm n a0 a1) r fun n => kzm.eq_2 a0 a1 n) := evS _ _ fun _ => rfl
theorem zfk {r} (a0 a1 a2 a3 a4) : type_of% (evS (fun n => z1e n a0 a1 a2 a3 a4) r fun n => z1e.eq_2 a0 a1 a2 a3 a4 n) := evS _ _ fun _ => rfl
theorem zfq {r} (a0 a1 a2) : type_of% (evS (fun n => yzh n a0 a1 a2) r fun n => yzh.eq_2 a0 a1 a2 n) := evS _ _ fun _ => rfl
theorem zkr {r} (a0 a1) : type_of% (evS (fun n => z33 n a0 a1) r fun n => z33.eq_2 a0 a1 n) := evS _ _ fun _ => rfl
theorem zw1 {r} (a0 a1) : type_of% (evS (fun n => z4j n a0 a1) r fun n => z4j.eq_2 a0 a1 n) := evS _ _ fun _ => rfl
theorem zfn {r} (a0 a1 a2) : type_of% (evS (fun n => z3c n a0 a1 a2) r fun n => z3c.eq_2 a0 a1 a2 n) := evS _ _ fun _ => rfl
theorem zo6 {r} (a0 a1) : type_of% (evS (fun n => z1k n a0 a1) r fun n => z1k.eq_2 a0 a1 n) := evS _ _ fun _ => rfl
theorem zfz {r} (a0 a1 a2 a3) : type_of% (evS (fun n => z18 n a0 a1 a2 a3) r fun n => z18.eq_2 a0 a1 a2 a3 n) := evS _ _ fun _ => rfl
theorem zsz {r} (a0 a1) : type_of% (evS (fun n => z3q n a0 a1) r fun n => z3q.eq_2 a0 a1 n) := evS _ _ fun _ => rfl
theorem zdt {r} (a0 a1 a2) : type_of% (evS (fun n => yzp n a0 a1 a2) r fun n => yzp.eq_2 a0 a1 a2 n) := evS _ _ fun _ => rfl
theorem zdx {r} (a0 a1 a2) : type_of% (evS (fun n => z0i n a0 a1 a2) r fun n => z0i.eq_2 a0 a1 a2 n) := evS _ _ fun _ => rfl
theorem zt7 {r} (a0) : type_of% (evS (fun n => z2c n a0) r fun n => z2c.eq_2 a0 n) := evS _ _ fun _ => rfl
theorem zdy {r} (a0 a1 a2) : type_of% (evS (fun n => z0h n a0 a1 a2) r fun n => z0h.eq_2 a0 a1 a2 n) := evS _ _ fun _ => rfl
theorem zw5 {r} (a0) : type_of% (evS (fun n => z4f n a0) r fun n => z4f.eq_2 a0 n) := evS _ _ fun _ => rfl
theorem zg6 {r} (a0 a1 a2) : type_of% (evS (fun n => z1i n a0 a1 a2) r fun n => z1i.eq_2 a0 a1 a2 n) := evS _ _ fun _ => rfl
theorem zwo {r} (a0) : type_of% (evS (fun n => z4q n a0) r fun n => z4q.eq_2 a0 n) := evS _ _ fun _ => rfl
theorem zo0 {r} (a0 a1) : type_of% (evS (fun n => z03 n a0 a1) r fun n => z03.eq_2 a0 a1 n) := evS _ _ fun _ => rfl
theorem zo8 {r} (a0 a1) : type_of% (evS (fun n => zzh n a0 a1) r fun n => zzh.eq_2 a0 a1 n) := evS _ _ fun _ => rfl
theorem zos {r} (a0 a1) : type_of% (evS (fun n => zzn n a0 a1) r fun n => zzn.eq_2 a0 a1 n) := evS _ _ fun _ => rfl
theorem zfp {r} (a0 a1) : type_of% (evS (fun n => z13 n a0 a1) r fun n => z13.eq_2 a0 a1 n) := evS _ _ fun _ => rfl
theorem zqu {r} (a0) : type_of% (evS (fun n => z2s n a0) r fun n => z2s.eq_2 a0 n) := evS _ _ fun _ => rfl
theorem zd9 {r} (a0 a1 a2 a3 a4) : type_of% (evS (fun n => z00 n a0 a1 a2 a3 a4) r fun n => z00.eq_2 a0 a1 a2 a3 a4 n) := evS _ _ fun _ => rfl
theorem y6t {r} (a0) : type_of% (evS (fun n => z5s n a0) r fun n => z5s.eq_2 a0 n) := evS _ _ fun _ => rfl
theorem zrb {r} (a0 a1) : type_of% (evS (fun n => z0y n a0 a1) r fun n => z0y.eq_2 a0 a1 n) := evS _ _ fun _ => rfl
theorem zqo {r} (a0 a1) : type_of% (evS (fun n => z0v n a0 a1) r fun n => z0v.eq_2 a0 a1 n) := evS _ _ fun _ => rfl
theorem zql {r} (a0 a1) : type_of% (evS (fun n => z2t n a0 a1) r fun n => z2t.eq_2 a0 a1 n) := evS _ _ fun _ => rfl
theorem zr7 {r} (a0 a1) : type_of% (evS (fun n => z2l n a0 a1) r fun n => z2l.eq_2 a0 a1 n) := evS _ _ fun _ => rfl
theorem zr1 {r} (a0) : type_of% (evS (fun n => z0w n a0) r fun n => z0w.eq_2 a0 n) := evS _ _ fun _ => rfl
theorem zoy {r} (a0) : type_of% (evS (fun n => zzt n a0) r fun n => zzt.eq_2 a0 n) := evS _ _ fun _ => rfl
theorem zcf {r} (a0 a1 a2 a3 a4) : type_of% (evS (fun n => yzw n a0 a1 a2 a3 a4) r fun n => yzw.eq_2 a0 a1 a2 a3 a4 n) := evS _ _ fun _ => rfl
theorem zju {r} (a0 a1) : type_of% (evS (fun n => zzw n a0 a1) r fun n => zzw.eq_2 a0 a1 n) := evS _ _ fun _ => rfl
theorem zxw {r} (a0) : type_of% (evS (fun n => z4o n a0) r fun n => z4o.eq_2 a0 n) := evS _ _ fun _ => rfl
theorem zf9 {r} (a0 a1 a2) : type_of% (evS (fun n => z19 n a0 a1 a2) r fun n => z19.eq_2 a0 a1 a2 n) := evS _ _ fun _ => rfl
theorem zex {r} (a0 a1 a2 a3) : type_of% (evS (fun n => z1o n a0 a1 a2 a3) r fun n => z1o.eq_2 a0 a1 a2 a3 n) := evS _ _ fun _ => rfl
theorem zft {r} (a0 a1 a2 a3) : type_of% (evS (fun n => z1h n a0 a1 a2 a3) r fun n => z1h.eq_2 a0 a1 a2 a3 n) := evS _ _ fun _ => rfl
theorem zp7 {r} (a0) : type_of% (evS (fun n => kzs n a0) r fun n => kzs.eq_2 a0 n) := evS _ _ fun _ => rfl
theorem zsr {r} (a0 a1 a2 a3 a4 a5 a6 a7) : type_of% (evS (fun n => z57 n a0 a1 a2 a3 a4 a5 a6 a7) r fun n => z57.eq_2 a0 a1 a2 a3 a4 a5 a6 a7 n) := evS _ _ fun _ => rfl
theorem zm3 {r} (a0 a1 a2 a3 a4 a5 a6 a7 a8 a9) : type_of% (evS (fun n => z0j n a0 a1 a2 a3 a4 a5 a6 a7 a8 a9) r fun n => z0j.eq_2 a0 a1 a2 a3 a4 a5 a6 a7 a8 a9 n) := evS _ _ fun _ => rfl
theorem y3p {r} (a0 a1) : type_of% (evS (fun n => zzu n a0 a1) r fun n => zzu.eq_2 a0 a1 n) := evS _ _ fun _ => rfl
theorem zqd {r} (a0 a1 a2 a3 a4 a5 a6 a7) : type_of% (evS (fun n => z3y n a0 a1 a2 a3 a4 a5 a6 a7) r fun n => z3y.eq_2 a0 a1 a2 a3 a4 a5 a6 a7 n) := evS _ _ fun _ => rfl
theorem zh7 {r} (a0 a1 a2 a3 a4 a5 a6 a7 a8 a9 a10 a11) : type_of% (evS (fun n => z2u n a0 a1 a2 a3 a4 a5 a6 a7 a8 a9 a10 a11) r fun n => z2u.eq_2 a0 a1 a2 a3 a4 a5 a6 a7 a8 a9 a10 a11 n) := evS _ _ fun _ => rfl
theorem zxb {r} (a0) : type_of% (evS (fun n => z4g n a0) r fun n => z4g.eq_2 a0 n) := evS _ _ fun _ => rfl
theorem za4 {r} (a0 a1) : type_of% (evS (fun n => zzc n a0 a1) r fun n => zzc.eq_2 a0 a1 n) := evS _ _ fun _ => rfl
theorem zkn {r} (a0) : type_of% (evS (fun n => z6g n a0) r fun n => z6g.eq_2 a0 n) := evS _ _ fun _ => rfl
theorem zf8 {r} (a0 a1) : type_of% (evS (fun n => z3g n a0 a1) r fun n => z3g.eq_2 a0 a1 n) := evS _ _ fun _ => rfl
theorem zfr {r} (a0 a1) : type_of% (evS (fun n => yze n a0 a1) r fun n => yze.eq_2 a0 a1 n) := evS _ _ fun _ => rfl
theorem zez {r} (a0 a1) : type_of% (evS (fun n => z1q n a0 a1) r fun n => z1q.eq_2 a0 a1 n) := evS _ _ fun _ => rfl
theorem ztj {r} (a0) : type_of% (evS (fun n => z5g n a0) r fun n => z5g.eq_2 a0 n) := evS _ _ fun _ => rfl
theorem zmg {r} (a0 a1) : type_of% (evS (fun n => z0o n a0 a1) r fun n => z0o.eq_2 a0 a1 n) := evS _ _ fun _ => rfl
theorem zsk {r} (a0) : type_of% (evS (fun n => z5j n a0) r fun n => z5j.eq_2 a0 n) := evS _ _ fun _ => rfl
theorem zka {r} (a0) : type_of% (evS (fun n => z6a n a0) r fun n => z6a.eq_2 a0 n) := evS _ _ fun _ => rfl
theorem zfs {r} (a0 a1 a2) : type_of% (evS (fun n => kze n a0 a1 a2) r fun n => kze.eq_2 a0 a1 a2 n) := evS _ _ fun _ => rfl
theorem zf7 {r} (a0 a1 a2) : type_of% (evS (fun n => z1g n a0 a1 a2) r fun n => z1g.eq_2 a0 a1 a2 n) := evS _ _ fun _ => rfl
theorem zfi {r} (a0 a1 a2) : type_of% (evS (fun n => z1c n a0 a1 a2) r fun n => z1c.eq_2 a0 a1 a2 n) := evS _ _ fun _ => rfl
theorem zey {r} (a0 a1 a2) : type_of% (evS (fun n => z38 n a0 a1 a2) r fun n => z38.eq_2 a0 a1 a2 n) := evS _ _ fun _ => rfl
theorem zf0 {r} : type_of% (evS (fun n => z3e n) r fun n => z3e.eq_2 n) := evS _ _ fun _ => rfl
theorem zfd {r} (a0) : type_of% (evS (fun n => zzm n a0) r fun n => zzm.eq_2 a0 n) := evS _ _ fun _ => rfl
theorem zyp {r} (a0 a1) : type_of% (evS (fun n => zzs n a0 a1) r fun n => zzs.eq_2 a0 a1 n) := evS _ _ fun _ => rfl
theorem zfg {r} (a0 a1 a2) : type_of% (evS (fun n => yzl n a0 a1 a2) r fun n => yzl.eq_2 a0 a1 a2 n) := evS _ _ fun _ => rfl
theorem zfu {r} (a0 a1 a2 a3) : type_of% (evS (fun n => z1s n a0 a1 a2 a3) r fun n => z1s.eq_2 a0 a1 a2 a3 n) := evS _ _ fun _ => rfl
theorem z6l {r} (a0) : type_of% (evS (fun n => zz8 n a0) r fun n => zz8.eq_2 a0 n) := evS _ _ fun _ => rfl
theorem zvg {r} (a0) : type_of% (evS (fun n => z0e n a0) r fun n => z0e.eq_2 a0 n) := evS _ _ fun _ => rfl
theorem znb {r} (a0) : type_of% (evS (fun n => kzp n a0) r fun n => kzp.eq_2 a0 n) := evS _ _ fun _ => rfl
theorem ycr {r} (a0) : type_of% (evS (fun n => z6y n a0) r fun n => z6y.eq_2 a0 n) := evS _ _ fun _ => rfl
theorem zhr {r} (a0 a1 a2 a3 a4 a5 a6 a7 a8 a9 a10 a11 a12 a13 a14 a15 a16 a17 a18 a19 a20) : type_of% (evS (fun n => z3o n a0 a1 a2 a3 a4 a5 a6 a7 a8 a9 a10 a11 a12 a13 a14 a15 a16 a17 a18 a19 a20) r fun n => z3o.eq_2 a0 a1 a2 a3 a4 a5 a6 a7 a8 a9 a10 a11 a12 a13 a14 a15 a16 a17 a18 a19 a20 n) := evS _ _ fun _ => rfl
theorem z8a {r} (a0 a1 a2 a3 a4 a5 a6 a7 a8 a9) : type_of% (evS (fun n => yz9 n a0 a1 a2 a3 a4 a5 a6 a7 a8 a9) r fun n => yz9.eq_2 a0 a1 a2 a3 a4 a5 a6 a7 a8 a9 n) := evS _ _ fun _ => rfl
theorem kzn {r} (a0 a1 a2 a3 a4 a5 a6 a7 a8 a9 a10 a11) : type_of% (evS (fun n => zz6 n a0 a1 a2 a3 a4 a5 a6 a7 a8 a9 a10 a11) r fun n => zz6.eq_2 a0 a1 a2 a3 a4 a5 a6 a7 a8 a9 a10 a11 n) := evS _ _ fun _ => rfl
theorem zmb {r} (a0) : type_of% (evS (fun n => yzg n a0) r fun n => yzg.eq_2 a0 n) := evS _ _ fun _ => rfl
theorem y3l {r} (a0 a1) : type_of% (evS (fun n => zzd n a0 a1) r fun n => zzd.eq_2 a0 a1 n) := evS _ _ fun _ => rfl
theorem zh3 {r} (a0 a1 a2 a3) : type_of% (evS (fun n => z2q n a0 a1 a2 a3) r fun n => z2q.eq_2 a0 a1 a2 a3 n) := evS _ _ fun _ => rfl
theorem zqt {r} (a0 a1 a2 a3) : type_of% (evS (fun n => z44 n a0 a1 a2 a3) r fun n => z44.eq_2 a0 a1 a2 a3 n) := evS _ _ fun _ => rfl
theorem zef {r} (a0 a1) : type_of% (evS (fun n => z1v n a0 a1) r fun n => z1v.eq_2 a0 a1 n) := evS _ _ fun _ => rfl
theorem z7p {r} (a0 a1 a2 a3 a4) : type_of% (evS (fun n => z06 n a0 a1 a2 a3 a4) r fun n => z06.eq_2 a0 a1 a2 a3 a4 n) := evS _ _ fun _ => rfl
theorem zo5 {r} (a0 a1 a2) : type_of% (evS (fun n => z11 n a0 a1 a2) r fun n => z11.eq_2 a0 a1 a2 n) := evS _ _ fun _ => rfl
theorem zod {r} (a0 a1) : type_of% (evS (fun n => z3d n a0 a1) r fun n => z3d.eq_2 a0 a1 n) := evS _ _ fun _ => rfl
theorem zre {r} (a0) : type_of% (evS (fun n => z0x n a0) r fun n => z0x.eq_2 a0 n) := evS _ _ fun _ => rfl
theorem zd4 {r} (a0 a1 a2 a3 a4 a5 a6 a7 a8 a9 a10) : type_of% (evS (fun n => kzz n a0 a1 a2 a3 a4 a5 a6 a7 a8 a9 a10) r fun n => kzz.eq_2 a0 a1 a2 a3 a4 a5 a6 a7 a8 a9 a10 n) := evS _ _ fun _ => rfl
theorem zbz {r} (a0 a1) : type_of% (evS (fun n => kzd n a0 a1) r fun n => kzd.eq_2 a0 a1 n) := evS _ _ fun _ => rfl
theorem z0l {r} (a0 a1 a2 a3) : type_of% (evS (fun n => kz9 n a0 a1 a2 a3) r fun n => kz9.eq_2 a0 a1 a2 a3 n) := evS _ _ fun _ => rfl
theorem y0b {r} (a0) : type_of% (evS (fun n => z4k n a0) r fun n => z4k.eq_2 a0 n) := evS _ _ fun _ => rfl
theorem zaw {r} (a0 a1 a2) : type_of% (evS (fun n => z1l n a0 a1 a2) r fun n => z1l.eq_2 a0 a1 a2 n) := evS _ _ fun _ => rfl
theorem zb8 {r} (a0 a1 a2 a3) : type_of% (evS (fun n => z1m n a0 a1 a2 a3) r fun n => z1m.eq_2 a0 a1 a2 a3 n) := evS _ _ fun _ => rfl
theorem y0h {r} (a0) : type_of% (evS (fun n => z4l n a0) r fun n => z4l.eq_2 a0 n) := evS _ _ fun _ => rfl
theorem zfa {r} (a0 a1) : type_of% (evS (fun n => yzn n a0 a1) r fun n => yzn.eq_2 a0 a1 n) := evS _ _ fun _ => rfl
theorem zfv {r} (a0 a1) : type_of% (evS (fun n => z17 n a0 a1) r fun n => z17.eq_2 a0 a1 n) := evS _ _ fun _ => rfl
theorem zff {r} (a0 a1 a2) : type_of% (evS (fun n => z1a n a0 a1 a2) r fun n => z1a.eq_2 a0 a1 a2 n) := evS _ _ fun _ => rfl
theorem zfe {r} (a0 a1) : type_of% (evS (fun n => kzu n a0 a1) r fun n => kzu.eq_2 a0 a1 n) := evS _ _ fun _ => rfl
theorem zfo {r} (a0 a1) : type_of% (evS (fun n => z1b n a0 a1) r fun n => z1b.eq_2 a0 a1 n) := evS _ _ fun _ => rfl
theorem zx4 {r} (a0) : type_of% (evS (fun n => z6d n a0) r fun n => z6d.eq_2 a0 n) := evS _ _ fun _ => rfl
theorem zg7 {r} (a0 a1) : type_of% (evS (fun n => zzi n a0 a1) r fun n => zzi.eq_2 a0 a1 n) := evS _ _ fun _ => rfl
theorem zfj {r} (a0 a1 a2) : type_of% (evS (fun n => kzl n a0 a1 a2) r fun n => kzl.eq_2 a0 a1 a2 n) := evS _ _ fun _ => rfl
theorem z86 {r} (a0) : type_of% (evS (fun n => zz9 n a0) r fun n => zz9.eq_2 a0 n) := evS _ _ fun _ => rfl
theorem zzo {r} (a0 a1 a2) : type_of% (evS (fun n => kz5 n a0 a1 a2) r fun n => kz5.eq_2 a0 a1 a2 n) := evS _ _ fun _ => rfl
theorem zx5 {r} (a0) : type_of% (evS (fun n => z23 n a0) r fun n => z23.eq_2 a0 n) := evS _ _ fun _ => rfl
theorem y6v {r} (a0 a1) : type_of% (evS (fun n => z5q n a0 a1) r fun n => z5q.eq_2 a0 a1 n) := evS _ _ fun _ => rfl
theorem zrg {r} (a0 a1) : type_of% (evS (fun n => z2v n a0 a1) r fun n => z2v.eq_2 a0 a1 n) := evS _ _ fun _ => rfl
theorem ztb {r} (a0 a1 a2 a3 a4 a5 a6 a7 a8 a9) : type_of% (evS (fun n => z5a n a0 a1 a2 a3 a4 a5 a6 a7 a8 a9) r fun n => z5a.eq_2 a0 a1 a2 a3 a4 a5 a6 a7 a8 a9 n) := evS _ _ fun _ => rfl
theorem y7g {r} (a0 a1) : type_of% (evS (fun n => z7u n a0 a1) r fun n => z7u.eq_2 a0 a1 n) := evS _ _ fun _ => rfl
theorem zrf {r} (a0 a1 a2 a3 a4 a5 a6 a7 a8 a9 a10 a11) : type_of% (evS (fun n => z0u n a0 a1 a2 a3 a4 a5 a6 a7 a8 a9 a10 a11) r fun n => z0u.eq_2 a0 a1 a2 a3 a4 a5 a6 a7 a8 a9 a10 a11 n) := evS _ _ fun _ => rfl
theorem y7j {r} (a0 a1) : type_of% (evS (fun n => z7n n a0 a1) r fun n => z7n.eq_2 a0 a1 n) := evS _ _ fun _ => rfl
theorem zsl {r} (a0 a1) : type_of% (evS (fun n => yzr n a0 a1) r fun n => yzr.eq_2 a0 a1 n) := evS _ _ fun _ => rfl
theorem y79 {r} (a0 a1) : type_of% (evS (fun n => z83 n a0 a1) r fun n => z83.eq_2 a0 a1 n) := evS _ _ fun _ => rfl
theorem y4h {r} (a0 a1) : type_of% (evS (fun n => z7w n a0 a1) r fun n => z7w.eq_2 a0 a1 n) := evS _ _ fun _ => rfl
theorem zxg {r} (a0) : type_of% (evS (fun n => yzs n a0) r fun n => yzs.eq_2 a0 n) := evS _ _ fun _ => rfl
theorem znp {r} (a0 a1) : type_of% (evS (fun n => z3b n a0 a1) r fun n => z3b.eq_2 a0 a1 n) := evS _ _ fun _ => rfl
theorem ztx {r} (a0) : type_of% (evS (fun n => z4z n a0) r fun n => z4z.eq_2 a0 n) := evS _ _ fun _ => rfl
theorem zwd {r} (a0 a1) : type_of% (evS (fun n => z0c n a0 a1) r fun n => z0c.eq_2 a0 a1 n) := evS _ _ fun _ => rfl
theorem zg8 {r} (a0 a1 a2 a3 a4 a5) : type_of% (evS (fun n => z1f n a0 a1 a2 a3 a4 a5) r fun n => z1f.eq_2 a0 a1 a2 a3 a4 a5 n) := evS _ _ fun _ => rfl
theorem zop {r} (a0 a1) : type_of% (evS (fun n => z1n n a0 a1) r fun n => z1n.eq_2 a0 a1 n) := evS _ _ fun _ => rfl
theorem y3d {r} (a0) : type_of% (evS (fun n => z47 n a0) r fun n => z47.eq_2 a0 n) := evS _ _ fun _ => rfl
theorem y9h {r} (a0 a1) : type_of% (evS (fun n => z9p n a0 a1) r fun n => z9p.eq_2 a0 a1 n) := evS _ _ fun _ => rfl
theorem ziw {r} (a0 a1 a2 a3) : type_of% (evS (fun n => z3p n a0 a1 a2 a3) r fun n => z3p.eq_2 a0 a1 a2 a3 n) := evS _ _ fun _ => rfl
theorem zto {r} (a0) : type_of% (evS (fun n => z52 n a0) r fun n => z52.eq_2 a0 n) := evS _ _ fun _ => rfl
theorem zlz {r} (a0) : type_of% (evS (fun n => yzj n a0) r fun n => yzj.eq_2 a0 n) := evS _ _ fun _ => rfl
theorem zr4 {r} (a0) : type_of% (evS (fun n => z3x n a0) r fun n => z3x.eq_2 a0 n) := evS _ _ fun _ => rfl
theorem zs5 {r} (a0) : type_of% (evS (fun n => z5h n a0) r fun n => z5h.eq_2 a0 n) := evS _ _ fun _ => rfl
theorem zur {r} (a0) : type_of% (evS (fun n => z50 n a0) r fun n => z50.eq_2 a0 n) := evS _ _ fun _ => rfl
theorem y00 {r} (a0 a1) : type_of% (evS (fun n => z4n n a0 a1) r fun n => z4n.eq_2 a0 a1 n) := evS _ _ fun _ => rfl
theorem y4o {r} (a0 a1) : type_of% (evS (fun n => z7k n a0 a1) r fun n => z7k.eq_2 a0 a1 n) := evS _ _ fun _ => rfl
theorem zoc {r} (a0) : type_of% (evS (fun n => z15 n a0) r fun n => z15.eq_2 a0 n) := evS _ _ fun _ => rfl
theorem zn7 {r} (a0 a1) : type_of% (evS (fun n => z84 n a0 a1) r fun n => z84.eq_2 a0 a1 n) := evS _ _ fun _ => rfl
theorem zh4 {r} (a0 a1) : type_of% (evS (fun n => z41 n a0 a1) r fun n => z41.eq_2 a0 a1 n) := evS _ _ fun _ => rfl
theorem zhd {r} (a0 a1) : type_of% (evS (fun n => z42 n a0 a1) r fun n => z42.eq_2 a0 a1 n) := evS _ _ fun _ => rfl
theorem ztr {r} (a0 a1) : type_of% (evS (fun n => z2f n a0 a1) r fun n => z2f.eq_2 a0 a1 n) := evS _ _ fun _ => rfl
theorem ze2 {r} (a0 a1 a2 a3 a4) : type_of% (evS (fun n => kzw n a0 a1 a2 a3 a4) r fun n => kzw.eq_2 a0 a1 a2 a3 a4 n) := evS _ _ fun _ => rfl
theorem zsa {r} (a0 a1) : type_of% (evS (fun n => z56 n a0 a1) r fun n => z56.eq_2 a0 a1 n) := evS _ _ fun _ => rfl
theorem zlx {r} (a0) : type_of% (evS (fun n => z0g n a0) r fun n => z0g.eq_2 a0 n) := evS _ _ fun _ => rfl
theorem zr0 {r} (a0 a1) : type_of% (evS (fun n => z3w n a0 a1) r fun n => z3w.eq_2 a0 a1 n) := evS _ _ fun _ => rfl
theorem zlg {r} (a0 a1) : type_of% (evS (fun n => z02 n a0 a1) r fun n => z02.eq_2 a0 a1 n) := evS _ _ fun _ => rfl
theorem zh6 {r} (a0 a1) : type_of% (evS (fun n => z3z n a0 a1) r fun n => z3z.eq_2 a0 a1 n) := evS _ _ fun _ => rfl
theorem zlv {r} (a0) : type_of% (evS (fun n => z1r n a0) r fun n => z1r.eq_2 a0 n) := evS _ _ fun _ => rfl
theorem zat {r} (a0 a1 a2 a3 a4 a5 a6 a7 a8 a9 a10) : type_of% (evS (fun n => yzo n a0 a1 a2 a3 a4 a5 a6 a7 a8 a9 a10) r fun n => yzo.eq_2 a0 a1 a2 a3 a4 a5 a6 a7 a8 a9 a10 n) := evS _ _ fun _ => rfl
theorem zys {r} (a0 a1) : type_of% (evS (fun n => yzy n a0 a1) r fun n => yzy.eq_2 a0 a1 n) := evS _ _ fun _ => rfl
theorem zvs {r} (a0 a1) : type_of% (evS (fun n => z5l n a0 a1) r fun n => z5l.eq_2 a0 a1 n) := evS _ _ fun _ => rfl
theorem zmu {r} (a0 a1 a2) : type_of% (evS (fun n => zzq n a0 a1 a2) r fun n => zzq.eq_2 a0 a1 a2 n) := evS _ _ fun _ => rfl
theorem zsy {r} (a0 a1) : type_of% (evS (fun n => z5d n a0 a1) r fun n => z5d.eq_2 a0 a1 n) := evS _ _ fun _ => rfl
theorem zsc {r} (a0 a1) : type_of% (evS (fun n => z5i n a0 a1) r fun n => z5i.eq_2 a0 a1 n) := evS _ _ fun _ => rfl
theorem y7p {r} (a0 a1) : type_of% (evS (fun n => z7s n a0 a1) r fun n => z7s.eq_2 a0 a1 n) := evS _ _ fun _ => rfl
theorem zla {r} (a0 a1) : type_of% (evS (fun n => z1d n a0 a1) r fun n => z1d.eq_2 a0 a1 n) := evS _ _ fun _ => rfl
theorem zuh {r} (a0 a1) : type_of% (evS (fun n => z5c n a0 a1) r fun n => z5c.eq_2 a0 a1 n) := evS _ _ fun _ => rfl
theorem zk2 {r} (a0) : type_of% (evS (fun n => z0s n a0) r fun n => z0s.eq_2 a0 n) := evS _ _ fun _ => rfl
theorem z5u {r} (a0 a1 a2 a3) : type_of% (evS (fun n => yzt n a0 a1 a2 a3) r fun n => yzt.eq_2 a0 a1 a2 a3 n) := evS _ _ fun _ => rfl
theorem zic {r} (a0 a1) : type_of% (evS (fun n => z05 n a0 a1) r fun n => z05.eq_2 a0 a1 n) := evS _ _ fun _ => rfl
theorem zlf {r} (a0) : type_of% (evS (fun n => z01 n a0) r fun n => z01.eq_2 a0 n) := evS _ _ fun _ => rfl
end Go.Proofs.YtfhpamcehnfhoaaGreatDoor


namespace Go.Proofs.YtfhpamcehnfhoaaGreatDoor
open Go Go.Ab
set_option linter.unusedVariables false
theorem zgb {α : Type} {x y : List α} (h : x.length + y.length ≤ 268435456) : ext x y = some (x ++ y) := by unfold ext; rw [if_pos (by simpa [z78] using h)]
set_option linter.unusedSimpArgs false
def I64 (x : Int) : Prop := -9223372036854775808 ≤ x ∧ x ≤ 9223372036854775807
theorem zge {x : Int} (h : I64 x) : Ev (fun n => z23 n x) (x.natAbs : Int) := by
 unfold I64 at h
 rw [zx5]
 simp only [Ev.pif, Ev.yz0, decide_eq_true_eq]
 split
 ·rw [wUn (x := x) (by omega), wUn (by omega)]; omega
 ·rw [wU (by omega)]; omega
theorem ydo : ∀ (b a : Nat), Ev (fun n => z2v n (b : Int) (a : Int)) (Nat.gcd a b : Int) := by
 intro b
 induction b using Nat.strongRecOn with
 | ind b ih =>
   intro a
   rw [zrg]
   by_cases hb : b = 0
   · subst hb
     simp [Ev.pif, Ev.yz0]
   · have hm : rem .u64 (a : Int) (b : Int) = some ((a % b : Nat) : Int) := by
       unfold rem; rw [if_neg (by omega), Int.tmod_eq_emod_of_nonneg (by omega)]; simp
     rw [Ev.kz2 (by simpa using hb), Ev.zz4 hm]
     have := ih (a % b) (Nat.mod_lt _ (by omega)) b
     rw [Nat.gcd_comm a b, Nat.gcd_rec b a, Nat.gcd_comm]
     exact this
theorem y1t {a b : Nat} : Ev (fun n => z5q n (a : Int) (b : Int)) (Nat.gcd a b : Int) := by
 rw [y6v]; exact ydo b a
def rok (r : yz1) : Bool := decide (1 ≤ r.den) && decide (r.den ≤ 1000000000) && decide (r.num.natAbs ≤ 1000000000) && (Nat.gcd r.num.natAbs r.den.natAbs == 1)
theorem z6o {r : yz1} : rok r = true ↔ 1 ≤ r.den ∧ r.den ≤ 1000000000 ∧ r.num.natAbs ≤ 1000000000 ∧ Nat.gcd r.num.natAbs r.den.natAbs = 1 := by
 simp [rok, and_assoc]
theorem ze5 {r : yz1} (h : I64 r.num) : Ev (fun n => z0e n r) (if rok r then 0 else 8) := by
 have l0 : ∀ b, Ev (fun n => kzp n b) (if b then 8 else 0) := fun b => by
  rw [znb]; cases b <;> simp [Ev.pif, Ev.yz0]
 rw [zvg]
 simp only [Ev.pif, decide_eq_true_eq]
 split
 ·refine (l0 _).to ?_; rw [if_pos rfl, if_neg]; rw [z6o]; omega
 split
 ·refine (l0 _).to ?_; rw [if_pos rfl, if_neg]; rw [z6o]; omega
 rw [Ev.kz0 (zge h)]
 simp only [Ev.pif, decide_eq_true_eq]
 split
 ·refine (l0 _).to ?_; rw [if_pos rfl, if_neg]; rw [z6o]; omega
 rw [Ev.kz0 (zge h), wU (by omega)]
 have hd : r.den = (r.den.natAbs : Int) := by omega
 rw [hd, Ev.kz0 y1t]
 refine (l0 _).to ?_
 have : ((((Nat.gcd r.num.natAbs r.den.natAbs : Nat) : Int) != 1) = true) ↔ ¬ rok r = true := by
  rw [z6o]
  simp only [bne_iff_ne, ne_eq]
  omega
 by_cases hr : rok r = true
 ·rw [if_neg (by rw [this]; simpa using hr), if_pos hr]
 ·rw [if_pos (by rw [this]; exact hr), if_neg hr]
theorem yjp (a b : Int) : Nat.gcd a.natAbs b.natAbs = Nat.gcd b.natAbs (a.tmod b).natAbs := by
 rw [Int.natAbs_tmod, Nat.gcd_comm a.natAbs, Nat.gcd_rec b.natAbs a.natAbs, Nat.gcd_comm]
theorem y0i : ∀ (m : Nat) (b a : Int), b.natAbs = m → I64 a → I64 b → ¬ a = -9223372036854775808 → ¬ b = -9223372036854775808 → Ev (fun n => z02 n b a) (Nat.gcd a.natAbs b.natAbs : Int) := by
 intro m
 induction m using Nat.strongRecOn with
 | ind m ih =>
   intro b a hm ha hb ha0 hb0
   unfold I64 at ha hb
   rw [zlg]
   by_cases h0 : b = 0
   · subst h0
     simp only [Ev.pif, Ev.yz0, decide_eq_true_eq]
     rw [if_neg (by simp)]
     split
     · rw [wI (by omega)]; simp; omega
     · simp; omega
   · have hr : rem .i64 a b = some (a.tmod b) := by unfold rem; rw [if_neg h0]
     have h1 : (a.tmod b).natAbs < b.natAbs := by rw [Int.natAbs_tmod]; exact Nat.mod_lt _ (by omega)
     rw [Ev.kz2 (by simpa using h0), Ev.zz4 hr]
     have := ih _ (by rw [← hm]; exact h1) (a.tmod b) b rfl hb (by unfold I64; omega) hb0 (by omega)
     rw [yjp a b]
     exact this
theorem y7q {a b : Int} (ha : I64 a) (hb : I64 b) (ha0 : ¬ a = -9223372036854775808) (hb0 : ¬ b = -9223372036854775808) : Ev (fun n => z3w n a b) (Nat.gcd a.natAbs b.natAbs : Int) := by
 rw [zr0]; exact y0i _ b a rfl ha hb ha0 hb0
theorem ybi {r : yz1} : Ev (fun n => z52 n r) (if rok r then 0 else 8) := by
 have l0 : ∀ b, Ev (fun n => yzj n b) (if b then 8 else 0) := fun b => by
  rw [zlz]; cases b <;> simp [Ev.pif, Ev.yz0]
 rw [zto]
 simp only [Ev.pif, decide_eq_true_eq]
 split
 ·refine (l0 _).to ?_; rw [if_pos rfl, if_neg]; rw [z6o]; omega
 split
 ·refine (l0 _).to ?_; rw [if_pos rfl, if_neg]; rw [z6o]; omega
 split
 ·refine (l0 _).to ?_; rw [if_pos rfl, if_neg]; rw [z6o]; omega
 split
 ·refine (l0 _).to ?_; rw [if_pos rfl, if_neg]; rw [z6o]; omega
 rw [Ev.kz0 (y7q (by unfold I64; omega) (by unfold I64; omega) (by omega) (by omega))]
 refine (l0 _).to ?_
 have : ((((Nat.gcd r.num.natAbs r.den.natAbs : Nat) : Int) != 1) = true) ↔ ¬ rok r = true := by
  rw [z6o]
  simp only [bne_iff_ne, ne_eq]
  omega
 by_cases hr : rok r = true
 ·rw [if_neg (by rw [this]; simpa using hr), if_pos hr]
 ·rw [if_pos (by rw [this]; exact hr), if_neg hr]
def zku (num den : Int) : Int × yz1 :=
 if den = 0 then (18, ⟨0, 0⟩) else
 if num.natAbs / Nat.gcd num.natAbs den.natAbs ≤ 1000000000 ∧ den.natAbs / Nat.gcd num.natAbs den.natAbs ≤ 1000000000 then
  (0, ⟨if decide (num < 0) = decide (den < 0) then ((num.natAbs / Nat.gcd num.natAbs den.natAbs : Nat) : Int) else -((num.natAbs / Nat.gcd num.natAbs den.natAbs : Nat) : Int), ((den.natAbs / Nat.gcd num.natAbs den.natAbs : Nat) : Int)⟩)
 else (16, ⟨0, 0⟩)
theorem yfr {k : IntKind} {a b : Nat} (hk : ∀ c : Nat, c ≤ a → k.wrap (c : Int) = c) (hb : b ≠ 0) : quo k (a : Int) (b : Int) = some ((a / b : Nat) : Int) := by
 unfold quo
 rw [if_neg (by omega), Int.tdiv_eq_ediv_of_nonneg (by omega), ← Int.natCast_ediv, hk _ (Nat.div_le_self _ _)]
theorem zln {num den : Int} (hn : I64 num) (hd : I64 den) : Ev (fun n => z0c n num den) (zku num den) := by
 have l1 : ∀ a b, Ev (fun n => z1n n a b) (0, b) := fun a b => by rw [zop]; exact Ev.yz0.2 rfl
 unfold I64 at hn hd
 rw [zwd]
 unfold zku
 by_cases h0 : den = 0
 ·rw [Ev.kz2 (by simpa using h0), Ev.yz0, if_pos h0]
 rw [Ev.yz2 (by simpa using h0), Ev.kz0 (zge hn), Ev.kz0 (zge hd), Ev.kz0 y1t, if_neg h0]
 have hg : Nat.gcd num.natAbs den.natAbs ≠ 0 := fun h => by have := (Nat.gcd_eq_zero_iff.1 h).2; omega
 rw [Ev.zz4 (yfr (fun c hc => wU (by omega)) hg), Ev.zz4 (yfr (fun c hc => wU (by omega)) hg)]
 have hln : num.natAbs / Nat.gcd num.natAbs den.natAbs ≤ num.natAbs := Nat.div_le_self _ _
 have hld : den.natAbs / Nat.gcd num.natAbs den.natAbs ≤ den.natAbs := Nat.div_le_self _ _
 generalize num.natAbs / Nat.gcd num.natAbs den.natAbs = p at hln ⊢
 generalize den.natAbs / Nat.gcd num.natAbs den.natAbs = q at hld ⊢
 have bad : ∀ b, b = true → ¬ (p ≤ 1000000000 ∧ q ≤ 1000000000) → Ev (fun n => z1f n den num (q : Int) (p : Int) b ⟨0, 0⟩) (if p ≤ 1000000000 ∧ q ≤ 1000000000 then (0, (⟨if decide (num < 0) = decide (den < 0) then (p : Int) else -(p : Int), (q : Int)⟩ : yz1)) else (16, ⟨0, 0⟩)) := fun b hb h => by
  rw [zg8, Ev.kz2 hb, Ev.yz0, if_neg h]
 simp only [Ev.pif, decide_eq_true_eq]
 split
 ·exact bad _ rfl (by omega)
 by_cases hq : q ≤ 1000000000
 ·rw [zg8, Ev.yz2 (by simpa using (by omega : (q : Int) ≤ 1000000000)), if_pos ⟨by omega, hq⟩]
  rw [wI (x := (p : Int)) (by omega), wI (x := (q : Int)) (by omega), wI (by omega)]
  simp only [Ev.pif]
  cases h1 : decide (num < 0) <;> cases h2 : decide (den < 0) <;> (simp; exact l1 _ _)
 ·exact bad _ (by simp; omega) (by omega)
theorem ykn {num den : Int} (h : (zku num den).1 = 0) : rok (zku num den).2 = true := by
 unfold zku at h ⊢
 split at h
 ·cases h
 ·rename_i h0
  split at h
  ·rename_i hc
   rw [if_neg h0, if_pos hc, z6o]
   have hgp : 0 < Nat.gcd num.natAbs den.natAbs := Nat.gcd_pos_of_pos_right _ (by omega)
   have hco : Nat.gcd (num.natAbs / Nat.gcd num.natAbs den.natAbs) (den.natAbs / Nat.gcd num.natAbs den.natAbs) = 1 := (by rw [Nat.gcd_div (Nat.gcd_dvd_left _ _) (Nat.gcd_dvd_right _ _), Nat.div_self hgp])
   have hq : 1 ≤ den.natAbs / Nat.gcd num.natAbs den.natAbs := (Nat.one_le_div_iff hgp).2 (Nat.le_of_dvd (by omega) (Nat.gcd_dvd_right _ _))
   generalize num.natAbs / Nat.gcd num.natAbs den.natAbs = p at hco hc ⊢
   generalize den.natAbs / Nat.gcd num.natAbs den.natAbs = q at hco hc hq ⊢
   refine ⟨by simp; omega, by simp; omega, ?_, ?_⟩
   ·simp only; split <;> omega
   ·simp only
    split
    ·simpa using hco
    ·rw [Int.natAbs_neg]; simpa using hco
  ·cases h
end Go.Proofs.YtfhpamcehnfhoaaGreatDoor


namespace Go.Proofs.YtfhpamcehnfhoaaGreatDoor
open Go Go.Ab
set_option linter.unusedVariables false
set_option linter.unusedSimpArgs false
theorem ylh {x y : Int} : Ev (fun n => z0s n [x, y]) (if x = 0 then y else x) := by
 rw [zk2, z5u, Ev.kz2 (by rfl), Ev.zz4 (show ix [x, y] 0 = some x from rfl)]
 by_cases hx : x = 0
 ·subst hx
  rw [Ev.yz2 (by simp), if_pos rfl, z5u, Ev.kz2 (by rfl), Ev.zz4 (show ix [0, y] (IntKind.i64.wrap (0 + 1)) = some y from rfl)]
  by_cases hy : y = 0
  ·subst hy
   rw [Ev.yz2 (by simp), z5u, Ev.yz2 (by rfl), Ev.yz0]
  ·rw [Ev.kz2 (by simpa using hy), Ev.yz0]
 ·rw [Ev.kz2 (by simpa using hx), Ev.yz0, if_neg hx]
def wfR (r : yz1) : Prop := I64 r.num ∧ I64 r.den
theorem y1s {r : yz1} (h : rok r = true) : wfR r := by
 rw [z6o] at h; unfold wfR I64; omega
theorem yb1 {a b : yz1} (ha : wfR a) (hb : wfR b) : Ev (fun n => yzy n a b) ⟨a, b, ⟨0, 0⟩, if rok a && rok b then 0 else 8⟩ := by
 rw [zys, Ev.kz0 (ze5 ha.1), Ev.kz0 (ze5 hb.1), Ev.kz0 ylh, Ev.yz0]
 cases rok a <;> cases rok b <;> rfl
theorem z5m {a b : yz1} (ha : wfR a) (hb : wfR b) {k : Int} (hk : k = if rok a && rok b then 0 else 8) : Ev (fun n => yzy n a b) ⟨a, b, ⟨0, 0⟩, k⟩ := by subst hk; exact yb1 ha hb
def z7y (f : yz1 → yz1 → Int × Int) (a b : yz1) : Int × yz1 := if rok a && rok b then zku (f a b).1 (f a b).2 else (8, ⟨0, 0⟩)
def zr6 (a b : yz1) : Int × Int := (a.num * b.den + b.num * a.den, a.den * b.den)
def ydh (a b : yz1) : Int × Int := (a.num * b.den - b.num * a.den, a.den * b.den)
def yen (a b : yz1) : Int × Int := (a.num * b.num, a.den * b.den)
def fdiv (a b : yz1) : Int × Int := (a.num * b.den, a.den * b.num)
theorem zhb {x y : Int} (hx : -1000000000 ≤ x ∧ x ≤ 1000000000) (hy : -1000000000 ≤ y ∧ y ≤ 1000000000) : -1000000000000000000 ≤ x * y ∧ x * y ≤ 1000000000000000000 := by
 have h : (x * y).natAbs ≤ 1000000000 * 1000000000 := by
  rw [Int.natAbs_mul]; exact Nat.mul_le_mul (by omega) (by omega)
 omega
theorem zh1 {r : yz1} (h : rok r = true) : (-1000000000 ≤ r.num ∧ r.num ≤ 1000000000) ∧ (-1000000000 ≤ r.den ∧ r.den ≤ 1000000000) ∧ 1 ≤ r.den := by
 rw [z6o] at h; omega
theorem zmw {num den : Int} {c : yzx} (hn : I64 num) (hd : I64 den) (he : c.e = 0) : Ev (fun n => zzq n num den c) ⟨c.a, c.b, (zku num den).2, (zku num den).1⟩ := by
 rw [zmu, Ev.kz2 (by simp [he]), Ev.kz0 (zln hn hd), Ev.yz0]
theorem y71 {a b : yz1} (ha : wfR a) (hb : wfR b) : Ev (fun n => z3z n a b) ((z7y zr6 a b).2, (z7y zr6 a b).1) := by
 unfold z7y
 cases h : rok a && rok b
 ·rw [zh6, Ev.kz0 (z5m ha hb (k := 8) (by rw [h]; rfl))]
  simp [Ev.pif, Ev.yz0, kz8]
 ·simp only [Bool.and_eq_true] at h
  obtain ⟨a1, a2, _⟩ := zh1 h.1
  obtain ⟨b1, b2, _⟩ := zh1 h.2
  have m1 := zhb a1 b2; have m2 := zhb b1 a2; have m3 := zhb a2 b2
  rw [zh6, Ev.kz0 (z5m ha hb (k := 0) (by rw [h.1, h.2]; rfl))]
  have hf : Ev (fun n => z5c n a b) (zr6 a b) := by
   rw [zuh, Ev.yz0, wI (x := a.num * b.den) (by omega), wI (x := b.num * a.den) (by omega), wI (by omega), wI (by omega)]; rfl
  rw [Ev.kz2 (by rfl), Ev.kz0 hf, Ev.kz0 (zmw (by unfold I64 zr6; simp only; omega) (by unfold I64 zr6; simp only; omega) rfl)]
  simp [Ev.yz0, kz8]
theorem ygw {a b : yz1} (ha : wfR a) (hb : wfR b) : Ev (fun n => z84 n a b) ((z7y ydh a b).2, (z7y ydh a b).1) := by
 unfold z7y
 cases h : rok a && rok b
 ·rw [zn7, Ev.kz0 (z5m ha hb (k := 8) (by rw [h]; rfl))]
  simp [Ev.pif, Ev.yz0, kz8]
 ·simp only [Bool.and_eq_true] at h
  obtain ⟨a1, a2, _⟩ := zh1 h.1
  obtain ⟨b1, b2, _⟩ := zh1 h.2
  have m1 := zhb a1 b2; have m2 := zhb b1 a2; have m3 := zhb a2 b2
  rw [zn7, Ev.kz0 (z5m ha hb (k := 0) (by rw [h.1, h.2]; rfl))]
  have hf : Ev (fun n => z5l n a b) (ydh a b) := by
   rw [zvs, Ev.yz0, wI (x := a.num * b.den) (by omega), wI (x := b.num * a.den) (by omega), wI (by omega), wI (by omega)]; rfl
  rw [Ev.kz2 (by rfl), Ev.kz0 hf, Ev.kz0 (zmw (by unfold I64 ydh; simp only; omega) (by unfold I64 ydh; simp only; omega) rfl)]
  simp [Ev.yz0, kz8]
theorem y5i {a b : yz1} (ha : wfR a) (hb : wfR b) : Ev (fun n => z41 n a b) ((z7y yen a b).2, (z7y yen a b).1) := by
 unfold z7y
 cases h : rok a && rok b
 ·rw [zh4, Ev.kz0 (z5m ha hb (k := 8) (by rw [h]; rfl))]
  simp [Ev.pif, Ev.yz0, kz8]
 ·simp only [Bool.and_eq_true] at h
  obtain ⟨a1, a2, _⟩ := zh1 h.1
  obtain ⟨b1, b2, _⟩ := zh1 h.2
  have m1 := zhb a1 b1; have m3 := zhb a2 b2
  rw [zh4, Ev.kz0 (z5m ha hb (k := 0) (by rw [h.1, h.2]; rfl))]
  have hf : Ev (fun n => z5d n a b) (yen a b) := by
   rw [zsy, Ev.yz0, wI (by omega), wI (by omega)]; rfl
  rw [Ev.kz2 (by rfl), Ev.kz0 hf, Ev.kz0 (zmw (by unfold I64 yen; simp only; omega) (by unfold I64 yen; simp only; omega) rfl)]
  simp [Ev.yz0, kz8]
theorem y7k {a b : yz1} (ha : wfR a) (hb : wfR b) : Ev (fun n => z42 n a b) ((z7y fdiv a b).2, (z7y fdiv a b).1) := by
 unfold z7y
 cases h : rok a && rok b
 ·rw [zhd, Ev.kz0 (z5m ha hb (k := 8) (by rw [h]; rfl))]
  simp [Ev.pif, Ev.yz0, kz8]
 ·simp only [Bool.and_eq_true] at h
  obtain ⟨a1, a2, _⟩ := zh1 h.1
  obtain ⟨b1, b2, _⟩ := zh1 h.2
  have m1 := zhb a1 b2; have m3 := zhb a2 b1
  rw [zhd, Ev.kz0 (z5m ha hb (k := 0) (by rw [h.1, h.2]; rfl))]
  have hf : Ev (fun n => z5i n a b) (fdiv a b) := by
   rw [zsc, Ev.yz0, wI (by omega), wI (by omega)]; rfl
  rw [Ev.kz2 (by rfl), Ev.kz0 hf, Ev.kz0 (zmw (by unfold I64 fdiv; simp only; omega) (by unfold I64 fdiv; simp only; omega) rfl)]
  simp [Ev.yz0, kz8]
theorem yhm {a b : yz1} (ha : wfR a) (hb : wfR b) : Ev (fun n => z7k n a b) (z7y zr6 a b) := by
 rw [y4o, Ev.kz0 (y71 ha hb), Ev.yz0]
theorem yi1 {a b : yz1} (ha : wfR a) (hb : wfR b) : Ev (fun n => z7n n a b) (z7y ydh a b) := by
 rw [y7j, Ev.kz0 (ygw ha hb), Ev.yz0]
theorem yi5 {a b : yz1} (ha : wfR a) (hb : wfR b) : Ev (fun n => z83 n a b) (z7y yen a b) := by
 rw [y79, Ev.kz0 (y5i ha hb), Ev.yz0]
theorem yhe {a b : yz1} (ha : wfR a) (hb : wfR b) : Ev (fun n => z7w n a b) (z7y fdiv a b) := by
 rw [y4h, Ev.kz0 (y7k ha hb), Ev.yz0]
def yjb (a b : yz1) : Int := if a.num * b.den < b.num * a.den then -1 else if a.num * b.den > b.num * a.den then 1 else 0
theorem yhw {a b : yz1} (h1 : rok a = true) (h2 : rok b = true) : Ev (fun n => z7s n a b) (yjb a b, 0) := by
 obtain ⟨a1, a2, _⟩ := zh1 h1
 obtain ⟨b1, b2, _⟩ := zh1 h2
 have m1 := zhb a1 b2; have m2 := zhb b1 a2
 have hnan : ∀ x, Ev (fun n => z01 n x) false := fun x => by rw [zlf, Ev.yz0]; simp
 have hc : Ev (fun n => z05 n (a.num * b.den) (b.num * a.den)) (yjb a b) := by
  rw [zic, Ev.kz0 (hnan _), Ev.kz0 (hnan _), Ev.yz2 (by rfl), Ev.yz2 (by rfl)]
  unfold yjb
  simp only [Ev.pif, Ev.yz0, decide_eq_true_eq]
  split <;> (try rfl)
  split <;> rfl
 rw [y7p, Ev.kz0 (z5m (y1s h1) (y1s h2) (k := 0) (by rw [h1, h2]; rfl)), Ev.yz2 (by rfl), wI (by omega), wI (by omega), Ev.kz0 hc, Ev.yz0]
def zeo (a : yz1) : Int × Int := if rok a then (a.num / a.den, 0) else (0, 8)
theorem y2d {a b : Int} (ha : -1000000000 ≤ a ∧ a ≤ 1000000000) (hb : 1 ≤ b) : -1000000000 ≤ a / b ∧ a / b ≤ 1000000000 := by
 constructor
 ·rw [Int.le_ediv_iff_mul_le (by omega)]
  omega
 ·have := Int.ediv_le_self b (a := a)
  by_cases h : 0 ≤ a
  ·have := Int.ediv_le_self b h; omega
  ·have := Int.ediv_neg_of_neg_of_pos (a := a) (b := b) (by omega) (by omega); omega
theorem yb8 {a : yz1} (h : wfR a) : Ev (fun n => z4z n a) (zeo a) := by
 have l0 : ∀ q, Ev (fun n => z0g n q) q := fun q => by rw [zlx, Ev.yz0]
 rw [ztx, Ev.kz0 (ze5 h.1)]
 unfold zeo
 cases hr : rok a
 ·rw [Ev.kz2 (by decide), Ev.yz0]; rfl
 ·rw [Ev.yz2 (by decide)]
  obtain ⟨a1, a2, a3⟩ := zh1 hr
  have hq : a.num.tdiv a.den = if 0 ≤ a.num ∨ a.den ∣ a.num then a.num / a.den else a.num / a.den + 1 := by
   rw [Int.tdiv_eq_ediv]
   have : a.den.sign = 1 := Int.sign_eq_one_of_pos (by omega)
   split <;> simp_all
  have hm : a.num.tmod a.den < 0 ↔ ¬ (0 ≤ a.num ∨ a.den ∣ a.num) := by
   constructor
   ·intro hlt hh
    rcases hh with hh | hh
    ·have := Int.tmod_nonneg a.den hh; omega
    ·rw [Int.tmod_eq_zero_of_dvd hh] at hlt; omega
   ·intro hh
    have h0 : a.num < 0 := by omega
    have h1 : a.num.tmod a.den ≤ 0 := by
     have e : a.num = -(-a.num) := by omega
     rw [e, Int.neg_tmod]
     have := Int.tmod_nonneg a.den (show 0 ≤ -a.num by omega)
     omega
    have h2 : a.num.tmod a.den ≠ 0 := fun hz => hh (.inr (Int.dvd_of_tmod_eq_zero hz))
    omega
  have hb := y2d a1 a3
  have hf : Ev (fun n => z56 n a.num a.den) (a.num / a.den) := by
   have hq1 : quo .i64 a.num a.den = some (a.num.tdiv a.den) := by
    unfold quo; rw [if_neg (by omega), wI (by rw [hq]; split <;> omega)]
   have hr1 : rem .i64 a.num a.den = some (a.num.tmod a.den) := by unfold rem; rw [if_neg (by omega)]
   rw [zsa, Ev.zz4 hq1, Ev.zz4 hr1]
   by_cases hh : 0 ≤ a.num ∨ a.den ∣ a.num
   ·rw [Ev.yz2 (by rw [decide_eq_false_iff_not, hm]; exact not_not_intro hh), hq, if_pos hh]; exact l0 _
   ·rw [Ev.kz2 (by rw [decide_eq_true_eq, hm]; exact hh), hq, if_neg hh, wI (by omega)]
    exact (l0 _).to (by omega)
  rw [Ev.kz0 hf, Ev.yz0]; rfl
end Go.Proofs.YtfhpamcehnfhoaaGreatDoor


namespace Go.Proofs.YtfhpamcehnfhoaaGreatDoor
open Go Go.Ab
set_option linter.unusedVariables false
set_option linter.unusedSimpArgs false
theorem zg0 {P : zz0 → Prop} (h : ∀ v : zz0, (∀ x, x ∈ v.list → P x) → P v) (v : zz0) : P v := h v fun x hx => zg0 h x
termination_by v
decreasing_by exact zz0.zna hx
mutual
def z2n : zz0 → Nat
 | ⟨k, _, _, _, l⟩ => if k = 4 then 1 + zzj l else 1
def zzj : List zz0 → Nat
 | [] => 0
 | x :: l => z2n x + zzj l
end
mutual
def z7f : zz0 → Nat
 | ⟨k, _, _, _, l⟩ => if k = 4 then max 1 (z5e l) else 1
def z5e : List zz0 → Nat
 | [] => 0
 | x :: l => max (1 + z7f x) (z5e l)
end
theorem kzx (v : zz0) : z2n v = if v.kind = 4 then 1 + zzj v.list else 1 := by cases v; rw [z2n]
theorem z8s (v : zz0) : z7f v = if v.kind = 4 then max 1 (z5e v.list) else 1 := by cases v; rw [z7f]
theorem yc1 {l : List zz0} {x : zz0} (h : x ∈ l) : x.size ≤ (l.map zz0.size).sum := by
 induction l with
 | nil => cases h
 | cons y l ih =>
   rcases List.mem_cons.1 h with rfl | h
   · simp
   · have := ih h; simp; omega
theorem zzr (v : zz0) : (v.list.map zz0.size).sum + v.str.length + 4 ≤ v.size := by rw [zz0.size_eq]; omega
theorem z9c {v x : zz0} (h : x ∈ v.list) : x.size ≤ v.size := by have := yc1 h; have := zzr v; omega
theorem z3n (l : List zz0) : l.length ≤ (l.map zz0.size).sum := by
 induction l with
 | nil => simp
 | cons x l ih => have := zzr x; simp; omega
theorem zjm : ∀ v : zz0, z2n v ≤ v.size := zg0 fun v ih => by
 have : ∀ l : List zz0, (∀ x, x ∈ l → x ∈ v.list) → zzj l ≤ (l.map zz0.size).sum := fun l => by
  induction l with
  | nil => intro _; simp [zzj]
  | cons x l ihl =>
    intro hl
    have := ih x (hl x List.mem_cons_self)
    have := ihl fun y hy => hl y (List.mem_cons_of_mem _ hy)
    simp [zzj]; omega
 have := this v.list fun _ h => h
 have := zzr v
 rw [kzx]; split <;> omega
theorem yat : ∀ v : zz0, z7f v ≤ z2n v := zg0 fun v ih => by
 have : ∀ l : List zz0, (∀ x, x ∈ l → x ∈ v.list) → z5e l ≤ 1 + zzj l := fun l => by
  induction l with
  | nil => intro _; simp [zzj, z5e]
  | cons x l ihl =>
    intro hl
    have := ih x (hl x List.mem_cons_self)
    have := ihl fun y hy => hl y (List.mem_cons_of_mem _ hy)
    simp [zzj, z5e]; omega
 have := this v.list fun _ h => h
 rw [kzx, z8s]; split <;> omega
theorem zt4 (l : List zz0) : zzj l ≤ (l.map zz0.size).sum := by
 induction l with
 | nil => simp [zzj]
 | cons x l ih => have := zjm x; simp [zzj]; omega
theorem zes : ∀ v : zz0, v.size ≤ 8388608 → Ev (fun n => zzt n v) ((z2n v : Int), (z7f v : Int)) := zg0 fun v ih hs => by
 have l1 : ∀ d p, Ev (fun n => zzw n d p) (p, d) := fun d p => by rw [zju, Ev.yz0]
 have hsl := zzr v
 have hlen := z3n v.list
 have loop : ∀ k, k ≤ v.list.length → ∀ d p : Nat, p + zzj (v.list.drop k) ≤ 8388609 → d ≤ 8388609 → Ev (fun n => yzw n (k : Int) (d : Int) (p : Int) v.list (v.list.length : Int)) (((p + zzj (v.list.drop k) : Nat) : Int), ((max d (z5e (v.list.drop k)) : Nat) : Int)) :=
  down (fun d p hp hd => by
   rw [zcf, Ev.yz2 (by simp)]
   refine (l1 _ _).to ?_
   simp [zzj, z5e]) fun k hk ihk d p hp hd => by
   have hx := List.getElem_mem hk
   have hsx := z9c hx
   rw [← List.getElem_cons_drop (h := hk)] at hp ⊢
   simp only [zzj, z5e] at hp ⊢
   have hpl := zjm v.list[k]
   have hdl := yat v.list[k]
   rw [zcf, Ev.kz2 (by simpa using hk), Ev.zz4 (yzv hk), zz0.zz3, Ev.kz0 (ih _ hx (by omega)), wI (x := _ + 1) (by omega), wI (x := (z7f _ : Int) + 1) (by omega), wI (x := (p : Int) + _) (by omega)]
   have e1 : (k : Int) + 1 = ((k + 1 : Nat) : Int) := by omega
   have e2 : (z7f v.list[k] : Int) + 1 = ((1 + z7f v.list[k] : Nat) : Int) := by omega
   have e3 : (p : Int) + (z2n v.list[k] : Int) = ((p + z2n v.list[k] : Nat) : Int) := by omega
   rw [e1, e2, e3, zrn]
   refine (ihk (max d (1 + z7f v.list[k])) (p + z2n v.list[k]) (by omega) (by omega)).to ?_
   congr 2 <;> omega
 rw [zoy]
 by_cases hk : v.kind = 4
 ·rw [Ev.kz2 (by simpa using hk)]
  have hv := zt4 v.list
  have := loop 0 (Nat.zero_le _) 1 1 (by simp; omega) (by omega)
  refine this.to ?_
  rw [kzx, z8s, if_pos hk, if_pos hk, List.drop_zero]
 ·rw [Ev.yz2 (by simpa using hk)]
  refine (l1 1 1).to ?_
  rw [kzx, z8s, if_neg hk, if_neg hk]; rfl
theorem zq6 : ∀ v : zz0, v.size ≤ 8388608 → Ev (fun n => z2b n v) (z2n v : Int) := zg0 fun v ih hs => by
 have hsl := zzr v
 have hlen := z3n v.list
 rw [zvf, zz0.zz3, kzx]
 by_cases hk : v.kind = 4
 ·rw [if_pos hk]
  have hkk : (v.kind == 4) = true := by simpa using hk
  have loop : ∀ k, k ≤ v.list.length → ∀ p : Nat, p + zzj (v.list.drop k) ≤ 8388609 → Ev (fun n => z0n n (k : Int) (p : Int) v) ((p + zzj (v.list.drop k) : Nat) : Int) :=
   down (fun p hp => by
    rw [zah, Ev.yz2 (by simp), za8, Ev.yz2 (by rfl), Ev.yz0]
    simp [zzj]) fun k hk ihk p hp => by
    have hx := List.getElem_mem hk
    have hsx := z9c hx
    rw [← List.getElem_cons_drop (h := hk)] at hp ⊢
    simp only [zzj] at hp ⊢
    have hpl := zjm v.list[k]
    rw [zah, Ev.kz2 (by simpa using hk), hkk, zz0.zz3, za8, Ev.kz2 (by rfl), Ev.zz4 (yzv hk), zz0.zz3, Ev.kz0 (ih _ hx (by omega)), wI (x := _ + 1) (by omega), wI (x := (p : Int) + _) (by omega)]
    have e1 : (k : Int) + 1 = ((k + 1 : Nat) : Int) := by omega
    have e3 : (p : Int) + (z2n v.list[k] : Int) = ((p + z2n v.list[k] : Nat) : Int) := by omega
    rw [e1, e3, zz0.zz3]
    refine (ihk (p + z2n v.list[k]) (by omega)).to ?_
    congr 1; omega
  have hv := zt4 v.list
  exact loop 0 (Nat.zero_le _) 1 (by simp; omega)
 ·rw [if_neg hk]
  have hkk : (v.kind == 4) = false := by simpa using hk
  have l1 : Ev (fun n => z0p n 0 1 false v) 1 := by rw [za8, Ev.yz2 (by rfl), Ev.yz0]
  rw [zah, hkk, zz0.zz3, Ev.pif]
  split <;> exact l1
theorem ydy : ∀ v : zz0, v.size ≤ 8388608 → Ev (fun n => z4k n v) (z7f v : Int) := zg0 fun v ih hs => by
 have hsl := zzr v
 have hlen := z3n v.list
 rw [y0b, zz0.zz3, z8s]
 by_cases hk : v.kind = 4
 ·rw [if_pos hk]
  have hkk : (v.kind == 4) = true := by simpa using hk
  have loop : ∀ k, k ≤ v.list.length → ∀ p : Nat, p ≤ 8388609 → Ev (fun n => z1l n (k : Int) (p : Int) v) ((max p (z5e (v.list.drop k)) : Nat) : Int) :=
   down (fun p hp => by
    rw [zaw, Ev.yz2 (by simp), zb8, Ev.yz2 (by rfl), Ev.yz0]
    simp [z5e]) fun k hk ihk p hp => by
    have hx := List.getElem_mem hk
    have hsx := z9c hx
    rw [← List.getElem_cons_drop (h := hk)]
    simp only [z5e]
    have hpl := zjm v.list[k]
    have hdl := yat v.list[k]
    rw [zaw, Ev.kz2 (by simpa using hk), hkk, zz0.zz3, zb8, Ev.kz2 (by rfl), Ev.zz4 (yzv hk), zz0.zz3, Ev.kz0 (ih _ hx (by omega)), wI (x := _ + 1) (by omega), wI (x := 1 + _) (by omega)]
    have e1 : (k : Int) + 1 = ((k + 1 : Nat) : Int) := by omega
    have e3 : 1 + (z7f v.list[k] : Int) = ((1 + z7f v.list[k] : Nat) : Int) := by omega
    rw [e1, e3, zz0.zz3, zrn]
    refine (ihk (max p (1 + z7f v.list[k])) (by omega)).to ?_
    congr 1; omega
  exact loop 0 (Nat.zero_le _) 1 (by omega)
 ·rw [if_neg hk]
  have hkk : (v.kind == 4) = false := by simpa using hk
  have l1 : Ev (fun n => z1m n 0 1 false v) 1 := by rw [zb8, Ev.yz2 (by rfl), Ev.yz0]
  rw [zaw, hkk, zz0.zz3, Ev.pif]
  split <;> exact l1
end Go.Proofs.YtfhpamcehnfhoaaGreatDoor


namespace Go.Proofs.YtfhpamcehnfhoaaGreatDoor
open Go Go.Ab
set_option linter.unusedVariables false
set_option linter.unusedSimpArgs false
def r0 : yz1 := ⟨0, 0⟩
def v0 : zz0 := ⟨0, ⟨0, 0⟩, false, [], []⟩
def zf6 (c : UInt8) : Bool := decide (32 ≤ c.toNat) && decide (c.toNat ≤ 126)
def nul (v : yz1) : Bool := v.num == 0 && v.den == 0
mutual
def z4t : zz0 → Bool
 | ⟨k, q, t, s, l⟩ =>
   if k = 1 then rok q && (!t && (s.isEmpty && l.isEmpty))
   else if k = 2 then nul q && (s.isEmpty && l.isEmpty)
   else if k = 3 then nul q && (!t && (l.isEmpty && (decide (s.length ≤ 60) && s.all zf6)))
   else if k = 4 then nul q && (!t && (s.isEmpty && za1 l))
   else false
def za1 : List zz0 → Bool
 | [] => true
 | x :: l => z4t x && za1 l
end
theorem z63 (v : zz0) : z4t v =
  if v.kind = 1 then rok v.num && (!v.truth && (v.str.isEmpty && v.list.isEmpty))
  else if v.kind = 2 then nul v.num && (v.str.isEmpty && v.list.isEmpty)
  else if v.kind = 3 then nul v.num && (!v.truth && (v.list.isEmpty && (decide (v.str.length ≤ 60) && v.str.all zf6)))
  else if v.kind = 4 then nul v.num && (!v.truth && (v.str.isEmpty && za1 v.list))
  else false := by cases v; rw [z4t]
theorem zv5 (l : List zz0) : za1 l = l.all z4t := by
 induction l with
 | nil => rfl
 | cons x l ih => simp [za1, ih]
def yz6 (v : zz0) : Int := if 100 < z2n v ∨ 6 < z7f v then 4 else if z4t v then 0 else 8
theorem zeh {v : zz0} (h : v.wf) : wfR v.num := by
 rw [zz0.z6p] at h
 have := h.2.1
 rw [yz1.z6p] at this
 simpa [wfR, I64, IntKind.min, IntKind.max, IntKind.signed, IntKind.bits] using this
theorem ylk {v : zz0} (h : v.wf) : ∀ x ∈ v.list, x.wf := by
 rw [zz0.z6p] at h; exact h.2.2.2.2
theorem zbe {v : zz0} : Ev (fun n => kzs n v) (nul v.num && (!v.truth && (v.str.isEmpty && v.list.isEmpty))) := by
 rw [zp7]
 obtain ⟨k, ⟨p, q⟩, t, s, l⟩ := v
 simp only [Ev.pif, Ev.yz0, nul, Bool.and_true]
 cases p == 0 <;> cases q == 0 <;> cases t <;> cases s <;> cases l <;> simp <;> omega
theorem yf6 : ∀ v : zz0, v.wf → v.size ≤ 8388608 → Ev (fun n => z4o n v) (z4t v) := zg0 fun v ih hw hs => by
 have hsl := zzr v
 have hlen := z3n v.list
 rw [zxw, z63]
 by_cases h1 : v.kind = 1
 ·rw [if_pos h1, Ev.kz2 (by simpa using h1), Ev.kz0 (ze5 (zeh hw).1)]
  cases hr : rok v.num
  ·rw [Ev.kz2 (by rfl), Ev.yz0]; rfl
  ·rw [Ev.yz2 (by rfl)]
   exact zbe
 rw [if_neg h1, Ev.yz2 (by simpa using h1)]
 by_cases h2 : v.kind = 2
 ·rw [if_pos h2, Ev.kz2 (by simpa using h2)]
  exact zbe
 rw [if_neg h2, Ev.yz2 (by simpa using h2)]
 by_cases h3 : v.kind = 3
 ·rw [if_pos h3, Ev.kz2 (by simpa using h3)]
  by_cases hl : v.str.length ≤ 60
  ·rw [Ev.yz2 (by simp; omega), zz0.zz3]
   have loop : ∀ w : zz0, ∀ k, k ≤ v.str.length → Ev (fun n => z19 n (k : Int) v w) ((v.str.drop k).all zf6 && (nul w.num && (!w.truth && (w.str.isEmpty && w.list.isEmpty)))) := fun w =>
    down (by
     rw [zf9, Ev.yz2 (by simp), zz0.zz3]
     simpa using zbe) fun k hk ihk => by
     have bad : Ev (fun n => z1o n (k : Int) true v w) false := by rw [zex, Ev.kz2 (by rfl), Ev.yz0]
     rw [← List.getElem_cons_drop (h := hk), List.all_cons]
     rw [zf9, Ev.kz2 (by simpa using hk), Ev.zz4 (yzv hk), zz0.zz3, zz0.zz3]
     by_cases c1 : v.str[k].toNat < 32
     ·rw [Ev.kz2 (by simp; omega)]
      refine bad.to ?_
      have : zf6 v.str[k] = false := by simp [zf6]; omega
      rw [this]; rfl
     ·rw [Ev.yz2 (by simp; omega), Ev.zz4 (yzv hk)]
      by_cases c2 : v.str[k].toNat > 126
      ·rw [show decide ((v.str[k].toNat : Int) > 126) = true by simp; omega]
       refine bad.to ?_
       have : zf6 v.str[k] = false := by simp [zf6]; omega
       rw [this]; rfl
      ·rw [show decide ((v.str[k].toNat : Int) > 126) = false by simp; omega, zex, Ev.yz2 (by rfl), wrk (by omega), zz0.zz3, zz0.zz3]
       have : zf6 v.str[k] = true := by simp [zf6]; omega
       rw [this, Bool.true_and]
       exact ihk
   refine (loop ⟨v.kind, v.num, v.truth, [], v.list⟩ 0 (Nat.zero_le _)).to ?_
   simp only [List.drop_zero, hl, decide_true, Bool.true_and, List.isEmpty_nil]
   cases nul v.num <;> cases v.truth <;> cases v.list.isEmpty <;> cases v.str.all zf6 <;> rfl
  ·rw [Ev.kz2 (by simp; omega), Ev.yz0]
   simp [hl]
 rw [if_neg h3, Ev.yz2 (by simpa using h3)]
 by_cases h4 : v.kind = 4
 ·rw [if_pos h4, Ev.kz2 (by simpa using h4)]
  have loop : ∀ w : zz0, ∀ k, k ≤ v.list.length → Ev (fun n => z1h n (k : Int) v.list (v.list.length : Int) w) (za1 (v.list.drop k) && (nul w.num && (!w.truth && (w.str.isEmpty && w.list.isEmpty)))) := fun w =>
   down (by
    rw [zft, Ev.yz2 (by simp), zz0.zz3]
    simpa [za1] using zbe) fun k hk ihk => by
    have hx := List.getElem_mem hk
    have hsx := z9c hx
    rw [← List.getElem_cons_drop (h := hk), za1]
    rw [zft, Ev.kz2 (by simpa using hk), Ev.zz4 (yzv hk), zz0.zz3, Ev.kz0 (ih _ hx (ylk hw _ hx) (by omega))]
    cases hf : z4t v.list[k]
    ·rw [Ev.kz2 (by rfl), Ev.yz0]; rfl
    ·rw [Ev.yz2 (by rfl), wrk (by omega), zz0.zz3, Bool.true_and]
     exact ihk
  refine (loop ⟨v.kind, v.num, v.truth, v.str, []⟩ 0 (Nat.zero_le _)).to ?_
  simp only [List.drop_zero, List.isEmpty_nil, Bool.and_true]
  cases nul v.num <;> cases v.truth <;> cases v.str.isEmpty <;> cases za1 v.list <;> rfl
 ·rw [if_neg h4, Ev.yz2 (by simpa using h4), Ev.yz0]
theorem z79 {v : zz0} (hw : v.wf) (hs : v.size ≤ 8388608) : Ev (fun n => kzh n v) (yz6 v) := by
 have l0 : ∀ b, Ev (fun n => z0q n b v) (if b then 4 else if z4t v then 0 else 8) := fun b => by
  rw [zmn]
  cases b
  ·rw [Ev.yz2 (by rfl), zz0.zz3, Ev.kz0 (yf6 v hw hs)]
   cases z4t v
   ·rw [Ev.kz2 (by rfl), Ev.yz0]; rfl
   ·rw [Ev.yz2 (by rfl), Ev.yz0]; rfl
  ·rw [Ev.kz2 (by rfl), Ev.yz0]; rfl
 rw [zts, zz0.zz3, Ev.kz0 (zes v hs)]
 unfold yz6
 simp only [Ev.pif]
 by_cases h1 : 100 < z2n v
 ·rw [if_pos (by simp; omega), if_pos (.inl h1)]; exact l0 true
 ·rw [if_neg (by simp; omega)]
  by_cases h2 : 6 < z7f v
  ·rw [if_pos (.inr h2), show decide ((z7f v : Int) > 6) = true by simp; omega]; exact l0 true
  ·rw [if_neg (by omega), show decide ((z7f v : Int) > 6) = false by simp; omega]; exact l0 false
theorem yea : ∀ v : zz0, v.size ≤ 8388608 → Ev (fun n => z4l n v) (z4t v) := zg0 fun v ih hs => by
 have hsl := zzr v
 have hlen := z3n v.list
 rw [y0h, z63]
 have hnul : ((v.num.num == 0) && ((v.num.den == 0) && true)) = nul v.num := by simp [nul]
 have hstr : ((v.str.length : Int) == 0) = v.str.isEmpty := by cases v.str <;> simp; omega
 have hlst : ((v.list.length : Int) == 0) = v.list.isEmpty := by cases v.list <;> simp; omega
 have hgt : decide ((v.list.length : Int) > 0) = !v.list.isEmpty := by cases v.list <;> simp
 have hgs : decide ((v.str.length : Int) > 0) = !v.str.isEmpty := by cases v.str <;> simp
 simp only [hnul, hstr, hlst, hgt, hgs]
 by_cases h1 : v.kind = 1
 ·rw [if_pos h1, Ev.kz2 (by simpa using h1), Ev.kz0 ybi]
  cases hr : rok v.num <;> cases ht : v.truth <;> cases hss : v.str.isEmpty <;> simp [Ev.pif, Ev.yz0]
 rw [if_neg h1, Ev.yz2 (by simpa using h1)]
 by_cases h2 : v.kind = 2
 ·rw [if_pos h2, Ev.kz2 (by simpa using h2)]
  cases hr : nul v.num <;> cases hss : v.str.isEmpty <;> simp [Ev.pif, Ev.yz0]
 rw [if_neg h2, Ev.yz2 (by simpa using h2)]
 by_cases h3 : v.kind = 3
 ·rw [if_pos h3, Ev.kz2 (by simpa using h3)]
  have bad : Ev (fun n => yzn n true v) false := by rw [zfa, Ev.kz2 (by rfl), Ev.yz0]
  have loop : ∀ k, k ≤ v.str.length → Ev (fun n => z17 n (k : Int) v) ((v.str.drop k).all zf6) :=
   down (by
    rw [zfv, Ev.yz2 (by simp), Ev.yz0]
    simp) fun k hk ihk => by
    have bad : Ev (fun n => z1a n (k : Int) true v) false := by rw [zff, Ev.kz2 (by rfl), Ev.yz0]
    rw [← List.getElem_cons_drop (h := hk), List.all_cons]
    rw [zfv, Ev.kz2 (by simpa using hk), Ev.zz4 (yzv hk), zz0.zz3]
    by_cases c1 : v.str[k].toNat < 32
    ·rw [Ev.kz2 (by simp; omega)]
     refine bad.to ?_
     have : zf6 v.str[k] = false := by simp [zf6]; omega
     rw [this]; rfl
    ·rw [Ev.yz2 (by simp; omega), Ev.zz4 (yzv hk)]
     by_cases c2 : v.str[k].toNat > 126
     ·rw [show decide ((v.str[k].toNat : Int) > 126) = true by simp; omega]
      refine bad.to ?_
      have : zf6 v.str[k] = false := by simp [zf6]; omega
      rw [this]; rfl
     ·rw [show decide ((v.str[k].toNat : Int) > 126) = false by simp; omega, zff, Ev.yz2 (by rfl), wrk (by omega), zz0.zz3]
      have : zf6 v.str[k] = true := by simp [zf6]; omega
      rw [this, Bool.true_and]
      exact ihk
  have good : Ev (fun n => yzn n false v) (v.str.all zf6) := by
   rw [zfa, Ev.yz2 (by rfl), zz0.zz3]; simpa using loop 0 (Nat.zero_le _)
  rw [zz0.zz3]
  cases hr : nul v.num
  ·rw [Ev.kz2 (by rfl)]; exact bad
  rw [Ev.yz2 (by rfl)]
  cases ht : v.truth
  ·rw [Ev.yz2 (by rfl)]
   cases hl : v.list.isEmpty
   ·rw [Ev.kz2 (by rfl)]; exact bad
   ·rw [Ev.yz2 (by rfl)]
    by_cases h60 : v.str.length ≤ 60
    ·rw [show decide ((v.str.length : Int) > 60) = false by simp; omega]
     simpa [h60] using good
    ·rw [show decide ((v.str.length : Int) > 60) = true by simp; omega]
     simpa [h60] using bad
  ·rw [Ev.kz2 (by rfl)]; exact bad
 rw [if_neg h3, Ev.yz2 (by simpa using h3)]
 by_cases h4 : v.kind = 4
 ·rw [if_pos h4, Ev.kz2 (by simpa using h4)]
  have bad : Ev (fun n => kzu n true v) false := by rw [zfe, Ev.kz2 (by rfl), Ev.yz0]
  have loop : ∀ k, k ≤ v.list.length → Ev (fun n => z1b n (k : Int) v) (za1 (v.list.drop k)) :=
   down (by
    rw [zfo, Ev.yz2 (by simp), Ev.yz0]
    simp [za1]) fun k hk ihk => by
    have hx := List.getElem_mem hk
    have hsx := z9c hx
    rw [← List.getElem_cons_drop (h := hk), za1]
    rw [zfo, Ev.kz2 (by simpa using hk), Ev.zz4 (yzv hk), zz0.zz3, Ev.kz0 (ih _ hx (by omega))]
    cases hf : z4t v.list[k]
    ·rw [Ev.kz2 (by rfl), Ev.yz0]; rfl
    ·rw [Ev.yz2 (by rfl), wrk (by omega), zz0.zz3, Bool.true_and]
     exact ihk
  have good : Ev (fun n => kzu n false v) (za1 v.list) := by
   rw [zfe, Ev.yz2 (by rfl), zz0.zz3]; simpa using loop 0 (Nat.zero_le _)
  rw [zz0.zz3]
  cases hr : nul v.num
  ·rw [Ev.kz2 (by rfl)]; exact bad
  rw [Ev.yz2 (by rfl)]
  cases ht : v.truth
  ·rw [Ev.yz2 (by rfl)]
   cases hl : v.str.isEmpty
   ·exact bad
   ·simpa using good
  ·rw [Ev.kz2 (by rfl)]; exact bad
 ·rw [if_neg h4, Ev.yz2 (by simpa using h4), Ev.yz0]
theorem yby {v : zz0} (hs : v.size ≤ 8388608) : Ev (fun n => z5g n v) (yz6 v) := by
 have l0 : ∀ b, Ev (fun n => z0o n b v) (if b then 4 else if z4t v then 0 else 8) := fun b => by
  rw [zmg]
  cases b
  ·rw [Ev.yz2 (by rfl), zz0.zz3, Ev.kz0 (yea v hs)]
   cases z4t v
   ·rw [Ev.kz2 (by rfl), Ev.yz0]; rfl
   ·rw [Ev.yz2 (by rfl), Ev.yz0]; rfl
  ·rw [Ev.kz2 (by rfl), Ev.yz0]; rfl
 rw [ztj, zz0.zz3, Ev.kz0 (zq6 v hs)]
 unfold yz6
 by_cases h1 : 100 < z2n v
 ·rw [Ev.kz2 (by simp; omega), if_pos (.inl h1)]; exact l0 true
 ·rw [Ev.yz2 (by simp; omega), Ev.kz0 (ydy v hs)]
  by_cases h2 : 6 < z7f v
  ·rw [if_pos (.inr h2), show decide ((z7f v : Int) > 6) = true by simp; omega]; exact l0 true
  ·rw [if_neg (by omega), show decide ((z7f v : Int) > 6) = false by simp; omega]; exact l0 false
end Go.Proofs.YtfhpamcehnfhoaaGreatDoor

