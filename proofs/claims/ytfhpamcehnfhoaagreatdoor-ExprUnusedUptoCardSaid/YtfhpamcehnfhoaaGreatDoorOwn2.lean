/-
  Go functions as Lean functions, by a program of this repo.
-/
import Derived.Test.YtfhpamcehnfhoaaGreatDoorOwn1
import Derived.Test.YtfhpamcehnfhoaaGreatDoorLib2
import Derived.Test.YtfhpamcehnfhoaaGreatDoorProg
import Derived.Test.YtfhpamcehnfhoaaGreatDoorLib6
namespace Go.Proofs.YtfhpamcehnfhoaaGreatDoor
open Go Go.Ab
set_option linter.unusedVariables false
set_option maxRecDepth 100000
def z4l : Nat → yz1 → yz1 → Option (Int × Int)
 | 0, _, _ => none
 | n + 1, a0, a1 =>
   some ((IntKind.i64.wrap ((IntKind.i64.wrap (a0.num * a1.den)) - (IntKind.i64.wrap (a1.num * a0.den)))), (IntKind.i64.wrap (a0.den * a1.den)))
def y6u : LSh := ⟨[(4, (.d (.int .i64))), (5, (.d (.int .i64)))], [], 0, 22⟩
noncomputable def zdk : FI dat := FI.of dat 169 22 0 [(.d (.st 2)), (.d (.st 2))] [] [(.d (.int .i64)), (.d (.int .i64))] [] true y6u (R := Int × Int) (fun x => (x.1, x.2.1)) (fun r => (r.1, r.2, ())) (fun n x => z4l n x.1 x.2.1)
 (fun n => []) (ann [] (Tryz.f169.body.getD .skip) 0).1
noncomputable def y4z : List (FI dat) := []
theorem y71 : (zdk).Good Tryz.prog dat (tb y4z) := FI.yz4 (hD := zz2 _) Tryz.func169 Tryz.ntmps169 Tryz.call169 (by kernel_rfl) (of_decide_eq_true (by kernel_rfl)) (by kernel_rfl) (fun n => by kernel_rfl) (fun x => by kernel_rfl) (fun _ => rfl) trivial
 (fun n => fun x => (z4l.eq_2 x.1 x.2.1 n).trans (by kernel_rfl))
 (fun n => trivial)
 (fun x => .inl rfl)
theorem y62 : OkL Tryz.prog [zdk] := zzb (zz2 _) (bs := []) trivial y71
theorem y0i : FOk Tryz.prog zdk := y62.1
def z6d : Nat → yz1 → yz1 → Option (yz1 × Int)
 | 0, _, _ => none
 | n + 1, a0, a1 =>
   (z1n n a0 a1).bind fun y0 =>
   pIf (y0.e == 0)
     ((z4l n y0.a y0.b).bind fun y1 =>
     (z04 n y1.1 y1.2 y0).bind fun y2 =>
     (((zzl 9 y2.a.num y2.a.den y2.b.num y2.b.den y2.out.num y2.out.den y2.e 0 0 0).bind fun r4 => some (r4.1, r4.2.1, r4.2.2.1, r4.2.2.2.1, r4.2.2.2.2.1, r4.2.2.2.2.2.1, r4.2.2.2.2.2.2.1, r4.2.2.2.2.2.2.2.1, r4.2.2.2.2.2.2.2.2.1, r4.2.2.2.2.2.2.2.2.2, ()))).bind fun y3 =>
     some ((yz1.mk y3.2.2.2.2.2.2.2.1 y3.2.2.2.2.2.2.2.2.1), y3.2.2.2.2.2.2.2.2.2.1))
     ((((zzl 9 y0.a.num y0.a.den y0.b.num y0.b.den y0.out.num y0.out.den y0.e 0 0 0).bind fun r6 => some (r6.1, r6.2.1, r6.2.2.1, r6.2.2.2.1, r6.2.2.2.2.1, r6.2.2.2.2.2.1, r6.2.2.2.2.2.2.1, r6.2.2.2.2.2.2.2.1, r6.2.2.2.2.2.2.2.2.1, r6.2.2.2.2.2.2.2.2.2, ()))).bind fun y5 =>
     some ((yz1.mk y5.2.2.2.2.2.2.2.1 y5.2.2.2.2.2.2.2.2.1), y5.2.2.2.2.2.2.2.2.2.1))
def yfs : LSh := ⟨[(6, (.ptr 0 0)), (7, (.ptr 1 0))], [(.st 2), (.cells [(.d (.int .i64))])], 0, 27⟩
noncomputable def zhm : FI dat := FI.ofD dat 168 27 0 [(.d (.st 2)), (.d (.st 2)), (.fn 169 [] [])] [] [(.d (.st 2)), (.d (.int .i64))] [(.st 2), (.cells [(.d (.int .i64))])] [zdh] yfs (R := yz1 × Int) (fun x => (x.1, x.2.1)) (fun r => (r.1, r.2, r.1, r.2, ())) (fun n x => z6d n x.1 x.2.1)
 (fun n => []) (ann [] (Tryz.f168.body.getD .skip) 0).1
noncomputable def ye4 : List (FI dat) := [z47, zdk, z2c]
theorem ydm : (zhm).Good Tryz.prog dat (tb ye4) := FI.zno (hD := zz2 _) Tryz.func168 Tryz.ntmps168 Tryz.call168 (by kernel_rfl) (of_decide_eq_true (by kernel_rfl)) (by kernel_rfl) (fun n => by kernel_rfl) ⟨zdy, trivial⟩ (fun x => by kernel_rfl) (fun _ => rfl) trivial
 (fun n => fun x => (z6d.eq_2 x.1 x.2.1 n).trans (by kernel_rfl))
 (fun n => trivial)
 (fun x => by kernel_rfl)
theorem ygi : OkL Tryz.prog [zhm] := zzb (zz2 _) (bs := [z47, zdk, z2c]) ⟨zdm, y0i, zaq, trivial⟩ ydm
theorem ybw : FOk Tryz.prog zhm := ygi.1
def z6c : Nat → yz1 → yz1 → Option (Int × yz1)
 | 0, _, _ => none
 | n + 1, a0, a1 =>
   (z6d n a0 a1).bind fun y0 =>
   some (y0.2, y0.1)
def yd7 : LSh := ⟨[(4, (.ptr 0 0)), (5, (.d (.int .i64)))], [(.st 2)], 0, 11⟩
noncomputable def zho : FI dat := FI.of dat 142 11 0 [(.d (.st 2)), (.d (.st 2))] [] [(.d (.st 2)), (.d (.int .i64))] [] true yd7 (R := Int × yz1) (fun x => (x.1, x.2.1)) (fun r => (r.2, r.1, ())) (fun n x => z6c n x.1 x.2.1)
 (fun n => []) (ann [] (Tryz.f142.body.getD .skip) 0).1
noncomputable def ydy : List (FI dat) := [zhm]
theorem yd2 : (zho).Good Tryz.prog dat (tb ydy) := FI.yz4 (hD := zz2 _) Tryz.func142 Tryz.ntmps142 Tryz.call142 (by kernel_rfl) (of_decide_eq_true (by kernel_rfl)) (by kernel_rfl) (fun n => by kernel_rfl) (fun x => by kernel_rfl) (fun _ => rfl) trivial
 (fun n => fun x => (z6c.eq_2 x.1 x.2.1 n).trans (by kernel_rfl))
 (fun n => trivial)
 (fun x => .inl rfl)
theorem yg0 : OkL Tryz.prog [zho] := zzb (zz2 _) (bs := [zhm]) ⟨ybw, trivial⟩ yd2
theorem y8m : FOk Tryz.prog zho := yg0.1
def z0t : Nat → yz1 → Int → Option (Res (Int × Unit) zz0)
 | 0, _, _ => none
 | n + 1, a0, a1 =>
   (zzx n a1).bind fun y0 =>
   z8s y0 (fun r1 =>
     some (Res.ok (zz0.mk 1 a0 false [] [])))
     (fun e2 =>
     some (Res.pan (e2.1, ())))
def y6n : LSh := ⟨[(4, (.ptr 0 0))], [(.st 3)], 0, 9⟩
noncomputable def zdg : FI dat := FI.ofP dat 141 9 0 [(.d (.st 2)), (.d (.int .i64))] [] [(.d (.st 3))] [(.st 3)] (.iface 31 (.d (.int .i64))) [] [] y6n (R := zz0) (fun x => x.1) (fun r => (r, r, ())) (fun n x => z0t n x.1 x.2.1)
 (fun n => []) (ann [] (Tryz.f141.body.getD .skip) 0).1
noncomputable def y4e : List (FI dat) := [z56]
theorem y65 : (zdg).Good Tryz.prog dat (tb y4e) := FI.znn (hD := zz2 _) Tryz.func141 Tryz.ntmps141 Tryz.call141 (by kernel_rfl) (of_decide_eq_true (by kernel_rfl)) (by kernel_rfl) (fun n => by kernel_rfl) trivial (fun x => by kernel_rfl) (fun _ => rfl) trivial
 (fun n => fun x => (z0t.eq_2 x.1 x.2.1 n).trans (by kernel_rfl))
 (fun n => trivial)
 (fun x => by kernel_rfl)
theorem y5s : OkL Tryz.prog [zdg] := zzb (zz2 _) (bs := [z56]) ⟨zf9, trivial⟩ y65
theorem y1s : FOk Tryz.prog zdg := y5s.1
def z4i : Nat → yz1 → yz1 → Option (Int × Int)
 | 0, _, _ => none
 | n + 1, a0, a1 =>
   some ((IntKind.i64.wrap (a0.num * a1.num)), (IntKind.i64.wrap (a0.den * a1.den)))
def y4g : LSh := ⟨[(4, (.d (.int .i64))), (5, (.d (.int .i64)))], [], 0, 16⟩
noncomputable def zdb : FI dat := FI.of dat 170 16 0 [(.d (.st 2)), (.d (.st 2))] [] [(.d (.int .i64)), (.d (.int .i64))] [] true y4g (R := Int × Int) (fun x => (x.1, x.2.1)) (fun r => (r.1, r.2, ())) (fun n x => z4i n x.1 x.2.1)
 (fun n => []) (ann [] (Tryz.f170.body.getD .skip) 0).1
noncomputable def y3x : List (FI dat) := []
theorem y5o : (zdb).Good Tryz.prog dat (tb y3x) := FI.yz4 (hD := zz2 _) Tryz.func170 Tryz.ntmps170 Tryz.call170 (by kernel_rfl) (of_decide_eq_true (by kernel_rfl)) (by kernel_rfl) (fun n => by kernel_rfl) (fun x => by kernel_rfl) (fun _ => rfl) trivial
 (fun n => fun x => (z4i.eq_2 x.1 x.2.1 n).trans (by kernel_rfl))
 (fun n => trivial)
 (fun x => .inl rfl)
theorem y5u : OkL Tryz.prog [zdb] := zzb (zz2 _) (bs := []) trivial y5o
theorem y1i : FOk Tryz.prog zdb := y5u.1
def z3t : Nat → yz1 → yz1 → Option (yz1 × Int)
 | 0, _, _ => none
 | n + 1, a0, a1 =>
   (z1n n a0 a1).bind fun y0 =>
   pIf (y0.e == 0)
     ((z4i n y0.a y0.b).bind fun y1 =>
     (z04 n y1.1 y1.2 y0).bind fun y2 =>
     (((zzl 9 y2.a.num y2.a.den y2.b.num y2.b.den y2.out.num y2.out.den y2.e 0 0 0).bind fun r4 => some (r4.1, r4.2.1, r4.2.2.1, r4.2.2.2.1, r4.2.2.2.2.1, r4.2.2.2.2.2.1, r4.2.2.2.2.2.2.1, r4.2.2.2.2.2.2.2.1, r4.2.2.2.2.2.2.2.2.1, r4.2.2.2.2.2.2.2.2.2, ()))).bind fun y3 =>
     some ((yz1.mk y3.2.2.2.2.2.2.2.1 y3.2.2.2.2.2.2.2.2.1), y3.2.2.2.2.2.2.2.2.2.1))
     ((((zzl 9 y0.a.num y0.a.den y0.b.num y0.b.den y0.out.num y0.out.den y0.e 0 0 0).bind fun r6 => some (r6.1, r6.2.1, r6.2.2.1, r6.2.2.2.1, r6.2.2.2.2.1, r6.2.2.2.2.2.1, r6.2.2.2.2.2.2.1, r6.2.2.2.2.2.2.2.1, r6.2.2.2.2.2.2.2.2.1, r6.2.2.2.2.2.2.2.2.2, ()))).bind fun y5 =>
     some ((yz1.mk y5.2.2.2.2.2.2.2.1 y5.2.2.2.2.2.2.2.2.1), y5.2.2.2.2.2.2.2.2.2.1))
def y1z : LSh := ⟨[(6, (.ptr 0 0)), (7, (.ptr 1 0))], [(.st 2), (.cells [(.d (.int .i64))])], 0, 27⟩
noncomputable def zb5 : FI dat := FI.ofD dat 168 27 0 [(.d (.st 2)), (.d (.st 2)), (.fn 170 [] [])] [] [(.d (.st 2)), (.d (.int .i64))] [(.st 2), (.cells [(.d (.int .i64))])] [zdh] y1z (R := yz1 × Int) (fun x => (x.1, x.2.1)) (fun r => (r.1, r.2, r.1, r.2, ())) (fun n x => z3t n x.1 x.2.1)
 (fun n => []) (ann [] (Tryz.f168.body.getD .skip) 0).1
noncomputable def y0f : List (FI dat) := [z47, zdb, z2c]
theorem y3b : (zb5).Good Tryz.prog dat (tb y0f) := FI.zno (hD := zz2 _) Tryz.func168 Tryz.ntmps168 Tryz.call168 (by kernel_rfl) (of_decide_eq_true (by kernel_rfl)) (by kernel_rfl) (fun n => by kernel_rfl) ⟨zdy, trivial⟩ (fun x => by kernel_rfl) (fun _ => rfl) trivial
 (fun n => fun x => (z3t.eq_2 x.1 x.2.1 n).trans (by kernel_rfl))
 (fun n => trivial)
 (fun x => by kernel_rfl)
theorem y2t : OkL Tryz.prog [zb5] := zzb (zz2 _) (bs := [z47, zdb, z2c]) ⟨zdm, y1i, zaq, trivial⟩ y3b
theorem zyr : FOk Tryz.prog zb5 := y2t.1
def z6b : Nat → yz1 → yz1 → Option (Int × yz1)
 | 0, _, _ => none
 | n + 1, a0, a1 =>
   (z3t n a0 a1).bind fun y0 =>
   some (y0.2, y0.1)
def yd9 : LSh := ⟨[(4, (.ptr 0 0)), (5, (.d (.int .i64)))], [(.st 2)], 0, 11⟩
noncomputable def zha : FI dat := FI.of dat 143 11 0 [(.d (.st 2)), (.d (.st 2))] [] [(.d (.st 2)), (.d (.int .i64))] [] true yd9 (R := Int × yz1) (fun x => (x.1, x.2.1)) (fun r => (r.2, r.1, ())) (fun n x => z6b n x.1 x.2.1)
 (fun n => []) (ann [] (Tryz.f143.body.getD .skip) 0).1
noncomputable def yec : List (FI dat) := [zb5]
theorem yd0 : (zha).Good Tryz.prog dat (tb yec) := FI.yz4 (hD := zz2 _) Tryz.func143 Tryz.ntmps143 Tryz.call143 (by kernel_rfl) (of_decide_eq_true (by kernel_rfl)) (by kernel_rfl) (fun n => by kernel_rfl) (fun x => by kernel_rfl) (fun _ => rfl) trivial
 (fun n => fun x => (z6b.eq_2 x.1 x.2.1 n).trans (by kernel_rfl))
 (fun n => trivial)
 (fun x => .inl rfl)
theorem ye5 : OkL Tryz.prog [zha] := zzb (zz2 _) (bs := [zb5]) ⟨zyr, trivial⟩ yd0
theorem y8y : FOk Tryz.prog zha := ye5.1
def z4u : Nat → yz1 → yz1 → Option (Int × Int)
 | 0, _, _ => none
 | n + 1, a0, a1 =>
   some ((IntKind.i64.wrap (a0.num * a1.den)), (IntKind.i64.wrap (a0.den * a1.num)))
def y41 : LSh := ⟨[(4, (.d (.int .i64))), (5, (.d (.int .i64)))], [], 0, 16⟩
noncomputable def zd8 : FI dat := FI.of dat 171 16 0 [(.d (.st 2)), (.d (.st 2))] [] [(.d (.int .i64)), (.d (.int .i64))] [] true y41 (R := Int × Int) (fun x => (x.1, x.2.1)) (fun r => (r.1, r.2, ())) (fun n x => z4u n x.1 x.2.1)
 (fun n => []) (ann [] (Tryz.f171.body.getD .skip) 0).1
noncomputable def y3z : List (FI dat) := []
theorem y5w : (zd8).Good Tryz.prog dat (tb y3z) := FI.yz4 (hD := zz2 _) Tryz.func171 Tryz.ntmps171 Tryz.call171 (by kernel_rfl) (of_decide_eq_true (by kernel_rfl)) (by kernel_rfl) (fun n => by kernel_rfl) (fun x => by kernel_rfl) (fun _ => rfl) trivial
 (fun n => fun x => (z4u.eq_2 x.1 x.2.1 n).trans (by kernel_rfl))
 (fun n => trivial)
 (fun x => .inl rfl)
theorem y3r : OkL Tryz.prog [zd8] := zzb (zz2 _) (bs := []) trivial y5w
theorem y1m : FOk Tryz.prog zd8 := y3r.1
def z3o : Nat → yz1 → yz1 → Option (yz1 × Int)
 | 0, _, _ => none
 | n + 1, a0, a1 =>
   (z1n n a0 a1).bind fun y0 =>
   pIf (y0.e == 0)
     ((z4u n y0.a y0.b).bind fun y1 =>
     (z04 n y1.1 y1.2 y0).bind fun y2 =>
     (((zzl 9 y2.a.num y2.a.den y2.b.num y2.b.den y2.out.num y2.out.den y2.e 0 0 0).bind fun r4 => some (r4.1, r4.2.1, r4.2.2.1, r4.2.2.2.1, r4.2.2.2.2.1, r4.2.2.2.2.2.1, r4.2.2.2.2.2.2.1, r4.2.2.2.2.2.2.2.1, r4.2.2.2.2.2.2.2.2.1, r4.2.2.2.2.2.2.2.2.2, ()))).bind fun y3 =>
     some ((yz1.mk y3.2.2.2.2.2.2.2.1 y3.2.2.2.2.2.2.2.2.1), y3.2.2.2.2.2.2.2.2.2.1))
     ((((zzl 9 y0.a.num y0.a.den y0.b.num y0.b.den y0.out.num y0.out.den y0.e 0 0 0).bind fun r6 => some (r6.1, r6.2.1, r6.2.2.1, r6.2.2.2.1, r6.2.2.2.2.1, r6.2.2.2.2.2.1, r6.2.2.2.2.2.2.1, r6.2.2.2.2.2.2.2.1, r6.2.2.2.2.2.2.2.2.1, r6.2.2.2.2.2.2.2.2.2, ()))).bind fun y5 =>
     some ((yz1.mk y5.2.2.2.2.2.2.2.1 y5.2.2.2.2.2.2.2.2.1), y5.2.2.2.2.2.2.2.2.2.1))
def y3j : LSh := ⟨[(6, (.ptr 0 0)), (7, (.ptr 1 0))], [(.st 2), (.cells [(.d (.int .i64))])], 0, 27⟩
noncomputable def zbi : FI dat := FI.ofD dat 168 27 0 [(.d (.st 2)), (.d (.st 2)), (.fn 171 [] [])] [] [(.d (.st 2)), (.d (.int .i64))] [(.st 2), (.cells [(.d (.int .i64))])] [zdh] y3j (R := yz1 × Int) (fun x => (x.1, x.2.1)) (fun r => (r.1, r.2, r.1, r.2, ())) (fun n x => z3o n x.1 x.2.1)
 (fun n => []) (ann [] (Tryz.f168.body.getD .skip) 0).1
noncomputable def y1o : List (FI dat) := [z47, zd8, z2c]
theorem y2a : (zbi).Good Tryz.prog dat (tb y1o) := FI.zno (hD := zz2 _) Tryz.func168 Tryz.ntmps168 Tryz.call168 (by kernel_rfl) (of_decide_eq_true (by kernel_rfl)) (by kernel_rfl) (fun n => by kernel_rfl) ⟨zdy, trivial⟩ (fun x => by kernel_rfl) (fun _ => rfl) trivial
 (fun n => fun x => (z3o.eq_2 x.1 x.2.1 n).trans (by kernel_rfl))
 (fun n => trivial)
 (fun x => by kernel_rfl)
theorem y31 : OkL Tryz.prog [zbi] := zzb (zz2 _) (bs := [z47, zd8, z2c]) ⟨zdm, y1m, zaq, trivial⟩ y2a
theorem zyu : FOk Tryz.prog zbi := y31.1
end Go.Proofs.YtfhpamcehnfhoaaGreatDoor


namespace Go.Proofs.YtfhpamcehnfhoaaGreatDoor
open Go Go.Ab
set_option linter.unusedVariables false
set_option maxRecDepth 100000
def z6f : Nat → yz1 → yz1 → Option (Int × yz1)
 | 0, _, _ => none
 | n + 1, a0, a1 =>
   (z3o n a0 a1).bind fun y0 =>
   some (y0.2, y0.1)
def yg2 : LSh := ⟨[(4, (.ptr 0 0)), (5, (.d (.int .i64)))], [(.st 2)], 0, 11⟩
noncomputable def zhh : FI dat := FI.of dat 144 11 0 [(.d (.st 2)), (.d (.st 2))] [] [(.d (.st 2)), (.d (.int .i64))] [] true yg2 (R := Int × yz1) (fun x => (x.1, x.2.1)) (fun r => (r.2, r.1, ())) (fun n x => z6f n x.1 x.2.1)
 (fun n => []) (ann [] (Tryz.f144.body.getD .skip) 0).1
noncomputable def yei : List (FI dat) := [zbi]
theorem yfx : (zhh).Good Tryz.prog dat (tb yei) := FI.yz4 (hD := zz2 _) Tryz.func144 Tryz.ntmps144 Tryz.call144 (by kernel_rfl) (of_decide_eq_true (by kernel_rfl)) (by kernel_rfl) (fun n => by kernel_rfl) (fun x => by kernel_rfl) (fun _ => rfl) trivial
 (fun n => fun x => (z6f.eq_2 x.1 x.2.1 n).trans (by kernel_rfl))
 (fun n => trivial)
 (fun x => .inl rfl)
theorem yfg : OkL Tryz.prog [zhh] := zzb (zz2 _) (bs := [zbi]) ⟨zyu, trivial⟩ yfx
theorem y9c : FOk Tryz.prog zhh := yfg.1
def z0y : Nat → Bool → Option zz0
 | 0, _ => none
 | n + 1, a0 =>
   some (zz0.mk 2 (yz1.mk 0 0) a0 [] [])
def ybx : LSh := ⟨[(2, (.ptr 0 0))], [(.st 3)], 0, 5⟩
noncomputable def zf3 : FI dat := FI.of dat 104 5 0 [(.d .bool)] [] [(.d (.st 3))] [] true ybx (R := zz0) (fun x => x.1) (fun r => (r, ())) (fun n x => z0y n x.1)
 (fun n => []) (ann [] (Tryz.f104.body.getD .skip) 0).1
noncomputable def ybj : List (FI dat) := []
theorem y9v : (zf3).Good Tryz.prog dat (tb ybj) := FI.yz4 (hD := zz2 _) Tryz.func104 Tryz.ntmps104 Tryz.call104 (by kernel_rfl) (of_decide_eq_true (by kernel_rfl)) (by kernel_rfl) (fun n => by kernel_rfl) (fun x => by kernel_rfl) (fun _ => rfl) trivial
 (fun n => fun x => (z0y.eq_2 x.1 n).trans (by kernel_rfl))
 (fun n => trivial)
 (fun x => .inl rfl)
theorem y8o : OkL Tryz.prog [zf3] := zzb (zz2 _) (bs := []) trivial y9v
theorem y6w : FOk Tryz.prog zf3 := y8o.1
def z0q : Nat → Int → Option Bool
 | 0, _ => none
 | n + 1, a0 =>
   some (a0 != a0)
def zvf : LSh := ⟨[(2, (.d .bool))], [], 0, 6⟩
noncomputable def z8l : FI dat := FI.of dat 201 6 0 [(.d (.int .i64))] [] [(.d .bool)] [] true zvf (R := Bool) (fun x => x.1) (fun r => (r, ())) (fun n x => z0q n x.1)
 (fun n => []) (ann [] (Tryz.f201.body.getD .skip) 0).1
noncomputable def zvb : List (FI dat) := []
theorem zut : (z8l).Good Tryz.prog dat (tb zvb) := FI.yz4 (hD := zz2 _) Tryz.func201 Tryz.ntmps201 Tryz.call201 (by kernel_rfl) (of_decide_eq_true (by kernel_rfl)) (by kernel_rfl) (fun n => by kernel_rfl) (fun x => by kernel_rfl) (fun _ => rfl) trivial
 (fun n => fun x => (z0q.eq_2 x.1 n).trans (by kernel_rfl))
 (fun n => trivial)
 (fun x => .inl rfl)
theorem zuh : OkL Tryz.prog [z8l] := zzb (zz2 _) (bs := []) trivial zut
theorem zu0 : FOk Tryz.prog z8l := zuh.1
def z0f : Nat → Int → Int → Option Int
 | 0, _, _ => none
 | n + 1, a0, a1 =>
   (z0q n a0).bind fun y0 =>
   (z0q n a1).bind fun y1 =>
   pIf y0
     (pIf y1
       (some 0)
       (some (-1)))
     (pIf y1
       (some 1)
       (pIf (decide (a0 < a1))
         (some (-1))
         (pIf (decide (a0 > a1))
           (some 1)
           (some 0))))
def zt2 : LSh := ⟨[(4, (.d (.int .i64)))], [], 0, 20⟩
noncomputable def z7c : FI dat := FI.of dat 194 20 0 [(.d (.int .i64)), (.d (.int .i64))] [] [(.d (.int .i64))] [] true zt2 (R := Int) (fun x => x.1) (fun r => (r, ())) (fun n x => z0f n x.1 x.2.1)
 (fun n => []) (ann [] (Tryz.f194.body.getD .skip) 0).1
noncomputable def zsu : List (FI dat) := [z8l]
theorem zsp : (z7c).Good Tryz.prog dat (tb zsu) := FI.yz4 (hD := zz2 _) Tryz.func194 Tryz.ntmps194 Tryz.call194 (by kernel_rfl) (of_decide_eq_true (by kernel_rfl)) (by kernel_rfl) (fun n => by kernel_rfl) (fun x => by kernel_rfl) (fun _ => rfl) trivial
 (fun n => fun x => (z0f.eq_2 x.1 x.2.1 n).trans (by kernel_rfl))
 (fun n => trivial)
 (fun x => .inl rfl)
theorem zsw : OkL Tryz.prog [z7c] := zzb (zz2 _) (bs := [z8l]) ⟨zu0, trivial⟩ zsp
theorem zrm : FOk Tryz.prog z7c := zsw.1
def z6a : Nat → yz1 → yz1 → Option (Int × Int)
 | 0, _, _ => none
 | n + 1, a0, a1 =>
   (z1n n a0 a1).bind fun y0 =>
   pIf (y0.e != 0)
     (some (0, y0.e))
     ((z0f n (IntKind.i64.wrap (a0.num * a1.den)) (IntKind.i64.wrap (a1.num * a0.den))).bind fun y1 =>
     some (y1, 0))
def yg7 : LSh := ⟨[(4, (.d (.int .i64))), (5, (.d (.int .i64)))], [], 0, 26⟩
noncomputable def zhr : FI dat := FI.of dat 185 26 0 [(.d (.st 2)), (.d (.st 2))] [] [(.d (.int .i64)), (.d (.int .i64))] [] true yg7 (R := Int × Int) (fun x => (x.1, x.2.1)) (fun r => (r.1, r.2, ())) (fun n x => z6a n x.1 x.2.1)
 (fun n => []) (ann [] (Tryz.f185.body.getD .skip) 0).1
noncomputable def yg9 : List (FI dat) := [z47, z7c]
theorem ycz : (zhr).Good Tryz.prog dat (tb yg9) := FI.yz4 (hD := zz2 _) Tryz.func185 Tryz.ntmps185 Tryz.call185 (by kernel_rfl) (of_decide_eq_true (by kernel_rfl)) (by kernel_rfl) (fun n => by kernel_rfl) (fun x => by kernel_rfl) (fun _ => rfl) trivial
 (fun n => fun x => (z6a.eq_2 x.1 x.2.1 n).trans (by kernel_rfl))
 (fun n => trivial)
 (fun x => .inl rfl)
theorem ye9 : OkL Tryz.prog [zhr] := zzb (zz2 _) (bs := [z47, z7c]) ⟨zdm, zrm, trivial⟩ ycz
theorem yar : FOk Tryz.prog zhr := ye9.1
def z09 : Nat → (List UInt8) → (List UInt8) → Option Int
 | 0, _, _ => none
 | n + 1, a0, a1 =>
   (zzm n a0 a1).bind fun y0 =>
   some y0
def zue : LSh := ⟨[(4, (.d (.int .i64)))], [], 0, 8⟩
noncomputable def z8k : FI dat := FI.of dat 186 8 0 [(.d .str), (.d .str)] [] [(.d (.int .i64))] [] true zue (R := Int) (fun x => x.1) (fun r => (r, ())) (fun n x => z09 n x.1 x.2.1)
 (fun n => []) (ann [] (Tryz.f186.body.getD .skip) 0).1
noncomputable def zvn : List (FI dat) := [z1a]
theorem zv4 : (z8k).Good Tryz.prog dat (tb zvn) := FI.yz4 (hD := zz2 _) Tryz.func186 Tryz.ntmps186 Tryz.call186 (by kernel_rfl) (of_decide_eq_true (by kernel_rfl)) (by kernel_rfl) (fun n => by kernel_rfl) (fun x => by kernel_rfl) (fun _ => rfl) trivial
 (fun n => fun x => (z09.eq_2 x.1 x.2.1 n).trans (by kernel_rfl))
 (fun n => trivial)
 (fun x => .inl rfl)
theorem zv7 : OkL Tryz.prog [z8k] := zzb (zz2 _) (bs := [z1a]) ⟨z8c, trivial⟩ zv4
theorem zu3 : FOk Tryz.prog z8k := zv7.1
mutual
def z0c : Nat → zz0 → zz0 → Option (Int × Int)
 | 0, _, _ => none
 | n + 1, a0, a1 =>
   pIf (a0.kind != a1.kind)
     (some (0, 20))
     (pIf (a0.kind == 1)
       ((z6a n a0.num a1.num).bind fun y0 =>
       some (y0.1, y0.2))
       (pIf (a0.kind == 2)
         (pIf (a0.truth == a1.truth)
           (some (0, 0))
           (pIf a0.truth
             (some (1, 0))
             (some ((-1), 0))))
         (pIf (a0.kind == 3)
           ((z09 n a0.str a1.str).bind fun y1 =>
           some (y1, 0))
           (yzj n 0 a0.list (a0.list.length : Int) a1.re a0.re))))
def yzj : Nat → Int → (List zz0) → Int → zz0 → zz0 → Option (Int × Int)
 | 0, _, _, _, _, _ => none
 | n + 1, a0, a1, a2, a3, a4 =>
   pIf (decide (a0 < a2))
     ((ix a1 a0).bind fun x2 =>
     pIf (a0 == (a3.list.length : Int))
       (some (1, 0))
       ((ix a3.list a0).bind fun x3 =>
       (z0e n x2.re x3.re).bind fun y4 =>
       pIf (!y4)
         ((ix a3.list a0).bind fun x5 =>
         (z0c n x2.re x5.re).bind fun y6 =>
         some (y6.1, y6.2))
         (yzj n (IntKind.i64.wrap (a0 + 1)) a1 a2 a3.re a4.re)))
     (pIf (decide ((a4.list.length : Int) < (a3.list.length : Int)))
       (some ((-1), 0))
       (some (0, 0)))
end
def y6k : LSh := ⟨[(4, (.d (.int .i64))), (5, (.d (.int .i64)))], [], 0, 80⟩
noncomputable def zag : FI dat := FI.of dat 172 80 0 [(.d (.st 3)), (.d (.st 3))] [] [(.d (.int .i64)), (.d (.int .i64))] [] true y6k (R := Int × Int) (fun x => (x.1, x.2.1)) (fun r => (r.1, r.2, ())) (fun n x => z0c n x.1 x.2.1)
 (fun n => [(0, ⟨⟨[(3, (.ptr 0 0)), (45, (.d (.int .i64))), (43, (.d (.sl (.st 3)))), (2, (.ptr 1 0)), (44, (.d (.int .i64)))], [(.st 3), (.st 3)], 0, 80⟩, fun x => yzj n x.1 x.2.1 x.2.2.1 x.2.2.2.1 x.2.2.2.2.1⟩)]) (ann [(52, 0)] (Tryz.f172.body.getD .skip) 0).1
noncomputable def y6t : List (FI dat) := [zag] ++ [zhr, z8k, z52]
theorem y53 : (zag).Good Tryz.prog dat (tb y6t) := FI.yz4 (hD := zz2 _) Tryz.func172 Tryz.ntmps172 Tryz.call172 (by kernel_rfl) (of_decide_eq_true (by kernel_rfl)) (by kernel_rfl) (fun n => by kernel_rfl) (fun x => by kernel_rfl) (fun _ => rfl) ⟨fun _ => rfl, trivial⟩
 (fun n => fun x => (z0c.eq_2 x.1 x.2.1 n).trans (by kernel_rfl))
 (fun n => ⟨fun x => (yzj.eq_2 x.1 x.2.1 x.2.2.1 x.2.2.2.1 x.2.2.2.2.1 n).trans (by kernel_rfl),
  trivial⟩)
 (fun x => .inl rfl)
theorem y5j : OkL Tryz.prog [zag] := z3y (zz2 _) (bs := [zhr, z8k, z52]) ⟨yar, zu3, zgr, trivial⟩ ⟨y53, trivial⟩
theorem y2l : FOk Tryz.prog zag := y5j.1
def z15 : Nat → zz0 → zz0 → Option (Int × Int)
 | 0, _, _ => none
 | n + 1, a0, a1 =>
   (z33 n a0.re a1.re).bind fun y0 =>
   pIf (y0 != 0)
     (some (0, y0))
     ((z0c n a0.re a1.re).bind fun y1 =>
     some (y1.1, y1.2))
def zyi : LSh := ⟨[(4, (.d (.int .i64))), (5, (.d (.int .i64)))], [], 0, 18⟩
noncomputable def za6 : FI dat := FI.of dat 145 18 0 [(.d (.st 3)), (.d (.st 3))] [] [(.d (.int .i64)), (.d (.int .i64))] [] true zyi (R := Int × Int) (fun x => (x.1, x.2.1)) (fun r => (r.1, r.2, ())) (fun n x => z15 n x.1 x.2.1)
 (fun n => []) (ann [] (Tryz.f145.body.getD .skip) 0).1
noncomputable def y00 : List (FI dat) := [za1, zag]
theorem zys : (za6).Good Tryz.prog dat (tb y00) := FI.yz4 (hD := zz2 _) Tryz.func145 Tryz.ntmps145 Tryz.call145 (by kernel_rfl) (of_decide_eq_true (by kernel_rfl)) (by kernel_rfl) (fun n => by kernel_rfl) (fun x => by kernel_rfl) (fun _ => rfl) trivial
 (fun n => fun x => (z15.eq_2 x.1 x.2.1 n).trans (by kernel_rfl))
 (fun n => trivial)
 (fun x => .inl rfl)
theorem zym : OkL Tryz.prog [za6] := zzb (zz2 _) (bs := [za1, zag]) ⟨ztf, y2l, trivial⟩ zys
theorem zx6 : FOk Tryz.prog za6 := zym.1
mutual
def z4w : Nat → Int → Int → Option Int
 | 0, _, _ => none
 | n + 1, a0, a1 =>
   (quo .i64 a0 a1).bind fun x0 =>
   (rem .i64 a0 a1).bind fun x1 =>
   pIf (decide (x1 < 0))
     (z1h n (IntKind.i64.wrap (x0 - 1)))
     (z1h n x0)
def z1h : Nat → Int → Option Int
 | 0, _ => none
 | n + 1, a0 =>
   some a0
end
def y3s : LSh := ⟨[(4, (.d (.int .i64)))], [], 0, 16⟩
noncomputable def zdc : FI dat := FI.of dat 173 16 0 [(.d (.int .i64)), (.d (.int .i64))] [] [(.d (.int .i64))] [] true y3s (R := Int) (fun x => x.1) (fun r => (r, ())) (fun n x => z4w n x.1 x.2.1)
 (fun n => [(0, ⟨⟨[(5, (.d (.int .i64)))], [], 0, 16⟩, fun x => z1h n x.1⟩)]) (ann [(10, 0)] (Tryz.f173.body.getD .skip) 0).1
noncomputable def y6d : List (FI dat) := []
theorem y3n : (zdc).Good Tryz.prog dat (tb y6d) := FI.yz4 (hD := zz2 _) Tryz.func173 Tryz.ntmps173 Tryz.call173 (by kernel_rfl) (of_decide_eq_true (by kernel_rfl)) (by kernel_rfl) (fun n => by kernel_rfl) (fun x => by kernel_rfl) (fun _ => rfl) ⟨fun _ => rfl, trivial⟩
 (fun n => fun x => (z4w.eq_2 x.1 x.2.1 n).trans (by kernel_rfl))
 (fun n => ⟨fun x => (z1h.eq_2 x.1 n).trans (by kernel_rfl),
  trivial⟩)
 (fun x => .inl rfl)
theorem y5c : OkL Tryz.prog [zdc] := zzb (zz2 _) (bs := []) trivial y3n
theorem y1q : FOk Tryz.prog zdc := y5c.1
def z4s : Nat → yz1 → Option (Int × Int)
 | 0, _ => none
 | n + 1, a0 =>
   (z2e n a0).bind fun y0 =>
   pIf (y0 != 0)
     (some (0, y0))
     ((z4w n a0.num a0.den).bind fun y1 =>
     some (y1, 0))
def y4p : LSh := ⟨[(2, (.d (.int .i64))), (3, (.d (.int .i64)))], [], 0, 15⟩
noncomputable def zdn : FI dat := FI.of dat 146 15 0 [(.d (.st 2))] [] [(.d (.int .i64)), (.d (.int .i64))] [] true y4p (R := Int × Int) (fun x => (x.1, x.2.1)) (fun r => (r.1, r.2, ())) (fun n x => z4s n x.1)
 (fun n => []) (ann [] (Tryz.f146.body.getD .skip) 0).1
noncomputable def y4f : List (FI dat) := [z69, zdc]
theorem y5r : (zdn).Good Tryz.prog dat (tb y4f) := FI.yz4 (hD := zz2 _) Tryz.func146 Tryz.ntmps146 Tryz.call146 (by kernel_rfl) (of_decide_eq_true (by kernel_rfl)) (by kernel_rfl) (fun n => by kernel_rfl) (fun x => by kernel_rfl) (fun _ => rfl) trivial
 (fun n => fun x => (z4s.eq_2 x.1 n).trans (by kernel_rfl))
 (fun n => trivial)
 (fun x => .inl rfl)
theorem y3u : OkL Tryz.prog [zdn] := zzb (zz2 _) (bs := [z69, zdc]) ⟨zkb, y1q, trivial⟩ y5r
theorem y1a : FOk Tryz.prog zdn := y3u.1
end Go.Proofs.YtfhpamcehnfhoaaGreatDoor


namespace Go.Proofs.YtfhpamcehnfhoaaGreatDoor
open Go Go.Ab
set_option linter.unusedVariables false
set_option maxRecDepth 100000
def z3c : Nat → zz0 → Option (Int × Int)
 | 0, _ => none
 | n + 1, a0 =>
   (yzx n a0.re).bind fun y0 =>
   pIf (y0 != 0)
     (some (0, y0))
     (pIf (a0.kind == 3)
       (some ((a0.str.length : Int), 0))
       (pIf (a0.kind == 4)
         (some ((a0.list.length : Int), 0))
         (some (0, 20))))
def yg5 : LSh := ⟨[(2, (.d (.int .i64))), (3, (.d (.int .i64)))], [], 0, 22⟩
noncomputable def zbd : FI dat := FI.of dat 148 22 0 [(.d (.st 3))] [] [(.d (.int .i64)), (.d (.int .i64))] [] true yg5 (R := Int × Int) (fun x => (x.1, x.2.1)) (fun r => (r.1, r.2, ())) (fun n x => z3c n x.1)
 (fun n => []) (ann [] (Tryz.f148.body.getD .skip) 0).1
noncomputable def yea : List (FI dat) := [z1m]
theorem yg3 : (zbd).Good Tryz.prog dat (tb yea) := FI.yz4 (hD := zz2 _) Tryz.func148 Tryz.ntmps148 Tryz.call148 (by kernel_rfl) (of_decide_eq_true (by kernel_rfl)) (by kernel_rfl) (fun n => by kernel_rfl) (fun x => by kernel_rfl) (fun _ => rfl) trivial
 (fun n => fun x => (z3c.eq_2 x.1 n).trans (by kernel_rfl))
 (fun n => trivial)
 (fun x => .inl rfl)
theorem yf1 : OkL Tryz.prog [zbd] := zzb (zz2 _) (bs := [z1m]) ⟨z9e, trivial⟩ yg3
theorem zv2 : FOk Tryz.prog zbd := yf1.1
def z3r : Nat → zz0 → Option zz0
 | 0, _ => none
 | n + 1, a0 =>
   (z1u n a0.re).bind fun y0 =>
   some y0.re
def y9x : LSh := ⟨[(2, (.ptr 0 0))], [(.st 3)], 0, 8⟩
noncomputable def z7l : FI dat := FI.of dat 81 8 0 [(.d (.st 3))] [] [(.d (.st 3))] [] true y9x (R := zz0) (fun x => x.1) (fun r => (r, ())) (fun n x => z3r n x.1)
 (fun n => []) (ann [] (Tryz.f81.body.getD .skip) 0).1
noncomputable def ya6 : List (FI dat) := [z6q]
theorem yab : (z7l).Good Tryz.prog dat (tb ya6) := FI.yz4 (hD := zz2 _) Tryz.func81 Tryz.ntmps81 Tryz.call81 (by kernel_rfl) (of_decide_eq_true (by kernel_rfl)) (by kernel_rfl) (fun n => by kernel_rfl) (fun x => by kernel_rfl) (fun _ => rfl) trivial
 (fun n => fun x => (z3r.eq_2 x.1 n).trans (by kernel_rfl))
 (fun n => trivial)
 (fun x => .inl rfl)
theorem yb1 : OkL Tryz.prog [z7l] := zzb (zz2 _) (bs := [z6q]) ⟨zpt, trivial⟩ yab
theorem zms : FOk Tryz.prog z7l := yb1.1
mutual
def z5p : Nat → zz0 → Int → Option (Int × zz0)
 | 0, _, _ => none
 | n + 1, a0, a1 =>
   (z3c n a0.re).bind fun y0 =>
   pIf (y0.2 != 0)
     (some (y0.2, (zz0.mk 0 (yz1.mk 0 0) false [] [])))
     (pIf (decide (a1 < 0))
       (z2m n a1 true (zz0.mk 0 (yz1.mk 0 0) false [] []) a0.re)
       (z2m n a1 (decide (a1 ≥ y0.1)) (zz0.mk 0 (yz1.mk 0 0) false [] []) a0.re))
def z2m : Nat → Int → Bool → zz0 → zz0 → Option (Int × zz0)
 | 0, _, _, _, _ => none
 | n + 1, a0, a1, a2, a3 =>
   pIf a1
     (some (2, (zz0.mk 0 (yz1.mk 0 0) false [] [])))
     (pIf (a3.kind == 4)
       ((ix a3.list a0).bind fun x1 =>
       (z3r n x1.re).bind fun y2 =>
       some (0, y2.re))
       ((sub a3.str a0 (IntKind.i64.wrap (a0 + 1))).bind fun x3 =>
       some (0, (zz0.mk 3 (yz1.mk 0 0) false x3 []))))
end
def yix : LSh := ⟨[(4, (.ptr 0 0)), (5, (.d (.int .i64)))], [(.st 3)], 0, 41⟩
noncomputable def zkv : FI dat := FI.of dat 149 41 0 [(.d (.st 3)), (.d (.int .i64))] [] [(.d (.st 3)), (.d (.int .i64))] [] true yix (R := Int × zz0) (fun x => (x.1, x.2.1)) (fun r => (r.2, r.1, ())) (fun n x => z5p n x.1 x.2.1)
 (fun n => [(0, ⟨⟨[(4, (.ptr 0 0)), (1, (.d (.int .i64))), (2, (.ptr 1 0)), (23, (.d .bool))], [(.st 3), (.st 3)], 0, 41⟩, fun x => z2m n x.1 x.2.1 x.2.2.1 x.2.2.2.1⟩)]) (ann [(15, 0)] (Tryz.f149.body.getD .skip) 0).1
noncomputable def yis : List (FI dat) := [zbd, z7l]
theorem yh8 : (zkv).Good Tryz.prog dat (tb yis) := FI.yz4 (hD := zz2 _) Tryz.func149 Tryz.ntmps149 Tryz.call149 (by kernel_rfl) (of_decide_eq_true (by kernel_rfl)) (by kernel_rfl) (fun n => by kernel_rfl) (fun x => by kernel_rfl) (fun _ => rfl) ⟨fun _ => rfl, trivial⟩
 (fun n => fun x => (z5p.eq_2 x.1 x.2.1 n).trans (by kernel_rfl))
 (fun n => ⟨fun x => (z2m.eq_2 x.1 x.2.1 x.2.2.1 x.2.2.2.1 n).trans (by kernel_rfl),
  trivial⟩)
 (fun x => .inl rfl)
theorem yiz : OkL Tryz.prog [zkv] := zzb (zz2 _) (bs := [zbd, z7l]) ⟨zv2, zms, trivial⟩ yh8
theorem yde : FOk Tryz.prog zkv := yiz.1
mutual
def z2p : Nat → Int → (List zz0) → Option (Res (Int × Unit) zz0)
 | 0, _, _ => none
 | n + 1, a0, a1 =>
   pIf (a0 == 3)
     ((ix a1 0).bind fun x0 =>
     (ix a1 1).bind fun x1 =>
     (z4x n x0.re x1.re).bind fun y2 =>
     (zzx n y2.1).bind fun y3 =>
     z8s y3 (fun r4 =>
       some (Res.ok y2.2.re))
       (fun e5 =>
       some (Res.pan (e5.1, ()))))
     (pIf (a0 == 4)
       ((kzl n 1 a1).bind fun y6 =>
       z8s y6 (fun r7 =>
         (ix a1 0).bind fun x8 =>
         (ix a1 1).bind fun x9 =>
         (z6c n x8.num x9.num).bind fun y10 =>
         (z0t n y10.2 y10.1).bind fun y11 =>
         z8s y11 (fun r12 =>
           some (Res.ok r12.re))
           (fun e13 =>
           some (Res.pan (e13.1, ()))))
         (fun e14 =>
         some (Res.pan (e14.1, ()))))
       (pIf (a0 == 5)
         ((kzl n 1 a1).bind fun y15 =>
         z8s y15 (fun r16 =>
           (ix a1 0).bind fun x17 =>
           (ix a1 1).bind fun x18 =>
           (z6b n x17.num x18.num).bind fun y19 =>
           (z0t n y19.2 y19.1).bind fun y20 =>
           z8s y20 (fun r21 =>
             some (Res.ok r21.re))
             (fun e22 =>
             some (Res.pan (e22.1, ()))))
           (fun e23 =>
           some (Res.pan (e23.1, ()))))
         (pIf (a0 == 6)
           ((kzl n 1 a1).bind fun y24 =>
           z8s y24 (fun r25 =>
             (ix a1 0).bind fun x26 =>
             (ix a1 1).bind fun x27 =>
             (z6f n x26.num x27.num).bind fun y28 =>
             (z0t n y28.2 y28.1).bind fun y29 =>
             z8s y29 (fun r30 =>
               some (Res.ok r30.re))
               (fun e31 =>
               some (Res.pan (e31.1, ()))))
             (fun e32 =>
             some (Res.pan (e32.1, ()))))
           (pIf (a0 == 8)
             ((ix a1 0).bind fun x33 =>
             (ix a1 1).bind fun x34 =>
             (z0e n x33.re x34.re).bind fun y35 =>
             (z0y n y35).bind fun y36 =>
             some (Res.ok y36.re))
             (pIf (a0 == 7)
               (z17 n a1 a0 a0 true (zz0.mk 0 (yz1.mk 0 0) false [] []))
               (pIf (a0 == 13)
                 (z17 n a1 a0 a0 true (zz0.mk 0 (yz1.mk 0 0) false [] []))
                 (z17 n a1 a0 a0 (a0 == 14) (zz0.mk 0 (yz1.mk 0 0) false [] []))))))))
def z17 : Nat → (List zz0) → Int → Int → Bool → zz0 → Option (Res (Int × Unit) zz0)
 | 0, _, _, _, _, _ => none
 | n + 1, a0, a1, a2, a3, a4 =>
   pIf a3
     ((ix a0 0).bind fun x37 =>
     (ix a0 1).bind fun x38 =>
     (z15 n x37.re x38.re).bind fun y39 =>
     (zzx n y39.2).bind fun y40 =>
     z8s y40 (fun r41 =>
       pIf (a1 == 7)
         ((z0y n (decide (y39.1 < 0))).bind fun y42 =>
         some (Res.ok y42.re))
         (pIf ((a1 == 13) == (decide (y39.1 ≤ 0)))
           (z2b n a0 true a4.re)
           (z2b n a0 (y39.1 == 0) a4.re)))
       (fun e43 =>
       some (Res.pan (e43.1, ()))))
     (pIf (a2 == 9)
       ((kzl n 2 a0).bind fun y44 =>
       z8s y44 (fun r45 =>
         (ix a0 0).bind fun x46 =>
         pIf x46.truth
           ((ix a0 1).bind fun x47 =>
           (z0y n x47.truth).bind fun y48 =>
           some (Res.ok y48.re))
           ((z0y n false).bind fun y49 =>
           some (Res.ok y49.re)))
         (fun e50 =>
         some (Res.pan (e50.1, ()))))
       (pIf (a2 == 10)
         ((kzl n 2 a0).bind fun y51 =>
         z8s y51 (fun r52 =>
           (ix a0 0).bind fun x53 =>
           pIf x53.truth
             ((z0y n true).bind fun y54 =>
             some (Res.ok y54.re))
             ((ix a0 1).bind fun x55 =>
             (z0y n x55.truth).bind fun y56 =>
             some (Res.ok y56.re)))
           (fun e57 =>
           some (Res.pan (e57.1, ()))))
         (pIf (a2 == 11)
           ((kzl n 2 a0).bind fun y58 =>
           z8s y58 (fun r59 =>
             (ix a0 0).bind fun x60 =>
             (z0y n (!x60.truth)).bind fun y61 =>
             some (Res.ok y61.re))
             (fun e62 =>
             some (Res.pan (e62.1, ()))))
           (pIf (a2 == 15)
             ((kzl n 1 a0).bind fun y63 =>
             z8s y63 (fun r64 =>
               (ix a0 0).bind fun x65 =>
               (z4s n x65.num).bind fun y66 =>
               (z2q n y66.1 1).bind fun y67 =>
               (z0t n y67.2 y67.1).bind fun y68 =>
               z8s y68 (fun r69 =>
                 some (Res.ok r69.re))
                 (fun e70 =>
                 some (Res.pan (e70.1, ()))))
               (fun e71 =>
               some (Res.pan (e71.1, ()))))
             (pIf (a2 == 16)
               ((ix a0 0).bind fun x72 =>
               (z3c n x72.re).bind fun y73 =>
               (zzx n y73.2).bind fun y74 =>
               z8s y74 (fun r75 =>
                 (z2q n y73.1 1).bind fun y76 =>
                 (z0t n y76.2 y76.1).bind fun y77 =>
                 z8s y77 (fun r78 =>
                   some (Res.ok r78.re))
                   (fun e79 =>
                   some (Res.pan (e79.1, ()))))
                 (fun e80 =>
                 some (Res.pan (e80.1, ()))))
               (pIf (a2 == 17)
                 ((ix a0 0).bind fun x81 =>
                 (z3c n x81.re).bind fun y82 =>
                 (zzx n y82.2).bind fun y83 =>
                 z8s y83 (fun r84 =>
                   (ix a0 1).bind fun x85 =>
                   (kzl n 1 [x85.re]).bind fun y86 =>
                   z8s y86 (fun r87 =>
                     (ix a0 1).bind fun x88 =>
                     pIf (x88.num.den != 1)
                       ((zzx n 2).bind fun y89 =>
                       z8s y89 (fun r90 =>
                         z34 n a0 a4.re)
                         (fun e91 =>
                         some (Res.pan (e91.1, ()))))
                       (z34 n a0 a4.re))
                     (fun e92 =>
                     some (Res.pan (e92.1, ()))))
                   (fun e93 =>
                   some (Res.pan (e93.1, ()))))
                 ((yzx n (zz0.mk 4 (yz1.mk 0 0) false [] a0)).bind fun y94 =>
                 (zzx n y94).bind fun y95 =>
                 z8s y95 (fun r96 =>
                   some (Res.ok (zz0.mk 4 (yz1.mk 0 0) false [] a0)))
                   (fun e97 =>
                   some (Res.pan (e97.1, ()))))))))))
def z2b : Nat → (List zz0) → Bool → zz0 → Option (Res (Int × Unit) zz0)
 | 0, _, _, _ => none
 | n + 1, a0, a1, a2 =>
   pIf a1
     ((ix a0 0).bind fun x98 =>
     some (Res.ok x98.re))
     ((ix a0 1).bind fun x99 =>
     some (Res.ok x99.re))
def z34 : Nat → (List zz0) → zz0 → Option (Res (Int × Unit) zz0)
 | 0, _, _ => none
 | n + 1, a0, a1 =>
   (ix a0 0).bind fun x100 =>
   (ix a0 1).bind fun x101 =>
   (z5p n x100.re x101.num.num).bind fun y102 =>
   (zzx n y102.1).bind fun y103 =>
   z8s y103 (fun r104 =>
     some (Res.ok y102.2.re))
     (fun e105 =>
     some (Res.pan (e105.1, ())))
end
def y9r : LSh := ⟨[(4, (.ptr 0 0))], [(.st 3)], 0, 246⟩
noncomputable def za0 : FI dat := FI.ofP dat 113 246 0 [(.d (.int .u8)), (.d (.sl (.st 3)))] [] [(.d (.st 3))] [(.st 3)] (.iface 31 (.d (.int .i64))) [] [] y9r (R := zz0) (fun x => x.1) (fun r => (r, r, ())) (fun n x => z2p n x.1 x.2.1)
 (fun n => [(0, ⟨⟨[(4, (.ptr 0 0)), (1, (.d (.sl (.st 3)))), (0, (.d (.int .u8))), (17, (.d (.int .u8))), (91, (.d .bool))], [(.st 3)], 0, 246⟩, fun x => z17 n x.1 x.2.1 x.2.2.1 x.2.2.2.1 x.2.2.2.2.1⟩), (1, ⟨⟨[(4, (.ptr 0 0)), (1, (.d (.sl (.st 3)))), (113, (.d .bool))], [(.st 3)], 0, 246⟩, fun x => z2b n x.1 x.2.1 x.2.2.1⟩), (2, ⟨⟨[(4, (.ptr 0 0)), (1, (.d (.sl (.st 3))))], [(.st 3)], 0, 246⟩, fun x => z34 n x.1 x.2.1⟩)]) (ann [(56, 0), (71, 1), (138, 2)] (Tryz.f113.body.getD .skip) 0).1
noncomputable def y8n : List (FI dat) := [zh4, z56, z8q, zho, zdg, zha, zhh, z52, zf3, za6, zdn, za2, zbd, z1m, zkv]
theorem ya3 : (za0).Good Tryz.prog dat (tb y8n) := FI.znn (hD := zz2 _) Tryz.func113 Tryz.ntmps113 Tryz.call113 (by kernel_rfl) (of_decide_eq_true (by kernel_rfl)) (by kernel_rfl) (fun n => by kernel_rfl) trivial (fun x => by kernel_rfl) (fun _ => rfl) ⟨fun _ => rfl, fun _ => rfl, fun _ => rfl, trivial⟩
 (fun n => fun x => (z2p.eq_2 x.1 x.2.1 n).trans (by kernel_rfl))
 (fun n => ⟨fun x => (z17.eq_2 x.1 x.2.1 x.2.2.1 x.2.2.2.1 x.2.2.2.2.1 n).trans (by kernel_rfl),
  fun x => (z2b.eq_2 x.1 x.2.1 x.2.2.1 n).trans (by kernel_rfl),
  fun x => (z34.eq_2 x.1 x.2.1 n).trans (by kernel_rfl),
  trivial⟩)
 (fun x => by kernel_rfl)
theorem ybu : OkL Tryz.prog [za0] := zzb (zz2 _) (bs := [zh4, z56, z8q, zho, zdg, zha, zhh, z52, zf3, za6, zdn, za2, zbd, z1m, zkv]) ⟨y96, zf9, zof, y8m, y1s, y8y, y9c, zgr, y6w, zx6, y1a, zte, zv2, z9e, yde, trivial⟩ ya3
theorem ztc : FOk Tryz.prog za0 := ybu.1
end Go.Proofs.YtfhpamcehnfhoaaGreatDoor


namespace Go.Proofs.YtfhpamcehnfhoaaGreatDoor
open Go Go.Ab
set_option linter.unusedVariables false
set_option maxRecDepth 100000
mutual
def kzi : Nat → zz1 → (List yz3) → Option (Res (Int × Unit) zz0)
 | 0, _, _ => none
 | n + 1, a0, a1 =>
   pIf (a0.op == 1)
     (some (Res.ok a0.value.re))
     (pIf (a0.op == 2)
       ((kz6 n a1 a0.op a0.value.kind a0.value.num.num a0.value.num.den a0.value.truth a0.value.str a0.value.list a0.name a0.args).bind fun y0 =>
       pIf (decide (y0.1 < 0))
         ((zzx n 6).bind fun y1 =>
         z8s y1 (fun r2 =>
           z08 n y0.1 a1 0 0 0 false [] [])
           (fun e3 =>
           some (Res.pan (e3.1, ()))))
         (z08 n y0.1 a1 0 0 0 false [] []))
       (pIf (a0.op == 12)
         ((ix a0.args 0).bind fun x4 =>
         (kzi n x4.re a1).bind fun y5 =>
         z8s y5 (fun r6 =>
           (kzl n 2 [r6.re]).bind fun y7 =>
           z8s y7 (fun r8 =>
             pIf r6.truth
               ((ix a0.args 1).bind fun x9 =>
               (kzi n x9.re a1).bind fun y10 =>
               z8s y10 (fun r11 =>
                 some (Res.ok r11.re))
                 (fun e12 =>
                 some (Res.pan (e12.1, ()))))
               ((ix a0.args 2).bind fun x13 =>
               (kzi n x13.re a1).bind fun y14 =>
               z8s y14 (fun r15 =>
                 some (Res.ok r15.re))
                 (fun e16 =>
                 some (Res.pan (e16.1, ())))))
             (fun e17 =>
             some (Res.pan (e17.1, ()))))
           (fun e18 =>
           some (Res.pan (e18.1, ()))))
         (zzv n 0 a1 a0.args (a0.args.length : Int) [] 0 0 0 false [] a0.re [])))
def z08 : Nat → Int → (List yz3) → Int → Int → Int → Bool → (List UInt8) → (List zz0) → Option (Res (Int × Unit) zz0)
 | 0, _, _, _, _, _, _, _, _ => none
 | n + 1, a0, a1, a2, a3, a4, a5, a6, a7 =>
   (ix a1 a0).bind fun x19 =>
   some (Res.ok x19.value.re)
def zzv : Nat → Int → (List yz3) → (List zz1) → Int → (List zz0) → Int → Int → Int → Bool → (List UInt8) → zz1 → (List zz0) → Option (Res (Int × Unit) zz0)
 | 0, _, _, _, _, _, _, _, _, _, _, _, _ => none
 | n + 1, a0, a1, a2, a3, a4, a5, a6, a7, a8, a9, a10, a11 =>
   pIf (decide (a0 < a3))
     ((ix a2 a0).bind fun x20 =>
     (kzi n x20.re a1).bind fun y21 =>
     z8s y21 (fun r22 =>
       (ext a4 [r22.re]).bind fun x23 =>
       zzv n (IntKind.i64.wrap (a0 + 1)) a1 a2 a3 x23 a5 a6 a7 a8 a9 a10.re a11)
       (fun e24 =>
       some (Res.pan (e24.1, ()))))
     ((z2p n a10.op a4).bind fun y25 =>
     z8s y25 (fun r26 =>
       some (Res.ok r26.re))
       (fun e27 =>
       some (Res.pan (e27.1, ()))))
end
def zr0 : LSh := ⟨[(4, (.ptr 0 0))], [(.st 3)], 0, 72⟩
noncomputable def z55 : FI dat := FI.ofP dat 82 72 0 [(.d (.st 4)), (.d (.sl (.st 5)))] [] [(.d (.st 3))] [(.st 3)] (.iface 31 (.d (.int .i64))) [] [] zr0 (R := zz0) (fun x => x.1) (fun r => (r, r, ())) (fun n x => kzi n x.1 x.2.1)
 (fun n => [(0, ⟨⟨[(4, (.ptr 0 0)), (5, (.d (.int .i64))), (1, (.d (.sl (.st 5))))], [(.cells [(.d (.int .u8)), (.d (.int .i64)), (.d (.int .i64)), (.d .bool), (.d .str), (.own 1)]), (.acc 26 (.st 3) true)], 0, 72⟩, fun x => z08 n x.1 x.2.1 x.2.2.1 x.2.2.2.1 x.2.2.2.2.1 x.2.2.2.2.2.1 x.2.2.2.2.2.2.1 x.2.2.2.2.2.2.2.1⟩), (1, ⟨⟨[(57, (.d (.int .i64))), (1, (.d (.sl (.st 5)))), (7, (.own 0)), (55, (.d (.sl (.st 4)))), (4, (.ptr 1 0)), (2, (.ptr 2 0)), (56, (.d (.int .i64)))], [(.acc 26 (.st 3) true), (.cells [(.d (.int .u8)), (.d (.int .i64)), (.d (.int .i64)), (.d .bool), (.d .str), (.own 3)]), (.st 4), (.acc 26 (.st 3) true)], 0, 72⟩, fun x => zzv n x.1 x.2.1 x.2.2.1 x.2.2.2.1 x.2.2.2.2.1 x.2.2.2.2.2.1 x.2.2.2.2.2.2.1 x.2.2.2.2.2.2.2.1 x.2.2.2.2.2.2.2.2.1 x.2.2.2.2.2.2.2.2.2.1 x.2.2.2.2.2.2.2.2.2.2.1 x.2.2.2.2.2.2.2.2.2.2.2.1⟩)]) (ann [(23, 0), (51, 1)] (Tryz.f82.body.getD .skip) 0).1
noncomputable def zqz : List (FI dat) := [z55] ++ [kzh, z56, z8q, za0]
theorem zqh : (z55).Good Tryz.prog dat (tb zqz) := FI.znn (hD := zz2 _) Tryz.func82 Tryz.ntmps82 Tryz.call82 (by kernel_rfl) (of_decide_eq_true (by kernel_rfl)) (by kernel_rfl) (fun n => by kernel_rfl) trivial (fun x => by kernel_rfl) (fun _ => rfl) ⟨fun _ => rfl, fun _ => rfl, trivial⟩
 (fun n => fun x => (kzi.eq_2 x.1 x.2.1 n).trans (by kernel_rfl))
 (fun n => ⟨fun x => (z08.eq_2 x.1 x.2.1 x.2.2.1 x.2.2.2.1 x.2.2.2.2.1 x.2.2.2.2.2.1 x.2.2.2.2.2.2.1 x.2.2.2.2.2.2.2.1 n).trans (by kernel_rfl),
  fun x => (zzv.eq_2 x.1 x.2.1 x.2.2.1 x.2.2.2.1 x.2.2.2.2.1 x.2.2.2.2.2.1 x.2.2.2.2.2.2.1 x.2.2.2.2.2.2.2.1 x.2.2.2.2.2.2.2.2.1 x.2.2.2.2.2.2.2.2.2.1 x.2.2.2.2.2.2.2.2.2.2.1 x.2.2.2.2.2.2.2.2.2.2.2.1 n).trans (by kernel_rfl),
  trivial⟩)
 (fun x => by kernel_rfl)
theorem zrj : OkL Tryz.prog [z55] := z3y (zz2 _) (bs := [kzh, z56, z8q, za0]) ⟨z6w, zf9, zof, ztc, trivial⟩ ⟨zqh, trivial⟩
theorem zod : FOk Tryz.prog z55 := zrj.1
def z6l (a0 : Int) : Option Int :=
  some a0
def zm4 : LSh := ⟨[], [(.cells [(.d (.int .i64))])], 1, 10⟩
noncomputable def zd9 : zhk dat := { f := 72, args := [(.ptr 0 0)], aos := [(.cells [(.d (.int .i64))])], m := none, ros := [(.cells [(.d (.int .i64))])], go := fun x mx => (z6l x.1 ).bind fun r => some (r, ()) }
theorem zi8 : (zd9).Ok Tryz.prog := zvt (c := (ann [] (Tryz.f72.body.getD .skip) 0).1) (args := [(.ptr 0 0)]) (aos := [(.cells [(.d (.int .i64))])]) (ros := [(.cells [(.d (.int .i64))])]) (m := none) (l := zm4) (pack := fun x => x.1) (un := fun r => (r, ())) (go := fun x mx => z6l x.1 ) (by kernel_rfl) (zz2 _) Tryz.func72 (by kernel_rfl) Tryz.ntmps72 Tryz.call72 (Nat.le_of_ble_eq_true (by kernel_rfl)) (Nat.le_of_ble_eq_true (by kernel_rfl)) (Nat.le_of_ble_eq_true (by kernel_rfl)) (by kernel_rfl) (by kernel_rfl) (by kernel_rfl) (by kernel_rfl) (fun x => by kernel_rfl) (fun x mx => by kernel_rfl)
def z4e (a0 : Int) (a1 : Int) : Option Int :=
  pIf (!false)
   (some a1)
   (some a0)
def zfw : LSh := ⟨[], [(.cells [(.d (.int .i64))])], 1, 10⟩
noncomputable def z9a : zhk dat := { f := 72, args := [(.ptr 0 0)], aos := [(.cells [(.d (.int .i64))])], m := (some (.iface 31 (.d (.int .i64)))), ros := [(.cells [(.d (.int .i64))])], go := fun x mx => (z4e x.1 mx.1).bind fun r => some (r, ()) }
theorem zed : (z9a).Ok Tryz.prog := zvt (c := (ann [] (Tryz.f72.body.getD .skip) 0).1) (args := [(.ptr 0 0)]) (aos := [(.cells [(.d (.int .i64))])]) (ros := [(.cells [(.d (.int .i64))])]) (m := (some (.iface 31 (.d (.int .i64))))) (l := zfw) (pack := fun x => x.1) (un := fun r => (r, ())) (go := fun x mx => z4e x.1 mx.1) (by kernel_rfl) (zz2 _) Tryz.func72 (by kernel_rfl) Tryz.ntmps72 Tryz.call72 (Nat.le_of_ble_eq_true (by kernel_rfl)) (Nat.le_of_ble_eq_true (by kernel_rfl)) (Nat.le_of_ble_eq_true (by kernel_rfl)) (by kernel_rfl) (by kernel_rfl) (by kernel_rfl) (by kernel_rfl) (fun x => by kernel_rfl) (fun x mx => by kernel_rfl)
def z0g : Nat → zz1 → (List yz3) → Option (zz0 × Int)
 | 0, _, _ => none
 | n + 1, a0, a1 =>
   (kzi n a0.re a1).bind fun y0 =>
   z8s y0 (fun r1 =>
     (z3r n r1.re).bind fun y2 =>
     (((z6l 0).bind fun r4 => some (r4, ()))).bind fun y3 =>
     some (y2.re, y3.1))
     (fun e5 =>
     (((z4e 0 e5.1).bind fun r7 => some (r7, ()))).bind fun y6 =>
     some ((zz0.mk 0 (yz1.mk 0 0) false [] []), y6.1))
def zoj : LSh := ⟨[(4, (.ptr 0 0)), (5, (.ptr 1 0))], [(.st 3), (.cells [(.d (.int .i64))])], 0, 10⟩
noncomputable def z45 : FI dat := FI.ofD dat 47 10 0 [(.d (.st 4)), (.d (.sl (.st 5)))] [] [(.d (.st 3)), (.d (.int .i64))] [(.st 3), (.cells [(.d (.int .i64))])] [zd9, z9a] zoj (R := zz0 × Int) (fun x => (x.1, x.2.1)) (fun r => (r.1, r.2, r.1, r.2, ())) (fun n x => z0g n x.1 x.2.1)
 (fun n => []) (ann [] (Tryz.f47.body.getD .skip) 0).1
noncomputable def zny : List (FI dat) := [z55, z7l]
theorem zot : (z45).Good Tryz.prog dat (tb zny) := FI.zno (hD := zz2 _) Tryz.func47 Tryz.ntmps47 Tryz.call47 (by kernel_rfl) (of_decide_eq_true (by kernel_rfl)) (by kernel_rfl) (fun n => by kernel_rfl) ⟨zi8, zed, trivial⟩ (fun x => by kernel_rfl) (fun _ => rfl) trivial
 (fun n => fun x => (z0g.eq_2 x.1 x.2.1 n).trans (by kernel_rfl))
 (fun n => trivial)
 (fun x => by kernel_rfl)
theorem zpq : OkL Tryz.prog [z45] := zzb (zz2 _) (bs := [z55, z7l]) ⟨zod, zms, trivial⟩ zot
theorem zgs : FOk Tryz.prog z45 := zpq.1
mutual
def zzq : Nat → zz1 → (List yz3) → Option (Int × zz0)
 | 0, _, _ => none
 | n + 1, a0, a1 =>
   (kzw n a0.re).bind fun y0 =>
   pIf (y0 != 0)
     (some (y0, (zz0.mk 0 (yz1.mk 0 0) false [] [])))
     (pIf (decide ((a1.length : Int) > 40))
       (some (4, (zz0.mk 0 (yz1.mk 0 0) false [] [])))
       (zzw n 0 a1 a1 (a1.length : Int) (zz0.mk 0 (yz1.mk 0 0) false [] []) a0.re))
def zzw : Nat → Int → (List yz3) → (List yz3) → Int → zz0 → zz1 → Option (Int × zz0)
 | 0, _, _, _, _, _, _ => none
 | n + 1, a0, a1, a2, a3, a4, a5 =>
   pIf (decide (a0 < a3))
     ((ix a1 a0).bind fun x1 =>
     (z3q n x1.name).bind fun y2 =>
     pIf (!y2)
       (yzv n a1 a2 a3 a0 true a4.re a5.re)
       ((yzx n x1.value.re).bind fun y3 =>
       yzv n a1 a2 a3 a0 (y3 != 0) a4.re a5.re))
     ((z0g n a5.re a2).bind fun y4 =>
     some (y4.2, y4.1.re))
def yzv : Nat → (List yz3) → (List yz3) → Int → Int → Bool → zz0 → zz1 → Option (Int × zz0)
 | 0, _, _, _, _, _, _, _ => none
 | n + 1, a0, a1, a2, a3, a4, a5, a6 =>
   pIf a4
     (some (8, (zz0.mk 0 (yz1.mk 0 0) false [] [])))
     (zzw n (IntKind.i64.wrap (a3 + 1)) a0 a1 a2 a5.re a6.re)
end
def zq7 : LSh := ⟨[(4, (.ptr 0 0)), (5, (.d (.int .i64)))], [(.st 3)], 0, 42⟩
noncomputable def z54 : FI dat := FI.of dat 21 42 0 [(.d (.st 4)), (.d (.sl (.st 5)))] [] [(.d (.st 3)), (.d (.int .i64))] [] true zq7 (R := Int × zz0) (fun x => (x.1, x.2.1)) (fun r => (r.2, r.1, ())) (fun n x => zzq n x.1 x.2.1)
 (fun n => [(0, ⟨⟨[(4, (.ptr 0 0)), (21, (.d (.int .i64))), (19, (.d (.sl (.st 5)))), (1, (.d (.sl (.st 5)))), (2, (.ptr 1 0)), (20, (.d (.int .i64)))], [(.st 3), (.st 4)], 0, 42⟩, fun x => zzw n x.1 x.2.1 x.2.2.1 x.2.2.2.1 x.2.2.2.2.1 x.2.2.2.2.2.1⟩), (1, ⟨⟨[(4, (.ptr 0 0)), (19, (.d (.sl (.st 5)))), (1, (.d (.sl (.st 5)))), (2, (.ptr 1 0)), (20, (.d (.int .i64))), (21, (.d (.int .i64))), (34, (.d .bool))], [(.st 3), (.st 4)], 0, 42⟩, fun x => yzv n x.1 x.2.1 x.2.2.1 x.2.2.2.1 x.2.2.2.2.1 x.2.2.2.2.2.1 x.2.2.2.2.2.2.1⟩)]) (ann [(24, 0), (37, 1)] (Tryz.f21.body.getD .skip) 0).1
noncomputable def zri : List (FI dat) := [z1d, z7g, z1m, z45]
theorem zrh : (z54).Good Tryz.prog dat (tb zri) := FI.yz4 (hD := zz2 _) Tryz.func21 Tryz.ntmps21 Tryz.call21 (by kernel_rfl) (of_decide_eq_true (by kernel_rfl)) (by kernel_rfl) (fun n => by kernel_rfl) (fun x => by kernel_rfl) (fun _ => rfl) ⟨fun _ => rfl, fun _ => rfl, trivial⟩
 (fun n => fun x => (zzq.eq_2 x.1 x.2.1 n).trans (by kernel_rfl))
 (fun n => ⟨fun x => (zzw.eq_2 x.1 x.2.1 x.2.2.1 x.2.2.2.1 x.2.2.2.2.1 x.2.2.2.2.2.1 n).trans (by kernel_rfl),
  fun x => (yzv.eq_2 x.1 x.2.1 x.2.2.1 x.2.2.2.1 x.2.2.2.2.1 x.2.2.2.2.2.1 x.2.2.2.2.2.2.1 n).trans (by kernel_rfl),
  trivial⟩)
 (fun x => .inl rfl)
theorem zqo : OkL Tryz.prog [z54] := zzb (zz2 _) (bs := [z1d, z7g, z1m, z45]) ⟨z8u, zm5, z9e, zgs, trivial⟩ zrh
theorem zin : FOk Tryz.prog z54 := zqo.1
end Go.Proofs.YtfhpamcehnfhoaaGreatDoor


namespace Go.Proofs.YtfhpamcehnfhoaaGreatDoor
open Go Go.Ab
set_option linter.unusedVariables false
set_option maxRecDepth 100000
mutual
def kz8 : Nat → (List UInt8) → (List (List UInt8)) → Option (Int × (List (List UInt8)))
 | 0, _, _ => none
 | n + 1, a0, a1 =>
   kz4 n 0 a0 (a1.length : Int) a1
def kz4 : Nat → Int → (List UInt8) → Int → (List (List UInt8)) → Option (Int × (List (List UInt8)))
 | 0, _, _, _, _ => none
 | n + 1, a0, a1, a2, a3 =>
   pIf (decide (a0 < a2))
     ((ix a3 a0).bind fun x0 =>
     pIf (a1 == x0)
       (some (a0, a3))
       (kz4 n (IntKind.i64.wrap (a0 + 1)) a1 a2 a3))
     (some ((-1), a3))
end
def z6z : LSh := ⟨[(4, (.d (.int .i64)))], [(.acc 9 .str true)], 1, 19⟩
noncomputable def yzd : FI dat := FI.of dat 105 19 1 [(.own 0), (.d .str)] [(.acc 9 .str true)] [(.d (.int .i64))] [(.acc 9 .str true)] false z6z (R := Int × (List (List UInt8))) (fun x => (x.1, x.2.1)) (fun r => (r.1, r.2, ())) (fun n x => kz8 n x.1 x.2.1)
 (fun n => [(0, ⟨⟨[(8, (.d (.int .i64))), (0, (.own 0)), (1, (.d .str)), (7, (.d (.int .i64)))], [(.acc 9 .str true)], 1, 19⟩, fun x => kz4 n x.1 x.2.1 x.2.2.1 x.2.2.2.1⟩)]) (ann [(6, 0)] (Tryz.f105.body.getD .skip) 0).1
noncomputable def z78 : List (FI dat) := []
theorem z73 : (yzd).Good Tryz.prog dat (tb z78) := FI.yz4 (hD := zz2 _) Tryz.func105 Tryz.ntmps105 Tryz.call105 (by kernel_rfl) (of_decide_eq_true (by kernel_rfl)) (by kernel_rfl) (fun n => by kernel_rfl) (fun x => by kernel_rfl) (fun _ => rfl) ⟨fun _ => rfl, trivial⟩
 (fun n => fun x => (kz8.eq_2 x.1 x.2.1 n).trans (by kernel_rfl))
 (fun n => ⟨fun x => (kz4.eq_2 x.1 x.2.1 x.2.2.1 x.2.2.2.1 n).trans (by kernel_rfl),
  trivial⟩)
 (fun x => .inr (by kernel_rfl))
theorem z79 : OkL Tryz.prog [yzd] := zzb (zz2 _) (bs := []) trivial z73
theorem z6r : FOk Tryz.prog yzd := z79.1
def yz6 : Nat → (List UInt8) → (List (List UInt8)) → Option (Bool × (List (List UInt8)))
 | 0, _, _ => none
 | n + 1, a0, a1 =>
   (kz8 n a0 a1).bind fun y0 =>
   some ((decide (y0.1 ≥ 0)), y0.2)
def z5s : LSh := ⟨[(4, (.d .bool))], [(.acc 9 .str true)], 1, 9⟩
noncomputable def kza : FI dat := FI.of dat 90 9 1 [(.own 0), (.d .str)] [(.acc 9 .str true)] [(.d .bool)] [(.acc 9 .str true)] false z5s (R := Bool × (List (List UInt8))) (fun x => (x.1, x.2.1)) (fun r => (r.1, r.2, ())) (fun n x => yz6 n x.1 x.2.1)
 (fun n => []) (ann [] (Tryz.f90.body.getD .skip) 0).1
noncomputable def z5q : List (FI dat) := [yzd]
theorem z5t : (kza).Good Tryz.prog dat (tb z5q) := FI.yz4 (hD := zz2 _) Tryz.func90 Tryz.ntmps90 Tryz.call90 (by kernel_rfl) (of_decide_eq_true (by kernel_rfl)) (by kernel_rfl) (fun n => by kernel_rfl) (fun x => by kernel_rfl) (fun _ => rfl) trivial
 (fun n => fun x => (yz6.eq_2 x.1 x.2.1 n).trans (by kernel_rfl))
 (fun n => trivial)
 (fun x => .inr (by kernel_rfl))
theorem z5r : OkL Tryz.prog [kza] := zzb (zz2 _) (bs := [yzd]) ⟨z6r, trivial⟩ z5t
theorem z5m : FOk Tryz.prog kza := z5r.1
mutual
def z11 : Nat → zz1 → (List (List UInt8)) → Option (List (List UInt8))
 | 0, _, _ => none
 | n + 1, a0, a1 =>
   pIf (a0.op == 2)
     ((yz6 n a0.name a1).bind fun y0 =>
     z0k n (!y0.1) y0.2 a0.re)
     (z0k n false a1 a0.re)
def z0k : Nat → Bool → (List (List UInt8)) → zz1 → Option (List (List UInt8))
 | 0, _, _, _ => none
 | n + 1, a0, a1, a2 =>
   pIf a0
     ((ext a1 [a2.name]).bind fun x1 =>
     kzt n x1 a2.re)
     (kzt n a1 a2.re)
def kzt : Nat → (List (List UInt8)) → zz1 → Option (List (List UInt8))
 | 0, _, _ => none
 | n + 1, a0, a1 =>
   zzt n 0 a1.args (a1.args.length : Int) a0
def zzt : Nat → Int → (List zz1) → Int → (List (List UInt8)) → Option (List (List UInt8))
 | 0, _, _, _, _ => none
 | n + 1, a0, a1, a2, a3 =>
   pIf (decide (a0 < a2))
     ((ix a1 a0).bind fun x2 =>
     (z11 n x2.re a3).bind fun y3 =>
     zzt n (IntKind.i64.wrap (a0 + 1)) a1 a2 y3)
     (some a3)
end
def znz : LSh := ⟨[], [(.cells [(.own 1)]), (.acc 9 .str true)], 1, 38⟩
noncomputable def z2s : FI dat := FI.of dat 60 38 1 [(.d (.st 4)), (.ptr 0 0)] [(.cells [(.own 1)]), (.acc 9 .str true)] [] [(.cells [(.own 1)]), (.acc 9 .str true)] false znz (R := List (List UInt8)) (fun x => x.1) (fun r => (r, ())) (fun n x => z11 n x.1 x.2.1)
 (fun n => [(0, ⟨⟨[(1, (.ptr 0 0)), (2, (.ptr 2 0)), (17, (.d .bool))], [(.cells [(.own 1)]), (.acc 9 .str true), (.st 4)], 1, 38⟩, fun x => z0k n x.1 x.2.1 x.2.2.1⟩), (1, ⟨⟨[(1, (.ptr 0 0)), (2, (.ptr 2 0))], [(.cells [(.own 1)]), (.acc 9 .str true), (.st 4)], 1, 38⟩, fun x => kzt n x.1 x.2.1⟩), (2, ⟨⟨[(30, (.d (.int .i64))), (1, (.ptr 0 0)), (28, (.d (.sl (.st 4)))), (29, (.d (.int .i64)))], [(.cells [(.own 1)]), (.acc 9 .str true)], 1, 38⟩, fun x => zzt n x.1 x.2.1 x.2.2.1 x.2.2.2.1⟩)]) (ann [(5, 0), (8, 1), (11, 2)] (Tryz.f60.body.getD .skip) 0).1
noncomputable def zp9 : List (FI dat) := [z2s] ++ [kza]
theorem znx : (z2s).Good Tryz.prog dat (tb zp9) := FI.yz4 (hD := zz2 _) Tryz.func60 Tryz.ntmps60 Tryz.call60 (by kernel_rfl) (of_decide_eq_true (by kernel_rfl)) (by kernel_rfl) (fun n => by kernel_rfl) (fun x => by kernel_rfl) (fun _ => rfl) ⟨fun _ => rfl, fun _ => rfl, fun _ => rfl, trivial⟩
 (fun n => fun x => (z11.eq_2 x.1 x.2.1 n).trans (by kernel_rfl))
 (fun n => ⟨fun x => (z0k.eq_2 x.1 x.2.1 x.2.2.1 n).trans (by kernel_rfl),
  fun x => (kzt.eq_2 x.1 x.2.1 n).trans (by kernel_rfl),
  fun x => (zzt.eq_2 x.1 x.2.1 x.2.2.1 x.2.2.2.1 n).trans (by kernel_rfl),
  trivial⟩)
 (fun x => .inr (by kernel_rfl))
theorem zoc : OkL Tryz.prog [z2s] := z3y (zz2 _) (bs := [kza]) ⟨z5m, trivial⟩ ⟨znx, trivial⟩
theorem zgy : FOk Tryz.prog z2s := zoc.1
def z32 : Nat → zz1 → Option ((List (List UInt8)) × Int)
 | 0, _ => none
 | n + 1, a0 =>
   (kzw n a0.re).bind fun y0 =>
   pIf (y0 != 0)
     (some ([], y0))
     ((z11 n a0.re []).bind fun y1 =>
     (z06 n y1).bind fun y2 =>
     some (y2, 0))
def zpo : LSh := ⟨[(2, (.d (.sl .str))), (3, (.d (.int .i64)))], [], 0, 16⟩
noncomputable def z5f : FI dat := FI.of dat 32 16 0 [(.d (.st 4))] [] [(.d (.sl .str)), (.d (.int .i64))] [] true zpo (R := (List (List UInt8)) × Int) (fun x => (x.1, x.2.1)) (fun r => (r.1, r.2, ())) (fun n x => z32 n x.1)
 (fun n => []) (ann [] (Tryz.f32.body.getD .skip) 0).1
noncomputable def zp2 : List (FI dat) := [z1d, z2s, z3e]
theorem zoq : (z5f).Good Tryz.prog dat (tb zp2) := FI.yz4 (hD := zz2 _) Tryz.func32 Tryz.ntmps32 Tryz.call32 (by kernel_rfl) (of_decide_eq_true (by kernel_rfl)) (by kernel_rfl) (fun n => by kernel_rfl) (fun x => by kernel_rfl) (fun _ => rfl) trivial
 (fun n => fun x => (z32.eq_2 x.1 n).trans (by kernel_rfl))
 (fun n => trivial)
 (fun x => .inl rfl)
theorem zpc : OkL Tryz.prog [z5f] := zzb (zz2 _) (bs := [z1d, z2s, z3e]) ⟨z8u, zgy, za9, trivial⟩ zoq
theorem zmh : FOk Tryz.prog z5f := zpc.1
mutual
def z0p : Nat → zz1 → (List yz3) → Int → Option Bool
 | 0, _, _, _ => none
 | n + 1, a0, a1, a2 =>
   (kz7 n a0.re).bind fun y0 =>
   pIf (!y0)
     (kzc n a2 a1 true a0.re)
     ((z2u n a1).bind fun y1 =>
     pIf (y1 != 0)
       (kzc n a2 a1 true a0.re)
       ((zzh n a1).bind fun y2 =>
       pIf y2
         (kzc n a2 a1 true a0.re)
         (pIf (decide (a2 < 0))
           (kzc n a2 a1 true a0.re)
           (kzc n a2 a1 (decide (a2 ≥ (a1.length : Int))) a0.re))))
def kzc : Nat → Int → (List yz3) → Bool → zz1 → Option Bool
 | 0, _, _, _, _ => none
 | n + 1, a0, a1, a2, a3 =>
   pIf a2
     ((yz7 n ).bind fun y3 =>
     some y3)
     ((z32 n a3.re).bind fun y4 =>
     pIf (y4.2 != 0)
       (some false)
       (yzy n 0 a0 a1 y4.1 false a3.re))
def yzy : Nat → Int → Int → (List yz3) → (List (List UInt8)) → Bool → zz1 → Option Bool
 | 0, _, _, _, _, _, _ => none
 | n + 1, a0, a1, a2, a3, a4, a5 =>
   pIf (decide (a0 < (a3.length : Int)))
     (pIf a4
       (kzx n a1 a2 a3 true a0 a5.re)
       ((ix a3 a0).bind fun x5 =>
       (ix a2 a1).bind fun x6 =>
       kzx n a1 a2 a3 (x5 == x6.name) a0 a5.re))
     (kzm n 0 a1 a2 a4 a5.re)
def kzx : Nat → Int → (List yz3) → (List (List UInt8)) → Bool → Int → zz1 → Option Bool
 | 0, _, _, _, _, _, _ => none
 | n + 1, a0, a1, a2, a3, a4, a5 =>
   yzy n (IntKind.i64.wrap (a4 + 1)) a0 a1 a2 a3 a5.re
def kzm : Nat → Int → Int → (List yz3) → Bool → zz1 → Option Bool
 | 0, _, _, _, _, _ => none
 | n + 1, a0, a1, a2, a3, a4 =>
   pIf (decide (a0 < a1))
     ((ix a2 a0).bind fun x7 =>
     (ix a2 a1).bind fun x8 =>
     pIf (x7.name == x8.name)
       (z0v n a1 a2 false a0 a4.re)
       (z0v n a1 a2 a3 a0 a4.re))
     ((sub a2 0 a1).bind fun x9 =>
     (sub a2 (IntKind.i64.wrap (a1 + 1)) (a2.length : Int)).bind fun x10 =>
     (ext [] x9).bind fun x11 =>
     (ext x11 x10).bind fun x12 =>
     (zzq n a4.re a2).bind fun y13 =>
     (zzq n a4.re x12).bind fun y14 =>
     pIf a3
       ((yz7 n ).bind fun y15 =>
       some y15)
       (pIf (y13.1 == y14.1)
         ((kzp n y13.2.re y14.2.re).bind fun y16 =>
         pIf y16
           ((yz7 n ).bind fun y17 =>
           some y17)
           (some false))
         (some false)))
def z0v : Nat → Int → (List yz3) → Bool → Int → zz1 → Option Bool
 | 0, _, _, _, _, _ => none
 | n + 1, a0, a1, a2, a3, a4 =>
   kzm n (IntKind.i64.wrap (a3 + 1)) a0 a1 a2 a4.re
end
def zl2 : LSh := ⟨[(6, (.d .bool))], [], 0, 118⟩
noncomputable def z8d : FI dat := FI.of dat 8 118 0 [(.d (.st 4)), (.d (.sl (.st 5))), (.d (.int .i64))] [] [(.d .bool)] [] true zl2 (R := Bool) (fun x => x.1) (fun r => (r, ())) (fun n x => z0p n x.1 x.2.1 x.2.2.1)
 (fun n => [(0, ⟨⟨[(2, (.d (.int .i64))), (1, (.d (.sl (.st 5)))), (3, (.ptr 0 0)), (38, (.d .bool))], [(.st 4)], 0, 118⟩, fun x => kzc n x.1 x.2.1 x.2.2.1 x.2.2.2.1⟩), (1, ⟨⟨[(10, (.d (.int .i64))), (2, (.d (.int .i64))), (1, (.d (.sl (.st 5)))), (7, (.d (.sl .str))), (9, (.d .bool)), (3, (.ptr 0 0))], [(.st 4)], 0, 118⟩, fun x => yzy n x.1 x.2.1 x.2.2.1 x.2.2.2.1 x.2.2.2.2.1 x.2.2.2.2.2.1⟩), (2, ⟨⟨[(2, (.d (.int .i64))), (1, (.d (.sl (.st 5)))), (7, (.d (.sl .str))), (9, (.d .bool)), (3, (.ptr 0 0)), (10, (.d (.int .i64)))], [(.st 4)], 0, 118⟩, fun x => kzx n x.1 x.2.1 x.2.2.1 x.2.2.2.1 x.2.2.2.2.1 x.2.2.2.2.2.1⟩), (3, ⟨⟨[(11, (.d (.int .i64))), (2, (.d (.int .i64))), (1, (.d (.sl (.st 5)))), (9, (.d .bool)), (3, (.ptr 0 0))], [(.st 4)], 0, 118⟩, fun x => kzm n x.1 x.2.1 x.2.2.1 x.2.2.2.1 x.2.2.2.2.1⟩), (4, ⟨⟨[(2, (.d (.int .i64))), (1, (.d (.sl (.st 5)))), (9, (.d .bool)), (3, (.ptr 0 0)), (11, (.d (.int .i64)))], [(.st 4)], 0, 118⟩, fun x => z0v n x.1 x.2.1 x.2.2.1 x.2.2.2.1 x.2.2.2.2.1⟩)]) (ann [(5, 0), (26, 1), (36, 2), (41, 3), (55, 4)] (Tryz.f8.body.getD .skip) 0).1
noncomputable def zl1 : List (FI dat) := [yzk, z8y, kzu, z1l, z5f, z54, z3d]
theorem zl5 : (z8d).Good Tryz.prog dat (tb zl1) := FI.yz4 (hD := zz2 _) Tryz.func8 Tryz.ntmps8 Tryz.call8 (by kernel_rfl) (of_decide_eq_true (by kernel_rfl)) (by kernel_rfl) (fun n => by kernel_rfl) (fun x => by kernel_rfl) (fun _ => rfl) ⟨fun _ => rfl, fun _ => rfl, fun _ => rfl, fun _ => rfl, fun _ => rfl, trivial⟩
 (fun n => fun x => (z0p.eq_2 x.1 x.2.1 x.2.2.1 n).trans (by kernel_rfl))
 (fun n => ⟨fun x => (kzc.eq_2 x.1 x.2.1 x.2.2.1 x.2.2.2.1 n).trans (by kernel_rfl),
  fun x => (yzy.eq_2 x.1 x.2.1 x.2.2.1 x.2.2.2.1 x.2.2.2.2.1 x.2.2.2.2.2.1 n).trans (by kernel_rfl),
  fun x => (kzx.eq_2 x.1 x.2.1 x.2.2.1 x.2.2.2.1 x.2.2.2.2.1 x.2.2.2.2.2.1 n).trans (by kernel_rfl),
  fun x => (kzm.eq_2 x.1 x.2.1 x.2.2.1 x.2.2.2.1 x.2.2.2.2.1 n).trans (by kernel_rfl),
  fun x => (z0v.eq_2 x.1 x.2.1 x.2.2.1 x.2.2.2.1 x.2.2.2.2.1 n).trans (by kernel_rfl),
  trivial⟩)
 (fun x => .inl rfl)
theorem zl3 : OkL Tryz.prog [z8d] := zzb (zz2 _) (bs := [yzk, z8y, kzu, z1l, z5f, z54, z3d]) ⟨z8a, zrd, z96, z88, zmh, zin, zdp, trivial⟩ zl5
theorem zk9 : FOk Tryz.prog z8d := zl3.1
theorem zjo (a0 : zz1) (a1 : List yz3) (a2 : Int) : VRL dat [] 0 [dat.tv (.st 4) a0, dat.tv (.sl (.st 5)) a1, dat.tv (.int .i64) a2] [dat.el (.st 4) a0, dat.el (.sl (.st 5)) a1, dat.el (.int .i64) a2] := by
 simp only [VRL]
 exact ⟨_, _, rfl, VR.tv (zz2 Tryz.prog) (DR.el _ _), ⟨_, _, rfl, VR.tv (zz2 Tryz.prog) (DR.el _ _), ⟨_, _, rfl, VR.tv (zz2 Tryz.prog) (DR.el _ _), rfl⟩⟩⟩
theorem zhg (n : Nat) (a0 : zz1) (a1 : List yz3) (a2 : Int) (r : Bool) (h : z0p n a0 a1 a2 = some r) : zqg Tryz.prog 8 [dat.el (.st 4) a0, dat.el (.sl (.st 5)) a1, dat.el (.int .i64) a2] (.bool r) := by
 obtain ⟨y, h1, _, _, _, h2⟩ := zk9 n _ (a0, a1, a2, ()) (fun y => some y.1) (fun _ => none) r (by show (z0p n a0 a1 a2).bind (fun r => some r) = some r; rw [h]; rfl)
 obtain ⟨vs, k1, k2⟩ := h2 0 [dat.el (.st 4) a0, dat.el (.sl (.st 5)) a1, dat.el (.int .i64) a2] (zjo a0 a1 a2)
 injection h1 with h1
 subst h1
 have := k1 [] 0
 replace this : VRL dat [] 0 [TV.bool y.1] vs := this
 simp only [VRL, VR] at this
 obtain ⟨v, r, rfl, rfl, rfl⟩ := this
 exact k2
end Go.Proofs.YtfhpamcehnfhoaaGreatDoor


namespace Go.Proofs.Tryz
open Go Go.Ab
set_option linter.unusedSimpArgs false
@[simp] theorem zvg : Program.cellsOf Tryz.prog 2 = 1 := by kernel_rfl
@[simp] theorem ycj : Program.cellsOf Tryz.prog 4 = 1 := by kernel_rfl
@[simp] theorem zus : Program.cellsOf Tryz.prog 5 = 1 := by kernel_rfl
@[simp] theorem znl : Program.cellsOf Tryz.prog 9 = 1 := by kernel_rfl
@[simp] theorem zs5 : Program.cellsOf Tryz.prog 23 = 2 := by kernel_rfl
@[simp] theorem y7i : Program.cellsOf Tryz.prog 24 = 1 := by kernel_rfl
@[simp] theorem zet : Program.cellsOf Tryz.prog 26 = 6 := by kernel_rfl
@[simp] theorem y80 : Program.cellsOf Tryz.prog 27 = 1 := by kernel_rfl
@[simp] theorem zsg : Program.cellsOf Tryz.prog 29 = 9 := by kernel_rfl
@[simp] theorem zs8 : Program.cellsOf Tryz.prog 51 = 7 := by kernel_rfl
end Go.Proofs.Tryz


namespace Go.Proofs.Tryz
open Go Go.Ab
set_option linter.unusedSimpArgs false
theorem ya4 (n : Nat) : Reads Tryz.prog n 23 yz1.ty := (z8j Tryz.underlying23 zs5 (fun m hm => (zzn rfl zvg (zc4 Tryz.underlying2 m) (zzn rfl zvg (zc4 Tryz.underlying2 m) zb6)))).conv (fun x => (⟨x.1, x.2.1⟩ : yz1)) (fun x => by show yz1.el _ = _; rw [yz1.yzo]; simp [Ty.struct, Ty.pair, Ty.unit, Ty.int, Ty.bool, Ty.str, Ty.slice, V.cells, yz1.ty, yz1.yzo, zz0.ty, zz0.yzo, zz1.ty, zz1.yzo, yz3.ty, yz3.yzo]) rfl (fun x h => by simp only [yz1.ty]; rw [yz1.z6o]; simp only [Ty.struct, Ty.pair, Ty.unit, Ty.int, Ty.bool, Ty.str, Ty.slice, yz1.ty, zz0.ty, zz1.ty, yz3.ty] at h ⊢; simpa using h) (fun x => by simp only [Ty.struct, Ty.pair, Ty.unit, Ty.int, Ty.bool, Ty.str, Ty.slice, yz1.ty, zz0.ty, zz1.ty, yz3.ty]; rw [yz1.size_eq]; (try dsimp only); omega)
theorem zur : ∀ n, Reads Tryz.prog n 26 zz0.ty := fun n => by
 induction n using Nat.strongRecOn with
 | ind n ih => exact (z8j Tryz.underlying26 zet (fun m hm => (zzn rfl zus (zc4 Tryz.underlying5 m) (zzn rfl zs5 (ya4 m) (zzn rfl ycj (y0q Tryz.underlying4 m) (zzn rfl znl (zj5 Tryz.underlying9 m) (zzn rfl y7i (zeu Tryz.underlying24 zet (by decide) (fun k hk => (ih k (by omega)))) zb6))))))).conv (fun x => (⟨x.1, x.2.1, x.2.2.1, x.2.2.2.1, x.2.2.2.2.1⟩ : zz0)) (fun x => by show zz0.el _ = _; rw [zz0.yzo]; simp [Ty.struct, Ty.pair, Ty.unit, Ty.int, Ty.bool, Ty.str, Ty.slice, V.cells, yz1.ty, yz1.yzo, zz0.ty, zz0.yzo, zz1.ty, zz1.yzo, yz3.ty, yz3.yzo]) rfl (fun x h => by simp only [zz0.ty]; rw [zz0.z6o]; simp only [Ty.struct, Ty.pair, Ty.unit, Ty.int, Ty.bool, Ty.str, Ty.slice, yz1.ty, zz0.ty, zz1.ty, yz3.ty] at h ⊢; simpa using h) (fun x => by simp only [Ty.struct, Ty.pair, Ty.unit, Ty.int, Ty.bool, Ty.str, Ty.slice, yz1.ty, zz0.ty, zz1.ty, yz3.ty]; rw [zz0.size_eq]; (try dsimp only); omega)
theorem y91 : ∀ n, Reads Tryz.prog n 29 zz1.ty := fun n => by
 induction n using Nat.strongRecOn with
 | ind n ih => exact (z8j Tryz.underlying29 zsg (fun m hm => (zzn rfl zus (zc4 Tryz.underlying5 m) (zzn rfl zet (zur m) (zzn rfl znl (zj5 Tryz.underlying9 m) (zzn rfl y80 (zeu Tryz.underlying27 zsg (by decide) (fun k hk => (ih k (by omega)))) zb6)))))).conv (fun x => (⟨x.1, x.2.1, x.2.2.1, x.2.2.2.1⟩ : zz1)) (fun x => by show zz1.el _ = _; rw [zz1.yzo]; simp [Ty.struct, Ty.pair, Ty.unit, Ty.int, Ty.bool, Ty.str, Ty.slice, V.cells, yz1.ty, yz1.yzo, zz0.ty, zz0.yzo, zz1.ty, zz1.yzo, yz3.ty, yz3.yzo]) rfl (fun x h => by simp only [zz1.ty]; rw [zz1.z6o]; simp only [Ty.struct, Ty.pair, Ty.unit, Ty.int, Ty.bool, Ty.str, Ty.slice, yz1.ty, zz0.ty, zz1.ty, yz3.ty] at h ⊢; simpa using h) (fun x => by simp only [Ty.struct, Ty.pair, Ty.unit, Ty.int, Ty.bool, Ty.str, Ty.slice, yz1.ty, zz0.ty, zz1.ty, yz3.ty]; rw [zz1.size_eq]; (try dsimp only); omega)
theorem ybr (n : Nat) : Reads Tryz.prog n 51 yz3.ty := (z8j Tryz.underlying51 zs8 (fun m hm => (zzn rfl znl (zj5 Tryz.underlying9 m) (zzn rfl zet (zur m) zb6)))).conv (fun x => (⟨x.1, x.2.1⟩ : yz3)) (fun x => by show yz3.el _ = _; rw [yz3.yzo]; simp [Ty.struct, Ty.pair, Ty.unit, Ty.int, Ty.bool, Ty.str, Ty.slice, V.cells, yz1.ty, yz1.yzo, zz0.ty, zz0.yzo, zz1.ty, zz1.yzo, yz3.ty, yz3.yzo]) rfl (fun x h => by simp only [yz3.ty]; rw [yz3.z6o]; simp only [Ty.struct, Ty.pair, Ty.unit, Ty.int, Ty.bool, Ty.str, Ty.slice, yz1.ty, zz0.ty, zz1.ty, yz3.ty] at h ⊢; simpa using h) (fun x => by simp only [Ty.struct, Ty.pair, Ty.unit, Ty.int, Ty.bool, Ty.str, Ty.slice, yz1.ty, zz0.ty, zz1.ty, yz3.ty]; rw [yz3.size_eq]; (try dsimp only); omega)
theorem yfz : y2d Tryz.prog 29 zz1.ty := y0z Tryz.underlying29 y91 zz1.zqt
theorem yjo : y2d Tryz.prog 49 (Ty.slice yz3.ty) := y2f (fun n => (zeu Tryz.underlying49 zs8 (by decide) (fun k hk => (ybr k)))) (fun _ => rfl) (by rw [Tryz.underlying49])
theorem arg3 : y2d Tryz.prog 3 (Ty.int .i64) := y2f (fun n => (zc4 Tryz.underlying3 n)) (fun _ => rfl) (by rw [Tryz.underlying3])
end Go.Proofs.Tryz


namespace Go.Proofs.YtfhpamcehnfhoaaGreatDoor
open Go Go.Ab
set_option linter.unusedVariables false
theorem zk3 {r} (a0 a1 a2) : type_of% (evS (fun n => z0p n a0 a1 a2) r fun n => z0p.eq_2 a0 a1 a2 n) := evS _ _ fun _ => rfl
theorem z9n {r} (a0 a1 a2 a3) : type_of% (evS (fun n => kzc n a0 a1 a2 a3) r fun n => kzc.eq_2 a0 a1 a2 a3 n) := evS _ _ fun _ => rfl
theorem z9p {r} (a0 a1 a2 a3 a4 a5) : type_of% (evS (fun n => yzy n a0 a1 a2 a3 a4 a5) r fun n => yzy.eq_2 a0 a1 a2 a3 a4 a5 n) := evS _ _ fun _ => rfl
theorem zhp {r} (a0 a1 a2 a3 a4 a5) : type_of% (evS (fun n => kzx n a0 a1 a2 a3 a4 a5) r fun n => kzx.eq_2 a0 a1 a2 a3 a4 a5 n) := evS _ _ fun _ => rfl
theorem z9o {r} (a0 a1 a2 a3 a4) : type_of% (evS (fun n => kzm n a0 a1 a2 a3 a4) r fun n => kzm.eq_2 a0 a1 a2 a3 a4 n) := evS _ _ fun _ => rfl
theorem z9q {r} (a0 a1 a2 a3 a4) : type_of% (evS (fun n => z0v n a0 a1 a2 a3 a4) r fun n => z0v.eq_2 a0 a1 a2 a3 a4 n) := evS _ _ fun _ => rfl
theorem zzr {r} (a0) : type_of% (evS (fun n => kz7 n a0) r fun n => kz7.eq_2 a0 n) := evS _ _ fun _ => rfl
theorem zju {r} (a0) : type_of% (evS (fun n => z2u n a0) r fun n => z2u.eq_2 a0 n) := evS _ _ fun _ => rfl
theorem zap {r} (a0 a1) : type_of% (evS (fun n => kzs n a0 a1) r fun n => kzs.eq_2 a0 a1 n) := evS _ _ fun _ => rfl
theorem zat {r} (a0 a1 a2) : type_of% (evS (fun n => zzs n a0 a1 a2) r fun n => zzs.eq_2 a0 a1 a2 n) := evS _ _ fun _ => rfl
theorem zd1 {r} (a0) : type_of% (evS (fun n => zzh n a0) r fun n => zzh.eq_2 a0 n) := evS _ _ fun _ => rfl
theorem z7k {r} (a0 a1) : type_of% (evS (fun n => kzb n a0 a1) r fun n => kzb.eq_2 a0 a1 n) := evS _ _ fun _ => rfl
theorem z7i {r} (a0 a1 a2) : type_of% (evS (fun n => kz9 n a0 a1 a2) r fun n => kz9.eq_2 a0 a1 a2 n) := evS _ _ fun _ => rfl
theorem z7j {r} (a0 a1 a2) : type_of% (evS (fun n => yzb n a0 a1 a2) r fun n => yzb.eq_2 a0 a1 a2 n) := evS _ _ fun _ => rfl
theorem zmo {r} (a0) : type_of% (evS (fun n => kzw n a0) r fun n => kzw.eq_2 a0 n) := evS _ _ fun _ => rfl
theorem zgm {r} (a0 a1) : type_of% (evS (fun n => z2j n a0 a1) r fun n => z2j.eq_2 a0 a1 n) := evS _ _ fun _ => rfl
theorem zpi {r} (a0 a1) : type_of% (evS (fun n => zzq n a0 a1) r fun n => zzq.eq_2 a0 a1 n) := evS _ _ fun _ => rfl
theorem zdw {r} (a0 a1 a2 a3 a4 a5) : type_of% (evS (fun n => zzw n a0 a1 a2 a3 a4 a5) r fun n => zzw.eq_2 a0 a1 a2 a3 a4 a5 n) := evS _ _ fun _ => rfl
theorem zdz {r} (a0 a1 a2 a3 a4 a5 a6) : type_of% (evS (fun n => yzv n a0 a1 a2 a3 a4 a5 a6) r fun n => yzv.eq_2 a0 a1 a2 a3 a4 a5 a6 n) := evS _ _ fun _ => rfl
theorem zly {r} (a0 a1) : type_of% (evS (fun n => kzp n a0 a1) r fun n => kzp.eq_2 a0 a1 n) := evS _ _ fun _ => rfl
theorem zc3 {r} (a0 a1 a2) : type_of% (evS (fun n => yzz n a0 a1 a2) r fun n => yzz.eq_2 a0 a1 a2 n) := evS _ _ fun _ => rfl
theorem zc7 {r} (a0 a1 a2) : type_of% (evS (fun n => z1z n a0 a1 a2) r fun n => z1z.eq_2 a0 a1 a2 n) := evS _ _ fun _ => rfl
theorem zme {r} (a0) : type_of% (evS (fun n => z32 n a0) r fun n => z32.eq_2 a0 n) := evS _ _ fun _ => rfl
theorem zfl {r} (a0) : type_of% (evS (fun n => z2t n a0) r fun n => z2t.eq_2 a0 n) := evS _ _ fun _ => rfl
theorem zfj {r} (a0) : type_of% (evS (fun n => z3i n a0) r fun n => z3i.eq_2 a0 n) := evS _ _ fun _ => rfl
theorem zjz {r} (a0) : type_of% (evS (fun n => z19 n a0) r fun n => z19.eq_2 a0 n) := evS _ _ fun _ => rfl
theorem zf7 {r} (a0 a1) : type_of% (evS (fun n => kzj n a0 a1) r fun n => kzj.eq_2 a0 a1 n) := evS _ _ fun _ => rfl
theorem zmv {r} (a0) : type_of% (evS (fun n => z0x n a0) r fun n => z0x.eq_2 a0 n) := evS _ _ fun _ => rfl
theorem zcs {r} (a0 a1) : type_of% (evS (fun n => yzf n a0 a1) r fun n => yzf.eq_2 a0 a1 n) := evS _ _ fun _ => rfl
theorem zbp {r} (a0 a1 a2) : type_of% (evS (fun n => yze n a0 a1 a2) r fun n => yze.eq_2 a0 a1 a2 n) := evS _ _ fun _ => rfl
theorem zjq {r} (a0) : type_of% (evS (fun n => z1x n a0) r fun n => z1x.eq_2 a0 n) := evS _ _ fun _ => rfl
theorem zfa {r} (a0 a1) : type_of% (evS (fun n => z1e n a0 a1) r fun n => z1e.eq_2 a0 a1 n) := evS _ _ fun _ => rfl
theorem zhv {r} (a0) : type_of% (evS (fun n => z07 n a0) r fun n => z07.eq_2 a0 n) := evS _ _ fun _ => rfl
theorem z9x {r} (a0 a1 a2 a3 a4) : type_of% (evS (fun n => yzh n a0 a1 a2 a3 a4) r fun n => yzh.eq_2 a0 a1 a2 a3 a4 n) := evS _ _ fun _ => rfl
theorem zp4 {r} (a0) : type_of% (evS (fun n => z5l n a0) r fun n => z5l.eq_2 a0 n) := evS _ _ fun _ => rfl
theorem zie {r} (a0 a1) : type_of% (evS (fun n => z1s n a0 a1) r fun n => z1s.eq_2 a0 a1 n) := evS _ _ fun _ => rfl
theorem zih {r} (a0 a1) : type_of% (evS (fun n => z1t n a0 a1) r fun n => z1t.eq_2 a0 a1 n) := evS _ _ fun _ => rfl
theorem zic {r} (a0 a1) : type_of% (evS (fun n => z2x n a0 a1) r fun n => z2x.eq_2 a0 a1 n) := evS _ _ fun _ => rfl
theorem zhz {r} (a0 a1) : type_of% (evS (fun n => z2y n a0 a1) r fun n => z2y.eq_2 a0 a1 n) := evS _ _ fun _ => rfl
theorem zhx {r} (a0) : type_of% (evS (fun n => z1v n a0) r fun n => z1v.eq_2 a0 n) := evS _ _ fun _ => rfl
theorem zmc {r} (a0) : type_of% (evS (fun n => z3q n a0) r fun n => z3q.eq_2 a0 n) := evS _ _ fun _ => rfl
theorem zco {r} (a0 a1) : type_of% (evS (fun n => z35 n a0 a1) r fun n => z35.eq_2 a0 a1 n) := evS _ _ fun _ => rfl
theorem zcq {r} (a0 a1) : type_of% (evS (fun n => z01 n a0 a1) r fun n => z01.eq_2 a0 a1 n) := evS _ _ fun _ => rfl
theorem zcf {r} (a0 a1 a2 a3 a4) : type_of% (evS (fun n => z27 n a0 a1 a2 a3 a4) r fun n => z27.eq_2 a0 a1 a2 a3 a4 n) := evS _ _ fun _ => rfl
theorem zbx {r} (a0 a1 a2) : type_of% (evS (fun n => yzu n a0 a1 a2) r fun n => yzu.eq_2 a0 a1 a2 n) := evS _ _ fun _ => rfl
theorem zkd {r} (a0) : type_of% (evS (fun n => yzx n a0) r fun n => yzx.eq_2 a0 n) := evS _ _ fun _ => rfl
theorem zfg {r} (a0 a1) : type_of% (evS (fun n => z18 n a0 a1) r fun n => z18.eq_2 a0 a1 n) := evS _ _ fun _ => rfl
theorem zgt {r} (a0 a1) : type_of% (evS (fun n => z0g n a0 a1) r fun n => z0g.eq_2 a0 a1 n) := evS _ _ fun _ => rfl
theorem zn1 {r} (a0 a1) : type_of% (evS (fun n => z11 n a0 a1) r fun n => z11.eq_2 a0 a1 n) := evS _ _ fun _ => rfl
theorem z9h {r} (a0 a1 a2) : type_of% (evS (fun n => z0k n a0 a1 a2) r fun n => z0k.eq_2 a0 a1 a2 n) := evS _ _ fun _ => rfl
theorem zfx {r} (a0 a1) : type_of% (evS (fun n => kzt n a0 a1) r fun n => kzt.eq_2 a0 a1 n) := evS _ _ fun _ => rfl
theorem z9m {r} (a0 a1 a2 a3) : type_of% (evS (fun n => zzt n a0 a1 a2 a3) r fun n => zzt.eq_2 a0 a1 a2 a3 n) := evS _ _ fun _ => rfl
theorem zlq {r} (a0 a1) : type_of% (evS (fun n => z0e n a0 a1) r fun n => z0e.eq_2 a0 a1 n) := evS _ _ fun _ => rfl
theorem zbn {r} (a0 a1 a2) : type_of% (evS (fun n => z00 n a0 a1 a2) r fun n => z00.eq_2 a0 a1 a2 n) := evS _ _ fun _ => rfl
theorem zc1 {r} (a0 a1 a2 a3) : type_of% (evS (fun n => z1y n a0 a1 a2 a3) r fun n => z1y.eq_2 a0 a1 a2 a3 n) := evS _ _ fun _ => rfl
theorem zkm {r} (a0 a1) : type_of% (evS (fun n => z3k n a0 a1) r fun n => z3k.eq_2 a0 a1 n) := evS _ _ fun _ => rfl
theorem zan {r} (a0 a1 a2) : type_of% (evS (fun n => z0l n a0 a1 a2) r fun n => z0l.eq_2 a0 a1 a2 n) := evS _ _ fun _ => rfl
theorem zau {r} (a0 a1 a2) : type_of% (evS (fun n => z1b n a0 a1 a2) r fun n => z1b.eq_2 a0 a1 a2 n) := evS _ _ fun _ => rfl
theorem zjt {r} (a0) : type_of% (evS (fun n => z2v n a0) r fun n => z2v.eq_2 a0 n) := evS _ _ fun _ => rfl
theorem z8i {r} (a0 a1 a2) : type_of% (evS (fun n => z1k n a0 a1 a2) r fun n => z1k.eq_2 a0 a1 a2 n) := evS _ _ fun _ => rfl
theorem z8m {r} (a0 a1 a2 a3) : type_of% (evS (fun n => z1c n a0 a1 a2 a3) r fun n => z1c.eq_2 a0 a1 a2 a3 n) := evS _ _ fun _ => rfl
theorem zmt {r} (a0) : type_of% (evS (fun n => z5b n a0) r fun n => z5b.eq_2 a0 n) := evS _ _ fun _ => rfl
theorem zjb {r} (a0 a1) : type_of% (evS (fun n => z3n n a0 a1) r fun n => z3n.eq_2 a0 a1 n) := evS _ _ fun _ => rfl
theorem zal {r} (a0 a1 a2) : type_of% (evS (fun n => zzz n a0 a1 a2) r fun n => zzz.eq_2 a0 a1 a2 n) := evS _ _ fun _ => rfl
theorem zar {r} (a0 a1 a2) : type_of% (evS (fun n => z1g n a0 a1 a2) r fun n => z1g.eq_2 a0 a1 a2 n) := evS _ _ fun _ => rfl
theorem zkh {r} (a0) : type_of% (evS (fun n => z2a n a0) r fun n => z2a.eq_2 a0 n) := evS _ _ fun _ => rfl
theorem zas {r} (a0 a1 a2) : type_of% (evS (fun n => z1j n a0 a1 a2) r fun n => z1j.eq_2 a0 a1 a2 n) := evS _ _ fun _ => rfl
theorem zml {r} (a0) : type_of% (evS (fun n => z3s n a0) r fun n => z3s.eq_2 a0 n) := evS _ _ fun _ => rfl
theorem zca {r} (a0 a1 a2) : type_of% (evS (fun n => z2k n a0 a1 a2) r fun n => z2k.eq_2 a0 a1 a2 n) := evS _ _ fun _ => rfl
theorem zlz {r} (a0) : type_of% (evS (fun n => z0w n a0) r fun n => z0w.eq_2 a0 n) := evS _ _ fun _ => rfl
theorem zgb {r} (a0 a1) : type_of% (evS (fun n => zzi n a0 a1) r fun n => zzi.eq_2 a0 a1 n) := evS _ _ fun _ => rfl
theorem zgj {r} (a0 a1) : type_of% (evS (fun n => yza n a0 a1) r fun n => yza.eq_2 a0 a1 n) := evS _ _ fun _ => rfl
theorem zgl {r} (a0 a1) : type_of% (evS (fun n => zzd n a0 a1) r fun n => zzd.eq_2 a0 a1 n) := evS _ _ fun _ => rfl
theorem zci {r} (a0 a1) : type_of% (evS (fun n => zzo n a0 a1) r fun n => zzo.eq_2 a0 a1 n) := evS _ _ fun _ => rfl
theorem zi1 {r} (a0) : type_of% (evS (fun n => z0o n a0) r fun n => z0o.eq_2 a0 n) := evS _ _ fun _ => rfl
theorem zjh {r} (a0) : type_of% (evS (fun n => z1f n a0) r fun n => z1f.eq_2 a0 n) := evS _ _ fun _ => rfl
theorem zn5 {r} (a0) : type_of% (evS (fun n => z4t n a0) r fun n => z4t.eq_2 a0 n) := evS _ _ fun _ => rfl
theorem z9k {r} (a0 a1 a2) : type_of% (evS (fun n => z2l n a0 a1 a2) r fun n => z2l.eq_2 a0 a1 a2 n) := evS _ _ fun _ => rfl
theorem z9g {r} (a0 a1 a2 a3) : type_of% (evS (fun n => z2h n a0 a1 a2 a3) r fun n => z2h.eq_2 a0 a1 a2 a3 n) := evS _ _ fun _ => rfl
theorem zn3 {r} (a0) : type_of% (evS (fun n => z4o n a0) r fun n => z4o.eq_2 a0 n) := evS _ _ fun _ => rfl
theorem zcc {r} (a0 a1) : type_of% (evS (fun n => z03 n a0 a1) r fun n => z03.eq_2 a0 a1 n) := evS _ _ fun _ => rfl
theorem zcr {r} (a0 a1) : type_of% (evS (fun n => z2f n a0 a1) r fun n => z2f.eq_2 a0 a1 n) := evS _ _ fun _ => rfl
theorem zch {r} (a0 a1 a2) : type_of% (evS (fun n => z1w n a0 a1 a2) r fun n => z1w.eq_2 a0 a1 a2 n) := evS _ _ fun _ => rfl
theorem zcd {r} (a0 a1) : type_of% (evS (fun n => z0j n a0 a1) r fun n => z0j.eq_2 a0 a1 n) := evS _ _ fun _ => rfl
theorem zcm {r} (a0 a1) : type_of% (evS (fun n => z2d n a0 a1) r fun n => z2d.eq_2 a0 a1 n) := evS _ _ fun _ => rfl
theorem zgz {r} (a0) : type_of% (evS (fun n => z36 n a0) r fun n => z36.eq_2 a0 n) := evS _ _ fun _ => rfl
theorem zbt {r} (a0 a1 a2) : type_of% (evS (fun n => zz8 n a0 a1 a2) r fun n => zz8.eq_2 a0 a1 a2 n) := evS _ _ fun _ => rfl
theorem zc8 {r} (a0 a1 a2) : type_of% (evS (fun n => yzl n a0 a1 a2) r fun n => yzl.eq_2 a0 a1 a2 n) := evS _ _ fun _ => rfl
theorem zce {r} (a0 a1 a2) : type_of% (evS (fun n => zzk n a0 a1 a2) r fun n => zzk.eq_2 a0 a1 a2 n) := evS _ _ fun _ => rfl
theorem zcp {r} (a0 a1 a2) : type_of% (evS (fun n => zzu n a0 a1 a2) r fun n => zzu.eq_2 a0 a1 a2 n) := evS _ _ fun _ => rfl
theorem zcn {r} : type_of% (evS (fun n => yzt n) r fun n => yzt.eq_2 n) := evS _ _ fun _ => rfl
theorem zbs {r} (a0) : type_of% (evS (fun n => zzc n a0) r fun n => zzc.eq_2 a0 n) := evS _ _ fun _ => rfl
theorem z39 {r} (a0) : type_of% (evS (fun n => zz7 n a0) r fun n => zz7.eq_2 a0 n) := evS _ _ fun _ => rfl
theorem zgn {r} (a0) : type_of% (evS (fun n => kzk n a0) r fun n => kzk.eq_2 a0 n) := evS _ _ fun _ => rfl
theorem z99 {r} (a0 a1 a2 a3 a4) : type_of% (evS (fun n => zzg n a0 a1 a2 a3 a4) r fun n => zzg.eq_2 a0 a1 a2 a3 a4 n) := evS _ _ fun _ => rfl
theorem zd2 {r} (a0 a1) : type_of% (evS (fun n => kzf n a0 a1) r fun n => kzf.eq_2 a0 a1 n) := evS _ _ fun _ => rfl
theorem zlp {r} (a0) : type_of% (evS (fun n => z4h n a0) r fun n => z4h.eq_2 a0 n) := evS _ _ fun _ => rfl
theorem zby {r} (a0 a1 a2) : type_of% (evS (fun n => z22 n a0 a1 a2) r fun n => z22.eq_2 a0 a1 a2 n) := evS _ _ fun _ => rfl
theorem zck {r} (a0 a1 a2 a3) : type_of% (evS (fun n => z23 n a0 a1 a2 a3) r fun n => z23.eq_2 a0 a1 a2 a3 n) := evS _ _ fun _ => rfl
theorem zbq {r} (a0 a1 a2 a3) : type_of% (evS (fun n => z2n n a0 a1 a2 a3) r fun n => z2n.eq_2 a0 a1 a2 a3 n) := evS _ _ fun _ => rfl
theorem zft {r} (a0) : type_of% (evS (fun n => z0i n a0) r fun n => z0i.eq_2 a0 n) := evS _ _ fun _ => rfl
theorem zpf {r} (a0 a1) : type_of% (evS (fun n => kzi n a0 a1) r fun n => kzi.eq_2 a0 a1 n) := evS _ _ fun _ => rfl
theorem zi9 {r} (a0 a1 a2 a3 a4 a5 a6 a7) : type_of% (evS (fun n => z08 n a0 a1 a2 a3 a4 a5 a6 a7) r fun n => z08.eq_2 a0 a1 a2 a3 a4 a5 a6 a7 n) := evS _ _ fun _ => rfl
theorem ze2 {r} (a0 a1 a2 a3 a4 a5 a6 a7 a8 a9 a10 a11) : type_of% (evS (fun n => zzv n a0 a1 a2 a3 a4 a5 a6 a7 a8 a9 a10 a11) r fun n => zzv.eq_2 a0 a1 a2 a3 a4 a5 a6 a7 a8 a9 a10 a11 n) := evS _ _ fun _ => rfl
theorem zmi {r} (a0) : type_of% (evS (fun n => z3r n a0) r fun n => z3r.eq_2 a0 n) := evS _ _ fun _ => rfl
theorem z5i {r} (a0 a1) : type_of% (evS (fun n => yz6 n a0 a1) r fun n => yz6.eq_2 a0 a1 n) := evS _ _ fun _ => rfl
theorem zgq {r} (a0) : type_of% (evS (fun n => z4v n a0) r fun n => z4v.eq_2 a0 n) := evS _ _ fun _ => rfl
theorem zc9 {r} (a0 a1) : type_of% (evS (fun n => z30 n a0 a1) r fun n => z30.eq_2 a0 a1 n) := evS _ _ fun _ => rfl
theorem zcb {r} (a0 a1) : type_of% (evS (fun n => kzn n a0 a1) r fun n => kzn.eq_2 a0 a1 n) := evS _ _ fun _ => rfl
theorem zcj {r} (a0 a1) : type_of% (evS (fun n => z2g n a0 a1) r fun n => z2g.eq_2 a0 a1 n) := evS _ _ fun _ => rfl
theorem zks {r} (a0) : type_of% (evS (fun n => z1i n a0) r fun n => z1i.eq_2 a0 n) := evS _ _ fun _ => rfl
theorem zjk {r} (a0) : type_of% (evS (fun n => z4q n a0) r fun n => z4q.eq_2 a0 n) := evS _ _ fun _ => rfl
theorem zfh {r} (a0) : type_of% (evS (fun n => kzr n a0) r fun n => kzr.eq_2 a0 n) := evS _ _ fun _ => rfl
theorem z44 {r} (a0) : type_of% (evS (fun n => yz8 n a0) r fun n => yz8.eq_2 a0 n) := evS _ _ fun _ => rfl
theorem yzq {r} (a0 a1 a2) : type_of% (evS (fun n => yz5 n a0 a1 a2) r fun n => yz5.eq_2 a0 a1 a2 n) := evS _ _ fun _ => rfl
theorem zkf {r} (a0) : type_of% (evS (fun n => z2e n a0) r fun n => z2e.eq_2 a0 n) := evS _ _ fun _ => rfl
theorem zez {r} (a0) : type_of% (evS (fun n => kzz n a0) r fun n => kzz.eq_2 a0 n) := evS _ _ fun _ => rfl
theorem z41 {r} (a0 a1 a2 a3 a4 a5 a6 a7 a8 a9) : type_of% (evS (fun n => kz6 n a0 a1 a2 a3 a4 a5 a6 a7 a8 a9) r fun n => kz6.eq_2 a0 a1 a2 a3 a4 a5 a6 a7 a8 a9 n) := evS _ _ fun _ => rfl
theorem yzr {r} (a0 a1 a2 a3 a4 a5 a6 a7 a8 a9 a10 a11) : type_of% (evS (fun n => kz5 n a0 a1 a2 a3 a4 a5 a6 a7 a8 a9 a10 a11) r fun n => kz5.eq_2 a0 a1 a2 a3 a4 a5 a6 a7 a8 a9 a10 a11 n) := evS _ _ fun _ => rfl
theorem zik {r} (a0) : type_of% (evS (fun n => zzx n a0) r fun n => zzx.eq_2 a0 n) := evS _ _ fun _ => rfl
theorem zow {r} (a0 a1) : type_of% (evS (fun n => kzl n a0 a1) r fun n => kzl.eq_2 a0 a1 n) := evS _ _ fun _ => rfl
theorem ze1 {r} (a0 a1 a2 a3) : type_of% (evS (fun n => z2w n a0 a1 a2 a3) r fun n => z2w.eq_2 a0 a1 a2 a3 n) := evS _ _ fun _ => rfl
theorem zid {r} (a0 a1 a2 a3) : type_of% (evS (fun n => z3v n a0 a1 a2 a3) r fun n => z3v.eq_2 a0 a1 a2 a3 n) := evS _ _ fun _ => rfl
theorem zdq {r} (a0 a1) : type_of% (evS (fun n => z2p n a0 a1) r fun n => z2p.eq_2 a0 a1 n) := evS _ _ fun _ => rfl
theorem z7r {r} (a0 a1 a2 a3 a4) : type_of% (evS (fun n => z17 n a0 a1 a2 a3 a4) r fun n => z17.eq_2 a0 a1 a2 a3 a4 n) := evS _ _ fun _ => rfl
theorem zgi {r} (a0 a1 a2) : type_of% (evS (fun n => z2b n a0 a1 a2) r fun n => z2b.eq_2 a0 a1 a2 n) := evS _ _ fun _ => rfl
theorem zgh {r} (a0 a1) : type_of% (evS (fun n => z34 n a0 a1) r fun n => z34.eq_2 a0 a1 n) := evS _ _ fun _ => rfl
theorem zig {r} (a0) : type_of% (evS (fun n => z1u n a0) r fun n => z1u.eq_2 a0 n) := evS _ _ fun _ => rfl
theorem z9y {r} (a0 a1 a2 a3 a4 a5 a6 a7 a8 a9 a10) : type_of% (evS (fun n => z0r n a0 a1 a2 a3 a4 a5 a6 a7 a8 a9 a10) r fun n => z0r.eq_2 a0 a1 a2 a3 a4 a5 a6 a7 a8 a9 a10 n) := evS _ _ fun _ => rfl
theorem z6s {r} (a0 a1) : type_of% (evS (fun n => kz8 n a0 a1) r fun n => kz8.eq_2 a0 a1 n) := evS _ _ fun _ => rfl
theorem yzn {r} (a0 a1 a2 a3) : type_of% (evS (fun n => kz4 n a0 a1 a2 a3) r fun n => kz4.eq_2 a0 a1 a2 a3 n) := evS _ _ fun _ => rfl
theorem zi3 {r} (a0 a1) : type_of% (evS (fun n => z3u n a0 a1) r fun n => z3u.eq_2 a0 a1 n) := evS _ _ fun _ => rfl
theorem zeh {r} (a0 a1) : type_of% (evS (fun n => z0s n a0 a1) r fun n => z0s.eq_2 a0 a1 n) := evS _ _ fun _ => rfl
theorem zkg {r} (a0) : type_of% (evS (fun n => z4m n a0) r fun n => z4m.eq_2 a0 n) := evS _ _ fun _ => rfl
theorem zmz {r} (a0) : type_of% (evS (fun n => z10 n a0) r fun n => z10.eq_2 a0 n) := evS _ _ fun _ => rfl
theorem zpa {r} (a0 a1) : type_of% (evS (fun n => z3b n a0 a1) r fun n => z3b.eq_2 a0 a1 n) := evS _ _ fun _ => rfl
theorem zi4 {r} (a0 a1) : type_of% (evS (fun n => kzv n a0 a1) r fun n => kzv.eq_2 a0 a1 n) := evS _ _ fun _ => rfl
theorem zji {r} (a0 a1 a2 a3 a4 a5 a6 a7 a8 a9) : type_of% (evS (fun n => z4n n a0 a1 a2 a3 a4 a5 a6 a7 a8 a9) r fun n => z4n.eq_2 a0 a1 a2 a3 a4 a5 a6 a7 a8 a9 n) := evS _ _ fun _ => rfl
theorem zfb {r} (a0 a1) : type_of% (evS (fun n => z4x n a0 a1) r fun n => z4x.eq_2 a0 a1 n) := evS _ _ fun _ => rfl
theorem za4 {r} (a0 a1 a2 a3 a4 a5 a6 a7 a8 a9 a10 a11) : type_of% (evS (fun n => z0m n a0 a1 a2 a3 a4 a5 a6 a7 a8 a9 a10 a11) r fun n => z0m.eq_2 a0 a1 a2 a3 a4 a5 a6 a7 a8 a9 a10 a11 n) := evS _ _ fun _ => rfl
theorem zpk {r} (a0 a1) : type_of% (evS (fun n => z6c n a0 a1) r fun n => z6c.eq_2 a0 a1 n) := evS _ _ fun _ => rfl
theorem zjv {r} (a0 a1) : type_of% (evS (fun n => z0t n a0 a1) r fun n => z0t.eq_2 a0 a1 n) := evS _ _ fun _ => rfl
theorem zou {r} (a0 a1) : type_of% (evS (fun n => z6b n a0 a1) r fun n => z6b.eq_2 a0 a1 n) := evS _ _ fun _ => rfl
theorem zp3 {r} (a0 a1) : type_of% (evS (fun n => z6f n a0 a1) r fun n => z6f.eq_2 a0 a1 n) := evS _ _ fun _ => rfl
theorem zn6 {r} (a0) : type_of% (evS (fun n => z0y n a0) r fun n => z0y.eq_2 a0 n) := evS _ _ fun _ => rfl
theorem z9i {r} (a0 a1) : type_of% (evS (fun n => z15 n a0 a1) r fun n => z15.eq_2 a0 a1 n) := evS _ _ fun _ => rfl
theorem zkj {r} (a0) : type_of% (evS (fun n => z4s n a0) r fun n => z4s.eq_2 a0 n) := evS _ _ fun _ => rfl
theorem zlu {r} (a0 a1) : type_of% (evS (fun n => z2q n a0 a1) r fun n => z2q.eq_2 a0 a1 n) := evS _ _ fun _ => rfl
theorem zbw {r} (a0 a1 a2 a3 a4 a5) : type_of% (evS (fun n => z29 n a0 a1 a2 a3 a4 a5) r fun n => z29.eq_2 a0 a1 a2 a3 a4 a5 n) := evS _ _ fun _ => rfl
theorem zg1 {r} (a0 a1) : type_of% (evS (fun n => z26 n a0 a1) r fun n => z26.eq_2 a0 a1 n) := evS _ _ fun _ => rfl
theorem zfk {r} (a0) : type_of% (evS (fun n => z3c n a0) r fun n => z3c.eq_2 a0 n) := evS _ _ fun _ => rfl
theorem zh6 {r} (a0 a1) : type_of% (evS (fun n => z5p n a0 a1) r fun n => z5p.eq_2 a0 a1 n) := evS _ _ fun _ => rfl
theorem z6i {r} (a0 a1 a2 a3) : type_of% (evS (fun n => z2m n a0 a1 a2 a3) r fun n => z2m.eq_2 a0 a1 a2 a3 n) := evS _ _ fun _ => rfl
theorem zda {r} (a0 a1) : type_of% (evS (fun n => z33 n a0 a1) r fun n => z33.eq_2 a0 a1 n) := evS _ _ fun _ => rfl
theorem zpn {r} (a0 a1) : type_of% (evS (fun n => z6e n a0 a1) r fun n => z6e.eq_2 a0 a1 n) := evS _ _ fun _ => rfl
theorem zgk {r} (a0) : type_of% (evS (fun n => z25 n a0) r fun n => z25.eq_2 a0 n) := evS _ _ fun _ => rfl
theorem ziw {r} (a0 a1) : type_of% (evS (fun n => z6d n a0 a1) r fun n => z6d.eq_2 a0 a1 n) := evS _ _ fun _ => rfl
theorem zdt {r} (a0 a1) : type_of% (evS (fun n => z3t n a0 a1) r fun n => z3t.eq_2 a0 a1 n) := evS _ _ fun _ => rfl
theorem zdu {r} (a0 a1) : type_of% (evS (fun n => z3o n a0 a1) r fun n => z3o.eq_2 a0 a1 n) := evS _ _ fun _ => rfl
theorem zbj {r} (a0 a1) : type_of% (evS (fun n => z0c n a0 a1) r fun n => z0c.eq_2 a0 a1 n) := evS _ _ fun _ => rfl
theorem z4g {r} (a0 a1 a2 a3 a4) : type_of% (evS (fun n => yzj n a0 a1 a2 a3 a4) r fun n => yzj.eq_2 a0 a1 a2 a3 a4 n) := evS _ _ fun _ => rfl
theorem zkn {r} (a0 a1) : type_of% (evS (fun n => z4w n a0 a1) r fun n => z4w.eq_2 a0 a1 n) := evS _ _ fun _ => rfl
theorem zf8 {r} (a0) : type_of% (evS (fun n => z1h n a0) r fun n => z1h.eq_2 a0 n) := evS _ _ fun _ => rfl
theorem zdv {r} (a0 a1) : type_of% (evS (fun n => z3p n a0 a1) r fun n => z3p.eq_2 a0 a1 n) := evS _ _ fun _ => rfl
theorem ze6 {r} (a0) : type_of% (evS (fun n => z1o n a0) r fun n => z1o.eq_2 a0 n) := evS _ _ fun _ => rfl
theorem z89 {r} (a0 a1 a2 a3 a4 a5 a6 a7 a8 a9 a10) : type_of% (evS (fun n => kzq n a0 a1 a2 a3 a4 a5 a6 a7 a8 a9 a10) r fun n => kzq.eq_2 a0 a1 a2 a3 a4 a5 a6 a7 a8 a9 a10 n) := evS _ _ fun _ => rfl
theorem zm2 {r} (a0 a1) : type_of% (evS (fun n => z1n n a0 a1) r fun n => z1n.eq_2 a0 a1 n) := evS _ _ fun _ => rfl
theorem zjn {r} (a0 a1) : type_of% (evS (fun n => z4l n a0 a1) r fun n => z4l.eq_2 a0 a1 n) := evS _ _ fun _ => rfl
theorem zfe {r} (a0 a1 a2) : type_of% (evS (fun n => z04 n a0 a1 a2) r fun n => z04.eq_2 a0 a1 a2 n) := evS _ _ fun _ => rfl
theorem zk2 {r} (a0 a1) : type_of% (evS (fun n => z4i n a0 a1) r fun n => z4i.eq_2 a0 a1 n) := evS _ _ fun _ => rfl
theorem zka {r} (a0 a1) : type_of% (evS (fun n => z4u n a0 a1) r fun n => z4u.eq_2 a0 a1 n) := evS _ _ fun _ => rfl
theorem zpj {r} (a0 a1) : type_of% (evS (fun n => z6a n a0 a1) r fun n => z6a.eq_2 a0 a1 n) := evS _ _ fun _ => rfl
theorem z81 {r} (a0 a1) : type_of% (evS (fun n => z09 n a0 a1) r fun n => z09.eq_2 a0 a1 n) := evS _ _ fun _ => rfl
theorem zkx {r} (a0 a1) : type_of% (evS (fun n => z4r n a0 a1) r fun n => z4r.eq_2 a0 a1 n) := evS _ _ fun _ => rfl
theorem zd4 {r} (a0) : type_of% (evS (fun n => z0z n a0) r fun n => z0z.eq_2 a0 n) := evS _ _ fun _ => rfl
theorem z5g {r} (a0 a1 a2 a3) : type_of% (evS (fun n => yzw n a0 a1 a2 a3) r fun n => yzw.eq_2 a0 a1 a2 a3 n) := evS _ _ fun _ => rfl
theorem zbl {r} (a0 a1) : type_of% (evS (fun n => z0f n a0 a1) r fun n => z0f.eq_2 a0 a1 n) := evS _ _ fun _ => rfl
theorem ze7 {r} (a0) : type_of% (evS (fun n => z0q n a0) r fun n => z0q.eq_2 a0 n) := evS _ _ fun _ => rfl
end Go.Proofs.YtfhpamcehnfhoaaGreatDoor


namespace Go.Proofs.YtfhpamcehnfhoaaGreatDoor
open Go Go.Ab
set_option linter.unusedVariables false
theorem zgu {α : Type} {x y : List α} (h : x.length + y.length ≤ 268435456) : ext x y = some (x ++ y) := by unfold ext; rw [if_pos (by simpa [zct] using h)]
set_option linter.unusedSimpArgs false
def I64 (x : Int) : Prop := -9223372036854775808 ≤ x ∧ x ≤ 9223372036854775807
theorem zo7 {x : Int} (h : I64 x) : Ev (fun n => z10 n x) (x.natAbs : Int) := by
 unfold I64 at h
 rw [zmz]
 simp only [Ev.pif, Ev.yz0, decide_eq_true_eq]
 split
 ·rw [wUn (x := x) (by omega), wUn (by omega)]; omega
 ·rw [wU (by omega)]; omega
theorem yhb : ∀ (b a : Nat), Ev (fun n => kzv n (b : Int) (a : Int)) (Nat.gcd a b : Int) := by
 intro b
 induction b using Nat.strongRecOn with
 | ind b ih =>
   intro a
   rw [zi4]
   by_cases hb : b = 0
   · subst hb
     simp [Ev.pif, Ev.yz0]
   · have hm : rem .u64 (a : Int) (b : Int) = some ((a % b : Nat) : Int) := by
       unfold rem; rw [if_neg (by omega), Int.tmod_eq_emod_of_nonneg (by omega)]; simp
     rw [Ev.yz2 (by simpa using hb), Ev.kz3 hm]
     have := ih (a % b) (Nat.mod_lt _ (by omega)) b
     rw [Nat.gcd_comm a b, Nat.gcd_rec b a, Nat.gcd_comm]
     exact this
theorem y7c {a b : Nat} : Ev (fun n => z3b n (a : Int) (b : Int)) (Nat.gcd a b : Int) := by
 rw [zpa]; exact yhb b a
def rok (r : yz1) : Bool := decide (1 ≤ r.den) && decide (r.den ≤ 1000000000) && decide (r.num.natAbs ≤ 1000000000) && (Nat.gcd r.num.natAbs r.den.natAbs == 1)
theorem zam {r : yz1} : rok r = true ↔ 1 ≤ r.den ∧ r.den ≤ 1000000000 ∧ r.num.natAbs ≤ 1000000000 ∧ Nat.gcd r.num.natAbs r.den.natAbs = 1 := by
 simp [rok, and_assoc]
theorem zlf {r : yz1} (h : I64 r.num) : Ev (fun n => z2e n r) (if rok r then 0 else 8) := by
 have l0 : ∀ b, Ev (fun n => kzz n b) (if b then 8 else 0) := fun b => by
  rw [zez]; cases b <;> simp [Ev.pif, Ev.yz0]
 rw [zkf]
 simp only [Ev.pif, decide_eq_true_eq]
 split
 ·refine (l0 _).to ?_; rw [if_pos rfl, if_neg]; rw [zam]; omega
 split
 ·refine (l0 _).to ?_; rw [if_pos rfl, if_neg]; rw [zam]; omega
 rw [Ev.kz0 (zo7 h)]
 simp only [Ev.pif, decide_eq_true_eq]
 split
 ·refine (l0 _).to ?_; rw [if_pos rfl, if_neg]; rw [zam]; omega
 rw [Ev.kz0 (zo7 h), wU (by omega)]
 have hd : r.den = (r.den.natAbs : Int) := by omega
 rw [hd, Ev.kz0 y7c]
 refine (l0 _).to ?_
 have : ((((Nat.gcd r.num.natAbs r.den.natAbs : Nat) : Int) != 1) = true) ↔ ¬ rok r = true := by
  rw [zam]
  simp only [bne_iff_ne, ne_eq]
  omega
 by_cases hr : rok r = true
 ·rw [if_neg (by rw [this]; simpa using hr), if_pos hr]
 ·rw [if_pos (by rw [this]; exact hr), if_neg hr]
theorem ynz (a b : Int) : Nat.gcd a.natAbs b.natAbs = Nat.gcd b.natAbs (a.tmod b).natAbs := by
 rw [Int.natAbs_tmod, Nat.gcd_comm a.natAbs, Nat.gcd_rec b.natAbs a.natAbs, Nat.gcd_comm]
theorem y4j : ∀ (m : Nat) (b a : Int), b.natAbs = m → I64 a → I64 b → ¬ a = -9223372036854775808 → ¬ b = -9223372036854775808 → Ev (fun n => z0s n b a) (Nat.gcd a.natAbs b.natAbs : Int) := by
 intro m
 induction m using Nat.strongRecOn with
 | ind m ih =>
   intro b a hm ha hb ha0 hb0
   unfold I64 at ha hb
   rw [zeh]
   by_cases h0 : b = 0
   · subst h0
     simp only [Ev.pif, Ev.yz0, decide_eq_true_eq]
     rw [if_neg (by simp)]
     split
     · rw [wI (by omega)]; simp; omega
     · simp; omega
   · have hr : rem .i64 a b = some (a.tmod b) := by unfold rem; rw [if_neg h0]
     have h1 : (a.tmod b).natAbs < b.natAbs := by rw [Int.natAbs_tmod]; exact Nat.mod_lt _ (by omega)
     rw [Ev.yz2 (by simpa using h0), Ev.kz3 hr]
     have := ih _ (by rw [← hm]; exact h1) (a.tmod b) b rfl hb (by unfold I64; omega) hb0 (by omega)
     rw [ynz a b]
     exact this
theorem yay {a b : Int} (ha : I64 a) (hb : I64 b) (ha0 : ¬ a = -9223372036854775808) (hb0 : ¬ b = -9223372036854775808) : Ev (fun n => z3u n a b) (Nat.gcd a.natAbs b.natAbs : Int) := by
 rw [zi3]; exact y4j _ b a rfl ha hb ha0 hb0
theorem yeg {r : yz1} : Ev (fun n => z4q n r) (if rok r then 0 else 8) := by
 have l0 : ∀ b, Ev (fun n => kzr n b) (if b then 8 else 0) := fun b => by
  rw [zfh]; cases b <;> simp [Ev.pif, Ev.yz0]
 rw [zjk]
 simp only [Ev.pif, decide_eq_true_eq]
 split
 ·refine (l0 _).to ?_; rw [if_pos rfl, if_neg]; rw [zam]; omega
 split
 ·refine (l0 _).to ?_; rw [if_pos rfl, if_neg]; rw [zam]; omega
 split
 ·refine (l0 _).to ?_; rw [if_pos rfl, if_neg]; rw [zam]; omega
 split
 ·refine (l0 _).to ?_; rw [if_pos rfl, if_neg]; rw [zam]; omega
 rw [Ev.kz0 (yay (by unfold I64; omega) (by unfold I64; omega) (by omega) (by omega))]
 refine (l0 _).to ?_
 have : ((((Nat.gcd r.num.natAbs r.den.natAbs : Nat) : Int) != 1) = true) ↔ ¬ rok r = true := by
  rw [zam]
  simp only [bne_iff_ne, ne_eq]
  omega
 by_cases hr : rok r = true
 ·rw [if_neg (by rw [this]; simpa using hr), if_pos hr]
 ·rw [if_pos (by rw [this]; exact hr), if_neg hr]
def zt5 (num den : Int) : Int × yz1 :=
 if den = 0 then (18, ⟨0, 0⟩) else
 if num.natAbs / Nat.gcd num.natAbs den.natAbs ≤ 1000000000 ∧ den.natAbs / Nat.gcd num.natAbs den.natAbs ≤ 1000000000 then
  (0, ⟨if decide (num < 0) = decide (den < 0) then ((num.natAbs / Nat.gcd num.natAbs den.natAbs : Nat) : Int) else -((num.natAbs / Nat.gcd num.natAbs den.natAbs : Nat) : Int), ((den.natAbs / Nat.gcd num.natAbs den.natAbs : Nat) : Int)⟩)
 else (16, ⟨0, 0⟩)
theorem ykp {k : IntKind} {a b : Nat} (hk : ∀ c : Nat, c ≤ a → k.wrap (c : Int) = c) (hb : b ≠ 0) : quo k (a : Int) (b : Int) = some ((a / b : Nat) : Int) := by
 unfold quo
 rw [if_neg (by omega), Int.tdiv_eq_ediv_of_nonneg (by omega), ← Int.natCast_ediv, hk _ (Nat.div_le_self _ _)]
theorem ztx {num den : Int} (hn : I64 num) (hd : I64 den) : Ev (fun n => z2q n num den) (zt5 num den) := by
 have l1 : ∀ a b, Ev (fun n => z26 n a b) (0, b) := fun a b => by rw [zg1]; exact Ev.yz0.2 rfl
 unfold I64 at hn hd
 rw [zlu]
 unfold zt5
 by_cases h0 : den = 0
 ·rw [Ev.yz2 (by simpa using h0), Ev.yz0, if_pos h0]
 rw [Ev.kz1 (by simpa using h0), Ev.kz0 (zo7 hn), Ev.kz0 (zo7 hd), Ev.kz0 y7c, if_neg h0]
 have hg : Nat.gcd num.natAbs den.natAbs ≠ 0 := fun h => by have := (Nat.gcd_eq_zero_iff.1 h).2; omega
 rw [Ev.kz3 (ykp (fun c hc => wU (by omega)) hg), Ev.kz3 (ykp (fun c hc => wU (by omega)) hg)]
 have hln : num.natAbs / Nat.gcd num.natAbs den.natAbs ≤ num.natAbs := Nat.div_le_self _ _
 have hld : den.natAbs / Nat.gcd num.natAbs den.natAbs ≤ den.natAbs := Nat.div_le_self _ _
 generalize num.natAbs / Nat.gcd num.natAbs den.natAbs = p at hln ⊢
 generalize den.natAbs / Nat.gcd num.natAbs den.natAbs = q at hld ⊢
 have bad : ∀ b, b = true → ¬ (p ≤ 1000000000 ∧ q ≤ 1000000000) → Ev (fun n => z29 n den num (q : Int) (p : Int) b ⟨0, 0⟩) (if p ≤ 1000000000 ∧ q ≤ 1000000000 then (0, (⟨if decide (num < 0) = decide (den < 0) then (p : Int) else -(p : Int), (q : Int)⟩ : yz1)) else (16, ⟨0, 0⟩)) := fun b hb h => by
  rw [zbw, Ev.yz2 hb, Ev.yz0, if_neg h]
 simp only [Ev.pif, decide_eq_true_eq]
 split
 ·exact bad _ rfl (by omega)
 by_cases hq : q ≤ 1000000000
 ·rw [zbw, Ev.kz1 (by simpa using (by omega : (q : Int) ≤ 1000000000)), if_pos ⟨by omega, hq⟩]
  rw [wI (x := (p : Int)) (by omega), wI (x := (q : Int)) (by omega), wI (by omega)]
  simp only [Ev.pif]
  cases h1 : decide (num < 0) <;> cases h2 : decide (den < 0) <;> (simp; exact l1 _ _)
 ·exact bad _ (by simp; omega) (by omega)
theorem yp8 {num den : Int} (h : (zt5 num den).1 = 0) : rok (zt5 num den).2 = true := by
 unfold zt5 at h ⊢
 split at h
 ·cases h
 ·rename_i h0
  split at h
  ·rename_i hc
   rw [if_neg h0, if_pos hc, zam]
   have hgp : 0 < Nat.gcd num.natAbs den.natAbs := Nat.gcd_pos_of_pos_right _ (by omega)
   have hco : Nat.gcd (num.natAbs / Nat.gcd num.natAbs den.natAbs) (den.natAbs / Nat.gcd num.natAbs den.natAbs) = 1 := (by rw [Nat.gcd_div (Nat.gcd_dvd_left _ _) (Nat.gcd_dvd_right _ _), Nat.div_self hgp])
   have hq : 1 ≤ den.natAbs / Nat.gcd num.natAbs den.natAbs := (Nat.one_le_div_iff hgp).2 (Nat.le_of_dvd (by omega) (Nat.gcd_dvd_right _ _))
   generalize num.natAbs / Nat.gcd num.natAbs den.natAbs = p at hco hc ⊢
   generalize den.natAbs / Nat.gcd num.natAbs den.natAbs = q at hco hc hq ⊢
   refine ⟨by simp; omega, by simp; omega, ?_, ?_⟩
   ·simp only; split <;> omega
   ·simp only
    split
    ·simpa using hco
    ·rw [Int.natAbs_neg]; simpa using hco
  ·cases h
end Go.Proofs.YtfhpamcehnfhoaaGreatDoor


namespace Go.Proofs.YtfhpamcehnfhoaaGreatDoor
open Go Go.Ab
set_option linter.unusedVariables false
set_option linter.unusedSimpArgs false
theorem ypi {x y : Int} : Ev (fun n => z0z n [x, y]) (if x = 0 then y else x) := by
 rw [zd4, z5g, Ev.yz2 (by rfl), Ev.kz3 (show ix [x, y] 0 = some x from rfl)]
 by_cases hx : x = 0
 ·subst hx
  rw [Ev.kz1 (by simp), if_pos rfl, z5g, Ev.yz2 (by rfl), Ev.kz3 (show ix [0, y] (IntKind.i64.wrap (0 + 1)) = some y from rfl)]
  by_cases hy : y = 0
  ·subst hy
   rw [Ev.kz1 (by simp), z5g, Ev.kz1 (by rfl), Ev.yz0]
  ·rw [Ev.yz2 (by simpa using hy), Ev.yz0]
 ·rw [Ev.yz2 (by simpa using hx), Ev.yz0, if_neg hx]
def wfR (r : yz1) : Prop := I64 r.num ∧ I64 r.den
theorem y85 {r : yz1} (h : rok r = true) : wfR r := by
 rw [zam] at h; unfold wfR I64; omega
theorem yeb {a b : yz1} (ha : wfR a) (hb : wfR b) : Ev (fun n => z1n n a b) ⟨a, b, ⟨0, 0⟩, if rok a && rok b then 0 else 8⟩ := by
 rw [zm2, Ev.kz0 (zlf ha.1), Ev.kz0 (zlf hb.1), Ev.kz0 ypi, Ev.yz0]
 cases rok a <;> cases rok b <;> rfl
theorem z9z {a b : yz1} (ha : wfR a) (hb : wfR b) {k : Int} (hk : k = if rok a && rok b then 0 else 8) : Ev (fun n => z1n n a b) ⟨a, b, ⟨0, 0⟩, k⟩ := by subst hk; exact yeb ha hb
def z95 (f : yz1 → yz1 → Int × Int) (a b : yz1) : Int × yz1 := if rok a && rok b then zt5 (f a b).1 (f a b).2 else (8, ⟨0, 0⟩)
def zne (a b : yz1) : Int × Int := (a.num * b.den + b.num * a.den, a.den * b.den)
def yj9 (a b : yz1) : Int × Int := (a.num * b.den - b.num * a.den, a.den * b.den)
def yhy (a b : yz1) : Int × Int := (a.num * b.num, a.den * b.den)
def fdiv (a b : yz1) : Int × Int := (a.num * b.den, a.den * b.num)
theorem zq0 {x y : Int} (hx : -1000000000 ≤ x ∧ x ≤ 1000000000) (hy : -1000000000 ≤ y ∧ y ≤ 1000000000) : -1000000000000000000 ≤ x * y ∧ x * y ≤ 1000000000000000000 := by
 have h : (x * y).natAbs ≤ 1000000000 * 1000000000 := by
  rw [Int.natAbs_mul]; exact Nat.mul_le_mul (by omega) (by omega)
 omega
theorem zpw {r : yz1} (h : rok r = true) : (-1000000000 ≤ r.num ∧ r.num ≤ 1000000000) ∧ (-1000000000 ≤ r.den ∧ r.den ≤ 1000000000) ∧ 1 ≤ r.den := by
 rw [zam] at h; omega
theorem zv1 {num den : Int} {c : z4f} (hn : I64 num) (hd : I64 den) (he : c.e = 0) : Ev (fun n => z04 n num den c) ⟨c.a, c.b, (zt5 num den).2, (zt5 num den).1⟩ := by
 rw [zfe, Ev.yz2 (by simp [he]), Ev.kz0 (ztx hn hd), Ev.yz0]
theorem y9j {a b : yz1} (ha : wfR a) (hb : wfR b) : Ev (fun n => z3p n a b) ((z95 zne a b).2, (z95 zne a b).1) := by
 unfold z95
 cases h : rok a && rok b
 ·rw [zdv, Ev.kz0 (z9z ha hb (k := 8) (by rw [h]; rfl))]
  simp [Ev.pif, Ev.yz0, zzl]
 ·simp only [Bool.and_eq_true] at h
  obtain ⟨a1, a2, _⟩ := zpw h.1
  obtain ⟨b1, b2, _⟩ := zpw h.2
  have m1 := zq0 a1 b2; have m2 := zq0 b1 a2; have m3 := zq0 a2 b2
  rw [zdv, Ev.kz0 (z9z ha hb (k := 0) (by rw [h.1, h.2]; rfl))]
  have hf : Ev (fun n => z4r n a b) (zne a b) := by
   rw [zkx, Ev.yz0, wI (x := a.num * b.den) (by omega), wI (x := b.num * a.den) (by omega), wI (by omega), wI (by omega)]; rfl
  rw [Ev.yz2 (by rfl), Ev.kz0 hf, Ev.kz0 (zv1 (by unfold I64 zne; simp only; omega) (by unfold I64 zne; simp only; omega) rfl)]
  simp [Ev.yz0, zzl]
theorem ylx {a b : yz1} (ha : wfR a) (hb : wfR b) : Ev (fun n => z6d n a b) ((z95 yj9 a b).2, (z95 yj9 a b).1) := by
 unfold z95
 cases h : rok a && rok b
 ·rw [ziw, Ev.kz0 (z9z ha hb (k := 8) (by rw [h]; rfl))]
  simp [Ev.pif, Ev.yz0, zzl]
 ·simp only [Bool.and_eq_true] at h
  obtain ⟨a1, a2, _⟩ := zpw h.1
  obtain ⟨b1, b2, _⟩ := zpw h.2
  have m1 := zq0 a1 b2; have m2 := zq0 b1 a2; have m3 := zq0 a2 b2
  rw [ziw, Ev.kz0 (z9z ha hb (k := 0) (by rw [h.1, h.2]; rfl))]
  have hf : Ev (fun n => z4l n a b) (yj9 a b) := by
   rw [zjn, Ev.yz0, wI (x := a.num * b.den) (by omega), wI (x := b.num * a.den) (by omega), wI (by omega), wI (by omega)]; rfl
  rw [Ev.yz2 (by rfl), Ev.kz0 hf, Ev.kz0 (zv1 (by unfold I64 yj9; simp only; omega) (by unfold I64 yj9; simp only; omega) rfl)]
  simp [Ev.yz0, zzl]
theorem yb9 {a b : yz1} (ha : wfR a) (hb : wfR b) : Ev (fun n => z3t n a b) ((z95 yhy a b).2, (z95 yhy a b).1) := by
 unfold z95
 cases h : rok a && rok b
 ·rw [zdt, Ev.kz0 (z9z ha hb (k := 8) (by rw [h]; rfl))]
  simp [Ev.pif, Ev.yz0, zzl]
 ·simp only [Bool.and_eq_true] at h
  obtain ⟨a1, a2, _⟩ := zpw h.1
  obtain ⟨b1, b2, _⟩ := zpw h.2
  have m1 := zq0 a1 b1; have m3 := zq0 a2 b2
  rw [zdt, Ev.kz0 (z9z ha hb (k := 0) (by rw [h.1, h.2]; rfl))]
  have hf : Ev (fun n => z4i n a b) (yhy a b) := by
   rw [zk2, Ev.yz0, wI (by omega), wI (by omega)]; rfl
  rw [Ev.yz2 (by rfl), Ev.kz0 hf, Ev.kz0 (zv1 (by unfold I64 yhy; simp only; omega) (by unfold I64 yhy; simp only; omega) rfl)]
  simp [Ev.yz0, zzl]
theorem y90 {a b : yz1} (ha : wfR a) (hb : wfR b) : Ev (fun n => z3o n a b) ((z95 fdiv a b).2, (z95 fdiv a b).1) := by
 unfold z95
 cases h : rok a && rok b
 ·rw [zdu, Ev.kz0 (z9z ha hb (k := 8) (by rw [h]; rfl))]
  simp [Ev.pif, Ev.yz0, zzl]
 ·simp only [Bool.and_eq_true] at h
  obtain ⟨a1, a2, _⟩ := zpw h.1
  obtain ⟨b1, b2, _⟩ := zpw h.2
  have m1 := zq0 a1 b2; have m3 := zq0 a2 b1
  rw [zdu, Ev.kz0 (z9z ha hb (k := 0) (by rw [h.1, h.2]; rfl))]
  have hf : Ev (fun n => z4u n a b) (fdiv a b) := by
   rw [zka, Ev.yz0, wI (by omega), wI (by omega)]; rfl
  rw [Ev.yz2 (by rfl), Ev.kz0 hf, Ev.kz0 (zv1 (by unfold I64 fdiv; simp only; omega) (by unfold I64 fdiv; simp only; omega) rfl)]
  simp [Ev.yz0, zzl]
theorem zwc {a b : yz1} (ha : wfR a) (hb : wfR b) : Ev (fun n => z6e n a b) (z95 zne a b) := by
 rw [zpn, Ev.kz0 (y9j ha hb), Ev.yz0]
theorem yl8 {a b : yz1} (ha : wfR a) (hb : wfR b) : Ev (fun n => z6c n a b) (z95 yj9 a b) := by
 rw [zpk, Ev.kz0 (ylx ha hb), Ev.yz0]
theorem ymd {a b : yz1} (ha : wfR a) (hb : wfR b) : Ev (fun n => z6b n a b) (z95 yhy a b) := by
 rw [zou, Ev.kz0 (yb9 ha hb), Ev.yz0]
theorem ylg {a b : yz1} (ha : wfR a) (hb : wfR b) : Ev (fun n => z6f n a b) (z95 fdiv a b) := by
 rw [zp3, Ev.kz0 (y90 ha hb), Ev.yz0]
def y8p (a b : yz1) : Int := if a.num * b.den < b.num * a.den then -1 else if a.num * b.den > b.num * a.den then 1 else 0
theorem zw9 {a b : yz1} (h1 : rok a = true) (h2 : rok b = true) : Ev (fun n => z6a n a b) (y8p a b, 0) := by
 obtain ⟨a1, a2, _⟩ := zpw h1
 obtain ⟨b1, b2, _⟩ := zpw h2
 have m1 := zq0 a1 b2; have m2 := zq0 b1 a2
 have hnan : ∀ x, Ev (fun n => z0q n x) false := fun x => by rw [ze7, Ev.yz0]; simp
 have hc : Ev (fun n => z0f n (a.num * b.den) (b.num * a.den)) (y8p a b) := by
  rw [zbl, Ev.kz0 (hnan _), Ev.kz0 (hnan _), Ev.kz1 (by rfl), Ev.kz1 (by rfl)]
  unfold y8p
  simp only [Ev.pif, Ev.yz0, decide_eq_true_eq]
  split <;> (try rfl)
  split <;> rfl
 rw [zpj, Ev.kz0 (z9z (y85 h1) (y85 h2) (k := 0) (by rw [h1, h2]; rfl)), Ev.kz1 (by rfl), wI (by omega), wI (by omega), Ev.kz0 hc, Ev.yz0]
def zmq (a : yz1) : Int × Int := if rok a then (a.num / a.den, 0) else (0, 8)
theorem y7d {a b : Int} (ha : -1000000000 ≤ a ∧ a ≤ 1000000000) (hb : 1 ≤ b) : -1000000000 ≤ a / b ∧ a / b ≤ 1000000000 := by
 constructor
 ·rw [Int.le_ediv_iff_mul_le (by omega)]
  omega
 ·have := Int.ediv_le_self b (a := a)
  by_cases h : 0 ≤ a
  ·have := Int.ediv_le_self b h; omega
  ·have := Int.ediv_neg_of_neg_of_pos (a := a) (b := b) (by omega) (by omega); omega
theorem yfw {a : yz1} (h : wfR a) : Ev (fun n => z4s n a) (zmq a) := by
 have l0 : ∀ q, Ev (fun n => z1h n q) q := fun q => by rw [zf8, Ev.yz0]
 rw [zkj, Ev.kz0 (zlf h.1)]
 unfold zmq
 cases hr : rok a
 ·rw [Ev.yz2 (by decide), Ev.yz0]; rfl
 ·rw [Ev.kz1 (by decide)]
  obtain ⟨a1, a2, a3⟩ := zpw hr
  have hq : a.num.tdiv a.den = if 0 ≤ a.num ∨ a.den ∣ a.num then a.num / a.den else a.num / a.den + 1 := by
   rw [Int.tdiv_eq_ediv]
   have : a.den.sign = 1 := Int.sign_eq_one_of_pos (by omega)
   split <;> simp_all
  have hm : a.num.tmod a.den < 0 ↔ ¬ (0 ≤ a.num ∨ a.den ∣ a.num) := by
   constructor
   ·intro hlt hh
    rcases hh with hh | hh
    ·have := Int.tmod_nonneg a.den hh; omega
    ·rw [Int.tmod_eq_zero_of_dvd hh] at hlt; omega
   ·intro hh
    have h0 : a.num < 0 := by omega
    have h1 : a.num.tmod a.den ≤ 0 := by
     have e : a.num = -(-a.num) := by omega
     rw [e, Int.neg_tmod]
     have := Int.tmod_nonneg a.den (show 0 ≤ -a.num by omega)
     omega
    have h2 : a.num.tmod a.den ≠ 0 := fun hz => hh (.inr (Int.dvd_of_tmod_eq_zero hz))
    omega
  have hb := y7d a1 a3
  have hf : Ev (fun n => z4w n a.num a.den) (a.num / a.den) := by
   have hq1 : quo .i64 a.num a.den = some (a.num.tdiv a.den) := by
    unfold quo; rw [if_neg (by omega), wI (by rw [hq]; split <;> omega)]
   have hr1 : rem .i64 a.num a.den = some (a.num.tmod a.den) := by unfold rem; rw [if_neg (by omega)]
   rw [zkn, Ev.kz3 hq1, Ev.kz3 hr1]
   by_cases hh : 0 ≤ a.num ∨ a.den ∣ a.num
   ·rw [Ev.kz1 (by rw [decide_eq_false_iff_not, hm]; exact not_not_intro hh), hq, if_pos hh]; exact l0 _
   ·rw [Ev.yz2 (by rw [decide_eq_true_eq, hm]; exact hh), hq, if_neg hh, wI (by omega)]
    exact (l0 _).to (by omega)
  rw [Ev.kz0 hf, Ev.yz0]; rfl
end Go.Proofs.YtfhpamcehnfhoaaGreatDoor


namespace Go.Proofs.YtfhpamcehnfhoaaGreatDoor
open Go Go.Ab
set_option linter.unusedVariables false
set_option linter.unusedSimpArgs false
theorem zj1 {P : zz0 → Prop} (h : ∀ v : zz0, (∀ x, x ∈ v.list → P x) → P v) (v : zz0) : P v := h v fun x hx => zj1 h x
termination_by v
decreasing_by exact zz0.zvh hx
mutual
def z14 : zz0 → Nat
 | ⟨k, _, _, _, l⟩ => if k = 4 then 1 + yzm l else 1
def yzm : List zz0 → Nat
 | [] => 0
 | x :: l => z14 x + yzm l
end
mutual
def z7n : zz0 → Nat
 | ⟨k, _, _, _, l⟩ => if k = 4 then max 1 (z4c l) else 1
def z4c : List zz0 → Nat
 | [] => 0
 | x :: l => max (1 + z7n x) (z4c l)
end
theorem z02 (v : zz0) : z14 v = if v.kind = 4 then 1 + yzm v.list else 1 := by cases v; rw [z14]
theorem z5e (v : zz0) : z7n v = if v.kind = 4 then max 1 (z4c v.list) else 1 := by cases v; rw [z7n]
theorem y1p {l : List zz0} {x : zz0} (h : x ∈ l) : x.size ≤ (l.map zz0.size).sum := by
 induction l with
 | nil => cases h
 | cons y l ih =>
   rcases List.mem_cons.1 h with rfl | h
   · simp
   · have := ih h; simp; omega
theorem yzp (v : zz0) : (v.list.map zz0.size).sum + v.str.length + 4 ≤ v.size := by rw [zz0.size_eq]; omega
theorem z98 {v x : zz0} (h : x ∈ v.list) : x.size ≤ v.size := by have := y1p h; have := yzp v; omega
theorem z3m (l : List zz0) : l.length ≤ (l.map zz0.size).sum := by
 induction l with
 | nil => simp
 | cons x l ih => have := yzp x; simp; omega
theorem zsh : ∀ v : zz0, z14 v ≤ v.size := zj1 fun v ih => by
 have : ∀ l : List zz0, (∀ x, x ∈ l → x ∈ v.list) → yzm l ≤ (l.map zz0.size).sum := fun l => by
  induction l with
  | nil => intro _; simp [yzm]
  | cons x l ihl =>
    intro hl
    have := ih x (hl x List.mem_cons_self)
    have := ihl fun y hy => hl y (List.mem_cons_of_mem _ hy)
    simp [yzm]; omega
 have := this v.list fun _ h => h
 have := yzp v
 rw [z02]; split <;> omega
theorem yfl : ∀ v : zz0, z7n v ≤ z14 v := zj1 fun v ih => by
 have : ∀ l : List zz0, (∀ x, x ∈ l → x ∈ v.list) → z4c l ≤ 1 + yzm l := fun l => by
  induction l with
  | nil => intro _; simp [yzm, z4c]
  | cons x l ihl =>
    intro hl
    have := ih x (hl x List.mem_cons_self)
    have := ihl fun y hy => hl y (List.mem_cons_of_mem _ hy)
    simp [yzm, z4c]; omega
 have := this v.list fun _ h => h
 rw [z02, z5e]; split <;> omega
theorem y2c (l : List zz0) : yzm l ≤ (l.map zz0.size).sum := by
 induction l with
 | nil => simp [yzm]
 | cons x l ih => have := zsh x; simp [yzm]; omega
theorem z8z : ∀ v : zz0, v.size ≤ 2097152 → Ev (fun n => kzk n v) ((z14 v : Int), (z7n v : Int)) := zj1 fun v ih hs => by
 have l1 : ∀ d p, Ev (fun n => kzf n d p) (p, d) := fun d p => by rw [zd2, Ev.yz0]
 have hsl := yzp v
 have hlen := z3m v.list
 have loop : ∀ k, k ≤ v.list.length → ∀ d p : Nat, p + yzm (v.list.drop k) ≤ 2097153 → d ≤ 2097153 → Ev (fun n => zzg n (k : Int) (d : Int) (p : Int) v.list (v.list.length : Int)) (((p + yzm (v.list.drop k) : Nat) : Int), ((max d (z4c (v.list.drop k)) : Nat) : Int)) :=
  down (fun d p hp hd => by
   rw [z99, Ev.kz1 (by simp)]
   refine (l1 _ _).to ?_
   simp [yzm, z4c]) fun k hk ihk d p hp hd => by
   have hx := List.getElem_mem hk
   have hsx := z98 hx
   rw [← List.getElem_cons_drop (h := hk)] at hp ⊢
   simp only [yzm, z4c] at hp ⊢
   have hpl := zsh v.list[k]
   have hdl := yfl v.list[k]
   rw [z99, Ev.yz2 (by simpa using hk), Ev.kz3 (z0u hk), zz0.zz3, Ev.kz0 (ih _ hx (by omega)), wI (x := _ + 1) (by omega), wI (x := (z7n _ : Int) + 1) (by omega), wI (x := (p : Int) + _) (by omega)]
   have e1 : (k : Int) + 1 = ((k + 1 : Nat) : Int) := by omega
   have e2 : (z7n v.list[k] : Int) + 1 = ((1 + z7n v.list[k] : Nat) : Int) := by omega
   have e3 : (p : Int) + (z14 v.list[k] : Int) = ((p + z14 v.list[k] : Nat) : Int) := by omega
   rw [e1, e2, e3, y08]
   refine (ihk (max d (1 + z7n v.list[k])) (p + z14 v.list[k]) (by omega) (by omega)).to ?_
   congr 2 <;> omega
 rw [zgn]
 by_cases hk : v.kind = 4
 ·rw [Ev.yz2 (by simpa using hk)]
  have hv := y2c v.list
  have := loop 0 (Nat.zero_le _) 1 1 (by simp; omega) (by omega)
  refine this.to ?_
  rw [z02, z5e, if_pos hk, if_pos hk, List.drop_zero]
 ·rw [Ev.kz1 (by simpa using hk)]
  refine (l1 1 1).to ?_
  rw [z02, z5e, if_neg hk, if_neg hk]; rfl
theorem zya : ∀ v : zz0, v.size ≤ 2097152 → Ev (fun n => z2v n v) (z14 v : Int) := zj1 fun v ih hs => by
 have hsl := yzp v
 have hlen := z3m v.list
 rw [zjt, zz0.zz3, z02]
 by_cases hk : v.kind = 4
 ·rw [if_pos hk]
  have hkk : (v.kind == 4) = true := by simpa using hk
  have loop : ∀ k, k ≤ v.list.length → ∀ p : Nat, p + yzm (v.list.drop k) ≤ 2097153 → Ev (fun n => z1k n (k : Int) (p : Int) v) ((p + yzm (v.list.drop k) : Nat) : Int) :=
   down (fun p hp => by
    rw [z8i, Ev.kz1 (by simp), z8m, Ev.kz1 (by rfl), Ev.yz0]
    simp [yzm]) fun k hk ihk p hp => by
    have hx := List.getElem_mem hk
    have hsx := z98 hx
    rw [← List.getElem_cons_drop (h := hk)] at hp ⊢
    simp only [yzm] at hp ⊢
    have hpl := zsh v.list[k]
    rw [z8i, Ev.yz2 (by simpa using hk), hkk, zz0.zz3, z8m, Ev.yz2 (by rfl), Ev.kz3 (z0u hk), zz0.zz3, Ev.kz0 (ih _ hx (by omega)), wI (x := _ + 1) (by omega), wI (x := (p : Int) + _) (by omega)]
    have e1 : (k : Int) + 1 = ((k + 1 : Nat) : Int) := by omega
    have e3 : (p : Int) + (z14 v.list[k] : Int) = ((p + z14 v.list[k] : Nat) : Int) := by omega
    rw [e1, e3, zz0.zz3]
    refine (ihk (p + z14 v.list[k]) (by omega)).to ?_
    congr 1; omega
  have hv := y2c v.list
  exact loop 0 (Nat.zero_le _) 1 (by simp; omega)
 ·rw [if_neg hk]
  have hkk : (v.kind == 4) = false := by simpa using hk
  have l1 : Ev (fun n => z1c n 0 1 false v) 1 := by rw [z8m, Ev.kz1 (by rfl), Ev.yz0]
  rw [z8i, hkk, zz0.zz3, Ev.pif]
  split <;> exact l1
theorem yjd : ∀ v : zz0, v.size ≤ 2097152 → Ev (fun n => z4t n v) (z7n v : Int) := zj1 fun v ih hs => by
 have hsl := yzp v
 have hlen := z3m v.list
 rw [zn5, zz0.zz3, z5e]
 by_cases hk : v.kind = 4
 ·rw [if_pos hk]
  have hkk : (v.kind == 4) = true := by simpa using hk
  have loop : ∀ k, k ≤ v.list.length → ∀ p : Nat, p ≤ 2097153 → Ev (fun n => z2l n (k : Int) (p : Int) v) ((max p (z4c (v.list.drop k)) : Nat) : Int) :=
   down (fun p hp => by
    rw [z9k, Ev.kz1 (by simp), z9g, Ev.kz1 (by rfl), Ev.yz0]
    simp [z4c]) fun k hk ihk p hp => by
    have hx := List.getElem_mem hk
    have hsx := z98 hx
    rw [← List.getElem_cons_drop (h := hk)]
    simp only [z4c]
    have hpl := zsh v.list[k]
    have hdl := yfl v.list[k]
    rw [z9k, Ev.yz2 (by simpa using hk), hkk, zz0.zz3, z9g, Ev.yz2 (by rfl), Ev.kz3 (z0u hk), zz0.zz3, Ev.kz0 (ih _ hx (by omega)), wI (x := _ + 1) (by omega), wI (x := 1 + _) (by omega)]
    have e1 : (k : Int) + 1 = ((k + 1 : Nat) : Int) := by omega
    have e3 : 1 + (z7n v.list[k] : Int) = ((1 + z7n v.list[k] : Nat) : Int) := by omega
    rw [e1, e3, zz0.zz3, y08]
    refine (ihk (max p (1 + z7n v.list[k])) (by omega)).to ?_
    congr 1; omega
  exact loop 0 (Nat.zero_le _) 1 (by omega)
 ·rw [if_neg hk]
  have hkk : (v.kind == 4) = false := by simpa using hk
  have l1 : Ev (fun n => z2h n 0 1 false v) 1 := by rw [z9g, Ev.kz1 (by rfl), Ev.yz0]
  rw [z9k, hkk, zz0.zz3, Ev.pif]
  split <;> exact l1
end Go.Proofs.YtfhpamcehnfhoaaGreatDoor


namespace Go.Proofs.YtfhpamcehnfhoaaGreatDoor
open Go Go.Ab
set_option linter.unusedVariables false
set_option linter.unusedSimpArgs false
def r0 : yz1 := ⟨0, 0⟩
def v0 : zz0 := ⟨0, ⟨0, 0⟩, false, [], []⟩
def znu (c : UInt8) : Bool := decide (32 ≤ c.toNat) && decide (c.toNat ≤ 126)
def nul (v : yz1) : Bool := v.num == 0 && v.den == 0
mutual
def z3x : zz0 → Bool
 | ⟨k, q, t, s, l⟩ =>
   if k = 1 then rok q && (!t && (s.isEmpty && l.isEmpty))
   else if k = 2 then nul q && (s.isEmpty && l.isEmpty)
   else if k = 3 then nul q && (!t && (l.isEmpty && (decide (s.length ≤ 60) && s.all znu)))
   else if k = 4 then nul q && (!t && (s.isEmpty && zf0 l))
   else false
def zf0 : List zz0 → Bool
 | [] => true
 | x :: l => z3x x && zf0 l
end
theorem z5x (v : zz0) : z3x v =
  if v.kind = 1 then rok v.num && (!v.truth && (v.str.isEmpty && v.list.isEmpty))
  else if v.kind = 2 then nul v.num && (v.str.isEmpty && v.list.isEmpty)
  else if v.kind = 3 then nul v.num && (!v.truth && (v.list.isEmpty && (decide (v.str.length ≤ 60) && v.str.all znu)))
  else if v.kind = 4 then nul v.num && (!v.truth && (v.str.isEmpty && zf0 v.list))
  else false := by cases v; rw [z3x]
theorem zpm (l : List zz0) : zf0 l = l.all z3x := by
 induction l with
 | nil => rfl
 | cons x l ih => simp [zf0, ih]
def zz9 (v : zz0) : Int := if 100 < z14 v ∨ 6 < z7n v then 4 else if z3x v then 0 else 8
theorem zfn {v : zz0} (h : v.wf) : wfR v.num := by
 rw [zz0.z6o] at h
 have := h.2.1
 rw [yz1.z6o] at this
 simpa [wfR, I64, IntKind.min, IntKind.max, IntKind.signed, IntKind.bits] using this
theorem ypp {v : zz0} (h : v.wf) : ∀ x ∈ v.list, x.wf := by
 rw [zz0.z6o] at h; exact h.2.2.2.2
theorem zgv {v : zz0} : Ev (fun n => z0i n v) (nul v.num && (!v.truth && (v.str.isEmpty && v.list.isEmpty))) := by
 rw [zft]
 obtain ⟨k, ⟨p, q⟩, t, s, l⟩ := v
 simp only [Ev.pif, Ev.yz0, nul, Bool.and_true]
 cases p == 0 <;> cases q == 0 <;> cases t <;> cases s <;> cases l <;> simp <;> omega
theorem yj2 : ∀ v : zz0, v.wf → v.size ≤ 2097152 → Ev (fun n => z4h n v) (z3x v) := zj1 fun v ih hw hs => by
 have hsl := yzp v
 have hlen := z3m v.list
 rw [zlp, z5x]
 by_cases h1 : v.kind = 1
 ·rw [if_pos h1, Ev.yz2 (by simpa using h1), Ev.kz0 (zlf (zfn hw).1)]
  cases hr : rok v.num
  ·rw [Ev.yz2 (by rfl), Ev.yz0]; rfl
  ·rw [Ev.kz1 (by rfl)]
   exact zgv
 rw [if_neg h1, Ev.kz1 (by simpa using h1)]
 by_cases h2 : v.kind = 2
 ·rw [if_pos h2, Ev.yz2 (by simpa using h2)]
  exact zgv
 rw [if_neg h2, Ev.kz1 (by simpa using h2)]
 by_cases h3 : v.kind = 3
 ·rw [if_pos h3, Ev.yz2 (by simpa using h3)]
  by_cases hl : v.str.length ≤ 60
  ·rw [Ev.kz1 (by simp; omega), zz0.zz3]
   have loop : ∀ w : zz0, ∀ k, k ≤ v.str.length → Ev (fun n => z22 n (k : Int) v w) ((v.str.drop k).all znu && (nul w.num && (!w.truth && (w.str.isEmpty && w.list.isEmpty)))) := fun w =>
    down (by
     rw [zby, Ev.kz1 (by simp), zz0.zz3]
     simpa using zgv) fun k hk ihk => by
     have bad : Ev (fun n => z23 n (k : Int) true v w) false := by rw [zck, Ev.yz2 (by rfl), Ev.yz0]
     rw [← List.getElem_cons_drop (h := hk), List.all_cons]
     rw [zby, Ev.yz2 (by simpa using hk), Ev.kz3 (z0u hk), zz0.zz3, zz0.zz3]
     by_cases c1 : v.str[k].toNat < 32
     ·rw [Ev.yz2 (by simp; omega)]
      refine bad.to ?_
      have : znu v.str[k] = false := by simp [znu]; omega
      rw [this]; rfl
     ·rw [Ev.kz1 (by simp; omega), Ev.kz3 (z0u hk)]
      by_cases c2 : v.str[k].toNat > 126
      ·rw [show decide ((v.str[k].toNat : Int) > 126) = true by simp; omega]
       refine bad.to ?_
       have : znu v.str[k] = false := by simp [znu]; omega
       rw [this]; rfl
      ·rw [show decide ((v.str[k].toNat : Int) > 126) = false by simp; omega, zck, Ev.kz1 (by rfl), wrk (by omega), zz0.zz3, zz0.zz3]
       have : znu v.str[k] = true := by simp [znu]; omega
       rw [this, Bool.true_and]
       exact ihk
   refine (loop ⟨v.kind, v.num, v.truth, [], v.list⟩ 0 (Nat.zero_le _)).to ?_
   simp only [List.drop_zero, hl, decide_true, Bool.true_and, List.isEmpty_nil]
   cases nul v.num <;> cases v.truth <;> cases v.list.isEmpty <;> cases v.str.all znu <;> rfl
  ·rw [Ev.yz2 (by simp; omega), Ev.yz0]
   simp [hl]
 rw [if_neg h3, Ev.kz1 (by simpa using h3)]
 by_cases h4 : v.kind = 4
 ·rw [if_pos h4, Ev.yz2 (by simpa using h4)]
  have loop : ∀ w : zz0, ∀ k, k ≤ v.list.length → Ev (fun n => z2n n (k : Int) v.list (v.list.length : Int) w) (zf0 (v.list.drop k) && (nul w.num && (!w.truth && (w.str.isEmpty && w.list.isEmpty)))) := fun w =>
   down (by
    rw [zbq, Ev.kz1 (by simp), zz0.zz3]
    simpa [zf0] using zgv) fun k hk ihk => by
    have hx := List.getElem_mem hk
    have hsx := z98 hx
    rw [← List.getElem_cons_drop (h := hk), zf0]
    rw [zbq, Ev.yz2 (by simpa using hk), Ev.kz3 (z0u hk), zz0.zz3, Ev.kz0 (ih _ hx (ypp hw _ hx) (by omega))]
    cases hf : z3x v.list[k]
    ·rw [Ev.yz2 (by rfl), Ev.yz0]; rfl
    ·rw [Ev.kz1 (by rfl), wrk (by omega), zz0.zz3, Bool.true_and]
     exact ihk
  refine (loop ⟨v.kind, v.num, v.truth, v.str, []⟩ 0 (Nat.zero_le _)).to ?_
  simp only [List.drop_zero, List.isEmpty_nil, Bool.and_true]
  cases nul v.num <;> cases v.truth <;> cases v.str.isEmpty <;> cases zf0 v.list <;> rfl
 ·rw [if_neg h4, Ev.kz1 (by simpa using h4), Ev.yz0]
theorem z5o {v : zz0} (hw : v.wf) (hs : v.size ≤ 2097152) : Ev (fun n => yzx n v) (zz9 v) := by
 have l0 : ∀ b, Ev (fun n => z18 n b v) (if b then 4 else if z3x v then 0 else 8) := fun b => by
  rw [zfg]
  cases b
  ·rw [Ev.kz1 (by rfl), zz0.zz3, Ev.kz0 (yj2 v hw hs)]
   cases z3x v
   ·rw [Ev.yz2 (by rfl), Ev.yz0]; rfl
   ·rw [Ev.kz1 (by rfl), Ev.yz0]; rfl
  ·rw [Ev.yz2 (by rfl), Ev.yz0]; rfl
 rw [zkd, zz0.zz3, Ev.kz0 (z8z v hs)]
 unfold zz9
 simp only [Ev.pif]
 by_cases h1 : 100 < z14 v
 ·rw [if_pos (by simp; omega), if_pos (.inl h1)]; exact l0 true
 ·rw [if_neg (by simp; omega)]
  by_cases h2 : 6 < z7n v
  ·rw [if_pos (.inr h2), show decide ((z7n v : Int) > 6) = true by simp; omega]; exact l0 true
  ·rw [if_neg (by omega), show decide ((z7n v : Int) > 6) = false by simp; omega]; exact l0 false
theorem yjf : ∀ v : zz0, v.size ≤ 2097152 → Ev (fun n => z4o n v) (z3x v) := zj1 fun v ih hs => by
 have hsl := yzp v
 have hlen := z3m v.list
 rw [zn3, z5x]
 have hnul : ((v.num.num == 0) && ((v.num.den == 0) && true)) = nul v.num := by simp [nul]
 have hstr : ((v.str.length : Int) == 0) = v.str.isEmpty := by cases v.str <;> simp; omega
 have hlst : ((v.list.length : Int) == 0) = v.list.isEmpty := by cases v.list <;> simp; omega
 have hgt : decide ((v.list.length : Int) > 0) = !v.list.isEmpty := by cases v.list <;> simp
 have hgs : decide ((v.str.length : Int) > 0) = !v.str.isEmpty := by cases v.str <;> simp
 simp only [hnul, hstr, hlst, hgt, hgs]
 by_cases h1 : v.kind = 1
 ·rw [if_pos h1, Ev.yz2 (by simpa using h1), Ev.kz0 yeg]
  cases hr : rok v.num <;> cases ht : v.truth <;> cases hss : v.str.isEmpty <;> simp [Ev.pif, Ev.yz0]
 rw [if_neg h1, Ev.kz1 (by simpa using h1)]
 by_cases h2 : v.kind = 2
 ·rw [if_pos h2, Ev.yz2 (by simpa using h2)]
  cases hr : nul v.num <;> cases hss : v.str.isEmpty <;> simp [Ev.pif, Ev.yz0]
 rw [if_neg h2, Ev.kz1 (by simpa using h2)]
 by_cases h3 : v.kind = 3
 ·rw [if_pos h3, Ev.yz2 (by simpa using h3)]
  have bad : Ev (fun n => z03 n true v) false := by rw [zcc, Ev.yz2 (by rfl), Ev.yz0]
  have loop : ∀ k, k ≤ v.str.length → Ev (fun n => z2f n (k : Int) v) ((v.str.drop k).all znu) :=
   down (by
    rw [zcr, Ev.kz1 (by simp), Ev.yz0]
    simp) fun k hk ihk => by
    have bad : Ev (fun n => z1w n (k : Int) true v) false := by rw [zch, Ev.yz2 (by rfl), Ev.yz0]
    rw [← List.getElem_cons_drop (h := hk), List.all_cons]
    rw [zcr, Ev.yz2 (by simpa using hk), Ev.kz3 (z0u hk), zz0.zz3]
    by_cases c1 : v.str[k].toNat < 32
    ·rw [Ev.yz2 (by simp; omega)]
     refine bad.to ?_
     have : znu v.str[k] = false := by simp [znu]; omega
     rw [this]; rfl
    ·rw [Ev.kz1 (by simp; omega), Ev.kz3 (z0u hk)]
     by_cases c2 : v.str[k].toNat > 126
     ·rw [show decide ((v.str[k].toNat : Int) > 126) = true by simp; omega]
      refine bad.to ?_
      have : znu v.str[k] = false := by simp [znu]; omega
      rw [this]; rfl
     ·rw [show decide ((v.str[k].toNat : Int) > 126) = false by simp; omega, zch, Ev.kz1 (by rfl), wrk (by omega), zz0.zz3]
      have : znu v.str[k] = true := by simp [znu]; omega
      rw [this, Bool.true_and]
      exact ihk
  have good : Ev (fun n => z03 n false v) (v.str.all znu) := by
   rw [zcc, Ev.kz1 (by rfl), zz0.zz3]; simpa using loop 0 (Nat.zero_le _)
  rw [zz0.zz3]
  cases hr : nul v.num
  ·rw [Ev.yz2 (by rfl)]; exact bad
  rw [Ev.kz1 (by rfl)]
  cases ht : v.truth
  ·rw [Ev.kz1 (by rfl)]
   cases hl : v.list.isEmpty
   ·rw [Ev.yz2 (by rfl)]; exact bad
   ·rw [Ev.kz1 (by rfl)]
    by_cases h60 : v.str.length ≤ 60
    ·rw [show decide ((v.str.length : Int) > 60) = false by simp; omega]
     simpa [h60] using good
    ·rw [show decide ((v.str.length : Int) > 60) = true by simp; omega]
     simpa [h60] using bad
  ·rw [Ev.yz2 (by rfl)]; exact bad
 rw [if_neg h3, Ev.kz1 (by simpa using h3)]
 by_cases h4 : v.kind = 4
 ·rw [if_pos h4, Ev.yz2 (by simpa using h4)]
  have bad : Ev (fun n => z0j n true v) false := by rw [zcd, Ev.yz2 (by rfl), Ev.yz0]
  have loop : ∀ k, k ≤ v.list.length → Ev (fun n => z2d n (k : Int) v) (zf0 (v.list.drop k)) :=
   down (by
    rw [zcm, Ev.kz1 (by simp), Ev.yz0]
    simp [zf0]) fun k hk ihk => by
    have hx := List.getElem_mem hk
    have hsx := z98 hx
    rw [← List.getElem_cons_drop (h := hk), zf0]
    rw [zcm, Ev.yz2 (by simpa using hk), Ev.kz3 (z0u hk), zz0.zz3, Ev.kz0 (ih _ hx (by omega))]
    cases hf : z3x v.list[k]
    ·rw [Ev.yz2 (by rfl), Ev.yz0]; rfl
    ·rw [Ev.kz1 (by rfl), wrk (by omega), zz0.zz3, Bool.true_and]
     exact ihk
  have good : Ev (fun n => z0j n false v) (zf0 v.list) := by
   rw [zcd, Ev.kz1 (by rfl), zz0.zz3]; simpa using loop 0 (Nat.zero_le _)
  rw [zz0.zz3]
  cases hr : nul v.num
  ·rw [Ev.yz2 (by rfl)]; exact bad
  rw [Ev.kz1 (by rfl)]
  cases ht : v.truth
  ·rw [Ev.kz1 (by rfl)]
   cases hl : v.str.isEmpty
   ·exact bad
   ·simpa using good
  ·rw [Ev.yz2 (by rfl)]; exact bad
 ·rw [if_neg h4, Ev.kz1 (by simpa using h4), Ev.yz0]
theorem zxn {v : zz0} (hs : v.size ≤ 2097152) : Ev (fun n => z1x n v) (zz9 v) := by
 have l0 : ∀ b, Ev (fun n => z1e n b v) (if b then 4 else if z3x v then 0 else 8) := fun b => by
  rw [zfa]
  cases b
  ·rw [Ev.kz1 (by rfl), zz0.zz3, Ev.kz0 (yjf v hs)]
   cases z3x v
   ·rw [Ev.yz2 (by rfl), Ev.yz0]; rfl
   ·rw [Ev.kz1 (by rfl), Ev.yz0]; rfl
  ·rw [Ev.yz2 (by rfl), Ev.yz0]; rfl
 rw [zjq, zz0.zz3, Ev.kz0 (zya v hs)]
 unfold zz9
 by_cases h1 : 100 < z14 v
 ·rw [Ev.yz2 (by simp; omega), if_pos (.inl h1)]; exact l0 true
 ·rw [Ev.kz1 (by simp; omega), Ev.kz0 (yjd v hs)]
  by_cases h2 : 6 < z7n v
  ·rw [if_pos (.inr h2), show decide ((z7n v : Int) > 6) = true by simp; omega]; exact l0 true
  ·rw [if_neg (by omega), show decide ((z7n v : Int) > 6) = false by simp; omega]; exact l0 false
end Go.Proofs.YtfhpamcehnfhoaaGreatDoor


namespace Go.Proofs.YtfhpamcehnfhoaaGreatDoor
open Go Go.Ab
set_option linter.unusedVariables false
set_option linter.unusedSimpArgs false
theorem vext {a b : zz0} (h1 : a.kind = b.kind) (h2 : a.num.num = b.num.num) (h3 : a.num.den = b.num.den) (h4 : a.truth = b.truth) (h5 : a.str = b.str) (h6 : a.list = b.list) : a = b := by
 obtain ⟨k, ⟨p, q⟩, t, s, l⟩ := a
 obtain ⟨k', ⟨p', q'⟩, t', s', l'⟩ := b
 simp_all
theorem yg8 {α : Type} {x y : α} {l m : List α} : eqB (x :: l) (y :: m) = (eqB x y && eqB l m) := by
 cases h : (eqB x y && eqB l m)
 ·rw [zcl]; intro hh; injection hh with h1 h2
  rw [Bool.and_eq_false_iff, zcl, zcl] at h
  exact h.elim (fun h => h h1) (fun h => h h2)
 ·rw [zdj]
  rw [Bool.and_eq_true, zdj, zdj] at h
  rw [h.1, h.2]
theorem zg3 : ∀ a b : zz0, a.size ≤ 2097152 → Ev (fun n => z0e n a b) (eqB a b) := zj1 (P := fun a => ∀ b : zz0, a.size ≤ 2097152 → Ev (fun n => z0e n a b) (eqB a b)) fun a ih b hs => by
 have hsl := yzp a
 have hlen := z3m a.list
 have bad : a ≠ b → Ev (fun n => z00 n true b a) (eqB a b) := fun h => by rw [zbn, Ev.yz2 (by rfl), Ev.yz0, zcl.2 h]
 rw [zlq, zz0.zz3, zz0.zz3]
 by_cases h1 : a.kind = b.kind
 case neg => rw [Ev.yz2 (by simpa using h1)]; exact bad fun h => h1 (by rw [h])
 rw [Ev.kz1 (by simpa using h1)]
 by_cases h2 : a.num.num = b.num.num ∧ a.num.den = b.num.den
 case neg => rw [Ev.yz2 (by simp; omega)]; exact bad fun h => h2 (by rw [h]; exact ⟨rfl, rfl⟩)
 rw [Ev.kz1 (by simp [h2])]
 by_cases h3 : a.truth = b.truth
 case neg => rw [Ev.yz2 (by simpa using h3)]; exact bad fun h => h3 (by rw [h])
 rw [Ev.kz1 (by simp [h3])]
 by_cases h4 : a.str = b.str
 case neg => rw [Ev.yz2 (by simpa using h4)]; exact bad fun h => h4 (by rw [h])
 rw [Ev.kz1 (by simp [h4])]
 by_cases h5 : a.list.length = b.list.length
 case neg => rw [show ((a.list.length : Int) != (b.list.length : Int)) = true by simp; omega]; exact bad fun h => h5 (by rw [h])
 rw [show ((a.list.length : Int) != (b.list.length : Int)) = false by simp; omega, zbn, Ev.kz1 (by rfl), zz0.zz3, zz0.zz3]
 have loop : ∀ k, k ≤ a.list.length → Ev (fun n => z1y n (k : Int) (a.list.length : Int) b a) (eqB (a.list.drop k) (b.list.drop k)) :=
  down (by
   rw [zc1, Ev.kz1 (by simp), Ev.yz0, List.drop_length, h5, List.drop_length, yjq]) fun k hk ihk => by
   have hk2 : k < b.list.length := by omega
   have hx := List.getElem_mem hk
   have hsx := z98 hx
   rw [← List.getElem_cons_drop (h := hk), ← List.getElem_cons_drop (h := hk2), yg8]
   rw [zc1, Ev.yz2 (by simpa using hk), Ev.kz3 (z0u hk), Ev.kz3 (z0u hk2), zz0.zz3, zz0.zz3, Ev.kz0 (ih _ hx _ (by omega))]
   cases hf : eqB a.list[k] b.list[k]
   ·rw [Ev.yz2 (by rfl), Ev.yz0]; rfl
   ·rw [Ev.kz1 (by rfl), wrk (by omega), zz0.zz3, zz0.zz3, Bool.true_and]
    exact ihk
 refine (loop 0 (Nat.zero_le _)).to ?_
 rw [List.drop_zero, List.drop_zero]
 by_cases h6 : a.list = b.list
 ·rw [zdj.2 h6, zdj.2 (vext h1 h2.1 h2.2 h3 h4 h6)]
 ·rw [zcl.2 h6, zcl.2 fun h => h6 (by rw [h])]
theorem zko : ∀ a b : zz0, a.size ≤ 2097152 → Ev (fun n => kzp n a b) (eqB a b) := zj1 (P := fun a => ∀ b : zz0, a.size ≤ 2097152 → Ev (fun n => kzp n a b) (eqB a b)) fun a ih b hs => by
 have hsl := yzp a
 have hlen := z3m a.list
 have bad : a ≠ b → Ev (fun n => yzz n true b a) (eqB a b) := fun h => by rw [zc3, Ev.yz2 (by rfl), Ev.yz0, zcl.2 h]
 rw [zly, zz0.zz3, zz0.zz3]
 by_cases h1 : a.kind = b.kind
 case neg => rw [Ev.yz2 (by simpa using h1)]; exact bad fun h => h1 (by rw [h])
 rw [Ev.kz1 (by simpa using h1)]
 by_cases h2 : a.num.num = b.num.num ∧ a.num.den = b.num.den
 case neg => rw [Ev.yz2 (by simp; omega)]; exact bad fun h => h2 (by rw [h]; exact ⟨rfl, rfl⟩)
 rw [Ev.kz1 (by simp [h2])]
 by_cases h3 : a.truth = b.truth
 case neg => rw [Ev.yz2 (by simpa using h3)]; exact bad fun h => h3 (by rw [h])
 rw [Ev.kz1 (by simp [h3])]
 by_cases h4 : a.str = b.str
 case neg => rw [Ev.yz2 (by simpa using h4)]; exact bad fun h => h4 (by rw [h])
 rw [Ev.kz1 (by simp [h4])]
 by_cases h5 : a.list.length = b.list.length
 case neg => rw [show ((a.list.length : Int) != (b.list.length : Int)) = true by simp; omega]; exact bad fun h => h5 (by rw [h])
 rw [show ((a.list.length : Int) != (b.list.length : Int)) = false by simp; omega, zc3, Ev.kz1 (by rfl), zz0.zz3, zz0.zz3]
 have loop : ∀ k, k ≤ a.list.length → Ev (fun n => z1z n (k : Int) b a) (eqB (a.list.drop k) (b.list.drop k)) :=
  down (by
   rw [zc7, Ev.kz1 (by simp), Ev.yz0, List.drop_length, h5, List.drop_length, yjq]) fun k hk ihk => by
   have hk2 : k < b.list.length := by omega
   have hx := List.getElem_mem hk
   have hsx := z98 hx
   rw [← List.getElem_cons_drop (h := hk), ← List.getElem_cons_drop (h := hk2), yg8]
   rw [zc7, Ev.yz2 (by simpa using hk), Ev.kz3 (z0u hk), Ev.kz3 (z0u hk2), zz0.zz3, zz0.zz3, Ev.kz0 (ih _ hx _ (by omega))]
   cases hf : eqB a.list[k] b.list[k]
   ·rw [Ev.yz2 (by rfl), Ev.yz0]; rfl
   ·rw [Ev.kz1 (by rfl), wrk (by omega), zz0.zz3, zz0.zz3, Bool.true_and]
    exact ihk
 refine (loop 0 (Nat.zero_le _)).to ?_
 rw [List.drop_zero, List.drop_zero]
 by_cases h6 : a.list = b.list
 ·rw [zdj.2 h6, zdj.2 (vext h1 h2.1 h2.2 h3 h4 h6)]
 ·rw [zcl.2 h6, zcl.2 fun h => h6 (by rw [h])]
theorem zm9 {α : Type} {l : List α} {k : Nat} (h : k < l.length) : l.take k ++ [l[k]] = l.take (k + 1) := by
 rw [List.take_add_one, List.getElem?_eq_getElem h]; rfl
theorem zul : ∀ v : zz0, v.size ≤ 2097152 → Ev (fun n => z1u n v) v := zj1 fun v ih hs => by
 have hsl := yzp v
 have hlen := z3m v.list
 have loop : ∀ k, k ≤ v.list.length → ∀ a4 a5 a6 a7 a8 a10, Ev (fun n => z0r n (k : Int) v.list (v.list.length : Int) (v.list.take k) a4 a5 a6 a7 a8 v a10) v :=
  down (fun a4 a5 a6 a7 a8 a10 => by
   rw [z9y, Ev.kz1 (by simp), Ev.yz0, List.take_length]; exact zz0.zz3 v) fun k hk ihk a4 a5 a6 a7 a8 a10 => by
   have hx := List.getElem_mem hk
   have hsx := z98 hx
   rw [z9y, Ev.yz2 (by simpa using hk), Ev.kz3 (z0u hk), zz0.zz3, Ev.kz0 (ih _ hx (by omega)), zz0.zz3, Ev.kz3 (zgu (by simp; omega)), wrk (by omega), zz0.zz3, zm9 hk]
   exact ihk _ _ _ _ _ _
 rw [zig, zz0.zz3]
 exact loop 0 (Nat.zero_le _) _ _ _ _ _ _
theorem zyx {v : zz0} (hs : v.size ≤ 2097152) : Ev (fun n => z1o n v) (v.kind, v.num.num, v.num.den, v.truth, v.str, v.list) := by
 have hsl := yzp v
 have hlen := z3m v.list
 have loop : ∀ k, k ≤ v.list.length → ∀ a4 a5 a6 a7 a8 a10, Ev (fun n => kzq n (k : Int) v.list (v.list.length : Int) (v.list.take k) a4 a5 a6 a7 a8 v a10) (v.kind, v.num.num, v.num.den, v.truth, v.str, v.list) :=
  down (fun a4 a5 a6 a7 a8 a10 => by
   rw [z89, Ev.kz1 (by simp), Ev.yz0, List.take_length]) fun k hk ihk a4 a5 a6 a7 a8 a10 => by
   have hx := List.getElem_mem hk
   have hsx := z98 hx
   rw [z89, Ev.yz2 (by simpa using hk), Ev.kz3 (z0u hk), zz0.zz3, Ev.kz0 (zul _ (by omega)), zz0.zz3, Ev.kz3 (zgu (by simp; omega)), wrk (by omega), zz0.zz3, zm9 hk]
   exact ihk _ _ _ _ _ _
 rw [ze6, zz0.zz3]
 exact loop 0 (Nat.zero_le _) _ _ _ _ _ _
theorem zae {v : zz0} (hs : v.size ≤ 2097152) : Ev (fun n => z25 n v) (v.kind, v.num.num, v.num.den, v.truth, v.str, v.list) := by
 rw [zgk, zz0.zz3, Ev.kz0 (zyx hs), Ev.yz0]
theorem znw {v : zz0} (hs : v.size ≤ 2097152) : Ev (fun n => z3r n v) v := by
 rw [zmi, zz0.zz3, Ev.kz0 (zul v hs), Ev.yz0, zz0.zz3]
theorem ydi : ∀ v : zz0, v.size ≤ 2097152 → ∀ d : Int, ∃ b, Ev (fun n => z3k n v d) b := zj1 fun v ih hs d => by
 have hsl := yzp v
 have hlen := z3m v.list
 have loop : ∀ k, k ≤ v.list.length → ∀ d : Int, ∃ b, Ev (fun n => z1b n (k : Int) d v) b :=
  down (fun d => ⟨false, by rw [zau, Ev.kz1 (by simp), Ev.yz0]⟩) fun k hk ihk d => by
   have hx := List.getElem_mem hk
   have hsx := z98 hx
   obtain ⟨b, hb⟩ := ih _ hx (by omega) (IntKind.i64.wrap (d - 1))
   obtain ⟨c, hc⟩ := ihk d
   refine ⟨if b then true else c, ?_⟩
   rw [zau, Ev.yz2 (by simpa using hk), Ev.kz3 (z0u hk), zz0.zz3, Ev.kz0 hb, zz0.zz3, wrk (by omega)]
   cases b
   ·rw [Ev.kz1 (by rfl)]; exact hc
   ·rw [Ev.yz2 (by rfl), Ev.yz0]; rfl
 have l0 : ∀ d b, ∃ c, Ev (fun n => z0l n d b v) c := fun d b => by
  cases b
  ·obtain ⟨c, hc⟩ := loop 0 (Nat.zero_le _) d
   exact ⟨c, by rw [zan, Ev.kz1 (by rfl), zz0.zz3]; exact hc⟩
  ·exact ⟨true, by rw [zan, Ev.yz2 (by rfl), Ev.yz0]⟩
 simp only [zkm, zz0.zz3, Ev.pif]
 split
 ·exact l0 _ _
 split
 ·exact l0 _ _
 ·exact l0 _ _
theorem zxx {v : zz0} (hs : v.size ≤ 2097152) : ∃ b, Ev (fun n => z2t n v) b := by
 obtain ⟨b, hb⟩ := ydi v hs 10
 cases b
 ·exact ⟨_, by rw [zfl, zz0.zz3, Ev.kz0 hb, Ev.kz1 (by rfl), Ev.kz0 (zya v hs)]; exact Ev.yz0.2 rfl⟩
 ·exact ⟨true, by rw [zfl, zz0.zz3, Ev.kz0 hb, Ev.yz2 (by rfl), Ev.yz0]⟩
end Go.Proofs.YtfhpamcehnfhoaaGreatDoor

