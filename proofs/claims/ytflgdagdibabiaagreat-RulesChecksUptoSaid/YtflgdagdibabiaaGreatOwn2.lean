/-
  Go functions as Lean functions, by a program of this repo.
-/
import Derived.Test.YtflgdagdibabiaaGreatOwn1
import Derived.Test.YtflgdagdibabiaaGreatLib2
import Derived.Test.YtflgdagdibabiaaGreatProg
import Derived.Test.YtflgdagdibabiaaGreatOwn0
import Derived.Test.YtflgdagdibabiaaGreatLib6
import Derived.Lib.Bytealg
namespace Go.Proofs.YtflgdagdibabiaaGreat
open Go Go.Ab
set_option linter.unusedVariables false
set_option maxRecDepth 100000
set_option maxHeartbeats 4000000
mutual
def z4y : Nat → zz1 → zz1 → Option Bool
 | 0, _, _ => none
 | n + 1, a0, a1 =>
   pIf (a0.op == a1.op)
     (pIf (a0.name == a1.name)
       ((z2i n a0.value.re a1.value.re).bind fun y0 =>
       pIf y0
         ((zz8 n a0.args a1.args).bind fun y1 =>
         some y1)
         (some false))
       (some false))
     (some false)
def zz8 : Nat → (List zz1) → (List zz1) → Option Bool
 | 0, _, _ => none
 | n + 1, a0, a1 =>
   pIf ((a0.length : Int) != (a1.length : Int))
     (some false)
     (kz6 n 0 a1 a0 (a0.length : Int))
def kz6 : Nat → Int → (List zz1) → (List zz1) → Int → Option Bool
 | 0, _, _, _, _ => none
 | n + 1, a0, a1, a2, a3 =>
   pIf (decide (a0 < a3))
     ((ix a2 a0).bind fun x0 =>
     (ix a1 a0).bind fun x1 =>
     (z4y n x0.re x1.re).bind fun y2 =>
     pIf (!y2)
       (some false)
       (kz6 n (IntKind.i64.wrap (a0 + 1)) a1 a2 a3))
     (some true)
end
def yl5 : LSh := ⟨[(4, (.d .bool))], [], 0, 31⟩
noncomputable def zbm : FI dat := FI.of dat 37 31 0 [(.d (.st 2)), (.d (.st 2))] [] [(.d .bool)] [] true yl5 (R := Bool) (fun x => x.1) (fun r => (r, ())) (fun n x => z4y n x.1 x.2.1)
 (fun n => []) (ann [] (Tryz.f37.body.getD .skip) 0).1
def z8a : LSh := ⟨[(6, (.d .bool))], [], 0, 32⟩
noncomputable def kz8 : FI dat := FI.of dat 72 32 0 [(.d (.sl (.st 2))), (.d (.sl (.st 2))), (.fn 37 [] [])] [] [(.d .bool)] [] true z8a (R := Bool) (fun x => x.1) (fun r => (r, ())) (fun n x => zz8 n x.1 x.2.1)
 (fun n => [(0, ⟨⟨[(17, (.d (.int .i64))), (2, (.fn 37 [] [])), (1, (.d (.sl (.st 2)))), (15, (.d (.sl (.st 2)))), (16, (.d (.int .i64)))], [], 0, 32⟩, fun x => kz6 n x.1 x.2.1 x.2.2.1 x.2.2.2.1⟩)]) (ann [(14, 0)] (Tryz.f72.body.getD .skip) 0).1
noncomputable def y01 : List (FI dat) := [zbm, kz8] ++ [z9y]
theorem ylg : (zbm).Good Tryz.prog dat (tb y01) := FI.zz4 (hD := yz2 _) Tryz.func37 Tryz.ntmps37 Tryz.call37 (by kernel_rfl) (of_decide_eq_true (by kernel_rfl)) (by kernel_rfl) (fun n => by kernel_rfl) (fun x => by kernel_rfl) (fun _ => rfl) trivial
 (fun n => fun x => (z4y.eq_2 x.1 x.2.1 n).trans (by kernel_rfl))
 (fun n => trivial)
 (fun x => .inl rfl)
theorem z7w : (kz8).Good Tryz.prog dat (tb y01) := FI.zz4 (hD := yz2 _) Tryz.func72 Tryz.ntmps72 Tryz.call72 (by kernel_rfl) (of_decide_eq_true (by kernel_rfl)) (by kernel_rfl) (fun n => by kernel_rfl) (fun x => by kernel_rfl) (fun _ => rfl) ⟨fun _ => rfl, trivial⟩
 (fun n => fun x => (zz8.eq_2 x.1 x.2.1 n).trans (by kernel_rfl))
 (fun n => ⟨fun x => (kz6.eq_2 x.1 x.2.1 x.2.2.1 x.2.2.2.1 n).trans (by kernel_rfl),
  trivial⟩)
 (fun x => .inl rfl)
theorem y0n : OkL Tryz.prog [zbm, kz8] := z9e (yz2 _) (bs := [z9y]) ⟨ztt, trivial⟩ ⟨ylg, z7w, trivial⟩
theorem zwl : FOk Tryz.prog zbm := y0n.1
theorem z74 : FOk Tryz.prog kz8 := y0n.2.1
def z8b : Nat → kz9 → kz9 → Option Bool
 | 0, _, _ => none
 | n + 1, a0, a1 =>
   pIf (a0.name == a1.name)
     ((z4y n a0.value.re a1.value.re).bind fun y0 =>
     some y0)
     (some false)
def y4l : LSh := ⟨[(4, (.d .bool))], [], 0, 17⟩
noncomputable def zds : FI dat := FI.of dat 36 17 0 [(.d (.st 3)), (.d (.st 3))] [] [(.d .bool)] [] true y4l (R := Bool) (fun x => x.1) (fun r => (r, ())) (fun n x => z8b n x.1 x.2.1)
 (fun n => []) (ann [] (Tryz.f36.body.getD .skip) 0).1
noncomputable def y7j : List (FI dat) := [zbm]
theorem y53 : (zds).Good Tryz.prog dat (tb y7j) := FI.zz4 (hD := yz2 _) Tryz.func36 Tryz.ntmps36 Tryz.call36 (by kernel_rfl) (of_decide_eq_true (by kernel_rfl)) (by kernel_rfl) (fun n => by kernel_rfl) (fun x => by kernel_rfl) (fun _ => rfl) trivial
 (fun n => fun x => (z8b.eq_2 x.1 x.2.1 n).trans (by kernel_rfl))
 (fun n => trivial)
 (fun x => .inl rfl)
theorem y50 : OkL Tryz.prog [zds] := yz7 (yz2 _) (bs := [zbm]) ⟨zwl, trivial⟩ y53
theorem y27 : FOk Tryz.prog zds := y50.1
mutual
def zzh : Nat → (List kz9) → (List kz9) → Option Bool
 | 0, _, _ => none
 | n + 1, a0, a1 =>
   pIf ((a0.length : Int) != (a1.length : Int))
     (some false)
     (yzb n 0 a1 a0 (a0.length : Int))
def yzb : Nat → Int → (List kz9) → (List kz9) → Int → Option Bool
 | 0, _, _, _, _ => none
 | n + 1, a0, a1, a2, a3 =>
   pIf (decide (a0 < a3))
     ((ix a2 a0).bind fun x0 =>
     (ix a1 a0).bind fun x1 =>
     (z8b n x0.re x1.re).bind fun y2 =>
     pIf (!y2)
       (some false)
       (yzb n (IntKind.i64.wrap (a0 + 1)) a1 a2 a3))
     (some true)
end
def z7m : LSh := ⟨[(6, (.d .bool))], [], 0, 32⟩
noncomputable def zzd : FI dat := FI.of dat 35 32 0 [(.d (.sl (.st 3))), (.d (.sl (.st 3))), (.fn 36 [] [])] [] [(.d .bool)] [] true z7m (R := Bool) (fun x => x.1) (fun r => (r, ())) (fun n x => zzh n x.1 x.2.1)
 (fun n => [(0, ⟨⟨[(17, (.d (.int .i64))), (2, (.fn 36 [] [])), (1, (.d (.sl (.st 3)))), (15, (.d (.sl (.st 3)))), (16, (.d (.int .i64)))], [], 0, 32⟩, fun x => yzb n x.1 x.2.1 x.2.2.1 x.2.2.2.1⟩)]) (ann [(14, 0)] (Tryz.f35.body.getD .skip) 0).1
noncomputable def z7p : List (FI dat) := [zds]
theorem z7i : (zzd).Good Tryz.prog dat (tb z7p) := FI.zz4 (hD := yz2 _) Tryz.func35 Tryz.ntmps35 Tryz.call35 (by kernel_rfl) (of_decide_eq_true (by kernel_rfl)) (by kernel_rfl) (fun n => by kernel_rfl) (fun x => by kernel_rfl) (fun _ => rfl) ⟨fun _ => rfl, trivial⟩
 (fun n => fun x => (zzh.eq_2 x.1 x.2.1 n).trans (by kernel_rfl))
 (fun n => ⟨fun x => (yzb.eq_2 x.1 x.2.1 x.2.2.1 x.2.2.2.1 n).trans (by kernel_rfl),
  trivial⟩)
 (fun x => .inl rfl)
theorem z7s : OkL Tryz.prog [zzd] := yz7 (yz2 _) (bs := [zds]) ⟨y27, trivial⟩ z7i
theorem z77 : FOk Tryz.prog zzd := z7s.1
mutual
def z0e : Nat → (List (List UInt8)) → (List (List UInt8)) → Option Bool
 | 0, _, _ => none
 | n + 1, a0, a1 =>
   pIf ((a0.length : Int) != (a1.length : Int))
     (some false)
     (yzx n 0 a1 a0 (a0.length : Int))
def yzx : Nat → Int → (List (List UInt8)) → (List (List UInt8)) → Int → Option Bool
 | 0, _, _, _, _ => none
 | n + 1, a0, a1, a2, a3 =>
   pIf (decide (a0 < a3))
     ((ix a2 a0).bind fun x0 =>
     (ix a1 a0).bind fun x1 =>
     pIf (!(x0 == x1))
       (some false)
       (yzx n (IntKind.i64.wrap (a0 + 1)) a1 a2 a3))
     (some true)
end
def zjg : LSh := ⟨[(4, (.d .bool))], [], 0, 26⟩
noncomputable def z0k : FI dat := FI.of dat 40 26 0 [(.d (.sl .str)), (.d (.sl .str))] [] [(.d .bool)] [] true zjg (R := Bool) (fun x => x.1) (fun r => (r, ())) (fun n x => z0e n x.1 x.2.1)
 (fun n => [(0, ⟨⟨[(13, (.d (.int .i64))), (1, (.d (.sl .str))), (0, (.d (.sl .str))), (12, (.d (.int .i64)))], [], 0, 26⟩, fun x => yzx n x.1 x.2.1 x.2.2.1 x.2.2.2.1⟩)]) (ann [(14, 0)] (Tryz.f40.body.getD .skip) 0).1
noncomputable def zjl : List (FI dat) := []
theorem zji : (z0k).Good Tryz.prog dat (tb zjl) := FI.zz4 (hD := yz2 _) Tryz.func40 Tryz.ntmps40 Tryz.call40 (by kernel_rfl) (of_decide_eq_true (by kernel_rfl)) (by kernel_rfl) (fun n => by kernel_rfl) (fun x => by kernel_rfl) (fun _ => rfl) ⟨fun _ => rfl, trivial⟩
 (fun n => fun x => (z0e.eq_2 x.1 x.2.1 n).trans (by kernel_rfl))
 (fun n => ⟨fun x => (yzx.eq_2 x.1 x.2.1 x.2.2.1 x.2.2.2.1 n).trans (by kernel_rfl),
  trivial⟩)
 (fun x => .inl rfl)
theorem zjf : OkL Tryz.prog [z0k] := yz7 (yz2 _) (bs := []) trivial zji
theorem ziv : FOk Tryz.prog z0k := zjf.1
def z4h : Nat → (List zz1) → (List zz1) → Option Bool
 | 0, _, _ => none
 | n + 1, a0, a1 =>
   (zz8 n a0 a1).bind fun y0 =>
   some y0
def zyp : LSh := ⟨[(4, (.d .bool))], [], 0, 8⟩
noncomputable def z60 : FI dat := FI.of dat 102 8 0 [(.d (.sl (.st 2))), (.d (.sl (.st 2)))] [] [(.d .bool)] [] true zyp (R := Bool) (fun x => x.1) (fun r => (r, ())) (fun n x => z4h n x.1 x.2.1)
 (fun n => []) (ann [] (Tryz.f102.body.getD .skip) 0).1
noncomputable def zyb : List (FI dat) := [kz8]
theorem zy5 : (z60).Good Tryz.prog dat (tb zyb) := FI.zz4 (hD := yz2 _) Tryz.func102 Tryz.ntmps102 Tryz.call102 (by kernel_rfl) (of_decide_eq_true (by kernel_rfl)) (by kernel_rfl) (fun n => by kernel_rfl) (fun x => by kernel_rfl) (fun _ => rfl) trivial
 (fun n => fun x => (z4h.eq_2 x.1 x.2.1 n).trans (by kernel_rfl))
 (fun n => trivial)
 (fun x => .inl rfl)
theorem zyy : OkL Tryz.prog [z60] := yz7 (yz2 _) (bs := [kz8]) ⟨z74, trivial⟩ zy5
theorem zmu : FOk Tryz.prog z60 := zyy.1
def z2y : Nat → zza → zza → Option Bool
 | 0, _, _ => none
 | n + 1, a0, a1 =>
   pIf (a0.kind == a1.kind)
     (pIf (a0.name == a1.name)
       ((z4h n a0.args a1.args).bind fun y0 =>
       some y0)
       (some false))
     (some false)
def zx3 : LSh := ⟨[(4, (.d .bool))], [], 0, 24⟩
noncomputable def z9z : FI dat := FI.of dat 104 24 0 [(.d (.st 4)), (.d (.st 4))] [] [(.d .bool)] [] true zx3 (R := Bool) (fun x => x.1) (fun r => (r, ())) (fun n x => z2y n x.1 x.2.1)
 (fun n => []) (ann [] (Tryz.f104.body.getD .skip) 0).1
noncomputable def zvp : List (FI dat) := [z60]
theorem zw3 : (z9z).Good Tryz.prog dat (tb zvp) := FI.zz4 (hD := yz2 _) Tryz.func104 Tryz.ntmps104 Tryz.call104 (by kernel_rfl) (of_decide_eq_true (by kernel_rfl)) (by kernel_rfl) (fun n => by kernel_rfl) (fun x => by kernel_rfl) (fun _ => rfl) trivial
 (fun n => fun x => (z2y.eq_2 x.1 x.2.1 n).trans (by kernel_rfl))
 (fun n => trivial)
 (fun x => .inl rfl)
theorem zvh : OkL Tryz.prog [z9z] := yz7 (yz2 _) (bs := [z60]) ⟨zmu, trivial⟩ zw3
theorem zua : FOk Tryz.prog z9z := zvh.1
mutual
def yzh : Nat → (List zza) → (List zza) → Option Bool
 | 0, _, _ => none
 | n + 1, a0, a1 =>
   pIf ((a0.length : Int) != (a1.length : Int))
     (some false)
     (yza n 0 a1 a0 (a0.length : Int))
def yza : Nat → Int → (List zza) → (List zza) → Int → Option Bool
 | 0, _, _, _, _ => none
 | n + 1, a0, a1, a2, a3 =>
   pIf (decide (a0 < a3))
     ((ix a2 a0).bind fun x0 =>
     (ix a1 a0).bind fun x1 =>
     (z2y n x0 x1).bind fun y2 =>
     pIf (!y2)
       (some false)
       (yza n (IntKind.i64.wrap (a0 + 1)) a1 a2 a3))
     (some true)
end
def z86 : LSh := ⟨[(6, (.d .bool))], [], 0, 32⟩
noncomputable def yzc : FI dat := FI.of dat 103 32 0 [(.d (.sl (.st 4))), (.d (.sl (.st 4))), (.fn 104 [] [])] [] [(.d .bool)] [] true z86 (R := Bool) (fun x => x.1) (fun r => (r, ())) (fun n x => yzh n x.1 x.2.1)
 (fun n => [(0, ⟨⟨[(17, (.d (.int .i64))), (2, (.fn 104 [] [])), (1, (.d (.sl (.st 4)))), (15, (.d (.sl (.st 4)))), (16, (.d (.int .i64)))], [], 0, 32⟩, fun x => yza n x.1 x.2.1 x.2.2.1 x.2.2.2.1⟩)]) (ann [(14, 0)] (Tryz.f103.body.getD .skip) 0).1
noncomputable def z7r : List (FI dat) := [z9z]
theorem z89 : (yzc).Good Tryz.prog dat (tb z7r) := FI.zz4 (hD := yz2 _) Tryz.func103 Tryz.ntmps103 Tryz.call103 (by kernel_rfl) (of_decide_eq_true (by kernel_rfl)) (by kernel_rfl) (fun n => by kernel_rfl) (fun x => by kernel_rfl) (fun _ => rfl) ⟨fun _ => rfl, trivial⟩
 (fun n => fun x => (yzh.eq_2 x.1 x.2.1 n).trans (by kernel_rfl))
 (fun n => ⟨fun x => (yza.eq_2 x.1 x.2.1 x.2.2.1 x.2.2.2.1 n).trans (by kernel_rfl),
  trivial⟩)
 (fun x => .inl rfl)
theorem z82 : OkL Tryz.prog [yzc] := yz7 (yz2 _) (bs := [z9z]) ⟨zua, trivial⟩ z89
theorem z79 : FOk Tryz.prog yzc := z82.1
def z1d : Nat → zz3 → zz3 → Option Bool
 | 0, _, _ => none
 | n + 1, a0, a1 =>
   pIf (a0.kind == a1.kind)
     (pIf (a0.axis == a1.axis)
       (pIf (a0.name == a1.name)
         ((z4h n a0.args a1.args).bind fun y0 =>
         pIf y0
           ((yzh n a0.items a1.items).bind fun y1 =>
           some y1)
           (some false))
         (some false))
       (some false))
     (some false)
def zsq : LSh := ⟨[(4, (.d .bool))], [], 0, 38⟩
noncomputable def z8e : FI dat := FI.of dat 74 38 0 [(.d (.st 5)), (.d (.st 5))] [] [(.d .bool)] [] true zsq (R := Bool) (fun x => x.1) (fun r => (r, ())) (fun n x => z1d n x.1 x.2.1)
 (fun n => []) (ann [] (Tryz.f74.body.getD .skip) 0).1
noncomputable def zt4 : List (FI dat) := [z60, yzc]
theorem zt7 : (z8e).Good Tryz.prog dat (tb zt4) := FI.zz4 (hD := yz2 _) Tryz.func74 Tryz.ntmps74 Tryz.call74 (by kernel_rfl) (of_decide_eq_true (by kernel_rfl)) (by kernel_rfl) (fun n => by kernel_rfl) (fun x => by kernel_rfl) (fun _ => rfl) trivial
 (fun n => fun x => (z1d.eq_2 x.1 x.2.1 n).trans (by kernel_rfl))
 (fun n => trivial)
 (fun x => .inl rfl)
theorem zt2 : OkL Tryz.prog [z8e] := yz7 (yz2 _) (bs := [z60, yzc]) ⟨zmu, z79, trivial⟩ zt7
theorem zs4 : FOk Tryz.prog z8e := zt2.1
mutual
def yzd : Nat → (List zz3) → (List zz3) → Option Bool
 | 0, _, _ => none
 | n + 1, a0, a1 =>
   pIf ((a0.length : Int) != (a1.length : Int))
     (some false)
     (kz7 n 0 a1 a0 (a0.length : Int))
def kz7 : Nat → Int → (List zz3) → (List zz3) → Int → Option Bool
 | 0, _, _, _, _ => none
 | n + 1, a0, a1, a2, a3 =>
   pIf (decide (a0 < a3))
     ((ix a2 a0).bind fun x0 =>
     (ix a1 a0).bind fun x1 =>
     (z1d n x0 x1).bind fun y2 =>
     pIf (!y2)
       (some false)
       (kz7 n (IntKind.i64.wrap (a0 + 1)) a1 a2 a3))
     (some true)
end
def z4q : LSh := ⟨[(6, (.d .bool))], [], 0, 32⟩
noncomputable def zz9 : FI dat := FI.of dat 73 32 0 [(.d (.sl (.st 5))), (.d (.sl (.st 5))), (.fn 74 [] [])] [] [(.d .bool)] [] true z4q (R := Bool) (fun x => x.1) (fun r => (r, ())) (fun n x => yzd n x.1 x.2.1)
 (fun n => [(0, ⟨⟨[(17, (.d (.int .i64))), (2, (.fn 74 [] [])), (1, (.d (.sl (.st 5)))), (15, (.d (.sl (.st 5)))), (16, (.d (.int .i64)))], [], 0, 32⟩, fun x => kz7 n x.1 x.2.1 x.2.2.1 x.2.2.2.1⟩)]) (ann [(14, 0)] (Tryz.f73.body.getD .skip) 0).1
noncomputable def z3u : List (FI dat) := [z8e]
theorem z4o : (zz9).Good Tryz.prog dat (tb z3u) := FI.zz4 (hD := yz2 _) Tryz.func73 Tryz.ntmps73 Tryz.call73 (by kernel_rfl) (of_decide_eq_true (by kernel_rfl)) (by kernel_rfl) (fun n => by kernel_rfl) (fun x => by kernel_rfl) (fun _ => rfl) ⟨fun _ => rfl, trivial⟩
 (fun n => fun x => (yzd.eq_2 x.1 x.2.1 n).trans (by kernel_rfl))
 (fun n => ⟨fun x => (kz7.eq_2 x.1 x.2.1 x.2.2.1 x.2.2.2.1 n).trans (by kernel_rfl),
  trivial⟩)
 (fun x => .inl rfl)
theorem z4p : OkL Tryz.prog [zz9] := yz7 (yz2 _) (bs := [z8e]) ⟨zs4, trivial⟩ z4o
theorem z3i : FOk Tryz.prog zz9 := z4p.1
end Go.Proofs.YtflgdagdibabiaaGreat


namespace Go.Proofs.YtflgdagdibabiaaGreat
open Go Go.Ab
set_option linter.unusedVariables false
set_option maxRecDepth 100000
set_option maxHeartbeats 4000000
def z2x : Nat → zz5 → zz5 → Option Bool
 | 0, _, _ => none
 | n + 1, a0, a1 =>
   pIf (a0.weight == a1.weight)
     ((z4y n a0.when_.re a1.when_.re).bind fun y0 =>
     pIf y0
       ((yzd n a0.do_ a1.do_).bind fun y1 =>
       some y1)
       (some false))
     (some false)
def zwd : LSh := ⟨[(4, (.d .bool))], [], 0, 24⟩
noncomputable def z9u : FI dat := FI.of dat 42 24 0 [(.d (.st 6)), (.d (.st 6))] [] [(.d .bool)] [] true zwd (R := Bool) (fun x => x.1) (fun r => (r, ())) (fun n x => z2x n x.1 x.2.1)
 (fun n => []) (ann [] (Tryz.f42.body.getD .skip) 0).1
noncomputable def zwc : List (FI dat) := [zbm, zz9]
theorem zwm : (z9u).Good Tryz.prog dat (tb zwc) := FI.zz4 (hD := yz2 _) Tryz.func42 Tryz.ntmps42 Tryz.call42 (by kernel_rfl) (of_decide_eq_true (by kernel_rfl)) (by kernel_rfl) (fun n => by kernel_rfl) (fun x => by kernel_rfl) (fun _ => rfl) trivial
 (fun n => fun x => (z2x.eq_2 x.1 x.2.1 n).trans (by kernel_rfl))
 (fun n => trivial)
 (fun x => .inl rfl)
theorem zwb : OkL Tryz.prog [z9u] := yz7 (yz2 _) (bs := [zbm, zz9]) ⟨zwl, z3i, trivial⟩ zwm
theorem zuk : FOk Tryz.prog z9u := zwb.1
mutual
def zzi : Nat → (List zz5) → (List zz5) → Option Bool
 | 0, _, _ => none
 | n + 1, a0, a1 =>
   pIf ((a0.length : Int) != (a1.length : Int))
     (some false)
     (kza n 0 a1 a0 (a0.length : Int))
def kza : Nat → Int → (List zz5) → (List zz5) → Int → Option Bool
 | 0, _, _, _, _ => none
 | n + 1, a0, a1, a2, a3 =>
   pIf (decide (a0 < a3))
     ((ix a2 a0).bind fun x0 =>
     (ix a1 a0).bind fun x1 =>
     (z2x n x0.re x1.re).bind fun y2 =>
     pIf (!y2)
       (some false)
       (kza n (IntKind.i64.wrap (a0 + 1)) a1 a2 a3))
     (some true)
end
def z88 : LSh := ⟨[(6, (.d .bool))], [], 0, 32⟩
noncomputable def zzc : FI dat := FI.of dat 41 32 0 [(.d (.sl (.st 6))), (.d (.sl (.st 6))), (.fn 42 [] [])] [] [(.d .bool)] [] true z88 (R := Bool) (fun x => x.1) (fun r => (r, ())) (fun n x => zzi n x.1 x.2.1)
 (fun n => [(0, ⟨⟨[(17, (.d (.int .i64))), (2, (.fn 42 [] [])), (1, (.d (.sl (.st 6)))), (15, (.d (.sl (.st 6)))), (16, (.d (.int .i64)))], [], 0, 32⟩, fun x => kza n x.1 x.2.1 x.2.2.1 x.2.2.2.1⟩)]) (ann [(14, 0)] (Tryz.f41.body.getD .skip) 0).1
noncomputable def z7k : List (FI dat) := [z9u]
theorem z7y : (zzc).Good Tryz.prog dat (tb z7k) := FI.zz4 (hD := yz2 _) Tryz.func41 Tryz.ntmps41 Tryz.call41 (by kernel_rfl) (of_decide_eq_true (by kernel_rfl)) (by kernel_rfl) (fun n => by kernel_rfl) (fun x => by kernel_rfl) (fun _ => rfl) ⟨fun _ => rfl, trivial⟩
 (fun n => fun x => (zzi.eq_2 x.1 x.2.1 n).trans (by kernel_rfl))
 (fun n => ⟨fun x => (kza.eq_2 x.1 x.2.1 x.2.2.1 x.2.2.2.1 n).trans (by kernel_rfl),
  trivial⟩)
 (fun x => .inl rfl)
theorem z7x : OkL Tryz.prog [zzc] := yz7 (yz2 _) (bs := [z9u]) ⟨zuk, trivial⟩ z7y
theorem z78 : FOk Tryz.prog zzc := z7x.1
def z7h : Nat → kz4 → kz4 → Option Bool
 | 0, _, _ => none
 | n + 1, a0, a1 =>
   pIf (a0.name == a1.name)
     ((z0e n a0.params a1.params).bind fun y0 =>
     pIf y0
       ((zzi n a0.cases a1.cases).bind fun y1 =>
       some y1)
       (some false))
     (some false)
def y42 : LSh := ⟨[(4, (.d .bool))], [], 0, 24⟩
noncomputable def zdg : FI dat := FI.of dat 39 24 0 [(.d (.st 7)), (.d (.st 7))] [] [(.d .bool)] [] true y42 (R := Bool) (fun x => x.1) (fun r => (r, ())) (fun n x => z7h n x.1 x.2.1)
 (fun n => []) (ann [] (Tryz.f39.body.getD .skip) 0).1
noncomputable def y76 : List (FI dat) := [z0k, zzc]
theorem y6o : (zdg).Good Tryz.prog dat (tb y76) := FI.zz4 (hD := yz2 _) Tryz.func39 Tryz.ntmps39 Tryz.call39 (by kernel_rfl) (of_decide_eq_true (by kernel_rfl)) (by kernel_rfl) (fun n => by kernel_rfl) (fun x => by kernel_rfl) (fun _ => rfl) trivial
 (fun n => fun x => (z7h.eq_2 x.1 x.2.1 n).trans (by kernel_rfl))
 (fun n => trivial)
 (fun x => .inl rfl)
theorem y7a : OkL Tryz.prog [zdg] := yz7 (yz2 _) (bs := [z0k, zzc]) ⟨ziv, z78, trivial⟩ y6o
theorem y1b : FOk Tryz.prog zdg := y7a.1
mutual
def kzh : Nat → (List kz4) → (List kz4) → Option Bool
 | 0, _, _ => none
 | n + 1, a0, a1 =>
   pIf ((a0.length : Int) != (a1.length : Int))
     (some false)
     (zzb n 0 a1 a0 (a0.length : Int))
def zzb : Nat → Int → (List kz4) → (List kz4) → Int → Option Bool
 | 0, _, _, _, _ => none
 | n + 1, a0, a1, a2, a3 =>
   pIf (decide (a0 < a3))
     ((ix a2 a0).bind fun x0 =>
     (ix a1 a0).bind fun x1 =>
     (z7h n x0 x1).bind fun y2 =>
     pIf (!y2)
       (some false)
       (zzb n (IntKind.i64.wrap (a0 + 1)) a1 a2 a3))
     (some true)
end
def z7l : LSh := ⟨[(6, (.d .bool))], [], 0, 32⟩
noncomputable def kzc : FI dat := FI.of dat 38 32 0 [(.d (.sl (.st 7))), (.d (.sl (.st 7))), (.fn 39 [] [])] [] [(.d .bool)] [] true z7l (R := Bool) (fun x => x.1) (fun r => (r, ())) (fun n x => kzh n x.1 x.2.1)
 (fun n => [(0, ⟨⟨[(17, (.d (.int .i64))), (2, (.fn 39 [] [])), (1, (.d (.sl (.st 7)))), (15, (.d (.sl (.st 7)))), (16, (.d (.int .i64)))], [], 0, 32⟩, fun x => zzb n x.1 x.2.1 x.2.2.1 x.2.2.2.1⟩)]) (ann [(14, 0)] (Tryz.f38.body.getD .skip) 0).1
noncomputable def z7v : List (FI dat) := [zdg]
theorem z7g : (kzc).Good Tryz.prog dat (tb z7v) := FI.zz4 (hD := yz2 _) Tryz.func38 Tryz.ntmps38 Tryz.call38 (by kernel_rfl) (of_decide_eq_true (by kernel_rfl)) (by kernel_rfl) (fun n => by kernel_rfl) (fun x => by kernel_rfl) (fun _ => rfl) ⟨fun _ => rfl, trivial⟩
 (fun n => fun x => (kzh.eq_2 x.1 x.2.1 n).trans (by kernel_rfl))
 (fun n => ⟨fun x => (zzb.eq_2 x.1 x.2.1 x.2.2.1 x.2.2.2.1 n).trans (by kernel_rfl),
  trivial⟩)
 (fun x => .inl rfl)
theorem z7z : OkL Tryz.prog [kzc] := yz7 (yz2 _) (bs := [zdg]) ⟨y1b, trivial⟩ z7g
theorem z73 : FOk Tryz.prog kzc := z7z.1
def zca : Nat → yz0 → yz0 → Option Bool
 | 0, _, _ => none
 | n + 1, a0, a1 =>
   (zzh n a0.attrs a1.attrs).bind fun y0 =>
   pIf y0
     ((kzh n a0.rules a1.rules).bind fun y1 =>
     some y1)
     (some false)
def yfk : LSh := ⟨[(4, (.d .bool))], [], 0, 17⟩
noncomputable def zh0 : FI dat := FI.of dat 11 17 0 [(.d (.st 8)), (.d (.st 8))] [] [(.d .bool)] [] true yfk (R := Bool) (fun x => x.1) (fun r => (r, ())) (fun n x => zca n x.1 x.2.1)
 (fun n => []) (ann [] (Tryz.f11.body.getD .skip) 0).1
noncomputable def yfo : List (FI dat) := [zzd, kzc]
theorem ygc : (zh0).Good Tryz.prog dat (tb yfo) := FI.zz4 (hD := yz2 _) Tryz.func11 Tryz.ntmps11 Tryz.call11 (by kernel_rfl) (of_decide_eq_true (by kernel_rfl)) (by kernel_rfl) (fun n => by kernel_rfl) (fun x => by kernel_rfl) (fun _ => rfl) trivial
 (fun n => fun x => (zca.eq_2 x.1 x.2.1 n).trans (by kernel_rfl))
 (fun n => trivial)
 (fun x => .inl rfl)
theorem yfw : OkL Tryz.prog [zh0] := yz7 (yz2 _) (bs := [zzd, kzc]) ⟨z77, z73, trivial⟩ ygc
theorem yau : FOk Tryz.prog zh0 := yfw.1
mutual
def z3k : Nat → zz1 → zz1 → Option Bool
 | 0, _, _ => none
 | n + 1, a0, a1 =>
   pIf (a0.op != a1.op)
     (z1t n true a1.re a0.re)
     (pIf (!(a0.name == a1.name))
       (z1t n true a1.re a0.re)
       ((z2l n a0.value.re a1.value.re).bind fun y0 =>
       pIf (!y0)
         (z1t n true a1.re a0.re)
         (z1t n ((a0.args.length : Int) != (a1.args.length : Int)) a1.re a0.re)))
def z1t : Nat → Bool → zz1 → zz1 → Option Bool
 | 0, _, _, _ => none
 | n + 1, a0, a1, a2 =>
   pIf a0
     (some false)
     (z6c n 0 a1.re a2.re)
def z6c : Nat → Int → zz1 → zz1 → Option Bool
 | 0, _, _, _ => none
 | n + 1, a0, a1, a2 =>
   pIf (decide (a0 < (a2.args.length : Int)))
     ((ix a2.args a0).bind fun x1 =>
     (ix a1.args a0).bind fun x2 =>
     (z3k n x1.re x2.re).bind fun y3 =>
     pIf (!y3)
       (some false)
       (z6c n (IntKind.i64.wrap (a0 + 1)) a1.re a2.re))
     (some true)
end
def ygn : LSh := ⟨[(4, (.d .bool))], [], 0, 54⟩
noncomputable def z6n : FI dat := FI.of dat 43 54 0 [(.d (.st 2)), (.d (.st 2))] [] [(.d .bool)] [] true ygn (R := Bool) (fun x => x.1) (fun r => (r, ())) (fun n x => z3k n x.1 x.2.1)
 (fun n => [(0, ⟨⟨[(3, (.ptr 0 0)), (2, (.ptr 1 0)), (34, (.d .bool))], [(.st 2), (.st 2)], 0, 54⟩, fun x => z1t n x.1 x.2.1 x.2.2.1⟩), (1, ⟨⟨[(5, (.d (.int .i64))), (3, (.ptr 0 0)), (2, (.ptr 1 0))], [(.st 2), (.st 2)], 0, 54⟩, fun x => z6c n x.1 x.2.1 x.2.2.1⟩)]) (ann [(5, 0), (14, 1)] (Tryz.f43.body.getD .skip) 0).1
noncomputable def yij : List (FI dat) := [z6n] ++ [z9t]
theorem yeg : (z6n).Good Tryz.prog dat (tb yij) := FI.zz4 (hD := yz2 _) Tryz.func43 Tryz.ntmps43 Tryz.call43 (by kernel_rfl) (of_decide_eq_true (by kernel_rfl)) (by kernel_rfl) (fun n => by kernel_rfl) (fun x => by kernel_rfl) (fun _ => rfl) ⟨fun _ => rfl, fun _ => rfl, trivial⟩
 (fun n => fun x => (z3k.eq_2 x.1 x.2.1 n).trans (by kernel_rfl))
 (fun n => ⟨fun x => (z1t.eq_2 x.1 x.2.1 x.2.2.1 n).trans (by kernel_rfl),
  fun x => (z6c.eq_2 x.1 x.2.1 x.2.2.1 n).trans (by kernel_rfl),
  trivial⟩)
 (fun x => .inl rfl)
theorem yim : OkL Tryz.prog [z6n] := z9e (yz2 _) (bs := [z9t]) ⟨ztn, trivial⟩ ⟨yeg, trivial⟩
theorem znh : FOk Tryz.prog z6n := yim.1
def z2v : Nat → (List zz1) → (List zz1) → Option Bool
 | 0, _, _ => none
 | n + 1, a0, a1 =>
   (z0a n a0).bind fun y0 =>
   (z0a n a1).bind fun y1 =>
   (z3k n y0.re y1.re).bind fun y2 =>
   some y2
def zwh : LSh := ⟨[(4, (.d .bool))], [], 0, 10⟩
noncomputable def z9r : FI dat := FI.of dat 124 10 0 [(.d (.sl (.st 2))), (.d (.sl (.st 2)))] [] [(.d .bool)] [] true zwh (R := Bool) (fun x => x.1) (fun r => (r, ())) (fun n x => z2v n x.1 x.2.1)
 (fun n => []) (ann [] (Tryz.f124.body.getD .skip) 0).1
noncomputable def zwj : List (FI dat) := [z8l, z6n]
theorem zx6 : (z9r).Good Tryz.prog dat (tb zwj) := FI.zz4 (hD := yz2 _) Tryz.func124 Tryz.ntmps124 Tryz.call124 (by kernel_rfl) (of_decide_eq_true (by kernel_rfl)) (by kernel_rfl) (fun n => by kernel_rfl) (fun x => by kernel_rfl) (fun _ => rfl) trivial
 (fun n => fun x => (z2v.eq_2 x.1 x.2.1 n).trans (by kernel_rfl))
 (fun n => trivial)
 (fun x => .inl rfl)
theorem zvd : OkL Tryz.prog [z9r] := yz7 (yz2 _) (bs := [z8l, z6n]) ⟨znk, znh, trivial⟩ zx6
theorem zu6 : FOk Tryz.prog z9r := zvd.1
mutual
def z3d : Nat → zz3 → zz3 → Option Bool
 | 0, _, _ => none
 | n + 1, a0, a1 =>
   pIf (a0.kind != a1.kind)
     (kzm n true a1 a0)
     (pIf (a0.axis != a1.axis)
       (kzm n true a1 a0)
       (pIf (!(a0.name == a1.name))
         (kzm n true a1 a0)
         ((z2v n a0.args a1.args).bind fun y0 =>
         pIf (!y0)
           (kzm n true a1 a0)
           (kzm n ((a0.items.length : Int) != (a1.items.length : Int)) a1 a0))))
def kzm : Nat → Bool → zz3 → zz3 → Option Bool
 | 0, _, _, _ => none
 | n + 1, a0, a1, a2 =>
   pIf a0
     (some false)
     (z08 n 0 a1 a2)
def z08 : Nat → Int → zz3 → zz3 → Option Bool
 | 0, _, _, _ => none
 | n + 1, a0, a1, a2 =>
   pIf (decide (a0 < (a2.items.length : Int)))
     ((ix a2.items a0).bind fun x1 =>
     (ix a1.items a0).bind fun x2 =>
     pIf (x1.kind != x2.kind)
       (kzu n a0 true a1 a2)
       ((ix a2.items a0).bind fun x3 =>
       (ix a1.items a0).bind fun x4 =>
       pIf (!(x3.name == x4.name))
         (kzu n a0 true a1 a2)
         ((ix a2.items a0).bind fun x5 =>
         (ix a1.items a0).bind fun x6 =>
         (z2v n x5.args x6.args).bind fun y7 =>
         kzu n a0 (!y7) a1 a2)))
     (some true)
def kzu : Nat → Int → Bool → zz3 → zz3 → Option Bool
 | 0, _, _, _, _ => none
 | n + 1, a0, a1, a2, a3 =>
   pIf a1
     (some false)
     (z08 n (IntKind.i64.wrap (a0 + 1)) a2 a3)
end
def zst : LSh := ⟨[(4, (.d .bool))], [], 0, 93⟩
noncomputable def z8f : FI dat := FI.of dat 105 93 0 [(.d (.st 5)), (.d (.st 5))] [] [(.d .bool)] [] true zst (R := Bool) (fun x => x.1) (fun r => (r, ())) (fun n x => z3d n x.1 x.2.1)
 (fun n => [(0, ⟨⟨[(3, (.ptr 0 0)), (2, (.ptr 1 0)), (41, (.d .bool))], [(.st 5), (.st 5)], 0, 93⟩, fun x => kzm n x.1 x.2.1 x.2.2.1⟩), (1, ⟨⟨[(5, (.d (.int .i64))), (3, (.ptr 0 0)), (2, (.ptr 1 0))], [(.st 5), (.st 5)], 0, 93⟩, fun x => z08 n x.1 x.2.1 x.2.2.1⟩), (2, ⟨⟨[(3, (.ptr 0 0)), (2, (.ptr 1 0)), (5, (.d (.int .i64))), (92, (.d .bool))], [(.st 5), (.st 5)], 0, 93⟩, fun x => kzu n x.1 x.2.1 x.2.2.1 x.2.2.2.1⟩)]) (ann [(5, 0), (14, 1), (25, 2)] (Tryz.f105.body.getD .skip) 0).1
noncomputable def zsu : List (FI dat) := [z9r]
theorem zt6 : (z8f).Good Tryz.prog dat (tb zsu) := FI.zz4 (hD := yz2 _) Tryz.func105 Tryz.ntmps105 Tryz.call105 (by kernel_rfl) (of_decide_eq_true (by kernel_rfl)) (by kernel_rfl) (fun n => by kernel_rfl) (fun x => by kernel_rfl) (fun _ => rfl) ⟨fun _ => rfl, fun _ => rfl, fun _ => rfl, trivial⟩
 (fun n => fun x => (z3d.eq_2 x.1 x.2.1 n).trans (by kernel_rfl))
 (fun n => ⟨fun x => (kzm.eq_2 x.1 x.2.1 x.2.2.1 n).trans (by kernel_rfl),
  fun x => (z08.eq_2 x.1 x.2.1 x.2.2.1 n).trans (by kernel_rfl),
  fun x => (kzu.eq_2 x.1 x.2.1 x.2.2.1 x.2.2.2.1 n).trans (by kernel_rfl),
  trivial⟩)
 (fun x => .inl rfl)
theorem zt5 : OkL Tryz.prog [z8f] := yz7 (yz2 _) (bs := [z9r]) ⟨zu6, trivial⟩ zt6
theorem zru : FOk Tryz.prog z8f := zt5.1
mutual
def z5d : Nat → zz5 → zz5 → Option Bool
 | 0, _, _ => none
 | n + 1, a0, a1 =>
   pIf (a0.weight != a1.weight)
     (z03 n true a1.re a0.re)
     ((z3k n a0.when_.re a1.when_.re).bind fun y0 =>
     pIf (!y0)
       (z03 n true a1.re a0.re)
       (z03 n ((a0.do_.length : Int) != (a1.do_.length : Int)) a1.re a0.re))
def z03 : Nat → Bool → zz5 → zz5 → Option Bool
 | 0, _, _, _ => none
 | n + 1, a0, a1, a2 =>
   pIf a0
     (some false)
     (z11 n 0 a1.re a2.re)
def z11 : Nat → Int → zz5 → zz5 → Option Bool
 | 0, _, _, _ => none
 | n + 1, a0, a1, a2 =>
   pIf (decide (a0 < (a2.do_.length : Int)))
     ((ix a2.do_ a0).bind fun x1 =>
     (ix a1.do_ a0).bind fun x2 =>
     (z3d n x1 x2).bind fun y3 =>
     pIf (!y3)
       (some false)
       (z11 n (IntKind.i64.wrap (a0 + 1)) a1.re a2.re))
     (some true)
end
def zvo : LSh := ⟨[(4, (.d .bool))], [], 0, 47⟩
noncomputable def z9s : FI dat := FI.of dat 76 47 0 [(.d (.st 6)), (.d (.st 6))] [] [(.d .bool)] [] true zvo (R := Bool) (fun x => x.1) (fun r => (r, ())) (fun n x => z5d n x.1 x.2.1)
 (fun n => [(0, ⟨⟨[(3, (.ptr 0 0)), (2, (.ptr 1 0)), (27, (.d .bool))], [(.st 6), (.st 6)], 0, 47⟩, fun x => z03 n x.1 x.2.1 x.2.2.1⟩), (1, ⟨⟨[(5, (.d (.int .i64))), (3, (.ptr 0 0)), (2, (.ptr 1 0))], [(.st 6), (.st 6)], 0, 47⟩, fun x => z11 n x.1 x.2.1 x.2.2.1⟩)]) (ann [(5, 0), (14, 1)] (Tryz.f76.body.getD .skip) 0).1
noncomputable def zx4 : List (FI dat) := [z6n, z8f]
theorem zx0 : (z9s).Good Tryz.prog dat (tb zx4) := FI.zz4 (hD := yz2 _) Tryz.func76 Tryz.ntmps76 Tryz.call76 (by kernel_rfl) (of_decide_eq_true (by kernel_rfl)) (by kernel_rfl) (fun n => by kernel_rfl) (fun x => by kernel_rfl) (fun _ => rfl) ⟨fun _ => rfl, fun _ => rfl, trivial⟩
 (fun n => fun x => (z5d.eq_2 x.1 x.2.1 n).trans (by kernel_rfl))
 (fun n => ⟨fun x => (z03.eq_2 x.1 x.2.1 x.2.2.1 n).trans (by kernel_rfl),
  fun x => (z11.eq_2 x.1 x.2.1 x.2.2.1 n).trans (by kernel_rfl),
  trivial⟩)
 (fun x => .inl rfl)
theorem zwz : OkL Tryz.prog [z9s] := yz7 (yz2 _) (bs := [z6n, z8f]) ⟨znh, zru, trivial⟩ zx0
theorem zup : FOk Tryz.prog z9s := zwz.1
end Go.Proofs.YtflgdagdibabiaaGreat


namespace Go.Proofs.YtflgdagdibabiaaGreat
open Go Go.Ab
set_option linter.unusedVariables false
set_option maxRecDepth 100000
set_option maxHeartbeats 4000000
mutual
def z5o : Nat → kz4 → kz4 → Option Bool
 | 0, _, _ => none
 | n + 1, a0, a1 =>
   pIf (!(a0.name == a1.name))
     (z00 n true a1 a0)
     (pIf ((a0.params.length : Int) != (a1.params.length : Int))
       (z00 n true a1 a0)
       (z00 n ((a0.cases.length : Int) != (a1.cases.length : Int)) a1 a0))
def z00 : Nat → Bool → kz4 → kz4 → Option Bool
 | 0, _, _, _ => none
 | n + 1, a0, a1, a2 =>
   pIf a0
     (some false)
     (z0y n 0 a1 a2)
def z0y : Nat → Int → kz4 → kz4 → Option Bool
 | 0, _, _, _ => none
 | n + 1, a0, a1, a2 =>
   pIf (decide (a0 < (a2.params.length : Int)))
     ((ix a2.params a0).bind fun x0 =>
     (ix a1.params a0).bind fun x1 =>
     pIf (!(x0 == x1))
       (some false)
       (z0y n (IntKind.i64.wrap (a0 + 1)) a1 a2))
     (z14 n 0 a1 a2)
def z14 : Nat → Int → kz4 → kz4 → Option Bool
 | 0, _, _, _ => none
 | n + 1, a0, a1, a2 =>
   pIf (decide (a0 < (a2.cases.length : Int)))
     ((ix a2.cases a0).bind fun x2 =>
     (ix a1.cases a0).bind fun x3 =>
     (z5d n x2.re x3.re).bind fun y4 =>
     pIf (!y4)
       (some false)
       (z14 n (IntKind.i64.wrap (a0 + 1)) a1 a2))
     (some true)
end
def zvi : LSh := ⟨[(4, (.d .bool))], [], 0, 67⟩
noncomputable def z9v : FI dat := FI.of dat 44 67 0 [(.d (.st 7)), (.d (.st 7))] [] [(.d .bool)] [] true zvi (R := Bool) (fun x => x.1) (fun r => (r, ())) (fun n x => z5o n x.1 x.2.1)
 (fun n => [(0, ⟨⟨[(3, (.ptr 0 0)), (2, (.ptr 1 0)), (29, (.d .bool))], [(.st 7), (.st 7)], 0, 67⟩, fun x => z00 n x.1 x.2.1 x.2.2.1⟩), (1, ⟨⟨[(5, (.d (.int .i64))), (3, (.ptr 0 0)), (2, (.ptr 1 0))], [(.st 7), (.st 7)], 0, 67⟩, fun x => z0y n x.1 x.2.1 x.2.2.1⟩), (2, ⟨⟨[(6, (.d (.int .i64))), (3, (.ptr 0 0)), (2, (.ptr 1 0))], [(.st 7), (.st 7)], 0, 67⟩, fun x => z14 n x.1 x.2.1 x.2.2.1⟩)]) (ann [(5, 0), (14, 1), (35, 2)] (Tryz.f44.body.getD .skip) 0).1
noncomputable def zvg : List (FI dat) := [z9s]
theorem zw8 : (z9v).Good Tryz.prog dat (tb zvg) := FI.zz4 (hD := yz2 _) Tryz.func44 Tryz.ntmps44 Tryz.call44 (by kernel_rfl) (of_decide_eq_true (by kernel_rfl)) (by kernel_rfl) (fun n => by kernel_rfl) (fun x => by kernel_rfl) (fun _ => rfl) ⟨fun _ => rfl, fun _ => rfl, fun _ => rfl, trivial⟩
 (fun n => fun x => (z5o.eq_2 x.1 x.2.1 n).trans (by kernel_rfl))
 (fun n => ⟨fun x => (z00.eq_2 x.1 x.2.1 x.2.2.1 n).trans (by kernel_rfl),
  fun x => (z0y.eq_2 x.1 x.2.1 x.2.2.1 n).trans (by kernel_rfl),
  fun x => (z14.eq_2 x.1 x.2.1 x.2.2.1 n).trans (by kernel_rfl),
  trivial⟩)
 (fun x => .inl rfl)
theorem zw0 : OkL Tryz.prog [z9v] := yz7 (yz2 _) (bs := [z9s]) ⟨zup, trivial⟩ zw8
theorem zuz : FOk Tryz.prog z9v := zw0.1
mutual
def zci : Nat → yz0 → yz0 → Option Bool
 | 0, _, _ => none
 | n + 1, a0, a1 =>
   pIf ((a0.attrs.length : Int) != (a1.attrs.length : Int))
     (z5w n true a1 a0)
     (z5w n ((a0.rules.length : Int) != (a1.rules.length : Int)) a1 a0)
def z5w : Nat → Bool → yz0 → yz0 → Option Bool
 | 0, _, _, _ => none
 | n + 1, a0, a1, a2 =>
   pIf a0
     (some false)
     (z5g n 0 a1 a2)
def z5g : Nat → Int → yz0 → yz0 → Option Bool
 | 0, _, _, _ => none
 | n + 1, a0, a1, a2 =>
   pIf (decide (a0 < (a2.attrs.length : Int)))
     ((ix a2.attrs a0).bind fun x0 =>
     (ix a1.attrs a0).bind fun x1 =>
     pIf (!(x0.name == x1.name))
       (z5j n a0 true a1 a2)
       ((ix a2.attrs a0).bind fun x2 =>
       (ix a1.attrs a0).bind fun x3 =>
       (z3k n x2.value.re x3.value.re).bind fun y4 =>
       z5j n a0 (!y4) a1 a2))
     (z5p n 0 a1 a2)
def z5j : Nat → Int → Bool → yz0 → yz0 → Option Bool
 | 0, _, _, _, _ => none
 | n + 1, a0, a1, a2, a3 =>
   pIf a1
     (some false)
     (z5g n (IntKind.i64.wrap (a0 + 1)) a2 a3)
def z5p : Nat → Int → yz0 → yz0 → Option Bool
 | 0, _, _, _ => none
 | n + 1, a0, a1, a2 =>
   pIf (decide (a0 < (a2.rules.length : Int)))
     ((ix a2.rules a0).bind fun x5 =>
     (ix a1.rules a0).bind fun x6 =>
     (z5o n x5 x6).bind fun y7 =>
     pIf (!y7)
       (some false)
       (z5p n (IntKind.i64.wrap (a0 + 1)) a1 a2))
     (some true)
end
def yft : LSh := ⟨[(4, (.d .bool))], [], 0, 78⟩
noncomputable def zh6 : FI dat := FI.of dat 12 78 0 [(.d (.st 8)), (.d (.st 8))] [] [(.d .bool)] [] true yft (R := Bool) (fun x => x.1) (fun r => (r, ())) (fun n x => zci n x.1 x.2.1)
 (fun n => [(0, ⟨⟨[(3, (.ptr 0 0)), (2, (.ptr 1 0)), (22, (.d .bool))], [(.st 8), (.st 8)], 0, 78⟩, fun x => z5w n x.1 x.2.1 x.2.2.1⟩), (1, ⟨⟨[(5, (.d (.int .i64))), (3, (.ptr 0 0)), (2, (.ptr 1 0))], [(.st 8), (.st 8)], 0, 78⟩, fun x => z5g n x.1 x.2.1 x.2.2.1⟩), (2, ⟨⟨[(3, (.ptr 0 0)), (2, (.ptr 1 0)), (5, (.d (.int .i64))), (58, (.d .bool))], [(.st 8), (.st 8)], 0, 78⟩, fun x => z5j n x.1 x.2.1 x.2.2.1 x.2.2.2.1⟩), (3, ⟨⟨[(6, (.d (.int .i64))), (3, (.ptr 0 0)), (2, (.ptr 1 0))], [(.st 8), (.st 8)], 0, 78⟩, fun x => z5p n x.1 x.2.1 x.2.2.1⟩)]) (ann [(5, 0), (14, 1), (25, 2), (35, 3)] (Tryz.f12.body.getD .skip) 0).1
noncomputable def yio : List (FI dat) := [z6n, z9v]
theorem yf3 : (zh6).Good Tryz.prog dat (tb yio) := FI.zz4 (hD := yz2 _) Tryz.func12 Tryz.ntmps12 Tryz.call12 (by kernel_rfl) (of_decide_eq_true (by kernel_rfl)) (by kernel_rfl) (fun n => by kernel_rfl) (fun x => by kernel_rfl) (fun _ => rfl) ⟨fun _ => rfl, fun _ => rfl, fun _ => rfl, fun _ => rfl, trivial⟩
 (fun n => fun x => (zci.eq_2 x.1 x.2.1 n).trans (by kernel_rfl))
 (fun n => ⟨fun x => (z5w.eq_2 x.1 x.2.1 x.2.2.1 n).trans (by kernel_rfl),
  fun x => (z5g.eq_2 x.1 x.2.1 x.2.2.1 n).trans (by kernel_rfl),
  fun x => (z5j.eq_2 x.1 x.2.1 x.2.2.1 x.2.2.2.1 n).trans (by kernel_rfl),
  fun x => (z5p.eq_2 x.1 x.2.1 x.2.2.1 n).trans (by kernel_rfl),
  trivial⟩)
 (fun x => .inl rfl)
theorem ygu : OkL Tryz.prog [zh6] := yz7 (yz2 _) (bs := [z6n, z9v]) ⟨znh, zuz, trivial⟩ yf3
theorem y9y : FOk Tryz.prog zh6 := ygu.1
mutual
def z1j : Nat → (List (List UInt8)) → (List (List UInt8)) → Option Bool
 | 0, _, _ => none
 | n + 1, a0, a1 =>
   pIf ((a0.length : Int) != (a1.length : Int))
     (some false)
     (z05 n 0 a1 a0)
def z05 : Nat → Int → (List (List UInt8)) → (List (List UInt8)) → Option Bool
 | 0, _, _, _ => none
 | n + 1, a0, a1, a2 =>
   pIf (decide (a0 < (a2.length : Int)))
     ((ix a2 a0).bind fun x0 =>
     (ix a1 a0).bind fun x1 =>
     pIf (!(x0 == x1))
       (some false)
       (z05 n (IntKind.i64.wrap (a0 + 1)) a1 a2))
     (some true)
end
def zsp : LSh := ⟨[(4, (.d .bool))], [], 0, 26⟩
noncomputable def z8c : FI dat := FI.of dat 13 26 0 [(.d (.sl .str)), (.d (.sl .str))] [] [(.d .bool)] [] true zsp (R := Bool) (fun x => x.1) (fun r => (r, ())) (fun n x => z1j n x.1 x.2.1)
 (fun n => [(0, ⟨⟨[(5, (.d (.int .i64))), (1, (.d (.sl .str))), (0, (.d (.sl .str)))], [], 0, 26⟩, fun x => z05 n x.1 x.2.1 x.2.2.1⟩)]) (ann [(14, 0)] (Tryz.f13.body.getD .skip) 0).1
noncomputable def zt1 : List (FI dat) := []
theorem zt3 : (z8c).Good Tryz.prog dat (tb zt1) := FI.zz4 (hD := yz2 _) Tryz.func13 Tryz.ntmps13 Tryz.call13 (by kernel_rfl) (of_decide_eq_true (by kernel_rfl)) (by kernel_rfl) (fun n => by kernel_rfl) (fun x => by kernel_rfl) (fun _ => rfl) ⟨fun _ => rfl, trivial⟩
 (fun n => fun x => (z1j.eq_2 x.1 x.2.1 n).trans (by kernel_rfl))
 (fun n => ⟨fun x => (z05.eq_2 x.1 x.2.1 x.2.2.1 n).trans (by kernel_rfl),
  trivial⟩)
 (fun x => .inl rfl)
theorem zt9 : OkL Tryz.prog [z8c] := yz7 (yz2 _) (bs := []) trivial zt3
theorem zr8 : FOk Tryz.prog z8c := zt9.1
mutual
noncomputable def kzr : Nat → yz0 → yz0 → (List UInt8) → Option Bool
 | 0, _, _, _ => none
 | n + 1, a0, a1, a2 =>
   (z96 n a0).bind fun y0 =>
   pIf y0
     (kzj n a2 true a1 a0)
     ((z96 n a1).bind fun y1 =>
     pIf y1
       (kzj n a2 true a1 a0)
       (kzj n a2 (decide ((a2.length : Int) > 100)) a1 a0))
noncomputable def kzj : Nat → (List UInt8) → Bool → yz0 → yz0 → Option Bool
 | 0, _, _, _, _ => none
 | n + 1, a0, a1, a2, a3 =>
   pIf a1
     (some true)
     ((zb3 n a3 a0).bind fun y2 =>
     (zb7 n a3 a0).bind fun y3 =>
     (zba n a3 a0).bind fun y4 =>
     (zb8 n a3 a0).bind fun y5 =>
     (z6t n a3).bind fun y6 =>
     (z2k n a3).bind fun y7 =>
     pIf (y6 == y7)
       ((zca n a3 a2).bind fun y8 =>
       (zci n a3 a2).bind fun y9 =>
       pIf (y8 == y9)
         ((z1j n y2.1 y3.1).bind fun y10 =>
         pIf y10
           (pIf (y2.2 == y3.2)
             ((z1j n y4.1 y5.1).bind fun y11 =>
             pIf y11
               (some (y4.2 == y5.2))
               (some false))
             (some false))
           (some false))
         (some false))
       (some false))
end
def zl9 : LSh := ⟨[(6, (.d .bool))], [], 0, 84⟩
noncomputable def z90 : FI dat := FI.of dat 3 84 0 [(.d (.st 8)), (.d (.st 8)), (.d .str)] [] [(.d .bool)] [] true zl9 (R := Bool) (fun x => x.1) (fun r => (r, ())) (fun n x => kzr n x.1 x.2.1 x.2.2.1)
 (fun n => [(0, ⟨⟨[(4, (.ptr 0 0)), (3, (.ptr 1 0)), (2, (.d .str)), (25, (.d .bool))], [(.st 8), (.st 8)], 0, 84⟩, fun x => kzj n x.1 x.2.1 x.2.2.1 x.2.2.2.1⟩)]) (ann [(5, 0)] (Tryz.f3.body.getD .skip) 0).1
noncomputable def zkv : List (FI dat) := [zew, zf3, zfg, zf0, zfm, z6r, z6m, zh0, zh6, z8c]
theorem zkc : (z90).Good Tryz.prog dat (tb zkv) := FI.zz4 (hD := yz2 _) Tryz.func3 Tryz.ntmps3 Tryz.call3 (by kernel_rfl) (of_decide_eq_true (by kernel_rfl)) (by kernel_rfl) (fun n => by kernel_rfl) (fun x => by kernel_rfl) (fun _ => rfl) ⟨fun _ => rfl, trivial⟩
 (fun n => fun x => (kzr.eq_2 x.1 x.2.1 x.2.2.1 n).trans (by kernel_rfl))
 (fun n => ⟨fun x => (kzj.eq_2 x.1 x.2.1 x.2.2.1 x.2.2.2.1 n).trans (by kernel_rfl),
  trivial⟩)
 (fun x => .inl rfl)
theorem zld : OkL Tryz.prog [z90] := yz7 (yz2 _) (bs := [zew, zf3, zfg, zf0, zfm, z6r, z6m, zh0, zh6, z8c]) ⟨y4v, y5o, y67, y5k, y4d, zla, zkb, yau, y9y, zr8, trivial⟩ zkc
theorem zk6 : FOk Tryz.prog z90 := zld.1
theorem zjt (a0 : yz0) (a1 : yz0) (a2 : List UInt8) : VRL dat [] 0 [dat.tv (.st 8) a0, dat.tv (.st 8) a1, dat.tv .str a2] [dat.el (.st 8) a0, dat.el (.st 8) a1, dat.el .str a2] := by
 simp only [VRL]
 exact ⟨_, _, rfl, VR.tv (yz2 Tryz.prog) (DR.el _ _), ⟨_, _, rfl, VR.tv (yz2 Tryz.prog) (DR.el _ _), ⟨_, _, rfl, VR.tv (yz2 Tryz.prog) (DR.el _ _), rfl⟩⟩⟩
theorem zig (n : Nat) (a0 : yz0) (a1 : yz0) (a2 : List UInt8) (r : Bool) (h : kzr n a0 a1 a2 = some r) : yjj Tryz.prog 3 [dat.el (.st 8) a0, dat.el (.st 8) a1, dat.el .str a2] (.bool r) := by
 obtain ⟨y, h1, _, _, _, h2⟩ := zk6 n _ (a0, a1, a2, ()) (fun y => some y.1) (fun _ => none) r (by show (kzr n a0 a1 a2).bind (fun r => some r) = some r; rw [h]; rfl)
 obtain ⟨vs, k1, k2⟩ := h2 0 [dat.el (.st 8) a0, dat.el (.st 8) a1, dat.el .str a2] (zjt a0 a1 a2)
 injection h1 with h1
 subst h1
 have := k1 [] 0
 replace this : VRL dat [] 0 [TV.bool y.1] vs := this
 simp only [VRL, VR] at this
 obtain ⟨v, r, rfl, rfl, rfl⟩ := this
 exact k2
end Go.Proofs.YtflgdagdibabiaaGreat


namespace Go.Proofs.Tryz
open Go Go.Ab
set_option linter.unusedSimpArgs false
@[simp] theorem yji : Program.cellsOf Tryz.prog 2 = 1 := by kernel_rfl
@[simp] theorem ysw : Program.cellsOf Tryz.prog 3 = 1 := by kernel_rfl
@[simp] theorem yrv : Program.cellsOf Tryz.prog 4 = 1 := by kernel_rfl
@[simp] theorem zqs : Program.cellsOf Tryz.prog 5 = 1 := by kernel_rfl
@[simp] theorem zkr : Program.cellsOf Tryz.prog 9 = 1 := by kernel_rfl
@[simp] theorem yqh : Program.cellsOf Tryz.prog 22 = 1 := by kernel_rfl
@[simp] theorem ypx : Program.cellsOf Tryz.prog 23 = 1 := by kernel_rfl
@[simp] theorem yqk : Program.cellsOf Tryz.prog 25 = 2 := by kernel_rfl
@[simp] theorem yqt : Program.cellsOf Tryz.prog 27 = 1 := by kernel_rfl
@[simp] theorem ydk : Program.cellsOf Tryz.prog 40 = 2 := by kernel_rfl
@[simp] theorem ypb : Program.cellsOf Tryz.prog 41 = 1 := by kernel_rfl
@[simp] theorem zye : Program.cellsOf Tryz.prog 43 = 6 := by kernel_rfl
@[simp] theorem zyq : Program.cellsOf Tryz.prog 44 = 1 := by kernel_rfl
@[simp] theorem zk8 : Program.cellsOf Tryz.prog 46 = 9 := by kernel_rfl
@[simp] theorem yd8 : Program.cellsOf Tryz.prog 48 = 10 := by kernel_rfl
@[simp] theorem ypf : Program.cellsOf Tryz.prog 49 = 1 := by kernel_rfl
@[simp] theorem ydj : Program.cellsOf Tryz.prog 51 = 3 := by kernel_rfl
@[simp] theorem yq2 : Program.cellsOf Tryz.prog 53 = 1 := by kernel_rfl
@[simp] theorem ydc : Program.cellsOf Tryz.prog 55 = 11 := by kernel_rfl
@[simp] theorem ypp : Program.cellsOf Tryz.prog 86 = 1 := by kernel_rfl
@[simp] theorem ydb : Program.cellsOf Tryz.prog 88 = 5 := by kernel_rfl
@[simp] theorem ydd : Program.cellsOf Tryz.prog 90 = 3 := by kernel_rfl
end Go.Proofs.Tryz


namespace Go.Proofs.Tryz
open Go Go.Ab
set_option linter.unusedSimpArgs false
theorem yty (n : Nat) : Reads Tryz.prog n 40 yz6.ty := (z8j Tryz.underlying40 ydk (fun m hm => (zzg rfl yji (zgd Tryz.underlying2 m) (zzg rfl yji (zgd Tryz.underlying2 m) zbu)))).conv (fun x => (⟨x.1, x.2.1⟩ : yz6)) (fun x => by show yz6.el _ = _; rw [yz6.yz5]; simp [Ty.struct, Ty.pair, Ty.unit, Ty.int, Ty.bool, Ty.str, Ty.slice, V.cells, yz6.ty, yz6.yz5, yz1.ty, yz1.yz5, zz1.ty, zz1.yz5, kz9.ty, kz9.yz5, zza.ty, zza.yz5, zz3.ty, zz3.yz5, zz5.ty, zz5.yz5, kz4.ty, kz4.yz5, yz0.ty, yz0.yz5]) rfl (fun x h => by simp only [yz6.ty]; rw [yz6.z3m]; simp only [Ty.struct, Ty.pair, Ty.unit, Ty.int, Ty.bool, Ty.str, Ty.slice, yz6.ty, yz1.ty, zz1.ty, kz9.ty, zza.ty, zz3.ty, zz5.ty, kz4.ty, yz0.ty] at h ⊢; simpa using h) (fun x => by simp only [Ty.struct, Ty.pair, Ty.unit, Ty.int, Ty.bool, Ty.str, Ty.slice, yz6.ty, yz1.ty, zz1.ty, kz9.ty, zza.ty, zz3.ty, zz5.ty, kz4.ty, yz0.ty]; rw [yz6.size_eq]; (try dsimp only); omega)
theorem yti : ∀ n, Reads Tryz.prog n 43 yz1.ty := fun n => by
 induction n using Nat.strongRecOn with
 | ind n ih => exact (z8j Tryz.underlying43 zye (fun m hm => (zzg rfl zqs (zgd Tryz.underlying5 m) (zzg rfl ydk (yty m) (zzg rfl yrv (ymb Tryz.underlying4 m) (zzg rfl zkr (zg2 Tryz.underlying9 m) (zzg rfl ypb (z8o Tryz.underlying41 zye (by decide) (fun k hk => (ih k (by omega)))) zbu))))))).conv (fun x => (⟨x.1, x.2.1, x.2.2.1, x.2.2.2.1, x.2.2.2.2.1⟩ : yz1)) (fun x => by show yz1.el _ = _; rw [yz1.yz5]; simp [Ty.struct, Ty.pair, Ty.unit, Ty.int, Ty.bool, Ty.str, Ty.slice, V.cells, yz6.ty, yz6.yz5, yz1.ty, yz1.yz5, zz1.ty, zz1.yz5, kz9.ty, kz9.yz5, zza.ty, zza.yz5, zz3.ty, zz3.yz5, zz5.ty, zz5.yz5, kz4.ty, kz4.yz5, yz0.ty, yz0.yz5]) rfl (fun x h => by simp only [yz1.ty]; rw [yz1.z3m]; simp only [Ty.struct, Ty.pair, Ty.unit, Ty.int, Ty.bool, Ty.str, Ty.slice, yz6.ty, yz1.ty, zz1.ty, kz9.ty, zza.ty, zz3.ty, zz5.ty, kz4.ty, yz0.ty] at h ⊢; simpa using h) (fun x => by simp only [Ty.struct, Ty.pair, Ty.unit, Ty.int, Ty.bool, Ty.str, Ty.slice, yz6.ty, yz1.ty, zz1.ty, kz9.ty, zza.ty, zz3.ty, zz5.ty, kz4.ty, yz0.ty]; rw [yz1.size_eq]; (try dsimp only); omega)
theorem y2s : ∀ n, Reads Tryz.prog n 46 zz1.ty := fun n => by
 induction n using Nat.strongRecOn with
 | ind n ih => exact (z8j Tryz.underlying46 zk8 (fun m hm => (zzg rfl zqs (zgd Tryz.underlying5 m) (zzg rfl zye (yti m) (zzg rfl zkr (zg2 Tryz.underlying9 m) (zzg rfl zyq (z8o Tryz.underlying44 zk8 (by decide) (fun k hk => (ih k (by omega)))) zbu)))))).conv (fun x => (⟨x.1, x.2.1, x.2.2.1, x.2.2.2.1⟩ : zz1)) (fun x => by show zz1.el _ = _; rw [zz1.yz5]; simp [Ty.struct, Ty.pair, Ty.unit, Ty.int, Ty.bool, Ty.str, Ty.slice, V.cells, yz6.ty, yz6.yz5, yz1.ty, yz1.yz5, zz1.ty, zz1.yz5, kz9.ty, kz9.yz5, zza.ty, zza.yz5, zz3.ty, zz3.yz5, zz5.ty, zz5.yz5, kz4.ty, kz4.yz5, yz0.ty, yz0.yz5]) rfl (fun x h => by simp only [zz1.ty]; rw [zz1.z3m]; simp only [Ty.struct, Ty.pair, Ty.unit, Ty.int, Ty.bool, Ty.str, Ty.slice, yz6.ty, yz1.ty, zz1.ty, kz9.ty, zza.ty, zz3.ty, zz5.ty, kz4.ty, yz0.ty] at h ⊢; simpa using h) (fun x => by simp only [Ty.struct, Ty.pair, Ty.unit, Ty.int, Ty.bool, Ty.str, Ty.slice, yz6.ty, yz1.ty, zz1.ty, kz9.ty, zza.ty, zz3.ty, zz5.ty, kz4.ty, yz0.ty]; rw [zz1.size_eq]; (try dsimp only); omega)
theorem ytm (n : Nat) : Reads Tryz.prog n 48 kz9.ty := (z8j Tryz.underlying48 yd8 (fun m hm => (zzg rfl zkr (zg2 Tryz.underlying9 m) (zzg rfl zk8 (y2s m) zbu)))).conv (fun x => (⟨x.1, x.2.1⟩ : kz9)) (fun x => by show kz9.el _ = _; rw [kz9.yz5]; simp [Ty.struct, Ty.pair, Ty.unit, Ty.int, Ty.bool, Ty.str, Ty.slice, V.cells, yz6.ty, yz6.yz5, yz1.ty, yz1.yz5, zz1.ty, zz1.yz5, kz9.ty, kz9.yz5, zza.ty, zza.yz5, zz3.ty, zz3.yz5, zz5.ty, zz5.yz5, kz4.ty, kz4.yz5, yz0.ty, yz0.yz5]) rfl (fun x h => by simp only [kz9.ty]; rw [kz9.z3m]; simp only [Ty.struct, Ty.pair, Ty.unit, Ty.int, Ty.bool, Ty.str, Ty.slice, yz6.ty, yz1.ty, zz1.ty, kz9.ty, zza.ty, zz3.ty, zz5.ty, kz4.ty, yz0.ty] at h ⊢; simpa using h) (fun x => by simp only [Ty.struct, Ty.pair, Ty.unit, Ty.int, Ty.bool, Ty.str, Ty.slice, yz6.ty, yz1.ty, zz1.ty, kz9.ty, zza.ty, zz3.ty, zz5.ty, kz4.ty, yz0.ty]; rw [kz9.size_eq]; (try dsimp only); omega)
theorem yth (n : Nat) : Reads Tryz.prog n 90 zza.ty := (z8j Tryz.underlying90 ydd (fun m hm => (zzg rfl zqs (zgd Tryz.underlying5 m) (zzg rfl zkr (zg2 Tryz.underlying9 m) (zzg rfl zyq (z8o Tryz.underlying44 zk8 (by decide) (fun k hk => (y2s k))) zbu))))).conv (fun x => (⟨x.1, x.2.1, x.2.2.1⟩ : zza)) (fun x => by show zza.el _ = _; rw [zza.yz5]; simp [Ty.struct, Ty.pair, Ty.unit, Ty.int, Ty.bool, Ty.str, Ty.slice, V.cells, yz6.ty, yz6.yz5, yz1.ty, yz1.yz5, zz1.ty, zz1.yz5, kz9.ty, kz9.yz5, zza.ty, zza.yz5, zz3.ty, zz3.yz5, zz5.ty, zz5.yz5, kz4.ty, kz4.yz5, yz0.ty, yz0.yz5]) rfl (fun x h => by simp only [zza.ty]; rw [zza.z3m]; simp only [Ty.struct, Ty.pair, Ty.unit, Ty.int, Ty.bool, Ty.str, Ty.slice, yz6.ty, yz1.ty, zz1.ty, kz9.ty, zza.ty, zz3.ty, zz5.ty, kz4.ty, yz0.ty] at h ⊢; simpa using h) (fun x => by simp only [Ty.struct, Ty.pair, Ty.unit, Ty.int, Ty.bool, Ty.str, Ty.slice, yz6.ty, yz1.ty, zz1.ty, kz9.ty, zza.ty, zz3.ty, zz5.ty, kz4.ty, yz0.ty]; rw [zza.size_eq]; (try dsimp only); omega)
theorem ytu (n : Nat) : Reads Tryz.prog n 88 zz3.ty := (z8j Tryz.underlying88 ydb (fun m hm => (zzg rfl zqs (zgd Tryz.underlying5 m) (zzg rfl zqs (zgd Tryz.underlying5 m) (zzg rfl zkr (zg2 Tryz.underlying9 m) (zzg rfl zyq (z8o Tryz.underlying44 zk8 (by decide) (fun k hk => (y2s k))) (zzg rfl ypp (z8o Tryz.underlying86 ydd (by decide) (fun k hk => (yth k))) zbu))))))).conv (fun x => (⟨x.1, x.2.1, x.2.2.1, x.2.2.2.1, x.2.2.2.2.1⟩ : zz3)) (fun x => by show zz3.el _ = _; rw [zz3.yz5]; simp [Ty.struct, Ty.pair, Ty.unit, Ty.int, Ty.bool, Ty.str, Ty.slice, V.cells, yz6.ty, yz6.yz5, yz1.ty, yz1.yz5, zz1.ty, zz1.yz5, kz9.ty, kz9.yz5, zza.ty, zza.yz5, zz3.ty, zz3.yz5, zz5.ty, zz5.yz5, kz4.ty, kz4.yz5, yz0.ty, yz0.yz5]) rfl (fun x h => by simp only [zz3.ty]; rw [zz3.z3m]; simp only [Ty.struct, Ty.pair, Ty.unit, Ty.int, Ty.bool, Ty.str, Ty.slice, yz6.ty, yz1.ty, zz1.ty, kz9.ty, zza.ty, zz3.ty, zz5.ty, kz4.ty, yz0.ty] at h ⊢; simpa using h) (fun x => by simp only [Ty.struct, Ty.pair, Ty.unit, Ty.int, Ty.bool, Ty.str, Ty.slice, yz6.ty, yz1.ty, zz1.ty, kz9.ty, zza.ty, zz3.ty, zz5.ty, kz4.ty, yz0.ty]; rw [zz3.size_eq]; (try dsimp only); omega)
theorem yu0 (n : Nat) : Reads Tryz.prog n 55 zz5.ty := (z8j Tryz.underlying55 ydc (fun m hm => (zzg rfl ysw (zgd Tryz.underlying3 m) (zzg rfl zk8 (y2s m) (zzg rfl yq2 (z8o Tryz.underlying53 ydb (by decide) (fun k hk => (ytu k))) zbu))))).conv (fun x => (⟨x.1, x.2.1, x.2.2.1⟩ : zz5)) (fun x => by show zz5.el _ = _; rw [zz5.yz5]; simp [Ty.struct, Ty.pair, Ty.unit, Ty.int, Ty.bool, Ty.str, Ty.slice, V.cells, yz6.ty, yz6.yz5, yz1.ty, yz1.yz5, zz1.ty, zz1.yz5, kz9.ty, kz9.yz5, zza.ty, zza.yz5, zz3.ty, zz3.yz5, zz5.ty, zz5.yz5, kz4.ty, kz4.yz5, yz0.ty, yz0.yz5]) rfl (fun x h => by simp only [zz5.ty]; rw [zz5.z3m]; simp only [Ty.struct, Ty.pair, Ty.unit, Ty.int, Ty.bool, Ty.str, Ty.slice, yz6.ty, yz1.ty, zz1.ty, kz9.ty, zza.ty, zz3.ty, zz5.ty, kz4.ty, yz0.ty] at h ⊢; simpa using h) (fun x => by simp only [Ty.struct, Ty.pair, Ty.unit, Ty.int, Ty.bool, Ty.str, Ty.slice, yz6.ty, yz1.ty, zz1.ty, kz9.ty, zza.ty, zz3.ty, zz5.ty, kz4.ty, yz0.ty]; rw [zz5.size_eq]; (try dsimp only); omega)
theorem ytj (n : Nat) : Reads Tryz.prog n 51 kz4.ty := (z8j Tryz.underlying51 ydj (fun m hm => (zzg rfl zkr (zg2 Tryz.underlying9 m) (zzg rfl yqt (z8o Tryz.underlying27 zkr (by decide) (fun k hk => (zg2 Tryz.underlying9 k))) (zzg rfl ypf (z8o Tryz.underlying49 ydc (by decide) (fun k hk => (yu0 k))) zbu))))).conv (fun x => (⟨x.1, x.2.1, x.2.2.1⟩ : kz4)) (fun x => by show kz4.el _ = _; rw [kz4.yz5]; simp [Ty.struct, Ty.pair, Ty.unit, Ty.int, Ty.bool, Ty.str, Ty.slice, V.cells, yz6.ty, yz6.yz5, yz1.ty, yz1.yz5, zz1.ty, zz1.yz5, kz9.ty, kz9.yz5, zza.ty, zza.yz5, zz3.ty, zz3.yz5, zz5.ty, zz5.yz5, kz4.ty, kz4.yz5, yz0.ty, yz0.yz5]) rfl (fun x h => by simp only [kz4.ty]; rw [kz4.z3m]; simp only [Ty.struct, Ty.pair, Ty.unit, Ty.int, Ty.bool, Ty.str, Ty.slice, yz6.ty, yz1.ty, zz1.ty, kz9.ty, zza.ty, zz3.ty, zz5.ty, kz4.ty, yz0.ty] at h ⊢; simpa using h) (fun x => by simp only [Ty.struct, Ty.pair, Ty.unit, Ty.int, Ty.bool, Ty.str, Ty.slice, yz6.ty, yz1.ty, zz1.ty, kz9.ty, zza.ty, zz3.ty, zz5.ty, kz4.ty, yz0.ty]; rw [kz4.size_eq]; (try dsimp only); omega)
theorem ytv (n : Nat) : Reads Tryz.prog n 25 yz0.ty := (z8j Tryz.underlying25 yqk (fun m hm => (zzg rfl yqh (z8o Tryz.underlying22 yd8 (by decide) (fun k hk => (ytm k))) (zzg rfl ypx (z8o Tryz.underlying23 ydj (by decide) (fun k hk => (ytj k))) zbu)))).conv (fun x => (⟨x.1, x.2.1⟩ : yz0)) (fun x => by show yz0.el _ = _; rw [yz0.yz5]; simp [Ty.struct, Ty.pair, Ty.unit, Ty.int, Ty.bool, Ty.str, Ty.slice, V.cells, yz6.ty, yz6.yz5, yz1.ty, yz1.yz5, zz1.ty, zz1.yz5, kz9.ty, kz9.yz5, zza.ty, zza.yz5, zz3.ty, zz3.yz5, zz5.ty, zz5.yz5, kz4.ty, kz4.yz5, yz0.ty, yz0.yz5]) rfl (fun x h => by simp only [yz0.ty]; rw [yz0.z3m]; simp only [Ty.struct, Ty.pair, Ty.unit, Ty.int, Ty.bool, Ty.str, Ty.slice, yz6.ty, yz1.ty, zz1.ty, kz9.ty, zza.ty, zz3.ty, zz5.ty, kz4.ty, yz0.ty] at h ⊢; simpa using h) (fun x => by simp only [Ty.struct, Ty.pair, Ty.unit, Ty.int, Ty.bool, Ty.str, Ty.slice, yz6.ty, yz1.ty, zz1.ty, kz9.ty, zza.ty, zz3.ty, zz5.ty, kz4.ty, yz0.ty]; rw [yz0.size_eq]; (try dsimp only); omega)
theorem yuf : yof Tryz.prog 25 yz0.ty := yn5 Tryz.underlying25 ytv yz0.zl0
theorem arg9 : yof Tryz.prog 9 Ty.str := yss (fun n => (zg2 Tryz.underlying9 n)) (fun _ => rfl) (by rw [Tryz.underlying9])
end Go.Proofs.Tryz


namespace Go.Proofs.YtflgdagdibabiaaGreat
open Go Go.Ab
set_option linter.unusedVariables false
theorem y4u {r} (a0 a1) : type_of% (evS (fun n => z9b n a0 a1) r fun n => z9b.eq_2 a0 a1 n) := evS _ _ fun _ => rfl
theorem zms {r} (a0 a1 a2) : type_of% (evS (fun n => z26 n a0 a1 a2) r fun n => z26.eq_2 a0 a1 a2 n) := evS _ _ fun _ => rfl
theorem zls {r} (a0 a1 a2) : type_of% (evS (fun n => z50 n a0 a1 a2) r fun n => z50.eq_2 a0 a1 a2 n) := evS _ _ fun _ => rfl
theorem y7n {r} (a0) : type_of% (evS (fun n => z6x n a0) r fun n => z6x.eq_2 a0 n) := evS _ _ fun _ => rfl
theorem zh4 {r} (a0 a1 a2) : type_of% (evS (fun n => z3w n a0 a1 a2) r fun n => z3w.eq_2 a0 a1 a2 n) := evS _ _ fun _ => rfl
theorem zgs {r} (a0 a1 a2 a3) : type_of% (evS (fun n => z4l n a0 a1 a2 a3) r fun n => z4l.eq_2 a0 a1 a2 a3 n) := evS _ _ fun _ => rfl
theorem zri {r} (a0) : type_of% (evS (fun n => zbe n a0) r fun n => zbe.eq_2 a0 n) := evS _ _ fun _ => rfl
theorem y62 {r} (a0 a1) : type_of% (evS (fun n => z9c n a0 a1) r fun n => z9c.eq_2 a0 a1 n) := evS _ _ fun _ => rfl
theorem zm8 {r} (a0 a1 a2) : type_of% (evS (fun n => z15 n a0 a1 a2) r fun n => z15.eq_2 a0 a1 a2 n) := evS _ _ fun _ => rfl
theorem zme {r} (a0 a1 a2) : type_of% (evS (fun n => z4d n a0 a1 a2) r fun n => z4d.eq_2 a0 a1 a2 n) := evS _ _ fun _ => rfl
theorem y51 {r} (a0) : type_of% (evS (fun n => z6u n a0) r fun n => z6u.eq_2 a0 n) := evS _ _ fun _ => rfl
theorem zn7 {r} (a0 a1 a2) : type_of% (evS (fun n => z3x n a0 a1 a2) r fun n => z3x.eq_2 a0 a1 a2 n) := evS _ _ fun _ => rfl
theorem zrm {r} (a0) : type_of% (evS (fun n => z3p n a0) r fun n => z3p.eq_2 a0 n) := evS _ _ fun _ => rfl
theorem zin {r} (a0) : type_of% (evS (fun n => z0a n a0) r fun n => z0a.eq_2 a0 n) := evS _ _ fun _ => rfl
theorem zud {r} (a0) : type_of% (evS (fun n => z6b n a0) r fun n => z6b.eq_2 a0 n) := evS _ _ fun _ => rfl
theorem zi3 {r} (a0 a1) : type_of% (evS (fun n => z0x n a0 a1) r fun n => z0x.eq_2 a0 a1 n) := evS _ _ fun _ => rfl
theorem zi0 {r} (a0 a1) : type_of% (evS (fun n => kzz n a0 a1) r fun n => kzz.eq_2 a0 a1 n) := evS _ _ fun _ => rfl
theorem zhw {r} (a0 a1 a2) : type_of% (evS (fun n => z01 n a0 a1 a2) r fun n => z01.eq_2 a0 a1 a2 n) := evS _ _ fun _ => rfl
theorem zhz {r} (a0 a1 a2) : type_of% (evS (fun n => z02 n a0 a1 a2) r fun n => z02.eq_2 a0 a1 a2 n) := evS _ _ fun _ => rfl
theorem zi6 {r} (a0 a1 a2 a3) : type_of% (evS (fun n => z0z n a0 a1 a2 a3) r fun n => z0z.eq_2 a0 a1 a2 a3 n) := evS _ _ fun _ => rfl
theorem y3q {r} (a0) : type_of% (evS (fun n => z96 n a0) r fun n => z96.eq_2 a0 n) := evS _ _ fun _ => rfl
theorem zm4 {r} (a0 a1) : type_of% (evS (fun n => z4r n a0 a1) r fun n => z4r.eq_2 a0 a1 n) := evS _ _ fun _ => rfl
theorem zlw {r} (a0 a1) : type_of% (evS (fun n => z1z n a0 a1) r fun n => z1z.eq_2 a0 a1 n) := evS _ _ fun _ => rfl
theorem zma {r} (a0 a1 a2) : type_of% (evS (fun n => z4n n a0 a1 a2) r fun n => z4n.eq_2 a0 a1 a2 n) := evS _ _ fun _ => rfl
theorem zlz {r} (a0 a1) : type_of% (evS (fun n => z1y n a0 a1) r fun n => z1y.eq_2 a0 a1 n) := evS _ _ fun _ => rfl
theorem zn4 {r} (a0 a1 a2 a3) : type_of% (evS (fun n => z25 n a0 a1 a2 a3) r fun n => z25.eq_2 a0 a1 a2 a3 n) := evS _ _ fun _ => rfl
theorem zlt {r} (a0 a1 a2 a3) : type_of% (evS (fun n => z1x n a0 a1 a2 a3) r fun n => z1x.eq_2 a0 a1 a2 a3 n) := evS _ _ fun _ => rfl
theorem zlu {r} (a0 a1 a2 a3) : type_of% (evS (fun n => z23 n a0 a1 a2 a3) r fun n => z23.eq_2 a0 a1 a2 a3 n) := evS _ _ fun _ => rfl
theorem y18 {r} (a0) : type_of% (evS (fun n => z9o n a0) r fun n => z9o.eq_2 a0 n) := evS _ _ fun _ => rfl
theorem zc2 {r} (a0) : type_of% (evS (fun n => kzl n a0) r fun n => kzl.eq_2 a0 n) := evS _ _ fun _ => rfl
theorem zax {r} (a0) : type_of% (evS (fun n => zzf n a0) r fun n => zzf.eq_2 a0 n) := evS _ _ fun _ => rfl
theorem yck {r} (a0) : type_of% (evS (fun n => zc8 n a0) r fun n => zc8.eq_2 a0 n) := evS _ _ fun _ => rfl
theorem zoc {r} (a0 a1) : type_of% (evS (fun n => z69 n a0 a1) r fun n => z69.eq_2 a0 a1 n) := evS _ _ fun _ => rfl
theorem znw {r} (a0 a1 a2) : type_of% (evS (fun n => z3a n a0 a1 a2) r fun n => z3a.eq_2 a0 a1 a2 n) := evS _ _ fun _ => rfl
theorem zns {r} (a0 a1 a2 a3 a4) : type_of% (evS (fun n => z5r n a0 a1 a2 a3 a4) r fun n => z5r.eq_2 a0 a1 a2 a3 a4 n) := evS _ _ fun _ => rfl
theorem zp2 {r} (a0 a1 a2 a3 a4 a5) : type_of% (evS (fun n => z3c n a0 a1 a2 a3 a4 a5) r fun n => z3c.eq_2 a0 a1 a2 a3 a4 a5 n) := evS _ _ fun _ => rfl
theorem znz {r} (a0 a1 a2 a3 a4 a5 a6) : type_of% (evS (fun n => z5x n a0 a1 a2 a3 a4 a5 a6) r fun n => z5x.eq_2 a0 a1 a2 a3 a4 a5 a6 n) := evS _ _ fun _ => rfl
theorem yac {r} (a0) : type_of% (evS (fun n => zaa n a0) r fun n => zaa.eq_2 a0 n) := evS _ _ fun _ => rfl
theorem zol {r} (a0 a1) : type_of% (evS (fun n => z8x n a0 a1) r fun n => z8x.eq_2 a0 a1 n) := evS _ _ fun _ => rfl
theorem zo4 {r} (a0 a1) : type_of% (evS (fun n => z0q n a0 a1) r fun n => z0q.eq_2 a0 a1 n) := evS _ _ fun _ => rfl
theorem znp {r} (a0 a1 a2 a3 a4) : type_of% (evS (fun n => z6g n a0 a1 a2 a3 a4) r fun n => z6g.eq_2 a0 a1 a2 a3 a4 n) := evS _ _ fun _ => rfl
theorem znr {r} (a0 a1 a2) : type_of% (evS (fun n => z06 n a0 a1 a2) r fun n => z06.eq_2 a0 a1 a2 n) := evS _ _ fun _ => rfl
theorem zbl {r} (a0 a1) : type_of% (evS (fun n => zzo n a0 a1) r fun n => zzo.eq_2 a0 a1 n) := evS _ _ fun _ => rfl
theorem zgk {r} (a0 a1) : type_of% (evS (fun n => yzp n a0 a1) r fun n => yzp.eq_2 a0 a1 n) := evS _ _ fun _ => rfl
theorem y5a {r} (a0) : type_of% (evS (fun n => z2e n a0) r fun n => z2e.eq_2 a0 n) := evS _ _ fun _ => rfl
theorem y21 {r} (a0) : type_of% (evS (fun n => z7q n a0) r fun n => z7q.eq_2 a0 n) := evS _ _ fun _ => rfl
theorem zlj {r} (a0 a1 a2 a3 a4) : type_of% (evS (fun n => z33 n a0 a1 a2 a3 a4) r fun n => z33.eq_2 a0 a1 a2 a3 a4 n) := evS _ _ fun _ => rfl
theorem ztb {r} (a0) : type_of% (evS (fun n => zc9 n a0) r fun n => zc9.eq_2 a0 n) := evS _ _ fun _ => rfl
theorem zos {r} (a0 a1 a2) : type_of% (evS (fun n => yzw n a0 a1 a2) r fun n => yzw.eq_2 a0 a1 a2 n) := evS _ _ fun _ => rfl
theorem zox {r} (a0 a1 a2) : type_of% (evS (fun n => z5l n a0 a1 a2) r fun n => z5l.eq_2 a0 a1 a2 n) := evS _ _ fun _ => rfl
theorem znv {r} (a0 a1 a2) : type_of% (evS (fun n => z5k n a0 a1 a2) r fun n => z5k.eq_2 a0 a1 a2 n) := evS _ _ fun _ => rfl
theorem znq {r} (a0 a1 a2) : type_of% (evS (fun n => z8w n a0 a1 a2) r fun n => z8w.eq_2 a0 a1 a2 n) := evS _ _ fun _ => rfl
theorem znt {r} : type_of% (evS (fun n => z8u n) r fun n => z8u.eq_2 n) := evS _ _ fun _ => rfl
theorem znx {r} (a0) : type_of% (evS (fun n => z0n n a0) r fun n => z0n.eq_2 a0 n) := evS _ _ fun _ => rfl
theorem zy8 {r} (a0) : type_of% (evS (fun n => z6e n a0) r fun n => z6e.eq_2 a0 n) := evS _ _ fun _ => rfl
theorem zjp {r} (a0 a1 a2 a3 a4) : type_of% (evS (fun n => z1w n a0 a1 a2 a3 a4) r fun n => z1w.eq_2 a0 a1 a2 a3 a4 n) := evS _ _ fun _ => rfl
theorem zsv {r} (a0 a1) : type_of% (evS (fun n => z1u n a0 a1) r fun n => z1u.eq_2 a0 a1 n) := evS _ _ fun _ => rfl
theorem ybd {r} (a0) : type_of% (evS (fun n => zaf n a0) r fun n => zaf.eq_2 a0 n) := evS _ _ fun _ => rfl
theorem ygk {r} (a0 a1) : type_of% (evS (fun n => ze5 n a0 a1) r fun n => ze5.eq_2 a0 a1 n) := evS _ _ fun _ => rfl
theorem y2d {r} (a0 a1) : type_of% (evS (fun n => z7j n a0 a1) r fun n => z7j.eq_2 a0 a1 n) := evS _ _ fun _ => rfl
theorem y4q {r} (a0) : type_of% (evS (fun n => zbc n a0) r fun n => zbc.eq_2 a0 n) := evS _ _ fun _ => rfl
theorem zwg {r} (a0) : type_of% (evS (fun n => z16 n a0) r fun n => z16.eq_2 a0 n) := evS _ _ fun _ => rfl
theorem y95 {r} (a0) : type_of% (evS (fun n => za7 n a0) r fun n => za7.eq_2 a0 n) := evS _ _ fun _ => rfl
theorem zo9 {r} (a0 a1 a2) : type_of% (evS (fun n => z61 n a0 a1 a2) r fun n => z61.eq_2 a0 a1 a2 n) := evS _ _ fun _ => rfl
theorem zp1 {r} (a0 a1 a2 a3) : type_of% (evS (fun n => z6k n a0 a1 a2 a3) r fun n => z6k.eq_2 a0 a1 a2 a3 n) := evS _ _ fun _ => rfl
theorem zo5 {r} (a0 a1 a2 a3) : type_of% (evS (fun n => z64 n a0 a1 a2 a3) r fun n => z64.eq_2 a0 a1 a2 a3 n) := evS _ _ fun _ => rfl
theorem zxv {r} (a0) : type_of% (evS (fun n => z1s n a0) r fun n => z1s.eq_2 a0 n) := evS _ _ fun _ => rfl
theorem y5u {r} (a0) : type_of% (evS (fun n => zbb n a0) r fun n => zbb.eq_2 a0 n) := evS _ _ fun _ => rfl
theorem zws {r} (a0 a1) : type_of% (evS (fun n => z4s n a0 a1) r fun n => z4s.eq_2 a0 a1 n) := evS _ _ fun _ => rfl
theorem y9z {r} (a0) : type_of% (evS (fun n => zcd n a0) r fun n => zcd.eq_2 a0 n) := evS _ _ fun _ => rfl
theorem yby {r} (a0 a1) : type_of% (evS (fun n => z2i n a0 a1) r fun n => z2i.eq_2 a0 a1 n) := evS _ _ fun _ => rfl
theorem zoo {r} (a0 a1 a2) : type_of% (evS (fun n => z0v n a0 a1 a2) r fun n => z0v.eq_2 a0 a1 a2 n) := evS _ _ fun _ => rfl
theorem zo1 {r} (a0 a1 a2 a3) : type_of% (evS (fun n => z6h n a0 a1 a2 a3) r fun n => z6h.eq_2 a0 a1 a2 a3 n) := evS _ _ fun _ => rfl
theorem yh2 {r} (a0) : type_of% (evS (fun n => zbq n a0) r fun n => zbq.eq_2 a0 n) := evS _ _ fun _ => rfl
theorem y15 {r} (a0 a1) : type_of% (evS (fun n => z55 n a0 a1) r fun n => z55.eq_2 a0 a1 n) := evS _ _ fun _ => rfl
theorem y1o {r} (a0 a1) : type_of% (evS (fun n => z56 n a0 a1) r fun n => z56.eq_2 a0 a1 n) := evS _ _ fun _ => rfl
theorem y17 {r} (a0 a1) : type_of% (evS (fun n => z84 n a0 a1) r fun n => z84.eq_2 a0 a1 n) := evS _ _ fun _ => rfl
theorem y1w {r} (a0 a1) : type_of% (evS (fun n => z7n n a0 a1) r fun n => z7n.eq_2 a0 a1 n) := evS _ _ fun _ => rfl
theorem y1u {r} (a0) : type_of% (evS (fun n => z58 n a0) r fun n => z58.eq_2 a0 n) := evS _ _ fun _ => rfl
theorem zbk {r} (a0) : type_of% (evS (fun n => yzf n a0) r fun n => yzf.eq_2 a0 n) := evS _ _ fun _ => rfl
theorem zcn {r} (a0) : type_of% (evS (fun n => kzg n a0) r fun n => kzg.eq_2 a0 n) := evS _ _ fun _ => rfl
theorem z0c {r} (a0 a1 a2) : type_of% (evS (fun n => kzb n a0 a1 a2) r fun n => kzb.eq_2 a0 a1 a2 n) := evS _ _ fun _ => rfl
theorem y6n {r} (a0) : type_of% (evS (fun n => zaz n a0) r fun n => zaz.eq_2 a0 n) := evS _ _ fun _ => rfl
theorem yah {r} (a0) : type_of% (evS (fun n => z2d n a0) r fun n => z2d.eq_2 a0 n) := evS _ _ fun _ => rfl
theorem zxg {r} (a0 a1) : type_of% (evS (fun n => z63 n a0 a1) r fun n => z63.eq_2 a0 a1 n) := evS _ _ fun _ => rfl
theorem zx8 {r} (a0) : type_of% (evS (fun n => z7f n a0) r fun n => z7f.eq_2 a0 n) := evS _ _ fun _ => rfl
theorem zgh {r} (a0) : type_of% (evS (fun n => zzv n a0) r fun n => zzv.eq_2 a0 n) := evS _ _ fun _ => rfl
theorem zeh {r} (a0) : type_of% (evS (fun n => yzl n a0) r fun n => yzl.eq_2 a0 n) := evS _ _ fun _ => rfl
theorem yc7 {r} (a0) : type_of% (evS (fun n => zab n a0) r fun n => zab.eq_2 a0 n) := evS _ _ fun _ => rfl
theorem yhd {r} (a0) : type_of% (evS (fun n => z9x n a0) r fun n => z9x.eq_2 a0 n) := evS _ _ fun _ => rfl
theorem y2f {r} (a0 a1) : type_of% (evS (fun n => z80 n a0 a1) r fun n => z80.eq_2 a0 a1 n) := evS _ _ fun _ => rfl
theorem y1g {r} (a0) : type_of% (evS (fun n => z7o n a0) r fun n => z7o.eq_2 a0 n) := evS _ _ fun _ => rfl
theorem zt8 {r} (a0) : type_of% (evS (fun n => z54 n a0) r fun n => z54.eq_2 a0 n) := evS _ _ fun _ => rfl
theorem zq0 {r} (a0 a1) : type_of% (evS (fun n => z0f n a0 a1) r fun n => z0f.eq_2 a0 a1 n) := evS _ _ fun _ => rfl
theorem zqa {r} (a0 a1 a2 a3) : type_of% (evS (fun n => z0i n a0 a1 a2 a3) r fun n => z0i.eq_2 a0 a1 a2 a3 n) := evS _ _ fun _ => rfl
theorem zpv {r} (a0 a1 a2) : type_of% (evS (fun n => z0h n a0 a1 a2) r fun n => z0h.eq_2 a0 a1 a2 n) := evS _ _ fun _ => rfl
theorem zhb {r} (a0 a1 a2) : type_of% (evS (fun n => zzy n a0 a1 a2) r fun n => zzy.eq_2 a0 a1 a2 n) := evS _ _ fun _ => rfl
theorem zgj {r} (a0 a1 a2) : type_of% (evS (fun n => kzw n a0 a1 a2) r fun n => kzw.eq_2 a0 a1 a2 n) := evS _ _ fun _ => rfl
theorem zhh {r} (a0 a1) : type_of% (evS (fun n => yzs n a0 a1) r fun n => yzs.eq_2 a0 a1 n) := evS _ _ fun _ => rfl
theorem zgw {r} (a0 a1 a2) : type_of% (evS (fun n => kzx n a0 a1 a2) r fun n => kzx.eq_2 a0 a1 a2 n) := evS _ _ fun _ => rfl
theorem zgp {r} (a0 a1 a2 a3) : type_of% (evS (fun n => kzn n a0 a1 a2 a3) r fun n => kzn.eq_2 a0 a1 a2 a3 n) := evS _ _ fun _ => rfl
theorem y2g {r} (a0) : type_of% (evS (fun n => z9n n a0) r fun n => z9n.eq_2 a0 n) := evS _ _ fun _ => rfl
theorem zli {r} (a0 a1 a2 a3) : type_of% (evS (fun n => z1m n a0 a1 a2 a3) r fun n => z1m.eq_2 a0 a1 a2 a3 n) := evS _ _ fun _ => rfl
theorem zl2 {r} (a0 a1 a2 a3 a4) : type_of% (evS (fun n => z30 n a0 a1 a2 a3 a4) r fun n => z30.eq_2 a0 a1 a2 a3 a4 n) := evS _ _ fun _ => rfl
theorem zke {r} (a0 a1 a2) : type_of% (evS (fun n => z1p n a0 a1 a2) r fun n => z1p.eq_2 a0 a1 a2 n) := evS _ _ fun _ => rfl
theorem zlf {r} (a0 a1 a2 a3 a4) : type_of% (evS (fun n => z32 n a0 a1 a2 a3 a4) r fun n => z32.eq_2 a0 a1 a2 a3 a4 n) := evS _ _ fun _ => rfl
theorem zkw {r} (a0 a1 a2 a3 a4 a5) : type_of% (evS (fun n => z1o n a0 a1 a2 a3 a4 a5) r fun n => z1o.eq_2 a0 a1 a2 a3 a4 a5 n) := evS _ _ fun _ => rfl
theorem zkz {r} (a0 a1 a2 a3 a4 a5 a6 a7) : type_of% (evS (fun n => z1q n a0 a1 a2 a3 a4 a5 a6 a7) r fun n => z1q.eq_2 a0 a1 a2 a3 a4 a5 a6 a7 n) := evS _ _ fun _ => rfl
theorem zl3 {r} (a0 a1 a2 a3 a4 a5 a6 a7 a8) : type_of% (evS (fun n => z1i n a0 a1 a2 a3 a4 a5 a6 a7 a8) r fun n => z1i.eq_2 a0 a1 a2 a3 a4 a5 a6 a7 a8 n) := evS _ _ fun _ => rfl
theorem zhk {r} (a0 a1) : type_of% (evS (fun n => zzp n a0 a1) r fun n => zzp.eq_2 a0 a1 n) := evS _ _ fun _ => rfl
theorem z2j {r} (a0 a1 a2 a3) : type_of% (evS (fun n => kzi n a0 a1 a2 a3) r fun n => kzi.eq_2 a0 a1 a2 a3 n) := evS _ _ fun _ => rfl
theorem zfk {r} (a0 a1) : type_of% (evS (fun n => zzm n a0 a1) r fun n => zzm.eq_2 a0 a1 n) := evS _ _ fun _ => rfl
theorem y8c {r} (a0 a1) : type_of% (evS (fun n => za9 n a0 a1) r fun n => za9.eq_2 a0 a1 n) := evS _ _ fun _ => rfl
theorem zpj {r} (a0 a1 a2) : type_of% (evS (fun n => z8t n a0 a1 a2) r fun n => z8t.eq_2 a0 a1 a2 n) := evS _ _ fun _ => rfl
theorem zy1 {r} (a0 a1) : type_of% (evS (fun n => z65 n a0 a1) r fun n => z65.eq_2 a0 a1 n) := evS _ _ fun _ => rfl
theorem zpf {r} (a0 a1 a2 a3) : type_of% (evS (fun n => z5y n a0 a1 a2 a3) r fun n => z5y.eq_2 a0 a1 a2 a3 n) := evS _ _ fun _ => rfl
theorem ycm {r} (a0) : type_of% (evS (fun n => zcc n a0) r fun n => zcc.eq_2 a0 n) := evS _ _ fun _ => rfl
theorem y2n {r} (a0 a1 a2) : type_of% (evS (fun n => z9q n a0 a1 a2) r fun n => z9q.eq_2 a0 a1 a2 n) := evS _ _ fun _ => rfl
theorem zeg {r} (a0 a1 a2) : type_of% (evS (fun n => yzr n a0 a1 a2) r fun n => yzr.eq_2 a0 a1 a2 n) := evS _ _ fun _ => rfl
theorem z18 {r} (a0 a1 a2 a3 a4) : type_of% (evS (fun n => yze n a0 a1 a2 a3 a4) r fun n => yze.eq_2 a0 a1 a2 a3 a4 n) := evS _ _ fun _ => rfl
theorem zcy {r} (a0 a1 a2) : type_of% (evS (fun n => yzj n a0 a1 a2) r fun n => yzj.eq_2 a0 a1 a2 n) := evS _ _ fun _ => rfl
theorem ya0 {r} (a0 a1 a2) : type_of% (evS (fun n => zag n a0 a1 a2) r fun n => zag.eq_2 a0 a1 a2 n) := evS _ _ fun _ => rfl
theorem y3x {r} (a0) : type_of% (evS (fun n => zbd n a0) r fun n => zbd.eq_2 a0 n) := evS _ _ fun _ => rfl
theorem zmt {r} (a0 a1 a2 a3) : type_of% (evS (fun n => z4z n a0 a1 a2 a3) r fun n => z4z.eq_2 a0 a1 a2 a3 n) := evS _ _ fun _ => rfl
theorem zlx {r} (a0 a1 a2 a3 a4 a5 a6) : type_of% (evS (fun n => z4a n a0 a1 a2 a3 a4 a5 a6) r fun n => z4a.eq_2 a0 a1 a2 a3 a4 a5 a6 n) := evS _ _ fun _ => rfl
theorem zmm {r} (a0 a1 a2 a3 a4 a5 a6 a7 a8 a9) : type_of% (evS (fun n => z47 n a0 a1 a2 a3 a4 a5 a6 a7 a8 a9) r fun n => z47.eq_2 a0 a1 a2 a3 a4 a5 a6 a7 a8 a9 n) := evS _ _ fun _ => rfl
theorem zyv {r} (a0 a1 a2) : type_of% (evS (fun n => z8s n a0 a1 a2) r fun n => z8s.eq_2 a0 a1 a2 n) := evS _ _ fun _ => rfl
theorem ze9 {r} (a0 a1 a2) : type_of% (evS (fun n => kzo n a0 a1 a2) r fun n => kzo.eq_2 a0 a1 a2 n) := evS _ _ fun _ => rfl
theorem z10 {r} (a0 a1 a2 a3 a4) : type_of% (evS (fun n => kzd n a0 a1 a2 a3 a4) r fun n => kzd.eq_2 a0 a1 a2 a3 a4 n) := evS _ _ fun _ => rfl
theorem zcr {r} (a0 a1 a2) : type_of% (evS (fun n => yzg n a0 a1 a2) r fun n => yzg.eq_2 a0 a1 a2 n) := evS _ _ fun _ => rfl
theorem y7p {r} (a0) : type_of% (evS (fun n => z6v n a0) r fun n => z6v.eq_2 a0 n) := evS _ _ fun _ => rfl
theorem zly {r} (a0 a1 a2 a3) : type_of% (evS (fun n => z4b n a0 a1 a2 a3) r fun n => z4b.eq_2 a0 a1 a2 a3 n) := evS _ _ fun _ => rfl
theorem zml {r} (a0 a1 a2 a3 a4 a5 a6) : type_of% (evS (fun n => z2c n a0 a1 a2 a3 a4 a5 a6) r fun n => z2c.eq_2 a0 a1 a2 a3 a4 a5 a6 n) := evS _ _ fun _ => rfl
theorem zvc {r} (a0 a1 a2 a3 a4 a5 a6 a7) : type_of% (evS (fun n => z42 n a0 a1 a2 a3 a4 a5 a6 a7) r fun n => z42.eq_2 a0 a1 a2 a3 a4 a5 a6 a7 n) := evS _ _ fun _ => rfl
theorem znb {r} (a0 a1 a2 a3 a4 a5 a6 a7 a8 a9) : type_of% (evS (fun n => z4t n a0 a1 a2 a3 a4 a5 a6 a7 a8 a9) r fun n => z4t.eq_2 a0 a1 a2 a3 a4 a5 a6 a7 a8 a9 n) := evS _ _ fun _ => rfl
theorem y3g {r} (a0) : type_of% (evS (fun n => z6t n a0) r fun n => z6t.eq_2 a0 n) := evS _ _ fun _ => rfl
theorem zmz {r} (a0 a1 a2 a3 a4 a5 a6 a7 a8) : type_of% (evS (fun n => z4x n a0 a1 a2 a3 a4 a5 a6 a7 a8) r fun n => z4x.eq_2 a0 a1 a2 a3 a4 a5 a6 a7 a8 n) := evS _ _ fun _ => rfl
theorem zvz {r} (a0 a1 a2 a3 a4 a5 a6 a7 a8 a9) : type_of% (evS (fun n => z4f n a0 a1 a2 a3 a4 a5 a6 a7 a8 a9) r fun n => z4f.eq_2 a0 a1 a2 a3 a4 a5 a6 a7 a8 a9 n) := evS _ _ fun _ => rfl
theorem zmh {r} (a0 a1 a2 a3 a4 a5 a6 a7 a8) : type_of% (evS (fun n => z3z n a0 a1 a2 a3 a4 a5 a6 a7 a8) r fun n => z3z.eq_2 a0 a1 a2 a3 a4 a5 a6 a7 a8 n) := evS _ _ fun _ => rfl
theorem zm0 {r} (a0 a1 a2 a3 a4 a5 a6 a7 a8 a9 a10 a11 a12) : type_of% (evS (fun n => z48 n a0 a1 a2 a3 a4 a5 a6 a7 a8 a9 a10 a11 a12) r fun n => z48.eq_2 a0 a1 a2 a3 a4 a5 a6 a7 a8 a9 a10 a11 a12 n) := evS _ _ fun _ => rfl
theorem zmg {r} (a0 a1 a2 a3 a4 a5 a6 a7 a8 a9 a10 a11 a12 a13) : type_of% (evS (fun n => z4g n a0 a1 a2 a3 a4 a5 a6 a7 a8 a9 a10 a11 a12 a13) r fun n => z4g.eq_2 a0 a1 a2 a3 a4 a5 a6 a7 a8 a9 a10 a11 a12 a13 n) := evS _ _ fun _ => rfl
theorem zna {r} (a0 a1 a2 a3 a4 a5 a6 a7 a8 a9) : type_of% (evS (fun n => z22 n a0 a1 a2 a3 a4 a5 a6 a7 a8 a9) r fun n => z22.eq_2 a0 a1 a2 a3 a4 a5 a6 a7 a8 a9 n) := evS _ _ fun _ => rfl
theorem zmw {r} (a0 a1 a2 a3 a4 a5 a6 a7 a8 a9 a10 a11 a12 a13 a14) : type_of% (evS (fun n => z4i n a0 a1 a2 a3 a4 a5 a6 a7 a8 a9 a10 a11 a12 a13 a14) r fun n => z4i.eq_2 a0 a1 a2 a3 a4 a5 a6 a7 a8 a9 a10 a11 a12 a13 a14 n) := evS _ _ fun _ => rfl
theorem zmn {r} (a0 a1 a2 a3 a4 a5 a6 a7 a8 a9 a10 a11 a12 a13 a14 a15) : type_of% (evS (fun n => z2b n a0 a1 a2 a3 a4 a5 a6 a7 a8 a9 a10 a11 a12 a13 a14 a15) r fun n => z2b.eq_2 a0 a1 a2 a3 a4 a5 a6 a7 a8 a9 a10 a11 a12 a13 a14 a15 n) := evS _ _ fun _ => rfl
theorem zwv {r} (a0 a1 a2 a3 a4 a5 a6 a7 a8 a9 a10) : type_of% (evS (fun n => z43 n a0 a1 a2 a3 a4 a5 a6 a7 a8 a9 a10) r fun n => z43.eq_2 a0 a1 a2 a3 a4 a5 a6 a7 a8 a9 a10 n) := evS _ _ fun _ => rfl
theorem zlr {r} (a0 a1 a2 a3 a4 a5 a6 a7 a8 a9 a10 a11 a12) : type_of% (evS (fun n => z3o n a0 a1 a2 a3 a4 a5 a6 a7 a8 a9 a10 a11 a12) r fun n => z3o.eq_2 a0 a1 a2 a3 a4 a5 a6 a7 a8 a9 a10 a11 a12 n) := evS _ _ fun _ => rfl
theorem zuh {r} (a0 a1 a2 a3 a4 a5 a6 a7 a8 a9 a10 a11 a12 a13 a14 a15) : type_of% (evS (fun n => z2q n a0 a1 a2 a3 a4 a5 a6 a7 a8 a9 a10 a11 a12 a13 a14 a15) r fun n => z2q.eq_2 a0 a1 a2 a3 a4 a5 a6 a7 a8 a9 a10 a11 a12 a13 a14 a15 n) := evS _ _ fun _ => rfl
theorem zv6 {r} (a0 a1 a2 a3 a4 a5 a6 a7 a8 a9 a10 a11 a12) : type_of% (evS (fun n => z1l n a0 a1 a2 a3 a4 a5 a6 a7 a8 a9 a10 a11 a12) r fun n => z1l.eq_2 a0 a1 a2 a3 a4 a5 a6 a7 a8 a9 a10 a11 a12 n) := evS _ _ fun _ => rfl
theorem yar {r} (a0 a1) : type_of% (evS (fun n => zcj n a0 a1) r fun n => zcj.eq_2 a0 a1 n) := evS _ _ fun _ => rfl
theorem ze7 {r} (a0 a1) : type_of% (evS (fun n => yzk n a0 a1) r fun n => yzk.eq_2 a0 a1 n) := evS _ _ fun _ => rfl
theorem z13 {r} (a0 a1 a2 a3) : type_of% (evS (fun n => zze n a0 a1 a2 a3) r fun n => zze.eq_2 a0 a1 a2 a3 n) := evS _ _ fun _ => rfl
theorem yiq {r} (a0 a1) : type_of% (evS (fun n => zbn n a0 a1) r fun n => zbn.eq_2 a0 a1 n) := evS _ _ fun _ => rfl
theorem y3f {r} (a0 a1) : type_of% (evS (fun n => zb3 n a0 a1) r fun n => zb3.eq_2 a0 a1 n) := evS _ _ fun _ => rfl
theorem zn9 {r} (a0 a1 a2 a3) : type_of% (evS (fun n => z4k n a0 a1 a2 a3) r fun n => z4k.eq_2 a0 a1 a2 a3 n) := evS _ _ fun _ => rfl
theorem y9o {r} (a0) : type_of% (evS (fun n => zck n a0) r fun n => zck.eq_2 a0 n) := evS _ _ fun _ => rfl
theorem zoj {r} (a0 a1) : type_of% (evS (fun n => z67 n a0 a1) r fun n => z67.eq_2 a0 a1 n) := evS _ _ fun _ => rfl
theorem zpl {r} (a0 a1) : type_of% (evS (fun n => z36 n a0 a1) r fun n => z36.eq_2 a0 a1 n) := evS _ _ fun _ => rfl
theorem zot {r} (a0 a1 a2 a3) : type_of% (evS (fun n => z6j n a0 a1 a2 a3) r fun n => z6j.eq_2 a0 a1 a2 a3 n) := evS _ _ fun _ => rfl
theorem zo6 {r} (a0 a1 a2 a3) : type_of% (evS (fun n => z35 n a0 a1 a2 a3) r fun n => z35.eq_2 a0 a1 a2 a3 n) := evS _ _ fun _ => rfl
theorem zog {r} (a0 a1 a2 a3 a4) : type_of% (evS (fun n => z38 n a0 a1 a2 a3 a4) r fun n => z38.eq_2 a0 a1 a2 a3 a4 n) := evS _ _ fun _ => rfl
theorem y1k {r} (a0) : type_of% (evS (fun n => z9f n a0) r fun n => z9f.eq_2 a0 n) := evS _ _ fun _ => rfl
theorem y5g {r} (a0) : type_of% (evS (fun n => zb4 n a0) r fun n => zb4.eq_2 a0 n) := evS _ _ fun _ => rfl
theorem yai {r} (a0) : type_of% (evS (fun n => za1 n a0) r fun n => za1.eq_2 a0 n) := evS _ _ fun _ => rfl
theorem zon {r} (a0 a1) : type_of% (evS (fun n => z07 n a0 a1) r fun n => z07.eq_2 a0 a1 n) := evS _ _ fun _ => rfl
theorem zov {r} (a0 a1 a2) : type_of% (evS (fun n => z0s n a0 a1 a2) r fun n => z0s.eq_2 a0 a1 a2 n) := evS _ _ fun _ => rfl
theorem y1i {r} (a0) : type_of% (evS (fun n => z9l n a0) r fun n => z9l.eq_2 a0 n) := evS _ _ fun _ => rfl
theorem ybt {r} (a0) : type_of% (evS (fun n => z3j n a0) r fun n => z3j.eq_2 a0 n) := evS _ _ fun _ => rfl
theorem ya1 {r} (a0) : type_of% (evS (fun n => za2 n a0) r fun n => za2.eq_2 a0 n) := evS _ _ fun _ => rfl
theorem zoa {r} (a0 a1 a2) : type_of% (evS (fun n => z68 n a0 a1 a2) r fun n => z68.eq_2 a0 a1 a2 n) := evS _ _ fun _ => rfl
theorem ztl {r} (a0) : type_of% (evS (fun n => zce n a0) r fun n => zce.eq_2 a0 n) := evS _ _ fun _ => rfl
theorem zok {r} (a0 a1) : type_of% (evS (fun n => z8r n a0 a1) r fun n => z8r.eq_2 a0 a1 n) := evS _ _ fun _ => rfl
theorem zno {r} (a0 a1) : type_of% (evS (fun n => zzw n a0 a1) r fun n => zzw.eq_2 a0 a1 n) := evS _ _ fun _ => rfl
theorem zp7 {r} (a0 a1) : type_of% (evS (fun n => z6f n a0 a1) r fun n => z6f.eq_2 a0 a1 n) := evS _ _ fun _ => rfl
theorem ybe {r} (a0) : type_of% (evS (fun n => zae n a0) r fun n => zae.eq_2 a0 n) := evS _ _ fun _ => rfl
theorem zif {r} (a0 a1 a2) : type_of% (evS (fun n => z5i n a0 a1 a2) r fun n => z5i.eq_2 a0 a1 a2 n) := evS _ _ fun _ => rfl
theorem zii {r} (a0 a1 a2 a3) : type_of% (evS (fun n => z6a n a0 a1 a2 a3) r fun n => z6a.eq_2 a0 a1 a2 a3 n) := evS _ _ fun _ => rfl
theorem y1x {r} (a0 a1) : type_of% (evS (fun n => z9g n a0 a1) r fun n => z9g.eq_2 a0 a1 n) := evS _ _ fun _ => rfl
theorem ztz {r} (a0 a1) : type_of% (evS (fun n => z2n n a0 a1) r fun n => z2n.eq_2 a0 a1 n) := evS _ _ fun _ => rfl
theorem y6t {r} (a0) : type_of% (evS (fun n => zb2 n a0) r fun n => zb2.eq_2 a0 n) := evS _ _ fun _ => rfl
theorem zx5 {r} (a0) : type_of% (evS (fun n => z09 n a0) r fun n => z09.eq_2 a0 n) := evS _ _ fun _ => rfl
theorem yaq {r} (a0) : type_of% (evS (fun n => za4 n a0) r fun n => za4.eq_2 a0 n) := evS _ _ fun _ => rfl
theorem znu {r} (a0 a1) : type_of% (evS (fun n => z0o n a0 a1) r fun n => z0o.eq_2 a0 a1 n) := evS _ _ fun _ => rfl
theorem zpm {r} (a0 a1) : type_of% (evS (fun n => z6i n a0 a1) r fun n => z6i.eq_2 a0 a1 n) := evS _ _ fun _ => rfl
theorem zoe {r} (a0 a1 a2) : type_of% (evS (fun n => z5f n a0 a1 a2) r fun n => z5f.eq_2 a0 a1 a2 n) := evS _ _ fun _ => rfl
theorem zph {r} (a0 a1) : type_of% (evS (fun n => z1r n a0 a1) r fun n => z1r.eq_2 a0 a1 n) := evS _ _ fun _ => rfl
theorem zoy {r} (a0 a1) : type_of% (evS (fun n => z5s n a0 a1) r fun n => z5s.eq_2 a0 a1 n) := evS _ _ fun _ => rfl
theorem y6f {r} (a0) : type_of% (evS (fun n => zbf n a0) r fun n => zbf.eq_2 a0 n) := evS _ _ fun _ => rfl
theorem zx9 {r} (a0 a1) : type_of% (evS (fun n => z4e n a0 a1) r fun n => z4e.eq_2 a0 a1 n) := evS _ _ fun _ => rfl
theorem y8r {r} (a0 a1) : type_of% (evS (fun n => z2l n a0 a1) r fun n => z2l.eq_2 a0 a1 n) := evS _ _ fun _ => rfl
theorem zny {r} (a0 a1 a2) : type_of% (evS (fun n => z0u n a0 a1 a2) r fun n => z0u.eq_2 a0 a1 a2 n) := evS _ _ fun _ => rfl
theorem zob {r} (a0 a1 a2) : type_of% (evS (fun n => z5h n a0 a1 a2) r fun n => z5h.eq_2 a0 a1 a2 n) := evS _ _ fun _ => rfl
theorem y48 {r} (a0) : type_of% (evS (fun n => zb6 n a0) r fun n => zb6.eq_2 a0 n) := evS _ _ fun _ => rfl
theorem y8e {r} (a0) : type_of% (evS (fun n => zac n a0) r fun n => zac.eq_2 a0 n) := evS _ _ fun _ => rfl
theorem zyg {r} (a0 a1) : type_of% (evS (fun n => z3f n a0 a1) r fun n => z3f.eq_2 a0 a1 n) := evS _ _ fun _ => rfl
theorem zyc {r} (a0 a1) : type_of% (evS (fun n => z04 n a0 a1) r fun n => z04.eq_2 a0 a1 n) := evS _ _ fun _ => rfl
theorem zy9 {r} (a0 a1) : type_of% (evS (fun n => z0t n a0 a1) r fun n => z0t.eq_2 a0 a1 n) := evS _ _ fun _ => rfl
theorem zp3 {r} (a0 a1) : type_of% (evS (fun n => z5u n a0 a1) r fun n => z5u.eq_2 a0 a1 n) := evS _ _ fun _ => rfl
theorem y3w {r} (a0) : type_of% (evS (fun n => z1e n a0) r fun n => z1e.eq_2 a0 n) := evS _ _ fun _ => rfl
theorem zvf {r} (a0 a1) : type_of% (evS (fun n => z4v n a0 a1) r fun n => z4v.eq_2 a0 a1 n) := evS _ _ fun _ => rfl
theorem yf2 {r} (a0) : type_of% (evS (fun n => zc1 n a0) r fun n => zc1.eq_2 a0 n) := evS _ _ fun _ => rfl
theorem y1n {r} (a0 a1) : type_of% (evS (fun n => z7u n a0 a1) r fun n => z7u.eq_2 a0 a1 n) := evS _ _ fun _ => rfl
theorem y1l {r} (a0) : type_of% (evS (fun n => z81 n a0) r fun n => z81.eq_2 a0 n) := evS _ _ fun _ => rfl
theorem y2c {r} (a0) : type_of% (evS (fun n => z9k n a0) r fun n => z9k.eq_2 a0 n) := evS _ _ fun _ => rfl
theorem zkp {r} (a0 a1) : type_of% (evS (fun n => z0g n a0 a1) r fun n => z0g.eq_2 a0 a1 n) := evS _ _ fun _ => rfl
theorem zum {r} (a0 a1) : type_of% (evS (fun n => z2z n a0 a1) r fun n => z2z.eq_2 a0 a1 n) := evS _ _ fun _ => rfl
theorem zut {r} (a0) : type_of% (evS (fun n => z2w n a0) r fun n => z2w.eq_2 a0 n) := evS _ _ fun _ => rfl
theorem zfs {r} (a0 a1) : type_of% (evS (fun n => z5q n a0 a1) r fun n => z5q.eq_2 a0 a1 n) := evS _ _ fun _ => rfl
theorem zl5 {r} (a0 a1) : type_of% (evS (fun n => zzu n a0 a1) r fun n => zzu.eq_2 a0 a1 n) := evS _ _ fun _ => rfl
theorem zv5 {r} (a0) : type_of% (evS (fun n => z34 n a0) r fun n => z34.eq_2 a0 n) := evS _ _ fun _ => rfl
theorem zkd {r} (a0 a1) : type_of% (evS (fun n => z1g n a0 a1) r fun n => z1g.eq_2 a0 a1 n) := evS _ _ fun _ => rfl
theorem zle {r} (a0 a1 a2) : type_of% (evS (fun n => kzy n a0 a1 a2) r fun n => kzy.eq_2 a0 a1 a2 n) := evS _ _ fun _ => rfl
theorem y20 {r} (a0) : type_of% (evS (fun n => z9p n a0) r fun n => z9p.eq_2 a0 n) := evS _ _ fun _ => rfl
theorem zkt {r} (a0 a1) : type_of% (evS (fun n => z1f n a0 a1) r fun n => z1f.eq_2 a0 a1 n) := evS _ _ fun _ => rfl
theorem zlc {r} (a0 a1 a2) : type_of% (evS (fun n => z2r n a0 a1 a2) r fun n => z2r.eq_2 a0 a1 a2 n) := evS _ _ fun _ => rfl
theorem zkg {r} (a0 a1) : type_of% (evS (fun n => z1a n a0 a1) r fun n => z1a.eq_2 a0 a1 n) := evS _ _ fun _ => rfl
theorem zko {r} (a0 a1 a2 a3) : type_of% (evS (fun n => z1c n a0 a1 a2 a3) r fun n => z1c.eq_2 a0 a1 a2 a3 n) := evS _ _ fun _ => rfl
theorem zl8 {r} (a0 a1 a2 a3) : type_of% (evS (fun n => z1b n a0 a1 a2 a3) r fun n => z1b.eq_2 a0 a1 a2 a3 n) := evS _ _ fun _ => rfl
theorem zkj {r} (a0 a1 a2 a3 a4 a5) : type_of% (evS (fun n => z19 n a0 a1 a2 a3 a4 a5) r fun n => z19.eq_2 a0 a1 a2 a3 a4 a5 n) := evS _ _ fun _ => rfl
theorem zkf {r} (a0 a1 a2 a3 a4 a5) : type_of% (evS (fun n => z1n n a0 a1 a2 a3 a4 a5) r fun n => z1n.eq_2 a0 a1 a2 a3 a4 a5 n) := evS _ _ fun _ => rfl
theorem y3a {r} (a0) : type_of% (evS (fun n => z71 n a0) r fun n => z71.eq_2 a0 n) := evS _ _ fun _ => rfl
theorem zn6 {r} (a0 a1 a2) : type_of% (evS (fun n => z3t n a0 a1 a2) r fun n => z3t.eq_2 a0 a1 a2 n) := evS _ _ fun _ => rfl
theorem yjv {r} (a0 a1) : type_of% (evS (fun n => z6s n a0 a1) r fun n => z6s.eq_2 a0 a1 n) := evS _ _ fun _ => rfl
theorem y36 {r} (a0) : type_of% (evS (fun n => z8z n a0) r fun n => z8z.eq_2 a0 n) := evS _ _ fun _ => rfl
theorem zmv {r} (a0 a1) : type_of% (evS (fun n => z52 n a0 a1) r fun n => z52.eq_2 a0 a1 n) := evS _ _ fun _ => rfl
theorem y55 {r} (a0) : type_of% (evS (fun n => z2h n a0) r fun n => z2h.eq_2 a0 n) := evS _ _ fun _ => rfl
theorem zlq {r} (a0 a1 a2) : type_of% (evS (fun n => z3r n a0 a1 a2) r fun n => z3r.eq_2 a0 a1 a2 n) := evS _ _ fun _ => rfl
theorem y3v {r} (a0 a1) : type_of% (evS (fun n => z2g n a0 a1) r fun n => z2g.eq_2 a0 a1 n) := evS _ _ fun _ => rfl
theorem zvs {r} (a0) : type_of% (evS (fun n => z7e n a0) r fun n => z7e.eq_2 a0 n) := evS _ _ fun _ => rfl
theorem zj4 {r} (a0 a1) : type_of% (evS (fun n => z1h n a0 a1) r fun n => z1h.eq_2 a0 a1 n) := evS _ _ fun _ => rfl
theorem zxz {r} (a0) : type_of% (evS (fun n => z8v n a0) r fun n => z8v.eq_2 a0 n) := evS _ _ fun _ => rfl
theorem zjo {r} (a0 a1) : type_of% (evS (fun n => z1v n a0 a1) r fun n => z1v.eq_2 a0 a1 n) := evS _ _ fun _ => rfl
theorem zjq {r} (a0 a1) : type_of% (evS (fun n => z0w n a0 a1) r fun n => z0w.eq_2 a0 a1 n) := evS _ _ fun _ => rfl
theorem y9h {r} (a0 a1) : type_of% (evS (fun n => zad n a0 a1) r fun n => zad.eq_2 a0 a1 n) := evS _ _ fun _ => rfl
theorem zpb {r} (a0 a1 a2) : type_of% (evS (fun n => z3e n a0 a1 a2) r fun n => z3e.eq_2 a0 a1 a2 n) := evS _ _ fun _ => rfl
theorem zp5 {r} (a0 a1 a2 a3) : type_of% (evS (fun n => z62 n a0 a1 a2 a3) r fun n => z62.eq_2 a0 a1 a2 a3 n) := evS _ _ fun _ => rfl
theorem zpc {r} (a0 a1 a2 a3) : type_of% (evS (fun n => z66 n a0 a1 a2 a3) r fun n => z66.eq_2 a0 a1 a2 a3 n) := evS _ _ fun _ => rfl
theorem zyh {r} (a0 a1) : type_of% (evS (fun n => z39 n a0 a1) r fun n => z39.eq_2 a0 a1 n) := evS _ _ fun _ => rfl
theorem zpa {r} (a0 a1 a2) : type_of% (evS (fun n => z5m n a0 a1 a2) r fun n => z5m.eq_2 a0 a1 a2 n) := evS _ _ fun _ => rfl
theorem y6x {r} (a0) : type_of% (evS (fun n => zau n a0) r fun n => zau.eq_2 a0 n) := evS _ _ fun _ => rfl
theorem y2b {r} (a0 a1) : type_of% (evS (fun n => z83 n a0 a1) r fun n => z83.eq_2 a0 a1 n) := evS _ _ fun _ => rfl
theorem zkh {r} (a0 a1 a2) : type_of% (evS (fun n => z2p n a0 a1 a2) r fun n => z2p.eq_2 a0 a1 a2 n) := evS _ _ fun _ => rfl
theorem y4y {r} (a0) : type_of% (evS (fun n => zao n a0) r fun n => zao.eq_2 a0 n) := evS _ _ fun _ => rfl
theorem zm5 {r} (a0 a1 a2) : type_of% (evS (fun n => z3l n a0 a1 a2) r fun n => z3l.eq_2 a0 a1 a2 n) := evS _ _ fun _ => rfl
theorem zmo {r} (a0 a1 a2 a3) : type_of% (evS (fun n => z4j n a0 a1 a2 a3) r fun n => z4j.eq_2 a0 a1 a2 a3 n) := evS _ _ fun _ => rfl
theorem y9m {r} (a0) : type_of% (evS (fun n => z6o n a0) r fun n => z6o.eq_2 a0 n) := evS _ _ fun _ => rfl
theorem zor {r} (a0 a1 a2) : type_of% (evS (fun n => z5v n a0 a1 a2) r fun n => z5v.eq_2 a0 a1 a2 n) := evS _ _ fun _ => rfl
theorem zp9 {r} (a0 a1 a2 a3) : type_of% (evS (fun n => z3b n a0 a1 a2 a3) r fun n => z3b.eq_2 a0 a1 a2 a3 n) := evS _ _ fun _ => rfl
theorem zpi {r} (a0 a1 a2 a3 a4 a5) : type_of% (evS (fun n => z5n n a0 a1 a2 a3 a4 a5) r fun n => z5n.eq_2 a0 a1 a2 a3 a4 a5 n) := evS _ _ fun _ => rfl
theorem zxj {r} (a0 a1 a2 a3 a4) : type_of% (evS (fun n => z6d n a0 a1 a2 a3 a4) r fun n => z6d.eq_2 a0 a1 a2 a3 a4 n) := evS _ _ fun _ => rfl
theorem zp4 {r} (a0 a1 a2 a3 a4 a5) : type_of% (evS (fun n => z5e n a0 a1 a2 a3 a4 a5) r fun n => z5e.eq_2 a0 a1 a2 a3 a4 a5 n) := evS _ _ fun _ => rfl
theorem y46 {r} (a0) : type_of% (evS (fun n => zb9 n a0) r fun n => zb9.eq_2 a0 n) := evS _ _ fun _ => rfl
theorem zmf {r} (a0 a1 a2) : type_of% (evS (fun n => z4m n a0 a1 a2) r fun n => z4m.eq_2 a0 a1 a2 n) := evS _ _ fun _ => rfl
theorem zm3 {r} (a0 a1 a2) : type_of% (evS (fun n => z29 n a0 a1 a2) r fun n => z29.eq_2 a0 a1 a2 n) := evS _ _ fun _ => rfl
theorem zlv {r} (a0 a1 a2 a3 a4 a5) : type_of% (evS (fun n => z2a n a0 a1 a2 a3 a4 a5) r fun n => z2a.eq_2 a0 a1 a2 a3 a4 a5 n) := evS _ _ fun _ => rfl
theorem znd {r} (a0 a1 a2 a3 a4 a5 a6 a7) : type_of% (evS (fun n => z3y n a0 a1 a2 a3 a4 a5 a6 a7) r fun n => z3y.eq_2 a0 a1 a2 a3 a4 a5 a6 a7 n) := evS _ _ fun _ => rfl
theorem zmy {r} (a0 a1 a2 a3 a4) : type_of% (evS (fun n => z27 n a0 a1 a2 a3 a4) r fun n => z27.eq_2 a0 a1 a2 a3 a4 n) := evS _ _ fun _ => rfl
theorem y3r {r} (a0) : type_of% (evS (fun n => z2k n a0) r fun n => z2k.eq_2 a0 n) := evS _ _ fun _ => rfl
theorem zmc {r} (a0 a1) : type_of% (evS (fun n => z4u n a0 a1) r fun n => z4u.eq_2 a0 a1 n) := evS _ _ fun _ => rfl
theorem zmx {r} (a0 a1 a2 a3) : type_of% (evS (fun n => z45 n a0 a1 a2 a3) r fun n => z45.eq_2 a0 a1 a2 a3 n) := evS _ _ fun _ => rfl
theorem y28 {r} (a0 a1) : type_of% (evS (fun n => z57 n a0 a1) r fun n => z57.eq_2 a0 a1 n) := evS _ _ fun _ => rfl
theorem zka {r} (a0 a1 a2) : type_of% (evS (fun n => z1k n a0 a1 a2) r fun n => z1k.eq_2 a0 a1 a2 n) := evS _ _ fun _ => rfl
theorem zl7 {r} (a0 a1 a2 a3) : type_of% (evS (fun n => z2s n a0 a1 a2 a3) r fun n => z2s.eq_2 a0 a1 a2 a3 n) := evS _ _ fun _ => rfl
theorem zlk {r} (a0 a1 a2 a3) : type_of% (evS (fun n => z2t n a0 a1 a2 a3) r fun n => z2t.eq_2 a0 a1 a2 a3 n) := evS _ _ fun _ => rfl
theorem y35 {r} (a0 a1) : type_of% (evS (fun n => zb7 n a0 a1) r fun n => zb7.eq_2 a0 a1 n) := evS _ _ fun _ => rfl
theorem zn2 {r} (a0 a1 a2) : type_of% (evS (fun n => z4c n a0 a1 a2) r fun n => z4c.eq_2 a0 a1 a2 n) := evS _ _ fun _ => rfl
theorem y5t {r} (a0 a1) : type_of% (evS (fun n => zba n a0 a1) r fun n => zba.eq_2 a0 a1 n) := evS _ _ fun _ => rfl
theorem zh5 {r} (a0 a1 a2 a3 a4) : type_of% (evS (fun n => z3q n a0 a1 a2 a3 a4) r fun n => z3q.eq_2 a0 a1 a2 a3 a4 n) := evS _ _ fun _ => rfl
theorem zh2 {r} (a0 a1 a2 a3 a4 a5 a6 a7) : type_of% (evS (fun n => z41 n a0 a1 a2 a3 a4 a5 a6 a7) r fun n => z41.eq_2 a0 a1 a2 a3 a4 a5 a6 a7 n) := evS _ _ fun _ => rfl
theorem zn1 {r} (a0 a1 a2 a3 a4 a5 a6 a7) : type_of% (evS (fun n => z7d n a0 a1 a2 a3 a4 a5 a6 a7) r fun n => z7d.eq_2 a0 a1 a2 a3 a4 a5 a6 a7 n) := evS _ _ fun _ => rfl
theorem y4g {r} (a0 a1) : type_of% (evS (fun n => zb8 n a0 a1) r fun n => zb8.eq_2 a0 a1 n) := evS _ _ fun _ => rfl
theorem zn3 {r} (a0 a1 a2) : type_of% (evS (fun n => z4w n a0 a1 a2) r fun n => z4w.eq_2 a0 a1 a2 n) := evS _ _ fun _ => rfl
theorem zha {r} (a0 a1 a2 a3) : type_of% (evS (fun n => z44 n a0 a1 a2 a3) r fun n => z44.eq_2 a0 a1 a2 a3 n) := evS _ _ fun _ => rfl
theorem zgi {r} (a0 a1 a2 a3 a4 a5) : type_of% (evS (fun n => z3n n a0 a1 a2 a3 a4 a5) r fun n => z3n.eq_2 a0 a1 a2 a3 a4 a5 n) := evS _ _ fun _ => rfl
theorem zn5 {r} (a0 a1 a2 a3 a4 a5) : type_of% (evS (fun n => z7a n a0 a1 a2 a3 a4 a5) r fun n => z7a.eq_2 a0 a1 a2 a3 a4 a5 n) := evS _ _ fun _ => rfl
theorem zvv {r} (a0 a1 a2 a3) : type_of% (evS (fun n => z3s n a0 a1 a2 a3) r fun n => z3s.eq_2 a0 a1 a2 a3 n) := evS _ _ fun _ => rfl
theorem ygg {r} (a0 a1) : type_of% (evS (fun n => z4y n a0 a1) r fun n => z4y.eq_2 a0 a1 n) := evS _ _ fun _ => rfl
theorem y2j {r} (a0 a1) : type_of% (evS (fun n => z8b n a0 a1) r fun n => z8b.eq_2 a0 a1 n) := evS _ _ fun _ => rfl
theorem zwr {r} (a0 a1) : type_of% (evS (fun n => z4h n a0 a1) r fun n => z4h.eq_2 a0 a1 n) := evS _ _ fun _ => rfl
theorem zuy {r} (a0 a1) : type_of% (evS (fun n => z2y n a0 a1) r fun n => z2y.eq_2 a0 a1 n) := evS _ _ fun _ => rfl
theorem zrf {r} (a0 a1) : type_of% (evS (fun n => z1d n a0 a1) r fun n => z1d.eq_2 a0 a1 n) := evS _ _ fun _ => rfl
theorem zv3 {r} (a0 a1) : type_of% (evS (fun n => z2x n a0 a1) r fun n => z2x.eq_2 a0 a1 n) := evS _ _ fun _ => rfl
theorem y1v {r} (a0 a1) : type_of% (evS (fun n => z7h n a0 a1) r fun n => z7h.eq_2 a0 a1 n) := evS _ _ fun _ => rfl
theorem ybw {r} (a0 a1) : type_of% (evS (fun n => zca n a0 a1) r fun n => zca.eq_2 a0 a1 n) := evS _ _ fun _ => rfl
theorem ycc {r} (a0 a1) : type_of% (evS (fun n => z3k n a0 a1) r fun n => z3k.eq_2 a0 a1 n) := evS _ _ fun _ => rfl
theorem zo8 {r} (a0 a1 a2) : type_of% (evS (fun n => z1t n a0 a1 a2) r fun n => z1t.eq_2 a0 a1 a2 n) := evS _ _ fun _ => rfl
theorem zpd {r} (a0 a1 a2) : type_of% (evS (fun n => z6c n a0 a1 a2) r fun n => z6c.eq_2 a0 a1 a2 n) := evS _ _ fun _ => rfl
theorem zv7 {r} (a0 a1) : type_of% (evS (fun n => z2v n a0 a1) r fun n => z2v.eq_2 a0 a1 n) := evS _ _ fun _ => rfl
theorem zra {r} (a0 a1) : type_of% (evS (fun n => z3d n a0 a1) r fun n => z3d.eq_2 a0 a1 n) := evS _ _ fun _ => rfl
theorem zg7 {r} (a0 a1 a2) : type_of% (evS (fun n => kzm n a0 a1 a2) r fun n => kzm.eq_2 a0 a1 a2 n) := evS _ _ fun _ => rfl
theorem zg4 {r} (a0 a1 a2) : type_of% (evS (fun n => z08 n a0 a1 a2) r fun n => z08.eq_2 a0 a1 a2 n) := evS _ _ fun _ => rfl
theorem zg3 {r} (a0 a1 a2 a3) : type_of% (evS (fun n => kzu n a0 a1 a2 a3) r fun n => kzu.eq_2 a0 a1 a2 a3 n) := evS _ _ fun _ => rfl
theorem zu4 {r} (a0 a1) : type_of% (evS (fun n => z5d n a0 a1) r fun n => z5d.eq_2 a0 a1 n) := evS _ _ fun _ => rfl
theorem zi1 {r} (a0 a1 a2) : type_of% (evS (fun n => z03 n a0 a1 a2) r fun n => z03.eq_2 a0 a1 a2 n) := evS _ _ fun _ => rfl
theorem zi4 {r} (a0 a1 a2) : type_of% (evS (fun n => z11 n a0 a1 a2) r fun n => z11.eq_2 a0 a1 a2 n) := evS _ _ fun _ => rfl
theorem zu9 {r} (a0 a1) : type_of% (evS (fun n => z5o n a0 a1) r fun n => z5o.eq_2 a0 a1 n) := evS _ _ fun _ => rfl
theorem zi7 {r} (a0 a1 a2) : type_of% (evS (fun n => z00 n a0 a1 a2) r fun n => z00.eq_2 a0 a1 a2 n) := evS _ _ fun _ => rfl
theorem zi8 {r} (a0 a1 a2) : type_of% (evS (fun n => z0y n a0 a1 a2) r fun n => z0y.eq_2 a0 a1 a2 n) := evS _ _ fun _ => rfl
theorem zhy {r} (a0 a1 a2) : type_of% (evS (fun n => z14 n a0 a1 a2) r fun n => z14.eq_2 a0 a1 a2 n) := evS _ _ fun _ => rfl
theorem y8g {r} (a0 a1) : type_of% (evS (fun n => zci n a0 a1) r fun n => zci.eq_2 a0 a1 n) := evS _ _ fun _ => rfl
theorem zoh {r} (a0 a1 a2) : type_of% (evS (fun n => z5w n a0 a1 a2) r fun n => z5w.eq_2 a0 a1 a2 n) := evS _ _ fun _ => rfl
theorem zop {r} (a0 a1 a2) : type_of% (evS (fun n => z5g n a0 a1 a2) r fun n => z5g.eq_2 a0 a1 a2 n) := evS _ _ fun _ => rfl
theorem zpk {r} (a0 a1 a2 a3) : type_of% (evS (fun n => z5j n a0 a1 a2 a3) r fun n => z5j.eq_2 a0 a1 a2 a3 n) := evS _ _ fun _ => rfl
theorem zof {r} (a0 a1 a2) : type_of% (evS (fun n => z5p n a0 a1 a2) r fun n => z5p.eq_2 a0 a1 a2 n) := evS _ _ fun _ => rfl
theorem zrj {r} (a0 a1) : type_of% (evS (fun n => z1j n a0 a1) r fun n => z1j.eq_2 a0 a1 n) := evS _ _ fun _ => rfl
theorem zg8 {r} (a0 a1 a2) : type_of% (evS (fun n => z05 n a0 a1 a2) r fun n => z05.eq_2 a0 a1 a2 n) := evS _ _ fun _ => rfl
theorem zjz {r} (a0 a1 a2) : type_of% (evS (fun n => kzr n a0 a1 a2) r fun n => kzr.eq_2 a0 a1 a2 n) := evS _ _ fun _ => rfl
theorem zaw {r} (a0 a1 a2 a3) : type_of% (evS (fun n => kzj n a0 a1 a2 a3) r fun n => kzj.eq_2 a0 a1 a2 a3 n) := evS _ _ fun _ => rfl
end Go.Proofs.YtflgdagdibabiaaGreat


namespace Go.Proofs.YtflgdagdibabiaaGreat
open Go Go.Ab
set_option linter.unusedVariables false
theorem z7b {α : Type} {x y : List α} (h : x.length + y.length ≤ 268435456) : ext x y = some (x ++ y) := by unfold ext; rw [if_pos (by simpa [zhv] using h)]
set_option linter.unusedSimpArgs false
def I64 (x : Int) : Prop := -9223372036854775808 ≤ x ∧ x ≤ 9223372036854775807
theorem y5h {x : Int} (h : I64 x) : Ev (fun n => zaf n x) (x.natAbs : Int) := by
 unfold I64 at h
 rw [ybd]
 simp only [Ev.pif, Ev.zz0, decide_eq_true_eq]
 split
 ·rw [wUn (x := x) (by omega), wUn (by omega)]; omega
 ·rw [wU (by omega)]; omega
theorem ylv : ∀ (b a : Nat), Ev (fun n => z7j n (b : Int) (a : Int)) (Nat.gcd a b : Int) := by
 intro b
 induction b using Nat.strongRecOn with
 | ind b ih =>
   intro a
   rw [y2d]
   by_cases hb : b = 0
   · subst hb
     simp [Ev.pif, Ev.zz0]
   · have hm : rem .u64 (a : Int) (b : Int) = some ((a % b : Nat) : Int) := by
       unfold rem; rw [if_neg (by omega), Int.tmod_eq_emod_of_nonneg (by omega)]; simp
     rw [Ev.kz1 (by simpa using hb), Ev.kz2 hm]
     have := ih (a % b) (Nat.mod_lt _ (by omega)) b
     rw [Nat.gcd_comm a b, Nat.gcd_rec b a, Nat.gcd_comm]
     exact this
theorem ypz {a b : Nat} : Ev (fun n => ze5 n (a : Int) (b : Int)) (Nat.gcd a b : Int) := by
 rw [ygk]; exact ylv b a
def rok (r : yz6) : Bool := decide (1 ≤ r.den) && decide (r.den ≤ 1000000000) && decide (r.num.natAbs ≤ 1000000000) && (Nat.gcd r.num.natAbs r.den.natAbs == 1)
theorem zjv {r : yz6} : rok r = true ↔ 1 ≤ r.den ∧ r.den ≤ 1000000000 ∧ r.num.natAbs ≤ 1000000000 ∧ Nat.gcd r.num.natAbs r.den.natAbs = 1 := by
 simp [rok, and_assoc]
theorem ykr {r : yz6} (h : I64 r.num) : Ev (fun n => zbc n r) (if rok r then 0 else 8) := by
 have l0 : ∀ b, Ev (fun n => z16 n b) (if b then 8 else 0) := fun b => by
  rw [zwg]; cases b <;> simp [Ev.pif, Ev.zz0]
 rw [y4q]
 simp only [Ev.pif, decide_eq_true_eq]
 split
 ·refine (l0 _).to ?_; rw [if_pos rfl, if_neg]; rw [zjv]; omega
 split
 ·refine (l0 _).to ?_; rw [if_pos rfl, if_neg]; rw [zjv]; omega
 rw [Ev.kz0 (y5h h)]
 simp only [Ev.pif, decide_eq_true_eq]
 split
 ·refine (l0 _).to ?_; rw [if_pos rfl, if_neg]; rw [zjv]; omega
 rw [Ev.kz0 (y5h h), wU (by omega)]
 have hd : r.den = (r.den.natAbs : Int) := by omega
 rw [hd, Ev.kz0 ypz]
 refine (l0 _).to ?_
 have : ((((Nat.gcd r.num.natAbs r.den.natAbs : Nat) : Int) != 1) = true) ↔ ¬ rok r = true := by
  rw [zjv]
  simp only [bne_iff_ne, ne_eq]
  omega
 by_cases hr : rok r = true
 ·rw [if_neg (by rw [this]; simpa using hr), if_pos hr]
 ·rw [if_pos (by rw [this]; exact hr), if_neg hr]
theorem yt9 (a b : Int) : Nat.gcd a.natAbs b.natAbs = Nat.gcd b.natAbs (a.tmod b).natAbs := by
 rw [Int.natAbs_tmod, Nat.gcd_comm a.natAbs, Nat.gcd_rec b.natAbs a.natAbs, Nat.gcd_comm]
theorem ycq : ∀ (m : Nat) (b a : Int), b.natAbs = m → I64 a → I64 b → ¬ a = -9223372036854775808 → ¬ b = -9223372036854775808 → Ev (fun n => z2n n b a) (Nat.gcd a.natAbs b.natAbs : Int) := by
 intro m
 induction m using Nat.strongRecOn with
 | ind m ih =>
   intro b a hm ha hb ha0 hb0
   unfold I64 at ha hb
   rw [ztz]
   by_cases h0 : b = 0
   · subst h0
     simp only [Ev.pif, Ev.zz0, decide_eq_true_eq]
     rw [if_neg (by simp)]
     split
     · rw [wI (by omega)]; simp; omega
     · simp; omega
   · have hr : rem .i64 a b = some (a.tmod b) := by unfold rem; rw [if_neg h0]
     have h1 : (a.tmod b).natAbs < b.natAbs := by rw [Int.natAbs_tmod]; exact Nat.mod_lt _ (by omega)
     rw [Ev.kz1 (by simpa using h0), Ev.kz2 hr]
     have := ih _ (by rw [← hm]; exact h1) (a.tmod b) b rfl hb (by unfold I64; omega) hb0 (by omega)
     rw [yt9 a b]
     exact this
theorem yga {a b : Int} (ha : I64 a) (hb : I64 b) (ha0 : ¬ a = -9223372036854775808) (hb0 : ¬ b = -9223372036854775808) : Ev (fun n => z9g n a b) (Nat.gcd a.natAbs b.natAbs : Int) := by
 rw [y1x]; exact ycq _ b a rfl ha hb ha0 hb0
theorem yit {r : yz6} : Ev (fun n => zb2 n r) (if rok r then 0 else 8) := by
 have l0 : ∀ b, Ev (fun n => z09 n b) (if b then 8 else 0) := fun b => by
  rw [zx5]; cases b <;> simp [Ev.pif, Ev.zz0]
 rw [y6t]
 simp only [Ev.pif, decide_eq_true_eq]
 split
 ·refine (l0 _).to ?_; rw [if_pos rfl, if_neg]; rw [zjv]; omega
 split
 ·refine (l0 _).to ?_; rw [if_pos rfl, if_neg]; rw [zjv]; omega
 split
 ·refine (l0 _).to ?_; rw [if_pos rfl, if_neg]; rw [zjv]; omega
 split
 ·refine (l0 _).to ?_; rw [if_pos rfl, if_neg]; rw [zjv]; omega
 rw [Ev.kz0 (yga (by unfold I64; omega) (by unfold I64; omega) (by omega) (by omega))]
 refine (l0 _).to ?_
 have : ((((Nat.gcd r.num.natAbs r.den.natAbs : Nat) : Int) != 1) = true) ↔ ¬ rok r = true := by
  rw [zjv]
  simp only [bne_iff_ne, ne_eq]
  omega
 by_cases hr : rok r = true
 ·rw [if_neg (by rw [this]; simpa using hr), if_pos hr]
 ·rw [if_pos (by rw [this]; exact hr), if_neg hr]
end Go.Proofs.YtflgdagdibabiaaGreat


namespace Go.Proofs.YtflgdagdibabiaaGreat
open Go Go.Ab
set_option linter.unusedVariables false
set_option linter.unusedSimpArgs false
def wfR (r : yz6) : Prop := I64 r.num ∧ I64 r.den
def fdiv (a b : yz6) : Int × Int := (a.num * b.den, a.den * b.num)
end Go.Proofs.YtflgdagdibabiaaGreat


namespace Go.Proofs.YtflgdagdibabiaaGreat
open Go Go.Ab
set_option linter.unusedVariables false
set_option linter.unusedSimpArgs false
theorem y6c {P : yz1 → Prop} (h : ∀ v : yz1, (∀ x, x ∈ v.list → P x) → P v) (v : yz1) : P v := h v fun x hx => y6c h x
termination_by v
decreasing_by exact yz1.zvj hx
mutual
def zeo : yz1 → Nat
 | ⟨k, _, _, _, l⟩ => if k = 4 then 1 + z7c l else 1
def z7c : List yz1 → Nat
 | [] => 0
 | x :: l => zeo x + z7c l
end
mutual
def zga : yz1 → Nat
 | ⟨k, _, _, _, l⟩ => if k = 4 then max 1 (zjn l) else 1
def zjn : List yz1 → Nat
 | [] => 0
 | x :: l => max (1 + zga x) (zjn l)
end
theorem zp6 (v : yz1) : zeo v = if v.kind = 4 then 1 + z7c v.list else 1 := by cases v; rw [zeo]
theorem zw9 (v : yz1) : zga v = if v.kind = 4 then max 1 (zjn v.list) else 1 := by cases v; rw [zga]
theorem ys2 {l : List yz1} {x : yz1} (h : x ∈ l) : x.size ≤ (l.map yz1.size).sum := by
 induction l with
 | nil => cases h
 | cons y l ih =>
   rcases List.mem_cons.1 h with rfl | h
   · simp
   · have := ih h; simp; omega
theorem zb1 (v : yz1) : (v.list.map yz1.size).sum + v.str.length + 4 ≤ v.size := by rw [yz1.size_eq]; omega
theorem znc {v x : yz1} (h : x ∈ v.list) : x.size ≤ v.size := by have := ys2 h; have := zb1 v; omega
theorem zj2 (l : List yz1) : l.length ≤ (l.map yz1.size).sum := by
 induction l with
 | nil => simp
 | cons x l ih => have := zb1 x; simp; omega
theorem zsd : ∀ v : yz1, zeo v ≤ v.size := y6c fun v ih => by
 have : ∀ l : List yz1, (∀ x, x ∈ l → x ∈ v.list) → z7c l ≤ (l.map yz1.size).sum := fun l => by
  induction l with
  | nil => intro _; simp [z7c]
  | cons x l ihl =>
    intro hl
    have := ih x (hl x List.mem_cons_self)
    have := ihl fun y hy => hl y (List.mem_cons_of_mem _ hy)
    simp [z7c]; omega
 have := this v.list fun _ h => h
 have := zb1 v
 rw [zp6]; split <;> omega
theorem yln : ∀ v : yz1, zga v ≤ zeo v := y6c fun v ih => by
 have : ∀ l : List yz1, (∀ x, x ∈ l → x ∈ v.list) → zjn l ≤ 1 + z7c l := fun l => by
  induction l with
  | nil => intro _; simp [z7c, zjn]
  | cons x l ihl =>
    intro hl
    have := ih x (hl x List.mem_cons_self)
    have := ihl fun y hy => hl y (List.mem_cons_of_mem _ hy)
    simp [z7c, zjn]; omega
 have := this v.list fun _ h => h
 rw [zp6, zw9]; split <;> omega
theorem y7g (l : List yz1) : z7c l ≤ (l.map yz1.size).sum := by
 induction l with
 | nil => simp [z7c]
 | cons x l ih => have := zsd x; simp [z7c]; omega
theorem yco : ∀ v : yz1, v.size ≤ 8388608 → Ev (fun n => z6e n v) ((zeo v : Int), (zga v : Int)) := y6c fun v ih hs => by
 have l1 : ∀ d p, Ev (fun n => z1u n d p) (p, d) := fun d p => by rw [zsv, Ev.zz0]
 have hsl := zb1 v
 have hlen := zj2 v.list
 have loop : ∀ k, k ≤ v.list.length → ∀ d p : Nat, p + z7c (v.list.drop k) ≤ 8388609 → d ≤ 8388609 → Ev (fun n => z1w n (k : Int) (d : Int) (p : Int) v.list (v.list.length : Int)) (((p + z7c (v.list.drop k) : Nat) : Int), ((max d (zjn (v.list.drop k)) : Nat) : Int)) :=
  down (fun d p hp hd => by
   rw [zjp, Ev.zz2 (by simp)]
   refine (l1 _ _).to ?_
   simp [z7c, zjn]) fun k hk ihk d p hp hd => by
   have hx := List.getElem_mem hk
   have hsx := znc hx
   rw [← List.getElem_cons_drop (h := hk)] at hp ⊢
   simp only [z7c, zjn] at hp ⊢
   have hpl := zsd v.list[k]
   have hdl := yln v.list[k]
   rw [zjp, Ev.kz1 (by simpa using hk), Ev.kz2 (kz5 hk), yz1.yz4, Ev.kz0 (ih _ hx (by omega)), wI (x := _ + 1) (by omega), wI (x := (zga _ : Int) + 1) (by omega), wI (x := (p : Int) + _) (by omega)]
   have e1 : (k : Int) + 1 = ((k + 1 : Nat) : Int) := by omega
   have e2 : (zga v.list[k] : Int) + 1 = ((1 + zga v.list[k] : Nat) : Int) := by omega
   have e3 : (p : Int) + (zeo v.list[k] : Int) = ((p + zeo v.list[k] : Nat) : Int) := by omega
   rw [e1, e2, e3, y2t]
   refine (ihk (max d (1 + zga v.list[k])) (p + zeo v.list[k]) (by omega) (by omega)).to ?_
   congr 2 <;> omega
 rw [zy8]
 by_cases hk : v.kind = 4
 ·rw [Ev.kz1 (by simpa using hk)]
  have hv := y7g v.list
  have := loop 0 (Nat.zero_le _) 1 1 (by simp; omega) (by omega)
  refine this.to ?_
  rw [zp6, zw9, if_pos hk, if_pos hk, List.drop_zero]
 ·rw [Ev.zz2 (by simpa using hk)]
  refine (l1 1 1).to ?_
  rw [zp6, zw9, if_neg hk, if_neg hk]; rfl
theorem y0t : ∀ v : yz1, v.size ≤ 8388608 → Ev (fun n => z6x n v) (zeo v : Int) := y6c fun v ih hs => by
 have hsl := zb1 v
 have hlen := zj2 v.list
 rw [y7n, yz1.yz4, zp6]
 by_cases hk : v.kind = 4
 ·rw [if_pos hk]
  have hkk : (v.kind == 4) = true := by simpa using hk
  have loop : ∀ k, k ≤ v.list.length → ∀ p : Nat, p + z7c (v.list.drop k) ≤ 8388609 → Ev (fun n => z3w n (k : Int) (p : Int) v) ((p + z7c (v.list.drop k) : Nat) : Int) :=
   down (fun p hp => by
    rw [zh4, Ev.zz2 (by simp), zgs, Ev.zz2 (by rfl), Ev.zz0]
    simp [z7c]) fun k hk ihk p hp => by
    have hx := List.getElem_mem hk
    have hsx := znc hx
    rw [← List.getElem_cons_drop (h := hk)] at hp ⊢
    simp only [z7c] at hp ⊢
    have hpl := zsd v.list[k]
    rw [zh4, Ev.kz1 (by simpa using hk), hkk, yz1.yz4, zgs, Ev.kz1 (by rfl), Ev.kz2 (kz5 hk), yz1.yz4, Ev.kz0 (ih _ hx (by omega)), wI (x := _ + 1) (by omega), wI (x := (p : Int) + _) (by omega)]
    have e1 : (k : Int) + 1 = ((k + 1 : Nat) : Int) := by omega
    have e3 : (p : Int) + (zeo v.list[k] : Int) = ((p + zeo v.list[k] : Nat) : Int) := by omega
    rw [e1, e3, yz1.yz4]
    refine (ihk (p + zeo v.list[k]) (by omega)).to ?_
    congr 1; omega
  have hv := y7g v.list
  exact loop 0 (Nat.zero_le _) 1 (by simp; omega)
 ·rw [if_neg hk]
  have hkk : (v.kind == 4) = false := by simpa using hk
  have l1 : Ev (fun n => z4l n 0 1 false v) 1 := by rw [zgs, Ev.zz2 (by rfl), Ev.zz0]
  rw [zh4, hkk, yz1.yz4, Ev.pif]
  split <;> exact l1
theorem ymi : ∀ v : yz1, v.size ≤ 8388608 → Ev (fun n => zae n v) (zga v : Int) := y6c fun v ih hs => by
 have hsl := zb1 v
 have hlen := zj2 v.list
 rw [ybe, yz1.yz4, zw9]
 by_cases hk : v.kind = 4
 ·rw [if_pos hk]
  have hkk : (v.kind == 4) = true := by simpa using hk
  have loop : ∀ k, k ≤ v.list.length → ∀ p : Nat, p ≤ 8388609 → Ev (fun n => z5i n (k : Int) (p : Int) v) ((max p (zjn (v.list.drop k)) : Nat) : Int) :=
   down (fun p hp => by
    rw [zif, Ev.zz2 (by simp), zii, Ev.zz2 (by rfl), Ev.zz0]
    simp [zjn]) fun k hk ihk p hp => by
    have hx := List.getElem_mem hk
    have hsx := znc hx
    rw [← List.getElem_cons_drop (h := hk)]
    simp only [zjn]
    have hpl := zsd v.list[k]
    have hdl := yln v.list[k]
    rw [zif, Ev.kz1 (by simpa using hk), hkk, yz1.yz4, zii, Ev.kz1 (by rfl), Ev.kz2 (kz5 hk), yz1.yz4, Ev.kz0 (ih _ hx (by omega)), wI (x := _ + 1) (by omega), wI (x := 1 + _) (by omega)]
    have e1 : (k : Int) + 1 = ((k + 1 : Nat) : Int) := by omega
    have e3 : 1 + (zga v.list[k] : Int) = ((1 + zga v.list[k] : Nat) : Int) := by omega
    rw [e1, e3, yz1.yz4, y2t]
    refine (ihk (max p (1 + zga v.list[k])) (by omega)).to ?_
    congr 1; omega
  exact loop 0 (Nat.zero_le _) 1 (by omega)
 ·rw [if_neg hk]
  have hkk : (v.kind == 4) = false := by simpa using hk
  have l1 : Ev (fun n => z6a n 0 1 false v) 1 := by rw [zii, Ev.zz2 (by rfl), Ev.zz0]
  rw [zif, hkk, yz1.yz4, Ev.pif]
  split <;> exact l1
end Go.Proofs.YtflgdagdibabiaaGreat


namespace Go.Proofs.YtflgdagdibabiaaGreat
open Go Go.Ab
set_option linter.unusedVariables false
set_option linter.unusedSimpArgs false
def v0 : yz1 := ⟨0, ⟨0, 0⟩, false, [], []⟩
def zqo (c : UInt8) : Bool := decide (32 ≤ c.toNat) && decide (c.toNat ≤ 126)
def nul (v : yz6) : Bool := v.num == 0 && v.den == 0
mutual
def zqm : yz1 → Bool
 | ⟨k, q, t, s, l⟩ =>
   if k = 1 then rok q && (!t && (s.isEmpty && l.isEmpty))
   else if k = 2 then nul q && (s.isEmpty && l.isEmpty)
   else if k = 3 then nul q && (!t && (l.isEmpty && (decide (s.length ≤ 60) && s.all zqo)))
   else if k = 4 then nul q && (!t && (s.isEmpty && zkl l))
   else false
def zkl : List yz1 → Bool
 | [] => true
 | x :: l => zqm x && zkl l
end
theorem yk1 (v : yz1) : zqm v =
  if v.kind = 1 then rok v.num && (!v.truth && (v.str.isEmpty && v.list.isEmpty))
  else if v.kind = 2 then nul v.num && (v.str.isEmpty && v.list.isEmpty)
  else if v.kind = 3 then nul v.num && (!v.truth && (v.list.isEmpty && (decide (v.str.length ≤ 60) && v.str.all zqo)))
  else if v.kind = 4 then nul v.num && (!v.truth && (v.str.isEmpty && zkl v.list))
  else false := by cases v; rw [zqm]
def ztx (v : yz1) : Int := if 100 < zeo v ∨ 6 < zga v then 4 else if zqm v then 0 else 8
theorem yuw {v : yz1} (h : v.wf) : wfR v.num := by
 rw [yz1.z3m] at h
 have := h.2.1
 rw [yz6.z3m] at this
 simpa [wfR, I64, IntKind.min, IntKind.max, IntKind.signed, IntKind.bits] using this
theorem ytr {v : yz1} (h : v.wf) : ∀ x ∈ v.list, x.wf := by
 rw [yz1.z3m] at h; exact h.2.2.2.2
theorem zir {v : yz1} : Ev (fun n => z1s n v) (nul v.num && (!v.truth && (v.str.isEmpty && v.list.isEmpty))) := by
 rw [zxv]
 obtain ⟨k, ⟨p, q⟩, t, s, l⟩ := v
 simp only [Ev.pif, Ev.zz0, nul, Bool.and_true]
 cases p == 0 <;> cases q == 0 <;> cases t <;> cases s <;> cases l <;> simp <;> omega
theorem ymc : ∀ v : yz1, v.wf → v.size ≤ 8388608 → Ev (fun n => za7 n v) (zqm v) := y6c fun v ih hw hs => by
 have hsl := zb1 v
 have hlen := zj2 v.list
 rw [y95, yk1]
 by_cases h1 : v.kind = 1
 ·rw [if_pos h1, Ev.kz1 (by simpa using h1), Ev.kz0 (ykr (yuw hw).1)]
  cases hr : rok v.num
  ·rw [Ev.kz1 (by rfl), Ev.zz0]; rfl
  ·rw [Ev.zz2 (by rfl)]
   exact zir
 rw [if_neg h1, Ev.zz2 (by simpa using h1)]
 by_cases h2 : v.kind = 2
 ·rw [if_pos h2, Ev.kz1 (by simpa using h2)]
  exact zir
 rw [if_neg h2, Ev.zz2 (by simpa using h2)]
 by_cases h3 : v.kind = 3
 ·rw [if_pos h3, Ev.kz1 (by simpa using h3)]
  by_cases hl : v.str.length ≤ 60
  ·rw [Ev.zz2 (by simp; omega), yz1.yz4]
   have loop : ∀ w : yz1, ∀ k, k ≤ v.str.length → Ev (fun n => z61 n (k : Int) v w) ((v.str.drop k).all zqo && (nul w.num && (!w.truth && (w.str.isEmpty && w.list.isEmpty)))) := fun w =>
    down (by
     rw [zo9, Ev.zz2 (by simp), yz1.yz4]
     simpa using zir) fun k hk ihk => by
     have bad : Ev (fun n => z6k n (k : Int) true v w) false := by rw [zp1, Ev.kz1 (by rfl), Ev.zz0]
     rw [← List.getElem_cons_drop (h := hk), List.all_cons]
     rw [zo9, Ev.kz1 (by simpa using hk), Ev.kz2 (kz5 hk), yz1.yz4, yz1.yz4]
     by_cases c1 : v.str[k].toNat < 32
     ·rw [Ev.kz1 (by simp; omega)]
      refine bad.to ?_
      have : zqo v.str[k] = false := by simp [zqo]; omega
      rw [this]; rfl
     ·rw [Ev.zz2 (by simp; omega), Ev.kz2 (kz5 hk)]
      by_cases c2 : v.str[k].toNat > 126
      ·rw [show decide ((v.str[k].toNat : Int) > 126) = true by simp; omega]
       refine bad.to ?_
       have : zqo v.str[k] = false := by simp [zqo]; omega
       rw [this]; rfl
      ·rw [show decide ((v.str[k].toNat : Int) > 126) = false by simp; omega, zp1, Ev.zz2 (by rfl), wrk (by omega), yz1.yz4, yz1.yz4]
       have : zqo v.str[k] = true := by simp [zqo]; omega
       rw [this, Bool.true_and]
       exact ihk
   refine (loop ⟨v.kind, v.num, v.truth, [], v.list⟩ 0 (Nat.zero_le _)).to ?_
   simp only [List.drop_zero, hl, decide_true, Bool.true_and, List.isEmpty_nil]
   cases nul v.num <;> cases v.truth <;> cases v.list.isEmpty <;> cases v.str.all zqo <;> rfl
  ·rw [Ev.kz1 (by simp; omega), Ev.zz0]
   simp [hl]
 rw [if_neg h3, Ev.zz2 (by simpa using h3)]
 by_cases h4 : v.kind = 4
 ·rw [if_pos h4, Ev.kz1 (by simpa using h4)]
  have loop : ∀ w : yz1, ∀ k, k ≤ v.list.length → Ev (fun n => z64 n (k : Int) v.list (v.list.length : Int) w) (zkl (v.list.drop k) && (nul w.num && (!w.truth && (w.str.isEmpty && w.list.isEmpty)))) := fun w =>
   down (by
    rw [zo5, Ev.zz2 (by simp), yz1.yz4]
    simpa [zkl] using zir) fun k hk ihk => by
    have hx := List.getElem_mem hk
    have hsx := znc hx
    rw [← List.getElem_cons_drop (h := hk), zkl]
    rw [zo5, Ev.kz1 (by simpa using hk), Ev.kz2 (kz5 hk), yz1.yz4, Ev.kz0 (ih _ hx (ytr hw _ hx) (by omega))]
    cases hf : zqm v.list[k]
    ·rw [Ev.kz1 (by rfl), Ev.zz0]; rfl
    ·rw [Ev.zz2 (by rfl), wrk (by omega), yz1.yz4, Bool.true_and]
     exact ihk
  refine (loop ⟨v.kind, v.num, v.truth, v.str, []⟩ 0 (Nat.zero_le _)).to ?_
  simp only [List.drop_zero, List.isEmpty_nil, Bool.and_true]
  cases nul v.num <;> cases v.truth <;> cases v.str.isEmpty <;> cases zkl v.list <;> rfl
 ·rw [if_neg h4, Ev.zz2 (by simpa using h4), Ev.zz0]
theorem yiw {v : yz1} (hw : v.wf) (hs : v.size ≤ 8388608) : Ev (fun n => zbb n v) (ztx v) := by
 have l0 : ∀ b, Ev (fun n => z4s n b v) (if b then 4 else if zqm v then 0 else 8) := fun b => by
  rw [zws]
  cases b
  ·rw [Ev.zz2 (by rfl), yz1.yz4, Ev.kz0 (ymc v hw hs)]
   cases zqm v
   ·rw [Ev.kz1 (by rfl), Ev.zz0]; rfl
   ·rw [Ev.zz2 (by rfl), Ev.zz0]; rfl
  ·rw [Ev.kz1 (by rfl), Ev.zz0]; rfl
 rw [y5u, yz1.yz4, Ev.kz0 (yco v hs)]
 unfold ztx
 simp only [Ev.pif]
 by_cases h1 : 100 < zeo v
 ·rw [if_pos (by simp; omega), if_pos (.inl h1)]; exact l0 true
 ·rw [if_neg (by simp; omega)]
  by_cases h2 : 6 < zga v
  ·rw [if_pos (.inr h2), show decide ((zga v : Int) > 6) = true by simp; omega]; exact l0 true
  ·rw [if_neg (by omega), show decide ((zga v : Int) > 6) = false by simp; omega]; exact l0 false
theorem ynf : ∀ v : yz1, v.size ≤ 8388608 → Ev (fun n => za4 n v) (zqm v) := y6c fun v ih hs => by
 have hsl := zb1 v
 have hlen := zj2 v.list
 rw [yaq, yk1]
 have hnul : ((v.num.num == 0) && ((v.num.den == 0) && true)) = nul v.num := by simp [nul]
 have hstr : ((v.str.length : Int) == 0) = v.str.isEmpty := by cases v.str <;> simp; omega
 have hlst : ((v.list.length : Int) == 0) = v.list.isEmpty := by cases v.list <;> simp; omega
 have hgt : decide ((v.list.length : Int) > 0) = !v.list.isEmpty := by cases v.list <;> simp
 have hgs : decide ((v.str.length : Int) > 0) = !v.str.isEmpty := by cases v.str <;> simp
 simp only [hnul, hstr, hlst, hgt, hgs]
 by_cases h1 : v.kind = 1
 ·rw [if_pos h1, Ev.kz1 (by simpa using h1), Ev.kz0 yit]
  cases hr : rok v.num <;> cases ht : v.truth <;> cases hss : v.str.isEmpty <;> simp [Ev.pif, Ev.zz0]
 rw [if_neg h1, Ev.zz2 (by simpa using h1)]
 by_cases h2 : v.kind = 2
 ·rw [if_pos h2, Ev.kz1 (by simpa using h2)]
  cases hr : nul v.num <;> cases hss : v.str.isEmpty <;> simp [Ev.pif, Ev.zz0]
 rw [if_neg h2, Ev.zz2 (by simpa using h2)]
 by_cases h3 : v.kind = 3
 ·rw [if_pos h3, Ev.kz1 (by simpa using h3)]
  have bad : Ev (fun n => z0o n true v) false := by rw [znu, Ev.kz1 (by rfl), Ev.zz0]
  have loop : ∀ k, k ≤ v.str.length → Ev (fun n => z6i n (k : Int) v) ((v.str.drop k).all zqo) :=
   down (by
    rw [zpm, Ev.zz2 (by simp), Ev.zz0]
    simp) fun k hk ihk => by
    have bad : Ev (fun n => z5f n (k : Int) true v) false := by rw [zoe, Ev.kz1 (by rfl), Ev.zz0]
    rw [← List.getElem_cons_drop (h := hk), List.all_cons]
    rw [zpm, Ev.kz1 (by simpa using hk), Ev.kz2 (kz5 hk), yz1.yz4]
    by_cases c1 : v.str[k].toNat < 32
    ·rw [Ev.kz1 (by simp; omega)]
     refine bad.to ?_
     have : zqo v.str[k] = false := by simp [zqo]; omega
     rw [this]; rfl
    ·rw [Ev.zz2 (by simp; omega), Ev.kz2 (kz5 hk)]
     by_cases c2 : v.str[k].toNat > 126
     ·rw [show decide ((v.str[k].toNat : Int) > 126) = true by simp; omega]
      refine bad.to ?_
      have : zqo v.str[k] = false := by simp [zqo]; omega
      rw [this]; rfl
     ·rw [show decide ((v.str[k].toNat : Int) > 126) = false by simp; omega, zoe, Ev.zz2 (by rfl), wrk (by omega), yz1.yz4]
      have : zqo v.str[k] = true := by simp [zqo]; omega
      rw [this, Bool.true_and]
      exact ihk
  have good : Ev (fun n => z0o n false v) (v.str.all zqo) := by
   rw [znu, Ev.zz2 (by rfl), yz1.yz4]; simpa using loop 0 (Nat.zero_le _)
  rw [yz1.yz4]
  cases hr : nul v.num
  ·rw [Ev.kz1 (by rfl)]; exact bad
  rw [Ev.zz2 (by rfl)]
  cases ht : v.truth
  ·rw [Ev.zz2 (by rfl)]
   cases hl : v.list.isEmpty
   ·rw [Ev.kz1 (by rfl)]; exact bad
   ·rw [Ev.zz2 (by rfl)]
    by_cases h60 : v.str.length ≤ 60
    ·rw [show decide ((v.str.length : Int) > 60) = false by simp; omega]
     simpa [h60] using good
    ·rw [show decide ((v.str.length : Int) > 60) = true by simp; omega]
     simpa [h60] using bad
  ·rw [Ev.kz1 (by rfl)]; exact bad
 rw [if_neg h3, Ev.zz2 (by simpa using h3)]
 by_cases h4 : v.kind = 4
 ·rw [if_pos h4, Ev.kz1 (by simpa using h4)]
  have bad : Ev (fun n => z1r n true v) false := by rw [zph, Ev.kz1 (by rfl), Ev.zz0]
  have loop : ∀ k, k ≤ v.list.length → Ev (fun n => z5s n (k : Int) v) (zkl (v.list.drop k)) :=
   down (by
    rw [zoy, Ev.zz2 (by simp), Ev.zz0]
    simp [zkl]) fun k hk ihk => by
    have hx := List.getElem_mem hk
    have hsx := znc hx
    rw [← List.getElem_cons_drop (h := hk), zkl]
    rw [zoy, Ev.kz1 (by simpa using hk), Ev.kz2 (kz5 hk), yz1.yz4, Ev.kz0 (ih _ hx (by omega))]
    cases hf : zqm v.list[k]
    ·rw [Ev.kz1 (by rfl), Ev.zz0]; rfl
    ·rw [Ev.zz2 (by rfl), wrk (by omega), yz1.yz4, Bool.true_and]
     exact ihk
  have good : Ev (fun n => z1r n false v) (zkl v.list) := by
   rw [zph, Ev.zz2 (by rfl), yz1.yz4]; simpa using loop 0 (Nat.zero_le _)
  rw [yz1.yz4]
  cases hr : nul v.num
  ·rw [Ev.kz1 (by rfl)]; exact bad
  rw [Ev.zz2 (by rfl)]
  cases ht : v.truth
  ·rw [Ev.zz2 (by rfl)]
   cases hl : v.str.isEmpty
   ·exact bad
   ·simpa using good
  ·rw [Ev.kz1 (by rfl)]; exact bad
 ·rw [if_neg h4, Ev.zz2 (by simpa using h4), Ev.zz0]
theorem yky {v : yz1} (hs : v.size ≤ 8388608) : Ev (fun n => zbf n v) (ztx v) := by
 have l0 : ∀ b, Ev (fun n => z4e n b v) (if b then 4 else if zqm v then 0 else 8) := fun b => by
  rw [zx9]
  cases b
  ·rw [Ev.zz2 (by rfl), yz1.yz4, Ev.kz0 (ynf v hs)]
   cases zqm v
   ·rw [Ev.kz1 (by rfl), Ev.zz0]; rfl
   ·rw [Ev.zz2 (by rfl), Ev.zz0]; rfl
  ·rw [Ev.kz1 (by rfl), Ev.zz0]; rfl
 rw [y6f, yz1.yz4, Ev.kz0 (y0t v hs)]
 unfold ztx
 by_cases h1 : 100 < zeo v
 ·rw [Ev.kz1 (by simp; omega), if_pos (.inl h1)]; exact l0 true
 ·rw [Ev.zz2 (by simp; omega), Ev.kz0 (ymi v hs)]
  by_cases h2 : 6 < zga v
  ·rw [if_pos (.inr h2), show decide ((zga v : Int) > 6) = true by simp; omega]; exact l0 true
  ·rw [if_neg (by omega), show decide ((zga v : Int) > 6) = false by simp; omega]; exact l0 false
end Go.Proofs.YtflgdagdibabiaaGreat


namespace Go.Proofs.YtflgdagdibabiaaGreat
open Go Go.Ab
set_option linter.unusedVariables false
set_option linter.unusedSimpArgs false
theorem vext {a b : yz1} (h1 : a.kind = b.kind) (h2 : a.num.num = b.num.num) (h3 : a.num.den = b.num.den) (h4 : a.truth = b.truth) (h5 : a.str = b.str) (h6 : a.list = b.list) : a = b := by
 obtain ⟨k, ⟨p, q⟩, t, s, l⟩ := a
 obtain ⟨k', ⟨p', q'⟩, t', s', l'⟩ := b
 simp_all
theorem yks {α : Type} {x y : α} {l m : List α} : eqB (x :: l) (y :: m) = (eqB x y && eqB l m) := by
 cases h : (eqB x y && eqB l m)
 ·rw [yzm]; intro hh; injection hh with h1 h2
  rw [Bool.and_eq_false_iff, yzm, yzm] at h
  exact h.elim (fun h => h h1) (fun h => h h2)
 ·rw [z8d]
  rw [Bool.and_eq_true, z8d, z8d] at h
  rw [h.1, h.2]
theorem y4z : ∀ a b : yz1, a.size ≤ 8388608 → Ev (fun n => z2i n a b) (eqB a b) := y6c (P := fun a => ∀ b : yz1, a.size ≤ 8388608 → Ev (fun n => z2i n a b) (eqB a b)) fun a ih b hs => by
 have hsl := zb1 a
 have hlen := zj2 a.list
 have bad : a ≠ b → Ev (fun n => z0v n true b a) (eqB a b) := fun h => by rw [zoo, Ev.kz1 (by rfl), Ev.zz0, yzm.2 h]
 rw [yby, yz1.yz4, yz1.yz4]
 by_cases h1 : a.kind = b.kind
 case neg => rw [Ev.kz1 (by simpa using h1)]; exact bad fun h => h1 (by rw [h])
 rw [Ev.zz2 (by simpa using h1)]
 by_cases h2 : a.num.num = b.num.num ∧ a.num.den = b.num.den
 case neg => rw [Ev.kz1 (by simp; omega)]; exact bad fun h => h2 (by rw [h]; exact ⟨rfl, rfl⟩)
 rw [Ev.zz2 (by simp [h2])]
 by_cases h3 : a.truth = b.truth
 case neg => rw [Ev.kz1 (by simpa using h3)]; exact bad fun h => h3 (by rw [h])
 rw [Ev.zz2 (by simp [h3])]
 by_cases h4 : a.str = b.str
 case neg => rw [Ev.kz1 (by simpa using h4)]; exact bad fun h => h4 (by rw [h])
 rw [Ev.zz2 (by simp [h4])]
 by_cases h5 : a.list.length = b.list.length
 case neg => rw [show ((a.list.length : Int) != (b.list.length : Int)) = true by simp; omega]; exact bad fun h => h5 (by rw [h])
 rw [show ((a.list.length : Int) != (b.list.length : Int)) = false by simp; omega, zoo, Ev.zz2 (by rfl), yz1.yz4, yz1.yz4]
 have loop : ∀ k, k ≤ a.list.length → Ev (fun n => z6h n (k : Int) (a.list.length : Int) b a) (eqB (a.list.drop k) (b.list.drop k)) :=
  down (by
   rw [zo1, Ev.zz2 (by simp), Ev.zz0, List.drop_length, h5, List.drop_length, z9w]) fun k hk ihk => by
   have hk2 : k < b.list.length := by omega
   have hx := List.getElem_mem hk
   have hsx := znc hx
   rw [← List.getElem_cons_drop (h := hk), ← List.getElem_cons_drop (h := hk2), yks]
   rw [zo1, Ev.kz1 (by simpa using hk), Ev.kz2 (kz5 hk), Ev.kz2 (kz5 hk2), yz1.yz4, yz1.yz4, Ev.kz0 (ih _ hx _ (by omega))]
   cases hf : eqB a.list[k] b.list[k]
   ·rw [Ev.kz1 (by rfl), Ev.zz0]; rfl
   ·rw [Ev.zz2 (by rfl), wrk (by omega), yz1.yz4, yz1.yz4, Bool.true_and]
    exact ihk
 refine (loop 0 (Nat.zero_le _)).to ?_
 rw [List.drop_zero, List.drop_zero]
 by_cases h6 : a.list = b.list
 ·rw [z8d.2 h6, z8d.2 (vext h1 h2.1 h2.2 h3 h4 h6)]
 ·rw [yzm.2 h6, yzm.2 fun h => h6 (by rw [h])]
theorem y69 : ∀ a b : yz1, a.size ≤ 8388608 → Ev (fun n => z2l n a b) (eqB a b) := y6c (P := fun a => ∀ b : yz1, a.size ≤ 8388608 → Ev (fun n => z2l n a b) (eqB a b)) fun a ih b hs => by
 have hsl := zb1 a
 have hlen := zj2 a.list
 have bad : a ≠ b → Ev (fun n => z0u n true b a) (eqB a b) := fun h => by rw [zny, Ev.kz1 (by rfl), Ev.zz0, yzm.2 h]
 rw [y8r, yz1.yz4, yz1.yz4]
 by_cases h1 : a.kind = b.kind
 case neg => rw [Ev.kz1 (by simpa using h1)]; exact bad fun h => h1 (by rw [h])
 rw [Ev.zz2 (by simpa using h1)]
 by_cases h2 : a.num.num = b.num.num ∧ a.num.den = b.num.den
 case neg => rw [Ev.kz1 (by simp; omega)]; exact bad fun h => h2 (by rw [h]; exact ⟨rfl, rfl⟩)
 rw [Ev.zz2 (by simp [h2])]
 by_cases h3 : a.truth = b.truth
 case neg => rw [Ev.kz1 (by simpa using h3)]; exact bad fun h => h3 (by rw [h])
 rw [Ev.zz2 (by simp [h3])]
 by_cases h4 : a.str = b.str
 case neg => rw [Ev.kz1 (by simpa using h4)]; exact bad fun h => h4 (by rw [h])
 rw [Ev.zz2 (by simp [h4])]
 by_cases h5 : a.list.length = b.list.length
 case neg => rw [show ((a.list.length : Int) != (b.list.length : Int)) = true by simp; omega]; exact bad fun h => h5 (by rw [h])
 rw [show ((a.list.length : Int) != (b.list.length : Int)) = false by simp; omega, zny, Ev.zz2 (by rfl), yz1.yz4, yz1.yz4]
 have loop : ∀ k, k ≤ a.list.length → Ev (fun n => z5h n (k : Int) b a) (eqB (a.list.drop k) (b.list.drop k)) :=
  down (by
   rw [zob, Ev.zz2 (by simp), Ev.zz0, List.drop_length, h5, List.drop_length, z9w]) fun k hk ihk => by
   have hk2 : k < b.list.length := by omega
   have hx := List.getElem_mem hk
   have hsx := znc hx
   rw [← List.getElem_cons_drop (h := hk), ← List.getElem_cons_drop (h := hk2), yks]
   rw [zob, Ev.kz1 (by simpa using hk), Ev.kz2 (kz5 hk), Ev.kz2 (kz5 hk2), yz1.yz4, yz1.yz4, Ev.kz0 (ih _ hx _ (by omega))]
   cases hf : eqB a.list[k] b.list[k]
   ·rw [Ev.kz1 (by rfl), Ev.zz0]; rfl
   ·rw [Ev.zz2 (by rfl), wrk (by omega), yz1.yz4, yz1.yz4, Bool.true_and]
    exact ihk
 refine (loop 0 (Nat.zero_le _)).to ?_
 rw [List.drop_zero, List.drop_zero]
 by_cases h6 : a.list = b.list
 ·rw [z8d.2 h6, z8d.2 (vext h1 h2.1 h2.2 h3 h4 h6)]
 ·rw [yzm.2 h6, yzm.2 fun h => h6 (by rw [h])]
theorem za6 {α : Type} {l : List α} {k : Nat} (h : k < l.length) : l.take k ++ [l[k]] = l.take (k + 1) := by
 rw [List.take_add_one, List.getElem?_eq_getElem h]; rfl
theorem yku : ∀ v : yz1, v.size ≤ 8388608 → ∀ d : Int, ∃ b, Ev (fun n => z9b n v d) b := y6c fun v ih hs d => by
 have hsl := zb1 v
 have hlen := zj2 v.list
 have loop : ∀ k, k ≤ v.list.length → ∀ d : Int, ∃ b, Ev (fun n => z50 n (k : Int) d v) b :=
  down (fun d => ⟨false, by rw [zls, Ev.zz2 (by simp), Ev.zz0]⟩) fun k hk ihk d => by
   have hx := List.getElem_mem hk
   have hsx := znc hx
   obtain ⟨b, hb⟩ := ih _ hx (by omega) (IntKind.i64.wrap (d - 1))
   obtain ⟨c, hc⟩ := ihk d
   refine ⟨if b then true else c, ?_⟩
   rw [zls, Ev.kz1 (by simpa using hk), Ev.kz2 (kz5 hk), yz1.yz4, Ev.kz0 hb, yz1.yz4, wrk (by omega)]
   cases b
   ·rw [Ev.zz2 (by rfl)]; exact hc
   ·rw [Ev.kz1 (by rfl), Ev.zz0]; rfl
 have l0 : ∀ d b, ∃ c, Ev (fun n => z26 n d b v) c := fun d b => by
  cases b
  ·obtain ⟨c, hc⟩ := loop 0 (Nat.zero_le _) d
   exact ⟨c, by rw [zms, Ev.zz2 (by rfl), yz1.yz4]; exact hc⟩
  ·exact ⟨true, by rw [zms, Ev.kz1 (by rfl), Ev.zz0]⟩
 simp only [y4u, yz1.yz4, Ev.pif]
 split
 ·exact l0 _ _
 split
 ·exact l0 _ _
 ·exact l0 _ _
theorem yk7 {v : yz1} (hs : v.size ≤ 8388608) : ∃ b, Ev (fun n => zbe n v) b := by
 obtain ⟨b, hb⟩ := yku v hs 10
 cases b
 ·exact ⟨_, by rw [zri, yz1.yz4, Ev.kz0 hb, Ev.zz2 (by rfl), Ev.kz0 (y0t v hs)]; exact Ev.zz0.2 rfl⟩
 ·exact ⟨true, by rw [zri, yz1.yz4, Ev.kz0 hb, Ev.kz1 (by rfl), Ev.zz0]⟩
end Go.Proofs.YtflgdagdibabiaaGreat


namespace Go.Proofs.YtflgdagdibabiaaGreat
open Go Go.Ab
set_option linter.unusedVariables false
set_option linter.unusedSimpArgs false
end Go.Proofs.YtflgdagdibabiaaGreat


namespace Go.Proofs.YtflgdagdibabiaaGreat
open Go Go.Ab
set_option linter.unusedVariables false
set_option linter.unusedSimpArgs false
theorem y6b {s : List UInt8} (hs : s.length ≤ 8388608) : Ev (fun n => zaa n s) (zje s) := by
 have l3t : ∀ q, Ev (fun n => z06 n true s q) false := fun q => by rw [znr, Ev.kz1 (by rfl), Ev.zz0]
 have step : ∀ k (hk : k < s.length) (r : Bool), ((if k = 0 then isLet s[k] else zfc s[k]) = false → r = false) → ((if k = 0 then isLet s[k] else zfc s[k]) = true → Ev (fun n => z0q n s (k + 1)) r) → Ev (fun n => z0q n s k) r := fun k hk r hf ht => by
  have l3 : ∀ b, (if k = 0 then isLet s[k] else zfc s[k]) = !b → (b = false → (zjy s k).2 = 1) → Ev (fun n => z06 n b s (k + (zjy s k).2)) r := fun b hb h1 => by
   cases b
   ·rw [znr, Ev.zz2 (by rfl), h1 rfl]; exact ht hb
   ·exact (l3t _).to (hf hb).symm
  rw [zo4, Ev.kz1 (by simpa using hk)]
  by_cases hlow : s[k].toNat < 128
  ·have hd := yse hk hlow
   rw [hd] at l3
   rw [hd]
   have l2 : ∀ b, b = isLet s[k] → Ev (fun n => z6g n (s[k].toNat : Int) (k : Int) b s (k + 1)) r := fun b hb => by
    subst hb
    rw [znp]
    cases hl : isLet s[k]
    ·rw [Ev.kz1 (by rfl)]
     by_cases h0 : k = 0
     ·rw [Ev.kz1 (by simpa using h0)]
      exact l3 true (by rw [if_pos h0, hl]; rfl) (by simp)
     ·rw [Ev.zz2 (by simpa using h0)]
      by_cases h45 : s[k].toNat = 45
      ·have : s[k] = 45 := UInt8.toNat_inj.1 (by simpa using h45)
       rw [Ev.zz2 (by simp; omega)]
       exact l3 false (by rw [if_neg h0, zfc, this]; rfl) (fun _ => rfl)
      ·have hne : (s[k] == 45) = false := by
        simp only [beq_eq_false_iff_ne]; intro h; rw [h] at h45; exact h45 rfl
       rw [Ev.kz1 (by simp; omega)]
       by_cases c1 : s[k].toNat < 48
       ·rw [Ev.kz1 (by simp; omega)]
        refine l3 true ?_ (by simp)
        rw [if_neg h0, zfc, hl, hne, ydx]; simp; omega
       ·rw [Ev.zz2 (by simp; omega)]
        refine l3 _ ?_ (fun _ => rfl)
        rw [if_neg h0, zfc, hl, hne, ydx]
        have e1 : decide (48 ≤ s[k].toNat) = true := by rw [decide_eq_true_eq]; omega
        have e3 : decide ((s[k].toNat : Int) > 57) = !decide (s[k].toNat ≤ 57) := by
         by_cases c2 : s[k].toNat ≤ 57
         ·rw [show decide (s[k].toNat ≤ 57) = true by rw [decide_eq_true_eq]; exact c2]
          simp only [Bool.not_true, decide_eq_false_iff_not]; omega
         ·rw [show decide (s[k].toNat ≤ 57) = false by rw [decide_eq_false_iff_not]; exact c2]
          simp only [Bool.not_false, decide_eq_true_eq]; omega
        rw [e1, e3]; simp
    ·rw [Ev.zz2 (by rfl)]
     refine l3 false ?_ (fun _ => rfl)
     split
     ·exact hl
     ·rw [zfc, hl]; rfl
   simp only
   by_cases c1 : 97 ≤ s[k].toNat
   ·rw [Ev.kz1 (by simp; omega)]
    exact l2 _ (by simp [isLet, c1]; omega)
   ·rw [Ev.zz2 (by simp; omega)]
    exact l2 _ (by simp [isLet]; omega)
  ·obtain ⟨h1, h2⟩ := yp7 hk (by omega)
   have nl : isLet s[k] = false := by simp [isLet]; omega
   have nm : zfc s[k] = false := by
    rw [zfc, nl, ydx]
    have : (s[k] == 45) = false := by simp only [beq_eq_false_iff_ne]; intro h; rw [h] at hlow; exact hlow (by decide)
    rw [this]; simp; omega
   have bad : (if k = 0 then isLet s[k] else zfc s[k]) = false := by split <;> assumption
   rw [Ev.kz1 (by simp; omega), show decide (((zjy s k).1 : Int) ≤ 122) = false by simp; omega, znp, Ev.kz1 (by rfl)]
   by_cases h0 : k = 0
   ·rw [Ev.kz1 (by simpa using h0)]; exact (l3t _).to (hf bad).symm
   ·rw [Ev.zz2 (by simpa using h0), Ev.kz1 (by simp; omega), Ev.zz2 (by simp; omega), show decide (((zjy s k).1 : Int) > 57) = true by simp; omega]
    exact (l3t _).to (hf bad).symm
 have rest : ∀ k, k ≤ s.length → 1 ≤ k → Ev (fun n => z0q n s k) ((s.drop k).all zfc) :=
  down (Q := fun k => 1 ≤ k → Ev (fun n => z0q n s k) ((s.drop k).all zfc)) (fun _ => by
   rw [zo4, Ev.zz2 (by simp), Ev.zz0]; simp) fun k hk ih h1 => by
   rw [← List.getElem_cons_drop (h := hk), List.all_cons]
   refine step k hk _ (fun h => ?_) fun h => ?_
   ·rw [if_neg (by omega)] at h; rw [h]; rfl
   ·rw [if_neg (by omega)] at h; rw [h]; exact ih (by omega)
 rw [yac]
 cases s with
 | nil => rw [Ev.kz1 (by rfl), zol, Ev.kz1 (by rfl), Ev.zz0]; rfl
 | cons c t =>
   rw [Ev.zz2 (by simp; omega), zol]
   by_cases h40 : (c :: t).length ≤ 40
   · rw [Ev.zz2 (by simp at h40 ⊢; omega)]
     refine step 0 (by simp) _ (fun h => ?_) fun h => ?_
     · rw [if_pos rfl] at h; simp only [List.getElem_cons_zero] at h; simp [zje, h]
     · rw [if_pos rfl] at h; simp only [List.getElem_cons_zero] at h
       refine (rest 1 (by simp) (Nat.le_refl _)).to ?_
       simp [zje, h]; intro _; simpa using h40
   · rw [Ev.kz1 (by simp at h40 ⊢; omega), Ev.zz0]
     simp [zje]; intro _ _; simpa using h40
theorem yfl {c : UInt8} : Ev (fun n => z9f n (c.toNat : Int)) (isLet c) := by
 rw [y1k]
 simp only [Ev.pif, Ev.zz0, isLet, decide_eq_true_eq]
 split
 ·have : 97 ≤ c.toNat := by omega
  simp [this]; omega
 ·have : ¬ 97 ≤ c.toNat := by omega
  simp [this]
theorem ykg {c : UInt8} : Ev (fun n => zb4 n (c.toNat : Int)) (ydx c) := by
 rw [y5g]
 simp only [Ev.pif, Ev.zz0, ydx, decide_eq_true_eq]
 split
 ·have : 48 ≤ c.toNat := by omega
  simp [this]; omega
 ·have : ¬ 48 ≤ c.toNat := by omega
  simp [this]
theorem yup {c : UInt8} : (((c.toNat : Nat) : Int) != 45) = !(c == 45) := by
 cases h : c == 45 with
 | true => have : c = 45 := by simpa using h
           subst this; rfl
 | false =>
   have : c.toNat ≠ 45 := fun hh => by
     have : c = 45 := UInt8.toNat_inj.1 (by simpa using hh)
     subst this; cases h
   simp; omega
theorem y5v {s : List UInt8} (hs : s.length ≤ 8388608) : Ev (fun n => za1 n s) (zje s) := by
 have bad : ∀ k : Int, Ev (fun n => z0s n s k true) false := fun k => by rw [zov, Ev.kz1 (by rfl), Ev.zz0]
 have step : ∀ k (hk : k < s.length) (r : Bool), ((if k = 0 then isLet s[k] else zfc s[k]) = false → r = false) → ((if k = 0 then isLet s[k] else zfc s[k]) = true → Ev (fun n => z07 n ((k + 1 : Nat) : Int) s) r) → Ev (fun n => z07 n (k : Int) s) r := fun k hk r hf ht => by
  have l1 : ∀ b, (if k = 0 then isLet s[k] else zfc s[k]) = !b → Ev (fun n => z0s n s (k : Int) b) r := fun b hb => by
   cases b
   ·rw [zov, Ev.zz2 (by rfl), wrk (by omega)]; exact ht hb
   ·exact (bad _).to (hf hb).symm
  rw [zon, Ev.kz1 (by simpa using hk), Ev.kz2 (kz5 hk), Ev.kz0 yfl]
  cases hl : isLet s[k]
  ·rw [Ev.kz1 (by rfl)]
   by_cases h0 : k = 0
   ·rw [Ev.kz1 (by simpa using h0)]; exact l1 true (by rw [if_pos h0, hl]; rfl)
   ·rw [Ev.zz2 (by simpa using h0), Ev.kz2 (kz5 hk), yup]
    cases h45 : s[k] == 45
    ·rw [Ev.kz1 (by rfl), Ev.kz2 (kz5 hk), Ev.kz0 ykg]
     exact l1 _ (by rw [if_neg h0, zfc, hl, h45]; simp)
    ·rw [Ev.zz2 (by rfl)]; exact l1 false (by rw [if_neg h0, zfc, hl, h45]; rfl)
  ·rw [Ev.zz2 (by rfl)]
   exact l1 false (by split; exact hl; rw [zfc, hl]; rfl)
 have fin : ∀ r : Bool, r = (decide (1 ≤ s.length) && decide (s.length ≤ 40)) → Ev (fun n => z07 n (s.length : Int) s) r := fun r hr => by
  rw [zon, Ev.zz2 (by simp), hr]
  by_cases h1 : 1 ≤ s.length
  ·rw [Ev.kz1 (by simp; omega), Ev.zz0]; simp [h1]; omega
  ·rw [Ev.zz2 (by simp; omega), Ev.zz0]; simp [h1]
 have rest : ∀ k, k ≤ s.length → 1 ≤ k → Ev (fun n => z07 n (k : Int) s) ((s.drop k).all zfc && decide (s.length ≤ 40)) :=
  down (Q := fun k => 1 ≤ k → Ev (fun n => z07 n (k : Int) s) ((s.drop k).all zfc && decide (s.length ≤ 40))) (fun h1 => by
   refine fin _ ?_; simp [h1]) fun k hk ih h1 => by
   rw [← List.getElem_cons_drop (h := hk), List.all_cons]
   refine step k hk _ (fun h => ?_) fun h => ?_
   ·rw [if_neg (by omega)] at h; rw [h]; rfl
   ·rw [if_neg (by omega)] at h; rw [h]; exact ih (by omega)
 rw [yai]
 cases s with
 | nil => exact fin _ rfl
 | cons c t =>
   refine step 0 (by simp) _ (fun h => ?_) fun h => ?_
   · rw [if_pos rfl] at h; simp only [List.getElem_cons_zero] at h; simp [zje, h]
   · rw [if_pos rfl] at h; simp only [List.getElem_cons_zero] at h
     refine (rest 1 (by simp) (Nat.le_refl _)).to ?_
     simp [zje, h]
def zqd (s : List UInt8) : Bool := zje s && (!(s == [116, 114, 117, 101]) && !(s == [102, 97, 108, 115, 101]))
theorem yns {s : List UInt8} (hs : s.length ≤ 8388608) : Ev (fun n => zcd n s) (zqd s) := by
 rw [y9z, Ev.kz0 (y6b hs)]
 unfold zqd
 cases zje s <;> cases h : (s == [116, 114, 117, 101]) <;> simp [Ev.pif, Ev.zz0]
theorem yka {s : List UInt8} (hs : s.length ≤ 8388608) : Ev (fun n => zb6 n s) (zqd s) := by
 rw [y48, Ev.kz0 (y5v hs)]
 unfold zqd
 cases zje s <;> cases h : (s == [116, 114, 117, 101]) <;> simp [Ev.pif, Ev.zz0]
end Go.Proofs.YtflgdagdibabiaaGreat

