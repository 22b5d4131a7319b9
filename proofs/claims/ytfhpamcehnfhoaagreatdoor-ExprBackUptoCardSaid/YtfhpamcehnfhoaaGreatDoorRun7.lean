/-
  CALLS RECKONED APART: gambrel/expr.Fold, gambrel/expr.change, gambrel/expr.read, gambrel/gambrellaw04.folds, internal/strconv.FormatInt.
-/
import Derived.Test.YtfhpamcehnfhoaaGreatDoorRun0
import Derived.Test.YtfhpamcehnfhoaaGreatDoorRun5
import Derived.Test.YtfhpamcehnfhoaaGreatDoorRun6
import Derived.KernelRfl
namespace Go.Proofs.YtfhpamcehnfhoaaGreatDoor
open Go Go.Ab
set_option maxRecDepth 100000
def en66 : za4 := ⟨42, 4, [.str [105, 102, 40, 116, 114, 117, 101, 44, 32, 120, 44, 32, 40, 49, 32, 47, 32, 48, 41, 41]], .tup [.agg [.int .u8 12, .int .u8 0, .int .i64 0, .int .i64 0, .bool false, .str [], .nils, .str [], .sl 9 [.agg [.int .u8 1, .int .u8 2, .int .i64 0, .int .i64 0, .bool true, .str [], .nils, .str [], .nils], .agg [.int .u8 2, .int .u8 0, .int .i64 0, .int .i64 0, .bool false, .str [], .nils, .str [120], .nils], .agg [.int .u8 6, .int .u8 0, .int .i64 0, .int .i64 0, .bool false, .str [], .nils, .str [], .sl 9 [.agg [.int .u8 1, .int .u8 1, .int .i64 1, .int .i64 1, .bool false, .str [], .nils, .str [], .nils], .agg [.int .u8 1, .int .u8 1, .int .i64 0, .int .i64 1, .bool false, .str [], .nils, .str [], .nils]] true]] false], .int .i64 0]⟩
theorem ok66 : en66.ok Tryz.prog := zzc (hk := (ze1 zeo (z9o [en59, yp6, yl8, en58]))) (lf := 3000) (K := 60) (fl := []) (m := 200) mixed (z7p z1u (z6l ⟨ok59, yrs, yqd, ok58, trivial⟩)) (by kernel_rfl)
def en67 : za4 := ⟨33, 3, [.agg [.int .u8 12, .int .u8 0, .int .i64 0, .int .i64 0, .bool false, .str [], .nils, .str [], .sl 9 [.agg [.int .u8 1, .int .u8 2, .int .i64 0, .int .i64 0, .bool true, .str [], .nils, .str [], .nils], .agg [.int .u8 2, .int .u8 0, .int .i64 0, .int .i64 0, .bool false, .str [], .nils, .str [120], .nils], .agg [.int .u8 6, .int .u8 0, .int .i64 0, .int .i64 0, .bool false, .str [], .nils, .str [], .sl 9 [.agg [.int .u8 1, .int .u8 1, .int .i64 1, .int .i64 1, .bool false, .str [], .nils, .str [], .nils], .agg [.int .u8 1, .int .u8 1, .int .i64 0, .int .i64 1, .bool false, .str [], .nils, .str [], .nils]] true]] false]], .tup [.agg [.int .u8 2, .int .u8 0, .int .i64 0, .int .i64 0, .bool false, .str [], .nils, .str [120], .nils], .int .i64 0]⟩
theorem ok67 : en67.ok Tryz.prog := zzc (hk := zeo) (lf := 3000) (K := 60) (fl := []) (m := 200) mixed z1u (by kernel_rfl)
def en68 : za4 := ⟨25, 2, [.str [105, 102, 40, 116, 114, 117, 101, 44, 32, 120, 44, 32, 40, 49, 32, 47, 32, 48, 41, 41], .str [120]], .bool true⟩
theorem ok68 : en68.ok Tryz.prog := zzc (hk := (ze1 zeo (z9o [en67, en66]))) (lf := 3000) (K := 60) (fl := []) (m := 200) mixed (z7p z1u (z6l ⟨ok67, ok66, trivial⟩)) (by kernel_rfl)
def en69 : za4 := ⟨42, 4, [.str [108, 101, 110, 40, 91, 49, 44, 32, 50, 93, 41]], .tup [.agg [.int .u8 16, .int .u8 0, .int .i64 0, .int .i64 0, .bool false, .str [], .nils, .str [], .sl 9 [.agg [.int .u8 18, .int .u8 0, .int .i64 0, .int .i64 0, .bool false, .str [], .nils, .str [], .sl 9 [.agg [.int .u8 1, .int .u8 1, .int .i64 1, .int .i64 1, .bool false, .str [], .nils, .str [], .nils], .agg [.int .u8 1, .int .u8 1, .int .i64 2, .int .i64 1, .bool false, .str [], .nils, .str [], .nils]] false]] false], .int .i64 0]⟩
theorem ok69 : en69.ok Tryz.prog := zzc (hk := (ze1 zeo (z9o [ys1, yl8, en58]))) (lf := 3000) (K := 60) (fl := []) (m := 200) mixed (z7p z1u (z6l ⟨ok53, yqd, ok58, trivial⟩)) (by kernel_rfl)
def en70 : za4 := ⟨49, 4, [.agg [.int .u8 16, .int .u8 0, .int .i64 0, .int .i64 0, .bool false, .str [], .nils, .str [], .sl 9 [.agg [.int .u8 18, .int .u8 0, .int .i64 0, .int .i64 0, .bool false, .str [], .nils, .str [], .sl 9 [.agg [.int .u8 1, .int .u8 1, .int .i64 1, .int .i64 1, .bool false, .str [], .nils, .str [], .nils], .agg [.int .u8 1, .int .u8 1, .int .i64 2, .int .i64 1, .bool false, .str [], .nils, .str [], .nils]] false]] false], .fn 62 [] []], .agg [.int .u8 1, .int .u8 1, .int .i64 2, .int .i64 1, .bool false, .str [], .nils, .str [], .nils]⟩
theorem ok70 : en70.ok Tryz.prog := zzc (hk := zeo) (lf := 3000) (K := 60) (fl := []) (m := 200) mixed z1u (by kernel_rfl)
def en71 : za4 := ⟨175, 7, [.int .i64 2, .int .i64 10], .str [50]⟩
theorem ok71 : en71.ok Tryz.prog := zzc (hk := zeo) (lf := 3000) (K := 60) (fl := []) (m := 200) mixed z1u (by kernel_rfl)
def en72 : za4 := ⟨25, 2, [.str [108, 101, 110, 40, 91, 49, 44, 32, 50, 93, 41], .str [50]], .bool true⟩
theorem ok72 : en72.ok Tryz.prog := zzc (hk := (ze1 zeo (z9o [en71, en70, en69]))) (lf := 3000) (K := 60) (fl := []) (m := 200) mixed (z7p z1u (z6l ⟨ok71, ok70, ok69, trivial⟩)) (by kernel_rfl)
end Go.Proofs.YtfhpamcehnfhoaaGreatDoor

