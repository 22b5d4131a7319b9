/-
  CALLS RECKONED APART: gambrel/expr.Bind, gambrel/expr.Eval, gambrel/expr.Fold, gambrel/expr.Text, gambrel/expr.read, gambrel/gambrellaw04.folds, internal/strconv.FormatInt, strings.Fields.
-/
import Derived.Test.YtfhpamcehnfhoaaGreatDoorRun0
import Derived.Test.YtfhpamcehnfhoaaGreatDoorRun1
import Derived.Test.YtfhpamcehnfhoaaGreatDoorRun4
import Derived.KernelRfl
namespace Go.Proofs.YtfhpamcehnfhoaaGreatDoor
open Go Go.Ab
set_option maxRecDepth 100000
def en47 : za4 := ⟨22, 2, [.agg [.int .u8 16, .int .u8 0, .int .i64 0, .int .i64 0, .bool false, .str [], .nils, .str [], .sl 9 [.agg [.int .u8 2, .int .u8 0, .int .i64 0, .int .i64 0, .bool false, .str [], .nils, .str [120], .nils]] false], .str [120], .agg [.int .u8 4, .int .i64 0, .int .i64 0, .bool false, .str [], .sl 6 [.agg [.int .u8 1, .int .i64 1, .int .i64 1, .bool false, .str [], .nils], .agg [.int .u8 1, .int .i64 2, .int .i64 1, .bool false, .str [], .nils]] true]], .tup [.agg [.int .u8 16, .int .u8 0, .int .i64 0, .int .i64 0, .bool false, .str [], .nils, .str [], .sl 9 [.agg [.int .u8 18, .int .u8 0, .int .i64 0, .int .i64 0, .bool false, .str [], .nils, .str [], .sl 9 [.agg [.int .u8 1, .int .u8 1, .int .i64 1, .int .i64 1, .bool false, .str [], .nils, .str [], .nils], .agg [.int .u8 1, .int .u8 1, .int .i64 2, .int .i64 1, .bool false, .str [], .nils, .str [], .nils]] false]] false], .int .i64 0]⟩
theorem ok47 : en47.ok Tryz.prog := zzc (hk := zeo) (lf := 3000) (K := 60) (fl := []) (m := 200) mixed z1u (by kernel_rfl)
def en48 : za4 := ⟨66, 3, [.str [110, 111, 116, 32, 105, 102, 32, 109, 105, 110, 32, 109, 97, 120, 32, 102, 108, 111, 111, 114, 32, 108, 101, 110, 32, 97, 116]], .sl 1 [.str [110, 111, 116], .str [105, 102], .str [109, 105, 110], .str [109, 97, 120], .str [102, 108, 111, 111, 114], .str [108, 101, 110], .str [97, 116]] false⟩
theorem ok48 : en48.ok Tryz.prog := zzc (hk := zeo) (lf := 3000) (K := 60) (fl := []) (m := 200) mixed z1u (by kernel_rfl)
def en49 : za4 := ⟨175, 6, [.int .i64 1, .int .i64 10], .str [49]⟩
theorem ok49 : en49.ok Tryz.prog := zzc (hk := zeo) (lf := 3000) (K := 60) (fl := []) (m := 200) mixed z1u (by kernel_rfl)
def en50 : za4 := ⟨11, 2, [.agg [.int .u8 16, .int .u8 0, .int .i64 0, .int .i64 0, .bool false, .str [], .nils, .str [], .sl 9 [.agg [.int .u8 18, .int .u8 0, .int .i64 0, .int .i64 0, .bool false, .str [], .nils, .str [], .sl 9 [.agg [.int .u8 1, .int .u8 1, .int .i64 1, .int .i64 1, .bool false, .str [], .nils, .str [], .nils], .agg [.int .u8 1, .int .u8 1, .int .i64 2, .int .i64 1, .bool false, .str [], .nils, .str [], .nils]] false]] false]], .tup [.str [108, 101, 110, 40, 91, 49, 44, 32, 50, 93, 41], .int .i64 0]⟩
theorem ok50 : en50.ok Tryz.prog := zzc (hk := (ze1 zeo (z9o [en41, en49, en48]))) (lf := 3000) (K := 60) (fl := []) (m := 200) mixed (z7p z1u (z6l ⟨ok41, ok49, ok48, trivial⟩)) (by kernel_rfl)
def yp6 : za4 := ⟨66, 6, [.str [43, 32, 45, 32, 42, 32, 47, 32, 60, 32, 61, 32, 97, 110, 100, 32, 111, 114]], .sl 1 [.str [43], .str [45], .str [42], .str [47], .str [60], .str [61], .str [97, 110, 100], .str [111, 114]] false⟩
theorem yrs : yp6.ok Tryz.prog := zzc (hk := zeo) (lf := 3000) (K := 60) (fl := []) (m := 200) mixed z1u (by kernel_rfl)
def yl8 : za4 := ⟨175, 9, [.int .i64 1, .int .i64 10], .str [49]⟩
theorem yqd : yl8.ok Tryz.prog := zzc (hk := zeo) (lf := 3000) (K := 60) (fl := []) (m := 200) mixed z1u (by kernel_rfl)
def ys1 : za4 := ⟨175, 9, [.int .i64 2, .int .i64 10], .str [50]⟩
theorem ok53 : ys1.ok Tryz.prog := zzc (hk := zeo) (lf := 3000) (K := 60) (fl := []) (m := 200) mixed z1u (by kernel_rfl)
def en54 : za4 := ⟨42, 4, [.str [40, 120, 32, 43, 32, 49, 47, 50, 41]], .tup [.agg [.int .u8 3, .int .u8 0, .int .i64 0, .int .i64 0, .bool false, .str [], .nils, .str [], .sl 9 [.agg [.int .u8 2, .int .u8 0, .int .i64 0, .int .i64 0, .bool false, .str [], .nils, .str [120], .nils], .agg [.int .u8 1, .int .u8 1, .int .i64 1, .int .i64 2, .bool false, .str [], .nils, .str [], .nils]] true], .int .i64 0]⟩
theorem ok54 : en54.ok Tryz.prog := zzc (hk := (ze1 zeo (z9o [yl8, ys1, yp6]))) (lf := 3000) (K := 60) (fl := []) (m := 200) mixed (z7p z1u (z6l ⟨yqd, ok53, yrs, trivial⟩)) (by kernel_rfl)
def en55 : za4 := ⟨21, 3, [.agg [.int .u8 3, .int .u8 0, .int .i64 0, .int .i64 0, .bool false, .str [], .nils, .str [], .sl 9 [.agg [.int .u8 2, .int .u8 0, .int .i64 0, .int .i64 0, .bool false, .str [], .nils, .str [120], .nils], .agg [.int .u8 1, .int .u8 1, .int .i64 1, .int .i64 2, .bool false, .str [], .nils, .str [], .nils]] true], .sl 7 [.agg [.str [120], .int .u8 1, .int .i64 3, .int .i64 2, .bool false, .str [], .nils]] true], .tup [.agg [.int .u8 1, .int .i64 2, .int .i64 1, .bool false, .str [], .nils], .int .i64 0]⟩
theorem ok55 : en55.ok Tryz.prog := zzc (hk := zeo) (lf := 3000) (K := 60) (fl := []) (m := 200) mixed z1u (by kernel_rfl)
def en56 : za4 := ⟨42, 4, [.str [40, 121, 32, 43, 32, 49, 47, 50, 41]], .tup [.agg [.int .u8 3, .int .u8 0, .int .i64 0, .int .i64 0, .bool false, .str [], .nils, .str [], .sl 9 [.agg [.int .u8 2, .int .u8 0, .int .i64 0, .int .i64 0, .bool false, .str [], .nils, .str [121], .nils], .agg [.int .u8 1, .int .u8 1, .int .i64 1, .int .i64 2, .bool false, .str [], .nils, .str [], .nils]] true], .int .i64 0]⟩
theorem ok56 : en56.ok Tryz.prog := zzc (hk := (ze1 zeo (z9o [yl8, ys1, yp6]))) (lf := 3000) (K := 60) (fl := []) (m := 200) mixed (z7p z1u (z6l ⟨yqd, ok53, yrs, trivial⟩)) (by kernel_rfl)
end Go.Proofs.YtfhpamcehnfhoaaGreatDoor

