/-
  CALLS RECKONED APART: gambrel/expr.Fold, gambrel/expr.Text, gambrel/expr.read, internal/strconv.FormatInt, strings.Fields.
-/
import Derived.Test.YtfhpamcehnfhoaaGreatDoorE0
import Derived.Test.YtfhpamcehnfhoaaGreatDoorE1
import Derived.Test.YtfhpamcehnfhoaaGreatDoorE3
import Derived.KernelRfl
namespace Go.Proofs.YtfhpamcehnfhoaaGreatDoor
open Go Go.Ab
set_option maxRecDepth 100000

def en34 : Ent := ⟨42, 3, [.str [109, 105, 110, 40, 49, 41]], .tup [.agg [.int .u8 13, .int .u8 0, .int .i64 0, .int .i64 0, .bool false, .str [], .nils, .str [], .sl 9 [.agg [.int .u8 1, .int .u8 1, .int .i64 1, .int .i64 1, .bool false, .str [], .nils, .str [], .nils]] false], .int .i64 0]⟩
theorem ok34 : en34.ok Tryz.prog := ent_of_check (hk := (hookOr ext (entHook [en1, en7]))) (lf := 3000) (K := 60) (m := 200) mixed (hookOr_ok ext_ok (entHook_ok ⟨ok1, ok7, trivial⟩)) (by kernel_rfl)
def en35 : Ent := ⟨42, 3, [.str [40, 49, 32, 43, 32, 32, 50, 41]], .tup [.agg [.int .u8 0, .int .u8 0, .int .i64 0, .int .i64 0, .bool false, .str [], .nils, .str [], .nils], .int .i64 12]⟩
theorem ok35 : en35.ok Tryz.prog := ent_of_check (hk := (hookOr ext (entHook [en0, en1]))) (lf := 3000) (K := 60) (m := 200) mixed (hookOr_ok ext_ok (entHook_ok ⟨ok0, ok1, trivial⟩)) (by kernel_rfl)
def en36 : Ent := ⟨42, 3, [.str [40, 49, 32, 43, 32, 50]], .tup [.agg [.int .u8 0, .int .u8 0, .int .i64 0, .int .i64 0, .bool false, .str [], .nils, .str [], .nils], .int .i64 12]⟩
theorem ok36 : en36.ok Tryz.prog := ent_of_check (hk := (hookOr ext (entHook [en8, en0, en1]))) (lf := 3000) (K := 60) (m := 200) mixed (hookOr_ok ext_ok (entHook_ok ⟨ok8, ok0, ok1, trivial⟩)) (by kernel_rfl)
def en37 : Ent := ⟨42, 3, [.str [105, 102, 40, 116, 114, 117, 101, 44, 32, 49, 44, 32, 50, 44, 32, 51, 41]], .tup [.agg [.int .u8 12, .int .u8 0, .int .i64 0, .int .i64 0, .bool false, .str [], .nils, .str [], .sl 9 [.agg [.int .u8 1, .int .u8 2, .int .i64 0, .int .i64 0, .bool true, .str [], .nils, .str [], .nils], .agg [.int .u8 1, .int .u8 1, .int .i64 1, .int .i64 1, .bool false, .str [], .nils, .str [], .nils], .agg [.int .u8 1, .int .u8 1, .int .i64 2, .int .i64 1, .bool false, .str [], .nils, .str [], .nils], .agg [.int .u8 1, .int .u8 1, .int .i64 3, .int .i64 1, .bool false, .str [], .nils, .str [], .nils]] false], .int .i64 0]⟩
theorem ok37 : en37.ok Tryz.prog := ent_of_check (hk := (hookOr ext (entHook [en23, en8, en1, en7]))) (lf := 3000) (K := 60) (m := 200) mixed (hookOr_ok ext_ok (entHook_ok ⟨ok23, ok8, ok1, ok7, trivial⟩)) (by kernel_rfl)
def en38 : Ent := ⟨42, 3, [.str [40, 108, 101, 110, 40, 34, 97, 98, 34, 41, 32, 47, 32, 48, 41]], .tup [.agg [.int .u8 6, .int .u8 0, .int .i64 0, .int .i64 0, .bool false, .str [], .nils, .str [], .sl 9 [.agg [.int .u8 16, .int .u8 0, .int .i64 0, .int .i64 0, .bool false, .str [], .nils, .str [], .sl 9 [.agg [.int .u8 1, .int .u8 3, .int .i64 0, .int .i64 0, .bool false, .str [97, 98], .nils, .str [], .nils]] false], .agg [.int .u8 1, .int .u8 1, .int .i64 0, .int .i64 1, .bool false, .str [], .nils, .str [], .nils]] false], .int .i64 0]⟩
theorem ok38 : en38.ok Tryz.prog := ent_of_check (hk := (hookOr ext (entHook [en4, en0, en7]))) (lf := 3000) (K := 60) (m := 200) mixed (hookOr_ok ext_ok (entHook_ok ⟨ok4, ok0, ok7, trivial⟩)) (by kernel_rfl)
def en39 : Ent := ⟨33, 2, [.agg [.int .u8 6, .int .u8 0, .int .i64 0, .int .i64 0, .bool false, .str [], .nils, .str [], .sl 9 [.agg [.int .u8 16, .int .u8 0, .int .i64 0, .int .i64 0, .bool false, .str [], .nils, .str [], .sl 9 [.agg [.int .u8 1, .int .u8 3, .int .i64 0, .int .i64 0, .bool false, .str [97, 98], .nils, .str [], .nils]] false], .agg [.int .u8 1, .int .u8 1, .int .i64 0, .int .i64 1, .bool false, .str [], .nils, .str [], .nils]] false]], .tup [.agg [.int .u8 6, .int .u8 0, .int .i64 0, .int .i64 0, .bool false, .str [], .nils, .str [], .sl 9 [.agg [.int .u8 1, .int .u8 1, .int .i64 2, .int .i64 1, .bool false, .str [], .nils, .str [], .nils], .agg [.int .u8 1, .int .u8 1, .int .i64 0, .int .i64 1, .bool false, .str [], .nils, .str [], .nils]] false], .int .i64 0]⟩
theorem ok39 : en39.ok Tryz.prog := ent_of_check (hk := ext) (lf := 3000) (K := 60) (m := 200) mixed ext_ok (by kernel_rfl)
def en40 : Ent := ⟨66, 4, [.str [43, 32, 45, 32, 42, 32, 47, 32, 60, 32, 61, 32, 97, 110, 100, 32, 111, 114]], .sl 1 [.str [43], .str [45], .str [42], .str [47], .str [60], .str [61], .str [97, 110, 100], .str [111, 114]] false⟩
theorem ok40 : en40.ok Tryz.prog := ent_of_check (hk := ext) (lf := 3000) (K := 60) (m := 200) mixed ext_ok (by kernel_rfl)
def en41 : Ent := ⟨175, 6, [.int .i64 2, .int .i64 10], .str [50]⟩
theorem ok41 : en41.ok Tryz.prog := ent_of_check (hk := ext) (lf := 3000) (K := 60) (m := 200) mixed ext_ok (by kernel_rfl)
def en42 : Ent := ⟨175, 6, [.int .i64 0, .int .i64 10], .str [48]⟩
theorem ok42 : en42.ok Tryz.prog := ent_of_check (hk := ext) (lf := 3000) (K := 60) (m := 200) mixed ext_ok (by kernel_rfl)
def en43 : Ent := ⟨11, 2, [.agg [.int .u8 6, .int .u8 0, .int .i64 0, .int .i64 0, .bool false, .str [], .nils, .str [], .sl 9 [.agg [.int .u8 1, .int .u8 1, .int .i64 2, .int .i64 1, .bool false, .str [], .nils, .str [], .nils], .agg [.int .u8 1, .int .u8 1, .int .i64 0, .int .i64 1, .bool false, .str [], .nils, .str [], .nils]] false]], .tup [.str [40, 50, 32, 47, 32, 48, 41], .int .i64 0]⟩
theorem ok43 : en43.ok Tryz.prog := ent_of_check (hk := (hookOr ext (entHook [en42, en41, en40]))) (lf := 3000) (K := 60) (m := 200) mixed (hookOr_ok ext_ok (entHook_ok ⟨ok42, ok41, ok40, trivial⟩)) (by kernel_rfl)
end Go.Proofs.YtfhpamcehnfhoaaGreatDoor
