/-
  CALLS RECKONED APART: gambrel/expr.Eval, gambrel/expr.Parse, gambrel/expr.read, gambrel/gambrellaw04.gives, internal/strconv.FormatInt.
-/
import Derived.Test.YtfhpamcehnfhoaaGreatDoorE0
import Derived.Test.YtfhpamcehnfhoaaGreatDoorFi
import Derived.Test.YtfhpamcehnfhoaaGreatDoorE1
import Derived.Test.YtfhpamcehnfhoaaGreatDoorE2
import Derived.KernelRfl
namespace Go.Proofs.YtfhpamcehnfhoaaGreatDoor
open Go Go.Ab
set_option maxRecDepth 100000

def en22 : Ent := ⟨18, 1, [.str [40, 49, 32, 61, 32, 116, 114, 117, 101, 41], .agg [.int .u8 1, .int .i64 2, .int .i64 1, .bool false, .str [], .nils], .agg [.int .u8 2, .int .i64 0, .int .i64 0, .bool false, .str [], .nils], .int .i64 0], .bool true⟩
theorem ok22 : en22.ok Tryz.prog := ent_of_check (hk := (hookOr ext (entHook [en21]))) (lf := 3000) (K := 60) (m := 200) mixed (hookOr_ok ext_ok (entHook_ok ⟨ok21, trivial⟩)) (by kernel_rfl)
def en23 : Ent := ⟨175, 8, [.int .i64 3, .int .i64 10], .str [51]⟩
theorem ok23 : en23.ok Tryz.prog := ent_of_check (hk := ext) (lf := 3000) (K := 60) (m := 200) mixed ext_ok (by kernel_rfl)
def en24 : Ent := ⟨42, 3, [.str [109, 105, 110, 40, 120, 44, 32, 51, 41]], .tup [.agg [.int .u8 13, .int .u8 0, .int .i64 0, .int .i64 0, .bool false, .str [], .nils, .str [], .sl 9 [.agg [.int .u8 2, .int .u8 0, .int .i64 0, .int .i64 0, .bool false, .str [], .nils, .str [120], .nils], .agg [.int .u8 1, .int .u8 1, .int .i64 3, .int .i64 1, .bool false, .str [], .nils, .str [], .nils]] false], .int .i64 0]⟩
theorem ok24 : en24.ok Tryz.prog := ent_of_check (hk := (hookOr ext (entHook [en23, en7]))) (lf := 3000) (K := 60) (m := 200) mixed (hookOr_ok ext_ok (entHook_ok ⟨ok23, ok7, trivial⟩)) (by kernel_rfl)
def en25 : Ent := ⟨21, 2, [.agg [.int .u8 13, .int .u8 0, .int .i64 0, .int .i64 0, .bool false, .str [], .nils, .str [], .sl 9 [.agg [.int .u8 2, .int .u8 0, .int .i64 0, .int .i64 0, .bool false, .str [], .nils, .str [120], .nils], .agg [.int .u8 1, .int .u8 1, .int .i64 3, .int .i64 1, .bool false, .str [], .nils, .str [], .nils]] false], .sl 7 [.agg [.str [120], .int .u8 1, .int .i64 2, .int .i64 1, .bool false, .str [], .nils]] true], .tup [.agg [.int .u8 1, .int .i64 2, .int .i64 1, .bool false, .str [], .nils], .int .i64 0]⟩
theorem ok25 : en25.ok Tryz.prog := ent_of_check (hk := ext) (lf := 3000) (K := 60) (m := 200) mixed ext_ok (by kernel_rfl)
def en26 : Ent := ⟨42, 3, [.str [109, 97, 120, 40, 91, 49, 93, 44, 32, 91, 93, 41]], .tup [.agg [.int .u8 14, .int .u8 0, .int .i64 0, .int .i64 0, .bool false, .str [], .nils, .str [], .sl 9 [.agg [.int .u8 18, .int .u8 0, .int .i64 0, .int .i64 0, .bool false, .str [], .nils, .str [], .sl 9 [.agg [.int .u8 1, .int .u8 1, .int .i64 1, .int .i64 1, .bool false, .str [], .nils, .str [], .nils]] false], .agg [.int .u8 18, .int .u8 0, .int .i64 0, .int .i64 0, .bool false, .str [], .nils, .str [], .nils]] false], .int .i64 0]⟩
theorem ok26 : en26.ok Tryz.prog := ent_of_check (hk := (hookOr ext (entHook [en1, en7]))) (lf := 3000) (K := 60) (m := 200) mixed (hookOr_ok ext_ok (entHook_ok ⟨ok1, ok7, trivial⟩)) (by kernel_rfl)
def en27 : Ent := ⟨21, 2, [.agg [.int .u8 14, .int .u8 0, .int .i64 0, .int .i64 0, .bool false, .str [], .nils, .str [], .sl 9 [.agg [.int .u8 18, .int .u8 0, .int .i64 0, .int .i64 0, .bool false, .str [], .nils, .str [], .sl 9 [.agg [.int .u8 1, .int .u8 1, .int .i64 1, .int .i64 1, .bool false, .str [], .nils, .str [], .nils]] false], .agg [.int .u8 18, .int .u8 0, .int .i64 0, .int .i64 0, .bool false, .str [], .nils, .str [], .nils]] false], .sl 7 [.agg [.str [120], .int .u8 1, .int .i64 2, .int .i64 1, .bool false, .str [], .nils]] true], .tup [.agg [.int .u8 4, .int .i64 0, .int .i64 0, .bool false, .str [], .sl 6 [.agg [.int .u8 1, .int .i64 1, .int .i64 1, .bool false, .str [], .nils]] false], .int .i64 0]⟩
theorem ok27 : en27.ok Tryz.prog := ent_of_check (hk := ext) (lf := 3000) (K := 60) (m := 200) mixed ext_ok (by kernel_rfl)
def en28 : Ent := ⟨175, 8, [.int .i64 (-7), .int .i64 10], .str [45, 55]⟩
theorem ok28 : en28.ok Tryz.prog := fi_ok 8 (-7) _ (by decide) (by decide) (by decide +kernel)
def en29 : Ent := ⟨42, 3, [.str [102, 108, 111, 111, 114, 40, 45, 55, 47, 50, 41]], .tup [.agg [.int .u8 15, .int .u8 0, .int .i64 0, .int .i64 0, .bool false, .str [], .nils, .str [], .sl 9 [.agg [.int .u8 1, .int .u8 1, .int .i64 (-7), .int .i64 2, .bool false, .str [], .nils, .str [], .nils]] false], .int .i64 0]⟩
theorem ok29 : en29.ok Tryz.prog := ent_of_check (hk := (hookOr ext (entHook [en28, en8, en7]))) (lf := 3000) (K := 60) (m := 200) mixed (hookOr_ok ext_ok (entHook_ok ⟨ok28, ok8, ok7, trivial⟩)) (by kernel_rfl)
def en30 : Ent := ⟨42, 3, [.str [97, 116, 40, 34, 97, 98, 99, 34, 44, 32, 120, 41]], .tup [.agg [.int .u8 17, .int .u8 0, .int .i64 0, .int .i64 0, .bool false, .str [], .nils, .str [], .sl 9 [.agg [.int .u8 1, .int .u8 3, .int .i64 0, .int .i64 0, .bool false, .str [97, 98, 99], .nils, .str [], .nils], .agg [.int .u8 2, .int .u8 0, .int .i64 0, .int .i64 0, .bool false, .str [], .nils, .str [120], .nils]] false], .int .i64 0]⟩
theorem ok30 : en30.ok Tryz.prog := ent_of_check (hk := (hookOr ext (entHook [en7]))) (lf := 3000) (K := 60) (m := 200) mixed (hookOr_ok ext_ok (entHook_ok ⟨ok7, trivial⟩)) (by kernel_rfl)
def en31 : Ent := ⟨18, 1, [.str [97, 116, 40, 34, 97, 98, 99, 34, 44, 32, 120, 41], .agg [.int .u8 1, .int .i64 2, .int .i64 1, .bool false, .str [], .nils], .agg [.int .u8 3, .int .i64 0, .int .i64 0, .bool false, .str [99], .nils], .int .i64 0], .bool true⟩
theorem ok31 : en31.ok Tryz.prog := ent_of_check (hk := (hookOr ext (entHook [en30]))) (lf := 3000) (K := 60) (m := 200) mixed (hookOr_ok ext_ok (entHook_ok ⟨ok30, trivial⟩)) (by kernel_rfl)
def en32 : Ent := ⟨13, 2, [.str [40, 116, 114, 117, 101, 32, 111, 114, 32, 102, 97, 108, 115, 101, 41]], .tup [.agg [.int .u8 10, .int .u8 0, .int .i64 0, .int .i64 0, .bool false, .str [], .nils, .str [], .sl 9 [.agg [.int .u8 1, .int .u8 2, .int .i64 0, .int .i64 0, .bool true, .str [], .nils, .str [], .nils], .agg [.int .u8 1, .int .u8 2, .int .i64 0, .int .i64 0, .bool false, .str [], .nils, .str [], .nils]] true], .int .i64 0]⟩
theorem ok32 : en32.ok Tryz.prog := ent_of_check (hk := (hookOr ext (entHook [en0]))) (lf := 3000) (K := 60) (m := 200) mixed (hookOr_ok ext_ok (entHook_ok ⟨ok0, trivial⟩)) (by kernel_rfl)
def en33 : Ent := ⟨18, 1, [.str [108, 101, 110, 40, 91, 93, 41], .agg [.int .u8 1, .int .i64 2, .int .i64 1, .bool false, .str [], .nils], .agg [.int .u8 1, .int .i64 0, .int .i64 1, .bool false, .str [], .nils], .int .i64 0], .bool true⟩
theorem ok33 : en33.ok Tryz.prog := ent_of_check (hk := (hookOr ext (entHook [en7]))) (lf := 3000) (K := 60) (m := 200) mixed (hookOr_ok ext_ok (entHook_ok ⟨ok7, trivial⟩)) (by kernel_rfl)
end Go.Proofs.YtfhpamcehnfhoaaGreatDoor
