/-
  CALLS RECKONED APART: gambrel/expr.Eval, gambrel/expr.read, gambrel/gambrellaw04.gives, internal/strconv.FormatInt, strings.Fields.
-/
import Derived.Test.YtfhpamcehnfhoaaGreatDoorE0
import Derived.KernelRfl
namespace Go.Proofs.YtfhpamcehnfhoaaGreatDoor
open Go Go.Ab
set_option maxRecDepth 100000

def en0 : Ent := ⟨66, 5, [.str [43, 32, 45, 32, 42, 32, 47, 32, 60, 32, 61, 32, 97, 110, 100, 32, 111, 114]], .sl 1 [.str [43], .str [45], .str [42], .str [47], .str [60], .str [61], .str [97, 110, 100], .str [111, 114]] false⟩
theorem ok0 : en0.ok Tryz.prog := ent_of_check (hk := ext) (lf := 3000) (K := 60) (m := 200) mixed ext_ok (by kernel_rfl)
def en1 : Ent := ⟨175, 8, [.int .i64 1, .int .i64 10], .str [49]⟩
theorem ok1 : en1.ok Tryz.prog := ent_of_check (hk := ext) (lf := 3000) (K := 60) (m := 200) mixed ext_ok (by kernel_rfl)
def en2 : Ent := ⟨42, 3, [.str [40, 116, 114, 117, 101, 32, 97, 110, 100, 32, 49, 41]], .tup [.agg [.int .u8 9, .int .u8 0, .int .i64 0, .int .i64 0, .bool false, .str [], .nils, .str [], .sl 9 [.agg [.int .u8 1, .int .u8 2, .int .i64 0, .int .i64 0, .bool true, .str [], .nils, .str [], .nils], .agg [.int .u8 1, .int .u8 1, .int .i64 1, .int .i64 1, .bool false, .str [], .nils, .str [], .nils]] true], .int .i64 0]⟩
theorem ok2 : en2.ok Tryz.prog := ent_of_check (hk := (hookOr ext (entHook [en1, en0]))) (lf := 3000) (K := 60) (m := 200) mixed (hookOr_ok ext_ok (entHook_ok ⟨ok1, ok0, trivial⟩)) (by kernel_rfl)
def en3 : Ent := ⟨18, 1, [.str [40, 116, 114, 117, 101, 32, 97, 110, 100, 32, 49, 41], .agg [.int .u8 1, .int .i64 2, .int .i64 1, .bool false, .str [], .nils], .agg [.int .u8 0, .int .i64 0, .int .i64 0, .bool false, .str [], .nils], .int .i64 20], .bool true⟩
theorem ok3 : en3.ok Tryz.prog := ent_of_check (hk := (hookOr ext (entHook [en2]))) (lf := 3000) (K := 60) (m := 200) mixed (hookOr_ok ext_ok (entHook_ok ⟨ok2, trivial⟩)) (by kernel_rfl)
def en4 : Ent := ⟨175, 8, [.int .i64 0, .int .i64 10], .str [48]⟩
theorem ok4 : en4.ok Tryz.prog := ent_of_check (hk := ext) (lf := 3000) (K := 60) (m := 200) mixed ext_ok (by kernel_rfl)
def en5 : Ent := ⟨42, 3, [.str [40, 102, 97, 108, 115, 101, 32, 97, 110, 100, 32, 40, 49, 32, 47, 32, 48, 41, 41]], .tup [.agg [.int .u8 9, .int .u8 0, .int .i64 0, .int .i64 0, .bool false, .str [], .nils, .str [], .sl 9 [.agg [.int .u8 1, .int .u8 2, .int .i64 0, .int .i64 0, .bool false, .str [], .nils, .str [], .nils], .agg [.int .u8 6, .int .u8 0, .int .i64 0, .int .i64 0, .bool false, .str [], .nils, .str [], .sl 9 [.agg [.int .u8 1, .int .u8 1, .int .i64 1, .int .i64 1, .bool false, .str [], .nils, .str [], .nils], .agg [.int .u8 1, .int .u8 1, .int .i64 0, .int .i64 1, .bool false, .str [], .nils, .str [], .nils]] true]] true], .int .i64 0]⟩
theorem ok5 : en5.ok Tryz.prog := ent_of_check (hk := (hookOr ext (entHook [en4, en1, en0]))) (lf := 3000) (K := 60) (m := 200) mixed (hookOr_ok ext_ok (entHook_ok ⟨ok4, ok1, ok0, trivial⟩)) (by kernel_rfl)
def en6 : Ent := ⟨21, 2, [.agg [.int .u8 9, .int .u8 0, .int .i64 0, .int .i64 0, .bool false, .str [], .nils, .str [], .sl 9 [.agg [.int .u8 1, .int .u8 2, .int .i64 0, .int .i64 0, .bool false, .str [], .nils, .str [], .nils], .agg [.int .u8 6, .int .u8 0, .int .i64 0, .int .i64 0, .bool false, .str [], .nils, .str [], .sl 9 [.agg [.int .u8 1, .int .u8 1, .int .i64 1, .int .i64 1, .bool false, .str [], .nils, .str [], .nils], .agg [.int .u8 1, .int .u8 1, .int .i64 0, .int .i64 1, .bool false, .str [], .nils, .str [], .nils]] true]] true], .sl 7 [.agg [.str [120], .int .u8 1, .int .i64 2, .int .i64 1, .bool false, .str [], .nils]] true], .tup [.agg [.int .u8 0, .int .i64 0, .int .i64 0, .bool false, .str [], .nils], .int .i64 18]⟩
theorem ok6 : en6.ok Tryz.prog := ent_of_check (hk := ext) (lf := 3000) (K := 60) (m := 200) mixed ext_ok (by kernel_rfl)
def en7 : Ent := ⟨66, 4, [.str [110, 111, 116, 32, 105, 102, 32, 109, 105, 110, 32, 109, 97, 120, 32, 102, 108, 111, 111, 114, 32, 108, 101, 110, 32, 97, 116]], .sl 1 [.str [110, 111, 116], .str [105, 102], .str [109, 105, 110], .str [109, 97, 120], .str [102, 108, 111, 111, 114], .str [108, 101, 110], .str [97, 116]] false⟩
theorem ok7 : en7.ok Tryz.prog := ent_of_check (hk := ext) (lf := 3000) (K := 60) (m := 200) mixed ext_ok (by kernel_rfl)
def en8 : Ent := ⟨175, 8, [.int .i64 2, .int .i64 10], .str [50]⟩
theorem ok8 : en8.ok Tryz.prog := ent_of_check (hk := ext) (lf := 3000) (K := 60) (m := 200) mixed ext_ok (by kernel_rfl)
def en9 : Ent := ⟨42, 3, [.str [105, 102, 40, 49, 44, 32, 40, 49, 32, 47, 32, 48, 41, 44, 32, 50, 41]], .tup [.agg [.int .u8 12, .int .u8 0, .int .i64 0, .int .i64 0, .bool false, .str [], .nils, .str [], .sl 9 [.agg [.int .u8 1, .int .u8 1, .int .i64 1, .int .i64 1, .bool false, .str [], .nils, .str [], .nils], .agg [.int .u8 6, .int .u8 0, .int .i64 0, .int .i64 0, .bool false, .str [], .nils, .str [], .sl 9 [.agg [.int .u8 1, .int .u8 1, .int .i64 1, .int .i64 1, .bool false, .str [], .nils, .str [], .nils], .agg [.int .u8 1, .int .u8 1, .int .i64 0, .int .i64 1, .bool false, .str [], .nils, .str [], .nils]] true], .agg [.int .u8 1, .int .u8 1, .int .i64 2, .int .i64 1, .bool false, .str [], .nils, .str [], .nils]] false], .int .i64 0]⟩
theorem ok9 : en9.ok Tryz.prog := ent_of_check (hk := (hookOr ext (entHook [en8, en4, en0, en1, en7]))) (lf := 3000) (K := 60) (m := 200) mixed (hookOr_ok ext_ok (entHook_ok ⟨ok8, ok4, ok0, ok1, ok7, trivial⟩)) (by kernel_rfl)
def en10 : Ent := ⟨21, 2, [.agg [.int .u8 12, .int .u8 0, .int .i64 0, .int .i64 0, .bool false, .str [], .nils, .str [], .sl 9 [.agg [.int .u8 1, .int .u8 1, .int .i64 1, .int .i64 1, .bool false, .str [], .nils, .str [], .nils], .agg [.int .u8 6, .int .u8 0, .int .i64 0, .int .i64 0, .bool false, .str [], .nils, .str [], .sl 9 [.agg [.int .u8 1, .int .u8 1, .int .i64 1, .int .i64 1, .bool false, .str [], .nils, .str [], .nils], .agg [.int .u8 1, .int .u8 1, .int .i64 0, .int .i64 1, .bool false, .str [], .nils, .str [], .nils]] true], .agg [.int .u8 1, .int .u8 1, .int .i64 2, .int .i64 1, .bool false, .str [], .nils, .str [], .nils]] false], .sl 7 [.agg [.str [120], .int .u8 1, .int .i64 2, .int .i64 1, .bool false, .str [], .nils]] true], .tup [.agg [.int .u8 0, .int .i64 0, .int .i64 0, .bool false, .str [], .nils], .int .i64 20]⟩
theorem ok10 : en10.ok Tryz.prog := ent_of_check (hk := ext) (lf := 3000) (K := 60) (m := 200) mixed ext_ok (by kernel_rfl)
def en11 : Ent := ⟨175, 8, [.int .i64 5, .int .i64 10], .str [53]⟩
theorem ok11 : en11.ok Tryz.prog := ent_of_check (hk := ext) (lf := 3000) (K := 60) (m := 200) mixed ext_ok (by kernel_rfl)
end Go.Proofs.YtfhpamcehnfhoaaGreatDoor
