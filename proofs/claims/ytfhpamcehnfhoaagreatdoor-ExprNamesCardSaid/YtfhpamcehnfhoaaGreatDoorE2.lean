/-
  CALLS RECKONED APART: gambrel/expr.read, gambrel/gambrellaw04.gives.
-/
import Derived.Test.YtfhpamcehnfhoaaGreatDoorE0
import Derived.Test.YtfhpamcehnfhoaaGreatDoorE1
import Derived.KernelRfl
namespace Go.Proofs.YtfhpamcehnfhoaaGreatDoor
open Go Go.Ab
set_option maxRecDepth 100000

def en12 : Ent := ⟨42, 3, [.str [97, 116, 40, 53, 44, 32, 116, 114, 117, 101, 41]], .tup [.agg [.int .u8 17, .int .u8 0, .int .i64 0, .int .i64 0, .bool false, .str [], .nils, .str [], .sl 9 [.agg [.int .u8 1, .int .u8 1, .int .i64 5, .int .i64 1, .bool false, .str [], .nils, .str [], .nils], .agg [.int .u8 1, .int .u8 2, .int .i64 0, .int .i64 0, .bool true, .str [], .nils, .str [], .nils]] false], .int .i64 0]⟩
theorem ok12 : en12.ok Tryz.prog := ent_of_check (hk := (hookOr ext (entHook [en11, en7]))) (lf := 3000) (K := 60) (m := 200) mixed (hookOr_ok ext_ok (entHook_ok ⟨ok11, ok7, trivial⟩)) (by kernel_rfl)
def en13 : Ent := ⟨18, 1, [.str [97, 116, 40, 53, 44, 32, 116, 114, 117, 101, 41], .agg [.int .u8 1, .int .i64 2, .int .i64 1, .bool false, .str [], .nils], .agg [.int .u8 0, .int .i64 0, .int .i64 0, .bool false, .str [], .nils], .int .i64 20], .bool true⟩
theorem ok13 : en13.ok Tryz.prog := ent_of_check (hk := (hookOr ext (entHook [en12]))) (lf := 3000) (K := 60) (m := 200) mixed (hookOr_ok ext_ok (entHook_ok ⟨ok12, trivial⟩)) (by kernel_rfl)
def en14 : Ent := ⟨42, 3, [.str [97, 116, 40, 34, 97, 98, 34, 44, 32, 49, 47, 50, 41]], .tup [.agg [.int .u8 17, .int .u8 0, .int .i64 0, .int .i64 0, .bool false, .str [], .nils, .str [], .sl 9 [.agg [.int .u8 1, .int .u8 3, .int .i64 0, .int .i64 0, .bool false, .str [97, 98], .nils, .str [], .nils], .agg [.int .u8 1, .int .u8 1, .int .i64 1, .int .i64 2, .bool false, .str [], .nils, .str [], .nils]] false], .int .i64 0]⟩
theorem ok14 : en14.ok Tryz.prog := ent_of_check (hk := (hookOr ext (entHook [en1, en8, en7]))) (lf := 3000) (K := 60) (m := 200) mixed (hookOr_ok ext_ok (entHook_ok ⟨ok1, ok8, ok7, trivial⟩)) (by kernel_rfl)
def en15 : Ent := ⟨18, 1, [.str [97, 116, 40, 34, 97, 98, 34, 44, 32, 49, 47, 50, 41], .agg [.int .u8 1, .int .i64 2, .int .i64 1, .bool false, .str [], .nils], .agg [.int .u8 0, .int .i64 0, .int .i64 0, .bool false, .str [], .nils], .int .i64 2], .bool true⟩
theorem ok15 : en15.ok Tryz.prog := ent_of_check (hk := (hookOr ext (entHook [en14]))) (lf := 3000) (K := 60) (m := 200) mixed (hookOr_ok ext_ok (entHook_ok ⟨ok14, trivial⟩)) (by kernel_rfl)
def en16 : Ent := ⟨18, 1, [.str [110, 111, 116, 40, 120, 41], .agg [.int .u8 1, .int .i64 2, .int .i64 1, .bool false, .str [], .nils], .agg [.int .u8 0, .int .i64 0, .int .i64 0, .bool false, .str [], .nils], .int .i64 20], .bool true⟩
theorem ok16 : en16.ok Tryz.prog := ent_of_check (hk := (hookOr ext (entHook [en7]))) (lf := 3000) (K := 60) (m := 200) mixed (hookOr_ok ext_ok (entHook_ok ⟨ok7, trivial⟩)) (by kernel_rfl)
def en17 : Ent := ⟨42, 3, [.str [40, 34, 97, 34, 32, 45, 32, 49, 41]], .tup [.agg [.int .u8 4, .int .u8 0, .int .i64 0, .int .i64 0, .bool false, .str [], .nils, .str [], .sl 9 [.agg [.int .u8 1, .int .u8 3, .int .i64 0, .int .i64 0, .bool false, .str [97], .nils, .str [], .nils], .agg [.int .u8 1, .int .u8 1, .int .i64 1, .int .i64 1, .bool false, .str [], .nils, .str [], .nils]] true], .int .i64 0]⟩
theorem ok17 : en17.ok Tryz.prog := ent_of_check (hk := (hookOr ext (entHook [en1, en0]))) (lf := 3000) (K := 60) (m := 200) mixed (hookOr_ok ext_ok (entHook_ok ⟨ok1, ok0, trivial⟩)) (by kernel_rfl)
def en18 : Ent := ⟨18, 1, [.str [40, 34, 97, 34, 32, 45, 32, 49, 41], .agg [.int .u8 1, .int .i64 2, .int .i64 1, .bool false, .str [], .nils], .agg [.int .u8 0, .int .i64 0, .int .i64 0, .bool false, .str [], .nils], .int .i64 20], .bool true⟩
theorem ok18 : en18.ok Tryz.prog := ent_of_check (hk := (hookOr ext (entHook [en17]))) (lf := 3000) (K := 60) (m := 200) mixed (hookOr_ok ext_ok (entHook_ok ⟨ok17, trivial⟩)) (by kernel_rfl)
def en19 : Ent := ⟨42, 3, [.str [40, 49, 32, 60, 32, 116, 114, 117, 101, 41]], .tup [.agg [.int .u8 7, .int .u8 0, .int .i64 0, .int .i64 0, .bool false, .str [], .nils, .str [], .sl 9 [.agg [.int .u8 1, .int .u8 1, .int .i64 1, .int .i64 1, .bool false, .str [], .nils, .str [], .nils], .agg [.int .u8 1, .int .u8 2, .int .i64 0, .int .i64 0, .bool true, .str [], .nils, .str [], .nils]] true], .int .i64 0]⟩
theorem ok19 : en19.ok Tryz.prog := ent_of_check (hk := (hookOr ext (entHook [en0, en1]))) (lf := 3000) (K := 60) (m := 200) mixed (hookOr_ok ext_ok (entHook_ok ⟨ok0, ok1, trivial⟩)) (by kernel_rfl)
def en20 : Ent := ⟨18, 1, [.str [40, 49, 32, 60, 32, 116, 114, 117, 101, 41], .agg [.int .u8 1, .int .i64 2, .int .i64 1, .bool false, .str [], .nils], .agg [.int .u8 0, .int .i64 0, .int .i64 0, .bool false, .str [], .nils], .int .i64 20], .bool true⟩
theorem ok20 : en20.ok Tryz.prog := ent_of_check (hk := (hookOr ext (entHook [en19]))) (lf := 3000) (K := 60) (m := 200) mixed (hookOr_ok ext_ok (entHook_ok ⟨ok19, trivial⟩)) (by kernel_rfl)
def en21 : Ent := ⟨42, 3, [.str [40, 49, 32, 61, 32, 116, 114, 117, 101, 41]], .tup [.agg [.int .u8 8, .int .u8 0, .int .i64 0, .int .i64 0, .bool false, .str [], .nils, .str [], .sl 9 [.agg [.int .u8 1, .int .u8 1, .int .i64 1, .int .i64 1, .bool false, .str [], .nils, .str [], .nils], .agg [.int .u8 1, .int .u8 2, .int .i64 0, .int .i64 0, .bool true, .str [], .nils, .str [], .nils]] true], .int .i64 0]⟩
theorem ok21 : en21.ok Tryz.prog := ent_of_check (hk := (hookOr ext (entHook [en0, en1]))) (lf := 3000) (K := 60) (m := 200) mixed (hookOr_ok ext_ok (entHook_ok ⟨ok0, ok1, trivial⟩)) (by kernel_rfl)
end Go.Proofs.YtfhpamcehnfhoaaGreatDoor
