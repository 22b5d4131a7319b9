import Derived.Test.YtoimblncdeimoaaDoorAbBin
import Derived.Test.YtoimblncdeimoaaDoorProg
namespace Go.Proofs.Tryd
open Go Go.Ab
set_option linter.unusedSimpArgs false
@[simp] theorem cellsOf1 : Program.cellsOf Tryd.prog 1 = 1 := by kernel_rfl
@[simp] theorem info1 : Tryd.prog.info? 1 = some Tryd.t1 := by kernel_rfl
@[simp] theorem tsize1 : Tryd.t1.size = 1 := rfl
@[simp] theorem tbytes1 : Tryd.t1.bytes = 8 := rfl
@[simp] theorem zeroV1 : zeroV Tryd.prog 1 = some (.nilf) := by kernel_rfl
theorem tz1 : (Tryd.t1.zero).map (fun z => z.cells.size) = some 1 := by kernel_rfl
@[simp] theorem tzero1 : ∃ z, Tryd.t1.zero = some z ∧ z.cells.size = 1 := by have h := tz1; cases hz : Tryd.t1.zero with | none => rw [hz] at h; cases h | some z => rw [hz] at h; exact ⟨z, rfl, by simpa using h⟩
@[simp] theorem rd1 (cs : List V) (off : Nat) : rd Tryd.prog 1 cs off = cs[off]? := by unfold rd; simp
@[simp] theorem cellsOf2 : Program.cellsOf Tryd.prog 2 = 1 := by kernel_rfl
@[simp] theorem info2 : Tryd.prog.info? 2 = some Tryd.t2 := by kernel_rfl
@[simp] theorem tsize2 : Tryd.t2.size = 1 := rfl
@[simp] theorem tbytes2 : Tryd.t2.bytes = 8 := rfl
@[simp] theorem zeroV2 : zeroV Tryd.prog 2 = some (.int .i64 0) := by kernel_rfl
theorem tz2 : (Tryd.t2.zero).map (fun z => z.cells.size) = some 1 := by kernel_rfl
@[simp] theorem tzero2 : ∃ z, Tryd.t2.zero = some z ∧ z.cells.size = 1 := by have h := tz2; cases hz : Tryd.t2.zero with | none => rw [hz] at h; cases h | some z => rw [hz] at h; exact ⟨z, rfl, by simpa using h⟩
@[simp] theorem rd2 (cs : List V) (off : Nat) : rd Tryd.prog 2 cs off = cs[off]? := by unfold rd; simp
@[simp] theorem cellsOf3 : Program.cellsOf Tryd.prog 3 = 1 := by kernel_rfl
@[simp] theorem info3 : Tryd.prog.info? 3 = some Tryd.t3 := by kernel_rfl
@[simp] theorem tsize3 : Tryd.t3.size = 1 := rfl
@[simp] theorem tbytes3 : Tryd.t3.bytes = 8 := rfl
@[simp] theorem zeroV3 : zeroV Tryd.prog 3 = some (.int .i64 0) := by kernel_rfl
theorem tz3 : (Tryd.t3.zero).map (fun z => z.cells.size) = some 1 := by kernel_rfl
@[simp] theorem tzero3 : ∃ z, Tryd.t3.zero = some z ∧ z.cells.size = 1 := by have h := tz3; cases hz : Tryd.t3.zero with | none => rw [hz] at h; cases h | some z => rw [hz] at h; exact ⟨z, rfl, by simpa using h⟩
@[simp] theorem rd3 (cs : List V) (off : Nat) : rd Tryd.prog 3 cs off = cs[off]? := by unfold rd; simp
@[simp] theorem cellsOf4 : Program.cellsOf Tryd.prog 4 = 1 := by kernel_rfl
@[simp] theorem info4 : Tryd.prog.info? 4 = some Tryd.t4 := by kernel_rfl
@[simp] theorem tsize4 : Tryd.t4.size = 1 := rfl
@[simp] theorem tbytes4 : Tryd.t4.bytes = 1 := rfl
@[simp] theorem zeroV4 : zeroV Tryd.prog 4 = some (.bool false) := by kernel_rfl
theorem tz4 : (Tryd.t4.zero).map (fun z => z.cells.size) = some 1 := by kernel_rfl
@[simp] theorem tzero4 : ∃ z, Tryd.t4.zero = some z ∧ z.cells.size = 1 := by have h := tz4; cases hz : Tryd.t4.zero with | none => rw [hz] at h; cases h | some z => rw [hz] at h; exact ⟨z, rfl, by simpa using h⟩
@[simp] theorem rd4 (cs : List V) (off : Nat) : rd Tryd.prog 4 cs off = cs[off]? := by unfold rd; simp
@[simp] theorem cellsOf5 : Program.cellsOf Tryd.prog 5 = 1 := by kernel_rfl
@[simp] theorem info5 : Tryd.prog.info? 5 = some Tryd.t5 := by kernel_rfl
@[simp] theorem tsize5 : Tryd.t5.size = 1 := rfl
@[simp] theorem tbytes5 : Tryd.t5.bytes = 1 := rfl
@[simp] theorem zeroV5 : zeroV Tryd.prog 5 = some (.int .u8 0) := by kernel_rfl
theorem tz5 : (Tryd.t5.zero).map (fun z => z.cells.size) = some 1 := by kernel_rfl
@[simp] theorem tzero5 : ∃ z, Tryd.t5.zero = some z ∧ z.cells.size = 1 := by have h := tz5; cases hz : Tryd.t5.zero with | none => rw [hz] at h; cases h | some z => rw [hz] at h; exact ⟨z, rfl, by simpa using h⟩
@[simp] theorem rd5 (cs : List V) (off : Nat) : rd Tryd.prog 5 cs off = cs[off]? := by unfold rd; simp
@[simp] theorem cellsOf6 : Program.cellsOf Tryd.prog 6 = 1 := by kernel_rfl
@[simp] theorem info6 : Tryd.prog.info? 6 = some Tryd.t6 := by kernel_rfl
@[simp] theorem tsize6 : Tryd.t6.size = 1 := rfl
@[simp] theorem tbytes6 : Tryd.t6.bytes = 1 := rfl
@[simp] theorem zeroV6 : zeroV Tryd.prog 6 = some (.int .u8 0) := by kernel_rfl
theorem tz6 : (Tryd.t6.zero).map (fun z => z.cells.size) = some 1 := by kernel_rfl
@[simp] theorem tzero6 : ∃ z, Tryd.t6.zero = some z ∧ z.cells.size = 1 := by have h := tz6; cases hz : Tryd.t6.zero with | none => rw [hz] at h; cases h | some z => rw [hz] at h; exact ⟨z, rfl, by simpa using h⟩
@[simp] theorem rd6 (cs : List V) (off : Nat) : rd Tryd.prog 6 cs off = cs[off]? := by unfold rd; simp
@[simp] theorem cellsOf7 : Program.cellsOf Tryd.prog 7 = 4 := by kernel_rfl
@[simp] theorem info7 : Tryd.prog.info? 7 = some Tryd.t7 := by kernel_rfl
@[simp] theorem tsize7 : Tryd.t7.size = 4 := rfl
@[simp] theorem tbytes7 : Tryd.t7.bytes = 24 := rfl
@[simp] theorem zeroV7 : zeroV Tryd.prog 7 = some (.agg [.int .i64 0, .int .i64 0, .bool false, .int .u8 0]) := by kernel_rfl
theorem tz7 : (Tryd.t7.zero).map (fun z => z.cells.size) = some 4 := by kernel_rfl
@[simp] theorem tzero7 : ∃ z, Tryd.t7.zero = some z ∧ z.cells.size = 4 := by have h := tz7; cases hz : Tryd.t7.zero with | none => rw [hz] at h; cases h | some z => rw [hz] at h; exact ⟨z, rfl, by simpa using h⟩
@[simp] theorem rd7 (cs : List V) (off : Nat) : rd Tryd.prog 7 cs off = if off + 4 ≤ cs.length then some (.agg ((cs.drop off).take 4)) else none := by unfold rd; simp
@[simp] theorem fo7_0 : fieldOff Tryd.prog 7 0 = some 0 := by kernel_rfl
@[simp] theorem pf7_0 (cs : List V) : pField Tryd.prog 7 0 (.agg cs) = rd Tryd.prog 2 cs 0 := by unfold pField; simp
@[simp] theorem fo7_1 : fieldOff Tryd.prog 7 1 = some 1 := by kernel_rfl
@[simp] theorem pf7_1 (cs : List V) : pField Tryd.prog 7 1 (.agg cs) = rd Tryd.prog 3 cs 1 := by unfold pField; simp
@[simp] theorem fo7_2 : fieldOff Tryd.prog 7 2 = some 2 := by kernel_rfl
@[simp] theorem pf7_2 (cs : List V) : pField Tryd.prog 7 2 (.agg cs) = rd Tryd.prog 4 cs 2 := by unfold pField; simp
@[simp] theorem fo7_3 : fieldOff Tryd.prog 7 3 = some 3 := by kernel_rfl
@[simp] theorem pf7_3 (cs : List V) : pField Tryd.prog 7 3 (.agg cs) = rd Tryd.prog 6 cs 3 := by unfold pField; simp
@[simp] theorem cellsOf8 : Program.cellsOf Tryd.prog 8 = 4 := by kernel_rfl
@[simp] theorem info8 : Tryd.prog.info? 8 = some Tryd.t8 := by kernel_rfl
@[simp] theorem tsize8 : Tryd.t8.size = 4 := rfl
@[simp] theorem tbytes8 : Tryd.t8.bytes = 24 := rfl
@[simp] theorem zeroV8 : zeroV Tryd.prog 8 = some (.agg [.int .i64 0, .int .i64 0, .bool false, .int .u8 0]) := by kernel_rfl
theorem tz8 : (Tryd.t8.zero).map (fun z => z.cells.size) = some 4 := by kernel_rfl
@[simp] theorem tzero8 : ∃ z, Tryd.t8.zero = some z ∧ z.cells.size = 4 := by have h := tz8; cases hz : Tryd.t8.zero with | none => rw [hz] at h; cases h | some z => rw [hz] at h; exact ⟨z, rfl, by simpa using h⟩
@[simp] theorem rd8 (cs : List V) (off : Nat) : rd Tryd.prog 8 cs off = if off + 4 ≤ cs.length then some (.agg ((cs.drop off).take 4)) else none := by unfold rd; simp
@[simp] theorem fo8_0 : fieldOff Tryd.prog 8 0 = some 0 := by kernel_rfl
@[simp] theorem pf8_0 (cs : List V) : pField Tryd.prog 8 0 (.agg cs) = rd Tryd.prog 2 cs 0 := by unfold pField; simp
@[simp] theorem fo8_1 : fieldOff Tryd.prog 8 1 = some 1 := by kernel_rfl
@[simp] theorem pf8_1 (cs : List V) : pField Tryd.prog 8 1 (.agg cs) = rd Tryd.prog 3 cs 1 := by unfold pField; simp
@[simp] theorem fo8_2 : fieldOff Tryd.prog 8 2 = some 2 := by kernel_rfl
@[simp] theorem pf8_2 (cs : List V) : pField Tryd.prog 8 2 (.agg cs) = rd Tryd.prog 4 cs 2 := by unfold pField; simp
@[simp] theorem fo8_3 : fieldOff Tryd.prog 8 3 = some 3 := by kernel_rfl
@[simp] theorem pf8_3 (cs : List V) : pField Tryd.prog 8 3 (.agg cs) = rd Tryd.prog 6 cs 3 := by unfold pField; simp
@[simp] theorem cellsOf9 : Program.cellsOf Tryd.prog 9 = 1 := by kernel_rfl
@[simp] theorem info9 : Tryd.prog.info? 9 = some Tryd.t9 := by kernel_rfl
@[simp] theorem tsize9 : Tryd.t9.size = 1 := rfl
@[simp] theorem tbytes9 : Tryd.t9.bytes = 16 := rfl
@[simp] theorem zeroV9 : zeroV Tryd.prog 9 = some (.str []) := by kernel_rfl
theorem tz9 : (Tryd.t9.zero).map (fun z => z.cells.size) = some 1 := by kernel_rfl
@[simp] theorem tzero9 : ∃ z, Tryd.t9.zero = some z ∧ z.cells.size = 1 := by have h := tz9; cases hz : Tryd.t9.zero with | none => rw [hz] at h; cases h | some z => rw [hz] at h; exact ⟨z, rfl, by simpa using h⟩
@[simp] theorem rd9 (cs : List V) (off : Nat) : rd Tryd.prog 9 cs off = cs[off]? := by unfold rd; simp
@[simp] theorem cellsOf10 : Program.cellsOf Tryd.prog 10 = 1 := by kernel_rfl
@[simp] theorem info10 : Tryd.prog.info? 10 = some Tryd.t10 := by kernel_rfl
@[simp] theorem tsize10 : Tryd.t10.size = 1 := rfl
@[simp] theorem tbytes10 : Tryd.t10.bytes = 16 := rfl
@[simp] theorem zeroV10 : zeroV Tryd.prog 10 = some (.str []) := by kernel_rfl
theorem tz10 : (Tryd.t10.zero).map (fun z => z.cells.size) = some 1 := by kernel_rfl
@[simp] theorem tzero10 : ∃ z, Tryd.t10.zero = some z ∧ z.cells.size = 1 := by have h := tz10; cases hz : Tryd.t10.zero with | none => rw [hz] at h; cases h | some z => rw [hz] at h; exact ⟨z, rfl, by simpa using h⟩
@[simp] theorem rd10 (cs : List V) (off : Nat) : rd Tryd.prog 10 cs off = cs[off]? := by unfold rd; simp
@[simp] theorem cellsOf11 : Program.cellsOf Tryd.prog 11 = 1 := by kernel_rfl
@[simp] theorem info11 : Tryd.prog.info? 11 = some Tryd.t11 := by kernel_rfl
@[simp] theorem tsize11 : Tryd.t11.size = 1 := rfl
@[simp] theorem tbytes11 : Tryd.t11.bytes = 16 := rfl
@[simp] theorem zeroV11 : zeroV Tryd.prog 11 = some (.str []) := by kernel_rfl
theorem tz11 : (Tryd.t11.zero).map (fun z => z.cells.size) = some 1 := by kernel_rfl
@[simp] theorem tzero11 : ∃ z, Tryd.t11.zero = some z ∧ z.cells.size = 1 := by have h := tz11; cases hz : Tryd.t11.zero with | none => rw [hz] at h; cases h | some z => rw [hz] at h; exact ⟨z, rfl, by simpa using h⟩
@[simp] theorem rd11 (cs : List V) (off : Nat) : rd Tryd.prog 11 cs off = cs[off]? := by unfold rd; simp
@[simp] theorem cellsOf12 : Program.cellsOf Tryd.prog 12 = 1 := by kernel_rfl
@[simp] theorem info12 : Tryd.prog.info? 12 = some Tryd.t12 := by kernel_rfl
@[simp] theorem tsize12 : Tryd.t12.size = 1 := rfl
@[simp] theorem tbytes12 : Tryd.t12.bytes = 8 := rfl
@[simp] theorem zeroV12 : zeroV Tryd.prog 12 = some (.int .u64 0) := by kernel_rfl
theorem tz12 : (Tryd.t12.zero).map (fun z => z.cells.size) = some 1 := by kernel_rfl
@[simp] theorem tzero12 : ∃ z, Tryd.t12.zero = some z ∧ z.cells.size = 1 := by have h := tz12; cases hz : Tryd.t12.zero with | none => rw [hz] at h; cases h | some z => rw [hz] at h; exact ⟨z, rfl, by simpa using h⟩
@[simp] theorem rd12 (cs : List V) (off : Nat) : rd Tryd.prog 12 cs off = cs[off]? := by unfold rd; simp
@[simp] theorem cellsOf13 : Program.cellsOf Tryd.prog 13 = 2 := by kernel_rfl
@[simp] theorem info13 : Tryd.prog.info? 13 = some Tryd.t13 := by kernel_rfl
@[simp] theorem tsize13 : Tryd.t13.size = 2 := rfl
@[simp] theorem tbytes13 : Tryd.t13.bytes = 24 := rfl
@[simp] theorem zeroV13 : zeroV Tryd.prog 13 = some (.agg [.str [], .int .u64 0]) := by kernel_rfl
theorem tz13 : (Tryd.t13.zero).map (fun z => z.cells.size) = some 2 := by kernel_rfl
@[simp] theorem tzero13 : ∃ z, Tryd.t13.zero = some z ∧ z.cells.size = 2 := by have h := tz13; cases hz : Tryd.t13.zero with | none => rw [hz] at h; cases h | some z => rw [hz] at h; exact ⟨z, rfl, by simpa using h⟩
@[simp] theorem rd13 (cs : List V) (off : Nat) : rd Tryd.prog 13 cs off = if off + 2 ≤ cs.length then some (.agg ((cs.drop off).take 2)) else none := by unfold rd; simp
@[simp] theorem fo13_0 : fieldOff Tryd.prog 13 0 = some 0 := by kernel_rfl
@[simp] theorem pf13_0 (cs : List V) : pField Tryd.prog 13 0 (.agg cs) = rd Tryd.prog 9 cs 0 := by unfold pField; simp
@[simp] theorem fo13_1 : fieldOff Tryd.prog 13 1 = some 1 := by kernel_rfl
@[simp] theorem pf13_1 (cs : List V) : pField Tryd.prog 13 1 (.agg cs) = rd Tryd.prog 12 cs 1 := by unfold pField; simp
@[simp] theorem cellsOf14 : Program.cellsOf Tryd.prog 14 = 2 := by kernel_rfl
@[simp] theorem info14 : Tryd.prog.info? 14 = some Tryd.t14 := by kernel_rfl
@[simp] theorem tsize14 : Tryd.t14.size = 2 := rfl
@[simp] theorem tbytes14 : Tryd.t14.bytes = 24 := rfl
@[simp] theorem zeroV14 : zeroV Tryd.prog 14 = some (.agg [.str [], .int .u64 0]) := by kernel_rfl
theorem tz14 : (Tryd.t14.zero).map (fun z => z.cells.size) = some 2 := by kernel_rfl
@[simp] theorem tzero14 : ∃ z, Tryd.t14.zero = some z ∧ z.cells.size = 2 := by have h := tz14; cases hz : Tryd.t14.zero with | none => rw [hz] at h; cases h | some z => rw [hz] at h; exact ⟨z, rfl, by simpa using h⟩
@[simp] theorem rd14 (cs : List V) (off : Nat) : rd Tryd.prog 14 cs off = if off + 2 ≤ cs.length then some (.agg ((cs.drop off).take 2)) else none := by unfold rd; simp
@[simp] theorem fo14_0 : fieldOff Tryd.prog 14 0 = some 0 := by kernel_rfl
@[simp] theorem pf14_0 (cs : List V) : pField Tryd.prog 14 0 (.agg cs) = rd Tryd.prog 9 cs 0 := by unfold pField; simp
@[simp] theorem fo14_1 : fieldOff Tryd.prog 14 1 = some 1 := by kernel_rfl
@[simp] theorem pf14_1 (cs : List V) : pField Tryd.prog 14 1 (.agg cs) = rd Tryd.prog 12 cs 1 := by unfold pField; simp
@[simp] theorem cellsOf15 : Program.cellsOf Tryd.prog 15 = 1 := by kernel_rfl
@[simp] theorem info15 : Tryd.prog.info? 15 = some Tryd.t15 := by kernel_rfl
@[simp] theorem tsize15 : Tryd.t15.size = 1 := rfl
@[simp] theorem tbytes15 : Tryd.t15.bytes = 8 := rfl
@[simp] theorem zeroV15 : zeroV Tryd.prog 15 = some (.nilp) := by kernel_rfl
theorem tz15 : (Tryd.t15.zero).map (fun z => z.cells.size) = some 1 := by kernel_rfl
@[simp] theorem tzero15 : ∃ z, Tryd.t15.zero = some z ∧ z.cells.size = 1 := by have h := tz15; cases hz : Tryd.t15.zero with | none => rw [hz] at h; cases h | some z => rw [hz] at h; exact ⟨z, rfl, by simpa using h⟩
@[simp] theorem rd15 (cs : List V) (off : Nat) : rd Tryd.prog 15 cs off = cs[off]? := by unfold rd; simp
@[simp] theorem cellsOf16 : Program.cellsOf Tryd.prog 16 = 1 := by kernel_rfl
@[simp] theorem info16 : Tryd.prog.info? 16 = some Tryd.t16 := by kernel_rfl
@[simp] theorem tsize16 : Tryd.t16.size = 1 := rfl
@[simp] theorem tbytes16 : Tryd.t16.bytes = 8 := rfl
@[simp] theorem zeroV16 : zeroV Tryd.prog 16 = some (.nilp) := by kernel_rfl
theorem tz16 : (Tryd.t16.zero).map (fun z => z.cells.size) = some 1 := by kernel_rfl
@[simp] theorem tzero16 : ∃ z, Tryd.t16.zero = some z ∧ z.cells.size = 1 := by have h := tz16; cases hz : Tryd.t16.zero with | none => rw [hz] at h; cases h | some z => rw [hz] at h; exact ⟨z, rfl, by simpa using h⟩
@[simp] theorem rd16 (cs : List V) (off : Nat) : rd Tryd.prog 16 cs off = cs[off]? := by unfold rd; simp
@[simp] theorem cellsOf17 : Program.cellsOf Tryd.prog 17 = 1 := by kernel_rfl
@[simp] theorem info17 : Tryd.prog.info? 17 = some Tryd.t17 := by kernel_rfl
@[simp] theorem tsize17 : Tryd.t17.size = 1 := rfl
@[simp] theorem tbytes17 : Tryd.t17.bytes = 8 := rfl
@[simp] theorem zeroV17 : zeroV Tryd.prog 17 = some (.nilp) := by kernel_rfl
theorem tz17 : (Tryd.t17.zero).map (fun z => z.cells.size) = some 1 := by kernel_rfl
@[simp] theorem tzero17 : ∃ z, Tryd.t17.zero = some z ∧ z.cells.size = 1 := by have h := tz17; cases hz : Tryd.t17.zero with | none => rw [hz] at h; cases h | some z => rw [hz] at h; exact ⟨z, rfl, by simpa using h⟩
@[simp] theorem rd17 (cs : List V) (off : Nat) : rd Tryd.prog 17 cs off = cs[off]? := by unfold rd; simp
@[simp] theorem cellsOf18 : Program.cellsOf Tryd.prog 18 = 1 := by kernel_rfl
@[simp] theorem info18 : Tryd.prog.info? 18 = some Tryd.t18 := by kernel_rfl
@[simp] theorem tsize18 : Tryd.t18.size = 1 := rfl
@[simp] theorem tbytes18 : Tryd.t18.bytes = 8 := rfl
@[simp] theorem zeroV18 : zeroV Tryd.prog 18 = some (.agg [.nilp]) := by kernel_rfl
theorem tz18 : (Tryd.t18.zero).map (fun z => z.cells.size) = some 1 := by kernel_rfl
@[simp] theorem tzero18 : ∃ z, Tryd.t18.zero = some z ∧ z.cells.size = 1 := by have h := tz18; cases hz : Tryd.t18.zero with | none => rw [hz] at h; cases h | some z => rw [hz] at h; exact ⟨z, rfl, by simpa using h⟩
@[simp] theorem rd18 (cs : List V) (off : Nat) : rd Tryd.prog 18 cs off = if off + 1 ≤ cs.length then some (.agg ((cs.drop off).take 1)) else none := by unfold rd; simp
@[simp] theorem fo18_0 : fieldOff Tryd.prog 18 0 = some 0 := by kernel_rfl
@[simp] theorem pf18_0 (cs : List V) : pField Tryd.prog 18 0 (.agg cs) = rd Tryd.prog 17 cs 0 := by unfold pField; simp
@[simp] theorem cellsOf19 : Program.cellsOf Tryd.prog 19 = 1 := by kernel_rfl
@[simp] theorem info19 : Tryd.prog.info? 19 = some Tryd.t19 := by kernel_rfl
@[simp] theorem tsize19 : Tryd.t19.size = 1 := rfl
@[simp] theorem tbytes19 : Tryd.t19.bytes = 8 := rfl
@[simp] theorem zeroV19 : zeroV Tryd.prog 19 = some (.agg [.nilp]) := by kernel_rfl
theorem tz19 : (Tryd.t19.zero).map (fun z => z.cells.size) = some 1 := by kernel_rfl
@[simp] theorem tzero19 : ∃ z, Tryd.t19.zero = some z ∧ z.cells.size = 1 := by have h := tz19; cases hz : Tryd.t19.zero with | none => rw [hz] at h; cases h | some z => rw [hz] at h; exact ⟨z, rfl, by simpa using h⟩
@[simp] theorem rd19 (cs : List V) (off : Nat) : rd Tryd.prog 19 cs off = if off + 1 ≤ cs.length then some (.agg ((cs.drop off).take 1)) else none := by unfold rd; simp
@[simp] theorem fo19_0 : fieldOff Tryd.prog 19 0 = some 0 := by kernel_rfl
@[simp] theorem pf19_0 (cs : List V) : pField Tryd.prog 19 0 (.agg cs) = rd Tryd.prog 17 cs 0 := by unfold pField; simp
@[simp] theorem cellsOf20 : Program.cellsOf Tryd.prog 20 = 1 := by kernel_rfl
@[simp] theorem info20 : Tryd.prog.info? 20 = some Tryd.t20 := by kernel_rfl
@[simp] theorem tsize20 : Tryd.t20.size = 1 := rfl
@[simp] theorem tbytes20 : Tryd.t20.bytes = 16 := rfl
@[simp] theorem zeroV20 : zeroV Tryd.prog 20 = some (.nili) := by kernel_rfl
theorem tz20 : (Tryd.t20.zero).map (fun z => z.cells.size) = some 1 := by kernel_rfl
@[simp] theorem tzero20 : ∃ z, Tryd.t20.zero = some z ∧ z.cells.size = 1 := by have h := tz20; cases hz : Tryd.t20.zero with | none => rw [hz] at h; cases h | some z => rw [hz] at h; exact ⟨z, rfl, by simpa using h⟩
@[simp] theorem rd20 (cs : List V) (off : Nat) : rd Tryd.prog 20 cs off = cs[off]? := by unfold rd; simp
@[simp] theorem cellsOf21 : Program.cellsOf Tryd.prog 21 = 1 := by kernel_rfl
@[simp] theorem info21 : Tryd.prog.info? 21 = some Tryd.t21 := by kernel_rfl
@[simp] theorem tsize21 : Tryd.t21.size = 1 := rfl
@[simp] theorem tbytes21 : Tryd.t21.bytes = 4 := rfl
@[simp] theorem zeroV21 : zeroV Tryd.prog 21 = some (.int .i32 0) := by kernel_rfl
theorem tz21 : (Tryd.t21.zero).map (fun z => z.cells.size) = some 1 := by kernel_rfl
@[simp] theorem tzero21 : ∃ z, Tryd.t21.zero = some z ∧ z.cells.size = 1 := by have h := tz21; cases hz : Tryd.t21.zero with | none => rw [hz] at h; cases h | some z => rw [hz] at h; exact ⟨z, rfl, by simpa using h⟩
@[simp] theorem rd21 (cs : List V) (off : Nat) : rd Tryd.prog 21 cs off = cs[off]? := by unfold rd; simp
@[simp] theorem cellsOf22 : Program.cellsOf Tryd.prog 22 = 1 := by kernel_rfl
@[simp] theorem info22 : Tryd.prog.info? 22 = some Tryd.t22 := by kernel_rfl
@[simp] theorem tsize22 : Tryd.t22.size = 1 := rfl
@[simp] theorem tbytes22 : Tryd.t22.bytes = 24 := rfl
@[simp] theorem zeroV22 : zeroV Tryd.prog 22 = some (.nils) := by kernel_rfl
theorem tz22 : (Tryd.t22.zero).map (fun z => z.cells.size) = some 1 := by kernel_rfl
@[simp] theorem tzero22 : ∃ z, Tryd.t22.zero = some z ∧ z.cells.size = 1 := by have h := tz22; cases hz : Tryd.t22.zero with | none => rw [hz] at h; cases h | some z => rw [hz] at h; exact ⟨z, rfl, by simpa using h⟩
@[simp] theorem rd22 (cs : List V) (off : Nat) : rd Tryd.prog 22 cs off = cs[off]? := by unfold rd; simp
@[simp] theorem cellsOf23 : Program.cellsOf Tryd.prog 23 = 1 := by kernel_rfl
@[simp] theorem info23 : Tryd.prog.info? 23 = some Tryd.t23 := by kernel_rfl
@[simp] theorem tsize23 : Tryd.t23.size = 1 := rfl
@[simp] theorem tbytes23 : Tryd.t23.bytes = 8 := rfl
@[simp] theorem zeroV23 : zeroV Tryd.prog 23 = some (.nilf) := by kernel_rfl
theorem tz23 : (Tryd.t23.zero).map (fun z => z.cells.size) = some 1 := by kernel_rfl
@[simp] theorem tzero23 : ∃ z, Tryd.t23.zero = some z ∧ z.cells.size = 1 := by have h := tz23; cases hz : Tryd.t23.zero with | none => rw [hz] at h; cases h | some z => rw [hz] at h; exact ⟨z, rfl, by simpa using h⟩
@[simp] theorem rd23 (cs : List V) (off : Nat) : rd Tryd.prog 23 cs off = cs[off]? := by unfold rd; simp
@[simp] theorem cellsOf24 : Program.cellsOf Tryd.prog 24 = 1 := by kernel_rfl
@[simp] theorem info24 : Tryd.prog.info? 24 = some Tryd.t24 := by kernel_rfl
@[simp] theorem tsize24 : Tryd.t24.size = 1 := rfl
@[simp] theorem tbytes24 : Tryd.t24.bytes = 8 := rfl
@[simp] theorem zeroV24 : zeroV Tryd.prog 24 = some (.int .i64 0) := by kernel_rfl
theorem tz24 : (Tryd.t24.zero).map (fun z => z.cells.size) = some 1 := by kernel_rfl
@[simp] theorem tzero24 : ∃ z, Tryd.t24.zero = some z ∧ z.cells.size = 1 := by have h := tz24; cases hz : Tryd.t24.zero with | none => rw [hz] at h; cases h | some z => rw [hz] at h; exact ⟨z, rfl, by simpa using h⟩
@[simp] theorem rd24 (cs : List V) (off : Nat) : rd Tryd.prog 24 cs off = cs[off]? := by unfold rd; simp
@[simp] theorem cellsOf26 : Program.cellsOf Tryd.prog 26 = 1 := by kernel_rfl
@[simp] theorem info26 : Tryd.prog.info? 26 = some Tryd.t26 := by kernel_rfl
@[simp] theorem tsize26 : Tryd.t26.size = 1 := rfl
@[simp] theorem tbytes26 : Tryd.t26.bytes = 8 := rfl
@[simp] theorem zeroV26 : zeroV Tryd.prog 26 = some (.nilf) := by kernel_rfl
theorem tz26 : (Tryd.t26.zero).map (fun z => z.cells.size) = some 1 := by kernel_rfl
@[simp] theorem tzero26 : ∃ z, Tryd.t26.zero = some z ∧ z.cells.size = 1 := by have h := tz26; cases hz : Tryd.t26.zero with | none => rw [hz] at h; cases h | some z => rw [hz] at h; exact ⟨z, rfl, by simpa using h⟩
@[simp] theorem rd26 (cs : List V) (off : Nat) : rd Tryd.prog 26 cs off = cs[off]? := by unfold rd; simp
@[simp] theorem cellsOf28 : Program.cellsOf Tryd.prog 28 = 1 := by kernel_rfl
@[simp] theorem info28 : Tryd.prog.info? 28 = some Tryd.t28 := by kernel_rfl
@[simp] theorem tsize28 : Tryd.t28.size = 1 := rfl
@[simp] theorem tbytes28 : Tryd.t28.bytes = 8 := rfl
@[simp] theorem zeroV28 : zeroV Tryd.prog 28 = some (.nilf) := by kernel_rfl
theorem tz28 : (Tryd.t28.zero).map (fun z => z.cells.size) = some 1 := by kernel_rfl
@[simp] theorem tzero28 : ∃ z, Tryd.t28.zero = some z ∧ z.cells.size = 1 := by have h := tz28; cases hz : Tryd.t28.zero with | none => rw [hz] at h; cases h | some z => rw [hz] at h; exact ⟨z, rfl, by simpa using h⟩
@[simp] theorem rd28 (cs : List V) (off : Nat) : rd Tryd.prog 28 cs off = cs[off]? := by unfold rd; simp
@[simp] theorem cellsOf29 : Program.cellsOf Tryd.prog 29 = 1 := by kernel_rfl
@[simp] theorem info29 : Tryd.prog.info? 29 = some Tryd.t29 := by kernel_rfl
@[simp] theorem tsize29 : Tryd.t29.size = 1 := rfl
@[simp] theorem tbytes29 : Tryd.t29.bytes = 8 := rfl
@[simp] theorem zeroV29 : zeroV Tryd.prog 29 = some (.nilf) := by kernel_rfl
theorem tz29 : (Tryd.t29.zero).map (fun z => z.cells.size) = some 1 := by kernel_rfl
@[simp] theorem tzero29 : ∃ z, Tryd.t29.zero = some z ∧ z.cells.size = 1 := by have h := tz29; cases hz : Tryd.t29.zero with | none => rw [hz] at h; cases h | some z => rw [hz] at h; exact ⟨z, rfl, by simpa using h⟩
@[simp] theorem rd29 (cs : List V) (off : Nat) : rd Tryd.prog 29 cs off = cs[off]? := by unfold rd; simp
@[simp] theorem cellsOf30 : Program.cellsOf Tryd.prog 30 = 1 := by kernel_rfl
@[simp] theorem info30 : Tryd.prog.info? 30 = some Tryd.t30 := by kernel_rfl
@[simp] theorem tsize30 : Tryd.t30.size = 1 := rfl
@[simp] theorem tbytes30 : Tryd.t30.bytes = 8 := rfl
@[simp] theorem zeroV30 : zeroV Tryd.prog 30 = some (.nilf) := by kernel_rfl
theorem tz30 : (Tryd.t30.zero).map (fun z => z.cells.size) = some 1 := by kernel_rfl
@[simp] theorem tzero30 : ∃ z, Tryd.t30.zero = some z ∧ z.cells.size = 1 := by have h := tz30; cases hz : Tryd.t30.zero with | none => rw [hz] at h; cases h | some z => rw [hz] at h; exact ⟨z, rfl, by simpa using h⟩
@[simp] theorem rd30 (cs : List V) (off : Nat) : rd Tryd.prog 30 cs off = cs[off]? := by unfold rd; simp
@[simp] theorem cellsOf31 : Program.cellsOf Tryd.prog 31 = 3 := by kernel_rfl
@[simp] theorem info31 : Tryd.prog.info? 31 = some Tryd.t31 := by kernel_rfl
@[simp] theorem tsize31 : Tryd.t31.size = 3 := rfl
@[simp] theorem tbytes31 : Tryd.t31.bytes = 40 := rfl
@[simp] theorem zeroV31 : zeroV Tryd.prog 31 = some (.agg [.str [], .int .u8 0, .str []]) := by kernel_rfl
theorem tz31 : (Tryd.t31.zero).map (fun z => z.cells.size) = some 3 := by kernel_rfl
@[simp] theorem tzero31 : ∃ z, Tryd.t31.zero = some z ∧ z.cells.size = 3 := by have h := tz31; cases hz : Tryd.t31.zero with | none => rw [hz] at h; cases h | some z => rw [hz] at h; exact ⟨z, rfl, by simpa using h⟩
@[simp] theorem rd31 (cs : List V) (off : Nat) : rd Tryd.prog 31 cs off = if off + 3 ≤ cs.length then some (.agg ((cs.drop off).take 3)) else none := by unfold rd; simp
@[simp] theorem fo31_0 : fieldOff Tryd.prog 31 0 = some 0 := by kernel_rfl
@[simp] theorem pf31_0 (cs : List V) : pField Tryd.prog 31 0 (.agg cs) = rd Tryd.prog 9 cs 0 := by unfold pField; simp
@[simp] theorem fo31_1 : fieldOff Tryd.prog 31 1 = some 1 := by kernel_rfl
@[simp] theorem pf31_1 (cs : List V) : pField Tryd.prog 31 1 (.agg cs) = rd Tryd.prog 5 cs 1 := by unfold pField; simp
@[simp] theorem fo31_2 : fieldOff Tryd.prog 31 2 = some 2 := by kernel_rfl
@[simp] theorem pf31_2 (cs : List V) : pField Tryd.prog 31 2 (.agg cs) = rd Tryd.prog 9 cs 2 := by unfold pField; simp
@[simp] theorem cellsOf32 : Program.cellsOf Tryd.prog 32 = 3 := by kernel_rfl
@[simp] theorem info32 : Tryd.prog.info? 32 = some Tryd.t32 := by kernel_rfl
@[simp] theorem tsize32 : Tryd.t32.size = 3 := rfl
@[simp] theorem tbytes32 : Tryd.t32.bytes = 40 := rfl
@[simp] theorem zeroV32 : zeroV Tryd.prog 32 = some (.agg [.str [], .int .u8 0, .str []]) := by kernel_rfl
theorem tz32 : (Tryd.t32.zero).map (fun z => z.cells.size) = some 3 := by kernel_rfl
@[simp] theorem tzero32 : ∃ z, Tryd.t32.zero = some z ∧ z.cells.size = 3 := by have h := tz32; cases hz : Tryd.t32.zero with | none => rw [hz] at h; cases h | some z => rw [hz] at h; exact ⟨z, rfl, by simpa using h⟩
@[simp] theorem rd32 (cs : List V) (off : Nat) : rd Tryd.prog 32 cs off = if off + 3 ≤ cs.length then some (.agg ((cs.drop off).take 3)) else none := by unfold rd; simp
@[simp] theorem fo32_0 : fieldOff Tryd.prog 32 0 = some 0 := by kernel_rfl
@[simp] theorem pf32_0 (cs : List V) : pField Tryd.prog 32 0 (.agg cs) = rd Tryd.prog 9 cs 0 := by unfold pField; simp
@[simp] theorem fo32_1 : fieldOff Tryd.prog 32 1 = some 1 := by kernel_rfl
@[simp] theorem pf32_1 (cs : List V) : pField Tryd.prog 32 1 (.agg cs) = rd Tryd.prog 5 cs 1 := by unfold pField; simp
@[simp] theorem fo32_2 : fieldOff Tryd.prog 32 2 = some 2 := by kernel_rfl
@[simp] theorem pf32_2 (cs : List V) : pField Tryd.prog 32 2 (.agg cs) = rd Tryd.prog 9 cs 2 := by unfold pField; simp
@[simp] theorem cellsOf33 : Program.cellsOf Tryd.prog 33 = 1 := by kernel_rfl
@[simp] theorem info33 : Tryd.prog.info? 33 = some Tryd.t33 := by kernel_rfl
@[simp] theorem tsize33 : Tryd.t33.size = 1 := rfl
@[simp] theorem tbytes33 : Tryd.t33.bytes = 24 := rfl
@[simp] theorem zeroV33 : zeroV Tryd.prog 33 = some (.nils) := by kernel_rfl
theorem tz33 : (Tryd.t33.zero).map (fun z => z.cells.size) = some 1 := by kernel_rfl
@[simp] theorem tzero33 : ∃ z, Tryd.t33.zero = some z ∧ z.cells.size = 1 := by have h := tz33; cases hz : Tryd.t33.zero with | none => rw [hz] at h; cases h | some z => rw [hz] at h; exact ⟨z, rfl, by simpa using h⟩
@[simp] theorem rd33 (cs : List V) (off : Nat) : rd Tryd.prog 33 cs off = cs[off]? := by unfold rd; simp
@[simp] theorem cellsOf35 : Program.cellsOf Tryd.prog 35 = 1 := by kernel_rfl
@[simp] theorem info35 : Tryd.prog.info? 35 = some Tryd.t35 := by kernel_rfl
@[simp] theorem tsize35 : Tryd.t35.size = 1 := rfl
@[simp] theorem tbytes35 : Tryd.t35.bytes = 8 := rfl
@[simp] theorem zeroV35 : zeroV Tryd.prog 35 = some (.nilf) := by kernel_rfl
theorem tz35 : (Tryd.t35.zero).map (fun z => z.cells.size) = some 1 := by kernel_rfl
@[simp] theorem tzero35 : ∃ z, Tryd.t35.zero = some z ∧ z.cells.size = 1 := by have h := tz35; cases hz : Tryd.t35.zero with | none => rw [hz] at h; cases h | some z => rw [hz] at h; exact ⟨z, rfl, by simpa using h⟩
@[simp] theorem rd35 (cs : List V) (off : Nat) : rd Tryd.prog 35 cs off = cs[off]? := by unfold rd; simp
@[simp] theorem cellsOf36 : Program.cellsOf Tryd.prog 36 = 1 := by kernel_rfl
@[simp] theorem info36 : Tryd.prog.info? 36 = some Tryd.t36 := by kernel_rfl
@[simp] theorem tsize36 : Tryd.t36.size = 1 := rfl
@[simp] theorem tbytes36 : Tryd.t36.bytes = 8 := rfl
@[simp] theorem zeroV36 : zeroV Tryd.prog 36 = some (.nilf) := by kernel_rfl
theorem tz36 : (Tryd.t36.zero).map (fun z => z.cells.size) = some 1 := by kernel_rfl
@[simp] theorem tzero36 : ∃ z, Tryd.t36.zero = some z ∧ z.cells.size = 1 := by have h := tz36; cases hz : Tryd.t36.zero with | none => rw [hz] at h; cases h | some z => rw [hz] at h; exact ⟨z, rfl, by simpa using h⟩
@[simp] theorem rd36 (cs : List V) (off : Nat) : rd Tryd.prog 36 cs off = cs[off]? := by unfold rd; simp
@[simp] theorem cellsOf37 : Program.cellsOf Tryd.prog 37 = 1 := by kernel_rfl
@[simp] theorem info37 : Tryd.prog.info? 37 = some Tryd.t37 := by kernel_rfl
@[simp] theorem tsize37 : Tryd.t37.size = 1 := rfl
@[simp] theorem tbytes37 : Tryd.t37.bytes = 24 := rfl
@[simp] theorem zeroV37 : zeroV Tryd.prog 37 = some (.nils) := by kernel_rfl
theorem tz37 : (Tryd.t37.zero).map (fun z => z.cells.size) = some 1 := by kernel_rfl
@[simp] theorem tzero37 : ∃ z, Tryd.t37.zero = some z ∧ z.cells.size = 1 := by have h := tz37; cases hz : Tryd.t37.zero with | none => rw [hz] at h; cases h | some z => rw [hz] at h; exact ⟨z, rfl, by simpa using h⟩
@[simp] theorem rd37 (cs : List V) (off : Nat) : rd Tryd.prog 37 cs off = cs[off]? := by unfold rd; simp
@[simp] theorem cellsOf38 : Program.cellsOf Tryd.prog 38 = 1 := by kernel_rfl
@[simp] theorem info38 : Tryd.prog.info? 38 = some Tryd.t38 := by kernel_rfl
@[simp] theorem tsize38 : Tryd.t38.size = 1 := rfl
@[simp] theorem tbytes38 : Tryd.t38.bytes = 8 := rfl
@[simp] theorem zeroV38 : zeroV Tryd.prog 38 = some (.nilf) := by kernel_rfl
theorem tz38 : (Tryd.t38.zero).map (fun z => z.cells.size) = some 1 := by kernel_rfl
@[simp] theorem tzero38 : ∃ z, Tryd.t38.zero = some z ∧ z.cells.size = 1 := by have h := tz38; cases hz : Tryd.t38.zero with | none => rw [hz] at h; cases h | some z => rw [hz] at h; exact ⟨z, rfl, by simpa using h⟩
@[simp] theorem rd38 (cs : List V) (off : Nat) : rd Tryd.prog 38 cs off = cs[off]? := by unfold rd; simp
@[simp] theorem cellsOf40 : Program.cellsOf Tryd.prog 40 = 1 := by kernel_rfl
@[simp] theorem info40 : Tryd.prog.info? 40 = some Tryd.t40 := by kernel_rfl
@[simp] theorem tsize40 : Tryd.t40.size = 1 := rfl
@[simp] theorem tbytes40 : Tryd.t40.bytes = 8 := rfl
@[simp] theorem zeroV40 : zeroV Tryd.prog 40 = some (.nilf) := by kernel_rfl
theorem tz40 : (Tryd.t40.zero).map (fun z => z.cells.size) = some 1 := by kernel_rfl
@[simp] theorem tzero40 : ∃ z, Tryd.t40.zero = some z ∧ z.cells.size = 1 := by have h := tz40; cases hz : Tryd.t40.zero with | none => rw [hz] at h; cases h | some z => rw [hz] at h; exact ⟨z, rfl, by simpa using h⟩
@[simp] theorem rd40 (cs : List V) (off : Nat) : rd Tryd.prog 40 cs off = cs[off]? := by unfold rd; simp
@[simp] theorem cellsOf41 : Program.cellsOf Tryd.prog 41 = 1 := by kernel_rfl
@[simp] theorem info41 : Tryd.prog.info? 41 = some Tryd.t41 := by kernel_rfl
@[simp] theorem tsize41 : Tryd.t41.size = 1 := rfl
@[simp] theorem tbytes41 : Tryd.t41.bytes = 8 := rfl
@[simp] theorem zeroV41 : zeroV Tryd.prog 41 = some (.nilf) := by kernel_rfl
theorem tz41 : (Tryd.t41.zero).map (fun z => z.cells.size) = some 1 := by kernel_rfl
@[simp] theorem tzero41 : ∃ z, Tryd.t41.zero = some z ∧ z.cells.size = 1 := by have h := tz41; cases hz : Tryd.t41.zero with | none => rw [hz] at h; cases h | some z => rw [hz] at h; exact ⟨z, rfl, by simpa using h⟩
@[simp] theorem rd41 (cs : List V) (off : Nat) : rd Tryd.prog 41 cs off = cs[off]? := by unfold rd; simp
@[simp] theorem cellsOf42 : Program.cellsOf Tryd.prog 42 = 1 := by kernel_rfl
@[simp] theorem info42 : Tryd.prog.info? 42 = some Tryd.t42 := by kernel_rfl
@[simp] theorem tsize42 : Tryd.t42.size = 1 := rfl
@[simp] theorem tbytes42 : Tryd.t42.bytes = 8 := rfl
@[simp] theorem zeroV42 : zeroV Tryd.prog 42 = some (.nilf) := by kernel_rfl
theorem tz42 : (Tryd.t42.zero).map (fun z => z.cells.size) = some 1 := by kernel_rfl
@[simp] theorem tzero42 : ∃ z, Tryd.t42.zero = some z ∧ z.cells.size = 1 := by have h := tz42; cases hz : Tryd.t42.zero with | none => rw [hz] at h; cases h | some z => rw [hz] at h; exact ⟨z, rfl, by simpa using h⟩
@[simp] theorem rd42 (cs : List V) (off : Nat) : rd Tryd.prog 42 cs off = cs[off]? := by unfold rd; simp
@[simp] theorem cellsOf43 : Program.cellsOf Tryd.prog 43 = 1 := by kernel_rfl
@[simp] theorem info43 : Tryd.prog.info? 43 = some Tryd.t43 := by kernel_rfl
@[simp] theorem tsize43 : Tryd.t43.size = 1 := rfl
@[simp] theorem tbytes43 : Tryd.t43.bytes = 8 := rfl
@[simp] theorem zeroV43 : zeroV Tryd.prog 43 = some (.nilf) := by kernel_rfl
theorem tz43 : (Tryd.t43.zero).map (fun z => z.cells.size) = some 1 := by kernel_rfl
@[simp] theorem tzero43 : ∃ z, Tryd.t43.zero = some z ∧ z.cells.size = 1 := by have h := tz43; cases hz : Tryd.t43.zero with | none => rw [hz] at h; cases h | some z => rw [hz] at h; exact ⟨z, rfl, by simpa using h⟩
@[simp] theorem rd43 (cs : List V) (off : Nat) : rd Tryd.prog 43 cs off = cs[off]? := by unfold rd; simp
@[simp] theorem cellsOf44 : Program.cellsOf Tryd.prog 44 = 1 := by kernel_rfl
@[simp] theorem info44 : Tryd.prog.info? 44 = some Tryd.t44 := by kernel_rfl
@[simp] theorem tsize44 : Tryd.t44.size = 1 := rfl
@[simp] theorem tbytes44 : Tryd.t44.bytes = 24 := rfl
@[simp] theorem zeroV44 : zeroV Tryd.prog 44 = some (.nils) := by kernel_rfl
theorem tz44 : (Tryd.t44.zero).map (fun z => z.cells.size) = some 1 := by kernel_rfl
@[simp] theorem tzero44 : ∃ z, Tryd.t44.zero = some z ∧ z.cells.size = 1 := by have h := tz44; cases hz : Tryd.t44.zero with | none => rw [hz] at h; cases h | some z => rw [hz] at h; exact ⟨z, rfl, by simpa using h⟩
@[simp] theorem rd44 (cs : List V) (off : Nat) : rd Tryd.prog 44 cs off = cs[off]? := by unfold rd; simp
@[simp] theorem cellsOf45 : Program.cellsOf Tryd.prog 45 = 1 := by kernel_rfl
@[simp] theorem info45 : Tryd.prog.info? 45 = some Tryd.t45 := by kernel_rfl
@[simp] theorem tsize45 : Tryd.t45.size = 1 := rfl
@[simp] theorem tbytes45 : Tryd.t45.bytes = 8 := rfl
@[simp] theorem zeroV45 : zeroV Tryd.prog 45 = some (.nilf) := by kernel_rfl
theorem tz45 : (Tryd.t45.zero).map (fun z => z.cells.size) = some 1 := by kernel_rfl
@[simp] theorem tzero45 : ∃ z, Tryd.t45.zero = some z ∧ z.cells.size = 1 := by have h := tz45; cases hz : Tryd.t45.zero with | none => rw [hz] at h; cases h | some z => rw [hz] at h; exact ⟨z, rfl, by simpa using h⟩
@[simp] theorem rd45 (cs : List V) (off : Nat) : rd Tryd.prog 45 cs off = cs[off]? := by unfold rd; simp
@[simp] theorem cellsOf46 : Program.cellsOf Tryd.prog 46 = 1 := by kernel_rfl
@[simp] theorem info46 : Tryd.prog.info? 46 = some Tryd.t46 := by kernel_rfl
@[simp] theorem tsize46 : Tryd.t46.size = 1 := rfl
@[simp] theorem tbytes46 : Tryd.t46.bytes = 8 := rfl
@[simp] theorem zeroV46 : zeroV Tryd.prog 46 = some (.mapn) := by kernel_rfl
theorem tz46 : (Tryd.t46.zero).map (fun z => z.cells.size) = some 1 := by kernel_rfl
@[simp] theorem tzero46 : ∃ z, Tryd.t46.zero = some z ∧ z.cells.size = 1 := by have h := tz46; cases hz : Tryd.t46.zero with | none => rw [hz] at h; cases h | some z => rw [hz] at h; exact ⟨z, rfl, by simpa using h⟩
@[simp] theorem rd46 (cs : List V) (off : Nat) : rd Tryd.prog 46 cs off = cs[off]? := by unfold rd; simp
@[simp] theorem cellsOf47 : Program.cellsOf Tryd.prog 47 = 1 := by kernel_rfl
@[simp] theorem info47 : Tryd.prog.info? 47 = some Tryd.t47 := by kernel_rfl
@[simp] theorem tsize47 : Tryd.t47.size = 1 := rfl
@[simp] theorem tbytes47 : Tryd.t47.bytes = 24 := rfl
@[simp] theorem zeroV47 : zeroV Tryd.prog 47 = some (.nils) := by kernel_rfl
theorem tz47 : (Tryd.t47.zero).map (fun z => z.cells.size) = some 1 := by kernel_rfl
@[simp] theorem tzero47 : ∃ z, Tryd.t47.zero = some z ∧ z.cells.size = 1 := by have h := tz47; cases hz : Tryd.t47.zero with | none => rw [hz] at h; cases h | some z => rw [hz] at h; exact ⟨z, rfl, by simpa using h⟩
@[simp] theorem rd47 (cs : List V) (off : Nat) : rd Tryd.prog 47 cs off = cs[off]? := by unfold rd; simp
@[simp] theorem cellsOf48 : Program.cellsOf Tryd.prog 48 = 3 := by kernel_rfl
@[simp] theorem info48 : Tryd.prog.info? 48 = some Tryd.t48 := by kernel_rfl
@[simp] theorem tsize48 : Tryd.t48.size = 3 := rfl
@[simp] theorem tbytes48 : Tryd.t48.bytes = 24 := rfl
@[simp] theorem zeroV48 : zeroV Tryd.prog 48 = some (.agg [.int .i64 0, .int .i64 0, .int .i64 0]) := by kernel_rfl
theorem tz48 : (Tryd.t48.zero).map (fun z => z.cells.size) = some 3 := by kernel_rfl
@[simp] theorem tzero48 : ∃ z, Tryd.t48.zero = some z ∧ z.cells.size = 3 := by have h := tz48; cases hz : Tryd.t48.zero with | none => rw [hz] at h; cases h | some z => rw [hz] at h; exact ⟨z, rfl, by simpa using h⟩
@[simp] theorem rd48 (cs : List V) (off : Nat) : rd Tryd.prog 48 cs off = if off + 3 ≤ cs.length then some (.agg ((cs.drop off).take 3)) else none := by unfold rd; simp
@[simp] theorem fo48_0 : fieldOff Tryd.prog 48 0 = some 0 := by kernel_rfl
@[simp] theorem pf48_0 (cs : List V) : pField Tryd.prog 48 0 (.agg cs) = rd Tryd.prog 3 cs 0 := by unfold pField; simp
@[simp] theorem fo48_1 : fieldOff Tryd.prog 48 1 = some 1 := by kernel_rfl
@[simp] theorem pf48_1 (cs : List V) : pField Tryd.prog 48 1 (.agg cs) = rd Tryd.prog 3 cs 1 := by unfold pField; simp
@[simp] theorem fo48_2 : fieldOff Tryd.prog 48 2 = some 2 := by kernel_rfl
@[simp] theorem pf48_2 (cs : List V) : pField Tryd.prog 48 2 (.agg cs) = rd Tryd.prog 3 cs 2 := by unfold pField; simp
@[simp] theorem cellsOf49 : Program.cellsOf Tryd.prog 49 = 3 := by kernel_rfl
@[simp] theorem info49 : Tryd.prog.info? 49 = some Tryd.t49 := by kernel_rfl
@[simp] theorem tsize49 : Tryd.t49.size = 3 := rfl
@[simp] theorem tbytes49 : Tryd.t49.bytes = 24 := rfl
@[simp] theorem zeroV49 : zeroV Tryd.prog 49 = some (.agg [.int .i64 0, .int .i64 0, .int .i64 0]) := by kernel_rfl
theorem tz49 : (Tryd.t49.zero).map (fun z => z.cells.size) = some 3 := by kernel_rfl
@[simp] theorem tzero49 : ∃ z, Tryd.t49.zero = some z ∧ z.cells.size = 3 := by have h := tz49; cases hz : Tryd.t49.zero with | none => rw [hz] at h; cases h | some z => rw [hz] at h; exact ⟨z, rfl, by simpa using h⟩
@[simp] theorem rd49 (cs : List V) (off : Nat) : rd Tryd.prog 49 cs off = if off + 3 ≤ cs.length then some (.agg ((cs.drop off).take 3)) else none := by unfold rd; simp
@[simp] theorem fo49_0 : fieldOff Tryd.prog 49 0 = some 0 := by kernel_rfl
@[simp] theorem pf49_0 (cs : List V) : pField Tryd.prog 49 0 (.agg cs) = rd Tryd.prog 3 cs 0 := by unfold pField; simp
@[simp] theorem fo49_1 : fieldOff Tryd.prog 49 1 = some 1 := by kernel_rfl
@[simp] theorem pf49_1 (cs : List V) : pField Tryd.prog 49 1 (.agg cs) = rd Tryd.prog 3 cs 1 := by unfold pField; simp
@[simp] theorem fo49_2 : fieldOff Tryd.prog 49 2 = some 2 := by kernel_rfl
@[simp] theorem pf49_2 (cs : List V) : pField Tryd.prog 49 2 (.agg cs) = rd Tryd.prog 3 cs 2 := by unfold pField; simp
@[simp] theorem cellsOf50 : Program.cellsOf Tryd.prog 50 = 4 := by kernel_rfl
@[simp] theorem info50 : Tryd.prog.info? 50 = some Tryd.t50 := by kernel_rfl
@[simp] theorem tsize50 : Tryd.t50.size = 4 := rfl
@[simp] theorem tbytes50 : Tryd.t50.bytes = 32 := rfl
@[simp] theorem zeroV50 : zeroV Tryd.prog 50 = some (.agg [.int .u8 0, .int .i64 0, .int .i64 0, .int .i64 0]) := by kernel_rfl
theorem tz50 : (Tryd.t50.zero).map (fun z => z.cells.size) = some 4 := by kernel_rfl
@[simp] theorem tzero50 : ∃ z, Tryd.t50.zero = some z ∧ z.cells.size = 4 := by have h := tz50; cases hz : Tryd.t50.zero with | none => rw [hz] at h; cases h | some z => rw [hz] at h; exact ⟨z, rfl, by simpa using h⟩
@[simp] theorem rd50 (cs : List V) (off : Nat) : rd Tryd.prog 50 cs off = if off + 4 ≤ cs.length then some (.agg ((cs.drop off).take 4)) else none := by unfold rd; simp
@[simp] theorem fo50_0 : fieldOff Tryd.prog 50 0 = some 0 := by kernel_rfl
@[simp] theorem pf50_0 (cs : List V) : pField Tryd.prog 50 0 (.agg cs) = rd Tryd.prog 5 cs 0 := by unfold pField; simp
@[simp] theorem fo50_1 : fieldOff Tryd.prog 50 1 = some 1 := by kernel_rfl
@[simp] theorem pf50_1 (cs : List V) : pField Tryd.prog 50 1 (.agg cs) = rd Tryd.prog 49 cs 1 := by unfold pField; simp
@[simp] theorem cellsOf51 : Program.cellsOf Tryd.prog 51 = 4 := by kernel_rfl
@[simp] theorem info51 : Tryd.prog.info? 51 = some Tryd.t51 := by kernel_rfl
@[simp] theorem tsize51 : Tryd.t51.size = 4 := rfl
@[simp] theorem tbytes51 : Tryd.t51.bytes = 32 := rfl
@[simp] theorem zeroV51 : zeroV Tryd.prog 51 = some (.agg [.int .u8 0, .int .i64 0, .int .i64 0, .int .i64 0]) := by kernel_rfl
theorem tz51 : (Tryd.t51.zero).map (fun z => z.cells.size) = some 4 := by kernel_rfl
@[simp] theorem tzero51 : ∃ z, Tryd.t51.zero = some z ∧ z.cells.size = 4 := by have h := tz51; cases hz : Tryd.t51.zero with | none => rw [hz] at h; cases h | some z => rw [hz] at h; exact ⟨z, rfl, by simpa using h⟩
@[simp] theorem rd51 (cs : List V) (off : Nat) : rd Tryd.prog 51 cs off = if off + 4 ≤ cs.length then some (.agg ((cs.drop off).take 4)) else none := by unfold rd; simp
@[simp] theorem fo51_0 : fieldOff Tryd.prog 51 0 = some 0 := by kernel_rfl
@[simp] theorem pf51_0 (cs : List V) : pField Tryd.prog 51 0 (.agg cs) = rd Tryd.prog 5 cs 0 := by unfold pField; simp
@[simp] theorem fo51_1 : fieldOff Tryd.prog 51 1 = some 1 := by kernel_rfl
@[simp] theorem pf51_1 (cs : List V) : pField Tryd.prog 51 1 (.agg cs) = rd Tryd.prog 49 cs 1 := by unfold pField; simp
@[simp] theorem cellsOf52 : Program.cellsOf Tryd.prog 52 = 7 := by kernel_rfl
@[simp] theorem info52 : Tryd.prog.info? 52 = some Tryd.t52 := by kernel_rfl
@[simp] theorem tsize52 : Tryd.t52.size = 7 := rfl
@[simp] theorem tbytes52 : Tryd.t52.bytes = 56 := rfl
@[simp] theorem zeroV52 : zeroV Tryd.prog 52 = some (.agg [.int .u8 0, .int .i64 0, .int .i64 0, .int .i64 0, .int .i64 0, .int .i64 0, .int .i64 0]) := by kernel_rfl
theorem tz52 : (Tryd.t52.zero).map (fun z => z.cells.size) = some 7 := by kernel_rfl
@[simp] theorem tzero52 : ∃ z, Tryd.t52.zero = some z ∧ z.cells.size = 7 := by have h := tz52; cases hz : Tryd.t52.zero with | none => rw [hz] at h; cases h | some z => rw [hz] at h; exact ⟨z, rfl, by simpa using h⟩
@[simp] theorem rd52 (cs : List V) (off : Nat) : rd Tryd.prog 52 cs off = if off + 7 ≤ cs.length then some (.agg ((cs.drop off).take 7)) else none := by unfold rd; simp
@[simp] theorem fo52_0 : fieldOff Tryd.prog 52 0 = some 0 := by kernel_rfl
@[simp] theorem pf52_0 (cs : List V) : pField Tryd.prog 52 0 (.agg cs) = rd Tryd.prog 51 cs 0 := by unfold pField; simp
@[simp] theorem fo52_1 : fieldOff Tryd.prog 52 1 = some 4 := by kernel_rfl
@[simp] theorem pf52_1 (cs : List V) : pField Tryd.prog 52 1 (.agg cs) = rd Tryd.prog 49 cs 4 := by unfold pField; simp
@[simp] theorem cellsOf53 : Program.cellsOf Tryd.prog 53 = 7 := by kernel_rfl
@[simp] theorem info53 : Tryd.prog.info? 53 = some Tryd.t53 := by kernel_rfl
@[simp] theorem tsize53 : Tryd.t53.size = 7 := rfl
@[simp] theorem tbytes53 : Tryd.t53.bytes = 56 := rfl
@[simp] theorem zeroV53 : zeroV Tryd.prog 53 = some (.agg [.int .u8 0, .int .i64 0, .int .i64 0, .int .i64 0, .int .i64 0, .int .i64 0, .int .i64 0]) := by kernel_rfl
theorem tz53 : (Tryd.t53.zero).map (fun z => z.cells.size) = some 7 := by kernel_rfl
@[simp] theorem tzero53 : ∃ z, Tryd.t53.zero = some z ∧ z.cells.size = 7 := by have h := tz53; cases hz : Tryd.t53.zero with | none => rw [hz] at h; cases h | some z => rw [hz] at h; exact ⟨z, rfl, by simpa using h⟩
@[simp] theorem rd53 (cs : List V) (off : Nat) : rd Tryd.prog 53 cs off = if off + 7 ≤ cs.length then some (.agg ((cs.drop off).take 7)) else none := by unfold rd; simp
@[simp] theorem fo53_0 : fieldOff Tryd.prog 53 0 = some 0 := by kernel_rfl
@[simp] theorem pf53_0 (cs : List V) : pField Tryd.prog 53 0 (.agg cs) = rd Tryd.prog 51 cs 0 := by unfold pField; simp
@[simp] theorem fo53_1 : fieldOff Tryd.prog 53 1 = some 4 := by kernel_rfl
@[simp] theorem pf53_1 (cs : List V) : pField Tryd.prog 53 1 (.agg cs) = rd Tryd.prog 49 cs 4 := by unfold pField; simp
@[simp] theorem cellsOf54 : Program.cellsOf Tryd.prog 54 = 13 := by kernel_rfl
@[simp] theorem info54 : Tryd.prog.info? 54 = some Tryd.t54 := by kernel_rfl
@[simp] theorem tsize54 : Tryd.t54.size = 13 := rfl
@[simp] theorem tbytes54 : Tryd.t54.bytes = 144 := rfl
@[simp] theorem zeroV54 : zeroV Tryd.prog 54 = some (.agg [.str [], .str [], .nils, .int .u8 0, .int .i64 0, .int .i64 0, .int .i64 0, .int .i64 0, .int .i64 0, .int .i64 0, .str [], .int .i64 0, .bool false]) := by kernel_rfl
theorem tz54 : (Tryd.t54.zero).map (fun z => z.cells.size) = some 13 := by kernel_rfl
@[simp] theorem tzero54 : ∃ z, Tryd.t54.zero = some z ∧ z.cells.size = 13 := by have h := tz54; cases hz : Tryd.t54.zero with | none => rw [hz] at h; cases h | some z => rw [hz] at h; exact ⟨z, rfl, by simpa using h⟩
@[simp] theorem rd54 (cs : List V) (off : Nat) : rd Tryd.prog 54 cs off = if off + 13 ≤ cs.length then some (.agg ((cs.drop off).take 13)) else none := by unfold rd; simp
@[simp] theorem fo54_0 : fieldOff Tryd.prog 54 0 = some 0 := by kernel_rfl
@[simp] theorem pf54_0 (cs : List V) : pField Tryd.prog 54 0 (.agg cs) = rd Tryd.prog 9 cs 0 := by unfold pField; simp
@[simp] theorem fo54_1 : fieldOff Tryd.prog 54 1 = some 1 := by kernel_rfl
@[simp] theorem pf54_1 (cs : List V) : pField Tryd.prog 54 1 (.agg cs) = rd Tryd.prog 9 cs 1 := by unfold pField; simp
@[simp] theorem fo54_2 : fieldOff Tryd.prog 54 2 = some 2 := by kernel_rfl
@[simp] theorem pf54_2 (cs : List V) : pField Tryd.prog 54 2 (.agg cs) = rd Tryd.prog 47 cs 2 := by unfold pField; simp
@[simp] theorem fo54_3 : fieldOff Tryd.prog 54 3 = some 3 := by kernel_rfl
@[simp] theorem pf54_3 (cs : List V) : pField Tryd.prog 54 3 (.agg cs) = rd Tryd.prog 53 cs 3 := by unfold pField; simp
@[simp] theorem fo54_4 : fieldOff Tryd.prog 54 4 = some 10 := by kernel_rfl
@[simp] theorem pf54_4 (cs : List V) : pField Tryd.prog 54 4 (.agg cs) = rd Tryd.prog 9 cs 10 := by unfold pField; simp
@[simp] theorem fo54_5 : fieldOff Tryd.prog 54 5 = some 11 := by kernel_rfl
@[simp] theorem pf54_5 (cs : List V) : pField Tryd.prog 54 5 (.agg cs) = rd Tryd.prog 3 cs 11 := by unfold pField; simp
@[simp] theorem fo54_6 : fieldOff Tryd.prog 54 6 = some 12 := by kernel_rfl
@[simp] theorem pf54_6 (cs : List V) : pField Tryd.prog 54 6 (.agg cs) = rd Tryd.prog 4 cs 12 := by unfold pField; simp
@[simp] theorem cellsOf55 : Program.cellsOf Tryd.prog 55 = 13 := by kernel_rfl
@[simp] theorem info55 : Tryd.prog.info? 55 = some Tryd.t55 := by kernel_rfl
@[simp] theorem tsize55 : Tryd.t55.size = 13 := rfl
@[simp] theorem tbytes55 : Tryd.t55.bytes = 144 := rfl
@[simp] theorem zeroV55 : zeroV Tryd.prog 55 = some (.agg [.str [], .str [], .nils, .int .u8 0, .int .i64 0, .int .i64 0, .int .i64 0, .int .i64 0, .int .i64 0, .int .i64 0, .str [], .int .i64 0, .bool false]) := by kernel_rfl
theorem tz55 : (Tryd.t55.zero).map (fun z => z.cells.size) = some 13 := by kernel_rfl
@[simp] theorem tzero55 : ∃ z, Tryd.t55.zero = some z ∧ z.cells.size = 13 := by have h := tz55; cases hz : Tryd.t55.zero with | none => rw [hz] at h; cases h | some z => rw [hz] at h; exact ⟨z, rfl, by simpa using h⟩
@[simp] theorem rd55 (cs : List V) (off : Nat) : rd Tryd.prog 55 cs off = if off + 13 ≤ cs.length then some (.agg ((cs.drop off).take 13)) else none := by unfold rd; simp
@[simp] theorem fo55_0 : fieldOff Tryd.prog 55 0 = some 0 := by kernel_rfl
@[simp] theorem pf55_0 (cs : List V) : pField Tryd.prog 55 0 (.agg cs) = rd Tryd.prog 9 cs 0 := by unfold pField; simp
@[simp] theorem fo55_1 : fieldOff Tryd.prog 55 1 = some 1 := by kernel_rfl
@[simp] theorem pf55_1 (cs : List V) : pField Tryd.prog 55 1 (.agg cs) = rd Tryd.prog 9 cs 1 := by unfold pField; simp
@[simp] theorem fo55_2 : fieldOff Tryd.prog 55 2 = some 2 := by kernel_rfl
@[simp] theorem pf55_2 (cs : List V) : pField Tryd.prog 55 2 (.agg cs) = rd Tryd.prog 47 cs 2 := by unfold pField; simp
@[simp] theorem fo55_3 : fieldOff Tryd.prog 55 3 = some 3 := by kernel_rfl
@[simp] theorem pf55_3 (cs : List V) : pField Tryd.prog 55 3 (.agg cs) = rd Tryd.prog 53 cs 3 := by unfold pField; simp
@[simp] theorem fo55_4 : fieldOff Tryd.prog 55 4 = some 10 := by kernel_rfl
@[simp] theorem pf55_4 (cs : List V) : pField Tryd.prog 55 4 (.agg cs) = rd Tryd.prog 9 cs 10 := by unfold pField; simp
@[simp] theorem fo55_5 : fieldOff Tryd.prog 55 5 = some 11 := by kernel_rfl
@[simp] theorem pf55_5 (cs : List V) : pField Tryd.prog 55 5 (.agg cs) = rd Tryd.prog 3 cs 11 := by unfold pField; simp
@[simp] theorem fo55_6 : fieldOff Tryd.prog 55 6 = some 12 := by kernel_rfl
@[simp] theorem pf55_6 (cs : List V) : pField Tryd.prog 55 6 (.agg cs) = rd Tryd.prog 4 cs 12 := by unfold pField; simp
@[simp] theorem cellsOf56 : Program.cellsOf Tryd.prog 56 = 1 := by kernel_rfl
@[simp] theorem info56 : Tryd.prog.info? 56 = some Tryd.t56 := by kernel_rfl
@[simp] theorem tsize56 : Tryd.t56.size = 1 := rfl
@[simp] theorem tbytes56 : Tryd.t56.bytes = 8 := rfl
@[simp] theorem zeroV56 : zeroV Tryd.prog 56 = some (.nilf) := by kernel_rfl
theorem tz56 : (Tryd.t56.zero).map (fun z => z.cells.size) = some 1 := by kernel_rfl
@[simp] theorem tzero56 : ∃ z, Tryd.t56.zero = some z ∧ z.cells.size = 1 := by have h := tz56; cases hz : Tryd.t56.zero with | none => rw [hz] at h; cases h | some z => rw [hz] at h; exact ⟨z, rfl, by simpa using h⟩
@[simp] theorem rd56 (cs : List V) (off : Nat) : rd Tryd.prog 56 cs off = cs[off]? := by unfold rd; simp
@[simp] theorem cellsOf57 : Program.cellsOf Tryd.prog 57 = 1 := by kernel_rfl
@[simp] theorem info57 : Tryd.prog.info? 57 = some Tryd.t57 := by kernel_rfl
@[simp] theorem tsize57 : Tryd.t57.size = 1 := rfl
@[simp] theorem tbytes57 : Tryd.t57.bytes = 8 := rfl
@[simp] theorem zeroV57 : zeroV Tryd.prog 57 = some (.nilp) := by kernel_rfl
theorem tz57 : (Tryd.t57.zero).map (fun z => z.cells.size) = some 1 := by kernel_rfl
@[simp] theorem tzero57 : ∃ z, Tryd.t57.zero = some z ∧ z.cells.size = 1 := by have h := tz57; cases hz : Tryd.t57.zero with | none => rw [hz] at h; cases h | some z => rw [hz] at h; exact ⟨z, rfl, by simpa using h⟩
@[simp] theorem rd57 (cs : List V) (off : Nat) : rd Tryd.prog 57 cs off = cs[off]? := by unfold rd; simp
@[simp] theorem cellsOf58 : Program.cellsOf Tryd.prog 58 = 1 := by kernel_rfl
@[simp] theorem info58 : Tryd.prog.info? 58 = some Tryd.t58 := by kernel_rfl
@[simp] theorem tsize58 : Tryd.t58.size = 1 := rfl
@[simp] theorem tbytes58 : Tryd.t58.bytes = 24 := rfl
@[simp] theorem zeroV58 : zeroV Tryd.prog 58 = some (.nils) := by kernel_rfl
theorem tz58 : (Tryd.t58.zero).map (fun z => z.cells.size) = some 1 := by kernel_rfl
@[simp] theorem tzero58 : ∃ z, Tryd.t58.zero = some z ∧ z.cells.size = 1 := by have h := tz58; cases hz : Tryd.t58.zero with | none => rw [hz] at h; cases h | some z => rw [hz] at h; exact ⟨z, rfl, by simpa using h⟩
@[simp] theorem rd58 (cs : List V) (off : Nat) : rd Tryd.prog 58 cs off = cs[off]? := by unfold rd; simp
@[simp] theorem cellsOf59 : Program.cellsOf Tryd.prog 59 = 2 := by kernel_rfl
@[simp] theorem info59 : Tryd.prog.info? 59 = some Tryd.t59 := by kernel_rfl
@[simp] theorem tsize59 : Tryd.t59.size = 2 := rfl
@[simp] theorem tbytes59 : Tryd.t59.bytes = 32 := rfl
@[simp] theorem zeroV59 : zeroV Tryd.prog 59 = some (.agg [.nilp, .nils]) := by kernel_rfl
theorem tz59 : (Tryd.t59.zero).map (fun z => z.cells.size) = some 2 := by kernel_rfl
@[simp] theorem tzero59 : ∃ z, Tryd.t59.zero = some z ∧ z.cells.size = 2 := by have h := tz59; cases hz : Tryd.t59.zero with | none => rw [hz] at h; cases h | some z => rw [hz] at h; exact ⟨z, rfl, by simpa using h⟩
@[simp] theorem rd59 (cs : List V) (off : Nat) : rd Tryd.prog 59 cs off = if off + 2 ≤ cs.length then some (.agg ((cs.drop off).take 2)) else none := by unfold rd; simp
@[simp] theorem fo59_0 : fieldOff Tryd.prog 59 0 = some 0 := by kernel_rfl
@[simp] theorem pf59_0 (cs : List V) : pField Tryd.prog 59 0 (.agg cs) = rd Tryd.prog 57 cs 0 := by unfold pField; simp
@[simp] theorem fo59_1 : fieldOff Tryd.prog 59 1 = some 1 := by kernel_rfl
@[simp] theorem pf59_1 (cs : List V) : pField Tryd.prog 59 1 (.agg cs) = rd Tryd.prog 58 cs 1 := by unfold pField; simp
@[simp] theorem cellsOf60 : Program.cellsOf Tryd.prog 60 = 2 := by kernel_rfl
@[simp] theorem info60 : Tryd.prog.info? 60 = some Tryd.t60 := by kernel_rfl
@[simp] theorem tsize60 : Tryd.t60.size = 2 := rfl
@[simp] theorem tbytes60 : Tryd.t60.bytes = 32 := rfl
@[simp] theorem zeroV60 : zeroV Tryd.prog 60 = some (.agg [.nilp, .nils]) := by kernel_rfl
theorem tz60 : (Tryd.t60.zero).map (fun z => z.cells.size) = some 2 := by kernel_rfl
@[simp] theorem tzero60 : ∃ z, Tryd.t60.zero = some z ∧ z.cells.size = 2 := by have h := tz60; cases hz : Tryd.t60.zero with | none => rw [hz] at h; cases h | some z => rw [hz] at h; exact ⟨z, rfl, by simpa using h⟩
@[simp] theorem rd60 (cs : List V) (off : Nat) : rd Tryd.prog 60 cs off = if off + 2 ≤ cs.length then some (.agg ((cs.drop off).take 2)) else none := by unfold rd; simp
@[simp] theorem fo60_0 : fieldOff Tryd.prog 60 0 = some 0 := by kernel_rfl
@[simp] theorem pf60_0 (cs : List V) : pField Tryd.prog 60 0 (.agg cs) = rd Tryd.prog 57 cs 0 := by unfold pField; simp
@[simp] theorem fo60_1 : fieldOff Tryd.prog 60 1 = some 1 := by kernel_rfl
@[simp] theorem pf60_1 (cs : List V) : pField Tryd.prog 60 1 (.agg cs) = rd Tryd.prog 58 cs 1 := by unfold pField; simp
@[simp] theorem cellsOf61 : Program.cellsOf Tryd.prog 61 = 1 := by kernel_rfl
@[simp] theorem info61 : Tryd.prog.info? 61 = some Tryd.t61 := by kernel_rfl
@[simp] theorem tsize61 : Tryd.t61.size = 1 := rfl
@[simp] theorem tbytes61 : Tryd.t61.bytes = 8 := rfl
@[simp] theorem zeroV61 : zeroV Tryd.prog 61 = some (.nilf) := by kernel_rfl
theorem tz61 : (Tryd.t61.zero).map (fun z => z.cells.size) = some 1 := by kernel_rfl
@[simp] theorem tzero61 : ∃ z, Tryd.t61.zero = some z ∧ z.cells.size = 1 := by have h := tz61; cases hz : Tryd.t61.zero with | none => rw [hz] at h; cases h | some z => rw [hz] at h; exact ⟨z, rfl, by simpa using h⟩
@[simp] theorem rd61 (cs : List V) (off : Nat) : rd Tryd.prog 61 cs off = cs[off]? := by unfold rd; simp
@[simp] theorem cellsOf62 : Program.cellsOf Tryd.prog 62 = 1 := by kernel_rfl
@[simp] theorem info62 : Tryd.prog.info? 62 = some Tryd.t62 := by kernel_rfl
@[simp] theorem tsize62 : Tryd.t62.size = 1 := rfl
@[simp] theorem tbytes62 : Tryd.t62.bytes = 16 := rfl
@[simp] theorem zeroV62 : zeroV Tryd.prog 62 = some (.nili) := by kernel_rfl
theorem tz62 : (Tryd.t62.zero).map (fun z => z.cells.size) = some 1 := by kernel_rfl
@[simp] theorem tzero62 : ∃ z, Tryd.t62.zero = some z ∧ z.cells.size = 1 := by have h := tz62; cases hz : Tryd.t62.zero with | none => rw [hz] at h; cases h | some z => rw [hz] at h; exact ⟨z, rfl, by simpa using h⟩
@[simp] theorem rd62 (cs : List V) (off : Nat) : rd Tryd.prog 62 cs off = cs[off]? := by unfold rd; simp
@[simp] theorem cellsOf63 : Program.cellsOf Tryd.prog 63 = 1 := by kernel_rfl
@[simp] theorem info63 : Tryd.prog.info? 63 = some Tryd.t63 := by kernel_rfl
@[simp] theorem tsize63 : Tryd.t63.size = 1 := rfl
@[simp] theorem tbytes63 : Tryd.t63.bytes = 16 := rfl
@[simp] theorem zeroV63 : zeroV Tryd.prog 63 = some (.nili) := by kernel_rfl
theorem tz63 : (Tryd.t63.zero).map (fun z => z.cells.size) = some 1 := by kernel_rfl
@[simp] theorem tzero63 : ∃ z, Tryd.t63.zero = some z ∧ z.cells.size = 1 := by have h := tz63; cases hz : Tryd.t63.zero with | none => rw [hz] at h; cases h | some z => rw [hz] at h; exact ⟨z, rfl, by simpa using h⟩
@[simp] theorem rd63 (cs : List V) (off : Nat) : rd Tryd.prog 63 cs off = cs[off]? := by unfold rd; simp
@[simp] theorem cellsOf65 : Program.cellsOf Tryd.prog 65 = 1 := by kernel_rfl
@[simp] theorem info65 : Tryd.prog.info? 65 = some Tryd.t65 := by kernel_rfl
@[simp] theorem tsize65 : Tryd.t65.size = 1 := rfl
@[simp] theorem tbytes65 : Tryd.t65.bytes = 8 := rfl
@[simp] theorem zeroV65 : zeroV Tryd.prog 65 = some (.nilf) := by kernel_rfl
theorem tz65 : (Tryd.t65.zero).map (fun z => z.cells.size) = some 1 := by kernel_rfl
@[simp] theorem tzero65 : ∃ z, Tryd.t65.zero = some z ∧ z.cells.size = 1 := by have h := tz65; cases hz : Tryd.t65.zero with | none => rw [hz] at h; cases h | some z => rw [hz] at h; exact ⟨z, rfl, by simpa using h⟩
@[simp] theorem rd65 (cs : List V) (off : Nat) : rd Tryd.prog 65 cs off = cs[off]? := by unfold rd; simp
@[simp] theorem cellsOf66 : Program.cellsOf Tryd.prog 66 = 1 := by kernel_rfl
@[simp] theorem info66 : Tryd.prog.info? 66 = some Tryd.t66 := by kernel_rfl
@[simp] theorem tsize66 : Tryd.t66.size = 1 := rfl
@[simp] theorem tbytes66 : Tryd.t66.bytes = 8 := rfl
@[simp] theorem zeroV66 : zeroV Tryd.prog 66 = some (.nilf) := by kernel_rfl
theorem tz66 : (Tryd.t66.zero).map (fun z => z.cells.size) = some 1 := by kernel_rfl
@[simp] theorem tzero66 : ∃ z, Tryd.t66.zero = some z ∧ z.cells.size = 1 := by have h := tz66; cases hz : Tryd.t66.zero with | none => rw [hz] at h; cases h | some z => rw [hz] at h; exact ⟨z, rfl, by simpa using h⟩
@[simp] theorem rd66 (cs : List V) (off : Nat) : rd Tryd.prog 66 cs off = cs[off]? := by unfold rd; simp
@[simp] theorem cellsOf67 : Program.cellsOf Tryd.prog 67 = 1 := by kernel_rfl
@[simp] theorem info67 : Tryd.prog.info? 67 = some Tryd.t67 := by kernel_rfl
@[simp] theorem tsize67 : Tryd.t67.size = 1 := rfl
@[simp] theorem tbytes67 : Tryd.t67.bytes = 8 := rfl
@[simp] theorem zeroV67 : zeroV Tryd.prog 67 = some (.nilf) := by kernel_rfl
theorem tz67 : (Tryd.t67.zero).map (fun z => z.cells.size) = some 1 := by kernel_rfl
@[simp] theorem tzero67 : ∃ z, Tryd.t67.zero = some z ∧ z.cells.size = 1 := by have h := tz67; cases hz : Tryd.t67.zero with | none => rw [hz] at h; cases h | some z => rw [hz] at h; exact ⟨z, rfl, by simpa using h⟩
@[simp] theorem rd67 (cs : List V) (off : Nat) : rd Tryd.prog 67 cs off = cs[off]? := by unfold rd; simp
@[simp] theorem cellsOf68 : Program.cellsOf Tryd.prog 68 = 1 := by kernel_rfl
@[simp] theorem info68 : Tryd.prog.info? 68 = some Tryd.t68 := by kernel_rfl
@[simp] theorem tsize68 : Tryd.t68.size = 1 := rfl
@[simp] theorem tbytes68 : Tryd.t68.bytes = 8 := rfl
@[simp] theorem zeroV68 : zeroV Tryd.prog 68 = some (.nilf) := by kernel_rfl
theorem tz68 : (Tryd.t68.zero).map (fun z => z.cells.size) = some 1 := by kernel_rfl
@[simp] theorem tzero68 : ∃ z, Tryd.t68.zero = some z ∧ z.cells.size = 1 := by have h := tz68; cases hz : Tryd.t68.zero with | none => rw [hz] at h; cases h | some z => rw [hz] at h; exact ⟨z, rfl, by simpa using h⟩
@[simp] theorem rd68 (cs : List V) (off : Nat) : rd Tryd.prog 68 cs off = cs[off]? := by unfold rd; simp
@[simp] theorem cellsOf69 : Program.cellsOf Tryd.prog 69 = 1 := by kernel_rfl
@[simp] theorem info69 : Tryd.prog.info? 69 = some Tryd.t69 := by kernel_rfl
@[simp] theorem tsize69 : Tryd.t69.size = 1 := rfl
@[simp] theorem tbytes69 : Tryd.t69.bytes = 8 := rfl
@[simp] theorem zeroV69 : zeroV Tryd.prog 69 = some (.nilf) := by kernel_rfl
theorem tz69 : (Tryd.t69.zero).map (fun z => z.cells.size) = some 1 := by kernel_rfl
@[simp] theorem tzero69 : ∃ z, Tryd.t69.zero = some z ∧ z.cells.size = 1 := by have h := tz69; cases hz : Tryd.t69.zero with | none => rw [hz] at h; cases h | some z => rw [hz] at h; exact ⟨z, rfl, by simpa using h⟩
@[simp] theorem rd69 (cs : List V) (off : Nat) : rd Tryd.prog 69 cs off = cs[off]? := by unfold rd; simp
@[simp] theorem cellsOf71 : Program.cellsOf Tryd.prog 71 = 1 := by kernel_rfl
@[simp] theorem info71 : Tryd.prog.info? 71 = some Tryd.t71 := by kernel_rfl
@[simp] theorem tsize71 : Tryd.t71.size = 1 := rfl
@[simp] theorem tbytes71 : Tryd.t71.bytes = 8 := rfl
@[simp] theorem zeroV71 : zeroV Tryd.prog 71 = some (.nilf) := by kernel_rfl
theorem tz71 : (Tryd.t71.zero).map (fun z => z.cells.size) = some 1 := by kernel_rfl
@[simp] theorem tzero71 : ∃ z, Tryd.t71.zero = some z ∧ z.cells.size = 1 := by have h := tz71; cases hz : Tryd.t71.zero with | none => rw [hz] at h; cases h | some z => rw [hz] at h; exact ⟨z, rfl, by simpa using h⟩
@[simp] theorem rd71 (cs : List V) (off : Nat) : rd Tryd.prog 71 cs off = cs[off]? := by unfold rd; simp
@[simp] theorem cellsOf72 : Program.cellsOf Tryd.prog 72 = 1 := by kernel_rfl
@[simp] theorem info72 : Tryd.prog.info? 72 = some Tryd.t72 := by kernel_rfl
@[simp] theorem tsize72 : Tryd.t72.size = 1 := rfl
@[simp] theorem tbytes72 : Tryd.t72.bytes = 8 := rfl
@[simp] theorem zeroV72 : zeroV Tryd.prog 72 = some (.nilf) := by kernel_rfl
theorem tz72 : (Tryd.t72.zero).map (fun z => z.cells.size) = some 1 := by kernel_rfl
@[simp] theorem tzero72 : ∃ z, Tryd.t72.zero = some z ∧ z.cells.size = 1 := by have h := tz72; cases hz : Tryd.t72.zero with | none => rw [hz] at h; cases h | some z => rw [hz] at h; exact ⟨z, rfl, by simpa using h⟩
@[simp] theorem rd72 (cs : List V) (off : Nat) : rd Tryd.prog 72 cs off = cs[off]? := by unfold rd; simp
@[simp] theorem cellsOf73 : Program.cellsOf Tryd.prog 73 = 1 := by kernel_rfl
@[simp] theorem info73 : Tryd.prog.info? 73 = some Tryd.t73 := by kernel_rfl
@[simp] theorem tsize73 : Tryd.t73.size = 1 := rfl
@[simp] theorem tbytes73 : Tryd.t73.bytes = 8 := rfl
@[simp] theorem zeroV73 : zeroV Tryd.prog 73 = some (.nilf) := by kernel_rfl
theorem tz73 : (Tryd.t73.zero).map (fun z => z.cells.size) = some 1 := by kernel_rfl
@[simp] theorem tzero73 : ∃ z, Tryd.t73.zero = some z ∧ z.cells.size = 1 := by have h := tz73; cases hz : Tryd.t73.zero with | none => rw [hz] at h; cases h | some z => rw [hz] at h; exact ⟨z, rfl, by simpa using h⟩
@[simp] theorem rd73 (cs : List V) (off : Nat) : rd Tryd.prog 73 cs off = cs[off]? := by unfold rd; simp
@[simp] theorem cellsOf74 : Program.cellsOf Tryd.prog 74 = 1 := by kernel_rfl
@[simp] theorem info74 : Tryd.prog.info? 74 = some Tryd.t74 := by kernel_rfl
@[simp] theorem tsize74 : Tryd.t74.size = 1 := rfl
@[simp] theorem tbytes74 : Tryd.t74.bytes = 8 := rfl
@[simp] theorem zeroV74 : zeroV Tryd.prog 74 = some (.nilf) := by kernel_rfl
theorem tz74 : (Tryd.t74.zero).map (fun z => z.cells.size) = some 1 := by kernel_rfl
@[simp] theorem tzero74 : ∃ z, Tryd.t74.zero = some z ∧ z.cells.size = 1 := by have h := tz74; cases hz : Tryd.t74.zero with | none => rw [hz] at h; cases h | some z => rw [hz] at h; exact ⟨z, rfl, by simpa using h⟩
@[simp] theorem rd74 (cs : List V) (off : Nat) : rd Tryd.prog 74 cs off = cs[off]? := by unfold rd; simp
@[simp] theorem cellsOf75 : Program.cellsOf Tryd.prog 75 = 1 := by kernel_rfl
@[simp] theorem info75 : Tryd.prog.info? 75 = some Tryd.t75 := by kernel_rfl
@[simp] theorem tsize75 : Tryd.t75.size = 1 := rfl
@[simp] theorem tbytes75 : Tryd.t75.bytes = 8 := rfl
@[simp] theorem zeroV75 : zeroV Tryd.prog 75 = some (.nilf) := by kernel_rfl
theorem tz75 : (Tryd.t75.zero).map (fun z => z.cells.size) = some 1 := by kernel_rfl
@[simp] theorem tzero75 : ∃ z, Tryd.t75.zero = some z ∧ z.cells.size = 1 := by have h := tz75; cases hz : Tryd.t75.zero with | none => rw [hz] at h; cases h | some z => rw [hz] at h; exact ⟨z, rfl, by simpa using h⟩
@[simp] theorem rd75 (cs : List V) (off : Nat) : rd Tryd.prog 75 cs off = cs[off]? := by unfold rd; simp
@[simp] theorem cellsOf76 : Program.cellsOf Tryd.prog 76 = 1 := by kernel_rfl
@[simp] theorem info76 : Tryd.prog.info? 76 = some Tryd.t76 := by kernel_rfl
@[simp] theorem tsize76 : Tryd.t76.size = 1 := rfl
@[simp] theorem tbytes76 : Tryd.t76.bytes = 8 := rfl
@[simp] theorem zeroV76 : zeroV Tryd.prog 76 = some (.nilf) := by kernel_rfl
theorem tz76 : (Tryd.t76.zero).map (fun z => z.cells.size) = some 1 := by kernel_rfl
@[simp] theorem tzero76 : ∃ z, Tryd.t76.zero = some z ∧ z.cells.size = 1 := by have h := tz76; cases hz : Tryd.t76.zero with | none => rw [hz] at h; cases h | some z => rw [hz] at h; exact ⟨z, rfl, by simpa using h⟩
@[simp] theorem rd76 (cs : List V) (off : Nat) : rd Tryd.prog 76 cs off = cs[off]? := by unfold rd; simp
@[simp] theorem cellsOf77 : Program.cellsOf Tryd.prog 77 = 1 := by kernel_rfl
@[simp] theorem info77 : Tryd.prog.info? 77 = some Tryd.t77 := by kernel_rfl
@[simp] theorem tsize77 : Tryd.t77.size = 1 := rfl
@[simp] theorem tbytes77 : Tryd.t77.bytes = 8 := rfl
@[simp] theorem zeroV77 : zeroV Tryd.prog 77 = some (.nilf) := by kernel_rfl
theorem tz77 : (Tryd.t77.zero).map (fun z => z.cells.size) = some 1 := by kernel_rfl
@[simp] theorem tzero77 : ∃ z, Tryd.t77.zero = some z ∧ z.cells.size = 1 := by have h := tz77; cases hz : Tryd.t77.zero with | none => rw [hz] at h; cases h | some z => rw [hz] at h; exact ⟨z, rfl, by simpa using h⟩
@[simp] theorem rd77 (cs : List V) (off : Nat) : rd Tryd.prog 77 cs off = cs[off]? := by unfold rd; simp
@[simp] theorem cellsOf78 : Program.cellsOf Tryd.prog 78 = 1 := by kernel_rfl
@[simp] theorem info78 : Tryd.prog.info? 78 = some Tryd.t78 := by kernel_rfl
@[simp] theorem tsize78 : Tryd.t78.size = 1 := rfl
@[simp] theorem tbytes78 : Tryd.t78.bytes = 8 := rfl
@[simp] theorem zeroV78 : zeroV Tryd.prog 78 = some (.nilp) := by kernel_rfl
theorem tz78 : (Tryd.t78.zero).map (fun z => z.cells.size) = some 1 := by kernel_rfl
@[simp] theorem tzero78 : ∃ z, Tryd.t78.zero = some z ∧ z.cells.size = 1 := by have h := tz78; cases hz : Tryd.t78.zero with | none => rw [hz] at h; cases h | some z => rw [hz] at h; exact ⟨z, rfl, by simpa using h⟩
@[simp] theorem rd78 (cs : List V) (off : Nat) : rd Tryd.prog 78 cs off = cs[off]? := by unfold rd; simp
@[simp] theorem cellsOf79 : Program.cellsOf Tryd.prog 79 = 1 := by kernel_rfl
@[simp] theorem info79 : Tryd.prog.info? 79 = some Tryd.t79 := by kernel_rfl
@[simp] theorem tsize79 : Tryd.t79.size = 1 := rfl
@[simp] theorem tbytes79 : Tryd.t79.bytes = 8 := rfl
@[simp] theorem zeroV79 : zeroV Tryd.prog 79 = some (.nilf) := by kernel_rfl
theorem tz79 : (Tryd.t79.zero).map (fun z => z.cells.size) = some 1 := by kernel_rfl
@[simp] theorem tzero79 : ∃ z, Tryd.t79.zero = some z ∧ z.cells.size = 1 := by have h := tz79; cases hz : Tryd.t79.zero with | none => rw [hz] at h; cases h | some z => rw [hz] at h; exact ⟨z, rfl, by simpa using h⟩
@[simp] theorem rd79 (cs : List V) (off : Nat) : rd Tryd.prog 79 cs off = cs[off]? := by unfold rd; simp
@[simp] theorem cellsOf80 : Program.cellsOf Tryd.prog 80 = 1 := by kernel_rfl
@[simp] theorem info80 : Tryd.prog.info? 80 = some Tryd.t80 := by kernel_rfl
@[simp] theorem tsize80 : Tryd.t80.size = 1 := rfl
@[simp] theorem tbytes80 : Tryd.t80.bytes = 8 := rfl
@[simp] theorem zeroV80 : zeroV Tryd.prog 80 = some (.nilf) := by kernel_rfl
theorem tz80 : (Tryd.t80.zero).map (fun z => z.cells.size) = some 1 := by kernel_rfl
@[simp] theorem tzero80 : ∃ z, Tryd.t80.zero = some z ∧ z.cells.size = 1 := by have h := tz80; cases hz : Tryd.t80.zero with | none => rw [hz] at h; cases h | some z => rw [hz] at h; exact ⟨z, rfl, by simpa using h⟩
@[simp] theorem rd80 (cs : List V) (off : Nat) : rd Tryd.prog 80 cs off = cs[off]? := by unfold rd; simp
@[simp] theorem cellsOf81 : Program.cellsOf Tryd.prog 81 = 1 := by kernel_rfl
@[simp] theorem info81 : Tryd.prog.info? 81 = some Tryd.t81 := by kernel_rfl
@[simp] theorem tsize81 : Tryd.t81.size = 1 := rfl
@[simp] theorem tbytes81 : Tryd.t81.bytes = 8 := rfl
@[simp] theorem zeroV81 : zeroV Tryd.prog 81 = some (.nilf) := by kernel_rfl
theorem tz81 : (Tryd.t81.zero).map (fun z => z.cells.size) = some 1 := by kernel_rfl
@[simp] theorem tzero81 : ∃ z, Tryd.t81.zero = some z ∧ z.cells.size = 1 := by have h := tz81; cases hz : Tryd.t81.zero with | none => rw [hz] at h; cases h | some z => rw [hz] at h; exact ⟨z, rfl, by simpa using h⟩
@[simp] theorem rd81 (cs : List V) (off : Nat) : rd Tryd.prog 81 cs off = cs[off]? := by unfold rd; simp
@[simp] theorem cellsOf82 : Program.cellsOf Tryd.prog 82 = 2 := by kernel_rfl
@[simp] theorem info82 : Tryd.prog.info? 82 = some Tryd.t82 := by kernel_rfl
@[simp] theorem tsize82 : Tryd.t82.size = 2 := rfl
@[simp] theorem tbytes82 : Tryd.t82.bytes = 24 := rfl
@[simp] theorem zeroV82 : zeroV Tryd.prog 82 = some (.agg [.str [], .int .i64 0]) := by kernel_rfl
theorem tz82 : (Tryd.t82.zero).map (fun z => z.cells.size) = some 2 := by kernel_rfl
@[simp] theorem tzero82 : ∃ z, Tryd.t82.zero = some z ∧ z.cells.size = 2 := by have h := tz82; cases hz : Tryd.t82.zero with | none => rw [hz] at h; cases h | some z => rw [hz] at h; exact ⟨z, rfl, by simpa using h⟩
@[simp] theorem rd82 (cs : List V) (off : Nat) : rd Tryd.prog 82 cs off = if off + 2 ≤ cs.length then some (.agg ((cs.drop off).take 2)) else none := by unfold rd; simp
@[simp] theorem fo82_0 : fieldOff Tryd.prog 82 0 = some 0 := by kernel_rfl
@[simp] theorem pf82_0 (cs : List V) : pField Tryd.prog 82 0 (.agg cs) = rd Tryd.prog 9 cs 0 := by unfold pField; simp
@[simp] theorem fo82_1 : fieldOff Tryd.prog 82 1 = some 1 := by kernel_rfl
@[simp] theorem pf82_1 (cs : List V) : pField Tryd.prog 82 1 (.agg cs) = rd Tryd.prog 3 cs 1 := by unfold pField; simp
@[simp] theorem cellsOf83 : Program.cellsOf Tryd.prog 83 = 2 := by kernel_rfl
@[simp] theorem info83 : Tryd.prog.info? 83 = some Tryd.t83 := by kernel_rfl
@[simp] theorem tsize83 : Tryd.t83.size = 2 := rfl
@[simp] theorem tbytes83 : Tryd.t83.bytes = 24 := rfl
@[simp] theorem zeroV83 : zeroV Tryd.prog 83 = some (.agg [.str [], .int .i64 0]) := by kernel_rfl
theorem tz83 : (Tryd.t83.zero).map (fun z => z.cells.size) = some 2 := by kernel_rfl
@[simp] theorem tzero83 : ∃ z, Tryd.t83.zero = some z ∧ z.cells.size = 2 := by have h := tz83; cases hz : Tryd.t83.zero with | none => rw [hz] at h; cases h | some z => rw [hz] at h; exact ⟨z, rfl, by simpa using h⟩
@[simp] theorem rd83 (cs : List V) (off : Nat) : rd Tryd.prog 83 cs off = if off + 2 ≤ cs.length then some (.agg ((cs.drop off).take 2)) else none := by unfold rd; simp
@[simp] theorem fo83_0 : fieldOff Tryd.prog 83 0 = some 0 := by kernel_rfl
@[simp] theorem pf83_0 (cs : List V) : pField Tryd.prog 83 0 (.agg cs) = rd Tryd.prog 9 cs 0 := by unfold pField; simp
@[simp] theorem fo83_1 : fieldOff Tryd.prog 83 1 = some 1 := by kernel_rfl
@[simp] theorem pf83_1 (cs : List V) : pField Tryd.prog 83 1 (.agg cs) = rd Tryd.prog 3 cs 1 := by unfold pField; simp
@[simp] theorem cellsOf91 : Program.cellsOf Tryd.prog 91 = 1 := by kernel_rfl
@[simp] theorem info91 : Tryd.prog.info? 91 = some Tryd.t91 := by kernel_rfl
@[simp] theorem tsize91 : Tryd.t91.size = 1 := rfl
@[simp] theorem tbytes91 : Tryd.t91.bytes = 8 := rfl
@[simp] theorem zeroV91 : zeroV Tryd.prog 91 = some (.int .u64 0) := by kernel_rfl
theorem tz91 : (Tryd.t91.zero).map (fun z => z.cells.size) = some 1 := by kernel_rfl
@[simp] theorem tzero91 : ∃ z, Tryd.t91.zero = some z ∧ z.cells.size = 1 := by have h := tz91; cases hz : Tryd.t91.zero with | none => rw [hz] at h; cases h | some z => rw [hz] at h; exact ⟨z, rfl, by simpa using h⟩
@[simp] theorem rd91 (cs : List V) (off : Nat) : rd Tryd.prog 91 cs off = cs[off]? := by unfold rd; simp
@[simp] theorem cellsOf92 : Program.cellsOf Tryd.prog 92 = 1 := by kernel_rfl
@[simp] theorem info92 : Tryd.prog.info? 92 = some Tryd.t92 := by kernel_rfl
@[simp] theorem tsize92 : Tryd.t92.size = 1 := rfl
@[simp] theorem tbytes92 : Tryd.t92.bytes = 8 := rfl
@[simp] theorem rd92 (cs : List V) (off : Nat) : rd Tryd.prog 92 cs off = cs[off]? := by unfold rd; simp
@[simp] theorem cellsOf93 : Program.cellsOf Tryd.prog 93 = 1 := by kernel_rfl
@[simp] theorem info93 : Tryd.prog.info? 93 = some Tryd.t93 := by kernel_rfl
@[simp] theorem tsize93 : Tryd.t93.size = 1 := rfl
@[simp] theorem tbytes93 : Tryd.t93.bytes = 8 := rfl
@[simp] theorem zeroV93 : zeroV Tryd.prog 93 = some (.nilf) := by kernel_rfl
theorem tz93 : (Tryd.t93.zero).map (fun z => z.cells.size) = some 1 := by kernel_rfl
@[simp] theorem tzero93 : ∃ z, Tryd.t93.zero = some z ∧ z.cells.size = 1 := by have h := tz93; cases hz : Tryd.t93.zero with | none => rw [hz] at h; cases h | some z => rw [hz] at h; exact ⟨z, rfl, by simpa using h⟩
@[simp] theorem rd93 (cs : List V) (off : Nat) : rd Tryd.prog 93 cs off = cs[off]? := by unfold rd; simp
@[simp] theorem cellsOf94 : Program.cellsOf Tryd.prog 94 = 1 := by kernel_rfl
@[simp] theorem info94 : Tryd.prog.info? 94 = some Tryd.t94 := by kernel_rfl
@[simp] theorem tsize94 : Tryd.t94.size = 1 := rfl
@[simp] theorem tbytes94 : Tryd.t94.bytes = 8 := rfl
@[simp] theorem zeroV94 : zeroV Tryd.prog 94 = some (.nilf) := by kernel_rfl
theorem tz94 : (Tryd.t94.zero).map (fun z => z.cells.size) = some 1 := by kernel_rfl
@[simp] theorem tzero94 : ∃ z, Tryd.t94.zero = some z ∧ z.cells.size = 1 := by have h := tz94; cases hz : Tryd.t94.zero with | none => rw [hz] at h; cases h | some z => rw [hz] at h; exact ⟨z, rfl, by simpa using h⟩
@[simp] theorem rd94 (cs : List V) (off : Nat) : rd Tryd.prog 94 cs off = cs[off]? := by unfold rd; simp
@[simp] theorem cellsOf97 : Program.cellsOf Tryd.prog 97 = 1 := by kernel_rfl
@[simp] theorem info97 : Tryd.prog.info? 97 = some Tryd.t97 := by kernel_rfl
@[simp] theorem tsize97 : Tryd.t97.size = 1 := rfl
@[simp] theorem tbytes97 : Tryd.t97.bytes = 4 := rfl
@[simp] theorem zeroV97 : zeroV Tryd.prog 97 = some (.int .u32 0) := by kernel_rfl
theorem tz97 : (Tryd.t97.zero).map (fun z => z.cells.size) = some 1 := by kernel_rfl
@[simp] theorem tzero97 : ∃ z, Tryd.t97.zero = some z ∧ z.cells.size = 1 := by have h := tz97; cases hz : Tryd.t97.zero with | none => rw [hz] at h; cases h | some z => rw [hz] at h; exact ⟨z, rfl, by simpa using h⟩
@[simp] theorem rd97 (cs : List V) (off : Nat) : rd Tryd.prog 97 cs off = cs[off]? := by unfold rd; simp
@[simp] theorem cellsOf99 : Program.cellsOf Tryd.prog 99 = 1 := by kernel_rfl
@[simp] theorem info99 : Tryd.prog.info? 99 = some Tryd.t99 := by kernel_rfl
@[simp] theorem tsize99 : Tryd.t99.size = 1 := rfl
@[simp] theorem tbytes99 : Tryd.t99.bytes = 8 := rfl
@[simp] theorem zeroV99 : zeroV Tryd.prog 99 = some (.nilf) := by kernel_rfl
theorem tz99 : (Tryd.t99.zero).map (fun z => z.cells.size) = some 1 := by kernel_rfl
@[simp] theorem tzero99 : ∃ z, Tryd.t99.zero = some z ∧ z.cells.size = 1 := by have h := tz99; cases hz : Tryd.t99.zero with | none => rw [hz] at h; cases h | some z => rw [hz] at h; exact ⟨z, rfl, by simpa using h⟩
@[simp] theorem rd99 (cs : List V) (off : Nat) : rd Tryd.prog 99 cs off = cs[off]? := by unfold rd; simp
@[simp] theorem cellsOf100 : Program.cellsOf Tryd.prog 100 = 256 := by kernel_rfl
@[simp] theorem info100 : Tryd.prog.info? 100 = some Tryd.t100 := by kernel_rfl
@[simp] theorem tsize100 : Tryd.t100.size = 256 := rfl
@[simp] theorem tbytes100 : Tryd.t100.bytes = 256 := rfl
@[simp] theorem rd100 (cs : List V) (off : Nat) : rd Tryd.prog 100 cs off = if off + 256 ≤ cs.length then some (.agg ((cs.drop off).take 256)) else none := by unfold rd; simp
@[simp] theorem cellsOf101 : Program.cellsOf Tryd.prog 101 = 2 := by kernel_rfl
@[simp] theorem info101 : Tryd.prog.info? 101 = some Tryd.t101 := by kernel_rfl
@[simp] theorem tsize101 : Tryd.t101.size = 2 := rfl
@[simp] theorem tbytes101 : Tryd.t101.bytes = 2 := rfl
@[simp] theorem zeroV101 : zeroV Tryd.prog 101 = some (.agg [.int .u8 0, .int .u8 0]) := by kernel_rfl
theorem tz101 : (Tryd.t101.zero).map (fun z => z.cells.size) = some 2 := by kernel_rfl
@[simp] theorem tzero101 : ∃ z, Tryd.t101.zero = some z ∧ z.cells.size = 2 := by have h := tz101; cases hz : Tryd.t101.zero with | none => rw [hz] at h; cases h | some z => rw [hz] at h; exact ⟨z, rfl, by simpa using h⟩
@[simp] theorem rd101 (cs : List V) (off : Nat) : rd Tryd.prog 101 cs off = if off + 2 ≤ cs.length then some (.agg ((cs.drop off).take 2)) else none := by unfold rd; simp
@[simp] theorem fo101_0 : fieldOff Tryd.prog 101 0 = some 0 := by kernel_rfl
@[simp] theorem pf101_0 (cs : List V) : pField Tryd.prog 101 0 (.agg cs) = rd Tryd.prog 5 cs 0 := by unfold pField; simp
@[simp] theorem fo101_1 : fieldOff Tryd.prog 101 1 = some 1 := by kernel_rfl
@[simp] theorem pf101_1 (cs : List V) : pField Tryd.prog 101 1 (.agg cs) = rd Tryd.prog 5 cs 1 := by unfold pField; simp
@[simp] theorem cellsOf102 : Program.cellsOf Tryd.prog 102 = 2 := by kernel_rfl
@[simp] theorem info102 : Tryd.prog.info? 102 = some Tryd.t102 := by kernel_rfl
@[simp] theorem tsize102 : Tryd.t102.size = 2 := rfl
@[simp] theorem tbytes102 : Tryd.t102.bytes = 2 := rfl
@[simp] theorem zeroV102 : zeroV Tryd.prog 102 = some (.agg [.int .u8 0, .int .u8 0]) := by kernel_rfl
theorem tz102 : (Tryd.t102.zero).map (fun z => z.cells.size) = some 2 := by kernel_rfl
@[simp] theorem tzero102 : ∃ z, Tryd.t102.zero = some z ∧ z.cells.size = 2 := by have h := tz102; cases hz : Tryd.t102.zero with | none => rw [hz] at h; cases h | some z => rw [hz] at h; exact ⟨z, rfl, by simpa using h⟩
@[simp] theorem rd102 (cs : List V) (off : Nat) : rd Tryd.prog 102 cs off = if off + 2 ≤ cs.length then some (.agg ((cs.drop off).take 2)) else none := by unfold rd; simp
@[simp] theorem fo102_0 : fieldOff Tryd.prog 102 0 = some 0 := by kernel_rfl
@[simp] theorem pf102_0 (cs : List V) : pField Tryd.prog 102 0 (.agg cs) = rd Tryd.prog 5 cs 0 := by unfold pField; simp
@[simp] theorem fo102_1 : fieldOff Tryd.prog 102 1 = some 1 := by kernel_rfl
@[simp] theorem pf102_1 (cs : List V) : pField Tryd.prog 102 1 (.agg cs) = rd Tryd.prog 5 cs 1 := by unfold pField; simp
@[simp] theorem cellsOf103 : Program.cellsOf Tryd.prog 103 = 32 := by kernel_rfl
@[simp] theorem info103 : Tryd.prog.info? 103 = some Tryd.t103 := by kernel_rfl
@[simp] theorem tsize103 : Tryd.t103.size = 32 := rfl
@[simp] theorem tbytes103 : Tryd.t103.bytes = 32 := rfl
@[simp] theorem zeroV103 : zeroV Tryd.prog 103 = some (.agg [.int .u8 0, .int .u8 0, .int .u8 0, .int .u8 0, .int .u8 0, .int .u8 0, .int .u8 0, .int .u8 0, .int .u8 0, .int .u8 0, .int .u8 0, .int .u8 0, .int .u8 0, .int .u8 0, .int .u8 0, .int .u8 0, .int .u8 0, .int .u8 0, .int .u8 0, .int .u8 0, .int .u8 0, .int .u8 0, .int .u8 0, .int .u8 0, .int .u8 0, .int .u8 0, .int .u8 0, .int .u8 0, .int .u8 0, .int .u8 0, .int .u8 0, .int .u8 0]) := by kernel_rfl
theorem tz103 : (Tryd.t103.zero).map (fun z => z.cells.size) = some 32 := by kernel_rfl
@[simp] theorem tzero103 : ∃ z, Tryd.t103.zero = some z ∧ z.cells.size = 32 := by have h := tz103; cases hz : Tryd.t103.zero with | none => rw [hz] at h; cases h | some z => rw [hz] at h; exact ⟨z, rfl, by simpa using h⟩
@[simp] theorem rd103 (cs : List V) (off : Nat) : rd Tryd.prog 103 cs off = if off + 32 ≤ cs.length then some (.agg ((cs.drop off).take 32)) else none := by unfold rd; simp
@[simp] theorem cellsOf104 : Program.cellsOf Tryd.prog 104 = 1 := by kernel_rfl
@[simp] theorem info104 : Tryd.prog.info? 104 = some Tryd.t104 := by kernel_rfl
@[simp] theorem tsize104 : Tryd.t104.size = 1 := rfl
@[simp] theorem tbytes104 : Tryd.t104.bytes = 8 := rfl
@[simp] theorem zeroV104 : zeroV Tryd.prog 104 = some (.nilf) := by kernel_rfl
theorem tz104 : (Tryd.t104.zero).map (fun z => z.cells.size) = some 1 := by kernel_rfl
@[simp] theorem tzero104 : ∃ z, Tryd.t104.zero = some z ∧ z.cells.size = 1 := by have h := tz104; cases hz : Tryd.t104.zero with | none => rw [hz] at h; cases h | some z => rw [hz] at h; exact ⟨z, rfl, by simpa using h⟩
@[simp] theorem rd104 (cs : List V) (off : Nat) : rd Tryd.prog 104 cs off = cs[off]? := by unfold rd; simp
@[simp] theorem cellsOf105 : Program.cellsOf Tryd.prog 105 = 4 := by kernel_rfl
@[simp] theorem info105 : Tryd.prog.info? 105 = some Tryd.t105 := by kernel_rfl
@[simp] theorem tsize105 : Tryd.t105.size = 4 := rfl
@[simp] theorem tbytes105 : Tryd.t105.bytes = 40 := rfl
@[simp] theorem zeroV105 : zeroV Tryd.prog 105 = some (.agg [.nilp, .nilp, .nilp, .str []]) := by kernel_rfl
theorem tz105 : (Tryd.t105.zero).map (fun z => z.cells.size) = some 4 := by kernel_rfl
@[simp] theorem tzero105 : ∃ z, Tryd.t105.zero = some z ∧ z.cells.size = 4 := by have h := tz105; cases hz : Tryd.t105.zero with | none => rw [hz] at h; cases h | some z => rw [hz] at h; exact ⟨z, rfl, by simpa using h⟩
@[simp] theorem rd105 (cs : List V) (off : Nat) : rd Tryd.prog 105 cs off = if off + 4 ≤ cs.length then some (.agg ((cs.drop off).take 4)) else none := by unfold rd; simp
@[simp] theorem fo105_0 : fieldOff Tryd.prog 105 0 = some 0 := by kernel_rfl
@[simp] theorem pf105_0 (cs : List V) : pField Tryd.prog 105 0 (.agg cs) = rd Tryd.prog 17 cs 0 := by unfold pField; simp
@[simp] theorem fo105_1 : fieldOff Tryd.prog 105 1 = some 1 := by kernel_rfl
@[simp] theorem pf105_1 (cs : List V) : pField Tryd.prog 105 1 (.agg cs) = rd Tryd.prog 17 cs 1 := by unfold pField; simp
@[simp] theorem fo105_2 : fieldOff Tryd.prog 105 2 = some 2 := by kernel_rfl
@[simp] theorem pf105_2 (cs : List V) : pField Tryd.prog 105 2 (.agg cs) = rd Tryd.prog 17 cs 2 := by unfold pField; simp
@[simp] theorem fo105_3 : fieldOff Tryd.prog 105 3 = some 3 := by kernel_rfl
@[simp] theorem pf105_3 (cs : List V) : pField Tryd.prog 105 3 (.agg cs) = rd Tryd.prog 9 cs 3 := by unfold pField; simp
@[simp] theorem cellsOf106 : Program.cellsOf Tryd.prog 106 = 4 := by kernel_rfl
@[simp] theorem info106 : Tryd.prog.info? 106 = some Tryd.t106 := by kernel_rfl
@[simp] theorem tsize106 : Tryd.t106.size = 4 := rfl
@[simp] theorem tbytes106 : Tryd.t106.bytes = 40 := rfl
@[simp] theorem zeroV106 : zeroV Tryd.prog 106 = some (.agg [.nilp, .nilp, .nilp, .str []]) := by kernel_rfl
theorem tz106 : (Tryd.t106.zero).map (fun z => z.cells.size) = some 4 := by kernel_rfl
@[simp] theorem tzero106 : ∃ z, Tryd.t106.zero = some z ∧ z.cells.size = 4 := by have h := tz106; cases hz : Tryd.t106.zero with | none => rw [hz] at h; cases h | some z => rw [hz] at h; exact ⟨z, rfl, by simpa using h⟩
@[simp] theorem rd106 (cs : List V) (off : Nat) : rd Tryd.prog 106 cs off = if off + 4 ≤ cs.length then some (.agg ((cs.drop off).take 4)) else none := by unfold rd; simp
@[simp] theorem fo106_0 : fieldOff Tryd.prog 106 0 = some 0 := by kernel_rfl
@[simp] theorem pf106_0 (cs : List V) : pField Tryd.prog 106 0 (.agg cs) = rd Tryd.prog 17 cs 0 := by unfold pField; simp
@[simp] theorem fo106_1 : fieldOff Tryd.prog 106 1 = some 1 := by kernel_rfl
@[simp] theorem pf106_1 (cs : List V) : pField Tryd.prog 106 1 (.agg cs) = rd Tryd.prog 17 cs 1 := by unfold pField; simp
@[simp] theorem fo106_2 : fieldOff Tryd.prog 106 2 = some 2 := by kernel_rfl
@[simp] theorem pf106_2 (cs : List V) : pField Tryd.prog 106 2 (.agg cs) = rd Tryd.prog 17 cs 2 := by unfold pField; simp
@[simp] theorem fo106_3 : fieldOff Tryd.prog 106 3 = some 3 := by kernel_rfl
@[simp] theorem pf106_3 (cs : List V) : pField Tryd.prog 106 3 (.agg cs) = rd Tryd.prog 9 cs 3 := by unfold pField; simp
@[simp] theorem cellsOf107 : Program.cellsOf Tryd.prog 107 = 0 := by kernel_rfl
@[simp] theorem info107 : Tryd.prog.info? 107 = some Tryd.t107 := by kernel_rfl
@[simp] theorem tsize107 : Tryd.t107.size = 0 := rfl
@[simp] theorem tbytes107 : Tryd.t107.bytes = 0 := rfl
@[simp] theorem zeroV107 : zeroV Tryd.prog 107 = some (.agg []) := by kernel_rfl
theorem tz107 : (Tryd.t107.zero).map (fun z => z.cells.size) = some 0 := by kernel_rfl
@[simp] theorem tzero107 : ∃ z, Tryd.t107.zero = some z ∧ z.cells.size = 0 := by have h := tz107; cases hz : Tryd.t107.zero with | none => rw [hz] at h; cases h | some z => rw [hz] at h; exact ⟨z, rfl, by simpa using h⟩
@[simp] theorem rd107 (cs : List V) (off : Nat) : rd Tryd.prog 107 cs off = if off + 0 ≤ cs.length then some (.agg ((cs.drop off).take 0)) else none := by unfold rd; simp
@[simp] theorem cellsOf108 : Program.cellsOf Tryd.prog 108 = 0 := by kernel_rfl
@[simp] theorem info108 : Tryd.prog.info? 108 = some Tryd.t108 := by kernel_rfl
@[simp] theorem tsize108 : Tryd.t108.size = 0 := rfl
@[simp] theorem tbytes108 : Tryd.t108.bytes = 0 := rfl
@[simp] theorem zeroV108 : zeroV Tryd.prog 108 = some (.agg []) := by kernel_rfl
theorem tz108 : (Tryd.t108.zero).map (fun z => z.cells.size) = some 0 := by kernel_rfl
@[simp] theorem tzero108 : ∃ z, Tryd.t108.zero = some z ∧ z.cells.size = 0 := by have h := tz108; cases hz : Tryd.t108.zero with | none => rw [hz] at h; cases h | some z => rw [hz] at h; exact ⟨z, rfl, by simpa using h⟩
@[simp] theorem rd108 (cs : List V) (off : Nat) : rd Tryd.prog 108 cs off = if off + 0 ≤ cs.length then some (.agg ((cs.drop off).take 0)) else none := by unfold rd; simp
@[simp] theorem pf108_0 (cs : List V) : pField Tryd.prog 108 0 (.agg cs) = rd Tryd.prog 107 cs 0 := by unfold pField; simp
@[simp] theorem cellsOf109 : Program.cellsOf Tryd.prog 109 = 0 := by kernel_rfl
@[simp] theorem info109 : Tryd.prog.info? 109 = some Tryd.t109 := by kernel_rfl
@[simp] theorem tsize109 : Tryd.t109.size = 0 := rfl
@[simp] theorem tbytes109 : Tryd.t109.bytes = 0 := rfl
@[simp] theorem zeroV109 : zeroV Tryd.prog 109 = some (.agg []) := by kernel_rfl
theorem tz109 : (Tryd.t109.zero).map (fun z => z.cells.size) = some 0 := by kernel_rfl
@[simp] theorem tzero109 : ∃ z, Tryd.t109.zero = some z ∧ z.cells.size = 0 := by have h := tz109; cases hz : Tryd.t109.zero with | none => rw [hz] at h; cases h | some z => rw [hz] at h; exact ⟨z, rfl, by simpa using h⟩
@[simp] theorem rd109 (cs : List V) (off : Nat) : rd Tryd.prog 109 cs off = if off + 0 ≤ cs.length then some (.agg ((cs.drop off).take 0)) else none := by unfold rd; simp
@[simp] theorem pf109_0 (cs : List V) : pField Tryd.prog 109 0 (.agg cs) = rd Tryd.prog 107 cs 0 := by unfold pField; simp
@[simp] theorem cellsOf110 : Program.cellsOf Tryd.prog 110 = 1 := by kernel_rfl
@[simp] theorem info110 : Tryd.prog.info? 110 = some Tryd.t110 := by kernel_rfl
@[simp] theorem tsize110 : Tryd.t110.size = 1 := rfl
@[simp] theorem tbytes110 : Tryd.t110.bytes = 8 := rfl
@[simp] theorem zeroV110 : zeroV Tryd.prog 110 = some (.nilf) := by kernel_rfl
theorem tz110 : (Tryd.t110.zero).map (fun z => z.cells.size) = some 1 := by kernel_rfl
@[simp] theorem tzero110 : ∃ z, Tryd.t110.zero = some z ∧ z.cells.size = 1 := by have h := tz110; cases hz : Tryd.t110.zero with | none => rw [hz] at h; cases h | some z => rw [hz] at h; exact ⟨z, rfl, by simpa using h⟩
@[simp] theorem rd110 (cs : List V) (off : Nat) : rd Tryd.prog 110 cs off = cs[off]? := by unfold rd; simp
@[simp] theorem cellsOf111 : Program.cellsOf Tryd.prog 111 = 1 := by kernel_rfl
@[simp] theorem info111 : Tryd.prog.info? 111 = some Tryd.t111 := by kernel_rfl
@[simp] theorem tsize111 : Tryd.t111.size = 1 := rfl
@[simp] theorem tbytes111 : Tryd.t111.bytes = 1 := rfl
@[simp] theorem zeroV111 : zeroV Tryd.prog 111 = some (.int .u8 0) := by kernel_rfl
theorem tz111 : (Tryd.t111.zero).map (fun z => z.cells.size) = some 1 := by kernel_rfl
@[simp] theorem tzero111 : ∃ z, Tryd.t111.zero = some z ∧ z.cells.size = 1 := by have h := tz111; cases hz : Tryd.t111.zero with | none => rw [hz] at h; cases h | some z => rw [hz] at h; exact ⟨z, rfl, by simpa using h⟩
@[simp] theorem rd111 (cs : List V) (off : Nat) : rd Tryd.prog 111 cs off = cs[off]? := by unfold rd; simp
@[simp] theorem cellsOf112 : Program.cellsOf Tryd.prog 112 = 1 := by kernel_rfl
@[simp] theorem info112 : Tryd.prog.info? 112 = some Tryd.t112 := by kernel_rfl
@[simp] theorem tsize112 : Tryd.t112.size = 1 := rfl
@[simp] theorem tbytes112 : Tryd.t112.bytes = 1 := rfl
@[simp] theorem zeroV112 : zeroV Tryd.prog 112 = some (.int .u8 0) := by kernel_rfl
theorem tz112 : (Tryd.t112.zero).map (fun z => z.cells.size) = some 1 := by kernel_rfl
@[simp] theorem tzero112 : ∃ z, Tryd.t112.zero = some z ∧ z.cells.size = 1 := by have h := tz112; cases hz : Tryd.t112.zero with | none => rw [hz] at h; cases h | some z => rw [hz] at h; exact ⟨z, rfl, by simpa using h⟩
@[simp] theorem rd112 (cs : List V) (off : Nat) : rd Tryd.prog 112 cs off = cs[off]? := by unfold rd; simp
@[simp] theorem cellsOf113 : Program.cellsOf Tryd.prog 113 = 1 := by kernel_rfl
@[simp] theorem info113 : Tryd.prog.info? 113 = some Tryd.t113 := by kernel_rfl
@[simp] theorem tsize113 : Tryd.t113.size = 1 := rfl
@[simp] theorem tbytes113 : Tryd.t113.bytes = 8 := rfl
@[simp] theorem zeroV113 : zeroV Tryd.prog 113 = some (.nilf) := by kernel_rfl
theorem tz113 : (Tryd.t113.zero).map (fun z => z.cells.size) = some 1 := by kernel_rfl
@[simp] theorem tzero113 : ∃ z, Tryd.t113.zero = some z ∧ z.cells.size = 1 := by have h := tz113; cases hz : Tryd.t113.zero with | none => rw [hz] at h; cases h | some z => rw [hz] at h; exact ⟨z, rfl, by simpa using h⟩
@[simp] theorem rd113 (cs : List V) (off : Nat) : rd Tryd.prog 113 cs off = cs[off]? := by unfold rd; simp
@[simp] theorem cellsOf114 : Program.cellsOf Tryd.prog 114 = 1 := by kernel_rfl
@[simp] theorem info114 : Tryd.prog.info? 114 = some Tryd.t114 := by kernel_rfl
@[simp] theorem tsize114 : Tryd.t114.size = 1 := rfl
@[simp] theorem tbytes114 : Tryd.t114.bytes = 4 := rfl
@[simp] theorem zeroV114 : zeroV Tryd.prog 114 = some (.int .i32 0) := by kernel_rfl
theorem tz114 : (Tryd.t114.zero).map (fun z => z.cells.size) = some 1 := by kernel_rfl
@[simp] theorem tzero114 : ∃ z, Tryd.t114.zero = some z ∧ z.cells.size = 1 := by have h := tz114; cases hz : Tryd.t114.zero with | none => rw [hz] at h; cases h | some z => rw [hz] at h; exact ⟨z, rfl, by simpa using h⟩
@[simp] theorem rd114 (cs : List V) (off : Nat) : rd Tryd.prog 114 cs off = cs[off]? := by unfold rd; simp
@[simp] theorem cellsOf115 : Program.cellsOf Tryd.prog 115 = 1 := by kernel_rfl
@[simp] theorem info115 : Tryd.prog.info? 115 = some Tryd.t115 := by kernel_rfl
@[simp] theorem tsize115 : Tryd.t115.size = 1 := rfl
@[simp] theorem tbytes115 : Tryd.t115.bytes = 4 := rfl
@[simp] theorem zeroV115 : zeroV Tryd.prog 115 = some (.int .i32 0) := by kernel_rfl
theorem tz115 : (Tryd.t115.zero).map (fun z => z.cells.size) = some 1 := by kernel_rfl
@[simp] theorem tzero115 : ∃ z, Tryd.t115.zero = some z ∧ z.cells.size = 1 := by have h := tz115; cases hz : Tryd.t115.zero with | none => rw [hz] at h; cases h | some z => rw [hz] at h; exact ⟨z, rfl, by simpa using h⟩
@[simp] theorem rd115 (cs : List V) (off : Nat) : rd Tryd.prog 115 cs off = cs[off]? := by unfold rd; simp
@[simp] theorem cellsOf116 : Program.cellsOf Tryd.prog 116 = 11 := by kernel_rfl
@[simp] theorem info116 : Tryd.prog.info? 116 = some Tryd.t116 := by kernel_rfl
@[simp] theorem tsize116 : Tryd.t116.size = 11 := rfl
@[simp] theorem tbytes116 : Tryd.t116.bytes = 48 := rfl
@[simp] theorem zeroV116 : zeroV Tryd.prog 116 = some (.agg [.int .u64 0, .int .u64 0, .int .u32 0, .int .u8 0, .int .u8 0, .int .u8 0, .int .u8 0, .nilf, .nilp, .int .i32 0, .int .i32 0]) := by kernel_rfl
theorem tz116 : (Tryd.t116.zero).map (fun z => z.cells.size) = some 11 := by kernel_rfl
@[simp] theorem tzero116 : ∃ z, Tryd.t116.zero = some z ∧ z.cells.size = 11 := by have h := tz116; cases hz : Tryd.t116.zero with | none => rw [hz] at h; cases h | some z => rw [hz] at h; exact ⟨z, rfl, by simpa using h⟩
@[simp] theorem rd116 (cs : List V) (off : Nat) : rd Tryd.prog 116 cs off = if off + 11 ≤ cs.length then some (.agg ((cs.drop off).take 11)) else none := by unfold rd; simp
@[simp] theorem fo116_0 : fieldOff Tryd.prog 116 0 = some 0 := by kernel_rfl
@[simp] theorem pf116_0 (cs : List V) : pField Tryd.prog 116 0 (.agg cs) = rd Tryd.prog 12 cs 0 := by unfold pField; simp
@[simp] theorem fo116_1 : fieldOff Tryd.prog 116 1 = some 1 := by kernel_rfl
@[simp] theorem pf116_1 (cs : List V) : pField Tryd.prog 116 1 (.agg cs) = rd Tryd.prog 12 cs 1 := by unfold pField; simp
@[simp] theorem fo116_2 : fieldOff Tryd.prog 116 2 = some 2 := by kernel_rfl
@[simp] theorem pf116_2 (cs : List V) : pField Tryd.prog 116 2 (.agg cs) = rd Tryd.prog 97 cs 2 := by unfold pField; simp
@[simp] theorem fo116_3 : fieldOff Tryd.prog 116 3 = some 3 := by kernel_rfl
@[simp] theorem pf116_3 (cs : List V) : pField Tryd.prog 116 3 (.agg cs) = rd Tryd.prog 111 cs 3 := by unfold pField; simp
@[simp] theorem fo116_4 : fieldOff Tryd.prog 116 4 = some 4 := by kernel_rfl
@[simp] theorem pf116_4 (cs : List V) : pField Tryd.prog 116 4 (.agg cs) = rd Tryd.prog 5 cs 4 := by unfold pField; simp
@[simp] theorem fo116_5 : fieldOff Tryd.prog 116 5 = some 5 := by kernel_rfl
@[simp] theorem pf116_5 (cs : List V) : pField Tryd.prog 116 5 (.agg cs) = rd Tryd.prog 5 cs 5 := by unfold pField; simp
@[simp] theorem fo116_6 : fieldOff Tryd.prog 116 6 = some 6 := by kernel_rfl
@[simp] theorem pf116_6 (cs : List V) : pField Tryd.prog 116 6 (.agg cs) = rd Tryd.prog 112 cs 6 := by unfold pField; simp
@[simp] theorem fo116_7 : fieldOff Tryd.prog 116 7 = some 7 := by kernel_rfl
@[simp] theorem pf116_7 (cs : List V) : pField Tryd.prog 116 7 (.agg cs) = rd Tryd.prog 113 cs 7 := by unfold pField; simp
@[simp] theorem fo116_8 : fieldOff Tryd.prog 116 8 = some 8 := by kernel_rfl
@[simp] theorem pf116_8 (cs : List V) : pField Tryd.prog 116 8 (.agg cs) = rd Tryd.prog 78 cs 8 := by unfold pField; simp
@[simp] theorem fo116_9 : fieldOff Tryd.prog 116 9 = some 9 := by kernel_rfl
@[simp] theorem pf116_9 (cs : List V) : pField Tryd.prog 116 9 (.agg cs) = rd Tryd.prog 114 cs 9 := by unfold pField; simp
@[simp] theorem fo116_10 : fieldOff Tryd.prog 116 10 = some 10 := by kernel_rfl
@[simp] theorem pf116_10 (cs : List V) : pField Tryd.prog 116 10 (.agg cs) = rd Tryd.prog 115 cs 10 := by unfold pField; simp
@[simp] theorem cellsOf117 : Program.cellsOf Tryd.prog 117 = 11 := by kernel_rfl
@[simp] theorem info117 : Tryd.prog.info? 117 = some Tryd.t117 := by kernel_rfl
@[simp] theorem tsize117 : Tryd.t117.size = 11 := rfl
@[simp] theorem tbytes117 : Tryd.t117.bytes = 48 := rfl
@[simp] theorem zeroV117 : zeroV Tryd.prog 117 = some (.agg [.int .u64 0, .int .u64 0, .int .u32 0, .int .u8 0, .int .u8 0, .int .u8 0, .int .u8 0, .nilf, .nilp, .int .i32 0, .int .i32 0]) := by kernel_rfl
theorem tz117 : (Tryd.t117.zero).map (fun z => z.cells.size) = some 11 := by kernel_rfl
@[simp] theorem tzero117 : ∃ z, Tryd.t117.zero = some z ∧ z.cells.size = 11 := by have h := tz117; cases hz : Tryd.t117.zero with | none => rw [hz] at h; cases h | some z => rw [hz] at h; exact ⟨z, rfl, by simpa using h⟩
@[simp] theorem rd117 (cs : List V) (off : Nat) : rd Tryd.prog 117 cs off = if off + 11 ≤ cs.length then some (.agg ((cs.drop off).take 11)) else none := by unfold rd; simp
@[simp] theorem fo117_0 : fieldOff Tryd.prog 117 0 = some 0 := by kernel_rfl
@[simp] theorem pf117_0 (cs : List V) : pField Tryd.prog 117 0 (.agg cs) = rd Tryd.prog 12 cs 0 := by unfold pField; simp
@[simp] theorem fo117_1 : fieldOff Tryd.prog 117 1 = some 1 := by kernel_rfl
@[simp] theorem pf117_1 (cs : List V) : pField Tryd.prog 117 1 (.agg cs) = rd Tryd.prog 12 cs 1 := by unfold pField; simp
@[simp] theorem fo117_2 : fieldOff Tryd.prog 117 2 = some 2 := by kernel_rfl
@[simp] theorem pf117_2 (cs : List V) : pField Tryd.prog 117 2 (.agg cs) = rd Tryd.prog 97 cs 2 := by unfold pField; simp
@[simp] theorem fo117_3 : fieldOff Tryd.prog 117 3 = some 3 := by kernel_rfl
@[simp] theorem pf117_3 (cs : List V) : pField Tryd.prog 117 3 (.agg cs) = rd Tryd.prog 111 cs 3 := by unfold pField; simp
@[simp] theorem fo117_4 : fieldOff Tryd.prog 117 4 = some 4 := by kernel_rfl
@[simp] theorem pf117_4 (cs : List V) : pField Tryd.prog 117 4 (.agg cs) = rd Tryd.prog 5 cs 4 := by unfold pField; simp
@[simp] theorem fo117_5 : fieldOff Tryd.prog 117 5 = some 5 := by kernel_rfl
@[simp] theorem pf117_5 (cs : List V) : pField Tryd.prog 117 5 (.agg cs) = rd Tryd.prog 5 cs 5 := by unfold pField; simp
@[simp] theorem fo117_6 : fieldOff Tryd.prog 117 6 = some 6 := by kernel_rfl
@[simp] theorem pf117_6 (cs : List V) : pField Tryd.prog 117 6 (.agg cs) = rd Tryd.prog 112 cs 6 := by unfold pField; simp
@[simp] theorem fo117_7 : fieldOff Tryd.prog 117 7 = some 7 := by kernel_rfl
@[simp] theorem pf117_7 (cs : List V) : pField Tryd.prog 117 7 (.agg cs) = rd Tryd.prog 113 cs 7 := by unfold pField; simp
@[simp] theorem fo117_8 : fieldOff Tryd.prog 117 8 = some 8 := by kernel_rfl
@[simp] theorem pf117_8 (cs : List V) : pField Tryd.prog 117 8 (.agg cs) = rd Tryd.prog 78 cs 8 := by unfold pField; simp
@[simp] theorem fo117_9 : fieldOff Tryd.prog 117 9 = some 9 := by kernel_rfl
@[simp] theorem pf117_9 (cs : List V) : pField Tryd.prog 117 9 (.agg cs) = rd Tryd.prog 114 cs 9 := by unfold pField; simp
@[simp] theorem fo117_10 : fieldOff Tryd.prog 117 10 = some 10 := by kernel_rfl
@[simp] theorem pf117_10 (cs : List V) : pField Tryd.prog 117 10 (.agg cs) = rd Tryd.prog 115 cs 10 := by unfold pField; simp
@[simp] theorem cellsOf118 : Program.cellsOf Tryd.prog 118 = 2 := by kernel_rfl
@[simp] theorem info118 : Tryd.prog.info? 118 = some Tryd.t118 := by kernel_rfl
@[simp] theorem tsize118 : Tryd.t118.size = 2 := rfl
@[simp] theorem tbytes118 : Tryd.t118.bytes = 16 := rfl
@[simp] theorem zeroV118 : zeroV Tryd.prog 118 = some (.agg [.int .i64 0, .int .i64 0]) := by kernel_rfl
theorem tz118 : (Tryd.t118.zero).map (fun z => z.cells.size) = some 2 := by kernel_rfl
@[simp] theorem tzero118 : ∃ z, Tryd.t118.zero = some z ∧ z.cells.size = 2 := by have h := tz118; cases hz : Tryd.t118.zero with | none => rw [hz] at h; cases h | some z => rw [hz] at h; exact ⟨z, rfl, by simpa using h⟩
@[simp] theorem rd118 (cs : List V) (off : Nat) : rd Tryd.prog 118 cs off = if off + 2 ≤ cs.length then some (.agg ((cs.drop off).take 2)) else none := by unfold rd; simp
@[simp] theorem fo118_0 : fieldOff Tryd.prog 118 0 = some 0 := by kernel_rfl
@[simp] theorem pf118_0 (cs : List V) : pField Tryd.prog 118 0 (.agg cs) = rd Tryd.prog 2 cs 0 := by unfold pField; simp
@[simp] theorem fo118_1 : fieldOff Tryd.prog 118 1 = some 1 := by kernel_rfl
@[simp] theorem pf118_1 (cs : List V) : pField Tryd.prog 118 1 (.agg cs) = rd Tryd.prog 2 cs 1 := by unfold pField; simp
@[simp] theorem cellsOf119 : Program.cellsOf Tryd.prog 119 = 2 := by kernel_rfl
@[simp] theorem info119 : Tryd.prog.info? 119 = some Tryd.t119 := by kernel_rfl
@[simp] theorem tsize119 : Tryd.t119.size = 2 := rfl
@[simp] theorem tbytes119 : Tryd.t119.bytes = 16 := rfl
@[simp] theorem zeroV119 : zeroV Tryd.prog 119 = some (.agg [.int .i64 0, .int .i64 0]) := by kernel_rfl
theorem tz119 : (Tryd.t119.zero).map (fun z => z.cells.size) = some 2 := by kernel_rfl
@[simp] theorem tzero119 : ∃ z, Tryd.t119.zero = some z ∧ z.cells.size = 2 := by have h := tz119; cases hz : Tryd.t119.zero with | none => rw [hz] at h; cases h | some z => rw [hz] at h; exact ⟨z, rfl, by simpa using h⟩
@[simp] theorem rd119 (cs : List V) (off : Nat) : rd Tryd.prog 119 cs off = if off + 2 ≤ cs.length then some (.agg ((cs.drop off).take 2)) else none := by unfold rd; simp
@[simp] theorem fo119_0 : fieldOff Tryd.prog 119 0 = some 0 := by kernel_rfl
@[simp] theorem pf119_0 (cs : List V) : pField Tryd.prog 119 0 (.agg cs) = rd Tryd.prog 2 cs 0 := by unfold pField; simp
@[simp] theorem fo119_1 : fieldOff Tryd.prog 119 1 = some 1 := by kernel_rfl
@[simp] theorem pf119_1 (cs : List V) : pField Tryd.prog 119 1 (.agg cs) = rd Tryd.prog 2 cs 1 := by unfold pField; simp
@[simp] theorem cellsOf120 : Program.cellsOf Tryd.prog 120 = 6 := by kernel_rfl
@[simp] theorem info120 : Tryd.prog.info? 120 = some Tryd.t120 := by kernel_rfl
@[simp] theorem tsize120 : Tryd.t120.size = 6 := rfl
@[simp] theorem tbytes120 : Tryd.t120.bytes = 72 := rfl
@[simp] theorem zeroV120 : zeroV Tryd.prog 120 = some (.agg [.int .u8 0, .int .i64 0, .int .i64 0, .bool false, .str [], .nils]) := by kernel_rfl
theorem tz120 : (Tryd.t120.zero).map (fun z => z.cells.size) = some 6 := by kernel_rfl
@[simp] theorem tzero120 : ∃ z, Tryd.t120.zero = some z ∧ z.cells.size = 6 := by have h := tz120; cases hz : Tryd.t120.zero with | none => rw [hz] at h; cases h | some z => rw [hz] at h; exact ⟨z, rfl, by simpa using h⟩
@[simp] theorem rd120 (cs : List V) (off : Nat) : rd Tryd.prog 120 cs off = if off + 6 ≤ cs.length then some (.agg ((cs.drop off).take 6)) else none := by unfold rd; simp
@[simp] theorem fo120_0 : fieldOff Tryd.prog 120 0 = some 0 := by kernel_rfl
@[simp] theorem pf120_0 (cs : List V) : pField Tryd.prog 120 0 (.agg cs) = rd Tryd.prog 5 cs 0 := by unfold pField; simp
@[simp] theorem fo120_1 : fieldOff Tryd.prog 120 1 = some 1 := by kernel_rfl
@[simp] theorem pf120_1 (cs : List V) : pField Tryd.prog 120 1 (.agg cs) = rd Tryd.prog 119 cs 1 := by unfold pField; simp
@[simp] theorem fo120_2 : fieldOff Tryd.prog 120 2 = some 3 := by kernel_rfl
@[simp] theorem pf120_2 (cs : List V) : pField Tryd.prog 120 2 (.agg cs) = rd Tryd.prog 4 cs 3 := by unfold pField; simp
@[simp] theorem fo120_3 : fieldOff Tryd.prog 120 3 = some 4 := by kernel_rfl
@[simp] theorem pf120_3 (cs : List V) : pField Tryd.prog 120 3 (.agg cs) = rd Tryd.prog 9 cs 4 := by unfold pField; simp
@[simp] theorem fo120_4 : fieldOff Tryd.prog 120 4 = some 5 := by kernel_rfl
@[simp] theorem pf120_4 (cs : List V) : pField Tryd.prog 120 4 (.agg cs) = rd Tryd.prog 47 cs 5 := by unfold pField; simp
@[simp] theorem cellsOf121 : Program.cellsOf Tryd.prog 121 = 6 := by kernel_rfl
@[simp] theorem info121 : Tryd.prog.info? 121 = some Tryd.t121 := by kernel_rfl
@[simp] theorem tsize121 : Tryd.t121.size = 6 := rfl
@[simp] theorem tbytes121 : Tryd.t121.bytes = 72 := rfl
@[simp] theorem zeroV121 : zeroV Tryd.prog 121 = some (.agg [.int .u8 0, .int .i64 0, .int .i64 0, .bool false, .str [], .nils]) := by kernel_rfl
theorem tz121 : (Tryd.t121.zero).map (fun z => z.cells.size) = some 6 := by kernel_rfl
@[simp] theorem tzero121 : ∃ z, Tryd.t121.zero = some z ∧ z.cells.size = 6 := by have h := tz121; cases hz : Tryd.t121.zero with | none => rw [hz] at h; cases h | some z => rw [hz] at h; exact ⟨z, rfl, by simpa using h⟩
@[simp] theorem rd121 (cs : List V) (off : Nat) : rd Tryd.prog 121 cs off = if off + 6 ≤ cs.length then some (.agg ((cs.drop off).take 6)) else none := by unfold rd; simp
@[simp] theorem fo121_0 : fieldOff Tryd.prog 121 0 = some 0 := by kernel_rfl
@[simp] theorem pf121_0 (cs : List V) : pField Tryd.prog 121 0 (.agg cs) = rd Tryd.prog 5 cs 0 := by unfold pField; simp
@[simp] theorem fo121_1 : fieldOff Tryd.prog 121 1 = some 1 := by kernel_rfl
@[simp] theorem pf121_1 (cs : List V) : pField Tryd.prog 121 1 (.agg cs) = rd Tryd.prog 119 cs 1 := by unfold pField; simp
@[simp] theorem fo121_2 : fieldOff Tryd.prog 121 2 = some 3 := by kernel_rfl
@[simp] theorem pf121_2 (cs : List V) : pField Tryd.prog 121 2 (.agg cs) = rd Tryd.prog 4 cs 3 := by unfold pField; simp
@[simp] theorem fo121_3 : fieldOff Tryd.prog 121 3 = some 4 := by kernel_rfl
@[simp] theorem pf121_3 (cs : List V) : pField Tryd.prog 121 3 (.agg cs) = rd Tryd.prog 9 cs 4 := by unfold pField; simp
@[simp] theorem fo121_4 : fieldOff Tryd.prog 121 4 = some 5 := by kernel_rfl
@[simp] theorem pf121_4 (cs : List V) : pField Tryd.prog 121 4 (.agg cs) = rd Tryd.prog 47 cs 5 := by unfold pField; simp
@[simp] theorem cellsOf122 : Program.cellsOf Tryd.prog 122 = 1 := by kernel_rfl
@[simp] theorem info122 : Tryd.prog.info? 122 = some Tryd.t122 := by kernel_rfl
@[simp] theorem tsize122 : Tryd.t122.size = 1 := rfl
@[simp] theorem tbytes122 : Tryd.t122.bytes = 8 := rfl
@[simp] theorem zeroV122 : zeroV Tryd.prog 122 = some (.nilf) := by kernel_rfl
theorem tz122 : (Tryd.t122.zero).map (fun z => z.cells.size) = some 1 := by kernel_rfl
@[simp] theorem tzero122 : ∃ z, Tryd.t122.zero = some z ∧ z.cells.size = 1 := by have h := tz122; cases hz : Tryd.t122.zero with | none => rw [hz] at h; cases h | some z => rw [hz] at h; exact ⟨z, rfl, by simpa using h⟩
@[simp] theorem rd122 (cs : List V) (off : Nat) : rd Tryd.prog 122 cs off = cs[off]? := by unfold rd; simp
@[simp] theorem app22 (H : Heap) (s x : V) : hAppend Tryd.prog H 22 22 s x = match srcOf H 3 x with | some ys => appendTo H 32 3 s ys | none => none := by unfold hAppend; obtain ⟨z, h1, h2⟩ := tzero32; simp [h1, h2, notInt]; cases srcOf H 3 x <;> simp [h2]
@[simp] theorem app33 (H : Heap) (s x : V) : hAppend Tryd.prog H 33 33 s x = match srcOf H 1 x with | some ys => appendTo H 4 1 s ys | none => none := by unfold hAppend; obtain ⟨z, h1, h2⟩ := tzero4; simp [h1, h2, notInt]; cases srcOf H 1 x <;> simp [h2]
@[simp] theorem app37 (H : Heap) (s x : V) : hAppend Tryd.prog H 37 37 s x = match srcOf H 1 x with | some ys => appendTo H 9 1 s ys | none => none := by unfold hAppend; obtain ⟨z, h1, h2⟩ := tzero9; simp [h1, h2, notInt]; cases srcOf H 1 x <;> simp [h2]
@[simp] theorem app44 (H : Heap) (s x : V) : hAppend Tryd.prog H 44 44 s x = match srcOf H 13 x with | some ys => appendTo H 55 13 s ys | none => none := by unfold hAppend; obtain ⟨z, h1, h2⟩ := tzero55; simp [h1, h2, notInt]; cases srcOf H 13 x <;> simp [h2]
@[simp] theorem app47 (H : Heap) (s x : V) : hAppend Tryd.prog H 47 47 s x = match srcOf H 6 x with | some ys => appendTo H 121 6 s ys | none => none := by unfold hAppend; obtain ⟨z, h1, h2⟩ := tzero121; simp [h1, h2, notInt]; cases srcOf H 6 x <;> simp [h2]
@[simp] theorem app58 (H : Heap) (s x : V) : hAppend Tryd.prog H 58 58 s x = match srcOf H 1 x with | some ys => appendTo H 5 1 s ys | none => none := by unfold hAppend; obtain ⟨z, h1, h2⟩ := tzero5; simp [h1, h2, notInt]; cases srcOf H 1 x <;> simp [h2]
theorem sih32 : Tryd.prog.stoodInHeld 32 = false := by kernel_rfl
theorem eqg32 : Tryd.prog.eqGuardType Tryd.prog.depth 32 = false := by kernel_rfl
theorem eqA32 (a0 : List UInt8) (a1 : Int) (a2 : List UInt8) (b0 : List UInt8) (b1 : Int) (b2 : List UInt8) : eqv Tryd.prog 24 32 (.agg [.str a0, .int .u8 a1, .str a2]) (.agg [.str b0, .int .u8 b1, .str b2]) = some ((a0 == b0) && ((a1 == b1) && (a2 == b2))) := by simp [eqv, eqFs, Bool.and_assoc, sih32]
@[simp high] theorem eqS32 (a0 : List UInt8) (a1 : Int) (a2 : List UInt8) (b0 : List UInt8) (b1 : Int) (b2 : List UInt8) : pBin Tryd.prog .eql 32 (.agg [.str a0, .int .u8 a1, .str a2]) (.agg [.str b0, .int .u8 b1, .str b2]) = some (.bool ((a0 == b0) && ((a1 == b1) && (a2 == b2)))) := by unfold pBin; simp only [V.odd, plainEq, eqg32, eqA32]; rfl
@[simp high] theorem neS32 (a0 : List UInt8) (a1 : Int) (a2 : List UInt8) (b0 : List UInt8) (b1 : Int) (b2 : List UInt8) : pBin Tryd.prog .neq 32 (.agg [.str a0, .int .u8 a1, .str a2]) (.agg [.str b0, .int .u8 b1, .str b2]) = some (.bool (!((a0 == b0) && ((a1 == b1) && (a2 == b2))))) := by unfold pBin; simp only [V.odd, plainEq, eqg32, eqA32]; rfl
@[simp] theorem b4_eql (a b : Bool) : pBin Tryd.prog .eql 4 (.bool a) (.bool b) = some (.bool (a == b)) := by apply pBin_b_eql Tryd.underlying4
@[simp] theorem b4_neq (a b : Bool) : pBin Tryd.prog .neq 4 (.bool a) (.bool b) = some (.bool (!(a == b))) := by apply pBin_b_neq Tryd.underlying4
@[simp] theorem p057_eql  : pBin Tryd.prog .eql 57 .nilp .nilp = some (.bool true) := by apply pBin_p0_eql Tryd.underlying57
@[simp] theorem p057_neq  : pBin Tryd.prog .neq 57 .nilp .nilp = some (.bool false) := by apply pBin_p0_neq Tryd.underlying57
@[simp] theorem p157_eql (l i o : Nat) : pBin Tryd.prog .eql 57 (.ptr l i o) .nilp = some (.bool false) := by apply pBin_p1_eql Tryd.underlying57
@[simp] theorem p157_neq (l i o : Nat) : pBin Tryd.prog .neq 57 (.ptr l i o) .nilp = some (.bool true) := by apply pBin_p1_neq Tryd.underlying57
@[simp] theorem p257_eql (l i o : Nat) : pBin Tryd.prog .eql 57 .nilp (.ptr l i o) = some (.bool false) := by apply pBin_p2_eql Tryd.underlying57
@[simp] theorem p257_neq (l i o : Nat) : pBin Tryd.prog .neq 57 .nilp (.ptr l i o) = some (.bool true) := by apply pBin_p2_neq Tryd.underlying57
@[simp] theorem p357_eql (cs : List V) (o : Nat) : pBin Tryd.prog .eql 57 (.ref cs o) .nilp = some (.bool false) := by apply pBin_p3_eql Tryd.underlying57
@[simp] theorem p357_neq (cs : List V) (o : Nat) : pBin Tryd.prog .neq 57 (.ref cs o) .nilp = some (.bool true) := by apply pBin_p3_neq Tryd.underlying57
@[simp] theorem p457_eql (cs : List V) (o : Nat) : pBin Tryd.prog .eql 57 .nilp (.ref cs o) = some (.bool false) := by apply pBin_p4_eql Tryd.underlying57
@[simp] theorem p457_neq (cs : List V) (o : Nat) : pBin Tryd.prog .neq 57 .nilp (.ref cs o) = some (.bool true) := by apply pBin_p4_neq Tryd.underlying57
end Go.Proofs.Tryd
