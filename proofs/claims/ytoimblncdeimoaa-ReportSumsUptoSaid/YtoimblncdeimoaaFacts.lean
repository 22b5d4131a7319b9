import Derived.Test.YtoimblncdeimoaaAbBin
import Derived.Test.YtoimblncdeimoaaProg
namespace Go.Proofs.Try
open Go Go.Ab
set_option linter.unusedSimpArgs false
@[simp] theorem cellsOf1 : Program.cellsOf Try.prog 1 = 1 := by kernel_rfl
@[simp] theorem info1 : Try.prog.info? 1 = some Try.t1 := by kernel_rfl
@[simp] theorem tsize1 : Try.t1.size = 1 := rfl
@[simp] theorem tbytes1 : Try.t1.bytes = 8 := rfl
@[simp] theorem zeroV1 : zeroV Try.prog 1 = some (.nilf) := by kernel_rfl
theorem tz1 : (Try.t1.zero).map (fun z => z.cells.size) = some 1 := by kernel_rfl
@[simp] theorem tzero1 : ∃ z, Try.t1.zero = some z ∧ z.cells.size = 1 := by have h := tz1; cases hz : Try.t1.zero with | none => rw [hz] at h; cases h | some z => rw [hz] at h; exact ⟨z, rfl, by simpa using h⟩
@[simp] theorem rd1 (cs : List V) (off : Nat) : rd Try.prog 1 cs off = cs[off]? := by unfold rd; simp
@[simp] theorem cellsOf2 : Program.cellsOf Try.prog 2 = 1 := by kernel_rfl
@[simp] theorem info2 : Try.prog.info? 2 = some Try.t2 := by kernel_rfl
@[simp] theorem tsize2 : Try.t2.size = 1 := rfl
@[simp] theorem tbytes2 : Try.t2.bytes = 8 := rfl
@[simp] theorem zeroV2 : zeroV Try.prog 2 = some (.int .i64 0) := by kernel_rfl
theorem tz2 : (Try.t2.zero).map (fun z => z.cells.size) = some 1 := by kernel_rfl
@[simp] theorem tzero2 : ∃ z, Try.t2.zero = some z ∧ z.cells.size = 1 := by have h := tz2; cases hz : Try.t2.zero with | none => rw [hz] at h; cases h | some z => rw [hz] at h; exact ⟨z, rfl, by simpa using h⟩
@[simp] theorem rd2 (cs : List V) (off : Nat) : rd Try.prog 2 cs off = cs[off]? := by unfold rd; simp
@[simp] theorem cellsOf3 : Program.cellsOf Try.prog 3 = 1 := by kernel_rfl
@[simp] theorem info3 : Try.prog.info? 3 = some Try.t3 := by kernel_rfl
@[simp] theorem tsize3 : Try.t3.size = 1 := rfl
@[simp] theorem tbytes3 : Try.t3.bytes = 8 := rfl
@[simp] theorem zeroV3 : zeroV Try.prog 3 = some (.int .i64 0) := by kernel_rfl
theorem tz3 : (Try.t3.zero).map (fun z => z.cells.size) = some 1 := by kernel_rfl
@[simp] theorem tzero3 : ∃ z, Try.t3.zero = some z ∧ z.cells.size = 1 := by have h := tz3; cases hz : Try.t3.zero with | none => rw [hz] at h; cases h | some z => rw [hz] at h; exact ⟨z, rfl, by simpa using h⟩
@[simp] theorem rd3 (cs : List V) (off : Nat) : rd Try.prog 3 cs off = cs[off]? := by unfold rd; simp
@[simp] theorem cellsOf4 : Program.cellsOf Try.prog 4 = 1 := by kernel_rfl
@[simp] theorem info4 : Try.prog.info? 4 = some Try.t4 := by kernel_rfl
@[simp] theorem tsize4 : Try.t4.size = 1 := rfl
@[simp] theorem tbytes4 : Try.t4.bytes = 1 := rfl
@[simp] theorem zeroV4 : zeroV Try.prog 4 = some (.bool false) := by kernel_rfl
theorem tz4 : (Try.t4.zero).map (fun z => z.cells.size) = some 1 := by kernel_rfl
@[simp] theorem tzero4 : ∃ z, Try.t4.zero = some z ∧ z.cells.size = 1 := by have h := tz4; cases hz : Try.t4.zero with | none => rw [hz] at h; cases h | some z => rw [hz] at h; exact ⟨z, rfl, by simpa using h⟩
@[simp] theorem rd4 (cs : List V) (off : Nat) : rd Try.prog 4 cs off = cs[off]? := by unfold rd; simp
@[simp] theorem cellsOf5 : Program.cellsOf Try.prog 5 = 1 := by kernel_rfl
@[simp] theorem info5 : Try.prog.info? 5 = some Try.t5 := by kernel_rfl
@[simp] theorem tsize5 : Try.t5.size = 1 := rfl
@[simp] theorem tbytes5 : Try.t5.bytes = 1 := rfl
@[simp] theorem zeroV5 : zeroV Try.prog 5 = some (.int .u8 0) := by kernel_rfl
theorem tz5 : (Try.t5.zero).map (fun z => z.cells.size) = some 1 := by kernel_rfl
@[simp] theorem tzero5 : ∃ z, Try.t5.zero = some z ∧ z.cells.size = 1 := by have h := tz5; cases hz : Try.t5.zero with | none => rw [hz] at h; cases h | some z => rw [hz] at h; exact ⟨z, rfl, by simpa using h⟩
@[simp] theorem rd5 (cs : List V) (off : Nat) : rd Try.prog 5 cs off = cs[off]? := by unfold rd; simp
@[simp] theorem cellsOf6 : Program.cellsOf Try.prog 6 = 1 := by kernel_rfl
@[simp] theorem info6 : Try.prog.info? 6 = some Try.t6 := by kernel_rfl
@[simp] theorem tsize6 : Try.t6.size = 1 := rfl
@[simp] theorem tbytes6 : Try.t6.bytes = 1 := rfl
@[simp] theorem zeroV6 : zeroV Try.prog 6 = some (.int .u8 0) := by kernel_rfl
theorem tz6 : (Try.t6.zero).map (fun z => z.cells.size) = some 1 := by kernel_rfl
@[simp] theorem tzero6 : ∃ z, Try.t6.zero = some z ∧ z.cells.size = 1 := by have h := tz6; cases hz : Try.t6.zero with | none => rw [hz] at h; cases h | some z => rw [hz] at h; exact ⟨z, rfl, by simpa using h⟩
@[simp] theorem rd6 (cs : List V) (off : Nat) : rd Try.prog 6 cs off = cs[off]? := by unfold rd; simp
@[simp] theorem cellsOf7 : Program.cellsOf Try.prog 7 = 4 := by kernel_rfl
@[simp] theorem info7 : Try.prog.info? 7 = some Try.t7 := by kernel_rfl
@[simp] theorem tsize7 : Try.t7.size = 4 := rfl
@[simp] theorem tbytes7 : Try.t7.bytes = 24 := rfl
@[simp] theorem zeroV7 : zeroV Try.prog 7 = some (.agg [.int .i64 0, .int .i64 0, .bool false, .int .u8 0]) := by kernel_rfl
theorem tz7 : (Try.t7.zero).map (fun z => z.cells.size) = some 4 := by kernel_rfl
@[simp] theorem tzero7 : ∃ z, Try.t7.zero = some z ∧ z.cells.size = 4 := by have h := tz7; cases hz : Try.t7.zero with | none => rw [hz] at h; cases h | some z => rw [hz] at h; exact ⟨z, rfl, by simpa using h⟩
@[simp] theorem rd7 (cs : List V) (off : Nat) : rd Try.prog 7 cs off = if off + 4 ≤ cs.length then some (.agg ((cs.drop off).take 4)) else none := by unfold rd; simp
@[simp] theorem fo7_0 : fieldOff Try.prog 7 0 = some 0 := by kernel_rfl
@[simp] theorem pf7_0 (cs : List V) : pField Try.prog 7 0 (.agg cs) = rd Try.prog 2 cs 0 := by unfold pField; simp
@[simp] theorem fo7_1 : fieldOff Try.prog 7 1 = some 1 := by kernel_rfl
@[simp] theorem pf7_1 (cs : List V) : pField Try.prog 7 1 (.agg cs) = rd Try.prog 3 cs 1 := by unfold pField; simp
@[simp] theorem fo7_2 : fieldOff Try.prog 7 2 = some 2 := by kernel_rfl
@[simp] theorem pf7_2 (cs : List V) : pField Try.prog 7 2 (.agg cs) = rd Try.prog 4 cs 2 := by unfold pField; simp
@[simp] theorem fo7_3 : fieldOff Try.prog 7 3 = some 3 := by kernel_rfl
@[simp] theorem pf7_3 (cs : List V) : pField Try.prog 7 3 (.agg cs) = rd Try.prog 6 cs 3 := by unfold pField; simp
@[simp] theorem cellsOf8 : Program.cellsOf Try.prog 8 = 4 := by kernel_rfl
@[simp] theorem info8 : Try.prog.info? 8 = some Try.t8 := by kernel_rfl
@[simp] theorem tsize8 : Try.t8.size = 4 := rfl
@[simp] theorem tbytes8 : Try.t8.bytes = 24 := rfl
@[simp] theorem zeroV8 : zeroV Try.prog 8 = some (.agg [.int .i64 0, .int .i64 0, .bool false, .int .u8 0]) := by kernel_rfl
theorem tz8 : (Try.t8.zero).map (fun z => z.cells.size) = some 4 := by kernel_rfl
@[simp] theorem tzero8 : ∃ z, Try.t8.zero = some z ∧ z.cells.size = 4 := by have h := tz8; cases hz : Try.t8.zero with | none => rw [hz] at h; cases h | some z => rw [hz] at h; exact ⟨z, rfl, by simpa using h⟩
@[simp] theorem rd8 (cs : List V) (off : Nat) : rd Try.prog 8 cs off = if off + 4 ≤ cs.length then some (.agg ((cs.drop off).take 4)) else none := by unfold rd; simp
@[simp] theorem fo8_0 : fieldOff Try.prog 8 0 = some 0 := by kernel_rfl
@[simp] theorem pf8_0 (cs : List V) : pField Try.prog 8 0 (.agg cs) = rd Try.prog 2 cs 0 := by unfold pField; simp
@[simp] theorem fo8_1 : fieldOff Try.prog 8 1 = some 1 := by kernel_rfl
@[simp] theorem pf8_1 (cs : List V) : pField Try.prog 8 1 (.agg cs) = rd Try.prog 3 cs 1 := by unfold pField; simp
@[simp] theorem fo8_2 : fieldOff Try.prog 8 2 = some 2 := by kernel_rfl
@[simp] theorem pf8_2 (cs : List V) : pField Try.prog 8 2 (.agg cs) = rd Try.prog 4 cs 2 := by unfold pField; simp
@[simp] theorem fo8_3 : fieldOff Try.prog 8 3 = some 3 := by kernel_rfl
@[simp] theorem pf8_3 (cs : List V) : pField Try.prog 8 3 (.agg cs) = rd Try.prog 6 cs 3 := by unfold pField; simp
@[simp] theorem cellsOf9 : Program.cellsOf Try.prog 9 = 1 := by kernel_rfl
@[simp] theorem info9 : Try.prog.info? 9 = some Try.t9 := by kernel_rfl
@[simp] theorem tsize9 : Try.t9.size = 1 := rfl
@[simp] theorem tbytes9 : Try.t9.bytes = 16 := rfl
@[simp] theorem zeroV9 : zeroV Try.prog 9 = some (.str []) := by kernel_rfl
theorem tz9 : (Try.t9.zero).map (fun z => z.cells.size) = some 1 := by kernel_rfl
@[simp] theorem tzero9 : ∃ z, Try.t9.zero = some z ∧ z.cells.size = 1 := by have h := tz9; cases hz : Try.t9.zero with | none => rw [hz] at h; cases h | some z => rw [hz] at h; exact ⟨z, rfl, by simpa using h⟩
@[simp] theorem rd9 (cs : List V) (off : Nat) : rd Try.prog 9 cs off = cs[off]? := by unfold rd; simp
@[simp] theorem cellsOf10 : Program.cellsOf Try.prog 10 = 1 := by kernel_rfl
@[simp] theorem info10 : Try.prog.info? 10 = some Try.t10 := by kernel_rfl
@[simp] theorem tsize10 : Try.t10.size = 1 := rfl
@[simp] theorem tbytes10 : Try.t10.bytes = 16 := rfl
@[simp] theorem zeroV10 : zeroV Try.prog 10 = some (.str []) := by kernel_rfl
theorem tz10 : (Try.t10.zero).map (fun z => z.cells.size) = some 1 := by kernel_rfl
@[simp] theorem tzero10 : ∃ z, Try.t10.zero = some z ∧ z.cells.size = 1 := by have h := tz10; cases hz : Try.t10.zero with | none => rw [hz] at h; cases h | some z => rw [hz] at h; exact ⟨z, rfl, by simpa using h⟩
@[simp] theorem rd10 (cs : List V) (off : Nat) : rd Try.prog 10 cs off = cs[off]? := by unfold rd; simp
@[simp] theorem cellsOf11 : Program.cellsOf Try.prog 11 = 1 := by kernel_rfl
@[simp] theorem info11 : Try.prog.info? 11 = some Try.t11 := by kernel_rfl
@[simp] theorem tsize11 : Try.t11.size = 1 := rfl
@[simp] theorem tbytes11 : Try.t11.bytes = 16 := rfl
@[simp] theorem zeroV11 : zeroV Try.prog 11 = some (.str []) := by kernel_rfl
theorem tz11 : (Try.t11.zero).map (fun z => z.cells.size) = some 1 := by kernel_rfl
@[simp] theorem tzero11 : ∃ z, Try.t11.zero = some z ∧ z.cells.size = 1 := by have h := tz11; cases hz : Try.t11.zero with | none => rw [hz] at h; cases h | some z => rw [hz] at h; exact ⟨z, rfl, by simpa using h⟩
@[simp] theorem rd11 (cs : List V) (off : Nat) : rd Try.prog 11 cs off = cs[off]? := by unfold rd; simp
@[simp] theorem cellsOf12 : Program.cellsOf Try.prog 12 = 1 := by kernel_rfl
@[simp] theorem info12 : Try.prog.info? 12 = some Try.t12 := by kernel_rfl
@[simp] theorem tsize12 : Try.t12.size = 1 := rfl
@[simp] theorem tbytes12 : Try.t12.bytes = 8 := rfl
@[simp] theorem zeroV12 : zeroV Try.prog 12 = some (.int .u64 0) := by kernel_rfl
theorem tz12 : (Try.t12.zero).map (fun z => z.cells.size) = some 1 := by kernel_rfl
@[simp] theorem tzero12 : ∃ z, Try.t12.zero = some z ∧ z.cells.size = 1 := by have h := tz12; cases hz : Try.t12.zero with | none => rw [hz] at h; cases h | some z => rw [hz] at h; exact ⟨z, rfl, by simpa using h⟩
@[simp] theorem rd12 (cs : List V) (off : Nat) : rd Try.prog 12 cs off = cs[off]? := by unfold rd; simp
@[simp] theorem cellsOf13 : Program.cellsOf Try.prog 13 = 2 := by kernel_rfl
@[simp] theorem info13 : Try.prog.info? 13 = some Try.t13 := by kernel_rfl
@[simp] theorem tsize13 : Try.t13.size = 2 := rfl
@[simp] theorem tbytes13 : Try.t13.bytes = 24 := rfl
@[simp] theorem zeroV13 : zeroV Try.prog 13 = some (.agg [.str [], .int .u64 0]) := by kernel_rfl
theorem tz13 : (Try.t13.zero).map (fun z => z.cells.size) = some 2 := by kernel_rfl
@[simp] theorem tzero13 : ∃ z, Try.t13.zero = some z ∧ z.cells.size = 2 := by have h := tz13; cases hz : Try.t13.zero with | none => rw [hz] at h; cases h | some z => rw [hz] at h; exact ⟨z, rfl, by simpa using h⟩
@[simp] theorem rd13 (cs : List V) (off : Nat) : rd Try.prog 13 cs off = if off + 2 ≤ cs.length then some (.agg ((cs.drop off).take 2)) else none := by unfold rd; simp
@[simp] theorem fo13_0 : fieldOff Try.prog 13 0 = some 0 := by kernel_rfl
@[simp] theorem pf13_0 (cs : List V) : pField Try.prog 13 0 (.agg cs) = rd Try.prog 9 cs 0 := by unfold pField; simp
@[simp] theorem fo13_1 : fieldOff Try.prog 13 1 = some 1 := by kernel_rfl
@[simp] theorem pf13_1 (cs : List V) : pField Try.prog 13 1 (.agg cs) = rd Try.prog 12 cs 1 := by unfold pField; simp
@[simp] theorem cellsOf14 : Program.cellsOf Try.prog 14 = 2 := by kernel_rfl
@[simp] theorem info14 : Try.prog.info? 14 = some Try.t14 := by kernel_rfl
@[simp] theorem tsize14 : Try.t14.size = 2 := rfl
@[simp] theorem tbytes14 : Try.t14.bytes = 24 := rfl
@[simp] theorem zeroV14 : zeroV Try.prog 14 = some (.agg [.str [], .int .u64 0]) := by kernel_rfl
theorem tz14 : (Try.t14.zero).map (fun z => z.cells.size) = some 2 := by kernel_rfl
@[simp] theorem tzero14 : ∃ z, Try.t14.zero = some z ∧ z.cells.size = 2 := by have h := tz14; cases hz : Try.t14.zero with | none => rw [hz] at h; cases h | some z => rw [hz] at h; exact ⟨z, rfl, by simpa using h⟩
@[simp] theorem rd14 (cs : List V) (off : Nat) : rd Try.prog 14 cs off = if off + 2 ≤ cs.length then some (.agg ((cs.drop off).take 2)) else none := by unfold rd; simp
@[simp] theorem fo14_0 : fieldOff Try.prog 14 0 = some 0 := by kernel_rfl
@[simp] theorem pf14_0 (cs : List V) : pField Try.prog 14 0 (.agg cs) = rd Try.prog 9 cs 0 := by unfold pField; simp
@[simp] theorem fo14_1 : fieldOff Try.prog 14 1 = some 1 := by kernel_rfl
@[simp] theorem pf14_1 (cs : List V) : pField Try.prog 14 1 (.agg cs) = rd Try.prog 12 cs 1 := by unfold pField; simp
@[simp] theorem cellsOf15 : Program.cellsOf Try.prog 15 = 1 := by kernel_rfl
@[simp] theorem info15 : Try.prog.info? 15 = some Try.t15 := by kernel_rfl
@[simp] theorem tsize15 : Try.t15.size = 1 := rfl
@[simp] theorem tbytes15 : Try.t15.bytes = 8 := rfl
@[simp] theorem zeroV15 : zeroV Try.prog 15 = some (.nilp) := by kernel_rfl
theorem tz15 : (Try.t15.zero).map (fun z => z.cells.size) = some 1 := by kernel_rfl
@[simp] theorem tzero15 : ∃ z, Try.t15.zero = some z ∧ z.cells.size = 1 := by have h := tz15; cases hz : Try.t15.zero with | none => rw [hz] at h; cases h | some z => rw [hz] at h; exact ⟨z, rfl, by simpa using h⟩
@[simp] theorem rd15 (cs : List V) (off : Nat) : rd Try.prog 15 cs off = cs[off]? := by unfold rd; simp
@[simp] theorem cellsOf16 : Program.cellsOf Try.prog 16 = 1 := by kernel_rfl
@[simp] theorem info16 : Try.prog.info? 16 = some Try.t16 := by kernel_rfl
@[simp] theorem tsize16 : Try.t16.size = 1 := rfl
@[simp] theorem tbytes16 : Try.t16.bytes = 8 := rfl
@[simp] theorem zeroV16 : zeroV Try.prog 16 = some (.nilp) := by kernel_rfl
theorem tz16 : (Try.t16.zero).map (fun z => z.cells.size) = some 1 := by kernel_rfl
@[simp] theorem tzero16 : ∃ z, Try.t16.zero = some z ∧ z.cells.size = 1 := by have h := tz16; cases hz : Try.t16.zero with | none => rw [hz] at h; cases h | some z => rw [hz] at h; exact ⟨z, rfl, by simpa using h⟩
@[simp] theorem rd16 (cs : List V) (off : Nat) : rd Try.prog 16 cs off = cs[off]? := by unfold rd; simp
@[simp] theorem cellsOf17 : Program.cellsOf Try.prog 17 = 1 := by kernel_rfl
@[simp] theorem info17 : Try.prog.info? 17 = some Try.t17 := by kernel_rfl
@[simp] theorem tsize17 : Try.t17.size = 1 := rfl
@[simp] theorem tbytes17 : Try.t17.bytes = 8 := rfl
@[simp] theorem zeroV17 : zeroV Try.prog 17 = some (.nilp) := by kernel_rfl
theorem tz17 : (Try.t17.zero).map (fun z => z.cells.size) = some 1 := by kernel_rfl
@[simp] theorem tzero17 : ∃ z, Try.t17.zero = some z ∧ z.cells.size = 1 := by have h := tz17; cases hz : Try.t17.zero with | none => rw [hz] at h; cases h | some z => rw [hz] at h; exact ⟨z, rfl, by simpa using h⟩
@[simp] theorem rd17 (cs : List V) (off : Nat) : rd Try.prog 17 cs off = cs[off]? := by unfold rd; simp
@[simp] theorem cellsOf18 : Program.cellsOf Try.prog 18 = 1 := by kernel_rfl
@[simp] theorem info18 : Try.prog.info? 18 = some Try.t18 := by kernel_rfl
@[simp] theorem tsize18 : Try.t18.size = 1 := rfl
@[simp] theorem tbytes18 : Try.t18.bytes = 8 := rfl
@[simp] theorem zeroV18 : zeroV Try.prog 18 = some (.agg [.nilp]) := by kernel_rfl
theorem tz18 : (Try.t18.zero).map (fun z => z.cells.size) = some 1 := by kernel_rfl
@[simp] theorem tzero18 : ∃ z, Try.t18.zero = some z ∧ z.cells.size = 1 := by have h := tz18; cases hz : Try.t18.zero with | none => rw [hz] at h; cases h | some z => rw [hz] at h; exact ⟨z, rfl, by simpa using h⟩
@[simp] theorem rd18 (cs : List V) (off : Nat) : rd Try.prog 18 cs off = if off + 1 ≤ cs.length then some (.agg ((cs.drop off).take 1)) else none := by unfold rd; simp
@[simp] theorem fo18_0 : fieldOff Try.prog 18 0 = some 0 := by kernel_rfl
@[simp] theorem pf18_0 (cs : List V) : pField Try.prog 18 0 (.agg cs) = rd Try.prog 17 cs 0 := by unfold pField; simp
@[simp] theorem cellsOf19 : Program.cellsOf Try.prog 19 = 1 := by kernel_rfl
@[simp] theorem info19 : Try.prog.info? 19 = some Try.t19 := by kernel_rfl
@[simp] theorem tsize19 : Try.t19.size = 1 := rfl
@[simp] theorem tbytes19 : Try.t19.bytes = 8 := rfl
@[simp] theorem zeroV19 : zeroV Try.prog 19 = some (.agg [.nilp]) := by kernel_rfl
theorem tz19 : (Try.t19.zero).map (fun z => z.cells.size) = some 1 := by kernel_rfl
@[simp] theorem tzero19 : ∃ z, Try.t19.zero = some z ∧ z.cells.size = 1 := by have h := tz19; cases hz : Try.t19.zero with | none => rw [hz] at h; cases h | some z => rw [hz] at h; exact ⟨z, rfl, by simpa using h⟩
@[simp] theorem rd19 (cs : List V) (off : Nat) : rd Try.prog 19 cs off = if off + 1 ≤ cs.length then some (.agg ((cs.drop off).take 1)) else none := by unfold rd; simp
@[simp] theorem fo19_0 : fieldOff Try.prog 19 0 = some 0 := by kernel_rfl
@[simp] theorem pf19_0 (cs : List V) : pField Try.prog 19 0 (.agg cs) = rd Try.prog 17 cs 0 := by unfold pField; simp
@[simp] theorem cellsOf20 : Program.cellsOf Try.prog 20 = 1 := by kernel_rfl
@[simp] theorem info20 : Try.prog.info? 20 = some Try.t20 := by kernel_rfl
@[simp] theorem tsize20 : Try.t20.size = 1 := rfl
@[simp] theorem tbytes20 : Try.t20.bytes = 16 := rfl
@[simp] theorem zeroV20 : zeroV Try.prog 20 = some (.nili) := by kernel_rfl
theorem tz20 : (Try.t20.zero).map (fun z => z.cells.size) = some 1 := by kernel_rfl
@[simp] theorem tzero20 : ∃ z, Try.t20.zero = some z ∧ z.cells.size = 1 := by have h := tz20; cases hz : Try.t20.zero with | none => rw [hz] at h; cases h | some z => rw [hz] at h; exact ⟨z, rfl, by simpa using h⟩
@[simp] theorem rd20 (cs : List V) (off : Nat) : rd Try.prog 20 cs off = cs[off]? := by unfold rd; simp
@[simp] theorem cellsOf21 : Program.cellsOf Try.prog 21 = 1 := by kernel_rfl
@[simp] theorem info21 : Try.prog.info? 21 = some Try.t21 := by kernel_rfl
@[simp] theorem tsize21 : Try.t21.size = 1 := rfl
@[simp] theorem tbytes21 : Try.t21.bytes = 4 := rfl
@[simp] theorem zeroV21 : zeroV Try.prog 21 = some (.int .i32 0) := by kernel_rfl
theorem tz21 : (Try.t21.zero).map (fun z => z.cells.size) = some 1 := by kernel_rfl
@[simp] theorem tzero21 : ∃ z, Try.t21.zero = some z ∧ z.cells.size = 1 := by have h := tz21; cases hz : Try.t21.zero with | none => rw [hz] at h; cases h | some z => rw [hz] at h; exact ⟨z, rfl, by simpa using h⟩
@[simp] theorem rd21 (cs : List V) (off : Nat) : rd Try.prog 21 cs off = cs[off]? := by unfold rd; simp
@[simp] theorem cellsOf22 : Program.cellsOf Try.prog 22 = 1 := by kernel_rfl
@[simp] theorem info22 : Try.prog.info? 22 = some Try.t22 := by kernel_rfl
@[simp] theorem tsize22 : Try.t22.size = 1 := rfl
@[simp] theorem tbytes22 : Try.t22.bytes = 24 := rfl
@[simp] theorem zeroV22 : zeroV Try.prog 22 = some (.nils) := by kernel_rfl
theorem tz22 : (Try.t22.zero).map (fun z => z.cells.size) = some 1 := by kernel_rfl
@[simp] theorem tzero22 : ∃ z, Try.t22.zero = some z ∧ z.cells.size = 1 := by have h := tz22; cases hz : Try.t22.zero with | none => rw [hz] at h; cases h | some z => rw [hz] at h; exact ⟨z, rfl, by simpa using h⟩
@[simp] theorem rd22 (cs : List V) (off : Nat) : rd Try.prog 22 cs off = cs[off]? := by unfold rd; simp
@[simp] theorem cellsOf23 : Program.cellsOf Try.prog 23 = 1 := by kernel_rfl
@[simp] theorem info23 : Try.prog.info? 23 = some Try.t23 := by kernel_rfl
@[simp] theorem tsize23 : Try.t23.size = 1 := rfl
@[simp] theorem tbytes23 : Try.t23.bytes = 8 := rfl
@[simp] theorem zeroV23 : zeroV Try.prog 23 = some (.nilf) := by kernel_rfl
theorem tz23 : (Try.t23.zero).map (fun z => z.cells.size) = some 1 := by kernel_rfl
@[simp] theorem tzero23 : ∃ z, Try.t23.zero = some z ∧ z.cells.size = 1 := by have h := tz23; cases hz : Try.t23.zero with | none => rw [hz] at h; cases h | some z => rw [hz] at h; exact ⟨z, rfl, by simpa using h⟩
@[simp] theorem rd23 (cs : List V) (off : Nat) : rd Try.prog 23 cs off = cs[off]? := by unfold rd; simp
@[simp] theorem cellsOf24 : Program.cellsOf Try.prog 24 = 1 := by kernel_rfl
@[simp] theorem info24 : Try.prog.info? 24 = some Try.t24 := by kernel_rfl
@[simp] theorem tsize24 : Try.t24.size = 1 := rfl
@[simp] theorem tbytes24 : Try.t24.bytes = 8 := rfl
@[simp] theorem zeroV24 : zeroV Try.prog 24 = some (.int .i64 0) := by kernel_rfl
theorem tz24 : (Try.t24.zero).map (fun z => z.cells.size) = some 1 := by kernel_rfl
@[simp] theorem tzero24 : ∃ z, Try.t24.zero = some z ∧ z.cells.size = 1 := by have h := tz24; cases hz : Try.t24.zero with | none => rw [hz] at h; cases h | some z => rw [hz] at h; exact ⟨z, rfl, by simpa using h⟩
@[simp] theorem rd24 (cs : List V) (off : Nat) : rd Try.prog 24 cs off = cs[off]? := by unfold rd; simp
@[simp] theorem cellsOf26 : Program.cellsOf Try.prog 26 = 1 := by kernel_rfl
@[simp] theorem info26 : Try.prog.info? 26 = some Try.t26 := by kernel_rfl
@[simp] theorem tsize26 : Try.t26.size = 1 := rfl
@[simp] theorem tbytes26 : Try.t26.bytes = 8 := rfl
@[simp] theorem zeroV26 : zeroV Try.prog 26 = some (.nilf) := by kernel_rfl
theorem tz26 : (Try.t26.zero).map (fun z => z.cells.size) = some 1 := by kernel_rfl
@[simp] theorem tzero26 : ∃ z, Try.t26.zero = some z ∧ z.cells.size = 1 := by have h := tz26; cases hz : Try.t26.zero with | none => rw [hz] at h; cases h | some z => rw [hz] at h; exact ⟨z, rfl, by simpa using h⟩
@[simp] theorem rd26 (cs : List V) (off : Nat) : rd Try.prog 26 cs off = cs[off]? := by unfold rd; simp
@[simp] theorem cellsOf28 : Program.cellsOf Try.prog 28 = 1 := by kernel_rfl
@[simp] theorem info28 : Try.prog.info? 28 = some Try.t28 := by kernel_rfl
@[simp] theorem tsize28 : Try.t28.size = 1 := rfl
@[simp] theorem tbytes28 : Try.t28.bytes = 8 := rfl
@[simp] theorem zeroV28 : zeroV Try.prog 28 = some (.nilf) := by kernel_rfl
theorem tz28 : (Try.t28.zero).map (fun z => z.cells.size) = some 1 := by kernel_rfl
@[simp] theorem tzero28 : ∃ z, Try.t28.zero = some z ∧ z.cells.size = 1 := by have h := tz28; cases hz : Try.t28.zero with | none => rw [hz] at h; cases h | some z => rw [hz] at h; exact ⟨z, rfl, by simpa using h⟩
@[simp] theorem rd28 (cs : List V) (off : Nat) : rd Try.prog 28 cs off = cs[off]? := by unfold rd; simp
@[simp] theorem cellsOf29 : Program.cellsOf Try.prog 29 = 3 := by kernel_rfl
@[simp] theorem info29 : Try.prog.info? 29 = some Try.t29 := by kernel_rfl
@[simp] theorem tsize29 : Try.t29.size = 3 := rfl
@[simp] theorem tbytes29 : Try.t29.bytes = 32 := rfl
@[simp] theorem zeroV29 : zeroV Try.prog 29 = some (.agg [.str [], .int .i64 0, .int .i64 0]) := by kernel_rfl
theorem tz29 : (Try.t29.zero).map (fun z => z.cells.size) = some 3 := by kernel_rfl
@[simp] theorem tzero29 : ∃ z, Try.t29.zero = some z ∧ z.cells.size = 3 := by have h := tz29; cases hz : Try.t29.zero with | none => rw [hz] at h; cases h | some z => rw [hz] at h; exact ⟨z, rfl, by simpa using h⟩
@[simp] theorem rd29 (cs : List V) (off : Nat) : rd Try.prog 29 cs off = if off + 3 ≤ cs.length then some (.agg ((cs.drop off).take 3)) else none := by unfold rd; simp
@[simp] theorem fo29_0 : fieldOff Try.prog 29 0 = some 0 := by kernel_rfl
@[simp] theorem pf29_0 (cs : List V) : pField Try.prog 29 0 (.agg cs) = rd Try.prog 9 cs 0 := by unfold pField; simp
@[simp] theorem fo29_1 : fieldOff Try.prog 29 1 = some 1 := by kernel_rfl
@[simp] theorem pf29_1 (cs : List V) : pField Try.prog 29 1 (.agg cs) = rd Try.prog 3 cs 1 := by unfold pField; simp
@[simp] theorem fo29_2 : fieldOff Try.prog 29 2 = some 2 := by kernel_rfl
@[simp] theorem pf29_2 (cs : List V) : pField Try.prog 29 2 (.agg cs) = rd Try.prog 2 cs 2 := by unfold pField; simp
@[simp] theorem cellsOf30 : Program.cellsOf Try.prog 30 = 3 := by kernel_rfl
@[simp] theorem info30 : Try.prog.info? 30 = some Try.t30 := by kernel_rfl
@[simp] theorem tsize30 : Try.t30.size = 3 := rfl
@[simp] theorem tbytes30 : Try.t30.bytes = 32 := rfl
@[simp] theorem zeroV30 : zeroV Try.prog 30 = some (.agg [.str [], .int .i64 0, .int .i64 0]) := by kernel_rfl
theorem tz30 : (Try.t30.zero).map (fun z => z.cells.size) = some 3 := by kernel_rfl
@[simp] theorem tzero30 : ∃ z, Try.t30.zero = some z ∧ z.cells.size = 3 := by have h := tz30; cases hz : Try.t30.zero with | none => rw [hz] at h; cases h | some z => rw [hz] at h; exact ⟨z, rfl, by simpa using h⟩
@[simp] theorem rd30 (cs : List V) (off : Nat) : rd Try.prog 30 cs off = if off + 3 ≤ cs.length then some (.agg ((cs.drop off).take 3)) else none := by unfold rd; simp
@[simp] theorem fo30_0 : fieldOff Try.prog 30 0 = some 0 := by kernel_rfl
@[simp] theorem pf30_0 (cs : List V) : pField Try.prog 30 0 (.agg cs) = rd Try.prog 9 cs 0 := by unfold pField; simp
@[simp] theorem fo30_1 : fieldOff Try.prog 30 1 = some 1 := by kernel_rfl
@[simp] theorem pf30_1 (cs : List V) : pField Try.prog 30 1 (.agg cs) = rd Try.prog 3 cs 1 := by unfold pField; simp
@[simp] theorem fo30_2 : fieldOff Try.prog 30 2 = some 2 := by kernel_rfl
@[simp] theorem pf30_2 (cs : List V) : pField Try.prog 30 2 (.agg cs) = rd Try.prog 2 cs 2 := by unfold pField; simp
@[simp] theorem cellsOf32 : Program.cellsOf Try.prog 32 = 1 := by kernel_rfl
@[simp] theorem info32 : Try.prog.info? 32 = some Try.t32 := by kernel_rfl
@[simp] theorem tsize32 : Try.t32.size = 1 := rfl
@[simp] theorem tbytes32 : Try.t32.bytes = 8 := rfl
@[simp] theorem zeroV32 : zeroV Try.prog 32 = some (.nilf) := by kernel_rfl
theorem tz32 : (Try.t32.zero).map (fun z => z.cells.size) = some 1 := by kernel_rfl
@[simp] theorem tzero32 : ∃ z, Try.t32.zero = some z ∧ z.cells.size = 1 := by have h := tz32; cases hz : Try.t32.zero with | none => rw [hz] at h; cases h | some z => rw [hz] at h; exact ⟨z, rfl, by simpa using h⟩
@[simp] theorem rd32 (cs : List V) (off : Nat) : rd Try.prog 32 cs off = cs[off]? := by unfold rd; simp
@[simp] theorem cellsOf34 : Program.cellsOf Try.prog 34 = 1 := by kernel_rfl
@[simp] theorem info34 : Try.prog.info? 34 = some Try.t34 := by kernel_rfl
@[simp] theorem tsize34 : Try.t34.size = 1 := rfl
@[simp] theorem tbytes34 : Try.t34.bytes = 8 := rfl
@[simp] theorem zeroV34 : zeroV Try.prog 34 = some (.nilf) := by kernel_rfl
theorem tz34 : (Try.t34.zero).map (fun z => z.cells.size) = some 1 := by kernel_rfl
@[simp] theorem tzero34 : ∃ z, Try.t34.zero = some z ∧ z.cells.size = 1 := by have h := tz34; cases hz : Try.t34.zero with | none => rw [hz] at h; cases h | some z => rw [hz] at h; exact ⟨z, rfl, by simpa using h⟩
@[simp] theorem rd34 (cs : List V) (off : Nat) : rd Try.prog 34 cs off = cs[off]? := by unfold rd; simp
@[simp] theorem cellsOf35 : Program.cellsOf Try.prog 35 = 1 := by kernel_rfl
@[simp] theorem info35 : Try.prog.info? 35 = some Try.t35 := by kernel_rfl
@[simp] theorem tsize35 : Try.t35.size = 1 := rfl
@[simp] theorem tbytes35 : Try.t35.bytes = 8 := rfl
@[simp] theorem zeroV35 : zeroV Try.prog 35 = some (.nilf) := by kernel_rfl
theorem tz35 : (Try.t35.zero).map (fun z => z.cells.size) = some 1 := by kernel_rfl
@[simp] theorem tzero35 : ∃ z, Try.t35.zero = some z ∧ z.cells.size = 1 := by have h := tz35; cases hz : Try.t35.zero with | none => rw [hz] at h; cases h | some z => rw [hz] at h; exact ⟨z, rfl, by simpa using h⟩
@[simp] theorem rd35 (cs : List V) (off : Nat) : rd Try.prog 35 cs off = cs[off]? := by unfold rd; simp
@[simp] theorem cellsOf36 : Program.cellsOf Try.prog 36 = 1 := by kernel_rfl
@[simp] theorem info36 : Try.prog.info? 36 = some Try.t36 := by kernel_rfl
@[simp] theorem tsize36 : Try.t36.size = 1 := rfl
@[simp] theorem tbytes36 : Try.t36.bytes = 8 := rfl
@[simp] theorem zeroV36 : zeroV Try.prog 36 = some (.nilf) := by kernel_rfl
theorem tz36 : (Try.t36.zero).map (fun z => z.cells.size) = some 1 := by kernel_rfl
@[simp] theorem tzero36 : ∃ z, Try.t36.zero = some z ∧ z.cells.size = 1 := by have h := tz36; cases hz : Try.t36.zero with | none => rw [hz] at h; cases h | some z => rw [hz] at h; exact ⟨z, rfl, by simpa using h⟩
@[simp] theorem rd36 (cs : List V) (off : Nat) : rd Try.prog 36 cs off = cs[off]? := by unfold rd; simp
@[simp] theorem cellsOf37 : Program.cellsOf Try.prog 37 = 1 := by kernel_rfl
@[simp] theorem info37 : Try.prog.info? 37 = some Try.t37 := by kernel_rfl
@[simp] theorem tsize37 : Try.t37.size = 1 := rfl
@[simp] theorem tbytes37 : Try.t37.bytes = 8 := rfl
@[simp] theorem zeroV37 : zeroV Try.prog 37 = some (.nilf) := by kernel_rfl
theorem tz37 : (Try.t37.zero).map (fun z => z.cells.size) = some 1 := by kernel_rfl
@[simp] theorem tzero37 : ∃ z, Try.t37.zero = some z ∧ z.cells.size = 1 := by have h := tz37; cases hz : Try.t37.zero with | none => rw [hz] at h; cases h | some z => rw [hz] at h; exact ⟨z, rfl, by simpa using h⟩
@[simp] theorem rd37 (cs : List V) (off : Nat) : rd Try.prog 37 cs off = cs[off]? := by unfold rd; simp
@[simp] theorem cellsOf38 : Program.cellsOf Try.prog 38 = 1 := by kernel_rfl
@[simp] theorem info38 : Try.prog.info? 38 = some Try.t38 := by kernel_rfl
@[simp] theorem tsize38 : Try.t38.size = 1 := rfl
@[simp] theorem tbytes38 : Try.t38.bytes = 24 := rfl
@[simp] theorem zeroV38 : zeroV Try.prog 38 = some (.nils) := by kernel_rfl
theorem tz38 : (Try.t38.zero).map (fun z => z.cells.size) = some 1 := by kernel_rfl
@[simp] theorem tzero38 : ∃ z, Try.t38.zero = some z ∧ z.cells.size = 1 := by have h := tz38; cases hz : Try.t38.zero with | none => rw [hz] at h; cases h | some z => rw [hz] at h; exact ⟨z, rfl, by simpa using h⟩
@[simp] theorem rd38 (cs : List V) (off : Nat) : rd Try.prog 38 cs off = cs[off]? := by unfold rd; simp
@[simp] theorem cellsOf39 : Program.cellsOf Try.prog 39 = 3 := by kernel_rfl
@[simp] theorem info39 : Try.prog.info? 39 = some Try.t39 := by kernel_rfl
@[simp] theorem tsize39 : Try.t39.size = 3 := rfl
@[simp] theorem tbytes39 : Try.t39.bytes = 24 := rfl
@[simp] theorem zeroV39 : zeroV Try.prog 39 = some (.agg [.int .i64 0, .int .i64 0, .int .i64 0]) := by kernel_rfl
theorem tz39 : (Try.t39.zero).map (fun z => z.cells.size) = some 3 := by kernel_rfl
@[simp] theorem tzero39 : ∃ z, Try.t39.zero = some z ∧ z.cells.size = 3 := by have h := tz39; cases hz : Try.t39.zero with | none => rw [hz] at h; cases h | some z => rw [hz] at h; exact ⟨z, rfl, by simpa using h⟩
@[simp] theorem rd39 (cs : List V) (off : Nat) : rd Try.prog 39 cs off = if off + 3 ≤ cs.length then some (.agg ((cs.drop off).take 3)) else none := by unfold rd; simp
@[simp] theorem fo39_0 : fieldOff Try.prog 39 0 = some 0 := by kernel_rfl
@[simp] theorem pf39_0 (cs : List V) : pField Try.prog 39 0 (.agg cs) = rd Try.prog 3 cs 0 := by unfold pField; simp
@[simp] theorem fo39_1 : fieldOff Try.prog 39 1 = some 1 := by kernel_rfl
@[simp] theorem pf39_1 (cs : List V) : pField Try.prog 39 1 (.agg cs) = rd Try.prog 3 cs 1 := by unfold pField; simp
@[simp] theorem fo39_2 : fieldOff Try.prog 39 2 = some 2 := by kernel_rfl
@[simp] theorem pf39_2 (cs : List V) : pField Try.prog 39 2 (.agg cs) = rd Try.prog 3 cs 2 := by unfold pField; simp
@[simp] theorem cellsOf40 : Program.cellsOf Try.prog 40 = 3 := by kernel_rfl
@[simp] theorem info40 : Try.prog.info? 40 = some Try.t40 := by kernel_rfl
@[simp] theorem tsize40 : Try.t40.size = 3 := rfl
@[simp] theorem tbytes40 : Try.t40.bytes = 24 := rfl
@[simp] theorem zeroV40 : zeroV Try.prog 40 = some (.agg [.int .i64 0, .int .i64 0, .int .i64 0]) := by kernel_rfl
theorem tz40 : (Try.t40.zero).map (fun z => z.cells.size) = some 3 := by kernel_rfl
@[simp] theorem tzero40 : ∃ z, Try.t40.zero = some z ∧ z.cells.size = 3 := by have h := tz40; cases hz : Try.t40.zero with | none => rw [hz] at h; cases h | some z => rw [hz] at h; exact ⟨z, rfl, by simpa using h⟩
@[simp] theorem rd40 (cs : List V) (off : Nat) : rd Try.prog 40 cs off = if off + 3 ≤ cs.length then some (.agg ((cs.drop off).take 3)) else none := by unfold rd; simp
@[simp] theorem fo40_0 : fieldOff Try.prog 40 0 = some 0 := by kernel_rfl
@[simp] theorem pf40_0 (cs : List V) : pField Try.prog 40 0 (.agg cs) = rd Try.prog 3 cs 0 := by unfold pField; simp
@[simp] theorem fo40_1 : fieldOff Try.prog 40 1 = some 1 := by kernel_rfl
@[simp] theorem pf40_1 (cs : List V) : pField Try.prog 40 1 (.agg cs) = rd Try.prog 3 cs 1 := by unfold pField; simp
@[simp] theorem fo40_2 : fieldOff Try.prog 40 2 = some 2 := by kernel_rfl
@[simp] theorem pf40_2 (cs : List V) : pField Try.prog 40 2 (.agg cs) = rd Try.prog 3 cs 2 := by unfold pField; simp
@[simp] theorem cellsOf41 : Program.cellsOf Try.prog 41 = 6 := by kernel_rfl
@[simp] theorem info41 : Try.prog.info? 41 = some Try.t41 := by kernel_rfl
@[simp] theorem tsize41 : Try.t41.size = 6 := rfl
@[simp] theorem tbytes41 : Try.t41.bytes = 48 := rfl
@[simp] theorem zeroV41 : zeroV Try.prog 41 = some (.agg [.int .i64 0, .int .i64 0, .int .i64 0, .int .i64 0, .int .i64 0, .int .i64 0]) := by kernel_rfl
theorem tz41 : (Try.t41.zero).map (fun z => z.cells.size) = some 6 := by kernel_rfl
@[simp] theorem tzero41 : ∃ z, Try.t41.zero = some z ∧ z.cells.size = 6 := by have h := tz41; cases hz : Try.t41.zero with | none => rw [hz] at h; cases h | some z => rw [hz] at h; exact ⟨z, rfl, by simpa using h⟩
@[simp] theorem rd41 (cs : List V) (off : Nat) : rd Try.prog 41 cs off = if off + 6 ≤ cs.length then some (.agg ((cs.drop off).take 6)) else none := by unfold rd; simp
@[simp] theorem fo41_0 : fieldOff Try.prog 41 0 = some 0 := by kernel_rfl
@[simp] theorem pf41_0 (cs : List V) : pField Try.prog 41 0 (.agg cs) = rd Try.prog 40 cs 0 := by unfold pField; simp
@[simp] theorem fo41_1 : fieldOff Try.prog 41 1 = some 3 := by kernel_rfl
@[simp] theorem pf41_1 (cs : List V) : pField Try.prog 41 1 (.agg cs) = rd Try.prog 40 cs 3 := by unfold pField; simp
@[simp] theorem cellsOf42 : Program.cellsOf Try.prog 42 = 6 := by kernel_rfl
@[simp] theorem info42 : Try.prog.info? 42 = some Try.t42 := by kernel_rfl
@[simp] theorem tsize42 : Try.t42.size = 6 := rfl
@[simp] theorem tbytes42 : Try.t42.bytes = 48 := rfl
@[simp] theorem zeroV42 : zeroV Try.prog 42 = some (.agg [.int .i64 0, .int .i64 0, .int .i64 0, .int .i64 0, .int .i64 0, .int .i64 0]) := by kernel_rfl
theorem tz42 : (Try.t42.zero).map (fun z => z.cells.size) = some 6 := by kernel_rfl
@[simp] theorem tzero42 : ∃ z, Try.t42.zero = some z ∧ z.cells.size = 6 := by have h := tz42; cases hz : Try.t42.zero with | none => rw [hz] at h; cases h | some z => rw [hz] at h; exact ⟨z, rfl, by simpa using h⟩
@[simp] theorem rd42 (cs : List V) (off : Nat) : rd Try.prog 42 cs off = if off + 6 ≤ cs.length then some (.agg ((cs.drop off).take 6)) else none := by unfold rd; simp
@[simp] theorem fo42_0 : fieldOff Try.prog 42 0 = some 0 := by kernel_rfl
@[simp] theorem pf42_0 (cs : List V) : pField Try.prog 42 0 (.agg cs) = rd Try.prog 40 cs 0 := by unfold pField; simp
@[simp] theorem fo42_1 : fieldOff Try.prog 42 1 = some 3 := by kernel_rfl
@[simp] theorem pf42_1 (cs : List V) : pField Try.prog 42 1 (.agg cs) = rd Try.prog 40 cs 3 := by unfold pField; simp
@[simp] theorem cellsOf43 : Program.cellsOf Try.prog 43 = 1 := by kernel_rfl
@[simp] theorem info43 : Try.prog.info? 43 = some Try.t43 := by kernel_rfl
@[simp] theorem tsize43 : Try.t43.size = 1 := rfl
@[simp] theorem tbytes43 : Try.t43.bytes = 8 := rfl
@[simp] theorem zeroV43 : zeroV Try.prog 43 = some (.nilf) := by kernel_rfl
theorem tz43 : (Try.t43.zero).map (fun z => z.cells.size) = some 1 := by kernel_rfl
@[simp] theorem tzero43 : ∃ z, Try.t43.zero = some z ∧ z.cells.size = 1 := by have h := tz43; cases hz : Try.t43.zero with | none => rw [hz] at h; cases h | some z => rw [hz] at h; exact ⟨z, rfl, by simpa using h⟩
@[simp] theorem rd43 (cs : List V) (off : Nat) : rd Try.prog 43 cs off = cs[off]? := by unfold rd; simp
@[simp] theorem cellsOf44 : Program.cellsOf Try.prog 44 = 1 := by kernel_rfl
@[simp] theorem info44 : Try.prog.info? 44 = some Try.t44 := by kernel_rfl
@[simp] theorem tsize44 : Try.t44.size = 1 := rfl
@[simp] theorem tbytes44 : Try.t44.bytes = 24 := rfl
@[simp] theorem zeroV44 : zeroV Try.prog 44 = some (.nils) := by kernel_rfl
theorem tz44 : (Try.t44.zero).map (fun z => z.cells.size) = some 1 := by kernel_rfl
@[simp] theorem tzero44 : ∃ z, Try.t44.zero = some z ∧ z.cells.size = 1 := by have h := tz44; cases hz : Try.t44.zero with | none => rw [hz] at h; cases h | some z => rw [hz] at h; exact ⟨z, rfl, by simpa using h⟩
@[simp] theorem rd44 (cs : List V) (off : Nat) : rd Try.prog 44 cs off = cs[off]? := by unfold rd; simp
@[simp] theorem cellsOf46 : Program.cellsOf Try.prog 46 = 1 := by kernel_rfl
@[simp] theorem info46 : Try.prog.info? 46 = some Try.t46 := by kernel_rfl
@[simp] theorem tsize46 : Try.t46.size = 1 := rfl
@[simp] theorem tbytes46 : Try.t46.bytes = 8 := rfl
@[simp] theorem zeroV46 : zeroV Try.prog 46 = some (.nilf) := by kernel_rfl
theorem tz46 : (Try.t46.zero).map (fun z => z.cells.size) = some 1 := by kernel_rfl
@[simp] theorem tzero46 : ∃ z, Try.t46.zero = some z ∧ z.cells.size = 1 := by have h := tz46; cases hz : Try.t46.zero with | none => rw [hz] at h; cases h | some z => rw [hz] at h; exact ⟨z, rfl, by simpa using h⟩
@[simp] theorem rd46 (cs : List V) (off : Nat) : rd Try.prog 46 cs off = cs[off]? := by unfold rd; simp
@[simp] theorem cellsOf48 : Program.cellsOf Try.prog 48 = 1 := by kernel_rfl
@[simp] theorem info48 : Try.prog.info? 48 = some Try.t48 := by kernel_rfl
@[simp] theorem tsize48 : Try.t48.size = 1 := rfl
@[simp] theorem tbytes48 : Try.t48.bytes = 8 := rfl
@[simp] theorem zeroV48 : zeroV Try.prog 48 = some (.nilf) := by kernel_rfl
theorem tz48 : (Try.t48.zero).map (fun z => z.cells.size) = some 1 := by kernel_rfl
@[simp] theorem tzero48 : ∃ z, Try.t48.zero = some z ∧ z.cells.size = 1 := by have h := tz48; cases hz : Try.t48.zero with | none => rw [hz] at h; cases h | some z => rw [hz] at h; exact ⟨z, rfl, by simpa using h⟩
@[simp] theorem rd48 (cs : List V) (off : Nat) : rd Try.prog 48 cs off = cs[off]? := by unfold rd; simp
@[simp] theorem cellsOf49 : Program.cellsOf Try.prog 49 = 1 := by kernel_rfl
@[simp] theorem info49 : Try.prog.info? 49 = some Try.t49 := by kernel_rfl
@[simp] theorem tsize49 : Try.t49.size = 1 := rfl
@[simp] theorem tbytes49 : Try.t49.bytes = 8 := rfl
@[simp] theorem zeroV49 : zeroV Try.prog 49 = some (.nilf) := by kernel_rfl
theorem tz49 : (Try.t49.zero).map (fun z => z.cells.size) = some 1 := by kernel_rfl
@[simp] theorem tzero49 : ∃ z, Try.t49.zero = some z ∧ z.cells.size = 1 := by have h := tz49; cases hz : Try.t49.zero with | none => rw [hz] at h; cases h | some z => rw [hz] at h; exact ⟨z, rfl, by simpa using h⟩
@[simp] theorem rd49 (cs : List V) (off : Nat) : rd Try.prog 49 cs off = cs[off]? := by unfold rd; simp
@[simp] theorem cellsOf50 : Program.cellsOf Try.prog 50 = 1 := by kernel_rfl
@[simp] theorem info50 : Try.prog.info? 50 = some Try.t50 := by kernel_rfl
@[simp] theorem tsize50 : Try.t50.size = 1 := rfl
@[simp] theorem tbytes50 : Try.t50.bytes = 8 := rfl
@[simp] theorem zeroV50 : zeroV Try.prog 50 = some (.nilf) := by kernel_rfl
theorem tz50 : (Try.t50.zero).map (fun z => z.cells.size) = some 1 := by kernel_rfl
@[simp] theorem tzero50 : ∃ z, Try.t50.zero = some z ∧ z.cells.size = 1 := by have h := tz50; cases hz : Try.t50.zero with | none => rw [hz] at h; cases h | some z => rw [hz] at h; exact ⟨z, rfl, by simpa using h⟩
@[simp] theorem rd50 (cs : List V) (off : Nat) : rd Try.prog 50 cs off = cs[off]? := by unfold rd; simp
@[simp] theorem cellsOf51 : Program.cellsOf Try.prog 51 = 1 := by kernel_rfl
@[simp] theorem info51 : Try.prog.info? 51 = some Try.t51 := by kernel_rfl
@[simp] theorem tsize51 : Try.t51.size = 1 := rfl
@[simp] theorem tbytes51 : Try.t51.bytes = 8 := rfl
@[simp] theorem zeroV51 : zeroV Try.prog 51 = some (.mapn) := by kernel_rfl
theorem tz51 : (Try.t51.zero).map (fun z => z.cells.size) = some 1 := by kernel_rfl
@[simp] theorem tzero51 : ∃ z, Try.t51.zero = some z ∧ z.cells.size = 1 := by have h := tz51; cases hz : Try.t51.zero with | none => rw [hz] at h; cases h | some z => rw [hz] at h; exact ⟨z, rfl, by simpa using h⟩
@[simp] theorem rd51 (cs : List V) (off : Nat) : rd Try.prog 51 cs off = cs[off]? := by unfold rd; simp
@[simp] theorem cellsOf52 : Program.cellsOf Try.prog 52 = 1 := by kernel_rfl
@[simp] theorem info52 : Try.prog.info? 52 = some Try.t52 := by kernel_rfl
@[simp] theorem tsize52 : Try.t52.size = 1 := rfl
@[simp] theorem tbytes52 : Try.t52.bytes = 8 := rfl
@[simp] theorem zeroV52 : zeroV Try.prog 52 = some (.mapn) := by kernel_rfl
theorem tz52 : (Try.t52.zero).map (fun z => z.cells.size) = some 1 := by kernel_rfl
@[simp] theorem tzero52 : ∃ z, Try.t52.zero = some z ∧ z.cells.size = 1 := by have h := tz52; cases hz : Try.t52.zero with | none => rw [hz] at h; cases h | some z => rw [hz] at h; exact ⟨z, rfl, by simpa using h⟩
@[simp] theorem rd52 (cs : List V) (off : Nat) : rd Try.prog 52 cs off = cs[off]? := by unfold rd; simp
@[simp] theorem cellsOf53 : Program.cellsOf Try.prog 53 = 2 := by kernel_rfl
@[simp] theorem info53 : Try.prog.info? 53 = some Try.t53 := by kernel_rfl
@[simp] theorem tsize53 : Try.t53.size = 2 := rfl
@[simp] theorem tbytes53 : Try.t53.bytes = 48 := rfl
@[simp] theorem zeroV53 : zeroV Try.prog 53 = some (.agg [.nils, .nils]) := by kernel_rfl
theorem tz53 : (Try.t53.zero).map (fun z => z.cells.size) = some 2 := by kernel_rfl
@[simp] theorem tzero53 : ∃ z, Try.t53.zero = some z ∧ z.cells.size = 2 := by have h := tz53; cases hz : Try.t53.zero with | none => rw [hz] at h; cases h | some z => rw [hz] at h; exact ⟨z, rfl, by simpa using h⟩
@[simp] theorem rd53 (cs : List V) (off : Nat) : rd Try.prog 53 cs off = if off + 2 ≤ cs.length then some (.agg ((cs.drop off).take 2)) else none := by unfold rd; simp
@[simp] theorem cellsOf54 : Program.cellsOf Try.prog 54 = 1 := by kernel_rfl
@[simp] theorem info54 : Try.prog.info? 54 = some Try.t54 := by kernel_rfl
@[simp] theorem tsize54 : Try.t54.size = 1 := rfl
@[simp] theorem tbytes54 : Try.t54.bytes = 8 := rfl
@[simp] theorem zeroV54 : zeroV Try.prog 54 = some (.nilf) := by kernel_rfl
theorem tz54 : (Try.t54.zero).map (fun z => z.cells.size) = some 1 := by kernel_rfl
@[simp] theorem tzero54 : ∃ z, Try.t54.zero = some z ∧ z.cells.size = 1 := by have h := tz54; cases hz : Try.t54.zero with | none => rw [hz] at h; cases h | some z => rw [hz] at h; exact ⟨z, rfl, by simpa using h⟩
@[simp] theorem rd54 (cs : List V) (off : Nat) : rd Try.prog 54 cs off = cs[off]? := by unfold rd; simp
@[simp] theorem cellsOf55 : Program.cellsOf Try.prog 55 = 1 := by kernel_rfl
@[simp] theorem info55 : Try.prog.info? 55 = some Try.t55 := by kernel_rfl
@[simp] theorem tsize55 : Try.t55.size = 1 := rfl
@[simp] theorem tbytes55 : Try.t55.bytes = 8 := rfl
@[simp] theorem zeroV55 : zeroV Try.prog 55 = some (.nilf) := by kernel_rfl
theorem tz55 : (Try.t55.zero).map (fun z => z.cells.size) = some 1 := by kernel_rfl
@[simp] theorem tzero55 : ∃ z, Try.t55.zero = some z ∧ z.cells.size = 1 := by have h := tz55; cases hz : Try.t55.zero with | none => rw [hz] at h; cases h | some z => rw [hz] at h; exact ⟨z, rfl, by simpa using h⟩
@[simp] theorem rd55 (cs : List V) (off : Nat) : rd Try.prog 55 cs off = cs[off]? := by unfold rd; simp
@[simp] theorem cellsOf56 : Program.cellsOf Try.prog 56 = 1 := by kernel_rfl
@[simp] theorem info56 : Try.prog.info? 56 = some Try.t56 := by kernel_rfl
@[simp] theorem tsize56 : Try.t56.size = 1 := rfl
@[simp] theorem tbytes56 : Try.t56.bytes = 8 := rfl
@[simp] theorem zeroV56 : zeroV Try.prog 56 = some (.nilf) := by kernel_rfl
theorem tz56 : (Try.t56.zero).map (fun z => z.cells.size) = some 1 := by kernel_rfl
@[simp] theorem tzero56 : ∃ z, Try.t56.zero = some z ∧ z.cells.size = 1 := by have h := tz56; cases hz : Try.t56.zero with | none => rw [hz] at h; cases h | some z => rw [hz] at h; exact ⟨z, rfl, by simpa using h⟩
@[simp] theorem rd56 (cs : List V) (off : Nat) : rd Try.prog 56 cs off = cs[off]? := by unfold rd; simp
@[simp] theorem cellsOf57 : Program.cellsOf Try.prog 57 = 1 := by kernel_rfl
@[simp] theorem info57 : Try.prog.info? 57 = some Try.t57 := by kernel_rfl
@[simp] theorem tsize57 : Try.t57.size = 1 := rfl
@[simp] theorem tbytes57 : Try.t57.bytes = 8 := rfl
@[simp] theorem zeroV57 : zeroV Try.prog 57 = some (.nilf) := by kernel_rfl
theorem tz57 : (Try.t57.zero).map (fun z => z.cells.size) = some 1 := by kernel_rfl
@[simp] theorem tzero57 : ∃ z, Try.t57.zero = some z ∧ z.cells.size = 1 := by have h := tz57; cases hz : Try.t57.zero with | none => rw [hz] at h; cases h | some z => rw [hz] at h; exact ⟨z, rfl, by simpa using h⟩
@[simp] theorem rd57 (cs : List V) (off : Nat) : rd Try.prog 57 cs off = cs[off]? := by unfold rd; simp
@[simp] theorem cellsOf58 : Program.cellsOf Try.prog 58 = 1 := by kernel_rfl
@[simp] theorem info58 : Try.prog.info? 58 = some Try.t58 := by kernel_rfl
@[simp] theorem tsize58 : Try.t58.size = 1 := rfl
@[simp] theorem tbytes58 : Try.t58.bytes = 8 := rfl
@[simp] theorem zeroV58 : zeroV Try.prog 58 = some (.nilf) := by kernel_rfl
theorem tz58 : (Try.t58.zero).map (fun z => z.cells.size) = some 1 := by kernel_rfl
@[simp] theorem tzero58 : ∃ z, Try.t58.zero = some z ∧ z.cells.size = 1 := by have h := tz58; cases hz : Try.t58.zero with | none => rw [hz] at h; cases h | some z => rw [hz] at h; exact ⟨z, rfl, by simpa using h⟩
@[simp] theorem rd58 (cs : List V) (off : Nat) : rd Try.prog 58 cs off = cs[off]? := by unfold rd; simp
@[simp] theorem cellsOf59 : Program.cellsOf Try.prog 59 = 1 := by kernel_rfl
@[simp] theorem info59 : Try.prog.info? 59 = some Try.t59 := by kernel_rfl
@[simp] theorem tsize59 : Try.t59.size = 1 := rfl
@[simp] theorem tbytes59 : Try.t59.bytes = 8 := rfl
@[simp] theorem zeroV59 : zeroV Try.prog 59 = some (.nilf) := by kernel_rfl
theorem tz59 : (Try.t59.zero).map (fun z => z.cells.size) = some 1 := by kernel_rfl
@[simp] theorem tzero59 : ∃ z, Try.t59.zero = some z ∧ z.cells.size = 1 := by have h := tz59; cases hz : Try.t59.zero with | none => rw [hz] at h; cases h | some z => rw [hz] at h; exact ⟨z, rfl, by simpa using h⟩
@[simp] theorem rd59 (cs : List V) (off : Nat) : rd Try.prog 59 cs off = cs[off]? := by unfold rd; simp
@[simp] theorem cellsOf60 : Program.cellsOf Try.prog 60 = 1 := by kernel_rfl
@[simp] theorem info60 : Try.prog.info? 60 = some Try.t60 := by kernel_rfl
@[simp] theorem tsize60 : Try.t60.size = 1 := rfl
@[simp] theorem tbytes60 : Try.t60.bytes = 24 := rfl
@[simp] theorem zeroV60 : zeroV Try.prog 60 = some (.nils) := by kernel_rfl
theorem tz60 : (Try.t60.zero).map (fun z => z.cells.size) = some 1 := by kernel_rfl
@[simp] theorem tzero60 : ∃ z, Try.t60.zero = some z ∧ z.cells.size = 1 := by have h := tz60; cases hz : Try.t60.zero with | none => rw [hz] at h; cases h | some z => rw [hz] at h; exact ⟨z, rfl, by simpa using h⟩
@[simp] theorem rd60 (cs : List V) (off : Nat) : rd Try.prog 60 cs off = cs[off]? := by unfold rd; simp
@[simp] theorem cellsOf61 : Program.cellsOf Try.prog 61 = 1 := by kernel_rfl
@[simp] theorem info61 : Try.prog.info? 61 = some Try.t61 := by kernel_rfl
@[simp] theorem tsize61 : Try.t61.size = 1 := rfl
@[simp] theorem tbytes61 : Try.t61.bytes = 8 := rfl
@[simp] theorem zeroV61 : zeroV Try.prog 61 = some (.nilf) := by kernel_rfl
theorem tz61 : (Try.t61.zero).map (fun z => z.cells.size) = some 1 := by kernel_rfl
@[simp] theorem tzero61 : ∃ z, Try.t61.zero = some z ∧ z.cells.size = 1 := by have h := tz61; cases hz : Try.t61.zero with | none => rw [hz] at h; cases h | some z => rw [hz] at h; exact ⟨z, rfl, by simpa using h⟩
@[simp] theorem rd61 (cs : List V) (off : Nat) : rd Try.prog 61 cs off = cs[off]? := by unfold rd; simp
@[simp] theorem cellsOf62 : Program.cellsOf Try.prog 62 = 5 := by kernel_rfl
@[simp] theorem info62 : Try.prog.info? 62 = some Try.t62 := by kernel_rfl
@[simp] theorem tsize62 : Try.t62.size = 5 := rfl
@[simp] theorem tbytes62 : Try.t62.bytes = 56 := rfl
@[simp] theorem zeroV62 : zeroV Try.prog 62 = some (.agg [.int .u8 0, .str [], .str [], .int .i64 0, .int .i64 0]) := by kernel_rfl
theorem tz62 : (Try.t62.zero).map (fun z => z.cells.size) = some 5 := by kernel_rfl
@[simp] theorem tzero62 : ∃ z, Try.t62.zero = some z ∧ z.cells.size = 5 := by have h := tz62; cases hz : Try.t62.zero with | none => rw [hz] at h; cases h | some z => rw [hz] at h; exact ⟨z, rfl, by simpa using h⟩
@[simp] theorem rd62 (cs : List V) (off : Nat) : rd Try.prog 62 cs off = if off + 5 ≤ cs.length then some (.agg ((cs.drop off).take 5)) else none := by unfold rd; simp
@[simp] theorem fo62_0 : fieldOff Try.prog 62 0 = some 0 := by kernel_rfl
@[simp] theorem pf62_0 (cs : List V) : pField Try.prog 62 0 (.agg cs) = rd Try.prog 5 cs 0 := by unfold pField; simp
@[simp] theorem fo62_1 : fieldOff Try.prog 62 1 = some 1 := by kernel_rfl
@[simp] theorem pf62_1 (cs : List V) : pField Try.prog 62 1 (.agg cs) = rd Try.prog 9 cs 1 := by unfold pField; simp
@[simp] theorem fo62_2 : fieldOff Try.prog 62 2 = some 2 := by kernel_rfl
@[simp] theorem pf62_2 (cs : List V) : pField Try.prog 62 2 (.agg cs) = rd Try.prog 9 cs 2 := by unfold pField; simp
@[simp] theorem fo62_3 : fieldOff Try.prog 62 3 = some 3 := by kernel_rfl
@[simp] theorem pf62_3 (cs : List V) : pField Try.prog 62 3 (.agg cs) = rd Try.prog 2 cs 3 := by unfold pField; simp
@[simp] theorem fo62_4 : fieldOff Try.prog 62 4 = some 4 := by kernel_rfl
@[simp] theorem pf62_4 (cs : List V) : pField Try.prog 62 4 (.agg cs) = rd Try.prog 2 cs 4 := by unfold pField; simp
@[simp] theorem cellsOf63 : Program.cellsOf Try.prog 63 = 5 := by kernel_rfl
@[simp] theorem info63 : Try.prog.info? 63 = some Try.t63 := by kernel_rfl
@[simp] theorem tsize63 : Try.t63.size = 5 := rfl
@[simp] theorem tbytes63 : Try.t63.bytes = 56 := rfl
@[simp] theorem zeroV63 : zeroV Try.prog 63 = some (.agg [.int .u8 0, .str [], .str [], .int .i64 0, .int .i64 0]) := by kernel_rfl
theorem tz63 : (Try.t63.zero).map (fun z => z.cells.size) = some 5 := by kernel_rfl
@[simp] theorem tzero63 : ∃ z, Try.t63.zero = some z ∧ z.cells.size = 5 := by have h := tz63; cases hz : Try.t63.zero with | none => rw [hz] at h; cases h | some z => rw [hz] at h; exact ⟨z, rfl, by simpa using h⟩
@[simp] theorem rd63 (cs : List V) (off : Nat) : rd Try.prog 63 cs off = if off + 5 ≤ cs.length then some (.agg ((cs.drop off).take 5)) else none := by unfold rd; simp
@[simp] theorem fo63_0 : fieldOff Try.prog 63 0 = some 0 := by kernel_rfl
@[simp] theorem pf63_0 (cs : List V) : pField Try.prog 63 0 (.agg cs) = rd Try.prog 5 cs 0 := by unfold pField; simp
@[simp] theorem fo63_1 : fieldOff Try.prog 63 1 = some 1 := by kernel_rfl
@[simp] theorem pf63_1 (cs : List V) : pField Try.prog 63 1 (.agg cs) = rd Try.prog 9 cs 1 := by unfold pField; simp
@[simp] theorem fo63_2 : fieldOff Try.prog 63 2 = some 2 := by kernel_rfl
@[simp] theorem pf63_2 (cs : List V) : pField Try.prog 63 2 (.agg cs) = rd Try.prog 9 cs 2 := by unfold pField; simp
@[simp] theorem fo63_3 : fieldOff Try.prog 63 3 = some 3 := by kernel_rfl
@[simp] theorem pf63_3 (cs : List V) : pField Try.prog 63 3 (.agg cs) = rd Try.prog 2 cs 3 := by unfold pField; simp
@[simp] theorem fo63_4 : fieldOff Try.prog 63 4 = some 4 := by kernel_rfl
@[simp] theorem pf63_4 (cs : List V) : pField Try.prog 63 4 (.agg cs) = rd Try.prog 2 cs 4 := by unfold pField; simp
@[simp] theorem cellsOf64 : Program.cellsOf Try.prog 64 = 1 := by kernel_rfl
@[simp] theorem info64 : Try.prog.info? 64 = some Try.t64 := by kernel_rfl
@[simp] theorem tsize64 : Try.t64.size = 1 := rfl
@[simp] theorem tbytes64 : Try.t64.bytes = 8 := rfl
@[simp] theorem zeroV64 : zeroV Try.prog 64 = some (.nilp) := by kernel_rfl
theorem tz64 : (Try.t64.zero).map (fun z => z.cells.size) = some 1 := by kernel_rfl
@[simp] theorem tzero64 : ∃ z, Try.t64.zero = some z ∧ z.cells.size = 1 := by have h := tz64; cases hz : Try.t64.zero with | none => rw [hz] at h; cases h | some z => rw [hz] at h; exact ⟨z, rfl, by simpa using h⟩
@[simp] theorem rd64 (cs : List V) (off : Nat) : rd Try.prog 64 cs off = cs[off]? := by unfold rd; simp
@[simp] theorem cellsOf66 : Program.cellsOf Try.prog 66 = 1 := by kernel_rfl
@[simp] theorem info66 : Try.prog.info? 66 = some Try.t66 := by kernel_rfl
@[simp] theorem tsize66 : Try.t66.size = 1 := rfl
@[simp] theorem tbytes66 : Try.t66.bytes = 8 := rfl
@[simp] theorem zeroV66 : zeroV Try.prog 66 = some (.nilf) := by kernel_rfl
theorem tz66 : (Try.t66.zero).map (fun z => z.cells.size) = some 1 := by kernel_rfl
@[simp] theorem tzero66 : ∃ z, Try.t66.zero = some z ∧ z.cells.size = 1 := by have h := tz66; cases hz : Try.t66.zero with | none => rw [hz] at h; cases h | some z => rw [hz] at h; exact ⟨z, rfl, by simpa using h⟩
@[simp] theorem rd66 (cs : List V) (off : Nat) : rd Try.prog 66 cs off = cs[off]? := by unfold rd; simp
@[simp] theorem cellsOf68 : Program.cellsOf Try.prog 68 = 1 := by kernel_rfl
@[simp] theorem info68 : Try.prog.info? 68 = some Try.t68 := by kernel_rfl
@[simp] theorem tsize68 : Try.t68.size = 1 := rfl
@[simp] theorem tbytes68 : Try.t68.bytes = 24 := rfl
@[simp] theorem zeroV68 : zeroV Try.prog 68 = some (.nils) := by kernel_rfl
theorem tz68 : (Try.t68.zero).map (fun z => z.cells.size) = some 1 := by kernel_rfl
@[simp] theorem tzero68 : ∃ z, Try.t68.zero = some z ∧ z.cells.size = 1 := by have h := tz68; cases hz : Try.t68.zero with | none => rw [hz] at h; cases h | some z => rw [hz] at h; exact ⟨z, rfl, by simpa using h⟩
@[simp] theorem rd68 (cs : List V) (off : Nat) : rd Try.prog 68 cs off = cs[off]? := by unfold rd; simp
@[simp] theorem cellsOf69 : Program.cellsOf Try.prog 69 = 1 := by kernel_rfl
@[simp] theorem info69 : Try.prog.info? 69 = some Try.t69 := by kernel_rfl
@[simp] theorem tsize69 : Try.t69.size = 1 := rfl
@[simp] theorem tbytes69 : Try.t69.bytes = 24 := rfl
@[simp] theorem zeroV69 : zeroV Try.prog 69 = some (.nils) := by kernel_rfl
theorem tz69 : (Try.t69.zero).map (fun z => z.cells.size) = some 1 := by kernel_rfl
@[simp] theorem tzero69 : ∃ z, Try.t69.zero = some z ∧ z.cells.size = 1 := by have h := tz69; cases hz : Try.t69.zero with | none => rw [hz] at h; cases h | some z => rw [hz] at h; exact ⟨z, rfl, by simpa using h⟩
@[simp] theorem rd69 (cs : List V) (off : Nat) : rd Try.prog 69 cs off = cs[off]? := by unfold rd; simp
@[simp] theorem cellsOf70 : Program.cellsOf Try.prog 70 = 1 := by kernel_rfl
@[simp] theorem info70 : Try.prog.info? 70 = some Try.t70 := by kernel_rfl
@[simp] theorem tsize70 : Try.t70.size = 1 := rfl
@[simp] theorem tbytes70 : Try.t70.bytes = 8 := rfl
@[simp] theorem zeroV70 : zeroV Try.prog 70 = some (.mapn) := by kernel_rfl
theorem tz70 : (Try.t70.zero).map (fun z => z.cells.size) = some 1 := by kernel_rfl
@[simp] theorem tzero70 : ∃ z, Try.t70.zero = some z ∧ z.cells.size = 1 := by have h := tz70; cases hz : Try.t70.zero with | none => rw [hz] at h; cases h | some z => rw [hz] at h; exact ⟨z, rfl, by simpa using h⟩
@[simp] theorem rd70 (cs : List V) (off : Nat) : rd Try.prog 70 cs off = cs[off]? := by unfold rd; simp
@[simp] theorem cellsOf71 : Program.cellsOf Try.prog 71 = 4 := by kernel_rfl
@[simp] theorem info71 : Try.prog.info? 71 = some Try.t71 := by kernel_rfl
@[simp] theorem tsize71 : Try.t71.size = 4 := rfl
@[simp] theorem tbytes71 : Try.t71.bytes = 80 := rfl
@[simp] theorem zeroV71 : zeroV Try.prog 71 = some (.agg [.nils, .nils, .nils, .mapn]) := by kernel_rfl
theorem tz71 : (Try.t71.zero).map (fun z => z.cells.size) = some 4 := by kernel_rfl
@[simp] theorem tzero71 : ∃ z, Try.t71.zero = some z ∧ z.cells.size = 4 := by have h := tz71; cases hz : Try.t71.zero with | none => rw [hz] at h; cases h | some z => rw [hz] at h; exact ⟨z, rfl, by simpa using h⟩
@[simp] theorem rd71 (cs : List V) (off : Nat) : rd Try.prog 71 cs off = if off + 4 ≤ cs.length then some (.agg ((cs.drop off).take 4)) else none := by unfold rd; simp
@[simp] theorem fo71_0 : fieldOff Try.prog 71 0 = some 0 := by kernel_rfl
@[simp] theorem pf71_0 (cs : List V) : pField Try.prog 71 0 (.agg cs) = rd Try.prog 38 cs 0 := by unfold pField; simp
@[simp] theorem fo71_1 : fieldOff Try.prog 71 1 = some 1 := by kernel_rfl
@[simp] theorem pf71_1 (cs : List V) : pField Try.prog 71 1 (.agg cs) = rd Try.prog 68 cs 1 := by unfold pField; simp
@[simp] theorem fo71_2 : fieldOff Try.prog 71 2 = some 2 := by kernel_rfl
@[simp] theorem pf71_2 (cs : List V) : pField Try.prog 71 2 (.agg cs) = rd Try.prog 69 cs 2 := by unfold pField; simp
@[simp] theorem fo71_3 : fieldOff Try.prog 71 3 = some 3 := by kernel_rfl
@[simp] theorem pf71_3 (cs : List V) : pField Try.prog 71 3 (.agg cs) = rd Try.prog 70 cs 3 := by unfold pField; simp
@[simp] theorem cellsOf72 : Program.cellsOf Try.prog 72 = 4 := by kernel_rfl
@[simp] theorem info72 : Try.prog.info? 72 = some Try.t72 := by kernel_rfl
@[simp] theorem tsize72 : Try.t72.size = 4 := rfl
@[simp] theorem tbytes72 : Try.t72.bytes = 80 := rfl
@[simp] theorem zeroV72 : zeroV Try.prog 72 = some (.agg [.nils, .nils, .nils, .mapn]) := by kernel_rfl
theorem tz72 : (Try.t72.zero).map (fun z => z.cells.size) = some 4 := by kernel_rfl
@[simp] theorem tzero72 : ∃ z, Try.t72.zero = some z ∧ z.cells.size = 4 := by have h := tz72; cases hz : Try.t72.zero with | none => rw [hz] at h; cases h | some z => rw [hz] at h; exact ⟨z, rfl, by simpa using h⟩
@[simp] theorem rd72 (cs : List V) (off : Nat) : rd Try.prog 72 cs off = if off + 4 ≤ cs.length then some (.agg ((cs.drop off).take 4)) else none := by unfold rd; simp
@[simp] theorem fo72_0 : fieldOff Try.prog 72 0 = some 0 := by kernel_rfl
@[simp] theorem pf72_0 (cs : List V) : pField Try.prog 72 0 (.agg cs) = rd Try.prog 38 cs 0 := by unfold pField; simp
@[simp] theorem fo72_1 : fieldOff Try.prog 72 1 = some 1 := by kernel_rfl
@[simp] theorem pf72_1 (cs : List V) : pField Try.prog 72 1 (.agg cs) = rd Try.prog 68 cs 1 := by unfold pField; simp
@[simp] theorem fo72_2 : fieldOff Try.prog 72 2 = some 2 := by kernel_rfl
@[simp] theorem pf72_2 (cs : List V) : pField Try.prog 72 2 (.agg cs) = rd Try.prog 69 cs 2 := by unfold pField; simp
@[simp] theorem fo72_3 : fieldOff Try.prog 72 3 = some 3 := by kernel_rfl
@[simp] theorem pf72_3 (cs : List V) : pField Try.prog 72 3 (.agg cs) = rd Try.prog 70 cs 3 := by unfold pField; simp
@[simp] theorem cellsOf73 : Program.cellsOf Try.prog 73 = 1 := by kernel_rfl
@[simp] theorem info73 : Try.prog.info? 73 = some Try.t73 := by kernel_rfl
@[simp] theorem tsize73 : Try.t73.size = 1 := rfl
@[simp] theorem tbytes73 : Try.t73.bytes = 8 := rfl
@[simp] theorem zeroV73 : zeroV Try.prog 73 = some (.nilf) := by kernel_rfl
theorem tz73 : (Try.t73.zero).map (fun z => z.cells.size) = some 1 := by kernel_rfl
@[simp] theorem tzero73 : ∃ z, Try.t73.zero = some z ∧ z.cells.size = 1 := by have h := tz73; cases hz : Try.t73.zero with | none => rw [hz] at h; cases h | some z => rw [hz] at h; exact ⟨z, rfl, by simpa using h⟩
@[simp] theorem rd73 (cs : List V) (off : Nat) : rd Try.prog 73 cs off = cs[off]? := by unfold rd; simp
@[simp] theorem cellsOf74 : Program.cellsOf Try.prog 74 = 1 := by kernel_rfl
@[simp] theorem info74 : Try.prog.info? 74 = some Try.t74 := by kernel_rfl
@[simp] theorem tsize74 : Try.t74.size = 1 := rfl
@[simp] theorem tbytes74 : Try.t74.bytes = 24 := rfl
@[simp] theorem zeroV74 : zeroV Try.prog 74 = some (.nils) := by kernel_rfl
theorem tz74 : (Try.t74.zero).map (fun z => z.cells.size) = some 1 := by kernel_rfl
@[simp] theorem tzero74 : ∃ z, Try.t74.zero = some z ∧ z.cells.size = 1 := by have h := tz74; cases hz : Try.t74.zero with | none => rw [hz] at h; cases h | some z => rw [hz] at h; exact ⟨z, rfl, by simpa using h⟩
@[simp] theorem rd74 (cs : List V) (off : Nat) : rd Try.prog 74 cs off = cs[off]? := by unfold rd; simp
@[simp] theorem cellsOf75 : Program.cellsOf Try.prog 75 = 1 := by kernel_rfl
@[simp] theorem info75 : Try.prog.info? 75 = some Try.t75 := by kernel_rfl
@[simp] theorem tsize75 : Try.t75.size = 1 := rfl
@[simp] theorem tbytes75 : Try.t75.bytes = 8 := rfl
@[simp] theorem zeroV75 : zeroV Try.prog 75 = some (.nilf) := by kernel_rfl
theorem tz75 : (Try.t75.zero).map (fun z => z.cells.size) = some 1 := by kernel_rfl
@[simp] theorem tzero75 : ∃ z, Try.t75.zero = some z ∧ z.cells.size = 1 := by have h := tz75; cases hz : Try.t75.zero with | none => rw [hz] at h; cases h | some z => rw [hz] at h; exact ⟨z, rfl, by simpa using h⟩
@[simp] theorem rd75 (cs : List V) (off : Nat) : rd Try.prog 75 cs off = cs[off]? := by unfold rd; simp
@[simp] theorem cellsOf77 : Program.cellsOf Try.prog 77 = 1 := by kernel_rfl
@[simp] theorem info77 : Try.prog.info? 77 = some Try.t77 := by kernel_rfl
@[simp] theorem tsize77 : Try.t77.size = 1 := rfl
@[simp] theorem tbytes77 : Try.t77.bytes = 8 := rfl
@[simp] theorem zeroV77 : zeroV Try.prog 77 = some (.nilf) := by kernel_rfl
theorem tz77 : (Try.t77.zero).map (fun z => z.cells.size) = some 1 := by kernel_rfl
@[simp] theorem tzero77 : ∃ z, Try.t77.zero = some z ∧ z.cells.size = 1 := by have h := tz77; cases hz : Try.t77.zero with | none => rw [hz] at h; cases h | some z => rw [hz] at h; exact ⟨z, rfl, by simpa using h⟩
@[simp] theorem rd77 (cs : List V) (off : Nat) : rd Try.prog 77 cs off = cs[off]? := by unfold rd; simp
@[simp] theorem cellsOf78 : Program.cellsOf Try.prog 78 = 1 := by kernel_rfl
@[simp] theorem info78 : Try.prog.info? 78 = some Try.t78 := by kernel_rfl
@[simp] theorem tsize78 : Try.t78.size = 1 := rfl
@[simp] theorem tbytes78 : Try.t78.bytes = 8 := rfl
@[simp] theorem zeroV78 : zeroV Try.prog 78 = some (.nilf) := by kernel_rfl
theorem tz78 : (Try.t78.zero).map (fun z => z.cells.size) = some 1 := by kernel_rfl
@[simp] theorem tzero78 : ∃ z, Try.t78.zero = some z ∧ z.cells.size = 1 := by have h := tz78; cases hz : Try.t78.zero with | none => rw [hz] at h; cases h | some z => rw [hz] at h; exact ⟨z, rfl, by simpa using h⟩
@[simp] theorem rd78 (cs : List V) (off : Nat) : rd Try.prog 78 cs off = cs[off]? := by unfold rd; simp
@[simp] theorem cellsOf79 : Program.cellsOf Try.prog 79 = 1 := by kernel_rfl
@[simp] theorem info79 : Try.prog.info? 79 = some Try.t79 := by kernel_rfl
@[simp] theorem tsize79 : Try.t79.size = 1 := rfl
@[simp] theorem tbytes79 : Try.t79.bytes = 8 := rfl
@[simp] theorem zeroV79 : zeroV Try.prog 79 = some (.nilf) := by kernel_rfl
theorem tz79 : (Try.t79.zero).map (fun z => z.cells.size) = some 1 := by kernel_rfl
@[simp] theorem tzero79 : ∃ z, Try.t79.zero = some z ∧ z.cells.size = 1 := by have h := tz79; cases hz : Try.t79.zero with | none => rw [hz] at h; cases h | some z => rw [hz] at h; exact ⟨z, rfl, by simpa using h⟩
@[simp] theorem rd79 (cs : List V) (off : Nat) : rd Try.prog 79 cs off = cs[off]? := by unfold rd; simp
@[simp] theorem cellsOf80 : Program.cellsOf Try.prog 80 = 3 := by kernel_rfl
@[simp] theorem info80 : Try.prog.info? 80 = some Try.t80 := by kernel_rfl
@[simp] theorem tsize80 : Try.t80.size = 3 := rfl
@[simp] theorem tbytes80 : Try.t80.bytes = 24 := rfl
@[simp] theorem zeroV80 : zeroV Try.prog 80 = some (.agg [.int .i64 0, .int .i64 0, .int .i64 0]) := by kernel_rfl
theorem tz80 : (Try.t80.zero).map (fun z => z.cells.size) = some 3 := by kernel_rfl
@[simp] theorem tzero80 : ∃ z, Try.t80.zero = some z ∧ z.cells.size = 3 := by have h := tz80; cases hz : Try.t80.zero with | none => rw [hz] at h; cases h | some z => rw [hz] at h; exact ⟨z, rfl, by simpa using h⟩
@[simp] theorem rd80 (cs : List V) (off : Nat) : rd Try.prog 80 cs off = if off + 3 ≤ cs.length then some (.agg ((cs.drop off).take 3)) else none := by unfold rd; simp
@[simp] theorem cellsOf82 : Program.cellsOf Try.prog 82 = 1 := by kernel_rfl
@[simp] theorem info82 : Try.prog.info? 82 = some Try.t82 := by kernel_rfl
@[simp] theorem tsize82 : Try.t82.size = 1 := rfl
@[simp] theorem tbytes82 : Try.t82.bytes = 8 := rfl
@[simp] theorem zeroV82 : zeroV Try.prog 82 = some (.nilf) := by kernel_rfl
theorem tz82 : (Try.t82.zero).map (fun z => z.cells.size) = some 1 := by kernel_rfl
@[simp] theorem tzero82 : ∃ z, Try.t82.zero = some z ∧ z.cells.size = 1 := by have h := tz82; cases hz : Try.t82.zero with | none => rw [hz] at h; cases h | some z => rw [hz] at h; exact ⟨z, rfl, by simpa using h⟩
@[simp] theorem rd82 (cs : List V) (off : Nat) : rd Try.prog 82 cs off = cs[off]? := by unfold rd; simp
@[simp] theorem cellsOf83 : Program.cellsOf Try.prog 83 = 1 := by kernel_rfl
@[simp] theorem info83 : Try.prog.info? 83 = some Try.t83 := by kernel_rfl
@[simp] theorem tsize83 : Try.t83.size = 1 := rfl
@[simp] theorem tbytes83 : Try.t83.bytes = 8 := rfl
@[simp] theorem zeroV83 : zeroV Try.prog 83 = some (.nilf) := by kernel_rfl
theorem tz83 : (Try.t83.zero).map (fun z => z.cells.size) = some 1 := by kernel_rfl
@[simp] theorem tzero83 : ∃ z, Try.t83.zero = some z ∧ z.cells.size = 1 := by have h := tz83; cases hz : Try.t83.zero with | none => rw [hz] at h; cases h | some z => rw [hz] at h; exact ⟨z, rfl, by simpa using h⟩
@[simp] theorem rd83 (cs : List V) (off : Nat) : rd Try.prog 83 cs off = cs[off]? := by unfold rd; simp
@[simp] theorem cellsOf84 : Program.cellsOf Try.prog 84 = 1 := by kernel_rfl
@[simp] theorem info84 : Try.prog.info? 84 = some Try.t84 := by kernel_rfl
@[simp] theorem tsize84 : Try.t84.size = 1 := rfl
@[simp] theorem tbytes84 : Try.t84.bytes = 8 := rfl
@[simp] theorem zeroV84 : zeroV Try.prog 84 = some (.nilf) := by kernel_rfl
theorem tz84 : (Try.t84.zero).map (fun z => z.cells.size) = some 1 := by kernel_rfl
@[simp] theorem tzero84 : ∃ z, Try.t84.zero = some z ∧ z.cells.size = 1 := by have h := tz84; cases hz : Try.t84.zero with | none => rw [hz] at h; cases h | some z => rw [hz] at h; exact ⟨z, rfl, by simpa using h⟩
@[simp] theorem rd84 (cs : List V) (off : Nat) : rd Try.prog 84 cs off = cs[off]? := by unfold rd; simp
@[simp] theorem cellsOf85 : Program.cellsOf Try.prog 85 = 1 := by kernel_rfl
@[simp] theorem info85 : Try.prog.info? 85 = some Try.t85 := by kernel_rfl
@[simp] theorem tsize85 : Try.t85.size = 1 := rfl
@[simp] theorem tbytes85 : Try.t85.bytes = 8 := rfl
@[simp] theorem zeroV85 : zeroV Try.prog 85 = some (.nilf) := by kernel_rfl
theorem tz85 : (Try.t85.zero).map (fun z => z.cells.size) = some 1 := by kernel_rfl
@[simp] theorem tzero85 : ∃ z, Try.t85.zero = some z ∧ z.cells.size = 1 := by have h := tz85; cases hz : Try.t85.zero with | none => rw [hz] at h; cases h | some z => rw [hz] at h; exact ⟨z, rfl, by simpa using h⟩
@[simp] theorem rd85 (cs : List V) (off : Nat) : rd Try.prog 85 cs off = cs[off]? := by unfold rd; simp
@[simp] theorem cellsOf86 : Program.cellsOf Try.prog 86 = 1 := by kernel_rfl
@[simp] theorem info86 : Try.prog.info? 86 = some Try.t86 := by kernel_rfl
@[simp] theorem tsize86 : Try.t86.size = 1 := rfl
@[simp] theorem tbytes86 : Try.t86.bytes = 8 := rfl
@[simp] theorem zeroV86 : zeroV Try.prog 86 = some (.nilf) := by kernel_rfl
theorem tz86 : (Try.t86.zero).map (fun z => z.cells.size) = some 1 := by kernel_rfl
@[simp] theorem tzero86 : ∃ z, Try.t86.zero = some z ∧ z.cells.size = 1 := by have h := tz86; cases hz : Try.t86.zero with | none => rw [hz] at h; cases h | some z => rw [hz] at h; exact ⟨z, rfl, by simpa using h⟩
@[simp] theorem rd86 (cs : List V) (off : Nat) : rd Try.prog 86 cs off = cs[off]? := by unfold rd; simp
@[simp] theorem cellsOf87 : Program.cellsOf Try.prog 87 = 2 := by kernel_rfl
@[simp] theorem info87 : Try.prog.info? 87 = some Try.t87 := by kernel_rfl
@[simp] theorem tsize87 : Try.t87.size = 2 := rfl
@[simp] theorem tbytes87 : Try.t87.bytes = 16 := rfl
@[simp] theorem zeroV87 : zeroV Try.prog 87 = some (.agg [.int .i64 0, .int .i64 0]) := by kernel_rfl
theorem tz87 : (Try.t87.zero).map (fun z => z.cells.size) = some 2 := by kernel_rfl
@[simp] theorem tzero87 : ∃ z, Try.t87.zero = some z ∧ z.cells.size = 2 := by have h := tz87; cases hz : Try.t87.zero with | none => rw [hz] at h; cases h | some z => rw [hz] at h; exact ⟨z, rfl, by simpa using h⟩
@[simp] theorem rd87 (cs : List V) (off : Nat) : rd Try.prog 87 cs off = if off + 2 ≤ cs.length then some (.agg ((cs.drop off).take 2)) else none := by unfold rd; simp
@[simp] theorem fo87_0 : fieldOff Try.prog 87 0 = some 0 := by kernel_rfl
@[simp] theorem pf87_0 (cs : List V) : pField Try.prog 87 0 (.agg cs) = rd Try.prog 2 cs 0 := by unfold pField; simp
@[simp] theorem fo87_1 : fieldOff Try.prog 87 1 = some 1 := by kernel_rfl
@[simp] theorem pf87_1 (cs : List V) : pField Try.prog 87 1 (.agg cs) = rd Try.prog 2 cs 1 := by unfold pField; simp
@[simp] theorem cellsOf88 : Program.cellsOf Try.prog 88 = 2 := by kernel_rfl
@[simp] theorem info88 : Try.prog.info? 88 = some Try.t88 := by kernel_rfl
@[simp] theorem tsize88 : Try.t88.size = 2 := rfl
@[simp] theorem tbytes88 : Try.t88.bytes = 16 := rfl
@[simp] theorem zeroV88 : zeroV Try.prog 88 = some (.agg [.int .i64 0, .int .i64 0]) := by kernel_rfl
theorem tz88 : (Try.t88.zero).map (fun z => z.cells.size) = some 2 := by kernel_rfl
@[simp] theorem tzero88 : ∃ z, Try.t88.zero = some z ∧ z.cells.size = 2 := by have h := tz88; cases hz : Try.t88.zero with | none => rw [hz] at h; cases h | some z => rw [hz] at h; exact ⟨z, rfl, by simpa using h⟩
@[simp] theorem rd88 (cs : List V) (off : Nat) : rd Try.prog 88 cs off = if off + 2 ≤ cs.length then some (.agg ((cs.drop off).take 2)) else none := by unfold rd; simp
@[simp] theorem fo88_0 : fieldOff Try.prog 88 0 = some 0 := by kernel_rfl
@[simp] theorem pf88_0 (cs : List V) : pField Try.prog 88 0 (.agg cs) = rd Try.prog 2 cs 0 := by unfold pField; simp
@[simp] theorem fo88_1 : fieldOff Try.prog 88 1 = some 1 := by kernel_rfl
@[simp] theorem pf88_1 (cs : List V) : pField Try.prog 88 1 (.agg cs) = rd Try.prog 2 cs 1 := by unfold pField; simp
@[simp] theorem cellsOf89 : Program.cellsOf Try.prog 89 = 1 := by kernel_rfl
@[simp] theorem info89 : Try.prog.info? 89 = some Try.t89 := by kernel_rfl
@[simp] theorem tsize89 : Try.t89.size = 1 := rfl
@[simp] theorem tbytes89 : Try.t89.bytes = 24 := rfl
@[simp] theorem zeroV89 : zeroV Try.prog 89 = some (.nils) := by kernel_rfl
theorem tz89 : (Try.t89.zero).map (fun z => z.cells.size) = some 1 := by kernel_rfl
@[simp] theorem tzero89 : ∃ z, Try.t89.zero = some z ∧ z.cells.size = 1 := by have h := tz89; cases hz : Try.t89.zero with | none => rw [hz] at h; cases h | some z => rw [hz] at h; exact ⟨z, rfl, by simpa using h⟩
@[simp] theorem rd89 (cs : List V) (off : Nat) : rd Try.prog 89 cs off = cs[off]? := by unfold rd; simp
@[simp] theorem cellsOf90 : Program.cellsOf Try.prog 90 = 6 := by kernel_rfl
@[simp] theorem info90 : Try.prog.info? 90 = some Try.t90 := by kernel_rfl
@[simp] theorem tsize90 : Try.t90.size = 6 := rfl
@[simp] theorem tbytes90 : Try.t90.bytes = 72 := rfl
@[simp] theorem zeroV90 : zeroV Try.prog 90 = some (.agg [.int .u8 0, .int .i64 0, .int .i64 0, .bool false, .str [], .nils]) := by kernel_rfl
theorem tz90 : (Try.t90.zero).map (fun z => z.cells.size) = some 6 := by kernel_rfl
@[simp] theorem tzero90 : ∃ z, Try.t90.zero = some z ∧ z.cells.size = 6 := by have h := tz90; cases hz : Try.t90.zero with | none => rw [hz] at h; cases h | some z => rw [hz] at h; exact ⟨z, rfl, by simpa using h⟩
@[simp] theorem rd90 (cs : List V) (off : Nat) : rd Try.prog 90 cs off = if off + 6 ≤ cs.length then some (.agg ((cs.drop off).take 6)) else none := by unfold rd; simp
@[simp] theorem fo90_0 : fieldOff Try.prog 90 0 = some 0 := by kernel_rfl
@[simp] theorem pf90_0 (cs : List V) : pField Try.prog 90 0 (.agg cs) = rd Try.prog 5 cs 0 := by unfold pField; simp
@[simp] theorem fo90_1 : fieldOff Try.prog 90 1 = some 1 := by kernel_rfl
@[simp] theorem pf90_1 (cs : List V) : pField Try.prog 90 1 (.agg cs) = rd Try.prog 88 cs 1 := by unfold pField; simp
@[simp] theorem fo90_2 : fieldOff Try.prog 90 2 = some 3 := by kernel_rfl
@[simp] theorem pf90_2 (cs : List V) : pField Try.prog 90 2 (.agg cs) = rd Try.prog 4 cs 3 := by unfold pField; simp
@[simp] theorem fo90_3 : fieldOff Try.prog 90 3 = some 4 := by kernel_rfl
@[simp] theorem pf90_3 (cs : List V) : pField Try.prog 90 3 (.agg cs) = rd Try.prog 9 cs 4 := by unfold pField; simp
@[simp] theorem fo90_4 : fieldOff Try.prog 90 4 = some 5 := by kernel_rfl
@[simp] theorem pf90_4 (cs : List V) : pField Try.prog 90 4 (.agg cs) = rd Try.prog 89 cs 5 := by unfold pField; simp
@[simp] theorem cellsOf91 : Program.cellsOf Try.prog 91 = 6 := by kernel_rfl
@[simp] theorem info91 : Try.prog.info? 91 = some Try.t91 := by kernel_rfl
@[simp] theorem tsize91 : Try.t91.size = 6 := rfl
@[simp] theorem tbytes91 : Try.t91.bytes = 72 := rfl
@[simp] theorem zeroV91 : zeroV Try.prog 91 = some (.agg [.int .u8 0, .int .i64 0, .int .i64 0, .bool false, .str [], .nils]) := by kernel_rfl
theorem tz91 : (Try.t91.zero).map (fun z => z.cells.size) = some 6 := by kernel_rfl
@[simp] theorem tzero91 : ∃ z, Try.t91.zero = some z ∧ z.cells.size = 6 := by have h := tz91; cases hz : Try.t91.zero with | none => rw [hz] at h; cases h | some z => rw [hz] at h; exact ⟨z, rfl, by simpa using h⟩
@[simp] theorem rd91 (cs : List V) (off : Nat) : rd Try.prog 91 cs off = if off + 6 ≤ cs.length then some (.agg ((cs.drop off).take 6)) else none := by unfold rd; simp
@[simp] theorem fo91_0 : fieldOff Try.prog 91 0 = some 0 := by kernel_rfl
@[simp] theorem pf91_0 (cs : List V) : pField Try.prog 91 0 (.agg cs) = rd Try.prog 5 cs 0 := by unfold pField; simp
@[simp] theorem fo91_1 : fieldOff Try.prog 91 1 = some 1 := by kernel_rfl
@[simp] theorem pf91_1 (cs : List V) : pField Try.prog 91 1 (.agg cs) = rd Try.prog 88 cs 1 := by unfold pField; simp
@[simp] theorem fo91_2 : fieldOff Try.prog 91 2 = some 3 := by kernel_rfl
@[simp] theorem pf91_2 (cs : List V) : pField Try.prog 91 2 (.agg cs) = rd Try.prog 4 cs 3 := by unfold pField; simp
@[simp] theorem fo91_3 : fieldOff Try.prog 91 3 = some 4 := by kernel_rfl
@[simp] theorem pf91_3 (cs : List V) : pField Try.prog 91 3 (.agg cs) = rd Try.prog 9 cs 4 := by unfold pField; simp
@[simp] theorem fo91_4 : fieldOff Try.prog 91 4 = some 5 := by kernel_rfl
@[simp] theorem pf91_4 (cs : List V) : pField Try.prog 91 4 (.agg cs) = rd Try.prog 89 cs 5 := by unfold pField; simp
@[simp] theorem cellsOf92 : Program.cellsOf Try.prog 92 = 1 := by kernel_rfl
@[simp] theorem info92 : Try.prog.info? 92 = some Try.t92 := by kernel_rfl
@[simp] theorem tsize92 : Try.t92.size = 1 := rfl
@[simp] theorem tbytes92 : Try.t92.bytes = 8 := rfl
@[simp] theorem zeroV92 : zeroV Try.prog 92 = some (.nilf) := by kernel_rfl
theorem tz92 : (Try.t92.zero).map (fun z => z.cells.size) = some 1 := by kernel_rfl
@[simp] theorem tzero92 : ∃ z, Try.t92.zero = some z ∧ z.cells.size = 1 := by have h := tz92; cases hz : Try.t92.zero with | none => rw [hz] at h; cases h | some z => rw [hz] at h; exact ⟨z, rfl, by simpa using h⟩
@[simp] theorem rd92 (cs : List V) (off : Nat) : rd Try.prog 92 cs off = cs[off]? := by unfold rd; simp
@[simp] theorem cellsOf93 : Program.cellsOf Try.prog 93 = 1 := by kernel_rfl
@[simp] theorem info93 : Try.prog.info? 93 = some Try.t93 := by kernel_rfl
@[simp] theorem tsize93 : Try.t93.size = 1 := rfl
@[simp] theorem tbytes93 : Try.t93.bytes = 8 := rfl
@[simp] theorem zeroV93 : zeroV Try.prog 93 = some (.nilf) := by kernel_rfl
theorem tz93 : (Try.t93.zero).map (fun z => z.cells.size) = some 1 := by kernel_rfl
@[simp] theorem tzero93 : ∃ z, Try.t93.zero = some z ∧ z.cells.size = 1 := by have h := tz93; cases hz : Try.t93.zero with | none => rw [hz] at h; cases h | some z => rw [hz] at h; exact ⟨z, rfl, by simpa using h⟩
@[simp] theorem rd93 (cs : List V) (off : Nat) : rd Try.prog 93 cs off = cs[off]? := by unfold rd; simp
@[simp] theorem cellsOf94 : Program.cellsOf Try.prog 94 = 4 := by kernel_rfl
@[simp] theorem info94 : Try.prog.info? 94 = some Try.t94 := by kernel_rfl
@[simp] theorem tsize94 : Try.t94.size = 4 := rfl
@[simp] theorem tbytes94 : Try.t94.bytes = 32 := rfl
@[simp] theorem zeroV94 : zeroV Try.prog 94 = some (.agg [.int .u8 0, .int .i64 0, .int .i64 0, .int .i64 0]) := by kernel_rfl
theorem tz94 : (Try.t94.zero).map (fun z => z.cells.size) = some 4 := by kernel_rfl
@[simp] theorem tzero94 : ∃ z, Try.t94.zero = some z ∧ z.cells.size = 4 := by have h := tz94; cases hz : Try.t94.zero with | none => rw [hz] at h; cases h | some z => rw [hz] at h; exact ⟨z, rfl, by simpa using h⟩
@[simp] theorem rd94 (cs : List V) (off : Nat) : rd Try.prog 94 cs off = if off + 4 ≤ cs.length then some (.agg ((cs.drop off).take 4)) else none := by unfold rd; simp
@[simp] theorem fo94_0 : fieldOff Try.prog 94 0 = some 0 := by kernel_rfl
@[simp] theorem pf94_0 (cs : List V) : pField Try.prog 94 0 (.agg cs) = rd Try.prog 5 cs 0 := by unfold pField; simp
@[simp] theorem fo94_1 : fieldOff Try.prog 94 1 = some 1 := by kernel_rfl
@[simp] theorem pf94_1 (cs : List V) : pField Try.prog 94 1 (.agg cs) = rd Try.prog 40 cs 1 := by unfold pField; simp
@[simp] theorem cellsOf95 : Program.cellsOf Try.prog 95 = 4 := by kernel_rfl
@[simp] theorem info95 : Try.prog.info? 95 = some Try.t95 := by kernel_rfl
@[simp] theorem tsize95 : Try.t95.size = 4 := rfl
@[simp] theorem tbytes95 : Try.t95.bytes = 32 := rfl
@[simp] theorem zeroV95 : zeroV Try.prog 95 = some (.agg [.int .u8 0, .int .i64 0, .int .i64 0, .int .i64 0]) := by kernel_rfl
theorem tz95 : (Try.t95.zero).map (fun z => z.cells.size) = some 4 := by kernel_rfl
@[simp] theorem tzero95 : ∃ z, Try.t95.zero = some z ∧ z.cells.size = 4 := by have h := tz95; cases hz : Try.t95.zero with | none => rw [hz] at h; cases h | some z => rw [hz] at h; exact ⟨z, rfl, by simpa using h⟩
@[simp] theorem rd95 (cs : List V) (off : Nat) : rd Try.prog 95 cs off = if off + 4 ≤ cs.length then some (.agg ((cs.drop off).take 4)) else none := by unfold rd; simp
@[simp] theorem fo95_0 : fieldOff Try.prog 95 0 = some 0 := by kernel_rfl
@[simp] theorem pf95_0 (cs : List V) : pField Try.prog 95 0 (.agg cs) = rd Try.prog 5 cs 0 := by unfold pField; simp
@[simp] theorem fo95_1 : fieldOff Try.prog 95 1 = some 1 := by kernel_rfl
@[simp] theorem pf95_1 (cs : List V) : pField Try.prog 95 1 (.agg cs) = rd Try.prog 40 cs 1 := by unfold pField; simp
@[simp] theorem cellsOf96 : Program.cellsOf Try.prog 96 = 7 := by kernel_rfl
@[simp] theorem info96 : Try.prog.info? 96 = some Try.t96 := by kernel_rfl
@[simp] theorem tsize96 : Try.t96.size = 7 := rfl
@[simp] theorem tbytes96 : Try.t96.bytes = 56 := rfl
@[simp] theorem zeroV96 : zeroV Try.prog 96 = some (.agg [.int .u8 0, .int .i64 0, .int .i64 0, .int .i64 0, .int .i64 0, .int .i64 0, .int .i64 0]) := by kernel_rfl
theorem tz96 : (Try.t96.zero).map (fun z => z.cells.size) = some 7 := by kernel_rfl
@[simp] theorem tzero96 : ∃ z, Try.t96.zero = some z ∧ z.cells.size = 7 := by have h := tz96; cases hz : Try.t96.zero with | none => rw [hz] at h; cases h | some z => rw [hz] at h; exact ⟨z, rfl, by simpa using h⟩
@[simp] theorem rd96 (cs : List V) (off : Nat) : rd Try.prog 96 cs off = if off + 7 ≤ cs.length then some (.agg ((cs.drop off).take 7)) else none := by unfold rd; simp
@[simp] theorem fo96_0 : fieldOff Try.prog 96 0 = some 0 := by kernel_rfl
@[simp] theorem pf96_0 (cs : List V) : pField Try.prog 96 0 (.agg cs) = rd Try.prog 95 cs 0 := by unfold pField; simp
@[simp] theorem fo96_1 : fieldOff Try.prog 96 1 = some 4 := by kernel_rfl
@[simp] theorem pf96_1 (cs : List V) : pField Try.prog 96 1 (.agg cs) = rd Try.prog 40 cs 4 := by unfold pField; simp
@[simp] theorem cellsOf97 : Program.cellsOf Try.prog 97 = 7 := by kernel_rfl
@[simp] theorem info97 : Try.prog.info? 97 = some Try.t97 := by kernel_rfl
@[simp] theorem tsize97 : Try.t97.size = 7 := rfl
@[simp] theorem tbytes97 : Try.t97.bytes = 56 := rfl
@[simp] theorem zeroV97 : zeroV Try.prog 97 = some (.agg [.int .u8 0, .int .i64 0, .int .i64 0, .int .i64 0, .int .i64 0, .int .i64 0, .int .i64 0]) := by kernel_rfl
theorem tz97 : (Try.t97.zero).map (fun z => z.cells.size) = some 7 := by kernel_rfl
@[simp] theorem tzero97 : ∃ z, Try.t97.zero = some z ∧ z.cells.size = 7 := by have h := tz97; cases hz : Try.t97.zero with | none => rw [hz] at h; cases h | some z => rw [hz] at h; exact ⟨z, rfl, by simpa using h⟩
@[simp] theorem rd97 (cs : List V) (off : Nat) : rd Try.prog 97 cs off = if off + 7 ≤ cs.length then some (.agg ((cs.drop off).take 7)) else none := by unfold rd; simp
@[simp] theorem fo97_0 : fieldOff Try.prog 97 0 = some 0 := by kernel_rfl
@[simp] theorem pf97_0 (cs : List V) : pField Try.prog 97 0 (.agg cs) = rd Try.prog 95 cs 0 := by unfold pField; simp
@[simp] theorem fo97_1 : fieldOff Try.prog 97 1 = some 4 := by kernel_rfl
@[simp] theorem pf97_1 (cs : List V) : pField Try.prog 97 1 (.agg cs) = rd Try.prog 40 cs 4 := by unfold pField; simp
@[simp] theorem cellsOf98 : Program.cellsOf Try.prog 98 = 13 := by kernel_rfl
@[simp] theorem info98 : Try.prog.info? 98 = some Try.t98 := by kernel_rfl
@[simp] theorem tsize98 : Try.t98.size = 13 := rfl
@[simp] theorem tbytes98 : Try.t98.bytes = 144 := rfl
@[simp] theorem zeroV98 : zeroV Try.prog 98 = some (.agg [.str [], .str [], .nils, .int .u8 0, .int .i64 0, .int .i64 0, .int .i64 0, .int .i64 0, .int .i64 0, .int .i64 0, .str [], .int .i64 0, .bool false]) := by kernel_rfl
theorem tz98 : (Try.t98.zero).map (fun z => z.cells.size) = some 13 := by kernel_rfl
@[simp] theorem tzero98 : ∃ z, Try.t98.zero = some z ∧ z.cells.size = 13 := by have h := tz98; cases hz : Try.t98.zero with | none => rw [hz] at h; cases h | some z => rw [hz] at h; exact ⟨z, rfl, by simpa using h⟩
@[simp] theorem rd98 (cs : List V) (off : Nat) : rd Try.prog 98 cs off = if off + 13 ≤ cs.length then some (.agg ((cs.drop off).take 13)) else none := by unfold rd; simp
@[simp] theorem fo98_0 : fieldOff Try.prog 98 0 = some 0 := by kernel_rfl
@[simp] theorem pf98_0 (cs : List V) : pField Try.prog 98 0 (.agg cs) = rd Try.prog 9 cs 0 := by unfold pField; simp
@[simp] theorem fo98_1 : fieldOff Try.prog 98 1 = some 1 := by kernel_rfl
@[simp] theorem pf98_1 (cs : List V) : pField Try.prog 98 1 (.agg cs) = rd Try.prog 9 cs 1 := by unfold pField; simp
@[simp] theorem fo98_2 : fieldOff Try.prog 98 2 = some 2 := by kernel_rfl
@[simp] theorem pf98_2 (cs : List V) : pField Try.prog 98 2 (.agg cs) = rd Try.prog 89 cs 2 := by unfold pField; simp
@[simp] theorem fo98_3 : fieldOff Try.prog 98 3 = some 3 := by kernel_rfl
@[simp] theorem pf98_3 (cs : List V) : pField Try.prog 98 3 (.agg cs) = rd Try.prog 97 cs 3 := by unfold pField; simp
@[simp] theorem fo98_4 : fieldOff Try.prog 98 4 = some 10 := by kernel_rfl
@[simp] theorem pf98_4 (cs : List V) : pField Try.prog 98 4 (.agg cs) = rd Try.prog 9 cs 10 := by unfold pField; simp
@[simp] theorem fo98_5 : fieldOff Try.prog 98 5 = some 11 := by kernel_rfl
@[simp] theorem pf98_5 (cs : List V) : pField Try.prog 98 5 (.agg cs) = rd Try.prog 3 cs 11 := by unfold pField; simp
@[simp] theorem fo98_6 : fieldOff Try.prog 98 6 = some 12 := by kernel_rfl
@[simp] theorem pf98_6 (cs : List V) : pField Try.prog 98 6 (.agg cs) = rd Try.prog 4 cs 12 := by unfold pField; simp
@[simp] theorem cellsOf99 : Program.cellsOf Try.prog 99 = 13 := by kernel_rfl
@[simp] theorem info99 : Try.prog.info? 99 = some Try.t99 := by kernel_rfl
@[simp] theorem tsize99 : Try.t99.size = 13 := rfl
@[simp] theorem tbytes99 : Try.t99.bytes = 144 := rfl
@[simp] theorem zeroV99 : zeroV Try.prog 99 = some (.agg [.str [], .str [], .nils, .int .u8 0, .int .i64 0, .int .i64 0, .int .i64 0, .int .i64 0, .int .i64 0, .int .i64 0, .str [], .int .i64 0, .bool false]) := by kernel_rfl
theorem tz99 : (Try.t99.zero).map (fun z => z.cells.size) = some 13 := by kernel_rfl
@[simp] theorem tzero99 : ∃ z, Try.t99.zero = some z ∧ z.cells.size = 13 := by have h := tz99; cases hz : Try.t99.zero with | none => rw [hz] at h; cases h | some z => rw [hz] at h; exact ⟨z, rfl, by simpa using h⟩
@[simp] theorem rd99 (cs : List V) (off : Nat) : rd Try.prog 99 cs off = if off + 13 ≤ cs.length then some (.agg ((cs.drop off).take 13)) else none := by unfold rd; simp
@[simp] theorem fo99_0 : fieldOff Try.prog 99 0 = some 0 := by kernel_rfl
@[simp] theorem pf99_0 (cs : List V) : pField Try.prog 99 0 (.agg cs) = rd Try.prog 9 cs 0 := by unfold pField; simp
@[simp] theorem fo99_1 : fieldOff Try.prog 99 1 = some 1 := by kernel_rfl
@[simp] theorem pf99_1 (cs : List V) : pField Try.prog 99 1 (.agg cs) = rd Try.prog 9 cs 1 := by unfold pField; simp
@[simp] theorem fo99_2 : fieldOff Try.prog 99 2 = some 2 := by kernel_rfl
@[simp] theorem pf99_2 (cs : List V) : pField Try.prog 99 2 (.agg cs) = rd Try.prog 89 cs 2 := by unfold pField; simp
@[simp] theorem fo99_3 : fieldOff Try.prog 99 3 = some 3 := by kernel_rfl
@[simp] theorem pf99_3 (cs : List V) : pField Try.prog 99 3 (.agg cs) = rd Try.prog 97 cs 3 := by unfold pField; simp
@[simp] theorem fo99_4 : fieldOff Try.prog 99 4 = some 10 := by kernel_rfl
@[simp] theorem pf99_4 (cs : List V) : pField Try.prog 99 4 (.agg cs) = rd Try.prog 9 cs 10 := by unfold pField; simp
@[simp] theorem fo99_5 : fieldOff Try.prog 99 5 = some 11 := by kernel_rfl
@[simp] theorem pf99_5 (cs : List V) : pField Try.prog 99 5 (.agg cs) = rd Try.prog 3 cs 11 := by unfold pField; simp
@[simp] theorem fo99_6 : fieldOff Try.prog 99 6 = some 12 := by kernel_rfl
@[simp] theorem pf99_6 (cs : List V) : pField Try.prog 99 6 (.agg cs) = rd Try.prog 4 cs 12 := by unfold pField; simp
@[simp] theorem cellsOf100 : Program.cellsOf Try.prog 100 = 1 := by kernel_rfl
@[simp] theorem info100 : Try.prog.info? 100 = some Try.t100 := by kernel_rfl
@[simp] theorem tsize100 : Try.t100.size = 1 := rfl
@[simp] theorem tbytes100 : Try.t100.bytes = 8 := rfl
@[simp] theorem zeroV100 : zeroV Try.prog 100 = some (.nilf) := by kernel_rfl
theorem tz100 : (Try.t100.zero).map (fun z => z.cells.size) = some 1 := by kernel_rfl
@[simp] theorem tzero100 : ∃ z, Try.t100.zero = some z ∧ z.cells.size = 1 := by have h := tz100; cases hz : Try.t100.zero with | none => rw [hz] at h; cases h | some z => rw [hz] at h; exact ⟨z, rfl, by simpa using h⟩
@[simp] theorem rd100 (cs : List V) (off : Nat) : rd Try.prog 100 cs off = cs[off]? := by unfold rd; simp
@[simp] theorem cellsOf102 : Program.cellsOf Try.prog 102 = 1 := by kernel_rfl
@[simp] theorem info102 : Try.prog.info? 102 = some Try.t102 := by kernel_rfl
@[simp] theorem tsize102 : Try.t102.size = 1 := rfl
@[simp] theorem tbytes102 : Try.t102.bytes = 8 := rfl
@[simp] theorem zeroV102 : zeroV Try.prog 102 = some (.nilf) := by kernel_rfl
theorem tz102 : (Try.t102.zero).map (fun z => z.cells.size) = some 1 := by kernel_rfl
@[simp] theorem tzero102 : ∃ z, Try.t102.zero = some z ∧ z.cells.size = 1 := by have h := tz102; cases hz : Try.t102.zero with | none => rw [hz] at h; cases h | some z => rw [hz] at h; exact ⟨z, rfl, by simpa using h⟩
@[simp] theorem rd102 (cs : List V) (off : Nat) : rd Try.prog 102 cs off = cs[off]? := by unfold rd; simp
@[simp] theorem cellsOf103 : Program.cellsOf Try.prog 103 = 1 := by kernel_rfl
@[simp] theorem info103 : Try.prog.info? 103 = some Try.t103 := by kernel_rfl
@[simp] theorem tsize103 : Try.t103.size = 1 := rfl
@[simp] theorem tbytes103 : Try.t103.bytes = 8 := rfl
@[simp] theorem zeroV103 : zeroV Try.prog 103 = some (.nilf) := by kernel_rfl
theorem tz103 : (Try.t103.zero).map (fun z => z.cells.size) = some 1 := by kernel_rfl
@[simp] theorem tzero103 : ∃ z, Try.t103.zero = some z ∧ z.cells.size = 1 := by have h := tz103; cases hz : Try.t103.zero with | none => rw [hz] at h; cases h | some z => rw [hz] at h; exact ⟨z, rfl, by simpa using h⟩
@[simp] theorem rd103 (cs : List V) (off : Nat) : rd Try.prog 103 cs off = cs[off]? := by unfold rd; simp
@[simp] theorem cellsOf104 : Program.cellsOf Try.prog 104 = 1 := by kernel_rfl
@[simp] theorem info104 : Try.prog.info? 104 = some Try.t104 := by kernel_rfl
@[simp] theorem tsize104 : Try.t104.size = 1 := rfl
@[simp] theorem tbytes104 : Try.t104.bytes = 8 := rfl
@[simp] theorem zeroV104 : zeroV Try.prog 104 = some (.mapn) := by kernel_rfl
theorem tz104 : (Try.t104.zero).map (fun z => z.cells.size) = some 1 := by kernel_rfl
@[simp] theorem tzero104 : ∃ z, Try.t104.zero = some z ∧ z.cells.size = 1 := by have h := tz104; cases hz : Try.t104.zero with | none => rw [hz] at h; cases h | some z => rw [hz] at h; exact ⟨z, rfl, by simpa using h⟩
@[simp] theorem rd104 (cs : List V) (off : Nat) : rd Try.prog 104 cs off = cs[off]? := by unfold rd; simp
@[simp] theorem cellsOf106 : Program.cellsOf Try.prog 106 = 1 := by kernel_rfl
@[simp] theorem info106 : Try.prog.info? 106 = some Try.t106 := by kernel_rfl
@[simp] theorem tsize106 : Try.t106.size = 1 := rfl
@[simp] theorem tbytes106 : Try.t106.bytes = 8 := rfl
@[simp] theorem zeroV106 : zeroV Try.prog 106 = some (.nilf) := by kernel_rfl
theorem tz106 : (Try.t106.zero).map (fun z => z.cells.size) = some 1 := by kernel_rfl
@[simp] theorem tzero106 : ∃ z, Try.t106.zero = some z ∧ z.cells.size = 1 := by have h := tz106; cases hz : Try.t106.zero with | none => rw [hz] at h; cases h | some z => rw [hz] at h; exact ⟨z, rfl, by simpa using h⟩
@[simp] theorem rd106 (cs : List V) (off : Nat) : rd Try.prog 106 cs off = cs[off]? := by unfold rd; simp
@[simp] theorem cellsOf107 : Program.cellsOf Try.prog 107 = 1 := by kernel_rfl
@[simp] theorem info107 : Try.prog.info? 107 = some Try.t107 := by kernel_rfl
@[simp] theorem tsize107 : Try.t107.size = 1 := rfl
@[simp] theorem tbytes107 : Try.t107.bytes = 8 := rfl
@[simp] theorem zeroV107 : zeroV Try.prog 107 = some (.nilf) := by kernel_rfl
theorem tz107 : (Try.t107.zero).map (fun z => z.cells.size) = some 1 := by kernel_rfl
@[simp] theorem tzero107 : ∃ z, Try.t107.zero = some z ∧ z.cells.size = 1 := by have h := tz107; cases hz : Try.t107.zero with | none => rw [hz] at h; cases h | some z => rw [hz] at h; exact ⟨z, rfl, by simpa using h⟩
@[simp] theorem rd107 (cs : List V) (off : Nat) : rd Try.prog 107 cs off = cs[off]? := by unfold rd; simp
@[simp] theorem cellsOf109 : Program.cellsOf Try.prog 109 = 1 := by kernel_rfl
@[simp] theorem info109 : Try.prog.info? 109 = some Try.t109 := by kernel_rfl
@[simp] theorem tsize109 : Try.t109.size = 1 := rfl
@[simp] theorem tbytes109 : Try.t109.bytes = 8 := rfl
@[simp] theorem zeroV109 : zeroV Try.prog 109 = some (.nilf) := by kernel_rfl
theorem tz109 : (Try.t109.zero).map (fun z => z.cells.size) = some 1 := by kernel_rfl
@[simp] theorem tzero109 : ∃ z, Try.t109.zero = some z ∧ z.cells.size = 1 := by have h := tz109; cases hz : Try.t109.zero with | none => rw [hz] at h; cases h | some z => rw [hz] at h; exact ⟨z, rfl, by simpa using h⟩
@[simp] theorem rd109 (cs : List V) (off : Nat) : rd Try.prog 109 cs off = cs[off]? := by unfold rd; simp
@[simp] theorem cellsOf110 : Program.cellsOf Try.prog 110 = 1 := by kernel_rfl
@[simp] theorem info110 : Try.prog.info? 110 = some Try.t110 := by kernel_rfl
@[simp] theorem tsize110 : Try.t110.size = 1 := rfl
@[simp] theorem tbytes110 : Try.t110.bytes = 8 := rfl
@[simp] theorem zeroV110 : zeroV Try.prog 110 = some (.nilf) := by kernel_rfl
theorem tz110 : (Try.t110.zero).map (fun z => z.cells.size) = some 1 := by kernel_rfl
@[simp] theorem tzero110 : ∃ z, Try.t110.zero = some z ∧ z.cells.size = 1 := by have h := tz110; cases hz : Try.t110.zero with | none => rw [hz] at h; cases h | some z => rw [hz] at h; exact ⟨z, rfl, by simpa using h⟩
@[simp] theorem rd110 (cs : List V) (off : Nat) : rd Try.prog 110 cs off = cs[off]? := by unfold rd; simp
@[simp] theorem cellsOf112 : Program.cellsOf Try.prog 112 = 1 := by kernel_rfl
@[simp] theorem info112 : Try.prog.info? 112 = some Try.t112 := by kernel_rfl
@[simp] theorem tsize112 : Try.t112.size = 1 := rfl
@[simp] theorem tbytes112 : Try.t112.bytes = 8 := rfl
@[simp] theorem zeroV112 : zeroV Try.prog 112 = some (.nilf) := by kernel_rfl
theorem tz112 : (Try.t112.zero).map (fun z => z.cells.size) = some 1 := by kernel_rfl
@[simp] theorem tzero112 : ∃ z, Try.t112.zero = some z ∧ z.cells.size = 1 := by have h := tz112; cases hz : Try.t112.zero with | none => rw [hz] at h; cases h | some z => rw [hz] at h; exact ⟨z, rfl, by simpa using h⟩
@[simp] theorem rd112 (cs : List V) (off : Nat) : rd Try.prog 112 cs off = cs[off]? := by unfold rd; simp
@[simp] theorem cellsOf113 : Program.cellsOf Try.prog 113 = 1 := by kernel_rfl
@[simp] theorem info113 : Try.prog.info? 113 = some Try.t113 := by kernel_rfl
@[simp] theorem tsize113 : Try.t113.size = 1 := rfl
@[simp] theorem tbytes113 : Try.t113.bytes = 8 := rfl
@[simp] theorem zeroV113 : zeroV Try.prog 113 = some (.nilf) := by kernel_rfl
theorem tz113 : (Try.t113.zero).map (fun z => z.cells.size) = some 1 := by kernel_rfl
@[simp] theorem tzero113 : ∃ z, Try.t113.zero = some z ∧ z.cells.size = 1 := by have h := tz113; cases hz : Try.t113.zero with | none => rw [hz] at h; cases h | some z => rw [hz] at h; exact ⟨z, rfl, by simpa using h⟩
@[simp] theorem rd113 (cs : List V) (off : Nat) : rd Try.prog 113 cs off = cs[off]? := by unfold rd; simp
@[simp] theorem cellsOf114 : Program.cellsOf Try.prog 114 = 1 := by kernel_rfl
@[simp] theorem info114 : Try.prog.info? 114 = some Try.t114 := by kernel_rfl
@[simp] theorem tsize114 : Try.t114.size = 1 := rfl
@[simp] theorem tbytes114 : Try.t114.bytes = 8 := rfl
@[simp] theorem zeroV114 : zeroV Try.prog 114 = some (.nilf) := by kernel_rfl
theorem tz114 : (Try.t114.zero).map (fun z => z.cells.size) = some 1 := by kernel_rfl
@[simp] theorem tzero114 : ∃ z, Try.t114.zero = some z ∧ z.cells.size = 1 := by have h := tz114; cases hz : Try.t114.zero with | none => rw [hz] at h; cases h | some z => rw [hz] at h; exact ⟨z, rfl, by simpa using h⟩
@[simp] theorem rd114 (cs : List V) (off : Nat) : rd Try.prog 114 cs off = cs[off]? := by unfold rd; simp
@[simp] theorem cellsOf115 : Program.cellsOf Try.prog 115 = 1 := by kernel_rfl
@[simp] theorem info115 : Try.prog.info? 115 = some Try.t115 := by kernel_rfl
@[simp] theorem tsize115 : Try.t115.size = 1 := rfl
@[simp] theorem tbytes115 : Try.t115.bytes = 8 := rfl
@[simp] theorem zeroV115 : zeroV Try.prog 115 = some (.nilf) := by kernel_rfl
theorem tz115 : (Try.t115.zero).map (fun z => z.cells.size) = some 1 := by kernel_rfl
@[simp] theorem tzero115 : ∃ z, Try.t115.zero = some z ∧ z.cells.size = 1 := by have h := tz115; cases hz : Try.t115.zero with | none => rw [hz] at h; cases h | some z => rw [hz] at h; exact ⟨z, rfl, by simpa using h⟩
@[simp] theorem rd115 (cs : List V) (off : Nat) : rd Try.prog 115 cs off = cs[off]? := by unfold rd; simp
@[simp] theorem cellsOf116 : Program.cellsOf Try.prog 116 = 1 := by kernel_rfl
@[simp] theorem info116 : Try.prog.info? 116 = some Try.t116 := by kernel_rfl
@[simp] theorem tsize116 : Try.t116.size = 1 := rfl
@[simp] theorem tbytes116 : Try.t116.bytes = 8 := rfl
@[simp] theorem zeroV116 : zeroV Try.prog 116 = some (.nilf) := by kernel_rfl
theorem tz116 : (Try.t116.zero).map (fun z => z.cells.size) = some 1 := by kernel_rfl
@[simp] theorem tzero116 : ∃ z, Try.t116.zero = some z ∧ z.cells.size = 1 := by have h := tz116; cases hz : Try.t116.zero with | none => rw [hz] at h; cases h | some z => rw [hz] at h; exact ⟨z, rfl, by simpa using h⟩
@[simp] theorem rd116 (cs : List V) (off : Nat) : rd Try.prog 116 cs off = cs[off]? := by unfold rd; simp
@[simp] theorem cellsOf117 : Program.cellsOf Try.prog 117 = 1 := by kernel_rfl
@[simp] theorem info117 : Try.prog.info? 117 = some Try.t117 := by kernel_rfl
@[simp] theorem tsize117 : Try.t117.size = 1 := rfl
@[simp] theorem tbytes117 : Try.t117.bytes = 8 := rfl
@[simp] theorem zeroV117 : zeroV Try.prog 117 = some (.int .u64 0) := by kernel_rfl
theorem tz117 : (Try.t117.zero).map (fun z => z.cells.size) = some 1 := by kernel_rfl
@[simp] theorem tzero117 : ∃ z, Try.t117.zero = some z ∧ z.cells.size = 1 := by have h := tz117; cases hz : Try.t117.zero with | none => rw [hz] at h; cases h | some z => rw [hz] at h; exact ⟨z, rfl, by simpa using h⟩
@[simp] theorem rd117 (cs : List V) (off : Nat) : rd Try.prog 117 cs off = cs[off]? := by unfold rd; simp
@[simp] theorem cellsOf118 : Program.cellsOf Try.prog 118 = 1 := by kernel_rfl
@[simp] theorem info118 : Try.prog.info? 118 = some Try.t118 := by kernel_rfl
@[simp] theorem tsize118 : Try.t118.size = 1 := rfl
@[simp] theorem tbytes118 : Try.t118.bytes = 8 := rfl
@[simp] theorem zeroV118 : zeroV Try.prog 118 = some (.nilf) := by kernel_rfl
theorem tz118 : (Try.t118.zero).map (fun z => z.cells.size) = some 1 := by kernel_rfl
@[simp] theorem tzero118 : ∃ z, Try.t118.zero = some z ∧ z.cells.size = 1 := by have h := tz118; cases hz : Try.t118.zero with | none => rw [hz] at h; cases h | some z => rw [hz] at h; exact ⟨z, rfl, by simpa using h⟩
@[simp] theorem rd118 (cs : List V) (off : Nat) : rd Try.prog 118 cs off = cs[off]? := by unfold rd; simp
@[simp] theorem cellsOf119 : Program.cellsOf Try.prog 119 = 1 := by kernel_rfl
@[simp] theorem info119 : Try.prog.info? 119 = some Try.t119 := by kernel_rfl
@[simp] theorem tsize119 : Try.t119.size = 1 := rfl
@[simp] theorem tbytes119 : Try.t119.bytes = 8 := rfl
@[simp] theorem zeroV119 : zeroV Try.prog 119 = some (.nilf) := by kernel_rfl
theorem tz119 : (Try.t119.zero).map (fun z => z.cells.size) = some 1 := by kernel_rfl
@[simp] theorem tzero119 : ∃ z, Try.t119.zero = some z ∧ z.cells.size = 1 := by have h := tz119; cases hz : Try.t119.zero with | none => rw [hz] at h; cases h | some z => rw [hz] at h; exact ⟨z, rfl, by simpa using h⟩
@[simp] theorem rd119 (cs : List V) (off : Nat) : rd Try.prog 119 cs off = cs[off]? := by unfold rd; simp
@[simp] theorem cellsOf120 : Program.cellsOf Try.prog 120 = 24 := by kernel_rfl
@[simp] theorem info120 : Try.prog.info? 120 = some Try.t120 := by kernel_rfl
@[simp] theorem tsize120 : Try.t120.size = 24 := rfl
@[simp] theorem tbytes120 : Try.t120.bytes = 192 := rfl
@[simp] theorem zeroV120 : zeroV Try.prog 120 = some (.agg [.int .i64 0, .int .i64 0, .int .i64 0, .int .i64 0, .int .i64 0, .int .i64 0, .int .i64 0, .int .i64 0, .int .i64 0, .int .i64 0, .int .i64 0, .int .i64 0, .int .i64 0, .int .i64 0, .int .i64 0, .int .i64 0, .int .i64 0, .int .i64 0, .int .i64 0, .int .i64 0, .int .i64 0, .int .i64 0, .int .i64 0, .int .i64 0]) := by kernel_rfl
theorem tz120 : (Try.t120.zero).map (fun z => z.cells.size) = some 24 := by kernel_rfl
@[simp] theorem tzero120 : ∃ z, Try.t120.zero = some z ∧ z.cells.size = 24 := by have h := tz120; cases hz : Try.t120.zero with | none => rw [hz] at h; cases h | some z => rw [hz] at h; exact ⟨z, rfl, by simpa using h⟩
@[simp] theorem rd120 (cs : List V) (off : Nat) : rd Try.prog 120 cs off = if off + 24 ≤ cs.length then some (.agg ((cs.drop off).take 24)) else none := by unfold rd; simp
@[simp] theorem cellsOf122 : Program.cellsOf Try.prog 122 = 1 := by kernel_rfl
@[simp] theorem info122 : Try.prog.info? 122 = some Try.t122 := by kernel_rfl
@[simp] theorem tsize122 : Try.t122.size = 1 := rfl
@[simp] theorem tbytes122 : Try.t122.bytes = 8 := rfl
@[simp] theorem zeroV122 : zeroV Try.prog 122 = some (.nilf) := by kernel_rfl
theorem tz122 : (Try.t122.zero).map (fun z => z.cells.size) = some 1 := by kernel_rfl
@[simp] theorem tzero122 : ∃ z, Try.t122.zero = some z ∧ z.cells.size = 1 := by have h := tz122; cases hz : Try.t122.zero with | none => rw [hz] at h; cases h | some z => rw [hz] at h; exact ⟨z, rfl, by simpa using h⟩
@[simp] theorem rd122 (cs : List V) (off : Nat) : rd Try.prog 122 cs off = cs[off]? := by unfold rd; simp
@[simp] theorem cellsOf123 : Program.cellsOf Try.prog 123 = 1 := by kernel_rfl
@[simp] theorem info123 : Try.prog.info? 123 = some Try.t123 := by kernel_rfl
@[simp] theorem tsize123 : Try.t123.size = 1 := rfl
@[simp] theorem tbytes123 : Try.t123.bytes = 8 := rfl
@[simp] theorem zeroV123 : zeroV Try.prog 123 = some (.nilf) := by kernel_rfl
theorem tz123 : (Try.t123.zero).map (fun z => z.cells.size) = some 1 := by kernel_rfl
@[simp] theorem tzero123 : ∃ z, Try.t123.zero = some z ∧ z.cells.size = 1 := by have h := tz123; cases hz : Try.t123.zero with | none => rw [hz] at h; cases h | some z => rw [hz] at h; exact ⟨z, rfl, by simpa using h⟩
@[simp] theorem rd123 (cs : List V) (off : Nat) : rd Try.prog 123 cs off = cs[off]? := by unfold rd; simp
@[simp] theorem cellsOf124 : Program.cellsOf Try.prog 124 = 1 := by kernel_rfl
@[simp] theorem info124 : Try.prog.info? 124 = some Try.t124 := by kernel_rfl
@[simp] theorem tsize124 : Try.t124.size = 1 := rfl
@[simp] theorem tbytes124 : Try.t124.bytes = 8 := rfl
@[simp] theorem zeroV124 : zeroV Try.prog 124 = some (.nilf) := by kernel_rfl
theorem tz124 : (Try.t124.zero).map (fun z => z.cells.size) = some 1 := by kernel_rfl
@[simp] theorem tzero124 : ∃ z, Try.t124.zero = some z ∧ z.cells.size = 1 := by have h := tz124; cases hz : Try.t124.zero with | none => rw [hz] at h; cases h | some z => rw [hz] at h; exact ⟨z, rfl, by simpa using h⟩
@[simp] theorem rd124 (cs : List V) (off : Nat) : rd Try.prog 124 cs off = cs[off]? := by unfold rd; simp
@[simp] theorem cellsOf125 : Program.cellsOf Try.prog 125 = 2 := by kernel_rfl
@[simp] theorem info125 : Try.prog.info? 125 = some Try.t125 := by kernel_rfl
@[simp] theorem tsize125 : Try.t125.size = 2 := rfl
@[simp] theorem tbytes125 : Try.t125.bytes = 24 := rfl
@[simp] theorem zeroV125 : zeroV Try.prog 125 = some (.agg [.str [], .int .i64 0]) := by kernel_rfl
theorem tz125 : (Try.t125.zero).map (fun z => z.cells.size) = some 2 := by kernel_rfl
@[simp] theorem tzero125 : ∃ z, Try.t125.zero = some z ∧ z.cells.size = 2 := by have h := tz125; cases hz : Try.t125.zero with | none => rw [hz] at h; cases h | some z => rw [hz] at h; exact ⟨z, rfl, by simpa using h⟩
@[simp] theorem rd125 (cs : List V) (off : Nat) : rd Try.prog 125 cs off = if off + 2 ≤ cs.length then some (.agg ((cs.drop off).take 2)) else none := by unfold rd; simp
@[simp] theorem fo125_0 : fieldOff Try.prog 125 0 = some 0 := by kernel_rfl
@[simp] theorem pf125_0 (cs : List V) : pField Try.prog 125 0 (.agg cs) = rd Try.prog 9 cs 0 := by unfold pField; simp
@[simp] theorem fo125_1 : fieldOff Try.prog 125 1 = some 1 := by kernel_rfl
@[simp] theorem pf125_1 (cs : List V) : pField Try.prog 125 1 (.agg cs) = rd Try.prog 3 cs 1 := by unfold pField; simp
@[simp] theorem cellsOf126 : Program.cellsOf Try.prog 126 = 2 := by kernel_rfl
@[simp] theorem info126 : Try.prog.info? 126 = some Try.t126 := by kernel_rfl
@[simp] theorem tsize126 : Try.t126.size = 2 := rfl
@[simp] theorem tbytes126 : Try.t126.bytes = 24 := rfl
@[simp] theorem zeroV126 : zeroV Try.prog 126 = some (.agg [.str [], .int .i64 0]) := by kernel_rfl
theorem tz126 : (Try.t126.zero).map (fun z => z.cells.size) = some 2 := by kernel_rfl
@[simp] theorem tzero126 : ∃ z, Try.t126.zero = some z ∧ z.cells.size = 2 := by have h := tz126; cases hz : Try.t126.zero with | none => rw [hz] at h; cases h | some z => rw [hz] at h; exact ⟨z, rfl, by simpa using h⟩
@[simp] theorem rd126 (cs : List V) (off : Nat) : rd Try.prog 126 cs off = if off + 2 ≤ cs.length then some (.agg ((cs.drop off).take 2)) else none := by unfold rd; simp
@[simp] theorem fo126_0 : fieldOff Try.prog 126 0 = some 0 := by kernel_rfl
@[simp] theorem pf126_0 (cs : List V) : pField Try.prog 126 0 (.agg cs) = rd Try.prog 9 cs 0 := by unfold pField; simp
@[simp] theorem fo126_1 : fieldOff Try.prog 126 1 = some 1 := by kernel_rfl
@[simp] theorem pf126_1 (cs : List V) : pField Try.prog 126 1 (.agg cs) = rd Try.prog 3 cs 1 := by unfold pField; simp
@[simp] theorem cellsOf128 : Program.cellsOf Try.prog 128 = 1 := by kernel_rfl
@[simp] theorem info128 : Try.prog.info? 128 = some Try.t128 := by kernel_rfl
@[simp] theorem tsize128 : Try.t128.size = 1 := rfl
@[simp] theorem tbytes128 : Try.t128.bytes = 8 := rfl
@[simp] theorem zeroV128 : zeroV Try.prog 128 = some (.nilf) := by kernel_rfl
theorem tz128 : (Try.t128.zero).map (fun z => z.cells.size) = some 1 := by kernel_rfl
@[simp] theorem tzero128 : ∃ z, Try.t128.zero = some z ∧ z.cells.size = 1 := by have h := tz128; cases hz : Try.t128.zero with | none => rw [hz] at h; cases h | some z => rw [hz] at h; exact ⟨z, rfl, by simpa using h⟩
@[simp] theorem rd128 (cs : List V) (off : Nat) : rd Try.prog 128 cs off = cs[off]? := by unfold rd; simp
@[simp] theorem cellsOf130 : Program.cellsOf Try.prog 130 = 1 := by kernel_rfl
@[simp] theorem info130 : Try.prog.info? 130 = some Try.t130 := by kernel_rfl
@[simp] theorem tsize130 : Try.t130.size = 1 := rfl
@[simp] theorem tbytes130 : Try.t130.bytes = 8 := rfl
@[simp] theorem zeroV130 : zeroV Try.prog 130 = some (.nilf) := by kernel_rfl
theorem tz130 : (Try.t130.zero).map (fun z => z.cells.size) = some 1 := by kernel_rfl
@[simp] theorem tzero130 : ∃ z, Try.t130.zero = some z ∧ z.cells.size = 1 := by have h := tz130; cases hz : Try.t130.zero with | none => rw [hz] at h; cases h | some z => rw [hz] at h; exact ⟨z, rfl, by simpa using h⟩
@[simp] theorem rd130 (cs : List V) (off : Nat) : rd Try.prog 130 cs off = cs[off]? := by unfold rd; simp
@[simp] theorem cellsOf131 : Program.cellsOf Try.prog 131 = 1 := by kernel_rfl
@[simp] theorem info131 : Try.prog.info? 131 = some Try.t131 := by kernel_rfl
@[simp] theorem tsize131 : Try.t131.size = 1 := rfl
@[simp] theorem tbytes131 : Try.t131.bytes = 8 := rfl
@[simp] theorem zeroV131 : zeroV Try.prog 131 = some (.nilf) := by kernel_rfl
theorem tz131 : (Try.t131.zero).map (fun z => z.cells.size) = some 1 := by kernel_rfl
@[simp] theorem tzero131 : ∃ z, Try.t131.zero = some z ∧ z.cells.size = 1 := by have h := tz131; cases hz : Try.t131.zero with | none => rw [hz] at h; cases h | some z => rw [hz] at h; exact ⟨z, rfl, by simpa using h⟩
@[simp] theorem rd131 (cs : List V) (off : Nat) : rd Try.prog 131 cs off = cs[off]? := by unfold rd; simp
@[simp] theorem cellsOf133 : Program.cellsOf Try.prog 133 = 1 := by kernel_rfl
@[simp] theorem info133 : Try.prog.info? 133 = some Try.t133 := by kernel_rfl
@[simp] theorem tsize133 : Try.t133.size = 1 := rfl
@[simp] theorem tbytes133 : Try.t133.bytes = 8 := rfl
@[simp] theorem zeroV133 : zeroV Try.prog 133 = some (.nilf) := by kernel_rfl
theorem tz133 : (Try.t133.zero).map (fun z => z.cells.size) = some 1 := by kernel_rfl
@[simp] theorem tzero133 : ∃ z, Try.t133.zero = some z ∧ z.cells.size = 1 := by have h := tz133; cases hz : Try.t133.zero with | none => rw [hz] at h; cases h | some z => rw [hz] at h; exact ⟨z, rfl, by simpa using h⟩
@[simp] theorem rd133 (cs : List V) (off : Nat) : rd Try.prog 133 cs off = cs[off]? := by unfold rd; simp
@[simp] theorem cellsOf134 : Program.cellsOf Try.prog 134 = 1 := by kernel_rfl
@[simp] theorem info134 : Try.prog.info? 134 = some Try.t134 := by kernel_rfl
@[simp] theorem tsize134 : Try.t134.size = 1 := rfl
@[simp] theorem tbytes134 : Try.t134.bytes = 8 := rfl
@[simp] theorem zeroV134 : zeroV Try.prog 134 = some (.nilf) := by kernel_rfl
theorem tz134 : (Try.t134.zero).map (fun z => z.cells.size) = some 1 := by kernel_rfl
@[simp] theorem tzero134 : ∃ z, Try.t134.zero = some z ∧ z.cells.size = 1 := by have h := tz134; cases hz : Try.t134.zero with | none => rw [hz] at h; cases h | some z => rw [hz] at h; exact ⟨z, rfl, by simpa using h⟩
@[simp] theorem rd134 (cs : List V) (off : Nat) : rd Try.prog 134 cs off = cs[off]? := by unfold rd; simp
@[simp] theorem cellsOf136 : Program.cellsOf Try.prog 136 = 1 := by kernel_rfl
@[simp] theorem info136 : Try.prog.info? 136 = some Try.t136 := by kernel_rfl
@[simp] theorem tsize136 : Try.t136.size = 1 := rfl
@[simp] theorem tbytes136 : Try.t136.bytes = 8 := rfl
@[simp] theorem zeroV136 : zeroV Try.prog 136 = some (.nilf) := by kernel_rfl
theorem tz136 : (Try.t136.zero).map (fun z => z.cells.size) = some 1 := by kernel_rfl
@[simp] theorem tzero136 : ∃ z, Try.t136.zero = some z ∧ z.cells.size = 1 := by have h := tz136; cases hz : Try.t136.zero with | none => rw [hz] at h; cases h | some z => rw [hz] at h; exact ⟨z, rfl, by simpa using h⟩
@[simp] theorem rd136 (cs : List V) (off : Nat) : rd Try.prog 136 cs off = cs[off]? := by unfold rd; simp
@[simp] theorem cellsOf137 : Program.cellsOf Try.prog 137 = 1 := by kernel_rfl
@[simp] theorem info137 : Try.prog.info? 137 = some Try.t137 := by kernel_rfl
@[simp] theorem tsize137 : Try.t137.size = 1 := rfl
@[simp] theorem tbytes137 : Try.t137.bytes = 8 := rfl
@[simp] theorem zeroV137 : zeroV Try.prog 137 = some (.nilf) := by kernel_rfl
theorem tz137 : (Try.t137.zero).map (fun z => z.cells.size) = some 1 := by kernel_rfl
@[simp] theorem tzero137 : ∃ z, Try.t137.zero = some z ∧ z.cells.size = 1 := by have h := tz137; cases hz : Try.t137.zero with | none => rw [hz] at h; cases h | some z => rw [hz] at h; exact ⟨z, rfl, by simpa using h⟩
@[simp] theorem rd137 (cs : List V) (off : Nat) : rd Try.prog 137 cs off = cs[off]? := by unfold rd; simp
@[simp] theorem cellsOf138 : Program.cellsOf Try.prog 138 = 1 := by kernel_rfl
@[simp] theorem info138 : Try.prog.info? 138 = some Try.t138 := by kernel_rfl
@[simp] theorem tsize138 : Try.t138.size = 1 := rfl
@[simp] theorem tbytes138 : Try.t138.bytes = 8 := rfl
@[simp] theorem zeroV138 : zeroV Try.prog 138 = some (.nilf) := by kernel_rfl
theorem tz138 : (Try.t138.zero).map (fun z => z.cells.size) = some 1 := by kernel_rfl
@[simp] theorem tzero138 : ∃ z, Try.t138.zero = some z ∧ z.cells.size = 1 := by have h := tz138; cases hz : Try.t138.zero with | none => rw [hz] at h; cases h | some z => rw [hz] at h; exact ⟨z, rfl, by simpa using h⟩
@[simp] theorem rd138 (cs : List V) (off : Nat) : rd Try.prog 138 cs off = cs[off]? := by unfold rd; simp
@[simp] theorem cellsOf139 : Program.cellsOf Try.prog 139 = 1 := by kernel_rfl
@[simp] theorem info139 : Try.prog.info? 139 = some Try.t139 := by kernel_rfl
@[simp] theorem tsize139 : Try.t139.size = 1 := rfl
@[simp] theorem tbytes139 : Try.t139.bytes = 8 := rfl
@[simp] theorem zeroV139 : zeroV Try.prog 139 = some (.int .i64 0) := by kernel_rfl
theorem tz139 : (Try.t139.zero).map (fun z => z.cells.size) = some 1 := by kernel_rfl
@[simp] theorem tzero139 : ∃ z, Try.t139.zero = some z ∧ z.cells.size = 1 := by have h := tz139; cases hz : Try.t139.zero with | none => rw [hz] at h; cases h | some z => rw [hz] at h; exact ⟨z, rfl, by simpa using h⟩
@[simp] theorem rd139 (cs : List V) (off : Nat) : rd Try.prog 139 cs off = cs[off]? := by unfold rd; simp
@[simp] theorem cellsOf141 : Program.cellsOf Try.prog 141 = 1 := by kernel_rfl
@[simp] theorem info141 : Try.prog.info? 141 = some Try.t141 := by kernel_rfl
@[simp] theorem tsize141 : Try.t141.size = 1 := rfl
@[simp] theorem tbytes141 : Try.t141.bytes = 8 := rfl
@[simp] theorem zeroV141 : zeroV Try.prog 141 = some (.nilf) := by kernel_rfl
theorem tz141 : (Try.t141.zero).map (fun z => z.cells.size) = some 1 := by kernel_rfl
@[simp] theorem tzero141 : ∃ z, Try.t141.zero = some z ∧ z.cells.size = 1 := by have h := tz141; cases hz : Try.t141.zero with | none => rw [hz] at h; cases h | some z => rw [hz] at h; exact ⟨z, rfl, by simpa using h⟩
@[simp] theorem rd141 (cs : List V) (off : Nat) : rd Try.prog 141 cs off = cs[off]? := by unfold rd; simp
@[simp] theorem cellsOf142 : Program.cellsOf Try.prog 142 = 1 := by kernel_rfl
@[simp] theorem info142 : Try.prog.info? 142 = some Try.t142 := by kernel_rfl
@[simp] theorem tsize142 : Try.t142.size = 1 := rfl
@[simp] theorem tbytes142 : Try.t142.bytes = 8 := rfl
@[simp] theorem zeroV142 : zeroV Try.prog 142 = some (.nilf) := by kernel_rfl
theorem tz142 : (Try.t142.zero).map (fun z => z.cells.size) = some 1 := by kernel_rfl
@[simp] theorem tzero142 : ∃ z, Try.t142.zero = some z ∧ z.cells.size = 1 := by have h := tz142; cases hz : Try.t142.zero with | none => rw [hz] at h; cases h | some z => rw [hz] at h; exact ⟨z, rfl, by simpa using h⟩
@[simp] theorem rd142 (cs : List V) (off : Nat) : rd Try.prog 142 cs off = cs[off]? := by unfold rd; simp
@[simp] theorem cellsOf143 : Program.cellsOf Try.prog 143 = 1 := by kernel_rfl
@[simp] theorem info143 : Try.prog.info? 143 = some Try.t143 := by kernel_rfl
@[simp] theorem tsize143 : Try.t143.size = 1 := rfl
@[simp] theorem tbytes143 : Try.t143.bytes = 8 := rfl
@[simp] theorem zeroV143 : zeroV Try.prog 143 = some (.nilf) := by kernel_rfl
theorem tz143 : (Try.t143.zero).map (fun z => z.cells.size) = some 1 := by kernel_rfl
@[simp] theorem tzero143 : ∃ z, Try.t143.zero = some z ∧ z.cells.size = 1 := by have h := tz143; cases hz : Try.t143.zero with | none => rw [hz] at h; cases h | some z => rw [hz] at h; exact ⟨z, rfl, by simpa using h⟩
@[simp] theorem rd143 (cs : List V) (off : Nat) : rd Try.prog 143 cs off = cs[off]? := by unfold rd; simp
@[simp] theorem cellsOf144 : Program.cellsOf Try.prog 144 = 1 := by kernel_rfl
@[simp] theorem info144 : Try.prog.info? 144 = some Try.t144 := by kernel_rfl
@[simp] theorem tsize144 : Try.t144.size = 1 := rfl
@[simp] theorem tbytes144 : Try.t144.bytes = 8 := rfl
@[simp] theorem zeroV144 : zeroV Try.prog 144 = some (.nilf) := by kernel_rfl
theorem tz144 : (Try.t144.zero).map (fun z => z.cells.size) = some 1 := by kernel_rfl
@[simp] theorem tzero144 : ∃ z, Try.t144.zero = some z ∧ z.cells.size = 1 := by have h := tz144; cases hz : Try.t144.zero with | none => rw [hz] at h; cases h | some z => rw [hz] at h; exact ⟨z, rfl, by simpa using h⟩
@[simp] theorem rd144 (cs : List V) (off : Nat) : rd Try.prog 144 cs off = cs[off]? := by unfold rd; simp
@[simp] theorem cellsOf145 : Program.cellsOf Try.prog 145 = 1 := by kernel_rfl
@[simp] theorem info145 : Try.prog.info? 145 = some Try.t145 := by kernel_rfl
@[simp] theorem tsize145 : Try.t145.size = 1 := rfl
@[simp] theorem tbytes145 : Try.t145.bytes = 8 := rfl
@[simp] theorem zeroV145 : zeroV Try.prog 145 = some (.nilf) := by kernel_rfl
theorem tz145 : (Try.t145.zero).map (fun z => z.cells.size) = some 1 := by kernel_rfl
@[simp] theorem tzero145 : ∃ z, Try.t145.zero = some z ∧ z.cells.size = 1 := by have h := tz145; cases hz : Try.t145.zero with | none => rw [hz] at h; cases h | some z => rw [hz] at h; exact ⟨z, rfl, by simpa using h⟩
@[simp] theorem rd145 (cs : List V) (off : Nat) : rd Try.prog 145 cs off = cs[off]? := by unfold rd; simp
@[simp] theorem cellsOf146 : Program.cellsOf Try.prog 146 = 1 := by kernel_rfl
@[simp] theorem info146 : Try.prog.info? 146 = some Try.t146 := by kernel_rfl
@[simp] theorem tsize146 : Try.t146.size = 1 := rfl
@[simp] theorem tbytes146 : Try.t146.bytes = 4 := rfl
@[simp] theorem zeroV146 : zeroV Try.prog 146 = some (.int .u32 0) := by kernel_rfl
theorem tz146 : (Try.t146.zero).map (fun z => z.cells.size) = some 1 := by kernel_rfl
@[simp] theorem tzero146 : ∃ z, Try.t146.zero = some z ∧ z.cells.size = 1 := by have h := tz146; cases hz : Try.t146.zero with | none => rw [hz] at h; cases h | some z => rw [hz] at h; exact ⟨z, rfl, by simpa using h⟩
@[simp] theorem rd146 (cs : List V) (off : Nat) : rd Try.prog 146 cs off = cs[off]? := by unfold rd; simp
@[simp] theorem cellsOf147 : Program.cellsOf Try.prog 147 = 1 := by kernel_rfl
@[simp] theorem info147 : Try.prog.info? 147 = some Try.t147 := by kernel_rfl
@[simp] theorem tsize147 : Try.t147.size = 1 := rfl
@[simp] theorem tbytes147 : Try.t147.bytes = 8 := rfl
@[simp] theorem zeroV147 : zeroV Try.prog 147 = some (.nilf) := by kernel_rfl
theorem tz147 : (Try.t147.zero).map (fun z => z.cells.size) = some 1 := by kernel_rfl
@[simp] theorem tzero147 : ∃ z, Try.t147.zero = some z ∧ z.cells.size = 1 := by have h := tz147; cases hz : Try.t147.zero with | none => rw [hz] at h; cases h | some z => rw [hz] at h; exact ⟨z, rfl, by simpa using h⟩
@[simp] theorem rd147 (cs : List V) (off : Nat) : rd Try.prog 147 cs off = cs[off]? := by unfold rd; simp
@[simp] theorem cellsOf148 : Program.cellsOf Try.prog 148 = 1 := by kernel_rfl
@[simp] theorem info148 : Try.prog.info? 148 = some Try.t148 := by kernel_rfl
@[simp] theorem tsize148 : Try.t148.size = 1 := rfl
@[simp] theorem tbytes148 : Try.t148.bytes = 8 := rfl
@[simp] theorem zeroV148 : zeroV Try.prog 148 = some (.int .u64 0) := by kernel_rfl
theorem tz148 : (Try.t148.zero).map (fun z => z.cells.size) = some 1 := by kernel_rfl
@[simp] theorem tzero148 : ∃ z, Try.t148.zero = some z ∧ z.cells.size = 1 := by have h := tz148; cases hz : Try.t148.zero with | none => rw [hz] at h; cases h | some z => rw [hz] at h; exact ⟨z, rfl, by simpa using h⟩
@[simp] theorem rd148 (cs : List V) (off : Nat) : rd Try.prog 148 cs off = cs[off]? := by unfold rd; simp
@[simp] theorem cellsOf149 : Program.cellsOf Try.prog 149 = 1 := by kernel_rfl
@[simp] theorem info149 : Try.prog.info? 149 = some Try.t149 := by kernel_rfl
@[simp] theorem tsize149 : Try.t149.size = 1 := rfl
@[simp] theorem tbytes149 : Try.t149.bytes = 8 := rfl
@[simp] theorem zeroV149 : zeroV Try.prog 149 = some (.nilf) := by kernel_rfl
theorem tz149 : (Try.t149.zero).map (fun z => z.cells.size) = some 1 := by kernel_rfl
@[simp] theorem tzero149 : ∃ z, Try.t149.zero = some z ∧ z.cells.size = 1 := by have h := tz149; cases hz : Try.t149.zero with | none => rw [hz] at h; cases h | some z => rw [hz] at h; exact ⟨z, rfl, by simpa using h⟩
@[simp] theorem rd149 (cs : List V) (off : Nat) : rd Try.prog 149 cs off = cs[off]? := by unfold rd; simp
@[simp] theorem cellsOf150 : Program.cellsOf Try.prog 150 = 1 := by kernel_rfl
@[simp] theorem info150 : Try.prog.info? 150 = some Try.t150 := by kernel_rfl
@[simp] theorem tsize150 : Try.t150.size = 1 := rfl
@[simp] theorem tbytes150 : Try.t150.bytes = 8 := rfl
@[simp] theorem zeroV150 : zeroV Try.prog 150 = some (.nilf) := by kernel_rfl
theorem tz150 : (Try.t150.zero).map (fun z => z.cells.size) = some 1 := by kernel_rfl
@[simp] theorem tzero150 : ∃ z, Try.t150.zero = some z ∧ z.cells.size = 1 := by have h := tz150; cases hz : Try.t150.zero with | none => rw [hz] at h; cases h | some z => rw [hz] at h; exact ⟨z, rfl, by simpa using h⟩
@[simp] theorem rd150 (cs : List V) (off : Nat) : rd Try.prog 150 cs off = cs[off]? := by unfold rd; simp
@[simp] theorem cellsOf151 : Program.cellsOf Try.prog 151 = 1 := by kernel_rfl
@[simp] theorem info151 : Try.prog.info? 151 = some Try.t151 := by kernel_rfl
@[simp] theorem tsize151 : Try.t151.size = 1 := rfl
@[simp] theorem tbytes151 : Try.t151.bytes = 8 := rfl
@[simp] theorem zeroV151 : zeroV Try.prog 151 = some (.nilf) := by kernel_rfl
theorem tz151 : (Try.t151.zero).map (fun z => z.cells.size) = some 1 := by kernel_rfl
@[simp] theorem tzero151 : ∃ z, Try.t151.zero = some z ∧ z.cells.size = 1 := by have h := tz151; cases hz : Try.t151.zero with | none => rw [hz] at h; cases h | some z => rw [hz] at h; exact ⟨z, rfl, by simpa using h⟩
@[simp] theorem rd151 (cs : List V) (off : Nat) : rd Try.prog 151 cs off = cs[off]? := by unfold rd; simp
@[simp] theorem cellsOf152 : Program.cellsOf Try.prog 152 = 1 := by kernel_rfl
@[simp] theorem info152 : Try.prog.info? 152 = some Try.t152 := by kernel_rfl
@[simp] theorem tsize152 : Try.t152.size = 1 := rfl
@[simp] theorem tbytes152 : Try.t152.bytes = 8 := rfl
@[simp] theorem zeroV152 : zeroV Try.prog 152 = some (.nilf) := by kernel_rfl
theorem tz152 : (Try.t152.zero).map (fun z => z.cells.size) = some 1 := by kernel_rfl
@[simp] theorem tzero152 : ∃ z, Try.t152.zero = some z ∧ z.cells.size = 1 := by have h := tz152; cases hz : Try.t152.zero with | none => rw [hz] at h; cases h | some z => rw [hz] at h; exact ⟨z, rfl, by simpa using h⟩
@[simp] theorem rd152 (cs : List V) (off : Nat) : rd Try.prog 152 cs off = cs[off]? := by unfold rd; simp
@[simp] theorem cellsOf153 : Program.cellsOf Try.prog 153 = 1 := by kernel_rfl
@[simp] theorem info153 : Try.prog.info? 153 = some Try.t153 := by kernel_rfl
@[simp] theorem tsize153 : Try.t153.size = 1 := rfl
@[simp] theorem tbytes153 : Try.t153.bytes = 8 := rfl
@[simp] theorem zeroV153 : zeroV Try.prog 153 = some (.nilf) := by kernel_rfl
theorem tz153 : (Try.t153.zero).map (fun z => z.cells.size) = some 1 := by kernel_rfl
@[simp] theorem tzero153 : ∃ z, Try.t153.zero = some z ∧ z.cells.size = 1 := by have h := tz153; cases hz : Try.t153.zero with | none => rw [hz] at h; cases h | some z => rw [hz] at h; exact ⟨z, rfl, by simpa using h⟩
@[simp] theorem rd153 (cs : List V) (off : Nat) : rd Try.prog 153 cs off = cs[off]? := by unfold rd; simp
@[simp] theorem cellsOf154 : Program.cellsOf Try.prog 154 = 1 := by kernel_rfl
@[simp] theorem info154 : Try.prog.info? 154 = some Try.t154 := by kernel_rfl
@[simp] theorem tsize154 : Try.t154.size = 1 := rfl
@[simp] theorem tbytes154 : Try.t154.bytes = 8 := rfl
@[simp] theorem zeroV154 : zeroV Try.prog 154 = some (.nilf) := by kernel_rfl
theorem tz154 : (Try.t154.zero).map (fun z => z.cells.size) = some 1 := by kernel_rfl
@[simp] theorem tzero154 : ∃ z, Try.t154.zero = some z ∧ z.cells.size = 1 := by have h := tz154; cases hz : Try.t154.zero with | none => rw [hz] at h; cases h | some z => rw [hz] at h; exact ⟨z, rfl, by simpa using h⟩
@[simp] theorem rd154 (cs : List V) (off : Nat) : rd Try.prog 154 cs off = cs[off]? := by unfold rd; simp
@[simp] theorem cellsOf155 : Program.cellsOf Try.prog 155 = 1 := by kernel_rfl
@[simp] theorem info155 : Try.prog.info? 155 = some Try.t155 := by kernel_rfl
@[simp] theorem tsize155 : Try.t155.size = 1 := rfl
@[simp] theorem tbytes155 : Try.t155.bytes = 8 := rfl
@[simp] theorem zeroV155 : zeroV Try.prog 155 = some (.nilf) := by kernel_rfl
theorem tz155 : (Try.t155.zero).map (fun z => z.cells.size) = some 1 := by kernel_rfl
@[simp] theorem tzero155 : ∃ z, Try.t155.zero = some z ∧ z.cells.size = 1 := by have h := tz155; cases hz : Try.t155.zero with | none => rw [hz] at h; cases h | some z => rw [hz] at h; exact ⟨z, rfl, by simpa using h⟩
@[simp] theorem rd155 (cs : List V) (off : Nat) : rd Try.prog 155 cs off = cs[off]? := by unfold rd; simp
@[simp] theorem cellsOf157 : Program.cellsOf Try.prog 157 = 1 := by kernel_rfl
@[simp] theorem info157 : Try.prog.info? 157 = some Try.t157 := by kernel_rfl
@[simp] theorem tsize157 : Try.t157.size = 1 := rfl
@[simp] theorem tbytes157 : Try.t157.bytes = 8 := rfl
@[simp] theorem zeroV157 : zeroV Try.prog 157 = some (.nilf) := by kernel_rfl
theorem tz157 : (Try.t157.zero).map (fun z => z.cells.size) = some 1 := by kernel_rfl
@[simp] theorem tzero157 : ∃ z, Try.t157.zero = some z ∧ z.cells.size = 1 := by have h := tz157; cases hz : Try.t157.zero with | none => rw [hz] at h; cases h | some z => rw [hz] at h; exact ⟨z, rfl, by simpa using h⟩
@[simp] theorem rd157 (cs : List V) (off : Nat) : rd Try.prog 157 cs off = cs[off]? := by unfold rd; simp
@[simp] theorem cellsOf159 : Program.cellsOf Try.prog 159 = 1 := by kernel_rfl
@[simp] theorem info159 : Try.prog.info? 159 = some Try.t159 := by kernel_rfl
@[simp] theorem tsize159 : Try.t159.size = 1 := rfl
@[simp] theorem tbytes159 : Try.t159.bytes = 8 := rfl
@[simp] theorem zeroV159 : zeroV Try.prog 159 = some (.nilf) := by kernel_rfl
theorem tz159 : (Try.t159.zero).map (fun z => z.cells.size) = some 1 := by kernel_rfl
@[simp] theorem tzero159 : ∃ z, Try.t159.zero = some z ∧ z.cells.size = 1 := by have h := tz159; cases hz : Try.t159.zero with | none => rw [hz] at h; cases h | some z => rw [hz] at h; exact ⟨z, rfl, by simpa using h⟩
@[simp] theorem rd159 (cs : List V) (off : Nat) : rd Try.prog 159 cs off = cs[off]? := by unfold rd; simp
@[simp] theorem cellsOf160 : Program.cellsOf Try.prog 160 = 1 := by kernel_rfl
@[simp] theorem info160 : Try.prog.info? 160 = some Try.t160 := by kernel_rfl
@[simp] theorem tsize160 : Try.t160.size = 1 := rfl
@[simp] theorem tbytes160 : Try.t160.bytes = 8 := rfl
@[simp] theorem zeroV160 : zeroV Try.prog 160 = some (.nilf) := by kernel_rfl
theorem tz160 : (Try.t160.zero).map (fun z => z.cells.size) = some 1 := by kernel_rfl
@[simp] theorem tzero160 : ∃ z, Try.t160.zero = some z ∧ z.cells.size = 1 := by have h := tz160; cases hz : Try.t160.zero with | none => rw [hz] at h; cases h | some z => rw [hz] at h; exact ⟨z, rfl, by simpa using h⟩
@[simp] theorem rd160 (cs : List V) (off : Nat) : rd Try.prog 160 cs off = cs[off]? := by unfold rd; simp
@[simp] theorem cellsOf161 : Program.cellsOf Try.prog 161 = 1 := by kernel_rfl
@[simp] theorem info161 : Try.prog.info? 161 = some Try.t161 := by kernel_rfl
@[simp] theorem tsize161 : Try.t161.size = 1 := rfl
@[simp] theorem tbytes161 : Try.t161.bytes = 8 := rfl
@[simp] theorem zeroV161 : zeroV Try.prog 161 = some (.nilf) := by kernel_rfl
theorem tz161 : (Try.t161.zero).map (fun z => z.cells.size) = some 1 := by kernel_rfl
@[simp] theorem tzero161 : ∃ z, Try.t161.zero = some z ∧ z.cells.size = 1 := by have h := tz161; cases hz : Try.t161.zero with | none => rw [hz] at h; cases h | some z => rw [hz] at h; exact ⟨z, rfl, by simpa using h⟩
@[simp] theorem rd161 (cs : List V) (off : Nat) : rd Try.prog 161 cs off = cs[off]? := by unfold rd; simp
@[simp] theorem cellsOf162 : Program.cellsOf Try.prog 162 = 1 := by kernel_rfl
@[simp] theorem info162 : Try.prog.info? 162 = some Try.t162 := by kernel_rfl
@[simp] theorem tsize162 : Try.t162.size = 1 := rfl
@[simp] theorem tbytes162 : Try.t162.bytes = 8 := rfl
@[simp] theorem zeroV162 : zeroV Try.prog 162 = some (.nilf) := by kernel_rfl
theorem tz162 : (Try.t162.zero).map (fun z => z.cells.size) = some 1 := by kernel_rfl
@[simp] theorem tzero162 : ∃ z, Try.t162.zero = some z ∧ z.cells.size = 1 := by have h := tz162; cases hz : Try.t162.zero with | none => rw [hz] at h; cases h | some z => rw [hz] at h; exact ⟨z, rfl, by simpa using h⟩
@[simp] theorem rd162 (cs : List V) (off : Nat) : rd Try.prog 162 cs off = cs[off]? := by unfold rd; simp
@[simp] theorem cellsOf163 : Program.cellsOf Try.prog 163 = 1 := by kernel_rfl
@[simp] theorem info163 : Try.prog.info? 163 = some Try.t163 := by kernel_rfl
@[simp] theorem tsize163 : Try.t163.size = 1 := rfl
@[simp] theorem tbytes163 : Try.t163.bytes = 8 := rfl
@[simp] theorem zeroV163 : zeroV Try.prog 163 = some (.nilf) := by kernel_rfl
theorem tz163 : (Try.t163.zero).map (fun z => z.cells.size) = some 1 := by kernel_rfl
@[simp] theorem tzero163 : ∃ z, Try.t163.zero = some z ∧ z.cells.size = 1 := by have h := tz163; cases hz : Try.t163.zero with | none => rw [hz] at h; cases h | some z => rw [hz] at h; exact ⟨z, rfl, by simpa using h⟩
@[simp] theorem rd163 (cs : List V) (off : Nat) : rd Try.prog 163 cs off = cs[off]? := by unfold rd; simp
@[simp] theorem cellsOf164 : Program.cellsOf Try.prog 164 = 1 := by kernel_rfl
@[simp] theorem info164 : Try.prog.info? 164 = some Try.t164 := by kernel_rfl
@[simp] theorem tsize164 : Try.t164.size = 1 := rfl
@[simp] theorem tbytes164 : Try.t164.bytes = 8 := rfl
@[simp] theorem zeroV164 : zeroV Try.prog 164 = some (.nilf) := by kernel_rfl
theorem tz164 : (Try.t164.zero).map (fun z => z.cells.size) = some 1 := by kernel_rfl
@[simp] theorem tzero164 : ∃ z, Try.t164.zero = some z ∧ z.cells.size = 1 := by have h := tz164; cases hz : Try.t164.zero with | none => rw [hz] at h; cases h | some z => rw [hz] at h; exact ⟨z, rfl, by simpa using h⟩
@[simp] theorem rd164 (cs : List V) (off : Nat) : rd Try.prog 164 cs off = cs[off]? := by unfold rd; simp
@[simp] theorem cellsOf165 : Program.cellsOf Try.prog 165 = 1 := by kernel_rfl
@[simp] theorem info165 : Try.prog.info? 165 = some Try.t165 := by kernel_rfl
@[simp] theorem tsize165 : Try.t165.size = 1 := rfl
@[simp] theorem tbytes165 : Try.t165.bytes = 8 := rfl
@[simp] theorem zeroV165 : zeroV Try.prog 165 = some (.nilf) := by kernel_rfl
theorem tz165 : (Try.t165.zero).map (fun z => z.cells.size) = some 1 := by kernel_rfl
@[simp] theorem tzero165 : ∃ z, Try.t165.zero = some z ∧ z.cells.size = 1 := by have h := tz165; cases hz : Try.t165.zero with | none => rw [hz] at h; cases h | some z => rw [hz] at h; exact ⟨z, rfl, by simpa using h⟩
@[simp] theorem rd165 (cs : List V) (off : Nat) : rd Try.prog 165 cs off = cs[off]? := by unfold rd; simp
@[simp] theorem cellsOf166 : Program.cellsOf Try.prog 166 = 1 := by kernel_rfl
@[simp] theorem info166 : Try.prog.info? 166 = some Try.t166 := by kernel_rfl
@[simp] theorem tsize166 : Try.t166.size = 1 := rfl
@[simp] theorem tbytes166 : Try.t166.bytes = 8 := rfl
@[simp] theorem zeroV166 : zeroV Try.prog 166 = some (.nilf) := by kernel_rfl
theorem tz166 : (Try.t166.zero).map (fun z => z.cells.size) = some 1 := by kernel_rfl
@[simp] theorem tzero166 : ∃ z, Try.t166.zero = some z ∧ z.cells.size = 1 := by have h := tz166; cases hz : Try.t166.zero with | none => rw [hz] at h; cases h | some z => rw [hz] at h; exact ⟨z, rfl, by simpa using h⟩
@[simp] theorem rd166 (cs : List V) (off : Nat) : rd Try.prog 166 cs off = cs[off]? := by unfold rd; simp
@[simp] theorem cellsOf167 : Program.cellsOf Try.prog 167 = 1 := by kernel_rfl
@[simp] theorem info167 : Try.prog.info? 167 = some Try.t167 := by kernel_rfl
@[simp] theorem tsize167 : Try.t167.size = 1 := rfl
@[simp] theorem tbytes167 : Try.t167.bytes = 8 := rfl
@[simp] theorem zeroV167 : zeroV Try.prog 167 = some (.nilf) := by kernel_rfl
theorem tz167 : (Try.t167.zero).map (fun z => z.cells.size) = some 1 := by kernel_rfl
@[simp] theorem tzero167 : ∃ z, Try.t167.zero = some z ∧ z.cells.size = 1 := by have h := tz167; cases hz : Try.t167.zero with | none => rw [hz] at h; cases h | some z => rw [hz] at h; exact ⟨z, rfl, by simpa using h⟩
@[simp] theorem rd167 (cs : List V) (off : Nat) : rd Try.prog 167 cs off = cs[off]? := by unfold rd; simp
@[simp] theorem cellsOf168 : Program.cellsOf Try.prog 168 = 1 := by kernel_rfl
@[simp] theorem info168 : Try.prog.info? 168 = some Try.t168 := by kernel_rfl
@[simp] theorem tsize168 : Try.t168.size = 1 := rfl
@[simp] theorem tbytes168 : Try.t168.bytes = 8 := rfl
@[simp] theorem zeroV168 : zeroV Try.prog 168 = some (.int .u64 0) := by kernel_rfl
theorem tz168 : (Try.t168.zero).map (fun z => z.cells.size) = some 1 := by kernel_rfl
@[simp] theorem tzero168 : ∃ z, Try.t168.zero = some z ∧ z.cells.size = 1 := by have h := tz168; cases hz : Try.t168.zero with | none => rw [hz] at h; cases h | some z => rw [hz] at h; exact ⟨z, rfl, by simpa using h⟩
@[simp] theorem rd168 (cs : List V) (off : Nat) : rd Try.prog 168 cs off = cs[off]? := by unfold rd; simp
@[simp] theorem cellsOf172 : Program.cellsOf Try.prog 172 = 1 := by kernel_rfl
@[simp] theorem info172 : Try.prog.info? 172 = some Try.t172 := by kernel_rfl
@[simp] theorem tsize172 : Try.t172.size = 1 := rfl
@[simp] theorem tbytes172 : Try.t172.bytes = 8 := rfl
@[simp] theorem zeroV172 : zeroV Try.prog 172 = some (.nilp) := by kernel_rfl
theorem tz172 : (Try.t172.zero).map (fun z => z.cells.size) = some 1 := by kernel_rfl
@[simp] theorem tzero172 : ∃ z, Try.t172.zero = some z ∧ z.cells.size = 1 := by have h := tz172; cases hz : Try.t172.zero with | none => rw [hz] at h; cases h | some z => rw [hz] at h; exact ⟨z, rfl, by simpa using h⟩
@[simp] theorem rd172 (cs : List V) (off : Nat) : rd Try.prog 172 cs off = cs[off]? := by unfold rd; simp
@[simp] theorem cellsOf178 : Program.cellsOf Try.prog 178 = 1 := by kernel_rfl
@[simp] theorem info178 : Try.prog.info? 178 = some Try.t178 := by kernel_rfl
@[simp] theorem tsize178 : Try.t178.size = 1 := rfl
@[simp] theorem tbytes178 : Try.t178.bytes = 8 := rfl
@[simp] theorem zeroV178 : zeroV Try.prog 178 = some (.nilf) := by kernel_rfl
theorem tz178 : (Try.t178.zero).map (fun z => z.cells.size) = some 1 := by kernel_rfl
@[simp] theorem tzero178 : ∃ z, Try.t178.zero = some z ∧ z.cells.size = 1 := by have h := tz178; cases hz : Try.t178.zero with | none => rw [hz] at h; cases h | some z => rw [hz] at h; exact ⟨z, rfl, by simpa using h⟩
@[simp] theorem rd178 (cs : List V) (off : Nat) : rd Try.prog 178 cs off = cs[off]? := by unfold rd; simp
@[simp] theorem cellsOf179 : Program.cellsOf Try.prog 179 = 9 := by kernel_rfl
@[simp] theorem info179 : Try.prog.info? 179 = some Try.t179 := by kernel_rfl
@[simp] theorem tsize179 : Try.t179.size = 9 := rfl
@[simp] theorem tbytes179 : Try.t179.bytes = 72 := rfl
@[simp] theorem zeroV179 : zeroV Try.prog 179 = some (.agg [.int .i64 0, .int .i64 0, .int .i64 0, .int .i64 0, .int .i64 0, .int .i64 0, .int .i64 0, .int .i64 0, .int .i64 0]) := by kernel_rfl
theorem tz179 : (Try.t179.zero).map (fun z => z.cells.size) = some 9 := by kernel_rfl
@[simp] theorem tzero179 : ∃ z, Try.t179.zero = some z ∧ z.cells.size = 9 := by have h := tz179; cases hz : Try.t179.zero with | none => rw [hz] at h; cases h | some z => rw [hz] at h; exact ⟨z, rfl, by simpa using h⟩
@[simp] theorem rd179 (cs : List V) (off : Nat) : rd Try.prog 179 cs off = if off + 9 ≤ cs.length then some (.agg ((cs.drop off).take 9)) else none := by unfold rd; simp
@[simp] theorem cellsOf186 : Program.cellsOf Try.prog 186 = 1 := by kernel_rfl
@[simp] theorem info186 : Try.prog.info? 186 = some Try.t186 := by kernel_rfl
@[simp] theorem tsize186 : Try.t186.size = 1 := rfl
@[simp] theorem tbytes186 : Try.t186.bytes = 8 := rfl
@[simp] theorem zeroV186 : zeroV Try.prog 186 = some (.nilp) := by kernel_rfl
theorem tz186 : (Try.t186.zero).map (fun z => z.cells.size) = some 1 := by kernel_rfl
@[simp] theorem tzero186 : ∃ z, Try.t186.zero = some z ∧ z.cells.size = 1 := by have h := tz186; cases hz : Try.t186.zero with | none => rw [hz] at h; cases h | some z => rw [hz] at h; exact ⟨z, rfl, by simpa using h⟩
@[simp] theorem rd186 (cs : List V) (off : Nat) : rd Try.prog 186 cs off = cs[off]? := by unfold rd; simp
@[simp] theorem cellsOf196 : Program.cellsOf Try.prog 196 = 4 := by kernel_rfl
@[simp] theorem info196 : Try.prog.info? 196 = some Try.t196 := by kernel_rfl
@[simp] theorem tsize196 : Try.t196.size = 4 := rfl
@[simp] theorem tbytes196 : Try.t196.bytes = 40 := rfl
@[simp] theorem zeroV196 : zeroV Try.prog 196 = some (.agg [.nilp, .nilp, .nilp, .str []]) := by kernel_rfl
theorem tz196 : (Try.t196.zero).map (fun z => z.cells.size) = some 4 := by kernel_rfl
@[simp] theorem tzero196 : ∃ z, Try.t196.zero = some z ∧ z.cells.size = 4 := by have h := tz196; cases hz : Try.t196.zero with | none => rw [hz] at h; cases h | some z => rw [hz] at h; exact ⟨z, rfl, by simpa using h⟩
@[simp] theorem rd196 (cs : List V) (off : Nat) : rd Try.prog 196 cs off = if off + 4 ≤ cs.length then some (.agg ((cs.drop off).take 4)) else none := by unfold rd; simp
@[simp] theorem fo196_0 : fieldOff Try.prog 196 0 = some 0 := by kernel_rfl
@[simp] theorem pf196_0 (cs : List V) : pField Try.prog 196 0 (.agg cs) = rd Try.prog 17 cs 0 := by unfold pField; simp
@[simp] theorem fo196_1 : fieldOff Try.prog 196 1 = some 1 := by kernel_rfl
@[simp] theorem pf196_1 (cs : List V) : pField Try.prog 196 1 (.agg cs) = rd Try.prog 17 cs 1 := by unfold pField; simp
@[simp] theorem fo196_2 : fieldOff Try.prog 196 2 = some 2 := by kernel_rfl
@[simp] theorem pf196_2 (cs : List V) : pField Try.prog 196 2 (.agg cs) = rd Try.prog 17 cs 2 := by unfold pField; simp
@[simp] theorem fo196_3 : fieldOff Try.prog 196 3 = some 3 := by kernel_rfl
@[simp] theorem pf196_3 (cs : List V) : pField Try.prog 196 3 (.agg cs) = rd Try.prog 9 cs 3 := by unfold pField; simp
@[simp] theorem cellsOf197 : Program.cellsOf Try.prog 197 = 4 := by kernel_rfl
@[simp] theorem info197 : Try.prog.info? 197 = some Try.t197 := by kernel_rfl
@[simp] theorem tsize197 : Try.t197.size = 4 := rfl
@[simp] theorem tbytes197 : Try.t197.bytes = 40 := rfl
@[simp] theorem zeroV197 : zeroV Try.prog 197 = some (.agg [.nilp, .nilp, .nilp, .str []]) := by kernel_rfl
theorem tz197 : (Try.t197.zero).map (fun z => z.cells.size) = some 4 := by kernel_rfl
@[simp] theorem tzero197 : ∃ z, Try.t197.zero = some z ∧ z.cells.size = 4 := by have h := tz197; cases hz : Try.t197.zero with | none => rw [hz] at h; cases h | some z => rw [hz] at h; exact ⟨z, rfl, by simpa using h⟩
@[simp] theorem rd197 (cs : List V) (off : Nat) : rd Try.prog 197 cs off = if off + 4 ≤ cs.length then some (.agg ((cs.drop off).take 4)) else none := by unfold rd; simp
@[simp] theorem fo197_0 : fieldOff Try.prog 197 0 = some 0 := by kernel_rfl
@[simp] theorem pf197_0 (cs : List V) : pField Try.prog 197 0 (.agg cs) = rd Try.prog 17 cs 0 := by unfold pField; simp
@[simp] theorem fo197_1 : fieldOff Try.prog 197 1 = some 1 := by kernel_rfl
@[simp] theorem pf197_1 (cs : List V) : pField Try.prog 197 1 (.agg cs) = rd Try.prog 17 cs 1 := by unfold pField; simp
@[simp] theorem fo197_2 : fieldOff Try.prog 197 2 = some 2 := by kernel_rfl
@[simp] theorem pf197_2 (cs : List V) : pField Try.prog 197 2 (.agg cs) = rd Try.prog 17 cs 2 := by unfold pField; simp
@[simp] theorem fo197_3 : fieldOff Try.prog 197 3 = some 3 := by kernel_rfl
@[simp] theorem pf197_3 (cs : List V) : pField Try.prog 197 3 (.agg cs) = rd Try.prog 9 cs 3 := by unfold pField; simp
@[simp] theorem cellsOf198 : Program.cellsOf Try.prog 198 = 0 := by kernel_rfl
@[simp] theorem info198 : Try.prog.info? 198 = some Try.t198 := by kernel_rfl
@[simp] theorem tsize198 : Try.t198.size = 0 := rfl
@[simp] theorem tbytes198 : Try.t198.bytes = 0 := rfl
@[simp] theorem zeroV198 : zeroV Try.prog 198 = some (.agg []) := by kernel_rfl
theorem tz198 : (Try.t198.zero).map (fun z => z.cells.size) = some 0 := by kernel_rfl
@[simp] theorem tzero198 : ∃ z, Try.t198.zero = some z ∧ z.cells.size = 0 := by have h := tz198; cases hz : Try.t198.zero with | none => rw [hz] at h; cases h | some z => rw [hz] at h; exact ⟨z, rfl, by simpa using h⟩
@[simp] theorem rd198 (cs : List V) (off : Nat) : rd Try.prog 198 cs off = if off + 0 ≤ cs.length then some (.agg ((cs.drop off).take 0)) else none := by unfold rd; simp
@[simp] theorem cellsOf199 : Program.cellsOf Try.prog 199 = 0 := by kernel_rfl
@[simp] theorem info199 : Try.prog.info? 199 = some Try.t199 := by kernel_rfl
@[simp] theorem tsize199 : Try.t199.size = 0 := rfl
@[simp] theorem tbytes199 : Try.t199.bytes = 0 := rfl
@[simp] theorem zeroV199 : zeroV Try.prog 199 = some (.agg []) := by kernel_rfl
theorem tz199 : (Try.t199.zero).map (fun z => z.cells.size) = some 0 := by kernel_rfl
@[simp] theorem tzero199 : ∃ z, Try.t199.zero = some z ∧ z.cells.size = 0 := by have h := tz199; cases hz : Try.t199.zero with | none => rw [hz] at h; cases h | some z => rw [hz] at h; exact ⟨z, rfl, by simpa using h⟩
@[simp] theorem rd199 (cs : List V) (off : Nat) : rd Try.prog 199 cs off = if off + 0 ≤ cs.length then some (.agg ((cs.drop off).take 0)) else none := by unfold rd; simp
@[simp] theorem pf199_0 (cs : List V) : pField Try.prog 199 0 (.agg cs) = rd Try.prog 198 cs 0 := by unfold pField; simp
@[simp] theorem cellsOf200 : Program.cellsOf Try.prog 200 = 0 := by kernel_rfl
@[simp] theorem info200 : Try.prog.info? 200 = some Try.t200 := by kernel_rfl
@[simp] theorem tsize200 : Try.t200.size = 0 := rfl
@[simp] theorem tbytes200 : Try.t200.bytes = 0 := rfl
@[simp] theorem zeroV200 : zeroV Try.prog 200 = some (.agg []) := by kernel_rfl
theorem tz200 : (Try.t200.zero).map (fun z => z.cells.size) = some 0 := by kernel_rfl
@[simp] theorem tzero200 : ∃ z, Try.t200.zero = some z ∧ z.cells.size = 0 := by have h := tz200; cases hz : Try.t200.zero with | none => rw [hz] at h; cases h | some z => rw [hz] at h; exact ⟨z, rfl, by simpa using h⟩
@[simp] theorem rd200 (cs : List V) (off : Nat) : rd Try.prog 200 cs off = if off + 0 ≤ cs.length then some (.agg ((cs.drop off).take 0)) else none := by unfold rd; simp
@[simp] theorem pf200_0 (cs : List V) : pField Try.prog 200 0 (.agg cs) = rd Try.prog 198 cs 0 := by unfold pField; simp
@[simp] theorem cellsOf202 : Program.cellsOf Try.prog 202 = 1 := by kernel_rfl
@[simp] theorem info202 : Try.prog.info? 202 = some Try.t202 := by kernel_rfl
@[simp] theorem tsize202 : Try.t202.size = 1 := rfl
@[simp] theorem tbytes202 : Try.t202.bytes = 1 := rfl
@[simp] theorem zeroV202 : zeroV Try.prog 202 = some (.int .u8 0) := by kernel_rfl
theorem tz202 : (Try.t202.zero).map (fun z => z.cells.size) = some 1 := by kernel_rfl
@[simp] theorem tzero202 : ∃ z, Try.t202.zero = some z ∧ z.cells.size = 1 := by have h := tz202; cases hz : Try.t202.zero with | none => rw [hz] at h; cases h | some z => rw [hz] at h; exact ⟨z, rfl, by simpa using h⟩
@[simp] theorem rd202 (cs : List V) (off : Nat) : rd Try.prog 202 cs off = cs[off]? := by unfold rd; simp
@[simp] theorem cellsOf203 : Program.cellsOf Try.prog 203 = 1 := by kernel_rfl
@[simp] theorem info203 : Try.prog.info? 203 = some Try.t203 := by kernel_rfl
@[simp] theorem tsize203 : Try.t203.size = 1 := rfl
@[simp] theorem tbytes203 : Try.t203.bytes = 1 := rfl
@[simp] theorem zeroV203 : zeroV Try.prog 203 = some (.int .u8 0) := by kernel_rfl
theorem tz203 : (Try.t203.zero).map (fun z => z.cells.size) = some 1 := by kernel_rfl
@[simp] theorem tzero203 : ∃ z, Try.t203.zero = some z ∧ z.cells.size = 1 := by have h := tz203; cases hz : Try.t203.zero with | none => rw [hz] at h; cases h | some z => rw [hz] at h; exact ⟨z, rfl, by simpa using h⟩
@[simp] theorem rd203 (cs : List V) (off : Nat) : rd Try.prog 203 cs off = cs[off]? := by unfold rd; simp
@[simp] theorem cellsOf204 : Program.cellsOf Try.prog 204 = 1 := by kernel_rfl
@[simp] theorem info204 : Try.prog.info? 204 = some Try.t204 := by kernel_rfl
@[simp] theorem tsize204 : Try.t204.size = 1 := rfl
@[simp] theorem tbytes204 : Try.t204.bytes = 8 := rfl
@[simp] theorem zeroV204 : zeroV Try.prog 204 = some (.nilf) := by kernel_rfl
theorem tz204 : (Try.t204.zero).map (fun z => z.cells.size) = some 1 := by kernel_rfl
@[simp] theorem tzero204 : ∃ z, Try.t204.zero = some z ∧ z.cells.size = 1 := by have h := tz204; cases hz : Try.t204.zero with | none => rw [hz] at h; cases h | some z => rw [hz] at h; exact ⟨z, rfl, by simpa using h⟩
@[simp] theorem rd204 (cs : List V) (off : Nat) : rd Try.prog 204 cs off = cs[off]? := by unfold rd; simp
@[simp] theorem cellsOf205 : Program.cellsOf Try.prog 205 = 1 := by kernel_rfl
@[simp] theorem info205 : Try.prog.info? 205 = some Try.t205 := by kernel_rfl
@[simp] theorem tsize205 : Try.t205.size = 1 := rfl
@[simp] theorem tbytes205 : Try.t205.bytes = 8 := rfl
@[simp] theorem zeroV205 : zeroV Try.prog 205 = some (.nilp) := by kernel_rfl
theorem tz205 : (Try.t205.zero).map (fun z => z.cells.size) = some 1 := by kernel_rfl
@[simp] theorem tzero205 : ∃ z, Try.t205.zero = some z ∧ z.cells.size = 1 := by have h := tz205; cases hz : Try.t205.zero with | none => rw [hz] at h; cases h | some z => rw [hz] at h; exact ⟨z, rfl, by simpa using h⟩
@[simp] theorem rd205 (cs : List V) (off : Nat) : rd Try.prog 205 cs off = cs[off]? := by unfold rd; simp
@[simp] theorem cellsOf206 : Program.cellsOf Try.prog 206 = 1 := by kernel_rfl
@[simp] theorem info206 : Try.prog.info? 206 = some Try.t206 := by kernel_rfl
@[simp] theorem tsize206 : Try.t206.size = 1 := rfl
@[simp] theorem tbytes206 : Try.t206.bytes = 4 := rfl
@[simp] theorem zeroV206 : zeroV Try.prog 206 = some (.int .i32 0) := by kernel_rfl
theorem tz206 : (Try.t206.zero).map (fun z => z.cells.size) = some 1 := by kernel_rfl
@[simp] theorem tzero206 : ∃ z, Try.t206.zero = some z ∧ z.cells.size = 1 := by have h := tz206; cases hz : Try.t206.zero with | none => rw [hz] at h; cases h | some z => rw [hz] at h; exact ⟨z, rfl, by simpa using h⟩
@[simp] theorem rd206 (cs : List V) (off : Nat) : rd Try.prog 206 cs off = cs[off]? := by unfold rd; simp
@[simp] theorem cellsOf207 : Program.cellsOf Try.prog 207 = 1 := by kernel_rfl
@[simp] theorem info207 : Try.prog.info? 207 = some Try.t207 := by kernel_rfl
@[simp] theorem tsize207 : Try.t207.size = 1 := rfl
@[simp] theorem tbytes207 : Try.t207.bytes = 4 := rfl
@[simp] theorem zeroV207 : zeroV Try.prog 207 = some (.int .i32 0) := by kernel_rfl
theorem tz207 : (Try.t207.zero).map (fun z => z.cells.size) = some 1 := by kernel_rfl
@[simp] theorem tzero207 : ∃ z, Try.t207.zero = some z ∧ z.cells.size = 1 := by have h := tz207; cases hz : Try.t207.zero with | none => rw [hz] at h; cases h | some z => rw [hz] at h; exact ⟨z, rfl, by simpa using h⟩
@[simp] theorem rd207 (cs : List V) (off : Nat) : rd Try.prog 207 cs off = cs[off]? := by unfold rd; simp
@[simp] theorem cellsOf208 : Program.cellsOf Try.prog 208 = 11 := by kernel_rfl
@[simp] theorem info208 : Try.prog.info? 208 = some Try.t208 := by kernel_rfl
@[simp] theorem tsize208 : Try.t208.size = 11 := rfl
@[simp] theorem tbytes208 : Try.t208.bytes = 48 := rfl
@[simp] theorem zeroV208 : zeroV Try.prog 208 = some (.agg [.int .u64 0, .int .u64 0, .int .u32 0, .int .u8 0, .int .u8 0, .int .u8 0, .int .u8 0, .nilf, .nilp, .int .i32 0, .int .i32 0]) := by kernel_rfl
theorem tz208 : (Try.t208.zero).map (fun z => z.cells.size) = some 11 := by kernel_rfl
@[simp] theorem tzero208 : ∃ z, Try.t208.zero = some z ∧ z.cells.size = 11 := by have h := tz208; cases hz : Try.t208.zero with | none => rw [hz] at h; cases h | some z => rw [hz] at h; exact ⟨z, rfl, by simpa using h⟩
@[simp] theorem rd208 (cs : List V) (off : Nat) : rd Try.prog 208 cs off = if off + 11 ≤ cs.length then some (.agg ((cs.drop off).take 11)) else none := by unfold rd; simp
@[simp] theorem fo208_0 : fieldOff Try.prog 208 0 = some 0 := by kernel_rfl
@[simp] theorem pf208_0 (cs : List V) : pField Try.prog 208 0 (.agg cs) = rd Try.prog 12 cs 0 := by unfold pField; simp
@[simp] theorem fo208_1 : fieldOff Try.prog 208 1 = some 1 := by kernel_rfl
@[simp] theorem pf208_1 (cs : List V) : pField Try.prog 208 1 (.agg cs) = rd Try.prog 12 cs 1 := by unfold pField; simp
@[simp] theorem fo208_2 : fieldOff Try.prog 208 2 = some 2 := by kernel_rfl
@[simp] theorem pf208_2 (cs : List V) : pField Try.prog 208 2 (.agg cs) = rd Try.prog 146 cs 2 := by unfold pField; simp
@[simp] theorem fo208_3 : fieldOff Try.prog 208 3 = some 3 := by kernel_rfl
@[simp] theorem pf208_3 (cs : List V) : pField Try.prog 208 3 (.agg cs) = rd Try.prog 202 cs 3 := by unfold pField; simp
@[simp] theorem fo208_4 : fieldOff Try.prog 208 4 = some 4 := by kernel_rfl
@[simp] theorem pf208_4 (cs : List V) : pField Try.prog 208 4 (.agg cs) = rd Try.prog 5 cs 4 := by unfold pField; simp
@[simp] theorem fo208_5 : fieldOff Try.prog 208 5 = some 5 := by kernel_rfl
@[simp] theorem pf208_5 (cs : List V) : pField Try.prog 208 5 (.agg cs) = rd Try.prog 5 cs 5 := by unfold pField; simp
@[simp] theorem fo208_6 : fieldOff Try.prog 208 6 = some 6 := by kernel_rfl
@[simp] theorem pf208_6 (cs : List V) : pField Try.prog 208 6 (.agg cs) = rd Try.prog 203 cs 6 := by unfold pField; simp
@[simp] theorem fo208_7 : fieldOff Try.prog 208 7 = some 7 := by kernel_rfl
@[simp] theorem pf208_7 (cs : List V) : pField Try.prog 208 7 (.agg cs) = rd Try.prog 204 cs 7 := by unfold pField; simp
@[simp] theorem fo208_8 : fieldOff Try.prog 208 8 = some 8 := by kernel_rfl
@[simp] theorem pf208_8 (cs : List V) : pField Try.prog 208 8 (.agg cs) = rd Try.prog 205 cs 8 := by unfold pField; simp
@[simp] theorem fo208_9 : fieldOff Try.prog 208 9 = some 9 := by kernel_rfl
@[simp] theorem pf208_9 (cs : List V) : pField Try.prog 208 9 (.agg cs) = rd Try.prog 206 cs 9 := by unfold pField; simp
@[simp] theorem fo208_10 : fieldOff Try.prog 208 10 = some 10 := by kernel_rfl
@[simp] theorem pf208_10 (cs : List V) : pField Try.prog 208 10 (.agg cs) = rd Try.prog 207 cs 10 := by unfold pField; simp
@[simp] theorem cellsOf209 : Program.cellsOf Try.prog 209 = 11 := by kernel_rfl
@[simp] theorem info209 : Try.prog.info? 209 = some Try.t209 := by kernel_rfl
@[simp] theorem tsize209 : Try.t209.size = 11 := rfl
@[simp] theorem tbytes209 : Try.t209.bytes = 48 := rfl
@[simp] theorem zeroV209 : zeroV Try.prog 209 = some (.agg [.int .u64 0, .int .u64 0, .int .u32 0, .int .u8 0, .int .u8 0, .int .u8 0, .int .u8 0, .nilf, .nilp, .int .i32 0, .int .i32 0]) := by kernel_rfl
theorem tz209 : (Try.t209.zero).map (fun z => z.cells.size) = some 11 := by kernel_rfl
@[simp] theorem tzero209 : ∃ z, Try.t209.zero = some z ∧ z.cells.size = 11 := by have h := tz209; cases hz : Try.t209.zero with | none => rw [hz] at h; cases h | some z => rw [hz] at h; exact ⟨z, rfl, by simpa using h⟩
@[simp] theorem rd209 (cs : List V) (off : Nat) : rd Try.prog 209 cs off = if off + 11 ≤ cs.length then some (.agg ((cs.drop off).take 11)) else none := by unfold rd; simp
@[simp] theorem fo209_0 : fieldOff Try.prog 209 0 = some 0 := by kernel_rfl
@[simp] theorem pf209_0 (cs : List V) : pField Try.prog 209 0 (.agg cs) = rd Try.prog 12 cs 0 := by unfold pField; simp
@[simp] theorem fo209_1 : fieldOff Try.prog 209 1 = some 1 := by kernel_rfl
@[simp] theorem pf209_1 (cs : List V) : pField Try.prog 209 1 (.agg cs) = rd Try.prog 12 cs 1 := by unfold pField; simp
@[simp] theorem fo209_2 : fieldOff Try.prog 209 2 = some 2 := by kernel_rfl
@[simp] theorem pf209_2 (cs : List V) : pField Try.prog 209 2 (.agg cs) = rd Try.prog 146 cs 2 := by unfold pField; simp
@[simp] theorem fo209_3 : fieldOff Try.prog 209 3 = some 3 := by kernel_rfl
@[simp] theorem pf209_3 (cs : List V) : pField Try.prog 209 3 (.agg cs) = rd Try.prog 202 cs 3 := by unfold pField; simp
@[simp] theorem fo209_4 : fieldOff Try.prog 209 4 = some 4 := by kernel_rfl
@[simp] theorem pf209_4 (cs : List V) : pField Try.prog 209 4 (.agg cs) = rd Try.prog 5 cs 4 := by unfold pField; simp
@[simp] theorem fo209_5 : fieldOff Try.prog 209 5 = some 5 := by kernel_rfl
@[simp] theorem pf209_5 (cs : List V) : pField Try.prog 209 5 (.agg cs) = rd Try.prog 5 cs 5 := by unfold pField; simp
@[simp] theorem fo209_6 : fieldOff Try.prog 209 6 = some 6 := by kernel_rfl
@[simp] theorem pf209_6 (cs : List V) : pField Try.prog 209 6 (.agg cs) = rd Try.prog 203 cs 6 := by unfold pField; simp
@[simp] theorem fo209_7 : fieldOff Try.prog 209 7 = some 7 := by kernel_rfl
@[simp] theorem pf209_7 (cs : List V) : pField Try.prog 209 7 (.agg cs) = rd Try.prog 204 cs 7 := by unfold pField; simp
@[simp] theorem fo209_8 : fieldOff Try.prog 209 8 = some 8 := by kernel_rfl
@[simp] theorem pf209_8 (cs : List V) : pField Try.prog 209 8 (.agg cs) = rd Try.prog 205 cs 8 := by unfold pField; simp
@[simp] theorem fo209_9 : fieldOff Try.prog 209 9 = some 9 := by kernel_rfl
@[simp] theorem pf209_9 (cs : List V) : pField Try.prog 209 9 (.agg cs) = rd Try.prog 206 cs 9 := by unfold pField; simp
@[simp] theorem fo209_10 : fieldOff Try.prog 209 10 = some 10 := by kernel_rfl
@[simp] theorem pf209_10 (cs : List V) : pField Try.prog 209 10 (.agg cs) = rd Try.prog 207 cs 10 := by unfold pField; simp
@[simp] theorem app22 (H : Heap) (s x : V) : hAppend Try.prog H 22 22 s x = match srcOf H 3 x with | some ys => appendTo H 30 3 s ys | none => none := by unfold hAppend; obtain ⟨z, h1, h2⟩ := tzero30; simp [h1, h2, notInt]; cases srcOf H 3 x <;> simp [h2]
@[simp] theorem app38 (H : Heap) (s x : V) : hAppend Try.prog H 38 38 s x = match srcOf H 13 x with | some ys => appendTo H 99 13 s ys | none => none := by unfold hAppend; obtain ⟨z, h1, h2⟩ := tzero99; simp [h1, h2, notInt]; cases srcOf H 13 x <;> simp [h2]
@[simp] theorem app44 (H : Heap) (s x : V) : hAppend Try.prog H 44 44 s x = match srcOf H 1 x with | some ys => appendTo H 9 1 s ys | none => none := by unfold hAppend; obtain ⟨z, h1, h2⟩ := tzero9; simp [h1, h2, notInt]; cases srcOf H 1 x <;> simp [h2]
@[simp] theorem app60 (H : Heap) (s x : V) : hAppend Try.prog H 60 60 s x = match srcOf H 5 x with | some ys => appendTo H 63 5 s ys | none => none := by unfold hAppend; obtain ⟨z, h1, h2⟩ := tzero63; simp [h1, h2, notInt]; cases srcOf H 5 x <;> simp [h2]
@[simp] theorem app68 (H : Heap) (s x : V) : hAppend Try.prog H 68 68 s x = match srcOf H 6 x with | some ys => appendTo H 42 6 s ys | none => none := by unfold hAppend; obtain ⟨z, h1, h2⟩ := tzero42; simp [h1, h2, notInt]; cases srcOf H 6 x <;> simp [h2]
@[simp] theorem app69 (H : Heap) (s x : V) : hAppend Try.prog H 69 69 s x = match srcOf H 1 x with | some ys => appendTo H 4 1 s ys | none => none := by unfold hAppend; obtain ⟨z, h1, h2⟩ := tzero4; simp [h1, h2, notInt]; cases srcOf H 1 x <;> simp [h2]
@[simp] theorem app74 (H : Heap) (s x : V) : hAppend Try.prog H 74 74 s x = match srcOf H 1 x with | some ys => appendTo H 3 1 s ys | none => none := by unfold hAppend; obtain ⟨z, h1, h2⟩ := tzero3; simp [h1, h2, notInt]; cases srcOf H 1 x <;> simp [h2]
@[simp] theorem app89 (H : Heap) (s x : V) : hAppend Try.prog H 89 89 s x = match srcOf H 6 x with | some ys => appendTo H 91 6 s ys | none => none := by unfold hAppend; obtain ⟨z, h1, h2⟩ := tzero91; simp [h1, h2, notInt]; cases srcOf H 6 x <;> simp [h2]
theorem sih30 : Try.prog.stoodInHeld 30 = false := by kernel_rfl
theorem eqg30 : Try.prog.eqGuardType Try.prog.depth 30 = false := by kernel_rfl
theorem eqA30 (a0 : List UInt8) (a1 : Int) (a2 : Int) (b0 : List UInt8) (b1 : Int) (b2 : Int) : eqv Try.prog 24 30 (.agg [.str a0, .int .i64 a1, .int .i64 a2]) (.agg [.str b0, .int .i64 b1, .int .i64 b2]) = some ((a0 == b0) && ((a1 == b1) && (a2 == b2))) := by simp [eqv, eqFs, Bool.and_assoc, sih30]
@[simp high] theorem eqS30 (a0 : List UInt8) (a1 : Int) (a2 : Int) (b0 : List UInt8) (b1 : Int) (b2 : Int) : pBin Try.prog .eql 30 (.agg [.str a0, .int .i64 a1, .int .i64 a2]) (.agg [.str b0, .int .i64 b1, .int .i64 b2]) = some (.bool ((a0 == b0) && ((a1 == b1) && (a2 == b2)))) := by unfold pBin; simp only [V.odd, plainEq, eqg30, eqA30]; rfl
@[simp high] theorem neS30 (a0 : List UInt8) (a1 : Int) (a2 : Int) (b0 : List UInt8) (b1 : Int) (b2 : Int) : pBin Try.prog .neq 30 (.agg [.str a0, .int .i64 a1, .int .i64 a2]) (.agg [.str b0, .int .i64 b1, .int .i64 b2]) = some (.bool (!((a0 == b0) && ((a1 == b1) && (a2 == b2))))) := by unfold pBin; simp only [V.odd, plainEq, eqg30, eqA30]; rfl
theorem sih88 : Try.prog.stoodInHeld 88 = false := by kernel_rfl
theorem eqg88 : Try.prog.eqGuardType Try.prog.depth 88 = false := by kernel_rfl
theorem eqA88 (a0 : Int) (a1 : Int) (b0 : Int) (b1 : Int) : eqv Try.prog 24 88 (.agg [.int .i64 a0, .int .i64 a1]) (.agg [.int .i64 b0, .int .i64 b1]) = some ((a0 == b0) && (a1 == b1)) := by simp [eqv, eqFs, Bool.and_assoc, sih88]
@[simp high] theorem eqS88 (a0 : Int) (a1 : Int) (b0 : Int) (b1 : Int) : pBin Try.prog .eql 88 (.agg [.int .i64 a0, .int .i64 a1]) (.agg [.int .i64 b0, .int .i64 b1]) = some (.bool ((a0 == b0) && (a1 == b1))) := by unfold pBin; simp only [V.odd, plainEq, eqg88, eqA88]; rfl
@[simp high] theorem neS88 (a0 : Int) (a1 : Int) (b0 : Int) (b1 : Int) : pBin Try.prog .neq 88 (.agg [.int .i64 a0, .int .i64 a1]) (.agg [.int .i64 b0, .int .i64 b1]) = some (.bool (!((a0 == b0) && (a1 == b1)))) := by unfold pBin; simp only [V.odd, plainEq, eqg88, eqA88]; rfl
end Go.Proofs.Try
