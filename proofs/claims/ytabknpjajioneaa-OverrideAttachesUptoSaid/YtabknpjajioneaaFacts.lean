import Derived.Test.YtabknpjajioneaaAbBin
import Derived.Test.YtabknpjajioneaaProg
namespace Go.Proofs.Try
open Go Go.Ab
set_option linter.unusedSimpArgs false
@[simp] theorem cellsOf1 : Program.cellsOf Try.prog 1 = 1 := by kernel_rfl
@[simp] theorem info1 : Try.prog.info? 1 = some Try.t1 := by kernel_rfl
@[simp] theorem tsize1 : Try.t1.size = 1 := rfl
@[simp] theorem tbytes1 : Try.t1.bytes = 8 := rfl
@[simp] theorem zeroV1 : zeroV Try.prog 1 = some (.nilf) := by kernel_rfl
theorem tz1 : (Try.t1.zero).map (fun z => z.cells.size) = some 1 := by kernel_rfl
@[simp] theorem tzero1 : ∃ z, Try.t1.zero = some z ∧ z.cells.size = 1 := by have h := tz1; cases hz : Try.t1.zero with | none => rw [hz] at h; cases h | some z => rw [hz] at h; exact ⟨z, rfl, by simpa using h⟩
@[simp] theorem rd1 (cs : List V) (off : Nat) : rd Try.prog 1 cs off = cs[off]? := by unfold rd; simp
@[simp] theorem cellsOf2 : Program.cellsOf Try.prog 2 = 1 := by kernel_rfl
@[simp] theorem info2 : Try.prog.info? 2 = some Try.t2 := by kernel_rfl
@[simp] theorem tsize2 : Try.t2.size = 1 := rfl
@[simp] theorem tbytes2 : Try.t2.bytes = 8 := rfl
@[simp] theorem zeroV2 : zeroV Try.prog 2 = some (.int .i64 0) := by kernel_rfl
theorem tz2 : (Try.t2.zero).map (fun z => z.cells.size) = some 1 := by kernel_rfl
@[simp] theorem tzero2 : ∃ z, Try.t2.zero = some z ∧ z.cells.size = 1 := by have h := tz2; cases hz : Try.t2.zero with | none => rw [hz] at h; cases h | some z => rw [hz] at h; exact ⟨z, rfl, by simpa using h⟩
@[simp] theorem rd2 (cs : List V) (off : Nat) : rd Try.prog 2 cs off = cs[off]? := by unfold rd; simp
@[simp] theorem cellsOf3 : Program.cellsOf Try.prog 3 = 1 := by kernel_rfl
@[simp] theorem info3 : Try.prog.info? 3 = some Try.t3 := by kernel_rfl
@[simp] theorem tsize3 : Try.t3.size = 1 := rfl
@[simp] theorem tbytes3 : Try.t3.bytes = 8 := rfl
@[simp] theorem zeroV3 : zeroV Try.prog 3 = some (.int .i64 0) := by kernel_rfl
theorem tz3 : (Try.t3.zero).map (fun z => z.cells.size) = some 1 := by kernel_rfl
@[simp] theorem tzero3 : ∃ z, Try.t3.zero = some z ∧ z.cells.size = 1 := by have h := tz3; cases hz : Try.t3.zero with | none => rw [hz] at h; cases h | some z => rw [hz] at h; exact ⟨z, rfl, by simpa using h⟩
@[simp] theorem rd3 (cs : List V) (off : Nat) : rd Try.prog 3 cs off = cs[off]? := by unfold rd; simp
@[simp] theorem cellsOf4 : Program.cellsOf Try.prog 4 = 1 := by kernel_rfl
@[simp] theorem info4 : Try.prog.info? 4 = some Try.t4 := by kernel_rfl
@[simp] theorem tsize4 : Try.t4.size = 1 := rfl
@[simp] theorem tbytes4 : Try.t4.bytes = 1 := rfl
@[simp] theorem zeroV4 : zeroV Try.prog 4 = some (.bool false) := by kernel_rfl
theorem tz4 : (Try.t4.zero).map (fun z => z.cells.size) = some 1 := by kernel_rfl
@[simp] theorem tzero4 : ∃ z, Try.t4.zero = some z ∧ z.cells.size = 1 := by have h := tz4; cases hz : Try.t4.zero with | none => rw [hz] at h; cases h | some z => rw [hz] at h; exact ⟨z, rfl, by simpa using h⟩
@[simp] theorem rd4 (cs : List V) (off : Nat) : rd Try.prog 4 cs off = cs[off]? := by unfold rd; simp
@[simp] theorem cellsOf5 : Program.cellsOf Try.prog 5 = 1 := by kernel_rfl
@[simp] theorem info5 : Try.prog.info? 5 = some Try.t5 := by kernel_rfl
@[simp] theorem tsize5 : Try.t5.size = 1 := rfl
@[simp] theorem tbytes5 : Try.t5.bytes = 1 := rfl
@[simp] theorem zeroV5 : zeroV Try.prog 5 = some (.int .u8 0) := by kernel_rfl
theorem tz5 : (Try.t5.zero).map (fun z => z.cells.size) = some 1 := by kernel_rfl
@[simp] theorem tzero5 : ∃ z, Try.t5.zero = some z ∧ z.cells.size = 1 := by have h := tz5; cases hz : Try.t5.zero with | none => rw [hz] at h; cases h | some z => rw [hz] at h; exact ⟨z, rfl, by simpa using h⟩
@[simp] theorem rd5 (cs : List V) (off : Nat) : rd Try.prog 5 cs off = cs[off]? := by unfold rd; simp
@[simp] theorem cellsOf6 : Program.cellsOf Try.prog 6 = 1 := by kernel_rfl
@[simp] theorem info6 : Try.prog.info? 6 = some Try.t6 := by kernel_rfl
@[simp] theorem tsize6 : Try.t6.size = 1 := rfl
@[simp] theorem tbytes6 : Try.t6.bytes = 1 := rfl
@[simp] theorem zeroV6 : zeroV Try.prog 6 = some (.int .u8 0) := by kernel_rfl
theorem tz6 : (Try.t6.zero).map (fun z => z.cells.size) = some 1 := by kernel_rfl
@[simp] theorem tzero6 : ∃ z, Try.t6.zero = some z ∧ z.cells.size = 1 := by have h := tz6; cases hz : Try.t6.zero with | none => rw [hz] at h; cases h | some z => rw [hz] at h; exact ⟨z, rfl, by simpa using h⟩
@[simp] theorem rd6 (cs : List V) (off : Nat) : rd Try.prog 6 cs off = cs[off]? := by unfold rd; simp
@[simp] theorem cellsOf7 : Program.cellsOf Try.prog 7 = 4 := by kernel_rfl
@[simp] theorem info7 : Try.prog.info? 7 = some Try.t7 := by kernel_rfl
@[simp] theorem tsize7 : Try.t7.size = 4 := rfl
@[simp] theorem tbytes7 : Try.t7.bytes = 24 := rfl
@[simp] theorem zeroV7 : zeroV Try.prog 7 = some (.agg [.int .i64 0, .int .i64 0, .bool false, .int .u8 0]) := by kernel_rfl
theorem tz7 : (Try.t7.zero).map (fun z => z.cells.size) = some 4 := by kernel_rfl
@[simp] theorem tzero7 : ∃ z, Try.t7.zero = some z ∧ z.cells.size = 4 := by have h := tz7; cases hz : Try.t7.zero with | none => rw [hz] at h; cases h | some z => rw [hz] at h; exact ⟨z, rfl, by simpa using h⟩
@[simp] theorem rd7 (cs : List V) (off : Nat) : rd Try.prog 7 cs off = if off + 4 ≤ cs.length then some (.agg ((cs.drop off).take 4)) else none := by unfold rd; simp
@[simp] theorem fo7_0 : fieldOff Try.prog 7 0 = some 0 := by kernel_rfl
@[simp] theorem pf7_0 (cs : List V) : pField Try.prog 7 0 (.agg cs) = rd Try.prog 2 cs 0 := by unfold pField; simp
@[simp] theorem fo7_1 : fieldOff Try.prog 7 1 = some 1 := by kernel_rfl
@[simp] theorem pf7_1 (cs : List V) : pField Try.prog 7 1 (.agg cs) = rd Try.prog 3 cs 1 := by unfold pField; simp
@[simp] theorem fo7_2 : fieldOff Try.prog 7 2 = some 2 := by kernel_rfl
@[simp] theorem pf7_2 (cs : List V) : pField Try.prog 7 2 (.agg cs) = rd Try.prog 4 cs 2 := by unfold pField; simp
@[simp] theorem fo7_3 : fieldOff Try.prog 7 3 = some 3 := by kernel_rfl
@[simp] theorem pf7_3 (cs : List V) : pField Try.prog 7 3 (.agg cs) = rd Try.prog 6 cs 3 := by unfold pField; simp
@[simp] theorem cellsOf8 : Program.cellsOf Try.prog 8 = 4 := by kernel_rfl
@[simp] theorem info8 : Try.prog.info? 8 = some Try.t8 := by kernel_rfl
@[simp] theorem tsize8 : Try.t8.size = 4 := rfl
@[simp] theorem tbytes8 : Try.t8.bytes = 24 := rfl
@[simp] theorem zeroV8 : zeroV Try.prog 8 = some (.agg [.int .i64 0, .int .i64 0, .bool false, .int .u8 0]) := by kernel_rfl
theorem tz8 : (Try.t8.zero).map (fun z => z.cells.size) = some 4 := by kernel_rfl
@[simp] theorem tzero8 : ∃ z, Try.t8.zero = some z ∧ z.cells.size = 4 := by have h := tz8; cases hz : Try.t8.zero with | none => rw [hz] at h; cases h | some z => rw [hz] at h; exact ⟨z, rfl, by simpa using h⟩
@[simp] theorem rd8 (cs : List V) (off : Nat) : rd Try.prog 8 cs off = if off + 4 ≤ cs.length then some (.agg ((cs.drop off).take 4)) else none := by unfold rd; simp
@[simp] theorem fo8_0 : fieldOff Try.prog 8 0 = some 0 := by kernel_rfl
@[simp] theorem pf8_0 (cs : List V) : pField Try.prog 8 0 (.agg cs) = rd Try.prog 2 cs 0 := by unfold pField; simp
@[simp] theorem fo8_1 : fieldOff Try.prog 8 1 = some 1 := by kernel_rfl
@[simp] theorem pf8_1 (cs : List V) : pField Try.prog 8 1 (.agg cs) = rd Try.prog 3 cs 1 := by unfold pField; simp
@[simp] theorem fo8_2 : fieldOff Try.prog 8 2 = some 2 := by kernel_rfl
@[simp] theorem pf8_2 (cs : List V) : pField Try.prog 8 2 (.agg cs) = rd Try.prog 4 cs 2 := by unfold pField; simp
@[simp] theorem fo8_3 : fieldOff Try.prog 8 3 = some 3 := by kernel_rfl
@[simp] theorem pf8_3 (cs : List V) : pField Try.prog 8 3 (.agg cs) = rd Try.prog 6 cs 3 := by unfold pField; simp
@[simp] theorem cellsOf9 : Program.cellsOf Try.prog 9 = 1 := by kernel_rfl
@[simp] theorem info9 : Try.prog.info? 9 = some Try.t9 := by kernel_rfl
@[simp] theorem tsize9 : Try.t9.size = 1 := rfl
@[simp] theorem tbytes9 : Try.t9.bytes = 16 := rfl
@[simp] theorem zeroV9 : zeroV Try.prog 9 = some (.str []) := by kernel_rfl
theorem tz9 : (Try.t9.zero).map (fun z => z.cells.size) = some 1 := by kernel_rfl
@[simp] theorem tzero9 : ∃ z, Try.t9.zero = some z ∧ z.cells.size = 1 := by have h := tz9; cases hz : Try.t9.zero with | none => rw [hz] at h; cases h | some z => rw [hz] at h; exact ⟨z, rfl, by simpa using h⟩
@[simp] theorem rd9 (cs : List V) (off : Nat) : rd Try.prog 9 cs off = cs[off]? := by unfold rd; simp
@[simp] theorem cellsOf10 : Program.cellsOf Try.prog 10 = 1 := by kernel_rfl
@[simp] theorem info10 : Try.prog.info? 10 = some Try.t10 := by kernel_rfl
@[simp] theorem tsize10 : Try.t10.size = 1 := rfl
@[simp] theorem tbytes10 : Try.t10.bytes = 16 := rfl
@[simp] theorem zeroV10 : zeroV Try.prog 10 = some (.str []) := by kernel_rfl
theorem tz10 : (Try.t10.zero).map (fun z => z.cells.size) = some 1 := by kernel_rfl
@[simp] theorem tzero10 : ∃ z, Try.t10.zero = some z ∧ z.cells.size = 1 := by have h := tz10; cases hz : Try.t10.zero with | none => rw [hz] at h; cases h | some z => rw [hz] at h; exact ⟨z, rfl, by simpa using h⟩
@[simp] theorem rd10 (cs : List V) (off : Nat) : rd Try.prog 10 cs off = cs[off]? := by unfold rd; simp
@[simp] theorem cellsOf11 : Program.cellsOf Try.prog 11 = 1 := by kernel_rfl
@[simp] theorem info11 : Try.prog.info? 11 = some Try.t11 := by kernel_rfl
@[simp] theorem tsize11 : Try.t11.size = 1 := rfl
@[simp] theorem tbytes11 : Try.t11.bytes = 16 := rfl
@[simp] theorem zeroV11 : zeroV Try.prog 11 = some (.str []) := by kernel_rfl
theorem tz11 : (Try.t11.zero).map (fun z => z.cells.size) = some 1 := by kernel_rfl
@[simp] theorem tzero11 : ∃ z, Try.t11.zero = some z ∧ z.cells.size = 1 := by have h := tz11; cases hz : Try.t11.zero with | none => rw [hz] at h; cases h | some z => rw [hz] at h; exact ⟨z, rfl, by simpa using h⟩
@[simp] theorem rd11 (cs : List V) (off : Nat) : rd Try.prog 11 cs off = cs[off]? := by unfold rd; simp
@[simp] theorem cellsOf12 : Program.cellsOf Try.prog 12 = 1 := by kernel_rfl
@[simp] theorem info12 : Try.prog.info? 12 = some Try.t12 := by kernel_rfl
@[simp] theorem tsize12 : Try.t12.size = 1 := rfl
@[simp] theorem tbytes12 : Try.t12.bytes = 8 := rfl
@[simp] theorem zeroV12 : zeroV Try.prog 12 = some (.int .u64 0) := by kernel_rfl
theorem tz12 : (Try.t12.zero).map (fun z => z.cells.size) = some 1 := by kernel_rfl
@[simp] theorem tzero12 : ∃ z, Try.t12.zero = some z ∧ z.cells.size = 1 := by have h := tz12; cases hz : Try.t12.zero with | none => rw [hz] at h; cases h | some z => rw [hz] at h; exact ⟨z, rfl, by simpa using h⟩
@[simp] theorem rd12 (cs : List V) (off : Nat) : rd Try.prog 12 cs off = cs[off]? := by unfold rd; simp
@[simp] theorem cellsOf13 : Program.cellsOf Try.prog 13 = 2 := by kernel_rfl
@[simp] theorem info13 : Try.prog.info? 13 = some Try.t13 := by kernel_rfl
@[simp] theorem tsize13 : Try.t13.size = 2 := rfl
@[simp] theorem tbytes13 : Try.t13.bytes = 24 := rfl
@[simp] theorem zeroV13 : zeroV Try.prog 13 = some (.agg [.str [], .int .u64 0]) := by kernel_rfl
theorem tz13 : (Try.t13.zero).map (fun z => z.cells.size) = some 2 := by kernel_rfl
@[simp] theorem tzero13 : ∃ z, Try.t13.zero = some z ∧ z.cells.size = 2 := by have h := tz13; cases hz : Try.t13.zero with | none => rw [hz] at h; cases h | some z => rw [hz] at h; exact ⟨z, rfl, by simpa using h⟩
@[simp] theorem rd13 (cs : List V) (off : Nat) : rd Try.prog 13 cs off = if off + 2 ≤ cs.length then some (.agg ((cs.drop off).take 2)) else none := by unfold rd; simp
@[simp] theorem fo13_0 : fieldOff Try.prog 13 0 = some 0 := by kernel_rfl
@[simp] theorem pf13_0 (cs : List V) : pField Try.prog 13 0 (.agg cs) = rd Try.prog 9 cs 0 := by unfold pField; simp
@[simp] theorem fo13_1 : fieldOff Try.prog 13 1 = some 1 := by kernel_rfl
@[simp] theorem pf13_1 (cs : List V) : pField Try.prog 13 1 (.agg cs) = rd Try.prog 12 cs 1 := by unfold pField; simp
@[simp] theorem cellsOf14 : Program.cellsOf Try.prog 14 = 2 := by kernel_rfl
@[simp] theorem info14 : Try.prog.info? 14 = some Try.t14 := by kernel_rfl
@[simp] theorem tsize14 : Try.t14.size = 2 := rfl
@[simp] theorem tbytes14 : Try.t14.bytes = 24 := rfl
@[simp] theorem zeroV14 : zeroV Try.prog 14 = some (.agg [.str [], .int .u64 0]) := by kernel_rfl
theorem tz14 : (Try.t14.zero).map (fun z => z.cells.size) = some 2 := by kernel_rfl
@[simp] theorem tzero14 : ∃ z, Try.t14.zero = some z ∧ z.cells.size = 2 := by have h := tz14; cases hz : Try.t14.zero with | none => rw [hz] at h; cases h | some z => rw [hz] at h; exact ⟨z, rfl, by simpa using h⟩
@[simp] theorem rd14 (cs : List V) (off : Nat) : rd Try.prog 14 cs off = if off + 2 ≤ cs.length then some (.agg ((cs.drop off).take 2)) else none := by unfold rd; simp
@[simp] theorem fo14_0 : fieldOff Try.prog 14 0 = some 0 := by kernel_rfl
@[simp] theorem pf14_0 (cs : List V) : pField Try.prog 14 0 (.agg cs) = rd Try.prog 9 cs 0 := by unfold pField; simp
@[simp] theorem fo14_1 : fieldOff Try.prog 14 1 = some 1 := by kernel_rfl
@[simp] theorem pf14_1 (cs : List V) : pField Try.prog 14 1 (.agg cs) = rd Try.prog 12 cs 1 := by unfold pField; simp
@[simp] theorem cellsOf15 : Program.cellsOf Try.prog 15 = 1 := by kernel_rfl
@[simp] theorem info15 : Try.prog.info? 15 = some Try.t15 := by kernel_rfl
@[simp] theorem tsize15 : Try.t15.size = 1 := rfl
@[simp] theorem tbytes15 : Try.t15.bytes = 8 := rfl
@[simp] theorem zeroV15 : zeroV Try.prog 15 = some (.nilp) := by kernel_rfl
theorem tz15 : (Try.t15.zero).map (fun z => z.cells.size) = some 1 := by kernel_rfl
@[simp] theorem tzero15 : ∃ z, Try.t15.zero = some z ∧ z.cells.size = 1 := by have h := tz15; cases hz : Try.t15.zero with | none => rw [hz] at h; cases h | some z => rw [hz] at h; exact ⟨z, rfl, by simpa using h⟩
@[simp] theorem rd15 (cs : List V) (off : Nat) : rd Try.prog 15 cs off = cs[off]? := by unfold rd; simp
@[simp] theorem cellsOf16 : Program.cellsOf Try.prog 16 = 1 := by kernel_rfl
@[simp] theorem info16 : Try.prog.info? 16 = some Try.t16 := by kernel_rfl
@[simp] theorem tsize16 : Try.t16.size = 1 := rfl
@[simp] theorem tbytes16 : Try.t16.bytes = 8 := rfl
@[simp] theorem zeroV16 : zeroV Try.prog 16 = some (.nilp) := by kernel_rfl
theorem tz16 : (Try.t16.zero).map (fun z => z.cells.size) = some 1 := by kernel_rfl
@[simp] theorem tzero16 : ∃ z, Try.t16.zero = some z ∧ z.cells.size = 1 := by have h := tz16; cases hz : Try.t16.zero with | none => rw [hz] at h; cases h | some z => rw [hz] at h; exact ⟨z, rfl, by simpa using h⟩
@[simp] theorem rd16 (cs : List V) (off : Nat) : rd Try.prog 16 cs off = cs[off]? := by unfold rd; simp
@[simp] theorem cellsOf17 : Program.cellsOf Try.prog 17 = 1 := by kernel_rfl
@[simp] theorem info17 : Try.prog.info? 17 = some Try.t17 := by kernel_rfl
@[simp] theorem tsize17 : Try.t17.size = 1 := rfl
@[simp] theorem tbytes17 : Try.t17.bytes = 8 := rfl
@[simp] theorem zeroV17 : zeroV Try.prog 17 = some (.nilp) := by kernel_rfl
theorem tz17 : (Try.t17.zero).map (fun z => z.cells.size) = some 1 := by kernel_rfl
@[simp] theorem tzero17 : ∃ z, Try.t17.zero = some z ∧ z.cells.size = 1 := by have h := tz17; cases hz : Try.t17.zero with | none => rw [hz] at h; cases h | some z => rw [hz] at h; exact ⟨z, rfl, by simpa using h⟩
@[simp] theorem rd17 (cs : List V) (off : Nat) : rd Try.prog 17 cs off = cs[off]? := by unfold rd; simp
@[simp] theorem cellsOf18 : Program.cellsOf Try.prog 18 = 1 := by kernel_rfl
@[simp] theorem info18 : Try.prog.info? 18 = some Try.t18 := by kernel_rfl
@[simp] theorem tsize18 : Try.t18.size = 1 := rfl
@[simp] theorem tbytes18 : Try.t18.bytes = 8 := rfl
@[simp] theorem zeroV18 : zeroV Try.prog 18 = some (.agg [.nilp]) := by kernel_rfl
theorem tz18 : (Try.t18.zero).map (fun z => z.cells.size) = some 1 := by kernel_rfl
@[simp] theorem tzero18 : ∃ z, Try.t18.zero = some z ∧ z.cells.size = 1 := by have h := tz18; cases hz : Try.t18.zero with | none => rw [hz] at h; cases h | some z => rw [hz] at h; exact ⟨z, rfl, by simpa using h⟩
@[simp] theorem rd18 (cs : List V) (off : Nat) : rd Try.prog 18 cs off = if off + 1 ≤ cs.length then some (.agg ((cs.drop off).take 1)) else none := by unfold rd; simp
@[simp] theorem fo18_0 : fieldOff Try.prog 18 0 = some 0 := by kernel_rfl
@[simp] theorem pf18_0 (cs : List V) : pField Try.prog 18 0 (.agg cs) = rd Try.prog 17 cs 0 := by unfold pField; simp
@[simp] theorem cellsOf19 : Program.cellsOf Try.prog 19 = 1 := by kernel_rfl
@[simp] theorem info19 : Try.prog.info? 19 = some Try.t19 := by kernel_rfl
@[simp] theorem tsize19 : Try.t19.size = 1 := rfl
@[simp] theorem tbytes19 : Try.t19.bytes = 8 := rfl
@[simp] theorem zeroV19 : zeroV Try.prog 19 = some (.agg [.nilp]) := by kernel_rfl
theorem tz19 : (Try.t19.zero).map (fun z => z.cells.size) = some 1 := by kernel_rfl
@[simp] theorem tzero19 : ∃ z, Try.t19.zero = some z ∧ z.cells.size = 1 := by have h := tz19; cases hz : Try.t19.zero with | none => rw [hz] at h; cases h | some z => rw [hz] at h; exact ⟨z, rfl, by simpa using h⟩
@[simp] theorem rd19 (cs : List V) (off : Nat) : rd Try.prog 19 cs off = if off + 1 ≤ cs.length then some (.agg ((cs.drop off).take 1)) else none := by unfold rd; simp
@[simp] theorem fo19_0 : fieldOff Try.prog 19 0 = some 0 := by kernel_rfl
@[simp] theorem pf19_0 (cs : List V) : pField Try.prog 19 0 (.agg cs) = rd Try.prog 17 cs 0 := by unfold pField; simp
@[simp] theorem cellsOf20 : Program.cellsOf Try.prog 20 = 1 := by kernel_rfl
@[simp] theorem info20 : Try.prog.info? 20 = some Try.t20 := by kernel_rfl
@[simp] theorem tsize20 : Try.t20.size = 1 := rfl
@[simp] theorem tbytes20 : Try.t20.bytes = 16 := rfl
@[simp] theorem zeroV20 : zeroV Try.prog 20 = some (.nili) := by kernel_rfl
theorem tz20 : (Try.t20.zero).map (fun z => z.cells.size) = some 1 := by kernel_rfl
@[simp] theorem tzero20 : ∃ z, Try.t20.zero = some z ∧ z.cells.size = 1 := by have h := tz20; cases hz : Try.t20.zero with | none => rw [hz] at h; cases h | some z => rw [hz] at h; exact ⟨z, rfl, by simpa using h⟩
@[simp] theorem rd20 (cs : List V) (off : Nat) : rd Try.prog 20 cs off = cs[off]? := by unfold rd; simp
@[simp] theorem cellsOf21 : Program.cellsOf Try.prog 21 = 1 := by kernel_rfl
@[simp] theorem info21 : Try.prog.info? 21 = some Try.t21 := by kernel_rfl
@[simp] theorem tsize21 : Try.t21.size = 1 := rfl
@[simp] theorem tbytes21 : Try.t21.bytes = 4 := rfl
@[simp] theorem zeroV21 : zeroV Try.prog 21 = some (.int .i32 0) := by kernel_rfl
theorem tz21 : (Try.t21.zero).map (fun z => z.cells.size) = some 1 := by kernel_rfl
@[simp] theorem tzero21 : ∃ z, Try.t21.zero = some z ∧ z.cells.size = 1 := by have h := tz21; cases hz : Try.t21.zero with | none => rw [hz] at h; cases h | some z => rw [hz] at h; exact ⟨z, rfl, by simpa using h⟩
@[simp] theorem rd21 (cs : List V) (off : Nat) : rd Try.prog 21 cs off = cs[off]? := by unfold rd; simp
@[simp] theorem cellsOf22 : Program.cellsOf Try.prog 22 = 1 := by kernel_rfl
@[simp] theorem info22 : Try.prog.info? 22 = some Try.t22 := by kernel_rfl
@[simp] theorem tsize22 : Try.t22.size = 1 := rfl
@[simp] theorem tbytes22 : Try.t22.bytes = 24 := rfl
@[simp] theorem zeroV22 : zeroV Try.prog 22 = some (.nils) := by kernel_rfl
theorem tz22 : (Try.t22.zero).map (fun z => z.cells.size) = some 1 := by kernel_rfl
@[simp] theorem tzero22 : ∃ z, Try.t22.zero = some z ∧ z.cells.size = 1 := by have h := tz22; cases hz : Try.t22.zero with | none => rw [hz] at h; cases h | some z => rw [hz] at h; exact ⟨z, rfl, by simpa using h⟩
@[simp] theorem rd22 (cs : List V) (off : Nat) : rd Try.prog 22 cs off = cs[off]? := by unfold rd; simp
@[simp] theorem cellsOf23 : Program.cellsOf Try.prog 23 = 1 := by kernel_rfl
@[simp] theorem info23 : Try.prog.info? 23 = some Try.t23 := by kernel_rfl
@[simp] theorem tsize23 : Try.t23.size = 1 := rfl
@[simp] theorem tbytes23 : Try.t23.bytes = 8 := rfl
@[simp] theorem zeroV23 : zeroV Try.prog 23 = some (.nilf) := by kernel_rfl
theorem tz23 : (Try.t23.zero).map (fun z => z.cells.size) = some 1 := by kernel_rfl
@[simp] theorem tzero23 : ∃ z, Try.t23.zero = some z ∧ z.cells.size = 1 := by have h := tz23; cases hz : Try.t23.zero with | none => rw [hz] at h; cases h | some z => rw [hz] at h; exact ⟨z, rfl, by simpa using h⟩
@[simp] theorem rd23 (cs : List V) (off : Nat) : rd Try.prog 23 cs off = cs[off]? := by unfold rd; simp
@[simp] theorem cellsOf24 : Program.cellsOf Try.prog 24 = 1 := by kernel_rfl
@[simp] theorem info24 : Try.prog.info? 24 = some Try.t24 := by kernel_rfl
@[simp] theorem tsize24 : Try.t24.size = 1 := rfl
@[simp] theorem tbytes24 : Try.t24.bytes = 8 := rfl
@[simp] theorem zeroV24 : zeroV Try.prog 24 = some (.int .i64 0) := by kernel_rfl
theorem tz24 : (Try.t24.zero).map (fun z => z.cells.size) = some 1 := by kernel_rfl
@[simp] theorem tzero24 : ∃ z, Try.t24.zero = some z ∧ z.cells.size = 1 := by have h := tz24; cases hz : Try.t24.zero with | none => rw [hz] at h; cases h | some z => rw [hz] at h; exact ⟨z, rfl, by simpa using h⟩
@[simp] theorem rd24 (cs : List V) (off : Nat) : rd Try.prog 24 cs off = cs[off]? := by unfold rd; simp
@[simp] theorem cellsOf26 : Program.cellsOf Try.prog 26 = 1 := by kernel_rfl
@[simp] theorem info26 : Try.prog.info? 26 = some Try.t26 := by kernel_rfl
@[simp] theorem tsize26 : Try.t26.size = 1 := rfl
@[simp] theorem tbytes26 : Try.t26.bytes = 8 := rfl
@[simp] theorem zeroV26 : zeroV Try.prog 26 = some (.nilf) := by kernel_rfl
theorem tz26 : (Try.t26.zero).map (fun z => z.cells.size) = some 1 := by kernel_rfl
@[simp] theorem tzero26 : ∃ z, Try.t26.zero = some z ∧ z.cells.size = 1 := by have h := tz26; cases hz : Try.t26.zero with | none => rw [hz] at h; cases h | some z => rw [hz] at h; exact ⟨z, rfl, by simpa using h⟩
@[simp] theorem rd26 (cs : List V) (off : Nat) : rd Try.prog 26 cs off = cs[off]? := by unfold rd; simp
@[simp] theorem cellsOf28 : Program.cellsOf Try.prog 28 = 1 := by kernel_rfl
@[simp] theorem info28 : Try.prog.info? 28 = some Try.t28 := by kernel_rfl
@[simp] theorem tsize28 : Try.t28.size = 1 := rfl
@[simp] theorem tbytes28 : Try.t28.bytes = 8 := rfl
@[simp] theorem zeroV28 : zeroV Try.prog 28 = some (.nilf) := by kernel_rfl
theorem tz28 : (Try.t28.zero).map (fun z => z.cells.size) = some 1 := by kernel_rfl
@[simp] theorem tzero28 : ∃ z, Try.t28.zero = some z ∧ z.cells.size = 1 := by have h := tz28; cases hz : Try.t28.zero with | none => rw [hz] at h; cases h | some z => rw [hz] at h; exact ⟨z, rfl, by simpa using h⟩
@[simp] theorem rd28 (cs : List V) (off : Nat) : rd Try.prog 28 cs off = cs[off]? := by unfold rd; simp
@[simp] theorem cellsOf29 : Program.cellsOf Try.prog 29 = 1 := by kernel_rfl
@[simp] theorem info29 : Try.prog.info? 29 = some Try.t29 := by kernel_rfl
@[simp] theorem tsize29 : Try.t29.size = 1 := rfl
@[simp] theorem tbytes29 : Try.t29.bytes = 8 := rfl
@[simp] theorem zeroV29 : zeroV Try.prog 29 = some (.nilf) := by kernel_rfl
theorem tz29 : (Try.t29.zero).map (fun z => z.cells.size) = some 1 := by kernel_rfl
@[simp] theorem tzero29 : ∃ z, Try.t29.zero = some z ∧ z.cells.size = 1 := by have h := tz29; cases hz : Try.t29.zero with | none => rw [hz] at h; cases h | some z => rw [hz] at h; exact ⟨z, rfl, by simpa using h⟩
@[simp] theorem rd29 (cs : List V) (off : Nat) : rd Try.prog 29 cs off = cs[off]? := by unfold rd; simp
@[simp] theorem cellsOf30 : Program.cellsOf Try.prog 30 = 1 := by kernel_rfl
@[simp] theorem info30 : Try.prog.info? 30 = some Try.t30 := by kernel_rfl
@[simp] theorem tsize30 : Try.t30.size = 1 := rfl
@[simp] theorem tbytes30 : Try.t30.bytes = 8 := rfl
@[simp] theorem zeroV30 : zeroV Try.prog 30 = some (.nilf) := by kernel_rfl
theorem tz30 : (Try.t30.zero).map (fun z => z.cells.size) = some 1 := by kernel_rfl
@[simp] theorem tzero30 : ∃ z, Try.t30.zero = some z ∧ z.cells.size = 1 := by have h := tz30; cases hz : Try.t30.zero with | none => rw [hz] at h; cases h | some z => rw [hz] at h; exact ⟨z, rfl, by simpa using h⟩
@[simp] theorem rd30 (cs : List V) (off : Nat) : rd Try.prog 30 cs off = cs[off]? := by unfold rd; simp
@[simp] theorem cellsOf31 : Program.cellsOf Try.prog 31 = 1 := by kernel_rfl
@[simp] theorem info31 : Try.prog.info? 31 = some Try.t31 := by kernel_rfl
@[simp] theorem tsize31 : Try.t31.size = 1 := rfl
@[simp] theorem tbytes31 : Try.t31.bytes = 8 := rfl
@[simp] theorem zeroV31 : zeroV Try.prog 31 = some (.nilf) := by kernel_rfl
theorem tz31 : (Try.t31.zero).map (fun z => z.cells.size) = some 1 := by kernel_rfl
@[simp] theorem tzero31 : ∃ z, Try.t31.zero = some z ∧ z.cells.size = 1 := by have h := tz31; cases hz : Try.t31.zero with | none => rw [hz] at h; cases h | some z => rw [hz] at h; exact ⟨z, rfl, by simpa using h⟩
@[simp] theorem rd31 (cs : List V) (off : Nat) : rd Try.prog 31 cs off = cs[off]? := by unfold rd; simp
@[simp] theorem cellsOf32 : Program.cellsOf Try.prog 32 = 1 := by kernel_rfl
@[simp] theorem info32 : Try.prog.info? 32 = some Try.t32 := by kernel_rfl
@[simp] theorem tsize32 : Try.t32.size = 1 := rfl
@[simp] theorem tbytes32 : Try.t32.bytes = 24 := rfl
@[simp] theorem zeroV32 : zeroV Try.prog 32 = some (.nils) := by kernel_rfl
theorem tz32 : (Try.t32.zero).map (fun z => z.cells.size) = some 1 := by kernel_rfl
@[simp] theorem tzero32 : ∃ z, Try.t32.zero = some z ∧ z.cells.size = 1 := by have h := tz32; cases hz : Try.t32.zero with | none => rw [hz] at h; cases h | some z => rw [hz] at h; exact ⟨z, rfl, by simpa using h⟩
@[simp] theorem rd32 (cs : List V) (off : Nat) : rd Try.prog 32 cs off = cs[off]? := by unfold rd; simp
@[simp] theorem cellsOf33 : Program.cellsOf Try.prog 33 = 3 := by kernel_rfl
@[simp] theorem info33 : Try.prog.info? 33 = some Try.t33 := by kernel_rfl
@[simp] theorem tsize33 : Try.t33.size = 3 := rfl
@[simp] theorem tbytes33 : Try.t33.bytes = 24 := rfl
@[simp] theorem zeroV33 : zeroV Try.prog 33 = some (.agg [.int .i64 0, .int .i64 0, .int .i64 0]) := by kernel_rfl
theorem tz33 : (Try.t33.zero).map (fun z => z.cells.size) = some 3 := by kernel_rfl
@[simp] theorem tzero33 : ∃ z, Try.t33.zero = some z ∧ z.cells.size = 3 := by have h := tz33; cases hz : Try.t33.zero with | none => rw [hz] at h; cases h | some z => rw [hz] at h; exact ⟨z, rfl, by simpa using h⟩
@[simp] theorem rd33 (cs : List V) (off : Nat) : rd Try.prog 33 cs off = if off + 3 ≤ cs.length then some (.agg ((cs.drop off).take 3)) else none := by unfold rd; simp
@[simp] theorem fo33_0 : fieldOff Try.prog 33 0 = some 0 := by kernel_rfl
@[simp] theorem pf33_0 (cs : List V) : pField Try.prog 33 0 (.agg cs) = rd Try.prog 3 cs 0 := by unfold pField; simp
@[simp] theorem fo33_1 : fieldOff Try.prog 33 1 = some 1 := by kernel_rfl
@[simp] theorem pf33_1 (cs : List V) : pField Try.prog 33 1 (.agg cs) = rd Try.prog 3 cs 1 := by unfold pField; simp
@[simp] theorem fo33_2 : fieldOff Try.prog 33 2 = some 2 := by kernel_rfl
@[simp] theorem pf33_2 (cs : List V) : pField Try.prog 33 2 (.agg cs) = rd Try.prog 3 cs 2 := by unfold pField; simp
@[simp] theorem cellsOf34 : Program.cellsOf Try.prog 34 = 3 := by kernel_rfl
@[simp] theorem info34 : Try.prog.info? 34 = some Try.t34 := by kernel_rfl
@[simp] theorem tsize34 : Try.t34.size = 3 := rfl
@[simp] theorem tbytes34 : Try.t34.bytes = 24 := rfl
@[simp] theorem zeroV34 : zeroV Try.prog 34 = some (.agg [.int .i64 0, .int .i64 0, .int .i64 0]) := by kernel_rfl
theorem tz34 : (Try.t34.zero).map (fun z => z.cells.size) = some 3 := by kernel_rfl
@[simp] theorem tzero34 : ∃ z, Try.t34.zero = some z ∧ z.cells.size = 3 := by have h := tz34; cases hz : Try.t34.zero with | none => rw [hz] at h; cases h | some z => rw [hz] at h; exact ⟨z, rfl, by simpa using h⟩
@[simp] theorem rd34 (cs : List V) (off : Nat) : rd Try.prog 34 cs off = if off + 3 ≤ cs.length then some (.agg ((cs.drop off).take 3)) else none := by unfold rd; simp
@[simp] theorem fo34_0 : fieldOff Try.prog 34 0 = some 0 := by kernel_rfl
@[simp] theorem pf34_0 (cs : List V) : pField Try.prog 34 0 (.agg cs) = rd Try.prog 3 cs 0 := by unfold pField; simp
@[simp] theorem fo34_1 : fieldOff Try.prog 34 1 = some 1 := by kernel_rfl
@[simp] theorem pf34_1 (cs : List V) : pField Try.prog 34 1 (.agg cs) = rd Try.prog 3 cs 1 := by unfold pField; simp
@[simp] theorem fo34_2 : fieldOff Try.prog 34 2 = some 2 := by kernel_rfl
@[simp] theorem pf34_2 (cs : List V) : pField Try.prog 34 2 (.agg cs) = rd Try.prog 3 cs 2 := by unfold pField; simp
@[simp] theorem cellsOf35 : Program.cellsOf Try.prog 35 = 4 := by kernel_rfl
@[simp] theorem info35 : Try.prog.info? 35 = some Try.t35 := by kernel_rfl
@[simp] theorem tsize35 : Try.t35.size = 4 := rfl
@[simp] theorem tbytes35 : Try.t35.bytes = 32 := rfl
@[simp] theorem zeroV35 : zeroV Try.prog 35 = some (.agg [.int .u8 0, .int .i64 0, .int .i64 0, .int .i64 0]) := by kernel_rfl
theorem tz35 : (Try.t35.zero).map (fun z => z.cells.size) = some 4 := by kernel_rfl
@[simp] theorem tzero35 : ∃ z, Try.t35.zero = some z ∧ z.cells.size = 4 := by have h := tz35; cases hz : Try.t35.zero with | none => rw [hz] at h; cases h | some z => rw [hz] at h; exact ⟨z, rfl, by simpa using h⟩
@[simp] theorem rd35 (cs : List V) (off : Nat) : rd Try.prog 35 cs off = if off + 4 ≤ cs.length then some (.agg ((cs.drop off).take 4)) else none := by unfold rd; simp
@[simp] theorem fo35_0 : fieldOff Try.prog 35 0 = some 0 := by kernel_rfl
@[simp] theorem pf35_0 (cs : List V) : pField Try.prog 35 0 (.agg cs) = rd Try.prog 5 cs 0 := by unfold pField; simp
@[simp] theorem fo35_1 : fieldOff Try.prog 35 1 = some 1 := by kernel_rfl
@[simp] theorem pf35_1 (cs : List V) : pField Try.prog 35 1 (.agg cs) = rd Try.prog 34 cs 1 := by unfold pField; simp
@[simp] theorem cellsOf36 : Program.cellsOf Try.prog 36 = 4 := by kernel_rfl
@[simp] theorem info36 : Try.prog.info? 36 = some Try.t36 := by kernel_rfl
@[simp] theorem tsize36 : Try.t36.size = 4 := rfl
@[simp] theorem tbytes36 : Try.t36.bytes = 32 := rfl
@[simp] theorem zeroV36 : zeroV Try.prog 36 = some (.agg [.int .u8 0, .int .i64 0, .int .i64 0, .int .i64 0]) := by kernel_rfl
theorem tz36 : (Try.t36.zero).map (fun z => z.cells.size) = some 4 := by kernel_rfl
@[simp] theorem tzero36 : ∃ z, Try.t36.zero = some z ∧ z.cells.size = 4 := by have h := tz36; cases hz : Try.t36.zero with | none => rw [hz] at h; cases h | some z => rw [hz] at h; exact ⟨z, rfl, by simpa using h⟩
@[simp] theorem rd36 (cs : List V) (off : Nat) : rd Try.prog 36 cs off = if off + 4 ≤ cs.length then some (.agg ((cs.drop off).take 4)) else none := by unfold rd; simp
@[simp] theorem fo36_0 : fieldOff Try.prog 36 0 = some 0 := by kernel_rfl
@[simp] theorem pf36_0 (cs : List V) : pField Try.prog 36 0 (.agg cs) = rd Try.prog 5 cs 0 := by unfold pField; simp
@[simp] theorem fo36_1 : fieldOff Try.prog 36 1 = some 1 := by kernel_rfl
@[simp] theorem pf36_1 (cs : List V) : pField Try.prog 36 1 (.agg cs) = rd Try.prog 34 cs 1 := by unfold pField; simp
@[simp] theorem cellsOf37 : Program.cellsOf Try.prog 37 = 7 := by kernel_rfl
@[simp] theorem info37 : Try.prog.info? 37 = some Try.t37 := by kernel_rfl
@[simp] theorem tsize37 : Try.t37.size = 7 := rfl
@[simp] theorem tbytes37 : Try.t37.bytes = 56 := rfl
@[simp] theorem zeroV37 : zeroV Try.prog 37 = some (.agg [.int .u8 0, .int .i64 0, .int .i64 0, .int .i64 0, .int .i64 0, .int .i64 0, .int .i64 0]) := by kernel_rfl
theorem tz37 : (Try.t37.zero).map (fun z => z.cells.size) = some 7 := by kernel_rfl
@[simp] theorem tzero37 : ∃ z, Try.t37.zero = some z ∧ z.cells.size = 7 := by have h := tz37; cases hz : Try.t37.zero with | none => rw [hz] at h; cases h | some z => rw [hz] at h; exact ⟨z, rfl, by simpa using h⟩
@[simp] theorem rd37 (cs : List V) (off : Nat) : rd Try.prog 37 cs off = if off + 7 ≤ cs.length then some (.agg ((cs.drop off).take 7)) else none := by unfold rd; simp
@[simp] theorem fo37_0 : fieldOff Try.prog 37 0 = some 0 := by kernel_rfl
@[simp] theorem pf37_0 (cs : List V) : pField Try.prog 37 0 (.agg cs) = rd Try.prog 36 cs 0 := by unfold pField; simp
@[simp] theorem fo37_1 : fieldOff Try.prog 37 1 = some 4 := by kernel_rfl
@[simp] theorem pf37_1 (cs : List V) : pField Try.prog 37 1 (.agg cs) = rd Try.prog 34 cs 4 := by unfold pField; simp
@[simp] theorem cellsOf38 : Program.cellsOf Try.prog 38 = 7 := by kernel_rfl
@[simp] theorem info38 : Try.prog.info? 38 = some Try.t38 := by kernel_rfl
@[simp] theorem tsize38 : Try.t38.size = 7 := rfl
@[simp] theorem tbytes38 : Try.t38.bytes = 56 := rfl
@[simp] theorem zeroV38 : zeroV Try.prog 38 = some (.agg [.int .u8 0, .int .i64 0, .int .i64 0, .int .i64 0, .int .i64 0, .int .i64 0, .int .i64 0]) := by kernel_rfl
theorem tz38 : (Try.t38.zero).map (fun z => z.cells.size) = some 7 := by kernel_rfl
@[simp] theorem tzero38 : ∃ z, Try.t38.zero = some z ∧ z.cells.size = 7 := by have h := tz38; cases hz : Try.t38.zero with | none => rw [hz] at h; cases h | some z => rw [hz] at h; exact ⟨z, rfl, by simpa using h⟩
@[simp] theorem rd38 (cs : List V) (off : Nat) : rd Try.prog 38 cs off = if off + 7 ≤ cs.length then some (.agg ((cs.drop off).take 7)) else none := by unfold rd; simp
@[simp] theorem fo38_0 : fieldOff Try.prog 38 0 = some 0 := by kernel_rfl
@[simp] theorem pf38_0 (cs : List V) : pField Try.prog 38 0 (.agg cs) = rd Try.prog 36 cs 0 := by unfold pField; simp
@[simp] theorem fo38_1 : fieldOff Try.prog 38 1 = some 4 := by kernel_rfl
@[simp] theorem pf38_1 (cs : List V) : pField Try.prog 38 1 (.agg cs) = rd Try.prog 34 cs 4 := by unfold pField; simp
@[simp] theorem cellsOf39 : Program.cellsOf Try.prog 39 = 13 := by kernel_rfl
@[simp] theorem info39 : Try.prog.info? 39 = some Try.t39 := by kernel_rfl
@[simp] theorem tsize39 : Try.t39.size = 13 := rfl
@[simp] theorem tbytes39 : Try.t39.bytes = 144 := rfl
@[simp] theorem zeroV39 : zeroV Try.prog 39 = some (.agg [.str [], .str [], .nils, .int .u8 0, .int .i64 0, .int .i64 0, .int .i64 0, .int .i64 0, .int .i64 0, .int .i64 0, .str [], .int .i64 0, .bool false]) := by kernel_rfl
theorem tz39 : (Try.t39.zero).map (fun z => z.cells.size) = some 13 := by kernel_rfl
@[simp] theorem tzero39 : ∃ z, Try.t39.zero = some z ∧ z.cells.size = 13 := by have h := tz39; cases hz : Try.t39.zero with | none => rw [hz] at h; cases h | some z => rw [hz] at h; exact ⟨z, rfl, by simpa using h⟩
@[simp] theorem rd39 (cs : List V) (off : Nat) : rd Try.prog 39 cs off = if off + 13 ≤ cs.length then some (.agg ((cs.drop off).take 13)) else none := by unfold rd; simp
@[simp] theorem fo39_0 : fieldOff Try.prog 39 0 = some 0 := by kernel_rfl
@[simp] theorem pf39_0 (cs : List V) : pField Try.prog 39 0 (.agg cs) = rd Try.prog 9 cs 0 := by unfold pField; simp
@[simp] theorem fo39_1 : fieldOff Try.prog 39 1 = some 1 := by kernel_rfl
@[simp] theorem pf39_1 (cs : List V) : pField Try.prog 39 1 (.agg cs) = rd Try.prog 9 cs 1 := by unfold pField; simp
@[simp] theorem fo39_2 : fieldOff Try.prog 39 2 = some 2 := by kernel_rfl
@[simp] theorem pf39_2 (cs : List V) : pField Try.prog 39 2 (.agg cs) = rd Try.prog 32 cs 2 := by unfold pField; simp
@[simp] theorem fo39_3 : fieldOff Try.prog 39 3 = some 3 := by kernel_rfl
@[simp] theorem pf39_3 (cs : List V) : pField Try.prog 39 3 (.agg cs) = rd Try.prog 38 cs 3 := by unfold pField; simp
@[simp] theorem fo39_4 : fieldOff Try.prog 39 4 = some 10 := by kernel_rfl
@[simp] theorem pf39_4 (cs : List V) : pField Try.prog 39 4 (.agg cs) = rd Try.prog 9 cs 10 := by unfold pField; simp
@[simp] theorem fo39_5 : fieldOff Try.prog 39 5 = some 11 := by kernel_rfl
@[simp] theorem pf39_5 (cs : List V) : pField Try.prog 39 5 (.agg cs) = rd Try.prog 3 cs 11 := by unfold pField; simp
@[simp] theorem fo39_6 : fieldOff Try.prog 39 6 = some 12 := by kernel_rfl
@[simp] theorem pf39_6 (cs : List V) : pField Try.prog 39 6 (.agg cs) = rd Try.prog 4 cs 12 := by unfold pField; simp
@[simp] theorem cellsOf40 : Program.cellsOf Try.prog 40 = 13 := by kernel_rfl
@[simp] theorem info40 : Try.prog.info? 40 = some Try.t40 := by kernel_rfl
@[simp] theorem tsize40 : Try.t40.size = 13 := rfl
@[simp] theorem tbytes40 : Try.t40.bytes = 144 := rfl
@[simp] theorem zeroV40 : zeroV Try.prog 40 = some (.agg [.str [], .str [], .nils, .int .u8 0, .int .i64 0, .int .i64 0, .int .i64 0, .int .i64 0, .int .i64 0, .int .i64 0, .str [], .int .i64 0, .bool false]) := by kernel_rfl
theorem tz40 : (Try.t40.zero).map (fun z => z.cells.size) = some 13 := by kernel_rfl
@[simp] theorem tzero40 : ∃ z, Try.t40.zero = some z ∧ z.cells.size = 13 := by have h := tz40; cases hz : Try.t40.zero with | none => rw [hz] at h; cases h | some z => rw [hz] at h; exact ⟨z, rfl, by simpa using h⟩
@[simp] theorem rd40 (cs : List V) (off : Nat) : rd Try.prog 40 cs off = if off + 13 ≤ cs.length then some (.agg ((cs.drop off).take 13)) else none := by unfold rd; simp
@[simp] theorem fo40_0 : fieldOff Try.prog 40 0 = some 0 := by kernel_rfl
@[simp] theorem pf40_0 (cs : List V) : pField Try.prog 40 0 (.agg cs) = rd Try.prog 9 cs 0 := by unfold pField; simp
@[simp] theorem fo40_1 : fieldOff Try.prog 40 1 = some 1 := by kernel_rfl
@[simp] theorem pf40_1 (cs : List V) : pField Try.prog 40 1 (.agg cs) = rd Try.prog 9 cs 1 := by unfold pField; simp
@[simp] theorem fo40_2 : fieldOff Try.prog 40 2 = some 2 := by kernel_rfl
@[simp] theorem pf40_2 (cs : List V) : pField Try.prog 40 2 (.agg cs) = rd Try.prog 32 cs 2 := by unfold pField; simp
@[simp] theorem fo40_3 : fieldOff Try.prog 40 3 = some 3 := by kernel_rfl
@[simp] theorem pf40_3 (cs : List V) : pField Try.prog 40 3 (.agg cs) = rd Try.prog 38 cs 3 := by unfold pField; simp
@[simp] theorem fo40_4 : fieldOff Try.prog 40 4 = some 10 := by kernel_rfl
@[simp] theorem pf40_4 (cs : List V) : pField Try.prog 40 4 (.agg cs) = rd Try.prog 9 cs 10 := by unfold pField; simp
@[simp] theorem fo40_5 : fieldOff Try.prog 40 5 = some 11 := by kernel_rfl
@[simp] theorem pf40_5 (cs : List V) : pField Try.prog 40 5 (.agg cs) = rd Try.prog 3 cs 11 := by unfold pField; simp
@[simp] theorem fo40_6 : fieldOff Try.prog 40 6 = some 12 := by kernel_rfl
@[simp] theorem pf40_6 (cs : List V) : pField Try.prog 40 6 (.agg cs) = rd Try.prog 4 cs 12 := by unfold pField; simp
@[simp] theorem cellsOf41 : Program.cellsOf Try.prog 41 = 1 := by kernel_rfl
@[simp] theorem info41 : Try.prog.info? 41 = some Try.t41 := by kernel_rfl
@[simp] theorem tsize41 : Try.t41.size = 1 := rfl
@[simp] theorem tbytes41 : Try.t41.bytes = 8 := rfl
@[simp] theorem zeroV41 : zeroV Try.prog 41 = some (.nilf) := by kernel_rfl
theorem tz41 : (Try.t41.zero).map (fun z => z.cells.size) = some 1 := by kernel_rfl
@[simp] theorem tzero41 : ∃ z, Try.t41.zero = some z ∧ z.cells.size = 1 := by have h := tz41; cases hz : Try.t41.zero with | none => rw [hz] at h; cases h | some z => rw [hz] at h; exact ⟨z, rfl, by simpa using h⟩
@[simp] theorem rd41 (cs : List V) (off : Nat) : rd Try.prog 41 cs off = cs[off]? := by unfold rd; simp
@[simp] theorem cellsOf42 : Program.cellsOf Try.prog 42 = 1 := by kernel_rfl
@[simp] theorem info42 : Try.prog.info? 42 = some Try.t42 := by kernel_rfl
@[simp] theorem tsize42 : Try.t42.size = 1 := rfl
@[simp] theorem tbytes42 : Try.t42.bytes = 24 := rfl
@[simp] theorem zeroV42 : zeroV Try.prog 42 = some (.nils) := by kernel_rfl
theorem tz42 : (Try.t42.zero).map (fun z => z.cells.size) = some 1 := by kernel_rfl
@[simp] theorem tzero42 : ∃ z, Try.t42.zero = some z ∧ z.cells.size = 1 := by have h := tz42; cases hz : Try.t42.zero with | none => rw [hz] at h; cases h | some z => rw [hz] at h; exact ⟨z, rfl, by simpa using h⟩
@[simp] theorem rd42 (cs : List V) (off : Nat) : rd Try.prog 42 cs off = cs[off]? := by unfold rd; simp
@[simp] theorem cellsOf43 : Program.cellsOf Try.prog 43 = 1 := by kernel_rfl
@[simp] theorem info43 : Try.prog.info? 43 = some Try.t43 := by kernel_rfl
@[simp] theorem tsize43 : Try.t43.size = 1 := rfl
@[simp] theorem tbytes43 : Try.t43.bytes = 8 := rfl
@[simp] theorem zeroV43 : zeroV Try.prog 43 = some (.nilf) := by kernel_rfl
theorem tz43 : (Try.t43.zero).map (fun z => z.cells.size) = some 1 := by kernel_rfl
@[simp] theorem tzero43 : ∃ z, Try.t43.zero = some z ∧ z.cells.size = 1 := by have h := tz43; cases hz : Try.t43.zero with | none => rw [hz] at h; cases h | some z => rw [hz] at h; exact ⟨z, rfl, by simpa using h⟩
@[simp] theorem rd43 (cs : List V) (off : Nat) : rd Try.prog 43 cs off = cs[off]? := by unfold rd; simp
@[simp] theorem cellsOf44 : Program.cellsOf Try.prog 44 = 1 := by kernel_rfl
@[simp] theorem info44 : Try.prog.info? 44 = some Try.t44 := by kernel_rfl
@[simp] theorem tsize44 : Try.t44.size = 1 := rfl
@[simp] theorem tbytes44 : Try.t44.bytes = 24 := rfl
@[simp] theorem zeroV44 : zeroV Try.prog 44 = some (.nils) := by kernel_rfl
theorem tz44 : (Try.t44.zero).map (fun z => z.cells.size) = some 1 := by kernel_rfl
@[simp] theorem tzero44 : ∃ z, Try.t44.zero = some z ∧ z.cells.size = 1 := by have h := tz44; cases hz : Try.t44.zero with | none => rw [hz] at h; cases h | some z => rw [hz] at h; exact ⟨z, rfl, by simpa using h⟩
@[simp] theorem rd44 (cs : List V) (off : Nat) : rd Try.prog 44 cs off = cs[off]? := by unfold rd; simp
@[simp] theorem cellsOf46 : Program.cellsOf Try.prog 46 = 1 := by kernel_rfl
@[simp] theorem info46 : Try.prog.info? 46 = some Try.t46 := by kernel_rfl
@[simp] theorem tsize46 : Try.t46.size = 1 := rfl
@[simp] theorem tbytes46 : Try.t46.bytes = 8 := rfl
@[simp] theorem zeroV46 : zeroV Try.prog 46 = some (.nilf) := by kernel_rfl
theorem tz46 : (Try.t46.zero).map (fun z => z.cells.size) = some 1 := by kernel_rfl
@[simp] theorem tzero46 : ∃ z, Try.t46.zero = some z ∧ z.cells.size = 1 := by have h := tz46; cases hz : Try.t46.zero with | none => rw [hz] at h; cases h | some z => rw [hz] at h; exact ⟨z, rfl, by simpa using h⟩
@[simp] theorem rd46 (cs : List V) (off : Nat) : rd Try.prog 46 cs off = cs[off]? := by unfold rd; simp
@[simp] theorem cellsOf48 : Program.cellsOf Try.prog 48 = 1 := by kernel_rfl
@[simp] theorem info48 : Try.prog.info? 48 = some Try.t48 := by kernel_rfl
@[simp] theorem tsize48 : Try.t48.size = 1 := rfl
@[simp] theorem tbytes48 : Try.t48.bytes = 8 := rfl
@[simp] theorem zeroV48 : zeroV Try.prog 48 = some (.nilf) := by kernel_rfl
theorem tz48 : (Try.t48.zero).map (fun z => z.cells.size) = some 1 := by kernel_rfl
@[simp] theorem tzero48 : ∃ z, Try.t48.zero = some z ∧ z.cells.size = 1 := by have h := tz48; cases hz : Try.t48.zero with | none => rw [hz] at h; cases h | some z => rw [hz] at h; exact ⟨z, rfl, by simpa using h⟩
@[simp] theorem rd48 (cs : List V) (off : Nat) : rd Try.prog 48 cs off = cs[off]? := by unfold rd; simp
@[simp] theorem cellsOf49 : Program.cellsOf Try.prog 49 = 1 := by kernel_rfl
@[simp] theorem info49 : Try.prog.info? 49 = some Try.t49 := by kernel_rfl
@[simp] theorem tsize49 : Try.t49.size = 1 := rfl
@[simp] theorem tbytes49 : Try.t49.bytes = 8 := rfl
@[simp] theorem zeroV49 : zeroV Try.prog 49 = some (.nilf) := by kernel_rfl
theorem tz49 : (Try.t49.zero).map (fun z => z.cells.size) = some 1 := by kernel_rfl
@[simp] theorem tzero49 : ∃ z, Try.t49.zero = some z ∧ z.cells.size = 1 := by have h := tz49; cases hz : Try.t49.zero with | none => rw [hz] at h; cases h | some z => rw [hz] at h; exact ⟨z, rfl, by simpa using h⟩
@[simp] theorem rd49 (cs : List V) (off : Nat) : rd Try.prog 49 cs off = cs[off]? := by unfold rd; simp
@[simp] theorem cellsOf50 : Program.cellsOf Try.prog 50 = 1 := by kernel_rfl
@[simp] theorem info50 : Try.prog.info? 50 = some Try.t50 := by kernel_rfl
@[simp] theorem tsize50 : Try.t50.size = 1 := rfl
@[simp] theorem tbytes50 : Try.t50.bytes = 24 := rfl
@[simp] theorem zeroV50 : zeroV Try.prog 50 = some (.nils) := by kernel_rfl
theorem tz50 : (Try.t50.zero).map (fun z => z.cells.size) = some 1 := by kernel_rfl
@[simp] theorem tzero50 : ∃ z, Try.t50.zero = some z ∧ z.cells.size = 1 := by have h := tz50; cases hz : Try.t50.zero with | none => rw [hz] at h; cases h | some z => rw [hz] at h; exact ⟨z, rfl, by simpa using h⟩
@[simp] theorem rd50 (cs : List V) (off : Nat) : rd Try.prog 50 cs off = cs[off]? := by unfold rd; simp
@[simp] theorem cellsOf51 : Program.cellsOf Try.prog 51 = 1 := by kernel_rfl
@[simp] theorem info51 : Try.prog.info? 51 = some Try.t51 := by kernel_rfl
@[simp] theorem tsize51 : Try.t51.size = 1 := rfl
@[simp] theorem tbytes51 : Try.t51.bytes = 8 := rfl
@[simp] theorem zeroV51 : zeroV Try.prog 51 = some (.nilf) := by kernel_rfl
theorem tz51 : (Try.t51.zero).map (fun z => z.cells.size) = some 1 := by kernel_rfl
@[simp] theorem tzero51 : ∃ z, Try.t51.zero = some z ∧ z.cells.size = 1 := by have h := tz51; cases hz : Try.t51.zero with | none => rw [hz] at h; cases h | some z => rw [hz] at h; exact ⟨z, rfl, by simpa using h⟩
@[simp] theorem rd51 (cs : List V) (off : Nat) : rd Try.prog 51 cs off = cs[off]? := by unfold rd; simp
@[simp] theorem cellsOf53 : Program.cellsOf Try.prog 53 = 1 := by kernel_rfl
@[simp] theorem info53 : Try.prog.info? 53 = some Try.t53 := by kernel_rfl
@[simp] theorem tsize53 : Try.t53.size = 1 := rfl
@[simp] theorem tbytes53 : Try.t53.bytes = 8 := rfl
@[simp] theorem zeroV53 : zeroV Try.prog 53 = some (.nilf) := by kernel_rfl
theorem tz53 : (Try.t53.zero).map (fun z => z.cells.size) = some 1 := by kernel_rfl
@[simp] theorem tzero53 : ∃ z, Try.t53.zero = some z ∧ z.cells.size = 1 := by have h := tz53; cases hz : Try.t53.zero with | none => rw [hz] at h; cases h | some z => rw [hz] at h; exact ⟨z, rfl, by simpa using h⟩
@[simp] theorem rd53 (cs : List V) (off : Nat) : rd Try.prog 53 cs off = cs[off]? := by unfold rd; simp
@[simp] theorem cellsOf55 : Program.cellsOf Try.prog 55 = 1 := by kernel_rfl
@[simp] theorem info55 : Try.prog.info? 55 = some Try.t55 := by kernel_rfl
@[simp] theorem tsize55 : Try.t55.size = 1 := rfl
@[simp] theorem tbytes55 : Try.t55.bytes = 8 := rfl
@[simp] theorem zeroV55 : zeroV Try.prog 55 = some (.nilf) := by kernel_rfl
theorem tz55 : (Try.t55.zero).map (fun z => z.cells.size) = some 1 := by kernel_rfl
@[simp] theorem tzero55 : ∃ z, Try.t55.zero = some z ∧ z.cells.size = 1 := by have h := tz55; cases hz : Try.t55.zero with | none => rw [hz] at h; cases h | some z => rw [hz] at h; exact ⟨z, rfl, by simpa using h⟩
@[simp] theorem rd55 (cs : List V) (off : Nat) : rd Try.prog 55 cs off = cs[off]? := by unfold rd; simp
@[simp] theorem cellsOf56 : Program.cellsOf Try.prog 56 = 3 := by kernel_rfl
@[simp] theorem info56 : Try.prog.info? 56 = some Try.t56 := by kernel_rfl
@[simp] theorem tsize56 : Try.t56.size = 3 := rfl
@[simp] theorem tbytes56 : Try.t56.bytes = 32 := rfl
@[simp] theorem zeroV56 : zeroV Try.prog 56 = some (.agg [.str [], .int .i64 0, .int .i64 0]) := by kernel_rfl
theorem tz56 : (Try.t56.zero).map (fun z => z.cells.size) = some 3 := by kernel_rfl
@[simp] theorem tzero56 : ∃ z, Try.t56.zero = some z ∧ z.cells.size = 3 := by have h := tz56; cases hz : Try.t56.zero with | none => rw [hz] at h; cases h | some z => rw [hz] at h; exact ⟨z, rfl, by simpa using h⟩
@[simp] theorem rd56 (cs : List V) (off : Nat) : rd Try.prog 56 cs off = if off + 3 ≤ cs.length then some (.agg ((cs.drop off).take 3)) else none := by unfold rd; simp
@[simp] theorem fo56_0 : fieldOff Try.prog 56 0 = some 0 := by kernel_rfl
@[simp] theorem pf56_0 (cs : List V) : pField Try.prog 56 0 (.agg cs) = rd Try.prog 9 cs 0 := by unfold pField; simp
@[simp] theorem fo56_1 : fieldOff Try.prog 56 1 = some 1 := by kernel_rfl
@[simp] theorem pf56_1 (cs : List V) : pField Try.prog 56 1 (.agg cs) = rd Try.prog 3 cs 1 := by unfold pField; simp
@[simp] theorem fo56_2 : fieldOff Try.prog 56 2 = some 2 := by kernel_rfl
@[simp] theorem pf56_2 (cs : List V) : pField Try.prog 56 2 (.agg cs) = rd Try.prog 2 cs 2 := by unfold pField; simp
@[simp] theorem cellsOf57 : Program.cellsOf Try.prog 57 = 3 := by kernel_rfl
@[simp] theorem info57 : Try.prog.info? 57 = some Try.t57 := by kernel_rfl
@[simp] theorem tsize57 : Try.t57.size = 3 := rfl
@[simp] theorem tbytes57 : Try.t57.bytes = 32 := rfl
@[simp] theorem zeroV57 : zeroV Try.prog 57 = some (.agg [.str [], .int .i64 0, .int .i64 0]) := by kernel_rfl
theorem tz57 : (Try.t57.zero).map (fun z => z.cells.size) = some 3 := by kernel_rfl
@[simp] theorem tzero57 : ∃ z, Try.t57.zero = some z ∧ z.cells.size = 3 := by have h := tz57; cases hz : Try.t57.zero with | none => rw [hz] at h; cases h | some z => rw [hz] at h; exact ⟨z, rfl, by simpa using h⟩
@[simp] theorem rd57 (cs : List V) (off : Nat) : rd Try.prog 57 cs off = if off + 3 ≤ cs.length then some (.agg ((cs.drop off).take 3)) else none := by unfold rd; simp
@[simp] theorem fo57_0 : fieldOff Try.prog 57 0 = some 0 := by kernel_rfl
@[simp] theorem pf57_0 (cs : List V) : pField Try.prog 57 0 (.agg cs) = rd Try.prog 9 cs 0 := by unfold pField; simp
@[simp] theorem fo57_1 : fieldOff Try.prog 57 1 = some 1 := by kernel_rfl
@[simp] theorem pf57_1 (cs : List V) : pField Try.prog 57 1 (.agg cs) = rd Try.prog 3 cs 1 := by unfold pField; simp
@[simp] theorem fo57_2 : fieldOff Try.prog 57 2 = some 2 := by kernel_rfl
@[simp] theorem pf57_2 (cs : List V) : pField Try.prog 57 2 (.agg cs) = rd Try.prog 2 cs 2 := by unfold pField; simp
@[simp] theorem cellsOf59 : Program.cellsOf Try.prog 59 = 1 := by kernel_rfl
@[simp] theorem info59 : Try.prog.info? 59 = some Try.t59 := by kernel_rfl
@[simp] theorem tsize59 : Try.t59.size = 1 := rfl
@[simp] theorem tbytes59 : Try.t59.bytes = 8 := rfl
@[simp] theorem zeroV59 : zeroV Try.prog 59 = some (.nilf) := by kernel_rfl
theorem tz59 : (Try.t59.zero).map (fun z => z.cells.size) = some 1 := by kernel_rfl
@[simp] theorem tzero59 : ∃ z, Try.t59.zero = some z ∧ z.cells.size = 1 := by have h := tz59; cases hz : Try.t59.zero with | none => rw [hz] at h; cases h | some z => rw [hz] at h; exact ⟨z, rfl, by simpa using h⟩
@[simp] theorem rd59 (cs : List V) (off : Nat) : rd Try.prog 59 cs off = cs[off]? := by unfold rd; simp
@[simp] theorem cellsOf61 : Program.cellsOf Try.prog 61 = 1 := by kernel_rfl
@[simp] theorem info61 : Try.prog.info? 61 = some Try.t61 := by kernel_rfl
@[simp] theorem tsize61 : Try.t61.size = 1 := rfl
@[simp] theorem tbytes61 : Try.t61.bytes = 8 := rfl
@[simp] theorem zeroV61 : zeroV Try.prog 61 = some (.nilf) := by kernel_rfl
theorem tz61 : (Try.t61.zero).map (fun z => z.cells.size) = some 1 := by kernel_rfl
@[simp] theorem tzero61 : ∃ z, Try.t61.zero = some z ∧ z.cells.size = 1 := by have h := tz61; cases hz : Try.t61.zero with | none => rw [hz] at h; cases h | some z => rw [hz] at h; exact ⟨z, rfl, by simpa using h⟩
@[simp] theorem rd61 (cs : List V) (off : Nat) : rd Try.prog 61 cs off = cs[off]? := by unfold rd; simp
@[simp] theorem cellsOf62 : Program.cellsOf Try.prog 62 = 1 := by kernel_rfl
@[simp] theorem info62 : Try.prog.info? 62 = some Try.t62 := by kernel_rfl
@[simp] theorem tsize62 : Try.t62.size = 1 := rfl
@[simp] theorem tbytes62 : Try.t62.bytes = 8 := rfl
@[simp] theorem zeroV62 : zeroV Try.prog 62 = some (.nilf) := by kernel_rfl
theorem tz62 : (Try.t62.zero).map (fun z => z.cells.size) = some 1 := by kernel_rfl
@[simp] theorem tzero62 : ∃ z, Try.t62.zero = some z ∧ z.cells.size = 1 := by have h := tz62; cases hz : Try.t62.zero with | none => rw [hz] at h; cases h | some z => rw [hz] at h; exact ⟨z, rfl, by simpa using h⟩
@[simp] theorem rd62 (cs : List V) (off : Nat) : rd Try.prog 62 cs off = cs[off]? := by unfold rd; simp
@[simp] theorem cellsOf63 : Program.cellsOf Try.prog 63 = 1 := by kernel_rfl
@[simp] theorem info63 : Try.prog.info? 63 = some Try.t63 := by kernel_rfl
@[simp] theorem tsize63 : Try.t63.size = 1 := rfl
@[simp] theorem tbytes63 : Try.t63.bytes = 8 := rfl
@[simp] theorem zeroV63 : zeroV Try.prog 63 = some (.nilf) := by kernel_rfl
theorem tz63 : (Try.t63.zero).map (fun z => z.cells.size) = some 1 := by kernel_rfl
@[simp] theorem tzero63 : ∃ z, Try.t63.zero = some z ∧ z.cells.size = 1 := by have h := tz63; cases hz : Try.t63.zero with | none => rw [hz] at h; cases h | some z => rw [hz] at h; exact ⟨z, rfl, by simpa using h⟩
@[simp] theorem rd63 (cs : List V) (off : Nat) : rd Try.prog 63 cs off = cs[off]? := by unfold rd; simp
@[simp] theorem cellsOf64 : Program.cellsOf Try.prog 64 = 1 := by kernel_rfl
@[simp] theorem info64 : Try.prog.info? 64 = some Try.t64 := by kernel_rfl
@[simp] theorem tsize64 : Try.t64.size = 1 := rfl
@[simp] theorem tbytes64 : Try.t64.bytes = 8 := rfl
@[simp] theorem zeroV64 : zeroV Try.prog 64 = some (.nilf) := by kernel_rfl
theorem tz64 : (Try.t64.zero).map (fun z => z.cells.size) = some 1 := by kernel_rfl
@[simp] theorem tzero64 : ∃ z, Try.t64.zero = some z ∧ z.cells.size = 1 := by have h := tz64; cases hz : Try.t64.zero with | none => rw [hz] at h; cases h | some z => rw [hz] at h; exact ⟨z, rfl, by simpa using h⟩
@[simp] theorem rd64 (cs : List V) (off : Nat) : rd Try.prog 64 cs off = cs[off]? := by unfold rd; simp
@[simp] theorem cellsOf65 : Program.cellsOf Try.prog 65 = 1 := by kernel_rfl
@[simp] theorem info65 : Try.prog.info? 65 = some Try.t65 := by kernel_rfl
@[simp] theorem tsize65 : Try.t65.size = 1 := rfl
@[simp] theorem tbytes65 : Try.t65.bytes = 8 := rfl
@[simp] theorem zeroV65 : zeroV Try.prog 65 = some (.nilf) := by kernel_rfl
theorem tz65 : (Try.t65.zero).map (fun z => z.cells.size) = some 1 := by kernel_rfl
@[simp] theorem tzero65 : ∃ z, Try.t65.zero = some z ∧ z.cells.size = 1 := by have h := tz65; cases hz : Try.t65.zero with | none => rw [hz] at h; cases h | some z => rw [hz] at h; exact ⟨z, rfl, by simpa using h⟩
@[simp] theorem rd65 (cs : List V) (off : Nat) : rd Try.prog 65 cs off = cs[off]? := by unfold rd; simp
@[simp] theorem cellsOf66 : Program.cellsOf Try.prog 66 = 1 := by kernel_rfl
@[simp] theorem info66 : Try.prog.info? 66 = some Try.t66 := by kernel_rfl
@[simp] theorem tsize66 : Try.t66.size = 1 := rfl
@[simp] theorem tbytes66 : Try.t66.bytes = 8 := rfl
@[simp] theorem zeroV66 : zeroV Try.prog 66 = some (.nilf) := by kernel_rfl
theorem tz66 : (Try.t66.zero).map (fun z => z.cells.size) = some 1 := by kernel_rfl
@[simp] theorem tzero66 : ∃ z, Try.t66.zero = some z ∧ z.cells.size = 1 := by have h := tz66; cases hz : Try.t66.zero with | none => rw [hz] at h; cases h | some z => rw [hz] at h; exact ⟨z, rfl, by simpa using h⟩
@[simp] theorem rd66 (cs : List V) (off : Nat) : rd Try.prog 66 cs off = cs[off]? := by unfold rd; simp
@[simp] theorem cellsOf67 : Program.cellsOf Try.prog 67 = 1 := by kernel_rfl
@[simp] theorem info67 : Try.prog.info? 67 = some Try.t67 := by kernel_rfl
@[simp] theorem tsize67 : Try.t67.size = 1 := rfl
@[simp] theorem tbytes67 : Try.t67.bytes = 8 := rfl
@[simp] theorem zeroV67 : zeroV Try.prog 67 = some (.nilf) := by kernel_rfl
theorem tz67 : (Try.t67.zero).map (fun z => z.cells.size) = some 1 := by kernel_rfl
@[simp] theorem tzero67 : ∃ z, Try.t67.zero = some z ∧ z.cells.size = 1 := by have h := tz67; cases hz : Try.t67.zero with | none => rw [hz] at h; cases h | some z => rw [hz] at h; exact ⟨z, rfl, by simpa using h⟩
@[simp] theorem rd67 (cs : List V) (off : Nat) : rd Try.prog 67 cs off = cs[off]? := by unfold rd; simp
@[simp] theorem cellsOf68 : Program.cellsOf Try.prog 68 = 1 := by kernel_rfl
@[simp] theorem info68 : Try.prog.info? 68 = some Try.t68 := by kernel_rfl
@[simp] theorem tsize68 : Try.t68.size = 1 := rfl
@[simp] theorem tbytes68 : Try.t68.bytes = 8 := rfl
@[simp] theorem zeroV68 : zeroV Try.prog 68 = some (.nilf) := by kernel_rfl
theorem tz68 : (Try.t68.zero).map (fun z => z.cells.size) = some 1 := by kernel_rfl
@[simp] theorem tzero68 : ∃ z, Try.t68.zero = some z ∧ z.cells.size = 1 := by have h := tz68; cases hz : Try.t68.zero with | none => rw [hz] at h; cases h | some z => rw [hz] at h; exact ⟨z, rfl, by simpa using h⟩
@[simp] theorem rd68 (cs : List V) (off : Nat) : rd Try.prog 68 cs off = cs[off]? := by unfold rd; simp
@[simp] theorem cellsOf69 : Program.cellsOf Try.prog 69 = 1 := by kernel_rfl
@[simp] theorem info69 : Try.prog.info? 69 = some Try.t69 := by kernel_rfl
@[simp] theorem tsize69 : Try.t69.size = 1 := rfl
@[simp] theorem tbytes69 : Try.t69.bytes = 8 := rfl
@[simp] theorem zeroV69 : zeroV Try.prog 69 = some (.nilf) := by kernel_rfl
theorem tz69 : (Try.t69.zero).map (fun z => z.cells.size) = some 1 := by kernel_rfl
@[simp] theorem tzero69 : ∃ z, Try.t69.zero = some z ∧ z.cells.size = 1 := by have h := tz69; cases hz : Try.t69.zero with | none => rw [hz] at h; cases h | some z => rw [hz] at h; exact ⟨z, rfl, by simpa using h⟩
@[simp] theorem rd69 (cs : List V) (off : Nat) : rd Try.prog 69 cs off = cs[off]? := by unfold rd; simp
@[simp] theorem cellsOf70 : Program.cellsOf Try.prog 70 = 2 := by kernel_rfl
@[simp] theorem info70 : Try.prog.info? 70 = some Try.t70 := by kernel_rfl
@[simp] theorem tsize70 : Try.t70.size = 2 := rfl
@[simp] theorem tbytes70 : Try.t70.bytes = 16 := rfl
@[simp] theorem zeroV70 : zeroV Try.prog 70 = some (.agg [.int .i64 0, .int .i64 0]) := by kernel_rfl
theorem tz70 : (Try.t70.zero).map (fun z => z.cells.size) = some 2 := by kernel_rfl
@[simp] theorem tzero70 : ∃ z, Try.t70.zero = some z ∧ z.cells.size = 2 := by have h := tz70; cases hz : Try.t70.zero with | none => rw [hz] at h; cases h | some z => rw [hz] at h; exact ⟨z, rfl, by simpa using h⟩
@[simp] theorem rd70 (cs : List V) (off : Nat) : rd Try.prog 70 cs off = if off + 2 ≤ cs.length then some (.agg ((cs.drop off).take 2)) else none := by unfold rd; simp
@[simp] theorem fo70_0 : fieldOff Try.prog 70 0 = some 0 := by kernel_rfl
@[simp] theorem pf70_0 (cs : List V) : pField Try.prog 70 0 (.agg cs) = rd Try.prog 2 cs 0 := by unfold pField; simp
@[simp] theorem fo70_1 : fieldOff Try.prog 70 1 = some 1 := by kernel_rfl
@[simp] theorem pf70_1 (cs : List V) : pField Try.prog 70 1 (.agg cs) = rd Try.prog 2 cs 1 := by unfold pField; simp
@[simp] theorem cellsOf71 : Program.cellsOf Try.prog 71 = 2 := by kernel_rfl
@[simp] theorem info71 : Try.prog.info? 71 = some Try.t71 := by kernel_rfl
@[simp] theorem tsize71 : Try.t71.size = 2 := rfl
@[simp] theorem tbytes71 : Try.t71.bytes = 16 := rfl
@[simp] theorem zeroV71 : zeroV Try.prog 71 = some (.agg [.int .i64 0, .int .i64 0]) := by kernel_rfl
theorem tz71 : (Try.t71.zero).map (fun z => z.cells.size) = some 2 := by kernel_rfl
@[simp] theorem tzero71 : ∃ z, Try.t71.zero = some z ∧ z.cells.size = 2 := by have h := tz71; cases hz : Try.t71.zero with | none => rw [hz] at h; cases h | some z => rw [hz] at h; exact ⟨z, rfl, by simpa using h⟩
@[simp] theorem rd71 (cs : List V) (off : Nat) : rd Try.prog 71 cs off = if off + 2 ≤ cs.length then some (.agg ((cs.drop off).take 2)) else none := by unfold rd; simp
@[simp] theorem fo71_0 : fieldOff Try.prog 71 0 = some 0 := by kernel_rfl
@[simp] theorem pf71_0 (cs : List V) : pField Try.prog 71 0 (.agg cs) = rd Try.prog 2 cs 0 := by unfold pField; simp
@[simp] theorem fo71_1 : fieldOff Try.prog 71 1 = some 1 := by kernel_rfl
@[simp] theorem pf71_1 (cs : List V) : pField Try.prog 71 1 (.agg cs) = rd Try.prog 2 cs 1 := by unfold pField; simp
@[simp] theorem cellsOf72 : Program.cellsOf Try.prog 72 = 6 := by kernel_rfl
@[simp] theorem info72 : Try.prog.info? 72 = some Try.t72 := by kernel_rfl
@[simp] theorem tsize72 : Try.t72.size = 6 := rfl
@[simp] theorem tbytes72 : Try.t72.bytes = 72 := rfl
@[simp] theorem zeroV72 : zeroV Try.prog 72 = some (.agg [.int .u8 0, .int .i64 0, .int .i64 0, .bool false, .str [], .nils]) := by kernel_rfl
theorem tz72 : (Try.t72.zero).map (fun z => z.cells.size) = some 6 := by kernel_rfl
@[simp] theorem tzero72 : ∃ z, Try.t72.zero = some z ∧ z.cells.size = 6 := by have h := tz72; cases hz : Try.t72.zero with | none => rw [hz] at h; cases h | some z => rw [hz] at h; exact ⟨z, rfl, by simpa using h⟩
@[simp] theorem rd72 (cs : List V) (off : Nat) : rd Try.prog 72 cs off = if off + 6 ≤ cs.length then some (.agg ((cs.drop off).take 6)) else none := by unfold rd; simp
@[simp] theorem fo72_0 : fieldOff Try.prog 72 0 = some 0 := by kernel_rfl
@[simp] theorem pf72_0 (cs : List V) : pField Try.prog 72 0 (.agg cs) = rd Try.prog 5 cs 0 := by unfold pField; simp
@[simp] theorem fo72_1 : fieldOff Try.prog 72 1 = some 1 := by kernel_rfl
@[simp] theorem pf72_1 (cs : List V) : pField Try.prog 72 1 (.agg cs) = rd Try.prog 71 cs 1 := by unfold pField; simp
@[simp] theorem fo72_2 : fieldOff Try.prog 72 2 = some 3 := by kernel_rfl
@[simp] theorem pf72_2 (cs : List V) : pField Try.prog 72 2 (.agg cs) = rd Try.prog 4 cs 3 := by unfold pField; simp
@[simp] theorem fo72_3 : fieldOff Try.prog 72 3 = some 4 := by kernel_rfl
@[simp] theorem pf72_3 (cs : List V) : pField Try.prog 72 3 (.agg cs) = rd Try.prog 9 cs 4 := by unfold pField; simp
@[simp] theorem fo72_4 : fieldOff Try.prog 72 4 = some 5 := by kernel_rfl
@[simp] theorem pf72_4 (cs : List V) : pField Try.prog 72 4 (.agg cs) = rd Try.prog 32 cs 5 := by unfold pField; simp
@[simp] theorem cellsOf73 : Program.cellsOf Try.prog 73 = 6 := by kernel_rfl
@[simp] theorem info73 : Try.prog.info? 73 = some Try.t73 := by kernel_rfl
@[simp] theorem tsize73 : Try.t73.size = 6 := rfl
@[simp] theorem tbytes73 : Try.t73.bytes = 72 := rfl
@[simp] theorem zeroV73 : zeroV Try.prog 73 = some (.agg [.int .u8 0, .int .i64 0, .int .i64 0, .bool false, .str [], .nils]) := by kernel_rfl
theorem tz73 : (Try.t73.zero).map (fun z => z.cells.size) = some 6 := by kernel_rfl
@[simp] theorem tzero73 : ∃ z, Try.t73.zero = some z ∧ z.cells.size = 6 := by have h := tz73; cases hz : Try.t73.zero with | none => rw [hz] at h; cases h | some z => rw [hz] at h; exact ⟨z, rfl, by simpa using h⟩
@[simp] theorem rd73 (cs : List V) (off : Nat) : rd Try.prog 73 cs off = if off + 6 ≤ cs.length then some (.agg ((cs.drop off).take 6)) else none := by unfold rd; simp
@[simp] theorem fo73_0 : fieldOff Try.prog 73 0 = some 0 := by kernel_rfl
@[simp] theorem pf73_0 (cs : List V) : pField Try.prog 73 0 (.agg cs) = rd Try.prog 5 cs 0 := by unfold pField; simp
@[simp] theorem fo73_1 : fieldOff Try.prog 73 1 = some 1 := by kernel_rfl
@[simp] theorem pf73_1 (cs : List V) : pField Try.prog 73 1 (.agg cs) = rd Try.prog 71 cs 1 := by unfold pField; simp
@[simp] theorem fo73_2 : fieldOff Try.prog 73 2 = some 3 := by kernel_rfl
@[simp] theorem pf73_2 (cs : List V) : pField Try.prog 73 2 (.agg cs) = rd Try.prog 4 cs 3 := by unfold pField; simp
@[simp] theorem fo73_3 : fieldOff Try.prog 73 3 = some 4 := by kernel_rfl
@[simp] theorem pf73_3 (cs : List V) : pField Try.prog 73 3 (.agg cs) = rd Try.prog 9 cs 4 := by unfold pField; simp
@[simp] theorem fo73_4 : fieldOff Try.prog 73 4 = some 5 := by kernel_rfl
@[simp] theorem pf73_4 (cs : List V) : pField Try.prog 73 4 (.agg cs) = rd Try.prog 32 cs 5 := by unfold pField; simp
@[simp] theorem cellsOf74 : Program.cellsOf Try.prog 74 = 1 := by kernel_rfl
@[simp] theorem info74 : Try.prog.info? 74 = some Try.t74 := by kernel_rfl
@[simp] theorem tsize74 : Try.t74.size = 1 := rfl
@[simp] theorem tbytes74 : Try.t74.bytes = 8 := rfl
@[simp] theorem zeroV74 : zeroV Try.prog 74 = some (.nilf) := by kernel_rfl
theorem tz74 : (Try.t74.zero).map (fun z => z.cells.size) = some 1 := by kernel_rfl
@[simp] theorem tzero74 : ∃ z, Try.t74.zero = some z ∧ z.cells.size = 1 := by have h := tz74; cases hz : Try.t74.zero with | none => rw [hz] at h; cases h | some z => rw [hz] at h; exact ⟨z, rfl, by simpa using h⟩
@[simp] theorem rd74 (cs : List V) (off : Nat) : rd Try.prog 74 cs off = cs[off]? := by unfold rd; simp
@[simp] theorem cellsOf75 : Program.cellsOf Try.prog 75 = 3 := by kernel_rfl
@[simp] theorem info75 : Try.prog.info? 75 = some Try.t75 := by kernel_rfl
@[simp] theorem tsize75 : Try.t75.size = 3 := rfl
@[simp] theorem tbytes75 : Try.t75.bytes = 40 := rfl
@[simp] theorem zeroV75 : zeroV Try.prog 75 = some (.agg [.str [], .int .u8 0, .str []]) := by kernel_rfl
theorem tz75 : (Try.t75.zero).map (fun z => z.cells.size) = some 3 := by kernel_rfl
@[simp] theorem tzero75 : ∃ z, Try.t75.zero = some z ∧ z.cells.size = 3 := by have h := tz75; cases hz : Try.t75.zero with | none => rw [hz] at h; cases h | some z => rw [hz] at h; exact ⟨z, rfl, by simpa using h⟩
@[simp] theorem rd75 (cs : List V) (off : Nat) : rd Try.prog 75 cs off = if off + 3 ≤ cs.length then some (.agg ((cs.drop off).take 3)) else none := by unfold rd; simp
@[simp] theorem fo75_0 : fieldOff Try.prog 75 0 = some 0 := by kernel_rfl
@[simp] theorem pf75_0 (cs : List V) : pField Try.prog 75 0 (.agg cs) = rd Try.prog 9 cs 0 := by unfold pField; simp
@[simp] theorem fo75_1 : fieldOff Try.prog 75 1 = some 1 := by kernel_rfl
@[simp] theorem pf75_1 (cs : List V) : pField Try.prog 75 1 (.agg cs) = rd Try.prog 5 cs 1 := by unfold pField; simp
@[simp] theorem fo75_2 : fieldOff Try.prog 75 2 = some 2 := by kernel_rfl
@[simp] theorem pf75_2 (cs : List V) : pField Try.prog 75 2 (.agg cs) = rd Try.prog 9 cs 2 := by unfold pField; simp
@[simp] theorem cellsOf76 : Program.cellsOf Try.prog 76 = 3 := by kernel_rfl
@[simp] theorem info76 : Try.prog.info? 76 = some Try.t76 := by kernel_rfl
@[simp] theorem tsize76 : Try.t76.size = 3 := rfl
@[simp] theorem tbytes76 : Try.t76.bytes = 40 := rfl
@[simp] theorem zeroV76 : zeroV Try.prog 76 = some (.agg [.str [], .int .u8 0, .str []]) := by kernel_rfl
theorem tz76 : (Try.t76.zero).map (fun z => z.cells.size) = some 3 := by kernel_rfl
@[simp] theorem tzero76 : ∃ z, Try.t76.zero = some z ∧ z.cells.size = 3 := by have h := tz76; cases hz : Try.t76.zero with | none => rw [hz] at h; cases h | some z => rw [hz] at h; exact ⟨z, rfl, by simpa using h⟩
@[simp] theorem rd76 (cs : List V) (off : Nat) : rd Try.prog 76 cs off = if off + 3 ≤ cs.length then some (.agg ((cs.drop off).take 3)) else none := by unfold rd; simp
@[simp] theorem fo76_0 : fieldOff Try.prog 76 0 = some 0 := by kernel_rfl
@[simp] theorem pf76_0 (cs : List V) : pField Try.prog 76 0 (.agg cs) = rd Try.prog 9 cs 0 := by unfold pField; simp
@[simp] theorem fo76_1 : fieldOff Try.prog 76 1 = some 1 := by kernel_rfl
@[simp] theorem pf76_1 (cs : List V) : pField Try.prog 76 1 (.agg cs) = rd Try.prog 5 cs 1 := by unfold pField; simp
@[simp] theorem fo76_2 : fieldOff Try.prog 76 2 = some 2 := by kernel_rfl
@[simp] theorem pf76_2 (cs : List V) : pField Try.prog 76 2 (.agg cs) = rd Try.prog 9 cs 2 := by unfold pField; simp
@[simp] theorem cellsOf77 : Program.cellsOf Try.prog 77 = 1 := by kernel_rfl
@[simp] theorem info77 : Try.prog.info? 77 = some Try.t77 := by kernel_rfl
@[simp] theorem tsize77 : Try.t77.size = 1 := rfl
@[simp] theorem tbytes77 : Try.t77.bytes = 8 := rfl
@[simp] theorem zeroV77 : zeroV Try.prog 77 = some (.nilf) := by kernel_rfl
theorem tz77 : (Try.t77.zero).map (fun z => z.cells.size) = some 1 := by kernel_rfl
@[simp] theorem tzero77 : ∃ z, Try.t77.zero = some z ∧ z.cells.size = 1 := by have h := tz77; cases hz : Try.t77.zero with | none => rw [hz] at h; cases h | some z => rw [hz] at h; exact ⟨z, rfl, by simpa using h⟩
@[simp] theorem rd77 (cs : List V) (off : Nat) : rd Try.prog 77 cs off = cs[off]? := by unfold rd; simp
@[simp] theorem cellsOf78 : Program.cellsOf Try.prog 78 = 1 := by kernel_rfl
@[simp] theorem info78 : Try.prog.info? 78 = some Try.t78 := by kernel_rfl
@[simp] theorem tsize78 : Try.t78.size = 1 := rfl
@[simp] theorem tbytes78 : Try.t78.bytes = 8 := rfl
@[simp] theorem zeroV78 : zeroV Try.prog 78 = some (.mapn) := by kernel_rfl
theorem tz78 : (Try.t78.zero).map (fun z => z.cells.size) = some 1 := by kernel_rfl
@[simp] theorem tzero78 : ∃ z, Try.t78.zero = some z ∧ z.cells.size = 1 := by have h := tz78; cases hz : Try.t78.zero with | none => rw [hz] at h; cases h | some z => rw [hz] at h; exact ⟨z, rfl, by simpa using h⟩
@[simp] theorem rd78 (cs : List V) (off : Nat) : rd Try.prog 78 cs off = cs[off]? := by unfold rd; simp
@[simp] theorem cellsOf79 : Program.cellsOf Try.prog 79 = 1 := by kernel_rfl
@[simp] theorem info79 : Try.prog.info? 79 = some Try.t79 := by kernel_rfl
@[simp] theorem tsize79 : Try.t79.size = 1 := rfl
@[simp] theorem tbytes79 : Try.t79.bytes = 8 := rfl
@[simp] theorem zeroV79 : zeroV Try.prog 79 = some (.nilf) := by kernel_rfl
theorem tz79 : (Try.t79.zero).map (fun z => z.cells.size) = some 1 := by kernel_rfl
@[simp] theorem tzero79 : ∃ z, Try.t79.zero = some z ∧ z.cells.size = 1 := by have h := tz79; cases hz : Try.t79.zero with | none => rw [hz] at h; cases h | some z => rw [hz] at h; exact ⟨z, rfl, by simpa using h⟩
@[simp] theorem rd79 (cs : List V) (off : Nat) : rd Try.prog 79 cs off = cs[off]? := by unfold rd; simp
@[simp] theorem cellsOf80 : Program.cellsOf Try.prog 80 = 1 := by kernel_rfl
@[simp] theorem info80 : Try.prog.info? 80 = some Try.t80 := by kernel_rfl
@[simp] theorem tsize80 : Try.t80.size = 1 := rfl
@[simp] theorem tbytes80 : Try.t80.bytes = 8 := rfl
@[simp] theorem zeroV80 : zeroV Try.prog 80 = some (.mapn) := by kernel_rfl
theorem tz80 : (Try.t80.zero).map (fun z => z.cells.size) = some 1 := by kernel_rfl
@[simp] theorem tzero80 : ∃ z, Try.t80.zero = some z ∧ z.cells.size = 1 := by have h := tz80; cases hz : Try.t80.zero with | none => rw [hz] at h; cases h | some z => rw [hz] at h; exact ⟨z, rfl, by simpa using h⟩
@[simp] theorem rd80 (cs : List V) (off : Nat) : rd Try.prog 80 cs off = cs[off]? := by unfold rd; simp
@[simp] theorem cellsOf81 : Program.cellsOf Try.prog 81 = 1 := by kernel_rfl
@[simp] theorem info81 : Try.prog.info? 81 = some Try.t81 := by kernel_rfl
@[simp] theorem tsize81 : Try.t81.size = 1 := rfl
@[simp] theorem tbytes81 : Try.t81.bytes = 8 := rfl
@[simp] theorem zeroV81 : zeroV Try.prog 81 = some (.mapn) := by kernel_rfl
theorem tz81 : (Try.t81.zero).map (fun z => z.cells.size) = some 1 := by kernel_rfl
@[simp] theorem tzero81 : ∃ z, Try.t81.zero = some z ∧ z.cells.size = 1 := by have h := tz81; cases hz : Try.t81.zero with | none => rw [hz] at h; cases h | some z => rw [hz] at h; exact ⟨z, rfl, by simpa using h⟩
@[simp] theorem rd81 (cs : List V) (off : Nat) : rd Try.prog 81 cs off = cs[off]? := by unfold rd; simp
@[simp] theorem cellsOf82 : Program.cellsOf Try.prog 82 = 2 := by kernel_rfl
@[simp] theorem info82 : Try.prog.info? 82 = some Try.t82 := by kernel_rfl
@[simp] theorem tsize82 : Try.t82.size = 2 := rfl
@[simp] theorem tbytes82 : Try.t82.bytes = 48 := rfl
@[simp] theorem zeroV82 : zeroV Try.prog 82 = some (.agg [.nils, .nils]) := by kernel_rfl
theorem tz82 : (Try.t82.zero).map (fun z => z.cells.size) = some 2 := by kernel_rfl
@[simp] theorem tzero82 : ∃ z, Try.t82.zero = some z ∧ z.cells.size = 2 := by have h := tz82; cases hz : Try.t82.zero with | none => rw [hz] at h; cases h | some z => rw [hz] at h; exact ⟨z, rfl, by simpa using h⟩
@[simp] theorem rd82 (cs : List V) (off : Nat) : rd Try.prog 82 cs off = if off + 2 ≤ cs.length then some (.agg ((cs.drop off).take 2)) else none := by unfold rd; simp
@[simp] theorem cellsOf83 : Program.cellsOf Try.prog 83 = 1 := by kernel_rfl
@[simp] theorem info83 : Try.prog.info? 83 = some Try.t83 := by kernel_rfl
@[simp] theorem tsize83 : Try.t83.size = 1 := rfl
@[simp] theorem tbytes83 : Try.t83.bytes = 8 := rfl
@[simp] theorem zeroV83 : zeroV Try.prog 83 = some (.nilf) := by kernel_rfl
theorem tz83 : (Try.t83.zero).map (fun z => z.cells.size) = some 1 := by kernel_rfl
@[simp] theorem tzero83 : ∃ z, Try.t83.zero = some z ∧ z.cells.size = 1 := by have h := tz83; cases hz : Try.t83.zero with | none => rw [hz] at h; cases h | some z => rw [hz] at h; exact ⟨z, rfl, by simpa using h⟩
@[simp] theorem rd83 (cs : List V) (off : Nat) : rd Try.prog 83 cs off = cs[off]? := by unfold rd; simp
@[simp] theorem cellsOf84 : Program.cellsOf Try.prog 84 = 1 := by kernel_rfl
@[simp] theorem info84 : Try.prog.info? 84 = some Try.t84 := by kernel_rfl
@[simp] theorem tsize84 : Try.t84.size = 1 := rfl
@[simp] theorem tbytes84 : Try.t84.bytes = 8 := rfl
@[simp] theorem zeroV84 : zeroV Try.prog 84 = some (.nilf) := by kernel_rfl
theorem tz84 : (Try.t84.zero).map (fun z => z.cells.size) = some 1 := by kernel_rfl
@[simp] theorem tzero84 : ∃ z, Try.t84.zero = some z ∧ z.cells.size = 1 := by have h := tz84; cases hz : Try.t84.zero with | none => rw [hz] at h; cases h | some z => rw [hz] at h; exact ⟨z, rfl, by simpa using h⟩
@[simp] theorem rd84 (cs : List V) (off : Nat) : rd Try.prog 84 cs off = cs[off]? := by unfold rd; simp
@[simp] theorem cellsOf85 : Program.cellsOf Try.prog 85 = 1 := by kernel_rfl
@[simp] theorem info85 : Try.prog.info? 85 = some Try.t85 := by kernel_rfl
@[simp] theorem tsize85 : Try.t85.size = 1 := rfl
@[simp] theorem tbytes85 : Try.t85.bytes = 8 := rfl
@[simp] theorem zeroV85 : zeroV Try.prog 85 = some (.nilf) := by kernel_rfl
theorem tz85 : (Try.t85.zero).map (fun z => z.cells.size) = some 1 := by kernel_rfl
@[simp] theorem tzero85 : ∃ z, Try.t85.zero = some z ∧ z.cells.size = 1 := by have h := tz85; cases hz : Try.t85.zero with | none => rw [hz] at h; cases h | some z => rw [hz] at h; exact ⟨z, rfl, by simpa using h⟩
@[simp] theorem rd85 (cs : List V) (off : Nat) : rd Try.prog 85 cs off = cs[off]? := by unfold rd; simp
@[simp] theorem cellsOf86 : Program.cellsOf Try.prog 86 = 1 := by kernel_rfl
@[simp] theorem info86 : Try.prog.info? 86 = some Try.t86 := by kernel_rfl
@[simp] theorem tsize86 : Try.t86.size = 1 := rfl
@[simp] theorem tbytes86 : Try.t86.bytes = 8 := rfl
@[simp] theorem zeroV86 : zeroV Try.prog 86 = some (.nilf) := by kernel_rfl
theorem tz86 : (Try.t86.zero).map (fun z => z.cells.size) = some 1 := by kernel_rfl
@[simp] theorem tzero86 : ∃ z, Try.t86.zero = some z ∧ z.cells.size = 1 := by have h := tz86; cases hz : Try.t86.zero with | none => rw [hz] at h; cases h | some z => rw [hz] at h; exact ⟨z, rfl, by simpa using h⟩
@[simp] theorem rd86 (cs : List V) (off : Nat) : rd Try.prog 86 cs off = cs[off]? := by unfold rd; simp
@[simp] theorem cellsOf87 : Program.cellsOf Try.prog 87 = 1 := by kernel_rfl
@[simp] theorem info87 : Try.prog.info? 87 = some Try.t87 := by kernel_rfl
@[simp] theorem tsize87 : Try.t87.size = 1 := rfl
@[simp] theorem tbytes87 : Try.t87.bytes = 8 := rfl
@[simp] theorem zeroV87 : zeroV Try.prog 87 = some (.nilf) := by kernel_rfl
theorem tz87 : (Try.t87.zero).map (fun z => z.cells.size) = some 1 := by kernel_rfl
@[simp] theorem tzero87 : ∃ z, Try.t87.zero = some z ∧ z.cells.size = 1 := by have h := tz87; cases hz : Try.t87.zero with | none => rw [hz] at h; cases h | some z => rw [hz] at h; exact ⟨z, rfl, by simpa using h⟩
@[simp] theorem rd87 (cs : List V) (off : Nat) : rd Try.prog 87 cs off = cs[off]? := by unfold rd; simp
@[simp] theorem cellsOf88 : Program.cellsOf Try.prog 88 = 1 := by kernel_rfl
@[simp] theorem info88 : Try.prog.info? 88 = some Try.t88 := by kernel_rfl
@[simp] theorem tsize88 : Try.t88.size = 1 := rfl
@[simp] theorem tbytes88 : Try.t88.bytes = 8 := rfl
@[simp] theorem zeroV88 : zeroV Try.prog 88 = some (.nilf) := by kernel_rfl
theorem tz88 : (Try.t88.zero).map (fun z => z.cells.size) = some 1 := by kernel_rfl
@[simp] theorem tzero88 : ∃ z, Try.t88.zero = some z ∧ z.cells.size = 1 := by have h := tz88; cases hz : Try.t88.zero with | none => rw [hz] at h; cases h | some z => rw [hz] at h; exact ⟨z, rfl, by simpa using h⟩
@[simp] theorem rd88 (cs : List V) (off : Nat) : rd Try.prog 88 cs off = cs[off]? := by unfold rd; simp
@[simp] theorem cellsOf89 : Program.cellsOf Try.prog 89 = 1 := by kernel_rfl
@[simp] theorem info89 : Try.prog.info? 89 = some Try.t89 := by kernel_rfl
@[simp] theorem tsize89 : Try.t89.size = 1 := rfl
@[simp] theorem tbytes89 : Try.t89.bytes = 8 := rfl
@[simp] theorem zeroV89 : zeroV Try.prog 89 = some (.nilf) := by kernel_rfl
theorem tz89 : (Try.t89.zero).map (fun z => z.cells.size) = some 1 := by kernel_rfl
@[simp] theorem tzero89 : ∃ z, Try.t89.zero = some z ∧ z.cells.size = 1 := by have h := tz89; cases hz : Try.t89.zero with | none => rw [hz] at h; cases h | some z => rw [hz] at h; exact ⟨z, rfl, by simpa using h⟩
@[simp] theorem rd89 (cs : List V) (off : Nat) : rd Try.prog 89 cs off = cs[off]? := by unfold rd; simp
@[simp] theorem cellsOf90 : Program.cellsOf Try.prog 90 = 1 := by kernel_rfl
@[simp] theorem info90 : Try.prog.info? 90 = some Try.t90 := by kernel_rfl
@[simp] theorem tsize90 : Try.t90.size = 1 := rfl
@[simp] theorem tbytes90 : Try.t90.bytes = 8 := rfl
@[simp] theorem zeroV90 : zeroV Try.prog 90 = some (.nilf) := by kernel_rfl
theorem tz90 : (Try.t90.zero).map (fun z => z.cells.size) = some 1 := by kernel_rfl
@[simp] theorem tzero90 : ∃ z, Try.t90.zero = some z ∧ z.cells.size = 1 := by have h := tz90; cases hz : Try.t90.zero with | none => rw [hz] at h; cases h | some z => rw [hz] at h; exact ⟨z, rfl, by simpa using h⟩
@[simp] theorem rd90 (cs : List V) (off : Nat) : rd Try.prog 90 cs off = cs[off]? := by unfold rd; simp
@[simp] theorem cellsOf91 : Program.cellsOf Try.prog 91 = 1 := by kernel_rfl
@[simp] theorem info91 : Try.prog.info? 91 = some Try.t91 := by kernel_rfl
@[simp] theorem tsize91 : Try.t91.size = 1 := rfl
@[simp] theorem tbytes91 : Try.t91.bytes = 8 := rfl
@[simp] theorem zeroV91 : zeroV Try.prog 91 = some (.nilf) := by kernel_rfl
theorem tz91 : (Try.t91.zero).map (fun z => z.cells.size) = some 1 := by kernel_rfl
@[simp] theorem tzero91 : ∃ z, Try.t91.zero = some z ∧ z.cells.size = 1 := by have h := tz91; cases hz : Try.t91.zero with | none => rw [hz] at h; cases h | some z => rw [hz] at h; exact ⟨z, rfl, by simpa using h⟩
@[simp] theorem rd91 (cs : List V) (off : Nat) : rd Try.prog 91 cs off = cs[off]? := by unfold rd; simp
@[simp] theorem cellsOf92 : Program.cellsOf Try.prog 92 = 1 := by kernel_rfl
@[simp] theorem info92 : Try.prog.info? 92 = some Try.t92 := by kernel_rfl
@[simp] theorem tsize92 : Try.t92.size = 1 := rfl
@[simp] theorem tbytes92 : Try.t92.bytes = 8 := rfl
@[simp] theorem zeroV92 : zeroV Try.prog 92 = some (.nilf) := by kernel_rfl
theorem tz92 : (Try.t92.zero).map (fun z => z.cells.size) = some 1 := by kernel_rfl
@[simp] theorem tzero92 : ∃ z, Try.t92.zero = some z ∧ z.cells.size = 1 := by have h := tz92; cases hz : Try.t92.zero with | none => rw [hz] at h; cases h | some z => rw [hz] at h; exact ⟨z, rfl, by simpa using h⟩
@[simp] theorem rd92 (cs : List V) (off : Nat) : rd Try.prog 92 cs off = cs[off]? := by unfold rd; simp
@[simp] theorem cellsOf93 : Program.cellsOf Try.prog 93 = 1 := by kernel_rfl
@[simp] theorem info93 : Try.prog.info? 93 = some Try.t93 := by kernel_rfl
@[simp] theorem tsize93 : Try.t93.size = 1 := rfl
@[simp] theorem tbytes93 : Try.t93.bytes = 8 := rfl
@[simp] theorem zeroV93 : zeroV Try.prog 93 = some (.nilf) := by kernel_rfl
theorem tz93 : (Try.t93.zero).map (fun z => z.cells.size) = some 1 := by kernel_rfl
@[simp] theorem tzero93 : ∃ z, Try.t93.zero = some z ∧ z.cells.size = 1 := by have h := tz93; cases hz : Try.t93.zero with | none => rw [hz] at h; cases h | some z => rw [hz] at h; exact ⟨z, rfl, by simpa using h⟩
@[simp] theorem rd93 (cs : List V) (off : Nat) : rd Try.prog 93 cs off = cs[off]? := by unfold rd; simp
@[simp] theorem cellsOf94 : Program.cellsOf Try.prog 94 = 1 := by kernel_rfl
@[simp] theorem info94 : Try.prog.info? 94 = some Try.t94 := by kernel_rfl
@[simp] theorem tsize94 : Try.t94.size = 1 := rfl
@[simp] theorem tbytes94 : Try.t94.bytes = 8 := rfl
@[simp] theorem zeroV94 : zeroV Try.prog 94 = some (.nilf) := by kernel_rfl
theorem tz94 : (Try.t94.zero).map (fun z => z.cells.size) = some 1 := by kernel_rfl
@[simp] theorem tzero94 : ∃ z, Try.t94.zero = some z ∧ z.cells.size = 1 := by have h := tz94; cases hz : Try.t94.zero with | none => rw [hz] at h; cases h | some z => rw [hz] at h; exact ⟨z, rfl, by simpa using h⟩
@[simp] theorem rd94 (cs : List V) (off : Nat) : rd Try.prog 94 cs off = cs[off]? := by unfold rd; simp
@[simp] theorem cellsOf95 : Program.cellsOf Try.prog 95 = 1 := by kernel_rfl
@[simp] theorem info95 : Try.prog.info? 95 = some Try.t95 := by kernel_rfl
@[simp] theorem tsize95 : Try.t95.size = 1 := rfl
@[simp] theorem tbytes95 : Try.t95.bytes = 8 := rfl
@[simp] theorem zeroV95 : zeroV Try.prog 95 = some (.nilf) := by kernel_rfl
theorem tz95 : (Try.t95.zero).map (fun z => z.cells.size) = some 1 := by kernel_rfl
@[simp] theorem tzero95 : ∃ z, Try.t95.zero = some z ∧ z.cells.size = 1 := by have h := tz95; cases hz : Try.t95.zero with | none => rw [hz] at h; cases h | some z => rw [hz] at h; exact ⟨z, rfl, by simpa using h⟩
@[simp] theorem rd95 (cs : List V) (off : Nat) : rd Try.prog 95 cs off = cs[off]? := by unfold rd; simp
@[simp] theorem cellsOf96 : Program.cellsOf Try.prog 96 = 1 := by kernel_rfl
@[simp] theorem info96 : Try.prog.info? 96 = some Try.t96 := by kernel_rfl
@[simp] theorem tsize96 : Try.t96.size = 1 := rfl
@[simp] theorem tbytes96 : Try.t96.bytes = 8 := rfl
@[simp] theorem zeroV96 : zeroV Try.prog 96 = some (.nilf) := by kernel_rfl
theorem tz96 : (Try.t96.zero).map (fun z => z.cells.size) = some 1 := by kernel_rfl
@[simp] theorem tzero96 : ∃ z, Try.t96.zero = some z ∧ z.cells.size = 1 := by have h := tz96; cases hz : Try.t96.zero with | none => rw [hz] at h; cases h | some z => rw [hz] at h; exact ⟨z, rfl, by simpa using h⟩
@[simp] theorem rd96 (cs : List V) (off : Nat) : rd Try.prog 96 cs off = cs[off]? := by unfold rd; simp
@[simp] theorem cellsOf97 : Program.cellsOf Try.prog 97 = 1 := by kernel_rfl
@[simp] theorem info97 : Try.prog.info? 97 = some Try.t97 := by kernel_rfl
@[simp] theorem tsize97 : Try.t97.size = 1 := rfl
@[simp] theorem tbytes97 : Try.t97.bytes = 8 := rfl
@[simp] theorem zeroV97 : zeroV Try.prog 97 = some (.nilf) := by kernel_rfl
theorem tz97 : (Try.t97.zero).map (fun z => z.cells.size) = some 1 := by kernel_rfl
@[simp] theorem tzero97 : ∃ z, Try.t97.zero = some z ∧ z.cells.size = 1 := by have h := tz97; cases hz : Try.t97.zero with | none => rw [hz] at h; cases h | some z => rw [hz] at h; exact ⟨z, rfl, by simpa using h⟩
@[simp] theorem rd97 (cs : List V) (off : Nat) : rd Try.prog 97 cs off = cs[off]? := by unfold rd; simp
@[simp] theorem cellsOf98 : Program.cellsOf Try.prog 98 = 1 := by kernel_rfl
@[simp] theorem info98 : Try.prog.info? 98 = some Try.t98 := by kernel_rfl
@[simp] theorem tsize98 : Try.t98.size = 1 := rfl
@[simp] theorem tbytes98 : Try.t98.bytes = 8 := rfl
@[simp] theorem zeroV98 : zeroV Try.prog 98 = some (.nilf) := by kernel_rfl
theorem tz98 : (Try.t98.zero).map (fun z => z.cells.size) = some 1 := by kernel_rfl
@[simp] theorem tzero98 : ∃ z, Try.t98.zero = some z ∧ z.cells.size = 1 := by have h := tz98; cases hz : Try.t98.zero with | none => rw [hz] at h; cases h | some z => rw [hz] at h; exact ⟨z, rfl, by simpa using h⟩
@[simp] theorem rd98 (cs : List V) (off : Nat) : rd Try.prog 98 cs off = cs[off]? := by unfold rd; simp
@[simp] theorem cellsOf99 : Program.cellsOf Try.prog 99 = 1 := by kernel_rfl
@[simp] theorem info99 : Try.prog.info? 99 = some Try.t99 := by kernel_rfl
@[simp] theorem tsize99 : Try.t99.size = 1 := rfl
@[simp] theorem tbytes99 : Try.t99.bytes = 8 := rfl
@[simp] theorem zeroV99 : zeroV Try.prog 99 = some (.nilf) := by kernel_rfl
theorem tz99 : (Try.t99.zero).map (fun z => z.cells.size) = some 1 := by kernel_rfl
@[simp] theorem tzero99 : ∃ z, Try.t99.zero = some z ∧ z.cells.size = 1 := by have h := tz99; cases hz : Try.t99.zero with | none => rw [hz] at h; cases h | some z => rw [hz] at h; exact ⟨z, rfl, by simpa using h⟩
@[simp] theorem rd99 (cs : List V) (off : Nat) : rd Try.prog 99 cs off = cs[off]? := by unfold rd; simp
@[simp] theorem cellsOf100 : Program.cellsOf Try.prog 100 = 1 := by kernel_rfl
@[simp] theorem info100 : Try.prog.info? 100 = some Try.t100 := by kernel_rfl
@[simp] theorem tsize100 : Try.t100.size = 1 := rfl
@[simp] theorem tbytes100 : Try.t100.bytes = 8 := rfl
@[simp] theorem zeroV100 : zeroV Try.prog 100 = some (.nilf) := by kernel_rfl
theorem tz100 : (Try.t100.zero).map (fun z => z.cells.size) = some 1 := by kernel_rfl
@[simp] theorem tzero100 : ∃ z, Try.t100.zero = some z ∧ z.cells.size = 1 := by have h := tz100; cases hz : Try.t100.zero with | none => rw [hz] at h; cases h | some z => rw [hz] at h; exact ⟨z, rfl, by simpa using h⟩
@[simp] theorem rd100 (cs : List V) (off : Nat) : rd Try.prog 100 cs off = cs[off]? := by unfold rd; simp
@[simp] theorem cellsOf101 : Program.cellsOf Try.prog 101 = 1 := by kernel_rfl
@[simp] theorem info101 : Try.prog.info? 101 = some Try.t101 := by kernel_rfl
@[simp] theorem tsize101 : Try.t101.size = 1 := rfl
@[simp] theorem tbytes101 : Try.t101.bytes = 8 := rfl
@[simp] theorem zeroV101 : zeroV Try.prog 101 = some (.nilf) := by kernel_rfl
theorem tz101 : (Try.t101.zero).map (fun z => z.cells.size) = some 1 := by kernel_rfl
@[simp] theorem tzero101 : ∃ z, Try.t101.zero = some z ∧ z.cells.size = 1 := by have h := tz101; cases hz : Try.t101.zero with | none => rw [hz] at h; cases h | some z => rw [hz] at h; exact ⟨z, rfl, by simpa using h⟩
@[simp] theorem rd101 (cs : List V) (off : Nat) : rd Try.prog 101 cs off = cs[off]? := by unfold rd; simp
@[simp] theorem cellsOf102 : Program.cellsOf Try.prog 102 = 1 := by kernel_rfl
@[simp] theorem info102 : Try.prog.info? 102 = some Try.t102 := by kernel_rfl
@[simp] theorem tsize102 : Try.t102.size = 1 := rfl
@[simp] theorem tbytes102 : Try.t102.bytes = 8 := rfl
@[simp] theorem zeroV102 : zeroV Try.prog 102 = some (.nilf) := by kernel_rfl
theorem tz102 : (Try.t102.zero).map (fun z => z.cells.size) = some 1 := by kernel_rfl
@[simp] theorem tzero102 : ∃ z, Try.t102.zero = some z ∧ z.cells.size = 1 := by have h := tz102; cases hz : Try.t102.zero with | none => rw [hz] at h; cases h | some z => rw [hz] at h; exact ⟨z, rfl, by simpa using h⟩
@[simp] theorem rd102 (cs : List V) (off : Nat) : rd Try.prog 102 cs off = cs[off]? := by unfold rd; simp
@[simp] theorem cellsOf103 : Program.cellsOf Try.prog 103 = 1 := by kernel_rfl
@[simp] theorem info103 : Try.prog.info? 103 = some Try.t103 := by kernel_rfl
@[simp] theorem tsize103 : Try.t103.size = 1 := rfl
@[simp] theorem tbytes103 : Try.t103.bytes = 8 := rfl
@[simp] theorem zeroV103 : zeroV Try.prog 103 = some (.nilf) := by kernel_rfl
theorem tz103 : (Try.t103.zero).map (fun z => z.cells.size) = some 1 := by kernel_rfl
@[simp] theorem tzero103 : ∃ z, Try.t103.zero = some z ∧ z.cells.size = 1 := by have h := tz103; cases hz : Try.t103.zero with | none => rw [hz] at h; cases h | some z => rw [hz] at h; exact ⟨z, rfl, by simpa using h⟩
@[simp] theorem rd103 (cs : List V) (off : Nat) : rd Try.prog 103 cs off = cs[off]? := by unfold rd; simp
@[simp] theorem cellsOf104 : Program.cellsOf Try.prog 104 = 2 := by kernel_rfl
@[simp] theorem info104 : Try.prog.info? 104 = some Try.t104 := by kernel_rfl
@[simp] theorem tsize104 : Try.t104.size = 2 := rfl
@[simp] theorem tbytes104 : Try.t104.bytes = 24 := rfl
@[simp] theorem zeroV104 : zeroV Try.prog 104 = some (.agg [.str [], .int .i64 0]) := by kernel_rfl
theorem tz104 : (Try.t104.zero).map (fun z => z.cells.size) = some 2 := by kernel_rfl
@[simp] theorem tzero104 : ∃ z, Try.t104.zero = some z ∧ z.cells.size = 2 := by have h := tz104; cases hz : Try.t104.zero with | none => rw [hz] at h; cases h | some z => rw [hz] at h; exact ⟨z, rfl, by simpa using h⟩
@[simp] theorem rd104 (cs : List V) (off : Nat) : rd Try.prog 104 cs off = if off + 2 ≤ cs.length then some (.agg ((cs.drop off).take 2)) else none := by unfold rd; simp
@[simp] theorem fo104_0 : fieldOff Try.prog 104 0 = some 0 := by kernel_rfl
@[simp] theorem pf104_0 (cs : List V) : pField Try.prog 104 0 (.agg cs) = rd Try.prog 9 cs 0 := by unfold pField; simp
@[simp] theorem fo104_1 : fieldOff Try.prog 104 1 = some 1 := by kernel_rfl
@[simp] theorem pf104_1 (cs : List V) : pField Try.prog 104 1 (.agg cs) = rd Try.prog 3 cs 1 := by unfold pField; simp
@[simp] theorem cellsOf105 : Program.cellsOf Try.prog 105 = 2 := by kernel_rfl
@[simp] theorem info105 : Try.prog.info? 105 = some Try.t105 := by kernel_rfl
@[simp] theorem tsize105 : Try.t105.size = 2 := rfl
@[simp] theorem tbytes105 : Try.t105.bytes = 24 := rfl
@[simp] theorem zeroV105 : zeroV Try.prog 105 = some (.agg [.str [], .int .i64 0]) := by kernel_rfl
theorem tz105 : (Try.t105.zero).map (fun z => z.cells.size) = some 2 := by kernel_rfl
@[simp] theorem tzero105 : ∃ z, Try.t105.zero = some z ∧ z.cells.size = 2 := by have h := tz105; cases hz : Try.t105.zero with | none => rw [hz] at h; cases h | some z => rw [hz] at h; exact ⟨z, rfl, by simpa using h⟩
@[simp] theorem rd105 (cs : List V) (off : Nat) : rd Try.prog 105 cs off = if off + 2 ≤ cs.length then some (.agg ((cs.drop off).take 2)) else none := by unfold rd; simp
@[simp] theorem fo105_0 : fieldOff Try.prog 105 0 = some 0 := by kernel_rfl
@[simp] theorem pf105_0 (cs : List V) : pField Try.prog 105 0 (.agg cs) = rd Try.prog 9 cs 0 := by unfold pField; simp
@[simp] theorem fo105_1 : fieldOff Try.prog 105 1 = some 1 := by kernel_rfl
@[simp] theorem pf105_1 (cs : List V) : pField Try.prog 105 1 (.agg cs) = rd Try.prog 3 cs 1 := by unfold pField; simp
@[simp] theorem cellsOf107 : Program.cellsOf Try.prog 107 = 1 := by kernel_rfl
@[simp] theorem info107 : Try.prog.info? 107 = some Try.t107 := by kernel_rfl
@[simp] theorem tsize107 : Try.t107.size = 1 := rfl
@[simp] theorem tbytes107 : Try.t107.bytes = 8 := rfl
@[simp] theorem zeroV107 : zeroV Try.prog 107 = some (.nilf) := by kernel_rfl
theorem tz107 : (Try.t107.zero).map (fun z => z.cells.size) = some 1 := by kernel_rfl
@[simp] theorem tzero107 : ∃ z, Try.t107.zero = some z ∧ z.cells.size = 1 := by have h := tz107; cases hz : Try.t107.zero with | none => rw [hz] at h; cases h | some z => rw [hz] at h; exact ⟨z, rfl, by simpa using h⟩
@[simp] theorem rd107 (cs : List V) (off : Nat) : rd Try.prog 107 cs off = cs[off]? := by unfold rd; simp
@[simp] theorem cellsOf108 : Program.cellsOf Try.prog 108 = 1 := by kernel_rfl
@[simp] theorem info108 : Try.prog.info? 108 = some Try.t108 := by kernel_rfl
@[simp] theorem tsize108 : Try.t108.size = 1 := rfl
@[simp] theorem tbytes108 : Try.t108.bytes = 8 := rfl
@[simp] theorem zeroV108 : zeroV Try.prog 108 = some (.nilf) := by kernel_rfl
theorem tz108 : (Try.t108.zero).map (fun z => z.cells.size) = some 1 := by kernel_rfl
@[simp] theorem tzero108 : ∃ z, Try.t108.zero = some z ∧ z.cells.size = 1 := by have h := tz108; cases hz : Try.t108.zero with | none => rw [hz] at h; cases h | some z => rw [hz] at h; exact ⟨z, rfl, by simpa using h⟩
@[simp] theorem rd108 (cs : List V) (off : Nat) : rd Try.prog 108 cs off = cs[off]? := by unfold rd; simp
@[simp] theorem cellsOf109 : Program.cellsOf Try.prog 109 = 1 := by kernel_rfl
@[simp] theorem info109 : Try.prog.info? 109 = some Try.t109 := by kernel_rfl
@[simp] theorem tsize109 : Try.t109.size = 1 := rfl
@[simp] theorem tbytes109 : Try.t109.bytes = 8 := rfl
@[simp] theorem zeroV109 : zeroV Try.prog 109 = some (.nilf) := by kernel_rfl
theorem tz109 : (Try.t109.zero).map (fun z => z.cells.size) = some 1 := by kernel_rfl
@[simp] theorem tzero109 : ∃ z, Try.t109.zero = some z ∧ z.cells.size = 1 := by have h := tz109; cases hz : Try.t109.zero with | none => rw [hz] at h; cases h | some z => rw [hz] at h; exact ⟨z, rfl, by simpa using h⟩
@[simp] theorem rd109 (cs : List V) (off : Nat) : rd Try.prog 109 cs off = cs[off]? := by unfold rd; simp
@[simp] theorem cellsOf110 : Program.cellsOf Try.prog 110 = 1 := by kernel_rfl
@[simp] theorem info110 : Try.prog.info? 110 = some Try.t110 := by kernel_rfl
@[simp] theorem tsize110 : Try.t110.size = 1 := rfl
@[simp] theorem tbytes110 : Try.t110.bytes = 8 := rfl
@[simp] theorem zeroV110 : zeroV Try.prog 110 = some (.nilf) := by kernel_rfl
theorem tz110 : (Try.t110.zero).map (fun z => z.cells.size) = some 1 := by kernel_rfl
@[simp] theorem tzero110 : ∃ z, Try.t110.zero = some z ∧ z.cells.size = 1 := by have h := tz110; cases hz : Try.t110.zero with | none => rw [hz] at h; cases h | some z => rw [hz] at h; exact ⟨z, rfl, by simpa using h⟩
@[simp] theorem rd110 (cs : List V) (off : Nat) : rd Try.prog 110 cs off = cs[off]? := by unfold rd; simp
@[simp] theorem cellsOf111 : Program.cellsOf Try.prog 111 = 1 := by kernel_rfl
@[simp] theorem info111 : Try.prog.info? 111 = some Try.t111 := by kernel_rfl
@[simp] theorem tsize111 : Try.t111.size = 1 := rfl
@[simp] theorem tbytes111 : Try.t111.bytes = 8 := rfl
@[simp] theorem zeroV111 : zeroV Try.prog 111 = some (.nilf) := by kernel_rfl
theorem tz111 : (Try.t111.zero).map (fun z => z.cells.size) = some 1 := by kernel_rfl
@[simp] theorem tzero111 : ∃ z, Try.t111.zero = some z ∧ z.cells.size = 1 := by have h := tz111; cases hz : Try.t111.zero with | none => rw [hz] at h; cases h | some z => rw [hz] at h; exact ⟨z, rfl, by simpa using h⟩
@[simp] theorem rd111 (cs : List V) (off : Nat) : rd Try.prog 111 cs off = cs[off]? := by unfold rd; simp
@[simp] theorem cellsOf112 : Program.cellsOf Try.prog 112 = 1 := by kernel_rfl
@[simp] theorem info112 : Try.prog.info? 112 = some Try.t112 := by kernel_rfl
@[simp] theorem tsize112 : Try.t112.size = 1 := rfl
@[simp] theorem tbytes112 : Try.t112.bytes = 8 := rfl
@[simp] theorem zeroV112 : zeroV Try.prog 112 = some (.int .u64 0) := by kernel_rfl
theorem tz112 : (Try.t112.zero).map (fun z => z.cells.size) = some 1 := by kernel_rfl
@[simp] theorem tzero112 : ∃ z, Try.t112.zero = some z ∧ z.cells.size = 1 := by have h := tz112; cases hz : Try.t112.zero with | none => rw [hz] at h; cases h | some z => rw [hz] at h; exact ⟨z, rfl, by simpa using h⟩
@[simp] theorem rd112 (cs : List V) (off : Nat) : rd Try.prog 112 cs off = cs[off]? := by unfold rd; simp
@[simp] theorem cellsOf113 : Program.cellsOf Try.prog 113 = 1 := by kernel_rfl
@[simp] theorem info113 : Try.prog.info? 113 = some Try.t113 := by kernel_rfl
@[simp] theorem tsize113 : Try.t113.size = 1 := rfl
@[simp] theorem tbytes113 : Try.t113.bytes = 8 := rfl
@[simp] theorem zeroV113 : zeroV Try.prog 113 = some (.nilf) := by kernel_rfl
theorem tz113 : (Try.t113.zero).map (fun z => z.cells.size) = some 1 := by kernel_rfl
@[simp] theorem tzero113 : ∃ z, Try.t113.zero = some z ∧ z.cells.size = 1 := by have h := tz113; cases hz : Try.t113.zero with | none => rw [hz] at h; cases h | some z => rw [hz] at h; exact ⟨z, rfl, by simpa using h⟩
@[simp] theorem rd113 (cs : List V) (off : Nat) : rd Try.prog 113 cs off = cs[off]? := by unfold rd; simp
@[simp] theorem cellsOf114 : Program.cellsOf Try.prog 114 = 1 := by kernel_rfl
@[simp] theorem info114 : Try.prog.info? 114 = some Try.t114 := by kernel_rfl
@[simp] theorem tsize114 : Try.t114.size = 1 := rfl
@[simp] theorem tbytes114 : Try.t114.bytes = 8 := rfl
@[simp] theorem zeroV114 : zeroV Try.prog 114 = some (.nilf) := by kernel_rfl
theorem tz114 : (Try.t114.zero).map (fun z => z.cells.size) = some 1 := by kernel_rfl
@[simp] theorem tzero114 : ∃ z, Try.t114.zero = some z ∧ z.cells.size = 1 := by have h := tz114; cases hz : Try.t114.zero with | none => rw [hz] at h; cases h | some z => rw [hz] at h; exact ⟨z, rfl, by simpa using h⟩
@[simp] theorem rd114 (cs : List V) (off : Nat) : rd Try.prog 114 cs off = cs[off]? := by unfold rd; simp
@[simp] theorem cellsOf116 : Program.cellsOf Try.prog 116 = 1 := by kernel_rfl
@[simp] theorem info116 : Try.prog.info? 116 = some Try.t116 := by kernel_rfl
@[simp] theorem tsize116 : Try.t116.size = 1 := rfl
@[simp] theorem tbytes116 : Try.t116.bytes = 8 := rfl
@[simp] theorem zeroV116 : zeroV Try.prog 116 = some (.nilf) := by kernel_rfl
theorem tz116 : (Try.t116.zero).map (fun z => z.cells.size) = some 1 := by kernel_rfl
@[simp] theorem tzero116 : ∃ z, Try.t116.zero = some z ∧ z.cells.size = 1 := by have h := tz116; cases hz : Try.t116.zero with | none => rw [hz] at h; cases h | some z => rw [hz] at h; exact ⟨z, rfl, by simpa using h⟩
@[simp] theorem rd116 (cs : List V) (off : Nat) : rd Try.prog 116 cs off = cs[off]? := by unfold rd; simp
@[simp] theorem cellsOf118 : Program.cellsOf Try.prog 118 = 1 := by kernel_rfl
@[simp] theorem info118 : Try.prog.info? 118 = some Try.t118 := by kernel_rfl
@[simp] theorem tsize118 : Try.t118.size = 1 := rfl
@[simp] theorem tbytes118 : Try.t118.bytes = 8 := rfl
@[simp] theorem zeroV118 : zeroV Try.prog 118 = some (.nilf) := by kernel_rfl
theorem tz118 : (Try.t118.zero).map (fun z => z.cells.size) = some 1 := by kernel_rfl
@[simp] theorem tzero118 : ∃ z, Try.t118.zero = some z ∧ z.cells.size = 1 := by have h := tz118; cases hz : Try.t118.zero with | none => rw [hz] at h; cases h | some z => rw [hz] at h; exact ⟨z, rfl, by simpa using h⟩
@[simp] theorem rd118 (cs : List V) (off : Nat) : rd Try.prog 118 cs off = cs[off]? := by unfold rd; simp
@[simp] theorem cellsOf119 : Program.cellsOf Try.prog 119 = 1 := by kernel_rfl
@[simp] theorem info119 : Try.prog.info? 119 = some Try.t119 := by kernel_rfl
@[simp] theorem tsize119 : Try.t119.size = 1 := rfl
@[simp] theorem tbytes119 : Try.t119.bytes = 24 := rfl
@[simp] theorem zeroV119 : zeroV Try.prog 119 = some (.nils) := by kernel_rfl
theorem tz119 : (Try.t119.zero).map (fun z => z.cells.size) = some 1 := by kernel_rfl
@[simp] theorem tzero119 : ∃ z, Try.t119.zero = some z ∧ z.cells.size = 1 := by have h := tz119; cases hz : Try.t119.zero with | none => rw [hz] at h; cases h | some z => rw [hz] at h; exact ⟨z, rfl, by simpa using h⟩
@[simp] theorem rd119 (cs : List V) (off : Nat) : rd Try.prog 119 cs off = cs[off]? := by unfold rd; simp
@[simp] theorem cellsOf120 : Program.cellsOf Try.prog 120 = 1 := by kernel_rfl
@[simp] theorem info120 : Try.prog.info? 120 = some Try.t120 := by kernel_rfl
@[simp] theorem tsize120 : Try.t120.size = 1 := rfl
@[simp] theorem tbytes120 : Try.t120.bytes = 8 := rfl
@[simp] theorem zeroV120 : zeroV Try.prog 120 = some (.nilf) := by kernel_rfl
theorem tz120 : (Try.t120.zero).map (fun z => z.cells.size) = some 1 := by kernel_rfl
@[simp] theorem tzero120 : ∃ z, Try.t120.zero = some z ∧ z.cells.size = 1 := by have h := tz120; cases hz : Try.t120.zero with | none => rw [hz] at h; cases h | some z => rw [hz] at h; exact ⟨z, rfl, by simpa using h⟩
@[simp] theorem rd120 (cs : List V) (off : Nat) : rd Try.prog 120 cs off = cs[off]? := by unfold rd; simp
@[simp] theorem cellsOf122 : Program.cellsOf Try.prog 122 = 1 := by kernel_rfl
@[simp] theorem info122 : Try.prog.info? 122 = some Try.t122 := by kernel_rfl
@[simp] theorem tsize122 : Try.t122.size = 1 := rfl
@[simp] theorem tbytes122 : Try.t122.bytes = 8 := rfl
@[simp] theorem zeroV122 : zeroV Try.prog 122 = some (.nilf) := by kernel_rfl
theorem tz122 : (Try.t122.zero).map (fun z => z.cells.size) = some 1 := by kernel_rfl
@[simp] theorem tzero122 : ∃ z, Try.t122.zero = some z ∧ z.cells.size = 1 := by have h := tz122; cases hz : Try.t122.zero with | none => rw [hz] at h; cases h | some z => rw [hz] at h; exact ⟨z, rfl, by simpa using h⟩
@[simp] theorem rd122 (cs : List V) (off : Nat) : rd Try.prog 122 cs off = cs[off]? := by unfold rd; simp
@[simp] theorem cellsOf123 : Program.cellsOf Try.prog 123 = 1 := by kernel_rfl
@[simp] theorem info123 : Try.prog.info? 123 = some Try.t123 := by kernel_rfl
@[simp] theorem tsize123 : Try.t123.size = 1 := rfl
@[simp] theorem tbytes123 : Try.t123.bytes = 8 := rfl
@[simp] theorem zeroV123 : zeroV Try.prog 123 = some (.nilf) := by kernel_rfl
theorem tz123 : (Try.t123.zero).map (fun z => z.cells.size) = some 1 := by kernel_rfl
@[simp] theorem tzero123 : ∃ z, Try.t123.zero = some z ∧ z.cells.size = 1 := by have h := tz123; cases hz : Try.t123.zero with | none => rw [hz] at h; cases h | some z => rw [hz] at h; exact ⟨z, rfl, by simpa using h⟩
@[simp] theorem rd123 (cs : List V) (off : Nat) : rd Try.prog 123 cs off = cs[off]? := by unfold rd; simp
@[simp] theorem cellsOf124 : Program.cellsOf Try.prog 124 = 1 := by kernel_rfl
@[simp] theorem info124 : Try.prog.info? 124 = some Try.t124 := by kernel_rfl
@[simp] theorem tsize124 : Try.t124.size = 1 := rfl
@[simp] theorem tbytes124 : Try.t124.bytes = 8 := rfl
@[simp] theorem zeroV124 : zeroV Try.prog 124 = some (.nilf) := by kernel_rfl
theorem tz124 : (Try.t124.zero).map (fun z => z.cells.size) = some 1 := by kernel_rfl
@[simp] theorem tzero124 : ∃ z, Try.t124.zero = some z ∧ z.cells.size = 1 := by have h := tz124; cases hz : Try.t124.zero with | none => rw [hz] at h; cases h | some z => rw [hz] at h; exact ⟨z, rfl, by simpa using h⟩
@[simp] theorem rd124 (cs : List V) (off : Nat) : rd Try.prog 124 cs off = cs[off]? := by unfold rd; simp
@[simp] theorem cellsOf125 : Program.cellsOf Try.prog 125 = 1 := by kernel_rfl
@[simp] theorem info125 : Try.prog.info? 125 = some Try.t125 := by kernel_rfl
@[simp] theorem tsize125 : Try.t125.size = 1 := rfl
@[simp] theorem tbytes125 : Try.t125.bytes = 8 := rfl
@[simp] theorem zeroV125 : zeroV Try.prog 125 = some (.int .i64 0) := by kernel_rfl
theorem tz125 : (Try.t125.zero).map (fun z => z.cells.size) = some 1 := by kernel_rfl
@[simp] theorem tzero125 : ∃ z, Try.t125.zero = some z ∧ z.cells.size = 1 := by have h := tz125; cases hz : Try.t125.zero with | none => rw [hz] at h; cases h | some z => rw [hz] at h; exact ⟨z, rfl, by simpa using h⟩
@[simp] theorem rd125 (cs : List V) (off : Nat) : rd Try.prog 125 cs off = cs[off]? := by unfold rd; simp
@[simp] theorem cellsOf127 : Program.cellsOf Try.prog 127 = 1 := by kernel_rfl
@[simp] theorem info127 : Try.prog.info? 127 = some Try.t127 := by kernel_rfl
@[simp] theorem tsize127 : Try.t127.size = 1 := rfl
@[simp] theorem tbytes127 : Try.t127.bytes = 8 := rfl
@[simp] theorem zeroV127 : zeroV Try.prog 127 = some (.nilf) := by kernel_rfl
theorem tz127 : (Try.t127.zero).map (fun z => z.cells.size) = some 1 := by kernel_rfl
@[simp] theorem tzero127 : ∃ z, Try.t127.zero = some z ∧ z.cells.size = 1 := by have h := tz127; cases hz : Try.t127.zero with | none => rw [hz] at h; cases h | some z => rw [hz] at h; exact ⟨z, rfl, by simpa using h⟩
@[simp] theorem rd127 (cs : List V) (off : Nat) : rd Try.prog 127 cs off = cs[off]? := by unfold rd; simp
@[simp] theorem cellsOf128 : Program.cellsOf Try.prog 128 = 1 := by kernel_rfl
@[simp] theorem info128 : Try.prog.info? 128 = some Try.t128 := by kernel_rfl
@[simp] theorem tsize128 : Try.t128.size = 1 := rfl
@[simp] theorem tbytes128 : Try.t128.bytes = 8 := rfl
@[simp] theorem zeroV128 : zeroV Try.prog 128 = some (.nilf) := by kernel_rfl
theorem tz128 : (Try.t128.zero).map (fun z => z.cells.size) = some 1 := by kernel_rfl
@[simp] theorem tzero128 : ∃ z, Try.t128.zero = some z ∧ z.cells.size = 1 := by have h := tz128; cases hz : Try.t128.zero with | none => rw [hz] at h; cases h | some z => rw [hz] at h; exact ⟨z, rfl, by simpa using h⟩
@[simp] theorem rd128 (cs : List V) (off : Nat) : rd Try.prog 128 cs off = cs[off]? := by unfold rd; simp
@[simp] theorem cellsOf129 : Program.cellsOf Try.prog 129 = 1 := by kernel_rfl
@[simp] theorem info129 : Try.prog.info? 129 = some Try.t129 := by kernel_rfl
@[simp] theorem tsize129 : Try.t129.size = 1 := rfl
@[simp] theorem tbytes129 : Try.t129.bytes = 8 := rfl
@[simp] theorem zeroV129 : zeroV Try.prog 129 = some (.nilf) := by kernel_rfl
theorem tz129 : (Try.t129.zero).map (fun z => z.cells.size) = some 1 := by kernel_rfl
@[simp] theorem tzero129 : ∃ z, Try.t129.zero = some z ∧ z.cells.size = 1 := by have h := tz129; cases hz : Try.t129.zero with | none => rw [hz] at h; cases h | some z => rw [hz] at h; exact ⟨z, rfl, by simpa using h⟩
@[simp] theorem rd129 (cs : List V) (off : Nat) : rd Try.prog 129 cs off = cs[off]? := by unfold rd; simp
@[simp] theorem cellsOf131 : Program.cellsOf Try.prog 131 = 1 := by kernel_rfl
@[simp] theorem info131 : Try.prog.info? 131 = some Try.t131 := by kernel_rfl
@[simp] theorem tsize131 : Try.t131.size = 1 := rfl
@[simp] theorem tbytes131 : Try.t131.bytes = 8 := rfl
@[simp] theorem zeroV131 : zeroV Try.prog 131 = some (.nilf) := by kernel_rfl
theorem tz131 : (Try.t131.zero).map (fun z => z.cells.size) = some 1 := by kernel_rfl
@[simp] theorem tzero131 : ∃ z, Try.t131.zero = some z ∧ z.cells.size = 1 := by have h := tz131; cases hz : Try.t131.zero with | none => rw [hz] at h; cases h | some z => rw [hz] at h; exact ⟨z, rfl, by simpa using h⟩
@[simp] theorem rd131 (cs : List V) (off : Nat) : rd Try.prog 131 cs off = cs[off]? := by unfold rd; simp
@[simp] theorem cellsOf132 : Program.cellsOf Try.prog 132 = 1 := by kernel_rfl
@[simp] theorem info132 : Try.prog.info? 132 = some Try.t132 := by kernel_rfl
@[simp] theorem tsize132 : Try.t132.size = 1 := rfl
@[simp] theorem tbytes132 : Try.t132.bytes = 8 := rfl
@[simp] theorem zeroV132 : zeroV Try.prog 132 = some (.nilf) := by kernel_rfl
theorem tz132 : (Try.t132.zero).map (fun z => z.cells.size) = some 1 := by kernel_rfl
@[simp] theorem tzero132 : ∃ z, Try.t132.zero = some z ∧ z.cells.size = 1 := by have h := tz132; cases hz : Try.t132.zero with | none => rw [hz] at h; cases h | some z => rw [hz] at h; exact ⟨z, rfl, by simpa using h⟩
@[simp] theorem rd132 (cs : List V) (off : Nat) : rd Try.prog 132 cs off = cs[off]? := by unfold rd; simp
@[simp] theorem cellsOf133 : Program.cellsOf Try.prog 133 = 1 := by kernel_rfl
@[simp] theorem info133 : Try.prog.info? 133 = some Try.t133 := by kernel_rfl
@[simp] theorem tsize133 : Try.t133.size = 1 := rfl
@[simp] theorem tbytes133 : Try.t133.bytes = 4 := rfl
@[simp] theorem zeroV133 : zeroV Try.prog 133 = some (.int .u32 0) := by kernel_rfl
theorem tz133 : (Try.t133.zero).map (fun z => z.cells.size) = some 1 := by kernel_rfl
@[simp] theorem tzero133 : ∃ z, Try.t133.zero = some z ∧ z.cells.size = 1 := by have h := tz133; cases hz : Try.t133.zero with | none => rw [hz] at h; cases h | some z => rw [hz] at h; exact ⟨z, rfl, by simpa using h⟩
@[simp] theorem rd133 (cs : List V) (off : Nat) : rd Try.prog 133 cs off = cs[off]? := by unfold rd; simp
@[simp] theorem cellsOf135 : Program.cellsOf Try.prog 135 = 1 := by kernel_rfl
@[simp] theorem info135 : Try.prog.info? 135 = some Try.t135 := by kernel_rfl
@[simp] theorem tsize135 : Try.t135.size = 1 := rfl
@[simp] theorem tbytes135 : Try.t135.bytes = 8 := rfl
@[simp] theorem zeroV135 : zeroV Try.prog 135 = some (.int .u64 0) := by kernel_rfl
theorem tz135 : (Try.t135.zero).map (fun z => z.cells.size) = some 1 := by kernel_rfl
@[simp] theorem tzero135 : ∃ z, Try.t135.zero = some z ∧ z.cells.size = 1 := by have h := tz135; cases hz : Try.t135.zero with | none => rw [hz] at h; cases h | some z => rw [hz] at h; exact ⟨z, rfl, by simpa using h⟩
@[simp] theorem rd135 (cs : List V) (off : Nat) : rd Try.prog 135 cs off = cs[off]? := by unfold rd; simp
@[simp] theorem cellsOf138 : Program.cellsOf Try.prog 138 = 1 := by kernel_rfl
@[simp] theorem info138 : Try.prog.info? 138 = some Try.t138 := by kernel_rfl
@[simp] theorem tsize138 : Try.t138.size = 1 := rfl
@[simp] theorem tbytes138 : Try.t138.bytes = 8 := rfl
@[simp] theorem zeroV138 : zeroV Try.prog 138 = some (.int .u64 0) := by kernel_rfl
theorem tz138 : (Try.t138.zero).map (fun z => z.cells.size) = some 1 := by kernel_rfl
@[simp] theorem tzero138 : ∃ z, Try.t138.zero = some z ∧ z.cells.size = 1 := by have h := tz138; cases hz : Try.t138.zero with | none => rw [hz] at h; cases h | some z => rw [hz] at h; exact ⟨z, rfl, by simpa using h⟩
@[simp] theorem rd138 (cs : List V) (off : Nat) : rd Try.prog 138 cs off = cs[off]? := by unfold rd; simp
@[simp] theorem cellsOf141 : Program.cellsOf Try.prog 141 = 1 := by kernel_rfl
@[simp] theorem info141 : Try.prog.info? 141 = some Try.t141 := by kernel_rfl
@[simp] theorem tsize141 : Try.t141.size = 1 := rfl
@[simp] theorem tbytes141 : Try.t141.bytes = 8 := rfl
@[simp] theorem zeroV141 : zeroV Try.prog 141 = some (.nilf) := by kernel_rfl
theorem tz141 : (Try.t141.zero).map (fun z => z.cells.size) = some 1 := by kernel_rfl
@[simp] theorem tzero141 : ∃ z, Try.t141.zero = some z ∧ z.cells.size = 1 := by have h := tz141; cases hz : Try.t141.zero with | none => rw [hz] at h; cases h | some z => rw [hz] at h; exact ⟨z, rfl, by simpa using h⟩
@[simp] theorem rd141 (cs : List V) (off : Nat) : rd Try.prog 141 cs off = cs[off]? := by unfold rd; simp
@[simp] theorem cellsOf142 : Program.cellsOf Try.prog 142 = 1 := by kernel_rfl
@[simp] theorem info142 : Try.prog.info? 142 = some Try.t142 := by kernel_rfl
@[simp] theorem tsize142 : Try.t142.size = 1 := rfl
@[simp] theorem tbytes142 : Try.t142.bytes = 8 := rfl
@[simp] theorem zeroV142 : zeroV Try.prog 142 = some (.nilp) := by kernel_rfl
theorem tz142 : (Try.t142.zero).map (fun z => z.cells.size) = some 1 := by kernel_rfl
@[simp] theorem tzero142 : ∃ z, Try.t142.zero = some z ∧ z.cells.size = 1 := by have h := tz142; cases hz : Try.t142.zero with | none => rw [hz] at h; cases h | some z => rw [hz] at h; exact ⟨z, rfl, by simpa using h⟩
@[simp] theorem rd142 (cs : List V) (off : Nat) : rd Try.prog 142 cs off = cs[off]? := by unfold rd; simp
@[simp] theorem cellsOf143 : Program.cellsOf Try.prog 143 = 1 := by kernel_rfl
@[simp] theorem info143 : Try.prog.info? 143 = some Try.t143 := by kernel_rfl
@[simp] theorem tsize143 : Try.t143.size = 1 := rfl
@[simp] theorem tbytes143 : Try.t143.bytes = 8 := rfl
@[simp] theorem zeroV143 : zeroV Try.prog 143 = some (.nilf) := by kernel_rfl
theorem tz143 : (Try.t143.zero).map (fun z => z.cells.size) = some 1 := by kernel_rfl
@[simp] theorem tzero143 : ∃ z, Try.t143.zero = some z ∧ z.cells.size = 1 := by have h := tz143; cases hz : Try.t143.zero with | none => rw [hz] at h; cases h | some z => rw [hz] at h; exact ⟨z, rfl, by simpa using h⟩
@[simp] theorem rd143 (cs : List V) (off : Nat) : rd Try.prog 143 cs off = cs[off]? := by unfold rd; simp
@[simp] theorem cellsOf148 : Program.cellsOf Try.prog 148 = 1 := by kernel_rfl
@[simp] theorem info148 : Try.prog.info? 148 = some Try.t148 := by kernel_rfl
@[simp] theorem tsize148 : Try.t148.size = 1 := rfl
@[simp] theorem tbytes148 : Try.t148.bytes = 8 := rfl
@[simp] theorem zeroV148 : zeroV Try.prog 148 = some (.nilf) := by kernel_rfl
theorem tz148 : (Try.t148.zero).map (fun z => z.cells.size) = some 1 := by kernel_rfl
@[simp] theorem tzero148 : ∃ z, Try.t148.zero = some z ∧ z.cells.size = 1 := by have h := tz148; cases hz : Try.t148.zero with | none => rw [hz] at h; cases h | some z => rw [hz] at h; exact ⟨z, rfl, by simpa using h⟩
@[simp] theorem rd148 (cs : List V) (off : Nat) : rd Try.prog 148 cs off = cs[off]? := by unfold rd; simp
@[simp] theorem cellsOf149 : Program.cellsOf Try.prog 149 = 1 := by kernel_rfl
@[simp] theorem info149 : Try.prog.info? 149 = some Try.t149 := by kernel_rfl
@[simp] theorem tsize149 : Try.t149.size = 1 := rfl
@[simp] theorem tbytes149 : Try.t149.bytes = 8 := rfl
@[simp] theorem zeroV149 : zeroV Try.prog 149 = some (.nilp) := by kernel_rfl
theorem tz149 : (Try.t149.zero).map (fun z => z.cells.size) = some 1 := by kernel_rfl
@[simp] theorem tzero149 : ∃ z, Try.t149.zero = some z ∧ z.cells.size = 1 := by have h := tz149; cases hz : Try.t149.zero with | none => rw [hz] at h; cases h | some z => rw [hz] at h; exact ⟨z, rfl, by simpa using h⟩
@[simp] theorem rd149 (cs : List V) (off : Nat) : rd Try.prog 149 cs off = cs[off]? := by unfold rd; simp
@[simp] theorem cellsOf150 : Program.cellsOf Try.prog 150 = 1 := by kernel_rfl
@[simp] theorem info150 : Try.prog.info? 150 = some Try.t150 := by kernel_rfl
@[simp] theorem tsize150 : Try.t150.size = 1 := rfl
@[simp] theorem tbytes150 : Try.t150.bytes = 8 := rfl
@[simp] theorem zeroV150 : zeroV Try.prog 150 = some (.nilf) := by kernel_rfl
theorem tz150 : (Try.t150.zero).map (fun z => z.cells.size) = some 1 := by kernel_rfl
@[simp] theorem tzero150 : ∃ z, Try.t150.zero = some z ∧ z.cells.size = 1 := by have h := tz150; cases hz : Try.t150.zero with | none => rw [hz] at h; cases h | some z => rw [hz] at h; exact ⟨z, rfl, by simpa using h⟩
@[simp] theorem rd150 (cs : List V) (off : Nat) : rd Try.prog 150 cs off = cs[off]? := by unfold rd; simp
@[simp] theorem cellsOf154 : Program.cellsOf Try.prog 154 = 4 := by kernel_rfl
@[simp] theorem info154 : Try.prog.info? 154 = some Try.t154 := by kernel_rfl
@[simp] theorem tsize154 : Try.t154.size = 4 := rfl
@[simp] theorem tbytes154 : Try.t154.bytes = 40 := rfl
@[simp] theorem zeroV154 : zeroV Try.prog 154 = some (.agg [.nilp, .nilp, .nilp, .str []]) := by kernel_rfl
theorem tz154 : (Try.t154.zero).map (fun z => z.cells.size) = some 4 := by kernel_rfl
@[simp] theorem tzero154 : ∃ z, Try.t154.zero = some z ∧ z.cells.size = 4 := by have h := tz154; cases hz : Try.t154.zero with | none => rw [hz] at h; cases h | some z => rw [hz] at h; exact ⟨z, rfl, by simpa using h⟩
@[simp] theorem rd154 (cs : List V) (off : Nat) : rd Try.prog 154 cs off = if off + 4 ≤ cs.length then some (.agg ((cs.drop off).take 4)) else none := by unfold rd; simp
@[simp] theorem fo154_0 : fieldOff Try.prog 154 0 = some 0 := by kernel_rfl
@[simp] theorem pf154_0 (cs : List V) : pField Try.prog 154 0 (.agg cs) = rd Try.prog 17 cs 0 := by unfold pField; simp
@[simp] theorem fo154_1 : fieldOff Try.prog 154 1 = some 1 := by kernel_rfl
@[simp] theorem pf154_1 (cs : List V) : pField Try.prog 154 1 (.agg cs) = rd Try.prog 17 cs 1 := by unfold pField; simp
@[simp] theorem fo154_2 : fieldOff Try.prog 154 2 = some 2 := by kernel_rfl
@[simp] theorem pf154_2 (cs : List V) : pField Try.prog 154 2 (.agg cs) = rd Try.prog 17 cs 2 := by unfold pField; simp
@[simp] theorem fo154_3 : fieldOff Try.prog 154 3 = some 3 := by kernel_rfl
@[simp] theorem pf154_3 (cs : List V) : pField Try.prog 154 3 (.agg cs) = rd Try.prog 9 cs 3 := by unfold pField; simp
@[simp] theorem cellsOf155 : Program.cellsOf Try.prog 155 = 4 := by kernel_rfl
@[simp] theorem info155 : Try.prog.info? 155 = some Try.t155 := by kernel_rfl
@[simp] theorem tsize155 : Try.t155.size = 4 := rfl
@[simp] theorem tbytes155 : Try.t155.bytes = 40 := rfl
@[simp] theorem zeroV155 : zeroV Try.prog 155 = some (.agg [.nilp, .nilp, .nilp, .str []]) := by kernel_rfl
theorem tz155 : (Try.t155.zero).map (fun z => z.cells.size) = some 4 := by kernel_rfl
@[simp] theorem tzero155 : ∃ z, Try.t155.zero = some z ∧ z.cells.size = 4 := by have h := tz155; cases hz : Try.t155.zero with | none => rw [hz] at h; cases h | some z => rw [hz] at h; exact ⟨z, rfl, by simpa using h⟩
@[simp] theorem rd155 (cs : List V) (off : Nat) : rd Try.prog 155 cs off = if off + 4 ≤ cs.length then some (.agg ((cs.drop off).take 4)) else none := by unfold rd; simp
@[simp] theorem fo155_0 : fieldOff Try.prog 155 0 = some 0 := by kernel_rfl
@[simp] theorem pf155_0 (cs : List V) : pField Try.prog 155 0 (.agg cs) = rd Try.prog 17 cs 0 := by unfold pField; simp
@[simp] theorem fo155_1 : fieldOff Try.prog 155 1 = some 1 := by kernel_rfl
@[simp] theorem pf155_1 (cs : List V) : pField Try.prog 155 1 (.agg cs) = rd Try.prog 17 cs 1 := by unfold pField; simp
@[simp] theorem fo155_2 : fieldOff Try.prog 155 2 = some 2 := by kernel_rfl
@[simp] theorem pf155_2 (cs : List V) : pField Try.prog 155 2 (.agg cs) = rd Try.prog 17 cs 2 := by unfold pField; simp
@[simp] theorem fo155_3 : fieldOff Try.prog 155 3 = some 3 := by kernel_rfl
@[simp] theorem pf155_3 (cs : List V) : pField Try.prog 155 3 (.agg cs) = rd Try.prog 9 cs 3 := by unfold pField; simp
@[simp] theorem cellsOf156 : Program.cellsOf Try.prog 156 = 0 := by kernel_rfl
@[simp] theorem info156 : Try.prog.info? 156 = some Try.t156 := by kernel_rfl
@[simp] theorem tsize156 : Try.t156.size = 0 := rfl
@[simp] theorem tbytes156 : Try.t156.bytes = 0 := rfl
@[simp] theorem zeroV156 : zeroV Try.prog 156 = some (.agg []) := by kernel_rfl
theorem tz156 : (Try.t156.zero).map (fun z => z.cells.size) = some 0 := by kernel_rfl
@[simp] theorem tzero156 : ∃ z, Try.t156.zero = some z ∧ z.cells.size = 0 := by have h := tz156; cases hz : Try.t156.zero with | none => rw [hz] at h; cases h | some z => rw [hz] at h; exact ⟨z, rfl, by simpa using h⟩
@[simp] theorem rd156 (cs : List V) (off : Nat) : rd Try.prog 156 cs off = if off + 0 ≤ cs.length then some (.agg ((cs.drop off).take 0)) else none := by unfold rd; simp
@[simp] theorem cellsOf157 : Program.cellsOf Try.prog 157 = 0 := by kernel_rfl
@[simp] theorem info157 : Try.prog.info? 157 = some Try.t157 := by kernel_rfl
@[simp] theorem tsize157 : Try.t157.size = 0 := rfl
@[simp] theorem tbytes157 : Try.t157.bytes = 0 := rfl
@[simp] theorem zeroV157 : zeroV Try.prog 157 = some (.agg []) := by kernel_rfl
theorem tz157 : (Try.t157.zero).map (fun z => z.cells.size) = some 0 := by kernel_rfl
@[simp] theorem tzero157 : ∃ z, Try.t157.zero = some z ∧ z.cells.size = 0 := by have h := tz157; cases hz : Try.t157.zero with | none => rw [hz] at h; cases h | some z => rw [hz] at h; exact ⟨z, rfl, by simpa using h⟩
@[simp] theorem rd157 (cs : List V) (off : Nat) : rd Try.prog 157 cs off = if off + 0 ≤ cs.length then some (.agg ((cs.drop off).take 0)) else none := by unfold rd; simp
@[simp] theorem pf157_0 (cs : List V) : pField Try.prog 157 0 (.agg cs) = rd Try.prog 156 cs 0 := by unfold pField; simp
@[simp] theorem cellsOf158 : Program.cellsOf Try.prog 158 = 0 := by kernel_rfl
@[simp] theorem info158 : Try.prog.info? 158 = some Try.t158 := by kernel_rfl
@[simp] theorem tsize158 : Try.t158.size = 0 := rfl
@[simp] theorem tbytes158 : Try.t158.bytes = 0 := rfl
@[simp] theorem zeroV158 : zeroV Try.prog 158 = some (.agg []) := by kernel_rfl
theorem tz158 : (Try.t158.zero).map (fun z => z.cells.size) = some 0 := by kernel_rfl
@[simp] theorem tzero158 : ∃ z, Try.t158.zero = some z ∧ z.cells.size = 0 := by have h := tz158; cases hz : Try.t158.zero with | none => rw [hz] at h; cases h | some z => rw [hz] at h; exact ⟨z, rfl, by simpa using h⟩
@[simp] theorem rd158 (cs : List V) (off : Nat) : rd Try.prog 158 cs off = if off + 0 ≤ cs.length then some (.agg ((cs.drop off).take 0)) else none := by unfold rd; simp
@[simp] theorem pf158_0 (cs : List V) : pField Try.prog 158 0 (.agg cs) = rd Try.prog 156 cs 0 := by unfold pField; simp
@[simp] theorem cellsOf160 : Program.cellsOf Try.prog 160 = 1 := by kernel_rfl
@[simp] theorem info160 : Try.prog.info? 160 = some Try.t160 := by kernel_rfl
@[simp] theorem tsize160 : Try.t160.size = 1 := rfl
@[simp] theorem tbytes160 : Try.t160.bytes = 1 := rfl
@[simp] theorem zeroV160 : zeroV Try.prog 160 = some (.int .u8 0) := by kernel_rfl
theorem tz160 : (Try.t160.zero).map (fun z => z.cells.size) = some 1 := by kernel_rfl
@[simp] theorem tzero160 : ∃ z, Try.t160.zero = some z ∧ z.cells.size = 1 := by have h := tz160; cases hz : Try.t160.zero with | none => rw [hz] at h; cases h | some z => rw [hz] at h; exact ⟨z, rfl, by simpa using h⟩
@[simp] theorem rd160 (cs : List V) (off : Nat) : rd Try.prog 160 cs off = cs[off]? := by unfold rd; simp
@[simp] theorem cellsOf161 : Program.cellsOf Try.prog 161 = 1 := by kernel_rfl
@[simp] theorem info161 : Try.prog.info? 161 = some Try.t161 := by kernel_rfl
@[simp] theorem tsize161 : Try.t161.size = 1 := rfl
@[simp] theorem tbytes161 : Try.t161.bytes = 1 := rfl
@[simp] theorem zeroV161 : zeroV Try.prog 161 = some (.int .u8 0) := by kernel_rfl
theorem tz161 : (Try.t161.zero).map (fun z => z.cells.size) = some 1 := by kernel_rfl
@[simp] theorem tzero161 : ∃ z, Try.t161.zero = some z ∧ z.cells.size = 1 := by have h := tz161; cases hz : Try.t161.zero with | none => rw [hz] at h; cases h | some z => rw [hz] at h; exact ⟨z, rfl, by simpa using h⟩
@[simp] theorem rd161 (cs : List V) (off : Nat) : rd Try.prog 161 cs off = cs[off]? := by unfold rd; simp
@[simp] theorem cellsOf162 : Program.cellsOf Try.prog 162 = 1 := by kernel_rfl
@[simp] theorem info162 : Try.prog.info? 162 = some Try.t162 := by kernel_rfl
@[simp] theorem tsize162 : Try.t162.size = 1 := rfl
@[simp] theorem tbytes162 : Try.t162.bytes = 8 := rfl
@[simp] theorem zeroV162 : zeroV Try.prog 162 = some (.nilf) := by kernel_rfl
theorem tz162 : (Try.t162.zero).map (fun z => z.cells.size) = some 1 := by kernel_rfl
@[simp] theorem tzero162 : ∃ z, Try.t162.zero = some z ∧ z.cells.size = 1 := by have h := tz162; cases hz : Try.t162.zero with | none => rw [hz] at h; cases h | some z => rw [hz] at h; exact ⟨z, rfl, by simpa using h⟩
@[simp] theorem rd162 (cs : List V) (off : Nat) : rd Try.prog 162 cs off = cs[off]? := by unfold rd; simp
@[simp] theorem cellsOf163 : Program.cellsOf Try.prog 163 = 1 := by kernel_rfl
@[simp] theorem info163 : Try.prog.info? 163 = some Try.t163 := by kernel_rfl
@[simp] theorem tsize163 : Try.t163.size = 1 := rfl
@[simp] theorem tbytes163 : Try.t163.bytes = 8 := rfl
@[simp] theorem zeroV163 : zeroV Try.prog 163 = some (.nilp) := by kernel_rfl
theorem tz163 : (Try.t163.zero).map (fun z => z.cells.size) = some 1 := by kernel_rfl
@[simp] theorem tzero163 : ∃ z, Try.t163.zero = some z ∧ z.cells.size = 1 := by have h := tz163; cases hz : Try.t163.zero with | none => rw [hz] at h; cases h | some z => rw [hz] at h; exact ⟨z, rfl, by simpa using h⟩
@[simp] theorem rd163 (cs : List V) (off : Nat) : rd Try.prog 163 cs off = cs[off]? := by unfold rd; simp
@[simp] theorem cellsOf164 : Program.cellsOf Try.prog 164 = 1 := by kernel_rfl
@[simp] theorem info164 : Try.prog.info? 164 = some Try.t164 := by kernel_rfl
@[simp] theorem tsize164 : Try.t164.size = 1 := rfl
@[simp] theorem tbytes164 : Try.t164.bytes = 4 := rfl
@[simp] theorem zeroV164 : zeroV Try.prog 164 = some (.int .i32 0) := by kernel_rfl
theorem tz164 : (Try.t164.zero).map (fun z => z.cells.size) = some 1 := by kernel_rfl
@[simp] theorem tzero164 : ∃ z, Try.t164.zero = some z ∧ z.cells.size = 1 := by have h := tz164; cases hz : Try.t164.zero with | none => rw [hz] at h; cases h | some z => rw [hz] at h; exact ⟨z, rfl, by simpa using h⟩
@[simp] theorem rd164 (cs : List V) (off : Nat) : rd Try.prog 164 cs off = cs[off]? := by unfold rd; simp
@[simp] theorem cellsOf165 : Program.cellsOf Try.prog 165 = 1 := by kernel_rfl
@[simp] theorem info165 : Try.prog.info? 165 = some Try.t165 := by kernel_rfl
@[simp] theorem tsize165 : Try.t165.size = 1 := rfl
@[simp] theorem tbytes165 : Try.t165.bytes = 4 := rfl
@[simp] theorem zeroV165 : zeroV Try.prog 165 = some (.int .i32 0) := by kernel_rfl
theorem tz165 : (Try.t165.zero).map (fun z => z.cells.size) = some 1 := by kernel_rfl
@[simp] theorem tzero165 : ∃ z, Try.t165.zero = some z ∧ z.cells.size = 1 := by have h := tz165; cases hz : Try.t165.zero with | none => rw [hz] at h; cases h | some z => rw [hz] at h; exact ⟨z, rfl, by simpa using h⟩
@[simp] theorem rd165 (cs : List V) (off : Nat) : rd Try.prog 165 cs off = cs[off]? := by unfold rd; simp
@[simp] theorem cellsOf166 : Program.cellsOf Try.prog 166 = 11 := by kernel_rfl
@[simp] theorem info166 : Try.prog.info? 166 = some Try.t166 := by kernel_rfl
@[simp] theorem tsize166 : Try.t166.size = 11 := rfl
@[simp] theorem tbytes166 : Try.t166.bytes = 48 := rfl
@[simp] theorem zeroV166 : zeroV Try.prog 166 = some (.agg [.int .u64 0, .int .u64 0, .int .u32 0, .int .u8 0, .int .u8 0, .int .u8 0, .int .u8 0, .nilf, .nilp, .int .i32 0, .int .i32 0]) := by kernel_rfl
theorem tz166 : (Try.t166.zero).map (fun z => z.cells.size) = some 11 := by kernel_rfl
@[simp] theorem tzero166 : ∃ z, Try.t166.zero = some z ∧ z.cells.size = 11 := by have h := tz166; cases hz : Try.t166.zero with | none => rw [hz] at h; cases h | some z => rw [hz] at h; exact ⟨z, rfl, by simpa using h⟩
@[simp] theorem rd166 (cs : List V) (off : Nat) : rd Try.prog 166 cs off = if off + 11 ≤ cs.length then some (.agg ((cs.drop off).take 11)) else none := by unfold rd; simp
@[simp] theorem fo166_0 : fieldOff Try.prog 166 0 = some 0 := by kernel_rfl
@[simp] theorem pf166_0 (cs : List V) : pField Try.prog 166 0 (.agg cs) = rd Try.prog 12 cs 0 := by unfold pField; simp
@[simp] theorem fo166_1 : fieldOff Try.prog 166 1 = some 1 := by kernel_rfl
@[simp] theorem pf166_1 (cs : List V) : pField Try.prog 166 1 (.agg cs) = rd Try.prog 12 cs 1 := by unfold pField; simp
@[simp] theorem fo166_2 : fieldOff Try.prog 166 2 = some 2 := by kernel_rfl
@[simp] theorem pf166_2 (cs : List V) : pField Try.prog 166 2 (.agg cs) = rd Try.prog 133 cs 2 := by unfold pField; simp
@[simp] theorem fo166_3 : fieldOff Try.prog 166 3 = some 3 := by kernel_rfl
@[simp] theorem pf166_3 (cs : List V) : pField Try.prog 166 3 (.agg cs) = rd Try.prog 160 cs 3 := by unfold pField; simp
@[simp] theorem fo166_4 : fieldOff Try.prog 166 4 = some 4 := by kernel_rfl
@[simp] theorem pf166_4 (cs : List V) : pField Try.prog 166 4 (.agg cs) = rd Try.prog 5 cs 4 := by unfold pField; simp
@[simp] theorem fo166_5 : fieldOff Try.prog 166 5 = some 5 := by kernel_rfl
@[simp] theorem pf166_5 (cs : List V) : pField Try.prog 166 5 (.agg cs) = rd Try.prog 5 cs 5 := by unfold pField; simp
@[simp] theorem fo166_6 : fieldOff Try.prog 166 6 = some 6 := by kernel_rfl
@[simp] theorem pf166_6 (cs : List V) : pField Try.prog 166 6 (.agg cs) = rd Try.prog 161 cs 6 := by unfold pField; simp
@[simp] theorem fo166_7 : fieldOff Try.prog 166 7 = some 7 := by kernel_rfl
@[simp] theorem pf166_7 (cs : List V) : pField Try.prog 166 7 (.agg cs) = rd Try.prog 162 cs 7 := by unfold pField; simp
@[simp] theorem fo166_8 : fieldOff Try.prog 166 8 = some 8 := by kernel_rfl
@[simp] theorem pf166_8 (cs : List V) : pField Try.prog 166 8 (.agg cs) = rd Try.prog 163 cs 8 := by unfold pField; simp
@[simp] theorem fo166_9 : fieldOff Try.prog 166 9 = some 9 := by kernel_rfl
@[simp] theorem pf166_9 (cs : List V) : pField Try.prog 166 9 (.agg cs) = rd Try.prog 164 cs 9 := by unfold pField; simp
@[simp] theorem fo166_10 : fieldOff Try.prog 166 10 = some 10 := by kernel_rfl
@[simp] theorem pf166_10 (cs : List V) : pField Try.prog 166 10 (.agg cs) = rd Try.prog 165 cs 10 := by unfold pField; simp
@[simp] theorem cellsOf167 : Program.cellsOf Try.prog 167 = 11 := by kernel_rfl
@[simp] theorem info167 : Try.prog.info? 167 = some Try.t167 := by kernel_rfl
@[simp] theorem tsize167 : Try.t167.size = 11 := rfl
@[simp] theorem tbytes167 : Try.t167.bytes = 48 := rfl
@[simp] theorem zeroV167 : zeroV Try.prog 167 = some (.agg [.int .u64 0, .int .u64 0, .int .u32 0, .int .u8 0, .int .u8 0, .int .u8 0, .int .u8 0, .nilf, .nilp, .int .i32 0, .int .i32 0]) := by kernel_rfl
theorem tz167 : (Try.t167.zero).map (fun z => z.cells.size) = some 11 := by kernel_rfl
@[simp] theorem tzero167 : ∃ z, Try.t167.zero = some z ∧ z.cells.size = 11 := by have h := tz167; cases hz : Try.t167.zero with | none => rw [hz] at h; cases h | some z => rw [hz] at h; exact ⟨z, rfl, by simpa using h⟩
@[simp] theorem rd167 (cs : List V) (off : Nat) : rd Try.prog 167 cs off = if off + 11 ≤ cs.length then some (.agg ((cs.drop off).take 11)) else none := by unfold rd; simp
@[simp] theorem fo167_0 : fieldOff Try.prog 167 0 = some 0 := by kernel_rfl
@[simp] theorem pf167_0 (cs : List V) : pField Try.prog 167 0 (.agg cs) = rd Try.prog 12 cs 0 := by unfold pField; simp
@[simp] theorem fo167_1 : fieldOff Try.prog 167 1 = some 1 := by kernel_rfl
@[simp] theorem pf167_1 (cs : List V) : pField Try.prog 167 1 (.agg cs) = rd Try.prog 12 cs 1 := by unfold pField; simp
@[simp] theorem fo167_2 : fieldOff Try.prog 167 2 = some 2 := by kernel_rfl
@[simp] theorem pf167_2 (cs : List V) : pField Try.prog 167 2 (.agg cs) = rd Try.prog 133 cs 2 := by unfold pField; simp
@[simp] theorem fo167_3 : fieldOff Try.prog 167 3 = some 3 := by kernel_rfl
@[simp] theorem pf167_3 (cs : List V) : pField Try.prog 167 3 (.agg cs) = rd Try.prog 160 cs 3 := by unfold pField; simp
@[simp] theorem fo167_4 : fieldOff Try.prog 167 4 = some 4 := by kernel_rfl
@[simp] theorem pf167_4 (cs : List V) : pField Try.prog 167 4 (.agg cs) = rd Try.prog 5 cs 4 := by unfold pField; simp
@[simp] theorem fo167_5 : fieldOff Try.prog 167 5 = some 5 := by kernel_rfl
@[simp] theorem pf167_5 (cs : List V) : pField Try.prog 167 5 (.agg cs) = rd Try.prog 5 cs 5 := by unfold pField; simp
@[simp] theorem fo167_6 : fieldOff Try.prog 167 6 = some 6 := by kernel_rfl
@[simp] theorem pf167_6 (cs : List V) : pField Try.prog 167 6 (.agg cs) = rd Try.prog 161 cs 6 := by unfold pField; simp
@[simp] theorem fo167_7 : fieldOff Try.prog 167 7 = some 7 := by kernel_rfl
@[simp] theorem pf167_7 (cs : List V) : pField Try.prog 167 7 (.agg cs) = rd Try.prog 162 cs 7 := by unfold pField; simp
@[simp] theorem fo167_8 : fieldOff Try.prog 167 8 = some 8 := by kernel_rfl
@[simp] theorem pf167_8 (cs : List V) : pField Try.prog 167 8 (.agg cs) = rd Try.prog 163 cs 8 := by unfold pField; simp
@[simp] theorem fo167_9 : fieldOff Try.prog 167 9 = some 9 := by kernel_rfl
@[simp] theorem pf167_9 (cs : List V) : pField Try.prog 167 9 (.agg cs) = rd Try.prog 164 cs 9 := by unfold pField; simp
@[simp] theorem fo167_10 : fieldOff Try.prog 167 10 = some 10 := by kernel_rfl
@[simp] theorem pf167_10 (cs : List V) : pField Try.prog 167 10 (.agg cs) = rd Try.prog 165 cs 10 := by unfold pField; simp
@[simp] theorem app22 (H : Heap) (s x : V) : hAppend Try.prog H 22 22 s x = match srcOf H 13 x with | some ys => appendTo H 40 13 s ys | none => none := by unfold hAppend; obtain ⟨z, h1, h2⟩ := tzero40; simp [h1, h2, notInt]; cases srcOf H 13 x <;> simp [h2]
@[simp] theorem app32 (H : Heap) (s x : V) : hAppend Try.prog H 32 32 s x = match srcOf H 6 x with | some ys => appendTo H 73 6 s ys | none => none := by unfold hAppend; obtain ⟨z, h1, h2⟩ := tzero73; simp [h1, h2, notInt]; cases srcOf H 6 x <;> simp [h2]
@[simp] theorem app42 (H : Heap) (s x : V) : hAppend Try.prog H 42 42 s x = match srcOf H 3 x with | some ys => appendTo H 76 3 s ys | none => none := by unfold hAppend; obtain ⟨z, h1, h2⟩ := tzero76; simp [h1, h2, notInt]; cases srcOf H 3 x <;> simp [h2]
@[simp] theorem app44 (H : Heap) (s x : V) : hAppend Try.prog H 44 44 s x = match srcOf H 1 x with | some ys => appendTo H 4 1 s ys | none => none := by unfold hAppend; obtain ⟨z, h1, h2⟩ := tzero4; simp [h1, h2, notInt]; cases srcOf H 1 x <;> simp [h2]
@[simp] theorem app50 (H : Heap) (s x : V) : hAppend Try.prog H 50 50 s x = match srcOf H 3 x with | some ys => appendTo H 57 3 s ys | none => none := by unfold hAppend; obtain ⟨z, h1, h2⟩ := tzero57; simp [h1, h2, notInt]; cases srcOf H 3 x <;> simp [h2]
@[simp] theorem app119 (H : Heap) (s x : V) : hAppend Try.prog H 119 119 s x = match srcOf H 1 x with | some ys => appendTo H 9 1 s ys | none => none := by unfold hAppend; obtain ⟨z, h1, h2⟩ := tzero9; simp [h1, h2, notInt]; cases srcOf H 1 x <;> simp [h2]
theorem sih34 : Try.prog.stoodInHeld 34 = false := by kernel_rfl
theorem sih36 : Try.prog.stoodInHeld 36 = false := by kernel_rfl
theorem sih38 : Try.prog.stoodInHeld 38 = false := by kernel_rfl
theorem eqg38 : Try.prog.eqGuardType Try.prog.depth 38 = false := by kernel_rfl
theorem eqA38 (a0 : Int) (a1 : Int) (a2 : Int) (a3 : Int) (a4 : Int) (a5 : Int) (a6 : Int) (b0 : Int) (b1 : Int) (b2 : Int) (b3 : Int) (b4 : Int) (b5 : Int) (b6 : Int) : eqv Try.prog 24 38 (.agg [.int .u8 a0, .int .i64 a1, .int .i64 a2, .int .i64 a3, .int .i64 a4, .int .i64 a5, .int .i64 a6]) (.agg [.int .u8 b0, .int .i64 b1, .int .i64 b2, .int .i64 b3, .int .i64 b4, .int .i64 b5, .int .i64 b6]) = some ((a0 == b0) && ((a1 == b1) && ((a2 == b2) && ((a3 == b3) && ((a4 == b4) && ((a5 == b5) && (a6 == b6))))))) := by simp [eqv, eqFs, Bool.and_assoc, sih34, sih36, sih38]
@[simp high] theorem eqS38 (a0 : Int) (a1 : Int) (a2 : Int) (a3 : Int) (a4 : Int) (a5 : Int) (a6 : Int) (b0 : Int) (b1 : Int) (b2 : Int) (b3 : Int) (b4 : Int) (b5 : Int) (b6 : Int) : pBin Try.prog .eql 38 (.agg [.int .u8 a0, .int .i64 a1, .int .i64 a2, .int .i64 a3, .int .i64 a4, .int .i64 a5, .int .i64 a6]) (.agg [.int .u8 b0, .int .i64 b1, .int .i64 b2, .int .i64 b3, .int .i64 b4, .int .i64 b5, .int .i64 b6]) = some (.bool ((a0 == b0) && ((a1 == b1) && ((a2 == b2) && ((a3 == b3) && ((a4 == b4) && ((a5 == b5) && (a6 == b6)))))))) := by unfold pBin; simp only [V.odd, plainEq, eqg38, eqA38]; rfl
@[simp high] theorem neS38 (a0 : Int) (a1 : Int) (a2 : Int) (a3 : Int) (a4 : Int) (a5 : Int) (a6 : Int) (b0 : Int) (b1 : Int) (b2 : Int) (b3 : Int) (b4 : Int) (b5 : Int) (b6 : Int) : pBin Try.prog .neq 38 (.agg [.int .u8 a0, .int .i64 a1, .int .i64 a2, .int .i64 a3, .int .i64 a4, .int .i64 a5, .int .i64 a6]) (.agg [.int .u8 b0, .int .i64 b1, .int .i64 b2, .int .i64 b3, .int .i64 b4, .int .i64 b5, .int .i64 b6]) = some (.bool (!((a0 == b0) && ((a1 == b1) && ((a2 == b2) && ((a3 == b3) && ((a4 == b4) && ((a5 == b5) && (a6 == b6))))))))) := by unfold pBin; simp only [V.odd, plainEq, eqg38, eqA38]; rfl
theorem sih57 : Try.prog.stoodInHeld 57 = false := by kernel_rfl
theorem eqg57 : Try.prog.eqGuardType Try.prog.depth 57 = false := by kernel_rfl
theorem eqA57 (a0 : List UInt8) (a1 : Int) (a2 : Int) (b0 : List UInt8) (b1 : Int) (b2 : Int) : eqv Try.prog 24 57 (.agg [.str a0, .int .i64 a1, .int .i64 a2]) (.agg [.str b0, .int .i64 b1, .int .i64 b2]) = some ((a0 == b0) && ((a1 == b1) && (a2 == b2))) := by simp [eqv, eqFs, Bool.and_assoc, sih57]
@[simp high] theorem eqS57 (a0 : List UInt8) (a1 : Int) (a2 : Int) (b0 : List UInt8) (b1 : Int) (b2 : Int) : pBin Try.prog .eql 57 (.agg [.str a0, .int .i64 a1, .int .i64 a2]) (.agg [.str b0, .int .i64 b1, .int .i64 b2]) = some (.bool ((a0 == b0) && ((a1 == b1) && (a2 == b2)))) := by unfold pBin; simp only [V.odd, plainEq, eqg57, eqA57]; rfl
@[simp high] theorem neS57 (a0 : List UInt8) (a1 : Int) (a2 : Int) (b0 : List UInt8) (b1 : Int) (b2 : Int) : pBin Try.prog .neq 57 (.agg [.str a0, .int .i64 a1, .int .i64 a2]) (.agg [.str b0, .int .i64 b1, .int .i64 b2]) = some (.bool (!((a0 == b0) && ((a1 == b1) && (a2 == b2))))) := by unfold pBin; simp only [V.odd, plainEq, eqg57, eqA57]; rfl
theorem sih71 : Try.prog.stoodInHeld 71 = false := by kernel_rfl
theorem eqg71 : Try.prog.eqGuardType Try.prog.depth 71 = false := by kernel_rfl
theorem eqA71 (a0 : Int) (a1 : Int) (b0 : Int) (b1 : Int) : eqv Try.prog 24 71 (.agg [.int .i64 a0, .int .i64 a1]) (.agg [.int .i64 b0, .int .i64 b1]) = some ((a0 == b0) && (a1 == b1)) := by simp [eqv, eqFs, Bool.and_assoc, sih71]
@[simp high] theorem eqS71 (a0 : Int) (a1 : Int) (b0 : Int) (b1 : Int) : pBin Try.prog .eql 71 (.agg [.int .i64 a0, .int .i64 a1]) (.agg [.int .i64 b0, .int .i64 b1]) = some (.bool ((a0 == b0) && (a1 == b1))) := by unfold pBin; simp only [V.odd, plainEq, eqg71, eqA71]; rfl
@[simp high] theorem neS71 (a0 : Int) (a1 : Int) (b0 : Int) (b1 : Int) : pBin Try.prog .neq 71 (.agg [.int .i64 a0, .int .i64 a1]) (.agg [.int .i64 b0, .int .i64 b1]) = some (.bool (!((a0 == b0) && (a1 == b1)))) := by unfold pBin; simp only [V.odd, plainEq, eqg71, eqA71]; rfl
@[simp] theorem b4_eql (a b : Bool) : pBin Try.prog .eql 4 (.bool a) (.bool b) = some (.bool (a == b)) := by apply pBin_b_eql Try.underlying4
@[simp] theorem b4_neq (a b : Bool) : pBin Try.prog .neq 4 (.bool a) (.bool b) = some (.bool (!(a == b))) := by apply pBin_b_neq Try.underlying4
end Go.Proofs.Try
