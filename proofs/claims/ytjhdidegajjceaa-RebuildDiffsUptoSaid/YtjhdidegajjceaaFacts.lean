import Derived.Test.YtjhdidegajjceaaAbBin
import Derived.Test.YtjhdidegajjceaaProg
namespace Go.Proofs.Try
open Go Go.Ab
set_option linter.unusedSimpArgs false
@[simp] theorem cellsOf1 : Program.cellsOf Try.prog 1 = 1 := by kernel_rfl
@[simp] theorem info1 : Try.prog.info? 1 = some Try.t1 := by kernel_rfl
@[simp] theorem tsize1 : Try.t1.size = 1 := rfl
@[simp] theorem tbytes1 : Try.t1.bytes = 8 := rfl
@[simp] theorem zeroV1 : zeroV Try.prog 1 = some (.nilf) := by kernel_rfl
theorem tz1 : (Try.t1.zero).map (fun z => z.cells.size) = some 1 := by kernel_rfl
@[simp] theorem tzero1 : ∃ z, Try.t1.zero = some z ∧ z.cells.size = 1 := by have h := tz1; cases hz : Try.t1.zero with | none => rw [hz] at h; cases h | some z => rw [hz] at h; exact ⟨z, rfl, by simpa using h⟩
@[simp] theorem rd1 (cs : List V) (off : Nat) : rd Try.prog 1 cs off = cs[off]? := by unfold rd; simp
@[simp] theorem cellsOf2 : Program.cellsOf Try.prog 2 = 1 := by kernel_rfl
@[simp] theorem info2 : Try.prog.info? 2 = some Try.t2 := by kernel_rfl
@[simp] theorem tsize2 : Try.t2.size = 1 := rfl
@[simp] theorem tbytes2 : Try.t2.bytes = 8 := rfl
@[simp] theorem zeroV2 : zeroV Try.prog 2 = some (.int .i64 0) := by kernel_rfl
theorem tz2 : (Try.t2.zero).map (fun z => z.cells.size) = some 1 := by kernel_rfl
@[simp] theorem tzero2 : ∃ z, Try.t2.zero = some z ∧ z.cells.size = 1 := by have h := tz2; cases hz : Try.t2.zero with | none => rw [hz] at h; cases h | some z => rw [hz] at h; exact ⟨z, rfl, by simpa using h⟩
@[simp] theorem rd2 (cs : List V) (off : Nat) : rd Try.prog 2 cs off = cs[off]? := by unfold rd; simp
@[simp] theorem cellsOf3 : Program.cellsOf Try.prog 3 = 1 := by kernel_rfl
@[simp] theorem info3 : Try.prog.info? 3 = some Try.t3 := by kernel_rfl
@[simp] theorem tsize3 : Try.t3.size = 1 := rfl
@[simp] theorem tbytes3 : Try.t3.bytes = 8 := rfl
@[simp] theorem zeroV3 : zeroV Try.prog 3 = some (.int .i64 0) := by kernel_rfl
theorem tz3 : (Try.t3.zero).map (fun z => z.cells.size) = some 1 := by kernel_rfl
@[simp] theorem tzero3 : ∃ z, Try.t3.zero = some z ∧ z.cells.size = 1 := by have h := tz3; cases hz : Try.t3.zero with | none => rw [hz] at h; cases h | some z => rw [hz] at h; exact ⟨z, rfl, by simpa using h⟩
@[simp] theorem rd3 (cs : List V) (off : Nat) : rd Try.prog 3 cs off = cs[off]? := by unfold rd; simp
@[simp] theorem cellsOf4 : Program.cellsOf Try.prog 4 = 1 := by kernel_rfl
@[simp] theorem info4 : Try.prog.info? 4 = some Try.t4 := by kernel_rfl
@[simp] theorem tsize4 : Try.t4.size = 1 := rfl
@[simp] theorem tbytes4 : Try.t4.bytes = 1 := rfl
@[simp] theorem zeroV4 : zeroV Try.prog 4 = some (.bool false) := by kernel_rfl
theorem tz4 : (Try.t4.zero).map (fun z => z.cells.size) = some 1 := by kernel_rfl
@[simp] theorem tzero4 : ∃ z, Try.t4.zero = some z ∧ z.cells.size = 1 := by have h := tz4; cases hz : Try.t4.zero with | none => rw [hz] at h; cases h | some z => rw [hz] at h; exact ⟨z, rfl, by simpa using h⟩
@[simp] theorem rd4 (cs : List V) (off : Nat) : rd Try.prog 4 cs off = cs[off]? := by unfold rd; simp
@[simp] theorem cellsOf5 : Program.cellsOf Try.prog 5 = 1 := by kernel_rfl
@[simp] theorem info5 : Try.prog.info? 5 = some Try.t5 := by kernel_rfl
@[simp] theorem tsize5 : Try.t5.size = 1 := rfl
@[simp] theorem tbytes5 : Try.t5.bytes = 1 := rfl
@[simp] theorem zeroV5 : zeroV Try.prog 5 = some (.int .u8 0) := by kernel_rfl
theorem tz5 : (Try.t5.zero).map (fun z => z.cells.size) = some 1 := by kernel_rfl
@[simp] theorem tzero5 : ∃ z, Try.t5.zero = some z ∧ z.cells.size = 1 := by have h := tz5; cases hz : Try.t5.zero with | none => rw [hz] at h; cases h | some z => rw [hz] at h; exact ⟨z, rfl, by simpa using h⟩
@[simp] theorem rd5 (cs : List V) (off : Nat) : rd Try.prog 5 cs off = cs[off]? := by unfold rd; simp
@[simp] theorem cellsOf6 : Program.cellsOf Try.prog 6 = 1 := by kernel_rfl
@[simp] theorem info6 : Try.prog.info? 6 = some Try.t6 := by kernel_rfl
@[simp] theorem tsize6 : Try.t6.size = 1 := rfl
@[simp] theorem tbytes6 : Try.t6.bytes = 1 := rfl
@[simp] theorem zeroV6 : zeroV Try.prog 6 = some (.int .u8 0) := by kernel_rfl
theorem tz6 : (Try.t6.zero).map (fun z => z.cells.size) = some 1 := by kernel_rfl
@[simp] theorem tzero6 : ∃ z, Try.t6.zero = some z ∧ z.cells.size = 1 := by have h := tz6; cases hz : Try.t6.zero with | none => rw [hz] at h; cases h | some z => rw [hz] at h; exact ⟨z, rfl, by simpa using h⟩
@[simp] theorem rd6 (cs : List V) (off : Nat) : rd Try.prog 6 cs off = cs[off]? := by unfold rd; simp
@[simp] theorem cellsOf7 : Program.cellsOf Try.prog 7 = 4 := by kernel_rfl
@[simp] theorem info7 : Try.prog.info? 7 = some Try.t7 := by kernel_rfl
@[simp] theorem tsize7 : Try.t7.size = 4 := rfl
@[simp] theorem tbytes7 : Try.t7.bytes = 24 := rfl
@[simp] theorem zeroV7 : zeroV Try.prog 7 = some (.agg [.int .i64 0, .int .i64 0, .bool false, .int .u8 0]) := by kernel_rfl
theorem tz7 : (Try.t7.zero).map (fun z => z.cells.size) = some 4 := by kernel_rfl
@[simp] theorem tzero7 : ∃ z, Try.t7.zero = some z ∧ z.cells.size = 4 := by have h := tz7; cases hz : Try.t7.zero with | none => rw [hz] at h; cases h | some z => rw [hz] at h; exact ⟨z, rfl, by simpa using h⟩
@[simp] theorem rd7 (cs : List V) (off : Nat) : rd Try.prog 7 cs off = if off + 4 ≤ cs.length then some (.agg ((cs.drop off).take 4)) else none := by unfold rd; simp
@[simp] theorem fo7_0 : fieldOff Try.prog 7 0 = some 0 := by kernel_rfl
@[simp] theorem pf7_0 (cs : List V) : pField Try.prog 7 0 (.agg cs) = rd Try.prog 2 cs 0 := by unfold pField; simp
@[simp] theorem fo7_1 : fieldOff Try.prog 7 1 = some 1 := by kernel_rfl
@[simp] theorem pf7_1 (cs : List V) : pField Try.prog 7 1 (.agg cs) = rd Try.prog 3 cs 1 := by unfold pField; simp
@[simp] theorem fo7_2 : fieldOff Try.prog 7 2 = some 2 := by kernel_rfl
@[simp] theorem pf7_2 (cs : List V) : pField Try.prog 7 2 (.agg cs) = rd Try.prog 4 cs 2 := by unfold pField; simp
@[simp] theorem fo7_3 : fieldOff Try.prog 7 3 = some 3 := by kernel_rfl
@[simp] theorem pf7_3 (cs : List V) : pField Try.prog 7 3 (.agg cs) = rd Try.prog 6 cs 3 := by unfold pField; simp
@[simp] theorem cellsOf8 : Program.cellsOf Try.prog 8 = 4 := by kernel_rfl
@[simp] theorem info8 : Try.prog.info? 8 = some Try.t8 := by kernel_rfl
@[simp] theorem tsize8 : Try.t8.size = 4 := rfl
@[simp] theorem tbytes8 : Try.t8.bytes = 24 := rfl
@[simp] theorem zeroV8 : zeroV Try.prog 8 = some (.agg [.int .i64 0, .int .i64 0, .bool false, .int .u8 0]) := by kernel_rfl
theorem tz8 : (Try.t8.zero).map (fun z => z.cells.size) = some 4 := by kernel_rfl
@[simp] theorem tzero8 : ∃ z, Try.t8.zero = some z ∧ z.cells.size = 4 := by have h := tz8; cases hz : Try.t8.zero with | none => rw [hz] at h; cases h | some z => rw [hz] at h; exact ⟨z, rfl, by simpa using h⟩
@[simp] theorem rd8 (cs : List V) (off : Nat) : rd Try.prog 8 cs off = if off + 4 ≤ cs.length then some (.agg ((cs.drop off).take 4)) else none := by unfold rd; simp
@[simp] theorem fo8_0 : fieldOff Try.prog 8 0 = some 0 := by kernel_rfl
@[simp] theorem pf8_0 (cs : List V) : pField Try.prog 8 0 (.agg cs) = rd Try.prog 2 cs 0 := by unfold pField; simp
@[simp] theorem fo8_1 : fieldOff Try.prog 8 1 = some 1 := by kernel_rfl
@[simp] theorem pf8_1 (cs : List V) : pField Try.prog 8 1 (.agg cs) = rd Try.prog 3 cs 1 := by unfold pField; simp
@[simp] theorem fo8_2 : fieldOff Try.prog 8 2 = some 2 := by kernel_rfl
@[simp] theorem pf8_2 (cs : List V) : pField Try.prog 8 2 (.agg cs) = rd Try.prog 4 cs 2 := by unfold pField; simp
@[simp] theorem fo8_3 : fieldOff Try.prog 8 3 = some 3 := by kernel_rfl
@[simp] theorem pf8_3 (cs : List V) : pField Try.prog 8 3 (.agg cs) = rd Try.prog 6 cs 3 := by unfold pField; simp
@[simp] theorem cellsOf9 : Program.cellsOf Try.prog 9 = 1 := by kernel_rfl
@[simp] theorem info9 : Try.prog.info? 9 = some Try.t9 := by kernel_rfl
@[simp] theorem tsize9 : Try.t9.size = 1 := rfl
@[simp] theorem tbytes9 : Try.t9.bytes = 16 := rfl
@[simp] theorem zeroV9 : zeroV Try.prog 9 = some (.str []) := by kernel_rfl
theorem tz9 : (Try.t9.zero).map (fun z => z.cells.size) = some 1 := by kernel_rfl
@[simp] theorem tzero9 : ∃ z, Try.t9.zero = some z ∧ z.cells.size = 1 := by have h := tz9; cases hz : Try.t9.zero with | none => rw [hz] at h; cases h | some z => rw [hz] at h; exact ⟨z, rfl, by simpa using h⟩
@[simp] theorem rd9 (cs : List V) (off : Nat) : rd Try.prog 9 cs off = cs[off]? := by unfold rd; simp
@[simp] theorem cellsOf10 : Program.cellsOf Try.prog 10 = 1 := by kernel_rfl
@[simp] theorem info10 : Try.prog.info? 10 = some Try.t10 := by kernel_rfl
@[simp] theorem tsize10 : Try.t10.size = 1 := rfl
@[simp] theorem tbytes10 : Try.t10.bytes = 16 := rfl
@[simp] theorem zeroV10 : zeroV Try.prog 10 = some (.str []) := by kernel_rfl
theorem tz10 : (Try.t10.zero).map (fun z => z.cells.size) = some 1 := by kernel_rfl
@[simp] theorem tzero10 : ∃ z, Try.t10.zero = some z ∧ z.cells.size = 1 := by have h := tz10; cases hz : Try.t10.zero with | none => rw [hz] at h; cases h | some z => rw [hz] at h; exact ⟨z, rfl, by simpa using h⟩
@[simp] theorem rd10 (cs : List V) (off : Nat) : rd Try.prog 10 cs off = cs[off]? := by unfold rd; simp
@[simp] theorem cellsOf11 : Program.cellsOf Try.prog 11 = 1 := by kernel_rfl
@[simp] theorem info11 : Try.prog.info? 11 = some Try.t11 := by kernel_rfl
@[simp] theorem tsize11 : Try.t11.size = 1 := rfl
@[simp] theorem tbytes11 : Try.t11.bytes = 16 := rfl
@[simp] theorem zeroV11 : zeroV Try.prog 11 = some (.str []) := by kernel_rfl
theorem tz11 : (Try.t11.zero).map (fun z => z.cells.size) = some 1 := by kernel_rfl
@[simp] theorem tzero11 : ∃ z, Try.t11.zero = some z ∧ z.cells.size = 1 := by have h := tz11; cases hz : Try.t11.zero with | none => rw [hz] at h; cases h | some z => rw [hz] at h; exact ⟨z, rfl, by simpa using h⟩
@[simp] theorem rd11 (cs : List V) (off : Nat) : rd Try.prog 11 cs off = cs[off]? := by unfold rd; simp
@[simp] theorem cellsOf12 : Program.cellsOf Try.prog 12 = 1 := by kernel_rfl
@[simp] theorem info12 : Try.prog.info? 12 = some Try.t12 := by kernel_rfl
@[simp] theorem tsize12 : Try.t12.size = 1 := rfl
@[simp] theorem tbytes12 : Try.t12.bytes = 8 := rfl
@[simp] theorem zeroV12 : zeroV Try.prog 12 = some (.int .u64 0) := by kernel_rfl
theorem tz12 : (Try.t12.zero).map (fun z => z.cells.size) = some 1 := by kernel_rfl
@[simp] theorem tzero12 : ∃ z, Try.t12.zero = some z ∧ z.cells.size = 1 := by have h := tz12; cases hz : Try.t12.zero with | none => rw [hz] at h; cases h | some z => rw [hz] at h; exact ⟨z, rfl, by simpa using h⟩
@[simp] theorem rd12 (cs : List V) (off : Nat) : rd Try.prog 12 cs off = cs[off]? := by unfold rd; simp
@[simp] theorem cellsOf13 : Program.cellsOf Try.prog 13 = 2 := by kernel_rfl
@[simp] theorem info13 : Try.prog.info? 13 = some Try.t13 := by kernel_rfl
@[simp] theorem tsize13 : Try.t13.size = 2 := rfl
@[simp] theorem tbytes13 : Try.t13.bytes = 24 := rfl
@[simp] theorem zeroV13 : zeroV Try.prog 13 = some (.agg [.str [], .int .u64 0]) := by kernel_rfl
theorem tz13 : (Try.t13.zero).map (fun z => z.cells.size) = some 2 := by kernel_rfl
@[simp] theorem tzero13 : ∃ z, Try.t13.zero = some z ∧ z.cells.size = 2 := by have h := tz13; cases hz : Try.t13.zero with | none => rw [hz] at h; cases h | some z => rw [hz] at h; exact ⟨z, rfl, by simpa using h⟩
@[simp] theorem rd13 (cs : List V) (off : Nat) : rd Try.prog 13 cs off = if off + 2 ≤ cs.length then some (.agg ((cs.drop off).take 2)) else none := by unfold rd; simp
@[simp] theorem fo13_0 : fieldOff Try.prog 13 0 = some 0 := by kernel_rfl
@[simp] theorem pf13_0 (cs : List V) : pField Try.prog 13 0 (.agg cs) = rd Try.prog 9 cs 0 := by unfold pField; simp
@[simp] theorem fo13_1 : fieldOff Try.prog 13 1 = some 1 := by kernel_rfl
@[simp] theorem pf13_1 (cs : List V) : pField Try.prog 13 1 (.agg cs) = rd Try.prog 12 cs 1 := by unfold pField; simp
@[simp] theorem cellsOf14 : Program.cellsOf Try.prog 14 = 2 := by kernel_rfl
@[simp] theorem info14 : Try.prog.info? 14 = some Try.t14 := by kernel_rfl
@[simp] theorem tsize14 : Try.t14.size = 2 := rfl
@[simp] theorem tbytes14 : Try.t14.bytes = 24 := rfl
@[simp] theorem zeroV14 : zeroV Try.prog 14 = some (.agg [.str [], .int .u64 0]) := by kernel_rfl
theorem tz14 : (Try.t14.zero).map (fun z => z.cells.size) = some 2 := by kernel_rfl
@[simp] theorem tzero14 : ∃ z, Try.t14.zero = some z ∧ z.cells.size = 2 := by have h := tz14; cases hz : Try.t14.zero with | none => rw [hz] at h; cases h | some z => rw [hz] at h; exact ⟨z, rfl, by simpa using h⟩
@[simp] theorem rd14 (cs : List V) (off : Nat) : rd Try.prog 14 cs off = if off + 2 ≤ cs.length then some (.agg ((cs.drop off).take 2)) else none := by unfold rd; simp
@[simp] theorem fo14_0 : fieldOff Try.prog 14 0 = some 0 := by kernel_rfl
@[simp] theorem pf14_0 (cs : List V) : pField Try.prog 14 0 (.agg cs) = rd Try.prog 9 cs 0 := by unfold pField; simp
@[simp] theorem fo14_1 : fieldOff Try.prog 14 1 = some 1 := by kernel_rfl
@[simp] theorem pf14_1 (cs : List V) : pField Try.prog 14 1 (.agg cs) = rd Try.prog 12 cs 1 := by unfold pField; simp
@[simp] theorem cellsOf15 : Program.cellsOf Try.prog 15 = 1 := by kernel_rfl
@[simp] theorem info15 : Try.prog.info? 15 = some Try.t15 := by kernel_rfl
@[simp] theorem tsize15 : Try.t15.size = 1 := rfl
@[simp] theorem tbytes15 : Try.t15.bytes = 8 := rfl
@[simp] theorem zeroV15 : zeroV Try.prog 15 = some (.nilp) := by kernel_rfl
theorem tz15 : (Try.t15.zero).map (fun z => z.cells.size) = some 1 := by kernel_rfl
@[simp] theorem tzero15 : ∃ z, Try.t15.zero = some z ∧ z.cells.size = 1 := by have h := tz15; cases hz : Try.t15.zero with | none => rw [hz] at h; cases h | some z => rw [hz] at h; exact ⟨z, rfl, by simpa using h⟩
@[simp] theorem rd15 (cs : List V) (off : Nat) : rd Try.prog 15 cs off = cs[off]? := by unfold rd; simp
@[simp] theorem cellsOf16 : Program.cellsOf Try.prog 16 = 1 := by kernel_rfl
@[simp] theorem info16 : Try.prog.info? 16 = some Try.t16 := by kernel_rfl
@[simp] theorem tsize16 : Try.t16.size = 1 := rfl
@[simp] theorem tbytes16 : Try.t16.bytes = 8 := rfl
@[simp] theorem zeroV16 : zeroV Try.prog 16 = some (.nilp) := by kernel_rfl
theorem tz16 : (Try.t16.zero).map (fun z => z.cells.size) = some 1 := by kernel_rfl
@[simp] theorem tzero16 : ∃ z, Try.t16.zero = some z ∧ z.cells.size = 1 := by have h := tz16; cases hz : Try.t16.zero with | none => rw [hz] at h; cases h | some z => rw [hz] at h; exact ⟨z, rfl, by simpa using h⟩
@[simp] theorem rd16 (cs : List V) (off : Nat) : rd Try.prog 16 cs off = cs[off]? := by unfold rd; simp
@[simp] theorem cellsOf17 : Program.cellsOf Try.prog 17 = 1 := by kernel_rfl
@[simp] theorem info17 : Try.prog.info? 17 = some Try.t17 := by kernel_rfl
@[simp] theorem tsize17 : Try.t17.size = 1 := rfl
@[simp] theorem tbytes17 : Try.t17.bytes = 8 := rfl
@[simp] theorem zeroV17 : zeroV Try.prog 17 = some (.nilp) := by kernel_rfl
theorem tz17 : (Try.t17.zero).map (fun z => z.cells.size) = some 1 := by kernel_rfl
@[simp] theorem tzero17 : ∃ z, Try.t17.zero = some z ∧ z.cells.size = 1 := by have h := tz17; cases hz : Try.t17.zero with | none => rw [hz] at h; cases h | some z => rw [hz] at h; exact ⟨z, rfl, by simpa using h⟩
@[simp] theorem rd17 (cs : List V) (off : Nat) : rd Try.prog 17 cs off = cs[off]? := by unfold rd; simp
@[simp] theorem cellsOf18 : Program.cellsOf Try.prog 18 = 1 := by kernel_rfl
@[simp] theorem info18 : Try.prog.info? 18 = some Try.t18 := by kernel_rfl
@[simp] theorem tsize18 : Try.t18.size = 1 := rfl
@[simp] theorem tbytes18 : Try.t18.bytes = 8 := rfl
@[simp] theorem zeroV18 : zeroV Try.prog 18 = some (.agg [.nilp]) := by kernel_rfl
theorem tz18 : (Try.t18.zero).map (fun z => z.cells.size) = some 1 := by kernel_rfl
@[simp] theorem tzero18 : ∃ z, Try.t18.zero = some z ∧ z.cells.size = 1 := by have h := tz18; cases hz : Try.t18.zero with | none => rw [hz] at h; cases h | some z => rw [hz] at h; exact ⟨z, rfl, by simpa using h⟩
@[simp] theorem rd18 (cs : List V) (off : Nat) : rd Try.prog 18 cs off = if off + 1 ≤ cs.length then some (.agg ((cs.drop off).take 1)) else none := by unfold rd; simp
@[simp] theorem fo18_0 : fieldOff Try.prog 18 0 = some 0 := by kernel_rfl
@[simp] theorem pf18_0 (cs : List V) : pField Try.prog 18 0 (.agg cs) = rd Try.prog 17 cs 0 := by unfold pField; simp
@[simp] theorem cellsOf19 : Program.cellsOf Try.prog 19 = 1 := by kernel_rfl
@[simp] theorem info19 : Try.prog.info? 19 = some Try.t19 := by kernel_rfl
@[simp] theorem tsize19 : Try.t19.size = 1 := rfl
@[simp] theorem tbytes19 : Try.t19.bytes = 8 := rfl
@[simp] theorem zeroV19 : zeroV Try.prog 19 = some (.agg [.nilp]) := by kernel_rfl
theorem tz19 : (Try.t19.zero).map (fun z => z.cells.size) = some 1 := by kernel_rfl
@[simp] theorem tzero19 : ∃ z, Try.t19.zero = some z ∧ z.cells.size = 1 := by have h := tz19; cases hz : Try.t19.zero with | none => rw [hz] at h; cases h | some z => rw [hz] at h; exact ⟨z, rfl, by simpa using h⟩
@[simp] theorem rd19 (cs : List V) (off : Nat) : rd Try.prog 19 cs off = if off + 1 ≤ cs.length then some (.agg ((cs.drop off).take 1)) else none := by unfold rd; simp
@[simp] theorem fo19_0 : fieldOff Try.prog 19 0 = some 0 := by kernel_rfl
@[simp] theorem pf19_0 (cs : List V) : pField Try.prog 19 0 (.agg cs) = rd Try.prog 17 cs 0 := by unfold pField; simp
@[simp] theorem cellsOf20 : Program.cellsOf Try.prog 20 = 1 := by kernel_rfl
@[simp] theorem info20 : Try.prog.info? 20 = some Try.t20 := by kernel_rfl
@[simp] theorem tsize20 : Try.t20.size = 1 := rfl
@[simp] theorem tbytes20 : Try.t20.bytes = 16 := rfl
@[simp] theorem zeroV20 : zeroV Try.prog 20 = some (.nili) := by kernel_rfl
theorem tz20 : (Try.t20.zero).map (fun z => z.cells.size) = some 1 := by kernel_rfl
@[simp] theorem tzero20 : ∃ z, Try.t20.zero = some z ∧ z.cells.size = 1 := by have h := tz20; cases hz : Try.t20.zero with | none => rw [hz] at h; cases h | some z => rw [hz] at h; exact ⟨z, rfl, by simpa using h⟩
@[simp] theorem rd20 (cs : List V) (off : Nat) : rd Try.prog 20 cs off = cs[off]? := by unfold rd; simp
@[simp] theorem cellsOf21 : Program.cellsOf Try.prog 21 = 1 := by kernel_rfl
@[simp] theorem info21 : Try.prog.info? 21 = some Try.t21 := by kernel_rfl
@[simp] theorem tsize21 : Try.t21.size = 1 := rfl
@[simp] theorem tbytes21 : Try.t21.bytes = 4 := rfl
@[simp] theorem zeroV21 : zeroV Try.prog 21 = some (.int .i32 0) := by kernel_rfl
theorem tz21 : (Try.t21.zero).map (fun z => z.cells.size) = some 1 := by kernel_rfl
@[simp] theorem tzero21 : ∃ z, Try.t21.zero = some z ∧ z.cells.size = 1 := by have h := tz21; cases hz : Try.t21.zero with | none => rw [hz] at h; cases h | some z => rw [hz] at h; exact ⟨z, rfl, by simpa using h⟩
@[simp] theorem rd21 (cs : List V) (off : Nat) : rd Try.prog 21 cs off = cs[off]? := by unfold rd; simp
@[simp] theorem cellsOf22 : Program.cellsOf Try.prog 22 = 1 := by kernel_rfl
@[simp] theorem info22 : Try.prog.info? 22 = some Try.t22 := by kernel_rfl
@[simp] theorem tsize22 : Try.t22.size = 1 := rfl
@[simp] theorem tbytes22 : Try.t22.bytes = 24 := rfl
@[simp] theorem zeroV22 : zeroV Try.prog 22 = some (.nils) := by kernel_rfl
theorem tz22 : (Try.t22.zero).map (fun z => z.cells.size) = some 1 := by kernel_rfl
@[simp] theorem tzero22 : ∃ z, Try.t22.zero = some z ∧ z.cells.size = 1 := by have h := tz22; cases hz : Try.t22.zero with | none => rw [hz] at h; cases h | some z => rw [hz] at h; exact ⟨z, rfl, by simpa using h⟩
@[simp] theorem rd22 (cs : List V) (off : Nat) : rd Try.prog 22 cs off = cs[off]? := by unfold rd; simp
@[simp] theorem cellsOf23 : Program.cellsOf Try.prog 23 = 1 := by kernel_rfl
@[simp] theorem info23 : Try.prog.info? 23 = some Try.t23 := by kernel_rfl
@[simp] theorem tsize23 : Try.t23.size = 1 := rfl
@[simp] theorem tbytes23 : Try.t23.bytes = 8 := rfl
@[simp] theorem zeroV23 : zeroV Try.prog 23 = some (.nilf) := by kernel_rfl
theorem tz23 : (Try.t23.zero).map (fun z => z.cells.size) = some 1 := by kernel_rfl
@[simp] theorem tzero23 : ∃ z, Try.t23.zero = some z ∧ z.cells.size = 1 := by have h := tz23; cases hz : Try.t23.zero with | none => rw [hz] at h; cases h | some z => rw [hz] at h; exact ⟨z, rfl, by simpa using h⟩
@[simp] theorem rd23 (cs : List V) (off : Nat) : rd Try.prog 23 cs off = cs[off]? := by unfold rd; simp
@[simp] theorem cellsOf24 : Program.cellsOf Try.prog 24 = 1 := by kernel_rfl
@[simp] theorem info24 : Try.prog.info? 24 = some Try.t24 := by kernel_rfl
@[simp] theorem tsize24 : Try.t24.size = 1 := rfl
@[simp] theorem tbytes24 : Try.t24.bytes = 24 := rfl
@[simp] theorem zeroV24 : zeroV Try.prog 24 = some (.nils) := by kernel_rfl
theorem tz24 : (Try.t24.zero).map (fun z => z.cells.size) = some 1 := by kernel_rfl
@[simp] theorem tzero24 : ∃ z, Try.t24.zero = some z ∧ z.cells.size = 1 := by have h := tz24; cases hz : Try.t24.zero with | none => rw [hz] at h; cases h | some z => rw [hz] at h; exact ⟨z, rfl, by simpa using h⟩
@[simp] theorem rd24 (cs : List V) (off : Nat) : rd Try.prog 24 cs off = cs[off]? := by unfold rd; simp
@[simp] theorem cellsOf26 : Program.cellsOf Try.prog 26 = 1 := by kernel_rfl
@[simp] theorem info26 : Try.prog.info? 26 = some Try.t26 := by kernel_rfl
@[simp] theorem tsize26 : Try.t26.size = 1 := rfl
@[simp] theorem tbytes26 : Try.t26.bytes = 8 := rfl
@[simp] theorem zeroV26 : zeroV Try.prog 26 = some (.nilf) := by kernel_rfl
theorem tz26 : (Try.t26.zero).map (fun z => z.cells.size) = some 1 := by kernel_rfl
@[simp] theorem tzero26 : ∃ z, Try.t26.zero = some z ∧ z.cells.size = 1 := by have h := tz26; cases hz : Try.t26.zero with | none => rw [hz] at h; cases h | some z => rw [hz] at h; exact ⟨z, rfl, by simpa using h⟩
@[simp] theorem rd26 (cs : List V) (off : Nat) : rd Try.prog 26 cs off = cs[off]? := by unfold rd; simp
@[simp] theorem cellsOf27 : Program.cellsOf Try.prog 27 = 1 := by kernel_rfl
@[simp] theorem info27 : Try.prog.info? 27 = some Try.t27 := by kernel_rfl
@[simp] theorem tsize27 : Try.t27.size = 1 := rfl
@[simp] theorem tbytes27 : Try.t27.bytes = 8 := rfl
@[simp] theorem zeroV27 : zeroV Try.prog 27 = some (.nilf) := by kernel_rfl
theorem tz27 : (Try.t27.zero).map (fun z => z.cells.size) = some 1 := by kernel_rfl
@[simp] theorem tzero27 : ∃ z, Try.t27.zero = some z ∧ z.cells.size = 1 := by have h := tz27; cases hz : Try.t27.zero with | none => rw [hz] at h; cases h | some z => rw [hz] at h; exact ⟨z, rfl, by simpa using h⟩
@[simp] theorem rd27 (cs : List V) (off : Nat) : rd Try.prog 27 cs off = cs[off]? := by unfold rd; simp
@[simp] theorem cellsOf28 : Program.cellsOf Try.prog 28 = 1 := by kernel_rfl
@[simp] theorem info28 : Try.prog.info? 28 = some Try.t28 := by kernel_rfl
@[simp] theorem tsize28 : Try.t28.size = 1 := rfl
@[simp] theorem tbytes28 : Try.t28.bytes = 8 := rfl
@[simp] theorem zeroV28 : zeroV Try.prog 28 = some (.nilf) := by kernel_rfl
theorem tz28 : (Try.t28.zero).map (fun z => z.cells.size) = some 1 := by kernel_rfl
@[simp] theorem tzero28 : ∃ z, Try.t28.zero = some z ∧ z.cells.size = 1 := by have h := tz28; cases hz : Try.t28.zero with | none => rw [hz] at h; cases h | some z => rw [hz] at h; exact ⟨z, rfl, by simpa using h⟩
@[simp] theorem rd28 (cs : List V) (off : Nat) : rd Try.prog 28 cs off = cs[off]? := by unfold rd; simp
@[simp] theorem cellsOf29 : Program.cellsOf Try.prog 29 = 1 := by kernel_rfl
@[simp] theorem info29 : Try.prog.info? 29 = some Try.t29 := by kernel_rfl
@[simp] theorem tsize29 : Try.t29.size = 1 := rfl
@[simp] theorem tbytes29 : Try.t29.bytes = 24 := rfl
@[simp] theorem zeroV29 : zeroV Try.prog 29 = some (.nils) := by kernel_rfl
theorem tz29 : (Try.t29.zero).map (fun z => z.cells.size) = some 1 := by kernel_rfl
@[simp] theorem tzero29 : ∃ z, Try.t29.zero = some z ∧ z.cells.size = 1 := by have h := tz29; cases hz : Try.t29.zero with | none => rw [hz] at h; cases h | some z => rw [hz] at h; exact ⟨z, rfl, by simpa using h⟩
@[simp] theorem rd29 (cs : List V) (off : Nat) : rd Try.prog 29 cs off = cs[off]? := by unfold rd; simp
@[simp] theorem cellsOf30 : Program.cellsOf Try.prog 30 = 3 := by kernel_rfl
@[simp] theorem info30 : Try.prog.info? 30 = some Try.t30 := by kernel_rfl
@[simp] theorem tsize30 : Try.t30.size = 3 := rfl
@[simp] theorem tbytes30 : Try.t30.bytes = 24 := rfl
@[simp] theorem zeroV30 : zeroV Try.prog 30 = some (.agg [.int .i64 0, .int .i64 0, .int .i64 0]) := by kernel_rfl
theorem tz30 : (Try.t30.zero).map (fun z => z.cells.size) = some 3 := by kernel_rfl
@[simp] theorem tzero30 : ∃ z, Try.t30.zero = some z ∧ z.cells.size = 3 := by have h := tz30; cases hz : Try.t30.zero with | none => rw [hz] at h; cases h | some z => rw [hz] at h; exact ⟨z, rfl, by simpa using h⟩
@[simp] theorem rd30 (cs : List V) (off : Nat) : rd Try.prog 30 cs off = if off + 3 ≤ cs.length then some (.agg ((cs.drop off).take 3)) else none := by unfold rd; simp
@[simp] theorem fo30_0 : fieldOff Try.prog 30 0 = some 0 := by kernel_rfl
@[simp] theorem pf30_0 (cs : List V) : pField Try.prog 30 0 (.agg cs) = rd Try.prog 3 cs 0 := by unfold pField; simp
@[simp] theorem fo30_1 : fieldOff Try.prog 30 1 = some 1 := by kernel_rfl
@[simp] theorem pf30_1 (cs : List V) : pField Try.prog 30 1 (.agg cs) = rd Try.prog 3 cs 1 := by unfold pField; simp
@[simp] theorem fo30_2 : fieldOff Try.prog 30 2 = some 2 := by kernel_rfl
@[simp] theorem pf30_2 (cs : List V) : pField Try.prog 30 2 (.agg cs) = rd Try.prog 3 cs 2 := by unfold pField; simp
@[simp] theorem cellsOf31 : Program.cellsOf Try.prog 31 = 3 := by kernel_rfl
@[simp] theorem info31 : Try.prog.info? 31 = some Try.t31 := by kernel_rfl
@[simp] theorem tsize31 : Try.t31.size = 3 := rfl
@[simp] theorem tbytes31 : Try.t31.bytes = 24 := rfl
@[simp] theorem zeroV31 : zeroV Try.prog 31 = some (.agg [.int .i64 0, .int .i64 0, .int .i64 0]) := by kernel_rfl
theorem tz31 : (Try.t31.zero).map (fun z => z.cells.size) = some 3 := by kernel_rfl
@[simp] theorem tzero31 : ∃ z, Try.t31.zero = some z ∧ z.cells.size = 3 := by have h := tz31; cases hz : Try.t31.zero with | none => rw [hz] at h; cases h | some z => rw [hz] at h; exact ⟨z, rfl, by simpa using h⟩
@[simp] theorem rd31 (cs : List V) (off : Nat) : rd Try.prog 31 cs off = if off + 3 ≤ cs.length then some (.agg ((cs.drop off).take 3)) else none := by unfold rd; simp
@[simp] theorem fo31_0 : fieldOff Try.prog 31 0 = some 0 := by kernel_rfl
@[simp] theorem pf31_0 (cs : List V) : pField Try.prog 31 0 (.agg cs) = rd Try.prog 3 cs 0 := by unfold pField; simp
@[simp] theorem fo31_1 : fieldOff Try.prog 31 1 = some 1 := by kernel_rfl
@[simp] theorem pf31_1 (cs : List V) : pField Try.prog 31 1 (.agg cs) = rd Try.prog 3 cs 1 := by unfold pField; simp
@[simp] theorem fo31_2 : fieldOff Try.prog 31 2 = some 2 := by kernel_rfl
@[simp] theorem pf31_2 (cs : List V) : pField Try.prog 31 2 (.agg cs) = rd Try.prog 3 cs 2 := by unfold pField; simp
@[simp] theorem cellsOf32 : Program.cellsOf Try.prog 32 = 4 := by kernel_rfl
@[simp] theorem info32 : Try.prog.info? 32 = some Try.t32 := by kernel_rfl
@[simp] theorem tsize32 : Try.t32.size = 4 := rfl
@[simp] theorem tbytes32 : Try.t32.bytes = 32 := rfl
@[simp] theorem zeroV32 : zeroV Try.prog 32 = some (.agg [.int .u8 0, .int .i64 0, .int .i64 0, .int .i64 0]) := by kernel_rfl
theorem tz32 : (Try.t32.zero).map (fun z => z.cells.size) = some 4 := by kernel_rfl
@[simp] theorem tzero32 : ∃ z, Try.t32.zero = some z ∧ z.cells.size = 4 := by have h := tz32; cases hz : Try.t32.zero with | none => rw [hz] at h; cases h | some z => rw [hz] at h; exact ⟨z, rfl, by simpa using h⟩
@[simp] theorem rd32 (cs : List V) (off : Nat) : rd Try.prog 32 cs off = if off + 4 ≤ cs.length then some (.agg ((cs.drop off).take 4)) else none := by unfold rd; simp
@[simp] theorem fo32_0 : fieldOff Try.prog 32 0 = some 0 := by kernel_rfl
@[simp] theorem pf32_0 (cs : List V) : pField Try.prog 32 0 (.agg cs) = rd Try.prog 5 cs 0 := by unfold pField; simp
@[simp] theorem fo32_1 : fieldOff Try.prog 32 1 = some 1 := by kernel_rfl
@[simp] theorem pf32_1 (cs : List V) : pField Try.prog 32 1 (.agg cs) = rd Try.prog 31 cs 1 := by unfold pField; simp
@[simp] theorem cellsOf33 : Program.cellsOf Try.prog 33 = 4 := by kernel_rfl
@[simp] theorem info33 : Try.prog.info? 33 = some Try.t33 := by kernel_rfl
@[simp] theorem tsize33 : Try.t33.size = 4 := rfl
@[simp] theorem tbytes33 : Try.t33.bytes = 32 := rfl
@[simp] theorem zeroV33 : zeroV Try.prog 33 = some (.agg [.int .u8 0, .int .i64 0, .int .i64 0, .int .i64 0]) := by kernel_rfl
theorem tz33 : (Try.t33.zero).map (fun z => z.cells.size) = some 4 := by kernel_rfl
@[simp] theorem tzero33 : ∃ z, Try.t33.zero = some z ∧ z.cells.size = 4 := by have h := tz33; cases hz : Try.t33.zero with | none => rw [hz] at h; cases h | some z => rw [hz] at h; exact ⟨z, rfl, by simpa using h⟩
@[simp] theorem rd33 (cs : List V) (off : Nat) : rd Try.prog 33 cs off = if off + 4 ≤ cs.length then some (.agg ((cs.drop off).take 4)) else none := by unfold rd; simp
@[simp] theorem fo33_0 : fieldOff Try.prog 33 0 = some 0 := by kernel_rfl
@[simp] theorem pf33_0 (cs : List V) : pField Try.prog 33 0 (.agg cs) = rd Try.prog 5 cs 0 := by unfold pField; simp
@[simp] theorem fo33_1 : fieldOff Try.prog 33 1 = some 1 := by kernel_rfl
@[simp] theorem pf33_1 (cs : List V) : pField Try.prog 33 1 (.agg cs) = rd Try.prog 31 cs 1 := by unfold pField; simp
@[simp] theorem cellsOf34 : Program.cellsOf Try.prog 34 = 7 := by kernel_rfl
@[simp] theorem info34 : Try.prog.info? 34 = some Try.t34 := by kernel_rfl
@[simp] theorem tsize34 : Try.t34.size = 7 := rfl
@[simp] theorem tbytes34 : Try.t34.bytes = 56 := rfl
@[simp] theorem zeroV34 : zeroV Try.prog 34 = some (.agg [.int .u8 0, .int .i64 0, .int .i64 0, .int .i64 0, .int .i64 0, .int .i64 0, .int .i64 0]) := by kernel_rfl
theorem tz34 : (Try.t34.zero).map (fun z => z.cells.size) = some 7 := by kernel_rfl
@[simp] theorem tzero34 : ∃ z, Try.t34.zero = some z ∧ z.cells.size = 7 := by have h := tz34; cases hz : Try.t34.zero with | none => rw [hz] at h; cases h | some z => rw [hz] at h; exact ⟨z, rfl, by simpa using h⟩
@[simp] theorem rd34 (cs : List V) (off : Nat) : rd Try.prog 34 cs off = if off + 7 ≤ cs.length then some (.agg ((cs.drop off).take 7)) else none := by unfold rd; simp
@[simp] theorem fo34_0 : fieldOff Try.prog 34 0 = some 0 := by kernel_rfl
@[simp] theorem pf34_0 (cs : List V) : pField Try.prog 34 0 (.agg cs) = rd Try.prog 33 cs 0 := by unfold pField; simp
@[simp] theorem fo34_1 : fieldOff Try.prog 34 1 = some 4 := by kernel_rfl
@[simp] theorem pf34_1 (cs : List V) : pField Try.prog 34 1 (.agg cs) = rd Try.prog 31 cs 4 := by unfold pField; simp
@[simp] theorem cellsOf35 : Program.cellsOf Try.prog 35 = 7 := by kernel_rfl
@[simp] theorem info35 : Try.prog.info? 35 = some Try.t35 := by kernel_rfl
@[simp] theorem tsize35 : Try.t35.size = 7 := rfl
@[simp] theorem tbytes35 : Try.t35.bytes = 56 := rfl
@[simp] theorem zeroV35 : zeroV Try.prog 35 = some (.agg [.int .u8 0, .int .i64 0, .int .i64 0, .int .i64 0, .int .i64 0, .int .i64 0, .int .i64 0]) := by kernel_rfl
theorem tz35 : (Try.t35.zero).map (fun z => z.cells.size) = some 7 := by kernel_rfl
@[simp] theorem tzero35 : ∃ z, Try.t35.zero = some z ∧ z.cells.size = 7 := by have h := tz35; cases hz : Try.t35.zero with | none => rw [hz] at h; cases h | some z => rw [hz] at h; exact ⟨z, rfl, by simpa using h⟩
@[simp] theorem rd35 (cs : List V) (off : Nat) : rd Try.prog 35 cs off = if off + 7 ≤ cs.length then some (.agg ((cs.drop off).take 7)) else none := by unfold rd; simp
@[simp] theorem fo35_0 : fieldOff Try.prog 35 0 = some 0 := by kernel_rfl
@[simp] theorem pf35_0 (cs : List V) : pField Try.prog 35 0 (.agg cs) = rd Try.prog 33 cs 0 := by unfold pField; simp
@[simp] theorem fo35_1 : fieldOff Try.prog 35 1 = some 4 := by kernel_rfl
@[simp] theorem pf35_1 (cs : List V) : pField Try.prog 35 1 (.agg cs) = rd Try.prog 31 cs 4 := by unfold pField; simp
@[simp] theorem cellsOf36 : Program.cellsOf Try.prog 36 = 13 := by kernel_rfl
@[simp] theorem info36 : Try.prog.info? 36 = some Try.t36 := by kernel_rfl
@[simp] theorem tsize36 : Try.t36.size = 13 := rfl
@[simp] theorem tbytes36 : Try.t36.bytes = 144 := rfl
@[simp] theorem zeroV36 : zeroV Try.prog 36 = some (.agg [.str [], .str [], .nils, .int .u8 0, .int .i64 0, .int .i64 0, .int .i64 0, .int .i64 0, .int .i64 0, .int .i64 0, .str [], .int .i64 0, .bool false]) := by kernel_rfl
theorem tz36 : (Try.t36.zero).map (fun z => z.cells.size) = some 13 := by kernel_rfl
@[simp] theorem tzero36 : ∃ z, Try.t36.zero = some z ∧ z.cells.size = 13 := by have h := tz36; cases hz : Try.t36.zero with | none => rw [hz] at h; cases h | some z => rw [hz] at h; exact ⟨z, rfl, by simpa using h⟩
@[simp] theorem rd36 (cs : List V) (off : Nat) : rd Try.prog 36 cs off = if off + 13 ≤ cs.length then some (.agg ((cs.drop off).take 13)) else none := by unfold rd; simp
@[simp] theorem fo36_0 : fieldOff Try.prog 36 0 = some 0 := by kernel_rfl
@[simp] theorem pf36_0 (cs : List V) : pField Try.prog 36 0 (.agg cs) = rd Try.prog 9 cs 0 := by unfold pField; simp
@[simp] theorem fo36_1 : fieldOff Try.prog 36 1 = some 1 := by kernel_rfl
@[simp] theorem pf36_1 (cs : List V) : pField Try.prog 36 1 (.agg cs) = rd Try.prog 9 cs 1 := by unfold pField; simp
@[simp] theorem fo36_2 : fieldOff Try.prog 36 2 = some 2 := by kernel_rfl
@[simp] theorem pf36_2 (cs : List V) : pField Try.prog 36 2 (.agg cs) = rd Try.prog 29 cs 2 := by unfold pField; simp
@[simp] theorem fo36_3 : fieldOff Try.prog 36 3 = some 3 := by kernel_rfl
@[simp] theorem pf36_3 (cs : List V) : pField Try.prog 36 3 (.agg cs) = rd Try.prog 35 cs 3 := by unfold pField; simp
@[simp] theorem fo36_4 : fieldOff Try.prog 36 4 = some 10 := by kernel_rfl
@[simp] theorem pf36_4 (cs : List V) : pField Try.prog 36 4 (.agg cs) = rd Try.prog 9 cs 10 := by unfold pField; simp
@[simp] theorem fo36_5 : fieldOff Try.prog 36 5 = some 11 := by kernel_rfl
@[simp] theorem pf36_5 (cs : List V) : pField Try.prog 36 5 (.agg cs) = rd Try.prog 3 cs 11 := by unfold pField; simp
@[simp] theorem fo36_6 : fieldOff Try.prog 36 6 = some 12 := by kernel_rfl
@[simp] theorem pf36_6 (cs : List V) : pField Try.prog 36 6 (.agg cs) = rd Try.prog 4 cs 12 := by unfold pField; simp
@[simp] theorem cellsOf37 : Program.cellsOf Try.prog 37 = 13 := by kernel_rfl
@[simp] theorem info37 : Try.prog.info? 37 = some Try.t37 := by kernel_rfl
@[simp] theorem tsize37 : Try.t37.size = 13 := rfl
@[simp] theorem tbytes37 : Try.t37.bytes = 144 := rfl
@[simp] theorem zeroV37 : zeroV Try.prog 37 = some (.agg [.str [], .str [], .nils, .int .u8 0, .int .i64 0, .int .i64 0, .int .i64 0, .int .i64 0, .int .i64 0, .int .i64 0, .str [], .int .i64 0, .bool false]) := by kernel_rfl
theorem tz37 : (Try.t37.zero).map (fun z => z.cells.size) = some 13 := by kernel_rfl
@[simp] theorem tzero37 : ∃ z, Try.t37.zero = some z ∧ z.cells.size = 13 := by have h := tz37; cases hz : Try.t37.zero with | none => rw [hz] at h; cases h | some z => rw [hz] at h; exact ⟨z, rfl, by simpa using h⟩
@[simp] theorem rd37 (cs : List V) (off : Nat) : rd Try.prog 37 cs off = if off + 13 ≤ cs.length then some (.agg ((cs.drop off).take 13)) else none := by unfold rd; simp
@[simp] theorem fo37_0 : fieldOff Try.prog 37 0 = some 0 := by kernel_rfl
@[simp] theorem pf37_0 (cs : List V) : pField Try.prog 37 0 (.agg cs) = rd Try.prog 9 cs 0 := by unfold pField; simp
@[simp] theorem fo37_1 : fieldOff Try.prog 37 1 = some 1 := by kernel_rfl
@[simp] theorem pf37_1 (cs : List V) : pField Try.prog 37 1 (.agg cs) = rd Try.prog 9 cs 1 := by unfold pField; simp
@[simp] theorem fo37_2 : fieldOff Try.prog 37 2 = some 2 := by kernel_rfl
@[simp] theorem pf37_2 (cs : List V) : pField Try.prog 37 2 (.agg cs) = rd Try.prog 29 cs 2 := by unfold pField; simp
@[simp] theorem fo37_3 : fieldOff Try.prog 37 3 = some 3 := by kernel_rfl
@[simp] theorem pf37_3 (cs : List V) : pField Try.prog 37 3 (.agg cs) = rd Try.prog 35 cs 3 := by unfold pField; simp
@[simp] theorem fo37_4 : fieldOff Try.prog 37 4 = some 10 := by kernel_rfl
@[simp] theorem pf37_4 (cs : List V) : pField Try.prog 37 4 (.agg cs) = rd Try.prog 9 cs 10 := by unfold pField; simp
@[simp] theorem fo37_5 : fieldOff Try.prog 37 5 = some 11 := by kernel_rfl
@[simp] theorem pf37_5 (cs : List V) : pField Try.prog 37 5 (.agg cs) = rd Try.prog 3 cs 11 := by unfold pField; simp
@[simp] theorem fo37_6 : fieldOff Try.prog 37 6 = some 12 := by kernel_rfl
@[simp] theorem pf37_6 (cs : List V) : pField Try.prog 37 6 (.agg cs) = rd Try.prog 4 cs 12 := by unfold pField; simp
@[simp] theorem cellsOf39 : Program.cellsOf Try.prog 39 = 1 := by kernel_rfl
@[simp] theorem info39 : Try.prog.info? 39 = some Try.t39 := by kernel_rfl
@[simp] theorem tsize39 : Try.t39.size = 1 := rfl
@[simp] theorem tbytes39 : Try.t39.bytes = 8 := rfl
@[simp] theorem zeroV39 : zeroV Try.prog 39 = some (.mapn) := by kernel_rfl
theorem tz39 : (Try.t39.zero).map (fun z => z.cells.size) = some 1 := by kernel_rfl
@[simp] theorem tzero39 : ∃ z, Try.t39.zero = some z ∧ z.cells.size = 1 := by have h := tz39; cases hz : Try.t39.zero with | none => rw [hz] at h; cases h | some z => rw [hz] at h; exact ⟨z, rfl, by simpa using h⟩
@[simp] theorem rd39 (cs : List V) (off : Nat) : rd Try.prog 39 cs off = cs[off]? := by unfold rd; simp
@[simp] theorem cellsOf41 : Program.cellsOf Try.prog 41 = 1 := by kernel_rfl
@[simp] theorem info41 : Try.prog.info? 41 = some Try.t41 := by kernel_rfl
@[simp] theorem tsize41 : Try.t41.size = 1 := rfl
@[simp] theorem tbytes41 : Try.t41.bytes = 8 := rfl
@[simp] theorem zeroV41 : zeroV Try.prog 41 = some (.nilf) := by kernel_rfl
theorem tz41 : (Try.t41.zero).map (fun z => z.cells.size) = some 1 := by kernel_rfl
@[simp] theorem tzero41 : ∃ z, Try.t41.zero = some z ∧ z.cells.size = 1 := by have h := tz41; cases hz : Try.t41.zero with | none => rw [hz] at h; cases h | some z => rw [hz] at h; exact ⟨z, rfl, by simpa using h⟩
@[simp] theorem rd41 (cs : List V) (off : Nat) : rd Try.prog 41 cs off = cs[off]? := by unfold rd; simp
@[simp] theorem cellsOf46 : Program.cellsOf Try.prog 46 = 2 := by kernel_rfl
@[simp] theorem info46 : Try.prog.info? 46 = some Try.t46 := by kernel_rfl
@[simp] theorem tsize46 : Try.t46.size = 2 := rfl
@[simp] theorem tbytes46 : Try.t46.bytes = 16 := rfl
@[simp] theorem zeroV46 : zeroV Try.prog 46 = some (.agg [.int .i64 0, .int .i64 0]) := by kernel_rfl
theorem tz46 : (Try.t46.zero).map (fun z => z.cells.size) = some 2 := by kernel_rfl
@[simp] theorem tzero46 : ∃ z, Try.t46.zero = some z ∧ z.cells.size = 2 := by have h := tz46; cases hz : Try.t46.zero with | none => rw [hz] at h; cases h | some z => rw [hz] at h; exact ⟨z, rfl, by simpa using h⟩
@[simp] theorem rd46 (cs : List V) (off : Nat) : rd Try.prog 46 cs off = if off + 2 ≤ cs.length then some (.agg ((cs.drop off).take 2)) else none := by unfold rd; simp
@[simp] theorem fo46_0 : fieldOff Try.prog 46 0 = some 0 := by kernel_rfl
@[simp] theorem pf46_0 (cs : List V) : pField Try.prog 46 0 (.agg cs) = rd Try.prog 2 cs 0 := by unfold pField; simp
@[simp] theorem fo46_1 : fieldOff Try.prog 46 1 = some 1 := by kernel_rfl
@[simp] theorem pf46_1 (cs : List V) : pField Try.prog 46 1 (.agg cs) = rd Try.prog 2 cs 1 := by unfold pField; simp
@[simp] theorem cellsOf47 : Program.cellsOf Try.prog 47 = 2 := by kernel_rfl
@[simp] theorem info47 : Try.prog.info? 47 = some Try.t47 := by kernel_rfl
@[simp] theorem tsize47 : Try.t47.size = 2 := rfl
@[simp] theorem tbytes47 : Try.t47.bytes = 16 := rfl
@[simp] theorem zeroV47 : zeroV Try.prog 47 = some (.agg [.int .i64 0, .int .i64 0]) := by kernel_rfl
theorem tz47 : (Try.t47.zero).map (fun z => z.cells.size) = some 2 := by kernel_rfl
@[simp] theorem tzero47 : ∃ z, Try.t47.zero = some z ∧ z.cells.size = 2 := by have h := tz47; cases hz : Try.t47.zero with | none => rw [hz] at h; cases h | some z => rw [hz] at h; exact ⟨z, rfl, by simpa using h⟩
@[simp] theorem rd47 (cs : List V) (off : Nat) : rd Try.prog 47 cs off = if off + 2 ≤ cs.length then some (.agg ((cs.drop off).take 2)) else none := by unfold rd; simp
@[simp] theorem fo47_0 : fieldOff Try.prog 47 0 = some 0 := by kernel_rfl
@[simp] theorem pf47_0 (cs : List V) : pField Try.prog 47 0 (.agg cs) = rd Try.prog 2 cs 0 := by unfold pField; simp
@[simp] theorem fo47_1 : fieldOff Try.prog 47 1 = some 1 := by kernel_rfl
@[simp] theorem pf47_1 (cs : List V) : pField Try.prog 47 1 (.agg cs) = rd Try.prog 2 cs 1 := by unfold pField; simp
@[simp] theorem cellsOf48 : Program.cellsOf Try.prog 48 = 6 := by kernel_rfl
@[simp] theorem info48 : Try.prog.info? 48 = some Try.t48 := by kernel_rfl
@[simp] theorem tsize48 : Try.t48.size = 6 := rfl
@[simp] theorem tbytes48 : Try.t48.bytes = 72 := rfl
@[simp] theorem zeroV48 : zeroV Try.prog 48 = some (.agg [.int .u8 0, .int .i64 0, .int .i64 0, .bool false, .str [], .nils]) := by kernel_rfl
theorem tz48 : (Try.t48.zero).map (fun z => z.cells.size) = some 6 := by kernel_rfl
@[simp] theorem tzero48 : ∃ z, Try.t48.zero = some z ∧ z.cells.size = 6 := by have h := tz48; cases hz : Try.t48.zero with | none => rw [hz] at h; cases h | some z => rw [hz] at h; exact ⟨z, rfl, by simpa using h⟩
@[simp] theorem rd48 (cs : List V) (off : Nat) : rd Try.prog 48 cs off = if off + 6 ≤ cs.length then some (.agg ((cs.drop off).take 6)) else none := by unfold rd; simp
@[simp] theorem fo48_0 : fieldOff Try.prog 48 0 = some 0 := by kernel_rfl
@[simp] theorem pf48_0 (cs : List V) : pField Try.prog 48 0 (.agg cs) = rd Try.prog 5 cs 0 := by unfold pField; simp
@[simp] theorem fo48_1 : fieldOff Try.prog 48 1 = some 1 := by kernel_rfl
@[simp] theorem pf48_1 (cs : List V) : pField Try.prog 48 1 (.agg cs) = rd Try.prog 47 cs 1 := by unfold pField; simp
@[simp] theorem fo48_2 : fieldOff Try.prog 48 2 = some 3 := by kernel_rfl
@[simp] theorem pf48_2 (cs : List V) : pField Try.prog 48 2 (.agg cs) = rd Try.prog 4 cs 3 := by unfold pField; simp
@[simp] theorem fo48_3 : fieldOff Try.prog 48 3 = some 4 := by kernel_rfl
@[simp] theorem pf48_3 (cs : List V) : pField Try.prog 48 3 (.agg cs) = rd Try.prog 9 cs 4 := by unfold pField; simp
@[simp] theorem fo48_4 : fieldOff Try.prog 48 4 = some 5 := by kernel_rfl
@[simp] theorem pf48_4 (cs : List V) : pField Try.prog 48 4 (.agg cs) = rd Try.prog 29 cs 5 := by unfold pField; simp
@[simp] theorem cellsOf49 : Program.cellsOf Try.prog 49 = 6 := by kernel_rfl
@[simp] theorem info49 : Try.prog.info? 49 = some Try.t49 := by kernel_rfl
@[simp] theorem tsize49 : Try.t49.size = 6 := rfl
@[simp] theorem tbytes49 : Try.t49.bytes = 72 := rfl
@[simp] theorem zeroV49 : zeroV Try.prog 49 = some (.agg [.int .u8 0, .int .i64 0, .int .i64 0, .bool false, .str [], .nils]) := by kernel_rfl
theorem tz49 : (Try.t49.zero).map (fun z => z.cells.size) = some 6 := by kernel_rfl
@[simp] theorem tzero49 : ∃ z, Try.t49.zero = some z ∧ z.cells.size = 6 := by have h := tz49; cases hz : Try.t49.zero with | none => rw [hz] at h; cases h | some z => rw [hz] at h; exact ⟨z, rfl, by simpa using h⟩
@[simp] theorem rd49 (cs : List V) (off : Nat) : rd Try.prog 49 cs off = if off + 6 ≤ cs.length then some (.agg ((cs.drop off).take 6)) else none := by unfold rd; simp
@[simp] theorem fo49_0 : fieldOff Try.prog 49 0 = some 0 := by kernel_rfl
@[simp] theorem pf49_0 (cs : List V) : pField Try.prog 49 0 (.agg cs) = rd Try.prog 5 cs 0 := by unfold pField; simp
@[simp] theorem fo49_1 : fieldOff Try.prog 49 1 = some 1 := by kernel_rfl
@[simp] theorem pf49_1 (cs : List V) : pField Try.prog 49 1 (.agg cs) = rd Try.prog 47 cs 1 := by unfold pField; simp
@[simp] theorem fo49_2 : fieldOff Try.prog 49 2 = some 3 := by kernel_rfl
@[simp] theorem pf49_2 (cs : List V) : pField Try.prog 49 2 (.agg cs) = rd Try.prog 4 cs 3 := by unfold pField; simp
@[simp] theorem fo49_3 : fieldOff Try.prog 49 3 = some 4 := by kernel_rfl
@[simp] theorem pf49_3 (cs : List V) : pField Try.prog 49 3 (.agg cs) = rd Try.prog 9 cs 4 := by unfold pField; simp
@[simp] theorem fo49_4 : fieldOff Try.prog 49 4 = some 5 := by kernel_rfl
@[simp] theorem pf49_4 (cs : List V) : pField Try.prog 49 4 (.agg cs) = rd Try.prog 29 cs 5 := by unfold pField; simp
@[simp] theorem cellsOf51 : Program.cellsOf Try.prog 51 = 1 := by kernel_rfl
@[simp] theorem info51 : Try.prog.info? 51 = some Try.t51 := by kernel_rfl
@[simp] theorem tsize51 : Try.t51.size = 1 := rfl
@[simp] theorem tbytes51 : Try.t51.bytes = 8 := rfl
@[simp] theorem zeroV51 : zeroV Try.prog 51 = some (.nilf) := by kernel_rfl
theorem tz51 : (Try.t51.zero).map (fun z => z.cells.size) = some 1 := by kernel_rfl
@[simp] theorem tzero51 : ∃ z, Try.t51.zero = some z ∧ z.cells.size = 1 := by have h := tz51; cases hz : Try.t51.zero with | none => rw [hz] at h; cases h | some z => rw [hz] at h; exact ⟨z, rfl, by simpa using h⟩
@[simp] theorem rd51 (cs : List V) (off : Nat) : rd Try.prog 51 cs off = cs[off]? := by unfold rd; simp
@[simp] theorem cellsOf52 : Program.cellsOf Try.prog 52 = 1 := by kernel_rfl
@[simp] theorem info52 : Try.prog.info? 52 = some Try.t52 := by kernel_rfl
@[simp] theorem tsize52 : Try.t52.size = 1 := rfl
@[simp] theorem tbytes52 : Try.t52.bytes = 8 := rfl
@[simp] theorem zeroV52 : zeroV Try.prog 52 = some (.nilf) := by kernel_rfl
theorem tz52 : (Try.t52.zero).map (fun z => z.cells.size) = some 1 := by kernel_rfl
@[simp] theorem tzero52 : ∃ z, Try.t52.zero = some z ∧ z.cells.size = 1 := by have h := tz52; cases hz : Try.t52.zero with | none => rw [hz] at h; cases h | some z => rw [hz] at h; exact ⟨z, rfl, by simpa using h⟩
@[simp] theorem rd52 (cs : List V) (off : Nat) : rd Try.prog 52 cs off = cs[off]? := by unfold rd; simp
@[simp] theorem cellsOf54 : Program.cellsOf Try.prog 54 = 1 := by kernel_rfl
@[simp] theorem info54 : Try.prog.info? 54 = some Try.t54 := by kernel_rfl
@[simp] theorem tsize54 : Try.t54.size = 1 := rfl
@[simp] theorem tbytes54 : Try.t54.bytes = 8 := rfl
@[simp] theorem zeroV54 : zeroV Try.prog 54 = some (.nilf) := by kernel_rfl
theorem tz54 : (Try.t54.zero).map (fun z => z.cells.size) = some 1 := by kernel_rfl
@[simp] theorem tzero54 : ∃ z, Try.t54.zero = some z ∧ z.cells.size = 1 := by have h := tz54; cases hz : Try.t54.zero with | none => rw [hz] at h; cases h | some z => rw [hz] at h; exact ⟨z, rfl, by simpa using h⟩
@[simp] theorem rd54 (cs : List V) (off : Nat) : rd Try.prog 54 cs off = cs[off]? := by unfold rd; simp
@[simp] theorem cellsOf55 : Program.cellsOf Try.prog 55 = 4 := by kernel_rfl
@[simp] theorem info55 : Try.prog.info? 55 = some Try.t55 := by kernel_rfl
@[simp] theorem tsize55 : Try.t55.size = 4 := rfl
@[simp] theorem tbytes55 : Try.t55.bytes = 40 := rfl
@[simp] theorem zeroV55 : zeroV Try.prog 55 = some (.agg [.nilp, .nilp, .nilp, .str []]) := by kernel_rfl
theorem tz55 : (Try.t55.zero).map (fun z => z.cells.size) = some 4 := by kernel_rfl
@[simp] theorem tzero55 : ∃ z, Try.t55.zero = some z ∧ z.cells.size = 4 := by have h := tz55; cases hz : Try.t55.zero with | none => rw [hz] at h; cases h | some z => rw [hz] at h; exact ⟨z, rfl, by simpa using h⟩
@[simp] theorem rd55 (cs : List V) (off : Nat) : rd Try.prog 55 cs off = if off + 4 ≤ cs.length then some (.agg ((cs.drop off).take 4)) else none := by unfold rd; simp
@[simp] theorem fo55_0 : fieldOff Try.prog 55 0 = some 0 := by kernel_rfl
@[simp] theorem pf55_0 (cs : List V) : pField Try.prog 55 0 (.agg cs) = rd Try.prog 17 cs 0 := by unfold pField; simp
@[simp] theorem fo55_1 : fieldOff Try.prog 55 1 = some 1 := by kernel_rfl
@[simp] theorem pf55_1 (cs : List V) : pField Try.prog 55 1 (.agg cs) = rd Try.prog 17 cs 1 := by unfold pField; simp
@[simp] theorem fo55_2 : fieldOff Try.prog 55 2 = some 2 := by kernel_rfl
@[simp] theorem pf55_2 (cs : List V) : pField Try.prog 55 2 (.agg cs) = rd Try.prog 17 cs 2 := by unfold pField; simp
@[simp] theorem fo55_3 : fieldOff Try.prog 55 3 = some 3 := by kernel_rfl
@[simp] theorem pf55_3 (cs : List V) : pField Try.prog 55 3 (.agg cs) = rd Try.prog 9 cs 3 := by unfold pField; simp
@[simp] theorem cellsOf56 : Program.cellsOf Try.prog 56 = 4 := by kernel_rfl
@[simp] theorem info56 : Try.prog.info? 56 = some Try.t56 := by kernel_rfl
@[simp] theorem tsize56 : Try.t56.size = 4 := rfl
@[simp] theorem tbytes56 : Try.t56.bytes = 40 := rfl
@[simp] theorem zeroV56 : zeroV Try.prog 56 = some (.agg [.nilp, .nilp, .nilp, .str []]) := by kernel_rfl
theorem tz56 : (Try.t56.zero).map (fun z => z.cells.size) = some 4 := by kernel_rfl
@[simp] theorem tzero56 : ∃ z, Try.t56.zero = some z ∧ z.cells.size = 4 := by have h := tz56; cases hz : Try.t56.zero with | none => rw [hz] at h; cases h | some z => rw [hz] at h; exact ⟨z, rfl, by simpa using h⟩
@[simp] theorem rd56 (cs : List V) (off : Nat) : rd Try.prog 56 cs off = if off + 4 ≤ cs.length then some (.agg ((cs.drop off).take 4)) else none := by unfold rd; simp
@[simp] theorem fo56_0 : fieldOff Try.prog 56 0 = some 0 := by kernel_rfl
@[simp] theorem pf56_0 (cs : List V) : pField Try.prog 56 0 (.agg cs) = rd Try.prog 17 cs 0 := by unfold pField; simp
@[simp] theorem fo56_1 : fieldOff Try.prog 56 1 = some 1 := by kernel_rfl
@[simp] theorem pf56_1 (cs : List V) : pField Try.prog 56 1 (.agg cs) = rd Try.prog 17 cs 1 := by unfold pField; simp
@[simp] theorem fo56_2 : fieldOff Try.prog 56 2 = some 2 := by kernel_rfl
@[simp] theorem pf56_2 (cs : List V) : pField Try.prog 56 2 (.agg cs) = rd Try.prog 17 cs 2 := by unfold pField; simp
@[simp] theorem fo56_3 : fieldOff Try.prog 56 3 = some 3 := by kernel_rfl
@[simp] theorem pf56_3 (cs : List V) : pField Try.prog 56 3 (.agg cs) = rd Try.prog 9 cs 3 := by unfold pField; simp
@[simp] theorem cellsOf57 : Program.cellsOf Try.prog 57 = 0 := by kernel_rfl
@[simp] theorem info57 : Try.prog.info? 57 = some Try.t57 := by kernel_rfl
@[simp] theorem tsize57 : Try.t57.size = 0 := rfl
@[simp] theorem tbytes57 : Try.t57.bytes = 0 := rfl
@[simp] theorem zeroV57 : zeroV Try.prog 57 = some (.agg []) := by kernel_rfl
theorem tz57 : (Try.t57.zero).map (fun z => z.cells.size) = some 0 := by kernel_rfl
@[simp] theorem tzero57 : ∃ z, Try.t57.zero = some z ∧ z.cells.size = 0 := by have h := tz57; cases hz : Try.t57.zero with | none => rw [hz] at h; cases h | some z => rw [hz] at h; exact ⟨z, rfl, by simpa using h⟩
@[simp] theorem rd57 (cs : List V) (off : Nat) : rd Try.prog 57 cs off = if off + 0 ≤ cs.length then some (.agg ((cs.drop off).take 0)) else none := by unfold rd; simp
@[simp] theorem cellsOf58 : Program.cellsOf Try.prog 58 = 0 := by kernel_rfl
@[simp] theorem info58 : Try.prog.info? 58 = some Try.t58 := by kernel_rfl
@[simp] theorem tsize58 : Try.t58.size = 0 := rfl
@[simp] theorem tbytes58 : Try.t58.bytes = 0 := rfl
@[simp] theorem zeroV58 : zeroV Try.prog 58 = some (.agg []) := by kernel_rfl
theorem tz58 : (Try.t58.zero).map (fun z => z.cells.size) = some 0 := by kernel_rfl
@[simp] theorem tzero58 : ∃ z, Try.t58.zero = some z ∧ z.cells.size = 0 := by have h := tz58; cases hz : Try.t58.zero with | none => rw [hz] at h; cases h | some z => rw [hz] at h; exact ⟨z, rfl, by simpa using h⟩
@[simp] theorem rd58 (cs : List V) (off : Nat) : rd Try.prog 58 cs off = if off + 0 ≤ cs.length then some (.agg ((cs.drop off).take 0)) else none := by unfold rd; simp
@[simp] theorem pf58_0 (cs : List V) : pField Try.prog 58 0 (.agg cs) = rd Try.prog 57 cs 0 := by unfold pField; simp
@[simp] theorem cellsOf59 : Program.cellsOf Try.prog 59 = 0 := by kernel_rfl
@[simp] theorem info59 : Try.prog.info? 59 = some Try.t59 := by kernel_rfl
@[simp] theorem tsize59 : Try.t59.size = 0 := rfl
@[simp] theorem tbytes59 : Try.t59.bytes = 0 := rfl
@[simp] theorem zeroV59 : zeroV Try.prog 59 = some (.agg []) := by kernel_rfl
theorem tz59 : (Try.t59.zero).map (fun z => z.cells.size) = some 0 := by kernel_rfl
@[simp] theorem tzero59 : ∃ z, Try.t59.zero = some z ∧ z.cells.size = 0 := by have h := tz59; cases hz : Try.t59.zero with | none => rw [hz] at h; cases h | some z => rw [hz] at h; exact ⟨z, rfl, by simpa using h⟩
@[simp] theorem rd59 (cs : List V) (off : Nat) : rd Try.prog 59 cs off = if off + 0 ≤ cs.length then some (.agg ((cs.drop off).take 0)) else none := by unfold rd; simp
@[simp] theorem pf59_0 (cs : List V) : pField Try.prog 59 0 (.agg cs) = rd Try.prog 57 cs 0 := by unfold pField; simp
@[simp] theorem cellsOf60 : Program.cellsOf Try.prog 60 = 1 := by kernel_rfl
@[simp] theorem info60 : Try.prog.info? 60 = some Try.t60 := by kernel_rfl
@[simp] theorem tsize60 : Try.t60.size = 1 := rfl
@[simp] theorem tbytes60 : Try.t60.bytes = 8 := rfl
@[simp] theorem zeroV60 : zeroV Try.prog 60 = some (.nilf) := by kernel_rfl
theorem tz60 : (Try.t60.zero).map (fun z => z.cells.size) = some 1 := by kernel_rfl
@[simp] theorem tzero60 : ∃ z, Try.t60.zero = some z ∧ z.cells.size = 1 := by have h := tz60; cases hz : Try.t60.zero with | none => rw [hz] at h; cases h | some z => rw [hz] at h; exact ⟨z, rfl, by simpa using h⟩
@[simp] theorem rd60 (cs : List V) (off : Nat) : rd Try.prog 60 cs off = cs[off]? := by unfold rd; simp
@[simp] theorem cellsOf61 : Program.cellsOf Try.prog 61 = 1 := by kernel_rfl
@[simp] theorem info61 : Try.prog.info? 61 = some Try.t61 := by kernel_rfl
@[simp] theorem tsize61 : Try.t61.size = 1 := rfl
@[simp] theorem tbytes61 : Try.t61.bytes = 4 := rfl
@[simp] theorem zeroV61 : zeroV Try.prog 61 = some (.int .u32 0) := by kernel_rfl
theorem tz61 : (Try.t61.zero).map (fun z => z.cells.size) = some 1 := by kernel_rfl
@[simp] theorem tzero61 : ∃ z, Try.t61.zero = some z ∧ z.cells.size = 1 := by have h := tz61; cases hz : Try.t61.zero with | none => rw [hz] at h; cases h | some z => rw [hz] at h; exact ⟨z, rfl, by simpa using h⟩
@[simp] theorem rd61 (cs : List V) (off : Nat) : rd Try.prog 61 cs off = cs[off]? := by unfold rd; simp
@[simp] theorem cellsOf62 : Program.cellsOf Try.prog 62 = 1 := by kernel_rfl
@[simp] theorem info62 : Try.prog.info? 62 = some Try.t62 := by kernel_rfl
@[simp] theorem tsize62 : Try.t62.size = 1 := rfl
@[simp] theorem tbytes62 : Try.t62.bytes = 1 := rfl
@[simp] theorem zeroV62 : zeroV Try.prog 62 = some (.int .u8 0) := by kernel_rfl
theorem tz62 : (Try.t62.zero).map (fun z => z.cells.size) = some 1 := by kernel_rfl
@[simp] theorem tzero62 : ∃ z, Try.t62.zero = some z ∧ z.cells.size = 1 := by have h := tz62; cases hz : Try.t62.zero with | none => rw [hz] at h; cases h | some z => rw [hz] at h; exact ⟨z, rfl, by simpa using h⟩
@[simp] theorem rd62 (cs : List V) (off : Nat) : rd Try.prog 62 cs off = cs[off]? := by unfold rd; simp
@[simp] theorem cellsOf63 : Program.cellsOf Try.prog 63 = 1 := by kernel_rfl
@[simp] theorem info63 : Try.prog.info? 63 = some Try.t63 := by kernel_rfl
@[simp] theorem tsize63 : Try.t63.size = 1 := rfl
@[simp] theorem tbytes63 : Try.t63.bytes = 1 := rfl
@[simp] theorem zeroV63 : zeroV Try.prog 63 = some (.int .u8 0) := by kernel_rfl
theorem tz63 : (Try.t63.zero).map (fun z => z.cells.size) = some 1 := by kernel_rfl
@[simp] theorem tzero63 : ∃ z, Try.t63.zero = some z ∧ z.cells.size = 1 := by have h := tz63; cases hz : Try.t63.zero with | none => rw [hz] at h; cases h | some z => rw [hz] at h; exact ⟨z, rfl, by simpa using h⟩
@[simp] theorem rd63 (cs : List V) (off : Nat) : rd Try.prog 63 cs off = cs[off]? := by unfold rd; simp
@[simp] theorem cellsOf64 : Program.cellsOf Try.prog 64 = 1 := by kernel_rfl
@[simp] theorem info64 : Try.prog.info? 64 = some Try.t64 := by kernel_rfl
@[simp] theorem tsize64 : Try.t64.size = 1 := rfl
@[simp] theorem tbytes64 : Try.t64.bytes = 8 := rfl
@[simp] theorem zeroV64 : zeroV Try.prog 64 = some (.nilf) := by kernel_rfl
theorem tz64 : (Try.t64.zero).map (fun z => z.cells.size) = some 1 := by kernel_rfl
@[simp] theorem tzero64 : ∃ z, Try.t64.zero = some z ∧ z.cells.size = 1 := by have h := tz64; cases hz : Try.t64.zero with | none => rw [hz] at h; cases h | some z => rw [hz] at h; exact ⟨z, rfl, by simpa using h⟩
@[simp] theorem rd64 (cs : List V) (off : Nat) : rd Try.prog 64 cs off = cs[off]? := by unfold rd; simp
@[simp] theorem cellsOf65 : Program.cellsOf Try.prog 65 = 1 := by kernel_rfl
@[simp] theorem info65 : Try.prog.info? 65 = some Try.t65 := by kernel_rfl
@[simp] theorem tsize65 : Try.t65.size = 1 := rfl
@[simp] theorem tbytes65 : Try.t65.bytes = 8 := rfl
@[simp] theorem zeroV65 : zeroV Try.prog 65 = some (.nilp) := by kernel_rfl
theorem tz65 : (Try.t65.zero).map (fun z => z.cells.size) = some 1 := by kernel_rfl
@[simp] theorem tzero65 : ∃ z, Try.t65.zero = some z ∧ z.cells.size = 1 := by have h := tz65; cases hz : Try.t65.zero with | none => rw [hz] at h; cases h | some z => rw [hz] at h; exact ⟨z, rfl, by simpa using h⟩
@[simp] theorem rd65 (cs : List V) (off : Nat) : rd Try.prog 65 cs off = cs[off]? := by unfold rd; simp
@[simp] theorem cellsOf66 : Program.cellsOf Try.prog 66 = 1 := by kernel_rfl
@[simp] theorem info66 : Try.prog.info? 66 = some Try.t66 := by kernel_rfl
@[simp] theorem tsize66 : Try.t66.size = 1 := rfl
@[simp] theorem tbytes66 : Try.t66.bytes = 4 := rfl
@[simp] theorem zeroV66 : zeroV Try.prog 66 = some (.int .i32 0) := by kernel_rfl
theorem tz66 : (Try.t66.zero).map (fun z => z.cells.size) = some 1 := by kernel_rfl
@[simp] theorem tzero66 : ∃ z, Try.t66.zero = some z ∧ z.cells.size = 1 := by have h := tz66; cases hz : Try.t66.zero with | none => rw [hz] at h; cases h | some z => rw [hz] at h; exact ⟨z, rfl, by simpa using h⟩
@[simp] theorem rd66 (cs : List V) (off : Nat) : rd Try.prog 66 cs off = cs[off]? := by unfold rd; simp
@[simp] theorem cellsOf67 : Program.cellsOf Try.prog 67 = 1 := by kernel_rfl
@[simp] theorem info67 : Try.prog.info? 67 = some Try.t67 := by kernel_rfl
@[simp] theorem tsize67 : Try.t67.size = 1 := rfl
@[simp] theorem tbytes67 : Try.t67.bytes = 4 := rfl
@[simp] theorem zeroV67 : zeroV Try.prog 67 = some (.int .i32 0) := by kernel_rfl
theorem tz67 : (Try.t67.zero).map (fun z => z.cells.size) = some 1 := by kernel_rfl
@[simp] theorem tzero67 : ∃ z, Try.t67.zero = some z ∧ z.cells.size = 1 := by have h := tz67; cases hz : Try.t67.zero with | none => rw [hz] at h; cases h | some z => rw [hz] at h; exact ⟨z, rfl, by simpa using h⟩
@[simp] theorem rd67 (cs : List V) (off : Nat) : rd Try.prog 67 cs off = cs[off]? := by unfold rd; simp
@[simp] theorem cellsOf68 : Program.cellsOf Try.prog 68 = 11 := by kernel_rfl
@[simp] theorem info68 : Try.prog.info? 68 = some Try.t68 := by kernel_rfl
@[simp] theorem tsize68 : Try.t68.size = 11 := rfl
@[simp] theorem tbytes68 : Try.t68.bytes = 48 := rfl
@[simp] theorem zeroV68 : zeroV Try.prog 68 = some (.agg [.int .u64 0, .int .u64 0, .int .u32 0, .int .u8 0, .int .u8 0, .int .u8 0, .int .u8 0, .nilf, .nilp, .int .i32 0, .int .i32 0]) := by kernel_rfl
theorem tz68 : (Try.t68.zero).map (fun z => z.cells.size) = some 11 := by kernel_rfl
@[simp] theorem tzero68 : ∃ z, Try.t68.zero = some z ∧ z.cells.size = 11 := by have h := tz68; cases hz : Try.t68.zero with | none => rw [hz] at h; cases h | some z => rw [hz] at h; exact ⟨z, rfl, by simpa using h⟩
@[simp] theorem rd68 (cs : List V) (off : Nat) : rd Try.prog 68 cs off = if off + 11 ≤ cs.length then some (.agg ((cs.drop off).take 11)) else none := by unfold rd; simp
@[simp] theorem fo68_0 : fieldOff Try.prog 68 0 = some 0 := by kernel_rfl
@[simp] theorem pf68_0 (cs : List V) : pField Try.prog 68 0 (.agg cs) = rd Try.prog 12 cs 0 := by unfold pField; simp
@[simp] theorem fo68_1 : fieldOff Try.prog 68 1 = some 1 := by kernel_rfl
@[simp] theorem pf68_1 (cs : List V) : pField Try.prog 68 1 (.agg cs) = rd Try.prog 12 cs 1 := by unfold pField; simp
@[simp] theorem fo68_2 : fieldOff Try.prog 68 2 = some 2 := by kernel_rfl
@[simp] theorem pf68_2 (cs : List V) : pField Try.prog 68 2 (.agg cs) = rd Try.prog 61 cs 2 := by unfold pField; simp
@[simp] theorem fo68_3 : fieldOff Try.prog 68 3 = some 3 := by kernel_rfl
@[simp] theorem pf68_3 (cs : List V) : pField Try.prog 68 3 (.agg cs) = rd Try.prog 62 cs 3 := by unfold pField; simp
@[simp] theorem fo68_4 : fieldOff Try.prog 68 4 = some 4 := by kernel_rfl
@[simp] theorem pf68_4 (cs : List V) : pField Try.prog 68 4 (.agg cs) = rd Try.prog 5 cs 4 := by unfold pField; simp
@[simp] theorem fo68_5 : fieldOff Try.prog 68 5 = some 5 := by kernel_rfl
@[simp] theorem pf68_5 (cs : List V) : pField Try.prog 68 5 (.agg cs) = rd Try.prog 5 cs 5 := by unfold pField; simp
@[simp] theorem fo68_6 : fieldOff Try.prog 68 6 = some 6 := by kernel_rfl
@[simp] theorem pf68_6 (cs : List V) : pField Try.prog 68 6 (.agg cs) = rd Try.prog 63 cs 6 := by unfold pField; simp
@[simp] theorem fo68_7 : fieldOff Try.prog 68 7 = some 7 := by kernel_rfl
@[simp] theorem pf68_7 (cs : List V) : pField Try.prog 68 7 (.agg cs) = rd Try.prog 64 cs 7 := by unfold pField; simp
@[simp] theorem fo68_8 : fieldOff Try.prog 68 8 = some 8 := by kernel_rfl
@[simp] theorem pf68_8 (cs : List V) : pField Try.prog 68 8 (.agg cs) = rd Try.prog 65 cs 8 := by unfold pField; simp
@[simp] theorem fo68_9 : fieldOff Try.prog 68 9 = some 9 := by kernel_rfl
@[simp] theorem pf68_9 (cs : List V) : pField Try.prog 68 9 (.agg cs) = rd Try.prog 66 cs 9 := by unfold pField; simp
@[simp] theorem fo68_10 : fieldOff Try.prog 68 10 = some 10 := by kernel_rfl
@[simp] theorem pf68_10 (cs : List V) : pField Try.prog 68 10 (.agg cs) = rd Try.prog 67 cs 10 := by unfold pField; simp
@[simp] theorem cellsOf69 : Program.cellsOf Try.prog 69 = 11 := by kernel_rfl
@[simp] theorem info69 : Try.prog.info? 69 = some Try.t69 := by kernel_rfl
@[simp] theorem tsize69 : Try.t69.size = 11 := rfl
@[simp] theorem tbytes69 : Try.t69.bytes = 48 := rfl
@[simp] theorem zeroV69 : zeroV Try.prog 69 = some (.agg [.int .u64 0, .int .u64 0, .int .u32 0, .int .u8 0, .int .u8 0, .int .u8 0, .int .u8 0, .nilf, .nilp, .int .i32 0, .int .i32 0]) := by kernel_rfl
theorem tz69 : (Try.t69.zero).map (fun z => z.cells.size) = some 11 := by kernel_rfl
@[simp] theorem tzero69 : ∃ z, Try.t69.zero = some z ∧ z.cells.size = 11 := by have h := tz69; cases hz : Try.t69.zero with | none => rw [hz] at h; cases h | some z => rw [hz] at h; exact ⟨z, rfl, by simpa using h⟩
@[simp] theorem rd69 (cs : List V) (off : Nat) : rd Try.prog 69 cs off = if off + 11 ≤ cs.length then some (.agg ((cs.drop off).take 11)) else none := by unfold rd; simp
@[simp] theorem fo69_0 : fieldOff Try.prog 69 0 = some 0 := by kernel_rfl
@[simp] theorem pf69_0 (cs : List V) : pField Try.prog 69 0 (.agg cs) = rd Try.prog 12 cs 0 := by unfold pField; simp
@[simp] theorem fo69_1 : fieldOff Try.prog 69 1 = some 1 := by kernel_rfl
@[simp] theorem pf69_1 (cs : List V) : pField Try.prog 69 1 (.agg cs) = rd Try.prog 12 cs 1 := by unfold pField; simp
@[simp] theorem fo69_2 : fieldOff Try.prog 69 2 = some 2 := by kernel_rfl
@[simp] theorem pf69_2 (cs : List V) : pField Try.prog 69 2 (.agg cs) = rd Try.prog 61 cs 2 := by unfold pField; simp
@[simp] theorem fo69_3 : fieldOff Try.prog 69 3 = some 3 := by kernel_rfl
@[simp] theorem pf69_3 (cs : List V) : pField Try.prog 69 3 (.agg cs) = rd Try.prog 62 cs 3 := by unfold pField; simp
@[simp] theorem fo69_4 : fieldOff Try.prog 69 4 = some 4 := by kernel_rfl
@[simp] theorem pf69_4 (cs : List V) : pField Try.prog 69 4 (.agg cs) = rd Try.prog 5 cs 4 := by unfold pField; simp
@[simp] theorem fo69_5 : fieldOff Try.prog 69 5 = some 5 := by kernel_rfl
@[simp] theorem pf69_5 (cs : List V) : pField Try.prog 69 5 (.agg cs) = rd Try.prog 5 cs 5 := by unfold pField; simp
@[simp] theorem fo69_6 : fieldOff Try.prog 69 6 = some 6 := by kernel_rfl
@[simp] theorem pf69_6 (cs : List V) : pField Try.prog 69 6 (.agg cs) = rd Try.prog 63 cs 6 := by unfold pField; simp
@[simp] theorem fo69_7 : fieldOff Try.prog 69 7 = some 7 := by kernel_rfl
@[simp] theorem pf69_7 (cs : List V) : pField Try.prog 69 7 (.agg cs) = rd Try.prog 64 cs 7 := by unfold pField; simp
@[simp] theorem fo69_8 : fieldOff Try.prog 69 8 = some 8 := by kernel_rfl
@[simp] theorem pf69_8 (cs : List V) : pField Try.prog 69 8 (.agg cs) = rd Try.prog 65 cs 8 := by unfold pField; simp
@[simp] theorem fo69_9 : fieldOff Try.prog 69 9 = some 9 := by kernel_rfl
@[simp] theorem pf69_9 (cs : List V) : pField Try.prog 69 9 (.agg cs) = rd Try.prog 66 cs 9 := by unfold pField; simp
@[simp] theorem fo69_10 : fieldOff Try.prog 69 10 = some 10 := by kernel_rfl
@[simp] theorem pf69_10 (cs : List V) : pField Try.prog 69 10 (.agg cs) = rd Try.prog 67 cs 10 := by unfold pField; simp
@[simp] theorem app22 (H : Heap) (s x : V) : hAppend Try.prog H 22 22 s x = match srcOf H 13 x with | some ys => appendTo H 37 13 s ys | none => none := by unfold hAppend; obtain ⟨z, h1, h2⟩ := tzero37; simp [h1, h2, notInt]; cases srcOf H 13 x <;> simp [h2]
@[simp] theorem app24 (H : Heap) (s x : V) : hAppend Try.prog H 24 24 s x = match srcOf H 1 x with | some ys => appendTo H 9 1 s ys | none => none := by unfold hAppend; obtain ⟨z, h1, h2⟩ := tzero9; simp [h1, h2, notInt]; cases srcOf H 1 x <;> simp [h2]
@[simp] theorem app29 (H : Heap) (s x : V) : hAppend Try.prog H 29 29 s x = match srcOf H 6 x with | some ys => appendTo H 49 6 s ys | none => none := by unfold hAppend; obtain ⟨z, h1, h2⟩ := tzero49; simp [h1, h2, notInt]; cases srcOf H 6 x <;> simp [h2]
theorem sih31 : Try.prog.stoodInHeld 31 = false := by kernel_rfl
theorem sih33 : Try.prog.stoodInHeld 33 = false := by kernel_rfl
theorem sih35 : Try.prog.stoodInHeld 35 = false := by kernel_rfl
theorem eqg35 : Try.prog.eqGuardType Try.prog.depth 35 = false := by kernel_rfl
theorem eqA35 (a0 : Int) (a1 : Int) (a2 : Int) (a3 : Int) (a4 : Int) (a5 : Int) (a6 : Int) (b0 : Int) (b1 : Int) (b2 : Int) (b3 : Int) (b4 : Int) (b5 : Int) (b6 : Int) : eqv Try.prog 24 35 (.agg [.int .u8 a0, .int .i64 a1, .int .i64 a2, .int .i64 a3, .int .i64 a4, .int .i64 a5, .int .i64 a6]) (.agg [.int .u8 b0, .int .i64 b1, .int .i64 b2, .int .i64 b3, .int .i64 b4, .int .i64 b5, .int .i64 b6]) = some ((a0 == b0) && ((a1 == b1) && ((a2 == b2) && ((a3 == b3) && ((a4 == b4) && ((a5 == b5) && (a6 == b6))))))) := by simp [eqv, eqFs, Bool.and_assoc, sih31, sih33, sih35]
@[simp high] theorem eqS35 (a0 : Int) (a1 : Int) (a2 : Int) (a3 : Int) (a4 : Int) (a5 : Int) (a6 : Int) (b0 : Int) (b1 : Int) (b2 : Int) (b3 : Int) (b4 : Int) (b5 : Int) (b6 : Int) : pBin Try.prog .eql 35 (.agg [.int .u8 a0, .int .i64 a1, .int .i64 a2, .int .i64 a3, .int .i64 a4, .int .i64 a5, .int .i64 a6]) (.agg [.int .u8 b0, .int .i64 b1, .int .i64 b2, .int .i64 b3, .int .i64 b4, .int .i64 b5, .int .i64 b6]) = some (.bool ((a0 == b0) && ((a1 == b1) && ((a2 == b2) && ((a3 == b3) && ((a4 == b4) && ((a5 == b5) && (a6 == b6)))))))) := by unfold pBin; simp only [V.odd, plainEq, eqg35, eqA35]; rfl
@[simp high] theorem neS35 (a0 : Int) (a1 : Int) (a2 : Int) (a3 : Int) (a4 : Int) (a5 : Int) (a6 : Int) (b0 : Int) (b1 : Int) (b2 : Int) (b3 : Int) (b4 : Int) (b5 : Int) (b6 : Int) : pBin Try.prog .neq 35 (.agg [.int .u8 a0, .int .i64 a1, .int .i64 a2, .int .i64 a3, .int .i64 a4, .int .i64 a5, .int .i64 a6]) (.agg [.int .u8 b0, .int .i64 b1, .int .i64 b2, .int .i64 b3, .int .i64 b4, .int .i64 b5, .int .i64 b6]) = some (.bool (!((a0 == b0) && ((a1 == b1) && ((a2 == b2) && ((a3 == b3) && ((a4 == b4) && ((a5 == b5) && (a6 == b6))))))))) := by unfold pBin; simp only [V.odd, plainEq, eqg35, eqA35]; rfl
theorem sih47 : Try.prog.stoodInHeld 47 = false := by kernel_rfl
theorem eqg47 : Try.prog.eqGuardType Try.prog.depth 47 = false := by kernel_rfl
theorem eqA47 (a0 : Int) (a1 : Int) (b0 : Int) (b1 : Int) : eqv Try.prog 24 47 (.agg [.int .i64 a0, .int .i64 a1]) (.agg [.int .i64 b0, .int .i64 b1]) = some ((a0 == b0) && (a1 == b1)) := by simp [eqv, eqFs, Bool.and_assoc, sih47]
@[simp high] theorem eqS47 (a0 : Int) (a1 : Int) (b0 : Int) (b1 : Int) : pBin Try.prog .eql 47 (.agg [.int .i64 a0, .int .i64 a1]) (.agg [.int .i64 b0, .int .i64 b1]) = some (.bool ((a0 == b0) && (a1 == b1))) := by unfold pBin; simp only [V.odd, plainEq, eqg47, eqA47]; rfl
@[simp high] theorem neS47 (a0 : Int) (a1 : Int) (b0 : Int) (b1 : Int) : pBin Try.prog .neq 47 (.agg [.int .i64 a0, .int .i64 a1]) (.agg [.int .i64 b0, .int .i64 b1]) = some (.bool (!((a0 == b0) && (a1 == b1)))) := by unfold pBin; simp only [V.odd, plainEq, eqg47, eqA47]; rfl
@[simp] theorem b4_eql (a b : Bool) : pBin Try.prog .eql 4 (.bool a) (.bool b) = some (.bool (a == b)) := by apply pBin_b_eql Try.underlying4
@[simp] theorem b4_neq (a b : Bool) : pBin Try.prog .neq 4 (.bool a) (.bool b) = some (.bool (!(a == b))) := by apply pBin_b_neq Try.underlying4
end Go.Proofs.Try
