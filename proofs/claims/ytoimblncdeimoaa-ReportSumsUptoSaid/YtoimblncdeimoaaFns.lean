/-
  WHAT THE GO FUNCTIONS COMPUTE, by a program of this repo (gen.py).
-/
import Derived.Test.YtoimblncdeimoaaTypes
import Derived.Test.YtoimblncdeimoaaAbLabel
import Derived.Lib.Bytealg
import Derived.Lib.Join
import Derived.Test.YtoimblncdeimoaaAbShift
import Derived.Test.YtoimblncdeimoaaBook
namespace Go.Ab
open Go
set_option linter.unusedVariables false
mutual
def go_ref45_Great_J1 : Nat → List GTally → Int → Bool → Option Bool
  | 0, _, _, _ => none
  | n + 1, a0, x1, x2 =>
    if x2 then
      (ix a0 x1).bind fun x5 =>
      if (decide (200 < (x5.name.length : Int))) then
        some true
      else
        go_ref45_Great_L1 n a0 (IntKind.i64.wrap (x1 + 1))
    else
      some (decide (220 < (a0.length : Int)))
def go_ref45_Great_L1 : Nat → List GTally → Int → Option Bool
  | 0, _, _ => none
  | n + 1, a0, x1 =>
    if (decide (x1 < (a0.length : Int))) then
      go_ref45_Great_J1 n a0 x1 (decide (x1 < 220))
    else
      go_ref45_Great_J1 n a0 x1 false
def go_ref45_Great : Nat → List GTally → Option Bool
  | 0, _ => none
  | n + 1, a0 =>
    go_ref45_Great_L1 n a0 0
end
def go_report_str (n : Nat) (a0 : List UInt8) : Option GValue :=
  some (GValue.mk 3 (GRatio.mk 0 0) false a0 ([]))
mutual
def go_value_measure_L1 : Nat → GValue → Int → Int → Int → Option (Int × Int)
  | 0, _, _, _, _ => none
  | n + 1, a0, x5, x6, x7 =>
    if (decide (x7 < (a0.list.length : Int))) then
      (ix a0.list x7).bind fun x8 =>
      (go_value_measure n x8).bind fun y13 =>
      go_value_measure_L1 n a0 (IntKind.i64.wrap (x5 + y13.1)) (mxI x6 (IntKind.i64.wrap (y13.2 + 1))) (IntKind.i64.wrap (x7 + 1))
    else
      go_value_measure_J1 n x5 x6
def go_value_measure_J1 : Nat → Int → Int → Option (Int × Int)
  | 0, _, _ => none
  | n + 1, x3, x4 =>
    some (x3, x4)
def go_value_measure : Nat → GValue → Option (Int × Int)
  | 0, _ => none
  | n + 1, a0 =>
    if (a0.kind == 4) then
      go_value_measure_L1 n a0 1 1 0
    else
      go_value_measure_J1 n 1 1
end
def go_ratio_size (n : Nat) (a0 : Int) : Option Int :=
  if (decide (a0 < 0)) then
    some (IntKind.u64.wrap (0 - (IntKind.u64.wrap a0)))
  else
    some (IntKind.u64.wrap a0)
mutual
def go_ratio_gcd_L1 : Nat → Int → Int → Option Int
  | 0, _, _ => none
  | n + 1, x1, x2 =>
    if (!(x2 == 0)) then
      (rem .u64 x1 x2).bind fun x3 =>
      go_ratio_gcd_L1 n x2 x3
    else
      some x1
def go_ratio_gcd : Nat → Int → Int → Option Int
  | 0, _, _ => none
  | n + 1, a0, a1 =>
    go_ratio_gcd_L1 n a0 a1
end
def go_ratio_Check_J1 (n : Nat) (x3 : Bool) : Option Int :=
  if x3 then
    some 8
  else
    some 0
def go_ratio_Check (n : Nat) (a0 : GRatio) : Option Int :=
  if (decide (a0.den < 1)) then
    go_ratio_Check_J1 n true
  else
    if (decide (1000000000 < a0.den)) then
      go_ratio_Check_J1 n true
    else
      (go_ratio_size n a0.num).bind fun y8 =>
      if (decide (1000000000 < y8)) then
        go_ratio_Check_J1 n true
      else
        (go_ratio_size n a0.num).bind fun y12 =>
        (go_ratio_gcd n y12 (IntKind.u64.wrap a0.den)).bind fun y14 =>
        go_ratio_Check_J1 n (!(y14 == 1))
mutual
def go_value_fine_J4 : Nat → GValue → Int → Bool → Option Bool
  | 0, _, _, _ => none
  | n + 1, a0, x17, x18 =>
    if x18 then
      some false
    else
      go_value_fine_L1 n a0 (IntKind.i64.wrap (x17 + 1))
def go_value_fine_L1 : Nat → GValue → Int → Option Bool
  | 0, _, _ => none
  | n + 1, a0, x17 =>
    if (decide (x17 < (a0.str.length : Int))) then
      (ix a0.str x17).bind fun x19 =>
      if (decide ((x19.toNat : Int) < 32)) then
        go_value_fine_J4 n a0 x17 true
      else
        go_value_fine_J4 n a0 x17 (decide (126 < (x19.toNat : Int)))
    else
      go_value_fine_J3 n a0 ([]) a0.list
def go_value_fine_L2 : Nat → GValue → Int → Option Bool
  | 0, _, _ => none
  | n + 1, a0, x24 =>
    if (decide (x24 < (a0.list.length : Int))) then
      (ix a0.list x24).bind fun x25 =>
      (go_value_fine n x25).bind fun y30 =>
      if (!y30) then
        some false
      else
        go_value_fine_L2 n a0 (IntKind.i64.wrap (x24 + 1))
    else
      go_value_fine_J3 n a0 a0.str ([])
def go_value_fine_J3 : Nat → GValue → List UInt8 → List GValue → Option Bool
  | 0, _, _, _ => none
  | n + 1, a0, x15, x16 =>
    go_value_fine_J2 n a0 a0.truth x15 x16
def go_value_fine_J2 : Nat → GValue → Bool → List UInt8 → List GValue → Option Bool
  | 0, _, _, _, _ => none
  | n + 1, a0, x12, x13, x14 =>
    go_value_fine_J1 n a0 a0.num.num a0.num.den x12 x13 x14
def go_value_fine_J5 : Nat → Bool → Option Bool
  | 0, _ => none
  | n + 1, x33 =>
    some x33
def go_value_fine_J1 : Nat → GValue → Int → Int → Bool → List UInt8 → List GValue → Option Bool
  | 0, _, _, _, _, _, _ => none
  | n + 1, a0, x5, x6, x7, x8, x9 =>
    if ((x5 == 0) && (x6 == 0)) then
      if (!x7) then
        if (x8 == ([])) then
          go_value_fine_J5 n ((x9.length : Int) == 0)
        else
          go_value_fine_J5 n false
      else
        go_value_fine_J5 n false
    else
      go_value_fine_J5 n false
def go_value_fine : Nat → GValue → Option Bool
  | 0, _ => none
  | n + 1, a0 =>
    if (a0.kind == 1) then
      (go_ratio_Check n a0.num).bind fun y10 =>
      if (!(y10 == 0)) then
        some false
      else
        go_value_fine_J1 n a0 0 0 a0.truth a0.str a0.list
    else
      if (a0.kind == 2) then
        go_value_fine_J2 n a0 false a0.str a0.list
      else
        if (a0.kind == 3) then
          if (decide (60 < (a0.str.length : Int))) then
            some false
          else
            go_value_fine_L1 n a0 0
        else
          if (a0.kind == 4) then
            go_value_fine_L2 n a0 0
          else
            some false
end
def go_value_Check_J1 (n : Nat) (a0 : GValue) (x5 : Bool) : Option Int :=
  if x5 then
    some 4
  else
    (go_value_fine n a0).bind fun y8 =>
    if (!y8) then
      some 8
    else
      some 0
def go_value_Check (n : Nat) (a0 : GValue) : Option Int :=
  (go_value_measure n a0).bind fun y3 =>
  if (decide (100 < y3.1)) then
    go_value_Check_J1 n a0 true
  else
    go_value_Check_J1 n a0 (decide (6 < y3.2))
def go_report_named (n : Nat) (a0 : List UInt8) : Option Bool :=
  (go_report_str n a0).bind fun y1 =>
  (go_value_Check n y1).bind fun y3 =>
  some (y3 == 0)
mutual
def go_report_Check_J1 : Nat → List GTally → Int → Bool → Option Int
  | 0, _, _, _ => none
  | n + 1, a0, x1, x7 =>
    if x7 then
      some 8
    else
      go_report_Check_L1 n a0 (IntKind.i64.wrap (x1 + 1))
def go_report_Check_L1 : Nat → List GTally → Int → Option Int
  | 0, _, _ => none
  | n + 1, a0, x1 =>
    if (decide (x1 < (a0.length : Int))) then
      (ix a0 x1).bind fun x2 =>
      (go_report_named n x2.name).bind fun y8 =>
      if (!y8) then
        go_report_Check_J1 n a0 x1 true
      else
        if (decide (0 < x1)) then
          (ix a0 (IntKind.i64.wrap (x1 - 1))).bind fun x13 =>
          if (!(Op.bytesLess x13.name x2.name)) then
            go_report_Check_J1 n a0 x1 true
          else
            if (decide (x2.count < 1)) then
              go_report_Check_J1 n a0 x1 true
            else
              if (decide (1000000000 < x2.count)) then
                go_report_Check_J1 n a0 x1 true
              else
                if (decide (x2.volume < 0)) then
                  go_report_Check_J1 n a0 x1 true
                else
                  go_report_Check_J1 n a0 x1 (decide (1000000000000000000 < x2.volume))
        else
          if (decide (x2.count < 1)) then
            go_report_Check_J1 n a0 x1 true
          else
            if (decide (1000000000 < x2.count)) then
              go_report_Check_J1 n a0 x1 true
            else
              if (decide (x2.volume < 0)) then
                go_report_Check_J1 n a0 x1 true
              else
                go_report_Check_J1 n a0 x1 (decide (1000000000000000000 < x2.volume))
    else
      some 0
def go_report_Check : Nat → List GTally → Option Int
  | 0, _ => none
  | n + 1, a0 =>
    if (decide (200 < (a0.length : Int))) then
      some 4
    else
      go_report_Check_L1 n a0 0
end
def go_report_sum_int (n : Nat) (a0 : Int) (a1 : Int) (a2 : Int) : Option Int :=
  some (mnI (IntKind.i64.wrap (a0 + a1)) (IntKind.i64.wrap (a2 + 1)))
def go_report_sum_int64 (n : Nat) (a0 : Int) (a1 : Int) (a2 : Int) : Option Int :=
  some (mnI (IntKind.i64.wrap (a0 + a1)) (IntKind.i64.wrap (a2 + 1)))
def go_report_book_put_at (n : Nat) (a1 : GTally) (c0 : List (List UInt8 × GTally)) : Option (List (List UInt8 × GTally)) :=
  (go_report_sum_int n (((mget c0 a1.name).getD (GTally.mk ([]) 0 0)).count) a1.count 1000000000).bind fun y7 =>
  (go_report_sum_int64 n (((mget c0 a1.name).getD (GTally.mk ([]) 0 0)).volume) a1.volume 1000000000000000000).bind fun y9 =>
  some (mput c0 a1.name (GTally.mk a1.name y7 y9))
def go_report_book_lines_at (n : Nat) (c0 : List (List UInt8 × GTally)) : Option (List GTally × Int) :=
  bookLines c0
mutual
def go_report_Merge_L2 : Nat → List GTally → List GTally → Int → List GTally → (List (List UInt8 × GTally)) → Int → Option ((List GTally) × Int)
  | 0, _, _, _, _, _, _ => none
  | n + 1, a0, a1, x4, x5, x13, x14 =>
    if (decide (x14 < (x5.length : Int))) then
      (ix x5 x14).bind fun x15 =>
      (go_report_book_put_at n x15 x13).bind fun y20 =>
      go_report_Merge_L2 n a0 a1 x4 x5 y20 (IntKind.i64.wrap (x14 + 1))
    else
      go_report_Merge_L1 n a0 a1 x13 (IntKind.i64.wrap (x4 + 1))
def go_report_Merge_L1 : Nat → List GTally → List GTally → (List (List UInt8 × GTally)) → Int → Option ((List GTally) × Int)
  | 0, _, _, _, _ => none
  | n + 1, a0, a1, x3, x4 =>
    if (decide (x4 < 2)) then
      (ix [a0, a1] x4).bind fun x5 =>
      (go_report_Check n x5).bind fun y11 =>
      if (!(y11 == 0)) then
        some ([], y11)
      else
        go_report_Merge_L2 n a0 a1 x4 x5 x3 0
    else
      (go_report_book_lines_at n x3).bind fun y22 =>
      some (y22.1, y22.2)
def go_report_Merge : Nat → List GTally → List GTally → Option ((List GTally) × Int)
  | 0, _, _ => none
  | n + 1, a0, a1 =>
    go_report_Merge_L1 n a0 a1 ([] : List (List UInt8 × GTally)) 0
end
def go_ref03_Str (n : Nat) (a0 : List UInt8) : Option GValue :=
  some (GValue.mk 3 (GRatio.mk 0 0) false a0 ([]))
mutual
def go_ref03_Parts_J1 : Nat → GValue → Int → Int → Bool → Option Int
  | 0, _, _, _, _ => none
  | n + 1, a0, x3, x4, x5 =>
    if x5 then
      (ix a0.list x4).bind fun x8 =>
      (go_ref03_Parts n x8).bind fun y11 =>
      go_ref03_Parts_L1 n a0 (IntKind.i64.wrap (x3 + y11)) (IntKind.i64.wrap (x4 + 1))
    else
      some x3
def go_ref03_Parts_L1 : Nat → GValue → Int → Int → Option Int
  | 0, _, _, _ => none
  | n + 1, a0, x3, x4 =>
    if (decide (x4 < (a0.list.length : Int))) then
      go_ref03_Parts_J1 n a0 x3 x4 (a0.kind == 4)
    else
      go_ref03_Parts_J1 n a0 x3 x4 false
def go_ref03_Parts : Nat → GValue → Option Int
  | 0, _ => none
  | n + 1, a0 =>
    go_ref03_Parts_L1 n a0 1 0
end
mutual
def go_ref03_Deep_J1 : Nat → GValue → Int → Int → Bool → Option Int
  | 0, _, _, _, _ => none
  | n + 1, a0, x3, x4, x5 =>
    if x5 then
      (ix a0.list x4).bind fun x8 =>
      (go_ref03_Deep n x8).bind fun y11 =>
      go_ref03_Deep_L1 n a0 (mxI x3 (IntKind.i64.wrap (1 + y11))) (IntKind.i64.wrap (x4 + 1))
    else
      some x3
def go_ref03_Deep_L1 : Nat → GValue → Int → Int → Option Int
  | 0, _, _, _ => none
  | n + 1, a0, x3, x4 =>
    if (decide (x4 < (a0.list.length : Int))) then
      go_ref03_Deep_J1 n a0 x3 x4 (a0.kind == 4)
    else
      go_ref03_Deep_J1 n a0 x3 x4 false
def go_ref03_Deep : Nat → GValue → Option Int
  | 0, _ => none
  | n + 1, a0 =>
    go_ref03_Deep_L1 n a0 1 0
end
mutual
def go_ref01_common_L1 : Nat → Int → Int → Option Int
  | 0, _, _ => none
  | n + 1, x1, x2 =>
    if (!(x2 == 0)) then
      (rem .i64 x1 x2).bind fun x3 =>
      go_ref01_common_L1 n x2 x3
    else
      if (decide (x1 < 0)) then
        some (IntKind.i64.wrap (0 - x1))
      else
        some x1
def go_ref01_common : Nat → Int → Int → Option Int
  | 0, _, _ => none
  | n + 1, a0, a1 =>
    go_ref01_common_L1 n a0 a1
end
def go_ref01_Check_J1 (n : Nat) (x3 : Bool) : Option Int :=
  if x3 then
    some 8
  else
    some 0
def go_ref01_Check (n : Nat) (a0 : GRatio) : Option Int :=
  if (decide (a0.den < 1)) then
    go_ref01_Check_J1 n true
  else
    if (decide (1000000000 < a0.den)) then
      go_ref01_Check_J1 n true
    else
      if (decide (a0.num < (-1000000000))) then
        go_ref01_Check_J1 n true
      else
        if (decide (1000000000 < a0.num)) then
          go_ref01_Check_J1 n true
        else
          (go_ref01_common n a0.num a0.den).bind fun y12 =>
          go_ref01_Check_J1 n (!(y12 == 1))
mutual
def go_ref03_fine_J1 : Nat → Bool → Option Bool
  | 0, _ => none
  | n + 1, x5 =>
    some x5
def go_ref03_fine_J2 : Nat → Bool → Option Bool
  | 0, _ => none
  | n + 1, x14 =>
    some x14
def go_ref03_fine_J4 : Nat → GValue → Int → Bool → Option Bool
  | 0, _, _, _ => none
  | n + 1, a0, x26, x27 =>
    if x27 then
      some false
    else
      go_ref03_fine_L1 n a0 (IntKind.i64.wrap (x26 + 1))
def go_ref03_fine_L1 : Nat → GValue → Int → Option Bool
  | 0, _, _ => none
  | n + 1, a0, x26 =>
    if (decide (x26 < (a0.str.length : Int))) then
      (ix a0.str x26).bind fun x28 =>
      if (decide ((x28.toNat : Int) < 32)) then
        go_ref03_fine_J4 n a0 x26 true
      else
        go_ref03_fine_J4 n a0 x26 (decide (126 < (x28.toNat : Int)))
    else
      some true
def go_ref03_fine_J3 : Nat → GValue → Bool → Option Bool
  | 0, _, _ => none
  | n + 1, a0, x19 =>
    if x19 then
      some false
    else
      go_ref03_fine_L1 n a0 0
def go_ref03_fine_L2 : Nat → GValue → Int → Option Bool
  | 0, _, _ => none
  | n + 1, a0, x38 =>
    if (decide (x38 < (a0.list.length : Int))) then
      (ix a0.list x38).bind fun x39 =>
      (go_ref03_fine n x39).bind fun y42 =>
      if (!y42) then
        some false
      else
        go_ref03_fine_L2 n a0 (IntKind.i64.wrap (x38 + 1))
    else
      some true
def go_ref03_fine_J5 : Nat → GValue → Bool → Option Bool
  | 0, _, _ => none
  | n + 1, a0, x33 =>
    if x33 then
      some false
    else
      go_ref03_fine_L2 n a0 0
def go_ref03_fine : Nat → GValue → Option Bool
  | 0, _ => none
  | n + 1, a0 =>
    if (a0.kind == 1) then
      (go_ref01_Check n a0.num).bind fun y6 =>
      if (y6 == 0) then
        if (!a0.truth) then
          if ((a0.str.length : Int) == 0) then
            go_ref03_fine_J1 n ((a0.list.length : Int) == 0)
          else
            go_ref03_fine_J1 n false
        else
          go_ref03_fine_J1 n false
      else
        go_ref03_fine_J1 n false
    else
      if (a0.kind == 2) then
        if ((a0.num.num == 0) && (a0.num.den == 0)) then
          if ((a0.str.length : Int) == 0) then
            go_ref03_fine_J2 n ((a0.list.length : Int) == 0)
          else
            go_ref03_fine_J2 n false
        else
          go_ref03_fine_J2 n false
      else
        if (a0.kind == 3) then
          if (!((a0.num.num == 0) && (a0.num.den == 0))) then
            go_ref03_fine_J3 n a0 true
          else
            if a0.truth then
              go_ref03_fine_J3 n a0 true
            else
              if (decide (0 < (a0.list.length : Int))) then
                go_ref03_fine_J3 n a0 true
              else
                go_ref03_fine_J3 n a0 (decide (60 < (a0.str.length : Int)))
        else
          if (a0.kind == 4) then
            if (!((a0.num.num == 0) && (a0.num.den == 0))) then
              go_ref03_fine_J5 n a0 true
            else
              if a0.truth then
                go_ref03_fine_J5 n a0 true
              else
                go_ref03_fine_J5 n a0 (decide (0 < (a0.str.length : Int)))
          else
            some false
end
def go_ref03_Check_J1 (n : Nat) (a0 : GValue) (x3 : Bool) : Option Int :=
  if x3 then
    some 4
  else
    (go_ref03_fine n a0).bind fun y10 =>
    if (!y10) then
      some 8
    else
      some 0
def go_ref03_Check (n : Nat) (a0 : GValue) : Option Int :=
  (go_ref03_Parts n a0).bind fun y4 =>
  if (decide (100 < y4)) then
    go_ref03_Check_J1 n a0 true
  else
    (go_ref03_Deep n a0).bind fun y8 =>
    go_ref03_Check_J1 n a0 (decide (6 < y8))
def go_ref45_Named (n : Nat) (a0 : List UInt8) : Option Bool :=
  (go_ref03_Str n a0).bind fun y1 =>
  (go_ref03_Check n y1).bind fun y3 =>
  some (y3 == 0)
mutual
def go_ref45_Check_J1 : Nat → List GTally → Int → Bool → Option Int
  | 0, _, _, _ => none
  | n + 1, a0, x1, x2 =>
    if x2 then
      some 8
    else
      go_ref45_Check_L1 n a0 (IntKind.i64.wrap (x1 + 1))
def go_ref45_Check_L1 : Nat → List GTally → Int → Option Int
  | 0, _, _ => none
  | n + 1, a0, x1 =>
    if (decide (x1 < (a0.length : Int))) then
      (ix a0 x1).bind fun x3 =>
      (go_ref45_Named n x3.name).bind fun y6 =>
      if (!y6) then
        go_ref45_Check_J1 n a0 x1 true
      else
        if (decide (0 < x1)) then
          (ix a0 (IntKind.i64.wrap (x1 - 1))).bind fun x11 =>
          if (!(Op.bytesLess x11.name x3.name)) then
            go_ref45_Check_J1 n a0 x1 true
          else
            if (decide (x3.count < 1)) then
              go_ref45_Check_J1 n a0 x1 true
            else
              if (decide (1000000000 < x3.count)) then
                go_ref45_Check_J1 n a0 x1 true
              else
                if (decide (x3.volume < 0)) then
                  go_ref45_Check_J1 n a0 x1 true
                else
                  go_ref45_Check_J1 n a0 x1 (decide (1000000000000000000 < x3.volume))
        else
          if (decide (x3.count < 1)) then
            go_ref45_Check_J1 n a0 x1 true
          else
            if (decide (1000000000 < x3.count)) then
              go_ref45_Check_J1 n a0 x1 true
            else
              if (decide (x3.volume < 0)) then
                go_ref45_Check_J1 n a0 x1 true
              else
                go_ref45_Check_J1 n a0 x1 (decide (1000000000000000000 < x3.volume))
    else
      some 0
def go_ref45_Check : Nat → List GTally → Option Int
  | 0, _ => none
  | n + 1, a0 =>
    if (decide (200 < (a0.length : Int))) then
      some 4
    else
      go_ref45_Check_L1 n a0 0
end
mutual
def go_ref45_add_at_J2 : Nat → List GTally → GTally → Int → Bool → Option (List GTally)
  | 0, _, _, _, _ => none
  | n + 1, a0, a1, x3, x16 =>
    if x16 then
      (ix a0 x3).bind fun x28 =>
      (ix (a0.set (x3).toNat (GTally.mk x28.name (mnI (IntKind.i64.wrap (x28.count + a1.count)) 1000000001) x28.volume)) x3).bind fun x37 =>
      some ((a0.set (x3).toNat (GTally.mk x28.name (mnI (IntKind.i64.wrap (x28.count + a1.count)) 1000000001) x28.volume)).set (x3).toNat (GTally.mk x37.name x37.count (mnI (IntKind.i64.wrap (x37.volume + a1.volume)) 1000000000000000001)))
    else
      (ext a0 ([(GTally.mk ([]) 0 0)])).bind fun l46 =>
      (shiftO l46 (IntKind.i64.wrap (x3 + 1)) x3).bind fun l51 =>
      (ix l51 x3).bind fun x61 =>
      some (l51.set (x3).toNat a1)
def go_ref45_add_at_J1 : Nat → List GTally → GTally → Int → Bool → Option (List GTally)
  | 0, _, _, _, _ => none
  | n + 1, a0, a1, x3, x4 =>
    if x4 then
      go_ref45_add_at_L1 n a0 a1 (IntKind.i64.wrap (x3 + 1))
    else
      if (decide (x3 < (a0.length : Int))) then
        (ix a0 x3).bind fun x19 =>
        go_ref45_add_at_J2 n a0 a1 x3 (x19.name == a1.name)
      else
        go_ref45_add_at_J2 n a0 a1 x3 false
def go_ref45_add_at_L1 : Nat → List GTally → GTally → Int → Option (List GTally)
  | 0, _, _, _ => none
  | n + 1, a0, a1, x3 =>
    if (decide (x3 < (a0.length : Int))) then
      (ix a0 x3).bind fun x7 =>
      go_ref45_add_at_J1 n a0 a1 x3 (Op.bytesLess x7.name a1.name)
    else
      go_ref45_add_at_J1 n a0 a1 x3 false
def go_ref45_add_at : Nat → List GTally → GTally → Option (List GTally)
  | 0, _, _ => none
  | n + 1, a0, a1 =>
    go_ref45_add_at_L1 n a0 a1 0
end
mutual
def go_ref45_within_J1 : Nat → List GTally → Int → Bool → Option Int
  | 0, _, _, _ => none
  | n + 1, a0, x1, x2 =>
    if x2 then
      some 16
    else
      go_ref45_within_L1 n a0 (IntKind.i64.wrap (x1 + 1))
def go_ref45_within_L1 : Nat → List GTally → Int → Option Int
  | 0, _, _ => none
  | n + 1, a0, x1 =>
    if (decide (x1 < (a0.length : Int))) then
      (ix a0 x1).bind fun x3 =>
      if (decide (1000000000 < x3.count)) then
        go_ref45_within_J1 n a0 x1 true
      else
        go_ref45_within_J1 n a0 x1 (decide (1000000000000000000 < x3.volume))
    else
      some 0
def go_ref45_within : Nat → List GTally → Option Int
  | 0, _ => none
  | n + 1, a0 =>
    if (decide (200 < (a0.length : Int))) then
      some 4
    else
      go_ref45_within_L1 n a0 0
end
mutual
def go_ref45_Merge_L1 : Nat → List GTally → List GTally → Int → Option ((List GTally) × Int)
  | 0, _, _, _ => none
  | n + 1, a1, l16, x17 =>
    if (decide (x17 < (a1.length : Int))) then
      (ix a1 x17).bind fun x18 =>
      (go_ref45_add_at n l16 x18).bind fun y21 =>
      go_ref45_Merge_L1 n a1 y21 (IntKind.i64.wrap (x17 + 1))
    else
      (go_ref45_within n l16).bind fun y24 =>
      if (!(y24 == 0)) then
        (go_ref45_within n l16).bind fun y26 =>
        some ([], y26)
      else
        some (l16, 0)
def go_ref45_Merge : Nat → List GTally → List GTally → Option ((List GTally) × Int)
  | 0, _, _ => none
  | n + 1, a0, a1 =>
    (go_ref45_Check n a0).bind fun y1 =>
    if (!(y1 == 0)) then
      (go_ref45_Check n a0).bind fun y3 =>
      some ([], y3)
    else
      (go_ref45_Check n a1).bind fun y5 =>
      if (!(y5 == 0)) then
        (go_ref45_Check n a1).bind fun y7 =>
        some ([], y7)
      else
        (ext ([]) a0).bind fun l10 =>
        go_ref45_Merge_L1 n a1 l10 0
end
mutual
def go_report_Total_J1 : Nat → Int → Int → Bool → Option (GTally × Int)
  | 0, _, _, _ => none
  | n + 1, x7, x8, x19 =>
    if x19 then
      some ((GTally.mk ([]) 0 0), 16)
    else
      some ((GTally.mk ([]) x7 x8), 0)
def go_report_Total_L1 : Nat → List GTally → Int → Int → Int → Option (GTally × Int)
  | 0, _, _, _, _ => none
  | n + 1, a0, x7, x8, x9 =>
    if (decide (x9 < (a0.length : Int))) then
      (ix a0 x9).bind fun x10 =>
      (go_report_sum_int n x7 x10.count 1000000000).bind fun y15 =>
      (go_report_sum_int64 n x8 x10.volume 1000000000000000000).bind fun y17 =>
      go_report_Total_L1 n a0 y15 y17 (IntKind.i64.wrap (x9 + 1))
    else
      if (decide (1000000000 < x7)) then
        go_report_Total_J1 n x7 x8 true
      else
        go_report_Total_J1 n x7 x8 (decide (1000000000000000000 < x8))
def go_report_Total : Nat → List GTally → Option (GTally × Int)
  | 0, _ => none
  | n + 1, a0 =>
    (go_report_Check n a0).bind fun y3 =>
    if (!(y3 == 0)) then
      some ((GTally.mk ([]) 0 0), y3)
    else
      go_report_Total_L1 n a0 0 0 0
end
mutual
def go_ref45_Total_L1 : Nat → List GTally → Int → Int → Int → Option (GTally × Int)
  | 0, _, _, _, _ => none
  | n + 1, a0, x9, x10, x11 =>
    if (decide (x11 < (a0.length : Int))) then
      (ix a0 x11).bind fun x12 =>
      go_ref45_Total_L1 n a0 (mnI (IntKind.i64.wrap (x9 + x12.count)) 1000000001) (mnI (IntKind.i64.wrap (x10 + x12.volume)) 1000000000000000001) (IntKind.i64.wrap (x11 + 1))
    else
      (go_ref45_within n ([(GTally.mk ([]) x9 x10)])).bind fun y15 =>
      if (!(y15 == 0)) then
        some ((GTally.mk ([]) 0 0), 16)
      else
        some ((GTally.mk ([]) x9 x10), 0)
def go_ref45_Total : Nat → List GTally → Option (GTally × Int)
  | 0, _ => none
  | n + 1, a0 =>
    (go_ref45_Check n a0).bind fun y3 =>
    if (!(y3 == 0)) then
      (go_ref45_Check n a0).bind fun y5 =>
      some ((GTally.mk ([]) 0 0), y5)
    else
      go_ref45_Total_L1 n a0 0 0 0
end
mutual
def go_ref45_Same_L1 : Nat → List GTally → List GTally → Int → Option Bool
  | 0, _, _, _ => none
  | n + 1, a0, a1, x1 =>
    if (decide (x1 < (a0.length : Int))) then
      (ix a0 x1).bind fun x2 =>
      (ix a1 x1).bind fun x5 =>
      if (!((x2.name == x5.name) && ((x2.count == x5.count) && (x2.volume == x5.volume)))) then
        some false
      else
        go_ref45_Same_L1 n a0 a1 (IntKind.i64.wrap (x1 + 1))
    else
      some true
def go_ref45_Same : Nat → List GTally → List GTally → Option Bool
  | 0, _, _ => none
  | n + 1, a0, a1 =>
    if (!((a0.length : Int) == (a1.length : Int))) then
      some false
    else
      go_ref45_Same_L1 n a0 a1 0
end
mutual
def go_report_Merge_own_L2 : Nat → List GTally → List GTally → Int → List GTally → (List (List UInt8 × GTally)) → Int → Option ((List GTally) × Int)
  | 0, _, _, _, _, _, _ => none
  | n + 1, a0, a1, x4, x5, x14, x15 =>
    if (decide (x15 < (x5.length : Int))) then
      (ix x5 x15).bind fun x16 =>
      (go_report_book_put_at n x16 x14).bind fun y21 =>
      go_report_Merge_own_L2 n a0 a1 x4 x5 y21 (IntKind.i64.wrap (x15 + 1))
    else
      go_report_Merge_own_L1 n a0 a1 x14 (IntKind.i64.wrap (x4 + 1))
def go_report_Merge_own_L1 : Nat → List GTally → List GTally → (List (List UInt8 × GTally)) → Int → Option ((List GTally) × Int)
  | 0, _, _, _, _ => none
  | n + 1, a0, a1, x3, x4 =>
    if (decide (x4 < 2)) then
      (ix [a0, a1] x4).bind fun x5 =>
      (go_report_Check n x5).bind fun y11 =>
      if (!(y11 == 0)) then
        some ([], y11)
      else
        go_report_Merge_own_L2 n a0 a1 x4 x5 x3 0
    else
      (go_report_book_lines_at n x3).bind fun y23 =>
      some (y23.1, y23.2)
def go_report_Merge_own : Nat → List GTally → List GTally → Option ((List GTally) × Int)
  | 0, _, _ => none
  | n + 1, a0, a1 =>
    go_report_Merge_own_L1 n a0 a1 ([] : List (List UInt8 × GTally)) 0
end
mutual
def go_ref45_Same_at_L1 : Nat → List GTally → List GTally → Int → Option Bool
  | 0, _, _, _ => none
  | n + 1, a0, a1, x2 =>
    if (decide (x2 < (a0.length : Int))) then
      (ix a0 x2).bind fun x4 =>
      (ix a1 x2).bind fun x12 =>
      if (!((x4.name == x12.name) && ((x4.count == x12.count) && (x4.volume == x12.volume)))) then
        some false
      else
        go_ref45_Same_at_L1 n a0 a1 (IntKind.i64.wrap (x2 + 1))
    else
      some true
def go_ref45_Same_at : Nat → List GTally → List GTally → Option Bool
  | 0, _, _ => none
  | n + 1, a0, a1 =>
    if (!((a0.length : Int) == (a1.length : Int))) then
      some false
    else
      go_ref45_Same_at_L1 n a0 a1 0
end
mutual
def go_ref45_Same_at_2_L1 : Nat → List GTally → List GTally → Int → Option Bool
  | 0, _, _, _ => none
  | n + 1, a0, a1, x2 =>
    if (decide (x2 < (a0.length : Int))) then
      (ix a0 x2).bind fun x3 =>
      (ix a1 x2).bind fun x6 =>
      if (!((x3.name == x6.name) && ((x3.count == x6.count) && (x3.volume == x6.volume)))) then
        some false
      else
        go_ref45_Same_at_2_L1 n a0 a1 (IntKind.i64.wrap (x2 + 1))
    else
      some true
def go_ref45_Same_at_2 : Nat → List GTally → List GTally → Option Bool
  | 0, _, _ => none
  | n + 1, a0, a1 =>
    if (!((a0.length : Int) == (a1.length : Int))) then
      some false
    else
      go_ref45_Same_at_2_L1 n a0 a1 0
end
mutual
def go_gambrellaw45_ReportSums_L1 : Nat → List GTally → List GTally → List GTally → Int → Option Bool
  | 0, _, _, _, _ => none
  | n + 1, a0, l9, l46, x47 =>
    if (decide (x47 < (l46.length : Int))) then
      (ix l46 x47).bind fun x49 =>
      go_gambrellaw45_ReportSums_L1 n a0 l9 (l46.set (x47).toNat (GTally.mk x49.name 77 x49.volume)) (IntKind.i64.wrap (x47 + 1))
    else
      (go_ref45_Same_at_2 n a0 l9).bind fun y58 =>
      some y58
def go_gambrellaw45_ReportSums_J2 : Nat → List GTally → List GTally → List GTally → Bool → Option Bool
  | 0, _, _, _, _ => none
  | n + 1, a0, l9, l29, x30 =>
    if x30 then
      some false
    else
      go_gambrellaw45_ReportSums_L1 n a0 l9 l29 0
def go_gambrellaw45_ReportSums_J1 : Nat → List GTally → List GTally → Bool → Option Bool
  | 0, _, _, _ => none
  | n + 1, a0, a1, x1 =>
    if x1 then
      some true
    else
      (ext ([]) a0).bind fun l9 =>
      (go_report_Merge_own n a0 a1).bind fun y14 =>
      (go_ref45_Merge n a0 a1).bind fun y18 =>
      (go_report_Total n a0).bind fun y20 =>
      (go_ref45_Total n a0).bind fun y24 =>
      (go_report_Check n a0).bind fun y31 =>
      (go_ref45_Check n a0).bind fun y33 =>
      if (!(y31 == y33)) then
        go_gambrellaw45_ReportSums_J2 n a0 l9 y14.1 true
      else
        (go_ref45_Same_at n y14.1 y18.1).bind fun y37 =>
        if (!y37) then
          go_gambrellaw45_ReportSums_J2 n a0 l9 y14.1 true
        else
          if (!(y14.2 == y18.2)) then
            go_gambrellaw45_ReportSums_J2 n a0 l9 y14.1 true
          else
            if (!((y20.1.name == y24.1.name) && ((y20.1.count == y24.1.count) && (y20.1.volume == y24.1.volume)))) then
              go_gambrellaw45_ReportSums_J2 n a0 l9 y14.1 true
            else
              go_gambrellaw45_ReportSums_J2 n a0 l9 y14.1 (!(y20.2 == y24.2))
def go_gambrellaw45_ReportSums : Nat → List GTally → List GTally → Option Bool
  | 0, _, _ => none
  | n + 1, a0, a1 =>
    (go_ref45_Great n a0).bind fun y2 =>
    if y2 then
      go_gambrellaw45_ReportSums_J1 n a0 a1 true
    else
      (go_ref45_Great n a1).bind fun y6 =>
      go_gambrellaw45_ReportSums_J1 n a0 a1 y6
end
end Go.Ab
