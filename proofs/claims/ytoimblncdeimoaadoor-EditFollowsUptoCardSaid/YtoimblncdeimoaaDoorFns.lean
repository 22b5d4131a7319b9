/-
  WHAT THE GO FUNCTIONS COMPUTE, by a program of this repo (gen.py).
-/
import Derived.Test.YtoimblncdeimoaaDoorTypes
import Derived.Test.YtoimblncdeimoaaDoorAbLabel
import Derived.Lib.Bytealg
import Derived.Lib.Join
namespace Go.Ab
open Go
set_option linter.unusedVariables false
mutual
def go_ref30_Great_J1 : Nat → List GOver → Int → Bool → Option Bool
  | 0, _, _, _ => none
  | n + 1, a0, x1, x2 =>
    if x2 then
      some true
    else
      go_ref30_Great_L1 n a0 (IntKind.i64.wrap (x1 + 1))
def go_ref30_Great_L1 : Nat → List GOver → Int → Option Bool
  | 0, _, _ => none
  | n + 1, a0, x1 =>
    if (decide (x1 < (a0.length : Int))) then
      (ix a0 x1).bind fun x3 =>
      if (decide (5000 < (x3.path.length : Int))) then
        go_ref30_Great_J1 n a0 x1 true
      else
        go_ref30_Great_J1 n a0 x1 (decide (200 < (x3.name.length : Int)))
    else
      some (decide (70 < (a0.length : Int)))
def go_ref30_Great : Nat → List GOver → Option Bool
  | 0, _ => none
  | n + 1, a0 =>
    go_ref30_Great_L1 n a0 0
end
def go_internal_bytealg_CountString (n : Nat) (a0 : List UInt8) (a1 : Int) : Option Int :=
  some (Lib.countByte a0 (a1.toNat.toUInt8) : Int)
def go_strings_Count_s47 : Nat → List UInt8 → Option Int
  | 0, _ => none
  | n + 1, a0 =>
    (go_internal_bytealg_CountString n a0 ((47 : UInt8).toNat : Int)).bind fun y1 =>
    some y1
def go_internal_bytealg_IndexByteString (n : Nat) (a0 : List UInt8) (a1 : Int) : Option Int :=
  some (Lib.indexByte a0 a1.toNat.toUInt8)
def go_internal_stringslite_IndexByte (n : Nat) (a0 : List UInt8) (a1 : Int) : Option Int :=
  (go_internal_bytealg_IndexByteString n a0 a1).bind fun y1 =>
  some y1
mutual
def go_internal_stringslite_Index_s47_J1 : Nat → List UInt8 → Bool → Option Int
  | 0, _, _ => none
  | n + 1, a0, x1 =>
    if x1 then
      some 0
    else
      (go_internal_stringslite_IndexByte n a0 ((47 : UInt8).toNat : Int)).bind fun y2 =>
      some y2
def go_internal_stringslite_Index_s47 : Nat → List UInt8 → Option Int
  | 0, _ => none
  | n + 1, a0 =>
    go_internal_stringslite_Index_s47_J1 n a0 (([47]) == a0)
end
def go_internal_stringslite_Cut_s47 (n : Nat) (a0 : List UInt8) : Option ((List UInt8) × (List UInt8) × Bool) :=
  (go_internal_stringslite_Index_s47 n a0).bind fun y1 =>
  if (decide (0 ≤ y1)) then
    (sub a0 0 y1).bind fun x3 =>
    (sub a0 (IntKind.i64.wrap (y1 + 1)) (a0.length : Int)).bind fun x11 =>
    some (x3, x11, true)
  else
    some (a0, [], false)
def go_strings_Cut_s47 (n : Nat) (a0 : List UInt8) : Option ((List UInt8) × (List UInt8) × Bool) :=
  (go_internal_stringslite_Cut_s47 n a0).bind fun y1 =>
  some (y1.1, y1.2.1, y1.2.2)
mutual
def go_internal_stringslite_Index_s91_J1 : Nat → List UInt8 → Bool → Option Int
  | 0, _, _ => none
  | n + 1, a0, x1 =>
    if x1 then
      some 0
    else
      (go_internal_stringslite_IndexByte n a0 ((91 : UInt8).toNat : Int)).bind fun y2 =>
      some y2
def go_internal_stringslite_Index_s91 : Nat → List UInt8 → Option Int
  | 0, _ => none
  | n + 1, a0 =>
    go_internal_stringslite_Index_s91_J1 n a0 (([91]) == a0)
end
def go_internal_stringslite_Cut_s91 (n : Nat) (a0 : List UInt8) : Option ((List UInt8) × (List UInt8) × Bool) :=
  (go_internal_stringslite_Index_s91 n a0).bind fun y1 =>
  if (decide (0 ≤ y1)) then
    (sub a0 0 y1).bind fun x3 =>
    (sub a0 (IntKind.i64.wrap (y1 + 1)) (a0.length : Int)).bind fun x11 =>
    some (x3, x11, true)
  else
    some (a0, [], false)
def go_strings_Cut_s91 (n : Nat) (a0 : List UInt8) : Option ((List UInt8) × (List UInt8) × Bool) :=
  (go_internal_stringslite_Cut_s91 n a0).bind fun y1 =>
  some (y1.1, y1.2.1, y1.2.2)
mutual
def go_label_Name_J3 : Nat → List UInt8 → Nat → Bool → Option Bool
  | 0, _, _, _ => none
  | n + 1, a0, x6, x11 =>
    if x11 then
      some false
    else
      go_label_Name_L1 n a0 (x6 + (decL a0 x6).2)
def go_label_Name_J2 : Nat → List UInt8 → Nat → Bool → Option Bool
  | 0, _, _, _ => none
  | n + 1, a0, x6, x8 =>
    if (!x8) then
      if (((x6 : Nat) : Int) == 0) then
        go_label_Name_J3 n a0 x6 true
      else
        if (!(((decL a0 x6).1 : Int) == 45)) then
          if (decide (((decL a0 x6).1 : Int) < 48)) then
            go_label_Name_J3 n a0 x6 true
          else
            go_label_Name_J3 n a0 x6 (decide (57 < ((decL a0 x6).1 : Int)))
        else
          go_label_Name_J3 n a0 x6 false
    else
      go_label_Name_J3 n a0 x6 false
def go_label_Name_L1 : Nat → List UInt8 → Nat → Option Bool
  | 0, _, _ => none
  | n + 1, a0, x6 =>
    if (decide (x6 < a0.length)) then
      if (decide (97 ≤ ((decL a0 x6).1 : Int))) then
        go_label_Name_J2 n a0 x6 (decide (((decL a0 x6).1 : Int) ≤ 122))
      else
        go_label_Name_J2 n a0 x6 false
    else
      some true
def go_label_Name_J1 : Nat → List UInt8 → Bool → Option Bool
  | 0, _, _ => none
  | n + 1, a0, x1 =>
    if x1 then
      some false
    else
      go_label_Name_L1 n a0 0
def go_label_Name : Nat → List UInt8 → Option Bool
  | 0, _ => none
  | n + 1, a0 =>
    if ((a0.length : Int) == 0) then
      go_label_Name_J1 n a0 true
    else
      go_label_Name_J1 n a0 (decide (40 < (a0.length : Int)))
end
def go_internal_stringslite_HasSuffix_s93_J1 (n : Nat) (x1 : Bool) : Option Bool :=
  some x1
def go_internal_stringslite_HasSuffix_s93 (n : Nat) (a0 : List UInt8) : Option Bool :=
  if (decide (1 ≤ (a0.length : Int))) then
    (sub a0 (IntKind.i64.wrap ((a0.length : Int) - 1)) (a0.length : Int)).bind fun x3 =>
    go_internal_stringslite_HasSuffix_s93_J1 n (x3 == ([93]))
  else
    go_internal_stringslite_HasSuffix_s93_J1 n false
def go_internal_stringslite_CutSuffix_s93 (n : Nat) (a0 : List UInt8) : Option ((List UInt8) × Bool) :=
  (go_internal_stringslite_HasSuffix_s93 n a0).bind fun y1 =>
  if (!y1) then
    some (a0, false)
  else
    (sub a0 0 (IntKind.i64.wrap ((a0.length : Int) - 1))).bind fun x3 =>
    some (x3, true)
def go_strings_CutSuffix_s93 (n : Nat) (a0 : List UInt8) : Option ((List UInt8) × Bool) :=
  (go_internal_stringslite_CutSuffix_s93 n a0).bind fun y1 =>
  some (y1.1, y1.2)
mutual
def go_label_read_J2 : Nat → GStepT → Bool → Option (GStepT × Bool)
  | 0, _, _ => none
  | n + 1, x10, x11 =>
    some (x10, x11)
def go_label_read_J4 : Nat → ((List UInt8) × (List UInt8) × Bool) → ((List UInt8) × Bool) → Nat → GStepT → Int → Bool → Option (GStepT × Bool)
  | 0, _, _, _, _, _, _ => none
  | n + 1, y3, y16, x32, x33, x34, x36 =>
    if x36 then
      some ((GStepT.mk ([]) 0), false)
    else
      go_label_read_L1 n y3 y16 (x32 + (decL y16.1 x32).2) x33 (IntKind.i64.wrap ((IntKind.i64.wrap (10 * x34)) + (IntKind.i64.wrap (IntKind.i32.wrap (((decL y16.1 x32).1 : Int) - 48)))))
def go_label_read_L1 : Nat → ((List UInt8) × (List UInt8) × Bool) → ((List UInt8) × Bool) → Nat → GStepT → Int → Option (GStepT × Bool)
  | 0, _, _, _, _, _ => none
  | n + 1, y3, y16, x32, x33, x34 =>
    if (decide (x32 < y16.1.length)) then
      if (decide (((decL y16.1 x32).1 : Int) < 48)) then
        go_label_read_J4 n y3 y16 x32 x33 x34 true
      else
        go_label_read_J4 n y3 y16 x32 x33 x34 (decide (57 < ((decL y16.1 x32).1 : Int)))
    else
      some ((GStepT.mk y3.1 x34), true)
def go_label_read_J3 : Nat → ((List UInt8) × (List UInt8) × Bool) → ((List UInt8) × Bool) → Bool → Option (GStepT × Bool)
  | 0, _, _, _ => none
  | n + 1, y3, y16, x18 =>
    if x18 then
      some ((GStepT.mk ([]) 0), false)
    else
      go_label_read_L1 n y3 y16 0 (GStepT.mk ([]) 0) 0
def go_label_read_J1 : Nat → ((List UInt8) × (List UInt8) × Bool) → Bool → Option (GStepT × Bool)
  | 0, _, _ => none
  | n + 1, y3, x5 =>
    if x5 then
      if (!y3.2.2) then
        (go_label_Name n y3.1).bind fun y13 =>
        go_label_read_J2 n (GStepT.mk y3.1 (-1)) y13
      else
        go_label_read_J2 n (GStepT.mk y3.1 (-1)) false
    else
      (go_strings_CutSuffix_s93 n y3.2.1).bind fun y16 =>
      if (!y16.2) then
        go_label_read_J3 n y3 y16 true
      else
        if ((y16.1.length : Int) == 0) then
          go_label_read_J3 n y3 y16 true
        else
          if (decide (4 < (y16.1.length : Int))) then
            go_label_read_J3 n y3 y16 true
          else
            (ix y16.1 0).bind fun x25 =>
            if ((x25.toNat : Int) == 48) then
              go_label_read_J3 n y3 y16 (decide (1 < (y16.1.length : Int)))
            else
              go_label_read_J3 n y3 y16 false
def go_label_read : Nat → List UInt8 → Option (GStepT × Bool)
  | 0, _ => none
  | n + 1, a0 =>
    (go_strings_Cut_s91 n a0).bind fun y3 =>
    (go_label_Name n y3.1).bind fun y6 =>
    if (!y6) then
      go_label_read_J1 n y3 true
    else
      go_label_read_J1 n y3 (!y3.2.2)
end
def go_label_Check (n : Nat) (a0 : List UInt8) : Option Int :=
  some (labelCheck a0)
def go_override_formed_1_J1 (n : Nat) (x1 : Bool) : Option Bool :=
  some x1
def go_override_formed_1 (n : Nat) (a0 : Int) : Option Bool :=
  if (decide (a0 < 32)) then
    go_override_formed_1_J1 n true
  else
    go_override_formed_1_J1 n (decide (126 < a0))
mutual
def go_strings_indexFunc__override_formed_1_L1 : Nat → List UInt8 → Bool → Nat → Option Int
  | 0, _, _, _ => none
  | n + 1, a0, a2, x3 =>
    if (decide (x3 < a0.length)) then
      (go_override_formed_1 n ((decL a0 x3).1 : Int)).bind fun y5 =>
      if (y5 == a2) then
        some ((x3 : Nat) : Int)
      else
        go_strings_indexFunc__override_formed_1_L1 n a0 a2 (x3 + (decL a0 x3).2)
    else
      some (-1)
def go_strings_indexFunc__override_formed_1 : Nat → List UInt8 → Bool → Option Int
  | 0, _, _ => none
  | n + 1, a0, a2 =>
    go_strings_indexFunc__override_formed_1_L1 n a0 a2 0
end
def go_strings_IndexFunc__override_formed_1 (n : Nat) (a0 : List UInt8) : Option Int :=
  (go_strings_indexFunc__override_formed_1 n a0 true).bind fun y1 =>
  some y1
mutual
def go_override_formed_J3 : Nat → List GOver → Int → Bool → Option Int
  | 0, _, _, _ => none
  | n + 1, a0, x1, x13 =>
    go_override_formed_J2 n a0 x1 x13
def go_override_formed_J5 : Nat → List GOver → Int → Bool → Option Int
  | 0, _, _, _ => none
  | n + 1, a0, x1, x17 =>
    go_override_formed_J4 n a0 x1 x17
def go_override_formed_J7 : Nat → List GOver → Int → Bool → Option Int
  | 0, _, _, _ => none
  | n + 1, a0, x1, x23 =>
    go_override_formed_J6 n a0 x1 x23
def go_override_formed_J6 : Nat → List GOver → Int → Bool → Option Int
  | 0, _, _, _ => none
  | n + 1, a0, x1, x22 =>
    go_override_formed_J4 n a0 x1 x22
def go_override_formed_J4 : Nat → List GOver → Int → Bool → Option Int
  | 0, _, _, _ => none
  | n + 1, a0, x1, x16 =>
    go_override_formed_J2 n a0 x1 x16
def go_override_formed_J2 : Nat → List GOver → Int → Bool → Option Int
  | 0, _, _, _ => none
  | n + 1, a0, x1, x12 =>
    if (!x12) then
      some 8
    else
      go_override_formed_L1 n a0 (IntKind.i64.wrap (x1 + 1))
def go_override_formed_J1 : Nat → List GOver → Int → GOver → Bool → Option Int
  | 0, _, _, _, _ => none
  | n + 1, a0, x1, x2, x7 =>
    if (x2.kind == 1) then
      if x7 then
        go_override_formed_J3 n a0 x1 (x2.name == ([]))
      else
        go_override_formed_J3 n a0 x1 false
    else
      if (x2.kind == 2) then
        if x7 then
          (go_label_Name n x2.name).bind fun y19 =>
          go_override_formed_J5 n a0 x1 y19
        else
          go_override_formed_J5 n a0 x1 false
      else
        if (x2.kind == 3) then
          if x7 then
            if (decide ((x2.name.length : Int) ≤ 60)) then
              (go_strings_IndexFunc__override_formed_1 n x2.name).bind fun y26 =>
              go_override_formed_J7 n a0 x1 (decide (y26 < 0))
            else
              go_override_formed_J7 n a0 x1 false
          else
            go_override_formed_J7 n a0 x1 false
        else
          go_override_formed_J6 n a0 x1 false
def go_override_formed_L1 : Nat → List GOver → Int → Option Int
  | 0, _, _ => none
  | n + 1, a0, x1 =>
    if (decide (x1 < (a0.length : Int))) then
      (ix a0 x1).bind fun x2 =>
      (go_label_Check n x2.path).bind fun y8 =>
      if (y8 == 0) then
        go_override_formed_J1 n a0 x1 x2 (!(x2.path == ([])))
      else
        go_override_formed_J1 n a0 x1 x2 false
    else
      some 0
def go_override_formed : Nat → List GOver → Option Int
  | 0, _ => none
  | n + 1, a0 =>
    if (decide (60 < (a0.length : Int))) then
      some 4
    else
      go_override_formed_L1 n a0 0
end
mutual
def go_override_Attach_L2 : Nat → List GOver → (List (List UInt8 × Bool)) → List Bool → Int → Option ((List Bool) × Int)
  | 0, _, _, _, _ => none
  | n + 1, a1, x5, l15, x16 =>
    if (decide (x16 < (a1.length : Int))) then
      (ix a1 x16).bind fun x17 =>
      (ext l15 ([((mget x5 x17.path).getD false)])).bind fun l24 =>
      go_override_Attach_L2 n a1 x5 l24 (IntKind.i64.wrap (x16 + 1))
    else
      some (l15, 0)
def go_override_Attach_L1 : Nat → List GNode → List GOver → (List (List UInt8 × Bool)) → Int → Option ((List Bool) × Int)
  | 0, _, _, _, _ => none
  | n + 1, a0, a1, x5, x6 =>
    if (decide (x6 < (a0.length : Int))) then
      (ix a0 x6).bind fun x7 =>
      go_override_Attach_L1 n a0 a1 (mput x5 x7.path true) (IntKind.i64.wrap (x6 + 1))
    else
      go_override_Attach_L2 n a1 x5 ([]) 0
def go_override_Attach : Nat → List GNode → List GOver → Option ((List Bool) × Int)
  | 0, _, _ => none
  | n + 1, a0, a1 =>
    (go_override_formed n a1).bind fun y1 =>
    if (!(y1 == 0)) then
      some ([], y1)
    else
      go_override_Attach_L1 n a0 a1 ([] : List (List UInt8 × Bool)) 0
end
def go_strings_Split_s47 (n : Nat) (a0 : List UInt8) : Option (List (List UInt8)) :=
  if a0.length ≤ 1048576 then some (parts 47 a0) else none
def go_strings_Split_own_s47 (n : Nat) (a0 : List UInt8) : Option (List (List UInt8)) :=
  if a0.length ≤ 1048576 then some (parts 47 a0) else none
def go_strings_Join_s47 (n : Nat) (a0 : List (List UInt8)) : Option (List UInt8) :=
  if a0.length ≤ 1048576 ∧ (Lib.join a0 [47]).length ≤ 16777216 then some (Lib.join a0 [47]) else none
mutual
def go_edit_Follow_J3 : Nat → List GOver → List UInt8 → List UInt8 → List GOver → Int → GOver → (List (List UInt8)) → Int → List (List UInt8) → Option ((List GOver) × Int)
  | 0, _, _, _, _, _, _, _, _, _ => none
  | n + 1, a0, a1, a2, l12, x13, x14, y19, x26, l49 =>
    go_edit_Follow_J2 n a0 a1 a2 l12 x13 x14 y19 x26 l49
def go_edit_Follow_J2 : Nat → List GOver → List UInt8 → List UInt8 → List GOver → Int → GOver → (List (List UInt8)) → Int → List (List UInt8) → Option ((List GOver) × Int)
  | 0, _, _, _, _, _, _, _, _, _ => none
  | n + 1, a0, a1, a2, l12, x13, x14, y19, x26, l38 =>
    go_edit_Follow_L2 n a0 a1 a2 l12 x13 x14 y19 l38 (IntKind.i64.wrap (x26 + 1))
def go_edit_Follow_J5 : Nat → List GOver → List UInt8 → List UInt8 → List GOver → Int → GOver → List UInt8 → List UInt8 → Option ((List GOver) × Int)
  | 0, _, _, _, _, _, _, _, _ => none
  | n + 1, a0, a1, a2, l12, x13, x14, y66, x71 =>
    (ext l12 ([(GOver.mk y66 x14.kind x71)])).bind fun l72 =>
    go_edit_Follow_L1 n a0 a1 a2 l72 (IntKind.i64.wrap (x13 + 1))
def go_edit_Follow_J4 : Nat → List GOver → List UInt8 → List UInt8 → List GOver → Int → GOver → List UInt8 → Bool → Option ((List GOver) × Int)
  | 0, _, _, _, _, _, _, _, _ => none
  | n + 1, a0, a1, a2, l12, x13, x14, y66, x68 =>
    if x68 then
      go_edit_Follow_J5 n a0 a1 a2 l12 x13 x14 y66 a2
    else
      go_edit_Follow_J5 n a0 a1 a2 l12 x13 x14 y66 x14.name
def go_edit_Follow_L2 : Nat → List GOver → List UInt8 → List UInt8 → List GOver → Int → GOver → (List (List UInt8)) → List (List UInt8) → Int → Option ((List GOver) × Int)
  | 0, _, _, _, _, _, _, _, _, _ => none
  | n + 1, a0, a1, a2, l12, x13, x14, y19, l25, x26 =>
    if (decide (x26 < (y19.length : Int))) then
      (ix l25 x26).bind fun x27 =>
      (go_strings_Cut_s91 n x27).bind fun y35 =>
      if (y35.1 == a1) then
        (ix l25 x26).bind fun x39 =>
        if y35.2.2 then
          (ix (l25.set (x26).toNat a2) x26).bind fun x50 =>
          (cat ([91]) y35.2.1).bind fun x58 =>
          (cat x50 x58).bind fun x61 =>
          go_edit_Follow_J3 n a0 a1 a2 l12 x13 x14 y19 x26 ((l25.set (x26).toNat a2).set (x26).toNat x61)
        else
          go_edit_Follow_J3 n a0 a1 a2 l12 x13 x14 y19 x26 (l25.set (x26).toNat a2)
      else
        go_edit_Follow_J2 n a0 a1 a2 l12 x13 x14 y19 x26 l25
    else
      (go_strings_Join_s47 n l25).bind fun y66 =>
      if (x14.kind == 2) then
        go_edit_Follow_J4 n a0 a1 a2 l12 x13 x14 y66 (x14.name == a1)
      else
        go_edit_Follow_J4 n a0 a1 a2 l12 x13 x14 y66 false
def go_edit_Follow_L1 : Nat → List GOver → List UInt8 → List UInt8 → List GOver → Int → Option ((List GOver) × Int)
  | 0, _, _, _, _, _ => none
  | n + 1, a0, a1, a2, l12, x13 =>
    if (decide (x13 < (a0.length : Int))) then
      (ix a0 x13).bind fun x14 =>
      (go_strings_Split_own_s47 n x14.path).bind fun y19 =>
      go_edit_Follow_L2 n a0 a1 a2 l12 x13 x14 y19 y19 0
    else
      some (l12, 0)
def go_edit_Follow_J1 : Nat → List GOver → List UInt8 → List UInt8 → Bool → Option ((List GOver) × Int)
  | 0, _, _, _, _ => none
  | n + 1, a0, a1, a2, x3 =>
    if x3 then
      some ([], 12)
    else
      go_edit_Follow_L1 n a0 a1 a2 ([]) 0
def go_edit_Follow : Nat → List GOver → List UInt8 → List UInt8 → Option ((List GOver) × Int)
  | 0, _, _, _ => none
  | n + 1, a0, a1, a2 =>
    (go_override_Attach n ([]) a0).bind fun y1 =>
    if (!(y1.2 == 0)) then
      some ([], y1.2)
    else
      (go_label_Name n a1).bind fun y4 =>
      if (!y4) then
        go_edit_Follow_J1 n a0 a1 a2 true
      else
        (go_label_Name n a2).bind fun y8 =>
        go_edit_Follow_J1 n a0 a1 a2 (!y8)
end
mutual
def go_ref02_Cut_J2 : Nat → List UInt8 → Int → List (List UInt8) → Int → Option (List (List UInt8))
  | 0, _, _, _, _ => none
  | n + 1, a0, x5, l13, x14 =>
    go_ref02_Cut_L1 n a0 l13 x14 (IntKind.i64.wrap (x5 + 1))
def go_ref02_Cut_J1 : Nat → List UInt8 → List (List UInt8) → Int → Int → Bool → Option (List (List UInt8))
  | 0, _, _, _, _, _ => none
  | n + 1, a0, l3, x4, x5, x6 =>
    if x6 then
      (sub a0 x4 x5).bind fun x15 =>
      (ext l3 ([x15])).bind fun l23 =>
      go_ref02_Cut_J2 n a0 x5 l23 (IntKind.i64.wrap (x5 + 1))
    else
      go_ref02_Cut_J2 n a0 x5 l3 x4
def go_ref02_Cut_L1 : Nat → List UInt8 → List (List UInt8) → Int → Int → Option (List (List UInt8))
  | 0, _, _, _, _ => none
  | n + 1, a0, l3, x4, x5 =>
    if (decide (x5 ≤ (a0.length : Int))) then
      if (x5 == (a0.length : Int)) then
        go_ref02_Cut_J1 n a0 l3 x4 x5 true
      else
        (ix a0 x5).bind fun x9 =>
        go_ref02_Cut_J1 n a0 l3 x4 x5 ((x9.toNat : Int) == 47)
    else
      some l3
def go_ref02_Cut : Nat → List UInt8 → Option (List (List UInt8))
  | 0, _ => none
  | n + 1, a0 =>
    if (a0 == ([])) then
      some ([])
    else
      go_ref02_Cut_L1 n a0 ([]) 0 0
end
def go_ref02_letter_J1 (n : Nat) (x1 : Bool) : Option Bool :=
  some x1
def go_ref02_letter (n : Nat) (a0 : Int) : Option Bool :=
  if (decide (97 ≤ a0)) then
    go_ref02_letter_J1 n (decide (a0 ≤ 122))
  else
    go_ref02_letter_J1 n false
def go_ref02_digit_J1 (n : Nat) (x1 : Bool) : Option Bool :=
  some x1
def go_ref02_digit (n : Nat) (a0 : Int) : Option Bool :=
  if (decide (48 ≤ a0)) then
    go_ref02_digit_J1 n (decide (a0 ≤ 57))
  else
    go_ref02_digit_J1 n false
mutual
def go_ref02_Name_J1 : Nat → List UInt8 → Int → Bool → Option Bool
  | 0, _, _, _ => none
  | n + 1, a0, x1, x2 =>
    if x2 then
      some false
    else
      go_ref02_Name_L1 n a0 (IntKind.i64.wrap (x1 + 1))
def go_ref02_Name_J2 : Nat → Bool → Option Bool
  | 0, _ => none
  | n + 1, x16 =>
    some x16
def go_ref02_Name_L1 : Nat → List UInt8 → Int → Option Bool
  | 0, _, _ => none
  | n + 1, a0, x1 =>
    if (decide (x1 < (a0.length : Int))) then
      (ix a0 x1).bind fun x3 =>
      (go_ref02_letter n (x3.toNat : Int)).bind fun y6 =>
      if (!y6) then
        if (x1 == 0) then
          go_ref02_Name_J1 n a0 x1 true
        else
          if (!((x3.toNat : Int) == 45)) then
            (go_ref02_digit n (x3.toNat : Int)).bind fun y12 =>
            go_ref02_Name_J1 n a0 x1 (!y12)
          else
            go_ref02_Name_J1 n a0 x1 false
      else
        go_ref02_Name_J1 n a0 x1 false
    else
      if (decide (1 ≤ (a0.length : Int))) then
        go_ref02_Name_J2 n (decide ((a0.length : Int) ≤ 40))
      else
        go_ref02_Name_J2 n false
def go_ref02_Name : Nat → List UInt8 → Option Bool
  | 0, _ => none
  | n + 1, a0 =>
    go_ref02_Name_L1 n a0 0
end
mutual
def go_ref02_Step_J2 : Nat → List UInt8 → Int → List UInt8 → Int → Int → Bool → Option ((List UInt8) × Int × Bool)
  | 0, _, _, _, _, _, _ => none
  | n + 1, a0, x1, x21, x29, x30, x31 =>
    if x31 then
      some ([], 0, false)
    else
      (ix x21 x30).bind fun x39 =>
      go_ref02_Step_L2 n a0 x1 x21 (IntKind.i64.wrap ((IntKind.i64.wrap (10 * x29)) + (IntKind.i64.wrap (IntKind.u8.wrap ((x39.toNat : Int) - 48))))) (IntKind.i64.wrap (x30 + 1))
def go_ref02_Step_J3 : Nat → List UInt8 → Int → Int → Bool → Option ((List UInt8) × Int × Bool)
  | 0, _, _, _, _ => none
  | n + 1, a0, x1, x29, x42 =>
    if x42 then
      some ([], 0, false)
    else
      (sub a0 0 x1).bind fun x50 =>
      some (x50, x29, true)
def go_ref02_Step_L2 : Nat → List UInt8 → Int → List UInt8 → Int → Int → Option ((List UInt8) × Int × Bool)
  | 0, _, _, _, _, _ => none
  | n + 1, a0, x1, x21, x29, x30 =>
    if (decide (x30 < (x21.length : Int))) then
      (ix x21 x30).bind fun x32 =>
      (go_ref02_digit n (x32.toNat : Int)).bind fun y35 =>
      if (!y35) then
        go_ref02_Step_J2 n a0 x1 x21 x29 x30 true
      else
        go_ref02_Step_J2 n a0 x1 x21 x29 x30 (decide (3 < x30))
    else
      if ((x21.length : Int) == 0) then
        go_ref02_Step_J3 n a0 x1 x29 true
      else
        if (decide (1 < (x21.length : Int))) then
          (ix x21 0).bind fun x46 =>
          go_ref02_Step_J3 n a0 x1 x29 ((x46.toNat : Int) == 48)
        else
          go_ref02_Step_J3 n a0 x1 x29 false
def go_ref02_Step_J1 : Nat → List UInt8 → Int → Bool → Option ((List UInt8) × Int × Bool)
  | 0, _, _, _ => none
  | n + 1, a0, x1, x2 =>
    if x2 then
      go_ref02_Step_L1 n a0 (IntKind.i64.wrap (x1 + 1))
    else
      (sub a0 0 x1).bind fun x8 =>
      (go_ref02_Name n x8).bind fun y16 =>
      if (!y16) then
        some ([], 0, false)
      else
        if (x1 == (a0.length : Int)) then
          some (a0, (-1), true)
        else
          (ix a0 (IntKind.i64.wrap ((a0.length : Int) - 1))).bind fun x18 =>
          if (!((x18.toNat : Int) == 93)) then
            some ([], 0, false)
          else
            (sub a0 (IntKind.i64.wrap (x1 + 1)) (IntKind.i64.wrap ((a0.length : Int) - 1))).bind fun x21 =>
            go_ref02_Step_L2 n a0 x1 x21 0 0
def go_ref02_Step_L1 : Nat → List UInt8 → Int → Option ((List UInt8) × Int × Bool)
  | 0, _, _ => none
  | n + 1, a0, x1 =>
    if (decide (x1 < (a0.length : Int))) then
      (ix a0 x1).bind fun x4 =>
      go_ref02_Step_J1 n a0 x1 (!((x4.toNat : Int) == 91))
    else
      go_ref02_Step_J1 n a0 x1 false
def go_ref02_Step : Nat → List UInt8 → Option ((List UInt8) × Int × Bool)
  | 0, _ => none
  | n + 1, a0 =>
    go_ref02_Step_L1 n a0 0
end
mutual
def go_ref02_Check_L1 : Nat → List (List UInt8) → Int → Option Int
  | 0, _, _ => none
  | n + 1, y1, x3 =>
    if (decide (x3 < (y1.length : Int))) then
      (ix y1 x3).bind fun x4 =>
      (go_ref02_Step n x4).bind fun y7 =>
      if (!y7.2.2) then
        some 12
      else
        go_ref02_Check_L1 n y1 (IntKind.i64.wrap (x3 + 1))
    else
      some 0
def go_ref02_Check : Nat → List UInt8 → Option Int
  | 0, _ => none
  | n + 1, a0 =>
    if (decide (4000 < (a0.length : Int))) then
      some 4
    else
      (go_ref02_Cut n a0).bind fun y1 =>
      if (decide (40 < (y1.length : Int))) then
        some 4
      else
        go_ref02_Check_L1 n y1 0
end
mutual
def go_ref30_formed_J2 : Nat → GOver → Int → Bool → Option Bool
  | 0, _, _, _ => none
  | n + 1, a0, x10, x11 =>
    if x11 then
      some false
    else
      go_ref30_formed_L1 n a0 (IntKind.i64.wrap (x10 + 1))
def go_ref30_formed_L1 : Nat → GOver → Int → Option Bool
  | 0, _, _ => none
  | n + 1, a0, x10 =>
    if (decide (x10 < (a0.name.length : Int))) then
      (ix a0.name x10).bind fun x12 =>
      if (decide ((x12.toNat : Int) < 32)) then
        go_ref30_formed_J2 n a0 x10 true
      else
        go_ref30_formed_J2 n a0 x10 (decide (126 < (x12.toNat : Int)))
    else
      some (decide ((a0.name.length : Int) ≤ 60))
def go_ref30_formed_J1 : Nat → GOver → Bool → Option Bool
  | 0, _, _ => none
  | n + 1, a0, x3 =>
    if x3 then
      some false
    else
      if (a0.kind == 1) then
        some ((a0.name.length : Int) == 0)
      else
        if (a0.kind == 2) then
          (go_ref02_Name n a0.name).bind fun y8 =>
          some y8
        else
          if (a0.kind == 3) then
            go_ref30_formed_L1 n a0 0
          else
            some false
def go_ref30_formed : Nat → GOver → Option Bool
  | 0, _ => none
  | n + 1, a0 =>
    (go_ref02_Check n a0.path).bind fun y4 =>
    if (!(y4 == 0)) then
      go_ref30_formed_J1 n a0 true
    else
      go_ref30_formed_J1 n a0 ((a0.path.length : Int) == 0)
end
mutual
def go_ref30_Formed_L1 : Nat → List GOver → Int → Option Int
  | 0, _, _ => none
  | n + 1, a0, x1 =>
    if (decide (x1 < (a0.length : Int))) then
      (ix a0 x1).bind fun x2 =>
      (go_ref30_formed n x2).bind fun y5 =>
      if (!y5) then
        some 8
      else
        go_ref30_Formed_L1 n a0 (IntKind.i64.wrap (x1 + 1))
    else
      some 0
def go_ref30_Formed : Nat → List GOver → Option Int
  | 0, _ => none
  | n + 1, a0 =>
    if (decide (60 < (a0.length : Int))) then
      some 4
    else
      go_ref30_Formed_L1 n a0 0
end
mutual
def go_ref02_Path_J1 : Nat → List (List UInt8) → Int → List UInt8 → Option (List UInt8)
  | 0, _, _, _ => none
  | n + 1, a0, x2, x3 =>
    (ix a0 x2).bind fun x7 =>
    (cat x3 x7).bind fun x10 =>
    go_ref02_Path_L1 n a0 x10 (IntKind.i64.wrap (x2 + 1))
def go_ref02_Path_L1 : Nat → List (List UInt8) → List UInt8 → Int → Option (List UInt8)
  | 0, _, _, _ => none
  | n + 1, a0, x1, x2 =>
    if (decide (x2 < (a0.length : Int))) then
      if (decide (0 < x2)) then
        (cat x1 ([47])).bind fun x4 =>
        go_ref02_Path_J1 n a0 x2 x4
      else
        go_ref02_Path_J1 n a0 x2 x1
    else
      some x1
def go_ref02_Path : Nat → List (List UInt8) → Option (List UInt8)
  | 0, _ => none
  | n + 1, a0 =>
    go_ref02_Path_L1 n a0 ([]) 0
end
mutual
def go_ref31_RenamedPath_J1 : Nat → List UInt8 → List UInt8 → Int → List (List UInt8) → Option (List UInt8)
  | 0, _, _, _, _ => none
  | n + 1, a1, a2, x11, l24 =>
    go_ref31_RenamedPath_L1 n a1 a2 l24 (IntKind.i64.wrap (x11 + 1))
def go_ref31_RenamedPath_L1 : Nat → List UInt8 → List UInt8 → List (List UInt8) → Int → Option (List UInt8)
  | 0, _, _, _, _ => none
  | n + 1, a1, a2, l10, x11 =>
    if (decide (x11 < (l10.length : Int))) then
      (ix l10 x11).bind fun x13 =>
      (go_ref02_Step n x13).bind fun y21 =>
      if (y21.1 == a1) then
        (ix l10 x11).bind fun x25 =>
        (sub x25 (y21.1.length : Int) (x25.length : Int)).bind fun x33 =>
        (cat a2 x33).bind fun x41 =>
        go_ref31_RenamedPath_J1 n a1 a2 x11 (l10.set (x11).toNat x41)
      else
        go_ref31_RenamedPath_J1 n a1 a2 x11 l10
    else
      (go_ref02_Path n l10).bind fun y46 =>
      some y46
def go_ref31_RenamedPath : Nat → List UInt8 → List UInt8 → List UInt8 → Option (List UInt8)
  | 0, _, _, _ => none
  | n + 1, a0, a1, a2 =>
    (go_ref02_Cut n a0).bind fun y1 =>
    (ext ([]) y1).bind fun l4 =>
    go_ref31_RenamedPath_L1 n a1 a2 l4 0
end
def go_ref31_other (n : Nat) (a0 : List UInt8) (a1 : List UInt8) (a2 : List UInt8) : Option (List UInt8) :=
  if (a0 == a1) then
    some a2
  else
    some a0
mutual
def go_ref31_Follow_J2 : Nat → List GOver → List UInt8 → List UInt8 → List GOver → Int → GOver → List UInt8 → List UInt8 → Option ((List GOver) × Int)
  | 0, _, _, _, _, _, _, _, _ => none
  | n + 1, a0, a1, a2, l14, x15, x16, y21, x23 =>
    (ext l14 ([(GOver.mk y21 x16.kind x23)])).bind fun l26 =>
    go_ref31_Follow_L1 n a0 a1 a2 l26 (IntKind.i64.wrap (x15 + 1))
def go_ref31_Follow_L1 : Nat → List GOver → List UInt8 → List UInt8 → List GOver → Int → Option ((List GOver) × Int)
  | 0, _, _, _, _, _ => none
  | n + 1, a0, a1, a2, l14, x15 =>
    if (decide (x15 < (a0.length : Int))) then
      (ix a0 x15).bind fun x16 =>
      (go_ref31_RenamedPath n x16.path a1 a2).bind fun y21 =>
      if (x16.kind == 2) then
        (go_ref31_other n x16.name a1 a2).bind fun y24 =>
        go_ref31_Follow_J2 n a0 a1 a2 l14 x15 x16 y21 y24
      else
        go_ref31_Follow_J2 n a0 a1 a2 l14 x15 x16 y21 x16.name
    else
      some (l14, 0)
def go_ref31_Follow_J1 : Nat → List GOver → List UInt8 → List UInt8 → Bool → Option ((List GOver) × Int)
  | 0, _, _, _, _ => none
  | n + 1, a0, a1, a2, x5 =>
    if x5 then
      some ([], 12)
    else
      go_ref31_Follow_L1 n a0 a1 a2 ([]) 0
def go_ref31_Follow : Nat → List GOver → List UInt8 → List UInt8 → Option ((List GOver) × Int)
  | 0, _, _, _ => none
  | n + 1, a0, a1, a2 =>
    (go_ref30_Formed n a0).bind fun y1 =>
    if (!(y1 == 0)) then
      (go_ref30_Formed n a0).bind fun y3 =>
      some ([], y3)
    else
      (go_ref02_Name n a1).bind fun y6 =>
      if (!y6) then
        go_ref31_Follow_J1 n a0 a1 a2 true
      else
        (go_ref02_Name n a2).bind fun y10 =>
        go_ref31_Follow_J1 n a0 a1 a2 (!y10)
end
mutual
def go_ref31_SameOvers_L1 : Nat → List GOver → List GOver → Int → Option Bool
  | 0, _, _, _ => none
  | n + 1, a0, a1, x1 =>
    if (decide (x1 < (a0.length : Int))) then
      (ix a0 x1).bind fun x2 =>
      (ix a1 x1).bind fun x5 =>
      if (!((x2.path == x5.path) && ((x2.kind == x5.kind) && (x2.name == x5.name)))) then
        some false
      else
        go_ref31_SameOvers_L1 n a0 a1 (IntKind.i64.wrap (x1 + 1))
    else
      some true
def go_ref31_SameOvers : Nat → List GOver → List GOver → Option Bool
  | 0, _, _ => none
  | n + 1, a0, a1 =>
    if (!((a0.length : Int) == (a1.length : Int))) then
      some false
    else
      go_ref31_SameOvers_L1 n a0 a1 0
end
def go_gambrellaw31_EditFollows_J2 (n : Nat) (x12 : Bool) : Option Bool :=
  some x12
def go_gambrellaw31_EditFollows_J1 (n : Nat) (a0 : List GOver) (a1 : List UInt8) (a2 : List UInt8) (x1 : Bool) : Option Bool :=
  if x1 then
    some true
  else
    (go_edit_Follow n a0 a1 a2).bind fun y8 =>
    (go_ref31_Follow n a0 a1 a2).bind fun y10 =>
    (go_ref31_SameOvers n y8.1 y10.1).bind fun y13 =>
    if y13 then
      go_gambrellaw31_EditFollows_J2 n (y8.2 == y10.2)
    else
      go_gambrellaw31_EditFollows_J2 n false
def go_gambrellaw31_EditFollows (n : Nat) (a0 : List GOver) (a1 : List UInt8) (a2 : List UInt8) : Option Bool :=
  (go_ref30_Great n a0).bind fun y2 =>
  if y2 then
    go_gambrellaw31_EditFollows_J1 n a0 a1 a2 true
  else
    if (decide (100 < (a1.length : Int))) then
      go_gambrellaw31_EditFollows_J1 n a0 a1 a2 true
    else
      go_gambrellaw31_EditFollows_J1 n a0 a1 a2 (decide (100 < (a2.length : Int)))
end Go.Ab
