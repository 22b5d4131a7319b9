/-
  WHAT THE GO FUNCTIONS COMPUTE, by a program of this repo (gen.py).
-/
import Derived.Test.YtabknpjajioneaaTypes
import Derived.Test.YtabknpjajioneaaAbGen
namespace Go.Ab
open Go
set_option linter.unusedVariables false
mutual
def go_ref03_great_L1 : Nat → GValue → Int → Int → Option Bool
  | 0, _, _, _ => none
  | n + 1, a0, a1, x8 =>
    if (decide (x8 < (a0.list.length : Int))) then
      (ix a0.list x8).bind fun x9 =>
      (go_ref03_great n x9 (IntKind.i64.wrap (a1 - 1))).bind fun y12 =>
      if y12 then
        some true
      else
        go_ref03_great_L1 n a0 a1 (IntKind.i64.wrap (x8 + 1))
    else
      some false
def go_ref03_great_J1 : Nat → GValue → Int → Bool → Option Bool
  | 0, _, _, _ => none
  | n + 1, a0, a1, x3 =>
    if x3 then
      some true
    else
      go_ref03_great_L1 n a0 a1 0
def go_ref03_great : Nat → GValue → Int → Option Bool
  | 0, _, _ => none
  | n + 1, a0, a1 =>
    if (a1 == 0) then
      go_ref03_great_J1 n a0 a1 true
    else
      if (decide (200 < (a0.str.length : Int))) then
        go_ref03_great_J1 n a0 a1 true
      else
        go_ref03_great_J1 n a0 a1 (decide (150 < (a0.list.length : Int)))
end
mutual
def go_ref03_Parts_J1 : Nat → GValue → Int → Int → Bool → Option Int
  | 0, _, _, _, _ => none
  | n + 1, a0, x3, x4, x5 =>
    if x5 then
      (ix a0.list x4).bind fun x8 =>
      (go_ref03_Parts n x8).bind fun y11 =>
      go_ref03_Parts_L1 n a0 (IntKind.i64.wrap (x3 + y11)) (IntKind.i64.wrap (x4 + 1))
    else
      some x3
def go_ref03_Parts_L1 : Nat → GValue → Int → Int → Option Int
  | 0, _, _, _ => none
  | n + 1, a0, x3, x4 =>
    if (decide (x4 < (a0.list.length : Int))) then
      go_ref03_Parts_J1 n a0 x3 x4 (a0.kind == 4)
    else
      go_ref03_Parts_J1 n a0 x3 x4 false
def go_ref03_Parts : Nat → GValue → Option Int
  | 0, _ => none
  | n + 1, a0 =>
    go_ref03_Parts_L1 n a0 1 0
end
def go_ref03_Great_J1 (n : Nat) (x3 : Bool) : Option Bool :=
  some x3
def go_ref03_Great (n : Nat) (a0 : GValue) : Option Bool :=
  (go_ref03_great n a0 10).bind fun y4 =>
  if y4 then
    go_ref03_Great_J1 n true
  else
    (go_ref03_Parts n a0).bind fun y8 =>
    go_ref03_Great_J1 n (decide (150 < y8))
mutual
def go_ref27_GreatArgs_L1 : Nat → List GValue → Int → Option Bool
  | 0, _, _ => none
  | n + 1, a0, x1 =>
    if (decide (x1 < (a0.length : Int))) then
      (ix a0 x1).bind fun x2 =>
      (go_ref03_Great n x2).bind fun y5 =>
      if y5 then
        some true
      else
        go_ref27_GreatArgs_L1 n a0 (IntKind.i64.wrap (x1 + 1))
    else
      some (decide (10 < (a0.length : Int)))
def go_ref27_GreatArgs : Nat → List GValue → Option Bool
  | 0, _ => none
  | n + 1, a0 =>
    go_ref27_GreatArgs_L1 n a0 0
end
mutual
def go_ref27_Great_J1 : Nat → List GNode → Int → Bool → Option Bool
  | 0, _, _, _ => none
  | n + 1, a0, x1, x2 =>
    if x2 then
      some true
    else
      go_ref27_Great_L1 n a0 (IntKind.i64.wrap (x1 + 1))
def go_ref27_Great_L1 : Nat → List GNode → Int → Option Bool
  | 0, _, _ => none
  | n + 1, a0, x1 =>
    if (decide (x1 < (a0.length : Int))) then
      (ix a0 x1).bind fun x3 =>
      if (decide (5000 < (x3.path.length : Int))) then
        go_ref27_Great_J1 n a0 x1 true
      else
        if (decide (100 < (x3.rule_.length : Int))) then
          go_ref27_Great_J1 n a0 x1 true
        else
          if (decide (200 < (x3.leaf.length : Int))) then
            go_ref27_Great_J1 n a0 x1 true
          else
            (go_ref27_GreatArgs n x3.args).bind fun y12 =>
            go_ref27_Great_J1 n a0 x1 y12
    else
      some (decide (2100 < (a0.length : Int)))
def go_ref27_Great : Nat → List GNode → Option Bool
  | 0, _ => none
  | n + 1, a0 =>
    go_ref27_Great_L1 n a0 0
end
def go_derive_Find_1 (n : Nat) (a0 : GNode) (c0 : List UInt8) : Option Bool :=
  some (a0.path == c0)
mutual
def go_slices_IndexFunc_Node_Node__derive_Find_1_L1 : Nat → List GNode → List UInt8 → Int → Option Int
  | 0, _, _, _ => none
  | n + 1, a0, c0, x1 =>
    if (decide (x1 < (a0.length : Int))) then
      (ix a0 x1).bind fun x2 =>
      (go_derive_Find_1 n x2 c0).bind fun y5 =>
      if y5 then
        some x1
      else
        go_slices_IndexFunc_Node_Node__derive_Find_1_L1 n a0 c0 (IntKind.i64.wrap (x1 + 1))
    else
      some (-1)
def go_slices_IndexFunc_Node_Node__derive_Find_1 : Nat → List GNode → List UInt8 → Option Int
  | 0, _, _ => none
  | n + 1, a0, c0 =>
    go_slices_IndexFunc_Node_Node__derive_Find_1_L1 n a0 c0 0
end
def go_derive_Find (n : Nat) (a0 : List GNode) (a1 : List UInt8) : Option (Int × Int) :=
  (go_slices_IndexFunc_Node_Node__derive_Find_1 n a0 a1).bind fun y3 =>
  if (decide (0 ≤ y3)) then
    some (y3, 0)
  else
    some (0, 6)
mutual
def go_ref27_Find_L1 : Nat → List GNode → List UInt8 → Int → Option (Int × Int)
  | 0, _, _, _ => none
  | n + 1, a0, a1, x1 =>
    if (decide (x1 < (a0.length : Int))) then
      (ix a0 x1).bind fun x2 =>
      if (x2.path == a1) then
        some (x1, 0)
      else
        go_ref27_Find_L1 n a0 a1 (IntKind.i64.wrap (x1 + 1))
    else
      some (0, 6)
def go_ref27_Find : Nat → List GNode → List UInt8 → Option (Int × Int)
  | 0, _, _ => none
  | n + 1, a0, a1 =>
    go_ref27_Find_L1 n a0 a1 0
end
mutual
def go_value_Twin_1__value_Twin_1_L1 : Nat → GValue → List GValue → Int → Option GValue
  | 0, _, _, _ => none
  | n + 1, a0, l7, x8 =>
    if (decide (x8 < (a0.list.length : Int))) then
      (ix a0.list x8).bind fun x9 =>
      (go_value_Twin_1__value_Twin_1 n x9).bind fun y14 =>
      (ext l7 ([y14])).bind fun l16 =>
      go_value_Twin_1__value_Twin_1_L1 n a0 l16 (IntKind.i64.wrap (x8 + 1))
    else
      some (GValue.mk a0.kind a0.num a0.truth a0.str l7)
def go_value_Twin_1__value_Twin_1 : Nat → GValue → Option GValue
  | 0, _ => none
  | n + 1, a0 =>
    go_value_Twin_1__value_Twin_1_L1 n a0 ([]) 0
end
def go_value_Twin (n : Nat) (a0 : GValue) : Option GValue :=
  (go_value_Twin_1__value_Twin_1 n a0).bind fun y7 =>
  some y7
mutual
def go_derive_twin_L1 : Nat → GNode → List GValue → Int → Option GNode
  | 0, _, _, _ => none
  | n + 1, a0, l7, x8 =>
    if (decide (x8 < (a0.args.length : Int))) then
      (ix a0.args x8).bind fun x9 =>
      (go_value_Twin n x9).bind fun y14 =>
      (ext l7 ([y14])).bind fun l16 =>
      go_derive_twin_L1 n a0 l16 (IntKind.i64.wrap (x8 + 1))
    else
      some (GNode.mk a0.path a0.rule_ l7 a0.scope a0.leaf a0.fault a0.open_)
def go_derive_twin : Nat → GNode → Option GNode
  | 0, _ => none
  | n + 1, a0 =>
    go_derive_twin_L1 n a0 ([]) 0
end
mutual
def go_derive_Leaves_J1 : Nat → List GNode → Int → List GNode → Option (List GNode)
  | 0, _, _, _ => none
  | n + 1, a0, x4, l11 =>
    go_derive_Leaves_L1 n a0 l11 (IntKind.i64.wrap (x4 + 1))
def go_derive_Leaves_L1 : Nat → List GNode → List GNode → Int → Option (List GNode)
  | 0, _, _, _ => none
  | n + 1, a0, l3, x4 =>
    if (decide (x4 < (a0.length : Int))) then
      (ix a0 x4).bind fun x5 =>
      if (x5.rule_ == ([])) then
        (go_derive_twin n x5).bind fun y12 =>
        (ext l3 ([y12])).bind fun l14 =>
        go_derive_Leaves_J1 n a0 x4 l14
      else
        go_derive_Leaves_J1 n a0 x4 l3
    else
      some l3
def go_derive_Leaves : Nat → List GNode → Option (List GNode)
  | 0, _ => none
  | n + 1, a0 =>
    go_derive_Leaves_L1 n a0 ([]) 0
end
mutual
def go_ref03_Twin_L1 : Nat → GValue → List GValue → Int → Option GValue
  | 0, _, _, _ => none
  | n + 1, a0, l9, x10 =>
    if (decide (x10 < (a0.list.length : Int))) then
      (ix a0.list x10).bind fun x11 =>
      (go_ref03_Twin n x11).bind fun y14 =>
      (ext l9 ([y14])).bind fun l16 =>
      go_ref03_Twin_L1 n a0 l16 (IntKind.i64.wrap (x10 + 1))
    else
      some (GValue.mk a0.kind a0.num a0.truth a0.str l9)
def go_ref03_Twin : Nat → GValue → Option GValue
  | 0, _ => none
  | n + 1, a0 =>
    go_ref03_Twin_L1 n a0 ([]) 0
end
mutual
def go_ref27_Twin_L1 : Nat → GNode → List GValue → Int → Option GNode
  | 0, _, _, _ => none
  | n + 1, a0, l9, x10 =>
    if (decide (x10 < (a0.args.length : Int))) then
      (ix a0.args x10).bind fun x11 =>
      (go_ref03_Twin n x11).bind fun y14 =>
      (ext l9 ([y14])).bind fun l16 =>
      go_ref27_Twin_L1 n a0 l16 (IntKind.i64.wrap (x10 + 1))
    else
      some (GNode.mk a0.path a0.rule_ l9 a0.scope a0.leaf a0.fault a0.open_)
def go_ref27_Twin : Nat → GNode → Option GNode
  | 0, _ => none
  | n + 1, a0 =>
    go_ref27_Twin_L1 n a0 ([]) 0
end
mutual
def go_ref27_Leaves_J1 : Nat → List GNode → Int → List GNode → Option (List GNode)
  | 0, _, _, _ => none
  | n + 1, a0, x4, l9 =>
    go_ref27_Leaves_L1 n a0 l9 (IntKind.i64.wrap (x4 + 1))
def go_ref27_Leaves_L1 : Nat → List GNode → List GNode → Int → Option (List GNode)
  | 0, _, _, _ => none
  | n + 1, a0, l3, x4 =>
    if (decide (x4 < (a0.length : Int))) then
      (ix a0 x4).bind fun x5 =>
      if ((x5.rule_.length : Int) == 0) then
        (go_ref27_Twin n x5).bind fun y10 =>
        (ext l3 ([y10])).bind fun l12 =>
        go_ref27_Leaves_J1 n a0 x4 l12
      else
        go_ref27_Leaves_J1 n a0 x4 l3
    else
      some l3
def go_ref27_Leaves : Nat → List GNode → Option (List GNode)
  | 0, _ => none
  | n + 1, a0 =>
    go_ref27_Leaves_L1 n a0 ([]) 0
end
mutual
def go_ref03_Same_L1 : Nat → GValue → GValue → Int → Option Bool
  | 0, _, _, _ => none
  | n + 1, a0, a1, x14 =>
    if (decide (x14 < (a0.list.length : Int))) then
      (ix a0.list x14).bind fun x15 =>
      (ix a1.list x14).bind fun x18 =>
      (go_ref03_Same n x15 x18).bind fun y21 =>
      if (!y21) then
        some false
      else
        go_ref03_Same_L1 n a0 a1 (IntKind.i64.wrap (x14 + 1))
    else
      some true
def go_ref03_Same_J1 : Nat → GValue → GValue → Bool → Option Bool
  | 0, _, _, _ => none
  | n + 1, a0, a1, x5 =>
    if x5 then
      some false
    else
      go_ref03_Same_L1 n a0 a1 0
def go_ref03_Same : Nat → GValue → GValue → Option Bool
  | 0, _, _ => none
  | n + 1, a0, a1 =>
    if (!(a0.kind == a1.kind)) then
      go_ref03_Same_J1 n a0 a1 true
    else
      if (!((a0.num.num == a1.num.num) && (a0.num.den == a1.num.den))) then
        go_ref03_Same_J1 n a0 a1 true
      else
        if (!(a0.truth == a1.truth)) then
          go_ref03_Same_J1 n a0 a1 true
        else
          if (!(a0.str == a1.str)) then
            go_ref03_Same_J1 n a0 a1 true
          else
            go_ref03_Same_J1 n a0 a1 (!((a0.list.length : Int) == (a1.list.length : Int)))
end
mutual
def go_ref27_Same_L1 : Nat → GNode → GNode → Int → Option Bool
  | 0, _, _, _ => none
  | n + 1, a0, a1, x18 =>
    if (decide (x18 < (a0.args.length : Int))) then
      (ix a0.args x18).bind fun x19 =>
      (ix a1.args x18).bind fun x22 =>
      (go_ref03_Same n x19 x22).bind fun y25 =>
      if (!y25) then
        some false
      else
        go_ref27_Same_L1 n a0 a1 (IntKind.i64.wrap (x18 + 1))
    else
      some true
def go_ref27_Same_J1 : Nat → GNode → GNode → Bool → Option Bool
  | 0, _, _, _ => none
  | n + 1, a0, a1, x5 =>
    if x5 then
      some false
    else
      go_ref27_Same_L1 n a0 a1 0
def go_ref27_Same : Nat → GNode → GNode → Option Bool
  | 0, _, _ => none
  | n + 1, a0, a1 =>
    if (!(a0.path == a1.path)) then
      go_ref27_Same_J1 n a0 a1 true
    else
      if (!(a0.rule_ == a1.rule_)) then
        go_ref27_Same_J1 n a0 a1 true
      else
        if (!((a0.scope.frame.turn == a1.scope.frame.turn) && ((a0.scope.frame.at_.x == a1.scope.frame.at_.x) && ((a0.scope.frame.at_.y == a1.scope.frame.at_.y) && ((a0.scope.frame.at_.z == a1.scope.frame.at_.z) && ((a0.scope.size_.x == a1.scope.size_.x) && ((a0.scope.size_.y == a1.scope.size_.y) && (a0.scope.size_.z == a1.scope.size_.z)))))))) then
          go_ref27_Same_J1 n a0 a1 true
        else
          if (!(a0.leaf == a1.leaf)) then
            go_ref27_Same_J1 n a0 a1 true
          else
            if (!(a0.fault == a1.fault)) then
              go_ref27_Same_J1 n a0 a1 true
            else
              if (!(a0.open_ == a1.open_)) then
                go_ref27_Same_J1 n a0 a1 true
              else
                go_ref27_Same_J1 n a0 a1 (!((a0.args.length : Int) == (a1.args.length : Int)))
end
mutual
def go_ref27_SameAll_L1 : Nat → List GNode → List GNode → Int → Option Bool
  | 0, _, _, _ => none
  | n + 1, a0, a1, x1 =>
    if (decide (x1 < (a0.length : Int))) then
      (ix a0 x1).bind fun x2 =>
      (ix a1 x1).bind fun x5 =>
      (go_ref27_Same n x2 x5).bind fun y8 =>
      if (!y8) then
        some false
      else
        go_ref27_SameAll_L1 n a0 a1 (IntKind.i64.wrap (x1 + 1))
    else
      some true
def go_ref27_SameAll : Nat → List GNode → List GNode → Option Bool
  | 0, _, _ => none
  | n + 1, a0, a1 =>
    if (!((a0.length : Int) == (a1.length : Int))) then
      some false
    else
      go_ref27_SameAll_L1 n a0 a1 0
end
mutual
def go_value_Same_L1 : Nat → GValue → GValue → Int → Option Bool
  | 0, _, _, _ => none
  | n + 1, a0, a1, x14 =>
    if (decide (x14 < (a0.list.length : Int))) then
      (ix a0.list x14).bind fun x15 =>
      (ix a1.list x14).bind fun x18 =>
      (go_value_Same n x15 x18).bind fun y21 =>
      if (!y21) then
        some false
      else
        go_value_Same_L1 n a0 a1 (IntKind.i64.wrap (x14 + 1))
    else
      some true
def go_value_Same_J1 : Nat → GValue → GValue → Bool → Option Bool
  | 0, _, _, _ => none
  | n + 1, a0, a1, x5 =>
    if x5 then
      some false
    else
      go_value_Same_L1 n a0 a1 0
def go_value_Same : Nat → GValue → GValue → Option Bool
  | 0, _, _ => none
  | n + 1, a0, a1 =>
    if (!(a0.kind == a1.kind)) then
      go_value_Same_J1 n a0 a1 true
    else
      if (!((a0.num.num == a1.num.num) && (a0.num.den == a1.num.den))) then
        go_value_Same_J1 n a0 a1 true
      else
        if (!(a0.truth == a1.truth)) then
          go_value_Same_J1 n a0 a1 true
        else
          if (!(a0.str == a1.str)) then
            go_value_Same_J1 n a0 a1 true
          else
            go_value_Same_J1 n a0 a1 (!((a0.list.length : Int) == (a1.list.length : Int)))
end
mutual
def go_slices_EqualFunc_Value_Value_Value_Value__value_Same_L1 : Nat → List GValue → List GValue → Int → Option Bool
  | 0, _, _, _ => none
  | n + 1, a0, a1, x1 =>
    if (decide (x1 < (a0.length : Int))) then
      (ix a0 x1).bind fun x2 =>
      (ix a1 x1).bind fun x7 =>
      (go_value_Same n x2 x7).bind fun y12 =>
      if (!y12) then
        some false
      else
        go_slices_EqualFunc_Value_Value_Value_Value__value_Same_L1 n a0 a1 (IntKind.i64.wrap (x1 + 1))
    else
      some true
def go_slices_EqualFunc_Value_Value_Value_Value__value_Same : Nat → List GValue → List GValue → Option Bool
  | 0, _, _ => none
  | n + 1, a0, a1 =>
    if (!((a0.length : Int) == (a1.length : Int))) then
      some false
    else
      go_slices_EqualFunc_Value_Value_Value_Value__value_Same_L1 n a0 a1 0
end
def go_derive_Same_J1 (n : Nat) (x5 : Bool) : Option Bool :=
  some x5
def go_derive_Same (n : Nat) (a0 : GNode) (a1 : GNode) : Option Bool :=
  if (a0.path == a1.path) then
    if (a0.rule_ == a1.rule_) then
      if ((a0.scope.frame.turn == a1.scope.frame.turn) && ((a0.scope.frame.at_.x == a1.scope.frame.at_.x) && ((a0.scope.frame.at_.y == a1.scope.frame.at_.y) && ((a0.scope.frame.at_.z == a1.scope.frame.at_.z) && ((a0.scope.size_.x == a1.scope.size_.x) && ((a0.scope.size_.y == a1.scope.size_.y) && (a0.scope.size_.z == a1.scope.size_.z))))))) then
        if (a0.leaf == a1.leaf) then
          if (a0.fault == a1.fault) then
            if (a0.open_ == a1.open_) then
              (go_slices_EqualFunc_Value_Value_Value_Value__value_Same n a0.args a1.args).bind fun y12 =>
              go_derive_Same_J1 n y12
            else
              go_derive_Same_J1 n false
          else
            go_derive_Same_J1 n false
        else
          go_derive_Same_J1 n false
      else
        go_derive_Same_J1 n false
    else
      go_derive_Same_J1 n false
  else
    go_derive_Same_J1 n false
mutual
def go_gambrellaw27_DeriveLists_J3 : Nat → List GNode → Int → Bool → Option Bool
  | 0, _, _, _ => none
  | n + 1, a0, x21, x22 =>
    if x22 then
      some false
    else
      go_gambrellaw27_DeriveLists_L1 n a0 (IntKind.i64.wrap (x21 + 1))
def go_gambrellaw27_DeriveLists_L1 : Nat → List GNode → Int → Option Bool
  | 0, _, _ => none
  | n + 1, a0, x21 =>
    if (decide (x21 < (a0.length : Int))) then
      (ix a0 (IntKind.i64.wrap (x21 - 1))).bind fun x23 =>
      (ix a0 x21).bind fun x26 =>
      (go_derive_Same n x23 x26).bind fun y29 =>
      (go_ref27_Same n x23 x26).bind fun y31 =>
      if (!(y29 == y31)) then
        go_gambrellaw27_DeriveLists_J3 n a0 x21 true
      else
        (go_derive_Same n x26 x26).bind fun y35 =>
        go_gambrellaw27_DeriveLists_J3 n a0 x21 (!y35)
    else
      some true
def go_gambrellaw27_DeriveLists_J2 : Nat → List GNode → Bool → Option Bool
  | 0, _, _ => none
  | n + 1, a0, x10 =>
    if x10 then
      some false
    else
      go_gambrellaw27_DeriveLists_L1 n a0 1
def go_gambrellaw27_DeriveLists_J1 : Nat → List GNode → List UInt8 → Bool → Option Bool
  | 0, _, _, _ => none
  | n + 1, a0, a1, x1 =>
    if x1 then
      some true
    else
      (go_derive_Find n a0 a1).bind fun y6 =>
      (go_ref27_Find n a0 a1).bind fun y8 =>
      if (!(y6.1 == y8.1)) then
        go_gambrellaw27_DeriveLists_J2 n a0 true
      else
        if (!(y6.2 == y8.2)) then
          go_gambrellaw27_DeriveLists_J2 n a0 true
        else
          (go_derive_Leaves n a0).bind fun y15 =>
          (go_ref27_Leaves n a0).bind fun y17 =>
          (go_ref27_SameAll n y15 y17).bind fun y19 =>
          go_gambrellaw27_DeriveLists_J2 n a0 (!y19)
def go_gambrellaw27_DeriveLists : Nat → List GNode → List UInt8 → Option Bool
  | 0, _, _ => none
  | n + 1, a0, a1 =>
    (go_ref27_Great n a0).bind fun y2 =>
    if y2 then
      go_gambrellaw27_DeriveLists_J1 n a0 a1 true
    else
      go_gambrellaw27_DeriveLists_J1 n a0 a1 (decide (5000 < (a1.length : Int)))
end
end Go.Ab
