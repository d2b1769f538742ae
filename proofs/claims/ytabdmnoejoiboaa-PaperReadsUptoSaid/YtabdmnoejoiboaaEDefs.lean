import Derived.Test.YtabdmnoejoiboaaETab
import Derived.Test.YtabdmnoejoiboaaProg
namespace Go.Proofs.Ytabdmnoejoiboaa.E
open Go Go.Proofs.Ytabdmnoejoiboaa.Eng Go.Proofs
set_option linter.unusedVariables false
set_option maxRecDepth 100000
def tt : TT := [
  (2, ⟨1, 8, false, (.int .i64), [(.int .i64 0)], (.int .i64), false⟩),
  (3, ⟨1, 8, false, (.int .i64), [(.int .i64 0)], (.int .i64), false⟩),
  (4, ⟨1, 1, false, .bool, [(.bool false)], .bool, false⟩),
  (5, ⟨1, 1, false, (.int .u8), [(.int .u8 0)], (.int .u8), false⟩),
  (9, ⟨1, 16, false, .str, [(.str ByteArray.empty)], .str, false⟩),
  (25, ⟨1, 24, false, (.sl (.cons .str (.cons (.cons (.int .i64) (.cons .bool (.cons (.int .i64) (.cons (.int .u64) (.cons .str .nil))))) .nil))), [.nils], (.slice 37), false⟩),
  (27, ⟨3, 48, true, (.cons .str (.cons (.int .i64) (.cons (.sl (.cons .str (.cons (.cons (.int .i64) (.cons .bool (.cons (.int .i64) (.cons (.int .u64) (.cons .str .nil))))) .nil))) .nil))), [(.str ByteArray.empty), (.int .i64 0), .nils], (.struct [(0, 9, 1), (1, 3, 1), (2, 25, 1)]), false⟩),
  (30, ⟨1, 8, false, (.int .i64), [(.int .i64 0)], (.int .i64), false⟩),
  (33, ⟨1, 8, false, (.int .u64), [(.int .u64 0)], (.int .u64), false⟩),
  (35, ⟨5, 48, true, (.cons (.int .i64) (.cons .bool (.cons (.int .i64) (.cons (.int .u64) (.cons .str .nil))))), [(.int .i64 0), (.bool false), (.int .i64 0), (.int .u64 0), (.str ByteArray.empty)], (.struct [(0, 3, 1), (1, 4, 1), (2, 2, 1), (3, 33, 1), (4, 9, 1)]), true⟩),
  (37, ⟨6, 64, true, (.cons .str (.cons (.cons (.int .i64) (.cons .bool (.cons (.int .i64) (.cons (.int .u64) (.cons .str .nil))))) .nil)), [(.str ByteArray.empty), (.int .i64 0), (.bool false), (.int .i64 0), (.int .u64 0), (.str ByteArray.empty)], (.struct [(0, 9, 1), (1, 35, 5)]), true⟩),
  (54, ⟨2, 24, true, (.cons .str (.cons .bool .nil)), [(.str ByteArray.empty), (.bool false)], (.struct [(0, 9, 1), (1, 4, 1)]), true⟩),
  (60, ⟨1, 8, false, .nil, [.nilp], (.ptr 76), false⟩),
  (76, ⟨3, 32, true, (.cons .str (.cons (.int .i64) (.cons (.int .i64) .nil))), [(.str ByteArray.empty), (.int .i64 0), (.int .i64 0)], (.struct [(0, 9, 1), (1, 3, 1), (2, 30, 1)]), true⟩),
  (77, ⟨1, 24, false, (.sl (.int .u8)), [.nils], (.slice 5), false⟩),
  (78, ⟨1, 8, false, (.int .u64), [(.int .u64 0)], (.int .u64), false⟩)]
/-! ### value_nan : function 45 -/
abbrev value_nan.R := (Bool × Unit) × (Unit)
noncomputable def value_nan.f : Nat → Int → Option value_nan.R
  | 0, _ => none
  | k + 1, x0 =>
    some ((decide ((IntKind.wrap .u64 ((BitVec.ofInt (IntKind.bits .u64) x0 &&& BitVec.ofInt (IntKind.bits .u64) 9223372036854775807).toNat : Int) : Int) > 9218868437227405312), ()), (()))
abbrev value_nan.ini : LSh := ⟨[(0, .val (.int .u64))], []⟩
abbrev value_nan.out : LSh := ⟨[(0, .val .bool)], []⟩
noncomputable def value_nan.labF : Nat → Option (LabF value_nan.out.den)
  | _ => none
noncomputable def value_nan.fd : FnD := ⟨Try.f45, value_nan.ini, value_nan.out, 1, [], [], value_nan.labF, fun k (d : (Int × Unit) × (Unit)) => (value_nan.f k d.1.1 : Option value_nan.R)⟩

/-! ### value_Clean : function 24 -/
abbrev value_Clean.R := ((Int × Bool × Int × Int × ByteArray × Unit) × Unit) × (Unit)
noncomputable def value_Clean.f : Nat → (Int × Bool × Int × Int × ByteArray × Unit) → Option value_Clean.R
  | 0, _ => none
  | k + 1, x0 =>
    bif (x0.1 : Int) == 1 then
      some (((x0.1, (x0.2.1, (0, (0, (ByteArray.empty, ()))))), ()), (()))
    else
    bif (x0.1 : Int) == 2 then
      some (((x0.1, (false, (x0.2.2.1, (0, (ByteArray.empty, ()))))), ()), (()))
    else
    bif (x0.1 : Int) == 3 then
      (value_nan.f k x0.2.2.2.1).bind fun r1 =>
      bif r1.1.1 then
        some (((x0.1, (false, (0, (9221120237041090561, (ByteArray.empty, ()))))), ()), (()))
      else
        some (((x0.1, (false, (0, (x0.2.2.2.1, (ByteArray.empty, ()))))), ()), (()))
    else
    bif (x0.1 : Int) == 4 then
      some (((x0.1, (false, (0, (0, (x0.2.2.2.2.1, ()))))), ()), (()))
    else
      some (((x0.1, (false, (0, (0, (ByteArray.empty, ()))))), ()), (()))
abbrev value_Clean.ini : LSh := ⟨[(0, .val (.cons (.int .i64) (.cons .bool (.cons (.int .i64) (.cons (.int .u64) (.cons .str .nil))))))], []⟩
abbrev value_Clean.out : LSh := ⟨[(0, .val (.cons (.int .i64) (.cons .bool (.cons (.int .i64) (.cons (.int .u64) (.cons .str .nil))))))], []⟩
noncomputable def value_Clean.labF : Nat → Option (LabF value_Clean.out.den)
  | _ => none
noncomputable def value_Clean.fd : FnD := ⟨Try.f24, value_Clean.ini, value_Clean.out, 1, [], [], value_Clean.labF, fun k (d : ((Int × Bool × Int × Int × ByteArray × Unit) × Unit) × (Unit)) => (value_Clean.f k d.1.1 : Option value_Clean.R)⟩

/-! ### bytealg_CompareString : function 57 -/
abbrev bytealg_CompareString.R := (Int × Unit) × (Unit)
noncomputable def bytealg_CompareString.f : Nat → ByteArray → ByteArray → Option bytealg_CompareString.R
  | 0, _, _ => none
  | k + 1, x0, x1 =>
    (strCmp.f k x0 x1).bind fun r1 =>
    some ((r1.1.1, ()), (()))
abbrev bytealg_CompareString.ini : LSh := ⟨[(0, .val .str), (1, .val .str)], []⟩
abbrev bytealg_CompareString.out : LSh := ⟨[(0, .val (.int .i64))], []⟩
noncomputable def bytealg_CompareString.labF : Nat → Option (LabF bytealg_CompareString.out.den)
  | _ => none
noncomputable def bytealg_CompareString.fd : FnD := ⟨Try.f57, bytealg_CompareString.ini, bytealg_CompareString.out, 1, [], [], bytealg_CompareString.labF, fun k (d : (ByteArray × ByteArray × Unit) × (Unit)) => (bytealg_CompareString.f k d.1.1 d.1.2.1 : Option bytealg_CompareString.R)⟩

/-! ### strings_Compare : function 47 -/
abbrev strings_Compare.R := (Int × Unit) × (Unit)
noncomputable def strings_Compare.f : Nat → ByteArray → ByteArray → Option strings_Compare.R
  | 0, _, _ => none
  | k + 1, x0, x1 =>
    (bytealg_CompareString.f k x0 x1).bind fun r1 =>
    some ((r1.1.1, ()), (()))
abbrev strings_Compare.ini : LSh := ⟨[(0, .val .str), (1, .val .str)], []⟩
abbrev strings_Compare.out : LSh := ⟨[(0, .val (.int .i64))], []⟩
noncomputable def strings_Compare.labF : Nat → Option (LabF strings_Compare.out.den)
  | _ => none
noncomputable def strings_Compare.fd : FnD := ⟨Try.f47, strings_Compare.ini, strings_Compare.out, 1, [], [], strings_Compare.labF, fun k (d : (ByteArray × ByteArray × Unit) × (Unit)) => (strings_Compare.f k d.1.1 d.1.2.1 : Option strings_Compare.R)⟩

/-! ### paper_byName : function 26 -/
abbrev paper_byName.R := (Int × Unit) × (Unit)
noncomputable def paper_byName.f : Nat → (ByteArray × (Int × Bool × Int × Int × ByteArray × Unit) × Unit) → (ByteArray × (Int × Bool × Int × Int × ByteArray × Unit) × Unit) → Option paper_byName.R
  | 0, _, _ => none
  | k + 1, x0, x1 =>
    (strings_Compare.f k x0.1 x1.1).bind fun r1 =>
    some ((r1.1.1, ()), (()))
abbrev paper_byName.ini : LSh := ⟨[(0, .val (.cons .str (.cons (.cons (.int .i64) (.cons .bool (.cons (.int .i64) (.cons (.int .u64) (.cons .str .nil))))) .nil))), (1, .val (.cons .str (.cons (.cons (.int .i64) (.cons .bool (.cons (.int .i64) (.cons (.int .u64) (.cons .str .nil))))) .nil)))], []⟩
abbrev paper_byName.out : LSh := ⟨[(0, .val (.int .i64))], []⟩
noncomputable def paper_byName.labF : Nat → Option (LabF paper_byName.out.den)
  | _ => none
noncomputable def paper_byName.fd : FnD := ⟨Try.f26, paper_byName.ini, paper_byName.out, 1, [], [], paper_byName.labF, fun k (d : ((ByteArray × (Int × Bool × Int × Int × ByteArray × Unit) × Unit) × (ByteArray × (Int × Bool × Int × Int × ByteArray × Unit) × Unit) × Unit) × (Unit)) => (paper_byName.f k d.1.1 d.1.2.1 : Option paper_byName.R)⟩

/-! ### slices_insertionSortCmpFunc_api_Field_v0 : function 55 -/
abbrev slices_insertionSortCmpFunc_api_Field_v0.R := ((List (ByteArray × (Int × Bool × Int × Int × ByteArray × Unit) × Unit)) × Unit) × (Unit)
mutual
noncomputable def slices_insertionSortCmpFunc_api_Field_v0.l0 : Nat → (List (ByteArray × (Int × Bool × Int × Int × ByteArray × Unit) × Unit)) → Int → Int → Int → Option slices_insertionSortCmpFunc_api_Field_v0.R
  | 0, _, _, _, _ => none
  | k + 1, x0, x1, x2, x8 =>
    bif decide ((x8 : Int) < x2) then
      slices_insertionSortCmpFunc_api_Field_v0.l1 k x0 x1 x2 x8 x8
    else
      some ((x0, ()), (()))
noncomputable def slices_insertionSortCmpFunc_api_Field_v0.l1 : Nat → (List (ByteArray × (Int × Bool × Int × Int × ByteArray × Unit) × Unit)) → Int → Int → Int → Int → Option slices_insertionSortCmpFunc_api_Field_v0.R
  | 0, _, _, _, _, _ => none
  | k + 1, x0, x1, x2, x8, x9 =>
    bif decide ((x9 : Int) > x1) then
      (ck (decide (0 ≤ x9) && decide (x9 < (x0.length : Int)))).bind fun _ =>
      (rdo x0 x9).bind fun t1 =>
      (ck (decide (0 ≤ IntKind.wrap .i64 (x9 - 1)) && decide (IntKind.wrap .i64 (x9 - 1) < (x0.length : Int)))).bind fun _ =>
      (rdo x0 (IntKind.wrap .i64 (x9 - 1))).bind fun t2 =>
      (paper_byName.f k (t1.1, ((t1.2.1.1, (t1.2.1.2.1, (t1.2.1.2.2.1, (t1.2.1.2.2.2.1, (t1.2.1.2.2.2.2.1, ()))))), ())) (t2.1, ((t2.2.1.1, (t2.2.1.2.1, (t2.2.1.2.2.1, (t2.2.1.2.2.2.1, (t2.2.1.2.2.2.2.1, ()))))), ()))).bind fun r3 =>
      bif decide ((r3.1.1 : Int) < 0) then
        (ck (decide (0 ≤ IntKind.wrap .i64 (x9 - 1)) && decide (IntKind.wrap .i64 (x9 - 1) < (x0.length : Int)))).bind fun _ =>
        (rdo x0 (IntKind.wrap .i64 (x9 - 1))).bind fun t4 =>
        (ck (decide (0 ≤ x9) && decide (x9 < (x0.length : Int)))).bind fun _ =>
        (rdo x0 x9).bind fun t5 =>
        (ck (decide (0 ≤ x9) && decide (x9 < (x0.length : Int)))).bind fun _ =>
        (ck (decide (0 ≤ IntKind.wrap .i64 (x9 - 1)) && decide (IntKind.wrap .i64 (x9 - 1) < ((x0.set x9.toNat (t4.1, ((t4.2.1.1, (t4.2.1.2.1, (t4.2.1.2.2.1, (t4.2.1.2.2.2.1, (t4.2.1.2.2.2.2.1, ()))))), ()))).length : Int)))).bind fun _ =>
        slices_insertionSortCmpFunc_api_Field_v0.l1 k ((x0.set x9.toNat (t4.1, ((t4.2.1.1, (t4.2.1.2.1, (t4.2.1.2.2.1, (t4.2.1.2.2.2.1, (t4.2.1.2.2.2.2.1, ()))))), ()))).set (IntKind.wrap .i64 (x9 - 1) : Int).toNat (t5.1, ((t5.2.1.1, (t5.2.1.2.1, (t5.2.1.2.2.1, (t5.2.1.2.2.2.1, (t5.2.1.2.2.2.2.1, ()))))), ()))) x1 x2 x8 (IntKind.wrap .i64 (x9 - 1))
      else
        slices_insertionSortCmpFunc_api_Field_v0.l0 k x0 x1 x2 (IntKind.wrap .i64 (x8 + 1))
    else
      slices_insertionSortCmpFunc_api_Field_v0.l0 k x0 x1 x2 (IntKind.wrap .i64 (x8 + 1))
noncomputable def slices_insertionSortCmpFunc_api_Field_v0.f : Nat → (List (ByteArray × (Int × Bool × Int × Int × ByteArray × Unit) × Unit)) → Int → Int → Option slices_insertionSortCmpFunc_api_Field_v0.R
  | 0, _, _, _ => none
  | k + 1, x0, x1, x2 =>
    slices_insertionSortCmpFunc_api_Field_v0.l0 k x0 x1 x2 (IntKind.wrap .i64 (x1 + 1))
end
abbrev slices_insertionSortCmpFunc_api_Field_v0.ini : LSh := ⟨[(0, .own 3900000 37 (.mu (.cons .str (.cons (.cons (.int .i64) (.cons .bool (.cons (.int .i64) (.cons (.int .u64) (.cons .str .nil))))) .nil)))), (1, .val (.int .i64)), (2, .val (.int .i64)), (3, .clo 26 [])], []⟩
abbrev slices_insertionSortCmpFunc_api_Field_v0.out : LSh := ⟨[(0, .own 3900000 37 (.mu (.cons .str (.cons (.cons (.int .i64) (.cons .bool (.cons (.int .i64) (.cons (.int .u64) (.cons .str .nil))))) .nil))))], []⟩
abbrev slices_insertionSortCmpFunc_api_Field_v0.l0s : LSh := ⟨[(0, .own 3900000 37 (.mu (.cons .str (.cons (.cons (.int .i64) (.cons .bool (.cons (.int .i64) (.cons (.int .u64) (.cons .str .nil))))) .nil)))), (1, .val (.int .i64)), (2, .val (.int .i64)), (3, .clo 26 []), (8, .val (.int .i64))], []⟩
abbrev slices_insertionSortCmpFunc_api_Field_v0.l1s : LSh := ⟨[(0, .own 3900000 37 (.mu (.cons .str (.cons (.cons (.int .i64) (.cons .bool (.cons (.int .i64) (.cons (.int .u64) (.cons .str .nil))))) .nil)))), (1, .val (.int .i64)), (2, .val (.int .i64)), (3, .clo 26 []), (8, .val (.int .i64)), (9, .val (.int .i64))], []⟩
noncomputable def slices_insertionSortCmpFunc_api_Field_v0.labF : Nat → Option (LabF slices_insertionSortCmpFunc_api_Field_v0.out.den)
  | 2 => some ⟨slices_insertionSortCmpFunc_api_Field_v0.l0s, fun k (d : ((List (ByteArray × (Int × Bool × Int × Int × ByteArray × Unit) × Unit)) × Int × Int × Unit × Int × Unit) × (Unit)) => (slices_insertionSortCmpFunc_api_Field_v0.l0 k d.1.1 d.1.2.1 d.1.2.2.1 d.1.2.2.2.2.1 : Option slices_insertionSortCmpFunc_api_Field_v0.R)⟩
  | 8 => some ⟨slices_insertionSortCmpFunc_api_Field_v0.l1s, fun k (d : ((List (ByteArray × (Int × Bool × Int × Int × ByteArray × Unit) × Unit)) × Int × Int × Unit × Int × Int × Unit) × (Unit)) => (slices_insertionSortCmpFunc_api_Field_v0.l1 k d.1.1 d.1.2.1 d.1.2.2.1 d.1.2.2.2.2.1 d.1.2.2.2.2.2.1 : Option slices_insertionSortCmpFunc_api_Field_v0.R)⟩
  | _ => none
noncomputable def slices_insertionSortCmpFunc_api_Field_v0.fd : FnD := ⟨Try.f55, slices_insertionSortCmpFunc_api_Field_v0.ini, slices_insertionSortCmpFunc_api_Field_v0.out, 0, [], [], slices_insertionSortCmpFunc_api_Field_v0.labF, fun k (d : ((List (ByteArray × (Int × Bool × Int × Int × ByteArray × Unit) × Unit)) × Int × Int × Unit × Unit) × (Unit)) => (slices_insertionSortCmpFunc_api_Field_v0.f k d.1.1 d.1.2.1 d.1.2.2.1 : Option slices_insertionSortCmpFunc_api_Field_v0.R)⟩

/-! ### slices_swapRangeCmpFunc_api_Field_v0 : function 60 -/
abbrev slices_swapRangeCmpFunc_api_Field_v0.R := ((List (ByteArray × (Int × Bool × Int × Int × ByteArray × Unit) × Unit)) × Unit) × (Unit)
mutual
noncomputable def slices_swapRangeCmpFunc_api_Field_v0.l0 : Nat → (List (ByteArray × (Int × Bool × Int × Int × ByteArray × Unit) × Unit)) → Int → Int → Int → Int → Option slices_swapRangeCmpFunc_api_Field_v0.R
  | 0, _, _, _, _, _ => none
  | k + 1, x0, x1, x2, x3, x10 =>
    bif decide ((x10 : Int) < x3) then
      (ck (decide (0 ≤ IntKind.wrap .i64 (x2 + x10)) && decide (IntKind.wrap .i64 (x2 + x10) < (x0.length : Int)))).bind fun _ =>
      (rdo x0 (IntKind.wrap .i64 (x2 + x10))).bind fun t1 =>
      (ck (decide (0 ≤ IntKind.wrap .i64 (x1 + x10)) && decide (IntKind.wrap .i64 (x1 + x10) < (x0.length : Int)))).bind fun _ =>
      (rdo x0 (IntKind.wrap .i64 (x1 + x10))).bind fun t2 =>
      (ck (decide (0 ≤ IntKind.wrap .i64 (x1 + x10)) && decide (IntKind.wrap .i64 (x1 + x10) < (x0.length : Int)))).bind fun _ =>
      (ck (decide (0 ≤ IntKind.wrap .i64 (x2 + x10)) && decide (IntKind.wrap .i64 (x2 + x10) < ((x0.set (IntKind.wrap .i64 (x1 + x10) : Int).toNat (t1.1, ((t1.2.1.1, (t1.2.1.2.1, (t1.2.1.2.2.1, (t1.2.1.2.2.2.1, (t1.2.1.2.2.2.2.1, ()))))), ()))).length : Int)))).bind fun _ =>
      slices_swapRangeCmpFunc_api_Field_v0.l0 k ((x0.set (IntKind.wrap .i64 (x1 + x10) : Int).toNat (t1.1, ((t1.2.1.1, (t1.2.1.2.1, (t1.2.1.2.2.1, (t1.2.1.2.2.2.1, (t1.2.1.2.2.2.2.1, ()))))), ()))).set (IntKind.wrap .i64 (x2 + x10) : Int).toNat (t2.1, ((t2.2.1.1, (t2.2.1.2.1, (t2.2.1.2.2.1, (t2.2.1.2.2.2.1, (t2.2.1.2.2.2.2.1, ()))))), ()))) x1 x2 x3 (IntKind.wrap .i64 (x10 + 1))
    else
      some ((x0, ()), (()))
noncomputable def slices_swapRangeCmpFunc_api_Field_v0.f : Nat → (List (ByteArray × (Int × Bool × Int × Int × ByteArray × Unit) × Unit)) → Int → Int → Int → Option slices_swapRangeCmpFunc_api_Field_v0.R
  | 0, _, _, _, _ => none
  | k + 1, x0, x1, x2, x3 =>
    slices_swapRangeCmpFunc_api_Field_v0.l0 k x0 x1 x2 x3 0
end
abbrev slices_swapRangeCmpFunc_api_Field_v0.ini : LSh := ⟨[(0, .own 3900000 37 (.mu (.cons .str (.cons (.cons (.int .i64) (.cons .bool (.cons (.int .i64) (.cons (.int .u64) (.cons .str .nil))))) .nil)))), (1, .val (.int .i64)), (2, .val (.int .i64)), (3, .val (.int .i64)), (4, .clo 26 [])], []⟩
abbrev slices_swapRangeCmpFunc_api_Field_v0.out : LSh := ⟨[(0, .own 3900000 37 (.mu (.cons .str (.cons (.cons (.int .i64) (.cons .bool (.cons (.int .i64) (.cons (.int .u64) (.cons .str .nil))))) .nil))))], []⟩
abbrev slices_swapRangeCmpFunc_api_Field_v0.l0s : LSh := ⟨[(0, .own 3900000 37 (.mu (.cons .str (.cons (.cons (.int .i64) (.cons .bool (.cons (.int .i64) (.cons (.int .u64) (.cons .str .nil))))) .nil)))), (1, .val (.int .i64)), (2, .val (.int .i64)), (3, .val (.int .i64)), (10, .val (.int .i64))], []⟩
noncomputable def slices_swapRangeCmpFunc_api_Field_v0.labF : Nat → Option (LabF slices_swapRangeCmpFunc_api_Field_v0.out.den)
  | 2 => some ⟨slices_swapRangeCmpFunc_api_Field_v0.l0s, fun k (d : ((List (ByteArray × (Int × Bool × Int × Int × ByteArray × Unit) × Unit)) × Int × Int × Int × Int × Unit) × (Unit)) => (slices_swapRangeCmpFunc_api_Field_v0.l0 k d.1.1 d.1.2.1 d.1.2.2.1 d.1.2.2.2.1 d.1.2.2.2.2.1 : Option slices_swapRangeCmpFunc_api_Field_v0.R)⟩
  | _ => none
noncomputable def slices_swapRangeCmpFunc_api_Field_v0.fd : FnD := ⟨Try.f60, slices_swapRangeCmpFunc_api_Field_v0.ini, slices_swapRangeCmpFunc_api_Field_v0.out, 0, [], [], slices_swapRangeCmpFunc_api_Field_v0.labF, fun k (d : ((List (ByteArray × (Int × Bool × Int × Int × ByteArray × Unit) × Unit)) × Int × Int × Int × Unit × Unit) × (Unit)) => (slices_swapRangeCmpFunc_api_Field_v0.f k d.1.1 d.1.2.1 d.1.2.2.1 d.1.2.2.2.1 : Option slices_swapRangeCmpFunc_api_Field_v0.R)⟩

/-! ### slices_rotateCmpFunc_api_Field_v0 : function 58 -/
abbrev slices_rotateCmpFunc_api_Field_v0.R := ((List (ByteArray × (Int × Bool × Int × Int × ByteArray × Unit) × Unit)) × Unit) × (Unit)
mutual
noncomputable def slices_rotateCmpFunc_api_Field_v0.l0 : Nat → (List (ByteArray × (Int × Bool × Int × Int × ByteArray × Unit) × Unit)) → Int → Int → Int → Option slices_rotateCmpFunc_api_Field_v0.R
  | 0, _, _, _, _ => none
  | k + 1, x0, x2, x10, x11 =>
    bif (x10 : Int) != x11 then
      bif decide ((x10 : Int) > x11) then
        (slices_swapRangeCmpFunc_api_Field_v0.f k x0 (IntKind.wrap .i64 (x2 - x10)) x2 x11).bind fun r1 =>
        slices_rotateCmpFunc_api_Field_v0.l0 k r1.1.1 x2 (IntKind.wrap .i64 (x10 - x11)) x11
      else
        (slices_swapRangeCmpFunc_api_Field_v0.f k x0 (IntKind.wrap .i64 (x2 - x10)) (IntKind.wrap .i64 ((IntKind.wrap .i64 (x2 + x11)) - x10)) x10).bind fun r2 =>
        slices_rotateCmpFunc_api_Field_v0.l0 k r2.1.1 x2 x10 (IntKind.wrap .i64 (x11 - x10))
    else
      (slices_swapRangeCmpFunc_api_Field_v0.f k x0 (IntKind.wrap .i64 (x2 - x10)) x2 x10).bind fun r3 =>
      some ((r3.1.1, ()), (()))
noncomputable def slices_rotateCmpFunc_api_Field_v0.f : Nat → (List (ByteArray × (Int × Bool × Int × Int × ByteArray × Unit) × Unit)) → Int → Int → Int → Option slices_rotateCmpFunc_api_Field_v0.R
  | 0, _, _, _, _ => none
  | k + 1, x0, x1, x2, x3 =>
    slices_rotateCmpFunc_api_Field_v0.l0 k x0 x2 (IntKind.wrap .i64 (x2 - x1)) (IntKind.wrap .i64 (x3 - x2))
end
abbrev slices_rotateCmpFunc_api_Field_v0.ini : LSh := ⟨[(0, .own 3900000 37 (.mu (.cons .str (.cons (.cons (.int .i64) (.cons .bool (.cons (.int .i64) (.cons (.int .u64) (.cons .str .nil))))) .nil)))), (1, .val (.int .i64)), (2, .val (.int .i64)), (3, .val (.int .i64)), (4, .clo 26 [])], []⟩
abbrev slices_rotateCmpFunc_api_Field_v0.out : LSh := ⟨[(0, .own 3900000 37 (.mu (.cons .str (.cons (.cons (.int .i64) (.cons .bool (.cons (.int .i64) (.cons (.int .u64) (.cons .str .nil))))) .nil))))], []⟩
abbrev slices_rotateCmpFunc_api_Field_v0.l0s : LSh := ⟨[(0, .own 3900000 37 (.mu (.cons .str (.cons (.cons (.int .i64) (.cons .bool (.cons (.int .i64) (.cons (.int .u64) (.cons .str .nil))))) .nil)))), (2, .val (.int .i64)), (4, .clo 26 []), (10, .val (.int .i64)), (11, .val (.int .i64))], []⟩
noncomputable def slices_rotateCmpFunc_api_Field_v0.labF : Nat → Option (LabF slices_rotateCmpFunc_api_Field_v0.out.den)
  | 4 => some ⟨slices_rotateCmpFunc_api_Field_v0.l0s, fun k (d : ((List (ByteArray × (Int × Bool × Int × Int × ByteArray × Unit) × Unit)) × Int × Unit × Int × Int × Unit) × (Unit)) => (slices_rotateCmpFunc_api_Field_v0.l0 k d.1.1 d.1.2.1 d.1.2.2.2.1 d.1.2.2.2.2.1 : Option slices_rotateCmpFunc_api_Field_v0.R)⟩
  | _ => none
noncomputable def slices_rotateCmpFunc_api_Field_v0.fd : FnD := ⟨Try.f58, slices_rotateCmpFunc_api_Field_v0.ini, slices_rotateCmpFunc_api_Field_v0.out, 0, [], [], slices_rotateCmpFunc_api_Field_v0.labF, fun k (d : ((List (ByteArray × (Int × Bool × Int × Int × ByteArray × Unit) × Unit)) × Int × Int × Int × Unit × Unit) × (Unit)) => (slices_rotateCmpFunc_api_Field_v0.f k d.1.1 d.1.2.1 d.1.2.2.1 d.1.2.2.2.1 : Option slices_rotateCmpFunc_api_Field_v0.R)⟩

/-! ### slices_symMergeCmpFunc_api_Field_v0 : function 56 -/
abbrev slices_symMergeCmpFunc_api_Field_v0.R := ((List (ByteArray × (Int × Bool × Int × Int × ByteArray × Unit) × Unit)) × Unit) × (Unit)
mutual
noncomputable def slices_symMergeCmpFunc_api_Field_v0.l0 : Nat → (List (ByteArray × (Int × Bool × Int × Int × ByteArray × Unit) × Unit)) → Int → Int → Int → Option slices_symMergeCmpFunc_api_Field_v0.R
  | 0, _, _, _, _ => none
  | k + 1, x0, x1, x10, x11 =>
    bif decide ((x10 : Int) < x11) then
      (ck (!decide ((1 : Int) < 0))).bind fun _ =>
      (ck (decide (0 ≤ IntKind.wrap .i64 (Int.fdiv (IntKind.wrap .u64 (IntKind.wrap .i64 (x10 + x11))) (2 ^ (min (1 : Int).toNat (IntKind.bits .u64))))) && decide (IntKind.wrap .i64 (Int.fdiv (IntKind.wrap .u64 (IntKind.wrap .i64 (x10 + x11))) (2 ^ (min (1 : Int).toNat (IntKind.bits .u64)))) < (x0.length : Int)))).bind fun _ =>
      (rdo x0 (IntKind.wrap .i64 (Int.fdiv (IntKind.wrap .u64 (IntKind.wrap .i64 (x10 + x11))) (2 ^ (min (1 : Int).toNat (IntKind.bits .u64)))))).bind fun t1 =>
      (ck (decide (0 ≤ x1) && decide (x1 < (x0.length : Int)))).bind fun _ =>
      (rdo x0 x1).bind fun t2 =>
      (paper_byName.f k (t1.1, ((t1.2.1.1, (t1.2.1.2.1, (t1.2.1.2.2.1, (t1.2.1.2.2.2.1, (t1.2.1.2.2.2.2.1, ()))))), ())) (t2.1, ((t2.2.1.1, (t2.2.1.2.1, (t2.2.1.2.2.1, (t2.2.1.2.2.2.1, (t2.2.1.2.2.2.2.1, ()))))), ()))).bind fun r3 =>
      bif decide ((r3.1.1 : Int) < 0) then
        slices_symMergeCmpFunc_api_Field_v0.l0 k x0 x1 (IntKind.wrap .i64 ((IntKind.wrap .i64 (Int.fdiv (IntKind.wrap .u64 (IntKind.wrap .i64 (x10 + x11))) (2 ^ (min (1 : Int).toNat (IntKind.bits .u64))))) + 1)) x11
      else
        slices_symMergeCmpFunc_api_Field_v0.l0 k x0 x1 x10 (IntKind.wrap .i64 (Int.fdiv (IntKind.wrap .u64 (IntKind.wrap .i64 (x10 + x11))) (2 ^ (min (1 : Int).toNat (IntKind.bits .u64)))))
    else
      slices_symMergeCmpFunc_api_Field_v0.l2 k x0 x10 x1
noncomputable def slices_symMergeCmpFunc_api_Field_v0.l2 : Nat → (List (ByteArray × (Int × Bool × Int × Int × ByteArray × Unit) × Unit)) → Int → Int → Option slices_symMergeCmpFunc_api_Field_v0.R
  | 0, _, _, _ => none
  | k + 1, x0, x10, x13 =>
    bif decide ((x13 : Int) < IntKind.wrap .i64 (x10 - 1)) then
      (ck (decide (0 ≤ IntKind.wrap .i64 (x13 + 1)) && decide (IntKind.wrap .i64 (x13 + 1) < (x0.length : Int)))).bind fun _ =>
      (rdo x0 (IntKind.wrap .i64 (x13 + 1))).bind fun t7 =>
      (ck (decide (0 ≤ x13) && decide (x13 < (x0.length : Int)))).bind fun _ =>
      (rdo x0 x13).bind fun t8 =>
      (ck (decide (0 ≤ x13) && decide (x13 < (x0.length : Int)))).bind fun _ =>
      (ck (decide (0 ≤ IntKind.wrap .i64 (x13 + 1)) && decide (IntKind.wrap .i64 (x13 + 1) < ((x0.set x13.toNat (t7.1, ((t7.2.1.1, (t7.2.1.2.1, (t7.2.1.2.2.1, (t7.2.1.2.2.2.1, (t7.2.1.2.2.2.2.1, ()))))), ()))).length : Int)))).bind fun _ =>
      slices_symMergeCmpFunc_api_Field_v0.l2 k ((x0.set x13.toNat (t7.1, ((t7.2.1.1, (t7.2.1.2.1, (t7.2.1.2.2.1, (t7.2.1.2.2.2.1, (t7.2.1.2.2.2.2.1, ()))))), ()))).set (IntKind.wrap .i64 (x13 + 1) : Int).toNat (t8.1, ((t8.2.1.1, (t8.2.1.2.1, (t8.2.1.2.2.1, (t8.2.1.2.2.2.1, (t8.2.1.2.2.2.2.1, ()))))), ()))) x10 (IntKind.wrap .i64 (x13 + 1))
    else
      some ((x0, ()), (()))
noncomputable def slices_symMergeCmpFunc_api_Field_v0.l1 : Nat → (List (ByteArray × (Int × Bool × Int × Int × ByteArray × Unit) × Unit)) → Int → Int → Int → Option slices_symMergeCmpFunc_api_Field_v0.R
  | 0, _, _, _, _ => none
  | k + 1, x0, x2, x14, x15 =>
    bif decide ((x14 : Int) < x15) then
      (ck (!decide ((1 : Int) < 0))).bind fun _ =>
      (ck (decide (0 ≤ x2) && decide (x2 < (x0.length : Int)))).bind fun _ =>
      (rdo x0 x2).bind fun t4 =>
      (ck (decide (0 ≤ IntKind.wrap .i64 (Int.fdiv (IntKind.wrap .u64 (IntKind.wrap .i64 (x14 + x15))) (2 ^ (min (1 : Int).toNat (IntKind.bits .u64))))) && decide (IntKind.wrap .i64 (Int.fdiv (IntKind.wrap .u64 (IntKind.wrap .i64 (x14 + x15))) (2 ^ (min (1 : Int).toNat (IntKind.bits .u64)))) < (x0.length : Int)))).bind fun _ =>
      (rdo x0 (IntKind.wrap .i64 (Int.fdiv (IntKind.wrap .u64 (IntKind.wrap .i64 (x14 + x15))) (2 ^ (min (1 : Int).toNat (IntKind.bits .u64)))))).bind fun t5 =>
      (paper_byName.f k (t4.1, ((t4.2.1.1, (t4.2.1.2.1, (t4.2.1.2.2.1, (t4.2.1.2.2.2.1, (t4.2.1.2.2.2.2.1, ()))))), ())) (t5.1, ((t5.2.1.1, (t5.2.1.2.1, (t5.2.1.2.2.1, (t5.2.1.2.2.2.1, (t5.2.1.2.2.2.2.1, ()))))), ()))).bind fun r6 =>
      bif !(decide ((r6.1.1 : Int) < 0)) then
        slices_symMergeCmpFunc_api_Field_v0.l1 k x0 x2 (IntKind.wrap .i64 ((IntKind.wrap .i64 (Int.fdiv (IntKind.wrap .u64 (IntKind.wrap .i64 (x14 + x15))) (2 ^ (min (1 : Int).toNat (IntKind.bits .u64))))) + 1)) x15
      else
        slices_symMergeCmpFunc_api_Field_v0.l1 k x0 x2 x14 (IntKind.wrap .i64 (Int.fdiv (IntKind.wrap .u64 (IntKind.wrap .i64 (x14 + x15))) (2 ^ (min (1 : Int).toNat (IntKind.bits .u64)))))
    else
      slices_symMergeCmpFunc_api_Field_v0.l3 k x0 x14 x2
noncomputable def slices_symMergeCmpFunc_api_Field_v0.l3 : Nat → (List (ByteArray × (Int × Bool × Int × Int × ByteArray × Unit) × Unit)) → Int → Int → Option slices_symMergeCmpFunc_api_Field_v0.R
  | 0, _, _, _ => none
  | k + 1, x0, x14, x17 =>
    bif decide ((x17 : Int) > x14) then
      (ck (decide (0 ≤ IntKind.wrap .i64 (x17 - 1)) && decide (IntKind.wrap .i64 (x17 - 1) < (x0.length : Int)))).bind fun _ =>
      (rdo x0 (IntKind.wrap .i64 (x17 - 1))).bind fun t9 =>
      (ck (decide (0 ≤ x17) && decide (x17 < (x0.length : Int)))).bind fun _ =>
      (rdo x0 x17).bind fun t10 =>
      (ck (decide (0 ≤ x17) && decide (x17 < (x0.length : Int)))).bind fun _ =>
      (ck (decide (0 ≤ IntKind.wrap .i64 (x17 - 1)) && decide (IntKind.wrap .i64 (x17 - 1) < ((x0.set x17.toNat (t9.1, ((t9.2.1.1, (t9.2.1.2.1, (t9.2.1.2.2.1, (t9.2.1.2.2.2.1, (t9.2.1.2.2.2.2.1, ()))))), ()))).length : Int)))).bind fun _ =>
      slices_symMergeCmpFunc_api_Field_v0.l3 k ((x0.set x17.toNat (t9.1, ((t9.2.1.1, (t9.2.1.2.1, (t9.2.1.2.2.1, (t9.2.1.2.2.2.1, (t9.2.1.2.2.2.2.1, ()))))), ()))).set (IntKind.wrap .i64 (x17 - 1) : Int).toNat (t10.1, ((t10.2.1.1, (t10.2.1.2.1, (t10.2.1.2.2.1, (t10.2.1.2.2.2.1, (t10.2.1.2.2.2.2.1, ()))))), ()))) x14 (IntKind.wrap .i64 (x17 - 1))
    else
      some ((x0, ()), (()))
noncomputable def slices_symMergeCmpFunc_api_Field_v0.j0 : Nat → (List (ByteArray × (Int × Bool × Int × Int × ByteArray × Unit) × Unit)) → Int → Int → Int → Int → Int → Int → Int → Option slices_symMergeCmpFunc_api_Field_v0.R
  | 0, _, _, _, _, _, _, _, _ => none
  | k + 1, x0, x1, x2, x3, x18, x19, x20, x21 =>
    slices_symMergeCmpFunc_api_Field_v0.l4 k x0 x1 x2 x3 x18 x19 x20 x21 (IntKind.wrap .i64 (x19 - 1))
noncomputable def slices_symMergeCmpFunc_api_Field_v0.l4 : Nat → (List (ByteArray × (Int × Bool × Int × Int × ByteArray × Unit) × Unit)) → Int → Int → Int → Int → Int → Int → Int → Int → Option slices_symMergeCmpFunc_api_Field_v0.R
  | 0, _, _, _, _, _, _, _, _, _ => none
  | k + 1, x0, x1, x2, x3, x18, x19, x20, x21, x22 =>
    bif decide ((x20 : Int) < x21) then
      (ck (!decide ((1 : Int) < 0))).bind fun _ =>
      (ck (decide (0 ≤ IntKind.wrap .i64 (x22 - (IntKind.wrap .i64 (Int.fdiv (IntKind.wrap .u64 (IntKind.wrap .i64 (x20 + x21))) (2 ^ (min (1 : Int).toNat (IntKind.bits .u64))))))) && decide (IntKind.wrap .i64 (x22 - (IntKind.wrap .i64 (Int.fdiv (IntKind.wrap .u64 (IntKind.wrap .i64 (x20 + x21))) (2 ^ (min (1 : Int).toNat (IntKind.bits .u64)))))) < (x0.length : Int)))).bind fun _ =>
      (rdo x0 (IntKind.wrap .i64 (x22 - (IntKind.wrap .i64 (Int.fdiv (IntKind.wrap .u64 (IntKind.wrap .i64 (x20 + x21))) (2 ^ (min (1 : Int).toNat (IntKind.bits .u64)))))))).bind fun t11 =>
      (ck (decide (0 ≤ IntKind.wrap .i64 (Int.fdiv (IntKind.wrap .u64 (IntKind.wrap .i64 (x20 + x21))) (2 ^ (min (1 : Int).toNat (IntKind.bits .u64))))) && decide (IntKind.wrap .i64 (Int.fdiv (IntKind.wrap .u64 (IntKind.wrap .i64 (x20 + x21))) (2 ^ (min (1 : Int).toNat (IntKind.bits .u64)))) < (x0.length : Int)))).bind fun _ =>
      (rdo x0 (IntKind.wrap .i64 (Int.fdiv (IntKind.wrap .u64 (IntKind.wrap .i64 (x20 + x21))) (2 ^ (min (1 : Int).toNat (IntKind.bits .u64)))))).bind fun t12 =>
      (paper_byName.f k (t11.1, ((t11.2.1.1, (t11.2.1.2.1, (t11.2.1.2.2.1, (t11.2.1.2.2.2.1, (t11.2.1.2.2.2.2.1, ()))))), ())) (t12.1, ((t12.2.1.1, (t12.2.1.2.1, (t12.2.1.2.2.1, (t12.2.1.2.2.2.1, (t12.2.1.2.2.2.2.1, ()))))), ()))).bind fun r13 =>
      bif !(decide ((r13.1.1 : Int) < 0)) then
        slices_symMergeCmpFunc_api_Field_v0.l4 k x0 x1 x2 x3 x18 x19 (IntKind.wrap .i64 ((IntKind.wrap .i64 (Int.fdiv (IntKind.wrap .u64 (IntKind.wrap .i64 (x20 + x21))) (2 ^ (min (1 : Int).toNat (IntKind.bits .u64))))) + 1)) x21 x22
      else
        slices_symMergeCmpFunc_api_Field_v0.l4 k x0 x1 x2 x3 x18 x19 x20 (IntKind.wrap .i64 (Int.fdiv (IntKind.wrap .u64 (IntKind.wrap .i64 (x20 + x21))) (2 ^ (min (1 : Int).toNat (IntKind.bits .u64))))) x22
    else
    bif decide ((x20 : Int) < x2) then
      bif decide ((x2 : Int) < IntKind.wrap .i64 (x19 - x20)) then
        (slices_rotateCmpFunc_api_Field_v0.f k x0 x20 x2 (IntKind.wrap .i64 (x19 - x20))).bind fun r14 =>
        slices_symMergeCmpFunc_api_Field_v0.j1 k r14.1.1 x1 x3 x18 x20 (IntKind.wrap .i64 (x19 - x20))
      else
        slices_symMergeCmpFunc_api_Field_v0.j1 k x0 x1 x3 x18 x20 (IntKind.wrap .i64 (x19 - x20))
    else
      slices_symMergeCmpFunc_api_Field_v0.j1 k x0 x1 x3 x18 x20 (IntKind.wrap .i64 (x19 - x20))
noncomputable def slices_symMergeCmpFunc_api_Field_v0.j1 : Nat → (List (ByteArray × (Int × Bool × Int × Int × ByteArray × Unit) × Unit)) → Int → Int → Int → Int → Int → Option slices_symMergeCmpFunc_api_Field_v0.R
  | 0, _, _, _, _, _, _ => none
  | k + 1, x0, x1, x3, x18, x20, x24 =>
    bif decide ((x1 : Int) < x20) then
      bif decide ((x20 : Int) < x18) then
        (slices_symMergeCmpFunc_api_Field_v0.f k x0 x1 x20 x18).bind fun r15 =>
        slices_symMergeCmpFunc_api_Field_v0.j2 k r15.1.1 x3 x18 x24
      else
        slices_symMergeCmpFunc_api_Field_v0.j2 k x0 x3 x18 x24
    else
      slices_symMergeCmpFunc_api_Field_v0.j2 k x0 x3 x18 x24
noncomputable def slices_symMergeCmpFunc_api_Field_v0.j2 : Nat → (List (ByteArray × (Int × Bool × Int × Int × ByteArray × Unit) × Unit)) → Int → Int → Int → Option slices_symMergeCmpFunc_api_Field_v0.R
  | 0, _, _, _, _ => none
  | k + 1, x0, x3, x18, x24 =>
    bif decide ((x18 : Int) < x24) then
      bif decide ((x24 : Int) < x3) then
        (slices_symMergeCmpFunc_api_Field_v0.f k x0 x18 x24 x3).bind fun r16 =>
        some ((r16.1.1, ()), (()))
      else
        some ((x0, ()), (()))
    else
      some ((x0, ()), (()))
noncomputable def slices_symMergeCmpFunc_api_Field_v0.f : Nat → (List (ByteArray × (Int × Bool × Int × Int × ByteArray × Unit) × Unit)) → Int → Int → Int → Option slices_symMergeCmpFunc_api_Field_v0.R
  | 0, _, _, _, _ => none
  | k + 1, x0, x1, x2, x3 =>
    bif (IntKind.wrap .i64 (x2 - x1) : Int) == 1 then
      slices_symMergeCmpFunc_api_Field_v0.l0 k x0 x1 x2 x3
    else
    bif (IntKind.wrap .i64 (x3 - x2) : Int) == 1 then
      slices_symMergeCmpFunc_api_Field_v0.l1 k x0 x2 x1 x2
    else
      (ck (!decide ((1 : Int) < 0))).bind fun _ =>
      bif decide ((x2 : Int) > IntKind.wrap .i64 (Int.fdiv (IntKind.wrap .u64 (IntKind.wrap .i64 (x1 + x3))) (2 ^ (min (1 : Int).toNat (IntKind.bits .u64))))) then
        slices_symMergeCmpFunc_api_Field_v0.j0 k x0 x1 x2 x3 (IntKind.wrap .i64 (Int.fdiv (IntKind.wrap .u64 (IntKind.wrap .i64 (x1 + x3))) (2 ^ (min (1 : Int).toNat (IntKind.bits .u64))))) (IntKind.wrap .i64 ((IntKind.wrap .i64 (Int.fdiv (IntKind.wrap .u64 (IntKind.wrap .i64 (x1 + x3))) (2 ^ (min (1 : Int).toNat (IntKind.bits .u64))))) + x2)) (IntKind.wrap .i64 ((IntKind.wrap .i64 ((IntKind.wrap .i64 (Int.fdiv (IntKind.wrap .u64 (IntKind.wrap .i64 (x1 + x3))) (2 ^ (min (1 : Int).toNat (IntKind.bits .u64))))) + x2)) - x3)) (IntKind.wrap .i64 (Int.fdiv (IntKind.wrap .u64 (IntKind.wrap .i64 (x1 + x3))) (2 ^ (min (1 : Int).toNat (IntKind.bits .u64)))))
      else
        slices_symMergeCmpFunc_api_Field_v0.j0 k x0 x1 x2 x3 (IntKind.wrap .i64 (Int.fdiv (IntKind.wrap .u64 (IntKind.wrap .i64 (x1 + x3))) (2 ^ (min (1 : Int).toNat (IntKind.bits .u64))))) (IntKind.wrap .i64 ((IntKind.wrap .i64 (Int.fdiv (IntKind.wrap .u64 (IntKind.wrap .i64 (x1 + x3))) (2 ^ (min (1 : Int).toNat (IntKind.bits .u64))))) + x2)) x1 x2
end
abbrev slices_symMergeCmpFunc_api_Field_v0.ini : LSh := ⟨[(0, .own 3900000 37 (.mu (.cons .str (.cons (.cons (.int .i64) (.cons .bool (.cons (.int .i64) (.cons (.int .u64) (.cons .str .nil))))) .nil)))), (1, .val (.int .i64)), (2, .val (.int .i64)), (3, .val (.int .i64)), (4, .clo 26 [])], []⟩
abbrev slices_symMergeCmpFunc_api_Field_v0.out : LSh := ⟨[(0, .own 3900000 37 (.mu (.cons .str (.cons (.cons (.int .i64) (.cons .bool (.cons (.int .i64) (.cons (.int .u64) (.cons .str .nil))))) .nil))))], []⟩
abbrev slices_symMergeCmpFunc_api_Field_v0.l0s : LSh := ⟨[(0, .own 3900000 37 (.mu (.cons .str (.cons (.cons (.int .i64) (.cons .bool (.cons (.int .i64) (.cons (.int .u64) (.cons .str .nil))))) .nil)))), (1, .val (.int .i64)), (4, .clo 26 []), (10, .val (.int .i64)), (11, .val (.int .i64))], []⟩
abbrev slices_symMergeCmpFunc_api_Field_v0.l2s : LSh := ⟨[(0, .own 3900000 37 (.mu (.cons .str (.cons (.cons (.int .i64) (.cons .bool (.cons (.int .i64) (.cons (.int .u64) (.cons .str .nil))))) .nil)))), (10, .val (.int .i64)), (13, .val (.int .i64))], []⟩
abbrev slices_symMergeCmpFunc_api_Field_v0.l1s : LSh := ⟨[(0, .own 3900000 37 (.mu (.cons .str (.cons (.cons (.int .i64) (.cons .bool (.cons (.int .i64) (.cons (.int .u64) (.cons .str .nil))))) .nil)))), (2, .val (.int .i64)), (4, .clo 26 []), (14, .val (.int .i64)), (15, .val (.int .i64))], []⟩
abbrev slices_symMergeCmpFunc_api_Field_v0.l3s : LSh := ⟨[(0, .own 3900000 37 (.mu (.cons .str (.cons (.cons (.int .i64) (.cons .bool (.cons (.int .i64) (.cons (.int .u64) (.cons .str .nil))))) .nil)))), (14, .val (.int .i64)), (17, .val (.int .i64))], []⟩
abbrev slices_symMergeCmpFunc_api_Field_v0.j0s : LSh := ⟨[(0, .own 3900000 37 (.mu (.cons .str (.cons (.cons (.int .i64) (.cons .bool (.cons (.int .i64) (.cons (.int .u64) (.cons .str .nil))))) .nil)))), (1, .val (.int .i64)), (2, .val (.int .i64)), (3, .val (.int .i64)), (4, .clo 26 []), (18, .val (.int .i64)), (19, .val (.int .i64)), (20, .val (.int .i64)), (21, .val (.int .i64))], []⟩
abbrev slices_symMergeCmpFunc_api_Field_v0.l4s : LSh := ⟨[(0, .own 3900000 37 (.mu (.cons .str (.cons (.cons (.int .i64) (.cons .bool (.cons (.int .i64) (.cons (.int .u64) (.cons .str .nil))))) .nil)))), (1, .val (.int .i64)), (2, .val (.int .i64)), (3, .val (.int .i64)), (4, .clo 26 []), (18, .val (.int .i64)), (19, .val (.int .i64)), (20, .val (.int .i64)), (21, .val (.int .i64)), (22, .val (.int .i64))], []⟩
abbrev slices_symMergeCmpFunc_api_Field_v0.j1s : LSh := ⟨[(0, .own 3900000 37 (.mu (.cons .str (.cons (.cons (.int .i64) (.cons .bool (.cons (.int .i64) (.cons (.int .u64) (.cons .str .nil))))) .nil)))), (1, .val (.int .i64)), (3, .val (.int .i64)), (4, .clo 26 []), (18, .val (.int .i64)), (20, .val (.int .i64)), (24, .val (.int .i64))], []⟩
abbrev slices_symMergeCmpFunc_api_Field_v0.j2s : LSh := ⟨[(0, .own 3900000 37 (.mu (.cons .str (.cons (.cons (.int .i64) (.cons .bool (.cons (.int .i64) (.cons (.int .u64) (.cons .str .nil))))) .nil)))), (3, .val (.int .i64)), (4, .clo 26 []), (18, .val (.int .i64)), (24, .val (.int .i64))], []⟩
noncomputable def slices_symMergeCmpFunc_api_Field_v0.labF : Nat → Option (LabF slices_symMergeCmpFunc_api_Field_v0.out.den)
  | 6 => some ⟨slices_symMergeCmpFunc_api_Field_v0.l0s, fun k (d : ((List (ByteArray × (Int × Bool × Int × Int × ByteArray × Unit) × Unit)) × Int × Unit × Int × Int × Unit) × (Unit)) => (slices_symMergeCmpFunc_api_Field_v0.l0 k d.1.1 d.1.2.1 d.1.2.2.2.1 d.1.2.2.2.2.1 : Option slices_symMergeCmpFunc_api_Field_v0.R)⟩
  | 18 => some ⟨slices_symMergeCmpFunc_api_Field_v0.l2s, fun k (d : ((List (ByteArray × (Int × Bool × Int × Int × ByteArray × Unit) × Unit)) × Int × Int × Unit) × (Unit)) => (slices_symMergeCmpFunc_api_Field_v0.l2 k d.1.1 d.1.2.1 d.1.2.2.1 : Option slices_symMergeCmpFunc_api_Field_v0.R)⟩
  | 30 => some ⟨slices_symMergeCmpFunc_api_Field_v0.l1s, fun k (d : ((List (ByteArray × (Int × Bool × Int × Int × ByteArray × Unit) × Unit)) × Int × Unit × Int × Int × Unit) × (Unit)) => (slices_symMergeCmpFunc_api_Field_v0.l1 k d.1.1 d.1.2.1 d.1.2.2.2.1 d.1.2.2.2.2.1 : Option slices_symMergeCmpFunc_api_Field_v0.R)⟩
  | 42 => some ⟨slices_symMergeCmpFunc_api_Field_v0.l3s, fun k (d : ((List (ByteArray × (Int × Bool × Int × Int × ByteArray × Unit) × Unit)) × Int × Int × Unit) × (Unit)) => (slices_symMergeCmpFunc_api_Field_v0.l3 k d.1.1 d.1.2.1 d.1.2.2.1 : Option slices_symMergeCmpFunc_api_Field_v0.R)⟩
  | 65 => some ⟨slices_symMergeCmpFunc_api_Field_v0.j0s, fun k (d : ((List (ByteArray × (Int × Bool × Int × Int × ByteArray × Unit) × Unit)) × Int × Int × Int × Unit × Int × Int × Int × Int × Unit) × (Unit)) => (slices_symMergeCmpFunc_api_Field_v0.j0 k d.1.1 d.1.2.1 d.1.2.2.1 d.1.2.2.2.1 d.1.2.2.2.2.2.1 d.1.2.2.2.2.2.2.1 d.1.2.2.2.2.2.2.2.1 d.1.2.2.2.2.2.2.2.2.1 : Option slices_symMergeCmpFunc_api_Field_v0.R)⟩
  | 66 => some ⟨slices_symMergeCmpFunc_api_Field_v0.l4s, fun k (d : ((List (ByteArray × (Int × Bool × Int × Int × ByteArray × Unit) × Unit)) × Int × Int × Int × Unit × Int × Int × Int × Int × Int × Unit) × (Unit)) => (slices_symMergeCmpFunc_api_Field_v0.l4 k d.1.1 d.1.2.1 d.1.2.2.1 d.1.2.2.2.1 d.1.2.2.2.2.2.1 d.1.2.2.2.2.2.2.1 d.1.2.2.2.2.2.2.2.1 d.1.2.2.2.2.2.2.2.2.1 d.1.2.2.2.2.2.2.2.2.2.1 : Option slices_symMergeCmpFunc_api_Field_v0.R)⟩
  | 83 => some ⟨slices_symMergeCmpFunc_api_Field_v0.j1s, fun k (d : ((List (ByteArray × (Int × Bool × Int × Int × ByteArray × Unit) × Unit)) × Int × Int × Unit × Int × Int × Int × Unit) × (Unit)) => (slices_symMergeCmpFunc_api_Field_v0.j1 k d.1.1 d.1.2.1 d.1.2.2.1 d.1.2.2.2.2.1 d.1.2.2.2.2.2.1 d.1.2.2.2.2.2.2.1 : Option slices_symMergeCmpFunc_api_Field_v0.R)⟩
  | 87 => some ⟨slices_symMergeCmpFunc_api_Field_v0.j2s, fun k (d : ((List (ByteArray × (Int × Bool × Int × Int × ByteArray × Unit) × Unit)) × Int × Unit × Int × Int × Unit) × (Unit)) => (slices_symMergeCmpFunc_api_Field_v0.j2 k d.1.1 d.1.2.1 d.1.2.2.2.1 d.1.2.2.2.2.1 : Option slices_symMergeCmpFunc_api_Field_v0.R)⟩
  | _ => none
noncomputable def slices_symMergeCmpFunc_api_Field_v0.fd : FnD := ⟨Try.f56, slices_symMergeCmpFunc_api_Field_v0.ini, slices_symMergeCmpFunc_api_Field_v0.out, 0, [], [], slices_symMergeCmpFunc_api_Field_v0.labF, fun k (d : ((List (ByteArray × (Int × Bool × Int × Int × ByteArray × Unit) × Unit)) × Int × Int × Int × Unit × Unit) × (Unit)) => (slices_symMergeCmpFunc_api_Field_v0.f k d.1.1 d.1.2.1 d.1.2.2.1 d.1.2.2.2.1 : Option slices_symMergeCmpFunc_api_Field_v0.R)⟩

/-! ### slices_stableCmpFunc_api_Field_v0 : function 46 -/
abbrev slices_stableCmpFunc_api_Field_v0.R := ((List (ByteArray × (Int × Bool × Int × Int × ByteArray × Unit) × Unit)) × Unit) × (Unit)
mutual
noncomputable def slices_stableCmpFunc_api_Field_v0.l0 : Nat → (List (ByteArray × (Int × Bool × Int × Int × ByteArray × Unit) × Unit)) → Int → Int → Int → Int → Option slices_stableCmpFunc_api_Field_v0.R
  | 0, _, _, _, _, _ => none
  | k + 1, x0, x1, x6, x7, x8 =>
    bif decide ((x8 : Int) ≤ x1) then
      (slices_insertionSortCmpFunc_api_Field_v0.f k x0 x7 x8).bind fun r1 =>
      slices_stableCmpFunc_api_Field_v0.l0 k r1.1.1 x1 x6 x8 (IntKind.wrap .i64 (x8 + x6))
    else
      (slices_insertionSortCmpFunc_api_Field_v0.f k x0 x7 x1).bind fun r2 =>
      slices_stableCmpFunc_api_Field_v0.l1 k r2.1.1 x1 x6
noncomputable def slices_stableCmpFunc_api_Field_v0.l1 : Nat → (List (ByteArray × (Int × Bool × Int × Int × ByteArray × Unit) × Unit)) → Int → Int → Option slices_stableCmpFunc_api_Field_v0.R
  | 0, _, _, _ => none
  | k + 1, x0, x1, x6 =>
    bif decide ((x6 : Int) < x1) then
      slices_stableCmpFunc_api_Field_v0.l2 k x0 x1 x6 0 (IntKind.wrap .i64 (2 * x6))
    else
      some ((x0, ()), (()))
noncomputable def slices_stableCmpFunc_api_Field_v0.l2 : Nat → (List (ByteArray × (Int × Bool × Int × Int × ByteArray × Unit) × Unit)) → Int → Int → Int → Int → Option slices_stableCmpFunc_api_Field_v0.R
  | 0, _, _, _, _, _ => none
  | k + 1, x0, x1, x6, x7, x8 =>
    bif decide ((x8 : Int) ≤ x1) then
      (slices_symMergeCmpFunc_api_Field_v0.f k x0 x7 (IntKind.wrap .i64 (x7 + x6)) x8).bind fun r3 =>
      slices_stableCmpFunc_api_Field_v0.l2 k r3.1.1 x1 x6 x8 (IntKind.wrap .i64 (x8 + (IntKind.wrap .i64 (2 * x6))))
    else
    bif decide ((IntKind.wrap .i64 (x7 + x6) : Int) < x1) then
      (slices_symMergeCmpFunc_api_Field_v0.f k x0 x7 (IntKind.wrap .i64 (x7 + x6)) x1).bind fun r4 =>
      slices_stableCmpFunc_api_Field_v0.l1 k r4.1.1 x1 (IntKind.wrap .i64 (x6 * 2))
    else
      slices_stableCmpFunc_api_Field_v0.l1 k x0 x1 (IntKind.wrap .i64 (x6 * 2))
noncomputable def slices_stableCmpFunc_api_Field_v0.f : Nat → (List (ByteArray × (Int × Bool × Int × Int × ByteArray × Unit) × Unit)) → Int → Option slices_stableCmpFunc_api_Field_v0.R
  | 0, _, _ => none
  | k + 1, x0, x1 =>
    slices_stableCmpFunc_api_Field_v0.l0 k x0 x1 20 0 20
end
abbrev slices_stableCmpFunc_api_Field_v0.ini : LSh := ⟨[(0, .own 3900000 37 (.mu (.cons .str (.cons (.cons (.int .i64) (.cons .bool (.cons (.int .i64) (.cons (.int .u64) (.cons .str .nil))))) .nil)))), (1, .val (.int .i64)), (2, .clo 26 [])], []⟩
abbrev slices_stableCmpFunc_api_Field_v0.out : LSh := ⟨[(0, .own 3900000 37 (.mu (.cons .str (.cons (.cons (.int .i64) (.cons .bool (.cons (.int .i64) (.cons (.int .u64) (.cons .str .nil))))) .nil))))], []⟩
abbrev slices_stableCmpFunc_api_Field_v0.l0s : LSh := ⟨[(0, .own 3900000 37 (.mu (.cons .str (.cons (.cons (.int .i64) (.cons .bool (.cons (.int .i64) (.cons (.int .u64) (.cons .str .nil))))) .nil)))), (1, .val (.int .i64)), (2, .clo 26 []), (6, .val (.int .i64)), (7, .val (.int .i64)), (8, .val (.int .i64))], []⟩
abbrev slices_stableCmpFunc_api_Field_v0.l1s : LSh := ⟨[(0, .own 3900000 37 (.mu (.cons .str (.cons (.cons (.int .i64) (.cons .bool (.cons (.int .i64) (.cons (.int .u64) (.cons .str .nil))))) .nil)))), (1, .val (.int .i64)), (2, .clo 26 []), (6, .val (.int .i64))], []⟩
abbrev slices_stableCmpFunc_api_Field_v0.l2s : LSh := ⟨[(0, .own 3900000 37 (.mu (.cons .str (.cons (.cons (.int .i64) (.cons .bool (.cons (.int .i64) (.cons (.int .u64) (.cons .str .nil))))) .nil)))), (1, .val (.int .i64)), (2, .clo 26 []), (6, .val (.int .i64)), (7, .val (.int .i64)), (8, .val (.int .i64))], []⟩
noncomputable def slices_stableCmpFunc_api_Field_v0.labF : Nat → Option (LabF slices_stableCmpFunc_api_Field_v0.out.den)
  | 4 => some ⟨slices_stableCmpFunc_api_Field_v0.l0s, fun k (d : ((List (ByteArray × (Int × Bool × Int × Int × ByteArray × Unit) × Unit)) × Int × Unit × Int × Int × Int × Unit) × (Unit)) => (slices_stableCmpFunc_api_Field_v0.l0 k d.1.1 d.1.2.1 d.1.2.2.2.1 d.1.2.2.2.2.1 d.1.2.2.2.2.2.1 : Option slices_stableCmpFunc_api_Field_v0.R)⟩
  | 14 => some ⟨slices_stableCmpFunc_api_Field_v0.l1s, fun k (d : ((List (ByteArray × (Int × Bool × Int × Int × ByteArray × Unit) × Unit)) × Int × Unit × Int × Unit) × (Unit)) => (slices_stableCmpFunc_api_Field_v0.l1 k d.1.1 d.1.2.1 d.1.2.2.2.1 : Option slices_stableCmpFunc_api_Field_v0.R)⟩
  | 18 => some ⟨slices_stableCmpFunc_api_Field_v0.l2s, fun k (d : ((List (ByteArray × (Int × Bool × Int × Int × ByteArray × Unit) × Unit)) × Int × Unit × Int × Int × Int × Unit) × (Unit)) => (slices_stableCmpFunc_api_Field_v0.l2 k d.1.1 d.1.2.1 d.1.2.2.2.1 d.1.2.2.2.2.1 d.1.2.2.2.2.2.1 : Option slices_stableCmpFunc_api_Field_v0.R)⟩
  | _ => none
noncomputable def slices_stableCmpFunc_api_Field_v0.fd : FnD := ⟨Try.f46, slices_stableCmpFunc_api_Field_v0.ini, slices_stableCmpFunc_api_Field_v0.out, 0, [], [], slices_stableCmpFunc_api_Field_v0.labF, fun k (d : ((List (ByteArray × (Int × Bool × Int × Int × ByteArray × Unit) × Unit)) × Int × Unit × Unit) × (Unit)) => (slices_stableCmpFunc_api_Field_v0.f k d.1.1 d.1.2.1 : Option slices_stableCmpFunc_api_Field_v0.R)⟩

/-! ### slices_SortStableFunc_api_Field_v0 : function 25 -/
abbrev slices_SortStableFunc_api_Field_v0.R := ((List (ByteArray × (Int × Bool × Int × Int × ByteArray × Unit) × Unit)) × Unit) × (Unit)
noncomputable def slices_SortStableFunc_api_Field_v0.f : Nat → (List (ByteArray × (Int × Bool × Int × Int × ByteArray × Unit) × Unit)) → Option slices_SortStableFunc_api_Field_v0.R
  | 0, _ => none
  | k + 1, x0 =>
    (slices_stableCmpFunc_api_Field_v0.f k x0 (x0.length : Int)).bind fun r1 =>
    some ((r1.1.1, ()), (()))
abbrev slices_SortStableFunc_api_Field_v0.ini : LSh := ⟨[(0, .own 3900000 37 (.mu (.cons .str (.cons (.cons (.int .i64) (.cons .bool (.cons (.int .i64) (.cons (.int .u64) (.cons .str .nil))))) .nil)))), (1, .clo 26 [])], []⟩
abbrev slices_SortStableFunc_api_Field_v0.out : LSh := ⟨[(0, .own 3900000 37 (.mu (.cons .str (.cons (.cons (.int .i64) (.cons .bool (.cons (.int .i64) (.cons (.int .u64) (.cons .str .nil))))) .nil))))], []⟩
noncomputable def slices_SortStableFunc_api_Field_v0.labF : Nat → Option (LabF slices_SortStableFunc_api_Field_v0.out.den)
  | _ => none
noncomputable def slices_SortStableFunc_api_Field_v0.fd : FnD := ⟨Try.f25, slices_SortStableFunc_api_Field_v0.ini, slices_SortStableFunc_api_Field_v0.out, 0, [], [], slices_SortStableFunc_api_Field_v0.labF, fun k (d : ((List (ByteArray × (Int × Bool × Int × Int × ByteArray × Unit) × Unit)) × Unit × Unit) × (Unit)) => (slices_SortStableFunc_api_Field_v0.f k d.1.1 : Option slices_SortStableFunc_api_Field_v0.R)⟩

/-! ### paper_Tidy : function 14 -/
abbrev paper_Tidy.R := ((ByteArray × Int × List (ByteArray × (Int × Bool × Int × Int × ByteArray × Unit) × Unit) × Unit) × Unit) × (Unit)
mutual
noncomputable def paper_Tidy.l0 : Nat → (List (ByteArray × (Int × Bool × Int × Int × ByteArray × Unit) × Unit)) → Int → Int → ByteArray → Int → (List (ByteArray × (Int × Bool × Int × Int × ByteArray × Unit) × Unit)) → ByteArray → Int → (List (ByteArray × (Int × Bool × Int × Int × ByteArray × Unit) × Unit)) → Option paper_Tidy.R
  | 0, _, _, _, _, _, _, _, _, _ => none
  | k + 1, x12, x13, x14, o2_0, o2_1, o2_2, o3_0, o3_1, o3_2 =>
    bif decide ((x14 : Int) < x13) then
      (rdo x12 x14).bind fun t1 =>
      (value_Clean.f k (t1.2.1.1, (t1.2.1.2.1, (t1.2.1.2.2.1, (t1.2.1.2.2.2.1, (t1.2.1.2.2.2.2.1, ())))))).bind fun r2 =>
      (ck (decide ((o3_2.length + ([(t1.1, ((r2.1.1.1, (r2.1.1.2.1, (r2.1.1.2.2.1, (r2.1.1.2.2.2.1, (r2.1.1.2.2.2.2.1, ()))))), ()))] : List (ByteArray × (Int × Bool × Int × Int × ByteArray × Unit) × Unit)).length) * 64 ≤ 70368744177664))).bind fun _ =>
      paper_Tidy.l0 k x12 x13 (IntKind.wrap .i64 (x14 + 1)) o2_0 o2_1 o2_2 o3_0 o3_1 (o3_2 ++ ([(t1.1, ((r2.1.1.1, (r2.1.1.2.1, (r2.1.1.2.2.1, (r2.1.1.2.2.2.1, (r2.1.1.2.2.2.2.1, ()))))), ()))] : List (ByteArray × (Int × Bool × Int × Int × ByteArray × Unit) × Unit)))
    else
      (slices_SortStableFunc_api_Field_v0.f k o3_2).bind fun r3 =>
      some (((o3_0, (o3_1, (r3.1.1, ()))), ()), (()))
noncomputable def paper_Tidy.f : Nat → (ByteArray × Int × List (ByteArray × (Int × Bool × Int × Int × ByteArray × Unit) × Unit) × Unit) → Option paper_Tidy.R
  | 0, _ => none
  | k + 1, x0 =>
    paper_Tidy.l0 k x0.2.2.1 (x0.2.2.1.length : Int) 0 ByteArray.empty 0 [] x0.1 x0.2.1 []
end
abbrev paper_Tidy.ini : LSh := ⟨[(0, .val (.cons .str (.cons (.int .i64) (.cons (.sl (.cons .str (.cons (.cons (.int .i64) (.cons .bool (.cons (.int .i64) (.cons (.int .u64) (.cons .str .nil))))) .nil))) .nil))))], []⟩
abbrev paper_Tidy.out : LSh := ⟨[(0, .val (.cons .str (.cons (.int .i64) (.cons (.sl (.cons .str (.cons (.cons (.int .i64) (.cons .bool (.cons (.int .i64) (.cons (.int .u64) (.cons .str .nil))))) .nil))) .nil))))], []⟩
abbrev paper_Tidy.l0s : LSh := ⟨[(2, .ptr 2 0), (3, .ptr 3 0), (12, .val (.sl (.cons .str (.cons (.cons (.int .i64) (.cons .bool (.cons (.int .i64) (.cons (.int .u64) (.cons .str .nil))))) .nil)))), (13, .val (.int .i64)), (14, .val (.int .i64))], [(2, 27, [.val .str, .val (.int .i64), .own 3000202 37 (.mu (.cons .str (.cons (.cons (.int .i64) (.cons .bool (.cons (.int .i64) (.cons (.int .u64) (.cons .str .nil))))) .nil)))]), (3, 27, [.val .str, .val (.int .i64), .own 3000302 37 (.mu (.cons .str (.cons (.cons (.int .i64) (.cons .bool (.cons (.int .i64) (.cons (.int .u64) (.cons .str .nil))))) .nil)))])]⟩
noncomputable def paper_Tidy.labF : Nat → Option (LabF paper_Tidy.out.den)
  | 6 => some ⟨paper_Tidy.l0s, fun k (d : (Unit × Unit × (List (ByteArray × (Int × Bool × Int × Int × ByteArray × Unit) × Unit)) × Int × Int × Unit) × ((ByteArray × Int × (List (ByteArray × (Int × Bool × Int × Int × ByteArray × Unit) × Unit)) × Unit) × (ByteArray × Int × (List (ByteArray × (Int × Bool × Int × Int × ByteArray × Unit) × Unit)) × Unit) × Unit)) => (paper_Tidy.l0 k d.1.2.2.1 d.1.2.2.2.1 d.1.2.2.2.2.1 d.2.1.1 d.2.1.2.1 d.2.1.2.2.1 d.2.2.1.1 d.2.2.1.2.1 d.2.2.1.2.2.1 : Option paper_Tidy.R)⟩
  | _ => none
noncomputable def paper_Tidy.fd : FnD := ⟨Try.f14, paper_Tidy.ini, paper_Tidy.out, 1, [], [], paper_Tidy.labF, fun k (d : ((ByteArray × Int × List (ByteArray × (Int × Bool × Int × Int × ByteArray × Unit) × Unit) × Unit) × Unit) × (Unit)) => (paper_Tidy.f k d.1.1 : Option paper_Tidy.R)⟩

/-! ### paper_sign : function 44 -/
abbrev paper_sign.R := (Bool × Unit) × (Unit)
noncomputable def paper_sign.f : Nat → Int → Option paper_sign.R
  | 0, _ => none
  | k + 1, x0 =>
    bif decide ((x0 : Int) ≥ 97) then
      bif decide ((x0 : Int) ≤ 122) then
        some ((true, ()), (()))
      else
      bif decide ((x0 : Int) ≥ 65) then
        bif decide ((x0 : Int) ≤ 90) then
          some ((true, ()), (()))
        else
        bif decide ((x0 : Int) ≥ 48) then
          bif decide ((x0 : Int) ≤ 57) then
            some ((true, ()), (()))
          else
          bif (x0 : Int) == 45 then
            some ((true, ()), (()))
          else
          bif (x0 : Int) == 95 then
            some ((true, ()), (()))
          else
            some (((x0 : Int) == 46, ()), (()))
        else
        bif (x0 : Int) == 45 then
          some ((true, ()), (()))
        else
        bif (x0 : Int) == 95 then
          some ((true, ()), (()))
        else
          some (((x0 : Int) == 46, ()), (()))
      else
      bif decide ((x0 : Int) ≥ 48) then
        bif decide ((x0 : Int) ≤ 57) then
          some ((true, ()), (()))
        else
        bif (x0 : Int) == 45 then
          some ((true, ()), (()))
        else
        bif (x0 : Int) == 95 then
          some ((true, ()), (()))
        else
          some (((x0 : Int) == 46, ()), (()))
      else
      bif (x0 : Int) == 45 then
        some ((true, ()), (()))
      else
      bif (x0 : Int) == 95 then
        some ((true, ()), (()))
      else
        some (((x0 : Int) == 46, ()), (()))
    else
    bif decide ((x0 : Int) ≥ 65) then
      bif decide ((x0 : Int) ≤ 90) then
        some ((true, ()), (()))
      else
      bif decide ((x0 : Int) ≥ 48) then
        bif decide ((x0 : Int) ≤ 57) then
          some ((true, ()), (()))
        else
        bif (x0 : Int) == 45 then
          some ((true, ()), (()))
        else
        bif (x0 : Int) == 95 then
          some ((true, ()), (()))
        else
          some (((x0 : Int) == 46, ()), (()))
      else
      bif (x0 : Int) == 45 then
        some ((true, ()), (()))
      else
      bif (x0 : Int) == 95 then
        some ((true, ()), (()))
      else
        some (((x0 : Int) == 46, ()), (()))
    else
    bif decide ((x0 : Int) ≥ 48) then
      bif decide ((x0 : Int) ≤ 57) then
        some ((true, ()), (()))
      else
      bif (x0 : Int) == 45 then
        some ((true, ()), (()))
      else
      bif (x0 : Int) == 95 then
        some ((true, ()), (()))
      else
        some (((x0 : Int) == 46, ()), (()))
    else
    bif (x0 : Int) == 45 then
      some ((true, ()), (()))
    else
    bif (x0 : Int) == 95 then
      some ((true, ()), (()))
    else
      some (((x0 : Int) == 46, ()), (()))
abbrev paper_sign.ini : LSh := ⟨[(0, .val (.int .u8))], []⟩
abbrev paper_sign.out : LSh := ⟨[(0, .val .bool)], []⟩
noncomputable def paper_sign.labF : Nat → Option (LabF paper_sign.out.den)
  | _ => none
noncomputable def paper_sign.fd : FnD := ⟨Try.f44, paper_sign.ini, paper_sign.out, 1, [], [], paper_sign.labF, fun k (d : (Int × Unit) × (Unit)) => (paper_sign.f k d.1.1 : Option paper_sign.R)⟩

/-! ### paper_word : function 23 -/
abbrev paper_word.R := (Bool × Unit) × (Unit)
mutual
noncomputable def paper_word.j0 : Nat → ByteArray → Option paper_word.R
  | 0, _ => none
  | k + 1, x0 =>
    paper_word.l0 k x0 (x0.size : Int) 0
noncomputable def paper_word.l0 : Nat → ByteArray → Int → Int → Option paper_word.R
  | 0, _, _, _ => none
  | k + 1, x0, x15, x16 =>
    bif decide ((x16 : Int) < x15) then
      (bto x0 x16).bind fun t1 =>
      (paper_sign.f k t1).bind fun r2 =>
      bif !r2.1.1 then
        some ((false, ()), (()))
      else
        paper_word.l0 k x0 x15 (IntKind.wrap .i64 (x16 + 1))
    else
      some ((true, ()), (()))
noncomputable def paper_word.f : Nat → ByteArray → Int → Option paper_word.R
  | 0, _, _ => none
  | k + 1, x0, x1 =>
    bif x0.toList == (⟨#[]⟩ : ByteArray).toList then
      some ((false, ()), (()))
    else
    bif decide (((x0.size : Int) : Int) > x1) then
      some ((false, ()), (()))
    else
      paper_word.j0 k x0
end
abbrev paper_word.ini : LSh := ⟨[(0, .val .str), (1, .val (.int .i64))], []⟩
abbrev paper_word.out : LSh := ⟨[(0, .val .bool)], []⟩
abbrev paper_word.j0s : LSh := ⟨[(0, .val .str)], []⟩
abbrev paper_word.l0s : LSh := ⟨[(0, .val .str), (15, .val (.int .i64)), (16, .val (.int .i64))], []⟩
noncomputable def paper_word.labF : Nat → Option (LabF paper_word.out.den)
  | 7 => some ⟨paper_word.j0s, fun k (d : (ByteArray × Unit) × (Unit)) => (paper_word.j0 k d.1.1 : Option paper_word.R)⟩
  | 8 => some ⟨paper_word.l0s, fun k (d : (ByteArray × Int × Int × Unit) × (Unit)) => (paper_word.l0 k d.1.1 d.1.2.1 d.1.2.2.1 : Option paper_word.R)⟩
  | _ => none
noncomputable def paper_word.fd : FnD := ⟨Try.f23, paper_word.ini, paper_word.out, 1, [], [], paper_word.labF, fun k (d : (ByteArray × Int × Unit) × (Unit)) => (paper_word.f k d.1.1 d.1.2.1 : Option paper_word.R)⟩

/-! ### paper_IsID : function 8 -/
abbrev paper_IsID.R := (Bool × Unit) × (Unit)
noncomputable def paper_IsID.f : Nat → ByteArray → Option paper_IsID.R
  | 0, _ => none
  | k + 1, x0 =>
    (paper_word.f k x0 24).bind fun r1 =>
    some ((r1.1.1, ()), (()))
abbrev paper_IsID.ini : LSh := ⟨[(0, .val .str)], []⟩
abbrev paper_IsID.out : LSh := ⟨[(0, .val .bool)], []⟩
noncomputable def paper_IsID.labF : Nat → Option (LabF paper_IsID.out.den)
  | _ => none
noncomputable def paper_IsID.fd : FnD := ⟨Try.f8, paper_IsID.ini, paper_IsID.out, 1, [], [], paper_IsID.labF, fun k (d : (ByteArray × Unit) × (Unit)) => (paper_IsID.f k d.1.1 : Option paper_IsID.R)⟩

/-! ### paper_IsName : function 10 -/
abbrev paper_IsName.R := (Bool × Unit) × (Unit)
noncomputable def paper_IsName.f : Nat → ByteArray → Option paper_IsName.R
  | 0, _ => none
  | k + 1, x0 =>
    (paper_word.f k x0 16).bind fun r1 =>
    some ((r1.1.1, ()), (()))
abbrev paper_IsName.ini : LSh := ⟨[(0, .val .str)], []⟩
abbrev paper_IsName.out : LSh := ⟨[(0, .val .bool)], []⟩
noncomputable def paper_IsName.labF : Nat → Option (LabF paper_IsName.out.den)
  | _ => none
noncomputable def paper_IsName.fd : FnD := ⟨Try.f10, paper_IsName.ini, paper_IsName.out, 1, [], [], paper_IsName.labF, fun k (d : (ByteArray × Unit) × (Unit)) => (paper_IsName.f k d.1.1 : Option paper_IsName.R)⟩

/-! ### value_Right : function 27 -/
abbrev value_Right.R := (Bool × Unit) × (Unit)
noncomputable def value_Right.f : Nat → (Int × Bool × Int × Int × ByteArray × Unit) → Option value_Right.R
  | 0, _ => none
  | k + 1, x0 =>
    bif decide ((x0.1 : Int) ≥ 0) then
      bif decide ((x0.1 : Int) ≤ 4) then
        bif decide (((x0.2.2.2.2.1.size : Int) : Int) ≤ 200) then
          (value_Clean.f k (x0.1, (x0.2.1, (x0.2.2.1, (x0.2.2.2.1, (x0.2.2.2.2.1, ())))))).bind fun r1 =>
          some ((((x0.1 : Int) == r1.1.1.1 && (x0.2.1 == r1.1.1.2.1 && ((x0.2.2.1 : Int) == r1.1.1.2.2.1 && ((x0.2.2.2.1 : Int) == r1.1.1.2.2.2.1 && (seqB x0.2.2.2.2.1 r1.1.1.2.2.2.2.1 && true))))), ()), (()))
        else
          some ((false, ()), (()))
      else
        some ((false, ()), (()))
    else
      some ((false, ()), (()))
abbrev value_Right.ini : LSh := ⟨[(0, .val (.cons (.int .i64) (.cons .bool (.cons (.int .i64) (.cons (.int .u64) (.cons .str .nil))))))], []⟩
abbrev value_Right.out : LSh := ⟨[(0, .val .bool)], []⟩
noncomputable def value_Right.labF : Nat → Option (LabF value_Right.out.den)
  | _ => none
noncomputable def value_Right.fd : FnD := ⟨Try.f27, value_Right.ini, value_Right.out, 1, [], [], value_Right.labF, fun k (d : ((Int × Bool × Int × Int × ByteArray × Unit) × Unit) × (Unit)) => (value_Right.f k d.1.1 : Option value_Right.R)⟩

/-! ### paper_Check : function 16 -/
abbrev paper_Check.R := (Int × Unit) × (Unit)
mutual
noncomputable def paper_Check.j0 : Nat → ByteArray → Int → (List (ByteArray × (Int × Bool × Int × Int × ByteArray × Unit) × Unit)) → Option paper_Check.R
  | 0, _, _, _ => none
  | k + 1, o1_0, o1_1, o1_2 =>
    paper_Check.l0 k o1_2 (o1_2.length : Int) 0 o1_0 o1_1 o1_2
noncomputable def paper_Check.l0 : Nat → (List (ByteArray × (Int × Bool × Int × Int × ByteArray × Unit) × Unit)) → Int → Int → ByteArray → Int → (List (ByteArray × (Int × Bool × Int × Int × ByteArray × Unit) × Unit)) → Option paper_Check.R
  | 0, _, _, _, _, _, _ => none
  | k + 1, x33, x34, x35, o1_0, o1_1, o1_2 =>
    bif decide ((x35 : Int) < x34) then
      (rdo x33 x35).bind fun t2 =>
      (paper_IsName.f k t2.1).bind fun r3 =>
      bif !r3.1.1 then
        some ((14, ()), (()))
      else
        (value_Clean.f k (t2.2.1.1, (t2.2.1.2.1, (t2.2.1.2.2.1, (t2.2.1.2.2.2.1, (t2.2.1.2.2.2.2.1, ())))))).bind fun r4 =>
        (value_Right.f k (r4.1.1.1, (r4.1.1.2.1, (r4.1.1.2.2.1, (r4.1.1.2.2.2.1, (r4.1.1.2.2.2.2.1, ())))))).bind fun r5 =>
        bif !r5.1.1 then
          some ((15, ()), (()))
        else
          paper_Check.l0 k x33 x34 (IntKind.wrap .i64 (x35 + 1)) o1_0 o1_1 o1_2
    else
      (paper_Tidy.f k (o1_0, (o1_1, (o1_2, ())))).bind fun r6 =>
      paper_Check.l1 k r6.1.1.2.2.1 1
noncomputable def paper_Check.l1 : Nat → (List (ByteArray × (Int × Bool × Int × Int × ByteArray × Unit) × Unit)) → Int → Option paper_Check.R
  | 0, _, _ => none
  | k + 1, x5, x6 =>
    bif decide ((x6 : Int) < (x5.length : Int)) then
      (rdo x5 x6).bind fun t7 =>
      (rdo x5 (IntKind.wrap .i64 (x6 - 1))).bind fun t8 =>
      bif t7.1.toList == t8.1.toList then
        some ((10, ()), (()))
      else
        paper_Check.l1 k x5 (IntKind.wrap .i64 (x6 + 1))
    else
      some ((0, ()), (()))
noncomputable def paper_Check.f : Nat → (ByteArray × Int × List (ByteArray × (Int × Bool × Int × Int × ByteArray × Unit) × Unit) × Unit) → Option paper_Check.R
  | 0, _ => none
  | k + 1, x0 =>
    (paper_IsID.f k x0.1).bind fun r1 =>
    bif !r1.1.1 then
      some ((13, ()), (()))
    else
    bif decide ((x0.2.1 : Int) < 0) then
      some ((16, ()), (()))
    else
    bif decide ((x0.2.1 : Int) ≥ 8) then
      some ((16, ()), (()))
    else
    bif decide (((x0.2.2.1.length : Int) : Int) < 1) then
      some ((5, ()), (()))
    else
    bif decide (((x0.2.2.1.length : Int) : Int) > 12) then
      some ((5, ()), (()))
    else
      paper_Check.j0 k x0.1 x0.2.1 x0.2.2.1
end
abbrev paper_Check.ini : LSh := ⟨[(0, .val (.cons .str (.cons (.int .i64) (.cons (.sl (.cons .str (.cons (.cons (.int .i64) (.cons .bool (.cons (.int .i64) (.cons (.int .u64) (.cons .str .nil))))) .nil))) .nil))))], []⟩
abbrev paper_Check.out : LSh := ⟨[(0, .val (.int .i64))], []⟩
abbrev paper_Check.j0s : LSh := ⟨[(1, .ptr 1 0)], [(1, 27, [.val .str, .val (.int .i64), .val (.sl (.cons .str (.cons (.cons (.int .i64) (.cons .bool (.cons (.int .i64) (.cons (.int .u64) (.cons .str .nil))))) .nil)))])]⟩
abbrev paper_Check.l0s : LSh := ⟨[(1, .ptr 1 0), (33, .val (.sl (.cons .str (.cons (.cons (.int .i64) (.cons .bool (.cons (.int .i64) (.cons (.int .u64) (.cons .str .nil))))) .nil)))), (34, .val (.int .i64)), (35, .val (.int .i64))], [(1, 27, [.val .str, .val (.int .i64), .val (.sl (.cons .str (.cons (.cons (.int .i64) (.cons .bool (.cons (.int .i64) (.cons (.int .u64) (.cons .str .nil))))) .nil)))])]⟩
abbrev paper_Check.l1s : LSh := ⟨[(5, .val (.sl (.cons .str (.cons (.cons (.int .i64) (.cons .bool (.cons (.int .i64) (.cons (.int .u64) (.cons .str .nil))))) .nil)))), (6, .val (.int .i64))], []⟩
noncomputable def paper_Check.labF : Nat → Option (LabF paper_Check.out.den)
  | 15 => some ⟨paper_Check.j0s, fun k (d : (Unit × Unit) × ((ByteArray × Int × (List (ByteArray × (Int × Bool × Int × Int × ByteArray × Unit) × Unit)) × Unit) × Unit)) => (paper_Check.j0 k d.2.1.1 d.2.1.2.1 d.2.1.2.2.1 : Option paper_Check.R)⟩
  | 16 => some ⟨paper_Check.l0s, fun k (d : (Unit × (List (ByteArray × (Int × Bool × Int × Int × ByteArray × Unit) × Unit)) × Int × Int × Unit) × ((ByteArray × Int × (List (ByteArray × (Int × Bool × Int × Int × ByteArray × Unit) × Unit)) × Unit) × Unit)) => (paper_Check.l0 k d.1.2.1 d.1.2.2.1 d.1.2.2.2.1 d.2.1.1 d.2.1.2.1 d.2.1.2.2.1 : Option paper_Check.R)⟩
  | 34 => some ⟨paper_Check.l1s, fun k (d : ((List (ByteArray × (Int × Bool × Int × Int × ByteArray × Unit) × Unit)) × Int × Unit) × (Unit)) => (paper_Check.l1 k d.1.1 d.1.2.1 : Option paper_Check.R)⟩
  | _ => none
noncomputable def paper_Check.fd : FnD := ⟨Try.f16, paper_Check.ini, paper_Check.out, 1, [], [], paper_Check.labF, fun k (d : ((ByteArray × Int × List (ByteArray × (Int × Bool × Int × Int × ByteArray × Unit) × Unit) × Unit) × Unit) × (Unit)) => (paper_Check.f k d.1.1 : Option paper_Check.R)⟩

/-! ### octet_Num : function 43 -/
abbrev octet_Num.R := (ByteArray × Unit) × (Unit)
mutual
noncomputable def octet_Num.l0 : Nat → Int → ByteArray → Option octet_Num.R
  | 0, _, _ => none
  | k + 1, x0, x3 =>
    bif decide ((x0 : Int) > 0) then
      (ck (decide ((strOf ([IntKind.wrap .u8 x0] : List Int)).size + x3.size ≤ 9223372036854775807))).bind fun _ =>
      (ck (!decide ((8 : Int) < 0))).bind fun _ =>
      octet_Num.l0 k (Int.fdiv x0 (2 ^ (min (8 : Int).toNat (IntKind.bits .i64)))) ((strOf ([IntKind.wrap .u8 x0] : List Int)) ++ x3)
    else
      (ck (decide ((strOf ([IntKind.wrap .u8 (x3.size : Int)] : List Int)).size + x3.size ≤ 9223372036854775807))).bind fun _ =>
      some (((strOf ([IntKind.wrap .u8 (x3.size : Int)] : List Int)) ++ x3, ()), (()))
noncomputable def octet_Num.f : Nat → Int → Option octet_Num.R
  | 0, _ => none
  | k + 1, x0 =>
    bif decide ((x0 : Int) < 0) then
      some (((⟨#[]⟩ : ByteArray), ()), (()))
    else
    bif decide ((x0 : Int) ≥ 72057594037927936) then
      some (((⟨#[]⟩ : ByteArray), ()), (()))
    else
      octet_Num.l0 k x0 (⟨#[]⟩ : ByteArray)
end
abbrev octet_Num.ini : LSh := ⟨[(0, .val (.int .i64))], []⟩
abbrev octet_Num.out : LSh := ⟨[(0, .val .str)], []⟩
abbrev octet_Num.l0s : LSh := ⟨[(0, .val (.int .i64)), (3, .val .str)], []⟩
noncomputable def octet_Num.labF : Nat → Option (LabF octet_Num.out.den)
  | 8 => some ⟨octet_Num.l0s, fun k (d : (Int × ByteArray × Unit) × (Unit)) => (octet_Num.l0 k d.1.1 d.1.2.1 : Option octet_Num.R)⟩
  | _ => none
noncomputable def octet_Num.fd : FnD := ⟨Try.f43, octet_Num.ini, octet_Num.out, 1, [], [], octet_Num.labF, fun k (d : (Int × Unit) × (Unit)) => (octet_Num.f k d.1.1 : Option octet_Num.R)⟩

/-! ### octet_Text : function 42 -/
abbrev octet_Text.R := (ByteArray × Unit) × (Unit)
noncomputable def octet_Text.f : Nat → ByteArray → Option octet_Text.R
  | 0, _ => none
  | k + 1, x0 =>
    (octet_Num.f k (x0.size : Int)).bind fun r1 =>
    (ck (decide (r1.1.1.size + x0.size ≤ 9223372036854775807))).bind fun _ =>
    some ((r1.1.1 ++ x0, ()), (()))
abbrev octet_Text.ini : LSh := ⟨[(0, .val .str)], []⟩
abbrev octet_Text.out : LSh := ⟨[(0, .val .str)], []⟩
noncomputable def octet_Text.labF : Nat → Option (LabF octet_Text.out.den)
  | _ => none
noncomputable def octet_Text.fd : FnD := ⟨Try.f42, octet_Text.ini, octet_Text.out, 1, [], [], octet_Text.labF, fun k (d : (ByteArray × Unit) × (Unit)) => (octet_Text.f k d.1.1 : Option octet_Text.R)⟩

/-! ### octet_Writer_Text : function 31 -/
abbrev octet_Writer_Text.R := (Unit) × ((ByteArray × Bool × Unit) × Unit)
noncomputable def octet_Writer_Text.f : Nat → ByteArray → ByteArray → Bool → Option octet_Writer_Text.R
  | 0, _, _, _ => none
  | k + 1, x1, o0_0, o0_1 =>
    (octet_Text.f k x1).bind fun r1 =>
    (ck (decide (o0_0.size + r1.1.1.size ≤ 9223372036854775807))).bind fun _ =>
    some ((()), ((o0_0 ++ r1.1.1, o0_1, ()), ()))
abbrev octet_Writer_Text.ini : LSh := ⟨[(0, .ptr 1000000 0), (1, .val .str)], [(1000000, 54, [.val .str, .val .bool])]⟩
abbrev octet_Writer_Text.out : LSh := ⟨[], [(1000000, 54, [.val .str, .val .bool])]⟩
noncomputable def octet_Writer_Text.labF : Nat → Option (LabF octet_Writer_Text.out.den)
  | _ => none
noncomputable def octet_Writer_Text.fd : FnD := ⟨Try.f31, octet_Writer_Text.ini, octet_Writer_Text.out, 0, [1000000], [], octet_Writer_Text.labF, fun k (d : (Unit × ByteArray × Unit) × ((ByteArray × Bool × Unit) × Unit)) => (octet_Writer_Text.f k d.1.2.1 d.2.1.1 d.2.1.2.1 : Option octet_Writer_Text.R)⟩

/-! ### octet_Writer_Num : function 32 -/
abbrev octet_Writer_Num.R := (Unit) × ((ByteArray × Bool × Unit) × Unit)
noncomputable def octet_Writer_Num.f : Nat → Int → ByteArray → Bool → Option octet_Writer_Num.R
  | 0, _, _, _ => none
  | k + 1, x1, o0_0, o0_1 =>
    (octet_Num.f k x1).bind fun r1 =>
    bif o0_1 then
      (ck (decide (o0_0.size + r1.1.1.size ≤ 9223372036854775807))).bind fun _ =>
      some ((()), ((o0_0 ++ r1.1.1, true, ()), ()))
    else
      (ck (decide (o0_0.size + r1.1.1.size ≤ 9223372036854775807))).bind fun _ =>
      some ((()), ((o0_0 ++ r1.1.1, r1.1.1.toList == (⟨#[]⟩ : ByteArray).toList, ()), ()))
abbrev octet_Writer_Num.ini : LSh := ⟨[(0, .ptr 1000000 0), (1, .val (.int .i64))], [(1000000, 54, [.val .str, .val .bool])]⟩
abbrev octet_Writer_Num.out : LSh := ⟨[], [(1000000, 54, [.val .str, .val .bool])]⟩
noncomputable def octet_Writer_Num.labF : Nat → Option (LabF octet_Writer_Num.out.den)
  | _ => none
noncomputable def octet_Writer_Num.fd : FnD := ⟨Try.f32, octet_Writer_Num.ini, octet_Writer_Num.out, 0, [1000000], [], octet_Writer_Num.labF, fun k (d : (Unit × Int × Unit) × ((ByteArray × Bool × Unit) × Unit)) => (octet_Writer_Num.f k d.1.2.1 d.2.1.1 d.2.1.2.1 : Option octet_Writer_Num.R)⟩

/-! ### octet_Writer_All : function 34 -/
abbrev octet_Writer_All.R := (ByteArray × Bool × Unit) × (Unit)
noncomputable def octet_Writer_All.f : Nat → ByteArray → Bool → Option octet_Writer_All.R
  | 0, _, _ => none
  | k + 1, o0_0, o0_1 =>
    bif o0_1 then
      some (((⟨#[]⟩ : ByteArray), false, ()), (()))
    else
      some ((o0_0, true, ()), (()))
abbrev octet_Writer_All.ini : LSh := ⟨[(0, .ptr 1000000 0)], [(1000000, 54, [.val .str, .val .bool])]⟩
abbrev octet_Writer_All.out : LSh := ⟨[(0, .val .str), (1, .val .bool)], []⟩
noncomputable def octet_Writer_All.labF : Nat → Option (LabF octet_Writer_All.out.den)
  | _ => none
noncomputable def octet_Writer_All.fd : FnD := ⟨Try.f34, octet_Writer_All.ini, octet_Writer_All.out, 2, [1000000], [1000000], octet_Writer_All.labF, fun k (d : (Unit × Unit) × ((ByteArray × Bool × Unit) × Unit)) => (octet_Writer_All.f k d.2.1.1 d.2.1.2.1 : Option octet_Writer_All.R)⟩

/-! ### octet_Writer_Flag : function 48 -/
abbrev octet_Writer_Flag.R := (Unit) × ((ByteArray × Bool × Unit) × Unit)
noncomputable def octet_Writer_Flag.f : Nat → Bool → ByteArray → Bool → Option octet_Writer_Flag.R
  | 0, _, _, _ => none
  | k + 1, x1, o0_0, o0_1 =>
    bif x1 then
      (ck (decide (o0_0.size + (⟨#[1]⟩ : ByteArray).size ≤ 9223372036854775807))).bind fun _ =>
      some ((()), ((o0_0 ++ (⟨#[1]⟩ : ByteArray), o0_1, ()), ()))
    else
      (ck (decide (o0_0.size + (⟨#[0]⟩ : ByteArray).size ≤ 9223372036854775807))).bind fun _ =>
      some ((()), ((o0_0 ++ (⟨#[0]⟩ : ByteArray), o0_1, ()), ()))
abbrev octet_Writer_Flag.ini : LSh := ⟨[(0, .ptr 1000000 0), (1, .val .bool)], [(1000000, 54, [.val .str, .val .bool])]⟩
abbrev octet_Writer_Flag.out : LSh := ⟨[], [(1000000, 54, [.val .str, .val .bool])]⟩
noncomputable def octet_Writer_Flag.labF : Nat → Option (LabF octet_Writer_Flag.out.den)
  | _ => none
noncomputable def octet_Writer_Flag.fd : FnD := ⟨Try.f48, octet_Writer_Flag.ini, octet_Writer_Flag.out, 0, [1000000], [], octet_Writer_Flag.labF, fun k (d : (Unit × Bool × Unit) × ((ByteArray × Bool × Unit) × Unit)) => (octet_Writer_Flag.f k d.1.2.1 d.2.1.1 d.2.1.2.1 : Option octet_Writer_Flag.R)⟩

/-! ### octet_Writer_Raw : function 49 -/
abbrev octet_Writer_Raw.R := (Unit) × ((ByteArray × Bool × Unit) × Unit)
noncomputable def octet_Writer_Raw.f : Nat → ByteArray → ByteArray → Bool → Option octet_Writer_Raw.R
  | 0, _, _, _ => none
  | k + 1, x1, o0_0, o0_1 =>
    (ck (decide (o0_0.size + x1.size ≤ 9223372036854775807))).bind fun _ =>
    some ((()), ((o0_0 ++ x1, o0_1, ()), ()))
abbrev octet_Writer_Raw.ini : LSh := ⟨[(0, .ptr 1000000 0), (1, .val .str)], [(1000000, 54, [.val .str, .val .bool])]⟩
abbrev octet_Writer_Raw.out : LSh := ⟨[], [(1000000, 54, [.val .str, .val .bool])]⟩
noncomputable def octet_Writer_Raw.labF : Nat → Option (LabF octet_Writer_Raw.out.den)
  | _ => none
noncomputable def octet_Writer_Raw.fd : FnD := ⟨Try.f49, octet_Writer_Raw.ini, octet_Writer_Raw.out, 0, [1000000], [], octet_Writer_Raw.labF, fun k (d : (Unit × ByteArray × Unit) × ((ByteArray × Bool × Unit) × Unit)) => (octet_Writer_Raw.f k d.1.2.1 d.2.1.1 d.2.1.2.1 : Option octet_Writer_Raw.R)⟩

/-! ### value_eight : function 50 -/
abbrev value_eight.R := (ByteArray × Unit) × (Unit)
mutual
noncomputable def value_eight.l0 : Nat → Int → (List Int) → Int → Int → Option value_eight.R
  | 0, _, _, _, _ => none
  | k + 1, x0, x3, x7, x8 =>
    bif decide ((x8 : Int) < x7) then
      (ck (!decide ((IntKind.wrap .i64 (56 - (IntKind.wrap .i64 (8 * x8))) : Int) < 0))).bind fun _ =>
      (ck (decide (0 ≤ x8) && decide (x8 < (x3.length : Int)))).bind fun _ =>
      value_eight.l0 k x0 (x3.set x8.toNat (IntKind.wrap .u8 (Int.fdiv x0 (2 ^ (min (IntKind.wrap .i64 (56 - (IntKind.wrap .i64 (8 * x8))) : Int).toNat (IntKind.bits .u64)))))) x7 (IntKind.wrap .i64 (x8 + 1))
    else
      some ((strOf x3, ()), (()))
noncomputable def value_eight.f : Nat → Int → Option value_eight.R
  | 0, _ => none
  | k + 1, x0 =>
    (ck (decide (0 ≤ 8) && decide (8 = 8) && decide (8 * 1 ≤ 281474976710656) && decide (8 ≤ 9223372036854775807))).bind fun _ =>
    value_eight.l0 k x0 (List.replicate (8 : Int).toNat (0 : Int)) ((List.replicate (8 : Int).toNat (0 : Int)).length : Int) 0
end
abbrev value_eight.ini : LSh := ⟨[(0, .val (.int .u64))], []⟩
abbrev value_eight.out : LSh := ⟨[(0, .val .str)], []⟩
abbrev value_eight.l0s : LSh := ⟨[(0, .val (.int .u64)), (3, .own 2000003 5 (.mu (.int .u8))), (7, .val (.int .i64)), (8, .val (.int .i64))], []⟩
noncomputable def value_eight.labF : Nat → Option (LabF value_eight.out.den)
  | 6 => some ⟨value_eight.l0s, fun k (d : (Int × List Int × Int × Int × Unit) × (Unit)) => (value_eight.l0 k d.1.1 d.1.2.1 d.1.2.2.1 d.1.2.2.2.1 : Option value_eight.R)⟩
  | _ => none
noncomputable def value_eight.fd : FnD := ⟨Try.f50, value_eight.ini, value_eight.out, 1, [], [], value_eight.labF, fun k (d : (Int × Unit) × (Unit)) => (value_eight.f k d.1.1 : Option value_eight.R)⟩

/-! ### value_Bytes : function 33 -/
abbrev value_Bytes.R := (ByteArray × Unit) × (Unit)
mutual
noncomputable def value_Bytes.j0 : Nat → ByteArray → Bool → Option value_Bytes.R
  | 0, _, _ => none
  | k + 1, o10_0, o10_1 =>
    (octet_Writer_All.f k o10_0 o10_1).bind fun r9 =>
    some ((r9.1.1, ()), (()))
noncomputable def value_Bytes.f : Nat → (Int × Bool × Int × Int × ByteArray × Unit) → Option value_Bytes.R
  | 0, _ => none
  | k + 1, x0 =>
    (value_Right.f k (x0.1, (x0.2.1, (x0.2.2.1, (x0.2.2.2.1, (x0.2.2.2.2.1, ())))))).bind fun r1 =>
    bif !r1.1.1 then
      some (((⟨#[]⟩ : ByteArray), ()), (()))
    else
      (octet_Writer_Num.f k x0.1 ByteArray.empty false).bind fun r2 =>
      bif (x0.1 : Int) == 1 then
        (octet_Writer_Flag.f k x0.2.1 r2.2.1.1 r2.2.1.2.1).bind fun r3 =>
        value_Bytes.j0 k r3.2.1.1 r3.2.1.2.1
      else
      bif (x0.1 : Int) == 2 then
        (value_eight.f k (IntKind.wrap .u64 x0.2.2.1)).bind fun r4 =>
        (octet_Writer_Raw.f k r4.1.1 r2.2.1.1 r2.2.1.2.1).bind fun r5 =>
        value_Bytes.j0 k r5.2.1.1 r5.2.1.2.1
      else
      bif (x0.1 : Int) == 3 then
        (value_eight.f k x0.2.2.2.1).bind fun r6 =>
        (octet_Writer_Raw.f k r6.1.1 r2.2.1.1 r2.2.1.2.1).bind fun r7 =>
        value_Bytes.j0 k r7.2.1.1 r7.2.1.2.1
      else
      bif (x0.1 : Int) == 4 then
        (octet_Writer_Text.f k x0.2.2.2.2.1 r2.2.1.1 r2.2.1.2.1).bind fun r8 =>
        value_Bytes.j0 k r8.2.1.1 r8.2.1.2.1
      else
        value_Bytes.j0 k r2.2.1.1 r2.2.1.2.1
end
abbrev value_Bytes.ini : LSh := ⟨[(0, .val (.cons (.int .i64) (.cons .bool (.cons (.int .i64) (.cons (.int .u64) (.cons .str .nil))))))], []⟩
abbrev value_Bytes.out : LSh := ⟨[(0, .val .str)], []⟩
abbrev value_Bytes.j0s : LSh := ⟨[(3, .ptr 10 0)], [(10, 54, [.val .str, .val .bool])]⟩
noncomputable def value_Bytes.labF : Nat → Option (LabF value_Bytes.out.den)
  | 29 => some ⟨value_Bytes.j0s, fun k (d : (Unit × Unit) × ((ByteArray × Bool × Unit) × Unit)) => (value_Bytes.j0 k d.2.1.1 d.2.1.2.1 : Option value_Bytes.R)⟩
  | _ => none
noncomputable def value_Bytes.fd : FnD := ⟨Try.f33, value_Bytes.ini, value_Bytes.out, 1, [], [], value_Bytes.labF, fun k (d : ((Int × Bool × Int × Int × ByteArray × Unit) × Unit) × (Unit)) => (value_Bytes.f k d.1.1 : Option value_Bytes.R)⟩

/-! ### paper_Bytes : function 20 -/
abbrev paper_Bytes.R := (ByteArray × Int × Unit) × (Unit)
mutual
noncomputable def paper_Bytes.l0 : Nat → (List (ByteArray × (Int × Bool × Int × Int × ByteArray × Unit) × Unit)) → Int → Int → ByteArray → Bool → Option paper_Bytes.R
  | 0, _, _, _, _, _ => none
  | k + 1, x33, x34, x35, o18_0, o18_1 =>
    bif decide ((x35 : Int) < x34) then
      (rdo x33 x35).bind fun t6 =>
      (octet_Writer_Text.f k t6.1 o18_0 o18_1).bind fun r7 =>
      (value_Bytes.f k (t6.2.1.1, (t6.2.1.2.1, (t6.2.1.2.2.1, (t6.2.1.2.2.2.1, (t6.2.1.2.2.2.2.1, ())))))).bind fun r8 =>
      (octet_Writer_Text.f k r8.1.1 r7.2.1.1 r7.2.1.2.1).bind fun r9 =>
      paper_Bytes.l0 k x33 x34 (IntKind.wrap .i64 (x35 + 1)) r9.2.1.1 r9.2.1.2.1
    else
      (octet_Writer_All.f k o18_0 o18_1).bind fun r10 =>
      some ((r10.1.1, 0, ()), (()))
noncomputable def paper_Bytes.f : Nat → (ByteArray × Int × List (ByteArray × (Int × Bool × Int × Int × ByteArray × Unit) × Unit) × Unit) → Option paper_Bytes.R
  | 0, _ => none
  | k + 1, x0 =>
    (paper_Check.f k (x0.1, (x0.2.1, (x0.2.2.1, ())))).bind fun r1 =>
    bif (r1.1.1 : Int) != 0 then
      some (((⟨#[]⟩ : ByteArray), r1.1.1, ()), (()))
    else
      (paper_Tidy.f k (x0.1, (x0.2.1, (x0.2.2.1, ())))).bind fun r2 =>
      (octet_Writer_Text.f k r2.1.1.1 ByteArray.empty false).bind fun r3 =>
      (octet_Writer_Num.f k r2.1.1.2.1 r3.2.1.1 r3.2.1.2.1).bind fun r4 =>
      (octet_Writer_Num.f k (r2.1.1.2.2.1.length : Int) r4.2.1.1 r4.2.1.2.1).bind fun r5 =>
      paper_Bytes.l0 k r2.1.1.2.2.1 (r2.1.1.2.2.1.length : Int) 0 r5.2.1.1 r5.2.1.2.1
end
abbrev paper_Bytes.ini : LSh := ⟨[(0, .val (.cons .str (.cons (.int .i64) (.cons (.sl (.cons .str (.cons (.cons (.int .i64) (.cons .bool (.cons (.int .i64) (.cons (.int .u64) (.cons .str .nil))))) .nil))) .nil))))], []⟩
abbrev paper_Bytes.out : LSh := ⟨[(0, .val .str), (1, .val (.int .i64))], []⟩
abbrev paper_Bytes.l0s : LSh := ⟨[(5, .ptr 18 0), (33, .val (.sl (.cons .str (.cons (.cons (.int .i64) (.cons .bool (.cons (.int .i64) (.cons (.int .u64) (.cons .str .nil))))) .nil)))), (34, .val (.int .i64)), (35, .val (.int .i64))], [(18, 54, [.val .str, .val .bool])]⟩
noncomputable def paper_Bytes.labF : Nat → Option (LabF paper_Bytes.out.den)
  | 20 => some ⟨paper_Bytes.l0s, fun k (d : (Unit × (List (ByteArray × (Int × Bool × Int × Int × ByteArray × Unit) × Unit)) × Int × Int × Unit) × ((ByteArray × Bool × Unit) × Unit)) => (paper_Bytes.l0 k d.1.2.1 d.1.2.2.1 d.1.2.2.2.1 d.2.1.1 d.2.1.2.1 : Option paper_Bytes.R)⟩
  | _ => none
noncomputable def paper_Bytes.fd : FnD := ⟨Try.f20, paper_Bytes.ini, paper_Bytes.out, 2, [], [], paper_Bytes.labF, fun k (d : ((ByteArray × Int × List (ByteArray × (Int × Bool × Int × Int × ByteArray × Unit) × Unit) × Unit) × Unit) × (Unit)) => (paper_Bytes.f k d.1.1 : Option paper_Bytes.R)⟩

/-! ### chartularylaw05_awake : function 11 -/
abbrev chartularylaw05_awake.R := (Bool × Unit) × (Unit)
noncomputable def chartularylaw05_awake.f : Nat → Option chartularylaw05_awake.R
  | 0 => none
  | k + 1 =>
    (paper_Bytes.f k ((⟨#[97]⟩ : ByteArray), (2, (([((⟨#[120]⟩ : ByteArray), ((1, (true, (0, (0, (ByteArray.empty, ()))))), ()))] : List (ByteArray × (Int × Bool × Int × Int × ByteArray × Unit) × Unit)), ())))).bind fun r1 =>
    bif (r1.1.2.1 : Int) == 0 then
      some ((r1.1.1.toList == (⟨#[1, 1, 97, 1, 2, 1, 1, 1, 1, 120, 1, 3, 1, 1, 1]⟩ : ByteArray).toList, ()), (()))
    else
      some ((false, ()), (()))
abbrev chartularylaw05_awake.ini : LSh := ⟨[], []⟩
abbrev chartularylaw05_awake.out : LSh := ⟨[(0, .val .bool)], []⟩
noncomputable def chartularylaw05_awake.labF : Nat → Option (LabF chartularylaw05_awake.out.den)
  | _ => none
noncomputable def chartularylaw05_awake.fd : FnD := ⟨Try.f11, chartularylaw05_awake.ini, chartularylaw05_awake.out, 1, [], [], chartularylaw05_awake.labF, fun k (d : (Unit) × (Unit)) => (chartularylaw05_awake.f k : Option chartularylaw05_awake.R)⟩

/-! ### chartularylaw05_Few : function 12 -/
abbrev chartularylaw05_Few.R := ((ByteArray × Int × List (ByteArray × (Int × Bool × Int × Int × ByteArray × Unit) × Unit) × Unit) × Unit) × (Unit)
mutual
noncomputable def chartularylaw05_Few.j0 : Nat → ByteArray → Int → (List (ByteArray × (Int × Bool × Int × Int × ByteArray × Unit) × Unit)) → ByteArray → Int → (List (ByteArray × (Int × Bool × Int × Int × ByteArray × Unit) × Unit)) → ByteArray → Int → (List (ByteArray × (Int × Bool × Int × Int × ByteArray × Unit) × Unit)) → Option chartularylaw05_Few.R
  | 0, _, _, _, _, _, _, _, _, _ => none
  | k + 1, o1_0, o1_1, o1_2, o2_0, o2_1, o2_2, o3_0, o3_1, o3_2 =>
    chartularylaw05_Few.l0 k 0 o1_0 o1_1 o1_2 o2_0 o2_1 o2_2 o3_0 o3_1 o3_2
noncomputable def chartularylaw05_Few.l0 : Nat → Int → ByteArray → Int → (List (ByteArray × (Int × Bool × Int × Int × ByteArray × Unit) × Unit)) → ByteArray → Int → (List (ByteArray × (Int × Bool × Int × Int × ByteArray × Unit) × Unit)) → ByteArray → Int → (List (ByteArray × (Int × Bool × Int × Int × ByteArray × Unit) × Unit)) → Option chartularylaw05_Few.R
  | 0, _, _, _, _, _, _, _, _, _, _ => none
  | k + 1, x4, o1_0, o1_1, o1_2, o2_0, o2_1, o2_2, o3_0, o3_1, o3_2 =>
    bif decide ((x4 : Int) < (o1_2.length : Int)) then
      bif decide ((x4 : Int) < 30) then
        (rdo o1_2 x4).bind fun t1 =>
        bif decide (((t1.1.size : Int) : Int) > 300) then
          (ck (decide (0 ≤ 0) && decide (0 ≤ 300) && decide (300 ≤ (t1.1.size : Int)))).bind fun _ =>
          bif decide (((t1.2.1.2.2.2.2.1.size : Int) : Int) > 300) then
            (ck (decide (0 ≤ 0) && decide (0 ≤ 300) && decide (300 ≤ (t1.2.1.2.2.2.2.1.size : Int)))).bind fun _ =>
            (ck (decide ((o3_2.length + ([(t1.1.extract (0 : Int).toNat (300 : Int).toNat, ((t1.2.1.1, (t1.2.1.2.1, (t1.2.1.2.2.1, (t1.2.1.2.2.2.1, (t1.2.1.2.2.2.2.1.extract (0 : Int).toNat (300 : Int).toNat, ()))))), ()))] : List (ByteArray × (Int × Bool × Int × Int × ByteArray × Unit) × Unit)).length) * 64 ≤ 70368744177664))).bind fun _ =>
            chartularylaw05_Few.l0 k (IntKind.wrap .i64 (x4 + 1)) o1_0 o1_1 o1_2 o2_0 o2_1 o2_2 o3_0 o3_1 (o3_2 ++ ([(t1.1.extract (0 : Int).toNat (300 : Int).toNat, ((t1.2.1.1, (t1.2.1.2.1, (t1.2.1.2.2.1, (t1.2.1.2.2.2.1, (t1.2.1.2.2.2.2.1.extract (0 : Int).toNat (300 : Int).toNat, ()))))), ()))] : List (ByteArray × (Int × Bool × Int × Int × ByteArray × Unit) × Unit)))
          else
            (ck (decide ((o3_2.length + ([(t1.1.extract (0 : Int).toNat (300 : Int).toNat, ((t1.2.1.1, (t1.2.1.2.1, (t1.2.1.2.2.1, (t1.2.1.2.2.2.1, (t1.2.1.2.2.2.2.1, ()))))), ()))] : List (ByteArray × (Int × Bool × Int × Int × ByteArray × Unit) × Unit)).length) * 64 ≤ 70368744177664))).bind fun _ =>
            chartularylaw05_Few.l0 k (IntKind.wrap .i64 (x4 + 1)) o1_0 o1_1 o1_2 o2_0 o2_1 o2_2 o3_0 o3_1 (o3_2 ++ ([(t1.1.extract (0 : Int).toNat (300 : Int).toNat, ((t1.2.1.1, (t1.2.1.2.1, (t1.2.1.2.2.1, (t1.2.1.2.2.2.1, (t1.2.1.2.2.2.2.1, ()))))), ()))] : List (ByteArray × (Int × Bool × Int × Int × ByteArray × Unit) × Unit)))
        else
        bif decide (((t1.2.1.2.2.2.2.1.size : Int) : Int) > 300) then
          (ck (decide (0 ≤ 0) && decide (0 ≤ 300) && decide (300 ≤ (t1.2.1.2.2.2.2.1.size : Int)))).bind fun _ =>
          (ck (decide ((o3_2.length + ([(t1.1, ((t1.2.1.1, (t1.2.1.2.1, (t1.2.1.2.2.1, (t1.2.1.2.2.2.1, (t1.2.1.2.2.2.2.1.extract (0 : Int).toNat (300 : Int).toNat, ()))))), ()))] : List (ByteArray × (Int × Bool × Int × Int × ByteArray × Unit) × Unit)).length) * 64 ≤ 70368744177664))).bind fun _ =>
          chartularylaw05_Few.l0 k (IntKind.wrap .i64 (x4 + 1)) o1_0 o1_1 o1_2 o2_0 o2_1 o2_2 o3_0 o3_1 (o3_2 ++ ([(t1.1, ((t1.2.1.1, (t1.2.1.2.1, (t1.2.1.2.2.1, (t1.2.1.2.2.2.1, (t1.2.1.2.2.2.2.1.extract (0 : Int).toNat (300 : Int).toNat, ()))))), ()))] : List (ByteArray × (Int × Bool × Int × Int × ByteArray × Unit) × Unit)))
        else
          (ck (decide ((o3_2.length + ([(t1.1, ((t1.2.1.1, (t1.2.1.2.1, (t1.2.1.2.2.1, (t1.2.1.2.2.2.1, (t1.2.1.2.2.2.2.1, ()))))), ()))] : List (ByteArray × (Int × Bool × Int × Int × ByteArray × Unit) × Unit)).length) * 64 ≤ 70368744177664))).bind fun _ =>
          chartularylaw05_Few.l0 k (IntKind.wrap .i64 (x4 + 1)) o1_0 o1_1 o1_2 o2_0 o2_1 o2_2 o3_0 o3_1 (o3_2 ++ ([(t1.1, ((t1.2.1.1, (t1.2.1.2.1, (t1.2.1.2.2.1, (t1.2.1.2.2.2.1, (t1.2.1.2.2.2.2.1, ()))))), ()))] : List (ByteArray × (Int × Bool × Int × Int × ByteArray × Unit) × Unit)))
      else
        some (((o3_0, (o3_1, (o3_2, ()))), ()), (()))
    else
      some (((o3_0, (o3_1, (o3_2, ()))), ()), (()))
noncomputable def chartularylaw05_Few.f : Nat → (ByteArray × Int × List (ByteArray × (Int × Bool × Int × Int × ByteArray × Unit) × Unit) × Unit) → Option chartularylaw05_Few.R
  | 0, _ => none
  | k + 1, x0 =>
    bif decide (((x0.1.size : Int) : Int) > 300) then
      (ck (decide (0 ≤ 0) && decide (0 ≤ 300) && decide (300 ≤ (x0.1.size : Int)))).bind fun _ =>
      chartularylaw05_Few.j0 k x0.1 x0.2.1 x0.2.2.1 ByteArray.empty 0 ([] : List (ByteArray × (Int × Bool × Int × Int × ByteArray × Unit) × Unit)) (x0.1.extract (0 : Int).toNat (300 : Int).toNat) x0.2.1 []
    else
      chartularylaw05_Few.j0 k x0.1 x0.2.1 x0.2.2.1 ByteArray.empty 0 ([] : List (ByteArray × (Int × Bool × Int × Int × ByteArray × Unit) × Unit)) x0.1 x0.2.1 []
end
abbrev chartularylaw05_Few.ini : LSh := ⟨[(0, .val (.cons .str (.cons (.int .i64) (.cons (.sl (.cons .str (.cons (.cons (.int .i64) (.cons .bool (.cons (.int .i64) (.cons (.int .u64) (.cons .str .nil))))) .nil))) .nil))))], []⟩
abbrev chartularylaw05_Few.out : LSh := ⟨[(0, .val (.cons .str (.cons (.int .i64) (.cons (.sl (.cons .str (.cons (.cons (.int .i64) (.cons .bool (.cons (.int .i64) (.cons (.int .u64) (.cons .str .nil))))) .nil))) .nil))))], []⟩
abbrev chartularylaw05_Few.j0s : LSh := ⟨[(1, .ptr 1 0), (2, .ptr 2 0), (3, .ptr 3 0)], [(1, 27, [.val .str, .val (.int .i64), .val (.sl (.cons .str (.cons (.cons (.int .i64) (.cons .bool (.cons (.int .i64) (.cons (.int .u64) (.cons .str .nil))))) .nil)))]), (2, 27, [.val .str, .val (.int .i64), .val (.sl (.cons .str (.cons (.cons (.int .i64) (.cons .bool (.cons (.int .i64) (.cons (.int .u64) (.cons .str .nil))))) .nil)))]), (3, 27, [.val .str, .val (.int .i64), .own 3000302 37 (.cons .str (.cons (.cons (.int .i64) (.cons .bool (.cons (.int .i64) (.cons (.int .u64) (.cons .str .nil))))) .nil))])]⟩
abbrev chartularylaw05_Few.l0s : LSh := ⟨[(1, .ptr 1 0), (2, .ptr 2 0), (3, .ptr 3 0), (4, .val (.int .i64))], [(1, 27, [.val .str, .val (.int .i64), .val (.sl (.cons .str (.cons (.cons (.int .i64) (.cons .bool (.cons (.int .i64) (.cons (.int .u64) (.cons .str .nil))))) .nil)))]), (2, 27, [.val .str, .val (.int .i64), .val (.sl (.cons .str (.cons (.cons (.int .i64) (.cons .bool (.cons (.int .i64) (.cons (.int .u64) (.cons .str .nil))))) .nil)))]), (3, 27, [.val .str, .val (.int .i64), .own 3000302 37 (.cons .str (.cons (.cons (.int .i64) (.cons .bool (.cons (.int .i64) (.cons (.int .u64) (.cons .str .nil))))) .nil))])]⟩
noncomputable def chartularylaw05_Few.labF : Nat → Option (LabF chartularylaw05_Few.out.den)
  | 9 => some ⟨chartularylaw05_Few.j0s, fun k (d : (Unit × Unit × Unit × Unit) × ((ByteArray × Int × (List (ByteArray × (Int × Bool × Int × Int × ByteArray × Unit) × Unit)) × Unit) × (ByteArray × Int × (List (ByteArray × (Int × Bool × Int × Int × ByteArray × Unit) × Unit)) × Unit) × (ByteArray × Int × (List (ByteArray × (Int × Bool × Int × Int × ByteArray × Unit) × Unit)) × Unit) × Unit)) => (chartularylaw05_Few.j0 k d.2.1.1 d.2.1.2.1 d.2.1.2.2.1 d.2.2.1.1 d.2.2.1.2.1 d.2.2.1.2.2.1 d.2.2.2.1.1 d.2.2.2.1.2.1 d.2.2.2.1.2.2.1 : Option chartularylaw05_Few.R)⟩
  | 10 => some ⟨chartularylaw05_Few.l0s, fun k (d : (Unit × Unit × Unit × Int × Unit) × ((ByteArray × Int × (List (ByteArray × (Int × Bool × Int × Int × ByteArray × Unit) × Unit)) × Unit) × (ByteArray × Int × (List (ByteArray × (Int × Bool × Int × Int × ByteArray × Unit) × Unit)) × Unit) × (ByteArray × Int × (List (ByteArray × (Int × Bool × Int × Int × ByteArray × Unit) × Unit)) × Unit) × Unit)) => (chartularylaw05_Few.l0 k d.1.2.2.2.1 d.2.1.1 d.2.1.2.1 d.2.1.2.2.1 d.2.2.1.1 d.2.2.1.2.1 d.2.2.1.2.2.1 d.2.2.2.1.1 d.2.2.2.1.2.1 d.2.2.2.1.2.2.1 : Option chartularylaw05_Few.R)⟩
  | _ => none
noncomputable def chartularylaw05_Few.fd : FnD := ⟨Try.f12, chartularylaw05_Few.ini, chartularylaw05_Few.out, 1, [], [], chartularylaw05_Few.labF, fun k (d : ((ByteArray × Int × List (ByteArray × (Int × Bool × Int × Int × ByteArray × Unit) × Unit) × Unit) × Unit) × (Unit)) => (chartularylaw05_Few.f k d.1.1 : Option chartularylaw05_Few.R)⟩

/-! ### chartularylaw05_same : function 13 -/
abbrev chartularylaw05_same.R := (Bool × Unit) × (Unit)
mutual
noncomputable def chartularylaw05_same.j0 : Nat → ByteArray → Int → (List (ByteArray × (Int × Bool × Int × Int × ByteArray × Unit) × Unit)) → ByteArray → Int → (List (ByteArray × (Int × Bool × Int × Int × ByteArray × Unit) × Unit)) → Option chartularylaw05_same.R
  | 0, _, _, _, _, _, _ => none
  | k + 1, o2_0, o2_1, o2_2, o3_0, o3_1, o3_2 =>
    chartularylaw05_same.l0 k 0 o2_0 o2_1 o2_2 o3_0 o3_1 o3_2
noncomputable def chartularylaw05_same.l0 : Nat → Int → ByteArray → Int → (List (ByteArray × (Int × Bool × Int × Int × ByteArray × Unit) × Unit)) → ByteArray → Int → (List (ByteArray × (Int × Bool × Int × Int × ByteArray × Unit) × Unit)) → Option chartularylaw05_same.R
  | 0, _, _, _, _, _, _, _ => none
  | k + 1, x5, o2_0, o2_1, o2_2, o3_0, o3_1, o3_2 =>
    bif decide ((x5 : Int) < (o2_2.length : Int)) then
      (rdo o2_2 x5).bind fun t1 =>
      (rdo o3_2 x5).bind fun t2 =>
      bif !((seqB t1.1 t2.1 && ((t1.2.1.1 : Int) == t2.2.1.1 && (t1.2.1.2.1 == t2.2.1.2.1 && ((t1.2.1.2.2.1 : Int) == t2.2.1.2.2.1 && ((t1.2.1.2.2.2.1 : Int) == t2.2.1.2.2.2.1 && (seqB t1.2.1.2.2.2.2.1 t2.2.1.2.2.2.2.1 && true))))))) then
        some ((false, ()), (()))
      else
        chartularylaw05_same.l0 k (IntKind.wrap .i64 (x5 + 1)) o2_0 o2_1 o2_2 o3_0 o3_1 o3_2
    else
      some ((true, ()), (()))
noncomputable def chartularylaw05_same.f : Nat → (ByteArray × Int × List (ByteArray × (Int × Bool × Int × Int × ByteArray × Unit) × Unit) × Unit) → (ByteArray × Int × List (ByteArray × (Int × Bool × Int × Int × ByteArray × Unit) × Unit) × Unit) → Option chartularylaw05_same.R
  | 0, _, _ => none
  | k + 1, x0, x1 =>
    bif !(x0.1.toList == x1.1.toList) then
      some ((false, ()), (()))
    else
    bif (x0.2.1 : Int) != x1.2.1 then
      some ((false, ()), (()))
    else
    bif ((x0.2.2.1.length : Int) : Int) != (x1.2.2.1.length : Int) then
      some ((false, ()), (()))
    else
      chartularylaw05_same.j0 k x0.1 x0.2.1 x0.2.2.1 x1.1 x1.2.1 x1.2.2.1
end
abbrev chartularylaw05_same.ini : LSh := ⟨[(0, .val (.cons .str (.cons (.int .i64) (.cons (.sl (.cons .str (.cons (.cons (.int .i64) (.cons .bool (.cons (.int .i64) (.cons (.int .u64) (.cons .str .nil))))) .nil))) .nil)))), (1, .val (.cons .str (.cons (.int .i64) (.cons (.sl (.cons .str (.cons (.cons (.int .i64) (.cons .bool (.cons (.int .i64) (.cons (.int .u64) (.cons .str .nil))))) .nil))) .nil))))], []⟩
abbrev chartularylaw05_same.out : LSh := ⟨[(0, .val .bool)], []⟩
abbrev chartularylaw05_same.j0s : LSh := ⟨[(2, .ptr 2 0), (3, .ptr 3 0)], [(2, 27, [.val .str, .val (.int .i64), .val (.sl (.cons .str (.cons (.cons (.int .i64) (.cons .bool (.cons (.int .i64) (.cons (.int .u64) (.cons .str .nil))))) .nil)))]), (3, 27, [.val .str, .val (.int .i64), .val (.sl (.cons .str (.cons (.cons (.int .i64) (.cons .bool (.cons (.int .i64) (.cons (.int .u64) (.cons .str .nil))))) .nil)))])]⟩
abbrev chartularylaw05_same.l0s : LSh := ⟨[(2, .ptr 2 0), (3, .ptr 3 0), (5, .val (.int .i64))], [(2, 27, [.val .str, .val (.int .i64), .val (.sl (.cons .str (.cons (.cons (.int .i64) (.cons .bool (.cons (.int .i64) (.cons (.int .u64) (.cons .str .nil))))) .nil)))]), (3, 27, [.val .str, .val (.int .i64), .val (.sl (.cons .str (.cons (.cons (.int .i64) (.cons .bool (.cons (.int .i64) (.cons (.int .u64) (.cons .str .nil))))) .nil)))])]⟩
noncomputable def chartularylaw05_same.labF : Nat → Option (LabF chartularylaw05_same.out.den)
  | 7 => some ⟨chartularylaw05_same.j0s, fun k (d : (Unit × Unit × Unit) × ((ByteArray × Int × (List (ByteArray × (Int × Bool × Int × Int × ByteArray × Unit) × Unit)) × Unit) × (ByteArray × Int × (List (ByteArray × (Int × Bool × Int × Int × ByteArray × Unit) × Unit)) × Unit) × Unit)) => (chartularylaw05_same.j0 k d.2.1.1 d.2.1.2.1 d.2.1.2.2.1 d.2.2.1.1 d.2.2.1.2.1 d.2.2.1.2.2.1 : Option chartularylaw05_same.R)⟩
  | 8 => some ⟨chartularylaw05_same.l0s, fun k (d : (Unit × Unit × Int × Unit) × ((ByteArray × Int × (List (ByteArray × (Int × Bool × Int × Int × ByteArray × Unit) × Unit)) × Unit) × (ByteArray × Int × (List (ByteArray × (Int × Bool × Int × Int × ByteArray × Unit) × Unit)) × Unit) × Unit)) => (chartularylaw05_same.l0 k d.1.2.2.1 d.2.1.1 d.2.1.2.1 d.2.1.2.2.1 d.2.2.1.1 d.2.2.1.2.1 d.2.2.1.2.2.1 : Option chartularylaw05_same.R)⟩
  | _ => none
noncomputable def chartularylaw05_same.fd : FnD := ⟨Try.f13, chartularylaw05_same.ini, chartularylaw05_same.out, 1, [], [], chartularylaw05_same.labF, fun k (d : ((ByteArray × Int × List (ByteArray × (Int × Bool × Int × Int × ByteArray × Unit) × Unit) × Unit) × (ByteArray × Int × List (ByteArray × (Int × Bool × Int × Int × ByteArray × Unit) × Unit) × Unit) × Unit) × (Unit)) => (chartularylaw05_same.f k d.1.1 d.1.2.1 : Option chartularylaw05_same.R)⟩

/-! ### chartularylaw05_tidy : function 15 -/
abbrev chartularylaw05_tidy.R := ((ByteArray × Int × List (ByteArray × (Int × Bool × Int × Int × ByteArray × Unit) × Unit) × Unit) × Unit) × (Unit)
mutual
noncomputable def chartularylaw05_tidy.l0 : Nat → Int → ByteArray → Int → (List (ByteArray × (Int × Bool × Int × Int × ByteArray × Unit) × Unit)) → ByteArray → Int → (List (ByteArray × (Int × Bool × Int × Int × ByteArray × Unit) × Unit)) → ByteArray → Int → (List (ByteArray × (Int × Bool × Int × Int × ByteArray × Unit) × Unit)) → Option chartularylaw05_tidy.R
  | 0, _, _, _, _, _, _, _, _, _, _ => none
  | k + 1, x4, o1_0, o1_1, o1_2, o2_0, o2_1, o2_2, o3_0, o3_1, o3_2 =>
    bif decide ((x4 : Int) < (o1_2.length : Int)) then
      (rdo o1_2 x4).bind fun t1 =>
      (rdo o1_2 x4).bind fun t2 =>
      (value_Clean.f k (t2.2.1.1, (t2.2.1.2.1, (t2.2.1.2.2.1, (t2.2.1.2.2.2.1, (t2.2.1.2.2.2.2.1, ())))))).bind fun r3 =>
      chartularylaw05_tidy.l1 k x4 (o3_2.length : Int) o1_0 o1_1 o1_2 o2_0 o2_1 o2_2 o3_0 o3_1 o3_2 t1.1 (r3.1.1.1, (r3.1.1.2.1, (r3.1.1.2.2.1, (r3.1.1.2.2.2.1, (r3.1.1.2.2.2.2.1, ())))))
    else
      some (((o3_0, (o3_1, (o3_2, ()))), ()), (()))
noncomputable def chartularylaw05_tidy.l1 : Nat → Int → Int → ByteArray → Int → (List (ByteArray × (Int × Bool × Int × Int × ByteArray × Unit) × Unit)) → ByteArray → Int → (List (ByteArray × (Int × Bool × Int × Int × ByteArray × Unit) × Unit)) → ByteArray → Int → (List (ByteArray × (Int × Bool × Int × Int × ByteArray × Unit) × Unit)) → ByteArray → (Int × Bool × Int × Int × ByteArray × Unit) → Option chartularylaw05_tidy.R
  | 0, _, _, _, _, _, _, _, _, _, _, _, _, _ => none
  | k + 1, x4, x6, o1_0, o1_1, o1_2, o2_0, o2_1, o2_2, o3_0, o3_1, o3_2, o5_0, o5_1 =>
    bif decide ((x6 : Int) > 0) then
      (ck (decide (0 ≤ IntKind.wrap .i64 (x6 - 1)) && decide (IntKind.wrap .i64 (x6 - 1) < (o3_2.length : Int)))).bind fun _ =>
      (rdo o3_2 (IntKind.wrap .i64 (x6 - 1))).bind fun t4 =>
      bif !(Op.bytesLess t4.1.toList o5_0.toList || t4.1.toList == o5_0.toList) then
        chartularylaw05_tidy.l1 k x4 (IntKind.wrap .i64 (x6 - 1)) o1_0 o1_1 o1_2 o2_0 o2_1 o2_2 o3_0 o3_1 o3_2 o5_0 (o5_1.1, (o5_1.2.1, (o5_1.2.2.1, (o5_1.2.2.2.1, (o5_1.2.2.2.2.1, ())))))
      else
        (ck (decide (0 ≤ x6) && decide (x6 ≤ (o3_2.length : Int)) && decide ((o3_2.length : Int) ≤ (o3_2.length : Int)))).bind fun _ =>
        (ck (decide ((([] : List (ByteArray × (Int × Bool × Int × Int × ByteArray × Unit) × Unit)).length + ((o3_2.drop x6.toNat).take ((o3_2.length : Int) - x6 : Int).toNat).length) * 64 ≤ 70368744177664))).bind fun _ =>
        (ck (decide (0 ≤ 0) && decide (0 ≤ x6) && decide (x6 ≤ (o3_2.length : Int)))).bind fun _ =>
        (ck (decide (((o3_2.take ((x6 - 0 : Int).toNat)).length + ([(o5_0, ((o5_1.1, (o5_1.2.1, (o5_1.2.2.1, (o5_1.2.2.2.1, (o5_1.2.2.2.2.1, ()))))), ()))] : List (ByteArray × (Int × Bool × Int × Int × ByteArray × Unit) × Unit)).length) * 64 ≤ 70368744177664))).bind fun _ =>
        (ck (decide ((((o3_2.take ((x6 - 0 : Int).toNat)) ++ ([(o5_0, ((o5_1.1, (o5_1.2.1, (o5_1.2.2.1, (o5_1.2.2.2.1, (o5_1.2.2.2.2.1, ()))))), ()))] : List (ByteArray × (Int × Bool × Int × Int × ByteArray × Unit) × Unit))).length + (([] : List (ByteArray × (Int × Bool × Int × Int × ByteArray × Unit) × Unit)) ++ ((o3_2.drop x6.toNat).take ((o3_2.length : Int) - x6 : Int).toNat)).length) * 64 ≤ 70368744177664))).bind fun _ =>
        chartularylaw05_tidy.l0 k (IntKind.wrap .i64 (x4 + 1)) o1_0 o1_1 o1_2 o2_0 o2_1 o2_2 o3_0 o3_1 (((o3_2.take ((x6 - 0 : Int).toNat)) ++ ([(o5_0, ((o5_1.1, (o5_1.2.1, (o5_1.2.2.1, (o5_1.2.2.2.1, (o5_1.2.2.2.2.1, ()))))), ()))] : List (ByteArray × (Int × Bool × Int × Int × ByteArray × Unit) × Unit))) ++ (([] : List (ByteArray × (Int × Bool × Int × Int × ByteArray × Unit) × Unit)) ++ ((o3_2.drop x6.toNat).take ((o3_2.length : Int) - x6 : Int).toNat)))
    else
      (ck (decide (0 ≤ x6) && decide (x6 ≤ (o3_2.length : Int)) && decide ((o3_2.length : Int) ≤ (o3_2.length : Int)))).bind fun _ =>
      (ck (decide ((([] : List (ByteArray × (Int × Bool × Int × Int × ByteArray × Unit) × Unit)).length + ((o3_2.drop x6.toNat).take ((o3_2.length : Int) - x6 : Int).toNat).length) * 64 ≤ 70368744177664))).bind fun _ =>
      (ck (decide (0 ≤ 0) && decide (0 ≤ x6) && decide (x6 ≤ (o3_2.length : Int)))).bind fun _ =>
      (ck (decide (((o3_2.take ((x6 - 0 : Int).toNat)).length + ([(o5_0, ((o5_1.1, (o5_1.2.1, (o5_1.2.2.1, (o5_1.2.2.2.1, (o5_1.2.2.2.2.1, ()))))), ()))] : List (ByteArray × (Int × Bool × Int × Int × ByteArray × Unit) × Unit)).length) * 64 ≤ 70368744177664))).bind fun _ =>
      (ck (decide ((((o3_2.take ((x6 - 0 : Int).toNat)) ++ ([(o5_0, ((o5_1.1, (o5_1.2.1, (o5_1.2.2.1, (o5_1.2.2.2.1, (o5_1.2.2.2.2.1, ()))))), ()))] : List (ByteArray × (Int × Bool × Int × Int × ByteArray × Unit) × Unit))).length + (([] : List (ByteArray × (Int × Bool × Int × Int × ByteArray × Unit) × Unit)) ++ ((o3_2.drop x6.toNat).take ((o3_2.length : Int) - x6 : Int).toNat)).length) * 64 ≤ 70368744177664))).bind fun _ =>
      chartularylaw05_tidy.l0 k (IntKind.wrap .i64 (x4 + 1)) o1_0 o1_1 o1_2 o2_0 o2_1 o2_2 o3_0 o3_1 (((o3_2.take ((x6 - 0 : Int).toNat)) ++ ([(o5_0, ((o5_1.1, (o5_1.2.1, (o5_1.2.2.1, (o5_1.2.2.2.1, (o5_1.2.2.2.2.1, ()))))), ()))] : List (ByteArray × (Int × Bool × Int × Int × ByteArray × Unit) × Unit))) ++ (([] : List (ByteArray × (Int × Bool × Int × Int × ByteArray × Unit) × Unit)) ++ ((o3_2.drop x6.toNat).take ((o3_2.length : Int) - x6 : Int).toNat)))
noncomputable def chartularylaw05_tidy.f : Nat → (ByteArray × Int × List (ByteArray × (Int × Bool × Int × Int × ByteArray × Unit) × Unit) × Unit) → Option chartularylaw05_tidy.R
  | 0, _ => none
  | k + 1, x0 =>
    chartularylaw05_tidy.l0 k 0 x0.1 x0.2.1 x0.2.2.1 ByteArray.empty 0 [] x0.1 x0.2.1 []
end
abbrev chartularylaw05_tidy.ini : LSh := ⟨[(0, .val (.cons .str (.cons (.int .i64) (.cons (.sl (.cons .str (.cons (.cons (.int .i64) (.cons .bool (.cons (.int .i64) (.cons (.int .u64) (.cons .str .nil))))) .nil))) .nil))))], []⟩
abbrev chartularylaw05_tidy.out : LSh := ⟨[(0, .val (.cons .str (.cons (.int .i64) (.cons (.sl (.cons .str (.cons (.cons (.int .i64) (.cons .bool (.cons (.int .i64) (.cons (.int .u64) (.cons .str .nil))))) .nil))) .nil))))], []⟩
abbrev chartularylaw05_tidy.l0s : LSh := ⟨[(1, .ptr 1 0), (2, .ptr 2 0), (3, .ptr 3 0), (4, .val (.int .i64))], [(1, 27, [.val .str, .val (.int .i64), .val (.sl (.cons .str (.cons (.cons (.int .i64) (.cons .bool (.cons (.int .i64) (.cons (.int .u64) (.cons .str .nil))))) .nil)))]), (2, 27, [.val .str, .val (.int .i64), .own 3000202 37 (.mu (.cons .str (.cons (.cons (.int .i64) (.cons .bool (.cons (.int .i64) (.cons (.int .u64) (.cons .str .nil))))) .nil)))]), (3, 27, [.val .str, .val (.int .i64), .own 3000302 37 (.mu (.cons .str (.cons (.cons (.int .i64) (.cons .bool (.cons (.int .i64) (.cons (.int .u64) (.cons .str .nil))))) .nil)))])]⟩
abbrev chartularylaw05_tidy.l1s : LSh := ⟨[(1, .ptr 1 0), (2, .ptr 2 0), (3, .ptr 3 0), (4, .val (.int .i64)), (5, .ptr 5 0), (6, .val (.int .i64))], [(1, 27, [.val .str, .val (.int .i64), .val (.sl (.cons .str (.cons (.cons (.int .i64) (.cons .bool (.cons (.int .i64) (.cons (.int .u64) (.cons .str .nil))))) .nil)))]), (2, 27, [.val .str, .val (.int .i64), .own 3000202 37 (.mu (.cons .str (.cons (.cons (.int .i64) (.cons .bool (.cons (.int .i64) (.cons (.int .u64) (.cons .str .nil))))) .nil)))]), (3, 27, [.val .str, .val (.int .i64), .own 3000302 37 (.mu (.cons .str (.cons (.cons (.int .i64) (.cons .bool (.cons (.int .i64) (.cons (.int .u64) (.cons .str .nil))))) .nil)))]), (5, 37, [.val .str, .val (.cons (.int .i64) (.cons .bool (.cons (.int .i64) (.cons (.int .u64) (.cons .str .nil)))))])]⟩
noncomputable def chartularylaw05_tidy.labF : Nat → Option (LabF chartularylaw05_tidy.out.den)
  | 6 => some ⟨chartularylaw05_tidy.l0s, fun k (d : (Unit × Unit × Unit × Int × Unit) × ((ByteArray × Int × (List (ByteArray × (Int × Bool × Int × Int × ByteArray × Unit) × Unit)) × Unit) × (ByteArray × Int × (List (ByteArray × (Int × Bool × Int × Int × ByteArray × Unit) × Unit)) × Unit) × (ByteArray × Int × (List (ByteArray × (Int × Bool × Int × Int × ByteArray × Unit) × Unit)) × Unit) × Unit)) => (chartularylaw05_tidy.l0 k d.1.2.2.2.1 d.2.1.1 d.2.1.2.1 d.2.1.2.2.1 d.2.2.1.1 d.2.2.1.2.1 d.2.2.1.2.2.1 d.2.2.2.1.1 d.2.2.2.1.2.1 d.2.2.2.1.2.2.1 : Option chartularylaw05_tidy.R)⟩
  | 14 => some ⟨chartularylaw05_tidy.l1s, fun k (d : (Unit × Unit × Unit × Int × Unit × Int × Unit) × ((ByteArray × Int × (List (ByteArray × (Int × Bool × Int × Int × ByteArray × Unit) × Unit)) × Unit) × (ByteArray × Int × (List (ByteArray × (Int × Bool × Int × Int × ByteArray × Unit) × Unit)) × Unit) × (ByteArray × Int × (List (ByteArray × (Int × Bool × Int × Int × ByteArray × Unit) × Unit)) × Unit) × (ByteArray × (Int × Bool × Int × Int × ByteArray × Unit) × Unit) × Unit)) => (chartularylaw05_tidy.l1 k d.1.2.2.2.1 d.1.2.2.2.2.2.1 d.2.1.1 d.2.1.2.1 d.2.1.2.2.1 d.2.2.1.1 d.2.2.1.2.1 d.2.2.1.2.2.1 d.2.2.2.1.1 d.2.2.2.1.2.1 d.2.2.2.1.2.2.1 d.2.2.2.2.1.1 d.2.2.2.2.1.2.1 : Option chartularylaw05_tidy.R)⟩
  | _ => none
noncomputable def chartularylaw05_tidy.fd : FnD := ⟨Try.f15, chartularylaw05_tidy.ini, chartularylaw05_tidy.out, 1, [], [], chartularylaw05_tidy.labF, fun k (d : ((ByteArray × Int × List (ByteArray × (Int × Bool × Int × Int × ByteArray × Unit) × Unit) × Unit) × Unit) × (Unit)) => (chartularylaw05_tidy.f k d.1.1 : Option chartularylaw05_tidy.R)⟩

/-! ### chartularylaw05_word : function 9 -/
abbrev chartularylaw05_word.R := (Bool × Unit) × (Unit)
mutual
noncomputable def chartularylaw05_word.l0 : Nat → ByteArray → Int → Int → Option chartularylaw05_word.R
  | 0, _, _, _ => none
  | k + 1, x0, x1, x5 =>
    bif decide ((x5 : Int) < (x0.size : Int)) then
      (bto x0 x5).bind fun t1 =>
      bif decide ((t1 : Int) ≥ 97) then
        bif decide ((t1 : Int) ≤ 122) then
          chartularylaw05_word.l0 k x0 x1 (IntKind.wrap .i64 (x5 + 1))
        else
        bif decide ((t1 : Int) ≥ 65) then
          bif !(decide ((t1 : Int) ≤ 90)) then
            bif decide ((t1 : Int) ≥ 48) then
              bif !(decide ((t1 : Int) ≤ 57)) then
                bif (t1 : Int) != 45 then
                  bif (t1 : Int) != 95 then
                    bif (t1 : Int) != 46 then
                      some ((false, ()), (()))
                    else
                      chartularylaw05_word.l0 k x0 x1 (IntKind.wrap .i64 (x5 + 1))
                  else
                    chartularylaw05_word.l0 k x0 x1 (IntKind.wrap .i64 (x5 + 1))
                else
                  chartularylaw05_word.l0 k x0 x1 (IntKind.wrap .i64 (x5 + 1))
              else
                chartularylaw05_word.l0 k x0 x1 (IntKind.wrap .i64 (x5 + 1))
            else
            bif (t1 : Int) != 45 then
              bif (t1 : Int) != 95 then
                bif (t1 : Int) != 46 then
                  some ((false, ()), (()))
                else
                  chartularylaw05_word.l0 k x0 x1 (IntKind.wrap .i64 (x5 + 1))
              else
                chartularylaw05_word.l0 k x0 x1 (IntKind.wrap .i64 (x5 + 1))
            else
              chartularylaw05_word.l0 k x0 x1 (IntKind.wrap .i64 (x5 + 1))
          else
            chartularylaw05_word.l0 k x0 x1 (IntKind.wrap .i64 (x5 + 1))
        else
        bif decide ((t1 : Int) ≥ 48) then
          bif !(decide ((t1 : Int) ≤ 57)) then
            bif (t1 : Int) != 45 then
              bif (t1 : Int) != 95 then
                bif (t1 : Int) != 46 then
                  some ((false, ()), (()))
                else
                  chartularylaw05_word.l0 k x0 x1 (IntKind.wrap .i64 (x5 + 1))
              else
                chartularylaw05_word.l0 k x0 x1 (IntKind.wrap .i64 (x5 + 1))
            else
              chartularylaw05_word.l0 k x0 x1 (IntKind.wrap .i64 (x5 + 1))
          else
            chartularylaw05_word.l0 k x0 x1 (IntKind.wrap .i64 (x5 + 1))
        else
        bif (t1 : Int) != 45 then
          bif (t1 : Int) != 95 then
            bif (t1 : Int) != 46 then
              some ((false, ()), (()))
            else
              chartularylaw05_word.l0 k x0 x1 (IntKind.wrap .i64 (x5 + 1))
          else
            chartularylaw05_word.l0 k x0 x1 (IntKind.wrap .i64 (x5 + 1))
        else
          chartularylaw05_word.l0 k x0 x1 (IntKind.wrap .i64 (x5 + 1))
      else
      bif decide ((t1 : Int) ≥ 65) then
        bif !(decide ((t1 : Int) ≤ 90)) then
          bif decide ((t1 : Int) ≥ 48) then
            bif !(decide ((t1 : Int) ≤ 57)) then
              bif (t1 : Int) != 45 then
                bif (t1 : Int) != 95 then
                  bif (t1 : Int) != 46 then
                    some ((false, ()), (()))
                  else
                    chartularylaw05_word.l0 k x0 x1 (IntKind.wrap .i64 (x5 + 1))
                else
                  chartularylaw05_word.l0 k x0 x1 (IntKind.wrap .i64 (x5 + 1))
              else
                chartularylaw05_word.l0 k x0 x1 (IntKind.wrap .i64 (x5 + 1))
            else
              chartularylaw05_word.l0 k x0 x1 (IntKind.wrap .i64 (x5 + 1))
          else
          bif (t1 : Int) != 45 then
            bif (t1 : Int) != 95 then
              bif (t1 : Int) != 46 then
                some ((false, ()), (()))
              else
                chartularylaw05_word.l0 k x0 x1 (IntKind.wrap .i64 (x5 + 1))
            else
              chartularylaw05_word.l0 k x0 x1 (IntKind.wrap .i64 (x5 + 1))
          else
            chartularylaw05_word.l0 k x0 x1 (IntKind.wrap .i64 (x5 + 1))
        else
          chartularylaw05_word.l0 k x0 x1 (IntKind.wrap .i64 (x5 + 1))
      else
      bif decide ((t1 : Int) ≥ 48) then
        bif !(decide ((t1 : Int) ≤ 57)) then
          bif (t1 : Int) != 45 then
            bif (t1 : Int) != 95 then
              bif (t1 : Int) != 46 then
                some ((false, ()), (()))
              else
                chartularylaw05_word.l0 k x0 x1 (IntKind.wrap .i64 (x5 + 1))
            else
              chartularylaw05_word.l0 k x0 x1 (IntKind.wrap .i64 (x5 + 1))
          else
            chartularylaw05_word.l0 k x0 x1 (IntKind.wrap .i64 (x5 + 1))
        else
          chartularylaw05_word.l0 k x0 x1 (IntKind.wrap .i64 (x5 + 1))
      else
      bif (t1 : Int) != 45 then
        bif (t1 : Int) != 95 then
          bif (t1 : Int) != 46 then
            some ((false, ()), (()))
          else
            chartularylaw05_word.l0 k x0 x1 (IntKind.wrap .i64 (x5 + 1))
        else
          chartularylaw05_word.l0 k x0 x1 (IntKind.wrap .i64 (x5 + 1))
      else
        chartularylaw05_word.l0 k x0 x1 (IntKind.wrap .i64 (x5 + 1))
    else
    bif decide (((x0.size : Int) : Int) > 0) then
      some ((decide (((x0.size : Int) : Int) ≤ x1), ()), (()))
    else
      some ((false, ()), (()))
noncomputable def chartularylaw05_word.f : Nat → ByteArray → Int → Option chartularylaw05_word.R
  | 0, _, _ => none
  | k + 1, x0, x1 =>
    chartularylaw05_word.l0 k x0 x1 0
end
abbrev chartularylaw05_word.ini : LSh := ⟨[(0, .val .str), (1, .val (.int .i64))], []⟩
abbrev chartularylaw05_word.out : LSh := ⟨[(0, .val .bool)], []⟩
abbrev chartularylaw05_word.l0s : LSh := ⟨[(0, .val .str), (1, .val (.int .i64)), (5, .val (.int .i64))], []⟩
noncomputable def chartularylaw05_word.labF : Nat → Option (LabF chartularylaw05_word.out.den)
  | 4 => some ⟨chartularylaw05_word.l0s, fun k (d : (ByteArray × Int × Int × Unit) × (Unit)) => (chartularylaw05_word.l0 k d.1.1 d.1.2.1 d.1.2.2.1 : Option chartularylaw05_word.R)⟩
  | _ => none
noncomputable def chartularylaw05_word.fd : FnD := ⟨Try.f9, chartularylaw05_word.ini, chartularylaw05_word.out, 1, [], [], chartularylaw05_word.labF, fun k (d : (ByteArray × Int × Unit) × (Unit)) => (chartularylaw05_word.f k d.1.1 d.1.2.1 : Option chartularylaw05_word.R)⟩

/-! ### chartularylaw05_check : function 17 -/
abbrev chartularylaw05_check.R := (Int × Unit) × (Unit)
mutual
noncomputable def chartularylaw05_check.j0 : Nat → ByteArray → Int → (List (ByteArray × (Int × Bool × Int × Int × ByteArray × Unit) × Unit)) → Option chartularylaw05_check.R
  | 0, _, _, _ => none
  | k + 1, o1_0, o1_1, o1_2 =>
    chartularylaw05_check.l0 k 0 o1_0 o1_1 o1_2
noncomputable def chartularylaw05_check.l0 : Nat → Int → ByteArray → Int → (List (ByteArray × (Int × Bool × Int × Int × ByteArray × Unit) × Unit)) → Option chartularylaw05_check.R
  | 0, _, _, _, _ => none
  | k + 1, x3, o1_0, o1_1, o1_2 =>
    bif decide ((x3 : Int) < (o1_2.length : Int)) then
      (rdo o1_2 x3).bind fun t2 =>
      (chartularylaw05_word.f k t2.1 16).bind fun r3 =>
      bif !r3.1.1 then
        some ((14, ()), (()))
      else
        (rdo o1_2 x3).bind fun t4 =>
        (value_Clean.f k (t4.2.1.1, (t4.2.1.2.1, (t4.2.1.2.2.1, (t4.2.1.2.2.2.1, (t4.2.1.2.2.2.2.1, ())))))).bind fun r5 =>
        (value_Right.f k (r5.1.1.1, (r5.1.1.2.1, (r5.1.1.2.2.1, (r5.1.1.2.2.2.1, (r5.1.1.2.2.2.2.1, ())))))).bind fun r6 =>
        bif !r6.1.1 then
          some ((15, ()), (()))
        else
          chartularylaw05_check.l0 k (IntKind.wrap .i64 (x3 + 1)) o1_0 o1_1 o1_2
    else
      chartularylaw05_check.l1 k 0 o1_0 o1_1 o1_2
noncomputable def chartularylaw05_check.l1 : Nat → Int → ByteArray → Int → (List (ByteArray × (Int × Bool × Int × Int × ByteArray × Unit) × Unit)) → Option chartularylaw05_check.R
  | 0, _, _, _, _ => none
  | k + 1, x4, o1_0, o1_1, o1_2 =>
    bif decide ((x4 : Int) < (o1_2.length : Int)) then
      chartularylaw05_check.l2 k x4 0 o1_0 o1_1 o1_2
    else
      some ((0, ()), (()))
noncomputable def chartularylaw05_check.l2 : Nat → Int → Int → ByteArray → Int → (List (ByteArray × (Int × Bool × Int × Int × ByteArray × Unit) × Unit)) → Option chartularylaw05_check.R
  | 0, _, _, _, _, _ => none
  | k + 1, x4, x5, o1_0, o1_1, o1_2 =>
    bif decide ((x5 : Int) < x4) then
      (rdo o1_2 x4).bind fun t7 =>
      (rdo o1_2 x5).bind fun t8 =>
      bif t7.1.toList == t8.1.toList then
        some ((10, ()), (()))
      else
        chartularylaw05_check.l2 k x4 (IntKind.wrap .i64 (x5 + 1)) o1_0 o1_1 o1_2
    else
      chartularylaw05_check.l1 k (IntKind.wrap .i64 (x4 + 1)) o1_0 o1_1 o1_2
noncomputable def chartularylaw05_check.f : Nat → (ByteArray × Int × List (ByteArray × (Int × Bool × Int × Int × ByteArray × Unit) × Unit) × Unit) → Option chartularylaw05_check.R
  | 0, _ => none
  | k + 1, x0 =>
    (chartularylaw05_word.f k x0.1 24).bind fun r1 =>
    bif !r1.1.1 then
      some ((13, ()), (()))
    else
    bif decide ((x0.2.1 : Int) < 0) then
      some ((16, ()), (()))
    else
    bif decide ((x0.2.1 : Int) > 7) then
      some ((16, ()), (()))
    else
    bif decide (((x0.2.2.1.length : Int) : Int) < 1) then
      some ((5, ()), (()))
    else
    bif decide (((x0.2.2.1.length : Int) : Int) > 12) then
      some ((5, ()), (()))
    else
      chartularylaw05_check.j0 k x0.1 x0.2.1 x0.2.2.1
end
abbrev chartularylaw05_check.ini : LSh := ⟨[(0, .val (.cons .str (.cons (.int .i64) (.cons (.sl (.cons .str (.cons (.cons (.int .i64) (.cons .bool (.cons (.int .i64) (.cons (.int .u64) (.cons .str .nil))))) .nil))) .nil))))], []⟩
abbrev chartularylaw05_check.out : LSh := ⟨[(0, .val (.int .i64))], []⟩
abbrev chartularylaw05_check.j0s : LSh := ⟨[(1, .ptr 1 0)], [(1, 27, [.val .str, .val (.int .i64), .val (.sl (.cons .str (.cons (.cons (.int .i64) (.cons .bool (.cons (.int .i64) (.cons (.int .u64) (.cons .str .nil))))) .nil)))])]⟩
abbrev chartularylaw05_check.l0s : LSh := ⟨[(1, .ptr 1 0), (3, .val (.int .i64))], [(1, 27, [.val .str, .val (.int .i64), .val (.sl (.cons .str (.cons (.cons (.int .i64) (.cons .bool (.cons (.int .i64) (.cons (.int .u64) (.cons .str .nil))))) .nil)))])]⟩
abbrev chartularylaw05_check.l1s : LSh := ⟨[(1, .ptr 1 0), (4, .val (.int .i64))], [(1, 27, [.val .str, .val (.int .i64), .val (.sl (.cons .str (.cons (.cons (.int .i64) (.cons .bool (.cons (.int .i64) (.cons (.int .u64) (.cons .str .nil))))) .nil)))])]⟩
abbrev chartularylaw05_check.l2s : LSh := ⟨[(1, .ptr 1 0), (4, .val (.int .i64)), (5, .val (.int .i64))], [(1, 27, [.val .str, .val (.int .i64), .val (.sl (.cons .str (.cons (.cons (.int .i64) (.cons .bool (.cons (.int .i64) (.cons (.int .u64) (.cons .str .nil))))) .nil)))])]⟩
noncomputable def chartularylaw05_check.labF : Nat → Option (LabF chartularylaw05_check.out.den)
  | 15 => some ⟨chartularylaw05_check.j0s, fun k (d : (Unit × Unit) × ((ByteArray × Int × (List (ByteArray × (Int × Bool × Int × Int × ByteArray × Unit) × Unit)) × Unit) × Unit)) => (chartularylaw05_check.j0 k d.2.1.1 d.2.1.2.1 d.2.1.2.2.1 : Option chartularylaw05_check.R)⟩
  | 16 => some ⟨chartularylaw05_check.l0s, fun k (d : (Unit × Int × Unit) × ((ByteArray × Int × (List (ByteArray × (Int × Bool × Int × Int × ByteArray × Unit) × Unit)) × Unit) × Unit)) => (chartularylaw05_check.l0 k d.1.2.1 d.2.1.1 d.2.1.2.1 d.2.1.2.2.1 : Option chartularylaw05_check.R)⟩
  | 30 => some ⟨chartularylaw05_check.l1s, fun k (d : (Unit × Int × Unit) × ((ByteArray × Int × (List (ByteArray × (Int × Bool × Int × Int × ByteArray × Unit) × Unit)) × Unit) × Unit)) => (chartularylaw05_check.l1 k d.1.2.1 d.2.1.1 d.2.1.2.1 d.2.1.2.2.1 : Option chartularylaw05_check.R)⟩
  | 36 => some ⟨chartularylaw05_check.l2s, fun k (d : (Unit × Int × Int × Unit) × ((ByteArray × Int × (List (ByteArray × (Int × Bool × Int × Int × ByteArray × Unit) × Unit)) × Unit) × Unit)) => (chartularylaw05_check.l2 k d.1.2.1 d.1.2.2.1 d.2.1.1 d.2.1.2.1 d.2.1.2.2.1 : Option chartularylaw05_check.R)⟩
  | _ => none
noncomputable def chartularylaw05_check.fd : FnD := ⟨Try.f17, chartularylaw05_check.ini, chartularylaw05_check.out, 1, [], [], chartularylaw05_check.labF, fun k (d : ((ByteArray × Int × List (ByteArray × (Int × Bool × Int × Int × ByteArray × Unit) × Unit) × Unit) × Unit) × (Unit)) => (chartularylaw05_check.f k d.1.1 : Option chartularylaw05_check.R)⟩

/-! ### chartularylaw05_PaperChecks : function 4 -/
abbrev chartularylaw05_PaperChecks.R := (Bool × Unit) × (Unit)
noncomputable def chartularylaw05_PaperChecks.f : Nat → (ByteArray × Int × List (ByteArray × (Int × Bool × Int × Int × ByteArray × Unit) × Unit) × Unit) → Option chartularylaw05_PaperChecks.R
  | 0, _ => none
  | k + 1, x0 =>
    (chartularylaw05_Few.f k (x0.1, (x0.2.1, (x0.2.2.1, ())))).bind fun r1 =>
    (paper_Tidy.f k (r1.1.1.1, (r1.1.1.2.1, (r1.1.1.2.2.1, ())))).bind fun r2 =>
    (chartularylaw05_tidy.f k (r1.1.1.1, (r1.1.1.2.1, (r1.1.1.2.2.1, ())))).bind fun r3 =>
    (chartularylaw05_same.f k (r2.1.1.1, (r2.1.1.2.1, (r2.1.1.2.2.1, ()))) (r3.1.1.1, (r3.1.1.2.1, (r3.1.1.2.2.1, ())))).bind fun r4 =>
    bif r4.1.1 then
      (paper_Check.f k (r1.1.1.1, (r1.1.1.2.1, (r1.1.1.2.2.1, ())))).bind fun r5 =>
      (chartularylaw05_check.f k (r1.1.1.1, (r1.1.1.2.1, (r1.1.1.2.2.1, ())))).bind fun r6 =>
      bif (r5.1.1 : Int) == r6.1.1 then
        (chartularylaw05_awake.f k).bind fun r7 =>
        some ((r7.1.1, ()), (()))
      else
        some ((false, ()), (()))
    else
      some ((false, ()), (()))
abbrev chartularylaw05_PaperChecks.ini : LSh := ⟨[(0, .val (.cons .str (.cons (.int .i64) (.cons (.sl (.cons .str (.cons (.cons (.int .i64) (.cons .bool (.cons (.int .i64) (.cons (.int .u64) (.cons .str .nil))))) .nil))) .nil))))], []⟩
abbrev chartularylaw05_PaperChecks.out : LSh := ⟨[(0, .val .bool)], []⟩
noncomputable def chartularylaw05_PaperChecks.labF : Nat → Option (LabF chartularylaw05_PaperChecks.out.den)
  | _ => none
noncomputable def chartularylaw05_PaperChecks.fd : FnD := ⟨Try.f4, chartularylaw05_PaperChecks.ini, chartularylaw05_PaperChecks.out, 1, [], [], chartularylaw05_PaperChecks.labF, fun k (d : ((ByteArray × Int × List (ByteArray × (Int × Bool × Int × Int × ByteArray × Unit) × Unit) × Unit) × Unit) × (Unit)) => (chartularylaw05_PaperChecks.f k d.1.1 : Option chartularylaw05_PaperChecks.R)⟩

/-! ### paper_Find_1_v0 : function 29 -/
abbrev paper_Find_1_v0.R := (Bool × Unit) × (Unit)
noncomputable def paper_Find_1_v0.f : Nat → (ByteArray × (Int × Bool × Int × Int × ByteArray × Unit) × Unit) → ByteArray → Option paper_Find_1_v0.R
  | 0, _, _ => none
  | k + 1, x0, o0_0 =>
    some ((x0.1.toList == o0_0.toList, ()), (()))
abbrev paper_Find_1_v0.ini : LSh := ⟨[(0, .val (.cons .str (.cons (.cons (.int .i64) (.cons .bool (.cons (.int .i64) (.cons (.int .u64) (.cons .str .nil))))) .nil))), (1, .ptr 1000000 0)], [(1000000, 9, [.val .str])]⟩
abbrev paper_Find_1_v0.out : LSh := ⟨[(0, .val .bool)], []⟩
noncomputable def paper_Find_1_v0.labF : Nat → Option (LabF paper_Find_1_v0.out.den)
  | _ => none
noncomputable def paper_Find_1_v0.fd : FnD := ⟨Try.f29, paper_Find_1_v0.ini, paper_Find_1_v0.out, 1, [1000000], [1000000], paper_Find_1_v0.labF, fun k (d : ((ByteArray × (Int × Bool × Int × Int × ByteArray × Unit) × Unit) × Unit × Unit) × ((ByteArray × Unit) × Unit)) => (paper_Find_1_v0.f k d.1.1 d.2.1.1 : Option paper_Find_1_v0.R)⟩

/-! ### slices_IndexFunc_api_Field_v0 : function 28 -/
abbrev slices_IndexFunc_api_Field_v0.R := (Int × Unit) × (Unit)
mutual
noncomputable def slices_IndexFunc_api_Field_v0.l0 : Nat → (List (ByteArray × (Int × Bool × Int × Int × ByteArray × Unit) × Unit)) → Int → Int → ByteArray → Option slices_IndexFunc_api_Field_v0.R
  | 0, _, _, _, _ => none
  | k + 1, x0, x7, x8, o0_0 =>
    bif decide ((x8 : Int) < x7) then
      (rdo x0 x8).bind fun t1 =>
      (paper_Find_1_v0.f k (t1.1, ((t1.2.1.1, (t1.2.1.2.1, (t1.2.1.2.2.1, (t1.2.1.2.2.2.1, (t1.2.1.2.2.2.2.1, ()))))), ())) o0_0).bind fun r2 =>
      bif r2.1.1 then
        some ((x8, ()), (()))
      else
        slices_IndexFunc_api_Field_v0.l0 k x0 x7 (IntKind.wrap .i64 (x8 + 1)) o0_0
    else
      some (((-1), ()), (()))
noncomputable def slices_IndexFunc_api_Field_v0.f : Nat → (List (ByteArray × (Int × Bool × Int × Int × ByteArray × Unit) × Unit)) → ByteArray → Option slices_IndexFunc_api_Field_v0.R
  | 0, _, _ => none
  | k + 1, x0, o0_0 =>
    slices_IndexFunc_api_Field_v0.l0 k x0 (x0.length : Int) 0 o0_0
end
abbrev slices_IndexFunc_api_Field_v0.ini : LSh := ⟨[(0, .val (.sl (.cons .str (.cons (.cons (.int .i64) (.cons .bool (.cons (.int .i64) (.cons (.int .u64) (.cons .str .nil))))) .nil)))), (1, .clo 29 [(1000000, 0)])], [(1000000, 9, [.val .str])]⟩
abbrev slices_IndexFunc_api_Field_v0.out : LSh := ⟨[(0, .val (.int .i64))], []⟩
abbrev slices_IndexFunc_api_Field_v0.l0s : LSh := ⟨[(0, .val (.sl (.cons .str (.cons (.cons (.int .i64) (.cons .bool (.cons (.int .i64) (.cons (.int .u64) (.cons .str .nil))))) .nil)))), (1, .clo 29 [(1000000, 0)]), (7, .val (.int .i64)), (8, .val (.int .i64))], [(1000000, 9, [.val .str])]⟩
noncomputable def slices_IndexFunc_api_Field_v0.labF : Nat → Option (LabF slices_IndexFunc_api_Field_v0.out.den)
  | 4 => some ⟨slices_IndexFunc_api_Field_v0.l0s, fun k (d : ((List (ByteArray × (Int × Bool × Int × Int × ByteArray × Unit) × Unit)) × Unit × Int × Int × Unit) × ((ByteArray × Unit) × Unit)) => (slices_IndexFunc_api_Field_v0.l0 k d.1.1 d.1.2.2.1 d.1.2.2.2.1 d.2.1.1 : Option slices_IndexFunc_api_Field_v0.R)⟩
  | _ => none
noncomputable def slices_IndexFunc_api_Field_v0.fd : FnD := ⟨Try.f28, slices_IndexFunc_api_Field_v0.ini, slices_IndexFunc_api_Field_v0.out, 1, [1000000], [1000000], slices_IndexFunc_api_Field_v0.labF, fun k (d : ((List (ByteArray × (Int × Bool × Int × Int × ByteArray × Unit) × Unit)) × Unit × Unit) × ((ByteArray × Unit) × Unit)) => (slices_IndexFunc_api_Field_v0.f k d.1.1 d.2.1.1 : Option slices_IndexFunc_api_Field_v0.R)⟩

/-! ### paper_Find : function 18 -/
abbrev paper_Find.R := (Int × Unit) × (Unit)
noncomputable def paper_Find.f : Nat → (ByteArray × Int × List (ByteArray × (Int × Bool × Int × Int × ByteArray × Unit) × Unit) × Unit) → ByteArray → Option paper_Find.R
  | 0, _, _ => none
  | k + 1, x0, x1 =>
    (slices_IndexFunc_api_Field_v0.f k x0.2.2.1 x1).bind fun r1 =>
    some ((r1.1.1, ()), (()))
abbrev paper_Find.ini : LSh := ⟨[(0, .val (.cons .str (.cons (.int .i64) (.cons (.sl (.cons .str (.cons (.cons (.int .i64) (.cons .bool (.cons (.int .i64) (.cons (.int .u64) (.cons .str .nil))))) .nil))) .nil)))), (1, .val .str)], []⟩
abbrev paper_Find.out : LSh := ⟨[(0, .val (.int .i64))], []⟩
noncomputable def paper_Find.labF : Nat → Option (LabF paper_Find.out.den)
  | _ => none
noncomputable def paper_Find.fd : FnD := ⟨Try.f18, paper_Find.ini, paper_Find.out, 1, [], [], paper_Find.labF, fun k (d : ((ByteArray × Int × List (ByteArray × (Int × Bool × Int × Int × ByteArray × Unit) × Unit) × Unit) × ByteArray × Unit) × (Unit)) => (paper_Find.f k d.1.1 d.1.2.1 : Option paper_Find.R)⟩

/-! ### slices_Equal_api_Field : function 30 -/
abbrev slices_Equal_api_Field.R := (Bool × Unit) × (Unit)
mutual
noncomputable def slices_Equal_api_Field.l0 : Nat → (List (ByteArray × (Int × Bool × Int × Int × ByteArray × Unit) × Unit)) → (List (ByteArray × (Int × Bool × Int × Int × ByteArray × Unit) × Unit)) → Int → Int → Option slices_Equal_api_Field.R
  | 0, _, _, _, _ => none
  | k + 1, x0, x1, x12, x13 =>
    bif decide ((x13 : Int) < x12) then
      (rdo x0 x13).bind fun t1 =>
      (rdo x1 x13).bind fun t2 =>
      bif !((seqB t1.1 t2.1 && ((t1.2.1.1 : Int) == t2.2.1.1 && (t1.2.1.2.1 == t2.2.1.2.1 && ((t1.2.1.2.2.1 : Int) == t2.2.1.2.2.1 && ((t1.2.1.2.2.2.1 : Int) == t2.2.1.2.2.2.1 && (seqB t1.2.1.2.2.2.2.1 t2.2.1.2.2.2.2.1 && true))))))) then
        some ((false, ()), (()))
      else
        slices_Equal_api_Field.l0 k x0 x1 x12 (IntKind.wrap .i64 (x13 + 1))
    else
      some ((true, ()), (()))
noncomputable def slices_Equal_api_Field.f : Nat → (List (ByteArray × (Int × Bool × Int × Int × ByteArray × Unit) × Unit)) → (List (ByteArray × (Int × Bool × Int × Int × ByteArray × Unit) × Unit)) → Option slices_Equal_api_Field.R
  | 0, _, _ => none
  | k + 1, x0, x1 =>
    bif ((x0.length : Int) : Int) != (x1.length : Int) then
      some ((false, ()), (()))
    else
      slices_Equal_api_Field.l0 k x0 x1 (x0.length : Int) 0
end
abbrev slices_Equal_api_Field.ini : LSh := ⟨[(0, .val (.sl (.cons .str (.cons (.cons (.int .i64) (.cons .bool (.cons (.int .i64) (.cons (.int .u64) (.cons .str .nil))))) .nil)))), (1, .val (.sl (.cons .str (.cons (.cons (.int .i64) (.cons .bool (.cons (.int .i64) (.cons (.int .u64) (.cons .str .nil))))) .nil))))], []⟩
abbrev slices_Equal_api_Field.out : LSh := ⟨[(0, .val .bool)], []⟩
abbrev slices_Equal_api_Field.l0s : LSh := ⟨[(0, .val (.sl (.cons .str (.cons (.cons (.int .i64) (.cons .bool (.cons (.int .i64) (.cons (.int .u64) (.cons .str .nil))))) .nil)))), (1, .val (.sl (.cons .str (.cons (.cons (.int .i64) (.cons .bool (.cons (.int .i64) (.cons (.int .u64) (.cons .str .nil))))) .nil)))), (12, .val (.int .i64)), (13, .val (.int .i64))], []⟩
noncomputable def slices_Equal_api_Field.labF : Nat → Option (LabF slices_Equal_api_Field.out.den)
  | 8 => some ⟨slices_Equal_api_Field.l0s, fun k (d : ((List (ByteArray × (Int × Bool × Int × Int × ByteArray × Unit) × Unit)) × (List (ByteArray × (Int × Bool × Int × Int × ByteArray × Unit) × Unit)) × Int × Int × Unit) × (Unit)) => (slices_Equal_api_Field.l0 k d.1.1 d.1.2.1 d.1.2.2.1 d.1.2.2.2.1 : Option slices_Equal_api_Field.R)⟩
  | _ => none
noncomputable def slices_Equal_api_Field.fd : FnD := ⟨Try.f30, slices_Equal_api_Field.ini, slices_Equal_api_Field.out, 1, [], [], slices_Equal_api_Field.labF, fun k (d : ((List (ByteArray × (Int × Bool × Int × Int × ByteArray × Unit) × Unit)) × (List (ByteArray × (Int × Bool × Int × Int × ByteArray × Unit) × Unit)) × Unit) × (Unit)) => (slices_Equal_api_Field.f k d.1.1 d.1.2.1 : Option slices_Equal_api_Field.R)⟩

/-! ### paper_Same : function 19 -/
abbrev paper_Same.R := (Bool × Unit) × (Unit)
noncomputable def paper_Same.f : Nat → (ByteArray × Int × List (ByteArray × (Int × Bool × Int × Int × ByteArray × Unit) × Unit) × Unit) → (ByteArray × Int × List (ByteArray × (Int × Bool × Int × Int × ByteArray × Unit) × Unit) × Unit) → Option paper_Same.R
  | 0, _, _ => none
  | k + 1, x0, x1 =>
    (paper_Tidy.f k (x0.1, (x0.2.1, (x0.2.2.1, ())))).bind fun r1 =>
    (paper_Tidy.f k (x1.1, (x1.2.1, (x1.2.2.1, ())))).bind fun r2 =>
    bif r1.1.1.1.toList == r2.1.1.1.toList then
      bif (r1.1.1.2.1 : Int) == r2.1.1.2.1 then
        (slices_Equal_api_Field.f k r1.1.1.2.2.1 r2.1.1.2.2.1).bind fun r3 =>
        some ((r3.1.1, ()), (()))
      else
        some ((false, ()), (()))
    else
      some ((false, ()), (()))
abbrev paper_Same.ini : LSh := ⟨[(0, .val (.cons .str (.cons (.int .i64) (.cons (.sl (.cons .str (.cons (.cons (.int .i64) (.cons .bool (.cons (.int .i64) (.cons (.int .u64) (.cons .str .nil))))) .nil))) .nil)))), (1, .val (.cons .str (.cons (.int .i64) (.cons (.sl (.cons .str (.cons (.cons (.int .i64) (.cons .bool (.cons (.int .i64) (.cons (.int .u64) (.cons .str .nil))))) .nil))) .nil))))], []⟩
abbrev paper_Same.out : LSh := ⟨[(0, .val .bool)], []⟩
noncomputable def paper_Same.labF : Nat → Option (LabF paper_Same.out.den)
  | _ => none
noncomputable def paper_Same.fd : FnD := ⟨Try.f19, paper_Same.ini, paper_Same.out, 1, [], [], paper_Same.labF, fun k (d : ((ByteArray × Int × List (ByteArray × (Int × Bool × Int × Int × ByteArray × Unit) × Unit) × Unit) × (ByteArray × Int × List (ByteArray × (Int × Bool × Int × Int × ByteArray × Unit) × Unit) × Unit) × Unit) × (Unit)) => (paper_Same.f k d.1.1 d.1.2.1 : Option paper_Same.R)⟩

/-! ### chartularylaw05_PaperSames : function 5 -/
abbrev chartularylaw05_PaperSames.R := (Bool × Unit) × (Unit)
mutual
noncomputable def chartularylaw05_PaperSames.l0 : Nat → ByteArray → Int → Int → ByteArray → Int → (List (ByteArray × (Int × Bool × Int × Int × ByteArray × Unit) × Unit)) → ByteArray → Int → (List (ByteArray × (Int × Bool × Int × Int × ByteArray × Unit) × Unit)) → Option chartularylaw05_PaperSames.R
  | 0, _, _, _, _, _, _, _, _, _ => none
  | k + 1, x2, x7, x8, o3_0, o3_1, o3_2, o4_0, o4_1, o4_2 =>
    bif decide ((x8 : Int) ≥ 0) then
      (rdo o3_2 x8).bind fun t3 =>
      bif t3.1.toList == x2.toList then
        chartularylaw05_PaperSames.l0 k x2 x8 (IntKind.wrap .i64 (x8 - 1)) o3_0 o3_1 o3_2 o4_0 o4_1 o4_2
      else
        chartularylaw05_PaperSames.l0 k x2 x7 (IntKind.wrap .i64 (x8 - 1)) o3_0 o3_1 o3_2 o4_0 o4_1 o4_2
    else
      (chartularylaw05_tidy.f k (o3_0, (o3_1, (o3_2, ())))).bind fun r4 =>
      (chartularylaw05_tidy.f k (o4_0, (o4_1, (o4_2, ())))).bind fun r5 =>
      (chartularylaw05_same.f k (r4.1.1.1, (r4.1.1.2.1, (r4.1.1.2.2.1, ()))) (r5.1.1.1, (r5.1.1.2.1, (r5.1.1.2.2.1, ())))).bind fun r6 =>
      (paper_Find.f k (o3_0, (o3_1, (o3_2, ()))) x2).bind fun r7 =>
      bif (r7.1.1 : Int) != x7 then
        some ((false, ()), (()))
      else
        (paper_Same.f k (o3_0, (o3_1, (o3_2, ()))) (o4_0, (o4_1, (o4_2, ())))).bind fun r8 =>
        bif !(r8.1.1 == r6.1.1) then
          some ((false, ()), (()))
        else
          chartularylaw05_PaperSames.j0 k r6.1.1 o3_0 o3_1 o3_2 o4_0 o4_1 o4_2
noncomputable def chartularylaw05_PaperSames.j0 : Nat → Bool → ByteArray → Int → (List (ByteArray × (Int × Bool × Int × Int × ByteArray × Unit) × Unit)) → ByteArray → Int → (List (ByteArray × (Int × Bool × Int × Int × ByteArray × Unit) × Unit)) → Option chartularylaw05_PaperSames.R
  | 0, _, _, _, _, _, _, _ => none
  | k + 1, x9, o3_0, o3_1, o3_2, o4_0, o4_1, o4_2 =>
    (paper_Bytes.f k (o3_0, (o3_1, (o3_2, ())))).bind fun r9 =>
    (paper_Bytes.f k (o4_0, (o4_1, (o4_2, ())))).bind fun r10 =>
    bif (r9.1.2.1 : Int) != 0 then
      (chartularylaw05_awake.f k).bind fun r11 =>
      some ((r11.1.1, ()), (()))
    else
    bif (r10.1.2.1 : Int) != 0 then
      (chartularylaw05_awake.f k).bind fun r12 =>
      some ((r12.1.1, ()), (()))
    else
    bif (r9.1.1.toList == r10.1.1.toList) == x9 then
      (chartularylaw05_awake.f k).bind fun r13 =>
      some ((r13.1.1, ()), (()))
    else
      some ((false, ()), (()))
noncomputable def chartularylaw05_PaperSames.f : Nat → (ByteArray × Int × List (ByteArray × (Int × Bool × Int × Int × ByteArray × Unit) × Unit) × Unit) → (ByteArray × Int × List (ByteArray × (Int × Bool × Int × Int × ByteArray × Unit) × Unit) × Unit) → ByteArray → Option chartularylaw05_PaperSames.R
  | 0, _, _, _ => none
  | k + 1, x0, x1, x2 =>
    (chartularylaw05_Few.f k (x0.1, (x0.2.1, (x0.2.2.1, ())))).bind fun r1 =>
    (chartularylaw05_Few.f k (x1.1, (x1.2.1, (x1.2.2.1, ())))).bind fun r2 =>
    chartularylaw05_PaperSames.l0 k x2 (-1) (IntKind.wrap .i64 ((r1.1.1.2.2.1.length : Int) - 1)) r1.1.1.1 r1.1.1.2.1 r1.1.1.2.2.1 r2.1.1.1 r2.1.1.2.1 r2.1.1.2.2.1
end
abbrev chartularylaw05_PaperSames.ini : LSh := ⟨[(0, .val (.cons .str (.cons (.int .i64) (.cons (.sl (.cons .str (.cons (.cons (.int .i64) (.cons .bool (.cons (.int .i64) (.cons (.int .u64) (.cons .str .nil))))) .nil))) .nil)))), (1, .val (.cons .str (.cons (.int .i64) (.cons (.sl (.cons .str (.cons (.cons (.int .i64) (.cons .bool (.cons (.int .i64) (.cons (.int .u64) (.cons .str .nil))))) .nil))) .nil)))), (2, .val .str)], []⟩
abbrev chartularylaw05_PaperSames.out : LSh := ⟨[(0, .val .bool)], []⟩
abbrev chartularylaw05_PaperSames.l0s : LSh := ⟨[(2, .val .str), (3, .ptr 3 0), (4, .ptr 4 0), (7, .val (.int .i64)), (8, .val (.int .i64))], [(3, 27, [.val .str, .val (.int .i64), .val (.sl (.cons .str (.cons (.cons (.int .i64) (.cons .bool (.cons (.int .i64) (.cons (.int .u64) (.cons .str .nil))))) .nil)))]), (4, 27, [.val .str, .val (.int .i64), .val (.sl (.cons .str (.cons (.cons (.int .i64) (.cons .bool (.cons (.int .i64) (.cons (.int .u64) (.cons .str .nil))))) .nil)))])]⟩
abbrev chartularylaw05_PaperSames.j0s : LSh := ⟨[(3, .ptr 3 0), (4, .ptr 4 0), (9, .val .bool)], [(3, 27, [.val .str, .val (.int .i64), .val (.sl (.cons .str (.cons (.cons (.int .i64) (.cons .bool (.cons (.int .i64) (.cons (.int .u64) (.cons .str .nil))))) .nil)))]), (4, 27, [.val .str, .val (.int .i64), .val (.sl (.cons .str (.cons (.cons (.int .i64) (.cons .bool (.cons (.int .i64) (.cons (.int .u64) (.cons .str .nil))))) .nil)))])]⟩
noncomputable def chartularylaw05_PaperSames.labF : Nat → Option (LabF chartularylaw05_PaperSames.out.den)
  | 10 => some ⟨chartularylaw05_PaperSames.l0s, fun k (d : (ByteArray × Unit × Unit × Int × Int × Unit) × ((ByteArray × Int × (List (ByteArray × (Int × Bool × Int × Int × ByteArray × Unit) × Unit)) × Unit) × (ByteArray × Int × (List (ByteArray × (Int × Bool × Int × Int × ByteArray × Unit) × Unit)) × Unit) × Unit)) => (chartularylaw05_PaperSames.l0 k d.1.1 d.1.2.2.2.1 d.1.2.2.2.2.1 d.2.1.1 d.2.1.2.1 d.2.1.2.2.1 d.2.2.1.1 d.2.2.1.2.1 d.2.2.1.2.2.1 : Option chartularylaw05_PaperSames.R)⟩
  | 25 => some ⟨chartularylaw05_PaperSames.j0s, fun k (d : (Unit × Unit × Bool × Unit) × ((ByteArray × Int × (List (ByteArray × (Int × Bool × Int × Int × ByteArray × Unit) × Unit)) × Unit) × (ByteArray × Int × (List (ByteArray × (Int × Bool × Int × Int × ByteArray × Unit) × Unit)) × Unit) × Unit)) => (chartularylaw05_PaperSames.j0 k d.1.2.2.1 d.2.1.1 d.2.1.2.1 d.2.1.2.2.1 d.2.2.1.1 d.2.2.1.2.1 d.2.2.1.2.2.1 : Option chartularylaw05_PaperSames.R)⟩
  | _ => none
noncomputable def chartularylaw05_PaperSames.fd : FnD := ⟨Try.f5, chartularylaw05_PaperSames.ini, chartularylaw05_PaperSames.out, 1, [], [], chartularylaw05_PaperSames.labF, fun k (d : ((ByteArray × Int × List (ByteArray × (Int × Bool × Int × Int × ByteArray × Unit) × Unit) × Unit) × (ByteArray × Int × List (ByteArray × (Int × Bool × Int × Int × ByteArray × Unit) × Unit) × Unit) × ByteArray × Unit) × (Unit)) => (chartularylaw05_PaperSames.f k d.1.1 d.1.2.1 d.1.2.2.1 : Option chartularylaw05_PaperSames.R)⟩

/-! ### octet_Read : function 35 -/
abbrev octet_Read.R := (Unit × Unit) × ((ByteArray × Int × Int × Unit) × Unit)
noncomputable def octet_Read.f : Nat → ByteArray → Option octet_Read.R
  | 0, _ => none
  | k + 1, x0 =>
    some (((), ()), ((x0, 0, 0, ()), ()))
abbrev octet_Read.ini : LSh := ⟨[(0, .val .str)], []⟩
abbrev octet_Read.out : LSh := ⟨[(0, .ptr 4000000 0)], [(4000000, 76, [.val .str, .val (.int .i64), .val (.int .i64)])]⟩
noncomputable def octet_Read.labF : Nat → Option (LabF octet_Read.out.den)
  | _ => none
noncomputable def octet_Read.fd : FnD := ⟨Try.f35, octet_Read.ini, octet_Read.out, 1, [], [], octet_Read.labF, fun k (d : (ByteArray × Unit) × (Unit)) => (octet_Read.f k d.1.1 : Option octet_Read.R)⟩

/-! ### octet_Reader_Err : function 38 -/
abbrev octet_Reader_Err.R := (Int × Unit) × (Unit)
noncomputable def octet_Reader_Err.f : Nat → ByteArray → Int → Int → Option octet_Reader_Err.R
  | 0, _, _, _ => none
  | k + 1, o0_0, o0_1, o0_2 =>
    some ((o0_2, ()), (()))
abbrev octet_Reader_Err.ini : LSh := ⟨[(0, .ptr 1000000 0)], [(1000000, 76, [.val .str, .val (.int .i64), .val (.int .i64)])]⟩
abbrev octet_Reader_Err.out : LSh := ⟨[(0, .val (.int .i64))], []⟩
noncomputable def octet_Reader_Err.labF : Nat → Option (LabF octet_Reader_Err.out.den)
  | _ => none
noncomputable def octet_Reader_Err.fd : FnD := ⟨Try.f38, octet_Reader_Err.ini, octet_Reader_Err.out, 1, [1000000], [1000000], octet_Reader_Err.labF, fun k (d : (Unit × Unit) × ((ByteArray × Int × Int × Unit) × Unit)) => (octet_Reader_Err.f k d.2.1.1 d.2.1.2.1 d.2.1.2.2.1 : Option octet_Reader_Err.R)⟩

/-! ### octet_Reader_Fail : function 40 -/
abbrev octet_Reader_Fail.R := (Unit) × ((ByteArray × Int × Int × Unit) × Unit)
noncomputable def octet_Reader_Fail.f : Nat → Int → ByteArray → Int → Int → Option octet_Reader_Fail.R
  | 0, _, _, _, _ => none
  | k + 1, x1, o0_0, o0_1, o0_2 =>
    bif (o0_2 : Int) == 0 then
      some ((()), ((o0_0, o0_1, x1, ()), ()))
    else
      some ((()), ((o0_0, o0_1, o0_2, ()), ()))
abbrev octet_Reader_Fail.ini : LSh := ⟨[(0, .ptr 1000000 0), (1, .val (.int .i64))], [(1000000, 76, [.val .str, .val (.int .i64), .val (.int .i64)])]⟩
abbrev octet_Reader_Fail.out : LSh := ⟨[], [(1000000, 76, [.val .str, .val (.int .i64), .val (.int .i64)])]⟩
noncomputable def octet_Reader_Fail.labF : Nat → Option (LabF octet_Reader_Fail.out.den)
  | _ => none
noncomputable def octet_Reader_Fail.fd : FnD := ⟨Try.f40, octet_Reader_Fail.ini, octet_Reader_Fail.out, 0, [1000000], [], octet_Reader_Fail.labF, fun k (d : (Unit × Int × Unit) × ((ByteArray × Int × Int × Unit) × Unit)) => (octet_Reader_Fail.f k d.1.2.1 d.2.1.1 d.2.1.2.1 d.2.1.2.2.1 : Option octet_Reader_Fail.R)⟩

/-! ### octet_Reader_Raw : function 51 -/
abbrev octet_Reader_Raw.R := (ByteArray × Unit) × ((ByteArray × Int × Int × Unit) × Unit)
noncomputable def octet_Reader_Raw.f : Nat → Int → ByteArray → Int → Int → Option octet_Reader_Raw.R
  | 0, _, _, _, _ => none
  | k + 1, x1, o0_0, o0_1, o0_2 =>
    (octet_Reader_Err.f k o0_0 o0_1 o0_2).bind fun r1 =>
    bif (r1.1.1 : Int) != 0 then
      some (((⟨#[]⟩ : ByteArray), ()), ((o0_0, o0_1, o0_2, ()), ()))
    else
    bif decide ((x1 : Int) < 0) then
      (octet_Reader_Fail.f k 1 o0_0 o0_1 o0_2).bind fun r2 =>
      some (((⟨#[]⟩ : ByteArray), ()), ((r2.2.1.1, r2.2.1.2.1, r2.2.1.2.2.1, ()), ()))
    else
    bif decide ((x1 : Int) > IntKind.wrap .i64 ((o0_0.size : Int) - o0_1)) then
      (octet_Reader_Fail.f k 2 o0_0 o0_1 o0_2).bind fun r3 =>
      some (((⟨#[]⟩ : ByteArray), ()), ((r3.2.1.1, r3.2.1.2.1, r3.2.1.2.2.1, ()), ()))
    else
      (ck (decide (0 ≤ IntKind.wrap .i64 ((IntKind.wrap .i64 (o0_1 + x1)) - x1)) && decide (IntKind.wrap .i64 ((IntKind.wrap .i64 (o0_1 + x1)) - x1) ≤ IntKind.wrap .i64 (o0_1 + x1)) && decide (IntKind.wrap .i64 (o0_1 + x1) ≤ (o0_0.size : Int)))).bind fun _ =>
      some ((o0_0.extract (IntKind.wrap .i64 ((IntKind.wrap .i64 (o0_1 + x1)) - x1) : Int).toNat (IntKind.wrap .i64 (o0_1 + x1) : Int).toNat, ()), ((o0_0, IntKind.wrap .i64 (o0_1 + x1), o0_2, ()), ()))
abbrev octet_Reader_Raw.ini : LSh := ⟨[(0, .ptr 1000000 0), (1, .val (.int .i64))], [(1000000, 76, [.val .str, .val (.int .i64), .val (.int .i64)])]⟩
abbrev octet_Reader_Raw.out : LSh := ⟨[(0, .val .str)], [(1000000, 76, [.val .str, .val (.int .i64), .val (.int .i64)])]⟩
noncomputable def octet_Reader_Raw.labF : Nat → Option (LabF octet_Reader_Raw.out.den)
  | _ => none
noncomputable def octet_Reader_Raw.fd : FnD := ⟨Try.f51, octet_Reader_Raw.ini, octet_Reader_Raw.out, 1, [1000000], [], octet_Reader_Raw.labF, fun k (d : (Unit × Int × Unit) × ((ByteArray × Int × Int × Unit) × Unit)) => (octet_Reader_Raw.f k d.1.2.1 d.2.1.1 d.2.1.2.1 d.2.1.2.2.1 : Option octet_Reader_Raw.R)⟩

/-! ### octet_Reader_Num : function 37 -/
abbrev octet_Reader_Num.R := (Int × Unit) × ((ByteArray × Int × Int × Unit) × Unit)
mutual
noncomputable def octet_Reader_Num.l0 : Nat → Int → Int → (List Int) → Int → Int → ByteArray → Int → Int → Option octet_Reader_Num.R
  | 0, _, _, _, _, _, _, _, _ => none
  | k + 1, x1, x7, x24, x25, x26, o0_0, o0_1, o0_2 =>
    bif decide ((x26 : Int) < x25) then
      (rdo x24 x26).bind fun t5 =>
      bif (x26 : Int) == 0 then
        bif (t5 : Int) == 0 then
          (octet_Reader_Fail.f k 4 o0_0 o0_1 o0_2).bind fun r6 =>
          some ((0, ()), ((r6.2.1.1, r6.2.1.2.1, r6.2.1.2.2.1, ()), ()))
        else
          (ck (!decide ((8 : Int) < 0))).bind fun _ =>
          octet_Reader_Num.l0 k x1 (IntKind.wrap .i64 ((BitVec.ofInt (IntKind.bits .i64) (IntKind.wrap .i64 (x7 * 2 ^ (min (8 : Int).toNat (IntKind.bits .i64)))) ||| BitVec.ofInt (IntKind.bits .i64) (IntKind.wrap .i64 t5)).toNat : Int)) x24 x25 (IntKind.wrap .i64 (x26 + 1)) o0_0 o0_1 o0_2
      else
        (ck (!decide ((8 : Int) < 0))).bind fun _ =>
        octet_Reader_Num.l0 k x1 (IntKind.wrap .i64 ((BitVec.ofInt (IntKind.bits .i64) (IntKind.wrap .i64 (x7 * 2 ^ (min (8 : Int).toNat (IntKind.bits .i64)))) ||| BitVec.ofInt (IntKind.bits .i64) (IntKind.wrap .i64 t5)).toNat : Int)) x24 x25 (IntKind.wrap .i64 (x26 + 1)) o0_0 o0_1 o0_2
    else
      (octet_Reader_Err.f k o0_0 o0_1 o0_2).bind fun r7 =>
      bif (r7.1.1 : Int) != 0 then
        some ((0, ()), ((o0_0, o0_1, o0_2, ()), ()))
      else
      bif decide ((x7 : Int) > x1) then
        (octet_Reader_Fail.f k 3 o0_0 o0_1 o0_2).bind fun r8 =>
        some ((0, ()), ((r8.2.1.1, r8.2.1.2.1, r8.2.1.2.2.1, ()), ()))
      else
        some ((x7, ()), ((o0_0, o0_1, o0_2, ()), ()))
noncomputable def octet_Reader_Num.f : Nat → Int → ByteArray → Int → Int → Option octet_Reader_Num.R
  | 0, _, _, _, _ => none
  | k + 1, x1, o0_0, o0_1, o0_2 =>
    (octet_Reader_Raw.f k 1 o0_0 o0_1 o0_2).bind fun r1 =>
    bif r1.1.1.toList == (⟨#[]⟩ : ByteArray).toList then
      some ((0, ()), ((r1.2.1.1, r1.2.1.2.1, r1.2.1.2.2.1, ()), ()))
    else
      (bto r1.1.1 0).bind fun t2 =>
      bif decide ((IntKind.wrap .i64 t2 : Int) > 7) then
        (octet_Reader_Fail.f k 4 r1.2.1.1 r1.2.1.2.1 r1.2.1.2.2.1).bind fun r3 =>
        some ((0, ()), ((r3.2.1.1, r3.2.1.2.1, r3.2.1.2.2.1, ()), ()))
      else
        (octet_Reader_Raw.f k (IntKind.wrap .i64 t2) r1.2.1.1 r1.2.1.2.1 r1.2.1.2.2.1).bind fun r4 =>
        octet_Reader_Num.l0 k x1 0 (bytesOf r4.1.1) ((bytesOf r4.1.1).length : Int) 0 r4.2.1.1 r4.2.1.2.1 r4.2.1.2.2.1
end
abbrev octet_Reader_Num.ini : LSh := ⟨[(0, .ptr 1000000 0), (1, .val (.int .i64))], [(1000000, 76, [.val .str, .val (.int .i64), .val (.int .i64)])]⟩
abbrev octet_Reader_Num.out : LSh := ⟨[(0, .val (.int .i64))], [(1000000, 76, [.val .str, .val (.int .i64), .val (.int .i64)])]⟩
abbrev octet_Reader_Num.l0s : LSh := ⟨[(0, .ptr 1000000 0), (1, .val (.int .i64)), (7, .val (.int .i64)), (24, .own 2000024 5 (.int .u8)), (25, .val (.int .i64)), (26, .val (.int .i64))], [(1000000, 76, [.val .str, .val (.int .i64), .val (.int .i64)])]⟩
noncomputable def octet_Reader_Num.labF : Nat → Option (LabF octet_Reader_Num.out.den)
  | 20 => some ⟨octet_Reader_Num.l0s, fun k (d : (Unit × Int × Int × List Int × Int × Int × Unit) × ((ByteArray × Int × Int × Unit) × Unit)) => (octet_Reader_Num.l0 k d.1.2.1 d.1.2.2.1 d.1.2.2.2.1 d.1.2.2.2.2.1 d.1.2.2.2.2.2.1 d.2.1.1 d.2.1.2.1 d.2.1.2.2.1 : Option octet_Reader_Num.R)⟩
  | _ => none
noncomputable def octet_Reader_Num.fd : FnD := ⟨Try.f37, octet_Reader_Num.ini, octet_Reader_Num.out, 1, [1000000], [], octet_Reader_Num.labF, fun k (d : (Unit × Int × Unit) × ((ByteArray × Int × Int × Unit) × Unit)) => (octet_Reader_Num.f k d.1.2.1 d.2.1.1 d.2.1.2.1 d.2.1.2.2.1 : Option octet_Reader_Num.R)⟩

/-! ### octet_Reader_Text : function 36 -/
abbrev octet_Reader_Text.R := (ByteArray × Unit) × ((ByteArray × Int × Int × Unit) × Unit)
noncomputable def octet_Reader_Text.f : Nat → Int → ByteArray → Int → Int → Option octet_Reader_Text.R
  | 0, _, _, _, _ => none
  | k + 1, x1, o0_0, o0_1, o0_2 =>
    (octet_Reader_Num.f k x1 o0_0 o0_1 o0_2).bind fun r1 =>
    (octet_Reader_Raw.f k r1.1.1 r1.2.1.1 r1.2.1.2.1 r1.2.1.2.2.1).bind fun r2 =>
    some ((r2.1.1, ()), ((r2.2.1.1, r2.2.1.2.1, r2.2.1.2.2.1, ()), ()))
abbrev octet_Reader_Text.ini : LSh := ⟨[(0, .ptr 1000000 0), (1, .val (.int .i64))], [(1000000, 76, [.val .str, .val (.int .i64), .val (.int .i64)])]⟩
abbrev octet_Reader_Text.out : LSh := ⟨[(0, .val .str)], [(1000000, 76, [.val .str, .val (.int .i64), .val (.int .i64)])]⟩
noncomputable def octet_Reader_Text.labF : Nat → Option (LabF octet_Reader_Text.out.den)
  | _ => none
noncomputable def octet_Reader_Text.fd : FnD := ⟨Try.f36, octet_Reader_Text.ini, octet_Reader_Text.out, 1, [1000000], [], octet_Reader_Text.labF, fun k (d : (Unit × Int × Unit) × ((ByteArray × Int × Int × Unit) × Unit)) => (octet_Reader_Text.f k d.1.2.1 d.2.1.1 d.2.1.2.1 d.2.1.2.2.1 : Option octet_Reader_Text.R)⟩

/-! ### octet_Reader_Left : function 54 -/
abbrev octet_Reader_Left.R := (Int × Unit) × (Unit)
noncomputable def octet_Reader_Left.f : Nat → ByteArray → Int → Int → Option octet_Reader_Left.R
  | 0, _, _, _ => none
  | k + 1, o0_0, o0_1, o0_2 =>
    (octet_Reader_Err.f k o0_0 o0_1 o0_2).bind fun r1 =>
    bif (r1.1.1 : Int) != 0 then
      some ((0, ()), (()))
    else
      some ((IntKind.wrap .i64 ((o0_0.size : Int) - o0_1), ()), (()))
abbrev octet_Reader_Left.ini : LSh := ⟨[(0, .ptr 1000000 0)], [(1000000, 76, [.val .str, .val (.int .i64), .val (.int .i64)])]⟩
abbrev octet_Reader_Left.out : LSh := ⟨[(0, .val (.int .i64))], []⟩
noncomputable def octet_Reader_Left.labF : Nat → Option (LabF octet_Reader_Left.out.den)
  | _ => none
noncomputable def octet_Reader_Left.fd : FnD := ⟨Try.f54, octet_Reader_Left.ini, octet_Reader_Left.out, 1, [1000000], [1000000], octet_Reader_Left.labF, fun k (d : (Unit × Unit) × ((ByteArray × Int × Int × Unit) × Unit)) => (octet_Reader_Left.f k d.2.1.1 d.2.1.2.1 d.2.1.2.2.1 : Option octet_Reader_Left.R)⟩

/-! ### octet_Reader_End : function 41 -/
abbrev octet_Reader_End.R := (Int × Unit) × ((ByteArray × Int × Int × Unit) × Unit)
noncomputable def octet_Reader_End.f : Nat → ByteArray → Int → Int → Option octet_Reader_End.R
  | 0, _, _, _ => none
  | k + 1, o0_0, o0_1, o0_2 =>
    (octet_Reader_Left.f k o0_0 o0_1 o0_2).bind fun r1 =>
    bif decide ((r1.1.1 : Int) > 0) then
      (octet_Reader_Fail.f k 4 o0_0 o0_1 o0_2).bind fun r2 =>
      (octet_Reader_Err.f k r2.2.1.1 r2.2.1.2.1 r2.2.1.2.2.1).bind fun r3 =>
      some ((r3.1.1, ()), ((r2.2.1.1, r2.2.1.2.1, r2.2.1.2.2.1, ()), ()))
    else
      (octet_Reader_Err.f k o0_0 o0_1 o0_2).bind fun r4 =>
      some ((r4.1.1, ()), ((o0_0, o0_1, o0_2, ()), ()))
abbrev octet_Reader_End.ini : LSh := ⟨[(0, .ptr 1000000 0)], [(1000000, 76, [.val .str, .val (.int .i64), .val (.int .i64)])]⟩
abbrev octet_Reader_End.out : LSh := ⟨[(0, .val (.int .i64))], [(1000000, 76, [.val .str, .val (.int .i64), .val (.int .i64)])]⟩
noncomputable def octet_Reader_End.labF : Nat → Option (LabF octet_Reader_End.out.den)
  | _ => none
noncomputable def octet_Reader_End.fd : FnD := ⟨Try.f41, octet_Reader_End.ini, octet_Reader_End.out, 1, [1000000], [], octet_Reader_End.labF, fun k (d : (Unit × Unit) × ((ByteArray × Int × Int × Unit) × Unit)) => (octet_Reader_End.f k d.2.1.1 d.2.1.2.1 d.2.1.2.2.1 : Option octet_Reader_End.R)⟩

/-! ### octet_Reader_Flag : function 52 -/
abbrev octet_Reader_Flag.R := (Bool × Unit) × ((ByteArray × Int × Int × Unit) × Unit)
noncomputable def octet_Reader_Flag.f : Nat → ByteArray → Int → Int → Option octet_Reader_Flag.R
  | 0, _, _, _ => none
  | k + 1, o0_0, o0_1, o0_2 =>
    (octet_Reader_Raw.f k 1 o0_0 o0_1 o0_2).bind fun r1 =>
    bif !(Op.bytesLess r1.1.1.toList (⟨#[1]⟩ : ByteArray).toList || r1.1.1.toList == (⟨#[1]⟩ : ByteArray).toList) then
      (octet_Reader_Fail.f k 4 r1.2.1.1 r1.2.1.2.1 r1.2.1.2.2.1).bind fun r2 =>
      some ((false, ()), ((r2.2.1.1, r2.2.1.2.1, r2.2.1.2.2.1, ()), ()))
    else
      some ((r1.1.1.toList == (⟨#[1]⟩ : ByteArray).toList, ()), ((r1.2.1.1, r1.2.1.2.1, r1.2.1.2.2.1, ()), ()))
abbrev octet_Reader_Flag.ini : LSh := ⟨[(0, .ptr 1000000 0)], [(1000000, 76, [.val .str, .val (.int .i64), .val (.int .i64)])]⟩
abbrev octet_Reader_Flag.out : LSh := ⟨[(0, .val .bool)], [(1000000, 76, [.val .str, .val (.int .i64), .val (.int .i64)])]⟩
noncomputable def octet_Reader_Flag.labF : Nat → Option (LabF octet_Reader_Flag.out.den)
  | _ => none
noncomputable def octet_Reader_Flag.fd : FnD := ⟨Try.f52, octet_Reader_Flag.ini, octet_Reader_Flag.out, 1, [1000000], [], octet_Reader_Flag.labF, fun k (d : (Unit × Unit) × ((ByteArray × Int × Int × Unit) × Unit)) => (octet_Reader_Flag.f k d.2.1.1 d.2.1.2.1 d.2.1.2.2.1 : Option octet_Reader_Flag.R)⟩

/-! ### value_of : function 53 -/
abbrev value_of.R := (Int × Unit) × (Unit)
mutual
noncomputable def value_of.l0 : Nat → Int → (List Int) → Int → Int → Option value_of.R
  | 0, _, _, _, _ => none
  | k + 1, x3, x7, x8, x9 =>
    bif decide ((x9 : Int) < x8) then
      (rdo x7 x9).bind fun t1 =>
      (ck (!decide ((8 : Int) < 0))).bind fun _ =>
      value_of.l0 k (IntKind.wrap .u64 ((BitVec.ofInt (IntKind.bits .u64) (IntKind.wrap .u64 (x3 * 2 ^ (min (8 : Int).toNat (IntKind.bits .u64)))) ||| BitVec.ofInt (IntKind.bits .u64) (IntKind.wrap .u64 t1)).toNat : Int)) x7 x8 (IntKind.wrap .i64 (x9 + 1))
    else
      some ((x3, ()), (()))
noncomputable def value_of.f : Nat → ByteArray → Option value_of.R
  | 0, _ => none
  | k + 1, x0 =>
    value_of.l0 k 0 (bytesOf x0) ((bytesOf x0).length : Int) 0
end
abbrev value_of.ini : LSh := ⟨[(0, .val .str)], []⟩
abbrev value_of.out : LSh := ⟨[(0, .val (.int .u64))], []⟩
abbrev value_of.l0s : LSh := ⟨[(3, .val (.int .u64)), (7, .own 2000007 5 (.int .u8)), (8, .val (.int .i64)), (9, .val (.int .i64))], []⟩
noncomputable def value_of.labF : Nat → Option (LabF value_of.out.den)
  | 6 => some ⟨value_of.l0s, fun k (d : (Int × List Int × Int × Int × Unit) × (Unit)) => (value_of.l0 k d.1.1 d.1.2.1 d.1.2.2.1 d.1.2.2.2.1 : Option value_of.R)⟩
  | _ => none
noncomputable def value_of.fd : FnD := ⟨Try.f53, value_of.ini, value_of.out, 1, [], [], value_of.labF, fun k (d : (ByteArray × Unit) × (Unit)) => (value_of.f k d.1.1 : Option value_of.R)⟩

/-! ### value_Read : function 39 -/
abbrev value_Read.R := ((Int × Bool × Int × Int × ByteArray × Unit) × Int × Unit) × (Unit)
mutual
noncomputable def value_Read.j0 : Nat → Int → Bool → Int → Int → ByteArray → ByteArray → Int → Int → Int → Bool → Int → Int → ByteArray → Option value_Read.R
  | 0, _, _, _, _, _, _, _, _, _, _, _, _, _ => none
  | k + 1, o2_0, o2_1, o2_2, o2_3, o2_4, o0_0, o0_1, o0_2, o5_0, o5_1, o5_2, o5_3, o5_4 =>
    (octet_Reader_End.f k o0_0 o0_1 o0_2).bind fun r9 =>
    bif (r9.1.1 : Int) != 0 then
      some (((0, (false, (0, (0, (ByteArray.empty, ()))))), r9.1.1, ()), (()))
    else
      (value_Right.f k (o5_0, (o5_1, (o5_2, (o5_3, (o5_4, ())))))).bind fun r10 =>
      bif !r10.1.1 then
        some (((0, (false, (0, (0, (ByteArray.empty, ()))))), 4, ()), (()))
      else
        some (((o5_0, (o5_1, (o5_2, (o5_3, (o5_4, ()))))), 0, ()), (()))
noncomputable def value_Read.f : Nat → ByteArray → Option value_Read.R
  | 0, _ => none
  | k + 1, x0 =>
    (octet_Read.f k x0).bind fun r1 =>
    (octet_Reader_Num.f k 4 r1.2.1.1 r1.2.1.2.1 r1.2.1.2.2.1).bind fun r2 =>
    bif (r2.1.1 : Int) == 1 then
      (octet_Reader_Flag.f k r2.2.1.1 r2.2.1.2.1 r2.2.1.2.2.1).bind fun r3 =>
      value_Read.j0 k 0 false 0 0 ByteArray.empty r3.2.1.1 r3.2.1.2.1 r3.2.1.2.2.1 r2.1.1 r3.1.1 0 0 ByteArray.empty
    else
    bif (r2.1.1 : Int) == 2 then
      (octet_Reader_Raw.f k 8 r2.2.1.1 r2.2.1.2.1 r2.2.1.2.2.1).bind fun r4 =>
      (value_of.f k r4.1.1).bind fun r5 =>
      value_Read.j0 k 0 false 0 0 ByteArray.empty r4.2.1.1 r4.2.1.2.1 r4.2.1.2.2.1 r2.1.1 false (IntKind.wrap .i64 r5.1.1) 0 ByteArray.empty
    else
    bif (r2.1.1 : Int) == 3 then
      (octet_Reader_Raw.f k 8 r2.2.1.1 r2.2.1.2.1 r2.2.1.2.2.1).bind fun r6 =>
      (value_of.f k r6.1.1).bind fun r7 =>
      value_Read.j0 k 0 false 0 0 ByteArray.empty r6.2.1.1 r6.2.1.2.1 r6.2.1.2.2.1 r2.1.1 false 0 r7.1.1 ByteArray.empty
    else
    bif (r2.1.1 : Int) == 4 then
      (octet_Reader_Text.f k 200 r2.2.1.1 r2.2.1.2.1 r2.2.1.2.2.1).bind fun r8 =>
      value_Read.j0 k 0 false 0 0 ByteArray.empty r8.2.1.1 r8.2.1.2.1 r8.2.1.2.2.1 r2.1.1 false 0 0 r8.1.1
    else
      value_Read.j0 k 0 false 0 0 ByteArray.empty r2.2.1.1 r2.2.1.2.1 r2.2.1.2.2.1 r2.1.1 false 0 0 ByteArray.empty
end
abbrev value_Read.ini : LSh := ⟨[(0, .val .str)], []⟩
abbrev value_Read.out : LSh := ⟨[(0, .val (.cons (.int .i64) (.cons .bool (.cons (.int .i64) (.cons (.int .u64) (.cons .str .nil)))))), (1, .val (.int .i64))], []⟩
abbrev value_Read.j0s : LSh := ⟨[(2, .ptr 2 0), (4, .ptr 904000000 0), (5, .ptr 5 0)], [(2, 35, [.val (.int .i64), .val .bool, .val (.int .i64), .val (.int .u64), .val .str]), (904000000, 76, [.val .str, .val (.int .i64), .val (.int .i64)]), (5, 35, [.val (.int .i64), .val .bool, .val (.int .i64), .val (.int .u64), .val .str])]⟩
noncomputable def value_Read.labF : Nat → Option (LabF value_Read.out.den)
  | 25 => some ⟨value_Read.j0s, fun k (d : (Unit × Unit × Unit × Unit) × ((Int × Bool × Int × Int × ByteArray × Unit) × (ByteArray × Int × Int × Unit) × (Int × Bool × Int × Int × ByteArray × Unit) × Unit)) => (value_Read.j0 k d.2.1.1 d.2.1.2.1 d.2.1.2.2.1 d.2.1.2.2.2.1 d.2.1.2.2.2.2.1 d.2.2.1.1 d.2.2.1.2.1 d.2.2.1.2.2.1 d.2.2.2.1.1 d.2.2.2.1.2.1 d.2.2.2.1.2.2.1 d.2.2.2.1.2.2.2.1 d.2.2.2.1.2.2.2.2.1 : Option value_Read.R)⟩
  | _ => none
noncomputable def value_Read.fd : FnD := ⟨Try.f39, value_Read.ini, value_Read.out, 2, [], [], value_Read.labF, fun k (d : (ByteArray × Unit) × (Unit)) => (value_Read.f k d.1.1 : Option value_Read.R)⟩

/-! ### paper_Read : function 21 -/
abbrev paper_Read.R := ((ByteArray × Int × List (ByteArray × (Int × Bool × Int × Int × ByteArray × Unit) × Unit) × Unit) × Int × Unit) × (Unit)
mutual
noncomputable def paper_Read.l0 : Nat → ByteArray → Int → Int → ByteArray → Int → (List (ByteArray × (Int × Bool × Int × Int × ByteArray × Unit) × Unit)) → ByteArray → Int → Int → ByteArray → Int → (List (ByteArray × (Int × Bool × Int × Int × ByteArray × Unit) × Unit)) → Option paper_Read.R
  | 0, _, _, _, _, _, _, _, _, _, _, _, _ => none
  | k + 1, x0, x21, x22, o2_0, o2_1, o2_2, o0_0, o0_1, o0_2, o5_0, o5_1, o5_2 =>
    bif decide ((x22 : Int) < x21) then
      (octet_Reader_Text.f k 16 o0_0 o0_1 o0_2).bind fun r5 =>
      (octet_Reader_Text.f k 208 r5.2.1.1 r5.2.1.2.1 r5.2.1.2.2.1).bind fun r6 =>
      (octet_Reader_Err.f k r6.2.1.1 r6.2.1.2.1 r6.2.1.2.2.1).bind fun r7 =>
      bif (r7.1.1 : Int) != 0 then
        paper_Read.j0 k x0 o2_0 o2_1 o2_2 r6.2.1.1 r6.2.1.2.1 r6.2.1.2.2.1 o5_0 o5_1 o5_2
      else
        (value_Read.f k r6.1.1).bind fun r8 =>
        (octet_Reader_Fail.f k r8.1.2.1 r6.2.1.1 r6.2.1.2.1 r6.2.1.2.2.1).bind fun r9 =>
        (ck (decide ((o5_2.length + ([(r5.1.1, ((r8.1.1.1, (r8.1.1.2.1, (r8.1.1.2.2.1, (r8.1.1.2.2.2.1, (r8.1.1.2.2.2.2.1, ()))))), ()))] : List (ByteArray × (Int × Bool × Int × Int × ByteArray × Unit) × Unit)).length) * 64 ≤ 70368744177664))).bind fun _ =>
        paper_Read.l0 k x0 x21 (IntKind.wrap .i64 (x22 + 1)) o2_0 o2_1 o2_2 r9.2.1.1 r9.2.1.2.1 r9.2.1.2.2.1 o5_0 o5_1 (o5_2 ++ ([(r5.1.1, ((r8.1.1.1, (r8.1.1.2.1, (r8.1.1.2.2.1, (r8.1.1.2.2.2.1, (r8.1.1.2.2.2.2.1, ()))))), ()))] : List (ByteArray × (Int × Bool × Int × Int × ByteArray × Unit) × Unit)))
    else
      paper_Read.j0 k x0 o2_0 o2_1 o2_2 o0_0 o0_1 o0_2 o5_0 o5_1 o5_2
noncomputable def paper_Read.j0 : Nat → ByteArray → ByteArray → Int → (List (ByteArray × (Int × Bool × Int × Int × ByteArray × Unit) × Unit)) → ByteArray → Int → Int → ByteArray → Int → (List (ByteArray × (Int × Bool × Int × Int × ByteArray × Unit) × Unit)) → Option paper_Read.R
  | 0, _, _, _, _, _, _, _, _, _, _ => none
  | k + 1, x0, o2_0, o2_1, o2_2, o0_0, o0_1, o0_2, o5_0, o5_1, o5_2 =>
    (octet_Reader_End.f k o0_0 o0_1 o0_2).bind fun r10 =>
    bif (r10.1.1 : Int) != 0 then
      some (((ByteArray.empty, (0, (([] : List (ByteArray × (Int × Bool × Int × Int × ByteArray × Unit) × Unit)), ()))), r10.1.1, ()), (()))
    else
      (paper_Bytes.f k (o5_0, (o5_1, (o5_2, ())))).bind fun r11 =>
      bif (r11.1.2.1 : Int) != 0 then
        some (((ByteArray.empty, (0, (([] : List (ByteArray × (Int × Bool × Int × Int × ByteArray × Unit) × Unit)), ()))), 4, ()), (()))
      else
      bif !(r11.1.1.toList == x0.toList) then
        some (((ByteArray.empty, (0, (([] : List (ByteArray × (Int × Bool × Int × Int × ByteArray × Unit) × Unit)), ()))), 4, ()), (()))
      else
        some (((o5_0, (o5_1, (o5_2, ()))), 0, ()), (()))
noncomputable def paper_Read.f : Nat → ByteArray → Option paper_Read.R
  | 0, _ => none
  | k + 1, x0 =>
    (octet_Read.f k x0).bind fun r1 =>
    (octet_Reader_Text.f k 24 r1.2.1.1 r1.2.1.2.1 r1.2.1.2.2.1).bind fun r2 =>
    (octet_Reader_Num.f k 7 r2.2.1.1 r2.2.1.2.1 r2.2.1.2.2.1).bind fun r3 =>
    (octet_Reader_Num.f k 12 r3.2.1.1 r3.2.1.2.1 r3.2.1.2.2.1).bind fun r4 =>
    paper_Read.l0 k x0 r4.1.1 0 ByteArray.empty 0 ([] : List (ByteArray × (Int × Bool × Int × Int × ByteArray × Unit) × Unit)) r4.2.1.1 r4.2.1.2.1 r4.2.1.2.2.1 r2.1.1 r3.1.1 []
end
abbrev paper_Read.ini : LSh := ⟨[(0, .val .str)], []⟩
abbrev paper_Read.out : LSh := ⟨[(0, .val (.cons .str (.cons (.int .i64) (.cons (.sl (.cons .str (.cons (.cons (.int .i64) (.cons .bool (.cons (.int .i64) (.cons (.int .u64) (.cons .str .nil))))) .nil))) .nil)))), (1, .val (.int .i64))], []⟩
abbrev paper_Read.l0s : LSh := ⟨[(0, .val .str), (2, .ptr 2 0), (4, .ptr 1504000000 0), (5, .ptr 5 0), (21, .val (.int .i64)), (22, .val (.int .i64))], [(2, 27, [.val .str, .val (.int .i64), .val (.sl (.cons .str (.cons (.cons (.int .i64) (.cons .bool (.cons (.int .i64) (.cons (.int .u64) (.cons .str .nil))))) .nil)))]), (1504000000, 76, [.val .str, .val (.int .i64), .val (.int .i64)]), (5, 27, [.val .str, .val (.int .i64), .own 3000502 37 (.cons .str (.cons (.cons (.int .i64) (.cons .bool (.cons (.int .i64) (.cons (.int .u64) (.cons .str .nil))))) .nil))])]⟩
abbrev paper_Read.j0s : LSh := ⟨[(0, .val .str), (2, .ptr 2 0), (4, .ptr 1504000000 0), (5, .ptr 5 0)], [(2, 27, [.val .str, .val (.int .i64), .val (.sl (.cons .str (.cons (.cons (.int .i64) (.cons .bool (.cons (.int .i64) (.cons (.int .u64) (.cons .str .nil))))) .nil)))]), (1504000000, 76, [.val .str, .val (.int .i64), .val (.int .i64)]), (5, 27, [.val .str, .val (.int .i64), .own 3000502 37 (.cons .str (.cons (.cons (.int .i64) (.cons .bool (.cons (.int .i64) (.cons (.int .u64) (.cons .str .nil))))) .nil))])]⟩
noncomputable def paper_Read.labF : Nat → Option (LabF paper_Read.out.den)
  | 8 => some ⟨paper_Read.l0s, fun k (d : (ByteArray × Unit × Unit × Unit × Int × Int × Unit) × ((ByteArray × Int × (List (ByteArray × (Int × Bool × Int × Int × ByteArray × Unit) × Unit)) × Unit) × (ByteArray × Int × Int × Unit) × (ByteArray × Int × (List (ByteArray × (Int × Bool × Int × Int × ByteArray × Unit) × Unit)) × Unit) × Unit)) => (paper_Read.l0 k d.1.1 d.1.2.2.2.2.1 d.1.2.2.2.2.2.1 d.2.1.1 d.2.1.2.1 d.2.1.2.2.1 d.2.2.1.1 d.2.2.1.2.1 d.2.2.1.2.2.1 d.2.2.2.1.1 d.2.2.2.1.2.1 d.2.2.2.1.2.2.1 : Option paper_Read.R)⟩
  | 27 => some ⟨paper_Read.j0s, fun k (d : (ByteArray × Unit × Unit × Unit × Unit) × ((ByteArray × Int × (List (ByteArray × (Int × Bool × Int × Int × ByteArray × Unit) × Unit)) × Unit) × (ByteArray × Int × Int × Unit) × (ByteArray × Int × (List (ByteArray × (Int × Bool × Int × Int × ByteArray × Unit) × Unit)) × Unit) × Unit)) => (paper_Read.j0 k d.1.1 d.2.1.1 d.2.1.2.1 d.2.1.2.2.1 d.2.2.1.1 d.2.2.1.2.1 d.2.2.1.2.2.1 d.2.2.2.1.1 d.2.2.2.1.2.1 d.2.2.2.1.2.2.1 : Option paper_Read.R)⟩
  | _ => none
noncomputable def paper_Read.fd : FnD := ⟨Try.f21, paper_Read.ini, paper_Read.out, 2, [], [], paper_Read.labF, fun k (d : (ByteArray × Unit) × (Unit)) => (paper_Read.f k d.1.1 : Option paper_Read.R)⟩

/-! ### chartularylaw05_bytes : function 22 -/
abbrev chartularylaw05_bytes.R := (ByteArray × Unit) × (Unit)
mutual
noncomputable def chartularylaw05_bytes.l0 : Nat → ByteArray → Int → ByteArray → Int → (List (ByteArray × (Int × Bool × Int × Int × ByteArray × Unit) × Unit)) → Option chartularylaw05_bytes.R
  | 0, _, _, _, _, _ => none
  | k + 1, x3, x4, o1_0, o1_1, o1_2 =>
    bif decide ((x4 : Int) < (o1_2.length : Int)) then
      (rdo o1_2 x4).bind fun t4 =>
      (octet_Text.f k t4.1).bind fun r5 =>
      (ck (decide (x3.size + r5.1.1.size ≤ 9223372036854775807))).bind fun _ =>
      (rdo o1_2 x4).bind fun t6 =>
      (value_Bytes.f k (t6.2.1.1, (t6.2.1.2.1, (t6.2.1.2.2.1, (t6.2.1.2.2.2.1, (t6.2.1.2.2.2.2.1, ())))))).bind fun r7 =>
      (octet_Text.f k r7.1.1).bind fun r8 =>
      (ck (decide ((x3 ++ r5.1.1).size + r8.1.1.size ≤ 9223372036854775807))).bind fun _ =>
      chartularylaw05_bytes.l0 k ((x3 ++ r5.1.1) ++ r8.1.1) (IntKind.wrap .i64 (x4 + 1)) o1_0 o1_1 o1_2
    else
      some ((x3, ()), (()))
noncomputable def chartularylaw05_bytes.f : Nat → (ByteArray × Int × List (ByteArray × (Int × Bool × Int × Int × ByteArray × Unit) × Unit) × Unit) → Option chartularylaw05_bytes.R
  | 0, _ => none
  | k + 1, x0 =>
    (octet_Text.f k x0.1).bind fun r1 =>
    (octet_Num.f k x0.2.1).bind fun r2 =>
    (ck (decide (r1.1.1.size + r2.1.1.size ≤ 9223372036854775807))).bind fun _ =>
    (octet_Num.f k (x0.2.2.1.length : Int)).bind fun r3 =>
    (ck (decide ((r1.1.1 ++ r2.1.1).size + r3.1.1.size ≤ 9223372036854775807))).bind fun _ =>
    chartularylaw05_bytes.l0 k ((r1.1.1 ++ r2.1.1) ++ r3.1.1) 0 x0.1 x0.2.1 x0.2.2.1
end
abbrev chartularylaw05_bytes.ini : LSh := ⟨[(0, .val (.cons .str (.cons (.int .i64) (.cons (.sl (.cons .str (.cons (.cons (.int .i64) (.cons .bool (.cons (.int .i64) (.cons (.int .u64) (.cons .str .nil))))) .nil))) .nil))))], []⟩
abbrev chartularylaw05_bytes.out : LSh := ⟨[(0, .val .str)], []⟩
abbrev chartularylaw05_bytes.l0s : LSh := ⟨[(1, .ptr 1 0), (3, .val .str), (4, .val (.int .i64))], [(1, 27, [.val .str, .val (.int .i64), .val (.sl (.cons .str (.cons (.cons (.int .i64) (.cons .bool (.cons (.int .i64) (.cons (.int .u64) (.cons .str .nil))))) .nil)))])]⟩
noncomputable def chartularylaw05_bytes.labF : Nat → Option (LabF chartularylaw05_bytes.out.den)
  | 6 => some ⟨chartularylaw05_bytes.l0s, fun k (d : (Unit × ByteArray × Int × Unit) × ((ByteArray × Int × (List (ByteArray × (Int × Bool × Int × Int × ByteArray × Unit) × Unit)) × Unit) × Unit)) => (chartularylaw05_bytes.l0 k d.1.2.1 d.1.2.2.1 d.2.1.1 d.2.1.2.1 d.2.1.2.2.1 : Option chartularylaw05_bytes.R)⟩
  | _ => none
noncomputable def chartularylaw05_bytes.fd : FnD := ⟨Try.f22, chartularylaw05_bytes.ini, chartularylaw05_bytes.out, 1, [], [], chartularylaw05_bytes.labF, fun k (d : ((ByteArray × Int × List (ByteArray × (Int × Bool × Int × Int × ByteArray × Unit) × Unit) × Unit) × Unit) × (Unit)) => (chartularylaw05_bytes.f k d.1.1 : Option chartularylaw05_bytes.R)⟩

/-! ### chartularylaw05_PaperBytes : function 6 -/
abbrev chartularylaw05_PaperBytes.R := (Bool × Unit) × (Unit)
noncomputable def chartularylaw05_PaperBytes.f : Nat → (ByteArray × Int × List (ByteArray × (Int × Bool × Int × Int × ByteArray × Unit) × Unit) × Unit) → Option chartularylaw05_PaperBytes.R
  | 0, _ => none
  | k + 1, x0 =>
    (chartularylaw05_Few.f k (x0.1, (x0.2.1, (x0.2.2.1, ())))).bind fun r1 =>
    (paper_Bytes.f k (r1.1.1.1, (r1.1.1.2.1, (r1.1.1.2.2.1, ())))).bind fun r2 =>
    (chartularylaw05_check.f k (r1.1.1.1, (r1.1.1.2.1, (r1.1.1.2.2.1, ())))).bind fun r3 =>
    bif (r3.1.1 : Int) != 0 then
      bif r2.1.1.toList == (⟨#[]⟩ : ByteArray).toList then
        (chartularylaw05_check.f k (r1.1.1.1, (r1.1.1.2.1, (r1.1.1.2.2.1, ())))).bind fun r4 =>
        bif (r2.1.2.1 : Int) == r4.1.1 then
          (chartularylaw05_awake.f k).bind fun r5 =>
          some ((r5.1.1, ()), (()))
        else
          some ((false, ()), (()))
      else
        some ((false, ()), (()))
    else
      (paper_Read.f k r2.1.1).bind fun r6 =>
      bif (r2.1.2.1 : Int) == 0 then
        (chartularylaw05_tidy.f k (r1.1.1.1, (r1.1.1.2.1, (r1.1.1.2.2.1, ())))).bind fun r7 =>
        (chartularylaw05_bytes.f k (r7.1.1.1, (r7.1.1.2.1, (r7.1.1.2.2.1, ())))).bind fun r8 =>
        bif r2.1.1.toList == r8.1.1.toList then
          bif (r6.1.2.1 : Int) == 0 then
            (chartularylaw05_tidy.f k (r1.1.1.1, (r1.1.1.2.1, (r1.1.1.2.2.1, ())))).bind fun r9 =>
            (chartularylaw05_same.f k (r6.1.1.1, (r6.1.1.2.1, (r6.1.1.2.2.1, ()))) (r9.1.1.1, (r9.1.1.2.1, (r9.1.1.2.2.1, ())))).bind fun r10 =>
            bif r10.1.1 then
              (chartularylaw05_awake.f k).bind fun r11 =>
              some ((r11.1.1, ()), (()))
            else
              some ((false, ()), (()))
          else
            some ((false, ()), (()))
        else
          some ((false, ()), (()))
      else
        some ((false, ()), (()))
abbrev chartularylaw05_PaperBytes.ini : LSh := ⟨[(0, .val (.cons .str (.cons (.int .i64) (.cons (.sl (.cons .str (.cons (.cons (.int .i64) (.cons .bool (.cons (.int .i64) (.cons (.int .u64) (.cons .str .nil))))) .nil))) .nil))))], []⟩
abbrev chartularylaw05_PaperBytes.out : LSh := ⟨[(0, .val .bool)], []⟩
noncomputable def chartularylaw05_PaperBytes.labF : Nat → Option (LabF chartularylaw05_PaperBytes.out.den)
  | _ => none
noncomputable def chartularylaw05_PaperBytes.fd : FnD := ⟨Try.f6, chartularylaw05_PaperBytes.ini, chartularylaw05_PaperBytes.out, 1, [], [], chartularylaw05_PaperBytes.labF, fun k (d : ((ByteArray × Int × List (ByteArray × (Int × Bool × Int × Int × ByteArray × Unit) × Unit) × Unit) × Unit) × (Unit)) => (chartularylaw05_PaperBytes.f k d.1.1 : Option chartularylaw05_PaperBytes.R)⟩

/-! ### chartularylaw05_PaperReads : function 7 -/
abbrev chartularylaw05_PaperReads.R := (Bool × Unit) × (Unit)
mutual
noncomputable def chartularylaw05_PaperReads.j0 : Nat → ByteArray → Option chartularylaw05_PaperReads.R
  | 0, _ => none
  | k + 1, x0 =>
    (paper_Read.f k x0).bind fun r1 =>
    bif (r1.1.2.1 : Int) != 0 then
      (chartularylaw05_same.f k (r1.1.1.1, (r1.1.1.2.1, (r1.1.1.2.2.1, ()))) (ByteArray.empty, (0, (([] : List (ByteArray × (Int × Bool × Int × Int × ByteArray × Unit) × Unit)), ())))).bind fun r2 =>
      bif r2.1.1 then
        (chartularylaw05_awake.f k).bind fun r3 =>
        some ((r3.1.1, ()), (()))
      else
        some ((false, ()), (()))
    else
      (chartularylaw05_check.f k (r1.1.1.1, (r1.1.1.2.1, (r1.1.1.2.2.1, ())))).bind fun r4 =>
      bif (r4.1.1 : Int) == 0 then
        (chartularylaw05_tidy.f k (r1.1.1.1, (r1.1.1.2.1, (r1.1.1.2.2.1, ())))).bind fun r5 =>
        (chartularylaw05_same.f k (r1.1.1.1, (r1.1.1.2.1, (r1.1.1.2.2.1, ()))) (r5.1.1.1, (r5.1.1.2.1, (r5.1.1.2.2.1, ())))).bind fun r6 =>
        bif r6.1.1 then
          (chartularylaw05_bytes.f k (r1.1.1.1, (r1.1.1.2.1, (r1.1.1.2.2.1, ())))).bind fun r7 =>
          bif r7.1.1.toList == x0.toList then
            (chartularylaw05_awake.f k).bind fun r8 =>
            some ((r8.1.1, ()), (()))
          else
            some ((false, ()), (()))
        else
          some ((false, ()), (()))
      else
        some ((false, ()), (()))
noncomputable def chartularylaw05_PaperReads.f : Nat → ByteArray → Option chartularylaw05_PaperReads.R
  | 0, _ => none
  | k + 1, x0 =>
    bif decide (((x0.size : Int) : Int) > 4000) then
      (ck (decide (0 ≤ 0) && decide (0 ≤ 4000) && decide (4000 ≤ (x0.size : Int)))).bind fun _ =>
      chartularylaw05_PaperReads.j0 k (x0.extract (0 : Int).toNat (4000 : Int).toNat)
    else
      chartularylaw05_PaperReads.j0 k x0
end
abbrev chartularylaw05_PaperReads.ini : LSh := ⟨[(0, .val .str)], []⟩
abbrev chartularylaw05_PaperReads.out : LSh := ⟨[(0, .val .bool)], []⟩
abbrev chartularylaw05_PaperReads.j0s : LSh := ⟨[(0, .val .str)], []⟩
noncomputable def chartularylaw05_PaperReads.labF : Nat → Option (LabF chartularylaw05_PaperReads.out.den)
  | 7 => some ⟨chartularylaw05_PaperReads.j0s, fun k (d : (ByteArray × Unit) × (Unit)) => (chartularylaw05_PaperReads.j0 k d.1.1 : Option chartularylaw05_PaperReads.R)⟩
  | _ => none
noncomputable def chartularylaw05_PaperReads.fd : FnD := ⟨Try.f7, chartularylaw05_PaperReads.ini, chartularylaw05_PaperReads.out, 1, [], [], chartularylaw05_PaperReads.labF, fun k (d : (ByteArray × Unit) × (Unit)) => (chartularylaw05_PaperReads.f k d.1.1 : Option chartularylaw05_PaperReads.R)⟩

noncomputable def Γ (k : Nat) : Gam := [(45, [value_nan.fd.sp k]), (24, [value_Clean.fd.sp k]), (57, [bytealg_CompareString.fd.sp k]), (47, [strings_Compare.fd.sp k]), (26, [paper_byName.fd.sp k]), (55, [slices_insertionSortCmpFunc_api_Field_v0.fd.sp k]), (60, [slices_swapRangeCmpFunc_api_Field_v0.fd.sp k]), (58, [slices_rotateCmpFunc_api_Field_v0.fd.sp k]), (56, [slices_symMergeCmpFunc_api_Field_v0.fd.sp k]), (46, [slices_stableCmpFunc_api_Field_v0.fd.sp k]), (25, [slices_SortStableFunc_api_Field_v0.fd.sp k]), (14, [paper_Tidy.fd.sp k]), (44, [paper_sign.fd.sp k]), (23, [paper_word.fd.sp k]), (8, [paper_IsID.fd.sp k]), (10, [paper_IsName.fd.sp k]), (27, [value_Right.fd.sp k]), (16, [paper_Check.fd.sp k]), (43, [octet_Num.fd.sp k]), (42, [octet_Text.fd.sp k]), (31, [octet_Writer_Text.fd.sp k]), (32, [octet_Writer_Num.fd.sp k]), (34, [octet_Writer_All.fd.sp k]), (48, [octet_Writer_Flag.fd.sp k]), (49, [octet_Writer_Raw.fd.sp k]), (50, [value_eight.fd.sp k]), (33, [value_Bytes.fd.sp k]), (20, [paper_Bytes.fd.sp k]), (11, [chartularylaw05_awake.fd.sp k]), (12, [chartularylaw05_Few.fd.sp k]), (13, [chartularylaw05_same.fd.sp k]), (15, [chartularylaw05_tidy.fd.sp k]), (9, [chartularylaw05_word.fd.sp k]), (17, [chartularylaw05_check.fd.sp k]), (4, [chartularylaw05_PaperChecks.fd.sp k]), (29, [paper_Find_1_v0.fd.sp k]), (28, [slices_IndexFunc_api_Field_v0.fd.sp k]), (18, [paper_Find.fd.sp k]), (30, [slices_Equal_api_Field.fd.sp k]), (19, [paper_Same.fd.sp k]), (5, [chartularylaw05_PaperSames.fd.sp k]), (35, [octet_Read.fd.sp k]), (38, [octet_Reader_Err.fd.sp k]), (40, [octet_Reader_Fail.fd.sp k]), (51, [octet_Reader_Raw.fd.sp k]), (37, [octet_Reader_Num.fd.sp k]), (36, [octet_Reader_Text.fd.sp k]), (54, [octet_Reader_Left.fd.sp k]), (41, [octet_Reader_End.fd.sp k]), (52, [octet_Reader_Flag.fd.sp k]), (53, [value_of.fd.sp k]), (39, [value_Read.fd.sp k]), (21, [paper_Read.fd.sp k]), (22, [chartularylaw05_bytes.fd.sp k]), (6, [chartularylaw05_PaperBytes.fd.sp k]), (7, [chartularylaw05_PaperReads.fd.sp k]), (59, [strCmp])]
end Go.Proofs.Ytabdmnoejoiboaa.E
