import Derived.Test.YtnedfkfelagmpaaETab
import Derived.Test.YtnedfkfelagmpaaProg
namespace Go.Proofs.Ytnedfkfelagmpaa.E
open Go Go.Proofs.Ytnedfkfelagmpaa.Eng Go.Proofs
set_option linter.unusedVariables false
set_option maxRecDepth 100000
def tt : TT := [
  (2, ⟨1, 8, false, (.int .i64), [(.int .i64 0)], (.int .i64), false⟩),
  (3, ⟨1, 8, false, (.int .i64), [(.int .i64 0)], (.int .i64), false⟩),
  (4, ⟨1, 1, false, .bool, [(.bool false)], .bool, false⟩),
  (5, ⟨1, 1, false, (.int .u8), [(.int .u8 0)], (.int .u8), false⟩),
  (9, ⟨1, 16, false, .str, [(.str ByteArray.empty)], .str, false⟩),
  (22, ⟨1, 8, false, (.int .u64), [(.int .u64 0)], (.int .u64), false⟩),
  (24, ⟨5, 48, true, (.cons (.int .i64) (.cons .bool (.cons (.int .i64) (.cons (.int .u64) (.cons .str .nil))))), [(.int .i64 0), (.bool false), (.int .i64 0), (.int .u64 0), (.str ByteArray.empty)], (.struct [(0, 3, 1), (1, 4, 1), (2, 2, 1), (3, 22, 1), (4, 9, 1)]), true⟩),
  (29, ⟨1, 8, false, .flt, [(.flt 0)], .flt, false⟩),
  (44, ⟨1, 8, false, (.int .i64), [(.int .i64 0)], (.int .i64), false⟩),
  (57, ⟨2, 24, true, (.cons .str (.cons .bool .nil)), [(.str ByteArray.empty), (.bool false)], (.struct [(0, 9, 1), (1, 4, 1)]), true⟩),
  (63, ⟨1, 8, false, .nil, [.nilp], (.ptr 71), false⟩),
  (68, ⟨1, 24, false, (.sl (.int .u8)), [.nils], (.slice 5), false⟩),
  (71, ⟨3, 32, true, (.cons .str (.cons (.int .i64) (.cons (.int .i64) .nil))), [(.str ByteArray.empty), (.int .i64 0), (.int .i64 0)], (.struct [(0, 9, 1), (1, 3, 1), (2, 44, 1)]), true⟩)]
/-! ### chartularylaw04_nan : function 18 -/
abbrev chartularylaw04_nan.R := (Bool × Unit) × (Unit)
noncomputable def chartularylaw04_nan.f : Nat → Int → Option chartularylaw04_nan.R
  | 0, _ => none
  | k + 1, x0 =>
    (ck (!decide ((1 : Int) < 0))).bind fun _ =>
    some ((decide ((IntKind.wrap .u64 (x0 * 2 ^ (min (1 : Int).toNat (IntKind.bits .u64))) : Int) > 18437736874454810624), ()), (()))
abbrev chartularylaw04_nan.ini : LSh := ⟨[(0, .val (.int .u64))], []⟩
abbrev chartularylaw04_nan.out : LSh := ⟨[(0, .val .bool)], []⟩
noncomputable def chartularylaw04_nan.labF : Nat → Option (LabF chartularylaw04_nan.out.den)
  | _ => none
noncomputable def chartularylaw04_nan.fd : FnD := ⟨Try.f18, chartularylaw04_nan.ini, chartularylaw04_nan.out, 1, [], [], chartularylaw04_nan.labF, fun k (d : (Int × Unit) × (Unit)) => (chartularylaw04_nan.f k d.1.1 : Option chartularylaw04_nan.R)⟩

/-! ### chartularylaw04_clean : function 11 -/
abbrev chartularylaw04_clean.R := ((Int × Bool × Int × Int × ByteArray × Unit) × Unit) × (Unit)
noncomputable def chartularylaw04_clean.f : Nat → (Int × Bool × Int × Int × ByteArray × Unit) → Option chartularylaw04_clean.R
  | 0, _ => none
  | k + 1, x0 =>
    bif (x0.1 : Int) == 1 then
      some (((1, (x0.2.1, (0, (0, (ByteArray.empty, ()))))), ()), (()))
    else
    bif (x0.1 : Int) == 2 then
      some (((2, (false, (x0.2.2.1, (0, (ByteArray.empty, ()))))), ()), (()))
    else
    bif (x0.1 : Int) == 3 then
      (chartularylaw04_nan.f k x0.2.2.2.1).bind fun r1 =>
      bif r1.1.1 then
        some (((3, (false, (0, (9221120237041090561, (ByteArray.empty, ()))))), ()), (()))
      else
        some (((3, (false, (0, (x0.2.2.2.1, (ByteArray.empty, ()))))), ()), (()))
    else
    bif (x0.1 : Int) == 4 then
      some (((4, (false, (0, (0, (x0.2.2.2.2.1, ()))))), ()), (()))
    else
      some (((x0.1, (false, (0, (0, (ByteArray.empty, ()))))), ()), (()))
abbrev chartularylaw04_clean.ini : LSh := ⟨[(0, .val (.cons (.int .i64) (.cons .bool (.cons (.int .i64) (.cons (.int .u64) (.cons .str .nil))))))], []⟩
abbrev chartularylaw04_clean.out : LSh := ⟨[(0, .val (.cons (.int .i64) (.cons .bool (.cons (.int .i64) (.cons (.int .u64) (.cons .str .nil))))))], []⟩
noncomputable def chartularylaw04_clean.labF : Nat → Option (LabF chartularylaw04_clean.out.den)
  | _ => none
noncomputable def chartularylaw04_clean.fd : FnD := ⟨Try.f11, chartularylaw04_clean.ini, chartularylaw04_clean.out, 1, [], [], chartularylaw04_clean.labF, fun k (d : ((Int × Bool × Int × Int × ByteArray × Unit) × Unit) × (Unit)) => (chartularylaw04_clean.f k d.1.1 : Option chartularylaw04_clean.R)⟩

/-! ### chartularylaw04_right : function 13 -/
abbrev chartularylaw04_right.R := (Bool × Unit) × (Unit)
noncomputable def chartularylaw04_right.f : Nat → (Int × Bool × Int × Int × ByteArray × Unit) → Option chartularylaw04_right.R
  | 0, _ => none
  | k + 1, x0 =>
    bif decide ((x0.1 : Int) ≥ 0) then
      bif decide ((x0.1 : Int) ≤ 4) then
        (chartularylaw04_clean.f k (x0.1, (x0.2.1, (x0.2.2.1, (x0.2.2.2.1, (x0.2.2.2.2.1, ())))))).bind fun r1 =>
        bif ((x0.1 : Int) == r1.1.1.1 && (x0.2.1 == r1.1.1.2.1 && ((x0.2.2.1 : Int) == r1.1.1.2.2.1 && ((x0.2.2.2.1 : Int) == r1.1.1.2.2.2.1 && (seqB x0.2.2.2.2.1 r1.1.1.2.2.2.2.1 && true))))) then
          some ((decide (((x0.2.2.2.2.1.size : Int) : Int) ≤ 200), ()), (()))
        else
          some ((false, ()), (()))
      else
        some ((false, ()), (()))
    else
      some ((false, ()), (()))
abbrev chartularylaw04_right.ini : LSh := ⟨[(0, .val (.cons (.int .i64) (.cons .bool (.cons (.int .i64) (.cons (.int .u64) (.cons .str .nil))))))], []⟩
abbrev chartularylaw04_right.out : LSh := ⟨[(0, .val .bool)], []⟩
noncomputable def chartularylaw04_right.labF : Nat → Option (LabF chartularylaw04_right.out.den)
  | _ => none
noncomputable def chartularylaw04_right.fd : FnD := ⟨Try.f13, chartularylaw04_right.ini, chartularylaw04_right.out, 1, [], [], chartularylaw04_right.labF, fun k (d : ((Int × Bool × Int × Int × ByteArray × Unit) × Unit) × (Unit)) => (chartularylaw04_right.f k d.1.1 : Option chartularylaw04_right.R)⟩

/-! ### value_Of : function 15 -/
abbrev value_Of.R := ((Int × Bool × Int × Int × ByteArray × Unit) × Unit) × (Unit)
noncomputable def value_Of.f : Nat → Nat → Option value_Of.R
  | 0, _ => none
  | k + 1, x0 =>
    bif !feq x0 x0 then
      some (((3, (false, (0, (9221120237041090561, (ByteArray.empty, ()))))), ()), (()))
    else
      (f64bits.f k x0).bind fun r1 =>
      some (((3, (false, (0, (r1.1.1, (ByteArray.empty, ()))))), ()), (()))
abbrev value_Of.ini : LSh := ⟨[(0, .val .flt)], []⟩
abbrev value_Of.out : LSh := ⟨[(0, .val (.cons (.int .i64) (.cons .bool (.cons (.int .i64) (.cons (.int .u64) (.cons .str .nil))))))], []⟩
noncomputable def value_Of.labF : Nat → Option (LabF value_Of.out.den)
  | _ => none
noncomputable def value_Of.fd : FnD := ⟨Try.f15, value_Of.ini, value_Of.out, 1, [], [], value_Of.labF, fun k (d : (Nat × Unit) × (Unit)) => (value_Of.f k d.1.1 : Option value_Of.R)⟩

/-! ### value_nan : function 28 -/
abbrev value_nan.R := (Bool × Unit) × (Unit)
noncomputable def value_nan.f : Nat → Int → Option value_nan.R
  | 0, _ => none
  | k + 1, x0 =>
    some ((decide ((IntKind.wrap .u64 ((BitVec.ofInt (IntKind.bits .u64) x0 &&& BitVec.ofInt (IntKind.bits .u64) 9223372036854775807).toNat : Int) : Int) > 9218868437227405312), ()), (()))
abbrev value_nan.ini : LSh := ⟨[(0, .val (.int .u64))], []⟩
abbrev value_nan.out : LSh := ⟨[(0, .val .bool)], []⟩
noncomputable def value_nan.labF : Nat → Option (LabF value_nan.out.den)
  | _ => none
noncomputable def value_nan.fd : FnD := ⟨Try.f28, value_nan.ini, value_nan.out, 1, [], [], value_nan.labF, fun k (d : (Int × Unit) × (Unit)) => (value_nan.f k d.1.1 : Option value_nan.R)⟩

/-! ### value_Clean : function 10 -/
abbrev value_Clean.R := ((Int × Bool × Int × Int × ByteArray × Unit) × Unit) × (Unit)
noncomputable def value_Clean.f : Nat → (Int × Bool × Int × Int × ByteArray × Unit) → Option value_Clean.R
  | 0, _ => none
  | k + 1, x0 =>
    bif (x0.1 : Int) == 1 then
      some (((x0.1, (x0.2.1, (0, (0, (ByteArray.empty, ()))))), ()), (()))
    else
    bif (x0.1 : Int) == 2 then
      some (((x0.1, (false, (x0.2.2.1, (0, (ByteArray.empty, ()))))), ()), (()))
    else
    bif (x0.1 : Int) == 3 then
      (value_nan.f k x0.2.2.2.1).bind fun r1 =>
      bif r1.1.1 then
        some (((x0.1, (false, (0, (9221120237041090561, (ByteArray.empty, ()))))), ()), (()))
      else
        some (((x0.1, (false, (0, (x0.2.2.2.1, (ByteArray.empty, ()))))), ()), (()))
    else
    bif (x0.1 : Int) == 4 then
      some (((x0.1, (false, (0, (0, (x0.2.2.2.2.1, ()))))), ()), (()))
    else
      some (((x0.1, (false, (0, (0, (ByteArray.empty, ()))))), ()), (()))
abbrev value_Clean.ini : LSh := ⟨[(0, .val (.cons (.int .i64) (.cons .bool (.cons (.int .i64) (.cons (.int .u64) (.cons .str .nil))))))], []⟩
abbrev value_Clean.out : LSh := ⟨[(0, .val (.cons (.int .i64) (.cons .bool (.cons (.int .i64) (.cons (.int .u64) (.cons .str .nil))))))], []⟩
noncomputable def value_Clean.labF : Nat → Option (LabF value_Clean.out.den)
  | _ => none
noncomputable def value_Clean.fd : FnD := ⟨Try.f10, value_Clean.ini, value_Clean.out, 1, [], [], value_Clean.labF, fun k (d : ((Int × Bool × Int × Int × ByteArray × Unit) × Unit) × (Unit)) => (value_Clean.f k d.1.1 : Option value_Clean.R)⟩

/-! ### value_Right : function 12 -/
abbrev value_Right.R := (Bool × Unit) × (Unit)
noncomputable def value_Right.f : Nat → (Int × Bool × Int × Int × ByteArray × Unit) → Option value_Right.R
  | 0, _ => none
  | k + 1, x0 =>
    bif decide ((x0.1 : Int) ≥ 0) then
      bif decide ((x0.1 : Int) ≤ 4) then
        bif decide (((x0.2.2.2.2.1.size : Int) : Int) ≤ 200) then
          (value_Clean.f k (x0.1, (x0.2.1, (x0.2.2.1, (x0.2.2.2.1, (x0.2.2.2.2.1, ())))))).bind fun r1 =>
          some ((((x0.1 : Int) == r1.1.1.1 && (x0.2.1 == r1.1.1.2.1 && ((x0.2.2.1 : Int) == r1.1.1.2.2.1 && ((x0.2.2.2.1 : Int) == r1.1.1.2.2.2.1 && (seqB x0.2.2.2.2.1 r1.1.1.2.2.2.2.1 && true))))), ()), (()))
        else
          some ((false, ()), (()))
      else
        some ((false, ()), (()))
    else
      some ((false, ()), (()))
abbrev value_Right.ini : LSh := ⟨[(0, .val (.cons (.int .i64) (.cons .bool (.cons (.int .i64) (.cons (.int .u64) (.cons .str .nil))))))], []⟩
abbrev value_Right.out : LSh := ⟨[(0, .val .bool)], []⟩
noncomputable def value_Right.labF : Nat → Option (LabF value_Right.out.den)
  | _ => none
noncomputable def value_Right.fd : FnD := ⟨Try.f12, value_Right.ini, value_Right.out, 1, [], [], value_Right.labF, fun k (d : ((Int × Bool × Int × Int × ByteArray × Unit) × Unit) × (Unit)) => (value_Right.f k d.1.1 : Option value_Right.R)⟩

/-! ### octet_Num : function 52 -/
abbrev octet_Num.R := (ByteArray × Unit) × (Unit)
mutual
noncomputable def octet_Num.l0 : Nat → Int → ByteArray → Option octet_Num.R
  | 0, _, _ => none
  | k + 1, x0, x3 =>
    bif decide ((x0 : Int) > 0) then
      (ck (decide ((strOf ([IntKind.wrap .u8 x0] : List Int)).size + x3.size ≤ 9223372036854775807))).bind fun _ =>
      (ck (!decide ((8 : Int) < 0))).bind fun _ =>
      octet_Num.l0 k (Int.fdiv x0 (2 ^ (min (8 : Int).toNat (IntKind.bits .i64)))) ((strOf ([IntKind.wrap .u8 x0] : List Int)) ++ x3)
    else
      (ck (decide ((strOf ([IntKind.wrap .u8 (x3.size : Int)] : List Int)).size + x3.size ≤ 9223372036854775807))).bind fun _ =>
      some (((strOf ([IntKind.wrap .u8 (x3.size : Int)] : List Int)) ++ x3, ()), (()))
noncomputable def octet_Num.f : Nat → Int → Option octet_Num.R
  | 0, _ => none
  | k + 1, x0 =>
    bif decide ((x0 : Int) < 0) then
      some (((⟨#[]⟩ : ByteArray), ()), (()))
    else
    bif decide ((x0 : Int) ≥ 72057594037927936) then
      some (((⟨#[]⟩ : ByteArray), ()), (()))
    else
      octet_Num.l0 k x0 (⟨#[]⟩ : ByteArray)
end
abbrev octet_Num.ini : LSh := ⟨[(0, .val (.int .i64))], []⟩
abbrev octet_Num.out : LSh := ⟨[(0, .val .str)], []⟩
abbrev octet_Num.l0s : LSh := ⟨[(0, .val (.int .i64)), (3, .val .str)], []⟩
noncomputable def octet_Num.labF : Nat → Option (LabF octet_Num.out.den)
  | 8 => some ⟨octet_Num.l0s, fun k (d : (Int × ByteArray × Unit) × (Unit)) => (octet_Num.l0 k d.1.1 d.1.2.1 : Option octet_Num.R)⟩
  | _ => none
noncomputable def octet_Num.fd : FnD := ⟨Try.f52, octet_Num.ini, octet_Num.out, 1, [], [], octet_Num.labF, fun k (d : (Int × Unit) × (Unit)) => (octet_Num.f k d.1.1 : Option octet_Num.R)⟩

/-! ### octet_Writer_Num : function 36 -/
abbrev octet_Writer_Num.R := (Unit) × ((ByteArray × Bool × Unit) × Unit)
noncomputable def octet_Writer_Num.f : Nat → Int → ByteArray → Bool → Option octet_Writer_Num.R
  | 0, _, _, _ => none
  | k + 1, x1, o0_0, o0_1 =>
    (octet_Num.f k x1).bind fun r1 =>
    bif o0_1 then
      (ck (decide (o0_0.size + r1.1.1.size ≤ 9223372036854775807))).bind fun _ =>
      some ((()), ((o0_0 ++ r1.1.1, true, ()), ()))
    else
      (ck (decide (o0_0.size + r1.1.1.size ≤ 9223372036854775807))).bind fun _ =>
      some ((()), ((o0_0 ++ r1.1.1, r1.1.1.toList == (⟨#[]⟩ : ByteArray).toList, ()), ()))
abbrev octet_Writer_Num.ini : LSh := ⟨[(0, .ptr 1000000 0), (1, .val (.int .i64))], [(1000000, 57, [.val .str, .val .bool])]⟩
abbrev octet_Writer_Num.out : LSh := ⟨[], [(1000000, 57, [.val .str, .val .bool])]⟩
noncomputable def octet_Writer_Num.labF : Nat → Option (LabF octet_Writer_Num.out.den)
  | _ => none
noncomputable def octet_Writer_Num.fd : FnD := ⟨Try.f36, octet_Writer_Num.ini, octet_Writer_Num.out, 0, [1000000], [], octet_Writer_Num.labF, fun k (d : (Unit × Int × Unit) × ((ByteArray × Bool × Unit) × Unit)) => (octet_Writer_Num.f k d.1.2.1 d.2.1.1 d.2.1.2.1 : Option octet_Writer_Num.R)⟩

/-! ### octet_Writer_Flag : function 37 -/
abbrev octet_Writer_Flag.R := (Unit) × ((ByteArray × Bool × Unit) × Unit)
noncomputable def octet_Writer_Flag.f : Nat → Bool → ByteArray → Bool → Option octet_Writer_Flag.R
  | 0, _, _, _ => none
  | k + 1, x1, o0_0, o0_1 =>
    bif x1 then
      (ck (decide (o0_0.size + (⟨#[1]⟩ : ByteArray).size ≤ 9223372036854775807))).bind fun _ =>
      some ((()), ((o0_0 ++ (⟨#[1]⟩ : ByteArray), o0_1, ()), ()))
    else
      (ck (decide (o0_0.size + (⟨#[0]⟩ : ByteArray).size ≤ 9223372036854775807))).bind fun _ =>
      some ((()), ((o0_0 ++ (⟨#[0]⟩ : ByteArray), o0_1, ()), ()))
abbrev octet_Writer_Flag.ini : LSh := ⟨[(0, .ptr 1000000 0), (1, .val .bool)], [(1000000, 57, [.val .str, .val .bool])]⟩
abbrev octet_Writer_Flag.out : LSh := ⟨[], [(1000000, 57, [.val .str, .val .bool])]⟩
noncomputable def octet_Writer_Flag.labF : Nat → Option (LabF octet_Writer_Flag.out.den)
  | _ => none
noncomputable def octet_Writer_Flag.fd : FnD := ⟨Try.f37, octet_Writer_Flag.ini, octet_Writer_Flag.out, 0, [1000000], [], octet_Writer_Flag.labF, fun k (d : (Unit × Bool × Unit) × ((ByteArray × Bool × Unit) × Unit)) => (octet_Writer_Flag.f k d.1.2.1 d.2.1.1 d.2.1.2.1 : Option octet_Writer_Flag.R)⟩

/-! ### octet_Writer_Raw : function 38 -/
abbrev octet_Writer_Raw.R := (Unit) × ((ByteArray × Bool × Unit) × Unit)
noncomputable def octet_Writer_Raw.f : Nat → ByteArray → ByteArray → Bool → Option octet_Writer_Raw.R
  | 0, _, _, _ => none
  | k + 1, x1, o0_0, o0_1 =>
    (ck (decide (o0_0.size + x1.size ≤ 9223372036854775807))).bind fun _ =>
    some ((()), ((o0_0 ++ x1, o0_1, ()), ()))
abbrev octet_Writer_Raw.ini : LSh := ⟨[(0, .ptr 1000000 0), (1, .val .str)], [(1000000, 57, [.val .str, .val .bool])]⟩
abbrev octet_Writer_Raw.out : LSh := ⟨[], [(1000000, 57, [.val .str, .val .bool])]⟩
noncomputable def octet_Writer_Raw.labF : Nat → Option (LabF octet_Writer_Raw.out.den)
  | _ => none
noncomputable def octet_Writer_Raw.fd : FnD := ⟨Try.f38, octet_Writer_Raw.ini, octet_Writer_Raw.out, 0, [1000000], [], octet_Writer_Raw.labF, fun k (d : (Unit × ByteArray × Unit) × ((ByteArray × Bool × Unit) × Unit)) => (octet_Writer_Raw.f k d.1.2.1 d.2.1.1 d.2.1.2.1 : Option octet_Writer_Raw.R)⟩

/-! ### value_eight : function 39 -/
abbrev value_eight.R := (ByteArray × Unit) × (Unit)
mutual
noncomputable def value_eight.l0 : Nat → Int → (List Int) → Int → Int → Option value_eight.R
  | 0, _, _, _, _ => none
  | k + 1, x0, x3, x7, x8 =>
    bif decide ((x8 : Int) < x7) then
      (ck (!decide ((IntKind.wrap .i64 (56 - (IntKind.wrap .i64 (8 * x8))) : Int) < 0))).bind fun _ =>
      (ck (decide (0 ≤ x8) && decide (x8 < (x3.length : Int)))).bind fun _ =>
      value_eight.l0 k x0 (x3.set x8.toNat (IntKind.wrap .u8 (Int.fdiv x0 (2 ^ (min (IntKind.wrap .i64 (56 - (IntKind.wrap .i64 (8 * x8))) : Int).toNat (IntKind.bits .u64)))))) x7 (IntKind.wrap .i64 (x8 + 1))
    else
      some ((strOf x3, ()), (()))
noncomputable def value_eight.f : Nat → Int → Option value_eight.R
  | 0, _ => none
  | k + 1, x0 =>
    (ck (decide (0 ≤ 8) && decide (8 = 8) && decide (8 * 1 ≤ 281474976710656) && decide (8 ≤ 9223372036854775807))).bind fun _ =>
    value_eight.l0 k x0 (List.replicate (8 : Int).toNat (0 : Int)) ((List.replicate (8 : Int).toNat (0 : Int)).length : Int) 0
end
abbrev value_eight.ini : LSh := ⟨[(0, .val (.int .u64))], []⟩
abbrev value_eight.out : LSh := ⟨[(0, .val .str)], []⟩
abbrev value_eight.l0s : LSh := ⟨[(0, .val (.int .u64)), (3, .own 2000003 5 (.mu (.int .u8))), (7, .val (.int .i64)), (8, .val (.int .i64))], []⟩
noncomputable def value_eight.labF : Nat → Option (LabF value_eight.out.den)
  | 6 => some ⟨value_eight.l0s, fun k (d : (Int × List Int × Int × Int × Unit) × (Unit)) => (value_eight.l0 k d.1.1 d.1.2.1 d.1.2.2.1 d.1.2.2.2.1 : Option value_eight.R)⟩
  | _ => none
noncomputable def value_eight.fd : FnD := ⟨Try.f39, value_eight.ini, value_eight.out, 1, [], [], value_eight.labF, fun k (d : (Int × Unit) × (Unit)) => (value_eight.f k d.1.1 : Option value_eight.R)⟩

/-! ### octet_Text : function 53 -/
abbrev octet_Text.R := (ByteArray × Unit) × (Unit)
noncomputable def octet_Text.f : Nat → ByteArray → Option octet_Text.R
  | 0, _ => none
  | k + 1, x0 =>
    (octet_Num.f k (x0.size : Int)).bind fun r1 =>
    (ck (decide (r1.1.1.size + x0.size ≤ 9223372036854775807))).bind fun _ =>
    some ((r1.1.1 ++ x0, ()), (()))
abbrev octet_Text.ini : LSh := ⟨[(0, .val .str)], []⟩
abbrev octet_Text.out : LSh := ⟨[(0, .val .str)], []⟩
noncomputable def octet_Text.labF : Nat → Option (LabF octet_Text.out.den)
  | _ => none
noncomputable def octet_Text.fd : FnD := ⟨Try.f53, octet_Text.ini, octet_Text.out, 1, [], [], octet_Text.labF, fun k (d : (ByteArray × Unit) × (Unit)) => (octet_Text.f k d.1.1 : Option octet_Text.R)⟩

/-! ### octet_Writer_Text : function 40 -/
abbrev octet_Writer_Text.R := (Unit) × ((ByteArray × Bool × Unit) × Unit)
noncomputable def octet_Writer_Text.f : Nat → ByteArray → ByteArray → Bool → Option octet_Writer_Text.R
  | 0, _, _, _ => none
  | k + 1, x1, o0_0, o0_1 =>
    (octet_Text.f k x1).bind fun r1 =>
    (ck (decide (o0_0.size + r1.1.1.size ≤ 9223372036854775807))).bind fun _ =>
    some ((()), ((o0_0 ++ r1.1.1, o0_1, ()), ()))
abbrev octet_Writer_Text.ini : LSh := ⟨[(0, .ptr 1000000 0), (1, .val .str)], [(1000000, 57, [.val .str, .val .bool])]⟩
abbrev octet_Writer_Text.out : LSh := ⟨[], [(1000000, 57, [.val .str, .val .bool])]⟩
noncomputable def octet_Writer_Text.labF : Nat → Option (LabF octet_Writer_Text.out.den)
  | _ => none
noncomputable def octet_Writer_Text.fd : FnD := ⟨Try.f40, octet_Writer_Text.ini, octet_Writer_Text.out, 0, [1000000], [], octet_Writer_Text.labF, fun k (d : (Unit × ByteArray × Unit) × ((ByteArray × Bool × Unit) × Unit)) => (octet_Writer_Text.f k d.1.2.1 d.2.1.1 d.2.1.2.1 : Option octet_Writer_Text.R)⟩

/-! ### octet_Writer_All : function 41 -/
abbrev octet_Writer_All.R := (ByteArray × Bool × Unit) × (Unit)
noncomputable def octet_Writer_All.f : Nat → ByteArray → Bool → Option octet_Writer_All.R
  | 0, _, _ => none
  | k + 1, o0_0, o0_1 =>
    bif o0_1 then
      some (((⟨#[]⟩ : ByteArray), false, ()), (()))
    else
      some ((o0_0, true, ()), (()))
abbrev octet_Writer_All.ini : LSh := ⟨[(0, .ptr 1000000 0)], [(1000000, 57, [.val .str, .val .bool])]⟩
abbrev octet_Writer_All.out : LSh := ⟨[(0, .val .str), (1, .val .bool)], []⟩
noncomputable def octet_Writer_All.labF : Nat → Option (LabF octet_Writer_All.out.den)
  | _ => none
noncomputable def octet_Writer_All.fd : FnD := ⟨Try.f41, octet_Writer_All.ini, octet_Writer_All.out, 2, [1000000], [1000000], octet_Writer_All.labF, fun k (d : (Unit × Unit) × ((ByteArray × Bool × Unit) × Unit)) => (octet_Writer_All.f k d.2.1.1 d.2.1.2.1 : Option octet_Writer_All.R)⟩

/-! ### value_Bytes : function 26 -/
abbrev value_Bytes.R := (ByteArray × Unit) × (Unit)
mutual
noncomputable def value_Bytes.j0 : Nat → ByteArray → Bool → Option value_Bytes.R
  | 0, _, _ => none
  | k + 1, o10_0, o10_1 =>
    (octet_Writer_All.f k o10_0 o10_1).bind fun r9 =>
    some ((r9.1.1, ()), (()))
noncomputable def value_Bytes.f : Nat → (Int × Bool × Int × Int × ByteArray × Unit) → Option value_Bytes.R
  | 0, _ => none
  | k + 1, x0 =>
    (value_Right.f k (x0.1, (x0.2.1, (x0.2.2.1, (x0.2.2.2.1, (x0.2.2.2.2.1, ())))))).bind fun r1 =>
    bif !r1.1.1 then
      some (((⟨#[]⟩ : ByteArray), ()), (()))
    else
      (octet_Writer_Num.f k x0.1 ByteArray.empty false).bind fun r2 =>
      bif (x0.1 : Int) == 1 then
        (octet_Writer_Flag.f k x0.2.1 r2.2.1.1 r2.2.1.2.1).bind fun r3 =>
        value_Bytes.j0 k r3.2.1.1 r3.2.1.2.1
      else
      bif (x0.1 : Int) == 2 then
        (value_eight.f k (IntKind.wrap .u64 x0.2.2.1)).bind fun r4 =>
        (octet_Writer_Raw.f k r4.1.1 r2.2.1.1 r2.2.1.2.1).bind fun r5 =>
        value_Bytes.j0 k r5.2.1.1 r5.2.1.2.1
      else
      bif (x0.1 : Int) == 3 then
        (value_eight.f k x0.2.2.2.1).bind fun r6 =>
        (octet_Writer_Raw.f k r6.1.1 r2.2.1.1 r2.2.1.2.1).bind fun r7 =>
        value_Bytes.j0 k r7.2.1.1 r7.2.1.2.1
      else
      bif (x0.1 : Int) == 4 then
        (octet_Writer_Text.f k x0.2.2.2.2.1 r2.2.1.1 r2.2.1.2.1).bind fun r8 =>
        value_Bytes.j0 k r8.2.1.1 r8.2.1.2.1
      else
        value_Bytes.j0 k r2.2.1.1 r2.2.1.2.1
end
abbrev value_Bytes.ini : LSh := ⟨[(0, .val (.cons (.int .i64) (.cons .bool (.cons (.int .i64) (.cons (.int .u64) (.cons .str .nil))))))], []⟩
abbrev value_Bytes.out : LSh := ⟨[(0, .val .str)], []⟩
abbrev value_Bytes.j0s : LSh := ⟨[(3, .ptr 10 0)], [(10, 57, [.val .str, .val .bool])]⟩
noncomputable def value_Bytes.labF : Nat → Option (LabF value_Bytes.out.den)
  | 29 => some ⟨value_Bytes.j0s, fun k (d : (Unit × Unit) × ((ByteArray × Bool × Unit) × Unit)) => (value_Bytes.j0 k d.2.1.1 d.2.1.2.1 : Option value_Bytes.R)⟩
  | _ => none
noncomputable def value_Bytes.fd : FnD := ⟨Try.f26, value_Bytes.ini, value_Bytes.out, 1, [], [], value_Bytes.labF, fun k (d : ((Int × Bool × Int × Int × ByteArray × Unit) × Unit) × (Unit)) => (value_Bytes.f k d.1.1 : Option value_Bytes.R)⟩

/-! ### chartularylaw04_awake : function 14 -/
abbrev chartularylaw04_awake.R := (Bool × Unit) × (Unit)
noncomputable def chartularylaw04_awake.f : Nat → Option chartularylaw04_awake.R
  | 0 => none
  | k + 1 =>
    (value_Of.f k 4607182418800017408).bind fun r1 =>
    (value_Bytes.f k (r1.1.1.1, (r1.1.1.2.1, (r1.1.1.2.2.1, (r1.1.1.2.2.2.1, (r1.1.1.2.2.2.2.1, ())))))).bind fun r2 =>
    some ((r2.1.1.toList == (⟨#[1, 3, 63, 240, 0, 0, 0, 0, 0, 0]⟩ : ByteArray).toList, ()), (()))
abbrev chartularylaw04_awake.ini : LSh := ⟨[], []⟩
abbrev chartularylaw04_awake.out : LSh := ⟨[(0, .val .bool)], []⟩
noncomputable def chartularylaw04_awake.labF : Nat → Option (LabF chartularylaw04_awake.out.den)
  | _ => none
noncomputable def chartularylaw04_awake.fd : FnD := ⟨Try.f14, chartularylaw04_awake.ini, chartularylaw04_awake.out, 1, [], [], chartularylaw04_awake.labF, fun k (d : (Unit) × (Unit)) => (chartularylaw04_awake.f k : Option chartularylaw04_awake.R)⟩

/-! ### value_Float : function 17 -/
abbrev value_Float.R := (Nat × Bool × Unit) × (Unit)
noncomputable def value_Float.f : Nat → (Int × Bool × Int × Int × ByteArray × Unit) → Option value_Float.R
  | 0, _ => none
  | k + 1, x0 =>
    bif (x0.1 : Int) != 3 then
      some ((0, false, ()), (()))
    else
      (value_Right.f k (x0.1, (x0.2.1, (x0.2.2.1, (x0.2.2.2.1, (x0.2.2.2.2.1, ())))))).bind fun r1 =>
      bif !r1.1.1 then
        some ((0, false, ()), (()))
      else
        (f64from.f k x0.2.2.2.1).bind fun r2 =>
        some ((r2.1.1, true, ()), (()))
abbrev value_Float.ini : LSh := ⟨[(0, .val (.cons (.int .i64) (.cons .bool (.cons (.int .i64) (.cons (.int .u64) (.cons .str .nil))))))], []⟩
abbrev value_Float.out : LSh := ⟨[(0, .val .flt), (1, .val .bool)], []⟩
noncomputable def value_Float.labF : Nat → Option (LabF value_Float.out.den)
  | _ => none
noncomputable def value_Float.fd : FnD := ⟨Try.f17, value_Float.ini, value_Float.out, 2, [], [], value_Float.labF, fun k (d : ((Int × Bool × Int × Int × ByteArray × Unit) × Unit) × (Unit)) => (value_Float.f k d.1.1 : Option value_Float.R)⟩

/-! ### value_Worth : function 23 -/
abbrev value_Worth.R := (Bool × Unit) × (Unit)
noncomputable def value_Worth.f : Nat → (Int × Bool × Int × Int × ByteArray × Unit) → (Int × Bool × Int × Int × ByteArray × Unit) → Option value_Worth.R
  | 0, _, _ => none
  | k + 1, x0, x1 =>
    (value_Float.f k (x0.1, (x0.2.1, (x0.2.2.1, (x0.2.2.2.1, (x0.2.2.2.2.1, ())))))).bind fun r1 =>
    (value_Float.f k (x1.1, (x1.2.1, (x1.2.2.1, (x1.2.2.2.1, (x1.2.2.2.2.1, ())))))).bind fun r2 =>
    bif r1.1.2.1 then
      bif r2.1.2.1 then
        some ((feq r1.1.1 r2.1.1, ()), (()))
      else
        some ((false, ()), (()))
    else
      some ((false, ()), (()))
abbrev value_Worth.ini : LSh := ⟨[(0, .val (.cons (.int .i64) (.cons .bool (.cons (.int .i64) (.cons (.int .u64) (.cons .str .nil)))))), (1, .val (.cons (.int .i64) (.cons .bool (.cons (.int .i64) (.cons (.int .u64) (.cons .str .nil))))))], []⟩
abbrev value_Worth.out : LSh := ⟨[(0, .val .bool)], []⟩
noncomputable def value_Worth.labF : Nat → Option (LabF value_Worth.out.den)
  | _ => none
noncomputable def value_Worth.fd : FnD := ⟨Try.f23, value_Worth.ini, value_Worth.out, 1, [], [], value_Worth.labF, fun k (d : ((Int × Bool × Int × Int × ByteArray × Unit) × (Int × Bool × Int × Int × ByteArray × Unit) × Unit) × (Unit)) => (value_Worth.f k d.1.1 d.1.2.1 : Option value_Worth.R)⟩

/-! ### math_Trunc : function 35 -/
abbrev math_Trunc.R := (Nat × Unit) × (Unit)
noncomputable def math_Trunc.f : Nat → Nat → Option math_Trunc.R
  | 0, _ => none
  | k + 1, x0 =>
    (f64trunc.f k x0).bind fun r1 =>
    some ((r1.1.1, ()), (()))
abbrev math_Trunc.ini : LSh := ⟨[(0, .val .flt)], []⟩
abbrev math_Trunc.out : LSh := ⟨[(0, .val .flt)], []⟩
noncomputable def math_Trunc.labF : Nat → Option (LabF math_Trunc.out.den)
  | _ => none
noncomputable def math_Trunc.fd : FnD := ⟨Try.f35, math_Trunc.ini, math_Trunc.out, 1, [], [], math_Trunc.labF, fun k (d : (Nat × Unit) × (Unit)) => (math_Trunc.f k d.1.1 : Option math_Trunc.R)⟩

/-! ### value_Whole : function 24 -/
abbrev value_Whole.R := (Int × Bool × Unit) × (Unit)
mutual
noncomputable def value_Whole.j0 : Nat → Int → Bool → Int → Int → ByteArray → Option value_Whole.R
  | 0, _, _, _, _, _ => none
  | k + 1, o1_0, o1_1, o1_2, o1_3, o1_4 =>
    (value_Float.f k (o1_0, (o1_1, (o1_2, (o1_3, (o1_4, ())))))).bind fun r2 =>
    bif !r2.1.2.1 then
      some ((0, false, ()), (()))
    else
    bif flt' r2.1.1 14114281232179134464 then
      some ((0, false, ()), (()))
    else
    bif fgt r2.1.1 4890909195324358656 || feq r2.1.1 4890909195324358656 then
      some ((0, false, ()), (()))
    else
      (math_Trunc.f k r2.1.1).bind fun r3 =>
      bif !feq r2.1.1 r3.1.1 then
        some ((0, false, ()), (()))
      else
        (floatToIntVal .f64 r2.1.1 .i64).bind fun t4 =>
        some ((t4, true, ()), (()))
noncomputable def value_Whole.f : Nat → (Int × Bool × Int × Int × ByteArray × Unit) → Option value_Whole.R
  | 0, _ => none
  | k + 1, x0 =>
    bif (x0.1 : Int) == 2 then
      (value_Right.f k (x0.1, (x0.2.1, (x0.2.2.1, (x0.2.2.2.1, (x0.2.2.2.2.1, ())))))).bind fun r1 =>
      bif r1.1.1 then
        some ((x0.2.2.1, true, ()), (()))
      else
        value_Whole.j0 k x0.1 x0.2.1 x0.2.2.1 x0.2.2.2.1 x0.2.2.2.2.1
    else
      value_Whole.j0 k x0.1 x0.2.1 x0.2.2.1 x0.2.2.2.1 x0.2.2.2.2.1
end
abbrev value_Whole.ini : LSh := ⟨[(0, .val (.cons (.int .i64) (.cons .bool (.cons (.int .i64) (.cons (.int .u64) (.cons .str .nil))))))], []⟩
abbrev value_Whole.out : LSh := ⟨[(0, .val (.int .i64)), (1, .val .bool)], []⟩
abbrev value_Whole.j0s : LSh := ⟨[(1, .ptr 1 0)], [(1, 24, [.val (.int .i64), .val .bool, .val (.int .i64), .val (.int .u64), .val .str])]⟩
noncomputable def value_Whole.labF : Nat → Option (LabF value_Whole.out.den)
  | 7 => some ⟨value_Whole.j0s, fun k (d : (Unit × Unit) × ((Int × Bool × Int × Int × ByteArray × Unit) × Unit)) => (value_Whole.j0 k d.2.1.1 d.2.1.2.1 d.2.1.2.2.1 d.2.1.2.2.2.1 d.2.1.2.2.2.2.1 : Option value_Whole.R)⟩
  | _ => none
noncomputable def value_Whole.fd : FnD := ⟨Try.f24, value_Whole.ini, value_Whole.out, 2, [], [], value_Whole.labF, fun k (d : ((Int × Bool × Int × Int × ByteArray × Unit) × Unit) × (Unit)) => (value_Whole.f k d.1.1 : Option value_Whole.R)⟩

/-! ### chartularylaw04_worth : function 25 -/
abbrev chartularylaw04_worth.R := (Int × Bool × Unit) × (Unit)
mutual
noncomputable def chartularylaw04_worth.j0 : Nat → Int → Int → Option chartularylaw04_worth.R
  | 0, _, _ => none
  | k + 1, x0, x5 =>
    (ck (!decide ((63 : Int) < 0))).bind fun _ =>
    bif (Int.fdiv x0 (2 ^ (min (63 : Int).toNat (IntKind.bits .u64))) : Int) == 1 then
      some ((IntKind.wrap .i64 (0 - IntKind.wrap .i64 x5), true, ()), (()))
    else
      some ((IntKind.wrap .i64 x5, true, ()), (()))
noncomputable def chartularylaw04_worth.f : Nat → Int → Option chartularylaw04_worth.R
  | 0, _ => none
  | k + 1, x0 =>
    (ck (!decide ((1 : Int) < 0))).bind fun _ =>
    bif (IntKind.wrap .u64 (x0 * 2 ^ (min (1 : Int).toNat (IntKind.bits .u64))) : Int) == 0 then
      some ((0, true, ()), (()))
    else
      (ck (!decide ((52 : Int) < 0))).bind fun _ =>
      bif (x0 : Int) == 14114281232179134464 then
        some (((-9223372036854775808), true, ()), (()))
      else
      bif decide ((IntKind.wrap .i64 (IntKind.wrap .u64 ((BitVec.ofInt (IntKind.bits .u64) (Int.fdiv x0 (2 ^ (min (52 : Int).toNat (IntKind.bits .u64)))) &&& BitVec.ofInt (IntKind.bits .u64) 2047).toNat : Int)) : Int) < 1023) then
        some ((0, false, ()), (()))
      else
      bif decide ((IntKind.wrap .i64 (IntKind.wrap .u64 ((BitVec.ofInt (IntKind.bits .u64) (Int.fdiv x0 (2 ^ (min (52 : Int).toNat (IntKind.bits .u64)))) &&& BitVec.ofInt (IntKind.bits .u64) 2047).toNat : Int)) : Int) > 1085) then
        some ((0, false, ()), (()))
      else
      bif decide ((IntKind.wrap .i64 (IntKind.wrap .u64 ((BitVec.ofInt (IntKind.bits .u64) (Int.fdiv x0 (2 ^ (min (52 : Int).toNat (IntKind.bits .u64)))) &&& BitVec.ofInt (IntKind.bits .u64) 2047).toNat : Int)) : Int) < 1075) then
        (ck (!decide ((IntKind.wrap .i64 (1075 - (IntKind.wrap .i64 (IntKind.wrap .u64 ((BitVec.ofInt (IntKind.bits .u64) (Int.fdiv x0 (2 ^ (min (52 : Int).toNat (IntKind.bits .u64)))) &&& BitVec.ofInt (IntKind.bits .u64) 2047).toNat : Int)))) : Int) < 0))).bind fun _ =>
        (ck (!decide ((IntKind.wrap .i64 (1075 - (IntKind.wrap .i64 (IntKind.wrap .u64 ((BitVec.ofInt (IntKind.bits .u64) (Int.fdiv x0 (2 ^ (min (52 : Int).toNat (IntKind.bits .u64)))) &&& BitVec.ofInt (IntKind.bits .u64) 2047).toNat : Int)))) : Int) < 0))).bind fun _ =>
        bif (IntKind.wrap .u64 (Int.fdiv (IntKind.wrap .u64 ((BitVec.ofInt (IntKind.bits .u64) (IntKind.wrap .u64 ((BitVec.ofInt (IntKind.bits .u64) x0 &&& BitVec.ofInt (IntKind.bits .u64) 4503599627370495).toNat : Int)) ||| BitVec.ofInt (IntKind.bits .u64) 4503599627370496).toNat : Int)) (2 ^ (min (IntKind.wrap .i64 (1075 - (IntKind.wrap .i64 (IntKind.wrap .u64 ((BitVec.ofInt (IntKind.bits .u64) (Int.fdiv x0 (2 ^ (min (52 : Int).toNat (IntKind.bits .u64)))) &&& BitVec.ofInt (IntKind.bits .u64) 2047).toNat : Int)))) : Int).toNat (IntKind.bits .u64))) * 2 ^ (min (IntKind.wrap .i64 (1075 - (IntKind.wrap .i64 (IntKind.wrap .u64 ((BitVec.ofInt (IntKind.bits .u64) (Int.fdiv x0 (2 ^ (min (52 : Int).toNat (IntKind.bits .u64)))) &&& BitVec.ofInt (IntKind.bits .u64) 2047).toNat : Int)))) : Int).toNat (IntKind.bits .u64))) : Int) != IntKind.wrap .u64 ((BitVec.ofInt (IntKind.bits .u64) (IntKind.wrap .u64 ((BitVec.ofInt (IntKind.bits .u64) x0 &&& BitVec.ofInt (IntKind.bits .u64) 4503599627370495).toNat : Int)) ||| BitVec.ofInt (IntKind.bits .u64) 4503599627370496).toNat : Int) then
          some ((0, false, ()), (()))
        else
          (ck (!decide ((IntKind.wrap .i64 (1075 - (IntKind.wrap .i64 (IntKind.wrap .u64 ((BitVec.ofInt (IntKind.bits .u64) (Int.fdiv x0 (2 ^ (min (52 : Int).toNat (IntKind.bits .u64)))) &&& BitVec.ofInt (IntKind.bits .u64) 2047).toNat : Int)))) : Int) < 0))).bind fun _ =>
          chartularylaw04_worth.j0 k x0 (Int.fdiv (IntKind.wrap .u64 ((BitVec.ofInt (IntKind.bits .u64) (IntKind.wrap .u64 ((BitVec.ofInt (IntKind.bits .u64) x0 &&& BitVec.ofInt (IntKind.bits .u64) 4503599627370495).toNat : Int)) ||| BitVec.ofInt (IntKind.bits .u64) 4503599627370496).toNat : Int)) (2 ^ (min (IntKind.wrap .i64 (1075 - (IntKind.wrap .i64 (IntKind.wrap .u64 ((BitVec.ofInt (IntKind.bits .u64) (Int.fdiv x0 (2 ^ (min (52 : Int).toNat (IntKind.bits .u64)))) &&& BitVec.ofInt (IntKind.bits .u64) 2047).toNat : Int)))) : Int).toNat (IntKind.bits .u64))))
      else
        (ck (!decide ((IntKind.wrap .i64 ((IntKind.wrap .i64 (IntKind.wrap .u64 ((BitVec.ofInt (IntKind.bits .u64) (Int.fdiv x0 (2 ^ (min (52 : Int).toNat (IntKind.bits .u64)))) &&& BitVec.ofInt (IntKind.bits .u64) 2047).toNat : Int))) - 1075) : Int) < 0))).bind fun _ =>
        chartularylaw04_worth.j0 k x0 (IntKind.wrap .u64 (IntKind.wrap .u64 ((BitVec.ofInt (IntKind.bits .u64) (IntKind.wrap .u64 ((BitVec.ofInt (IntKind.bits .u64) x0 &&& BitVec.ofInt (IntKind.bits .u64) 4503599627370495).toNat : Int)) ||| BitVec.ofInt (IntKind.bits .u64) 4503599627370496).toNat : Int) * 2 ^ (min (IntKind.wrap .i64 ((IntKind.wrap .i64 (IntKind.wrap .u64 ((BitVec.ofInt (IntKind.bits .u64) (Int.fdiv x0 (2 ^ (min (52 : Int).toNat (IntKind.bits .u64)))) &&& BitVec.ofInt (IntKind.bits .u64) 2047).toNat : Int))) - 1075) : Int).toNat (IntKind.bits .u64))))
end
abbrev chartularylaw04_worth.ini : LSh := ⟨[(0, .val (.int .u64))], []⟩
abbrev chartularylaw04_worth.out : LSh := ⟨[(0, .val (.int .i64)), (1, .val .bool)], []⟩
abbrev chartularylaw04_worth.j0s : LSh := ⟨[(0, .val (.int .u64)), (5, .val (.int .u64))], []⟩
noncomputable def chartularylaw04_worth.labF : Nat → Option (LabF chartularylaw04_worth.out.den)
  | 31 => some ⟨chartularylaw04_worth.j0s, fun k (d : (Int × Int × Unit) × (Unit)) => (chartularylaw04_worth.j0 k d.1.1 d.1.2.1 : Option chartularylaw04_worth.R)⟩
  | _ => none
noncomputable def chartularylaw04_worth.fd : FnD := ⟨Try.f25, chartularylaw04_worth.ini, chartularylaw04_worth.out, 2, [], [], chartularylaw04_worth.labF, fun k (d : (Int × Unit) × (Unit)) => (chartularylaw04_worth.f k d.1.1 : Option chartularylaw04_worth.R)⟩

/-! ### chartularylaw04_ValueWorths : function 7 -/
abbrev chartularylaw04_ValueWorths.R := (Bool × Unit) × (Unit)
mutual
noncomputable def chartularylaw04_ValueWorths.j0 : Nat → Int → Bool → Int → Int → ByteArray → Int → Bool → Int → Int → ByteArray → Option chartularylaw04_ValueWorths.R
  | 0, _, _, _, _, _, _, _, _, _, _ => none
  | k + 1, o2_0, o2_1, o2_2, o2_3, o2_4, o3_0, o3_1, o3_2, o3_3, o3_4 =>
    (chartularylaw04_right.f k (o2_0, (o2_1, (o2_2, (o2_3, (o2_4, ())))))).bind fun r3 =>
    bif r3.1.1 then
      (chartularylaw04_right.f k (o3_0, (o3_1, (o3_2, (o3_3, (o3_4, ())))))).bind fun r4 =>
      bif r4.1.1 then
        bif (o2_0 : Int) == 3 then
          bif (o3_0 : Int) == 3 then
            (chartularylaw04_nan.f k o2_3).bind fun r5 =>
            bif !r5.1.1 then
              (chartularylaw04_nan.f k o3_3).bind fun r6 =>
              chartularylaw04_ValueWorths.j1 k (!r6.1.1) o2_0 o2_1 o2_2 o2_3 o2_4 o3_0 o3_1 o3_2 o3_3 o3_4
            else
              chartularylaw04_ValueWorths.j1 k false o2_0 o2_1 o2_2 o2_3 o2_4 o3_0 o3_1 o3_2 o3_3 o3_4
          else
            chartularylaw04_ValueWorths.j1 k false o2_0 o2_1 o2_2 o2_3 o2_4 o3_0 o3_1 o3_2 o3_3 o3_4
        else
          chartularylaw04_ValueWorths.j1 k false o2_0 o2_1 o2_2 o2_3 o2_4 o3_0 o3_1 o3_2 o3_3 o3_4
      else
        chartularylaw04_ValueWorths.j1 k false o2_0 o2_1 o2_2 o2_3 o2_4 o3_0 o3_1 o3_2 o3_3 o3_4
    else
      chartularylaw04_ValueWorths.j1 k false o2_0 o2_1 o2_2 o2_3 o2_4 o3_0 o3_1 o3_2 o3_3 o3_4
noncomputable def chartularylaw04_ValueWorths.j1 : Nat → Bool → Int → Bool → Int → Int → ByteArray → Int → Bool → Int → Int → ByteArray → Option chartularylaw04_ValueWorths.R
  | 0, _, _, _, _, _, _, _, _, _, _, _ => none
  | k + 1, x5, o2_0, o2_1, o2_2, o2_3, o2_4, o3_0, o3_1, o3_2, o3_3, o3_4 =>
    (value_Worth.f k (o2_0, (o2_1, (o2_2, (o2_3, (o2_4, ()))))) (o3_0, (o3_1, (o3_2, (o3_3, (o3_4, ())))))).bind fun r7 =>
    bif x5 then
      bif (o2_3 : Int) == o3_3 then
        bif !(r7.1.1 == true) then
          some ((false, ()), (()))
        else
          (value_Whole.f k (o2_0, (o2_1, (o2_2, (o2_3, (o2_4, ())))))).bind fun r8 =>
          (chartularylaw04_right.f k (o2_0, (o2_1, (o2_2, (o2_3, (o2_4, ())))))).bind fun r9 =>
          bif r9.1.1 then
            bif (o2_0 : Int) == 2 then
              bif r8.1.2.1 then
                bif (r8.1.1 : Int) == o2_2 then
                  (chartularylaw04_awake.f k).bind fun r10 =>
                  some ((r10.1.1, ()), (()))
                else
                  some ((false, ()), (()))
              else
                some ((false, ()), (()))
            else
              (chartularylaw04_right.f k (o2_0, (o2_1, (o2_2, (o2_3, (o2_4, ())))))).bind fun r11 =>
              bif !r11.1.1 then
                bif !r8.1.2.1 then
                  bif (r8.1.1 : Int) == 0 then
                    (chartularylaw04_awake.f k).bind fun r12 =>
                    some ((r12.1.1, ()), (()))
                  else
                    some ((false, ()), (()))
                else
                  some ((false, ()), (()))
              else
              bif (o2_0 : Int) != 3 then
                bif !r8.1.2.1 then
                  bif (r8.1.1 : Int) == 0 then
                    (chartularylaw04_awake.f k).bind fun r13 =>
                    some ((r13.1.1, ()), (()))
                  else
                    some ((false, ()), (()))
                else
                  some ((false, ()), (()))
              else
                (chartularylaw04_worth.f k o2_3).bind fun r14 =>
                bif r8.1.2.1 == r14.1.2.1 then
                  bif (r8.1.1 : Int) == r14.1.1 then
                    (chartularylaw04_awake.f k).bind fun r15 =>
                    some ((r15.1.1, ()), (()))
                  else
                    some ((false, ()), (()))
                else
                  some ((false, ()), (()))
          else
            (chartularylaw04_right.f k (o2_0, (o2_1, (o2_2, (o2_3, (o2_4, ())))))).bind fun r16 =>
            bif !r16.1.1 then
              bif !r8.1.2.1 then
                bif (r8.1.1 : Int) == 0 then
                  (chartularylaw04_awake.f k).bind fun r17 =>
                  some ((r17.1.1, ()), (()))
                else
                  some ((false, ()), (()))
              else
                some ((false, ()), (()))
            else
            bif (o2_0 : Int) != 3 then
              bif !r8.1.2.1 then
                bif (r8.1.1 : Int) == 0 then
                  (chartularylaw04_awake.f k).bind fun r18 =>
                  some ((r18.1.1, ()), (()))
                else
                  some ((false, ()), (()))
              else
                some ((false, ()), (()))
            else
              (chartularylaw04_worth.f k o2_3).bind fun r19 =>
              bif r8.1.2.1 == r19.1.2.1 then
                bif (r8.1.1 : Int) == r19.1.1 then
                  (chartularylaw04_awake.f k).bind fun r20 =>
                  some ((r20.1.1, ()), (()))
                else
                  some ((false, ()), (()))
              else
                some ((false, ()), (()))
      else
        (ck (!decide ((1 : Int) < 0))).bind fun _ =>
        bif (IntKind.wrap .u64 (o2_3 * 2 ^ (min (1 : Int).toNat (IntKind.bits .u64))) : Int) == 0 then
          (ck (!decide ((1 : Int) < 0))).bind fun _ =>
          bif !(r7.1.1 == ((IntKind.wrap .u64 (o3_3 * 2 ^ (min (1 : Int).toNat (IntKind.bits .u64))) : Int) == 0)) then
            some ((false, ()), (()))
          else
            (value_Whole.f k (o2_0, (o2_1, (o2_2, (o2_3, (o2_4, ())))))).bind fun r21 =>
            (chartularylaw04_right.f k (o2_0, (o2_1, (o2_2, (o2_3, (o2_4, ())))))).bind fun r22 =>
            bif r22.1.1 then
              bif (o2_0 : Int) == 2 then
                bif r21.1.2.1 then
                  bif (r21.1.1 : Int) == o2_2 then
                    (chartularylaw04_awake.f k).bind fun r23 =>
                    some ((r23.1.1, ()), (()))
                  else
                    some ((false, ()), (()))
                else
                  some ((false, ()), (()))
              else
                (chartularylaw04_right.f k (o2_0, (o2_1, (o2_2, (o2_3, (o2_4, ())))))).bind fun r24 =>
                bif !r24.1.1 then
                  bif !r21.1.2.1 then
                    bif (r21.1.1 : Int) == 0 then
                      (chartularylaw04_awake.f k).bind fun r25 =>
                      some ((r25.1.1, ()), (()))
                    else
                      some ((false, ()), (()))
                  else
                    some ((false, ()), (()))
                else
                bif (o2_0 : Int) != 3 then
                  bif !r21.1.2.1 then
                    bif (r21.1.1 : Int) == 0 then
                      (chartularylaw04_awake.f k).bind fun r26 =>
                      some ((r26.1.1, ()), (()))
                    else
                      some ((false, ()), (()))
                  else
                    some ((false, ()), (()))
                else
                  (chartularylaw04_worth.f k o2_3).bind fun r27 =>
                  bif r21.1.2.1 == r27.1.2.1 then
                    bif (r21.1.1 : Int) == r27.1.1 then
                      (chartularylaw04_awake.f k).bind fun r28 =>
                      some ((r28.1.1, ()), (()))
                    else
                      some ((false, ()), (()))
                  else
                    some ((false, ()), (()))
            else
              (chartularylaw04_right.f k (o2_0, (o2_1, (o2_2, (o2_3, (o2_4, ())))))).bind fun r29 =>
              bif !r29.1.1 then
                bif !r21.1.2.1 then
                  bif (r21.1.1 : Int) == 0 then
                    (chartularylaw04_awake.f k).bind fun r30 =>
                    some ((r30.1.1, ()), (()))
                  else
                    some ((false, ()), (()))
                else
                  some ((false, ()), (()))
              else
              bif (o2_0 : Int) != 3 then
                bif !r21.1.2.1 then
                  bif (r21.1.1 : Int) == 0 then
                    (chartularylaw04_awake.f k).bind fun r31 =>
                    some ((r31.1.1, ()), (()))
                  else
                    some ((false, ()), (()))
                else
                  some ((false, ()), (()))
              else
                (chartularylaw04_worth.f k o2_3).bind fun r32 =>
                bif r21.1.2.1 == r32.1.2.1 then
                  bif (r21.1.1 : Int) == r32.1.1 then
                    (chartularylaw04_awake.f k).bind fun r33 =>
                    some ((r33.1.1, ()), (()))
                  else
                    some ((false, ()), (()))
                else
                  some ((false, ()), (()))
        else
        bif !(r7.1.1 == false) then
          some ((false, ()), (()))
        else
          (value_Whole.f k (o2_0, (o2_1, (o2_2, (o2_3, (o2_4, ())))))).bind fun r34 =>
          (chartularylaw04_right.f k (o2_0, (o2_1, (o2_2, (o2_3, (o2_4, ())))))).bind fun r35 =>
          bif r35.1.1 then
            bif (o2_0 : Int) == 2 then
              bif r34.1.2.1 then
                bif (r34.1.1 : Int) == o2_2 then
                  (chartularylaw04_awake.f k).bind fun r36 =>
                  some ((r36.1.1, ()), (()))
                else
                  some ((false, ()), (()))
              else
                some ((false, ()), (()))
            else
              (chartularylaw04_right.f k (o2_0, (o2_1, (o2_2, (o2_3, (o2_4, ())))))).bind fun r37 =>
              bif !r37.1.1 then
                bif !r34.1.2.1 then
                  bif (r34.1.1 : Int) == 0 then
                    (chartularylaw04_awake.f k).bind fun r38 =>
                    some ((r38.1.1, ()), (()))
                  else
                    some ((false, ()), (()))
                else
                  some ((false, ()), (()))
              else
              bif (o2_0 : Int) != 3 then
                bif !r34.1.2.1 then
                  bif (r34.1.1 : Int) == 0 then
                    (chartularylaw04_awake.f k).bind fun r39 =>
                    some ((r39.1.1, ()), (()))
                  else
                    some ((false, ()), (()))
                else
                  some ((false, ()), (()))
              else
                (chartularylaw04_worth.f k o2_3).bind fun r40 =>
                bif r34.1.2.1 == r40.1.2.1 then
                  bif (r34.1.1 : Int) == r40.1.1 then
                    (chartularylaw04_awake.f k).bind fun r41 =>
                    some ((r41.1.1, ()), (()))
                  else
                    some ((false, ()), (()))
                else
                  some ((false, ()), (()))
          else
            (chartularylaw04_right.f k (o2_0, (o2_1, (o2_2, (o2_3, (o2_4, ())))))).bind fun r42 =>
            bif !r42.1.1 then
              bif !r34.1.2.1 then
                bif (r34.1.1 : Int) == 0 then
                  (chartularylaw04_awake.f k).bind fun r43 =>
                  some ((r43.1.1, ()), (()))
                else
                  some ((false, ()), (()))
              else
                some ((false, ()), (()))
            else
            bif (o2_0 : Int) != 3 then
              bif !r34.1.2.1 then
                bif (r34.1.1 : Int) == 0 then
                  (chartularylaw04_awake.f k).bind fun r44 =>
                  some ((r44.1.1, ()), (()))
                else
                  some ((false, ()), (()))
              else
                some ((false, ()), (()))
            else
              (chartularylaw04_worth.f k o2_3).bind fun r45 =>
              bif r34.1.2.1 == r45.1.2.1 then
                bif (r34.1.1 : Int) == r45.1.1 then
                  (chartularylaw04_awake.f k).bind fun r46 =>
                  some ((r46.1.1, ()), (()))
                else
                  some ((false, ()), (()))
              else
                some ((false, ()), (()))
    else
    bif !(r7.1.1 == false) then
      some ((false, ()), (()))
    else
      (value_Whole.f k (o2_0, (o2_1, (o2_2, (o2_3, (o2_4, ())))))).bind fun r47 =>
      (chartularylaw04_right.f k (o2_0, (o2_1, (o2_2, (o2_3, (o2_4, ())))))).bind fun r48 =>
      bif r48.1.1 then
        bif (o2_0 : Int) == 2 then
          bif r47.1.2.1 then
            bif (r47.1.1 : Int) == o2_2 then
              (chartularylaw04_awake.f k).bind fun r49 =>
              some ((r49.1.1, ()), (()))
            else
              some ((false, ()), (()))
          else
            some ((false, ()), (()))
        else
          (chartularylaw04_right.f k (o2_0, (o2_1, (o2_2, (o2_3, (o2_4, ())))))).bind fun r50 =>
          bif !r50.1.1 then
            bif !r47.1.2.1 then
              bif (r47.1.1 : Int) == 0 then
                (chartularylaw04_awake.f k).bind fun r51 =>
                some ((r51.1.1, ()), (()))
              else
                some ((false, ()), (()))
            else
              some ((false, ()), (()))
          else
          bif (o2_0 : Int) != 3 then
            bif !r47.1.2.1 then
              bif (r47.1.1 : Int) == 0 then
                (chartularylaw04_awake.f k).bind fun r52 =>
                some ((r52.1.1, ()), (()))
              else
                some ((false, ()), (()))
            else
              some ((false, ()), (()))
          else
            (chartularylaw04_worth.f k o2_3).bind fun r53 =>
            bif r47.1.2.1 == r53.1.2.1 then
              bif (r47.1.1 : Int) == r53.1.1 then
                (chartularylaw04_awake.f k).bind fun r54 =>
                some ((r54.1.1, ()), (()))
              else
                some ((false, ()), (()))
            else
              some ((false, ()), (()))
      else
        (chartularylaw04_right.f k (o2_0, (o2_1, (o2_2, (o2_3, (o2_4, ())))))).bind fun r55 =>
        bif !r55.1.1 then
          bif !r47.1.2.1 then
            bif (r47.1.1 : Int) == 0 then
              (chartularylaw04_awake.f k).bind fun r56 =>
              some ((r56.1.1, ()), (()))
            else
              some ((false, ()), (()))
          else
            some ((false, ()), (()))
        else
        bif (o2_0 : Int) != 3 then
          bif !r47.1.2.1 then
            bif (r47.1.1 : Int) == 0 then
              (chartularylaw04_awake.f k).bind fun r57 =>
              some ((r57.1.1, ()), (()))
            else
              some ((false, ()), (()))
          else
            some ((false, ()), (()))
        else
          (chartularylaw04_worth.f k o2_3).bind fun r58 =>
          bif r47.1.2.1 == r58.1.2.1 then
            bif (r47.1.1 : Int) == r58.1.1 then
              (chartularylaw04_awake.f k).bind fun r59 =>
              some ((r59.1.1, ()), (()))
            else
              some ((false, ()), (()))
          else
            some ((false, ()), (()))
noncomputable def chartularylaw04_ValueWorths.f : Nat → (Int × Bool × Int × Int × ByteArray × Unit) → (Int × Bool × Int × Int × ByteArray × Unit) → Option chartularylaw04_ValueWorths.R
  | 0, _, _ => none
  | k + 1, x0, x1 =>
    bif decide (((x0.2.2.2.2.1.size : Int) : Int) > 300) then
      (chartularylaw04_awake.f k).bind fun r1 =>
      some ((r1.1.1, ()), (()))
    else
    bif decide (((x1.2.2.2.2.1.size : Int) : Int) > 300) then
      (chartularylaw04_awake.f k).bind fun r2 =>
      some ((r2.1.1, ()), (()))
    else
      chartularylaw04_ValueWorths.j0 k x0.1 x0.2.1 x0.2.2.1 x0.2.2.2.1 x0.2.2.2.2.1 x1.1 x1.2.1 x1.2.2.1 x1.2.2.2.1 x1.2.2.2.2.1
end
abbrev chartularylaw04_ValueWorths.ini : LSh := ⟨[(0, .val (.cons (.int .i64) (.cons .bool (.cons (.int .i64) (.cons (.int .u64) (.cons .str .nil)))))), (1, .val (.cons (.int .i64) (.cons .bool (.cons (.int .i64) (.cons (.int .u64) (.cons .str .nil))))))], []⟩
abbrev chartularylaw04_ValueWorths.out : LSh := ⟨[(0, .val .bool)], []⟩
abbrev chartularylaw04_ValueWorths.j0s : LSh := ⟨[(2, .ptr 2 0), (3, .ptr 3 0)], [(2, 24, [.val (.int .i64), .val .bool, .val (.int .i64), .val (.int .u64), .val .str]), (3, 24, [.val (.int .i64), .val .bool, .val (.int .i64), .val (.int .u64), .val .str])]⟩
abbrev chartularylaw04_ValueWorths.j1s : LSh := ⟨[(2, .ptr 2 0), (3, .ptr 3 0), (5, .val .bool)], [(2, 24, [.val (.int .i64), .val .bool, .val (.int .i64), .val (.int .u64), .val .str]), (3, 24, [.val (.int .i64), .val .bool, .val (.int .i64), .val (.int .u64), .val .str])]⟩
noncomputable def chartularylaw04_ValueWorths.labF : Nat → Option (LabF chartularylaw04_ValueWorths.out.den)
  | 7 => some ⟨chartularylaw04_ValueWorths.j0s, fun k (d : (Unit × Unit × Unit) × ((Int × Bool × Int × Int × ByteArray × Unit) × (Int × Bool × Int × Int × ByteArray × Unit) × Unit)) => (chartularylaw04_ValueWorths.j0 k d.2.1.1 d.2.1.2.1 d.2.1.2.2.1 d.2.1.2.2.2.1 d.2.1.2.2.2.2.1 d.2.2.1.1 d.2.2.1.2.1 d.2.2.1.2.2.1 d.2.2.1.2.2.2.1 d.2.2.1.2.2.2.2.1 : Option chartularylaw04_ValueWorths.R)⟩
  | 9 => some ⟨chartularylaw04_ValueWorths.j1s, fun k (d : (Unit × Unit × Bool × Unit) × ((Int × Bool × Int × Int × ByteArray × Unit) × (Int × Bool × Int × Int × ByteArray × Unit) × Unit)) => (chartularylaw04_ValueWorths.j1 k d.1.2.2.1 d.2.1.1 d.2.1.2.1 d.2.1.2.2.1 d.2.1.2.2.2.1 d.2.1.2.2.2.2.1 d.2.2.1.1 d.2.2.1.2.1 d.2.2.1.2.2.1 d.2.2.1.2.2.2.1 d.2.2.1.2.2.2.2.1 : Option chartularylaw04_ValueWorths.R)⟩
  | _ => none
noncomputable def chartularylaw04_ValueWorths.fd : FnD := ⟨Try.f7, chartularylaw04_ValueWorths.ini, chartularylaw04_ValueWorths.out, 1, [], [], chartularylaw04_ValueWorths.labF, fun k (d : ((Int × Bool × Int × Int × ByteArray × Unit) × (Int × Bool × Int × Int × ByteArray × Unit) × Unit) × (Unit)) => (chartularylaw04_ValueWorths.f k d.1.1 d.1.2.1 : Option chartularylaw04_ValueWorths.R)⟩

noncomputable def Γ (k : Nat) : Gam := [(18, [chartularylaw04_nan.fd.sp k]), (11, [chartularylaw04_clean.fd.sp k]), (13, [chartularylaw04_right.fd.sp k]), (15, [value_Of.fd.sp k]), (28, [value_nan.fd.sp k]), (10, [value_Clean.fd.sp k]), (12, [value_Right.fd.sp k]), (52, [octet_Num.fd.sp k]), (36, [octet_Writer_Num.fd.sp k]), (37, [octet_Writer_Flag.fd.sp k]), (38, [octet_Writer_Raw.fd.sp k]), (39, [value_eight.fd.sp k]), (53, [octet_Text.fd.sp k]), (40, [octet_Writer_Text.fd.sp k]), (41, [octet_Writer_All.fd.sp k]), (26, [value_Bytes.fd.sp k]), (14, [chartularylaw04_awake.fd.sp k]), (17, [value_Float.fd.sp k]), (23, [value_Worth.fd.sp k]), (35, [math_Trunc.fd.sp k]), (24, [value_Whole.fd.sp k]), (25, [chartularylaw04_worth.fd.sp k]), (7, [chartularylaw04_ValueWorths.fd.sp k]), (16, [f64from]), (19, [f64bits]), (50, [f64trunc])]
end Go.Proofs.Ytnedfkfelagmpaa.E
