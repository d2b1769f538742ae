import Derived.Test.YtnlanlhhcgdjiaaEVal
import Derived.Test.YtnlanlhhcgdjiaaProg
namespace Go.Proofs.Ytnlanlhhcgdjiaa.E
open Go Go.Proofs.Ytnlanlhhcgdjiaa.Eng Go.Proofs
set_option linter.unusedVariables false
set_option maxRecDepth 100000
def tt : TT := [
  (3, ⟨1, 8, false, (.int .i64), [(.int .i64 0)], (.int .i64), false⟩),
  (4, ⟨1, 1, false, .bool, [(.bool false)], .bool, false⟩),
  (5, ⟨1, 1, false, (.int .u8), [(.int .u8 0)], (.int .u8), false⟩),
  (9, ⟨1, 16, false, .str, [(.str ByteArray.empty)], .str, false⟩),
  (26, ⟨1, 24, false, (.sl (.cons (.int .i64) (.cons (.int .i64) (.cons .str (.cons .bool (.cons (.sl .str) .nil)))))), [.nils], (.slice 34), false⟩),
  (29, ⟨2, 24, true, (.cons .str (.cons .bool .nil)), [(.str ByteArray.empty), (.bool false)], (.struct [(0, 9, 1), (1, 4, 1)]), true⟩),
  (32, ⟨1, 24, false, (.sl .str), [.nils], (.slice 9), false⟩),
  (34, ⟨5, 64, true, (.cons (.int .i64) (.cons (.int .i64) (.cons .str (.cons .bool (.cons (.sl .str) .nil))))), [(.int .i64 0), (.int .i64 0), (.str ByteArray.empty), (.bool false), .nils], (.struct [(0, 3, 1), (1, 3, 1), (2, 9, 1), (3, 4, 1), (4, 32, 1)]), false⟩),
  (38, ⟨1, 8, false, .nil, [.nilp], (.ptr 64), false⟩),
  (40, ⟨1, 8, false, (.int .i64), [(.int .i64 0)], (.int .i64), false⟩),
  (48, ⟨1, 24, false, (.sl (.cons (.int .i64) (.cons (.int .i64) (.cons (.int .i64) .nil)))), [.nils], (.slice 54), false⟩),
  (51, ⟨2, 24, true, (.cons .str (.cons (.int .i64) .nil)), [(.str ByteArray.empty), (.int .i64 0)], (.struct [(0, 9, 1), (1, 40, 1)]), true⟩),
  (54, ⟨3, 24, true, (.cons (.int .i64) (.cons (.int .i64) (.cons (.int .i64) .nil))), [(.int .i64 0), (.int .i64 0), (.int .i64 0)], (.struct [(0, 3, 1), (1, 3, 1), (2, 3, 1)]), true⟩),
  (58, ⟨1, 24, false, (.sl (.int .u8)), [.nils], (.slice 5), false⟩),
  (64, ⟨3, 32, true, (.cons .str (.cons (.int .i64) (.cons (.int .i64) .nil))), [(.str ByteArray.empty), (.int .i64 0), (.int .i64 0)], (.struct [(0, 9, 1), (1, 3, 1), (2, 40, 1)]), true⟩)]
/-! ### octet_Num : function 9 -/
abbrev octet_Num.R := (ByteArray × Unit) × (Unit)
mutual
noncomputable def octet_Num.l0 : Nat → Int → ByteArray → Option octet_Num.R
  | 0, _, _ => none
  | k + 1, x0, x3 =>
    bif decide ((x0 : Int) > 0) then
      (ck (decide ((strOf ([IntKind.wrap .u8 x0] : List Int)).size + x3.size ≤ 9223372036854775807))).bind fun _ =>
      (ck (!decide ((8 : Int) < 0))).bind fun _ =>
      octet_Num.l0 k (Int.fdiv x0 (2 ^ (min (8 : Int).toNat (IntKind.bits .i64)))) ((strOf ([IntKind.wrap .u8 x0] : List Int)) ++ x3)
    else
      (ck (decide ((strOf ([IntKind.wrap .u8 (x3.size : Int)] : List Int)).size + x3.size ≤ 9223372036854775807))).bind fun _ =>
      some (((strOf ([IntKind.wrap .u8 (x3.size : Int)] : List Int)) ++ x3, ()), (()))
noncomputable def octet_Num.f : Nat → Int → Option octet_Num.R
  | 0, _ => none
  | k + 1, x0 =>
    bif decide ((x0 : Int) < 0) then
      some (((⟨#[]⟩ : ByteArray), ()), (()))
    else
    bif decide ((x0 : Int) ≥ 72057594037927936) then
      some (((⟨#[]⟩ : ByteArray), ()), (()))
    else
      octet_Num.l0 k x0 (⟨#[]⟩ : ByteArray)
end
abbrev octet_Num.ini : LSh := ⟨[(0, .val (.int .i64))], []⟩
abbrev octet_Num.out : LSh := ⟨[(0, .val .str)], []⟩
abbrev octet_Num.l0s : LSh := ⟨[(0, .val (.int .i64)), (3, .val .str)], []⟩
noncomputable def octet_Num.labF : Nat → Option (LabF octet_Num.out.den)
  | 8 => some ⟨octet_Num.l0s, fun k (d : (Int × ByteArray × Unit) × (Unit)) => (octet_Num.l0 k d.1.1 d.1.2.1 : Option octet_Num.R)⟩
  | _ => none
noncomputable def octet_Num.fd : FnD := ⟨Try.f9, octet_Num.ini, octet_Num.out, 1, [], [], octet_Num.labF, fun k (d : (Int × Unit) × (Unit)) => (octet_Num.f k d.1.1 : Option octet_Num.R)⟩

/-! ### octet_Text : function 11 -/
abbrev octet_Text.R := (ByteArray × Unit) × (Unit)
noncomputable def octet_Text.f : Nat → ByteArray → Option octet_Text.R
  | 0, _ => none
  | k + 1, x0 =>
    (octet_Num.f k (x0.size : Int)).bind fun r1 =>
    (ck (decide (r1.1.1.size + x0.size ≤ 9223372036854775807))).bind fun _ =>
    some ((r1.1.1 ++ x0, ()), (()))
abbrev octet_Text.ini : LSh := ⟨[(0, .val .str)], []⟩
abbrev octet_Text.out : LSh := ⟨[(0, .val .str)], []⟩
noncomputable def octet_Text.labF : Nat → Option (LabF octet_Text.out.den)
  | _ => none
noncomputable def octet_Text.fd : FnD := ⟨Try.f11, octet_Text.ini, octet_Text.out, 1, [], [], octet_Text.labF, fun k (d : (ByteArray × Unit) × (Unit)) => (octet_Text.f k d.1.1 : Option octet_Text.R)⟩

/-! ### chartularylaw01_awake : function 12 -/
abbrev chartularylaw01_awake.R := (Bool × Unit) × (Unit)
noncomputable def chartularylaw01_awake.f : Nat → Option chartularylaw01_awake.R
  | 0 => none
  | k + 1 =>
    (octet_Num.f k 0).bind fun r1 =>
    bif r1.1.1.toList == (⟨#[0]⟩ : ByteArray).toList then
      (octet_Num.f k 258).bind fun r2 =>
      bif r2.1.1.toList == (⟨#[2, 1, 2]⟩ : ByteArray).toList then
        (octet_Text.f k (⟨#[97, 98]⟩ : ByteArray)).bind fun r3 =>
        some ((r3.1.1.toList == (⟨#[1, 2, 97, 98]⟩ : ByteArray).toList, ()), (()))
      else
        some ((false, ()), (()))
    else
      some ((false, ()), (()))
abbrev chartularylaw01_awake.ini : LSh := ⟨[], []⟩
abbrev chartularylaw01_awake.out : LSh := ⟨[(0, .val .bool)], []⟩
noncomputable def chartularylaw01_awake.labF : Nat → Option (LabF chartularylaw01_awake.out.den)
  | _ => none
noncomputable def chartularylaw01_awake.fd : FnD := ⟨Try.f12, chartularylaw01_awake.ini, chartularylaw01_awake.out, 1, [], [], chartularylaw01_awake.labF, fun k (d : (Unit) × (Unit)) => (chartularylaw01_awake.f k : Option chartularylaw01_awake.R)⟩

/-! ### octet_Read : function 16 -/
abbrev octet_Read.R := (Unit × Unit) × ((ByteArray × Int × Int × Unit) × Unit)
noncomputable def octet_Read.f : Nat → ByteArray → Option octet_Read.R
  | 0, _ => none
  | k + 1, x0 =>
    some (((), ()), ((x0, 0, 0, ()), ()))
abbrev octet_Read.ini : LSh := ⟨[(0, .val .str)], []⟩
abbrev octet_Read.out : LSh := ⟨[(0, .ptr 4000000 0)], [(4000000, 64, [.val .str, .val (.int .i64), .val (.int .i64)])]⟩
noncomputable def octet_Read.labF : Nat → Option (LabF octet_Read.out.den)
  | _ => none
noncomputable def octet_Read.fd : FnD := ⟨Try.f16, octet_Read.ini, octet_Read.out, 1, [], [], octet_Read.labF, fun k (d : (ByteArray × Unit) × (Unit)) => (octet_Read.f k d.1.1 : Option octet_Read.R)⟩

/-! ### octet_Reader_Err : function 25 -/
abbrev octet_Reader_Err.R := (Int × Unit) × (Unit)
noncomputable def octet_Reader_Err.f : Nat → ByteArray → Int → Int → Option octet_Reader_Err.R
  | 0, _, _, _ => none
  | k + 1, o0_0, o0_1, o0_2 =>
    some ((o0_2, ()), (()))
abbrev octet_Reader_Err.ini : LSh := ⟨[(0, .ptr 1000000 0)], [(1000000, 64, [.val .str, .val (.int .i64), .val (.int .i64)])]⟩
abbrev octet_Reader_Err.out : LSh := ⟨[(0, .val (.int .i64))], []⟩
noncomputable def octet_Reader_Err.labF : Nat → Option (LabF octet_Reader_Err.out.den)
  | _ => none
noncomputable def octet_Reader_Err.fd : FnD := ⟨Try.f25, octet_Reader_Err.ini, octet_Reader_Err.out, 1, [1000000], [1000000], octet_Reader_Err.labF, fun k (d : (Unit × Unit) × ((ByteArray × Int × Int × Unit) × Unit)) => (octet_Reader_Err.f k d.2.1.1 d.2.1.2.1 d.2.1.2.2.1 : Option octet_Reader_Err.R)⟩

/-! ### octet_Reader_Left : function 24 -/
abbrev octet_Reader_Left.R := (Int × Unit) × (Unit)
noncomputable def octet_Reader_Left.f : Nat → ByteArray → Int → Int → Option octet_Reader_Left.R
  | 0, _, _, _ => none
  | k + 1, o0_0, o0_1, o0_2 =>
    (octet_Reader_Err.f k o0_0 o0_1 o0_2).bind fun r1 =>
    bif (r1.1.1 : Int) != 0 then
      some ((0, ()), (()))
    else
      some ((IntKind.wrap .i64 ((o0_0.size : Int) - o0_1), ()), (()))
abbrev octet_Reader_Left.ini : LSh := ⟨[(0, .ptr 1000000 0)], [(1000000, 64, [.val .str, .val (.int .i64), .val (.int .i64)])]⟩
abbrev octet_Reader_Left.out : LSh := ⟨[(0, .val (.int .i64))], []⟩
noncomputable def octet_Reader_Left.labF : Nat → Option (LabF octet_Reader_Left.out.den)
  | _ => none
noncomputable def octet_Reader_Left.fd : FnD := ⟨Try.f24, octet_Reader_Left.ini, octet_Reader_Left.out, 1, [1000000], [1000000], octet_Reader_Left.labF, fun k (d : (Unit × Unit) × ((ByteArray × Int × Int × Unit) × Unit)) => (octet_Reader_Left.f k d.2.1.1 d.2.1.2.1 d.2.1.2.2.1 : Option octet_Reader_Left.R)⟩

/-! ### octet_Reader_Fail : function 20 -/
abbrev octet_Reader_Fail.R := (Unit) × ((ByteArray × Int × Int × Unit) × Unit)
noncomputable def octet_Reader_Fail.f : Nat → Int → ByteArray → Int → Int → Option octet_Reader_Fail.R
  | 0, _, _, _, _ => none
  | k + 1, x1, o0_0, o0_1, o0_2 =>
    bif (o0_2 : Int) == 0 then
      some ((()), ((o0_0, o0_1, x1, ()), ()))
    else
      some ((()), ((o0_0, o0_1, o0_2, ()), ()))
abbrev octet_Reader_Fail.ini : LSh := ⟨[(0, .ptr 1000000 0), (1, .val (.int .i64))], [(1000000, 64, [.val .str, .val (.int .i64), .val (.int .i64)])]⟩
abbrev octet_Reader_Fail.out : LSh := ⟨[], [(1000000, 64, [.val .str, .val (.int .i64), .val (.int .i64)])]⟩
noncomputable def octet_Reader_Fail.labF : Nat → Option (LabF octet_Reader_Fail.out.den)
  | _ => none
noncomputable def octet_Reader_Fail.fd : FnD := ⟨Try.f20, octet_Reader_Fail.ini, octet_Reader_Fail.out, 0, [1000000], [], octet_Reader_Fail.labF, fun k (d : (Unit × Int × Unit) × ((ByteArray × Int × Int × Unit) × Unit)) => (octet_Reader_Fail.f k d.1.2.1 d.2.1.1 d.2.1.2.1 d.2.1.2.2.1 : Option octet_Reader_Fail.R)⟩

/-! ### octet_Reader_Raw : function 21 -/
abbrev octet_Reader_Raw.R := (ByteArray × Unit) × ((ByteArray × Int × Int × Unit) × Unit)
noncomputable def octet_Reader_Raw.f : Nat → Int → ByteArray → Int → Int → Option octet_Reader_Raw.R
  | 0, _, _, _, _ => none
  | k + 1, x1, o0_0, o0_1, o0_2 =>
    (octet_Reader_Err.f k o0_0 o0_1 o0_2).bind fun r1 =>
    bif (r1.1.1 : Int) != 0 then
      some (((⟨#[]⟩ : ByteArray), ()), ((o0_0, o0_1, o0_2, ()), ()))
    else
    bif decide ((x1 : Int) < 0) then
      (octet_Reader_Fail.f k 1 o0_0 o0_1 o0_2).bind fun r2 =>
      some (((⟨#[]⟩ : ByteArray), ()), ((r2.2.1.1, r2.2.1.2.1, r2.2.1.2.2.1, ()), ()))
    else
    bif decide ((x1 : Int) > IntKind.wrap .i64 ((o0_0.size : Int) - o0_1)) then
      (octet_Reader_Fail.f k 2 o0_0 o0_1 o0_2).bind fun r3 =>
      some (((⟨#[]⟩ : ByteArray), ()), ((r3.2.1.1, r3.2.1.2.1, r3.2.1.2.2.1, ()), ()))
    else
      (ck (decide (0 ≤ IntKind.wrap .i64 ((IntKind.wrap .i64 (o0_1 + x1)) - x1)) && decide (IntKind.wrap .i64 ((IntKind.wrap .i64 (o0_1 + x1)) - x1) ≤ IntKind.wrap .i64 (o0_1 + x1)) && decide (IntKind.wrap .i64 (o0_1 + x1) ≤ (o0_0.size : Int)))).bind fun _ =>
      some ((o0_0.extract (IntKind.wrap .i64 ((IntKind.wrap .i64 (o0_1 + x1)) - x1) : Int).toNat (IntKind.wrap .i64 (o0_1 + x1) : Int).toNat, ()), ((o0_0, IntKind.wrap .i64 (o0_1 + x1), o0_2, ()), ()))
abbrev octet_Reader_Raw.ini : LSh := ⟨[(0, .ptr 1000000 0), (1, .val (.int .i64))], [(1000000, 64, [.val .str, .val (.int .i64), .val (.int .i64)])]⟩
abbrev octet_Reader_Raw.out : LSh := ⟨[(0, .val .str)], [(1000000, 64, [.val .str, .val (.int .i64), .val (.int .i64)])]⟩
noncomputable def octet_Reader_Raw.labF : Nat → Option (LabF octet_Reader_Raw.out.den)
  | _ => none
noncomputable def octet_Reader_Raw.fd : FnD := ⟨Try.f21, octet_Reader_Raw.ini, octet_Reader_Raw.out, 1, [1000000], [], octet_Reader_Raw.labF, fun k (d : (Unit × Int × Unit) × ((ByteArray × Int × Int × Unit) × Unit)) => (octet_Reader_Raw.f k d.1.2.1 d.2.1.1 d.2.1.2.1 d.2.1.2.2.1 : Option octet_Reader_Raw.R)⟩

/-! ### octet_Reader_Num : function 19 -/
abbrev octet_Reader_Num.R := (Int × Unit) × ((ByteArray × Int × Int × Unit) × Unit)
mutual
noncomputable def octet_Reader_Num.l0 : Nat → Int → Int → (List Int) → Int → Int → ByteArray → Int → Int → Option octet_Reader_Num.R
  | 0, _, _, _, _, _, _, _, _ => none
  | k + 1, x1, x7, x24, x25, x26, o0_0, o0_1, o0_2 =>
    bif decide ((x26 : Int) < x25) then
      (rdo x24 x26).bind fun t5 =>
      bif (x26 : Int) == 0 then
        bif (t5 : Int) == 0 then
          (octet_Reader_Fail.f k 4 o0_0 o0_1 o0_2).bind fun r6 =>
          some ((0, ()), ((r6.2.1.1, r6.2.1.2.1, r6.2.1.2.2.1, ()), ()))
        else
          (ck (!decide ((8 : Int) < 0))).bind fun _ =>
          octet_Reader_Num.l0 k x1 (IntKind.wrap .i64 ((BitVec.ofInt (IntKind.bits .i64) (IntKind.wrap .i64 (x7 * 2 ^ (min (8 : Int).toNat (IntKind.bits .i64)))) ||| BitVec.ofInt (IntKind.bits .i64) (IntKind.wrap .i64 t5)).toNat : Int)) x24 x25 (IntKind.wrap .i64 (x26 + 1)) o0_0 o0_1 o0_2
      else
        (ck (!decide ((8 : Int) < 0))).bind fun _ =>
        octet_Reader_Num.l0 k x1 (IntKind.wrap .i64 ((BitVec.ofInt (IntKind.bits .i64) (IntKind.wrap .i64 (x7 * 2 ^ (min (8 : Int).toNat (IntKind.bits .i64)))) ||| BitVec.ofInt (IntKind.bits .i64) (IntKind.wrap .i64 t5)).toNat : Int)) x24 x25 (IntKind.wrap .i64 (x26 + 1)) o0_0 o0_1 o0_2
    else
      (octet_Reader_Err.f k o0_0 o0_1 o0_2).bind fun r7 =>
      bif (r7.1.1 : Int) != 0 then
        some ((0, ()), ((o0_0, o0_1, o0_2, ()), ()))
      else
      bif decide ((x7 : Int) > x1) then
        (octet_Reader_Fail.f k 3 o0_0 o0_1 o0_2).bind fun r8 =>
        some ((0, ()), ((r8.2.1.1, r8.2.1.2.1, r8.2.1.2.2.1, ()), ()))
      else
        some ((x7, ()), ((o0_0, o0_1, o0_2, ()), ()))
noncomputable def octet_Reader_Num.f : Nat → Int → ByteArray → Int → Int → Option octet_Reader_Num.R
  | 0, _, _, _, _ => none
  | k + 1, x1, o0_0, o0_1, o0_2 =>
    (octet_Reader_Raw.f k 1 o0_0 o0_1 o0_2).bind fun r1 =>
    bif r1.1.1.toList == (⟨#[]⟩ : ByteArray).toList then
      some ((0, ()), ((r1.2.1.1, r1.2.1.2.1, r1.2.1.2.2.1, ()), ()))
    else
      (bto r1.1.1 0).bind fun t2 =>
      bif decide ((IntKind.wrap .i64 t2 : Int) > 7) then
        (octet_Reader_Fail.f k 4 r1.2.1.1 r1.2.1.2.1 r1.2.1.2.2.1).bind fun r3 =>
        some ((0, ()), ((r3.2.1.1, r3.2.1.2.1, r3.2.1.2.2.1, ()), ()))
      else
        (octet_Reader_Raw.f k (IntKind.wrap .i64 t2) r1.2.1.1 r1.2.1.2.1 r1.2.1.2.2.1).bind fun r4 =>
        octet_Reader_Num.l0 k x1 0 (bytesOf r4.1.1) ((bytesOf r4.1.1).length : Int) 0 r4.2.1.1 r4.2.1.2.1 r4.2.1.2.2.1
end
abbrev octet_Reader_Num.ini : LSh := ⟨[(0, .ptr 1000000 0), (1, .val (.int .i64))], [(1000000, 64, [.val .str, .val (.int .i64), .val (.int .i64)])]⟩
abbrev octet_Reader_Num.out : LSh := ⟨[(0, .val (.int .i64))], [(1000000, 64, [.val .str, .val (.int .i64), .val (.int .i64)])]⟩
abbrev octet_Reader_Num.l0s : LSh := ⟨[(0, .ptr 1000000 0), (1, .val (.int .i64)), (7, .val (.int .i64)), (24, .own 2000024 5 (.int .u8)), (25, .val (.int .i64)), (26, .val (.int .i64))], [(1000000, 64, [.val .str, .val (.int .i64), .val (.int .i64)])]⟩
noncomputable def octet_Reader_Num.labF : Nat → Option (LabF octet_Reader_Num.out.den)
  | 20 => some ⟨octet_Reader_Num.l0s, fun k (d : (Unit × Int × Int × List Int × Int × Int × Unit) × ((ByteArray × Int × Int × Unit) × Unit)) => (octet_Reader_Num.l0 k d.1.2.1 d.1.2.2.1 d.1.2.2.2.1 d.1.2.2.2.2.1 d.1.2.2.2.2.2.1 d.2.1.1 d.2.1.2.1 d.2.1.2.2.1 : Option octet_Reader_Num.R)⟩
  | _ => none
noncomputable def octet_Reader_Num.fd : FnD := ⟨Try.f19, octet_Reader_Num.ini, octet_Reader_Num.out, 1, [1000000], [], octet_Reader_Num.labF, fun k (d : (Unit × Int × Unit) × ((ByteArray × Int × Int × Unit) × Unit)) => (octet_Reader_Num.f k d.1.2.1 d.2.1.1 d.2.1.2.1 d.2.1.2.2.1 : Option octet_Reader_Num.R)⟩

/-! ### octet_Reader_Text : function 17 -/
abbrev octet_Reader_Text.R := (ByteArray × Unit) × ((ByteArray × Int × Int × Unit) × Unit)
noncomputable def octet_Reader_Text.f : Nat → Int → ByteArray → Int → Int → Option octet_Reader_Text.R
  | 0, _, _, _, _ => none
  | k + 1, x1, o0_0, o0_1, o0_2 =>
    (octet_Reader_Num.f k x1 o0_0 o0_1 o0_2).bind fun r1 =>
    (octet_Reader_Raw.f k r1.1.1 r1.2.1.1 r1.2.1.2.1 r1.2.1.2.2.1).bind fun r2 =>
    some ((r2.1.1, ()), ((r2.2.1.1, r2.2.1.2.1, r2.2.1.2.2.1, ()), ()))
abbrev octet_Reader_Text.ini : LSh := ⟨[(0, .ptr 1000000 0), (1, .val (.int .i64))], [(1000000, 64, [.val .str, .val (.int .i64), .val (.int .i64)])]⟩
abbrev octet_Reader_Text.out : LSh := ⟨[(0, .val .str)], [(1000000, 64, [.val .str, .val (.int .i64), .val (.int .i64)])]⟩
noncomputable def octet_Reader_Text.labF : Nat → Option (LabF octet_Reader_Text.out.den)
  | _ => none
noncomputable def octet_Reader_Text.fd : FnD := ⟨Try.f17, octet_Reader_Text.ini, octet_Reader_Text.out, 1, [1000000], [], octet_Reader_Text.labF, fun k (d : (Unit × Int × Unit) × ((ByteArray × Int × Int × Unit) × Unit)) => (octet_Reader_Text.f k d.1.2.1 d.2.1.1 d.2.1.2.1 d.2.1.2.2.1 : Option octet_Reader_Text.R)⟩

/-! ### octet_Reader_End : function 18 -/
abbrev octet_Reader_End.R := (Int × Unit) × ((ByteArray × Int × Int × Unit) × Unit)
noncomputable def octet_Reader_End.f : Nat → ByteArray → Int → Int → Option octet_Reader_End.R
  | 0, _, _, _ => none
  | k + 1, o0_0, o0_1, o0_2 =>
    (octet_Reader_Left.f k o0_0 o0_1 o0_2).bind fun r1 =>
    bif decide ((r1.1.1 : Int) > 0) then
      (octet_Reader_Fail.f k 4 o0_0 o0_1 o0_2).bind fun r2 =>
      (octet_Reader_Err.f k r2.2.1.1 r2.2.1.2.1 r2.2.1.2.2.1).bind fun r3 =>
      some ((r3.1.1, ()), ((r2.2.1.1, r2.2.1.2.1, r2.2.1.2.2.1, ()), ()))
    else
      (octet_Reader_Err.f k o0_0 o0_1 o0_2).bind fun r4 =>
      some ((r4.1.1, ()), ((o0_0, o0_1, o0_2, ()), ()))
abbrev octet_Reader_End.ini : LSh := ⟨[(0, .ptr 1000000 0)], [(1000000, 64, [.val .str, .val (.int .i64), .val (.int .i64)])]⟩
abbrev octet_Reader_End.out : LSh := ⟨[(0, .val (.int .i64))], [(1000000, 64, [.val .str, .val (.int .i64), .val (.int .i64)])]⟩
noncomputable def octet_Reader_End.labF : Nat → Option (LabF octet_Reader_End.out.den)
  | _ => none
noncomputable def octet_Reader_End.fd : FnD := ⟨Try.f18, octet_Reader_End.ini, octet_Reader_End.out, 1, [1000000], [], octet_Reader_End.labF, fun k (d : (Unit × Unit) × ((ByteArray × Int × Int × Unit) × Unit)) => (octet_Reader_End.f k d.2.1.1 d.2.1.2.1 d.2.1.2.2.1 : Option octet_Reader_End.R)⟩

/-! ### octet_Reader_Flag : function 22 -/
abbrev octet_Reader_Flag.R := (Bool × Unit) × ((ByteArray × Int × Int × Unit) × Unit)
noncomputable def octet_Reader_Flag.f : Nat → ByteArray → Int → Int → Option octet_Reader_Flag.R
  | 0, _, _, _ => none
  | k + 1, o0_0, o0_1, o0_2 =>
    (octet_Reader_Raw.f k 1 o0_0 o0_1 o0_2).bind fun r1 =>
    bif !(Op.bytesLess r1.1.1.toList (⟨#[1]⟩ : ByteArray).toList || r1.1.1.toList == (⟨#[1]⟩ : ByteArray).toList) then
      (octet_Reader_Fail.f k 4 r1.2.1.1 r1.2.1.2.1 r1.2.1.2.2.1).bind fun r2 =>
      some ((false, ()), ((r2.2.1.1, r2.2.1.2.1, r2.2.1.2.2.1, ()), ()))
    else
      some ((r1.1.1.toList == (⟨#[1]⟩ : ByteArray).toList, ()), ((r1.2.1.1, r1.2.1.2.1, r1.2.1.2.2.1, ()), ()))
abbrev octet_Reader_Flag.ini : LSh := ⟨[(0, .ptr 1000000 0)], [(1000000, 64, [.val .str, .val (.int .i64), .val (.int .i64)])]⟩
abbrev octet_Reader_Flag.out : LSh := ⟨[(0, .val .bool)], [(1000000, 64, [.val .str, .val (.int .i64), .val (.int .i64)])]⟩
noncomputable def octet_Reader_Flag.labF : Nat → Option (LabF octet_Reader_Flag.out.den)
  | _ => none
noncomputable def octet_Reader_Flag.fd : FnD := ⟨Try.f22, octet_Reader_Flag.ini, octet_Reader_Flag.out, 1, [1000000], [], octet_Reader_Flag.labF, fun k (d : (Unit × Unit) × ((ByteArray × Int × Int × Unit) × Unit)) => (octet_Reader_Flag.f k d.2.1.1 d.2.1.2.1 d.2.1.2.2.1 : Option octet_Reader_Flag.R)⟩

/-! ### octet_Reader_Texts : function 23 -/
abbrev octet_Reader_Texts.R := (List ByteArray × Unit) × ((ByteArray × Int × Int × Unit) × Unit)
mutual
noncomputable def octet_Reader_Texts.l0 : Nat → Int → (List ByteArray) → Int → Int → ByteArray → Int → Int → Option octet_Reader_Texts.R
  | 0, _, _, _, _, _, _, _ => none
  | k + 1, x2, x7, x11, x12, o0_0, o0_1, o0_2 =>
    bif decide ((x12 : Int) < x11) then
      (octet_Reader_Text.f k x2 o0_0 o0_1 o0_2).bind fun r2 =>
      (octet_Reader_Err.f k r2.2.1.1 r2.2.1.2.1 r2.2.1.2.2.1).bind fun r3 =>
      bif (r3.1.1 : Int) != 0 then
        some ((([] : List ByteArray), ()), ((r2.2.1.1, r2.2.1.2.1, r2.2.1.2.2.1, ()), ()))
      else
        (ck (decide ((x7.length + ([r2.1.1] : List ByteArray).length) * 16 ≤ 70368744177664))).bind fun _ =>
        octet_Reader_Texts.l0 k x2 (x7 ++ ([r2.1.1] : List ByteArray)) x11 (IntKind.wrap .i64 (x12 + 1)) r2.2.1.1 r2.2.1.2.1 r2.2.1.2.2.1
    else
      some ((x7, ()), ((o0_0, o0_1, o0_2, ()), ()))
noncomputable def octet_Reader_Texts.f : Nat → Int → Int → ByteArray → Int → Int → Option octet_Reader_Texts.R
  | 0, _, _, _, _, _ => none
  | k + 1, x1, x2, o0_0, o0_1, o0_2 =>
    (octet_Reader_Num.f k x1 o0_0 o0_1 o0_2).bind fun r1 =>
    octet_Reader_Texts.l0 k x2 [] r1.1.1 0 r1.2.1.1 r1.2.1.2.1 r1.2.1.2.2.1
end
abbrev octet_Reader_Texts.ini : LSh := ⟨[(0, .ptr 1000000 0), (1, .val (.int .i64)), (2, .val (.int .i64))], [(1000000, 64, [.val .str, .val (.int .i64), .val (.int .i64)])]⟩
abbrev octet_Reader_Texts.out : LSh := ⟨[(0, .val (.sl .str))], [(1000000, 64, [.val .str, .val (.int .i64), .val (.int .i64)])]⟩
abbrev octet_Reader_Texts.l0s : LSh := ⟨[(0, .ptr 1000000 0), (2, .val (.int .i64)), (7, .own 2000007 9 .str), (11, .val (.int .i64)), (12, .val (.int .i64))], [(1000000, 64, [.val .str, .val (.int .i64), .val (.int .i64)])]⟩
noncomputable def octet_Reader_Texts.labF : Nat → Option (LabF octet_Reader_Texts.out.den)
  | 6 => some ⟨octet_Reader_Texts.l0s, fun k (d : (Unit × Int × List ByteArray × Int × Int × Unit) × ((ByteArray × Int × Int × Unit) × Unit)) => (octet_Reader_Texts.l0 k d.1.2.1 d.1.2.2.1 d.1.2.2.2.1 d.1.2.2.2.2.1 d.2.1.1 d.2.1.2.1 d.2.1.2.2.1 : Option octet_Reader_Texts.R)⟩
  | _ => none
noncomputable def octet_Reader_Texts.fd : FnD := ⟨Try.f23, octet_Reader_Texts.ini, octet_Reader_Texts.out, 1, [1000000], [], octet_Reader_Texts.labF, fun k (d : (Unit × Int × Int × Unit) × ((ByteArray × Int × Int × Unit) × Unit)) => (octet_Reader_Texts.f k d.1.2.1 d.1.2.2.1 d.2.1.1 d.2.1.2.1 d.2.1.2.2.1 : Option octet_Reader_Texts.R)⟩

/-! ### chartularylaw01_plain_raw : function 34 -/
abbrev chartularylaw01_plain_raw.R := (ByteArray × Unit) × ((ByteArray × Int × Unit) × Unit)
mutual
noncomputable def chartularylaw01_plain_raw.j0 : Nat → Int → ByteArray → Int → Option chartularylaw01_plain_raw.R
  | 0, _, _, _ => none
  | k + 1, x1, o0_0, o0_1 =>
    bif (o0_1 : Int) == 0 then
      bif decide ((x1 : Int) > (o0_0.size : Int)) then
        chartularylaw01_plain_raw.j1 k x1 o0_0 2
      else
        chartularylaw01_plain_raw.j1 k x1 o0_0 o0_1
    else
      chartularylaw01_plain_raw.j1 k x1 o0_0 o0_1
noncomputable def chartularylaw01_plain_raw.j1 : Nat → Int → ByteArray → Int → Option chartularylaw01_plain_raw.R
  | 0, _, _, _ => none
  | k + 1, x1, o0_0, o0_1 =>
    bif (o0_1 : Int) != 0 then
      some (((⟨#[]⟩ : ByteArray), ()), ((o0_0, o0_1, ()), ()))
    else
      (ck (decide (0 ≤ 0) && decide (0 ≤ x1) && decide (x1 ≤ (o0_0.size : Int)))).bind fun _ =>
      (ck (decide (0 ≤ x1) && decide (x1 ≤ (o0_0.size : Int)) && decide ((o0_0.size : Int) ≤ (o0_0.size : Int)))).bind fun _ =>
      some ((o0_0.extract (0 : Int).toNat x1.toNat, ()), ((o0_0.extract x1.toNat (o0_0.size : Int).toNat, o0_1, ()), ()))
noncomputable def chartularylaw01_plain_raw.f : Nat → Int → ByteArray → Int → Option chartularylaw01_plain_raw.R
  | 0, _, _, _ => none
  | k + 1, x1, o0_0, o0_1 =>
    bif (o0_1 : Int) == 0 then
      bif decide ((x1 : Int) < 0) then
        chartularylaw01_plain_raw.j0 k x1 o0_0 1
      else
        chartularylaw01_plain_raw.j0 k x1 o0_0 o0_1
    else
      chartularylaw01_plain_raw.j0 k x1 o0_0 o0_1
end
abbrev chartularylaw01_plain_raw.ini : LSh := ⟨[(0, .ptr 1000000 0), (1, .val (.int .i64))], [(1000000, 51, [.val .str, .val (.int .i64)])]⟩
abbrev chartularylaw01_plain_raw.out : LSh := ⟨[(0, .val .str)], [(1000000, 51, [.val .str, .val (.int .i64)])]⟩
abbrev chartularylaw01_plain_raw.j0s : LSh := ⟨[(0, .ptr 1000000 0), (1, .val (.int .i64))], [(1000000, 51, [.val .str, .val (.int .i64)])]⟩
abbrev chartularylaw01_plain_raw.j1s : LSh := ⟨[(0, .ptr 1000000 0), (1, .val (.int .i64))], [(1000000, 51, [.val .str, .val (.int .i64)])]⟩
noncomputable def chartularylaw01_plain_raw.labF : Nat → Option (LabF chartularylaw01_plain_raw.out.den)
  | 7 => some ⟨chartularylaw01_plain_raw.j0s, fun k (d : (Unit × Int × Unit) × ((ByteArray × Int × Unit) × Unit)) => (chartularylaw01_plain_raw.j0 k d.1.2.1 d.2.1.1 d.2.1.2.1 : Option chartularylaw01_plain_raw.R)⟩
  | 11 => some ⟨chartularylaw01_plain_raw.j1s, fun k (d : (Unit × Int × Unit) × ((ByteArray × Int × Unit) × Unit)) => (chartularylaw01_plain_raw.j1 k d.1.2.1 d.2.1.1 d.2.1.2.1 : Option chartularylaw01_plain_raw.R)⟩
  | _ => none
noncomputable def chartularylaw01_plain_raw.fd : FnD := ⟨Try.f34, chartularylaw01_plain_raw.ini, chartularylaw01_plain_raw.out, 1, [1000000], [], chartularylaw01_plain_raw.labF, fun k (d : (Unit × Int × Unit) × ((ByteArray × Int × Unit) × Unit)) => (chartularylaw01_plain_raw.f k d.1.2.1 d.2.1.1 d.2.1.2.1 : Option chartularylaw01_plain_raw.R)⟩

/-! ### chartularylaw01_plain_num : function 33 -/
abbrev chartularylaw01_plain_num.R := (Int × Unit) × ((ByteArray × Int × Unit) × Unit)
mutual
noncomputable def chartularylaw01_plain_num.j0 : Nat → Int → ByteArray → ByteArray → Int → Option chartularylaw01_plain_num.R
  | 0, _, _, _, _ => none
  | k + 1, x1, x6, o0_0, o0_1 =>
    chartularylaw01_plain_num.l0 k x1 x6 0 0 o0_0 o0_1
noncomputable def chartularylaw01_plain_num.l0 : Nat → Int → ByteArray → Int → Int → ByteArray → Int → Option chartularylaw01_plain_num.R
  | 0, _, _, _, _, _, _ => none
  | k + 1, x1, x6, x7, x8, o0_0, o0_1 =>
    bif decide ((x8 : Int) < (x6.size : Int)) then
      (bto x6 x8).bind fun t6 =>
      chartularylaw01_plain_num.l0 k x1 x6 (IntKind.wrap .i64 ((IntKind.wrap .i64 (256 * x7)) + (IntKind.wrap .i64 t6))) (IntKind.wrap .i64 (x8 + 1)) o0_0 o0_1
    else
    bif (o0_1 : Int) == 0 then
      bif decide ((x7 : Int) > x1) then
        chartularylaw01_plain_num.j1 k x7 o0_0 3
      else
        chartularylaw01_plain_num.j1 k x7 o0_0 o0_1
    else
      chartularylaw01_plain_num.j1 k x7 o0_0 o0_1
noncomputable def chartularylaw01_plain_num.j1 : Nat → Int → ByteArray → Int → Option chartularylaw01_plain_num.R
  | 0, _, _, _ => none
  | k + 1, x7, o0_0, o0_1 =>
    bif (o0_1 : Int) != 0 then
      some ((0, ()), ((o0_0, o0_1, ()), ()))
    else
      some ((x7, ()), ((o0_0, o0_1, ()), ()))
noncomputable def chartularylaw01_plain_num.f : Nat → Int → ByteArray → Int → Option chartularylaw01_plain_num.R
  | 0, _, _, _ => none
  | k + 1, x1, o0_0, o0_1 =>
    (chartularylaw01_plain_raw.f k 1 o0_0 o0_1).bind fun r1 =>
    bif r1.1.1.toList == (⟨#[]⟩ : ByteArray).toList then
      some ((0, ()), ((r1.2.1.1, r1.2.1.2.1, ()), ()))
    else
      (bto r1.1.1 0).bind fun t2 =>
      bif decide ((t2 : Int) > 7) then
        some ((0, ()), ((r1.2.1.1, 4, ()), ()))
      else
        (bto r1.1.1 0).bind fun t3 =>
        (chartularylaw01_plain_raw.f k (IntKind.wrap .i64 t3) r1.2.1.1 r1.2.1.2.1).bind fun r4 =>
        bif (r4.2.1.2.1 : Int) == 0 then
          bif decide (((r4.1.1.size : Int) : Int) > 0) then
            (bto r4.1.1 0).bind fun t5 =>
            bif (t5 : Int) == 0 then
              chartularylaw01_plain_num.j0 k x1 r4.1.1 r4.2.1.1 4
            else
              chartularylaw01_plain_num.j0 k x1 r4.1.1 r4.2.1.1 r4.2.1.2.1
          else
            chartularylaw01_plain_num.j0 k x1 r4.1.1 r4.2.1.1 r4.2.1.2.1
        else
          chartularylaw01_plain_num.j0 k x1 r4.1.1 r4.2.1.1 r4.2.1.2.1
end
abbrev chartularylaw01_plain_num.ini : LSh := ⟨[(0, .ptr 1000000 0), (1, .val (.int .i64))], [(1000000, 51, [.val .str, .val (.int .i64)])]⟩
abbrev chartularylaw01_plain_num.out : LSh := ⟨[(0, .val (.int .i64))], [(1000000, 51, [.val .str, .val (.int .i64)])]⟩
abbrev chartularylaw01_plain_num.j0s : LSh := ⟨[(0, .ptr 1000000 0), (1, .val (.int .i64)), (6, .val .str)], [(1000000, 51, [.val .str, .val (.int .i64)])]⟩
abbrev chartularylaw01_plain_num.l0s : LSh := ⟨[(0, .ptr 1000000 0), (1, .val (.int .i64)), (6, .val .str), (7, .val (.int .i64)), (8, .val (.int .i64))], [(1000000, 51, [.val .str, .val (.int .i64)])]⟩
abbrev chartularylaw01_plain_num.j1s : LSh := ⟨[(0, .ptr 1000000 0), (7, .val (.int .i64))], [(1000000, 51, [.val .str, .val (.int .i64)])]⟩
noncomputable def chartularylaw01_plain_num.labF : Nat → Option (LabF chartularylaw01_plain_num.out.den)
  | 21 => some ⟨chartularylaw01_plain_num.j0s, fun k (d : (Unit × Int × ByteArray × Unit) × ((ByteArray × Int × Unit) × Unit)) => (chartularylaw01_plain_num.j0 k d.1.2.1 d.1.2.2.1 d.2.1.1 d.2.1.2.1 : Option chartularylaw01_plain_num.R)⟩
  | 24 => some ⟨chartularylaw01_plain_num.l0s, fun k (d : (Unit × Int × ByteArray × Int × Int × Unit) × ((ByteArray × Int × Unit) × Unit)) => (chartularylaw01_plain_num.l0 k d.1.2.1 d.1.2.2.1 d.1.2.2.2.1 d.1.2.2.2.2.1 d.2.1.1 d.2.1.2.1 : Option chartularylaw01_plain_num.R)⟩
  | 35 => some ⟨chartularylaw01_plain_num.j1s, fun k (d : (Unit × Int × Unit) × ((ByteArray × Int × Unit) × Unit)) => (chartularylaw01_plain_num.j1 k d.1.2.1 d.2.1.1 d.2.1.2.1 : Option chartularylaw01_plain_num.R)⟩
  | _ => none
noncomputable def chartularylaw01_plain_num.fd : FnD := ⟨Try.f33, chartularylaw01_plain_num.ini, chartularylaw01_plain_num.out, 1, [1000000], [], chartularylaw01_plain_num.labF, fun k (d : (Unit × Int × Unit) × ((ByteArray × Int × Unit) × Unit)) => (chartularylaw01_plain_num.f k d.1.2.1 d.2.1.1 d.2.1.2.1 : Option chartularylaw01_plain_num.R)⟩

/-! ### chartularylaw01_plain_texts : function 35 -/
abbrev chartularylaw01_plain_texts.R := (List ByteArray × Unit) × ((ByteArray × Int × Unit) × Unit)
mutual
noncomputable def chartularylaw01_plain_texts.l0 : Nat → Int → Int → (List ByteArray) → Int → ByteArray → Int → Option chartularylaw01_plain_texts.R
  | 0, _, _, _, _, _, _ => none
  | k + 1, x2, x7, x8, x9, o0_0, o0_1 =>
    bif decide ((x9 : Int) < x7) then
      bif (o0_1 : Int) == 0 then
        (chartularylaw01_plain_num.f k x2 o0_0 o0_1).bind fun r2 =>
        (chartularylaw01_plain_raw.f k r2.1.1 r2.2.1.1 r2.2.1.2.1).bind fun r3 =>
        (ck (decide ((x8.length + ([r3.1.1] : List ByteArray).length) * 16 ≤ 70368744177664))).bind fun _ =>
        chartularylaw01_plain_texts.l0 k x2 x7 (x8 ++ ([r3.1.1] : List ByteArray)) (IntKind.wrap .i64 (x9 + 1)) r3.2.1.1 r3.2.1.2.1
      else
      bif (o0_1 : Int) != 0 then
        some ((([] : List ByteArray), ()), ((o0_0, o0_1, ()), ()))
      else
        some ((x8, ()), ((o0_0, o0_1, ()), ()))
    else
    bif (o0_1 : Int) != 0 then
      some ((([] : List ByteArray), ()), ((o0_0, o0_1, ()), ()))
    else
      some ((x8, ()), ((o0_0, o0_1, ()), ()))
noncomputable def chartularylaw01_plain_texts.f : Nat → Int → Int → ByteArray → Int → Option chartularylaw01_plain_texts.R
  | 0, _, _, _, _ => none
  | k + 1, x1, x2, o0_0, o0_1 =>
    (chartularylaw01_plain_num.f k x1 o0_0 o0_1).bind fun r1 =>
    chartularylaw01_plain_texts.l0 k x2 r1.1.1 [] 0 r1.2.1.1 r1.2.1.2.1
end
abbrev chartularylaw01_plain_texts.ini : LSh := ⟨[(0, .ptr 1000000 0), (1, .val (.int .i64)), (2, .val (.int .i64))], [(1000000, 51, [.val .str, .val (.int .i64)])]⟩
abbrev chartularylaw01_plain_texts.out : LSh := ⟨[(0, .val (.sl .str))], [(1000000, 51, [.val .str, .val (.int .i64)])]⟩
abbrev chartularylaw01_plain_texts.l0s : LSh := ⟨[(0, .ptr 1000000 0), (2, .val (.int .i64)), (7, .val (.int .i64)), (8, .own 2000008 9 .str), (9, .val (.int .i64))], [(1000000, 51, [.val .str, .val (.int .i64)])]⟩
noncomputable def chartularylaw01_plain_texts.labF : Nat → Option (LabF chartularylaw01_plain_texts.out.den)
  | 8 => some ⟨chartularylaw01_plain_texts.l0s, fun k (d : (Unit × Int × Int × List ByteArray × Int × Unit) × ((ByteArray × Int × Unit) × Unit)) => (chartularylaw01_plain_texts.l0 k d.1.2.1 d.1.2.2.1 d.1.2.2.2.1 d.1.2.2.2.2.1 d.2.1.1 d.2.1.2.1 : Option chartularylaw01_plain_texts.R)⟩
  | _ => none
noncomputable def chartularylaw01_plain_texts.fd : FnD := ⟨Try.f35, chartularylaw01_plain_texts.ini, chartularylaw01_plain_texts.out, 1, [1000000], [], chartularylaw01_plain_texts.labF, fun k (d : (Unit × Int × Int × Unit) × ((ByteArray × Int × Unit) × Unit)) => (chartularylaw01_plain_texts.f k d.1.2.1 d.1.2.2.1 d.2.1.1 d.2.1.2.1 : Option chartularylaw01_plain_texts.R)⟩

/-! ### chartularylaw01_step : function 26 -/
abbrev chartularylaw01_step.R := (Bool × Unit) × ((ByteArray × Int × Int × Unit) × (ByteArray × Int × Unit) × Unit)
mutual
noncomputable def chartularylaw01_step.j0 : Nat → ByteArray → Int → Int → ByteArray → Int → Option chartularylaw01_step.R
  | 0, _, _, _, _, _ => none
  | k + 1, o0_0, o0_1, o0_2, o1_0, o1_1 =>
    (octet_Reader_End.f k o0_0 o0_1 o0_2).bind fun r18 =>
    some (((r18.1.1 : Int) == o1_1, ()), ((r18.2.1.1, r18.2.1.2.1, r18.2.1.2.2.1, ()), (o1_0, o1_1, ()), ()))
noncomputable def chartularylaw01_step.l0 : Nat → (List ByteArray) → (List ByteArray) → Int → ByteArray → Int → Int → ByteArray → Int → Option chartularylaw01_step.R
  | 0, _, _, _, _, _, _, _, _ => none
  | k + 1, x8, x9, x10, o0_0, o0_1, o0_2, o1_0, o1_1 =>
    bif decide ((x10 : Int) < (x8.length : Int)) then
      bif ((x8.length : Int) : Int) == (x9.length : Int) then
        (rdo x8 x10).bind fun t16 =>
        (rdo x9 x10).bind fun t17 =>
        bif !(t16.toList == t17.toList) then
          some ((false, ()), ((o0_0, o0_1, o0_2, ()), (o1_0, o1_1, ()), ()))
        else
          chartularylaw01_step.l0 k x8 x9 (IntKind.wrap .i64 (x10 + 1)) o0_0 o0_1 o0_2 o1_0 o1_1
      else
        some ((((x8.length : Int) : Int) == (x9.length : Int), ()), ((o0_0, o0_1, o0_2, ()), (o1_0, o1_1, ()), ()))
    else
      some ((((x8.length : Int) : Int) == (x9.length : Int), ()), ((o0_0, o0_1, o0_2, ()), (o1_0, o1_1, ()), ()))
noncomputable def chartularylaw01_step.f : Nat → (Int × Int × Int × Unit) → ByteArray → Int → Int → ByteArray → Int → Option chartularylaw01_step.R
  | 0, _, _, _, _, _, _ => none
  | k + 1, x2, o0_0, o0_1, o0_2, o1_0, o1_1 =>
    bif (x2.1 : Int) == 0 then
      (octet_Reader_Num.f k x2.2.1 o0_0 o0_1 o0_2).bind fun r1 =>
      (chartularylaw01_plain_num.f k x2.2.1 o1_0 o1_1).bind fun r2 =>
      some (((r1.1.1 : Int) == r2.1.1, ()), ((r1.2.1.1, r1.2.1.2.1, r1.2.1.2.2.1, ()), (r2.2.1.1, r2.2.1.2.1, ()), ()))
    else
    bif (x2.1 : Int) == 1 then
      (octet_Reader_Text.f k x2.2.1 o0_0 o0_1 o0_2).bind fun r3 =>
      (chartularylaw01_plain_num.f k x2.2.1 o1_0 o1_1).bind fun r4 =>
      (chartularylaw01_plain_raw.f k r4.1.1 r4.2.1.1 r4.2.1.2.1).bind fun r5 =>
      some ((r3.1.1.toList == r5.1.1.toList, ()), ((r3.2.1.1, r3.2.1.2.1, r3.2.1.2.2.1, ()), (r5.2.1.1, r5.2.1.2.1, ()), ()))
    else
    bif (x2.1 : Int) == 2 then
      (chartularylaw01_plain_raw.f k 1 o1_0 o1_1).bind fun r6 =>
      bif !(r6.1.1.toList == (⟨#[]⟩ : ByteArray).toList) then
        (bto r6.1.1 0).bind fun t7 =>
        bif decide ((t7 : Int) > 1) then
          (octet_Reader_Flag.f k o0_0 o0_1 o0_2).bind fun r8 =>
          some ((r8.1.1 == (r6.1.1.toList == (⟨#[1]⟩ : ByteArray).toList), ()), ((r8.2.1.1, r8.2.1.2.1, r8.2.1.2.2.1, ()), (r6.2.1.1, 4, ()), ()))
        else
          (octet_Reader_Flag.f k o0_0 o0_1 o0_2).bind fun r9 =>
          some ((r9.1.1 == (r6.1.1.toList == (⟨#[1]⟩ : ByteArray).toList), ()), ((r9.2.1.1, r9.2.1.2.1, r9.2.1.2.2.1, ()), (r6.2.1.1, r6.2.1.2.1, ()), ()))
      else
        (octet_Reader_Flag.f k o0_0 o0_1 o0_2).bind fun r10 =>
        some ((r10.1.1 == (r6.1.1.toList == (⟨#[1]⟩ : ByteArray).toList), ()), ((r10.2.1.1, r10.2.1.2.1, r10.2.1.2.2.1, ()), (r6.2.1.1, r6.2.1.2.1, ()), ()))
    else
    bif (x2.1 : Int) == 3 then
      (octet_Reader_Raw.f k x2.2.1 o0_0 o0_1 o0_2).bind fun r11 =>
      (chartularylaw01_plain_raw.f k x2.2.1 o1_0 o1_1).bind fun r12 =>
      some ((r11.1.1.toList == r12.1.1.toList, ()), ((r11.2.1.1, r11.2.1.2.1, r11.2.1.2.2.1, ()), (r12.2.1.1, r12.2.1.2.1, ()), ()))
    else
    bif (x2.1 : Int) == 4 then
      (octet_Reader_Texts.f k x2.2.1 x2.2.2.1 o0_0 o0_1 o0_2).bind fun r13 =>
      (chartularylaw01_plain_texts.f k x2.2.1 x2.2.2.1 o1_0 o1_1).bind fun r14 =>
      chartularylaw01_step.l0 k r13.1.1 r14.1.1 0 r13.2.1.1 r13.2.1.2.1 r13.2.1.2.2.1 r14.2.1.1 r14.2.1.2.1
    else
    bif (x2.1 : Int) == 5 then
      (octet_Reader_Fail.f k x2.2.1 o0_0 o0_1 o0_2).bind fun r15 =>
      bif (o1_1 : Int) == 0 then
        some ((true, ()), ((r15.2.1.1, r15.2.1.2.1, r15.2.1.2.2.1, ()), (o1_0, x2.2.1, ()), ()))
      else
        some ((true, ()), ((r15.2.1.1, r15.2.1.2.1, r15.2.1.2.2.1, ()), (o1_0, o1_1, ()), ()))
    else
    bif (o1_1 : Int) == 0 then
      bif decide (((o1_0.size : Int) : Int) > 0) then
        chartularylaw01_step.j0 k o0_0 o0_1 o0_2 o1_0 4
      else
        chartularylaw01_step.j0 k o0_0 o0_1 o0_2 o1_0 o1_1
    else
      chartularylaw01_step.j0 k o0_0 o0_1 o0_2 o1_0 o1_1
end
abbrev chartularylaw01_step.ini : LSh := ⟨[(0, .ptr 1000000 0), (1, .ptr 1000001 0), (2, .val (.cons (.int .i64) (.cons (.int .i64) (.cons (.int .i64) .nil))))], [(1000000, 64, [.val .str, .val (.int .i64), .val (.int .i64)]), (1000001, 51, [.val .str, .val (.int .i64)])]⟩
abbrev chartularylaw01_step.out : LSh := ⟨[(0, .val .bool)], [(1000000, 64, [.val .str, .val (.int .i64), .val (.int .i64)]), (1000001, 51, [.val .str, .val (.int .i64)])]⟩
abbrev chartularylaw01_step.j0s : LSh := ⟨[(0, .ptr 1000000 0), (1, .ptr 1000001 0)], [(1000000, 64, [.val .str, .val (.int .i64), .val (.int .i64)]), (1000001, 51, [.val .str, .val (.int .i64)])]⟩
abbrev chartularylaw01_step.l0s : LSh := ⟨[(8, .val (.sl .str)), (9, .val (.sl .str)), (10, .val (.int .i64))], [(1000000, 64, [.val .str, .val (.int .i64), .val (.int .i64)]), (1000001, 51, [.val .str, .val (.int .i64)])]⟩
noncomputable def chartularylaw01_step.labF : Nat → Option (LabF chartularylaw01_step.out.den)
  | 9 => some ⟨chartularylaw01_step.j0s, fun k (d : (Unit × Unit × Unit) × ((ByteArray × Int × Int × Unit) × (ByteArray × Int × Unit) × Unit)) => (chartularylaw01_step.j0 k d.2.1.1 d.2.1.2.1 d.2.1.2.2.1 d.2.2.1.1 d.2.2.1.2.1 : Option chartularylaw01_step.R)⟩
  | 38 => some ⟨chartularylaw01_step.l0s, fun k (d : (List ByteArray × List ByteArray × Int × Unit) × ((ByteArray × Int × Int × Unit) × (ByteArray × Int × Unit) × Unit)) => (chartularylaw01_step.l0 k d.1.1 d.1.2.1 d.1.2.2.1 d.2.1.1 d.2.1.2.1 d.2.1.2.2.1 d.2.2.1.1 d.2.2.1.2.1 : Option chartularylaw01_step.R)⟩
  | _ => none
noncomputable def chartularylaw01_step.fd : FnD := ⟨Try.f26, chartularylaw01_step.ini, chartularylaw01_step.out, 1, [1000000, 1000001], [], chartularylaw01_step.labF, fun k (d : (Unit × Unit × (Int × Int × Int × Unit) × Unit) × ((ByteArray × Int × Int × Unit) × (ByteArray × Int × Unit) × Unit)) => (chartularylaw01_step.f k d.1.2.2.1 d.2.1.1 d.2.1.2.1 d.2.1.2.2.1 d.2.2.1.1 d.2.2.1.2.1 : Option chartularylaw01_step.R)⟩

/-! ### chartularylaw01_OctetReads : function 7 -/
abbrev chartularylaw01_OctetReads.R := (Bool × Unit) × (Unit)
mutual
noncomputable def chartularylaw01_OctetReads.j0 : Nat → ByteArray → (List (Int × Int × Int × Unit)) → Option chartularylaw01_OctetReads.R
  | 0, _, _ => none
  | k + 1, x0, x1 =>
    (octet_Read.f k x0).bind fun r1 =>
    chartularylaw01_OctetReads.l0 k x1 0 r1.2.1.1 r1.2.1.2.1 r1.2.1.2.2.1 x0 0
noncomputable def chartularylaw01_OctetReads.l0 : Nat → (List (Int × Int × Int × Unit)) → Int → ByteArray → Int → Int → ByteArray → Int → Option chartularylaw01_OctetReads.R
  | 0, _, _, _, _, _, _, _ => none
  | k + 1, x1, x7, o0_0, o0_1, o0_2, o18_0, o18_1 =>
    bif decide ((x7 : Int) < (x1.length : Int)) then
      bif decide ((x7 : Int) < 40) then
        (rdo x1 x7).bind fun t2 =>
        (chartularylaw01_step.f k (t2.1, (t2.2.1, (t2.2.2.1, ()))) o0_0 o0_1 o0_2 o18_0 o18_1).bind fun r3 =>
        bif !r3.1.1 then
          some ((false, ()), (()))
        else
          (octet_Reader_Err.f k r3.2.1.1 r3.2.1.2.1 r3.2.1.2.2.1).bind fun r4 =>
          bif (r4.1.1 : Int) != r3.2.2.1.2.1 then
            some ((false, ()), (()))
          else
          bif (r3.2.2.1.2.1 : Int) != 0 then
            (octet_Reader_Left.f k r3.2.1.1 r3.2.1.2.1 r3.2.1.2.2.1).bind fun r5 =>
            bif (r5.1.1 : Int) != 0 then
              some ((false, ()), (()))
            else
              chartularylaw01_OctetReads.l0 k x1 (IntKind.wrap .i64 (x7 + 1)) r3.2.1.1 r3.2.1.2.1 r3.2.1.2.2.1 r3.2.2.1.1 r3.2.2.1.2.1
          else
            (octet_Reader_Left.f k r3.2.1.1 r3.2.1.2.1 r3.2.1.2.2.1).bind fun r6 =>
            bif (r6.1.1 : Int) != (r3.2.2.1.1.size : Int) then
              some ((false, ()), (()))
            else
              chartularylaw01_OctetReads.l0 k x1 (IntKind.wrap .i64 (x7 + 1)) r3.2.1.1 r3.2.1.2.1 r3.2.1.2.2.1 r3.2.2.1.1 r3.2.2.1.2.1
      else
        (chartularylaw01_awake.f k).bind fun r7 =>
        some ((r7.1.1, ()), (()))
    else
      (chartularylaw01_awake.f k).bind fun r8 =>
      some ((r8.1.1, ()), (()))
noncomputable def chartularylaw01_OctetReads.f : Nat → ByteArray → (List (Int × Int × Int × Unit)) → Option chartularylaw01_OctetReads.R
  | 0, _, _ => none
  | k + 1, x0, x1 =>
    bif decide (((x0.size : Int) : Int) > 1000) then
      (ck (decide (0 ≤ 0) && decide (0 ≤ 1000) && decide (1000 ≤ (x0.size : Int)))).bind fun _ =>
      chartularylaw01_OctetReads.j0 k (x0.extract (0 : Int).toNat (1000 : Int).toNat) x1
    else
      chartularylaw01_OctetReads.j0 k x0 x1
end
abbrev chartularylaw01_OctetReads.ini : LSh := ⟨[(0, .val .str), (1, .val (.sl (.cons (.int .i64) (.cons (.int .i64) (.cons (.int .i64) .nil)))))], []⟩
abbrev chartularylaw01_OctetReads.out : LSh := ⟨[(0, .val .bool)], []⟩
abbrev chartularylaw01_OctetReads.j0s : LSh := ⟨[(0, .val .str), (1, .val (.sl (.cons (.int .i64) (.cons (.int .i64) (.cons (.int .i64) .nil)))))], []⟩
abbrev chartularylaw01_OctetReads.l0s : LSh := ⟨[(1, .val (.sl (.cons (.int .i64) (.cons (.int .i64) (.cons (.int .i64) .nil))))), (5, .ptr 1604000000 0), (6, .ptr 18 0), (7, .val (.int .i64))], [(1604000000, 64, [.val .str, .val (.int .i64), .val (.int .i64)]), (18, 51, [.val .str, .val (.int .i64)])]⟩
noncomputable def chartularylaw01_OctetReads.labF : Nat → Option (LabF chartularylaw01_OctetReads.out.den)
  | 7 => some ⟨chartularylaw01_OctetReads.j0s, fun k (d : (ByteArray × (List (Int × Int × Int × Unit)) × Unit) × (Unit)) => (chartularylaw01_OctetReads.j0 k d.1.1 d.1.2.1 : Option chartularylaw01_OctetReads.R)⟩
  | 12 => some ⟨chartularylaw01_OctetReads.l0s, fun k (d : ((List (Int × Int × Int × Unit)) × Unit × Unit × Int × Unit) × ((ByteArray × Int × Int × Unit) × (ByteArray × Int × Unit) × Unit)) => (chartularylaw01_OctetReads.l0 k d.1.1 d.1.2.2.2.1 d.2.1.1 d.2.1.2.1 d.2.1.2.2.1 d.2.2.1.1 d.2.2.1.2.1 : Option chartularylaw01_OctetReads.R)⟩
  | _ => none
noncomputable def chartularylaw01_OctetReads.fd : FnD := ⟨Try.f7, chartularylaw01_OctetReads.ini, chartularylaw01_OctetReads.out, 1, [], [], chartularylaw01_OctetReads.labF, fun k (d : (ByteArray × (List (Int × Int × Int × Unit)) × Unit) × (Unit)) => (chartularylaw01_OctetReads.f k d.1.1 d.1.2.1 : Option chartularylaw01_OctetReads.R)⟩

/-! ### chartularylaw01_num : function 10 -/
abbrev chartularylaw01_num.R := (ByteArray × Unit) × (Unit)
mutual
noncomputable def chartularylaw01_num.l0 : Nat → Int → ByteArray → Option chartularylaw01_num.R
  | 0, _, _ => none
  | k + 1, x0, x3 =>
    bif decide ((x0 : Int) > 0) then
      (ck (!decide ((256 : Int) = 0))).bind fun _ =>
      (ck (decide ((strOf ([IntKind.wrap .u8 (Int.tmod x0 256)] : List Int)).size + x3.size ≤ 9223372036854775807))).bind fun _ =>
      (ck (!decide ((256 : Int) = 0))).bind fun _ =>
      chartularylaw01_num.l0 k (IntKind.wrap .i64 (Int.tdiv x0 256)) ((strOf ([IntKind.wrap .u8 (Int.tmod x0 256)] : List Int)) ++ x3)
    else
      (ck (decide ((strOf ([IntKind.wrap .u8 (x3.size : Int)] : List Int)).size + x3.size ≤ 9223372036854775807))).bind fun _ =>
      some (((strOf ([IntKind.wrap .u8 (x3.size : Int)] : List Int)) ++ x3, ()), (()))
noncomputable def chartularylaw01_num.f : Nat → Int → Option chartularylaw01_num.R
  | 0, _ => none
  | k + 1, x0 =>
    bif decide ((x0 : Int) < 0) then
      some (((⟨#[]⟩ : ByteArray), ()), (()))
    else
    bif decide ((x0 : Int) ≥ 72057594037927936) then
      some (((⟨#[]⟩ : ByteArray), ()), (()))
    else
      chartularylaw01_num.l0 k x0 (⟨#[]⟩ : ByteArray)
end
abbrev chartularylaw01_num.ini : LSh := ⟨[(0, .val (.int .i64))], []⟩
abbrev chartularylaw01_num.out : LSh := ⟨[(0, .val .str)], []⟩
abbrev chartularylaw01_num.l0s : LSh := ⟨[(0, .val (.int .i64)), (3, .val .str)], []⟩
noncomputable def chartularylaw01_num.labF : Nat → Option (LabF chartularylaw01_num.out.den)
  | 8 => some ⟨chartularylaw01_num.l0s, fun k (d : (Int × ByteArray × Unit) × (Unit)) => (chartularylaw01_num.l0 k d.1.1 d.1.2.1 : Option chartularylaw01_num.R)⟩
  | _ => none
noncomputable def chartularylaw01_num.fd : FnD := ⟨Try.f10, chartularylaw01_num.ini, chartularylaw01_num.out, 1, [], [], chartularylaw01_num.labF, fun k (d : (Int × Unit) × (Unit)) => (chartularylaw01_num.f k d.1.1 : Option chartularylaw01_num.R)⟩

/-! ### chartularylaw01_laid : function 13 -/
abbrev chartularylaw01_laid.R := (ByteArray × Bool × Unit) × (Unit)
mutual
noncomputable def chartularylaw01_laid.l0 : Nat → ByteArray → Int → Int → Int → ByteArray → Bool → (List ByteArray) → Option chartularylaw01_laid.R
  | 0, _, _, _, _, _, _, _ => none
  | k + 1, x4, x5, o1_0, o1_1, o1_2, o1_3, o1_4 =>
    bif decide ((x5 : Int) < (o1_4.length : Int)) then
      (rdo o1_4 x5).bind fun t5 =>
      (chartularylaw01_num.f k (t5.size : Int)).bind fun r6 =>
      (ck (decide (x4.size + r6.1.1.size ≤ 9223372036854775807))).bind fun _ =>
      (rdo o1_4 x5).bind fun t7 =>
      (ck (decide ((x4 ++ r6.1.1).size + t7.size ≤ 9223372036854775807))).bind fun _ =>
      chartularylaw01_laid.l0 k ((x4 ++ r6.1.1) ++ t7) (IntKind.wrap .i64 (x5 + 1)) o1_0 o1_1 o1_2 o1_3 o1_4
    else
      some ((x4, true, ()), (()))
noncomputable def chartularylaw01_laid.f : Nat → (Int × Int × ByteArray × Bool × List ByteArray × Unit) → Option chartularylaw01_laid.R
  | 0, _ => none
  | k + 1, x0 =>
    bif (x0.1 : Int) == 0 then
      (chartularylaw01_num.f k x0.2.1).bind fun r1 =>
      (chartularylaw01_num.f k x0.2.1).bind fun r2 =>
      some ((r1.1.1, !(r2.1.1.toList == (⟨#[]⟩ : ByteArray).toList), ()), (()))
    else
    bif (x0.1 : Int) == 1 then
      (chartularylaw01_num.f k (x0.2.2.1.size : Int)).bind fun r3 =>
      (ck (decide (r3.1.1.size + x0.2.2.1.size ≤ 9223372036854775807))).bind fun _ =>
      some ((r3.1.1 ++ x0.2.2.1, true, ()), (()))
    else
    bif (x0.1 : Int) == 2 then
      bif x0.2.2.2.1 then
        some (((⟨#[1]⟩ : ByteArray), true, ()), (()))
      else
        some (((⟨#[0]⟩ : ByteArray), true, ()), (()))
    else
    bif (x0.1 : Int) == 3 then
      some ((x0.2.2.1, true, ()), (()))
    else
      (chartularylaw01_num.f k (x0.2.2.2.2.1.length : Int)).bind fun r4 =>
      chartularylaw01_laid.l0 k r4.1.1 0 x0.1 x0.2.1 x0.2.2.1 x0.2.2.2.1 x0.2.2.2.2.1
end
abbrev chartularylaw01_laid.ini : LSh := ⟨[(0, .val (.cons (.int .i64) (.cons (.int .i64) (.cons .str (.cons .bool (.cons (.sl .str) .nil))))))], []⟩
abbrev chartularylaw01_laid.out : LSh := ⟨[(0, .val .str), (1, .val .bool)], []⟩
abbrev chartularylaw01_laid.l0s : LSh := ⟨[(1, .ptr 1 0), (4, .val .str), (5, .val (.int .i64))], [(1, 34, [.val (.int .i64), .val (.int .i64), .val .str, .val .bool, .val (.sl .str)])]⟩
noncomputable def chartularylaw01_laid.labF : Nat → Option (LabF chartularylaw01_laid.out.den)
  | 8 => some ⟨chartularylaw01_laid.l0s, fun k (d : (Unit × ByteArray × Int × Unit) × ((Int × Int × ByteArray × Bool × List ByteArray × Unit) × Unit)) => (chartularylaw01_laid.l0 k d.1.2.1 d.1.2.2.1 d.2.1.1 d.2.1.2.1 d.2.1.2.2.1 d.2.1.2.2.2.1 d.2.1.2.2.2.2.1 : Option chartularylaw01_laid.R)⟩
  | _ => none
noncomputable def chartularylaw01_laid.fd : FnD := ⟨Try.f13, chartularylaw01_laid.ini, chartularylaw01_laid.out, 2, [], [], chartularylaw01_laid.labF, fun k (d : ((Int × Int × ByteArray × Bool × List ByteArray × Unit) × Unit) × (Unit)) => (chartularylaw01_laid.f k d.1.1 : Option chartularylaw01_laid.R)⟩

/-! ### octet_Writer_Num : function 28 -/
abbrev octet_Writer_Num.R := (Unit) × ((ByteArray × Bool × Unit) × Unit)
noncomputable def octet_Writer_Num.f : Nat → Int → ByteArray → Bool → Option octet_Writer_Num.R
  | 0, _, _, _ => none
  | k + 1, x1, o0_0, o0_1 =>
    (octet_Num.f k x1).bind fun r1 =>
    bif o0_1 then
      (ck (decide (o0_0.size + r1.1.1.size ≤ 9223372036854775807))).bind fun _ =>
      some ((()), ((o0_0 ++ r1.1.1, true, ()), ()))
    else
      (ck (decide (o0_0.size + r1.1.1.size ≤ 9223372036854775807))).bind fun _ =>
      some ((()), ((o0_0 ++ r1.1.1, r1.1.1.toList == (⟨#[]⟩ : ByteArray).toList, ()), ()))
abbrev octet_Writer_Num.ini : LSh := ⟨[(0, .ptr 1000000 0), (1, .val (.int .i64))], [(1000000, 29, [.val .str, .val .bool])]⟩
abbrev octet_Writer_Num.out : LSh := ⟨[], [(1000000, 29, [.val .str, .val .bool])]⟩
noncomputable def octet_Writer_Num.labF : Nat → Option (LabF octet_Writer_Num.out.den)
  | _ => none
noncomputable def octet_Writer_Num.fd : FnD := ⟨Try.f28, octet_Writer_Num.ini, octet_Writer_Num.out, 0, [1000000], [], octet_Writer_Num.labF, fun k (d : (Unit × Int × Unit) × ((ByteArray × Bool × Unit) × Unit)) => (octet_Writer_Num.f k d.1.2.1 d.2.1.1 d.2.1.2.1 : Option octet_Writer_Num.R)⟩

/-! ### octet_Writer_Text : function 29 -/
abbrev octet_Writer_Text.R := (Unit) × ((ByteArray × Bool × Unit) × Unit)
noncomputable def octet_Writer_Text.f : Nat → ByteArray → ByteArray → Bool → Option octet_Writer_Text.R
  | 0, _, _, _ => none
  | k + 1, x1, o0_0, o0_1 =>
    (octet_Text.f k x1).bind fun r1 =>
    (ck (decide (o0_0.size + r1.1.1.size ≤ 9223372036854775807))).bind fun _ =>
    some ((()), ((o0_0 ++ r1.1.1, o0_1, ()), ()))
abbrev octet_Writer_Text.ini : LSh := ⟨[(0, .ptr 1000000 0), (1, .val .str)], [(1000000, 29, [.val .str, .val .bool])]⟩
abbrev octet_Writer_Text.out : LSh := ⟨[], [(1000000, 29, [.val .str, .val .bool])]⟩
noncomputable def octet_Writer_Text.labF : Nat → Option (LabF octet_Writer_Text.out.den)
  | _ => none
noncomputable def octet_Writer_Text.fd : FnD := ⟨Try.f29, octet_Writer_Text.ini, octet_Writer_Text.out, 0, [1000000], [], octet_Writer_Text.labF, fun k (d : (Unit × ByteArray × Unit) × ((ByteArray × Bool × Unit) × Unit)) => (octet_Writer_Text.f k d.1.2.1 d.2.1.1 d.2.1.2.1 : Option octet_Writer_Text.R)⟩

/-! ### octet_Writer_Flag : function 30 -/
abbrev octet_Writer_Flag.R := (Unit) × ((ByteArray × Bool × Unit) × Unit)
noncomputable def octet_Writer_Flag.f : Nat → Bool → ByteArray → Bool → Option octet_Writer_Flag.R
  | 0, _, _, _ => none
  | k + 1, x1, o0_0, o0_1 =>
    bif x1 then
      (ck (decide (o0_0.size + (⟨#[1]⟩ : ByteArray).size ≤ 9223372036854775807))).bind fun _ =>
      some ((()), ((o0_0 ++ (⟨#[1]⟩ : ByteArray), o0_1, ()), ()))
    else
      (ck (decide (o0_0.size + (⟨#[0]⟩ : ByteArray).size ≤ 9223372036854775807))).bind fun _ =>
      some ((()), ((o0_0 ++ (⟨#[0]⟩ : ByteArray), o0_1, ()), ()))
abbrev octet_Writer_Flag.ini : LSh := ⟨[(0, .ptr 1000000 0), (1, .val .bool)], [(1000000, 29, [.val .str, .val .bool])]⟩
abbrev octet_Writer_Flag.out : LSh := ⟨[], [(1000000, 29, [.val .str, .val .bool])]⟩
noncomputable def octet_Writer_Flag.labF : Nat → Option (LabF octet_Writer_Flag.out.den)
  | _ => none
noncomputable def octet_Writer_Flag.fd : FnD := ⟨Try.f30, octet_Writer_Flag.ini, octet_Writer_Flag.out, 0, [1000000], [], octet_Writer_Flag.labF, fun k (d : (Unit × Bool × Unit) × ((ByteArray × Bool × Unit) × Unit)) => (octet_Writer_Flag.f k d.1.2.1 d.2.1.1 d.2.1.2.1 : Option octet_Writer_Flag.R)⟩

/-! ### octet_Writer_Raw : function 31 -/
abbrev octet_Writer_Raw.R := (Unit) × ((ByteArray × Bool × Unit) × Unit)
noncomputable def octet_Writer_Raw.f : Nat → ByteArray → ByteArray → Bool → Option octet_Writer_Raw.R
  | 0, _, _, _ => none
  | k + 1, x1, o0_0, o0_1 =>
    (ck (decide (o0_0.size + x1.size ≤ 9223372036854775807))).bind fun _ =>
    some ((()), ((o0_0 ++ x1, o0_1, ()), ()))
abbrev octet_Writer_Raw.ini : LSh := ⟨[(0, .ptr 1000000 0), (1, .val .str)], [(1000000, 29, [.val .str, .val .bool])]⟩
abbrev octet_Writer_Raw.out : LSh := ⟨[], [(1000000, 29, [.val .str, .val .bool])]⟩
noncomputable def octet_Writer_Raw.labF : Nat → Option (LabF octet_Writer_Raw.out.den)
  | _ => none
noncomputable def octet_Writer_Raw.fd : FnD := ⟨Try.f31, octet_Writer_Raw.ini, octet_Writer_Raw.out, 0, [1000000], [], octet_Writer_Raw.labF, fun k (d : (Unit × ByteArray × Unit) × ((ByteArray × Bool × Unit) × Unit)) => (octet_Writer_Raw.f k d.1.2.1 d.2.1.1 d.2.1.2.1 : Option octet_Writer_Raw.R)⟩

/-! ### octet_Writer_Texts : function 32 -/
abbrev octet_Writer_Texts.R := (Unit) × ((ByteArray × Bool × Unit) × Unit)
mutual
noncomputable def octet_Writer_Texts.l0 : Nat → (List ByteArray) → Int → Int → ByteArray → Bool → Option octet_Writer_Texts.R
  | 0, _, _, _, _, _ => none
  | k + 1, x10, x11, x12, o0_0, o0_1 =>
    bif decide ((x12 : Int) < x11) then
      (rdo x10 x12).bind fun t2 =>
      (octet_Writer_Text.f k t2 o0_0 o0_1).bind fun r3 =>
      octet_Writer_Texts.l0 k x10 x11 (IntKind.wrap .i64 (x12 + 1)) r3.2.1.1 r3.2.1.2.1
    else
      some ((()), ((o0_0, o0_1, ()), ()))
noncomputable def octet_Writer_Texts.f : Nat → (List ByteArray) → ByteArray → Bool → Option octet_Writer_Texts.R
  | 0, _, _, _ => none
  | k + 1, x1, o0_0, o0_1 =>
    (octet_Writer_Num.f k (x1.length : Int) o0_0 o0_1).bind fun r1 =>
    octet_Writer_Texts.l0 k x1 (x1.length : Int) 0 r1.2.1.1 r1.2.1.2.1
end
abbrev octet_Writer_Texts.ini : LSh := ⟨[(0, .ptr 1000000 0), (1, .val (.sl .str))], [(1000000, 29, [.val .str, .val .bool])]⟩
abbrev octet_Writer_Texts.out : LSh := ⟨[], [(1000000, 29, [.val .str, .val .bool])]⟩
abbrev octet_Writer_Texts.l0s : LSh := ⟨[(0, .ptr 1000000 0), (10, .val (.sl .str)), (11, .val (.int .i64)), (12, .val (.int .i64))], [(1000000, 29, [.val .str, .val .bool])]⟩
noncomputable def octet_Writer_Texts.labF : Nat → Option (LabF octet_Writer_Texts.out.den)
  | 4 => some ⟨octet_Writer_Texts.l0s, fun k (d : (Unit × List ByteArray × Int × Int × Unit) × ((ByteArray × Bool × Unit) × Unit)) => (octet_Writer_Texts.l0 k d.1.2.1 d.1.2.2.1 d.1.2.2.2.1 d.2.1.1 d.2.1.2.1 : Option octet_Writer_Texts.R)⟩
  | _ => none
noncomputable def octet_Writer_Texts.fd : FnD := ⟨Try.f32, octet_Writer_Texts.ini, octet_Writer_Texts.out, 0, [1000000], [], octet_Writer_Texts.labF, fun k (d : (Unit × List ByteArray × Unit) × ((ByteArray × Bool × Unit) × Unit)) => (octet_Writer_Texts.f k d.1.2.1 d.2.1.1 d.2.1.2.1 : Option octet_Writer_Texts.R)⟩

/-! ### chartularylaw01_lay : function 14 -/
abbrev chartularylaw01_lay.R := (Unit) × ((ByteArray × Bool × Unit) × Unit)
noncomputable def chartularylaw01_lay.f : Nat → (Int × Int × ByteArray × Bool × List ByteArray × Unit) → ByteArray → Bool → Option chartularylaw01_lay.R
  | 0, _, _, _ => none
  | k + 1, x1, o0_0, o0_1 =>
    bif (x1.1 : Int) == 0 then
      (octet_Writer_Num.f k x1.2.1 o0_0 o0_1).bind fun r1 =>
      some ((()), ((r1.2.1.1, r1.2.1.2.1, ()), ()))
    else
    bif (x1.1 : Int) == 1 then
      (octet_Writer_Text.f k x1.2.2.1 o0_0 o0_1).bind fun r2 =>
      some ((()), ((r2.2.1.1, r2.2.1.2.1, ()), ()))
    else
    bif (x1.1 : Int) == 2 then
      (octet_Writer_Flag.f k x1.2.2.2.1 o0_0 o0_1).bind fun r3 =>
      some ((()), ((r3.2.1.1, r3.2.1.2.1, ()), ()))
    else
    bif (x1.1 : Int) == 3 then
      (octet_Writer_Raw.f k x1.2.2.1 o0_0 o0_1).bind fun r4 =>
      some ((()), ((r4.2.1.1, r4.2.1.2.1, ()), ()))
    else
      (octet_Writer_Texts.f k x1.2.2.2.2.1 o0_0 o0_1).bind fun r5 =>
      some ((()), ((r5.2.1.1, r5.2.1.2.1, ()), ()))
abbrev chartularylaw01_lay.ini : LSh := ⟨[(0, .ptr 1000000 0), (1, .val (.cons (.int .i64) (.cons (.int .i64) (.cons .str (.cons .bool (.cons (.sl .str) .nil))))))], [(1000000, 29, [.val .str, .val .bool])]⟩
abbrev chartularylaw01_lay.out : LSh := ⟨[], [(1000000, 29, [.val .str, .val .bool])]⟩
noncomputable def chartularylaw01_lay.labF : Nat → Option (LabF chartularylaw01_lay.out.den)
  | _ => none
noncomputable def chartularylaw01_lay.fd : FnD := ⟨Try.f14, chartularylaw01_lay.ini, chartularylaw01_lay.out, 0, [1000000], [], chartularylaw01_lay.labF, fun k (d : (Unit × (Int × Int × ByteArray × Bool × List ByteArray × Unit) × Unit) × ((ByteArray × Bool × Unit) × Unit)) => (chartularylaw01_lay.f k d.1.2.1 d.2.1.1 d.2.1.2.1 : Option chartularylaw01_lay.R)⟩

/-! ### octet_Writer_All : function 15 -/
abbrev octet_Writer_All.R := (ByteArray × Bool × Unit) × (Unit)
noncomputable def octet_Writer_All.f : Nat → ByteArray → Bool → Option octet_Writer_All.R
  | 0, _, _ => none
  | k + 1, o0_0, o0_1 =>
    bif o0_1 then
      some (((⟨#[]⟩ : ByteArray), false, ()), (()))
    else
      some ((o0_0, true, ()), (()))
abbrev octet_Writer_All.ini : LSh := ⟨[(0, .ptr 1000000 0)], [(1000000, 29, [.val .str, .val .bool])]⟩
abbrev octet_Writer_All.out : LSh := ⟨[(0, .val .str), (1, .val .bool)], []⟩
noncomputable def octet_Writer_All.labF : Nat → Option (LabF octet_Writer_All.out.den)
  | _ => none
noncomputable def octet_Writer_All.fd : FnD := ⟨Try.f15, octet_Writer_All.ini, octet_Writer_All.out, 2, [1000000], [1000000], octet_Writer_All.labF, fun k (d : (Unit × Unit) × ((ByteArray × Bool × Unit) × Unit)) => (octet_Writer_All.f k d.2.1.1 d.2.1.2.1 : Option octet_Writer_All.R)⟩

/-! ### chartularylaw01_longest : function 27 -/
abbrev chartularylaw01_longest.R := (Int × Unit) × (Unit)
mutual
noncomputable def chartularylaw01_longest.l0 : Nat → (List ByteArray) → Int → Int → Option chartularylaw01_longest.R
  | 0, _, _, _ => none
  | k + 1, x0, x3, x4 =>
    bif decide ((x4 : Int) < (x0.length : Int)) then
      (rdo x0 x4).bind fun t1 =>
      bif decide (((t1.size : Int) : Int) > x3) then
        (rdo x0 x4).bind fun t2 =>
        chartularylaw01_longest.l0 k x0 (t2.size : Int) (IntKind.wrap .i64 (x4 + 1))
      else
        chartularylaw01_longest.l0 k x0 x3 (IntKind.wrap .i64 (x4 + 1))
    else
      some ((x3, ()), (()))
noncomputable def chartularylaw01_longest.f : Nat → (List ByteArray) → Option chartularylaw01_longest.R
  | 0, _ => none
  | k + 1, x0 =>
    chartularylaw01_longest.l0 k x0 0 0
end
abbrev chartularylaw01_longest.ini : LSh := ⟨[(0, .val (.sl .str))], []⟩
abbrev chartularylaw01_longest.out : LSh := ⟨[(0, .val (.int .i64))], []⟩
abbrev chartularylaw01_longest.l0s : LSh := ⟨[(0, .val (.sl .str)), (3, .val (.int .i64)), (4, .val (.int .i64))], []⟩
noncomputable def chartularylaw01_longest.labF : Nat → Option (LabF chartularylaw01_longest.out.den)
  | 6 => some ⟨chartularylaw01_longest.l0s, fun k (d : (List ByteArray × Int × Int × Unit) × (Unit)) => (chartularylaw01_longest.l0 k d.1.1 d.1.2.1 d.1.2.2.1 : Option chartularylaw01_longest.R)⟩
  | _ => none
noncomputable def chartularylaw01_longest.fd : FnD := ⟨Try.f27, chartularylaw01_longest.ini, chartularylaw01_longest.out, 1, [], [], chartularylaw01_longest.labF, fun k (d : (List ByteArray × Unit) × (Unit)) => (chartularylaw01_longest.f k d.1.1 : Option chartularylaw01_longest.R)⟩

/-! ### chartularylaw01_OctetBack : function 8 -/
abbrev chartularylaw01_OctetBack.R := (Bool × Unit) × (Unit)
mutual
noncomputable def chartularylaw01_OctetBack.l0 : Nat → (List (Int × Int × ByteArray × Bool × List ByteArray × Unit)) → (List (Int × Int × ByteArray × Bool × List ByteArray × Unit)) → Int → ByteArray → Bool → Option chartularylaw01_OctetBack.R
  | 0, _, _, _, _, _ => none
  | k + 1, x0, x4, x5, o17_0, o17_1 =>
    bif decide ((x5 : Int) < (x0.length : Int)) then
      bif decide ((x5 : Int) < 40) then
        (rdo x0 x5).bind fun t1 =>
        (chartularylaw01_laid.f k (t1.1, (t1.2.1, (t1.2.2.1, (t1.2.2.2.1, (t1.2.2.2.2.1, ())))))).bind fun r2 =>
        bif r2.1.2.1 then
          (rdo x0 x5).bind fun t3 =>
          (chartularylaw01_lay.f k (t3.1, (t3.2.1, (t3.2.2.1, (t3.2.2.2.1, (t3.2.2.2.2.1, ()))))) o17_0 o17_1).bind fun r4 =>
          (rdo x0 x5).bind fun t5 =>
          (ck (decide ((x4.length + ([(t5.1, (t5.2.1, (t5.2.2.1, (t5.2.2.2.1, (t5.2.2.2.2.1, ())))))] : List (Int × Int × ByteArray × Bool × List ByteArray × Unit)).length) * 64 ≤ 70368744177664))).bind fun _ =>
          chartularylaw01_OctetBack.l0 k x0 (x4 ++ ([(t5.1, (t5.2.1, (t5.2.2.1, (t5.2.2.2.1, (t5.2.2.2.2.1, ())))))] : List (Int × Int × ByteArray × Bool × List ByteArray × Unit))) (IntKind.wrap .i64 (x5 + 1)) r4.2.1.1 r4.2.1.2.1
        else
          chartularylaw01_OctetBack.l0 k x0 x4 (IntKind.wrap .i64 (x5 + 1)) o17_0 o17_1
      else
        (octet_Writer_All.f k o17_0 o17_1).bind fun r6 =>
        (octet_Read.f k r6.1.1).bind fun r7 =>
        chartularylaw01_OctetBack.l1 k x4 r6.1.2.1 0 r7.2.1.1 r7.2.1.2.1 r7.2.1.2.2.1
    else
      (octet_Writer_All.f k o17_0 o17_1).bind fun r8 =>
      (octet_Read.f k r8.1.1).bind fun r9 =>
      chartularylaw01_OctetBack.l1 k x4 r8.1.2.1 0 r9.2.1.1 r9.2.1.2.1 r9.2.1.2.2.1
noncomputable def chartularylaw01_OctetBack.l1 : Nat → (List (Int × Int × ByteArray × Bool × List ByteArray × Unit)) → Bool → Int → ByteArray → Int → Int → Option chartularylaw01_OctetBack.R
  | 0, _, _, _, _, _, _ => none
  | k + 1, x4, x9, x11, o0_0, o0_1, o0_2 =>
    bif decide ((x11 : Int) < (x4.length : Int)) then
      (rdo x4 x11).bind fun t10 =>
      bif (t10.1 : Int) == 0 then
        (octet_Reader_Num.f k t10.2.1 o0_0 o0_1 o0_2).bind fun r11 =>
        bif !((r11.1.1 : Int) == t10.2.1) then
          some ((false, ()), (()))
        else
          chartularylaw01_OctetBack.l1 k x4 x9 (IntKind.wrap .i64 (x11 + 1)) r11.2.1.1 r11.2.1.2.1 r11.2.1.2.2.1
      else
      bif (t10.1 : Int) == 1 then
        (octet_Reader_Text.f k (t10.2.2.1.size : Int) o0_0 o0_1 o0_2).bind fun r12 =>
        bif !(r12.1.1.toList == t10.2.2.1.toList) then
          some ((false, ()), (()))
        else
          chartularylaw01_OctetBack.l1 k x4 x9 (IntKind.wrap .i64 (x11 + 1)) r12.2.1.1 r12.2.1.2.1 r12.2.1.2.2.1
      else
      bif (t10.1 : Int) == 2 then
        (octet_Reader_Flag.f k o0_0 o0_1 o0_2).bind fun r13 =>
        bif !(r13.1.1 == t10.2.2.2.1) then
          some ((false, ()), (()))
        else
          chartularylaw01_OctetBack.l1 k x4 x9 (IntKind.wrap .i64 (x11 + 1)) r13.2.1.1 r13.2.1.2.1 r13.2.1.2.2.1
      else
      bif (t10.1 : Int) == 3 then
        (octet_Reader_Raw.f k (t10.2.2.1.size : Int) o0_0 o0_1 o0_2).bind fun r14 =>
        bif !(r14.1.1.toList == t10.2.2.1.toList) then
          some ((false, ()), (()))
        else
          chartularylaw01_OctetBack.l1 k x4 x9 (IntKind.wrap .i64 (x11 + 1)) r14.2.1.1 r14.2.1.2.1 r14.2.1.2.2.1
      else
        (chartularylaw01_longest.f k t10.2.2.2.2.1).bind fun r15 =>
        (octet_Reader_Texts.f k (t10.2.2.2.2.1.length : Int) r15.1.1 o0_0 o0_1 o0_2).bind fun r16 =>
        chartularylaw01_OctetBack.l2 k x4 x9 x11 (((r16.1.1.length : Int) : Int) == (t10.2.2.2.2.1.length : Int)) r16.1.1 0 r16.2.1.1 r16.2.1.2.1 r16.2.1.2.2.1 t10.1 t10.2.1 t10.2.2.1 t10.2.2.2.1 t10.2.2.2.2.1
    else
    bif x9 then
      (octet_Reader_End.f k o0_0 o0_1 o0_2).bind fun r17 =>
      bif (r17.1.1 : Int) == 0 then
        (chartularylaw01_awake.f k).bind fun r18 =>
        some ((r18.1.1, ()), (()))
      else
        some ((false, ()), (()))
    else
      some ((false, ()), (()))
noncomputable def chartularylaw01_OctetBack.l2 : Nat → (List (Int × Int × ByteArray × Bool × List ByteArray × Unit)) → Bool → Int → Bool → (List ByteArray) → Int → ByteArray → Int → Int → Int → Int → ByteArray → Bool → (List ByteArray) → Option chartularylaw01_OctetBack.R
  | 0, _, _, _, _, _, _, _, _, _, _, _, _, _, _ => none
  | k + 1, x4, x9, x11, x13, x14, x15, o0_0, o0_1, o0_2, o12_0, o12_1, o12_2, o12_3, o12_4 =>
    bif decide ((x15 : Int) < (x14.length : Int)) then
      bif x13 then
        (rdo x14 x15).bind fun t19 =>
        (rdo o12_4 x15).bind fun t20 =>
        chartularylaw01_OctetBack.l2 k x4 x9 x11 (t19.toList == t20.toList) x14 (IntKind.wrap .i64 (x15 + 1)) o0_0 o0_1 o0_2 o12_0 o12_1 o12_2 o12_3 o12_4
      else
      bif !x13 then
        some ((false, ()), (()))
      else
        chartularylaw01_OctetBack.l1 k x4 x9 (IntKind.wrap .i64 (x11 + 1)) o0_0 o0_1 o0_2
    else
    bif !x13 then
      some ((false, ()), (()))
    else
      chartularylaw01_OctetBack.l1 k x4 x9 (IntKind.wrap .i64 (x11 + 1)) o0_0 o0_1 o0_2
noncomputable def chartularylaw01_OctetBack.f : Nat → (List (Int × Int × ByteArray × Bool × List ByteArray × Unit)) → Option chartularylaw01_OctetBack.R
  | 0, _ => none
  | k + 1, x0 =>
    chartularylaw01_OctetBack.l0 k x0 [] 0 ByteArray.empty false
end
abbrev chartularylaw01_OctetBack.ini : LSh := ⟨[(0, .val (.sl (.cons (.int .i64) (.cons (.int .i64) (.cons .str (.cons .bool (.cons (.sl .str) .nil)))))))], []⟩
abbrev chartularylaw01_OctetBack.out : LSh := ⟨[(0, .val .bool)], []⟩
abbrev chartularylaw01_OctetBack.l0s : LSh := ⟨[(0, .val (.sl (.cons (.int .i64) (.cons (.int .i64) (.cons .str (.cons .bool (.cons (.sl .str) .nil))))))), (3, .ptr 17 0), (4, .own 2000004 34 (.cons (.int .i64) (.cons (.int .i64) (.cons .str (.cons .bool (.cons (.sl .str) .nil)))))), (5, .val (.int .i64))], [(17, 29, [.val .str, .val .bool])]⟩
abbrev chartularylaw01_OctetBack.l1s : LSh := ⟨[(4, .own 2000004 34 (.cons (.int .i64) (.cons (.int .i64) (.cons .str (.cons .bool (.cons (.sl .str) .nil)))))), (9, .val .bool), (10, .ptr 5704000000 0), (11, .val (.int .i64))], [(5704000000, 64, [.val .str, .val (.int .i64), .val (.int .i64)])]⟩
abbrev chartularylaw01_OctetBack.l2s : LSh := ⟨[(4, .own 2000004 34 (.cons (.int .i64) (.cons (.int .i64) (.cons .str (.cons .bool (.cons (.sl .str) .nil)))))), (9, .val .bool), (10, .ptr 5704000000 0), (11, .val (.int .i64)), (12, .ptr 12 0), (13, .val .bool), (14, .val (.sl .str)), (15, .val (.int .i64))], [(5704000000, 64, [.val .str, .val (.int .i64), .val (.int .i64)]), (12, 34, [.val (.int .i64), .val (.int .i64), .val .str, .val .bool, .val (.sl .str)])]⟩
noncomputable def chartularylaw01_OctetBack.labF : Nat → Option (LabF chartularylaw01_OctetBack.out.den)
  | 8 => some ⟨chartularylaw01_OctetBack.l0s, fun k (d : ((List (Int × Int × ByteArray × Bool × List ByteArray × Unit)) × Unit × (List (Int × Int × ByteArray × Bool × List ByteArray × Unit)) × Int × Unit) × ((ByteArray × Bool × Unit) × Unit)) => (chartularylaw01_OctetBack.l0 k d.1.1 d.1.2.2.1 d.1.2.2.2.1 d.2.1.1 d.2.1.2.1 : Option chartularylaw01_OctetBack.R)⟩
  | 26 => some ⟨chartularylaw01_OctetBack.l1s, fun k (d : ((List (Int × Int × ByteArray × Bool × List ByteArray × Unit)) × Bool × Unit × Int × Unit) × ((ByteArray × Int × Int × Unit) × Unit)) => (chartularylaw01_OctetBack.l1 k d.1.1 d.1.2.1 d.1.2.2.2.1 d.2.1.1 d.2.1.2.1 d.2.1.2.2.1 : Option chartularylaw01_OctetBack.R)⟩
  | 42 => some ⟨chartularylaw01_OctetBack.l2s, fun k (d : ((List (Int × Int × ByteArray × Bool × List ByteArray × Unit)) × Bool × Unit × Int × Unit × Bool × List ByteArray × Int × Unit) × ((ByteArray × Int × Int × Unit) × (Int × Int × ByteArray × Bool × List ByteArray × Unit) × Unit)) => (chartularylaw01_OctetBack.l2 k d.1.1 d.1.2.1 d.1.2.2.2.1 d.1.2.2.2.2.2.1 d.1.2.2.2.2.2.2.1 d.1.2.2.2.2.2.2.2.1 d.2.1.1 d.2.1.2.1 d.2.1.2.2.1 d.2.2.1.1 d.2.2.1.2.1 d.2.2.1.2.2.1 d.2.2.1.2.2.2.1 d.2.2.1.2.2.2.2.1 : Option chartularylaw01_OctetBack.R)⟩
  | _ => none
noncomputable def chartularylaw01_OctetBack.fd : FnD := ⟨Try.f8, chartularylaw01_OctetBack.ini, chartularylaw01_OctetBack.out, 1, [], [], chartularylaw01_OctetBack.labF, fun k (d : ((List (Int × Int × ByteArray × Bool × List ByteArray × Unit)) × Unit) × (Unit)) => (chartularylaw01_OctetBack.f k d.1.1 : Option chartularylaw01_OctetBack.R)⟩

noncomputable def Γ (k : Nat) : Gam := [(9, [octet_Num.fd.sp k]), (11, [octet_Text.fd.sp k]), (12, [chartularylaw01_awake.fd.sp k]), (16, [octet_Read.fd.sp k]), (25, [octet_Reader_Err.fd.sp k]), (24, [octet_Reader_Left.fd.sp k]), (20, [octet_Reader_Fail.fd.sp k]), (21, [octet_Reader_Raw.fd.sp k]), (19, [octet_Reader_Num.fd.sp k]), (17, [octet_Reader_Text.fd.sp k]), (18, [octet_Reader_End.fd.sp k]), (22, [octet_Reader_Flag.fd.sp k]), (23, [octet_Reader_Texts.fd.sp k]), (34, [chartularylaw01_plain_raw.fd.sp k]), (33, [chartularylaw01_plain_num.fd.sp k]), (35, [chartularylaw01_plain_texts.fd.sp k]), (26, [chartularylaw01_step.fd.sp k]), (7, [chartularylaw01_OctetReads.fd.sp k]), (10, [chartularylaw01_num.fd.sp k]), (13, [chartularylaw01_laid.fd.sp k]), (28, [octet_Writer_Num.fd.sp k]), (29, [octet_Writer_Text.fd.sp k]), (30, [octet_Writer_Flag.fd.sp k]), (31, [octet_Writer_Raw.fd.sp k]), (32, [octet_Writer_Texts.fd.sp k]), (14, [chartularylaw01_lay.fd.sp k]), (15, [octet_Writer_All.fd.sp k]), (27, [chartularylaw01_longest.fd.sp k]), (8, [chartularylaw01_OctetBack.fd.sp k])]
end Go.Proofs.Ytnlanlhhcgdjiaa.E
