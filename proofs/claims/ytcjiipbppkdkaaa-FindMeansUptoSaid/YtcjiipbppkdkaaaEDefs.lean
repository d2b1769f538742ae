import Derived.Test.YtcjiipbppkdkaaaETab
import Derived.Test.YtcjiipbppkdkaaaProg
namespace Go.Proofs.Ytcjiipbppkdkaaa.E
open Go Go.Proofs.Ytcjiipbppkdkaaa.Eng Go.Proofs
set_option linter.unusedVariables false
set_option maxRecDepth 100000
def tt : TT := [
  (2, ⟨1, 8, false, (.int .i64), [(.int .i64 0)], (.int .i64), false⟩),
  (3, ⟨1, 8, false, (.int .i64), [(.int .i64 0)], (.int .i64), false⟩),
  (4, ⟨1, 1, false, .bool, [(.bool false)], .bool, false⟩),
  (9, ⟨1, 16, false, .str, [(.str ByteArray.empty)], .str, false⟩),
  (22, ⟨1, 24, false, (.sl (.cons .str (.cons (.cons (.int .i64) (.cons .bool (.cons (.int .i64) (.cons (.int .u64) (.cons .str .nil))))) (.cons (.cons (.int .i64) (.cons .bool (.cons (.int .i64) (.cons (.int .u64) (.cons .str .nil))))) (.cons .bool (.cons .bool (.cons .bool .nil))))))), [.nils], (.slice 37), false⟩),
  (24, ⟨4, 56, true, (.cons (.sl (.cons .str (.cons (.cons (.int .i64) (.cons .bool (.cons (.int .i64) (.cons (.int .u64) (.cons .str .nil))))) (.cons (.cons (.int .i64) (.cons .bool (.cons (.int .i64) (.cons (.int .u64) (.cons .str .nil))))) (.cons .bool (.cons .bool (.cons .bool .nil))))))) (.cons .str (.cons .bool (.cons (.int .i64) .nil)))), [.nils, (.str ByteArray.empty), (.bool false), (.int .i64 0)], (.struct [(0, 22, 1), (1, 9, 1), (2, 4, 1), (3, 3, 1)]), false⟩),
  (25, ⟨1, 24, false, (.sl (.cons .str (.cons (.cons (.int .i64) (.cons .bool (.cons (.int .i64) (.cons (.int .u64) (.cons .str .nil))))) .nil))), [.nils], (.slice 53), false⟩),
  (27, ⟨3, 48, true, (.cons .str (.cons (.int .i64) (.cons (.sl (.cons .str (.cons (.cons (.int .i64) (.cons .bool (.cons (.int .i64) (.cons (.int .u64) (.cons .str .nil))))) .nil))) .nil))), [(.str ByteArray.empty), (.int .i64 0), .nils], (.struct [(0, 9, 1), (1, 3, 1), (2, 25, 1)]), false⟩),
  (33, ⟨1, 8, false, (.int .u64), [(.int .u64 0)], (.int .u64), false⟩),
  (35, ⟨5, 48, true, (.cons (.int .i64) (.cons .bool (.cons (.int .i64) (.cons (.int .u64) (.cons .str .nil))))), [(.int .i64 0), (.bool false), (.int .i64 0), (.int .u64 0), (.str ByteArray.empty)], (.struct [(0, 3, 1), (1, 4, 1), (2, 2, 1), (3, 33, 1), (4, 9, 1)]), true⟩),
  (37, ⟨14, 120, true, (.cons .str (.cons (.cons (.int .i64) (.cons .bool (.cons (.int .i64) (.cons (.int .u64) (.cons .str .nil))))) (.cons (.cons (.int .i64) (.cons .bool (.cons (.int .i64) (.cons (.int .u64) (.cons .str .nil))))) (.cons .bool (.cons .bool (.cons .bool .nil)))))), [(.str ByteArray.empty), (.int .i64 0), (.bool false), (.int .i64 0), (.int .u64 0), (.str ByteArray.empty), (.int .i64 0), (.bool false), (.int .i64 0), (.int .u64 0), (.str ByteArray.empty), (.bool false), (.bool false), (.bool false)], (.struct [(0, 9, 1), (1, 35, 5), (6, 35, 5), (11, 4, 1), (12, 4, 1), (13, 4, 1)]), true⟩),
  (40, ⟨1, 24, false, (.sl (.cons .str (.cons (.int .i64) (.cons (.sl (.cons .str (.cons (.cons (.int .i64) (.cons .bool (.cons (.int .i64) (.cons (.int .u64) (.cons .str .nil))))) .nil))) .nil)))), [.nils], (.slice 27), false⟩),
  (42, ⟨1, 24, false, (.sl (.int .i64)), [.nils], (.slice 3), false⟩),
  (50, ⟨1, 24, false, (.sl (.int .u64)), [.nils], (.slice 33), false⟩),
  (53, ⟨6, 64, true, (.cons .str (.cons (.cons (.int .i64) (.cons .bool (.cons (.int .i64) (.cons (.int .u64) (.cons .str .nil))))) .nil)), [(.str ByteArray.empty), (.int .i64 0), (.bool false), (.int .i64 0), (.int .u64 0), (.str ByteArray.empty)], (.struct [(0, 9, 1), (1, 35, 5)]), true⟩),
  (54, ⟨1, 8, false, (.int .u64), [(.int .u64 0)], (.int .u64), false⟩),
  (59, ⟨1, 24, false, (.sl (.cons (.cons (.int .i64) (.cons .bool (.cons (.int .i64) (.cons (.int .u64) (.cons .str .nil))))) (.cons (.int .i64) .nil))), [.nils], (.slice 69), false⟩),
  (69, ⟨6, 56, true, (.cons (.cons (.int .i64) (.cons .bool (.cons (.int .i64) (.cons (.int .u64) (.cons .str .nil))))) (.cons (.int .i64) .nil)), [(.int .i64 0), (.bool false), (.int .i64 0), (.int .u64 0), (.str ByteArray.empty), (.int .i64 0)], (.struct [(0, 35, 5), (5, 3, 1)]), true⟩),
  (79, ⟨1, 8, false, .flt, [(.flt 0)], .flt, false⟩)]
/-! ### value_nan : function 38 -/
abbrev value_nan.R := (Bool × Unit) × (Unit)
noncomputable def value_nan.f : Nat → Int → Option value_nan.R
  | 0, _ => none
  | k + 1, x0 =>
    some ((decide ((IntKind.wrap .u64 ((BitVec.ofInt (IntKind.bits .u64) x0 &&& BitVec.ofInt (IntKind.bits .u64) 9223372036854775807).toNat : Int) : Int) > 9218868437227405312), ()), (()))
abbrev value_nan.ini : LSh := ⟨[(0, .val (.int .u64))], []⟩
abbrev value_nan.out : LSh := ⟨[(0, .val .bool)], []⟩
noncomputable def value_nan.labF : Nat → Option (LabF value_nan.out.den)
  | _ => none
noncomputable def value_nan.fd : FnD := ⟨Try.f38, value_nan.ini, value_nan.out, 1, [], [], value_nan.labF, fun k (d : (Int × Unit) × (Unit)) => (value_nan.f k d.1.1 : Option value_nan.R)⟩

/-! ### value_Clean : function 20 -/
abbrev value_Clean.R := ((Int × Bool × Int × Int × ByteArray × Unit) × Unit) × (Unit)
noncomputable def value_Clean.f : Nat → (Int × Bool × Int × Int × ByteArray × Unit) → Option value_Clean.R
  | 0, _ => none
  | k + 1, x0 =>
    bif (x0.1 : Int) == 1 then
      some (((x0.1, (x0.2.1, (0, (0, (ByteArray.empty, ()))))), ()), (()))
    else
    bif (x0.1 : Int) == 2 then
      some (((x0.1, (false, (x0.2.2.1, (0, (ByteArray.empty, ()))))), ()), (()))
    else
    bif (x0.1 : Int) == 3 then
      (value_nan.f k x0.2.2.2.1).bind fun r1 =>
      bif r1.1.1 then
        some (((x0.1, (false, (0, (9221120237041090561, (ByteArray.empty, ()))))), ()), (()))
      else
        some (((x0.1, (false, (0, (x0.2.2.2.1, (ByteArray.empty, ()))))), ()), (()))
    else
    bif (x0.1 : Int) == 4 then
      some (((x0.1, (false, (0, (0, (x0.2.2.2.2.1, ()))))), ()), (()))
    else
      some (((x0.1, (false, (0, (0, (ByteArray.empty, ()))))), ()), (()))
abbrev value_Clean.ini : LSh := ⟨[(0, .val (.cons (.int .i64) (.cons .bool (.cons (.int .i64) (.cons (.int .u64) (.cons .str .nil))))))], []⟩
abbrev value_Clean.out : LSh := ⟨[(0, .val (.cons (.int .i64) (.cons .bool (.cons (.int .i64) (.cons (.int .u64) (.cons .str .nil))))))], []⟩
noncomputable def value_Clean.labF : Nat → Option (LabF value_Clean.out.den)
  | _ => none
noncomputable def value_Clean.fd : FnD := ⟨Try.f20, value_Clean.ini, value_Clean.out, 1, [], [], value_Clean.labF, fun k (d : ((Int × Bool × Int × Int × ByteArray × Unit) × Unit) × (Unit)) => (value_Clean.f k d.1.1 : Option value_Clean.R)⟩

/-! ### value_Right : function 22 -/
abbrev value_Right.R := (Bool × Unit) × (Unit)
noncomputable def value_Right.f : Nat → (Int × Bool × Int × Int × ByteArray × Unit) → Option value_Right.R
  | 0, _ => none
  | k + 1, x0 =>
    bif decide ((x0.1 : Int) ≥ 0) then
      bif decide ((x0.1 : Int) ≤ 4) then
        bif decide (((x0.2.2.2.2.1.size : Int) : Int) ≤ 200) then
          (value_Clean.f k (x0.1, (x0.2.1, (x0.2.2.1, (x0.2.2.2.1, (x0.2.2.2.2.1, ())))))).bind fun r1 =>
          some ((((x0.1 : Int) == r1.1.1.1 && (x0.2.1 == r1.1.1.2.1 && ((x0.2.2.1 : Int) == r1.1.1.2.2.1 && ((x0.2.2.2.1 : Int) == r1.1.1.2.2.2.1 && (seqB x0.2.2.2.2.1 r1.1.1.2.2.2.2.1 && true))))), ()), (()))
        else
          some ((false, ()), (()))
      else
        some ((false, ()), (()))
    else
      some ((false, ()), (()))
abbrev value_Right.ini : LSh := ⟨[(0, .val (.cons (.int .i64) (.cons .bool (.cons (.int .i64) (.cons (.int .u64) (.cons .str .nil))))))], []⟩
abbrev value_Right.out : LSh := ⟨[(0, .val .bool)], []⟩
noncomputable def value_Right.labF : Nat → Option (LabF value_Right.out.den)
  | _ => none
noncomputable def value_Right.fd : FnD := ⟨Try.f22, value_Right.ini, value_Right.out, 1, [], [], value_Right.labF, fun k (d : ((Int × Bool × Int × Int × ByteArray × Unit) × Unit) × (Unit)) => (value_Right.f k d.1.1 : Option value_Right.R)⟩

/-! ### paper_sign : function 60 -/
abbrev paper_sign.R := (Bool × Unit) × (Unit)
noncomputable def paper_sign.f : Nat → Int → Option paper_sign.R
  | 0, _ => none
  | k + 1, x0 =>
    bif decide ((x0 : Int) ≥ 97) then
      bif decide ((x0 : Int) ≤ 122) then
        some ((true, ()), (()))
      else
      bif decide ((x0 : Int) ≥ 65) then
        bif decide ((x0 : Int) ≤ 90) then
          some ((true, ()), (()))
        else
        bif decide ((x0 : Int) ≥ 48) then
          bif decide ((x0 : Int) ≤ 57) then
            some ((true, ()), (()))
          else
          bif (x0 : Int) == 45 then
            some ((true, ()), (()))
          else
          bif (x0 : Int) == 95 then
            some ((true, ()), (()))
          else
            some (((x0 : Int) == 46, ()), (()))
        else
        bif (x0 : Int) == 45 then
          some ((true, ()), (()))
        else
        bif (x0 : Int) == 95 then
          some ((true, ()), (()))
        else
          some (((x0 : Int) == 46, ()), (()))
      else
      bif decide ((x0 : Int) ≥ 48) then
        bif decide ((x0 : Int) ≤ 57) then
          some ((true, ()), (()))
        else
        bif (x0 : Int) == 45 then
          some ((true, ()), (()))
        else
        bif (x0 : Int) == 95 then
          some ((true, ()), (()))
        else
          some (((x0 : Int) == 46, ()), (()))
      else
      bif (x0 : Int) == 45 then
        some ((true, ()), (()))
      else
      bif (x0 : Int) == 95 then
        some ((true, ()), (()))
      else
        some (((x0 : Int) == 46, ()), (()))
    else
    bif decide ((x0 : Int) ≥ 65) then
      bif decide ((x0 : Int) ≤ 90) then
        some ((true, ()), (()))
      else
      bif decide ((x0 : Int) ≥ 48) then
        bif decide ((x0 : Int) ≤ 57) then
          some ((true, ()), (()))
        else
        bif (x0 : Int) == 45 then
          some ((true, ()), (()))
        else
        bif (x0 : Int) == 95 then
          some ((true, ()), (()))
        else
          some (((x0 : Int) == 46, ()), (()))
      else
      bif (x0 : Int) == 45 then
        some ((true, ()), (()))
      else
      bif (x0 : Int) == 95 then
        some ((true, ()), (()))
      else
        some (((x0 : Int) == 46, ()), (()))
    else
    bif decide ((x0 : Int) ≥ 48) then
      bif decide ((x0 : Int) ≤ 57) then
        some ((true, ()), (()))
      else
      bif (x0 : Int) == 45 then
        some ((true, ()), (()))
      else
      bif (x0 : Int) == 95 then
        some ((true, ()), (()))
      else
        some (((x0 : Int) == 46, ()), (()))
    else
    bif (x0 : Int) == 45 then
      some ((true, ()), (()))
    else
    bif (x0 : Int) == 95 then
      some ((true, ()), (()))
    else
      some (((x0 : Int) == 46, ()), (()))
abbrev paper_sign.ini : LSh := ⟨[(0, .val (.int .u8))], []⟩
abbrev paper_sign.out : LSh := ⟨[(0, .val .bool)], []⟩
noncomputable def paper_sign.labF : Nat → Option (LabF paper_sign.out.den)
  | _ => none
noncomputable def paper_sign.fd : FnD := ⟨Try.f60, paper_sign.ini, paper_sign.out, 1, [], [], paper_sign.labF, fun k (d : (Int × Unit) × (Unit)) => (paper_sign.f k d.1.1 : Option paper_sign.R)⟩

/-! ### paper_word : function 49 -/
abbrev paper_word.R := (Bool × Unit) × (Unit)
mutual
noncomputable def paper_word.j0 : Nat → ByteArray → Option paper_word.R
  | 0, _ => none
  | k + 1, x0 =>
    paper_word.l0 k x0 (x0.size : Int) 0
noncomputable def paper_word.l0 : Nat → ByteArray → Int → Int → Option paper_word.R
  | 0, _, _, _ => none
  | k + 1, x0, x15, x16 =>
    bif decide ((x16 : Int) < x15) then
      (bto x0 x16).bind fun t1 =>
      (paper_sign.f k t1).bind fun r2 =>
      bif !r2.1.1 then
        some ((false, ()), (()))
      else
        paper_word.l0 k x0 x15 (IntKind.wrap .i64 (x16 + 1))
    else
      some ((true, ()), (()))
noncomputable def paper_word.f : Nat → ByteArray → Int → Option paper_word.R
  | 0, _, _ => none
  | k + 1, x0, x1 =>
    bif x0.toList == (⟨#[]⟩ : ByteArray).toList then
      some ((false, ()), (()))
    else
    bif decide (((x0.size : Int) : Int) > x1) then
      some ((false, ()), (()))
    else
      paper_word.j0 k x0
end
abbrev paper_word.ini : LSh := ⟨[(0, .val .str), (1, .val (.int .i64))], []⟩
abbrev paper_word.out : LSh := ⟨[(0, .val .bool)], []⟩
abbrev paper_word.j0s : LSh := ⟨[(0, .val .str)], []⟩
abbrev paper_word.l0s : LSh := ⟨[(0, .val .str), (15, .val (.int .i64)), (16, .val (.int .i64))], []⟩
noncomputable def paper_word.labF : Nat → Option (LabF paper_word.out.den)
  | 7 => some ⟨paper_word.j0s, fun k (d : (ByteArray × Unit) × (Unit)) => (paper_word.j0 k d.1.1 : Option paper_word.R)⟩
  | 8 => some ⟨paper_word.l0s, fun k (d : (ByteArray × Int × Int × Unit) × (Unit)) => (paper_word.l0 k d.1.1 d.1.2.1 d.1.2.2.1 : Option paper_word.R)⟩
  | _ => none
noncomputable def paper_word.fd : FnD := ⟨Try.f49, paper_word.ini, paper_word.out, 1, [], [], paper_word.labF, fun k (d : (ByteArray × Int × Unit) × (Unit)) => (paper_word.f k d.1.1 d.1.2.1 : Option paper_word.R)⟩

/-! ### paper_IsName : function 30 -/
abbrev paper_IsName.R := (Bool × Unit) × (Unit)
noncomputable def paper_IsName.f : Nat → ByteArray → Option paper_IsName.R
  | 0, _ => none
  | k + 1, x0 =>
    (paper_word.f k x0 16).bind fun r1 =>
    some ((r1.1.1, ()), (()))
abbrev paper_IsName.ini : LSh := ⟨[(0, .val .str)], []⟩
abbrev paper_IsName.out : LSh := ⟨[(0, .val .bool)], []⟩
noncomputable def paper_IsName.labF : Nat → Option (LabF paper_IsName.out.den)
  | _ => none
noncomputable def paper_IsName.fd : FnD := ⟨Try.f30, paper_IsName.ini, paper_IsName.out, 1, [], [], paper_IsName.labF, fun k (d : (ByteArray × Unit) × (Unit)) => (paper_IsName.f k d.1.1 : Option paper_IsName.R)⟩

/-! ### find_Check : function 10 -/
abbrev find_Check.R := (Int × Unit) × (Unit)
mutual
noncomputable def find_Check.j0 : Nat → (List (ByteArray × (Int × Bool × Int × Int × ByteArray × Unit) × (Int × Bool × Int × Int × ByteArray × Unit) × Bool × Bool × Bool × Unit)) → ByteArray → Bool → Int → Option find_Check.R
  | 0, _, _, _, _ => none
  | k + 1, o1_0, o1_1, o1_2, o1_3 =>
    find_Check.l0 k o1_0 (o1_0.length : Int) 0
noncomputable def find_Check.l0 : Nat → (List (ByteArray × (Int × Bool × Int × Int × ByteArray × Unit) × (Int × Bool × Int × Int × ByteArray × Unit) × Bool × Bool × Bool × Unit)) → Int → Int → Option find_Check.R
  | 0, _, _, _ => none
  | k + 1, x26, x27, x28 =>
    bif decide ((x28 : Int) < x27) then
      (rdo x26 x28).bind fun t2 =>
      (paper_IsName.f k t2.1).bind fun r3 =>
      bif !r3.1.1 then
        some ((14, ()), (()))
      else
      bif t2.2.2.2.1 then
        (value_Right.f k (t2.2.1.1, (t2.2.1.2.1, (t2.2.1.2.2.1, (t2.2.1.2.2.2.1, (t2.2.1.2.2.2.2.1, ())))))).bind fun r4 =>
        bif !r4.1.1 then
          some ((15, ()), (()))
        else
        bif t2.2.2.2.2.1 then
          (value_Right.f k (t2.2.2.1.1, (t2.2.2.1.2.1, (t2.2.2.1.2.2.1, (t2.2.2.1.2.2.2.1, (t2.2.2.1.2.2.2.2.1, ())))))).bind fun r5 =>
          bif !r5.1.1 then
            some ((15, ()), (()))
          else
            find_Check.l0 k x26 x27 (IntKind.wrap .i64 (x28 + 1))
        else
          find_Check.l0 k x26 x27 (IntKind.wrap .i64 (x28 + 1))
      else
      bif t2.2.2.2.2.1 then
        (value_Right.f k (t2.2.2.1.1, (t2.2.2.1.2.1, (t2.2.2.1.2.2.1, (t2.2.2.1.2.2.2.1, (t2.2.2.1.2.2.2.2.1, ())))))).bind fun r6 =>
        bif !r6.1.1 then
          some ((15, ()), (()))
        else
          find_Check.l0 k x26 x27 (IntKind.wrap .i64 (x28 + 1))
      else
        find_Check.l0 k x26 x27 (IntKind.wrap .i64 (x28 + 1))
    else
      some ((0, ()), (()))
noncomputable def find_Check.f : Nat → (List (ByteArray × (Int × Bool × Int × Int × ByteArray × Unit) × (Int × Bool × Int × Int × ByteArray × Unit) × Bool × Bool × Bool × Unit) × ByteArray × Bool × Int × Unit) → Option find_Check.R
  | 0, _ => none
  | k + 1, x0 =>
    bif decide (((x0.1.length : Int) : Int) > 8) then
      some ((5, ()), (()))
    else
    bif decide ((x0.2.2.2.1 : Int) < 0) then
      some ((5, ()), (()))
    else
    bif !(x0.2.1.toList == (⟨#[]⟩ : ByteArray).toList) then
      (paper_IsName.f k x0.2.1).bind fun r1 =>
      bif !r1.1.1 then
        some ((14, ()), (()))
      else
        find_Check.j0 k x0.1 x0.2.1 x0.2.2.1 x0.2.2.2.1
    else
      find_Check.j0 k x0.1 x0.2.1 x0.2.2.1 x0.2.2.2.1
end
abbrev find_Check.ini : LSh := ⟨[(0, .val (.cons (.sl (.cons .str (.cons (.cons (.int .i64) (.cons .bool (.cons (.int .i64) (.cons (.int .u64) (.cons .str .nil))))) (.cons (.cons (.int .i64) (.cons .bool (.cons (.int .i64) (.cons (.int .u64) (.cons .str .nil))))) (.cons .bool (.cons .bool (.cons .bool .nil))))))) (.cons .str (.cons .bool (.cons (.int .i64) .nil)))))], []⟩
abbrev find_Check.out : LSh := ⟨[(0, .val (.int .i64))], []⟩
abbrev find_Check.j0s : LSh := ⟨[(1, .ptr 1 0)], [(1, 24, [.val (.sl (.cons .str (.cons (.cons (.int .i64) (.cons .bool (.cons (.int .i64) (.cons (.int .u64) (.cons .str .nil))))) (.cons (.cons (.int .i64) (.cons .bool (.cons (.int .i64) (.cons (.int .u64) (.cons .str .nil))))) (.cons .bool (.cons .bool (.cons .bool .nil))))))), .val .str, .val .bool, .val (.int .i64)])]⟩
abbrev find_Check.l0s : LSh := ⟨[(26, .val (.sl (.cons .str (.cons (.cons (.int .i64) (.cons .bool (.cons (.int .i64) (.cons (.int .u64) (.cons .str .nil))))) (.cons (.cons (.int .i64) (.cons .bool (.cons (.int .i64) (.cons (.int .u64) (.cons .str .nil))))) (.cons .bool (.cons .bool (.cons .bool .nil)))))))), (27, .val (.int .i64)), (28, .val (.int .i64))], []⟩
noncomputable def find_Check.labF : Nat → Option (LabF find_Check.out.den)
  | 11 => some ⟨find_Check.j0s, fun k (d : (Unit × Unit) × (((List (ByteArray × (Int × Bool × Int × Int × ByteArray × Unit) × (Int × Bool × Int × Int × ByteArray × Unit) × Bool × Bool × Bool × Unit)) × ByteArray × Bool × Int × Unit) × Unit)) => (find_Check.j0 k d.2.1.1 d.2.1.2.1 d.2.1.2.2.1 d.2.1.2.2.2.1 : Option find_Check.R)⟩
  | 12 => some ⟨find_Check.l0s, fun k (d : ((List (ByteArray × (Int × Bool × Int × Int × ByteArray × Unit) × (Int × Bool × Int × Int × ByteArray × Unit) × Bool × Bool × Bool × Unit)) × Int × Int × Unit) × (Unit)) => (find_Check.l0 k d.1.1 d.1.2.1 d.1.2.2.1 : Option find_Check.R)⟩
  | _ => none
noncomputable def find_Check.fd : FnD := ⟨Try.f10, find_Check.ini, find_Check.out, 1, [], [], find_Check.labF, fun k (d : ((List (ByteArray × (Int × Bool × Int × Int × ByteArray × Unit) × (Int × Bool × Int × Int × ByteArray × Unit) × Bool × Bool × Bool × Unit) × ByteArray × Bool × Int × Unit) × Unit) × (Unit)) => (find_Check.f k d.1.1 : Option find_Check.R)⟩

/-! ### paper_Find_1_v0 : function 51 -/
abbrev paper_Find_1_v0.R := (Bool × Unit) × (Unit)
noncomputable def paper_Find_1_v0.f : Nat → (ByteArray × (Int × Bool × Int × Int × ByteArray × Unit) × Unit) → ByteArray → Option paper_Find_1_v0.R
  | 0, _, _ => none
  | k + 1, x0, o0_0 =>
    some ((x0.1.toList == o0_0.toList, ()), (()))
abbrev paper_Find_1_v0.ini : LSh := ⟨[(0, .val (.cons .str (.cons (.cons (.int .i64) (.cons .bool (.cons (.int .i64) (.cons (.int .u64) (.cons .str .nil))))) .nil))), (1, .ptr 1000000 0)], [(1000000, 9, [.val .str])]⟩
abbrev paper_Find_1_v0.out : LSh := ⟨[(0, .val .bool)], []⟩
noncomputable def paper_Find_1_v0.labF : Nat → Option (LabF paper_Find_1_v0.out.den)
  | _ => none
noncomputable def paper_Find_1_v0.fd : FnD := ⟨Try.f51, paper_Find_1_v0.ini, paper_Find_1_v0.out, 1, [1000000], [1000000], paper_Find_1_v0.labF, fun k (d : ((ByteArray × (Int × Bool × Int × Int × ByteArray × Unit) × Unit) × Unit × Unit) × ((ByteArray × Unit) × Unit)) => (paper_Find_1_v0.f k d.1.1 d.2.1.1 : Option paper_Find_1_v0.R)⟩

/-! ### slices_IndexFunc_api_Field_v0 : function 50 -/
abbrev slices_IndexFunc_api_Field_v0.R := (Int × Unit) × (Unit)
mutual
noncomputable def slices_IndexFunc_api_Field_v0.l0 : Nat → (List (ByteArray × (Int × Bool × Int × Int × ByteArray × Unit) × Unit)) → Int → Int → ByteArray → Option slices_IndexFunc_api_Field_v0.R
  | 0, _, _, _, _ => none
  | k + 1, x0, x7, x8, o0_0 =>
    bif decide ((x8 : Int) < x7) then
      (rdo x0 x8).bind fun t1 =>
      (paper_Find_1_v0.f k (t1.1, ((t1.2.1.1, (t1.2.1.2.1, (t1.2.1.2.2.1, (t1.2.1.2.2.2.1, (t1.2.1.2.2.2.2.1, ()))))), ())) o0_0).bind fun r2 =>
      bif r2.1.1 then
        some ((x8, ()), (()))
      else
        slices_IndexFunc_api_Field_v0.l0 k x0 x7 (IntKind.wrap .i64 (x8 + 1)) o0_0
    else
      some (((-1), ()), (()))
noncomputable def slices_IndexFunc_api_Field_v0.f : Nat → (List (ByteArray × (Int × Bool × Int × Int × ByteArray × Unit) × Unit)) → ByteArray → Option slices_IndexFunc_api_Field_v0.R
  | 0, _, _ => none
  | k + 1, x0, o0_0 =>
    slices_IndexFunc_api_Field_v0.l0 k x0 (x0.length : Int) 0 o0_0
end
abbrev slices_IndexFunc_api_Field_v0.ini : LSh := ⟨[(0, .val (.sl (.cons .str (.cons (.cons (.int .i64) (.cons .bool (.cons (.int .i64) (.cons (.int .u64) (.cons .str .nil))))) .nil)))), (1, .clo 51 [(1000000, 0)])], [(1000000, 9, [.val .str])]⟩
abbrev slices_IndexFunc_api_Field_v0.out : LSh := ⟨[(0, .val (.int .i64))], []⟩
abbrev slices_IndexFunc_api_Field_v0.l0s : LSh := ⟨[(0, .val (.sl (.cons .str (.cons (.cons (.int .i64) (.cons .bool (.cons (.int .i64) (.cons (.int .u64) (.cons .str .nil))))) .nil)))), (1, .clo 51 [(1000000, 0)]), (7, .val (.int .i64)), (8, .val (.int .i64))], [(1000000, 9, [.val .str])]⟩
noncomputable def slices_IndexFunc_api_Field_v0.labF : Nat → Option (LabF slices_IndexFunc_api_Field_v0.out.den)
  | 4 => some ⟨slices_IndexFunc_api_Field_v0.l0s, fun k (d : ((List (ByteArray × (Int × Bool × Int × Int × ByteArray × Unit) × Unit)) × Unit × Int × Int × Unit) × ((ByteArray × Unit) × Unit)) => (slices_IndexFunc_api_Field_v0.l0 k d.1.1 d.1.2.2.1 d.1.2.2.2.1 d.2.1.1 : Option slices_IndexFunc_api_Field_v0.R)⟩
  | _ => none
noncomputable def slices_IndexFunc_api_Field_v0.fd : FnD := ⟨Try.f50, slices_IndexFunc_api_Field_v0.ini, slices_IndexFunc_api_Field_v0.out, 1, [1000000], [1000000], slices_IndexFunc_api_Field_v0.labF, fun k (d : ((List (ByteArray × (Int × Bool × Int × Int × ByteArray × Unit) × Unit)) × Unit × Unit) × ((ByteArray × Unit) × Unit)) => (slices_IndexFunc_api_Field_v0.f k d.1.1 d.2.1.1 : Option slices_IndexFunc_api_Field_v0.R)⟩

/-! ### paper_Find : function 31 -/
abbrev paper_Find.R := (Int × Unit) × (Unit)
noncomputable def paper_Find.f : Nat → (ByteArray × Int × List (ByteArray × (Int × Bool × Int × Int × ByteArray × Unit) × Unit) × Unit) → ByteArray → Option paper_Find.R
  | 0, _, _ => none
  | k + 1, x0, x1 =>
    (slices_IndexFunc_api_Field_v0.f k x0.2.2.1 x1).bind fun r1 =>
    some ((r1.1.1, ()), (()))
abbrev paper_Find.ini : LSh := ⟨[(0, .val (.cons .str (.cons (.int .i64) (.cons (.sl (.cons .str (.cons (.cons (.int .i64) (.cons .bool (.cons (.int .i64) (.cons (.int .u64) (.cons .str .nil))))) .nil))) .nil)))), (1, .val .str)], []⟩
abbrev paper_Find.out : LSh := ⟨[(0, .val (.int .i64))], []⟩
noncomputable def paper_Find.labF : Nat → Option (LabF paper_Find.out.den)
  | _ => none
noncomputable def paper_Find.fd : FnD := ⟨Try.f31, paper_Find.ini, paper_Find.out, 1, [], [], paper_Find.labF, fun k (d : ((ByteArray × Int × List (ByteArray × (Int × Bool × Int × Int × ByteArray × Unit) × Unit) × Unit) × ByteArray × Unit) × (Unit)) => (paper_Find.f k d.1.1 d.1.2.1 : Option paper_Find.R)⟩

/-! ### value_sign : function 46 -/
abbrev value_sign.R := (Int × Unit) × (Unit)
noncomputable def value_sign.f : Nat → Bool → Bool → Option value_sign.R
  | 0, _, _ => none
  | k + 1, x0, x1 =>
    bif x0 then
      some (((-1), ()), (()))
    else
    bif x1 then
      some ((1, ()), (()))
    else
      some ((0, ()), (()))
abbrev value_sign.ini : LSh := ⟨[(0, .val .bool), (1, .val .bool)], []⟩
abbrev value_sign.out : LSh := ⟨[(0, .val (.int .i64))], []⟩
noncomputable def value_sign.labF : Nat → Option (LabF value_sign.out.den)
  | _ => none
noncomputable def value_sign.fd : FnD := ⟨Try.f46, value_sign.ini, value_sign.out, 1, [], [], value_sign.labF, fun k (d : (Bool × Bool × Unit) × (Unit)) => (value_sign.f k d.1.1 d.1.2.1 : Option value_sign.R)⟩

/-! ### value_rank : function 47 -/
abbrev value_rank.R := (Int × Unit) × (Unit)
noncomputable def value_rank.f : Nat → Int → Option value_rank.R
  | 0, _ => none
  | k + 1, x0 =>
    (ck (!decide ((63 : Int) < 0))).bind fun _ =>
    bif (Int.fdiv x0 (2 ^ (min (63 : Int).toNat (IntKind.bits .u64))) : Int) == 1 then
      some ((IntKind.wrap .u64 ((BitVec.ofInt (IntKind.bits .u64) (match IntKind.signed .u64 with | true => -1 | false => IntKind.max .u64) ^^^ BitVec.ofInt (IntKind.bits .u64) x0).toNat : Int), ()), (()))
    else
      some ((IntKind.wrap .u64 ((BitVec.ofInt (IntKind.bits .u64) x0 ||| BitVec.ofInt (IntKind.bits .u64) 9223372036854775808).toNat : Int), ()), (()))
abbrev value_rank.ini : LSh := ⟨[(0, .val (.int .u64))], []⟩
abbrev value_rank.out : LSh := ⟨[(0, .val (.int .u64))], []⟩
noncomputable def value_rank.labF : Nat → Option (LabF value_rank.out.den)
  | _ => none
noncomputable def value_rank.fd : FnD := ⟨Try.f47, value_rank.ini, value_rank.out, 1, [], [], value_rank.labF, fun k (d : (Int × Unit) × (Unit)) => (value_rank.f k d.1.1 : Option value_rank.R)⟩

/-! ### bytealg_CompareString : function 59 -/
abbrev bytealg_CompareString.R := (Int × Unit) × (Unit)
noncomputable def bytealg_CompareString.f : Nat → ByteArray → ByteArray → Option bytealg_CompareString.R
  | 0, _, _ => none
  | k + 1, x0, x1 =>
    (strCmp.f k x0 x1).bind fun r1 =>
    some ((r1.1.1, ()), (()))
abbrev bytealg_CompareString.ini : LSh := ⟨[(0, .val .str), (1, .val .str)], []⟩
abbrev bytealg_CompareString.out : LSh := ⟨[(0, .val (.int .i64))], []⟩
noncomputable def bytealg_CompareString.labF : Nat → Option (LabF bytealg_CompareString.out.den)
  | _ => none
noncomputable def bytealg_CompareString.fd : FnD := ⟨Try.f59, bytealg_CompareString.ini, bytealg_CompareString.out, 1, [], [], bytealg_CompareString.labF, fun k (d : (ByteArray × ByteArray × Unit) × (Unit)) => (bytealg_CompareString.f k d.1.1 d.1.2.1 : Option bytealg_CompareString.R)⟩

/-! ### strings_Compare : function 48 -/
abbrev strings_Compare.R := (Int × Unit) × (Unit)
noncomputable def strings_Compare.f : Nat → ByteArray → ByteArray → Option strings_Compare.R
  | 0, _, _ => none
  | k + 1, x0, x1 =>
    (bytealg_CompareString.f k x0 x1).bind fun r1 =>
    some ((r1.1.1, ()), (()))
abbrev strings_Compare.ini : LSh := ⟨[(0, .val .str), (1, .val .str)], []⟩
abbrev strings_Compare.out : LSh := ⟨[(0, .val (.int .i64))], []⟩
noncomputable def strings_Compare.labF : Nat → Option (LabF strings_Compare.out.den)
  | _ => none
noncomputable def strings_Compare.fd : FnD := ⟨Try.f48, strings_Compare.ini, strings_Compare.out, 1, [], [], strings_Compare.labF, fun k (d : (ByteArray × ByteArray × Unit) × (Unit)) => (strings_Compare.f k d.1.1 d.1.2.1 : Option strings_Compare.R)⟩

/-! ### value_Compare : function 29 -/
abbrev value_Compare.R := (Int × Unit) × (Unit)
noncomputable def value_Compare.f : Nat → (Int × Bool × Int × Int × ByteArray × Unit) → (Int × Bool × Int × Int × ByteArray × Unit) → Option value_Compare.R
  | 0, _, _ => none
  | k + 1, x0, x1 =>
    bif (x0.1 : Int) != x1.1 then
      (value_sign.f k (decide ((x0.1 : Int) < x1.1)) (decide ((x0.1 : Int) > x1.1))).bind fun r1 =>
      some ((r1.1.1, ()), (()))
    else
    bif (x0.1 : Int) == 1 then
      bif !x0.2.1 then
        bif x0.2.1 then
          (value_sign.f k x1.2.1 (!x1.2.1)).bind fun r2 =>
          some ((r2.1.1, ()), (()))
        else
          (value_sign.f k x1.2.1 false).bind fun r3 =>
          some ((r3.1.1, ()), (()))
      else
      bif x0.2.1 then
        (value_sign.f k false (!x1.2.1)).bind fun r4 =>
        some ((r4.1.1, ()), (()))
      else
        (value_sign.f k false false).bind fun r5 =>
        some ((r5.1.1, ()), (()))
    else
    bif (x0.1 : Int) == 2 then
      (value_sign.f k (decide ((x0.2.2.1 : Int) < x1.2.2.1)) (decide ((x0.2.2.1 : Int) > x1.2.2.1))).bind fun r6 =>
      some ((r6.1.1, ()), (()))
    else
    bif (x0.1 : Int) == 3 then
      (value_Clean.f k (x0.1, (x0.2.1, (x0.2.2.1, (x0.2.2.2.1, (x0.2.2.2.2.1, ())))))).bind fun r7 =>
      (value_rank.f k r7.1.1.2.2.2.1).bind fun r8 =>
      (value_Clean.f k (x1.1, (x1.2.1, (x1.2.2.1, (x1.2.2.2.1, (x1.2.2.2.2.1, ())))))).bind fun r9 =>
      (value_rank.f k r9.1.1.2.2.2.1).bind fun r10 =>
      (value_sign.f k (decide ((r8.1.1 : Int) < r10.1.1)) (decide ((r8.1.1 : Int) > r10.1.1))).bind fun r11 =>
      some ((r11.1.1, ()), (()))
    else
    bif (x0.1 : Int) == 4 then
      (strings_Compare.f k x0.2.2.2.2.1 x1.2.2.2.2.1).bind fun r12 =>
      some ((r12.1.1, ()), (()))
    else
      some ((0, ()), (()))
abbrev value_Compare.ini : LSh := ⟨[(0, .val (.cons (.int .i64) (.cons .bool (.cons (.int .i64) (.cons (.int .u64) (.cons .str .nil)))))), (1, .val (.cons (.int .i64) (.cons .bool (.cons (.int .i64) (.cons (.int .u64) (.cons .str .nil))))))], []⟩
abbrev value_Compare.out : LSh := ⟨[(0, .val (.int .i64))], []⟩
noncomputable def value_Compare.labF : Nat → Option (LabF value_Compare.out.den)
  | _ => none
noncomputable def value_Compare.fd : FnD := ⟨Try.f29, value_Compare.ini, value_Compare.out, 1, [], [], value_Compare.labF, fun k (d : ((Int × Bool × Int × Int × ByteArray × Unit) × (Int × Bool × Int × Int × ByteArray × Unit) × Unit) × (Unit)) => (value_Compare.f k d.1.1 d.1.2.1 : Option value_Compare.R)⟩

/-! ### find_between : function 32 -/
abbrev find_between.R := (Bool × Unit) × (Unit)
mutual
noncomputable def find_between.j0 : Nat → ByteArray → (Int × Bool × Int × Int × ByteArray × Unit) → (Int × Bool × Int × Int × ByteArray × Unit) → Bool → Bool → Bool → Int → Bool → Int → Int → ByteArray → Option find_between.R
  | 0, _, _, _, _, _, _, _, _, _, _, _ => none
  | k + 1, o2_0, o2_1, o2_2, o2_3, o2_4, o2_5, o3_0, o3_1, o3_2, o3_3, o3_4 =>
    bif !o2_4 then
      some ((true, ()), (()))
    else
    bif (o3_0 : Int) == o2_2.1 then
      (value_Compare.f k (o3_0, (o3_1, (o3_2, (o3_3, (o3_4, ()))))) (o2_2.1, (o2_2.2.1, (o2_2.2.2.1, (o2_2.2.2.2.1, (o2_2.2.2.2.2.1, ())))))).bind fun r2 =>
      some ((decide ((r2.1.1 : Int) ≤ 0), ()), (()))
    else
      some ((false, ()), (()))
noncomputable def find_between.f : Nat → (ByteArray × (Int × Bool × Int × Int × ByteArray × Unit) × (Int × Bool × Int × Int × ByteArray × Unit) × Bool × Bool × Bool × Unit) → (Int × Bool × Int × Int × ByteArray × Unit) → Option find_between.R
  | 0, _, _ => none
  | k + 1, x0, x1 =>
    bif x0.2.2.2.1 then
      bif (x1.1 : Int) != x0.2.1.1 then
        some ((false, ()), (()))
      else
        (value_Compare.f k (x1.1, (x1.2.1, (x1.2.2.1, (x1.2.2.2.1, (x1.2.2.2.2.1, ()))))) (x0.2.1.1, (x0.2.1.2.1, (x0.2.1.2.2.1, (x0.2.1.2.2.2.1, (x0.2.1.2.2.2.2.1, ())))))).bind fun r1 =>
        bif decide ((r1.1.1 : Int) < 0) then
          some ((false, ()), (()))
        else
          find_between.j0 k x0.1 (x0.2.1.1, (x0.2.1.2.1, (x0.2.1.2.2.1, (x0.2.1.2.2.2.1, (x0.2.1.2.2.2.2.1, ()))))) (x0.2.2.1.1, (x0.2.2.1.2.1, (x0.2.2.1.2.2.1, (x0.2.2.1.2.2.2.1, (x0.2.2.1.2.2.2.2.1, ()))))) x0.2.2.2.1 x0.2.2.2.2.1 x0.2.2.2.2.2.1 x1.1 x1.2.1 x1.2.2.1 x1.2.2.2.1 x1.2.2.2.2.1
    else
      find_between.j0 k x0.1 (x0.2.1.1, (x0.2.1.2.1, (x0.2.1.2.2.1, (x0.2.1.2.2.2.1, (x0.2.1.2.2.2.2.1, ()))))) (x0.2.2.1.1, (x0.2.2.1.2.1, (x0.2.2.1.2.2.1, (x0.2.2.1.2.2.2.1, (x0.2.2.1.2.2.2.2.1, ()))))) x0.2.2.2.1 x0.2.2.2.2.1 x0.2.2.2.2.2.1 x1.1 x1.2.1 x1.2.2.1 x1.2.2.2.1 x1.2.2.2.2.1
end
abbrev find_between.ini : LSh := ⟨[(0, .val (.cons .str (.cons (.cons (.int .i64) (.cons .bool (.cons (.int .i64) (.cons (.int .u64) (.cons .str .nil))))) (.cons (.cons (.int .i64) (.cons .bool (.cons (.int .i64) (.cons (.int .u64) (.cons .str .nil))))) (.cons .bool (.cons .bool (.cons .bool .nil))))))), (1, .val (.cons (.int .i64) (.cons .bool (.cons (.int .i64) (.cons (.int .u64) (.cons .str .nil))))))], []⟩
abbrev find_between.out : LSh := ⟨[(0, .val .bool)], []⟩
abbrev find_between.j0s : LSh := ⟨[(2, .ptr 2 0), (3, .ptr 3 0)], [(2, 37, [.val .str, .val (.cons (.int .i64) (.cons .bool (.cons (.int .i64) (.cons (.int .u64) (.cons .str .nil))))), .val (.cons (.int .i64) (.cons .bool (.cons (.int .i64) (.cons (.int .u64) (.cons .str .nil))))), .val .bool, .val .bool, .val .bool]), (3, 35, [.val (.int .i64), .val .bool, .val (.int .i64), .val (.int .u64), .val .str])]⟩
noncomputable def find_between.labF : Nat → Option (LabF find_between.out.den)
  | 7 => some ⟨find_between.j0s, fun k (d : (Unit × Unit × Unit) × ((ByteArray × (Int × Bool × Int × Int × ByteArray × Unit) × (Int × Bool × Int × Int × ByteArray × Unit) × Bool × Bool × Bool × Unit) × (Int × Bool × Int × Int × ByteArray × Unit) × Unit)) => (find_between.j0 k d.2.1.1 d.2.1.2.1 d.2.1.2.2.1 d.2.1.2.2.2.1 d.2.1.2.2.2.2.1 d.2.1.2.2.2.2.2.1 d.2.2.1.1 d.2.2.1.2.1 d.2.2.1.2.2.1 d.2.2.1.2.2.2.1 d.2.2.1.2.2.2.2.1 : Option find_between.R)⟩
  | _ => none
noncomputable def find_between.fd : FnD := ⟨Try.f32, find_between.ini, find_between.out, 1, [], [], find_between.labF, fun k (d : ((ByteArray × (Int × Bool × Int × Int × ByteArray × Unit) × (Int × Bool × Int × Int × ByteArray × Unit) × Bool × Bool × Bool × Unit) × (Int × Bool × Int × Int × ByteArray × Unit) × Unit) × (Unit)) => (find_between.f k d.1.1 d.1.2.1 : Option find_between.R)⟩

/-! ### find_Holds : function 12 -/
abbrev find_Holds.R := (Bool × Unit) × (Unit)
noncomputable def find_Holds.f : Nat → (ByteArray × (Int × Bool × Int × Int × ByteArray × Unit) × (Int × Bool × Int × Int × ByteArray × Unit) × Bool × Bool × Bool × Unit) → (ByteArray × Int × List (ByteArray × (Int × Bool × Int × Int × ByteArray × Unit) × Unit) × Unit) → Option find_Holds.R
  | 0, _, _ => none
  | k + 1, x0, x1 =>
    (paper_Find.f k (x1.1, (x1.2.1, (x1.2.2.1, ()))) x0.1).bind fun r1 =>
    bif decide ((r1.1.1 : Int) ≥ 0) then
      (rdo x1.2.2.1 r1.1.1).bind fun t2 =>
      (find_between.f k (x0.1, ((x0.2.1.1, (x0.2.1.2.1, (x0.2.1.2.2.1, (x0.2.1.2.2.2.1, (x0.2.1.2.2.2.2.1, ()))))), ((x0.2.2.1.1, (x0.2.2.1.2.1, (x0.2.2.1.2.2.1, (x0.2.2.1.2.2.2.1, (x0.2.2.1.2.2.2.2.1, ()))))), (x0.2.2.2.1, (x0.2.2.2.2.1, (x0.2.2.2.2.2.1, ())))))) (t2.2.1.1, (t2.2.1.2.1, (t2.2.1.2.2.1, (t2.2.1.2.2.2.1, (t2.2.1.2.2.2.2.1, ())))))).bind fun r3 =>
      some ((!(r3.1.1 == x0.2.2.2.2.2.1), ()), (()))
    else
      some ((false, ()), (()))
abbrev find_Holds.ini : LSh := ⟨[(0, .val (.cons .str (.cons (.cons (.int .i64) (.cons .bool (.cons (.int .i64) (.cons (.int .u64) (.cons .str .nil))))) (.cons (.cons (.int .i64) (.cons .bool (.cons (.int .i64) (.cons (.int .u64) (.cons .str .nil))))) (.cons .bool (.cons .bool (.cons .bool .nil))))))), (1, .val (.cons .str (.cons (.int .i64) (.cons (.sl (.cons .str (.cons (.cons (.int .i64) (.cons .bool (.cons (.int .i64) (.cons (.int .u64) (.cons .str .nil))))) .nil))) .nil))))], []⟩
abbrev find_Holds.out : LSh := ⟨[(0, .val .bool)], []⟩
noncomputable def find_Holds.labF : Nat → Option (LabF find_Holds.out.den)
  | _ => none
noncomputable def find_Holds.fd : FnD := ⟨Try.f12, find_Holds.ini, find_Holds.out, 1, [], [], find_Holds.labF, fun k (d : ((ByteArray × (Int × Bool × Int × Int × ByteArray × Unit) × (Int × Bool × Int × Int × ByteArray × Unit) × Bool × Bool × Bool × Unit) × (ByteArray × Int × List (ByteArray × (Int × Bool × Int × Int × ByteArray × Unit) × Unit) × Unit) × Unit) × (Unit)) => (find_Holds.f k d.1.1 d.1.2.1 : Option find_Holds.R)⟩

/-! ### find_by : function 39 -/
abbrev find_by.R := ((Int × Bool × Int × Int × ByteArray × Unit) × Bool × Unit) × (Unit)
noncomputable def find_by.f : Nat → (ByteArray × Int × List (ByteArray × (Int × Bool × Int × Int × ByteArray × Unit) × Unit) × Unit) → ByteArray → Option find_by.R
  | 0, _, _ => none
  | k + 1, x0, x1 =>
    (paper_Find.f k (x0.1, (x0.2.1, (x0.2.2.1, ()))) x1).bind fun r1 =>
    bif decide ((r1.1.1 : Int) < 0) then
      some (((0, (false, (0, (0, (ByteArray.empty, ()))))), false, ()), (()))
    else
      (rdo x0.2.2.1 r1.1.1).bind fun t2 =>
      some (((t2.2.1.1, (t2.2.1.2.1, (t2.2.1.2.2.1, (t2.2.1.2.2.2.1, (t2.2.1.2.2.2.2.1, ()))))), true, ()), (()))
abbrev find_by.ini : LSh := ⟨[(0, .val (.cons .str (.cons (.int .i64) (.cons (.sl (.cons .str (.cons (.cons (.int .i64) (.cons .bool (.cons (.int .i64) (.cons (.int .u64) (.cons .str .nil))))) .nil))) .nil)))), (1, .val .str)], []⟩
abbrev find_by.out : LSh := ⟨[(0, .val (.cons (.int .i64) (.cons .bool (.cons (.int .i64) (.cons (.int .u64) (.cons .str .nil)))))), (1, .val .bool)], []⟩
noncomputable def find_by.labF : Nat → Option (LabF find_by.out.den)
  | _ => none
noncomputable def find_by.fd : FnD := ⟨Try.f39, find_by.ini, find_by.out, 2, [], [], find_by.labF, fun k (d : ((ByteArray × Int × List (ByteArray × (Int × Bool × Int × Int × ByteArray × Unit) × Unit) × Unit) × ByteArray × Unit) × (Unit)) => (find_by.f k d.1.1 d.1.2.1 : Option find_by.R)⟩

/-! ### find_compare : function 36 -/
abbrev find_compare.R := (Int × Unit) × (Unit)
noncomputable def find_compare.f : Nat → (ByteArray × Int × List (ByteArray × (Int × Bool × Int × Int × ByteArray × Unit) × Unit) × Unit) → (ByteArray × Int × List (ByteArray × (Int × Bool × Int × Int × ByteArray × Unit) × Unit) × Unit) → ByteArray → Bool → Option find_compare.R
  | 0, _, _, _, _ => none
  | k + 1, x0, x1, x2, x3 =>
    (find_by.f k (x0.1, (x0.2.1, (x0.2.2.1, ()))) x2).bind fun r1 =>
    (find_by.f k (x1.1, (x1.2.1, (x1.2.2.1, ()))) x2).bind fun r2 =>
    bif !r1.1.2.1 then
      bif !r2.1.2.1 then
        some ((0, ()), (()))
      else
      bif !r1.1.2.1 then
        some ((1, ()), (()))
      else
      bif !r2.1.2.1 then
        some (((-1), ()), (()))
      else
      bif x3 then
        (value_Compare.f k (r2.1.1.1, (r2.1.1.2.1, (r2.1.1.2.2.1, (r2.1.1.2.2.2.1, (r2.1.1.2.2.2.2.1, ()))))) (r1.1.1.1, (r1.1.1.2.1, (r1.1.1.2.2.1, (r1.1.1.2.2.2.1, (r1.1.1.2.2.2.2.1, ())))))).bind fun r3 =>
        some ((r3.1.1, ()), (()))
      else
        (value_Compare.f k (r1.1.1.1, (r1.1.1.2.1, (r1.1.1.2.2.1, (r1.1.1.2.2.2.1, (r1.1.1.2.2.2.2.1, ()))))) (r2.1.1.1, (r2.1.1.2.1, (r2.1.1.2.2.1, (r2.1.1.2.2.2.1, (r2.1.1.2.2.2.2.1, ())))))).bind fun r4 =>
        some ((r4.1.1, ()), (()))
    else
    bif !r1.1.2.1 then
      some ((1, ()), (()))
    else
    bif !r2.1.2.1 then
      some (((-1), ()), (()))
    else
    bif x3 then
      (value_Compare.f k (r2.1.1.1, (r2.1.1.2.1, (r2.1.1.2.2.1, (r2.1.1.2.2.2.1, (r2.1.1.2.2.2.2.1, ()))))) (r1.1.1.1, (r1.1.1.2.1, (r1.1.1.2.2.1, (r1.1.1.2.2.2.1, (r1.1.1.2.2.2.2.1, ())))))).bind fun r5 =>
      some ((r5.1.1, ()), (()))
    else
      (value_Compare.f k (r1.1.1.1, (r1.1.1.2.1, (r1.1.1.2.2.1, (r1.1.1.2.2.2.1, (r1.1.1.2.2.2.2.1, ()))))) (r2.1.1.1, (r2.1.1.2.1, (r2.1.1.2.2.1, (r2.1.1.2.2.2.1, (r2.1.1.2.2.2.2.1, ())))))).bind fun r6 =>
      some ((r6.1.1, ()), (()))
abbrev find_compare.ini : LSh := ⟨[(0, .val (.cons .str (.cons (.int .i64) (.cons (.sl (.cons .str (.cons (.cons (.int .i64) (.cons .bool (.cons (.int .i64) (.cons (.int .u64) (.cons .str .nil))))) .nil))) .nil)))), (1, .val (.cons .str (.cons (.int .i64) (.cons (.sl (.cons .str (.cons (.cons (.int .i64) (.cons .bool (.cons (.int .i64) (.cons (.int .u64) (.cons .str .nil))))) .nil))) .nil)))), (2, .val .str), (3, .val .bool)], []⟩
abbrev find_compare.out : LSh := ⟨[(0, .val (.int .i64))], []⟩
noncomputable def find_compare.labF : Nat → Option (LabF find_compare.out.den)
  | _ => none
noncomputable def find_compare.fd : FnD := ⟨Try.f36, find_compare.ini, find_compare.out, 1, [], [], find_compare.labF, fun k (d : ((ByteArray × Int × List (ByteArray × (Int × Bool × Int × Int × ByteArray × Unit) × Unit) × Unit) × (ByteArray × Int × List (ByteArray × (Int × Bool × Int × Int × ByteArray × Unit) × Unit) × Unit) × ByteArray × Bool × Unit) × (Unit)) => (find_compare.f k d.1.1 d.1.2.1 d.1.2.2.1 d.1.2.2.2.1 : Option find_compare.R)⟩

/-! ### find_Run_1_v0 : function 35 -/
abbrev find_Run_1_v0.R := (Int × Unit) × (Unit)
noncomputable def find_Run_1_v0.f : Nat → Int → Int → (List (ByteArray × Int × List (ByteArray × (Int × Bool × Int × Int × ByteArray × Unit) × Unit) × Unit)) → (List (ByteArray × (Int × Bool × Int × Int × ByteArray × Unit) × (Int × Bool × Int × Int × ByteArray × Unit) × Bool × Bool × Bool × Unit)) → ByteArray → Bool → Int → Option find_Run_1_v0.R
  | 0, _, _, _, _, _, _, _ => none
  | k + 1, x0, x1, o0_0, o1_0, o1_1, o1_2, o1_3 =>
    (rdo o0_0 x0).bind fun t1 =>
    (rdo o0_0 x1).bind fun t2 =>
    (find_compare.f k (t1.1, (t1.2.1, (t1.2.2.1, ()))) (t2.1, (t2.2.1, (t2.2.2.1, ()))) o1_1 o1_2).bind fun r3 =>
    some ((r3.1.1, ()), (()))
abbrev find_Run_1_v0.ini : LSh := ⟨[(0, .val (.int .i64)), (1, .val (.int .i64)), (2, .ptr 1000000 0), (3, .ptr 1000001 0)], [(1000000, 40, [.val (.sl (.cons .str (.cons (.int .i64) (.cons (.sl (.cons .str (.cons (.cons (.int .i64) (.cons .bool (.cons (.int .i64) (.cons (.int .u64) (.cons .str .nil))))) .nil))) .nil))))]), (1000001, 24, [.val (.sl (.cons .str (.cons (.cons (.int .i64) (.cons .bool (.cons (.int .i64) (.cons (.int .u64) (.cons .str .nil))))) (.cons (.cons (.int .i64) (.cons .bool (.cons (.int .i64) (.cons (.int .u64) (.cons .str .nil))))) (.cons .bool (.cons .bool (.cons .bool .nil))))))), .val .str, .val .bool, .val (.int .i64)])]⟩
abbrev find_Run_1_v0.out : LSh := ⟨[(0, .val (.int .i64))], []⟩
noncomputable def find_Run_1_v0.labF : Nat → Option (LabF find_Run_1_v0.out.den)
  | _ => none
noncomputable def find_Run_1_v0.fd : FnD := ⟨Try.f35, find_Run_1_v0.ini, find_Run_1_v0.out, 1, [1000000, 1000001], [1000000, 1000001], find_Run_1_v0.labF, fun k (d : (Int × Int × Unit × Unit × Unit) × (((List (ByteArray × Int × List (ByteArray × (Int × Bool × Int × Int × ByteArray × Unit) × Unit) × Unit)) × Unit) × ((List (ByteArray × (Int × Bool × Int × Int × ByteArray × Unit) × (Int × Bool × Int × Int × ByteArray × Unit) × Bool × Bool × Bool × Unit)) × ByteArray × Bool × Int × Unit) × Unit)) => (find_Run_1_v0.f k d.1.1 d.1.2.1 d.2.1.1 d.2.2.1.1 d.2.2.1.2.1 d.2.2.1.2.2.1 d.2.2.1.2.2.2.1 : Option find_Run_1_v0.R)⟩

/-! ### slices_insertionSortCmpFunc_int_v0 : function 61 -/
abbrev slices_insertionSortCmpFunc_int_v0.R := (List Int × Unit) × (Unit)
mutual
noncomputable def slices_insertionSortCmpFunc_int_v0.l0 : Nat → (List Int) → Int → Int → Int → (List (ByteArray × Int × List (ByteArray × (Int × Bool × Int × Int × ByteArray × Unit) × Unit) × Unit)) → (List (ByteArray × (Int × Bool × Int × Int × ByteArray × Unit) × (Int × Bool × Int × Int × ByteArray × Unit) × Bool × Bool × Bool × Unit)) → ByteArray → Bool → Int → Option slices_insertionSortCmpFunc_int_v0.R
  | 0, _, _, _, _, _, _, _, _, _ => none
  | k + 1, x0, x1, x2, x8, o0_0, o1_0, o1_1, o1_2, o1_3 =>
    bif decide ((x8 : Int) < x2) then
      slices_insertionSortCmpFunc_int_v0.l1 k x0 x1 x2 x8 x8 o0_0 o1_0 o1_1 o1_2 o1_3
    else
      some ((x0, ()), (()))
noncomputable def slices_insertionSortCmpFunc_int_v0.l1 : Nat → (List Int) → Int → Int → Int → Int → (List (ByteArray × Int × List (ByteArray × (Int × Bool × Int × Int × ByteArray × Unit) × Unit) × Unit)) → (List (ByteArray × (Int × Bool × Int × Int × ByteArray × Unit) × (Int × Bool × Int × Int × ByteArray × Unit) × Bool × Bool × Bool × Unit)) → ByteArray → Bool → Int → Option slices_insertionSortCmpFunc_int_v0.R
  | 0, _, _, _, _, _, _, _, _, _, _ => none
  | k + 1, x0, x1, x2, x8, x9, o0_0, o1_0, o1_1, o1_2, o1_3 =>
    bif decide ((x9 : Int) > x1) then
      (ck (decide (0 ≤ x9) && decide (x9 < (x0.length : Int)))).bind fun _ =>
      (rdo x0 x9).bind fun t1 =>
      (ck (decide (0 ≤ IntKind.wrap .i64 (x9 - 1)) && decide (IntKind.wrap .i64 (x9 - 1) < (x0.length : Int)))).bind fun _ =>
      (rdo x0 (IntKind.wrap .i64 (x9 - 1))).bind fun t2 =>
      (find_Run_1_v0.f k t1 t2 o0_0 o1_0 o1_1 o1_2 o1_3).bind fun r3 =>
      bif decide ((r3.1.1 : Int) < 0) then
        (ck (decide (0 ≤ IntKind.wrap .i64 (x9 - 1)) && decide (IntKind.wrap .i64 (x9 - 1) < (x0.length : Int)))).bind fun _ =>
        (rdo x0 (IntKind.wrap .i64 (x9 - 1))).bind fun t4 =>
        (ck (decide (0 ≤ x9) && decide (x9 < (x0.length : Int)))).bind fun _ =>
        (rdo x0 x9).bind fun t5 =>
        (ck (decide (0 ≤ x9) && decide (x9 < (x0.length : Int)))).bind fun _ =>
        (ck (decide (0 ≤ IntKind.wrap .i64 (x9 - 1)) && decide (IntKind.wrap .i64 (x9 - 1) < ((x0.set x9.toNat t4).length : Int)))).bind fun _ =>
        slices_insertionSortCmpFunc_int_v0.l1 k ((x0.set x9.toNat t4).set (IntKind.wrap .i64 (x9 - 1) : Int).toNat t5) x1 x2 x8 (IntKind.wrap .i64 (x9 - 1)) o0_0 o1_0 o1_1 o1_2 o1_3
      else
        slices_insertionSortCmpFunc_int_v0.l0 k x0 x1 x2 (IntKind.wrap .i64 (x8 + 1)) o0_0 o1_0 o1_1 o1_2 o1_3
    else
      slices_insertionSortCmpFunc_int_v0.l0 k x0 x1 x2 (IntKind.wrap .i64 (x8 + 1)) o0_0 o1_0 o1_1 o1_2 o1_3
noncomputable def slices_insertionSortCmpFunc_int_v0.f : Nat → (List Int) → Int → Int → (List (ByteArray × Int × List (ByteArray × (Int × Bool × Int × Int × ByteArray × Unit) × Unit) × Unit)) → (List (ByteArray × (Int × Bool × Int × Int × ByteArray × Unit) × (Int × Bool × Int × Int × ByteArray × Unit) × Bool × Bool × Bool × Unit)) → ByteArray → Bool → Int → Option slices_insertionSortCmpFunc_int_v0.R
  | 0, _, _, _, _, _, _, _, _ => none
  | k + 1, x0, x1, x2, o0_0, o1_0, o1_1, o1_2, o1_3 =>
    slices_insertionSortCmpFunc_int_v0.l0 k x0 x1 x2 (IntKind.wrap .i64 (x1 + 1)) o0_0 o1_0 o1_1 o1_2 o1_3
end
abbrev slices_insertionSortCmpFunc_int_v0.ini : LSh := ⟨[(0, .own 3900000 3 (.mu (.int .i64))), (1, .val (.int .i64)), (2, .val (.int .i64)), (3, .clo 35 [(1000000, 0), (1000001, 0)])], [(1000000, 40, [.val (.sl (.cons .str (.cons (.int .i64) (.cons (.sl (.cons .str (.cons (.cons (.int .i64) (.cons .bool (.cons (.int .i64) (.cons (.int .u64) (.cons .str .nil))))) .nil))) .nil))))]), (1000001, 24, [.val (.sl (.cons .str (.cons (.cons (.int .i64) (.cons .bool (.cons (.int .i64) (.cons (.int .u64) (.cons .str .nil))))) (.cons (.cons (.int .i64) (.cons .bool (.cons (.int .i64) (.cons (.int .u64) (.cons .str .nil))))) (.cons .bool (.cons .bool (.cons .bool .nil))))))), .val .str, .val .bool, .val (.int .i64)])]⟩
abbrev slices_insertionSortCmpFunc_int_v0.out : LSh := ⟨[(0, .own 3900000 3 (.mu (.int .i64)))], []⟩
abbrev slices_insertionSortCmpFunc_int_v0.l0s : LSh := ⟨[(0, .own 3900000 3 (.mu (.int .i64))), (1, .val (.int .i64)), (2, .val (.int .i64)), (3, .clo 35 [(1000000, 0), (1000001, 0)]), (8, .val (.int .i64))], [(1000000, 40, [.val (.sl (.cons .str (.cons (.int .i64) (.cons (.sl (.cons .str (.cons (.cons (.int .i64) (.cons .bool (.cons (.int .i64) (.cons (.int .u64) (.cons .str .nil))))) .nil))) .nil))))]), (1000001, 24, [.val (.sl (.cons .str (.cons (.cons (.int .i64) (.cons .bool (.cons (.int .i64) (.cons (.int .u64) (.cons .str .nil))))) (.cons (.cons (.int .i64) (.cons .bool (.cons (.int .i64) (.cons (.int .u64) (.cons .str .nil))))) (.cons .bool (.cons .bool (.cons .bool .nil))))))), .val .str, .val .bool, .val (.int .i64)])]⟩
abbrev slices_insertionSortCmpFunc_int_v0.l1s : LSh := ⟨[(0, .own 3900000 3 (.mu (.int .i64))), (1, .val (.int .i64)), (2, .val (.int .i64)), (3, .clo 35 [(1000000, 0), (1000001, 0)]), (8, .val (.int .i64)), (9, .val (.int .i64))], [(1000000, 40, [.val (.sl (.cons .str (.cons (.int .i64) (.cons (.sl (.cons .str (.cons (.cons (.int .i64) (.cons .bool (.cons (.int .i64) (.cons (.int .u64) (.cons .str .nil))))) .nil))) .nil))))]), (1000001, 24, [.val (.sl (.cons .str (.cons (.cons (.int .i64) (.cons .bool (.cons (.int .i64) (.cons (.int .u64) (.cons .str .nil))))) (.cons (.cons (.int .i64) (.cons .bool (.cons (.int .i64) (.cons (.int .u64) (.cons .str .nil))))) (.cons .bool (.cons .bool (.cons .bool .nil))))))), .val .str, .val .bool, .val (.int .i64)])]⟩
noncomputable def slices_insertionSortCmpFunc_int_v0.labF : Nat → Option (LabF slices_insertionSortCmpFunc_int_v0.out.den)
  | 2 => some ⟨slices_insertionSortCmpFunc_int_v0.l0s, fun k (d : (List Int × Int × Int × Unit × Int × Unit) × (((List (ByteArray × Int × List (ByteArray × (Int × Bool × Int × Int × ByteArray × Unit) × Unit) × Unit)) × Unit) × ((List (ByteArray × (Int × Bool × Int × Int × ByteArray × Unit) × (Int × Bool × Int × Int × ByteArray × Unit) × Bool × Bool × Bool × Unit)) × ByteArray × Bool × Int × Unit) × Unit)) => (slices_insertionSortCmpFunc_int_v0.l0 k d.1.1 d.1.2.1 d.1.2.2.1 d.1.2.2.2.2.1 d.2.1.1 d.2.2.1.1 d.2.2.1.2.1 d.2.2.1.2.2.1 d.2.2.1.2.2.2.1 : Option slices_insertionSortCmpFunc_int_v0.R)⟩
  | 8 => some ⟨slices_insertionSortCmpFunc_int_v0.l1s, fun k (d : (List Int × Int × Int × Unit × Int × Int × Unit) × (((List (ByteArray × Int × List (ByteArray × (Int × Bool × Int × Int × ByteArray × Unit) × Unit) × Unit)) × Unit) × ((List (ByteArray × (Int × Bool × Int × Int × ByteArray × Unit) × (Int × Bool × Int × Int × ByteArray × Unit) × Bool × Bool × Bool × Unit)) × ByteArray × Bool × Int × Unit) × Unit)) => (slices_insertionSortCmpFunc_int_v0.l1 k d.1.1 d.1.2.1 d.1.2.2.1 d.1.2.2.2.2.1 d.1.2.2.2.2.2.1 d.2.1.1 d.2.2.1.1 d.2.2.1.2.1 d.2.2.1.2.2.1 d.2.2.1.2.2.2.1 : Option slices_insertionSortCmpFunc_int_v0.R)⟩
  | _ => none
noncomputable def slices_insertionSortCmpFunc_int_v0.fd : FnD := ⟨Try.f61, slices_insertionSortCmpFunc_int_v0.ini, slices_insertionSortCmpFunc_int_v0.out, 0, [1000000, 1000001], [1000000, 1000001], slices_insertionSortCmpFunc_int_v0.labF, fun k (d : (List Int × Int × Int × Unit × Unit) × (((List (ByteArray × Int × List (ByteArray × (Int × Bool × Int × Int × ByteArray × Unit) × Unit) × Unit)) × Unit) × ((List (ByteArray × (Int × Bool × Int × Int × ByteArray × Unit) × (Int × Bool × Int × Int × ByteArray × Unit) × Bool × Bool × Bool × Unit)) × ByteArray × Bool × Int × Unit) × Unit)) => (slices_insertionSortCmpFunc_int_v0.f k d.1.1 d.1.2.1 d.1.2.2.1 d.2.1.1 d.2.2.1.1 d.2.2.1.2.1 d.2.2.1.2.2.1 d.2.2.1.2.2.2.1 : Option slices_insertionSortCmpFunc_int_v0.R)⟩

/-! ### slices_swapRangeCmpFunc_int_v0 : function 69 -/
abbrev slices_swapRangeCmpFunc_int_v0.R := (List Int × Unit) × (Unit)
mutual
noncomputable def slices_swapRangeCmpFunc_int_v0.l0 : Nat → (List Int) → Int → Int → Int → Int → (List (ByteArray × Int × List (ByteArray × (Int × Bool × Int × Int × ByteArray × Unit) × Unit) × Unit)) → (List (ByteArray × (Int × Bool × Int × Int × ByteArray × Unit) × (Int × Bool × Int × Int × ByteArray × Unit) × Bool × Bool × Bool × Unit)) → ByteArray → Bool → Int → Option slices_swapRangeCmpFunc_int_v0.R
  | 0, _, _, _, _, _, _, _, _, _, _ => none
  | k + 1, x0, x1, x2, x3, x10, o0_0, o1_0, o1_1, o1_2, o1_3 =>
    bif decide ((x10 : Int) < x3) then
      (ck (decide (0 ≤ IntKind.wrap .i64 (x2 + x10)) && decide (IntKind.wrap .i64 (x2 + x10) < (x0.length : Int)))).bind fun _ =>
      (rdo x0 (IntKind.wrap .i64 (x2 + x10))).bind fun t1 =>
      (ck (decide (0 ≤ IntKind.wrap .i64 (x1 + x10)) && decide (IntKind.wrap .i64 (x1 + x10) < (x0.length : Int)))).bind fun _ =>
      (rdo x0 (IntKind.wrap .i64 (x1 + x10))).bind fun t2 =>
      (ck (decide (0 ≤ IntKind.wrap .i64 (x1 + x10)) && decide (IntKind.wrap .i64 (x1 + x10) < (x0.length : Int)))).bind fun _ =>
      (ck (decide (0 ≤ IntKind.wrap .i64 (x2 + x10)) && decide (IntKind.wrap .i64 (x2 + x10) < ((x0.set (IntKind.wrap .i64 (x1 + x10) : Int).toNat t1).length : Int)))).bind fun _ =>
      slices_swapRangeCmpFunc_int_v0.l0 k ((x0.set (IntKind.wrap .i64 (x1 + x10) : Int).toNat t1).set (IntKind.wrap .i64 (x2 + x10) : Int).toNat t2) x1 x2 x3 (IntKind.wrap .i64 (x10 + 1)) o0_0 o1_0 o1_1 o1_2 o1_3
    else
      some ((x0, ()), (()))
noncomputable def slices_swapRangeCmpFunc_int_v0.f : Nat → (List Int) → Int → Int → Int → (List (ByteArray × Int × List (ByteArray × (Int × Bool × Int × Int × ByteArray × Unit) × Unit) × Unit)) → (List (ByteArray × (Int × Bool × Int × Int × ByteArray × Unit) × (Int × Bool × Int × Int × ByteArray × Unit) × Bool × Bool × Bool × Unit)) → ByteArray → Bool → Int → Option slices_swapRangeCmpFunc_int_v0.R
  | 0, _, _, _, _, _, _, _, _, _ => none
  | k + 1, x0, x1, x2, x3, o0_0, o1_0, o1_1, o1_2, o1_3 =>
    slices_swapRangeCmpFunc_int_v0.l0 k x0 x1 x2 x3 0 o0_0 o1_0 o1_1 o1_2 o1_3
end
abbrev slices_swapRangeCmpFunc_int_v0.ini : LSh := ⟨[(0, .own 3900000 3 (.mu (.int .i64))), (1, .val (.int .i64)), (2, .val (.int .i64)), (3, .val (.int .i64)), (4, .clo 35 [(1000000, 0), (1000001, 0)])], [(1000000, 40, [.val (.sl (.cons .str (.cons (.int .i64) (.cons (.sl (.cons .str (.cons (.cons (.int .i64) (.cons .bool (.cons (.int .i64) (.cons (.int .u64) (.cons .str .nil))))) .nil))) .nil))))]), (1000001, 24, [.val (.sl (.cons .str (.cons (.cons (.int .i64) (.cons .bool (.cons (.int .i64) (.cons (.int .u64) (.cons .str .nil))))) (.cons (.cons (.int .i64) (.cons .bool (.cons (.int .i64) (.cons (.int .u64) (.cons .str .nil))))) (.cons .bool (.cons .bool (.cons .bool .nil))))))), .val .str, .val .bool, .val (.int .i64)])]⟩
abbrev slices_swapRangeCmpFunc_int_v0.out : LSh := ⟨[(0, .own 3900000 3 (.mu (.int .i64)))], []⟩
abbrev slices_swapRangeCmpFunc_int_v0.l0s : LSh := ⟨[(0, .own 3900000 3 (.mu (.int .i64))), (1, .val (.int .i64)), (2, .val (.int .i64)), (3, .val (.int .i64)), (10, .val (.int .i64))], [(1000000, 40, [.val (.sl (.cons .str (.cons (.int .i64) (.cons (.sl (.cons .str (.cons (.cons (.int .i64) (.cons .bool (.cons (.int .i64) (.cons (.int .u64) (.cons .str .nil))))) .nil))) .nil))))]), (1000001, 24, [.val (.sl (.cons .str (.cons (.cons (.int .i64) (.cons .bool (.cons (.int .i64) (.cons (.int .u64) (.cons .str .nil))))) (.cons (.cons (.int .i64) (.cons .bool (.cons (.int .i64) (.cons (.int .u64) (.cons .str .nil))))) (.cons .bool (.cons .bool (.cons .bool .nil))))))), .val .str, .val .bool, .val (.int .i64)])]⟩
noncomputable def slices_swapRangeCmpFunc_int_v0.labF : Nat → Option (LabF slices_swapRangeCmpFunc_int_v0.out.den)
  | 2 => some ⟨slices_swapRangeCmpFunc_int_v0.l0s, fun k (d : (List Int × Int × Int × Int × Int × Unit) × (((List (ByteArray × Int × List (ByteArray × (Int × Bool × Int × Int × ByteArray × Unit) × Unit) × Unit)) × Unit) × ((List (ByteArray × (Int × Bool × Int × Int × ByteArray × Unit) × (Int × Bool × Int × Int × ByteArray × Unit) × Bool × Bool × Bool × Unit)) × ByteArray × Bool × Int × Unit) × Unit)) => (slices_swapRangeCmpFunc_int_v0.l0 k d.1.1 d.1.2.1 d.1.2.2.1 d.1.2.2.2.1 d.1.2.2.2.2.1 d.2.1.1 d.2.2.1.1 d.2.2.1.2.1 d.2.2.1.2.2.1 d.2.2.1.2.2.2.1 : Option slices_swapRangeCmpFunc_int_v0.R)⟩
  | _ => none
noncomputable def slices_swapRangeCmpFunc_int_v0.fd : FnD := ⟨Try.f69, slices_swapRangeCmpFunc_int_v0.ini, slices_swapRangeCmpFunc_int_v0.out, 0, [1000000, 1000001], [1000000, 1000001], slices_swapRangeCmpFunc_int_v0.labF, fun k (d : (List Int × Int × Int × Int × Unit × Unit) × (((List (ByteArray × Int × List (ByteArray × (Int × Bool × Int × Int × ByteArray × Unit) × Unit) × Unit)) × Unit) × ((List (ByteArray × (Int × Bool × Int × Int × ByteArray × Unit) × (Int × Bool × Int × Int × ByteArray × Unit) × Bool × Bool × Bool × Unit)) × ByteArray × Bool × Int × Unit) × Unit)) => (slices_swapRangeCmpFunc_int_v0.f k d.1.1 d.1.2.1 d.1.2.2.1 d.1.2.2.2.1 d.2.1.1 d.2.2.1.1 d.2.2.1.2.1 d.2.2.1.2.2.1 d.2.2.1.2.2.2.1 : Option slices_swapRangeCmpFunc_int_v0.R)⟩

/-! ### slices_rotateCmpFunc_int_v0 : function 67 -/
abbrev slices_rotateCmpFunc_int_v0.R := (List Int × Unit) × (Unit)
mutual
noncomputable def slices_rotateCmpFunc_int_v0.l0 : Nat → (List Int) → Int → Int → Int → (List (ByteArray × Int × List (ByteArray × (Int × Bool × Int × Int × ByteArray × Unit) × Unit) × Unit)) → (List (ByteArray × (Int × Bool × Int × Int × ByteArray × Unit) × (Int × Bool × Int × Int × ByteArray × Unit) × Bool × Bool × Bool × Unit)) → ByteArray → Bool → Int → Option slices_rotateCmpFunc_int_v0.R
  | 0, _, _, _, _, _, _, _, _, _ => none
  | k + 1, x0, x2, x10, x11, o0_0, o1_0, o1_1, o1_2, o1_3 =>
    bif (x10 : Int) != x11 then
      bif decide ((x10 : Int) > x11) then
        (slices_swapRangeCmpFunc_int_v0.f k x0 (IntKind.wrap .i64 (x2 - x10)) x2 x11 o0_0 o1_0 o1_1 o1_2 o1_3).bind fun r1 =>
        slices_rotateCmpFunc_int_v0.l0 k r1.1.1 x2 (IntKind.wrap .i64 (x10 - x11)) x11 o0_0 o1_0 o1_1 o1_2 o1_3
      else
        (slices_swapRangeCmpFunc_int_v0.f k x0 (IntKind.wrap .i64 (x2 - x10)) (IntKind.wrap .i64 ((IntKind.wrap .i64 (x2 + x11)) - x10)) x10 o0_0 o1_0 o1_1 o1_2 o1_3).bind fun r2 =>
        slices_rotateCmpFunc_int_v0.l0 k r2.1.1 x2 x10 (IntKind.wrap .i64 (x11 - x10)) o0_0 o1_0 o1_1 o1_2 o1_3
    else
      (slices_swapRangeCmpFunc_int_v0.f k x0 (IntKind.wrap .i64 (x2 - x10)) x2 x10 o0_0 o1_0 o1_1 o1_2 o1_3).bind fun r3 =>
      some ((r3.1.1, ()), (()))
noncomputable def slices_rotateCmpFunc_int_v0.f : Nat → (List Int) → Int → Int → Int → (List (ByteArray × Int × List (ByteArray × (Int × Bool × Int × Int × ByteArray × Unit) × Unit) × Unit)) → (List (ByteArray × (Int × Bool × Int × Int × ByteArray × Unit) × (Int × Bool × Int × Int × ByteArray × Unit) × Bool × Bool × Bool × Unit)) → ByteArray → Bool → Int → Option slices_rotateCmpFunc_int_v0.R
  | 0, _, _, _, _, _, _, _, _, _ => none
  | k + 1, x0, x1, x2, x3, o0_0, o1_0, o1_1, o1_2, o1_3 =>
    slices_rotateCmpFunc_int_v0.l0 k x0 x2 (IntKind.wrap .i64 (x2 - x1)) (IntKind.wrap .i64 (x3 - x2)) o0_0 o1_0 o1_1 o1_2 o1_3
end
abbrev slices_rotateCmpFunc_int_v0.ini : LSh := ⟨[(0, .own 3900000 3 (.mu (.int .i64))), (1, .val (.int .i64)), (2, .val (.int .i64)), (3, .val (.int .i64)), (4, .clo 35 [(1000000, 0), (1000001, 0)])], [(1000000, 40, [.val (.sl (.cons .str (.cons (.int .i64) (.cons (.sl (.cons .str (.cons (.cons (.int .i64) (.cons .bool (.cons (.int .i64) (.cons (.int .u64) (.cons .str .nil))))) .nil))) .nil))))]), (1000001, 24, [.val (.sl (.cons .str (.cons (.cons (.int .i64) (.cons .bool (.cons (.int .i64) (.cons (.int .u64) (.cons .str .nil))))) (.cons (.cons (.int .i64) (.cons .bool (.cons (.int .i64) (.cons (.int .u64) (.cons .str .nil))))) (.cons .bool (.cons .bool (.cons .bool .nil))))))), .val .str, .val .bool, .val (.int .i64)])]⟩
abbrev slices_rotateCmpFunc_int_v0.out : LSh := ⟨[(0, .own 3900000 3 (.mu (.int .i64)))], []⟩
abbrev slices_rotateCmpFunc_int_v0.l0s : LSh := ⟨[(0, .own 3900000 3 (.mu (.int .i64))), (2, .val (.int .i64)), (4, .clo 35 [(1000000, 0), (1000001, 0)]), (10, .val (.int .i64)), (11, .val (.int .i64))], [(1000000, 40, [.val (.sl (.cons .str (.cons (.int .i64) (.cons (.sl (.cons .str (.cons (.cons (.int .i64) (.cons .bool (.cons (.int .i64) (.cons (.int .u64) (.cons .str .nil))))) .nil))) .nil))))]), (1000001, 24, [.val (.sl (.cons .str (.cons (.cons (.int .i64) (.cons .bool (.cons (.int .i64) (.cons (.int .u64) (.cons .str .nil))))) (.cons (.cons (.int .i64) (.cons .bool (.cons (.int .i64) (.cons (.int .u64) (.cons .str .nil))))) (.cons .bool (.cons .bool (.cons .bool .nil))))))), .val .str, .val .bool, .val (.int .i64)])]⟩
noncomputable def slices_rotateCmpFunc_int_v0.labF : Nat → Option (LabF slices_rotateCmpFunc_int_v0.out.den)
  | 4 => some ⟨slices_rotateCmpFunc_int_v0.l0s, fun k (d : (List Int × Int × Unit × Int × Int × Unit) × (((List (ByteArray × Int × List (ByteArray × (Int × Bool × Int × Int × ByteArray × Unit) × Unit) × Unit)) × Unit) × ((List (ByteArray × (Int × Bool × Int × Int × ByteArray × Unit) × (Int × Bool × Int × Int × ByteArray × Unit) × Bool × Bool × Bool × Unit)) × ByteArray × Bool × Int × Unit) × Unit)) => (slices_rotateCmpFunc_int_v0.l0 k d.1.1 d.1.2.1 d.1.2.2.2.1 d.1.2.2.2.2.1 d.2.1.1 d.2.2.1.1 d.2.2.1.2.1 d.2.2.1.2.2.1 d.2.2.1.2.2.2.1 : Option slices_rotateCmpFunc_int_v0.R)⟩
  | _ => none
noncomputable def slices_rotateCmpFunc_int_v0.fd : FnD := ⟨Try.f67, slices_rotateCmpFunc_int_v0.ini, slices_rotateCmpFunc_int_v0.out, 0, [1000000, 1000001], [1000000, 1000001], slices_rotateCmpFunc_int_v0.labF, fun k (d : (List Int × Int × Int × Int × Unit × Unit) × (((List (ByteArray × Int × List (ByteArray × (Int × Bool × Int × Int × ByteArray × Unit) × Unit) × Unit)) × Unit) × ((List (ByteArray × (Int × Bool × Int × Int × ByteArray × Unit) × (Int × Bool × Int × Int × ByteArray × Unit) × Bool × Bool × Bool × Unit)) × ByteArray × Bool × Int × Unit) × Unit)) => (slices_rotateCmpFunc_int_v0.f k d.1.1 d.1.2.1 d.1.2.2.1 d.1.2.2.2.1 d.2.1.1 d.2.2.1.1 d.2.2.1.2.1 d.2.2.1.2.2.1 d.2.2.1.2.2.2.1 : Option slices_rotateCmpFunc_int_v0.R)⟩

/-! ### slices_symMergeCmpFunc_int_v0 : function 62 -/
abbrev slices_symMergeCmpFunc_int_v0.R := (List Int × Unit) × (Unit)
mutual
noncomputable def slices_symMergeCmpFunc_int_v0.l0 : Nat → (List Int) → Int → Int → Int → (List (ByteArray × Int × List (ByteArray × (Int × Bool × Int × Int × ByteArray × Unit) × Unit) × Unit)) → (List (ByteArray × (Int × Bool × Int × Int × ByteArray × Unit) × (Int × Bool × Int × Int × ByteArray × Unit) × Bool × Bool × Bool × Unit)) → ByteArray → Bool → Int → Option slices_symMergeCmpFunc_int_v0.R
  | 0, _, _, _, _, _, _, _, _, _ => none
  | k + 1, x0, x1, x10, x11, o0_0, o1_0, o1_1, o1_2, o1_3 =>
    bif decide ((x10 : Int) < x11) then
      (ck (!decide ((1 : Int) < 0))).bind fun _ =>
      (ck (decide (0 ≤ IntKind.wrap .i64 (Int.fdiv (IntKind.wrap .u64 (IntKind.wrap .i64 (x10 + x11))) (2 ^ (min (1 : Int).toNat (IntKind.bits .u64))))) && decide (IntKind.wrap .i64 (Int.fdiv (IntKind.wrap .u64 (IntKind.wrap .i64 (x10 + x11))) (2 ^ (min (1 : Int).toNat (IntKind.bits .u64)))) < (x0.length : Int)))).bind fun _ =>
      (rdo x0 (IntKind.wrap .i64 (Int.fdiv (IntKind.wrap .u64 (IntKind.wrap .i64 (x10 + x11))) (2 ^ (min (1 : Int).toNat (IntKind.bits .u64)))))).bind fun t1 =>
      (ck (decide (0 ≤ x1) && decide (x1 < (x0.length : Int)))).bind fun _ =>
      (rdo x0 x1).bind fun t2 =>
      (find_Run_1_v0.f k t1 t2 o0_0 o1_0 o1_1 o1_2 o1_3).bind fun r3 =>
      bif decide ((r3.1.1 : Int) < 0) then
        slices_symMergeCmpFunc_int_v0.l0 k x0 x1 (IntKind.wrap .i64 ((IntKind.wrap .i64 (Int.fdiv (IntKind.wrap .u64 (IntKind.wrap .i64 (x10 + x11))) (2 ^ (min (1 : Int).toNat (IntKind.bits .u64))))) + 1)) x11 o0_0 o1_0 o1_1 o1_2 o1_3
      else
        slices_symMergeCmpFunc_int_v0.l0 k x0 x1 x10 (IntKind.wrap .i64 (Int.fdiv (IntKind.wrap .u64 (IntKind.wrap .i64 (x10 + x11))) (2 ^ (min (1 : Int).toNat (IntKind.bits .u64))))) o0_0 o1_0 o1_1 o1_2 o1_3
    else
      slices_symMergeCmpFunc_int_v0.l2 k x0 x10 x1 o0_0 o1_0 o1_1 o1_2 o1_3
noncomputable def slices_symMergeCmpFunc_int_v0.l2 : Nat → (List Int) → Int → Int → (List (ByteArray × Int × List (ByteArray × (Int × Bool × Int × Int × ByteArray × Unit) × Unit) × Unit)) → (List (ByteArray × (Int × Bool × Int × Int × ByteArray × Unit) × (Int × Bool × Int × Int × ByteArray × Unit) × Bool × Bool × Bool × Unit)) → ByteArray → Bool → Int → Option slices_symMergeCmpFunc_int_v0.R
  | 0, _, _, _, _, _, _, _, _ => none
  | k + 1, x0, x10, x13, o0_0, o1_0, o1_1, o1_2, o1_3 =>
    bif decide ((x13 : Int) < IntKind.wrap .i64 (x10 - 1)) then
      (ck (decide (0 ≤ IntKind.wrap .i64 (x13 + 1)) && decide (IntKind.wrap .i64 (x13 + 1) < (x0.length : Int)))).bind fun _ =>
      (rdo x0 (IntKind.wrap .i64 (x13 + 1))).bind fun t7 =>
      (ck (decide (0 ≤ x13) && decide (x13 < (x0.length : Int)))).bind fun _ =>
      (rdo x0 x13).bind fun t8 =>
      (ck (decide (0 ≤ x13) && decide (x13 < (x0.length : Int)))).bind fun _ =>
      (ck (decide (0 ≤ IntKind.wrap .i64 (x13 + 1)) && decide (IntKind.wrap .i64 (x13 + 1) < ((x0.set x13.toNat t7).length : Int)))).bind fun _ =>
      slices_symMergeCmpFunc_int_v0.l2 k ((x0.set x13.toNat t7).set (IntKind.wrap .i64 (x13 + 1) : Int).toNat t8) x10 (IntKind.wrap .i64 (x13 + 1)) o0_0 o1_0 o1_1 o1_2 o1_3
    else
      some ((x0, ()), (()))
noncomputable def slices_symMergeCmpFunc_int_v0.l1 : Nat → (List Int) → Int → Int → Int → (List (ByteArray × Int × List (ByteArray × (Int × Bool × Int × Int × ByteArray × Unit) × Unit) × Unit)) → (List (ByteArray × (Int × Bool × Int × Int × ByteArray × Unit) × (Int × Bool × Int × Int × ByteArray × Unit) × Bool × Bool × Bool × Unit)) → ByteArray → Bool → Int → Option slices_symMergeCmpFunc_int_v0.R
  | 0, _, _, _, _, _, _, _, _, _ => none
  | k + 1, x0, x2, x14, x15, o0_0, o1_0, o1_1, o1_2, o1_3 =>
    bif decide ((x14 : Int) < x15) then
      (ck (!decide ((1 : Int) < 0))).bind fun _ =>
      (ck (decide (0 ≤ x2) && decide (x2 < (x0.length : Int)))).bind fun _ =>
      (rdo x0 x2).bind fun t4 =>
      (ck (decide (0 ≤ IntKind.wrap .i64 (Int.fdiv (IntKind.wrap .u64 (IntKind.wrap .i64 (x14 + x15))) (2 ^ (min (1 : Int).toNat (IntKind.bits .u64))))) && decide (IntKind.wrap .i64 (Int.fdiv (IntKind.wrap .u64 (IntKind.wrap .i64 (x14 + x15))) (2 ^ (min (1 : Int).toNat (IntKind.bits .u64)))) < (x0.length : Int)))).bind fun _ =>
      (rdo x0 (IntKind.wrap .i64 (Int.fdiv (IntKind.wrap .u64 (IntKind.wrap .i64 (x14 + x15))) (2 ^ (min (1 : Int).toNat (IntKind.bits .u64)))))).bind fun t5 =>
      (find_Run_1_v0.f k t4 t5 o0_0 o1_0 o1_1 o1_2 o1_3).bind fun r6 =>
      bif !(decide ((r6.1.1 : Int) < 0)) then
        slices_symMergeCmpFunc_int_v0.l1 k x0 x2 (IntKind.wrap .i64 ((IntKind.wrap .i64 (Int.fdiv (IntKind.wrap .u64 (IntKind.wrap .i64 (x14 + x15))) (2 ^ (min (1 : Int).toNat (IntKind.bits .u64))))) + 1)) x15 o0_0 o1_0 o1_1 o1_2 o1_3
      else
        slices_symMergeCmpFunc_int_v0.l1 k x0 x2 x14 (IntKind.wrap .i64 (Int.fdiv (IntKind.wrap .u64 (IntKind.wrap .i64 (x14 + x15))) (2 ^ (min (1 : Int).toNat (IntKind.bits .u64))))) o0_0 o1_0 o1_1 o1_2 o1_3
    else
      slices_symMergeCmpFunc_int_v0.l3 k x0 x14 x2 o0_0 o1_0 o1_1 o1_2 o1_3
noncomputable def slices_symMergeCmpFunc_int_v0.l3 : Nat → (List Int) → Int → Int → (List (ByteArray × Int × List (ByteArray × (Int × Bool × Int × Int × ByteArray × Unit) × Unit) × Unit)) → (List (ByteArray × (Int × Bool × Int × Int × ByteArray × Unit) × (Int × Bool × Int × Int × ByteArray × Unit) × Bool × Bool × Bool × Unit)) → ByteArray → Bool → Int → Option slices_symMergeCmpFunc_int_v0.R
  | 0, _, _, _, _, _, _, _, _ => none
  | k + 1, x0, x14, x17, o0_0, o1_0, o1_1, o1_2, o1_3 =>
    bif decide ((x17 : Int) > x14) then
      (ck (decide (0 ≤ IntKind.wrap .i64 (x17 - 1)) && decide (IntKind.wrap .i64 (x17 - 1) < (x0.length : Int)))).bind fun _ =>
      (rdo x0 (IntKind.wrap .i64 (x17 - 1))).bind fun t9 =>
      (ck (decide (0 ≤ x17) && decide (x17 < (x0.length : Int)))).bind fun _ =>
      (rdo x0 x17).bind fun t10 =>
      (ck (decide (0 ≤ x17) && decide (x17 < (x0.length : Int)))).bind fun _ =>
      (ck (decide (0 ≤ IntKind.wrap .i64 (x17 - 1)) && decide (IntKind.wrap .i64 (x17 - 1) < ((x0.set x17.toNat t9).length : Int)))).bind fun _ =>
      slices_symMergeCmpFunc_int_v0.l3 k ((x0.set x17.toNat t9).set (IntKind.wrap .i64 (x17 - 1) : Int).toNat t10) x14 (IntKind.wrap .i64 (x17 - 1)) o0_0 o1_0 o1_1 o1_2 o1_3
    else
      some ((x0, ()), (()))
noncomputable def slices_symMergeCmpFunc_int_v0.j0 : Nat → (List Int) → Int → Int → Int → Int → Int → Int → Int → (List (ByteArray × Int × List (ByteArray × (Int × Bool × Int × Int × ByteArray × Unit) × Unit) × Unit)) → (List (ByteArray × (Int × Bool × Int × Int × ByteArray × Unit) × (Int × Bool × Int × Int × ByteArray × Unit) × Bool × Bool × Bool × Unit)) → ByteArray → Bool → Int → Option slices_symMergeCmpFunc_int_v0.R
  | 0, _, _, _, _, _, _, _, _, _, _, _, _, _ => none
  | k + 1, x0, x1, x2, x3, x18, x19, x20, x21, o0_0, o1_0, o1_1, o1_2, o1_3 =>
    slices_symMergeCmpFunc_int_v0.l4 k x0 x1 x2 x3 x18 x19 x20 x21 (IntKind.wrap .i64 (x19 - 1)) o0_0 o1_0 o1_1 o1_2 o1_3
noncomputable def slices_symMergeCmpFunc_int_v0.l4 : Nat → (List Int) → Int → Int → Int → Int → Int → Int → Int → Int → (List (ByteArray × Int × List (ByteArray × (Int × Bool × Int × Int × ByteArray × Unit) × Unit) × Unit)) → (List (ByteArray × (Int × Bool × Int × Int × ByteArray × Unit) × (Int × Bool × Int × Int × ByteArray × Unit) × Bool × Bool × Bool × Unit)) → ByteArray → Bool → Int → Option slices_symMergeCmpFunc_int_v0.R
  | 0, _, _, _, _, _, _, _, _, _, _, _, _, _, _ => none
  | k + 1, x0, x1, x2, x3, x18, x19, x20, x21, x22, o0_0, o1_0, o1_1, o1_2, o1_3 =>
    bif decide ((x20 : Int) < x21) then
      (ck (!decide ((1 : Int) < 0))).bind fun _ =>
      (ck (decide (0 ≤ IntKind.wrap .i64 (x22 - (IntKind.wrap .i64 (Int.fdiv (IntKind.wrap .u64 (IntKind.wrap .i64 (x20 + x21))) (2 ^ (min (1 : Int).toNat (IntKind.bits .u64))))))) && decide (IntKind.wrap .i64 (x22 - (IntKind.wrap .i64 (Int.fdiv (IntKind.wrap .u64 (IntKind.wrap .i64 (x20 + x21))) (2 ^ (min (1 : Int).toNat (IntKind.bits .u64)))))) < (x0.length : Int)))).bind fun _ =>
      (rdo x0 (IntKind.wrap .i64 (x22 - (IntKind.wrap .i64 (Int.fdiv (IntKind.wrap .u64 (IntKind.wrap .i64 (x20 + x21))) (2 ^ (min (1 : Int).toNat (IntKind.bits .u64)))))))).bind fun t11 =>
      (ck (decide (0 ≤ IntKind.wrap .i64 (Int.fdiv (IntKind.wrap .u64 (IntKind.wrap .i64 (x20 + x21))) (2 ^ (min (1 : Int).toNat (IntKind.bits .u64))))) && decide (IntKind.wrap .i64 (Int.fdiv (IntKind.wrap .u64 (IntKind.wrap .i64 (x20 + x21))) (2 ^ (min (1 : Int).toNat (IntKind.bits .u64)))) < (x0.length : Int)))).bind fun _ =>
      (rdo x0 (IntKind.wrap .i64 (Int.fdiv (IntKind.wrap .u64 (IntKind.wrap .i64 (x20 + x21))) (2 ^ (min (1 : Int).toNat (IntKind.bits .u64)))))).bind fun t12 =>
      (find_Run_1_v0.f k t11 t12 o0_0 o1_0 o1_1 o1_2 o1_3).bind fun r13 =>
      bif !(decide ((r13.1.1 : Int) < 0)) then
        slices_symMergeCmpFunc_int_v0.l4 k x0 x1 x2 x3 x18 x19 (IntKind.wrap .i64 ((IntKind.wrap .i64 (Int.fdiv (IntKind.wrap .u64 (IntKind.wrap .i64 (x20 + x21))) (2 ^ (min (1 : Int).toNat (IntKind.bits .u64))))) + 1)) x21 x22 o0_0 o1_0 o1_1 o1_2 o1_3
      else
        slices_symMergeCmpFunc_int_v0.l4 k x0 x1 x2 x3 x18 x19 x20 (IntKind.wrap .i64 (Int.fdiv (IntKind.wrap .u64 (IntKind.wrap .i64 (x20 + x21))) (2 ^ (min (1 : Int).toNat (IntKind.bits .u64))))) x22 o0_0 o1_0 o1_1 o1_2 o1_3
    else
    bif decide ((x20 : Int) < x2) then
      bif decide ((x2 : Int) < IntKind.wrap .i64 (x19 - x20)) then
        (slices_rotateCmpFunc_int_v0.f k x0 x20 x2 (IntKind.wrap .i64 (x19 - x20)) o0_0 o1_0 o1_1 o1_2 o1_3).bind fun r14 =>
        slices_symMergeCmpFunc_int_v0.j1 k r14.1.1 x1 x3 x18 x20 (IntKind.wrap .i64 (x19 - x20)) o0_0 o1_0 o1_1 o1_2 o1_3
      else
        slices_symMergeCmpFunc_int_v0.j1 k x0 x1 x3 x18 x20 (IntKind.wrap .i64 (x19 - x20)) o0_0 o1_0 o1_1 o1_2 o1_3
    else
      slices_symMergeCmpFunc_int_v0.j1 k x0 x1 x3 x18 x20 (IntKind.wrap .i64 (x19 - x20)) o0_0 o1_0 o1_1 o1_2 o1_3
noncomputable def slices_symMergeCmpFunc_int_v0.j1 : Nat → (List Int) → Int → Int → Int → Int → Int → (List (ByteArray × Int × List (ByteArray × (Int × Bool × Int × Int × ByteArray × Unit) × Unit) × Unit)) → (List (ByteArray × (Int × Bool × Int × Int × ByteArray × Unit) × (Int × Bool × Int × Int × ByteArray × Unit) × Bool × Bool × Bool × Unit)) → ByteArray → Bool → Int → Option slices_symMergeCmpFunc_int_v0.R
  | 0, _, _, _, _, _, _, _, _, _, _, _ => none
  | k + 1, x0, x1, x3, x18, x20, x24, o0_0, o1_0, o1_1, o1_2, o1_3 =>
    bif decide ((x1 : Int) < x20) then
      bif decide ((x20 : Int) < x18) then
        (slices_symMergeCmpFunc_int_v0.f k x0 x1 x20 x18 o0_0 o1_0 o1_1 o1_2 o1_3).bind fun r15 =>
        slices_symMergeCmpFunc_int_v0.j2 k r15.1.1 x3 x18 x24 o0_0 o1_0 o1_1 o1_2 o1_3
      else
        slices_symMergeCmpFunc_int_v0.j2 k x0 x3 x18 x24 o0_0 o1_0 o1_1 o1_2 o1_3
    else
      slices_symMergeCmpFunc_int_v0.j2 k x0 x3 x18 x24 o0_0 o1_0 o1_1 o1_2 o1_3
noncomputable def slices_symMergeCmpFunc_int_v0.j2 : Nat → (List Int) → Int → Int → Int → (List (ByteArray × Int × List (ByteArray × (Int × Bool × Int × Int × ByteArray × Unit) × Unit) × Unit)) → (List (ByteArray × (Int × Bool × Int × Int × ByteArray × Unit) × (Int × Bool × Int × Int × ByteArray × Unit) × Bool × Bool × Bool × Unit)) → ByteArray → Bool → Int → Option slices_symMergeCmpFunc_int_v0.R
  | 0, _, _, _, _, _, _, _, _, _ => none
  | k + 1, x0, x3, x18, x24, o0_0, o1_0, o1_1, o1_2, o1_3 =>
    bif decide ((x18 : Int) < x24) then
      bif decide ((x24 : Int) < x3) then
        (slices_symMergeCmpFunc_int_v0.f k x0 x18 x24 x3 o0_0 o1_0 o1_1 o1_2 o1_3).bind fun r16 =>
        some ((r16.1.1, ()), (()))
      else
        some ((x0, ()), (()))
    else
      some ((x0, ()), (()))
noncomputable def slices_symMergeCmpFunc_int_v0.f : Nat → (List Int) → Int → Int → Int → (List (ByteArray × Int × List (ByteArray × (Int × Bool × Int × Int × ByteArray × Unit) × Unit) × Unit)) → (List (ByteArray × (Int × Bool × Int × Int × ByteArray × Unit) × (Int × Bool × Int × Int × ByteArray × Unit) × Bool × Bool × Bool × Unit)) → ByteArray → Bool → Int → Option slices_symMergeCmpFunc_int_v0.R
  | 0, _, _, _, _, _, _, _, _, _ => none
  | k + 1, x0, x1, x2, x3, o0_0, o1_0, o1_1, o1_2, o1_3 =>
    bif (IntKind.wrap .i64 (x2 - x1) : Int) == 1 then
      slices_symMergeCmpFunc_int_v0.l0 k x0 x1 x2 x3 o0_0 o1_0 o1_1 o1_2 o1_3
    else
    bif (IntKind.wrap .i64 (x3 - x2) : Int) == 1 then
      slices_symMergeCmpFunc_int_v0.l1 k x0 x2 x1 x2 o0_0 o1_0 o1_1 o1_2 o1_3
    else
      (ck (!decide ((1 : Int) < 0))).bind fun _ =>
      bif decide ((x2 : Int) > IntKind.wrap .i64 (Int.fdiv (IntKind.wrap .u64 (IntKind.wrap .i64 (x1 + x3))) (2 ^ (min (1 : Int).toNat (IntKind.bits .u64))))) then
        slices_symMergeCmpFunc_int_v0.j0 k x0 x1 x2 x3 (IntKind.wrap .i64 (Int.fdiv (IntKind.wrap .u64 (IntKind.wrap .i64 (x1 + x3))) (2 ^ (min (1 : Int).toNat (IntKind.bits .u64))))) (IntKind.wrap .i64 ((IntKind.wrap .i64 (Int.fdiv (IntKind.wrap .u64 (IntKind.wrap .i64 (x1 + x3))) (2 ^ (min (1 : Int).toNat (IntKind.bits .u64))))) + x2)) (IntKind.wrap .i64 ((IntKind.wrap .i64 ((IntKind.wrap .i64 (Int.fdiv (IntKind.wrap .u64 (IntKind.wrap .i64 (x1 + x3))) (2 ^ (min (1 : Int).toNat (IntKind.bits .u64))))) + x2)) - x3)) (IntKind.wrap .i64 (Int.fdiv (IntKind.wrap .u64 (IntKind.wrap .i64 (x1 + x3))) (2 ^ (min (1 : Int).toNat (IntKind.bits .u64))))) o0_0 o1_0 o1_1 o1_2 o1_3
      else
        slices_symMergeCmpFunc_int_v0.j0 k x0 x1 x2 x3 (IntKind.wrap .i64 (Int.fdiv (IntKind.wrap .u64 (IntKind.wrap .i64 (x1 + x3))) (2 ^ (min (1 : Int).toNat (IntKind.bits .u64))))) (IntKind.wrap .i64 ((IntKind.wrap .i64 (Int.fdiv (IntKind.wrap .u64 (IntKind.wrap .i64 (x1 + x3))) (2 ^ (min (1 : Int).toNat (IntKind.bits .u64))))) + x2)) x1 x2 o0_0 o1_0 o1_1 o1_2 o1_3
end
abbrev slices_symMergeCmpFunc_int_v0.ini : LSh := ⟨[(0, .own 3900000 3 (.mu (.int .i64))), (1, .val (.int .i64)), (2, .val (.int .i64)), (3, .val (.int .i64)), (4, .clo 35 [(1000000, 0), (1000001, 0)])], [(1000000, 40, [.val (.sl (.cons .str (.cons (.int .i64) (.cons (.sl (.cons .str (.cons (.cons (.int .i64) (.cons .bool (.cons (.int .i64) (.cons (.int .u64) (.cons .str .nil))))) .nil))) .nil))))]), (1000001, 24, [.val (.sl (.cons .str (.cons (.cons (.int .i64) (.cons .bool (.cons (.int .i64) (.cons (.int .u64) (.cons .str .nil))))) (.cons (.cons (.int .i64) (.cons .bool (.cons (.int .i64) (.cons (.int .u64) (.cons .str .nil))))) (.cons .bool (.cons .bool (.cons .bool .nil))))))), .val .str, .val .bool, .val (.int .i64)])]⟩
abbrev slices_symMergeCmpFunc_int_v0.out : LSh := ⟨[(0, .own 3900000 3 (.mu (.int .i64)))], []⟩
abbrev slices_symMergeCmpFunc_int_v0.l0s : LSh := ⟨[(0, .own 3900000 3 (.mu (.int .i64))), (1, .val (.int .i64)), (4, .clo 35 [(1000000, 0), (1000001, 0)]), (10, .val (.int .i64)), (11, .val (.int .i64))], [(1000000, 40, [.val (.sl (.cons .str (.cons (.int .i64) (.cons (.sl (.cons .str (.cons (.cons (.int .i64) (.cons .bool (.cons (.int .i64) (.cons (.int .u64) (.cons .str .nil))))) .nil))) .nil))))]), (1000001, 24, [.val (.sl (.cons .str (.cons (.cons (.int .i64) (.cons .bool (.cons (.int .i64) (.cons (.int .u64) (.cons .str .nil))))) (.cons (.cons (.int .i64) (.cons .bool (.cons (.int .i64) (.cons (.int .u64) (.cons .str .nil))))) (.cons .bool (.cons .bool (.cons .bool .nil))))))), .val .str, .val .bool, .val (.int .i64)])]⟩
abbrev slices_symMergeCmpFunc_int_v0.l2s : LSh := ⟨[(0, .own 3900000 3 (.mu (.int .i64))), (10, .val (.int .i64)), (13, .val (.int .i64))], [(1000000, 40, [.val (.sl (.cons .str (.cons (.int .i64) (.cons (.sl (.cons .str (.cons (.cons (.int .i64) (.cons .bool (.cons (.int .i64) (.cons (.int .u64) (.cons .str .nil))))) .nil))) .nil))))]), (1000001, 24, [.val (.sl (.cons .str (.cons (.cons (.int .i64) (.cons .bool (.cons (.int .i64) (.cons (.int .u64) (.cons .str .nil))))) (.cons (.cons (.int .i64) (.cons .bool (.cons (.int .i64) (.cons (.int .u64) (.cons .str .nil))))) (.cons .bool (.cons .bool (.cons .bool .nil))))))), .val .str, .val .bool, .val (.int .i64)])]⟩
abbrev slices_symMergeCmpFunc_int_v0.l1s : LSh := ⟨[(0, .own 3900000 3 (.mu (.int .i64))), (2, .val (.int .i64)), (4, .clo 35 [(1000000, 0), (1000001, 0)]), (14, .val (.int .i64)), (15, .val (.int .i64))], [(1000000, 40, [.val (.sl (.cons .str (.cons (.int .i64) (.cons (.sl (.cons .str (.cons (.cons (.int .i64) (.cons .bool (.cons (.int .i64) (.cons (.int .u64) (.cons .str .nil))))) .nil))) .nil))))]), (1000001, 24, [.val (.sl (.cons .str (.cons (.cons (.int .i64) (.cons .bool (.cons (.int .i64) (.cons (.int .u64) (.cons .str .nil))))) (.cons (.cons (.int .i64) (.cons .bool (.cons (.int .i64) (.cons (.int .u64) (.cons .str .nil))))) (.cons .bool (.cons .bool (.cons .bool .nil))))))), .val .str, .val .bool, .val (.int .i64)])]⟩
abbrev slices_symMergeCmpFunc_int_v0.l3s : LSh := ⟨[(0, .own 3900000 3 (.mu (.int .i64))), (14, .val (.int .i64)), (17, .val (.int .i64))], [(1000000, 40, [.val (.sl (.cons .str (.cons (.int .i64) (.cons (.sl (.cons .str (.cons (.cons (.int .i64) (.cons .bool (.cons (.int .i64) (.cons (.int .u64) (.cons .str .nil))))) .nil))) .nil))))]), (1000001, 24, [.val (.sl (.cons .str (.cons (.cons (.int .i64) (.cons .bool (.cons (.int .i64) (.cons (.int .u64) (.cons .str .nil))))) (.cons (.cons (.int .i64) (.cons .bool (.cons (.int .i64) (.cons (.int .u64) (.cons .str .nil))))) (.cons .bool (.cons .bool (.cons .bool .nil))))))), .val .str, .val .bool, .val (.int .i64)])]⟩
abbrev slices_symMergeCmpFunc_int_v0.j0s : LSh := ⟨[(0, .own 3900000 3 (.mu (.int .i64))), (1, .val (.int .i64)), (2, .val (.int .i64)), (3, .val (.int .i64)), (4, .clo 35 [(1000000, 0), (1000001, 0)]), (18, .val (.int .i64)), (19, .val (.int .i64)), (20, .val (.int .i64)), (21, .val (.int .i64))], [(1000000, 40, [.val (.sl (.cons .str (.cons (.int .i64) (.cons (.sl (.cons .str (.cons (.cons (.int .i64) (.cons .bool (.cons (.int .i64) (.cons (.int .u64) (.cons .str .nil))))) .nil))) .nil))))]), (1000001, 24, [.val (.sl (.cons .str (.cons (.cons (.int .i64) (.cons .bool (.cons (.int .i64) (.cons (.int .u64) (.cons .str .nil))))) (.cons (.cons (.int .i64) (.cons .bool (.cons (.int .i64) (.cons (.int .u64) (.cons .str .nil))))) (.cons .bool (.cons .bool (.cons .bool .nil))))))), .val .str, .val .bool, .val (.int .i64)])]⟩
abbrev slices_symMergeCmpFunc_int_v0.l4s : LSh := ⟨[(0, .own 3900000 3 (.mu (.int .i64))), (1, .val (.int .i64)), (2, .val (.int .i64)), (3, .val (.int .i64)), (4, .clo 35 [(1000000, 0), (1000001, 0)]), (18, .val (.int .i64)), (19, .val (.int .i64)), (20, .val (.int .i64)), (21, .val (.int .i64)), (22, .val (.int .i64))], [(1000000, 40, [.val (.sl (.cons .str (.cons (.int .i64) (.cons (.sl (.cons .str (.cons (.cons (.int .i64) (.cons .bool (.cons (.int .i64) (.cons (.int .u64) (.cons .str .nil))))) .nil))) .nil))))]), (1000001, 24, [.val (.sl (.cons .str (.cons (.cons (.int .i64) (.cons .bool (.cons (.int .i64) (.cons (.int .u64) (.cons .str .nil))))) (.cons (.cons (.int .i64) (.cons .bool (.cons (.int .i64) (.cons (.int .u64) (.cons .str .nil))))) (.cons .bool (.cons .bool (.cons .bool .nil))))))), .val .str, .val .bool, .val (.int .i64)])]⟩
abbrev slices_symMergeCmpFunc_int_v0.j1s : LSh := ⟨[(0, .own 3900000 3 (.mu (.int .i64))), (1, .val (.int .i64)), (3, .val (.int .i64)), (4, .clo 35 [(1000000, 0), (1000001, 0)]), (18, .val (.int .i64)), (20, .val (.int .i64)), (24, .val (.int .i64))], [(1000000, 40, [.val (.sl (.cons .str (.cons (.int .i64) (.cons (.sl (.cons .str (.cons (.cons (.int .i64) (.cons .bool (.cons (.int .i64) (.cons (.int .u64) (.cons .str .nil))))) .nil))) .nil))))]), (1000001, 24, [.val (.sl (.cons .str (.cons (.cons (.int .i64) (.cons .bool (.cons (.int .i64) (.cons (.int .u64) (.cons .str .nil))))) (.cons (.cons (.int .i64) (.cons .bool (.cons (.int .i64) (.cons (.int .u64) (.cons .str .nil))))) (.cons .bool (.cons .bool (.cons .bool .nil))))))), .val .str, .val .bool, .val (.int .i64)])]⟩
abbrev slices_symMergeCmpFunc_int_v0.j2s : LSh := ⟨[(0, .own 3900000 3 (.mu (.int .i64))), (3, .val (.int .i64)), (4, .clo 35 [(1000000, 0), (1000001, 0)]), (18, .val (.int .i64)), (24, .val (.int .i64))], [(1000000, 40, [.val (.sl (.cons .str (.cons (.int .i64) (.cons (.sl (.cons .str (.cons (.cons (.int .i64) (.cons .bool (.cons (.int .i64) (.cons (.int .u64) (.cons .str .nil))))) .nil))) .nil))))]), (1000001, 24, [.val (.sl (.cons .str (.cons (.cons (.int .i64) (.cons .bool (.cons (.int .i64) (.cons (.int .u64) (.cons .str .nil))))) (.cons (.cons (.int .i64) (.cons .bool (.cons (.int .i64) (.cons (.int .u64) (.cons .str .nil))))) (.cons .bool (.cons .bool (.cons .bool .nil))))))), .val .str, .val .bool, .val (.int .i64)])]⟩
noncomputable def slices_symMergeCmpFunc_int_v0.labF : Nat → Option (LabF slices_symMergeCmpFunc_int_v0.out.den)
  | 6 => some ⟨slices_symMergeCmpFunc_int_v0.l0s, fun k (d : (List Int × Int × Unit × Int × Int × Unit) × (((List (ByteArray × Int × List (ByteArray × (Int × Bool × Int × Int × ByteArray × Unit) × Unit) × Unit)) × Unit) × ((List (ByteArray × (Int × Bool × Int × Int × ByteArray × Unit) × (Int × Bool × Int × Int × ByteArray × Unit) × Bool × Bool × Bool × Unit)) × ByteArray × Bool × Int × Unit) × Unit)) => (slices_symMergeCmpFunc_int_v0.l0 k d.1.1 d.1.2.1 d.1.2.2.2.1 d.1.2.2.2.2.1 d.2.1.1 d.2.2.1.1 d.2.2.1.2.1 d.2.2.1.2.2.1 d.2.2.1.2.2.2.1 : Option slices_symMergeCmpFunc_int_v0.R)⟩
  | 18 => some ⟨slices_symMergeCmpFunc_int_v0.l2s, fun k (d : (List Int × Int × Int × Unit) × (((List (ByteArray × Int × List (ByteArray × (Int × Bool × Int × Int × ByteArray × Unit) × Unit) × Unit)) × Unit) × ((List (ByteArray × (Int × Bool × Int × Int × ByteArray × Unit) × (Int × Bool × Int × Int × ByteArray × Unit) × Bool × Bool × Bool × Unit)) × ByteArray × Bool × Int × Unit) × Unit)) => (slices_symMergeCmpFunc_int_v0.l2 k d.1.1 d.1.2.1 d.1.2.2.1 d.2.1.1 d.2.2.1.1 d.2.2.1.2.1 d.2.2.1.2.2.1 d.2.2.1.2.2.2.1 : Option slices_symMergeCmpFunc_int_v0.R)⟩
  | 30 => some ⟨slices_symMergeCmpFunc_int_v0.l1s, fun k (d : (List Int × Int × Unit × Int × Int × Unit) × (((List (ByteArray × Int × List (ByteArray × (Int × Bool × Int × Int × ByteArray × Unit) × Unit) × Unit)) × Unit) × ((List (ByteArray × (Int × Bool × Int × Int × ByteArray × Unit) × (Int × Bool × Int × Int × ByteArray × Unit) × Bool × Bool × Bool × Unit)) × ByteArray × Bool × Int × Unit) × Unit)) => (slices_symMergeCmpFunc_int_v0.l1 k d.1.1 d.1.2.1 d.1.2.2.2.1 d.1.2.2.2.2.1 d.2.1.1 d.2.2.1.1 d.2.2.1.2.1 d.2.2.1.2.2.1 d.2.2.1.2.2.2.1 : Option slices_symMergeCmpFunc_int_v0.R)⟩
  | 42 => some ⟨slices_symMergeCmpFunc_int_v0.l3s, fun k (d : (List Int × Int × Int × Unit) × (((List (ByteArray × Int × List (ByteArray × (Int × Bool × Int × Int × ByteArray × Unit) × Unit) × Unit)) × Unit) × ((List (ByteArray × (Int × Bool × Int × Int × ByteArray × Unit) × (Int × Bool × Int × Int × ByteArray × Unit) × Bool × Bool × Bool × Unit)) × ByteArray × Bool × Int × Unit) × Unit)) => (slices_symMergeCmpFunc_int_v0.l3 k d.1.1 d.1.2.1 d.1.2.2.1 d.2.1.1 d.2.2.1.1 d.2.2.1.2.1 d.2.2.1.2.2.1 d.2.2.1.2.2.2.1 : Option slices_symMergeCmpFunc_int_v0.R)⟩
  | 65 => some ⟨slices_symMergeCmpFunc_int_v0.j0s, fun k (d : (List Int × Int × Int × Int × Unit × Int × Int × Int × Int × Unit) × (((List (ByteArray × Int × List (ByteArray × (Int × Bool × Int × Int × ByteArray × Unit) × Unit) × Unit)) × Unit) × ((List (ByteArray × (Int × Bool × Int × Int × ByteArray × Unit) × (Int × Bool × Int × Int × ByteArray × Unit) × Bool × Bool × Bool × Unit)) × ByteArray × Bool × Int × Unit) × Unit)) => (slices_symMergeCmpFunc_int_v0.j0 k d.1.1 d.1.2.1 d.1.2.2.1 d.1.2.2.2.1 d.1.2.2.2.2.2.1 d.1.2.2.2.2.2.2.1 d.1.2.2.2.2.2.2.2.1 d.1.2.2.2.2.2.2.2.2.1 d.2.1.1 d.2.2.1.1 d.2.2.1.2.1 d.2.2.1.2.2.1 d.2.2.1.2.2.2.1 : Option slices_symMergeCmpFunc_int_v0.R)⟩
  | 66 => some ⟨slices_symMergeCmpFunc_int_v0.l4s, fun k (d : (List Int × Int × Int × Int × Unit × Int × Int × Int × Int × Int × Unit) × (((List (ByteArray × Int × List (ByteArray × (Int × Bool × Int × Int × ByteArray × Unit) × Unit) × Unit)) × Unit) × ((List (ByteArray × (Int × Bool × Int × Int × ByteArray × Unit) × (Int × Bool × Int × Int × ByteArray × Unit) × Bool × Bool × Bool × Unit)) × ByteArray × Bool × Int × Unit) × Unit)) => (slices_symMergeCmpFunc_int_v0.l4 k d.1.1 d.1.2.1 d.1.2.2.1 d.1.2.2.2.1 d.1.2.2.2.2.2.1 d.1.2.2.2.2.2.2.1 d.1.2.2.2.2.2.2.2.1 d.1.2.2.2.2.2.2.2.2.1 d.1.2.2.2.2.2.2.2.2.2.1 d.2.1.1 d.2.2.1.1 d.2.2.1.2.1 d.2.2.1.2.2.1 d.2.2.1.2.2.2.1 : Option slices_symMergeCmpFunc_int_v0.R)⟩
  | 83 => some ⟨slices_symMergeCmpFunc_int_v0.j1s, fun k (d : (List Int × Int × Int × Unit × Int × Int × Int × Unit) × (((List (ByteArray × Int × List (ByteArray × (Int × Bool × Int × Int × ByteArray × Unit) × Unit) × Unit)) × Unit) × ((List (ByteArray × (Int × Bool × Int × Int × ByteArray × Unit) × (Int × Bool × Int × Int × ByteArray × Unit) × Bool × Bool × Bool × Unit)) × ByteArray × Bool × Int × Unit) × Unit)) => (slices_symMergeCmpFunc_int_v0.j1 k d.1.1 d.1.2.1 d.1.2.2.1 d.1.2.2.2.2.1 d.1.2.2.2.2.2.1 d.1.2.2.2.2.2.2.1 d.2.1.1 d.2.2.1.1 d.2.2.1.2.1 d.2.2.1.2.2.1 d.2.2.1.2.2.2.1 : Option slices_symMergeCmpFunc_int_v0.R)⟩
  | 87 => some ⟨slices_symMergeCmpFunc_int_v0.j2s, fun k (d : (List Int × Int × Unit × Int × Int × Unit) × (((List (ByteArray × Int × List (ByteArray × (Int × Bool × Int × Int × ByteArray × Unit) × Unit) × Unit)) × Unit) × ((List (ByteArray × (Int × Bool × Int × Int × ByteArray × Unit) × (Int × Bool × Int × Int × ByteArray × Unit) × Bool × Bool × Bool × Unit)) × ByteArray × Bool × Int × Unit) × Unit)) => (slices_symMergeCmpFunc_int_v0.j2 k d.1.1 d.1.2.1 d.1.2.2.2.1 d.1.2.2.2.2.1 d.2.1.1 d.2.2.1.1 d.2.2.1.2.1 d.2.2.1.2.2.1 d.2.2.1.2.2.2.1 : Option slices_symMergeCmpFunc_int_v0.R)⟩
  | _ => none
noncomputable def slices_symMergeCmpFunc_int_v0.fd : FnD := ⟨Try.f62, slices_symMergeCmpFunc_int_v0.ini, slices_symMergeCmpFunc_int_v0.out, 0, [1000000, 1000001], [1000000, 1000001], slices_symMergeCmpFunc_int_v0.labF, fun k (d : (List Int × Int × Int × Int × Unit × Unit) × (((List (ByteArray × Int × List (ByteArray × (Int × Bool × Int × Int × ByteArray × Unit) × Unit) × Unit)) × Unit) × ((List (ByteArray × (Int × Bool × Int × Int × ByteArray × Unit) × (Int × Bool × Int × Int × ByteArray × Unit) × Bool × Bool × Bool × Unit)) × ByteArray × Bool × Int × Unit) × Unit)) => (slices_symMergeCmpFunc_int_v0.f k d.1.1 d.1.2.1 d.1.2.2.1 d.1.2.2.2.1 d.2.1.1 d.2.2.1.1 d.2.2.1.2.1 d.2.2.1.2.2.1 d.2.2.1.2.2.2.1 : Option slices_symMergeCmpFunc_int_v0.R)⟩

/-! ### slices_stableCmpFunc_int_v0 : function 52 -/
abbrev slices_stableCmpFunc_int_v0.R := (List Int × Unit) × (Unit)
mutual
noncomputable def slices_stableCmpFunc_int_v0.l0 : Nat → (List Int) → Int → Int → Int → Int → (List (ByteArray × Int × List (ByteArray × (Int × Bool × Int × Int × ByteArray × Unit) × Unit) × Unit)) → (List (ByteArray × (Int × Bool × Int × Int × ByteArray × Unit) × (Int × Bool × Int × Int × ByteArray × Unit) × Bool × Bool × Bool × Unit)) → ByteArray → Bool → Int → Option slices_stableCmpFunc_int_v0.R
  | 0, _, _, _, _, _, _, _, _, _, _ => none
  | k + 1, x0, x1, x6, x7, x8, o0_0, o1_0, o1_1, o1_2, o1_3 =>
    bif decide ((x8 : Int) ≤ x1) then
      (slices_insertionSortCmpFunc_int_v0.f k x0 x7 x8 o0_0 o1_0 o1_1 o1_2 o1_3).bind fun r1 =>
      slices_stableCmpFunc_int_v0.l0 k r1.1.1 x1 x6 x8 (IntKind.wrap .i64 (x8 + x6)) o0_0 o1_0 o1_1 o1_2 o1_3
    else
      (slices_insertionSortCmpFunc_int_v0.f k x0 x7 x1 o0_0 o1_0 o1_1 o1_2 o1_3).bind fun r2 =>
      slices_stableCmpFunc_int_v0.l1 k r2.1.1 x1 x6 o0_0 o1_0 o1_1 o1_2 o1_3
noncomputable def slices_stableCmpFunc_int_v0.l1 : Nat → (List Int) → Int → Int → (List (ByteArray × Int × List (ByteArray × (Int × Bool × Int × Int × ByteArray × Unit) × Unit) × Unit)) → (List (ByteArray × (Int × Bool × Int × Int × ByteArray × Unit) × (Int × Bool × Int × Int × ByteArray × Unit) × Bool × Bool × Bool × Unit)) → ByteArray → Bool → Int → Option slices_stableCmpFunc_int_v0.R
  | 0, _, _, _, _, _, _, _, _ => none
  | k + 1, x0, x1, x6, o0_0, o1_0, o1_1, o1_2, o1_3 =>
    bif decide ((x6 : Int) < x1) then
      slices_stableCmpFunc_int_v0.l2 k x0 x1 x6 0 (IntKind.wrap .i64 (2 * x6)) o0_0 o1_0 o1_1 o1_2 o1_3
    else
      some ((x0, ()), (()))
noncomputable def slices_stableCmpFunc_int_v0.l2 : Nat → (List Int) → Int → Int → Int → Int → (List (ByteArray × Int × List (ByteArray × (Int × Bool × Int × Int × ByteArray × Unit) × Unit) × Unit)) → (List (ByteArray × (Int × Bool × Int × Int × ByteArray × Unit) × (Int × Bool × Int × Int × ByteArray × Unit) × Bool × Bool × Bool × Unit)) → ByteArray → Bool → Int → Option slices_stableCmpFunc_int_v0.R
  | 0, _, _, _, _, _, _, _, _, _, _ => none
  | k + 1, x0, x1, x6, x7, x8, o0_0, o1_0, o1_1, o1_2, o1_3 =>
    bif decide ((x8 : Int) ≤ x1) then
      (slices_symMergeCmpFunc_int_v0.f k x0 x7 (IntKind.wrap .i64 (x7 + x6)) x8 o0_0 o1_0 o1_1 o1_2 o1_3).bind fun r3 =>
      slices_stableCmpFunc_int_v0.l2 k r3.1.1 x1 x6 x8 (IntKind.wrap .i64 (x8 + (IntKind.wrap .i64 (2 * x6)))) o0_0 o1_0 o1_1 o1_2 o1_3
    else
    bif decide ((IntKind.wrap .i64 (x7 + x6) : Int) < x1) then
      (slices_symMergeCmpFunc_int_v0.f k x0 x7 (IntKind.wrap .i64 (x7 + x6)) x1 o0_0 o1_0 o1_1 o1_2 o1_3).bind fun r4 =>
      slices_stableCmpFunc_int_v0.l1 k r4.1.1 x1 (IntKind.wrap .i64 (x6 * 2)) o0_0 o1_0 o1_1 o1_2 o1_3
    else
      slices_stableCmpFunc_int_v0.l1 k x0 x1 (IntKind.wrap .i64 (x6 * 2)) o0_0 o1_0 o1_1 o1_2 o1_3
noncomputable def slices_stableCmpFunc_int_v0.f : Nat → (List Int) → Int → (List (ByteArray × Int × List (ByteArray × (Int × Bool × Int × Int × ByteArray × Unit) × Unit) × Unit)) → (List (ByteArray × (Int × Bool × Int × Int × ByteArray × Unit) × (Int × Bool × Int × Int × ByteArray × Unit) × Bool × Bool × Bool × Unit)) → ByteArray → Bool → Int → Option slices_stableCmpFunc_int_v0.R
  | 0, _, _, _, _, _, _, _ => none
  | k + 1, x0, x1, o0_0, o1_0, o1_1, o1_2, o1_3 =>
    slices_stableCmpFunc_int_v0.l0 k x0 x1 20 0 20 o0_0 o1_0 o1_1 o1_2 o1_3
end
abbrev slices_stableCmpFunc_int_v0.ini : LSh := ⟨[(0, .own 3900000 3 (.mu (.int .i64))), (1, .val (.int .i64)), (2, .clo 35 [(1000000, 0), (1000001, 0)])], [(1000000, 40, [.val (.sl (.cons .str (.cons (.int .i64) (.cons (.sl (.cons .str (.cons (.cons (.int .i64) (.cons .bool (.cons (.int .i64) (.cons (.int .u64) (.cons .str .nil))))) .nil))) .nil))))]), (1000001, 24, [.val (.sl (.cons .str (.cons (.cons (.int .i64) (.cons .bool (.cons (.int .i64) (.cons (.int .u64) (.cons .str .nil))))) (.cons (.cons (.int .i64) (.cons .bool (.cons (.int .i64) (.cons (.int .u64) (.cons .str .nil))))) (.cons .bool (.cons .bool (.cons .bool .nil))))))), .val .str, .val .bool, .val (.int .i64)])]⟩
abbrev slices_stableCmpFunc_int_v0.out : LSh := ⟨[(0, .own 3900000 3 (.mu (.int .i64)))], []⟩
abbrev slices_stableCmpFunc_int_v0.l0s : LSh := ⟨[(0, .own 3900000 3 (.mu (.int .i64))), (1, .val (.int .i64)), (2, .clo 35 [(1000000, 0), (1000001, 0)]), (6, .val (.int .i64)), (7, .val (.int .i64)), (8, .val (.int .i64))], [(1000000, 40, [.val (.sl (.cons .str (.cons (.int .i64) (.cons (.sl (.cons .str (.cons (.cons (.int .i64) (.cons .bool (.cons (.int .i64) (.cons (.int .u64) (.cons .str .nil))))) .nil))) .nil))))]), (1000001, 24, [.val (.sl (.cons .str (.cons (.cons (.int .i64) (.cons .bool (.cons (.int .i64) (.cons (.int .u64) (.cons .str .nil))))) (.cons (.cons (.int .i64) (.cons .bool (.cons (.int .i64) (.cons (.int .u64) (.cons .str .nil))))) (.cons .bool (.cons .bool (.cons .bool .nil))))))), .val .str, .val .bool, .val (.int .i64)])]⟩
abbrev slices_stableCmpFunc_int_v0.l1s : LSh := ⟨[(0, .own 3900000 3 (.mu (.int .i64))), (1, .val (.int .i64)), (2, .clo 35 [(1000000, 0), (1000001, 0)]), (6, .val (.int .i64))], [(1000000, 40, [.val (.sl (.cons .str (.cons (.int .i64) (.cons (.sl (.cons .str (.cons (.cons (.int .i64) (.cons .bool (.cons (.int .i64) (.cons (.int .u64) (.cons .str .nil))))) .nil))) .nil))))]), (1000001, 24, [.val (.sl (.cons .str (.cons (.cons (.int .i64) (.cons .bool (.cons (.int .i64) (.cons (.int .u64) (.cons .str .nil))))) (.cons (.cons (.int .i64) (.cons .bool (.cons (.int .i64) (.cons (.int .u64) (.cons .str .nil))))) (.cons .bool (.cons .bool (.cons .bool .nil))))))), .val .str, .val .bool, .val (.int .i64)])]⟩
abbrev slices_stableCmpFunc_int_v0.l2s : LSh := ⟨[(0, .own 3900000 3 (.mu (.int .i64))), (1, .val (.int .i64)), (2, .clo 35 [(1000000, 0), (1000001, 0)]), (6, .val (.int .i64)), (7, .val (.int .i64)), (8, .val (.int .i64))], [(1000000, 40, [.val (.sl (.cons .str (.cons (.int .i64) (.cons (.sl (.cons .str (.cons (.cons (.int .i64) (.cons .bool (.cons (.int .i64) (.cons (.int .u64) (.cons .str .nil))))) .nil))) .nil))))]), (1000001, 24, [.val (.sl (.cons .str (.cons (.cons (.int .i64) (.cons .bool (.cons (.int .i64) (.cons (.int .u64) (.cons .str .nil))))) (.cons (.cons (.int .i64) (.cons .bool (.cons (.int .i64) (.cons (.int .u64) (.cons .str .nil))))) (.cons .bool (.cons .bool (.cons .bool .nil))))))), .val .str, .val .bool, .val (.int .i64)])]⟩
noncomputable def slices_stableCmpFunc_int_v0.labF : Nat → Option (LabF slices_stableCmpFunc_int_v0.out.den)
  | 4 => some ⟨slices_stableCmpFunc_int_v0.l0s, fun k (d : (List Int × Int × Unit × Int × Int × Int × Unit) × (((List (ByteArray × Int × List (ByteArray × (Int × Bool × Int × Int × ByteArray × Unit) × Unit) × Unit)) × Unit) × ((List (ByteArray × (Int × Bool × Int × Int × ByteArray × Unit) × (Int × Bool × Int × Int × ByteArray × Unit) × Bool × Bool × Bool × Unit)) × ByteArray × Bool × Int × Unit) × Unit)) => (slices_stableCmpFunc_int_v0.l0 k d.1.1 d.1.2.1 d.1.2.2.2.1 d.1.2.2.2.2.1 d.1.2.2.2.2.2.1 d.2.1.1 d.2.2.1.1 d.2.2.1.2.1 d.2.2.1.2.2.1 d.2.2.1.2.2.2.1 : Option slices_stableCmpFunc_int_v0.R)⟩
  | 14 => some ⟨slices_stableCmpFunc_int_v0.l1s, fun k (d : (List Int × Int × Unit × Int × Unit) × (((List (ByteArray × Int × List (ByteArray × (Int × Bool × Int × Int × ByteArray × Unit) × Unit) × Unit)) × Unit) × ((List (ByteArray × (Int × Bool × Int × Int × ByteArray × Unit) × (Int × Bool × Int × Int × ByteArray × Unit) × Bool × Bool × Bool × Unit)) × ByteArray × Bool × Int × Unit) × Unit)) => (slices_stableCmpFunc_int_v0.l1 k d.1.1 d.1.2.1 d.1.2.2.2.1 d.2.1.1 d.2.2.1.1 d.2.2.1.2.1 d.2.2.1.2.2.1 d.2.2.1.2.2.2.1 : Option slices_stableCmpFunc_int_v0.R)⟩
  | 18 => some ⟨slices_stableCmpFunc_int_v0.l2s, fun k (d : (List Int × Int × Unit × Int × Int × Int × Unit) × (((List (ByteArray × Int × List (ByteArray × (Int × Bool × Int × Int × ByteArray × Unit) × Unit) × Unit)) × Unit) × ((List (ByteArray × (Int × Bool × Int × Int × ByteArray × Unit) × (Int × Bool × Int × Int × ByteArray × Unit) × Bool × Bool × Bool × Unit)) × ByteArray × Bool × Int × Unit) × Unit)) => (slices_stableCmpFunc_int_v0.l2 k d.1.1 d.1.2.1 d.1.2.2.2.1 d.1.2.2.2.2.1 d.1.2.2.2.2.2.1 d.2.1.1 d.2.2.1.1 d.2.2.1.2.1 d.2.2.1.2.2.1 d.2.2.1.2.2.2.1 : Option slices_stableCmpFunc_int_v0.R)⟩
  | _ => none
noncomputable def slices_stableCmpFunc_int_v0.fd : FnD := ⟨Try.f52, slices_stableCmpFunc_int_v0.ini, slices_stableCmpFunc_int_v0.out, 0, [1000000, 1000001], [1000000, 1000001], slices_stableCmpFunc_int_v0.labF, fun k (d : (List Int × Int × Unit × Unit) × (((List (ByteArray × Int × List (ByteArray × (Int × Bool × Int × Int × ByteArray × Unit) × Unit) × Unit)) × Unit) × ((List (ByteArray × (Int × Bool × Int × Int × ByteArray × Unit) × (Int × Bool × Int × Int × ByteArray × Unit) × Bool × Bool × Bool × Unit)) × ByteArray × Bool × Int × Unit) × Unit)) => (slices_stableCmpFunc_int_v0.f k d.1.1 d.1.2.1 d.2.1.1 d.2.2.1.1 d.2.2.1.2.1 d.2.2.1.2.2.1 d.2.2.1.2.2.2.1 : Option slices_stableCmpFunc_int_v0.R)⟩

/-! ### slices_SortStableFunc__int_int_v0 : function 34 -/
abbrev slices_SortStableFunc__int_int_v0.R := (List Int × Unit) × (Unit)
noncomputable def slices_SortStableFunc__int_int_v0.f : Nat → (List Int) → (List (ByteArray × Int × List (ByteArray × (Int × Bool × Int × Int × ByteArray × Unit) × Unit) × Unit)) → (List (ByteArray × (Int × Bool × Int × Int × ByteArray × Unit) × (Int × Bool × Int × Int × ByteArray × Unit) × Bool × Bool × Bool × Unit)) → ByteArray → Bool → Int → Option slices_SortStableFunc__int_int_v0.R
  | 0, _, _, _, _, _, _ => none
  | k + 1, x0, o0_0, o1_0, o1_1, o1_2, o1_3 =>
    (slices_stableCmpFunc_int_v0.f k x0 (x0.length : Int) o0_0 o1_0 o1_1 o1_2 o1_3).bind fun r1 =>
    some ((r1.1.1, ()), (()))
abbrev slices_SortStableFunc__int_int_v0.ini : LSh := ⟨[(0, .own 3900000 3 (.mu (.int .i64))), (1, .clo 35 [(1000000, 0), (1000001, 0)])], [(1000000, 40, [.val (.sl (.cons .str (.cons (.int .i64) (.cons (.sl (.cons .str (.cons (.cons (.int .i64) (.cons .bool (.cons (.int .i64) (.cons (.int .u64) (.cons .str .nil))))) .nil))) .nil))))]), (1000001, 24, [.val (.sl (.cons .str (.cons (.cons (.int .i64) (.cons .bool (.cons (.int .i64) (.cons (.int .u64) (.cons .str .nil))))) (.cons (.cons (.int .i64) (.cons .bool (.cons (.int .i64) (.cons (.int .u64) (.cons .str .nil))))) (.cons .bool (.cons .bool (.cons .bool .nil))))))), .val .str, .val .bool, .val (.int .i64)])]⟩
abbrev slices_SortStableFunc__int_int_v0.out : LSh := ⟨[(0, .own 3900000 3 (.mu (.int .i64)))], []⟩
noncomputable def slices_SortStableFunc__int_int_v0.labF : Nat → Option (LabF slices_SortStableFunc__int_int_v0.out.den)
  | _ => none
noncomputable def slices_SortStableFunc__int_int_v0.fd : FnD := ⟨Try.f34, slices_SortStableFunc__int_int_v0.ini, slices_SortStableFunc__int_int_v0.out, 0, [1000000, 1000001], [1000000, 1000001], slices_SortStableFunc__int_int_v0.labF, fun k (d : (List Int × Unit × Unit) × (((List (ByteArray × Int × List (ByteArray × (Int × Bool × Int × Int × ByteArray × Unit) × Unit) × Unit)) × Unit) × ((List (ByteArray × (Int × Bool × Int × Int × ByteArray × Unit) × (Int × Bool × Int × Int × ByteArray × Unit) × Bool × Bool × Bool × Unit)) × ByteArray × Bool × Int × Unit) × Unit)) => (slices_SortStableFunc__int_int_v0.f k d.1.1 d.2.1.1 d.2.2.1.1 d.2.2.1.2.1 d.2.2.1.2.2.1 d.2.2.1.2.2.2.1 : Option slices_SortStableFunc__int_int_v0.R)⟩

/-! ### find_Run : function 16 -/
abbrev find_Run.R := (List Int × Int × Unit) × (Unit)
mutual
noncomputable def find_Run.l0 : Nat → (List Int) → (List (ByteArray × Int × List (ByteArray × (Int × Bool × Int × Int × ByteArray × Unit) × Unit) × Unit)) → Int → Int → (List (ByteArray × (Int × Bool × Int × Int × ByteArray × Unit) × (Int × Bool × Int × Int × ByteArray × Unit) × Bool × Bool × Bool × Unit)) → ByteArray → Bool → Int → (List (ByteArray × Int × List (ByteArray × (Int × Bool × Int × Int × ByteArray × Unit) × Unit) × Unit)) → Option find_Run.R
  | 0, _, _, _, _, _, _, _, _, _ => none
  | k + 1, x7, x17, x18, x19, o2_0, o2_1, o2_2, o2_3, o3_0 =>
    bif decide ((x19 : Int) < x18) then
      (rdo x17 x19).bind fun t2 =>
      find_Run.l1 k x7 x19 x17 x18 x19 o2_0 (o2_0.length : Int) 0 o2_0 o2_1 o2_2 o2_3 o3_0 t2.1 t2.2.1 t2.2.2.1
    else
    bif !(o2_1.toList == (⟨#[]⟩ : ByteArray).toList) then
      (slices_SortStableFunc__int_int_v0.f k x7 o3_0 o2_0 o2_1 o2_2 o2_3).bind fun r3 =>
      find_Run.j0 k r3.1.1 o2_0 o2_1 o2_2 o2_3
    else
      find_Run.j0 k x7 o2_0 o2_1 o2_2 o2_3
noncomputable def find_Run.l1 : Nat → (List Int) → Int → (List (ByteArray × Int × List (ByteArray × (Int × Bool × Int × Int × ByteArray × Unit) × Unit) × Unit)) → Int → Int → (List (ByteArray × (Int × Bool × Int × Int × ByteArray × Unit) × (Int × Bool × Int × Int × ByteArray × Unit) × Bool × Bool × Bool × Unit)) → Int → Int → (List (ByteArray × (Int × Bool × Int × Int × ByteArray × Unit) × (Int × Bool × Int × Int × ByteArray × Unit) × Bool × Bool × Bool × Unit)) → ByteArray → Bool → Int → (List (ByteArray × Int × List (ByteArray × (Int × Bool × Int × Int × ByteArray × Unit) × Unit) × Unit)) → ByteArray → Int → (List (ByteArray × (Int × Bool × Int × Int × ByteArray × Unit) × Unit)) → Option find_Run.R
  | 0, _, _, _, _, _, _, _, _, _, _, _, _, _, _, _, _ => none
  | k + 1, x7, x8, x17, x18, x19, x25, x26, x27, o2_0, o2_1, o2_2, o2_3, o3_0, o9_0, o9_1, o9_2 =>
    bif decide ((x27 : Int) < x26) then
      (rdo x25 x27).bind fun t4 =>
      (find_Holds.f k (t4.1, ((t4.2.1.1, (t4.2.1.2.1, (t4.2.1.2.2.1, (t4.2.1.2.2.2.1, (t4.2.1.2.2.2.2.1, ()))))), ((t4.2.2.1.1, (t4.2.2.1.2.1, (t4.2.2.1.2.2.1, (t4.2.2.1.2.2.2.1, (t4.2.2.1.2.2.2.2.1, ()))))), (t4.2.2.2.1, (t4.2.2.2.2.1, (t4.2.2.2.2.2.1, ())))))) (o9_0, (o9_1, (o9_2, ())))).bind fun r5 =>
      bif !r5.1.1 then
        find_Run.l0 k x7 x17 x18 (IntKind.wrap .i64 (x19 + 1)) o2_0 o2_1 o2_2 o2_3 o3_0
      else
        find_Run.l1 k x7 x8 x17 x18 x19 x25 x26 (IntKind.wrap .i64 (x27 + 1)) o2_0 o2_1 o2_2 o2_3 o3_0 o9_0 o9_1 o9_2
    else
      (ck (decide ((x7.length + ([x8] : List Int).length) * 8 ≤ 70368744177664))).bind fun _ =>
      find_Run.l0 k (x7 ++ ([x8] : List Int)) x17 x18 (IntKind.wrap .i64 (x19 + 1)) o2_0 o2_1 o2_2 o2_3 o3_0
noncomputable def find_Run.j0 : Nat → (List Int) → (List (ByteArray × (Int × Bool × Int × Int × ByteArray × Unit) × (Int × Bool × Int × Int × ByteArray × Unit) × Bool × Bool × Bool × Unit)) → ByteArray → Bool → Int → Option find_Run.R
  | 0, _, _, _, _, _ => none
  | k + 1, x7, o2_0, o2_1, o2_2, o2_3 =>
    (ck (decide (0 ≤ 0) && decide (0 ≤ (bif decide ((o2_3 : Int) < (x7.length : Int)) then o2_3 else (x7.length : Int))) && decide ((bif decide ((o2_3 : Int) < (x7.length : Int)) then o2_3 else (x7.length : Int)) ≤ (x7.length : Int)))).bind fun _ =>
    some (((x7.drop (0 : Int).toNat).take ((bif decide ((o2_3 : Int) < (x7.length : Int)) then o2_3 else (x7.length : Int)) - 0 : Int).toNat, 0, ()), (()))
noncomputable def find_Run.f : Nat → (List (ByteArray × (Int × Bool × Int × Int × ByteArray × Unit) × (Int × Bool × Int × Int × ByteArray × Unit) × Bool × Bool × Bool × Unit) × ByteArray × Bool × Int × Unit) → (List (ByteArray × Int × List (ByteArray × (Int × Bool × Int × Int × ByteArray × Unit) × Unit) × Unit)) → Option find_Run.R
  | 0, _, _ => none
  | k + 1, x0, x1 =>
    (find_Check.f k (x0.1, (x0.2.1, (x0.2.2.1, (x0.2.2.2.1, ()))))).bind fun r1 =>
    bif (r1.1.1 : Int) != 0 then
      some ((([] : List Int), r1.1.1, ()), (()))
    else
      find_Run.l0 k [] x1 (x1.length : Int) 0 x0.1 x0.2.1 x0.2.2.1 x0.2.2.2.1 x1
end
abbrev find_Run.ini : LSh := ⟨[(0, .val (.cons (.sl (.cons .str (.cons (.cons (.int .i64) (.cons .bool (.cons (.int .i64) (.cons (.int .u64) (.cons .str .nil))))) (.cons (.cons (.int .i64) (.cons .bool (.cons (.int .i64) (.cons (.int .u64) (.cons .str .nil))))) (.cons .bool (.cons .bool (.cons .bool .nil))))))) (.cons .str (.cons .bool (.cons (.int .i64) .nil))))), (1, .val (.sl (.cons .str (.cons (.int .i64) (.cons (.sl (.cons .str (.cons (.cons (.int .i64) (.cons .bool (.cons (.int .i64) (.cons (.int .u64) (.cons .str .nil))))) .nil))) .nil)))))], []⟩
abbrev find_Run.out : LSh := ⟨[(0, .val (.sl (.int .i64))), (1, .val (.int .i64))], []⟩
abbrev find_Run.l0s : LSh := ⟨[(2, .ptr 2 0), (3, .ptr 3 0), (7, .own 2000007 3 (.mu (.int .i64))), (17, .val (.sl (.cons .str (.cons (.int .i64) (.cons (.sl (.cons .str (.cons (.cons (.int .i64) (.cons .bool (.cons (.int .i64) (.cons (.int .u64) (.cons .str .nil))))) .nil))) .nil))))), (18, .val (.int .i64)), (19, .val (.int .i64))], [(2, 24, [.val (.sl (.cons .str (.cons (.cons (.int .i64) (.cons .bool (.cons (.int .i64) (.cons (.int .u64) (.cons .str .nil))))) (.cons (.cons (.int .i64) (.cons .bool (.cons (.int .i64) (.cons (.int .u64) (.cons .str .nil))))) (.cons .bool (.cons .bool (.cons .bool .nil))))))), .val .str, .val .bool, .val (.int .i64)]), (3, 40, [.val (.sl (.cons .str (.cons (.int .i64) (.cons (.sl (.cons .str (.cons (.cons (.int .i64) (.cons .bool (.cons (.int .i64) (.cons (.int .u64) (.cons .str .nil))))) .nil))) .nil))))])]⟩
abbrev find_Run.l1s : LSh := ⟨[(2, .ptr 2 0), (3, .ptr 3 0), (7, .own 2000007 3 (.mu (.int .i64))), (8, .val (.int .i64)), (9, .ptr 9 0), (17, .val (.sl (.cons .str (.cons (.int .i64) (.cons (.sl (.cons .str (.cons (.cons (.int .i64) (.cons .bool (.cons (.int .i64) (.cons (.int .u64) (.cons .str .nil))))) .nil))) .nil))))), (18, .val (.int .i64)), (19, .val (.int .i64)), (25, .val (.sl (.cons .str (.cons (.cons (.int .i64) (.cons .bool (.cons (.int .i64) (.cons (.int .u64) (.cons .str .nil))))) (.cons (.cons (.int .i64) (.cons .bool (.cons (.int .i64) (.cons (.int .u64) (.cons .str .nil))))) (.cons .bool (.cons .bool (.cons .bool .nil)))))))), (26, .val (.int .i64)), (27, .val (.int .i64))], [(2, 24, [.val (.sl (.cons .str (.cons (.cons (.int .i64) (.cons .bool (.cons (.int .i64) (.cons (.int .u64) (.cons .str .nil))))) (.cons (.cons (.int .i64) (.cons .bool (.cons (.int .i64) (.cons (.int .u64) (.cons .str .nil))))) (.cons .bool (.cons .bool (.cons .bool .nil))))))), .val .str, .val .bool, .val (.int .i64)]), (3, 40, [.val (.sl (.cons .str (.cons (.int .i64) (.cons (.sl (.cons .str (.cons (.cons (.int .i64) (.cons .bool (.cons (.int .i64) (.cons (.int .u64) (.cons .str .nil))))) .nil))) .nil))))]), (9, 27, [.val .str, .val (.int .i64), .val (.sl (.cons .str (.cons (.cons (.int .i64) (.cons .bool (.cons (.int .i64) (.cons (.int .u64) (.cons .str .nil))))) .nil)))])]⟩
abbrev find_Run.j0s : LSh := ⟨[(2, .ptr 2 0), (7, .own 2000007 3 (.mu (.int .i64)))], [(2, 24, [.val (.sl (.cons .str (.cons (.cons (.int .i64) (.cons .bool (.cons (.int .i64) (.cons (.int .u64) (.cons .str .nil))))) (.cons (.cons (.int .i64) (.cons .bool (.cons (.int .i64) (.cons (.int .u64) (.cons .str .nil))))) (.cons .bool (.cons .bool (.cons .bool .nil))))))), .val .str, .val .bool, .val (.int .i64)])]⟩
noncomputable def find_Run.labF : Nat → Option (LabF find_Run.out.den)
  | 12 => some ⟨find_Run.l0s, fun k (d : (Unit × Unit × List Int × (List (ByteArray × Int × List (ByteArray × (Int × Bool × Int × Int × ByteArray × Unit) × Unit) × Unit)) × Int × Int × Unit) × (((List (ByteArray × (Int × Bool × Int × Int × ByteArray × Unit) × (Int × Bool × Int × Int × ByteArray × Unit) × Bool × Bool × Bool × Unit)) × ByteArray × Bool × Int × Unit) × ((List (ByteArray × Int × List (ByteArray × (Int × Bool × Int × Int × ByteArray × Unit) × Unit) × Unit)) × Unit) × Unit)) => (find_Run.l0 k d.1.2.2.1 d.1.2.2.2.1 d.1.2.2.2.2.1 d.1.2.2.2.2.2.1 d.2.1.1 d.2.1.2.1 d.2.1.2.2.1 d.2.1.2.2.2.1 d.2.2.1.1 : Option find_Run.R)⟩
  | 18 => some ⟨find_Run.l1s, fun k (d : (Unit × Unit × List Int × Int × Unit × (List (ByteArray × Int × List (ByteArray × (Int × Bool × Int × Int × ByteArray × Unit) × Unit) × Unit)) × Int × Int × (List (ByteArray × (Int × Bool × Int × Int × ByteArray × Unit) × (Int × Bool × Int × Int × ByteArray × Unit) × Bool × Bool × Bool × Unit)) × Int × Int × Unit) × (((List (ByteArray × (Int × Bool × Int × Int × ByteArray × Unit) × (Int × Bool × Int × Int × ByteArray × Unit) × Bool × Bool × Bool × Unit)) × ByteArray × Bool × Int × Unit) × ((List (ByteArray × Int × List (ByteArray × (Int × Bool × Int × Int × ByteArray × Unit) × Unit) × Unit)) × Unit) × (ByteArray × Int × (List (ByteArray × (Int × Bool × Int × Int × ByteArray × Unit) × Unit)) × Unit) × Unit)) => (find_Run.l1 k d.1.2.2.1 d.1.2.2.2.1 d.1.2.2.2.2.2.1 d.1.2.2.2.2.2.2.1 d.1.2.2.2.2.2.2.2.1 d.1.2.2.2.2.2.2.2.2.1 d.1.2.2.2.2.2.2.2.2.2.1 d.1.2.2.2.2.2.2.2.2.2.2.1 d.2.1.1 d.2.1.2.1 d.2.1.2.2.1 d.2.1.2.2.2.1 d.2.2.1.1 d.2.2.2.1.1 d.2.2.2.1.2.1 d.2.2.2.1.2.2.1 : Option find_Run.R)⟩
  | 35 => some ⟨find_Run.j0s, fun k (d : (Unit × List Int × Unit) × (((List (ByteArray × (Int × Bool × Int × Int × ByteArray × Unit) × (Int × Bool × Int × Int × ByteArray × Unit) × Bool × Bool × Bool × Unit)) × ByteArray × Bool × Int × Unit) × Unit)) => (find_Run.j0 k d.1.2.1 d.2.1.1 d.2.1.2.1 d.2.1.2.2.1 d.2.1.2.2.2.1 : Option find_Run.R)⟩
  | _ => none
noncomputable def find_Run.fd : FnD := ⟨Try.f16, find_Run.ini, find_Run.out, 2, [], [], find_Run.labF, fun k (d : ((List (ByteArray × (Int × Bool × Int × Int × ByteArray × Unit) × (Int × Bool × Int × Int × ByteArray × Unit) × Bool × Bool × Bool × Unit) × ByteArray × Bool × Int × Unit) × (List (ByteArray × Int × List (ByteArray × (Int × Bool × Int × Int × ByteArray × Unit) × Unit) × Unit)) × Unit) × (Unit)) => (find_Run.f k d.1.1 d.1.2.1 : Option find_Run.R)⟩

/-! ### chartularylaw17_whole : function 33 -/
abbrev chartularylaw17_whole.R := ((ByteArray × Int × List (ByteArray × (Int × Bool × Int × Int × ByteArray × Unit) × Unit) × Unit) × Unit) × (Unit)
noncomputable def chartularylaw17_whole.f : Nat → Int → Option chartularylaw17_whole.R
  | 0, _ => none
  | k + 1, x0 =>
    some ((((⟨#[112]⟩ : ByteArray), (0, (([((⟨#[97, 109, 111, 117, 110, 116]⟩ : ByteArray), ((2, (false, (x0, (0, (ByteArray.empty, ()))))), ()))] : List (ByteArray × (Int × Bool × Int × Int × ByteArray × Unit) × Unit)), ()))), ()), (()))
abbrev chartularylaw17_whole.ini : LSh := ⟨[(0, .val (.int .i64))], []⟩
abbrev chartularylaw17_whole.out : LSh := ⟨[(0, .val (.cons .str (.cons (.int .i64) (.cons (.sl (.cons .str (.cons (.cons (.int .i64) (.cons .bool (.cons (.int .i64) (.cons (.int .u64) (.cons .str .nil))))) .nil))) .nil))))], []⟩
noncomputable def chartularylaw17_whole.labF : Nat → Option (LabF chartularylaw17_whole.out.den)
  | _ => none
noncomputable def chartularylaw17_whole.fd : FnD := ⟨Try.f33, chartularylaw17_whole.ini, chartularylaw17_whole.out, 1, [], [], chartularylaw17_whole.labF, fun k (d : (Int × Unit) × (Unit)) => (chartularylaw17_whole.f k d.1.1 : Option chartularylaw17_whole.R)⟩

/-! ### chartularylaw17_awake : function 14 -/
abbrev chartularylaw17_awake.R := (Bool × Unit) × (Unit)
noncomputable def chartularylaw17_awake.f : Nat → Option chartularylaw17_awake.R
  | 0 => none
  | k + 1 =>
    (chartularylaw17_whole.f k 1).bind fun r1 =>
    (chartularylaw17_whole.f k 2).bind fun r2 =>
    (chartularylaw17_whole.f k 3).bind fun r3 =>
    (find_Run.f k (([((⟨#[97, 109, 111, 117, 110, 116]⟩ : ByteArray), ((2, (false, (2, (0, (ByteArray.empty, ()))))), ((0, (false, (0, (0, (ByteArray.empty, ()))))), (true, (false, (false, ()))))))] : List (ByteArray × (Int × Bool × Int × Int × ByteArray × Unit) × (Int × Bool × Int × Int × ByteArray × Unit) × Bool × Bool × Bool × Unit)), (ByteArray.empty, (false, (9, ())))) ([(r1.1.1.1, (r1.1.1.2.1, (r1.1.1.2.2.1, ()))), (r2.1.1.1, (r2.1.1.2.1, (r2.1.1.2.2.1, ()))), (r3.1.1.1, (r3.1.1.2.1, (r3.1.1.2.2.1, ())))] : List (ByteArray × Int × List (ByteArray × (Int × Bool × Int × Int × ByteArray × Unit) × Unit) × Unit))).bind fun r4 =>
    bif (r4.1.2.1 : Int) == 0 then
      bif ((r4.1.1.length : Int) : Int) == 2 then
        (rdo r4.1.1 0).bind fun t5 =>
        bif (t5 : Int) == 1 then
          (rdo r4.1.1 1).bind fun t6 =>
          some (((t6 : Int) == 2, ()), (()))
        else
          some ((false, ()), (()))
      else
        some ((false, ()), (()))
    else
      some ((false, ()), (()))
abbrev chartularylaw17_awake.ini : LSh := ⟨[], []⟩
abbrev chartularylaw17_awake.out : LSh := ⟨[(0, .val .bool)], []⟩
noncomputable def chartularylaw17_awake.labF : Nat → Option (LabF chartularylaw17_awake.out.den)
  | _ => none
noncomputable def chartularylaw17_awake.fd : FnD := ⟨Try.f14, chartularylaw17_awake.ini, chartularylaw17_awake.out, 1, [], [], chartularylaw17_awake.labF, fun k (d : (Unit) × (Unit)) => (chartularylaw17_awake.f k : Option chartularylaw17_awake.R)⟩

/-! ### value_Float : function 40 -/
abbrev value_Float.R := (Nat × Bool × Unit) × (Unit)
noncomputable def value_Float.f : Nat → (Int × Bool × Int × Int × ByteArray × Unit) → Option value_Float.R
  | 0, _ => none
  | k + 1, x0 =>
    bif (x0.1 : Int) != 3 then
      some ((0, false, ()), (()))
    else
      (value_Right.f k (x0.1, (x0.2.1, (x0.2.2.1, (x0.2.2.2.1, (x0.2.2.2.2.1, ())))))).bind fun r1 =>
      bif !r1.1.1 then
        some ((0, false, ()), (()))
      else
        (f64from.f k x0.2.2.2.1).bind fun r2 =>
        some ((r2.1.1, true, ()), (()))
abbrev value_Float.ini : LSh := ⟨[(0, .val (.cons (.int .i64) (.cons .bool (.cons (.int .i64) (.cons (.int .u64) (.cons .str .nil))))))], []⟩
abbrev value_Float.out : LSh := ⟨[(0, .val .flt), (1, .val .bool)], []⟩
noncomputable def value_Float.labF : Nat → Option (LabF value_Float.out.den)
  | _ => none
noncomputable def value_Float.fd : FnD := ⟨Try.f40, value_Float.ini, value_Float.out, 2, [], [], value_Float.labF, fun k (d : ((Int × Bool × Int × Int × ByteArray × Unit) × Unit) × (Unit)) => (value_Float.f k d.1.1 : Option value_Float.R)⟩

/-! ### value_Of : function 41 -/
abbrev value_Of.R := ((Int × Bool × Int × Int × ByteArray × Unit) × Unit) × (Unit)
noncomputable def value_Of.f : Nat → Nat → Option value_Of.R
  | 0, _ => none
  | k + 1, x0 =>
    bif !feq x0 x0 then
      some (((3, (false, (0, (9221120237041090561, (ByteArray.empty, ()))))), ()), (()))
    else
      (f64bits.f k x0).bind fun r1 =>
      some (((3, (false, (0, (r1.1.1, (ByteArray.empty, ()))))), ()), (()))
abbrev value_Of.ini : LSh := ⟨[(0, .val .flt)], []⟩
abbrev value_Of.out : LSh := ⟨[(0, .val (.cons (.int .i64) (.cons .bool (.cons (.int .i64) (.cons (.int .u64) (.cons .str .nil))))))], []⟩
noncomputable def value_Of.labF : Nat → Option (LabF value_Of.out.den)
  | _ => none
noncomputable def value_Of.fd : FnD := ⟨Try.f41, value_Of.ini, value_Of.out, 1, [], [], value_Of.labF, fun k (d : (Nat × Unit) × (Unit)) => (value_Of.f k d.1.1 : Option value_Of.R)⟩

/-! ### find_Mean : function 21 -/
abbrev find_Mean.R := ((Int × Bool × Int × Int × ByteArray × Unit) × Bool × Unit) × (Unit)
mutual
noncomputable def find_Mean.l0 : Nat → ByteArray → Int → Nat → (List (ByteArray × Int × List (ByteArray × (Int × Bool × Int × Int × ByteArray × Unit) × Unit) × Unit)) → Int → Int → Int → Bool → Int → Int → ByteArray → Option find_Mean.R
  | 0, _, _, _, _, _, _, _, _, _, _, _ => none
  | k + 1, x0, x6, x7, x14, x15, x16, o4_0, o4_1, o4_2, o4_3, o4_4 =>
    bif decide ((x16 : Int) < x15) then
      (rdo x14 x16).bind fun t1 =>
      (find_by.f k (t1.1, (t1.2.1, (t1.2.2.1, ()))) x0).bind fun r2 =>
      (value_Float.f k (r2.1.1.1, (r2.1.1.2.1, (r2.1.1.2.2.1, (r2.1.1.2.2.2.1, (r2.1.1.2.2.2.2.1, ())))))).bind fun r3 =>
      bif !r3.1.2.1 then
        find_Mean.l0 k x0 x6 x7 x14 x15 (IntKind.wrap .i64 (x16 + 1)) o4_0 o4_1 o4_2 o4_3 o4_4
      else
        find_Mean.l0 k x0 (IntKind.wrap .i64 (x6 + 1)) (fadd x7 r3.1.1) x14 x15 (IntKind.wrap .i64 (x16 + 1)) o4_0 o4_1 o4_2 o4_3 o4_4
    else
    bif (x6 : Int) == 0 then
      some (((0, (false, (0, (0, (ByteArray.empty, ()))))), false, ()), (()))
    else
      (value_Of.f k (fdiv x7 (fofi x6))).bind fun r4 =>
      some (((r4.1.1.1, (r4.1.1.2.1, (r4.1.1.2.2.1, (r4.1.1.2.2.2.1, (r4.1.1.2.2.2.2.1, ()))))), true, ()), (()))
noncomputable def find_Mean.f : Nat → ByteArray → (List (ByteArray × Int × List (ByteArray × (Int × Bool × Int × Int × ByteArray × Unit) × Unit) × Unit)) → Option find_Mean.R
  | 0, _, _ => none
  | k + 1, x0, x1 =>
    find_Mean.l0 k x0 0 0 x1 (x1.length : Int) 0 0 false 0 0 ByteArray.empty
end
abbrev find_Mean.ini : LSh := ⟨[(0, .val .str), (1, .val (.sl (.cons .str (.cons (.int .i64) (.cons (.sl (.cons .str (.cons (.cons (.int .i64) (.cons .bool (.cons (.int .i64) (.cons (.int .u64) (.cons .str .nil))))) .nil))) .nil)))))], []⟩
abbrev find_Mean.out : LSh := ⟨[(0, .val (.cons (.int .i64) (.cons .bool (.cons (.int .i64) (.cons (.int .u64) (.cons .str .nil)))))), (1, .val .bool)], []⟩
abbrev find_Mean.l0s : LSh := ⟨[(0, .val .str), (4, .ptr 4 0), (6, .val (.int .i64)), (7, .val .flt), (14, .val (.sl (.cons .str (.cons (.int .i64) (.cons (.sl (.cons .str (.cons (.cons (.int .i64) (.cons .bool (.cons (.int .i64) (.cons (.int .u64) (.cons .str .nil))))) .nil))) .nil))))), (15, .val (.int .i64)), (16, .val (.int .i64))], [(4, 35, [.val (.int .i64), .val .bool, .val (.int .i64), .val (.int .u64), .val .str])]⟩
noncomputable def find_Mean.labF : Nat → Option (LabF find_Mean.out.den)
  | 6 => some ⟨find_Mean.l0s, fun k (d : (ByteArray × Unit × Int × Nat × (List (ByteArray × Int × List (ByteArray × (Int × Bool × Int × Int × ByteArray × Unit) × Unit) × Unit)) × Int × Int × Unit) × ((Int × Bool × Int × Int × ByteArray × Unit) × Unit)) => (find_Mean.l0 k d.1.1 d.1.2.2.1 d.1.2.2.2.1 d.1.2.2.2.2.1 d.1.2.2.2.2.2.1 d.1.2.2.2.2.2.2.1 d.2.1.1 d.2.1.2.1 d.2.1.2.2.1 d.2.1.2.2.2.1 d.2.1.2.2.2.2.1 : Option find_Mean.R)⟩
  | _ => none
noncomputable def find_Mean.fd : FnD := ⟨Try.f21, find_Mean.ini, find_Mean.out, 2, [], [], find_Mean.labF, fun k (d : (ByteArray × (List (ByteArray × Int × List (ByteArray × (Int × Bool × Int × Int × ByteArray × Unit) × Unit) × Unit)) × Unit) × (Unit)) => (find_Mean.f k d.1.1 d.1.2.1 : Option find_Mean.R)⟩

/-! ### chartularylaw17_small : function 23 -/
abbrev chartularylaw17_small.R := (Bool × Unit) × (Unit)
mutual
noncomputable def chartularylaw17_small.l0 : Nat → (List Int) → Int → Option chartularylaw17_small.R
  | 0, _, _ => none
  | k + 1, x0, x3 =>
    bif decide ((x3 : Int) < (x0.length : Int)) then
      bif decide ((x3 : Int) < 30) then
        (rdo x0 x3).bind fun t1 =>
        (ck (!decide ((52 : Int) < 0))).bind fun _ =>
        bif decide ((IntKind.wrap .u64 ((BitVec.ofInt (IntKind.bits .u64) (Int.fdiv t1 (2 ^ (min (52 : Int).toNat (IntKind.bits .u64)))) &&& BitVec.ofInt (IntKind.bits .u64) 2047).toNat : Int) : Int) > 2000) then
          bif decide ((IntKind.wrap .u64 ((BitVec.ofInt (IntKind.bits .u64) (Int.fdiv t1 (2 ^ (min (52 : Int).toNat (IntKind.bits .u64)))) &&& BitVec.ofInt (IntKind.bits .u64) 2047).toNat : Int) : Int) < 2047) then
            some ((false, ()), (()))
          else
            chartularylaw17_small.l0 k x0 (IntKind.wrap .i64 (x3 + 1))
        else
          chartularylaw17_small.l0 k x0 (IntKind.wrap .i64 (x3 + 1))
      else
        some ((true, ()), (()))
    else
      some ((true, ()), (()))
noncomputable def chartularylaw17_small.f : Nat → (List Int) → Option chartularylaw17_small.R
  | 0, _ => none
  | k + 1, x0 =>
    chartularylaw17_small.l0 k x0 0
end
abbrev chartularylaw17_small.ini : LSh := ⟨[(0, .val (.sl (.int .u64)))], []⟩
abbrev chartularylaw17_small.out : LSh := ⟨[(0, .val .bool)], []⟩
abbrev chartularylaw17_small.l0s : LSh := ⟨[(0, .val (.sl (.int .u64))), (3, .val (.int .i64))], []⟩
noncomputable def chartularylaw17_small.labF : Nat → Option (LabF chartularylaw17_small.out.den)
  | 4 => some ⟨chartularylaw17_small.l0s, fun k (d : (List Int × Int × Unit) × (Unit)) => (chartularylaw17_small.l0 k d.1.1 d.1.2.1 : Option chartularylaw17_small.R)⟩
  | _ => none
noncomputable def chartularylaw17_small.fd : FnD := ⟨Try.f23, chartularylaw17_small.ini, chartularylaw17_small.out, 1, [], [], chartularylaw17_small.labF, fun k (d : (List Int × Unit) × (Unit)) => (chartularylaw17_small.f k d.1.1 : Option chartularylaw17_small.R)⟩

/-! ### chartularylaw17_FindMeans : function 6 -/
abbrev chartularylaw17_FindMeans.R := (Bool × Unit) × (Unit)
mutual
noncomputable def chartularylaw17_FindMeans.l0 : Nat → (List Int) → (List (ByteArray × Int × List (ByteArray × (Int × Bool × Int × Int × ByteArray × Unit) × Unit) × Unit)) → Bool → Bool → Bool → Bool → Int → Option chartularylaw17_FindMeans.R
  | 0, _, _, _, _, _, _, _ => none
  | k + 1, x0, x3, x4, x5, x6, x7, x8 =>
    bif decide ((x8 : Int) < (x0.length : Int)) then
      bif decide ((x8 : Int) < 30) then
        (rdo x0 x8).bind fun t1 =>
        (value_Clean.f k (3, (false, (0, (t1, (ByteArray.empty, ())))))).bind fun r2 =>
        (ck (decide ((x3.length + ([((⟨#[112]⟩ : ByteArray), (0, (([((⟨#[120]⟩ : ByteArray), ((r2.1.1.1, (r2.1.1.2.1, (r2.1.1.2.2.1, (r2.1.1.2.2.2.1, (r2.1.1.2.2.2.2.1, ()))))), ()))] : List (ByteArray × (Int × Bool × Int × Int × ByteArray × Unit) × Unit)), ())))] : List (ByteArray × Int × List (ByteArray × (Int × Bool × Int × Int × ByteArray × Unit) × Unit) × Unit)).length) * 48 ≤ 70368744177664))).bind fun _ =>
        bif x4 then
          bif x5 then
            bif x6 then
              bif x7 then
                (rdo x0 x8).bind fun t3 =>
                (ck (!decide ((1 : Int) < 0))).bind fun _ =>
                chartularylaw17_FindMeans.l0 k x0 (x3 ++ ([((⟨#[112]⟩ : ByteArray), (0, (([((⟨#[120]⟩ : ByteArray), ((r2.1.1.1, (r2.1.1.2.1, (r2.1.1.2.2.1, (r2.1.1.2.2.2.1, (r2.1.1.2.2.2.2.1, ()))))), ()))] : List (ByteArray × (Int × Bool × Int × Int × ByteArray × Unit) × Unit)), ())))] : List (ByteArray × Int × List (ByteArray × (Int × Bool × Int × Int × ByteArray × Unit) × Unit) × Unit))) true true true ((IntKind.wrap .u64 (t3 * 2 ^ (min (1 : Int).toNat (IntKind.bits .u64))) : Int) == 0) (IntKind.wrap .i64 (x8 + 1))
              else
                chartularylaw17_FindMeans.l0 k x0 (x3 ++ ([((⟨#[112]⟩ : ByteArray), (0, (([((⟨#[120]⟩ : ByteArray), ((r2.1.1.1, (r2.1.1.2.1, (r2.1.1.2.2.1, (r2.1.1.2.2.2.1, (r2.1.1.2.2.2.2.1, ()))))), ()))] : List (ByteArray × (Int × Bool × Int × Int × ByteArray × Unit) × Unit)), ())))] : List (ByteArray × Int × List (ByteArray × (Int × Bool × Int × Int × ByteArray × Unit) × Unit) × Unit))) true true true false (IntKind.wrap .i64 (x8 + 1))
            else
              (rdo x0 x8).bind fun t4 =>
              bif x7 then
                (rdo x0 x8).bind fun t5 =>
                (ck (!decide ((1 : Int) < 0))).bind fun _ =>
                chartularylaw17_FindMeans.l0 k x0 (x3 ++ ([((⟨#[112]⟩ : ByteArray), (0, (([((⟨#[120]⟩ : ByteArray), ((r2.1.1.1, (r2.1.1.2.1, (r2.1.1.2.2.1, (r2.1.1.2.2.2.1, (r2.1.1.2.2.2.2.1, ()))))), ()))] : List (ByteArray × (Int × Bool × Int × Int × ByteArray × Unit) × Unit)), ())))] : List (ByteArray × Int × List (ByteArray × (Int × Bool × Int × Int × ByteArray × Unit) × Unit) × Unit))) true true ((t4 : Int) == 18442240474082181120) ((IntKind.wrap .u64 (t5 * 2 ^ (min (1 : Int).toNat (IntKind.bits .u64))) : Int) == 0) (IntKind.wrap .i64 (x8 + 1))
              else
                chartularylaw17_FindMeans.l0 k x0 (x3 ++ ([((⟨#[112]⟩ : ByteArray), (0, (([((⟨#[120]⟩ : ByteArray), ((r2.1.1.1, (r2.1.1.2.1, (r2.1.1.2.2.1, (r2.1.1.2.2.2.1, (r2.1.1.2.2.2.2.1, ()))))), ()))] : List (ByteArray × (Int × Bool × Int × Int × ByteArray × Unit) × Unit)), ())))] : List (ByteArray × Int × List (ByteArray × (Int × Bool × Int × Int × ByteArray × Unit) × Unit) × Unit))) true true ((t4 : Int) == 18442240474082181120) false (IntKind.wrap .i64 (x8 + 1))
          else
            (rdo x0 x8).bind fun t6 =>
            bif x6 then
              bif x7 then
                (rdo x0 x8).bind fun t7 =>
                (ck (!decide ((1 : Int) < 0))).bind fun _ =>
                chartularylaw17_FindMeans.l0 k x0 (x3 ++ ([((⟨#[112]⟩ : ByteArray), (0, (([((⟨#[120]⟩ : ByteArray), ((r2.1.1.1, (r2.1.1.2.1, (r2.1.1.2.2.1, (r2.1.1.2.2.2.1, (r2.1.1.2.2.2.2.1, ()))))), ()))] : List (ByteArray × (Int × Bool × Int × Int × ByteArray × Unit) × Unit)), ())))] : List (ByteArray × Int × List (ByteArray × (Int × Bool × Int × Int × ByteArray × Unit) × Unit) × Unit))) true ((t6 : Int) == 9218868437227405312) true ((IntKind.wrap .u64 (t7 * 2 ^ (min (1 : Int).toNat (IntKind.bits .u64))) : Int) == 0) (IntKind.wrap .i64 (x8 + 1))
              else
                chartularylaw17_FindMeans.l0 k x0 (x3 ++ ([((⟨#[112]⟩ : ByteArray), (0, (([((⟨#[120]⟩ : ByteArray), ((r2.1.1.1, (r2.1.1.2.1, (r2.1.1.2.2.1, (r2.1.1.2.2.2.1, (r2.1.1.2.2.2.2.1, ()))))), ()))] : List (ByteArray × (Int × Bool × Int × Int × ByteArray × Unit) × Unit)), ())))] : List (ByteArray × Int × List (ByteArray × (Int × Bool × Int × Int × ByteArray × Unit) × Unit) × Unit))) true ((t6 : Int) == 9218868437227405312) true false (IntKind.wrap .i64 (x8 + 1))
            else
              (rdo x0 x8).bind fun t8 =>
              bif x7 then
                (rdo x0 x8).bind fun t9 =>
                (ck (!decide ((1 : Int) < 0))).bind fun _ =>
                chartularylaw17_FindMeans.l0 k x0 (x3 ++ ([((⟨#[112]⟩ : ByteArray), (0, (([((⟨#[120]⟩ : ByteArray), ((r2.1.1.1, (r2.1.1.2.1, (r2.1.1.2.2.1, (r2.1.1.2.2.2.1, (r2.1.1.2.2.2.2.1, ()))))), ()))] : List (ByteArray × (Int × Bool × Int × Int × ByteArray × Unit) × Unit)), ())))] : List (ByteArray × Int × List (ByteArray × (Int × Bool × Int × Int × ByteArray × Unit) × Unit) × Unit))) true ((t6 : Int) == 9218868437227405312) ((t8 : Int) == 18442240474082181120) ((IntKind.wrap .u64 (t9 * 2 ^ (min (1 : Int).toNat (IntKind.bits .u64))) : Int) == 0) (IntKind.wrap .i64 (x8 + 1))
              else
                chartularylaw17_FindMeans.l0 k x0 (x3 ++ ([((⟨#[112]⟩ : ByteArray), (0, (([((⟨#[120]⟩ : ByteArray), ((r2.1.1.1, (r2.1.1.2.1, (r2.1.1.2.2.1, (r2.1.1.2.2.2.1, (r2.1.1.2.2.2.2.1, ()))))), ()))] : List (ByteArray × (Int × Bool × Int × Int × ByteArray × Unit) × Unit)), ())))] : List (ByteArray × Int × List (ByteArray × (Int × Bool × Int × Int × ByteArray × Unit) × Unit) × Unit))) true ((t6 : Int) == 9218868437227405312) ((t8 : Int) == 18442240474082181120) false (IntKind.wrap .i64 (x8 + 1))
        else
          (rdo x0 x8).bind fun t10 =>
          (ck (!decide ((1 : Int) < 0))).bind fun _ =>
          bif x5 then
            bif x6 then
              bif x7 then
                (rdo x0 x8).bind fun t11 =>
                (ck (!decide ((1 : Int) < 0))).bind fun _ =>
                chartularylaw17_FindMeans.l0 k x0 (x3 ++ ([((⟨#[112]⟩ : ByteArray), (0, (([((⟨#[120]⟩ : ByteArray), ((r2.1.1.1, (r2.1.1.2.1, (r2.1.1.2.2.1, (r2.1.1.2.2.2.1, (r2.1.1.2.2.2.2.1, ()))))), ()))] : List (ByteArray × (Int × Bool × Int × Int × ByteArray × Unit) × Unit)), ())))] : List (ByteArray × Int × List (ByteArray × (Int × Bool × Int × Int × ByteArray × Unit) × Unit) × Unit))) (decide ((IntKind.wrap .u64 (t10 * 2 ^ (min (1 : Int).toNat (IntKind.bits .u64))) : Int) > 18437736874454810624)) true true ((IntKind.wrap .u64 (t11 * 2 ^ (min (1 : Int).toNat (IntKind.bits .u64))) : Int) == 0) (IntKind.wrap .i64 (x8 + 1))
              else
                chartularylaw17_FindMeans.l0 k x0 (x3 ++ ([((⟨#[112]⟩ : ByteArray), (0, (([((⟨#[120]⟩ : ByteArray), ((r2.1.1.1, (r2.1.1.2.1, (r2.1.1.2.2.1, (r2.1.1.2.2.2.1, (r2.1.1.2.2.2.2.1, ()))))), ()))] : List (ByteArray × (Int × Bool × Int × Int × ByteArray × Unit) × Unit)), ())))] : List (ByteArray × Int × List (ByteArray × (Int × Bool × Int × Int × ByteArray × Unit) × Unit) × Unit))) (decide ((IntKind.wrap .u64 (t10 * 2 ^ (min (1 : Int).toNat (IntKind.bits .u64))) : Int) > 18437736874454810624)) true true false (IntKind.wrap .i64 (x8 + 1))
            else
              (rdo x0 x8).bind fun t12 =>
              bif x7 then
                (rdo x0 x8).bind fun t13 =>
                (ck (!decide ((1 : Int) < 0))).bind fun _ =>
                chartularylaw17_FindMeans.l0 k x0 (x3 ++ ([((⟨#[112]⟩ : ByteArray), (0, (([((⟨#[120]⟩ : ByteArray), ((r2.1.1.1, (r2.1.1.2.1, (r2.1.1.2.2.1, (r2.1.1.2.2.2.1, (r2.1.1.2.2.2.2.1, ()))))), ()))] : List (ByteArray × (Int × Bool × Int × Int × ByteArray × Unit) × Unit)), ())))] : List (ByteArray × Int × List (ByteArray × (Int × Bool × Int × Int × ByteArray × Unit) × Unit) × Unit))) (decide ((IntKind.wrap .u64 (t10 * 2 ^ (min (1 : Int).toNat (IntKind.bits .u64))) : Int) > 18437736874454810624)) true ((t12 : Int) == 18442240474082181120) ((IntKind.wrap .u64 (t13 * 2 ^ (min (1 : Int).toNat (IntKind.bits .u64))) : Int) == 0) (IntKind.wrap .i64 (x8 + 1))
              else
                chartularylaw17_FindMeans.l0 k x0 (x3 ++ ([((⟨#[112]⟩ : ByteArray), (0, (([((⟨#[120]⟩ : ByteArray), ((r2.1.1.1, (r2.1.1.2.1, (r2.1.1.2.2.1, (r2.1.1.2.2.2.1, (r2.1.1.2.2.2.2.1, ()))))), ()))] : List (ByteArray × (Int × Bool × Int × Int × ByteArray × Unit) × Unit)), ())))] : List (ByteArray × Int × List (ByteArray × (Int × Bool × Int × Int × ByteArray × Unit) × Unit) × Unit))) (decide ((IntKind.wrap .u64 (t10 * 2 ^ (min (1 : Int).toNat (IntKind.bits .u64))) : Int) > 18437736874454810624)) true ((t12 : Int) == 18442240474082181120) false (IntKind.wrap .i64 (x8 + 1))
          else
            (rdo x0 x8).bind fun t14 =>
            bif x6 then
              bif x7 then
                (rdo x0 x8).bind fun t15 =>
                (ck (!decide ((1 : Int) < 0))).bind fun _ =>
                chartularylaw17_FindMeans.l0 k x0 (x3 ++ ([((⟨#[112]⟩ : ByteArray), (0, (([((⟨#[120]⟩ : ByteArray), ((r2.1.1.1, (r2.1.1.2.1, (r2.1.1.2.2.1, (r2.1.1.2.2.2.1, (r2.1.1.2.2.2.2.1, ()))))), ()))] : List (ByteArray × (Int × Bool × Int × Int × ByteArray × Unit) × Unit)), ())))] : List (ByteArray × Int × List (ByteArray × (Int × Bool × Int × Int × ByteArray × Unit) × Unit) × Unit))) (decide ((IntKind.wrap .u64 (t10 * 2 ^ (min (1 : Int).toNat (IntKind.bits .u64))) : Int) > 18437736874454810624)) ((t14 : Int) == 9218868437227405312) true ((IntKind.wrap .u64 (t15 * 2 ^ (min (1 : Int).toNat (IntKind.bits .u64))) : Int) == 0) (IntKind.wrap .i64 (x8 + 1))
              else
                chartularylaw17_FindMeans.l0 k x0 (x3 ++ ([((⟨#[112]⟩ : ByteArray), (0, (([((⟨#[120]⟩ : ByteArray), ((r2.1.1.1, (r2.1.1.2.1, (r2.1.1.2.2.1, (r2.1.1.2.2.2.1, (r2.1.1.2.2.2.2.1, ()))))), ()))] : List (ByteArray × (Int × Bool × Int × Int × ByteArray × Unit) × Unit)), ())))] : List (ByteArray × Int × List (ByteArray × (Int × Bool × Int × Int × ByteArray × Unit) × Unit) × Unit))) (decide ((IntKind.wrap .u64 (t10 * 2 ^ (min (1 : Int).toNat (IntKind.bits .u64))) : Int) > 18437736874454810624)) ((t14 : Int) == 9218868437227405312) true false (IntKind.wrap .i64 (x8 + 1))
            else
              (rdo x0 x8).bind fun t16 =>
              bif x7 then
                (rdo x0 x8).bind fun t17 =>
                (ck (!decide ((1 : Int) < 0))).bind fun _ =>
                chartularylaw17_FindMeans.l0 k x0 (x3 ++ ([((⟨#[112]⟩ : ByteArray), (0, (([((⟨#[120]⟩ : ByteArray), ((r2.1.1.1, (r2.1.1.2.1, (r2.1.1.2.2.1, (r2.1.1.2.2.2.1, (r2.1.1.2.2.2.2.1, ()))))), ()))] : List (ByteArray × (Int × Bool × Int × Int × ByteArray × Unit) × Unit)), ())))] : List (ByteArray × Int × List (ByteArray × (Int × Bool × Int × Int × ByteArray × Unit) × Unit) × Unit))) (decide ((IntKind.wrap .u64 (t10 * 2 ^ (min (1 : Int).toNat (IntKind.bits .u64))) : Int) > 18437736874454810624)) ((t14 : Int) == 9218868437227405312) ((t16 : Int) == 18442240474082181120) ((IntKind.wrap .u64 (t17 * 2 ^ (min (1 : Int).toNat (IntKind.bits .u64))) : Int) == 0) (IntKind.wrap .i64 (x8 + 1))
              else
                chartularylaw17_FindMeans.l0 k x0 (x3 ++ ([((⟨#[112]⟩ : ByteArray), (0, (([((⟨#[120]⟩ : ByteArray), ((r2.1.1.1, (r2.1.1.2.1, (r2.1.1.2.2.1, (r2.1.1.2.2.2.1, (r2.1.1.2.2.2.2.1, ()))))), ()))] : List (ByteArray × (Int × Bool × Int × Int × ByteArray × Unit) × Unit)), ())))] : List (ByteArray × Int × List (ByteArray × (Int × Bool × Int × Int × ByteArray × Unit) × Unit) × Unit))) (decide ((IntKind.wrap .u64 (t10 * 2 ^ (min (1 : Int).toNat (IntKind.bits .u64))) : Int) > 18437736874454810624)) ((t14 : Int) == 9218868437227405312) ((t16 : Int) == 18442240474082181120) false (IntKind.wrap .i64 (x8 + 1))
      else
        (find_Mean.f k (⟨#[120]⟩ : ByteArray) x3).bind fun r18 =>
        bif ((x3.length : Int) : Int) == 0 then
          bif !r18.1.2.1 then
            bif ((r18.1.1.1 : Int) == 0 && (r18.1.1.2.1 == false && ((r18.1.1.2.2.1 : Int) == 0 && ((r18.1.1.2.2.2.1 : Int) == 0 && (seqB r18.1.1.2.2.2.2.1 ByteArray.empty && true))))) then
              (chartularylaw17_awake.f k).bind fun r19 =>
              some ((r19.1.1, ()), (()))
            else
              some ((false, ()), (()))
          else
            some ((false, ()), (()))
        else
        bif !r18.1.2.1 then
          some ((false, ()), (()))
        else
        bif (r18.1.1.1 : Int) != 3 then
          some ((false, ()), (()))
        else
          (value_Right.f k (r18.1.1.1, (r18.1.1.2.1, (r18.1.1.2.2.1, (r18.1.1.2.2.2.1, (r18.1.1.2.2.2.2.1, ())))))).bind fun r20 =>
          bif !r20.1.1 then
            some ((false, ()), (()))
          else
            chartularylaw17_FindMeans.j0 k x0 x3 x4 x5 x6 x7 r18.1.1.1 r18.1.1.2.1 r18.1.1.2.2.1 r18.1.1.2.2.2.1 r18.1.1.2.2.2.2.1
    else
      (find_Mean.f k (⟨#[120]⟩ : ByteArray) x3).bind fun r21 =>
      bif ((x3.length : Int) : Int) == 0 then
        bif !r21.1.2.1 then
          bif ((r21.1.1.1 : Int) == 0 && (r21.1.1.2.1 == false && ((r21.1.1.2.2.1 : Int) == 0 && ((r21.1.1.2.2.2.1 : Int) == 0 && (seqB r21.1.1.2.2.2.2.1 ByteArray.empty && true))))) then
            (chartularylaw17_awake.f k).bind fun r22 =>
            some ((r22.1.1, ()), (()))
          else
            some ((false, ()), (()))
        else
          some ((false, ()), (()))
      else
      bif !r21.1.2.1 then
        some ((false, ()), (()))
      else
      bif (r21.1.1.1 : Int) != 3 then
        some ((false, ()), (()))
      else
        (value_Right.f k (r21.1.1.1, (r21.1.1.2.1, (r21.1.1.2.2.1, (r21.1.1.2.2.2.1, (r21.1.1.2.2.2.2.1, ())))))).bind fun r23 =>
        bif !r23.1.1 then
          some ((false, ()), (()))
        else
          chartularylaw17_FindMeans.j0 k x0 x3 x4 x5 x6 x7 r21.1.1.1 r21.1.1.2.1 r21.1.1.2.2.1 r21.1.1.2.2.2.1 r21.1.1.2.2.2.2.1
noncomputable def chartularylaw17_FindMeans.j0 : Nat → (List Int) → (List (ByteArray × Int × List (ByteArray × (Int × Bool × Int × Int × ByteArray × Unit) × Unit) × Unit)) → Bool → Bool → Bool → Bool → Int → Bool → Int → Int → ByteArray → Option chartularylaw17_FindMeans.R
  | 0, _, _, _, _, _, _, _, _, _, _, _ => none
  | k + 1, x0, x3, x4, x5, x6, x7, o10_0, o10_1, o10_2, o10_3, o10_4 =>
    bif x4 then
      bif (o10_3 : Int) == 9221120237041090561 then
        (chartularylaw17_awake.f k).bind fun r24 =>
        some ((r24.1.1, ()), (()))
      else
        some ((false, ()), (()))
    else
    bif x5 then
      bif x6 then
        bif (o10_3 : Int) == 9221120237041090561 then
          (chartularylaw17_awake.f k).bind fun r25 =>
          some ((r25.1.1, ()), (()))
        else
          some ((false, ()), (()))
      else
      bif x7 then
        bif (o10_3 : Int) == 0 then
          (chartularylaw17_awake.f k).bind fun r26 =>
          some ((r26.1.1, ()), (()))
        else
          some ((false, ()), (()))
      else
      bif ((x3.length : Int) : Int) == 1 then
        (rdo x3 0).bind fun t27 =>
        (rdo t27.2.2.1 0).bind fun t28 =>
        bif ((o10_0 : Int) == t28.2.1.1 && (o10_1 == t28.2.1.2.1 && ((o10_2 : Int) == t28.2.1.2.2.1 && ((o10_3 : Int) == t28.2.1.2.2.2.1 && (seqB o10_4 t28.2.1.2.2.2.2.1 && true))))) then
          (chartularylaw17_awake.f k).bind fun r29 =>
          some ((r29.1.1, ()), (()))
        else
          some ((false, ()), (()))
      else
      bif decide (((x3.length : Int) : Int) > 1) then
        bif x5 then
          (chartularylaw17_small.f k x0).bind fun r30 =>
          chartularylaw17_FindMeans.j1 k r30.1.1 o10_0 o10_1 o10_2 o10_3 o10_4
        else
          chartularylaw17_FindMeans.j1 k false o10_0 o10_1 o10_2 o10_3 o10_4
      else
        chartularylaw17_FindMeans.j1 k false o10_0 o10_1 o10_2 o10_3 o10_4
    else
    bif x7 then
      bif (o10_3 : Int) == 0 then
        (chartularylaw17_awake.f k).bind fun r31 =>
        some ((r31.1.1, ()), (()))
      else
        some ((false, ()), (()))
    else
    bif ((x3.length : Int) : Int) == 1 then
      (rdo x3 0).bind fun t32 =>
      (rdo t32.2.2.1 0).bind fun t33 =>
      bif ((o10_0 : Int) == t33.2.1.1 && (o10_1 == t33.2.1.2.1 && ((o10_2 : Int) == t33.2.1.2.2.1 && ((o10_3 : Int) == t33.2.1.2.2.2.1 && (seqB o10_4 t33.2.1.2.2.2.2.1 && true))))) then
        (chartularylaw17_awake.f k).bind fun r34 =>
        some ((r34.1.1, ()), (()))
      else
        some ((false, ()), (()))
    else
    bif decide (((x3.length : Int) : Int) > 1) then
      bif x5 then
        (chartularylaw17_small.f k x0).bind fun r35 =>
        chartularylaw17_FindMeans.j1 k r35.1.1 o10_0 o10_1 o10_2 o10_3 o10_4
      else
        chartularylaw17_FindMeans.j1 k false o10_0 o10_1 o10_2 o10_3 o10_4
    else
      chartularylaw17_FindMeans.j1 k false o10_0 o10_1 o10_2 o10_3 o10_4
noncomputable def chartularylaw17_FindMeans.j1 : Nat → Bool → Int → Bool → Int → Int → ByteArray → Option chartularylaw17_FindMeans.R
  | 0, _, _, _, _, _, _ => none
  | k + 1, x143, o10_0, o10_1, o10_2, o10_3, o10_4 =>
    bif x143 then
      bif (o10_3 : Int) == 9218868437227405312 then
        (chartularylaw17_awake.f k).bind fun r36 =>
        some ((r36.1.1, ()), (()))
      else
        some ((false, ()), (()))
    else
      (chartularylaw17_awake.f k).bind fun r37 =>
      some ((r37.1.1, ()), (()))
noncomputable def chartularylaw17_FindMeans.f : Nat → (List Int) → Option chartularylaw17_FindMeans.R
  | 0, _ => none
  | k + 1, x0 =>
    chartularylaw17_FindMeans.l0 k x0 [] false false false true 0
end
abbrev chartularylaw17_FindMeans.ini : LSh := ⟨[(0, .val (.sl (.int .u64)))], []⟩
abbrev chartularylaw17_FindMeans.out : LSh := ⟨[(0, .val .bool)], []⟩
abbrev chartularylaw17_FindMeans.l0s : LSh := ⟨[(0, .val (.sl (.int .u64))), (3, .own 2000003 27 (.cons .str (.cons (.int .i64) (.cons (.sl (.cons .str (.cons (.cons (.int .i64) (.cons .bool (.cons (.int .i64) (.cons (.int .u64) (.cons .str .nil))))) .nil))) .nil)))), (4, .val .bool), (5, .val .bool), (6, .val .bool), (7, .val .bool), (8, .val (.int .i64))], []⟩
abbrev chartularylaw17_FindMeans.j0s : LSh := ⟨[(0, .val (.sl (.int .u64))), (3, .own 2000003 27 (.cons .str (.cons (.int .i64) (.cons (.sl (.cons .str (.cons (.cons (.int .i64) (.cons .bool (.cons (.int .i64) (.cons (.int .u64) (.cons .str .nil))))) .nil))) .nil)))), (4, .val .bool), (5, .val .bool), (6, .val .bool), (7, .val .bool), (10, .ptr 10 0)], [(10, 35, [.val (.int .i64), .val .bool, .val (.int .i64), .val (.int .u64), .val .str])]⟩
abbrev chartularylaw17_FindMeans.j1s : LSh := ⟨[(10, .ptr 10 0), (143, .val .bool)], [(10, 35, [.val (.int .i64), .val .bool, .val (.int .i64), .val (.int .u64), .val .str])]⟩
noncomputable def chartularylaw17_FindMeans.labF : Nat → Option (LabF chartularylaw17_FindMeans.out.den)
  | 8 => some ⟨chartularylaw17_FindMeans.l0s, fun k (d : (List Int × (List (ByteArray × Int × List (ByteArray × (Int × Bool × Int × Int × ByteArray × Unit) × Unit) × Unit)) × Bool × Bool × Bool × Bool × Int × Unit) × (Unit)) => (chartularylaw17_FindMeans.l0 k d.1.1 d.1.2.1 d.1.2.2.1 d.1.2.2.2.1 d.1.2.2.2.2.1 d.1.2.2.2.2.2.1 d.1.2.2.2.2.2.2.1 : Option chartularylaw17_FindMeans.R)⟩
  | 35 => some ⟨chartularylaw17_FindMeans.j0s, fun k (d : (List Int × (List (ByteArray × Int × List (ByteArray × (Int × Bool × Int × Int × ByteArray × Unit) × Unit) × Unit)) × Bool × Bool × Bool × Bool × Unit × Unit) × ((Int × Bool × Int × Int × ByteArray × Unit) × Unit)) => (chartularylaw17_FindMeans.j0 k d.1.1 d.1.2.1 d.1.2.2.1 d.1.2.2.2.1 d.1.2.2.2.2.1 d.1.2.2.2.2.2.1 d.2.1.1 d.2.1.2.1 d.2.1.2.2.1 d.2.1.2.2.2.1 d.2.1.2.2.2.2.1 : Option chartularylaw17_FindMeans.R)⟩
  | 49 => some ⟨chartularylaw17_FindMeans.j1s, fun k (d : (Unit × Bool × Unit) × ((Int × Bool × Int × Int × ByteArray × Unit) × Unit)) => (chartularylaw17_FindMeans.j1 k d.1.2.1 d.2.1.1 d.2.1.2.1 d.2.1.2.2.1 d.2.1.2.2.2.1 d.2.1.2.2.2.2.1 : Option chartularylaw17_FindMeans.R)⟩
  | _ => none
noncomputable def chartularylaw17_FindMeans.fd : FnD := ⟨Try.f6, chartularylaw17_FindMeans.ini, chartularylaw17_FindMeans.out, 1, [], [], chartularylaw17_FindMeans.labF, fun k (d : (List Int × Unit) × (Unit)) => (chartularylaw17_FindMeans.f k d.1.1 : Option chartularylaw17_FindMeans.R)⟩

noncomputable def Γ (k : Nat) : Gam := [(38, [value_nan.fd.sp k]), (20, [value_Clean.fd.sp k]), (22, [value_Right.fd.sp k]), (60, [paper_sign.fd.sp k]), (49, [paper_word.fd.sp k]), (30, [paper_IsName.fd.sp k]), (10, [find_Check.fd.sp k]), (51, [paper_Find_1_v0.fd.sp k]), (50, [slices_IndexFunc_api_Field_v0.fd.sp k]), (31, [paper_Find.fd.sp k]), (46, [value_sign.fd.sp k]), (47, [value_rank.fd.sp k]), (59, [bytealg_CompareString.fd.sp k]), (48, [strings_Compare.fd.sp k]), (29, [value_Compare.fd.sp k]), (32, [find_between.fd.sp k]), (12, [find_Holds.fd.sp k]), (39, [find_by.fd.sp k]), (36, [find_compare.fd.sp k]), (35, [find_Run_1_v0.fd.sp k]), (61, [slices_insertionSortCmpFunc_int_v0.fd.sp k]), (69, [slices_swapRangeCmpFunc_int_v0.fd.sp k]), (67, [slices_rotateCmpFunc_int_v0.fd.sp k]), (62, [slices_symMergeCmpFunc_int_v0.fd.sp k]), (52, [slices_stableCmpFunc_int_v0.fd.sp k]), (34, [slices_SortStableFunc__int_int_v0.fd.sp k]), (16, [find_Run.fd.sp k]), (33, [chartularylaw17_whole.fd.sp k]), (14, [chartularylaw17_awake.fd.sp k]), (40, [value_Float.fd.sp k]), (41, [value_Of.fd.sp k]), (21, [find_Mean.fd.sp k]), (23, [chartularylaw17_small.fd.sp k]), (6, [chartularylaw17_FindMeans.fd.sp k]), (53, [f64from]), (54, [f64bits]), (66, [strCmp])]
end Go.Proofs.Ytcjiipbppkdkaaa.E
