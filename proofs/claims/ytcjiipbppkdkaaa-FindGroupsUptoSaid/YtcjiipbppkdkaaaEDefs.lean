import Derived.Test.YtcjiipbppkdkaaaEIns
import Derived.Test.YtcjiipbppkdkaaaProg
namespace Go.Proofs.Ytcjiipbppkdkaaa.E
open Go Go.Proofs.Ytcjiipbppkdkaaa.Eng Go.Proofs
set_option linter.unusedVariables false
set_option maxRecDepth 100000
def tt : TT := [
  (2, ⟨1, 8, false, (.int .i64), [(.int .i64 0)], (.int .i64), false⟩),
  (3, ⟨1, 8, false, (.int .i64), [(.int .i64 0)], (.int .i64), false⟩),
  (4, ⟨1, 1, false, .bool, [(.bool false)], .bool, false⟩),
  (9, ⟨1, 16, false, .str, [(.str ByteArray.empty)], .str, false⟩),
  (22, ⟨1, 24, false, (.sl (.cons .str (.cons (.cons (.int .i64) (.cons .bool (.cons (.int .i64) (.cons (.int .u64) (.cons .str .nil))))) (.cons (.cons (.int .i64) (.cons .bool (.cons (.int .i64) (.cons (.int .u64) (.cons .str .nil))))) (.cons .bool (.cons .bool (.cons .bool .nil))))))), [.nils], (.slice 37), false⟩),
  (24, ⟨4, 56, true, (.cons (.sl (.cons .str (.cons (.cons (.int .i64) (.cons .bool (.cons (.int .i64) (.cons (.int .u64) (.cons .str .nil))))) (.cons (.cons (.int .i64) (.cons .bool (.cons (.int .i64) (.cons (.int .u64) (.cons .str .nil))))) (.cons .bool (.cons .bool (.cons .bool .nil))))))) (.cons .str (.cons .bool (.cons (.int .i64) .nil)))), [.nils, (.str ByteArray.empty), (.bool false), (.int .i64 0)], (.struct [(0, 22, 1), (1, 9, 1), (2, 4, 1), (3, 3, 1)]), false⟩),
  (25, ⟨1, 24, false, (.sl (.cons .str (.cons (.cons (.int .i64) (.cons .bool (.cons (.int .i64) (.cons (.int .u64) (.cons .str .nil))))) .nil))), [.nils], (.slice 53), false⟩),
  (27, ⟨3, 48, true, (.cons .str (.cons (.int .i64) (.cons (.sl (.cons .str (.cons (.cons (.int .i64) (.cons .bool (.cons (.int .i64) (.cons (.int .u64) (.cons .str .nil))))) .nil))) .nil))), [(.str ByteArray.empty), (.int .i64 0), .nils], (.struct [(0, 9, 1), (1, 3, 1), (2, 25, 1)]), false⟩),
  (33, ⟨1, 8, false, (.int .u64), [(.int .u64 0)], (.int .u64), false⟩),
  (35, ⟨5, 48, true, (.cons (.int .i64) (.cons .bool (.cons (.int .i64) (.cons (.int .u64) (.cons .str .nil))))), [(.int .i64 0), (.bool false), (.int .i64 0), (.int .u64 0), (.str ByteArray.empty)], (.struct [(0, 3, 1), (1, 4, 1), (2, 2, 1), (3, 33, 1), (4, 9, 1)]), true⟩),
  (37, ⟨14, 120, true, (.cons .str (.cons (.cons (.int .i64) (.cons .bool (.cons (.int .i64) (.cons (.int .u64) (.cons .str .nil))))) (.cons (.cons (.int .i64) (.cons .bool (.cons (.int .i64) (.cons (.int .u64) (.cons .str .nil))))) (.cons .bool (.cons .bool (.cons .bool .nil)))))), [(.str ByteArray.empty), (.int .i64 0), (.bool false), (.int .i64 0), (.int .u64 0), (.str ByteArray.empty), (.int .i64 0), (.bool false), (.int .i64 0), (.int .u64 0), (.str ByteArray.empty), (.bool false), (.bool false), (.bool false)], (.struct [(0, 9, 1), (1, 35, 5), (6, 35, 5), (11, 4, 1), (12, 4, 1), (13, 4, 1)]), true⟩),
  (40, ⟨1, 24, false, (.sl (.cons .str (.cons (.int .i64) (.cons (.sl (.cons .str (.cons (.cons (.int .i64) (.cons .bool (.cons (.int .i64) (.cons (.int .u64) (.cons .str .nil))))) .nil))) .nil)))), [.nils], (.slice 27), false⟩),
  (42, ⟨1, 24, false, (.sl (.int .i64)), [.nils], (.slice 3), false⟩),
  (50, ⟨1, 24, false, (.sl (.int .u64)), [.nils], (.slice 33), false⟩),
  (53, ⟨6, 64, true, (.cons .str (.cons (.cons (.int .i64) (.cons .bool (.cons (.int .i64) (.cons (.int .u64) (.cons .str .nil))))) .nil)), [(.str ByteArray.empty), (.int .i64 0), (.bool false), (.int .i64 0), (.int .u64 0), (.str ByteArray.empty)], (.struct [(0, 9, 1), (1, 35, 5)]), true⟩),
  (54, ⟨1, 8, false, (.int .u64), [(.int .u64 0)], (.int .u64), false⟩),
  (59, ⟨1, 24, false, (.sl (.cons (.cons (.int .i64) (.cons .bool (.cons (.int .i64) (.cons (.int .u64) (.cons .str .nil))))) (.cons (.int .i64) .nil))), [.nils], (.slice 69), false⟩),
  (69, ⟨6, 56, true, (.cons (.cons (.int .i64) (.cons .bool (.cons (.int .i64) (.cons (.int .u64) (.cons .str .nil))))) (.cons (.int .i64) .nil)), [(.int .i64 0), (.bool false), (.int .i64 0), (.int .u64 0), (.str ByteArray.empty), (.int .i64 0)], (.struct [(0, 35, 5), (5, 3, 1)]), true⟩),
  (79, ⟨1, 8, false, .flt, [(.flt 0)], .flt, false⟩)]
/-! ### value_nan : function 38 -/
abbrev value_nan.R := (Bool × Unit) × (Unit)
noncomputable def value_nan.f : Nat → Int → Option value_nan.R
  | 0, _ => none
  | k + 1, x0 =>
    some ((decide ((IntKind.wrap .u64 ((BitVec.ofInt (IntKind.bits .u64) x0 &&& BitVec.ofInt (IntKind.bits .u64) 9223372036854775807).toNat : Int) : Int) > 9218868437227405312), ()), (()))
abbrev value_nan.ini : LSh := ⟨[(0, .val (.int .u64))], []⟩
abbrev value_nan.out : LSh := ⟨[(0, .val .bool)], []⟩
noncomputable def value_nan.labF : Nat → List (LabF value_nan.out.den)
  | _ => []
noncomputable def value_nan.fd : FnD := ⟨Try.f38, value_nan.ini, value_nan.out, 1, [], [], value_nan.labF, fun k (d : (Int × Unit) × (Unit)) => (value_nan.f k d.1.1 : Option value_nan.R), none, []⟩

/-! ### value_Clean : function 20 -/
abbrev value_Clean.R := ((Int × Bool × Int × Int × ByteArray × Unit) × Unit) × (Unit)
noncomputable def value_Clean.f : Nat → (Int × Bool × Int × Int × ByteArray × Unit) → Option value_Clean.R
  | 0, _ => none
  | k + 1, x0 =>
    bif (x0.1 : Int) == 1 then
      some (((x0.1, (x0.2.1, (0, (0, (ByteArray.empty, ()))))), ()), (()))
    else
    bif (x0.1 : Int) == 2 then
      some (((x0.1, (false, (x0.2.2.1, (0, (ByteArray.empty, ()))))), ()), (()))
    else
    bif (x0.1 : Int) == 3 then
      (value_nan.f k x0.2.2.2.1).bind fun r1 =>
      bif r1.1.1 then
        some (((x0.1, (false, (0, (9221120237041090561, (ByteArray.empty, ()))))), ()), (()))
      else
        some (((x0.1, (false, (0, (x0.2.2.2.1, (ByteArray.empty, ()))))), ()), (()))
    else
    bif (x0.1 : Int) == 4 then
      some (((x0.1, (false, (0, (0, x0.2.2.2.2)))), ()), (()))
    else
      some (((x0.1, (false, (0, (0, (ByteArray.empty, ()))))), ()), (()))
abbrev value_Clean.ini : LSh := ⟨[(0, .val (.cons (.int .i64) (.cons .bool (.cons (.int .i64) (.cons (.int .u64) (.cons .str .nil))))))], []⟩
abbrev value_Clean.out : LSh := ⟨[(0, .val (.cons (.int .i64) (.cons .bool (.cons (.int .i64) (.cons (.int .u64) (.cons .str .nil))))))], []⟩
noncomputable def value_Clean.labF : Nat → List (LabF value_Clean.out.den)
  | _ => []
noncomputable def value_Clean.fd : FnD := ⟨Try.f20, value_Clean.ini, value_Clean.out, 1, [], [], value_Clean.labF, fun k (d : ((Int × Bool × Int × Int × ByteArray × Unit) × Unit) × (Unit)) => (value_Clean.f k d.1.1 : Option value_Clean.R), none, []⟩

/-! ### value_Right : function 22 -/
abbrev value_Right.R := (Bool × Unit) × (Unit)
noncomputable def value_Right.f : Nat → (Int × Bool × Int × Int × ByteArray × Unit) → Option value_Right.R
  | 0, _ => none
  | k + 1, x0 =>
    bif decide ((x0.1 : Int) ≥ 0) then
      bif decide ((x0.1 : Int) ≤ 4) then
        bif decide (((x0.2.2.2.2.1.size : Int) : Int) ≤ 200) then
          (value_Clean.f k x0).bind fun r1 =>
          some ((((x0.1 : Int) == r1.1.1.1 && (x0.2.1 == r1.1.1.2.1 && ((x0.2.2.1 : Int) == r1.1.1.2.2.1 && ((x0.2.2.2.1 : Int) == r1.1.1.2.2.2.1 && (seqB x0.2.2.2.2.1 r1.1.1.2.2.2.2.1 && true))))), ()), (()))
        else
          some ((false, ()), (()))
      else
        some ((false, ()), (()))
    else
      some ((false, ()), (()))
abbrev value_Right.ini : LSh := ⟨[(0, .val (.cons (.int .i64) (.cons .bool (.cons (.int .i64) (.cons (.int .u64) (.cons .str .nil))))))], []⟩
abbrev value_Right.out : LSh := ⟨[(0, .val .bool)], []⟩
noncomputable def value_Right.labF : Nat → List (LabF value_Right.out.den)
  | _ => []
noncomputable def value_Right.fd : FnD := ⟨Try.f22, value_Right.ini, value_Right.out, 1, [], [], value_Right.labF, fun k (d : ((Int × Bool × Int × Int × ByteArray × Unit) × Unit) × (Unit)) => (value_Right.f k d.1.1 : Option value_Right.R), none, []⟩

/-! ### paper_sign : function 60 -/
abbrev paper_sign.R := (Bool × Unit) × (Unit)
noncomputable def paper_sign.f : Nat → Int → Option paper_sign.R
  | 0, _ => none
  | k + 1, x0 =>
    bif decide ((x0 : Int) ≥ 97) then
      bif decide ((x0 : Int) ≤ 122) then
        some ((true, ()), (()))
      else
      bif decide ((x0 : Int) ≥ 65) then
        bif decide ((x0 : Int) ≤ 90) then
          some ((true, ()), (()))
        else
        bif decide ((x0 : Int) ≥ 48) then
          bif decide ((x0 : Int) ≤ 57) then
            some ((true, ()), (()))
          else
          bif (x0 : Int) == 45 then
            some ((true, ()), (()))
          else
          bif (x0 : Int) == 95 then
            some ((true, ()), (()))
          else
            some (((x0 : Int) == 46, ()), (()))
        else
        bif (x0 : Int) == 45 then
          some ((true, ()), (()))
        else
        bif (x0 : Int) == 95 then
          some ((true, ()), (()))
        else
          some (((x0 : Int) == 46, ()), (()))
      else
      bif decide ((x0 : Int) ≥ 48) then
        bif decide ((x0 : Int) ≤ 57) then
          some ((true, ()), (()))
        else
        bif (x0 : Int) == 45 then
          some ((true, ()), (()))
        else
        bif (x0 : Int) == 95 then
          some ((true, ()), (()))
        else
          some (((x0 : Int) == 46, ()), (()))
      else
      bif (x0 : Int) == 45 then
        some ((true, ()), (()))
      else
      bif (x0 : Int) == 95 then
        some ((true, ()), (()))
      else
        some (((x0 : Int) == 46, ()), (()))
    else
    bif decide ((x0 : Int) ≥ 65) then
      bif decide ((x0 : Int) ≤ 90) then
        some ((true, ()), (()))
      else
      bif decide ((x0 : Int) ≥ 48) then
        bif decide ((x0 : Int) ≤ 57) then
          some ((true, ()), (()))
        else
        bif (x0 : Int) == 45 then
          some ((true, ()), (()))
        else
        bif (x0 : Int) == 95 then
          some ((true, ()), (()))
        else
          some (((x0 : Int) == 46, ()), (()))
      else
      bif (x0 : Int) == 45 then
        some ((true, ()), (()))
      else
      bif (x0 : Int) == 95 then
        some ((true, ()), (()))
      else
        some (((x0 : Int) == 46, ()), (()))
    else
    bif decide ((x0 : Int) ≥ 48) then
      bif decide ((x0 : Int) ≤ 57) then
        some ((true, ()), (()))
      else
      bif (x0 : Int) == 45 then
        some ((true, ()), (()))
      else
      bif (x0 : Int) == 95 then
        some ((true, ()), (()))
      else
        some (((x0 : Int) == 46, ()), (()))
    else
    bif (x0 : Int) == 45 then
      some ((true, ()), (()))
    else
    bif (x0 : Int) == 95 then
      some ((true, ()), (()))
    else
      some (((x0 : Int) == 46, ()), (()))
abbrev paper_sign.ini : LSh := ⟨[(0, .val (.int .u8))], []⟩
abbrev paper_sign.out : LSh := ⟨[(0, .val .bool)], []⟩
noncomputable def paper_sign.labF : Nat → List (LabF paper_sign.out.den)
  | _ => []
noncomputable def paper_sign.fd : FnD := ⟨Try.f60, paper_sign.ini, paper_sign.out, 1, [], [], paper_sign.labF, fun k (d : (Int × Unit) × (Unit)) => (paper_sign.f k d.1.1 : Option paper_sign.R), none, []⟩

/-! ### paper_word : function 49 -/
abbrev paper_word.R := (Bool × Unit) × (Unit)
mutual
noncomputable def paper_word.j0 : Nat → ByteArray → Option paper_word.R
  | 0, _ => none
  | k + 1, x0 =>
    paper_word.l0 k x0 (x0.size : Int) 0
noncomputable def paper_word.l0 : Nat → ByteArray → Int → Int → Option paper_word.R
  | 0, _, _, _ => none
  | k + 1, x0, x15, x16 =>
    bif decide ((x16 : Int) < x15) then
      (bto x0 x16).bind fun t1 =>
      (paper_sign.f k t1).bind fun r2 =>
      bif !r2.1.1 then
        some ((false, ()), (()))
      else
        paper_word.l0 k x0 x15 (IntKind.wrap .i64 (x16 + 1))
    else
      some ((true, ()), (()))
noncomputable def paper_word.f : Nat → ByteArray → Int → Option paper_word.R
  | 0, _, _ => none
  | k + 1, x0, x1 =>
    bif x0.toList == (⟨#[]⟩ : ByteArray).toList then
      some ((false, ()), (()))
    else
    bif decide (((x0.size : Int) : Int) > x1) then
      some ((false, ()), (()))
    else
      paper_word.j0 k x0
end
abbrev paper_word.ini : LSh := ⟨[(0, .val .str), (1, .val (.int .i64))], []⟩
abbrev paper_word.out : LSh := ⟨[(0, .val .bool)], []⟩
abbrev paper_word.j0s : LSh := ⟨[(0, .val .str)], []⟩
abbrev paper_word.l0s : LSh := ⟨[(0, .val .str), (15, .val (.int .i64)), (16, .val (.int .i64))], []⟩
noncomputable def paper_word.labF : Nat → List (LabF paper_word.out.den)
  | 7 => [⟨paper_word.j0s, fun k (d : (ByteArray × Unit) × (Unit)) => (paper_word.j0 k d.1.1 : Option paper_word.R)⟩]
  | 8 => [⟨paper_word.l0s, fun k (d : (ByteArray × Int × Int × Unit) × (Unit)) => (paper_word.l0 k d.1.1 d.1.2.1 d.1.2.2.1 : Option paper_word.R)⟩]
  | _ => []
noncomputable def paper_word.fd : FnD := ⟨Try.f49, paper_word.ini, paper_word.out, 1, [], [], paper_word.labF, fun k (d : (ByteArray × Int × Unit) × (Unit)) => (paper_word.f k d.1.1 d.1.2.1 : Option paper_word.R), none, []⟩

/-! ### paper_IsName : function 30 -/
abbrev paper_IsName.R := (Bool × Unit) × (Unit)
noncomputable def paper_IsName.f : Nat → ByteArray → Option paper_IsName.R
  | 0, _ => none
  | k + 1, x0 =>
    (paper_word.f k x0 16).bind fun r1 =>
    some ((r1.1.1, ()), (()))
abbrev paper_IsName.ini : LSh := ⟨[(0, .val .str)], []⟩
abbrev paper_IsName.out : LSh := ⟨[(0, .val .bool)], []⟩
noncomputable def paper_IsName.labF : Nat → List (LabF paper_IsName.out.den)
  | _ => []
noncomputable def paper_IsName.fd : FnD := ⟨Try.f30, paper_IsName.ini, paper_IsName.out, 1, [], [], paper_IsName.labF, fun k (d : (ByteArray × Unit) × (Unit)) => (paper_IsName.f k d.1.1 : Option paper_IsName.R), none, []⟩

/-! ### find_Check : function 10 -/
abbrev find_Check.R := (Int × Unit) × (Unit)
mutual
noncomputable def find_Check.j0 : Nat → (List (ByteArray × (Int × Bool × Int × Int × ByteArray × Unit) × (Int × Bool × Int × Int × ByteArray × Unit) × Bool × Bool × Bool × Unit)) → ByteArray → Bool → Int → Option find_Check.R
  | 0, _, _, _, _ => none
  | k + 1, o1_0, o1_1, o1_2, o1_3 =>
    find_Check.l0 k o1_0 (o1_0.length : Int) 0
noncomputable def find_Check.l0 : Nat → (List (ByteArray × (Int × Bool × Int × Int × ByteArray × Unit) × (Int × Bool × Int × Int × ByteArray × Unit) × Bool × Bool × Bool × Unit)) → Int → Int → Option find_Check.R
  | 0, _, _, _ => none
  | k + 1, x26, x27, x28 =>
    bif decide ((x28 : Int) < x27) then
      (rdo x26 x28).bind fun t2 =>
      (paper_IsName.f k t2.1).bind fun r3 =>
      bif !r3.1.1 then
        some ((14, ()), (()))
      else
      bif t2.2.2.2.1 then
        (value_Right.f k t2.2.1).bind fun r4 =>
        bif !r4.1.1 then
          some ((15, ()), (()))
        else
        bif t2.2.2.2.2.1 then
          (value_Right.f k t2.2.2.1).bind fun r5 =>
          bif !r5.1.1 then
            some ((15, ()), (()))
          else
            find_Check.l0 k x26 x27 (IntKind.wrap .i64 (x28 + 1))
        else
          find_Check.l0 k x26 x27 (IntKind.wrap .i64 (x28 + 1))
      else
      bif t2.2.2.2.2.1 then
        (value_Right.f k t2.2.2.1).bind fun r6 =>
        bif !r6.1.1 then
          some ((15, ()), (()))
        else
          find_Check.l0 k x26 x27 (IntKind.wrap .i64 (x28 + 1))
      else
        find_Check.l0 k x26 x27 (IntKind.wrap .i64 (x28 + 1))
    else
      some ((0, ()), (()))
noncomputable def find_Check.f : Nat → (List (ByteArray × (Int × Bool × Int × Int × ByteArray × Unit) × (Int × Bool × Int × Int × ByteArray × Unit) × Bool × Bool × Bool × Unit) × ByteArray × Bool × Int × Unit) → Option find_Check.R
  | 0, _ => none
  | k + 1, x0 =>
    bif decide (((x0.1.length : Int) : Int) > 8) then
      some ((5, ()), (()))
    else
    bif decide ((x0.2.2.2.1 : Int) < 0) then
      some ((5, ()), (()))
    else
    bif !(x0.2.1.toList == (⟨#[]⟩ : ByteArray).toList) then
      (paper_IsName.f k x0.2.1).bind fun r1 =>
      bif !r1.1.1 then
        some ((14, ()), (()))
      else
        find_Check.j0 k x0.1 x0.2.1 x0.2.2.1 x0.2.2.2.1
    else
      find_Check.j0 k x0.1 x0.2.1 x0.2.2.1 x0.2.2.2.1
end
abbrev find_Check.ini : LSh := ⟨[(0, .val (.cons (.sl (.cons .str (.cons (.cons (.int .i64) (.cons .bool (.cons (.int .i64) (.cons (.int .u64) (.cons .str .nil))))) (.cons (.cons (.int .i64) (.cons .bool (.cons (.int .i64) (.cons (.int .u64) (.cons .str .nil))))) (.cons .bool (.cons .bool (.cons .bool .nil))))))) (.cons .str (.cons .bool (.cons (.int .i64) .nil)))))], []⟩
abbrev find_Check.out : LSh := ⟨[(0, .val (.int .i64))], []⟩
abbrev find_Check.j0s : LSh := ⟨[(1, .ptr 1 0)], [(1, 24, [.val (.sl (.cons .str (.cons (.cons (.int .i64) (.cons .bool (.cons (.int .i64) (.cons (.int .u64) (.cons .str .nil))))) (.cons (.cons (.int .i64) (.cons .bool (.cons (.int .i64) (.cons (.int .u64) (.cons .str .nil))))) (.cons .bool (.cons .bool (.cons .bool .nil))))))), .val .str, .val .bool, .val (.int .i64)])]⟩
abbrev find_Check.l0s : LSh := ⟨[(26, .val (.sl (.cons .str (.cons (.cons (.int .i64) (.cons .bool (.cons (.int .i64) (.cons (.int .u64) (.cons .str .nil))))) (.cons (.cons (.int .i64) (.cons .bool (.cons (.int .i64) (.cons (.int .u64) (.cons .str .nil))))) (.cons .bool (.cons .bool (.cons .bool .nil)))))))), (27, .val (.int .i64)), (28, .val (.int .i64))], []⟩
noncomputable def find_Check.labF : Nat → List (LabF find_Check.out.den)
  | 11 => [⟨find_Check.j0s, fun k (d : (Unit × Unit) × (((List (ByteArray × (Int × Bool × Int × Int × ByteArray × Unit) × (Int × Bool × Int × Int × ByteArray × Unit) × Bool × Bool × Bool × Unit)) × ByteArray × Bool × Int × Unit) × Unit)) => (find_Check.j0 k d.2.1.1 d.2.1.2.1 d.2.1.2.2.1 d.2.1.2.2.2.1 : Option find_Check.R)⟩]
  | 12 => [⟨find_Check.l0s, fun k (d : ((List (ByteArray × (Int × Bool × Int × Int × ByteArray × Unit) × (Int × Bool × Int × Int × ByteArray × Unit) × Bool × Bool × Bool × Unit)) × Int × Int × Unit) × (Unit)) => (find_Check.l0 k d.1.1 d.1.2.1 d.1.2.2.1 : Option find_Check.R)⟩]
  | _ => []
noncomputable def find_Check.fd : FnD := ⟨Try.f10, find_Check.ini, find_Check.out, 1, [], [], find_Check.labF, fun k (d : ((List (ByteArray × (Int × Bool × Int × Int × ByteArray × Unit) × (Int × Bool × Int × Int × ByteArray × Unit) × Bool × Bool × Bool × Unit) × ByteArray × Bool × Int × Unit) × Unit) × (Unit)) => (find_Check.f k d.1.1 : Option find_Check.R), none, []⟩

/-! ### paper_Find_1_v0 : function 51 -/
abbrev paper_Find_1_v0.R := (Bool × Unit) × (Unit)
noncomputable def paper_Find_1_v0.f : Nat → (ByteArray × (Int × Bool × Int × Int × ByteArray × Unit) × Unit) → ByteArray → Option paper_Find_1_v0.R
  | 0, _, _ => none
  | k + 1, x0, o0_0 =>
    some ((x0.1.toList == o0_0.toList, ()), (()))
abbrev paper_Find_1_v0.ini : LSh := ⟨[(0, .val (.cons .str (.cons (.cons (.int .i64) (.cons .bool (.cons (.int .i64) (.cons (.int .u64) (.cons .str .nil))))) .nil))), (1, .ptr 1000000 0)], [(1000000, 9, [.val .str])]⟩
abbrev paper_Find_1_v0.out : LSh := ⟨[(0, .val .bool)], []⟩
noncomputable def paper_Find_1_v0.labF : Nat → List (LabF paper_Find_1_v0.out.den)
  | _ => []
noncomputable def paper_Find_1_v0.fd : FnD := ⟨Try.f51, paper_Find_1_v0.ini, paper_Find_1_v0.out, 1, [1000000], [1000000], paper_Find_1_v0.labF, fun k (d : ((ByteArray × (Int × Bool × Int × Int × ByteArray × Unit) × Unit) × Unit × Unit) × ((ByteArray × Unit) × Unit)) => (paper_Find_1_v0.f k d.1.1 d.2.1.1 : Option paper_Find_1_v0.R), none, []⟩

/-! ### slices_IndexFunc_api_Field_v0 : function 50 -/
abbrev slices_IndexFunc_api_Field_v0.R := (Int × Unit) × (Unit)
mutual
noncomputable def slices_IndexFunc_api_Field_v0.l0 : Nat → (List (ByteArray × (Int × Bool × Int × Int × ByteArray × Unit) × Unit)) → Int → Int → ByteArray → Option slices_IndexFunc_api_Field_v0.R
  | 0, _, _, _, _ => none
  | k + 1, x0, x7, x8, o0_0 =>
    bif decide ((x8 : Int) < x7) then
      (rdo x0 x8).bind fun t1 =>
      (paper_Find_1_v0.f k t1 o0_0).bind fun r2 =>
      bif r2.1.1 then
        some ((x8, ()), (()))
      else
        slices_IndexFunc_api_Field_v0.l0 k x0 x7 (IntKind.wrap .i64 (x8 + 1)) o0_0
    else
      some (((-1), ()), (()))
noncomputable def slices_IndexFunc_api_Field_v0.f : Nat → (List (ByteArray × (Int × Bool × Int × Int × ByteArray × Unit) × Unit)) → ByteArray → Option slices_IndexFunc_api_Field_v0.R
  | 0, _, _ => none
  | k + 1, x0, o0_0 =>
    slices_IndexFunc_api_Field_v0.l0 k x0 (x0.length : Int) 0 o0_0
end
abbrev slices_IndexFunc_api_Field_v0.ini : LSh := ⟨[(0, .val (.sl (.cons .str (.cons (.cons (.int .i64) (.cons .bool (.cons (.int .i64) (.cons (.int .u64) (.cons .str .nil))))) .nil)))), (1, .clo 51 [(1000000, 0)])], [(1000000, 9, [.val .str])]⟩
abbrev slices_IndexFunc_api_Field_v0.out : LSh := ⟨[(0, .val (.int .i64))], []⟩
abbrev slices_IndexFunc_api_Field_v0.l0s : LSh := ⟨[(0, .val (.sl (.cons .str (.cons (.cons (.int .i64) (.cons .bool (.cons (.int .i64) (.cons (.int .u64) (.cons .str .nil))))) .nil)))), (1, .clo 51 [(1000000, 0)]), (7, .val (.int .i64)), (8, .val (.int .i64))], [(1000000, 9, [.val .str])]⟩
noncomputable def slices_IndexFunc_api_Field_v0.labF : Nat → List (LabF slices_IndexFunc_api_Field_v0.out.den)
  | 4 => [⟨slices_IndexFunc_api_Field_v0.l0s, fun k (d : ((List (ByteArray × (Int × Bool × Int × Int × ByteArray × Unit) × Unit)) × Unit × Int × Int × Unit) × ((ByteArray × Unit) × Unit)) => (slices_IndexFunc_api_Field_v0.l0 k d.1.1 d.1.2.2.1 d.1.2.2.2.1 d.2.1.1 : Option slices_IndexFunc_api_Field_v0.R)⟩]
  | _ => []
noncomputable def slices_IndexFunc_api_Field_v0.fd : FnD := ⟨Try.f50, slices_IndexFunc_api_Field_v0.ini, slices_IndexFunc_api_Field_v0.out, 1, [1000000], [1000000], slices_IndexFunc_api_Field_v0.labF, fun k (d : ((List (ByteArray × (Int × Bool × Int × Int × ByteArray × Unit) × Unit)) × Unit × Unit) × ((ByteArray × Unit) × Unit)) => (slices_IndexFunc_api_Field_v0.f k d.1.1 d.2.1.1 : Option slices_IndexFunc_api_Field_v0.R), none, []⟩

/-! ### paper_Find : function 31 -/
abbrev paper_Find.R := (Int × Unit) × (Unit)
noncomputable def paper_Find.f : Nat → (ByteArray × Int × List (ByteArray × (Int × Bool × Int × Int × ByteArray × Unit) × Unit) × Unit) → ByteArray → Option paper_Find.R
  | 0, _, _ => none
  | k + 1, x0, x1 =>
    (slices_IndexFunc_api_Field_v0.f k x0.2.2.1 x1).bind fun r1 =>
    some ((r1.1.1, ()), (()))
abbrev paper_Find.ini : LSh := ⟨[(0, .val (.cons .str (.cons (.int .i64) (.cons (.sl (.cons .str (.cons (.cons (.int .i64) (.cons .bool (.cons (.int .i64) (.cons (.int .u64) (.cons .str .nil))))) .nil))) .nil)))), (1, .val .str)], []⟩
abbrev paper_Find.out : LSh := ⟨[(0, .val (.int .i64))], []⟩
noncomputable def paper_Find.labF : Nat → List (LabF paper_Find.out.den)
  | _ => []
noncomputable def paper_Find.fd : FnD := ⟨Try.f31, paper_Find.ini, paper_Find.out, 1, [], [], paper_Find.labF, fun k (d : ((ByteArray × Int × List (ByteArray × (Int × Bool × Int × Int × ByteArray × Unit) × Unit) × Unit) × ByteArray × Unit) × (Unit)) => (paper_Find.f k d.1.1 d.1.2.1 : Option paper_Find.R), none, []⟩

/-! ### value_sign : function 46 -/
abbrev value_sign.R := (Int × Unit) × (Unit)
noncomputable def value_sign.f : Nat → Bool → Bool → Option value_sign.R
  | 0, _, _ => none
  | k + 1, x0, x1 =>
    bif x0 then
      some (((-1), ()), (()))
    else
    bif x1 then
      some ((1, ()), (()))
    else
      some ((0, ()), (()))
abbrev value_sign.ini : LSh := ⟨[(0, .val .bool), (1, .val .bool)], []⟩
abbrev value_sign.out : LSh := ⟨[(0, .val (.int .i64))], []⟩
noncomputable def value_sign.labF : Nat → List (LabF value_sign.out.den)
  | _ => []
noncomputable def value_sign.fd : FnD := ⟨Try.f46, value_sign.ini, value_sign.out, 1, [], [], value_sign.labF, fun k (d : (Bool × Bool × Unit) × (Unit)) => (value_sign.f k d.1.1 d.1.2.1 : Option value_sign.R), none, []⟩

/-! ### value_rank : function 47 -/
abbrev value_rank.R := (Int × Unit) × (Unit)
noncomputable def value_rank.f : Nat → Int → Option value_rank.R
  | 0, _ => none
  | k + 1, x0 =>
    (ck (!decide ((63 : Int) < 0))).bind fun _ =>
    bif (Int.fdiv x0 (2 ^ (min (63 : Int).toNat (IntKind.bits .u64))) : Int) == 1 then
      some ((IntKind.wrap .u64 ((BitVec.ofInt (IntKind.bits .u64) (match IntKind.signed .u64 with | true => -1 | false => IntKind.max .u64) ^^^ BitVec.ofInt (IntKind.bits .u64) x0).toNat : Int), ()), (()))
    else
      some ((IntKind.wrap .u64 ((BitVec.ofInt (IntKind.bits .u64) x0 ||| BitVec.ofInt (IntKind.bits .u64) 9223372036854775808).toNat : Int), ()), (()))
abbrev value_rank.ini : LSh := ⟨[(0, .val (.int .u64))], []⟩
abbrev value_rank.out : LSh := ⟨[(0, .val (.int .u64))], []⟩
noncomputable def value_rank.labF : Nat → List (LabF value_rank.out.den)
  | _ => []
noncomputable def value_rank.fd : FnD := ⟨Try.f47, value_rank.ini, value_rank.out, 1, [], [], value_rank.labF, fun k (d : (Int × Unit) × (Unit)) => (value_rank.f k d.1.1 : Option value_rank.R), none, []⟩

/-! ### bytealg_CompareString : function 59 -/
abbrev bytealg_CompareString.R := (Int × Unit) × (Unit)
noncomputable def bytealg_CompareString.f : Nat → ByteArray → ByteArray → Option bytealg_CompareString.R
  | 0, _, _ => none
  | k + 1, x0, x1 =>
    (strCmp.f k x0 x1).bind fun r1 =>
    some ((r1.1.1, ()), (()))
abbrev bytealg_CompareString.ini : LSh := ⟨[(0, .val .str), (1, .val .str)], []⟩
abbrev bytealg_CompareString.out : LSh := ⟨[(0, .val (.int .i64))], []⟩
noncomputable def bytealg_CompareString.labF : Nat → List (LabF bytealg_CompareString.out.den)
  | _ => []
noncomputable def bytealg_CompareString.fd : FnD := ⟨Try.f59, bytealg_CompareString.ini, bytealg_CompareString.out, 1, [], [], bytealg_CompareString.labF, fun k (d : (ByteArray × ByteArray × Unit) × (Unit)) => (bytealg_CompareString.f k d.1.1 d.1.2.1 : Option bytealg_CompareString.R), none, []⟩

/-! ### strings_Compare : function 48 -/
abbrev strings_Compare.R := (Int × Unit) × (Unit)
noncomputable def strings_Compare.f : Nat → ByteArray → ByteArray → Option strings_Compare.R
  | 0, _, _ => none
  | k + 1, x0, x1 =>
    (bytealg_CompareString.f k x0 x1).bind fun r1 =>
    some ((r1.1.1, ()), (()))
abbrev strings_Compare.ini : LSh := ⟨[(0, .val .str), (1, .val .str)], []⟩
abbrev strings_Compare.out : LSh := ⟨[(0, .val (.int .i64))], []⟩
noncomputable def strings_Compare.labF : Nat → List (LabF strings_Compare.out.den)
  | _ => []
noncomputable def strings_Compare.fd : FnD := ⟨Try.f48, strings_Compare.ini, strings_Compare.out, 1, [], [], strings_Compare.labF, fun k (d : (ByteArray × ByteArray × Unit) × (Unit)) => (strings_Compare.f k d.1.1 d.1.2.1 : Option strings_Compare.R), none, []⟩

/-! ### value_Compare : function 29 -/
abbrev value_Compare.R := (Int × Unit) × (Unit)
noncomputable def value_Compare.f : Nat → (Int × Bool × Int × Int × ByteArray × Unit) → (Int × Bool × Int × Int × ByteArray × Unit) → Option value_Compare.R
  | 0, _, _ => none
  | k + 1, x0, x1 =>
    bif (x0.1 : Int) != x1.1 then
      (value_sign.f k (decide ((x0.1 : Int) < x1.1)) (decide ((x0.1 : Int) > x1.1))).bind fun r1 =>
      some ((r1.1.1, ()), (()))
    else
    bif (x0.1 : Int) == 1 then
      bif !x0.2.1 then
        bif x0.2.1 then
          (value_sign.f k x1.2.1 (!x1.2.1)).bind fun r2 =>
          some ((r2.1.1, ()), (()))
        else
          (value_sign.f k x1.2.1 false).bind fun r3 =>
          some ((r3.1.1, ()), (()))
      else
      bif x0.2.1 then
        (value_sign.f k false (!x1.2.1)).bind fun r4 =>
        some ((r4.1.1, ()), (()))
      else
        (value_sign.f k false false).bind fun r5 =>
        some ((r5.1.1, ()), (()))
    else
    bif (x0.1 : Int) == 2 then
      (value_sign.f k (decide ((x0.2.2.1 : Int) < x1.2.2.1)) (decide ((x0.2.2.1 : Int) > x1.2.2.1))).bind fun r6 =>
      some ((r6.1.1, ()), (()))
    else
    bif (x0.1 : Int) == 3 then
      (value_Clean.f k x0).bind fun r7 =>
      (value_rank.f k r7.1.1.2.2.2.1).bind fun r8 =>
      (value_Clean.f k x1).bind fun r9 =>
      (value_rank.f k r9.1.1.2.2.2.1).bind fun r10 =>
      (value_sign.f k (decide ((r8.1.1 : Int) < r10.1.1)) (decide ((r8.1.1 : Int) > r10.1.1))).bind fun r11 =>
      some ((r11.1.1, ()), (()))
    else
    bif (x0.1 : Int) == 4 then
      (strings_Compare.f k x0.2.2.2.2.1 x1.2.2.2.2.1).bind fun r12 =>
      some ((r12.1.1, ()), (()))
    else
      some ((0, ()), (()))
abbrev value_Compare.ini : LSh := ⟨[(0, .val (.cons (.int .i64) (.cons .bool (.cons (.int .i64) (.cons (.int .u64) (.cons .str .nil)))))), (1, .val (.cons (.int .i64) (.cons .bool (.cons (.int .i64) (.cons (.int .u64) (.cons .str .nil))))))], []⟩
abbrev value_Compare.out : LSh := ⟨[(0, .val (.int .i64))], []⟩
noncomputable def value_Compare.labF : Nat → List (LabF value_Compare.out.den)
  | _ => []
noncomputable def value_Compare.fd : FnD := ⟨Try.f29, value_Compare.ini, value_Compare.out, 1, [], [], value_Compare.labF, fun k (d : ((Int × Bool × Int × Int × ByteArray × Unit) × (Int × Bool × Int × Int × ByteArray × Unit) × Unit) × (Unit)) => (value_Compare.f k d.1.1 d.1.2.1 : Option value_Compare.R), none, []⟩

/-! ### find_between : function 32 -/
abbrev find_between.R := (Bool × Unit) × (Unit)
mutual
noncomputable def find_between.j0 : Nat → ByteArray → (Int × Bool × Int × Int × ByteArray × Unit) → (Int × Bool × Int × Int × ByteArray × Unit) → Bool → Bool → Bool → Int → Bool → Int → Int → ByteArray → Option find_between.R
  | 0, _, _, _, _, _, _, _, _, _, _, _ => none
  | k + 1, o2_0, o2_1, o2_2, o2_3, o2_4, o2_5, o3_0, o3_1, o3_2, o3_3, o3_4 =>
    bif !o2_4 then
      some ((true, ()), (()))
    else
    bif (o3_0 : Int) == o2_2.1 then
      (value_Compare.f k (o3_0, (o3_1, (o3_2, (o3_3, (o3_4, ()))))) o2_2).bind fun r2 =>
      some ((decide ((r2.1.1 : Int) ≤ 0), ()), (()))
    else
      some ((false, ()), (()))
noncomputable def find_between.f : Nat → (ByteArray × (Int × Bool × Int × Int × ByteArray × Unit) × (Int × Bool × Int × Int × ByteArray × Unit) × Bool × Bool × Bool × Unit) → (Int × Bool × Int × Int × ByteArray × Unit) → Option find_between.R
  | 0, _, _ => none
  | k + 1, x0, x1 =>
    bif x0.2.2.2.1 then
      bif (x1.1 : Int) != x0.2.1.1 then
        some ((false, ()), (()))
      else
        (value_Compare.f k x1 x0.2.1).bind fun r1 =>
        bif decide ((r1.1.1 : Int) < 0) then
          some ((false, ()), (()))
        else
          find_between.j0 k x0.1 x0.2.1 x0.2.2.1 x0.2.2.2.1 x0.2.2.2.2.1 x0.2.2.2.2.2.1 x1.1 x1.2.1 x1.2.2.1 x1.2.2.2.1 x1.2.2.2.2.1
    else
      find_between.j0 k x0.1 x0.2.1 x0.2.2.1 x0.2.2.2.1 x0.2.2.2.2.1 x0.2.2.2.2.2.1 x1.1 x1.2.1 x1.2.2.1 x1.2.2.2.1 x1.2.2.2.2.1
end
abbrev find_between.ini : LSh := ⟨[(0, .val (.cons .str (.cons (.cons (.int .i64) (.cons .bool (.cons (.int .i64) (.cons (.int .u64) (.cons .str .nil))))) (.cons (.cons (.int .i64) (.cons .bool (.cons (.int .i64) (.cons (.int .u64) (.cons .str .nil))))) (.cons .bool (.cons .bool (.cons .bool .nil))))))), (1, .val (.cons (.int .i64) (.cons .bool (.cons (.int .i64) (.cons (.int .u64) (.cons .str .nil))))))], []⟩
abbrev find_between.out : LSh := ⟨[(0, .val .bool)], []⟩
abbrev find_between.j0s : LSh := ⟨[(2, .ptr 2 0), (3, .ptr 3 0)], [(2, 37, [.val .str, .val (.cons (.int .i64) (.cons .bool (.cons (.int .i64) (.cons (.int .u64) (.cons .str .nil))))), .val (.cons (.int .i64) (.cons .bool (.cons (.int .i64) (.cons (.int .u64) (.cons .str .nil))))), .val .bool, .val .bool, .val .bool]), (3, 35, [.val (.int .i64), .val .bool, .val (.int .i64), .val (.int .u64), .val .str])]⟩
noncomputable def find_between.labF : Nat → List (LabF find_between.out.den)
  | 7 => [⟨find_between.j0s, fun k (d : (Unit × Unit × Unit) × ((ByteArray × (Int × Bool × Int × Int × ByteArray × Unit) × (Int × Bool × Int × Int × ByteArray × Unit) × Bool × Bool × Bool × Unit) × (Int × Bool × Int × Int × ByteArray × Unit) × Unit)) => (find_between.j0 k d.2.1.1 d.2.1.2.1 d.2.1.2.2.1 d.2.1.2.2.2.1 d.2.1.2.2.2.2.1 d.2.1.2.2.2.2.2.1 d.2.2.1.1 d.2.2.1.2.1 d.2.2.1.2.2.1 d.2.2.1.2.2.2.1 d.2.2.1.2.2.2.2.1 : Option find_between.R)⟩]
  | _ => []
noncomputable def find_between.fd : FnD := ⟨Try.f32, find_between.ini, find_between.out, 1, [], [], find_between.labF, fun k (d : ((ByteArray × (Int × Bool × Int × Int × ByteArray × Unit) × (Int × Bool × Int × Int × ByteArray × Unit) × Bool × Bool × Bool × Unit) × (Int × Bool × Int × Int × ByteArray × Unit) × Unit) × (Unit)) => (find_between.f k d.1.1 d.1.2.1 : Option find_between.R), none, []⟩

/-! ### find_Holds : function 12 -/
abbrev find_Holds.R := (Bool × Unit) × (Unit)
noncomputable def find_Holds.f : Nat → (ByteArray × (Int × Bool × Int × Int × ByteArray × Unit) × (Int × Bool × Int × Int × ByteArray × Unit) × Bool × Bool × Bool × Unit) → (ByteArray × Int × List (ByteArray × (Int × Bool × Int × Int × ByteArray × Unit) × Unit) × Unit) → Option find_Holds.R
  | 0, _, _ => none
  | k + 1, x0, x1 =>
    (paper_Find.f k x1 x0.1).bind fun r1 =>
    bif decide ((r1.1.1 : Int) ≥ 0) then
      (rdo x1.2.2.1 r1.1.1).bind fun t2 =>
      (find_between.f k x0 t2.2.1).bind fun r3 =>
      some ((!(r3.1.1 == x0.2.2.2.2.2.1), ()), (()))
    else
      some ((false, ()), (()))
abbrev find_Holds.ini : LSh := ⟨[(0, .val (.cons .str (.cons (.cons (.int .i64) (.cons .bool (.cons (.int .i64) (.cons (.int .u64) (.cons .str .nil))))) (.cons (.cons (.int .i64) (.cons .bool (.cons (.int .i64) (.cons (.int .u64) (.cons .str .nil))))) (.cons .bool (.cons .bool (.cons .bool .nil))))))), (1, .val (.cons .str (.cons (.int .i64) (.cons (.sl (.cons .str (.cons (.cons (.int .i64) (.cons .bool (.cons (.int .i64) (.cons (.int .u64) (.cons .str .nil))))) .nil))) .nil))))], []⟩
abbrev find_Holds.out : LSh := ⟨[(0, .val .bool)], []⟩
noncomputable def find_Holds.labF : Nat → List (LabF find_Holds.out.den)
  | _ => []
noncomputable def find_Holds.fd : FnD := ⟨Try.f12, find_Holds.ini, find_Holds.out, 1, [], [], find_Holds.labF, fun k (d : ((ByteArray × (Int × Bool × Int × Int × ByteArray × Unit) × (Int × Bool × Int × Int × ByteArray × Unit) × Bool × Bool × Bool × Unit) × (ByteArray × Int × List (ByteArray × (Int × Bool × Int × Int × ByteArray × Unit) × Unit) × Unit) × Unit) × (Unit)) => (find_Holds.f k d.1.1 d.1.2.1 : Option find_Holds.R), none, []⟩

/-! ### find_by : function 39 -/
abbrev find_by.R := ((Int × Bool × Int × Int × ByteArray × Unit) × Bool × Unit) × (Unit)
noncomputable def find_by.f : Nat → (ByteArray × Int × List (ByteArray × (Int × Bool × Int × Int × ByteArray × Unit) × Unit) × Unit) → ByteArray → Option find_by.R
  | 0, _, _ => none
  | k + 1, x0, x1 =>
    (paper_Find.f k x0 x1).bind fun r1 =>
    bif decide ((r1.1.1 : Int) < 0) then
      some (((0, (false, (0, (0, (ByteArray.empty, ()))))), false, ()), (()))
    else
      (rdo x0.2.2.1 r1.1.1).bind fun t2 =>
      some ((t2.2.1, true, ()), (()))
abbrev find_by.ini : LSh := ⟨[(0, .val (.cons .str (.cons (.int .i64) (.cons (.sl (.cons .str (.cons (.cons (.int .i64) (.cons .bool (.cons (.int .i64) (.cons (.int .u64) (.cons .str .nil))))) .nil))) .nil)))), (1, .val .str)], []⟩
abbrev find_by.out : LSh := ⟨[(0, .val (.cons (.int .i64) (.cons .bool (.cons (.int .i64) (.cons (.int .u64) (.cons .str .nil)))))), (1, .val .bool)], []⟩
noncomputable def find_by.labF : Nat → List (LabF find_by.out.den)
  | _ => []
noncomputable def find_by.fd : FnD := ⟨Try.f39, find_by.ini, find_by.out, 2, [], [], find_by.labF, fun k (d : ((ByteArray × Int × List (ByteArray × (Int × Bool × Int × Int × ByteArray × Unit) × Unit) × Unit) × ByteArray × Unit) × (Unit)) => (find_by.f k d.1.1 d.1.2.1 : Option find_by.R), none, []⟩

/-! ### find_compare : function 36 -/
abbrev find_compare.R := (Int × Unit) × (Unit)
noncomputable def find_compare.f : Nat → (ByteArray × Int × List (ByteArray × (Int × Bool × Int × Int × ByteArray × Unit) × Unit) × Unit) → (ByteArray × Int × List (ByteArray × (Int × Bool × Int × Int × ByteArray × Unit) × Unit) × Unit) → ByteArray → Bool → Option find_compare.R
  | 0, _, _, _, _ => none
  | k + 1, x0, x1, x2, x3 =>
    (find_by.f k x0 x2).bind fun r1 =>
    (find_by.f k x1 x2).bind fun r2 =>
    bif !r1.1.2.1 then
      bif !r2.1.2.1 then
        some ((0, ()), (()))
      else
      bif !r1.1.2.1 then
        some ((1, ()), (()))
      else
      bif !r2.1.2.1 then
        some (((-1), ()), (()))
      else
      bif x3 then
        (value_Compare.f k r2.1.1 r1.1.1).bind fun r3 =>
        some ((r3.1.1, ()), (()))
      else
        (value_Compare.f k r1.1.1 r2.1.1).bind fun r4 =>
        some ((r4.1.1, ()), (()))
    else
    bif !r1.1.2.1 then
      some ((1, ()), (()))
    else
    bif !r2.1.2.1 then
      some (((-1), ()), (()))
    else
    bif x3 then
      (value_Compare.f k r2.1.1 r1.1.1).bind fun r5 =>
      some ((r5.1.1, ()), (()))
    else
      (value_Compare.f k r1.1.1 r2.1.1).bind fun r6 =>
      some ((r6.1.1, ()), (()))
abbrev find_compare.ini : LSh := ⟨[(0, .val (.cons .str (.cons (.int .i64) (.cons (.sl (.cons .str (.cons (.cons (.int .i64) (.cons .bool (.cons (.int .i64) (.cons (.int .u64) (.cons .str .nil))))) .nil))) .nil)))), (1, .val (.cons .str (.cons (.int .i64) (.cons (.sl (.cons .str (.cons (.cons (.int .i64) (.cons .bool (.cons (.int .i64) (.cons (.int .u64) (.cons .str .nil))))) .nil))) .nil)))), (2, .val .str), (3, .val .bool)], []⟩
abbrev find_compare.out : LSh := ⟨[(0, .val (.int .i64))], []⟩
noncomputable def find_compare.labF : Nat → List (LabF find_compare.out.den)
  | _ => []
noncomputable def find_compare.fd : FnD := ⟨Try.f36, find_compare.ini, find_compare.out, 1, [], [], find_compare.labF, fun k (d : ((ByteArray × Int × List (ByteArray × (Int × Bool × Int × Int × ByteArray × Unit) × Unit) × Unit) × (ByteArray × Int × List (ByteArray × (Int × Bool × Int × Int × ByteArray × Unit) × Unit) × Unit) × ByteArray × Bool × Unit) × (Unit)) => (find_compare.f k d.1.1 d.1.2.1 d.1.2.2.1 d.1.2.2.2.1 : Option find_compare.R), none, []⟩

/-! ### find_Run_1_v0 : function 35 -/
abbrev find_Run_1_v0.R := (Int × Unit) × (Unit)
noncomputable def find_Run_1_v0.f : Nat → Int → Int → (List (ByteArray × Int × List (ByteArray × (Int × Bool × Int × Int × ByteArray × Unit) × Unit) × Unit)) → (List (ByteArray × (Int × Bool × Int × Int × ByteArray × Unit) × (Int × Bool × Int × Int × ByteArray × Unit) × Bool × Bool × Bool × Unit)) → ByteArray → Bool → Int → Option find_Run_1_v0.R
  | 0, _, _, _, _, _, _, _ => none
  | k + 1, x0, x1, o0_0, o1_0, o1_1, o1_2, o1_3 =>
    (rdo o0_0 x0).bind fun t1 =>
    (rdo o0_0 x1).bind fun t2 =>
    (find_compare.f k t1 t2 o1_1 o1_2).bind fun r3 =>
    some ((r3.1.1, ()), (()))
abbrev find_Run_1_v0.ini : LSh := ⟨[(0, .val (.int .i64)), (1, .val (.int .i64)), (2, .ptr 1000000 0), (3, .ptr 1000001 0)], [(1000000, 40, [.val (.sl (.cons .str (.cons (.int .i64) (.cons (.sl (.cons .str (.cons (.cons (.int .i64) (.cons .bool (.cons (.int .i64) (.cons (.int .u64) (.cons .str .nil))))) .nil))) .nil))))]), (1000001, 24, [.val (.sl (.cons .str (.cons (.cons (.int .i64) (.cons .bool (.cons (.int .i64) (.cons (.int .u64) (.cons .str .nil))))) (.cons (.cons (.int .i64) (.cons .bool (.cons (.int .i64) (.cons (.int .u64) (.cons .str .nil))))) (.cons .bool (.cons .bool (.cons .bool .nil))))))), .val .str, .val .bool, .val (.int .i64)])]⟩
abbrev find_Run_1_v0.out : LSh := ⟨[(0, .val (.int .i64))], []⟩
noncomputable def find_Run_1_v0.labF : Nat → List (LabF find_Run_1_v0.out.den)
  | _ => []
noncomputable def find_Run_1_v0.fd : FnD := ⟨Try.f35, find_Run_1_v0.ini, find_Run_1_v0.out, 1, [1000000, 1000001], [1000000, 1000001], find_Run_1_v0.labF, fun k (d : (Int × Int × Unit × Unit × Unit) × (((List (ByteArray × Int × List (ByteArray × (Int × Bool × Int × Int × ByteArray × Unit) × Unit) × Unit)) × Unit) × ((List (ByteArray × (Int × Bool × Int × Int × ByteArray × Unit) × (Int × Bool × Int × Int × ByteArray × Unit) × Bool × Bool × Bool × Unit)) × ByteArray × Bool × Int × Unit) × Unit)) => (find_Run_1_v0.f k d.1.1 d.1.2.1 d.2.1.1 d.2.2.1.1 d.2.2.1.2.1 d.2.2.1.2.2.1 d.2.2.1.2.2.2.1 : Option find_Run_1_v0.R), none, []⟩

/-! ### slices_insertionSortCmpFunc_int_v0 : function 61 -/
abbrev slices_insertionSortCmpFunc_int_v0.R := (List Int × Unit) × (Unit)
mutual
noncomputable def slices_insertionSortCmpFunc_int_v0.l0 : Nat → (List Int) → Int → Int → Int → (List (ByteArray × Int × List (ByteArray × (Int × Bool × Int × Int × ByteArray × Unit) × Unit) × Unit)) → (List (ByteArray × (Int × Bool × Int × Int × ByteArray × Unit) × (Int × Bool × Int × Int × ByteArray × Unit) × Bool × Bool × Bool × Unit)) → ByteArray → Bool → Int → Option slices_insertionSortCmpFunc_int_v0.R
  | 0, _, _, _, _, _, _, _, _, _ => none
  | k + 1, x0, x1, x2, x8, o0_0, o1_0, o1_1, o1_2, o1_3 =>
    bif decide ((x8 : Int) < x2) then
      slices_insertionSortCmpFunc_int_v0.l1 k x0 x1 x2 x8 x8 o0_0 o1_0 o1_1 o1_2 o1_3
    else
      some ((x0, ()), (()))
noncomputable def slices_insertionSortCmpFunc_int_v0.l1 : Nat → (List Int) → Int → Int → Int → Int → (List (ByteArray × Int × List (ByteArray × (Int × Bool × Int × Int × ByteArray × Unit) × Unit) × Unit)) → (List (ByteArray × (Int × Bool × Int × Int × ByteArray × Unit) × (Int × Bool × Int × Int × ByteArray × Unit) × Bool × Bool × Bool × Unit)) → ByteArray → Bool → Int → Option slices_insertionSortCmpFunc_int_v0.R
  | 0, _, _, _, _, _, _, _, _, _, _ => none
  | k + 1, x0, x1, x2, x8, x9, o0_0, o1_0, o1_1, o1_2, o1_3 =>
    bif decide ((x9 : Int) > x1) then
      (ck (decide (0 ≤ x9) && decide (x9 < (x0.length : Int)))).bind fun _ =>
      (rdo x0 x9).bind fun t1 =>
      (ck (decide (0 ≤ IntKind.wrap .i64 (x9 - 1)) && decide (IntKind.wrap .i64 (x9 - 1) < (x0.length : Int)))).bind fun _ =>
      (rdo x0 (IntKind.wrap .i64 (x9 - 1))).bind fun t2 =>
      (find_Run_1_v0.f k t1 t2 o0_0 o1_0 o1_1 o1_2 o1_3).bind fun r3 =>
      bif decide ((r3.1.1 : Int) < 0) then
        (ck (decide (0 ≤ IntKind.wrap .i64 (x9 - 1)) && decide (IntKind.wrap .i64 (x9 - 1) < (x0.length : Int)))).bind fun _ =>
        (rdo x0 (IntKind.wrap .i64 (x9 - 1))).bind fun t4 =>
        (ck (decide (0 ≤ x9) && decide (x9 < (x0.length : Int)))).bind fun _ =>
        (rdo x0 x9).bind fun t5 =>
        (ck (decide (0 ≤ x9) && decide (x9 < (x0.length : Int)))).bind fun _ =>
        (ck (decide (0 ≤ IntKind.wrap .i64 (x9 - 1)) && decide (IntKind.wrap .i64 (x9 - 1) < ((x0.set x9.toNat t4).length : Int)))).bind fun _ =>
        slices_insertionSortCmpFunc_int_v0.l1 k ((x0.set x9.toNat t4).set (IntKind.wrap .i64 (x9 - 1) : Int).toNat t5) x1 x2 x8 (IntKind.wrap .i64 (x9 - 1)) o0_0 o1_0 o1_1 o1_2 o1_3
      else
        slices_insertionSortCmpFunc_int_v0.l0 k x0 x1 x2 (IntKind.wrap .i64 (x8 + 1)) o0_0 o1_0 o1_1 o1_2 o1_3
    else
      slices_insertionSortCmpFunc_int_v0.l0 k x0 x1 x2 (IntKind.wrap .i64 (x8 + 1)) o0_0 o1_0 o1_1 o1_2 o1_3
noncomputable def slices_insertionSortCmpFunc_int_v0.f : Nat → (List Int) → Int → Int → (List (ByteArray × Int × List (ByteArray × (Int × Bool × Int × Int × ByteArray × Unit) × Unit) × Unit)) → (List (ByteArray × (Int × Bool × Int × Int × ByteArray × Unit) × (Int × Bool × Int × Int × ByteArray × Unit) × Bool × Bool × Bool × Unit)) → ByteArray → Bool → Int → Option slices_insertionSortCmpFunc_int_v0.R
  | 0, _, _, _, _, _, _, _, _ => none
  | k + 1, x0, x1, x2, o0_0, o1_0, o1_1, o1_2, o1_3 =>
    slices_insertionSortCmpFunc_int_v0.l0 k x0 x1 x2 (IntKind.wrap .i64 (x1 + 1)) o0_0 o1_0 o1_1 o1_2 o1_3
end
abbrev slices_insertionSortCmpFunc_int_v0.ini : LSh := ⟨[(0, .own 3900000 3 (.mu (.int .i64))), (1, .val (.int .i64)), (2, .val (.int .i64)), (3, .clo 35 [(1000000, 0), (1000001, 0)])], [(1000000, 40, [.val (.sl (.cons .str (.cons (.int .i64) (.cons (.sl (.cons .str (.cons (.cons (.int .i64) (.cons .bool (.cons (.int .i64) (.cons (.int .u64) (.cons .str .nil))))) .nil))) .nil))))]), (1000001, 24, [.val (.sl (.cons .str (.cons (.cons (.int .i64) (.cons .bool (.cons (.int .i64) (.cons (.int .u64) (.cons .str .nil))))) (.cons (.cons (.int .i64) (.cons .bool (.cons (.int .i64) (.cons (.int .u64) (.cons .str .nil))))) (.cons .bool (.cons .bool (.cons .bool .nil))))))), .val .str, .val .bool, .val (.int .i64)])]⟩
abbrev slices_insertionSortCmpFunc_int_v0.out : LSh := ⟨[(0, .own 3900000 3 (.mu (.int .i64)))], []⟩
abbrev slices_insertionSortCmpFunc_int_v0.l0s : LSh := ⟨[(0, .own 3900000 3 (.mu (.int .i64))), (1, .val (.int .i64)), (2, .val (.int .i64)), (3, .clo 35 [(1000000, 0), (1000001, 0)]), (8, .val (.int .i64))], [(1000000, 40, [.val (.sl (.cons .str (.cons (.int .i64) (.cons (.sl (.cons .str (.cons (.cons (.int .i64) (.cons .bool (.cons (.int .i64) (.cons (.int .u64) (.cons .str .nil))))) .nil))) .nil))))]), (1000001, 24, [.val (.sl (.cons .str (.cons (.cons (.int .i64) (.cons .bool (.cons (.int .i64) (.cons (.int .u64) (.cons .str .nil))))) (.cons (.cons (.int .i64) (.cons .bool (.cons (.int .i64) (.cons (.int .u64) (.cons .str .nil))))) (.cons .bool (.cons .bool (.cons .bool .nil))))))), .val .str, .val .bool, .val (.int .i64)])]⟩
abbrev slices_insertionSortCmpFunc_int_v0.l1s : LSh := ⟨[(0, .own 3900000 3 (.mu (.int .i64))), (1, .val (.int .i64)), (2, .val (.int .i64)), (3, .clo 35 [(1000000, 0), (1000001, 0)]), (8, .val (.int .i64)), (9, .val (.int .i64))], [(1000000, 40, [.val (.sl (.cons .str (.cons (.int .i64) (.cons (.sl (.cons .str (.cons (.cons (.int .i64) (.cons .bool (.cons (.int .i64) (.cons (.int .u64) (.cons .str .nil))))) .nil))) .nil))))]), (1000001, 24, [.val (.sl (.cons .str (.cons (.cons (.int .i64) (.cons .bool (.cons (.int .i64) (.cons (.int .u64) (.cons .str .nil))))) (.cons (.cons (.int .i64) (.cons .bool (.cons (.int .i64) (.cons (.int .u64) (.cons .str .nil))))) (.cons .bool (.cons .bool (.cons .bool .nil))))))), .val .str, .val .bool, .val (.int .i64)])]⟩
noncomputable def slices_insertionSortCmpFunc_int_v0.labF : Nat → List (LabF slices_insertionSortCmpFunc_int_v0.out.den)
  | 2 => [⟨slices_insertionSortCmpFunc_int_v0.l0s, fun k (d : (List Int × Int × Int × Unit × Int × Unit) × (((List (ByteArray × Int × List (ByteArray × (Int × Bool × Int × Int × ByteArray × Unit) × Unit) × Unit)) × Unit) × ((List (ByteArray × (Int × Bool × Int × Int × ByteArray × Unit) × (Int × Bool × Int × Int × ByteArray × Unit) × Bool × Bool × Bool × Unit)) × ByteArray × Bool × Int × Unit) × Unit)) => (slices_insertionSortCmpFunc_int_v0.l0 k d.1.1 d.1.2.1 d.1.2.2.1 d.1.2.2.2.2.1 d.2.1.1 d.2.2.1.1 d.2.2.1.2.1 d.2.2.1.2.2.1 d.2.2.1.2.2.2.1 : Option slices_insertionSortCmpFunc_int_v0.R)⟩]
  | 8 => [⟨slices_insertionSortCmpFunc_int_v0.l1s, fun k (d : (List Int × Int × Int × Unit × Int × Int × Unit) × (((List (ByteArray × Int × List (ByteArray × (Int × Bool × Int × Int × ByteArray × Unit) × Unit) × Unit)) × Unit) × ((List (ByteArray × (Int × Bool × Int × Int × ByteArray × Unit) × (Int × Bool × Int × Int × ByteArray × Unit) × Bool × Bool × Bool × Unit)) × ByteArray × Bool × Int × Unit) × Unit)) => (slices_insertionSortCmpFunc_int_v0.l1 k d.1.1 d.1.2.1 d.1.2.2.1 d.1.2.2.2.2.1 d.1.2.2.2.2.2.1 d.2.1.1 d.2.2.1.1 d.2.2.1.2.1 d.2.2.1.2.2.1 d.2.2.1.2.2.2.1 : Option slices_insertionSortCmpFunc_int_v0.R)⟩]
  | _ => []
noncomputable def slices_insertionSortCmpFunc_int_v0.fd : FnD := ⟨Try.f61, slices_insertionSortCmpFunc_int_v0.ini, slices_insertionSortCmpFunc_int_v0.out, 0, [1000000, 1000001], [1000000, 1000001], slices_insertionSortCmpFunc_int_v0.labF, fun k (d : (List Int × Int × Int × Unit × Unit) × (((List (ByteArray × Int × List (ByteArray × (Int × Bool × Int × Int × ByteArray × Unit) × Unit) × Unit)) × Unit) × ((List (ByteArray × (Int × Bool × Int × Int × ByteArray × Unit) × (Int × Bool × Int × Int × ByteArray × Unit) × Bool × Bool × Bool × Unit)) × ByteArray × Bool × Int × Unit) × Unit)) => (slices_insertionSortCmpFunc_int_v0.f k d.1.1 d.1.2.1 d.1.2.2.1 d.2.1.1 d.2.2.1.1 d.2.2.1.2.1 d.2.2.1.2.2.1 d.2.2.1.2.2.2.1 : Option slices_insertionSortCmpFunc_int_v0.R), none, []⟩

/-! ### slices_swapRangeCmpFunc_int_v0 : function 69 -/
abbrev slices_swapRangeCmpFunc_int_v0.R := (List Int × Unit) × (Unit)
mutual
noncomputable def slices_swapRangeCmpFunc_int_v0.l0 : Nat → (List Int) → Int → Int → Int → Int → (List (ByteArray × Int × List (ByteArray × (Int × Bool × Int × Int × ByteArray × Unit) × Unit) × Unit)) → (List (ByteArray × (Int × Bool × Int × Int × ByteArray × Unit) × (Int × Bool × Int × Int × ByteArray × Unit) × Bool × Bool × Bool × Unit)) → ByteArray → Bool → Int → Option slices_swapRangeCmpFunc_int_v0.R
  | 0, _, _, _, _, _, _, _, _, _, _ => none
  | k + 1, x0, x1, x2, x3, x10, o0_0, o1_0, o1_1, o1_2, o1_3 =>
    bif decide ((x10 : Int) < x3) then
      (ck (decide (0 ≤ IntKind.wrap .i64 (x2 + x10)) && decide (IntKind.wrap .i64 (x2 + x10) < (x0.length : Int)))).bind fun _ =>
      (rdo x0 (IntKind.wrap .i64 (x2 + x10))).bind fun t1 =>
      (ck (decide (0 ≤ IntKind.wrap .i64 (x1 + x10)) && decide (IntKind.wrap .i64 (x1 + x10) < (x0.length : Int)))).bind fun _ =>
      (rdo x0 (IntKind.wrap .i64 (x1 + x10))).bind fun t2 =>
      (ck (decide (0 ≤ IntKind.wrap .i64 (x1 + x10)) && decide (IntKind.wrap .i64 (x1 + x10) < (x0.length : Int)))).bind fun _ =>
      (ck (decide (0 ≤ IntKind.wrap .i64 (x2 + x10)) && decide (IntKind.wrap .i64 (x2 + x10) < ((x0.set (IntKind.wrap .i64 (x1 + x10) : Int).toNat t1).length : Int)))).bind fun _ =>
      slices_swapRangeCmpFunc_int_v0.l0 k ((x0.set (IntKind.wrap .i64 (x1 + x10) : Int).toNat t1).set (IntKind.wrap .i64 (x2 + x10) : Int).toNat t2) x1 x2 x3 (IntKind.wrap .i64 (x10 + 1)) o0_0 o1_0 o1_1 o1_2 o1_3
    else
      some ((x0, ()), (()))
noncomputable def slices_swapRangeCmpFunc_int_v0.f : Nat → (List Int) → Int → Int → Int → (List (ByteArray × Int × List (ByteArray × (Int × Bool × Int × Int × ByteArray × Unit) × Unit) × Unit)) → (List (ByteArray × (Int × Bool × Int × Int × ByteArray × Unit) × (Int × Bool × Int × Int × ByteArray × Unit) × Bool × Bool × Bool × Unit)) → ByteArray → Bool → Int → Option slices_swapRangeCmpFunc_int_v0.R
  | 0, _, _, _, _, _, _, _, _, _ => none
  | k + 1, x0, x1, x2, x3, o0_0, o1_0, o1_1, o1_2, o1_3 =>
    slices_swapRangeCmpFunc_int_v0.l0 k x0 x1 x2 x3 0 o0_0 o1_0 o1_1 o1_2 o1_3
end
abbrev slices_swapRangeCmpFunc_int_v0.ini : LSh := ⟨[(0, .own 3900000 3 (.mu (.int .i64))), (1, .val (.int .i64)), (2, .val (.int .i64)), (3, .val (.int .i64)), (4, .clo 35 [(1000000, 0), (1000001, 0)])], [(1000000, 40, [.val (.sl (.cons .str (.cons (.int .i64) (.cons (.sl (.cons .str (.cons (.cons (.int .i64) (.cons .bool (.cons (.int .i64) (.cons (.int .u64) (.cons .str .nil))))) .nil))) .nil))))]), (1000001, 24, [.val (.sl (.cons .str (.cons (.cons (.int .i64) (.cons .bool (.cons (.int .i64) (.cons (.int .u64) (.cons .str .nil))))) (.cons (.cons (.int .i64) (.cons .bool (.cons (.int .i64) (.cons (.int .u64) (.cons .str .nil))))) (.cons .bool (.cons .bool (.cons .bool .nil))))))), .val .str, .val .bool, .val (.int .i64)])]⟩
abbrev slices_swapRangeCmpFunc_int_v0.out : LSh := ⟨[(0, .own 3900000 3 (.mu (.int .i64)))], []⟩
abbrev slices_swapRangeCmpFunc_int_v0.l0s : LSh := ⟨[(0, .own 3900000 3 (.mu (.int .i64))), (1, .val (.int .i64)), (2, .val (.int .i64)), (3, .val (.int .i64)), (10, .val (.int .i64))], [(1000000, 40, [.val (.sl (.cons .str (.cons (.int .i64) (.cons (.sl (.cons .str (.cons (.cons (.int .i64) (.cons .bool (.cons (.int .i64) (.cons (.int .u64) (.cons .str .nil))))) .nil))) .nil))))]), (1000001, 24, [.val (.sl (.cons .str (.cons (.cons (.int .i64) (.cons .bool (.cons (.int .i64) (.cons (.int .u64) (.cons .str .nil))))) (.cons (.cons (.int .i64) (.cons .bool (.cons (.int .i64) (.cons (.int .u64) (.cons .str .nil))))) (.cons .bool (.cons .bool (.cons .bool .nil))))))), .val .str, .val .bool, .val (.int .i64)])]⟩
noncomputable def slices_swapRangeCmpFunc_int_v0.labF : Nat → List (LabF slices_swapRangeCmpFunc_int_v0.out.den)
  | 2 => [⟨slices_swapRangeCmpFunc_int_v0.l0s, fun k (d : (List Int × Int × Int × Int × Int × Unit) × (((List (ByteArray × Int × List (ByteArray × (Int × Bool × Int × Int × ByteArray × Unit) × Unit) × Unit)) × Unit) × ((List (ByteArray × (Int × Bool × Int × Int × ByteArray × Unit) × (Int × Bool × Int × Int × ByteArray × Unit) × Bool × Bool × Bool × Unit)) × ByteArray × Bool × Int × Unit) × Unit)) => (slices_swapRangeCmpFunc_int_v0.l0 k d.1.1 d.1.2.1 d.1.2.2.1 d.1.2.2.2.1 d.1.2.2.2.2.1 d.2.1.1 d.2.2.1.1 d.2.2.1.2.1 d.2.2.1.2.2.1 d.2.2.1.2.2.2.1 : Option slices_swapRangeCmpFunc_int_v0.R)⟩]
  | _ => []
noncomputable def slices_swapRangeCmpFunc_int_v0.fd : FnD := ⟨Try.f69, slices_swapRangeCmpFunc_int_v0.ini, slices_swapRangeCmpFunc_int_v0.out, 0, [1000000, 1000001], [1000000, 1000001], slices_swapRangeCmpFunc_int_v0.labF, fun k (d : (List Int × Int × Int × Int × Unit × Unit) × (((List (ByteArray × Int × List (ByteArray × (Int × Bool × Int × Int × ByteArray × Unit) × Unit) × Unit)) × Unit) × ((List (ByteArray × (Int × Bool × Int × Int × ByteArray × Unit) × (Int × Bool × Int × Int × ByteArray × Unit) × Bool × Bool × Bool × Unit)) × ByteArray × Bool × Int × Unit) × Unit)) => (slices_swapRangeCmpFunc_int_v0.f k d.1.1 d.1.2.1 d.1.2.2.1 d.1.2.2.2.1 d.2.1.1 d.2.2.1.1 d.2.2.1.2.1 d.2.2.1.2.2.1 d.2.2.1.2.2.2.1 : Option slices_swapRangeCmpFunc_int_v0.R), none, []⟩

/-! ### slices_rotateCmpFunc_int_v0 : function 67 -/
abbrev slices_rotateCmpFunc_int_v0.R := (List Int × Unit) × (Unit)
mutual
noncomputable def slices_rotateCmpFunc_int_v0.l0 : Nat → (List Int) → Int → Int → Int → (List (ByteArray × Int × List (ByteArray × (Int × Bool × Int × Int × ByteArray × Unit) × Unit) × Unit)) → (List (ByteArray × (Int × Bool × Int × Int × ByteArray × Unit) × (Int × Bool × Int × Int × ByteArray × Unit) × Bool × Bool × Bool × Unit)) → ByteArray → Bool → Int → Option slices_rotateCmpFunc_int_v0.R
  | 0, _, _, _, _, _, _, _, _, _ => none
  | k + 1, x0, x2, x10, x11, o0_0, o1_0, o1_1, o1_2, o1_3 =>
    bif (x10 : Int) != x11 then
      bif decide ((x10 : Int) > x11) then
        (slices_swapRangeCmpFunc_int_v0.f k x0 (IntKind.wrap .i64 (x2 - x10)) x2 x11 o0_0 o1_0 o1_1 o1_2 o1_3).bind fun r1 =>
        slices_rotateCmpFunc_int_v0.l0 k r1.1.1 x2 (IntKind.wrap .i64 (x10 - x11)) x11 o0_0 o1_0 o1_1 o1_2 o1_3
      else
        (slices_swapRangeCmpFunc_int_v0.f k x0 (IntKind.wrap .i64 (x2 - x10)) (IntKind.wrap .i64 ((IntKind.wrap .i64 (x2 + x11)) - x10)) x10 o0_0 o1_0 o1_1 o1_2 o1_3).bind fun r2 =>
        slices_rotateCmpFunc_int_v0.l0 k r2.1.1 x2 x10 (IntKind.wrap .i64 (x11 - x10)) o0_0 o1_0 o1_1 o1_2 o1_3
    else
      (slices_swapRangeCmpFunc_int_v0.f k x0 (IntKind.wrap .i64 (x2 - x10)) x2 x10 o0_0 o1_0 o1_1 o1_2 o1_3).bind fun r3 =>
      some ((r3.1.1, ()), (()))
noncomputable def slices_rotateCmpFunc_int_v0.f : Nat → (List Int) → Int → Int → Int → (List (ByteArray × Int × List (ByteArray × (Int × Bool × Int × Int × ByteArray × Unit) × Unit) × Unit)) → (List (ByteArray × (Int × Bool × Int × Int × ByteArray × Unit) × (Int × Bool × Int × Int × ByteArray × Unit) × Bool × Bool × Bool × Unit)) → ByteArray → Bool → Int → Option slices_rotateCmpFunc_int_v0.R
  | 0, _, _, _, _, _, _, _, _, _ => none
  | k + 1, x0, x1, x2, x3, o0_0, o1_0, o1_1, o1_2, o1_3 =>
    slices_rotateCmpFunc_int_v0.l0 k x0 x2 (IntKind.wrap .i64 (x2 - x1)) (IntKind.wrap .i64 (x3 - x2)) o0_0 o1_0 o1_1 o1_2 o1_3
end
abbrev slices_rotateCmpFunc_int_v0.ini : LSh := ⟨[(0, .own 3900000 3 (.mu (.int .i64))), (1, .val (.int .i64)), (2, .val (.int .i64)), (3, .val (.int .i64)), (4, .clo 35 [(1000000, 0), (1000001, 0)])], [(1000000, 40, [.val (.sl (.cons .str (.cons (.int .i64) (.cons (.sl (.cons .str (.cons (.cons (.int .i64) (.cons .bool (.cons (.int .i64) (.cons (.int .u64) (.cons .str .nil))))) .nil))) .nil))))]), (1000001, 24, [.val (.sl (.cons .str (.cons (.cons (.int .i64) (.cons .bool (.cons (.int .i64) (.cons (.int .u64) (.cons .str .nil))))) (.cons (.cons (.int .i64) (.cons .bool (.cons (.int .i64) (.cons (.int .u64) (.cons .str .nil))))) (.cons .bool (.cons .bool (.cons .bool .nil))))))), .val .str, .val .bool, .val (.int .i64)])]⟩
abbrev slices_rotateCmpFunc_int_v0.out : LSh := ⟨[(0, .own 3900000 3 (.mu (.int .i64)))], []⟩
abbrev slices_rotateCmpFunc_int_v0.l0s : LSh := ⟨[(0, .own 3900000 3 (.mu (.int .i64))), (2, .val (.int .i64)), (4, .clo 35 [(1000000, 0), (1000001, 0)]), (10, .val (.int .i64)), (11, .val (.int .i64))], [(1000000, 40, [.val (.sl (.cons .str (.cons (.int .i64) (.cons (.sl (.cons .str (.cons (.cons (.int .i64) (.cons .bool (.cons (.int .i64) (.cons (.int .u64) (.cons .str .nil))))) .nil))) .nil))))]), (1000001, 24, [.val (.sl (.cons .str (.cons (.cons (.int .i64) (.cons .bool (.cons (.int .i64) (.cons (.int .u64) (.cons .str .nil))))) (.cons (.cons (.int .i64) (.cons .bool (.cons (.int .i64) (.cons (.int .u64) (.cons .str .nil))))) (.cons .bool (.cons .bool (.cons .bool .nil))))))), .val .str, .val .bool, .val (.int .i64)])]⟩
noncomputable def slices_rotateCmpFunc_int_v0.labF : Nat → List (LabF slices_rotateCmpFunc_int_v0.out.den)
  | 4 => [⟨slices_rotateCmpFunc_int_v0.l0s, fun k (d : (List Int × Int × Unit × Int × Int × Unit) × (((List (ByteArray × Int × List (ByteArray × (Int × Bool × Int × Int × ByteArray × Unit) × Unit) × Unit)) × Unit) × ((List (ByteArray × (Int × Bool × Int × Int × ByteArray × Unit) × (Int × Bool × Int × Int × ByteArray × Unit) × Bool × Bool × Bool × Unit)) × ByteArray × Bool × Int × Unit) × Unit)) => (slices_rotateCmpFunc_int_v0.l0 k d.1.1 d.1.2.1 d.1.2.2.2.1 d.1.2.2.2.2.1 d.2.1.1 d.2.2.1.1 d.2.2.1.2.1 d.2.2.1.2.2.1 d.2.2.1.2.2.2.1 : Option slices_rotateCmpFunc_int_v0.R)⟩]
  | _ => []
noncomputable def slices_rotateCmpFunc_int_v0.fd : FnD := ⟨Try.f67, slices_rotateCmpFunc_int_v0.ini, slices_rotateCmpFunc_int_v0.out, 0, [1000000, 1000001], [1000000, 1000001], slices_rotateCmpFunc_int_v0.labF, fun k (d : (List Int × Int × Int × Int × Unit × Unit) × (((List (ByteArray × Int × List (ByteArray × (Int × Bool × Int × Int × ByteArray × Unit) × Unit) × Unit)) × Unit) × ((List (ByteArray × (Int × Bool × Int × Int × ByteArray × Unit) × (Int × Bool × Int × Int × ByteArray × Unit) × Bool × Bool × Bool × Unit)) × ByteArray × Bool × Int × Unit) × Unit)) => (slices_rotateCmpFunc_int_v0.f k d.1.1 d.1.2.1 d.1.2.2.1 d.1.2.2.2.1 d.2.1.1 d.2.2.1.1 d.2.2.1.2.1 d.2.2.1.2.2.1 d.2.2.1.2.2.2.1 : Option slices_rotateCmpFunc_int_v0.R), none, []⟩

/-! ### slices_symMergeCmpFunc_int_v0 : function 62 -/
abbrev slices_symMergeCmpFunc_int_v0.R := (List Int × Unit) × (Unit)
mutual
noncomputable def slices_symMergeCmpFunc_int_v0.l0 : Nat → (List Int) → Int → Int → Int → (List (ByteArray × Int × List (ByteArray × (Int × Bool × Int × Int × ByteArray × Unit) × Unit) × Unit)) → (List (ByteArray × (Int × Bool × Int × Int × ByteArray × Unit) × (Int × Bool × Int × Int × ByteArray × Unit) × Bool × Bool × Bool × Unit)) → ByteArray → Bool → Int → Option slices_symMergeCmpFunc_int_v0.R
  | 0, _, _, _, _, _, _, _, _, _ => none
  | k + 1, x0, x1, x10, x11, o0_0, o1_0, o1_1, o1_2, o1_3 =>
    bif decide ((x10 : Int) < x11) then
      (ck (!decide ((1 : Int) < 0))).bind fun _ =>
      (ck (decide (0 ≤ IntKind.wrap .i64 (Int.fdiv (IntKind.wrap .u64 (IntKind.wrap .i64 (x10 + x11))) (2 ^ (min (1 : Int).toNat (IntKind.bits .u64))))) && decide (IntKind.wrap .i64 (Int.fdiv (IntKind.wrap .u64 (IntKind.wrap .i64 (x10 + x11))) (2 ^ (min (1 : Int).toNat (IntKind.bits .u64)))) < (x0.length : Int)))).bind fun _ =>
      (rdo x0 (IntKind.wrap .i64 (Int.fdiv (IntKind.wrap .u64 (IntKind.wrap .i64 (x10 + x11))) (2 ^ (min (1 : Int).toNat (IntKind.bits .u64)))))).bind fun t1 =>
      (ck (decide (0 ≤ x1) && decide (x1 < (x0.length : Int)))).bind fun _ =>
      (rdo x0 x1).bind fun t2 =>
      (find_Run_1_v0.f k t1 t2 o0_0 o1_0 o1_1 o1_2 o1_3).bind fun r3 =>
      bif decide ((r3.1.1 : Int) < 0) then
        slices_symMergeCmpFunc_int_v0.l0 k x0 x1 (IntKind.wrap .i64 ((IntKind.wrap .i64 (Int.fdiv (IntKind.wrap .u64 (IntKind.wrap .i64 (x10 + x11))) (2 ^ (min (1 : Int).toNat (IntKind.bits .u64))))) + 1)) x11 o0_0 o1_0 o1_1 o1_2 o1_3
      else
        slices_symMergeCmpFunc_int_v0.l0 k x0 x1 x10 (IntKind.wrap .i64 (Int.fdiv (IntKind.wrap .u64 (IntKind.wrap .i64 (x10 + x11))) (2 ^ (min (1 : Int).toNat (IntKind.bits .u64))))) o0_0 o1_0 o1_1 o1_2 o1_3
    else
      slices_symMergeCmpFunc_int_v0.l2 k x0 x10 x1 o0_0 o1_0 o1_1 o1_2 o1_3
noncomputable def slices_symMergeCmpFunc_int_v0.l2 : Nat → (List Int) → Int → Int → (List (ByteArray × Int × List (ByteArray × (Int × Bool × Int × Int × ByteArray × Unit) × Unit) × Unit)) → (List (ByteArray × (Int × Bool × Int × Int × ByteArray × Unit) × (Int × Bool × Int × Int × ByteArray × Unit) × Bool × Bool × Bool × Unit)) → ByteArray → Bool → Int → Option slices_symMergeCmpFunc_int_v0.R
  | 0, _, _, _, _, _, _, _, _ => none
  | k + 1, x0, x10, x13, o0_0, o1_0, o1_1, o1_2, o1_3 =>
    bif decide ((x13 : Int) < IntKind.wrap .i64 (x10 - 1)) then
      (ck (decide (0 ≤ IntKind.wrap .i64 (x13 + 1)) && decide (IntKind.wrap .i64 (x13 + 1) < (x0.length : Int)))).bind fun _ =>
      (rdo x0 (IntKind.wrap .i64 (x13 + 1))).bind fun t7 =>
      (ck (decide (0 ≤ x13) && decide (x13 < (x0.length : Int)))).bind fun _ =>
      (rdo x0 x13).bind fun t8 =>
      (ck (decide (0 ≤ x13) && decide (x13 < (x0.length : Int)))).bind fun _ =>
      (ck (decide (0 ≤ IntKind.wrap .i64 (x13 + 1)) && decide (IntKind.wrap .i64 (x13 + 1) < ((x0.set x13.toNat t7).length : Int)))).bind fun _ =>
      slices_symMergeCmpFunc_int_v0.l2 k ((x0.set x13.toNat t7).set (IntKind.wrap .i64 (x13 + 1) : Int).toNat t8) x10 (IntKind.wrap .i64 (x13 + 1)) o0_0 o1_0 o1_1 o1_2 o1_3
    else
      some ((x0, ()), (()))
noncomputable def slices_symMergeCmpFunc_int_v0.l1 : Nat → (List Int) → Int → Int → Int → (List (ByteArray × Int × List (ByteArray × (Int × Bool × Int × Int × ByteArray × Unit) × Unit) × Unit)) → (List (ByteArray × (Int × Bool × Int × Int × ByteArray × Unit) × (Int × Bool × Int × Int × ByteArray × Unit) × Bool × Bool × Bool × Unit)) → ByteArray → Bool → Int → Option slices_symMergeCmpFunc_int_v0.R
  | 0, _, _, _, _, _, _, _, _, _ => none
  | k + 1, x0, x2, x14, x15, o0_0, o1_0, o1_1, o1_2, o1_3 =>
    bif decide ((x14 : Int) < x15) then
      (ck (!decide ((1 : Int) < 0))).bind fun _ =>
      (ck (decide (0 ≤ x2) && decide (x2 < (x0.length : Int)))).bind fun _ =>
      (rdo x0 x2).bind fun t4 =>
      (ck (decide (0 ≤ IntKind.wrap .i64 (Int.fdiv (IntKind.wrap .u64 (IntKind.wrap .i64 (x14 + x15))) (2 ^ (min (1 : Int).toNat (IntKind.bits .u64))))) && decide (IntKind.wrap .i64 (Int.fdiv (IntKind.wrap .u64 (IntKind.wrap .i64 (x14 + x15))) (2 ^ (min (1 : Int).toNat (IntKind.bits .u64)))) < (x0.length : Int)))).bind fun _ =>
      (rdo x0 (IntKind.wrap .i64 (Int.fdiv (IntKind.wrap .u64 (IntKind.wrap .i64 (x14 + x15))) (2 ^ (min (1 : Int).toNat (IntKind.bits .u64)))))).bind fun t5 =>
      (find_Run_1_v0.f k t4 t5 o0_0 o1_0 o1_1 o1_2 o1_3).bind fun r6 =>
      bif !(decide ((r6.1.1 : Int) < 0)) then
        slices_symMergeCmpFunc_int_v0.l1 k x0 x2 (IntKind.wrap .i64 ((IntKind.wrap .i64 (Int.fdiv (IntKind.wrap .u64 (IntKind.wrap .i64 (x14 + x15))) (2 ^ (min (1 : Int).toNat (IntKind.bits .u64))))) + 1)) x15 o0_0 o1_0 o1_1 o1_2 o1_3
      else
        slices_symMergeCmpFunc_int_v0.l1 k x0 x2 x14 (IntKind.wrap .i64 (Int.fdiv (IntKind.wrap .u64 (IntKind.wrap .i64 (x14 + x15))) (2 ^ (min (1 : Int).toNat (IntKind.bits .u64))))) o0_0 o1_0 o1_1 o1_2 o1_3
    else
      slices_symMergeCmpFunc_int_v0.l3 k x0 x14 x2 o0_0 o1_0 o1_1 o1_2 o1_3
noncomputable def slices_symMergeCmpFunc_int_v0.l3 : Nat → (List Int) → Int → Int → (List (ByteArray × Int × List (ByteArray × (Int × Bool × Int × Int × ByteArray × Unit) × Unit) × Unit)) → (List (ByteArray × (Int × Bool × Int × Int × ByteArray × Unit) × (Int × Bool × Int × Int × ByteArray × Unit) × Bool × Bool × Bool × Unit)) → ByteArray → Bool → Int → Option slices_symMergeCmpFunc_int_v0.R
  | 0, _, _, _, _, _, _, _, _ => none
  | k + 1, x0, x14, x17, o0_0, o1_0, o1_1, o1_2, o1_3 =>
    bif decide ((x17 : Int) > x14) then
      (ck (decide (0 ≤ IntKind.wrap .i64 (x17 - 1)) && decide (IntKind.wrap .i64 (x17 - 1) < (x0.length : Int)))).bind fun _ =>
      (rdo x0 (IntKind.wrap .i64 (x17 - 1))).bind fun t9 =>
      (ck (decide (0 ≤ x17) && decide (x17 < (x0.length : Int)))).bind fun _ =>
      (rdo x0 x17).bind fun t10 =>
      (ck (decide (0 ≤ x17) && decide (x17 < (x0.length : Int)))).bind fun _ =>
      (ck (decide (0 ≤ IntKind.wrap .i64 (x17 - 1)) && decide (IntKind.wrap .i64 (x17 - 1) < ((x0.set x17.toNat t9).length : Int)))).bind fun _ =>
      slices_symMergeCmpFunc_int_v0.l3 k ((x0.set x17.toNat t9).set (IntKind.wrap .i64 (x17 - 1) : Int).toNat t10) x14 (IntKind.wrap .i64 (x17 - 1)) o0_0 o1_0 o1_1 o1_2 o1_3
    else
      some ((x0, ()), (()))
noncomputable def slices_symMergeCmpFunc_int_v0.j0 : Nat → (List Int) → Int → Int → Int → Int → Int → Int → Int → (List (ByteArray × Int × List (ByteArray × (Int × Bool × Int × Int × ByteArray × Unit) × Unit) × Unit)) → (List (ByteArray × (Int × Bool × Int × Int × ByteArray × Unit) × (Int × Bool × Int × Int × ByteArray × Unit) × Bool × Bool × Bool × Unit)) → ByteArray → Bool → Int → Option slices_symMergeCmpFunc_int_v0.R
  | 0, _, _, _, _, _, _, _, _, _, _, _, _, _ => none
  | k + 1, x0, x1, x2, x3, x18, x19, x20, x21, o0_0, o1_0, o1_1, o1_2, o1_3 =>
    slices_symMergeCmpFunc_int_v0.l4 k x0 x1 x2 x3 x18 x19 x20 x21 (IntKind.wrap .i64 (x19 - 1)) o0_0 o1_0 o1_1 o1_2 o1_3
noncomputable def slices_symMergeCmpFunc_int_v0.l4 : Nat → (List Int) → Int → Int → Int → Int → Int → Int → Int → Int → (List (ByteArray × Int × List (ByteArray × (Int × Bool × Int × Int × ByteArray × Unit) × Unit) × Unit)) → (List (ByteArray × (Int × Bool × Int × Int × ByteArray × Unit) × (Int × Bool × Int × Int × ByteArray × Unit) × Bool × Bool × Bool × Unit)) → ByteArray → Bool → Int → Option slices_symMergeCmpFunc_int_v0.R
  | 0, _, _, _, _, _, _, _, _, _, _, _, _, _, _ => none
  | k + 1, x0, x1, x2, x3, x18, x19, x20, x21, x22, o0_0, o1_0, o1_1, o1_2, o1_3 =>
    bif decide ((x20 : Int) < x21) then
      (ck (!decide ((1 : Int) < 0))).bind fun _ =>
      (ck (decide (0 ≤ IntKind.wrap .i64 (x22 - (IntKind.wrap .i64 (Int.fdiv (IntKind.wrap .u64 (IntKind.wrap .i64 (x20 + x21))) (2 ^ (min (1 : Int).toNat (IntKind.bits .u64))))))) && decide (IntKind.wrap .i64 (x22 - (IntKind.wrap .i64 (Int.fdiv (IntKind.wrap .u64 (IntKind.wrap .i64 (x20 + x21))) (2 ^ (min (1 : Int).toNat (IntKind.bits .u64)))))) < (x0.length : Int)))).bind fun _ =>
      (rdo x0 (IntKind.wrap .i64 (x22 - (IntKind.wrap .i64 (Int.fdiv (IntKind.wrap .u64 (IntKind.wrap .i64 (x20 + x21))) (2 ^ (min (1 : Int).toNat (IntKind.bits .u64)))))))).bind fun t11 =>
      (ck (decide (0 ≤ IntKind.wrap .i64 (Int.fdiv (IntKind.wrap .u64 (IntKind.wrap .i64 (x20 + x21))) (2 ^ (min (1 : Int).toNat (IntKind.bits .u64))))) && decide (IntKind.wrap .i64 (Int.fdiv (IntKind.wrap .u64 (IntKind.wrap .i64 (x20 + x21))) (2 ^ (min (1 : Int).toNat (IntKind.bits .u64)))) < (x0.length : Int)))).bind fun _ =>
      (rdo x0 (IntKind.wrap .i64 (Int.fdiv (IntKind.wrap .u64 (IntKind.wrap .i64 (x20 + x21))) (2 ^ (min (1 : Int).toNat (IntKind.bits .u64)))))).bind fun t12 =>
      (find_Run_1_v0.f k t11 t12 o0_0 o1_0 o1_1 o1_2 o1_3).bind fun r13 =>
      bif !(decide ((r13.1.1 : Int) < 0)) then
        slices_symMergeCmpFunc_int_v0.l4 k x0 x1 x2 x3 x18 x19 (IntKind.wrap .i64 ((IntKind.wrap .i64 (Int.fdiv (IntKind.wrap .u64 (IntKind.wrap .i64 (x20 + x21))) (2 ^ (min (1 : Int).toNat (IntKind.bits .u64))))) + 1)) x21 x22 o0_0 o1_0 o1_1 o1_2 o1_3
      else
        slices_symMergeCmpFunc_int_v0.l4 k x0 x1 x2 x3 x18 x19 x20 (IntKind.wrap .i64 (Int.fdiv (IntKind.wrap .u64 (IntKind.wrap .i64 (x20 + x21))) (2 ^ (min (1 : Int).toNat (IntKind.bits .u64))))) x22 o0_0 o1_0 o1_1 o1_2 o1_3
    else
    bif decide ((x20 : Int) < x2) then
      bif decide ((x2 : Int) < IntKind.wrap .i64 (x19 - x20)) then
        (slices_rotateCmpFunc_int_v0.f k x0 x20 x2 (IntKind.wrap .i64 (x19 - x20)) o0_0 o1_0 o1_1 o1_2 o1_3).bind fun r14 =>
        slices_symMergeCmpFunc_int_v0.j1 k r14.1.1 x1 x3 x18 x20 (IntKind.wrap .i64 (x19 - x20)) o0_0 o1_0 o1_1 o1_2 o1_3
      else
        slices_symMergeCmpFunc_int_v0.j1 k x0 x1 x3 x18 x20 (IntKind.wrap .i64 (x19 - x20)) o0_0 o1_0 o1_1 o1_2 o1_3
    else
      slices_symMergeCmpFunc_int_v0.j1 k x0 x1 x3 x18 x20 (IntKind.wrap .i64 (x19 - x20)) o0_0 o1_0 o1_1 o1_2 o1_3
noncomputable def slices_symMergeCmpFunc_int_v0.j1 : Nat → (List Int) → Int → Int → Int → Int → Int → (List (ByteArray × Int × List (ByteArray × (Int × Bool × Int × Int × ByteArray × Unit) × Unit) × Unit)) → (List (ByteArray × (Int × Bool × Int × Int × ByteArray × Unit) × (Int × Bool × Int × Int × ByteArray × Unit) × Bool × Bool × Bool × Unit)) → ByteArray → Bool → Int → Option slices_symMergeCmpFunc_int_v0.R
  | 0, _, _, _, _, _, _, _, _, _, _, _ => none
  | k + 1, x0, x1, x3, x18, x20, x24, o0_0, o1_0, o1_1, o1_2, o1_3 =>
    bif decide ((x1 : Int) < x20) then
      bif decide ((x20 : Int) < x18) then
        (slices_symMergeCmpFunc_int_v0.f k x0 x1 x20 x18 o0_0 o1_0 o1_1 o1_2 o1_3).bind fun r15 =>
        slices_symMergeCmpFunc_int_v0.j2 k r15.1.1 x3 x18 x24 o0_0 o1_0 o1_1 o1_2 o1_3
      else
        slices_symMergeCmpFunc_int_v0.j2 k x0 x3 x18 x24 o0_0 o1_0 o1_1 o1_2 o1_3
    else
      slices_symMergeCmpFunc_int_v0.j2 k x0 x3 x18 x24 o0_0 o1_0 o1_1 o1_2 o1_3
noncomputable def slices_symMergeCmpFunc_int_v0.j2 : Nat → (List Int) → Int → Int → Int → (List (ByteArray × Int × List (ByteArray × (Int × Bool × Int × Int × ByteArray × Unit) × Unit) × Unit)) → (List (ByteArray × (Int × Bool × Int × Int × ByteArray × Unit) × (Int × Bool × Int × Int × ByteArray × Unit) × Bool × Bool × Bool × Unit)) → ByteArray → Bool → Int → Option slices_symMergeCmpFunc_int_v0.R
  | 0, _, _, _, _, _, _, _, _, _ => none
  | k + 1, x0, x3, x18, x24, o0_0, o1_0, o1_1, o1_2, o1_3 =>
    bif decide ((x18 : Int) < x24) then
      bif decide ((x24 : Int) < x3) then
        (slices_symMergeCmpFunc_int_v0.f k x0 x18 x24 x3 o0_0 o1_0 o1_1 o1_2 o1_3).bind fun r16 =>
        some ((r16.1.1, ()), (()))
      else
        some ((x0, ()), (()))
    else
      some ((x0, ()), (()))
noncomputable def slices_symMergeCmpFunc_int_v0.f : Nat → (List Int) → Int → Int → Int → (List (ByteArray × Int × List (ByteArray × (Int × Bool × Int × Int × ByteArray × Unit) × Unit) × Unit)) → (List (ByteArray × (Int × Bool × Int × Int × ByteArray × Unit) × (Int × Bool × Int × Int × ByteArray × Unit) × Bool × Bool × Bool × Unit)) → ByteArray → Bool → Int → Option slices_symMergeCmpFunc_int_v0.R
  | 0, _, _, _, _, _, _, _, _, _ => none
  | k + 1, x0, x1, x2, x3, o0_0, o1_0, o1_1, o1_2, o1_3 =>
    bif (IntKind.wrap .i64 (x2 - x1) : Int) == 1 then
      slices_symMergeCmpFunc_int_v0.l0 k x0 x1 x2 x3 o0_0 o1_0 o1_1 o1_2 o1_3
    else
    bif (IntKind.wrap .i64 (x3 - x2) : Int) == 1 then
      slices_symMergeCmpFunc_int_v0.l1 k x0 x2 x1 x2 o0_0 o1_0 o1_1 o1_2 o1_3
    else
      (ck (!decide ((1 : Int) < 0))).bind fun _ =>
      bif decide ((x2 : Int) > IntKind.wrap .i64 (Int.fdiv (IntKind.wrap .u64 (IntKind.wrap .i64 (x1 + x3))) (2 ^ (min (1 : Int).toNat (IntKind.bits .u64))))) then
        slices_symMergeCmpFunc_int_v0.j0 k x0 x1 x2 x3 (IntKind.wrap .i64 (Int.fdiv (IntKind.wrap .u64 (IntKind.wrap .i64 (x1 + x3))) (2 ^ (min (1 : Int).toNat (IntKind.bits .u64))))) (IntKind.wrap .i64 ((IntKind.wrap .i64 (Int.fdiv (IntKind.wrap .u64 (IntKind.wrap .i64 (x1 + x3))) (2 ^ (min (1 : Int).toNat (IntKind.bits .u64))))) + x2)) (IntKind.wrap .i64 ((IntKind.wrap .i64 ((IntKind.wrap .i64 (Int.fdiv (IntKind.wrap .u64 (IntKind.wrap .i64 (x1 + x3))) (2 ^ (min (1 : Int).toNat (IntKind.bits .u64))))) + x2)) - x3)) (IntKind.wrap .i64 (Int.fdiv (IntKind.wrap .u64 (IntKind.wrap .i64 (x1 + x3))) (2 ^ (min (1 : Int).toNat (IntKind.bits .u64))))) o0_0 o1_0 o1_1 o1_2 o1_3
      else
        slices_symMergeCmpFunc_int_v0.j0 k x0 x1 x2 x3 (IntKind.wrap .i64 (Int.fdiv (IntKind.wrap .u64 (IntKind.wrap .i64 (x1 + x3))) (2 ^ (min (1 : Int).toNat (IntKind.bits .u64))))) (IntKind.wrap .i64 ((IntKind.wrap .i64 (Int.fdiv (IntKind.wrap .u64 (IntKind.wrap .i64 (x1 + x3))) (2 ^ (min (1 : Int).toNat (IntKind.bits .u64))))) + x2)) x1 x2 o0_0 o1_0 o1_1 o1_2 o1_3
end
abbrev slices_symMergeCmpFunc_int_v0.ini : LSh := ⟨[(0, .own 3900000 3 (.mu (.int .i64))), (1, .val (.int .i64)), (2, .val (.int .i64)), (3, .val (.int .i64)), (4, .clo 35 [(1000000, 0), (1000001, 0)])], [(1000000, 40, [.val (.sl (.cons .str (.cons (.int .i64) (.cons (.sl (.cons .str (.cons (.cons (.int .i64) (.cons .bool (.cons (.int .i64) (.cons (.int .u64) (.cons .str .nil))))) .nil))) .nil))))]), (1000001, 24, [.val (.sl (.cons .str (.cons (.cons (.int .i64) (.cons .bool (.cons (.int .i64) (.cons (.int .u64) (.cons .str .nil))))) (.cons (.cons (.int .i64) (.cons .bool (.cons (.int .i64) (.cons (.int .u64) (.cons .str .nil))))) (.cons .bool (.cons .bool (.cons .bool .nil))))))), .val .str, .val .bool, .val (.int .i64)])]⟩
abbrev slices_symMergeCmpFunc_int_v0.out : LSh := ⟨[(0, .own 3900000 3 (.mu (.int .i64)))], []⟩
abbrev slices_symMergeCmpFunc_int_v0.l0s : LSh := ⟨[(0, .own 3900000 3 (.mu (.int .i64))), (1, .val (.int .i64)), (4, .clo 35 [(1000000, 0), (1000001, 0)]), (10, .val (.int .i64)), (11, .val (.int .i64))], [(1000000, 40, [.val (.sl (.cons .str (.cons (.int .i64) (.cons (.sl (.cons .str (.cons (.cons (.int .i64) (.cons .bool (.cons (.int .i64) (.cons (.int .u64) (.cons .str .nil))))) .nil))) .nil))))]), (1000001, 24, [.val (.sl (.cons .str (.cons (.cons (.int .i64) (.cons .bool (.cons (.int .i64) (.cons (.int .u64) (.cons .str .nil))))) (.cons (.cons (.int .i64) (.cons .bool (.cons (.int .i64) (.cons (.int .u64) (.cons .str .nil))))) (.cons .bool (.cons .bool (.cons .bool .nil))))))), .val .str, .val .bool, .val (.int .i64)])]⟩
abbrev slices_symMergeCmpFunc_int_v0.l2s : LSh := ⟨[(0, .own 3900000 3 (.mu (.int .i64))), (10, .val (.int .i64)), (13, .val (.int .i64))], [(1000000, 40, [.val (.sl (.cons .str (.cons (.int .i64) (.cons (.sl (.cons .str (.cons (.cons (.int .i64) (.cons .bool (.cons (.int .i64) (.cons (.int .u64) (.cons .str .nil))))) .nil))) .nil))))]), (1000001, 24, [.val (.sl (.cons .str (.cons (.cons (.int .i64) (.cons .bool (.cons (.int .i64) (.cons (.int .u64) (.cons .str .nil))))) (.cons (.cons (.int .i64) (.cons .bool (.cons (.int .i64) (.cons (.int .u64) (.cons .str .nil))))) (.cons .bool (.cons .bool (.cons .bool .nil))))))), .val .str, .val .bool, .val (.int .i64)])]⟩
abbrev slices_symMergeCmpFunc_int_v0.l1s : LSh := ⟨[(0, .own 3900000 3 (.mu (.int .i64))), (2, .val (.int .i64)), (4, .clo 35 [(1000000, 0), (1000001, 0)]), (14, .val (.int .i64)), (15, .val (.int .i64))], [(1000000, 40, [.val (.sl (.cons .str (.cons (.int .i64) (.cons (.sl (.cons .str (.cons (.cons (.int .i64) (.cons .bool (.cons (.int .i64) (.cons (.int .u64) (.cons .str .nil))))) .nil))) .nil))))]), (1000001, 24, [.val (.sl (.cons .str (.cons (.cons (.int .i64) (.cons .bool (.cons (.int .i64) (.cons (.int .u64) (.cons .str .nil))))) (.cons (.cons (.int .i64) (.cons .bool (.cons (.int .i64) (.cons (.int .u64) (.cons .str .nil))))) (.cons .bool (.cons .bool (.cons .bool .nil))))))), .val .str, .val .bool, .val (.int .i64)])]⟩
abbrev slices_symMergeCmpFunc_int_v0.l3s : LSh := ⟨[(0, .own 3900000 3 (.mu (.int .i64))), (14, .val (.int .i64)), (17, .val (.int .i64))], [(1000000, 40, [.val (.sl (.cons .str (.cons (.int .i64) (.cons (.sl (.cons .str (.cons (.cons (.int .i64) (.cons .bool (.cons (.int .i64) (.cons (.int .u64) (.cons .str .nil))))) .nil))) .nil))))]), (1000001, 24, [.val (.sl (.cons .str (.cons (.cons (.int .i64) (.cons .bool (.cons (.int .i64) (.cons (.int .u64) (.cons .str .nil))))) (.cons (.cons (.int .i64) (.cons .bool (.cons (.int .i64) (.cons (.int .u64) (.cons .str .nil))))) (.cons .bool (.cons .bool (.cons .bool .nil))))))), .val .str, .val .bool, .val (.int .i64)])]⟩
abbrev slices_symMergeCmpFunc_int_v0.j0s : LSh := ⟨[(0, .own 3900000 3 (.mu (.int .i64))), (1, .val (.int .i64)), (2, .val (.int .i64)), (3, .val (.int .i64)), (4, .clo 35 [(1000000, 0), (1000001, 0)]), (18, .val (.int .i64)), (19, .val (.int .i64)), (20, .val (.int .i64)), (21, .val (.int .i64))], [(1000000, 40, [.val (.sl (.cons .str (.cons (.int .i64) (.cons (.sl (.cons .str (.cons (.cons (.int .i64) (.cons .bool (.cons (.int .i64) (.cons (.int .u64) (.cons .str .nil))))) .nil))) .nil))))]), (1000001, 24, [.val (.sl (.cons .str (.cons (.cons (.int .i64) (.cons .bool (.cons (.int .i64) (.cons (.int .u64) (.cons .str .nil))))) (.cons (.cons (.int .i64) (.cons .bool (.cons (.int .i64) (.cons (.int .u64) (.cons .str .nil))))) (.cons .bool (.cons .bool (.cons .bool .nil))))))), .val .str, .val .bool, .val (.int .i64)])]⟩
abbrev slices_symMergeCmpFunc_int_v0.l4s : LSh := ⟨[(0, .own 3900000 3 (.mu (.int .i64))), (1, .val (.int .i64)), (2, .val (.int .i64)), (3, .val (.int .i64)), (4, .clo 35 [(1000000, 0), (1000001, 0)]), (18, .val (.int .i64)), (19, .val (.int .i64)), (20, .val (.int .i64)), (21, .val (.int .i64)), (22, .val (.int .i64))], [(1000000, 40, [.val (.sl (.cons .str (.cons (.int .i64) (.cons (.sl (.cons .str (.cons (.cons (.int .i64) (.cons .bool (.cons (.int .i64) (.cons (.int .u64) (.cons .str .nil))))) .nil))) .nil))))]), (1000001, 24, [.val (.sl (.cons .str (.cons (.cons (.int .i64) (.cons .bool (.cons (.int .i64) (.cons (.int .u64) (.cons .str .nil))))) (.cons (.cons (.int .i64) (.cons .bool (.cons (.int .i64) (.cons (.int .u64) (.cons .str .nil))))) (.cons .bool (.cons .bool (.cons .bool .nil))))))), .val .str, .val .bool, .val (.int .i64)])]⟩
abbrev slices_symMergeCmpFunc_int_v0.j1s : LSh := ⟨[(0, .own 3900000 3 (.mu (.int .i64))), (1, .val (.int .i64)), (3, .val (.int .i64)), (4, .clo 35 [(1000000, 0), (1000001, 0)]), (18, .val (.int .i64)), (20, .val (.int .i64)), (24, .val (.int .i64))], [(1000000, 40, [.val (.sl (.cons .str (.cons (.int .i64) (.cons (.sl (.cons .str (.cons (.cons (.int .i64) (.cons .bool (.cons (.int .i64) (.cons (.int .u64) (.cons .str .nil))))) .nil))) .nil))))]), (1000001, 24, [.val (.sl (.cons .str (.cons (.cons (.int .i64) (.cons .bool (.cons (.int .i64) (.cons (.int .u64) (.cons .str .nil))))) (.cons (.cons (.int .i64) (.cons .bool (.cons (.int .i64) (.cons (.int .u64) (.cons .str .nil))))) (.cons .bool (.cons .bool (.cons .bool .nil))))))), .val .str, .val .bool, .val (.int .i64)])]⟩
abbrev slices_symMergeCmpFunc_int_v0.j2s : LSh := ⟨[(0, .own 3900000 3 (.mu (.int .i64))), (3, .val (.int .i64)), (4, .clo 35 [(1000000, 0), (1000001, 0)]), (18, .val (.int .i64)), (24, .val (.int .i64))], [(1000000, 40, [.val (.sl (.cons .str (.cons (.int .i64) (.cons (.sl (.cons .str (.cons (.cons (.int .i64) (.cons .bool (.cons (.int .i64) (.cons (.int .u64) (.cons .str .nil))))) .nil))) .nil))))]), (1000001, 24, [.val (.sl (.cons .str (.cons (.cons (.int .i64) (.cons .bool (.cons (.int .i64) (.cons (.int .u64) (.cons .str .nil))))) (.cons (.cons (.int .i64) (.cons .bool (.cons (.int .i64) (.cons (.int .u64) (.cons .str .nil))))) (.cons .bool (.cons .bool (.cons .bool .nil))))))), .val .str, .val .bool, .val (.int .i64)])]⟩
noncomputable def slices_symMergeCmpFunc_int_v0.labF : Nat → List (LabF slices_symMergeCmpFunc_int_v0.out.den)
  | 6 => [⟨slices_symMergeCmpFunc_int_v0.l0s, fun k (d : (List Int × Int × Unit × Int × Int × Unit) × (((List (ByteArray × Int × List (ByteArray × (Int × Bool × Int × Int × ByteArray × Unit) × Unit) × Unit)) × Unit) × ((List (ByteArray × (Int × Bool × Int × Int × ByteArray × Unit) × (Int × Bool × Int × Int × ByteArray × Unit) × Bool × Bool × Bool × Unit)) × ByteArray × Bool × Int × Unit) × Unit)) => (slices_symMergeCmpFunc_int_v0.l0 k d.1.1 d.1.2.1 d.1.2.2.2.1 d.1.2.2.2.2.1 d.2.1.1 d.2.2.1.1 d.2.2.1.2.1 d.2.2.1.2.2.1 d.2.2.1.2.2.2.1 : Option slices_symMergeCmpFunc_int_v0.R)⟩]
  | 18 => [⟨slices_symMergeCmpFunc_int_v0.l2s, fun k (d : (List Int × Int × Int × Unit) × (((List (ByteArray × Int × List (ByteArray × (Int × Bool × Int × Int × ByteArray × Unit) × Unit) × Unit)) × Unit) × ((List (ByteArray × (Int × Bool × Int × Int × ByteArray × Unit) × (Int × Bool × Int × Int × ByteArray × Unit) × Bool × Bool × Bool × Unit)) × ByteArray × Bool × Int × Unit) × Unit)) => (slices_symMergeCmpFunc_int_v0.l2 k d.1.1 d.1.2.1 d.1.2.2.1 d.2.1.1 d.2.2.1.1 d.2.2.1.2.1 d.2.2.1.2.2.1 d.2.2.1.2.2.2.1 : Option slices_symMergeCmpFunc_int_v0.R)⟩]
  | 30 => [⟨slices_symMergeCmpFunc_int_v0.l1s, fun k (d : (List Int × Int × Unit × Int × Int × Unit) × (((List (ByteArray × Int × List (ByteArray × (Int × Bool × Int × Int × ByteArray × Unit) × Unit) × Unit)) × Unit) × ((List (ByteArray × (Int × Bool × Int × Int × ByteArray × Unit) × (Int × Bool × Int × Int × ByteArray × Unit) × Bool × Bool × Bool × Unit)) × ByteArray × Bool × Int × Unit) × Unit)) => (slices_symMergeCmpFunc_int_v0.l1 k d.1.1 d.1.2.1 d.1.2.2.2.1 d.1.2.2.2.2.1 d.2.1.1 d.2.2.1.1 d.2.2.1.2.1 d.2.2.1.2.2.1 d.2.2.1.2.2.2.1 : Option slices_symMergeCmpFunc_int_v0.R)⟩]
  | 42 => [⟨slices_symMergeCmpFunc_int_v0.l3s, fun k (d : (List Int × Int × Int × Unit) × (((List (ByteArray × Int × List (ByteArray × (Int × Bool × Int × Int × ByteArray × Unit) × Unit) × Unit)) × Unit) × ((List (ByteArray × (Int × Bool × Int × Int × ByteArray × Unit) × (Int × Bool × Int × Int × ByteArray × Unit) × Bool × Bool × Bool × Unit)) × ByteArray × Bool × Int × Unit) × Unit)) => (slices_symMergeCmpFunc_int_v0.l3 k d.1.1 d.1.2.1 d.1.2.2.1 d.2.1.1 d.2.2.1.1 d.2.2.1.2.1 d.2.2.1.2.2.1 d.2.2.1.2.2.2.1 : Option slices_symMergeCmpFunc_int_v0.R)⟩]
  | 65 => [⟨slices_symMergeCmpFunc_int_v0.j0s, fun k (d : (List Int × Int × Int × Int × Unit × Int × Int × Int × Int × Unit) × (((List (ByteArray × Int × List (ByteArray × (Int × Bool × Int × Int × ByteArray × Unit) × Unit) × Unit)) × Unit) × ((List (ByteArray × (Int × Bool × Int × Int × ByteArray × Unit) × (Int × Bool × Int × Int × ByteArray × Unit) × Bool × Bool × Bool × Unit)) × ByteArray × Bool × Int × Unit) × Unit)) => (slices_symMergeCmpFunc_int_v0.j0 k d.1.1 d.1.2.1 d.1.2.2.1 d.1.2.2.2.1 d.1.2.2.2.2.2.1 d.1.2.2.2.2.2.2.1 d.1.2.2.2.2.2.2.2.1 d.1.2.2.2.2.2.2.2.2.1 d.2.1.1 d.2.2.1.1 d.2.2.1.2.1 d.2.2.1.2.2.1 d.2.2.1.2.2.2.1 : Option slices_symMergeCmpFunc_int_v0.R)⟩]
  | 66 => [⟨slices_symMergeCmpFunc_int_v0.l4s, fun k (d : (List Int × Int × Int × Int × Unit × Int × Int × Int × Int × Int × Unit) × (((List (ByteArray × Int × List (ByteArray × (Int × Bool × Int × Int × ByteArray × Unit) × Unit) × Unit)) × Unit) × ((List (ByteArray × (Int × Bool × Int × Int × ByteArray × Unit) × (Int × Bool × Int × Int × ByteArray × Unit) × Bool × Bool × Bool × Unit)) × ByteArray × Bool × Int × Unit) × Unit)) => (slices_symMergeCmpFunc_int_v0.l4 k d.1.1 d.1.2.1 d.1.2.2.1 d.1.2.2.2.1 d.1.2.2.2.2.2.1 d.1.2.2.2.2.2.2.1 d.1.2.2.2.2.2.2.2.1 d.1.2.2.2.2.2.2.2.2.1 d.1.2.2.2.2.2.2.2.2.2.1 d.2.1.1 d.2.2.1.1 d.2.2.1.2.1 d.2.2.1.2.2.1 d.2.2.1.2.2.2.1 : Option slices_symMergeCmpFunc_int_v0.R)⟩]
  | 83 => [⟨slices_symMergeCmpFunc_int_v0.j1s, fun k (d : (List Int × Int × Int × Unit × Int × Int × Int × Unit) × (((List (ByteArray × Int × List (ByteArray × (Int × Bool × Int × Int × ByteArray × Unit) × Unit) × Unit)) × Unit) × ((List (ByteArray × (Int × Bool × Int × Int × ByteArray × Unit) × (Int × Bool × Int × Int × ByteArray × Unit) × Bool × Bool × Bool × Unit)) × ByteArray × Bool × Int × Unit) × Unit)) => (slices_symMergeCmpFunc_int_v0.j1 k d.1.1 d.1.2.1 d.1.2.2.1 d.1.2.2.2.2.1 d.1.2.2.2.2.2.1 d.1.2.2.2.2.2.2.1 d.2.1.1 d.2.2.1.1 d.2.2.1.2.1 d.2.2.1.2.2.1 d.2.2.1.2.2.2.1 : Option slices_symMergeCmpFunc_int_v0.R)⟩]
  | 87 => [⟨slices_symMergeCmpFunc_int_v0.j2s, fun k (d : (List Int × Int × Unit × Int × Int × Unit) × (((List (ByteArray × Int × List (ByteArray × (Int × Bool × Int × Int × ByteArray × Unit) × Unit) × Unit)) × Unit) × ((List (ByteArray × (Int × Bool × Int × Int × ByteArray × Unit) × (Int × Bool × Int × Int × ByteArray × Unit) × Bool × Bool × Bool × Unit)) × ByteArray × Bool × Int × Unit) × Unit)) => (slices_symMergeCmpFunc_int_v0.j2 k d.1.1 d.1.2.1 d.1.2.2.2.1 d.1.2.2.2.2.1 d.2.1.1 d.2.2.1.1 d.2.2.1.2.1 d.2.2.1.2.2.1 d.2.2.1.2.2.2.1 : Option slices_symMergeCmpFunc_int_v0.R)⟩]
  | _ => []
noncomputable def slices_symMergeCmpFunc_int_v0.fd : FnD := ⟨Try.f62, slices_symMergeCmpFunc_int_v0.ini, slices_symMergeCmpFunc_int_v0.out, 0, [1000000, 1000001], [1000000, 1000001], slices_symMergeCmpFunc_int_v0.labF, fun k (d : (List Int × Int × Int × Int × Unit × Unit) × (((List (ByteArray × Int × List (ByteArray × (Int × Bool × Int × Int × ByteArray × Unit) × Unit) × Unit)) × Unit) × ((List (ByteArray × (Int × Bool × Int × Int × ByteArray × Unit) × (Int × Bool × Int × Int × ByteArray × Unit) × Bool × Bool × Bool × Unit)) × ByteArray × Bool × Int × Unit) × Unit)) => (slices_symMergeCmpFunc_int_v0.f k d.1.1 d.1.2.1 d.1.2.2.1 d.1.2.2.2.1 d.2.1.1 d.2.2.1.1 d.2.2.1.2.1 d.2.2.1.2.2.1 d.2.2.1.2.2.2.1 : Option slices_symMergeCmpFunc_int_v0.R), none, []⟩

/-! ### slices_stableCmpFunc_int_v0 : function 52 -/
abbrev slices_stableCmpFunc_int_v0.R := (List Int × Unit) × (Unit)
mutual
noncomputable def slices_stableCmpFunc_int_v0.l0 : Nat → (List Int) → Int → Int → Int → Int → (List (ByteArray × Int × List (ByteArray × (Int × Bool × Int × Int × ByteArray × Unit) × Unit) × Unit)) → (List (ByteArray × (Int × Bool × Int × Int × ByteArray × Unit) × (Int × Bool × Int × Int × ByteArray × Unit) × Bool × Bool × Bool × Unit)) → ByteArray → Bool → Int → Option slices_stableCmpFunc_int_v0.R
  | 0, _, _, _, _, _, _, _, _, _, _ => none
  | k + 1, x0, x1, x6, x7, x8, o0_0, o1_0, o1_1, o1_2, o1_3 =>
    bif decide ((x8 : Int) ≤ x1) then
      (slices_insertionSortCmpFunc_int_v0.f k x0 x7 x8 o0_0 o1_0 o1_1 o1_2 o1_3).bind fun r1 =>
      slices_stableCmpFunc_int_v0.l0 k r1.1.1 x1 x6 x8 (IntKind.wrap .i64 (x8 + x6)) o0_0 o1_0 o1_1 o1_2 o1_3
    else
      (slices_insertionSortCmpFunc_int_v0.f k x0 x7 x1 o0_0 o1_0 o1_1 o1_2 o1_3).bind fun r2 =>
      slices_stableCmpFunc_int_v0.l1 k r2.1.1 x1 x6 o0_0 o1_0 o1_1 o1_2 o1_3
noncomputable def slices_stableCmpFunc_int_v0.l1 : Nat → (List Int) → Int → Int → (List (ByteArray × Int × List (ByteArray × (Int × Bool × Int × Int × ByteArray × Unit) × Unit) × Unit)) → (List (ByteArray × (Int × Bool × Int × Int × ByteArray × Unit) × (Int × Bool × Int × Int × ByteArray × Unit) × Bool × Bool × Bool × Unit)) → ByteArray → Bool → Int → Option slices_stableCmpFunc_int_v0.R
  | 0, _, _, _, _, _, _, _, _ => none
  | k + 1, x0, x1, x6, o0_0, o1_0, o1_1, o1_2, o1_3 =>
    bif decide ((x6 : Int) < x1) then
      slices_stableCmpFunc_int_v0.l2 k x0 x1 x6 0 (IntKind.wrap .i64 (2 * x6)) o0_0 o1_0 o1_1 o1_2 o1_3
    else
      some ((x0, ()), (()))
noncomputable def slices_stableCmpFunc_int_v0.l2 : Nat → (List Int) → Int → Int → Int → Int → (List (ByteArray × Int × List (ByteArray × (Int × Bool × Int × Int × ByteArray × Unit) × Unit) × Unit)) → (List (ByteArray × (Int × Bool × Int × Int × ByteArray × Unit) × (Int × Bool × Int × Int × ByteArray × Unit) × Bool × Bool × Bool × Unit)) → ByteArray → Bool → Int → Option slices_stableCmpFunc_int_v0.R
  | 0, _, _, _, _, _, _, _, _, _, _ => none
  | k + 1, x0, x1, x6, x7, x8, o0_0, o1_0, o1_1, o1_2, o1_3 =>
    bif decide ((x8 : Int) ≤ x1) then
      (slices_symMergeCmpFunc_int_v0.f k x0 x7 (IntKind.wrap .i64 (x7 + x6)) x8 o0_0 o1_0 o1_1 o1_2 o1_3).bind fun r3 =>
      slices_stableCmpFunc_int_v0.l2 k r3.1.1 x1 x6 x8 (IntKind.wrap .i64 (x8 + (IntKind.wrap .i64 (2 * x6)))) o0_0 o1_0 o1_1 o1_2 o1_3
    else
    bif decide ((IntKind.wrap .i64 (x7 + x6) : Int) < x1) then
      (slices_symMergeCmpFunc_int_v0.f k x0 x7 (IntKind.wrap .i64 (x7 + x6)) x1 o0_0 o1_0 o1_1 o1_2 o1_3).bind fun r4 =>
      slices_stableCmpFunc_int_v0.l1 k r4.1.1 x1 (IntKind.wrap .i64 (x6 * 2)) o0_0 o1_0 o1_1 o1_2 o1_3
    else
      slices_stableCmpFunc_int_v0.l1 k x0 x1 (IntKind.wrap .i64 (x6 * 2)) o0_0 o1_0 o1_1 o1_2 o1_3
noncomputable def slices_stableCmpFunc_int_v0.f : Nat → (List Int) → Int → (List (ByteArray × Int × List (ByteArray × (Int × Bool × Int × Int × ByteArray × Unit) × Unit) × Unit)) → (List (ByteArray × (Int × Bool × Int × Int × ByteArray × Unit) × (Int × Bool × Int × Int × ByteArray × Unit) × Bool × Bool × Bool × Unit)) → ByteArray → Bool → Int → Option slices_stableCmpFunc_int_v0.R
  | 0, _, _, _, _, _, _, _ => none
  | k + 1, x0, x1, o0_0, o1_0, o1_1, o1_2, o1_3 =>
    slices_stableCmpFunc_int_v0.l0 k x0 x1 20 0 20 o0_0 o1_0 o1_1 o1_2 o1_3
end
abbrev slices_stableCmpFunc_int_v0.ini : LSh := ⟨[(0, .own 3900000 3 (.mu (.int .i64))), (1, .val (.int .i64)), (2, .clo 35 [(1000000, 0), (1000001, 0)])], [(1000000, 40, [.val (.sl (.cons .str (.cons (.int .i64) (.cons (.sl (.cons .str (.cons (.cons (.int .i64) (.cons .bool (.cons (.int .i64) (.cons (.int .u64) (.cons .str .nil))))) .nil))) .nil))))]), (1000001, 24, [.val (.sl (.cons .str (.cons (.cons (.int .i64) (.cons .bool (.cons (.int .i64) (.cons (.int .u64) (.cons .str .nil))))) (.cons (.cons (.int .i64) (.cons .bool (.cons (.int .i64) (.cons (.int .u64) (.cons .str .nil))))) (.cons .bool (.cons .bool (.cons .bool .nil))))))), .val .str, .val .bool, .val (.int .i64)])]⟩
abbrev slices_stableCmpFunc_int_v0.out : LSh := ⟨[(0, .own 3900000 3 (.mu (.int .i64)))], []⟩
abbrev slices_stableCmpFunc_int_v0.l0s : LSh := ⟨[(0, .own 3900000 3 (.mu (.int .i64))), (1, .val (.int .i64)), (2, .clo 35 [(1000000, 0), (1000001, 0)]), (6, .val (.int .i64)), (7, .val (.int .i64)), (8, .val (.int .i64))], [(1000000, 40, [.val (.sl (.cons .str (.cons (.int .i64) (.cons (.sl (.cons .str (.cons (.cons (.int .i64) (.cons .bool (.cons (.int .i64) (.cons (.int .u64) (.cons .str .nil))))) .nil))) .nil))))]), (1000001, 24, [.val (.sl (.cons .str (.cons (.cons (.int .i64) (.cons .bool (.cons (.int .i64) (.cons (.int .u64) (.cons .str .nil))))) (.cons (.cons (.int .i64) (.cons .bool (.cons (.int .i64) (.cons (.int .u64) (.cons .str .nil))))) (.cons .bool (.cons .bool (.cons .bool .nil))))))), .val .str, .val .bool, .val (.int .i64)])]⟩
abbrev slices_stableCmpFunc_int_v0.l1s : LSh := ⟨[(0, .own 3900000 3 (.mu (.int .i64))), (1, .val (.int .i64)), (2, .clo 35 [(1000000, 0), (1000001, 0)]), (6, .val (.int .i64))], [(1000000, 40, [.val (.sl (.cons .str (.cons (.int .i64) (.cons (.sl (.cons .str (.cons (.cons (.int .i64) (.cons .bool (.cons (.int .i64) (.cons (.int .u64) (.cons .str .nil))))) .nil))) .nil))))]), (1000001, 24, [.val (.sl (.cons .str (.cons (.cons (.int .i64) (.cons .bool (.cons (.int .i64) (.cons (.int .u64) (.cons .str .nil))))) (.cons (.cons (.int .i64) (.cons .bool (.cons (.int .i64) (.cons (.int .u64) (.cons .str .nil))))) (.cons .bool (.cons .bool (.cons .bool .nil))))))), .val .str, .val .bool, .val (.int .i64)])]⟩
abbrev slices_stableCmpFunc_int_v0.l2s : LSh := ⟨[(0, .own 3900000 3 (.mu (.int .i64))), (1, .val (.int .i64)), (2, .clo 35 [(1000000, 0), (1000001, 0)]), (6, .val (.int .i64)), (7, .val (.int .i64)), (8, .val (.int .i64))], [(1000000, 40, [.val (.sl (.cons .str (.cons (.int .i64) (.cons (.sl (.cons .str (.cons (.cons (.int .i64) (.cons .bool (.cons (.int .i64) (.cons (.int .u64) (.cons .str .nil))))) .nil))) .nil))))]), (1000001, 24, [.val (.sl (.cons .str (.cons (.cons (.int .i64) (.cons .bool (.cons (.int .i64) (.cons (.int .u64) (.cons .str .nil))))) (.cons (.cons (.int .i64) (.cons .bool (.cons (.int .i64) (.cons (.int .u64) (.cons .str .nil))))) (.cons .bool (.cons .bool (.cons .bool .nil))))))), .val .str, .val .bool, .val (.int .i64)])]⟩
noncomputable def slices_stableCmpFunc_int_v0.labF : Nat → List (LabF slices_stableCmpFunc_int_v0.out.den)
  | 4 => [⟨slices_stableCmpFunc_int_v0.l0s, fun k (d : (List Int × Int × Unit × Int × Int × Int × Unit) × (((List (ByteArray × Int × List (ByteArray × (Int × Bool × Int × Int × ByteArray × Unit) × Unit) × Unit)) × Unit) × ((List (ByteArray × (Int × Bool × Int × Int × ByteArray × Unit) × (Int × Bool × Int × Int × ByteArray × Unit) × Bool × Bool × Bool × Unit)) × ByteArray × Bool × Int × Unit) × Unit)) => (slices_stableCmpFunc_int_v0.l0 k d.1.1 d.1.2.1 d.1.2.2.2.1 d.1.2.2.2.2.1 d.1.2.2.2.2.2.1 d.2.1.1 d.2.2.1.1 d.2.2.1.2.1 d.2.2.1.2.2.1 d.2.2.1.2.2.2.1 : Option slices_stableCmpFunc_int_v0.R)⟩]
  | 14 => [⟨slices_stableCmpFunc_int_v0.l1s, fun k (d : (List Int × Int × Unit × Int × Unit) × (((List (ByteArray × Int × List (ByteArray × (Int × Bool × Int × Int × ByteArray × Unit) × Unit) × Unit)) × Unit) × ((List (ByteArray × (Int × Bool × Int × Int × ByteArray × Unit) × (Int × Bool × Int × Int × ByteArray × Unit) × Bool × Bool × Bool × Unit)) × ByteArray × Bool × Int × Unit) × Unit)) => (slices_stableCmpFunc_int_v0.l1 k d.1.1 d.1.2.1 d.1.2.2.2.1 d.2.1.1 d.2.2.1.1 d.2.2.1.2.1 d.2.2.1.2.2.1 d.2.2.1.2.2.2.1 : Option slices_stableCmpFunc_int_v0.R)⟩]
  | 18 => [⟨slices_stableCmpFunc_int_v0.l2s, fun k (d : (List Int × Int × Unit × Int × Int × Int × Unit) × (((List (ByteArray × Int × List (ByteArray × (Int × Bool × Int × Int × ByteArray × Unit) × Unit) × Unit)) × Unit) × ((List (ByteArray × (Int × Bool × Int × Int × ByteArray × Unit) × (Int × Bool × Int × Int × ByteArray × Unit) × Bool × Bool × Bool × Unit)) × ByteArray × Bool × Int × Unit) × Unit)) => (slices_stableCmpFunc_int_v0.l2 k d.1.1 d.1.2.1 d.1.2.2.2.1 d.1.2.2.2.2.1 d.1.2.2.2.2.2.1 d.2.1.1 d.2.2.1.1 d.2.2.1.2.1 d.2.2.1.2.2.1 d.2.2.1.2.2.2.1 : Option slices_stableCmpFunc_int_v0.R)⟩]
  | _ => []
noncomputable def slices_stableCmpFunc_int_v0.fd : FnD := ⟨Try.f52, slices_stableCmpFunc_int_v0.ini, slices_stableCmpFunc_int_v0.out, 0, [1000000, 1000001], [1000000, 1000001], slices_stableCmpFunc_int_v0.labF, fun k (d : (List Int × Int × Unit × Unit) × (((List (ByteArray × Int × List (ByteArray × (Int × Bool × Int × Int × ByteArray × Unit) × Unit) × Unit)) × Unit) × ((List (ByteArray × (Int × Bool × Int × Int × ByteArray × Unit) × (Int × Bool × Int × Int × ByteArray × Unit) × Bool × Bool × Bool × Unit)) × ByteArray × Bool × Int × Unit) × Unit)) => (slices_stableCmpFunc_int_v0.f k d.1.1 d.1.2.1 d.2.1.1 d.2.2.1.1 d.2.2.1.2.1 d.2.2.1.2.2.1 d.2.2.1.2.2.2.1 : Option slices_stableCmpFunc_int_v0.R), none, []⟩

/-! ### slices_SortStableFunc__int_int_v0 : function 34 -/
abbrev slices_SortStableFunc__int_int_v0.R := (List Int × Unit) × (Unit)
noncomputable def slices_SortStableFunc__int_int_v0.f : Nat → (List Int) → (List (ByteArray × Int × List (ByteArray × (Int × Bool × Int × Int × ByteArray × Unit) × Unit) × Unit)) → (List (ByteArray × (Int × Bool × Int × Int × ByteArray × Unit) × (Int × Bool × Int × Int × ByteArray × Unit) × Bool × Bool × Bool × Unit)) → ByteArray → Bool → Int → Option slices_SortStableFunc__int_int_v0.R
  | 0, _, _, _, _, _, _ => none
  | k + 1, x0, o0_0, o1_0, o1_1, o1_2, o1_3 =>
    (slices_stableCmpFunc_int_v0.f k x0 (x0.length : Int) o0_0 o1_0 o1_1 o1_2 o1_3).bind fun r1 =>
    some ((r1.1.1, ()), (()))
abbrev slices_SortStableFunc__int_int_v0.ini : LSh := ⟨[(0, .own 3900000 3 (.mu (.int .i64))), (1, .clo 35 [(1000000, 0), (1000001, 0)])], [(1000000, 40, [.val (.sl (.cons .str (.cons (.int .i64) (.cons (.sl (.cons .str (.cons (.cons (.int .i64) (.cons .bool (.cons (.int .i64) (.cons (.int .u64) (.cons .str .nil))))) .nil))) .nil))))]), (1000001, 24, [.val (.sl (.cons .str (.cons (.cons (.int .i64) (.cons .bool (.cons (.int .i64) (.cons (.int .u64) (.cons .str .nil))))) (.cons (.cons (.int .i64) (.cons .bool (.cons (.int .i64) (.cons (.int .u64) (.cons .str .nil))))) (.cons .bool (.cons .bool (.cons .bool .nil))))))), .val .str, .val .bool, .val (.int .i64)])]⟩
abbrev slices_SortStableFunc__int_int_v0.out : LSh := ⟨[(0, .own 3900000 3 (.mu (.int .i64)))], []⟩
noncomputable def slices_SortStableFunc__int_int_v0.labF : Nat → List (LabF slices_SortStableFunc__int_int_v0.out.den)
  | _ => []
noncomputable def slices_SortStableFunc__int_int_v0.fd : FnD := ⟨Try.f34, slices_SortStableFunc__int_int_v0.ini, slices_SortStableFunc__int_int_v0.out, 0, [1000000, 1000001], [1000000, 1000001], slices_SortStableFunc__int_int_v0.labF, fun k (d : (List Int × Unit × Unit) × (((List (ByteArray × Int × List (ByteArray × (Int × Bool × Int × Int × ByteArray × Unit) × Unit) × Unit)) × Unit) × ((List (ByteArray × (Int × Bool × Int × Int × ByteArray × Unit) × (Int × Bool × Int × Int × ByteArray × Unit) × Bool × Bool × Bool × Unit)) × ByteArray × Bool × Int × Unit) × Unit)) => (slices_SortStableFunc__int_int_v0.f k d.1.1 d.2.1.1 d.2.2.1.1 d.2.2.1.2.1 d.2.2.1.2.2.1 d.2.2.1.2.2.2.1 : Option slices_SortStableFunc__int_int_v0.R), none, []⟩

/-! ### find_Run : function 16 -/
abbrev find_Run.R := (List Int × Int × Unit) × (Unit)
mutual
noncomputable def find_Run.l0 : Nat → (List Int) → (List (ByteArray × Int × List (ByteArray × (Int × Bool × Int × Int × ByteArray × Unit) × Unit) × Unit)) → Int → Int → (List (ByteArray × (Int × Bool × Int × Int × ByteArray × Unit) × (Int × Bool × Int × Int × ByteArray × Unit) × Bool × Bool × Bool × Unit)) → ByteArray → Bool → Int → (List (ByteArray × Int × List (ByteArray × (Int × Bool × Int × Int × ByteArray × Unit) × Unit) × Unit)) → Option find_Run.R
  | 0, _, _, _, _, _, _, _, _, _ => none
  | k + 1, x7, x17, x18, x19, o2_0, o2_1, o2_2, o2_3, o3_0 =>
    bif decide ((x19 : Int) < x18) then
      (rdo x17 x19).bind fun t2 =>
      find_Run.l1 k x7 x19 x17 x18 x19 o2_0 (o2_0.length : Int) 0 o2_0 o2_1 o2_2 o2_3 o3_0 t2.1 t2.2.1 t2.2.2.1
    else
    bif !(o2_1.toList == (⟨#[]⟩ : ByteArray).toList) then
      (slices_SortStableFunc__int_int_v0.f k x7 o3_0 o2_0 o2_1 o2_2 o2_3).bind fun r3 =>
      find_Run.j0 k r3.1.1 o2_0 o2_1 o2_2 o2_3
    else
      find_Run.j0 k x7 o2_0 o2_1 o2_2 o2_3
noncomputable def find_Run.l1 : Nat → (List Int) → Int → (List (ByteArray × Int × List (ByteArray × (Int × Bool × Int × Int × ByteArray × Unit) × Unit) × Unit)) → Int → Int → (List (ByteArray × (Int × Bool × Int × Int × ByteArray × Unit) × (Int × Bool × Int × Int × ByteArray × Unit) × Bool × Bool × Bool × Unit)) → Int → Int → (List (ByteArray × (Int × Bool × Int × Int × ByteArray × Unit) × (Int × Bool × Int × Int × ByteArray × Unit) × Bool × Bool × Bool × Unit)) → ByteArray → Bool → Int → (List (ByteArray × Int × List (ByteArray × (Int × Bool × Int × Int × ByteArray × Unit) × Unit) × Unit)) → ByteArray → Int → (List (ByteArray × (Int × Bool × Int × Int × ByteArray × Unit) × Unit)) → Option find_Run.R
  | 0, _, _, _, _, _, _, _, _, _, _, _, _, _, _, _, _ => none
  | k + 1, x7, x8, x17, x18, x19, x25, x26, x27, o2_0, o2_1, o2_2, o2_3, o3_0, o9_0, o9_1, o9_2 =>
    bif decide ((x27 : Int) < x26) then
      (rdo x25 x27).bind fun t4 =>
      (find_Holds.f k t4 (o9_0, (o9_1, (o9_2, ())))).bind fun r5 =>
      bif !r5.1.1 then
        find_Run.l0 k x7 x17 x18 (IntKind.wrap .i64 (x19 + 1)) o2_0 o2_1 o2_2 o2_3 o3_0
      else
        find_Run.l1 k x7 x8 x17 x18 x19 x25 x26 (IntKind.wrap .i64 (x27 + 1)) o2_0 o2_1 o2_2 o2_3 o3_0 o9_0 o9_1 o9_2
    else
      (ck (decide ((x7.length + ([x8] : List Int).length) * 8 ≤ 70368744177664))).bind fun _ =>
      find_Run.l0 k (x7 ++ ([x8] : List Int)) x17 x18 (IntKind.wrap .i64 (x19 + 1)) o2_0 o2_1 o2_2 o2_3 o3_0
noncomputable def find_Run.j0 : Nat → (List Int) → (List (ByteArray × (Int × Bool × Int × Int × ByteArray × Unit) × (Int × Bool × Int × Int × ByteArray × Unit) × Bool × Bool × Bool × Unit)) → ByteArray → Bool → Int → Option find_Run.R
  | 0, _, _, _, _, _ => none
  | k + 1, x7, o2_0, o2_1, o2_2, o2_3 =>
    (ck (decide (0 ≤ 0) && decide (0 ≤ (bif decide ((o2_3 : Int) < (x7.length : Int)) then o2_3 else (x7.length : Int))) && decide ((bif decide ((o2_3 : Int) < (x7.length : Int)) then o2_3 else (x7.length : Int)) ≤ (x7.length : Int)))).bind fun _ =>
    some (((x7.drop (0 : Int).toNat).take ((bif decide ((o2_3 : Int) < (x7.length : Int)) then o2_3 else (x7.length : Int)) - 0 : Int).toNat, 0, ()), (()))
noncomputable def find_Run.f : Nat → (List (ByteArray × (Int × Bool × Int × Int × ByteArray × Unit) × (Int × Bool × Int × Int × ByteArray × Unit) × Bool × Bool × Bool × Unit) × ByteArray × Bool × Int × Unit) → (List (ByteArray × Int × List (ByteArray × (Int × Bool × Int × Int × ByteArray × Unit) × Unit) × Unit)) → Option find_Run.R
  | 0, _, _ => none
  | k + 1, x0, x1 =>
    (find_Check.f k x0).bind fun r1 =>
    bif (r1.1.1 : Int) != 0 then
      some ((([] : List Int), r1.1.1, ()), (()))
    else
      find_Run.l0 k [] x1 (x1.length : Int) 0 x0.1 x0.2.1 x0.2.2.1 x0.2.2.2.1 x1
end
abbrev find_Run.ini : LSh := ⟨[(0, .val (.cons (.sl (.cons .str (.cons (.cons (.int .i64) (.cons .bool (.cons (.int .i64) (.cons (.int .u64) (.cons .str .nil))))) (.cons (.cons (.int .i64) (.cons .bool (.cons (.int .i64) (.cons (.int .u64) (.cons .str .nil))))) (.cons .bool (.cons .bool (.cons .bool .nil))))))) (.cons .str (.cons .bool (.cons (.int .i64) .nil))))), (1, .val (.sl (.cons .str (.cons (.int .i64) (.cons (.sl (.cons .str (.cons (.cons (.int .i64) (.cons .bool (.cons (.int .i64) (.cons (.int .u64) (.cons .str .nil))))) .nil))) .nil)))))], []⟩
abbrev find_Run.out : LSh := ⟨[(0, .val (.sl (.int .i64))), (1, .val (.int .i64))], []⟩
abbrev find_Run.l0s : LSh := ⟨[(2, .ptr 2 0), (3, .ptr 3 0), (7, .own 2000007 3 (.mu (.int .i64))), (17, .val (.sl (.cons .str (.cons (.int .i64) (.cons (.sl (.cons .str (.cons (.cons (.int .i64) (.cons .bool (.cons (.int .i64) (.cons (.int .u64) (.cons .str .nil))))) .nil))) .nil))))), (18, .val (.int .i64)), (19, .val (.int .i64))], [(2, 24, [.val (.sl (.cons .str (.cons (.cons (.int .i64) (.cons .bool (.cons (.int .i64) (.cons (.int .u64) (.cons .str .nil))))) (.cons (.cons (.int .i64) (.cons .bool (.cons (.int .i64) (.cons (.int .u64) (.cons .str .nil))))) (.cons .bool (.cons .bool (.cons .bool .nil))))))), .val .str, .val .bool, .val (.int .i64)]), (3, 40, [.val (.sl (.cons .str (.cons (.int .i64) (.cons (.sl (.cons .str (.cons (.cons (.int .i64) (.cons .bool (.cons (.int .i64) (.cons (.int .u64) (.cons .str .nil))))) .nil))) .nil))))])]⟩
abbrev find_Run.l1s : LSh := ⟨[(2, .ptr 2 0), (3, .ptr 3 0), (7, .own 2000007 3 (.mu (.int .i64))), (8, .val (.int .i64)), (9, .ptr 9 0), (17, .val (.sl (.cons .str (.cons (.int .i64) (.cons (.sl (.cons .str (.cons (.cons (.int .i64) (.cons .bool (.cons (.int .i64) (.cons (.int .u64) (.cons .str .nil))))) .nil))) .nil))))), (18, .val (.int .i64)), (19, .val (.int .i64)), (25, .val (.sl (.cons .str (.cons (.cons (.int .i64) (.cons .bool (.cons (.int .i64) (.cons (.int .u64) (.cons .str .nil))))) (.cons (.cons (.int .i64) (.cons .bool (.cons (.int .i64) (.cons (.int .u64) (.cons .str .nil))))) (.cons .bool (.cons .bool (.cons .bool .nil)))))))), (26, .val (.int .i64)), (27, .val (.int .i64))], [(2, 24, [.val (.sl (.cons .str (.cons (.cons (.int .i64) (.cons .bool (.cons (.int .i64) (.cons (.int .u64) (.cons .str .nil))))) (.cons (.cons (.int .i64) (.cons .bool (.cons (.int .i64) (.cons (.int .u64) (.cons .str .nil))))) (.cons .bool (.cons .bool (.cons .bool .nil))))))), .val .str, .val .bool, .val (.int .i64)]), (3, 40, [.val (.sl (.cons .str (.cons (.int .i64) (.cons (.sl (.cons .str (.cons (.cons (.int .i64) (.cons .bool (.cons (.int .i64) (.cons (.int .u64) (.cons .str .nil))))) .nil))) .nil))))]), (9, 27, [.val .str, .val (.int .i64), .val (.sl (.cons .str (.cons (.cons (.int .i64) (.cons .bool (.cons (.int .i64) (.cons (.int .u64) (.cons .str .nil))))) .nil)))])]⟩
abbrev find_Run.j0s : LSh := ⟨[(2, .ptr 2 0), (7, .own 2000007 3 (.mu (.int .i64)))], [(2, 24, [.val (.sl (.cons .str (.cons (.cons (.int .i64) (.cons .bool (.cons (.int .i64) (.cons (.int .u64) (.cons .str .nil))))) (.cons (.cons (.int .i64) (.cons .bool (.cons (.int .i64) (.cons (.int .u64) (.cons .str .nil))))) (.cons .bool (.cons .bool (.cons .bool .nil))))))), .val .str, .val .bool, .val (.int .i64)])]⟩
noncomputable def find_Run.labF : Nat → List (LabF find_Run.out.den)
  | 12 => [⟨find_Run.l0s, fun k (d : (Unit × Unit × List Int × (List (ByteArray × Int × List (ByteArray × (Int × Bool × Int × Int × ByteArray × Unit) × Unit) × Unit)) × Int × Int × Unit) × (((List (ByteArray × (Int × Bool × Int × Int × ByteArray × Unit) × (Int × Bool × Int × Int × ByteArray × Unit) × Bool × Bool × Bool × Unit)) × ByteArray × Bool × Int × Unit) × ((List (ByteArray × Int × List (ByteArray × (Int × Bool × Int × Int × ByteArray × Unit) × Unit) × Unit)) × Unit) × Unit)) => (find_Run.l0 k d.1.2.2.1 d.1.2.2.2.1 d.1.2.2.2.2.1 d.1.2.2.2.2.2.1 d.2.1.1 d.2.1.2.1 d.2.1.2.2.1 d.2.1.2.2.2.1 d.2.2.1.1 : Option find_Run.R)⟩]
  | 18 => [⟨find_Run.l1s, fun k (d : (Unit × Unit × List Int × Int × Unit × (List (ByteArray × Int × List (ByteArray × (Int × Bool × Int × Int × ByteArray × Unit) × Unit) × Unit)) × Int × Int × (List (ByteArray × (Int × Bool × Int × Int × ByteArray × Unit) × (Int × Bool × Int × Int × ByteArray × Unit) × Bool × Bool × Bool × Unit)) × Int × Int × Unit) × (((List (ByteArray × (Int × Bool × Int × Int × ByteArray × Unit) × (Int × Bool × Int × Int × ByteArray × Unit) × Bool × Bool × Bool × Unit)) × ByteArray × Bool × Int × Unit) × ((List (ByteArray × Int × List (ByteArray × (Int × Bool × Int × Int × ByteArray × Unit) × Unit) × Unit)) × Unit) × (ByteArray × Int × (List (ByteArray × (Int × Bool × Int × Int × ByteArray × Unit) × Unit)) × Unit) × Unit)) => (find_Run.l1 k d.1.2.2.1 d.1.2.2.2.1 d.1.2.2.2.2.2.1 d.1.2.2.2.2.2.2.1 d.1.2.2.2.2.2.2.2.1 d.1.2.2.2.2.2.2.2.2.1 d.1.2.2.2.2.2.2.2.2.2.1 d.1.2.2.2.2.2.2.2.2.2.2.1 d.2.1.1 d.2.1.2.1 d.2.1.2.2.1 d.2.1.2.2.2.1 d.2.2.1.1 d.2.2.2.1.1 d.2.2.2.1.2.1 d.2.2.2.1.2.2.1 : Option find_Run.R)⟩]
  | 35 => [⟨find_Run.j0s, fun k (d : (Unit × List Int × Unit) × (((List (ByteArray × (Int × Bool × Int × Int × ByteArray × Unit) × (Int × Bool × Int × Int × ByteArray × Unit) × Bool × Bool × Bool × Unit)) × ByteArray × Bool × Int × Unit) × Unit)) => (find_Run.j0 k d.1.2.1 d.2.1.1 d.2.1.2.1 d.2.1.2.2.1 d.2.1.2.2.2.1 : Option find_Run.R)⟩]
  | _ => []
noncomputable def find_Run.fd : FnD := ⟨Try.f16, find_Run.ini, find_Run.out, 2, [], [], find_Run.labF, fun k (d : ((List (ByteArray × (Int × Bool × Int × Int × ByteArray × Unit) × (Int × Bool × Int × Int × ByteArray × Unit) × Bool × Bool × Bool × Unit) × ByteArray × Bool × Int × Unit) × (List (ByteArray × Int × List (ByteArray × (Int × Bool × Int × Int × ByteArray × Unit) × Unit) × Unit)) × Unit) × (Unit)) => (find_Run.f k d.1.1 d.1.2.1 : Option find_Run.R), none, []⟩

/-! ### chartularylaw17_whole : function 33 -/
abbrev chartularylaw17_whole.R := ((ByteArray × Int × List (ByteArray × (Int × Bool × Int × Int × ByteArray × Unit) × Unit) × Unit) × Unit) × (Unit)
noncomputable def chartularylaw17_whole.f : Nat → Int → Option chartularylaw17_whole.R
  | 0, _ => none
  | k + 1, x0 =>
    some ((((⟨#[112]⟩ : ByteArray), (0, (([((⟨#[97, 109, 111, 117, 110, 116]⟩ : ByteArray), ((2, (false, (x0, (0, (ByteArray.empty, ()))))), ()))] : List (ByteArray × (Int × Bool × Int × Int × ByteArray × Unit) × Unit)), ()))), ()), (()))
abbrev chartularylaw17_whole.ini : LSh := ⟨[(0, .val (.int .i64))], []⟩
abbrev chartularylaw17_whole.out : LSh := ⟨[(0, .val (.cons .str (.cons (.int .i64) (.cons (.sl (.cons .str (.cons (.cons (.int .i64) (.cons .bool (.cons (.int .i64) (.cons (.int .u64) (.cons .str .nil))))) .nil))) .nil))))], []⟩
noncomputable def chartularylaw17_whole.labF : Nat → List (LabF chartularylaw17_whole.out.den)
  | _ => []
noncomputable def chartularylaw17_whole.fd : FnD := ⟨Try.f33, chartularylaw17_whole.ini, chartularylaw17_whole.out, 1, [], [], chartularylaw17_whole.labF, fun k (d : (Int × Unit) × (Unit)) => (chartularylaw17_whole.f k d.1.1 : Option chartularylaw17_whole.R), none, []⟩

/-! ### chartularylaw17_awake : function 14 -/
abbrev chartularylaw17_awake.R := (Bool × Unit) × (Unit)
noncomputable def chartularylaw17_awake.f : Nat → Option chartularylaw17_awake.R
  | 0 => none
  | k + 1 =>
    (chartularylaw17_whole.f k 1).bind fun r1 =>
    (chartularylaw17_whole.f k 2).bind fun r2 =>
    (chartularylaw17_whole.f k 3).bind fun r3 =>
    (find_Run.f k (([((⟨#[97, 109, 111, 117, 110, 116]⟩ : ByteArray), ((2, (false, (2, (0, (ByteArray.empty, ()))))), ((0, (false, (0, (0, (ByteArray.empty, ()))))), (true, (false, (false, ()))))))] : List (ByteArray × (Int × Bool × Int × Int × ByteArray × Unit) × (Int × Bool × Int × Int × ByteArray × Unit) × Bool × Bool × Bool × Unit)), (ByteArray.empty, (false, (9, ())))) ([r1.1.1, r2.1.1, r3.1.1] : List (ByteArray × Int × List (ByteArray × (Int × Bool × Int × Int × ByteArray × Unit) × Unit) × Unit))).bind fun r4 =>
    bif (r4.1.2.1 : Int) == 0 then
      bif ((r4.1.1.length : Int) : Int) == 2 then
        (rdo r4.1.1 0).bind fun t5 =>
        bif (t5 : Int) == 1 then
          (rdo r4.1.1 1).bind fun t6 =>
          some (((t6 : Int) == 2, ()), (()))
        else
          some ((false, ()), (()))
      else
        some ((false, ()), (()))
    else
      some ((false, ()), (()))
abbrev chartularylaw17_awake.ini : LSh := ⟨[], []⟩
abbrev chartularylaw17_awake.out : LSh := ⟨[(0, .val .bool)], []⟩
noncomputable def chartularylaw17_awake.labF : Nat → List (LabF chartularylaw17_awake.out.den)
  | _ => []
noncomputable def chartularylaw17_awake.fd : FnD := ⟨Try.f14, chartularylaw17_awake.ini, chartularylaw17_awake.out, 1, [], [], chartularylaw17_awake.labF, fun k (d : (Unit) × (Unit)) => (chartularylaw17_awake.f k : Option chartularylaw17_awake.R), none, []⟩

/-! ### chartularylaw05_Few : function 9 -/
abbrev chartularylaw05_Few.R := ((ByteArray × Int × List (ByteArray × (Int × Bool × Int × Int × ByteArray × Unit) × Unit) × Unit) × Unit) × (Unit)
mutual
noncomputable def chartularylaw05_Few.j0 : Nat → ByteArray → Int → (List (ByteArray × (Int × Bool × Int × Int × ByteArray × Unit) × Unit)) → ByteArray → Int → (List (ByteArray × (Int × Bool × Int × Int × ByteArray × Unit) × Unit)) → ByteArray → Int → (List (ByteArray × (Int × Bool × Int × Int × ByteArray × Unit) × Unit)) → Option chartularylaw05_Few.R
  | 0, _, _, _, _, _, _, _, _, _ => none
  | k + 1, o1_0, o1_1, o1_2, o2_0, o2_1, o2_2, o3_0, o3_1, o3_2 =>
    chartularylaw05_Few.l0 k 0 o1_0 o1_1 o1_2 o2_0 o2_1 o2_2 o3_0 o3_1 o3_2
noncomputable def chartularylaw05_Few.l0 : Nat → Int → ByteArray → Int → (List (ByteArray × (Int × Bool × Int × Int × ByteArray × Unit) × Unit)) → ByteArray → Int → (List (ByteArray × (Int × Bool × Int × Int × ByteArray × Unit) × Unit)) → ByteArray → Int → (List (ByteArray × (Int × Bool × Int × Int × ByteArray × Unit) × Unit)) → Option chartularylaw05_Few.R
  | 0, _, _, _, _, _, _, _, _, _, _ => none
  | k + 1, x4, o1_0, o1_1, o1_2, o2_0, o2_1, o2_2, o3_0, o3_1, o3_2 =>
    bif decide ((x4 : Int) < (o1_2.length : Int)) then
      bif decide ((x4 : Int) < 30) then
        (rdo o1_2 x4).bind fun t1 =>
        bif decide (((t1.1.size : Int) : Int) > 300) then
          (ck (decide (0 ≤ 0) && decide (0 ≤ 300) && decide (300 ≤ (t1.1.size : Int)))).bind fun _ =>
          bif decide (((t1.2.1.2.2.2.2.1.size : Int) : Int) > 300) then
            (ck (decide (0 ≤ 0) && decide (0 ≤ 300) && decide (300 ≤ (t1.2.1.2.2.2.2.1.size : Int)))).bind fun _ =>
            (ck (decide ((o3_2.length + ([(t1.1.extract (0 : Int).toNat (300 : Int).toNat, ((t1.2.1.1, (t1.2.1.2.1, (t1.2.1.2.2.1, (t1.2.1.2.2.2.1, (t1.2.1.2.2.2.2.1.extract (0 : Int).toNat (300 : Int).toNat, ()))))), ()))] : List (ByteArray × (Int × Bool × Int × Int × ByteArray × Unit) × Unit)).length) * 64 ≤ 70368744177664))).bind fun _ =>
            chartularylaw05_Few.l0 k (IntKind.wrap .i64 (x4 + 1)) o1_0 o1_1 o1_2 o2_0 o2_1 o2_2 o3_0 o3_1 (o3_2 ++ ([(t1.1.extract (0 : Int).toNat (300 : Int).toNat, ((t1.2.1.1, (t1.2.1.2.1, (t1.2.1.2.2.1, (t1.2.1.2.2.2.1, (t1.2.1.2.2.2.2.1.extract (0 : Int).toNat (300 : Int).toNat, ()))))), ()))] : List (ByteArray × (Int × Bool × Int × Int × ByteArray × Unit) × Unit)))
          else
            (ck (decide ((o3_2.length + ([(t1.1.extract (0 : Int).toNat (300 : Int).toNat, t1.2)] : List (ByteArray × (Int × Bool × Int × Int × ByteArray × Unit) × Unit)).length) * 64 ≤ 70368744177664))).bind fun _ =>
            chartularylaw05_Few.l0 k (IntKind.wrap .i64 (x4 + 1)) o1_0 o1_1 o1_2 o2_0 o2_1 o2_2 o3_0 o3_1 (o3_2 ++ ([(t1.1.extract (0 : Int).toNat (300 : Int).toNat, t1.2)] : List (ByteArray × (Int × Bool × Int × Int × ByteArray × Unit) × Unit)))
        else
        bif decide (((t1.2.1.2.2.2.2.1.size : Int) : Int) > 300) then
          (ck (decide (0 ≤ 0) && decide (0 ≤ 300) && decide (300 ≤ (t1.2.1.2.2.2.2.1.size : Int)))).bind fun _ =>
          (ck (decide ((o3_2.length + ([(t1.1, ((t1.2.1.1, (t1.2.1.2.1, (t1.2.1.2.2.1, (t1.2.1.2.2.2.1, (t1.2.1.2.2.2.2.1.extract (0 : Int).toNat (300 : Int).toNat, ()))))), ()))] : List (ByteArray × (Int × Bool × Int × Int × ByteArray × Unit) × Unit)).length) * 64 ≤ 70368744177664))).bind fun _ =>
          chartularylaw05_Few.l0 k (IntKind.wrap .i64 (x4 + 1)) o1_0 o1_1 o1_2 o2_0 o2_1 o2_2 o3_0 o3_1 (o3_2 ++ ([(t1.1, ((t1.2.1.1, (t1.2.1.2.1, (t1.2.1.2.2.1, (t1.2.1.2.2.2.1, (t1.2.1.2.2.2.2.1.extract (0 : Int).toNat (300 : Int).toNat, ()))))), ()))] : List (ByteArray × (Int × Bool × Int × Int × ByteArray × Unit) × Unit)))
        else
          (ck (decide ((o3_2.length + ([t1] : List (ByteArray × (Int × Bool × Int × Int × ByteArray × Unit) × Unit)).length) * 64 ≤ 70368744177664))).bind fun _ =>
          chartularylaw05_Few.l0 k (IntKind.wrap .i64 (x4 + 1)) o1_0 o1_1 o1_2 o2_0 o2_1 o2_2 o3_0 o3_1 (o3_2 ++ ([t1] : List (ByteArray × (Int × Bool × Int × Int × ByteArray × Unit) × Unit)))
      else
        some (((o3_0, (o3_1, (o3_2, ()))), ()), (()))
    else
      some (((o3_0, (o3_1, (o3_2, ()))), ()), (()))
noncomputable def chartularylaw05_Few.f : Nat → (ByteArray × Int × List (ByteArray × (Int × Bool × Int × Int × ByteArray × Unit) × Unit) × Unit) → Option chartularylaw05_Few.R
  | 0, _ => none
  | k + 1, x0 =>
    bif decide (((x0.1.size : Int) : Int) > 300) then
      (ck (decide (0 ≤ 0) && decide (0 ≤ 300) && decide (300 ≤ (x0.1.size : Int)))).bind fun _ =>
      chartularylaw05_Few.j0 k x0.1 x0.2.1 x0.2.2.1 ByteArray.empty 0 ([] : List (ByteArray × (Int × Bool × Int × Int × ByteArray × Unit) × Unit)) (x0.1.extract (0 : Int).toNat (300 : Int).toNat) x0.2.1 []
    else
      chartularylaw05_Few.j0 k x0.1 x0.2.1 x0.2.2.1 ByteArray.empty 0 ([] : List (ByteArray × (Int × Bool × Int × Int × ByteArray × Unit) × Unit)) x0.1 x0.2.1 []
end
abbrev chartularylaw05_Few.ini : LSh := ⟨[(0, .val (.cons .str (.cons (.int .i64) (.cons (.sl (.cons .str (.cons (.cons (.int .i64) (.cons .bool (.cons (.int .i64) (.cons (.int .u64) (.cons .str .nil))))) .nil))) .nil))))], []⟩
abbrev chartularylaw05_Few.out : LSh := ⟨[(0, .val (.cons .str (.cons (.int .i64) (.cons (.sl (.cons .str (.cons (.cons (.int .i64) (.cons .bool (.cons (.int .i64) (.cons (.int .u64) (.cons .str .nil))))) .nil))) .nil))))], []⟩
abbrev chartularylaw05_Few.j0s : LSh := ⟨[(1, .ptr 1 0), (2, .ptr 2 0), (3, .ptr 3 0)], [(1, 27, [.val .str, .val (.int .i64), .val (.sl (.cons .str (.cons (.cons (.int .i64) (.cons .bool (.cons (.int .i64) (.cons (.int .u64) (.cons .str .nil))))) .nil)))]), (2, 27, [.val .str, .val (.int .i64), .val (.sl (.cons .str (.cons (.cons (.int .i64) (.cons .bool (.cons (.int .i64) (.cons (.int .u64) (.cons .str .nil))))) .nil)))]), (3, 27, [.val .str, .val (.int .i64), .own 3000302 53 (.cons .str (.cons (.cons (.int .i64) (.cons .bool (.cons (.int .i64) (.cons (.int .u64) (.cons .str .nil))))) .nil))])]⟩
abbrev chartularylaw05_Few.l0s : LSh := ⟨[(1, .ptr 1 0), (2, .ptr 2 0), (3, .ptr 3 0), (4, .val (.int .i64))], [(1, 27, [.val .str, .val (.int .i64), .val (.sl (.cons .str (.cons (.cons (.int .i64) (.cons .bool (.cons (.int .i64) (.cons (.int .u64) (.cons .str .nil))))) .nil)))]), (2, 27, [.val .str, .val (.int .i64), .val (.sl (.cons .str (.cons (.cons (.int .i64) (.cons .bool (.cons (.int .i64) (.cons (.int .u64) (.cons .str .nil))))) .nil)))]), (3, 27, [.val .str, .val (.int .i64), .own 3000302 53 (.cons .str (.cons (.cons (.int .i64) (.cons .bool (.cons (.int .i64) (.cons (.int .u64) (.cons .str .nil))))) .nil))])]⟩
noncomputable def chartularylaw05_Few.labF : Nat → List (LabF chartularylaw05_Few.out.den)
  | 9 => [⟨chartularylaw05_Few.j0s, fun k (d : (Unit × Unit × Unit × Unit) × ((ByteArray × Int × (List (ByteArray × (Int × Bool × Int × Int × ByteArray × Unit) × Unit)) × Unit) × (ByteArray × Int × (List (ByteArray × (Int × Bool × Int × Int × ByteArray × Unit) × Unit)) × Unit) × (ByteArray × Int × (List (ByteArray × (Int × Bool × Int × Int × ByteArray × Unit) × Unit)) × Unit) × Unit)) => (chartularylaw05_Few.j0 k d.2.1.1 d.2.1.2.1 d.2.1.2.2.1 d.2.2.1.1 d.2.2.1.2.1 d.2.2.1.2.2.1 d.2.2.2.1.1 d.2.2.2.1.2.1 d.2.2.2.1.2.2.1 : Option chartularylaw05_Few.R)⟩]
  | 10 => [⟨chartularylaw05_Few.l0s, fun k (d : (Unit × Unit × Unit × Int × Unit) × ((ByteArray × Int × (List (ByteArray × (Int × Bool × Int × Int × ByteArray × Unit) × Unit)) × Unit) × (ByteArray × Int × (List (ByteArray × (Int × Bool × Int × Int × ByteArray × Unit) × Unit)) × Unit) × (ByteArray × Int × (List (ByteArray × (Int × Bool × Int × Int × ByteArray × Unit) × Unit)) × Unit) × Unit)) => (chartularylaw05_Few.l0 k d.1.2.2.2.1 d.2.1.1 d.2.1.2.1 d.2.1.2.2.1 d.2.2.1.1 d.2.2.1.2.1 d.2.2.1.2.2.1 d.2.2.2.1.1 d.2.2.2.1.2.1 d.2.2.2.1.2.2.1 : Option chartularylaw05_Few.R)⟩]
  | _ => []
noncomputable def chartularylaw05_Few.fd : FnD := ⟨Try.f9, chartularylaw05_Few.ini, chartularylaw05_Few.out, 1, [], [], chartularylaw05_Few.labF, fun k (d : ((ByteArray × Int × List (ByteArray × (Int × Bool × Int × Int × ByteArray × Unit) × Unit) × Unit) × Unit) × (Unit)) => (chartularylaw05_Few.f k d.1.1 : Option chartularylaw05_Few.R), none, []⟩

/-! ### chartularylaw17_papers : function 15 -/
abbrev chartularylaw17_papers.R := ((List (ByteArray × Int × List (ByteArray × (Int × Bool × Int × Int × ByteArray × Unit) × Unit) × Unit)) × Unit) × (Unit)
mutual
noncomputable def chartularylaw17_papers.l0 : Nat → (List (ByteArray × Int × List (ByteArray × (Int × Bool × Int × Int × ByteArray × Unit) × Unit) × Unit)) → (List (ByteArray × Int × List (ByteArray × (Int × Bool × Int × Int × ByteArray × Unit) × Unit) × Unit)) → Int → Option chartularylaw17_papers.R
  | 0, _, _, _ => none
  | k + 1, x0, x3, x4 =>
    bif decide ((x4 : Int) < (x0.length : Int)) then
      bif decide ((x4 : Int) < 30) then
        (rdo x0 x4).bind fun t1 =>
        (chartularylaw05_Few.f k t1).bind fun r2 =>
        (ck (decide ((x3.length + ([r2.1.1] : List (ByteArray × Int × List (ByteArray × (Int × Bool × Int × Int × ByteArray × Unit) × Unit) × Unit)).length) * 48 ≤ 70368744177664))).bind fun _ =>
        chartularylaw17_papers.l0 k x0 (x3 ++ ([r2.1.1] : List (ByteArray × Int × List (ByteArray × (Int × Bool × Int × Int × ByteArray × Unit) × Unit) × Unit))) (IntKind.wrap .i64 (x4 + 1))
      else
        some ((x3, ()), (()))
    else
      some ((x3, ()), (()))
noncomputable def chartularylaw17_papers.f : Nat → (List (ByteArray × Int × List (ByteArray × (Int × Bool × Int × Int × ByteArray × Unit) × Unit) × Unit)) → Option chartularylaw17_papers.R
  | 0, _ => none
  | k + 1, x0 =>
    chartularylaw17_papers.l0 k x0 [] 0
end
abbrev chartularylaw17_papers.ini : LSh := ⟨[(0, .val (.sl (.cons .str (.cons (.int .i64) (.cons (.sl (.cons .str (.cons (.cons (.int .i64) (.cons .bool (.cons (.int .i64) (.cons (.int .u64) (.cons .str .nil))))) .nil))) .nil)))))], []⟩
abbrev chartularylaw17_papers.out : LSh := ⟨[(0, .val (.sl (.cons .str (.cons (.int .i64) (.cons (.sl (.cons .str (.cons (.cons (.int .i64) (.cons .bool (.cons (.int .i64) (.cons (.int .u64) (.cons .str .nil))))) .nil))) .nil)))))], []⟩
abbrev chartularylaw17_papers.l0s : LSh := ⟨[(0, .val (.sl (.cons .str (.cons (.int .i64) (.cons (.sl (.cons .str (.cons (.cons (.int .i64) (.cons .bool (.cons (.int .i64) (.cons (.int .u64) (.cons .str .nil))))) .nil))) .nil))))), (3, .own 2000003 27 (.cons .str (.cons (.int .i64) (.cons (.sl (.cons .str (.cons (.cons (.int .i64) (.cons .bool (.cons (.int .i64) (.cons (.int .u64) (.cons .str .nil))))) .nil))) .nil)))), (4, .val (.int .i64))], []⟩
noncomputable def chartularylaw17_papers.labF : Nat → List (LabF chartularylaw17_papers.out.den)
  | 6 => [⟨chartularylaw17_papers.l0s, fun k (d : ((List (ByteArray × Int × List (ByteArray × (Int × Bool × Int × Int × ByteArray × Unit) × Unit) × Unit)) × (List (ByteArray × Int × List (ByteArray × (Int × Bool × Int × Int × ByteArray × Unit) × Unit) × Unit)) × Int × Unit) × (Unit)) => (chartularylaw17_papers.l0 k d.1.1 d.1.2.1 d.1.2.2.1 : Option chartularylaw17_papers.R)⟩]
  | _ => []
noncomputable def chartularylaw17_papers.fd : FnD := ⟨Try.f15, chartularylaw17_papers.ini, chartularylaw17_papers.out, 1, [], [], chartularylaw17_papers.labF, fun k (d : ((List (ByteArray × Int × List (ByteArray × (Int × Bool × Int × Int × ByteArray × Unit) × Unit) × Unit)) × Unit) × (Unit)) => (chartularylaw17_papers.f k d.1.1 : Option chartularylaw17_papers.R), none, []⟩

/-! ### chartularylaw17_right : function 17 -/
abbrev chartularylaw17_right.R := (Bool × Unit) × (Unit)
mutual
noncomputable def chartularylaw17_right.l0 : Nat → (List (ByteArray × Int × List (ByteArray × (Int × Bool × Int × Int × ByteArray × Unit) × Unit) × Unit)) → Int → Option chartularylaw17_right.R
  | 0, _, _ => none
  | k + 1, x0, x3 =>
    bif decide ((x3 : Int) < (x0.length : Int)) then
      chartularylaw17_right.l1 k x0 x3 0
    else
      some ((true, ()), (()))
noncomputable def chartularylaw17_right.l1 : Nat → (List (ByteArray × Int × List (ByteArray × (Int × Bool × Int × Int × ByteArray × Unit) × Unit) × Unit)) → Int → Int → Option chartularylaw17_right.R
  | 0, _, _, _ => none
  | k + 1, x0, x3, x4 =>
    (rdo x0 x3).bind fun t1 =>
    bif decide ((x4 : Int) < (t1.2.2.1.length : Int)) then
      (rdo x0 x3).bind fun t2 =>
      (rdo t2.2.2.1 x4).bind fun t3 =>
      (value_Right.f k t3.2.1).bind fun r4 =>
      bif !r4.1.1 then
        some ((false, ()), (()))
      else
        chartularylaw17_right.l1 k x0 x3 (IntKind.wrap .i64 (x4 + 1))
    else
      chartularylaw17_right.l0 k x0 (IntKind.wrap .i64 (x3 + 1))
noncomputable def chartularylaw17_right.f : Nat → (List (ByteArray × Int × List (ByteArray × (Int × Bool × Int × Int × ByteArray × Unit) × Unit) × Unit)) → Option chartularylaw17_right.R
  | 0, _ => none
  | k + 1, x0 =>
    chartularylaw17_right.l0 k x0 0
end
abbrev chartularylaw17_right.ini : LSh := ⟨[(0, .val (.sl (.cons .str (.cons (.int .i64) (.cons (.sl (.cons .str (.cons (.cons (.int .i64) (.cons .bool (.cons (.int .i64) (.cons (.int .u64) (.cons .str .nil))))) .nil))) .nil)))))], []⟩
abbrev chartularylaw17_right.out : LSh := ⟨[(0, .val .bool)], []⟩
abbrev chartularylaw17_right.l0s : LSh := ⟨[(0, .val (.sl (.cons .str (.cons (.int .i64) (.cons (.sl (.cons .str (.cons (.cons (.int .i64) (.cons .bool (.cons (.int .i64) (.cons (.int .u64) (.cons .str .nil))))) .nil))) .nil))))), (3, .val (.int .i64))], []⟩
abbrev chartularylaw17_right.l1s : LSh := ⟨[(0, .val (.sl (.cons .str (.cons (.int .i64) (.cons (.sl (.cons .str (.cons (.cons (.int .i64) (.cons .bool (.cons (.int .i64) (.cons (.int .u64) (.cons .str .nil))))) .nil))) .nil))))), (3, .val (.int .i64)), (4, .val (.int .i64))], []⟩
noncomputable def chartularylaw17_right.labF : Nat → List (LabF chartularylaw17_right.out.den)
  | 4 => [⟨chartularylaw17_right.l0s, fun k (d : ((List (ByteArray × Int × List (ByteArray × (Int × Bool × Int × Int × ByteArray × Unit) × Unit) × Unit)) × Int × Unit) × (Unit)) => (chartularylaw17_right.l0 k d.1.1 d.1.2.1 : Option chartularylaw17_right.R)⟩]
  | 10 => [⟨chartularylaw17_right.l1s, fun k (d : ((List (ByteArray × Int × List (ByteArray × (Int × Bool × Int × Int × ByteArray × Unit) × Unit) × Unit)) × Int × Int × Unit) × (Unit)) => (chartularylaw17_right.l1 k d.1.1 d.1.2.1 d.1.2.2.1 : Option chartularylaw17_right.R)⟩]
  | _ => []
noncomputable def chartularylaw17_right.fd : FnD := ⟨Try.f17, chartularylaw17_right.ini, chartularylaw17_right.out, 1, [], [], chartularylaw17_right.labF, fun k (d : ((List (ByteArray × Int × List (ByteArray × (Int × Bool × Int × Int × ByteArray × Unit) × Unit) × Unit)) × Unit) × (Unit)) => (chartularylaw17_right.f k d.1.1 : Option chartularylaw17_right.R), none, []⟩

/-! ### find_Groups_1 : function 43 -/
abbrev find_Groups_1.R := (Int × Unit) × (Unit)
noncomputable def find_Groups_1.f : Nat → ((Int × Bool × Int × Int × ByteArray × Unit) × Int × Unit) → (Int × Bool × Int × Int × ByteArray × Unit) → Option find_Groups_1.R
  | 0, _, _ => none
  | k + 1, x0, x1 =>
    (value_Compare.f k x0.1 x1).bind fun r1 =>
    some ((r1.1.1, ()), (()))
abbrev find_Groups_1.ini : LSh := ⟨[(0, .val (.cons (.cons (.int .i64) (.cons .bool (.cons (.int .i64) (.cons (.int .u64) (.cons .str .nil))))) (.cons (.int .i64) .nil))), (1, .val (.cons (.int .i64) (.cons .bool (.cons (.int .i64) (.cons (.int .u64) (.cons .str .nil))))))], []⟩
abbrev find_Groups_1.out : LSh := ⟨[(0, .val (.int .i64))], []⟩
noncomputable def find_Groups_1.labF : Nat → List (LabF find_Groups_1.out.den)
  | _ => []
noncomputable def find_Groups_1.fd : FnD := ⟨Try.f43, find_Groups_1.ini, find_Groups_1.out, 1, [], [], find_Groups_1.labF, fun k (d : (((Int × Bool × Int × Int × ByteArray × Unit) × Int × Unit) × (Int × Bool × Int × Int × ByteArray × Unit) × Unit) × (Unit)) => (find_Groups_1.f k d.1.1 d.1.2.1 : Option find_Groups_1.R), none, []⟩

/-! ### slices_BinarySearchFunc_api_Value_v0 : function 42 -/
abbrev slices_BinarySearchFunc_api_Value_v0.R := (Int × Bool × (List ((Int × Bool × Int × Int × ByteArray × Unit) × Int × Unit)) × Unit) × (Unit)
mutual
noncomputable def slices_BinarySearchFunc_api_Value_v0.l0 : Nat → (List ((Int × Bool × Int × Int × ByteArray × Unit) × Int × Unit)) → Int → Int → Int → Int → Bool → Int → Int → ByteArray → Option slices_BinarySearchFunc_api_Value_v0.R
  | 0, _, _, _, _, _, _, _, _, _ => none
  | k + 1, x0, x8, x9, x10, o4_0, o4_1, o4_2, o4_3, o4_4 =>
    bif decide ((x9 : Int) < x10) then
      (ck (!decide ((1 : Int) < 0))).bind fun _ =>
      (ck (decide (0 ≤ IntKind.wrap .i64 (Int.fdiv (IntKind.wrap .u64 (IntKind.wrap .i64 (x9 + x10))) (2 ^ (min (1 : Int).toNat (IntKind.bits .u64))))) && decide (IntKind.wrap .i64 (Int.fdiv (IntKind.wrap .u64 (IntKind.wrap .i64 (x9 + x10))) (2 ^ (min (1 : Int).toNat (IntKind.bits .u64)))) < (x0.length : Int)))).bind fun _ =>
      (rdo x0 (IntKind.wrap .i64 (Int.fdiv (IntKind.wrap .u64 (IntKind.wrap .i64 (x9 + x10))) (2 ^ (min (1 : Int).toNat (IntKind.bits .u64)))))).bind fun t1 =>
      (find_Groups_1.f k t1 (o4_0, (o4_1, (o4_2, (o4_3, (o4_4, ())))))).bind fun r2 =>
      bif decide ((r2.1.1 : Int) < 0) then
        slices_BinarySearchFunc_api_Value_v0.l0 k x0 x8 (IntKind.wrap .i64 ((IntKind.wrap .i64 (Int.fdiv (IntKind.wrap .u64 (IntKind.wrap .i64 (x9 + x10))) (2 ^ (min (1 : Int).toNat (IntKind.bits .u64))))) + 1)) x10 o4_0 o4_1 o4_2 o4_3 o4_4
      else
        slices_BinarySearchFunc_api_Value_v0.l0 k x0 x8 x9 (IntKind.wrap .i64 (Int.fdiv (IntKind.wrap .u64 (IntKind.wrap .i64 (x9 + x10))) (2 ^ (min (1 : Int).toNat (IntKind.bits .u64))))) o4_0 o4_1 o4_2 o4_3 o4_4
    else
    bif decide ((x9 : Int) < x8) then
      (ck (decide (0 ≤ x9) && decide (x9 < (x0.length : Int)))).bind fun _ =>
      (rdo x0 x9).bind fun t3 =>
      (find_Groups_1.f k t3 (o4_0, (o4_1, (o4_2, (o4_3, (o4_4, ())))))).bind fun r4 =>
      some ((x9, (r4.1.1 : Int) == 0, x0, ()), (()))
    else
      some ((x9, false, x0, ()), (()))
noncomputable def slices_BinarySearchFunc_api_Value_v0.f : Nat → (List ((Int × Bool × Int × Int × ByteArray × Unit) × Int × Unit)) → (Int × Bool × Int × Int × ByteArray × Unit) → Option slices_BinarySearchFunc_api_Value_v0.R
  | 0, _, _ => none
  | k + 1, x0, x1 =>
    slices_BinarySearchFunc_api_Value_v0.l0 k x0 (x0.length : Int) 0 (x0.length : Int) x1.1 x1.2.1 x1.2.2.1 x1.2.2.2.1 x1.2.2.2.2.1
end
abbrev slices_BinarySearchFunc_api_Value_v0.ini : LSh := ⟨[(0, .own 3900000 69 (.mu (.cons (.cons (.int .i64) (.cons .bool (.cons (.int .i64) (.cons (.int .u64) (.cons .str .nil))))) (.cons (.int .i64) .nil)))), (1, .val (.cons (.int .i64) (.cons .bool (.cons (.int .i64) (.cons (.int .u64) (.cons .str .nil)))))), (2, .clo 43 [])], []⟩
abbrev slices_BinarySearchFunc_api_Value_v0.out : LSh := ⟨[(0, .val (.int .i64)), (1, .val .bool), (2, .own 3900000 69 (.mu (.cons (.cons (.int .i64) (.cons .bool (.cons (.int .i64) (.cons (.int .u64) (.cons .str .nil))))) (.cons (.int .i64) .nil))))], []⟩
abbrev slices_BinarySearchFunc_api_Value_v0.l0s : LSh := ⟨[(0, .own 3900000 69 (.mu (.cons (.cons (.int .i64) (.cons .bool (.cons (.int .i64) (.cons (.int .u64) (.cons .str .nil))))) (.cons (.int .i64) .nil)))), (2, .clo 43 []), (4, .ptr 4 0), (8, .val (.int .i64)), (9, .val (.int .i64)), (10, .val (.int .i64))], [(4, 35, [.val (.int .i64), .val .bool, .val (.int .i64), .val (.int .u64), .val .str])]⟩
noncomputable def slices_BinarySearchFunc_api_Value_v0.labF : Nat → List (LabF slices_BinarySearchFunc_api_Value_v0.out.den)
  | 6 => [⟨slices_BinarySearchFunc_api_Value_v0.l0s, fun k (d : ((List ((Int × Bool × Int × Int × ByteArray × Unit) × Int × Unit)) × Unit × Unit × Int × Int × Int × Unit) × ((Int × Bool × Int × Int × ByteArray × Unit) × Unit)) => (slices_BinarySearchFunc_api_Value_v0.l0 k d.1.1 d.1.2.2.2.1 d.1.2.2.2.2.1 d.1.2.2.2.2.2.1 d.2.1.1 d.2.1.2.1 d.2.1.2.2.1 d.2.1.2.2.2.1 d.2.1.2.2.2.2.1 : Option slices_BinarySearchFunc_api_Value_v0.R)⟩]
  | _ => []
noncomputable def slices_BinarySearchFunc_api_Value_v0.fd : FnD := ⟨Try.f42, slices_BinarySearchFunc_api_Value_v0.ini, slices_BinarySearchFunc_api_Value_v0.out, 2, [], [], slices_BinarySearchFunc_api_Value_v0.labF, fun k (d : ((List ((Int × Bool × Int × Int × ByteArray × Unit) × Int × Unit)) × (Int × Bool × Int × Int × ByteArray × Unit) × Unit × Unit) × (Unit)) => (slices_BinarySearchFunc_api_Value_v0.f k d.1.1 d.1.2.1 : Option slices_BinarySearchFunc_api_Value_v0.R), none, []⟩

/-! ### find_Groups : function 24 -/
abbrev find_Groups.R := ((List ((Int × Bool × Int × Int × ByteArray × Unit) × Int × Unit)) × Unit) × (Unit)
mutual
noncomputable def find_Groups.l0 : Nat → ByteArray → (List ((Int × Bool × Int × Int × ByteArray × Unit) × Int × Unit)) → (List (ByteArray × Int × List (ByteArray × (Int × Bool × Int × Int × ByteArray × Unit) × Unit) × Unit)) → Int → Int → Option find_Groups.R
  | 0, _, _, _, _, _ => none
  | k + 1, x0, x5, x12, x13, x14 =>
    bif decide ((x14 : Int) < x13) then
      (rdo x12 x14).bind fun t1 =>
      (find_by.f k t1 x0).bind fun r2 =>
      bif !r2.1.2.1 then
        find_Groups.l0 k x0 x5 x12 x13 (IntKind.wrap .i64 (x14 + 1))
      else
        (slices_BinarySearchFunc_api_Value_v0.f k x5 r2.1.1).bind fun r3 =>
        bif !r3.1.2.1 then
          (insG.f k r3.1.2.2.1 r3.1.1 ([(r2.1.1, (0, ()))] : List ((Int × Bool × Int × Int × ByteArray × Unit) × Int × Unit))).bind fun r4 =>
          (ck (decide (0 ≤ r3.1.1) && decide (r3.1.1 < (r4.1.1.length : Int)))).bind fun _ =>
          (rdo r4.1.1 r3.1.1).bind fun t5 =>
          (ck (decide (0 ≤ r3.1.1) && decide (r3.1.1 < (r4.1.1.length : Int)))).bind fun _ =>
          (rdo r4.1.1 r3.1.1).bind fun t6 =>
          find_Groups.l0 k x0 (r4.1.1.set (r3.1.1 : Int).toNat (t6.1, (IntKind.wrap .i64 (t5.2.1 + 1), t6.2.2))) x12 x13 (IntKind.wrap .i64 (x14 + 1))
        else
          (ck (decide (0 ≤ r3.1.1) && decide (r3.1.1 < (r3.1.2.2.1.length : Int)))).bind fun _ =>
          (rdo r3.1.2.2.1 r3.1.1).bind fun t7 =>
          (ck (decide (0 ≤ r3.1.1) && decide (r3.1.1 < (r3.1.2.2.1.length : Int)))).bind fun _ =>
          (rdo r3.1.2.2.1 r3.1.1).bind fun t8 =>
          find_Groups.l0 k x0 (r3.1.2.2.1.set (r3.1.1 : Int).toNat (t8.1, (IntKind.wrap .i64 (t7.2.1 + 1), t8.2.2))) x12 x13 (IntKind.wrap .i64 (x14 + 1))
    else
      some ((x5, ()), (()))
noncomputable def find_Groups.f : Nat → ByteArray → (List (ByteArray × Int × List (ByteArray × (Int × Bool × Int × Int × ByteArray × Unit) × Unit) × Unit)) → Option find_Groups.R
  | 0, _, _ => none
  | k + 1, x0, x1 =>
    find_Groups.l0 k x0 [] x1 (x1.length : Int) 0
end
abbrev find_Groups.ini : LSh := ⟨[(0, .val .str), (1, .val (.sl (.cons .str (.cons (.int .i64) (.cons (.sl (.cons .str (.cons (.cons (.int .i64) (.cons .bool (.cons (.int .i64) (.cons (.int .u64) (.cons .str .nil))))) .nil))) .nil)))))], []⟩
abbrev find_Groups.out : LSh := ⟨[(0, .val (.sl (.cons (.cons (.int .i64) (.cons .bool (.cons (.int .i64) (.cons (.int .u64) (.cons .str .nil))))) (.cons (.int .i64) .nil))))], []⟩
abbrev find_Groups.l0s : LSh := ⟨[(0, .val .str), (5, .own 2000005 69 (.mu (.cons (.cons (.int .i64) (.cons .bool (.cons (.int .i64) (.cons (.int .u64) (.cons .str .nil))))) (.cons (.int .i64) .nil)))), (12, .val (.sl (.cons .str (.cons (.int .i64) (.cons (.sl (.cons .str (.cons (.cons (.int .i64) (.cons .bool (.cons (.int .i64) (.cons (.int .u64) (.cons .str .nil))))) .nil))) .nil))))), (13, .val (.int .i64)), (14, .val (.int .i64))], []⟩
noncomputable def find_Groups.labF : Nat → List (LabF find_Groups.out.den)
  | 6 => [⟨find_Groups.l0s, fun k (d : (ByteArray × (List ((Int × Bool × Int × Int × ByteArray × Unit) × Int × Unit)) × (List (ByteArray × Int × List (ByteArray × (Int × Bool × Int × Int × ByteArray × Unit) × Unit) × Unit)) × Int × Int × Unit) × (Unit)) => (find_Groups.l0 k d.1.1 d.1.2.1 d.1.2.2.1 d.1.2.2.2.1 d.1.2.2.2.2.1 : Option find_Groups.R)⟩]
  | _ => []
noncomputable def find_Groups.fd : FnD := ⟨Try.f24, find_Groups.ini, find_Groups.out, 1, [], [], find_Groups.labF, fun k (d : (ByteArray × (List (ByteArray × Int × List (ByteArray × (Int × Bool × Int × Int × ByteArray × Unit) × Unit) × Unit)) × Unit) × (Unit)) => (find_Groups.f k d.1.1 d.1.2.1 : Option find_Groups.R), none, []⟩

/-! ### value_Float : function 40 -/
abbrev value_Float.R := (Nat × Bool × Unit) × (Unit)
noncomputable def value_Float.f : Nat → (Int × Bool × Int × Int × ByteArray × Unit) → Option value_Float.R
  | 0, _ => none
  | k + 1, x0 =>
    bif (x0.1 : Int) != 3 then
      some ((0, false, ()), (()))
    else
      (value_Right.f k x0).bind fun r1 =>
      bif !r1.1.1 then
        some ((0, false, ()), (()))
      else
        (f64from.f k x0.2.2.2.1).bind fun r2 =>
        some ((r2.1.1, true, ()), (()))
abbrev value_Float.ini : LSh := ⟨[(0, .val (.cons (.int .i64) (.cons .bool (.cons (.int .i64) (.cons (.int .u64) (.cons .str .nil))))))], []⟩
abbrev value_Float.out : LSh := ⟨[(0, .val .flt), (1, .val .bool)], []⟩
noncomputable def value_Float.labF : Nat → List (LabF value_Float.out.den)
  | _ => []
noncomputable def value_Float.fd : FnD := ⟨Try.f40, value_Float.ini, value_Float.out, 2, [], [], value_Float.labF, fun k (d : ((Int × Bool × Int × Int × ByteArray × Unit) × Unit) × (Unit)) => (value_Float.f k d.1.1 : Option value_Float.R), none, []⟩

/-! ### math_Trunc : function 45 -/
abbrev math_Trunc.R := (Nat × Unit) × (Unit)
noncomputable def math_Trunc.f : Nat → Nat → Option math_Trunc.R
  | 0, _ => none
  | k + 1, x0 =>
    (f64trunc.f k x0).bind fun r1 =>
    some ((r1.1.1, ()), (()))
abbrev math_Trunc.ini : LSh := ⟨[(0, .val .flt)], []⟩
abbrev math_Trunc.out : LSh := ⟨[(0, .val .flt)], []⟩
noncomputable def math_Trunc.labF : Nat → List (LabF math_Trunc.out.den)
  | _ => []
noncomputable def math_Trunc.fd : FnD := ⟨Try.f45, math_Trunc.ini, math_Trunc.out, 1, [], [], math_Trunc.labF, fun k (d : (Nat × Unit) × (Unit)) => (math_Trunc.f k d.1.1 : Option math_Trunc.R), none, []⟩

/-! ### value_Whole : function 28 -/
abbrev value_Whole.R := (Int × Bool × Unit) × (Unit)
mutual
noncomputable def value_Whole.j0 : Nat → Int → Bool → Int → Int → ByteArray → Option value_Whole.R
  | 0, _, _, _, _, _ => none
  | k + 1, o1_0, o1_1, o1_2, o1_3, o1_4 =>
    (value_Float.f k (o1_0, (o1_1, (o1_2, (o1_3, (o1_4, ())))))).bind fun r2 =>
    bif !r2.1.2.1 then
      some ((0, false, ()), (()))
    else
    bif flt' r2.1.1 14114281232179134464 then
      some ((0, false, ()), (()))
    else
    bif fgt r2.1.1 4890909195324358656 || feq r2.1.1 4890909195324358656 then
      some ((0, false, ()), (()))
    else
      (math_Trunc.f k r2.1.1).bind fun r3 =>
      bif !feq r2.1.1 r3.1.1 then
        some ((0, false, ()), (()))
      else
        (floatToIntVal .f64 r2.1.1 .i64).bind fun t4 =>
        some ((t4, true, ()), (()))
noncomputable def value_Whole.f : Nat → (Int × Bool × Int × Int × ByteArray × Unit) → Option value_Whole.R
  | 0, _ => none
  | k + 1, x0 =>
    bif (x0.1 : Int) == 2 then
      (value_Right.f k x0).bind fun r1 =>
      bif r1.1.1 then
        some ((x0.2.2.1, true, ()), (()))
      else
        value_Whole.j0 k x0.1 x0.2.1 x0.2.2.1 x0.2.2.2.1 x0.2.2.2.2.1
    else
      value_Whole.j0 k x0.1 x0.2.1 x0.2.2.1 x0.2.2.2.1 x0.2.2.2.2.1
end
abbrev value_Whole.ini : LSh := ⟨[(0, .val (.cons (.int .i64) (.cons .bool (.cons (.int .i64) (.cons (.int .u64) (.cons .str .nil))))))], []⟩
abbrev value_Whole.out : LSh := ⟨[(0, .val (.int .i64)), (1, .val .bool)], []⟩
abbrev value_Whole.j0s : LSh := ⟨[(1, .ptr 1 0)], [(1, 35, [.val (.int .i64), .val .bool, .val (.int .i64), .val (.int .u64), .val .str])]⟩
noncomputable def value_Whole.labF : Nat → List (LabF value_Whole.out.den)
  | 7 => [⟨value_Whole.j0s, fun k (d : (Unit × Unit) × ((Int × Bool × Int × Int × ByteArray × Unit) × Unit)) => (value_Whole.j0 k d.2.1.1 d.2.1.2.1 d.2.1.2.2.1 d.2.1.2.2.2.1 d.2.1.2.2.2.2.1 : Option value_Whole.R)⟩]
  | _ => []
noncomputable def value_Whole.fd : FnD := ⟨Try.f28, value_Whole.ini, value_Whole.out, 2, [], [], value_Whole.labF, fun k (d : ((Int × Bool × Int × Int × ByteArray × Unit) × Unit) × (Unit)) => (value_Whole.f k d.1.1 : Option value_Whole.R), none, []⟩

/-! ### find_Sum : function 25 -/
abbrev find_Sum.R := (Int × Int × Int × Unit) × (Unit)
mutual
noncomputable def find_Sum.l0 : Nat → ByteArray → Int → Int → Int → (List (ByteArray × Int × List (ByteArray × (Int × Bool × Int × Int × ByteArray × Unit) × Unit) × Unit)) → Int → Int → Option find_Sum.R
  | 0, _, _, _, _, _, _, _ => none
  | k + 1, x0, x7, x8, x9, x16, x17, x18 =>
    bif decide ((x18 : Int) < x17) then
      (rdo x16 x18).bind fun t1 =>
      (find_by.f k t1 x0).bind fun r2 =>
      bif !r2.1.2.1 then
        find_Sum.l0 k x0 x7 x8 x9 x16 x17 (IntKind.wrap .i64 (x18 + 1))
      else
        (value_Whole.f k r2.1.1).bind fun r3 =>
        bif !r3.1.2.1 then
          find_Sum.l0 k x0 x7 x8 x9 x16 x17 (IntKind.wrap .i64 (x18 + 1))
        else
        bif (x7 : Int) == 0 then
          find_Sum.l0 k x0 (IntKind.wrap .i64 (x7 + 1)) (bif decide ((r3.1.1 : Int) < r3.1.1) then r3.1.1 else r3.1.1) (bif decide ((r3.1.1 : Int) > r3.1.1) then r3.1.1 else r3.1.1) x16 x17 (IntKind.wrap .i64 (x18 + 1))
        else
          find_Sum.l0 k x0 (IntKind.wrap .i64 (x7 + 1)) (bif decide ((r3.1.1 : Int) < x8) then r3.1.1 else x8) (bif decide ((r3.1.1 : Int) > x9) then r3.1.1 else x9) x16 x17 (IntKind.wrap .i64 (x18 + 1))
    else
      some ((x7, x8, x9, ()), (()))
noncomputable def find_Sum.f : Nat → ByteArray → (List (ByteArray × Int × List (ByteArray × (Int × Bool × Int × Int × ByteArray × Unit) × Unit) × Unit)) → Option find_Sum.R
  | 0, _, _ => none
  | k + 1, x0, x1 =>
    find_Sum.l0 k x0 0 0 0 x1 (x1.length : Int) 0
end
abbrev find_Sum.ini : LSh := ⟨[(0, .val .str), (1, .val (.sl (.cons .str (.cons (.int .i64) (.cons (.sl (.cons .str (.cons (.cons (.int .i64) (.cons .bool (.cons (.int .i64) (.cons (.int .u64) (.cons .str .nil))))) .nil))) .nil)))))], []⟩
abbrev find_Sum.out : LSh := ⟨[(0, .val (.int .i64)), (1, .val (.int .i64)), (2, .val (.int .i64))], []⟩
abbrev find_Sum.l0s : LSh := ⟨[(0, .val .str), (7, .val (.int .i64)), (8, .val (.int .i64)), (9, .val (.int .i64)), (16, .val (.sl (.cons .str (.cons (.int .i64) (.cons (.sl (.cons .str (.cons (.cons (.int .i64) (.cons .bool (.cons (.int .i64) (.cons (.int .u64) (.cons .str .nil))))) .nil))) .nil))))), (17, .val (.int .i64)), (18, .val (.int .i64))], []⟩
noncomputable def find_Sum.labF : Nat → List (LabF find_Sum.out.den)
  | 6 => [⟨find_Sum.l0s, fun k (d : (ByteArray × Int × Int × Int × (List (ByteArray × Int × List (ByteArray × (Int × Bool × Int × Int × ByteArray × Unit) × Unit) × Unit)) × Int × Int × Unit) × (Unit)) => (find_Sum.l0 k d.1.1 d.1.2.1 d.1.2.2.1 d.1.2.2.2.1 d.1.2.2.2.2.1 d.1.2.2.2.2.2.1 d.1.2.2.2.2.2.2.1 : Option find_Sum.R)⟩]
  | _ => []
noncomputable def find_Sum.fd : FnD := ⟨Try.f25, find_Sum.ini, find_Sum.out, 3, [], [], find_Sum.labF, fun k (d : (ByteArray × (List (ByteArray × Int × List (ByteArray × (Int × Bool × Int × Int × ByteArray × Unit) × Unit) × Unit)) × Unit) × (Unit)) => (find_Sum.f k d.1.1 d.1.2.1 : Option find_Sum.R), none, []⟩

/-! ### find_Extreme : function 26 -/
abbrev find_Extreme.R := ((Int × Bool × Int × Int × ByteArray × Unit) × Bool × Unit) × (Unit)
mutual
noncomputable def find_Extreme.l0 : Nat → ByteArray → Bool → Bool → (List (ByteArray × Int × List (ByteArray × (Int × Bool × Int × Int × ByteArray × Unit) × Unit) × Unit)) → Int → Int → Int → Bool → Int → Int → ByteArray → Int → Bool → Int → Int → ByteArray → Option find_Extreme.R
  | 0, _, _, _, _, _, _, _, _, _, _, _, _, _, _, _, _ => none
  | k + 1, x0, x1, x9, x17, x18, x19, o6_0, o6_1, o6_2, o6_3, o6_4, o8_0, o8_1, o8_2, o8_3, o8_4 =>
    bif decide ((x19 : Int) < x18) then
      (rdo x17 x19).bind fun t1 =>
      (find_by.f k t1 x0).bind fun r2 =>
      (value_Float.f k r2.1.1).bind fun r3 =>
      bif !r3.1.2.1 then
        find_Extreme.l0 k x0 x1 x9 x17 x18 (IntKind.wrap .i64 (x19 + 1)) o6_0 o6_1 o6_2 o6_3 o6_4 o8_0 o8_1 o8_2 o8_3 o8_4
      else
      bif !feq r3.1.1 r3.1.1 then
        find_Extreme.l0 k x0 x1 x9 x17 x18 (IntKind.wrap .i64 (x19 + 1)) o6_0 o6_1 o6_2 o6_3 o6_4 o8_0 o8_1 o8_2 o8_3 o8_4
      else
        (value_Compare.f k r2.1.1 (o8_0, (o8_1, (o8_2, (o8_3, (o8_4, ())))))).bind fun r4 =>
        bif !x9 then
          find_Extreme.l0 k x0 x1 true x17 x18 (IntKind.wrap .i64 (x19 + 1)) o6_0 o6_1 o6_2 o6_3 o6_4 r2.1.1.1 r2.1.1.2.1 r2.1.1.2.2.1 r2.1.1.2.2.2.1 r2.1.1.2.2.2.2.1
        else
        bif x1 then
          bif decide ((r4.1.1 : Int) > 0) then
            find_Extreme.l0 k x0 x1 true x17 x18 (IntKind.wrap .i64 (x19 + 1)) o6_0 o6_1 o6_2 o6_3 o6_4 r2.1.1.1 r2.1.1.2.1 r2.1.1.2.2.1 r2.1.1.2.2.2.1 r2.1.1.2.2.2.2.1
          else
          bif !x1 then
            bif decide ((r4.1.1 : Int) < 0) then
              find_Extreme.l0 k x0 x1 true x17 x18 (IntKind.wrap .i64 (x19 + 1)) o6_0 o6_1 o6_2 o6_3 o6_4 r2.1.1.1 r2.1.1.2.1 r2.1.1.2.2.1 r2.1.1.2.2.2.1 r2.1.1.2.2.2.2.1
            else
              find_Extreme.l0 k x0 x1 x9 x17 x18 (IntKind.wrap .i64 (x19 + 1)) o6_0 o6_1 o6_2 o6_3 o6_4 o8_0 o8_1 o8_2 o8_3 o8_4
          else
            find_Extreme.l0 k x0 x1 x9 x17 x18 (IntKind.wrap .i64 (x19 + 1)) o6_0 o6_1 o6_2 o6_3 o6_4 o8_0 o8_1 o8_2 o8_3 o8_4
        else
        bif !x1 then
          bif decide ((r4.1.1 : Int) < 0) then
            find_Extreme.l0 k x0 x1 true x17 x18 (IntKind.wrap .i64 (x19 + 1)) o6_0 o6_1 o6_2 o6_3 o6_4 r2.1.1.1 r2.1.1.2.1 r2.1.1.2.2.1 r2.1.1.2.2.2.1 r2.1.1.2.2.2.2.1
          else
            find_Extreme.l0 k x0 x1 x9 x17 x18 (IntKind.wrap .i64 (x19 + 1)) o6_0 o6_1 o6_2 o6_3 o6_4 o8_0 o8_1 o8_2 o8_3 o8_4
        else
          find_Extreme.l0 k x0 x1 x9 x17 x18 (IntKind.wrap .i64 (x19 + 1)) o6_0 o6_1 o6_2 o6_3 o6_4 o8_0 o8_1 o8_2 o8_3 o8_4
    else
      some (((o8_0, (o8_1, (o8_2, (o8_3, (o8_4, ()))))), x9, ()), (()))
noncomputable def find_Extreme.f : Nat → ByteArray → Bool → (List (ByteArray × Int × List (ByteArray × (Int × Bool × Int × Int × ByteArray × Unit) × Unit) × Unit)) → Option find_Extreme.R
  | 0, _, _, _ => none
  | k + 1, x0, x1, x2 =>
    find_Extreme.l0 k x0 x1 false x2 (x2.length : Int) 0 0 false 0 0 ByteArray.empty 0 false 0 0 ByteArray.empty
end
abbrev find_Extreme.ini : LSh := ⟨[(0, .val .str), (1, .val .bool), (2, .val (.sl (.cons .str (.cons (.int .i64) (.cons (.sl (.cons .str (.cons (.cons (.int .i64) (.cons .bool (.cons (.int .i64) (.cons (.int .u64) (.cons .str .nil))))) .nil))) .nil)))))], []⟩
abbrev find_Extreme.out : LSh := ⟨[(0, .val (.cons (.int .i64) (.cons .bool (.cons (.int .i64) (.cons (.int .u64) (.cons .str .nil)))))), (1, .val .bool)], []⟩
abbrev find_Extreme.l0s : LSh := ⟨[(0, .val .str), (1, .val .bool), (6, .ptr 6 0), (8, .ptr 8 0), (9, .val .bool), (17, .val (.sl (.cons .str (.cons (.int .i64) (.cons (.sl (.cons .str (.cons (.cons (.int .i64) (.cons .bool (.cons (.int .i64) (.cons (.int .u64) (.cons .str .nil))))) .nil))) .nil))))), (18, .val (.int .i64)), (19, .val (.int .i64))], [(6, 35, [.val (.int .i64), .val .bool, .val (.int .i64), .val (.int .u64), .val .str]), (8, 35, [.val (.int .i64), .val .bool, .val (.int .i64), .val (.int .u64), .val .str])]⟩
noncomputable def find_Extreme.labF : Nat → List (LabF find_Extreme.out.den)
  | 8 => [⟨find_Extreme.l0s, fun k (d : (ByteArray × Bool × Unit × Unit × Bool × (List (ByteArray × Int × List (ByteArray × (Int × Bool × Int × Int × ByteArray × Unit) × Unit) × Unit)) × Int × Int × Unit) × ((Int × Bool × Int × Int × ByteArray × Unit) × (Int × Bool × Int × Int × ByteArray × Unit) × Unit)) => (find_Extreme.l0 k d.1.1 d.1.2.1 d.1.2.2.2.2.1 d.1.2.2.2.2.2.1 d.1.2.2.2.2.2.2.1 d.1.2.2.2.2.2.2.2.1 d.2.1.1 d.2.1.2.1 d.2.1.2.2.1 d.2.1.2.2.2.1 d.2.1.2.2.2.2.1 d.2.2.1.1 d.2.2.1.2.1 d.2.2.1.2.2.1 d.2.2.1.2.2.2.1 d.2.2.1.2.2.2.2.1 : Option find_Extreme.R)⟩]
  | _ => []
noncomputable def find_Extreme.fd : FnD := ⟨Try.f26, find_Extreme.ini, find_Extreme.out, 2, [], [], find_Extreme.labF, fun k (d : (ByteArray × Bool × (List (ByteArray × Int × List (ByteArray × (Int × Bool × Int × Int × ByteArray × Unit) × Unit) × Unit)) × Unit) × (Unit)) => (find_Extreme.f k d.1.1 d.1.2.1 d.1.2.2.1 : Option find_Extreme.R), none, []⟩

/-! ### chartularylaw17_field : function 27 -/
abbrev chartularylaw17_field.R := (Int × Unit) × (Unit)
mutual
noncomputable def chartularylaw17_field.l0 : Nat → ByteArray → Int → ByteArray → Int → (List (ByteArray × (Int × Bool × Int × Int × ByteArray × Unit) × Unit)) → Option chartularylaw17_field.R
  | 0, _, _, _, _, _ => none
  | k + 1, x1, x5, o2_0, o2_1, o2_2 =>
    bif decide ((x5 : Int) < (o2_2.length : Int)) then
      (rdo o2_2 x5).bind fun t1 =>
      bif t1.1.toList == x1.toList then
        some ((x5, ()), (()))
      else
        chartularylaw17_field.l0 k x1 (IntKind.wrap .i64 (x5 + 1)) o2_0 o2_1 o2_2
    else
      some (((-1), ()), (()))
noncomputable def chartularylaw17_field.f : Nat → (ByteArray × Int × List (ByteArray × (Int × Bool × Int × Int × ByteArray × Unit) × Unit) × Unit) → ByteArray → Option chartularylaw17_field.R
  | 0, _, _ => none
  | k + 1, x0, x1 =>
    chartularylaw17_field.l0 k x1 0 x0.1 x0.2.1 x0.2.2.1
end
abbrev chartularylaw17_field.ini : LSh := ⟨[(0, .val (.cons .str (.cons (.int .i64) (.cons (.sl (.cons .str (.cons (.cons (.int .i64) (.cons .bool (.cons (.int .i64) (.cons (.int .u64) (.cons .str .nil))))) .nil))) .nil)))), (1, .val .str)], []⟩
abbrev chartularylaw17_field.out : LSh := ⟨[(0, .val (.int .i64))], []⟩
abbrev chartularylaw17_field.l0s : LSh := ⟨[(1, .val .str), (2, .ptr 2 0), (5, .val (.int .i64))], [(2, 27, [.val .str, .val (.int .i64), .val (.sl (.cons .str (.cons (.cons (.int .i64) (.cons .bool (.cons (.int .i64) (.cons (.int .u64) (.cons .str .nil))))) .nil)))])]⟩
noncomputable def chartularylaw17_field.labF : Nat → List (LabF chartularylaw17_field.out.den)
  | 4 => [⟨chartularylaw17_field.l0s, fun k (d : (ByteArray × Unit × Int × Unit) × ((ByteArray × Int × (List (ByteArray × (Int × Bool × Int × Int × ByteArray × Unit) × Unit)) × Unit) × Unit)) => (chartularylaw17_field.l0 k d.1.1 d.1.2.2.1 d.2.1.1 d.2.1.2.1 d.2.1.2.2.1 : Option chartularylaw17_field.R)⟩]
  | _ => []
noncomputable def chartularylaw17_field.fd : FnD := ⟨Try.f27, chartularylaw17_field.ini, chartularylaw17_field.out, 1, [], [], chartularylaw17_field.labF, fun k (d : ((ByteArray × Int × List (ByteArray × (Int × Bool × Int × Int × ByteArray × Unit) × Unit) × Unit) × ByteArray × Unit) × (Unit)) => (chartularylaw17_field.f k d.1.1 d.1.2.1 : Option chartularylaw17_field.R), none, []⟩

/-! ### chartularylaw17_FindGroups : function 7 -/
abbrev chartularylaw17_FindGroups.R := (Bool × Unit) × (Unit)
mutual
noncomputable def chartularylaw17_FindGroups.l0 : Nat → ByteArray → Bool → (List (ByteArray × Int × List (ByteArray × (Int × Bool × Int × Int × ByteArray × Unit) × Unit) × Unit)) → (List ((Int × Bool × Int × Int × ByteArray × Unit) × Int × Unit)) → Int → Int → Int → Bool → Int → Int → Int → Int → Int → Int → Bool → Int → Int → ByteArray → Int → Bool → Int → Int → ByteArray → Option chartularylaw17_FindGroups.R
  | 0, _, _, _, _, _, _, _, _, _, _, _, _, _, _, _, _, _, _, _, _, _, _, _ => none
  | k + 1, x0, x1, x2, x7, x8, x9, x10, x12, x13, x14, x15, x16, x18, o11_0, o11_1, o11_2, o11_3, o11_4, o17_0, o17_1, o17_2, o17_3, o17_4 =>
    bif decide ((x18 : Int) < (x2.length : Int)) then
      (rdo x2 x18).bind fun t7 =>
      (chartularylaw17_field.f k t7 x0).bind fun r8 =>
      bif decide ((r8.1.1 : Int) < 0) then
        chartularylaw17_FindGroups.l0 k x0 x1 x2 x7 x8 x9 x10 x12 x13 x14 x15 x16 (IntKind.wrap .i64 (x18 + 1)) o11_0 o11_1 o11_2 o11_3 o11_4 o17_0 o17_1 o17_2 o17_3 o17_4
      else
        (rdo x2 x18).bind fun t9 =>
        (rdo t9.2.2.1 r8.1.1).bind fun t10 =>
        (value_Whole.f k t10.2.1).bind fun r11 =>
        bif r11.1.2.1 then
          bif (x14 : Int) == 0 then
            chartularylaw17_FindGroups.j0 k x0 x1 x2 x7 x8 x9 x10 x12 (IntKind.wrap .i64 (x13 + 1)) x14 r11.1.1 x16 x18 r11.1.1 o11_0 o11_1 o11_2 o11_3 o11_4 o17_0 o17_1 o17_2 o17_3 o17_4 t10.2.1.1 t10.2.1.2.1 t10.2.1.2.2.1 t10.2.1.2.2.2.1 t10.2.1.2.2.2.2.1
          else
          bif decide ((r11.1.1 : Int) < x15) then
            chartularylaw17_FindGroups.j0 k x0 x1 x2 x7 x8 x9 x10 x12 (IntKind.wrap .i64 (x13 + 1)) x14 r11.1.1 x16 x18 r11.1.1 o11_0 o11_1 o11_2 o11_3 o11_4 o17_0 o17_1 o17_2 o17_3 o17_4 t10.2.1.1 t10.2.1.2.1 t10.2.1.2.2.1 t10.2.1.2.2.2.1 t10.2.1.2.2.2.2.1
          else
            chartularylaw17_FindGroups.j0 k x0 x1 x2 x7 x8 x9 x10 x12 (IntKind.wrap .i64 (x13 + 1)) x14 x15 x16 x18 r11.1.1 o11_0 o11_1 o11_2 o11_3 o11_4 o17_0 o17_1 o17_2 o17_3 o17_4 t10.2.1.1 t10.2.1.2.1 t10.2.1.2.2.1 t10.2.1.2.2.2.1 t10.2.1.2.2.2.2.1
        else
          chartularylaw17_FindGroups.j1 k x0 x1 x2 x7 x8 x9 x10 x12 (IntKind.wrap .i64 (x13 + 1)) x14 x15 x16 x18 o11_0 o11_1 o11_2 o11_3 o11_4 o17_0 o17_1 o17_2 o17_3 o17_4 t10.2.1.1 t10.2.1.2.1 t10.2.1.2.2.1 t10.2.1.2.2.2.1 t10.2.1.2.2.2.2.1
    else
    bif (x8 : Int) != x14 then
      some ((false, ()), (()))
    else
    bif (x9 : Int) != x15 then
      some ((false, ()), (()))
    else
    bif (x10 : Int) != x16 then
      some ((false, ()), (()))
    else
    bif !(x12 == ((o17_0 : Int) == 3)) then
      some ((false, ()), (()))
    else
    bif !(((o11_0 : Int) == o17_0 && (o11_1 == o17_1 && ((o11_2 : Int) == o17_2 && ((o11_3 : Int) == o17_3 && (seqB o11_4 o17_4 && true)))))) then
      some ((false, ()), (()))
    else
      chartularylaw17_FindGroups.l1 k x0 x2 x7 x13 0
noncomputable def chartularylaw17_FindGroups.j0 : Nat → ByteArray → Bool → (List (ByteArray × Int × List (ByteArray × (Int × Bool × Int × Int × ByteArray × Unit) × Unit) × Unit)) → (List ((Int × Bool × Int × Int × ByteArray × Unit) × Int × Unit)) → Int → Int → Int → Bool → Int → Int → Int → Int → Int → Int → Int → Bool → Int → Int → ByteArray → Int → Bool → Int → Int → ByteArray → Int → Bool → Int → Int → ByteArray → Option chartularylaw17_FindGroups.R
  | 0, _, _, _, _, _, _, _, _, _, _, _, _, _, _, _, _, _, _, _, _, _, _, _, _, _, _, _, _, _ => none
  | k + 1, x0, x1, x2, x7, x8, x9, x10, x12, x13, x14, x15, x16, x18, x21, o11_0, o11_1, o11_2, o11_3, o11_4, o17_0, o17_1, o17_2, o17_3, o17_4, o20_0, o20_1, o20_2, o20_3, o20_4 =>
    bif (x14 : Int) == 0 then
      chartularylaw17_FindGroups.j1 k x0 x1 x2 x7 x8 x9 x10 x12 x13 (IntKind.wrap .i64 (x14 + 1)) x15 x21 x18 o11_0 o11_1 o11_2 o11_3 o11_4 o17_0 o17_1 o17_2 o17_3 o17_4 o20_0 o20_1 o20_2 o20_3 o20_4
    else
    bif decide ((x21 : Int) > x16) then
      chartularylaw17_FindGroups.j1 k x0 x1 x2 x7 x8 x9 x10 x12 x13 (IntKind.wrap .i64 (x14 + 1)) x15 x21 x18 o11_0 o11_1 o11_2 o11_3 o11_4 o17_0 o17_1 o17_2 o17_3 o17_4 o20_0 o20_1 o20_2 o20_3 o20_4
    else
      chartularylaw17_FindGroups.j1 k x0 x1 x2 x7 x8 x9 x10 x12 x13 (IntKind.wrap .i64 (x14 + 1)) x15 x16 x18 o11_0 o11_1 o11_2 o11_3 o11_4 o17_0 o17_1 o17_2 o17_3 o17_4 o20_0 o20_1 o20_2 o20_3 o20_4
noncomputable def chartularylaw17_FindGroups.j1 : Nat → ByteArray → Bool → (List (ByteArray × Int × List (ByteArray × (Int × Bool × Int × Int × ByteArray × Unit) × Unit) × Unit)) → (List ((Int × Bool × Int × Int × ByteArray × Unit) × Int × Unit)) → Int → Int → Int → Bool → Int → Int → Int → Int → Int → Int → Bool → Int → Int → ByteArray → Int → Bool → Int → Int → ByteArray → Int → Bool → Int → Int → ByteArray → Option chartularylaw17_FindGroups.R
  | 0, _, _, _, _, _, _, _, _, _, _, _, _, _, _, _, _, _, _, _, _, _, _, _, _, _, _, _, _ => none
  | k + 1, x0, x1, x2, x7, x8, x9, x10, x12, x13, x14, x15, x16, x18, o11_0, o11_1, o11_2, o11_3, o11_4, o17_0, o17_1, o17_2, o17_3, o17_4, o20_0, o20_1, o20_2, o20_3, o20_4 =>
    bif (o20_0 : Int) == 3 then
      (ck (!decide ((1 : Int) < 0))).bind fun _ =>
      bif decide ((IntKind.wrap .u64 (o20_3 * 2 ^ (min (1 : Int).toNat (IntKind.bits .u64))) : Int) ≤ 18437736874454810624) then
        bif (o17_0 : Int) == 0 then
          chartularylaw17_FindGroups.l0 k x0 x1 x2 x7 x8 x9 x10 x12 x13 x14 x15 x16 (IntKind.wrap .i64 (x18 + 1)) o11_0 o11_1 o11_2 o11_3 o11_4 o20_0 o20_1 o20_2 o20_3 o20_4
        else
        bif x1 then
          (value_Compare.f k (o20_0, (o20_1, (o20_2, (o20_3, (o20_4, ()))))) (o17_0, (o17_1, (o17_2, (o17_3, (o17_4, ())))))).bind fun r12 =>
          bif decide ((r12.1.1 : Int) > 0) then
            chartularylaw17_FindGroups.l0 k x0 x1 x2 x7 x8 x9 x10 x12 x13 x14 x15 x16 (IntKind.wrap .i64 (x18 + 1)) o11_0 o11_1 o11_2 o11_3 o11_4 o20_0 o20_1 o20_2 o20_3 o20_4
          else
          bif !x1 then
            (value_Compare.f k (o20_0, (o20_1, (o20_2, (o20_3, (o20_4, ()))))) (o17_0, (o17_1, (o17_2, (o17_3, (o17_4, ())))))).bind fun r13 =>
            bif decide ((r13.1.1 : Int) < 0) then
              chartularylaw17_FindGroups.l0 k x0 x1 x2 x7 x8 x9 x10 x12 x13 x14 x15 x16 (IntKind.wrap .i64 (x18 + 1)) o11_0 o11_1 o11_2 o11_3 o11_4 o20_0 o20_1 o20_2 o20_3 o20_4
            else
              chartularylaw17_FindGroups.l0 k x0 x1 x2 x7 x8 x9 x10 x12 x13 x14 x15 x16 (IntKind.wrap .i64 (x18 + 1)) o11_0 o11_1 o11_2 o11_3 o11_4 o17_0 o17_1 o17_2 o17_3 o17_4
          else
            chartularylaw17_FindGroups.l0 k x0 x1 x2 x7 x8 x9 x10 x12 x13 x14 x15 x16 (IntKind.wrap .i64 (x18 + 1)) o11_0 o11_1 o11_2 o11_3 o11_4 o17_0 o17_1 o17_2 o17_3 o17_4
        else
        bif !x1 then
          (value_Compare.f k (o20_0, (o20_1, (o20_2, (o20_3, (o20_4, ()))))) (o17_0, (o17_1, (o17_2, (o17_3, (o17_4, ())))))).bind fun r14 =>
          bif decide ((r14.1.1 : Int) < 0) then
            chartularylaw17_FindGroups.l0 k x0 x1 x2 x7 x8 x9 x10 x12 x13 x14 x15 x16 (IntKind.wrap .i64 (x18 + 1)) o11_0 o11_1 o11_2 o11_3 o11_4 o20_0 o20_1 o20_2 o20_3 o20_4
          else
            chartularylaw17_FindGroups.l0 k x0 x1 x2 x7 x8 x9 x10 x12 x13 x14 x15 x16 (IntKind.wrap .i64 (x18 + 1)) o11_0 o11_1 o11_2 o11_3 o11_4 o17_0 o17_1 o17_2 o17_3 o17_4
        else
          chartularylaw17_FindGroups.l0 k x0 x1 x2 x7 x8 x9 x10 x12 x13 x14 x15 x16 (IntKind.wrap .i64 (x18 + 1)) o11_0 o11_1 o11_2 o11_3 o11_4 o17_0 o17_1 o17_2 o17_3 o17_4
      else
        chartularylaw17_FindGroups.l0 k x0 x1 x2 x7 x8 x9 x10 x12 x13 x14 x15 x16 (IntKind.wrap .i64 (x18 + 1)) o11_0 o11_1 o11_2 o11_3 o11_4 o17_0 o17_1 o17_2 o17_3 o17_4
    else
      chartularylaw17_FindGroups.l0 k x0 x1 x2 x7 x8 x9 x10 x12 x13 x14 x15 x16 (IntKind.wrap .i64 (x18 + 1)) o11_0 o11_1 o11_2 o11_3 o11_4 o17_0 o17_1 o17_2 o17_3 o17_4
noncomputable def chartularylaw17_FindGroups.l1 : Nat → ByteArray → (List (ByteArray × Int × List (ByteArray × (Int × Bool × Int × Int × ByteArray × Unit) × Unit) × Unit)) → (List ((Int × Bool × Int × Int × ByteArray × Unit) × Int × Unit)) → Int → Int → Option chartularylaw17_FindGroups.R
  | 0, _, _, _, _, _ => none
  | k + 1, x0, x2, x7, x13, x23 =>
    bif decide ((x23 : Int) < (x7.length : Int)) then
      chartularylaw17_FindGroups.l2 k x0 x2 x7 x13 x23 0 0
    else
    bif (x13 : Int) == 0 then
      (chartularylaw17_awake.f k).bind fun r15 =>
      some ((r15.1.1, ()), (()))
    else
      some ((false, ()), (()))
noncomputable def chartularylaw17_FindGroups.l2 : Nat → ByteArray → (List (ByteArray × Int × List (ByteArray × (Int × Bool × Int × Int × ByteArray × Unit) × Unit) × Unit)) → (List ((Int × Bool × Int × Int × ByteArray × Unit) × Int × Unit)) → Int → Int → Int → Int → Option chartularylaw17_FindGroups.R
  | 0, _, _, _, _, _, _, _ => none
  | k + 1, x0, x2, x7, x13, x23, x24, x25 =>
    bif decide ((x25 : Int) < (x2.length : Int)) then
      (rdo x2 x25).bind fun t16 =>
      (chartularylaw17_field.f k t16 x0).bind fun r17 =>
      bif decide ((r17.1.1 : Int) ≥ 0) then
        (rdo x2 x25).bind fun t18 =>
        (rdo t18.2.2.1 r17.1.1).bind fun t19 =>
        (rdo x7 x23).bind fun t20 =>
        bif ((t19.2.1.1 : Int) == t20.1.1 && (t19.2.1.2.1 == t20.1.2.1 && ((t19.2.1.2.2.1 : Int) == t20.1.2.2.1 && ((t19.2.1.2.2.2.1 : Int) == t20.1.2.2.2.1 && (seqB t19.2.1.2.2.2.2.1 t20.1.2.2.2.2.1 && true))))) then
          chartularylaw17_FindGroups.l2 k x0 x2 x7 x13 x23 (IntKind.wrap .i64 (x24 + 1)) (IntKind.wrap .i64 (x25 + 1))
        else
          chartularylaw17_FindGroups.l2 k x0 x2 x7 x13 x23 x24 (IntKind.wrap .i64 (x25 + 1))
      else
        chartularylaw17_FindGroups.l2 k x0 x2 x7 x13 x23 x24 (IntKind.wrap .i64 (x25 + 1))
    else
      (rdo x7 x23).bind fun t21 =>
      bif (t21.2.1 : Int) != x24 then
        some ((false, ()), (()))
      else
      bif (x24 : Int) == 0 then
        some ((false, ()), (()))
      else
      bif decide ((x23 : Int) > 0) then
        (rdo x7 (IntKind.wrap .i64 (x23 - 1))).bind fun t22 =>
        (rdo x7 x23).bind fun t23 =>
        (value_Compare.f k t22.1 t23.1).bind fun r24 =>
        bif decide ((r24.1.1 : Int) ≥ 0) then
          some ((false, ()), (()))
        else
          chartularylaw17_FindGroups.l1 k x0 x2 x7 (IntKind.wrap .i64 (x13 - x24)) (IntKind.wrap .i64 (x23 + 1))
      else
        chartularylaw17_FindGroups.l1 k x0 x2 x7 (IntKind.wrap .i64 (x13 - x24)) (IntKind.wrap .i64 (x23 + 1))
noncomputable def chartularylaw17_FindGroups.f : Nat → ByteArray → Bool → (List (ByteArray × Int × List (ByteArray × (Int × Bool × Int × Int × ByteArray × Unit) × Unit) × Unit)) → Option chartularylaw17_FindGroups.R
  | 0, _, _, _ => none
  | k + 1, x0, x1, x2 =>
    (chartularylaw17_papers.f k x2).bind fun r1 =>
    (chartularylaw17_right.f k r1.1.1).bind fun r2 =>
    bif !r2.1.1 then
      (chartularylaw17_awake.f k).bind fun r3 =>
      some ((r3.1.1, ()), (()))
    else
      (find_Groups.f k x0 r1.1.1).bind fun r4 =>
      (find_Sum.f k x0 r1.1.1).bind fun r5 =>
      (find_Extreme.f k x0 x1 r1.1.1).bind fun r6 =>
      chartularylaw17_FindGroups.l0 k x0 x1 r1.1.1 r4.1.1 r5.1.1 r5.1.2.1 r5.1.2.2.1 r6.1.2.1 0 0 0 0 0 r6.1.1.1 r6.1.1.2.1 r6.1.1.2.2.1 r6.1.1.2.2.2.1 r6.1.1.2.2.2.2.1 0 false 0 0 ByteArray.empty
end
abbrev chartularylaw17_FindGroups.ini : LSh := ⟨[(0, .val .str), (1, .val .bool), (2, .val (.sl (.cons .str (.cons (.int .i64) (.cons (.sl (.cons .str (.cons (.cons (.int .i64) (.cons .bool (.cons (.int .i64) (.cons (.int .u64) (.cons .str .nil))))) .nil))) .nil)))))], []⟩
abbrev chartularylaw17_FindGroups.out : LSh := ⟨[(0, .val .bool)], []⟩
abbrev chartularylaw17_FindGroups.l0s : LSh := ⟨[(0, .val .str), (1, .val .bool), (2, .val (.sl (.cons .str (.cons (.int .i64) (.cons (.sl (.cons .str (.cons (.cons (.int .i64) (.cons .bool (.cons (.int .i64) (.cons (.int .u64) (.cons .str .nil))))) .nil))) .nil))))), (7, .val (.sl (.cons (.cons (.int .i64) (.cons .bool (.cons (.int .i64) (.cons (.int .u64) (.cons .str .nil))))) (.cons (.int .i64) .nil)))), (8, .val (.int .i64)), (9, .val (.int .i64)), (10, .val (.int .i64)), (11, .ptr 11 0), (12, .val .bool), (13, .val (.int .i64)), (14, .val (.int .i64)), (15, .val (.int .i64)), (16, .val (.int .i64)), (17, .ptr 17 0), (18, .val (.int .i64))], [(11, 35, [.val (.int .i64), .val .bool, .val (.int .i64), .val (.int .u64), .val .str]), (17, 35, [.val (.int .i64), .val .bool, .val (.int .i64), .val (.int .u64), .val .str])]⟩
abbrev chartularylaw17_FindGroups.j0s : LSh := ⟨[(0, .val .str), (1, .val .bool), (2, .val (.sl (.cons .str (.cons (.int .i64) (.cons (.sl (.cons .str (.cons (.cons (.int .i64) (.cons .bool (.cons (.int .i64) (.cons (.int .u64) (.cons .str .nil))))) .nil))) .nil))))), (7, .val (.sl (.cons (.cons (.int .i64) (.cons .bool (.cons (.int .i64) (.cons (.int .u64) (.cons .str .nil))))) (.cons (.int .i64) .nil)))), (8, .val (.int .i64)), (9, .val (.int .i64)), (10, .val (.int .i64)), (11, .ptr 11 0), (12, .val .bool), (13, .val (.int .i64)), (14, .val (.int .i64)), (15, .val (.int .i64)), (16, .val (.int .i64)), (17, .ptr 17 0), (18, .val (.int .i64)), (20, .ptr 20 0), (21, .val (.int .i64))], [(11, 35, [.val (.int .i64), .val .bool, .val (.int .i64), .val (.int .u64), .val .str]), (17, 35, [.val (.int .i64), .val .bool, .val (.int .i64), .val (.int .u64), .val .str]), (20, 35, [.val (.int .i64), .val .bool, .val (.int .i64), .val (.int .u64), .val .str])]⟩
abbrev chartularylaw17_FindGroups.j1s : LSh := ⟨[(0, .val .str), (1, .val .bool), (2, .val (.sl (.cons .str (.cons (.int .i64) (.cons (.sl (.cons .str (.cons (.cons (.int .i64) (.cons .bool (.cons (.int .i64) (.cons (.int .u64) (.cons .str .nil))))) .nil))) .nil))))), (7, .val (.sl (.cons (.cons (.int .i64) (.cons .bool (.cons (.int .i64) (.cons (.int .u64) (.cons .str .nil))))) (.cons (.int .i64) .nil)))), (8, .val (.int .i64)), (9, .val (.int .i64)), (10, .val (.int .i64)), (11, .ptr 11 0), (12, .val .bool), (13, .val (.int .i64)), (14, .val (.int .i64)), (15, .val (.int .i64)), (16, .val (.int .i64)), (17, .ptr 17 0), (18, .val (.int .i64)), (20, .ptr 20 0)], [(11, 35, [.val (.int .i64), .val .bool, .val (.int .i64), .val (.int .u64), .val .str]), (17, 35, [.val (.int .i64), .val .bool, .val (.int .i64), .val (.int .u64), .val .str]), (20, 35, [.val (.int .i64), .val .bool, .val (.int .i64), .val (.int .u64), .val .str])]⟩
abbrev chartularylaw17_FindGroups.l1s : LSh := ⟨[(0, .val .str), (2, .val (.sl (.cons .str (.cons (.int .i64) (.cons (.sl (.cons .str (.cons (.cons (.int .i64) (.cons .bool (.cons (.int .i64) (.cons (.int .u64) (.cons .str .nil))))) .nil))) .nil))))), (7, .val (.sl (.cons (.cons (.int .i64) (.cons .bool (.cons (.int .i64) (.cons (.int .u64) (.cons .str .nil))))) (.cons (.int .i64) .nil)))), (13, .val (.int .i64)), (23, .val (.int .i64))], []⟩
abbrev chartularylaw17_FindGroups.l2s : LSh := ⟨[(0, .val .str), (2, .val (.sl (.cons .str (.cons (.int .i64) (.cons (.sl (.cons .str (.cons (.cons (.int .i64) (.cons .bool (.cons (.int .i64) (.cons (.int .u64) (.cons .str .nil))))) .nil))) .nil))))), (7, .val (.sl (.cons (.cons (.int .i64) (.cons .bool (.cons (.int .i64) (.cons (.int .u64) (.cons .str .nil))))) (.cons (.int .i64) .nil)))), (13, .val (.int .i64)), (23, .val (.int .i64)), (24, .val (.int .i64)), (25, .val (.int .i64))], []⟩
noncomputable def chartularylaw17_FindGroups.labF : Nat → List (LabF chartularylaw17_FindGroups.out.den)
  | 22 => [⟨chartularylaw17_FindGroups.l0s, fun k (d : (ByteArray × Bool × (List (ByteArray × Int × List (ByteArray × (Int × Bool × Int × Int × ByteArray × Unit) × Unit) × Unit)) × (List ((Int × Bool × Int × Int × ByteArray × Unit) × Int × Unit)) × Int × Int × Int × Unit × Bool × Int × Int × Int × Int × Unit × Int × Unit) × ((Int × Bool × Int × Int × ByteArray × Unit) × (Int × Bool × Int × Int × ByteArray × Unit) × Unit)) => (chartularylaw17_FindGroups.l0 k d.1.1 d.1.2.1 d.1.2.2.1 d.1.2.2.2.1 d.1.2.2.2.2.1 d.1.2.2.2.2.2.1 d.1.2.2.2.2.2.2.1 d.1.2.2.2.2.2.2.2.2.1 d.1.2.2.2.2.2.2.2.2.2.1 d.1.2.2.2.2.2.2.2.2.2.2.1 d.1.2.2.2.2.2.2.2.2.2.2.2.1 d.1.2.2.2.2.2.2.2.2.2.2.2.2.1 d.1.2.2.2.2.2.2.2.2.2.2.2.2.2.2.1 d.2.1.1 d.2.1.2.1 d.2.1.2.2.1 d.2.1.2.2.2.1 d.2.1.2.2.2.2.1 d.2.2.1.1 d.2.2.1.2.1 d.2.2.1.2.2.1 d.2.2.1.2.2.2.1 d.2.2.1.2.2.2.2.1 : Option chartularylaw17_FindGroups.R)⟩]
  | 43 => [⟨chartularylaw17_FindGroups.j0s, fun k (d : (ByteArray × Bool × (List (ByteArray × Int × List (ByteArray × (Int × Bool × Int × Int × ByteArray × Unit) × Unit) × Unit)) × (List ((Int × Bool × Int × Int × ByteArray × Unit) × Int × Unit)) × Int × Int × Int × Unit × Bool × Int × Int × Int × Int × Unit × Int × Unit × Int × Unit) × ((Int × Bool × Int × Int × ByteArray × Unit) × (Int × Bool × Int × Int × ByteArray × Unit) × (Int × Bool × Int × Int × ByteArray × Unit) × Unit)) => (chartularylaw17_FindGroups.j0 k d.1.1 d.1.2.1 d.1.2.2.1 d.1.2.2.2.1 d.1.2.2.2.2.1 d.1.2.2.2.2.2.1 d.1.2.2.2.2.2.2.1 d.1.2.2.2.2.2.2.2.2.1 d.1.2.2.2.2.2.2.2.2.2.1 d.1.2.2.2.2.2.2.2.2.2.2.1 d.1.2.2.2.2.2.2.2.2.2.2.2.1 d.1.2.2.2.2.2.2.2.2.2.2.2.2.1 d.1.2.2.2.2.2.2.2.2.2.2.2.2.2.2.1 d.1.2.2.2.2.2.2.2.2.2.2.2.2.2.2.2.2.1 d.2.1.1 d.2.1.2.1 d.2.1.2.2.1 d.2.1.2.2.2.1 d.2.1.2.2.2.2.1 d.2.2.1.1 d.2.2.1.2.1 d.2.2.1.2.2.1 d.2.2.1.2.2.2.1 d.2.2.1.2.2.2.2.1 d.2.2.2.1.1 d.2.2.2.1.2.1 d.2.2.2.1.2.2.1 d.2.2.2.1.2.2.2.1 d.2.2.2.1.2.2.2.2.1 : Option chartularylaw17_FindGroups.R)⟩]
  | 49 => [⟨chartularylaw17_FindGroups.j1s, fun k (d : (ByteArray × Bool × (List (ByteArray × Int × List (ByteArray × (Int × Bool × Int × Int × ByteArray × Unit) × Unit) × Unit)) × (List ((Int × Bool × Int × Int × ByteArray × Unit) × Int × Unit)) × Int × Int × Int × Unit × Bool × Int × Int × Int × Int × Unit × Int × Unit × Unit) × ((Int × Bool × Int × Int × ByteArray × Unit) × (Int × Bool × Int × Int × ByteArray × Unit) × (Int × Bool × Int × Int × ByteArray × Unit) × Unit)) => (chartularylaw17_FindGroups.j1 k d.1.1 d.1.2.1 d.1.2.2.1 d.1.2.2.2.1 d.1.2.2.2.2.1 d.1.2.2.2.2.2.1 d.1.2.2.2.2.2.2.1 d.1.2.2.2.2.2.2.2.2.1 d.1.2.2.2.2.2.2.2.2.2.1 d.1.2.2.2.2.2.2.2.2.2.2.1 d.1.2.2.2.2.2.2.2.2.2.2.2.1 d.1.2.2.2.2.2.2.2.2.2.2.2.2.1 d.1.2.2.2.2.2.2.2.2.2.2.2.2.2.2.1 d.2.1.1 d.2.1.2.1 d.2.1.2.2.1 d.2.1.2.2.2.1 d.2.1.2.2.2.2.1 d.2.2.1.1 d.2.2.1.2.1 d.2.2.1.2.2.1 d.2.2.1.2.2.2.1 d.2.2.1.2.2.2.2.1 d.2.2.2.1.1 d.2.2.2.1.2.1 d.2.2.2.1.2.2.1 d.2.2.2.1.2.2.2.1 d.2.2.2.1.2.2.2.2.1 : Option chartularylaw17_FindGroups.R)⟩]
  | 58 => [⟨chartularylaw17_FindGroups.l1s, fun k (d : (ByteArray × (List (ByteArray × Int × List (ByteArray × (Int × Bool × Int × Int × ByteArray × Unit) × Unit) × Unit)) × (List ((Int × Bool × Int × Int × ByteArray × Unit) × Int × Unit)) × Int × Int × Unit) × (Unit)) => (chartularylaw17_FindGroups.l1 k d.1.1 d.1.2.1 d.1.2.2.1 d.1.2.2.2.1 d.1.2.2.2.2.1 : Option chartularylaw17_FindGroups.R)⟩]
  | 66 => [⟨chartularylaw17_FindGroups.l2s, fun k (d : (ByteArray × (List (ByteArray × Int × List (ByteArray × (Int × Bool × Int × Int × ByteArray × Unit) × Unit) × Unit)) × (List ((Int × Bool × Int × Int × ByteArray × Unit) × Int × Unit)) × Int × Int × Int × Int × Unit) × (Unit)) => (chartularylaw17_FindGroups.l2 k d.1.1 d.1.2.1 d.1.2.2.1 d.1.2.2.2.1 d.1.2.2.2.2.1 d.1.2.2.2.2.2.1 d.1.2.2.2.2.2.2.1 : Option chartularylaw17_FindGroups.R)⟩]
  | _ => []
noncomputable def chartularylaw17_FindGroups.fd : FnD := ⟨Try.f7, chartularylaw17_FindGroups.ini, chartularylaw17_FindGroups.out, 1, [], [], chartularylaw17_FindGroups.labF, fun k (d : (ByteArray × Bool × (List (ByteArray × Int × List (ByteArray × (Int × Bool × Int × Int × ByteArray × Unit) × Unit) × Unit)) × Unit) × (Unit)) => (chartularylaw17_FindGroups.f k d.1.1 d.1.2.1 d.1.2.2.1 : Option chartularylaw17_FindGroups.R), none, []⟩

noncomputable def Γ (k : Nat) : Gam := [(38, [value_nan.fd.sp k]), (20, [value_Clean.fd.sp k]), (22, [value_Right.fd.sp k]), (60, [paper_sign.fd.sp k]), (49, [paper_word.fd.sp k]), (30, [paper_IsName.fd.sp k]), (10, [find_Check.fd.sp k]), (51, [paper_Find_1_v0.fd.sp k]), (50, [slices_IndexFunc_api_Field_v0.fd.sp k]), (31, [paper_Find.fd.sp k]), (46, [value_sign.fd.sp k]), (47, [value_rank.fd.sp k]), (59, [bytealg_CompareString.fd.sp k]), (48, [strings_Compare.fd.sp k]), (29, [value_Compare.fd.sp k]), (32, [find_between.fd.sp k]), (12, [find_Holds.fd.sp k]), (39, [find_by.fd.sp k]), (36, [find_compare.fd.sp k]), (35, [find_Run_1_v0.fd.sp k]), (61, [slices_insertionSortCmpFunc_int_v0.fd.sp k]), (69, [slices_swapRangeCmpFunc_int_v0.fd.sp k]), (67, [slices_rotateCmpFunc_int_v0.fd.sp k]), (62, [slices_symMergeCmpFunc_int_v0.fd.sp k]), (52, [slices_stableCmpFunc_int_v0.fd.sp k]), (34, [slices_SortStableFunc__int_int_v0.fd.sp k]), (16, [find_Run.fd.sp k]), (33, [chartularylaw17_whole.fd.sp k]), (14, [chartularylaw17_awake.fd.sp k]), (9, [chartularylaw05_Few.fd.sp k]), (15, [chartularylaw17_papers.fd.sp k]), (17, [chartularylaw17_right.fd.sp k]), (43, [find_Groups_1.fd.sp k]), (42, [slices_BinarySearchFunc_api_Value_v0.fd.sp k]), (24, [find_Groups.fd.sp k]), (40, [value_Float.fd.sp k]), (45, [math_Trunc.fd.sp k]), (28, [value_Whole.fd.sp k]), (25, [find_Sum.fd.sp k]), (26, [find_Extreme.fd.sp k]), (27, [chartularylaw17_field.fd.sp k]), (7, [chartularylaw17_FindGroups.fd.sp k]), (44, [insG]), (53, [f64from]), (57, [f64trunc]), (66, [strCmp])]
end Go.Proofs.Ytcjiipbppkdkaaa.E
