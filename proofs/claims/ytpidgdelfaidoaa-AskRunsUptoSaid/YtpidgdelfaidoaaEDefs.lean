import Derived.Test.YtpidgdelfaidoaaEHand
import Derived.Test.YtpidgdelfaidoaaProg
namespace Go.Proofs.Ytpidgdelfaidoaa.E
open Go Go.Proofs.Ytpidgdelfaidoaa.Eng Go.Proofs
set_option linter.unusedVariables false
set_option maxRecDepth 100000
abbrev Ab0 := ByteArray × (Int × Bool × Int × Int × ByteArray × Unit) × (Int × Bool × Int × Int × ByteArray × Unit) × Bool × Bool × Bool × Unit
abbrev Ac1 : Ty := .cons (.int .i64) (.cons .bool (.cons (.int .i64) (.cons (.int .u64) (.cons .str .nil))))
abbrev Ab2 := ByteArray × Int × List (ByteArray × (Int × Bool × Int × Int × ByteArray × Unit) × Unit) × Unit
abbrev Ac3 : Ty := .cons .str (.cons Ac1 (.cons Ac1 (.cons .bool (.cons .bool (.cons .bool .nil)))))
abbrev Ac4 : Ty := .cons .str (.cons (.int .i64) (.cons (.sl (.cons .str (.cons Ac1 .nil))) .nil))
abbrev Ab5 := Int × Bool × Int × Int × ByteArray × Unit
abbrev Ab6 := (List (Int × ByteArray × Int × Unit)) × Int × Int × Int × Unit
abbrev Ac7 : Ty := .sl (.cons (.int .i64) (.cons .str (.cons (.int .i64) .nil)))
abbrev Ab8 := (List Ab0) × ByteArray × Bool × Int × Unit
def tt : TT := [
  (2, ⟨1, 8, false, (.int .i64), [(.int .i64 0)], (.int .i64), false⟩),
  (3, ⟨1, 8, false, (.int .i64), [(.int .i64 0)], (.int .i64), false⟩),
  (4, ⟨1, 1, false, .bool, [(.bool false)], .bool, false⟩),
  (5, ⟨1, 1, false, (.int .u8), [(.int .u8 0)], (.int .u8), false⟩),
  (9, ⟨1, 16, false, .str, [(.str ByteArray.empty)], .str, false⟩),
  (22, ⟨1, 24, false, (.sl (.cons .str (.cons (.cons (.int .i64) (.cons .bool (.cons (.int .i64) (.cons (.int .u64) (.cons .str .nil))))) (.cons (.cons (.int .i64) (.cons .bool (.cons (.int .i64) (.cons (.int .u64) (.cons .str .nil))))) (.cons .bool (.cons .bool (.cons .bool .nil))))))), [.nils], (.slice 50), false⟩),
  (24, ⟨4, 56, true, (.cons (.sl (.cons .str (.cons (.cons (.int .i64) (.cons .bool (.cons (.int .i64) (.cons (.int .u64) (.cons .str .nil))))) (.cons (.cons (.int .i64) (.cons .bool (.cons (.int .i64) (.cons (.int .u64) (.cons .str .nil))))) (.cons .bool (.cons .bool (.cons .bool .nil))))))) (.cons .str (.cons .bool (.cons (.int .i64) .nil)))), [.nils, (.str ByteArray.empty), (.bool false), (.int .i64 0)], (.struct [(0, 22, 1), (1, 9, 1), (2, 4, 1), (3, 3, 1)]), false⟩),
  (34, ⟨1, 24, false, (.sl (.cons .str (.cons (.int .i64) (.cons (.sl (.cons .str (.cons (.cons (.int .i64) (.cons .bool (.cons (.int .i64) (.cons (.int .u64) (.cons .str .nil))))) .nil))) .nil)))), [.nils], (.slice 37), false⟩),
  (35, ⟨1, 24, false, (.sl (.cons .str (.cons (.cons (.int .i64) (.cons .bool (.cons (.int .i64) (.cons (.int .u64) (.cons .str .nil))))) .nil))), [.nils], (.slice 68), false⟩),
  (37, ⟨3, 48, true, (.cons .str (.cons (.int .i64) (.cons (.sl (.cons .str (.cons (.cons (.int .i64) (.cons .bool (.cons (.int .i64) (.cons (.int .u64) (.cons .str .nil))))) .nil))) .nil))), [(.str ByteArray.empty), (.int .i64 0), .nils], (.struct [(0, 9, 1), (1, 3, 1), (2, 35, 1)]), false⟩),
  (39, ⟨1, 24, false, (.sl (.int .i64)), [.nils], (.slice 3), false⟩),
  (46, ⟨1, 8, false, (.int .u64), [(.int .u64 0)], (.int .u64), false⟩),
  (48, ⟨5, 48, true, (.cons (.int .i64) (.cons .bool (.cons (.int .i64) (.cons (.int .u64) (.cons .str .nil))))), [(.int .i64 0), (.bool false), (.int .i64 0), (.int .u64 0), (.str ByteArray.empty)], (.struct [(0, 3, 1), (1, 4, 1), (2, 2, 1), (3, 46, 1), (4, 9, 1)]), true⟩),
  (50, ⟨14, 120, true, (.cons .str (.cons (.cons (.int .i64) (.cons .bool (.cons (.int .i64) (.cons (.int .u64) (.cons .str .nil))))) (.cons (.cons (.int .i64) (.cons .bool (.cons (.int .i64) (.cons (.int .u64) (.cons .str .nil))))) (.cons .bool (.cons .bool (.cons .bool .nil)))))), [(.str ByteArray.empty), (.int .i64 0), (.bool false), (.int .i64 0), (.int .u64 0), (.str ByteArray.empty), (.int .i64 0), (.bool false), (.int .i64 0), (.int .u64 0), (.str ByteArray.empty), (.bool false), (.bool false), (.bool false)], (.struct [(0, 9, 1), (1, 48, 5), (6, 48, 5), (11, 4, 1), (12, 4, 1), (13, 4, 1)]), true⟩),
  (51, ⟨1, 24, false, (.sl .str), [.nils], (.slice 9), false⟩),
  (57, ⟨1, 24, false, (.sl (.cons (.int .i64) (.cons .str (.cons (.int .i64) .nil)))), [.nils], (.slice 91), false⟩),
  (62, ⟨4, 48, true, (.cons (.sl (.cons (.int .i64) (.cons .str (.cons (.int .i64) .nil)))) (.cons (.int .i64) (.cons (.int .i64) (.cons (.int .i64) .nil)))), [.nils, (.int .i64 0), (.int .i64 0), (.int .i64 0)], (.struct [(0, 57, 1), (1, 3, 1), (2, 3, 1), (3, 3, 1)]), false⟩),
  (68, ⟨6, 64, true, (.cons .str (.cons (.cons (.int .i64) (.cons .bool (.cons (.int .i64) (.cons (.int .u64) (.cons .str .nil))))) .nil)), [(.str ByteArray.empty), (.int .i64 0), (.bool false), (.int .i64 0), (.int .u64 0), (.str ByteArray.empty)], (.struct [(0, 9, 1), (1, 48, 5)]), true⟩),
  (73, ⟨1, 8, false, .pt, [.nilp], (.ptr 76), false⟩),
  (74, ⟨1, 24, false, (.sl (.int .u8)), [.nils], (.slice 5), false⟩),
  (76, ⟨2, 32, true, .nil, [.nilp, .nils], (.struct [(0, 73, 1), (1, 74, 1)]), false⟩),
  (83, ⟨1, 8, false, (.int .u64), [(.int .u64 0)], (.int .u64), false⟩),
  (89, ⟨2, 24, true, (.cons .str (.cons (.int .i64) .nil)), [(.str ByteArray.empty), (.int .i64 0)], (.struct [(0, 9, 1), (1, 3, 1)]), true⟩),
  (91, ⟨3, 32, true, (.cons (.int .i64) (.cons .str (.cons (.int .i64) .nil))), [(.int .i64 0), (.str ByteArray.empty), (.int .i64 0)], (.struct [(0, 3, 1), (1, 9, 1), (2, 3, 1)]), true⟩),
  (124, ⟨4, 48, true, (.cons (.sl (.cons (.int .i64) (.cons .str (.cons (.int .i64) .nil)))) (.cons (.int .i64) (.cons (.int .i64) (.cons (.int .i64) .nil)))), [.nils, (.int .i64 0), (.int .i64 0), (.int .i64 0)], (.struct [(0, 57, 1), (1, 3, 1), (2, 3, 1), (3, 3, 1)]), false⟩)]
/-! ### chartularylaw26_cut : function 17 -/
abbrev chartularylaw26_cut.R := (ByteArray × Unit) × (Unit)
noncomputable def chartularylaw26_cut.f : Nat → ByteArray → Option chartularylaw26_cut.R
  | 0, _ => none
  | k + 1, x0 =>
    bif decide (((x0.size : Int) : Int) > 300) then
      (ck (decide (0 ≤ 0) && decide (0 ≤ 300) && decide (300 ≤ (x0.size : Int)))).bind fun _ =>
      some ((x0.extract (0 : Int).toNat (300 : Int).toNat, ()), (()))
    else
      some ((x0, ()), (()))
abbrev chartularylaw26_cut.ini : LSh := ⟨[(0, .val .str)], []⟩
abbrev chartularylaw26_cut.out : LSh := ⟨[(0, .val .str)], []⟩
noncomputable def chartularylaw26_cut.labF : Nat → List (LabF chartularylaw26_cut.out.den)
  | _ => []
noncomputable def chartularylaw26_cut.fd : FnD := ⟨Try.f17, chartularylaw26_cut.ini, chartularylaw26_cut.out, 1, [], [], chartularylaw26_cut.labF, fun k (d : (ByteArray × Unit) × (Unit)) => (chartularylaw26_cut.f k d.1.1 : Option chartularylaw26_cut.R), none, []⟩

/-! ### chartularylaw26_few : function 6 -/
abbrev chartularylaw26_few.R := ((List Ab0 × ByteArray × Bool × Int × Unit) × Unit) × (Unit)
mutual
noncomputable def chartularylaw26_few.l0 : Nat → Int → (List Ab0) → ByteArray → Bool → Int → (List Ab0) → ByteArray → Bool → Int → (List Ab0) → ByteArray → Bool → Int → Option chartularylaw26_few.R
  | 0, _, _, _, _, _, _, _, _, _, _, _, _, _ => none
  | k + 1, x4, o1_0, o1_1, o1_2, o1_3, o2_0, o2_1, o2_2, o2_3, o3_0, o3_1, o3_2, o3_3 =>
    bif decide ((x4 : Int) < (o1_0.length : Int)) then
      bif decide ((x4 : Int) < 12) then
        (rdo o1_0 x4).bind fun t2 =>
        (chartularylaw26_cut.f k t2.1).bind fun r3 =>
        (chartularylaw26_cut.f k t2.2.1.2.2.2.2.1).bind fun r4 =>
        (chartularylaw26_cut.f k t2.2.2.1.2.2.2.2.1).bind fun r5 =>
        (ck (decide ((o3_0.length + ([(r3.1.1, ((t2.2.1.1, (t2.2.1.2.1, (t2.2.1.2.2.1, (t2.2.1.2.2.2.1, r4.1)))), ((t2.2.2.1.1, (t2.2.2.1.2.1, (t2.2.2.1.2.2.1, (t2.2.2.1.2.2.2.1, r5.1)))), t2.2.2.2)))] : List Ab0).length) * 120 ≤ 70368744177664))).bind fun _ =>
        chartularylaw26_few.l0 k (IntKind.wrap .i64 (x4 + 1)) o1_0 o1_1 o1_2 o1_3 o2_0 o2_1 o2_2 o2_3 (o3_0 ++ ([(r3.1.1, ((t2.2.1.1, (t2.2.1.2.1, (t2.2.1.2.2.1, (t2.2.1.2.2.2.1, r4.1)))), ((t2.2.2.1.1, (t2.2.2.1.2.1, (t2.2.2.1.2.2.1, (t2.2.2.1.2.2.2.1, r5.1)))), t2.2.2.2)))] : List Ab0)) o3_1 o3_2 o3_3
      else
        some (((o3_0, (o3_1, (o3_2, (o3_3, ())))), ()), (()))
    else
      some (((o3_0, (o3_1, (o3_2, (o3_3, ())))), ()), (()))
noncomputable def chartularylaw26_few.f : Nat → (List Ab0 × ByteArray × Bool × Int × Unit) → Option chartularylaw26_few.R
  | 0, _ => none
  | k + 1, x0 =>
    (chartularylaw26_cut.f k x0.2.1).bind fun r1 =>
    chartularylaw26_few.l0 k 0 x0.1 x0.2.1 x0.2.2.1 x0.2.2.2.1 ([] : List Ab0) ByteArray.empty false 0 [] r1.1.1 x0.2.2.1 x0.2.2.2.1
end
abbrev chartularylaw26_few.ini : LSh := ⟨[(0, .val (.cons (.sl Ac3) (.cons .str (.cons .bool (.cons (.int .i64) .nil)))))], []⟩
abbrev chartularylaw26_few.out : LSh := ⟨[(0, .val (.cons (.sl Ac3) (.cons .str (.cons .bool (.cons (.int .i64) .nil)))))], []⟩
abbrev chartularylaw26_few.l0s : LSh := ⟨[(1, .ptr 1 0), (2, .ptr 2 0), (3, .ptr 3 0), (4, .val (.int .i64))], [(1, 24, [.val (.sl Ac3), .val .str, .val .bool, .val (.int .i64)]), (2, 24, [.val (.sl Ac3), .val .str, .val .bool, .val (.int .i64)]), (3, 24, [.own 3000300 50 Ac3, .val .str, .val .bool, .val (.int .i64)])]⟩
noncomputable def chartularylaw26_few.labF : Nat → List (LabF chartularylaw26_few.out.den)
  | 6 => [⟨chartularylaw26_few.l0s, fun k (d : (Unit × Unit × Unit × Int × Unit) × (Ab8 × Ab8 × Ab8 × Unit)) => (chartularylaw26_few.l0 k d.1.2.2.2.1 d.2.1.1 d.2.1.2.1 d.2.1.2.2.1 d.2.1.2.2.2.1 d.2.2.1.1 d.2.2.1.2.1 d.2.2.1.2.2.1 d.2.2.1.2.2.2.1 d.2.2.2.1.1 d.2.2.2.1.2.1 d.2.2.2.1.2.2.1 d.2.2.2.1.2.2.2.1 : Option chartularylaw26_few.R)⟩]
  | _ => []
noncomputable def chartularylaw26_few.fd : FnD := ⟨Try.f6, chartularylaw26_few.ini, chartularylaw26_few.out, 1, [], [], chartularylaw26_few.labF, fun k (d : ((List Ab0 × ByteArray × Bool × Int × Unit) × Unit) × (Unit)) => (chartularylaw26_few.f k d.1.1 : Option chartularylaw26_few.R), none, []⟩

/-! ### paper_sign : function 57 -/
abbrev paper_sign.R := (Bool × Unit) × (Unit)
noncomputable def paper_sign.f : Nat → Int → Option paper_sign.R
  | 0, _ => none
  | k + 1, x0 =>
    bif decide ((x0 : Int) ≥ 97) then
      bif decide ((x0 : Int) ≤ 122) then
        some ((true, ()), (()))
      else
      bif decide ((x0 : Int) ≥ 65) then
        bif decide ((x0 : Int) ≤ 90) then
          some ((true, ()), (()))
        else
        bif decide ((x0 : Int) ≥ 48) then
          bif decide ((x0 : Int) ≤ 57) then
            some ((true, ()), (()))
          else
          bif (x0 : Int) == 45 then
            some ((true, ()), (()))
          else
          bif (x0 : Int) == 95 then
            some ((true, ()), (()))
          else
            some (((x0 : Int) == 46, ()), (()))
        else
        bif (x0 : Int) == 45 then
          some ((true, ()), (()))
        else
        bif (x0 : Int) == 95 then
          some ((true, ()), (()))
        else
          some (((x0 : Int) == 46, ()), (()))
      else
      bif decide ((x0 : Int) ≥ 48) then
        bif decide ((x0 : Int) ≤ 57) then
          some ((true, ()), (()))
        else
        bif (x0 : Int) == 45 then
          some ((true, ()), (()))
        else
        bif (x0 : Int) == 95 then
          some ((true, ()), (()))
        else
          some (((x0 : Int) == 46, ()), (()))
      else
      bif (x0 : Int) == 45 then
        some ((true, ()), (()))
      else
      bif (x0 : Int) == 95 then
        some ((true, ()), (()))
      else
        some (((x0 : Int) == 46, ()), (()))
    else
    bif decide ((x0 : Int) ≥ 65) then
      bif decide ((x0 : Int) ≤ 90) then
        some ((true, ()), (()))
      else
      bif decide ((x0 : Int) ≥ 48) then
        bif decide ((x0 : Int) ≤ 57) then
          some ((true, ()), (()))
        else
        bif (x0 : Int) == 45 then
          some ((true, ()), (()))
        else
        bif (x0 : Int) == 95 then
          some ((true, ()), (()))
        else
          some (((x0 : Int) == 46, ()), (()))
      else
      bif (x0 : Int) == 45 then
        some ((true, ()), (()))
      else
      bif (x0 : Int) == 95 then
        some ((true, ()), (()))
      else
        some (((x0 : Int) == 46, ()), (()))
    else
    bif decide ((x0 : Int) ≥ 48) then
      bif decide ((x0 : Int) ≤ 57) then
        some ((true, ()), (()))
      else
      bif (x0 : Int) == 45 then
        some ((true, ()), (()))
      else
      bif (x0 : Int) == 95 then
        some ((true, ()), (()))
      else
        some (((x0 : Int) == 46, ()), (()))
    else
    bif (x0 : Int) == 45 then
      some ((true, ()), (()))
    else
    bif (x0 : Int) == 95 then
      some ((true, ()), (()))
    else
      some (((x0 : Int) == 46, ()), (()))
abbrev paper_sign.ini : LSh := ⟨[(0, .val (.int .u8))], []⟩
abbrev paper_sign.out : LSh := ⟨[(0, .val .bool)], []⟩
noncomputable def paper_sign.labF : Nat → List (LabF paper_sign.out.den)
  | _ => []
noncomputable def paper_sign.fd : FnD := ⟨Try.f57, paper_sign.ini, paper_sign.out, 1, [], [], paper_sign.labF, fun k (d : (Int × Unit) × (Unit)) => (paper_sign.f k d.1.1 : Option paper_sign.R), none, []⟩

/-! ### paper_word : function 43 -/
abbrev paper_word.R := (Bool × Unit) × (Unit)
mutual
noncomputable def paper_word.j0 : Nat → ByteArray → Option paper_word.R
  | 0, _ => none
  | k + 1, x0 =>
    paper_word.l0 k x0 (x0.size : Int) 0
noncomputable def paper_word.l0 : Nat → ByteArray → Int → Int → Option paper_word.R
  | 0, _, _, _ => none
  | k + 1, x0, x15, x16 =>
    bif decide ((x16 : Int) < x15) then
      (bto x0 x16).bind fun t1 =>
      (paper_sign.f k t1).bind fun r2 =>
      bif !r2.1.1 then
        some ((false, ()), (()))
      else
        paper_word.l0 k x0 x15 (IntKind.wrap .i64 (x16 + 1))
    else
      some ((true, ()), (()))
noncomputable def paper_word.f : Nat → ByteArray → Int → Option paper_word.R
  | 0, _, _ => none
  | k + 1, x0, x1 =>
    bif x0.toList == (⟨#[]⟩ : ByteArray).toList then
      some ((false, ()), (()))
    else
    bif decide (((x0.size : Int) : Int) > x1) then
      some ((false, ()), (()))
    else
      paper_word.j0 k x0
end
abbrev paper_word.ini : LSh := ⟨[(0, .val .str), (1, .val (.int .i64))], []⟩
abbrev paper_word.out : LSh := ⟨[(0, .val .bool)], []⟩
abbrev paper_word.j0s : LSh := ⟨[(0, .val .str)], []⟩
abbrev paper_word.l0s : LSh := ⟨[(0, .val .str), (15, .val (.int .i64)), (16, .val (.int .i64))], []⟩
noncomputable def paper_word.labF : Nat → List (LabF paper_word.out.den)
  | 7 => [⟨paper_word.j0s, fun k (d : (ByteArray × Unit) × (Unit)) => (paper_word.j0 k d.1.1 : Option paper_word.R)⟩]
  | 8 => [⟨paper_word.l0s, fun k (d : (ByteArray × Int × Int × Unit) × (Unit)) => (paper_word.l0 k d.1.1 d.1.2.1 d.1.2.2.1 : Option paper_word.R)⟩]
  | _ => []
noncomputable def paper_word.fd : FnD := ⟨Try.f43, paper_word.ini, paper_word.out, 1, [], [], paper_word.labF, fun k (d : (ByteArray × Int × Unit) × (Unit)) => (paper_word.f k d.1.1 d.1.2.1 : Option paper_word.R), none, []⟩

/-! ### paper_IsName : function 22 -/
abbrev paper_IsName.R := (Bool × Unit) × (Unit)
noncomputable def paper_IsName.f : Nat → ByteArray → Option paper_IsName.R
  | 0, _ => none
  | k + 1, x0 =>
    (paper_word.f k x0 16).bind fun r1 =>
    some ((r1.1.1, ()), (()))
abbrev paper_IsName.ini : LSh := ⟨[(0, .val .str)], []⟩
abbrev paper_IsName.out : LSh := ⟨[(0, .val .bool)], []⟩
noncomputable def paper_IsName.labF : Nat → List (LabF paper_IsName.out.den)
  | _ => []
noncomputable def paper_IsName.fd : FnD := ⟨Try.f22, paper_IsName.ini, paper_IsName.out, 1, [], [], paper_IsName.labF, fun k (d : (ByteArray × Unit) × (Unit)) => (paper_IsName.f k d.1.1 : Option paper_IsName.R), none, []⟩

/-! ### value_nan : function 58 -/
abbrev value_nan.R := (Bool × Unit) × (Unit)
noncomputable def value_nan.f : Nat → Int → Option value_nan.R
  | 0, _ => none
  | k + 1, x0 =>
    some ((decide ((IntKind.wrap .u64 ((BitVec.ofInt (IntKind.bits .u64) x0 &&& BitVec.ofInt (IntKind.bits .u64) 9223372036854775807).toNat : Int) : Int) > 9218868437227405312), ()), (()))
abbrev value_nan.ini : LSh := ⟨[(0, .val (.int .u64))], []⟩
abbrev value_nan.out : LSh := ⟨[(0, .val .bool)], []⟩
noncomputable def value_nan.labF : Nat → List (LabF value_nan.out.den)
  | _ => []
noncomputable def value_nan.fd : FnD := ⟨Try.f58, value_nan.ini, value_nan.out, 1, [], [], value_nan.labF, fun k (d : (Int × Unit) × (Unit)) => (value_nan.f k d.1.1 : Option value_nan.R), none, []⟩

/-! ### value_Clean : function 44 -/
abbrev value_Clean.R := (Ab5 × Unit) × (Unit)
noncomputable def value_Clean.f : Nat → Ab5 → Option value_Clean.R
  | 0, _ => none
  | k + 1, x0 =>
    bif (x0.1 : Int) == 1 then
      some (((x0.1, (x0.2.1, (0, (0, (ByteArray.empty, ()))))), ()), (()))
    else
    bif (x0.1 : Int) == 2 then
      some (((x0.1, (false, (x0.2.2.1, (0, (ByteArray.empty, ()))))), ()), (()))
    else
    bif (x0.1 : Int) == 3 then
      (value_nan.f k x0.2.2.2.1).bind fun r1 =>
      bif r1.1.1 then
        some (((x0.1, (false, (0, (9221120237041090561, (ByteArray.empty, ()))))), ()), (()))
      else
        some (((x0.1, (false, (0, (x0.2.2.2.1, (ByteArray.empty, ()))))), ()), (()))
    else
    bif (x0.1 : Int) == 4 then
      some (((x0.1, (false, (0, (0, x0.2.2.2.2)))), ()), (()))
    else
      some (((x0.1, (false, (0, (0, (ByteArray.empty, ()))))), ()), (()))
abbrev value_Clean.ini : LSh := ⟨[(0, .val Ac1)], []⟩
abbrev value_Clean.out : LSh := ⟨[(0, .val Ac1)], []⟩
noncomputable def value_Clean.labF : Nat → List (LabF value_Clean.out.den)
  | _ => []
noncomputable def value_Clean.fd : FnD := ⟨Try.f44, value_Clean.ini, value_Clean.out, 1, [], [], value_Clean.labF, fun k (d : (Ab5 × Unit) × (Unit)) => (value_Clean.f k d.1.1 : Option value_Clean.R), none, []⟩

/-! ### value_Right : function 23 -/
abbrev value_Right.R := (Bool × Unit) × (Unit)
noncomputable def value_Right.f : Nat → Ab5 → Option value_Right.R
  | 0, _ => none
  | k + 1, x0 =>
    bif decide ((x0.1 : Int) ≥ 0) then
      bif decide ((x0.1 : Int) ≤ 4) then
        bif decide (((x0.2.2.2.2.1.size : Int) : Int) ≤ 200) then
          (value_Clean.f k x0).bind fun r1 =>
          some ((((x0.1 : Int) == r1.1.1.1 && (x0.2.1 == r1.1.1.2.1 && ((x0.2.2.1 : Int) == r1.1.1.2.2.1 && ((x0.2.2.2.1 : Int) == r1.1.1.2.2.2.1 && (seqB x0.2.2.2.2.1 r1.1.1.2.2.2.2.1 && true))))), ()), (()))
        else
          some ((false, ()), (()))
      else
        some ((false, ()), (()))
    else
      some ((false, ()), (()))
abbrev value_Right.ini : LSh := ⟨[(0, .val Ac1)], []⟩
abbrev value_Right.out : LSh := ⟨[(0, .val .bool)], []⟩
noncomputable def value_Right.labF : Nat → List (LabF value_Right.out.den)
  | _ => []
noncomputable def value_Right.fd : FnD := ⟨Try.f23, value_Right.ini, value_Right.out, 1, [], [], value_Right.labF, fun k (d : (Ab5 × Unit) × (Unit)) => (value_Right.f k d.1.1 : Option value_Right.R), none, []⟩

/-! ### find_Check : function 8 -/
abbrev find_Check.R := (Int × Unit) × (Unit)
mutual
noncomputable def find_Check.j0 : Nat → (List Ab0) → ByteArray → Bool → Int → Option find_Check.R
  | 0, _, _, _, _ => none
  | k + 1, o1_0, o1_1, o1_2, o1_3 =>
    find_Check.l0 k o1_0 (o1_0.length : Int) 0
noncomputable def find_Check.l0 : Nat → (List Ab0) → Int → Int → Option find_Check.R
  | 0, _, _, _ => none
  | k + 1, x26, x27, x28 =>
    bif decide ((x28 : Int) < x27) then
      (rdo x26 x28).bind fun t2 =>
      (paper_IsName.f k t2.1).bind fun r3 =>
      bif !r3.1.1 then
        some ((14, ()), (()))
      else
      bif t2.2.2.2.1 then
        (value_Right.f k t2.2.1).bind fun r4 =>
        bif !r4.1.1 then
          some ((15, ()), (()))
        else
        bif t2.2.2.2.2.1 then
          (value_Right.f k t2.2.2.1).bind fun r5 =>
          bif !r5.1.1 then
            some ((15, ()), (()))
          else
            find_Check.l0 k x26 x27 (IntKind.wrap .i64 (x28 + 1))
        else
          find_Check.l0 k x26 x27 (IntKind.wrap .i64 (x28 + 1))
      else
      bif t2.2.2.2.2.1 then
        (value_Right.f k t2.2.2.1).bind fun r6 =>
        bif !r6.1.1 then
          some ((15, ()), (()))
        else
          find_Check.l0 k x26 x27 (IntKind.wrap .i64 (x28 + 1))
      else
        find_Check.l0 k x26 x27 (IntKind.wrap .i64 (x28 + 1))
    else
      some ((0, ()), (()))
noncomputable def find_Check.f : Nat → (List Ab0 × ByteArray × Bool × Int × Unit) → Option find_Check.R
  | 0, _ => none
  | k + 1, x0 =>
    bif decide (((x0.1.length : Int) : Int) > 8) then
      some ((5, ()), (()))
    else
    bif decide ((x0.2.2.2.1 : Int) < 0) then
      some ((5, ()), (()))
    else
    bif !(x0.2.1.toList == (⟨#[]⟩ : ByteArray).toList) then
      (paper_IsName.f k x0.2.1).bind fun r1 =>
      bif !r1.1.1 then
        some ((14, ()), (()))
      else
        find_Check.j0 k x0.1 x0.2.1 x0.2.2.1 x0.2.2.2.1
    else
      find_Check.j0 k x0.1 x0.2.1 x0.2.2.1 x0.2.2.2.1
end
abbrev find_Check.ini : LSh := ⟨[(0, .val (.cons (.sl Ac3) (.cons .str (.cons .bool (.cons (.int .i64) .nil)))))], []⟩
abbrev find_Check.out : LSh := ⟨[(0, .val (.int .i64))], []⟩
abbrev find_Check.j0s : LSh := ⟨[(1, .ptr 1 0)], [(1, 24, [.val (.sl Ac3), .val .str, .val .bool, .val (.int .i64)])]⟩
abbrev find_Check.l0s : LSh := ⟨[(26, .val (.sl Ac3)), (27, .val (.int .i64)), (28, .val (.int .i64))], []⟩
noncomputable def find_Check.labF : Nat → List (LabF find_Check.out.den)
  | 11 => [⟨find_Check.j0s, fun k (d : (Unit × Unit) × (Ab8 × Unit)) => (find_Check.j0 k d.2.1.1 d.2.1.2.1 d.2.1.2.2.1 d.2.1.2.2.2.1 : Option find_Check.R)⟩]
  | 12 => [⟨find_Check.l0s, fun k (d : ((List Ab0) × Int × Int × Unit) × (Unit)) => (find_Check.l0 k d.1.1 d.1.2.1 d.1.2.2.1 : Option find_Check.R)⟩]
  | _ => []
noncomputable def find_Check.fd : FnD := ⟨Try.f8, find_Check.ini, find_Check.out, 1, [], [], find_Check.labF, fun k (d : ((List Ab0 × ByteArray × Bool × Int × Unit) × Unit) × (Unit)) => (find_Check.f k d.1.1 : Option find_Check.R), none, []⟩

/-! ### strings_Builder_WriteByte_v0 : function 37 -/
abbrev strings_Builder_WriteByte_v0.R := (Unit × Unit) × ((Unit × List Int × Unit) × Unit)
noncomputable def strings_Builder_WriteByte_v0.f : Nat → Int → Option strings_Builder_WriteByte_v0.R
  | 0, _ => none
  | k + 1, x1 =>
    (ccFresh.f k).bind fun r1 =>
    (ck (decide (([x1] : List Int).length * 1 ≤ 70368744177664))).bind fun _ =>
    some (((), ()), (((), ([x1] : List Int), ()), ()))
abbrev strings_Builder_WriteByte_v0.ini : LSh := ⟨[(0, .ptr 1000000 0), (1, .val (.int .u8))], [(1000000, 76, [.nilp, .nils])]⟩
abbrev strings_Builder_WriteByte_v0.out : LSh := ⟨[(0, .top)], [(1000000, 76, [.ptr 1000000 0, .own 3000100 5 (.int .u8)])]⟩
noncomputable def strings_Builder_WriteByte_v0.labF : Nat → List (LabF strings_Builder_WriteByte_v0.out.den)
  | _ => []
noncomputable def strings_Builder_WriteByte_v0.fd : FnD := ⟨Try.f37, strings_Builder_WriteByte_v0.ini, strings_Builder_WriteByte_v0.out, 1, [1000000], [], strings_Builder_WriteByte_v0.labF, fun k (d : (Unit × Int × Unit) × ((Unit × Unit × Unit) × Unit)) => (strings_Builder_WriteByte_v0.f k d.1.2.1 : Option strings_Builder_WriteByte_v0.R), none, []⟩

/-! ### strings_Builder_WriteByte_v1 : function 37 -/
abbrev strings_Builder_WriteByte_v1.R := (Unit × Unit) × ((Unit × List Int × Unit) × Unit)
noncomputable def strings_Builder_WriteByte_v1.f : Nat → Int → (List Int) → Option strings_Builder_WriteByte_v1.R
  | 0, _, _ => none
  | k + 1, x1, o0_1 =>
    (ccUsed.f k o0_1).bind fun r1 =>
    (ck (decide ((o0_1.length + ([x1] : List Int).length) * 1 ≤ 70368744177664))).bind fun _ =>
    some (((), ()), (((), o0_1 ++ ([x1] : List Int), ()), ()))
abbrev strings_Builder_WriteByte_v1.ini : LSh := ⟨[(0, .ptr 1000000 0), (1, .val (.int .u8))], [(1000000, 76, [.ptr 1000000 0, .own 3000100 5 (.int .u8)])]⟩
abbrev strings_Builder_WriteByte_v1.out : LSh := ⟨[(0, .top)], [(1000000, 76, [.ptr 1000000 0, .own 3000100 5 (.int .u8)])]⟩
noncomputable def strings_Builder_WriteByte_v1.labF : Nat → List (LabF strings_Builder_WriteByte_v1.out.den)
  | _ => []
noncomputable def strings_Builder_WriteByte_v1.fd : FnD := ⟨Try.f37, strings_Builder_WriteByte_v1.ini, strings_Builder_WriteByte_v1.out, 1, [1000000], [], strings_Builder_WriteByte_v1.labF, fun k (d : (Unit × Int × Unit) × ((Unit × List Int × Unit) × Unit)) => (strings_Builder_WriteByte_v1.f k d.1.2.1 d.2.1.2.1 : Option strings_Builder_WriteByte_v1.R), none, []⟩

/-! ### say_plain : function 38 -/
abbrev say_plain.R := (Bool × Unit) × (Unit)
noncomputable def say_plain.f : Nat → Int → Option say_plain.R
  | 0, _ => none
  | k + 1, x0 =>
    bif decide ((x0 : Int) ≥ 32) then
      bif decide ((x0 : Int) < 127) then
        bif (x0 : Int) != 34 then
          some (((x0 : Int) != 92, ()), (()))
        else
          some ((false, ()), (()))
      else
        some ((false, ()), (()))
    else
      some ((false, ()), (()))
abbrev say_plain.ini : LSh := ⟨[(0, .val (.int .u8))], []⟩
abbrev say_plain.out : LSh := ⟨[(0, .val .bool)], []⟩
noncomputable def say_plain.labF : Nat → List (LabF say_plain.out.den)
  | _ => []
noncomputable def say_plain.fd : FnD := ⟨Try.f38, say_plain.ini, say_plain.out, 1, [], [], say_plain.labF, fun k (d : (Int × Unit) × (Unit)) => (say_plain.f k d.1.1 : Option say_plain.R), none, []⟩

/-! ### strings_Builder_WriteString_v0 : function 39 -/
abbrev strings_Builder_WriteString_v0.R := (Int × Unit × Unit) × ((Unit × List Int × Unit) × Unit)
noncomputable def strings_Builder_WriteString_v0.f : Nat → ByteArray → (List Int) → Option strings_Builder_WriteString_v0.R
  | 0, _, _ => none
  | k + 1, x1, o0_1 =>
    (ccUsed.f k o0_1).bind fun r1 =>
    (ck (decide ((o0_1.length + (bytesOf x1).length) * 1 ≤ 70368744177664))).bind fun _ =>
    some (((x1.size : Int), (), ()), (((), o0_1 ++ (bytesOf x1), ()), ()))
abbrev strings_Builder_WriteString_v0.ini : LSh := ⟨[(0, .ptr 1000000 0), (1, .val .str)], [(1000000, 76, [.ptr 1000000 0, .own 3000100 5 (.int .u8)])]⟩
abbrev strings_Builder_WriteString_v0.out : LSh := ⟨[(0, .val (.int .i64)), (1, .top)], [(1000000, 76, [.ptr 1000000 0, .own 3000100 5 (.int .u8)])]⟩
noncomputable def strings_Builder_WriteString_v0.labF : Nat → List (LabF strings_Builder_WriteString_v0.out.den)
  | _ => []
noncomputable def strings_Builder_WriteString_v0.fd : FnD := ⟨Try.f39, strings_Builder_WriteString_v0.ini, strings_Builder_WriteString_v0.out, 2, [1000000], [], strings_Builder_WriteString_v0.labF, fun k (d : (Unit × ByteArray × Unit) × ((Unit × List Int × Unit) × Unit)) => (strings_Builder_WriteString_v0.f k d.1.2.1 d.2.1.2.1 : Option strings_Builder_WriteString_v0.R), none, []⟩

/-! ### say_Quoted : function 19 -/
abbrev say_Quoted.R := (ByteArray × Unit) × (Unit)
mutual
noncomputable def say_Quoted.l0 : Nat → ByteArray → Int → Int → (List Int) → Option say_Quoted.R
  | 0, _, _, _, _ => none
  | k + 1, x0, x8, x9, o3_1 =>
    bif decide ((x9 : Int) < x8) then
      (bto x0 x9).bind fun t2 =>
      (say_plain.f k t2).bind fun r3 =>
      bif r3.1.1 then
        (strings_Builder_WriteByte_v1.f k t2 o3_1).bind fun r4 =>
        say_Quoted.l0 k x0 x8 (IntKind.wrap .i64 (x9 + 1)) r4.2.1.2.1
      else
        (strings_Builder_WriteString_v0.f k (⟨#[92, 120]⟩ : ByteArray) o3_1).bind fun r5 =>
        (ck (!decide ((4 : Int) < 0))).bind fun _ =>
        (bto (⟨#[48, 49, 50, 51, 52, 53, 54, 55, 56, 57, 97, 98, 99, 100, 101, 102]⟩ : ByteArray) (Int.fdiv t2 (2 ^ (min (4 : Int).toNat (IntKind.bits .u8))))).bind fun t6 =>
        (strings_Builder_WriteByte_v1.f k t6 r5.2.1.2.1).bind fun r7 =>
        (bto (⟨#[48, 49, 50, 51, 52, 53, 54, 55, 56, 57, 97, 98, 99, 100, 101, 102]⟩ : ByteArray) (IntKind.wrap .u8 ((BitVec.ofInt (IntKind.bits .u8) t2 &&& BitVec.ofInt (IntKind.bits .u8) 15).toNat : Int))).bind fun t8 =>
        (strings_Builder_WriteByte_v1.f k t8 r7.2.1.2.1).bind fun r9 =>
        say_Quoted.l0 k x0 x8 (IntKind.wrap .i64 (x9 + 1)) r9.2.1.2.1
    else
      (strings_Builder_WriteByte_v1.f k 34 o3_1).bind fun r10 =>
      (strUsed.f k r10.2.1.2.1).bind fun r11 =>
      some ((r11.1.1, ()), (()))
noncomputable def say_Quoted.f : Nat → ByteArray → Option say_Quoted.R
  | 0, _ => none
  | k + 1, x0 =>
    (strings_Builder_WriteByte_v0.f k 34).bind fun r1 =>
    say_Quoted.l0 k x0 (x0.size : Int) 0 r1.2.1.2.1
end
abbrev say_Quoted.ini : LSh := ⟨[(0, .val .str)], []⟩
abbrev say_Quoted.out : LSh := ⟨[(0, .val .str)], []⟩
abbrev say_Quoted.l0s : LSh := ⟨[(0, .val .str), (3, .ptr 3 0), (8, .val (.int .i64)), (9, .val (.int .i64))], [(3, 76, [.ptr 3 0, .own 3000301 5 (.int .u8)])]⟩
noncomputable def say_Quoted.labF : Nat → List (LabF say_Quoted.out.den)
  | 8 => [⟨say_Quoted.l0s, fun k (d : (ByteArray × Unit × Int × Int × Unit) × ((Unit × List Int × Unit) × Unit)) => (say_Quoted.l0 k d.1.1 d.1.2.2.1 d.1.2.2.2.1 d.2.1.2.1 : Option say_Quoted.R)⟩]
  | _ => []
noncomputable def say_Quoted.fd : FnD := ⟨Try.f19, say_Quoted.ini, say_Quoted.out, 1, [], [], say_Quoted.labF, fun k (d : (ByteArray × Unit) × (Unit)) => (say_Quoted.f k d.1.1 : Option say_Quoted.R), none, []⟩

/-! ### say_count : function 55 -/
abbrev say_count.R := (ByteArray × Unit) × (Unit)
mutual
noncomputable def say_count.l0 : Nat → Int → (List Int) → Option say_count.R
  | 0, _, _ => none
  | k + 1, x0, x3 =>
    bif decide ((x0 : Int) > 9) then
      (ck (!decide ((10 : Int) = 0))).bind fun _ =>
      (ck (decide ((x3.length + ([IntKind.wrap .u8 (IntKind.wrap .u64 (48 + (Int.tmod x0 10)))] : List Int).length) * 1 ≤ 70368744177664))).bind fun _ =>
      (ck (!decide ((10 : Int) = 0))).bind fun _ =>
      say_count.l0 k (IntKind.wrap .u64 (Int.tdiv x0 10)) (x3 ++ ([IntKind.wrap .u8 (IntKind.wrap .u64 (48 + (Int.tmod x0 10)))] : List Int))
    else
      (ck (decide ((x3.length + ([IntKind.wrap .u8 (IntKind.wrap .u64 (48 + x0))] : List Int).length) * 1 ≤ 70368744177664))).bind fun _ =>
      say_count.l1 k (x3 ++ ([IntKind.wrap .u8 (IntKind.wrap .u64 (48 + x0))] : List Int)) 0 (IntKind.wrap .i64 (((x3 ++ ([IntKind.wrap .u8 (IntKind.wrap .u64 (48 + x0))] : List Int)).length : Int) - 1))
noncomputable def say_count.l1 : Nat → (List Int) → Int → Int → Option say_count.R
  | 0, _, _, _ => none
  | k + 1, x3, x4, x5 =>
    bif decide ((x4 : Int) < x5) then
      (ck (decide (0 ≤ x5) && decide (x5 < (x3.length : Int)))).bind fun _ =>
      (rdo x3 x5).bind fun t1 =>
      (ck (decide (0 ≤ x4) && decide (x4 < (x3.length : Int)))).bind fun _ =>
      (rdo x3 x4).bind fun t2 =>
      (ck (decide (0 ≤ x4) && decide (x4 < (x3.length : Int)))).bind fun _ =>
      (ck (decide (0 ≤ x5) && decide (x5 < ((x3.set x4.toNat t1).length : Int)))).bind fun _ =>
      say_count.l1 k ((x3.set x4.toNat t1).set x5.toNat t2) (IntKind.wrap .i64 (x4 + 1)) (IntKind.wrap .i64 (x5 - 1))
    else
      some ((strOf x3, ()), (()))
noncomputable def say_count.f : Nat → Int → Option say_count.R
  | 0, _ => none
  | k + 1, x0 =>
    say_count.l0 k x0 []
end
abbrev say_count.ini : LSh := ⟨[(0, .val (.int .u64))], []⟩
abbrev say_count.out : LSh := ⟨[(0, .val .str)], []⟩
abbrev say_count.l0s : LSh := ⟨[(0, .val (.int .u64)), (3, .own 2000003 5 (.mu (.int .u8)))], []⟩
abbrev say_count.l1s : LSh := ⟨[(3, .own 2000003 5 (.mu (.int .u8))), (4, .val (.int .i64)), (5, .val (.int .i64))], []⟩
noncomputable def say_count.labF : Nat → List (LabF say_count.out.den)
  | 4 => [⟨say_count.l0s, fun k (d : (Int × List Int × Unit) × (Unit)) => (say_count.l0 k d.1.1 d.1.2.1 : Option say_count.R)⟩]
  | 14 => [⟨say_count.l1s, fun k (d : (List Int × Int × Int × Unit) × (Unit)) => (say_count.l1 k d.1.1 d.1.2.1 d.1.2.2.1 : Option say_count.R)⟩]
  | _ => []
noncomputable def say_count.fd : FnD := ⟨Try.f55, say_count.ini, say_count.out, 1, [], [], say_count.labF, fun k (d : (Int × Unit) × (Unit)) => (say_count.f k d.1.1 : Option say_count.R), none, []⟩

/-! ### say_whole : function 41 -/
abbrev say_whole.R := (ByteArray × Unit) × (Unit)
noncomputable def say_whole.f : Nat → Int → Option say_whole.R
  | 0, _ => none
  | k + 1, x0 =>
    bif decide ((x0 : Int) < 0) then
      (say_count.f k (IntKind.wrap .u64 (0 - IntKind.wrap .u64 x0))).bind fun r1 =>
      (ck (decide ((⟨#[45]⟩ : ByteArray).size + r1.1.1.size ≤ 9223372036854775807))).bind fun _ =>
      some (((⟨#[45]⟩ : ByteArray) ++ r1.1.1, ()), (()))
    else
      (say_count.f k (IntKind.wrap .u64 x0)).bind fun r2 =>
      some ((r2.1.1, ()), (()))
abbrev say_whole.ini : LSh := ⟨[(0, .val (.int .i64))], []⟩
abbrev say_whole.out : LSh := ⟨[(0, .val .str)], []⟩
noncomputable def say_whole.labF : Nat → List (LabF say_whole.out.den)
  | _ => []
noncomputable def say_whole.fd : FnD := ⟨Try.f41, say_whole.ini, say_whole.out, 1, [], [], say_whole.labF, fun k (d : (Int × Unit) × (Unit)) => (say_whole.f k d.1.1 : Option say_whole.R), none, []⟩

/-! ### say_Value : function 20 -/
abbrev say_Value.R := (ByteArray × Unit) × (Unit)
mutual
noncomputable def say_Value.l0 : Nat → (List Int) → Int → Int → Bool → Int → Int → ByteArray → Option say_Value.R
  | 0, _, _, _, _, _, _, _ => none
  | k + 1, x3, x4, o1_0, o1_1, o1_2, o1_3, o1_4 =>
    bif decide ((x4 : Int) ≥ 0) then
      (ck (!decide ((x4 : Int) < 0))).bind fun _ =>
      (bto (⟨#[48, 49, 50, 51, 52, 53, 54, 55, 56, 57, 97, 98, 99, 100, 101, 102]⟩ : ByteArray) (IntKind.wrap .u64 ((BitVec.ofInt (IntKind.bits .u64) (Int.fdiv o1_3 (2 ^ (min (x4 : Int).toNat (IntKind.bits .u64)))) &&& BitVec.ofInt (IntKind.bits .u64) 15).toNat : Int))).bind fun t3 =>
      (ck (decide ((x3.length + ([t3] : List Int).length) * 1 ≤ 70368744177664))).bind fun _ =>
      say_Value.l0 k (x3 ++ ([t3] : List Int)) (IntKind.wrap .i64 (x4 - 4)) o1_0 o1_1 o1_2 o1_3 o1_4
    else
      (say_Quoted.f k (strOf x3)).bind fun r4 =>
      (ck (decide ((⟨#[102, 108, 111, 97, 116, 40]⟩ : ByteArray).size + r4.1.1.size ≤ 9223372036854775807))).bind fun _ =>
      (ck (decide (((⟨#[102, 108, 111, 97, 116, 40]⟩ : ByteArray) ++ r4.1.1).size + (⟨#[41]⟩ : ByteArray).size ≤ 9223372036854775807))).bind fun _ =>
      some ((((⟨#[102, 108, 111, 97, 116, 40]⟩ : ByteArray) ++ r4.1.1) ++ (⟨#[41]⟩ : ByteArray), ()), (()))
noncomputable def say_Value.f : Nat → Ab5 → Option say_Value.R
  | 0, _ => none
  | k + 1, x0 =>
    bif (x0.1 : Int) == 0 then
      some (((⟨#[110, 117, 108, 108]⟩ : ByteArray), ()), (()))
    else
    bif (x0.1 : Int) == 1 then
      bif x0.2.1 then
        some (((⟨#[116, 114, 117, 101]⟩ : ByteArray), ()), (()))
      else
        some (((⟨#[102, 97, 108, 115, 101]⟩ : ByteArray), ()), (()))
    else
    bif (x0.1 : Int) == 2 then
      (say_whole.f k x0.2.2.1).bind fun r1 =>
      some ((r1.1.1, ()), (()))
    else
    bif (x0.1 : Int) == 3 then
      say_Value.l0 k [] 60 x0.1 x0.2.1 x0.2.2.1 x0.2.2.2.1 x0.2.2.2.2.1
    else
    bif (x0.1 : Int) == 4 then
      (say_Quoted.f k x0.2.2.2.2.1).bind fun r2 =>
      some ((r2.1.1, ()), (()))
    else
      some (((⟨#[110, 111, 110, 101]⟩ : ByteArray), ()), (()))
end
abbrev say_Value.ini : LSh := ⟨[(0, .val Ac1)], []⟩
abbrev say_Value.out : LSh := ⟨[(0, .val .str)], []⟩
abbrev say_Value.l0s : LSh := ⟨[(1, .ptr 1 0), (3, .own 2000003 5 (.int .u8)), (4, .val (.int .i64))], [(1, 48, [.val (.int .i64), .val .bool, .val (.int .i64), .val (.int .u64), .val .str])]⟩
noncomputable def say_Value.labF : Nat → List (LabF say_Value.out.den)
  | 26 => [⟨say_Value.l0s, fun k (d : (Unit × List Int × Int × Unit) × (Ab5 × Unit)) => (say_Value.l0 k d.1.2.1 d.1.2.2.1 d.2.1.1 d.2.1.2.1 d.2.1.2.2.1 d.2.1.2.2.2.1 d.2.1.2.2.2.2.1 : Option say_Value.R)⟩]
  | _ => []
noncomputable def say_Value.fd : FnD := ⟨Try.f20, say_Value.ini, say_Value.out, 1, [], [], say_Value.labF, fun k (d : (Ab5 × Unit) × (Unit)) => (say_Value.f k d.1.1 : Option say_Value.R), none, []⟩

/-! ### ask_term : function 18 -/
abbrev ask_term.R := (ByteArray × Unit) × (Unit)
mutual
noncomputable def ask_term.j0 : Nat → ByteArray → ByteArray → Ab5 → Ab5 → Bool → Bool → Bool → Option ask_term.R
  | 0, _, _, _, _, _, _, _ => none
  | k + 1, x3, o1_0, o1_1, o1_2, o1_3, o1_4, o1_5 =>
    bif o1_3 then
      bif o1_4 then
        bif ((o1_1.1 : Int) == o1_2.1 && (o1_1.2.1 == o1_2.2.1 && ((o1_1.2.2.1 : Int) == o1_2.2.2.1 && ((o1_1.2.2.2.1 : Int) == o1_2.2.2.2.1 && (seqB o1_1.2.2.2.2.1 o1_2.2.2.2.2.1 && true))))) then
          (ck (decide (x3.size + (⟨#[32, 105, 115, 32]⟩ : ByteArray).size ≤ 9223372036854775807))).bind fun _ =>
          (say_Value.f k o1_1).bind fun r2 =>
          (ck (decide ((x3 ++ (⟨#[32, 105, 115, 32]⟩ : ByteArray)).size + r2.1.1.size ≤ 9223372036854775807))).bind fun _ =>
          some (((x3 ++ (⟨#[32, 105, 115, 32]⟩ : ByteArray)) ++ r2.1.1, ()), (()))
        else
        bif !o1_3 then
          bif !o1_4 then
            (ck (decide (x3.size + (⟨#[32, 116, 104, 101, 114, 101]⟩ : ByteArray).size ≤ 9223372036854775807))).bind fun _ =>
            some ((x3 ++ (⟨#[32, 116, 104, 101, 114, 101]⟩ : ByteArray), ()), (()))
          else
          bif o1_3 then
            (say_Value.f k o1_1).bind fun r3 =>
            (ck (decide ((⟨#[32, 102, 114, 111, 109, 32]⟩ : ByteArray).size + r3.1.1.size ≤ 9223372036854775807))).bind fun _ =>
            (ck (decide (x3.size + ((⟨#[32, 102, 114, 111, 109, 32]⟩ : ByteArray) ++ r3.1.1).size ≤ 9223372036854775807))).bind fun _ =>
            ask_term.j1 k (x3 ++ ((⟨#[32, 102, 114, 111, 109, 32]⟩ : ByteArray) ++ r3.1.1)) o1_0 o1_1 o1_2 o1_3 o1_4 o1_5
          else
            ask_term.j1 k x3 o1_0 o1_1 o1_2 o1_3 o1_4 o1_5
        else
        bif o1_3 then
          (say_Value.f k o1_1).bind fun r4 =>
          (ck (decide ((⟨#[32, 102, 114, 111, 109, 32]⟩ : ByteArray).size + r4.1.1.size ≤ 9223372036854775807))).bind fun _ =>
          (ck (decide (x3.size + ((⟨#[32, 102, 114, 111, 109, 32]⟩ : ByteArray) ++ r4.1.1).size ≤ 9223372036854775807))).bind fun _ =>
          ask_term.j1 k (x3 ++ ((⟨#[32, 102, 114, 111, 109, 32]⟩ : ByteArray) ++ r4.1.1)) o1_0 o1_1 o1_2 o1_3 o1_4 o1_5
        else
          ask_term.j1 k x3 o1_0 o1_1 o1_2 o1_3 o1_4 o1_5
      else
      bif !o1_3 then
        bif !o1_4 then
          (ck (decide (x3.size + (⟨#[32, 116, 104, 101, 114, 101]⟩ : ByteArray).size ≤ 9223372036854775807))).bind fun _ =>
          some ((x3 ++ (⟨#[32, 116, 104, 101, 114, 101]⟩ : ByteArray), ()), (()))
        else
        bif o1_3 then
          (say_Value.f k o1_1).bind fun r5 =>
          (ck (decide ((⟨#[32, 102, 114, 111, 109, 32]⟩ : ByteArray).size + r5.1.1.size ≤ 9223372036854775807))).bind fun _ =>
          (ck (decide (x3.size + ((⟨#[32, 102, 114, 111, 109, 32]⟩ : ByteArray) ++ r5.1.1).size ≤ 9223372036854775807))).bind fun _ =>
          ask_term.j1 k (x3 ++ ((⟨#[32, 102, 114, 111, 109, 32]⟩ : ByteArray) ++ r5.1.1)) o1_0 o1_1 o1_2 o1_3 o1_4 o1_5
        else
          ask_term.j1 k x3 o1_0 o1_1 o1_2 o1_3 o1_4 o1_5
      else
      bif o1_3 then
        (say_Value.f k o1_1).bind fun r6 =>
        (ck (decide ((⟨#[32, 102, 114, 111, 109, 32]⟩ : ByteArray).size + r6.1.1.size ≤ 9223372036854775807))).bind fun _ =>
        (ck (decide (x3.size + ((⟨#[32, 102, 114, 111, 109, 32]⟩ : ByteArray) ++ r6.1.1).size ≤ 9223372036854775807))).bind fun _ =>
        ask_term.j1 k (x3 ++ ((⟨#[32, 102, 114, 111, 109, 32]⟩ : ByteArray) ++ r6.1.1)) o1_0 o1_1 o1_2 o1_3 o1_4 o1_5
      else
        ask_term.j1 k x3 o1_0 o1_1 o1_2 o1_3 o1_4 o1_5
    else
    bif !o1_3 then
      bif !o1_4 then
        (ck (decide (x3.size + (⟨#[32, 116, 104, 101, 114, 101]⟩ : ByteArray).size ≤ 9223372036854775807))).bind fun _ =>
        some ((x3 ++ (⟨#[32, 116, 104, 101, 114, 101]⟩ : ByteArray), ()), (()))
      else
      bif o1_3 then
        (say_Value.f k o1_1).bind fun r7 =>
        (ck (decide ((⟨#[32, 102, 114, 111, 109, 32]⟩ : ByteArray).size + r7.1.1.size ≤ 9223372036854775807))).bind fun _ =>
        (ck (decide (x3.size + ((⟨#[32, 102, 114, 111, 109, 32]⟩ : ByteArray) ++ r7.1.1).size ≤ 9223372036854775807))).bind fun _ =>
        ask_term.j1 k (x3 ++ ((⟨#[32, 102, 114, 111, 109, 32]⟩ : ByteArray) ++ r7.1.1)) o1_0 o1_1 o1_2 o1_3 o1_4 o1_5
      else
        ask_term.j1 k x3 o1_0 o1_1 o1_2 o1_3 o1_4 o1_5
    else
    bif o1_3 then
      (say_Value.f k o1_1).bind fun r8 =>
      (ck (decide ((⟨#[32, 102, 114, 111, 109, 32]⟩ : ByteArray).size + r8.1.1.size ≤ 9223372036854775807))).bind fun _ =>
      (ck (decide (x3.size + ((⟨#[32, 102, 114, 111, 109, 32]⟩ : ByteArray) ++ r8.1.1).size ≤ 9223372036854775807))).bind fun _ =>
      ask_term.j1 k (x3 ++ ((⟨#[32, 102, 114, 111, 109, 32]⟩ : ByteArray) ++ r8.1.1)) o1_0 o1_1 o1_2 o1_3 o1_4 o1_5
    else
      ask_term.j1 k x3 o1_0 o1_1 o1_2 o1_3 o1_4 o1_5
noncomputable def ask_term.j1 : Nat → ByteArray → ByteArray → Ab5 → Ab5 → Bool → Bool → Bool → Option ask_term.R
  | 0, _, _, _, _, _, _, _ => none
  | k + 1, x3, o1_0, o1_1, o1_2, o1_3, o1_4, o1_5 =>
    bif o1_4 then
      (say_Value.f k o1_2).bind fun r9 =>
      (ck (decide ((⟨#[32, 116, 111, 32]⟩ : ByteArray).size + r9.1.1.size ≤ 9223372036854775807))).bind fun _ =>
      (ck (decide (x3.size + ((⟨#[32, 116, 111, 32]⟩ : ByteArray) ++ r9.1.1).size ≤ 9223372036854775807))).bind fun _ =>
      some ((x3 ++ ((⟨#[32, 116, 111, 32]⟩ : ByteArray) ++ r9.1.1), ()), (()))
    else
      some ((x3, ()), (()))
noncomputable def ask_term.f : Nat → Ab0 → Option ask_term.R
  | 0, _ => none
  | k + 1, x0 =>
    (say_Quoted.f k x0.1).bind fun r1 =>
    bif x0.2.2.2.2.2.1 then
      (ck (decide ((⟨#[110, 111, 116, 32]⟩ : ByteArray).size + r1.1.1.size ≤ 9223372036854775807))).bind fun _ =>
      ask_term.j0 k ((⟨#[110, 111, 116, 32]⟩ : ByteArray) ++ r1.1.1) x0.1 x0.2.1 x0.2.2.1 x0.2.2.2.1 x0.2.2.2.2.1 x0.2.2.2.2.2.1
    else
      ask_term.j0 k r1.1.1 x0.1 x0.2.1 x0.2.2.1 x0.2.2.2.1 x0.2.2.2.2.1 x0.2.2.2.2.2.1
end
abbrev ask_term.ini : LSh := ⟨[(0, .val Ac3)], []⟩
abbrev ask_term.out : LSh := ⟨[(0, .val .str)], []⟩
abbrev ask_term.j0s : LSh := ⟨[(1, .ptr 1 0), (3, .val .str)], [(1, 50, [.val .str, .val Ac1, .val Ac1, .val .bool, .val .bool, .val .bool])]⟩
abbrev ask_term.j1s : LSh := ⟨[(1, .ptr 1 0), (3, .val .str)], [(1, 50, [.val .str, .val Ac1, .val Ac1, .val .bool, .val .bool, .val .bool])]⟩
noncomputable def ask_term.labF : Nat → List (LabF ask_term.out.den)
  | 9 => [⟨ask_term.j0s, fun k (d : (Unit × ByteArray × Unit) × (Ab0 × Unit)) => (ask_term.j0 k d.1.2.1 d.2.1.1 d.2.1.2.1 d.2.1.2.2.1 d.2.1.2.2.2.1 d.2.1.2.2.2.2.1 d.2.1.2.2.2.2.2.1 : Option ask_term.R)⟩]
  | 21 => [⟨ask_term.j1s, fun k (d : (Unit × ByteArray × Unit) × (Ab0 × Unit)) => (ask_term.j1 k d.1.2.1 d.2.1.1 d.2.1.2.1 d.2.1.2.2.1 d.2.1.2.2.2.1 d.2.1.2.2.2.2.1 d.2.1.2.2.2.2.2.1 : Option ask_term.R)⟩]
  | _ => []
noncomputable def ask_term.fd : FnD := ⟨Try.f18, ask_term.ini, ask_term.out, 1, [], [], ask_term.labF, fun k (d : (Ab0 × Unit) × (Unit)) => (ask_term.f k d.1.1 : Option ask_term.R), none, []⟩

/-! ### strings_Join : function 21 -/
abbrev strings_Join.R := (ByteArray × Unit) × (Unit)
mutual
noncomputable def strings_Join.j0 : Nat → (List ByteArray) → ByteArray → Int → Option strings_Join.R
  | 0, _, _, _ => none
  | k + 1, x0, x1, x5 =>
    strings_Join.j1 k x0 x1 (IntKind.wrap .i64 (x5 + (IntKind.wrap .i64 ((x1.size : Int) * (IntKind.wrap .i64 ((x0.length : Int) - 1))))))
noncomputable def strings_Join.j1 : Nat → (List ByteArray) → ByteArray → Int → Option strings_Join.R
  | 0, _, _, _ => none
  | k + 1, x0, x1, x5 =>
    strings_Join.l0 k x0 x1 x5 x0 (x0.length : Int) 0
noncomputable def strings_Join.l0 : Nat → (List ByteArray) → ByteArray → Int → (List ByteArray) → Int → Int → Option strings_Join.R
  | 0, _, _, _, _, _, _ => none
  | k + 1, x0, x1, x5, x39, x40, x41 =>
    bif decide ((x41 : Int) < x40) then
      (rdo x39 x41).bind fun t2 =>
      bif decide (((t2.size : Int) : Int) > IntKind.wrap .i64 (9223372036854775807 - x5)) then
        none
      else
        strings_Join.l0 k x0 x1 (IntKind.wrap .i64 (x5 + (t2.size : Int))) x39 x40 (IntKind.wrap .i64 (x41 + 1))
    else
      (growFresh.f k x5).bind fun r3 =>
      (rdo x0 0).bind fun t4 =>
      (strings_Builder_WriteString_v0.f k t4 r3.2.1.2.1).bind fun r5 =>
      (ck (decide (0 ≤ 1) && decide (1 ≤ (x0.length : Int)) && decide ((x0.length : Int) ≤ (x0.length : Int)))).bind fun _ =>
      strings_Join.l1 k x1 ((x0.take (x0.length : Int).toNat).drop (1 : Int).toNat) (((x0.take (x0.length : Int).toNat).drop (1 : Int).toNat).length : Int) 0 r5.2.1.2.1
noncomputable def strings_Join.l1 : Nat → ByteArray → (List ByteArray) → Int → Int → (List Int) → Option strings_Join.R
  | 0, _, _, _, _, _ => none
  | k + 1, x1, x63, x64, x65, o8_1 =>
    bif decide ((x65 : Int) < x64) then
      (rdo x63 x65).bind fun t6 =>
      (strings_Builder_WriteString_v0.f k x1 o8_1).bind fun r7 =>
      (strings_Builder_WriteString_v0.f k t6 r7.2.1.2.1).bind fun r8 =>
      strings_Join.l1 k x1 x63 x64 (IntKind.wrap .i64 (x65 + 1)) r8.2.1.2.1
    else
      (strUsed.f k o8_1).bind fun r9 =>
      some ((r9.1.1, ()), (()))
noncomputable def strings_Join.f : Nat → (List ByteArray) → ByteArray → Option strings_Join.R
  | 0, _, _ => none
  | k + 1, x0, x1 =>
    bif ((x0.length : Int) : Int) == 0 then
      some (((⟨#[]⟩ : ByteArray), ()), (()))
    else
    bif ((x0.length : Int) : Int) == 1 then
      (rdo x0 0).bind fun t1 =>
      some ((t1, ()), (()))
    else
    bif decide (((x1.size : Int) : Int) > 0) then
      (ck (!decide ((IntKind.wrap .i64 ((x0.length : Int) - 1) : Int) = 0))).bind fun _ =>
      bif decide (((x1.size : Int) : Int) ≥ IntKind.wrap .i64 (Int.tdiv 9223372036854775807 (IntKind.wrap .i64 ((x0.length : Int) - 1)))) then
        none
      else
        strings_Join.j0 k x0 x1 0
    else
      strings_Join.j1 k x0 x1 0
end
abbrev strings_Join.ini : LSh := ⟨[(0, .val (.sl .str)), (1, .val .str)], []⟩
abbrev strings_Join.out : LSh := ⟨[(0, .val .str)], []⟩
abbrev strings_Join.j0s : LSh := ⟨[(0, .val (.sl .str)), (1, .val .str), (5, .val (.int .i64))], []⟩
abbrev strings_Join.j1s : LSh := ⟨[(0, .val (.sl .str)), (1, .val .str), (5, .val (.int .i64))], []⟩
abbrev strings_Join.l0s : LSh := ⟨[(0, .val (.sl .str)), (1, .val .str), (5, .val (.int .i64)), (39, .val (.sl .str)), (40, .val (.int .i64)), (41, .val (.int .i64))], []⟩
abbrev strings_Join.l1s : LSh := ⟨[(1, .val .str), (8, .ptr 8 0), (63, .val (.sl .str)), (64, .val (.int .i64)), (65, .val (.int .i64))], [(8, 76, [.ptr 8 0, .own 3000801 5 (.int .u8)])]⟩
noncomputable def strings_Join.labF : Nat → List (LabF strings_Join.out.den)
  | 21 => [⟨strings_Join.j0s, fun k (d : (List ByteArray × ByteArray × Int × Unit) × (Unit)) => (strings_Join.j0 k d.1.1 d.1.2.1 d.1.2.2.1 : Option strings_Join.R)⟩]
  | 23 => [⟨strings_Join.j1s, fun k (d : (List ByteArray × ByteArray × Int × Unit) × (Unit)) => (strings_Join.j1 k d.1.1 d.1.2.1 d.1.2.2.1 : Option strings_Join.R)⟩]
  | 24 => [⟨strings_Join.l0s, fun k (d : (List ByteArray × ByteArray × Int × List ByteArray × Int × Int × Unit) × (Unit)) => (strings_Join.l0 k d.1.1 d.1.2.1 d.1.2.2.1 d.1.2.2.2.1 d.1.2.2.2.2.1 d.1.2.2.2.2.2.1 : Option strings_Join.R)⟩]
  | 44 => [⟨strings_Join.l1s, fun k (d : (ByteArray × Unit × List ByteArray × Int × Int × Unit) × ((Unit × List Int × Unit) × Unit)) => (strings_Join.l1 k d.1.1 d.1.2.2.1 d.1.2.2.2.1 d.1.2.2.2.2.1 d.2.1.2.1 : Option strings_Join.R)⟩]
  | _ => []
noncomputable def strings_Join.fd : FnD := ⟨Try.f21, strings_Join.ini, strings_Join.out, 1, [], [], strings_Join.labF, fun k (d : (List ByteArray × ByteArray × Unit) × (Unit)) => (strings_Join.f k d.1.1 d.1.2.1 : Option strings_Join.R), none, []⟩

/-! ### ask_Print : function 7 -/
abbrev ask_Print.R := (ByteArray × Unit) × (Unit)
mutual
noncomputable def ask_Print.l0 : Nat → (List ByteArray) → (List Ab0) → Int → Int → (List Ab0) → ByteArray → Bool → Int → Option ask_Print.R
  | 0, _, _, _, _, _, _, _, _ => none
  | k + 1, x3, x10, x11, x12, o1_0, o1_1, o1_2, o1_3 =>
    bif decide ((x12 : Int) < x11) then
      (rdo x10 x12).bind fun t2 =>
      bif (x12 : Int) == 0 then
        (ck (decide ((x3.length + ([(⟨#[119, 104, 101, 114, 101]⟩ : ByteArray)] : List ByteArray).length) * 16 ≤ 70368744177664))).bind fun _ =>
        (ask_term.f k t2).bind fun r3 =>
        (ck (decide (((x3 ++ ([(⟨#[119, 104, 101, 114, 101]⟩ : ByteArray)] : List ByteArray)).length + ([r3.1.1] : List ByteArray).length) * 16 ≤ 70368744177664))).bind fun _ =>
        ask_Print.l0 k ((x3 ++ ([(⟨#[119, 104, 101, 114, 101]⟩ : ByteArray)] : List ByteArray)) ++ ([r3.1.1] : List ByteArray)) x10 x11 (IntKind.wrap .i64 (x12 + 1)) o1_0 o1_1 o1_2 o1_3
      else
        (ck (decide ((x3.length + ([(⟨#[97, 110, 100]⟩ : ByteArray)] : List ByteArray).length) * 16 ≤ 70368744177664))).bind fun _ =>
        (ask_term.f k t2).bind fun r4 =>
        (ck (decide (((x3 ++ ([(⟨#[97, 110, 100]⟩ : ByteArray)] : List ByteArray)).length + ([r4.1.1] : List ByteArray).length) * 16 ≤ 70368744177664))).bind fun _ =>
        ask_Print.l0 k ((x3 ++ ([(⟨#[97, 110, 100]⟩ : ByteArray)] : List ByteArray)) ++ ([r4.1.1] : List ByteArray)) x10 x11 (IntKind.wrap .i64 (x12 + 1)) o1_0 o1_1 o1_2 o1_3
    else
    bif !(o1_1.toList == (⟨#[]⟩ : ByteArray).toList) then
      (say_Quoted.f k o1_1).bind fun r5 =>
      (ck (decide ((x3.length + ([(⟨#[98, 121]⟩ : ByteArray), r5.1.1] : List ByteArray).length) * 16 ≤ 70368744177664))).bind fun _ =>
      bif o1_2 then
        (ck (decide (((x3 ++ ([(⟨#[98, 121]⟩ : ByteArray), r5.1.1] : List ByteArray)).length + ([(⟨#[100, 111, 119, 110]⟩ : ByteArray)] : List ByteArray).length) * 16 ≤ 70368744177664))).bind fun _ =>
        ask_Print.j0 k ((x3 ++ ([(⟨#[98, 121]⟩ : ByteArray), r5.1.1] : List ByteArray)) ++ ([(⟨#[100, 111, 119, 110]⟩ : ByteArray)] : List ByteArray)) o1_0 o1_1 o1_2 o1_3
      else
        ask_Print.j0 k (x3 ++ ([(⟨#[98, 121]⟩ : ByteArray), r5.1.1] : List ByteArray)) o1_0 o1_1 o1_2 o1_3
    else
      ask_Print.j0 k x3 o1_0 o1_1 o1_2 o1_3
noncomputable def ask_Print.j0 : Nat → (List ByteArray) → (List Ab0) → ByteArray → Bool → Int → Option ask_Print.R
  | 0, _, _, _, _, _ => none
  | k + 1, x3, o1_0, o1_1, o1_2, o1_3 =>
    (say_Value.f k (2, (false, (o1_3, (0, (ByteArray.empty, ())))))).bind fun r6 =>
    (ck (decide ((x3.length + ([(⟨#[109, 111, 115, 116]⟩ : ByteArray), r6.1.1] : List ByteArray).length) * 16 ≤ 70368744177664))).bind fun _ =>
    (strings_Join.f k (x3 ++ ([(⟨#[109, 111, 115, 116]⟩ : ByteArray), r6.1.1] : List ByteArray)) (⟨#[32]⟩ : ByteArray)).bind fun r7 =>
    some ((r7.1.1, ()), (()))
noncomputable def ask_Print.f : Nat → (List Ab0 × ByteArray × Bool × Int × Unit) → Option ask_Print.R
  | 0, _ => none
  | k + 1, x0 =>
    (find_Check.f k x0).bind fun r1 =>
    bif (r1.1.1 : Int) != 0 then
      some (((⟨#[]⟩ : ByteArray), ()), (()))
    else
      ask_Print.l0 k [] x0.1 (x0.1.length : Int) 0 x0.1 x0.2.1 x0.2.2.1 x0.2.2.2.1
end
abbrev ask_Print.ini : LSh := ⟨[(0, .val (.cons (.sl Ac3) (.cons .str (.cons .bool (.cons (.int .i64) .nil)))))], []⟩
abbrev ask_Print.out : LSh := ⟨[(0, .val .str)], []⟩
abbrev ask_Print.l0s : LSh := ⟨[(1, .ptr 1 0), (3, .own 2000003 9 .str), (10, .val (.sl Ac3)), (11, .val (.int .i64)), (12, .val (.int .i64))], [(1, 24, [.val (.sl Ac3), .val .str, .val .bool, .val (.int .i64)])]⟩
abbrev ask_Print.j0s : LSh := ⟨[(1, .ptr 1 0), (3, .own 2000003 9 .str)], [(1, 24, [.val (.sl Ac3), .val .str, .val .bool, .val (.int .i64)])]⟩
noncomputable def ask_Print.labF : Nat → List (LabF ask_Print.out.den)
  | 10 => [⟨ask_Print.l0s, fun k (d : (Unit × List ByteArray × (List Ab0) × Int × Int × Unit) × (Ab8 × Unit)) => (ask_Print.l0 k d.1.2.1 d.1.2.2.1 d.1.2.2.2.1 d.1.2.2.2.2.1 d.2.1.1 d.2.1.2.1 d.2.1.2.2.1 d.2.1.2.2.2.1 : Option ask_Print.R)⟩]
  | 33 => [⟨ask_Print.j0s, fun k (d : (Unit × List ByteArray × Unit) × (Ab8 × Unit)) => (ask_Print.j0 k d.1.2.1 d.2.1.1 d.2.1.2.1 d.2.1.2.2.1 d.2.1.2.2.2.1 : Option ask_Print.R)⟩]
  | _ => []
noncomputable def ask_Print.fd : FnD := ⟨Try.f7, ask_Print.ini, ask_Print.out, 1, [], [], ask_Print.labF, fun k (d : ((List Ab0 × ByteArray × Bool × Int × Unit) × Unit) × (Unit)) => (ask_Print.f k d.1.1 : Option ask_Print.R), none, []⟩

/-! ### say_lexer_blanks_1 : function 76 -/
abbrev say_lexer_blanks_1.R := (Bool × Unit) × (Unit)
noncomputable def say_lexer_blanks_1.f : Nat → Int → Option say_lexer_blanks_1.R
  | 0, _ => none
  | k + 1, x0 =>
    some (((x0 : Int) != 10, ()), (()))
abbrev say_lexer_blanks_1.ini : LSh := ⟨[(0, .val (.int .u8))], []⟩
abbrev say_lexer_blanks_1.out : LSh := ⟨[(0, .val .bool)], []⟩
noncomputable def say_lexer_blanks_1.labF : Nat → List (LabF say_lexer_blanks_1.out.den)
  | _ => []
noncomputable def say_lexer_blanks_1.fd : FnD := ⟨Try.f76, say_lexer_blanks_1.ini, say_lexer_blanks_1.out, 1, [], [], say_lexer_blanks_1.labF, fun k (d : (Int × Unit) × (Unit)) => (say_lexer_blanks_1.f k d.1.1 : Option say_lexer_blanks_1.R), none, []⟩

/-! ### say_lexer_run_v0 : function 61 -/
abbrev say_lexer_run_v0.R := (ByteArray × Unit) × ((ByteArray × Int × Unit) × Unit)
mutual
noncomputable def say_lexer_run_v0.l0 : Nat → Int → ByteArray → Int → Option say_lexer_run_v0.R
  | 0, _, _, _ => none
  | k + 1, x5, o0_0, o0_1 =>
    bif decide ((o0_1 : Int) < (o0_0.size : Int)) then
      (bto o0_0 o0_1).bind fun t1 =>
      (say_lexer_blanks_1.f k t1).bind fun r2 =>
      bif r2.1.1 then
        say_lexer_run_v0.l0 k x5 o0_0 (IntKind.wrap .i64 (o0_1 + 1))
      else
        (ck (decide (0 ≤ x5) && decide (x5 ≤ o0_1) && decide (o0_1 ≤ (o0_0.size : Int)))).bind fun _ =>
        some ((o0_0.extract x5.toNat o0_1.toNat, ()), ((o0_0, o0_1, ()), ()))
    else
      (ck (decide (0 ≤ x5) && decide (x5 ≤ o0_1) && decide (o0_1 ≤ (o0_0.size : Int)))).bind fun _ =>
      some ((o0_0.extract x5.toNat o0_1.toNat, ()), ((o0_0, o0_1, ()), ()))
noncomputable def say_lexer_run_v0.f : Nat → ByteArray → Int → Option say_lexer_run_v0.R
  | 0, _, _ => none
  | k + 1, o0_0, o0_1 =>
    say_lexer_run_v0.l0 k o0_1 o0_0 o0_1
end
abbrev say_lexer_run_v0.ini : LSh := ⟨[(0, .ptr 1000000 0), (1, .clo 76 [])], [(1000000, 89, [.val .str, .val (.int .i64)])]⟩
abbrev say_lexer_run_v0.out : LSh := ⟨[(0, .val .str)], [(1000000, 89, [.val .str, .val (.int .i64)])]⟩
abbrev say_lexer_run_v0.l0s : LSh := ⟨[(0, .ptr 1000000 0), (1, .clo 76 []), (5, .val (.int .i64))], [(1000000, 89, [.val .str, .val (.int .i64)])]⟩
noncomputable def say_lexer_run_v0.labF : Nat → List (LabF say_lexer_run_v0.out.den)
  | 4 => [⟨say_lexer_run_v0.l0s, fun k (d : (Unit × Unit × Int × Unit) × ((ByteArray × Int × Unit) × Unit)) => (say_lexer_run_v0.l0 k d.1.2.2.1 d.2.1.1 d.2.1.2.1 : Option say_lexer_run_v0.R)⟩]
  | _ => []
noncomputable def say_lexer_run_v0.fd : FnD := ⟨Try.f61, say_lexer_run_v0.ini, say_lexer_run_v0.out, 1, [1000000], [], say_lexer_run_v0.labF, fun k (d : (Unit × Unit × Unit) × ((ByteArray × Int × Unit) × Unit)) => (say_lexer_run_v0.f k d.2.1.1 d.2.1.2.1 : Option say_lexer_run_v0.R), none, []⟩

/-! ### say_lexer_blanks : function 59 -/
abbrev say_lexer_blanks.R := (Unit) × ((ByteArray × Int × Unit) × Unit)
mutual
noncomputable def say_lexer_blanks.l0 : Nat → ByteArray → Int → Option say_lexer_blanks.R
  | 0, _, _ => none
  | k + 1, o0_0, o0_1 =>
    bif decide ((o0_1 : Int) < (o0_0.size : Int)) then
      (bto o0_0 o0_1).bind fun t1 =>
      bif (t1 : Int) == 32 then
        say_lexer_blanks.l0 k o0_0 (IntKind.wrap .i64 (o0_1 + 1))
      else
      bif (t1 : Int) == 10 then
        say_lexer_blanks.l0 k o0_0 (IntKind.wrap .i64 (o0_1 + 1))
      else
      bif (t1 : Int) == 9 then
        say_lexer_blanks.l0 k o0_0 (IntKind.wrap .i64 (o0_1 + 1))
      else
      bif (t1 : Int) == 35 then
        (say_lexer_run_v0.f k o0_0 o0_1).bind fun r2 =>
        say_lexer_blanks.l0 k r2.2.1.1 r2.2.1.2.1
      else
        some ((()), ((o0_0, o0_1, ()), ()))
    else
      some ((()), ((o0_0, o0_1, ()), ()))
noncomputable def say_lexer_blanks.f : Nat → ByteArray → Int → Option say_lexer_blanks.R
  | 0, _, _ => none
  | k + 1, o0_0, o0_1 =>
    say_lexer_blanks.l0 k o0_0 o0_1
end
abbrev say_lexer_blanks.ini : LSh := ⟨[(0, .ptr 1000000 0)], [(1000000, 89, [.val .str, .val (.int .i64)])]⟩
abbrev say_lexer_blanks.out : LSh := ⟨[], [(1000000, 89, [.val .str, .val (.int .i64)])]⟩
abbrev say_lexer_blanks.l0s : LSh := ⟨[(0, .ptr 1000000 0)], [(1000000, 89, [.val .str, .val (.int .i64)])]⟩
noncomputable def say_lexer_blanks.labF : Nat → List (LabF say_lexer_blanks.out.den)
  | 0 => [⟨say_lexer_blanks.l0s, fun k (d : (Unit × Unit) × ((ByteArray × Int × Unit) × Unit)) => (say_lexer_blanks.l0 k d.2.1.1 d.2.1.2.1 : Option say_lexer_blanks.R)⟩]
  | _ => []
noncomputable def say_lexer_blanks.fd : FnD := ⟨Try.f59, say_lexer_blanks.ini, say_lexer_blanks.out, 0, [1000000], [], say_lexer_blanks.labF, fun k (d : (Unit × Unit) × ((ByteArray × Int × Unit) × Unit)) => (say_lexer_blanks.f k d.2.1.1 d.2.1.2.1 : Option say_lexer_blanks.R), none, []⟩

/-! ### say_letter : function 60 -/
abbrev say_letter.R := (Bool × Unit) × (Unit)
noncomputable def say_letter.f : Nat → Int → Option say_letter.R
  | 0, _ => none
  | k + 1, x0 =>
    bif decide ((x0 : Int) ≥ 97) then
      bif decide ((x0 : Int) ≤ 122) then
        some ((true, ()), (()))
      else
      bif decide ((x0 : Int) ≥ 65) then
        bif decide ((x0 : Int) ≤ 90) then
          some ((true, ()), (()))
        else
          some (((x0 : Int) == 95, ()), (()))
      else
        some (((x0 : Int) == 95, ()), (()))
    else
    bif decide ((x0 : Int) ≥ 65) then
      bif decide ((x0 : Int) ≤ 90) then
        some ((true, ()), (()))
      else
        some (((x0 : Int) == 95, ()), (()))
    else
      some (((x0 : Int) == 95, ()), (()))
abbrev say_letter.ini : LSh := ⟨[(0, .val (.int .u8))], []⟩
abbrev say_letter.out : LSh := ⟨[(0, .val .bool)], []⟩
noncomputable def say_letter.labF : Nat → List (LabF say_letter.out.den)
  | _ => []
noncomputable def say_letter.fd : FnD := ⟨Try.f60, say_letter.ini, say_letter.out, 1, [], [], say_letter.labF, fun k (d : (Int × Unit) × (Unit)) => (say_letter.f k d.1.1 : Option say_letter.R), none, []⟩

/-! ### say_digit : function 63 -/
abbrev say_digit.R := (Bool × Unit) × (Unit)
noncomputable def say_digit.f : Nat → Int → Option say_digit.R
  | 0, _ => none
  | k + 1, x0 =>
    bif decide ((x0 : Int) ≥ 48) then
      some ((decide ((x0 : Int) ≤ 57), ()), (()))
    else
      some ((false, ()), (()))
abbrev say_digit.ini : LSh := ⟨[(0, .val (.int .u8))], []⟩
abbrev say_digit.out : LSh := ⟨[(0, .val .bool)], []⟩
noncomputable def say_digit.labF : Nat → List (LabF say_digit.out.den)
  | _ => []
noncomputable def say_digit.fd : FnD := ⟨Try.f63, say_digit.ini, say_digit.out, 1, [], [], say_digit.labF, fun k (d : (Int × Unit) × (Unit)) => (say_digit.f k d.1.1 : Option say_digit.R), none, []⟩

/-! ### say_lexer_next_1 : function 62 -/
abbrev say_lexer_next_1.R := (Bool × Unit) × (Unit)
noncomputable def say_lexer_next_1.f : Nat → Int → Option say_lexer_next_1.R
  | 0, _ => none
  | k + 1, x0 =>
    (say_letter.f k x0).bind fun r1 =>
    bif r1.1.1 then
      some ((true, ()), (()))
    else
      (say_digit.f k x0).bind fun r2 =>
      some ((r2.1.1, ()), (()))
abbrev say_lexer_next_1.ini : LSh := ⟨[(0, .val (.int .u8))], []⟩
abbrev say_lexer_next_1.out : LSh := ⟨[(0, .val .bool)], []⟩
noncomputable def say_lexer_next_1.labF : Nat → List (LabF say_lexer_next_1.out.den)
  | _ => []
noncomputable def say_lexer_next_1.fd : FnD := ⟨Try.f62, say_lexer_next_1.ini, say_lexer_next_1.out, 1, [], [], say_lexer_next_1.labF, fun k (d : (Int × Unit) × (Unit)) => (say_lexer_next_1.f k d.1.1 : Option say_lexer_next_1.R), none, []⟩

/-! ### say_lexer_run_v1 : function 61 -/
abbrev say_lexer_run_v1.R := (ByteArray × Unit) × ((ByteArray × Int × Unit) × Unit)
mutual
noncomputable def say_lexer_run_v1.l0 : Nat → Int → ByteArray → Int → Option say_lexer_run_v1.R
  | 0, _, _, _ => none
  | k + 1, x5, o0_0, o0_1 =>
    bif decide ((o0_1 : Int) < (o0_0.size : Int)) then
      (bto o0_0 o0_1).bind fun t1 =>
      (say_lexer_next_1.f k t1).bind fun r2 =>
      bif r2.1.1 then
        say_lexer_run_v1.l0 k x5 o0_0 (IntKind.wrap .i64 (o0_1 + 1))
      else
        (ck (decide (0 ≤ x5) && decide (x5 ≤ o0_1) && decide (o0_1 ≤ (o0_0.size : Int)))).bind fun _ =>
        some ((o0_0.extract x5.toNat o0_1.toNat, ()), ((o0_0, o0_1, ()), ()))
    else
      (ck (decide (0 ≤ x5) && decide (x5 ≤ o0_1) && decide (o0_1 ≤ (o0_0.size : Int)))).bind fun _ =>
      some ((o0_0.extract x5.toNat o0_1.toNat, ()), ((o0_0, o0_1, ()), ()))
noncomputable def say_lexer_run_v1.f : Nat → ByteArray → Int → Option say_lexer_run_v1.R
  | 0, _, _ => none
  | k + 1, o0_0, o0_1 =>
    say_lexer_run_v1.l0 k o0_1 o0_0 o0_1
end
abbrev say_lexer_run_v1.ini : LSh := ⟨[(0, .ptr 1000000 0), (1, .clo 62 [])], [(1000000, 89, [.val .str, .val (.int .i64)])]⟩
abbrev say_lexer_run_v1.out : LSh := ⟨[(0, .val .str)], [(1000000, 89, [.val .str, .val (.int .i64)])]⟩
abbrev say_lexer_run_v1.l0s : LSh := ⟨[(0, .ptr 1000000 0), (1, .clo 62 []), (5, .val (.int .i64))], [(1000000, 89, [.val .str, .val (.int .i64)])]⟩
noncomputable def say_lexer_run_v1.labF : Nat → List (LabF say_lexer_run_v1.out.den)
  | 4 => [⟨say_lexer_run_v1.l0s, fun k (d : (Unit × Unit × Int × Unit) × ((ByteArray × Int × Unit) × Unit)) => (say_lexer_run_v1.l0 k d.1.2.2.1 d.2.1.1 d.2.1.2.1 : Option say_lexer_run_v1.R)⟩]
  | _ => []
noncomputable def say_lexer_run_v1.fd : FnD := ⟨Try.f61, say_lexer_run_v1.ini, say_lexer_run_v1.out, 1, [1000000], [], say_lexer_run_v1.labF, fun k (d : (Unit × Unit × Unit) × ((ByteArray × Int × Unit) × Unit)) => (say_lexer_run_v1.f k d.2.1.1 d.2.1.2.1 : Option say_lexer_run_v1.R), none, []⟩

/-! ### say_lexer_run_v2 : function 61 -/
abbrev say_lexer_run_v2.R := (ByteArray × Unit) × ((ByteArray × Int × Unit) × Unit)
mutual
noncomputable def say_lexer_run_v2.l0 : Nat → Int → ByteArray → Int → Option say_lexer_run_v2.R
  | 0, _, _, _ => none
  | k + 1, x5, o0_0, o0_1 =>
    bif decide ((o0_1 : Int) < (o0_0.size : Int)) then
      (bto o0_0 o0_1).bind fun t1 =>
      (say_digit.f k t1).bind fun r2 =>
      bif r2.1.1 then
        say_lexer_run_v2.l0 k x5 o0_0 (IntKind.wrap .i64 (o0_1 + 1))
      else
        (ck (decide (0 ≤ x5) && decide (x5 ≤ o0_1) && decide (o0_1 ≤ (o0_0.size : Int)))).bind fun _ =>
        some ((o0_0.extract x5.toNat o0_1.toNat, ()), ((o0_0, o0_1, ()), ()))
    else
      (ck (decide (0 ≤ x5) && decide (x5 ≤ o0_1) && decide (o0_1 ≤ (o0_0.size : Int)))).bind fun _ =>
      some ((o0_0.extract x5.toNat o0_1.toNat, ()), ((o0_0, o0_1, ()), ()))
noncomputable def say_lexer_run_v2.f : Nat → ByteArray → Int → Option say_lexer_run_v2.R
  | 0, _, _ => none
  | k + 1, o0_0, o0_1 =>
    say_lexer_run_v2.l0 k o0_1 o0_0 o0_1
end
abbrev say_lexer_run_v2.ini : LSh := ⟨[(0, .ptr 1000000 0), (1, .clo 63 [])], [(1000000, 89, [.val .str, .val (.int .i64)])]⟩
abbrev say_lexer_run_v2.out : LSh := ⟨[(0, .val .str)], [(1000000, 89, [.val .str, .val (.int .i64)])]⟩
abbrev say_lexer_run_v2.l0s : LSh := ⟨[(0, .ptr 1000000 0), (1, .clo 63 []), (5, .val (.int .i64))], [(1000000, 89, [.val .str, .val (.int .i64)])]⟩
noncomputable def say_lexer_run_v2.labF : Nat → List (LabF say_lexer_run_v2.out.den)
  | 4 => [⟨say_lexer_run_v2.l0s, fun k (d : (Unit × Unit × Int × Unit) × ((ByteArray × Int × Unit) × Unit)) => (say_lexer_run_v2.l0 k d.1.2.2.1 d.2.1.1 d.2.1.2.1 : Option say_lexer_run_v2.R)⟩]
  | _ => []
noncomputable def say_lexer_run_v2.fd : FnD := ⟨Try.f61, say_lexer_run_v2.ini, say_lexer_run_v2.out, 1, [1000000], [], say_lexer_run_v2.labF, fun k (d : (Unit × Unit × Unit) × ((ByteArray × Int × Unit) × Unit)) => (say_lexer_run_v2.f k d.2.1.1 d.2.1.2.1 : Option say_lexer_run_v2.R), none, []⟩

/-! ### stringslite_IndexByte : function 78 -/
abbrev stringslite_IndexByte.R := (Int × Unit) × (Unit)
noncomputable def stringslite_IndexByte.f : Nat → ByteArray → Int → Option stringslite_IndexByte.R
  | 0, _, _ => none
  | k + 1, x0, x1 =>
    (idxB.f k x0 x1).bind fun r1 =>
    some ((r1.1.1, ()), (()))
abbrev stringslite_IndexByte.ini : LSh := ⟨[(0, .val .str), (1, .val (.int .u8))], []⟩
abbrev stringslite_IndexByte.out : LSh := ⟨[(0, .val (.int .i64))], []⟩
noncomputable def stringslite_IndexByte.labF : Nat → List (LabF stringslite_IndexByte.out.den)
  | _ => []
noncomputable def stringslite_IndexByte.fd : FnD := ⟨Try.f78, stringslite_IndexByte.ini, stringslite_IndexByte.out, 1, [], [], stringslite_IndexByte.labF, fun k (d : (ByteArray × Int × Unit) × (Unit)) => (stringslite_IndexByte.f k d.1.1 d.1.2.1 : Option stringslite_IndexByte.R), none, []⟩

/-! ### strings_IndexByte : function 65 -/
abbrev strings_IndexByte.R := (Int × Unit) × (Unit)
noncomputable def strings_IndexByte.f : Nat → ByteArray → Int → Option strings_IndexByte.R
  | 0, _, _ => none
  | k + 1, x0, x1 =>
    (stringslite_IndexByte.f k x0 x1).bind fun r1 =>
    some ((r1.1.1, ()), (()))
abbrev strings_IndexByte.ini : LSh := ⟨[(0, .val .str), (1, .val (.int .u8))], []⟩
abbrev strings_IndexByte.out : LSh := ⟨[(0, .val (.int .i64))], []⟩
noncomputable def strings_IndexByte.labF : Nat → List (LabF strings_IndexByte.out.den)
  | _ => []
noncomputable def strings_IndexByte.fd : FnD := ⟨Try.f65, strings_IndexByte.ini, strings_IndexByte.out, 1, [], [], strings_IndexByte.labF, fun k (d : (ByteArray × Int × Unit) × (Unit)) => (strings_IndexByte.f k d.1.1 d.1.2.1 : Option strings_IndexByte.R), none, []⟩

/-! ### say_escape : function 77 -/
abbrev say_escape.R := (Int × Bool × Unit) × (Unit)
noncomputable def say_escape.f : Nat → ByteArray → Option say_escape.R
  | 0, _ => none
  | k + 1, x0 =>
    bif decide (((x0.size : Int) : Int) < 2) then
      some ((0, false, ()), (()))
    else
      (bto x0 0).bind fun t1 =>
      (strings_IndexByte.f k (⟨#[48, 49, 50, 51, 52, 53, 54, 55, 56, 57, 97, 98, 99, 100, 101, 102]⟩ : ByteArray) t1).bind fun r2 =>
      (bto x0 1).bind fun t3 =>
      (strings_IndexByte.f k (⟨#[48, 49, 50, 51, 52, 53, 54, 55, 56, 57, 97, 98, 99, 100, 101, 102]⟩ : ByteArray) t3).bind fun r4 =>
      (ck (!decide ((4 : Int) < 0))).bind fun _ =>
      bif decide ((r2.1.1 : Int) ≥ 0) then
        some ((IntKind.wrap .u8 (IntKind.wrap .i64 ((BitVec.ofInt (IntKind.bits .i64) (IntKind.wrap .i64 (r2.1.1 * 2 ^ (min (4 : Int).toNat (IntKind.bits .i64)))) ||| BitVec.ofInt (IntKind.bits .i64) r4.1.1).toNat : Int)), decide ((r4.1.1 : Int) ≥ 0), ()), (()))
      else
        some ((IntKind.wrap .u8 (IntKind.wrap .i64 ((BitVec.ofInt (IntKind.bits .i64) (IntKind.wrap .i64 (r2.1.1 * 2 ^ (min (4 : Int).toNat (IntKind.bits .i64)))) ||| BitVec.ofInt (IntKind.bits .i64) r4.1.1).toNat : Int)), false, ()), (()))
abbrev say_escape.ini : LSh := ⟨[(0, .val .str)], []⟩
abbrev say_escape.out : LSh := ⟨[(0, .val (.int .u8)), (1, .val .bool)], []⟩
noncomputable def say_escape.labF : Nat → List (LabF say_escape.out.den)
  | _ => []
noncomputable def say_escape.fd : FnD := ⟨Try.f77, say_escape.ini, say_escape.out, 2, [], [], say_escape.labF, fun k (d : (ByteArray × Unit) × (Unit)) => (say_escape.f k d.1.1 : Option say_escape.R), none, []⟩

/-! ### say_lexer_quote : function 64 -/
abbrev say_lexer_quote.R := (ByteArray × Bool × Unit) × ((ByteArray × Int × Unit) × Unit)
mutual
noncomputable def say_lexer_quote.l0 : Nat → ByteArray → Int → Option say_lexer_quote.R
  | 0, _, _ => none
  | k + 1, o0_0, o0_1 =>
    bif decide ((o0_1 : Int) < (o0_0.size : Int)) then
      (bto o0_0 o0_1).bind fun t1 =>
      bif (t1 : Int) == 34 then
        (strFresh.f k).bind fun r2 =>
        some ((r2.1.1, true, ()), ((o0_0, IntKind.wrap .i64 (o0_1 + 1), ()), ()))
      else
      bif (t1 : Int) == 92 then
        bif decide ((IntKind.wrap .i64 (o0_1 + 1) : Int) ≥ (o0_0.size : Int)) then
          some (((⟨#[]⟩ : ByteArray), false, ()), ((o0_0, o0_1, ()), ()))
        else
          (bto o0_0 (IntKind.wrap .i64 (o0_1 + 1))).bind fun t3 =>
          bif (t3 : Int) != 120 then
            some (((⟨#[]⟩ : ByteArray), false, ()), ((o0_0, o0_1, ()), ()))
          else
            (ck (decide (0 ≤ IntKind.wrap .i64 (o0_1 + 2)) && decide (IntKind.wrap .i64 (o0_1 + 2) ≤ (o0_0.size : Int)) && decide ((o0_0.size : Int) ≤ (o0_0.size : Int)))).bind fun _ =>
            (say_escape.f k (o0_0.extract (IntKind.wrap .i64 (o0_1 + 2) : Int).toNat (o0_0.size : Int).toNat)).bind fun r4 =>
            bif !r4.1.2.1 then
              some (((⟨#[]⟩ : ByteArray), false, ()), ((o0_0, o0_1, ()), ()))
            else
              (say_plain.f k r4.1.1).bind fun r5 =>
              bif r5.1.1 then
                some (((⟨#[]⟩ : ByteArray), false, ()), ((o0_0, o0_1, ()), ()))
              else
                (strings_Builder_WriteByte_v0.f k r4.1.1).bind fun r6 =>
                say_lexer_quote.l1 k o0_0 (IntKind.wrap .i64 (o0_1 + 4)) r6.2.1.2.1
      else
        (say_plain.f k t1).bind fun r7 =>
        bif !r7.1.1 then
          some (((⟨#[]⟩ : ByteArray), false, ()), ((o0_0, o0_1, ()), ()))
        else
          (strings_Builder_WriteByte_v0.f k t1).bind fun r8 =>
          say_lexer_quote.l1 k o0_0 (IntKind.wrap .i64 (o0_1 + 1)) r8.2.1.2.1
    else
      some (((⟨#[]⟩ : ByteArray), false, ()), ((o0_0, o0_1, ()), ()))
noncomputable def say_lexer_quote.l1 : Nat → ByteArray → Int → (List Int) → Option say_lexer_quote.R
  | 0, _, _, _ => none
  | k + 1, o0_0, o0_1, o1000000_1 =>
    bif decide ((o0_1 : Int) < (o0_0.size : Int)) then
      (bto o0_0 o0_1).bind fun t9 =>
      bif (t9 : Int) == 34 then
        (strUsed.f k o1000000_1).bind fun r10 =>
        some ((r10.1.1, true, ()), ((o0_0, IntKind.wrap .i64 (o0_1 + 1), ()), ()))
      else
      bif (t9 : Int) == 92 then
        bif decide ((IntKind.wrap .i64 (o0_1 + 1) : Int) ≥ (o0_0.size : Int)) then
          some (((⟨#[]⟩ : ByteArray), false, ()), ((o0_0, o0_1, ()), ()))
        else
          (bto o0_0 (IntKind.wrap .i64 (o0_1 + 1))).bind fun t11 =>
          bif (t11 : Int) != 120 then
            some (((⟨#[]⟩ : ByteArray), false, ()), ((o0_0, o0_1, ()), ()))
          else
            (ck (decide (0 ≤ IntKind.wrap .i64 (o0_1 + 2)) && decide (IntKind.wrap .i64 (o0_1 + 2) ≤ (o0_0.size : Int)) && decide ((o0_0.size : Int) ≤ (o0_0.size : Int)))).bind fun _ =>
            (say_escape.f k (o0_0.extract (IntKind.wrap .i64 (o0_1 + 2) : Int).toNat (o0_0.size : Int).toNat)).bind fun r12 =>
            bif !r12.1.2.1 then
              some (((⟨#[]⟩ : ByteArray), false, ()), ((o0_0, o0_1, ()), ()))
            else
              (say_plain.f k r12.1.1).bind fun r13 =>
              bif r13.1.1 then
                some (((⟨#[]⟩ : ByteArray), false, ()), ((o0_0, o0_1, ()), ()))
              else
                (strings_Builder_WriteByte_v1.f k r12.1.1 o1000000_1).bind fun r14 =>
                say_lexer_quote.l1 k o0_0 (IntKind.wrap .i64 (o0_1 + 4)) r14.2.1.2.1
      else
        (say_plain.f k t9).bind fun r15 =>
        bif !r15.1.1 then
          some (((⟨#[]⟩ : ByteArray), false, ()), ((o0_0, o0_1, ()), ()))
        else
          (strings_Builder_WriteByte_v1.f k t9 o1000000_1).bind fun r16 =>
          say_lexer_quote.l1 k o0_0 (IntKind.wrap .i64 (o0_1 + 1)) r16.2.1.2.1
    else
      some (((⟨#[]⟩ : ByteArray), false, ()), ((o0_0, o0_1, ()), ()))
noncomputable def say_lexer_quote.f : Nat → ByteArray → Int → Option say_lexer_quote.R
  | 0, _, _ => none
  | k + 1, o0_0, o0_1 =>
    say_lexer_quote.l0 k o0_0 (IntKind.wrap .i64 (o0_1 + 1))
end
abbrev say_lexer_quote.ini : LSh := ⟨[(0, .ptr 1000000 0)], [(1000000, 89, [.val .str, .val (.int .i64)])]⟩
abbrev say_lexer_quote.out : LSh := ⟨[(0, .val .str), (1, .val .bool)], [(1000000, 89, [.val .str, .val (.int .i64)])]⟩
abbrev say_lexer_quote.l0s : LSh := ⟨[(0, .ptr 1000000 0), (4, .ptr 6000000 0)], [(1000000, 89, [.val .str, .val (.int .i64)]), (6000000, 76, [.nilp, .nils])]⟩
abbrev say_lexer_quote.l1s : LSh := ⟨[(0, .ptr 1000000 0), (4, .ptr 6000000 0)], [(1000000, 89, [.val .str, .val (.int .i64)]), (6000000, 76, [.ptr 6000000 0, .own 3700101 5 (.int .u8)])]⟩
noncomputable def say_lexer_quote.labF : Nat → List (LabF say_lexer_quote.out.den)
  | 6 => [⟨say_lexer_quote.l0s, fun k (d : (Unit × Unit × Unit) × ((ByteArray × Int × Unit) × (Unit × Unit × Unit) × Unit)) => (say_lexer_quote.l0 k d.2.1.1 d.2.1.2.1 : Option say_lexer_quote.R)⟩, ⟨say_lexer_quote.l1s, fun k (d : (Unit × Unit × Unit) × ((ByteArray × Int × Unit) × (Unit × List Int × Unit) × Unit)) => (say_lexer_quote.l1 k d.2.1.1 d.2.1.2.1 d.2.2.1.2.1 : Option say_lexer_quote.R)⟩]
  | _ => []
noncomputable def say_lexer_quote.fd : FnD := ⟨Try.f64, say_lexer_quote.ini, say_lexer_quote.out, 2, [1000000], [], say_lexer_quote.labF, fun k (d : (Unit × Unit) × ((ByteArray × Int × Unit) × Unit)) => (say_lexer_quote.f k d.2.1.1 d.2.1.2.1 : Option say_lexer_quote.R), none, [(88888888, 0, 0)]⟩

/-! ### say_lexer_next : function 45 -/
abbrev say_lexer_next.R := ((Int × ByteArray × Int × Unit) × Bool × Int × Unit) × ((ByteArray × Int × Unit) × Unit)
noncomputable def say_lexer_next.f : Nat → ByteArray → Int → Option say_lexer_next.R
  | 0, _, _ => none
  | k + 1, o0_0, o0_1 =>
    (say_lexer_blanks.f k o0_0 o0_1).bind fun r1 =>
    bif (r1.2.1.2.1 : Int) == (r1.2.1.1.size : Int) then
      some (((0, (ByteArray.empty, (0, ()))), false, 0, ()), ((r1.2.1.1, r1.2.1.2.1, ()), ()))
    else
      (bto r1.2.1.1 r1.2.1.2.1).bind fun t2 =>
      (say_letter.f k t2).bind fun r3 =>
      bif r3.1.1 then
        (say_lexer_run_v1.f k r1.2.1.1 r1.2.1.2.1).bind fun r4 =>
        some (((0, (r4.1.1, r1.2.1.2)), true, 0, ()), ((r4.2.1.1, r4.2.1.2.1, ()), ()))
      else
        (say_digit.f k t2).bind fun r5 =>
        bif r5.1.1 then
          (ck (decide (0 ≤ IntKind.wrap .i64 ((IntKind.wrap .i64 (r1.2.1.2.1 + 1)) - 1)) && decide (IntKind.wrap .i64 ((IntKind.wrap .i64 (r1.2.1.2.1 + 1)) - 1) ≤ IntKind.wrap .i64 (r1.2.1.2.1 + 1)) && decide (IntKind.wrap .i64 (r1.2.1.2.1 + 1) ≤ (r1.2.1.1.size : Int)))).bind fun _ =>
          (say_lexer_run_v2.f k r1.2.1.1 (IntKind.wrap .i64 (r1.2.1.2.1 + 1))).bind fun r6 =>
          (ck (decide ((r1.2.1.1.extract (IntKind.wrap .i64 ((IntKind.wrap .i64 (r1.2.1.2.1 + 1)) - 1) : Int).toNat (IntKind.wrap .i64 (r1.2.1.2.1 + 1) : Int).toNat).size + r6.1.1.size ≤ 9223372036854775807))).bind fun _ =>
          bif ((r1.2.1.1.extract (IntKind.wrap .i64 ((IntKind.wrap .i64 (r1.2.1.2.1 + 1)) - 1) : Int).toNat (IntKind.wrap .i64 (r1.2.1.2.1 + 1) : Int).toNat) ++ r6.1.1).toList == (⟨#[45]⟩ : ByteArray).toList then
            some (((0, (ByteArray.empty, r1.2.1.2)), false, 4, ()), ((r6.2.1.1, r6.2.1.2.1, ()), ()))
          else
            some (((1, ((r1.2.1.1.extract (IntKind.wrap .i64 ((IntKind.wrap .i64 (r1.2.1.2.1 + 1)) - 1) : Int).toNat (IntKind.wrap .i64 (r1.2.1.2.1 + 1) : Int).toNat) ++ r6.1.1, r1.2.1.2)), true, 0, ()), ((r6.2.1.1, r6.2.1.2.1, ()), ()))
        else
        bif (t2 : Int) == 45 then
          (ck (decide (0 ≤ IntKind.wrap .i64 ((IntKind.wrap .i64 (r1.2.1.2.1 + 1)) - 1)) && decide (IntKind.wrap .i64 ((IntKind.wrap .i64 (r1.2.1.2.1 + 1)) - 1) ≤ IntKind.wrap .i64 (r1.2.1.2.1 + 1)) && decide (IntKind.wrap .i64 (r1.2.1.2.1 + 1) ≤ (r1.2.1.1.size : Int)))).bind fun _ =>
          (say_lexer_run_v2.f k r1.2.1.1 (IntKind.wrap .i64 (r1.2.1.2.1 + 1))).bind fun r7 =>
          (ck (decide ((r1.2.1.1.extract (IntKind.wrap .i64 ((IntKind.wrap .i64 (r1.2.1.2.1 + 1)) - 1) : Int).toNat (IntKind.wrap .i64 (r1.2.1.2.1 + 1) : Int).toNat).size + r7.1.1.size ≤ 9223372036854775807))).bind fun _ =>
          bif ((r1.2.1.1.extract (IntKind.wrap .i64 ((IntKind.wrap .i64 (r1.2.1.2.1 + 1)) - 1) : Int).toNat (IntKind.wrap .i64 (r1.2.1.2.1 + 1) : Int).toNat) ++ r7.1.1).toList == (⟨#[45]⟩ : ByteArray).toList then
            some (((0, (ByteArray.empty, r1.2.1.2)), false, 4, ()), ((r7.2.1.1, r7.2.1.2.1, ()), ()))
          else
            some (((1, ((r1.2.1.1.extract (IntKind.wrap .i64 ((IntKind.wrap .i64 (r1.2.1.2.1 + 1)) - 1) : Int).toNat (IntKind.wrap .i64 (r1.2.1.2.1 + 1) : Int).toNat) ++ r7.1.1, r1.2.1.2)), true, 0, ()), ((r7.2.1.1, r7.2.1.2.1, ()), ()))
        else
        bif (t2 : Int) == 34 then
          (say_lexer_quote.f k r1.2.1.1 r1.2.1.2.1).bind fun r8 =>
          bif !r8.1.2.1 then
            some (((0, (ByteArray.empty, r1.2.1.2)), false, 4, ()), ((r8.2.1.1, r8.2.1.2.1, ()), ()))
          else
            some (((2, (r8.1.1, r1.2.1.2)), true, 0, ()), ((r8.2.1.1, r8.2.1.2.1, ()), ()))
        else
          (strings_IndexByte.f k (⟨#[61, 44, 40, 41, 91, 93, 59]⟩ : ByteArray) t2).bind fun r9 =>
          bif decide ((r9.1.1 : Int) ≥ 0) then
            (ck (decide (0 ≤ IntKind.wrap .i64 ((IntKind.wrap .i64 (r1.2.1.2.1 + 1)) - 1)) && decide (IntKind.wrap .i64 ((IntKind.wrap .i64 (r1.2.1.2.1 + 1)) - 1) ≤ IntKind.wrap .i64 (r1.2.1.2.1 + 1)) && decide (IntKind.wrap .i64 (r1.2.1.2.1 + 1) ≤ (r1.2.1.1.size : Int)))).bind fun _ =>
            some (((3, (r1.2.1.1.extract (IntKind.wrap .i64 ((IntKind.wrap .i64 (r1.2.1.2.1 + 1)) - 1) : Int).toNat (IntKind.wrap .i64 (r1.2.1.2.1 + 1) : Int).toNat, r1.2.1.2)), true, 0, ()), ((r1.2.1.1, IntKind.wrap .i64 (r1.2.1.2.1 + 1), ()), ()))
          else
            some (((0, (ByteArray.empty, r1.2.1.2)), false, 4, ()), ((r1.2.1.1, r1.2.1.2.1, ()), ()))
abbrev say_lexer_next.ini : LSh := ⟨[(0, .ptr 1000000 0)], [(1000000, 89, [.val .str, .val (.int .i64)])]⟩
abbrev say_lexer_next.out : LSh := ⟨[(0, .val (.cons (.int .i64) (.cons .str (.cons (.int .i64) .nil)))), (1, .val .bool), (2, .val (.int .i64))], [(1000000, 89, [.val .str, .val (.int .i64)])]⟩
noncomputable def say_lexer_next.labF : Nat → List (LabF say_lexer_next.out.den)
  | _ => []
noncomputable def say_lexer_next.fd : FnD := ⟨Try.f45, say_lexer_next.ini, say_lexer_next.out, 3, [1000000], [], say_lexer_next.labF, fun k (d : (Unit × Unit) × ((ByteArray × Int × Unit) × Unit)) => (say_lexer_next.f k d.2.1.1 d.2.1.2.1 : Option say_lexer_next.R), none, []⟩

/-! ### say_Tokens : function 24 -/
abbrev say_Tokens.R := ((List (Int × ByteArray × Int × Unit)) × Int × Int × Unit) × (Unit)
mutual
noncomputable def say_Tokens.l0 : Nat → (List (Int × ByteArray × Int × Unit)) → ByteArray → Int → Option say_Tokens.R
  | 0, _, _, _ => none
  | k + 1, x6, o15_0, o15_1 =>
    (say_lexer_next.f k o15_0 o15_1).bind fun r1 =>
    bif (r1.1.2.2.1 : Int) != 0 then
      some ((([] : List (Int × ByteArray × Int × Unit)), r1.1.1.2.2.1, r1.1.2.2.1, ()), (()))
    else
    bif !r1.1.2.1 then
      some ((x6, 0, 0, ()), (()))
    else
      (ck (decide ((x6.length + ([r1.1.1] : List (Int × ByteArray × Int × Unit)).length) * 32 ≤ 70368744177664))).bind fun _ =>
      say_Tokens.l0 k (x6 ++ ([r1.1.1] : List (Int × ByteArray × Int × Unit))) r1.2.1.1 r1.2.1.2.1
noncomputable def say_Tokens.f : Nat → ByteArray → Option say_Tokens.R
  | 0, _ => none
  | k + 1, x0 =>
    bif decide (((x0.size : Int) : Int) > 65536) then
      some ((([] : List (Int × ByteArray × Int × Unit)), 0, 3, ()), (()))
    else
      say_Tokens.l0 k [] x0 0
end
abbrev say_Tokens.ini : LSh := ⟨[(0, .val .str)], []⟩
abbrev say_Tokens.out : LSh := ⟨[(0, .val Ac7), (1, .val (.int .i64)), (2, .val (.int .i64))], []⟩
abbrev say_Tokens.l0s : LSh := ⟨[(5, .ptr 15 0), (6, .own 2000006 91 (.cons (.int .i64) (.cons .str (.cons (.int .i64) .nil))))], [(15, 89, [.val .str, .val (.int .i64)])]⟩
noncomputable def say_Tokens.labF : Nat → List (LabF say_Tokens.out.den)
  | 10 => [⟨say_Tokens.l0s, fun k (d : (Unit × (List (Int × ByteArray × Int × Unit)) × Unit) × ((ByteArray × Int × Unit) × Unit)) => (say_Tokens.l0 k d.1.2.1 d.2.1.1 d.2.1.2.1 : Option say_Tokens.R)⟩]
  | _ => []
noncomputable def say_Tokens.fd : FnD := ⟨Try.f24, say_Tokens.ini, say_Tokens.out, 3, [], [], say_Tokens.labF, fun k (d : (ByteArray × Unit) × (Unit)) => (say_Tokens.f k d.1.1 : Option say_Tokens.R), none, []⟩

/-! ### ask_asker_word : function 25 -/
abbrev ask_asker_word.R := (Bool × Unit) × (Ab6 × Unit)
mutual
noncomputable def ask_asker_word.j0 : Nat → (List (Int × ByteArray × Int × Unit)) → Int → Int → Int → Option ask_asker_word.R
  | 0, _, _, _, _ => none
  | k + 1, o0_0, o0_1, o0_2, o0_3 =>
    some ((true, ()), ((o0_0, IntKind.wrap .i64 (o0_1 + 1), o0_2, o0_3, ()), ()))
noncomputable def ask_asker_word.f : Nat → ByteArray → (List (Int × ByteArray × Int × Unit)) → Int → Int → Int → Option ask_asker_word.R
  | 0, _, _, _, _, _ => none
  | k + 1, x1, o0_0, o0_1, o0_2, o0_3 =>
    bif decide ((o0_3 : Int) ≥ 0) then
      some ((false, ()), ((o0_0, o0_1, o0_2, o0_3, ()), ()))
    else
    bif decide ((o0_1 : Int) ≥ (o0_0.length : Int)) then
      some ((false, ()), ((o0_0, o0_1, o0_2, o0_3, ()), ()))
    else
      (rdo o0_0 o0_1).bind fun t1 =>
      bif (t1.1 : Int) != 0 then
        some ((false, ()), ((o0_0, o0_1, o0_2, o0_3, ()), ()))
      else
        (rdo o0_0 o0_1).bind fun t2 =>
        bif !(t2.2.1.toList == x1.toList) then
          some ((false, ()), ((o0_0, o0_1, o0_2, o0_3, ()), ()))
        else
          ask_asker_word.j0 k o0_0 o0_1 o0_2 o0_3
end
abbrev ask_asker_word.ini : LSh := ⟨[(0, .ptr 1000000 0), (1, .val .str)], [(1000000, 62, [.val Ac7, .val (.int .i64), .val (.int .i64), .val (.int .i64)])]⟩
abbrev ask_asker_word.out : LSh := ⟨[(0, .val .bool)], [(1000000, 62, [.val Ac7, .val (.int .i64), .val (.int .i64), .val (.int .i64)])]⟩
abbrev ask_asker_word.j0s : LSh := ⟨[(0, .ptr 1000000 0)], [(1000000, 62, [.val Ac7, .val (.int .i64), .val (.int .i64), .val (.int .i64)])]⟩
noncomputable def ask_asker_word.labF : Nat → List (LabF ask_asker_word.out.den)
  | 7 => [⟨ask_asker_word.j0s, fun k (d : (Unit × Unit) × (Ab6 × Unit)) => (ask_asker_word.j0 k d.2.1.1 d.2.1.2.1 d.2.1.2.2.1 d.2.1.2.2.2.1 : Option ask_asker_word.R)⟩]
  | _ => []
noncomputable def ask_asker_word.fd : FnD := ⟨Try.f25, ask_asker_word.ini, ask_asker_word.out, 1, [1000000], [], ask_asker_word.labF, fun k (d : (Unit × ByteArray × Unit) × (Ab6 × Unit)) => (ask_asker_word.f k d.1.2.1 d.2.1.1 d.2.1.2.1 d.2.1.2.2.1 d.2.1.2.2.2.1 : Option ask_asker_word.R), none, []⟩

/-! ### ask_asker_fail : function 28 -/
abbrev ask_asker_fail.R := (Unit) × (Ab6 × Unit)
noncomputable def ask_asker_fail.f : Nat → (List (Int × ByteArray × Int × Unit)) → Int → Int → Int → Option ask_asker_fail.R
  | 0, _, _, _, _ => none
  | k + 1, o0_0, o0_1, o0_2, o0_3 =>
    bif decide ((o0_3 : Int) ≥ 0) then
      some ((()), ((o0_0, o0_1, o0_2, o0_3, ()), ()))
    else
    bif decide ((o0_1 : Int) < (o0_0.length : Int)) then
      (rdo o0_0 o0_1).bind fun t1 =>
      some ((()), ((o0_0, o0_1, o0_2, t1.2.2.1, ()), ()))
    else
      some ((()), ((o0_0, o0_1, o0_2, o0_2, ()), ()))
abbrev ask_asker_fail.ini : LSh := ⟨[(0, .ptr 1000000 0)], [(1000000, 62, [.val Ac7, .val (.int .i64), .val (.int .i64), .val (.int .i64)])]⟩
abbrev ask_asker_fail.out : LSh := ⟨[], [(1000000, 62, [.val Ac7, .val (.int .i64), .val (.int .i64), .val (.int .i64)])]⟩
noncomputable def ask_asker_fail.labF : Nat → List (LabF ask_asker_fail.out.den)
  | _ => []
noncomputable def ask_asker_fail.fd : FnD := ⟨Try.f28, ask_asker_fail.ini, ask_asker_fail.out, 0, [1000000], [], ask_asker_fail.labF, fun k (d : (Unit × Unit) × (Ab6 × Unit)) => (ask_asker_fail.f k d.2.1.1 d.2.1.2.1 d.2.1.2.2.1 d.2.1.2.2.2.1 : Option ask_asker_fail.R), none, []⟩

/-! ### ask_asker_name : function 27 -/
abbrev ask_asker_name.R := (ByteArray × Unit) × (Ab6 × Unit)
mutual
noncomputable def ask_asker_name.j0 : Nat → (List (Int × ByteArray × Int × Unit)) → Int → Int → Int → Option ask_asker_name.R
  | 0, _, _, _, _ => none
  | k + 1, o0_0, o0_1, o0_2, o0_3 =>
    (rdo o0_0 (IntKind.wrap .i64 ((IntKind.wrap .i64 (o0_1 + 1)) - 1))).bind fun t5 =>
    some ((t5.2.1, ()), ((o0_0, IntKind.wrap .i64 (o0_1 + 1), o0_2, o0_3, ()), ()))
noncomputable def ask_asker_name.f : Nat → (List (Int × ByteArray × Int × Unit)) → Int → Int → Int → Option ask_asker_name.R
  | 0, _, _, _, _ => none
  | k + 1, o0_0, o0_1, o0_2, o0_3 =>
    bif decide ((o0_3 : Int) ≥ 0) then
      (ask_asker_fail.f k o0_0 o0_1 o0_2 o0_3).bind fun r1 =>
      some (((⟨#[]⟩ : ByteArray), ()), ((r1.2.1.1, r1.2.1.2.1, r1.2.1.2.2.1, r1.2.1.2.2.2.1, ()), ()))
    else
    bif decide ((o0_1 : Int) ≥ (o0_0.length : Int)) then
      (ask_asker_fail.f k o0_0 o0_1 o0_2 o0_3).bind fun r2 =>
      some (((⟨#[]⟩ : ByteArray), ()), ((r2.2.1.1, r2.2.1.2.1, r2.2.1.2.2.1, r2.2.1.2.2.2.1, ()), ()))
    else
      (rdo o0_0 o0_1).bind fun t3 =>
      bif (t3.1 : Int) != 2 then
        (ask_asker_fail.f k o0_0 o0_1 o0_2 o0_3).bind fun r4 =>
        some (((⟨#[]⟩ : ByteArray), ()), ((r4.2.1.1, r4.2.1.2.1, r4.2.1.2.2.1, r4.2.1.2.2.2.1, ()), ()))
      else
        ask_asker_name.j0 k o0_0 o0_1 o0_2 o0_3
end
abbrev ask_asker_name.ini : LSh := ⟨[(0, .ptr 1000000 0)], [(1000000, 62, [.val Ac7, .val (.int .i64), .val (.int .i64), .val (.int .i64)])]⟩
abbrev ask_asker_name.out : LSh := ⟨[(0, .val .str)], [(1000000, 62, [.val Ac7, .val (.int .i64), .val (.int .i64), .val (.int .i64)])]⟩
abbrev ask_asker_name.j0s : LSh := ⟨[(0, .ptr 1000000 0)], [(1000000, 62, [.val Ac7, .val (.int .i64), .val (.int .i64), .val (.int .i64)])]⟩
noncomputable def ask_asker_name.labF : Nat → List (LabF ask_asker_name.out.den)
  | 9 => [⟨ask_asker_name.j0s, fun k (d : (Unit × Unit) × (Ab6 × Unit)) => (ask_asker_name.j0 k d.2.1.1 d.2.1.2.1 d.2.1.2.2.1 d.2.1.2.2.2.1 : Option ask_asker_name.R)⟩]
  | _ => []
noncomputable def ask_asker_name.fd : FnD := ⟨Try.f27, ask_asker_name.ini, ask_asker_name.out, 1, [1000000], [], ask_asker_name.labF, fun k (d : (Unit × Unit) × (Ab6 × Unit)) => (ask_asker_name.f k d.2.1.1 d.2.1.2.1 d.2.1.2.2.1 d.2.1.2.2.2.1 : Option ask_asker_name.R), none, []⟩

/-! ### say_parser_here : function 88 -/
abbrev say_parser_here.R := (Int × Unit) × (Unit)
noncomputable def say_parser_here.f : Nat → (List (Int × ByteArray × Int × Unit)) → Int → Int → Int → Option say_parser_here.R
  | 0, _, _, _, _ => none
  | k + 1, o0_0, o0_1, o0_2, o0_3 =>
    bif decide ((o0_1 : Int) < (o0_0.length : Int)) then
      (rdo o0_0 o0_1).bind fun t1 =>
      some ((t1.2.2.1, ()), (()))
    else
      some ((o0_2, ()), (()))
abbrev say_parser_here.ini : LSh := ⟨[(0, .ptr 1000000 0)], [(1000000, 124, [.val Ac7, .val (.int .i64), .val (.int .i64), .val (.int .i64)])]⟩
abbrev say_parser_here.out : LSh := ⟨[(0, .val (.int .i64))], []⟩
noncomputable def say_parser_here.labF : Nat → List (LabF say_parser_here.out.den)
  | _ => []
noncomputable def say_parser_here.fd : FnD := ⟨Try.f88, say_parser_here.ini, say_parser_here.out, 1, [1000000], [1000000], say_parser_here.labF, fun k (d : (Unit × Unit) × (Ab6 × Unit)) => (say_parser_here.f k d.2.1.1 d.2.1.2.1 d.2.1.2.2.1 d.2.1.2.2.2.1 : Option say_parser_here.R), none, []⟩

/-! ### say_parser_fail : function 83 -/
abbrev say_parser_fail.R := (Unit) × (Ab6 × Unit)
noncomputable def say_parser_fail.f : Nat → (List (Int × ByteArray × Int × Unit)) → Int → Int → Int → Option say_parser_fail.R
  | 0, _, _, _, _ => none
  | k + 1, o0_0, o0_1, o0_2, o0_3 =>
    bif decide ((o0_3 : Int) < 0) then
      (say_parser_here.f k o0_0 o0_1 o0_2 o0_3).bind fun r1 =>
      some ((()), ((o0_0, o0_1, o0_2, r1.1.1, ()), ()))
    else
      some ((()), ((o0_0, o0_1, o0_2, o0_3, ()), ()))
abbrev say_parser_fail.ini : LSh := ⟨[(0, .ptr 1000000 0)], [(1000000, 124, [.val Ac7, .val (.int .i64), .val (.int .i64), .val (.int .i64)])]⟩
abbrev say_parser_fail.out : LSh := ⟨[], [(1000000, 124, [.val Ac7, .val (.int .i64), .val (.int .i64), .val (.int .i64)])]⟩
noncomputable def say_parser_fail.labF : Nat → List (LabF say_parser_fail.out.den)
  | _ => []
noncomputable def say_parser_fail.fd : FnD := ⟨Try.f83, say_parser_fail.ini, say_parser_fail.out, 0, [1000000], [], say_parser_fail.labF, fun k (d : (Unit × Unit) × (Ab6 × Unit)) => (say_parser_fail.f k d.2.1.1 d.2.1.2.1 d.2.1.2.2.1 d.2.1.2.2.2.1 : Option say_parser_fail.R), none, []⟩

/-! ### say_parser_take : function 89 -/
abbrev say_parser_take.R := (ByteArray × Unit) × (Ab6 × Unit)
mutual
noncomputable def say_parser_take.j0 : Nat → (List (Int × ByteArray × Int × Unit)) → Int → Int → Int → Option say_parser_take.R
  | 0, _, _, _, _ => none
  | k + 1, o0_0, o0_1, o0_2, o0_3 =>
    (rdo o0_0 (IntKind.wrap .i64 ((IntKind.wrap .i64 (o0_1 + 1)) - 1))).bind fun t4 =>
    some ((t4.2.1, ()), ((o0_0, IntKind.wrap .i64 (o0_1 + 1), o0_2, o0_3, ()), ()))
noncomputable def say_parser_take.f : Nat → Int → (List (Int × ByteArray × Int × Unit)) → Int → Int → Int → Option say_parser_take.R
  | 0, _, _, _, _, _ => none
  | k + 1, x1, o0_0, o0_1, o0_2, o0_3 =>
    bif decide ((o0_3 : Int) ≥ 0) then
      some (((⟨#[]⟩ : ByteArray), ()), ((o0_0, o0_1, o0_2, o0_3, ()), ()))
    else
    bif decide ((o0_1 : Int) ≥ (o0_0.length : Int)) then
      (say_parser_fail.f k o0_0 o0_1 o0_2 o0_3).bind fun r1 =>
      some (((⟨#[]⟩ : ByteArray), ()), ((r1.2.1.1, r1.2.1.2.1, r1.2.1.2.2.1, r1.2.1.2.2.2.1, ()), ()))
    else
      (rdo o0_0 o0_1).bind fun t2 =>
      bif (t2.1 : Int) != x1 then
        (say_parser_fail.f k o0_0 o0_1 o0_2 o0_3).bind fun r3 =>
        some (((⟨#[]⟩ : ByteArray), ()), ((r3.2.1.1, r3.2.1.2.1, r3.2.1.2.2.1, r3.2.1.2.2.2.1, ()), ()))
      else
        say_parser_take.j0 k o0_0 o0_1 o0_2 o0_3
end
abbrev say_parser_take.ini : LSh := ⟨[(0, .ptr 1000000 0), (1, .val (.int .i64))], [(1000000, 124, [.val Ac7, .val (.int .i64), .val (.int .i64), .val (.int .i64)])]⟩
abbrev say_parser_take.out : LSh := ⟨[(0, .val .str)], [(1000000, 124, [.val Ac7, .val (.int .i64), .val (.int .i64), .val (.int .i64)])]⟩
abbrev say_parser_take.j0s : LSh := ⟨[(0, .ptr 1000000 0)], [(1000000, 124, [.val Ac7, .val (.int .i64), .val (.int .i64), .val (.int .i64)])]⟩
noncomputable def say_parser_take.labF : Nat → List (LabF say_parser_take.out.den)
  | 13 => [⟨say_parser_take.j0s, fun k (d : (Unit × Unit) × (Ab6 × Unit)) => (say_parser_take.j0 k d.2.1.1 d.2.1.2.1 d.2.1.2.2.1 d.2.1.2.2.2.1 : Option say_parser_take.R)⟩]
  | _ => []
noncomputable def say_parser_take.fd : FnD := ⟨Try.f89, say_parser_take.ini, say_parser_take.out, 1, [1000000], [], say_parser_take.labF, fun k (d : (Unit × Int × Unit) × (Ab6 × Unit)) => (say_parser_take.f k d.1.2.1 d.2.1.1 d.2.1.2.1 d.2.1.2.2.1 d.2.1.2.2.2.1 : Option say_parser_take.R), none, []⟩

/-! ### say_digits : function 90 -/
abbrev say_digits.R := (Int × Bool × Unit) × (Unit)
mutual
noncomputable def say_digits.j0 : Nat → ByteArray → Option say_digits.R
  | 0, _ => none
  | k + 1, x0 =>
    say_digits.l0 k 0 (bytesOf x0) ((bytesOf x0).length : Int) 0
noncomputable def say_digits.l0 : Nat → Int → (List Int) → Int → Int → Option say_digits.R
  | 0, _, _, _, _ => none
  | k + 1, x4, x26, x27, x28 =>
    bif decide ((x28 : Int) < x27) then
      (rdo x26 x28).bind fun t2 =>
      (ck (!decide ((10 : Int) = 0))).bind fun _ =>
      bif decide ((x4 : Int) > IntKind.wrap .u64 (Int.tdiv (IntKind.wrap .u64 (18446744073709551615 - (IntKind.wrap .u64 (IntKind.wrap .u8 (t2 - 48))))) 10)) then
        some ((0, false, ()), (()))
      else
        say_digits.l0 k (IntKind.wrap .u64 ((IntKind.wrap .u64 (10 * x4)) + (IntKind.wrap .u64 (IntKind.wrap .u8 (t2 - 48))))) x26 x27 (IntKind.wrap .i64 (x28 + 1))
    else
      some ((x4, true, ()), (()))
noncomputable def say_digits.f : Nat → ByteArray → Option say_digits.R
  | 0, _ => none
  | k + 1, x0 =>
    bif x0.toList == (⟨#[]⟩ : ByteArray).toList then
      some ((0, false, ()), (()))
    else
    bif decide (((x0.size : Int) : Int) > 1) then
      (bto x0 0).bind fun t1 =>
      bif (t1 : Int) == 48 then
        some ((0, false, ()), (()))
      else
      bif decide (((x0.size : Int) : Int) > 20) then
        some ((0, false, ()), (()))
      else
        say_digits.j0 k x0
    else
    bif decide (((x0.size : Int) : Int) > 20) then
      some ((0, false, ()), (()))
    else
      say_digits.j0 k x0
end
abbrev say_digits.ini : LSh := ⟨[(0, .val .str)], []⟩
abbrev say_digits.out : LSh := ⟨[(0, .val (.int .u64)), (1, .val .bool)], []⟩
abbrev say_digits.j0s : LSh := ⟨[(0, .val .str)], []⟩
abbrev say_digits.l0s : LSh := ⟨[(4, .val (.int .u64)), (26, .own 2000026 5 (.int .u8)), (27, .val (.int .i64)), (28, .val (.int .i64))], []⟩
noncomputable def say_digits.labF : Nat → List (LabF say_digits.out.den)
  | 7 => [⟨say_digits.j0s, fun k (d : (ByteArray × Unit) × (Unit)) => (say_digits.j0 k d.1.1 : Option say_digits.R)⟩]
  | 10 => [⟨say_digits.l0s, fun k (d : (Int × List Int × Int × Int × Unit) × (Unit)) => (say_digits.l0 k d.1.1 d.1.2.1 d.1.2.2.1 d.1.2.2.2.1 : Option say_digits.R)⟩]
  | _ => []
noncomputable def say_digits.fd : FnD := ⟨Try.f90, say_digits.ini, say_digits.out, 2, [], [], say_digits.labF, fun k (d : (ByteArray × Unit) × (Unit)) => (say_digits.f k d.1.1 : Option say_digits.R), none, []⟩

/-! ### say_parser_number : function 84 -/
abbrev say_parser_number.R := (Int × Unit) × (Ab6 × Unit)
mutual
noncomputable def say_parser_number.j0 : Nat → Int → ByteArray → Bool → (List (Int × ByteArray × Int × Unit)) → Int → Int → Int → Option say_parser_number.R
  | 0, _, _, _, _, _, _, _ => none
  | k + 1, x3, x4, x5, o0_0, o0_1, o0_2, o0_3 =>
    (say_digits.f k x4).bind fun r3 =>
    bif !r3.1.2.1 then
      (say_parser_fail.f k o0_0 x3 o0_2 o0_3).bind fun r4 =>
      some ((0, ()), ((r4.2.1.1, r4.2.1.2.1, r4.2.1.2.2.1, r4.2.1.2.2.2.1, ()), ()))
    else
    bif !x5 then
      bif decide ((r3.1.1 : Int) ≥ 9223372036854775808) then
        (say_parser_fail.f k o0_0 x3 o0_2 o0_3).bind fun r5 =>
        some ((0, ()), ((r5.2.1.1, r5.2.1.2.1, r5.2.1.2.2.1, r5.2.1.2.2.2.1, ()), ()))
      else
      bif x5 then
        bif (r3.1.1 : Int) == 0 then
          (say_parser_fail.f k o0_0 x3 o0_2 o0_3).bind fun r6 =>
          some ((0, ()), ((r6.2.1.1, r6.2.1.2.1, r6.2.1.2.2.1, r6.2.1.2.2.2.1, ()), ()))
        else
        bif decide ((r3.1.1 : Int) > 9223372036854775808) then
          (say_parser_fail.f k o0_0 x3 o0_2 o0_3).bind fun r7 =>
          some ((0, ()), ((r7.2.1.1, r7.2.1.2.1, r7.2.1.2.2.1, r7.2.1.2.2.2.1, ()), ()))
        else
        bif x5 then
          some ((IntKind.wrap .i64 (IntKind.wrap .u64 (0 - r3.1.1)), ()), ((o0_0, o0_1, o0_2, o0_3, ()), ()))
        else
          some ((IntKind.wrap .i64 r3.1.1, ()), ((o0_0, o0_1, o0_2, o0_3, ()), ()))
      else
      bif x5 then
        some ((IntKind.wrap .i64 (IntKind.wrap .u64 (0 - r3.1.1)), ()), ((o0_0, o0_1, o0_2, o0_3, ()), ()))
      else
        some ((IntKind.wrap .i64 r3.1.1, ()), ((o0_0, o0_1, o0_2, o0_3, ()), ()))
    else
    bif x5 then
      bif (r3.1.1 : Int) == 0 then
        (say_parser_fail.f k o0_0 x3 o0_2 o0_3).bind fun r8 =>
        some ((0, ()), ((r8.2.1.1, r8.2.1.2.1, r8.2.1.2.2.1, r8.2.1.2.2.2.1, ()), ()))
      else
      bif decide ((r3.1.1 : Int) > 9223372036854775808) then
        (say_parser_fail.f k o0_0 x3 o0_2 o0_3).bind fun r9 =>
        some ((0, ()), ((r9.2.1.1, r9.2.1.2.1, r9.2.1.2.2.1, r9.2.1.2.2.2.1, ()), ()))
      else
      bif x5 then
        some ((IntKind.wrap .i64 (IntKind.wrap .u64 (0 - r3.1.1)), ()), ((o0_0, o0_1, o0_2, o0_3, ()), ()))
      else
        some ((IntKind.wrap .i64 r3.1.1, ()), ((o0_0, o0_1, o0_2, o0_3, ()), ()))
    else
    bif x5 then
      some ((IntKind.wrap .i64 (IntKind.wrap .u64 (0 - r3.1.1)), ()), ((o0_0, o0_1, o0_2, o0_3, ()), ()))
    else
      some ((IntKind.wrap .i64 r3.1.1, ()), ((o0_0, o0_1, o0_2, o0_3, ()), ()))
noncomputable def say_parser_number.f : Nat → (List (Int × ByteArray × Int × Unit)) → Int → Int → Int → Option say_parser_number.R
  | 0, _, _, _, _ => none
  | k + 1, o0_0, o0_1, o0_2, o0_3 =>
    (say_parser_take.f k 1 o0_0 o0_1 o0_2 o0_3).bind fun r1 =>
    bif decide ((r1.2.1.2.2.2.1 : Int) ≥ 0) then
      some ((0, ()), ((r1.2.1.1, r1.2.1.2.1, r1.2.1.2.2.1, r1.2.1.2.2.2.1, ()), ()))
    else
      (bto r1.1.1 0).bind fun t2 =>
      bif (t2 : Int) == 45 then
        (ck (decide (0 ≤ 1) && decide (1 ≤ (r1.1.1.size : Int)) && decide ((r1.1.1.size : Int) ≤ (r1.1.1.size : Int)))).bind fun _ =>
        say_parser_number.j0 k o0_1 (r1.1.1.extract (1 : Int).toNat (r1.1.1.size : Int).toNat) ((t2 : Int) == 45) r1.2.1.1 r1.2.1.2.1 r1.2.1.2.2.1 r1.2.1.2.2.2.1
      else
        say_parser_number.j0 k o0_1 r1.1.1 ((t2 : Int) == 45) r1.2.1.1 r1.2.1.2.1 r1.2.1.2.2.1 r1.2.1.2.2.2.1
end
abbrev say_parser_number.ini : LSh := ⟨[(0, .ptr 1000000 0)], [(1000000, 124, [.val Ac7, .val (.int .i64), .val (.int .i64), .val (.int .i64)])]⟩
abbrev say_parser_number.out : LSh := ⟨[(0, .val (.int .i64))], [(1000000, 124, [.val Ac7, .val (.int .i64), .val (.int .i64), .val (.int .i64)])]⟩
abbrev say_parser_number.j0s : LSh := ⟨[(0, .ptr 1000000 0), (3, .val (.int .i64)), (4, .val .str), (5, .val .bool)], [(1000000, 124, [.val Ac7, .val (.int .i64), .val (.int .i64), .val (.int .i64)])]⟩
noncomputable def say_parser_number.labF : Nat → List (LabF say_parser_number.out.den)
  | 17 => [⟨say_parser_number.j0s, fun k (d : (Unit × Int × ByteArray × Bool × Unit) × (Ab6 × Unit)) => (say_parser_number.j0 k d.1.2.1 d.1.2.2.1 d.1.2.2.2.1 d.2.1.1 d.2.1.2.1 d.2.1.2.2.1 d.2.1.2.2.2.1 : Option say_parser_number.R)⟩]
  | _ => []
noncomputable def say_parser_number.fd : FnD := ⟨Try.f84, say_parser_number.ini, say_parser_number.out, 1, [1000000], [], say_parser_number.labF, fun k (d : (Unit × Unit) × (Ab6 × Unit)) => (say_parser_number.f k d.2.1.1 d.2.1.2.1 d.2.1.2.2.1 d.2.1.2.2.2.1 : Option say_parser_number.R), none, []⟩

/-! ### say_parser_peek : function 94 -/
abbrev say_parser_peek.R := (Bool × Unit) × (Unit)
noncomputable def say_parser_peek.f : Nat → ByteArray → (List (Int × ByteArray × Int × Unit)) → Int → Int → Int → Option say_parser_peek.R
  | 0, _, _, _, _, _ => none
  | k + 1, x1, o0_0, o0_1, o0_2, o0_3 =>
    bif decide ((o0_3 : Int) < 0) then
      bif decide ((o0_1 : Int) < (o0_0.length : Int)) then
        (rdo o0_0 o0_1).bind fun t1 =>
        bif (t1.1 : Int) == 3 then
          (rdo o0_0 o0_1).bind fun t2 =>
          some ((t2.2.1.toList == x1.toList, ()), (()))
        else
          some ((false, ()), (()))
      else
        some ((false, ()), (()))
    else
      some ((false, ()), (()))
abbrev say_parser_peek.ini : LSh := ⟨[(0, .ptr 1000000 0), (1, .val .str)], [(1000000, 124, [.val Ac7, .val (.int .i64), .val (.int .i64), .val (.int .i64)])]⟩
abbrev say_parser_peek.out : LSh := ⟨[(0, .val .bool)], []⟩
noncomputable def say_parser_peek.labF : Nat → List (LabF say_parser_peek.out.den)
  | _ => []
noncomputable def say_parser_peek.fd : FnD := ⟨Try.f94, say_parser_peek.ini, say_parser_peek.out, 1, [1000000], [1000000], say_parser_peek.labF, fun k (d : (Unit × ByteArray × Unit) × (Ab6 × Unit)) => (say_parser_peek.f k d.1.2.1 d.2.1.1 d.2.1.2.1 d.2.1.2.2.1 d.2.1.2.2.2.1 : Option say_parser_peek.R), none, []⟩

/-! ### say_parser_mark : function 92 -/
abbrev say_parser_mark.R := (Unit) × (Ab6 × Unit)
noncomputable def say_parser_mark.f : Nat → ByteArray → (List (Int × ByteArray × Int × Unit)) → Int → Int → Int → Option say_parser_mark.R
  | 0, _, _, _, _, _ => none
  | k + 1, x1, o0_0, o0_1, o0_2, o0_3 =>
    (say_parser_peek.f k x1 o0_0 o0_1 o0_2 o0_3).bind fun r1 =>
    bif !r1.1.1 then
      (say_parser_fail.f k o0_0 o0_1 o0_2 o0_3).bind fun r2 =>
      some ((()), ((r2.2.1.1, r2.2.1.2.1, r2.2.1.2.2.1, r2.2.1.2.2.2.1, ()), ()))
    else
      some ((()), ((o0_0, IntKind.wrap .i64 (o0_1 + 1), o0_2, o0_3, ()), ()))
abbrev say_parser_mark.ini : LSh := ⟨[(0, .ptr 1000000 0), (1, .val .str)], [(1000000, 124, [.val Ac7, .val (.int .i64), .val (.int .i64), .val (.int .i64)])]⟩
abbrev say_parser_mark.out : LSh := ⟨[], [(1000000, 124, [.val Ac7, .val (.int .i64), .val (.int .i64), .val (.int .i64)])]⟩
noncomputable def say_parser_mark.labF : Nat → List (LabF say_parser_mark.out.den)
  | _ => []
noncomputable def say_parser_mark.fd : FnD := ⟨Try.f92, say_parser_mark.ini, say_parser_mark.out, 0, [1000000], [], say_parser_mark.labF, fun k (d : (Unit × ByteArray × Unit) × (Ab6 × Unit)) => (say_parser_mark.f k d.1.2.1 d.2.1.1 d.2.1.2.1 d.2.1.2.2.1 d.2.1.2.2.2.1 : Option say_parser_mark.R), none, []⟩

/-! ### say_nibble : function 93 -/
abbrev say_nibble.R := (Int × Unit) × (Unit)
noncomputable def say_nibble.f : Nat → Int → Option say_nibble.R
  | 0, _ => none
  | k + 1, x0 =>
    (say_digit.f k x0).bind fun r1 =>
    bif r1.1.1 then
      some ((IntKind.wrap .i64 (IntKind.wrap .u8 (x0 - 48)), ()), (()))
    else
    bif decide ((x0 : Int) ≥ 97) then
      bif decide ((x0 : Int) ≤ 102) then
        some ((IntKind.wrap .i64 ((IntKind.wrap .i64 (IntKind.wrap .u8 (x0 - 97))) + 10), ()), (()))
      else
        some (((-1), ()), (()))
    else
      some (((-1), ()), (()))
abbrev say_nibble.ini : LSh := ⟨[(0, .val (.int .u8))], []⟩
abbrev say_nibble.out : LSh := ⟨[(0, .val (.int .i64))], []⟩
noncomputable def say_nibble.labF : Nat → List (LabF say_nibble.out.den)
  | _ => []
noncomputable def say_nibble.fd : FnD := ⟨Try.f93, say_nibble.ini, say_nibble.out, 1, [], [], say_nibble.labF, fun k (d : (Int × Unit) × (Unit)) => (say_nibble.f k d.1.1 : Option say_nibble.R), none, []⟩

/-! ### say_parser_float : function 91 -/
abbrev say_parser_float.R := (Ab5 × Unit) × (Ab6 × Unit)
mutual
noncomputable def say_parser_float.l0 : Nat → Int → ByteArray → Int → Int → (List (Int × ByteArray × Int × Unit)) → Int → Int → Int → Int → Bool → Int → Int → ByteArray → Int → Bool → Int → Int → ByteArray → Option say_parser_float.R
  | 0, _, _, _, _, _, _, _, _, _, _, _, _, _, _, _, _, _, _ => none
  | k + 1, x3, x4, x24, x25, o0_0, o0_1, o0_2, o0_3, o2_0, o2_1, o2_2, o2_3, o2_4, o5_0, o5_1, o5_2, o5_3, o5_4 =>
    bif decide ((x25 : Int) < x24) then
      (bto x4 x25).bind fun t3 =>
      (say_nibble.f k t3).bind fun r4 =>
      bif decide ((r4.1.1 : Int) < 0) then
        (say_parser_fail.f k o0_0 x3 o0_2 o0_3).bind fun r5 =>
        some (((0, (false, (0, (0, (ByteArray.empty, ()))))), ()), ((r5.2.1.1, r5.2.1.2.1, r5.2.1.2.2.1, r5.2.1.2.2.2.1, ()), ()))
      else
      bif ((x4.size : Int) : Int) != 16 then
        (say_parser_fail.f k o0_0 x3 o0_2 o0_3).bind fun r6 =>
        some (((0, (false, (0, (0, (ByteArray.empty, ()))))), ()), ((r6.2.1.1, r6.2.1.2.1, r6.2.1.2.2.1, r6.2.1.2.2.2.1, ()), ()))
      else
        (ck (!decide ((4 : Int) < 0))).bind fun _ =>
        say_parser_float.l0 k x3 x4 x24 (IntKind.wrap .i64 (x25 + 1)) o0_0 o0_1 o0_2 o0_3 o2_0 o2_1 o2_2 o2_3 o2_4 o5_0 o5_1 o5_2 (IntKind.wrap .u64 ((BitVec.ofInt (IntKind.bits .u64) (IntKind.wrap .u64 (o5_3 * 2 ^ (min (4 : Int).toNat (IntKind.bits .u64)))) ||| BitVec.ofInt (IntKind.bits .u64) (IntKind.wrap .u64 r4.1.1)).toNat : Int)) o5_4
    else
    bif x4.toList == (⟨#[]⟩ : ByteArray).toList then
      (say_parser_fail.f k o0_0 x3 o0_2 o0_3).bind fun r7 =>
      (say_parser_mark.f k (⟨#[41]⟩ : ByteArray) r7.2.1.1 r7.2.1.2.1 r7.2.1.2.2.1 r7.2.1.2.2.2.1).bind fun r8 =>
      some (((o5_0, (o5_1, (o5_2, (o5_3, (o5_4, ()))))), ()), ((r8.2.1.1, r8.2.1.2.1, r8.2.1.2.2.1, r8.2.1.2.2.2.1, ()), ()))
    else
      (say_parser_mark.f k (⟨#[41]⟩ : ByteArray) o0_0 o0_1 o0_2 o0_3).bind fun r9 =>
      some (((o5_0, (o5_1, (o5_2, (o5_3, (o5_4, ()))))), ()), ((r9.2.1.1, r9.2.1.2.1, r9.2.1.2.2.1, r9.2.1.2.2.2.1, ()), ()))
noncomputable def say_parser_float.f : Nat → (List (Int × ByteArray × Int × Unit)) → Int → Int → Int → Option say_parser_float.R
  | 0, _, _, _, _ => none
  | k + 1, o0_0, o0_1, o0_2, o0_3 =>
    (say_parser_mark.f k (⟨#[40]⟩ : ByteArray) o0_0 o0_1 o0_2 o0_3).bind fun r1 =>
    (say_parser_take.f k 2 r1.2.1.1 r1.2.1.2.1 r1.2.1.2.2.1 r1.2.1.2.2.2.1).bind fun r2 =>
    bif decide ((r2.2.1.2.2.2.1 : Int) ≥ 0) then
      some (((0, (false, (0, (0, (ByteArray.empty, ()))))), ()), ((r2.2.1.1, r2.2.1.2.1, r2.2.1.2.2.1, r2.2.1.2.2.2.1, ()), ()))
    else
      say_parser_float.l0 k r1.2.1.2.1 r2.1.1 (r2.1.1.size : Int) 0 r2.2.1.1 r2.2.1.2.1 r2.2.1.2.2.1 r2.2.1.2.2.2.1 0 false 0 0 ByteArray.empty 3 false 0 0 ByteArray.empty
end
abbrev say_parser_float.ini : LSh := ⟨[(0, .ptr 1000000 0)], [(1000000, 124, [.val Ac7, .val (.int .i64), .val (.int .i64), .val (.int .i64)])]⟩
abbrev say_parser_float.out : LSh := ⟨[(0, .val Ac1)], [(1000000, 124, [.val Ac7, .val (.int .i64), .val (.int .i64), .val (.int .i64)])]⟩
abbrev say_parser_float.l0s : LSh := ⟨[(0, .ptr 1000000 0), (2, .ptr 2 0), (3, .val (.int .i64)), (4, .val .str), (5, .ptr 5 0), (24, .val (.int .i64)), (25, .val (.int .i64))], [(1000000, 124, [.val Ac7, .val (.int .i64), .val (.int .i64), .val (.int .i64)]), (2, 48, [.val (.int .i64), .val .bool, .val (.int .i64), .val (.int .u64), .val .str]), (5, 48, [.val (.int .i64), .val .bool, .val (.int .i64), .val (.int .u64), .val .str])]⟩
noncomputable def say_parser_float.labF : Nat → List (LabF say_parser_float.out.den)
  | 16 => [⟨say_parser_float.l0s, fun k (d : (Unit × Unit × Int × ByteArray × Unit × Int × Int × Unit) × (Ab6 × Ab5 × Ab5 × Unit)) => (say_parser_float.l0 k d.1.2.2.1 d.1.2.2.2.1 d.1.2.2.2.2.2.1 d.1.2.2.2.2.2.2.1 d.2.1.1 d.2.1.2.1 d.2.1.2.2.1 d.2.1.2.2.2.1 d.2.2.1.1 d.2.2.1.2.1 d.2.2.1.2.2.1 d.2.2.1.2.2.2.1 d.2.2.1.2.2.2.2.1 d.2.2.2.1.1 d.2.2.2.1.2.1 d.2.2.2.1.2.2.1 d.2.2.2.1.2.2.2.1 d.2.2.2.1.2.2.2.2.1 : Option say_parser_float.R)⟩]
  | _ => []
noncomputable def say_parser_float.fd : FnD := ⟨Try.f91, say_parser_float.ini, say_parser_float.out, 1, [1000000], [], say_parser_float.labF, fun k (d : (Unit × Unit) × (Ab6 × Unit)) => (say_parser_float.f k d.2.1.1 d.2.1.2.1 d.2.1.2.2.1 d.2.1.2.2.2.1 : Option say_parser_float.R), none, []⟩

/-! ### say_parser_word : function 85 -/
abbrev say_parser_word.R := (Ab5 × Unit) × (Ab6 × Unit)
mutual
noncomputable def say_parser_word.j0 : Nat → ByteArray → ByteArray → Bool → (List (Int × ByteArray × Int × Unit)) → Int → Int → Int → Int → Bool → Int → Int → ByteArray → Option say_parser_word.R
  | 0, _, _, _, _, _, _, _, _, _, _, _, _ => none
  | k + 1, x1, x5, x16, o0_0, o0_1, o0_2, o0_3, o4_0, o4_1, o4_2, o4_3, o4_4 =>
    bif x16 then
      some (((1, (x1.toList == (⟨#[116, 114, 117, 101]⟩ : ByteArray).toList, (0, (0, (ByteArray.empty, ()))))), ()), ((o0_0, IntKind.wrap .i64 (o0_1 + 1), o0_2, o0_3, ()), ()))
    else
    bif x5.toList == (⟨#[102, 108, 111, 97, 116]⟩ : ByteArray).toList then
      (say_parser_float.f k o0_0 (IntKind.wrap .i64 (o0_1 + 1)) o0_2 o0_3).bind fun r1 =>
      some ((r1.1.1, ()), ((r1.2.1.1, r1.2.1.2.1, r1.2.1.2.2.1, r1.2.1.2.2.2.1, ()), ()))
    else
      (say_parser_fail.f k o0_0 o0_1 o0_2 o0_3).bind fun r2 =>
      some (((0, (false, (0, (0, (ByteArray.empty, ()))))), ()), ((r2.2.1.1, r2.2.1.2.1, r2.2.1.2.2.1, r2.2.1.2.2.2.1, ()), ()))
noncomputable def say_parser_word.f : Nat → ByteArray → (List (Int × ByteArray × Int × Unit)) → Int → Int → Int → Option say_parser_word.R
  | 0, _, _, _, _, _ => none
  | k + 1, x1, o0_0, o0_1, o0_2, o0_3 =>
    bif x1.toList == (⟨#[110, 117, 108, 108]⟩ : ByteArray).toList then
      some (((0, (false, (0, (0, (ByteArray.empty, ()))))), ()), ((o0_0, IntKind.wrap .i64 (o0_1 + 1), o0_2, o0_3, ()), ()))
    else
    bif x1.toList == (⟨#[116, 114, 117, 101]⟩ : ByteArray).toList then
      say_parser_word.j0 k x1 x1 (x1.toList == (⟨#[116, 114, 117, 101]⟩ : ByteArray).toList) o0_0 o0_1 o0_2 o0_3 0 false 0 0 ByteArray.empty
    else
      say_parser_word.j0 k x1 x1 (x1.toList == (⟨#[102, 97, 108, 115, 101]⟩ : ByteArray).toList) o0_0 o0_1 o0_2 o0_3 0 false 0 0 ByteArray.empty
end
abbrev say_parser_word.ini : LSh := ⟨[(0, .ptr 1000000 0), (1, .val .str)], [(1000000, 124, [.val Ac7, .val (.int .i64), .val (.int .i64), .val (.int .i64)])]⟩
abbrev say_parser_word.out : LSh := ⟨[(0, .val Ac1)], [(1000000, 124, [.val Ac7, .val (.int .i64), .val (.int .i64), .val (.int .i64)])]⟩
abbrev say_parser_word.j0s : LSh := ⟨[(0, .ptr 1000000 0), (1, .val .str), (4, .ptr 4 0), (5, .val .str), (16, .val .bool)], [(1000000, 124, [.val Ac7, .val (.int .i64), .val (.int .i64), .val (.int .i64)]), (4, 48, [.val (.int .i64), .val .bool, .val (.int .i64), .val (.int .u64), .val .str])]⟩
noncomputable def say_parser_word.labF : Nat → List (LabF say_parser_word.out.den)
  | 15 => [⟨say_parser_word.j0s, fun k (d : (Unit × ByteArray × Unit × ByteArray × Bool × Unit) × (Ab6 × Ab5 × Unit)) => (say_parser_word.j0 k d.1.2.1 d.1.2.2.2.1 d.1.2.2.2.2.1 d.2.1.1 d.2.1.2.1 d.2.1.2.2.1 d.2.1.2.2.2.1 d.2.2.1.1 d.2.2.1.2.1 d.2.2.1.2.2.1 d.2.2.1.2.2.2.1 d.2.2.1.2.2.2.2.1 : Option say_parser_word.R)⟩]
  | _ => []
noncomputable def say_parser_word.fd : FnD := ⟨Try.f85, say_parser_word.ini, say_parser_word.out, 1, [1000000], [], say_parser_word.labF, fun k (d : (Unit × ByteArray × Unit) × (Ab6 × Unit)) => (say_parser_word.f k d.1.2.1 d.2.1.1 d.2.1.2.1 d.2.1.2.2.1 d.2.1.2.2.2.1 : Option say_parser_word.R), none, []⟩

/-! ### say_parser_value : function 79 -/
abbrev say_parser_value.R := (Ab5 × Unit) × (Ab6 × Unit)
mutual
noncomputable def say_parser_value.j0 : Nat → (List (Int × ByteArray × Int × Unit)) → Int → Int → Int → Int → Bool → Int → Int → ByteArray → Option say_parser_value.R
  | 0, _, _, _, _, _, _, _, _, _ => none
  | k + 1, o0_0, o0_1, o0_2, o0_3, o2_0, o2_1, o2_2, o2_3, o2_4 =>
    (rdo o0_0 o0_1).bind fun t3 =>
    bif (t3.1 : Int) == 1 then
      (say_parser_number.f k o0_0 o0_1 o0_2 o0_3).bind fun r4 =>
      some (((2, (false, (r4.1.1, (0, (ByteArray.empty, ()))))), ()), ((r4.2.1.1, r4.2.1.2.1, r4.2.1.2.2.1, r4.2.1.2.2.2.1, ()), ()))
    else
    bif (t3.1 : Int) == 2 then
      some (((4, (false, (0, (0, (t3.2.1, ()))))), ()), ((o0_0, IntKind.wrap .i64 (o0_1 + 1), o0_2, o0_3, ()), ()))
    else
    bif (t3.1 : Int) == 0 then
      (say_parser_word.f k t3.2.1 o0_0 o0_1 o0_2 o0_3).bind fun r5 =>
      some ((r5.1.1, ()), ((r5.2.1.1, r5.2.1.2.1, r5.2.1.2.2.1, r5.2.1.2.2.2.1, ()), ()))
    else
      (say_parser_fail.f k o0_0 o0_1 o0_2 o0_3).bind fun r6 =>
      some (((0, (false, (0, (0, (ByteArray.empty, ()))))), ()), ((r6.2.1.1, r6.2.1.2.1, r6.2.1.2.2.1, r6.2.1.2.2.2.1, ()), ()))
noncomputable def say_parser_value.f : Nat → (List (Int × ByteArray × Int × Unit)) → Int → Int → Int → Option say_parser_value.R
  | 0, _, _, _, _ => none
  | k + 1, o0_0, o0_1, o0_2, o0_3 =>
    bif decide ((o0_3 : Int) ≥ 0) then
      (say_parser_fail.f k o0_0 o0_1 o0_2 o0_3).bind fun r1 =>
      some (((0, (false, (0, (0, (ByteArray.empty, ()))))), ()), ((r1.2.1.1, r1.2.1.2.1, r1.2.1.2.2.1, r1.2.1.2.2.2.1, ()), ()))
    else
    bif decide ((o0_1 : Int) ≥ (o0_0.length : Int)) then
      (say_parser_fail.f k o0_0 o0_1 o0_2 o0_3).bind fun r2 =>
      some (((0, (false, (0, (0, (ByteArray.empty, ()))))), ()), ((r2.2.1.1, r2.2.1.2.1, r2.2.1.2.2.1, r2.2.1.2.2.2.1, ()), ()))
    else
      say_parser_value.j0 k o0_0 o0_1 o0_2 o0_3 0 false 0 0 ByteArray.empty
end
abbrev say_parser_value.ini : LSh := ⟨[(0, .ptr 1000000 0)], [(1000000, 124, [.val Ac7, .val (.int .i64), .val (.int .i64), .val (.int .i64)])]⟩
abbrev say_parser_value.out : LSh := ⟨[(0, .val Ac1)], [(1000000, 124, [.val Ac7, .val (.int .i64), .val (.int .i64), .val (.int .i64)])]⟩
abbrev say_parser_value.j0s : LSh := ⟨[(0, .ptr 1000000 0), (2, .ptr 2 0)], [(1000000, 124, [.val Ac7, .val (.int .i64), .val (.int .i64), .val (.int .i64)]), (2, 48, [.val (.int .i64), .val .bool, .val (.int .i64), .val (.int .u64), .val .str])]⟩
noncomputable def say_parser_value.labF : Nat → List (LabF say_parser_value.out.den)
  | 9 => [⟨say_parser_value.j0s, fun k (d : (Unit × Unit × Unit) × (Ab6 × Ab5 × Unit)) => (say_parser_value.j0 k d.2.1.1 d.2.1.2.1 d.2.1.2.2.1 d.2.1.2.2.2.1 d.2.2.1.1 d.2.2.1.2.1 d.2.2.1.2.2.1 d.2.2.1.2.2.2.1 d.2.2.1.2.2.2.2.1 : Option say_parser_value.R)⟩]
  | _ => []
noncomputable def say_parser_value.fd : FnD := ⟨Try.f79, say_parser_value.ini, say_parser_value.out, 1, [1000000], [], say_parser_value.labF, fun k (d : (Unit × Unit) × (Ab6 × Unit)) => (say_parser_value.f k d.2.1.1 d.2.1.2.1 d.2.1.2.2.1 d.2.1.2.2.2.1 : Option say_parser_value.R), none, []⟩

/-! ### say_TakeValue : function 66 -/
abbrev say_TakeValue.R := (Ab5 × Int × Bool × Unit) × (Unit)
noncomputable def say_TakeValue.f : Nat → (List (Int × ByteArray × Int × Unit)) → Option say_TakeValue.R
  | 0, _ => none
  | k + 1, x0 =>
    (say_parser_value.f k x0 0 0 (-1)).bind fun r1 =>
    bif decide ((r1.2.1.2.2.2.1 : Int) ≥ 0) then
      some (((0, (false, (0, (0, (ByteArray.empty, ()))))), 0, false, ()), (()))
    else
      some ((r1.1.1, r1.2.1.2.1, true, ()), (()))
abbrev say_TakeValue.ini : LSh := ⟨[(0, .val Ac7)], []⟩
abbrev say_TakeValue.out : LSh := ⟨[(0, .val Ac1), (1, .val (.int .i64)), (2, .val .bool)], []⟩
noncomputable def say_TakeValue.labF : Nat → List (LabF say_TakeValue.out.den)
  | _ => []
noncomputable def say_TakeValue.fd : FnD := ⟨Try.f66, say_TakeValue.ini, say_TakeValue.out, 3, [], [], say_TakeValue.labF, fun k (d : ((List (Int × ByteArray × Int × Unit)) × Unit) × (Unit)) => (say_TakeValue.f k d.1.1 : Option say_TakeValue.R), none, []⟩

/-! ### ask_asker_value : function 46 -/
abbrev ask_asker_value.R := (Ab5 × Unit) × (Ab6 × Unit)
noncomputable def ask_asker_value.f : Nat → (List (Int × ByteArray × Int × Unit)) → Int → Int → Int → Option ask_asker_value.R
  | 0, _, _, _, _ => none
  | k + 1, o0_0, o0_1, o0_2, o0_3 =>
    bif decide ((o0_3 : Int) ≥ 0) then
      some (((0, (false, (0, (0, (ByteArray.empty, ()))))), ()), ((o0_0, o0_1, o0_2, o0_3, ()), ()))
    else
      (ck (decide (0 ≤ o0_1) && decide (o0_1 ≤ (o0_0.length : Int)) && decide ((o0_0.length : Int) ≤ (o0_0.length : Int)))).bind fun _ =>
      (say_TakeValue.f k ((o0_0.take (o0_0.length : Int).toNat).drop o0_1.toNat)).bind fun r1 =>
      bif !r1.1.2.2.1 then
        (ask_asker_fail.f k o0_0 o0_1 o0_2 o0_3).bind fun r2 =>
        some (((0, (false, (0, (0, (ByteArray.empty, ()))))), ()), ((r2.2.1.1, r2.2.1.2.1, r2.2.1.2.2.1, r2.2.1.2.2.2.1, ()), ()))
      else
        some ((r1.1.1, ()), ((o0_0, IntKind.wrap .i64 (o0_1 + r1.1.2.1), o0_2, o0_3, ()), ()))
abbrev ask_asker_value.ini : LSh := ⟨[(0, .ptr 1000000 0)], [(1000000, 62, [.val Ac7, .val (.int .i64), .val (.int .i64), .val (.int .i64)])]⟩
abbrev ask_asker_value.out : LSh := ⟨[(0, .val Ac1)], [(1000000, 62, [.val Ac7, .val (.int .i64), .val (.int .i64), .val (.int .i64)])]⟩
noncomputable def ask_asker_value.labF : Nat → List (LabF ask_asker_value.out.den)
  | _ => []
noncomputable def ask_asker_value.fd : FnD := ⟨Try.f46, ask_asker_value.ini, ask_asker_value.out, 1, [1000000], [], ask_asker_value.labF, fun k (d : (Unit × Unit) × (Ab6 × Unit)) => (ask_asker_value.f k d.2.1.1 d.2.1.2.1 d.2.1.2.2.1 d.2.1.2.2.2.1 : Option ask_asker_value.R), none, []⟩

/-! ### ask_asker_term : function 26 -/
abbrev ask_asker_term.R := (Ab0 × Unit) × (Ab6 × Unit)
noncomputable def ask_asker_term.f : Nat → (List (Int × ByteArray × Int × Unit)) → Int → Int → Int → Option ask_asker_term.R
  | 0, _, _, _, _ => none
  | k + 1, o0_0, o0_1, o0_2, o0_3 =>
    (ask_asker_word.f k (⟨#[110, 111, 116]⟩ : ByteArray) o0_0 o0_1 o0_2 o0_3).bind fun r1 =>
    (ask_asker_name.f k r1.2.1.1 r1.2.1.2.1 r1.2.1.2.2.1 r1.2.1.2.2.2.1).bind fun r2 =>
    (ask_asker_word.f k (⟨#[116, 104, 101, 114, 101]⟩ : ByteArray) r2.2.1.1 r2.2.1.2.1 r2.2.1.2.2.1 r2.2.1.2.2.2.1).bind fun r3 =>
    bif r3.1.1 then
      some (((r2.1.1, ((0, (false, (0, (0, (ByteArray.empty, ()))))), ((0, (false, (0, (0, (ByteArray.empty, ()))))), (false, (false, r1.1))))), ()), ((r3.2.1.1, r3.2.1.2.1, r3.2.1.2.2.1, r3.2.1.2.2.2.1, ()), ()))
    else
      (ask_asker_word.f k (⟨#[105, 115]⟩ : ByteArray) r3.2.1.1 r3.2.1.2.1 r3.2.1.2.2.1 r3.2.1.2.2.2.1).bind fun r4 =>
      bif r4.1.1 then
        (ask_asker_value.f k r4.2.1.1 r4.2.1.2.1 r4.2.1.2.2.1 r4.2.1.2.2.2.1).bind fun r5 =>
        some (((r2.1.1, (r5.1.1, (r5.1.1, (true, (true, r1.1))))), ()), ((r5.2.1.1, r5.2.1.2.1, r5.2.1.2.2.1, r5.2.1.2.2.2.1, ()), ()))
      else
        (ask_asker_word.f k (⟨#[102, 114, 111, 109]⟩ : ByteArray) r4.2.1.1 r4.2.1.2.1 r4.2.1.2.2.1 r4.2.1.2.2.2.1).bind fun r6 =>
        bif r6.1.1 then
          (ask_asker_value.f k r6.2.1.1 r6.2.1.2.1 r6.2.1.2.2.1 r6.2.1.2.2.2.1).bind fun r7 =>
          (ask_asker_word.f k (⟨#[116, 111]⟩ : ByteArray) r7.2.1.1 r7.2.1.2.1 r7.2.1.2.2.1 r7.2.1.2.2.2.1).bind fun r8 =>
          bif r8.1.1 then
            (ask_asker_value.f k r8.2.1.1 r8.2.1.2.1 r8.2.1.2.2.1 r8.2.1.2.2.2.1).bind fun r9 =>
            some (((r2.1.1, (r7.1.1, (r9.1.1, (true, (true, r1.1))))), ()), ((r9.2.1.1, r9.2.1.2.1, r9.2.1.2.2.1, r9.2.1.2.2.2.1, ()), ()))
          else
            some (((r2.1.1, (r7.1.1, ((0, (false, (0, (0, (ByteArray.empty, ()))))), (true, (false, r1.1))))), ()), ((r8.2.1.1, r8.2.1.2.1, r8.2.1.2.2.1, r8.2.1.2.2.2.1, ()), ()))
        else
          (ask_asker_word.f k (⟨#[116, 111]⟩ : ByteArray) r6.2.1.1 r6.2.1.2.1 r6.2.1.2.2.1 r6.2.1.2.2.2.1).bind fun r10 =>
          bif r10.1.1 then
            (ask_asker_value.f k r10.2.1.1 r10.2.1.2.1 r10.2.1.2.2.1 r10.2.1.2.2.2.1).bind fun r11 =>
            some (((r2.1.1, ((0, (false, (0, (0, (ByteArray.empty, ()))))), (r11.1.1, (false, (true, r1.1))))), ()), ((r11.2.1.1, r11.2.1.2.1, r11.2.1.2.2.1, r11.2.1.2.2.2.1, ()), ()))
          else
            (ask_asker_fail.f k r10.2.1.1 r10.2.1.2.1 r10.2.1.2.2.1 r10.2.1.2.2.2.1).bind fun r12 =>
            some (((r2.1.1, ((0, (false, (0, (0, (ByteArray.empty, ()))))), ((0, (false, (0, (0, (ByteArray.empty, ()))))), (false, (false, r1.1))))), ()), ((r12.2.1.1, r12.2.1.2.1, r12.2.1.2.2.1, r12.2.1.2.2.2.1, ()), ()))
abbrev ask_asker_term.ini : LSh := ⟨[(0, .ptr 1000000 0)], [(1000000, 62, [.val Ac7, .val (.int .i64), .val (.int .i64), .val (.int .i64)])]⟩
abbrev ask_asker_term.out : LSh := ⟨[(0, .val Ac3)], [(1000000, 62, [.val Ac7, .val (.int .i64), .val (.int .i64), .val (.int .i64)])]⟩
noncomputable def ask_asker_term.labF : Nat → List (LabF ask_asker_term.out.den)
  | _ => []
noncomputable def ask_asker_term.fd : FnD := ⟨Try.f26, ask_asker_term.ini, ask_asker_term.out, 1, [1000000], [], ask_asker_term.labF, fun k (d : (Unit × Unit) × (Ab6 × Unit)) => (ask_asker_term.f k d.2.1.1 d.2.1.2.1 d.2.1.2.2.1 d.2.1.2.2.2.1 : Option ask_asker_term.R), none, []⟩

/-! ### ask_asker_number : function 29 -/
abbrev ask_asker_number.R := (Int × Unit) × (Ab6 × Unit)
noncomputable def ask_asker_number.f : Nat → (List (Int × ByteArray × Int × Unit)) → Int → Int → Int → Option ask_asker_number.R
  | 0, _, _, _, _ => none
  | k + 1, o0_0, o0_1, o0_2, o0_3 =>
    (ask_asker_value.f k o0_0 o0_1 o0_2 o0_3).bind fun r1 =>
    bif decide ((r1.2.1.2.2.2.1 : Int) < 0) then
      bif (r1.1.1.1 : Int) != 2 then
        (ask_asker_fail.f k r1.2.1.1 o0_1 r1.2.1.2.2.1 r1.2.1.2.2.2.1).bind fun r2 =>
        some (((bif decide ((0 : Int) > r1.1.1.2.2.1) then 0 else r1.1.1.2.2.1), ()), ((r2.2.1.1, r2.2.1.2.1, r2.2.1.2.2.1, r2.2.1.2.2.2.1, ()), ()))
      else
      bif decide ((r1.1.1.2.2.1 : Int) < 0) then
        (ask_asker_fail.f k r1.2.1.1 o0_1 r1.2.1.2.2.1 r1.2.1.2.2.2.1).bind fun r3 =>
        some (((bif decide ((0 : Int) > r1.1.1.2.2.1) then 0 else r1.1.1.2.2.1), ()), ((r3.2.1.1, r3.2.1.2.1, r3.2.1.2.2.1, r3.2.1.2.2.2.1, ()), ()))
      else
        some (((bif decide ((0 : Int) > r1.1.1.2.2.1) then 0 else r1.1.1.2.2.1), ()), ((r1.2.1.1, r1.2.1.2.1, r1.2.1.2.2.1, r1.2.1.2.2.2.1, ()), ()))
    else
      some (((bif decide ((0 : Int) > r1.1.1.2.2.1) then 0 else r1.1.1.2.2.1), ()), ((r1.2.1.1, r1.2.1.2.1, r1.2.1.2.2.1, r1.2.1.2.2.2.1, ()), ()))
abbrev ask_asker_number.ini : LSh := ⟨[(0, .ptr 1000000 0)], [(1000000, 62, [.val Ac7, .val (.int .i64), .val (.int .i64), .val (.int .i64)])]⟩
abbrev ask_asker_number.out : LSh := ⟨[(0, .val (.int .i64))], [(1000000, 62, [.val Ac7, .val (.int .i64), .val (.int .i64), .val (.int .i64)])]⟩
noncomputable def ask_asker_number.labF : Nat → List (LabF ask_asker_number.out.den)
  | _ => []
noncomputable def ask_asker_number.fd : FnD := ⟨Try.f29, ask_asker_number.ini, ask_asker_number.out, 1, [1000000], [], ask_asker_number.labF, fun k (d : (Unit × Unit) × (Ab6 × Unit)) => (ask_asker_number.f k d.2.1.1 d.2.1.2.1 d.2.1.2.2.1 d.2.1.2.2.2.1 : Option ask_asker_number.R), none, []⟩

/-! ### ask_Read : function 10 -/
abbrev ask_Read.R := ((List Ab0 × ByteArray × Bool × Int × Unit) × Int × Int × Unit) × (Unit)
mutual
noncomputable def ask_Read.l0 : Nat → (List Ab0) → ByteArray → Bool → Int → (List (Int × ByteArray × Int × Unit)) → Int → Int → Int → (List Ab0) → ByteArray → Bool → Int → Option ask_Read.R
  | 0, _, _, _, _, _, _, _, _, _, _, _, _ => none
  | k + 1, o2_0, o2_1, o2_2, o2_3, o25_0, o25_1, o25_2, o25_3, o9_0, o9_1, o9_2, o9_3 =>
    (ask_asker_word.f k (⟨#[97, 110, 100]⟩ : ByteArray) o25_0 o25_1 o25_2 o25_3).bind fun r4 =>
    bif r4.1.1 then
      (ask_asker_term.f k r4.2.1.1 r4.2.1.2.1 r4.2.1.2.2.1 r4.2.1.2.2.2.1).bind fun r5 =>
      (ck (decide ((o9_0.length + ([r5.1.1] : List Ab0).length) * 120 ≤ 70368744177664))).bind fun _ =>
      ask_Read.l0 k o2_0 o2_1 o2_2 o2_3 r5.2.1.1 r5.2.1.2.1 r5.2.1.2.2.1 r5.2.1.2.2.2.1 (o9_0 ++ ([r5.1.1] : List Ab0)) o9_1 o9_2 o9_3
    else
      ask_Read.j0 k o2_0 o2_1 o2_2 o2_3 r4.2.1.1 r4.2.1.2.1 r4.2.1.2.2.1 r4.2.1.2.2.2.1 o9_0 o9_1 o9_2 o9_3
noncomputable def ask_Read.j0 : Nat → (List Ab0) → ByteArray → Bool → Int → (List (Int × ByteArray × Int × Unit)) → Int → Int → Int → (List Ab0) → ByteArray → Bool → Int → Option ask_Read.R
  | 0, _, _, _, _, _, _, _, _, _, _, _, _ => none
  | k + 1, o2_0, o2_1, o2_2, o2_3, o25_0, o25_1, o25_2, o25_3, o9_0, o9_1, o9_2, o9_3 =>
    (ask_asker_word.f k (⟨#[98, 121]⟩ : ByteArray) o25_0 o25_1 o25_2 o25_3).bind fun r6 =>
    bif r6.1.1 then
      (ask_asker_name.f k r6.2.1.1 r6.2.1.2.1 r6.2.1.2.2.1 r6.2.1.2.2.2.1).bind fun r7 =>
      bif r7.1.1.toList == (⟨#[]⟩ : ByteArray).toList then
        (ask_asker_fail.f k r7.2.1.1 (IntKind.wrap .i64 (r7.2.1.2.1 - 1)) r7.2.1.2.2.1 r7.2.1.2.2.2.1).bind fun r8 =>
        (ask_asker_word.f k (⟨#[100, 111, 119, 110]⟩ : ByteArray) r8.2.1.1 r8.2.1.2.1 r8.2.1.2.2.1 r8.2.1.2.2.2.1).bind fun r9 =>
        ask_Read.j1 k o2_0 o2_1 o2_2 o2_3 r9.2.1.1 r9.2.1.2.1 r9.2.1.2.2.1 r9.2.1.2.2.2.1 o9_0 r7.1.1 r9.1.1 o9_3
      else
        (ask_asker_word.f k (⟨#[100, 111, 119, 110]⟩ : ByteArray) r7.2.1.1 r7.2.1.2.1 r7.2.1.2.2.1 r7.2.1.2.2.2.1).bind fun r10 =>
        ask_Read.j1 k o2_0 o2_1 o2_2 o2_3 r10.2.1.1 r10.2.1.2.1 r10.2.1.2.2.1 r10.2.1.2.2.2.1 o9_0 r7.1.1 r10.1.1 o9_3
    else
      ask_Read.j1 k o2_0 o2_1 o2_2 o2_3 r6.2.1.1 r6.2.1.2.1 r6.2.1.2.2.1 r6.2.1.2.2.2.1 o9_0 o9_1 o9_2 o9_3
noncomputable def ask_Read.j1 : Nat → (List Ab0) → ByteArray → Bool → Int → (List (Int × ByteArray × Int × Unit)) → Int → Int → Int → (List Ab0) → ByteArray → Bool → Int → Option ask_Read.R
  | 0, _, _, _, _, _, _, _, _, _, _, _, _ => none
  | k + 1, o2_0, o2_1, o2_2, o2_3, o25_0, o25_1, o25_2, o25_3, o9_0, o9_1, o9_2, o9_3 =>
    (ask_asker_word.f k (⟨#[109, 111, 115, 116]⟩ : ByteArray) o25_0 o25_1 o25_2 o25_3).bind fun r11 =>
    bif r11.1.1 then
      (ask_asker_number.f k r11.2.1.1 r11.2.1.2.1 r11.2.1.2.2.1 r11.2.1.2.2.2.1).bind fun r12 =>
      ask_Read.j2 k o2_0 o2_1 o2_2 o2_3 r12.2.1.1 r12.2.1.2.1 r12.2.1.2.2.1 r12.2.1.2.2.2.1 o9_0 o9_1 o9_2 r12.1.1
    else
      ask_Read.j2 k o2_0 o2_1 o2_2 o2_3 r11.2.1.1 r11.2.1.2.1 r11.2.1.2.2.1 r11.2.1.2.2.2.1 o9_0 o9_1 o9_2 o9_3
noncomputable def ask_Read.j2 : Nat → (List Ab0) → ByteArray → Bool → Int → (List (Int × ByteArray × Int × Unit)) → Int → Int → Int → (List Ab0) → ByteArray → Bool → Int → Option ask_Read.R
  | 0, _, _, _, _, _, _, _, _, _, _, _, _ => none
  | k + 1, o2_0, o2_1, o2_2, o2_3, o25_0, o25_1, o25_2, o25_3, o9_0, o9_1, o9_2, o9_3 =>
    bif decide ((o25_1 : Int) < (o25_0.length : Int)) then
      (ask_asker_fail.f k o25_0 o25_1 o25_2 o25_3).bind fun r13 =>
      ask_Read.j3 k o2_0 o2_1 o2_2 o2_3 r13.2.1.1 r13.2.1.2.1 r13.2.1.2.2.1 r13.2.1.2.2.2.1 o9_0 o9_1 o9_2 o9_3
    else
      ask_Read.j3 k o2_0 o2_1 o2_2 o2_3 o25_0 o25_1 o25_2 o25_3 o9_0 o9_1 o9_2 o9_3
noncomputable def ask_Read.j3 : Nat → (List Ab0) → ByteArray → Bool → Int → (List (Int × ByteArray × Int × Unit)) → Int → Int → Int → (List Ab0) → ByteArray → Bool → Int → Option ask_Read.R
  | 0, _, _, _, _, _, _, _, _, _, _, _, _ => none
  | k + 1, o2_0, o2_1, o2_2, o2_3, o25_0, o25_1, o25_2, o25_3, o9_0, o9_1, o9_2, o9_3 =>
    bif decide ((o25_3 : Int) ≥ 0) then
      some (((([] : List Ab0), (ByteArray.empty, (false, (0, ())))), o25_3, 4, ()), (()))
    else
      some (((o9_0, (o9_1, (o9_2, (o9_3, ())))), 0, 0, ()), (()))
noncomputable def ask_Read.f : Nat → ByteArray → Option ask_Read.R
  | 0, _ => none
  | k + 1, x0 =>
    (say_Tokens.f k x0).bind fun r1 =>
    bif (r1.1.2.2.1 : Int) != 0 then
      some (((([] : List Ab0), (ByteArray.empty, (false, (0, ())))), r1.1.2.1, r1.1.2.2.1, ()), (()))
    else
      (ask_asker_word.f k (⟨#[119, 104, 101, 114, 101]⟩ : ByteArray) r1.1.1 0 (x0.size : Int) (-1)).bind fun r2 =>
      bif r2.1.1 then
        (ask_asker_term.f k r2.2.1.1 r2.2.1.2.1 r2.2.1.2.2.1 r2.2.1.2.2.2.1).bind fun r3 =>
        (ck (decide (([r3.1.1] : List Ab0).length * 120 ≤ 70368744177664))).bind fun _ =>
        ask_Read.l0 k ([] : List Ab0) ByteArray.empty false 0 r3.2.1.1 r3.2.1.2.1 r3.2.1.2.2.1 r3.2.1.2.2.2.1 ([r3.1.1] : List Ab0) ByteArray.empty false 64
      else
        ask_Read.j0 k ([] : List Ab0) ByteArray.empty false 0 r2.2.1.1 r2.2.1.2.1 r2.2.1.2.2.1 r2.2.1.2.2.2.1 ([] : List Ab0) ByteArray.empty false 64
end
abbrev ask_Read.ini : LSh := ⟨[(0, .val .str)], []⟩
abbrev ask_Read.out : LSh := ⟨[(0, .val (.cons (.sl Ac3) (.cons .str (.cons .bool (.cons (.int .i64) .nil))))), (1, .val (.int .i64)), (2, .val (.int .i64))], []⟩
abbrev ask_Read.l0s : LSh := ⟨[(2, .ptr 2 0), (8, .ptr 25 0), (9, .ptr 9 0)], [(2, 24, [.val (.sl Ac3), .val .str, .val .bool, .val (.int .i64)]), (25, 62, [.val Ac7, .val (.int .i64), .val (.int .i64), .val (.int .i64)]), (9, 24, [.own 3000900 50 Ac3, .val .str, .val .bool, .val (.int .i64)])]⟩
abbrev ask_Read.j0s : LSh := ⟨[(2, .ptr 2 0), (8, .ptr 25 0), (9, .ptr 9 0)], [(2, 24, [.val (.sl Ac3), .val .str, .val .bool, .val (.int .i64)]), (25, 62, [.val Ac7, .val (.int .i64), .val (.int .i64), .val (.int .i64)]), (9, 24, [.val (.sl Ac3), .val .str, .val .bool, .val (.int .i64)])]⟩
abbrev ask_Read.j1s : LSh := ⟨[(2, .ptr 2 0), (8, .ptr 25 0), (9, .ptr 9 0)], [(2, 24, [.val (.sl Ac3), .val .str, .val .bool, .val (.int .i64)]), (25, 62, [.val Ac7, .val (.int .i64), .val (.int .i64), .val (.int .i64)]), (9, 24, [.val (.sl Ac3), .val .str, .val .bool, .val (.int .i64)])]⟩
abbrev ask_Read.j2s : LSh := ⟨[(2, .ptr 2 0), (8, .ptr 25 0), (9, .ptr 9 0)], [(2, 24, [.val (.sl Ac3), .val .str, .val .bool, .val (.int .i64)]), (25, 62, [.val Ac7, .val (.int .i64), .val (.int .i64), .val (.int .i64)]), (9, 24, [.val (.sl Ac3), .val .str, .val .bool, .val (.int .i64)])]⟩
abbrev ask_Read.j3s : LSh := ⟨[(2, .ptr 2 0), (8, .ptr 25 0), (9, .ptr 9 0)], [(2, 24, [.val (.sl Ac3), .val .str, .val .bool, .val (.int .i64)]), (25, 62, [.val Ac7, .val (.int .i64), .val (.int .i64), .val (.int .i64)]), (9, 24, [.val (.sl Ac3), .val .str, .val .bool, .val (.int .i64)])]⟩
noncomputable def ask_Read.labF : Nat → List (LabF ask_Read.out.den)
  | 16 => [⟨ask_Read.l0s, fun k (d : (Unit × Unit × Unit × Unit) × (Ab8 × Ab6 × Ab8 × Unit)) => (ask_Read.l0 k d.2.1.1 d.2.1.2.1 d.2.1.2.2.1 d.2.1.2.2.2.1 d.2.2.1.1 d.2.2.1.2.1 d.2.2.1.2.2.1 d.2.2.1.2.2.2.1 d.2.2.2.1.1 d.2.2.2.1.2.1 d.2.2.2.1.2.2.1 d.2.2.2.1.2.2.2.1 : Option ask_Read.R)⟩]
  | 21 => [⟨ask_Read.j0s, fun k (d : (Unit × Unit × Unit × Unit) × (Ab8 × Ab6 × Ab8 × Unit)) => (ask_Read.j0 k d.2.1.1 d.2.1.2.1 d.2.1.2.2.1 d.2.1.2.2.2.1 d.2.2.1.1 d.2.2.1.2.1 d.2.2.1.2.2.1 d.2.2.1.2.2.2.1 d.2.2.2.1.1 d.2.2.2.1.2.1 d.2.2.2.1.2.2.1 d.2.2.2.1.2.2.2.1 : Option ask_Read.R)⟩]
  | 33 => [⟨ask_Read.j1s, fun k (d : (Unit × Unit × Unit × Unit) × (Ab8 × Ab6 × Ab8 × Unit)) => (ask_Read.j1 k d.2.1.1 d.2.1.2.1 d.2.1.2.2.1 d.2.1.2.2.2.1 d.2.2.1.1 d.2.2.1.2.1 d.2.2.1.2.2.1 d.2.2.1.2.2.2.1 d.2.2.2.1.1 d.2.2.2.1.2.1 d.2.2.2.1.2.2.1 d.2.2.2.1.2.2.2.1 : Option ask_Read.R)⟩]
  | 37 => [⟨ask_Read.j2s, fun k (d : (Unit × Unit × Unit × Unit) × (Ab8 × Ab6 × Ab8 × Unit)) => (ask_Read.j2 k d.2.1.1 d.2.1.2.1 d.2.1.2.2.1 d.2.1.2.2.2.1 d.2.2.1.1 d.2.2.1.2.1 d.2.2.1.2.2.1 d.2.2.1.2.2.2.1 d.2.2.2.1.1 d.2.2.2.1.2.1 d.2.2.2.1.2.2.1 d.2.2.2.1.2.2.2.1 : Option ask_Read.R)⟩]
  | 41 => [⟨ask_Read.j3s, fun k (d : (Unit × Unit × Unit × Unit) × (Ab8 × Ab6 × Ab8 × Unit)) => (ask_Read.j3 k d.2.1.1 d.2.1.2.1 d.2.1.2.2.1 d.2.1.2.2.2.1 d.2.2.1.1 d.2.2.1.2.1 d.2.2.1.2.2.1 d.2.2.1.2.2.2.1 d.2.2.2.1.1 d.2.2.2.1.2.1 d.2.2.2.1.2.2.1 d.2.2.2.1.2.2.2.1 : Option ask_Read.R)⟩]
  | _ => []
noncomputable def ask_Read.fd : FnD := ⟨Try.f10, ask_Read.ini, ask_Read.out, 3, [], [], ask_Read.labF, fun k (d : (ByteArray × Unit) × (Unit)) => (ask_Read.f k d.1.1 : Option ask_Read.R), none, []⟩

/-! ### chartularylaw26_awake : function 9 -/
abbrev chartularylaw26_awake.R := (Bool × Unit) × (Unit)
noncomputable def chartularylaw26_awake.f : Nat → Option chartularylaw26_awake.R
  | 0 => none
  | k + 1 =>
    (ask_Read.f k (⟨#[119, 104, 101, 114, 101, 32, 34, 97, 34, 32, 102, 114, 111, 109, 32, 50, 32, 98, 121, 32, 34, 97, 34, 32, 100, 111, 119, 110, 32, 109, 111, 115, 116, 32, 51]⟩ : ByteArray)).bind fun r1 =>
    bif (r1.1.2.2.1 : Int) == 0 then
      bif ((r1.1.1.1.length : Int) : Int) == 1 then
        (rdo r1.1.1.1 0).bind fun t2 =>
        bif t2.2.2.2.1 then
          (rdo r1.1.1.1 0).bind fun t3 =>
          bif !t3.2.2.2.2.1 then
            bif r1.1.1.2.1.toList == (⟨#[97]⟩ : ByteArray).toList then
              bif r1.1.1.2.2.1 then
                some (((r1.1.1.2.2.2.1 : Int) == 3, ()), (()))
              else
                some ((false, ()), (()))
            else
              some ((false, ()), (()))
          else
            some ((false, ()), (()))
        else
          some ((false, ()), (()))
      else
        some ((false, ()), (()))
    else
      some ((false, ()), (()))
abbrev chartularylaw26_awake.ini : LSh := ⟨[], []⟩
abbrev chartularylaw26_awake.out : LSh := ⟨[(0, .val .bool)], []⟩
noncomputable def chartularylaw26_awake.labF : Nat → List (LabF chartularylaw26_awake.out.den)
  | _ => []
noncomputable def chartularylaw26_awake.fd : FnD := ⟨Try.f9, chartularylaw26_awake.ini, chartularylaw26_awake.out, 1, [], [], chartularylaw26_awake.labF, fun k (d : (Unit) × (Unit)) => (chartularylaw26_awake.f k : Option chartularylaw26_awake.R), none, []⟩

/-! ### chartularylaw05_Few : function 14 -/
abbrev chartularylaw05_Few.R := (Ab2 × Unit) × (Unit)
mutual
noncomputable def chartularylaw05_Few.j0 : Nat → ByteArray → Int → (List (ByteArray × Ab5 × Unit)) → ByteArray → Int → (List (ByteArray × Ab5 × Unit)) → ByteArray → Int → (List (ByteArray × Ab5 × Unit)) → Option chartularylaw05_Few.R
  | 0, _, _, _, _, _, _, _, _, _ => none
  | k + 1, o1_0, o1_1, o1_2, o2_0, o2_1, o2_2, o3_0, o3_1, o3_2 =>
    chartularylaw05_Few.l0 k 0 o1_0 o1_1 o1_2 o2_0 o2_1 o2_2 o3_0 o3_1 o3_2
noncomputable def chartularylaw05_Few.l0 : Nat → Int → ByteArray → Int → (List (ByteArray × Ab5 × Unit)) → ByteArray → Int → (List (ByteArray × Ab5 × Unit)) → ByteArray → Int → (List (ByteArray × Ab5 × Unit)) → Option chartularylaw05_Few.R
  | 0, _, _, _, _, _, _, _, _, _, _ => none
  | k + 1, x4, o1_0, o1_1, o1_2, o2_0, o2_1, o2_2, o3_0, o3_1, o3_2 =>
    bif decide ((x4 : Int) < (o1_2.length : Int)) then
      bif decide ((x4 : Int) < 30) then
        (rdo o1_2 x4).bind fun t1 =>
        bif decide (((t1.1.size : Int) : Int) > 300) then
          (ck (decide (0 ≤ 0) && decide (0 ≤ 300) && decide (300 ≤ (t1.1.size : Int)))).bind fun _ =>
          bif decide (((t1.2.1.2.2.2.2.1.size : Int) : Int) > 300) then
            (ck (decide (0 ≤ 0) && decide (0 ≤ 300) && decide (300 ≤ (t1.2.1.2.2.2.2.1.size : Int)))).bind fun _ =>
            (ck (decide ((o3_2.length + ([(t1.1.extract (0 : Int).toNat (300 : Int).toNat, ((t1.2.1.1, (t1.2.1.2.1, (t1.2.1.2.2.1, (t1.2.1.2.2.2.1, (t1.2.1.2.2.2.2.1.extract (0 : Int).toNat (300 : Int).toNat, ()))))), ()))] : List (ByteArray × Ab5 × Unit)).length) * 64 ≤ 70368744177664))).bind fun _ =>
            chartularylaw05_Few.l0 k (IntKind.wrap .i64 (x4 + 1)) o1_0 o1_1 o1_2 o2_0 o2_1 o2_2 o3_0 o3_1 (o3_2 ++ ([(t1.1.extract (0 : Int).toNat (300 : Int).toNat, ((t1.2.1.1, (t1.2.1.2.1, (t1.2.1.2.2.1, (t1.2.1.2.2.2.1, (t1.2.1.2.2.2.2.1.extract (0 : Int).toNat (300 : Int).toNat, ()))))), ()))] : List (ByteArray × Ab5 × Unit)))
          else
            (ck (decide ((o3_2.length + ([(t1.1.extract (0 : Int).toNat (300 : Int).toNat, t1.2)] : List (ByteArray × Ab5 × Unit)).length) * 64 ≤ 70368744177664))).bind fun _ =>
            chartularylaw05_Few.l0 k (IntKind.wrap .i64 (x4 + 1)) o1_0 o1_1 o1_2 o2_0 o2_1 o2_2 o3_0 o3_1 (o3_2 ++ ([(t1.1.extract (0 : Int).toNat (300 : Int).toNat, t1.2)] : List (ByteArray × Ab5 × Unit)))
        else
        bif decide (((t1.2.1.2.2.2.2.1.size : Int) : Int) > 300) then
          (ck (decide (0 ≤ 0) && decide (0 ≤ 300) && decide (300 ≤ (t1.2.1.2.2.2.2.1.size : Int)))).bind fun _ =>
          (ck (decide ((o3_2.length + ([(t1.1, ((t1.2.1.1, (t1.2.1.2.1, (t1.2.1.2.2.1, (t1.2.1.2.2.2.1, (t1.2.1.2.2.2.2.1.extract (0 : Int).toNat (300 : Int).toNat, ()))))), ()))] : List (ByteArray × Ab5 × Unit)).length) * 64 ≤ 70368744177664))).bind fun _ =>
          chartularylaw05_Few.l0 k (IntKind.wrap .i64 (x4 + 1)) o1_0 o1_1 o1_2 o2_0 o2_1 o2_2 o3_0 o3_1 (o3_2 ++ ([(t1.1, ((t1.2.1.1, (t1.2.1.2.1, (t1.2.1.2.2.1, (t1.2.1.2.2.2.1, (t1.2.1.2.2.2.2.1.extract (0 : Int).toNat (300 : Int).toNat, ()))))), ()))] : List (ByteArray × Ab5 × Unit)))
        else
          (ck (decide ((o3_2.length + ([t1] : List (ByteArray × Ab5 × Unit)).length) * 64 ≤ 70368744177664))).bind fun _ =>
          chartularylaw05_Few.l0 k (IntKind.wrap .i64 (x4 + 1)) o1_0 o1_1 o1_2 o2_0 o2_1 o2_2 o3_0 o3_1 (o3_2 ++ ([t1] : List (ByteArray × Ab5 × Unit)))
      else
        some (((o3_0, (o3_1, (o3_2, ()))), ()), (()))
    else
      some (((o3_0, (o3_1, (o3_2, ()))), ()), (()))
noncomputable def chartularylaw05_Few.f : Nat → Ab2 → Option chartularylaw05_Few.R
  | 0, _ => none
  | k + 1, x0 =>
    bif decide (((x0.1.size : Int) : Int) > 300) then
      (ck (decide (0 ≤ 0) && decide (0 ≤ 300) && decide (300 ≤ (x0.1.size : Int)))).bind fun _ =>
      chartularylaw05_Few.j0 k x0.1 x0.2.1 x0.2.2.1 ByteArray.empty 0 ([] : List (ByteArray × Ab5 × Unit)) (x0.1.extract (0 : Int).toNat (300 : Int).toNat) x0.2.1 []
    else
      chartularylaw05_Few.j0 k x0.1 x0.2.1 x0.2.2.1 ByteArray.empty 0 ([] : List (ByteArray × Ab5 × Unit)) x0.1 x0.2.1 []
end
abbrev chartularylaw05_Few.ini : LSh := ⟨[(0, .val Ac4)], []⟩
abbrev chartularylaw05_Few.out : LSh := ⟨[(0, .val Ac4)], []⟩
abbrev chartularylaw05_Few.j0s : LSh := ⟨[(1, .ptr 1 0), (2, .ptr 2 0), (3, .ptr 3 0)], [(1, 37, [.val .str, .val (.int .i64), .val (.sl (.cons .str (.cons Ac1 .nil)))]), (2, 37, [.val .str, .val (.int .i64), .val (.sl (.cons .str (.cons Ac1 .nil)))]), (3, 37, [.val .str, .val (.int .i64), .own 3000302 68 (.cons .str (.cons Ac1 .nil))])]⟩
abbrev chartularylaw05_Few.l0s : LSh := ⟨[(1, .ptr 1 0), (2, .ptr 2 0), (3, .ptr 3 0), (4, .val (.int .i64))], [(1, 37, [.val .str, .val (.int .i64), .val (.sl (.cons .str (.cons Ac1 .nil)))]), (2, 37, [.val .str, .val (.int .i64), .val (.sl (.cons .str (.cons Ac1 .nil)))]), (3, 37, [.val .str, .val (.int .i64), .own 3000302 68 (.cons .str (.cons Ac1 .nil))])]⟩
noncomputable def chartularylaw05_Few.labF : Nat → List (LabF chartularylaw05_Few.out.den)
  | 9 => [⟨chartularylaw05_Few.j0s, fun k (d : (Unit × Unit × Unit × Unit) × ((ByteArray × Int × (List (ByteArray × Ab5 × Unit)) × Unit) × (ByteArray × Int × (List (ByteArray × Ab5 × Unit)) × Unit) × (ByteArray × Int × (List (ByteArray × Ab5 × Unit)) × Unit) × Unit)) => (chartularylaw05_Few.j0 k d.2.1.1 d.2.1.2.1 d.2.1.2.2.1 d.2.2.1.1 d.2.2.1.2.1 d.2.2.1.2.2.1 d.2.2.2.1.1 d.2.2.2.1.2.1 d.2.2.2.1.2.2.1 : Option chartularylaw05_Few.R)⟩]
  | 10 => [⟨chartularylaw05_Few.l0s, fun k (d : (Unit × Unit × Unit × Int × Unit) × ((ByteArray × Int × (List (ByteArray × Ab5 × Unit)) × Unit) × (ByteArray × Int × (List (ByteArray × Ab5 × Unit)) × Unit) × (ByteArray × Int × (List (ByteArray × Ab5 × Unit)) × Unit) × Unit)) => (chartularylaw05_Few.l0 k d.1.2.2.2.1 d.2.1.1 d.2.1.2.1 d.2.1.2.2.1 d.2.2.1.1 d.2.2.1.2.1 d.2.2.1.2.2.1 d.2.2.2.1.1 d.2.2.2.1.2.1 d.2.2.2.1.2.2.1 : Option chartularylaw05_Few.R)⟩]
  | _ => []
noncomputable def chartularylaw05_Few.fd : FnD := ⟨Try.f14, chartularylaw05_Few.ini, chartularylaw05_Few.out, 1, [], [], chartularylaw05_Few.labF, fun k (d : (Ab2 × Unit) × (Unit)) => (chartularylaw05_Few.f k d.1.1 : Option chartularylaw05_Few.R), none, []⟩

/-! ### paper_Find_1_v0 : function 68 -/
abbrev paper_Find_1_v0.R := (Bool × Unit) × (Unit)
noncomputable def paper_Find_1_v0.f : Nat → (ByteArray × Ab5 × Unit) → ByteArray → Option paper_Find_1_v0.R
  | 0, _, _ => none
  | k + 1, x0, o0_0 =>
    some ((x0.1.toList == o0_0.toList, ()), (()))
abbrev paper_Find_1_v0.ini : LSh := ⟨[(0, .val (.cons .str (.cons Ac1 .nil))), (1, .ptr 1000000 0)], [(1000000, 9, [.val .str])]⟩
abbrev paper_Find_1_v0.out : LSh := ⟨[(0, .val .bool)], []⟩
noncomputable def paper_Find_1_v0.labF : Nat → List (LabF paper_Find_1_v0.out.den)
  | _ => []
noncomputable def paper_Find_1_v0.fd : FnD := ⟨Try.f68, paper_Find_1_v0.ini, paper_Find_1_v0.out, 1, [1000000], [1000000], paper_Find_1_v0.labF, fun k (d : ((ByteArray × Ab5 × Unit) × Unit × Unit) × ((ByteArray × Unit) × Unit)) => (paper_Find_1_v0.f k d.1.1 d.2.1.1 : Option paper_Find_1_v0.R), none, []⟩

/-! ### slices_IndexFunc_api_Field_v0 : function 67 -/
abbrev slices_IndexFunc_api_Field_v0.R := (Int × Unit) × (Unit)
mutual
noncomputable def slices_IndexFunc_api_Field_v0.l0 : Nat → (List (ByteArray × Ab5 × Unit)) → Int → Int → ByteArray → Option slices_IndexFunc_api_Field_v0.R
  | 0, _, _, _, _ => none
  | k + 1, x0, x7, x8, o0_0 =>
    bif decide ((x8 : Int) < x7) then
      (rdo x0 x8).bind fun t1 =>
      (paper_Find_1_v0.f k t1 o0_0).bind fun r2 =>
      bif r2.1.1 then
        some ((x8, ()), (()))
      else
        slices_IndexFunc_api_Field_v0.l0 k x0 x7 (IntKind.wrap .i64 (x8 + 1)) o0_0
    else
      some (((-1), ()), (()))
noncomputable def slices_IndexFunc_api_Field_v0.f : Nat → (List (ByteArray × Ab5 × Unit)) → ByteArray → Option slices_IndexFunc_api_Field_v0.R
  | 0, _, _ => none
  | k + 1, x0, o0_0 =>
    slices_IndexFunc_api_Field_v0.l0 k x0 (x0.length : Int) 0 o0_0
end
abbrev slices_IndexFunc_api_Field_v0.ini : LSh := ⟨[(0, .val (.sl (.cons .str (.cons Ac1 .nil)))), (1, .clo 68 [(1000000, 0)])], [(1000000, 9, [.val .str])]⟩
abbrev slices_IndexFunc_api_Field_v0.out : LSh := ⟨[(0, .val (.int .i64))], []⟩
abbrev slices_IndexFunc_api_Field_v0.l0s : LSh := ⟨[(0, .val (.sl (.cons .str (.cons Ac1 .nil)))), (1, .clo 68 [(1000000, 0)]), (7, .val (.int .i64)), (8, .val (.int .i64))], [(1000000, 9, [.val .str])]⟩
noncomputable def slices_IndexFunc_api_Field_v0.labF : Nat → List (LabF slices_IndexFunc_api_Field_v0.out.den)
  | 4 => [⟨slices_IndexFunc_api_Field_v0.l0s, fun k (d : ((List (ByteArray × Ab5 × Unit)) × Unit × Int × Int × Unit) × ((ByteArray × Unit) × Unit)) => (slices_IndexFunc_api_Field_v0.l0 k d.1.1 d.1.2.2.1 d.1.2.2.2.1 d.2.1.1 : Option slices_IndexFunc_api_Field_v0.R)⟩]
  | _ => []
noncomputable def slices_IndexFunc_api_Field_v0.fd : FnD := ⟨Try.f67, slices_IndexFunc_api_Field_v0.ini, slices_IndexFunc_api_Field_v0.out, 1, [1000000], [1000000], slices_IndexFunc_api_Field_v0.labF, fun k (d : ((List (ByteArray × Ab5 × Unit)) × Unit × Unit) × ((ByteArray × Unit) × Unit)) => (slices_IndexFunc_api_Field_v0.f k d.1.1 d.2.1.1 : Option slices_IndexFunc_api_Field_v0.R), none, []⟩

/-! ### paper_Find : function 49 -/
abbrev paper_Find.R := (Int × Unit) × (Unit)
noncomputable def paper_Find.f : Nat → Ab2 → ByteArray → Option paper_Find.R
  | 0, _, _ => none
  | k + 1, x0, x1 =>
    (slices_IndexFunc_api_Field_v0.f k x0.2.2.1 x1).bind fun r1 =>
    some ((r1.1.1, ()), (()))
abbrev paper_Find.ini : LSh := ⟨[(0, .val Ac4), (1, .val .str)], []⟩
abbrev paper_Find.out : LSh := ⟨[(0, .val (.int .i64))], []⟩
noncomputable def paper_Find.labF : Nat → List (LabF paper_Find.out.den)
  | _ => []
noncomputable def paper_Find.fd : FnD := ⟨Try.f49, paper_Find.ini, paper_Find.out, 1, [], [], paper_Find.labF, fun k (d : (Ab2 × ByteArray × Unit) × (Unit)) => (paper_Find.f k d.1.1 d.1.2.1 : Option paper_Find.R), none, []⟩

/-! ### value_sign : function 71 -/
abbrev value_sign.R := (Int × Unit) × (Unit)
noncomputable def value_sign.f : Nat → Bool → Bool → Option value_sign.R
  | 0, _, _ => none
  | k + 1, x0, x1 =>
    bif x0 then
      some (((-1), ()), (()))
    else
    bif x1 then
      some ((1, ()), (()))
    else
      some ((0, ()), (()))
abbrev value_sign.ini : LSh := ⟨[(0, .val .bool), (1, .val .bool)], []⟩
abbrev value_sign.out : LSh := ⟨[(0, .val (.int .i64))], []⟩
noncomputable def value_sign.labF : Nat → List (LabF value_sign.out.den)
  | _ => []
noncomputable def value_sign.fd : FnD := ⟨Try.f71, value_sign.ini, value_sign.out, 1, [], [], value_sign.labF, fun k (d : (Bool × Bool × Unit) × (Unit)) => (value_sign.f k d.1.1 d.1.2.1 : Option value_sign.R), none, []⟩

/-! ### value_rank : function 72 -/
abbrev value_rank.R := (Int × Unit) × (Unit)
noncomputable def value_rank.f : Nat → Int → Option value_rank.R
  | 0, _ => none
  | k + 1, x0 =>
    (ck (!decide ((63 : Int) < 0))).bind fun _ =>
    bif (Int.fdiv x0 (2 ^ (min (63 : Int).toNat (IntKind.bits .u64))) : Int) == 1 then
      some ((IntKind.wrap .u64 ((BitVec.ofInt (IntKind.bits .u64) (match IntKind.signed .u64 with | true => -1 | false => IntKind.max .u64) ^^^ BitVec.ofInt (IntKind.bits .u64) x0).toNat : Int), ()), (()))
    else
      some ((IntKind.wrap .u64 ((BitVec.ofInt (IntKind.bits .u64) x0 ||| BitVec.ofInt (IntKind.bits .u64) 9223372036854775808).toNat : Int), ()), (()))
abbrev value_rank.ini : LSh := ⟨[(0, .val (.int .u64))], []⟩
abbrev value_rank.out : LSh := ⟨[(0, .val (.int .u64))], []⟩
noncomputable def value_rank.labF : Nat → List (LabF value_rank.out.den)
  | _ => []
noncomputable def value_rank.fd : FnD := ⟨Try.f72, value_rank.ini, value_rank.out, 1, [], [], value_rank.labF, fun k (d : (Int × Unit) × (Unit)) => (value_rank.f k d.1.1 : Option value_rank.R), none, []⟩

/-! ### bytealg_CompareString : function 81 -/
abbrev bytealg_CompareString.R := (Int × Unit) × (Unit)
noncomputable def bytealg_CompareString.f : Nat → ByteArray → ByteArray → Option bytealg_CompareString.R
  | 0, _, _ => none
  | k + 1, x0, x1 =>
    (strCmp.f k x0 x1).bind fun r1 =>
    some ((r1.1.1, ()), (()))
abbrev bytealg_CompareString.ini : LSh := ⟨[(0, .val .str), (1, .val .str)], []⟩
abbrev bytealg_CompareString.out : LSh := ⟨[(0, .val (.int .i64))], []⟩
noncomputable def bytealg_CompareString.labF : Nat → List (LabF bytealg_CompareString.out.den)
  | _ => []
noncomputable def bytealg_CompareString.fd : FnD := ⟨Try.f81, bytealg_CompareString.ini, bytealg_CompareString.out, 1, [], [], bytealg_CompareString.labF, fun k (d : (ByteArray × ByteArray × Unit) × (Unit)) => (bytealg_CompareString.f k d.1.1 d.1.2.1 : Option bytealg_CompareString.R), none, []⟩

/-! ### strings_Compare : function 73 -/
abbrev strings_Compare.R := (Int × Unit) × (Unit)
noncomputable def strings_Compare.f : Nat → ByteArray → ByteArray → Option strings_Compare.R
  | 0, _, _ => none
  | k + 1, x0, x1 =>
    (bytealg_CompareString.f k x0 x1).bind fun r1 =>
    some ((r1.1.1, ()), (()))
abbrev strings_Compare.ini : LSh := ⟨[(0, .val .str), (1, .val .str)], []⟩
abbrev strings_Compare.out : LSh := ⟨[(0, .val (.int .i64))], []⟩
noncomputable def strings_Compare.labF : Nat → List (LabF strings_Compare.out.den)
  | _ => []
noncomputable def strings_Compare.fd : FnD := ⟨Try.f73, strings_Compare.ini, strings_Compare.out, 1, [], [], strings_Compare.labF, fun k (d : (ByteArray × ByteArray × Unit) × (Unit)) => (strings_Compare.f k d.1.1 d.1.2.1 : Option strings_Compare.R), none, []⟩

/-! ### value_Compare : function 53 -/
abbrev value_Compare.R := (Int × Unit) × (Unit)
noncomputable def value_Compare.f : Nat → Ab5 → Ab5 → Option value_Compare.R
  | 0, _, _ => none
  | k + 1, x0, x1 =>
    bif (x0.1 : Int) != x1.1 then
      (value_sign.f k (decide ((x0.1 : Int) < x1.1)) (decide ((x0.1 : Int) > x1.1))).bind fun r1 =>
      some ((r1.1.1, ()), (()))
    else
    bif (x0.1 : Int) == 1 then
      bif !x0.2.1 then
        bif x0.2.1 then
          (value_sign.f k x1.2.1 (!x1.2.1)).bind fun r2 =>
          some ((r2.1.1, ()), (()))
        else
          (value_sign.f k x1.2.1 false).bind fun r3 =>
          some ((r3.1.1, ()), (()))
      else
      bif x0.2.1 then
        (value_sign.f k false (!x1.2.1)).bind fun r4 =>
        some ((r4.1.1, ()), (()))
      else
        (value_sign.f k false false).bind fun r5 =>
        some ((r5.1.1, ()), (()))
    else
    bif (x0.1 : Int) == 2 then
      (value_sign.f k (decide ((x0.2.2.1 : Int) < x1.2.2.1)) (decide ((x0.2.2.1 : Int) > x1.2.2.1))).bind fun r6 =>
      some ((r6.1.1, ()), (()))
    else
    bif (x0.1 : Int) == 3 then
      (value_Clean.f k x0).bind fun r7 =>
      (value_rank.f k r7.1.1.2.2.2.1).bind fun r8 =>
      (value_Clean.f k x1).bind fun r9 =>
      (value_rank.f k r9.1.1.2.2.2.1).bind fun r10 =>
      (value_sign.f k (decide ((r8.1.1 : Int) < r10.1.1)) (decide ((r8.1.1 : Int) > r10.1.1))).bind fun r11 =>
      some ((r11.1.1, ()), (()))
    else
    bif (x0.1 : Int) == 4 then
      (strings_Compare.f k x0.2.2.2.2.1 x1.2.2.2.2.1).bind fun r12 =>
      some ((r12.1.1, ()), (()))
    else
      some ((0, ()), (()))
abbrev value_Compare.ini : LSh := ⟨[(0, .val Ac1), (1, .val Ac1)], []⟩
abbrev value_Compare.out : LSh := ⟨[(0, .val (.int .i64))], []⟩
noncomputable def value_Compare.labF : Nat → List (LabF value_Compare.out.den)
  | _ => []
noncomputable def value_Compare.fd : FnD := ⟨Try.f53, value_Compare.ini, value_Compare.out, 1, [], [], value_Compare.labF, fun k (d : (Ab5 × Ab5 × Unit) × (Unit)) => (value_Compare.f k d.1.1 d.1.2.1 : Option value_Compare.R), none, []⟩

/-! ### find_between : function 50 -/
abbrev find_between.R := (Bool × Unit) × (Unit)
mutual
noncomputable def find_between.j0 : Nat → ByteArray → Ab5 → Ab5 → Bool → Bool → Bool → Int → Bool → Int → Int → ByteArray → Option find_between.R
  | 0, _, _, _, _, _, _, _, _, _, _, _ => none
  | k + 1, o2_0, o2_1, o2_2, o2_3, o2_4, o2_5, o3_0, o3_1, o3_2, o3_3, o3_4 =>
    bif !o2_4 then
      some ((true, ()), (()))
    else
    bif (o3_0 : Int) == o2_2.1 then
      (value_Compare.f k (o3_0, (o3_1, (o3_2, (o3_3, (o3_4, ()))))) o2_2).bind fun r2 =>
      some ((decide ((r2.1.1 : Int) ≤ 0), ()), (()))
    else
      some ((false, ()), (()))
noncomputable def find_between.f : Nat → Ab0 → Ab5 → Option find_between.R
  | 0, _, _ => none
  | k + 1, x0, x1 =>
    bif x0.2.2.2.1 then
      bif (x1.1 : Int) != x0.2.1.1 then
        some ((false, ()), (()))
      else
        (value_Compare.f k x1 x0.2.1).bind fun r1 =>
        bif decide ((r1.1.1 : Int) < 0) then
          some ((false, ()), (()))
        else
          find_between.j0 k x0.1 x0.2.1 x0.2.2.1 x0.2.2.2.1 x0.2.2.2.2.1 x0.2.2.2.2.2.1 x1.1 x1.2.1 x1.2.2.1 x1.2.2.2.1 x1.2.2.2.2.1
    else
      find_between.j0 k x0.1 x0.2.1 x0.2.2.1 x0.2.2.2.1 x0.2.2.2.2.1 x0.2.2.2.2.2.1 x1.1 x1.2.1 x1.2.2.1 x1.2.2.2.1 x1.2.2.2.2.1
end
abbrev find_between.ini : LSh := ⟨[(0, .val Ac3), (1, .val Ac1)], []⟩
abbrev find_between.out : LSh := ⟨[(0, .val .bool)], []⟩
abbrev find_between.j0s : LSh := ⟨[(2, .ptr 2 0), (3, .ptr 3 0)], [(2, 50, [.val .str, .val Ac1, .val Ac1, .val .bool, .val .bool, .val .bool]), (3, 48, [.val (.int .i64), .val .bool, .val (.int .i64), .val (.int .u64), .val .str])]⟩
noncomputable def find_between.labF : Nat → List (LabF find_between.out.den)
  | 7 => [⟨find_between.j0s, fun k (d : (Unit × Unit × Unit) × (Ab0 × Ab5 × Unit)) => (find_between.j0 k d.2.1.1 d.2.1.2.1 d.2.1.2.2.1 d.2.1.2.2.2.1 d.2.1.2.2.2.2.1 d.2.1.2.2.2.2.2.1 d.2.2.1.1 d.2.2.1.2.1 d.2.2.1.2.2.1 d.2.2.1.2.2.2.1 d.2.2.1.2.2.2.2.1 : Option find_between.R)⟩]
  | _ => []
noncomputable def find_between.fd : FnD := ⟨Try.f50, find_between.ini, find_between.out, 1, [], [], find_between.labF, fun k (d : (Ab0 × Ab5 × Unit) × (Unit)) => (find_between.f k d.1.1 d.1.2.1 : Option find_between.R), none, []⟩

/-! ### find_Holds : function 33 -/
abbrev find_Holds.R := (Bool × Unit) × (Unit)
noncomputable def find_Holds.f : Nat → Ab0 → Ab2 → Option find_Holds.R
  | 0, _, _ => none
  | k + 1, x0, x1 =>
    (paper_Find.f k x1 x0.1).bind fun r1 =>
    bif decide ((r1.1.1 : Int) ≥ 0) then
      (rdo x1.2.2.1 r1.1.1).bind fun t2 =>
      (find_between.f k x0 t2.2.1).bind fun r3 =>
      some ((!(r3.1.1 == x0.2.2.2.2.2.1), ()), (()))
    else
      some ((false, ()), (()))
abbrev find_Holds.ini : LSh := ⟨[(0, .val Ac3), (1, .val Ac4)], []⟩
abbrev find_Holds.out : LSh := ⟨[(0, .val .bool)], []⟩
noncomputable def find_Holds.labF : Nat → List (LabF find_Holds.out.den)
  | _ => []
noncomputable def find_Holds.fd : FnD := ⟨Try.f33, find_Holds.ini, find_Holds.out, 1, [], [], find_Holds.labF, fun k (d : (Ab0 × Ab2 × Unit) × (Unit)) => (find_Holds.f k d.1.1 d.1.2.1 : Option find_Holds.R), none, []⟩

/-! ### find_by : function 52 -/
abbrev find_by.R := (Ab5 × Bool × Unit) × (Unit)
noncomputable def find_by.f : Nat → Ab2 → ByteArray → Option find_by.R
  | 0, _, _ => none
  | k + 1, x0, x1 =>
    (paper_Find.f k x0 x1).bind fun r1 =>
    bif decide ((r1.1.1 : Int) < 0) then
      some (((0, (false, (0, (0, (ByteArray.empty, ()))))), false, ()), (()))
    else
      (rdo x0.2.2.1 r1.1.1).bind fun t2 =>
      some ((t2.2.1, true, ()), (()))
abbrev find_by.ini : LSh := ⟨[(0, .val Ac4), (1, .val .str)], []⟩
abbrev find_by.out : LSh := ⟨[(0, .val Ac1), (1, .val .bool)], []⟩
noncomputable def find_by.labF : Nat → List (LabF find_by.out.den)
  | _ => []
noncomputable def find_by.fd : FnD := ⟨Try.f52, find_by.ini, find_by.out, 2, [], [], find_by.labF, fun k (d : (Ab2 × ByteArray × Unit) × (Unit)) => (find_by.f k d.1.1 d.1.2.1 : Option find_by.R), none, []⟩

/-! ### find_compare : function 36 -/
abbrev find_compare.R := (Int × Unit) × (Unit)
noncomputable def find_compare.f : Nat → Ab2 → Ab2 → ByteArray → Bool → Option find_compare.R
  | 0, _, _, _, _ => none
  | k + 1, x0, x1, x2, x3 =>
    (find_by.f k x0 x2).bind fun r1 =>
    (find_by.f k x1 x2).bind fun r2 =>
    bif !r1.1.2.1 then
      bif !r2.1.2.1 then
        some ((0, ()), (()))
      else
      bif !r1.1.2.1 then
        some ((1, ()), (()))
      else
      bif !r2.1.2.1 then
        some (((-1), ()), (()))
      else
      bif x3 then
        (value_Compare.f k r2.1.1 r1.1.1).bind fun r3 =>
        some ((r3.1.1, ()), (()))
      else
        (value_Compare.f k r1.1.1 r2.1.1).bind fun r4 =>
        some ((r4.1.1, ()), (()))
    else
    bif !r1.1.2.1 then
      some ((1, ()), (()))
    else
    bif !r2.1.2.1 then
      some (((-1), ()), (()))
    else
    bif x3 then
      (value_Compare.f k r2.1.1 r1.1.1).bind fun r5 =>
      some ((r5.1.1, ()), (()))
    else
      (value_Compare.f k r1.1.1 r2.1.1).bind fun r6 =>
      some ((r6.1.1, ()), (()))
abbrev find_compare.ini : LSh := ⟨[(0, .val Ac4), (1, .val Ac4), (2, .val .str), (3, .val .bool)], []⟩
abbrev find_compare.out : LSh := ⟨[(0, .val (.int .i64))], []⟩
noncomputable def find_compare.labF : Nat → List (LabF find_compare.out.den)
  | _ => []
noncomputable def find_compare.fd : FnD := ⟨Try.f36, find_compare.ini, find_compare.out, 1, [], [], find_compare.labF, fun k (d : (Ab2 × Ab2 × ByteArray × Bool × Unit) × (Unit)) => (find_compare.f k d.1.1 d.1.2.1 d.1.2.2.1 d.1.2.2.2.1 : Option find_compare.R), none, []⟩

/-! ### find_Run_1_v0 : function 35 -/
abbrev find_Run_1_v0.R := (Int × Unit) × (Unit)
noncomputable def find_Run_1_v0.f : Nat → Int → Int → (List Ab2) → (List Ab0) → ByteArray → Bool → Int → Option find_Run_1_v0.R
  | 0, _, _, _, _, _, _, _ => none
  | k + 1, x0, x1, o0_0, o1_0, o1_1, o1_2, o1_3 =>
    (rdo o0_0 x0).bind fun t1 =>
    (rdo o0_0 x1).bind fun t2 =>
    (find_compare.f k t1 t2 o1_1 o1_2).bind fun r3 =>
    some ((r3.1.1, ()), (()))
abbrev find_Run_1_v0.ini : LSh := ⟨[(0, .val (.int .i64)), (1, .val (.int .i64)), (2, .ptr 1000000 0), (3, .ptr 1000001 0)], [(1000000, 34, [.val (.sl Ac4)]), (1000001, 24, [.val (.sl Ac3), .val .str, .val .bool, .val (.int .i64)])]⟩
abbrev find_Run_1_v0.out : LSh := ⟨[(0, .val (.int .i64))], []⟩
noncomputable def find_Run_1_v0.labF : Nat → List (LabF find_Run_1_v0.out.den)
  | _ => []
noncomputable def find_Run_1_v0.fd : FnD := ⟨Try.f35, find_Run_1_v0.ini, find_Run_1_v0.out, 1, [1000000, 1000001], [1000000, 1000001], find_Run_1_v0.labF, fun k (d : (Int × Int × Unit × Unit × Unit) × (((List Ab2) × Unit) × Ab8 × Unit)) => (find_Run_1_v0.f k d.1.1 d.1.2.1 d.2.1.1 d.2.2.1.1 d.2.2.1.2.1 d.2.2.1.2.2.1 d.2.2.1.2.2.2.1 : Option find_Run_1_v0.R), none, []⟩

/-! ### slices_insertionSortCmpFunc_int_v0 : function 69 -/
abbrev slices_insertionSortCmpFunc_int_v0.R := (List Int × Unit) × (Unit)
mutual
noncomputable def slices_insertionSortCmpFunc_int_v0.l0 : Nat → (List Int) → Int → Int → Int → (List Ab2) → (List Ab0) → ByteArray → Bool → Int → Option slices_insertionSortCmpFunc_int_v0.R
  | 0, _, _, _, _, _, _, _, _, _ => none
  | k + 1, x0, x1, x2, x8, o0_0, o1_0, o1_1, o1_2, o1_3 =>
    bif decide ((x8 : Int) < x2) then
      slices_insertionSortCmpFunc_int_v0.l1 k x0 x1 x2 x8 x8 o0_0 o1_0 o1_1 o1_2 o1_3
    else
      some ((x0, ()), (()))
noncomputable def slices_insertionSortCmpFunc_int_v0.l1 : Nat → (List Int) → Int → Int → Int → Int → (List Ab2) → (List Ab0) → ByteArray → Bool → Int → Option slices_insertionSortCmpFunc_int_v0.R
  | 0, _, _, _, _, _, _, _, _, _, _ => none
  | k + 1, x0, x1, x2, x8, x9, o0_0, o1_0, o1_1, o1_2, o1_3 =>
    bif decide ((x9 : Int) > x1) then
      (ck (decide (0 ≤ x9) && decide (x9 < (x0.length : Int)))).bind fun _ =>
      (rdo x0 x9).bind fun t1 =>
      (ck (decide (0 ≤ IntKind.wrap .i64 (x9 - 1)) && decide (IntKind.wrap .i64 (x9 - 1) < (x0.length : Int)))).bind fun _ =>
      (rdo x0 (IntKind.wrap .i64 (x9 - 1))).bind fun t2 =>
      (find_Run_1_v0.f k t1 t2 o0_0 o1_0 o1_1 o1_2 o1_3).bind fun r3 =>
      bif decide ((r3.1.1 : Int) < 0) then
        (ck (decide (0 ≤ IntKind.wrap .i64 (x9 - 1)) && decide (IntKind.wrap .i64 (x9 - 1) < (x0.length : Int)))).bind fun _ =>
        (rdo x0 (IntKind.wrap .i64 (x9 - 1))).bind fun t4 =>
        (ck (decide (0 ≤ x9) && decide (x9 < (x0.length : Int)))).bind fun _ =>
        (rdo x0 x9).bind fun t5 =>
        (ck (decide (0 ≤ x9) && decide (x9 < (x0.length : Int)))).bind fun _ =>
        (ck (decide (0 ≤ IntKind.wrap .i64 (x9 - 1)) && decide (IntKind.wrap .i64 (x9 - 1) < ((x0.set x9.toNat t4).length : Int)))).bind fun _ =>
        slices_insertionSortCmpFunc_int_v0.l1 k ((x0.set x9.toNat t4).set (IntKind.wrap .i64 (x9 - 1) : Int).toNat t5) x1 x2 x8 (IntKind.wrap .i64 (x9 - 1)) o0_0 o1_0 o1_1 o1_2 o1_3
      else
        slices_insertionSortCmpFunc_int_v0.l0 k x0 x1 x2 (IntKind.wrap .i64 (x8 + 1)) o0_0 o1_0 o1_1 o1_2 o1_3
    else
      slices_insertionSortCmpFunc_int_v0.l0 k x0 x1 x2 (IntKind.wrap .i64 (x8 + 1)) o0_0 o1_0 o1_1 o1_2 o1_3
noncomputable def slices_insertionSortCmpFunc_int_v0.f : Nat → (List Int) → Int → Int → (List Ab2) → (List Ab0) → ByteArray → Bool → Int → Option slices_insertionSortCmpFunc_int_v0.R
  | 0, _, _, _, _, _, _, _, _ => none
  | k + 1, x0, x1, x2, o0_0, o1_0, o1_1, o1_2, o1_3 =>
    slices_insertionSortCmpFunc_int_v0.l0 k x0 x1 x2 (IntKind.wrap .i64 (x1 + 1)) o0_0 o1_0 o1_1 o1_2 o1_3
end
abbrev slices_insertionSortCmpFunc_int_v0.ini : LSh := ⟨[(0, .own 3900000 3 (.mu (.int .i64))), (1, .val (.int .i64)), (2, .val (.int .i64)), (3, .clo 35 [(1000000, 0), (1000001, 0)])], [(1000000, 34, [.val (.sl Ac4)]), (1000001, 24, [.val (.sl Ac3), .val .str, .val .bool, .val (.int .i64)])]⟩
abbrev slices_insertionSortCmpFunc_int_v0.out : LSh := ⟨[(0, .own 3900000 3 (.mu (.int .i64)))], []⟩
abbrev slices_insertionSortCmpFunc_int_v0.l0s : LSh := ⟨[(0, .own 3900000 3 (.mu (.int .i64))), (1, .val (.int .i64)), (2, .val (.int .i64)), (3, .clo 35 [(1000000, 0), (1000001, 0)]), (8, .val (.int .i64))], [(1000000, 34, [.val (.sl Ac4)]), (1000001, 24, [.val (.sl Ac3), .val .str, .val .bool, .val (.int .i64)])]⟩
abbrev slices_insertionSortCmpFunc_int_v0.l1s : LSh := ⟨[(0, .own 3900000 3 (.mu (.int .i64))), (1, .val (.int .i64)), (2, .val (.int .i64)), (3, .clo 35 [(1000000, 0), (1000001, 0)]), (8, .val (.int .i64)), (9, .val (.int .i64))], [(1000000, 34, [.val (.sl Ac4)]), (1000001, 24, [.val (.sl Ac3), .val .str, .val .bool, .val (.int .i64)])]⟩
noncomputable def slices_insertionSortCmpFunc_int_v0.labF : Nat → List (LabF slices_insertionSortCmpFunc_int_v0.out.den)
  | 2 => [⟨slices_insertionSortCmpFunc_int_v0.l0s, fun k (d : (List Int × Int × Int × Unit × Int × Unit) × (((List Ab2) × Unit) × Ab8 × Unit)) => (slices_insertionSortCmpFunc_int_v0.l0 k d.1.1 d.1.2.1 d.1.2.2.1 d.1.2.2.2.2.1 d.2.1.1 d.2.2.1.1 d.2.2.1.2.1 d.2.2.1.2.2.1 d.2.2.1.2.2.2.1 : Option slices_insertionSortCmpFunc_int_v0.R)⟩]
  | 8 => [⟨slices_insertionSortCmpFunc_int_v0.l1s, fun k (d : (List Int × Int × Int × Unit × Int × Int × Unit) × (((List Ab2) × Unit) × Ab8 × Unit)) => (slices_insertionSortCmpFunc_int_v0.l1 k d.1.1 d.1.2.1 d.1.2.2.1 d.1.2.2.2.2.1 d.1.2.2.2.2.2.1 d.2.1.1 d.2.2.1.1 d.2.2.1.2.1 d.2.2.1.2.2.1 d.2.2.1.2.2.2.1 : Option slices_insertionSortCmpFunc_int_v0.R)⟩]
  | _ => []
noncomputable def slices_insertionSortCmpFunc_int_v0.fd : FnD := ⟨Try.f69, slices_insertionSortCmpFunc_int_v0.ini, slices_insertionSortCmpFunc_int_v0.out, 0, [1000000, 1000001], [1000000, 1000001], slices_insertionSortCmpFunc_int_v0.labF, fun k (d : (List Int × Int × Int × Unit × Unit) × (((List Ab2) × Unit) × Ab8 × Unit)) => (slices_insertionSortCmpFunc_int_v0.f k d.1.1 d.1.2.1 d.1.2.2.1 d.2.1.1 d.2.2.1.1 d.2.2.1.2.1 d.2.2.1.2.2.1 d.2.2.1.2.2.2.1 : Option slices_insertionSortCmpFunc_int_v0.R), none, []⟩

/-! ### slices_swapRangeCmpFunc_int_v0 : function 86 -/
abbrev slices_swapRangeCmpFunc_int_v0.R := (List Int × Unit) × (Unit)
mutual
noncomputable def slices_swapRangeCmpFunc_int_v0.l0 : Nat → (List Int) → Int → Int → Int → Int → (List Ab2) → (List Ab0) → ByteArray → Bool → Int → Option slices_swapRangeCmpFunc_int_v0.R
  | 0, _, _, _, _, _, _, _, _, _, _ => none
  | k + 1, x0, x1, x2, x3, x10, o0_0, o1_0, o1_1, o1_2, o1_3 =>
    bif decide ((x10 : Int) < x3) then
      (ck (decide (0 ≤ IntKind.wrap .i64 (x2 + x10)) && decide (IntKind.wrap .i64 (x2 + x10) < (x0.length : Int)))).bind fun _ =>
      (rdo x0 (IntKind.wrap .i64 (x2 + x10))).bind fun t1 =>
      (ck (decide (0 ≤ IntKind.wrap .i64 (x1 + x10)) && decide (IntKind.wrap .i64 (x1 + x10) < (x0.length : Int)))).bind fun _ =>
      (rdo x0 (IntKind.wrap .i64 (x1 + x10))).bind fun t2 =>
      (ck (decide (0 ≤ IntKind.wrap .i64 (x1 + x10)) && decide (IntKind.wrap .i64 (x1 + x10) < (x0.length : Int)))).bind fun _ =>
      (ck (decide (0 ≤ IntKind.wrap .i64 (x2 + x10)) && decide (IntKind.wrap .i64 (x2 + x10) < ((x0.set (IntKind.wrap .i64 (x1 + x10) : Int).toNat t1).length : Int)))).bind fun _ =>
      slices_swapRangeCmpFunc_int_v0.l0 k ((x0.set (IntKind.wrap .i64 (x1 + x10) : Int).toNat t1).set (IntKind.wrap .i64 (x2 + x10) : Int).toNat t2) x1 x2 x3 (IntKind.wrap .i64 (x10 + 1)) o0_0 o1_0 o1_1 o1_2 o1_3
    else
      some ((x0, ()), (()))
noncomputable def slices_swapRangeCmpFunc_int_v0.f : Nat → (List Int) → Int → Int → Int → (List Ab2) → (List Ab0) → ByteArray → Bool → Int → Option slices_swapRangeCmpFunc_int_v0.R
  | 0, _, _, _, _, _, _, _, _, _ => none
  | k + 1, x0, x1, x2, x3, o0_0, o1_0, o1_1, o1_2, o1_3 =>
    slices_swapRangeCmpFunc_int_v0.l0 k x0 x1 x2 x3 0 o0_0 o1_0 o1_1 o1_2 o1_3
end
abbrev slices_swapRangeCmpFunc_int_v0.ini : LSh := ⟨[(0, .own 3900000 3 (.mu (.int .i64))), (1, .val (.int .i64)), (2, .val (.int .i64)), (3, .val (.int .i64)), (4, .clo 35 [(1000000, 0), (1000001, 0)])], [(1000000, 34, [.val (.sl Ac4)]), (1000001, 24, [.val (.sl Ac3), .val .str, .val .bool, .val (.int .i64)])]⟩
abbrev slices_swapRangeCmpFunc_int_v0.out : LSh := ⟨[(0, .own 3900000 3 (.mu (.int .i64)))], []⟩
abbrev slices_swapRangeCmpFunc_int_v0.l0s : LSh := ⟨[(0, .own 3900000 3 (.mu (.int .i64))), (1, .val (.int .i64)), (2, .val (.int .i64)), (3, .val (.int .i64)), (10, .val (.int .i64))], [(1000000, 34, [.val (.sl Ac4)]), (1000001, 24, [.val (.sl Ac3), .val .str, .val .bool, .val (.int .i64)])]⟩
noncomputable def slices_swapRangeCmpFunc_int_v0.labF : Nat → List (LabF slices_swapRangeCmpFunc_int_v0.out.den)
  | 2 => [⟨slices_swapRangeCmpFunc_int_v0.l0s, fun k (d : (List Int × Int × Int × Int × Int × Unit) × (((List Ab2) × Unit) × Ab8 × Unit)) => (slices_swapRangeCmpFunc_int_v0.l0 k d.1.1 d.1.2.1 d.1.2.2.1 d.1.2.2.2.1 d.1.2.2.2.2.1 d.2.1.1 d.2.2.1.1 d.2.2.1.2.1 d.2.2.1.2.2.1 d.2.2.1.2.2.2.1 : Option slices_swapRangeCmpFunc_int_v0.R)⟩]
  | _ => []
noncomputable def slices_swapRangeCmpFunc_int_v0.fd : FnD := ⟨Try.f86, slices_swapRangeCmpFunc_int_v0.ini, slices_swapRangeCmpFunc_int_v0.out, 0, [1000000, 1000001], [1000000, 1000001], slices_swapRangeCmpFunc_int_v0.labF, fun k (d : (List Int × Int × Int × Int × Unit × Unit) × (((List Ab2) × Unit) × Ab8 × Unit)) => (slices_swapRangeCmpFunc_int_v0.f k d.1.1 d.1.2.1 d.1.2.2.1 d.1.2.2.2.1 d.2.1.1 d.2.2.1.1 d.2.2.1.2.1 d.2.2.1.2.2.1 d.2.2.1.2.2.2.1 : Option slices_swapRangeCmpFunc_int_v0.R), none, []⟩

/-! ### slices_rotateCmpFunc_int_v0 : function 80 -/
abbrev slices_rotateCmpFunc_int_v0.R := (List Int × Unit) × (Unit)
mutual
noncomputable def slices_rotateCmpFunc_int_v0.l0 : Nat → (List Int) → Int → Int → Int → (List Ab2) → (List Ab0) → ByteArray → Bool → Int → Option slices_rotateCmpFunc_int_v0.R
  | 0, _, _, _, _, _, _, _, _, _ => none
  | k + 1, x0, x2, x10, x11, o0_0, o1_0, o1_1, o1_2, o1_3 =>
    bif (x10 : Int) != x11 then
      bif decide ((x10 : Int) > x11) then
        (slices_swapRangeCmpFunc_int_v0.f k x0 (IntKind.wrap .i64 (x2 - x10)) x2 x11 o0_0 o1_0 o1_1 o1_2 o1_3).bind fun r1 =>
        slices_rotateCmpFunc_int_v0.l0 k r1.1.1 x2 (IntKind.wrap .i64 (x10 - x11)) x11 o0_0 o1_0 o1_1 o1_2 o1_3
      else
        (slices_swapRangeCmpFunc_int_v0.f k x0 (IntKind.wrap .i64 (x2 - x10)) (IntKind.wrap .i64 ((IntKind.wrap .i64 (x2 + x11)) - x10)) x10 o0_0 o1_0 o1_1 o1_2 o1_3).bind fun r2 =>
        slices_rotateCmpFunc_int_v0.l0 k r2.1.1 x2 x10 (IntKind.wrap .i64 (x11 - x10)) o0_0 o1_0 o1_1 o1_2 o1_3
    else
      (slices_swapRangeCmpFunc_int_v0.f k x0 (IntKind.wrap .i64 (x2 - x10)) x2 x10 o0_0 o1_0 o1_1 o1_2 o1_3).bind fun r3 =>
      some ((r3.1.1, ()), (()))
noncomputable def slices_rotateCmpFunc_int_v0.f : Nat → (List Int) → Int → Int → Int → (List Ab2) → (List Ab0) → ByteArray → Bool → Int → Option slices_rotateCmpFunc_int_v0.R
  | 0, _, _, _, _, _, _, _, _, _ => none
  | k + 1, x0, x1, x2, x3, o0_0, o1_0, o1_1, o1_2, o1_3 =>
    slices_rotateCmpFunc_int_v0.l0 k x0 x2 (IntKind.wrap .i64 (x2 - x1)) (IntKind.wrap .i64 (x3 - x2)) o0_0 o1_0 o1_1 o1_2 o1_3
end
abbrev slices_rotateCmpFunc_int_v0.ini : LSh := ⟨[(0, .own 3900000 3 (.mu (.int .i64))), (1, .val (.int .i64)), (2, .val (.int .i64)), (3, .val (.int .i64)), (4, .clo 35 [(1000000, 0), (1000001, 0)])], [(1000000, 34, [.val (.sl Ac4)]), (1000001, 24, [.val (.sl Ac3), .val .str, .val .bool, .val (.int .i64)])]⟩
abbrev slices_rotateCmpFunc_int_v0.out : LSh := ⟨[(0, .own 3900000 3 (.mu (.int .i64)))], []⟩
abbrev slices_rotateCmpFunc_int_v0.l0s : LSh := ⟨[(0, .own 3900000 3 (.mu (.int .i64))), (2, .val (.int .i64)), (4, .clo 35 [(1000000, 0), (1000001, 0)]), (10, .val (.int .i64)), (11, .val (.int .i64))], [(1000000, 34, [.val (.sl Ac4)]), (1000001, 24, [.val (.sl Ac3), .val .str, .val .bool, .val (.int .i64)])]⟩
noncomputable def slices_rotateCmpFunc_int_v0.labF : Nat → List (LabF slices_rotateCmpFunc_int_v0.out.den)
  | 4 => [⟨slices_rotateCmpFunc_int_v0.l0s, fun k (d : (List Int × Int × Unit × Int × Int × Unit) × (((List Ab2) × Unit) × Ab8 × Unit)) => (slices_rotateCmpFunc_int_v0.l0 k d.1.1 d.1.2.1 d.1.2.2.2.1 d.1.2.2.2.2.1 d.2.1.1 d.2.2.1.1 d.2.2.1.2.1 d.2.2.1.2.2.1 d.2.2.1.2.2.2.1 : Option slices_rotateCmpFunc_int_v0.R)⟩]
  | _ => []
noncomputable def slices_rotateCmpFunc_int_v0.fd : FnD := ⟨Try.f80, slices_rotateCmpFunc_int_v0.ini, slices_rotateCmpFunc_int_v0.out, 0, [1000000, 1000001], [1000000, 1000001], slices_rotateCmpFunc_int_v0.labF, fun k (d : (List Int × Int × Int × Int × Unit × Unit) × (((List Ab2) × Unit) × Ab8 × Unit)) => (slices_rotateCmpFunc_int_v0.f k d.1.1 d.1.2.1 d.1.2.2.1 d.1.2.2.2.1 d.2.1.1 d.2.2.1.1 d.2.2.1.2.1 d.2.2.1.2.2.1 d.2.2.1.2.2.2.1 : Option slices_rotateCmpFunc_int_v0.R), none, []⟩

/-! ### slices_symMergeCmpFunc_int_v0 : function 70 -/
abbrev slices_symMergeCmpFunc_int_v0.R := (List Int × Unit) × (Unit)
mutual
noncomputable def slices_symMergeCmpFunc_int_v0.l0 : Nat → (List Int) → Int → Int → Int → (List Ab2) → (List Ab0) → ByteArray → Bool → Int → Option slices_symMergeCmpFunc_int_v0.R
  | 0, _, _, _, _, _, _, _, _, _ => none
  | k + 1, x0, x1, x10, x11, o0_0, o1_0, o1_1, o1_2, o1_3 =>
    bif decide ((x10 : Int) < x11) then
      (ck (!decide ((1 : Int) < 0))).bind fun _ =>
      (ck (decide (0 ≤ IntKind.wrap .i64 (Int.fdiv (IntKind.wrap .u64 (IntKind.wrap .i64 (x10 + x11))) (2 ^ (min (1 : Int).toNat (IntKind.bits .u64))))) && decide (IntKind.wrap .i64 (Int.fdiv (IntKind.wrap .u64 (IntKind.wrap .i64 (x10 + x11))) (2 ^ (min (1 : Int).toNat (IntKind.bits .u64)))) < (x0.length : Int)))).bind fun _ =>
      (rdo x0 (IntKind.wrap .i64 (Int.fdiv (IntKind.wrap .u64 (IntKind.wrap .i64 (x10 + x11))) (2 ^ (min (1 : Int).toNat (IntKind.bits .u64)))))).bind fun t1 =>
      (ck (decide (0 ≤ x1) && decide (x1 < (x0.length : Int)))).bind fun _ =>
      (rdo x0 x1).bind fun t2 =>
      (find_Run_1_v0.f k t1 t2 o0_0 o1_0 o1_1 o1_2 o1_3).bind fun r3 =>
      bif decide ((r3.1.1 : Int) < 0) then
        slices_symMergeCmpFunc_int_v0.l0 k x0 x1 (IntKind.wrap .i64 ((IntKind.wrap .i64 (Int.fdiv (IntKind.wrap .u64 (IntKind.wrap .i64 (x10 + x11))) (2 ^ (min (1 : Int).toNat (IntKind.bits .u64))))) + 1)) x11 o0_0 o1_0 o1_1 o1_2 o1_3
      else
        slices_symMergeCmpFunc_int_v0.l0 k x0 x1 x10 (IntKind.wrap .i64 (Int.fdiv (IntKind.wrap .u64 (IntKind.wrap .i64 (x10 + x11))) (2 ^ (min (1 : Int).toNat (IntKind.bits .u64))))) o0_0 o1_0 o1_1 o1_2 o1_3
    else
      slices_symMergeCmpFunc_int_v0.l2 k x0 x10 x1 o0_0 o1_0 o1_1 o1_2 o1_3
noncomputable def slices_symMergeCmpFunc_int_v0.l2 : Nat → (List Int) → Int → Int → (List Ab2) → (List Ab0) → ByteArray → Bool → Int → Option slices_symMergeCmpFunc_int_v0.R
  | 0, _, _, _, _, _, _, _, _ => none
  | k + 1, x0, x10, x13, o0_0, o1_0, o1_1, o1_2, o1_3 =>
    bif decide ((x13 : Int) < IntKind.wrap .i64 (x10 - 1)) then
      (ck (decide (0 ≤ IntKind.wrap .i64 (x13 + 1)) && decide (IntKind.wrap .i64 (x13 + 1) < (x0.length : Int)))).bind fun _ =>
      (rdo x0 (IntKind.wrap .i64 (x13 + 1))).bind fun t7 =>
      (ck (decide (0 ≤ x13) && decide (x13 < (x0.length : Int)))).bind fun _ =>
      (rdo x0 x13).bind fun t8 =>
      (ck (decide (0 ≤ x13) && decide (x13 < (x0.length : Int)))).bind fun _ =>
      (ck (decide (0 ≤ IntKind.wrap .i64 (x13 + 1)) && decide (IntKind.wrap .i64 (x13 + 1) < ((x0.set x13.toNat t7).length : Int)))).bind fun _ =>
      slices_symMergeCmpFunc_int_v0.l2 k ((x0.set x13.toNat t7).set (IntKind.wrap .i64 (x13 + 1) : Int).toNat t8) x10 (IntKind.wrap .i64 (x13 + 1)) o0_0 o1_0 o1_1 o1_2 o1_3
    else
      some ((x0, ()), (()))
noncomputable def slices_symMergeCmpFunc_int_v0.l1 : Nat → (List Int) → Int → Int → Int → (List Ab2) → (List Ab0) → ByteArray → Bool → Int → Option slices_symMergeCmpFunc_int_v0.R
  | 0, _, _, _, _, _, _, _, _, _ => none
  | k + 1, x0, x2, x14, x15, o0_0, o1_0, o1_1, o1_2, o1_3 =>
    bif decide ((x14 : Int) < x15) then
      (ck (!decide ((1 : Int) < 0))).bind fun _ =>
      (ck (decide (0 ≤ x2) && decide (x2 < (x0.length : Int)))).bind fun _ =>
      (rdo x0 x2).bind fun t4 =>
      (ck (decide (0 ≤ IntKind.wrap .i64 (Int.fdiv (IntKind.wrap .u64 (IntKind.wrap .i64 (x14 + x15))) (2 ^ (min (1 : Int).toNat (IntKind.bits .u64))))) && decide (IntKind.wrap .i64 (Int.fdiv (IntKind.wrap .u64 (IntKind.wrap .i64 (x14 + x15))) (2 ^ (min (1 : Int).toNat (IntKind.bits .u64)))) < (x0.length : Int)))).bind fun _ =>
      (rdo x0 (IntKind.wrap .i64 (Int.fdiv (IntKind.wrap .u64 (IntKind.wrap .i64 (x14 + x15))) (2 ^ (min (1 : Int).toNat (IntKind.bits .u64)))))).bind fun t5 =>
      (find_Run_1_v0.f k t4 t5 o0_0 o1_0 o1_1 o1_2 o1_3).bind fun r6 =>
      bif !(decide ((r6.1.1 : Int) < 0)) then
        slices_symMergeCmpFunc_int_v0.l1 k x0 x2 (IntKind.wrap .i64 ((IntKind.wrap .i64 (Int.fdiv (IntKind.wrap .u64 (IntKind.wrap .i64 (x14 + x15))) (2 ^ (min (1 : Int).toNat (IntKind.bits .u64))))) + 1)) x15 o0_0 o1_0 o1_1 o1_2 o1_3
      else
        slices_symMergeCmpFunc_int_v0.l1 k x0 x2 x14 (IntKind.wrap .i64 (Int.fdiv (IntKind.wrap .u64 (IntKind.wrap .i64 (x14 + x15))) (2 ^ (min (1 : Int).toNat (IntKind.bits .u64))))) o0_0 o1_0 o1_1 o1_2 o1_3
    else
      slices_symMergeCmpFunc_int_v0.l3 k x0 x14 x2 o0_0 o1_0 o1_1 o1_2 o1_3
noncomputable def slices_symMergeCmpFunc_int_v0.l3 : Nat → (List Int) → Int → Int → (List Ab2) → (List Ab0) → ByteArray → Bool → Int → Option slices_symMergeCmpFunc_int_v0.R
  | 0, _, _, _, _, _, _, _, _ => none
  | k + 1, x0, x14, x17, o0_0, o1_0, o1_1, o1_2, o1_3 =>
    bif decide ((x17 : Int) > x14) then
      (ck (decide (0 ≤ IntKind.wrap .i64 (x17 - 1)) && decide (IntKind.wrap .i64 (x17 - 1) < (x0.length : Int)))).bind fun _ =>
      (rdo x0 (IntKind.wrap .i64 (x17 - 1))).bind fun t9 =>
      (ck (decide (0 ≤ x17) && decide (x17 < (x0.length : Int)))).bind fun _ =>
      (rdo x0 x17).bind fun t10 =>
      (ck (decide (0 ≤ x17) && decide (x17 < (x0.length : Int)))).bind fun _ =>
      (ck (decide (0 ≤ IntKind.wrap .i64 (x17 - 1)) && decide (IntKind.wrap .i64 (x17 - 1) < ((x0.set x17.toNat t9).length : Int)))).bind fun _ =>
      slices_symMergeCmpFunc_int_v0.l3 k ((x0.set x17.toNat t9).set (IntKind.wrap .i64 (x17 - 1) : Int).toNat t10) x14 (IntKind.wrap .i64 (x17 - 1)) o0_0 o1_0 o1_1 o1_2 o1_3
    else
      some ((x0, ()), (()))
noncomputable def slices_symMergeCmpFunc_int_v0.j0 : Nat → (List Int) → Int → Int → Int → Int → Int → Int → Int → (List Ab2) → (List Ab0) → ByteArray → Bool → Int → Option slices_symMergeCmpFunc_int_v0.R
  | 0, _, _, _, _, _, _, _, _, _, _, _, _, _ => none
  | k + 1, x0, x1, x2, x3, x18, x19, x20, x21, o0_0, o1_0, o1_1, o1_2, o1_3 =>
    slices_symMergeCmpFunc_int_v0.l4 k x0 x1 x2 x3 x18 x19 x20 x21 (IntKind.wrap .i64 (x19 - 1)) o0_0 o1_0 o1_1 o1_2 o1_3
noncomputable def slices_symMergeCmpFunc_int_v0.l4 : Nat → (List Int) → Int → Int → Int → Int → Int → Int → Int → Int → (List Ab2) → (List Ab0) → ByteArray → Bool → Int → Option slices_symMergeCmpFunc_int_v0.R
  | 0, _, _, _, _, _, _, _, _, _, _, _, _, _, _ => none
  | k + 1, x0, x1, x2, x3, x18, x19, x20, x21, x22, o0_0, o1_0, o1_1, o1_2, o1_3 =>
    bif decide ((x20 : Int) < x21) then
      (ck (!decide ((1 : Int) < 0))).bind fun _ =>
      (ck (decide (0 ≤ IntKind.wrap .i64 (x22 - (IntKind.wrap .i64 (Int.fdiv (IntKind.wrap .u64 (IntKind.wrap .i64 (x20 + x21))) (2 ^ (min (1 : Int).toNat (IntKind.bits .u64))))))) && decide (IntKind.wrap .i64 (x22 - (IntKind.wrap .i64 (Int.fdiv (IntKind.wrap .u64 (IntKind.wrap .i64 (x20 + x21))) (2 ^ (min (1 : Int).toNat (IntKind.bits .u64)))))) < (x0.length : Int)))).bind fun _ =>
      (rdo x0 (IntKind.wrap .i64 (x22 - (IntKind.wrap .i64 (Int.fdiv (IntKind.wrap .u64 (IntKind.wrap .i64 (x20 + x21))) (2 ^ (min (1 : Int).toNat (IntKind.bits .u64)))))))).bind fun t11 =>
      (ck (decide (0 ≤ IntKind.wrap .i64 (Int.fdiv (IntKind.wrap .u64 (IntKind.wrap .i64 (x20 + x21))) (2 ^ (min (1 : Int).toNat (IntKind.bits .u64))))) && decide (IntKind.wrap .i64 (Int.fdiv (IntKind.wrap .u64 (IntKind.wrap .i64 (x20 + x21))) (2 ^ (min (1 : Int).toNat (IntKind.bits .u64)))) < (x0.length : Int)))).bind fun _ =>
      (rdo x0 (IntKind.wrap .i64 (Int.fdiv (IntKind.wrap .u64 (IntKind.wrap .i64 (x20 + x21))) (2 ^ (min (1 : Int).toNat (IntKind.bits .u64)))))).bind fun t12 =>
      (find_Run_1_v0.f k t11 t12 o0_0 o1_0 o1_1 o1_2 o1_3).bind fun r13 =>
      bif !(decide ((r13.1.1 : Int) < 0)) then
        slices_symMergeCmpFunc_int_v0.l4 k x0 x1 x2 x3 x18 x19 (IntKind.wrap .i64 ((IntKind.wrap .i64 (Int.fdiv (IntKind.wrap .u64 (IntKind.wrap .i64 (x20 + x21))) (2 ^ (min (1 : Int).toNat (IntKind.bits .u64))))) + 1)) x21 x22 o0_0 o1_0 o1_1 o1_2 o1_3
      else
        slices_symMergeCmpFunc_int_v0.l4 k x0 x1 x2 x3 x18 x19 x20 (IntKind.wrap .i64 (Int.fdiv (IntKind.wrap .u64 (IntKind.wrap .i64 (x20 + x21))) (2 ^ (min (1 : Int).toNat (IntKind.bits .u64))))) x22 o0_0 o1_0 o1_1 o1_2 o1_3
    else
    bif decide ((x20 : Int) < x2) then
      bif decide ((x2 : Int) < IntKind.wrap .i64 (x19 - x20)) then
        (slices_rotateCmpFunc_int_v0.f k x0 x20 x2 (IntKind.wrap .i64 (x19 - x20)) o0_0 o1_0 o1_1 o1_2 o1_3).bind fun r14 =>
        slices_symMergeCmpFunc_int_v0.j1 k r14.1.1 x1 x3 x18 x20 (IntKind.wrap .i64 (x19 - x20)) o0_0 o1_0 o1_1 o1_2 o1_3
      else
        slices_symMergeCmpFunc_int_v0.j1 k x0 x1 x3 x18 x20 (IntKind.wrap .i64 (x19 - x20)) o0_0 o1_0 o1_1 o1_2 o1_3
    else
      slices_symMergeCmpFunc_int_v0.j1 k x0 x1 x3 x18 x20 (IntKind.wrap .i64 (x19 - x20)) o0_0 o1_0 o1_1 o1_2 o1_3
noncomputable def slices_symMergeCmpFunc_int_v0.j1 : Nat → (List Int) → Int → Int → Int → Int → Int → (List Ab2) → (List Ab0) → ByteArray → Bool → Int → Option slices_symMergeCmpFunc_int_v0.R
  | 0, _, _, _, _, _, _, _, _, _, _, _ => none
  | k + 1, x0, x1, x3, x18, x20, x24, o0_0, o1_0, o1_1, o1_2, o1_3 =>
    bif decide ((x1 : Int) < x20) then
      bif decide ((x20 : Int) < x18) then
        (slices_symMergeCmpFunc_int_v0.f k x0 x1 x20 x18 o0_0 o1_0 o1_1 o1_2 o1_3).bind fun r15 =>
        slices_symMergeCmpFunc_int_v0.j2 k r15.1.1 x3 x18 x24 o0_0 o1_0 o1_1 o1_2 o1_3
      else
        slices_symMergeCmpFunc_int_v0.j2 k x0 x3 x18 x24 o0_0 o1_0 o1_1 o1_2 o1_3
    else
      slices_symMergeCmpFunc_int_v0.j2 k x0 x3 x18 x24 o0_0 o1_0 o1_1 o1_2 o1_3
noncomputable def slices_symMergeCmpFunc_int_v0.j2 : Nat → (List Int) → Int → Int → Int → (List Ab2) → (List Ab0) → ByteArray → Bool → Int → Option slices_symMergeCmpFunc_int_v0.R
  | 0, _, _, _, _, _, _, _, _, _ => none
  | k + 1, x0, x3, x18, x24, o0_0, o1_0, o1_1, o1_2, o1_3 =>
    bif decide ((x18 : Int) < x24) then
      bif decide ((x24 : Int) < x3) then
        (slices_symMergeCmpFunc_int_v0.f k x0 x18 x24 x3 o0_0 o1_0 o1_1 o1_2 o1_3).bind fun r16 =>
        some ((r16.1.1, ()), (()))
      else
        some ((x0, ()), (()))
    else
      some ((x0, ()), (()))
noncomputable def slices_symMergeCmpFunc_int_v0.f : Nat → (List Int) → Int → Int → Int → (List Ab2) → (List Ab0) → ByteArray → Bool → Int → Option slices_symMergeCmpFunc_int_v0.R
  | 0, _, _, _, _, _, _, _, _, _ => none
  | k + 1, x0, x1, x2, x3, o0_0, o1_0, o1_1, o1_2, o1_3 =>
    bif (IntKind.wrap .i64 (x2 - x1) : Int) == 1 then
      slices_symMergeCmpFunc_int_v0.l0 k x0 x1 x2 x3 o0_0 o1_0 o1_1 o1_2 o1_3
    else
    bif (IntKind.wrap .i64 (x3 - x2) : Int) == 1 then
      slices_symMergeCmpFunc_int_v0.l1 k x0 x2 x1 x2 o0_0 o1_0 o1_1 o1_2 o1_3
    else
      (ck (!decide ((1 : Int) < 0))).bind fun _ =>
      bif decide ((x2 : Int) > IntKind.wrap .i64 (Int.fdiv (IntKind.wrap .u64 (IntKind.wrap .i64 (x1 + x3))) (2 ^ (min (1 : Int).toNat (IntKind.bits .u64))))) then
        slices_symMergeCmpFunc_int_v0.j0 k x0 x1 x2 x3 (IntKind.wrap .i64 (Int.fdiv (IntKind.wrap .u64 (IntKind.wrap .i64 (x1 + x3))) (2 ^ (min (1 : Int).toNat (IntKind.bits .u64))))) (IntKind.wrap .i64 ((IntKind.wrap .i64 (Int.fdiv (IntKind.wrap .u64 (IntKind.wrap .i64 (x1 + x3))) (2 ^ (min (1 : Int).toNat (IntKind.bits .u64))))) + x2)) (IntKind.wrap .i64 ((IntKind.wrap .i64 ((IntKind.wrap .i64 (Int.fdiv (IntKind.wrap .u64 (IntKind.wrap .i64 (x1 + x3))) (2 ^ (min (1 : Int).toNat (IntKind.bits .u64))))) + x2)) - x3)) (IntKind.wrap .i64 (Int.fdiv (IntKind.wrap .u64 (IntKind.wrap .i64 (x1 + x3))) (2 ^ (min (1 : Int).toNat (IntKind.bits .u64))))) o0_0 o1_0 o1_1 o1_2 o1_3
      else
        slices_symMergeCmpFunc_int_v0.j0 k x0 x1 x2 x3 (IntKind.wrap .i64 (Int.fdiv (IntKind.wrap .u64 (IntKind.wrap .i64 (x1 + x3))) (2 ^ (min (1 : Int).toNat (IntKind.bits .u64))))) (IntKind.wrap .i64 ((IntKind.wrap .i64 (Int.fdiv (IntKind.wrap .u64 (IntKind.wrap .i64 (x1 + x3))) (2 ^ (min (1 : Int).toNat (IntKind.bits .u64))))) + x2)) x1 x2 o0_0 o1_0 o1_1 o1_2 o1_3
end
abbrev slices_symMergeCmpFunc_int_v0.ini : LSh := ⟨[(0, .own 3900000 3 (.mu (.int .i64))), (1, .val (.int .i64)), (2, .val (.int .i64)), (3, .val (.int .i64)), (4, .clo 35 [(1000000, 0), (1000001, 0)])], [(1000000, 34, [.val (.sl Ac4)]), (1000001, 24, [.val (.sl Ac3), .val .str, .val .bool, .val (.int .i64)])]⟩
abbrev slices_symMergeCmpFunc_int_v0.out : LSh := ⟨[(0, .own 3900000 3 (.mu (.int .i64)))], []⟩
abbrev slices_symMergeCmpFunc_int_v0.l0s : LSh := ⟨[(0, .own 3900000 3 (.mu (.int .i64))), (1, .val (.int .i64)), (4, .clo 35 [(1000000, 0), (1000001, 0)]), (10, .val (.int .i64)), (11, .val (.int .i64))], [(1000000, 34, [.val (.sl Ac4)]), (1000001, 24, [.val (.sl Ac3), .val .str, .val .bool, .val (.int .i64)])]⟩
abbrev slices_symMergeCmpFunc_int_v0.l2s : LSh := ⟨[(0, .own 3900000 3 (.mu (.int .i64))), (10, .val (.int .i64)), (13, .val (.int .i64))], [(1000000, 34, [.val (.sl Ac4)]), (1000001, 24, [.val (.sl Ac3), .val .str, .val .bool, .val (.int .i64)])]⟩
abbrev slices_symMergeCmpFunc_int_v0.l1s : LSh := ⟨[(0, .own 3900000 3 (.mu (.int .i64))), (2, .val (.int .i64)), (4, .clo 35 [(1000000, 0), (1000001, 0)]), (14, .val (.int .i64)), (15, .val (.int .i64))], [(1000000, 34, [.val (.sl Ac4)]), (1000001, 24, [.val (.sl Ac3), .val .str, .val .bool, .val (.int .i64)])]⟩
abbrev slices_symMergeCmpFunc_int_v0.l3s : LSh := ⟨[(0, .own 3900000 3 (.mu (.int .i64))), (14, .val (.int .i64)), (17, .val (.int .i64))], [(1000000, 34, [.val (.sl Ac4)]), (1000001, 24, [.val (.sl Ac3), .val .str, .val .bool, .val (.int .i64)])]⟩
abbrev slices_symMergeCmpFunc_int_v0.j0s : LSh := ⟨[(0, .own 3900000 3 (.mu (.int .i64))), (1, .val (.int .i64)), (2, .val (.int .i64)), (3, .val (.int .i64)), (4, .clo 35 [(1000000, 0), (1000001, 0)]), (18, .val (.int .i64)), (19, .val (.int .i64)), (20, .val (.int .i64)), (21, .val (.int .i64))], [(1000000, 34, [.val (.sl Ac4)]), (1000001, 24, [.val (.sl Ac3), .val .str, .val .bool, .val (.int .i64)])]⟩
abbrev slices_symMergeCmpFunc_int_v0.l4s : LSh := ⟨[(0, .own 3900000 3 (.mu (.int .i64))), (1, .val (.int .i64)), (2, .val (.int .i64)), (3, .val (.int .i64)), (4, .clo 35 [(1000000, 0), (1000001, 0)]), (18, .val (.int .i64)), (19, .val (.int .i64)), (20, .val (.int .i64)), (21, .val (.int .i64)), (22, .val (.int .i64))], [(1000000, 34, [.val (.sl Ac4)]), (1000001, 24, [.val (.sl Ac3), .val .str, .val .bool, .val (.int .i64)])]⟩
abbrev slices_symMergeCmpFunc_int_v0.j1s : LSh := ⟨[(0, .own 3900000 3 (.mu (.int .i64))), (1, .val (.int .i64)), (3, .val (.int .i64)), (4, .clo 35 [(1000000, 0), (1000001, 0)]), (18, .val (.int .i64)), (20, .val (.int .i64)), (24, .val (.int .i64))], [(1000000, 34, [.val (.sl Ac4)]), (1000001, 24, [.val (.sl Ac3), .val .str, .val .bool, .val (.int .i64)])]⟩
abbrev slices_symMergeCmpFunc_int_v0.j2s : LSh := ⟨[(0, .own 3900000 3 (.mu (.int .i64))), (3, .val (.int .i64)), (4, .clo 35 [(1000000, 0), (1000001, 0)]), (18, .val (.int .i64)), (24, .val (.int .i64))], [(1000000, 34, [.val (.sl Ac4)]), (1000001, 24, [.val (.sl Ac3), .val .str, .val .bool, .val (.int .i64)])]⟩
noncomputable def slices_symMergeCmpFunc_int_v0.labF : Nat → List (LabF slices_symMergeCmpFunc_int_v0.out.den)
  | 6 => [⟨slices_symMergeCmpFunc_int_v0.l0s, fun k (d : (List Int × Int × Unit × Int × Int × Unit) × (((List Ab2) × Unit) × Ab8 × Unit)) => (slices_symMergeCmpFunc_int_v0.l0 k d.1.1 d.1.2.1 d.1.2.2.2.1 d.1.2.2.2.2.1 d.2.1.1 d.2.2.1.1 d.2.2.1.2.1 d.2.2.1.2.2.1 d.2.2.1.2.2.2.1 : Option slices_symMergeCmpFunc_int_v0.R)⟩]
  | 18 => [⟨slices_symMergeCmpFunc_int_v0.l2s, fun k (d : (List Int × Int × Int × Unit) × (((List Ab2) × Unit) × Ab8 × Unit)) => (slices_symMergeCmpFunc_int_v0.l2 k d.1.1 d.1.2.1 d.1.2.2.1 d.2.1.1 d.2.2.1.1 d.2.2.1.2.1 d.2.2.1.2.2.1 d.2.2.1.2.2.2.1 : Option slices_symMergeCmpFunc_int_v0.R)⟩]
  | 30 => [⟨slices_symMergeCmpFunc_int_v0.l1s, fun k (d : (List Int × Int × Unit × Int × Int × Unit) × (((List Ab2) × Unit) × Ab8 × Unit)) => (slices_symMergeCmpFunc_int_v0.l1 k d.1.1 d.1.2.1 d.1.2.2.2.1 d.1.2.2.2.2.1 d.2.1.1 d.2.2.1.1 d.2.2.1.2.1 d.2.2.1.2.2.1 d.2.2.1.2.2.2.1 : Option slices_symMergeCmpFunc_int_v0.R)⟩]
  | 42 => [⟨slices_symMergeCmpFunc_int_v0.l3s, fun k (d : (List Int × Int × Int × Unit) × (((List Ab2) × Unit) × Ab8 × Unit)) => (slices_symMergeCmpFunc_int_v0.l3 k d.1.1 d.1.2.1 d.1.2.2.1 d.2.1.1 d.2.2.1.1 d.2.2.1.2.1 d.2.2.1.2.2.1 d.2.2.1.2.2.2.1 : Option slices_symMergeCmpFunc_int_v0.R)⟩]
  | 65 => [⟨slices_symMergeCmpFunc_int_v0.j0s, fun k (d : (List Int × Int × Int × Int × Unit × Int × Int × Int × Int × Unit) × (((List Ab2) × Unit) × Ab8 × Unit)) => (slices_symMergeCmpFunc_int_v0.j0 k d.1.1 d.1.2.1 d.1.2.2.1 d.1.2.2.2.1 d.1.2.2.2.2.2.1 d.1.2.2.2.2.2.2.1 d.1.2.2.2.2.2.2.2.1 d.1.2.2.2.2.2.2.2.2.1 d.2.1.1 d.2.2.1.1 d.2.2.1.2.1 d.2.2.1.2.2.1 d.2.2.1.2.2.2.1 : Option slices_symMergeCmpFunc_int_v0.R)⟩]
  | 66 => [⟨slices_symMergeCmpFunc_int_v0.l4s, fun k (d : (List Int × Int × Int × Int × Unit × Int × Int × Int × Int × Int × Unit) × (((List Ab2) × Unit) × Ab8 × Unit)) => (slices_symMergeCmpFunc_int_v0.l4 k d.1.1 d.1.2.1 d.1.2.2.1 d.1.2.2.2.1 d.1.2.2.2.2.2.1 d.1.2.2.2.2.2.2.1 d.1.2.2.2.2.2.2.2.1 d.1.2.2.2.2.2.2.2.2.1 d.1.2.2.2.2.2.2.2.2.2.1 d.2.1.1 d.2.2.1.1 d.2.2.1.2.1 d.2.2.1.2.2.1 d.2.2.1.2.2.2.1 : Option slices_symMergeCmpFunc_int_v0.R)⟩]
  | 83 => [⟨slices_symMergeCmpFunc_int_v0.j1s, fun k (d : (List Int × Int × Int × Unit × Int × Int × Int × Unit) × (((List Ab2) × Unit) × Ab8 × Unit)) => (slices_symMergeCmpFunc_int_v0.j1 k d.1.1 d.1.2.1 d.1.2.2.1 d.1.2.2.2.2.1 d.1.2.2.2.2.2.1 d.1.2.2.2.2.2.2.1 d.2.1.1 d.2.2.1.1 d.2.2.1.2.1 d.2.2.1.2.2.1 d.2.2.1.2.2.2.1 : Option slices_symMergeCmpFunc_int_v0.R)⟩]
  | 87 => [⟨slices_symMergeCmpFunc_int_v0.j2s, fun k (d : (List Int × Int × Unit × Int × Int × Unit) × (((List Ab2) × Unit) × Ab8 × Unit)) => (slices_symMergeCmpFunc_int_v0.j2 k d.1.1 d.1.2.1 d.1.2.2.2.1 d.1.2.2.2.2.1 d.2.1.1 d.2.2.1.1 d.2.2.1.2.1 d.2.2.1.2.2.1 d.2.2.1.2.2.2.1 : Option slices_symMergeCmpFunc_int_v0.R)⟩]
  | _ => []
noncomputable def slices_symMergeCmpFunc_int_v0.fd : FnD := ⟨Try.f70, slices_symMergeCmpFunc_int_v0.ini, slices_symMergeCmpFunc_int_v0.out, 0, [1000000, 1000001], [1000000, 1000001], slices_symMergeCmpFunc_int_v0.labF, fun k (d : (List Int × Int × Int × Int × Unit × Unit) × (((List Ab2) × Unit) × Ab8 × Unit)) => (slices_symMergeCmpFunc_int_v0.f k d.1.1 d.1.2.1 d.1.2.2.1 d.1.2.2.2.1 d.2.1.1 d.2.2.1.1 d.2.2.1.2.1 d.2.2.1.2.2.1 d.2.2.1.2.2.2.1 : Option slices_symMergeCmpFunc_int_v0.R), none, []⟩

/-! ### slices_stableCmpFunc_int_v0 : function 51 -/
abbrev slices_stableCmpFunc_int_v0.R := (List Int × Unit) × (Unit)
mutual
noncomputable def slices_stableCmpFunc_int_v0.l0 : Nat → (List Int) → Int → Int → Int → Int → (List Ab2) → (List Ab0) → ByteArray → Bool → Int → Option slices_stableCmpFunc_int_v0.R
  | 0, _, _, _, _, _, _, _, _, _, _ => none
  | k + 1, x0, x1, x6, x7, x8, o0_0, o1_0, o1_1, o1_2, o1_3 =>
    bif decide ((x8 : Int) ≤ x1) then
      (slices_insertionSortCmpFunc_int_v0.f k x0 x7 x8 o0_0 o1_0 o1_1 o1_2 o1_3).bind fun r1 =>
      slices_stableCmpFunc_int_v0.l0 k r1.1.1 x1 x6 x8 (IntKind.wrap .i64 (x8 + x6)) o0_0 o1_0 o1_1 o1_2 o1_3
    else
      (slices_insertionSortCmpFunc_int_v0.f k x0 x7 x1 o0_0 o1_0 o1_1 o1_2 o1_3).bind fun r2 =>
      slices_stableCmpFunc_int_v0.l1 k r2.1.1 x1 x6 o0_0 o1_0 o1_1 o1_2 o1_3
noncomputable def slices_stableCmpFunc_int_v0.l1 : Nat → (List Int) → Int → Int → (List Ab2) → (List Ab0) → ByteArray → Bool → Int → Option slices_stableCmpFunc_int_v0.R
  | 0, _, _, _, _, _, _, _, _ => none
  | k + 1, x0, x1, x6, o0_0, o1_0, o1_1, o1_2, o1_3 =>
    bif decide ((x6 : Int) < x1) then
      slices_stableCmpFunc_int_v0.l2 k x0 x1 x6 0 (IntKind.wrap .i64 (2 * x6)) o0_0 o1_0 o1_1 o1_2 o1_3
    else
      some ((x0, ()), (()))
noncomputable def slices_stableCmpFunc_int_v0.l2 : Nat → (List Int) → Int → Int → Int → Int → (List Ab2) → (List Ab0) → ByteArray → Bool → Int → Option slices_stableCmpFunc_int_v0.R
  | 0, _, _, _, _, _, _, _, _, _, _ => none
  | k + 1, x0, x1, x6, x7, x8, o0_0, o1_0, o1_1, o1_2, o1_3 =>
    bif decide ((x8 : Int) ≤ x1) then
      (slices_symMergeCmpFunc_int_v0.f k x0 x7 (IntKind.wrap .i64 (x7 + x6)) x8 o0_0 o1_0 o1_1 o1_2 o1_3).bind fun r3 =>
      slices_stableCmpFunc_int_v0.l2 k r3.1.1 x1 x6 x8 (IntKind.wrap .i64 (x8 + (IntKind.wrap .i64 (2 * x6)))) o0_0 o1_0 o1_1 o1_2 o1_3
    else
    bif decide ((IntKind.wrap .i64 (x7 + x6) : Int) < x1) then
      (slices_symMergeCmpFunc_int_v0.f k x0 x7 (IntKind.wrap .i64 (x7 + x6)) x1 o0_0 o1_0 o1_1 o1_2 o1_3).bind fun r4 =>
      slices_stableCmpFunc_int_v0.l1 k r4.1.1 x1 (IntKind.wrap .i64 (x6 * 2)) o0_0 o1_0 o1_1 o1_2 o1_3
    else
      slices_stableCmpFunc_int_v0.l1 k x0 x1 (IntKind.wrap .i64 (x6 * 2)) o0_0 o1_0 o1_1 o1_2 o1_3
noncomputable def slices_stableCmpFunc_int_v0.f : Nat → (List Int) → Int → (List Ab2) → (List Ab0) → ByteArray → Bool → Int → Option slices_stableCmpFunc_int_v0.R
  | 0, _, _, _, _, _, _, _ => none
  | k + 1, x0, x1, o0_0, o1_0, o1_1, o1_2, o1_3 =>
    slices_stableCmpFunc_int_v0.l0 k x0 x1 20 0 20 o0_0 o1_0 o1_1 o1_2 o1_3
end
abbrev slices_stableCmpFunc_int_v0.ini : LSh := ⟨[(0, .own 3900000 3 (.mu (.int .i64))), (1, .val (.int .i64)), (2, .clo 35 [(1000000, 0), (1000001, 0)])], [(1000000, 34, [.val (.sl Ac4)]), (1000001, 24, [.val (.sl Ac3), .val .str, .val .bool, .val (.int .i64)])]⟩
abbrev slices_stableCmpFunc_int_v0.out : LSh := ⟨[(0, .own 3900000 3 (.mu (.int .i64)))], []⟩
abbrev slices_stableCmpFunc_int_v0.l0s : LSh := ⟨[(0, .own 3900000 3 (.mu (.int .i64))), (1, .val (.int .i64)), (2, .clo 35 [(1000000, 0), (1000001, 0)]), (6, .val (.int .i64)), (7, .val (.int .i64)), (8, .val (.int .i64))], [(1000000, 34, [.val (.sl Ac4)]), (1000001, 24, [.val (.sl Ac3), .val .str, .val .bool, .val (.int .i64)])]⟩
abbrev slices_stableCmpFunc_int_v0.l1s : LSh := ⟨[(0, .own 3900000 3 (.mu (.int .i64))), (1, .val (.int .i64)), (2, .clo 35 [(1000000, 0), (1000001, 0)]), (6, .val (.int .i64))], [(1000000, 34, [.val (.sl Ac4)]), (1000001, 24, [.val (.sl Ac3), .val .str, .val .bool, .val (.int .i64)])]⟩
abbrev slices_stableCmpFunc_int_v0.l2s : LSh := ⟨[(0, .own 3900000 3 (.mu (.int .i64))), (1, .val (.int .i64)), (2, .clo 35 [(1000000, 0), (1000001, 0)]), (6, .val (.int .i64)), (7, .val (.int .i64)), (8, .val (.int .i64))], [(1000000, 34, [.val (.sl Ac4)]), (1000001, 24, [.val (.sl Ac3), .val .str, .val .bool, .val (.int .i64)])]⟩
noncomputable def slices_stableCmpFunc_int_v0.labF : Nat → List (LabF slices_stableCmpFunc_int_v0.out.den)
  | 4 => [⟨slices_stableCmpFunc_int_v0.l0s, fun k (d : (List Int × Int × Unit × Int × Int × Int × Unit) × (((List Ab2) × Unit) × Ab8 × Unit)) => (slices_stableCmpFunc_int_v0.l0 k d.1.1 d.1.2.1 d.1.2.2.2.1 d.1.2.2.2.2.1 d.1.2.2.2.2.2.1 d.2.1.1 d.2.2.1.1 d.2.2.1.2.1 d.2.2.1.2.2.1 d.2.2.1.2.2.2.1 : Option slices_stableCmpFunc_int_v0.R)⟩]
  | 14 => [⟨slices_stableCmpFunc_int_v0.l1s, fun k (d : (List Int × Int × Unit × Int × Unit) × (((List Ab2) × Unit) × Ab8 × Unit)) => (slices_stableCmpFunc_int_v0.l1 k d.1.1 d.1.2.1 d.1.2.2.2.1 d.2.1.1 d.2.2.1.1 d.2.2.1.2.1 d.2.2.1.2.2.1 d.2.2.1.2.2.2.1 : Option slices_stableCmpFunc_int_v0.R)⟩]
  | 18 => [⟨slices_stableCmpFunc_int_v0.l2s, fun k (d : (List Int × Int × Unit × Int × Int × Int × Unit) × (((List Ab2) × Unit) × Ab8 × Unit)) => (slices_stableCmpFunc_int_v0.l2 k d.1.1 d.1.2.1 d.1.2.2.2.1 d.1.2.2.2.2.1 d.1.2.2.2.2.2.1 d.2.1.1 d.2.2.1.1 d.2.2.1.2.1 d.2.2.1.2.2.1 d.2.2.1.2.2.2.1 : Option slices_stableCmpFunc_int_v0.R)⟩]
  | _ => []
noncomputable def slices_stableCmpFunc_int_v0.fd : FnD := ⟨Try.f51, slices_stableCmpFunc_int_v0.ini, slices_stableCmpFunc_int_v0.out, 0, [1000000, 1000001], [1000000, 1000001], slices_stableCmpFunc_int_v0.labF, fun k (d : (List Int × Int × Unit × Unit) × (((List Ab2) × Unit) × Ab8 × Unit)) => (slices_stableCmpFunc_int_v0.f k d.1.1 d.1.2.1 d.2.1.1 d.2.2.1.1 d.2.2.1.2.1 d.2.2.1.2.2.1 d.2.2.1.2.2.2.1 : Option slices_stableCmpFunc_int_v0.R), none, []⟩

/-! ### slices_SortStableFunc__int_int_v0 : function 34 -/
abbrev slices_SortStableFunc__int_int_v0.R := (List Int × Unit) × (Unit)
noncomputable def slices_SortStableFunc__int_int_v0.f : Nat → (List Int) → (List Ab2) → (List Ab0) → ByteArray → Bool → Int → Option slices_SortStableFunc__int_int_v0.R
  | 0, _, _, _, _, _, _ => none
  | k + 1, x0, o0_0, o1_0, o1_1, o1_2, o1_3 =>
    (slices_stableCmpFunc_int_v0.f k x0 (x0.length : Int) o0_0 o1_0 o1_1 o1_2 o1_3).bind fun r1 =>
    some ((r1.1.1, ()), (()))
abbrev slices_SortStableFunc__int_int_v0.ini : LSh := ⟨[(0, .own 3900000 3 (.mu (.int .i64))), (1, .clo 35 [(1000000, 0), (1000001, 0)])], [(1000000, 34, [.val (.sl Ac4)]), (1000001, 24, [.val (.sl Ac3), .val .str, .val .bool, .val (.int .i64)])]⟩
abbrev slices_SortStableFunc__int_int_v0.out : LSh := ⟨[(0, .own 3900000 3 (.mu (.int .i64)))], []⟩
noncomputable def slices_SortStableFunc__int_int_v0.labF : Nat → List (LabF slices_SortStableFunc__int_int_v0.out.den)
  | _ => []
noncomputable def slices_SortStableFunc__int_int_v0.fd : FnD := ⟨Try.f34, slices_SortStableFunc__int_int_v0.ini, slices_SortStableFunc__int_int_v0.out, 0, [1000000, 1000001], [1000000, 1000001], slices_SortStableFunc__int_int_v0.labF, fun k (d : (List Int × Unit × Unit) × (((List Ab2) × Unit) × Ab8 × Unit)) => (slices_SortStableFunc__int_int_v0.f k d.1.1 d.2.1.1 d.2.2.1.1 d.2.2.1.2.1 d.2.2.1.2.2.1 d.2.2.1.2.2.2.1 : Option slices_SortStableFunc__int_int_v0.R), none, []⟩

/-! ### find_Run : function 16 -/
abbrev find_Run.R := (List Int × Int × Unit) × (Unit)
mutual
noncomputable def find_Run.l0 : Nat → (List Int) → (List Ab2) → Int → Int → (List Ab0) → ByteArray → Bool → Int → (List Ab2) → Option find_Run.R
  | 0, _, _, _, _, _, _, _, _, _ => none
  | k + 1, x7, x17, x18, x19, o2_0, o2_1, o2_2, o2_3, o3_0 =>
    bif decide ((x19 : Int) < x18) then
      (rdo x17 x19).bind fun t2 =>
      find_Run.l1 k x7 x19 x17 x18 x19 o2_0 (o2_0.length : Int) 0 o2_0 o2_1 o2_2 o2_3 o3_0 t2.1 t2.2.1 t2.2.2.1
    else
    bif !(o2_1.toList == (⟨#[]⟩ : ByteArray).toList) then
      (slices_SortStableFunc__int_int_v0.f k x7 o3_0 o2_0 o2_1 o2_2 o2_3).bind fun r3 =>
      find_Run.j0 k r3.1.1 o2_0 o2_1 o2_2 o2_3
    else
      find_Run.j0 k x7 o2_0 o2_1 o2_2 o2_3
noncomputable def find_Run.l1 : Nat → (List Int) → Int → (List Ab2) → Int → Int → (List Ab0) → Int → Int → (List Ab0) → ByteArray → Bool → Int → (List Ab2) → ByteArray → Int → (List (ByteArray × Ab5 × Unit)) → Option find_Run.R
  | 0, _, _, _, _, _, _, _, _, _, _, _, _, _, _, _, _ => none
  | k + 1, x7, x8, x17, x18, x19, x25, x26, x27, o2_0, o2_1, o2_2, o2_3, o3_0, o9_0, o9_1, o9_2 =>
    bif decide ((x27 : Int) < x26) then
      (rdo x25 x27).bind fun t4 =>
      (find_Holds.f k t4 (o9_0, (o9_1, (o9_2, ())))).bind fun r5 =>
      bif !r5.1.1 then
        find_Run.l0 k x7 x17 x18 (IntKind.wrap .i64 (x19 + 1)) o2_0 o2_1 o2_2 o2_3 o3_0
      else
        find_Run.l1 k x7 x8 x17 x18 x19 x25 x26 (IntKind.wrap .i64 (x27 + 1)) o2_0 o2_1 o2_2 o2_3 o3_0 o9_0 o9_1 o9_2
    else
      (ck (decide ((x7.length + ([x8] : List Int).length) * 8 ≤ 70368744177664))).bind fun _ =>
      find_Run.l0 k (x7 ++ ([x8] : List Int)) x17 x18 (IntKind.wrap .i64 (x19 + 1)) o2_0 o2_1 o2_2 o2_3 o3_0
noncomputable def find_Run.j0 : Nat → (List Int) → (List Ab0) → ByteArray → Bool → Int → Option find_Run.R
  | 0, _, _, _, _, _ => none
  | k + 1, x7, o2_0, o2_1, o2_2, o2_3 =>
    (ck (decide (0 ≤ 0) && decide (0 ≤ (bif decide ((o2_3 : Int) < (x7.length : Int)) then o2_3 else (x7.length : Int))) && decide ((bif decide ((o2_3 : Int) < (x7.length : Int)) then o2_3 else (x7.length : Int)) ≤ (x7.length : Int)))).bind fun _ =>
    some (((x7.drop (0 : Int).toNat).take ((bif decide ((o2_3 : Int) < (x7.length : Int)) then o2_3 else (x7.length : Int)) - 0 : Int).toNat, 0, ()), (()))
noncomputable def find_Run.f : Nat → (List Ab0 × ByteArray × Bool × Int × Unit) → (List Ab2) → Option find_Run.R
  | 0, _, _ => none
  | k + 1, x0, x1 =>
    (find_Check.f k x0).bind fun r1 =>
    bif (r1.1.1 : Int) != 0 then
      some ((([] : List Int), r1.1.1, ()), (()))
    else
      find_Run.l0 k [] x1 (x1.length : Int) 0 x0.1 x0.2.1 x0.2.2.1 x0.2.2.2.1 x1
end
abbrev find_Run.ini : LSh := ⟨[(0, .val (.cons (.sl Ac3) (.cons .str (.cons .bool (.cons (.int .i64) .nil))))), (1, .val (.sl Ac4))], []⟩
abbrev find_Run.out : LSh := ⟨[(0, .val (.sl (.int .i64))), (1, .val (.int .i64))], []⟩
abbrev find_Run.l0s : LSh := ⟨[(2, .ptr 2 0), (3, .ptr 3 0), (7, .own 2000007 3 (.mu (.int .i64))), (17, .val (.sl Ac4)), (18, .val (.int .i64)), (19, .val (.int .i64))], [(2, 24, [.val (.sl Ac3), .val .str, .val .bool, .val (.int .i64)]), (3, 34, [.val (.sl Ac4)])]⟩
abbrev find_Run.l1s : LSh := ⟨[(2, .ptr 2 0), (3, .ptr 3 0), (7, .own 2000007 3 (.mu (.int .i64))), (8, .val (.int .i64)), (9, .ptr 9 0), (17, .val (.sl Ac4)), (18, .val (.int .i64)), (19, .val (.int .i64)), (25, .val (.sl Ac3)), (26, .val (.int .i64)), (27, .val (.int .i64))], [(2, 24, [.val (.sl Ac3), .val .str, .val .bool, .val (.int .i64)]), (3, 34, [.val (.sl Ac4)]), (9, 37, [.val .str, .val (.int .i64), .val (.sl (.cons .str (.cons Ac1 .nil)))])]⟩
abbrev find_Run.j0s : LSh := ⟨[(2, .ptr 2 0), (7, .own 2000007 3 (.mu (.int .i64)))], [(2, 24, [.val (.sl Ac3), .val .str, .val .bool, .val (.int .i64)])]⟩
noncomputable def find_Run.labF : Nat → List (LabF find_Run.out.den)
  | 12 => [⟨find_Run.l0s, fun k (d : (Unit × Unit × List Int × (List Ab2) × Int × Int × Unit) × (Ab8 × ((List Ab2) × Unit) × Unit)) => (find_Run.l0 k d.1.2.2.1 d.1.2.2.2.1 d.1.2.2.2.2.1 d.1.2.2.2.2.2.1 d.2.1.1 d.2.1.2.1 d.2.1.2.2.1 d.2.1.2.2.2.1 d.2.2.1.1 : Option find_Run.R)⟩]
  | 18 => [⟨find_Run.l1s, fun k (d : (Unit × Unit × List Int × Int × Unit × (List Ab2) × Int × Int × (List Ab0) × Int × Int × Unit) × (Ab8 × ((List Ab2) × Unit) × (ByteArray × Int × (List (ByteArray × Ab5 × Unit)) × Unit) × Unit)) => (find_Run.l1 k d.1.2.2.1 d.1.2.2.2.1 d.1.2.2.2.2.2.1 d.1.2.2.2.2.2.2.1 d.1.2.2.2.2.2.2.2.1 d.1.2.2.2.2.2.2.2.2.1 d.1.2.2.2.2.2.2.2.2.2.1 d.1.2.2.2.2.2.2.2.2.2.2.1 d.2.1.1 d.2.1.2.1 d.2.1.2.2.1 d.2.1.2.2.2.1 d.2.2.1.1 d.2.2.2.1.1 d.2.2.2.1.2.1 d.2.2.2.1.2.2.1 : Option find_Run.R)⟩]
  | 35 => [⟨find_Run.j0s, fun k (d : (Unit × List Int × Unit) × (Ab8 × Unit)) => (find_Run.j0 k d.1.2.1 d.2.1.1 d.2.1.2.1 d.2.1.2.2.1 d.2.1.2.2.2.1 : Option find_Run.R)⟩]
  | _ => []
noncomputable def find_Run.fd : FnD := ⟨Try.f16, find_Run.ini, find_Run.out, 2, [], [], find_Run.labF, fun k (d : ((List Ab0 × ByteArray × Bool × Int × Unit) × (List Ab2) × Unit) × (Unit)) => (find_Run.f k d.1.1 d.1.2.1 : Option find_Run.R), none, []⟩

/-! ### ask_Run : function 15 -/
abbrev ask_Run.R := (List Int × Int × Int × Unit) × (Unit)
noncomputable def ask_Run.f : Nat → ByteArray → (List Ab2) → Option ask_Run.R
  | 0, _, _ => none
  | k + 1, x0, x1 =>
    (ask_Read.f k x0).bind fun r1 =>
    bif (r1.1.2.2.1 : Int) != 0 then
      some ((([] : List Int), r1.1.2.1, r1.1.2.2.1, ()), (()))
    else
      (find_Run.f k r1.1.1 x1).bind fun r2 =>
      some ((r2.1.1, 0, r2.1.2.1, ()), (()))
abbrev ask_Run.ini : LSh := ⟨[(0, .val .str), (1, .val (.sl Ac4))], []⟩
abbrev ask_Run.out : LSh := ⟨[(0, .val (.sl (.int .i64))), (1, .val (.int .i64)), (2, .val (.int .i64))], []⟩
noncomputable def ask_Run.labF : Nat → List (LabF ask_Run.out.den)
  | _ => []
noncomputable def ask_Run.fd : FnD := ⟨Try.f15, ask_Run.ini, ask_Run.out, 3, [], [], ask_Run.labF, fun k (d : (ByteArray × (List Ab2) × Unit) × (Unit)) => (ask_Run.f k d.1.1 d.1.2.1 : Option ask_Run.R), none, []⟩

/-! ### chartularylaw26_AskRuns : function 5 -/
abbrev chartularylaw26_AskRuns.R := (Bool × Unit) × (Unit)
mutual
noncomputable def chartularylaw26_AskRuns.l0 : Nat → (List Ab2) → (List Ab2) → Int → (List Ab0) → ByteArray → Bool → Int → Option chartularylaw26_AskRuns.R
  | 0, _, _, _, _, _, _, _ => none
  | k + 1, x1, x5, x6, o2_0, o2_1, o2_2, o2_3 =>
    bif decide ((x6 : Int) < (x1.length : Int)) then
      bif decide ((x6 : Int) < 20) then
        (rdo x1 x6).bind fun t2 =>
        (chartularylaw05_Few.f k t2).bind fun r3 =>
        (ck (decide ((x5.length + ([r3.1.1] : List Ab2).length) * 48 ≤ 70368744177664))).bind fun _ =>
        chartularylaw26_AskRuns.l0 k x1 (x5 ++ ([r3.1.1] : List Ab2)) (IntKind.wrap .i64 (x6 + 1)) o2_0 o2_1 o2_2 o2_3
      else
        (ask_Print.f k (o2_0, (o2_1, (o2_2, (o2_3, ()))))).bind fun r4 =>
        (ask_Run.f k r4.1.1 x5).bind fun r5 =>
        bif r4.1.1.toList == (⟨#[]⟩ : ByteArray).toList then
          chartularylaw26_AskRuns.j0 k x5 r5.1.1 r5.1.2.1 r5.1.2.2.1 ([] : List Ab0) ByteArray.empty false 64
        else
          chartularylaw26_AskRuns.j0 k x5 r5.1.1 r5.1.2.1 r5.1.2.2.1 o2_0 o2_1 o2_2 o2_3
    else
      (ask_Print.f k (o2_0, (o2_1, (o2_2, (o2_3, ()))))).bind fun r6 =>
      (ask_Run.f k r6.1.1 x5).bind fun r7 =>
      bif r6.1.1.toList == (⟨#[]⟩ : ByteArray).toList then
        chartularylaw26_AskRuns.j0 k x5 r7.1.1 r7.1.2.1 r7.1.2.2.1 ([] : List Ab0) ByteArray.empty false 64
      else
        chartularylaw26_AskRuns.j0 k x5 r7.1.1 r7.1.2.1 r7.1.2.2.1 o2_0 o2_1 o2_2 o2_3
noncomputable def chartularylaw26_AskRuns.j0 : Nat → (List Ab2) → (List Int) → Int → Int → (List Ab0) → ByteArray → Bool → Int → Option chartularylaw26_AskRuns.R
  | 0, _, _, _, _, _, _, _, _ => none
  | k + 1, x5, x8, x9, x10, o2_0, o2_1, o2_2, o2_3 =>
    (find_Run.f k (o2_0, (o2_1, (o2_2, (o2_3, ())))) x5).bind fun r8 =>
    bif (x10 : Int) != r8.1.2.1 then
      some ((false, ()), (()))
    else
    bif (x9 : Int) != 0 then
      some ((false, ()), (()))
    else
    bif ((x8.length : Int) : Int) != (r8.1.1.length : Int) then
      some ((false, ()), (()))
    else
      chartularylaw26_AskRuns.j1 k x8 r8.1.1
noncomputable def chartularylaw26_AskRuns.j1 : Nat → (List Int) → (List Int) → Option chartularylaw26_AskRuns.R
  | 0, _, _ => none
  | k + 1, x8, x11 =>
    chartularylaw26_AskRuns.l1 k x8 x11 0
noncomputable def chartularylaw26_AskRuns.l1 : Nat → (List Int) → (List Int) → Int → Option chartularylaw26_AskRuns.R
  | 0, _, _, _ => none
  | k + 1, x8, x11, x13 =>
    bif decide ((x13 : Int) < (x8.length : Int)) then
      (rdo x8 x13).bind fun t9 =>
      (rdo x11 x13).bind fun t10 =>
      bif (t9 : Int) != t10 then
        some ((false, ()), (()))
      else
        chartularylaw26_AskRuns.l1 k x8 x11 (IntKind.wrap .i64 (x13 + 1))
    else
      (chartularylaw26_awake.f k).bind fun r11 =>
      some ((r11.1.1, ()), (()))
noncomputable def chartularylaw26_AskRuns.f : Nat → (List Ab0 × ByteArray × Bool × Int × Unit) → (List Ab2) → Option chartularylaw26_AskRuns.R
  | 0, _, _ => none
  | k + 1, x0, x1 =>
    (chartularylaw26_few.f k x0).bind fun r1 =>
    chartularylaw26_AskRuns.l0 k x1 [] 0 r1.1.1.1 r1.1.1.2.1 r1.1.1.2.2.1 r1.1.1.2.2.2.1
end
abbrev chartularylaw26_AskRuns.ini : LSh := ⟨[(0, .val (.cons (.sl Ac3) (.cons .str (.cons .bool (.cons (.int .i64) .nil))))), (1, .val (.sl Ac4))], []⟩
abbrev chartularylaw26_AskRuns.out : LSh := ⟨[(0, .val .bool)], []⟩
abbrev chartularylaw26_AskRuns.l0s : LSh := ⟨[(1, .val (.sl Ac4)), (2, .ptr 2 0), (5, .own 2000005 37 Ac4), (6, .val (.int .i64))], [(2, 24, [.val (.sl Ac3), .val .str, .val .bool, .val (.int .i64)])]⟩
abbrev chartularylaw26_AskRuns.j0s : LSh := ⟨[(2, .ptr 2 0), (5, .own 2000005 37 Ac4), (8, .val (.sl (.int .i64))), (9, .val (.int .i64)), (10, .val (.int .i64))], [(2, 24, [.val (.sl Ac3), .val .str, .val .bool, .val (.int .i64)])]⟩
abbrev chartularylaw26_AskRuns.j1s : LSh := ⟨[(8, .val (.sl (.int .i64))), (11, .val (.sl (.int .i64)))], []⟩
abbrev chartularylaw26_AskRuns.l1s : LSh := ⟨[(8, .val (.sl (.int .i64))), (11, .val (.sl (.int .i64))), (13, .val (.int .i64))], []⟩
noncomputable def chartularylaw26_AskRuns.labF : Nat → List (LabF chartularylaw26_AskRuns.out.den)
  | 8 => [⟨chartularylaw26_AskRuns.l0s, fun k (d : ((List Ab2) × Unit × (List Ab2) × Int × Unit) × (Ab8 × Unit)) => (chartularylaw26_AskRuns.l0 k d.1.1 d.1.2.2.1 d.1.2.2.2.1 d.2.1.1 d.2.1.2.1 d.2.1.2.2.1 d.2.1.2.2.2.1 : Option chartularylaw26_AskRuns.R)⟩]
  | 23 => [⟨chartularylaw26_AskRuns.j0s, fun k (d : (Unit × (List Ab2) × List Int × Int × Int × Unit) × (Ab8 × Unit)) => (chartularylaw26_AskRuns.j0 k d.1.2.1 d.1.2.2.1 d.1.2.2.2.1 d.1.2.2.2.2.1 d.2.1.1 d.2.1.2.1 d.2.1.2.2.1 d.2.1.2.2.2.1 : Option chartularylaw26_AskRuns.R)⟩]
  | 29 => [⟨chartularylaw26_AskRuns.j1s, fun k (d : (List Int × List Int × Unit) × (Unit)) => (chartularylaw26_AskRuns.j1 k d.1.1 d.1.2.1 : Option chartularylaw26_AskRuns.R)⟩]
  | 30 => [⟨chartularylaw26_AskRuns.l1s, fun k (d : (List Int × List Int × Int × Unit) × (Unit)) => (chartularylaw26_AskRuns.l1 k d.1.1 d.1.2.1 d.1.2.2.1 : Option chartularylaw26_AskRuns.R)⟩]
  | _ => []
noncomputable def chartularylaw26_AskRuns.fd : FnD := ⟨Try.f5, chartularylaw26_AskRuns.ini, chartularylaw26_AskRuns.out, 1, [], [], chartularylaw26_AskRuns.labF, fun k (d : ((List Ab0 × ByteArray × Bool × Int × Unit) × (List Ab2) × Unit) × (Unit)) => (chartularylaw26_AskRuns.f k d.1.1 d.1.2.1 : Option chartularylaw26_AskRuns.R), none, []⟩

noncomputable def Γ (k : Nat) : Gam := [(17, [chartularylaw26_cut.fd.sp k]), (6, [chartularylaw26_few.fd.sp k]), (57, [paper_sign.fd.sp k]), (43, [paper_word.fd.sp k]), (22, [paper_IsName.fd.sp k]), (58, [value_nan.fd.sp k]), (44, [value_Clean.fd.sp k]), (23, [value_Right.fd.sp k]), (8, [find_Check.fd.sp k]), (37, [strings_Builder_WriteByte_v0.fd.sp k, strings_Builder_WriteByte_v1.fd.sp k]), (37, [strings_Builder_WriteByte_v0.fd.sp k, strings_Builder_WriteByte_v1.fd.sp k]), (38, [say_plain.fd.sp k]), (39, [strings_Builder_WriteString_v0.fd.sp k]), (19, [say_Quoted.fd.sp k]), (55, [say_count.fd.sp k]), (41, [say_whole.fd.sp k]), (20, [say_Value.fd.sp k]), (18, [ask_term.fd.sp k]), (21, [strings_Join.fd.sp k]), (7, [ask_Print.fd.sp k]), (76, [say_lexer_blanks_1.fd.sp k]), (61, [say_lexer_run_v0.fd.sp k, say_lexer_run_v1.fd.sp k, say_lexer_run_v2.fd.sp k]), (59, [say_lexer_blanks.fd.sp k]), (60, [say_letter.fd.sp k]), (63, [say_digit.fd.sp k]), (62, [say_lexer_next_1.fd.sp k]), (61, [say_lexer_run_v0.fd.sp k, say_lexer_run_v1.fd.sp k, say_lexer_run_v2.fd.sp k]), (61, [say_lexer_run_v0.fd.sp k, say_lexer_run_v1.fd.sp k, say_lexer_run_v2.fd.sp k]), (78, [stringslite_IndexByte.fd.sp k]), (65, [strings_IndexByte.fd.sp k]), (77, [say_escape.fd.sp k]), (64, [say_lexer_quote.fd.sp k]), (45, [say_lexer_next.fd.sp k]), (24, [say_Tokens.fd.sp k]), (25, [ask_asker_word.fd.sp k]), (28, [ask_asker_fail.fd.sp k]), (27, [ask_asker_name.fd.sp k]), (88, [say_parser_here.fd.sp k]), (83, [say_parser_fail.fd.sp k]), (89, [say_parser_take.fd.sp k]), (90, [say_digits.fd.sp k]), (84, [say_parser_number.fd.sp k]), (94, [say_parser_peek.fd.sp k]), (92, [say_parser_mark.fd.sp k]), (93, [say_nibble.fd.sp k]), (91, [say_parser_float.fd.sp k]), (85, [say_parser_word.fd.sp k]), (79, [say_parser_value.fd.sp k]), (66, [say_TakeValue.fd.sp k]), (46, [ask_asker_value.fd.sp k]), (26, [ask_asker_term.fd.sp k]), (29, [ask_asker_number.fd.sp k]), (10, [ask_Read.fd.sp k]), (9, [chartularylaw26_awake.fd.sp k]), (14, [chartularylaw05_Few.fd.sp k]), (68, [paper_Find_1_v0.fd.sp k]), (67, [slices_IndexFunc_api_Field_v0.fd.sp k]), (49, [paper_Find.fd.sp k]), (71, [value_sign.fd.sp k]), (72, [value_rank.fd.sp k]), (81, [bytealg_CompareString.fd.sp k]), (73, [strings_Compare.fd.sp k]), (53, [value_Compare.fd.sp k]), (50, [find_between.fd.sp k]), (33, [find_Holds.fd.sp k]), (52, [find_by.fd.sp k]), (36, [find_compare.fd.sp k]), (35, [find_Run_1_v0.fd.sp k]), (69, [slices_insertionSortCmpFunc_int_v0.fd.sp k]), (86, [slices_swapRangeCmpFunc_int_v0.fd.sp k]), (80, [slices_rotateCmpFunc_int_v0.fd.sp k]), (70, [slices_symMergeCmpFunc_int_v0.fd.sp k]), (51, [slices_stableCmpFunc_int_v0.fd.sp k]), (34, [slices_SortStableFunc__int_int_v0.fd.sp k]), (16, [find_Run.fd.sp k]), (15, [ask_Run.fd.sp k]), (5, [chartularylaw26_AskRuns.fd.sp k]), (40, [strFresh 76, strUsed 76 5]), (42, [growFresh 76 5]), (54, [ccFresh 76, ccUsed 76 5]), (82, [idxB]), (87, [strCmp])]
end Go.Proofs.Ytpidgdelfaidoaa.E
