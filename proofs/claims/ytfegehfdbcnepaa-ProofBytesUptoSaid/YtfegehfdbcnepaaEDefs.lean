import Derived.Test.YtfegehfdbcnepaaEVal
import Derived.Test.YtfegehfdbcnepaaProg
namespace Go.Proofs.Ytfegehfdbcnepaa.E
open Go Go.Proofs.Ytfegehfdbcnepaa.Eng Go.Proofs
set_option linter.unusedVariables false
set_option maxRecDepth 100000
def tt : TT := [
  (3, ⟨1, 8, false, (.int .i64), [(.int .i64 0)], (.int .i64), false⟩),
  (4, ⟨1, 1, false, .bool, [(.bool false)], .bool, false⟩),
  (5, ⟨1, 1, false, (.int .u8), [(.int .u8 0)], (.int .u8), false⟩),
  (9, ⟨1, 16, false, .str, [(.str ByteArray.empty)], .str, false⟩),
  (22, ⟨1, 24, false, (.sl (.cons (.int .i64) (.cons .str (.cons .bool (.cons .str (.cons .str (.cons .str .nil))))))), [.nils], (.slice 50), false⟩),
  (23, ⟨1, 24, false, (.sl .str), [.nils], (.slice 9), false⟩),
  (25, ⟨9, 128, true, (.cons .str (.cons (.int .i64) (.cons (.int .i64) (.cons (.int .i64) (.cons (.sl (.cons (.int .i64) (.cons .str (.cons .bool (.cons .str (.cons .str (.cons .str .nil))))))) (.cons (.sl .str) (.cons (.int .i64) (.cons (.int .i64) (.cons (.sl .str) .nil))))))))), [(.str ByteArray.empty), (.int .i64 0), (.int .i64 0), (.int .i64 0), .nils, .nils, (.int .i64 0), (.int .i64 0), .nils], (.struct [(0, 9, 1), (1, 3, 1), (2, 3, 1), (3, 3, 1), (4, 22, 1), (5, 23, 1), (6, 3, 1), (7, 3, 1), (8, 23, 1)]), false⟩),
  (32, ⟨2, 24, true, (.cons (.int .i64) (.cons .str .nil)), [(.int .i64 0), (.str ByteArray.empty)], (.struct [(0, 3, 1), (1, 9, 1)]), true⟩),
  (34, ⟨3, 48, true, (.cons (.cons (.int .i64) (.cons .str .nil)) (.cons (.sl .str) .nil)), [(.int .i64 0), (.str ByteArray.empty), .nils], (.struct [(0, 32, 2), (2, 23, 1)]), false⟩),
  (40, ⟨1, 8, false, (.int .i64), [(.int .i64 0)], (.int .i64), false⟩),
  (50, ⟨6, 80, true, (.cons (.int .i64) (.cons .str (.cons .bool (.cons .str (.cons .str (.cons .str .nil)))))), [(.int .i64 0), (.str ByteArray.empty), (.bool false), (.str ByteArray.empty), (.str ByteArray.empty), (.str ByteArray.empty)], (.struct [(0, 3, 1), (1, 9, 1), (2, 4, 1), (3, 9, 1), (4, 9, 1), (5, 9, 1)]), true⟩),
  (51, ⟨1, 24, false, (.sl (.int .u8)), [.nils], (.slice 5), false⟩),
  (54, ⟨2, 24, true, (.cons .str (.cons .bool .nil)), [(.str ByteArray.empty), (.bool false)], (.struct [(0, 9, 1), (1, 4, 1)]), true⟩),
  (56, ⟨4, 32, true, (.cons (.int .i64) (.cons (.int .i64) (.cons (.int .i64) (.cons (.int .i64) .nil)))), [(.int .i64 0), (.int .i64 0), (.int .i64 0), (.int .i64 0)], (.array 4 3), false⟩),
  (62, ⟨1, 8, false, .nil, [.nilp], (.ptr 73), false⟩),
  (73, ⟨3, 32, true, (.cons .str (.cons (.int .i64) (.cons (.int .i64) .nil))), [(.str ByteArray.empty), (.int .i64 0), (.int .i64 0)], (.struct [(0, 9, 1), (1, 3, 1), (2, 40, 1)]), true⟩)]
/-! ### chartularylaw19_cut : function 13 -/
abbrev chartularylaw19_cut.R := (ByteArray × Unit) × (Unit)
noncomputable def chartularylaw19_cut.f : Nat → ByteArray → Option chartularylaw19_cut.R
  | 0, _ => none
  | k + 1, x0 =>
    bif decide (((x0.size : Int) : Int) > 300) then
      (ck (decide (0 ≤ 0) && decide (0 ≤ 300) && decide (300 ≤ (x0.size : Int)))).bind fun _ =>
      some ((x0.extract (0 : Int).toNat (300 : Int).toNat, ()), (()))
    else
      some ((x0, ()), (()))
abbrev chartularylaw19_cut.ini : LSh := ⟨[(0, .val .str)], []⟩
abbrev chartularylaw19_cut.out : LSh := ⟨[(0, .val .str)], []⟩
noncomputable def chartularylaw19_cut.labF : Nat → Option (LabF chartularylaw19_cut.out.den)
  | _ => none
noncomputable def chartularylaw19_cut.fd : FnD := ⟨Try.f13, chartularylaw19_cut.ini, chartularylaw19_cut.out, 1, [], [], chartularylaw19_cut.labF, fun k (d : (ByteArray × Unit) × (Unit)) => (chartularylaw19_cut.f k d.1.1 : Option chartularylaw19_cut.R)⟩

/-! ### chartularylaw19_texts : function 14 -/
abbrev chartularylaw19_texts.R := (List ByteArray × Unit) × (Unit)
mutual
noncomputable def chartularylaw19_texts.l0 : Nat → (List ByteArray) → (List ByteArray) → Int → Option chartularylaw19_texts.R
  | 0, _, _, _ => none
  | k + 1, x0, x3, x4 =>
    bif decide ((x4 : Int) < (x0.length : Int)) then
      bif decide ((x4 : Int) < 30) then
        (rdo x0 x4).bind fun t1 =>
        (chartularylaw19_cut.f k t1).bind fun r2 =>
        (ck (decide ((x3.length + ([r2.1.1] : List ByteArray).length) * 16 ≤ 70368744177664))).bind fun _ =>
        chartularylaw19_texts.l0 k x0 (x3 ++ ([r2.1.1] : List ByteArray)) (IntKind.wrap .i64 (x4 + 1))
      else
        some ((x3, ()), (()))
    else
      some ((x3, ()), (()))
noncomputable def chartularylaw19_texts.f : Nat → (List ByteArray) → Option chartularylaw19_texts.R
  | 0, _ => none
  | k + 1, x0 =>
    chartularylaw19_texts.l0 k x0 [] 0
end
abbrev chartularylaw19_texts.ini : LSh := ⟨[(0, .val (.sl .str))], []⟩
abbrev chartularylaw19_texts.out : LSh := ⟨[(0, .val (.sl .str))], []⟩
abbrev chartularylaw19_texts.l0s : LSh := ⟨[(0, .val (.sl .str)), (3, .own 2000003 9 .str), (4, .val (.int .i64))], []⟩
noncomputable def chartularylaw19_texts.labF : Nat → Option (LabF chartularylaw19_texts.out.den)
  | 6 => some ⟨chartularylaw19_texts.l0s, fun k (d : (List ByteArray × List ByteArray × Int × Unit) × (Unit)) => (chartularylaw19_texts.l0 k d.1.1 d.1.2.1 d.1.2.2.1 : Option chartularylaw19_texts.R)⟩
  | _ => none
noncomputable def chartularylaw19_texts.fd : FnD := ⟨Try.f14, chartularylaw19_texts.ini, chartularylaw19_texts.out, 1, [], [], chartularylaw19_texts.labF, fun k (d : (List ByteArray × Unit) × (Unit)) => (chartularylaw19_texts.f k d.1.1 : Option chartularylaw19_texts.R)⟩

/-! ### chartularylaw19_Few : function 8 -/
abbrev chartularylaw19_Few.R := ((ByteArray × Int × Int × Int × List (Int × ByteArray × Bool × ByteArray × ByteArray × ByteArray × Unit) × List ByteArray × Int × Int × List ByteArray × Unit) × Unit) × (Unit)
mutual
noncomputable def chartularylaw19_Few.l0 : Nat → (List (Int × ByteArray × Bool × ByteArray × ByteArray × ByteArray × Unit)) → Int → ByteArray → Int → Int → Int → (List (Int × ByteArray × Bool × ByteArray × ByteArray × ByteArray × Unit)) → (List ByteArray) → Int → Int → (List ByteArray) → ByteArray → Int → Int → Int → (List (Int × ByteArray × Bool × ByteArray × ByteArray × ByteArray × Unit)) → (List ByteArray) → Int → Int → (List ByteArray) → Option chartularylaw19_Few.R
  | 0, _, _, _, _, _, _, _, _, _, _, _, _, _, _, _, _, _, _, _, _ => none
  | k + 1, x3, x4, o1_0, o1_1, o1_2, o1_3, o1_4, o1_5, o1_6, o1_7, o1_8, o2_0, o2_1, o2_2, o2_3, o2_4, o2_5, o2_6, o2_7, o2_8 =>
    bif decide ((x4 : Int) < (o1_4.length : Int)) then
      bif decide ((x4 : Int) < 30) then
        (rdo o1_4 x4).bind fun t4 =>
        (chartularylaw19_cut.f k t4.2.1).bind fun r5 =>
        (chartularylaw19_cut.f k t4.2.2.2.1).bind fun r6 =>
        (chartularylaw19_cut.f k t4.2.2.2.2.1).bind fun r7 =>
        (chartularylaw19_cut.f k t4.2.2.2.2.2.1).bind fun r8 =>
        (ck (decide ((x3.length + ([(t4.1, (r5.1.1, (t4.2.2.1, (r6.1.1, (r7.1.1, (r8.1.1, ()))))))] : List (Int × ByteArray × Bool × ByteArray × ByteArray × ByteArray × Unit)).length) * 80 ≤ 70368744177664))).bind fun _ =>
        chartularylaw19_Few.l0 k (x3 ++ ([(t4.1, (r5.1.1, (t4.2.2.1, (r6.1.1, (r7.1.1, (r8.1.1, ()))))))] : List (Int × ByteArray × Bool × ByteArray × ByteArray × ByteArray × Unit))) (IntKind.wrap .i64 (x4 + 1)) o1_0 o1_1 o1_2 o1_3 o1_4 o1_5 o1_6 o1_7 o1_8 o2_0 o2_1 o2_2 o2_3 o2_4 o2_5 o2_6 o2_7 o2_8
      else
        some (((o1_0, (o1_1, (o1_2, (o1_3, (x3, (o1_5, (o1_6, (o1_7, (o1_8, ()))))))))), ()), (()))
    else
      some (((o1_0, (o1_1, (o1_2, (o1_3, (x3, (o1_5, (o1_6, (o1_7, (o1_8, ()))))))))), ()), (()))
noncomputable def chartularylaw19_Few.f : Nat → (ByteArray × Int × Int × Int × List (Int × ByteArray × Bool × ByteArray × ByteArray × ByteArray × Unit) × List ByteArray × Int × Int × List ByteArray × Unit) → Option chartularylaw19_Few.R
  | 0, _ => none
  | k + 1, x0 =>
    (chartularylaw19_cut.f k x0.1).bind fun r1 =>
    (chartularylaw19_texts.f k x0.2.2.2.2.2.1).bind fun r2 =>
    (chartularylaw19_texts.f k x0.2.2.2.2.2.2.2.2.1).bind fun r3 =>
    chartularylaw19_Few.l0 k [] 0 r1.1.1 x0.2.1 x0.2.2.1 x0.2.2.2.1 x0.2.2.2.2.1 r2.1.1 x0.2.2.2.2.2.2.1 x0.2.2.2.2.2.2.2.1 r3.1.1 ByteArray.empty 0 0 0 ([] : List (Int × ByteArray × Bool × ByteArray × ByteArray × ByteArray × Unit)) ([] : List ByteArray) 0 0 ([] : List ByteArray)
end
abbrev chartularylaw19_Few.ini : LSh := ⟨[(0, .val (.cons .str (.cons (.int .i64) (.cons (.int .i64) (.cons (.int .i64) (.cons (.sl (.cons (.int .i64) (.cons .str (.cons .bool (.cons .str (.cons .str (.cons .str .nil))))))) (.cons (.sl .str) (.cons (.int .i64) (.cons (.int .i64) (.cons (.sl .str) .nil))))))))))], []⟩
abbrev chartularylaw19_Few.out : LSh := ⟨[(0, .val (.cons .str (.cons (.int .i64) (.cons (.int .i64) (.cons (.int .i64) (.cons (.sl (.cons (.int .i64) (.cons .str (.cons .bool (.cons .str (.cons .str (.cons .str .nil))))))) (.cons (.sl .str) (.cons (.int .i64) (.cons (.int .i64) (.cons (.sl .str) .nil))))))))))], []⟩
abbrev chartularylaw19_Few.l0s : LSh := ⟨[(1, .ptr 1 0), (2, .ptr 2 0), (3, .own 2000003 50 (.cons (.int .i64) (.cons .str (.cons .bool (.cons .str (.cons .str (.cons .str .nil))))))), (4, .val (.int .i64))], [(1, 25, [.val .str, .val (.int .i64), .val (.int .i64), .val (.int .i64), .val (.sl (.cons (.int .i64) (.cons .str (.cons .bool (.cons .str (.cons .str (.cons .str .nil))))))), .val (.sl .str), .val (.int .i64), .val (.int .i64), .val (.sl .str)]), (2, 25, [.val .str, .val (.int .i64), .val (.int .i64), .val (.int .i64), .val (.sl (.cons (.int .i64) (.cons .str (.cons .bool (.cons .str (.cons .str (.cons .str .nil))))))), .val (.sl .str), .val (.int .i64), .val (.int .i64), .val (.sl .str)])]⟩
noncomputable def chartularylaw19_Few.labF : Nat → Option (LabF chartularylaw19_Few.out.den)
  | 12 => some ⟨chartularylaw19_Few.l0s, fun k (d : (Unit × Unit × (List (Int × ByteArray × Bool × ByteArray × ByteArray × ByteArray × Unit)) × Int × Unit) × ((ByteArray × Int × Int × Int × (List (Int × ByteArray × Bool × ByteArray × ByteArray × ByteArray × Unit)) × List ByteArray × Int × Int × List ByteArray × Unit) × (ByteArray × Int × Int × Int × (List (Int × ByteArray × Bool × ByteArray × ByteArray × ByteArray × Unit)) × List ByteArray × Int × Int × List ByteArray × Unit) × Unit)) => (chartularylaw19_Few.l0 k d.1.2.2.1 d.1.2.2.2.1 d.2.1.1 d.2.1.2.1 d.2.1.2.2.1 d.2.1.2.2.2.1 d.2.1.2.2.2.2.1 d.2.1.2.2.2.2.2.1 d.2.1.2.2.2.2.2.2.1 d.2.1.2.2.2.2.2.2.2.1 d.2.1.2.2.2.2.2.2.2.2.1 d.2.2.1.1 d.2.2.1.2.1 d.2.2.1.2.2.1 d.2.2.1.2.2.2.1 d.2.2.1.2.2.2.2.1 d.2.2.1.2.2.2.2.2.1 d.2.2.1.2.2.2.2.2.2.1 d.2.2.1.2.2.2.2.2.2.2.1 d.2.2.1.2.2.2.2.2.2.2.2.1 : Option chartularylaw19_Few.R)⟩
  | _ => none
noncomputable def chartularylaw19_Few.fd : FnD := ⟨Try.f8, chartularylaw19_Few.ini, chartularylaw19_Few.out, 1, [], [], chartularylaw19_Few.labF, fun k (d : ((ByteArray × Int × Int × Int × List (Int × ByteArray × Bool × ByteArray × ByteArray × ByteArray × Unit) × List ByteArray × Int × Int × List ByteArray × Unit) × Unit) × (Unit)) => (chartularylaw19_Few.f k d.1.1 : Option chartularylaw19_Few.R)⟩

/-! ### chartularylaw19_sums : function 16 -/
abbrev chartularylaw19_sums.R := (Bool × Unit) × (Unit)
mutual
noncomputable def chartularylaw19_sums.l0 : Nat → (List ByteArray) → Int → Int → Option chartularylaw19_sums.R
  | 0, _, _, _ => none
  | k + 1, x0, x1, x5 =>
    bif decide ((x5 : Int) < (x0.length : Int)) then
      (rdo x0 x5).bind fun t1 =>
      bif ((t1.size : Int) : Int) != 32 then
        some ((false, ()), (()))
      else
        chartularylaw19_sums.l0 k x0 x1 (IntKind.wrap .i64 (x5 + 1))
    else
      some ((decide (((x0.length : Int) : Int) ≤ x1), ()), (()))
noncomputable def chartularylaw19_sums.f : Nat → (List ByteArray) → Int → Option chartularylaw19_sums.R
  | 0, _, _ => none
  | k + 1, x0, x1 =>
    chartularylaw19_sums.l0 k x0 x1 0
end
abbrev chartularylaw19_sums.ini : LSh := ⟨[(0, .val (.sl .str)), (1, .val (.int .i64))], []⟩
abbrev chartularylaw19_sums.out : LSh := ⟨[(0, .val .bool)], []⟩
abbrev chartularylaw19_sums.l0s : LSh := ⟨[(0, .val (.sl .str)), (1, .val (.int .i64)), (5, .val (.int .i64))], []⟩
noncomputable def chartularylaw19_sums.labF : Nat → Option (LabF chartularylaw19_sums.out.den)
  | 4 => some ⟨chartularylaw19_sums.l0s, fun k (d : (List ByteArray × Int × Int × Unit) × (Unit)) => (chartularylaw19_sums.l0 k d.1.1 d.1.2.1 d.1.2.2.1 : Option chartularylaw19_sums.R)⟩
  | _ => none
noncomputable def chartularylaw19_sums.fd : FnD := ⟨Try.f16, chartularylaw19_sums.ini, chartularylaw19_sums.out, 1, [], [], chartularylaw19_sums.labF, fun k (d : (List ByteArray × Int × Unit) × (Unit)) => (chartularylaw19_sums.f k d.1.1 d.1.2.1 : Option chartularylaw19_sums.R)⟩

/-! ### paper_sign : function 48 -/
abbrev paper_sign.R := (Bool × Unit) × (Unit)
noncomputable def paper_sign.f : Nat → Int → Option paper_sign.R
  | 0, _ => none
  | k + 1, x0 =>
    bif decide ((x0 : Int) ≥ 97) then
      bif decide ((x0 : Int) ≤ 122) then
        some ((true, ()), (()))
      else
      bif decide ((x0 : Int) ≥ 65) then
        bif decide ((x0 : Int) ≤ 90) then
          some ((true, ()), (()))
        else
        bif decide ((x0 : Int) ≥ 48) then
          bif decide ((x0 : Int) ≤ 57) then
            some ((true, ()), (()))
          else
          bif (x0 : Int) == 45 then
            some ((true, ()), (()))
          else
          bif (x0 : Int) == 95 then
            some ((true, ()), (()))
          else
            some (((x0 : Int) == 46, ()), (()))
        else
        bif (x0 : Int) == 45 then
          some ((true, ()), (()))
        else
        bif (x0 : Int) == 95 then
          some ((true, ()), (()))
        else
          some (((x0 : Int) == 46, ()), (()))
      else
      bif decide ((x0 : Int) ≥ 48) then
        bif decide ((x0 : Int) ≤ 57) then
          some ((true, ()), (()))
        else
        bif (x0 : Int) == 45 then
          some ((true, ()), (()))
        else
        bif (x0 : Int) == 95 then
          some ((true, ()), (()))
        else
          some (((x0 : Int) == 46, ()), (()))
      else
      bif (x0 : Int) == 45 then
        some ((true, ()), (()))
      else
      bif (x0 : Int) == 95 then
        some ((true, ()), (()))
      else
        some (((x0 : Int) == 46, ()), (()))
    else
    bif decide ((x0 : Int) ≥ 65) then
      bif decide ((x0 : Int) ≤ 90) then
        some ((true, ()), (()))
      else
      bif decide ((x0 : Int) ≥ 48) then
        bif decide ((x0 : Int) ≤ 57) then
          some ((true, ()), (()))
        else
        bif (x0 : Int) == 45 then
          some ((true, ()), (()))
        else
        bif (x0 : Int) == 95 then
          some ((true, ()), (()))
        else
          some (((x0 : Int) == 46, ()), (()))
      else
      bif (x0 : Int) == 45 then
        some ((true, ()), (()))
      else
      bif (x0 : Int) == 95 then
        some ((true, ()), (()))
      else
        some (((x0 : Int) == 46, ()), (()))
    else
    bif decide ((x0 : Int) ≥ 48) then
      bif decide ((x0 : Int) ≤ 57) then
        some ((true, ()), (()))
      else
      bif (x0 : Int) == 45 then
        some ((true, ()), (()))
      else
      bif (x0 : Int) == 95 then
        some ((true, ()), (()))
      else
        some (((x0 : Int) == 46, ()), (()))
    else
    bif (x0 : Int) == 45 then
      some ((true, ()), (()))
    else
    bif (x0 : Int) == 95 then
      some ((true, ()), (()))
    else
      some (((x0 : Int) == 46, ()), (()))
abbrev paper_sign.ini : LSh := ⟨[(0, .val (.int .u8))], []⟩
abbrev paper_sign.out : LSh := ⟨[(0, .val .bool)], []⟩
noncomputable def paper_sign.labF : Nat → Option (LabF paper_sign.out.den)
  | _ => none
noncomputable def paper_sign.fd : FnD := ⟨Try.f48, paper_sign.ini, paper_sign.out, 1, [], [], paper_sign.labF, fun k (d : (Int × Unit) × (Unit)) => (paper_sign.f k d.1.1 : Option paper_sign.R)⟩

/-! ### paper_word : function 42 -/
abbrev paper_word.R := (Bool × Unit) × (Unit)
mutual
noncomputable def paper_word.j0 : Nat → ByteArray → Option paper_word.R
  | 0, _ => none
  | k + 1, x0 =>
    paper_word.l0 k x0 (x0.size : Int) 0
noncomputable def paper_word.l0 : Nat → ByteArray → Int → Int → Option paper_word.R
  | 0, _, _, _ => none
  | k + 1, x0, x15, x16 =>
    bif decide ((x16 : Int) < x15) then
      (bto x0 x16).bind fun t1 =>
      (paper_sign.f k t1).bind fun r2 =>
      bif !r2.1.1 then
        some ((false, ()), (()))
      else
        paper_word.l0 k x0 x15 (IntKind.wrap .i64 (x16 + 1))
    else
      some ((true, ()), (()))
noncomputable def paper_word.f : Nat → ByteArray → Int → Option paper_word.R
  | 0, _, _ => none
  | k + 1, x0, x1 =>
    bif x0.toList == (⟨#[]⟩ : ByteArray).toList then
      some ((false, ()), (()))
    else
    bif decide (((x0.size : Int) : Int) > x1) then
      some ((false, ()), (()))
    else
      paper_word.j0 k x0
end
abbrev paper_word.ini : LSh := ⟨[(0, .val .str), (1, .val (.int .i64))], []⟩
abbrev paper_word.out : LSh := ⟨[(0, .val .bool)], []⟩
abbrev paper_word.j0s : LSh := ⟨[(0, .val .str)], []⟩
abbrev paper_word.l0s : LSh := ⟨[(0, .val .str), (15, .val (.int .i64)), (16, .val (.int .i64))], []⟩
noncomputable def paper_word.labF : Nat → Option (LabF paper_word.out.den)
  | 7 => some ⟨paper_word.j0s, fun k (d : (ByteArray × Unit) × (Unit)) => (paper_word.j0 k d.1.1 : Option paper_word.R)⟩
  | 8 => some ⟨paper_word.l0s, fun k (d : (ByteArray × Int × Int × Unit) × (Unit)) => (paper_word.l0 k d.1.1 d.1.2.1 d.1.2.2.1 : Option paper_word.R)⟩
  | _ => none
noncomputable def paper_word.fd : FnD := ⟨Try.f42, paper_word.ini, paper_word.out, 1, [], [], paper_word.labF, fun k (d : (ByteArray × Int × Unit) × (Unit)) => (paper_word.f k d.1.1 d.1.2.1 : Option paper_word.R)⟩

/-! ### paper_IsID : function 26 -/
abbrev paper_IsID.R := (Bool × Unit) × (Unit)
noncomputable def paper_IsID.f : Nat → ByteArray → Option paper_IsID.R
  | 0, _ => none
  | k + 1, x0 =>
    (paper_word.f k x0 24).bind fun r1 =>
    some ((r1.1.1, ()), (()))
abbrev paper_IsID.ini : LSh := ⟨[(0, .val .str)], []⟩
abbrev paper_IsID.out : LSh := ⟨[(0, .val .bool)], []⟩
noncomputable def paper_IsID.labF : Nat → Option (LabF paper_IsID.out.den)
  | _ => none
noncomputable def paper_IsID.fd : FnD := ⟨Try.f26, paper_IsID.ini, paper_IsID.out, 1, [], [], paper_IsID.labF, fun k (d : (ByteArray × Unit) × (Unit)) => (paper_IsID.f k d.1.1 : Option paper_IsID.R)⟩

/-! ### paper_IsName : function 27 -/
abbrev paper_IsName.R := (Bool × Unit) × (Unit)
noncomputable def paper_IsName.f : Nat → ByteArray → Option paper_IsName.R
  | 0, _ => none
  | k + 1, x0 =>
    (paper_word.f k x0 16).bind fun r1 =>
    some ((r1.1.1, ()), (()))
abbrev paper_IsName.ini : LSh := ⟨[(0, .val .str)], []⟩
abbrev paper_IsName.out : LSh := ⟨[(0, .val .bool)], []⟩
noncomputable def paper_IsName.labF : Nat → Option (LabF paper_IsName.out.den)
  | _ => none
noncomputable def paper_IsName.fd : FnD := ⟨Try.f27, paper_IsName.ini, paper_IsName.out, 1, [], [], paper_IsName.labF, fun k (d : (ByteArray × Unit) × (Unit)) => (paper_IsName.f k d.1.1 : Option paper_IsName.R)⟩

/-! ### chartularylaw19_right : function 9 -/
abbrev chartularylaw19_right.R := (Bool × Unit) × (Unit)
mutual
noncomputable def chartularylaw19_right.j0 : Nat → Bool → ByteArray → Int → Int → Int → (List (Int × ByteArray × Bool × ByteArray × ByteArray × ByteArray × Unit)) → (List ByteArray) → Int → Int → (List ByteArray) → Option chartularylaw19_right.R
  | 0, _, _, _, _, _, _, _, _, _, _ => none
  | k + 1, x3, o1_0, o1_1, o1_2, o1_3, o1_4, o1_5, o1_6, o1_7, o1_8 =>
    chartularylaw19_right.l0 k x3 0 o1_0 o1_1 o1_2 o1_3 o1_4 o1_5 o1_6 o1_7 o1_8
noncomputable def chartularylaw19_right.l0 : Nat → Bool → Int → ByteArray → Int → Int → Int → (List (Int × ByteArray × Bool × ByteArray × ByteArray × ByteArray × Unit)) → (List ByteArray) → Int → Int → (List ByteArray) → Option chartularylaw19_right.R
  | 0, _, _, _, _, _, _, _, _, _, _, _ => none
  | k + 1, x3, x4, o1_0, o1_1, o1_2, o1_3, o1_4, o1_5, o1_6, o1_7, o1_8 =>
    bif decide ((x4 : Int) < (o1_4.length : Int)) then
      (rdo o1_4 x4).bind fun t2 =>
      bif x3 then
        bif decide ((t2.1 : Int) ≥ 0) then
          bif decide ((t2.1 : Int) < o1_3) then
            (paper_IsName.f k t2.2.1).bind fun r3 =>
            bif t2.2.2.1 then
              bif r3.1.1 then
                bif ((t2.2.2.2.2.2.1.size : Int) : Int) == 32 then
                  bif t2.2.2.2.1.toList == (⟨#[]⟩ : ByteArray).toList then
                    bif decide ((x4 : Int) > 0) then
                      bif t2.2.2.2.2.1.toList == (⟨#[]⟩ : ByteArray).toList then
                        (rdo o1_4 (IntKind.wrap .i64 (x4 - 1))).bind fun t4 =>
                        bif decide ((t4.1 : Int) < t2.1) then
                          (rdo o1_4 (IntKind.wrap .i64 (x4 - 1))).bind fun t5 =>
                          chartularylaw19_right.l0 k (Op.bytesLess t5.2.1.toList t2.2.1.toList) (IntKind.wrap .i64 (x4 + 1)) o1_0 o1_1 o1_2 o1_3 o1_4 o1_5 o1_6 o1_7 o1_8
                        else
                          chartularylaw19_right.l0 k false (IntKind.wrap .i64 (x4 + 1)) o1_0 o1_1 o1_2 o1_3 o1_4 o1_5 o1_6 o1_7 o1_8
                      else
                        chartularylaw19_right.l0 k false (IntKind.wrap .i64 (x4 + 1)) o1_0 o1_1 o1_2 o1_3 o1_4 o1_5 o1_6 o1_7 o1_8
                    else
                      chartularylaw19_right.l0 k (t2.2.2.2.2.1.toList == (⟨#[]⟩ : ByteArray).toList) (IntKind.wrap .i64 (x4 + 1)) o1_0 o1_1 o1_2 o1_3 o1_4 o1_5 o1_6 o1_7 o1_8
                  else
                  bif decide ((x4 : Int) > 0) then
                    chartularylaw19_right.l0 k false (IntKind.wrap .i64 (x4 + 1)) o1_0 o1_1 o1_2 o1_3 o1_4 o1_5 o1_6 o1_7 o1_8
                  else
                    chartularylaw19_right.l0 k false (IntKind.wrap .i64 (x4 + 1)) o1_0 o1_1 o1_2 o1_3 o1_4 o1_5 o1_6 o1_7 o1_8
                else
                bif decide ((x4 : Int) > 0) then
                  chartularylaw19_right.l0 k false (IntKind.wrap .i64 (x4 + 1)) o1_0 o1_1 o1_2 o1_3 o1_4 o1_5 o1_6 o1_7 o1_8
                else
                  chartularylaw19_right.l0 k false (IntKind.wrap .i64 (x4 + 1)) o1_0 o1_1 o1_2 o1_3 o1_4 o1_5 o1_6 o1_7 o1_8
              else
              bif decide ((x4 : Int) > 0) then
                chartularylaw19_right.l0 k false (IntKind.wrap .i64 (x4 + 1)) o1_0 o1_1 o1_2 o1_3 o1_4 o1_5 o1_6 o1_7 o1_8
              else
                chartularylaw19_right.l0 k false (IntKind.wrap .i64 (x4 + 1)) o1_0 o1_1 o1_2 o1_3 o1_4 o1_5 o1_6 o1_7 o1_8
            else
            bif r3.1.1 then
              bif t2.2.2.2.2.2.1.toList == (⟨#[]⟩ : ByteArray).toList then
                bif ((t2.2.2.2.1.size : Int) : Int) == 16 then
                  bif decide ((x4 : Int) > 0) then
                    bif decide (((t2.2.2.2.2.1.size : Int) : Int) ≤ 208) then
                      (rdo o1_4 (IntKind.wrap .i64 (x4 - 1))).bind fun t6 =>
                      bif decide ((t6.1 : Int) < t2.1) then
                        (rdo o1_4 (IntKind.wrap .i64 (x4 - 1))).bind fun t7 =>
                        chartularylaw19_right.l0 k (Op.bytesLess t7.2.1.toList t2.2.1.toList) (IntKind.wrap .i64 (x4 + 1)) o1_0 o1_1 o1_2 o1_3 o1_4 o1_5 o1_6 o1_7 o1_8
                      else
                        chartularylaw19_right.l0 k false (IntKind.wrap .i64 (x4 + 1)) o1_0 o1_1 o1_2 o1_3 o1_4 o1_5 o1_6 o1_7 o1_8
                    else
                      chartularylaw19_right.l0 k false (IntKind.wrap .i64 (x4 + 1)) o1_0 o1_1 o1_2 o1_3 o1_4 o1_5 o1_6 o1_7 o1_8
                  else
                    chartularylaw19_right.l0 k (decide (((t2.2.2.2.2.1.size : Int) : Int) ≤ 208)) (IntKind.wrap .i64 (x4 + 1)) o1_0 o1_1 o1_2 o1_3 o1_4 o1_5 o1_6 o1_7 o1_8
                else
                bif decide ((x4 : Int) > 0) then
                  chartularylaw19_right.l0 k false (IntKind.wrap .i64 (x4 + 1)) o1_0 o1_1 o1_2 o1_3 o1_4 o1_5 o1_6 o1_7 o1_8
                else
                  chartularylaw19_right.l0 k false (IntKind.wrap .i64 (x4 + 1)) o1_0 o1_1 o1_2 o1_3 o1_4 o1_5 o1_6 o1_7 o1_8
              else
              bif decide ((x4 : Int) > 0) then
                chartularylaw19_right.l0 k false (IntKind.wrap .i64 (x4 + 1)) o1_0 o1_1 o1_2 o1_3 o1_4 o1_5 o1_6 o1_7 o1_8
              else
                chartularylaw19_right.l0 k false (IntKind.wrap .i64 (x4 + 1)) o1_0 o1_1 o1_2 o1_3 o1_4 o1_5 o1_6 o1_7 o1_8
            else
            bif decide ((x4 : Int) > 0) then
              chartularylaw19_right.l0 k false (IntKind.wrap .i64 (x4 + 1)) o1_0 o1_1 o1_2 o1_3 o1_4 o1_5 o1_6 o1_7 o1_8
            else
              chartularylaw19_right.l0 k false (IntKind.wrap .i64 (x4 + 1)) o1_0 o1_1 o1_2 o1_3 o1_4 o1_5 o1_6 o1_7 o1_8
          else
          bif t2.2.2.1 then
            bif decide ((x4 : Int) > 0) then
              chartularylaw19_right.l0 k false (IntKind.wrap .i64 (x4 + 1)) o1_0 o1_1 o1_2 o1_3 o1_4 o1_5 o1_6 o1_7 o1_8
            else
              chartularylaw19_right.l0 k false (IntKind.wrap .i64 (x4 + 1)) o1_0 o1_1 o1_2 o1_3 o1_4 o1_5 o1_6 o1_7 o1_8
          else
          bif decide ((x4 : Int) > 0) then
            chartularylaw19_right.l0 k false (IntKind.wrap .i64 (x4 + 1)) o1_0 o1_1 o1_2 o1_3 o1_4 o1_5 o1_6 o1_7 o1_8
          else
            chartularylaw19_right.l0 k false (IntKind.wrap .i64 (x4 + 1)) o1_0 o1_1 o1_2 o1_3 o1_4 o1_5 o1_6 o1_7 o1_8
        else
        bif t2.2.2.1 then
          bif decide ((x4 : Int) > 0) then
            chartularylaw19_right.l0 k false (IntKind.wrap .i64 (x4 + 1)) o1_0 o1_1 o1_2 o1_3 o1_4 o1_5 o1_6 o1_7 o1_8
          else
            chartularylaw19_right.l0 k false (IntKind.wrap .i64 (x4 + 1)) o1_0 o1_1 o1_2 o1_3 o1_4 o1_5 o1_6 o1_7 o1_8
        else
        bif decide ((x4 : Int) > 0) then
          chartularylaw19_right.l0 k false (IntKind.wrap .i64 (x4 + 1)) o1_0 o1_1 o1_2 o1_3 o1_4 o1_5 o1_6 o1_7 o1_8
        else
          chartularylaw19_right.l0 k false (IntKind.wrap .i64 (x4 + 1)) o1_0 o1_1 o1_2 o1_3 o1_4 o1_5 o1_6 o1_7 o1_8
      else
      bif t2.2.2.1 then
        bif decide ((x4 : Int) > 0) then
          chartularylaw19_right.l0 k false (IntKind.wrap .i64 (x4 + 1)) o1_0 o1_1 o1_2 o1_3 o1_4 o1_5 o1_6 o1_7 o1_8
        else
          chartularylaw19_right.l0 k false (IntKind.wrap .i64 (x4 + 1)) o1_0 o1_1 o1_2 o1_3 o1_4 o1_5 o1_6 o1_7 o1_8
      else
      bif decide ((x4 : Int) > 0) then
        chartularylaw19_right.l0 k false (IntKind.wrap .i64 (x4 + 1)) o1_0 o1_1 o1_2 o1_3 o1_4 o1_5 o1_6 o1_7 o1_8
      else
        chartularylaw19_right.l0 k false (IntKind.wrap .i64 (x4 + 1)) o1_0 o1_1 o1_2 o1_3 o1_4 o1_5 o1_6 o1_7 o1_8
    else
    bif x3 then
      (chartularylaw19_sums.f k o1_5 12).bind fun r8 =>
      bif r8.1.1 then
        (chartularylaw19_sums.f k o1_8 16).bind fun r9 =>
        some ((r9.1.1, ()), (()))
      else
        some ((false, ()), (()))
    else
      some ((false, ()), (()))
noncomputable def chartularylaw19_right.f : Nat → (ByteArray × Int × Int × Int × List (Int × ByteArray × Bool × ByteArray × ByteArray × ByteArray × Unit) × List ByteArray × Int × Int × List ByteArray × Unit) → Option chartularylaw19_right.R
  | 0, _ => none
  | k + 1, x0 =>
    (paper_IsID.f k x0.1).bind fun r1 =>
    bif r1.1.1 then
      bif decide ((x0.2.1 : Int) ≥ 0) then
        bif decide ((x0.2.1 : Int) ≤ 7) then
          bif decide ((x0.2.2.1 : Int) ≥ 0) then
            bif decide ((x0.2.2.1 : Int) ≤ 1099511627776) then
              bif decide ((x0.2.2.2.1 : Int) ≥ 1) then
                bif decide ((x0.2.2.2.1 : Int) ≤ 12) then
                  bif decide ((x0.2.2.2.2.2.2.2.1 : Int) ≥ 1) then
                    bif decide ((x0.2.2.2.2.2.2.2.1 : Int) ≤ 65536) then
                      bif decide ((x0.2.2.2.2.2.2.1 : Int) ≥ 0) then
                        bif decide ((x0.2.2.2.2.2.2.1 : Int) < x0.2.2.2.2.2.2.2.1) then
                          bif decide (((x0.2.2.2.2.1.length : Int) : Int) ≥ 1) then
                            chartularylaw19_right.j0 k (decide (((x0.2.2.2.2.1.length : Int) : Int) ≤ x0.2.2.2.1)) x0.1 x0.2.1 x0.2.2.1 x0.2.2.2.1 x0.2.2.2.2.1 x0.2.2.2.2.2.1 x0.2.2.2.2.2.2.1 x0.2.2.2.2.2.2.2.1 x0.2.2.2.2.2.2.2.2.1
                          else
                            chartularylaw19_right.j0 k false x0.1 x0.2.1 x0.2.2.1 x0.2.2.2.1 x0.2.2.2.2.1 x0.2.2.2.2.2.1 x0.2.2.2.2.2.2.1 x0.2.2.2.2.2.2.2.1 x0.2.2.2.2.2.2.2.2.1
                        else
                          chartularylaw19_right.j0 k false x0.1 x0.2.1 x0.2.2.1 x0.2.2.2.1 x0.2.2.2.2.1 x0.2.2.2.2.2.1 x0.2.2.2.2.2.2.1 x0.2.2.2.2.2.2.2.1 x0.2.2.2.2.2.2.2.2.1
                      else
                        chartularylaw19_right.j0 k false x0.1 x0.2.1 x0.2.2.1 x0.2.2.2.1 x0.2.2.2.2.1 x0.2.2.2.2.2.1 x0.2.2.2.2.2.2.1 x0.2.2.2.2.2.2.2.1 x0.2.2.2.2.2.2.2.2.1
                    else
                      chartularylaw19_right.j0 k false x0.1 x0.2.1 x0.2.2.1 x0.2.2.2.1 x0.2.2.2.2.1 x0.2.2.2.2.2.1 x0.2.2.2.2.2.2.1 x0.2.2.2.2.2.2.2.1 x0.2.2.2.2.2.2.2.2.1
                  else
                    chartularylaw19_right.j0 k false x0.1 x0.2.1 x0.2.2.1 x0.2.2.2.1 x0.2.2.2.2.1 x0.2.2.2.2.2.1 x0.2.2.2.2.2.2.1 x0.2.2.2.2.2.2.2.1 x0.2.2.2.2.2.2.2.2.1
                else
                  chartularylaw19_right.j0 k false x0.1 x0.2.1 x0.2.2.1 x0.2.2.2.1 x0.2.2.2.2.1 x0.2.2.2.2.2.1 x0.2.2.2.2.2.2.1 x0.2.2.2.2.2.2.2.1 x0.2.2.2.2.2.2.2.2.1
              else
                chartularylaw19_right.j0 k false x0.1 x0.2.1 x0.2.2.1 x0.2.2.2.1 x0.2.2.2.2.1 x0.2.2.2.2.2.1 x0.2.2.2.2.2.2.1 x0.2.2.2.2.2.2.2.1 x0.2.2.2.2.2.2.2.2.1
            else
              chartularylaw19_right.j0 k false x0.1 x0.2.1 x0.2.2.1 x0.2.2.2.1 x0.2.2.2.2.1 x0.2.2.2.2.2.1 x0.2.2.2.2.2.2.1 x0.2.2.2.2.2.2.2.1 x0.2.2.2.2.2.2.2.2.1
          else
            chartularylaw19_right.j0 k false x0.1 x0.2.1 x0.2.2.1 x0.2.2.2.1 x0.2.2.2.2.1 x0.2.2.2.2.2.1 x0.2.2.2.2.2.2.1 x0.2.2.2.2.2.2.2.1 x0.2.2.2.2.2.2.2.2.1
        else
          chartularylaw19_right.j0 k false x0.1 x0.2.1 x0.2.2.1 x0.2.2.2.1 x0.2.2.2.2.1 x0.2.2.2.2.2.1 x0.2.2.2.2.2.2.1 x0.2.2.2.2.2.2.2.1 x0.2.2.2.2.2.2.2.2.1
      else
        chartularylaw19_right.j0 k false x0.1 x0.2.1 x0.2.2.1 x0.2.2.2.1 x0.2.2.2.2.1 x0.2.2.2.2.2.1 x0.2.2.2.2.2.2.1 x0.2.2.2.2.2.2.2.1 x0.2.2.2.2.2.2.2.2.1
    else
      chartularylaw19_right.j0 k false x0.1 x0.2.1 x0.2.2.1 x0.2.2.2.1 x0.2.2.2.2.1 x0.2.2.2.2.2.1 x0.2.2.2.2.2.2.1 x0.2.2.2.2.2.2.2.1 x0.2.2.2.2.2.2.2.2.1
end
abbrev chartularylaw19_right.ini : LSh := ⟨[(0, .val (.cons .str (.cons (.int .i64) (.cons (.int .i64) (.cons (.int .i64) (.cons (.sl (.cons (.int .i64) (.cons .str (.cons .bool (.cons .str (.cons .str (.cons .str .nil))))))) (.cons (.sl .str) (.cons (.int .i64) (.cons (.int .i64) (.cons (.sl .str) .nil))))))))))], []⟩
abbrev chartularylaw19_right.out : LSh := ⟨[(0, .val .bool)], []⟩
abbrev chartularylaw19_right.j0s : LSh := ⟨[(1, .ptr 1 0), (3, .val .bool)], [(1, 25, [.val .str, .val (.int .i64), .val (.int .i64), .val (.int .i64), .val (.sl (.cons (.int .i64) (.cons .str (.cons .bool (.cons .str (.cons .str (.cons .str .nil))))))), .val (.sl .str), .val (.int .i64), .val (.int .i64), .val (.sl .str)])]⟩
abbrev chartularylaw19_right.l0s : LSh := ⟨[(1, .ptr 1 0), (3, .val .bool), (4, .val (.int .i64))], [(1, 25, [.val .str, .val (.int .i64), .val (.int .i64), .val (.int .i64), .val (.sl (.cons (.int .i64) (.cons .str (.cons .bool (.cons .str (.cons .str (.cons .str .nil))))))), .val (.sl .str), .val (.int .i64), .val (.int .i64), .val (.sl .str)])]⟩
noncomputable def chartularylaw19_right.labF : Nat → Option (LabF chartularylaw19_right.out.den)
  | 7 => some ⟨chartularylaw19_right.j0s, fun k (d : (Unit × Bool × Unit) × ((ByteArray × Int × Int × Int × (List (Int × ByteArray × Bool × ByteArray × ByteArray × ByteArray × Unit)) × List ByteArray × Int × Int × List ByteArray × Unit) × Unit)) => (chartularylaw19_right.j0 k d.1.2.1 d.2.1.1 d.2.1.2.1 d.2.1.2.2.1 d.2.1.2.2.2.1 d.2.1.2.2.2.2.1 d.2.1.2.2.2.2.2.1 d.2.1.2.2.2.2.2.2.1 d.2.1.2.2.2.2.2.2.2.1 d.2.1.2.2.2.2.2.2.2.2.1 : Option chartularylaw19_right.R)⟩
  | 8 => some ⟨chartularylaw19_right.l0s, fun k (d : (Unit × Bool × Int × Unit) × ((ByteArray × Int × Int × Int × (List (Int × ByteArray × Bool × ByteArray × ByteArray × ByteArray × Unit)) × List ByteArray × Int × Int × List ByteArray × Unit) × Unit)) => (chartularylaw19_right.l0 k d.1.2.1 d.1.2.2.1 d.2.1.1 d.2.1.2.1 d.2.1.2.2.1 d.2.1.2.2.2.1 d.2.1.2.2.2.2.1 d.2.1.2.2.2.2.2.1 d.2.1.2.2.2.2.2.2.1 d.2.1.2.2.2.2.2.2.2.1 d.2.1.2.2.2.2.2.2.2.2.1 : Option chartularylaw19_right.R)⟩
  | _ => none
noncomputable def chartularylaw19_right.fd : FnD := ⟨Try.f9, chartularylaw19_right.ini, chartularylaw19_right.out, 1, [], [], chartularylaw19_right.labF, fun k (d : ((ByteArray × Int × Int × Int × List (Int × ByteArray × Bool × ByteArray × ByteArray × ByteArray × Unit) × List ByteArray × Int × Int × List ByteArray × Unit) × Unit) × (Unit)) => (chartularylaw19_right.f k d.1.1 : Option chartularylaw19_right.R)⟩

/-! ### proof_sums : function 33 -/
abbrev proof_sums.R := (Bool × Unit) × (Unit)
mutual
noncomputable def proof_sums.l0 : Nat → (List ByteArray) → Int → (List ByteArray) → Int → Int → Option proof_sums.R
  | 0, _, _, _, _, _ => none
  | k + 1, x0, x1, x7, x8, x9 =>
    bif decide ((x9 : Int) < x8) then
      (rdo x7 x9).bind fun t1 =>
      bif ((t1.size : Int) : Int) != 32 then
        some ((false, ()), (()))
      else
        proof_sums.l0 k x0 x1 x7 x8 (IntKind.wrap .i64 (x9 + 1))
    else
      some ((decide (((x0.length : Int) : Int) ≤ x1), ()), (()))
noncomputable def proof_sums.f : Nat → (List ByteArray) → Int → Option proof_sums.R
  | 0, _, _ => none
  | k + 1, x0, x1 =>
    proof_sums.l0 k x0 x1 x0 (x0.length : Int) 0
end
abbrev proof_sums.ini : LSh := ⟨[(0, .val (.sl .str)), (1, .val (.int .i64))], []⟩
abbrev proof_sums.out : LSh := ⟨[(0, .val .bool)], []⟩
abbrev proof_sums.l0s : LSh := ⟨[(0, .val (.sl .str)), (1, .val (.int .i64)), (7, .val (.sl .str)), (8, .val (.int .i64)), (9, .val (.int .i64))], []⟩
noncomputable def proof_sums.labF : Nat → Option (LabF proof_sums.out.den)
  | 4 => some ⟨proof_sums.l0s, fun k (d : (List ByteArray × Int × List ByteArray × Int × Int × Unit) × (Unit)) => (proof_sums.l0 k d.1.1 d.1.2.1 d.1.2.2.1 d.1.2.2.2.1 d.1.2.2.2.2.1 : Option proof_sums.R)⟩
  | _ => none
noncomputable def proof_sums.fd : FnD := ⟨Try.f33, proof_sums.ini, proof_sums.out, 1, [], [], proof_sums.labF, fun k (d : (List ByteArray × Int × Unit) × (Unit)) => (proof_sums.f k d.1.1 d.1.2.1 : Option proof_sums.R)⟩

/-! ### proof_RightGrowth : function 17 -/
abbrev proof_RightGrowth.R := (Bool × Unit) × (Unit)
noncomputable def proof_RightGrowth.f : Nat → ((Int × ByteArray × Unit) × List ByteArray × Unit) → Option proof_RightGrowth.R
  | 0, _ => none
  | k + 1, x0 =>
    bif decide ((x0.1.1 : Int) ≥ 0) then
      bif decide ((x0.1.1 : Int) ≤ 65536) then
        bif ((x0.1.2.1.size : Int) : Int) == 32 then
          (proof_sums.f k x0.2.1 17).bind fun r1 =>
          some ((r1.1.1, ()), (()))
        else
          some ((false, ()), (()))
      else
        some ((false, ()), (()))
    else
      some ((false, ()), (()))
abbrev proof_RightGrowth.ini : LSh := ⟨[(0, .val (.cons (.cons (.int .i64) (.cons .str .nil)) (.cons (.sl .str) .nil)))], []⟩
abbrev proof_RightGrowth.out : LSh := ⟨[(0, .val .bool)], []⟩
noncomputable def proof_RightGrowth.labF : Nat → Option (LabF proof_RightGrowth.out.den)
  | _ => none
noncomputable def proof_RightGrowth.fd : FnD := ⟨Try.f17, proof_RightGrowth.ini, proof_RightGrowth.out, 1, [], [], proof_RightGrowth.labF, fun k (d : (((Int × ByteArray × Unit) × List ByteArray × Unit) × Unit) × (Unit)) => (proof_RightGrowth.f k d.1.1 : Option proof_RightGrowth.R)⟩

/-! ### octet_Num : function 19 -/
abbrev octet_Num.R := (ByteArray × Unit) × (Unit)
mutual
noncomputable def octet_Num.l0 : Nat → Int → ByteArray → Option octet_Num.R
  | 0, _, _ => none
  | k + 1, x0, x3 =>
    bif decide ((x0 : Int) > 0) then
      (ck (decide ((strOf ([IntKind.wrap .u8 x0] : List Int)).size + x3.size ≤ 9223372036854775807))).bind fun _ =>
      (ck (!decide ((8 : Int) < 0))).bind fun _ =>
      octet_Num.l0 k (Int.fdiv x0 (2 ^ (min (8 : Int).toNat (IntKind.bits .i64)))) ((strOf ([IntKind.wrap .u8 x0] : List Int)) ++ x3)
    else
      (ck (decide ((strOf ([IntKind.wrap .u8 (x3.size : Int)] : List Int)).size + x3.size ≤ 9223372036854775807))).bind fun _ =>
      some (((strOf ([IntKind.wrap .u8 (x3.size : Int)] : List Int)) ++ x3, ()), (()))
noncomputable def octet_Num.f : Nat → Int → Option octet_Num.R
  | 0, _ => none
  | k + 1, x0 =>
    bif decide ((x0 : Int) < 0) then
      some (((⟨#[]⟩ : ByteArray), ()), (()))
    else
    bif decide ((x0 : Int) ≥ 72057594037927936) then
      some (((⟨#[]⟩ : ByteArray), ()), (()))
    else
      octet_Num.l0 k x0 (⟨#[]⟩ : ByteArray)
end
abbrev octet_Num.ini : LSh := ⟨[(0, .val (.int .i64))], []⟩
abbrev octet_Num.out : LSh := ⟨[(0, .val .str)], []⟩
abbrev octet_Num.l0s : LSh := ⟨[(0, .val (.int .i64)), (3, .val .str)], []⟩
noncomputable def octet_Num.labF : Nat → Option (LabF octet_Num.out.den)
  | 8 => some ⟨octet_Num.l0s, fun k (d : (Int × ByteArray × Unit) × (Unit)) => (octet_Num.l0 k d.1.1 d.1.2.1 : Option octet_Num.R)⟩
  | _ => none
noncomputable def octet_Num.fd : FnD := ⟨Try.f19, octet_Num.ini, octet_Num.out, 1, [], [], octet_Num.labF, fun k (d : (Int × Unit) × (Unit)) => (octet_Num.f k d.1.1 : Option octet_Num.R)⟩

/-! ### octet_Text : function 20 -/
abbrev octet_Text.R := (ByteArray × Unit) × (Unit)
noncomputable def octet_Text.f : Nat → ByteArray → Option octet_Text.R
  | 0, _ => none
  | k + 1, x0 =>
    (octet_Num.f k (x0.size : Int)).bind fun r1 =>
    (ck (decide (r1.1.1.size + x0.size ≤ 9223372036854775807))).bind fun _ =>
    some ((r1.1.1 ++ x0, ()), (()))
abbrev octet_Text.ini : LSh := ⟨[(0, .val .str)], []⟩
abbrev octet_Text.out : LSh := ⟨[(0, .val .str)], []⟩
noncomputable def octet_Text.labF : Nat → Option (LabF octet_Text.out.den)
  | _ => none
noncomputable def octet_Text.fd : FnD := ⟨Try.f20, octet_Text.ini, octet_Text.out, 1, [], [], octet_Text.labF, fun k (d : (ByteArray × Unit) × (Unit)) => (octet_Text.f k d.1.1 : Option octet_Text.R)⟩

/-! ### octet_Writer_Text : function 28 -/
abbrev octet_Writer_Text.R := (Unit) × ((ByteArray × Bool × Unit) × Unit)
noncomputable def octet_Writer_Text.f : Nat → ByteArray → ByteArray → Bool → Option octet_Writer_Text.R
  | 0, _, _, _ => none
  | k + 1, x1, o0_0, o0_1 =>
    (octet_Text.f k x1).bind fun r1 =>
    (ck (decide (o0_0.size + r1.1.1.size ≤ 9223372036854775807))).bind fun _ =>
    some ((()), ((o0_0 ++ r1.1.1, o0_1, ()), ()))
abbrev octet_Writer_Text.ini : LSh := ⟨[(0, .ptr 1000000 0), (1, .val .str)], [(1000000, 54, [.val .str, .val .bool])]⟩
abbrev octet_Writer_Text.out : LSh := ⟨[], [(1000000, 54, [.val .str, .val .bool])]⟩
noncomputable def octet_Writer_Text.labF : Nat → Option (LabF octet_Writer_Text.out.den)
  | _ => none
noncomputable def octet_Writer_Text.fd : FnD := ⟨Try.f28, octet_Writer_Text.ini, octet_Writer_Text.out, 0, [1000000], [], octet_Writer_Text.labF, fun k (d : (Unit × ByteArray × Unit) × ((ByteArray × Bool × Unit) × Unit)) => (octet_Writer_Text.f k d.1.2.1 d.2.1.1 d.2.1.2.1 : Option octet_Writer_Text.R)⟩

/-! ### octet_Writer_Num : function 29 -/
abbrev octet_Writer_Num.R := (Unit) × ((ByteArray × Bool × Unit) × Unit)
noncomputable def octet_Writer_Num.f : Nat → Int → ByteArray → Bool → Option octet_Writer_Num.R
  | 0, _, _, _ => none
  | k + 1, x1, o0_0, o0_1 =>
    (octet_Num.f k x1).bind fun r1 =>
    bif o0_1 then
      (ck (decide (o0_0.size + r1.1.1.size ≤ 9223372036854775807))).bind fun _ =>
      some ((()), ((o0_0 ++ r1.1.1, true, ()), ()))
    else
      (ck (decide (o0_0.size + r1.1.1.size ≤ 9223372036854775807))).bind fun _ =>
      some ((()), ((o0_0 ++ r1.1.1, r1.1.1.toList == (⟨#[]⟩ : ByteArray).toList, ()), ()))
abbrev octet_Writer_Num.ini : LSh := ⟨[(0, .ptr 1000000 0), (1, .val (.int .i64))], [(1000000, 54, [.val .str, .val .bool])]⟩
abbrev octet_Writer_Num.out : LSh := ⟨[], [(1000000, 54, [.val .str, .val .bool])]⟩
noncomputable def octet_Writer_Num.labF : Nat → Option (LabF octet_Writer_Num.out.den)
  | _ => none
noncomputable def octet_Writer_Num.fd : FnD := ⟨Try.f29, octet_Writer_Num.ini, octet_Writer_Num.out, 0, [1000000], [], octet_Writer_Num.labF, fun k (d : (Unit × Int × Unit) × ((ByteArray × Bool × Unit) × Unit)) => (octet_Writer_Num.f k d.1.2.1 d.2.1.1 d.2.1.2.1 : Option octet_Writer_Num.R)⟩

/-! ### octet_Writer_Texts : function 31 -/
abbrev octet_Writer_Texts.R := (Unit) × ((ByteArray × Bool × Unit) × Unit)
mutual
noncomputable def octet_Writer_Texts.l0 : Nat → (List ByteArray) → Int → Int → ByteArray → Bool → Option octet_Writer_Texts.R
  | 0, _, _, _, _, _ => none
  | k + 1, x10, x11, x12, o0_0, o0_1 =>
    bif decide ((x12 : Int) < x11) then
      (rdo x10 x12).bind fun t2 =>
      (octet_Writer_Text.f k t2 o0_0 o0_1).bind fun r3 =>
      octet_Writer_Texts.l0 k x10 x11 (IntKind.wrap .i64 (x12 + 1)) r3.2.1.1 r3.2.1.2.1
    else
      some ((()), ((o0_0, o0_1, ()), ()))
noncomputable def octet_Writer_Texts.f : Nat → (List ByteArray) → ByteArray → Bool → Option octet_Writer_Texts.R
  | 0, _, _, _ => none
  | k + 1, x1, o0_0, o0_1 =>
    (octet_Writer_Num.f k (x1.length : Int) o0_0 o0_1).bind fun r1 =>
    octet_Writer_Texts.l0 k x1 (x1.length : Int) 0 r1.2.1.1 r1.2.1.2.1
end
abbrev octet_Writer_Texts.ini : LSh := ⟨[(0, .ptr 1000000 0), (1, .val (.sl .str))], [(1000000, 54, [.val .str, .val .bool])]⟩
abbrev octet_Writer_Texts.out : LSh := ⟨[], [(1000000, 54, [.val .str, .val .bool])]⟩
abbrev octet_Writer_Texts.l0s : LSh := ⟨[(0, .ptr 1000000 0), (10, .val (.sl .str)), (11, .val (.int .i64)), (12, .val (.int .i64))], [(1000000, 54, [.val .str, .val .bool])]⟩
noncomputable def octet_Writer_Texts.labF : Nat → Option (LabF octet_Writer_Texts.out.den)
  | 4 => some ⟨octet_Writer_Texts.l0s, fun k (d : (Unit × List ByteArray × Int × Int × Unit) × ((ByteArray × Bool × Unit) × Unit)) => (octet_Writer_Texts.l0 k d.1.2.1 d.1.2.2.1 d.1.2.2.2.1 d.2.1.1 d.2.1.2.1 : Option octet_Writer_Texts.R)⟩
  | _ => none
noncomputable def octet_Writer_Texts.fd : FnD := ⟨Try.f31, octet_Writer_Texts.ini, octet_Writer_Texts.out, 0, [1000000], [], octet_Writer_Texts.labF, fun k (d : (Unit × List ByteArray × Unit) × ((ByteArray × Bool × Unit) × Unit)) => (octet_Writer_Texts.f k d.1.2.1 d.2.1.1 d.2.1.2.1 : Option octet_Writer_Texts.R)⟩

/-! ### octet_Writer_All : function 32 -/
abbrev octet_Writer_All.R := (ByteArray × Bool × Unit) × (Unit)
noncomputable def octet_Writer_All.f : Nat → ByteArray → Bool → Option octet_Writer_All.R
  | 0, _, _ => none
  | k + 1, o0_0, o0_1 =>
    bif o0_1 then
      some (((⟨#[]⟩ : ByteArray), false, ()), (()))
    else
      some ((o0_0, true, ()), (()))
abbrev octet_Writer_All.ini : LSh := ⟨[(0, .ptr 1000000 0)], [(1000000, 54, [.val .str, .val .bool])]⟩
abbrev octet_Writer_All.out : LSh := ⟨[(0, .val .str), (1, .val .bool)], []⟩
noncomputable def octet_Writer_All.labF : Nat → Option (LabF octet_Writer_All.out.den)
  | _ => none
noncomputable def octet_Writer_All.fd : FnD := ⟨Try.f32, octet_Writer_All.ini, octet_Writer_All.out, 2, [1000000], [1000000], octet_Writer_All.labF, fun k (d : (Unit × Unit) × ((ByteArray × Bool × Unit) × Unit)) => (octet_Writer_All.f k d.2.1.1 d.2.1.2.1 : Option octet_Writer_All.R)⟩

/-! ### proof_GrowthBytes : function 15 -/
abbrev proof_GrowthBytes.R := (ByteArray × Unit) × (Unit)
noncomputable def proof_GrowthBytes.f : Nat → ((Int × ByteArray × Unit) × List ByteArray × Unit) → Option proof_GrowthBytes.R
  | 0, _ => none
  | k + 1, x0 =>
    (proof_RightGrowth.f k ((x0.1.1, (x0.1.2.1, ())), (x0.2.1, ()))).bind fun r1 =>
    bif !r1.1.1 then
      some (((⟨#[]⟩ : ByteArray), ()), (()))
    else
      (octet_Writer_Num.f k x0.1.1 ByteArray.empty false).bind fun r2 =>
      (octet_Writer_Text.f k x0.1.2.1 r2.2.1.1 r2.2.1.2.1).bind fun r3 =>
      (octet_Writer_Texts.f k x0.2.1 r3.2.1.1 r3.2.1.2.1).bind fun r4 =>
      (octet_Writer_All.f k r4.2.1.1 r4.2.1.2.1).bind fun r5 =>
      some ((r5.1.1, ()), (()))
abbrev proof_GrowthBytes.ini : LSh := ⟨[(0, .val (.cons (.cons (.int .i64) (.cons .str .nil)) (.cons (.sl .str) .nil)))], []⟩
abbrev proof_GrowthBytes.out : LSh := ⟨[(0, .val .str)], []⟩
noncomputable def proof_GrowthBytes.labF : Nat → Option (LabF proof_GrowthBytes.out.den)
  | _ => none
noncomputable def proof_GrowthBytes.fd : FnD := ⟨Try.f15, proof_GrowthBytes.ini, proof_GrowthBytes.out, 1, [], [], proof_GrowthBytes.labF, fun k (d : (((Int × ByteArray × Unit) × List ByteArray × Unit) × Unit) × (Unit)) => (proof_GrowthBytes.f k d.1.1 : Option proof_GrowthBytes.R)⟩

/-! ### chartularylaw19_awake : function 10 -/
abbrev chartularylaw19_awake.R := (Bool × Unit) × (Unit)
noncomputable def chartularylaw19_awake.f : Nat → Option chartularylaw19_awake.R
  | 0 => none
  | k + 1 =>
    (ck (decide (0 ≤ 32) && decide (32 = 32) && decide (32 * 1 ≤ 281474976710656) && decide (32 ≤ 9223372036854775807))).bind fun _ =>
    (proof_GrowthBytes.f k ((0, (strOf (List.replicate (32 : Int).toNat (0 : Int)), ())), (([] : List ByteArray), ()))).bind fun r1 =>
    some ((((r1.1.1.size : Int) : Int) == 36, ()), (()))
abbrev chartularylaw19_awake.ini : LSh := ⟨[], []⟩
abbrev chartularylaw19_awake.out : LSh := ⟨[(0, .val .bool)], []⟩
noncomputable def chartularylaw19_awake.labF : Nat → Option (LabF chartularylaw19_awake.out.den)
  | _ => none
noncomputable def chartularylaw19_awake.fd : FnD := ⟨Try.f10, chartularylaw19_awake.ini, chartularylaw19_awake.out, 1, [], [], chartularylaw19_awake.labF, fun k (d : (Unit) × (Unit)) => (chartularylaw19_awake.f k : Option chartularylaw19_awake.R)⟩

/-! ### proof_rightItem : function 41 -/
abbrev proof_rightItem.R := (Bool × Unit) × (Unit)
mutual
noncomputable def proof_rightItem.j0 : Nat → Bool → Int → ByteArray → Bool → ByteArray → ByteArray → ByteArray → Option proof_rightItem.R
  | 0, _, _, _, _, _, _, _ => none
  | k + 1, x5, o2_0, o2_1, o2_2, o2_3, o2_4, o2_5 =>
    bif x5 then
      some ((false, ()), (()))
    else
    bif o2_2 then
      bif ((o2_5.size : Int) : Int) == 32 then
        bif o2_3.toList == (⟨#[]⟩ : ByteArray).toList then
          some ((o2_4.toList == (⟨#[]⟩ : ByteArray).toList, ()), (()))
        else
          some ((false, ()), (()))
      else
        some ((false, ()), (()))
    else
    bif o2_5.toList == (⟨#[]⟩ : ByteArray).toList then
      bif ((o2_3.size : Int) : Int) == 16 then
        some ((decide (((o2_4.size : Int) : Int) ≤ 208), ()), (()))
      else
        some ((false, ()), (()))
    else
      some ((false, ()), (()))
noncomputable def proof_rightItem.f : Nat → (Int × ByteArray × Bool × ByteArray × ByteArray × ByteArray × Unit) → Int → Option proof_rightItem.R
  | 0, _, _ => none
  | k + 1, x0, x1 =>
    bif decide ((x0.1 : Int) < 0) then
      proof_rightItem.j0 k true x0.1 x0.2.1 x0.2.2.1 x0.2.2.2.1 x0.2.2.2.2.1 x0.2.2.2.2.2.1
    else
    bif decide ((x0.1 : Int) ≥ x1) then
      proof_rightItem.j0 k true x0.1 x0.2.1 x0.2.2.1 x0.2.2.2.1 x0.2.2.2.2.1 x0.2.2.2.2.2.1
    else
      (paper_IsName.f k x0.2.1).bind fun r1 =>
      proof_rightItem.j0 k (!r1.1.1) x0.1 x0.2.1 x0.2.2.1 x0.2.2.2.1 x0.2.2.2.2.1 x0.2.2.2.2.2.1
end
abbrev proof_rightItem.ini : LSh := ⟨[(0, .val (.cons (.int .i64) (.cons .str (.cons .bool (.cons .str (.cons .str (.cons .str .nil))))))), (1, .val (.int .i64))], []⟩
abbrev proof_rightItem.out : LSh := ⟨[(0, .val .bool)], []⟩
abbrev proof_rightItem.j0s : LSh := ⟨[(2, .ptr 2 0), (5, .val .bool)], [(2, 50, [.val (.int .i64), .val .str, .val .bool, .val .str, .val .str, .val .str])]⟩
noncomputable def proof_rightItem.labF : Nat → Option (LabF proof_rightItem.out.den)
  | 5 => some ⟨proof_rightItem.j0s, fun k (d : (Unit × Bool × Unit) × ((Int × ByteArray × Bool × ByteArray × ByteArray × ByteArray × Unit) × Unit)) => (proof_rightItem.j0 k d.1.2.1 d.2.1.1 d.2.1.2.1 d.2.1.2.2.1 d.2.1.2.2.2.1 d.2.1.2.2.2.2.1 d.2.1.2.2.2.2.2.1 : Option proof_rightItem.R)⟩
  | _ => none
noncomputable def proof_rightItem.fd : FnD := ⟨Try.f41, proof_rightItem.ini, proof_rightItem.out, 1, [], [], proof_rightItem.labF, fun k (d : ((Int × ByteArray × Bool × ByteArray × ByteArray × ByteArray × Unit) × Int × Unit) × (Unit)) => (proof_rightItem.f k d.1.1 d.1.2.1 : Option proof_rightItem.R)⟩

/-! ### proof_Right : function 25 -/
abbrev proof_Right.R := (Bool × Unit) × (Unit)
mutual
noncomputable def proof_Right.j0 : Nat → ByteArray → Int → Int → Int → (List (Int × ByteArray × Bool × ByteArray × ByteArray × ByteArray × Unit)) → (List ByteArray) → Int → Int → (List ByteArray) → Option proof_Right.R
  | 0, _, _, _, _, _, _, _, _, _ => none
  | k + 1, o1_0, o1_1, o1_2, o1_3, o1_4, o1_5, o1_6, o1_7, o1_8 =>
    proof_Right.l0 k o1_4 (o1_4.length : Int) 0 o1_0 o1_1 o1_2 o1_3 o1_4 o1_5 o1_6 o1_7 o1_8
noncomputable def proof_Right.l0 : Nat → (List (Int × ByteArray × Bool × ByteArray × ByteArray × ByteArray × Unit)) → Int → Int → ByteArray → Int → Int → Int → (List (Int × ByteArray × Bool × ByteArray × ByteArray × ByteArray × Unit)) → (List ByteArray) → Int → Int → (List ByteArray) → Option proof_Right.R
  | 0, _, _, _, _, _, _, _, _, _, _, _, _ => none
  | k + 1, x74, x75, x76, o1_0, o1_1, o1_2, o1_3, o1_4, o1_5, o1_6, o1_7, o1_8 =>
    bif decide ((x76 : Int) < x75) then
      (rdo x74 x76).bind fun t2 =>
      (proof_rightItem.f k (t2.1, (t2.2.1, (t2.2.2.1, (t2.2.2.2.1, (t2.2.2.2.2.1, (t2.2.2.2.2.2.1, ())))))) o1_3).bind fun r3 =>
      bif !r3.1.1 then
        some ((false, ()), (()))
      else
      bif decide ((x76 : Int) > 0) then
        (rdo o1_4 (IntKind.wrap .i64 (x76 - 1))).bind fun t4 =>
        bif decide ((t4.1 : Int) ≥ t2.1) then
          some ((false, ()), (()))
        else
          (rdo o1_4 (IntKind.wrap .i64 (x76 - 1))).bind fun t5 =>
          bif !(Op.bytesLess t5.2.1.toList t2.2.1.toList) then
            some ((false, ()), (()))
          else
            proof_Right.l0 k x74 x75 (IntKind.wrap .i64 (x76 + 1)) o1_0 o1_1 o1_2 o1_3 o1_4 o1_5 o1_6 o1_7 o1_8
      else
        proof_Right.l0 k x74 x75 (IntKind.wrap .i64 (x76 + 1)) o1_0 o1_1 o1_2 o1_3 o1_4 o1_5 o1_6 o1_7 o1_8
    else
      (proof_sums.f k o1_5 12).bind fun r6 =>
      bif r6.1.1 then
        (proof_sums.f k o1_8 16).bind fun r7 =>
        some ((r7.1.1, ()), (()))
      else
        some ((false, ()), (()))
noncomputable def proof_Right.f : Nat → (ByteArray × Int × Int × Int × List (Int × ByteArray × Bool × ByteArray × ByteArray × ByteArray × Unit) × List ByteArray × Int × Int × List ByteArray × Unit) → Option proof_Right.R
  | 0, _ => none
  | k + 1, x0 =>
    (paper_IsID.f k x0.1).bind fun r1 =>
    bif !r1.1.1 then
      some ((false, ()), (()))
    else
    bif decide ((x0.2.1 : Int) < 0) then
      some ((false, ()), (()))
    else
    bif decide ((x0.2.1 : Int) ≥ 8) then
      some ((false, ()), (()))
    else
    bif decide ((x0.2.2.1 : Int) < 0) then
      some ((false, ()), (()))
    else
    bif decide ((x0.2.2.1 : Int) > 1099511627776) then
      some ((false, ()), (()))
    else
    bif decide ((x0.2.2.2.1 : Int) < 1) then
      some ((false, ()), (()))
    else
    bif decide ((x0.2.2.2.1 : Int) > 12) then
      some ((false, ()), (()))
    else
    bif decide ((x0.2.2.2.2.2.2.2.1 : Int) < 1) then
      some ((false, ()), (()))
    else
    bif decide ((x0.2.2.2.2.2.2.2.1 : Int) > 65536) then
      some ((false, ()), (()))
    else
    bif decide ((x0.2.2.2.2.2.2.1 : Int) < 0) then
      some ((false, ()), (()))
    else
    bif decide ((x0.2.2.2.2.2.2.1 : Int) ≥ x0.2.2.2.2.2.2.2.1) then
      some ((false, ()), (()))
    else
    bif decide (((x0.2.2.2.2.1.length : Int) : Int) < 1) then
      some ((false, ()), (()))
    else
    bif decide (((x0.2.2.2.2.1.length : Int) : Int) > x0.2.2.2.1) then
      some ((false, ()), (()))
    else
      proof_Right.j0 k x0.1 x0.2.1 x0.2.2.1 x0.2.2.2.1 x0.2.2.2.2.1 x0.2.2.2.2.2.1 x0.2.2.2.2.2.2.1 x0.2.2.2.2.2.2.2.1 x0.2.2.2.2.2.2.2.2.1
end
abbrev proof_Right.ini : LSh := ⟨[(0, .val (.cons .str (.cons (.int .i64) (.cons (.int .i64) (.cons (.int .i64) (.cons (.sl (.cons (.int .i64) (.cons .str (.cons .bool (.cons .str (.cons .str (.cons .str .nil))))))) (.cons (.sl .str) (.cons (.int .i64) (.cons (.int .i64) (.cons (.sl .str) .nil))))))))))], []⟩
abbrev proof_Right.out : LSh := ⟨[(0, .val .bool)], []⟩
abbrev proof_Right.j0s : LSh := ⟨[(1, .ptr 1 0)], [(1, 25, [.val .str, .val (.int .i64), .val (.int .i64), .val (.int .i64), .val (.sl (.cons (.int .i64) (.cons .str (.cons .bool (.cons .str (.cons .str (.cons .str .nil))))))), .val (.sl .str), .val (.int .i64), .val (.int .i64), .val (.sl .str)])]⟩
abbrev proof_Right.l0s : LSh := ⟨[(1, .ptr 1 0), (74, .val (.sl (.cons (.int .i64) (.cons .str (.cons .bool (.cons .str (.cons .str (.cons .str .nil)))))))), (75, .val (.int .i64)), (76, .val (.int .i64))], [(1, 25, [.val .str, .val (.int .i64), .val (.int .i64), .val (.int .i64), .val (.sl (.cons (.int .i64) (.cons .str (.cons .bool (.cons .str (.cons .str (.cons .str .nil))))))), .val (.sl .str), .val (.int .i64), .val (.int .i64), .val (.sl .str)])]⟩
noncomputable def proof_Right.labF : Nat → Option (LabF proof_Right.out.den)
  | 11 => some ⟨proof_Right.j0s, fun k (d : (Unit × Unit) × ((ByteArray × Int × Int × Int × (List (Int × ByteArray × Bool × ByteArray × ByteArray × ByteArray × Unit)) × List ByteArray × Int × Int × List ByteArray × Unit) × Unit)) => (proof_Right.j0 k d.2.1.1 d.2.1.2.1 d.2.1.2.2.1 d.2.1.2.2.2.1 d.2.1.2.2.2.2.1 d.2.1.2.2.2.2.2.1 d.2.1.2.2.2.2.2.2.1 d.2.1.2.2.2.2.2.2.2.1 d.2.1.2.2.2.2.2.2.2.2.1 : Option proof_Right.R)⟩
  | 12 => some ⟨proof_Right.l0s, fun k (d : (Unit × (List (Int × ByteArray × Bool × ByteArray × ByteArray × ByteArray × Unit)) × Int × Int × Unit) × ((ByteArray × Int × Int × Int × (List (Int × ByteArray × Bool × ByteArray × ByteArray × ByteArray × Unit)) × List ByteArray × Int × Int × List ByteArray × Unit) × Unit)) => (proof_Right.l0 k d.1.2.1 d.1.2.2.1 d.1.2.2.2.1 d.2.1.1 d.2.1.2.1 d.2.1.2.2.1 d.2.1.2.2.2.1 d.2.1.2.2.2.2.1 d.2.1.2.2.2.2.2.1 d.2.1.2.2.2.2.2.2.1 d.2.1.2.2.2.2.2.2.2.1 d.2.1.2.2.2.2.2.2.2.2.1 : Option proof_Right.R)⟩
  | _ => none
noncomputable def proof_Right.fd : FnD := ⟨Try.f25, proof_Right.ini, proof_Right.out, 1, [], [], proof_Right.labF, fun k (d : ((ByteArray × Int × Int × Int × List (Int × ByteArray × Bool × ByteArray × ByteArray × ByteArray × Unit) × List ByteArray × Int × Int × List ByteArray × Unit) × Unit) × (Unit)) => (proof_Right.f k d.1.1 : Option proof_Right.R)⟩

/-! ### octet_Writer_Flag : function 43 -/
abbrev octet_Writer_Flag.R := (Unit) × ((ByteArray × Bool × Unit) × Unit)
noncomputable def octet_Writer_Flag.f : Nat → Bool → ByteArray → Bool → Option octet_Writer_Flag.R
  | 0, _, _, _ => none
  | k + 1, x1, o0_0, o0_1 =>
    bif x1 then
      (ck (decide (o0_0.size + (⟨#[1]⟩ : ByteArray).size ≤ 9223372036854775807))).bind fun _ =>
      some ((()), ((o0_0 ++ (⟨#[1]⟩ : ByteArray), o0_1, ()), ()))
    else
      (ck (decide (o0_0.size + (⟨#[0]⟩ : ByteArray).size ≤ 9223372036854775807))).bind fun _ =>
      some ((()), ((o0_0 ++ (⟨#[0]⟩ : ByteArray), o0_1, ()), ()))
abbrev octet_Writer_Flag.ini : LSh := ⟨[(0, .ptr 1000000 0), (1, .val .bool)], [(1000000, 54, [.val .str, .val .bool])]⟩
abbrev octet_Writer_Flag.out : LSh := ⟨[], [(1000000, 54, [.val .str, .val .bool])]⟩
noncomputable def octet_Writer_Flag.labF : Nat → Option (LabF octet_Writer_Flag.out.den)
  | _ => none
noncomputable def octet_Writer_Flag.fd : FnD := ⟨Try.f43, octet_Writer_Flag.ini, octet_Writer_Flag.out, 0, [1000000], [], octet_Writer_Flag.labF, fun k (d : (Unit × Bool × Unit) × ((ByteArray × Bool × Unit) × Unit)) => (octet_Writer_Flag.f k d.1.2.1 d.2.1.1 d.2.1.2.1 : Option octet_Writer_Flag.R)⟩

/-! ### proof_item : function 30 -/
abbrev proof_item.R := (Unit) × ((ByteArray × Bool × Unit) × Unit)
noncomputable def proof_item.f : Nat → (Int × ByteArray × Bool × ByteArray × ByteArray × ByteArray × Unit) → ByteArray → Bool → Option proof_item.R
  | 0, _, _, _ => none
  | k + 1, x1, o0_0, o0_1 =>
    (octet_Writer_Num.f k x1.1 o0_0 o0_1).bind fun r1 =>
    (octet_Writer_Text.f k x1.2.1 r1.2.1.1 r1.2.1.2.1).bind fun r2 =>
    (octet_Writer_Flag.f k x1.2.2.1 r2.2.1.1 r2.2.1.2.1).bind fun r3 =>
    bif x1.2.2.1 then
      (octet_Writer_Text.f k x1.2.2.2.2.2.1 r3.2.1.1 r3.2.1.2.1).bind fun r4 =>
      some ((()), ((r4.2.1.1, r4.2.1.2.1, ()), ()))
    else
      (octet_Writer_Text.f k x1.2.2.2.1 r3.2.1.1 r3.2.1.2.1).bind fun r5 =>
      (octet_Writer_Text.f k x1.2.2.2.2.1 r5.2.1.1 r5.2.1.2.1).bind fun r6 =>
      some ((()), ((r6.2.1.1, r6.2.1.2.1, ()), ()))
abbrev proof_item.ini : LSh := ⟨[(0, .ptr 1000000 0), (1, .val (.cons (.int .i64) (.cons .str (.cons .bool (.cons .str (.cons .str (.cons .str .nil)))))))], [(1000000, 54, [.val .str, .val .bool])]⟩
abbrev proof_item.out : LSh := ⟨[], [(1000000, 54, [.val .str, .val .bool])]⟩
noncomputable def proof_item.labF : Nat → Option (LabF proof_item.out.den)
  | _ => none
noncomputable def proof_item.fd : FnD := ⟨Try.f30, proof_item.ini, proof_item.out, 0, [1000000], [], proof_item.labF, fun k (d : (Unit × (Int × ByteArray × Bool × ByteArray × ByteArray × ByteArray × Unit) × Unit) × ((ByteArray × Bool × Unit) × Unit)) => (proof_item.f k d.1.2.1 d.2.1.1 d.2.1.2.1 : Option proof_item.R)⟩

/-! ### proof_Bytes : function 11 -/
abbrev proof_Bytes.R := (ByteArray × Unit) × (Unit)
mutual
noncomputable def proof_Bytes.l0 : Nat → (Int × Int × Int × Int × Unit) → Int → ByteArray → Int → Int → Int → (List (Int × ByteArray × Bool × ByteArray × ByteArray × ByteArray × Unit)) → (List ByteArray) → Int → Int → (List ByteArray) → ByteArray → Bool → Option proof_Bytes.R
  | 0, _, _, _, _, _, _, _, _, _, _, _, _, _ => none
  | k + 1, x28, x29, o1_0, o1_1, o1_2, o1_3, o1_4, o1_5, o1_6, o1_7, o1_8, o14_0, o14_1 =>
    bif decide ((x29 : Int) < 4) then
      (rdo ([x28.1, x28.2.1, x28.2.2.1, x28.2.2.2.1] : List Int) x29).bind fun t3 =>
      (octet_Writer_Num.f k t3 o14_0 o14_1).bind fun r4 =>
      proof_Bytes.l0 k (x28.1, (x28.2.1, (x28.2.2.1, (x28.2.2.2.1, ())))) (IntKind.wrap .i64 (x29 + 1)) o1_0 o1_1 o1_2 o1_3 o1_4 o1_5 o1_6 o1_7 o1_8 r4.2.1.1 r4.2.1.2.1
    else
      proof_Bytes.l1 k o1_4 (o1_4.length : Int) 0 o1_0 o1_1 o1_2 o1_3 o1_4 o1_5 o1_6 o1_7 o1_8 o14_0 o14_1
noncomputable def proof_Bytes.l1 : Nat → (List (Int × ByteArray × Bool × ByteArray × ByteArray × ByteArray × Unit)) → Int → Int → ByteArray → Int → Int → Int → (List (Int × ByteArray × Bool × ByteArray × ByteArray × ByteArray × Unit)) → (List ByteArray) → Int → Int → (List ByteArray) → ByteArray → Bool → Option proof_Bytes.R
  | 0, _, _, _, _, _, _, _, _, _, _, _, _, _, _ => none
  | k + 1, x37, x38, x39, o1_0, o1_1, o1_2, o1_3, o1_4, o1_5, o1_6, o1_7, o1_8, o14_0, o14_1 =>
    bif decide ((x39 : Int) < x38) then
      (rdo x37 x39).bind fun t5 =>
      (proof_item.f k (t5.1, (t5.2.1, (t5.2.2.1, (t5.2.2.2.1, (t5.2.2.2.2.1, (t5.2.2.2.2.2.1, ())))))) o14_0 o14_1).bind fun r6 =>
      proof_Bytes.l1 k x37 x38 (IntKind.wrap .i64 (x39 + 1)) o1_0 o1_1 o1_2 o1_3 o1_4 o1_5 o1_6 o1_7 o1_8 r6.2.1.1 r6.2.1.2.1
    else
      (octet_Writer_Texts.f k o1_5 o14_0 o14_1).bind fun r7 =>
      (octet_Writer_Num.f k o1_6 r7.2.1.1 r7.2.1.2.1).bind fun r8 =>
      (octet_Writer_Num.f k o1_7 r8.2.1.1 r8.2.1.2.1).bind fun r9 =>
      (octet_Writer_Texts.f k o1_8 r9.2.1.1 r9.2.1.2.1).bind fun r10 =>
      (octet_Writer_All.f k r10.2.1.1 r10.2.1.2.1).bind fun r11 =>
      some ((r11.1.1, ()), (()))
noncomputable def proof_Bytes.f : Nat → (ByteArray × Int × Int × Int × List (Int × ByteArray × Bool × ByteArray × ByteArray × ByteArray × Unit) × List ByteArray × Int × Int × List ByteArray × Unit) → Option proof_Bytes.R
  | 0, _ => none
  | k + 1, x0 =>
    (proof_Right.f k (x0.1, (x0.2.1, (x0.2.2.1, (x0.2.2.2.1, (x0.2.2.2.2.1, (x0.2.2.2.2.2.1, (x0.2.2.2.2.2.2.1, (x0.2.2.2.2.2.2.2.1, (x0.2.2.2.2.2.2.2.2.1, ())))))))))).bind fun r1 =>
    bif !r1.1.1 then
      some (((⟨#[]⟩ : ByteArray), ()), (()))
    else
      (octet_Writer_Text.f k x0.1 ByteArray.empty false).bind fun r2 =>
      proof_Bytes.l0 k (x0.2.1, (x0.2.2.1, (x0.2.2.2.1, ((x0.2.2.2.2.1.length : Int), ())))) 0 x0.1 x0.2.1 x0.2.2.1 x0.2.2.2.1 x0.2.2.2.2.1 x0.2.2.2.2.2.1 x0.2.2.2.2.2.2.1 x0.2.2.2.2.2.2.2.1 x0.2.2.2.2.2.2.2.2.1 r2.2.1.1 r2.2.1.2.1
end
abbrev proof_Bytes.ini : LSh := ⟨[(0, .val (.cons .str (.cons (.int .i64) (.cons (.int .i64) (.cons (.int .i64) (.cons (.sl (.cons (.int .i64) (.cons .str (.cons .bool (.cons .str (.cons .str (.cons .str .nil))))))) (.cons (.sl .str) (.cons (.int .i64) (.cons (.int .i64) (.cons (.sl .str) .nil))))))))))], []⟩
abbrev proof_Bytes.out : LSh := ⟨[(0, .val .str)], []⟩
abbrev proof_Bytes.l0s : LSh := ⟨[(1, .ptr 1 0), (3, .ptr 14 0), (28, .val (.cons (.int .i64) (.cons (.int .i64) (.cons (.int .i64) (.cons (.int .i64) .nil))))), (29, .val (.int .i64))], [(1, 25, [.val .str, .val (.int .i64), .val (.int .i64), .val (.int .i64), .val (.sl (.cons (.int .i64) (.cons .str (.cons .bool (.cons .str (.cons .str (.cons .str .nil))))))), .val (.sl .str), .val (.int .i64), .val (.int .i64), .val (.sl .str)]), (14, 54, [.val .str, .val .bool])]⟩
abbrev proof_Bytes.l1s : LSh := ⟨[(1, .ptr 1 0), (3, .ptr 14 0), (37, .val (.sl (.cons (.int .i64) (.cons .str (.cons .bool (.cons .str (.cons .str (.cons .str .nil)))))))), (38, .val (.int .i64)), (39, .val (.int .i64))], [(1, 25, [.val .str, .val (.int .i64), .val (.int .i64), .val (.int .i64), .val (.sl (.cons (.int .i64) (.cons .str (.cons .bool (.cons .str (.cons .str (.cons .str .nil))))))), .val (.sl .str), .val (.int .i64), .val (.int .i64), .val (.sl .str)]), (14, 54, [.val .str, .val .bool])]⟩
noncomputable def proof_Bytes.labF : Nat → Option (LabF proof_Bytes.out.den)
  | 12 => some ⟨proof_Bytes.l0s, fun k (d : (Unit × Unit × (Int × Int × Int × Int × Unit) × Int × Unit) × ((ByteArray × Int × Int × Int × (List (Int × ByteArray × Bool × ByteArray × ByteArray × ByteArray × Unit)) × List ByteArray × Int × Int × List ByteArray × Unit) × (ByteArray × Bool × Unit) × Unit)) => (proof_Bytes.l0 k d.1.2.2.1 d.1.2.2.2.1 d.2.1.1 d.2.1.2.1 d.2.1.2.2.1 d.2.1.2.2.2.1 d.2.1.2.2.2.2.1 d.2.1.2.2.2.2.2.1 d.2.1.2.2.2.2.2.2.1 d.2.1.2.2.2.2.2.2.2.1 d.2.1.2.2.2.2.2.2.2.2.1 d.2.2.1.1 d.2.2.1.2.1 : Option proof_Bytes.R)⟩
  | 22 => some ⟨proof_Bytes.l1s, fun k (d : (Unit × Unit × (List (Int × ByteArray × Bool × ByteArray × ByteArray × ByteArray × Unit)) × Int × Int × Unit) × ((ByteArray × Int × Int × Int × (List (Int × ByteArray × Bool × ByteArray × ByteArray × ByteArray × Unit)) × List ByteArray × Int × Int × List ByteArray × Unit) × (ByteArray × Bool × Unit) × Unit)) => (proof_Bytes.l1 k d.1.2.2.1 d.1.2.2.2.1 d.1.2.2.2.2.1 d.2.1.1 d.2.1.2.1 d.2.1.2.2.1 d.2.1.2.2.2.1 d.2.1.2.2.2.2.1 d.2.1.2.2.2.2.2.1 d.2.1.2.2.2.2.2.2.1 d.2.1.2.2.2.2.2.2.2.1 d.2.1.2.2.2.2.2.2.2.2.1 d.2.2.1.1 d.2.2.1.2.1 : Option proof_Bytes.R)⟩
  | _ => none
noncomputable def proof_Bytes.fd : FnD := ⟨Try.f11, proof_Bytes.ini, proof_Bytes.out, 1, [], [], proof_Bytes.labF, fun k (d : ((ByteArray × Int × Int × Int × List (Int × ByteArray × Bool × ByteArray × ByteArray × ByteArray × Unit) × List ByteArray × Int × Int × List ByteArray × Unit) × Unit) × (Unit)) => (proof_Bytes.f k d.1.1 : Option proof_Bytes.R)⟩

/-! ### chartularylaw19_sameList : function 22 -/
abbrev chartularylaw19_sameList.R := (Bool × Unit) × (Unit)
mutual
noncomputable def chartularylaw19_sameList.l0 : Nat → (List ByteArray) → (List ByteArray) → Int → Option chartularylaw19_sameList.R
  | 0, _, _, _ => none
  | k + 1, x0, x1, x5 =>
    bif decide ((x5 : Int) < (x0.length : Int)) then
      (rdo x0 x5).bind fun t1 =>
      (rdo x1 x5).bind fun t2 =>
      bif !(t1.toList == t2.toList) then
        some ((false, ()), (()))
      else
        chartularylaw19_sameList.l0 k x0 x1 (IntKind.wrap .i64 (x5 + 1))
    else
      some ((true, ()), (()))
noncomputable def chartularylaw19_sameList.f : Nat → (List ByteArray) → (List ByteArray) → Option chartularylaw19_sameList.R
  | 0, _, _ => none
  | k + 1, x0, x1 =>
    bif ((x0.length : Int) : Int) != (x1.length : Int) then
      some ((false, ()), (()))
    else
      chartularylaw19_sameList.l0 k x0 x1 0
end
abbrev chartularylaw19_sameList.ini : LSh := ⟨[(0, .val (.sl .str)), (1, .val (.sl .str))], []⟩
abbrev chartularylaw19_sameList.out : LSh := ⟨[(0, .val .bool)], []⟩
abbrev chartularylaw19_sameList.l0s : LSh := ⟨[(0, .val (.sl .str)), (1, .val (.sl .str)), (5, .val (.int .i64))], []⟩
noncomputable def chartularylaw19_sameList.labF : Nat → Option (LabF chartularylaw19_sameList.out.den)
  | 8 => some ⟨chartularylaw19_sameList.l0s, fun k (d : (List ByteArray × List ByteArray × Int × Unit) × (Unit)) => (chartularylaw19_sameList.l0 k d.1.1 d.1.2.1 d.1.2.2.1 : Option chartularylaw19_sameList.R)⟩
  | _ => none
noncomputable def chartularylaw19_sameList.fd : FnD := ⟨Try.f22, chartularylaw19_sameList.ini, chartularylaw19_sameList.out, 1, [], [], chartularylaw19_sameList.labF, fun k (d : (List ByteArray × List ByteArray × Unit) × (Unit)) => (chartularylaw19_sameList.f k d.1.1 d.1.2.1 : Option chartularylaw19_sameList.R)⟩

/-! ### chartularylaw19_same : function 12 -/
abbrev chartularylaw19_same.R := (Bool × Unit) × (Unit)
mutual
noncomputable def chartularylaw19_same.j0 : Nat → ByteArray → Int → Int → Int → (List (Int × ByteArray × Bool × ByteArray × ByteArray × ByteArray × Unit)) → (List ByteArray) → Int → Int → (List ByteArray) → ByteArray → Int → Int → Int → (List (Int × ByteArray × Bool × ByteArray × ByteArray × ByteArray × Unit)) → (List ByteArray) → Int → Int → (List ByteArray) → Option chartularylaw19_same.R
  | 0, _, _, _, _, _, _, _, _, _, _, _, _, _, _, _, _, _, _ => none
  | k + 1, o2_0, o2_1, o2_2, o2_3, o2_4, o2_5, o2_6, o2_7, o2_8, o3_0, o3_1, o3_2, o3_3, o3_4, o3_5, o3_6, o3_7, o3_8 =>
    chartularylaw19_same.l0 k 0 o2_0 o2_1 o2_2 o2_3 o2_4 o2_5 o2_6 o2_7 o2_8 o3_0 o3_1 o3_2 o3_3 o3_4 o3_5 o3_6 o3_7 o3_8
noncomputable def chartularylaw19_same.l0 : Nat → Int → ByteArray → Int → Int → Int → (List (Int × ByteArray × Bool × ByteArray × ByteArray × ByteArray × Unit)) → (List ByteArray) → Int → Int → (List ByteArray) → ByteArray → Int → Int → Int → (List (Int × ByteArray × Bool × ByteArray × ByteArray × ByteArray × Unit)) → (List ByteArray) → Int → Int → (List ByteArray) → Option chartularylaw19_same.R
  | 0, _, _, _, _, _, _, _, _, _, _, _, _, _, _, _, _, _, _, _ => none
  | k + 1, x5, o2_0, o2_1, o2_2, o2_3, o2_4, o2_5, o2_6, o2_7, o2_8, o3_0, o3_1, o3_2, o3_3, o3_4, o3_5, o3_6, o3_7, o3_8 =>
    bif decide ((x5 : Int) < (o2_4.length : Int)) then
      (rdo o2_4 x5).bind fun t1 =>
      (rdo o3_4 x5).bind fun t2 =>
      bif !(((t1.1 : Int) == t2.1 && (seqB t1.2.1 t2.2.1 && (t1.2.2.1 == t2.2.2.1 && (seqB t1.2.2.2.1 t2.2.2.2.1 && (seqB t1.2.2.2.2.1 t2.2.2.2.2.1 && (seqB t1.2.2.2.2.2.1 t2.2.2.2.2.2.1 && true))))))) then
        some ((false, ()), (()))
      else
        chartularylaw19_same.l0 k (IntKind.wrap .i64 (x5 + 1)) o2_0 o2_1 o2_2 o2_3 o2_4 o2_5 o2_6 o2_7 o2_8 o3_0 o3_1 o3_2 o3_3 o3_4 o3_5 o3_6 o3_7 o3_8
    else
      (chartularylaw19_sameList.f k o2_5 o3_5).bind fun r3 =>
      bif r3.1.1 then
        (chartularylaw19_sameList.f k o2_8 o3_8).bind fun r4 =>
        some ((r4.1.1, ()), (()))
      else
        some ((false, ()), (()))
noncomputable def chartularylaw19_same.f : Nat → (ByteArray × Int × Int × Int × List (Int × ByteArray × Bool × ByteArray × ByteArray × ByteArray × Unit) × List ByteArray × Int × Int × List ByteArray × Unit) → (ByteArray × Int × Int × Int × List (Int × ByteArray × Bool × ByteArray × ByteArray × ByteArray × Unit) × List ByteArray × Int × Int × List ByteArray × Unit) → Option chartularylaw19_same.R
  | 0, _, _ => none
  | k + 1, x0, x1 =>
    bif !(x0.1.toList == x1.1.toList) then
      some ((false, ()), (()))
    else
    bif (x0.2.1 : Int) != x1.2.1 then
      some ((false, ()), (()))
    else
    bif (x0.2.2.1 : Int) != x1.2.2.1 then
      some ((false, ()), (()))
    else
    bif (x0.2.2.2.1 : Int) != x1.2.2.2.1 then
      some ((false, ()), (()))
    else
    bif (x0.2.2.2.2.2.2.1 : Int) != x1.2.2.2.2.2.2.1 then
      some ((false, ()), (()))
    else
    bif (x0.2.2.2.2.2.2.2.1 : Int) != x1.2.2.2.2.2.2.2.1 then
      some ((false, ()), (()))
    else
    bif ((x0.2.2.2.2.1.length : Int) : Int) != (x1.2.2.2.2.1.length : Int) then
      some ((false, ()), (()))
    else
      chartularylaw19_same.j0 k x0.1 x0.2.1 x0.2.2.1 x0.2.2.2.1 x0.2.2.2.2.1 x0.2.2.2.2.2.1 x0.2.2.2.2.2.2.1 x0.2.2.2.2.2.2.2.1 x0.2.2.2.2.2.2.2.2.1 x1.1 x1.2.1 x1.2.2.1 x1.2.2.2.1 x1.2.2.2.2.1 x1.2.2.2.2.2.1 x1.2.2.2.2.2.2.1 x1.2.2.2.2.2.2.2.1 x1.2.2.2.2.2.2.2.2.1
end
abbrev chartularylaw19_same.ini : LSh := ⟨[(0, .val (.cons .str (.cons (.int .i64) (.cons (.int .i64) (.cons (.int .i64) (.cons (.sl (.cons (.int .i64) (.cons .str (.cons .bool (.cons .str (.cons .str (.cons .str .nil))))))) (.cons (.sl .str) (.cons (.int .i64) (.cons (.int .i64) (.cons (.sl .str) .nil)))))))))), (1, .val (.cons .str (.cons (.int .i64) (.cons (.int .i64) (.cons (.int .i64) (.cons (.sl (.cons (.int .i64) (.cons .str (.cons .bool (.cons .str (.cons .str (.cons .str .nil))))))) (.cons (.sl .str) (.cons (.int .i64) (.cons (.int .i64) (.cons (.sl .str) .nil))))))))))], []⟩
abbrev chartularylaw19_same.out : LSh := ⟨[(0, .val .bool)], []⟩
abbrev chartularylaw19_same.j0s : LSh := ⟨[(2, .ptr 2 0), (3, .ptr 3 0)], [(2, 25, [.val .str, .val (.int .i64), .val (.int .i64), .val (.int .i64), .val (.sl (.cons (.int .i64) (.cons .str (.cons .bool (.cons .str (.cons .str (.cons .str .nil))))))), .val (.sl .str), .val (.int .i64), .val (.int .i64), .val (.sl .str)]), (3, 25, [.val .str, .val (.int .i64), .val (.int .i64), .val (.int .i64), .val (.sl (.cons (.int .i64) (.cons .str (.cons .bool (.cons .str (.cons .str (.cons .str .nil))))))), .val (.sl .str), .val (.int .i64), .val (.int .i64), .val (.sl .str)])]⟩
abbrev chartularylaw19_same.l0s : LSh := ⟨[(2, .ptr 2 0), (3, .ptr 3 0), (5, .val (.int .i64))], [(2, 25, [.val .str, .val (.int .i64), .val (.int .i64), .val (.int .i64), .val (.sl (.cons (.int .i64) (.cons .str (.cons .bool (.cons .str (.cons .str (.cons .str .nil))))))), .val (.sl .str), .val (.int .i64), .val (.int .i64), .val (.sl .str)]), (3, 25, [.val .str, .val (.int .i64), .val (.int .i64), .val (.int .i64), .val (.sl (.cons (.int .i64) (.cons .str (.cons .bool (.cons .str (.cons .str (.cons .str .nil))))))), .val (.sl .str), .val (.int .i64), .val (.int .i64), .val (.sl .str)])]⟩
noncomputable def chartularylaw19_same.labF : Nat → Option (LabF chartularylaw19_same.out.den)
  | 7 => some ⟨chartularylaw19_same.j0s, fun k (d : (Unit × Unit × Unit) × ((ByteArray × Int × Int × Int × (List (Int × ByteArray × Bool × ByteArray × ByteArray × ByteArray × Unit)) × List ByteArray × Int × Int × List ByteArray × Unit) × (ByteArray × Int × Int × Int × (List (Int × ByteArray × Bool × ByteArray × ByteArray × ByteArray × Unit)) × List ByteArray × Int × Int × List ByteArray × Unit) × Unit)) => (chartularylaw19_same.j0 k d.2.1.1 d.2.1.2.1 d.2.1.2.2.1 d.2.1.2.2.2.1 d.2.1.2.2.2.2.1 d.2.1.2.2.2.2.2.1 d.2.1.2.2.2.2.2.2.1 d.2.1.2.2.2.2.2.2.2.1 d.2.1.2.2.2.2.2.2.2.2.1 d.2.2.1.1 d.2.2.1.2.1 d.2.2.1.2.2.1 d.2.2.1.2.2.2.1 d.2.2.1.2.2.2.2.1 d.2.2.1.2.2.2.2.2.1 d.2.2.1.2.2.2.2.2.2.1 d.2.2.1.2.2.2.2.2.2.2.1 d.2.2.1.2.2.2.2.2.2.2.2.1 : Option chartularylaw19_same.R)⟩
  | 8 => some ⟨chartularylaw19_same.l0s, fun k (d : (Unit × Unit × Int × Unit) × ((ByteArray × Int × Int × Int × (List (Int × ByteArray × Bool × ByteArray × ByteArray × ByteArray × Unit)) × List ByteArray × Int × Int × List ByteArray × Unit) × (ByteArray × Int × Int × Int × (List (Int × ByteArray × Bool × ByteArray × ByteArray × ByteArray × Unit)) × List ByteArray × Int × Int × List ByteArray × Unit) × Unit)) => (chartularylaw19_same.l0 k d.1.2.2.1 d.2.1.1 d.2.1.2.1 d.2.1.2.2.1 d.2.1.2.2.2.1 d.2.1.2.2.2.2.1 d.2.1.2.2.2.2.2.1 d.2.1.2.2.2.2.2.2.1 d.2.1.2.2.2.2.2.2.2.1 d.2.1.2.2.2.2.2.2.2.2.1 d.2.2.1.1 d.2.2.1.2.1 d.2.2.1.2.2.1 d.2.2.1.2.2.2.1 d.2.2.1.2.2.2.2.1 d.2.2.1.2.2.2.2.2.1 d.2.2.1.2.2.2.2.2.2.1 d.2.2.1.2.2.2.2.2.2.2.1 d.2.2.1.2.2.2.2.2.2.2.2.1 : Option chartularylaw19_same.R)⟩
  | _ => none
noncomputable def chartularylaw19_same.fd : FnD := ⟨Try.f12, chartularylaw19_same.ini, chartularylaw19_same.out, 1, [], [], chartularylaw19_same.labF, fun k (d : ((ByteArray × Int × Int × Int × List (Int × ByteArray × Bool × ByteArray × ByteArray × ByteArray × Unit) × List ByteArray × Int × Int × List ByteArray × Unit) × (ByteArray × Int × Int × Int × List (Int × ByteArray × Bool × ByteArray × ByteArray × ByteArray × Unit) × List ByteArray × Int × Int × List ByteArray × Unit) × Unit) × (Unit)) => (chartularylaw19_same.f k d.1.1 d.1.2.1 : Option chartularylaw19_same.R)⟩

/-! ### chartularylaw19_ProofApart : function 3 -/
abbrev chartularylaw19_ProofApart.R := (Bool × Unit) × (Unit)
mutual
noncomputable def chartularylaw19_ProofApart.j0 : Nat → ByteArray → Int → Int → Int → (List (Int × ByteArray × Bool × ByteArray × ByteArray × ByteArray × Unit)) → (List ByteArray) → Int → Int → (List ByteArray) → ByteArray → Int → Int → Int → (List (Int × ByteArray × Bool × ByteArray × ByteArray × ByteArray × Unit)) → (List ByteArray) → Int → Int → (List ByteArray) → Option chartularylaw19_ProofApart.R
  | 0, _, _, _, _, _, _, _, _, _, _, _, _, _, _, _, _, _, _ => none
  | k + 1, o2_0, o2_1, o2_2, o2_3, o2_4, o2_5, o2_6, o2_7, o2_8, o3_0, o3_1, o3_2, o3_3, o3_4, o3_5, o3_6, o3_7, o3_8 =>
    (proof_Bytes.f k (o2_0, (o2_1, (o2_2, (o2_3, (o2_4, (o2_5, (o2_6, (o2_7, (o2_8, ())))))))))).bind fun r7 =>
    (proof_Bytes.f k (o3_0, (o3_1, (o3_2, (o3_3, (o3_4, (o3_5, (o3_6, (o3_7, (o3_8, ())))))))))).bind fun r8 =>
    (chartularylaw19_same.f k (o2_0, (o2_1, (o2_2, (o2_3, (o2_4, (o2_5, (o2_6, (o2_7, (o2_8, ()))))))))) (o3_0, (o3_1, (o3_2, (o3_3, (o3_4, (o3_5, (o3_6, (o3_7, (o3_8, ())))))))))).bind fun r9 =>
    bif (r7.1.1.toList == r8.1.1.toList) == r9.1.1 then
      (chartularylaw19_awake.f k).bind fun r10 =>
      some ((r10.1.1, ()), (()))
    else
      some ((false, ()), (()))
noncomputable def chartularylaw19_ProofApart.f : Nat → (ByteArray × Int × Int × Int × List (Int × ByteArray × Bool × ByteArray × ByteArray × ByteArray × Unit) × List ByteArray × Int × Int × List ByteArray × Unit) → (ByteArray × Int × Int × Int × List (Int × ByteArray × Bool × ByteArray × ByteArray × ByteArray × Unit) × List ByteArray × Int × Int × List ByteArray × Unit) → Option chartularylaw19_ProofApart.R
  | 0, _, _ => none
  | k + 1, x0, x1 =>
    (chartularylaw19_Few.f k (x0.1, (x0.2.1, (x0.2.2.1, (x0.2.2.2.1, (x0.2.2.2.2.1, (x0.2.2.2.2.2.1, (x0.2.2.2.2.2.2.1, (x0.2.2.2.2.2.2.2.1, (x0.2.2.2.2.2.2.2.2.1, ())))))))))).bind fun r1 =>
    (chartularylaw19_Few.f k (x1.1, (x1.2.1, (x1.2.2.1, (x1.2.2.2.1, (x1.2.2.2.2.1, (x1.2.2.2.2.2.1, (x1.2.2.2.2.2.2.1, (x1.2.2.2.2.2.2.2.1, (x1.2.2.2.2.2.2.2.2.1, ())))))))))).bind fun r2 =>
    (chartularylaw19_right.f k (r1.1.1.1, (r1.1.1.2.1, (r1.1.1.2.2.1, (r1.1.1.2.2.2.1, (r1.1.1.2.2.2.2.1, (r1.1.1.2.2.2.2.2.1, (r1.1.1.2.2.2.2.2.2.1, (r1.1.1.2.2.2.2.2.2.2.1, (r1.1.1.2.2.2.2.2.2.2.2.1, ())))))))))).bind fun r3 =>
    bif !r3.1.1 then
      (chartularylaw19_awake.f k).bind fun r4 =>
      some ((r4.1.1, ()), (()))
    else
      (chartularylaw19_right.f k (r2.1.1.1, (r2.1.1.2.1, (r2.1.1.2.2.1, (r2.1.1.2.2.2.1, (r2.1.1.2.2.2.2.1, (r2.1.1.2.2.2.2.2.1, (r2.1.1.2.2.2.2.2.2.1, (r2.1.1.2.2.2.2.2.2.2.1, (r2.1.1.2.2.2.2.2.2.2.2.1, ())))))))))).bind fun r5 =>
      bif !r5.1.1 then
        (chartularylaw19_awake.f k).bind fun r6 =>
        some ((r6.1.1, ()), (()))
      else
        chartularylaw19_ProofApart.j0 k r1.1.1.1 r1.1.1.2.1 r1.1.1.2.2.1 r1.1.1.2.2.2.1 r1.1.1.2.2.2.2.1 r1.1.1.2.2.2.2.2.1 r1.1.1.2.2.2.2.2.2.1 r1.1.1.2.2.2.2.2.2.2.1 r1.1.1.2.2.2.2.2.2.2.2.1 r2.1.1.1 r2.1.1.2.1 r2.1.1.2.2.1 r2.1.1.2.2.2.1 r2.1.1.2.2.2.2.1 r2.1.1.2.2.2.2.2.1 r2.1.1.2.2.2.2.2.2.1 r2.1.1.2.2.2.2.2.2.2.1 r2.1.1.2.2.2.2.2.2.2.2.1
end
abbrev chartularylaw19_ProofApart.ini : LSh := ⟨[(0, .val (.cons .str (.cons (.int .i64) (.cons (.int .i64) (.cons (.int .i64) (.cons (.sl (.cons (.int .i64) (.cons .str (.cons .bool (.cons .str (.cons .str (.cons .str .nil))))))) (.cons (.sl .str) (.cons (.int .i64) (.cons (.int .i64) (.cons (.sl .str) .nil)))))))))), (1, .val (.cons .str (.cons (.int .i64) (.cons (.int .i64) (.cons (.int .i64) (.cons (.sl (.cons (.int .i64) (.cons .str (.cons .bool (.cons .str (.cons .str (.cons .str .nil))))))) (.cons (.sl .str) (.cons (.int .i64) (.cons (.int .i64) (.cons (.sl .str) .nil))))))))))], []⟩
abbrev chartularylaw19_ProofApart.out : LSh := ⟨[(0, .val .bool)], []⟩
abbrev chartularylaw19_ProofApart.j0s : LSh := ⟨[(2, .ptr 2 0), (3, .ptr 3 0)], [(2, 25, [.val .str, .val (.int .i64), .val (.int .i64), .val (.int .i64), .val (.sl (.cons (.int .i64) (.cons .str (.cons .bool (.cons .str (.cons .str (.cons .str .nil))))))), .val (.sl .str), .val (.int .i64), .val (.int .i64), .val (.sl .str)]), (3, 25, [.val .str, .val (.int .i64), .val (.int .i64), .val (.int .i64), .val (.sl (.cons (.int .i64) (.cons .str (.cons .bool (.cons .str (.cons .str (.cons .str .nil))))))), .val (.sl .str), .val (.int .i64), .val (.int .i64), .val (.sl .str)])]⟩
noncomputable def chartularylaw19_ProofApart.labF : Nat → Option (LabF chartularylaw19_ProofApart.out.den)
  | 11 => some ⟨chartularylaw19_ProofApart.j0s, fun k (d : (Unit × Unit × Unit) × ((ByteArray × Int × Int × Int × (List (Int × ByteArray × Bool × ByteArray × ByteArray × ByteArray × Unit)) × List ByteArray × Int × Int × List ByteArray × Unit) × (ByteArray × Int × Int × Int × (List (Int × ByteArray × Bool × ByteArray × ByteArray × ByteArray × Unit)) × List ByteArray × Int × Int × List ByteArray × Unit) × Unit)) => (chartularylaw19_ProofApart.j0 k d.2.1.1 d.2.1.2.1 d.2.1.2.2.1 d.2.1.2.2.2.1 d.2.1.2.2.2.2.1 d.2.1.2.2.2.2.2.1 d.2.1.2.2.2.2.2.2.1 d.2.1.2.2.2.2.2.2.2.1 d.2.1.2.2.2.2.2.2.2.2.1 d.2.2.1.1 d.2.2.1.2.1 d.2.2.1.2.2.1 d.2.2.1.2.2.2.1 d.2.2.1.2.2.2.2.1 d.2.2.1.2.2.2.2.2.1 d.2.2.1.2.2.2.2.2.2.1 d.2.2.1.2.2.2.2.2.2.2.1 d.2.2.1.2.2.2.2.2.2.2.2.1 : Option chartularylaw19_ProofApart.R)⟩
  | _ => none
noncomputable def chartularylaw19_ProofApart.fd : FnD := ⟨Try.f3, chartularylaw19_ProofApart.ini, chartularylaw19_ProofApart.out, 1, [], [], chartularylaw19_ProofApart.labF, fun k (d : ((ByteArray × Int × Int × Int × List (Int × ByteArray × Bool × ByteArray × ByteArray × ByteArray × Unit) × List ByteArray × Int × Int × List ByteArray × Unit) × (ByteArray × Int × Int × Int × List (Int × ByteArray × Bool × ByteArray × ByteArray × ByteArray × Unit) × List ByteArray × Int × Int × List ByteArray × Unit) × Unit) × (Unit)) => (chartularylaw19_ProofApart.f k d.1.1 d.1.2.1 : Option chartularylaw19_ProofApart.R)⟩

/-! ### octet_Read : function 34 -/
abbrev octet_Read.R := (Unit × Unit) × ((ByteArray × Int × Int × Unit) × Unit)
noncomputable def octet_Read.f : Nat → ByteArray → Option octet_Read.R
  | 0, _ => none
  | k + 1, x0 =>
    some (((), ()), ((x0, 0, 0, ()), ()))
abbrev octet_Read.ini : LSh := ⟨[(0, .val .str)], []⟩
abbrev octet_Read.out : LSh := ⟨[(0, .ptr 4000000 0)], [(4000000, 73, [.val .str, .val (.int .i64), .val (.int .i64)])]⟩
noncomputable def octet_Read.labF : Nat → Option (LabF octet_Read.out.den)
  | _ => none
noncomputable def octet_Read.fd : FnD := ⟨Try.f34, octet_Read.ini, octet_Read.out, 1, [], [], octet_Read.labF, fun k (d : (ByteArray × Unit) × (Unit)) => (octet_Read.f k d.1.1 : Option octet_Read.R)⟩

/-! ### octet_Reader_Err : function 40 -/
abbrev octet_Reader_Err.R := (Int × Unit) × (Unit)
noncomputable def octet_Reader_Err.f : Nat → ByteArray → Int → Int → Option octet_Reader_Err.R
  | 0, _, _, _ => none
  | k + 1, o0_0, o0_1, o0_2 =>
    some ((o0_2, ()), (()))
abbrev octet_Reader_Err.ini : LSh := ⟨[(0, .ptr 1000000 0)], [(1000000, 73, [.val .str, .val (.int .i64), .val (.int .i64)])]⟩
abbrev octet_Reader_Err.out : LSh := ⟨[(0, .val (.int .i64))], []⟩
noncomputable def octet_Reader_Err.labF : Nat → Option (LabF octet_Reader_Err.out.den)
  | _ => none
noncomputable def octet_Reader_Err.fd : FnD := ⟨Try.f40, octet_Reader_Err.ini, octet_Reader_Err.out, 1, [1000000], [1000000], octet_Reader_Err.labF, fun k (d : (Unit × Unit) × ((ByteArray × Int × Int × Unit) × Unit)) => (octet_Reader_Err.f k d.2.1.1 d.2.1.2.1 d.2.1.2.2.1 : Option octet_Reader_Err.R)⟩

/-! ### octet_Reader_Fail : function 45 -/
abbrev octet_Reader_Fail.R := (Unit) × ((ByteArray × Int × Int × Unit) × Unit)
noncomputable def octet_Reader_Fail.f : Nat → Int → ByteArray → Int → Int → Option octet_Reader_Fail.R
  | 0, _, _, _, _ => none
  | k + 1, x1, o0_0, o0_1, o0_2 =>
    bif (o0_2 : Int) == 0 then
      some ((()), ((o0_0, o0_1, x1, ()), ()))
    else
      some ((()), ((o0_0, o0_1, o0_2, ()), ()))
abbrev octet_Reader_Fail.ini : LSh := ⟨[(0, .ptr 1000000 0), (1, .val (.int .i64))], [(1000000, 73, [.val .str, .val (.int .i64), .val (.int .i64)])]⟩
abbrev octet_Reader_Fail.out : LSh := ⟨[], [(1000000, 73, [.val .str, .val (.int .i64), .val (.int .i64)])]⟩
noncomputable def octet_Reader_Fail.labF : Nat → Option (LabF octet_Reader_Fail.out.den)
  | _ => none
noncomputable def octet_Reader_Fail.fd : FnD := ⟨Try.f45, octet_Reader_Fail.ini, octet_Reader_Fail.out, 0, [1000000], [], octet_Reader_Fail.labF, fun k (d : (Unit × Int × Unit) × ((ByteArray × Int × Int × Unit) × Unit)) => (octet_Reader_Fail.f k d.1.2.1 d.2.1.1 d.2.1.2.1 d.2.1.2.2.1 : Option octet_Reader_Fail.R)⟩

/-! ### octet_Reader_Raw : function 44 -/
abbrev octet_Reader_Raw.R := (ByteArray × Unit) × ((ByteArray × Int × Int × Unit) × Unit)
noncomputable def octet_Reader_Raw.f : Nat → Int → ByteArray → Int → Int → Option octet_Reader_Raw.R
  | 0, _, _, _, _ => none
  | k + 1, x1, o0_0, o0_1, o0_2 =>
    (octet_Reader_Err.f k o0_0 o0_1 o0_2).bind fun r1 =>
    bif (r1.1.1 : Int) != 0 then
      some (((⟨#[]⟩ : ByteArray), ()), ((o0_0, o0_1, o0_2, ()), ()))
    else
    bif decide ((x1 : Int) < 0) then
      (octet_Reader_Fail.f k 1 o0_0 o0_1 o0_2).bind fun r2 =>
      some (((⟨#[]⟩ : ByteArray), ()), ((r2.2.1.1, r2.2.1.2.1, r2.2.1.2.2.1, ()), ()))
    else
    bif decide ((x1 : Int) > IntKind.wrap .i64 ((o0_0.size : Int) - o0_1)) then
      (octet_Reader_Fail.f k 2 o0_0 o0_1 o0_2).bind fun r3 =>
      some (((⟨#[]⟩ : ByteArray), ()), ((r3.2.1.1, r3.2.1.2.1, r3.2.1.2.2.1, ()), ()))
    else
      (ck (decide (0 ≤ IntKind.wrap .i64 ((IntKind.wrap .i64 (o0_1 + x1)) - x1)) && decide (IntKind.wrap .i64 ((IntKind.wrap .i64 (o0_1 + x1)) - x1) ≤ IntKind.wrap .i64 (o0_1 + x1)) && decide (IntKind.wrap .i64 (o0_1 + x1) ≤ (o0_0.size : Int)))).bind fun _ =>
      some ((o0_0.extract (IntKind.wrap .i64 ((IntKind.wrap .i64 (o0_1 + x1)) - x1) : Int).toNat (IntKind.wrap .i64 (o0_1 + x1) : Int).toNat, ()), ((o0_0, IntKind.wrap .i64 (o0_1 + x1), o0_2, ()), ()))
abbrev octet_Reader_Raw.ini : LSh := ⟨[(0, .ptr 1000000 0), (1, .val (.int .i64))], [(1000000, 73, [.val .str, .val (.int .i64), .val (.int .i64)])]⟩
abbrev octet_Reader_Raw.out : LSh := ⟨[(0, .val .str)], [(1000000, 73, [.val .str, .val (.int .i64), .val (.int .i64)])]⟩
noncomputable def octet_Reader_Raw.labF : Nat → Option (LabF octet_Reader_Raw.out.den)
  | _ => none
noncomputable def octet_Reader_Raw.fd : FnD := ⟨Try.f44, octet_Reader_Raw.ini, octet_Reader_Raw.out, 1, [1000000], [], octet_Reader_Raw.labF, fun k (d : (Unit × Int × Unit) × ((ByteArray × Int × Int × Unit) × Unit)) => (octet_Reader_Raw.f k d.1.2.1 d.2.1.1 d.2.1.2.1 d.2.1.2.2.1 : Option octet_Reader_Raw.R)⟩

/-! ### octet_Reader_Num : function 35 -/
abbrev octet_Reader_Num.R := (Int × Unit) × ((ByteArray × Int × Int × Unit) × Unit)
mutual
noncomputable def octet_Reader_Num.l0 : Nat → Int → Int → (List Int) → Int → Int → ByteArray → Int → Int → Option octet_Reader_Num.R
  | 0, _, _, _, _, _, _, _, _ => none
  | k + 1, x1, x7, x24, x25, x26, o0_0, o0_1, o0_2 =>
    bif decide ((x26 : Int) < x25) then
      (rdo x24 x26).bind fun t5 =>
      bif (x26 : Int) == 0 then
        bif (t5 : Int) == 0 then
          (octet_Reader_Fail.f k 4 o0_0 o0_1 o0_2).bind fun r6 =>
          some ((0, ()), ((r6.2.1.1, r6.2.1.2.1, r6.2.1.2.2.1, ()), ()))
        else
          (ck (!decide ((8 : Int) < 0))).bind fun _ =>
          octet_Reader_Num.l0 k x1 (IntKind.wrap .i64 ((BitVec.ofInt (IntKind.bits .i64) (IntKind.wrap .i64 (x7 * 2 ^ (min (8 : Int).toNat (IntKind.bits .i64)))) ||| BitVec.ofInt (IntKind.bits .i64) (IntKind.wrap .i64 t5)).toNat : Int)) x24 x25 (IntKind.wrap .i64 (x26 + 1)) o0_0 o0_1 o0_2
      else
        (ck (!decide ((8 : Int) < 0))).bind fun _ =>
        octet_Reader_Num.l0 k x1 (IntKind.wrap .i64 ((BitVec.ofInt (IntKind.bits .i64) (IntKind.wrap .i64 (x7 * 2 ^ (min (8 : Int).toNat (IntKind.bits .i64)))) ||| BitVec.ofInt (IntKind.bits .i64) (IntKind.wrap .i64 t5)).toNat : Int)) x24 x25 (IntKind.wrap .i64 (x26 + 1)) o0_0 o0_1 o0_2
    else
      (octet_Reader_Err.f k o0_0 o0_1 o0_2).bind fun r7 =>
      bif (r7.1.1 : Int) != 0 then
        some ((0, ()), ((o0_0, o0_1, o0_2, ()), ()))
      else
      bif decide ((x7 : Int) > x1) then
        (octet_Reader_Fail.f k 3 o0_0 o0_1 o0_2).bind fun r8 =>
        some ((0, ()), ((r8.2.1.1, r8.2.1.2.1, r8.2.1.2.2.1, ()), ()))
      else
        some ((x7, ()), ((o0_0, o0_1, o0_2, ()), ()))
noncomputable def octet_Reader_Num.f : Nat → Int → ByteArray → Int → Int → Option octet_Reader_Num.R
  | 0, _, _, _, _ => none
  | k + 1, x1, o0_0, o0_1, o0_2 =>
    (octet_Reader_Raw.f k 1 o0_0 o0_1 o0_2).bind fun r1 =>
    bif r1.1.1.toList == (⟨#[]⟩ : ByteArray).toList then
      some ((0, ()), ((r1.2.1.1, r1.2.1.2.1, r1.2.1.2.2.1, ()), ()))
    else
      (bto r1.1.1 0).bind fun t2 =>
      bif decide ((IntKind.wrap .i64 t2 : Int) > 7) then
        (octet_Reader_Fail.f k 4 r1.2.1.1 r1.2.1.2.1 r1.2.1.2.2.1).bind fun r3 =>
        some ((0, ()), ((r3.2.1.1, r3.2.1.2.1, r3.2.1.2.2.1, ()), ()))
      else
        (octet_Reader_Raw.f k (IntKind.wrap .i64 t2) r1.2.1.1 r1.2.1.2.1 r1.2.1.2.2.1).bind fun r4 =>
        octet_Reader_Num.l0 k x1 0 (bytesOf r4.1.1) ((bytesOf r4.1.1).length : Int) 0 r4.2.1.1 r4.2.1.2.1 r4.2.1.2.2.1
end
abbrev octet_Reader_Num.ini : LSh := ⟨[(0, .ptr 1000000 0), (1, .val (.int .i64))], [(1000000, 73, [.val .str, .val (.int .i64), .val (.int .i64)])]⟩
abbrev octet_Reader_Num.out : LSh := ⟨[(0, .val (.int .i64))], [(1000000, 73, [.val .str, .val (.int .i64), .val (.int .i64)])]⟩
abbrev octet_Reader_Num.l0s : LSh := ⟨[(0, .ptr 1000000 0), (1, .val (.int .i64)), (7, .val (.int .i64)), (24, .own 2000024 5 (.int .u8)), (25, .val (.int .i64)), (26, .val (.int .i64))], [(1000000, 73, [.val .str, .val (.int .i64), .val (.int .i64)])]⟩
noncomputable def octet_Reader_Num.labF : Nat → Option (LabF octet_Reader_Num.out.den)
  | 20 => some ⟨octet_Reader_Num.l0s, fun k (d : (Unit × Int × Int × List Int × Int × Int × Unit) × ((ByteArray × Int × Int × Unit) × Unit)) => (octet_Reader_Num.l0 k d.1.2.1 d.1.2.2.1 d.1.2.2.2.1 d.1.2.2.2.2.1 d.1.2.2.2.2.2.1 d.2.1.1 d.2.1.2.1 d.2.1.2.2.1 : Option octet_Reader_Num.R)⟩
  | _ => none
noncomputable def octet_Reader_Num.fd : FnD := ⟨Try.f35, octet_Reader_Num.ini, octet_Reader_Num.out, 1, [1000000], [], octet_Reader_Num.labF, fun k (d : (Unit × Int × Unit) × ((ByteArray × Int × Int × Unit) × Unit)) => (octet_Reader_Num.f k d.1.2.1 d.2.1.1 d.2.1.2.1 d.2.1.2.2.1 : Option octet_Reader_Num.R)⟩

/-! ### octet_Reader_Text : function 36 -/
abbrev octet_Reader_Text.R := (ByteArray × Unit) × ((ByteArray × Int × Int × Unit) × Unit)
noncomputable def octet_Reader_Text.f : Nat → Int → ByteArray → Int → Int → Option octet_Reader_Text.R
  | 0, _, _, _, _ => none
  | k + 1, x1, o0_0, o0_1, o0_2 =>
    (octet_Reader_Num.f k x1 o0_0 o0_1 o0_2).bind fun r1 =>
    (octet_Reader_Raw.f k r1.1.1 r1.2.1.1 r1.2.1.2.1 r1.2.1.2.2.1).bind fun r2 =>
    some ((r2.1.1, ()), ((r2.2.1.1, r2.2.1.2.1, r2.2.1.2.2.1, ()), ()))
abbrev octet_Reader_Text.ini : LSh := ⟨[(0, .ptr 1000000 0), (1, .val (.int .i64))], [(1000000, 73, [.val .str, .val (.int .i64), .val (.int .i64)])]⟩
abbrev octet_Reader_Text.out : LSh := ⟨[(0, .val .str)], [(1000000, 73, [.val .str, .val (.int .i64), .val (.int .i64)])]⟩
noncomputable def octet_Reader_Text.labF : Nat → Option (LabF octet_Reader_Text.out.den)
  | _ => none
noncomputable def octet_Reader_Text.fd : FnD := ⟨Try.f36, octet_Reader_Text.ini, octet_Reader_Text.out, 1, [1000000], [], octet_Reader_Text.labF, fun k (d : (Unit × Int × Unit) × ((ByteArray × Int × Int × Unit) × Unit)) => (octet_Reader_Text.f k d.1.2.1 d.2.1.1 d.2.1.2.1 d.2.1.2.2.1 : Option octet_Reader_Text.R)⟩

/-! ### octet_Reader_Texts : function 37 -/
abbrev octet_Reader_Texts.R := (List ByteArray × Unit) × ((ByteArray × Int × Int × Unit) × Unit)
mutual
noncomputable def octet_Reader_Texts.l0 : Nat → Int → (List ByteArray) → Int → Int → ByteArray → Int → Int → Option octet_Reader_Texts.R
  | 0, _, _, _, _, _, _, _ => none
  | k + 1, x2, x7, x11, x12, o0_0, o0_1, o0_2 =>
    bif decide ((x12 : Int) < x11) then
      (octet_Reader_Text.f k x2 o0_0 o0_1 o0_2).bind fun r2 =>
      (octet_Reader_Err.f k r2.2.1.1 r2.2.1.2.1 r2.2.1.2.2.1).bind fun r3 =>
      bif (r3.1.1 : Int) != 0 then
        some ((([] : List ByteArray), ()), ((r2.2.1.1, r2.2.1.2.1, r2.2.1.2.2.1, ()), ()))
      else
        (ck (decide ((x7.length + ([r2.1.1] : List ByteArray).length) * 16 ≤ 70368744177664))).bind fun _ =>
        octet_Reader_Texts.l0 k x2 (x7 ++ ([r2.1.1] : List ByteArray)) x11 (IntKind.wrap .i64 (x12 + 1)) r2.2.1.1 r2.2.1.2.1 r2.2.1.2.2.1
    else
      some ((x7, ()), ((o0_0, o0_1, o0_2, ()), ()))
noncomputable def octet_Reader_Texts.f : Nat → Int → Int → ByteArray → Int → Int → Option octet_Reader_Texts.R
  | 0, _, _, _, _, _ => none
  | k + 1, x1, x2, o0_0, o0_1, o0_2 =>
    (octet_Reader_Num.f k x1 o0_0 o0_1 o0_2).bind fun r1 =>
    octet_Reader_Texts.l0 k x2 [] r1.1.1 0 r1.2.1.1 r1.2.1.2.1 r1.2.1.2.2.1
end
abbrev octet_Reader_Texts.ini : LSh := ⟨[(0, .ptr 1000000 0), (1, .val (.int .i64)), (2, .val (.int .i64))], [(1000000, 73, [.val .str, .val (.int .i64), .val (.int .i64)])]⟩
abbrev octet_Reader_Texts.out : LSh := ⟨[(0, .val (.sl .str))], [(1000000, 73, [.val .str, .val (.int .i64), .val (.int .i64)])]⟩
abbrev octet_Reader_Texts.l0s : LSh := ⟨[(0, .ptr 1000000 0), (2, .val (.int .i64)), (7, .own 2000007 9 .str), (11, .val (.int .i64)), (12, .val (.int .i64))], [(1000000, 73, [.val .str, .val (.int .i64), .val (.int .i64)])]⟩
noncomputable def octet_Reader_Texts.labF : Nat → Option (LabF octet_Reader_Texts.out.den)
  | 6 => some ⟨octet_Reader_Texts.l0s, fun k (d : (Unit × Int × List ByteArray × Int × Int × Unit) × ((ByteArray × Int × Int × Unit) × Unit)) => (octet_Reader_Texts.l0 k d.1.2.1 d.1.2.2.1 d.1.2.2.2.1 d.1.2.2.2.2.1 d.2.1.1 d.2.1.2.1 d.2.1.2.2.1 : Option octet_Reader_Texts.R)⟩
  | _ => none
noncomputable def octet_Reader_Texts.fd : FnD := ⟨Try.f37, octet_Reader_Texts.ini, octet_Reader_Texts.out, 1, [1000000], [], octet_Reader_Texts.labF, fun k (d : (Unit × Int × Int × Unit) × ((ByteArray × Int × Int × Unit) × Unit)) => (octet_Reader_Texts.f k d.1.2.1 d.1.2.2.1 d.2.1.1 d.2.1.2.1 d.2.1.2.2.1 : Option octet_Reader_Texts.R)⟩

/-! ### octet_Reader_Left : function 46 -/
abbrev octet_Reader_Left.R := (Int × Unit) × (Unit)
noncomputable def octet_Reader_Left.f : Nat → ByteArray → Int → Int → Option octet_Reader_Left.R
  | 0, _, _, _ => none
  | k + 1, o0_0, o0_1, o0_2 =>
    (octet_Reader_Err.f k o0_0 o0_1 o0_2).bind fun r1 =>
    bif (r1.1.1 : Int) != 0 then
      some ((0, ()), (()))
    else
      some ((IntKind.wrap .i64 ((o0_0.size : Int) - o0_1), ()), (()))
abbrev octet_Reader_Left.ini : LSh := ⟨[(0, .ptr 1000000 0)], [(1000000, 73, [.val .str, .val (.int .i64), .val (.int .i64)])]⟩
abbrev octet_Reader_Left.out : LSh := ⟨[(0, .val (.int .i64))], []⟩
noncomputable def octet_Reader_Left.labF : Nat → Option (LabF octet_Reader_Left.out.den)
  | _ => none
noncomputable def octet_Reader_Left.fd : FnD := ⟨Try.f46, octet_Reader_Left.ini, octet_Reader_Left.out, 1, [1000000], [1000000], octet_Reader_Left.labF, fun k (d : (Unit × Unit) × ((ByteArray × Int × Int × Unit) × Unit)) => (octet_Reader_Left.f k d.2.1.1 d.2.1.2.1 d.2.1.2.2.1 : Option octet_Reader_Left.R)⟩

/-! ### octet_Reader_End : function 38 -/
abbrev octet_Reader_End.R := (Int × Unit) × ((ByteArray × Int × Int × Unit) × Unit)
noncomputable def octet_Reader_End.f : Nat → ByteArray → Int → Int → Option octet_Reader_End.R
  | 0, _, _, _ => none
  | k + 1, o0_0, o0_1, o0_2 =>
    (octet_Reader_Left.f k o0_0 o0_1 o0_2).bind fun r1 =>
    bif decide ((r1.1.1 : Int) > 0) then
      (octet_Reader_Fail.f k 4 o0_0 o0_1 o0_2).bind fun r2 =>
      (octet_Reader_Err.f k r2.2.1.1 r2.2.1.2.1 r2.2.1.2.2.1).bind fun r3 =>
      some ((r3.1.1, ()), ((r2.2.1.1, r2.2.1.2.1, r2.2.1.2.2.1, ()), ()))
    else
      (octet_Reader_Err.f k o0_0 o0_1 o0_2).bind fun r4 =>
      some ((r4.1.1, ()), ((o0_0, o0_1, o0_2, ()), ()))
abbrev octet_Reader_End.ini : LSh := ⟨[(0, .ptr 1000000 0)], [(1000000, 73, [.val .str, .val (.int .i64), .val (.int .i64)])]⟩
abbrev octet_Reader_End.out : LSh := ⟨[(0, .val (.int .i64))], [(1000000, 73, [.val .str, .val (.int .i64), .val (.int .i64)])]⟩
noncomputable def octet_Reader_End.labF : Nat → Option (LabF octet_Reader_End.out.den)
  | _ => none
noncomputable def octet_Reader_End.fd : FnD := ⟨Try.f38, octet_Reader_End.ini, octet_Reader_End.out, 1, [1000000], [], octet_Reader_End.labF, fun k (d : (Unit × Unit) × ((ByteArray × Int × Int × Unit) × Unit)) => (octet_Reader_End.f k d.2.1.1 d.2.1.2.1 d.2.1.2.2.1 : Option octet_Reader_End.R)⟩

/-! ### octet_Reader_Flag : function 47 -/
abbrev octet_Reader_Flag.R := (Bool × Unit) × ((ByteArray × Int × Int × Unit) × Unit)
noncomputable def octet_Reader_Flag.f : Nat → ByteArray → Int → Int → Option octet_Reader_Flag.R
  | 0, _, _, _ => none
  | k + 1, o0_0, o0_1, o0_2 =>
    (octet_Reader_Raw.f k 1 o0_0 o0_1 o0_2).bind fun r1 =>
    bif !(Op.bytesLess r1.1.1.toList (⟨#[1]⟩ : ByteArray).toList || r1.1.1.toList == (⟨#[1]⟩ : ByteArray).toList) then
      (octet_Reader_Fail.f k 4 r1.2.1.1 r1.2.1.2.1 r1.2.1.2.2.1).bind fun r2 =>
      some ((false, ()), ((r2.2.1.1, r2.2.1.2.1, r2.2.1.2.2.1, ()), ()))
    else
      some ((r1.1.1.toList == (⟨#[1]⟩ : ByteArray).toList, ()), ((r1.2.1.1, r1.2.1.2.1, r1.2.1.2.2.1, ()), ()))
abbrev octet_Reader_Flag.ini : LSh := ⟨[(0, .ptr 1000000 0)], [(1000000, 73, [.val .str, .val (.int .i64), .val (.int .i64)])]⟩
abbrev octet_Reader_Flag.out : LSh := ⟨[(0, .val .bool)], [(1000000, 73, [.val .str, .val (.int .i64), .val (.int .i64)])]⟩
noncomputable def octet_Reader_Flag.labF : Nat → Option (LabF octet_Reader_Flag.out.den)
  | _ => none
noncomputable def octet_Reader_Flag.fd : FnD := ⟨Try.f47, octet_Reader_Flag.ini, octet_Reader_Flag.out, 1, [1000000], [], octet_Reader_Flag.labF, fun k (d : (Unit × Unit) × ((ByteArray × Int × Int × Unit) × Unit)) => (octet_Reader_Flag.f k d.2.1.1 d.2.1.2.1 d.2.1.2.2.1 : Option octet_Reader_Flag.R)⟩

/-! ### proof_readItem : function 39 -/
abbrev proof_readItem.R := ((Int × ByteArray × Bool × ByteArray × ByteArray × ByteArray × Unit) × Unit) × ((ByteArray × Int × Int × Unit) × Unit)
noncomputable def proof_readItem.f : Nat → ByteArray → Int → Int → Option proof_readItem.R
  | 0, _, _, _ => none
  | k + 1, o0_0, o0_1, o0_2 =>
    (octet_Reader_Num.f k 11 o0_0 o0_1 o0_2).bind fun r1 =>
    (octet_Reader_Text.f k 16 r1.2.1.1 r1.2.1.2.1 r1.2.1.2.2.1).bind fun r2 =>
    (octet_Reader_Flag.f k r2.2.1.1 r2.2.1.2.1 r2.2.1.2.2.1).bind fun r3 =>
    bif r3.1.1 then
      (octet_Reader_Text.f k 32 r3.2.1.1 r3.2.1.2.1 r3.2.1.2.2.1).bind fun r4 =>
      some (((r1.1.1, (r2.1.1, (r3.1.1, (ByteArray.empty, (ByteArray.empty, (r4.1.1, ())))))), ()), ((r4.2.1.1, r4.2.1.2.1, r4.2.1.2.2.1, ()), ()))
    else
      (octet_Reader_Text.f k 16 r3.2.1.1 r3.2.1.2.1 r3.2.1.2.2.1).bind fun r5 =>
      (octet_Reader_Text.f k 208 r5.2.1.1 r5.2.1.2.1 r5.2.1.2.2.1).bind fun r6 =>
      some (((r1.1.1, (r2.1.1, (r3.1.1, (r5.1.1, (r6.1.1, (ByteArray.empty, ())))))), ()), ((r6.2.1.1, r6.2.1.2.1, r6.2.1.2.2.1, ()), ()))
abbrev proof_readItem.ini : LSh := ⟨[(0, .ptr 1000000 0)], [(1000000, 73, [.val .str, .val (.int .i64), .val (.int .i64)])]⟩
abbrev proof_readItem.out : LSh := ⟨[(0, .val (.cons (.int .i64) (.cons .str (.cons .bool (.cons .str (.cons .str (.cons .str .nil)))))))], [(1000000, 73, [.val .str, .val (.int .i64), .val (.int .i64)])]⟩
noncomputable def proof_readItem.labF : Nat → Option (LabF proof_readItem.out.den)
  | _ => none
noncomputable def proof_readItem.fd : FnD := ⟨Try.f39, proof_readItem.ini, proof_readItem.out, 1, [1000000], [], proof_readItem.labF, fun k (d : (Unit × Unit) × ((ByteArray × Int × Int × Unit) × Unit)) => (proof_readItem.f k d.2.1.1 d.2.1.2.1 d.2.1.2.2.1 : Option proof_readItem.R)⟩

/-! ### proof_Read : function 23 -/
abbrev proof_Read.R := ((ByteArray × Int × Int × Int × List (Int × ByteArray × Bool × ByteArray × ByteArray × ByteArray × Unit) × List ByteArray × Int × Int × List ByteArray × Unit) × Int × Unit) × (Unit)
mutual
noncomputable def proof_Read.l0 : Nat → Int → Int → ByteArray → Int → Int → Int → (List (Int × ByteArray × Bool × ByteArray × ByteArray × ByteArray × Unit)) → (List ByteArray) → Int → Int → (List ByteArray) → ByteArray → Int → Int → ByteArray → Int → Int → Int → (List (Int × ByteArray × Bool × ByteArray × ByteArray × ByteArray × Unit)) → (List ByteArray) → Int → Int → (List ByteArray) → Option proof_Read.R
  | 0, _, _, _, _, _, _, _, _, _, _, _, _, _, _, _, _, _, _, _, _, _, _, _ => none
  | k + 1, x20, x21, o2_0, o2_1, o2_2, o2_3, o2_4, o2_5, o2_6, o2_7, o2_8, o0_0, o0_1, o0_2, o5_0, o5_1, o5_2, o5_3, o5_4, o5_5, o5_6, o5_7, o5_8 =>
    bif decide ((x21 : Int) < x20) then
      (proof_readItem.f k o0_0 o0_1 o0_2).bind fun r7 =>
      (octet_Reader_Err.f k r7.2.1.1 r7.2.1.2.1 r7.2.1.2.2.1).bind fun r8 =>
      bif (r8.1.1 : Int) != 0 then
        proof_Read.j0 k o2_0 o2_1 o2_2 o2_3 o2_4 o2_5 o2_6 o2_7 o2_8 r7.2.1.1 r7.2.1.2.1 r7.2.1.2.2.1 o5_0 o5_1 o5_2 o5_3 o5_4 o5_5 o5_6 o5_7 o5_8
      else
        (ck (decide ((o5_4.length + ([(r7.1.1.1, (r7.1.1.2.1, (r7.1.1.2.2.1, (r7.1.1.2.2.2.1, (r7.1.1.2.2.2.2.1, (r7.1.1.2.2.2.2.2.1, ()))))))] : List (Int × ByteArray × Bool × ByteArray × ByteArray × ByteArray × Unit)).length) * 80 ≤ 70368744177664))).bind fun _ =>
        proof_Read.l0 k x20 (IntKind.wrap .i64 (x21 + 1)) o2_0 o2_1 o2_2 o2_3 o2_4 o2_5 o2_6 o2_7 o2_8 r7.2.1.1 r7.2.1.2.1 r7.2.1.2.2.1 o5_0 o5_1 o5_2 o5_3 (o5_4 ++ ([(r7.1.1.1, (r7.1.1.2.1, (r7.1.1.2.2.1, (r7.1.1.2.2.2.1, (r7.1.1.2.2.2.2.1, (r7.1.1.2.2.2.2.2.1, ()))))))] : List (Int × ByteArray × Bool × ByteArray × ByteArray × ByteArray × Unit))) o5_5 o5_6 o5_7 o5_8
    else
      proof_Read.j0 k o2_0 o2_1 o2_2 o2_3 o2_4 o2_5 o2_6 o2_7 o2_8 o0_0 o0_1 o0_2 o5_0 o5_1 o5_2 o5_3 o5_4 o5_5 o5_6 o5_7 o5_8
noncomputable def proof_Read.j0 : Nat → ByteArray → Int → Int → Int → (List (Int × ByteArray × Bool × ByteArray × ByteArray × ByteArray × Unit)) → (List ByteArray) → Int → Int → (List ByteArray) → ByteArray → Int → Int → ByteArray → Int → Int → Int → (List (Int × ByteArray × Bool × ByteArray × ByteArray × ByteArray × Unit)) → (List ByteArray) → Int → Int → (List ByteArray) → Option proof_Read.R
  | 0, _, _, _, _, _, _, _, _, _, _, _, _, _, _, _, _, _, _, _, _, _ => none
  | k + 1, o2_0, o2_1, o2_2, o2_3, o2_4, o2_5, o2_6, o2_7, o2_8, o0_0, o0_1, o0_2, o5_0, o5_1, o5_2, o5_3, o5_4, o5_5, o5_6, o5_7, o5_8 =>
    (octet_Reader_Texts.f k 12 32 o0_0 o0_1 o0_2).bind fun r9 =>
    (octet_Reader_Num.f k 65536 r9.2.1.1 r9.2.1.2.1 r9.2.1.2.2.1).bind fun r10 =>
    (octet_Reader_Num.f k 65536 r10.2.1.1 r10.2.1.2.1 r10.2.1.2.2.1).bind fun r11 =>
    (octet_Reader_Texts.f k 16 32 r11.2.1.1 r11.2.1.2.1 r11.2.1.2.2.1).bind fun r12 =>
    (octet_Reader_End.f k r12.2.1.1 r12.2.1.2.1 r12.2.1.2.2.1).bind fun r13 =>
    bif (r13.1.1 : Int) != 0 then
      some (((ByteArray.empty, (0, (0, (0, (([] : List (Int × ByteArray × Bool × ByteArray × ByteArray × ByteArray × Unit)), (([] : List ByteArray), (0, (0, (([] : List ByteArray), ()))))))))), r13.1.1, ()), (()))
    else
      (proof_Right.f k (o5_0, (o5_1, (o5_2, (o5_3, (o5_4, (r9.1.1, (r10.1.1, (r11.1.1, (r12.1.1, ())))))))))).bind fun r14 =>
      bif !r14.1.1 then
        some (((ByteArray.empty, (0, (0, (0, (([] : List (Int × ByteArray × Bool × ByteArray × ByteArray × ByteArray × Unit)), (([] : List ByteArray), (0, (0, (([] : List ByteArray), ()))))))))), 4, ()), (()))
      else
        some (((o5_0, (o5_1, (o5_2, (o5_3, (o5_4, (r9.1.1, (r10.1.1, (r11.1.1, (r12.1.1, ()))))))))), 0, ()), (()))
noncomputable def proof_Read.f : Nat → ByteArray → Option proof_Read.R
  | 0, _ => none
  | k + 1, x0 =>
    (octet_Read.f k x0).bind fun r1 =>
    (octet_Reader_Text.f k 24 r1.2.1.1 r1.2.1.2.1 r1.2.1.2.2.1).bind fun r2 =>
    (octet_Reader_Num.f k 7 r2.2.1.1 r2.2.1.2.1 r2.2.1.2.2.1).bind fun r3 =>
    (octet_Reader_Num.f k 1099511627776 r3.2.1.1 r3.2.1.2.1 r3.2.1.2.2.1).bind fun r4 =>
    (octet_Reader_Num.f k 12 r4.2.1.1 r4.2.1.2.1 r4.2.1.2.2.1).bind fun r5 =>
    (octet_Reader_Num.f k 12 r5.2.1.1 r5.2.1.2.1 r5.2.1.2.2.1).bind fun r6 =>
    proof_Read.l0 k r6.1.1 0 ByteArray.empty 0 0 0 ([] : List (Int × ByteArray × Bool × ByteArray × ByteArray × ByteArray × Unit)) ([] : List ByteArray) 0 0 ([] : List ByteArray) r6.2.1.1 r6.2.1.2.1 r6.2.1.2.2.1 r2.1.1 r3.1.1 r4.1.1 r5.1.1 [] ([] : List ByteArray) 0 0 ([] : List ByteArray)
end
abbrev proof_Read.ini : LSh := ⟨[(0, .val .str)], []⟩
abbrev proof_Read.out : LSh := ⟨[(0, .val (.cons .str (.cons (.int .i64) (.cons (.int .i64) (.cons (.int .i64) (.cons (.sl (.cons (.int .i64) (.cons .str (.cons .bool (.cons .str (.cons .str (.cons .str .nil))))))) (.cons (.sl .str) (.cons (.int .i64) (.cons (.int .i64) (.cons (.sl .str) .nil)))))))))), (1, .val (.int .i64))], []⟩
abbrev proof_Read.l0s : LSh := ⟨[(2, .ptr 2 0), (4, .ptr 1004000000 0), (5, .ptr 5 0), (20, .val (.int .i64)), (21, .val (.int .i64))], [(2, 25, [.val .str, .val (.int .i64), .val (.int .i64), .val (.int .i64), .val (.sl (.cons (.int .i64) (.cons .str (.cons .bool (.cons .str (.cons .str (.cons .str .nil))))))), .val (.sl .str), .val (.int .i64), .val (.int .i64), .val (.sl .str)]), (1004000000, 73, [.val .str, .val (.int .i64), .val (.int .i64)]), (5, 25, [.val .str, .val (.int .i64), .val (.int .i64), .val (.int .i64), .own 3000504 50 (.cons (.int .i64) (.cons .str (.cons .bool (.cons .str (.cons .str (.cons .str .nil)))))), .val (.sl .str), .val (.int .i64), .val (.int .i64), .val (.sl .str)])]⟩
abbrev proof_Read.j0s : LSh := ⟨[(2, .ptr 2 0), (4, .ptr 1004000000 0), (5, .ptr 5 0)], [(2, 25, [.val .str, .val (.int .i64), .val (.int .i64), .val (.int .i64), .val (.sl (.cons (.int .i64) (.cons .str (.cons .bool (.cons .str (.cons .str (.cons .str .nil))))))), .val (.sl .str), .val (.int .i64), .val (.int .i64), .val (.sl .str)]), (1004000000, 73, [.val .str, .val (.int .i64), .val (.int .i64)]), (5, 25, [.val .str, .val (.int .i64), .val (.int .i64), .val (.int .i64), .own 3000504 50 (.cons (.int .i64) (.cons .str (.cons .bool (.cons .str (.cons .str (.cons .str .nil)))))), .val (.sl .str), .val (.int .i64), .val (.int .i64), .val (.sl .str)])]⟩
noncomputable def proof_Read.labF : Nat → Option (LabF proof_Read.out.den)
  | 8 => some ⟨proof_Read.l0s, fun k (d : (Unit × Unit × Unit × Int × Int × Unit) × ((ByteArray × Int × Int × Int × (List (Int × ByteArray × Bool × ByteArray × ByteArray × ByteArray × Unit)) × List ByteArray × Int × Int × List ByteArray × Unit) × (ByteArray × Int × Int × Unit) × (ByteArray × Int × Int × Int × (List (Int × ByteArray × Bool × ByteArray × ByteArray × ByteArray × Unit)) × List ByteArray × Int × Int × List ByteArray × Unit) × Unit)) => (proof_Read.l0 k d.1.2.2.2.1 d.1.2.2.2.2.1 d.2.1.1 d.2.1.2.1 d.2.1.2.2.1 d.2.1.2.2.2.1 d.2.1.2.2.2.2.1 d.2.1.2.2.2.2.2.1 d.2.1.2.2.2.2.2.2.1 d.2.1.2.2.2.2.2.2.2.1 d.2.1.2.2.2.2.2.2.2.2.1 d.2.2.1.1 d.2.2.1.2.1 d.2.2.1.2.2.1 d.2.2.2.1.1 d.2.2.2.1.2.1 d.2.2.2.1.2.2.1 d.2.2.2.1.2.2.2.1 d.2.2.2.1.2.2.2.2.1 d.2.2.2.1.2.2.2.2.2.1 d.2.2.2.1.2.2.2.2.2.2.1 d.2.2.2.1.2.2.2.2.2.2.2.1 d.2.2.2.1.2.2.2.2.2.2.2.2.1 : Option proof_Read.R)⟩
  | 19 => some ⟨proof_Read.j0s, fun k (d : (Unit × Unit × Unit × Unit) × ((ByteArray × Int × Int × Int × (List (Int × ByteArray × Bool × ByteArray × ByteArray × ByteArray × Unit)) × List ByteArray × Int × Int × List ByteArray × Unit) × (ByteArray × Int × Int × Unit) × (ByteArray × Int × Int × Int × (List (Int × ByteArray × Bool × ByteArray × ByteArray × ByteArray × Unit)) × List ByteArray × Int × Int × List ByteArray × Unit) × Unit)) => (proof_Read.j0 k d.2.1.1 d.2.1.2.1 d.2.1.2.2.1 d.2.1.2.2.2.1 d.2.1.2.2.2.2.1 d.2.1.2.2.2.2.2.1 d.2.1.2.2.2.2.2.2.1 d.2.1.2.2.2.2.2.2.2.1 d.2.1.2.2.2.2.2.2.2.2.1 d.2.2.1.1 d.2.2.1.2.1 d.2.2.1.2.2.1 d.2.2.2.1.1 d.2.2.2.1.2.1 d.2.2.2.1.2.2.1 d.2.2.2.1.2.2.2.1 d.2.2.2.1.2.2.2.2.1 d.2.2.2.1.2.2.2.2.2.1 d.2.2.2.1.2.2.2.2.2.2.1 d.2.2.2.1.2.2.2.2.2.2.2.1 d.2.2.2.1.2.2.2.2.2.2.2.2.1 : Option proof_Read.R)⟩
  | _ => none
noncomputable def proof_Read.fd : FnD := ⟨Try.f23, proof_Read.ini, proof_Read.out, 2, [], [], proof_Read.labF, fun k (d : (ByteArray × Unit) × (Unit)) => (proof_Read.f k d.1.1 : Option proof_Read.R)⟩

/-! ### chartularylaw19_list : function 21 -/
abbrev chartularylaw19_list.R := (ByteArray × Unit) × (Unit)
mutual
noncomputable def chartularylaw19_list.l0 : Nat → (List ByteArray) → ByteArray → Int → Option chartularylaw19_list.R
  | 0, _, _, _ => none
  | k + 1, x0, x3, x4 =>
    bif decide ((x4 : Int) < (x0.length : Int)) then
      (rdo x0 x4).bind fun t2 =>
      (octet_Text.f k t2).bind fun r3 =>
      (ck (decide (x3.size + r3.1.1.size ≤ 9223372036854775807))).bind fun _ =>
      chartularylaw19_list.l0 k x0 (x3 ++ r3.1.1) (IntKind.wrap .i64 (x4 + 1))
    else
      some ((x3, ()), (()))
noncomputable def chartularylaw19_list.f : Nat → (List ByteArray) → Option chartularylaw19_list.R
  | 0, _ => none
  | k + 1, x0 =>
    (octet_Num.f k (x0.length : Int)).bind fun r1 =>
    chartularylaw19_list.l0 k x0 r1.1.1 0
end
abbrev chartularylaw19_list.ini : LSh := ⟨[(0, .val (.sl .str))], []⟩
abbrev chartularylaw19_list.out : LSh := ⟨[(0, .val .str)], []⟩
abbrev chartularylaw19_list.l0s : LSh := ⟨[(0, .val (.sl .str)), (3, .val .str), (4, .val (.int .i64))], []⟩
noncomputable def chartularylaw19_list.labF : Nat → Option (LabF chartularylaw19_list.out.den)
  | 6 => some ⟨chartularylaw19_list.l0s, fun k (d : (List ByteArray × ByteArray × Int × Unit) × (Unit)) => (chartularylaw19_list.l0 k d.1.1 d.1.2.1 d.1.2.2.1 : Option chartularylaw19_list.R)⟩
  | _ => none
noncomputable def chartularylaw19_list.fd : FnD := ⟨Try.f21, chartularylaw19_list.ini, chartularylaw19_list.out, 1, [], [], chartularylaw19_list.labF, fun k (d : (List ByteArray × Unit) × (Unit)) => (chartularylaw19_list.f k d.1.1 : Option chartularylaw19_list.R)⟩

/-! ### chartularylaw19_bytes : function 24 -/
abbrev chartularylaw19_bytes.R := (ByteArray × Unit) × (Unit)
mutual
noncomputable def chartularylaw19_bytes.l0 : Nat → ByteArray → Int → ByteArray → Int → Int → Int → (List (Int × ByteArray × Bool × ByteArray × ByteArray × ByteArray × Unit)) → (List ByteArray) → Int → Int → (List ByteArray) → Option chartularylaw19_bytes.R
  | 0, _, _, _, _, _, _, _, _, _, _, _ => none
  | k + 1, x3, x4, o1_0, o1_1, o1_2, o1_3, o1_4, o1_5, o1_6, o1_7, o1_8 =>
    bif decide ((x4 : Int) < (o1_4.length : Int)) then
      (rdo o1_4 x4).bind fun t6 =>
      (octet_Num.f k t6.1).bind fun r7 =>
      (ck (decide (x3.size + r7.1.1.size ≤ 9223372036854775807))).bind fun _ =>
      (octet_Text.f k t6.2.1).bind fun r8 =>
      (ck (decide ((x3 ++ r7.1.1).size + r8.1.1.size ≤ 9223372036854775807))).bind fun _ =>
      bif t6.2.2.1 then
        (ck (decide (((x3 ++ r7.1.1) ++ r8.1.1).size + (⟨#[1]⟩ : ByteArray).size ≤ 9223372036854775807))).bind fun _ =>
        (octet_Text.f k t6.2.2.2.2.2.1).bind fun r9 =>
        (ck (decide ((((x3 ++ r7.1.1) ++ r8.1.1) ++ (⟨#[1]⟩ : ByteArray)).size + r9.1.1.size ≤ 9223372036854775807))).bind fun _ =>
        chartularylaw19_bytes.l0 k ((((x3 ++ r7.1.1) ++ r8.1.1) ++ (⟨#[1]⟩ : ByteArray)) ++ r9.1.1) (IntKind.wrap .i64 (x4 + 1)) o1_0 o1_1 o1_2 o1_3 o1_4 o1_5 o1_6 o1_7 o1_8
      else
        (ck (decide (((x3 ++ r7.1.1) ++ r8.1.1).size + (⟨#[0]⟩ : ByteArray).size ≤ 9223372036854775807))).bind fun _ =>
        (octet_Text.f k t6.2.2.2.1).bind fun r10 =>
        (ck (decide ((((x3 ++ r7.1.1) ++ r8.1.1) ++ (⟨#[0]⟩ : ByteArray)).size + r10.1.1.size ≤ 9223372036854775807))).bind fun _ =>
        (octet_Text.f k t6.2.2.2.2.1).bind fun r11 =>
        (ck (decide (((((x3 ++ r7.1.1) ++ r8.1.1) ++ (⟨#[0]⟩ : ByteArray)) ++ r10.1.1).size + r11.1.1.size ≤ 9223372036854775807))).bind fun _ =>
        chartularylaw19_bytes.l0 k (((((x3 ++ r7.1.1) ++ r8.1.1) ++ (⟨#[0]⟩ : ByteArray)) ++ r10.1.1) ++ r11.1.1) (IntKind.wrap .i64 (x4 + 1)) o1_0 o1_1 o1_2 o1_3 o1_4 o1_5 o1_6 o1_7 o1_8
    else
      (chartularylaw19_list.f k o1_5).bind fun r12 =>
      (ck (decide (x3.size + r12.1.1.size ≤ 9223372036854775807))).bind fun _ =>
      (octet_Num.f k o1_6).bind fun r13 =>
      (ck (decide ((x3 ++ r12.1.1).size + r13.1.1.size ≤ 9223372036854775807))).bind fun _ =>
      (octet_Num.f k o1_7).bind fun r14 =>
      (ck (decide (((x3 ++ r12.1.1) ++ r13.1.1).size + r14.1.1.size ≤ 9223372036854775807))).bind fun _ =>
      (chartularylaw19_list.f k o1_8).bind fun r15 =>
      (ck (decide ((((x3 ++ r12.1.1) ++ r13.1.1) ++ r14.1.1).size + r15.1.1.size ≤ 9223372036854775807))).bind fun _ =>
      some (((((x3 ++ r12.1.1) ++ r13.1.1) ++ r14.1.1) ++ r15.1.1, ()), (()))
noncomputable def chartularylaw19_bytes.f : Nat → (ByteArray × Int × Int × Int × List (Int × ByteArray × Bool × ByteArray × ByteArray × ByteArray × Unit) × List ByteArray × Int × Int × List ByteArray × Unit) → Option chartularylaw19_bytes.R
  | 0, _ => none
  | k + 1, x0 =>
    (octet_Text.f k x0.1).bind fun r1 =>
    (octet_Num.f k x0.2.1).bind fun r2 =>
    (ck (decide (r1.1.1.size + r2.1.1.size ≤ 9223372036854775807))).bind fun _ =>
    (octet_Num.f k x0.2.2.1).bind fun r3 =>
    (ck (decide ((r1.1.1 ++ r2.1.1).size + r3.1.1.size ≤ 9223372036854775807))).bind fun _ =>
    (octet_Num.f k x0.2.2.2.1).bind fun r4 =>
    (ck (decide (((r1.1.1 ++ r2.1.1) ++ r3.1.1).size + r4.1.1.size ≤ 9223372036854775807))).bind fun _ =>
    (octet_Num.f k (x0.2.2.2.2.1.length : Int)).bind fun r5 =>
    (ck (decide ((((r1.1.1 ++ r2.1.1) ++ r3.1.1) ++ r4.1.1).size + r5.1.1.size ≤ 9223372036854775807))).bind fun _ =>
    chartularylaw19_bytes.l0 k ((((r1.1.1 ++ r2.1.1) ++ r3.1.1) ++ r4.1.1) ++ r5.1.1) 0 x0.1 x0.2.1 x0.2.2.1 x0.2.2.2.1 x0.2.2.2.2.1 x0.2.2.2.2.2.1 x0.2.2.2.2.2.2.1 x0.2.2.2.2.2.2.2.1 x0.2.2.2.2.2.2.2.2.1
end
abbrev chartularylaw19_bytes.ini : LSh := ⟨[(0, .val (.cons .str (.cons (.int .i64) (.cons (.int .i64) (.cons (.int .i64) (.cons (.sl (.cons (.int .i64) (.cons .str (.cons .bool (.cons .str (.cons .str (.cons .str .nil))))))) (.cons (.sl .str) (.cons (.int .i64) (.cons (.int .i64) (.cons (.sl .str) .nil))))))))))], []⟩
abbrev chartularylaw19_bytes.out : LSh := ⟨[(0, .val .str)], []⟩
abbrev chartularylaw19_bytes.l0s : LSh := ⟨[(1, .ptr 1 0), (3, .val .str), (4, .val (.int .i64))], [(1, 25, [.val .str, .val (.int .i64), .val (.int .i64), .val (.int .i64), .val (.sl (.cons (.int .i64) (.cons .str (.cons .bool (.cons .str (.cons .str (.cons .str .nil))))))), .val (.sl .str), .val (.int .i64), .val (.int .i64), .val (.sl .str)])]⟩
noncomputable def chartularylaw19_bytes.labF : Nat → Option (LabF chartularylaw19_bytes.out.den)
  | 6 => some ⟨chartularylaw19_bytes.l0s, fun k (d : (Unit × ByteArray × Int × Unit) × ((ByteArray × Int × Int × Int × (List (Int × ByteArray × Bool × ByteArray × ByteArray × ByteArray × Unit)) × List ByteArray × Int × Int × List ByteArray × Unit) × Unit)) => (chartularylaw19_bytes.l0 k d.1.2.1 d.1.2.2.1 d.2.1.1 d.2.1.2.1 d.2.1.2.2.1 d.2.1.2.2.2.1 d.2.1.2.2.2.2.1 d.2.1.2.2.2.2.2.1 d.2.1.2.2.2.2.2.2.1 d.2.1.2.2.2.2.2.2.2.1 d.2.1.2.2.2.2.2.2.2.2.1 : Option chartularylaw19_bytes.R)⟩
  | _ => none
noncomputable def chartularylaw19_bytes.fd : FnD := ⟨Try.f24, chartularylaw19_bytes.ini, chartularylaw19_bytes.out, 1, [], [], chartularylaw19_bytes.labF, fun k (d : ((ByteArray × Int × Int × Int × List (Int × ByteArray × Bool × ByteArray × ByteArray × ByteArray × Unit) × List ByteArray × Int × Int × List ByteArray × Unit) × Unit) × (Unit)) => (chartularylaw19_bytes.f k d.1.1 : Option chartularylaw19_bytes.R)⟩

/-! ### chartularylaw19_ProofBytes : function 7 -/
abbrev chartularylaw19_ProofBytes.R := (Bool × Unit) × (Unit)
noncomputable def chartularylaw19_ProofBytes.f : Nat → (ByteArray × Int × Int × Int × List (Int × ByteArray × Bool × ByteArray × ByteArray × ByteArray × Unit) × List ByteArray × Int × Int × List ByteArray × Unit) → Option chartularylaw19_ProofBytes.R
  | 0, _ => none
  | k + 1, x0 =>
    (chartularylaw19_Few.f k (x0.1, (x0.2.1, (x0.2.2.1, (x0.2.2.2.1, (x0.2.2.2.2.1, (x0.2.2.2.2.2.1, (x0.2.2.2.2.2.2.1, (x0.2.2.2.2.2.2.2.1, (x0.2.2.2.2.2.2.2.2.1, ())))))))))).bind fun r1 =>
    (proof_Bytes.f k (r1.1.1.1, (r1.1.1.2.1, (r1.1.1.2.2.1, (r1.1.1.2.2.2.1, (r1.1.1.2.2.2.2.1, (r1.1.1.2.2.2.2.2.1, (r1.1.1.2.2.2.2.2.2.1, (r1.1.1.2.2.2.2.2.2.2.1, (r1.1.1.2.2.2.2.2.2.2.2.1, ())))))))))).bind fun r2 =>
    (proof_Right.f k (r1.1.1.1, (r1.1.1.2.1, (r1.1.1.2.2.1, (r1.1.1.2.2.2.1, (r1.1.1.2.2.2.2.1, (r1.1.1.2.2.2.2.2.1, (r1.1.1.2.2.2.2.2.2.1, (r1.1.1.2.2.2.2.2.2.2.1, (r1.1.1.2.2.2.2.2.2.2.2.1, ())))))))))).bind fun r3 =>
    (chartularylaw19_right.f k (r1.1.1.1, (r1.1.1.2.1, (r1.1.1.2.2.1, (r1.1.1.2.2.2.1, (r1.1.1.2.2.2.2.1, (r1.1.1.2.2.2.2.2.1, (r1.1.1.2.2.2.2.2.2.1, (r1.1.1.2.2.2.2.2.2.2.1, (r1.1.1.2.2.2.2.2.2.2.2.1, ())))))))))).bind fun r4 =>
    bif !(r3.1.1 == r4.1.1) then
      some ((false, ()), (()))
    else
      (chartularylaw19_right.f k (r1.1.1.1, (r1.1.1.2.1, (r1.1.1.2.2.1, (r1.1.1.2.2.2.1, (r1.1.1.2.2.2.2.1, (r1.1.1.2.2.2.2.2.1, (r1.1.1.2.2.2.2.2.2.1, (r1.1.1.2.2.2.2.2.2.2.1, (r1.1.1.2.2.2.2.2.2.2.2.1, ())))))))))).bind fun r5 =>
      bif !r5.1.1 then
        bif r2.1.1.toList == (⟨#[]⟩ : ByteArray).toList then
          (chartularylaw19_awake.f k).bind fun r6 =>
          some ((r6.1.1, ()), (()))
        else
          some ((false, ()), (()))
      else
        (proof_Read.f k r2.1.1).bind fun r7 =>
        (chartularylaw19_bytes.f k (r1.1.1.1, (r1.1.1.2.1, (r1.1.1.2.2.1, (r1.1.1.2.2.2.1, (r1.1.1.2.2.2.2.1, (r1.1.1.2.2.2.2.2.1, (r1.1.1.2.2.2.2.2.2.1, (r1.1.1.2.2.2.2.2.2.2.1, (r1.1.1.2.2.2.2.2.2.2.2.1, ())))))))))).bind fun r8 =>
        bif r2.1.1.toList == r8.1.1.toList then
          bif (r7.1.2.1 : Int) == 0 then
            (chartularylaw19_same.f k (r7.1.1.1, (r7.1.1.2.1, (r7.1.1.2.2.1, (r7.1.1.2.2.2.1, (r7.1.1.2.2.2.2.1, (r7.1.1.2.2.2.2.2.1, (r7.1.1.2.2.2.2.2.2.1, (r7.1.1.2.2.2.2.2.2.2.1, (r7.1.1.2.2.2.2.2.2.2.2.1, ()))))))))) (r1.1.1.1, (r1.1.1.2.1, (r1.1.1.2.2.1, (r1.1.1.2.2.2.1, (r1.1.1.2.2.2.2.1, (r1.1.1.2.2.2.2.2.1, (r1.1.1.2.2.2.2.2.2.1, (r1.1.1.2.2.2.2.2.2.2.1, (r1.1.1.2.2.2.2.2.2.2.2.1, ())))))))))).bind fun r9 =>
            bif r9.1.1 then
              (chartularylaw19_awake.f k).bind fun r10 =>
              some ((r10.1.1, ()), (()))
            else
              some ((false, ()), (()))
          else
            some ((false, ()), (()))
        else
          some ((false, ()), (()))
abbrev chartularylaw19_ProofBytes.ini : LSh := ⟨[(0, .val (.cons .str (.cons (.int .i64) (.cons (.int .i64) (.cons (.int .i64) (.cons (.sl (.cons (.int .i64) (.cons .str (.cons .bool (.cons .str (.cons .str (.cons .str .nil))))))) (.cons (.sl .str) (.cons (.int .i64) (.cons (.int .i64) (.cons (.sl .str) .nil))))))))))], []⟩
abbrev chartularylaw19_ProofBytes.out : LSh := ⟨[(0, .val .bool)], []⟩
noncomputable def chartularylaw19_ProofBytes.labF : Nat → Option (LabF chartularylaw19_ProofBytes.out.den)
  | _ => none
noncomputable def chartularylaw19_ProofBytes.fd : FnD := ⟨Try.f7, chartularylaw19_ProofBytes.ini, chartularylaw19_ProofBytes.out, 1, [], [], chartularylaw19_ProofBytes.labF, fun k (d : ((ByteArray × Int × Int × Int × List (Int × ByteArray × Bool × ByteArray × ByteArray × ByteArray × Unit) × List ByteArray × Int × Int × List ByteArray × Unit) × Unit) × (Unit)) => (chartularylaw19_ProofBytes.f k d.1.1 : Option chartularylaw19_ProofBytes.R)⟩

noncomputable def Γ (k : Nat) : Gam := [(13, [chartularylaw19_cut.fd.sp k]), (14, [chartularylaw19_texts.fd.sp k]), (8, [chartularylaw19_Few.fd.sp k]), (16, [chartularylaw19_sums.fd.sp k]), (48, [paper_sign.fd.sp k]), (42, [paper_word.fd.sp k]), (26, [paper_IsID.fd.sp k]), (27, [paper_IsName.fd.sp k]), (9, [chartularylaw19_right.fd.sp k]), (33, [proof_sums.fd.sp k]), (17, [proof_RightGrowth.fd.sp k]), (19, [octet_Num.fd.sp k]), (20, [octet_Text.fd.sp k]), (28, [octet_Writer_Text.fd.sp k]), (29, [octet_Writer_Num.fd.sp k]), (31, [octet_Writer_Texts.fd.sp k]), (32, [octet_Writer_All.fd.sp k]), (15, [proof_GrowthBytes.fd.sp k]), (10, [chartularylaw19_awake.fd.sp k]), (41, [proof_rightItem.fd.sp k]), (25, [proof_Right.fd.sp k]), (43, [octet_Writer_Flag.fd.sp k]), (30, [proof_item.fd.sp k]), (11, [proof_Bytes.fd.sp k]), (22, [chartularylaw19_sameList.fd.sp k]), (12, [chartularylaw19_same.fd.sp k]), (3, [chartularylaw19_ProofApart.fd.sp k]), (34, [octet_Read.fd.sp k]), (40, [octet_Reader_Err.fd.sp k]), (45, [octet_Reader_Fail.fd.sp k]), (44, [octet_Reader_Raw.fd.sp k]), (35, [octet_Reader_Num.fd.sp k]), (36, [octet_Reader_Text.fd.sp k]), (37, [octet_Reader_Texts.fd.sp k]), (46, [octet_Reader_Left.fd.sp k]), (38, [octet_Reader_End.fd.sp k]), (47, [octet_Reader_Flag.fd.sp k]), (39, [proof_readItem.fd.sp k]), (23, [proof_Read.fd.sp k]), (21, [chartularylaw19_list.fd.sp k]), (24, [chartularylaw19_bytes.fd.sp k]), (7, [chartularylaw19_ProofBytes.fd.sp k])]
end Go.Proofs.Ytfegehfdbcnepaa.E
