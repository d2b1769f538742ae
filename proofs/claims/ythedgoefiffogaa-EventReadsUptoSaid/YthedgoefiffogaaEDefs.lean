import Derived.Test.YthedgoefiffogaaEVal
import Derived.Test.YthedgoefiffogaaProg
namespace Go.Proofs.Ythedgoefiffogaa.E
open Go Go.Proofs.Ythedgoefiffogaa.Eng Go.Proofs
set_option linter.unusedVariables false
set_option maxRecDepth 100000
def tt : TT := [
  (3, ⟨1, 8, false, (.int .i64), [(.int .i64 0)], (.int .i64), false⟩),
  (4, ⟨1, 1, false, .bool, [(.bool false)], .bool, false⟩),
  (5, ⟨1, 1, false, (.int .u8), [(.int .u8 0)], (.int .u8), false⟩),
  (9, ⟨1, 16, false, .str, [(.str ByteArray.empty)], .str, false⟩),
  (22, ⟨1, 24, false, (.sl (.cons .str (.cons .str (.cons .str (.cons .bool .nil))))), [.nils], (.slice 60), false⟩),
  (23, ⟨1, 24, false, (.sl .str), [.nils], (.slice 9), false⟩),
  (25, ⟨7, 96, true, (.cons .str (.cons (.int .i64) (.cons (.int .i64) (.cons (.int .i64) (.cons (.sl (.cons .str (.cons .str (.cons .str (.cons .bool .nil))))) (.cons .bool (.cons (.sl .str) .nil))))))), [(.str ByteArray.empty), (.int .i64 0), (.int .i64 0), (.int .i64 0), .nils, (.bool false), .nils], (.struct [(0, 9, 1), (1, 3, 1), (2, 3, 1), (3, 3, 1), (4, 22, 1), (5, 4, 1), (6, 23, 1)]), false⟩),
  (27, ⟨2, 24, true, (.cons (.int .i64) (.cons .str .nil)), [(.int .i64 0), (.str ByteArray.empty)], (.struct [(0, 3, 1), (1, 9, 1)]), true⟩),
  (29, ⟨14, 168, true, (.cons (.int .i64) (.cons (.cons .str (.cons (.int .i64) (.cons (.int .i64) (.cons (.int .i64) (.cons (.sl (.cons .str (.cons .str (.cons .str (.cons .bool .nil))))) (.cons .bool (.cons (.sl .str) .nil))))))) (.cons (.int .i64) (.cons (.int .i64) (.cons .str (.cons (.cons (.int .i64) (.cons .str .nil)) (.cons (.int .i64) .nil))))))), [(.int .i64 0), (.str ByteArray.empty), (.int .i64 0), (.int .i64 0), (.int .i64 0), .nils, (.bool false), .nils, (.int .i64 0), (.int .i64 0), (.str ByteArray.empty), (.int .i64 0), (.str ByteArray.empty), (.int .i64 0)], (.struct [(0, 3, 1), (1, 25, 7), (8, 3, 1), (9, 3, 1), (10, 9, 1), (11, 27, 2), (13, 3, 1)]), false⟩),
  (35, ⟨1, 8, false, (.int .i64), [(.int .i64 0)], (.int .i64), false⟩),
  (43, ⟨2, 24, true, (.cons .str (.cons .bool .nil)), [(.str ByteArray.empty), (.bool false)], (.struct [(0, 9, 1), (1, 4, 1)]), true⟩),
  (52, ⟨1, 8, false, .nil, [.nilp], (.ptr 65), false⟩),
  (60, ⟨4, 56, true, (.cons .str (.cons .str (.cons .str (.cons .bool .nil)))), [(.str ByteArray.empty), (.str ByteArray.empty), (.str ByteArray.empty), (.bool false)], (.struct [(0, 9, 1), (1, 9, 1), (2, 9, 1), (3, 4, 1)]), true⟩),
  (65, ⟨3, 32, true, (.cons .str (.cons (.int .i64) (.cons (.int .i64) .nil))), [(.str ByteArray.empty), (.int .i64 0), (.int .i64 0)], (.struct [(0, 9, 1), (1, 3, 1), (2, 35, 1)]), true⟩),
  (67, ⟨1, 24, false, (.sl (.int .u8)), [.nils], (.slice 5), false⟩)]
/-! ### chartularylaw14_cut : function 17 -/
abbrev chartularylaw14_cut.R := (ByteArray × Unit) × (Unit)
noncomputable def chartularylaw14_cut.f : Nat → ByteArray → Option chartularylaw14_cut.R
  | 0, _ => none
  | k + 1, x0 =>
    bif decide (((x0.size : Int) : Int) > 300) then
      (ck (decide (0 ≤ 0) && decide (0 ≤ 300) && decide (300 ≤ (x0.size : Int)))).bind fun _ =>
      some ((x0.extract (0 : Int).toNat (300 : Int).toNat, ()), (()))
    else
      some ((x0, ()), (()))
abbrev chartularylaw14_cut.ini : LSh := ⟨[(0, .val .str)], []⟩
abbrev chartularylaw14_cut.out : LSh := ⟨[(0, .val .str)], []⟩
noncomputable def chartularylaw14_cut.labF : Nat → Option (LabF chartularylaw14_cut.out.den)
  | _ => none
noncomputable def chartularylaw14_cut.fd : FnD := ⟨Try.f17, chartularylaw14_cut.ini, chartularylaw14_cut.out, 1, [], [], chartularylaw14_cut.labF, fun k (d : (ByteArray × Unit) × (Unit)) => (chartularylaw14_cut.f k d.1.1 : Option chartularylaw14_cut.R)⟩

/-! ### chartularylaw14_FewEntry : function 16 -/
abbrev chartularylaw14_FewEntry.R := ((ByteArray × Int × Int × Int × List (ByteArray × ByteArray × ByteArray × Bool × Unit) × Bool × List ByteArray × Unit) × Unit) × (Unit)
mutual
noncomputable def chartularylaw14_FewEntry.l0 : Nat → Int → ByteArray → Int → Int → Int → (List (ByteArray × ByteArray × ByteArray × Bool × Unit)) → Bool → (List ByteArray) → ByteArray → Int → Int → Int → (List (ByteArray × ByteArray × ByteArray × Bool × Unit)) → Bool → (List ByteArray) → ByteArray → Int → Int → Int → (List (ByteArray × ByteArray × ByteArray × Bool × Unit)) → Bool → (List ByteArray) → Option chartularylaw14_FewEntry.R
  | 0, _, _, _, _, _, _, _, _, _, _, _, _, _, _, _, _, _, _, _, _, _, _ => none
  | k + 1, x4, o1_0, o1_1, o1_2, o1_3, o1_4, o1_5, o1_6, o2_0, o2_1, o2_2, o2_3, o2_4, o2_5, o2_6, o3_0, o3_1, o3_2, o3_3, o3_4, o3_5, o3_6 =>
    bif decide ((x4 : Int) < (o1_4.length : Int)) then
      bif decide ((x4 : Int) < 20) then
        (rdo o1_4 x4).bind fun t2 =>
        (chartularylaw14_cut.f k t2.1).bind fun r3 =>
        (chartularylaw14_cut.f k t2.2.1).bind fun r4 =>
        (chartularylaw14_cut.f k t2.2.2.1).bind fun r5 =>
        (ck (decide ((o3_4.length + ([(r3.1.1, (r4.1.1, (r5.1.1, (t2.2.2.2.1, ()))))] : List (ByteArray × ByteArray × ByteArray × Bool × Unit)).length) * 56 ≤ 70368744177664))).bind fun _ =>
        chartularylaw14_FewEntry.l0 k (IntKind.wrap .i64 (x4 + 1)) o1_0 o1_1 o1_2 o1_3 o1_4 o1_5 o1_6 o2_0 o2_1 o2_2 o2_3 o2_4 o2_5 o2_6 o3_0 o3_1 o3_2 o3_3 (o3_4 ++ ([(r3.1.1, (r4.1.1, (r5.1.1, (t2.2.2.2.1, ()))))] : List (ByteArray × ByteArray × ByteArray × Bool × Unit))) o3_5 o3_6
      else
        chartularylaw14_FewEntry.l1 k 0 o1_0 o1_1 o1_2 o1_3 o1_4 o1_5 o1_6 o2_0 o2_1 o2_2 o2_3 o2_4 o2_5 o2_6 o3_0 o3_1 o3_2 o3_3 o3_4 o3_5 o3_6
    else
      chartularylaw14_FewEntry.l1 k 0 o1_0 o1_1 o1_2 o1_3 o1_4 o1_5 o1_6 o2_0 o2_1 o2_2 o2_3 o2_4 o2_5 o2_6 o3_0 o3_1 o3_2 o3_3 o3_4 o3_5 o3_6
noncomputable def chartularylaw14_FewEntry.l1 : Nat → Int → ByteArray → Int → Int → Int → (List (ByteArray × ByteArray × ByteArray × Bool × Unit)) → Bool → (List ByteArray) → ByteArray → Int → Int → Int → (List (ByteArray × ByteArray × ByteArray × Bool × Unit)) → Bool → (List ByteArray) → ByteArray → Int → Int → Int → (List (ByteArray × ByteArray × ByteArray × Bool × Unit)) → Bool → (List ByteArray) → Option chartularylaw14_FewEntry.R
  | 0, _, _, _, _, _, _, _, _, _, _, _, _, _, _, _, _, _, _, _, _, _, _ => none
  | k + 1, x6, o1_0, o1_1, o1_2, o1_3, o1_4, o1_5, o1_6, o2_0, o2_1, o2_2, o2_3, o2_4, o2_5, o2_6, o3_0, o3_1, o3_2, o3_3, o3_4, o3_5, o3_6 =>
    bif decide ((x6 : Int) < (o1_6.length : Int)) then
      bif decide ((x6 : Int) < 20) then
        (rdo o1_6 x6).bind fun t6 =>
        (chartularylaw14_cut.f k t6).bind fun r7 =>
        (ck (decide ((o3_6.length + ([r7.1.1] : List ByteArray).length) * 16 ≤ 70368744177664))).bind fun _ =>
        chartularylaw14_FewEntry.l1 k (IntKind.wrap .i64 (x6 + 1)) o1_0 o1_1 o1_2 o1_3 o1_4 o1_5 o1_6 o2_0 o2_1 o2_2 o2_3 o2_4 o2_5 o2_6 o3_0 o3_1 o3_2 o3_3 o3_4 o3_5 (o3_6 ++ ([r7.1.1] : List ByteArray))
      else
        some (((o3_0, (o3_1, (o3_2, (o3_3, (o3_4, (o3_5, (o3_6, ()))))))), ()), (()))
    else
      some (((o3_0, (o3_1, (o3_2, (o3_3, (o3_4, (o3_5, (o3_6, ()))))))), ()), (()))
noncomputable def chartularylaw14_FewEntry.f : Nat → (ByteArray × Int × Int × Int × List (ByteArray × ByteArray × ByteArray × Bool × Unit) × Bool × List ByteArray × Unit) → Option chartularylaw14_FewEntry.R
  | 0, _ => none
  | k + 1, x0 =>
    (chartularylaw14_cut.f k x0.1).bind fun r1 =>
    chartularylaw14_FewEntry.l0 k 0 x0.1 x0.2.1 x0.2.2.1 x0.2.2.2.1 x0.2.2.2.2.1 x0.2.2.2.2.2.1 x0.2.2.2.2.2.2.1 ByteArray.empty 0 0 0 ([] : List (ByteArray × ByteArray × ByteArray × Bool × Unit)) false ([] : List ByteArray) r1.1.1 x0.2.1 x0.2.2.1 x0.2.2.2.1 [] x0.2.2.2.2.2.1 []
end
abbrev chartularylaw14_FewEntry.ini : LSh := ⟨[(0, .val (.cons .str (.cons (.int .i64) (.cons (.int .i64) (.cons (.int .i64) (.cons (.sl (.cons .str (.cons .str (.cons .str (.cons .bool .nil))))) (.cons .bool (.cons (.sl .str) .nil))))))))], []⟩
abbrev chartularylaw14_FewEntry.out : LSh := ⟨[(0, .val (.cons .str (.cons (.int .i64) (.cons (.int .i64) (.cons (.int .i64) (.cons (.sl (.cons .str (.cons .str (.cons .str (.cons .bool .nil))))) (.cons .bool (.cons (.sl .str) .nil))))))))], []⟩
abbrev chartularylaw14_FewEntry.l0s : LSh := ⟨[(1, .ptr 1 0), (2, .ptr 2 0), (3, .ptr 3 0), (4, .val (.int .i64))], [(1, 25, [.val .str, .val (.int .i64), .val (.int .i64), .val (.int .i64), .val (.sl (.cons .str (.cons .str (.cons .str (.cons .bool .nil))))), .val .bool, .val (.sl .str)]), (2, 25, [.val .str, .val (.int .i64), .val (.int .i64), .val (.int .i64), .val (.sl (.cons .str (.cons .str (.cons .str (.cons .bool .nil))))), .val .bool, .val (.sl .str)]), (3, 25, [.val .str, .val (.int .i64), .val (.int .i64), .val (.int .i64), .own 3000304 60 (.cons .str (.cons .str (.cons .str (.cons .bool .nil)))), .val .bool, .own 3000306 9 .str])]⟩
abbrev chartularylaw14_FewEntry.l1s : LSh := ⟨[(1, .ptr 1 0), (2, .ptr 2 0), (3, .ptr 3 0), (6, .val (.int .i64))], [(1, 25, [.val .str, .val (.int .i64), .val (.int .i64), .val (.int .i64), .val (.sl (.cons .str (.cons .str (.cons .str (.cons .bool .nil))))), .val .bool, .val (.sl .str)]), (2, 25, [.val .str, .val (.int .i64), .val (.int .i64), .val (.int .i64), .val (.sl (.cons .str (.cons .str (.cons .str (.cons .bool .nil))))), .val .bool, .val (.sl .str)]), (3, 25, [.val .str, .val (.int .i64), .val (.int .i64), .val (.int .i64), .own 3000304 60 (.cons .str (.cons .str (.cons .str (.cons .bool .nil)))), .val .bool, .own 3000306 9 .str])]⟩
noncomputable def chartularylaw14_FewEntry.labF : Nat → Option (LabF chartularylaw14_FewEntry.out.den)
  | 6 => some ⟨chartularylaw14_FewEntry.l0s, fun k (d : (Unit × Unit × Unit × Int × Unit) × ((ByteArray × Int × Int × Int × (List (ByteArray × ByteArray × ByteArray × Bool × Unit)) × Bool × List ByteArray × Unit) × (ByteArray × Int × Int × Int × (List (ByteArray × ByteArray × ByteArray × Bool × Unit)) × Bool × List ByteArray × Unit) × (ByteArray × Int × Int × Int × (List (ByteArray × ByteArray × ByteArray × Bool × Unit)) × Bool × List ByteArray × Unit) × Unit)) => (chartularylaw14_FewEntry.l0 k d.1.2.2.2.1 d.2.1.1 d.2.1.2.1 d.2.1.2.2.1 d.2.1.2.2.2.1 d.2.1.2.2.2.2.1 d.2.1.2.2.2.2.2.1 d.2.1.2.2.2.2.2.2.1 d.2.2.1.1 d.2.2.1.2.1 d.2.2.1.2.2.1 d.2.2.1.2.2.2.1 d.2.2.1.2.2.2.2.1 d.2.2.1.2.2.2.2.2.1 d.2.2.1.2.2.2.2.2.2.1 d.2.2.2.1.1 d.2.2.2.1.2.1 d.2.2.2.1.2.2.1 d.2.2.2.1.2.2.2.1 d.2.2.2.1.2.2.2.2.1 d.2.2.2.1.2.2.2.2.2.1 d.2.2.2.1.2.2.2.2.2.2.1 : Option chartularylaw14_FewEntry.R)⟩
  | 16 => some ⟨chartularylaw14_FewEntry.l1s, fun k (d : (Unit × Unit × Unit × Int × Unit) × ((ByteArray × Int × Int × Int × (List (ByteArray × ByteArray × ByteArray × Bool × Unit)) × Bool × List ByteArray × Unit) × (ByteArray × Int × Int × Int × (List (ByteArray × ByteArray × ByteArray × Bool × Unit)) × Bool × List ByteArray × Unit) × (ByteArray × Int × Int × Int × (List (ByteArray × ByteArray × ByteArray × Bool × Unit)) × Bool × List ByteArray × Unit) × Unit)) => (chartularylaw14_FewEntry.l1 k d.1.2.2.2.1 d.2.1.1 d.2.1.2.1 d.2.1.2.2.1 d.2.1.2.2.2.1 d.2.1.2.2.2.2.1 d.2.1.2.2.2.2.2.1 d.2.1.2.2.2.2.2.2.1 d.2.2.1.1 d.2.2.1.2.1 d.2.2.1.2.2.1 d.2.2.1.2.2.2.1 d.2.2.1.2.2.2.2.1 d.2.2.1.2.2.2.2.2.1 d.2.2.1.2.2.2.2.2.2.1 d.2.2.2.1.1 d.2.2.2.1.2.1 d.2.2.2.1.2.2.1 d.2.2.2.1.2.2.2.1 d.2.2.2.1.2.2.2.2.1 d.2.2.2.1.2.2.2.2.2.1 d.2.2.2.1.2.2.2.2.2.2.1 : Option chartularylaw14_FewEntry.R)⟩
  | _ => none
noncomputable def chartularylaw14_FewEntry.fd : FnD := ⟨Try.f16, chartularylaw14_FewEntry.ini, chartularylaw14_FewEntry.out, 1, [], [], chartularylaw14_FewEntry.labF, fun k (d : ((ByteArray × Int × Int × Int × List (ByteArray × ByteArray × ByteArray × Bool × Unit) × Bool × List ByteArray × Unit) × Unit) × (Unit)) => (chartularylaw14_FewEntry.f k d.1.1 : Option chartularylaw14_FewEntry.R)⟩

/-! ### chartularylaw14_Few : function 7 -/
abbrev chartularylaw14_Few.R := ((Int × (ByteArray × Int × Int × Int × List (ByteArray × ByteArray × ByteArray × Bool × Unit) × Bool × List ByteArray × Unit) × Int × Int × ByteArray × (Int × ByteArray × Unit) × Int × Unit) × Unit) × (Unit)
noncomputable def chartularylaw14_Few.f : Nat → (Int × (ByteArray × Int × Int × Int × List (ByteArray × ByteArray × ByteArray × Bool × Unit) × Bool × List ByteArray × Unit) × Int × Int × ByteArray × (Int × ByteArray × Unit) × Int × Unit) → Option chartularylaw14_Few.R
  | 0, _ => none
  | k + 1, x0 =>
    (chartularylaw14_FewEntry.f k (x0.2.1.1, (x0.2.1.2.1, (x0.2.1.2.2.1, (x0.2.1.2.2.2.1, (x0.2.1.2.2.2.2.1, (x0.2.1.2.2.2.2.2.1, (x0.2.1.2.2.2.2.2.2.1, ())))))))).bind fun r1 =>
    (chartularylaw14_cut.f k x0.2.2.2.2.1).bind fun r2 =>
    (chartularylaw14_cut.f k x0.2.2.2.2.2.1.2.1).bind fun r3 =>
    some (((x0.1, ((r1.1.1.1, (r1.1.1.2.1, (r1.1.1.2.2.1, (r1.1.1.2.2.2.1, (r1.1.1.2.2.2.2.1, (r1.1.1.2.2.2.2.2.1, (r1.1.1.2.2.2.2.2.2.1, ()))))))), (x0.2.2.1, (x0.2.2.2.1, (r2.1.1, ((x0.2.2.2.2.2.1.1, (r3.1.1, ())), (x0.2.2.2.2.2.2.1, ()))))))), ()), (()))
abbrev chartularylaw14_Few.ini : LSh := ⟨[(0, .val (.cons (.int .i64) (.cons (.cons .str (.cons (.int .i64) (.cons (.int .i64) (.cons (.int .i64) (.cons (.sl (.cons .str (.cons .str (.cons .str (.cons .bool .nil))))) (.cons .bool (.cons (.sl .str) .nil))))))) (.cons (.int .i64) (.cons (.int .i64) (.cons .str (.cons (.cons (.int .i64) (.cons .str .nil)) (.cons (.int .i64) .nil))))))))], []⟩
abbrev chartularylaw14_Few.out : LSh := ⟨[(0, .val (.cons (.int .i64) (.cons (.cons .str (.cons (.int .i64) (.cons (.int .i64) (.cons (.int .i64) (.cons (.sl (.cons .str (.cons .str (.cons .str (.cons .bool .nil))))) (.cons .bool (.cons (.sl .str) .nil))))))) (.cons (.int .i64) (.cons (.int .i64) (.cons .str (.cons (.cons (.int .i64) (.cons .str .nil)) (.cons (.int .i64) .nil))))))))], []⟩
noncomputable def chartularylaw14_Few.labF : Nat → Option (LabF chartularylaw14_Few.out.den)
  | _ => none
noncomputable def chartularylaw14_Few.fd : FnD := ⟨Try.f7, chartularylaw14_Few.ini, chartularylaw14_Few.out, 1, [], [], chartularylaw14_Few.labF, fun k (d : ((Int × (ByteArray × Int × Int × Int × List (ByteArray × ByteArray × ByteArray × Bool × Unit) × Bool × List ByteArray × Unit) × Int × Int × ByteArray × (Int × ByteArray × Unit) × Int × Unit) × Unit) × (Unit)) => (chartularylaw14_Few.f k d.1.1 : Option chartularylaw14_Few.R)⟩

/-! ### paper_sign : function 52 -/
abbrev paper_sign.R := (Bool × Unit) × (Unit)
noncomputable def paper_sign.f : Nat → Int → Option paper_sign.R
  | 0, _ => none
  | k + 1, x0 =>
    bif decide ((x0 : Int) ≥ 97) then
      bif decide ((x0 : Int) ≤ 122) then
        some ((true, ()), (()))
      else
      bif decide ((x0 : Int) ≥ 65) then
        bif decide ((x0 : Int) ≤ 90) then
          some ((true, ()), (()))
        else
        bif decide ((x0 : Int) ≥ 48) then
          bif decide ((x0 : Int) ≤ 57) then
            some ((true, ()), (()))
          else
          bif (x0 : Int) == 45 then
            some ((true, ()), (()))
          else
          bif (x0 : Int) == 95 then
            some ((true, ()), (()))
          else
            some (((x0 : Int) == 46, ()), (()))
        else
        bif (x0 : Int) == 45 then
          some ((true, ()), (()))
        else
        bif (x0 : Int) == 95 then
          some ((true, ()), (()))
        else
          some (((x0 : Int) == 46, ()), (()))
      else
      bif decide ((x0 : Int) ≥ 48) then
        bif decide ((x0 : Int) ≤ 57) then
          some ((true, ()), (()))
        else
        bif (x0 : Int) == 45 then
          some ((true, ()), (()))
        else
        bif (x0 : Int) == 95 then
          some ((true, ()), (()))
        else
          some (((x0 : Int) == 46, ()), (()))
      else
      bif (x0 : Int) == 45 then
        some ((true, ()), (()))
      else
      bif (x0 : Int) == 95 then
        some ((true, ()), (()))
      else
        some (((x0 : Int) == 46, ()), (()))
    else
    bif decide ((x0 : Int) ≥ 65) then
      bif decide ((x0 : Int) ≤ 90) then
        some ((true, ()), (()))
      else
      bif decide ((x0 : Int) ≥ 48) then
        bif decide ((x0 : Int) ≤ 57) then
          some ((true, ()), (()))
        else
        bif (x0 : Int) == 45 then
          some ((true, ()), (()))
        else
        bif (x0 : Int) == 95 then
          some ((true, ()), (()))
        else
          some (((x0 : Int) == 46, ()), (()))
      else
      bif (x0 : Int) == 45 then
        some ((true, ()), (()))
      else
      bif (x0 : Int) == 95 then
        some ((true, ()), (()))
      else
        some (((x0 : Int) == 46, ()), (()))
    else
    bif decide ((x0 : Int) ≥ 48) then
      bif decide ((x0 : Int) ≤ 57) then
        some ((true, ()), (()))
      else
      bif (x0 : Int) == 45 then
        some ((true, ()), (()))
      else
      bif (x0 : Int) == 95 then
        some ((true, ()), (()))
      else
        some (((x0 : Int) == 46, ()), (()))
    else
    bif (x0 : Int) == 45 then
      some ((true, ()), (()))
    else
    bif (x0 : Int) == 95 then
      some ((true, ()), (()))
    else
      some (((x0 : Int) == 46, ()), (()))
abbrev paper_sign.ini : LSh := ⟨[(0, .val (.int .u8))], []⟩
abbrev paper_sign.out : LSh := ⟨[(0, .val .bool)], []⟩
noncomputable def paper_sign.labF : Nat → Option (LabF paper_sign.out.den)
  | _ => none
noncomputable def paper_sign.fd : FnD := ⟨Try.f52, paper_sign.ini, paper_sign.out, 1, [], [], paper_sign.labF, fun k (d : (Int × Unit) × (Unit)) => (paper_sign.f k d.1.1 : Option paper_sign.R)⟩

/-! ### paper_word : function 51 -/
abbrev paper_word.R := (Bool × Unit) × (Unit)
mutual
noncomputable def paper_word.j0 : Nat → ByteArray → Option paper_word.R
  | 0, _ => none
  | k + 1, x0 =>
    paper_word.l0 k x0 (x0.size : Int) 0
noncomputable def paper_word.l0 : Nat → ByteArray → Int → Int → Option paper_word.R
  | 0, _, _, _ => none
  | k + 1, x0, x15, x16 =>
    bif decide ((x16 : Int) < x15) then
      (bto x0 x16).bind fun t1 =>
      (paper_sign.f k t1).bind fun r2 =>
      bif !r2.1.1 then
        some ((false, ()), (()))
      else
        paper_word.l0 k x0 x15 (IntKind.wrap .i64 (x16 + 1))
    else
      some ((true, ()), (()))
noncomputable def paper_word.f : Nat → ByteArray → Int → Option paper_word.R
  | 0, _, _ => none
  | k + 1, x0, x1 =>
    bif x0.toList == (⟨#[]⟩ : ByteArray).toList then
      some ((false, ()), (()))
    else
    bif decide (((x0.size : Int) : Int) > x1) then
      some ((false, ()), (()))
    else
      paper_word.j0 k x0
end
abbrev paper_word.ini : LSh := ⟨[(0, .val .str), (1, .val (.int .i64))], []⟩
abbrev paper_word.out : LSh := ⟨[(0, .val .bool)], []⟩
abbrev paper_word.j0s : LSh := ⟨[(0, .val .str)], []⟩
abbrev paper_word.l0s : LSh := ⟨[(0, .val .str), (15, .val (.int .i64)), (16, .val (.int .i64))], []⟩
noncomputable def paper_word.labF : Nat → Option (LabF paper_word.out.den)
  | 7 => some ⟨paper_word.j0s, fun k (d : (ByteArray × Unit) × (Unit)) => (paper_word.j0 k d.1.1 : Option paper_word.R)⟩
  | 8 => some ⟨paper_word.l0s, fun k (d : (ByteArray × Int × Int × Unit) × (Unit)) => (paper_word.l0 k d.1.1 d.1.2.1 d.1.2.2.1 : Option paper_word.R)⟩
  | _ => none
noncomputable def paper_word.fd : FnD := ⟨Try.f51, paper_word.ini, paper_word.out, 1, [], [], paper_word.labF, fun k (d : (ByteArray × Int × Unit) × (Unit)) => (paper_word.f k d.1.1 d.1.2.1 : Option paper_word.R)⟩

/-! ### paper_IsID : function 48 -/
abbrev paper_IsID.R := (Bool × Unit) × (Unit)
noncomputable def paper_IsID.f : Nat → ByteArray → Option paper_IsID.R
  | 0, _ => none
  | k + 1, x0 =>
    (paper_word.f k x0 24).bind fun r1 =>
    some ((r1.1.1, ()), (()))
abbrev paper_IsID.ini : LSh := ⟨[(0, .val .str)], []⟩
abbrev paper_IsID.out : LSh := ⟨[(0, .val .bool)], []⟩
noncomputable def paper_IsID.labF : Nat → Option (LabF paper_IsID.out.den)
  | _ => none
noncomputable def paper_IsID.fd : FnD := ⟨Try.f48, paper_IsID.ini, paper_IsID.out, 1, [], [], paper_IsID.labF, fun k (d : (ByteArray × Unit) × (Unit)) => (paper_IsID.f k d.1.1 : Option paper_IsID.R)⟩

/-! ### paper_IsName : function 35 -/
abbrev paper_IsName.R := (Bool × Unit) × (Unit)
noncomputable def paper_IsName.f : Nat → ByteArray → Option paper_IsName.R
  | 0, _ => none
  | k + 1, x0 =>
    (paper_word.f k x0 16).bind fun r1 =>
    some ((r1.1.1, ()), (()))
abbrev paper_IsName.ini : LSh := ⟨[(0, .val .str)], []⟩
abbrev paper_IsName.out : LSh := ⟨[(0, .val .bool)], []⟩
noncomputable def paper_IsName.labF : Nat → Option (LabF paper_IsName.out.den)
  | _ => none
noncomputable def paper_IsName.fd : FnD := ⟨Try.f35, paper_IsName.ini, paper_IsName.out, 1, [], [], paper_IsName.labF, fun k (d : (ByteArray × Unit) × (Unit)) => (paper_IsName.f k d.1.1 : Option paper_IsName.R)⟩

/-! ### event_rising : function 49 -/
abbrev event_rising.R := (Bool × Unit) × (Unit)
mutual
noncomputable def event_rising.l0 : Nat → (List ByteArray) → (List ByteArray) → Int → Int → Option event_rising.R
  | 0, _, _, _, _ => none
  | k + 1, x0, x5, x6, x7 =>
    bif decide ((x7 : Int) < x6) then
      (rdo x5 x7).bind fun t1 =>
      (paper_IsName.f k t1).bind fun r2 =>
      bif !r2.1.1 then
        some ((false, ()), (()))
      else
      bif decide ((x7 : Int) > 0) then
        (rdo x0 (IntKind.wrap .i64 (x7 - 1))).bind fun t3 =>
        bif !(Op.bytesLess t3.toList t1.toList) then
          some ((false, ()), (()))
        else
          event_rising.l0 k x0 x5 x6 (IntKind.wrap .i64 (x7 + 1))
      else
        event_rising.l0 k x0 x5 x6 (IntKind.wrap .i64 (x7 + 1))
    else
      some ((true, ()), (()))
noncomputable def event_rising.f : Nat → (List ByteArray) → Option event_rising.R
  | 0, _ => none
  | k + 1, x0 =>
    event_rising.l0 k x0 x0 (x0.length : Int) 0
end
abbrev event_rising.ini : LSh := ⟨[(0, .val (.sl .str))], []⟩
abbrev event_rising.out : LSh := ⟨[(0, .val .bool)], []⟩
abbrev event_rising.l0s : LSh := ⟨[(0, .val (.sl .str)), (5, .val (.sl .str)), (6, .val (.int .i64)), (7, .val (.int .i64))], []⟩
noncomputable def event_rising.labF : Nat → Option (LabF event_rising.out.den)
  | 4 => some ⟨event_rising.l0s, fun k (d : (List ByteArray × List ByteArray × Int × Int × Unit) × (Unit)) => (event_rising.l0 k d.1.1 d.1.2.1 d.1.2.2.1 d.1.2.2.2.1 : Option event_rising.R)⟩
  | _ => none
noncomputable def event_rising.fd : FnD := ⟨Try.f49, event_rising.ini, event_rising.out, 1, [], [], event_rising.labF, fun k (d : (List ByteArray × Unit) × (Unit)) => (event_rising.f k d.1.1 : Option event_rising.R)⟩

/-! ### event_rightSlip : function 50 -/
abbrev event_rightSlip.R := (Bool × Unit) × (Unit)
mutual
noncomputable def event_rightSlip.j0 : Nat → Bool → ByteArray → ByteArray → ByteArray → Bool → Option event_rightSlip.R
  | 0, _, _, _, _, _ => none
  | k + 1, x3, o1_0, o1_1, o1_2, o1_3 =>
    bif x3 then
      some ((false, ()), (()))
    else
    bif o1_3 then
      some ((o1_2.toList == (⟨#[]⟩ : ByteArray).toList, ()), (()))
    else
    bif decide (((o1_2.size : Int) : Int) ≥ 16) then
      some ((decide (((o1_2.size : Int) : Int) ≤ 224), ()), (()))
    else
      some ((false, ()), (()))
noncomputable def event_rightSlip.f : Nat → (ByteArray × ByteArray × ByteArray × Bool × Unit) → Option event_rightSlip.R
  | 0, _ => none
  | k + 1, x0 =>
    (paper_IsName.f k x0.1).bind fun r1 =>
    bif !r1.1.1 then
      event_rightSlip.j0 k true x0.1 x0.2.1 x0.2.2.1 x0.2.2.2.1
    else
      event_rightSlip.j0 k (((x0.2.1.size : Int) : Int) != 32) x0.1 x0.2.1 x0.2.2.1 x0.2.2.2.1
end
abbrev event_rightSlip.ini : LSh := ⟨[(0, .val (.cons .str (.cons .str (.cons .str (.cons .bool .nil)))))], []⟩
abbrev event_rightSlip.out : LSh := ⟨[(0, .val .bool)], []⟩
abbrev event_rightSlip.j0s : LSh := ⟨[(1, .ptr 1 0), (3, .val .bool)], [(1, 60, [.val .str, .val .str, .val .str, .val .bool])]⟩
noncomputable def event_rightSlip.labF : Nat → Option (LabF event_rightSlip.out.den)
  | 5 => some ⟨event_rightSlip.j0s, fun k (d : (Unit × Bool × Unit) × ((ByteArray × ByteArray × ByteArray × Bool × Unit) × Unit)) => (event_rightSlip.j0 k d.1.2.1 d.2.1.1 d.2.1.2.1 d.2.1.2.2.1 d.2.1.2.2.2.1 : Option event_rightSlip.R)⟩
  | _ => none
noncomputable def event_rightSlip.fd : FnD := ⟨Try.f50, event_rightSlip.ini, event_rightSlip.out, 1, [], [], event_rightSlip.labF, fun k (d : ((ByteArray × ByteArray × ByteArray × Bool × Unit) × Unit) × (Unit)) => (event_rightSlip.f k d.1.1 : Option event_rightSlip.R)⟩

/-! ### event_RightEntry : function 34 -/
abbrev event_RightEntry.R := (Bool × Unit) × (Unit)
mutual
noncomputable def event_RightEntry.j0 : Nat → ByteArray → Int → Int → Int → (List (ByteArray × ByteArray × ByteArray × Bool × Unit)) → Bool → (List ByteArray) → Option event_RightEntry.R
  | 0, _, _, _, _, _, _, _ => none
  | k + 1, o1_0, o1_1, o1_2, o1_3, o1_4, o1_5, o1_6 =>
    event_RightEntry.l0 k [] o1_4 (o1_4.length : Int) 0 o1_0 o1_1 o1_2 o1_3 o1_4 o1_5 o1_6
noncomputable def event_RightEntry.l0 : Nat → (List ByteArray) → (List (ByteArray × ByteArray × ByteArray × Bool × Unit)) → Int → Int → ByteArray → Int → Int → Int → (List (ByteArray × ByteArray × ByteArray × Bool × Unit)) → Bool → (List ByteArray) → Option event_RightEntry.R
  | 0, _, _, _, _, _, _, _, _, _, _, _ => none
  | k + 1, x3, x63, x64, x65, o1_0, o1_1, o1_2, o1_3, o1_4, o1_5, o1_6 =>
    bif decide ((x65 : Int) < x64) then
      (rdo x63 x65).bind fun t3 =>
      (event_rightSlip.f k (t3.1, (t3.2.1, (t3.2.2.1, (t3.2.2.2.1, ()))))).bind fun r4 =>
      bif !r4.1.1 then
        some ((false, ()), (()))
      else
      bif o1_5 then
        bif !t3.2.2.2.1 then
          some ((false, ()), (()))
        else
          (ck (decide ((x3.length + ([t3.1] : List ByteArray).length) * 16 ≤ 70368744177664))).bind fun _ =>
          event_RightEntry.l0 k (x3 ++ ([t3.1] : List ByteArray)) x63 x64 (IntKind.wrap .i64 (x65 + 1)) o1_0 o1_1 o1_2 o1_3 o1_4 o1_5 o1_6
      else
        (ck (decide ((x3.length + ([t3.1] : List ByteArray).length) * 16 ≤ 70368744177664))).bind fun _ =>
        event_RightEntry.l0 k (x3 ++ ([t3.1] : List ByteArray)) x63 x64 (IntKind.wrap .i64 (x65 + 1)) o1_0 o1_1 o1_2 o1_3 o1_4 o1_5 o1_6
    else
      (event_rising.f k x3).bind fun r5 =>
      some ((r5.1.1, ()), (()))
noncomputable def event_RightEntry.f : Nat → (ByteArray × Int × Int × Int × List (ByteArray × ByteArray × ByteArray × Bool × Unit) × Bool × List ByteArray × Unit) → Option event_RightEntry.R
  | 0, _ => none
  | k + 1, x0 =>
    (paper_IsID.f k x0.1).bind fun r1 =>
    bif !r1.1.1 then
      some ((false, ()), (()))
    else
    bif decide ((x0.2.1 : Int) < 0) then
      some ((false, ()), (()))
    else
    bif decide ((x0.2.1 : Int) ≥ 8) then
      some ((false, ()), (()))
    else
    bif decide ((x0.2.2.1 : Int) < 0) then
      some ((false, ()), (()))
    else
    bif decide ((x0.2.2.1 : Int) > 1099511627776) then
      some ((false, ()), (()))
    else
    bif decide ((x0.2.2.2.1 : Int) < 0) then
      some ((false, ()), (()))
    else
    bif decide ((x0.2.2.2.1 : Int) ≥ 64) then
      some ((false, ()), (()))
    else
    bif decide (((x0.2.2.2.2.1.length : Int) : Int) < 1) then
      some ((false, ()), (()))
    else
    bif decide (((x0.2.2.2.2.1.length : Int) : Int) > 12) then
      some ((false, ()), (()))
    else
    bif decide (((x0.2.2.2.2.2.2.1.length : Int) : Int) > 4) then
      some ((false, ()), (()))
    else
      (event_rising.f k x0.2.2.2.2.2.2.1).bind fun r2 =>
      bif !r2.1.1 then
        some ((false, ()), (()))
      else
        event_RightEntry.j0 k x0.1 x0.2.1 x0.2.2.1 x0.2.2.2.1 x0.2.2.2.2.1 x0.2.2.2.2.2.1 x0.2.2.2.2.2.2.1
end
abbrev event_RightEntry.ini : LSh := ⟨[(0, .val (.cons .str (.cons (.int .i64) (.cons (.int .i64) (.cons (.int .i64) (.cons (.sl (.cons .str (.cons .str (.cons .str (.cons .bool .nil))))) (.cons .bool (.cons (.sl .str) .nil))))))))], []⟩
abbrev event_RightEntry.out : LSh := ⟨[(0, .val .bool)], []⟩
abbrev event_RightEntry.j0s : LSh := ⟨[(1, .ptr 1 0)], [(1, 25, [.val .str, .val (.int .i64), .val (.int .i64), .val (.int .i64), .val (.sl (.cons .str (.cons .str (.cons .str (.cons .bool .nil))))), .val .bool, .val (.sl .str)])]⟩
abbrev event_RightEntry.l0s : LSh := ⟨[(1, .ptr 1 0), (3, .own 2000003 9 .str), (63, .val (.sl (.cons .str (.cons .str (.cons .str (.cons .bool .nil)))))), (64, .val (.int .i64)), (65, .val (.int .i64))], [(1, 25, [.val .str, .val (.int .i64), .val (.int .i64), .val (.int .i64), .val (.sl (.cons .str (.cons .str (.cons .str (.cons .bool .nil))))), .val .bool, .val (.sl .str)])]⟩
noncomputable def event_RightEntry.labF : Nat → Option (LabF event_RightEntry.out.den)
  | 11 => some ⟨event_RightEntry.j0s, fun k (d : (Unit × Unit) × ((ByteArray × Int × Int × Int × (List (ByteArray × ByteArray × ByteArray × Bool × Unit)) × Bool × List ByteArray × Unit) × Unit)) => (event_RightEntry.j0 k d.2.1.1 d.2.1.2.1 d.2.1.2.2.1 d.2.1.2.2.2.1 d.2.1.2.2.2.2.1 d.2.1.2.2.2.2.2.1 d.2.1.2.2.2.2.2.2.1 : Option event_RightEntry.R)⟩
  | 14 => some ⟨event_RightEntry.l0s, fun k (d : (Unit × List ByteArray × (List (ByteArray × ByteArray × ByteArray × Bool × Unit)) × Int × Int × Unit) × ((ByteArray × Int × Int × Int × (List (ByteArray × ByteArray × ByteArray × Bool × Unit)) × Bool × List ByteArray × Unit) × Unit)) => (event_RightEntry.l0 k d.1.2.1 d.1.2.2.1 d.1.2.2.2.1 d.1.2.2.2.2.1 d.2.1.1 d.2.1.2.1 d.2.1.2.2.1 d.2.1.2.2.2.1 d.2.1.2.2.2.2.1 d.2.1.2.2.2.2.2.1 d.2.1.2.2.2.2.2.2.1 : Option event_RightEntry.R)⟩
  | _ => none
noncomputable def event_RightEntry.fd : FnD := ⟨Try.f34, event_RightEntry.ini, event_RightEntry.out, 1, [], [], event_RightEntry.labF, fun k (d : ((ByteArray × Int × Int × Int × List (ByteArray × ByteArray × ByteArray × Bool × Unit) × Bool × List ByteArray × Unit) × Unit) × (Unit)) => (event_RightEntry.f k d.1.1 : Option event_RightEntry.R)⟩

/-! ### event_Right : function 18 -/
abbrev event_Right.R := (Bool × Unit) × (Unit)
mutual
noncomputable def event_Right.j0 : Nat → Bool → Int → Bool → Int → (ByteArray × Int × Int × Int × List (ByteArray × ByteArray × ByteArray × Bool × Unit) × Bool × List ByteArray × Unit) → Int → Int → ByteArray → (Int × ByteArray × Unit) → Int → Option event_Right.R
  | 0, _, _, _, _, _, _, _, _, _, _ => none
  | k + 1, x3, x13, x35, o1_0, o1_1, o1_2, o1_3, o1_4, o1_5, o1_6 =>
    bif x35 then
      bif x3 then
        (paper_IsName.f k o1_4).bind fun r3 =>
        some ((r3.1.1, ()), (()))
      else
        some ((false, ()), (()))
    else
    bif (x13 : Int) == 6 then
      bif decide ((o1_5.1 : Int) ≥ 0) then
        bif decide ((o1_5.1 : Int) ≤ 64) then
          some ((((o1_5.2.1.size : Int) : Int) == 32, ()), (()))
        else
          some ((false, ()), (()))
      else
        some ((false, ()), (()))
    else
    bif (x13 : Int) == 7 then
      bif decide ((o1_6 : Int) ≥ 0) then
        some ((decide ((o1_6 : Int) ≤ 1099511627776), ()), (()))
      else
        some ((false, ()), (()))
    else
      some ((false, ()), (()))
noncomputable def event_Right.f : Nat → (Int × (ByteArray × Int × Int × Int × List (ByteArray × ByteArray × ByteArray × Bool × Unit) × Bool × List ByteArray × Unit) × Int × Int × ByteArray × (Int × ByteArray × Unit) × Int × Unit) → Option event_Right.R
  | 0, _ => none
  | k + 1, x0 =>
    bif decide ((x0.2.2.1 : Int) ≥ 0) then
      bif (x0.1 : Int) == 1 then
        (event_RightEntry.f k (x0.2.1.1, (x0.2.1.2.1, (x0.2.1.2.2.1, (x0.2.1.2.2.2.1, (x0.2.1.2.2.2.2.1, (x0.2.1.2.2.2.2.2.1, (x0.2.1.2.2.2.2.2.2.1, ())))))))).bind fun r1 =>
        some ((r1.1.1, ()), (()))
      else
      bif (x0.1 : Int) == 2 then
        bif decide ((x0.2.2.1 : Int) < 64) then
          bif decide ((x0.2.2.2.1 : Int) ≥ 0) then
            some ((decide ((x0.2.2.2.1 : Int) < 12), ()), (()))
          else
            some ((false, ()), (()))
        else
          some ((false, ()), (()))
      else
      bif (x0.1 : Int) == 3 then
        some ((decide ((x0.2.2.1 : Int) < 64), ()), (()))
      else
      bif (x0.1 : Int) == 4 then
        event_Right.j0 k (decide ((x0.2.2.1 : Int) < 64)) x0.1 ((x0.1 : Int) == 4) x0.1 (x0.2.1.1, (x0.2.1.2.1, (x0.2.1.2.2.1, (x0.2.1.2.2.2.1, (x0.2.1.2.2.2.2.1, (x0.2.1.2.2.2.2.2.1, (x0.2.1.2.2.2.2.2.2.1, ()))))))) x0.2.2.1 x0.2.2.2.1 x0.2.2.2.2.1 (x0.2.2.2.2.2.1.1, (x0.2.2.2.2.2.1.2.1, ())) x0.2.2.2.2.2.2.1
      else
        event_Right.j0 k (decide ((x0.2.2.1 : Int) < 64)) x0.1 ((x0.1 : Int) == 5) x0.1 (x0.2.1.1, (x0.2.1.2.1, (x0.2.1.2.2.1, (x0.2.1.2.2.2.1, (x0.2.1.2.2.2.2.1, (x0.2.1.2.2.2.2.2.1, (x0.2.1.2.2.2.2.2.2.1, ()))))))) x0.2.2.1 x0.2.2.2.1 x0.2.2.2.2.1 (x0.2.2.2.2.2.1.1, (x0.2.2.2.2.2.1.2.1, ())) x0.2.2.2.2.2.2.1
    else
    bif (x0.1 : Int) == 1 then
      (event_RightEntry.f k (x0.2.1.1, (x0.2.1.2.1, (x0.2.1.2.2.1, (x0.2.1.2.2.2.1, (x0.2.1.2.2.2.2.1, (x0.2.1.2.2.2.2.2.1, (x0.2.1.2.2.2.2.2.2.1, ())))))))).bind fun r2 =>
      some ((r2.1.1, ()), (()))
    else
    bif (x0.1 : Int) == 2 then
      some ((false, ()), (()))
    else
    bif (x0.1 : Int) == 3 then
      some ((false, ()), (()))
    else
    bif (x0.1 : Int) == 4 then
      event_Right.j0 k false x0.1 ((x0.1 : Int) == 4) x0.1 (x0.2.1.1, (x0.2.1.2.1, (x0.2.1.2.2.1, (x0.2.1.2.2.2.1, (x0.2.1.2.2.2.2.1, (x0.2.1.2.2.2.2.2.1, (x0.2.1.2.2.2.2.2.2.1, ()))))))) x0.2.2.1 x0.2.2.2.1 x0.2.2.2.2.1 (x0.2.2.2.2.2.1.1, (x0.2.2.2.2.2.1.2.1, ())) x0.2.2.2.2.2.2.1
    else
      event_Right.j0 k false x0.1 ((x0.1 : Int) == 5) x0.1 (x0.2.1.1, (x0.2.1.2.1, (x0.2.1.2.2.1, (x0.2.1.2.2.2.1, (x0.2.1.2.2.2.2.1, (x0.2.1.2.2.2.2.2.1, (x0.2.1.2.2.2.2.2.2.1, ()))))))) x0.2.2.1 x0.2.2.2.1 x0.2.2.2.2.1 (x0.2.2.2.2.2.1.1, (x0.2.2.2.2.2.1.2.1, ())) x0.2.2.2.2.2.2.1
end
abbrev event_Right.ini : LSh := ⟨[(0, .val (.cons (.int .i64) (.cons (.cons .str (.cons (.int .i64) (.cons (.int .i64) (.cons (.int .i64) (.cons (.sl (.cons .str (.cons .str (.cons .str (.cons .bool .nil))))) (.cons .bool (.cons (.sl .str) .nil))))))) (.cons (.int .i64) (.cons (.int .i64) (.cons .str (.cons (.cons (.int .i64) (.cons .str .nil)) (.cons (.int .i64) .nil))))))))], []⟩
abbrev event_Right.out : LSh := ⟨[(0, .val .bool)], []⟩
abbrev event_Right.j0s : LSh := ⟨[(1, .ptr 1 0), (3, .val .bool), (13, .val (.int .i64)), (35, .val .bool)], [(1, 29, [.val (.int .i64), .val (.cons .str (.cons (.int .i64) (.cons (.int .i64) (.cons (.int .i64) (.cons (.sl (.cons .str (.cons .str (.cons .str (.cons .bool .nil))))) (.cons .bool (.cons (.sl .str) .nil))))))), .val (.int .i64), .val (.int .i64), .val .str, .val (.cons (.int .i64) (.cons .str .nil)), .val (.int .i64)])]⟩
noncomputable def event_Right.labF : Nat → Option (LabF event_Right.out.den)
  | 23 => some ⟨event_Right.j0s, fun k (d : (Unit × Bool × Int × Bool × Unit) × ((Int × (ByteArray × Int × Int × Int × List (ByteArray × ByteArray × ByteArray × Bool × Unit) × Bool × List ByteArray × Unit) × Int × Int × ByteArray × (Int × ByteArray × Unit) × Int × Unit) × Unit)) => (event_Right.j0 k d.1.2.1 d.1.2.2.1 d.1.2.2.2.1 d.2.1.1 d.2.1.2.1 d.2.1.2.2.1 d.2.1.2.2.2.1 d.2.1.2.2.2.2.1 d.2.1.2.2.2.2.2.1 d.2.1.2.2.2.2.2.2.1 : Option event_Right.R)⟩
  | _ => none
noncomputable def event_Right.fd : FnD := ⟨Try.f18, event_Right.ini, event_Right.out, 1, [], [], event_Right.labF, fun k (d : ((Int × (ByteArray × Int × Int × Int × List (ByteArray × ByteArray × ByteArray × Bool × Unit) × Bool × List ByteArray × Unit) × Int × Int × ByteArray × (Int × ByteArray × Unit) × Int × Unit) × Unit) × (Unit)) => (event_Right.f k d.1.1 : Option event_Right.R)⟩

/-! ### octet_Num : function 36 -/
abbrev octet_Num.R := (ByteArray × Unit) × (Unit)
mutual
noncomputable def octet_Num.l0 : Nat → Int → ByteArray → Option octet_Num.R
  | 0, _, _ => none
  | k + 1, x0, x3 =>
    bif decide ((x0 : Int) > 0) then
      (ck (decide ((strOf ([IntKind.wrap .u8 x0] : List Int)).size + x3.size ≤ 9223372036854775807))).bind fun _ =>
      (ck (!decide ((8 : Int) < 0))).bind fun _ =>
      octet_Num.l0 k (Int.fdiv x0 (2 ^ (min (8 : Int).toNat (IntKind.bits .i64)))) ((strOf ([IntKind.wrap .u8 x0] : List Int)) ++ x3)
    else
      (ck (decide ((strOf ([IntKind.wrap .u8 (x3.size : Int)] : List Int)).size + x3.size ≤ 9223372036854775807))).bind fun _ =>
      some (((strOf ([IntKind.wrap .u8 (x3.size : Int)] : List Int)) ++ x3, ()), (()))
noncomputable def octet_Num.f : Nat → Int → Option octet_Num.R
  | 0, _ => none
  | k + 1, x0 =>
    bif decide ((x0 : Int) < 0) then
      some (((⟨#[]⟩ : ByteArray), ()), (()))
    else
    bif decide ((x0 : Int) ≥ 72057594037927936) then
      some (((⟨#[]⟩ : ByteArray), ()), (()))
    else
      octet_Num.l0 k x0 (⟨#[]⟩ : ByteArray)
end
abbrev octet_Num.ini : LSh := ⟨[(0, .val (.int .i64))], []⟩
abbrev octet_Num.out : LSh := ⟨[(0, .val .str)], []⟩
abbrev octet_Num.l0s : LSh := ⟨[(0, .val (.int .i64)), (3, .val .str)], []⟩
noncomputable def octet_Num.labF : Nat → Option (LabF octet_Num.out.den)
  | 8 => some ⟨octet_Num.l0s, fun k (d : (Int × ByteArray × Unit) × (Unit)) => (octet_Num.l0 k d.1.1 d.1.2.1 : Option octet_Num.R)⟩
  | _ => none
noncomputable def octet_Num.fd : FnD := ⟨Try.f36, octet_Num.ini, octet_Num.out, 1, [], [], octet_Num.labF, fun k (d : (Int × Unit) × (Unit)) => (octet_Num.f k d.1.1 : Option octet_Num.R)⟩

/-! ### octet_Writer_Num : function 19 -/
abbrev octet_Writer_Num.R := (Unit) × ((ByteArray × Bool × Unit) × Unit)
noncomputable def octet_Writer_Num.f : Nat → Int → ByteArray → Bool → Option octet_Writer_Num.R
  | 0, _, _, _ => none
  | k + 1, x1, o0_0, o0_1 =>
    (octet_Num.f k x1).bind fun r1 =>
    bif o0_1 then
      (ck (decide (o0_0.size + r1.1.1.size ≤ 9223372036854775807))).bind fun _ =>
      some ((()), ((o0_0 ++ r1.1.1, true, ()), ()))
    else
      (ck (decide (o0_0.size + r1.1.1.size ≤ 9223372036854775807))).bind fun _ =>
      some ((()), ((o0_0 ++ r1.1.1, r1.1.1.toList == (⟨#[]⟩ : ByteArray).toList, ()), ()))
abbrev octet_Writer_Num.ini : LSh := ⟨[(0, .ptr 1000000 0), (1, .val (.int .i64))], [(1000000, 43, [.val .str, .val .bool])]⟩
abbrev octet_Writer_Num.out : LSh := ⟨[], [(1000000, 43, [.val .str, .val .bool])]⟩
noncomputable def octet_Writer_Num.labF : Nat → Option (LabF octet_Writer_Num.out.den)
  | _ => none
noncomputable def octet_Writer_Num.fd : FnD := ⟨Try.f19, octet_Writer_Num.ini, octet_Writer_Num.out, 0, [1000000], [], octet_Writer_Num.labF, fun k (d : (Unit × Int × Unit) × ((ByteArray × Bool × Unit) × Unit)) => (octet_Writer_Num.f k d.1.2.1 d.2.1.1 d.2.1.2.1 : Option octet_Writer_Num.R)⟩

/-! ### octet_Text : function 40 -/
abbrev octet_Text.R := (ByteArray × Unit) × (Unit)
noncomputable def octet_Text.f : Nat → ByteArray → Option octet_Text.R
  | 0, _ => none
  | k + 1, x0 =>
    (octet_Num.f k (x0.size : Int)).bind fun r1 =>
    (ck (decide (r1.1.1.size + x0.size ≤ 9223372036854775807))).bind fun _ =>
    some ((r1.1.1 ++ x0, ()), (()))
abbrev octet_Text.ini : LSh := ⟨[(0, .val .str)], []⟩
abbrev octet_Text.out : LSh := ⟨[(0, .val .str)], []⟩
noncomputable def octet_Text.labF : Nat → Option (LabF octet_Text.out.den)
  | _ => none
noncomputable def octet_Text.fd : FnD := ⟨Try.f40, octet_Text.ini, octet_Text.out, 1, [], [], octet_Text.labF, fun k (d : (ByteArray × Unit) × (Unit)) => (octet_Text.f k d.1.1 : Option octet_Text.R)⟩

/-! ### octet_Writer_Text : function 21 -/
abbrev octet_Writer_Text.R := (Unit) × ((ByteArray × Bool × Unit) × Unit)
noncomputable def octet_Writer_Text.f : Nat → ByteArray → ByteArray → Bool → Option octet_Writer_Text.R
  | 0, _, _, _ => none
  | k + 1, x1, o0_0, o0_1 =>
    (octet_Text.f k x1).bind fun r1 =>
    (ck (decide (o0_0.size + r1.1.1.size ≤ 9223372036854775807))).bind fun _ =>
    some ((()), ((o0_0 ++ r1.1.1, o0_1, ()), ()))
abbrev octet_Writer_Text.ini : LSh := ⟨[(0, .ptr 1000000 0), (1, .val .str)], [(1000000, 43, [.val .str, .val .bool])]⟩
abbrev octet_Writer_Text.out : LSh := ⟨[], [(1000000, 43, [.val .str, .val .bool])]⟩
noncomputable def octet_Writer_Text.labF : Nat → Option (LabF octet_Writer_Text.out.den)
  | _ => none
noncomputable def octet_Writer_Text.fd : FnD := ⟨Try.f21, octet_Writer_Text.ini, octet_Writer_Text.out, 0, [1000000], [], octet_Writer_Text.labF, fun k (d : (Unit × ByteArray × Unit) × ((ByteArray × Bool × Unit) × Unit)) => (octet_Writer_Text.f k d.1.2.1 d.2.1.1 d.2.1.2.1 : Option octet_Writer_Text.R)⟩

/-! ### octet_Writer_Flag : function 37 -/
abbrev octet_Writer_Flag.R := (Unit) × ((ByteArray × Bool × Unit) × Unit)
noncomputable def octet_Writer_Flag.f : Nat → Bool → ByteArray → Bool → Option octet_Writer_Flag.R
  | 0, _, _, _ => none
  | k + 1, x1, o0_0, o0_1 =>
    bif x1 then
      (ck (decide (o0_0.size + (⟨#[1]⟩ : ByteArray).size ≤ 9223372036854775807))).bind fun _ =>
      some ((()), ((o0_0 ++ (⟨#[1]⟩ : ByteArray), o0_1, ()), ()))
    else
      (ck (decide (o0_0.size + (⟨#[0]⟩ : ByteArray).size ≤ 9223372036854775807))).bind fun _ =>
      some ((()), ((o0_0 ++ (⟨#[0]⟩ : ByteArray), o0_1, ()), ()))
abbrev octet_Writer_Flag.ini : LSh := ⟨[(0, .ptr 1000000 0), (1, .val .bool)], [(1000000, 43, [.val .str, .val .bool])]⟩
abbrev octet_Writer_Flag.out : LSh := ⟨[], [(1000000, 43, [.val .str, .val .bool])]⟩
noncomputable def octet_Writer_Flag.labF : Nat → Option (LabF octet_Writer_Flag.out.den)
  | _ => none
noncomputable def octet_Writer_Flag.fd : FnD := ⟨Try.f37, octet_Writer_Flag.ini, octet_Writer_Flag.out, 0, [1000000], [], octet_Writer_Flag.labF, fun k (d : (Unit × Bool × Unit) × ((ByteArray × Bool × Unit) × Unit)) => (octet_Writer_Flag.f k d.1.2.1 d.2.1.1 d.2.1.2.1 : Option octet_Writer_Flag.R)⟩

/-! ### octet_Writer_Texts : function 38 -/
abbrev octet_Writer_Texts.R := (Unit) × ((ByteArray × Bool × Unit) × Unit)
mutual
noncomputable def octet_Writer_Texts.l0 : Nat → (List ByteArray) → Int → Int → ByteArray → Bool → Option octet_Writer_Texts.R
  | 0, _, _, _, _, _ => none
  | k + 1, x10, x11, x12, o0_0, o0_1 =>
    bif decide ((x12 : Int) < x11) then
      (rdo x10 x12).bind fun t2 =>
      (octet_Writer_Text.f k t2 o0_0 o0_1).bind fun r3 =>
      octet_Writer_Texts.l0 k x10 x11 (IntKind.wrap .i64 (x12 + 1)) r3.2.1.1 r3.2.1.2.1
    else
      some ((()), ((o0_0, o0_1, ()), ()))
noncomputable def octet_Writer_Texts.f : Nat → (List ByteArray) → ByteArray → Bool → Option octet_Writer_Texts.R
  | 0, _, _, _ => none
  | k + 1, x1, o0_0, o0_1 =>
    (octet_Writer_Num.f k (x1.length : Int) o0_0 o0_1).bind fun r1 =>
    octet_Writer_Texts.l0 k x1 (x1.length : Int) 0 r1.2.1.1 r1.2.1.2.1
end
abbrev octet_Writer_Texts.ini : LSh := ⟨[(0, .ptr 1000000 0), (1, .val (.sl .str))], [(1000000, 43, [.val .str, .val .bool])]⟩
abbrev octet_Writer_Texts.out : LSh := ⟨[], [(1000000, 43, [.val .str, .val .bool])]⟩
abbrev octet_Writer_Texts.l0s : LSh := ⟨[(0, .ptr 1000000 0), (10, .val (.sl .str)), (11, .val (.int .i64)), (12, .val (.int .i64))], [(1000000, 43, [.val .str, .val .bool])]⟩
noncomputable def octet_Writer_Texts.labF : Nat → Option (LabF octet_Writer_Texts.out.den)
  | 4 => some ⟨octet_Writer_Texts.l0s, fun k (d : (Unit × List ByteArray × Int × Int × Unit) × ((ByteArray × Bool × Unit) × Unit)) => (octet_Writer_Texts.l0 k d.1.2.1 d.1.2.2.1 d.1.2.2.2.1 d.2.1.1 d.2.1.2.1 : Option octet_Writer_Texts.R)⟩
  | _ => none
noncomputable def octet_Writer_Texts.fd : FnD := ⟨Try.f38, octet_Writer_Texts.ini, octet_Writer_Texts.out, 0, [1000000], [], octet_Writer_Texts.labF, fun k (d : (Unit × List ByteArray × Unit) × ((ByteArray × Bool × Unit) × Unit)) => (octet_Writer_Texts.f k d.1.2.1 d.2.1.1 d.2.1.2.1 : Option octet_Writer_Texts.R)⟩

/-! ### event_slip : function 39 -/
abbrev event_slip.R := (Unit) × ((ByteArray × Bool × Unit) × Unit)
noncomputable def event_slip.f : Nat → (ByteArray × ByteArray × ByteArray × Bool × Unit) → ByteArray → Bool → Option event_slip.R
  | 0, _, _, _ => none
  | k + 1, x1, o0_0, o0_1 =>
    (octet_Writer_Text.f k x1.1 o0_0 o0_1).bind fun r1 =>
    (octet_Writer_Text.f k x1.2.1 r1.2.1.1 r1.2.1.2.1).bind fun r2 =>
    (octet_Writer_Flag.f k x1.2.2.2.1 r2.2.1.1 r2.2.1.2.1).bind fun r3 =>
    bif !x1.2.2.2.1 then
      (octet_Writer_Text.f k x1.2.2.1 r3.2.1.1 r3.2.1.2.1).bind fun r4 =>
      some ((()), ((r4.2.1.1, r4.2.1.2.1, ()), ()))
    else
      some ((()), ((r3.2.1.1, r3.2.1.2.1, ()), ()))
abbrev event_slip.ini : LSh := ⟨[(0, .ptr 1000000 0), (1, .val (.cons .str (.cons .str (.cons .str (.cons .bool .nil)))))], [(1000000, 43, [.val .str, .val .bool])]⟩
abbrev event_slip.out : LSh := ⟨[], [(1000000, 43, [.val .str, .val .bool])]⟩
noncomputable def event_slip.labF : Nat → Option (LabF event_slip.out.den)
  | _ => none
noncomputable def event_slip.fd : FnD := ⟨Try.f39, event_slip.ini, event_slip.out, 0, [1000000], [], event_slip.labF, fun k (d : (Unit × (ByteArray × ByteArray × ByteArray × Bool × Unit) × Unit) × ((ByteArray × Bool × Unit) × Unit)) => (event_slip.f k d.1.2.1 d.2.1.1 d.2.1.2.1 : Option event_slip.R)⟩

/-! ### event_entry : function 20 -/
abbrev event_entry.R := (Unit) × ((ByteArray × Bool × Unit) × Unit)
mutual
noncomputable def event_entry.l0 : Nat → (List (ByteArray × ByteArray × ByteArray × Bool × Unit)) → Int → Int → ByteArray → Bool → Option event_entry.R
  | 0, _, _, _, _, _ => none
  | k + 1, x36, x37, x38, o0_0, o0_1 =>
    bif decide ((x38 : Int) < x37) then
      (rdo x36 x38).bind fun t8 =>
      (event_slip.f k (t8.1, (t8.2.1, (t8.2.2.1, (t8.2.2.2.1, ())))) o0_0 o0_1).bind fun r9 =>
      event_entry.l0 k x36 x37 (IntKind.wrap .i64 (x38 + 1)) r9.2.1.1 r9.2.1.2.1
    else
      some ((()), ((o0_0, o0_1, ()), ()))
noncomputable def event_entry.f : Nat → (ByteArray × Int × Int × Int × List (ByteArray × ByteArray × ByteArray × Bool × Unit) × Bool × List ByteArray × Unit) → ByteArray → Bool → Option event_entry.R
  | 0, _, _, _ => none
  | k + 1, x1, o0_0, o0_1 =>
    (octet_Writer_Text.f k x1.1 o0_0 o0_1).bind fun r1 =>
    (octet_Writer_Num.f k x1.2.1 r1.2.1.1 r1.2.1.2.1).bind fun r2 =>
    (octet_Writer_Num.f k x1.2.2.1 r2.2.1.1 r2.2.1.2.1).bind fun r3 =>
    (octet_Writer_Num.f k x1.2.2.2.1 r3.2.1.1 r3.2.1.2.1).bind fun r4 =>
    (octet_Writer_Flag.f k x1.2.2.2.2.2.1 r4.2.1.1 r4.2.1.2.1).bind fun r5 =>
    (octet_Writer_Texts.f k x1.2.2.2.2.2.2.1 r5.2.1.1 r5.2.1.2.1).bind fun r6 =>
    (octet_Writer_Num.f k (x1.2.2.2.2.1.length : Int) r6.2.1.1 r6.2.1.2.1).bind fun r7 =>
    event_entry.l0 k x1.2.2.2.2.1 (x1.2.2.2.2.1.length : Int) 0 r7.2.1.1 r7.2.1.2.1
end
abbrev event_entry.ini : LSh := ⟨[(0, .ptr 1000000 0), (1, .val (.cons .str (.cons (.int .i64) (.cons (.int .i64) (.cons (.int .i64) (.cons (.sl (.cons .str (.cons .str (.cons .str (.cons .bool .nil))))) (.cons .bool (.cons (.sl .str) .nil))))))))], [(1000000, 43, [.val .str, .val .bool])]⟩
abbrev event_entry.out : LSh := ⟨[], [(1000000, 43, [.val .str, .val .bool])]⟩
abbrev event_entry.l0s : LSh := ⟨[(0, .ptr 1000000 0), (36, .val (.sl (.cons .str (.cons .str (.cons .str (.cons .bool .nil)))))), (37, .val (.int .i64)), (38, .val (.int .i64))], [(1000000, 43, [.val .str, .val .bool])]⟩
noncomputable def event_entry.labF : Nat → Option (LabF event_entry.out.den)
  | 18 => some ⟨event_entry.l0s, fun k (d : (Unit × (List (ByteArray × ByteArray × ByteArray × Bool × Unit)) × Int × Int × Unit) × ((ByteArray × Bool × Unit) × Unit)) => (event_entry.l0 k d.1.2.1 d.1.2.2.1 d.1.2.2.2.1 d.2.1.1 d.2.1.2.1 : Option event_entry.R)⟩
  | _ => none
noncomputable def event_entry.fd : FnD := ⟨Try.f20, event_entry.ini, event_entry.out, 0, [1000000], [], event_entry.labF, fun k (d : (Unit × (ByteArray × Int × Int × Int × List (ByteArray × ByteArray × ByteArray × Bool × Unit) × Bool × List ByteArray × Unit) × Unit) × ((ByteArray × Bool × Unit) × Unit)) => (event_entry.f k d.1.2.1 d.2.1.1 d.2.1.2.1 : Option event_entry.R)⟩

/-! ### octet_Writer_All : function 22 -/
abbrev octet_Writer_All.R := (ByteArray × Bool × Unit) × (Unit)
noncomputable def octet_Writer_All.f : Nat → ByteArray → Bool → Option octet_Writer_All.R
  | 0, _, _ => none
  | k + 1, o0_0, o0_1 =>
    bif o0_1 then
      some (((⟨#[]⟩ : ByteArray), false, ()), (()))
    else
      some ((o0_0, true, ()), (()))
abbrev octet_Writer_All.ini : LSh := ⟨[(0, .ptr 1000000 0)], [(1000000, 43, [.val .str, .val .bool])]⟩
abbrev octet_Writer_All.out : LSh := ⟨[(0, .val .str), (1, .val .bool)], []⟩
noncomputable def octet_Writer_All.labF : Nat → Option (LabF octet_Writer_All.out.den)
  | _ => none
noncomputable def octet_Writer_All.fd : FnD := ⟨Try.f22, octet_Writer_All.ini, octet_Writer_All.out, 2, [1000000], [1000000], octet_Writer_All.labF, fun k (d : (Unit × Unit) × ((ByteArray × Bool × Unit) × Unit)) => (octet_Writer_All.f k d.2.1.1 d.2.1.2.1 : Option octet_Writer_All.R)⟩

/-! ### event_Bytes : function 8 -/
abbrev event_Bytes.R := (ByteArray × Unit) × (Unit)
mutual
noncomputable def event_Bytes.j1 : Nat → Int → Bool → Int → (ByteArray × Int × Int × Int × List (ByteArray × ByteArray × ByteArray × Bool × Unit) × Bool × List ByteArray × Unit) → Int → Int → ByteArray → (Int × ByteArray × Unit) → Int → ByteArray → Bool → Option event_Bytes.R
  | 0, _, _, _, _, _, _, _, _, _, _, _ => none
  | k + 1, x16, x39, o1_0, o1_1, o1_2, o1_3, o1_4, o1_5, o1_6, o10_0, o10_1 =>
    bif x39 then
      (octet_Writer_Num.f k o1_2 o10_0 o10_1).bind fun r8 =>
      (octet_Writer_Text.f k o1_4 r8.2.1.1 r8.2.1.2.1).bind fun r9 =>
      event_Bytes.j0 k r9.2.1.1 r9.2.1.2.1
    else
    bif (x16 : Int) == 6 then
      (octet_Writer_Num.f k o1_5.1 o10_0 o10_1).bind fun r10 =>
      (octet_Writer_Text.f k o1_5.2.1 r10.2.1.1 r10.2.1.2.1).bind fun r11 =>
      event_Bytes.j0 k r11.2.1.1 r11.2.1.2.1
    else
    bif (x16 : Int) == 7 then
      (octet_Writer_Num.f k o1_6 o10_0 o10_1).bind fun r12 =>
      event_Bytes.j0 k r12.2.1.1 r12.2.1.2.1
    else
      event_Bytes.j0 k o10_0 o10_1
noncomputable def event_Bytes.j0 : Nat → ByteArray → Bool → Option event_Bytes.R
  | 0, _, _ => none
  | k + 1, o10_0, o10_1 =>
    (octet_Writer_All.f k o10_0 o10_1).bind fun r7 =>
    some ((r7.1.1, ()), (()))
noncomputable def event_Bytes.f : Nat → (Int × (ByteArray × Int × Int × Int × List (ByteArray × ByteArray × ByteArray × Bool × Unit) × Bool × List ByteArray × Unit) × Int × Int × ByteArray × (Int × ByteArray × Unit) × Int × Unit) → Option event_Bytes.R
  | 0, _ => none
  | k + 1, x0 =>
    (event_Right.f k (x0.1, ((x0.2.1.1, (x0.2.1.2.1, (x0.2.1.2.2.1, (x0.2.1.2.2.2.1, (x0.2.1.2.2.2.2.1, (x0.2.1.2.2.2.2.2.1, (x0.2.1.2.2.2.2.2.2.1, ()))))))), (x0.2.2.1, (x0.2.2.2.1, (x0.2.2.2.2.1, ((x0.2.2.2.2.2.1.1, (x0.2.2.2.2.2.1.2.1, ())), (x0.2.2.2.2.2.2.1, ())))))))).bind fun r1 =>
    bif !r1.1.1 then
      some (((⟨#[]⟩ : ByteArray), ()), (()))
    else
      (octet_Writer_Num.f k x0.1 ByteArray.empty false).bind fun r2 =>
      bif (x0.1 : Int) == 1 then
        (event_entry.f k (x0.2.1.1, (x0.2.1.2.1, (x0.2.1.2.2.1, (x0.2.1.2.2.2.1, (x0.2.1.2.2.2.2.1, (x0.2.1.2.2.2.2.2.1, (x0.2.1.2.2.2.2.2.2.1, ()))))))) r2.2.1.1 r2.2.1.2.1).bind fun r3 =>
        event_Bytes.j0 k r3.2.1.1 r3.2.1.2.1
      else
      bif (x0.1 : Int) == 2 then
        (octet_Writer_Num.f k x0.2.2.1 r2.2.1.1 r2.2.1.2.1).bind fun r4 =>
        (octet_Writer_Num.f k x0.2.2.2.1 r4.2.1.1 r4.2.1.2.1).bind fun r5 =>
        event_Bytes.j0 k r5.2.1.1 r5.2.1.2.1
      else
      bif (x0.1 : Int) == 3 then
        (octet_Writer_Num.f k x0.2.2.1 r2.2.1.1 r2.2.1.2.1).bind fun r6 =>
        event_Bytes.j0 k r6.2.1.1 r6.2.1.2.1
      else
      bif (x0.1 : Int) == 4 then
        event_Bytes.j1 k x0.1 ((x0.1 : Int) == 4) x0.1 (x0.2.1.1, (x0.2.1.2.1, (x0.2.1.2.2.1, (x0.2.1.2.2.2.1, (x0.2.1.2.2.2.2.1, (x0.2.1.2.2.2.2.2.1, (x0.2.1.2.2.2.2.2.2.1, ()))))))) x0.2.2.1 x0.2.2.2.1 x0.2.2.2.2.1 (x0.2.2.2.2.2.1.1, (x0.2.2.2.2.2.1.2.1, ())) x0.2.2.2.2.2.2.1 r2.2.1.1 r2.2.1.2.1
      else
        event_Bytes.j1 k x0.1 ((x0.1 : Int) == 5) x0.1 (x0.2.1.1, (x0.2.1.2.1, (x0.2.1.2.2.1, (x0.2.1.2.2.2.1, (x0.2.1.2.2.2.2.1, (x0.2.1.2.2.2.2.2.1, (x0.2.1.2.2.2.2.2.2.1, ()))))))) x0.2.2.1 x0.2.2.2.1 x0.2.2.2.2.1 (x0.2.2.2.2.2.1.1, (x0.2.2.2.2.2.1.2.1, ())) x0.2.2.2.2.2.2.1 r2.2.1.1 r2.2.1.2.1
end
abbrev event_Bytes.ini : LSh := ⟨[(0, .val (.cons (.int .i64) (.cons (.cons .str (.cons (.int .i64) (.cons (.int .i64) (.cons (.int .i64) (.cons (.sl (.cons .str (.cons .str (.cons .str (.cons .bool .nil))))) (.cons .bool (.cons (.sl .str) .nil))))))) (.cons (.int .i64) (.cons (.int .i64) (.cons .str (.cons (.cons (.int .i64) (.cons .str .nil)) (.cons (.int .i64) .nil))))))))], []⟩
abbrev event_Bytes.out : LSh := ⟨[(0, .val .str)], []⟩
abbrev event_Bytes.j1s : LSh := ⟨[(1, .ptr 1 0), (3, .ptr 10 0), (16, .val (.int .i64)), (39, .val .bool)], [(1, 29, [.val (.int .i64), .val (.cons .str (.cons (.int .i64) (.cons (.int .i64) (.cons (.int .i64) (.cons (.sl (.cons .str (.cons .str (.cons .str (.cons .bool .nil))))) (.cons .bool (.cons (.sl .str) .nil))))))), .val (.int .i64), .val (.int .i64), .val .str, .val (.cons (.int .i64) (.cons .str .nil)), .val (.int .i64)]), (10, 43, [.val .str, .val .bool])]⟩
abbrev event_Bytes.j0s : LSh := ⟨[(3, .ptr 10 0)], [(10, 43, [.val .str, .val .bool])]⟩
noncomputable def event_Bytes.labF : Nat → Option (LabF event_Bytes.out.den)
  | 31 => some ⟨event_Bytes.j1s, fun k (d : (Unit × Unit × Int × Bool × Unit) × ((Int × (ByteArray × Int × Int × Int × List (ByteArray × ByteArray × ByteArray × Bool × Unit) × Bool × List ByteArray × Unit) × Int × Int × ByteArray × (Int × ByteArray × Unit) × Int × Unit) × (ByteArray × Bool × Unit) × Unit)) => (event_Bytes.j1 k d.1.2.2.1 d.1.2.2.2.1 d.2.1.1 d.2.1.2.1 d.2.1.2.2.1 d.2.1.2.2.2.1 d.2.1.2.2.2.2.1 d.2.1.2.2.2.2.2.1 d.2.1.2.2.2.2.2.2.1 d.2.2.1.1 d.2.2.1.2.1 : Option event_Bytes.R)⟩
  | 45 => some ⟨event_Bytes.j0s, fun k (d : (Unit × Unit) × ((ByteArray × Bool × Unit) × Unit)) => (event_Bytes.j0 k d.2.1.1 d.2.1.2.1 : Option event_Bytes.R)⟩
  | _ => none
noncomputable def event_Bytes.fd : FnD := ⟨Try.f8, event_Bytes.ini, event_Bytes.out, 1, [], [], event_Bytes.labF, fun k (d : ((Int × (ByteArray × Int × Int × Int × List (ByteArray × ByteArray × ByteArray × Bool × Unit) × Bool × List ByteArray × Unit) × Int × Int × ByteArray × (Int × ByteArray × Unit) × Int × Unit) × Unit) × (Unit)) => (event_Bytes.f k d.1.1 : Option event_Bytes.R)⟩

/-! ### chartularylaw14_awake : function 9 -/
abbrev chartularylaw14_awake.R := (Bool × Unit) × (Unit)
noncomputable def chartularylaw14_awake.f : Nat → Option chartularylaw14_awake.R
  | 0 => none
  | k + 1 =>
    (event_Bytes.f k (3, ((ByteArray.empty, (0, (0, (0, (([] : List (ByteArray × ByteArray × ByteArray × Bool × Unit)), (false, (([] : List ByteArray), ()))))))), (5, (0, (ByteArray.empty, ((0, (ByteArray.empty, ())), (0, ())))))))).bind fun r1 =>
    some ((r1.1.1.toList == (⟨#[1, 3, 1, 5]⟩ : ByteArray).toList, ()), (()))
abbrev chartularylaw14_awake.ini : LSh := ⟨[], []⟩
abbrev chartularylaw14_awake.out : LSh := ⟨[(0, .val .bool)], []⟩
noncomputable def chartularylaw14_awake.labF : Nat → Option (LabF chartularylaw14_awake.out.den)
  | _ => none
noncomputable def chartularylaw14_awake.fd : FnD := ⟨Try.f9, chartularylaw14_awake.ini, chartularylaw14_awake.out, 1, [], [], chartularylaw14_awake.labF, fun k (d : (Unit) × (Unit)) => (chartularylaw14_awake.f k : Option chartularylaw14_awake.R)⟩

/-! ### chartularyref14_word : function 24 -/
abbrev chartularyref14_word.R := (Bool × Unit) × (Unit)
mutual
noncomputable def chartularyref14_word.l0 : Nat → ByteArray → Int → ByteArray → Int → Option chartularyref14_word.R
  | 0, _, _, _, _ => none
  | k + 1, x0, x1, x5, x6 =>
    bif decide ((x6 : Int) < (x0.size : Int)) then
      chartularyref14_word.l1 k x0 x1 x5 x6 false 0
    else
    bif decide (((x0.size : Int) : Int) > 0) then
      some ((decide (((x0.size : Int) : Int) ≤ x1), ()), (()))
    else
      some ((false, ()), (()))
noncomputable def chartularyref14_word.l1 : Nat → ByteArray → Int → ByteArray → Int → Bool → Int → Option chartularyref14_word.R
  | 0, _, _, _, _, _, _ => none
  | k + 1, x0, x1, x5, x6, x7, x8 =>
    bif decide ((x8 : Int) < (x5.size : Int)) then
      bif x7 then
        chartularyref14_word.l1 k x0 x1 x5 x6 true (IntKind.wrap .i64 (x8 + 1))
      else
        (bto x5 x8).bind fun t1 =>
        (bto x0 x6).bind fun t2 =>
        chartularyref14_word.l1 k x0 x1 x5 x6 ((t1 : Int) == t2) (IntKind.wrap .i64 (x8 + 1))
    else
    bif !x7 then
      some ((false, ()), (()))
    else
      chartularyref14_word.l0 k x0 x1 x5 (IntKind.wrap .i64 (x6 + 1))
noncomputable def chartularyref14_word.f : Nat → ByteArray → Int → Option chartularyref14_word.R
  | 0, _, _ => none
  | k + 1, x0, x1 =>
    chartularyref14_word.l0 k x0 x1 (⟨#[97, 98, 99, 100, 101, 102, 103, 104, 105, 106, 107, 108, 109, 110, 111, 112, 113, 114, 115, 116, 117, 118, 119, 120, 121, 122, 65, 66, 67, 68, 69, 70, 71, 72, 73, 74, 75, 76, 77, 78, 79, 80, 81, 82, 83, 84, 85, 86, 87, 88, 89, 90, 48, 49, 50, 51, 52, 53, 54, 55, 56, 57, 45, 95, 46]⟩ : ByteArray) 0
end
abbrev chartularyref14_word.ini : LSh := ⟨[(0, .val .str), (1, .val (.int .i64))], []⟩
abbrev chartularyref14_word.out : LSh := ⟨[(0, .val .bool)], []⟩
abbrev chartularyref14_word.l0s : LSh := ⟨[(0, .val .str), (1, .val (.int .i64)), (5, .val .str), (6, .val (.int .i64))], []⟩
abbrev chartularyref14_word.l1s : LSh := ⟨[(0, .val .str), (1, .val (.int .i64)), (5, .val .str), (6, .val (.int .i64)), (7, .val .bool), (8, .val (.int .i64))], []⟩
noncomputable def chartularyref14_word.labF : Nat → Option (LabF chartularyref14_word.out.den)
  | 6 => some ⟨chartularyref14_word.l0s, fun k (d : (ByteArray × Int × ByteArray × Int × Unit) × (Unit)) => (chartularyref14_word.l0 k d.1.1 d.1.2.1 d.1.2.2.1 d.1.2.2.2.1 : Option chartularyref14_word.R)⟩
  | 14 => some ⟨chartularyref14_word.l1s, fun k (d : (ByteArray × Int × ByteArray × Int × Bool × Int × Unit) × (Unit)) => (chartularyref14_word.l1 k d.1.1 d.1.2.1 d.1.2.2.1 d.1.2.2.2.1 d.1.2.2.2.2.1 d.1.2.2.2.2.2.1 : Option chartularyref14_word.R)⟩
  | _ => none
noncomputable def chartularyref14_word.fd : FnD := ⟨Try.f24, chartularyref14_word.ini, chartularyref14_word.out, 1, [], [], chartularyref14_word.labF, fun k (d : (ByteArray × Int × Unit) × (Unit)) => (chartularyref14_word.f k d.1.1 d.1.2.1 : Option chartularyref14_word.R)⟩

/-! ### chartularyref14_RightEntry : function 23 -/
abbrev chartularyref14_RightEntry.R := (Bool × Unit) × (Unit)
mutual
noncomputable def chartularyref14_RightEntry.j0 : Nat → Bool → ByteArray → Int → Int → Int → (List (ByteArray × ByteArray × ByteArray × Bool × Unit)) → Bool → (List ByteArray) → Option chartularyref14_RightEntry.R
  | 0, _, _, _, _, _, _, _, _ => none
  | k + 1, x3, o1_0, o1_1, o1_2, o1_3, o1_4, o1_5, o1_6 =>
    chartularyref14_RightEntry.l0 k x3 0 o1_0 o1_1 o1_2 o1_3 o1_4 o1_5 o1_6
noncomputable def chartularyref14_RightEntry.l0 : Nat → Bool → Int → ByteArray → Int → Int → Int → (List (ByteArray × ByteArray × ByteArray × Bool × Unit)) → Bool → (List ByteArray) → Option chartularyref14_RightEntry.R
  | 0, _, _, _, _, _, _, _, _, _ => none
  | k + 1, x3, x4, o1_0, o1_1, o1_2, o1_3, o1_4, o1_5, o1_6 =>
    bif decide ((x4 : Int) < (o1_6.length : Int)) then
      bif x3 then
        (rdo o1_6 x4).bind fun t2 =>
        (chartularyref14_word.f k t2 16).bind fun r3 =>
        bif r3.1.1 then
          bif (x4 : Int) == 0 then
            chartularyref14_RightEntry.l0 k true (IntKind.wrap .i64 (x4 + 1)) o1_0 o1_1 o1_2 o1_3 o1_4 o1_5 o1_6
          else
            (rdo o1_6 (IntKind.wrap .i64 (x4 - 1))).bind fun t4 =>
            (rdo o1_6 x4).bind fun t5 =>
            chartularyref14_RightEntry.l0 k (Op.bytesLess t4.toList t5.toList) (IntKind.wrap .i64 (x4 + 1)) o1_0 o1_1 o1_2 o1_3 o1_4 o1_5 o1_6
        else
          chartularyref14_RightEntry.l0 k false (IntKind.wrap .i64 (x4 + 1)) o1_0 o1_1 o1_2 o1_3 o1_4 o1_5 o1_6
      else
        chartularyref14_RightEntry.l0 k false (IntKind.wrap .i64 (x4 + 1)) o1_0 o1_1 o1_2 o1_3 o1_4 o1_5 o1_6
    else
      chartularyref14_RightEntry.l1 k x3 0 o1_0 o1_1 o1_2 o1_3 o1_4 o1_5 o1_6
noncomputable def chartularyref14_RightEntry.l1 : Nat → Bool → Int → ByteArray → Int → Int → Int → (List (ByteArray × ByteArray × ByteArray × Bool × Unit)) → Bool → (List ByteArray) → Option chartularyref14_RightEntry.R
  | 0, _, _, _, _, _, _, _, _, _ => none
  | k + 1, x3, x5, o1_0, o1_1, o1_2, o1_3, o1_4, o1_5, o1_6 =>
    bif decide ((x5 : Int) < (o1_4.length : Int)) then
      (rdo o1_4 x5).bind fun t6 =>
      bif x3 then
        (chartularyref14_word.f k t6.1 16).bind fun r7 =>
        bif r7.1.1 then
          bif ((t6.2.1.size : Int) : Int) == 32 then
            bif (x5 : Int) == 0 then
              bif t6.2.2.2.1 then
                chartularyref14_RightEntry.l1 k (t6.2.2.1.toList == (⟨#[]⟩ : ByteArray).toList) (IntKind.wrap .i64 (x5 + 1)) o1_0 o1_1 o1_2 o1_3 o1_4 o1_5 o1_6
              else
              bif decide (((t6.2.2.1.size : Int) : Int) ≥ 16) then
                bif decide (((t6.2.2.1.size : Int) : Int) ≤ 224) then
                  chartularyref14_RightEntry.l1 k (!o1_5) (IntKind.wrap .i64 (x5 + 1)) o1_0 o1_1 o1_2 o1_3 o1_4 o1_5 o1_6
                else
                  chartularyref14_RightEntry.l1 k false (IntKind.wrap .i64 (x5 + 1)) o1_0 o1_1 o1_2 o1_3 o1_4 o1_5 o1_6
              else
                chartularyref14_RightEntry.l1 k false (IntKind.wrap .i64 (x5 + 1)) o1_0 o1_1 o1_2 o1_3 o1_4 o1_5 o1_6
            else
              (rdo o1_4 (IntKind.wrap .i64 (x5 - 1))).bind fun t8 =>
              bif t6.2.2.2.1 then
                bif Op.bytesLess t8.1.toList t6.1.toList then
                  chartularyref14_RightEntry.l1 k (t6.2.2.1.toList == (⟨#[]⟩ : ByteArray).toList) (IntKind.wrap .i64 (x5 + 1)) o1_0 o1_1 o1_2 o1_3 o1_4 o1_5 o1_6
                else
                  chartularyref14_RightEntry.l1 k false (IntKind.wrap .i64 (x5 + 1)) o1_0 o1_1 o1_2 o1_3 o1_4 o1_5 o1_6
              else
              bif Op.bytesLess t8.1.toList t6.1.toList then
                bif decide (((t6.2.2.1.size : Int) : Int) ≥ 16) then
                  bif decide (((t6.2.2.1.size : Int) : Int) ≤ 224) then
                    chartularyref14_RightEntry.l1 k (!o1_5) (IntKind.wrap .i64 (x5 + 1)) o1_0 o1_1 o1_2 o1_3 o1_4 o1_5 o1_6
                  else
                    chartularyref14_RightEntry.l1 k false (IntKind.wrap .i64 (x5 + 1)) o1_0 o1_1 o1_2 o1_3 o1_4 o1_5 o1_6
                else
                  chartularyref14_RightEntry.l1 k false (IntKind.wrap .i64 (x5 + 1)) o1_0 o1_1 o1_2 o1_3 o1_4 o1_5 o1_6
              else
                chartularyref14_RightEntry.l1 k false (IntKind.wrap .i64 (x5 + 1)) o1_0 o1_1 o1_2 o1_3 o1_4 o1_5 o1_6
          else
          bif t6.2.2.2.1 then
            chartularyref14_RightEntry.l1 k false (IntKind.wrap .i64 (x5 + 1)) o1_0 o1_1 o1_2 o1_3 o1_4 o1_5 o1_6
          else
            chartularyref14_RightEntry.l1 k false (IntKind.wrap .i64 (x5 + 1)) o1_0 o1_1 o1_2 o1_3 o1_4 o1_5 o1_6
        else
        bif t6.2.2.2.1 then
          chartularyref14_RightEntry.l1 k false (IntKind.wrap .i64 (x5 + 1)) o1_0 o1_1 o1_2 o1_3 o1_4 o1_5 o1_6
        else
          chartularyref14_RightEntry.l1 k false (IntKind.wrap .i64 (x5 + 1)) o1_0 o1_1 o1_2 o1_3 o1_4 o1_5 o1_6
      else
      bif t6.2.2.2.1 then
        chartularyref14_RightEntry.l1 k false (IntKind.wrap .i64 (x5 + 1)) o1_0 o1_1 o1_2 o1_3 o1_4 o1_5 o1_6
      else
        chartularyref14_RightEntry.l1 k false (IntKind.wrap .i64 (x5 + 1)) o1_0 o1_1 o1_2 o1_3 o1_4 o1_5 o1_6
    else
      some ((x3, ()), (()))
noncomputable def chartularyref14_RightEntry.f : Nat → (ByteArray × Int × Int × Int × List (ByteArray × ByteArray × ByteArray × Bool × Unit) × Bool × List ByteArray × Unit) → Option chartularyref14_RightEntry.R
  | 0, _ => none
  | k + 1, x0 =>
    (chartularyref14_word.f k x0.1 24).bind fun r1 =>
    bif r1.1.1 then
      bif decide ((x0.2.1 : Int) ≥ 0) then
        bif decide ((x0.2.1 : Int) ≤ 7) then
          bif decide ((x0.2.2.1 : Int) ≥ 0) then
            bif decide ((x0.2.2.1 : Int) ≤ 1099511627776) then
              bif decide ((x0.2.2.2.1 : Int) ≥ 0) then
                bif decide ((x0.2.2.2.1 : Int) ≤ 63) then
                  bif decide (((x0.2.2.2.2.1.length : Int) : Int) ≥ 1) then
                    bif decide (((x0.2.2.2.2.1.length : Int) : Int) ≤ 12) then
                      chartularyref14_RightEntry.j0 k (decide (((x0.2.2.2.2.2.2.1.length : Int) : Int) ≤ 4)) x0.1 x0.2.1 x0.2.2.1 x0.2.2.2.1 x0.2.2.2.2.1 x0.2.2.2.2.2.1 x0.2.2.2.2.2.2.1
                    else
                      chartularyref14_RightEntry.j0 k false x0.1 x0.2.1 x0.2.2.1 x0.2.2.2.1 x0.2.2.2.2.1 x0.2.2.2.2.2.1 x0.2.2.2.2.2.2.1
                  else
                    chartularyref14_RightEntry.j0 k false x0.1 x0.2.1 x0.2.2.1 x0.2.2.2.1 x0.2.2.2.2.1 x0.2.2.2.2.2.1 x0.2.2.2.2.2.2.1
                else
                  chartularyref14_RightEntry.j0 k false x0.1 x0.2.1 x0.2.2.1 x0.2.2.2.1 x0.2.2.2.2.1 x0.2.2.2.2.2.1 x0.2.2.2.2.2.2.1
              else
                chartularyref14_RightEntry.j0 k false x0.1 x0.2.1 x0.2.2.1 x0.2.2.2.1 x0.2.2.2.2.1 x0.2.2.2.2.2.1 x0.2.2.2.2.2.2.1
            else
              chartularyref14_RightEntry.j0 k false x0.1 x0.2.1 x0.2.2.1 x0.2.2.2.1 x0.2.2.2.2.1 x0.2.2.2.2.2.1 x0.2.2.2.2.2.2.1
          else
            chartularyref14_RightEntry.j0 k false x0.1 x0.2.1 x0.2.2.1 x0.2.2.2.1 x0.2.2.2.2.1 x0.2.2.2.2.2.1 x0.2.2.2.2.2.2.1
        else
          chartularyref14_RightEntry.j0 k false x0.1 x0.2.1 x0.2.2.1 x0.2.2.2.1 x0.2.2.2.2.1 x0.2.2.2.2.2.1 x0.2.2.2.2.2.2.1
      else
        chartularyref14_RightEntry.j0 k false x0.1 x0.2.1 x0.2.2.1 x0.2.2.2.1 x0.2.2.2.2.1 x0.2.2.2.2.2.1 x0.2.2.2.2.2.2.1
    else
      chartularyref14_RightEntry.j0 k false x0.1 x0.2.1 x0.2.2.1 x0.2.2.2.1 x0.2.2.2.2.1 x0.2.2.2.2.2.1 x0.2.2.2.2.2.2.1
end
abbrev chartularyref14_RightEntry.ini : LSh := ⟨[(0, .val (.cons .str (.cons (.int .i64) (.cons (.int .i64) (.cons (.int .i64) (.cons (.sl (.cons .str (.cons .str (.cons .str (.cons .bool .nil))))) (.cons .bool (.cons (.sl .str) .nil))))))))], []⟩
abbrev chartularyref14_RightEntry.out : LSh := ⟨[(0, .val .bool)], []⟩
abbrev chartularyref14_RightEntry.j0s : LSh := ⟨[(1, .ptr 1 0), (3, .val .bool)], [(1, 25, [.val .str, .val (.int .i64), .val (.int .i64), .val (.int .i64), .val (.sl (.cons .str (.cons .str (.cons .str (.cons .bool .nil))))), .val .bool, .val (.sl .str)])]⟩
abbrev chartularyref14_RightEntry.l0s : LSh := ⟨[(1, .ptr 1 0), (3, .val .bool), (4, .val (.int .i64))], [(1, 25, [.val .str, .val (.int .i64), .val (.int .i64), .val (.int .i64), .val (.sl (.cons .str (.cons .str (.cons .str (.cons .bool .nil))))), .val .bool, .val (.sl .str)])]⟩
abbrev chartularyref14_RightEntry.l1s : LSh := ⟨[(1, .ptr 1 0), (3, .val .bool), (5, .val (.int .i64))], [(1, 25, [.val .str, .val (.int .i64), .val (.int .i64), .val (.int .i64), .val (.sl (.cons .str (.cons .str (.cons .str (.cons .bool .nil))))), .val .bool, .val (.sl .str)])]⟩
noncomputable def chartularyref14_RightEntry.labF : Nat → Option (LabF chartularyref14_RightEntry.out.den)
  | 7 => some ⟨chartularyref14_RightEntry.j0s, fun k (d : (Unit × Bool × Unit) × ((ByteArray × Int × Int × Int × (List (ByteArray × ByteArray × ByteArray × Bool × Unit)) × Bool × List ByteArray × Unit) × Unit)) => (chartularyref14_RightEntry.j0 k d.1.2.1 d.2.1.1 d.2.1.2.1 d.2.1.2.2.1 d.2.1.2.2.2.1 d.2.1.2.2.2.2.1 d.2.1.2.2.2.2.2.1 d.2.1.2.2.2.2.2.2.1 : Option chartularyref14_RightEntry.R)⟩
  | 8 => some ⟨chartularyref14_RightEntry.l0s, fun k (d : (Unit × Bool × Int × Unit) × ((ByteArray × Int × Int × Int × (List (ByteArray × ByteArray × ByteArray × Bool × Unit)) × Bool × List ByteArray × Unit) × Unit)) => (chartularyref14_RightEntry.l0 k d.1.2.1 d.1.2.2.1 d.2.1.1 d.2.1.2.1 d.2.1.2.2.1 d.2.1.2.2.2.1 d.2.1.2.2.2.2.1 d.2.1.2.2.2.2.2.1 d.2.1.2.2.2.2.2.2.1 : Option chartularyref14_RightEntry.R)⟩
  | 16 => some ⟨chartularyref14_RightEntry.l1s, fun k (d : (Unit × Bool × Int × Unit) × ((ByteArray × Int × Int × Int × (List (ByteArray × ByteArray × ByteArray × Bool × Unit)) × Bool × List ByteArray × Unit) × Unit)) => (chartularyref14_RightEntry.l1 k d.1.2.1 d.1.2.2.1 d.2.1.1 d.2.1.2.1 d.2.1.2.2.1 d.2.1.2.2.2.1 d.2.1.2.2.2.2.1 d.2.1.2.2.2.2.2.1 d.2.1.2.2.2.2.2.2.1 : Option chartularyref14_RightEntry.R)⟩
  | _ => none
noncomputable def chartularyref14_RightEntry.fd : FnD := ⟨Try.f23, chartularyref14_RightEntry.ini, chartularyref14_RightEntry.out, 1, [], [], chartularyref14_RightEntry.labF, fun k (d : ((ByteArray × Int × Int × Int × List (ByteArray × ByteArray × ByteArray × Bool × Unit) × Bool × List ByteArray × Unit) × Unit) × (Unit)) => (chartularyref14_RightEntry.f k d.1.1 : Option chartularyref14_RightEntry.R)⟩

/-! ### chartularyref14_Right : function 10 -/
abbrev chartularyref14_Right.R := (Bool × Unit) × (Unit)
mutual
noncomputable def chartularyref14_Right.j0 : Nat → Bool → Int → Bool → Int → (ByteArray × Int × Int × Int × List (ByteArray × ByteArray × ByteArray × Bool × Unit) × Bool × List ByteArray × Unit) → Int → Int → ByteArray → (Int × ByteArray × Unit) → Int → Option chartularyref14_Right.R
  | 0, _, _, _, _, _, _, _, _, _, _ => none
  | k + 1, x3, x13, x35, o1_0, o1_1, o1_2, o1_3, o1_4, o1_5, o1_6 =>
    bif x35 then
      bif x3 then
        (chartularyref14_word.f k o1_4 16).bind fun r3 =>
        some ((r3.1.1, ()), (()))
      else
        some ((false, ()), (()))
    else
    bif (x13 : Int) == 6 then
      bif decide ((o1_5.1 : Int) ≥ 0) then
        bif decide ((o1_5.1 : Int) ≤ 64) then
          some ((((o1_5.2.1.size : Int) : Int) == 32, ()), (()))
        else
          some ((false, ()), (()))
      else
        some ((false, ()), (()))
    else
    bif (x13 : Int) == 7 then
      bif decide ((o1_6 : Int) ≥ 0) then
        some ((decide ((o1_6 : Int) ≤ 1099511627776), ()), (()))
      else
        some ((false, ()), (()))
    else
      some ((false, ()), (()))
noncomputable def chartularyref14_Right.f : Nat → (Int × (ByteArray × Int × Int × Int × List (ByteArray × ByteArray × ByteArray × Bool × Unit) × Bool × List ByteArray × Unit) × Int × Int × ByteArray × (Int × ByteArray × Unit) × Int × Unit) → Option chartularyref14_Right.R
  | 0, _ => none
  | k + 1, x0 =>
    bif decide ((x0.2.2.1 : Int) ≥ 0) then
      bif (x0.1 : Int) == 1 then
        (chartularyref14_RightEntry.f k (x0.2.1.1, (x0.2.1.2.1, (x0.2.1.2.2.1, (x0.2.1.2.2.2.1, (x0.2.1.2.2.2.2.1, (x0.2.1.2.2.2.2.2.1, (x0.2.1.2.2.2.2.2.2.1, ())))))))).bind fun r1 =>
        some ((r1.1.1, ()), (()))
      else
      bif (x0.1 : Int) == 2 then
        bif decide ((x0.2.2.1 : Int) ≤ 63) then
          bif decide ((x0.2.2.2.1 : Int) ≥ 0) then
            some ((decide ((x0.2.2.2.1 : Int) ≤ 11), ()), (()))
          else
            some ((false, ()), (()))
        else
          some ((false, ()), (()))
      else
      bif (x0.1 : Int) == 3 then
        some ((decide ((x0.2.2.1 : Int) ≤ 63), ()), (()))
      else
      bif (x0.1 : Int) == 4 then
        chartularyref14_Right.j0 k (decide ((x0.2.2.1 : Int) ≤ 63)) x0.1 ((x0.1 : Int) == 4) x0.1 (x0.2.1.1, (x0.2.1.2.1, (x0.2.1.2.2.1, (x0.2.1.2.2.2.1, (x0.2.1.2.2.2.2.1, (x0.2.1.2.2.2.2.2.1, (x0.2.1.2.2.2.2.2.2.1, ()))))))) x0.2.2.1 x0.2.2.2.1 x0.2.2.2.2.1 (x0.2.2.2.2.2.1.1, (x0.2.2.2.2.2.1.2.1, ())) x0.2.2.2.2.2.2.1
      else
        chartularyref14_Right.j0 k (decide ((x0.2.2.1 : Int) ≤ 63)) x0.1 ((x0.1 : Int) == 5) x0.1 (x0.2.1.1, (x0.2.1.2.1, (x0.2.1.2.2.1, (x0.2.1.2.2.2.1, (x0.2.1.2.2.2.2.1, (x0.2.1.2.2.2.2.2.1, (x0.2.1.2.2.2.2.2.2.1, ()))))))) x0.2.2.1 x0.2.2.2.1 x0.2.2.2.2.1 (x0.2.2.2.2.2.1.1, (x0.2.2.2.2.2.1.2.1, ())) x0.2.2.2.2.2.2.1
    else
    bif (x0.1 : Int) == 1 then
      (chartularyref14_RightEntry.f k (x0.2.1.1, (x0.2.1.2.1, (x0.2.1.2.2.1, (x0.2.1.2.2.2.1, (x0.2.1.2.2.2.2.1, (x0.2.1.2.2.2.2.2.1, (x0.2.1.2.2.2.2.2.2.1, ())))))))).bind fun r2 =>
      some ((r2.1.1, ()), (()))
    else
    bif (x0.1 : Int) == 2 then
      some ((false, ()), (()))
    else
    bif (x0.1 : Int) == 3 then
      some ((false, ()), (()))
    else
    bif (x0.1 : Int) == 4 then
      chartularyref14_Right.j0 k false x0.1 ((x0.1 : Int) == 4) x0.1 (x0.2.1.1, (x0.2.1.2.1, (x0.2.1.2.2.1, (x0.2.1.2.2.2.1, (x0.2.1.2.2.2.2.1, (x0.2.1.2.2.2.2.2.1, (x0.2.1.2.2.2.2.2.2.1, ()))))))) x0.2.2.1 x0.2.2.2.1 x0.2.2.2.2.1 (x0.2.2.2.2.2.1.1, (x0.2.2.2.2.2.1.2.1, ())) x0.2.2.2.2.2.2.1
    else
      chartularyref14_Right.j0 k false x0.1 ((x0.1 : Int) == 5) x0.1 (x0.2.1.1, (x0.2.1.2.1, (x0.2.1.2.2.1, (x0.2.1.2.2.2.1, (x0.2.1.2.2.2.2.1, (x0.2.1.2.2.2.2.2.1, (x0.2.1.2.2.2.2.2.2.1, ()))))))) x0.2.2.1 x0.2.2.2.1 x0.2.2.2.2.1 (x0.2.2.2.2.2.1.1, (x0.2.2.2.2.2.1.2.1, ())) x0.2.2.2.2.2.2.1
end
abbrev chartularyref14_Right.ini : LSh := ⟨[(0, .val (.cons (.int .i64) (.cons (.cons .str (.cons (.int .i64) (.cons (.int .i64) (.cons (.int .i64) (.cons (.sl (.cons .str (.cons .str (.cons .str (.cons .bool .nil))))) (.cons .bool (.cons (.sl .str) .nil))))))) (.cons (.int .i64) (.cons (.int .i64) (.cons .str (.cons (.cons (.int .i64) (.cons .str .nil)) (.cons (.int .i64) .nil))))))))], []⟩
abbrev chartularyref14_Right.out : LSh := ⟨[(0, .val .bool)], []⟩
abbrev chartularyref14_Right.j0s : LSh := ⟨[(1, .ptr 1 0), (3, .val .bool), (13, .val (.int .i64)), (35, .val .bool)], [(1, 29, [.val (.int .i64), .val (.cons .str (.cons (.int .i64) (.cons (.int .i64) (.cons (.int .i64) (.cons (.sl (.cons .str (.cons .str (.cons .str (.cons .bool .nil))))) (.cons .bool (.cons (.sl .str) .nil))))))), .val (.int .i64), .val (.int .i64), .val .str, .val (.cons (.int .i64) (.cons .str .nil)), .val (.int .i64)])]⟩
noncomputable def chartularyref14_Right.labF : Nat → Option (LabF chartularyref14_Right.out.den)
  | 25 => some ⟨chartularyref14_Right.j0s, fun k (d : (Unit × Bool × Int × Bool × Unit) × ((Int × (ByteArray × Int × Int × Int × List (ByteArray × ByteArray × ByteArray × Bool × Unit) × Bool × List ByteArray × Unit) × Int × Int × ByteArray × (Int × ByteArray × Unit) × Int × Unit) × Unit)) => (chartularyref14_Right.j0 k d.1.2.1 d.1.2.2.1 d.1.2.2.2.1 d.2.1.1 d.2.1.2.1 d.2.1.2.2.1 d.2.1.2.2.2.1 d.2.1.2.2.2.2.1 d.2.1.2.2.2.2.2.1 d.2.1.2.2.2.2.2.2.1 : Option chartularyref14_Right.R)⟩
  | _ => none
noncomputable def chartularyref14_Right.fd : FnD := ⟨Try.f10, chartularyref14_Right.ini, chartularyref14_Right.out, 1, [], [], chartularyref14_Right.labF, fun k (d : ((Int × (ByteArray × Int × Int × Int × List (ByteArray × ByteArray × ByteArray × Bool × Unit) × Bool × List ByteArray × Unit) × Int × Int × ByteArray × (Int × ByteArray × Unit) × Int × Unit) × Unit) × (Unit)) => (chartularyref14_Right.f k d.1.1 : Option chartularyref14_Right.R)⟩

/-! ### chartularyref14_SameEntry : function 25 -/
abbrev chartularyref14_SameEntry.R := (Bool × Unit) × (Unit)
mutual
noncomputable def chartularyref14_SameEntry.j0 : Nat → ByteArray → Int → Int → Int → (List (ByteArray × ByteArray × ByteArray × Bool × Unit)) → Bool → (List ByteArray) → ByteArray → Int → Int → Int → (List (ByteArray × ByteArray × ByteArray × Bool × Unit)) → Bool → (List ByteArray) → Option chartularyref14_SameEntry.R
  | 0, _, _, _, _, _, _, _, _, _, _, _, _, _, _ => none
  | k + 1, o2_0, o2_1, o2_2, o2_3, o2_4, o2_5, o2_6, o3_0, o3_1, o3_2, o3_3, o3_4, o3_5, o3_6 =>
    chartularyref14_SameEntry.l0 k 0 o2_0 o2_1 o2_2 o2_3 o2_4 o2_5 o2_6 o3_0 o3_1 o3_2 o3_3 o3_4 o3_5 o3_6
noncomputable def chartularyref14_SameEntry.l0 : Nat → Int → ByteArray → Int → Int → Int → (List (ByteArray × ByteArray × ByteArray × Bool × Unit)) → Bool → (List ByteArray) → ByteArray → Int → Int → Int → (List (ByteArray × ByteArray × ByteArray × Bool × Unit)) → Bool → (List ByteArray) → Option chartularyref14_SameEntry.R
  | 0, _, _, _, _, _, _, _, _, _, _, _, _, _, _, _ => none
  | k + 1, x5, o2_0, o2_1, o2_2, o2_3, o2_4, o2_5, o2_6, o3_0, o3_1, o3_2, o3_3, o3_4, o3_5, o3_6 =>
    bif decide ((x5 : Int) < (o2_4.length : Int)) then
      (rdo o2_4 x5).bind fun t1 =>
      (rdo o3_4 x5).bind fun t2 =>
      bif !((seqB t1.1 t2.1 && (seqB t1.2.1 t2.2.1 && (seqB t1.2.2.1 t2.2.2.1 && (t1.2.2.2.1 == t2.2.2.2.1 && true))))) then
        some ((false, ()), (()))
      else
        chartularyref14_SameEntry.l0 k (IntKind.wrap .i64 (x5 + 1)) o2_0 o2_1 o2_2 o2_3 o2_4 o2_5 o2_6 o3_0 o3_1 o3_2 o3_3 o3_4 o3_5 o3_6
    else
      chartularyref14_SameEntry.l1 k 0 o2_0 o2_1 o2_2 o2_3 o2_4 o2_5 o2_6 o3_0 o3_1 o3_2 o3_3 o3_4 o3_5 o3_6
noncomputable def chartularyref14_SameEntry.l1 : Nat → Int → ByteArray → Int → Int → Int → (List (ByteArray × ByteArray × ByteArray × Bool × Unit)) → Bool → (List ByteArray) → ByteArray → Int → Int → Int → (List (ByteArray × ByteArray × ByteArray × Bool × Unit)) → Bool → (List ByteArray) → Option chartularyref14_SameEntry.R
  | 0, _, _, _, _, _, _, _, _, _, _, _, _, _, _, _ => none
  | k + 1, x6, o2_0, o2_1, o2_2, o2_3, o2_4, o2_5, o2_6, o3_0, o3_1, o3_2, o3_3, o3_4, o3_5, o3_6 =>
    bif decide ((x6 : Int) < (o2_6.length : Int)) then
      (rdo o2_6 x6).bind fun t3 =>
      (rdo o3_6 x6).bind fun t4 =>
      bif !(t3.toList == t4.toList) then
        some ((false, ()), (()))
      else
        chartularyref14_SameEntry.l1 k (IntKind.wrap .i64 (x6 + 1)) o2_0 o2_1 o2_2 o2_3 o2_4 o2_5 o2_6 o3_0 o3_1 o3_2 o3_3 o3_4 o3_5 o3_6
    else
      some ((true, ()), (()))
noncomputable def chartularyref14_SameEntry.f : Nat → (ByteArray × Int × Int × Int × List (ByteArray × ByteArray × ByteArray × Bool × Unit) × Bool × List ByteArray × Unit) → (ByteArray × Int × Int × Int × List (ByteArray × ByteArray × ByteArray × Bool × Unit) × Bool × List ByteArray × Unit) → Option chartularyref14_SameEntry.R
  | 0, _, _ => none
  | k + 1, x0, x1 =>
    bif !(x0.1.toList == x1.1.toList) then
      some ((false, ()), (()))
    else
    bif (x0.2.1 : Int) != x1.2.1 then
      some ((false, ()), (()))
    else
    bif (x0.2.2.1 : Int) != x1.2.2.1 then
      some ((false, ()), (()))
    else
    bif (x0.2.2.2.1 : Int) != x1.2.2.2.1 then
      some ((false, ()), (()))
    else
    bif !(x0.2.2.2.2.2.1 == x1.2.2.2.2.2.1) then
      some ((false, ()), (()))
    else
    bif ((x0.2.2.2.2.1.length : Int) : Int) != (x1.2.2.2.2.1.length : Int) then
      some ((false, ()), (()))
    else
    bif ((x0.2.2.2.2.2.2.1.length : Int) : Int) != (x1.2.2.2.2.2.2.1.length : Int) then
      some ((false, ()), (()))
    else
      chartularyref14_SameEntry.j0 k x0.1 x0.2.1 x0.2.2.1 x0.2.2.2.1 x0.2.2.2.2.1 x0.2.2.2.2.2.1 x0.2.2.2.2.2.2.1 x1.1 x1.2.1 x1.2.2.1 x1.2.2.2.1 x1.2.2.2.2.1 x1.2.2.2.2.2.1 x1.2.2.2.2.2.2.1
end
abbrev chartularyref14_SameEntry.ini : LSh := ⟨[(0, .val (.cons .str (.cons (.int .i64) (.cons (.int .i64) (.cons (.int .i64) (.cons (.sl (.cons .str (.cons .str (.cons .str (.cons .bool .nil))))) (.cons .bool (.cons (.sl .str) .nil)))))))), (1, .val (.cons .str (.cons (.int .i64) (.cons (.int .i64) (.cons (.int .i64) (.cons (.sl (.cons .str (.cons .str (.cons .str (.cons .bool .nil))))) (.cons .bool (.cons (.sl .str) .nil))))))))], []⟩
abbrev chartularyref14_SameEntry.out : LSh := ⟨[(0, .val .bool)], []⟩
abbrev chartularyref14_SameEntry.j0s : LSh := ⟨[(2, .ptr 2 0), (3, .ptr 3 0)], [(2, 25, [.val .str, .val (.int .i64), .val (.int .i64), .val (.int .i64), .val (.sl (.cons .str (.cons .str (.cons .str (.cons .bool .nil))))), .val .bool, .val (.sl .str)]), (3, 25, [.val .str, .val (.int .i64), .val (.int .i64), .val (.int .i64), .val (.sl (.cons .str (.cons .str (.cons .str (.cons .bool .nil))))), .val .bool, .val (.sl .str)])]⟩
abbrev chartularyref14_SameEntry.l0s : LSh := ⟨[(2, .ptr 2 0), (3, .ptr 3 0), (5, .val (.int .i64))], [(2, 25, [.val .str, .val (.int .i64), .val (.int .i64), .val (.int .i64), .val (.sl (.cons .str (.cons .str (.cons .str (.cons .bool .nil))))), .val .bool, .val (.sl .str)]), (3, 25, [.val .str, .val (.int .i64), .val (.int .i64), .val (.int .i64), .val (.sl (.cons .str (.cons .str (.cons .str (.cons .bool .nil))))), .val .bool, .val (.sl .str)])]⟩
abbrev chartularyref14_SameEntry.l1s : LSh := ⟨[(2, .ptr 2 0), (3, .ptr 3 0), (6, .val (.int .i64))], [(2, 25, [.val .str, .val (.int .i64), .val (.int .i64), .val (.int .i64), .val (.sl (.cons .str (.cons .str (.cons .str (.cons .bool .nil))))), .val .bool, .val (.sl .str)]), (3, 25, [.val .str, .val (.int .i64), .val (.int .i64), .val (.int .i64), .val (.sl (.cons .str (.cons .str (.cons .str (.cons .bool .nil))))), .val .bool, .val (.sl .str)])]⟩
noncomputable def chartularyref14_SameEntry.labF : Nat → Option (LabF chartularyref14_SameEntry.out.den)
  | 7 => some ⟨chartularyref14_SameEntry.j0s, fun k (d : (Unit × Unit × Unit) × ((ByteArray × Int × Int × Int × (List (ByteArray × ByteArray × ByteArray × Bool × Unit)) × Bool × List ByteArray × Unit) × (ByteArray × Int × Int × Int × (List (ByteArray × ByteArray × ByteArray × Bool × Unit)) × Bool × List ByteArray × Unit) × Unit)) => (chartularyref14_SameEntry.j0 k d.2.1.1 d.2.1.2.1 d.2.1.2.2.1 d.2.1.2.2.2.1 d.2.1.2.2.2.2.1 d.2.1.2.2.2.2.2.1 d.2.1.2.2.2.2.2.2.1 d.2.2.1.1 d.2.2.1.2.1 d.2.2.1.2.2.1 d.2.2.1.2.2.2.1 d.2.2.1.2.2.2.2.1 d.2.2.1.2.2.2.2.2.1 d.2.2.1.2.2.2.2.2.2.1 : Option chartularyref14_SameEntry.R)⟩
  | 8 => some ⟨chartularyref14_SameEntry.l0s, fun k (d : (Unit × Unit × Int × Unit) × ((ByteArray × Int × Int × Int × (List (ByteArray × ByteArray × ByteArray × Bool × Unit)) × Bool × List ByteArray × Unit) × (ByteArray × Int × Int × Int × (List (ByteArray × ByteArray × ByteArray × Bool × Unit)) × Bool × List ByteArray × Unit) × Unit)) => (chartularyref14_SameEntry.l0 k d.1.2.2.1 d.2.1.1 d.2.1.2.1 d.2.1.2.2.1 d.2.1.2.2.2.1 d.2.1.2.2.2.2.1 d.2.1.2.2.2.2.2.1 d.2.1.2.2.2.2.2.2.1 d.2.2.1.1 d.2.2.1.2.1 d.2.2.1.2.2.1 d.2.2.1.2.2.2.1 d.2.2.1.2.2.2.2.1 d.2.2.1.2.2.2.2.2.1 d.2.2.1.2.2.2.2.2.2.1 : Option chartularyref14_SameEntry.R)⟩
  | 18 => some ⟨chartularyref14_SameEntry.l1s, fun k (d : (Unit × Unit × Int × Unit) × ((ByteArray × Int × Int × Int × (List (ByteArray × ByteArray × ByteArray × Bool × Unit)) × Bool × List ByteArray × Unit) × (ByteArray × Int × Int × Int × (List (ByteArray × ByteArray × ByteArray × Bool × Unit)) × Bool × List ByteArray × Unit) × Unit)) => (chartularyref14_SameEntry.l1 k d.1.2.2.1 d.2.1.1 d.2.1.2.1 d.2.1.2.2.1 d.2.1.2.2.2.1 d.2.1.2.2.2.2.1 d.2.1.2.2.2.2.2.1 d.2.1.2.2.2.2.2.2.1 d.2.2.1.1 d.2.2.1.2.1 d.2.2.1.2.2.1 d.2.2.1.2.2.2.1 d.2.2.1.2.2.2.2.1 d.2.2.1.2.2.2.2.2.1 d.2.2.1.2.2.2.2.2.2.1 : Option chartularyref14_SameEntry.R)⟩
  | _ => none
noncomputable def chartularyref14_SameEntry.fd : FnD := ⟨Try.f25, chartularyref14_SameEntry.ini, chartularyref14_SameEntry.out, 1, [], [], chartularyref14_SameEntry.labF, fun k (d : ((ByteArray × Int × Int × Int × List (ByteArray × ByteArray × ByteArray × Bool × Unit) × Bool × List ByteArray × Unit) × (ByteArray × Int × Int × Int × List (ByteArray × ByteArray × ByteArray × Bool × Unit) × Bool × List ByteArray × Unit) × Unit) × (Unit)) => (chartularyref14_SameEntry.f k d.1.1 d.1.2.1 : Option chartularyref14_SameEntry.R)⟩

/-! ### chartularyref14_Same : function 11 -/
abbrev chartularyref14_Same.R := (Bool × Unit) × (Unit)
noncomputable def chartularyref14_Same.f : Nat → (Int × (ByteArray × Int × Int × Int × List (ByteArray × ByteArray × ByteArray × Bool × Unit) × Bool × List ByteArray × Unit) × Int × Int × ByteArray × (Int × ByteArray × Unit) × Int × Unit) → (Int × (ByteArray × Int × Int × Int × List (ByteArray × ByteArray × ByteArray × Bool × Unit) × Bool × List ByteArray × Unit) × Int × Int × ByteArray × (Int × ByteArray × Unit) × Int × Unit) → Option chartularyref14_Same.R
  | 0, _, _ => none
  | k + 1, x0, x1 =>
    bif (x0.1 : Int) == x1.1 then
      bif (x0.2.2.1 : Int) == x1.2.2.1 then
        bif (x0.2.2.2.1 : Int) == x1.2.2.2.1 then
          bif x0.2.2.2.2.1.toList == x1.2.2.2.2.1.toList then
            bif ((x0.2.2.2.2.2.1.1 : Int) == x1.2.2.2.2.2.1.1 && (seqB x0.2.2.2.2.2.1.2.1 x1.2.2.2.2.2.1.2.1 && true)) then
              bif (x0.2.2.2.2.2.2.1 : Int) == x1.2.2.2.2.2.2.1 then
                (chartularyref14_SameEntry.f k (x0.2.1.1, (x0.2.1.2.1, (x0.2.1.2.2.1, (x0.2.1.2.2.2.1, (x0.2.1.2.2.2.2.1, (x0.2.1.2.2.2.2.2.1, (x0.2.1.2.2.2.2.2.2.1, ()))))))) (x1.2.1.1, (x1.2.1.2.1, (x1.2.1.2.2.1, (x1.2.1.2.2.2.1, (x1.2.1.2.2.2.2.1, (x1.2.1.2.2.2.2.2.1, (x1.2.1.2.2.2.2.2.2.1, ())))))))).bind fun r1 =>
                some ((r1.1.1, ()), (()))
              else
                some ((false, ()), (()))
            else
              some ((false, ()), (()))
          else
            some ((false, ()), (()))
        else
          some ((false, ()), (()))
      else
        some ((false, ()), (()))
    else
      some ((false, ()), (()))
abbrev chartularyref14_Same.ini : LSh := ⟨[(0, .val (.cons (.int .i64) (.cons (.cons .str (.cons (.int .i64) (.cons (.int .i64) (.cons (.int .i64) (.cons (.sl (.cons .str (.cons .str (.cons .str (.cons .bool .nil))))) (.cons .bool (.cons (.sl .str) .nil))))))) (.cons (.int .i64) (.cons (.int .i64) (.cons .str (.cons (.cons (.int .i64) (.cons .str .nil)) (.cons (.int .i64) .nil)))))))), (1, .val (.cons (.int .i64) (.cons (.cons .str (.cons (.int .i64) (.cons (.int .i64) (.cons (.int .i64) (.cons (.sl (.cons .str (.cons .str (.cons .str (.cons .bool .nil))))) (.cons .bool (.cons (.sl .str) .nil))))))) (.cons (.int .i64) (.cons (.int .i64) (.cons .str (.cons (.cons (.int .i64) (.cons .str .nil)) (.cons (.int .i64) .nil))))))))], []⟩
abbrev chartularyref14_Same.out : LSh := ⟨[(0, .val .bool)], []⟩
noncomputable def chartularyref14_Same.labF : Nat → Option (LabF chartularyref14_Same.out.den)
  | _ => none
noncomputable def chartularyref14_Same.fd : FnD := ⟨Try.f11, chartularyref14_Same.ini, chartularyref14_Same.out, 1, [], [], chartularyref14_Same.labF, fun k (d : ((Int × (ByteArray × Int × Int × Int × List (ByteArray × ByteArray × ByteArray × Bool × Unit) × Bool × List ByteArray × Unit) × Int × Int × ByteArray × (Int × ByteArray × Unit) × Int × Unit) × (Int × (ByteArray × Int × Int × Int × List (ByteArray × ByteArray × ByteArray × Bool × Unit) × Bool × List ByteArray × Unit) × Int × Int × ByteArray × (Int × ByteArray × Unit) × Int × Unit) × Unit) × (Unit)) => (chartularyref14_Same.f k d.1.1 d.1.2.1 : Option chartularyref14_Same.R)⟩

/-! ### chartularyref14_Clean : function 12 -/
abbrev chartularyref14_Clean.R := ((Int × (ByteArray × Int × Int × Int × List (ByteArray × ByteArray × ByteArray × Bool × Unit) × Bool × List ByteArray × Unit) × Int × Int × ByteArray × (Int × ByteArray × Unit) × Int × Unit) × Unit) × (Unit)
mutual
noncomputable def chartularyref14_Clean.j0 : Nat → Int → Bool → Int → (ByteArray × Int × Int × Int × List (ByteArray × ByteArray × ByteArray × Bool × Unit) × Bool × List ByteArray × Unit) → Int → Int → ByteArray → (Int × ByteArray × Unit) → Int → Int → (ByteArray × Int × Int × Int × List (ByteArray × ByteArray × ByteArray × Bool × Unit) × Bool × List ByteArray × Unit) → Int → Int → ByteArray → (Int × ByteArray × Unit) → Int → Option chartularyref14_Clean.R
  | 0, _, _, _, _, _, _, _, _, _, _, _, _, _, _, _, _ => none
  | k + 1, x4, x25, o1_0, o1_1, o1_2, o1_3, o1_4, o1_5, o1_6, o2_0, o2_1, o2_2, o2_3, o2_4, o2_5, o2_6 =>
    bif x25 then
      some (((o1_0, ((ByteArray.empty, (0, (0, (0, (([] : List (ByteArray × ByteArray × ByteArray × Bool × Unit)), (false, (([] : List ByteArray), ()))))))), (o1_2, (0, (o1_4, ((0, (ByteArray.empty, ())), (0, ()))))))), ()), (()))
    else
    bif (x4 : Int) == 6 then
      some (((6, ((ByteArray.empty, (0, (0, (0, (([] : List (ByteArray × ByteArray × ByteArray × Bool × Unit)), (false, (([] : List ByteArray), ()))))))), (0, (0, (ByteArray.empty, ((o1_5.1, (o1_5.2.1, ())), (0, ()))))))), ()), (()))
    else
    bif (x4 : Int) == 7 then
      some (((7, ((ByteArray.empty, (0, (0, (0, (([] : List (ByteArray × ByteArray × ByteArray × Bool × Unit)), (false, (([] : List ByteArray), ()))))))), (0, (0, (ByteArray.empty, ((0, (ByteArray.empty, ())), (o1_6, ()))))))), ()), (()))
    else
      some (((o1_0, ((ByteArray.empty, (0, (0, (0, (([] : List (ByteArray × ByteArray × ByteArray × Bool × Unit)), (false, (([] : List ByteArray), ()))))))), (0, (0, (ByteArray.empty, ((0, (ByteArray.empty, ())), (0, ()))))))), ()), (()))
noncomputable def chartularyref14_Clean.f : Nat → (Int × (ByteArray × Int × Int × Int × List (ByteArray × ByteArray × ByteArray × Bool × Unit) × Bool × List ByteArray × Unit) × Int × Int × ByteArray × (Int × ByteArray × Unit) × Int × Unit) → Option chartularyref14_Clean.R
  | 0, _ => none
  | k + 1, x0 =>
    bif (x0.1 : Int) == 1 then
      some (((1, ((x0.2.1.1, (x0.2.1.2.1, (x0.2.1.2.2.1, (x0.2.1.2.2.2.1, (x0.2.1.2.2.2.2.1, (x0.2.1.2.2.2.2.2.1, (x0.2.1.2.2.2.2.2.2.1, ()))))))), (0, (0, (ByteArray.empty, ((0, (ByteArray.empty, ())), (0, ()))))))), ()), (()))
    else
    bif (x0.1 : Int) == 2 then
      some (((2, ((ByteArray.empty, (0, (0, (0, (([] : List (ByteArray × ByteArray × ByteArray × Bool × Unit)), (false, (([] : List ByteArray), ()))))))), (x0.2.2.1, (x0.2.2.2.1, (ByteArray.empty, ((0, (ByteArray.empty, ())), (0, ()))))))), ()), (()))
    else
    bif (x0.1 : Int) == 3 then
      some (((3, ((ByteArray.empty, (0, (0, (0, (([] : List (ByteArray × ByteArray × ByteArray × Bool × Unit)), (false, (([] : List ByteArray), ()))))))), (x0.2.2.1, (0, (ByteArray.empty, ((0, (ByteArray.empty, ())), (0, ()))))))), ()), (()))
    else
    bif (x0.1 : Int) == 4 then
      chartularyref14_Clean.j0 k x0.1 ((x0.1 : Int) == 4) x0.1 (x0.2.1.1, (x0.2.1.2.1, (x0.2.1.2.2.1, (x0.2.1.2.2.2.1, (x0.2.1.2.2.2.2.1, (x0.2.1.2.2.2.2.2.1, (x0.2.1.2.2.2.2.2.2.1, ()))))))) x0.2.2.1 x0.2.2.2.1 x0.2.2.2.2.1 (x0.2.2.2.2.2.1.1, (x0.2.2.2.2.2.1.2.1, ())) x0.2.2.2.2.2.2.1 0 (ByteArray.empty, (0, (0, (0, (([] : List (ByteArray × ByteArray × ByteArray × Bool × Unit)), (false, (([] : List ByteArray), ()))))))) 0 0 ByteArray.empty (0, (ByteArray.empty, ())) 0
    else
      chartularyref14_Clean.j0 k x0.1 ((x0.1 : Int) == 5) x0.1 (x0.2.1.1, (x0.2.1.2.1, (x0.2.1.2.2.1, (x0.2.1.2.2.2.1, (x0.2.1.2.2.2.2.1, (x0.2.1.2.2.2.2.2.1, (x0.2.1.2.2.2.2.2.2.1, ()))))))) x0.2.2.1 x0.2.2.2.1 x0.2.2.2.2.1 (x0.2.2.2.2.2.1.1, (x0.2.2.2.2.2.1.2.1, ())) x0.2.2.2.2.2.2.1 0 (ByteArray.empty, (0, (0, (0, (([] : List (ByteArray × ByteArray × ByteArray × Bool × Unit)), (false, (([] : List ByteArray), ()))))))) 0 0 ByteArray.empty (0, (ByteArray.empty, ())) 0
end
abbrev chartularyref14_Clean.ini : LSh := ⟨[(0, .val (.cons (.int .i64) (.cons (.cons .str (.cons (.int .i64) (.cons (.int .i64) (.cons (.int .i64) (.cons (.sl (.cons .str (.cons .str (.cons .str (.cons .bool .nil))))) (.cons .bool (.cons (.sl .str) .nil))))))) (.cons (.int .i64) (.cons (.int .i64) (.cons .str (.cons (.cons (.int .i64) (.cons .str .nil)) (.cons (.int .i64) .nil))))))))], []⟩
abbrev chartularyref14_Clean.out : LSh := ⟨[(0, .val (.cons (.int .i64) (.cons (.cons .str (.cons (.int .i64) (.cons (.int .i64) (.cons (.int .i64) (.cons (.sl (.cons .str (.cons .str (.cons .str (.cons .bool .nil))))) (.cons .bool (.cons (.sl .str) .nil))))))) (.cons (.int .i64) (.cons (.int .i64) (.cons .str (.cons (.cons (.int .i64) (.cons .str .nil)) (.cons (.int .i64) .nil))))))))], []⟩
abbrev chartularyref14_Clean.j0s : LSh := ⟨[(1, .ptr 1 0), (2, .ptr 2 0), (4, .val (.int .i64)), (25, .val .bool)], [(1, 29, [.val (.int .i64), .val (.cons .str (.cons (.int .i64) (.cons (.int .i64) (.cons (.int .i64) (.cons (.sl (.cons .str (.cons .str (.cons .str (.cons .bool .nil))))) (.cons .bool (.cons (.sl .str) .nil))))))), .val (.int .i64), .val (.int .i64), .val .str, .val (.cons (.int .i64) (.cons .str .nil)), .val (.int .i64)]), (2, 29, [.val (.int .i64), .val (.cons .str (.cons (.int .i64) (.cons (.int .i64) (.cons (.int .i64) (.cons (.sl (.cons .str (.cons .str (.cons .str (.cons .bool .nil))))) (.cons .bool (.cons (.sl .str) .nil))))))), .val (.int .i64), .val (.int .i64), .val .str, .val (.cons (.int .i64) (.cons .str .nil)), .val (.int .i64)])]⟩
noncomputable def chartularyref14_Clean.labF : Nat → Option (LabF chartularyref14_Clean.out.den)
  | 23 => some ⟨chartularyref14_Clean.j0s, fun k (d : (Unit × Unit × Int × Bool × Unit) × ((Int × (ByteArray × Int × Int × Int × List (ByteArray × ByteArray × ByteArray × Bool × Unit) × Bool × List ByteArray × Unit) × Int × Int × ByteArray × (Int × ByteArray × Unit) × Int × Unit) × (Int × (ByteArray × Int × Int × Int × List (ByteArray × ByteArray × ByteArray × Bool × Unit) × Bool × List ByteArray × Unit) × Int × Int × ByteArray × (Int × ByteArray × Unit) × Int × Unit) × Unit)) => (chartularyref14_Clean.j0 k d.1.2.2.1 d.1.2.2.2.1 d.2.1.1 d.2.1.2.1 d.2.1.2.2.1 d.2.1.2.2.2.1 d.2.1.2.2.2.2.1 d.2.1.2.2.2.2.2.1 d.2.1.2.2.2.2.2.2.1 d.2.2.1.1 d.2.2.1.2.1 d.2.2.1.2.2.1 d.2.2.1.2.2.2.1 d.2.2.1.2.2.2.2.1 d.2.2.1.2.2.2.2.2.1 d.2.2.1.2.2.2.2.2.2.1 : Option chartularyref14_Clean.R)⟩
  | _ => none
noncomputable def chartularyref14_Clean.fd : FnD := ⟨Try.f12, chartularyref14_Clean.ini, chartularyref14_Clean.out, 1, [], [], chartularyref14_Clean.labF, fun k (d : ((Int × (ByteArray × Int × Int × Int × List (ByteArray × ByteArray × ByteArray × Bool × Unit) × Bool × List ByteArray × Unit) × Int × Int × ByteArray × (Int × ByteArray × Unit) × Int × Unit) × Unit) × (Unit)) => (chartularyref14_Clean.f k d.1.1 : Option chartularyref14_Clean.R)⟩

/-! ### event_Same : function 13 -/
abbrev event_Same.R := (Bool × Unit) × (Unit)
noncomputable def event_Same.f : Nat → (Int × (ByteArray × Int × Int × Int × List (ByteArray × ByteArray × ByteArray × Bool × Unit) × Bool × List ByteArray × Unit) × Int × Int × ByteArray × (Int × ByteArray × Unit) × Int × Unit) → (Int × (ByteArray × Int × Int × Int × List (ByteArray × ByteArray × ByteArray × Bool × Unit) × Bool × List ByteArray × Unit) × Int × Int × ByteArray × (Int × ByteArray × Unit) × Int × Unit) → Option event_Same.R
  | 0, _, _ => none
  | k + 1, x0, x1 =>
    (event_Right.f k (x0.1, ((x0.2.1.1, (x0.2.1.2.1, (x0.2.1.2.2.1, (x0.2.1.2.2.2.1, (x0.2.1.2.2.2.2.1, (x0.2.1.2.2.2.2.2.1, (x0.2.1.2.2.2.2.2.2.1, ()))))))), (x0.2.2.1, (x0.2.2.2.1, (x0.2.2.2.2.1, ((x0.2.2.2.2.2.1.1, (x0.2.2.2.2.2.1.2.1, ())), (x0.2.2.2.2.2.2.1, ())))))))).bind fun r1 =>
    bif r1.1.1 then
      (event_Right.f k (x1.1, ((x1.2.1.1, (x1.2.1.2.1, (x1.2.1.2.2.1, (x1.2.1.2.2.2.1, (x1.2.1.2.2.2.2.1, (x1.2.1.2.2.2.2.2.1, (x1.2.1.2.2.2.2.2.2.1, ()))))))), (x1.2.2.1, (x1.2.2.2.1, (x1.2.2.2.2.1, ((x1.2.2.2.2.2.1.1, (x1.2.2.2.2.2.1.2.1, ())), (x1.2.2.2.2.2.2.1, ())))))))).bind fun r2 =>
      bif r2.1.1 then
        (event_Bytes.f k (x0.1, ((x0.2.1.1, (x0.2.1.2.1, (x0.2.1.2.2.1, (x0.2.1.2.2.2.1, (x0.2.1.2.2.2.2.1, (x0.2.1.2.2.2.2.2.1, (x0.2.1.2.2.2.2.2.2.1, ()))))))), (x0.2.2.1, (x0.2.2.2.1, (x0.2.2.2.2.1, ((x0.2.2.2.2.2.1.1, (x0.2.2.2.2.2.1.2.1, ())), (x0.2.2.2.2.2.2.1, ())))))))).bind fun r3 =>
        (event_Bytes.f k (x1.1, ((x1.2.1.1, (x1.2.1.2.1, (x1.2.1.2.2.1, (x1.2.1.2.2.2.1, (x1.2.1.2.2.2.2.1, (x1.2.1.2.2.2.2.2.1, (x1.2.1.2.2.2.2.2.2.1, ()))))))), (x1.2.2.1, (x1.2.2.2.1, (x1.2.2.2.2.1, ((x1.2.2.2.2.2.1.1, (x1.2.2.2.2.2.1.2.1, ())), (x1.2.2.2.2.2.2.1, ())))))))).bind fun r4 =>
        some ((r3.1.1.toList == r4.1.1.toList, ()), (()))
      else
        some ((false, ()), (()))
    else
      some ((false, ()), (()))
abbrev event_Same.ini : LSh := ⟨[(0, .val (.cons (.int .i64) (.cons (.cons .str (.cons (.int .i64) (.cons (.int .i64) (.cons (.int .i64) (.cons (.sl (.cons .str (.cons .str (.cons .str (.cons .bool .nil))))) (.cons .bool (.cons (.sl .str) .nil))))))) (.cons (.int .i64) (.cons (.int .i64) (.cons .str (.cons (.cons (.int .i64) (.cons .str .nil)) (.cons (.int .i64) .nil)))))))), (1, .val (.cons (.int .i64) (.cons (.cons .str (.cons (.int .i64) (.cons (.int .i64) (.cons (.int .i64) (.cons (.sl (.cons .str (.cons .str (.cons .str (.cons .bool .nil))))) (.cons .bool (.cons (.sl .str) .nil))))))) (.cons (.int .i64) (.cons (.int .i64) (.cons .str (.cons (.cons (.int .i64) (.cons .str .nil)) (.cons (.int .i64) .nil))))))))], []⟩
abbrev event_Same.out : LSh := ⟨[(0, .val .bool)], []⟩
noncomputable def event_Same.labF : Nat → Option (LabF event_Same.out.den)
  | _ => none
noncomputable def event_Same.fd : FnD := ⟨Try.f13, event_Same.ini, event_Same.out, 1, [], [], event_Same.labF, fun k (d : ((Int × (ByteArray × Int × Int × Int × List (ByteArray × ByteArray × ByteArray × Bool × Unit) × Bool × List ByteArray × Unit) × Int × Int × ByteArray × (Int × ByteArray × Unit) × Int × Unit) × (Int × (ByteArray × Int × Int × Int × List (ByteArray × ByteArray × ByteArray × Bool × Unit) × Bool × List ByteArray × Unit) × Int × Int × ByteArray × (Int × ByteArray × Unit) × Int × Unit) × Unit) × (Unit)) => (event_Same.f k d.1.1 d.1.2.1 : Option event_Same.R)⟩

/-! ### chartularylaw14_EventSames : function 4 -/
abbrev chartularylaw14_EventSames.R := (Bool × Unit) × (Unit)
mutual
noncomputable def chartularylaw14_EventSames.j0 : Nat → Bool → Int → (ByteArray × Int × Int × Int × List (ByteArray × ByteArray × ByteArray × Bool × Unit) × Bool × List ByteArray × Unit) → Int → Int → ByteArray → (Int × ByteArray × Unit) → Int → Int → (ByteArray × Int × Int × Int × List (ByteArray × ByteArray × ByteArray × Bool × Unit) × Bool × List ByteArray × Unit) → Int → Int → ByteArray → (Int × ByteArray × Unit) → Int → Option chartularylaw14_EventSames.R
  | 0, _, _, _, _, _, _, _, _, _, _, _, _, _, _, _ => none
  | k + 1, x5, o2_0, o2_1, o2_2, o2_3, o2_4, o2_5, o2_6, o3_0, o3_1, o3_2, o3_3, o3_4, o3_5, o3_6 =>
    (event_Same.f k (o2_0, ((o2_1.1, (o2_1.2.1, (o2_1.2.2.1, (o2_1.2.2.2.1, (o2_1.2.2.2.2.1, (o2_1.2.2.2.2.2.1, (o2_1.2.2.2.2.2.2.1, ()))))))), (o2_2, (o2_3, (o2_4, ((o2_5.1, (o2_5.2.1, ())), (o2_6, ()))))))) (o3_0, ((o3_1.1, (o3_1.2.1, (o3_1.2.2.1, (o3_1.2.2.2.1, (o3_1.2.2.2.2.1, (o3_1.2.2.2.2.2.1, (o3_1.2.2.2.2.2.2.1, ()))))))), (o3_2, (o3_3, (o3_4, ((o3_5.1, (o3_5.2.1, ())), (o3_6, ())))))))).bind fun r8 =>
    bif (bif r8.1.1 == x5 then true else false) then
      (chartularylaw14_awake.f k).bind fun r9 =>
      some ((r9.1.1, ()), (()))
    else
      some ((false, ()), (()))
noncomputable def chartularylaw14_EventSames.f : Nat → (Int × (ByteArray × Int × Int × Int × List (ByteArray × ByteArray × ByteArray × Bool × Unit) × Bool × List ByteArray × Unit) × Int × Int × ByteArray × (Int × ByteArray × Unit) × Int × Unit) → (Int × (ByteArray × Int × Int × Int × List (ByteArray × ByteArray × ByteArray × Bool × Unit) × Bool × List ByteArray × Unit) × Int × Int × ByteArray × (Int × ByteArray × Unit) × Int × Unit) → Option chartularylaw14_EventSames.R
  | 0, _, _ => none
  | k + 1, x0, x1 =>
    (chartularylaw14_Few.f k (x0.1, ((x0.2.1.1, (x0.2.1.2.1, (x0.2.1.2.2.1, (x0.2.1.2.2.2.1, (x0.2.1.2.2.2.2.1, (x0.2.1.2.2.2.2.2.1, (x0.2.1.2.2.2.2.2.2.1, ()))))))), (x0.2.2.1, (x0.2.2.2.1, (x0.2.2.2.2.1, ((x0.2.2.2.2.2.1.1, (x0.2.2.2.2.2.1.2.1, ())), (x0.2.2.2.2.2.2.1, ())))))))).bind fun r1 =>
    (chartularylaw14_Few.f k (x1.1, ((x1.2.1.1, (x1.2.1.2.1, (x1.2.1.2.2.1, (x1.2.1.2.2.2.1, (x1.2.1.2.2.2.2.1, (x1.2.1.2.2.2.2.2.1, (x1.2.1.2.2.2.2.2.2.1, ()))))))), (x1.2.2.1, (x1.2.2.2.1, (x1.2.2.2.2.1, ((x1.2.2.2.2.2.1.1, (x1.2.2.2.2.2.1.2.1, ())), (x1.2.2.2.2.2.2.1, ())))))))).bind fun r2 =>
    (chartularyref14_Right.f k (r1.1.1.1, ((r1.1.1.2.1.1, (r1.1.1.2.1.2.1, (r1.1.1.2.1.2.2.1, (r1.1.1.2.1.2.2.2.1, (r1.1.1.2.1.2.2.2.2.1, (r1.1.1.2.1.2.2.2.2.2.1, (r1.1.1.2.1.2.2.2.2.2.2.1, ()))))))), (r1.1.1.2.2.1, (r1.1.1.2.2.2.1, (r1.1.1.2.2.2.2.1, ((r1.1.1.2.2.2.2.2.1.1, (r1.1.1.2.2.2.2.2.1.2.1, ())), (r1.1.1.2.2.2.2.2.2.1, ())))))))).bind fun r3 =>
    bif r3.1.1 then
      (chartularyref14_Right.f k (r2.1.1.1, ((r2.1.1.2.1.1, (r2.1.1.2.1.2.1, (r2.1.1.2.1.2.2.1, (r2.1.1.2.1.2.2.2.1, (r2.1.1.2.1.2.2.2.2.1, (r2.1.1.2.1.2.2.2.2.2.1, (r2.1.1.2.1.2.2.2.2.2.2.1, ()))))))), (r2.1.1.2.2.1, (r2.1.1.2.2.2.1, (r2.1.1.2.2.2.2.1, ((r2.1.1.2.2.2.2.2.1.1, (r2.1.1.2.2.2.2.2.1.2.1, ())), (r2.1.1.2.2.2.2.2.2.1, ())))))))).bind fun r4 =>
      bif r4.1.1 then
        (chartularyref14_Clean.f k (r1.1.1.1, ((r1.1.1.2.1.1, (r1.1.1.2.1.2.1, (r1.1.1.2.1.2.2.1, (r1.1.1.2.1.2.2.2.1, (r1.1.1.2.1.2.2.2.2.1, (r1.1.1.2.1.2.2.2.2.2.1, (r1.1.1.2.1.2.2.2.2.2.2.1, ()))))))), (r1.1.1.2.2.1, (r1.1.1.2.2.2.1, (r1.1.1.2.2.2.2.1, ((r1.1.1.2.2.2.2.2.1.1, (r1.1.1.2.2.2.2.2.1.2.1, ())), (r1.1.1.2.2.2.2.2.2.1, ())))))))).bind fun r5 =>
        (chartularyref14_Clean.f k (r2.1.1.1, ((r2.1.1.2.1.1, (r2.1.1.2.1.2.1, (r2.1.1.2.1.2.2.1, (r2.1.1.2.1.2.2.2.1, (r2.1.1.2.1.2.2.2.2.1, (r2.1.1.2.1.2.2.2.2.2.1, (r2.1.1.2.1.2.2.2.2.2.2.1, ()))))))), (r2.1.1.2.2.1, (r2.1.1.2.2.2.1, (r2.1.1.2.2.2.2.1, ((r2.1.1.2.2.2.2.2.1.1, (r2.1.1.2.2.2.2.2.1.2.1, ())), (r2.1.1.2.2.2.2.2.2.1, ())))))))).bind fun r6 =>
        (chartularyref14_Same.f k (r5.1.1.1, ((r5.1.1.2.1.1, (r5.1.1.2.1.2.1, (r5.1.1.2.1.2.2.1, (r5.1.1.2.1.2.2.2.1, (r5.1.1.2.1.2.2.2.2.1, (r5.1.1.2.1.2.2.2.2.2.1, (r5.1.1.2.1.2.2.2.2.2.2.1, ()))))))), (r5.1.1.2.2.1, (r5.1.1.2.2.2.1, (r5.1.1.2.2.2.2.1, ((r5.1.1.2.2.2.2.2.1.1, (r5.1.1.2.2.2.2.2.1.2.1, ())), (r5.1.1.2.2.2.2.2.2.1, ()))))))) (r6.1.1.1, ((r6.1.1.2.1.1, (r6.1.1.2.1.2.1, (r6.1.1.2.1.2.2.1, (r6.1.1.2.1.2.2.2.1, (r6.1.1.2.1.2.2.2.2.1, (r6.1.1.2.1.2.2.2.2.2.1, (r6.1.1.2.1.2.2.2.2.2.2.1, ()))))))), (r6.1.1.2.2.1, (r6.1.1.2.2.2.1, (r6.1.1.2.2.2.2.1, ((r6.1.1.2.2.2.2.2.1.1, (r6.1.1.2.2.2.2.2.1.2.1, ())), (r6.1.1.2.2.2.2.2.2.1, ())))))))).bind fun r7 =>
        chartularylaw14_EventSames.j0 k r7.1.1 r1.1.1.1 (r1.1.1.2.1.1, (r1.1.1.2.1.2.1, (r1.1.1.2.1.2.2.1, (r1.1.1.2.1.2.2.2.1, (r1.1.1.2.1.2.2.2.2.1, (r1.1.1.2.1.2.2.2.2.2.1, (r1.1.1.2.1.2.2.2.2.2.2.1, ()))))))) r1.1.1.2.2.1 r1.1.1.2.2.2.1 r1.1.1.2.2.2.2.1 (r1.1.1.2.2.2.2.2.1.1, (r1.1.1.2.2.2.2.2.1.2.1, ())) r1.1.1.2.2.2.2.2.2.1 r2.1.1.1 (r2.1.1.2.1.1, (r2.1.1.2.1.2.1, (r2.1.1.2.1.2.2.1, (r2.1.1.2.1.2.2.2.1, (r2.1.1.2.1.2.2.2.2.1, (r2.1.1.2.1.2.2.2.2.2.1, (r2.1.1.2.1.2.2.2.2.2.2.1, ()))))))) r2.1.1.2.2.1 r2.1.1.2.2.2.1 r2.1.1.2.2.2.2.1 (r2.1.1.2.2.2.2.2.1.1, (r2.1.1.2.2.2.2.2.1.2.1, ())) r2.1.1.2.2.2.2.2.2.1
      else
        chartularylaw14_EventSames.j0 k false r1.1.1.1 (r1.1.1.2.1.1, (r1.1.1.2.1.2.1, (r1.1.1.2.1.2.2.1, (r1.1.1.2.1.2.2.2.1, (r1.1.1.2.1.2.2.2.2.1, (r1.1.1.2.1.2.2.2.2.2.1, (r1.1.1.2.1.2.2.2.2.2.2.1, ()))))))) r1.1.1.2.2.1 r1.1.1.2.2.2.1 r1.1.1.2.2.2.2.1 (r1.1.1.2.2.2.2.2.1.1, (r1.1.1.2.2.2.2.2.1.2.1, ())) r1.1.1.2.2.2.2.2.2.1 r2.1.1.1 (r2.1.1.2.1.1, (r2.1.1.2.1.2.1, (r2.1.1.2.1.2.2.1, (r2.1.1.2.1.2.2.2.1, (r2.1.1.2.1.2.2.2.2.1, (r2.1.1.2.1.2.2.2.2.2.1, (r2.1.1.2.1.2.2.2.2.2.2.1, ()))))))) r2.1.1.2.2.1 r2.1.1.2.2.2.1 r2.1.1.2.2.2.2.1 (r2.1.1.2.2.2.2.2.1.1, (r2.1.1.2.2.2.2.2.1.2.1, ())) r2.1.1.2.2.2.2.2.2.1
    else
      chartularylaw14_EventSames.j0 k false r1.1.1.1 (r1.1.1.2.1.1, (r1.1.1.2.1.2.1, (r1.1.1.2.1.2.2.1, (r1.1.1.2.1.2.2.2.1, (r1.1.1.2.1.2.2.2.2.1, (r1.1.1.2.1.2.2.2.2.2.1, (r1.1.1.2.1.2.2.2.2.2.2.1, ()))))))) r1.1.1.2.2.1 r1.1.1.2.2.2.1 r1.1.1.2.2.2.2.1 (r1.1.1.2.2.2.2.2.1.1, (r1.1.1.2.2.2.2.2.1.2.1, ())) r1.1.1.2.2.2.2.2.2.1 r2.1.1.1 (r2.1.1.2.1.1, (r2.1.1.2.1.2.1, (r2.1.1.2.1.2.2.1, (r2.1.1.2.1.2.2.2.1, (r2.1.1.2.1.2.2.2.2.1, (r2.1.1.2.1.2.2.2.2.2.1, (r2.1.1.2.1.2.2.2.2.2.2.1, ()))))))) r2.1.1.2.2.1 r2.1.1.2.2.2.1 r2.1.1.2.2.2.2.1 (r2.1.1.2.2.2.2.2.1.1, (r2.1.1.2.2.2.2.2.1.2.1, ())) r2.1.1.2.2.2.2.2.2.1
end
abbrev chartularylaw14_EventSames.ini : LSh := ⟨[(0, .val (.cons (.int .i64) (.cons (.cons .str (.cons (.int .i64) (.cons (.int .i64) (.cons (.int .i64) (.cons (.sl (.cons .str (.cons .str (.cons .str (.cons .bool .nil))))) (.cons .bool (.cons (.sl .str) .nil))))))) (.cons (.int .i64) (.cons (.int .i64) (.cons .str (.cons (.cons (.int .i64) (.cons .str .nil)) (.cons (.int .i64) .nil)))))))), (1, .val (.cons (.int .i64) (.cons (.cons .str (.cons (.int .i64) (.cons (.int .i64) (.cons (.int .i64) (.cons (.sl (.cons .str (.cons .str (.cons .str (.cons .bool .nil))))) (.cons .bool (.cons (.sl .str) .nil))))))) (.cons (.int .i64) (.cons (.int .i64) (.cons .str (.cons (.cons (.int .i64) (.cons .str .nil)) (.cons (.int .i64) .nil))))))))], []⟩
abbrev chartularylaw14_EventSames.out : LSh := ⟨[(0, .val .bool)], []⟩
abbrev chartularylaw14_EventSames.j0s : LSh := ⟨[(2, .ptr 2 0), (3, .ptr 3 0), (5, .val .bool)], [(2, 29, [.val (.int .i64), .val (.cons .str (.cons (.int .i64) (.cons (.int .i64) (.cons (.int .i64) (.cons (.sl (.cons .str (.cons .str (.cons .str (.cons .bool .nil))))) (.cons .bool (.cons (.sl .str) .nil))))))), .val (.int .i64), .val (.int .i64), .val .str, .val (.cons (.int .i64) (.cons .str .nil)), .val (.int .i64)]), (3, 29, [.val (.int .i64), .val (.cons .str (.cons (.int .i64) (.cons (.int .i64) (.cons (.int .i64) (.cons (.sl (.cons .str (.cons .str (.cons .str (.cons .bool .nil))))) (.cons .bool (.cons (.sl .str) .nil))))))), .val (.int .i64), .val (.int .i64), .val .str, .val (.cons (.int .i64) (.cons .str .nil)), .val (.int .i64)])]⟩
noncomputable def chartularylaw14_EventSames.labF : Nat → Option (LabF chartularylaw14_EventSames.out.den)
  | 9 => some ⟨chartularylaw14_EventSames.j0s, fun k (d : (Unit × Unit × Bool × Unit) × ((Int × (ByteArray × Int × Int × Int × List (ByteArray × ByteArray × ByteArray × Bool × Unit) × Bool × List ByteArray × Unit) × Int × Int × ByteArray × (Int × ByteArray × Unit) × Int × Unit) × (Int × (ByteArray × Int × Int × Int × List (ByteArray × ByteArray × ByteArray × Bool × Unit) × Bool × List ByteArray × Unit) × Int × Int × ByteArray × (Int × ByteArray × Unit) × Int × Unit) × Unit)) => (chartularylaw14_EventSames.j0 k d.1.2.2.1 d.2.1.1 d.2.1.2.1 d.2.1.2.2.1 d.2.1.2.2.2.1 d.2.1.2.2.2.2.1 d.2.1.2.2.2.2.2.1 d.2.1.2.2.2.2.2.2.1 d.2.2.1.1 d.2.2.1.2.1 d.2.2.1.2.2.1 d.2.2.1.2.2.2.1 d.2.2.1.2.2.2.2.1 d.2.2.1.2.2.2.2.2.1 d.2.2.1.2.2.2.2.2.2.1 : Option chartularylaw14_EventSames.R)⟩
  | _ => none
noncomputable def chartularylaw14_EventSames.fd : FnD := ⟨Try.f4, chartularylaw14_EventSames.ini, chartularylaw14_EventSames.out, 1, [], [], chartularylaw14_EventSames.labF, fun k (d : ((Int × (ByteArray × Int × Int × Int × List (ByteArray × ByteArray × ByteArray × Bool × Unit) × Bool × List ByteArray × Unit) × Int × Int × ByteArray × (Int × ByteArray × Unit) × Int × Unit) × (Int × (ByteArray × Int × Int × Int × List (ByteArray × ByteArray × ByteArray × Bool × Unit) × Bool × List ByteArray × Unit) × Int × Int × ByteArray × (Int × ByteArray × Unit) × Int × Unit) × Unit) × (Unit)) => (chartularylaw14_EventSames.f k d.1.1 d.1.2.1 : Option chartularylaw14_EventSames.R)⟩

/-! ### octet_Read : function 26 -/
abbrev octet_Read.R := (Unit × Unit) × ((ByteArray × Int × Int × Unit) × Unit)
noncomputable def octet_Read.f : Nat → ByteArray → Option octet_Read.R
  | 0, _ => none
  | k + 1, x0 =>
    some (((), ()), ((x0, 0, 0, ()), ()))
abbrev octet_Read.ini : LSh := ⟨[(0, .val .str)], []⟩
abbrev octet_Read.out : LSh := ⟨[(0, .ptr 4000000 0)], [(4000000, 65, [.val .str, .val (.int .i64), .val (.int .i64)])]⟩
noncomputable def octet_Read.labF : Nat → Option (LabF octet_Read.out.den)
  | _ => none
noncomputable def octet_Read.fd : FnD := ⟨Try.f26, octet_Read.ini, octet_Read.out, 1, [], [], octet_Read.labF, fun k (d : (ByteArray × Unit) × (Unit)) => (octet_Read.f k d.1.1 : Option octet_Read.R)⟩

/-! ### octet_Reader_Fail : function 42 -/
abbrev octet_Reader_Fail.R := (Unit) × ((ByteArray × Int × Int × Unit) × Unit)
noncomputable def octet_Reader_Fail.f : Nat → Int → ByteArray → Int → Int → Option octet_Reader_Fail.R
  | 0, _, _, _, _ => none
  | k + 1, x1, o0_0, o0_1, o0_2 =>
    bif (o0_2 : Int) == 0 then
      some ((()), ((o0_0, o0_1, x1, ()), ()))
    else
      some ((()), ((o0_0, o0_1, o0_2, ()), ()))
abbrev octet_Reader_Fail.ini : LSh := ⟨[(0, .ptr 1000000 0), (1, .val (.int .i64))], [(1000000, 65, [.val .str, .val (.int .i64), .val (.int .i64)])]⟩
abbrev octet_Reader_Fail.out : LSh := ⟨[], [(1000000, 65, [.val .str, .val (.int .i64), .val (.int .i64)])]⟩
noncomputable def octet_Reader_Fail.labF : Nat → Option (LabF octet_Reader_Fail.out.den)
  | _ => none
noncomputable def octet_Reader_Fail.fd : FnD := ⟨Try.f42, octet_Reader_Fail.ini, octet_Reader_Fail.out, 0, [1000000], [], octet_Reader_Fail.labF, fun k (d : (Unit × Int × Unit) × ((ByteArray × Int × Int × Unit) × Unit)) => (octet_Reader_Fail.f k d.1.2.1 d.2.1.1 d.2.1.2.1 d.2.1.2.2.1 : Option octet_Reader_Fail.R)⟩

/-! ### octet_Reader_Err : function 43 -/
abbrev octet_Reader_Err.R := (Int × Unit) × (Unit)
noncomputable def octet_Reader_Err.f : Nat → ByteArray → Int → Int → Option octet_Reader_Err.R
  | 0, _, _, _ => none
  | k + 1, o0_0, o0_1, o0_2 =>
    some ((o0_2, ()), (()))
abbrev octet_Reader_Err.ini : LSh := ⟨[(0, .ptr 1000000 0)], [(1000000, 65, [.val .str, .val (.int .i64), .val (.int .i64)])]⟩
abbrev octet_Reader_Err.out : LSh := ⟨[(0, .val (.int .i64))], []⟩
noncomputable def octet_Reader_Err.labF : Nat → Option (LabF octet_Reader_Err.out.den)
  | _ => none
noncomputable def octet_Reader_Err.fd : FnD := ⟨Try.f43, octet_Reader_Err.ini, octet_Reader_Err.out, 1, [1000000], [1000000], octet_Reader_Err.labF, fun k (d : (Unit × Unit) × ((ByteArray × Int × Int × Unit) × Unit)) => (octet_Reader_Err.f k d.2.1.1 d.2.1.2.1 d.2.1.2.2.1 : Option octet_Reader_Err.R)⟩

/-! ### octet_Reader_Raw : function 41 -/
abbrev octet_Reader_Raw.R := (ByteArray × Unit) × ((ByteArray × Int × Int × Unit) × Unit)
noncomputable def octet_Reader_Raw.f : Nat → Int → ByteArray → Int → Int → Option octet_Reader_Raw.R
  | 0, _, _, _, _ => none
  | k + 1, x1, o0_0, o0_1, o0_2 =>
    (octet_Reader_Err.f k o0_0 o0_1 o0_2).bind fun r1 =>
    bif (r1.1.1 : Int) != 0 then
      some (((⟨#[]⟩ : ByteArray), ()), ((o0_0, o0_1, o0_2, ()), ()))
    else
    bif decide ((x1 : Int) < 0) then
      (octet_Reader_Fail.f k 1 o0_0 o0_1 o0_2).bind fun r2 =>
      some (((⟨#[]⟩ : ByteArray), ()), ((r2.2.1.1, r2.2.1.2.1, r2.2.1.2.2.1, ()), ()))
    else
    bif decide ((x1 : Int) > IntKind.wrap .i64 ((o0_0.size : Int) - o0_1)) then
      (octet_Reader_Fail.f k 2 o0_0 o0_1 o0_2).bind fun r3 =>
      some (((⟨#[]⟩ : ByteArray), ()), ((r3.2.1.1, r3.2.1.2.1, r3.2.1.2.2.1, ()), ()))
    else
      (ck (decide (0 ≤ IntKind.wrap .i64 ((IntKind.wrap .i64 (o0_1 + x1)) - x1)) && decide (IntKind.wrap .i64 ((IntKind.wrap .i64 (o0_1 + x1)) - x1) ≤ IntKind.wrap .i64 (o0_1 + x1)) && decide (IntKind.wrap .i64 (o0_1 + x1) ≤ (o0_0.size : Int)))).bind fun _ =>
      some ((o0_0.extract (IntKind.wrap .i64 ((IntKind.wrap .i64 (o0_1 + x1)) - x1) : Int).toNat (IntKind.wrap .i64 (o0_1 + x1) : Int).toNat, ()), ((o0_0, IntKind.wrap .i64 (o0_1 + x1), o0_2, ()), ()))
abbrev octet_Reader_Raw.ini : LSh := ⟨[(0, .ptr 1000000 0), (1, .val (.int .i64))], [(1000000, 65, [.val .str, .val (.int .i64), .val (.int .i64)])]⟩
abbrev octet_Reader_Raw.out : LSh := ⟨[(0, .val .str)], [(1000000, 65, [.val .str, .val (.int .i64), .val (.int .i64)])]⟩
noncomputable def octet_Reader_Raw.labF : Nat → Option (LabF octet_Reader_Raw.out.den)
  | _ => none
noncomputable def octet_Reader_Raw.fd : FnD := ⟨Try.f41, octet_Reader_Raw.ini, octet_Reader_Raw.out, 1, [1000000], [], octet_Reader_Raw.labF, fun k (d : (Unit × Int × Unit) × ((ByteArray × Int × Int × Unit) × Unit)) => (octet_Reader_Raw.f k d.1.2.1 d.2.1.1 d.2.1.2.1 d.2.1.2.2.1 : Option octet_Reader_Raw.R)⟩

/-! ### octet_Reader_Num : function 27 -/
abbrev octet_Reader_Num.R := (Int × Unit) × ((ByteArray × Int × Int × Unit) × Unit)
mutual
noncomputable def octet_Reader_Num.l0 : Nat → Int → Int → (List Int) → Int → Int → ByteArray → Int → Int → Option octet_Reader_Num.R
  | 0, _, _, _, _, _, _, _, _ => none
  | k + 1, x1, x7, x24, x25, x26, o0_0, o0_1, o0_2 =>
    bif decide ((x26 : Int) < x25) then
      (rdo x24 x26).bind fun t5 =>
      bif (x26 : Int) == 0 then
        bif (t5 : Int) == 0 then
          (octet_Reader_Fail.f k 4 o0_0 o0_1 o0_2).bind fun r6 =>
          some ((0, ()), ((r6.2.1.1, r6.2.1.2.1, r6.2.1.2.2.1, ()), ()))
        else
          (ck (!decide ((8 : Int) < 0))).bind fun _ =>
          octet_Reader_Num.l0 k x1 (IntKind.wrap .i64 ((BitVec.ofInt (IntKind.bits .i64) (IntKind.wrap .i64 (x7 * 2 ^ (min (8 : Int).toNat (IntKind.bits .i64)))) ||| BitVec.ofInt (IntKind.bits .i64) (IntKind.wrap .i64 t5)).toNat : Int)) x24 x25 (IntKind.wrap .i64 (x26 + 1)) o0_0 o0_1 o0_2
      else
        (ck (!decide ((8 : Int) < 0))).bind fun _ =>
        octet_Reader_Num.l0 k x1 (IntKind.wrap .i64 ((BitVec.ofInt (IntKind.bits .i64) (IntKind.wrap .i64 (x7 * 2 ^ (min (8 : Int).toNat (IntKind.bits .i64)))) ||| BitVec.ofInt (IntKind.bits .i64) (IntKind.wrap .i64 t5)).toNat : Int)) x24 x25 (IntKind.wrap .i64 (x26 + 1)) o0_0 o0_1 o0_2
    else
      (octet_Reader_Err.f k o0_0 o0_1 o0_2).bind fun r7 =>
      bif (r7.1.1 : Int) != 0 then
        some ((0, ()), ((o0_0, o0_1, o0_2, ()), ()))
      else
      bif decide ((x7 : Int) > x1) then
        (octet_Reader_Fail.f k 3 o0_0 o0_1 o0_2).bind fun r8 =>
        some ((0, ()), ((r8.2.1.1, r8.2.1.2.1, r8.2.1.2.2.1, ()), ()))
      else
        some ((x7, ()), ((o0_0, o0_1, o0_2, ()), ()))
noncomputable def octet_Reader_Num.f : Nat → Int → ByteArray → Int → Int → Option octet_Reader_Num.R
  | 0, _, _, _, _ => none
  | k + 1, x1, o0_0, o0_1, o0_2 =>
    (octet_Reader_Raw.f k 1 o0_0 o0_1 o0_2).bind fun r1 =>
    bif r1.1.1.toList == (⟨#[]⟩ : ByteArray).toList then
      some ((0, ()), ((r1.2.1.1, r1.2.1.2.1, r1.2.1.2.2.1, ()), ()))
    else
      (bto r1.1.1 0).bind fun t2 =>
      bif decide ((IntKind.wrap .i64 t2 : Int) > 7) then
        (octet_Reader_Fail.f k 4 r1.2.1.1 r1.2.1.2.1 r1.2.1.2.2.1).bind fun r3 =>
        some ((0, ()), ((r3.2.1.1, r3.2.1.2.1, r3.2.1.2.2.1, ()), ()))
      else
        (octet_Reader_Raw.f k (IntKind.wrap .i64 t2) r1.2.1.1 r1.2.1.2.1 r1.2.1.2.2.1).bind fun r4 =>
        octet_Reader_Num.l0 k x1 0 (bytesOf r4.1.1) ((bytesOf r4.1.1).length : Int) 0 r4.2.1.1 r4.2.1.2.1 r4.2.1.2.2.1
end
abbrev octet_Reader_Num.ini : LSh := ⟨[(0, .ptr 1000000 0), (1, .val (.int .i64))], [(1000000, 65, [.val .str, .val (.int .i64), .val (.int .i64)])]⟩
abbrev octet_Reader_Num.out : LSh := ⟨[(0, .val (.int .i64))], [(1000000, 65, [.val .str, .val (.int .i64), .val (.int .i64)])]⟩
abbrev octet_Reader_Num.l0s : LSh := ⟨[(0, .ptr 1000000 0), (1, .val (.int .i64)), (7, .val (.int .i64)), (24, .own 2000024 5 (.int .u8)), (25, .val (.int .i64)), (26, .val (.int .i64))], [(1000000, 65, [.val .str, .val (.int .i64), .val (.int .i64)])]⟩
noncomputable def octet_Reader_Num.labF : Nat → Option (LabF octet_Reader_Num.out.den)
  | 20 => some ⟨octet_Reader_Num.l0s, fun k (d : (Unit × Int × Int × List Int × Int × Int × Unit) × ((ByteArray × Int × Int × Unit) × Unit)) => (octet_Reader_Num.l0 k d.1.2.1 d.1.2.2.1 d.1.2.2.2.1 d.1.2.2.2.2.1 d.1.2.2.2.2.2.1 d.2.1.1 d.2.1.2.1 d.2.1.2.2.1 : Option octet_Reader_Num.R)⟩
  | _ => none
noncomputable def octet_Reader_Num.fd : FnD := ⟨Try.f27, octet_Reader_Num.ini, octet_Reader_Num.out, 1, [1000000], [], octet_Reader_Num.labF, fun k (d : (Unit × Int × Unit) × ((ByteArray × Int × Int × Unit) × Unit)) => (octet_Reader_Num.f k d.1.2.1 d.2.1.1 d.2.1.2.1 d.2.1.2.2.1 : Option octet_Reader_Num.R)⟩

/-! ### octet_Reader_Text : function 29 -/
abbrev octet_Reader_Text.R := (ByteArray × Unit) × ((ByteArray × Int × Int × Unit) × Unit)
noncomputable def octet_Reader_Text.f : Nat → Int → ByteArray → Int → Int → Option octet_Reader_Text.R
  | 0, _, _, _, _ => none
  | k + 1, x1, o0_0, o0_1, o0_2 =>
    (octet_Reader_Num.f k x1 o0_0 o0_1 o0_2).bind fun r1 =>
    (octet_Reader_Raw.f k r1.1.1 r1.2.1.1 r1.2.1.2.1 r1.2.1.2.2.1).bind fun r2 =>
    some ((r2.1.1, ()), ((r2.2.1.1, r2.2.1.2.1, r2.2.1.2.2.1, ()), ()))
abbrev octet_Reader_Text.ini : LSh := ⟨[(0, .ptr 1000000 0), (1, .val (.int .i64))], [(1000000, 65, [.val .str, .val (.int .i64), .val (.int .i64)])]⟩
abbrev octet_Reader_Text.out : LSh := ⟨[(0, .val .str)], [(1000000, 65, [.val .str, .val (.int .i64), .val (.int .i64)])]⟩
noncomputable def octet_Reader_Text.labF : Nat → Option (LabF octet_Reader_Text.out.den)
  | _ => none
noncomputable def octet_Reader_Text.fd : FnD := ⟨Try.f29, octet_Reader_Text.ini, octet_Reader_Text.out, 1, [1000000], [], octet_Reader_Text.labF, fun k (d : (Unit × Int × Unit) × ((ByteArray × Int × Int × Unit) × Unit)) => (octet_Reader_Text.f k d.1.2.1 d.2.1.1 d.2.1.2.1 d.2.1.2.2.1 : Option octet_Reader_Text.R)⟩

/-! ### octet_Reader_Flag : function 44 -/
abbrev octet_Reader_Flag.R := (Bool × Unit) × ((ByteArray × Int × Int × Unit) × Unit)
noncomputable def octet_Reader_Flag.f : Nat → ByteArray → Int → Int → Option octet_Reader_Flag.R
  | 0, _, _, _ => none
  | k + 1, o0_0, o0_1, o0_2 =>
    (octet_Reader_Raw.f k 1 o0_0 o0_1 o0_2).bind fun r1 =>
    bif !(Op.bytesLess r1.1.1.toList (⟨#[1]⟩ : ByteArray).toList || r1.1.1.toList == (⟨#[1]⟩ : ByteArray).toList) then
      (octet_Reader_Fail.f k 4 r1.2.1.1 r1.2.1.2.1 r1.2.1.2.2.1).bind fun r2 =>
      some ((false, ()), ((r2.2.1.1, r2.2.1.2.1, r2.2.1.2.2.1, ()), ()))
    else
      some ((r1.1.1.toList == (⟨#[1]⟩ : ByteArray).toList, ()), ((r1.2.1.1, r1.2.1.2.1, r1.2.1.2.2.1, ()), ()))
abbrev octet_Reader_Flag.ini : LSh := ⟨[(0, .ptr 1000000 0)], [(1000000, 65, [.val .str, .val (.int .i64), .val (.int .i64)])]⟩
abbrev octet_Reader_Flag.out : LSh := ⟨[(0, .val .bool)], [(1000000, 65, [.val .str, .val (.int .i64), .val (.int .i64)])]⟩
noncomputable def octet_Reader_Flag.labF : Nat → Option (LabF octet_Reader_Flag.out.den)
  | _ => none
noncomputable def octet_Reader_Flag.fd : FnD := ⟨Try.f44, octet_Reader_Flag.ini, octet_Reader_Flag.out, 1, [1000000], [], octet_Reader_Flag.labF, fun k (d : (Unit × Unit) × ((ByteArray × Int × Int × Unit) × Unit)) => (octet_Reader_Flag.f k d.2.1.1 d.2.1.2.1 d.2.1.2.2.1 : Option octet_Reader_Flag.R)⟩

/-! ### octet_Reader_Texts : function 45 -/
abbrev octet_Reader_Texts.R := (List ByteArray × Unit) × ((ByteArray × Int × Int × Unit) × Unit)
mutual
noncomputable def octet_Reader_Texts.l0 : Nat → Int → (List ByteArray) → Int → Int → ByteArray → Int → Int → Option octet_Reader_Texts.R
  | 0, _, _, _, _, _, _, _ => none
  | k + 1, x2, x7, x11, x12, o0_0, o0_1, o0_2 =>
    bif decide ((x12 : Int) < x11) then
      (octet_Reader_Text.f k x2 o0_0 o0_1 o0_2).bind fun r2 =>
      (octet_Reader_Err.f k r2.2.1.1 r2.2.1.2.1 r2.2.1.2.2.1).bind fun r3 =>
      bif (r3.1.1 : Int) != 0 then
        some ((([] : List ByteArray), ()), ((r2.2.1.1, r2.2.1.2.1, r2.2.1.2.2.1, ()), ()))
      else
        (ck (decide ((x7.length + ([r2.1.1] : List ByteArray).length) * 16 ≤ 70368744177664))).bind fun _ =>
        octet_Reader_Texts.l0 k x2 (x7 ++ ([r2.1.1] : List ByteArray)) x11 (IntKind.wrap .i64 (x12 + 1)) r2.2.1.1 r2.2.1.2.1 r2.2.1.2.2.1
    else
      some ((x7, ()), ((o0_0, o0_1, o0_2, ()), ()))
noncomputable def octet_Reader_Texts.f : Nat → Int → Int → ByteArray → Int → Int → Option octet_Reader_Texts.R
  | 0, _, _, _, _, _ => none
  | k + 1, x1, x2, o0_0, o0_1, o0_2 =>
    (octet_Reader_Num.f k x1 o0_0 o0_1 o0_2).bind fun r1 =>
    octet_Reader_Texts.l0 k x2 [] r1.1.1 0 r1.2.1.1 r1.2.1.2.1 r1.2.1.2.2.1
end
abbrev octet_Reader_Texts.ini : LSh := ⟨[(0, .ptr 1000000 0), (1, .val (.int .i64)), (2, .val (.int .i64))], [(1000000, 65, [.val .str, .val (.int .i64), .val (.int .i64)])]⟩
abbrev octet_Reader_Texts.out : LSh := ⟨[(0, .val (.sl .str))], [(1000000, 65, [.val .str, .val (.int .i64), .val (.int .i64)])]⟩
abbrev octet_Reader_Texts.l0s : LSh := ⟨[(0, .ptr 1000000 0), (2, .val (.int .i64)), (7, .own 2000007 9 .str), (11, .val (.int .i64)), (12, .val (.int .i64))], [(1000000, 65, [.val .str, .val (.int .i64), .val (.int .i64)])]⟩
noncomputable def octet_Reader_Texts.labF : Nat → Option (LabF octet_Reader_Texts.out.den)
  | 6 => some ⟨octet_Reader_Texts.l0s, fun k (d : (Unit × Int × List ByteArray × Int × Int × Unit) × ((ByteArray × Int × Int × Unit) × Unit)) => (octet_Reader_Texts.l0 k d.1.2.1 d.1.2.2.1 d.1.2.2.2.1 d.1.2.2.2.2.1 d.2.1.1 d.2.1.2.1 d.2.1.2.2.1 : Option octet_Reader_Texts.R)⟩
  | _ => none
noncomputable def octet_Reader_Texts.fd : FnD := ⟨Try.f45, octet_Reader_Texts.ini, octet_Reader_Texts.out, 1, [1000000], [], octet_Reader_Texts.labF, fun k (d : (Unit × Int × Int × Unit) × ((ByteArray × Int × Int × Unit) × Unit)) => (octet_Reader_Texts.f k d.1.2.1 d.1.2.2.1 d.2.1.1 d.2.1.2.1 d.2.1.2.2.1 : Option octet_Reader_Texts.R)⟩

/-! ### event_readSlip : function 46 -/
abbrev event_readSlip.R := ((ByteArray × ByteArray × ByteArray × Bool × Unit) × Unit) × ((ByteArray × Int × Int × Unit) × Unit)
noncomputable def event_readSlip.f : Nat → ByteArray → Int → Int → Option event_readSlip.R
  | 0, _, _, _ => none
  | k + 1, o0_0, o0_1, o0_2 =>
    (octet_Reader_Text.f k 16 o0_0 o0_1 o0_2).bind fun r1 =>
    (octet_Reader_Text.f k 32 r1.2.1.1 r1.2.1.2.1 r1.2.1.2.2.1).bind fun r2 =>
    (octet_Reader_Flag.f k r2.2.1.1 r2.2.1.2.1 r2.2.1.2.2.1).bind fun r3 =>
    bif !r3.1.1 then
      (octet_Reader_Text.f k 224 r3.2.1.1 r3.2.1.2.1 r3.2.1.2.2.1).bind fun r4 =>
      some (((r1.1.1, (r2.1.1, (r4.1.1, (r3.1.1, ())))), ()), ((r4.2.1.1, r4.2.1.2.1, r4.2.1.2.2.1, ()), ()))
    else
      some (((r1.1.1, (r2.1.1, (ByteArray.empty, (r3.1.1, ())))), ()), ((r3.2.1.1, r3.2.1.2.1, r3.2.1.2.2.1, ()), ()))
abbrev event_readSlip.ini : LSh := ⟨[(0, .ptr 1000000 0)], [(1000000, 65, [.val .str, .val (.int .i64), .val (.int .i64)])]⟩
abbrev event_readSlip.out : LSh := ⟨[(0, .val (.cons .str (.cons .str (.cons .str (.cons .bool .nil)))))], [(1000000, 65, [.val .str, .val (.int .i64), .val (.int .i64)])]⟩
noncomputable def event_readSlip.labF : Nat → Option (LabF event_readSlip.out.den)
  | _ => none
noncomputable def event_readSlip.fd : FnD := ⟨Try.f46, event_readSlip.ini, event_readSlip.out, 1, [1000000], [], event_readSlip.labF, fun k (d : (Unit × Unit) × ((ByteArray × Int × Int × Unit) × Unit)) => (event_readSlip.f k d.2.1.1 d.2.1.2.1 d.2.1.2.2.1 : Option event_readSlip.R)⟩

/-! ### event_readEntry : function 28 -/
abbrev event_readEntry.R := ((ByteArray × Int × Int × Int × List (ByteArray × ByteArray × ByteArray × Bool × Unit) × Bool × List ByteArray × Unit) × Unit) × ((ByteArray × Int × Int × Unit) × Unit)
mutual
noncomputable def event_readEntry.l0 : Nat → Int → Int → ByteArray → Int → Int → ByteArray → Int → Int → Int → (List (ByteArray × ByteArray × ByteArray × Bool × Unit)) → Bool → (List ByteArray) → ByteArray → Int → Int → Int → (List (ByteArray × ByteArray × ByteArray × Bool × Unit)) → Bool → (List ByteArray) → Option event_readEntry.R
  | 0, _, _, _, _, _, _, _, _, _, _, _, _, _, _, _, _, _, _, _ => none
  | k + 1, x20, x21, o0_0, o0_1, o0_2, o2_0, o2_1, o2_2, o2_3, o2_4, o2_5, o2_6, o3_0, o3_1, o3_2, o3_3, o3_4, o3_5, o3_6 =>
    bif decide ((x21 : Int) < x20) then
      (event_readSlip.f k o0_0 o0_1 o0_2).bind fun r8 =>
      (octet_Reader_Err.f k r8.2.1.1 r8.2.1.2.1 r8.2.1.2.2.1).bind fun r9 =>
      bif (r9.1.1 : Int) != 0 then
        some (((o3_0, (o3_1, (o3_2, (o3_3, (o3_4, (o3_5, (o3_6, ()))))))), ()), ((r8.2.1.1, r8.2.1.2.1, r8.2.1.2.2.1, ()), ()))
      else
        (ck (decide ((o3_4.length + ([(r8.1.1.1, (r8.1.1.2.1, (r8.1.1.2.2.1, (r8.1.1.2.2.2.1, ()))))] : List (ByteArray × ByteArray × ByteArray × Bool × Unit)).length) * 56 ≤ 70368744177664))).bind fun _ =>
        event_readEntry.l0 k x20 (IntKind.wrap .i64 (x21 + 1)) r8.2.1.1 r8.2.1.2.1 r8.2.1.2.2.1 o2_0 o2_1 o2_2 o2_3 o2_4 o2_5 o2_6 o3_0 o3_1 o3_2 o3_3 (o3_4 ++ ([(r8.1.1.1, (r8.1.1.2.1, (r8.1.1.2.2.1, (r8.1.1.2.2.2.1, ()))))] : List (ByteArray × ByteArray × ByteArray × Bool × Unit))) o3_5 o3_6
    else
      some (((o3_0, (o3_1, (o3_2, (o3_3, (o3_4, (o3_5, (o3_6, ()))))))), ()), ((o0_0, o0_1, o0_2, ()), ()))
noncomputable def event_readEntry.f : Nat → ByteArray → Int → Int → Option event_readEntry.R
  | 0, _, _, _ => none
  | k + 1, o0_0, o0_1, o0_2 =>
    (octet_Reader_Text.f k 24 o0_0 o0_1 o0_2).bind fun r1 =>
    (octet_Reader_Num.f k 7 r1.2.1.1 r1.2.1.2.1 r1.2.1.2.2.1).bind fun r2 =>
    (octet_Reader_Num.f k 1099511627776 r2.2.1.1 r2.2.1.2.1 r2.2.1.2.2.1).bind fun r3 =>
    (octet_Reader_Num.f k 63 r3.2.1.1 r3.2.1.2.1 r3.2.1.2.2.1).bind fun r4 =>
    (octet_Reader_Flag.f k r4.2.1.1 r4.2.1.2.1 r4.2.1.2.2.1).bind fun r5 =>
    (octet_Reader_Texts.f k 4 16 r5.2.1.1 r5.2.1.2.1 r5.2.1.2.2.1).bind fun r6 =>
    (octet_Reader_Num.f k 12 r6.2.1.1 r6.2.1.2.1 r6.2.1.2.2.1).bind fun r7 =>
    event_readEntry.l0 k r7.1.1 0 r7.2.1.1 r7.2.1.2.1 r7.2.1.2.2.1 ByteArray.empty 0 0 0 ([] : List (ByteArray × ByteArray × ByteArray × Bool × Unit)) false ([] : List ByteArray) r1.1.1 r2.1.1 r3.1.1 r4.1.1 [] r5.1.1 r6.1.1
end
abbrev event_readEntry.ini : LSh := ⟨[(0, .ptr 1000000 0)], [(1000000, 65, [.val .str, .val (.int .i64), .val (.int .i64)])]⟩
abbrev event_readEntry.out : LSh := ⟨[(0, .val (.cons .str (.cons (.int .i64) (.cons (.int .i64) (.cons (.int .i64) (.cons (.sl (.cons .str (.cons .str (.cons .str (.cons .bool .nil))))) (.cons .bool (.cons (.sl .str) .nil))))))))], [(1000000, 65, [.val .str, .val (.int .i64), .val (.int .i64)])]⟩
abbrev event_readEntry.l0s : LSh := ⟨[(0, .ptr 1000000 0), (2, .ptr 2 0), (3, .ptr 3 0), (20, .val (.int .i64)), (21, .val (.int .i64))], [(1000000, 65, [.val .str, .val (.int .i64), .val (.int .i64)]), (2, 25, [.val .str, .val (.int .i64), .val (.int .i64), .val (.int .i64), .val (.sl (.cons .str (.cons .str (.cons .str (.cons .bool .nil))))), .val .bool, .val (.sl .str)]), (3, 25, [.val .str, .val (.int .i64), .val (.int .i64), .val (.int .i64), .own 3000304 60 (.cons .str (.cons .str (.cons .str (.cons .bool .nil)))), .val .bool, .val (.sl .str)])]⟩
noncomputable def event_readEntry.labF : Nat → Option (LabF event_readEntry.out.den)
  | 8 => some ⟨event_readEntry.l0s, fun k (d : (Unit × Unit × Unit × Int × Int × Unit) × ((ByteArray × Int × Int × Unit) × (ByteArray × Int × Int × Int × (List (ByteArray × ByteArray × ByteArray × Bool × Unit)) × Bool × List ByteArray × Unit) × (ByteArray × Int × Int × Int × (List (ByteArray × ByteArray × ByteArray × Bool × Unit)) × Bool × List ByteArray × Unit) × Unit)) => (event_readEntry.l0 k d.1.2.2.2.1 d.1.2.2.2.2.1 d.2.1.1 d.2.1.2.1 d.2.1.2.2.1 d.2.2.1.1 d.2.2.1.2.1 d.2.2.1.2.2.1 d.2.2.1.2.2.2.1 d.2.2.1.2.2.2.2.1 d.2.2.1.2.2.2.2.2.1 d.2.2.1.2.2.2.2.2.2.1 d.2.2.2.1.1 d.2.2.2.1.2.1 d.2.2.2.1.2.2.1 d.2.2.2.1.2.2.2.1 d.2.2.2.1.2.2.2.2.1 d.2.2.2.1.2.2.2.2.2.1 d.2.2.2.1.2.2.2.2.2.2.1 : Option event_readEntry.R)⟩
  | _ => none
noncomputable def event_readEntry.fd : FnD := ⟨Try.f28, event_readEntry.ini, event_readEntry.out, 1, [1000000], [], event_readEntry.labF, fun k (d : (Unit × Unit) × ((ByteArray × Int × Int × Unit) × Unit)) => (event_readEntry.f k d.2.1.1 d.2.1.2.1 d.2.1.2.2.1 : Option event_readEntry.R)⟩

/-! ### octet_Reader_Left : function 47 -/
abbrev octet_Reader_Left.R := (Int × Unit) × (Unit)
noncomputable def octet_Reader_Left.f : Nat → ByteArray → Int → Int → Option octet_Reader_Left.R
  | 0, _, _, _ => none
  | k + 1, o0_0, o0_1, o0_2 =>
    (octet_Reader_Err.f k o0_0 o0_1 o0_2).bind fun r1 =>
    bif (r1.1.1 : Int) != 0 then
      some ((0, ()), (()))
    else
      some ((IntKind.wrap .i64 ((o0_0.size : Int) - o0_1), ()), (()))
abbrev octet_Reader_Left.ini : LSh := ⟨[(0, .ptr 1000000 0)], [(1000000, 65, [.val .str, .val (.int .i64), .val (.int .i64)])]⟩
abbrev octet_Reader_Left.out : LSh := ⟨[(0, .val (.int .i64))], []⟩
noncomputable def octet_Reader_Left.labF : Nat → Option (LabF octet_Reader_Left.out.den)
  | _ => none
noncomputable def octet_Reader_Left.fd : FnD := ⟨Try.f47, octet_Reader_Left.ini, octet_Reader_Left.out, 1, [1000000], [1000000], octet_Reader_Left.labF, fun k (d : (Unit × Unit) × ((ByteArray × Int × Int × Unit) × Unit)) => (octet_Reader_Left.f k d.2.1.1 d.2.1.2.1 d.2.1.2.2.1 : Option octet_Reader_Left.R)⟩

/-! ### octet_Reader_End : function 30 -/
abbrev octet_Reader_End.R := (Int × Unit) × ((ByteArray × Int × Int × Unit) × Unit)
noncomputable def octet_Reader_End.f : Nat → ByteArray → Int → Int → Option octet_Reader_End.R
  | 0, _, _, _ => none
  | k + 1, o0_0, o0_1, o0_2 =>
    (octet_Reader_Left.f k o0_0 o0_1 o0_2).bind fun r1 =>
    bif decide ((r1.1.1 : Int) > 0) then
      (octet_Reader_Fail.f k 4 o0_0 o0_1 o0_2).bind fun r2 =>
      (octet_Reader_Err.f k r2.2.1.1 r2.2.1.2.1 r2.2.1.2.2.1).bind fun r3 =>
      some ((r3.1.1, ()), ((r2.2.1.1, r2.2.1.2.1, r2.2.1.2.2.1, ()), ()))
    else
      (octet_Reader_Err.f k o0_0 o0_1 o0_2).bind fun r4 =>
      some ((r4.1.1, ()), ((o0_0, o0_1, o0_2, ()), ()))
abbrev octet_Reader_End.ini : LSh := ⟨[(0, .ptr 1000000 0)], [(1000000, 65, [.val .str, .val (.int .i64), .val (.int .i64)])]⟩
abbrev octet_Reader_End.out : LSh := ⟨[(0, .val (.int .i64))], [(1000000, 65, [.val .str, .val (.int .i64), .val (.int .i64)])]⟩
noncomputable def octet_Reader_End.labF : Nat → Option (LabF octet_Reader_End.out.den)
  | _ => none
noncomputable def octet_Reader_End.fd : FnD := ⟨Try.f30, octet_Reader_End.ini, octet_Reader_End.out, 1, [1000000], [], octet_Reader_End.labF, fun k (d : (Unit × Unit) × ((ByteArray × Int × Int × Unit) × Unit)) => (octet_Reader_End.f k d.2.1.1 d.2.1.2.1 d.2.1.2.2.1 : Option octet_Reader_End.R)⟩

/-! ### event_Read : function 14 -/
abbrev event_Read.R := ((Int × (ByteArray × Int × Int × Int × List (ByteArray × ByteArray × ByteArray × Bool × Unit) × Bool × List ByteArray × Unit) × Int × Int × ByteArray × (Int × ByteArray × Unit) × Int × Unit) × Int × Unit) × (Unit)
mutual
noncomputable def event_Read.j1 : Nat → Int → Bool → Int → (ByteArray × Int × Int × Int × List (ByteArray × ByteArray × ByteArray × Bool × Unit) × Bool × List ByteArray × Unit) → Int → Int → ByteArray → (Int × ByteArray × Unit) → Int → ByteArray → Int → Int → Int → (ByteArray × Int × Int × Int × List (ByteArray × ByteArray × ByteArray × Bool × Unit) × Bool × List ByteArray × Unit) → Int → Int → ByteArray → (Int × ByteArray × Unit) → Int → Option event_Read.R
  | 0, _, _, _, _, _, _, _, _, _, _, _, _, _, _, _, _, _, _, _ => none
  | k + 1, x13, x32, o2_0, o2_1, o2_2, o2_3, o2_4, o2_5, o2_6, o0_0, o0_1, o0_2, o5_0, o5_1, o5_2, o5_3, o5_4, o5_5, o5_6 =>
    bif x32 then
      (octet_Reader_Num.f k 63 o0_0 o0_1 o0_2).bind fun r9 =>
      (octet_Reader_Text.f k 16 r9.2.1.1 r9.2.1.2.1 r9.2.1.2.2.1).bind fun r10 =>
      event_Read.j0 k o2_0 (o2_1.1, (o2_1.2.1, (o2_1.2.2.1, (o2_1.2.2.2.1, (o2_1.2.2.2.2.1, (o2_1.2.2.2.2.2.1, (o2_1.2.2.2.2.2.2.1, ()))))))) o2_2 o2_3 o2_4 (o2_5.1, (o2_5.2.1, ())) o2_6 r10.2.1.1 r10.2.1.2.1 r10.2.1.2.2.1 o5_0 (o5_1.1, (o5_1.2.1, (o5_1.2.2.1, (o5_1.2.2.2.1, (o5_1.2.2.2.2.1, (o5_1.2.2.2.2.2.1, (o5_1.2.2.2.2.2.2.1, ()))))))) r9.1.1 o5_3 r10.1.1 (o5_5.1, (o5_5.2.1, ())) o5_6
    else
    bif (x13 : Int) == 6 then
      (octet_Reader_Num.f k 64 o0_0 o0_1 o0_2).bind fun r11 =>
      (octet_Reader_Text.f k 32 r11.2.1.1 r11.2.1.2.1 r11.2.1.2.2.1).bind fun r12 =>
      event_Read.j0 k o2_0 (o2_1.1, (o2_1.2.1, (o2_1.2.2.1, (o2_1.2.2.2.1, (o2_1.2.2.2.2.1, (o2_1.2.2.2.2.2.1, (o2_1.2.2.2.2.2.2.1, ()))))))) o2_2 o2_3 o2_4 (o2_5.1, (o2_5.2.1, ())) o2_6 r12.2.1.1 r12.2.1.2.1 r12.2.1.2.2.1 o5_0 (o5_1.1, (o5_1.2.1, (o5_1.2.2.1, (o5_1.2.2.2.1, (o5_1.2.2.2.2.1, (o5_1.2.2.2.2.2.1, (o5_1.2.2.2.2.2.2.1, ()))))))) o5_2 o5_3 o5_4 (r11.1.1, (r12.1.1, ())) o5_6
    else
    bif (x13 : Int) == 7 then
      (octet_Reader_Num.f k 1099511627776 o0_0 o0_1 o0_2).bind fun r13 =>
      event_Read.j0 k o2_0 (o2_1.1, (o2_1.2.1, (o2_1.2.2.1, (o2_1.2.2.2.1, (o2_1.2.2.2.2.1, (o2_1.2.2.2.2.2.1, (o2_1.2.2.2.2.2.2.1, ()))))))) o2_2 o2_3 o2_4 (o2_5.1, (o2_5.2.1, ())) o2_6 r13.2.1.1 r13.2.1.2.1 r13.2.1.2.2.1 o5_0 (o5_1.1, (o5_1.2.1, (o5_1.2.2.1, (o5_1.2.2.2.1, (o5_1.2.2.2.2.1, (o5_1.2.2.2.2.2.1, (o5_1.2.2.2.2.2.2.1, ()))))))) o5_2 o5_3 o5_4 (o5_5.1, (o5_5.2.1, ())) r13.1.1
    else
      event_Read.j0 k o2_0 (o2_1.1, (o2_1.2.1, (o2_1.2.2.1, (o2_1.2.2.2.1, (o2_1.2.2.2.2.1, (o2_1.2.2.2.2.2.1, (o2_1.2.2.2.2.2.2.1, ()))))))) o2_2 o2_3 o2_4 (o2_5.1, (o2_5.2.1, ())) o2_6 o0_0 o0_1 o0_2 o5_0 (o5_1.1, (o5_1.2.1, (o5_1.2.2.1, (o5_1.2.2.2.1, (o5_1.2.2.2.2.1, (o5_1.2.2.2.2.2.1, (o5_1.2.2.2.2.2.2.1, ()))))))) o5_2 o5_3 o5_4 (o5_5.1, (o5_5.2.1, ())) o5_6
noncomputable def event_Read.j0 : Nat → Int → (ByteArray × Int × Int × Int × List (ByteArray × ByteArray × ByteArray × Bool × Unit) × Bool × List ByteArray × Unit) → Int → Int → ByteArray → (Int × ByteArray × Unit) → Int → ByteArray → Int → Int → Int → (ByteArray × Int × Int × Int × List (ByteArray × ByteArray × ByteArray × Bool × Unit) × Bool × List ByteArray × Unit) → Int → Int → ByteArray → (Int × ByteArray × Unit) → Int → Option event_Read.R
  | 0, _, _, _, _, _, _, _, _, _, _, _, _, _, _, _, _, _ => none
  | k + 1, o2_0, o2_1, o2_2, o2_3, o2_4, o2_5, o2_6, o0_0, o0_1, o0_2, o5_0, o5_1, o5_2, o5_3, o5_4, o5_5, o5_6 =>
    (octet_Reader_End.f k o0_0 o0_1 o0_2).bind fun r7 =>
    bif (r7.1.1 : Int) != 0 then
      some (((0, ((ByteArray.empty, (0, (0, (0, (([] : List (ByteArray × ByteArray × ByteArray × Bool × Unit)), (false, (([] : List ByteArray), ()))))))), (0, (0, (ByteArray.empty, ((0, (ByteArray.empty, ())), (0, ()))))))), r7.1.1, ()), (()))
    else
      (event_Right.f k (o5_0, ((o5_1.1, (o5_1.2.1, (o5_1.2.2.1, (o5_1.2.2.2.1, (o5_1.2.2.2.2.1, (o5_1.2.2.2.2.2.1, (o5_1.2.2.2.2.2.2.1, ()))))))), (o5_2, (o5_3, (o5_4, ((o5_5.1, (o5_5.2.1, ())), (o5_6, ())))))))).bind fun r8 =>
      bif !r8.1.1 then
        some (((0, ((ByteArray.empty, (0, (0, (0, (([] : List (ByteArray × ByteArray × ByteArray × Bool × Unit)), (false, (([] : List ByteArray), ()))))))), (0, (0, (ByteArray.empty, ((0, (ByteArray.empty, ())), (0, ()))))))), 4, ()), (()))
      else
        some (((o5_0, ((o5_1.1, (o5_1.2.1, (o5_1.2.2.1, (o5_1.2.2.2.1, (o5_1.2.2.2.2.1, (o5_1.2.2.2.2.2.1, (o5_1.2.2.2.2.2.2.1, ()))))))), (o5_2, (o5_3, (o5_4, ((o5_5.1, (o5_5.2.1, ())), (o5_6, ()))))))), 0, ()), (()))
noncomputable def event_Read.f : Nat → ByteArray → Option event_Read.R
  | 0, _ => none
  | k + 1, x0 =>
    (octet_Read.f k x0).bind fun r1 =>
    (octet_Reader_Num.f k 7 r1.2.1.1 r1.2.1.2.1 r1.2.1.2.2.1).bind fun r2 =>
    bif (r2.1.1 : Int) == 1 then
      (event_readEntry.f k r2.2.1.1 r2.2.1.2.1 r2.2.1.2.2.1).bind fun r3 =>
      event_Read.j0 k 0 (ByteArray.empty, (0, (0, (0, (([] : List (ByteArray × ByteArray × ByteArray × Bool × Unit)), (false, (([] : List ByteArray), ()))))))) 0 0 ByteArray.empty (0, (ByteArray.empty, ())) 0 r3.2.1.1 r3.2.1.2.1 r3.2.1.2.2.1 r2.1.1 (r3.1.1.1, (r3.1.1.2.1, (r3.1.1.2.2.1, (r3.1.1.2.2.2.1, (r3.1.1.2.2.2.2.1, (r3.1.1.2.2.2.2.2.1, (r3.1.1.2.2.2.2.2.2.1, ()))))))) 0 0 ByteArray.empty (0, (ByteArray.empty, ())) 0
    else
    bif (r2.1.1 : Int) == 2 then
      (octet_Reader_Num.f k 63 r2.2.1.1 r2.2.1.2.1 r2.2.1.2.2.1).bind fun r4 =>
      (octet_Reader_Num.f k 11 r4.2.1.1 r4.2.1.2.1 r4.2.1.2.2.1).bind fun r5 =>
      event_Read.j0 k 0 (ByteArray.empty, (0, (0, (0, (([] : List (ByteArray × ByteArray × ByteArray × Bool × Unit)), (false, (([] : List ByteArray), ()))))))) 0 0 ByteArray.empty (0, (ByteArray.empty, ())) 0 r5.2.1.1 r5.2.1.2.1 r5.2.1.2.2.1 r2.1.1 (ByteArray.empty, (0, (0, (0, (([] : List (ByteArray × ByteArray × ByteArray × Bool × Unit)), (false, (([] : List ByteArray), ()))))))) r4.1.1 r5.1.1 ByteArray.empty (0, (ByteArray.empty, ())) 0
    else
    bif (r2.1.1 : Int) == 3 then
      (octet_Reader_Num.f k 63 r2.2.1.1 r2.2.1.2.1 r2.2.1.2.2.1).bind fun r6 =>
      event_Read.j0 k 0 (ByteArray.empty, (0, (0, (0, (([] : List (ByteArray × ByteArray × ByteArray × Bool × Unit)), (false, (([] : List ByteArray), ()))))))) 0 0 ByteArray.empty (0, (ByteArray.empty, ())) 0 r6.2.1.1 r6.2.1.2.1 r6.2.1.2.2.1 r2.1.1 (ByteArray.empty, (0, (0, (0, (([] : List (ByteArray × ByteArray × ByteArray × Bool × Unit)), (false, (([] : List ByteArray), ()))))))) r6.1.1 0 ByteArray.empty (0, (ByteArray.empty, ())) 0
    else
    bif (r2.1.1 : Int) == 4 then
      event_Read.j1 k r2.1.1 ((r2.1.1 : Int) == 4) 0 (ByteArray.empty, (0, (0, (0, (([] : List (ByteArray × ByteArray × ByteArray × Bool × Unit)), (false, (([] : List ByteArray), ()))))))) 0 0 ByteArray.empty (0, (ByteArray.empty, ())) 0 r2.2.1.1 r2.2.1.2.1 r2.2.1.2.2.1 r2.1.1 (ByteArray.empty, (0, (0, (0, (([] : List (ByteArray × ByteArray × ByteArray × Bool × Unit)), (false, (([] : List ByteArray), ()))))))) 0 0 ByteArray.empty (0, (ByteArray.empty, ())) 0
    else
      event_Read.j1 k r2.1.1 ((r2.1.1 : Int) == 5) 0 (ByteArray.empty, (0, (0, (0, (([] : List (ByteArray × ByteArray × ByteArray × Bool × Unit)), (false, (([] : List ByteArray), ()))))))) 0 0 ByteArray.empty (0, (ByteArray.empty, ())) 0 r2.2.1.1 r2.2.1.2.1 r2.2.1.2.2.1 r2.1.1 (ByteArray.empty, (0, (0, (0, (([] : List (ByteArray × ByteArray × ByteArray × Bool × Unit)), (false, (([] : List ByteArray), ()))))))) 0 0 ByteArray.empty (0, (ByteArray.empty, ())) 0
end
abbrev event_Read.ini : LSh := ⟨[(0, .val .str)], []⟩
abbrev event_Read.out : LSh := ⟨[(0, .val (.cons (.int .i64) (.cons (.cons .str (.cons (.int .i64) (.cons (.int .i64) (.cons (.int .i64) (.cons (.sl (.cons .str (.cons .str (.cons .str (.cons .bool .nil))))) (.cons .bool (.cons (.sl .str) .nil))))))) (.cons (.int .i64) (.cons (.int .i64) (.cons .str (.cons (.cons (.int .i64) (.cons .str .nil)) (.cons (.int .i64) .nil)))))))), (1, .val (.int .i64))], []⟩
abbrev event_Read.j1s : LSh := ⟨[(2, .ptr 2 0), (4, .ptr 904000000 0), (5, .ptr 5 0), (13, .val (.int .i64)), (32, .val .bool)], [(2, 29, [.val (.int .i64), .val (.cons .str (.cons (.int .i64) (.cons (.int .i64) (.cons (.int .i64) (.cons (.sl (.cons .str (.cons .str (.cons .str (.cons .bool .nil))))) (.cons .bool (.cons (.sl .str) .nil))))))), .val (.int .i64), .val (.int .i64), .val .str, .val (.cons (.int .i64) (.cons .str .nil)), .val (.int .i64)]), (904000000, 65, [.val .str, .val (.int .i64), .val (.int .i64)]), (5, 29, [.val (.int .i64), .val (.cons .str (.cons (.int .i64) (.cons (.int .i64) (.cons (.int .i64) (.cons (.sl (.cons .str (.cons .str (.cons .str (.cons .bool .nil))))) (.cons .bool (.cons (.sl .str) .nil))))))), .val (.int .i64), .val (.int .i64), .val .str, .val (.cons (.int .i64) (.cons .str .nil)), .val (.int .i64)])]⟩
abbrev event_Read.j0s : LSh := ⟨[(2, .ptr 2 0), (4, .ptr 904000000 0), (5, .ptr 5 0)], [(2, 29, [.val (.int .i64), .val (.cons .str (.cons (.int .i64) (.cons (.int .i64) (.cons (.int .i64) (.cons (.sl (.cons .str (.cons .str (.cons .str (.cons .bool .nil))))) (.cons .bool (.cons (.sl .str) .nil))))))), .val (.int .i64), .val (.int .i64), .val .str, .val (.cons (.int .i64) (.cons .str .nil)), .val (.int .i64)]), (904000000, 65, [.val .str, .val (.int .i64), .val (.int .i64)]), (5, 29, [.val (.int .i64), .val (.cons .str (.cons (.int .i64) (.cons (.int .i64) (.cons (.int .i64) (.cons (.sl (.cons .str (.cons .str (.cons .str (.cons .bool .nil))))) (.cons .bool (.cons (.sl .str) .nil))))))), .val (.int .i64), .val (.int .i64), .val .str, .val (.cons (.int .i64) (.cons .str .nil)), .val (.int .i64)])]⟩
noncomputable def event_Read.labF : Nat → Option (LabF event_Read.out.den)
  | 25 => some ⟨event_Read.j1s, fun k (d : (Unit × Unit × Unit × Int × Bool × Unit) × ((Int × (ByteArray × Int × Int × Int × List (ByteArray × ByteArray × ByteArray × Bool × Unit) × Bool × List ByteArray × Unit) × Int × Int × ByteArray × (Int × ByteArray × Unit) × Int × Unit) × (ByteArray × Int × Int × Unit) × (Int × (ByteArray × Int × Int × Int × List (ByteArray × ByteArray × ByteArray × Bool × Unit) × Bool × List ByteArray × Unit) × Int × Int × ByteArray × (Int × ByteArray × Unit) × Int × Unit) × Unit)) => (event_Read.j1 k d.1.2.2.2.1 d.1.2.2.2.2.1 d.2.1.1 d.2.1.2.1 d.2.1.2.2.1 d.2.1.2.2.2.1 d.2.1.2.2.2.2.1 d.2.1.2.2.2.2.2.1 d.2.1.2.2.2.2.2.2.1 d.2.2.1.1 d.2.2.1.2.1 d.2.2.1.2.2.1 d.2.2.2.1.1 d.2.2.2.1.2.1 d.2.2.2.1.2.2.1 d.2.2.2.1.2.2.2.1 d.2.2.2.1.2.2.2.2.1 d.2.2.2.1.2.2.2.2.2.1 d.2.2.2.1.2.2.2.2.2.2.1 : Option event_Read.R)⟩
  | 35 => some ⟨event_Read.j0s, fun k (d : (Unit × Unit × Unit × Unit) × ((Int × (ByteArray × Int × Int × Int × List (ByteArray × ByteArray × ByteArray × Bool × Unit) × Bool × List ByteArray × Unit) × Int × Int × ByteArray × (Int × ByteArray × Unit) × Int × Unit) × (ByteArray × Int × Int × Unit) × (Int × (ByteArray × Int × Int × Int × List (ByteArray × ByteArray × ByteArray × Bool × Unit) × Bool × List ByteArray × Unit) × Int × Int × ByteArray × (Int × ByteArray × Unit) × Int × Unit) × Unit)) => (event_Read.j0 k d.2.1.1 d.2.1.2.1 d.2.1.2.2.1 d.2.1.2.2.2.1 d.2.1.2.2.2.2.1 d.2.1.2.2.2.2.2.1 d.2.1.2.2.2.2.2.2.1 d.2.2.1.1 d.2.2.1.2.1 d.2.2.1.2.2.1 d.2.2.2.1.1 d.2.2.2.1.2.1 d.2.2.2.1.2.2.1 d.2.2.2.1.2.2.2.1 d.2.2.2.1.2.2.2.2.1 d.2.2.2.1.2.2.2.2.2.1 d.2.2.2.1.2.2.2.2.2.2.1 : Option event_Read.R)⟩
  | _ => none
noncomputable def event_Read.fd : FnD := ⟨Try.f14, event_Read.ini, event_Read.out, 2, [], [], event_Read.labF, fun k (d : (ByteArray × Unit) × (Unit)) => (event_Read.f k d.1.1 : Option event_Read.R)⟩

/-! ### chartularyref14_num : function 31 -/
abbrev chartularyref14_num.R := (ByteArray × Unit) × (Unit)
mutual
noncomputable def chartularyref14_num.l0 : Nat → Int → ByteArray → Option chartularyref14_num.R
  | 0, _, _ => none
  | k + 1, x0, x3 =>
    bif decide ((x0 : Int) > 0) then
      (ck (!decide ((256 : Int) = 0))).bind fun _ =>
      (ck (decide ((strOf ([IntKind.wrap .u8 (Int.tmod x0 256)] : List Int)).size + x3.size ≤ 9223372036854775807))).bind fun _ =>
      (ck (!decide ((256 : Int) = 0))).bind fun _ =>
      chartularyref14_num.l0 k (IntKind.wrap .i64 (Int.tdiv x0 256)) ((strOf ([IntKind.wrap .u8 (Int.tmod x0 256)] : List Int)) ++ x3)
    else
      (ck (decide ((strOf ([IntKind.wrap .u8 (x3.size : Int)] : List Int)).size + x3.size ≤ 9223372036854775807))).bind fun _ =>
      some (((strOf ([IntKind.wrap .u8 (x3.size : Int)] : List Int)) ++ x3, ()), (()))
noncomputable def chartularyref14_num.f : Nat → Int → Option chartularyref14_num.R
  | 0, _ => none
  | k + 1, x0 =>
    chartularyref14_num.l0 k x0 (⟨#[]⟩ : ByteArray)
end
abbrev chartularyref14_num.ini : LSh := ⟨[(0, .val (.int .i64))], []⟩
abbrev chartularyref14_num.out : LSh := ⟨[(0, .val .str)], []⟩
abbrev chartularyref14_num.l0s : LSh := ⟨[(0, .val (.int .i64)), (3, .val .str)], []⟩
noncomputable def chartularyref14_num.labF : Nat → Option (LabF chartularyref14_num.out.den)
  | 4 => some ⟨chartularyref14_num.l0s, fun k (d : (Int × ByteArray × Unit) × (Unit)) => (chartularyref14_num.l0 k d.1.1 d.1.2.1 : Option chartularyref14_num.R)⟩
  | _ => none
noncomputable def chartularyref14_num.fd : FnD := ⟨Try.f31, chartularyref14_num.ini, chartularyref14_num.out, 1, [], [], chartularyref14_num.labF, fun k (d : (Int × Unit) × (Unit)) => (chartularyref14_num.f k d.1.1 : Option chartularyref14_num.R)⟩

/-! ### chartularyref14_text : function 32 -/
abbrev chartularyref14_text.R := (ByteArray × Unit) × (Unit)
noncomputable def chartularyref14_text.f : Nat → ByteArray → Option chartularyref14_text.R
  | 0, _ => none
  | k + 1, x0 =>
    (chartularyref14_num.f k (x0.size : Int)).bind fun r1 =>
    (ck (decide (r1.1.1.size + x0.size ≤ 9223372036854775807))).bind fun _ =>
    some ((r1.1.1 ++ x0, ()), (()))
abbrev chartularyref14_text.ini : LSh := ⟨[(0, .val .str)], []⟩
abbrev chartularyref14_text.out : LSh := ⟨[(0, .val .str)], []⟩
noncomputable def chartularyref14_text.labF : Nat → Option (LabF chartularyref14_text.out.den)
  | _ => none
noncomputable def chartularyref14_text.fd : FnD := ⟨Try.f32, chartularyref14_text.ini, chartularyref14_text.out, 1, [], [], chartularyref14_text.labF, fun k (d : (ByteArray × Unit) × (Unit)) => (chartularyref14_text.f k d.1.1 : Option chartularyref14_text.R)⟩

/-! ### chartularyref14_truth : function 33 -/
abbrev chartularyref14_truth.R := (ByteArray × Unit) × (Unit)
noncomputable def chartularyref14_truth.f : Nat → Bool → Option chartularyref14_truth.R
  | 0, _ => none
  | k + 1, x0 =>
    bif x0 then
      some (((⟨#[1]⟩ : ByteArray), ()), (()))
    else
      some (((⟨#[0]⟩ : ByteArray), ()), (()))
abbrev chartularyref14_truth.ini : LSh := ⟨[(0, .val .bool)], []⟩
abbrev chartularyref14_truth.out : LSh := ⟨[(0, .val .str)], []⟩
noncomputable def chartularyref14_truth.labF : Nat → Option (LabF chartularyref14_truth.out.den)
  | _ => none
noncomputable def chartularyref14_truth.fd : FnD := ⟨Try.f33, chartularyref14_truth.ini, chartularyref14_truth.out, 1, [], [], chartularyref14_truth.labF, fun k (d : (Bool × Unit) × (Unit)) => (chartularyref14_truth.f k d.1.1 : Option chartularyref14_truth.R)⟩

/-! ### chartularyref14_Bytes : function 15 -/
abbrev chartularyref14_Bytes.R := (ByteArray × Unit) × (Unit)
mutual
noncomputable def chartularyref14_Bytes.l0 : Nat → ByteArray → Int → ByteArray → Int → Int → Int → (List (ByteArray × ByteArray × ByteArray × Bool × Unit)) → Bool → (List ByteArray) → Option chartularyref14_Bytes.R
  | 0, _, _, _, _, _, _, _, _, _ => none
  | k + 1, x3, x5, o4_0, o4_1, o4_2, o4_3, o4_4, o4_5, o4_6 =>
    bif decide ((x5 : Int) < (o4_6.length : Int)) then
      (rdo o4_6 x5).bind fun t11 =>
      (chartularyref14_text.f k t11).bind fun r12 =>
      (ck (decide (x3.size + r12.1.1.size ≤ 9223372036854775807))).bind fun _ =>
      chartularyref14_Bytes.l0 k (x3 ++ r12.1.1) (IntKind.wrap .i64 (x5 + 1)) o4_0 o4_1 o4_2 o4_3 o4_4 o4_5 o4_6
    else
      (chartularyref14_num.f k (o4_4.length : Int)).bind fun r13 =>
      (ck (decide (x3.size + r13.1.1.size ≤ 9223372036854775807))).bind fun _ =>
      chartularyref14_Bytes.l1 k (x3 ++ r13.1.1) 0 o4_0 o4_1 o4_2 o4_3 o4_4 o4_5 o4_6
noncomputable def chartularyref14_Bytes.l1 : Nat → ByteArray → Int → ByteArray → Int → Int → Int → (List (ByteArray × ByteArray × ByteArray × Bool × Unit)) → Bool → (List ByteArray) → Option chartularyref14_Bytes.R
  | 0, _, _, _, _, _, _, _, _, _ => none
  | k + 1, x3, x6, o4_0, o4_1, o4_2, o4_3, o4_4, o4_5, o4_6 =>
    bif decide ((x6 : Int) < (o4_4.length : Int)) then
      (rdo o4_4 x6).bind fun t19 =>
      (chartularyref14_text.f k t19.1).bind fun r20 =>
      (ck (decide (x3.size + r20.1.1.size ≤ 9223372036854775807))).bind fun _ =>
      (chartularyref14_text.f k t19.2.1).bind fun r21 =>
      (ck (decide ((x3 ++ r20.1.1).size + r21.1.1.size ≤ 9223372036854775807))).bind fun _ =>
      (chartularyref14_truth.f k t19.2.2.2.1).bind fun r22 =>
      (ck (decide (((x3 ++ r20.1.1) ++ r21.1.1).size + r22.1.1.size ≤ 9223372036854775807))).bind fun _ =>
      bif !t19.2.2.2.1 then
        (chartularyref14_text.f k t19.2.2.1).bind fun r23 =>
        (ck (decide ((((x3 ++ r20.1.1) ++ r21.1.1) ++ r22.1.1).size + r23.1.1.size ≤ 9223372036854775807))).bind fun _ =>
        chartularyref14_Bytes.l1 k ((((x3 ++ r20.1.1) ++ r21.1.1) ++ r22.1.1) ++ r23.1.1) (IntKind.wrap .i64 (x6 + 1)) o4_0 o4_1 o4_2 o4_3 o4_4 o4_5 o4_6
      else
        chartularyref14_Bytes.l1 k (((x3 ++ r20.1.1) ++ r21.1.1) ++ r22.1.1) (IntKind.wrap .i64 (x6 + 1)) o4_0 o4_1 o4_2 o4_3 o4_4 o4_5 o4_6
    else
      some ((x3, ()), (()))
noncomputable def chartularyref14_Bytes.j0 : Nat → ByteArray → Int → Bool → Int → (ByteArray × Int × Int × Int × List (ByteArray × ByteArray × ByteArray × Bool × Unit) × Bool × List ByteArray × Unit) → Int → Int → ByteArray → (Int × ByteArray × Unit) → Int → Option chartularyref14_Bytes.R
  | 0, _, _, _, _, _, _, _, _, _, _ => none
  | k + 1, x3, x12, x121, o1_0, o1_1, o1_2, o1_3, o1_4, o1_5, o1_6 =>
    bif x121 then
      (chartularyref14_num.f k o1_2).bind fun r14 =>
      (ck (decide (x3.size + r14.1.1.size ≤ 9223372036854775807))).bind fun _ =>
      (chartularyref14_text.f k o1_4).bind fun r15 =>
      (ck (decide ((x3 ++ r14.1.1).size + r15.1.1.size ≤ 9223372036854775807))).bind fun _ =>
      some (((x3 ++ r14.1.1) ++ r15.1.1, ()), (()))
    else
    bif (x12 : Int) == 6 then
      (chartularyref14_num.f k o1_5.1).bind fun r16 =>
      (ck (decide (x3.size + r16.1.1.size ≤ 9223372036854775807))).bind fun _ =>
      (chartularyref14_text.f k o1_5.2.1).bind fun r17 =>
      (ck (decide ((x3 ++ r16.1.1).size + r17.1.1.size ≤ 9223372036854775807))).bind fun _ =>
      some (((x3 ++ r16.1.1) ++ r17.1.1, ()), (()))
    else
      (chartularyref14_num.f k o1_6).bind fun r18 =>
      (ck (decide (x3.size + r18.1.1.size ≤ 9223372036854775807))).bind fun _ =>
      some ((x3 ++ r18.1.1, ()), (()))
noncomputable def chartularyref14_Bytes.f : Nat → (Int × (ByteArray × Int × Int × Int × List (ByteArray × ByteArray × ByteArray × Bool × Unit) × Bool × List ByteArray × Unit) × Int × Int × ByteArray × (Int × ByteArray × Unit) × Int × Unit) → Option chartularyref14_Bytes.R
  | 0, _ => none
  | k + 1, x0 =>
    (chartularyref14_num.f k x0.1).bind fun r1 =>
    bif (x0.1 : Int) == 1 then
      (chartularyref14_text.f k x0.2.1.1).bind fun r2 =>
      (ck (decide (r1.1.1.size + r2.1.1.size ≤ 9223372036854775807))).bind fun _ =>
      (chartularyref14_num.f k x0.2.1.2.1).bind fun r3 =>
      (ck (decide ((r1.1.1 ++ r2.1.1).size + r3.1.1.size ≤ 9223372036854775807))).bind fun _ =>
      (chartularyref14_num.f k x0.2.1.2.2.1).bind fun r4 =>
      (ck (decide (((r1.1.1 ++ r2.1.1) ++ r3.1.1).size + r4.1.1.size ≤ 9223372036854775807))).bind fun _ =>
      (chartularyref14_num.f k x0.2.1.2.2.2.1).bind fun r5 =>
      (ck (decide ((((r1.1.1 ++ r2.1.1) ++ r3.1.1) ++ r4.1.1).size + r5.1.1.size ≤ 9223372036854775807))).bind fun _ =>
      (chartularyref14_truth.f k x0.2.1.2.2.2.2.2.1).bind fun r6 =>
      (ck (decide (((((r1.1.1 ++ r2.1.1) ++ r3.1.1) ++ r4.1.1) ++ r5.1.1).size + r6.1.1.size ≤ 9223372036854775807))).bind fun _ =>
      (chartularyref14_num.f k (x0.2.1.2.2.2.2.2.2.1.length : Int)).bind fun r7 =>
      (ck (decide ((((((r1.1.1 ++ r2.1.1) ++ r3.1.1) ++ r4.1.1) ++ r5.1.1) ++ r6.1.1).size + r7.1.1.size ≤ 9223372036854775807))).bind fun _ =>
      chartularyref14_Bytes.l0 k ((((((r1.1.1 ++ r2.1.1) ++ r3.1.1) ++ r4.1.1) ++ r5.1.1) ++ r6.1.1) ++ r7.1.1) 0 x0.2.1.1 x0.2.1.2.1 x0.2.1.2.2.1 x0.2.1.2.2.2.1 x0.2.1.2.2.2.2.1 x0.2.1.2.2.2.2.2.1 x0.2.1.2.2.2.2.2.2.1
    else
    bif (x0.1 : Int) == 2 then
      (chartularyref14_num.f k x0.2.2.1).bind fun r8 =>
      (ck (decide (r1.1.1.size + r8.1.1.size ≤ 9223372036854775807))).bind fun _ =>
      (chartularyref14_num.f k x0.2.2.2.1).bind fun r9 =>
      (ck (decide ((r1.1.1 ++ r8.1.1).size + r9.1.1.size ≤ 9223372036854775807))).bind fun _ =>
      some (((r1.1.1 ++ r8.1.1) ++ r9.1.1, ()), (()))
    else
    bif (x0.1 : Int) == 3 then
      (chartularyref14_num.f k x0.2.2.1).bind fun r10 =>
      (ck (decide (r1.1.1.size + r10.1.1.size ≤ 9223372036854775807))).bind fun _ =>
      some ((r1.1.1 ++ r10.1.1, ()), (()))
    else
    bif (x0.1 : Int) == 4 then
      chartularyref14_Bytes.j0 k r1.1.1 x0.1 ((x0.1 : Int) == 4) x0.1 (x0.2.1.1, (x0.2.1.2.1, (x0.2.1.2.2.1, (x0.2.1.2.2.2.1, (x0.2.1.2.2.2.2.1, (x0.2.1.2.2.2.2.2.1, (x0.2.1.2.2.2.2.2.2.1, ()))))))) x0.2.2.1 x0.2.2.2.1 x0.2.2.2.2.1 (x0.2.2.2.2.2.1.1, (x0.2.2.2.2.2.1.2.1, ())) x0.2.2.2.2.2.2.1
    else
      chartularyref14_Bytes.j0 k r1.1.1 x0.1 ((x0.1 : Int) == 5) x0.1 (x0.2.1.1, (x0.2.1.2.1, (x0.2.1.2.2.1, (x0.2.1.2.2.2.1, (x0.2.1.2.2.2.2.1, (x0.2.1.2.2.2.2.2.1, (x0.2.1.2.2.2.2.2.2.1, ()))))))) x0.2.2.1 x0.2.2.2.1 x0.2.2.2.2.1 (x0.2.2.2.2.2.1.1, (x0.2.2.2.2.2.1.2.1, ())) x0.2.2.2.2.2.2.1
end
abbrev chartularyref14_Bytes.ini : LSh := ⟨[(0, .val (.cons (.int .i64) (.cons (.cons .str (.cons (.int .i64) (.cons (.int .i64) (.cons (.int .i64) (.cons (.sl (.cons .str (.cons .str (.cons .str (.cons .bool .nil))))) (.cons .bool (.cons (.sl .str) .nil))))))) (.cons (.int .i64) (.cons (.int .i64) (.cons .str (.cons (.cons (.int .i64) (.cons .str .nil)) (.cons (.int .i64) .nil))))))))], []⟩
abbrev chartularyref14_Bytes.out : LSh := ⟨[(0, .val .str)], []⟩
abbrev chartularyref14_Bytes.l0s : LSh := ⟨[(3, .val .str), (4, .ptr 4 0), (5, .val (.int .i64))], [(4, 25, [.val .str, .val (.int .i64), .val (.int .i64), .val (.int .i64), .val (.sl (.cons .str (.cons .str (.cons .str (.cons .bool .nil))))), .val .bool, .val (.sl .str)])]⟩
abbrev chartularyref14_Bytes.l1s : LSh := ⟨[(3, .val .str), (4, .ptr 4 0), (6, .val (.int .i64))], [(4, 25, [.val .str, .val (.int .i64), .val (.int .i64), .val (.int .i64), .val (.sl (.cons .str (.cons .str (.cons .str (.cons .bool .nil))))), .val .bool, .val (.sl .str)])]⟩
abbrev chartularyref14_Bytes.j0s : LSh := ⟨[(1, .ptr 1 0), (3, .val .str), (12, .val (.int .i64)), (121, .val .bool)], [(1, 29, [.val (.int .i64), .val (.cons .str (.cons (.int .i64) (.cons (.int .i64) (.cons (.int .i64) (.cons (.sl (.cons .str (.cons .str (.cons .str (.cons .bool .nil))))) (.cons .bool (.cons (.sl .str) .nil))))))), .val (.int .i64), .val (.int .i64), .val .str, .val (.cons (.int .i64) (.cons .str .nil)), .val (.int .i64)])]⟩
noncomputable def chartularyref14_Bytes.labF : Nat → Option (LabF chartularyref14_Bytes.out.den)
  | 16 => some ⟨chartularyref14_Bytes.l0s, fun k (d : (ByteArray × Unit × Int × Unit) × ((ByteArray × Int × Int × Int × (List (ByteArray × ByteArray × ByteArray × Bool × Unit)) × Bool × List ByteArray × Unit) × Unit)) => (chartularyref14_Bytes.l0 k d.1.1 d.1.2.2.1 d.2.1.1 d.2.1.2.1 d.2.1.2.2.1 d.2.1.2.2.2.1 d.2.1.2.2.2.2.1 d.2.1.2.2.2.2.2.1 d.2.1.2.2.2.2.2.2.1 : Option chartularyref14_Bytes.R)⟩
  | 26 => some ⟨chartularyref14_Bytes.l1s, fun k (d : (ByteArray × Unit × Int × Unit) × ((ByteArray × Int × Int × Int × (List (ByteArray × ByteArray × ByteArray × Bool × Unit)) × Bool × List ByteArray × Unit) × Unit)) => (chartularyref14_Bytes.l1 k d.1.1 d.1.2.2.1 d.2.1.1 d.2.1.2.1 d.2.1.2.2.1 d.2.1.2.2.2.1 d.2.1.2.2.2.2.1 d.2.1.2.2.2.2.2.1 d.2.1.2.2.2.2.2.2.1 : Option chartularyref14_Bytes.R)⟩
  | 53 => some ⟨chartularyref14_Bytes.j0s, fun k (d : (Unit × ByteArray × Int × Bool × Unit) × ((Int × (ByteArray × Int × Int × Int × List (ByteArray × ByteArray × ByteArray × Bool × Unit) × Bool × List ByteArray × Unit) × Int × Int × ByteArray × (Int × ByteArray × Unit) × Int × Unit) × Unit)) => (chartularyref14_Bytes.j0 k d.1.2.1 d.1.2.2.1 d.1.2.2.2.1 d.2.1.1 d.2.1.2.1 d.2.1.2.2.1 d.2.1.2.2.2.1 d.2.1.2.2.2.2.1 d.2.1.2.2.2.2.2.1 d.2.1.2.2.2.2.2.2.1 : Option chartularyref14_Bytes.R)⟩
  | _ => none
noncomputable def chartularyref14_Bytes.fd : FnD := ⟨Try.f15, chartularyref14_Bytes.ini, chartularyref14_Bytes.out, 1, [], [], chartularyref14_Bytes.labF, fun k (d : ((Int × (ByteArray × Int × Int × Int × List (ByteArray × ByteArray × ByteArray × Bool × Unit) × Bool × List ByteArray × Unit) × Int × Int × ByteArray × (Int × ByteArray × Unit) × Int × Unit) × Unit) × (Unit)) => (chartularyref14_Bytes.f k d.1.1 : Option chartularyref14_Bytes.R)⟩

/-! ### chartularylaw14_EventBytes : function 5 -/
abbrev chartularylaw14_EventBytes.R := (Bool × Unit) × (Unit)
noncomputable def chartularylaw14_EventBytes.f : Nat → (Int × (ByteArray × Int × Int × Int × List (ByteArray × ByteArray × ByteArray × Bool × Unit) × Bool × List ByteArray × Unit) × Int × Int × ByteArray × (Int × ByteArray × Unit) × Int × Unit) → Option chartularylaw14_EventBytes.R
  | 0, _ => none
  | k + 1, x0 =>
    (chartularylaw14_Few.f k (x0.1, ((x0.2.1.1, (x0.2.1.2.1, (x0.2.1.2.2.1, (x0.2.1.2.2.2.1, (x0.2.1.2.2.2.2.1, (x0.2.1.2.2.2.2.2.1, (x0.2.1.2.2.2.2.2.2.1, ()))))))), (x0.2.2.1, (x0.2.2.2.1, (x0.2.2.2.2.1, ((x0.2.2.2.2.2.1.1, (x0.2.2.2.2.2.1.2.1, ())), (x0.2.2.2.2.2.2.1, ())))))))).bind fun r1 =>
    (event_Bytes.f k (r1.1.1.1, ((r1.1.1.2.1.1, (r1.1.1.2.1.2.1, (r1.1.1.2.1.2.2.1, (r1.1.1.2.1.2.2.2.1, (r1.1.1.2.1.2.2.2.2.1, (r1.1.1.2.1.2.2.2.2.2.1, (r1.1.1.2.1.2.2.2.2.2.2.1, ()))))))), (r1.1.1.2.2.1, (r1.1.1.2.2.2.1, (r1.1.1.2.2.2.2.1, ((r1.1.1.2.2.2.2.2.1.1, (r1.1.1.2.2.2.2.2.1.2.1, ())), (r1.1.1.2.2.2.2.2.2.1, ())))))))).bind fun r2 =>
    (chartularyref14_Right.f k (r1.1.1.1, ((r1.1.1.2.1.1, (r1.1.1.2.1.2.1, (r1.1.1.2.1.2.2.1, (r1.1.1.2.1.2.2.2.1, (r1.1.1.2.1.2.2.2.2.1, (r1.1.1.2.1.2.2.2.2.2.1, (r1.1.1.2.1.2.2.2.2.2.2.1, ()))))))), (r1.1.1.2.2.1, (r1.1.1.2.2.2.1, (r1.1.1.2.2.2.2.1, ((r1.1.1.2.2.2.2.2.1.1, (r1.1.1.2.2.2.2.2.1.2.1, ())), (r1.1.1.2.2.2.2.2.2.1, ())))))))).bind fun r3 =>
    bif !r3.1.1 then
      bif r2.1.1.toList == (⟨#[]⟩ : ByteArray).toList then
        (chartularylaw14_awake.f k).bind fun r4 =>
        some ((r4.1.1, ()), (()))
      else
        some ((false, ()), (()))
    else
      (event_Read.f k r2.1.1).bind fun r5 =>
      (chartularyref14_Bytes.f k (r1.1.1.1, ((r1.1.1.2.1.1, (r1.1.1.2.1.2.1, (r1.1.1.2.1.2.2.1, (r1.1.1.2.1.2.2.2.1, (r1.1.1.2.1.2.2.2.2.1, (r1.1.1.2.1.2.2.2.2.2.1, (r1.1.1.2.1.2.2.2.2.2.2.1, ()))))))), (r1.1.1.2.2.1, (r1.1.1.2.2.2.1, (r1.1.1.2.2.2.2.1, ((r1.1.1.2.2.2.2.2.1.1, (r1.1.1.2.2.2.2.2.1.2.1, ())), (r1.1.1.2.2.2.2.2.2.1, ())))))))).bind fun r6 =>
      bif r2.1.1.toList == r6.1.1.toList then
        bif (r5.1.2.1 : Int) == 0 then
          (chartularyref14_Clean.f k (r1.1.1.1, ((r1.1.1.2.1.1, (r1.1.1.2.1.2.1, (r1.1.1.2.1.2.2.1, (r1.1.1.2.1.2.2.2.1, (r1.1.1.2.1.2.2.2.2.1, (r1.1.1.2.1.2.2.2.2.2.1, (r1.1.1.2.1.2.2.2.2.2.2.1, ()))))))), (r1.1.1.2.2.1, (r1.1.1.2.2.2.1, (r1.1.1.2.2.2.2.1, ((r1.1.1.2.2.2.2.2.1.1, (r1.1.1.2.2.2.2.2.1.2.1, ())), (r1.1.1.2.2.2.2.2.2.1, ())))))))).bind fun r7 =>
          (chartularyref14_Same.f k (r5.1.1.1, ((r5.1.1.2.1.1, (r5.1.1.2.1.2.1, (r5.1.1.2.1.2.2.1, (r5.1.1.2.1.2.2.2.1, (r5.1.1.2.1.2.2.2.2.1, (r5.1.1.2.1.2.2.2.2.2.1, (r5.1.1.2.1.2.2.2.2.2.2.1, ()))))))), (r5.1.1.2.2.1, (r5.1.1.2.2.2.1, (r5.1.1.2.2.2.2.1, ((r5.1.1.2.2.2.2.2.1.1, (r5.1.1.2.2.2.2.2.1.2.1, ())), (r5.1.1.2.2.2.2.2.2.1, ()))))))) (r7.1.1.1, ((r7.1.1.2.1.1, (r7.1.1.2.1.2.1, (r7.1.1.2.1.2.2.1, (r7.1.1.2.1.2.2.2.1, (r7.1.1.2.1.2.2.2.2.1, (r7.1.1.2.1.2.2.2.2.2.1, (r7.1.1.2.1.2.2.2.2.2.2.1, ()))))))), (r7.1.1.2.2.1, (r7.1.1.2.2.2.1, (r7.1.1.2.2.2.2.1, ((r7.1.1.2.2.2.2.2.1.1, (r7.1.1.2.2.2.2.2.1.2.1, ())), (r7.1.1.2.2.2.2.2.2.1, ())))))))).bind fun r8 =>
          bif r8.1.1 then
            (chartularylaw14_awake.f k).bind fun r9 =>
            some ((r9.1.1, ()), (()))
          else
            some ((false, ()), (()))
        else
          some ((false, ()), (()))
      else
        some ((false, ()), (()))
abbrev chartularylaw14_EventBytes.ini : LSh := ⟨[(0, .val (.cons (.int .i64) (.cons (.cons .str (.cons (.int .i64) (.cons (.int .i64) (.cons (.int .i64) (.cons (.sl (.cons .str (.cons .str (.cons .str (.cons .bool .nil))))) (.cons .bool (.cons (.sl .str) .nil))))))) (.cons (.int .i64) (.cons (.int .i64) (.cons .str (.cons (.cons (.int .i64) (.cons .str .nil)) (.cons (.int .i64) .nil))))))))], []⟩
abbrev chartularylaw14_EventBytes.out : LSh := ⟨[(0, .val .bool)], []⟩
noncomputable def chartularylaw14_EventBytes.labF : Nat → Option (LabF chartularylaw14_EventBytes.out.den)
  | _ => none
noncomputable def chartularylaw14_EventBytes.fd : FnD := ⟨Try.f5, chartularylaw14_EventBytes.ini, chartularylaw14_EventBytes.out, 1, [], [], chartularylaw14_EventBytes.labF, fun k (d : ((Int × (ByteArray × Int × Int × Int × List (ByteArray × ByteArray × ByteArray × Bool × Unit) × Bool × List ByteArray × Unit) × Int × Int × ByteArray × (Int × ByteArray × Unit) × Int × Unit) × Unit) × (Unit)) => (chartularylaw14_EventBytes.f k d.1.1 : Option chartularylaw14_EventBytes.R)⟩

/-! ### chartularylaw14_EventReads : function 6 -/
abbrev chartularylaw14_EventReads.R := (Bool × Unit) × (Unit)
mutual
noncomputable def chartularylaw14_EventReads.j0 : Nat → ByteArray → Option chartularylaw14_EventReads.R
  | 0, _ => none
  | k + 1, x0 =>
    (event_Read.f k x0).bind fun r1 =>
    bif (r1.1.2.1 : Int) != 0 then
      (chartularyref14_Same.f k (r1.1.1.1, ((r1.1.1.2.1.1, (r1.1.1.2.1.2.1, (r1.1.1.2.1.2.2.1, (r1.1.1.2.1.2.2.2.1, (r1.1.1.2.1.2.2.2.2.1, (r1.1.1.2.1.2.2.2.2.2.1, (r1.1.1.2.1.2.2.2.2.2.2.1, ()))))))), (r1.1.1.2.2.1, (r1.1.1.2.2.2.1, (r1.1.1.2.2.2.2.1, ((r1.1.1.2.2.2.2.2.1.1, (r1.1.1.2.2.2.2.2.1.2.1, ())), (r1.1.1.2.2.2.2.2.2.1, ()))))))) (0, ((ByteArray.empty, (0, (0, (0, (([] : List (ByteArray × ByteArray × ByteArray × Bool × Unit)), (false, (([] : List ByteArray), ()))))))), (0, (0, (ByteArray.empty, ((0, (ByteArray.empty, ())), (0, ())))))))).bind fun r2 =>
      bif r2.1.1 then
        (chartularylaw14_awake.f k).bind fun r3 =>
        some ((r3.1.1, ()), (()))
      else
        some ((false, ()), (()))
    else
      (chartularyref14_Right.f k (r1.1.1.1, ((r1.1.1.2.1.1, (r1.1.1.2.1.2.1, (r1.1.1.2.1.2.2.1, (r1.1.1.2.1.2.2.2.1, (r1.1.1.2.1.2.2.2.2.1, (r1.1.1.2.1.2.2.2.2.2.1, (r1.1.1.2.1.2.2.2.2.2.2.1, ()))))))), (r1.1.1.2.2.1, (r1.1.1.2.2.2.1, (r1.1.1.2.2.2.2.1, ((r1.1.1.2.2.2.2.2.1.1, (r1.1.1.2.2.2.2.2.1.2.1, ())), (r1.1.1.2.2.2.2.2.2.1, ())))))))).bind fun r4 =>
      bif r4.1.1 then
        (chartularyref14_Clean.f k (r1.1.1.1, ((r1.1.1.2.1.1, (r1.1.1.2.1.2.1, (r1.1.1.2.1.2.2.1, (r1.1.1.2.1.2.2.2.1, (r1.1.1.2.1.2.2.2.2.1, (r1.1.1.2.1.2.2.2.2.2.1, (r1.1.1.2.1.2.2.2.2.2.2.1, ()))))))), (r1.1.1.2.2.1, (r1.1.1.2.2.2.1, (r1.1.1.2.2.2.2.1, ((r1.1.1.2.2.2.2.2.1.1, (r1.1.1.2.2.2.2.2.1.2.1, ())), (r1.1.1.2.2.2.2.2.2.1, ())))))))).bind fun r5 =>
        (chartularyref14_Same.f k (r1.1.1.1, ((r1.1.1.2.1.1, (r1.1.1.2.1.2.1, (r1.1.1.2.1.2.2.1, (r1.1.1.2.1.2.2.2.1, (r1.1.1.2.1.2.2.2.2.1, (r1.1.1.2.1.2.2.2.2.2.1, (r1.1.1.2.1.2.2.2.2.2.2.1, ()))))))), (r1.1.1.2.2.1, (r1.1.1.2.2.2.1, (r1.1.1.2.2.2.2.1, ((r1.1.1.2.2.2.2.2.1.1, (r1.1.1.2.2.2.2.2.1.2.1, ())), (r1.1.1.2.2.2.2.2.2.1, ()))))))) (r5.1.1.1, ((r5.1.1.2.1.1, (r5.1.1.2.1.2.1, (r5.1.1.2.1.2.2.1, (r5.1.1.2.1.2.2.2.1, (r5.1.1.2.1.2.2.2.2.1, (r5.1.1.2.1.2.2.2.2.2.1, (r5.1.1.2.1.2.2.2.2.2.2.1, ()))))))), (r5.1.1.2.2.1, (r5.1.1.2.2.2.1, (r5.1.1.2.2.2.2.1, ((r5.1.1.2.2.2.2.2.1.1, (r5.1.1.2.2.2.2.2.1.2.1, ())), (r5.1.1.2.2.2.2.2.2.1, ())))))))).bind fun r6 =>
        bif r6.1.1 then
          (chartularyref14_Bytes.f k (r1.1.1.1, ((r1.1.1.2.1.1, (r1.1.1.2.1.2.1, (r1.1.1.2.1.2.2.1, (r1.1.1.2.1.2.2.2.1, (r1.1.1.2.1.2.2.2.2.1, (r1.1.1.2.1.2.2.2.2.2.1, (r1.1.1.2.1.2.2.2.2.2.2.1, ()))))))), (r1.1.1.2.2.1, (r1.1.1.2.2.2.1, (r1.1.1.2.2.2.2.1, ((r1.1.1.2.2.2.2.2.1.1, (r1.1.1.2.2.2.2.2.1.2.1, ())), (r1.1.1.2.2.2.2.2.2.1, ())))))))).bind fun r7 =>
          bif r7.1.1.toList == x0.toList then
            (chartularylaw14_awake.f k).bind fun r8 =>
            some ((r8.1.1, ()), (()))
          else
            some ((false, ()), (()))
        else
          some ((false, ()), (()))
      else
        some ((false, ()), (()))
noncomputable def chartularylaw14_EventReads.f : Nat → ByteArray → Option chartularylaw14_EventReads.R
  | 0, _ => none
  | k + 1, x0 =>
    bif decide (((x0.size : Int) : Int) > 6000) then
      (ck (decide (0 ≤ 0) && decide (0 ≤ 6000) && decide (6000 ≤ (x0.size : Int)))).bind fun _ =>
      chartularylaw14_EventReads.j0 k (x0.extract (0 : Int).toNat (6000 : Int).toNat)
    else
      chartularylaw14_EventReads.j0 k x0
end
abbrev chartularylaw14_EventReads.ini : LSh := ⟨[(0, .val .str)], []⟩
abbrev chartularylaw14_EventReads.out : LSh := ⟨[(0, .val .bool)], []⟩
abbrev chartularylaw14_EventReads.j0s : LSh := ⟨[(0, .val .str)], []⟩
noncomputable def chartularylaw14_EventReads.labF : Nat → Option (LabF chartularylaw14_EventReads.out.den)
  | 7 => some ⟨chartularylaw14_EventReads.j0s, fun k (d : (ByteArray × Unit) × (Unit)) => (chartularylaw14_EventReads.j0 k d.1.1 : Option chartularylaw14_EventReads.R)⟩
  | _ => none
noncomputable def chartularylaw14_EventReads.fd : FnD := ⟨Try.f6, chartularylaw14_EventReads.ini, chartularylaw14_EventReads.out, 1, [], [], chartularylaw14_EventReads.labF, fun k (d : (ByteArray × Unit) × (Unit)) => (chartularylaw14_EventReads.f k d.1.1 : Option chartularylaw14_EventReads.R)⟩

noncomputable def Γ (k : Nat) : Gam := [(17, [chartularylaw14_cut.fd.sp k]), (16, [chartularylaw14_FewEntry.fd.sp k]), (7, [chartularylaw14_Few.fd.sp k]), (52, [paper_sign.fd.sp k]), (51, [paper_word.fd.sp k]), (48, [paper_IsID.fd.sp k]), (35, [paper_IsName.fd.sp k]), (49, [event_rising.fd.sp k]), (50, [event_rightSlip.fd.sp k]), (34, [event_RightEntry.fd.sp k]), (18, [event_Right.fd.sp k]), (36, [octet_Num.fd.sp k]), (19, [octet_Writer_Num.fd.sp k]), (40, [octet_Text.fd.sp k]), (21, [octet_Writer_Text.fd.sp k]), (37, [octet_Writer_Flag.fd.sp k]), (38, [octet_Writer_Texts.fd.sp k]), (39, [event_slip.fd.sp k]), (20, [event_entry.fd.sp k]), (22, [octet_Writer_All.fd.sp k]), (8, [event_Bytes.fd.sp k]), (9, [chartularylaw14_awake.fd.sp k]), (24, [chartularyref14_word.fd.sp k]), (23, [chartularyref14_RightEntry.fd.sp k]), (10, [chartularyref14_Right.fd.sp k]), (25, [chartularyref14_SameEntry.fd.sp k]), (11, [chartularyref14_Same.fd.sp k]), (12, [chartularyref14_Clean.fd.sp k]), (13, [event_Same.fd.sp k]), (4, [chartularylaw14_EventSames.fd.sp k]), (26, [octet_Read.fd.sp k]), (42, [octet_Reader_Fail.fd.sp k]), (43, [octet_Reader_Err.fd.sp k]), (41, [octet_Reader_Raw.fd.sp k]), (27, [octet_Reader_Num.fd.sp k]), (29, [octet_Reader_Text.fd.sp k]), (44, [octet_Reader_Flag.fd.sp k]), (45, [octet_Reader_Texts.fd.sp k]), (46, [event_readSlip.fd.sp k]), (28, [event_readEntry.fd.sp k]), (47, [octet_Reader_Left.fd.sp k]), (30, [octet_Reader_End.fd.sp k]), (14, [event_Read.fd.sp k]), (31, [chartularyref14_num.fd.sp k]), (32, [chartularyref14_text.fd.sp k]), (33, [chartularyref14_truth.fd.sp k]), (15, [chartularyref14_Bytes.fd.sp k]), (5, [chartularylaw14_EventBytes.fd.sp k]), (6, [chartularylaw14_EventReads.fd.sp k])]
end Go.Proofs.Ythedgoefiffogaa.E
