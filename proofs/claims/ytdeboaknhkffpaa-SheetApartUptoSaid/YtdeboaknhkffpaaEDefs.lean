import Derived.Test.YtdeboaknhkffpaaEDefs0
namespace Go.Proofs.Ytdeboaknhkffpaa.E
open Go Go.Proofs.Ytdeboaknhkffpaa.Eng Go.Proofs
set_option linter.unusedVariables false
set_option maxRecDepth 100000
/-! ### sheet_Leaf : function 10 -/
abbrev sheet_Leaf.R := (ByteArray × Unit) × ((Unit × Unit × (ByteArray × ByteArray × Unit) × Bool × Bool × Int × Unit) × ((List (ByteArray × ByteArray)) × Unit) × Unit)
noncomputable def sheet_Leaf.f : Nat → ByteArray → ByteArray → (ByteArray × ByteArray × Unit) → Bool → Bool → Int → (List (ByteArray × ByteArray)) → (List (ByteArray × ByteArray)) → Option sheet_Leaf.R
  | 0, _, _, _, _, _, _, _, _ => none
  | k + 1, x1, x2, o0_2, o0_3, o0_4, o0_5, o1_0, o2_0 =>
    (octet_Text.f k x1).bind fun r1 =>
    (octet_Text.f k x2).bind fun r2 =>
    (ck (decide (r1.1.1.size + r2.1.1.size ≤ 9223372036854775807))).bind fun _ =>
    (pledge_Leaf.f k (r1.1.1 ++ r2.1.1) (o0_2.1, (o0_2.2.1, ())) o0_3 o0_4 o0_5 o1_0 o2_0).bind fun r3 =>
    some ((r3.1.1, ()), (((), (), (r3.2.1.2.2.1.1, (r3.2.1.2.2.1.2.1, ())), r3.2.1.2.2.2.1, r3.2.1.2.2.2.2.1, r3.2.1.2.2.2.2.2.1, ()), (r3.2.2.1.1, ()), ()))
abbrev sheet_Leaf.ini : LSh := ⟨[(0, .ptr 1000000 0), (1, .val .str), (2, .val .str)], [(1000000, 67, [.mref 1000001, .mref 1000002, .val (.cons .str (.cons .str .nil)), .val .bool, .val .bool, .val (.int .i64)]), (1000001, 64, [.mapd]), (1000002, 64, [.mapd])]⟩
abbrev sheet_Leaf.out : LSh := ⟨[(0, .val .str)], [(1000000, 67, [.mref 1000001, .mref 1000002, .val (.cons .str (.cons .str .nil)), .val .bool, .val .bool, .val (.int .i64)]), (1000002, 64, [.mapd])]⟩
noncomputable def sheet_Leaf.labF : Nat → Option (LabF sheet_Leaf.out.den)
  | _ => none
noncomputable def sheet_Leaf.fd : FnD := ⟨Try.f10, sheet_Leaf.ini, sheet_Leaf.out, 1, [1000000, 1000001, 1000002], [1000001], sheet_Leaf.labF, fun k (d : (Unit × ByteArray × ByteArray × Unit) × ((Unit × Unit × (ByteArray × ByteArray × Unit) × Bool × Bool × Int × Unit) × ((List (ByteArray × ByteArray)) × Unit) × ((List (ByteArray × ByteArray)) × Unit) × Unit)) => (sheet_Leaf.f k d.1.2.1 d.1.2.2.1 d.2.1.2.2.1 d.2.1.2.2.2.1 d.2.1.2.2.2.2.1 d.2.1.2.2.2.2.2.1 d.2.2.1.1 d.2.2.2.1.1 : Option sheet_Leaf.R)⟩

/-! ### chartularylaw08_leaf : function 11 -/
abbrev chartularylaw08_leaf.R := (ByteArray × Unit) × ((Unit × Unit × (ByteArray × ByteArray × Unit) × Bool × Bool × Int × Unit) × ((List (ByteArray × ByteArray)) × Unit) × Unit)
noncomputable def chartularylaw08_leaf.f : Nat → (ByteArray × ByteArray × ByteArray × Bool × Unit) → (ByteArray × ByteArray × Unit) → Bool → Bool → Int → (List (ByteArray × ByteArray)) → (List (ByteArray × ByteArray)) → Option chartularylaw08_leaf.R
  | 0, _, _, _, _, _, _, _ => none
  | k + 1, x1, o0_2, o0_3, o0_4, o0_5, o1_0, o2_0 =>
    (octet_Text.f k x1.1).bind fun r1 =>
    (octet_Text.f k x1.2.1).bind fun r2 =>
    (ck (decide (r1.1.1.size + r2.1.1.size ≤ 9223372036854775807))).bind fun _ =>
    (pledge_Leaf.f k (r1.1.1 ++ r2.1.1) (o0_2.1, (o0_2.2.1, ())) o0_3 o0_4 o0_5 o1_0 o2_0).bind fun r3 =>
    some ((r3.1.1, ()), (((), (), (r3.2.1.2.2.1.1, (r3.2.1.2.2.1.2.1, ())), r3.2.1.2.2.2.1, r3.2.1.2.2.2.2.1, r3.2.1.2.2.2.2.2.1, ()), (r3.2.2.1.1, ()), ()))
abbrev chartularylaw08_leaf.ini : LSh := ⟨[(0, .ptr 1000000 0), (1, .val (.cons .str (.cons .str (.cons .str (.cons .bool .nil)))))], [(1000000, 67, [.mref 1000001, .mref 1000002, .val (.cons .str (.cons .str .nil)), .val .bool, .val .bool, .val (.int .i64)]), (1000001, 64, [.mapd]), (1000002, 64, [.mapd])]⟩
abbrev chartularylaw08_leaf.out : LSh := ⟨[(0, .val .str)], [(1000000, 67, [.mref 1000001, .mref 1000002, .val (.cons .str (.cons .str .nil)), .val .bool, .val .bool, .val (.int .i64)]), (1000002, 64, [.mapd])]⟩
noncomputable def chartularylaw08_leaf.labF : Nat → Option (LabF chartularylaw08_leaf.out.den)
  | _ => none
noncomputable def chartularylaw08_leaf.fd : FnD := ⟨Try.f11, chartularylaw08_leaf.ini, chartularylaw08_leaf.out, 1, [1000000, 1000001, 1000002], [1000001], chartularylaw08_leaf.labF, fun k (d : (Unit × (ByteArray × ByteArray × ByteArray × Bool × Unit) × Unit) × ((Unit × Unit × (ByteArray × ByteArray × Unit) × Bool × Bool × Int × Unit) × ((List (ByteArray × ByteArray)) × Unit) × ((List (ByteArray × ByteArray)) × Unit) × Unit)) => (chartularylaw08_leaf.f k d.1.2.1 d.2.1.2.2.1 d.2.1.2.2.2.1 d.2.1.2.2.2.2.1 d.2.1.2.2.2.2.2.1 d.2.2.1.1 d.2.2.2.1.1 : Option chartularylaw08_leaf.R)⟩

/-! ### pledge_None : function 29 -/
abbrev pledge_None.R := (ByteArray × Unit) × ((Unit × Unit × (ByteArray × ByteArray × Unit) × Bool × Bool × Int × Unit) × ((List (ByteArray × ByteArray)) × Unit) × Unit)
noncomputable def pledge_None.f : Nat → (ByteArray × ByteArray × Unit) → Bool → Bool → Int → (List (ByteArray × ByteArray)) → (List (ByteArray × ByteArray)) → Option pledge_None.R
  | 0, _, _, _, _, _, _ => none
  | k + 1, o0_2, o0_3, o0_4, o0_5, o1_0, o2_0 =>
    (mill_Mill_Sum.f k (⟨#[]⟩ : ByteArray) (o0_2.1, (o0_2.2.1, ())) o0_3 o0_4 o0_5 o1_0 o2_0).bind fun r1 =>
    some ((r1.1.1, ()), (((), (), (r1.2.1.2.2.1.1, (r1.2.1.2.2.1.2.1, ())), r1.2.1.2.2.2.1, r1.2.1.2.2.2.2.1, r1.2.1.2.2.2.2.2.1, ()), (r1.2.2.1.1, ()), ()))
abbrev pledge_None.ini : LSh := ⟨[(0, .ptr 1000000 0)], [(1000000, 67, [.mref 1000001, .mref 1000002, .val (.cons .str (.cons .str .nil)), .val .bool, .val .bool, .val (.int .i64)]), (1000001, 64, [.mapd]), (1000002, 64, [.mapd])]⟩
abbrev pledge_None.out : LSh := ⟨[(0, .val .str)], [(1000000, 67, [.mref 1000001, .mref 1000002, .val (.cons .str (.cons .str .nil)), .val .bool, .val .bool, .val (.int .i64)]), (1000002, 64, [.mapd])]⟩
noncomputable def pledge_None.labF : Nat → Option (LabF pledge_None.out.den)
  | _ => none
noncomputable def pledge_None.fd : FnD := ⟨Try.f29, pledge_None.ini, pledge_None.out, 1, [1000000, 1000001, 1000002], [1000001], pledge_None.labF, fun k (d : (Unit × Unit) × ((Unit × Unit × (ByteArray × ByteArray × Unit) × Bool × Bool × Int × Unit) × ((List (ByteArray × ByteArray)) × Unit) × ((List (ByteArray × ByteArray)) × Unit) × Unit)) => (pledge_None.f k d.2.1.2.2.1 d.2.1.2.2.2.1 d.2.1.2.2.2.2.1 d.2.1.2.2.2.2.2.1 d.2.2.1.1 d.2.2.2.1.1 : Option pledge_None.R)⟩

/-! ### chartularylaw07_below : function 30 -/
abbrev chartularylaw07_below.R := (Int × Unit) × (Unit)
mutual
noncomputable def chartularylaw07_below.l0 : Nat → Int → Int → Option chartularylaw07_below.R
  | 0, _, _ => none
  | k + 1, x0, x3 =>
    bif decide ((IntKind.wrap .i64 (2 * x3) : Int) < x0) then
      chartularylaw07_below.l0 k x0 (IntKind.wrap .i64 (2 * x3))
    else
      some ((x3, ()), (()))
noncomputable def chartularylaw07_below.f : Nat → Int → Option chartularylaw07_below.R
  | 0, _ => none
  | k + 1, x0 =>
    chartularylaw07_below.l0 k x0 1
end
abbrev chartularylaw07_below.ini : LSh := ⟨[(0, .val (.int .i64))], []⟩
abbrev chartularylaw07_below.out : LSh := ⟨[(0, .val (.int .i64))], []⟩
abbrev chartularylaw07_below.l0s : LSh := ⟨[(0, .val (.int .i64)), (3, .val (.int .i64))], []⟩
noncomputable def chartularylaw07_below.labF : Nat → Option (LabF chartularylaw07_below.out.den)
  | 4 => some ⟨chartularylaw07_below.l0s, fun k (d : (Int × Int × Unit) × (Unit)) => (chartularylaw07_below.l0 k d.1.1 d.1.2.1 : Option chartularylaw07_below.R)⟩
  | _ => none
noncomputable def chartularylaw07_below.fd : FnD := ⟨Try.f30, chartularylaw07_below.ini, chartularylaw07_below.out, 1, [], [], chartularylaw07_below.labF, fun k (d : (Int × Unit) × (Unit)) => (chartularylaw07_below.f k d.1.1 : Option chartularylaw07_below.R)⟩

/-! ### pledge_Node : function 31 -/
abbrev pledge_Node.R := (ByteArray × Unit) × ((Unit × Unit × (ByteArray × ByteArray × Unit) × Bool × Bool × Int × Unit) × ((List (ByteArray × ByteArray)) × Unit) × Unit)
noncomputable def pledge_Node.f : Nat → ByteArray → ByteArray → (ByteArray × ByteArray × Unit) → Bool → Bool → Int → (List (ByteArray × ByteArray)) → (List (ByteArray × ByteArray)) → Option pledge_Node.R
  | 0, _, _, _, _, _, _, _, _ => none
  | k + 1, x1, x2, o0_2, o0_3, o0_4, o0_5, o1_0, o2_0 =>
    (ck (decide ((⟨#[1]⟩ : ByteArray).size + x1.size ≤ 9223372036854775807))).bind fun _ =>
    (ck (decide (((⟨#[1]⟩ : ByteArray) ++ x1).size + x2.size ≤ 9223372036854775807))).bind fun _ =>
    (mill_Mill_Sum.f k (((⟨#[1]⟩ : ByteArray) ++ x1) ++ x2) (o0_2.1, (o0_2.2.1, ())) o0_3 o0_4 o0_5 o1_0 o2_0).bind fun r1 =>
    some ((r1.1.1, ()), (((), (), (r1.2.1.2.2.1.1, (r1.2.1.2.2.1.2.1, ())), r1.2.1.2.2.2.1, r1.2.1.2.2.2.2.1, r1.2.1.2.2.2.2.2.1, ()), (r1.2.2.1.1, ()), ()))
abbrev pledge_Node.ini : LSh := ⟨[(0, .ptr 1000000 0), (1, .val .str), (2, .val .str)], [(1000000, 67, [.mref 1000001, .mref 1000002, .val (.cons .str (.cons .str .nil)), .val .bool, .val .bool, .val (.int .i64)]), (1000001, 64, [.mapd]), (1000002, 64, [.mapd])]⟩
abbrev pledge_Node.out : LSh := ⟨[(0, .val .str)], [(1000000, 67, [.mref 1000001, .mref 1000002, .val (.cons .str (.cons .str .nil)), .val .bool, .val .bool, .val (.int .i64)]), (1000002, 64, [.mapd])]⟩
noncomputable def pledge_Node.labF : Nat → Option (LabF pledge_Node.out.den)
  | _ => none
noncomputable def pledge_Node.fd : FnD := ⟨Try.f31, pledge_Node.ini, pledge_Node.out, 1, [1000000, 1000001, 1000002], [1000001], pledge_Node.labF, fun k (d : (Unit × ByteArray × ByteArray × Unit) × ((Unit × Unit × (ByteArray × ByteArray × Unit) × Bool × Bool × Int × Unit) × ((List (ByteArray × ByteArray)) × Unit) × ((List (ByteArray × ByteArray)) × Unit) × Unit)) => (pledge_Node.f k d.1.2.1 d.1.2.2.1 d.2.1.2.2.1 d.2.1.2.2.2.1 d.2.1.2.2.2.2.1 d.2.1.2.2.2.2.2.1 d.2.2.1.1 d.2.2.2.1.1 : Option pledge_Node.R)⟩

/-! ### chartularylaw07_Root : function 12 -/
abbrev chartularylaw07_Root.R := (ByteArray × Unit) × ((Unit × Unit × (ByteArray × ByteArray × Unit) × Bool × Bool × Int × Unit) × ((List (ByteArray × ByteArray)) × Unit) × Unit)
noncomputable def chartularylaw07_Root.f : Nat → (List ByteArray) → (ByteArray × ByteArray × Unit) → Bool → Bool → Int → (List (ByteArray × ByteArray)) → (List (ByteArray × ByteArray)) → Option chartularylaw07_Root.R
  | 0, _, _, _, _, _, _, _ => none
  | k + 1, x1, o0_2, o0_3, o0_4, o0_5, o1_0, o2_0 =>
    bif ((x1.length : Int) : Int) == 0 then
      (pledge_None.f k (o0_2.1, (o0_2.2.1, ())) o0_3 o0_4 o0_5 o1_0 o2_0).bind fun r1 =>
      some ((r1.1.1, ()), (((), (), (r1.2.1.2.2.1.1, (r1.2.1.2.2.1.2.1, ())), r1.2.1.2.2.2.1, r1.2.1.2.2.2.2.1, r1.2.1.2.2.2.2.2.1, ()), (r1.2.2.1.1, ()), ()))
    else
    bif ((x1.length : Int) : Int) == 1 then
      (rdo x1 0).bind fun t2 =>
      some ((t2, ()), (((), (), (o0_2.1, (o0_2.2.1, ())), o0_3, o0_4, o0_5, ()), (o2_0, ()), ()))
    else
      (chartularylaw07_below.f k (x1.length : Int)).bind fun r3 =>
      (ck (decide (0 ≤ 0) && decide (0 ≤ r3.1.1) && decide (r3.1.1 ≤ (x1.length : Int)))).bind fun _ =>
      (chartularylaw07_Root.f k ((x1.take (r3.1.1 : Int).toNat).drop (0 : Int).toNat) (o0_2.1, (o0_2.2.1, ())) o0_3 o0_4 o0_5 o1_0 o2_0).bind fun r4 =>
      (ck (decide (0 ≤ r3.1.1) && decide (r3.1.1 ≤ (x1.length : Int)) && decide ((x1.length : Int) ≤ (x1.length : Int)))).bind fun _ =>
      (chartularylaw07_Root.f k ((x1.take (x1.length : Int).toNat).drop (r3.1.1 : Int).toNat) (r4.2.1.2.2.1.1, (r4.2.1.2.2.1.2.1, ())) r4.2.1.2.2.2.1 r4.2.1.2.2.2.2.1 r4.2.1.2.2.2.2.2.1 o1_0 r4.2.2.1.1).bind fun r5 =>
      (pledge_Node.f k r4.1.1 r5.1.1 (r5.2.1.2.2.1.1, (r5.2.1.2.2.1.2.1, ())) r5.2.1.2.2.2.1 r5.2.1.2.2.2.2.1 r5.2.1.2.2.2.2.2.1 o1_0 r5.2.2.1.1).bind fun r6 =>
      some ((r6.1.1, ()), (((), (), (r6.2.1.2.2.1.1, (r6.2.1.2.2.1.2.1, ())), r6.2.1.2.2.2.1, r6.2.1.2.2.2.2.1, r6.2.1.2.2.2.2.2.1, ()), (r6.2.2.1.1, ()), ()))
abbrev chartularylaw07_Root.ini : LSh := ⟨[(0, .ptr 1000000 0), (1, .val (.sl .str))], [(1000000, 67, [.mref 1000001, .mref 1000002, .val (.cons .str (.cons .str .nil)), .val .bool, .val .bool, .val (.int .i64)]), (1000001, 64, [.mapd]), (1000002, 64, [.mapd])]⟩
abbrev chartularylaw07_Root.out : LSh := ⟨[(0, .val .str)], [(1000000, 67, [.mref 1000001, .mref 1000002, .val (.cons .str (.cons .str .nil)), .val .bool, .val .bool, .val (.int .i64)]), (1000002, 64, [.mapd])]⟩
noncomputable def chartularylaw07_Root.labF : Nat → Option (LabF chartularylaw07_Root.out.den)
  | _ => none
noncomputable def chartularylaw07_Root.fd : FnD := ⟨Try.f12, chartularylaw07_Root.ini, chartularylaw07_Root.out, 1, [1000000, 1000001, 1000002], [1000001], chartularylaw07_Root.labF, fun k (d : (Unit × List ByteArray × Unit) × ((Unit × Unit × (ByteArray × ByteArray × Unit) × Bool × Bool × Int × Unit) × ((List (ByteArray × ByteArray)) × Unit) × ((List (ByteArray × ByteArray)) × Unit) × Unit)) => (chartularylaw07_Root.f k d.1.2.1 d.2.1.2.2.1 d.2.1.2.2.2.1 d.2.1.2.2.2.2.1 d.2.1.2.2.2.2.2.1 d.2.2.1.1 d.2.2.2.1.1 : Option chartularylaw07_Root.R)⟩

/-! ### chartularylaw08_leaves : function 13 -/
abbrev chartularylaw08_leaves.R := (List ByteArray × Unit) × ((Unit × Unit × (ByteArray × ByteArray × Unit) × Bool × Bool × Int × Unit) × ((List (ByteArray × ByteArray)) × Unit) × Unit)
mutual
noncomputable def chartularylaw08_leaves.l0 : Nat → (List (ByteArray × ByteArray × ByteArray × Bool × Unit)) → (List ByteArray) → Int → (ByteArray × ByteArray × Unit) → Bool → Bool → Int → (List (ByteArray × ByteArray)) → (List (ByteArray × ByteArray)) → Option chartularylaw08_leaves.R
  | 0, _, _, _, _, _, _, _, _, _ => none
  | k + 1, x1, x5, x6, o0_2, o0_3, o0_4, o0_5, o1_0, o2_0 =>
    bif decide ((x6 : Int) < (x1.length : Int)) then
      (rdo x1 x6).bind fun t1 =>
      (chartularylaw08_leaf.f k (t1.1, (t1.2.1, (t1.2.2.1, (t1.2.2.2.1, ())))) (o0_2.1, (o0_2.2.1, ())) o0_3 o0_4 o0_5 o1_0 o2_0).bind fun r2 =>
      (ck (decide ((x5.length + ([r2.1.1] : List ByteArray).length) * 16 ≤ 70368744177664))).bind fun _ =>
      chartularylaw08_leaves.l0 k x1 (x5 ++ ([r2.1.1] : List ByteArray)) (IntKind.wrap .i64 (x6 + 1)) (r2.2.1.2.2.1.1, (r2.2.1.2.2.1.2.1, ())) r2.2.1.2.2.2.1 r2.2.1.2.2.2.2.1 r2.2.1.2.2.2.2.2.1 o1_0 r2.2.2.1.1
    else
      some ((x5, ()), (((), (), (o0_2.1, (o0_2.2.1, ())), o0_3, o0_4, o0_5, ()), (o2_0, ()), ()))
noncomputable def chartularylaw08_leaves.f : Nat → (List (ByteArray × ByteArray × ByteArray × Bool × Unit)) → (ByteArray × ByteArray × Unit) → Bool → Bool → Int → (List (ByteArray × ByteArray)) → (List (ByteArray × ByteArray)) → Option chartularylaw08_leaves.R
  | 0, _, _, _, _, _, _, _ => none
  | k + 1, x1, o0_2, o0_3, o0_4, o0_5, o1_0, o2_0 =>
    chartularylaw08_leaves.l0 k x1 [] 0 (o0_2.1, (o0_2.2.1, ())) o0_3 o0_4 o0_5 o1_0 o2_0
end
abbrev chartularylaw08_leaves.ini : LSh := ⟨[(0, .ptr 1000000 0), (1, .val (.sl (.cons .str (.cons .str (.cons .str (.cons .bool .nil))))))], [(1000000, 67, [.mref 1000001, .mref 1000002, .val (.cons .str (.cons .str .nil)), .val .bool, .val .bool, .val (.int .i64)]), (1000001, 64, [.mapd]), (1000002, 64, [.mapd])]⟩
abbrev chartularylaw08_leaves.out : LSh := ⟨[(0, .val (.sl .str))], [(1000000, 67, [.mref 1000001, .mref 1000002, .val (.cons .str (.cons .str .nil)), .val .bool, .val .bool, .val (.int .i64)]), (1000002, 64, [.mapd])]⟩
abbrev chartularylaw08_leaves.l0s : LSh := ⟨[(0, .ptr 1000000 0), (1, .val (.sl (.cons .str (.cons .str (.cons .str (.cons .bool .nil)))))), (5, .own 2000005 9 .str), (6, .val (.int .i64))], [(1000000, 67, [.mref 1000001, .mref 1000002, .val (.cons .str (.cons .str .nil)), .val .bool, .val .bool, .val (.int .i64)]), (1000001, 64, [.mapd]), (1000002, 64, [.mapd])]⟩
noncomputable def chartularylaw08_leaves.labF : Nat → Option (LabF chartularylaw08_leaves.out.den)
  | 6 => some ⟨chartularylaw08_leaves.l0s, fun k (d : (Unit × (List (ByteArray × ByteArray × ByteArray × Bool × Unit)) × List ByteArray × Int × Unit) × ((Unit × Unit × (ByteArray × ByteArray × Unit) × Bool × Bool × Int × Unit) × ((List (ByteArray × ByteArray)) × Unit) × ((List (ByteArray × ByteArray)) × Unit) × Unit)) => (chartularylaw08_leaves.l0 k d.1.2.1 d.1.2.2.1 d.1.2.2.2.1 d.2.1.2.2.1 d.2.1.2.2.2.1 d.2.1.2.2.2.2.1 d.2.1.2.2.2.2.2.1 d.2.2.1.1 d.2.2.2.1.1 : Option chartularylaw08_leaves.R)⟩
  | _ => none
noncomputable def chartularylaw08_leaves.fd : FnD := ⟨Try.f13, chartularylaw08_leaves.ini, chartularylaw08_leaves.out, 1, [1000000, 1000001, 1000002], [1000001], chartularylaw08_leaves.labF, fun k (d : (Unit × (List (ByteArray × ByteArray × ByteArray × Bool × Unit)) × Unit) × ((Unit × Unit × (ByteArray × ByteArray × Unit) × Bool × Bool × Int × Unit) × ((List (ByteArray × ByteArray)) × Unit) × ((List (ByteArray × ByteArray)) × Unit) × Unit)) => (chartularylaw08_leaves.f k d.1.2.1 d.2.1.2.2.1 d.2.1.2.2.2.1 d.2.1.2.2.2.2.1 d.2.1.2.2.2.2.2.1 d.2.2.1.1 d.2.2.2.1.1 : Option chartularylaw08_leaves.R)⟩

/-! ### merkle_split : function 42 -/
abbrev merkle_split.R := (Int × Unit) × (Unit)
mutual
noncomputable def merkle_split.l0 : Nat → Int → Int → Option merkle_split.R
  | 0, _, _ => none
  | k + 1, x0, x3 =>
    bif decide ((x3 : Int) < IntKind.wrap .i64 (x0 - x3)) then
      merkle_split.l0 k x0 (IntKind.wrap .i64 (x3 * 2))
    else
      some ((x3, ()), (()))
noncomputable def merkle_split.f : Nat → Int → Option merkle_split.R
  | 0, _ => none
  | k + 1, x0 =>
    merkle_split.l0 k x0 1
end
abbrev merkle_split.ini : LSh := ⟨[(0, .val (.int .i64))], []⟩
abbrev merkle_split.out : LSh := ⟨[(0, .val (.int .i64))], []⟩
abbrev merkle_split.l0s : LSh := ⟨[(0, .val (.int .i64)), (3, .val (.int .i64))], []⟩
noncomputable def merkle_split.labF : Nat → Option (LabF merkle_split.out.den)
  | 4 => some ⟨merkle_split.l0s, fun k (d : (Int × Int × Unit) × (Unit)) => (merkle_split.l0 k d.1.1 d.1.2.1 : Option merkle_split.R)⟩
  | _ => none
noncomputable def merkle_split.fd : FnD := ⟨Try.f42, merkle_split.ini, merkle_split.out, 1, [], [], merkle_split.labF, fun k (d : (Int × Unit) × (Unit)) => (merkle_split.f k d.1.1 : Option merkle_split.R)⟩

/-! ### merkle_Root : function 32 -/
abbrev merkle_Root.R := (ByteArray × Unit) × ((Unit × Unit × (ByteArray × ByteArray × Unit) × Bool × Bool × Int × Unit) × ((List (ByteArray × ByteArray)) × Unit) × Unit)
noncomputable def merkle_Root.f : Nat → (List ByteArray) → (ByteArray × ByteArray × Unit) → Bool → Bool → Int → (List (ByteArray × ByteArray)) → (List (ByteArray × ByteArray)) → Option merkle_Root.R
  | 0, _, _, _, _, _, _, _ => none
  | k + 1, x1, o0_2, o0_3, o0_4, o0_5, o1_0, o2_0 =>
    bif ((x1.length : Int) : Int) == 0 then
      (pledge_None.f k (o0_2.1, (o0_2.2.1, ())) o0_3 o0_4 o0_5 o1_0 o2_0).bind fun r1 =>
      some ((r1.1.1, ()), (((), (), (r1.2.1.2.2.1.1, (r1.2.1.2.2.1.2.1, ())), r1.2.1.2.2.2.1, r1.2.1.2.2.2.2.1, r1.2.1.2.2.2.2.2.1, ()), (r1.2.2.1.1, ()), ()))
    else
    bif ((x1.length : Int) : Int) == 1 then
      (rdo x1 0).bind fun t2 =>
      some ((t2, ()), (((), (), (o0_2.1, (o0_2.2.1, ())), o0_3, o0_4, o0_5, ()), (o2_0, ()), ()))
    else
      (merkle_split.f k (x1.length : Int)).bind fun r3 =>
      (ck (decide (0 ≤ 0) && decide (0 ≤ r3.1.1) && decide (r3.1.1 ≤ r3.1.1) && decide (r3.1.1 ≤ (x1.length : Int)))).bind fun _ =>
      (merkle_Root.f k ((x1.take (r3.1.1 : Int).toNat).drop (0 : Int).toNat) (o0_2.1, (o0_2.2.1, ())) o0_3 o0_4 o0_5 o1_0 o2_0).bind fun r4 =>
      (ck (decide (0 ≤ r3.1.1) && decide (r3.1.1 ≤ (x1.length : Int)) && decide ((x1.length : Int) ≤ (x1.length : Int)))).bind fun _ =>
      (merkle_Root.f k ((x1.take (x1.length : Int).toNat).drop (r3.1.1 : Int).toNat) (r4.2.1.2.2.1.1, (r4.2.1.2.2.1.2.1, ())) r4.2.1.2.2.2.1 r4.2.1.2.2.2.2.1 r4.2.1.2.2.2.2.2.1 o1_0 r4.2.2.1.1).bind fun r5 =>
      (pledge_Node.f k r4.1.1 r5.1.1 (r5.2.1.2.2.1.1, (r5.2.1.2.2.1.2.1, ())) r5.2.1.2.2.2.1 r5.2.1.2.2.2.2.1 r5.2.1.2.2.2.2.2.1 o1_0 r5.2.2.1.1).bind fun r6 =>
      some ((r6.1.1, ()), (((), (), (r6.2.1.2.2.1.1, (r6.2.1.2.2.1.2.1, ())), r6.2.1.2.2.2.1, r6.2.1.2.2.2.2.1, r6.2.1.2.2.2.2.2.1, ()), (r6.2.2.1.1, ()), ()))
abbrev merkle_Root.ini : LSh := ⟨[(0, .ptr 1000000 0), (1, .val (.sl .str))], [(1000000, 67, [.mref 1000001, .mref 1000002, .val (.cons .str (.cons .str .nil)), .val .bool, .val .bool, .val (.int .i64)]), (1000001, 64, [.mapd]), (1000002, 64, [.mapd])]⟩
abbrev merkle_Root.out : LSh := ⟨[(0, .val .str)], [(1000000, 67, [.mref 1000001, .mref 1000002, .val (.cons .str (.cons .str .nil)), .val .bool, .val .bool, .val (.int .i64)]), (1000002, 64, [.mapd])]⟩
noncomputable def merkle_Root.labF : Nat → Option (LabF merkle_Root.out.den)
  | _ => none
noncomputable def merkle_Root.fd : FnD := ⟨Try.f32, merkle_Root.ini, merkle_Root.out, 1, [1000000, 1000001, 1000002], [1000001], merkle_Root.labF, fun k (d : (Unit × List ByteArray × Unit) × ((Unit × Unit × (ByteArray × ByteArray × Unit) × Bool × Bool × Int × Unit) × ((List (ByteArray × ByteArray)) × Unit) × ((List (ByteArray × ByteArray)) × Unit) × Unit)) => (merkle_Root.f k d.1.2.1 d.2.1.2.2.1 d.2.1.2.2.2.1 d.2.1.2.2.2.2.1 d.2.1.2.2.2.2.2.1 d.2.2.1.1 d.2.2.2.1.1 : Option merkle_Root.R)⟩

/-! ### sheet_leaves : function 33 -/
abbrev sheet_leaves.R := (List ByteArray × Unit) × ((Unit × Unit × (ByteArray × ByteArray × Unit) × Bool × Bool × Int × Unit) × ((List (ByteArray × ByteArray)) × Unit) × Unit)
mutual
noncomputable def sheet_leaves.l0 : Nat → (List ByteArray) → (List (ByteArray × ByteArray × ByteArray × Bool × Unit)) → Int → Int → (ByteArray × ByteArray × Unit) → Bool → Bool → Int → (List (ByteArray × ByteArray)) → (List (ByteArray × ByteArray)) → Option sheet_leaves.R
  | 0, _, _, _, _, _, _, _, _, _, _ => none
  | k + 1, x5, x8, x9, x10, o0_2, o0_3, o0_4, o0_5, o1_0, o2_0 =>
    bif decide ((x10 : Int) < x9) then
      (rdo x8 x10).bind fun t1 =>
      (sheet_Leaf.f k t1.1 t1.2.1 (o0_2.1, (o0_2.2.1, ())) o0_3 o0_4 o0_5 o1_0 o2_0).bind fun r2 =>
      (ck (decide ((x5.length + ([r2.1.1] : List ByteArray).length) * 16 ≤ 70368744177664))).bind fun _ =>
      sheet_leaves.l0 k (x5 ++ ([r2.1.1] : List ByteArray)) x8 x9 (IntKind.wrap .i64 (x10 + 1)) (r2.2.1.2.2.1.1, (r2.2.1.2.2.1.2.1, ())) r2.2.1.2.2.2.1 r2.2.1.2.2.2.2.1 r2.2.1.2.2.2.2.2.1 o1_0 r2.2.2.1.1
    else
      some ((x5, ()), (((), (), (o0_2.1, (o0_2.2.1, ())), o0_3, o0_4, o0_5, ()), (o2_0, ()), ()))
noncomputable def sheet_leaves.f : Nat → (List (ByteArray × ByteArray × ByteArray × Bool × Unit)) → (ByteArray × ByteArray × Unit) → Bool → Bool → Int → (List (ByteArray × ByteArray)) → (List (ByteArray × ByteArray)) → Option sheet_leaves.R
  | 0, _, _, _, _, _, _, _ => none
  | k + 1, x1, o0_2, o0_3, o0_4, o0_5, o1_0, o2_0 =>
    sheet_leaves.l0 k [] x1 (x1.length : Int) 0 (o0_2.1, (o0_2.2.1, ())) o0_3 o0_4 o0_5 o1_0 o2_0
end
abbrev sheet_leaves.ini : LSh := ⟨[(0, .ptr 1000000 0), (1, .val (.sl (.cons .str (.cons .str (.cons .str (.cons .bool .nil))))))], [(1000000, 67, [.mref 1000001, .mref 1000002, .val (.cons .str (.cons .str .nil)), .val .bool, .val .bool, .val (.int .i64)]), (1000001, 64, [.mapd]), (1000002, 64, [.mapd])]⟩
abbrev sheet_leaves.out : LSh := ⟨[(0, .val (.sl .str))], [(1000000, 67, [.mref 1000001, .mref 1000002, .val (.cons .str (.cons .str .nil)), .val .bool, .val .bool, .val (.int .i64)]), (1000002, 64, [.mapd])]⟩
abbrev sheet_leaves.l0s : LSh := ⟨[(0, .ptr 1000000 0), (5, .own 2000005 9 .str), (8, .val (.sl (.cons .str (.cons .str (.cons .str (.cons .bool .nil)))))), (9, .val (.int .i64)), (10, .val (.int .i64))], [(1000000, 67, [.mref 1000001, .mref 1000002, .val (.cons .str (.cons .str .nil)), .val .bool, .val .bool, .val (.int .i64)]), (1000001, 64, [.mapd]), (1000002, 64, [.mapd])]⟩
noncomputable def sheet_leaves.labF : Nat → Option (LabF sheet_leaves.out.den)
  | 6 => some ⟨sheet_leaves.l0s, fun k (d : (Unit × List ByteArray × (List (ByteArray × ByteArray × ByteArray × Bool × Unit)) × Int × Int × Unit) × ((Unit × Unit × (ByteArray × ByteArray × Unit) × Bool × Bool × Int × Unit) × ((List (ByteArray × ByteArray)) × Unit) × ((List (ByteArray × ByteArray)) × Unit) × Unit)) => (sheet_leaves.l0 k d.1.2.1 d.1.2.2.1 d.1.2.2.2.1 d.1.2.2.2.2.1 d.2.1.2.2.1 d.2.1.2.2.2.1 d.2.1.2.2.2.2.1 d.2.1.2.2.2.2.2.1 d.2.2.1.1 d.2.2.2.1.1 : Option sheet_leaves.R)⟩
  | _ => none
noncomputable def sheet_leaves.fd : FnD := ⟨Try.f33, sheet_leaves.ini, sheet_leaves.out, 1, [1000000, 1000001, 1000002], [1000001], sheet_leaves.labF, fun k (d : (Unit × (List (ByteArray × ByteArray × ByteArray × Bool × Unit)) × Unit) × ((Unit × Unit × (ByteArray × ByteArray × Unit) × Bool × Bool × Int × Unit) × ((List (ByteArray × ByteArray)) × Unit) × ((List (ByteArray × ByteArray)) × Unit) × Unit)) => (sheet_leaves.f k d.1.2.1 d.2.1.2.2.1 d.2.1.2.2.2.1 d.2.1.2.2.2.2.1 d.2.1.2.2.2.2.2.1 d.2.2.1.1 d.2.2.2.1.1 : Option sheet_leaves.R)⟩

/-! ### sheet_Root : function 14 -/
abbrev sheet_Root.R := (ByteArray × Unit) × ((Unit × Unit × (ByteArray × ByteArray × Unit) × Bool × Bool × Int × Unit) × ((List (ByteArray × ByteArray)) × Unit) × Unit)
noncomputable def sheet_Root.f : Nat → (List (ByteArray × ByteArray × ByteArray × Bool × Unit)) → (ByteArray × ByteArray × Unit) → Bool → Bool → Int → (List (ByteArray × ByteArray)) → (List (ByteArray × ByteArray)) → Option sheet_Root.R
  | 0, _, _, _, _, _, _, _ => none
  | k + 1, x1, o0_2, o0_3, o0_4, o0_5, o1_0, o2_0 =>
    (sheet_leaves.f k x1 (o0_2.1, (o0_2.2.1, ())) o0_3 o0_4 o0_5 o1_0 o2_0).bind fun r1 =>
    (merkle_Root.f k r1.1.1 (r1.2.1.2.2.1.1, (r1.2.1.2.2.1.2.1, ())) r1.2.1.2.2.2.1 r1.2.1.2.2.2.2.1 r1.2.1.2.2.2.2.2.1 o1_0 r1.2.2.1.1).bind fun r2 =>
    some ((r2.1.1, ()), (((), (), (r2.2.1.2.2.1.1, (r2.2.1.2.2.1.2.1, ())), r2.2.1.2.2.2.1, r2.2.1.2.2.2.2.1, r2.2.1.2.2.2.2.2.1, ()), (r2.2.2.1.1, ()), ()))
abbrev sheet_Root.ini : LSh := ⟨[(0, .ptr 1000000 0), (1, .val (.sl (.cons .str (.cons .str (.cons .str (.cons .bool .nil))))))], [(1000000, 67, [.mref 1000001, .mref 1000002, .val (.cons .str (.cons .str .nil)), .val .bool, .val .bool, .val (.int .i64)]), (1000001, 64, [.mapd]), (1000002, 64, [.mapd])]⟩
abbrev sheet_Root.out : LSh := ⟨[(0, .val .str)], [(1000000, 67, [.mref 1000001, .mref 1000002, .val (.cons .str (.cons .str .nil)), .val .bool, .val .bool, .val (.int .i64)]), (1000002, 64, [.mapd])]⟩
noncomputable def sheet_Root.labF : Nat → Option (LabF sheet_Root.out.den)
  | _ => none
noncomputable def sheet_Root.fd : FnD := ⟨Try.f14, sheet_Root.ini, sheet_Root.out, 1, [1000000, 1000001, 1000002], [1000001], sheet_Root.labF, fun k (d : (Unit × (List (ByteArray × ByteArray × ByteArray × Bool × Unit)) × Unit) × ((Unit × Unit × (ByteArray × ByteArray × Unit) × Bool × Bool × Int × Unit) × ((List (ByteArray × ByteArray)) × Unit) × ((List (ByteArray × ByteArray)) × Unit) × Unit)) => (sheet_Root.f k d.1.2.1 d.2.1.2.2.1 d.2.1.2.2.2.1 d.2.1.2.2.2.2.1 d.2.1.2.2.2.2.2.1 d.2.2.1.1 d.2.2.2.1.1 : Option sheet_Root.R)⟩

/-! ### sheet_Rising : function 25 -/
abbrev sheet_Rising.R := (Bool × Unit) × (Unit)
mutual
noncomputable def sheet_Rising.l0 : Nat → (List Int) → Int → (List Int) → Int → Int → Option sheet_Rising.R
  | 0, _, _, _, _, _ => none
  | k + 1, x0, x1, x7, x8, x9 =>
    bif decide ((x9 : Int) < x8) then
      (rdo x7 x9).bind fun t1 =>
      bif decide ((t1 : Int) < 0) then
        some ((false, ()), (()))
      else
      bif decide ((t1 : Int) ≥ x1) then
        some ((false, ()), (()))
      else
      bif decide ((x9 : Int) > 0) then
        (rdo x0 (IntKind.wrap .i64 (x9 - 1))).bind fun t2 =>
        bif decide ((t2 : Int) ≥ t1) then
          some ((false, ()), (()))
        else
          sheet_Rising.l0 k x0 x1 x7 x8 (IntKind.wrap .i64 (x9 + 1))
      else
        sheet_Rising.l0 k x0 x1 x7 x8 (IntKind.wrap .i64 (x9 + 1))
    else
      some ((true, ()), (()))
noncomputable def sheet_Rising.f : Nat → (List Int) → Int → Option sheet_Rising.R
  | 0, _, _ => none
  | k + 1, x0, x1 =>
    sheet_Rising.l0 k x0 x1 x0 (x0.length : Int) 0
end
abbrev sheet_Rising.ini : LSh := ⟨[(0, .val (.sl (.int .i64))), (1, .val (.int .i64))], []⟩
abbrev sheet_Rising.out : LSh := ⟨[(0, .val .bool)], []⟩
abbrev sheet_Rising.l0s : LSh := ⟨[(0, .val (.sl (.int .i64))), (1, .val (.int .i64)), (7, .val (.sl (.int .i64))), (8, .val (.int .i64)), (9, .val (.int .i64))], []⟩
noncomputable def sheet_Rising.labF : Nat → Option (LabF sheet_Rising.out.den)
  | 4 => some ⟨sheet_Rising.l0s, fun k (d : (List Int × Int × List Int × Int × Int × Unit) × (Unit)) => (sheet_Rising.l0 k d.1.1 d.1.2.1 d.1.2.2.1 d.1.2.2.2.1 d.1.2.2.2.2.1 : Option sheet_Rising.R)⟩
  | _ => none
noncomputable def sheet_Rising.fd : FnD := ⟨Try.f25, sheet_Rising.ini, sheet_Rising.out, 1, [], [], sheet_Rising.labF, fun k (d : (List Int × Int × Unit) × (Unit)) => (sheet_Rising.f k d.1.1 d.1.2.1 : Option sheet_Rising.R)⟩

/-! ### sheet_picked : function 45 -/
abbrev sheet_picked.R := (Bool × Unit) × (Unit)
mutual
noncomputable def sheet_picked.l0 : Nat → Int → Int → (List Int) → Int → Int → Option sheet_picked.R
  | 0, _, _, _, _, _ => none
  | k + 1, x1, x2, x9, x10, x11 =>
    bif decide ((x11 : Int) < x10) then
      (rdo x9 x11).bind fun t1 =>
      bif decide ((t1 : Int) ≥ x1) then
        bif decide ((t1 : Int) < x2) then
          some ((true, ()), (()))
        else
          sheet_picked.l0 k x1 x2 x9 x10 (IntKind.wrap .i64 (x11 + 1))
      else
        sheet_picked.l0 k x1 x2 x9 x10 (IntKind.wrap .i64 (x11 + 1))
    else
      some ((false, ()), (()))
noncomputable def sheet_picked.f : Nat → (List Int) → Int → Int → Option sheet_picked.R
  | 0, _, _, _ => none
  | k + 1, x0, x1, x2 =>
    sheet_picked.l0 k x1 x2 x0 (x0.length : Int) 0
end
abbrev sheet_picked.ini : LSh := ⟨[(0, .val (.sl (.int .i64))), (1, .val (.int .i64)), (2, .val (.int .i64))], []⟩
abbrev sheet_picked.out : LSh := ⟨[(0, .val .bool)], []⟩
abbrev sheet_picked.l0s : LSh := ⟨[(1, .val (.int .i64)), (2, .val (.int .i64)), (9, .val (.sl (.int .i64))), (10, .val (.int .i64)), (11, .val (.int .i64))], []⟩
noncomputable def sheet_picked.labF : Nat → Option (LabF sheet_picked.out.den)
  | 4 => some ⟨sheet_picked.l0s, fun k (d : (Int × Int × List Int × Int × Int × Unit) × (Unit)) => (sheet_picked.l0 k d.1.1 d.1.2.1 d.1.2.2.1 d.1.2.2.2.1 d.1.2.2.2.2.1 : Option sheet_picked.R)⟩
  | _ => none
noncomputable def sheet_picked.fd : FnD := ⟨Try.f45, sheet_picked.ini, sheet_picked.out, 1, [], [], sheet_picked.labF, fun k (d : (List Int × Int × Int × Unit) × (Unit)) => (sheet_picked.f k d.1.1 d.1.2.1 d.1.2.2.1 : Option sheet_picked.R)⟩

/-! ### sheet_split : function 47 -/
abbrev sheet_split.R := (Int × Unit) × (Unit)
mutual
noncomputable def sheet_split.l0 : Nat → Int → Int → Option sheet_split.R
  | 0, _, _ => none
  | k + 1, x0, x3 =>
    bif decide ((IntKind.wrap .i64 (2 * x3) : Int) < x0) then
      sheet_split.l0 k x0 (IntKind.wrap .i64 (x3 * 2))
    else
      some ((x3, ()), (()))
noncomputable def sheet_split.f : Nat → Int → Option sheet_split.R
  | 0, _ => none
  | k + 1, x0 =>
    sheet_split.l0 k x0 1
end
abbrev sheet_split.ini : LSh := ⟨[(0, .val (.int .i64))], []⟩
abbrev sheet_split.out : LSh := ⟨[(0, .val (.int .i64))], []⟩
abbrev sheet_split.l0s : LSh := ⟨[(0, .val (.int .i64)), (3, .val (.int .i64))], []⟩
noncomputable def sheet_split.labF : Nat → Option (LabF sheet_split.out.den)
  | 4 => some ⟨sheet_split.l0s, fun k (d : (Int × Int × Unit) × (Unit)) => (sheet_split.l0 k d.1.1 d.1.2.1 : Option sheet_split.R)⟩
  | _ => none
noncomputable def sheet_split.fd : FnD := ⟨Try.f47, sheet_split.ini, sheet_split.out, 1, [], [], sheet_split.labF, fun k (d : (Int × Unit) × (Unit)) => (sheet_split.f k d.1.1 : Option sheet_split.R)⟩

/-! ### sheet_gather : function 39 -/
abbrev sheet_gather.R := (List ByteArray × Unit) × ((Unit × Unit × (ByteArray × ByteArray × Unit) × Bool × Bool × Int × Unit) × ((List (ByteArray × ByteArray)) × Unit) × Unit)
noncomputable def sheet_gather.f : Nat → (List ByteArray) → Int → (List Int) → (ByteArray × ByteArray × Unit) → Bool → Bool → Int → (List (ByteArray × ByteArray)) → (List (ByteArray × ByteArray)) → Option sheet_gather.R
  | 0, _, _, _, _, _, _, _, _, _ => none
  | k + 1, x1, x2, x3, o0_2, o0_3, o0_4, o0_5, o1_0, o2_0 =>
    (sheet_picked.f k x3 x2 (IntKind.wrap .i64 (x2 + (x1.length : Int)))).bind fun r1 =>
    bif !r1.1.1 then
      (merkle_Root.f k x1 (o0_2.1, (o0_2.2.1, ())) o0_3 o0_4 o0_5 o1_0 o2_0).bind fun r2 =>
      some ((([r2.1.1] : List ByteArray), ()), (((), (), (r2.2.1.2.2.1.1, (r2.2.1.2.2.1.2.1, ())), r2.2.1.2.2.2.1, r2.2.1.2.2.2.2.1, r2.2.1.2.2.2.2.2.1, ()), (r2.2.2.1.1, ()), ()))
    else
    bif ((x1.length : Int) : Int) == 1 then
      some (([], ()), (((), (), (o0_2.1, (o0_2.2.1, ())), o0_3, o0_4, o0_5, ()), (o2_0, ()), ()))
    else
      (sheet_split.f k (x1.length : Int)).bind fun r3 =>
      (ck (decide (0 ≤ 0) && decide (0 ≤ r3.1.1) && decide (r3.1.1 ≤ (x1.length : Int)))).bind fun _ =>
      (sheet_gather.f k ((x1.take (r3.1.1 : Int).toNat).drop (0 : Int).toNat) x2 x3 (o0_2.1, (o0_2.2.1, ())) o0_3 o0_4 o0_5 o1_0 o2_0).bind fun r4 =>
      (ck (decide (0 ≤ r3.1.1) && decide (r3.1.1 ≤ (x1.length : Int)) && decide ((x1.length : Int) ≤ (x1.length : Int)))).bind fun _ =>
      (sheet_gather.f k ((x1.take (x1.length : Int).toNat).drop (r3.1.1 : Int).toNat) (IntKind.wrap .i64 (x2 + r3.1.1)) x3 (r4.2.1.2.2.1.1, (r4.2.1.2.2.1.2.1, ())) r4.2.1.2.2.2.1 r4.2.1.2.2.2.2.1 r4.2.1.2.2.2.2.2.1 o1_0 r4.2.2.1.1).bind fun r5 =>
      (ck (decide ((r4.1.1.length + r5.1.1.length) * 16 ≤ 70368744177664))).bind fun _ =>
      some ((r4.1.1 ++ r5.1.1, ()), (((), (), (r5.2.1.2.2.1.1, (r5.2.1.2.2.1.2.1, ())), r5.2.1.2.2.2.1, r5.2.1.2.2.2.2.1, r5.2.1.2.2.2.2.2.1, ()), (r5.2.2.1.1, ()), ()))
abbrev sheet_gather.ini : LSh := ⟨[(0, .ptr 1000000 0), (1, .val (.sl .str)), (2, .val (.int .i64)), (3, .val (.sl (.int .i64)))], [(1000000, 67, [.mref 1000001, .mref 1000002, .val (.cons .str (.cons .str .nil)), .val .bool, .val .bool, .val (.int .i64)]), (1000001, 64, [.mapd]), (1000002, 64, [.mapd])]⟩
abbrev sheet_gather.out : LSh := ⟨[(0, .own 5000000 9 .str)], [(1000000, 67, [.mref 1000001, .mref 1000002, .val (.cons .str (.cons .str .nil)), .val .bool, .val .bool, .val (.int .i64)]), (1000002, 64, [.mapd])]⟩
noncomputable def sheet_gather.labF : Nat → Option (LabF sheet_gather.out.den)
  | _ => none
noncomputable def sheet_gather.fd : FnD := ⟨Try.f39, sheet_gather.ini, sheet_gather.out, 1, [1000000, 1000001, 1000002], [1000001], sheet_gather.labF, fun k (d : (Unit × List ByteArray × Int × List Int × Unit) × ((Unit × Unit × (ByteArray × ByteArray × Unit) × Bool × Bool × Int × Unit) × ((List (ByteArray × ByteArray)) × Unit) × ((List (ByteArray × ByteArray)) × Unit) × Unit)) => (sheet_gather.f k d.1.2.1 d.1.2.2.1 d.1.2.2.2.1 d.2.1.2.2.1 d.2.1.2.2.2.1 d.2.1.2.2.2.2.1 d.2.1.2.2.2.2.2.1 d.2.2.1.1 d.2.2.2.1.1 : Option sheet_gather.R)⟩

/-! ### sheet_Nodes : function 24 -/
abbrev sheet_Nodes.R := (List ByteArray × Int × Unit) × ((Unit × Unit × (ByteArray × ByteArray × Unit) × Bool × Bool × Int × Unit) × ((List (ByteArray × ByteArray)) × Unit) × Unit)
mutual
noncomputable def sheet_Nodes.j0 : Nat → (List (ByteArray × ByteArray × ByteArray × Bool × Unit)) → (List Int) → (ByteArray × ByteArray × Unit) → Bool → Bool → Int → (List (ByteArray × ByteArray)) → (List (ByteArray × ByteArray)) → Option sheet_Nodes.R
  | 0, _, _, _, _, _, _, _, _ => none
  | k + 1, x1, x2, o0_2, o0_3, o0_4, o0_5, o1_0, o2_0 =>
    (sheet_leaves.f k x1 (o0_2.1, (o0_2.2.1, ())) o0_3 o0_4 o0_5 o1_0 o2_0).bind fun r2 =>
    (sheet_gather.f k r2.1.1 0 x2 (r2.2.1.2.2.1.1, (r2.2.1.2.2.1.2.1, ())) r2.2.1.2.2.2.1 r2.2.1.2.2.2.2.1 r2.2.1.2.2.2.2.2.1 o1_0 r2.2.2.1.1).bind fun r3 =>
    some ((r3.1.1, 0, ()), (((), (), (r3.2.1.2.2.1.1, (r3.2.1.2.2.1.2.1, ())), r3.2.1.2.2.2.1, r3.2.1.2.2.2.2.1, r3.2.1.2.2.2.2.2.1, ()), (r3.2.2.1.1, ()), ()))
noncomputable def sheet_Nodes.f : Nat → (List (ByteArray × ByteArray × ByteArray × Bool × Unit)) → (List Int) → (ByteArray × ByteArray × Unit) → Bool → Bool → Int → (List (ByteArray × ByteArray)) → (List (ByteArray × ByteArray)) → Option sheet_Nodes.R
  | 0, _, _, _, _, _, _, _, _ => none
  | k + 1, x1, x2, o0_2, o0_3, o0_4, o0_5, o1_0, o2_0 =>
    bif ((x2.length : Int) : Int) == 0 then
      some ((([] : List ByteArray), 1, ()), (((), (), (o0_2.1, (o0_2.2.1, ())), o0_3, o0_4, o0_5, ()), (o2_0, ()), ()))
    else
      (sheet_Rising.f k x2 (x1.length : Int)).bind fun r1 =>
      bif !r1.1.1 then
        some ((([] : List ByteArray), 1, ()), (((), (), (o0_2.1, (o0_2.2.1, ())), o0_3, o0_4, o0_5, ()), (o2_0, ()), ()))
      else
        sheet_Nodes.j0 k x1 x2 (o0_2.1, (o0_2.2.1, ())) o0_3 o0_4 o0_5 o1_0 o2_0
end
abbrev sheet_Nodes.ini : LSh := ⟨[(0, .ptr 1000000 0), (1, .val (.sl (.cons .str (.cons .str (.cons .str (.cons .bool .nil)))))), (2, .val (.sl (.int .i64)))], [(1000000, 67, [.mref 1000001, .mref 1000002, .val (.cons .str (.cons .str .nil)), .val .bool, .val .bool, .val (.int .i64)]), (1000001, 64, [.mapd]), (1000002, 64, [.mapd])]⟩
abbrev sheet_Nodes.out : LSh := ⟨[(0, .val (.sl .str)), (1, .val (.int .i64))], [(1000000, 67, [.mref 1000001, .mref 1000002, .val (.cons .str (.cons .str .nil)), .val .bool, .val .bool, .val (.int .i64)]), (1000002, 64, [.mapd])]⟩
abbrev sheet_Nodes.j0s : LSh := ⟨[(0, .ptr 1000000 0), (1, .val (.sl (.cons .str (.cons .str (.cons .str (.cons .bool .nil)))))), (2, .val (.sl (.int .i64)))], [(1000000, 67, [.mref 1000001, .mref 1000002, .val (.cons .str (.cons .str .nil)), .val .bool, .val .bool, .val (.int .i64)]), (1000001, 64, [.mapd]), (1000002, 64, [.mapd])]⟩
noncomputable def sheet_Nodes.labF : Nat → Option (LabF sheet_Nodes.out.den)
  | 7 => some ⟨sheet_Nodes.j0s, fun k (d : (Unit × (List (ByteArray × ByteArray × ByteArray × Bool × Unit)) × List Int × Unit) × ((Unit × Unit × (ByteArray × ByteArray × Unit) × Bool × Bool × Int × Unit) × ((List (ByteArray × ByteArray)) × Unit) × ((List (ByteArray × ByteArray)) × Unit) × Unit)) => (sheet_Nodes.j0 k d.1.2.1 d.1.2.2.1 d.2.1.2.2.1 d.2.1.2.2.2.1 d.2.1.2.2.2.2.1 d.2.1.2.2.2.2.2.1 d.2.2.1.1 d.2.2.2.1.1 : Option sheet_Nodes.R)⟩
  | _ => none
noncomputable def sheet_Nodes.fd : FnD := ⟨Try.f24, sheet_Nodes.ini, sheet_Nodes.out, 2, [1000000, 1000001, 1000002], [1000001], sheet_Nodes.labF, fun k (d : (Unit × (List (ByteArray × ByteArray × ByteArray × Bool × Unit)) × List Int × Unit) × ((Unit × Unit × (ByteArray × ByteArray × Unit) × Bool × Bool × Int × Unit) × ((List (ByteArray × ByteArray)) × Unit) × ((List (ByteArray × ByteArray)) × Unit) × Unit)) => (sheet_Nodes.f k d.1.2.1 d.1.2.2.1 d.2.1.2.2.1 d.2.1.2.2.2.1 d.2.1.2.2.2.2.1 d.2.1.2.2.2.2.2.1 d.2.2.1.1 d.2.2.2.1.1 : Option sheet_Nodes.R)⟩

/-! ### chartularylaw08_awake : function 15 -/
abbrev chartularylaw08_awake.R := (Bool × Unit) × (Unit)
noncomputable def chartularylaw08_awake.f : Nat → Option chartularylaw08_awake.R
  | 0 => none
  | k + 1 =>
    (mill_New.f k).bind fun r1 =>
    (sheet_Nodes.f k ([((⟨#[97]⟩ : ByteArray), ((⟨#[120]⟩ : ByteArray), (ByteArray.empty, (false, ())))), ((⟨#[98]⟩ : ByteArray), ((⟨#[121]⟩ : ByteArray), (ByteArray.empty, (false, ()))))] : List (ByteArray × ByteArray × ByteArray × Bool × Unit)) ([0] : List Int) (r1.2.1.2.2.1.1, (r1.2.1.2.2.1.2.1, ())) r1.2.1.2.2.2.1 r1.2.1.2.2.2.2.1 r1.2.1.2.2.2.2.2.1 r1.2.2.1.1 r1.2.2.2.1.1).bind fun r2 =>
    bif (r2.1.2.1 : Int) == 0 then
      bif ((r2.1.1.length : Int) : Int) == 1 then
        (rdo r2.1.1 0).bind fun t3 =>
        bif ((t3.size : Int) : Int) == 32 then
          (rdo r2.1.1 0).bind fun t4 =>
          (sheet_Leaf.f k (⟨#[98]⟩ : ByteArray) (⟨#[121]⟩ : ByteArray) (r2.2.1.2.2.1.1, (r2.2.1.2.2.1.2.1, ())) r2.2.1.2.2.2.1 r2.2.1.2.2.2.2.1 r2.2.1.2.2.2.2.2.1 r1.2.2.1.1 r2.2.2.1.1).bind fun r5 =>
          some ((t4.toList == r5.1.1.toList, ()), (()))
        else
          some ((false, ()), (()))
      else
        some ((false, ()), (()))
    else
      some ((false, ()), (()))
abbrev chartularylaw08_awake.ini : LSh := ⟨[], []⟩
abbrev chartularylaw08_awake.out : LSh := ⟨[(0, .val .bool)], []⟩
noncomputable def chartularylaw08_awake.labF : Nat → Option (LabF chartularylaw08_awake.out.den)
  | _ => none
noncomputable def chartularylaw08_awake.fd : FnD := ⟨Try.f15, chartularylaw08_awake.ini, chartularylaw08_awake.out, 1, [], [], chartularylaw08_awake.labF, fun k (d : (Unit) × (Unit)) => (chartularylaw08_awake.f k : Option chartularylaw08_awake.R)⟩

/-! ### chartularylaw08_SheetRoots : function 3 -/
abbrev chartularylaw08_SheetRoots.R := (Bool × Unit) × (Unit)
mutual
noncomputable def chartularylaw08_SheetRoots.l0 : Nat → (List (ByteArray × ByteArray × ByteArray × Bool × Unit)) → (List (ByteArray × ByteArray × ByteArray × Bool × Unit)) → Int → (ByteArray × ByteArray × Unit) → Bool → Bool → Int → (List (ByteArray × ByteArray)) → (List (ByteArray × ByteArray)) → Option chartularylaw08_SheetRoots.R
  | 0, _, _, _, _, _, _, _, _, _ => none
  | k + 1, x0, x4, x5, o0_2, o0_3, o0_4, o0_5, o1000_0, o1001_0 =>
    bif decide ((x5 : Int) < (x0.length : Int)) then
      (rdo x0 x5).bind fun t3 =>
      (rdo x0 x5).bind fun t4 =>
      (ck (decide ((x4.length + ([(t3.1, (t4.2.1, (ByteArray.empty, (true, ()))))] : List (ByteArray × ByteArray × ByteArray × Bool × Unit)).length) * 56 ≤ 70368744177664))).bind fun _ =>
      (rdo x0 x5).bind fun t5 =>
      (rdo x0 x5).bind fun t6 =>
      (sheet_Leaf.f k t5.1 t6.2.1 (o0_2.1, (o0_2.2.1, ())) o0_3 o0_4 o0_5 o1000_0 o1001_0).bind fun r7 =>
      (rdo x0 x5).bind fun t8 =>
      (chartularylaw08_leaf.f k (t8.1, (t8.2.1, (t8.2.2.1, (t8.2.2.2.1, ())))) (r7.2.1.2.2.1.1, (r7.2.1.2.2.1.2.1, ())) r7.2.1.2.2.2.1 r7.2.1.2.2.2.2.1 r7.2.1.2.2.2.2.2.1 o1000_0 r7.2.2.1.1).bind fun r9 =>
      bif !(r7.1.1.toList == r9.1.1.toList) then
        some ((false, ()), (()))
      else
        chartularylaw08_SheetRoots.l0 k x0 (x4 ++ ([(t3.1, (t4.2.1, (ByteArray.empty, (true, ()))))] : List (ByteArray × ByteArray × ByteArray × Bool × Unit))) (IntKind.wrap .i64 (x5 + 1)) (r9.2.1.2.2.1.1, (r9.2.1.2.2.1.2.1, ())) r9.2.1.2.2.2.1 r9.2.1.2.2.2.2.1 r9.2.1.2.2.2.2.2.1 o1000_0 r9.2.2.1.1
    else
      (chartularylaw08_leaves.f k x0 (o0_2.1, (o0_2.2.1, ())) o0_3 o0_4 o0_5 o1000_0 o1001_0).bind fun r10 =>
      (chartularylaw07_Root.f k r10.1.1 (r10.2.1.2.2.1.1, (r10.2.1.2.2.1.2.1, ())) r10.2.1.2.2.2.1 r10.2.1.2.2.2.2.1 r10.2.1.2.2.2.2.2.1 o1000_0 r10.2.2.1.1).bind fun r11 =>
      (sheet_Root.f k x0 (r11.2.1.2.2.1.1, (r11.2.1.2.2.1.2.1, ())) r11.2.1.2.2.2.1 r11.2.1.2.2.2.2.1 r11.2.1.2.2.2.2.2.1 o1000_0 r11.2.2.1.1).bind fun r12 =>
      bif r12.1.1.toList == r11.1.1.toList then
        (sheet_Root.f k x4 (r12.2.1.2.2.1.1, (r12.2.1.2.2.1.2.1, ())) r12.2.1.2.2.2.1 r12.2.1.2.2.2.2.1 r12.2.1.2.2.2.2.2.1 o1000_0 r12.2.2.1.1).bind fun r13 =>
        bif r13.1.1.toList == r11.1.1.toList then
          (chartularylaw08_awake.f k).bind fun r14 =>
          some ((r14.1.1, ()), (()))
        else
          some ((false, ()), (()))
      else
        some ((false, ()), (()))
noncomputable def chartularylaw08_SheetRoots.f : Nat → (List (ByteArray × ByteArray × ByteArray × Bool × Unit)) → Option chartularylaw08_SheetRoots.R
  | 0, _ => none
  | k + 1, x0 =>
    (mill_New.f k).bind fun r1 =>
    (chartularylaw08_few.f k x0).bind fun r2 =>
    chartularylaw08_SheetRoots.l0 k r2.1.1 [] 0 (r1.2.1.2.2.1.1, (r1.2.1.2.2.1.2.1, ())) r1.2.1.2.2.2.1 r1.2.1.2.2.2.2.1 r1.2.1.2.2.2.2.2.1 r1.2.2.1.1 r1.2.2.2.1.1
end
abbrev chartularylaw08_SheetRoots.ini : LSh := ⟨[(0, .val (.sl (.cons .str (.cons .str (.cons .str (.cons .bool .nil))))))], []⟩
abbrev chartularylaw08_SheetRoots.out : LSh := ⟨[(0, .val .bool)], []⟩
abbrev chartularylaw08_SheetRoots.l0s : LSh := ⟨[(0, .val (.sl (.cons .str (.cons .str (.cons .str (.cons .bool .nil)))))), (3, .ptr 804000000 0), (4, .own 2000004 27 (.cons .str (.cons .str (.cons .str (.cons .bool .nil))))), (5, .val (.int .i64))], [(804000000, 67, [.mref 804001000, .mref 804001001, .val (.cons .str (.cons .str .nil)), .val .bool, .val .bool, .val (.int .i64)]), (804001000, 64, [.mapd]), (804001001, 64, [.mapd])]⟩
noncomputable def chartularylaw08_SheetRoots.labF : Nat → Option (LabF chartularylaw08_SheetRoots.out.den)
  | 10 => some ⟨chartularylaw08_SheetRoots.l0s, fun k (d : ((List (ByteArray × ByteArray × ByteArray × Bool × Unit)) × Unit × (List (ByteArray × ByteArray × ByteArray × Bool × Unit)) × Int × Unit) × ((Unit × Unit × (ByteArray × ByteArray × Unit) × Bool × Bool × Int × Unit) × ((List (ByteArray × ByteArray)) × Unit) × ((List (ByteArray × ByteArray)) × Unit) × Unit)) => (chartularylaw08_SheetRoots.l0 k d.1.1 d.1.2.2.1 d.1.2.2.2.1 d.2.1.2.2.1 d.2.1.2.2.2.1 d.2.1.2.2.2.2.1 d.2.1.2.2.2.2.2.1 d.2.2.1.1 d.2.2.2.1.1 : Option chartularylaw08_SheetRoots.R)⟩
  | _ => none
noncomputable def chartularylaw08_SheetRoots.fd : FnD := ⟨Try.f3, chartularylaw08_SheetRoots.ini, chartularylaw08_SheetRoots.out, 1, [], [], chartularylaw08_SheetRoots.labF, fun k (d : ((List (ByteArray × ByteArray × ByteArray × Bool × Unit)) × Unit) × (Unit)) => (chartularylaw08_SheetRoots.f k d.1.1 : Option chartularylaw08_SheetRoots.R)⟩

/-! ### octet_Writer_Text : function 34 -/
abbrev octet_Writer_Text.R := (Unit) × ((ByteArray × Bool × Unit) × Unit)
noncomputable def octet_Writer_Text.f : Nat → ByteArray → ByteArray → Bool → Option octet_Writer_Text.R
  | 0, _, _, _ => none
  | k + 1, x1, o0_0, o0_1 =>
    (octet_Text.f k x1).bind fun r1 =>
    (ck (decide (o0_0.size + r1.1.1.size ≤ 9223372036854775807))).bind fun _ =>
    some ((()), ((o0_0 ++ r1.1.1, o0_1, ()), ()))
abbrev octet_Writer_Text.ini : LSh := ⟨[(0, .ptr 1000000 0), (1, .val .str)], [(1000000, 72, [.val .str, .val .bool])]⟩
abbrev octet_Writer_Text.out : LSh := ⟨[], [(1000000, 72, [.val .str, .val .bool])]⟩
noncomputable def octet_Writer_Text.labF : Nat → Option (LabF octet_Writer_Text.out.den)
  | _ => none
noncomputable def octet_Writer_Text.fd : FnD := ⟨Try.f34, octet_Writer_Text.ini, octet_Writer_Text.out, 0, [1000000], [], octet_Writer_Text.labF, fun k (d : (Unit × ByteArray × Unit) × ((ByteArray × Bool × Unit) × Unit)) => (octet_Writer_Text.f k d.1.2.1 d.2.1.1 d.2.1.2.1 : Option octet_Writer_Text.R)⟩

/-! ### octet_Writer_Num : function 35 -/
abbrev octet_Writer_Num.R := (Unit) × ((ByteArray × Bool × Unit) × Unit)
noncomputable def octet_Writer_Num.f : Nat → Int → ByteArray → Bool → Option octet_Writer_Num.R
  | 0, _, _, _ => none
  | k + 1, x1, o0_0, o0_1 =>
    (octet_Num.f k x1).bind fun r1 =>
    bif o0_1 then
      (ck (decide (o0_0.size + r1.1.1.size ≤ 9223372036854775807))).bind fun _ =>
      some ((()), ((o0_0 ++ r1.1.1, true, ()), ()))
    else
      (ck (decide (o0_0.size + r1.1.1.size ≤ 9223372036854775807))).bind fun _ =>
      some ((()), ((o0_0 ++ r1.1.1, r1.1.1.toList == (⟨#[]⟩ : ByteArray).toList, ()), ()))
abbrev octet_Writer_Num.ini : LSh := ⟨[(0, .ptr 1000000 0), (1, .val (.int .i64))], [(1000000, 72, [.val .str, .val .bool])]⟩
abbrev octet_Writer_Num.out : LSh := ⟨[], [(1000000, 72, [.val .str, .val .bool])]⟩
noncomputable def octet_Writer_Num.labF : Nat → Option (LabF octet_Writer_Num.out.den)
  | _ => none
noncomputable def octet_Writer_Num.fd : FnD := ⟨Try.f35, octet_Writer_Num.ini, octet_Writer_Num.out, 0, [1000000], [], octet_Writer_Num.labF, fun k (d : (Unit × Int × Unit) × ((ByteArray × Bool × Unit) × Unit)) => (octet_Writer_Num.f k d.1.2.1 d.2.1.1 d.2.1.2.1 : Option octet_Writer_Num.R)⟩

/-! ### octet_Writer_All : function 36 -/
abbrev octet_Writer_All.R := (ByteArray × Bool × Unit) × (Unit)
noncomputable def octet_Writer_All.f : Nat → ByteArray → Bool → Option octet_Writer_All.R
  | 0, _, _ => none
  | k + 1, o0_0, o0_1 =>
    bif o0_1 then
      some (((⟨#[]⟩ : ByteArray), false, ()), (()))
    else
      some ((o0_0, true, ()), (()))
abbrev octet_Writer_All.ini : LSh := ⟨[(0, .ptr 1000000 0)], [(1000000, 72, [.val .str, .val .bool])]⟩
abbrev octet_Writer_All.out : LSh := ⟨[(0, .val .str), (1, .val .bool)], []⟩
noncomputable def octet_Writer_All.labF : Nat → Option (LabF octet_Writer_All.out.den)
  | _ => none
noncomputable def octet_Writer_All.fd : FnD := ⟨Try.f36, octet_Writer_All.ini, octet_Writer_All.out, 2, [1000000], [1000000], octet_Writer_All.labF, fun k (d : (Unit × Unit) × ((ByteArray × Bool × Unit) × Unit)) => (octet_Writer_All.f k d.2.1.1 d.2.1.2.1 : Option octet_Writer_All.R)⟩

/-! ### sheet_Paper : function 16 -/
abbrev sheet_Paper.R := (ByteArray × Unit) × ((Unit × Unit × (ByteArray × ByteArray × Unit) × Bool × Bool × Int × Unit) × ((List (ByteArray × ByteArray)) × Unit) × Unit)
noncomputable def sheet_Paper.f : Nat → ByteArray → Int → Int → Int → ByteArray → (ByteArray × ByteArray × Unit) → Bool → Bool → Int → (List (ByteArray × ByteArray)) → (List (ByteArray × ByteArray)) → Option sheet_Paper.R
  | 0, _, _, _, _, _, _, _, _, _, _, _ => none
  | k + 1, x1, x2, x3, x4, x5, o0_2, o0_3, o0_4, o0_5, o1_0, o2_0 =>
    (octet_Writer_Text.f k x1 ByteArray.empty false).bind fun r1 =>
    (octet_Writer_Num.f k x2 r1.2.1.1 r1.2.1.2.1).bind fun r2 =>
    (octet_Writer_Num.f k x3 r2.2.1.1 r2.2.1.2.1).bind fun r3 =>
    (octet_Writer_Num.f k x4 r3.2.1.1 r3.2.1.2.1).bind fun r4 =>
    (octet_Writer_Text.f k x5 r4.2.1.1 r4.2.1.2.1).bind fun r5 =>
    (octet_Writer_All.f k r5.2.1.1 r5.2.1.2.1).bind fun r6 =>
    bif !r6.1.2.1 then
      some (((⟨#[]⟩ : ByteArray), ()), (((), (), (o0_2.1, (o0_2.2.1, ())), o0_3, o0_4, o0_5, ()), (o2_0, ()), ()))
    else
      (pledge_Leaf.f k r6.1.1 (o0_2.1, (o0_2.2.1, ())) o0_3 o0_4 o0_5 o1_0 o2_0).bind fun r7 =>
      some ((r7.1.1, ()), (((), (), (r7.2.1.2.2.1.1, (r7.2.1.2.2.1.2.1, ())), r7.2.1.2.2.2.1, r7.2.1.2.2.2.2.1, r7.2.1.2.2.2.2.2.1, ()), (r7.2.2.1.1, ()), ()))
abbrev sheet_Paper.ini : LSh := ⟨[(0, .ptr 1000000 0), (1, .val .str), (2, .val (.int .i64)), (3, .val (.int .i64)), (4, .val (.int .i64)), (5, .val .str)], [(1000000, 67, [.mref 1000001, .mref 1000002, .val (.cons .str (.cons .str .nil)), .val .bool, .val .bool, .val (.int .i64)]), (1000001, 64, [.mapd]), (1000002, 64, [.mapd])]⟩
abbrev sheet_Paper.out : LSh := ⟨[(0, .val .str)], [(1000000, 67, [.mref 1000001, .mref 1000002, .val (.cons .str (.cons .str .nil)), .val .bool, .val .bool, .val (.int .i64)]), (1000002, 64, [.mapd])]⟩
noncomputable def sheet_Paper.labF : Nat → Option (LabF sheet_Paper.out.den)
  | _ => none
noncomputable def sheet_Paper.fd : FnD := ⟨Try.f16, sheet_Paper.ini, sheet_Paper.out, 1, [1000000, 1000001, 1000002], [1000001], sheet_Paper.labF, fun k (d : (Unit × ByteArray × Int × Int × Int × ByteArray × Unit) × ((Unit × Unit × (ByteArray × ByteArray × Unit) × Bool × Bool × Int × Unit) × ((List (ByteArray × ByteArray)) × Unit) × ((List (ByteArray × ByteArray)) × Unit) × Unit)) => (sheet_Paper.f k d.1.2.1 d.1.2.2.1 d.1.2.2.2.1 d.1.2.2.2.2.1 d.1.2.2.2.2.2.1 d.2.1.2.2.1 d.2.1.2.2.2.1 d.2.1.2.2.2.2.1 d.2.1.2.2.2.2.2.1 d.2.2.1.1 d.2.2.2.1.1 : Option sheet_Paper.R)⟩

/-! ### sheet_Entry : function 18 -/
abbrev sheet_Entry.R := (ByteArray × Unit) × ((Unit × Unit × (ByteArray × ByteArray × Unit) × Bool × Bool × Int × Unit) × ((List (ByteArray × ByteArray)) × Unit) × Unit)
noncomputable def sheet_Entry.f : Nat → (ByteArray × Int × Int × Int × List (ByteArray × ByteArray × ByteArray × Bool × Unit) × Bool × List ByteArray × Unit) → (ByteArray × ByteArray × Unit) → Bool → Bool → Int → (List (ByteArray × ByteArray)) → (List (ByteArray × ByteArray)) → Option sheet_Entry.R
  | 0, _, _, _, _, _, _, _ => none
  | k + 1, x1, o0_2, o0_3, o0_4, o0_5, o1_0, o2_0 =>
    (sheet_Root.f k x1.2.2.2.2.1 (o0_2.1, (o0_2.2.1, ())) o0_3 o0_4 o0_5 o1_0 o2_0).bind fun r1 =>
    (sheet_Paper.f k x1.1 x1.2.1 x1.2.2.1 (x1.2.2.2.2.1.length : Int) r1.1.1 (r1.2.1.2.2.1.1, (r1.2.1.2.2.1.2.1, ())) r1.2.1.2.2.2.1 r1.2.1.2.2.2.2.1 r1.2.1.2.2.2.2.2.1 o1_0 r1.2.2.1.1).bind fun r2 =>
    some ((r2.1.1, ()), (((), (), (r2.2.1.2.2.1.1, (r2.2.1.2.2.1.2.1, ())), r2.2.1.2.2.2.1, r2.2.1.2.2.2.2.1, r2.2.1.2.2.2.2.2.1, ()), (r2.2.2.1.1, ()), ()))
abbrev sheet_Entry.ini : LSh := ⟨[(0, .ptr 1000000 0), (1, .val (.cons .str (.cons (.int .i64) (.cons (.int .i64) (.cons (.int .i64) (.cons (.sl (.cons .str (.cons .str (.cons .str (.cons .bool .nil))))) (.cons .bool (.cons (.sl .str) .nil))))))))], [(1000000, 67, [.mref 1000001, .mref 1000002, .val (.cons .str (.cons .str .nil)), .val .bool, .val .bool, .val (.int .i64)]), (1000001, 64, [.mapd]), (1000002, 64, [.mapd])]⟩
abbrev sheet_Entry.out : LSh := ⟨[(0, .val .str)], [(1000000, 67, [.mref 1000001, .mref 1000002, .val (.cons .str (.cons .str .nil)), .val .bool, .val .bool, .val (.int .i64)]), (1000002, 64, [.mapd])]⟩
noncomputable def sheet_Entry.labF : Nat → Option (LabF sheet_Entry.out.den)
  | _ => none
noncomputable def sheet_Entry.fd : FnD := ⟨Try.f18, sheet_Entry.ini, sheet_Entry.out, 1, [1000000, 1000001, 1000002], [1000001], sheet_Entry.labF, fun k (d : (Unit × (ByteArray × Int × Int × Int × List (ByteArray × ByteArray × ByteArray × Bool × Unit) × Bool × List ByteArray × Unit) × Unit) × ((Unit × Unit × (ByteArray × ByteArray × Unit) × Bool × Bool × Int × Unit) × ((List (ByteArray × ByteArray)) × Unit) × ((List (ByteArray × ByteArray)) × Unit) × Unit)) => (sheet_Entry.f k d.1.2.1 d.2.1.2.2.1 d.2.1.2.2.2.1 d.2.1.2.2.2.2.1 d.2.1.2.2.2.2.2.1 d.2.2.1.1 d.2.2.2.1.1 : Option sheet_Entry.R)⟩

/-! ### chartularylaw08_SheetPapers : function 4 -/
abbrev chartularylaw08_SheetPapers.R := (Bool × Unit) × (Unit)
mutual
noncomputable def chartularylaw08_SheetPapers.j0 : Nat → ByteArray → Int → Int → Int → (List (ByteArray × ByteArray × ByteArray × Bool × Unit)) → Bool → (List ByteArray) → (ByteArray × ByteArray × Unit) → Bool → Bool → Int → (List (ByteArray × ByteArray)) → (List (ByteArray × ByteArray)) → Option chartularylaw08_SheetPapers.R
  | 0, _, _, _, _, _, _, _, _, _, _, _, _, _ => none
  | k + 1, o1_0, o1_1, o1_2, o1_3, o1_4, o1_5, o1_6, o0_2, o0_3, o0_4, o0_5, o1000_0, o1001_0 =>
    (chartularylaw08_few.f k o1_4).bind fun r2 =>
    (sheet_Root.f k r2.1.1 (o0_2.1, (o0_2.2.1, ())) o0_3 o0_4 o0_5 o1000_0 o1001_0).bind fun r3 =>
    (sheet_Paper.f k o1_0 o1_1 o1_2 (r2.1.1.length : Int) r3.1.1 (r3.2.1.2.2.1.1, (r3.2.1.2.2.1.2.1, ())) r3.2.1.2.2.2.1 r3.2.1.2.2.2.2.1 r3.2.1.2.2.2.2.2.1 o1000_0 r3.2.2.1.1).bind fun r4 =>
    (octet_Num.f k o1_1).bind fun r5 =>
    bif r5.1.1.toList == (⟨#[]⟩ : ByteArray).toList then
      chartularylaw08_SheetPapers.j1 k r3.1.1 r4.1.1 true o1_0 o1_1 o1_2 o1_3 r2.1.1 o1_5 o1_6 (r4.2.1.2.2.1.1, (r4.2.1.2.2.1.2.1, ())) r4.2.1.2.2.2.1 r4.2.1.2.2.2.2.1 r4.2.1.2.2.2.2.2.1 o1000_0 r4.2.2.1.1
    else
      (octet_Num.f k o1_2).bind fun r6 =>
      chartularylaw08_SheetPapers.j1 k r3.1.1 r4.1.1 (r6.1.1.toList == (⟨#[]⟩ : ByteArray).toList) o1_0 o1_1 o1_2 o1_3 r2.1.1 o1_5 o1_6 (r4.2.1.2.2.1.1, (r4.2.1.2.2.1.2.1, ())) r4.2.1.2.2.2.1 r4.2.1.2.2.2.2.1 r4.2.1.2.2.2.2.2.1 o1000_0 r4.2.2.1.1
noncomputable def chartularylaw08_SheetPapers.j1 : Nat → ByteArray → ByteArray → Bool → ByteArray → Int → Int → Int → (List (ByteArray × ByteArray × ByteArray × Bool × Unit)) → Bool → (List ByteArray) → (ByteArray × ByteArray × Unit) → Bool → Bool → Int → (List (ByteArray × ByteArray)) → (List (ByteArray × ByteArray)) → Option chartularylaw08_SheetPapers.R
  | 0, _, _, _, _, _, _, _, _, _, _, _, _, _, _, _, _ => none
  | k + 1, x4, x5, x45, o1_0, o1_1, o1_2, o1_3, o1_4, o1_5, o1_6, o0_2, o0_3, o0_4, o0_5, o1000_0, o1001_0 =>
    bif x45 then
      bif x5.toList == (⟨#[]⟩ : ByteArray).toList then
        (sheet_Entry.f k (o1_0, (o1_1, (o1_2, (o1_3, (o1_4, (o1_5, (o1_6, ()))))))) (o0_2.1, (o0_2.2.1, ())) o0_3 o0_4 o0_5 o1000_0 o1001_0).bind fun r7 =>
        bif r7.1.1.toList == (⟨#[]⟩ : ByteArray).toList then
          (chartularylaw08_awake.f k).bind fun r8 =>
          some ((r8.1.1, ()), (()))
        else
          some ((false, ()), (()))
      else
        some ((false, ()), (()))
    else
      (octet_Text.f k o1_0).bind fun r9 =>
      (octet_Num.f k o1_1).bind fun r10 =>
      (ck (decide (r9.1.1.size + r10.1.1.size ≤ 9223372036854775807))).bind fun _ =>
      (octet_Num.f k o1_2).bind fun r11 =>
      (ck (decide ((r9.1.1 ++ r10.1.1).size + r11.1.1.size ≤ 9223372036854775807))).bind fun _ =>
      (octet_Num.f k (o1_4.length : Int)).bind fun r12 =>
      (ck (decide (((r9.1.1 ++ r10.1.1) ++ r11.1.1).size + r12.1.1.size ≤ 9223372036854775807))).bind fun _ =>
      (octet_Text.f k x4).bind fun r13 =>
      (ck (decide ((((r9.1.1 ++ r10.1.1) ++ r11.1.1) ++ r12.1.1).size + r13.1.1.size ≤ 9223372036854775807))).bind fun _ =>
      (pledge_Leaf.f k ((((r9.1.1 ++ r10.1.1) ++ r11.1.1) ++ r12.1.1) ++ r13.1.1) (o0_2.1, (o0_2.2.1, ())) o0_3 o0_4 o0_5 o1000_0 o1001_0).bind fun r14 =>
      bif x5.toList == r14.1.1.toList then
        (sheet_Entry.f k (o1_0, (o1_1, (o1_2, (o1_3, (o1_4, (o1_5, (o1_6, ()))))))) (r14.2.1.2.2.1.1, (r14.2.1.2.2.1.2.1, ())) r14.2.1.2.2.2.1 r14.2.1.2.2.2.2.1 r14.2.1.2.2.2.2.2.1 o1000_0 r14.2.2.1.1).bind fun r15 =>
        bif r15.1.1.toList == r14.1.1.toList then
          (chartularylaw08_awake.f k).bind fun r16 =>
          some ((r16.1.1, ()), (()))
        else
          some ((false, ()), (()))
      else
        some ((false, ()), (()))
noncomputable def chartularylaw08_SheetPapers.f : Nat → (ByteArray × Int × Int × Int × List (ByteArray × ByteArray × ByteArray × Bool × Unit) × Bool × List ByteArray × Unit) → Option chartularylaw08_SheetPapers.R
  | 0, _ => none
  | k + 1, x0 =>
    (mill_New.f k).bind fun r1 =>
    bif decide (((x0.1.size : Int) : Int) > 100) then
      (ck (decide (0 ≤ 0) && decide (0 ≤ 100) && decide (100 ≤ (x0.1.size : Int)))).bind fun _ =>
      chartularylaw08_SheetPapers.j0 k (x0.1.extract (0 : Int).toNat (100 : Int).toNat) x0.2.1 x0.2.2.1 x0.2.2.2.1 x0.2.2.2.2.1 x0.2.2.2.2.2.1 x0.2.2.2.2.2.2.1 (r1.2.1.2.2.1.1, (r1.2.1.2.2.1.2.1, ())) r1.2.1.2.2.2.1 r1.2.1.2.2.2.2.1 r1.2.1.2.2.2.2.2.1 r1.2.2.1.1 r1.2.2.2.1.1
    else
      chartularylaw08_SheetPapers.j0 k x0.1 x0.2.1 x0.2.2.1 x0.2.2.2.1 x0.2.2.2.2.1 x0.2.2.2.2.2.1 x0.2.2.2.2.2.2.1 (r1.2.1.2.2.1.1, (r1.2.1.2.2.1.2.1, ())) r1.2.1.2.2.2.1 r1.2.1.2.2.2.2.1 r1.2.1.2.2.2.2.2.1 r1.2.2.1.1 r1.2.2.2.1.1
end
abbrev chartularylaw08_SheetPapers.ini : LSh := ⟨[(0, .val (.cons .str (.cons (.int .i64) (.cons (.int .i64) (.cons (.int .i64) (.cons (.sl (.cons .str (.cons .str (.cons .str (.cons .bool .nil))))) (.cons .bool (.cons (.sl .str) .nil))))))))], []⟩
abbrev chartularylaw08_SheetPapers.out : LSh := ⟨[(0, .val .bool)], []⟩
abbrev chartularylaw08_SheetPapers.j0s : LSh := ⟨[(1, .ptr 1 0), (3, .ptr 804000000 0)], [(1, 37, [.val .str, .val (.int .i64), .val (.int .i64), .val (.int .i64), .val (.sl (.cons .str (.cons .str (.cons .str (.cons .bool .nil))))), .val .bool, .val (.sl .str)]), (804000000, 67, [.mref 804001000, .mref 804001001, .val (.cons .str (.cons .str .nil)), .val .bool, .val .bool, .val (.int .i64)]), (804001000, 64, [.mapd]), (804001001, 64, [.mapd])]⟩
abbrev chartularylaw08_SheetPapers.j1s : LSh := ⟨[(1, .ptr 1 0), (3, .ptr 804000000 0), (4, .val .str), (5, .val .str), (45, .val .bool)], [(1, 37, [.val .str, .val (.int .i64), .val (.int .i64), .val (.int .i64), .val (.sl (.cons .str (.cons .str (.cons .str (.cons .bool .nil))))), .val .bool, .val (.sl .str)]), (804000000, 67, [.mref 804001000, .mref 804001001, .val (.cons .str (.cons .str .nil)), .val .bool, .val .bool, .val (.int .i64)]), (804001000, 64, [.mapd]), (804001001, 64, [.mapd])]⟩
noncomputable def chartularylaw08_SheetPapers.labF : Nat → Option (LabF chartularylaw08_SheetPapers.out.den)
  | 9 => some ⟨chartularylaw08_SheetPapers.j0s, fun k (d : (Unit × Unit × Unit) × ((ByteArray × Int × Int × Int × (List (ByteArray × ByteArray × ByteArray × Bool × Unit)) × Bool × List ByteArray × Unit) × (Unit × Unit × (ByteArray × ByteArray × Unit) × Bool × Bool × Int × Unit) × ((List (ByteArray × ByteArray)) × Unit) × ((List (ByteArray × ByteArray)) × Unit) × Unit)) => (chartularylaw08_SheetPapers.j0 k d.2.1.1 d.2.1.2.1 d.2.1.2.2.1 d.2.1.2.2.2.1 d.2.1.2.2.2.2.1 d.2.1.2.2.2.2.2.1 d.2.1.2.2.2.2.2.2.1 d.2.2.1.2.2.1 d.2.2.1.2.2.2.1 d.2.2.1.2.2.2.2.1 d.2.2.1.2.2.2.2.2.1 d.2.2.2.1.1 d.2.2.2.2.1.1 : Option chartularylaw08_SheetPapers.R)⟩
  | 17 => some ⟨chartularylaw08_SheetPapers.j1s, fun k (d : (Unit × Unit × ByteArray × ByteArray × Bool × Unit) × ((ByteArray × Int × Int × Int × (List (ByteArray × ByteArray × ByteArray × Bool × Unit)) × Bool × List ByteArray × Unit) × (Unit × Unit × (ByteArray × ByteArray × Unit) × Bool × Bool × Int × Unit) × ((List (ByteArray × ByteArray)) × Unit) × ((List (ByteArray × ByteArray)) × Unit) × Unit)) => (chartularylaw08_SheetPapers.j1 k d.1.2.2.1 d.1.2.2.2.1 d.1.2.2.2.2.1 d.2.1.1 d.2.1.2.1 d.2.1.2.2.1 d.2.1.2.2.2.1 d.2.1.2.2.2.2.1 d.2.1.2.2.2.2.2.1 d.2.1.2.2.2.2.2.2.1 d.2.2.1.2.2.1 d.2.2.1.2.2.2.1 d.2.2.1.2.2.2.2.1 d.2.2.1.2.2.2.2.2.1 d.2.2.2.1.1 d.2.2.2.2.1.1 : Option chartularylaw08_SheetPapers.R)⟩
  | _ => none
noncomputable def chartularylaw08_SheetPapers.fd : FnD := ⟨Try.f4, chartularylaw08_SheetPapers.ini, chartularylaw08_SheetPapers.out, 1, [], [], chartularylaw08_SheetPapers.labF, fun k (d : ((ByteArray × Int × Int × Int × List (ByteArray × ByteArray × ByteArray × Bool × Unit) × Bool × List ByteArray × Unit) × Unit) × (Unit)) => (chartularylaw08_SheetPapers.f k d.1.1 : Option chartularylaw08_SheetPapers.R)⟩

/-! ### sheet_next_v1 : function 46 -/
abbrev sheet_next_v1.R := (ByteArray × Unit) × ((Unit × List Int × List ByteArray × List ByteArray × Bool × Unit) × Unit)
noncomputable def sheet_next_v1.f : Nat → (List Int) → (List ByteArray) → (List ByteArray) → Bool → (ByteArray × ByteArray × Unit) → Bool → Bool → Int → (List (ByteArray × ByteArray)) → (List (ByteArray × ByteArray)) → Option sheet_next_v1.R
  | 0, _, _, _, _, _, _, _, _, _, _ => none
  | k + 1, o0_1, o0_2, o0_3, o0_4, o1_2, o1_3, o1_4, o1_5, o2_0, o3_0 =>
    bif ((o0_3.length : Int) : Int) == 0 then
      some (((⟨#[]⟩ : ByteArray), ()), (((), o0_1, o0_2, o0_3, true, ()), ()))
    else
      (rdo o0_3 0).bind fun t1 =>
      (ck (decide (0 ≤ 1) && decide (1 ≤ (o0_3.length : Int)) && decide ((o0_3.length : Int) ≤ (o0_3.length : Int)))).bind fun _ =>
      some ((t1, ()), (((), o0_1, o0_2, (o0_3.take (o0_3.length : Int).toNat).drop (1 : Int).toNat, o0_4, ()), ()))
abbrev sheet_next_v1.ini : LSh := ⟨[(0, .ptr 1000000 3), (1, .ptr 1000000 4)], [(1000000, 81, [.ptr 1000001 0, .val (.sl (.int .i64)), .val (.sl .str), .val (.sl .str), .val .bool]), (1000001, 67, [.mref 1000002, .mref 1000003, .val (.cons .str (.cons .str .nil)), .val .bool, .val .bool, .val (.int .i64)]), (1000002, 64, [.mapd]), (1000003, 64, [.mapd])]⟩
abbrev sheet_next_v1.out : LSh := ⟨[(0, .val .str)], [(1000000, 81, [.ptr 1000001 0, .val (.sl (.int .i64)), .val (.sl .str), .val (.sl .str), .val .bool])]⟩
noncomputable def sheet_next_v1.labF : Nat → Option (LabF sheet_next_v1.out.den)
  | _ => none
noncomputable def sheet_next_v1.fd : FnD := ⟨Try.f46, sheet_next_v1.ini, sheet_next_v1.out, 1, [1000000, 1000001, 1000002, 1000003], [1000001, 1000002, 1000003], sheet_next_v1.labF, fun k (d : (Unit × Unit × Unit) × ((Unit × List Int × List ByteArray × List ByteArray × Bool × Unit) × (Unit × Unit × (ByteArray × ByteArray × Unit) × Bool × Bool × Int × Unit) × ((List (ByteArray × ByteArray)) × Unit) × ((List (ByteArray × ByteArray)) × Unit) × Unit)) => (sheet_next_v1.f k d.2.1.2.1 d.2.1.2.2.1 d.2.1.2.2.2.1 d.2.1.2.2.2.2.1 d.2.2.1.2.2.1 d.2.2.1.2.2.2.1 d.2.2.1.2.2.2.2.1 d.2.2.1.2.2.2.2.2.1 d.2.2.2.1.1 d.2.2.2.2.1.1 : Option sheet_next_v1.R)⟩

/-! ### sheet_next_v2 : function 46 -/
abbrev sheet_next_v2.R := (ByteArray × Unit) × ((Unit × List Int × List ByteArray × List ByteArray × Bool × Unit) × Unit)
noncomputable def sheet_next_v2.f : Nat → (List Int) → (List ByteArray) → (List ByteArray) → Bool → (ByteArray × ByteArray × Unit) → Bool → Bool → Int → (List (ByteArray × ByteArray)) → (List (ByteArray × ByteArray)) → Option sheet_next_v2.R
  | 0, _, _, _, _, _, _, _, _, _, _ => none
  | k + 1, o0_1, o0_2, o0_3, o0_4, o1_2, o1_3, o1_4, o1_5, o2_0, o3_0 =>
    bif ((o0_2.length : Int) : Int) == 0 then
      some (((⟨#[]⟩ : ByteArray), ()), (((), o0_1, o0_2, o0_3, true, ()), ()))
    else
      (rdo o0_2 0).bind fun t1 =>
      (ck (decide (0 ≤ 1) && decide (1 ≤ (o0_2.length : Int)) && decide ((o0_2.length : Int) ≤ (o0_2.length : Int)))).bind fun _ =>
      some ((t1, ()), (((), o0_1, (o0_2.take (o0_2.length : Int).toNat).drop (1 : Int).toNat, o0_3, o0_4, ()), ()))
abbrev sheet_next_v2.ini : LSh := ⟨[(0, .ptr 1000000 2), (1, .ptr 1000000 4)], [(1000000, 81, [.ptr 1000001 0, .val (.sl (.int .i64)), .val (.sl .str), .val (.sl .str), .val .bool]), (1000001, 67, [.mref 1000002, .mref 1000003, .val (.cons .str (.cons .str .nil)), .val .bool, .val .bool, .val (.int .i64)]), (1000002, 64, [.mapd]), (1000003, 64, [.mapd])]⟩
abbrev sheet_next_v2.out : LSh := ⟨[(0, .val .str)], [(1000000, 81, [.ptr 1000001 0, .val (.sl (.int .i64)), .val (.sl .str), .val (.sl .str), .val .bool])]⟩
noncomputable def sheet_next_v2.labF : Nat → Option (LabF sheet_next_v2.out.den)
  | _ => none
noncomputable def sheet_next_v2.fd : FnD := ⟨Try.f46, sheet_next_v2.ini, sheet_next_v2.out, 1, [1000000, 1000001, 1000002, 1000003], [1000001, 1000002, 1000003], sheet_next_v2.labF, fun k (d : (Unit × Unit × Unit) × ((Unit × List Int × List ByteArray × List ByteArray × Bool × Unit) × (Unit × Unit × (ByteArray × ByteArray × Unit) × Bool × Bool × Int × Unit) × ((List (ByteArray × ByteArray)) × Unit) × ((List (ByteArray × ByteArray)) × Unit) × Unit)) => (sheet_next_v2.f k d.2.1.2.1 d.2.1.2.2.1 d.2.1.2.2.2.1 d.2.1.2.2.2.2.1 d.2.2.1.2.2.1 d.2.2.1.2.2.2.1 d.2.2.1.2.2.2.2.1 d.2.2.1.2.2.2.2.2.1 d.2.2.2.1.1 d.2.2.2.2.1.1 : Option sheet_next_v2.R)⟩

/-! ### sheet_walker_root : function 38 -/
abbrev sheet_walker_root.R := (ByteArray × Unit) × ((Unit × List Int × List ByteArray × List ByteArray × Bool × Unit) × (Unit × Unit × (ByteArray × ByteArray × Unit) × Bool × Bool × Int × Unit) × ((List (ByteArray × ByteArray)) × Unit) × Unit)
noncomputable def sheet_walker_root.f : Nat → Int → Int → (List Int) → (List ByteArray) → (List ByteArray) → Bool → (ByteArray × ByteArray × Unit) → Bool → Bool → Int → (List (ByteArray × ByteArray)) → (List (ByteArray × ByteArray)) → Option sheet_walker_root.R
  | 0, _, _, _, _, _, _, _, _, _, _, _, _ => none
  | k + 1, x1, x2, o0_1, o0_2, o0_3, o0_4, o1_2, o1_3, o1_4, o1_5, o2_0, o3_0 =>
    bif o0_4 then
      some (((⟨#[]⟩ : ByteArray), ()), (((), o0_1, o0_2, o0_3, o0_4, ()), ((), (), (o1_2.1, (o1_2.2.1, ())), o1_3, o1_4, o1_5, ()), (o3_0, ()), ()))
    else
      (sheet_picked.f k o0_1 x1 (IntKind.wrap .i64 (x1 + x2))).bind fun r1 =>
      bif !r1.1.1 then
        (sheet_next_v1.f k o0_1 o0_2 o0_3 o0_4 (o1_2.1, (o1_2.2.1, ())) o1_3 o1_4 o1_5 o2_0 o3_0).bind fun r2 =>
        some ((r2.1.1, ()), (((), r2.2.1.2.1, r2.2.1.2.2.1, r2.2.1.2.2.2.1, r2.2.1.2.2.2.2.1, ()), ((), (), (o1_2.1, (o1_2.2.1, ())), o1_3, o1_4, o1_5, ()), (o3_0, ()), ()))
      else
      bif (x2 : Int) == 1 then
        (sheet_next_v2.f k o0_1 o0_2 o0_3 o0_4 (o1_2.1, (o1_2.2.1, ())) o1_3 o1_4 o1_5 o2_0 o3_0).bind fun r3 =>
        some ((r3.1.1, ()), (((), r3.2.1.2.1, r3.2.1.2.2.1, r3.2.1.2.2.2.1, r3.2.1.2.2.2.2.1, ()), ((), (), (o1_2.1, (o1_2.2.1, ())), o1_3, o1_4, o1_5, ()), (o3_0, ()), ()))
      else
        (sheet_split.f k x2).bind fun r4 =>
        (sheet_walker_root.f k x1 r4.1.1 o0_1 o0_2 o0_3 o0_4 (o1_2.1, (o1_2.2.1, ())) o1_3 o1_4 o1_5 o2_0 o3_0).bind fun r5 =>
        (sheet_walker_root.f k (IntKind.wrap .i64 (x1 + r4.1.1)) (IntKind.wrap .i64 (x2 - r4.1.1)) r5.2.1.2.1 r5.2.1.2.2.1 r5.2.1.2.2.2.1 r5.2.1.2.2.2.2.1 (r5.2.2.1.2.2.1.1, (r5.2.2.1.2.2.1.2.1, ())) r5.2.2.1.2.2.2.1 r5.2.2.1.2.2.2.2.1 r5.2.2.1.2.2.2.2.2.1 o2_0 r5.2.2.2.1.1).bind fun r6 =>
        (pledge_Node.f k r5.1.1 r6.1.1 (r6.2.2.1.2.2.1.1, (r6.2.2.1.2.2.1.2.1, ())) r6.2.2.1.2.2.2.1 r6.2.2.1.2.2.2.2.1 r6.2.2.1.2.2.2.2.2.1 o2_0 r6.2.2.2.1.1).bind fun r7 =>
        some ((r7.1.1, ()), (((), r6.2.1.2.1, r6.2.1.2.2.1, r6.2.1.2.2.2.1, r6.2.1.2.2.2.2.1, ()), ((), (), (r7.2.1.2.2.1.1, (r7.2.1.2.2.1.2.1, ())), r7.2.1.2.2.2.1, r7.2.1.2.2.2.2.1, r7.2.1.2.2.2.2.2.1, ()), (r7.2.2.1.1, ()), ()))
abbrev sheet_walker_root.ini : LSh := ⟨[(0, .ptr 1000000 0), (1, .val (.int .i64)), (2, .val (.int .i64))], [(1000000, 81, [.ptr 1000001 0, .val (.sl (.int .i64)), .val (.sl .str), .val (.sl .str), .val .bool]), (1000001, 67, [.mref 1000002, .mref 1000003, .val (.cons .str (.cons .str .nil)), .val .bool, .val .bool, .val (.int .i64)]), (1000002, 64, [.mapd]), (1000003, 64, [.mapd])]⟩
abbrev sheet_walker_root.out : LSh := ⟨[(0, .val .str)], [(1000000, 81, [.ptr 1000001 0, .val (.sl (.int .i64)), .val (.sl .str), .val (.sl .str), .val .bool]), (1000001, 67, [.mref 1000002, .mref 1000003, .val (.cons .str (.cons .str .nil)), .val .bool, .val .bool, .val (.int .i64)]), (1000003, 64, [.mapd])]⟩
noncomputable def sheet_walker_root.labF : Nat → Option (LabF sheet_walker_root.out.den)
  | _ => none
noncomputable def sheet_walker_root.fd : FnD := ⟨Try.f38, sheet_walker_root.ini, sheet_walker_root.out, 1, [1000000, 1000001, 1000002, 1000003], [1000002], sheet_walker_root.labF, fun k (d : (Unit × Int × Int × Unit) × ((Unit × List Int × List ByteArray × List ByteArray × Bool × Unit) × (Unit × Unit × (ByteArray × ByteArray × Unit) × Bool × Bool × Int × Unit) × ((List (ByteArray × ByteArray)) × Unit) × ((List (ByteArray × ByteArray)) × Unit) × Unit)) => (sheet_walker_root.f k d.1.2.1 d.1.2.2.1 d.2.1.2.1 d.2.1.2.2.1 d.2.1.2.2.2.1 d.2.1.2.2.2.2.1 d.2.2.1.2.2.1 d.2.2.1.2.2.2.1 d.2.2.1.2.2.2.2.1 d.2.2.1.2.2.2.2.2.1 d.2.2.2.1.1 d.2.2.2.2.1.1 : Option sheet_walker_root.R)⟩

/-! ### sheet_Rebuild : function 21 -/
abbrev sheet_Rebuild.R := (ByteArray × Int × Unit) × ((Unit × Unit × (ByteArray × ByteArray × Unit) × Bool × Bool × Int × Unit) × ((List (ByteArray × ByteArray)) × Unit) × Unit)
mutual
noncomputable def sheet_Rebuild.j0 : Nat → Int → (List Int) → (List ByteArray) → (List ByteArray) → (ByteArray × ByteArray × Unit) → Bool → Bool → Int → (List (ByteArray × ByteArray)) → (List (ByteArray × ByteArray)) → Option sheet_Rebuild.R
  | 0, _, _, _, _, _, _, _, _, _, _ => none
  | k + 1, x1, x2, x3, x4, o0_2, o0_3, o0_4, o0_5, o1_0, o2_0 =>
    sheet_Rebuild.l0 k x1 x2 x3 x4 x4 (x4.length : Int) 0 (o0_2.1, (o0_2.2.1, ())) o0_3 o0_4 o0_5 o1_0 o2_0
noncomputable def sheet_Rebuild.l0 : Nat → Int → (List Int) → (List ByteArray) → (List ByteArray) → (List ByteArray) → Int → Int → (ByteArray × ByteArray × Unit) → Bool → Bool → Int → (List (ByteArray × ByteArray)) → (List (ByteArray × ByteArray)) → Option sheet_Rebuild.R
  | 0, _, _, _, _, _, _, _, _, _, _, _, _, _ => none
  | k + 1, x1, x2, x3, x4, x40, x41, x42, o0_2, o0_3, o0_4, o0_5, o1_0, o2_0 =>
    bif decide ((x42 : Int) < x41) then
      (rdo x40 x42).bind fun t2 =>
      bif ((t2.size : Int) : Int) != 32 then
        some (((⟨#[]⟩ : ByteArray), 20, ()), (((), (), (o0_2.1, (o0_2.2.1, ())), o0_3, o0_4, o0_5, ()), (o2_0, ()), ()))
      else
        sheet_Rebuild.l0 k x1 x2 x3 x4 x40 x41 (IntKind.wrap .i64 (x42 + 1)) (o0_2.1, (o0_2.2.1, ())) o0_3 o0_4 o0_5 o1_0 o2_0
    else
      (sheet_walker_root.f k 0 x1 x2 x3 x4 false (o0_2.1, (o0_2.2.1, ())) o0_3 o0_4 o0_5 o1_0 o2_0).bind fun r3 =>
      bif r3.2.1.2.2.2.2.1 then
        some (((⟨#[]⟩ : ByteArray), 20, ()), (((), (), (r3.2.2.1.2.2.1.1, (r3.2.2.1.2.2.1.2.1, ())), r3.2.2.1.2.2.2.1, r3.2.2.1.2.2.2.2.1, r3.2.2.1.2.2.2.2.2.1, ()), (r3.2.2.2.1.1, ()), ()))
      else
      bif decide (((r3.2.1.2.2.2.1.length : Int) : Int) > 0) then
        some (((⟨#[]⟩ : ByteArray), 20, ()), (((), (), (r3.2.2.1.2.2.1.1, (r3.2.2.1.2.2.1.2.1, ())), r3.2.2.1.2.2.2.1, r3.2.2.1.2.2.2.2.1, r3.2.2.1.2.2.2.2.2.1, ()), (r3.2.2.2.1.1, ()), ()))
      else
        some ((r3.1.1, 0, ()), (((), (), (r3.2.2.1.2.2.1.1, (r3.2.2.1.2.2.1.2.1, ())), r3.2.2.1.2.2.2.1, r3.2.2.1.2.2.2.2.1, r3.2.2.1.2.2.2.2.2.1, ()), (r3.2.2.2.1.1, ()), ()))
noncomputable def sheet_Rebuild.f : Nat → Int → (List Int) → (List ByteArray) → (List ByteArray) → (ByteArray × ByteArray × Unit) → Bool → Bool → Int → (List (ByteArray × ByteArray)) → (List (ByteArray × ByteArray)) → Option sheet_Rebuild.R
  | 0, _, _, _, _, _, _, _, _, _, _ => none
  | k + 1, x1, x2, x3, x4, o0_2, o0_3, o0_4, o0_5, o1_0, o2_0 =>
    bif decide ((x1 : Int) < 1) then
      some (((⟨#[]⟩ : ByteArray), 21, ()), (((), (), (o0_2.1, (o0_2.2.1, ())), o0_3, o0_4, o0_5, ()), (o2_0, ()), ()))
    else
    bif decide ((x1 : Int) > 12) then
      some (((⟨#[]⟩ : ByteArray), 21, ()), (((), (), (o0_2.1, (o0_2.2.1, ())), o0_3, o0_4, o0_5, ()), (o2_0, ()), ()))
    else
    bif ((x2.length : Int) : Int) == 0 then
      some (((⟨#[]⟩ : ByteArray), 21, ()), (((), (), (o0_2.1, (o0_2.2.1, ())), o0_3, o0_4, o0_5, ()), (o2_0, ()), ()))
    else
    bif ((x2.length : Int) : Int) != (x3.length : Int) then
      some (((⟨#[]⟩ : ByteArray), 21, ()), (((), (), (o0_2.1, (o0_2.2.1, ())), o0_3, o0_4, o0_5, ()), (o2_0, ()), ()))
    else
      (sheet_Rising.f k x2 x1).bind fun r1 =>
      bif !r1.1.1 then
        some (((⟨#[]⟩ : ByteArray), 21, ()), (((), (), (o0_2.1, (o0_2.2.1, ())), o0_3, o0_4, o0_5, ()), (o2_0, ()), ()))
      else
        sheet_Rebuild.j0 k x1 x2 x3 x4 (o0_2.1, (o0_2.2.1, ())) o0_3 o0_4 o0_5 o1_0 o2_0
end
abbrev sheet_Rebuild.ini : LSh := ⟨[(0, .ptr 1000000 0), (1, .val (.int .i64)), (2, .val (.sl (.int .i64))), (3, .val (.sl .str)), (4, .val (.sl .str))], [(1000000, 67, [.mref 1000001, .mref 1000002, .val (.cons .str (.cons .str .nil)), .val .bool, .val .bool, .val (.int .i64)]), (1000001, 64, [.mapd]), (1000002, 64, [.mapd])]⟩
abbrev sheet_Rebuild.out : LSh := ⟨[(0, .val .str), (1, .val (.int .i64))], [(1000000, 67, [.mref 1000001, .mref 1000002, .val (.cons .str (.cons .str .nil)), .val .bool, .val .bool, .val (.int .i64)]), (1000002, 64, [.mapd])]⟩
abbrev sheet_Rebuild.j0s : LSh := ⟨[(0, .ptr 1000000 0), (1, .val (.int .i64)), (2, .val (.sl (.int .i64))), (3, .val (.sl .str)), (4, .val (.sl .str))], [(1000000, 67, [.mref 1000001, .mref 1000002, .val (.cons .str (.cons .str .nil)), .val .bool, .val .bool, .val (.int .i64)]), (1000001, 64, [.mapd]), (1000002, 64, [.mapd])]⟩
abbrev sheet_Rebuild.l0s : LSh := ⟨[(0, .ptr 1000000 0), (1, .val (.int .i64)), (2, .val (.sl (.int .i64))), (3, .val (.sl .str)), (4, .val (.sl .str)), (40, .val (.sl .str)), (41, .val (.int .i64)), (42, .val (.int .i64))], [(1000000, 67, [.mref 1000001, .mref 1000002, .val (.cons .str (.cons .str .nil)), .val .bool, .val .bool, .val (.int .i64)]), (1000001, 64, [.mapd]), (1000002, 64, [.mapd])]⟩
noncomputable def sheet_Rebuild.labF : Nat → Option (LabF sheet_Rebuild.out.den)
  | 7 => some ⟨sheet_Rebuild.j0s, fun k (d : (Unit × Int × List Int × List ByteArray × List ByteArray × Unit) × ((Unit × Unit × (ByteArray × ByteArray × Unit) × Bool × Bool × Int × Unit) × ((List (ByteArray × ByteArray)) × Unit) × ((List (ByteArray × ByteArray)) × Unit) × Unit)) => (sheet_Rebuild.j0 k d.1.2.1 d.1.2.2.1 d.1.2.2.2.1 d.1.2.2.2.2.1 d.2.1.2.2.1 d.2.1.2.2.2.1 d.2.1.2.2.2.2.1 d.2.1.2.2.2.2.2.1 d.2.2.1.1 d.2.2.2.1.1 : Option sheet_Rebuild.R)⟩
  | 8 => some ⟨sheet_Rebuild.l0s, fun k (d : (Unit × Int × List Int × List ByteArray × List ByteArray × List ByteArray × Int × Int × Unit) × ((Unit × Unit × (ByteArray × ByteArray × Unit) × Bool × Bool × Int × Unit) × ((List (ByteArray × ByteArray)) × Unit) × ((List (ByteArray × ByteArray)) × Unit) × Unit)) => (sheet_Rebuild.l0 k d.1.2.1 d.1.2.2.1 d.1.2.2.2.1 d.1.2.2.2.2.1 d.1.2.2.2.2.2.1 d.1.2.2.2.2.2.2.1 d.1.2.2.2.2.2.2.2.1 d.2.1.2.2.1 d.2.1.2.2.2.1 d.2.1.2.2.2.2.1 d.2.1.2.2.2.2.2.1 d.2.2.1.1 d.2.2.2.1.1 : Option sheet_Rebuild.R)⟩
  | _ => none
noncomputable def sheet_Rebuild.fd : FnD := ⟨Try.f21, sheet_Rebuild.ini, sheet_Rebuild.out, 2, [1000000, 1000001, 1000002], [1000001], sheet_Rebuild.labF, fun k (d : (Unit × Int × List Int × List ByteArray × List ByteArray × Unit) × ((Unit × Unit × (ByteArray × ByteArray × Unit) × Bool × Bool × Int × Unit) × ((List (ByteArray × ByteArray)) × Unit) × ((List (ByteArray × ByteArray)) × Unit) × Unit)) => (sheet_Rebuild.f k d.1.2.1 d.1.2.2.1 d.1.2.2.2.1 d.1.2.2.2.2.1 d.2.1.2.2.1 d.2.1.2.2.2.1 d.2.1.2.2.2.2.1 d.2.1.2.2.2.2.2.1 d.2.2.1.1 d.2.2.2.1.1 : Option sheet_Rebuild.R)⟩

/-! ### chartularylaw08_rising : function 22 -/
abbrev chartularylaw08_rising.R := (Bool × Unit) × (Unit)
mutual
noncomputable def chartularylaw08_rising.l0 : Nat → (List Int) → Int → Int → Option chartularylaw08_rising.R
  | 0, _, _, _ => none
  | k + 1, x0, x1, x5 =>
    bif decide ((x5 : Int) < (x0.length : Int)) then
      (rdo x0 x5).bind fun t1 =>
      bif decide ((t1 : Int) < 0) then
        some ((false, ()), (()))
      else
        (rdo x0 x5).bind fun t2 =>
        bif decide ((t2 : Int) ≥ x1) then
          some ((false, ()), (()))
        else
        bif decide ((x5 : Int) > 0) then
          (rdo x0 (IntKind.wrap .i64 (x5 - 1))).bind fun t3 =>
          (rdo x0 x5).bind fun t4 =>
          bif decide ((t3 : Int) ≥ t4) then
            some ((false, ()), (()))
          else
            chartularylaw08_rising.l0 k x0 x1 (IntKind.wrap .i64 (x5 + 1))
        else
          chartularylaw08_rising.l0 k x0 x1 (IntKind.wrap .i64 (x5 + 1))
    else
      some ((true, ()), (()))
noncomputable def chartularylaw08_rising.f : Nat → (List Int) → Int → Option chartularylaw08_rising.R
  | 0, _, _ => none
  | k + 1, x0, x1 =>
    chartularylaw08_rising.l0 k x0 x1 0
end
abbrev chartularylaw08_rising.ini : LSh := ⟨[(0, .val (.sl (.int .i64))), (1, .val (.int .i64))], []⟩
abbrev chartularylaw08_rising.out : LSh := ⟨[(0, .val .bool)], []⟩
abbrev chartularylaw08_rising.l0s : LSh := ⟨[(0, .val (.sl (.int .i64))), (1, .val (.int .i64)), (5, .val (.int .i64))], []⟩
noncomputable def chartularylaw08_rising.labF : Nat → Option (LabF chartularylaw08_rising.out.den)
  | 4 => some ⟨chartularylaw08_rising.l0s, fun k (d : (List Int × Int × Int × Unit) × (Unit)) => (chartularylaw08_rising.l0 k d.1.1 d.1.2.1 d.1.2.2.1 : Option chartularylaw08_rising.R)⟩
  | _ => none
noncomputable def chartularylaw08_rising.fd : FnD := ⟨Try.f22, chartularylaw08_rising.ini, chartularylaw08_rising.out, 1, [], [], chartularylaw08_rising.labF, fun k (d : (List Int × Int × Unit) × (Unit)) => (chartularylaw08_rising.f k d.1.1 d.1.2.1 : Option chartularylaw08_rising.R)⟩

/-! ### chartularylaw08_plain_build : function 23 -/
abbrev chartularylaw08_plain_build.R := (ByteArray × Unit) × ((List Int × List ByteArray × List ByteArray × Bool × Unit) × (Unit × Unit × (ByteArray × ByteArray × Unit) × Bool × Bool × Int × Unit) × ((List (ByteArray × ByteArray)) × Unit) × Unit)
mutual
noncomputable def chartularylaw08_plain_build.l0 : Nat → Int → Int → Bool → Int → (List Int) → (List ByteArray) → (List ByteArray) → Bool → (ByteArray × ByteArray × Unit) → Bool → Bool → Int → (List (ByteArray × ByteArray)) → (List (ByteArray × ByteArray)) → Option chartularylaw08_plain_build.R
  | 0, _, _, _, _, _, _, _, _, _, _, _, _, _, _ => none
  | k + 1, x2, x3, x9, x10, o0_0, o0_1, o0_2, o0_3, o1_2, o1_3, o1_4, o1_5, o2_0, o3_0 =>
    bif decide ((x10 : Int) < (o0_0.length : Int)) then
      bif x9 then
        chartularylaw08_plain_build.l0 k x2 x3 true (IntKind.wrap .i64 (x10 + 1)) o0_0 o0_1 o0_2 o0_3 (o1_2.1, (o1_2.2.1, ())) o1_3 o1_4 o1_5 o2_0 o3_0
      else
        (rdo o0_0 x10).bind fun t1 =>
        bif decide ((t1 : Int) ≥ x2) then
          (rdo o0_0 x10).bind fun t2 =>
          chartularylaw08_plain_build.l0 k x2 x3 (decide ((t2 : Int) < IntKind.wrap .i64 (x2 + x3))) (IntKind.wrap .i64 (x10 + 1)) o0_0 o0_1 o0_2 o0_3 (o1_2.1, (o1_2.2.1, ())) o1_3 o1_4 o1_5 o2_0 o3_0
        else
          chartularylaw08_plain_build.l0 k x2 x3 false (IntKind.wrap .i64 (x10 + 1)) o0_0 o0_1 o0_2 o0_3 (o1_2.1, (o1_2.2.1, ())) o1_3 o1_4 o1_5 o2_0 o3_0
    else
    bif !x9 then
      bif ((o0_2.length : Int) : Int) == 0 then
        some (((⟨#[]⟩ : ByteArray), ()), ((o0_0, o0_1, o0_2, true, ()), ((), (), (o1_2.1, (o1_2.2.1, ())), o1_3, o1_4, o1_5, ()), (o3_0, ()), ()))
      else
        (rdo o0_2 0).bind fun t3 =>
        (ck (decide (0 ≤ 1) && decide (1 ≤ (o0_2.length : Int)) && decide ((o0_2.length : Int) ≤ (o0_2.length : Int)))).bind fun _ =>
        some ((t3, ()), ((o0_0, o0_1, (o0_2.take (o0_2.length : Int).toNat).drop (1 : Int).toNat, o0_3, ()), ((), (), (o1_2.1, (o1_2.2.1, ())), o1_3, o1_4, o1_5, ()), (o3_0, ()), ()))
    else
    bif (x3 : Int) == 1 then
      bif ((o0_1.length : Int) : Int) == 0 then
        some (((⟨#[]⟩ : ByteArray), ()), ((o0_0, o0_1, o0_2, true, ()), ((), (), (o1_2.1, (o1_2.2.1, ())), o1_3, o1_4, o1_5, ()), (o3_0, ()), ()))
      else
        (rdo o0_1 0).bind fun t4 =>
        (ck (decide (0 ≤ 1) && decide (1 ≤ (o0_1.length : Int)) && decide ((o0_1.length : Int) ≤ (o0_1.length : Int)))).bind fun _ =>
        some ((t4, ()), ((o0_0, (o0_1.take (o0_1.length : Int).toNat).drop (1 : Int).toNat, o0_2, o0_3, ()), ((), (), (o1_2.1, (o1_2.2.1, ())), o1_3, o1_4, o1_5, ()), (o3_0, ()), ()))
    else
      chartularylaw08_plain_build.l1 k x2 x3 1 o0_0 o0_1 o0_2 o0_3 (o1_2.1, (o1_2.2.1, ())) o1_3 o1_4 o1_5 o2_0 o3_0
noncomputable def chartularylaw08_plain_build.l1 : Nat → Int → Int → Int → (List Int) → (List ByteArray) → (List ByteArray) → Bool → (ByteArray × ByteArray × Unit) → Bool → Bool → Int → (List (ByteArray × ByteArray)) → (List (ByteArray × ByteArray)) → Option chartularylaw08_plain_build.R
  | 0, _, _, _, _, _, _, _, _, _, _, _, _, _ => none
  | k + 1, x2, x3, x13, o0_0, o0_1, o0_2, o0_3, o1_2, o1_3, o1_4, o1_5, o2_0, o3_0 =>
    bif decide ((IntKind.wrap .i64 (2 * x13) : Int) < x3) then
      chartularylaw08_plain_build.l1 k x2 x3 (IntKind.wrap .i64 (2 * x13)) o0_0 o0_1 o0_2 o0_3 (o1_2.1, (o1_2.2.1, ())) o1_3 o1_4 o1_5 o2_0 o3_0
    else
      (chartularylaw08_plain_build.f k x2 x13 o0_0 o0_1 o0_2 o0_3 (o1_2.1, (o1_2.2.1, ())) o1_3 o1_4 o1_5 o2_0 o3_0).bind fun r5 =>
      (chartularylaw08_plain_build.f k (IntKind.wrap .i64 (x2 + x13)) (IntKind.wrap .i64 (x3 - x13)) r5.2.1.1 r5.2.1.2.1 r5.2.1.2.2.1 r5.2.1.2.2.2.1 (r5.2.2.1.2.2.1.1, (r5.2.2.1.2.2.1.2.1, ())) r5.2.2.1.2.2.2.1 r5.2.2.1.2.2.2.2.1 r5.2.2.1.2.2.2.2.2.1 o2_0 r5.2.2.2.1.1).bind fun r6 =>
      (pledge_Node.f k r5.1.1 r6.1.1 (r6.2.2.1.2.2.1.1, (r6.2.2.1.2.2.1.2.1, ())) r6.2.2.1.2.2.2.1 r6.2.2.1.2.2.2.2.1 r6.2.2.1.2.2.2.2.2.1 o2_0 r6.2.2.2.1.1).bind fun r7 =>
      some ((r7.1.1, ()), ((r6.2.1.1, r6.2.1.2.1, r6.2.1.2.2.1, r6.2.1.2.2.2.1, ()), ((), (), (r7.2.1.2.2.1.1, (r7.2.1.2.2.1.2.1, ())), r7.2.1.2.2.2.1, r7.2.1.2.2.2.2.1, r7.2.1.2.2.2.2.2.1, ()), (r7.2.2.1.1, ()), ()))
noncomputable def chartularylaw08_plain_build.f : Nat → Int → Int → (List Int) → (List ByteArray) → (List ByteArray) → Bool → (ByteArray × ByteArray × Unit) → Bool → Bool → Int → (List (ByteArray × ByteArray)) → (List (ByteArray × ByteArray)) → Option chartularylaw08_plain_build.R
  | 0, _, _, _, _, _, _, _, _, _, _, _, _ => none
  | k + 1, x2, x3, o0_0, o0_1, o0_2, o0_3, o1_2, o1_3, o1_4, o1_5, o2_0, o3_0 =>
    chartularylaw08_plain_build.l0 k x2 x3 false 0 o0_0 o0_1 o0_2 o0_3 (o1_2.1, (o1_2.2.1, ())) o1_3 o1_4 o1_5 o2_0 o3_0
end
abbrev chartularylaw08_plain_build.ini : LSh := ⟨[(0, .ptr 1000000 0), (1, .ptr 1000001 0), (2, .val (.int .i64)), (3, .val (.int .i64))], [(1000000, 51, [.val (.sl (.int .i64)), .val (.sl .str), .val (.sl .str), .val .bool]), (1000001, 67, [.mref 1000002, .mref 1000003, .val (.cons .str (.cons .str .nil)), .val .bool, .val .bool, .val (.int .i64)]), (1000002, 64, [.mapd]), (1000003, 64, [.mapd])]⟩
abbrev chartularylaw08_plain_build.out : LSh := ⟨[(0, .val .str)], [(1000000, 51, [.val (.sl (.int .i64)), .val (.sl .str), .val (.sl .str), .val .bool]), (1000001, 67, [.mref 1000002, .mref 1000003, .val (.cons .str (.cons .str .nil)), .val .bool, .val .bool, .val (.int .i64)]), (1000003, 64, [.mapd])]⟩
abbrev chartularylaw08_plain_build.l0s : LSh := ⟨[(0, .ptr 1000000 0), (1, .ptr 1000001 0), (2, .val (.int .i64)), (3, .val (.int .i64)), (9, .val .bool), (10, .val (.int .i64))], [(1000000, 51, [.val (.sl (.int .i64)), .val (.sl .str), .val (.sl .str), .val .bool]), (1000001, 67, [.mref 1000002, .mref 1000003, .val (.cons .str (.cons .str .nil)), .val .bool, .val .bool, .val (.int .i64)]), (1000002, 64, [.mapd]), (1000003, 64, [.mapd])]⟩
abbrev chartularylaw08_plain_build.l1s : LSh := ⟨[(0, .ptr 1000000 0), (1, .ptr 1000001 0), (2, .val (.int .i64)), (3, .val (.int .i64)), (13, .val (.int .i64))], [(1000000, 51, [.val (.sl (.int .i64)), .val (.sl .str), .val (.sl .str), .val .bool]), (1000001, 67, [.mref 1000002, .mref 1000003, .val (.cons .str (.cons .str .nil)), .val .bool, .val .bool, .val (.int .i64)]), (1000002, 64, [.mapd]), (1000003, 64, [.mapd])]⟩
noncomputable def chartularylaw08_plain_build.labF : Nat → Option (LabF chartularylaw08_plain_build.out.den)
  | 6 => some ⟨chartularylaw08_plain_build.l0s, fun k (d : (Unit × Unit × Int × Int × Bool × Int × Unit) × ((List Int × List ByteArray × List ByteArray × Bool × Unit) × (Unit × Unit × (ByteArray × ByteArray × Unit) × Bool × Bool × Int × Unit) × ((List (ByteArray × ByteArray)) × Unit) × ((List (ByteArray × ByteArray)) × Unit) × Unit)) => (chartularylaw08_plain_build.l0 k d.1.2.2.1 d.1.2.2.2.1 d.1.2.2.2.2.1 d.1.2.2.2.2.2.1 d.2.1.1 d.2.1.2.1 d.2.1.2.2.1 d.2.1.2.2.2.1 d.2.2.1.2.2.1 d.2.2.1.2.2.2.1 d.2.2.1.2.2.2.2.1 d.2.2.1.2.2.2.2.2.1 d.2.2.2.1.1 d.2.2.2.2.1.1 : Option chartularylaw08_plain_build.R)⟩
  | 42 => some ⟨chartularylaw08_plain_build.l1s, fun k (d : (Unit × Unit × Int × Int × Int × Unit) × ((List Int × List ByteArray × List ByteArray × Bool × Unit) × (Unit × Unit × (ByteArray × ByteArray × Unit) × Bool × Bool × Int × Unit) × ((List (ByteArray × ByteArray)) × Unit) × ((List (ByteArray × ByteArray)) × Unit) × Unit)) => (chartularylaw08_plain_build.l1 k d.1.2.2.1 d.1.2.2.2.1 d.1.2.2.2.2.1 d.2.1.1 d.2.1.2.1 d.2.1.2.2.1 d.2.1.2.2.2.1 d.2.2.1.2.2.1 d.2.2.1.2.2.2.1 d.2.2.1.2.2.2.2.1 d.2.2.1.2.2.2.2.2.1 d.2.2.2.1.1 d.2.2.2.2.1.1 : Option chartularylaw08_plain_build.R)⟩
  | _ => none
noncomputable def chartularylaw08_plain_build.fd : FnD := ⟨Try.f23, chartularylaw08_plain_build.ini, chartularylaw08_plain_build.out, 1, [1000000, 1000001, 1000002, 1000003], [1000002], chartularylaw08_plain_build.labF, fun k (d : (Unit × Unit × Int × Int × Unit) × ((List Int × List ByteArray × List ByteArray × Bool × Unit) × (Unit × Unit × (ByteArray × ByteArray × Unit) × Bool × Bool × Int × Unit) × ((List (ByteArray × ByteArray)) × Unit) × ((List (ByteArray × ByteArray)) × Unit) × Unit)) => (chartularylaw08_plain_build.f k d.1.2.2.1 d.1.2.2.2.1 d.2.1.1 d.2.1.2.1 d.2.1.2.2.1 d.2.1.2.2.2.1 d.2.2.1.2.2.1 d.2.2.1.2.2.2.1 d.2.2.1.2.2.2.2.1 d.2.2.1.2.2.2.2.2.1 d.2.2.2.1.1 d.2.2.2.2.1.1 : Option chartularylaw08_plain_build.R)⟩

/-! ### chartularylaw08_SheetBuilds : function 5 -/
abbrev chartularylaw08_SheetBuilds.R := (Bool × Unit) × (Unit)
mutual
noncomputable def chartularylaw08_SheetBuilds.j0 : Nat → Int → (List Int) → (List ByteArray) → (List ByteArray) → (ByteArray × ByteArray × Unit) → Bool → Bool → Int → (List (ByteArray × ByteArray)) → (List (ByteArray × ByteArray)) → Option chartularylaw08_SheetBuilds.R
  | 0, _, _, _, _, _, _, _, _, _, _ => none
  | k + 1, x0, x1, x2, x3, o0_2, o0_3, o0_4, o0_5, o1000_0, o1001_0 =>
    (sheet_Rebuild.f k x0 x1 x2 x3 (o0_2.1, (o0_2.2.1, ())) o0_3 o0_4 o0_5 o1000_0 o1001_0).bind fun r5 =>
    bif decide ((x0 : Int) < 1) then
      chartularylaw08_SheetBuilds.j1 k x0 x1 x2 x3 r5.1.1 r5.1.2.1 true (r5.2.1.2.2.1.1, (r5.2.1.2.2.1.2.1, ())) r5.2.1.2.2.2.1 r5.2.1.2.2.2.2.1 r5.2.1.2.2.2.2.2.1 o1000_0 r5.2.2.1.1
    else
    bif decide ((x0 : Int) > 12) then
      chartularylaw08_SheetBuilds.j1 k x0 x1 x2 x3 r5.1.1 r5.1.2.1 true (r5.2.1.2.2.1.1, (r5.2.1.2.2.1.2.1, ())) r5.2.1.2.2.2.1 r5.2.1.2.2.2.2.1 r5.2.1.2.2.2.2.2.1 o1000_0 r5.2.2.1.1
    else
    bif ((x1.length : Int) : Int) == 0 then
      chartularylaw08_SheetBuilds.j1 k x0 x1 x2 x3 r5.1.1 r5.1.2.1 true (r5.2.1.2.2.1.1, (r5.2.1.2.2.1.2.1, ())) r5.2.1.2.2.2.1 r5.2.1.2.2.2.2.1 r5.2.1.2.2.2.2.2.1 o1000_0 r5.2.2.1.1
    else
    bif ((x1.length : Int) : Int) != (x2.length : Int) then
      chartularylaw08_SheetBuilds.j1 k x0 x1 x2 x3 r5.1.1 r5.1.2.1 true (r5.2.1.2.2.1.1, (r5.2.1.2.2.1.2.1, ())) r5.2.1.2.2.2.1 r5.2.1.2.2.2.2.1 r5.2.1.2.2.2.2.2.1 o1000_0 r5.2.2.1.1
    else
      (chartularylaw08_rising.f k x1 x0).bind fun r6 =>
      chartularylaw08_SheetBuilds.j1 k x0 x1 x2 x3 r5.1.1 r5.1.2.1 (!r6.1.1) (r5.2.1.2.2.1.1, (r5.2.1.2.2.1.2.1, ())) r5.2.1.2.2.2.1 r5.2.1.2.2.2.2.1 r5.2.1.2.2.2.2.2.1 o1000_0 r5.2.2.1.1
noncomputable def chartularylaw08_SheetBuilds.j1 : Nat → Int → (List Int) → (List ByteArray) → (List ByteArray) → ByteArray → Int → Bool → (ByteArray × ByteArray × Unit) → Bool → Bool → Int → (List (ByteArray × ByteArray)) → (List (ByteArray × ByteArray)) → Option chartularylaw08_SheetBuilds.R
  | 0, _, _, _, _, _, _, _, _, _, _, _, _, _ => none
  | k + 1, x0, x1, x2, x3, x10, x11, x63, o0_2, o0_3, o0_4, o0_5, o1000_0, o1001_0 =>
    bif x63 then
      bif x10.toList == (⟨#[]⟩ : ByteArray).toList then
        bif (x11 : Int) == 21 then
          (chartularylaw08_awake.f k).bind fun r7 =>
          some ((r7.1.1, ()), (()))
        else
          some ((false, ()), (()))
      else
        some ((false, ()), (()))
    else
      chartularylaw08_SheetBuilds.l0 k x0 x1 x2 x3 x10 x11 true 0 (o0_2.1, (o0_2.2.1, ())) o0_3 o0_4 o0_5 o1000_0 o1001_0
noncomputable def chartularylaw08_SheetBuilds.l0 : Nat → Int → (List Int) → (List ByteArray) → (List ByteArray) → ByteArray → Int → Bool → Int → (ByteArray × ByteArray × Unit) → Bool → Bool → Int → (List (ByteArray × ByteArray)) → (List (ByteArray × ByteArray)) → Option chartularylaw08_SheetBuilds.R
  | 0, _, _, _, _, _, _, _, _, _, _, _, _, _, _ => none
  | k + 1, x0, x1, x2, x3, x10, x11, x12, x13, o0_2, o0_3, o0_4, o0_5, o1000_0, o1001_0 =>
    bif decide ((x13 : Int) < (x3.length : Int)) then
      bif x12 then
        (rdo x3 x13).bind fun t8 =>
        chartularylaw08_SheetBuilds.l0 k x0 x1 x2 x3 x10 x11 (((t8.size : Int) : Int) == 32) (IntKind.wrap .i64 (x13 + 1)) (o0_2.1, (o0_2.2.1, ())) o0_3 o0_4 o0_5 o1000_0 o1001_0
      else
        chartularylaw08_SheetBuilds.l0 k x0 x1 x2 x3 x10 x11 false (IntKind.wrap .i64 (x13 + 1)) (o0_2.1, (o0_2.2.1, ())) o0_3 o0_4 o0_5 o1000_0 o1001_0
    else
      (chartularylaw08_plain_build.f k 0 x0 x1 x2 x3 false (o0_2.1, (o0_2.2.1, ())) o0_3 o0_4 o0_5 o1000_0 o1001_0).bind fun r9 =>
      bif !x12 then
        chartularylaw08_SheetBuilds.j2 k x10 x11 r9.1.1 true
      else
      bif r9.2.1.2.2.2.1 then
        chartularylaw08_SheetBuilds.j2 k x10 x11 r9.1.1 true
      else
        chartularylaw08_SheetBuilds.j2 k x10 x11 r9.1.1 (decide (((r9.2.1.2.2.1.length : Int) : Int) > 0))
noncomputable def chartularylaw08_SheetBuilds.j2 : Nat → ByteArray → Int → ByteArray → Bool → Option chartularylaw08_SheetBuilds.R
  | 0, _, _, _, _ => none
  | k + 1, x10, x11, x15, x112 =>
    bif x112 then
      bif x10.toList == (⟨#[]⟩ : ByteArray).toList then
        bif (x11 : Int) == 20 then
          (chartularylaw08_awake.f k).bind fun r10 =>
          some ((r10.1.1, ()), (()))
        else
          some ((false, ()), (()))
      else
        some ((false, ()), (()))
    else
    bif (x11 : Int) == 0 then
      bif x10.toList == x15.toList then
        (chartularylaw08_awake.f k).bind fun r11 =>
        some ((r11.1.1, ()), (()))
      else
        some ((false, ()), (()))
    else
      some ((false, ()), (()))
noncomputable def chartularylaw08_SheetBuilds.f : Nat → Int → (List Int) → (List ByteArray) → (List ByteArray) → Option chartularylaw08_SheetBuilds.R
  | 0, _, _, _, _ => none
  | k + 1, x0, x1, x2, x3 =>
    (mill_New.f k).bind fun r1 =>
    bif decide (((x1.length : Int) : Int) > 20) then
      (chartularylaw08_awake.f k).bind fun r2 =>
      some ((r2.1.1, ()), (()))
    else
    bif decide (((x2.length : Int) : Int) > 20) then
      (chartularylaw08_awake.f k).bind fun r3 =>
      some ((r3.1.1, ()), (()))
    else
    bif decide (((x3.length : Int) : Int) > 20) then
      (chartularylaw08_awake.f k).bind fun r4 =>
      some ((r4.1.1, ()), (()))
    else
      chartularylaw08_SheetBuilds.j0 k x0 x1 x2 x3 (r1.2.1.2.2.1.1, (r1.2.1.2.2.1.2.1, ())) r1.2.1.2.2.2.1 r1.2.1.2.2.2.2.1 r1.2.1.2.2.2.2.2.1 r1.2.2.1.1 r1.2.2.2.1.1
end
abbrev chartularylaw08_SheetBuilds.ini : LSh := ⟨[(0, .val (.int .i64)), (1, .val (.sl (.int .i64))), (2, .val (.sl .str)), (3, .val (.sl .str))], []⟩
abbrev chartularylaw08_SheetBuilds.out : LSh := ⟨[(0, .val .bool)], []⟩
abbrev chartularylaw08_SheetBuilds.j0s : LSh := ⟨[(0, .val (.int .i64)), (1, .val (.sl (.int .i64))), (2, .val (.sl .str)), (3, .val (.sl .str)), (9, .ptr 1704000000 0)], [(1704000000, 67, [.mref 1704001000, .mref 1704001001, .val (.cons .str (.cons .str .nil)), .val .bool, .val .bool, .val (.int .i64)]), (1704001000, 64, [.mapd]), (1704001001, 64, [.mapd])]⟩
abbrev chartularylaw08_SheetBuilds.j1s : LSh := ⟨[(0, .val (.int .i64)), (1, .val (.sl (.int .i64))), (2, .val (.sl .str)), (3, .val (.sl .str)), (9, .ptr 1704000000 0), (10, .val .str), (11, .val (.int .i64)), (63, .val .bool)], [(1704000000, 67, [.mref 1704001000, .mref 1704001001, .val (.cons .str (.cons .str .nil)), .val .bool, .val .bool, .val (.int .i64)]), (1704001000, 64, [.mapd]), (1704001001, 64, [.mapd])]⟩
abbrev chartularylaw08_SheetBuilds.l0s : LSh := ⟨[(0, .val (.int .i64)), (1, .val (.sl (.int .i64))), (2, .val (.sl .str)), (3, .val (.sl .str)), (9, .ptr 1704000000 0), (10, .val .str), (11, .val (.int .i64)), (12, .val .bool), (13, .val (.int .i64))], [(1704000000, 67, [.mref 1704001000, .mref 1704001001, .val (.cons .str (.cons .str .nil)), .val .bool, .val .bool, .val (.int .i64)]), (1704001000, 64, [.mapd]), (1704001001, 64, [.mapd])]⟩
abbrev chartularylaw08_SheetBuilds.j2s : LSh := ⟨[(10, .val .str), (11, .val (.int .i64)), (15, .val .str), (112, .val .bool)], []⟩
noncomputable def chartularylaw08_SheetBuilds.labF : Nat → Option (LabF chartularylaw08_SheetBuilds.out.den)
  | 9 => some ⟨chartularylaw08_SheetBuilds.j0s, fun k (d : (Int × List Int × List ByteArray × List ByteArray × Unit × Unit) × ((Unit × Unit × (ByteArray × ByteArray × Unit) × Bool × Bool × Int × Unit) × ((List (ByteArray × ByteArray)) × Unit) × ((List (ByteArray × ByteArray)) × Unit) × Unit)) => (chartularylaw08_SheetBuilds.j0 k d.1.1 d.1.2.1 d.1.2.2.1 d.1.2.2.2.1 d.2.1.2.2.1 d.2.1.2.2.2.1 d.2.1.2.2.2.2.1 d.2.1.2.2.2.2.2.1 d.2.2.1.1 d.2.2.2.1.1 : Option chartularylaw08_SheetBuilds.R)⟩
  | 13 => some ⟨chartularylaw08_SheetBuilds.j1s, fun k (d : (Int × List Int × List ByteArray × List ByteArray × Unit × ByteArray × Int × Bool × Unit) × ((Unit × Unit × (ByteArray × ByteArray × Unit) × Bool × Bool × Int × Unit) × ((List (ByteArray × ByteArray)) × Unit) × ((List (ByteArray × ByteArray)) × Unit) × Unit)) => (chartularylaw08_SheetBuilds.j1 k d.1.1 d.1.2.1 d.1.2.2.1 d.1.2.2.2.1 d.1.2.2.2.2.2.1 d.1.2.2.2.2.2.2.1 d.1.2.2.2.2.2.2.2.1 d.2.1.2.2.1 d.2.1.2.2.2.1 d.2.1.2.2.2.2.1 d.2.1.2.2.2.2.2.1 d.2.2.1.1 d.2.2.2.1.1 : Option chartularylaw08_SheetBuilds.R)⟩
  | 18 => some ⟨chartularylaw08_SheetBuilds.l0s, fun k (d : (Int × List Int × List ByteArray × List ByteArray × Unit × ByteArray × Int × Bool × Int × Unit) × ((Unit × Unit × (ByteArray × ByteArray × Unit) × Bool × Bool × Int × Unit) × ((List (ByteArray × ByteArray)) × Unit) × ((List (ByteArray × ByteArray)) × Unit) × Unit)) => (chartularylaw08_SheetBuilds.l0 k d.1.1 d.1.2.1 d.1.2.2.1 d.1.2.2.2.1 d.1.2.2.2.2.2.1 d.1.2.2.2.2.2.2.1 d.1.2.2.2.2.2.2.2.1 d.1.2.2.2.2.2.2.2.2.1 d.2.1.2.2.1 d.2.1.2.2.2.1 d.2.1.2.2.2.2.1 d.2.1.2.2.2.2.2.1 d.2.2.1.1 d.2.2.2.1.1 : Option chartularylaw08_SheetBuilds.R)⟩
  | 31 => some ⟨chartularylaw08_SheetBuilds.j2s, fun k (d : (ByteArray × Int × ByteArray × Bool × Unit) × (Unit)) => (chartularylaw08_SheetBuilds.j2 k d.1.1 d.1.2.1 d.1.2.2.1 d.1.2.2.2.1 : Option chartularylaw08_SheetBuilds.R)⟩
  | _ => none
noncomputable def chartularylaw08_SheetBuilds.fd : FnD := ⟨Try.f5, chartularylaw08_SheetBuilds.ini, chartularylaw08_SheetBuilds.out, 1, [], [], chartularylaw08_SheetBuilds.labF, fun k (d : (Int × List Int × List ByteArray × List ByteArray × Unit) × (Unit)) => (chartularylaw08_SheetBuilds.f k d.1.1 d.1.2.1 d.1.2.2.1 d.1.2.2.2.1 : Option chartularylaw08_SheetBuilds.R)⟩

/-! ### chartularylaw08_beside : function 26 -/
abbrev chartularylaw08_beside.R := (List ByteArray × Unit) × ((Unit × Unit × (ByteArray × ByteArray × Unit) × Bool × Bool × Int × Unit) × ((List (ByteArray × ByteArray)) × Unit) × Unit)
mutual
noncomputable def chartularylaw08_beside.l0 : Nat → (List ByteArray) → Int → (List Int) → Bool → Int → (ByteArray × ByteArray × Unit) → Bool → Bool → Int → (List (ByteArray × ByteArray)) → (List (ByteArray × ByteArray)) → Option chartularylaw08_beside.R
  | 0, _, _, _, _, _, _, _, _, _, _, _ => none
  | k + 1, x1, x2, x3, x9, x10, o0_2, o0_3, o0_4, o0_5, o1_0, o2_0 =>
    bif decide ((x10 : Int) < (x3.length : Int)) then
      bif x9 then
        chartularylaw08_beside.l0 k x1 x2 x3 true (IntKind.wrap .i64 (x10 + 1)) (o0_2.1, (o0_2.2.1, ())) o0_3 o0_4 o0_5 o1_0 o2_0
      else
        (rdo x3 x10).bind fun t1 =>
        bif decide ((t1 : Int) ≥ x2) then
          (rdo x3 x10).bind fun t2 =>
          chartularylaw08_beside.l0 k x1 x2 x3 (decide ((t2 : Int) < IntKind.wrap .i64 (x2 + (x1.length : Int)))) (IntKind.wrap .i64 (x10 + 1)) (o0_2.1, (o0_2.2.1, ())) o0_3 o0_4 o0_5 o1_0 o2_0
        else
          chartularylaw08_beside.l0 k x1 x2 x3 false (IntKind.wrap .i64 (x10 + 1)) (o0_2.1, (o0_2.2.1, ())) o0_3 o0_4 o0_5 o1_0 o2_0
    else
    bif !x9 then
      (chartularylaw07_Root.f k x1 (o0_2.1, (o0_2.2.1, ())) o0_3 o0_4 o0_5 o1_0 o2_0).bind fun r3 =>
      some ((([r3.1.1] : List ByteArray), ()), (((), (), (r3.2.1.2.2.1.1, (r3.2.1.2.2.1.2.1, ())), r3.2.1.2.2.2.1, r3.2.1.2.2.2.2.1, r3.2.1.2.2.2.2.2.1, ()), (r3.2.2.1.1, ()), ()))
    else
    bif ((x1.length : Int) : Int) == 1 then
      some (([], ()), (((), (), (o0_2.1, (o0_2.2.1, ())), o0_3, o0_4, o0_5, ()), (o2_0, ()), ()))
    else
      chartularylaw08_beside.l1 k x1 x2 x3 1 (o0_2.1, (o0_2.2.1, ())) o0_3 o0_4 o0_5 o1_0 o2_0
noncomputable def chartularylaw08_beside.l1 : Nat → (List ByteArray) → Int → (List Int) → Int → (ByteArray × ByteArray × Unit) → Bool → Bool → Int → (List (ByteArray × ByteArray)) → (List (ByteArray × ByteArray)) → Option chartularylaw08_beside.R
  | 0, _, _, _, _, _, _, _, _, _, _ => none
  | k + 1, x1, x2, x3, x11, o0_2, o0_3, o0_4, o0_5, o1_0, o2_0 =>
    bif decide ((IntKind.wrap .i64 (2 * x11) : Int) < (x1.length : Int)) then
      chartularylaw08_beside.l1 k x1 x2 x3 (IntKind.wrap .i64 (2 * x11)) (o0_2.1, (o0_2.2.1, ())) o0_3 o0_4 o0_5 o1_0 o2_0
    else
      (ck (decide (0 ≤ 0) && decide (0 ≤ x11) && decide (x11 ≤ (x1.length : Int)))).bind fun _ =>
      (chartularylaw08_beside.f k ((x1.take x11.toNat).drop (0 : Int).toNat) x2 x3 (o0_2.1, (o0_2.2.1, ())) o0_3 o0_4 o0_5 o1_0 o2_0).bind fun r4 =>
      (ck (decide (0 ≤ x11) && decide (x11 ≤ (x1.length : Int)) && decide ((x1.length : Int) ≤ (x1.length : Int)))).bind fun _ =>
      (chartularylaw08_beside.f k ((x1.take (x1.length : Int).toNat).drop x11.toNat) (IntKind.wrap .i64 (x2 + x11)) x3 (r4.2.1.2.2.1.1, (r4.2.1.2.2.1.2.1, ())) r4.2.1.2.2.2.1 r4.2.1.2.2.2.2.1 r4.2.1.2.2.2.2.2.1 o1_0 r4.2.2.1.1).bind fun r5 =>
      chartularylaw08_beside.l2 k r4.1.1 r5.1.1 0 (r5.2.1.2.2.1.1, (r5.2.1.2.2.1.2.1, ())) r5.2.1.2.2.2.1 r5.2.1.2.2.2.2.1 r5.2.1.2.2.2.2.2.1 o1_0 r5.2.2.1.1
noncomputable def chartularylaw08_beside.l2 : Nat → (List ByteArray) → (List ByteArray) → Int → (ByteArray × ByteArray × Unit) → Bool → Bool → Int → (List (ByteArray × ByteArray)) → (List (ByteArray × ByteArray)) → Option chartularylaw08_beside.R
  | 0, _, _, _, _, _, _, _, _, _ => none
  | k + 1, x12, x13, x14, o0_2, o0_3, o0_4, o0_5, o1_0, o2_0 =>
    bif decide ((x14 : Int) < (x13.length : Int)) then
      (rdo x13 x14).bind fun t6 =>
      (ck (decide ((x12.length + ([t6] : List ByteArray).length) * 16 ≤ 70368744177664))).bind fun _ =>
      chartularylaw08_beside.l2 k (x12 ++ ([t6] : List ByteArray)) x13 (IntKind.wrap .i64 (x14 + 1)) (o0_2.1, (o0_2.2.1, ())) o0_3 o0_4 o0_5 o1_0 o2_0
    else
      some ((x12, ()), (((), (), (o0_2.1, (o0_2.2.1, ())), o0_3, o0_4, o0_5, ()), (o2_0, ()), ()))
noncomputable def chartularylaw08_beside.f : Nat → (List ByteArray) → Int → (List Int) → (ByteArray × ByteArray × Unit) → Bool → Bool → Int → (List (ByteArray × ByteArray)) → (List (ByteArray × ByteArray)) → Option chartularylaw08_beside.R
  | 0, _, _, _, _, _, _, _, _, _ => none
  | k + 1, x1, x2, x3, o0_2, o0_3, o0_4, o0_5, o1_0, o2_0 =>
    chartularylaw08_beside.l0 k x1 x2 x3 false 0 (o0_2.1, (o0_2.2.1, ())) o0_3 o0_4 o0_5 o1_0 o2_0
end
abbrev chartularylaw08_beside.ini : LSh := ⟨[(0, .ptr 1000000 0), (1, .val (.sl .str)), (2, .val (.int .i64)), (3, .val (.sl (.int .i64)))], [(1000000, 67, [.mref 1000001, .mref 1000002, .val (.cons .str (.cons .str .nil)), .val .bool, .val .bool, .val (.int .i64)]), (1000001, 64, [.mapd]), (1000002, 64, [.mapd])]⟩
abbrev chartularylaw08_beside.out : LSh := ⟨[(0, .own 5000000 9 .str)], [(1000000, 67, [.mref 1000001, .mref 1000002, .val (.cons .str (.cons .str .nil)), .val .bool, .val .bool, .val (.int .i64)]), (1000002, 64, [.mapd])]⟩
abbrev chartularylaw08_beside.l0s : LSh := ⟨[(0, .ptr 1000000 0), (1, .val (.sl .str)), (2, .val (.int .i64)), (3, .val (.sl (.int .i64))), (9, .val .bool), (10, .val (.int .i64))], [(1000000, 67, [.mref 1000001, .mref 1000002, .val (.cons .str (.cons .str .nil)), .val .bool, .val .bool, .val (.int .i64)]), (1000001, 64, [.mapd]), (1000002, 64, [.mapd])]⟩
abbrev chartularylaw08_beside.l1s : LSh := ⟨[(0, .ptr 1000000 0), (1, .val (.sl .str)), (2, .val (.int .i64)), (3, .val (.sl (.int .i64))), (11, .val (.int .i64))], [(1000000, 67, [.mref 1000001, .mref 1000002, .val (.cons .str (.cons .str .nil)), .val .bool, .val .bool, .val (.int .i64)]), (1000001, 64, [.mapd]), (1000002, 64, [.mapd])]⟩
abbrev chartularylaw08_beside.l2s : LSh := ⟨[(12, .own 2000012 9 .str), (13, .own 2000013 9 .str), (14, .val (.int .i64))], [(1000000, 67, [.mref 1000001, .mref 1000002, .val (.cons .str (.cons .str .nil)), .val .bool, .val .bool, .val (.int .i64)]), (1000001, 64, [.mapd]), (1000002, 64, [.mapd])]⟩
noncomputable def chartularylaw08_beside.labF : Nat → Option (LabF chartularylaw08_beside.out.den)
  | 6 => some ⟨chartularylaw08_beside.l0s, fun k (d : (Unit × List ByteArray × Int × List Int × Bool × Int × Unit) × ((Unit × Unit × (ByteArray × ByteArray × Unit) × Bool × Bool × Int × Unit) × ((List (ByteArray × ByteArray)) × Unit) × ((List (ByteArray × ByteArray)) × Unit) × Unit)) => (chartularylaw08_beside.l0 k d.1.2.1 d.1.2.2.1 d.1.2.2.2.1 d.1.2.2.2.2.1 d.1.2.2.2.2.2.1 d.2.1.2.2.1 d.2.1.2.2.2.1 d.2.1.2.2.2.2.1 d.2.1.2.2.2.2.2.1 d.2.2.1.1 d.2.2.2.1.1 : Option chartularylaw08_beside.R)⟩
  | 22 => some ⟨chartularylaw08_beside.l1s, fun k (d : (Unit × List ByteArray × Int × List Int × Int × Unit) × ((Unit × Unit × (ByteArray × ByteArray × Unit) × Bool × Bool × Int × Unit) × ((List (ByteArray × ByteArray)) × Unit) × ((List (ByteArray × ByteArray)) × Unit) × Unit)) => (chartularylaw08_beside.l1 k d.1.2.1 d.1.2.2.1 d.1.2.2.2.1 d.1.2.2.2.2.1 d.2.1.2.2.1 d.2.1.2.2.2.1 d.2.1.2.2.2.2.1 d.2.1.2.2.2.2.2.1 d.2.2.1.1 d.2.2.2.1.1 : Option chartularylaw08_beside.R)⟩
  | 32 => some ⟨chartularylaw08_beside.l2s, fun k (d : (List ByteArray × List ByteArray × Int × Unit) × ((Unit × Unit × (ByteArray × ByteArray × Unit) × Bool × Bool × Int × Unit) × ((List (ByteArray × ByteArray)) × Unit) × ((List (ByteArray × ByteArray)) × Unit) × Unit)) => (chartularylaw08_beside.l2 k d.1.1 d.1.2.1 d.1.2.2.1 d.2.1.2.2.1 d.2.1.2.2.2.1 d.2.1.2.2.2.2.1 d.2.1.2.2.2.2.2.1 d.2.2.1.1 d.2.2.2.1.1 : Option chartularylaw08_beside.R)⟩
  | _ => none
noncomputable def chartularylaw08_beside.fd : FnD := ⟨Try.f26, chartularylaw08_beside.ini, chartularylaw08_beside.out, 1, [1000000, 1000001, 1000002], [1000001], chartularylaw08_beside.labF, fun k (d : (Unit × List ByteArray × Int × List Int × Unit) × ((Unit × Unit × (ByteArray × ByteArray × Unit) × Bool × Bool × Int × Unit) × ((List (ByteArray × ByteArray)) × Unit) × ((List (ByteArray × ByteArray)) × Unit) × Unit)) => (chartularylaw08_beside.f k d.1.2.1 d.1.2.2.1 d.1.2.2.2.1 d.2.1.2.2.1 d.2.1.2.2.2.1 d.2.1.2.2.2.2.1 d.2.1.2.2.2.2.2.1 d.2.2.1.1 d.2.2.2.1.1 : Option chartularylaw08_beside.R)⟩

/-! ### chartularylaw08_SheetNodes : function 6 -/
abbrev chartularylaw08_SheetNodes.R := (Bool × Unit) × (Unit)
mutual
noncomputable def chartularylaw08_SheetNodes.j0 : Nat → (List (ByteArray × ByteArray × ByteArray × Bool × Unit)) → (List Int) → (ByteArray × ByteArray × Unit) → Bool → Bool → Int → (List (ByteArray × ByteArray)) → (List (ByteArray × ByteArray)) → Option chartularylaw08_SheetNodes.R
  | 0, _, _, _, _, _, _, _, _ => none
  | k + 1, x0, x1, o0_2, o0_3, o0_4, o0_5, o1000_0, o1001_0 =>
    (sheet_Nodes.f k x0 x1 (o0_2.1, (o0_2.2.1, ())) o0_3 o0_4 o0_5 o1000_0 o1001_0).bind fun r3 =>
    (sheet_Rising.f k x1 (x0.length : Int)).bind fun r4 =>
    (chartularylaw08_rising.f k x1 (x0.length : Int)).bind fun r5 =>
    bif !(r4.1.1 == r5.1.1) then
      some ((false, ()), (()))
    else
    bif ((x1.length : Int) : Int) == 0 then
      chartularylaw08_SheetNodes.j1 k x0 x1 r3.1.1 r3.1.2.1 true (r3.2.1.2.2.1.1, (r3.2.1.2.2.1.2.1, ())) r3.2.1.2.2.2.1 r3.2.1.2.2.2.2.1 r3.2.1.2.2.2.2.2.1 o1000_0 r3.2.2.1.1
    else
      (chartularylaw08_rising.f k x1 (x0.length : Int)).bind fun r6 =>
      chartularylaw08_SheetNodes.j1 k x0 x1 r3.1.1 r3.1.2.1 (!r6.1.1) (r3.2.1.2.2.1.1, (r3.2.1.2.2.1.2.1, ())) r3.2.1.2.2.2.1 r3.2.1.2.2.2.2.1 r3.2.1.2.2.2.2.2.1 o1000_0 r3.2.2.1.1
noncomputable def chartularylaw08_SheetNodes.j1 : Nat → (List (ByteArray × ByteArray × ByteArray × Bool × Unit)) → (List Int) → (List ByteArray) → Int → Bool → (ByteArray × ByteArray × Unit) → Bool → Bool → Int → (List (ByteArray × ByteArray)) → (List (ByteArray × ByteArray)) → Option chartularylaw08_SheetNodes.R
  | 0, _, _, _, _, _, _, _, _, _, _, _ => none
  | k + 1, x0, x1, x6, x7, x47, o0_2, o0_3, o0_4, o0_5, o1000_0, o1001_0 =>
    bif x47 then
      bif ((x6.length : Int) : Int) == 0 then
        bif (x7 : Int) == 1 then
          (chartularylaw08_awake.f k).bind fun r7 =>
          some ((r7.1.1, ()), (()))
        else
          some ((false, ()), (()))
      else
        some ((false, ()), (()))
    else
      (chartularylaw08_leaves.f k x0 (o0_2.1, (o0_2.2.1, ())) o0_3 o0_4 o0_5 o1000_0 o1001_0).bind fun r8 =>
      (chartularylaw08_beside.f k r8.1.1 0 x1 (r8.2.1.2.2.1.1, (r8.2.1.2.2.1.2.1, ())) r8.2.1.2.2.2.1 r8.2.1.2.2.2.2.1 r8.2.1.2.2.2.2.2.1 o1000_0 r8.2.2.1.1).bind fun r9 =>
      chartularylaw08_SheetNodes.l0 k x0 x1 x6 x7 r9.1.1 [] 0 (r9.2.1.2.2.1.1, (r9.2.1.2.2.1.2.1, ())) r9.2.1.2.2.2.1 r9.2.1.2.2.2.2.1 r9.2.1.2.2.2.2.2.1 o1000_0 r9.2.2.1.1
noncomputable def chartularylaw08_SheetNodes.l0 : Nat → (List (ByteArray × ByteArray × ByteArray × Bool × Unit)) → (List Int) → (List ByteArray) → Int → (List ByteArray) → (List ByteArray) → Int → (ByteArray × ByteArray × Unit) → Bool → Bool → Int → (List (ByteArray × ByteArray)) → (List (ByteArray × ByteArray)) → Option chartularylaw08_SheetNodes.R
  | 0, _, _, _, _, _, _, _, _, _, _, _, _, _ => none
  | k + 1, x0, x1, x6, x7, x8, x9, x10, o0_2, o0_3, o0_4, o0_5, o1000_0, o1001_0 =>
    bif decide ((x10 : Int) < (x1.length : Int)) then
      (rdo x1 x10).bind fun t10 =>
      (rdo x0 t10).bind fun t11 =>
      (chartularylaw08_leaf.f k (t11.1, (t11.2.1, (t11.2.2.1, (t11.2.2.2.1, ())))) (o0_2.1, (o0_2.2.1, ())) o0_3 o0_4 o0_5 o1000_0 o1001_0).bind fun r12 =>
      (ck (decide ((x9.length + ([r12.1.1] : List ByteArray).length) * 16 ≤ 70368744177664))).bind fun _ =>
      chartularylaw08_SheetNodes.l0 k x0 x1 x6 x7 x8 (x9 ++ ([r12.1.1] : List ByteArray)) (IntKind.wrap .i64 (x10 + 1)) (r12.2.1.2.2.1.1, (r12.2.1.2.2.1.2.1, ())) r12.2.1.2.2.2.1 r12.2.1.2.2.2.2.1 r12.2.1.2.2.2.2.2.1 o1000_0 r12.2.2.1.1
    else
    bif (x7 : Int) != 0 then
      some ((false, ()), (()))
    else
    bif ((x6.length : Int) : Int) != (x8.length : Int) then
      some ((false, ()), (()))
    else
      chartularylaw08_SheetNodes.j2 k x0 x1 x6 x8 x9 (o0_2.1, (o0_2.2.1, ())) o0_3 o0_4 o0_5 o1000_0 o1001_0
noncomputable def chartularylaw08_SheetNodes.j2 : Nat → (List (ByteArray × ByteArray × ByteArray × Bool × Unit)) → (List Int) → (List ByteArray) → (List ByteArray) → (List ByteArray) → (ByteArray × ByteArray × Unit) → Bool → Bool → Int → (List (ByteArray × ByteArray)) → (List (ByteArray × ByteArray)) → Option chartularylaw08_SheetNodes.R
  | 0, _, _, _, _, _, _, _, _, _, _, _ => none
  | k + 1, x0, x1, x6, x8, x9, o0_2, o0_3, o0_4, o0_5, o1000_0, o1001_0 =>
    chartularylaw08_SheetNodes.l1 k x0 x1 x6 x8 x9 0 (o0_2.1, (o0_2.2.1, ())) o0_3 o0_4 o0_5 o1000_0 o1001_0
noncomputable def chartularylaw08_SheetNodes.l1 : Nat → (List (ByteArray × ByteArray × ByteArray × Bool × Unit)) → (List Int) → (List ByteArray) → (List ByteArray) → (List ByteArray) → Int → (ByteArray × ByteArray × Unit) → Bool → Bool → Int → (List (ByteArray × ByteArray)) → (List (ByteArray × ByteArray)) → Option chartularylaw08_SheetNodes.R
  | 0, _, _, _, _, _, _, _, _, _, _, _, _ => none
  | k + 1, x0, x1, x6, x8, x9, x11, o0_2, o0_3, o0_4, o0_5, o1000_0, o1001_0 =>
    bif decide ((x11 : Int) < (x6.length : Int)) then
      (rdo x6 x11).bind fun t13 =>
      (rdo x8 x11).bind fun t14 =>
      bif !(t13.toList == t14.toList) then
        some ((false, ()), (()))
      else
        chartularylaw08_SheetNodes.l1 k x0 x1 x6 x8 x9 (IntKind.wrap .i64 (x11 + 1)) (o0_2.1, (o0_2.2.1, ())) o0_3 o0_4 o0_5 o1000_0 o1001_0
    else
      (sheet_Rebuild.f k (x0.length : Int) x1 x9 x6 (o0_2.1, (o0_2.2.1, ())) o0_3 o0_4 o0_5 o1000_0 o1001_0).bind fun r15 =>
      bif (r15.1.2.1 : Int) == 0 then
        (sheet_Root.f k x0 (r15.2.1.2.2.1.1, (r15.2.1.2.2.1.2.1, ())) r15.2.1.2.2.2.1 r15.2.1.2.2.2.2.1 r15.2.1.2.2.2.2.2.1 o1000_0 r15.2.2.1.1).bind fun r16 =>
        bif r15.1.1.toList == r16.1.1.toList then
          (chartularylaw08_awake.f k).bind fun r17 =>
          some ((r17.1.1, ()), (()))
        else
          some ((false, ()), (()))
      else
        some ((false, ()), (()))
noncomputable def chartularylaw08_SheetNodes.f : Nat → (List (ByteArray × ByteArray × ByteArray × Bool × Unit)) → (List Int) → Option chartularylaw08_SheetNodes.R
  | 0, _, _ => none
  | k + 1, x0, x1 =>
    (mill_New.f k).bind fun r1 =>
    (chartularylaw08_few.f k x0).bind fun r2 =>
    bif decide (((x1.length : Int) : Int) > 20) then
      (ck (decide (0 ≤ 0) && decide (0 ≤ 20) && decide (20 ≤ (x1.length : Int)))).bind fun _ =>
      chartularylaw08_SheetNodes.j0 k r2.1.1 ((x1.take (20 : Int).toNat).drop (0 : Int).toNat) (r1.2.1.2.2.1.1, (r1.2.1.2.2.1.2.1, ())) r1.2.1.2.2.2.1 r1.2.1.2.2.2.2.1 r1.2.1.2.2.2.2.2.1 r1.2.2.1.1 r1.2.2.2.1.1
    else
      chartularylaw08_SheetNodes.j0 k r2.1.1 x1 (r1.2.1.2.2.1.1, (r1.2.1.2.2.1.2.1, ())) r1.2.1.2.2.2.1 r1.2.1.2.2.2.2.1 r1.2.1.2.2.2.2.2.1 r1.2.2.1.1 r1.2.2.2.1.1
end
abbrev chartularylaw08_SheetNodes.ini : LSh := ⟨[(0, .val (.sl (.cons .str (.cons .str (.cons .str (.cons .bool .nil)))))), (1, .val (.sl (.int .i64)))], []⟩
abbrev chartularylaw08_SheetNodes.out : LSh := ⟨[(0, .val .bool)], []⟩
abbrev chartularylaw08_SheetNodes.j0s : LSh := ⟨[(0, .val (.sl (.cons .str (.cons .str (.cons .str (.cons .bool .nil)))))), (1, .val (.sl (.int .i64))), (5, .ptr 1504000000 0)], [(1504000000, 67, [.mref 1504001000, .mref 1504001001, .val (.cons .str (.cons .str .nil)), .val .bool, .val .bool, .val (.int .i64)]), (1504001000, 64, [.mapd]), (1504001001, 64, [.mapd])]⟩
abbrev chartularylaw08_SheetNodes.j1s : LSh := ⟨[(0, .val (.sl (.cons .str (.cons .str (.cons .str (.cons .bool .nil)))))), (1, .val (.sl (.int .i64))), (5, .ptr 1504000000 0), (6, .val (.sl .str)), (7, .val (.int .i64)), (47, .val .bool)], [(1504000000, 67, [.mref 1504001000, .mref 1504001001, .val (.cons .str (.cons .str .nil)), .val .bool, .val .bool, .val (.int .i64)]), (1504001000, 64, [.mapd]), (1504001001, 64, [.mapd])]⟩
abbrev chartularylaw08_SheetNodes.l0s : LSh := ⟨[(0, .val (.sl (.cons .str (.cons .str (.cons .str (.cons .bool .nil)))))), (1, .val (.sl (.int .i64))), (5, .ptr 1504000000 0), (6, .val (.sl .str)), (7, .val (.int .i64)), (8, .own 2000008 9 .str), (9, .own 2000009 9 .str), (10, .val (.int .i64))], [(1504000000, 67, [.mref 1504001000, .mref 1504001001, .val (.cons .str (.cons .str .nil)), .val .bool, .val .bool, .val (.int .i64)]), (1504001000, 64, [.mapd]), (1504001001, 64, [.mapd])]⟩
abbrev chartularylaw08_SheetNodes.j2s : LSh := ⟨[(0, .val (.sl (.cons .str (.cons .str (.cons .str (.cons .bool .nil)))))), (1, .val (.sl (.int .i64))), (5, .ptr 1504000000 0), (6, .val (.sl .str)), (8, .own 2000008 9 .str), (9, .own 2000009 9 .str)], [(1504000000, 67, [.mref 1504001000, .mref 1504001001, .val (.cons .str (.cons .str .nil)), .val .bool, .val .bool, .val (.int .i64)]), (1504001000, 64, [.mapd]), (1504001001, 64, [.mapd])]⟩
abbrev chartularylaw08_SheetNodes.l1s : LSh := ⟨[(0, .val (.sl (.cons .str (.cons .str (.cons .str (.cons .bool .nil)))))), (1, .val (.sl (.int .i64))), (5, .ptr 1504000000 0), (6, .val (.sl .str)), (8, .own 2000008 9 .str), (9, .own 2000009 9 .str), (11, .val (.int .i64))], [(1504000000, 67, [.mref 1504001000, .mref 1504001001, .val (.cons .str (.cons .str .nil)), .val .bool, .val .bool, .val (.int .i64)]), (1504001000, 64, [.mapd]), (1504001001, 64, [.mapd])]⟩
noncomputable def chartularylaw08_SheetNodes.labF : Nat → Option (LabF chartularylaw08_SheetNodes.out.den)
  | 11 => some ⟨chartularylaw08_SheetNodes.j0s, fun k (d : ((List (ByteArray × ByteArray × ByteArray × Bool × Unit)) × List Int × Unit × Unit) × ((Unit × Unit × (ByteArray × ByteArray × Unit) × Bool × Bool × Int × Unit) × ((List (ByteArray × ByteArray)) × Unit) × ((List (ByteArray × ByteArray)) × Unit) × Unit)) => (chartularylaw08_SheetNodes.j0 k d.1.1 d.1.2.1 d.2.1.2.2.1 d.2.1.2.2.2.1 d.2.1.2.2.2.2.1 d.2.1.2.2.2.2.2.1 d.2.2.1.1 d.2.2.2.1.1 : Option chartularylaw08_SheetNodes.R)⟩
  | 19 => some ⟨chartularylaw08_SheetNodes.j1s, fun k (d : ((List (ByteArray × ByteArray × ByteArray × Bool × Unit)) × List Int × Unit × List ByteArray × Int × Bool × Unit) × ((Unit × Unit × (ByteArray × ByteArray × Unit) × Bool × Bool × Int × Unit) × ((List (ByteArray × ByteArray)) × Unit) × ((List (ByteArray × ByteArray)) × Unit) × Unit)) => (chartularylaw08_SheetNodes.j1 k d.1.1 d.1.2.1 d.1.2.2.2.1 d.1.2.2.2.2.1 d.1.2.2.2.2.2.1 d.2.1.2.2.1 d.2.1.2.2.2.1 d.2.1.2.2.2.2.1 d.2.1.2.2.2.2.2.1 d.2.2.1.1 d.2.2.2.1.1 : Option chartularylaw08_SheetNodes.R)⟩
  | 26 => some ⟨chartularylaw08_SheetNodes.l0s, fun k (d : ((List (ByteArray × ByteArray × ByteArray × Bool × Unit)) × List Int × Unit × List ByteArray × Int × List ByteArray × List ByteArray × Int × Unit) × ((Unit × Unit × (ByteArray × ByteArray × Unit) × Bool × Bool × Int × Unit) × ((List (ByteArray × ByteArray)) × Unit) × ((List (ByteArray × ByteArray)) × Unit) × Unit)) => (chartularylaw08_SheetNodes.l0 k d.1.1 d.1.2.1 d.1.2.2.2.1 d.1.2.2.2.2.1 d.1.2.2.2.2.2.1 d.1.2.2.2.2.2.2.1 d.1.2.2.2.2.2.2.2.1 d.2.1.2.2.1 d.2.1.2.2.2.1 d.2.1.2.2.2.2.1 d.2.1.2.2.2.2.2.1 d.2.2.1.1 d.2.2.2.1.1 : Option chartularylaw08_SheetNodes.R)⟩
  | 37 => some ⟨chartularylaw08_SheetNodes.j2s, fun k (d : ((List (ByteArray × ByteArray × ByteArray × Bool × Unit)) × List Int × Unit × List ByteArray × List ByteArray × List ByteArray × Unit) × ((Unit × Unit × (ByteArray × ByteArray × Unit) × Bool × Bool × Int × Unit) × ((List (ByteArray × ByteArray)) × Unit) × ((List (ByteArray × ByteArray)) × Unit) × Unit)) => (chartularylaw08_SheetNodes.j2 k d.1.1 d.1.2.1 d.1.2.2.2.1 d.1.2.2.2.2.1 d.1.2.2.2.2.2.1 d.2.1.2.2.1 d.2.1.2.2.2.1 d.2.1.2.2.2.2.1 d.2.1.2.2.2.2.2.1 d.2.2.1.1 d.2.2.2.1.1 : Option chartularylaw08_SheetNodes.R)⟩
  | 38 => some ⟨chartularylaw08_SheetNodes.l1s, fun k (d : ((List (ByteArray × ByteArray × ByteArray × Bool × Unit)) × List Int × Unit × List ByteArray × List ByteArray × List ByteArray × Int × Unit) × ((Unit × Unit × (ByteArray × ByteArray × Unit) × Bool × Bool × Int × Unit) × ((List (ByteArray × ByteArray)) × Unit) × ((List (ByteArray × ByteArray)) × Unit) × Unit)) => (chartularylaw08_SheetNodes.l1 k d.1.1 d.1.2.1 d.1.2.2.2.1 d.1.2.2.2.2.1 d.1.2.2.2.2.2.1 d.1.2.2.2.2.2.2.1 d.2.1.2.2.1 d.2.1.2.2.2.1 d.2.1.2.2.2.2.1 d.2.1.2.2.2.2.2.1 d.2.2.1.1 d.2.2.2.1.1 : Option chartularylaw08_SheetNodes.R)⟩
  | _ => none
noncomputable def chartularylaw08_SheetNodes.fd : FnD := ⟨Try.f6, chartularylaw08_SheetNodes.ini, chartularylaw08_SheetNodes.out, 1, [], [], chartularylaw08_SheetNodes.labF, fun k (d : ((List (ByteArray × ByteArray × ByteArray × Bool × Unit)) × List Int × Unit) × (Unit)) => (chartularylaw08_SheetNodes.f k d.1.1 d.1.2.1 : Option chartularylaw08_SheetNodes.R)⟩

/-! ### mill_With_has : function 27 -/
abbrev mill_With_has.R := (Unit × Int × Unit) × ((Unit × Unit × (ByteArray × ByteArray × Unit) × Bool × Bool × Int × Unit) × ((List (ByteArray × ByteArray)) × Unit) × ((List (ByteArray × ByteArray)) × Unit) × Unit)
mutual
noncomputable def mill_With_has.l0 : Nat → (List (Bool × ByteArray × ByteArray × ByteArray × Unit)) → Int → Int → (ByteArray × ByteArray × Unit) → Bool → Bool → Int → (List (ByteArray × ByteArray)) → (List (ByteArray × ByteArray)) → Option mill_With_has.R
  | 0, _, _, _, _, _, _, _, _, _ => none
  | k + 1, x11, x12, x13, o0_2, o0_3, o0_4, o0_5, o1000_0, o1001_0 =>
    bif decide ((x13 : Int) < x12) then
      (rdo x11 x13).bind fun t2 =>
      bif ((t2.2.2.2.1.size : Int) : Int) != 32 then
        none
      else
        (mill_name.f k t2.1 t2.2.1 t2.2.2.1).bind fun r3 =>
        bif !(mhas r3.1.1 o1000_0) then
          mill_With_has.l0 k x11 x12 (IntKind.wrap .i64 (x13 + 1)) (o0_2.1, (o0_2.2.1, ())) o0_3 o0_4 o0_5 (mput r3.1.1 t2.2.2.2.1 o1000_0) o1001_0
        else
          mill_With_has.l0 k x11 x12 (IntKind.wrap .i64 (x13 + 1)) (o0_2.1, (o0_2.2.1, ())) o0_3 o0_4 o0_5 o1000_0 o1001_0
    else
      some (((), 0, ()), (((), (), (o0_2.1, (o0_2.2.1, ())), o0_3, o0_4, o0_5, ()), (o1000_0, ()), (o1001_0, ()), ()))
noncomputable def mill_With_has.f : Nat → (List (Bool × ByteArray × ByteArray × ByteArray × Unit)) → Option mill_With_has.R
  | 0, _ => none
  | k + 1, x0 =>
    (mill_New.f k).bind fun r1 =>
    mill_With_has.l0 k x0 (x0.length : Int) 0 (r1.2.1.2.2.1.1, (r1.2.1.2.2.1.2.1, ())) r1.2.1.2.2.2.1 r1.2.1.2.2.2.2.1 r1.2.1.2.2.2.2.2.1 r1.2.2.1.1 r1.2.2.2.1.1
end
abbrev mill_With_has.ini : LSh := ⟨[(0, .val (.sl (.cons .bool (.cons .str (.cons .str (.cons .str .nil))))))], []⟩
abbrev mill_With_has.out : LSh := ⟨[(0, .ptr 4000000 0), (1, .val (.int .i64))], [(4000000, 67, [.mref 4001000, .mref 4001001, .val (.cons .str (.cons .str .nil)), .val .bool, .val .bool, .val (.int .i64)]), (4001000, 64, [.mapd]), (4001001, 64, [.mapd])]⟩
abbrev mill_With_has.l0s : LSh := ⟨[(4, .ptr 1104000000 0), (11, .val (.sl (.cons .bool (.cons .str (.cons .str (.cons .str .nil)))))), (12, .val (.int .i64)), (13, .val (.int .i64))], [(1104000000, 67, [.mref 1104001000, .mref 1104001001, .val (.cons .str (.cons .str .nil)), .val .bool, .val .bool, .val (.int .i64)]), (1104001000, 64, [.mapd]), (1104001001, 64, [.mapd])]⟩
noncomputable def mill_With_has.labF : Nat → Option (LabF mill_With_has.out.den)
  | 6 => some ⟨mill_With_has.l0s, fun k (d : (Unit × (List (Bool × ByteArray × ByteArray × ByteArray × Unit)) × Int × Int × Unit) × ((Unit × Unit × (ByteArray × ByteArray × Unit) × Bool × Bool × Int × Unit) × ((List (ByteArray × ByteArray)) × Unit) × ((List (ByteArray × ByteArray)) × Unit) × Unit)) => (mill_With_has.l0 k d.1.2.1 d.1.2.2.1 d.1.2.2.2.1 d.2.1.2.2.1 d.2.1.2.2.2.1 d.2.1.2.2.2.2.1 d.2.1.2.2.2.2.2.1 d.2.2.1.1 d.2.2.2.1.1 : Option mill_With_has.R)⟩
  | _ => none
noncomputable def mill_With_has.fd : FnD := ⟨Try.f27, mill_With_has.ini, mill_With_has.out, 2, [], [], mill_With_has.labF, fun k (d : ((List (Bool × ByteArray × ByteArray × ByteArray × Unit)) × Unit) × (Unit)) => (mill_With_has.f k d.1.1 : Option mill_With_has.R)⟩

/-! ### mill_With_nil : function 27 -/
abbrev mill_With_nil.R := (Unit × Int × Unit) × (Unit)
mutual
noncomputable def mill_With_nil.l0 : Nat → (List (Bool × ByteArray × ByteArray × ByteArray × Unit)) → Int → Int → (ByteArray × ByteArray × Unit) → Bool → Bool → Int → (List (ByteArray × ByteArray)) → (List (ByteArray × ByteArray)) → Option mill_With_nil.R
  | 0, _, _, _, _, _, _, _, _, _ => none
  | k + 1, x11, x12, x13, o0_2, o0_3, o0_4, o0_5, o1000_0, o1001_0 =>
    bif decide ((x13 : Int) < x12) then
      (rdo x11 x13).bind fun t2 =>
      bif ((t2.2.2.2.1.size : Int) : Int) != 32 then
        some (((), 1, ()), (()))
      else
        (mill_name.f k t2.1 t2.2.1 t2.2.2.1).bind fun r3 =>
        bif !(mhas r3.1.1 o1000_0) then
          mill_With_nil.l0 k x11 x12 (IntKind.wrap .i64 (x13 + 1)) (o0_2.1, (o0_2.2.1, ())) o0_3 o0_4 o0_5 (mput r3.1.1 t2.2.2.2.1 o1000_0) o1001_0
        else
          mill_With_nil.l0 k x11 x12 (IntKind.wrap .i64 (x13 + 1)) (o0_2.1, (o0_2.2.1, ())) o0_3 o0_4 o0_5 o1000_0 o1001_0
    else
      none
noncomputable def mill_With_nil.f : Nat → (List (Bool × ByteArray × ByteArray × ByteArray × Unit)) → Option mill_With_nil.R
  | 0, _ => none
  | k + 1, x0 =>
    (mill_New.f k).bind fun r1 =>
    mill_With_nil.l0 k x0 (x0.length : Int) 0 (r1.2.1.2.2.1.1, (r1.2.1.2.2.1.2.1, ())) r1.2.1.2.2.2.1 r1.2.1.2.2.2.2.1 r1.2.1.2.2.2.2.2.1 r1.2.2.1.1 r1.2.2.2.1.1
end
abbrev mill_With_nil.ini : LSh := ⟨[(0, .val (.sl (.cons .bool (.cons .str (.cons .str (.cons .str .nil))))))], []⟩
abbrev mill_With_nil.out : LSh := ⟨[(0, .nilp), (1, .val (.int .i64))], []⟩
abbrev mill_With_nil.l0s : LSh := ⟨[(4, .ptr 1104000000 0), (11, .val (.sl (.cons .bool (.cons .str (.cons .str (.cons .str .nil)))))), (12, .val (.int .i64)), (13, .val (.int .i64))], [(1104000000, 67, [.mref 1104001000, .mref 1104001001, .val (.cons .str (.cons .str .nil)), .val .bool, .val .bool, .val (.int .i64)]), (1104001000, 64, [.mapd]), (1104001001, 64, [.mapd])]⟩
noncomputable def mill_With_nil.labF : Nat → Option (LabF mill_With_nil.out.den)
  | 6 => some ⟨mill_With_nil.l0s, fun k (d : (Unit × (List (Bool × ByteArray × ByteArray × ByteArray × Unit)) × Int × Int × Unit) × ((Unit × Unit × (ByteArray × ByteArray × Unit) × Bool × Bool × Int × Unit) × ((List (ByteArray × ByteArray)) × Unit) × ((List (ByteArray × ByteArray)) × Unit) × Unit)) => (mill_With_nil.l0 k d.1.2.1 d.1.2.2.1 d.1.2.2.2.1 d.2.1.2.2.1 d.2.1.2.2.2.1 d.2.1.2.2.2.2.1 d.2.1.2.2.2.2.2.1 d.2.2.1.1 d.2.2.2.1.1 : Option mill_With_nil.R)⟩
  | _ => none
noncomputable def mill_With_nil.fd : FnD := ⟨Try.f27, mill_With_nil.ini, mill_With_nil.out, 2, [], [], mill_With_nil.labF, fun k (d : ((List (Bool × ByteArray × ByteArray × ByteArray × Unit)) × Unit) × (Unit)) => (mill_With_nil.f k d.1.1 : Option mill_With_nil.R)⟩

/-! ### mill_Mill_Twins : function 28 -/
abbrev mill_Mill_Twins.R := (ByteArray × ByteArray × Bool × Unit) × (Unit)
noncomputable def mill_Mill_Twins.f : Nat → (ByteArray × ByteArray × Unit) → Bool → Bool → Int → (List (ByteArray × ByteArray)) → (List (ByteArray × ByteArray)) → Option mill_Mill_Twins.R
  | 0, _, _, _, _, _, _ => none
  | k + 1, o0_2, o0_3, o0_4, o0_5, o1_0, o2_0 =>
    (mill_Mill_none.f k (o0_2.1, (o0_2.2.1, ())) o0_3 o0_4 o0_5 o1_0 o2_0).bind fun r1 =>
    bif r1.1.1 then
      some (((⟨#[]⟩ : ByteArray), (⟨#[]⟩ : ByteArray), false, ()), (()))
    else
      some ((o0_2.1, o0_2.2.1, o0_3, ()), (()))
abbrev mill_Mill_Twins.ini : LSh := ⟨[(0, .ptr 1000000 0)], [(1000000, 67, [.mref 1000001, .mref 1000002, .val (.cons .str (.cons .str .nil)), .val .bool, .val .bool, .val (.int .i64)]), (1000001, 64, [.mapd]), (1000002, 64, [.mapd])]⟩
abbrev mill_Mill_Twins.out : LSh := ⟨[(0, .val .str), (1, .val .str), (2, .val .bool)], []⟩
noncomputable def mill_Mill_Twins.labF : Nat → Option (LabF mill_Mill_Twins.out.den)
  | _ => none
noncomputable def mill_Mill_Twins.fd : FnD := ⟨Try.f28, mill_Mill_Twins.ini, mill_Mill_Twins.out, 3, [1000000, 1000001, 1000002], [1000000, 1000001, 1000002], mill_Mill_Twins.labF, fun k (d : (Unit × Unit) × ((Unit × Unit × (ByteArray × ByteArray × Unit) × Bool × Bool × Int × Unit) × ((List (ByteArray × ByteArray)) × Unit) × ((List (ByteArray × ByteArray)) × Unit) × Unit)) => (mill_Mill_Twins.f k d.2.1.2.2.1 d.2.1.2.2.2.1 d.2.1.2.2.2.2.1 d.2.1.2.2.2.2.2.1 d.2.2.1.1 d.2.2.2.1.1 : Option mill_Mill_Twins.R)⟩

/-! ### chartularylaw08_SheetApart : function 7 -/
abbrev chartularylaw08_SheetApart.R := (Bool × Unit) × (Unit)
mutual
noncomputable def chartularylaw08_SheetApart.j0 : Nat → (List (Bool × ByteArray × ByteArray × ByteArray × Unit)) → Int → (List Int) → (List ByteArray) → (List ByteArray) → (List ByteArray) → (List ByteArray) → Option chartularylaw08_SheetApart.R
  | 0, _, _, _, _, _, _, _ => none
  | k + 1, x0, x1, x2, x3, x4, x5, x6 =>
    orE (
      (mill_With_has.f k x0).bind fun r1 =>
      bif (r1.1.2.1 : Int) != 0 then
        (chartularylaw08_awake.f k).bind fun r2 =>
        some ((r2.1.1, ()), (()))
      else
      bif decide (((x2.length : Int) : Int) > 12) then
        (chartularylaw08_awake.f k).bind fun r3 =>
        some ((r3.1.1, ()), (()))
      else
      bif decide (((x4.length : Int) : Int) > 20) then
        (chartularylaw08_awake.f k).bind fun r4 =>
        some ((r4.1.1, ()), (()))
      else
      bif decide (((x6.length : Int) : Int) > 20) then
        (chartularylaw08_awake.f k).bind fun r5 =>
        some ((r5.1.1, ()), (()))
      else
      bif ((x3.length : Int) : Int) != (x5.length : Int) then
        (chartularylaw08_awake.f k).bind fun r6 =>
        some ((r6.1.1, ()), (()))
      else
      bif decide (((x3.length : Int) : Int) > 12) then
        (chartularylaw08_awake.f k).bind fun r7 =>
        some ((r7.1.1, ()), (()))
      else
        chartularylaw08_SheetApart.l0 k x1 x2 x3 x4 x5 x6 false 0 (r1.2.1.2.2.1.1, (r1.2.1.2.2.1.2.1, ())) r1.2.1.2.2.2.1 r1.2.1.2.2.2.2.1 r1.2.1.2.2.2.2.2.1 r1.2.2.1.1 r1.2.2.2.1.1) (
      (mill_With_nil.f k x0).bind fun r8 =>
      bif (r8.1.2.1 : Int) != 0 then
        (chartularylaw08_awake.f k).bind fun r9 =>
        some ((r9.1.1, ()), (()))
      else
      bif decide (((x2.length : Int) : Int) > 12) then
        (chartularylaw08_awake.f k).bind fun r10 =>
        some ((r10.1.1, ()), (()))
      else
      bif decide (((x4.length : Int) : Int) > 20) then
        (chartularylaw08_awake.f k).bind fun r11 =>
        some ((r11.1.1, ()), (()))
      else
      bif decide (((x6.length : Int) : Int) > 20) then
        (chartularylaw08_awake.f k).bind fun r12 =>
        some ((r12.1.1, ()), (()))
      else
      bif ((x3.length : Int) : Int) != (x5.length : Int) then
        (chartularylaw08_awake.f k).bind fun r13 =>
        some ((r13.1.1, ()), (()))
      else
      bif decide (((x3.length : Int) : Int) > 12) then
        (chartularylaw08_awake.f k).bind fun r14 =>
        some ((r14.1.1, ()), (()))
      else
        none)
noncomputable def chartularylaw08_SheetApart.l0 : Nat → Int → (List Int) → (List ByteArray) → (List ByteArray) → (List ByteArray) → (List ByteArray) → Bool → Int → (ByteArray × ByteArray × Unit) → Bool → Bool → Int → (List (ByteArray × ByteArray)) → (List (ByteArray × ByteArray)) → Option chartularylaw08_SheetApart.R
  | 0, _, _, _, _, _, _, _, _, _, _, _, _, _, _ => none
  | k + 1, x1, x2, x3, x4, x5, x6, x17, x18, o0_2, o0_3, o0_4, o0_5, o1000_0, o1001_0 =>
    bif decide ((x18 : Int) < (x3.length : Int)) then
      (rdo x3 x18).bind fun t15 =>
      bif ((t15.size : Int) : Int) != 32 then
        (chartularylaw08_awake.f k).bind fun r16 =>
        some ((r16.1.1, ()), (()))
      else
        (rdo x5 x18).bind fun t17 =>
        bif ((t17.size : Int) : Int) != 32 then
          (chartularylaw08_awake.f k).bind fun r18 =>
          some ((r18.1.1, ()), (()))
        else
        bif x17 then
          chartularylaw08_SheetApart.l0 k x1 x2 x3 x4 x5 x6 true (IntKind.wrap .i64 (x18 + 1)) (o0_2.1, (o0_2.2.1, ())) o0_3 o0_4 o0_5 o1000_0 o1001_0
        else
          (rdo x3 x18).bind fun t19 =>
          (rdo x5 x18).bind fun t20 =>
          chartularylaw08_SheetApart.l0 k x1 x2 x3 x4 x5 x6 (!(t19.toList == t20.toList)) (IntKind.wrap .i64 (x18 + 1)) (o0_2.1, (o0_2.2.1, ())) o0_3 o0_4 o0_5 o1000_0 o1001_0
    else
      (sheet_Rebuild.f k x1 x2 x3 x4 (o0_2.1, (o0_2.2.1, ())) o0_3 o0_4 o0_5 o1000_0 o1001_0).bind fun r21 =>
      (sheet_Rebuild.f k x1 x2 x5 x6 (r21.2.1.2.2.1.1, (r21.2.1.2.2.1.2.1, ())) r21.2.1.2.2.2.1 r21.2.1.2.2.2.2.1 r21.2.1.2.2.2.2.2.1 o1000_0 r21.2.2.1.1).bind fun r22 =>
      (mill_Mill_Twins.f k (r22.2.1.2.2.1.1, (r22.2.1.2.2.1.2.1, ())) r22.2.1.2.2.2.1 r22.2.1.2.2.2.2.1 r22.2.1.2.2.2.2.2.1 o1000_0 r22.2.2.1.1).bind fun r23 =>
      bif (r21.1.2.1 : Int) != 0 then
        (chartularylaw08_awake.f k).bind fun r24 =>
        some ((r24.1.1, ()), (()))
      else
      bif (r22.1.2.1 : Int) != 0 then
        (chartularylaw08_awake.f k).bind fun r25 =>
        some ((r25.1.1, ()), (()))
      else
      bif !(r21.1.1.toList == r22.1.1.toList) then
        (chartularylaw08_awake.f k).bind fun r26 =>
        some ((r26.1.1, ()), (()))
      else
      bif !x17 then
        (chartularylaw08_awake.f k).bind fun r27 =>
        some ((r27.1.1, ()), (()))
      else
      bif r23.1.2.2.1 then
        bif !(r23.1.1.toList == r23.1.2.1.toList) then
          (chartularylaw08_awake.f k).bind fun r28 =>
          some ((r28.1.1, ()), (()))
        else
          some ((false, ()), (()))
      else
        some ((false, ()), (()))
noncomputable def chartularylaw08_SheetApart.f : Nat → (List (Bool × ByteArray × ByteArray × ByteArray × Unit)) → Int → (List Int) → (List ByteArray) → (List ByteArray) → (List ByteArray) → (List ByteArray) → Option chartularylaw08_SheetApart.R
  | 0, _, _, _, _, _, _, _ => none
  | k + 1, x0, x1, x2, x3, x4, x5, x6 =>
    bif decide (((x0.length : Int) : Int) > 10) then
      (ck (decide (0 ≤ 0) && decide (0 ≤ 10) && decide (10 ≤ (x0.length : Int)))).bind fun _ =>
      chartularylaw08_SheetApart.j0 k ((x0.take (10 : Int).toNat).drop (0 : Int).toNat) x1 x2 x3 x4 x5 x6
    else
      chartularylaw08_SheetApart.j0 k x0 x1 x2 x3 x4 x5 x6
end
abbrev chartularylaw08_SheetApart.ini : LSh := ⟨[(0, .val (.sl (.cons .bool (.cons .str (.cons .str (.cons .str .nil)))))), (1, .val (.int .i64)), (2, .val (.sl (.int .i64))), (3, .val (.sl .str)), (4, .val (.sl .str)), (5, .val (.sl .str)), (6, .val (.sl .str))], []⟩
abbrev chartularylaw08_SheetApart.out : LSh := ⟨[(0, .val .bool)], []⟩
abbrev chartularylaw08_SheetApart.j0s : LSh := ⟨[(0, .val (.sl (.cons .bool (.cons .str (.cons .str (.cons .str .nil)))))), (1, .val (.int .i64)), (2, .val (.sl (.int .i64))), (3, .val (.sl .str)), (4, .val (.sl .str)), (5, .val (.sl .str)), (6, .val (.sl .str))], []⟩
abbrev chartularylaw08_SheetApart.l0s : LSh := ⟨[(1, .val (.int .i64)), (2, .val (.sl (.int .i64))), (3, .val (.sl .str)), (4, .val (.sl .str)), (5, .val (.sl .str)), (6, .val (.sl .str)), (15, .ptr 3404000000 0), (17, .val .bool), (18, .val (.int .i64))], [(3404000000, 67, [.mref 3404001000, .mref 3404001001, .val (.cons .str (.cons .str .nil)), .val .bool, .val .bool, .val (.int .i64)]), (3404001000, 64, [.mapd]), (3404001001, 64, [.mapd])]⟩
noncomputable def chartularylaw08_SheetApart.labF : Nat → Option (LabF chartularylaw08_SheetApart.out.den)
  | 7 => some ⟨chartularylaw08_SheetApart.j0s, fun k (d : ((List (Bool × ByteArray × ByteArray × ByteArray × Unit)) × Int × List Int × List ByteArray × List ByteArray × List ByteArray × List ByteArray × Unit) × (Unit)) => (chartularylaw08_SheetApart.j0 k d.1.1 d.1.2.1 d.1.2.2.1 d.1.2.2.2.1 d.1.2.2.2.2.1 d.1.2.2.2.2.2.1 d.1.2.2.2.2.2.2.1 : Option chartularylaw08_SheetApart.R)⟩
  | 16 => some ⟨chartularylaw08_SheetApart.l0s, fun k (d : (Int × List Int × List ByteArray × List ByteArray × List ByteArray × List ByteArray × Unit × Bool × Int × Unit) × ((Unit × Unit × (ByteArray × ByteArray × Unit) × Bool × Bool × Int × Unit) × ((List (ByteArray × ByteArray)) × Unit) × ((List (ByteArray × ByteArray)) × Unit) × Unit)) => (chartularylaw08_SheetApart.l0 k d.1.1 d.1.2.1 d.1.2.2.1 d.1.2.2.2.1 d.1.2.2.2.2.1 d.1.2.2.2.2.2.1 d.1.2.2.2.2.2.2.2.1 d.1.2.2.2.2.2.2.2.2.1 d.2.1.2.2.1 d.2.1.2.2.2.1 d.2.1.2.2.2.2.1 d.2.1.2.2.2.2.2.1 d.2.2.1.1 d.2.2.2.1.1 : Option chartularylaw08_SheetApart.R)⟩
  | _ => none
noncomputable def chartularylaw08_SheetApart.fd : FnD := ⟨Try.f7, chartularylaw08_SheetApart.ini, chartularylaw08_SheetApart.out, 1, [], [], chartularylaw08_SheetApart.labF, fun k (d : ((List (Bool × ByteArray × ByteArray × ByteArray × Unit)) × Int × List Int × List ByteArray × List ByteArray × List ByteArray × List ByteArray × Unit) × (Unit)) => (chartularylaw08_SheetApart.f k d.1.1 d.1.2.1 d.1.2.2.1 d.1.2.2.2.1 d.1.2.2.2.2.1 d.1.2.2.2.2.2.1 d.1.2.2.2.2.2.2.1 : Option chartularylaw08_SheetApart.R)⟩

noncomputable def Γ (k : Nat) : Gam := [(8, [mill_New.fd.sp k]), (9, [chartularylaw08_few.fd.sp k]), (48, [sha_New.fd.sp k]), (55, [bits_RotateLeft32.fd.sp k]), (54, [sha_turn.fd.sp k]), (52, [sha_words.fd.sp k]), (53, [sha_rounds.fd.sp k]), (51, [sha_State_mix.fd.sp k]), (49, [sha_State_Write.fd.sp k]), (50, [sha_State_Sum.fd.sp k]), (43, [sha_Sum.fd.sp k]), (40, [mill_name.fd.sp k]), (41, [mill_Mill_none.fd.sp k]), (44, [mill_Mill_note.fd.sp k]), (37, [mill_Mill_Sum.fd.sp k]), (19, [pledge_Leaf.fd.sp k]), (17, [octet_Num.fd.sp k]), (20, [octet_Text.fd.sp k]), (10, [sheet_Leaf.fd.sp k]), (11, [chartularylaw08_leaf.fd.sp k]), (29, [pledge_None.fd.sp k]), (30, [chartularylaw07_below.fd.sp k]), (31, [pledge_Node.fd.sp k]), (12, [chartularylaw07_Root.fd.sp k]), (13, [chartularylaw08_leaves.fd.sp k]), (42, [merkle_split.fd.sp k]), (32, [merkle_Root.fd.sp k]), (33, [sheet_leaves.fd.sp k]), (14, [sheet_Root.fd.sp k]), (25, [sheet_Rising.fd.sp k]), (45, [sheet_picked.fd.sp k]), (47, [sheet_split.fd.sp k]), (39, [sheet_gather.fd.sp k]), (24, [sheet_Nodes.fd.sp k]), (15, [chartularylaw08_awake.fd.sp k]), (3, [chartularylaw08_SheetRoots.fd.sp k]), (34, [octet_Writer_Text.fd.sp k]), (35, [octet_Writer_Num.fd.sp k]), (36, [octet_Writer_All.fd.sp k]), (16, [sheet_Paper.fd.sp k]), (18, [sheet_Entry.fd.sp k]), (4, [chartularylaw08_SheetPapers.fd.sp k]), (46, [sheet_next_v1.fd.sp k, sheet_next_v2.fd.sp k]), (46, [sheet_next_v1.fd.sp k, sheet_next_v2.fd.sp k]), (38, [sheet_walker_root.fd.sp k]), (21, [sheet_Rebuild.fd.sp k]), (22, [chartularylaw08_rising.fd.sp k]), (23, [chartularylaw08_plain_build.fd.sp k]), (5, [chartularylaw08_SheetBuilds.fd.sp k]), (26, [chartularylaw08_beside.fd.sp k]), (6, [chartularylaw08_SheetNodes.fd.sp k]), (27, [mill_With_has.fd.sp k, mill_With_nil.fd.sp k]), (27, [mill_With_has.fd.sp k, mill_With_nil.fd.sp k]), (28, [mill_Mill_Twins.fd.sp k]), (7, [chartularylaw08_SheetApart.fd.sp k])]
end Go.Proofs.Ytdeboaknhkffpaa.E
