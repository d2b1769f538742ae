import Derived.Test.YtoceopdoedmgoaaEDefs0
namespace Go.Proofs.Ytoceopdoedmgoaa.E
open Go Go.Proofs.Ytoceopdoedmgoaa.Eng Go.Proofs
set_option linter.unusedVariables false
set_option maxRecDepth 100000
/-! ### pledge_Node : function 37 -/
abbrev pledge_Node.R := (ByteArray × Unit) × ((Unit × Unit × (ByteArray × ByteArray × Unit) × Bool × Bool × Int × Unit) × ((List (ByteArray × ByteArray)) × Unit) × Unit)
noncomputable def pledge_Node.f : Nat → ByteArray → ByteArray → (ByteArray × ByteArray × Unit) → Bool → Bool → Int → (List (ByteArray × ByteArray)) → (List (ByteArray × ByteArray)) → Option pledge_Node.R
  | 0, _, _, _, _, _, _, _, _ => none
  | k + 1, x1, x2, o0_2, o0_3, o0_4, o0_5, o1_0, o2_0 =>
    (ck (decide ((⟨#[1]⟩ : ByteArray).size + x1.size ≤ 9223372036854775807))).bind fun _ =>
    (ck (decide (((⟨#[1]⟩ : ByteArray) ++ x1).size + x2.size ≤ 9223372036854775807))).bind fun _ =>
    (mill_Mill_Sum.f k (((⟨#[1]⟩ : ByteArray) ++ x1) ++ x2) (o0_2.1, (o0_2.2.1, ())) o0_3 o0_4 o0_5 o1_0 o2_0).bind fun r1 =>
    some ((r1.1.1, ()), (((), (), (r1.2.1.2.2.1.1, (r1.2.1.2.2.1.2.1, ())), r1.2.1.2.2.2.1, r1.2.1.2.2.2.2.1, r1.2.1.2.2.2.2.2.1, ()), (r1.2.2.1.1, ()), ()))
abbrev pledge_Node.ini : LSh := ⟨[(0, .ptr 1000000 0), (1, .val .str), (2, .val .str)], [(1000000, 64, [.mref 1000001, .mref 1000002, .val (.cons .str (.cons .str .nil)), .val .bool, .val .bool, .val (.int .i64)]), (1000001, 61, [.mapd]), (1000002, 61, [.mapd])]⟩
abbrev pledge_Node.out : LSh := ⟨[(0, .val .str)], [(1000000, 64, [.mref 1000001, .mref 1000002, .val (.cons .str (.cons .str .nil)), .val .bool, .val .bool, .val (.int .i64)]), (1000002, 61, [.mapd])]⟩
noncomputable def pledge_Node.labF : Nat → Option (LabF pledge_Node.out.den)
  | _ => none
noncomputable def pledge_Node.fd : FnD := ⟨Try.f37, pledge_Node.ini, pledge_Node.out, 1, [1000000, 1000001, 1000002], [1000001], pledge_Node.labF, fun k (d : (Unit × ByteArray × ByteArray × Unit) × ((Unit × Unit × (ByteArray × ByteArray × Unit) × Bool × Bool × Int × Unit) × ((List (ByteArray × ByteArray)) × Unit) × ((List (ByteArray × ByteArray)) × Unit) × Unit)) => (pledge_Node.f k d.1.2.1 d.1.2.2.1 d.2.1.2.2.1 d.2.1.2.2.2.1 d.2.1.2.2.2.2.1 d.2.1.2.2.2.2.2.1 d.2.2.1.1 d.2.2.2.1.1 : Option pledge_Node.R)⟩

/-! ### merkle_Root : function 18 -/
abbrev merkle_Root.R := (ByteArray × Unit) × ((Unit × Unit × (ByteArray × ByteArray × Unit) × Bool × Bool × Int × Unit) × ((List (ByteArray × ByteArray)) × Unit) × Unit)
noncomputable def merkle_Root.f : Nat → (List ByteArray) → (ByteArray × ByteArray × Unit) → Bool → Bool → Int → (List (ByteArray × ByteArray)) → (List (ByteArray × ByteArray)) → Option merkle_Root.R
  | 0, _, _, _, _, _, _, _ => none
  | k + 1, x1, o0_2, o0_3, o0_4, o0_5, o1_0, o2_0 =>
    bif ((x1.length : Int) : Int) == 0 then
      (pledge_None.f k (o0_2.1, (o0_2.2.1, ())) o0_3 o0_4 o0_5 o1_0 o2_0).bind fun r1 =>
      some ((r1.1.1, ()), (((), (), (r1.2.1.2.2.1.1, (r1.2.1.2.2.1.2.1, ())), r1.2.1.2.2.2.1, r1.2.1.2.2.2.2.1, r1.2.1.2.2.2.2.2.1, ()), (r1.2.2.1.1, ()), ()))
    else
    bif ((x1.length : Int) : Int) == 1 then
      (rdo x1 0).bind fun t2 =>
      some ((t2, ()), (((), (), (o0_2.1, (o0_2.2.1, ())), o0_3, o0_4, o0_5, ()), (o2_0, ()), ()))
    else
      (merkle_split.f k (x1.length : Int)).bind fun r3 =>
      (ck (decide (0 ≤ 0) && decide (0 ≤ r3.1.1) && decide (r3.1.1 ≤ r3.1.1) && decide (r3.1.1 ≤ (x1.length : Int)))).bind fun _ =>
      (merkle_Root.f k ((x1.take (r3.1.1 : Int).toNat).drop (0 : Int).toNat) (o0_2.1, (o0_2.2.1, ())) o0_3 o0_4 o0_5 o1_0 o2_0).bind fun r4 =>
      (ck (decide (0 ≤ r3.1.1) && decide (r3.1.1 ≤ (x1.length : Int)) && decide ((x1.length : Int) ≤ (x1.length : Int)))).bind fun _ =>
      (merkle_Root.f k ((x1.take (x1.length : Int).toNat).drop (r3.1.1 : Int).toNat) (r4.2.1.2.2.1.1, (r4.2.1.2.2.1.2.1, ())) r4.2.1.2.2.2.1 r4.2.1.2.2.2.2.1 r4.2.1.2.2.2.2.2.1 o1_0 r4.2.2.1.1).bind fun r5 =>
      (pledge_Node.f k r4.1.1 r5.1.1 (r5.2.1.2.2.1.1, (r5.2.1.2.2.1.2.1, ())) r5.2.1.2.2.2.1 r5.2.1.2.2.2.2.1 r5.2.1.2.2.2.2.2.1 o1_0 r5.2.2.1.1).bind fun r6 =>
      some ((r6.1.1, ()), (((), (), (r6.2.1.2.2.1.1, (r6.2.1.2.2.1.2.1, ())), r6.2.1.2.2.2.1, r6.2.1.2.2.2.2.1, r6.2.1.2.2.2.2.2.1, ()), (r6.2.2.1.1, ()), ()))
abbrev merkle_Root.ini : LSh := ⟨[(0, .ptr 1000000 0), (1, .val (.sl .str))], [(1000000, 64, [.mref 1000001, .mref 1000002, .val (.cons .str (.cons .str .nil)), .val .bool, .val .bool, .val (.int .i64)]), (1000001, 61, [.mapd]), (1000002, 61, [.mapd])]⟩
abbrev merkle_Root.out : LSh := ⟨[(0, .val .str)], [(1000000, 64, [.mref 1000001, .mref 1000002, .val (.cons .str (.cons .str .nil)), .val .bool, .val .bool, .val (.int .i64)]), (1000002, 61, [.mapd])]⟩
noncomputable def merkle_Root.labF : Nat → Option (LabF merkle_Root.out.den)
  | _ => none
noncomputable def merkle_Root.fd : FnD := ⟨Try.f18, merkle_Root.ini, merkle_Root.out, 1, [1000000, 1000001, 1000002], [1000001], merkle_Root.labF, fun k (d : (Unit × List ByteArray × Unit) × ((Unit × Unit × (ByteArray × ByteArray × Unit) × Bool × Bool × Int × Unit) × ((List (ByteArray × ByteArray)) × Unit) × ((List (ByteArray × ByteArray)) × Unit) × Unit)) => (merkle_Root.f k d.1.2.1 d.2.1.2.2.1 d.2.1.2.2.2.1 d.2.1.2.2.2.2.1 d.2.1.2.2.2.2.2.1 d.2.2.1.1 d.2.2.2.1.1 : Option merkle_Root.R)⟩

/-! ### merkle_Path : function 13 -/
abbrev merkle_Path.R := (List ByteArray × Int × Unit) × ((Unit × Unit × (ByteArray × ByteArray × Unit) × Bool × Bool × Int × Unit) × ((List (ByteArray × ByteArray)) × Unit) × Unit)
mutual
noncomputable def merkle_Path.j0 : Nat → (List ByteArray) → Int → (ByteArray × ByteArray × Unit) → Bool → Bool → Int → (List (ByteArray × ByteArray)) → (List (ByteArray × ByteArray)) → Option merkle_Path.R
  | 0, _, _, _, _, _, _, _, _ => none
  | k + 1, x1, x2, o0_2, o0_3, o0_4, o0_5, o1_0, o2_0 =>
    bif ((x1.length : Int) : Int) == 1 then
      some (([], 0, ()), (((), (), (o0_2.1, (o0_2.2.1, ())), o0_3, o0_4, o0_5, ()), (o2_0, ()), ()))
    else
      (merkle_split.f k (x1.length : Int)).bind fun r1 =>
      bif decide ((x2 : Int) < r1.1.1) then
        (ck (decide (0 ≤ 0) && decide (0 ≤ r1.1.1) && decide (r1.1.1 ≤ (x1.length : Int)))).bind fun _ =>
        (merkle_Path.f k ((x1.take (r1.1.1 : Int).toNat).drop (0 : Int).toNat) x2 (o0_2.1, (o0_2.2.1, ())) o0_3 o0_4 o0_5 o1_0 o2_0).bind fun r2 =>
        (ck (decide (0 ≤ r1.1.1) && decide (r1.1.1 ≤ (x1.length : Int)) && decide ((x1.length : Int) ≤ (x1.length : Int)))).bind fun _ =>
        (merkle_Root.f k ((x1.take (x1.length : Int).toNat).drop (r1.1.1 : Int).toNat) (r2.2.1.2.2.1.1, (r2.2.1.2.2.1.2.1, ())) r2.2.1.2.2.2.1 r2.2.1.2.2.2.2.1 r2.2.1.2.2.2.2.2.1 o1_0 r2.2.2.1.1).bind fun r3 =>
        (ck (decide ((r2.1.1.length + ([r3.1.1] : List ByteArray).length) * 16 ≤ 70368744177664))).bind fun _ =>
        some ((r2.1.1 ++ ([r3.1.1] : List ByteArray), 0, ()), (((), (), (r3.2.1.2.2.1.1, (r3.2.1.2.2.1.2.1, ())), r3.2.1.2.2.2.1, r3.2.1.2.2.2.2.1, r3.2.1.2.2.2.2.2.1, ()), (r3.2.2.1.1, ()), ()))
      else
        (ck (decide (0 ≤ r1.1.1) && decide (r1.1.1 ≤ (x1.length : Int)) && decide ((x1.length : Int) ≤ (x1.length : Int)))).bind fun _ =>
        (merkle_Path.f k ((x1.take (x1.length : Int).toNat).drop (r1.1.1 : Int).toNat) (IntKind.wrap .i64 (x2 - r1.1.1)) (o0_2.1, (o0_2.2.1, ())) o0_3 o0_4 o0_5 o1_0 o2_0).bind fun r4 =>
        (ck (decide (0 ≤ 0) && decide (0 ≤ r1.1.1) && decide (r1.1.1 ≤ (x1.length : Int)))).bind fun _ =>
        (merkle_Root.f k ((x1.take (r1.1.1 : Int).toNat).drop (0 : Int).toNat) (r4.2.1.2.2.1.1, (r4.2.1.2.2.1.2.1, ())) r4.2.1.2.2.2.1 r4.2.1.2.2.2.2.1 r4.2.1.2.2.2.2.2.1 o1_0 r4.2.2.1.1).bind fun r5 =>
        (ck (decide ((r4.1.1.length + ([r5.1.1] : List ByteArray).length) * 16 ≤ 70368744177664))).bind fun _ =>
        some ((r4.1.1 ++ ([r5.1.1] : List ByteArray), 0, ()), (((), (), (r5.2.1.2.2.1.1, (r5.2.1.2.2.1.2.1, ())), r5.2.1.2.2.2.1, r5.2.1.2.2.2.2.1, r5.2.1.2.2.2.2.2.1, ()), (r5.2.2.1.1, ()), ()))
noncomputable def merkle_Path.f : Nat → (List ByteArray) → Int → (ByteArray × ByteArray × Unit) → Bool → Bool → Int → (List (ByteArray × ByteArray)) → (List (ByteArray × ByteArray)) → Option merkle_Path.R
  | 0, _, _, _, _, _, _, _, _ => none
  | k + 1, x1, x2, o0_2, o0_3, o0_4, o0_5, o1_0, o2_0 =>
    bif decide ((x2 : Int) < 0) then
      some (([], 7, ()), (((), (), (o0_2.1, (o0_2.2.1, ())), o0_3, o0_4, o0_5, ()), (o2_0, ()), ()))
    else
    bif decide ((x2 : Int) ≥ (x1.length : Int)) then
      some (([], 7, ()), (((), (), (o0_2.1, (o0_2.2.1, ())), o0_3, o0_4, o0_5, ()), (o2_0, ()), ()))
    else
      merkle_Path.j0 k x1 x2 (o0_2.1, (o0_2.2.1, ())) o0_3 o0_4 o0_5 o1_0 o2_0
end
abbrev merkle_Path.ini : LSh := ⟨[(0, .ptr 1000000 0), (1, .val (.sl .str)), (2, .val (.int .i64))], [(1000000, 64, [.mref 1000001, .mref 1000002, .val (.cons .str (.cons .str .nil)), .val .bool, .val .bool, .val (.int .i64)]), (1000001, 61, [.mapd]), (1000002, 61, [.mapd])]⟩
abbrev merkle_Path.out : LSh := ⟨[(0, .own 5000000 9 .str), (1, .val (.int .i64))], [(1000000, 64, [.mref 1000001, .mref 1000002, .val (.cons .str (.cons .str .nil)), .val .bool, .val .bool, .val (.int .i64)]), (1000002, 61, [.mapd])]⟩
abbrev merkle_Path.j0s : LSh := ⟨[(0, .ptr 1000000 0), (1, .val (.sl .str)), (2, .val (.int .i64))], [(1000000, 64, [.mref 1000001, .mref 1000002, .val (.cons .str (.cons .str .nil)), .val .bool, .val .bool, .val (.int .i64)]), (1000001, 61, [.mapd]), (1000002, 61, [.mapd])]⟩
noncomputable def merkle_Path.labF : Nat → Option (LabF merkle_Path.out.den)
  | 7 => some ⟨merkle_Path.j0s, fun k (d : (Unit × List ByteArray × Int × Unit) × ((Unit × Unit × (ByteArray × ByteArray × Unit) × Bool × Bool × Int × Unit) × ((List (ByteArray × ByteArray)) × Unit) × ((List (ByteArray × ByteArray)) × Unit) × Unit)) => (merkle_Path.j0 k d.1.2.1 d.1.2.2.1 d.2.1.2.2.1 d.2.1.2.2.2.1 d.2.1.2.2.2.2.1 d.2.1.2.2.2.2.2.1 d.2.2.1.1 d.2.2.2.1.1 : Option merkle_Path.R)⟩
  | _ => none
noncomputable def merkle_Path.fd : FnD := ⟨Try.f13, merkle_Path.ini, merkle_Path.out, 2, [1000000, 1000001, 1000002], [1000001], merkle_Path.labF, fun k (d : (Unit × List ByteArray × Int × Unit) × ((Unit × Unit × (ByteArray × ByteArray × Unit) × Bool × Bool × Int × Unit) × ((List (ByteArray × ByteArray)) × Unit) × ((List (ByteArray × ByteArray)) × Unit) × Unit)) => (merkle_Path.f k d.1.2.1 d.1.2.2.1 d.2.1.2.2.1 d.2.1.2.2.2.1 d.2.1.2.2.2.2.1 d.2.1.2.2.2.2.2.1 d.2.2.1.1 d.2.2.2.1.1 : Option merkle_Path.R)⟩

/-! ### chartularylaw07_awake : function 14 -/
abbrev chartularylaw07_awake.R := (Bool × Unit) × (Unit)
noncomputable def chartularylaw07_awake.f : Nat → Option chartularylaw07_awake.R
  | 0 => none
  | k + 1 =>
    (mill_New.f k).bind fun r1 =>
    (pledge_Leaf.f k (⟨#[97]⟩ : ByteArray) (r1.2.1.2.2.1.1, (r1.2.1.2.2.1.2.1, ())) r1.2.1.2.2.2.1 r1.2.1.2.2.2.2.1 r1.2.1.2.2.2.2.2.1 r1.2.2.1.1 r1.2.2.2.1.1).bind fun r2 =>
    (pledge_Leaf.f k (⟨#[98]⟩ : ByteArray) (r2.2.1.2.2.1.1, (r2.2.1.2.2.1.2.1, ())) r2.2.1.2.2.2.1 r2.2.1.2.2.2.2.1 r2.2.1.2.2.2.2.2.1 r1.2.2.1.1 r2.2.2.1.1).bind fun r3 =>
    (pledge_Leaf.f k (⟨#[99]⟩ : ByteArray) (r3.2.1.2.2.1.1, (r3.2.1.2.2.1.2.1, ())) r3.2.1.2.2.2.1 r3.2.1.2.2.2.2.1 r3.2.1.2.2.2.2.2.1 r1.2.2.1.1 r3.2.2.1.1).bind fun r4 =>
    (merkle_Path.f k ([r2.1.1, r3.1.1, r4.1.1] : List ByteArray) 2 (r4.2.1.2.2.1.1, (r4.2.1.2.2.1.2.1, ())) r4.2.1.2.2.2.1 r4.2.1.2.2.2.2.1 r4.2.1.2.2.2.2.2.1 r1.2.2.1.1 r4.2.2.1.1).bind fun r5 =>
    bif (r5.1.2.1 : Int) == 0 then
      bif ((r5.1.1.length : Int) : Int) == 1 then
        (rdo r5.1.1 0).bind fun t6 =>
        bif ((t6.size : Int) : Int) == 32 then
          (rdo r5.1.1 0).bind fun t7 =>
          (rdo ([r2.1.1, r3.1.1, r4.1.1] : List ByteArray) 0).bind fun t8 =>
          (rdo ([r2.1.1, r3.1.1, r4.1.1] : List ByteArray) 1).bind fun t9 =>
          (pledge_Node.f k t8 t9 (r5.2.1.2.2.1.1, (r5.2.1.2.2.1.2.1, ())) r5.2.1.2.2.2.1 r5.2.1.2.2.2.2.1 r5.2.1.2.2.2.2.2.1 r1.2.2.1.1 r5.2.2.1.1).bind fun r10 =>
          bif t7.toList == r10.1.1.toList then
            (merkle_Root.f k ([r2.1.1, r3.1.1, r4.1.1] : List ByteArray) (r10.2.1.2.2.1.1, (r10.2.1.2.2.1.2.1, ())) r10.2.1.2.2.2.1 r10.2.1.2.2.2.2.1 r10.2.1.2.2.2.2.2.1 r1.2.2.1.1 r10.2.2.1.1).bind fun r11 =>
            (rdo r5.1.1 0).bind fun t12 =>
            (rdo ([r2.1.1, r3.1.1, r4.1.1] : List ByteArray) 2).bind fun t13 =>
            (pledge_Node.f k t12 t13 (r11.2.1.2.2.1.1, (r11.2.1.2.2.1.2.1, ())) r11.2.1.2.2.2.1 r11.2.1.2.2.2.2.1 r11.2.1.2.2.2.2.2.1 r1.2.2.1.1 r11.2.2.1.1).bind fun r14 =>
            some ((r11.1.1.toList == r14.1.1.toList, ()), (()))
          else
            some ((false, ()), (()))
        else
          some ((false, ()), (()))
      else
        some ((false, ()), (()))
    else
      some ((false, ()), (()))
abbrev chartularylaw07_awake.ini : LSh := ⟨[], []⟩
abbrev chartularylaw07_awake.out : LSh := ⟨[(0, .val .bool)], []⟩
noncomputable def chartularylaw07_awake.labF : Nat → Option (LabF chartularylaw07_awake.out.den)
  | _ => none
noncomputable def chartularylaw07_awake.fd : FnD := ⟨Try.f14, chartularylaw07_awake.ini, chartularylaw07_awake.out, 1, [], [], chartularylaw07_awake.labF, fun k (d : (Unit) × (Unit)) => (chartularylaw07_awake.f k : Option chartularylaw07_awake.R)⟩

/-! ### merkle_sums : function 38 -/
abbrev merkle_sums.R := (Bool × Unit) × (Unit)
mutual
noncomputable def merkle_sums.l0 : Nat → (List ByteArray) → Int → Int → Option merkle_sums.R
  | 0, _, _, _ => none
  | k + 1, x5, x6, x7 =>
    bif decide ((x7 : Int) < x6) then
      (rdo x5 x7).bind fun t1 =>
      bif ((t1.size : Int) : Int) != 32 then
        some ((false, ()), (()))
      else
        merkle_sums.l0 k x5 x6 (IntKind.wrap .i64 (x7 + 1))
    else
      some ((true, ()), (()))
noncomputable def merkle_sums.f : Nat → (List ByteArray) → Option merkle_sums.R
  | 0, _ => none
  | k + 1, x0 =>
    merkle_sums.l0 k x0 (x0.length : Int) 0
end
abbrev merkle_sums.ini : LSh := ⟨[(0, .val (.sl .str))], []⟩
abbrev merkle_sums.out : LSh := ⟨[(0, .val .bool)], []⟩
abbrev merkle_sums.l0s : LSh := ⟨[(5, .val (.sl .str)), (6, .val (.int .i64)), (7, .val (.int .i64))], []⟩
noncomputable def merkle_sums.labF : Nat → Option (LabF merkle_sums.out.den)
  | 4 => some ⟨merkle_sums.l0s, fun k (d : (List ByteArray × Int × Int × Unit) × (Unit)) => (merkle_sums.l0 k d.1.1 d.1.2.1 d.1.2.2.1 : Option merkle_sums.R)⟩
  | _ => none
noncomputable def merkle_sums.fd : FnD := ⟨Try.f38, merkle_sums.ini, merkle_sums.out, 1, [], [], merkle_sums.labF, fun k (d : (List ByteArray × Unit) × (Unit)) => (merkle_sums.f k d.1.1 : Option merkle_sums.R)⟩

/-! ### merkle_climb : function 39 -/
abbrev merkle_climb.R := (ByteArray × Bool × Unit) × ((Unit × Unit × (ByteArray × ByteArray × Unit) × Bool × Bool × Int × Unit) × ((List (ByteArray × ByteArray)) × Unit) × Unit)
noncomputable def merkle_climb.f : Nat → ByteArray → Int → Int → (List ByteArray) → (ByteArray × ByteArray × Unit) → Bool → Bool → Int → (List (ByteArray × ByteArray)) → (List (ByteArray × ByteArray)) → Option merkle_climb.R
  | 0, _, _, _, _, _, _, _, _, _, _ => none
  | k + 1, x1, x2, x3, x4, o0_2, o0_3, o0_4, o0_5, o1_0, o2_0 =>
    bif (x3 : Int) == 1 then
      some ((x1, ((x4.length : Int) : Int) == 0, ()), (((), (), (o0_2.1, (o0_2.2.1, ())), o0_3, o0_4, o0_5, ()), (o2_0, ()), ()))
    else
    bif ((x4.length : Int) : Int) == 0 then
      some (((⟨#[]⟩ : ByteArray), false, ()), (((), (), (o0_2.1, (o0_2.2.1, ())), o0_3, o0_4, o0_5, ()), (o2_0, ()), ()))
    else
      (merkle_split.f k x3).bind fun r1 =>
      (rdo x4 (IntKind.wrap .i64 ((x4.length : Int) - 1))).bind fun t2 =>
      (ck (decide (0 ≤ 0) && decide (0 ≤ IntKind.wrap .i64 ((x4.length : Int) - 1)) && decide (IntKind.wrap .i64 ((x4.length : Int) - 1) ≤ (x4.length : Int)))).bind fun _ =>
      bif decide ((x2 : Int) < r1.1.1) then
        (merkle_climb.f k x1 x2 r1.1.1 ((x4.take (IntKind.wrap .i64 ((x4.length : Int) - 1) : Int).toNat).drop (0 : Int).toNat) (o0_2.1, (o0_2.2.1, ())) o0_3 o0_4 o0_5 o1_0 o2_0).bind fun r3 =>
        (pledge_Node.f k r3.1.1 t2 (r3.2.1.2.2.1.1, (r3.2.1.2.2.1.2.1, ())) r3.2.1.2.2.2.1 r3.2.1.2.2.2.2.1 r3.2.1.2.2.2.2.2.1 o1_0 r3.2.2.1.1).bind fun r4 =>
        some ((r4.1.1, r3.1.2.1, ()), (((), (), (r4.2.1.2.2.1.1, (r4.2.1.2.2.1.2.1, ())), r4.2.1.2.2.2.1, r4.2.1.2.2.2.2.1, r4.2.1.2.2.2.2.2.1, ()), (r4.2.2.1.1, ()), ()))
      else
        (merkle_climb.f k x1 (IntKind.wrap .i64 (x2 - r1.1.1)) (IntKind.wrap .i64 (x3 - r1.1.1)) ((x4.take (IntKind.wrap .i64 ((x4.length : Int) - 1) : Int).toNat).drop (0 : Int).toNat) (o0_2.1, (o0_2.2.1, ())) o0_3 o0_4 o0_5 o1_0 o2_0).bind fun r5 =>
        (pledge_Node.f k t2 r5.1.1 (r5.2.1.2.2.1.1, (r5.2.1.2.2.1.2.1, ())) r5.2.1.2.2.2.1 r5.2.1.2.2.2.2.1 r5.2.1.2.2.2.2.2.1 o1_0 r5.2.2.1.1).bind fun r6 =>
        some ((r6.1.1, r5.1.2.1, ()), (((), (), (r6.2.1.2.2.1.1, (r6.2.1.2.2.1.2.1, ())), r6.2.1.2.2.2.1, r6.2.1.2.2.2.2.1, r6.2.1.2.2.2.2.2.1, ()), (r6.2.2.1.1, ()), ()))
abbrev merkle_climb.ini : LSh := ⟨[(0, .ptr 1000000 0), (1, .val .str), (2, .val (.int .i64)), (3, .val (.int .i64)), (4, .val (.sl .str))], [(1000000, 64, [.mref 1000001, .mref 1000002, .val (.cons .str (.cons .str .nil)), .val .bool, .val .bool, .val (.int .i64)]), (1000001, 61, [.mapd]), (1000002, 61, [.mapd])]⟩
abbrev merkle_climb.out : LSh := ⟨[(0, .val .str), (1, .val .bool)], [(1000000, 64, [.mref 1000001, .mref 1000002, .val (.cons .str (.cons .str .nil)), .val .bool, .val .bool, .val (.int .i64)]), (1000002, 61, [.mapd])]⟩
noncomputable def merkle_climb.labF : Nat → Option (LabF merkle_climb.out.den)
  | _ => none
noncomputable def merkle_climb.fd : FnD := ⟨Try.f39, merkle_climb.ini, merkle_climb.out, 2, [1000000, 1000001, 1000002], [1000001], merkle_climb.labF, fun k (d : (Unit × ByteArray × Int × Int × List ByteArray × Unit) × ((Unit × Unit × (ByteArray × ByteArray × Unit) × Bool × Bool × Int × Unit) × ((List (ByteArray × ByteArray)) × Unit) × ((List (ByteArray × ByteArray)) × Unit) × Unit)) => (merkle_climb.f k d.1.2.1 d.1.2.2.1 d.1.2.2.2.1 d.1.2.2.2.2.1 d.2.1.2.2.1 d.2.1.2.2.2.1 d.2.1.2.2.2.2.1 d.2.1.2.2.2.2.2.1 d.2.2.1.1 d.2.2.2.1.1 : Option merkle_climb.R)⟩

/-! ### merkle_Climb : function 15 -/
abbrev merkle_Climb.R := (ByteArray × Int × Unit) × ((Unit × Unit × (ByteArray × ByteArray × Unit) × Bool × Bool × Int × Unit) × ((List (ByteArray × ByteArray)) × Unit) × Unit)
mutual
noncomputable def merkle_Climb.j0 : Nat → ByteArray → Int → Int → (List ByteArray) → (ByteArray × ByteArray × Unit) → Bool → Bool → Int → (List (ByteArray × ByteArray)) → (List (ByteArray × ByteArray)) → Option merkle_Climb.R
  | 0, _, _, _, _, _, _, _, _, _, _ => none
  | k + 1, x1, x2, x3, x4, o0_2, o0_3, o0_4, o0_5, o1_0, o2_0 =>
    (merkle_climb.f k x1 x2 x3 x4 (o0_2.1, (o0_2.2.1, ())) o0_3 o0_4 o0_5 o1_0 o2_0).bind fun r3 =>
    bif !r3.1.2.1 then
      some (((⟨#[]⟩ : ByteArray), 20, ()), (((), (), (r3.2.1.2.2.1.1, (r3.2.1.2.2.1.2.1, ())), r3.2.1.2.2.2.1, r3.2.1.2.2.2.2.1, r3.2.1.2.2.2.2.2.1, ()), (r3.2.2.1.1, ()), ()))
    else
      some ((r3.1.1, 0, ()), (((), (), (r3.2.1.2.2.1.1, (r3.2.1.2.2.1.2.1, ())), r3.2.1.2.2.2.1, r3.2.1.2.2.2.2.1, r3.2.1.2.2.2.2.2.1, ()), (r3.2.2.1.1, ()), ()))
noncomputable def merkle_Climb.f : Nat → ByteArray → Int → Int → (List ByteArray) → (ByteArray × ByteArray × Unit) → Bool → Bool → Int → (List (ByteArray × ByteArray)) → (List (ByteArray × ByteArray)) → Option merkle_Climb.R
  | 0, _, _, _, _, _, _, _, _, _, _ => none
  | k + 1, x1, x2, x3, x4, o0_2, o0_3, o0_4, o0_5, o1_0, o2_0 =>
    bif decide ((x3 : Int) < 1) then
      some (((⟨#[]⟩ : ByteArray), 21, ()), (((), (), (o0_2.1, (o0_2.2.1, ())), o0_3, o0_4, o0_5, ()), (o2_0, ()), ()))
    else
    bif decide ((x3 : Int) > 65536) then
      some (((⟨#[]⟩ : ByteArray), 21, ()), (((), (), (o0_2.1, (o0_2.2.1, ())), o0_3, o0_4, o0_5, ()), (o2_0, ()), ()))
    else
    bif decide ((x2 : Int) < 0) then
      some (((⟨#[]⟩ : ByteArray), 21, ()), (((), (), (o0_2.1, (o0_2.2.1, ())), o0_3, o0_4, o0_5, ()), (o2_0, ()), ()))
    else
    bif decide ((x2 : Int) ≥ x3) then
      some (((⟨#[]⟩ : ByteArray), 21, ()), (((), (), (o0_2.1, (o0_2.2.1, ())), o0_3, o0_4, o0_5, ()), (o2_0, ()), ()))
    else
    bif decide (((x4.length : Int) : Int) > 16) then
      some (((⟨#[]⟩ : ByteArray), 20, ()), (((), (), (o0_2.1, (o0_2.2.1, ())), o0_3, o0_4, o0_5, ()), (o2_0, ()), ()))
    else
      (merkle_sums.f k ([x1] : List ByteArray)).bind fun r1 =>
      bif !r1.1.1 then
        some (((⟨#[]⟩ : ByteArray), 20, ()), (((), (), (o0_2.1, (o0_2.2.1, ())), o0_3, o0_4, o0_5, ()), (o2_0, ()), ()))
      else
        (merkle_sums.f k x4).bind fun r2 =>
        bif !r2.1.1 then
          some (((⟨#[]⟩ : ByteArray), 20, ()), (((), (), (o0_2.1, (o0_2.2.1, ())), o0_3, o0_4, o0_5, ()), (o2_0, ()), ()))
        else
          merkle_Climb.j0 k x1 x2 x3 x4 (o0_2.1, (o0_2.2.1, ())) o0_3 o0_4 o0_5 o1_0 o2_0
end
abbrev merkle_Climb.ini : LSh := ⟨[(0, .ptr 1000000 0), (1, .val .str), (2, .val (.int .i64)), (3, .val (.int .i64)), (4, .val (.sl .str))], [(1000000, 64, [.mref 1000001, .mref 1000002, .val (.cons .str (.cons .str .nil)), .val .bool, .val .bool, .val (.int .i64)]), (1000001, 61, [.mapd]), (1000002, 61, [.mapd])]⟩
abbrev merkle_Climb.out : LSh := ⟨[(0, .val .str), (1, .val (.int .i64))], [(1000000, 64, [.mref 1000001, .mref 1000002, .val (.cons .str (.cons .str .nil)), .val .bool, .val .bool, .val (.int .i64)]), (1000002, 61, [.mapd])]⟩
abbrev merkle_Climb.j0s : LSh := ⟨[(0, .ptr 1000000 0), (1, .val .str), (2, .val (.int .i64)), (3, .val (.int .i64)), (4, .val (.sl .str))], [(1000000, 64, [.mref 1000001, .mref 1000002, .val (.cons .str (.cons .str .nil)), .val .bool, .val .bool, .val (.int .i64)]), (1000001, 61, [.mapd]), (1000002, 61, [.mapd])]⟩
noncomputable def merkle_Climb.labF : Nat → Option (LabF merkle_Climb.out.den)
  | 11 => some ⟨merkle_Climb.j0s, fun k (d : (Unit × ByteArray × Int × Int × List ByteArray × Unit) × ((Unit × Unit × (ByteArray × ByteArray × Unit) × Bool × Bool × Int × Unit) × ((List (ByteArray × ByteArray)) × Unit) × ((List (ByteArray × ByteArray)) × Unit) × Unit)) => (merkle_Climb.j0 k d.1.2.1 d.1.2.2.1 d.1.2.2.2.1 d.1.2.2.2.2.1 d.2.1.2.2.1 d.2.1.2.2.2.1 d.2.1.2.2.2.2.1 d.2.1.2.2.2.2.2.1 d.2.2.1.1 d.2.2.2.1.1 : Option merkle_Climb.R)⟩
  | _ => none
noncomputable def merkle_Climb.fd : FnD := ⟨Try.f15, merkle_Climb.ini, merkle_Climb.out, 2, [1000000, 1000001, 1000002], [1000001], merkle_Climb.labF, fun k (d : (Unit × ByteArray × Int × Int × List ByteArray × Unit) × ((Unit × Unit × (ByteArray × ByteArray × Unit) × Bool × Bool × Int × Unit) × ((List (ByteArray × ByteArray)) × Unit) × ((List (ByteArray × ByteArray)) × Unit) × Unit)) => (merkle_Climb.f k d.1.2.1 d.1.2.2.1 d.1.2.2.2.1 d.1.2.2.2.2.1 d.2.1.2.2.1 d.2.1.2.2.2.1 d.2.1.2.2.2.2.1 d.2.1.2.2.2.2.2.1 d.2.2.1.1 d.2.2.2.1.1 : Option merkle_Climb.R)⟩

/-! ### chartularylaw07_same : function 16 -/
abbrev chartularylaw07_same.R := (Bool × Unit) × (Unit)
mutual
noncomputable def chartularylaw07_same.l0 : Nat → (List ByteArray) → (List ByteArray) → Int → Option chartularylaw07_same.R
  | 0, _, _, _ => none
  | k + 1, x0, x1, x5 =>
    bif decide ((x5 : Int) < (x0.length : Int)) then
      (rdo x0 x5).bind fun t1 =>
      (rdo x1 x5).bind fun t2 =>
      bif !(t1.toList == t2.toList) then
        some ((false, ()), (()))
      else
        chartularylaw07_same.l0 k x0 x1 (IntKind.wrap .i64 (x5 + 1))
    else
      some ((true, ()), (()))
noncomputable def chartularylaw07_same.f : Nat → (List ByteArray) → (List ByteArray) → Option chartularylaw07_same.R
  | 0, _, _ => none
  | k + 1, x0, x1 =>
    bif ((x0.length : Int) : Int) != (x1.length : Int) then
      some ((false, ()), (()))
    else
      chartularylaw07_same.l0 k x0 x1 0
end
abbrev chartularylaw07_same.ini : LSh := ⟨[(0, .val (.sl .str)), (1, .val (.sl .str))], []⟩
abbrev chartularylaw07_same.out : LSh := ⟨[(0, .val .bool)], []⟩
abbrev chartularylaw07_same.l0s : LSh := ⟨[(0, .val (.sl .str)), (1, .val (.sl .str)), (5, .val (.int .i64))], []⟩
noncomputable def chartularylaw07_same.labF : Nat → Option (LabF chartularylaw07_same.out.den)
  | 8 => some ⟨chartularylaw07_same.l0s, fun k (d : (List ByteArray × List ByteArray × Int × Unit) × (Unit)) => (chartularylaw07_same.l0 k d.1.1 d.1.2.1 d.1.2.2.1 : Option chartularylaw07_same.R)⟩
  | _ => none
noncomputable def chartularylaw07_same.fd : FnD := ⟨Try.f16, chartularylaw07_same.ini, chartularylaw07_same.out, 1, [], [], chartularylaw07_same.labF, fun k (d : (List ByteArray × List ByteArray × Unit) × (Unit)) => (chartularylaw07_same.f k d.1.1 d.1.2.1 : Option chartularylaw07_same.R)⟩

/-! ### chartularylaw07_below : function 40 -/
abbrev chartularylaw07_below.R := (Int × Unit) × (Unit)
mutual
noncomputable def chartularylaw07_below.l0 : Nat → Int → Int → Option chartularylaw07_below.R
  | 0, _, _ => none
  | k + 1, x0, x3 =>
    bif decide ((IntKind.wrap .i64 (2 * x3) : Int) < x0) then
      chartularylaw07_below.l0 k x0 (IntKind.wrap .i64 (2 * x3))
    else
      some ((x3, ()), (()))
noncomputable def chartularylaw07_below.f : Nat → Int → Option chartularylaw07_below.R
  | 0, _ => none
  | k + 1, x0 =>
    chartularylaw07_below.l0 k x0 1
end
abbrev chartularylaw07_below.ini : LSh := ⟨[(0, .val (.int .i64))], []⟩
abbrev chartularylaw07_below.out : LSh := ⟨[(0, .val (.int .i64))], []⟩
abbrev chartularylaw07_below.l0s : LSh := ⟨[(0, .val (.int .i64)), (3, .val (.int .i64))], []⟩
noncomputable def chartularylaw07_below.labF : Nat → Option (LabF chartularylaw07_below.out.den)
  | 4 => some ⟨chartularylaw07_below.l0s, fun k (d : (Int × Int × Unit) × (Unit)) => (chartularylaw07_below.l0 k d.1.1 d.1.2.1 : Option chartularylaw07_below.R)⟩
  | _ => none
noncomputable def chartularylaw07_below.fd : FnD := ⟨Try.f40, chartularylaw07_below.ini, chartularylaw07_below.out, 1, [], [], chartularylaw07_below.labF, fun k (d : (Int × Unit) × (Unit)) => (chartularylaw07_below.f k d.1.1 : Option chartularylaw07_below.R)⟩

/-! ### chartularylaw07_Root : function 27 -/
abbrev chartularylaw07_Root.R := (ByteArray × Unit) × ((Unit × Unit × (ByteArray × ByteArray × Unit) × Bool × Bool × Int × Unit) × ((List (ByteArray × ByteArray)) × Unit) × Unit)
noncomputable def chartularylaw07_Root.f : Nat → (List ByteArray) → (ByteArray × ByteArray × Unit) → Bool → Bool → Int → (List (ByteArray × ByteArray)) → (List (ByteArray × ByteArray)) → Option chartularylaw07_Root.R
  | 0, _, _, _, _, _, _, _ => none
  | k + 1, x1, o0_2, o0_3, o0_4, o0_5, o1_0, o2_0 =>
    bif ((x1.length : Int) : Int) == 0 then
      (pledge_None.f k (o0_2.1, (o0_2.2.1, ())) o0_3 o0_4 o0_5 o1_0 o2_0).bind fun r1 =>
      some ((r1.1.1, ()), (((), (), (r1.2.1.2.2.1.1, (r1.2.1.2.2.1.2.1, ())), r1.2.1.2.2.2.1, r1.2.1.2.2.2.2.1, r1.2.1.2.2.2.2.2.1, ()), (r1.2.2.1.1, ()), ()))
    else
    bif ((x1.length : Int) : Int) == 1 then
      (rdo x1 0).bind fun t2 =>
      some ((t2, ()), (((), (), (o0_2.1, (o0_2.2.1, ())), o0_3, o0_4, o0_5, ()), (o2_0, ()), ()))
    else
      (chartularylaw07_below.f k (x1.length : Int)).bind fun r3 =>
      (ck (decide (0 ≤ 0) && decide (0 ≤ r3.1.1) && decide (r3.1.1 ≤ (x1.length : Int)))).bind fun _ =>
      (chartularylaw07_Root.f k ((x1.take (r3.1.1 : Int).toNat).drop (0 : Int).toNat) (o0_2.1, (o0_2.2.1, ())) o0_3 o0_4 o0_5 o1_0 o2_0).bind fun r4 =>
      (ck (decide (0 ≤ r3.1.1) && decide (r3.1.1 ≤ (x1.length : Int)) && decide ((x1.length : Int) ≤ (x1.length : Int)))).bind fun _ =>
      (chartularylaw07_Root.f k ((x1.take (x1.length : Int).toNat).drop (r3.1.1 : Int).toNat) (r4.2.1.2.2.1.1, (r4.2.1.2.2.1.2.1, ())) r4.2.1.2.2.2.1 r4.2.1.2.2.2.2.1 r4.2.1.2.2.2.2.2.1 o1_0 r4.2.2.1.1).bind fun r5 =>
      (pledge_Node.f k r4.1.1 r5.1.1 (r5.2.1.2.2.1.1, (r5.2.1.2.2.1.2.1, ())) r5.2.1.2.2.2.1 r5.2.1.2.2.2.2.1 r5.2.1.2.2.2.2.2.1 o1_0 r5.2.2.1.1).bind fun r6 =>
      some ((r6.1.1, ()), (((), (), (r6.2.1.2.2.1.1, (r6.2.1.2.2.1.2.1, ())), r6.2.1.2.2.2.1, r6.2.1.2.2.2.2.1, r6.2.1.2.2.2.2.2.1, ()), (r6.2.2.1.1, ()), ()))
abbrev chartularylaw07_Root.ini : LSh := ⟨[(0, .ptr 1000000 0), (1, .val (.sl .str))], [(1000000, 64, [.mref 1000001, .mref 1000002, .val (.cons .str (.cons .str .nil)), .val .bool, .val .bool, .val (.int .i64)]), (1000001, 61, [.mapd]), (1000002, 61, [.mapd])]⟩
abbrev chartularylaw07_Root.out : LSh := ⟨[(0, .val .str)], [(1000000, 64, [.mref 1000001, .mref 1000002, .val (.cons .str (.cons .str .nil)), .val .bool, .val .bool, .val (.int .i64)]), (1000002, 61, [.mapd])]⟩
noncomputable def chartularylaw07_Root.labF : Nat → Option (LabF chartularylaw07_Root.out.den)
  | _ => none
noncomputable def chartularylaw07_Root.fd : FnD := ⟨Try.f27, chartularylaw07_Root.ini, chartularylaw07_Root.out, 1, [1000000, 1000001, 1000002], [1000001], chartularylaw07_Root.labF, fun k (d : (Unit × List ByteArray × Unit) × ((Unit × Unit × (ByteArray × ByteArray × Unit) × Bool × Bool × Int × Unit) × ((List (ByteArray × ByteArray)) × Unit) × ((List (ByteArray × ByteArray)) × Unit) × Unit)) => (chartularylaw07_Root.f k d.1.2.1 d.2.1.2.2.1 d.2.1.2.2.2.1 d.2.1.2.2.2.2.1 d.2.1.2.2.2.2.2.1 d.2.2.1.1 d.2.2.2.1.1 : Option chartularylaw07_Root.R)⟩

/-! ### chartularylaw07_Path : function 17 -/
abbrev chartularylaw07_Path.R := (List ByteArray × Unit) × ((Unit × Unit × (ByteArray × ByteArray × Unit) × Bool × Bool × Int × Unit) × ((List (ByteArray × ByteArray)) × Unit) × Unit)
noncomputable def chartularylaw07_Path.f : Nat → (List ByteArray) → Int → (ByteArray × ByteArray × Unit) → Bool → Bool → Int → (List (ByteArray × ByteArray)) → (List (ByteArray × ByteArray)) → Option chartularylaw07_Path.R
  | 0, _, _, _, _, _, _, _, _ => none
  | k + 1, x1, x2, o0_2, o0_3, o0_4, o0_5, o1_0, o2_0 =>
    bif decide (((x1.length : Int) : Int) < 2) then
      some (([], ()), (((), (), (o0_2.1, (o0_2.2.1, ())), o0_3, o0_4, o0_5, ()), (o2_0, ()), ()))
    else
      (chartularylaw07_below.f k (x1.length : Int)).bind fun r1 =>
      bif decide ((x2 : Int) < r1.1.1) then
        (ck (decide (0 ≤ 0) && decide (0 ≤ r1.1.1) && decide (r1.1.1 ≤ (x1.length : Int)))).bind fun _ =>
        (chartularylaw07_Path.f k ((x1.take (r1.1.1 : Int).toNat).drop (0 : Int).toNat) x2 (o0_2.1, (o0_2.2.1, ())) o0_3 o0_4 o0_5 o1_0 o2_0).bind fun r2 =>
        (ck (decide (0 ≤ r1.1.1) && decide (r1.1.1 ≤ (x1.length : Int)) && decide ((x1.length : Int) ≤ (x1.length : Int)))).bind fun _ =>
        (chartularylaw07_Root.f k ((x1.take (x1.length : Int).toNat).drop (r1.1.1 : Int).toNat) (r2.2.1.2.2.1.1, (r2.2.1.2.2.1.2.1, ())) r2.2.1.2.2.2.1 r2.2.1.2.2.2.2.1 r2.2.1.2.2.2.2.2.1 o1_0 r2.2.2.1.1).bind fun r3 =>
        (ck (decide ((r2.1.1.length + ([r3.1.1] : List ByteArray).length) * 16 ≤ 70368744177664))).bind fun _ =>
        some ((r2.1.1 ++ ([r3.1.1] : List ByteArray), ()), (((), (), (r3.2.1.2.2.1.1, (r3.2.1.2.2.1.2.1, ())), r3.2.1.2.2.2.1, r3.2.1.2.2.2.2.1, r3.2.1.2.2.2.2.2.1, ()), (r3.2.2.1.1, ()), ()))
      else
        (ck (decide (0 ≤ r1.1.1) && decide (r1.1.1 ≤ (x1.length : Int)) && decide ((x1.length : Int) ≤ (x1.length : Int)))).bind fun _ =>
        (chartularylaw07_Path.f k ((x1.take (x1.length : Int).toNat).drop (r1.1.1 : Int).toNat) (IntKind.wrap .i64 (x2 - r1.1.1)) (o0_2.1, (o0_2.2.1, ())) o0_3 o0_4 o0_5 o1_0 o2_0).bind fun r4 =>
        (ck (decide (0 ≤ 0) && decide (0 ≤ r1.1.1) && decide (r1.1.1 ≤ (x1.length : Int)))).bind fun _ =>
        (chartularylaw07_Root.f k ((x1.take (r1.1.1 : Int).toNat).drop (0 : Int).toNat) (r4.2.1.2.2.1.1, (r4.2.1.2.2.1.2.1, ())) r4.2.1.2.2.2.1 r4.2.1.2.2.2.2.1 r4.2.1.2.2.2.2.2.1 o1_0 r4.2.2.1.1).bind fun r5 =>
        (ck (decide ((r4.1.1.length + ([r5.1.1] : List ByteArray).length) * 16 ≤ 70368744177664))).bind fun _ =>
        some ((r4.1.1 ++ ([r5.1.1] : List ByteArray), ()), (((), (), (r5.2.1.2.2.1.1, (r5.2.1.2.2.1.2.1, ())), r5.2.1.2.2.2.1, r5.2.1.2.2.2.2.1, r5.2.1.2.2.2.2.2.1, ()), (r5.2.2.1.1, ()), ()))
abbrev chartularylaw07_Path.ini : LSh := ⟨[(0, .ptr 1000000 0), (1, .val (.sl .str)), (2, .val (.int .i64))], [(1000000, 64, [.mref 1000001, .mref 1000002, .val (.cons .str (.cons .str .nil)), .val .bool, .val .bool, .val (.int .i64)]), (1000001, 61, [.mapd]), (1000002, 61, [.mapd])]⟩
abbrev chartularylaw07_Path.out : LSh := ⟨[(0, .own 5000000 9 .str)], [(1000000, 64, [.mref 1000001, .mref 1000002, .val (.cons .str (.cons .str .nil)), .val .bool, .val .bool, .val (.int .i64)]), (1000002, 61, [.mapd])]⟩
noncomputable def chartularylaw07_Path.labF : Nat → Option (LabF chartularylaw07_Path.out.den)
  | _ => none
noncomputable def chartularylaw07_Path.fd : FnD := ⟨Try.f17, chartularylaw07_Path.ini, chartularylaw07_Path.out, 1, [1000000, 1000001, 1000002], [1000001], chartularylaw07_Path.labF, fun k (d : (Unit × List ByteArray × Int × Unit) × ((Unit × Unit × (ByteArray × ByteArray × Unit) × Bool × Bool × Int × Unit) × ((List (ByteArray × ByteArray)) × Unit) × ((List (ByteArray × ByteArray)) × Unit) × Unit)) => (chartularylaw07_Path.f k d.1.2.1 d.1.2.2.1 d.2.1.2.2.1 d.2.1.2.2.2.1 d.2.1.2.2.2.2.1 d.2.1.2.2.2.2.2.1 d.2.2.1.1 d.2.2.2.1.1 : Option chartularylaw07_Path.R)⟩

/-! ### chartularylaw07_MerklePaths : function 3 -/
abbrev chartularylaw07_MerklePaths.R := (Bool × Unit) × (Unit)
mutual
noncomputable def chartularylaw07_MerklePaths.j0 : Nat → Int → (List ByteArray) → (List ByteArray) → Int → Bool → (ByteArray × ByteArray × Unit) → Bool → Bool → Int → (List (ByteArray × ByteArray)) → (List (ByteArray × ByteArray)) → Option chartularylaw07_MerklePaths.R
  | 0, _, _, _, _, _, _, _, _, _, _, _ => none
  | k + 1, x1, x6, x7, x8, x29, o0_2, o0_3, o0_4, o0_5, o1000_0, o1001_0 =>
    bif x29 then
      bif ((x7.length : Int) : Int) == 0 then
        bif (x8 : Int) == 7 then
          (chartularylaw07_awake.f k).bind fun r4 =>
          some ((r4.1.1, ()), (()))
        else
          some ((false, ()), (()))
      else
        some ((false, ()), (()))
    else
      (rdo x6 x1).bind fun t5 =>
      (merkle_Climb.f k t5 x1 (x6.length : Int) x7 (o0_2.1, (o0_2.2.1, ())) o0_3 o0_4 o0_5 o1000_0 o1001_0).bind fun r6 =>
      bif (x8 : Int) == 0 then
        (chartularylaw07_Path.f k x6 x1 (r6.2.1.2.2.1.1, (r6.2.1.2.2.1.2.1, ())) r6.2.1.2.2.2.1 r6.2.1.2.2.2.2.1 r6.2.1.2.2.2.2.2.1 o1000_0 r6.2.2.1.1).bind fun r7 =>
        (chartularylaw07_same.f k x7 r7.1.1).bind fun r8 =>
        bif r8.1.1 then
          bif (r6.1.2.1 : Int) == 0 then
            (merkle_Root.f k x6 (r7.2.1.2.2.1.1, (r7.2.1.2.2.1.2.1, ())) r7.2.1.2.2.2.1 r7.2.1.2.2.2.2.1 r7.2.1.2.2.2.2.2.1 o1000_0 r7.2.2.1.1).bind fun r9 =>
            bif r6.1.1.toList == r9.1.1.toList then
              (chartularylaw07_awake.f k).bind fun r10 =>
              some ((r10.1.1, ()), (()))
            else
              some ((false, ()), (()))
          else
            some ((false, ()), (()))
        else
          some ((false, ()), (()))
      else
        some ((false, ()), (()))
noncomputable def chartularylaw07_MerklePaths.f : Nat → (List ByteArray) → Int → Option chartularylaw07_MerklePaths.R
  | 0, _, _ => none
  | k + 1, x0, x1 =>
    (mill_New.f k).bind fun r1 =>
    (chartularylaw07_Leaves.f k x0 (r1.2.1.2.2.1.1, (r1.2.1.2.2.1.2.1, ())) r1.2.1.2.2.2.1 r1.2.1.2.2.2.2.1 r1.2.1.2.2.2.2.2.1 r1.2.2.1.1 r1.2.2.2.1.1).bind fun r2 =>
    (merkle_Path.f k r2.1.1 x1 (r2.2.1.2.2.1.1, (r2.2.1.2.2.1.2.1, ())) r2.2.1.2.2.2.1 r2.2.1.2.2.2.2.1 r2.2.1.2.2.2.2.2.1 r1.2.2.1.1 r2.2.2.1.1).bind fun r3 =>
    bif decide ((x1 : Int) < 0) then
      chartularylaw07_MerklePaths.j0 k x1 r2.1.1 r3.1.1 r3.1.2.1 true (r3.2.1.2.2.1.1, (r3.2.1.2.2.1.2.1, ())) r3.2.1.2.2.2.1 r3.2.1.2.2.2.2.1 r3.2.1.2.2.2.2.2.1 r1.2.2.1.1 r3.2.2.1.1
    else
      chartularylaw07_MerklePaths.j0 k x1 r2.1.1 r3.1.1 r3.1.2.1 (decide ((x1 : Int) ≥ (r2.1.1.length : Int))) (r3.2.1.2.2.1.1, (r3.2.1.2.2.1.2.1, ())) r3.2.1.2.2.2.1 r3.2.1.2.2.2.2.1 r3.2.1.2.2.2.2.2.1 r1.2.2.1.1 r3.2.2.1.1
end
abbrev chartularylaw07_MerklePaths.ini : LSh := ⟨[(0, .val (.sl .str)), (1, .val (.int .i64))], []⟩
abbrev chartularylaw07_MerklePaths.out : LSh := ⟨[(0, .val .bool)], []⟩
abbrev chartularylaw07_MerklePaths.j0s : LSh := ⟨[(1, .val (.int .i64)), (5, .ptr 1204000000 0), (6, .val (.sl .str)), (7, .own 2000007 9 .str), (8, .val (.int .i64)), (29, .val .bool)], [(1204000000, 64, [.mref 1204001000, .mref 1204001001, .val (.cons .str (.cons .str .nil)), .val .bool, .val .bool, .val (.int .i64)]), (1204001000, 61, [.mapd]), (1204001001, 61, [.mapd])]⟩
noncomputable def chartularylaw07_MerklePaths.labF : Nat → Option (LabF chartularylaw07_MerklePaths.out.den)
  | 11 => some ⟨chartularylaw07_MerklePaths.j0s, fun k (d : (Int × Unit × List ByteArray × List ByteArray × Int × Bool × Unit) × ((Unit × Unit × (ByteArray × ByteArray × Unit) × Bool × Bool × Int × Unit) × ((List (ByteArray × ByteArray)) × Unit) × ((List (ByteArray × ByteArray)) × Unit) × Unit)) => (chartularylaw07_MerklePaths.j0 k d.1.1 d.1.2.2.1 d.1.2.2.2.1 d.1.2.2.2.2.1 d.1.2.2.2.2.2.1 d.2.1.2.2.1 d.2.1.2.2.2.1 d.2.1.2.2.2.2.1 d.2.1.2.2.2.2.2.1 d.2.2.1.1 d.2.2.2.1.1 : Option chartularylaw07_MerklePaths.R)⟩
  | _ => none
noncomputable def chartularylaw07_MerklePaths.fd : FnD := ⟨Try.f3, chartularylaw07_MerklePaths.ini, chartularylaw07_MerklePaths.out, 1, [], [], chartularylaw07_MerklePaths.labF, fun k (d : (List ByteArray × Int × Unit) × (Unit)) => (chartularylaw07_MerklePaths.f k d.1.1 d.1.2.1 : Option chartularylaw07_MerklePaths.R)⟩

/-! ### chartularylaw07_sums : function 19 -/
abbrev chartularylaw07_sums.R := (Bool × Unit) × (Unit)
mutual
noncomputable def chartularylaw07_sums.l0 : Nat → (List ByteArray) → Int → Option chartularylaw07_sums.R
  | 0, _, _ => none
  | k + 1, x0, x3 =>
    bif decide ((x3 : Int) < (x0.length : Int)) then
      (rdo x0 x3).bind fun t1 =>
      bif ((t1.size : Int) : Int) != 32 then
        some ((false, ()), (()))
      else
        chartularylaw07_sums.l0 k x0 (IntKind.wrap .i64 (x3 + 1))
    else
      some ((true, ()), (()))
noncomputable def chartularylaw07_sums.f : Nat → (List ByteArray) → Option chartularylaw07_sums.R
  | 0, _ => none
  | k + 1, x0 =>
    chartularylaw07_sums.l0 k x0 0
end
abbrev chartularylaw07_sums.ini : LSh := ⟨[(0, .val (.sl .str))], []⟩
abbrev chartularylaw07_sums.out : LSh := ⟨[(0, .val .bool)], []⟩
abbrev chartularylaw07_sums.l0s : LSh := ⟨[(0, .val (.sl .str)), (3, .val (.int .i64))], []⟩
noncomputable def chartularylaw07_sums.labF : Nat → Option (LabF chartularylaw07_sums.out.den)
  | 4 => some ⟨chartularylaw07_sums.l0s, fun k (d : (List ByteArray × Int × Unit) × (Unit)) => (chartularylaw07_sums.l0 k d.1.1 d.1.2.1 : Option chartularylaw07_sums.R)⟩
  | _ => none
noncomputable def chartularylaw07_sums.fd : FnD := ⟨Try.f19, chartularylaw07_sums.ini, chartularylaw07_sums.out, 1, [], [], chartularylaw07_sums.labF, fun k (d : (List ByteArray × Unit) × (Unit)) => (chartularylaw07_sums.f k d.1.1 : Option chartularylaw07_sums.R)⟩

/-! ### chartularylaw07_Depth : function 20 -/
abbrev chartularylaw07_Depth.R := (Int × Unit) × (Unit)
mutual
noncomputable def chartularylaw07_Depth.l0 : Nat → Int → Int → Int → Option chartularylaw07_Depth.R
  | 0, _, _, _ => none
  | k + 1, x0, x1, x5 =>
    bif decide ((x1 : Int) > 1) then
      (chartularylaw07_below.f k x1).bind fun r1 =>
      bif decide ((x0 : Int) < r1.1.1) then
        chartularylaw07_Depth.l0 k x0 r1.1.1 (IntKind.wrap .i64 (x5 + 1))
      else
        chartularylaw07_Depth.l0 k (IntKind.wrap .i64 (x0 - r1.1.1)) (IntKind.wrap .i64 (x1 - r1.1.1)) (IntKind.wrap .i64 (x5 + 1))
    else
      some ((x5, ()), (()))
noncomputable def chartularylaw07_Depth.f : Nat → Int → Int → Option chartularylaw07_Depth.R
  | 0, _, _ => none
  | k + 1, x0, x1 =>
    chartularylaw07_Depth.l0 k x0 x1 0
end
abbrev chartularylaw07_Depth.ini : LSh := ⟨[(0, .val (.int .i64)), (1, .val (.int .i64))], []⟩
abbrev chartularylaw07_Depth.out : LSh := ⟨[(0, .val (.int .i64))], []⟩
abbrev chartularylaw07_Depth.l0s : LSh := ⟨[(0, .val (.int .i64)), (1, .val (.int .i64)), (5, .val (.int .i64))], []⟩
noncomputable def chartularylaw07_Depth.labF : Nat → Option (LabF chartularylaw07_Depth.out.den)
  | 4 => some ⟨chartularylaw07_Depth.l0s, fun k (d : (Int × Int × Int × Unit) × (Unit)) => (chartularylaw07_Depth.l0 k d.1.1 d.1.2.1 d.1.2.2.1 : Option chartularylaw07_Depth.R)⟩
  | _ => none
noncomputable def chartularylaw07_Depth.fd : FnD := ⟨Try.f20, chartularylaw07_Depth.ini, chartularylaw07_Depth.out, 1, [], [], chartularylaw07_Depth.labF, fun k (d : (Int × Int × Unit) × (Unit)) => (chartularylaw07_Depth.f k d.1.1 d.1.2.1 : Option chartularylaw07_Depth.R)⟩

/-! ### chartularylaw07_Climb : function 21 -/
abbrev chartularylaw07_Climb.R := (ByteArray × Unit) × ((Unit × Unit × (ByteArray × ByteArray × Unit) × Bool × Bool × Int × Unit) × ((List (ByteArray × ByteArray)) × Unit) × Unit)
mutual
noncomputable def chartularylaw07_Climb.j0 : Nat → ByteArray → Int → Int → (List ByteArray) → (ByteArray × ByteArray × Unit) → Bool → Bool → Int → (List (ByteArray × ByteArray)) → (List (ByteArray × ByteArray)) → Option chartularylaw07_Climb.R
  | 0, _, _, _, _, _, _, _, _, _, _ => none
  | k + 1, x1, x2, x3, x4, o0_2, o0_3, o0_4, o0_5, o1_0, o2_0 =>
    (chartularylaw07_below.f k x3).bind fun r1 =>
    (rdo x4 (IntKind.wrap .i64 ((x4.length : Int) - 1))).bind fun t2 =>
    (ck (decide (0 ≤ 0) && decide (0 ≤ IntKind.wrap .i64 ((x4.length : Int) - 1)) && decide (IntKind.wrap .i64 ((x4.length : Int) - 1) ≤ (x4.length : Int)))).bind fun _ =>
    bif decide ((x2 : Int) < r1.1.1) then
      (chartularylaw07_Climb.f k x1 x2 r1.1.1 ((x4.take (IntKind.wrap .i64 ((x4.length : Int) - 1) : Int).toNat).drop (0 : Int).toNat) (o0_2.1, (o0_2.2.1, ())) o0_3 o0_4 o0_5 o1_0 o2_0).bind fun r3 =>
      (pledge_Node.f k r3.1.1 t2 (r3.2.1.2.2.1.1, (r3.2.1.2.2.1.2.1, ())) r3.2.1.2.2.2.1 r3.2.1.2.2.2.2.1 r3.2.1.2.2.2.2.2.1 o1_0 r3.2.2.1.1).bind fun r4 =>
      some ((r4.1.1, ()), (((), (), (r4.2.1.2.2.1.1, (r4.2.1.2.2.1.2.1, ())), r4.2.1.2.2.2.1, r4.2.1.2.2.2.2.1, r4.2.1.2.2.2.2.2.1, ()), (r4.2.2.1.1, ()), ()))
    else
      (chartularylaw07_Climb.f k x1 (IntKind.wrap .i64 (x2 - r1.1.1)) (IntKind.wrap .i64 (x3 - r1.1.1)) ((x4.take (IntKind.wrap .i64 ((x4.length : Int) - 1) : Int).toNat).drop (0 : Int).toNat) (o0_2.1, (o0_2.2.1, ())) o0_3 o0_4 o0_5 o1_0 o2_0).bind fun r5 =>
      (pledge_Node.f k t2 r5.1.1 (r5.2.1.2.2.1.1, (r5.2.1.2.2.1.2.1, ())) r5.2.1.2.2.2.1 r5.2.1.2.2.2.2.1 r5.2.1.2.2.2.2.2.1 o1_0 r5.2.2.1.1).bind fun r6 =>
      some ((r6.1.1, ()), (((), (), (r6.2.1.2.2.1.1, (r6.2.1.2.2.1.2.1, ())), r6.2.1.2.2.2.1, r6.2.1.2.2.2.2.1, r6.2.1.2.2.2.2.2.1, ()), (r6.2.2.1.1, ()), ()))
noncomputable def chartularylaw07_Climb.f : Nat → ByteArray → Int → Int → (List ByteArray) → (ByteArray × ByteArray × Unit) → Bool → Bool → Int → (List (ByteArray × ByteArray)) → (List (ByteArray × ByteArray)) → Option chartularylaw07_Climb.R
  | 0, _, _, _, _, _, _, _, _, _, _ => none
  | k + 1, x1, x2, x3, x4, o0_2, o0_3, o0_4, o0_5, o1_0, o2_0 =>
    bif (x3 : Int) == 1 then
      some ((x1, ()), (((), (), (o0_2.1, (o0_2.2.1, ())), o0_3, o0_4, o0_5, ()), (o2_0, ()), ()))
    else
    bif ((x4.length : Int) : Int) == 0 then
      some ((x1, ()), (((), (), (o0_2.1, (o0_2.2.1, ())), o0_3, o0_4, o0_5, ()), (o2_0, ()), ()))
    else
      chartularylaw07_Climb.j0 k x1 x2 x3 x4 (o0_2.1, (o0_2.2.1, ())) o0_3 o0_4 o0_5 o1_0 o2_0
end
abbrev chartularylaw07_Climb.ini : LSh := ⟨[(0, .ptr 1000000 0), (1, .val .str), (2, .val (.int .i64)), (3, .val (.int .i64)), (4, .val (.sl .str))], [(1000000, 64, [.mref 1000001, .mref 1000002, .val (.cons .str (.cons .str .nil)), .val .bool, .val .bool, .val (.int .i64)]), (1000001, 61, [.mapd]), (1000002, 61, [.mapd])]⟩
abbrev chartularylaw07_Climb.out : LSh := ⟨[(0, .val .str)], [(1000000, 64, [.mref 1000001, .mref 1000002, .val (.cons .str (.cons .str .nil)), .val .bool, .val .bool, .val (.int .i64)]), (1000002, 61, [.mapd])]⟩
abbrev chartularylaw07_Climb.j0s : LSh := ⟨[(0, .ptr 1000000 0), (1, .val .str), (2, .val (.int .i64)), (3, .val (.int .i64)), (4, .val (.sl .str))], [(1000000, 64, [.mref 1000001, .mref 1000002, .val (.cons .str (.cons .str .nil)), .val .bool, .val .bool, .val (.int .i64)]), (1000001, 61, [.mapd]), (1000002, 61, [.mapd])]⟩
noncomputable def chartularylaw07_Climb.labF : Nat → Option (LabF chartularylaw07_Climb.out.den)
  | 7 => some ⟨chartularylaw07_Climb.j0s, fun k (d : (Unit × ByteArray × Int × Int × List ByteArray × Unit) × ((Unit × Unit × (ByteArray × ByteArray × Unit) × Bool × Bool × Int × Unit) × ((List (ByteArray × ByteArray)) × Unit) × ((List (ByteArray × ByteArray)) × Unit) × Unit)) => (chartularylaw07_Climb.j0 k d.1.2.1 d.1.2.2.1 d.1.2.2.2.1 d.1.2.2.2.2.1 d.2.1.2.2.1 d.2.1.2.2.2.1 d.2.1.2.2.2.2.1 d.2.1.2.2.2.2.2.1 d.2.2.1.1 d.2.2.2.1.1 : Option chartularylaw07_Climb.R)⟩
  | _ => none
noncomputable def chartularylaw07_Climb.fd : FnD := ⟨Try.f21, chartularylaw07_Climb.ini, chartularylaw07_Climb.out, 1, [1000000, 1000001, 1000002], [1000001], chartularylaw07_Climb.labF, fun k (d : (Unit × ByteArray × Int × Int × List ByteArray × Unit) × ((Unit × Unit × (ByteArray × ByteArray × Unit) × Bool × Bool × Int × Unit) × ((List (ByteArray × ByteArray)) × Unit) × ((List (ByteArray × ByteArray)) × Unit) × Unit)) => (chartularylaw07_Climb.f k d.1.2.1 d.1.2.2.1 d.1.2.2.2.1 d.1.2.2.2.2.1 d.2.1.2.2.1 d.2.1.2.2.2.1 d.2.1.2.2.2.2.1 d.2.1.2.2.2.2.2.1 d.2.2.1.1 d.2.2.2.1.1 : Option chartularylaw07_Climb.R)⟩

/-! ### chartularylaw07_MerkleClimbs : function 4 -/
abbrev chartularylaw07_MerkleClimbs.R := (Bool × Unit) × (Unit)
mutual
noncomputable def chartularylaw07_MerkleClimbs.j0 : Nat → ByteArray → Int → Int → (List ByteArray) → (ByteArray × ByteArray × Unit) → Bool → Bool → Int → (List (ByteArray × ByteArray)) → (List (ByteArray × ByteArray)) → Option chartularylaw07_MerkleClimbs.R
  | 0, _, _, _, _, _, _, _, _, _, _ => none
  | k + 1, x0, x1, x2, x3, o0_2, o0_3, o0_4, o0_5, o1000_0, o1001_0 =>
    (merkle_Climb.f k x0 x1 x2 x3 (o0_2.1, (o0_2.2.1, ())) o0_3 o0_4 o0_5 o1000_0 o1001_0).bind fun r2 =>
    bif decide ((x2 : Int) < 1) then
      bif r2.1.1.toList == (⟨#[]⟩ : ByteArray).toList then
        bif (r2.1.2.1 : Int) == 21 then
          (chartularylaw07_awake.f k).bind fun r3 =>
          some ((r3.1.1, ()), (()))
        else
          some ((false, ()), (()))
      else
        some ((false, ()), (()))
    else
    bif decide ((x2 : Int) > 65536) then
      bif r2.1.1.toList == (⟨#[]⟩ : ByteArray).toList then
        bif (r2.1.2.1 : Int) == 21 then
          (chartularylaw07_awake.f k).bind fun r4 =>
          some ((r4.1.1, ()), (()))
        else
          some ((false, ()), (()))
      else
        some ((false, ()), (()))
    else
    bif decide ((x1 : Int) < 0) then
      bif r2.1.1.toList == (⟨#[]⟩ : ByteArray).toList then
        bif (r2.1.2.1 : Int) == 21 then
          (chartularylaw07_awake.f k).bind fun r5 =>
          some ((r5.1.1, ()), (()))
        else
          some ((false, ()), (()))
      else
        some ((false, ()), (()))
    else
    bif decide ((x1 : Int) ≥ x2) then
      bif r2.1.1.toList == (⟨#[]⟩ : ByteArray).toList then
        bif (r2.1.2.1 : Int) == 21 then
          (chartularylaw07_awake.f k).bind fun r6 =>
          some ((r6.1.1, ()), (()))
        else
          some ((false, ()), (()))
      else
        some ((false, ()), (()))
    else
    bif ((x0.size : Int) : Int) != 32 then
      chartularylaw07_MerkleClimbs.j1 k x0 x1 x2 x3 r2.1.1 r2.1.2.1 true (r2.2.1.2.2.1.1, (r2.2.1.2.2.1.2.1, ())) r2.2.1.2.2.2.1 r2.2.1.2.2.2.2.1 r2.2.1.2.2.2.2.2.1 o1000_0 r2.2.2.1.1
    else
      (chartularylaw07_sums.f k x3).bind fun r7 =>
      bif !r7.1.1 then
        chartularylaw07_MerkleClimbs.j1 k x0 x1 x2 x3 r2.1.1 r2.1.2.1 true (r2.2.1.2.2.1.1, (r2.2.1.2.2.1.2.1, ())) r2.2.1.2.2.2.1 r2.2.1.2.2.2.2.1 r2.2.1.2.2.2.2.2.1 o1000_0 r2.2.2.1.1
      else
        (chartularylaw07_Depth.f k x1 x2).bind fun r8 =>
        chartularylaw07_MerkleClimbs.j1 k x0 x1 x2 x3 r2.1.1 r2.1.2.1 (((x3.length : Int) : Int) != r8.1.1) (r2.2.1.2.2.1.1, (r2.2.1.2.2.1.2.1, ())) r2.2.1.2.2.2.1 r2.2.1.2.2.2.2.1 r2.2.1.2.2.2.2.2.1 o1000_0 r2.2.2.1.1
noncomputable def chartularylaw07_MerkleClimbs.j1 : Nat → ByteArray → Int → Int → (List ByteArray) → ByteArray → Int → Bool → (ByteArray × ByteArray × Unit) → Bool → Bool → Int → (List (ByteArray × ByteArray)) → (List (ByteArray × ByteArray)) → Option chartularylaw07_MerkleClimbs.R
  | 0, _, _, _, _, _, _, _, _, _, _, _, _, _ => none
  | k + 1, x0, x1, x2, x3, x10, x11, x66, o0_2, o0_3, o0_4, o0_5, o1000_0, o1001_0 =>
    bif x66 then
      bif x10.toList == (⟨#[]⟩ : ByteArray).toList then
        bif (x11 : Int) == 20 then
          (chartularylaw07_awake.f k).bind fun r9 =>
          some ((r9.1.1, ()), (()))
        else
          some ((false, ()), (()))
      else
        some ((false, ()), (()))
    else
    bif (x11 : Int) == 0 then
      (chartularylaw07_Climb.f k x0 x1 x2 x3 (o0_2.1, (o0_2.2.1, ())) o0_3 o0_4 o0_5 o1000_0 o1001_0).bind fun r10 =>
      bif x10.toList == r10.1.1.toList then
        (chartularylaw07_awake.f k).bind fun r11 =>
        some ((r11.1.1, ()), (()))
      else
        some ((false, ()), (()))
    else
      some ((false, ()), (()))
noncomputable def chartularylaw07_MerkleClimbs.f : Nat → ByteArray → Int → Int → (List ByteArray) → Option chartularylaw07_MerkleClimbs.R
  | 0, _, _, _, _ => none
  | k + 1, x0, x1, x2, x3 =>
    (mill_New.f k).bind fun r1 =>
    bif decide (((x3.length : Int) : Int) > 40) then
      (ck (decide (0 ≤ 0) && decide (0 ≤ 40) && decide (40 ≤ (x3.length : Int)))).bind fun _ =>
      chartularylaw07_MerkleClimbs.j0 k x0 x1 x2 ((x3.take (40 : Int).toNat).drop (0 : Int).toNat) (r1.2.1.2.2.1.1, (r1.2.1.2.2.1.2.1, ())) r1.2.1.2.2.2.1 r1.2.1.2.2.2.2.1 r1.2.1.2.2.2.2.2.1 r1.2.2.1.1 r1.2.2.2.1.1
    else
      chartularylaw07_MerkleClimbs.j0 k x0 x1 x2 x3 (r1.2.1.2.2.1.1, (r1.2.1.2.2.1.2.1, ())) r1.2.1.2.2.2.1 r1.2.1.2.2.2.2.1 r1.2.1.2.2.2.2.2.1 r1.2.2.1.1 r1.2.2.2.1.1
end
abbrev chartularylaw07_MerkleClimbs.ini : LSh := ⟨[(0, .val .str), (1, .val (.int .i64)), (2, .val (.int .i64)), (3, .val (.sl .str))], []⟩
abbrev chartularylaw07_MerkleClimbs.out : LSh := ⟨[(0, .val .bool)], []⟩
abbrev chartularylaw07_MerkleClimbs.j0s : LSh := ⟨[(0, .val .str), (1, .val (.int .i64)), (2, .val (.int .i64)), (3, .val (.sl .str)), (9, .ptr 1304000000 0)], [(1304000000, 64, [.mref 1304001000, .mref 1304001001, .val (.cons .str (.cons .str .nil)), .val .bool, .val .bool, .val (.int .i64)]), (1304001000, 61, [.mapd]), (1304001001, 61, [.mapd])]⟩
abbrev chartularylaw07_MerkleClimbs.j1s : LSh := ⟨[(0, .val .str), (1, .val (.int .i64)), (2, .val (.int .i64)), (3, .val (.sl .str)), (9, .ptr 1304000000 0), (10, .val .str), (11, .val (.int .i64)), (66, .val .bool)], [(1304000000, 64, [.mref 1304001000, .mref 1304001001, .val (.cons .str (.cons .str .nil)), .val .bool, .val .bool, .val (.int .i64)]), (1304001000, 61, [.mapd]), (1304001001, 61, [.mapd])]⟩
noncomputable def chartularylaw07_MerkleClimbs.labF : Nat → Option (LabF chartularylaw07_MerkleClimbs.out.den)
  | 9 => some ⟨chartularylaw07_MerkleClimbs.j0s, fun k (d : (ByteArray × Int × Int × List ByteArray × Unit × Unit) × ((Unit × Unit × (ByteArray × ByteArray × Unit) × Bool × Bool × Int × Unit) × ((List (ByteArray × ByteArray)) × Unit) × ((List (ByteArray × ByteArray)) × Unit) × Unit)) => (chartularylaw07_MerkleClimbs.j0 k d.1.1 d.1.2.1 d.1.2.2.1 d.1.2.2.2.1 d.2.1.2.2.1 d.2.1.2.2.2.1 d.2.1.2.2.2.2.1 d.2.1.2.2.2.2.2.1 d.2.2.1.1 d.2.2.2.1.1 : Option chartularylaw07_MerkleClimbs.R)⟩
  | 17 => some ⟨chartularylaw07_MerkleClimbs.j1s, fun k (d : (ByteArray × Int × Int × List ByteArray × Unit × ByteArray × Int × Bool × Unit) × ((Unit × Unit × (ByteArray × ByteArray × Unit) × Bool × Bool × Int × Unit) × ((List (ByteArray × ByteArray)) × Unit) × ((List (ByteArray × ByteArray)) × Unit) × Unit)) => (chartularylaw07_MerkleClimbs.j1 k d.1.1 d.1.2.1 d.1.2.2.1 d.1.2.2.2.1 d.1.2.2.2.2.2.1 d.1.2.2.2.2.2.2.1 d.1.2.2.2.2.2.2.2.1 d.2.1.2.2.1 d.2.1.2.2.2.1 d.2.1.2.2.2.2.1 d.2.1.2.2.2.2.2.1 d.2.2.1.1 d.2.2.2.1.1 : Option chartularylaw07_MerkleClimbs.R)⟩
  | _ => none
noncomputable def chartularylaw07_MerkleClimbs.fd : FnD := ⟨Try.f4, chartularylaw07_MerkleClimbs.ini, chartularylaw07_MerkleClimbs.out, 1, [], [], chartularylaw07_MerkleClimbs.labF, fun k (d : (ByteArray × Int × Int × List ByteArray × Unit) × (Unit)) => (chartularylaw07_MerkleClimbs.f k d.1.1 d.1.2.1 d.1.2.2.1 d.1.2.2.2.1 : Option chartularylaw07_MerkleClimbs.R)⟩

/-! ### mill_With_has : function 28 -/
abbrev mill_With_has.R := (Unit × Int × Unit) × ((Unit × Unit × (ByteArray × ByteArray × Unit) × Bool × Bool × Int × Unit) × ((List (ByteArray × ByteArray)) × Unit) × ((List (ByteArray × ByteArray)) × Unit) × Unit)
mutual
noncomputable def mill_With_has.l0 : Nat → (List (Bool × ByteArray × ByteArray × ByteArray × Unit)) → Int → Int → (ByteArray × ByteArray × Unit) → Bool → Bool → Int → (List (ByteArray × ByteArray)) → (List (ByteArray × ByteArray)) → Option mill_With_has.R
  | 0, _, _, _, _, _, _, _, _, _ => none
  | k + 1, x11, x12, x13, o0_2, o0_3, o0_4, o0_5, o1000_0, o1001_0 =>
    bif decide ((x13 : Int) < x12) then
      (rdo x11 x13).bind fun t2 =>
      bif ((t2.2.2.2.1.size : Int) : Int) != 32 then
        none
      else
        (mill_name.f k t2.1 t2.2.1 t2.2.2.1).bind fun r3 =>
        bif !(mhas r3.1.1 o1000_0) then
          mill_With_has.l0 k x11 x12 (IntKind.wrap .i64 (x13 + 1)) (o0_2.1, (o0_2.2.1, ())) o0_3 o0_4 o0_5 (mput r3.1.1 t2.2.2.2.1 o1000_0) o1001_0
        else
          mill_With_has.l0 k x11 x12 (IntKind.wrap .i64 (x13 + 1)) (o0_2.1, (o0_2.2.1, ())) o0_3 o0_4 o0_5 o1000_0 o1001_0
    else
      some (((), 0, ()), (((), (), (o0_2.1, (o0_2.2.1, ())), o0_3, o0_4, o0_5, ()), (o1000_0, ()), (o1001_0, ()), ()))
noncomputable def mill_With_has.f : Nat → (List (Bool × ByteArray × ByteArray × ByteArray × Unit)) → Option mill_With_has.R
  | 0, _ => none
  | k + 1, x0 =>
    (mill_New.f k).bind fun r1 =>
    mill_With_has.l0 k x0 (x0.length : Int) 0 (r1.2.1.2.2.1.1, (r1.2.1.2.2.1.2.1, ())) r1.2.1.2.2.2.1 r1.2.1.2.2.2.2.1 r1.2.1.2.2.2.2.2.1 r1.2.2.1.1 r1.2.2.2.1.1
end
abbrev mill_With_has.ini : LSh := ⟨[(0, .val (.sl (.cons .bool (.cons .str (.cons .str (.cons .str .nil))))))], []⟩
abbrev mill_With_has.out : LSh := ⟨[(0, .ptr 4000000 0), (1, .val (.int .i64))], [(4000000, 64, [.mref 4001000, .mref 4001001, .val (.cons .str (.cons .str .nil)), .val .bool, .val .bool, .val (.int .i64)]), (4001000, 61, [.mapd]), (4001001, 61, [.mapd])]⟩
abbrev mill_With_has.l0s : LSh := ⟨[(4, .ptr 1104000000 0), (11, .val (.sl (.cons .bool (.cons .str (.cons .str (.cons .str .nil)))))), (12, .val (.int .i64)), (13, .val (.int .i64))], [(1104000000, 64, [.mref 1104001000, .mref 1104001001, .val (.cons .str (.cons .str .nil)), .val .bool, .val .bool, .val (.int .i64)]), (1104001000, 61, [.mapd]), (1104001001, 61, [.mapd])]⟩
noncomputable def mill_With_has.labF : Nat → Option (LabF mill_With_has.out.den)
  | 6 => some ⟨mill_With_has.l0s, fun k (d : (Unit × (List (Bool × ByteArray × ByteArray × ByteArray × Unit)) × Int × Int × Unit) × ((Unit × Unit × (ByteArray × ByteArray × Unit) × Bool × Bool × Int × Unit) × ((List (ByteArray × ByteArray)) × Unit) × ((List (ByteArray × ByteArray)) × Unit) × Unit)) => (mill_With_has.l0 k d.1.2.1 d.1.2.2.1 d.1.2.2.2.1 d.2.1.2.2.1 d.2.1.2.2.2.1 d.2.1.2.2.2.2.1 d.2.1.2.2.2.2.2.1 d.2.2.1.1 d.2.2.2.1.1 : Option mill_With_has.R)⟩
  | _ => none
noncomputable def mill_With_has.fd : FnD := ⟨Try.f28, mill_With_has.ini, mill_With_has.out, 2, [], [], mill_With_has.labF, fun k (d : ((List (Bool × ByteArray × ByteArray × ByteArray × Unit)) × Unit) × (Unit)) => (mill_With_has.f k d.1.1 : Option mill_With_has.R)⟩

/-! ### mill_With_nil : function 28 -/
abbrev mill_With_nil.R := (Unit × Int × Unit) × (Unit)
mutual
noncomputable def mill_With_nil.l0 : Nat → (List (Bool × ByteArray × ByteArray × ByteArray × Unit)) → Int → Int → (ByteArray × ByteArray × Unit) → Bool → Bool → Int → (List (ByteArray × ByteArray)) → (List (ByteArray × ByteArray)) → Option mill_With_nil.R
  | 0, _, _, _, _, _, _, _, _, _ => none
  | k + 1, x11, x12, x13, o0_2, o0_3, o0_4, o0_5, o1000_0, o1001_0 =>
    bif decide ((x13 : Int) < x12) then
      (rdo x11 x13).bind fun t2 =>
      bif ((t2.2.2.2.1.size : Int) : Int) != 32 then
        some (((), 1, ()), (()))
      else
        (mill_name.f k t2.1 t2.2.1 t2.2.2.1).bind fun r3 =>
        bif !(mhas r3.1.1 o1000_0) then
          mill_With_nil.l0 k x11 x12 (IntKind.wrap .i64 (x13 + 1)) (o0_2.1, (o0_2.2.1, ())) o0_3 o0_4 o0_5 (mput r3.1.1 t2.2.2.2.1 o1000_0) o1001_0
        else
          mill_With_nil.l0 k x11 x12 (IntKind.wrap .i64 (x13 + 1)) (o0_2.1, (o0_2.2.1, ())) o0_3 o0_4 o0_5 o1000_0 o1001_0
    else
      none
noncomputable def mill_With_nil.f : Nat → (List (Bool × ByteArray × ByteArray × ByteArray × Unit)) → Option mill_With_nil.R
  | 0, _ => none
  | k + 1, x0 =>
    (mill_New.f k).bind fun r1 =>
    mill_With_nil.l0 k x0 (x0.length : Int) 0 (r1.2.1.2.2.1.1, (r1.2.1.2.2.1.2.1, ())) r1.2.1.2.2.2.1 r1.2.1.2.2.2.2.1 r1.2.1.2.2.2.2.2.1 r1.2.2.1.1 r1.2.2.2.1.1
end
abbrev mill_With_nil.ini : LSh := ⟨[(0, .val (.sl (.cons .bool (.cons .str (.cons .str (.cons .str .nil))))))], []⟩
abbrev mill_With_nil.out : LSh := ⟨[(0, .nilp), (1, .val (.int .i64))], []⟩
abbrev mill_With_nil.l0s : LSh := ⟨[(4, .ptr 1104000000 0), (11, .val (.sl (.cons .bool (.cons .str (.cons .str (.cons .str .nil)))))), (12, .val (.int .i64)), (13, .val (.int .i64))], [(1104000000, 64, [.mref 1104001000, .mref 1104001001, .val (.cons .str (.cons .str .nil)), .val .bool, .val .bool, .val (.int .i64)]), (1104001000, 61, [.mapd]), (1104001001, 61, [.mapd])]⟩
noncomputable def mill_With_nil.labF : Nat → Option (LabF mill_With_nil.out.den)
  | 6 => some ⟨mill_With_nil.l0s, fun k (d : (Unit × (List (Bool × ByteArray × ByteArray × ByteArray × Unit)) × Int × Int × Unit) × ((Unit × Unit × (ByteArray × ByteArray × Unit) × Bool × Bool × Int × Unit) × ((List (ByteArray × ByteArray)) × Unit) × ((List (ByteArray × ByteArray)) × Unit) × Unit)) => (mill_With_nil.l0 k d.1.2.1 d.1.2.2.1 d.1.2.2.2.1 d.2.1.2.2.1 d.2.1.2.2.2.1 d.2.1.2.2.2.2.1 d.2.1.2.2.2.2.2.1 d.2.2.1.1 d.2.2.2.1.1 : Option mill_With_nil.R)⟩
  | _ => none
noncomputable def mill_With_nil.fd : FnD := ⟨Try.f28, mill_With_nil.ini, mill_With_nil.out, 2, [], [], mill_With_nil.labF, fun k (d : ((List (Bool × ByteArray × ByteArray × ByteArray × Unit)) × Unit) × (Unit)) => (mill_With_nil.f k d.1.1 : Option mill_With_nil.R)⟩

/-! ### mill_Mill_Twins : function 29 -/
abbrev mill_Mill_Twins.R := (ByteArray × ByteArray × Bool × Unit) × (Unit)
noncomputable def mill_Mill_Twins.f : Nat → (ByteArray × ByteArray × Unit) → Bool → Bool → Int → (List (ByteArray × ByteArray)) → (List (ByteArray × ByteArray)) → Option mill_Mill_Twins.R
  | 0, _, _, _, _, _, _ => none
  | k + 1, o0_2, o0_3, o0_4, o0_5, o1_0, o2_0 =>
    (mill_Mill_none.f k (o0_2.1, (o0_2.2.1, ())) o0_3 o0_4 o0_5 o1_0 o2_0).bind fun r1 =>
    bif r1.1.1 then
      some (((⟨#[]⟩ : ByteArray), (⟨#[]⟩ : ByteArray), false, ()), (()))
    else
      some ((o0_2.1, o0_2.2.1, o0_3, ()), (()))
abbrev mill_Mill_Twins.ini : LSh := ⟨[(0, .ptr 1000000 0)], [(1000000, 64, [.mref 1000001, .mref 1000002, .val (.cons .str (.cons .str .nil)), .val .bool, .val .bool, .val (.int .i64)]), (1000001, 61, [.mapd]), (1000002, 61, [.mapd])]⟩
abbrev mill_Mill_Twins.out : LSh := ⟨[(0, .val .str), (1, .val .str), (2, .val .bool)], []⟩
noncomputable def mill_Mill_Twins.labF : Nat → Option (LabF mill_Mill_Twins.out.den)
  | _ => none
noncomputable def mill_Mill_Twins.fd : FnD := ⟨Try.f29, mill_Mill_Twins.ini, mill_Mill_Twins.out, 3, [1000000, 1000001, 1000002], [1000000, 1000001, 1000002], mill_Mill_Twins.labF, fun k (d : (Unit × Unit) × ((Unit × Unit × (ByteArray × ByteArray × Unit) × Bool × Bool × Int × Unit) × ((List (ByteArray × ByteArray)) × Unit) × ((List (ByteArray × ByteArray)) × Unit) × Unit)) => (mill_Mill_Twins.f k d.2.1.2.2.1 d.2.1.2.2.2.1 d.2.1.2.2.2.2.1 d.2.1.2.2.2.2.2.1 d.2.2.1.1 d.2.2.2.1.1 : Option mill_Mill_Twins.R)⟩

/-! ### chartularylaw07_MerkleLeaf : function 7 -/
abbrev chartularylaw07_MerkleLeaf.R := (Bool × Unit) × (Unit)
mutual
noncomputable def chartularylaw07_MerkleLeaf.j0 : Nat → (List (Bool × ByteArray × ByteArray × ByteArray × Unit)) → Int → Int → ByteArray → (List ByteArray) → ByteArray → (List ByteArray) → Option chartularylaw07_MerkleLeaf.R
  | 0, _, _, _, _, _, _, _ => none
  | k + 1, x0, x1, x2, x3, x4, x5, x6 =>
    orE (
      (mill_With_has.f k x0).bind fun r1 =>
      bif (r1.1.2.1 : Int) != 0 then
        (chartularylaw07_awake.f k).bind fun r2 =>
        some ((r2.1.1, ()), (()))
      else
        (merkle_Climb.f k x3 x1 x2 x4 (r1.2.1.2.2.1.1, (r1.2.1.2.2.1.2.1, ())) r1.2.1.2.2.2.1 r1.2.1.2.2.2.2.1 r1.2.1.2.2.2.2.2.1 r1.2.2.1.1 r1.2.2.2.1.1).bind fun r3 =>
        (merkle_Climb.f k x5 x1 x2 x6 (r3.2.1.2.2.1.1, (r3.2.1.2.2.1.2.1, ())) r3.2.1.2.2.2.1 r3.2.1.2.2.2.2.1 r3.2.1.2.2.2.2.2.1 r1.2.2.1.1 r3.2.2.1.1).bind fun r4 =>
        (mill_Mill_Twins.f k (r4.2.1.2.2.1.1, (r4.2.1.2.2.1.2.1, ())) r4.2.1.2.2.2.1 r4.2.1.2.2.2.2.1 r4.2.1.2.2.2.2.2.1 r1.2.2.1.1 r4.2.2.1.1).bind fun r5 =>
        bif (r3.1.2.1 : Int) != 0 then
          (chartularylaw07_awake.f k).bind fun r6 =>
          some ((r6.1.1, ()), (()))
        else
        bif (r4.1.2.1 : Int) != 0 then
          (chartularylaw07_awake.f k).bind fun r7 =>
          some ((r7.1.1, ()), (()))
        else
        bif !(r3.1.1.toList == r4.1.1.toList) then
          (chartularylaw07_awake.f k).bind fun r8 =>
          some ((r8.1.1, ()), (()))
        else
        bif x3.toList == x5.toList then
          (chartularylaw07_awake.f k).bind fun r9 =>
          some ((r9.1.1, ()), (()))
        else
        bif r5.1.2.2.1 then
          bif !(r5.1.1.toList == r5.1.2.1.toList) then
            (chartularylaw07_awake.f k).bind fun r10 =>
            some ((r10.1.1, ()), (()))
          else
            some ((false, ()), (()))
        else
          some ((false, ()), (()))) (
      (mill_With_nil.f k x0).bind fun r11 =>
      bif (r11.1.2.1 : Int) != 0 then
        (chartularylaw07_awake.f k).bind fun r12 =>
        some ((r12.1.1, ()), (()))
      else
        none)
noncomputable def chartularylaw07_MerkleLeaf.f : Nat → (List (Bool × ByteArray × ByteArray × ByteArray × Unit)) → Int → Int → ByteArray → (List ByteArray) → ByteArray → (List ByteArray) → Option chartularylaw07_MerkleLeaf.R
  | 0, _, _, _, _, _, _, _ => none
  | k + 1, x0, x1, x2, x3, x4, x5, x6 =>
    bif decide (((x0.length : Int) : Int) > 10) then
      (ck (decide (0 ≤ 0) && decide (0 ≤ 10) && decide (10 ≤ (x0.length : Int)))).bind fun _ =>
      chartularylaw07_MerkleLeaf.j0 k ((x0.take (10 : Int).toNat).drop (0 : Int).toNat) x1 x2 x3 x4 x5 x6
    else
      chartularylaw07_MerkleLeaf.j0 k x0 x1 x2 x3 x4 x5 x6
end
abbrev chartularylaw07_MerkleLeaf.ini : LSh := ⟨[(0, .val (.sl (.cons .bool (.cons .str (.cons .str (.cons .str .nil)))))), (1, .val (.int .i64)), (2, .val (.int .i64)), (3, .val .str), (4, .val (.sl .str)), (5, .val .str), (6, .val (.sl .str))], []⟩
abbrev chartularylaw07_MerkleLeaf.out : LSh := ⟨[(0, .val .bool)], []⟩
abbrev chartularylaw07_MerkleLeaf.j0s : LSh := ⟨[(0, .val (.sl (.cons .bool (.cons .str (.cons .str (.cons .str .nil)))))), (1, .val (.int .i64)), (2, .val (.int .i64)), (3, .val .str), (4, .val (.sl .str)), (5, .val .str), (6, .val (.sl .str))], []⟩
noncomputable def chartularylaw07_MerkleLeaf.labF : Nat → Option (LabF chartularylaw07_MerkleLeaf.out.den)
  | 7 => some ⟨chartularylaw07_MerkleLeaf.j0s, fun k (d : ((List (Bool × ByteArray × ByteArray × ByteArray × Unit)) × Int × Int × ByteArray × List ByteArray × ByteArray × List ByteArray × Unit) × (Unit)) => (chartularylaw07_MerkleLeaf.j0 k d.1.1 d.1.2.1 d.1.2.2.1 d.1.2.2.2.1 d.1.2.2.2.2.1 d.1.2.2.2.2.2.1 d.1.2.2.2.2.2.2.1 : Option chartularylaw07_MerkleLeaf.R)⟩
  | _ => none
noncomputable def chartularylaw07_MerkleLeaf.fd : FnD := ⟨Try.f7, chartularylaw07_MerkleLeaf.ini, chartularylaw07_MerkleLeaf.out, 1, [], [], chartularylaw07_MerkleLeaf.labF, fun k (d : ((List (Bool × ByteArray × ByteArray × ByteArray × Unit)) × Int × Int × ByteArray × List ByteArray × ByteArray × List ByteArray × Unit) × (Unit)) => (chartularylaw07_MerkleLeaf.f k d.1.1 d.1.2.1 d.1.2.2.1 d.1.2.2.2.1 d.1.2.2.2.2.1 d.1.2.2.2.2.2.1 d.1.2.2.2.2.2.2.1 : Option chartularylaw07_MerkleLeaf.R)⟩

/-! ### chartularylaw07_Long : function 30 -/
abbrev chartularylaw07_Long.R := (Int × Unit) × (Unit)
noncomputable def chartularylaw07_Long.f : Nat → Int → Int → Bool → Option chartularylaw07_Long.R
  | 0, _, _, _ => none
  | k + 1, x0, x1, x2 =>
    bif (x0 : Int) == x1 then
      bif x2 then
        some ((0, ()), (()))
      else
      bif (x0 : Int) == x1 then
        some ((1, ()), (()))
      else
      bif decide ((x1 : Int) < 2) then
        some ((1, ()), (()))
      else
        (chartularylaw07_below.f k x1).bind fun r1 =>
        bif decide ((x0 : Int) ≤ r1.1.1) then
          (chartularylaw07_Long.f k x0 r1.1.1 x2).bind fun r2 =>
          some ((IntKind.wrap .i64 (1 + r2.1.1), ()), (()))
        else
          (chartularylaw07_Long.f k (IntKind.wrap .i64 (x0 - r1.1.1)) (IntKind.wrap .i64 (x1 - r1.1.1)) false).bind fun r3 =>
          some ((IntKind.wrap .i64 (1 + r3.1.1), ()), (()))
    else
    bif (x0 : Int) == x1 then
      some ((1, ()), (()))
    else
    bif decide ((x1 : Int) < 2) then
      some ((1, ()), (()))
    else
      (chartularylaw07_below.f k x1).bind fun r4 =>
      bif decide ((x0 : Int) ≤ r4.1.1) then
        (chartularylaw07_Long.f k x0 r4.1.1 x2).bind fun r5 =>
        some ((IntKind.wrap .i64 (1 + r5.1.1), ()), (()))
      else
        (chartularylaw07_Long.f k (IntKind.wrap .i64 (x0 - r4.1.1)) (IntKind.wrap .i64 (x1 - r4.1.1)) false).bind fun r6 =>
        some ((IntKind.wrap .i64 (1 + r6.1.1), ()), (()))
abbrev chartularylaw07_Long.ini : LSh := ⟨[(0, .val (.int .i64)), (1, .val (.int .i64)), (2, .val .bool)], []⟩
abbrev chartularylaw07_Long.out : LSh := ⟨[(0, .val (.int .i64))], []⟩
noncomputable def chartularylaw07_Long.labF : Nat → Option (LabF chartularylaw07_Long.out.den)
  | _ => none
noncomputable def chartularylaw07_Long.fd : FnD := ⟨Try.f30, chartularylaw07_Long.ini, chartularylaw07_Long.out, 1, [], [], chartularylaw07_Long.labF, fun k (d : (Int × Int × Bool × Unit) × (Unit)) => (chartularylaw07_Long.f k d.1.1 d.1.2.1 d.1.2.2.1 : Option chartularylaw07_Long.R)⟩

/-! ### chartularylaw07_Both : function 31 -/
abbrev chartularylaw07_Both.R := (ByteArray × ByteArray × Unit) × ((Unit × Unit × (ByteArray × ByteArray × Unit) × Bool × Bool × Int × Unit) × ((List (ByteArray × ByteArray)) × Unit) × Unit)
mutual
noncomputable def chartularylaw07_Both.j0 : Nat → Int → Int → Bool → ByteArray → (List ByteArray) → (ByteArray × ByteArray × Unit) → Bool → Bool → Int → (List (ByteArray × ByteArray)) → (List (ByteArray × ByteArray)) → Option chartularylaw07_Both.R
  | 0, _, _, _, _, _, _, _, _, _, _, _ => none
  | k + 1, x1, x2, x3, x4, x5, o0_2, o0_3, o0_4, o0_5, o1_0, o2_0 =>
    (rdo x5 (IntKind.wrap .i64 ((x5.length : Int) - 1))).bind fun t1 =>
    bif (x1 : Int) == x2 then
      some ((t1, t1, ()), (((), (), (o0_2.1, (o0_2.2.1, ())), o0_3, o0_4, o0_5, ()), (o2_0, ()), ()))
    else
    bif decide ((x2 : Int) < 2) then
      some ((t1, t1, ()), (((), (), (o0_2.1, (o0_2.2.1, ())), o0_3, o0_4, o0_5, ()), (o2_0, ()), ()))
    else
      (ck (decide (0 ≤ 0) && decide (0 ≤ IntKind.wrap .i64 ((x5.length : Int) - 1)) && decide (IntKind.wrap .i64 ((x5.length : Int) - 1) ≤ (x5.length : Int)))).bind fun _ =>
      (chartularylaw07_below.f k x2).bind fun r2 =>
      bif decide ((x1 : Int) ≤ r2.1.1) then
        (chartularylaw07_Both.f k x1 r2.1.1 x3 x4 ((x5.take (IntKind.wrap .i64 ((x5.length : Int) - 1) : Int).toNat).drop (0 : Int).toNat) (o0_2.1, (o0_2.2.1, ())) o0_3 o0_4 o0_5 o1_0 o2_0).bind fun r3 =>
        (pledge_Node.f k r3.1.2.1 t1 (r3.2.1.2.2.1.1, (r3.2.1.2.2.1.2.1, ())) r3.2.1.2.2.2.1 r3.2.1.2.2.2.2.1 r3.2.1.2.2.2.2.2.1 o1_0 r3.2.2.1.1).bind fun r4 =>
        some ((r3.1.1, r4.1.1, ()), (((), (), (r4.2.1.2.2.1.1, (r4.2.1.2.2.1.2.1, ())), r4.2.1.2.2.2.1, r4.2.1.2.2.2.2.1, r4.2.1.2.2.2.2.2.1, ()), (r4.2.2.1.1, ()), ()))
      else
        (chartularylaw07_Both.f k (IntKind.wrap .i64 (x1 - r2.1.1)) (IntKind.wrap .i64 (x2 - r2.1.1)) false (⟨#[]⟩ : ByteArray) ((x5.take (IntKind.wrap .i64 ((x5.length : Int) - 1) : Int).toNat).drop (0 : Int).toNat) (o0_2.1, (o0_2.2.1, ())) o0_3 o0_4 o0_5 o1_0 o2_0).bind fun r5 =>
        (pledge_Node.f k t1 r5.1.1 (r5.2.1.2.2.1.1, (r5.2.1.2.2.1.2.1, ())) r5.2.1.2.2.2.1 r5.2.1.2.2.2.2.1 r5.2.1.2.2.2.2.2.1 o1_0 r5.2.2.1.1).bind fun r6 =>
        (pledge_Node.f k t1 r5.1.2.1 (r6.2.1.2.2.1.1, (r6.2.1.2.2.1.2.1, ())) r6.2.1.2.2.2.1 r6.2.1.2.2.2.2.1 r6.2.1.2.2.2.2.2.1 o1_0 r6.2.2.1.1).bind fun r7 =>
        some ((r6.1.1, r7.1.1, ()), (((), (), (r7.2.1.2.2.1.1, (r7.2.1.2.2.1.2.1, ())), r7.2.1.2.2.2.1, r7.2.1.2.2.2.2.1, r7.2.1.2.2.2.2.2.1, ()), (r7.2.2.1.1, ()), ()))
noncomputable def chartularylaw07_Both.f : Nat → Int → Int → Bool → ByteArray → (List ByteArray) → (ByteArray × ByteArray × Unit) → Bool → Bool → Int → (List (ByteArray × ByteArray)) → (List (ByteArray × ByteArray)) → Option chartularylaw07_Both.R
  | 0, _, _, _, _, _, _, _, _, _, _, _ => none
  | k + 1, x1, x2, x3, x4, x5, o0_2, o0_3, o0_4, o0_5, o1_0, o2_0 =>
    bif (x1 : Int) == x2 then
      bif x3 then
        some ((x4, x4, ()), (((), (), (o0_2.1, (o0_2.2.1, ())), o0_3, o0_4, o0_5, ()), (o2_0, ()), ()))
      else
      bif ((x5.length : Int) : Int) == 0 then
        some ((x4, x4, ()), (((), (), (o0_2.1, (o0_2.2.1, ())), o0_3, o0_4, o0_5, ()), (o2_0, ()), ()))
      else
        chartularylaw07_Both.j0 k x1 x2 x3 x4 x5 (o0_2.1, (o0_2.2.1, ())) o0_3 o0_4 o0_5 o1_0 o2_0
    else
    bif ((x5.length : Int) : Int) == 0 then
      some ((x4, x4, ()), (((), (), (o0_2.1, (o0_2.2.1, ())), o0_3, o0_4, o0_5, ()), (o2_0, ()), ()))
    else
      chartularylaw07_Both.j0 k x1 x2 x3 x4 x5 (o0_2.1, (o0_2.2.1, ())) o0_3 o0_4 o0_5 o1_0 o2_0
end
abbrev chartularylaw07_Both.ini : LSh := ⟨[(0, .ptr 1000000 0), (1, .val (.int .i64)), (2, .val (.int .i64)), (3, .val .bool), (4, .val .str), (5, .val (.sl .str))], [(1000000, 64, [.mref 1000001, .mref 1000002, .val (.cons .str (.cons .str .nil)), .val .bool, .val .bool, .val (.int .i64)]), (1000001, 61, [.mapd]), (1000002, 61, [.mapd])]⟩
abbrev chartularylaw07_Both.out : LSh := ⟨[(0, .val .str), (1, .val .str)], [(1000000, 64, [.mref 1000001, .mref 1000002, .val (.cons .str (.cons .str .nil)), .val .bool, .val .bool, .val (.int .i64)]), (1000002, 61, [.mapd])]⟩
abbrev chartularylaw07_Both.j0s : LSh := ⟨[(0, .ptr 1000000 0), (1, .val (.int .i64)), (2, .val (.int .i64)), (3, .val .bool), (4, .val .str), (5, .val (.sl .str))], [(1000000, 64, [.mref 1000001, .mref 1000002, .val (.cons .str (.cons .str .nil)), .val .bool, .val .bool, .val (.int .i64)]), (1000001, 61, [.mapd]), (1000002, 61, [.mapd])]⟩
noncomputable def chartularylaw07_Both.labF : Nat → Option (LabF chartularylaw07_Both.out.den)
  | 7 => some ⟨chartularylaw07_Both.j0s, fun k (d : (Unit × Int × Int × Bool × ByteArray × List ByteArray × Unit) × ((Unit × Unit × (ByteArray × ByteArray × Unit) × Bool × Bool × Int × Unit) × ((List (ByteArray × ByteArray)) × Unit) × ((List (ByteArray × ByteArray)) × Unit) × Unit)) => (chartularylaw07_Both.j0 k d.1.2.1 d.1.2.2.1 d.1.2.2.2.1 d.1.2.2.2.2.1 d.1.2.2.2.2.2.1 d.2.1.2.2.1 d.2.1.2.2.2.1 d.2.1.2.2.2.2.1 d.2.1.2.2.2.2.2.1 d.2.2.1.1 d.2.2.2.1.1 : Option chartularylaw07_Both.R)⟩
  | _ => none
noncomputable def chartularylaw07_Both.fd : FnD := ⟨Try.f31, chartularylaw07_Both.ini, chartularylaw07_Both.out, 2, [1000000, 1000001, 1000002], [1000001], chartularylaw07_Both.labF, fun k (d : (Unit × Int × Int × Bool × ByteArray × List ByteArray × Unit) × ((Unit × Unit × (ByteArray × ByteArray × Unit) × Bool × Bool × Int × Unit) × ((List (ByteArray × ByteArray)) × Unit) × ((List (ByteArray × ByteArray)) × Unit) × Unit)) => (chartularylaw07_Both.f k d.1.2.1 d.1.2.2.1 d.1.2.2.2.1 d.1.2.2.2.2.1 d.1.2.2.2.2.2.1 d.2.1.2.2.1 d.2.1.2.2.2.1 d.2.1.2.2.2.2.1 d.2.1.2.2.2.2.2.1 d.2.2.1.1 d.2.2.2.1.1 : Option chartularylaw07_Both.R)⟩

/-! ### merkle_both : function 44 -/
abbrev merkle_both.R := (ByteArray × ByteArray × Bool × Unit) × ((Unit × Unit × (ByteArray × ByteArray × Unit) × Bool × Bool × Int × Unit) × ((List (ByteArray × ByteArray)) × Unit) × Unit)
noncomputable def merkle_both.f : Nat → Int → Int → Bool → ByteArray → (List ByteArray) → (ByteArray × ByteArray × Unit) → Bool → Bool → Int → (List (ByteArray × ByteArray)) → (List (ByteArray × ByteArray)) → Option merkle_both.R
  | 0, _, _, _, _, _, _, _, _, _, _, _ => none
  | k + 1, x1, x2, x3, x4, x5, o0_2, o0_3, o0_4, o0_5, o1_0, o2_0 =>
    bif (x1 : Int) == x2 then
      bif x3 then
        some ((x4, x4, ((x5.length : Int) : Int) == 0, ()), (((), (), (o0_2.1, (o0_2.2.1, ())), o0_3, o0_4, o0_5, ()), (o2_0, ()), ()))
      else
      bif ((x5.length : Int) : Int) != 1 then
        some (((⟨#[]⟩ : ByteArray), (⟨#[]⟩ : ByteArray), false, ()), (((), (), (o0_2.1, (o0_2.2.1, ())), o0_3, o0_4, o0_5, ()), (o2_0, ()), ()))
      else
        (rdo x5 0).bind fun t1 =>
        (rdo x5 0).bind fun t2 =>
        some ((t1, t2, true, ()), (((), (), (o0_2.1, (o0_2.2.1, ())), o0_3, o0_4, o0_5, ()), (o2_0, ()), ()))
    else
    bif ((x5.length : Int) : Int) == 0 then
      some (((⟨#[]⟩ : ByteArray), (⟨#[]⟩ : ByteArray), false, ()), (((), (), (o0_2.1, (o0_2.2.1, ())), o0_3, o0_4, o0_5, ()), (o2_0, ()), ()))
    else
      (merkle_split.f k x2).bind fun r3 =>
      (rdo x5 (IntKind.wrap .i64 ((x5.length : Int) - 1))).bind fun t4 =>
      (ck (decide (0 ≤ 0) && decide (0 ≤ IntKind.wrap .i64 ((x5.length : Int) - 1)) && decide (IntKind.wrap .i64 ((x5.length : Int) - 1) ≤ (x5.length : Int)))).bind fun _ =>
      bif decide ((x1 : Int) ≤ r3.1.1) then
        (merkle_both.f k x1 r3.1.1 x3 x4 ((x5.take (IntKind.wrap .i64 ((x5.length : Int) - 1) : Int).toNat).drop (0 : Int).toNat) (o0_2.1, (o0_2.2.1, ())) o0_3 o0_4 o0_5 o1_0 o2_0).bind fun r5 =>
        (pledge_Node.f k r5.1.2.1 t4 (r5.2.1.2.2.1.1, (r5.2.1.2.2.1.2.1, ())) r5.2.1.2.2.2.1 r5.2.1.2.2.2.2.1 r5.2.1.2.2.2.2.2.1 o1_0 r5.2.2.1.1).bind fun r6 =>
        some ((r5.1.1, r6.1.1, r5.1.2.2.1, ()), (((), (), (r6.2.1.2.2.1.1, (r6.2.1.2.2.1.2.1, ())), r6.2.1.2.2.2.1, r6.2.1.2.2.2.2.1, r6.2.1.2.2.2.2.2.1, ()), (r6.2.2.1.1, ()), ()))
      else
        (merkle_both.f k (IntKind.wrap .i64 (x1 - r3.1.1)) (IntKind.wrap .i64 (x2 - r3.1.1)) false (⟨#[]⟩ : ByteArray) ((x5.take (IntKind.wrap .i64 ((x5.length : Int) - 1) : Int).toNat).drop (0 : Int).toNat) (o0_2.1, (o0_2.2.1, ())) o0_3 o0_4 o0_5 o1_0 o2_0).bind fun r7 =>
        (pledge_Node.f k t4 r7.1.1 (r7.2.1.2.2.1.1, (r7.2.1.2.2.1.2.1, ())) r7.2.1.2.2.2.1 r7.2.1.2.2.2.2.1 r7.2.1.2.2.2.2.2.1 o1_0 r7.2.2.1.1).bind fun r8 =>
        (pledge_Node.f k t4 r7.1.2.1 (r8.2.1.2.2.1.1, (r8.2.1.2.2.1.2.1, ())) r8.2.1.2.2.2.1 r8.2.1.2.2.2.2.1 r8.2.1.2.2.2.2.2.1 o1_0 r8.2.2.1.1).bind fun r9 =>
        some ((r8.1.1, r9.1.1, r7.1.2.2.1, ()), (((), (), (r9.2.1.2.2.1.1, (r9.2.1.2.2.1.2.1, ())), r9.2.1.2.2.2.1, r9.2.1.2.2.2.2.1, r9.2.1.2.2.2.2.2.1, ()), (r9.2.2.1.1, ()), ()))
abbrev merkle_both.ini : LSh := ⟨[(0, .ptr 1000000 0), (1, .val (.int .i64)), (2, .val (.int .i64)), (3, .val .bool), (4, .val .str), (5, .val (.sl .str))], [(1000000, 64, [.mref 1000001, .mref 1000002, .val (.cons .str (.cons .str .nil)), .val .bool, .val .bool, .val (.int .i64)]), (1000001, 61, [.mapd]), (1000002, 61, [.mapd])]⟩
abbrev merkle_both.out : LSh := ⟨[(0, .val .str), (1, .val .str), (2, .val .bool)], [(1000000, 64, [.mref 1000001, .mref 1000002, .val (.cons .str (.cons .str .nil)), .val .bool, .val .bool, .val (.int .i64)]), (1000002, 61, [.mapd])]⟩
noncomputable def merkle_both.labF : Nat → Option (LabF merkle_both.out.den)
  | _ => none
noncomputable def merkle_both.fd : FnD := ⟨Try.f44, merkle_both.ini, merkle_both.out, 3, [1000000, 1000001, 1000002], [1000001], merkle_both.labF, fun k (d : (Unit × Int × Int × Bool × ByteArray × List ByteArray × Unit) × ((Unit × Unit × (ByteArray × ByteArray × Unit) × Bool × Bool × Int × Unit) × ((List (ByteArray × ByteArray)) × Unit) × ((List (ByteArray × ByteArray)) × Unit) × Unit)) => (merkle_both.f k d.1.2.1 d.1.2.2.1 d.1.2.2.2.1 d.1.2.2.2.2.1 d.1.2.2.2.2.2.1 d.2.1.2.2.1 d.2.1.2.2.2.1 d.2.1.2.2.2.2.1 d.2.1.2.2.2.2.2.1 d.2.2.1.1 d.2.2.2.1.1 : Option merkle_both.R)⟩

/-! ### merkle_Grown : function 32 -/
abbrev merkle_Grown.R := (Int × Unit) × ((Unit × Unit × (ByteArray × ByteArray × Unit) × Bool × Bool × Int × Unit) × ((List (ByteArray × ByteArray)) × Unit) × Unit)
mutual
noncomputable def merkle_Grown.j0 : Nat → (List ByteArray) → (ByteArray × ByteArray × Unit) → Bool → Bool → Int → (List (ByteArray × ByteArray)) → (List (ByteArray × ByteArray)) → Int → ByteArray → Int → ByteArray → Option merkle_Grown.R
  | 0, _, _, _, _, _, _, _, _, _, _, _ => none
  | k + 1, x3, o0_2, o0_3, o0_4, o0_5, o1_0, o2_0, o5_0, o5_1, o6_0, o6_1 =>
    bif (o5_0 : Int) == 0 then
      (pledge_None.f k (o0_2.1, (o0_2.2.1, ())) o0_3 o0_4 o0_5 o1_0 o2_0).bind fun r3 =>
      bif !(o5_1.toList == r3.1.1.toList) then
        some ((19, ()), (((), (), (r3.2.1.2.2.1.1, (r3.2.1.2.2.1.2.1, ())), r3.2.1.2.2.2.1, r3.2.1.2.2.2.2.1, r3.2.1.2.2.2.2.2.1, ()), (r3.2.2.1.1, ()), ()))
      else
      bif (o6_0 : Int) == 0 then
        bif !(o6_1.toList == o5_1.toList) then
          some ((19, ()), (((), (), (r3.2.1.2.2.1.1, (r3.2.1.2.2.1.2.1, ())), r3.2.1.2.2.2.1, r3.2.1.2.2.2.2.1, r3.2.1.2.2.2.2.2.1, ()), (r3.2.2.1.1, ()), ()))
        else
        bif decide (((x3.length : Int) : Int) > 0) then
          some ((20, ()), (((), (), (r3.2.1.2.2.1.1, (r3.2.1.2.2.1.2.1, ())), r3.2.1.2.2.2.1, r3.2.1.2.2.2.2.1, r3.2.1.2.2.2.2.2.1, ()), (r3.2.2.1.1, ()), ()))
        else
          some ((0, ()), (((), (), (r3.2.1.2.2.1.1, (r3.2.1.2.2.1.2.1, ())), r3.2.1.2.2.2.1, r3.2.1.2.2.2.2.1, r3.2.1.2.2.2.2.2.1, ()), (r3.2.2.1.1, ()), ()))
      else
      bif decide (((x3.length : Int) : Int) > 0) then
        some ((20, ()), (((), (), (r3.2.1.2.2.1.1, (r3.2.1.2.2.1.2.1, ())), r3.2.1.2.2.2.1, r3.2.1.2.2.2.2.1, r3.2.1.2.2.2.2.2.1, ()), (r3.2.2.1.1, ()), ()))
      else
        some ((0, ()), (((), (), (r3.2.1.2.2.1.1, (r3.2.1.2.2.1.2.1, ())), r3.2.1.2.2.2.1, r3.2.1.2.2.2.2.1, r3.2.1.2.2.2.2.2.1, ()), (r3.2.2.1.1, ()), ()))
    else
      (merkle_both.f k o5_0 o6_0 true o5_1 x3 (o0_2.1, (o0_2.2.1, ())) o0_3 o0_4 o0_5 o1_0 o2_0).bind fun r4 =>
      bif !r4.1.2.2.1 then
        some ((20, ()), (((), (), (r4.2.1.2.2.1.1, (r4.2.1.2.2.1.2.1, ())), r4.2.1.2.2.2.1, r4.2.1.2.2.2.2.1, r4.2.1.2.2.2.2.2.1, ()), (r4.2.2.1.1, ()), ()))
      else
      bif !(r4.1.1.toList == o5_1.toList) then
        some ((19, ()), (((), (), (r4.2.1.2.2.1.1, (r4.2.1.2.2.1.2.1, ())), r4.2.1.2.2.2.1, r4.2.1.2.2.2.2.1, r4.2.1.2.2.2.2.2.1, ()), (r4.2.2.1.1, ()), ()))
      else
      bif !(r4.1.2.1.toList == o6_1.toList) then
        some ((19, ()), (((), (), (r4.2.1.2.2.1.1, (r4.2.1.2.2.1.2.1, ())), r4.2.1.2.2.2.1, r4.2.1.2.2.2.2.1, r4.2.1.2.2.2.2.2.1, ()), (r4.2.2.1.1, ()), ()))
      else
        some ((0, ()), (((), (), (r4.2.1.2.2.1.1, (r4.2.1.2.2.1.2.1, ())), r4.2.1.2.2.2.1, r4.2.1.2.2.2.2.1, r4.2.1.2.2.2.2.2.1, ()), (r4.2.2.1.1, ()), ()))
noncomputable def merkle_Grown.f : Nat → (Int × ByteArray × Unit) → (Int × ByteArray × Unit) → (List ByteArray) → (ByteArray × ByteArray × Unit) → Bool → Bool → Int → (List (ByteArray × ByteArray)) → (List (ByteArray × ByteArray)) → Option merkle_Grown.R
  | 0, _, _, _, _, _, _, _, _, _ => none
  | k + 1, x1, x2, x3, o0_2, o0_3, o0_4, o0_5, o1_0, o2_0 =>
    bif decide ((x1.1 : Int) < 0) then
      some ((21, ()), (((), (), (o0_2.1, (o0_2.2.1, ())), o0_3, o0_4, o0_5, ()), (o2_0, ()), ()))
    else
    bif decide ((x1.1 : Int) > x2.1) then
      some ((21, ()), (((), (), (o0_2.1, (o0_2.2.1, ())), o0_3, o0_4, o0_5, ()), (o2_0, ()), ()))
    else
    bif decide ((x2.1 : Int) > 65536) then
      some ((21, ()), (((), (), (o0_2.1, (o0_2.2.1, ())), o0_3, o0_4, o0_5, ()), (o2_0, ()), ()))
    else
      (merkle_sums.f k ([x1.2.1, x2.2.1] : List ByteArray)).bind fun r1 =>
      bif !r1.1.1 then
        some ((19, ()), (((), (), (o0_2.1, (o0_2.2.1, ())), o0_3, o0_4, o0_5, ()), (o2_0, ()), ()))
      else
      bif decide (((x3.length : Int) : Int) > 17) then
        some ((20, ()), (((), (), (o0_2.1, (o0_2.2.1, ())), o0_3, o0_4, o0_5, ()), (o2_0, ()), ()))
      else
        (merkle_sums.f k x3).bind fun r2 =>
        bif !r2.1.1 then
          some ((20, ()), (((), (), (o0_2.1, (o0_2.2.1, ())), o0_3, o0_4, o0_5, ()), (o2_0, ()), ()))
        else
          merkle_Grown.j0 k x3 (o0_2.1, (o0_2.2.1, ())) o0_3 o0_4 o0_5 o1_0 o2_0 x1.1 x1.2.1 x2.1 x2.2.1
end
abbrev merkle_Grown.ini : LSh := ⟨[(0, .ptr 1000000 0), (1, .val (.cons (.int .i64) (.cons .str .nil))), (2, .val (.cons (.int .i64) (.cons .str .nil))), (3, .val (.sl .str))], [(1000000, 64, [.mref 1000001, .mref 1000002, .val (.cons .str (.cons .str .nil)), .val .bool, .val .bool, .val (.int .i64)]), (1000001, 61, [.mapd]), (1000002, 61, [.mapd])]⟩
abbrev merkle_Grown.out : LSh := ⟨[(0, .val (.int .i64))], [(1000000, 64, [.mref 1000001, .mref 1000002, .val (.cons .str (.cons .str .nil)), .val .bool, .val .bool, .val (.int .i64)]), (1000002, 61, [.mapd])]⟩
abbrev merkle_Grown.j0s : LSh := ⟨[(0, .ptr 1000000 0), (3, .val (.sl .str)), (5, .ptr 5 0), (6, .ptr 6 0)], [(1000000, 64, [.mref 1000001, .mref 1000002, .val (.cons .str (.cons .str .nil)), .val .bool, .val .bool, .val (.int .i64)]), (1000001, 61, [.mapd]), (1000002, 61, [.mapd]), (5, 54, [.val (.int .i64), .val .str]), (6, 54, [.val (.int .i64), .val .str])]⟩
noncomputable def merkle_Grown.labF : Nat → Option (LabF merkle_Grown.out.den)
  | 15 => some ⟨merkle_Grown.j0s, fun k (d : (Unit × List ByteArray × Unit × Unit × Unit) × ((Unit × Unit × (ByteArray × ByteArray × Unit) × Bool × Bool × Int × Unit) × ((List (ByteArray × ByteArray)) × Unit) × ((List (ByteArray × ByteArray)) × Unit) × (Int × ByteArray × Unit) × (Int × ByteArray × Unit) × Unit)) => (merkle_Grown.j0 k d.1.2.1 d.2.1.2.2.1 d.2.1.2.2.2.1 d.2.1.2.2.2.2.1 d.2.1.2.2.2.2.2.1 d.2.2.1.1 d.2.2.2.1.1 d.2.2.2.2.1.1 d.2.2.2.2.1.2.1 d.2.2.2.2.2.1.1 d.2.2.2.2.2.1.2.1 : Option merkle_Grown.R)⟩
  | _ => none
noncomputable def merkle_Grown.fd : FnD := ⟨Try.f32, merkle_Grown.ini, merkle_Grown.out, 1, [1000000, 1000001, 1000002], [1000001], merkle_Grown.labF, fun k (d : (Unit × (Int × ByteArray × Unit) × (Int × ByteArray × Unit) × List ByteArray × Unit) × ((Unit × Unit × (ByteArray × ByteArray × Unit) × Bool × Bool × Int × Unit) × ((List (ByteArray × ByteArray)) × Unit) × ((List (ByteArray × ByteArray)) × Unit) × Unit)) => (merkle_Grown.f k d.1.2.1 d.1.2.2.1 d.1.2.2.2.1 d.2.1.2.2.1 d.2.1.2.2.2.1 d.2.1.2.2.2.2.1 d.2.1.2.2.2.2.2.1 d.2.2.1.1 d.2.2.2.1.1 : Option merkle_Grown.R)⟩

/-! ### chartularylaw07_MerkleGrowns : function 8 -/
abbrev chartularylaw07_MerkleGrowns.R := (Bool × Unit) × (Unit)
mutual
noncomputable def chartularylaw07_MerkleGrowns.j0 : Nat → (List ByteArray) → Int → ByteArray → Int → ByteArray → (ByteArray × ByteArray × Unit) → Bool → Bool → Int → (List (ByteArray × ByteArray)) → (List (ByteArray × ByteArray)) → Option chartularylaw07_MerkleGrowns.R
  | 0, _, _, _, _, _, _, _, _, _, _, _ => none
  | k + 1, x2, o3_0, o3_1, o4_0, o4_1, o0_2, o0_3, o0_4, o0_5, o1000_0, o1001_0 =>
    bif decide ((o3_0 : Int) < 0) then
      chartularylaw07_MerkleGrowns.j1 k x2 21 o3_0 o3_1 o4_0 o4_1 (o0_2.1, (o0_2.2.1, ())) o0_3 o0_4 o0_5 o1000_0 o1001_0
    else
    bif decide ((o3_0 : Int) > o4_0) then
      chartularylaw07_MerkleGrowns.j1 k x2 21 o3_0 o3_1 o4_0 o4_1 (o0_2.1, (o0_2.2.1, ())) o0_3 o0_4 o0_5 o1000_0 o1001_0
    else
    bif decide ((o4_0 : Int) > 65536) then
      chartularylaw07_MerkleGrowns.j1 k x2 21 o3_0 o3_1 o4_0 o4_1 (o0_2.1, (o0_2.2.1, ())) o0_3 o0_4 o0_5 o1000_0 o1001_0
    else
    bif ((o3_1.size : Int) : Int) != 32 then
      chartularylaw07_MerkleGrowns.j2 k x2 0 true o3_0 o3_1 o4_0 o4_1 (o0_2.1, (o0_2.2.1, ())) o0_3 o0_4 o0_5 o1000_0 o1001_0
    else
      chartularylaw07_MerkleGrowns.j2 k x2 0 (((o4_1.size : Int) : Int) != 32) o3_0 o3_1 o4_0 o4_1 (o0_2.1, (o0_2.2.1, ())) o0_3 o0_4 o0_5 o1000_0 o1001_0
noncomputable def chartularylaw07_MerkleGrowns.j2 : Nat → (List ByteArray) → Int → Bool → Int → ByteArray → Int → ByteArray → (ByteArray × ByteArray × Unit) → Bool → Bool → Int → (List (ByteArray × ByteArray)) → (List (ByteArray × ByteArray)) → Option chartularylaw07_MerkleGrowns.R
  | 0, _, _, _, _, _, _, _, _, _, _, _, _, _ => none
  | k + 1, x2, x8, x41, o3_0, o3_1, o4_0, o4_1, o0_2, o0_3, o0_4, o0_5, o1000_0, o1001_0 =>
    bif x41 then
      chartularylaw07_MerkleGrowns.j1 k x2 19 o3_0 o3_1 o4_0 o4_1 (o0_2.1, (o0_2.2.1, ())) o0_3 o0_4 o0_5 o1000_0 o1001_0
    else
    bif decide (((x2.length : Int) : Int) > 17) then
      chartularylaw07_MerkleGrowns.j3 k x2 x8 true o3_0 o3_1 o4_0 o4_1 (o0_2.1, (o0_2.2.1, ())) o0_3 o0_4 o0_5 o1000_0 o1001_0
    else
      (chartularylaw07_sums.f k x2).bind fun r4 =>
      chartularylaw07_MerkleGrowns.j3 k x2 x8 (!r4.1.1) o3_0 o3_1 o4_0 o4_1 (o0_2.1, (o0_2.2.1, ())) o0_3 o0_4 o0_5 o1000_0 o1001_0
noncomputable def chartularylaw07_MerkleGrowns.j3 : Nat → (List ByteArray) → Int → Bool → Int → ByteArray → Int → ByteArray → (ByteArray × ByteArray × Unit) → Bool → Bool → Int → (List (ByteArray × ByteArray)) → (List (ByteArray × ByteArray)) → Option chartularylaw07_MerkleGrowns.R
  | 0, _, _, _, _, _, _, _, _, _, _, _, _, _ => none
  | k + 1, x2, x8, x49, o3_0, o3_1, o4_0, o4_1, o0_2, o0_3, o0_4, o0_5, o1000_0, o1001_0 =>
    bif x49 then
      chartularylaw07_MerkleGrowns.j1 k x2 20 o3_0 o3_1 o4_0 o4_1 (o0_2.1, (o0_2.2.1, ())) o0_3 o0_4 o0_5 o1000_0 o1001_0
    else
    bif (o3_0 : Int) == 0 then
      (pledge_None.f k (o0_2.1, (o0_2.2.1, ())) o0_3 o0_4 o0_5 o1000_0 o1001_0).bind fun r5 =>
      bif !(o3_1.toList == r5.1.1.toList) then
        chartularylaw07_MerkleGrowns.j1 k x2 19 o3_0 o3_1 o4_0 o4_1 (r5.2.1.2.2.1.1, (r5.2.1.2.2.1.2.1, ())) r5.2.1.2.2.2.1 r5.2.1.2.2.2.2.1 r5.2.1.2.2.2.2.2.1 o1000_0 r5.2.2.1.1
      else
      bif (o4_0 : Int) == 0 then
        bif !(o4_1.toList == o3_1.toList) then
          chartularylaw07_MerkleGrowns.j1 k x2 19 o3_0 o3_1 o4_0 o4_1 (r5.2.1.2.2.1.1, (r5.2.1.2.2.1.2.1, ())) r5.2.1.2.2.2.1 r5.2.1.2.2.2.2.1 r5.2.1.2.2.2.2.2.1 o1000_0 r5.2.2.1.1
        else
        bif decide (((x2.length : Int) : Int) > 0) then
          chartularylaw07_MerkleGrowns.j1 k x2 20 o3_0 o3_1 o4_0 o4_1 (r5.2.1.2.2.1.1, (r5.2.1.2.2.1.2.1, ())) r5.2.1.2.2.2.1 r5.2.1.2.2.2.2.1 r5.2.1.2.2.2.2.2.1 o1000_0 r5.2.2.1.1
        else
          chartularylaw07_MerkleGrowns.j1 k x2 x8 o3_0 o3_1 o4_0 o4_1 (r5.2.1.2.2.1.1, (r5.2.1.2.2.1.2.1, ())) r5.2.1.2.2.2.1 r5.2.1.2.2.2.2.1 r5.2.1.2.2.2.2.2.1 o1000_0 r5.2.2.1.1
      else
      bif decide (((x2.length : Int) : Int) > 0) then
        chartularylaw07_MerkleGrowns.j1 k x2 20 o3_0 o3_1 o4_0 o4_1 (r5.2.1.2.2.1.1, (r5.2.1.2.2.1.2.1, ())) r5.2.1.2.2.2.1 r5.2.1.2.2.2.2.1 r5.2.1.2.2.2.2.2.1 o1000_0 r5.2.2.1.1
      else
        chartularylaw07_MerkleGrowns.j1 k x2 x8 o3_0 o3_1 o4_0 o4_1 (r5.2.1.2.2.1.1, (r5.2.1.2.2.1.2.1, ())) r5.2.1.2.2.2.1 r5.2.1.2.2.2.2.1 r5.2.1.2.2.2.2.2.1 o1000_0 r5.2.2.1.1
    else
      (chartularylaw07_Long.f k o3_0 o4_0 true).bind fun r6 =>
      bif ((x2.length : Int) : Int) != r6.1.1 then
        chartularylaw07_MerkleGrowns.j1 k x2 20 o3_0 o3_1 o4_0 o4_1 (o0_2.1, (o0_2.2.1, ())) o0_3 o0_4 o0_5 o1000_0 o1001_0
      else
        (chartularylaw07_Both.f k o3_0 o4_0 true o3_1 x2 (o0_2.1, (o0_2.2.1, ())) o0_3 o0_4 o0_5 o1000_0 o1001_0).bind fun r7 =>
        bif !(r7.1.1.toList == o3_1.toList) then
          chartularylaw07_MerkleGrowns.j1 k x2 19 o3_0 o3_1 o4_0 o4_1 (r7.2.1.2.2.1.1, (r7.2.1.2.2.1.2.1, ())) r7.2.1.2.2.2.1 r7.2.1.2.2.2.2.1 r7.2.1.2.2.2.2.2.1 o1000_0 r7.2.2.1.1
        else
        bif !(r7.1.2.1.toList == o4_1.toList) then
          chartularylaw07_MerkleGrowns.j1 k x2 19 o3_0 o3_1 o4_0 o4_1 (r7.2.1.2.2.1.1, (r7.2.1.2.2.1.2.1, ())) r7.2.1.2.2.2.1 r7.2.1.2.2.2.2.1 r7.2.1.2.2.2.2.2.1 o1000_0 r7.2.2.1.1
        else
          chartularylaw07_MerkleGrowns.j1 k x2 x8 o3_0 o3_1 o4_0 o4_1 (r7.2.1.2.2.1.1, (r7.2.1.2.2.1.2.1, ())) r7.2.1.2.2.2.1 r7.2.1.2.2.2.2.1 r7.2.1.2.2.2.2.2.1 o1000_0 r7.2.2.1.1
noncomputable def chartularylaw07_MerkleGrowns.j1 : Nat → (List ByteArray) → Int → Int → ByteArray → Int → ByteArray → (ByteArray × ByteArray × Unit) → Bool → Bool → Int → (List (ByteArray × ByteArray)) → (List (ByteArray × ByteArray)) → Option chartularylaw07_MerkleGrowns.R
  | 0, _, _, _, _, _, _, _, _, _, _, _, _ => none
  | k + 1, x2, x8, o3_0, o3_1, o4_0, o4_1, o0_2, o0_3, o0_4, o0_5, o1000_0, o1001_0 =>
    (merkle_Grown.f k (o3_0, (o3_1, ())) (o4_0, (o4_1, ())) x2 (o0_2.1, (o0_2.2.1, ())) o0_3 o0_4 o0_5 o1000_0 o1001_0).bind fun r2 =>
    bif (r2.1.1 : Int) == x8 then
      (chartularylaw07_awake.f k).bind fun r3 =>
      some ((r3.1.1, ()), (()))
    else
      some ((false, ()), (()))
noncomputable def chartularylaw07_MerkleGrowns.f : Nat → (Int × ByteArray × Unit) → (Int × ByteArray × Unit) → (List ByteArray) → Option chartularylaw07_MerkleGrowns.R
  | 0, _, _, _ => none
  | k + 1, x0, x1, x2 =>
    (mill_New.f k).bind fun r1 =>
    bif decide (((x2.length : Int) : Int) > 40) then
      (ck (decide (0 ≤ 0) && decide (0 ≤ 40) && decide (40 ≤ (x2.length : Int)))).bind fun _ =>
      chartularylaw07_MerkleGrowns.j0 k ((x2.take (40 : Int).toNat).drop (0 : Int).toNat) x0.1 x0.2.1 x1.1 x1.2.1 (r1.2.1.2.2.1.1, (r1.2.1.2.2.1.2.1, ())) r1.2.1.2.2.2.1 r1.2.1.2.2.2.2.1 r1.2.1.2.2.2.2.2.1 r1.2.2.1.1 r1.2.2.2.1.1
    else
      chartularylaw07_MerkleGrowns.j0 k x2 x0.1 x0.2.1 x1.1 x1.2.1 (r1.2.1.2.2.1.1, (r1.2.1.2.2.1.2.1, ())) r1.2.1.2.2.2.1 r1.2.1.2.2.2.2.1 r1.2.1.2.2.2.2.2.1 r1.2.2.1.1 r1.2.2.2.1.1
end
abbrev chartularylaw07_MerkleGrowns.ini : LSh := ⟨[(0, .val (.cons (.int .i64) (.cons .str .nil))), (1, .val (.cons (.int .i64) (.cons .str .nil))), (2, .val (.sl .str))], []⟩
abbrev chartularylaw07_MerkleGrowns.out : LSh := ⟨[(0, .val .bool)], []⟩
abbrev chartularylaw07_MerkleGrowns.j0s : LSh := ⟨[(2, .val (.sl .str)), (3, .ptr 3 0), (4, .ptr 4 0), (7, .ptr 1204000000 0)], [(3, 54, [.val (.int .i64), .val .str]), (4, 54, [.val (.int .i64), .val .str]), (1204000000, 64, [.mref 1204001000, .mref 1204001001, .val (.cons .str (.cons .str .nil)), .val .bool, .val .bool, .val (.int .i64)]), (1204001000, 61, [.mapd]), (1204001001, 61, [.mapd])]⟩
abbrev chartularylaw07_MerkleGrowns.j2s : LSh := ⟨[(2, .val (.sl .str)), (3, .ptr 3 0), (4, .ptr 4 0), (7, .ptr 1204000000 0), (8, .val (.int .i64)), (41, .val .bool)], [(3, 54, [.val (.int .i64), .val .str]), (4, 54, [.val (.int .i64), .val .str]), (1204000000, 64, [.mref 1204001000, .mref 1204001001, .val (.cons .str (.cons .str .nil)), .val .bool, .val .bool, .val (.int .i64)]), (1204001000, 61, [.mapd]), (1204001001, 61, [.mapd])]⟩
abbrev chartularylaw07_MerkleGrowns.j3s : LSh := ⟨[(2, .val (.sl .str)), (3, .ptr 3 0), (4, .ptr 4 0), (7, .ptr 1204000000 0), (8, .val (.int .i64)), (49, .val .bool)], [(3, 54, [.val (.int .i64), .val .str]), (4, 54, [.val (.int .i64), .val .str]), (1204000000, 64, [.mref 1204001000, .mref 1204001001, .val (.cons .str (.cons .str .nil)), .val .bool, .val .bool, .val (.int .i64)]), (1204001000, 61, [.mapd]), (1204001001, 61, [.mapd])]⟩
abbrev chartularylaw07_MerkleGrowns.j1s : LSh := ⟨[(2, .val (.sl .str)), (3, .ptr 3 0), (4, .ptr 4 0), (7, .ptr 1204000000 0), (8, .val (.int .i64))], [(3, 54, [.val (.int .i64), .val .str]), (4, 54, [.val (.int .i64), .val .str]), (1204000000, 64, [.mref 1204001000, .mref 1204001001, .val (.cons .str (.cons .str .nil)), .val .bool, .val .bool, .val (.int .i64)]), (1204001000, 61, [.mapd]), (1204001001, 61, [.mapd])]⟩
noncomputable def chartularylaw07_MerkleGrowns.labF : Nat → Option (LabF chartularylaw07_MerkleGrowns.out.den)
  | 9 => some ⟨chartularylaw07_MerkleGrowns.j0s, fun k (d : (List ByteArray × Unit × Unit × Unit × Unit) × ((Int × ByteArray × Unit) × (Int × ByteArray × Unit) × (Unit × Unit × (ByteArray × ByteArray × Unit) × Bool × Bool × Int × Unit) × ((List (ByteArray × ByteArray)) × Unit) × ((List (ByteArray × ByteArray)) × Unit) × Unit)) => (chartularylaw07_MerkleGrowns.j0 k d.1.1 d.2.1.1 d.2.1.2.1 d.2.2.1.1 d.2.2.1.2.1 d.2.2.2.1.2.2.1 d.2.2.2.1.2.2.2.1 d.2.2.2.1.2.2.2.2.1 d.2.2.2.1.2.2.2.2.2.1 d.2.2.2.2.1.1 d.2.2.2.2.2.1.1 : Option chartularylaw07_MerkleGrowns.R)⟩
  | 17 => some ⟨chartularylaw07_MerkleGrowns.j2s, fun k (d : (List ByteArray × Unit × Unit × Unit × Int × Bool × Unit) × ((Int × ByteArray × Unit) × (Int × ByteArray × Unit) × (Unit × Unit × (ByteArray × ByteArray × Unit) × Bool × Bool × Int × Unit) × ((List (ByteArray × ByteArray)) × Unit) × ((List (ByteArray × ByteArray)) × Unit) × Unit)) => (chartularylaw07_MerkleGrowns.j2 k d.1.1 d.1.2.2.2.2.1 d.1.2.2.2.2.2.1 d.2.1.1 d.2.1.2.1 d.2.2.1.1 d.2.2.1.2.1 d.2.2.2.1.2.2.1 d.2.2.2.1.2.2.2.1 d.2.2.2.1.2.2.2.2.1 d.2.2.2.1.2.2.2.2.2.1 d.2.2.2.2.1.1 d.2.2.2.2.2.1.1 : Option chartularylaw07_MerkleGrowns.R)⟩
  | 21 => some ⟨chartularylaw07_MerkleGrowns.j3s, fun k (d : (List ByteArray × Unit × Unit × Unit × Int × Bool × Unit) × ((Int × ByteArray × Unit) × (Int × ByteArray × Unit) × (Unit × Unit × (ByteArray × ByteArray × Unit) × Bool × Bool × Int × Unit) × ((List (ByteArray × ByteArray)) × Unit) × ((List (ByteArray × ByteArray)) × Unit) × Unit)) => (chartularylaw07_MerkleGrowns.j3 k d.1.1 d.1.2.2.2.2.1 d.1.2.2.2.2.2.1 d.2.1.1 d.2.1.2.1 d.2.2.1.1 d.2.2.1.2.1 d.2.2.2.1.2.2.1 d.2.2.2.1.2.2.2.1 d.2.2.2.1.2.2.2.2.1 d.2.2.2.1.2.2.2.2.2.1 d.2.2.2.2.1.1 d.2.2.2.2.2.1.1 : Option chartularylaw07_MerkleGrowns.R)⟩
  | 43 => some ⟨chartularylaw07_MerkleGrowns.j1s, fun k (d : (List ByteArray × Unit × Unit × Unit × Int × Unit) × ((Int × ByteArray × Unit) × (Int × ByteArray × Unit) × (Unit × Unit × (ByteArray × ByteArray × Unit) × Bool × Bool × Int × Unit) × ((List (ByteArray × ByteArray)) × Unit) × ((List (ByteArray × ByteArray)) × Unit) × Unit)) => (chartularylaw07_MerkleGrowns.j1 k d.1.1 d.1.2.2.2.2.1 d.2.1.1 d.2.1.2.1 d.2.2.1.1 d.2.2.1.2.1 d.2.2.2.1.2.2.1 d.2.2.2.1.2.2.2.1 d.2.2.2.1.2.2.2.2.1 d.2.2.2.1.2.2.2.2.2.1 d.2.2.2.2.1.1 d.2.2.2.2.2.1.1 : Option chartularylaw07_MerkleGrowns.R)⟩
  | _ => none
noncomputable def chartularylaw07_MerkleGrowns.fd : FnD := ⟨Try.f8, chartularylaw07_MerkleGrowns.ini, chartularylaw07_MerkleGrowns.out, 1, [], [], chartularylaw07_MerkleGrowns.labF, fun k (d : ((Int × ByteArray × Unit) × (Int × ByteArray × Unit) × List ByteArray × Unit) × (Unit)) => (chartularylaw07_MerkleGrowns.f k d.1.1 d.1.2.1 d.1.2.2.1 : Option chartularylaw07_MerkleGrowns.R)⟩

/-! ### chartularylaw07_MerkleBegins : function 9 -/
abbrev chartularylaw07_MerkleBegins.R := (Bool × Unit) × (Unit)
mutual
noncomputable def chartularylaw07_MerkleBegins.j0 : Nat → (List (Bool × ByteArray × ByteArray × ByteArray × Unit)) → (List ByteArray) → (List ByteArray) → (List ByteArray) → Option chartularylaw07_MerkleBegins.R
  | 0, _, _, _, _ => none
  | k + 1, x0, x1, x2, x3 =>
    orE (
      (mill_With_has.f k x0).bind fun r1 =>
      bif (r1.1.2.1 : Int) != 0 then
        (chartularylaw07_awake.f k).bind fun r2 =>
        some ((r2.1.1, ()), (()))
      else
      bif decide (((x1.length : Int) : Int) > 20) then
        (chartularylaw07_awake.f k).bind fun r3 =>
        some ((r3.1.1, ()), (()))
      else
      bif decide (((x2.length : Int) : Int) > 20) then
        (chartularylaw07_awake.f k).bind fun r4 =>
        some ((r4.1.1, ()), (()))
      else
        (chartularylaw07_sums.f k x1).bind fun r5 =>
        bif !r5.1.1 then
          (chartularylaw07_awake.f k).bind fun r6 =>
          some ((r6.1.1, ()), (()))
        else
          (chartularylaw07_sums.f k x2).bind fun r7 =>
          bif !r7.1.1 then
            (chartularylaw07_awake.f k).bind fun r8 =>
            some ((r8.1.1, ()), (()))
          else
            (merkle_Root.f k x1 (r1.2.1.2.2.1.1, (r1.2.1.2.2.1.2.1, ())) r1.2.1.2.2.2.1 r1.2.1.2.2.2.2.1 r1.2.1.2.2.2.2.2.1 r1.2.2.1.1 r1.2.2.2.1.1).bind fun r9 =>
            (merkle_Root.f k x2 (r9.2.1.2.2.1.1, (r9.2.1.2.2.1.2.1, ())) r9.2.1.2.2.2.1 r9.2.1.2.2.2.2.1 r9.2.1.2.2.2.2.2.1 r1.2.2.1.1 r9.2.2.1.1).bind fun r10 =>
            (merkle_Grown.f k ((x1.length : Int), (r9.1.1, ())) ((x2.length : Int), (r10.1.1, ())) x3 (r10.2.1.2.2.1.1, (r10.2.1.2.2.1.2.1, ())) r10.2.1.2.2.2.1 r10.2.1.2.2.2.2.1 r10.2.1.2.2.2.2.2.1 r1.2.2.1.1 r10.2.2.1.1).bind fun r11 =>
            (mill_Mill_Twins.f k (r11.2.1.2.2.1.1, (r11.2.1.2.2.1.2.1, ())) r11.2.1.2.2.2.1 r11.2.1.2.2.2.2.1 r11.2.1.2.2.2.2.2.1 r1.2.2.1.1 r11.2.2.1.1).bind fun r12 =>
            bif (r11.1.1 : Int) != 0 then
              (chartularylaw07_awake.f k).bind fun r13 =>
              some ((r13.1.1, ()), (()))
            else
            bif decide (((x1.length : Int) : Int) ≤ (x2.length : Int)) then
              (ck (decide (0 ≤ 0) && decide (0 ≤ (x1.length : Int)) && decide ((x1.length : Int) ≤ (x2.length : Int)))).bind fun _ =>
              (chartularylaw07_same.f k x1 ((x2.take (x1.length : Int).toNat).drop (0 : Int).toNat)).bind fun r14 =>
              bif r14.1.1 then
                (chartularylaw07_awake.f k).bind fun r15 =>
                some ((r15.1.1, ()), (()))
              else
              bif r12.1.2.2.1 then
                bif !(r12.1.1.toList == r12.1.2.1.toList) then
                  (chartularylaw07_awake.f k).bind fun r16 =>
                  some ((r16.1.1, ()), (()))
                else
                  some ((false, ()), (()))
              else
                some ((false, ()), (()))
            else
            bif r12.1.2.2.1 then
              bif !(r12.1.1.toList == r12.1.2.1.toList) then
                (chartularylaw07_awake.f k).bind fun r17 =>
                some ((r17.1.1, ()), (()))
              else
                some ((false, ()), (()))
            else
              some ((false, ()), (()))) (
      (mill_With_nil.f k x0).bind fun r18 =>
      bif (r18.1.2.1 : Int) != 0 then
        (chartularylaw07_awake.f k).bind fun r19 =>
        some ((r19.1.1, ()), (()))
      else
      bif decide (((x1.length : Int) : Int) > 20) then
        (chartularylaw07_awake.f k).bind fun r20 =>
        some ((r20.1.1, ()), (()))
      else
      bif decide (((x2.length : Int) : Int) > 20) then
        (chartularylaw07_awake.f k).bind fun r21 =>
        some ((r21.1.1, ()), (()))
      else
        (chartularylaw07_sums.f k x1).bind fun r22 =>
        bif !r22.1.1 then
          (chartularylaw07_awake.f k).bind fun r23 =>
          some ((r23.1.1, ()), (()))
        else
          (chartularylaw07_sums.f k x2).bind fun r24 =>
          bif !r24.1.1 then
            (chartularylaw07_awake.f k).bind fun r25 =>
            some ((r25.1.1, ()), (()))
          else
            none)
noncomputable def chartularylaw07_MerkleBegins.f : Nat → (List (Bool × ByteArray × ByteArray × ByteArray × Unit)) → (List ByteArray) → (List ByteArray) → (List ByteArray) → Option chartularylaw07_MerkleBegins.R
  | 0, _, _, _, _ => none
  | k + 1, x0, x1, x2, x3 =>
    bif decide (((x0.length : Int) : Int) > 10) then
      (ck (decide (0 ≤ 0) && decide (0 ≤ 10) && decide (10 ≤ (x0.length : Int)))).bind fun _ =>
      chartularylaw07_MerkleBegins.j0 k ((x0.take (10 : Int).toNat).drop (0 : Int).toNat) x1 x2 x3
    else
      chartularylaw07_MerkleBegins.j0 k x0 x1 x2 x3
end
abbrev chartularylaw07_MerkleBegins.ini : LSh := ⟨[(0, .val (.sl (.cons .bool (.cons .str (.cons .str (.cons .str .nil)))))), (1, .val (.sl .str)), (2, .val (.sl .str)), (3, .val (.sl .str))], []⟩
abbrev chartularylaw07_MerkleBegins.out : LSh := ⟨[(0, .val .bool)], []⟩
abbrev chartularylaw07_MerkleBegins.j0s : LSh := ⟨[(0, .val (.sl (.cons .bool (.cons .str (.cons .str (.cons .str .nil)))))), (1, .val (.sl .str)), (2, .val (.sl .str)), (3, .val (.sl .str))], []⟩
noncomputable def chartularylaw07_MerkleBegins.labF : Nat → Option (LabF chartularylaw07_MerkleBegins.out.den)
  | 7 => some ⟨chartularylaw07_MerkleBegins.j0s, fun k (d : ((List (Bool × ByteArray × ByteArray × ByteArray × Unit)) × List ByteArray × List ByteArray × List ByteArray × Unit) × (Unit)) => (chartularylaw07_MerkleBegins.j0 k d.1.1 d.1.2.1 d.1.2.2.1 d.1.2.2.2.1 : Option chartularylaw07_MerkleBegins.R)⟩
  | _ => none
noncomputable def chartularylaw07_MerkleBegins.fd : FnD := ⟨Try.f9, chartularylaw07_MerkleBegins.ini, chartularylaw07_MerkleBegins.out, 1, [], [], chartularylaw07_MerkleBegins.labF, fun k (d : ((List (Bool × ByteArray × ByteArray × ByteArray × Unit)) × List ByteArray × List ByteArray × List ByteArray × Unit) × (Unit)) => (chartularylaw07_MerkleBegins.f k d.1.1 d.1.2.1 d.1.2.2.1 d.1.2.2.2.1 : Option chartularylaw07_MerkleBegins.R)⟩

/-! ### merkle_grow : function 45 -/
abbrev merkle_grow.R := (List ByteArray × Unit) × ((Unit × Unit × (ByteArray × ByteArray × Unit) × Bool × Bool × Int × Unit) × ((List (ByteArray × ByteArray)) × Unit) × Unit)
noncomputable def merkle_grow.f : Nat → (List ByteArray) → Int → Bool → (ByteArray × ByteArray × Unit) → Bool → Bool → Int → (List (ByteArray × ByteArray)) → (List (ByteArray × ByteArray)) → Option merkle_grow.R
  | 0, _, _, _, _, _, _, _, _, _ => none
  | k + 1, x1, x2, x3, o0_2, o0_3, o0_4, o0_5, o1_0, o2_0 =>
    bif (x2 : Int) == (x1.length : Int) then
      bif x3 then
        some (([], ()), (((), (), (o0_2.1, (o0_2.2.1, ())), o0_3, o0_4, o0_5, ()), (o2_0, ()), ()))
      else
        (merkle_Root.f k x1 (o0_2.1, (o0_2.2.1, ())) o0_3 o0_4 o0_5 o1_0 o2_0).bind fun r1 =>
        some ((([r1.1.1] : List ByteArray), ()), (((), (), (r1.2.1.2.2.1.1, (r1.2.1.2.2.1.2.1, ())), r1.2.1.2.2.2.1, r1.2.1.2.2.2.2.1, r1.2.1.2.2.2.2.2.1, ()), (r1.2.2.1.1, ()), ()))
    else
      (merkle_split.f k (x1.length : Int)).bind fun r2 =>
      bif decide ((x2 : Int) ≤ r2.1.1) then
        (ck (decide (0 ≤ 0) && decide (0 ≤ r2.1.1) && decide (r2.1.1 ≤ (x1.length : Int)))).bind fun _ =>
        (merkle_grow.f k ((x1.take (r2.1.1 : Int).toNat).drop (0 : Int).toNat) x2 x3 (o0_2.1, (o0_2.2.1, ())) o0_3 o0_4 o0_5 o1_0 o2_0).bind fun r3 =>
        (ck (decide (0 ≤ r2.1.1) && decide (r2.1.1 ≤ (x1.length : Int)) && decide ((x1.length : Int) ≤ (x1.length : Int)))).bind fun _ =>
        (merkle_Root.f k ((x1.take (x1.length : Int).toNat).drop (r2.1.1 : Int).toNat) (r3.2.1.2.2.1.1, (r3.2.1.2.2.1.2.1, ())) r3.2.1.2.2.2.1 r3.2.1.2.2.2.2.1 r3.2.1.2.2.2.2.2.1 o1_0 r3.2.2.1.1).bind fun r4 =>
        (ck (decide ((r3.1.1.length + ([r4.1.1] : List ByteArray).length) * 16 ≤ 70368744177664))).bind fun _ =>
        some ((r3.1.1 ++ ([r4.1.1] : List ByteArray), ()), (((), (), (r4.2.1.2.2.1.1, (r4.2.1.2.2.1.2.1, ())), r4.2.1.2.2.2.1, r4.2.1.2.2.2.2.1, r4.2.1.2.2.2.2.2.1, ()), (r4.2.2.1.1, ()), ()))
      else
        (ck (decide (0 ≤ r2.1.1) && decide (r2.1.1 ≤ (x1.length : Int)) && decide ((x1.length : Int) ≤ (x1.length : Int)))).bind fun _ =>
        (merkle_grow.f k ((x1.take (x1.length : Int).toNat).drop (r2.1.1 : Int).toNat) (IntKind.wrap .i64 (x2 - r2.1.1)) false (o0_2.1, (o0_2.2.1, ())) o0_3 o0_4 o0_5 o1_0 o2_0).bind fun r5 =>
        (ck (decide (0 ≤ 0) && decide (0 ≤ r2.1.1) && decide (r2.1.1 ≤ (x1.length : Int)))).bind fun _ =>
        (merkle_Root.f k ((x1.take (r2.1.1 : Int).toNat).drop (0 : Int).toNat) (r5.2.1.2.2.1.1, (r5.2.1.2.2.1.2.1, ())) r5.2.1.2.2.2.1 r5.2.1.2.2.2.2.1 r5.2.1.2.2.2.2.2.1 o1_0 r5.2.2.1.1).bind fun r6 =>
        (ck (decide ((r5.1.1.length + ([r6.1.1] : List ByteArray).length) * 16 ≤ 70368744177664))).bind fun _ =>
        some ((r5.1.1 ++ ([r6.1.1] : List ByteArray), ()), (((), (), (r6.2.1.2.2.1.1, (r6.2.1.2.2.1.2.1, ())), r6.2.1.2.2.2.1, r6.2.1.2.2.2.2.1, r6.2.1.2.2.2.2.2.1, ()), (r6.2.2.1.1, ()), ()))
abbrev merkle_grow.ini : LSh := ⟨[(0, .ptr 1000000 0), (1, .val (.sl .str)), (2, .val (.int .i64)), (3, .val .bool)], [(1000000, 64, [.mref 1000001, .mref 1000002, .val (.cons .str (.cons .str .nil)), .val .bool, .val .bool, .val (.int .i64)]), (1000001, 61, [.mapd]), (1000002, 61, [.mapd])]⟩
abbrev merkle_grow.out : LSh := ⟨[(0, .own 5000000 9 .str)], [(1000000, 64, [.mref 1000001, .mref 1000002, .val (.cons .str (.cons .str .nil)), .val .bool, .val .bool, .val (.int .i64)]), (1000002, 61, [.mapd])]⟩
noncomputable def merkle_grow.labF : Nat → Option (LabF merkle_grow.out.den)
  | _ => none
noncomputable def merkle_grow.fd : FnD := ⟨Try.f45, merkle_grow.ini, merkle_grow.out, 1, [1000000, 1000001, 1000002], [1000001], merkle_grow.labF, fun k (d : (Unit × List ByteArray × Int × Bool × Unit) × ((Unit × Unit × (ByteArray × ByteArray × Unit) × Bool × Bool × Int × Unit) × ((List (ByteArray × ByteArray)) × Unit) × ((List (ByteArray × ByteArray)) × Unit) × Unit)) => (merkle_grow.f k d.1.2.1 d.1.2.2.1 d.1.2.2.2.1 d.2.1.2.2.1 d.2.1.2.2.2.1 d.2.1.2.2.2.2.1 d.2.1.2.2.2.2.2.1 d.2.2.1.1 d.2.2.2.1.1 : Option merkle_grow.R)⟩

/-! ### merkle_Growth : function 33 -/
abbrev merkle_Growth.R := (List ByteArray × Int × Unit) × ((Unit × Unit × (ByteArray × ByteArray × Unit) × Bool × Bool × Int × Unit) × ((List (ByteArray × ByteArray)) × Unit) × Unit)
mutual
noncomputable def merkle_Growth.j0 : Nat → (List ByteArray) → Int → (ByteArray × ByteArray × Unit) → Bool → Bool → Int → (List (ByteArray × ByteArray)) → (List (ByteArray × ByteArray)) → Option merkle_Growth.R
  | 0, _, _, _, _, _, _, _, _ => none
  | k + 1, x1, x2, o0_2, o0_3, o0_4, o0_5, o1_0, o2_0 =>
    bif (x2 : Int) == 0 then
      some ((([] : List ByteArray), 0, ()), (((), (), (o0_2.1, (o0_2.2.1, ())), o0_3, o0_4, o0_5, ()), (o2_0, ()), ()))
    else
      (merkle_grow.f k x1 x2 true (o0_2.1, (o0_2.2.1, ())) o0_3 o0_4 o0_5 o1_0 o2_0).bind fun r1 =>
      some ((r1.1.1, 0, ()), (((), (), (r1.2.1.2.2.1.1, (r1.2.1.2.2.1.2.1, ())), r1.2.1.2.2.2.1, r1.2.1.2.2.2.2.1, r1.2.1.2.2.2.2.2.1, ()), (r1.2.2.1.1, ()), ()))
noncomputable def merkle_Growth.f : Nat → (List ByteArray) → Int → (ByteArray × ByteArray × Unit) → Bool → Bool → Int → (List (ByteArray × ByteArray)) → (List (ByteArray × ByteArray)) → Option merkle_Growth.R
  | 0, _, _, _, _, _, _, _, _ => none
  | k + 1, x1, x2, o0_2, o0_3, o0_4, o0_5, o1_0, o2_0 =>
    bif decide ((x2 : Int) < 0) then
      some ((([] : List ByteArray), 21, ()), (((), (), (o0_2.1, (o0_2.2.1, ())), o0_3, o0_4, o0_5, ()), (o2_0, ()), ()))
    else
    bif decide ((x2 : Int) > (x1.length : Int)) then
      some ((([] : List ByteArray), 21, ()), (((), (), (o0_2.1, (o0_2.2.1, ())), o0_3, o0_4, o0_5, ()), (o2_0, ()), ()))
    else
      merkle_Growth.j0 k x1 x2 (o0_2.1, (o0_2.2.1, ())) o0_3 o0_4 o0_5 o1_0 o2_0
end
abbrev merkle_Growth.ini : LSh := ⟨[(0, .ptr 1000000 0), (1, .val (.sl .str)), (2, .val (.int .i64))], [(1000000, 64, [.mref 1000001, .mref 1000002, .val (.cons .str (.cons .str .nil)), .val .bool, .val .bool, .val (.int .i64)]), (1000001, 61, [.mapd]), (1000002, 61, [.mapd])]⟩
abbrev merkle_Growth.out : LSh := ⟨[(0, .val (.sl .str)), (1, .val (.int .i64))], [(1000000, 64, [.mref 1000001, .mref 1000002, .val (.cons .str (.cons .str .nil)), .val .bool, .val .bool, .val (.int .i64)]), (1000002, 61, [.mapd])]⟩
abbrev merkle_Growth.j0s : LSh := ⟨[(0, .ptr 1000000 0), (1, .val (.sl .str)), (2, .val (.int .i64))], [(1000000, 64, [.mref 1000001, .mref 1000002, .val (.cons .str (.cons .str .nil)), .val .bool, .val .bool, .val (.int .i64)]), (1000001, 61, [.mapd]), (1000002, 61, [.mapd])]⟩
noncomputable def merkle_Growth.labF : Nat → Option (LabF merkle_Growth.out.den)
  | 7 => some ⟨merkle_Growth.j0s, fun k (d : (Unit × List ByteArray × Int × Unit) × ((Unit × Unit × (ByteArray × ByteArray × Unit) × Bool × Bool × Int × Unit) × ((List (ByteArray × ByteArray)) × Unit) × ((List (ByteArray × ByteArray)) × Unit) × Unit)) => (merkle_Growth.j0 k d.1.2.1 d.1.2.2.1 d.2.1.2.2.1 d.2.1.2.2.2.1 d.2.1.2.2.2.2.1 d.2.1.2.2.2.2.2.1 d.2.2.1.1 d.2.2.2.1.1 : Option merkle_Growth.R)⟩
  | _ => none
noncomputable def merkle_Growth.fd : FnD := ⟨Try.f33, merkle_Growth.ini, merkle_Growth.out, 2, [1000000, 1000001, 1000002], [1000001], merkle_Growth.labF, fun k (d : (Unit × List ByteArray × Int × Unit) × ((Unit × Unit × (ByteArray × ByteArray × Unit) × Bool × Bool × Int × Unit) × ((List (ByteArray × ByteArray)) × Unit) × ((List (ByteArray × ByteArray)) × Unit) × Unit)) => (merkle_Growth.f k d.1.2.1 d.1.2.2.1 d.2.1.2.2.1 d.2.1.2.2.2.1 d.2.1.2.2.2.2.1 d.2.1.2.2.2.2.2.1 d.2.2.1.1 d.2.2.2.1.1 : Option merkle_Growth.R)⟩

/-! ### chartularylaw07_proof : function 46 -/
abbrev chartularylaw07_proof.R := (List ByteArray × Unit) × ((Unit × Unit × (ByteArray × ByteArray × Unit) × Bool × Bool × Int × Unit) × ((List (ByteArray × ByteArray)) × Unit) × Unit)
noncomputable def chartularylaw07_proof.f : Nat → (List ByteArray) → Int → Bool → (ByteArray × ByteArray × Unit) → Bool → Bool → Int → (List (ByteArray × ByteArray)) → (List (ByteArray × ByteArray)) → Option chartularylaw07_proof.R
  | 0, _, _, _, _, _, _, _, _, _ => none
  | k + 1, x1, x2, x3, o0_2, o0_3, o0_4, o0_5, o1_0, o2_0 =>
    bif (x2 : Int) == (x1.length : Int) then
      bif x3 then
        some (([], ()), (((), (), (o0_2.1, (o0_2.2.1, ())), o0_3, o0_4, o0_5, ()), (o2_0, ()), ()))
      else
      bif (x2 : Int) == (x1.length : Int) then
        (chartularylaw07_Root.f k x1 (o0_2.1, (o0_2.2.1, ())) o0_3 o0_4 o0_5 o1_0 o2_0).bind fun r1 =>
        some ((([r1.1.1] : List ByteArray), ()), (((), (), (r1.2.1.2.2.1.1, (r1.2.1.2.2.1.2.1, ())), r1.2.1.2.2.2.1, r1.2.1.2.2.2.2.1, r1.2.1.2.2.2.2.2.1, ()), (r1.2.2.1.1, ()), ()))
      else
        (chartularylaw07_below.f k (x1.length : Int)).bind fun r2 =>
        bif decide ((x2 : Int) ≤ r2.1.1) then
          (ck (decide (0 ≤ 0) && decide (0 ≤ r2.1.1) && decide (r2.1.1 ≤ (x1.length : Int)))).bind fun _ =>
          (chartularylaw07_proof.f k ((x1.take (r2.1.1 : Int).toNat).drop (0 : Int).toNat) x2 x3 (o0_2.1, (o0_2.2.1, ())) o0_3 o0_4 o0_5 o1_0 o2_0).bind fun r3 =>
          (ck (decide (0 ≤ r2.1.1) && decide (r2.1.1 ≤ (x1.length : Int)) && decide ((x1.length : Int) ≤ (x1.length : Int)))).bind fun _ =>
          (chartularylaw07_Root.f k ((x1.take (x1.length : Int).toNat).drop (r2.1.1 : Int).toNat) (r3.2.1.2.2.1.1, (r3.2.1.2.2.1.2.1, ())) r3.2.1.2.2.2.1 r3.2.1.2.2.2.2.1 r3.2.1.2.2.2.2.2.1 o1_0 r3.2.2.1.1).bind fun r4 =>
          (ck (decide ((r3.1.1.length + ([r4.1.1] : List ByteArray).length) * 16 ≤ 70368744177664))).bind fun _ =>
          some ((r3.1.1 ++ ([r4.1.1] : List ByteArray), ()), (((), (), (r4.2.1.2.2.1.1, (r4.2.1.2.2.1.2.1, ())), r4.2.1.2.2.2.1, r4.2.1.2.2.2.2.1, r4.2.1.2.2.2.2.2.1, ()), (r4.2.2.1.1, ()), ()))
        else
          (ck (decide (0 ≤ r2.1.1) && decide (r2.1.1 ≤ (x1.length : Int)) && decide ((x1.length : Int) ≤ (x1.length : Int)))).bind fun _ =>
          (chartularylaw07_proof.f k ((x1.take (x1.length : Int).toNat).drop (r2.1.1 : Int).toNat) (IntKind.wrap .i64 (x2 - r2.1.1)) false (o0_2.1, (o0_2.2.1, ())) o0_3 o0_4 o0_5 o1_0 o2_0).bind fun r5 =>
          (ck (decide (0 ≤ 0) && decide (0 ≤ r2.1.1) && decide (r2.1.1 ≤ (x1.length : Int)))).bind fun _ =>
          (chartularylaw07_Root.f k ((x1.take (r2.1.1 : Int).toNat).drop (0 : Int).toNat) (r5.2.1.2.2.1.1, (r5.2.1.2.2.1.2.1, ())) r5.2.1.2.2.2.1 r5.2.1.2.2.2.2.1 r5.2.1.2.2.2.2.2.1 o1_0 r5.2.2.1.1).bind fun r6 =>
          (ck (decide ((r5.1.1.length + ([r6.1.1] : List ByteArray).length) * 16 ≤ 70368744177664))).bind fun _ =>
          some ((r5.1.1 ++ ([r6.1.1] : List ByteArray), ()), (((), (), (r6.2.1.2.2.1.1, (r6.2.1.2.2.1.2.1, ())), r6.2.1.2.2.2.1, r6.2.1.2.2.2.2.1, r6.2.1.2.2.2.2.2.1, ()), (r6.2.2.1.1, ()), ()))
    else
    bif (x2 : Int) == (x1.length : Int) then
      (chartularylaw07_Root.f k x1 (o0_2.1, (o0_2.2.1, ())) o0_3 o0_4 o0_5 o1_0 o2_0).bind fun r7 =>
      some ((([r7.1.1] : List ByteArray), ()), (((), (), (r7.2.1.2.2.1.1, (r7.2.1.2.2.1.2.1, ())), r7.2.1.2.2.2.1, r7.2.1.2.2.2.2.1, r7.2.1.2.2.2.2.2.1, ()), (r7.2.2.1.1, ()), ()))
    else
      (chartularylaw07_below.f k (x1.length : Int)).bind fun r8 =>
      bif decide ((x2 : Int) ≤ r8.1.1) then
        (ck (decide (0 ≤ 0) && decide (0 ≤ r8.1.1) && decide (r8.1.1 ≤ (x1.length : Int)))).bind fun _ =>
        (chartularylaw07_proof.f k ((x1.take (r8.1.1 : Int).toNat).drop (0 : Int).toNat) x2 x3 (o0_2.1, (o0_2.2.1, ())) o0_3 o0_4 o0_5 o1_0 o2_0).bind fun r9 =>
        (ck (decide (0 ≤ r8.1.1) && decide (r8.1.1 ≤ (x1.length : Int)) && decide ((x1.length : Int) ≤ (x1.length : Int)))).bind fun _ =>
        (chartularylaw07_Root.f k ((x1.take (x1.length : Int).toNat).drop (r8.1.1 : Int).toNat) (r9.2.1.2.2.1.1, (r9.2.1.2.2.1.2.1, ())) r9.2.1.2.2.2.1 r9.2.1.2.2.2.2.1 r9.2.1.2.2.2.2.2.1 o1_0 r9.2.2.1.1).bind fun r10 =>
        (ck (decide ((r9.1.1.length + ([r10.1.1] : List ByteArray).length) * 16 ≤ 70368744177664))).bind fun _ =>
        some ((r9.1.1 ++ ([r10.1.1] : List ByteArray), ()), (((), (), (r10.2.1.2.2.1.1, (r10.2.1.2.2.1.2.1, ())), r10.2.1.2.2.2.1, r10.2.1.2.2.2.2.1, r10.2.1.2.2.2.2.2.1, ()), (r10.2.2.1.1, ()), ()))
      else
        (ck (decide (0 ≤ r8.1.1) && decide (r8.1.1 ≤ (x1.length : Int)) && decide ((x1.length : Int) ≤ (x1.length : Int)))).bind fun _ =>
        (chartularylaw07_proof.f k ((x1.take (x1.length : Int).toNat).drop (r8.1.1 : Int).toNat) (IntKind.wrap .i64 (x2 - r8.1.1)) false (o0_2.1, (o0_2.2.1, ())) o0_3 o0_4 o0_5 o1_0 o2_0).bind fun r11 =>
        (ck (decide (0 ≤ 0) && decide (0 ≤ r8.1.1) && decide (r8.1.1 ≤ (x1.length : Int)))).bind fun _ =>
        (chartularylaw07_Root.f k ((x1.take (r8.1.1 : Int).toNat).drop (0 : Int).toNat) (r11.2.1.2.2.1.1, (r11.2.1.2.2.1.2.1, ())) r11.2.1.2.2.2.1 r11.2.1.2.2.2.2.1 r11.2.1.2.2.2.2.2.1 o1_0 r11.2.2.1.1).bind fun r12 =>
        (ck (decide ((r11.1.1.length + ([r12.1.1] : List ByteArray).length) * 16 ≤ 70368744177664))).bind fun _ =>
        some ((r11.1.1 ++ ([r12.1.1] : List ByteArray), ()), (((), (), (r12.2.1.2.2.1.1, (r12.2.1.2.2.1.2.1, ())), r12.2.1.2.2.2.1, r12.2.1.2.2.2.2.1, r12.2.1.2.2.2.2.2.1, ()), (r12.2.2.1.1, ()), ()))
abbrev chartularylaw07_proof.ini : LSh := ⟨[(0, .ptr 1000000 0), (1, .val (.sl .str)), (2, .val (.int .i64)), (3, .val .bool)], [(1000000, 64, [.mref 1000001, .mref 1000002, .val (.cons .str (.cons .str .nil)), .val .bool, .val .bool, .val (.int .i64)]), (1000001, 61, [.mapd]), (1000002, 61, [.mapd])]⟩
abbrev chartularylaw07_proof.out : LSh := ⟨[(0, .own 5000000 9 .str)], [(1000000, 64, [.mref 1000001, .mref 1000002, .val (.cons .str (.cons .str .nil)), .val .bool, .val .bool, .val (.int .i64)]), (1000002, 61, [.mapd])]⟩
noncomputable def chartularylaw07_proof.labF : Nat → Option (LabF chartularylaw07_proof.out.den)
  | _ => none
noncomputable def chartularylaw07_proof.fd : FnD := ⟨Try.f46, chartularylaw07_proof.ini, chartularylaw07_proof.out, 1, [1000000, 1000001, 1000002], [1000001], chartularylaw07_proof.labF, fun k (d : (Unit × List ByteArray × Int × Bool × Unit) × ((Unit × Unit × (ByteArray × ByteArray × Unit) × Bool × Bool × Int × Unit) × ((List (ByteArray × ByteArray)) × Unit) × ((List (ByteArray × ByteArray)) × Unit) × Unit)) => (chartularylaw07_proof.f k d.1.2.1 d.1.2.2.1 d.1.2.2.2.1 d.2.1.2.2.1 d.2.1.2.2.2.1 d.2.1.2.2.2.2.1 d.2.1.2.2.2.2.2.1 d.2.2.1.1 d.2.2.2.1.1 : Option chartularylaw07_proof.R)⟩

/-! ### chartularylaw07_Growth : function 34 -/
abbrev chartularylaw07_Growth.R := (List ByteArray × Unit) × ((Unit × Unit × (ByteArray × ByteArray × Unit) × Bool × Bool × Int × Unit) × ((List (ByteArray × ByteArray)) × Unit) × Unit)
noncomputable def chartularylaw07_Growth.f : Nat → (List ByteArray) → Int → (ByteArray × ByteArray × Unit) → Bool → Bool → Int → (List (ByteArray × ByteArray)) → (List (ByteArray × ByteArray)) → Option chartularylaw07_Growth.R
  | 0, _, _, _, _, _, _, _, _ => none
  | k + 1, x1, x2, o0_2, o0_3, o0_4, o0_5, o1_0, o2_0 =>
    bif (x2 : Int) == 0 then
      some ((([] : List ByteArray), ()), (((), (), (o0_2.1, (o0_2.2.1, ())), o0_3, o0_4, o0_5, ()), (o2_0, ()), ()))
    else
      (chartularylaw07_proof.f k x1 x2 true (o0_2.1, (o0_2.2.1, ())) o0_3 o0_4 o0_5 o1_0 o2_0).bind fun r1 =>
      some ((r1.1.1, ()), (((), (), (r1.2.1.2.2.1.1, (r1.2.1.2.2.1.2.1, ())), r1.2.1.2.2.2.1, r1.2.1.2.2.2.2.1, r1.2.1.2.2.2.2.2.1, ()), (r1.2.2.1.1, ()), ()))
abbrev chartularylaw07_Growth.ini : LSh := ⟨[(0, .ptr 1000000 0), (1, .val (.sl .str)), (2, .val (.int .i64))], [(1000000, 64, [.mref 1000001, .mref 1000002, .val (.cons .str (.cons .str .nil)), .val .bool, .val .bool, .val (.int .i64)]), (1000001, 61, [.mapd]), (1000002, 61, [.mapd])]⟩
abbrev chartularylaw07_Growth.out : LSh := ⟨[(0, .val (.sl .str))], [(1000000, 64, [.mref 1000001, .mref 1000002, .val (.cons .str (.cons .str .nil)), .val .bool, .val .bool, .val (.int .i64)]), (1000002, 61, [.mapd])]⟩
noncomputable def chartularylaw07_Growth.labF : Nat → Option (LabF chartularylaw07_Growth.out.den)
  | _ => none
noncomputable def chartularylaw07_Growth.fd : FnD := ⟨Try.f34, chartularylaw07_Growth.ini, chartularylaw07_Growth.out, 1, [1000000, 1000001, 1000002], [1000001], chartularylaw07_Growth.labF, fun k (d : (Unit × List ByteArray × Int × Unit) × ((Unit × Unit × (ByteArray × ByteArray × Unit) × Bool × Bool × Int × Unit) × ((List (ByteArray × ByteArray)) × Unit) × ((List (ByteArray × ByteArray)) × Unit) × Unit)) => (chartularylaw07_Growth.f k d.1.2.1 d.1.2.2.1 d.2.1.2.2.1 d.2.1.2.2.2.1 d.2.1.2.2.2.2.1 d.2.1.2.2.2.2.2.1 d.2.2.1.1 d.2.2.2.1.1 : Option chartularylaw07_Growth.R)⟩

/-! ### chartularylaw07_MerkleGrowths : function 10 -/
abbrev chartularylaw07_MerkleGrowths.R := (Bool × Unit) × (Unit)
mutual
noncomputable def chartularylaw07_MerkleGrowths.j0 : Nat → Int → (List ByteArray) → (List ByteArray) → Int → Bool → (ByteArray × ByteArray × Unit) → Bool → Bool → Int → (List (ByteArray × ByteArray)) → (List (ByteArray × ByteArray)) → Option chartularylaw07_MerkleGrowths.R
  | 0, _, _, _, _, _, _, _, _, _, _, _ => none
  | k + 1, x1, x6, x7, x8, x29, o0_2, o0_3, o0_4, o0_5, o1000_0, o1001_0 =>
    bif x29 then
      bif ((x7.length : Int) : Int) == 0 then
        bif (x8 : Int) == 21 then
          (chartularylaw07_awake.f k).bind fun r4 =>
          some ((r4.1.1, ()), (()))
        else
          some ((false, ()), (()))
      else
        some ((false, ()), (()))
    else
      (ck (decide (0 ≤ 0) && decide (0 ≤ x1) && decide (x1 ≤ (x6.length : Int)))).bind fun _ =>
      (merkle_Root.f k ((x6.take x1.toNat).drop (0 : Int).toNat) (o0_2.1, (o0_2.2.1, ())) o0_3 o0_4 o0_5 o1000_0 o1001_0).bind fun r5 =>
      (merkle_Root.f k x6 (r5.2.1.2.2.1.1, (r5.2.1.2.2.1.2.1, ())) r5.2.1.2.2.2.1 r5.2.1.2.2.2.2.1 r5.2.1.2.2.2.2.2.1 o1000_0 r5.2.2.1.1).bind fun r6 =>
      bif (x8 : Int) == 0 then
        (chartularylaw07_Growth.f k x6 x1 (r6.2.1.2.2.1.1, (r6.2.1.2.2.1.2.1, ())) r6.2.1.2.2.2.1 r6.2.1.2.2.2.2.1 r6.2.1.2.2.2.2.2.1 o1000_0 r6.2.2.1.1).bind fun r7 =>
        (chartularylaw07_same.f k x7 r7.1.1).bind fun r8 =>
        bif r8.1.1 then
          (merkle_Grown.f k (x1, (r5.1.1, ())) ((x6.length : Int), (r6.1.1, ())) x7 (r7.2.1.2.2.1.1, (r7.2.1.2.2.1.2.1, ())) r7.2.1.2.2.2.1 r7.2.1.2.2.2.2.1 r7.2.1.2.2.2.2.2.1 o1000_0 r7.2.2.1.1).bind fun r9 =>
          bif (r9.1.1 : Int) == 0 then
            (chartularylaw07_awake.f k).bind fun r10 =>
            some ((r10.1.1, ()), (()))
          else
            some ((false, ()), (()))
        else
          some ((false, ()), (()))
      else
        some ((false, ()), (()))
noncomputable def chartularylaw07_MerkleGrowths.f : Nat → (List ByteArray) → Int → Option chartularylaw07_MerkleGrowths.R
  | 0, _, _ => none
  | k + 1, x0, x1 =>
    (mill_New.f k).bind fun r1 =>
    (chartularylaw07_Leaves.f k x0 (r1.2.1.2.2.1.1, (r1.2.1.2.2.1.2.1, ())) r1.2.1.2.2.2.1 r1.2.1.2.2.2.2.1 r1.2.1.2.2.2.2.2.1 r1.2.2.1.1 r1.2.2.2.1.1).bind fun r2 =>
    (merkle_Growth.f k r2.1.1 x1 (r2.2.1.2.2.1.1, (r2.2.1.2.2.1.2.1, ())) r2.2.1.2.2.2.1 r2.2.1.2.2.2.2.1 r2.2.1.2.2.2.2.2.1 r1.2.2.1.1 r2.2.2.1.1).bind fun r3 =>
    bif decide ((x1 : Int) < 0) then
      chartularylaw07_MerkleGrowths.j0 k x1 r2.1.1 r3.1.1 r3.1.2.1 true (r3.2.1.2.2.1.1, (r3.2.1.2.2.1.2.1, ())) r3.2.1.2.2.2.1 r3.2.1.2.2.2.2.1 r3.2.1.2.2.2.2.2.1 r1.2.2.1.1 r3.2.2.1.1
    else
      chartularylaw07_MerkleGrowths.j0 k x1 r2.1.1 r3.1.1 r3.1.2.1 (decide ((x1 : Int) > (r2.1.1.length : Int))) (r3.2.1.2.2.1.1, (r3.2.1.2.2.1.2.1, ())) r3.2.1.2.2.2.1 r3.2.1.2.2.2.2.1 r3.2.1.2.2.2.2.2.1 r1.2.2.1.1 r3.2.2.1.1
end
abbrev chartularylaw07_MerkleGrowths.ini : LSh := ⟨[(0, .val (.sl .str)), (1, .val (.int .i64))], []⟩
abbrev chartularylaw07_MerkleGrowths.out : LSh := ⟨[(0, .val .bool)], []⟩
abbrev chartularylaw07_MerkleGrowths.j0s : LSh := ⟨[(1, .val (.int .i64)), (5, .ptr 1204000000 0), (6, .val (.sl .str)), (7, .val (.sl .str)), (8, .val (.int .i64)), (29, .val .bool)], [(1204000000, 64, [.mref 1204001000, .mref 1204001001, .val (.cons .str (.cons .str .nil)), .val .bool, .val .bool, .val (.int .i64)]), (1204001000, 61, [.mapd]), (1204001001, 61, [.mapd])]⟩
noncomputable def chartularylaw07_MerkleGrowths.labF : Nat → Option (LabF chartularylaw07_MerkleGrowths.out.den)
  | 11 => some ⟨chartularylaw07_MerkleGrowths.j0s, fun k (d : (Int × Unit × List ByteArray × List ByteArray × Int × Bool × Unit) × ((Unit × Unit × (ByteArray × ByteArray × Unit) × Bool × Bool × Int × Unit) × ((List (ByteArray × ByteArray)) × Unit) × ((List (ByteArray × ByteArray)) × Unit) × Unit)) => (chartularylaw07_MerkleGrowths.j0 k d.1.1 d.1.2.2.1 d.1.2.2.2.1 d.1.2.2.2.2.1 d.1.2.2.2.2.2.1 d.2.1.2.2.1 d.2.1.2.2.2.1 d.2.1.2.2.2.2.1 d.2.1.2.2.2.2.2.1 d.2.2.1.1 d.2.2.2.1.1 : Option chartularylaw07_MerkleGrowths.R)⟩
  | _ => none
noncomputable def chartularylaw07_MerkleGrowths.fd : FnD := ⟨Try.f10, chartularylaw07_MerkleGrowths.ini, chartularylaw07_MerkleGrowths.out, 1, [], [], chartularylaw07_MerkleGrowths.labF, fun k (d : (List ByteArray × Int × Unit) × (Unit)) => (chartularylaw07_MerkleGrowths.f k d.1.1 d.1.2.1 : Option chartularylaw07_MerkleGrowths.R)⟩

noncomputable def Γ (k : Nat) : Gam := [(11, [mill_New.fd.sp k]), (49, [sha_New.fd.sp k]), (56, [bits_RotateLeft32.fd.sp k]), (55, [sha_turn.fd.sp k]), (53, [sha_words.fd.sp k]), (54, [sha_rounds.fd.sp k]), (52, [sha_State_mix.fd.sp k]), (50, [sha_State_Write.fd.sp k]), (51, [sha_State_Sum.fd.sp k]), (47, [sha_Sum.fd.sp k]), (42, [mill_name.fd.sp k]), (43, [mill_Mill_none.fd.sp k]), (48, [mill_Mill_note.fd.sp k]), (41, [mill_Mill_Sum.fd.sp k]), (35, [pledge_Leaf.fd.sp k]), (12, [chartularylaw07_Leaves.fd.sp k]), (24, [pledge_None.fd.sp k]), (36, [merkle_split.fd.sp k]), (37, [pledge_Node.fd.sp k]), (18, [merkle_Root.fd.sp k]), (13, [merkle_Path.fd.sp k]), (14, [chartularylaw07_awake.fd.sp k]), (38, [merkle_sums.fd.sp k]), (39, [merkle_climb.fd.sp k]), (15, [merkle_Climb.fd.sp k]), (16, [chartularylaw07_same.fd.sp k]), (40, [chartularylaw07_below.fd.sp k]), (27, [chartularylaw07_Root.fd.sp k]), (17, [chartularylaw07_Path.fd.sp k]), (3, [chartularylaw07_MerklePaths.fd.sp k]), (19, [chartularylaw07_sums.fd.sp k]), (20, [chartularylaw07_Depth.fd.sp k]), (21, [chartularylaw07_Climb.fd.sp k]), (4, [chartularylaw07_MerkleClimbs.fd.sp k]), (28, [mill_With_has.fd.sp k, mill_With_nil.fd.sp k]), (28, [mill_With_has.fd.sp k, mill_With_nil.fd.sp k]), (29, [mill_Mill_Twins.fd.sp k]), (7, [chartularylaw07_MerkleLeaf.fd.sp k]), (30, [chartularylaw07_Long.fd.sp k]), (31, [chartularylaw07_Both.fd.sp k]), (44, [merkle_both.fd.sp k]), (32, [merkle_Grown.fd.sp k]), (8, [chartularylaw07_MerkleGrowns.fd.sp k]), (9, [chartularylaw07_MerkleBegins.fd.sp k]), (45, [merkle_grow.fd.sp k]), (33, [merkle_Growth.fd.sp k]), (46, [chartularylaw07_proof.fd.sp k]), (34, [chartularylaw07_Growth.fd.sp k]), (10, [chartularylaw07_MerkleGrowths.fd.sp k])]
end Go.Proofs.Ytoceopdoedmgoaa.E
