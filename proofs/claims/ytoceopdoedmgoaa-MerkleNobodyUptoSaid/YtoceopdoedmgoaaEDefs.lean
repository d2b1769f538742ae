import Derived.Test.YtoceopdoedmgoaaEDefs0
namespace Go.Proofs.Ytoceopdoedmgoaa.E
open Go Go.Proofs.Ytoceopdoedmgoaa.Eng Go.Proofs
set_option linter.unusedVariables false
set_option maxRecDepth 100000
/-! ### pledge_Node : function 37 -/
abbrev pledge_Node.R := (ByteArray × Unit) × ((Unit × Unit × (ByteArray × ByteArray × Unit) × Bool × Bool × Int × Unit) × ((List (ByteArray × ByteArray)) × Unit) × Unit)
noncomputable def pledge_Node.f : Nat → ByteArray → ByteArray → (ByteArray × ByteArray × Unit) → Bool → Bool → Int → (List (ByteArray × ByteArray)) → (List (ByteArray × ByteArray)) → Option pledge_Node.R
  | 0, _, _, _, _, _, _, _, _ => none
  | k + 1, x1, x2, o0_2, o0_3, o0_4, o0_5, o1_0, o2_0 =>
    (ck (decide ((⟨#[1]⟩ : ByteArray).size + x1.size ≤ 9223372036854775807))).bind fun _ =>
    (ck (decide (((⟨#[1]⟩ : ByteArray) ++ x1).size + x2.size ≤ 9223372036854775807))).bind fun _ =>
    (mill_Mill_Sum.f k (((⟨#[1]⟩ : ByteArray) ++ x1) ++ x2) (o0_2.1, (o0_2.2.1, ())) o0_3 o0_4 o0_5 o1_0 o2_0).bind fun r1 =>
    some ((r1.1.1, ()), (((), (), (r1.2.1.2.2.1.1, (r1.2.1.2.2.1.2.1, ())), r1.2.1.2.2.2.1, r1.2.1.2.2.2.2.1, r1.2.1.2.2.2.2.2.1, ()), (r1.2.2.1.1, ()), ()))
abbrev pledge_Node.ini : LSh := ⟨[(0, .ptr 1000000 0), (1, .val .str), (2, .val .str)], [(1000000, 64, [.mref 1000001, .mref 1000002, .val (.cons .str (.cons .str .nil)), .val .bool, .val .bool, .val (.int .i64)]), (1000001, 61, [.mapd]), (1000002, 61, [.mapd])]⟩
abbrev pledge_Node.out : LSh := ⟨[(0, .val .str)], [(1000000, 64, [.mref 1000001, .mref 1000002, .val (.cons .str (.cons .str .nil)), .val .bool, .val .bool, .val (.int .i64)]), (1000002, 61, [.mapd])]⟩
noncomputable def pledge_Node.labF : Nat → Option (LabF pledge_Node.out.den)
  | _ => none
noncomputable def pledge_Node.fd : FnD := ⟨Try.f37, pledge_Node.ini, pledge_Node.out, 1, [1000000, 1000001, 1000002], [1000001], pledge_Node.labF, fun k (d : (Unit × ByteArray × ByteArray × Unit) × ((Unit × Unit × (ByteArray × ByteArray × Unit) × Bool × Bool × Int × Unit) × ((List (ByteArray × ByteArray)) × Unit) × ((List (ByteArray × ByteArray)) × Unit) × Unit)) => (pledge_Node.f k d.1.2.1 d.1.2.2.1 d.2.1.2.2.1 d.2.1.2.2.2.1 d.2.1.2.2.2.2.1 d.2.1.2.2.2.2.2.1 d.2.2.1.1 d.2.2.2.1.1 : Option pledge_Node.R)⟩

/-! ### merkle_Root : function 18 -/
abbrev merkle_Root.R := (ByteArray × Unit) × ((Unit × Unit × (ByteArray × ByteArray × Unit) × Bool × Bool × Int × Unit) × ((List (ByteArray × ByteArray)) × Unit) × Unit)
noncomputable def merkle_Root.f : Nat → (List ByteArray) → (ByteArray × ByteArray × Unit) → Bool → Bool → Int → (List (ByteArray × ByteArray)) → (List (ByteArray × ByteArray)) → Option merkle_Root.R
  | 0, _, _, _, _, _, _, _ => none
  | k + 1, x1, o0_2, o0_3, o0_4, o0_5, o1_0, o2_0 =>
    bif ((x1.length : Int) : Int) == 0 then
      (pledge_None.f k (o0_2.1, (o0_2.2.1, ())) o0_3 o0_4 o0_5 o1_0 o2_0).bind fun r1 =>
      some ((r1.1.1, ()), (((), (), (r1.2.1.2.2.1.1, (r1.2.1.2.2.1.2.1, ())), r1.2.1.2.2.2.1, r1.2.1.2.2.2.2.1, r1.2.1.2.2.2.2.2.1, ()), (r1.2.2.1.1, ()), ()))
    else
    bif ((x1.length : Int) : Int) == 1 then
      (rdo x1 0).bind fun t2 =>
      some ((t2, ()), (((), (), (o0_2.1, (o0_2.2.1, ())), o0_3, o0_4, o0_5, ()), (o2_0, ()), ()))
    else
      (merkle_split.f k (x1.length : Int)).bind fun r3 =>
      (ck (decide (0 ≤ 0) && decide (0 ≤ r3.1.1) && decide (r3.1.1 ≤ r3.1.1) && decide (r3.1.1 ≤ (x1.length : Int)))).bind fun _ =>
      (merkle_Root.f k ((x1.take (r3.1.1 : Int).toNat).drop (0 : Int).toNat) (o0_2.1, (o0_2.2.1, ())) o0_3 o0_4 o0_5 o1_0 o2_0).bind fun r4 =>
      (ck (decide (0 ≤ r3.1.1) && decide (r3.1.1 ≤ (x1.length : Int)) && decide ((x1.length : Int) ≤ (x1.length : Int)))).bind fun _ =>
      (merkle_Root.f k ((x1.take (x1.length : Int).toNat).drop (r3.1.1 : Int).toNat) (r4.2.1.2.2.1.1, (r4.2.1.2.2.1.2.1, ())) r4.2.1.2.2.2.1 r4.2.1.2.2.2.2.1 r4.2.1.2.2.2.2.2.1 o1_0 r4.2.2.1.1).bind fun r5 =>
      (pledge_Node.f k r4.1.1 r5.1.1 (r5.2.1.2.2.1.1, (r5.2.1.2.2.1.2.1, ())) r5.2.1.2.2.2.1 r5.2.1.2.2.2.2.1 r5.2.1.2.2.2.2.2.1 o1_0 r5.2.2.1.1).bind fun r6 =>
      some ((r6.1.1, ()), (((), (), (r6.2.1.2.2.1.1, (r6.2.1.2.2.1.2.1, ())), r6.2.1.2.2.2.1, r6.2.1.2.2.2.2.1, r6.2.1.2.2.2.2.2.1, ()), (r6.2.2.1.1, ()), ()))
abbrev merkle_Root.ini : LSh := ⟨[(0, .ptr 1000000 0), (1, .val (.sl .str))], [(1000000, 64, [.mref 1000001, .mref 1000002, .val (.cons .str (.cons .str .nil)), .val .bool, .val .bool, .val (.int .i64)]), (1000001, 61, [.mapd]), (1000002, 61, [.mapd])]⟩
abbrev merkle_Root.out : LSh := ⟨[(0, .val .str)], [(1000000, 64, [.mref 1000001, .mref 1000002, .val (.cons .str (.cons .str .nil)), .val .bool, .val .bool, .val (.int .i64)]), (1000002, 61, [.mapd])]⟩
noncomputable def merkle_Root.labF : Nat → Option (LabF merkle_Root.out.den)
  | _ => none
noncomputable def merkle_Root.fd : FnD := ⟨Try.f18, merkle_Root.ini, merkle_Root.out, 1, [1000000, 1000001, 1000002], [1000001], merkle_Root.labF, fun k (d : (Unit × List ByteArray × Unit) × ((Unit × Unit × (ByteArray × ByteArray × Unit) × Bool × Bool × Int × Unit) × ((List (ByteArray × ByteArray)) × Unit) × ((List (ByteArray × ByteArray)) × Unit) × Unit)) => (merkle_Root.f k d.1.2.1 d.2.1.2.2.1 d.2.1.2.2.2.1 d.2.1.2.2.2.2.1 d.2.1.2.2.2.2.2.1 d.2.2.1.1 d.2.2.2.1.1 : Option merkle_Root.R)⟩

/-! ### merkle_Path : function 13 -/
abbrev merkle_Path.R := (List ByteArray × Int × Unit) × ((Unit × Unit × (ByteArray × ByteArray × Unit) × Bool × Bool × Int × Unit) × ((List (ByteArray × ByteArray)) × Unit) × Unit)
mutual
noncomputable def merkle_Path.j0 : Nat → (List ByteArray) → Int → (ByteArray × ByteArray × Unit) → Bool → Bool → Int → (List (ByteArray × ByteArray)) → (List (ByteArray × ByteArray)) → Option merkle_Path.R
  | 0, _, _, _, _, _, _, _, _ => none
  | k + 1, x1, x2, o0_2, o0_3, o0_4, o0_5, o1_0, o2_0 =>
    bif ((x1.length : Int) : Int) == 1 then
      some (([], 0, ()), (((), (), (o0_2.1, (o0_2.2.1, ())), o0_3, o0_4, o0_5, ()), (o2_0, ()), ()))
    else
      (merkle_split.f k (x1.length : Int)).bind fun r1 =>
      bif decide ((x2 : Int) < r1.1.1) then
        (ck (decide (0 ≤ 0) && decide (0 ≤ r1.1.1) && decide (r1.1.1 ≤ (x1.length : Int)))).bind fun _ =>
        (merkle_Path.f k ((x1.take (r1.1.1 : Int).toNat).drop (0 : Int).toNat) x2 (o0_2.1, (o0_2.2.1, ())) o0_3 o0_4 o0_5 o1_0 o2_0).bind fun r2 =>
        (ck (decide (0 ≤ r1.1.1) && decide (r1.1.1 ≤ (x1.length : Int)) && decide ((x1.length : Int) ≤ (x1.length : Int)))).bind fun _ =>
        (merkle_Root.f k ((x1.take (x1.length : Int).toNat).drop (r1.1.1 : Int).toNat) (r2.2.1.2.2.1.1, (r2.2.1.2.2.1.2.1, ())) r2.2.1.2.2.2.1 r2.2.1.2.2.2.2.1 r2.2.1.2.2.2.2.2.1 o1_0 r2.2.2.1.1).bind fun r3 =>
        (ck (decide ((r2.1.1.length + ([r3.1.1] : List ByteArray).length) * 16 ≤ 70368744177664))).bind fun _ =>
        some ((r2.1.1 ++ ([r3.1.1] : List ByteArray), 0, ()), (((), (), (r3.2.1.2.2.1.1, (r3.2.1.2.2.1.2.1, ())), r3.2.1.2.2.2.1, r3.2.1.2.2.2.2.1, r3.2.1.2.2.2.2.2.1, ()), (r3.2.2.1.1, ()), ()))
      else
        (ck (decide (0 ≤ r1.1.1) && decide (r1.1.1 ≤ (x1.length : Int)) && decide ((x1.length : Int) ≤ (x1.length : Int)))).bind fun _ =>
        (merkle_Path.f k ((x1.take (x1.length : Int).toNat).drop (r1.1.1 : Int).toNat) (IntKind.wrap .i64 (x2 - r1.1.1)) (o0_2.1, (o0_2.2.1, ())) o0_3 o0_4 o0_5 o1_0 o2_0).bind fun r4 =>
        (ck (decide (0 ≤ 0) && decide (0 ≤ r1.1.1) && decide (r1.1.1 ≤ (x1.length : Int)))).bind fun _ =>
        (merkle_Root.f k ((x1.take (r1.1.1 : Int).toNat).drop (0 : Int).toNat) (r4.2.1.2.2.1.1, (r4.2.1.2.2.1.2.1, ())) r4.2.1.2.2.2.1 r4.2.1.2.2.2.2.1 r4.2.1.2.2.2.2.2.1 o1_0 r4.2.2.1.1).bind fun r5 =>
        (ck (decide ((r4.1.1.length + ([r5.1.1] : List ByteArray).length) * 16 ≤ 70368744177664))).bind fun _ =>
        some ((r4.1.1 ++ ([r5.1.1] : List ByteArray), 0, ()), (((), (), (r5.2.1.2.2.1.1, (r5.2.1.2.2.1.2.1, ())), r5.2.1.2.2.2.1, r5.2.1.2.2.2.2.1, r5.2.1.2.2.2.2.2.1, ()), (r5.2.2.1.1, ()), ()))
noncomputable def merkle_Path.f : Nat → (List ByteArray) → Int → (ByteArray × ByteArray × Unit) → Bool → Bool → Int → (List (ByteArray × ByteArray)) → (List (ByteArray × ByteArray)) → Option merkle_Path.R
  | 0, _, _, _, _, _, _, _, _ => none
  | k + 1, x1, x2, o0_2, o0_3, o0_4, o0_5, o1_0, o2_0 =>
    bif decide ((x2 : Int) < 0) then
      some (([], 7, ()), (((), (), (o0_2.1, (o0_2.2.1, ())), o0_3, o0_4, o0_5, ()), (o2_0, ()), ()))
    else
    bif decide ((x2 : Int) ≥ (x1.length : Int)) then
      some (([], 7, ()), (((), (), (o0_2.1, (o0_2.2.1, ())), o0_3, o0_4, o0_5, ()), (o2_0, ()), ()))
    else
      merkle_Path.j0 k x1 x2 (o0_2.1, (o0_2.2.1, ())) o0_3 o0_4 o0_5 o1_0 o2_0
end
abbrev merkle_Path.ini : LSh := ⟨[(0, .ptr 1000000 0), (1, .val (.sl .str)), (2, .val (.int .i64))], [(1000000, 64, [.mref 1000001, .mref 1000002, .val (.cons .str (.cons .str .nil)), .val .bool, .val .bool, .val (.int .i64)]), (1000001, 61, [.mapd]), (1000002, 61, [.mapd])]⟩
abbrev merkle_Path.out : LSh := ⟨[(0, .own 5000000 9 .str), (1, .val (.int .i64))], [(1000000, 64, [.mref 1000001, .mref 1000002, .val (.cons .str (.cons .str .nil)), .val .bool, .val .bool, .val (.int .i64)]), (1000002, 61, [.mapd])]⟩
abbrev merkle_Path.j0s : LSh := ⟨[(0, .ptr 1000000 0), (1, .val (.sl .str)), (2, .val (.int .i64))], [(1000000, 64, [.mref 1000001, .mref 1000002, .val (.cons .str (.cons .str .nil)), .val .bool, .val .bool, .val (.int .i64)]), (1000001, 61, [.mapd]), (1000002, 61, [.mapd])]⟩
noncomputable def merkle_Path.labF : Nat → Option (LabF merkle_Path.out.den)
  | 7 => some ⟨merkle_Path.j0s, fun k (d : (Unit × List ByteArray × Int × Unit) × ((Unit × Unit × (ByteArray × ByteArray × Unit) × Bool × Bool × Int × Unit) × ((List (ByteArray × ByteArray)) × Unit) × ((List (ByteArray × ByteArray)) × Unit) × Unit)) => (merkle_Path.j0 k d.1.2.1 d.1.2.2.1 d.2.1.2.2.1 d.2.1.2.2.2.1 d.2.1.2.2.2.2.1 d.2.1.2.2.2.2.2.1 d.2.2.1.1 d.2.2.2.1.1 : Option merkle_Path.R)⟩
  | _ => none
noncomputable def merkle_Path.fd : FnD := ⟨Try.f13, merkle_Path.ini, merkle_Path.out, 2, [1000000, 1000001, 1000002], [1000001], merkle_Path.labF, fun k (d : (Unit × List ByteArray × Int × Unit) × ((Unit × Unit × (ByteArray × ByteArray × Unit) × Bool × Bool × Int × Unit) × ((List (ByteArray × ByteArray)) × Unit) × ((List (ByteArray × ByteArray)) × Unit) × Unit)) => (merkle_Path.f k d.1.2.1 d.1.2.2.1 d.2.1.2.2.1 d.2.1.2.2.2.1 d.2.1.2.2.2.2.1 d.2.1.2.2.2.2.2.1 d.2.2.1.1 d.2.2.2.1.1 : Option merkle_Path.R)⟩

/-! ### chartularylaw07_awake : function 14 -/
abbrev chartularylaw07_awake.R := (Bool × Unit) × (Unit)
noncomputable def chartularylaw07_awake.f : Nat → Option chartularylaw07_awake.R
  | 0 => none
  | k + 1 =>
    (mill_New.f k).bind fun r1 =>
    (pledge_Leaf.f k (⟨#[97]⟩ : ByteArray) (r1.2.1.2.2.1.1, (r1.2.1.2.2.1.2.1, ())) r1.2.1.2.2.2.1 r1.2.1.2.2.2.2.1 r1.2.1.2.2.2.2.2.1 r1.2.2.1.1 r1.2.2.2.1.1).bind fun r2 =>
    (pledge_Leaf.f k (⟨#[98]⟩ : ByteArray) (r2.2.1.2.2.1.1, (r2.2.1.2.2.1.2.1, ())) r2.2.1.2.2.2.1 r2.2.1.2.2.2.2.1 r2.2.1.2.2.2.2.2.1 r1.2.2.1.1 r2.2.2.1.1).bind fun r3 =>
    (pledge_Leaf.f k (⟨#[99]⟩ : ByteArray) (r3.2.1.2.2.1.1, (r3.2.1.2.2.1.2.1, ())) r3.2.1.2.2.2.1 r3.2.1.2.2.2.2.1 r3.2.1.2.2.2.2.2.1 r1.2.2.1.1 r3.2.2.1.1).bind fun r4 =>
    (merkle_Path.f k ([r2.1.1, r3.1.1, r4.1.1] : List ByteArray) 2 (r4.2.1.2.2.1.1, (r4.2.1.2.2.1.2.1, ())) r4.2.1.2.2.2.1 r4.2.1.2.2.2.2.1 r4.2.1.2.2.2.2.2.1 r1.2.2.1.1 r4.2.2.1.1).bind fun r5 =>
    bif (r5.1.2.1 : Int) == 0 then
      bif ((r5.1.1.length : Int) : Int) == 1 then
        (rdo r5.1.1 0).bind fun t6 =>
        bif ((t6.size : Int) : Int) == 32 then
          (rdo r5.1.1 0).bind fun t7 =>
          (rdo ([r2.1.1, r3.1.1, r4.1.1] : List ByteArray) 0).bind fun t8 =>
          (rdo ([r2.1.1, r3.1.1, r4.1.1] : List ByteArray) 1).bind fun t9 =>
          (pledge_Node.f k t8 t9 (r5.2.1.2.2.1.1, (r5.2.1.2.2.1.2.1, ())) r5.2.1.2.2.2.1 r5.2.1.2.2.2.2.1 r5.2.1.2.2.2.2.2.1 r1.2.2.1.1 r5.2.2.1.1).bind fun r10 =>
          bif t7.toList == r10.1.1.toList then
            (merkle_Root.f k ([r2.1.1, r3.1.1, r4.1.1] : List ByteArray) (r10.2.1.2.2.1.1, (r10.2.1.2.2.1.2.1, ())) r10.2.1.2.2.2.1 r10.2.1.2.2.2.2.1 r10.2.1.2.2.2.2.2.1 r1.2.2.1.1 r10.2.2.1.1).bind fun r11 =>
            (rdo r5.1.1 0).bind fun t12 =>
            (rdo ([r2.1.1, r3.1.1, r4.1.1] : List ByteArray) 2).bind fun t13 =>
            (pledge_Node.f k t12 t13 (r11.2.1.2.2.1.1, (r11.2.1.2.2.1.2.1, ())) r11.2.1.2.2.2.1 r11.2.1.2.2.2.2.1 r11.2.1.2.2.2.2.2.1 r1.2.2.1.1 r11.2.2.1.1).bind fun r14 =>
            some ((r11.1.1.toList == r14.1.1.toList, ()), (()))
          else
            some ((false, ()), (()))
        else
          some ((false, ()), (()))
      else
        some ((false, ()), (()))
    else
      some ((false, ()), (()))
abbrev chartularylaw07_awake.ini : LSh := ⟨[], []⟩
abbrev chartularylaw07_awake.out : LSh := ⟨[(0, .val .bool)], []⟩
noncomputable def chartularylaw07_awake.labF : Nat → Option (LabF chartularylaw07_awake.out.den)
  | _ => none
noncomputable def chartularylaw07_awake.fd : FnD := ⟨Try.f14, chartularylaw07_awake.ini, chartularylaw07_awake.out, 1, [], [], chartularylaw07_awake.labF, fun k (d : (Unit) × (Unit)) => (chartularylaw07_awake.f k : Option chartularylaw07_awake.R)⟩

/-! ### merkle_New : function 22 -/
abbrev merkle_New.R := (Unit × Unit) × ((Unit × Int × List ByteArray × Unit) × Unit)
noncomputable def merkle_New.f : Nat → (ByteArray × ByteArray × Unit) → Bool → Bool → Int → (List (ByteArray × ByteArray)) → (List (ByteArray × ByteArray)) → Option merkle_New.R
  | 0, _, _, _, _, _, _ => none
  | k + 1, o0_2, o0_3, o0_4, o0_5, o1_0, o2_0 =>
    some (((), ()), (((), 0, [], ()), ()))
abbrev merkle_New.ini : LSh := ⟨[(0, .ptr 1000000 0)], [(1000000, 64, [.mref 1000001, .mref 1000002, .val (.cons .str (.cons .str .nil)), .val .bool, .val .bool, .val (.int .i64)]), (1000001, 61, [.mapd]), (1000002, 61, [.mapd])]⟩
abbrev merkle_New.out : LSh := ⟨[(0, .ptr 4000000 0)], [(4000000, 72, [.ptr 1000000 0, .val (.int .i64), .own 3000102 9 (.mu .str)])]⟩
noncomputable def merkle_New.labF : Nat → Option (LabF merkle_New.out.den)
  | _ => none
noncomputable def merkle_New.fd : FnD := ⟨Try.f22, merkle_New.ini, merkle_New.out, 1, [1000000, 1000001, 1000002], [1000000, 1000001, 1000002], merkle_New.labF, fun k (d : (Unit × Unit) × ((Unit × Unit × (ByteArray × ByteArray × Unit) × Bool × Bool × Int × Unit) × ((List (ByteArray × ByteArray)) × Unit) × ((List (ByteArray × ByteArray)) × Unit) × Unit)) => (merkle_New.f k d.2.1.2.2.1 d.2.1.2.2.2.1 d.2.1.2.2.2.2.1 d.2.1.2.2.2.2.2.1 d.2.2.1.1 d.2.2.2.1.1 : Option merkle_New.R)⟩

/-! ### merkle_Front_Root : function 23 -/
abbrev merkle_Front_Root.R := (ByteArray × Unit) × ((Unit × Int × List ByteArray × Unit) × (Unit × Unit × (ByteArray × ByteArray × Unit) × Bool × Bool × Int × Unit) × ((List (ByteArray × ByteArray)) × Unit) × Unit)
mutual
noncomputable def merkle_Front_Root.l0 : Nat → ByteArray → Int → Int → (List ByteArray) → (ByteArray × ByteArray × Unit) → Bool → Bool → Int → (List (ByteArray × ByteArray)) → (List (ByteArray × ByteArray)) → Option merkle_Front_Root.R
  | 0, _, _, _, _, _, _, _, _, _, _ => none
  | k + 1, x4, x5, o0_1, o0_2, o1_2, o1_3, o1_4, o1_5, o2_0, o3_0 =>
    bif decide ((x5 : Int) ≥ 0) then
      (ck (decide (0 ≤ x5) && decide (x5 < (o0_2.length : Int)))).bind fun _ =>
      (rdo o0_2 x5).bind fun t3 =>
      (pledge_Node.f k t3 x4 (o1_2.1, (o1_2.2.1, ())) o1_3 o1_4 o1_5 o2_0 o3_0).bind fun r4 =>
      merkle_Front_Root.l0 k r4.1.1 (IntKind.wrap .i64 (x5 - 1)) o0_1 o0_2 (r4.2.1.2.2.1.1, (r4.2.1.2.2.1.2.1, ())) r4.2.1.2.2.2.1 r4.2.1.2.2.2.2.1 r4.2.1.2.2.2.2.2.1 o2_0 r4.2.2.1.1
    else
      some ((x4, ()), (((), o0_1, o0_2, ()), ((), (), (o1_2.1, (o1_2.2.1, ())), o1_3, o1_4, o1_5, ()), (o3_0, ()), ()))
noncomputable def merkle_Front_Root.f : Nat → Int → (List ByteArray) → (ByteArray × ByteArray × Unit) → Bool → Bool → Int → (List (ByteArray × ByteArray)) → (List (ByteArray × ByteArray)) → Option merkle_Front_Root.R
  | 0, _, _, _, _, _, _, _, _ => none
  | k + 1, o0_1, o0_2, o1_2, o1_3, o1_4, o1_5, o2_0, o3_0 =>
    bif ((o0_2.length : Int) : Int) == 0 then
      (pledge_None.f k (o1_2.1, (o1_2.2.1, ())) o1_3 o1_4 o1_5 o2_0 o3_0).bind fun r1 =>
      some ((r1.1.1, ()), (((), o0_1, o0_2, ()), ((), (), (r1.2.1.2.2.1.1, (r1.2.1.2.2.1.2.1, ())), r1.2.1.2.2.2.1, r1.2.1.2.2.2.2.1, r1.2.1.2.2.2.2.2.1, ()), (r1.2.2.1.1, ()), ()))
    else
      (ck (decide (0 ≤ IntKind.wrap .i64 ((o0_2.length : Int) - 1)) && decide (IntKind.wrap .i64 ((o0_2.length : Int) - 1) < (o0_2.length : Int)))).bind fun _ =>
      (rdo o0_2 (IntKind.wrap .i64 ((o0_2.length : Int) - 1))).bind fun t2 =>
      merkle_Front_Root.l0 k t2 (IntKind.wrap .i64 ((o0_2.length : Int) - 2)) o0_1 o0_2 (o1_2.1, (o1_2.2.1, ())) o1_3 o1_4 o1_5 o2_0 o3_0
end
abbrev merkle_Front_Root.ini : LSh := ⟨[(0, .ptr 1000000 0)], [(1000000, 72, [.ptr 1000001 0, .val (.int .i64), .own 3000402 9 (.mu .str)]), (1000001, 64, [.mref 1000002, .mref 1000003, .val (.cons .str (.cons .str .nil)), .val .bool, .val .bool, .val (.int .i64)]), (1000002, 61, [.mapd]), (1000003, 61, [.mapd])]⟩
abbrev merkle_Front_Root.out : LSh := ⟨[(0, .val .str)], [(1000000, 72, [.ptr 1000001 0, .val (.int .i64), .own 3000402 9 (.mu .str)]), (1000001, 64, [.mref 1000002, .mref 1000003, .val (.cons .str (.cons .str .nil)), .val .bool, .val .bool, .val (.int .i64)]), (1000003, 61, [.mapd])]⟩
abbrev merkle_Front_Root.l0s : LSh := ⟨[(0, .ptr 1000000 0), (4, .val .str), (5, .val (.int .i64))], [(1000000, 72, [.ptr 1000001 0, .val (.int .i64), .own 3000002 9 (.mu .str)]), (1000001, 64, [.mref 1000002, .mref 1000003, .val (.cons .str (.cons .str .nil)), .val .bool, .val .bool, .val (.int .i64)]), (1000002, 61, [.mapd]), (1000003, 61, [.mapd])]⟩
noncomputable def merkle_Front_Root.labF : Nat → Option (LabF merkle_Front_Root.out.den)
  | 16 => some ⟨merkle_Front_Root.l0s, fun k (d : (Unit × ByteArray × Int × Unit) × ((Unit × Int × List ByteArray × Unit) × (Unit × Unit × (ByteArray × ByteArray × Unit) × Bool × Bool × Int × Unit) × ((List (ByteArray × ByteArray)) × Unit) × ((List (ByteArray × ByteArray)) × Unit) × Unit)) => (merkle_Front_Root.l0 k d.1.2.1 d.1.2.2.1 d.2.1.2.1 d.2.1.2.2.1 d.2.2.1.2.2.1 d.2.2.1.2.2.2.1 d.2.2.1.2.2.2.2.1 d.2.2.1.2.2.2.2.2.1 d.2.2.2.1.1 d.2.2.2.2.1.1 : Option merkle_Front_Root.R)⟩
  | _ => none
noncomputable def merkle_Front_Root.fd : FnD := ⟨Try.f23, merkle_Front_Root.ini, merkle_Front_Root.out, 1, [1000000, 1000001, 1000002, 1000003], [1000002], merkle_Front_Root.labF, fun k (d : (Unit × Unit) × ((Unit × Int × List ByteArray × Unit) × (Unit × Unit × (ByteArray × ByteArray × Unit) × Bool × Bool × Int × Unit) × ((List (ByteArray × ByteArray)) × Unit) × ((List (ByteArray × ByteArray)) × Unit) × Unit)) => (merkle_Front_Root.f k d.2.1.2.1 d.2.1.2.2.1 d.2.2.1.2.2.1 d.2.2.1.2.2.2.1 d.2.2.1.2.2.2.2.1 d.2.2.1.2.2.2.2.2.1 d.2.2.2.1.1 d.2.2.2.2.1.1 : Option merkle_Front_Root.R)⟩

/-! ### merkle_Front_Add : function 25 -/
abbrev merkle_Front_Add.R := (Unit) × ((Unit × Int × List ByteArray × Unit) × (Unit × Unit × (ByteArray × ByteArray × Unit) × Bool × Bool × Int × Unit) × ((List (ByteArray × ByteArray)) × Unit) × Unit)
mutual
noncomputable def merkle_Front_Add.l0 : Nat → Int → Int → (List ByteArray) → (ByteArray × ByteArray × Unit) → Bool → Bool → Int → (List (ByteArray × ByteArray)) → (List (ByteArray × ByteArray)) → Option merkle_Front_Add.R
  | 0, _, _, _, _, _, _, _, _, _ => none
  | k + 1, x4, o0_1, o0_2, o1_2, o1_3, o1_4, o1_5, o2_0, o3_0 =>
    bif (IntKind.wrap .i64 ((BitVec.ofInt (IntKind.bits .i64) x4 &&& BitVec.ofInt (IntKind.bits .i64) 1).toNat : Int) : Int) == 0 then
      (ck (decide (0 ≤ 0) && decide (0 ≤ IntKind.wrap .i64 ((o0_2.length : Int) - 2)) && decide (IntKind.wrap .i64 ((o0_2.length : Int) - 2) ≤ (o0_2.length : Int)))).bind fun _ =>
      (ck (decide (0 ≤ IntKind.wrap .i64 ((o0_2.length : Int) - 2)) && decide (IntKind.wrap .i64 ((o0_2.length : Int) - 2) < (o0_2.length : Int)))).bind fun _ =>
      (rdo o0_2 (IntKind.wrap .i64 ((o0_2.length : Int) - 2))).bind fun t1 =>
      (ck (decide (0 ≤ IntKind.wrap .i64 ((o0_2.length : Int) - 1)) && decide (IntKind.wrap .i64 ((o0_2.length : Int) - 1) < (o0_2.length : Int)))).bind fun _ =>
      (rdo o0_2 (IntKind.wrap .i64 ((o0_2.length : Int) - 1))).bind fun t2 =>
      (pledge_Node.f k t1 t2 (o1_2.1, (o1_2.2.1, ())) o1_3 o1_4 o1_5 o2_0 o3_0).bind fun r3 =>
      (ck (decide (((o0_2.take ((IntKind.wrap .i64 ((o0_2.length : Int) - 2) - 0 : Int).toNat)).length + ([r3.1.1] : List ByteArray).length) * 16 ≤ 70368744177664))).bind fun _ =>
      (ck (!decide ((1 : Int) < 0))).bind fun _ =>
      merkle_Front_Add.l0 k (Int.fdiv x4 (2 ^ (min (1 : Int).toNat (IntKind.bits .i64)))) o0_1 ((o0_2.take ((IntKind.wrap .i64 ((o0_2.length : Int) - 2) - 0 : Int).toNat)) ++ ([r3.1.1] : List ByteArray)) (r3.2.1.2.2.1.1, (r3.2.1.2.2.1.2.1, ())) r3.2.1.2.2.2.1 r3.2.1.2.2.2.2.1 r3.2.1.2.2.2.2.2.1 o2_0 r3.2.2.1.1
    else
      some ((()), (((), o0_1, o0_2, ()), ((), (), (o1_2.1, (o1_2.2.1, ())), o1_3, o1_4, o1_5, ()), (o3_0, ()), ()))
noncomputable def merkle_Front_Add.f : Nat → ByteArray → Int → (List ByteArray) → (ByteArray × ByteArray × Unit) → Bool → Bool → Int → (List (ByteArray × ByteArray)) → (List (ByteArray × ByteArray)) → Option merkle_Front_Add.R
  | 0, _, _, _, _, _, _, _, _, _ => none
  | k + 1, x1, o0_1, o0_2, o1_2, o1_3, o1_4, o1_5, o2_0, o3_0 =>
    (ck (decide ((o0_2.length + ([x1] : List ByteArray).length) * 16 ≤ 70368744177664))).bind fun _ =>
    merkle_Front_Add.l0 k (IntKind.wrap .i64 (o0_1 + 1)) (IntKind.wrap .i64 (o0_1 + 1)) (o0_2 ++ ([x1] : List ByteArray)) (o1_2.1, (o1_2.2.1, ())) o1_3 o1_4 o1_5 o2_0 o3_0
end
abbrev merkle_Front_Add.ini : LSh := ⟨[(0, .ptr 1000000 0), (1, .val .str)], [(1000000, 72, [.ptr 1000001 0, .val (.int .i64), .own 3000402 9 (.mu .str)]), (1000001, 64, [.mref 1000002, .mref 1000003, .val (.cons .str (.cons .str .nil)), .val .bool, .val .bool, .val (.int .i64)]), (1000002, 61, [.mapd]), (1000003, 61, [.mapd])]⟩
abbrev merkle_Front_Add.out : LSh := ⟨[], [(1000000, 72, [.ptr 1000001 0, .val (.int .i64), .own 3000402 9 (.mu .str)]), (1000001, 64, [.mref 1000002, .mref 1000003, .val (.cons .str (.cons .str .nil)), .val .bool, .val .bool, .val (.int .i64)]), (1000003, 61, [.mapd])]⟩
abbrev merkle_Front_Add.l0s : LSh := ⟨[(0, .ptr 1000000 0), (4, .val (.int .i64))], [(1000000, 72, [.ptr 1000001 0, .val (.int .i64), .own 3000002 9 (.mu .str)]), (1000001, 64, [.mref 1000002, .mref 1000003, .val (.cons .str (.cons .str .nil)), .val .bool, .val .bool, .val (.int .i64)]), (1000002, 61, [.mapd]), (1000003, 61, [.mapd])]⟩
noncomputable def merkle_Front_Add.labF : Nat → Option (LabF merkle_Front_Add.out.den)
  | 8 => some ⟨merkle_Front_Add.l0s, fun k (d : (Unit × Int × Unit) × ((Unit × Int × List ByteArray × Unit) × (Unit × Unit × (ByteArray × ByteArray × Unit) × Bool × Bool × Int × Unit) × ((List (ByteArray × ByteArray)) × Unit) × ((List (ByteArray × ByteArray)) × Unit) × Unit)) => (merkle_Front_Add.l0 k d.1.2.1 d.2.1.2.1 d.2.1.2.2.1 d.2.2.1.2.2.1 d.2.2.1.2.2.2.1 d.2.2.1.2.2.2.2.1 d.2.2.1.2.2.2.2.2.1 d.2.2.2.1.1 d.2.2.2.2.1.1 : Option merkle_Front_Add.R)⟩
  | _ => none
noncomputable def merkle_Front_Add.fd : FnD := ⟨Try.f25, merkle_Front_Add.ini, merkle_Front_Add.out, 0, [1000000, 1000001, 1000002, 1000003], [1000002], merkle_Front_Add.labF, fun k (d : (Unit × ByteArray × Unit) × ((Unit × Int × List ByteArray × Unit) × (Unit × Unit × (ByteArray × ByteArray × Unit) × Bool × Bool × Int × Unit) × ((List (ByteArray × ByteArray)) × Unit) × ((List (ByteArray × ByteArray)) × Unit) × Unit)) => (merkle_Front_Add.f k d.1.2.1 d.2.1.2.1 d.2.1.2.2.1 d.2.2.1.2.2.1 d.2.2.1.2.2.2.1 d.2.2.1.2.2.2.2.1 d.2.2.1.2.2.2.2.2.1 d.2.2.2.1.1 d.2.2.2.2.1.1 : Option merkle_Front_Add.R)⟩

/-! ### merkle_Front_Size : function 26 -/
abbrev merkle_Front_Size.R := (Int × Unit) × ((Unit × Int × List ByteArray × Unit) × Unit)
noncomputable def merkle_Front_Size.f : Nat → Int → (List ByteArray) → (ByteArray × ByteArray × Unit) → Bool → Bool → Int → (List (ByteArray × ByteArray)) → (List (ByteArray × ByteArray)) → Option merkle_Front_Size.R
  | 0, _, _, _, _, _, _, _, _ => none
  | k + 1, o0_1, o0_2, o1_2, o1_3, o1_4, o1_5, o2_0, o3_0 =>
    some ((o0_1, ()), (((), o0_1, o0_2, ()), ()))
abbrev merkle_Front_Size.ini : LSh := ⟨[(0, .ptr 1000000 0)], [(1000000, 72, [.ptr 1000001 0, .val (.int .i64), .own 3000402 9 (.mu .str)]), (1000001, 64, [.mref 1000002, .mref 1000003, .val (.cons .str (.cons .str .nil)), .val .bool, .val .bool, .val (.int .i64)]), (1000002, 61, [.mapd]), (1000003, 61, [.mapd])]⟩
abbrev merkle_Front_Size.out : LSh := ⟨[(0, .val (.int .i64))], [(1000000, 72, [.ptr 1000001 0, .val (.int .i64), .own 3000402 9 (.mu .str)])]⟩
noncomputable def merkle_Front_Size.labF : Nat → Option (LabF merkle_Front_Size.out.den)
  | _ => none
noncomputable def merkle_Front_Size.fd : FnD := ⟨Try.f26, merkle_Front_Size.ini, merkle_Front_Size.out, 1, [1000000, 1000001, 1000002, 1000003], [1000001, 1000002, 1000003], merkle_Front_Size.labF, fun k (d : (Unit × Unit) × ((Unit × Int × List ByteArray × Unit) × (Unit × Unit × (ByteArray × ByteArray × Unit) × Bool × Bool × Int × Unit) × ((List (ByteArray × ByteArray)) × Unit) × ((List (ByteArray × ByteArray)) × Unit) × Unit)) => (merkle_Front_Size.f k d.2.1.2.1 d.2.1.2.2.1 d.2.2.1.2.2.1 d.2.2.1.2.2.2.1 d.2.2.1.2.2.2.2.1 d.2.2.1.2.2.2.2.2.1 d.2.2.2.1.1 d.2.2.2.2.1.1 : Option merkle_Front_Size.R)⟩

/-! ### chartularylaw07_below : function 40 -/
abbrev chartularylaw07_below.R := (Int × Unit) × (Unit)
mutual
noncomputable def chartularylaw07_below.l0 : Nat → Int → Int → Option chartularylaw07_below.R
  | 0, _, _ => none
  | k + 1, x0, x3 =>
    bif decide ((IntKind.wrap .i64 (2 * x3) : Int) < x0) then
      chartularylaw07_below.l0 k x0 (IntKind.wrap .i64 (2 * x3))
    else
      some ((x3, ()), (()))
noncomputable def chartularylaw07_below.f : Nat → Int → Option chartularylaw07_below.R
  | 0, _ => none
  | k + 1, x0 =>
    chartularylaw07_below.l0 k x0 1
end
abbrev chartularylaw07_below.ini : LSh := ⟨[(0, .val (.int .i64))], []⟩
abbrev chartularylaw07_below.out : LSh := ⟨[(0, .val (.int .i64))], []⟩
abbrev chartularylaw07_below.l0s : LSh := ⟨[(0, .val (.int .i64)), (3, .val (.int .i64))], []⟩
noncomputable def chartularylaw07_below.labF : Nat → Option (LabF chartularylaw07_below.out.den)
  | 4 => some ⟨chartularylaw07_below.l0s, fun k (d : (Int × Int × Unit) × (Unit)) => (chartularylaw07_below.l0 k d.1.1 d.1.2.1 : Option chartularylaw07_below.R)⟩
  | _ => none
noncomputable def chartularylaw07_below.fd : FnD := ⟨Try.f40, chartularylaw07_below.ini, chartularylaw07_below.out, 1, [], [], chartularylaw07_below.labF, fun k (d : (Int × Unit) × (Unit)) => (chartularylaw07_below.f k d.1.1 : Option chartularylaw07_below.R)⟩

/-! ### chartularylaw07_Root : function 27 -/
abbrev chartularylaw07_Root.R := (ByteArray × Unit) × ((Unit × Unit × (ByteArray × ByteArray × Unit) × Bool × Bool × Int × Unit) × ((List (ByteArray × ByteArray)) × Unit) × Unit)
noncomputable def chartularylaw07_Root.f : Nat → (List ByteArray) → (ByteArray × ByteArray × Unit) → Bool → Bool → Int → (List (ByteArray × ByteArray)) → (List (ByteArray × ByteArray)) → Option chartularylaw07_Root.R
  | 0, _, _, _, _, _, _, _ => none
  | k + 1, x1, o0_2, o0_3, o0_4, o0_5, o1_0, o2_0 =>
    bif ((x1.length : Int) : Int) == 0 then
      (pledge_None.f k (o0_2.1, (o0_2.2.1, ())) o0_3 o0_4 o0_5 o1_0 o2_0).bind fun r1 =>
      some ((r1.1.1, ()), (((), (), (r1.2.1.2.2.1.1, (r1.2.1.2.2.1.2.1, ())), r1.2.1.2.2.2.1, r1.2.1.2.2.2.2.1, r1.2.1.2.2.2.2.2.1, ()), (r1.2.2.1.1, ()), ()))
    else
    bif ((x1.length : Int) : Int) == 1 then
      (rdo x1 0).bind fun t2 =>
      some ((t2, ()), (((), (), (o0_2.1, (o0_2.2.1, ())), o0_3, o0_4, o0_5, ()), (o2_0, ()), ()))
    else
      (chartularylaw07_below.f k (x1.length : Int)).bind fun r3 =>
      (ck (decide (0 ≤ 0) && decide (0 ≤ r3.1.1) && decide (r3.1.1 ≤ (x1.length : Int)))).bind fun _ =>
      (chartularylaw07_Root.f k ((x1.take (r3.1.1 : Int).toNat).drop (0 : Int).toNat) (o0_2.1, (o0_2.2.1, ())) o0_3 o0_4 o0_5 o1_0 o2_0).bind fun r4 =>
      (ck (decide (0 ≤ r3.1.1) && decide (r3.1.1 ≤ (x1.length : Int)) && decide ((x1.length : Int) ≤ (x1.length : Int)))).bind fun _ =>
      (chartularylaw07_Root.f k ((x1.take (x1.length : Int).toNat).drop (r3.1.1 : Int).toNat) (r4.2.1.2.2.1.1, (r4.2.1.2.2.1.2.1, ())) r4.2.1.2.2.2.1 r4.2.1.2.2.2.2.1 r4.2.1.2.2.2.2.2.1 o1_0 r4.2.2.1.1).bind fun r5 =>
      (pledge_Node.f k r4.1.1 r5.1.1 (r5.2.1.2.2.1.1, (r5.2.1.2.2.1.2.1, ())) r5.2.1.2.2.2.1 r5.2.1.2.2.2.2.1 r5.2.1.2.2.2.2.2.1 o1_0 r5.2.2.1.1).bind fun r6 =>
      some ((r6.1.1, ()), (((), (), (r6.2.1.2.2.1.1, (r6.2.1.2.2.1.2.1, ())), r6.2.1.2.2.2.1, r6.2.1.2.2.2.2.1, r6.2.1.2.2.2.2.2.1, ()), (r6.2.2.1.1, ()), ()))
abbrev chartularylaw07_Root.ini : LSh := ⟨[(0, .ptr 1000000 0), (1, .val (.sl .str))], [(1000000, 64, [.mref 1000001, .mref 1000002, .val (.cons .str (.cons .str .nil)), .val .bool, .val .bool, .val (.int .i64)]), (1000001, 61, [.mapd]), (1000002, 61, [.mapd])]⟩
abbrev chartularylaw07_Root.out : LSh := ⟨[(0, .val .str)], [(1000000, 64, [.mref 1000001, .mref 1000002, .val (.cons .str (.cons .str .nil)), .val .bool, .val .bool, .val (.int .i64)]), (1000002, 61, [.mapd])]⟩
noncomputable def chartularylaw07_Root.labF : Nat → Option (LabF chartularylaw07_Root.out.den)
  | _ => none
noncomputable def chartularylaw07_Root.fd : FnD := ⟨Try.f27, chartularylaw07_Root.ini, chartularylaw07_Root.out, 1, [1000000, 1000001, 1000002], [1000001], chartularylaw07_Root.labF, fun k (d : (Unit × List ByteArray × Unit) × ((Unit × Unit × (ByteArray × ByteArray × Unit) × Bool × Bool × Int × Unit) × ((List (ByteArray × ByteArray)) × Unit) × ((List (ByteArray × ByteArray)) × Unit) × Unit)) => (chartularylaw07_Root.f k d.1.2.1 d.2.1.2.2.1 d.2.1.2.2.2.1 d.2.1.2.2.2.2.1 d.2.1.2.2.2.2.2.1 d.2.2.1.1 d.2.2.2.1.1 : Option chartularylaw07_Root.R)⟩

/-! ### chartularylaw07_MerkleRoots : function 5 -/
abbrev chartularylaw07_MerkleRoots.R := (Bool × Unit) × (Unit)
mutual
noncomputable def chartularylaw07_MerkleRoots.l0 : Nat → (List ByteArray) → Int → (ByteArray × ByteArray × Unit) → Bool → Bool → Int → (List (ByteArray × ByteArray)) → (List (ByteArray × ByteArray)) → Int → (List ByteArray) → Option chartularylaw07_MerkleRoots.R
  | 0, _, _, _, _, _, _, _, _, _, _ => none
  | k + 1, x4, x6, o0_2, o0_3, o0_4, o0_5, o1000_0, o1001_0, o1000000_1, o1000000_2 =>
    bif decide ((x6 : Int) < (x4.length : Int)) then
      (rdo x4 x6).bind fun t6 =>
      (merkle_Front_Add.f k t6 o1000000_1 o1000000_2 (o0_2.1, (o0_2.2.1, ())) o0_3 o0_4 o0_5 o1000_0 o1001_0).bind fun r7 =>
      (merkle_Front_Size.f k r7.2.1.2.1 r7.2.1.2.2.1 (r7.2.2.1.2.2.1.1, (r7.2.2.1.2.2.1.2.1, ())) r7.2.2.1.2.2.2.1 r7.2.2.1.2.2.2.2.1 r7.2.2.1.2.2.2.2.2.1 o1000_0 r7.2.2.2.1.1).bind fun r8 =>
      bif (r8.1.1 : Int) != IntKind.wrap .i64 (x6 + 1) then
        some ((false, ()), (()))
      else
        (merkle_Front_Root.f k r8.2.1.2.1 r8.2.1.2.2.1 (r7.2.2.1.2.2.1.1, (r7.2.2.1.2.2.1.2.1, ())) r7.2.2.1.2.2.2.1 r7.2.2.1.2.2.2.2.1 r7.2.2.1.2.2.2.2.2.1 o1000_0 r7.2.2.2.1.1).bind fun r9 =>
        (ck (decide (0 ≤ 0) && decide (0 ≤ IntKind.wrap .i64 (x6 + 1)) && decide (IntKind.wrap .i64 (x6 + 1) ≤ (x4.length : Int)))).bind fun _ =>
        (chartularylaw07_Root.f k ((x4.take (IntKind.wrap .i64 (x6 + 1) : Int).toNat).drop (0 : Int).toNat) (r9.2.2.1.2.2.1.1, (r9.2.2.1.2.2.1.2.1, ())) r9.2.2.1.2.2.2.1 r9.2.2.1.2.2.2.2.1 r9.2.2.1.2.2.2.2.2.1 o1000_0 r9.2.2.2.1.1).bind fun r10 =>
        bif !(r9.1.1.toList == r10.1.1.toList) then
          some ((false, ()), (()))
        else
          chartularylaw07_MerkleRoots.l0 k x4 (IntKind.wrap .i64 (x6 + 1)) (r10.2.1.2.2.1.1, (r10.2.1.2.2.1.2.1, ())) r10.2.1.2.2.2.1 r10.2.1.2.2.2.2.1 r10.2.1.2.2.2.2.2.1 o1000_0 r10.2.2.1.1 r9.2.1.2.1 r9.2.1.2.2.1
    else
      (merkle_Root.f k x4 (o0_2.1, (o0_2.2.1, ())) o0_3 o0_4 o0_5 o1000_0 o1001_0).bind fun r11 =>
      (chartularylaw07_Root.f k x4 (r11.2.1.2.2.1.1, (r11.2.1.2.2.1.2.1, ())) r11.2.1.2.2.2.1 r11.2.1.2.2.2.2.1 r11.2.1.2.2.2.2.2.1 o1000_0 r11.2.2.1.1).bind fun r12 =>
      bif r11.1.1.toList == r12.1.1.toList then
        (chartularylaw07_awake.f k).bind fun r13 =>
        some ((r13.1.1, ()), (()))
      else
        some ((false, ()), (()))
noncomputable def chartularylaw07_MerkleRoots.f : Nat → (List ByteArray) → Option chartularylaw07_MerkleRoots.R
  | 0, _ => none
  | k + 1, x0 =>
    (mill_New.f k).bind fun r1 =>
    (chartularylaw07_Leaves.f k x0 (r1.2.1.2.2.1.1, (r1.2.1.2.2.1.2.1, ())) r1.2.1.2.2.2.1 r1.2.1.2.2.2.2.1 r1.2.1.2.2.2.2.2.1 r1.2.2.1.1 r1.2.2.2.1.1).bind fun r2 =>
    (merkle_New.f k (r2.2.1.2.2.1.1, (r2.2.1.2.2.1.2.1, ())) r2.2.1.2.2.2.1 r2.2.1.2.2.2.2.1 r2.2.1.2.2.2.2.2.1 r1.2.2.1.1 r2.2.2.1.1).bind fun r3 =>
    (merkle_Front_Root.f k r3.2.1.2.1 r3.2.1.2.2.1 (r2.2.1.2.2.1.1, (r2.2.1.2.2.1.2.1, ())) r2.2.1.2.2.2.1 r2.2.1.2.2.2.2.1 r2.2.1.2.2.2.2.2.1 r1.2.2.1.1 r2.2.2.1.1).bind fun r4 =>
    (pledge_None.f k (r4.2.2.1.2.2.1.1, (r4.2.2.1.2.2.1.2.1, ())) r4.2.2.1.2.2.2.1 r4.2.2.1.2.2.2.2.1 r4.2.2.1.2.2.2.2.2.1 r1.2.2.1.1 r4.2.2.2.1.1).bind fun r5 =>
    bif !(r4.1.1.toList == r5.1.1.toList) then
      some ((false, ()), (()))
    else
      chartularylaw07_MerkleRoots.l0 k r2.1.1 0 (r5.2.1.2.2.1.1, (r5.2.1.2.2.1.2.1, ())) r5.2.1.2.2.2.1 r5.2.1.2.2.2.2.1 r5.2.1.2.2.2.2.2.1 r1.2.2.1.1 r5.2.2.1.1 r4.2.1.2.1 r4.2.1.2.2.1
end
abbrev chartularylaw07_MerkleRoots.ini : LSh := ⟨[(0, .val (.sl .str))], []⟩
abbrev chartularylaw07_MerkleRoots.out : LSh := ⟨[(0, .val .bool)], []⟩
abbrev chartularylaw07_MerkleRoots.l0s : LSh := ⟨[(3, .ptr 804000000 0), (4, .val (.sl .str)), (5, .ptr 1304000000 0), (6, .val (.int .i64))], [(804000000, 64, [.mref 804001000, .mref 804001001, .val (.cons .str (.cons .str .nil)), .val .bool, .val .bool, .val (.int .i64)]), (804001000, 61, [.mapd]), (804001001, 61, [.mapd]), (1304000000, 72, [.ptr 804000000 0, .val (.int .i64), .own 3000002 9 (.mu .str)])]⟩
noncomputable def chartularylaw07_MerkleRoots.labF : Nat → Option (LabF chartularylaw07_MerkleRoots.out.den)
  | 14 => some ⟨chartularylaw07_MerkleRoots.l0s, fun k (d : (Unit × List ByteArray × Unit × Int × Unit) × ((Unit × Unit × (ByteArray × ByteArray × Unit) × Bool × Bool × Int × Unit) × ((List (ByteArray × ByteArray)) × Unit) × ((List (ByteArray × ByteArray)) × Unit) × (Unit × Int × List ByteArray × Unit) × Unit)) => (chartularylaw07_MerkleRoots.l0 k d.1.2.1 d.1.2.2.2.1 d.2.1.2.2.1 d.2.1.2.2.2.1 d.2.1.2.2.2.2.1 d.2.1.2.2.2.2.2.1 d.2.2.1.1 d.2.2.2.1.1 d.2.2.2.2.1.2.1 d.2.2.2.2.1.2.2.1 : Option chartularylaw07_MerkleRoots.R)⟩
  | _ => none
noncomputable def chartularylaw07_MerkleRoots.fd : FnD := ⟨Try.f5, chartularylaw07_MerkleRoots.ini, chartularylaw07_MerkleRoots.out, 1, [], [], chartularylaw07_MerkleRoots.labF, fun k (d : (List ByteArray × Unit) × (Unit)) => (chartularylaw07_MerkleRoots.f k d.1.1 : Option chartularylaw07_MerkleRoots.R)⟩

/-! ### merkle_New_v1 : function 22 -/
abbrev merkle_New_v1.R := (Unit × Unit) × (Unit)
noncomputable def merkle_New_v1.f : Nat → Option merkle_New_v1.R
  | 0 => none
  | k + 1 =>
    some (((), ()), (()))
abbrev merkle_New_v1.ini : LSh := ⟨[(0, .nilp)], []⟩
abbrev merkle_New_v1.out : LSh := ⟨[(0, .nilp)], []⟩
noncomputable def merkle_New_v1.labF : Nat → Option (LabF merkle_New_v1.out.den)
  | _ => none
noncomputable def merkle_New_v1.fd : FnD := ⟨Try.f22, merkle_New_v1.ini, merkle_New_v1.out, 1, [], [], merkle_New_v1.labF, fun k (d : (Unit × Unit) × (Unit)) => (merkle_New_v1.f k : Option merkle_New_v1.R)⟩

/-! ### merkle_Front_Root_v1 : function 23 -/
abbrev merkle_Front_Root_v1.R := (ByteArray × Unit) × (Unit)
noncomputable def merkle_Front_Root_v1.f : Nat → Option merkle_Front_Root_v1.R
  | 0 => none
  | k + 1 =>
    some (((⟨#[]⟩ : ByteArray), ()), (()))
abbrev merkle_Front_Root_v1.ini : LSh := ⟨[(0, .nilp)], []⟩
abbrev merkle_Front_Root_v1.out : LSh := ⟨[(0, .val .str)], []⟩
noncomputable def merkle_Front_Root_v1.labF : Nat → Option (LabF merkle_Front_Root_v1.out.den)
  | _ => none
noncomputable def merkle_Front_Root_v1.fd : FnD := ⟨Try.f23, merkle_Front_Root_v1.ini, merkle_Front_Root_v1.out, 1, [], [], merkle_Front_Root_v1.labF, fun k (d : (Unit × Unit) × (Unit)) => (merkle_Front_Root_v1.f k : Option merkle_Front_Root_v1.R)⟩

/-! ### merkle_Front_Add_v1 : function 25 -/
abbrev merkle_Front_Add_v1.R := (Unit) × (Unit)
noncomputable def merkle_Front_Add_v1.f : Nat → ByteArray → Option merkle_Front_Add_v1.R
  | 0, _ => none
  | k + 1, x1 =>
    some ((()), (()))
abbrev merkle_Front_Add_v1.ini : LSh := ⟨[(0, .nilp), (1, .val .str)], []⟩
abbrev merkle_Front_Add_v1.out : LSh := ⟨[], []⟩
noncomputable def merkle_Front_Add_v1.labF : Nat → Option (LabF merkle_Front_Add_v1.out.den)
  | _ => none
noncomputable def merkle_Front_Add_v1.fd : FnD := ⟨Try.f25, merkle_Front_Add_v1.ini, merkle_Front_Add_v1.out, 0, [], [], merkle_Front_Add_v1.labF, fun k (d : (Unit × ByteArray × Unit) × (Unit)) => (merkle_Front_Add_v1.f k d.1.2.1 : Option merkle_Front_Add_v1.R)⟩

/-! ### merkle_Front_Size_v1 : function 26 -/
abbrev merkle_Front_Size_v1.R := (Int × Unit) × (Unit)
noncomputable def merkle_Front_Size_v1.f : Nat → Option merkle_Front_Size_v1.R
  | 0 => none
  | k + 1 =>
    some ((0, ()), (()))
abbrev merkle_Front_Size_v1.ini : LSh := ⟨[(0, .nilp)], []⟩
abbrev merkle_Front_Size_v1.out : LSh := ⟨[(0, .val (.int .i64))], []⟩
noncomputable def merkle_Front_Size_v1.labF : Nat → Option (LabF merkle_Front_Size_v1.out.den)
  | _ => none
noncomputable def merkle_Front_Size_v1.fd : FnD := ⟨Try.f26, merkle_Front_Size_v1.ini, merkle_Front_Size_v1.out, 1, [], [], merkle_Front_Size_v1.labF, fun k (d : (Unit × Unit) × (Unit)) => (merkle_Front_Size_v1.f k : Option merkle_Front_Size_v1.R)⟩

/-! ### chartularylaw07_MerkleNobody : function 6 -/
abbrev chartularylaw07_MerkleNobody.R := (Bool × Unit) × (Unit)
noncomputable def chartularylaw07_MerkleNobody.f : Nat → ByteArray → Option chartularylaw07_MerkleNobody.R
  | 0, _ => none
  | k + 1, x0 =>
    (merkle_Front_Add_v1.f k x0).bind fun r1 =>
    (merkle_Front_Root_v1.f k).bind fun r2 =>
    bif r2.1.1.toList == (⟨#[]⟩ : ByteArray).toList then
      (merkle_Front_Size_v1.f k).bind fun r3 =>
      bif (r3.1.1 : Int) == 0 then
        (merkle_New_v1.f k).bind fun r4 =>
        (chartularylaw07_awake.f k).bind fun r5 =>
        some ((r5.1.1, ()), (()))
      else
        some ((false, ()), (()))
    else
      some ((false, ()), (()))
abbrev chartularylaw07_MerkleNobody.ini : LSh := ⟨[(0, .val .str)], []⟩
abbrev chartularylaw07_MerkleNobody.out : LSh := ⟨[(0, .val .bool)], []⟩
noncomputable def chartularylaw07_MerkleNobody.labF : Nat → Option (LabF chartularylaw07_MerkleNobody.out.den)
  | _ => none
noncomputable def chartularylaw07_MerkleNobody.fd : FnD := ⟨Try.f6, chartularylaw07_MerkleNobody.ini, chartularylaw07_MerkleNobody.out, 1, [], [], chartularylaw07_MerkleNobody.labF, fun k (d : (ByteArray × Unit) × (Unit)) => (chartularylaw07_MerkleNobody.f k d.1.1 : Option chartularylaw07_MerkleNobody.R)⟩

noncomputable def Γ (k : Nat) : Gam := [(11, [mill_New.fd.sp k]), (49, [sha_New.fd.sp k]), (56, [bits_RotateLeft32.fd.sp k]), (55, [sha_turn.fd.sp k]), (53, [sha_words.fd.sp k]), (54, [sha_rounds.fd.sp k]), (52, [sha_State_mix.fd.sp k]), (50, [sha_State_Write.fd.sp k]), (51, [sha_State_Sum.fd.sp k]), (47, [sha_Sum.fd.sp k]), (42, [mill_name.fd.sp k]), (43, [mill_Mill_none.fd.sp k]), (48, [mill_Mill_note.fd.sp k]), (41, [mill_Mill_Sum.fd.sp k]), (35, [pledge_Leaf.fd.sp k]), (12, [chartularylaw07_Leaves.fd.sp k]), (24, [pledge_None.fd.sp k]), (36, [merkle_split.fd.sp k]), (37, [pledge_Node.fd.sp k]), (18, [merkle_Root.fd.sp k]), (13, [merkle_Path.fd.sp k]), (14, [chartularylaw07_awake.fd.sp k]), (22, [merkle_New.fd.sp k, merkle_New_v1.fd.sp k]), (23, [merkle_Front_Root.fd.sp k, merkle_Front_Root_v1.fd.sp k]), (25, [merkle_Front_Add.fd.sp k, merkle_Front_Add_v1.fd.sp k]), (26, [merkle_Front_Size.fd.sp k, merkle_Front_Size_v1.fd.sp k]), (40, [chartularylaw07_below.fd.sp k]), (27, [chartularylaw07_Root.fd.sp k]), (5, [chartularylaw07_MerkleRoots.fd.sp k]), (22, [merkle_New.fd.sp k, merkle_New_v1.fd.sp k]), (23, [merkle_Front_Root.fd.sp k, merkle_Front_Root_v1.fd.sp k]), (25, [merkle_Front_Add.fd.sp k, merkle_Front_Add_v1.fd.sp k]), (26, [merkle_Front_Size.fd.sp k, merkle_Front_Size_v1.fd.sp k]), (6, [chartularylaw07_MerkleNobody.fd.sp k])]
end Go.Proofs.Ytoceopdoedmgoaa.E
