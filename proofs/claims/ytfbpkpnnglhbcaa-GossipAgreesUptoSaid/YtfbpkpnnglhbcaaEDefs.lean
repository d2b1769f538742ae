import Derived.Test.YtfbpkpnnglhbcaaEDefs0
namespace Go.Proofs.Ytfbpkpnnglhbcaa.E
open Go Go.Proofs.Ytfbpkpnnglhbcaa.Eng Go.Proofs
set_option linter.unusedVariables false
set_option maxRecDepth 100000
/-! ### gossip_Ring_Auditor_v6 : function 20 -/
abbrev gossip_Ring_Auditor_v6.R := (Unit × Unit) × (Unit)
noncomputable def gossip_Ring_Auditor_v6.f : Nat → Int → Ab0 → Ab12 → Bool → Bool → Int → Ab5 → Ab5 → (List Ab4) → Ab0 → Int → (List Ab4) → Ab0 → Int → (List Ab4) → Ab0 → Int → Option gossip_Ring_Auditor_v6.R
  | 0, _, _, _, _, _, _, _, _, _, _, _, _, _, _, _, _, _ => none
  | k + 1, x1, o0_2, o1_2, o1_3, o1_4, o1_5, o2_0, o3_0, o4_1, o4_2, o4_3, o5_1, o5_2, o5_3, o6_1, o6_2, o6_3 =>
    (gossip_at_auditor_Auditor_v5.f k x1 o4_1 o4_2 o4_3 o1_2 o1_3 o1_4 o1_5 o2_0 o3_0 o5_1 o5_2 o5_3 o6_1 o6_2 o6_3).bind fun r1 =>
    some (((), ()), (()))
abbrev gossip_Ring_Auditor_v6.ini : LSh := ⟨[(0, .ptr 1000000 0), (1, .val (.int .i64))], [(1000000, 86, [.ptr 1000001 0, .psl [(1000004, 0), (1000005, 0), (1000006, 0)], .val (.sl Ac1)]), (1000001, 80, [.mref 1000002, .mref 1000003, .val Ac10, .val .bool, .val .bool, .val (.int .i64)]), (1000002, 77, [.mapd]), (1000003, 77, [.mapd]), (1000004, 88, [.ptr 1000001 0, .val (.sl Ac6), .val (.sl Ac1), .val (.int .i64)]), (1000005, 88, [.ptr 1000001 0, .val (.sl Ac6), .val (.sl Ac1), .val (.int .i64)]), (1000006, 88, [.ptr 1000001 0, .val (.sl Ac6), .val (.sl Ac1), .val (.int .i64)])]⟩
abbrev gossip_Ring_Auditor_v6.out : LSh := ⟨[(0, .nilp)], []⟩
noncomputable def gossip_Ring_Auditor_v6.labF : Nat → List (LabF gossip_Ring_Auditor_v6.out.den)
  | _ => []
noncomputable def gossip_Ring_Auditor_v6.fd : FnD := ⟨Try.f20, gossip_Ring_Auditor_v6.ini, gossip_Ring_Auditor_v6.out, 1, [1000000, 1000001, 1000002, 1000003, 1000004, 1000005, 1000006], [1000000, 1000001, 1000002, 1000003, 1000004, 1000005, 1000006], gossip_Ring_Auditor_v6.labF, fun k (d : (Unit × Int × Unit) × Ab2) => (gossip_Ring_Auditor_v6.f k d.1.2.1 d.2.1.2.2.1 d.2.2.1.2.2.1 d.2.2.1.2.2.2.1 d.2.2.1.2.2.2.2.1 d.2.2.1.2.2.2.2.2.1 d.2.2.2.1.1 d.2.2.2.2.1.1 d.2.2.2.2.2.1.2.1 d.2.2.2.2.2.1.2.2.1 d.2.2.2.2.2.1.2.2.2.1 d.2.2.2.2.2.2.1.2.1 d.2.2.2.2.2.2.1.2.2.1 d.2.2.2.2.2.2.1.2.2.2.1 d.2.2.2.2.2.2.2.1.2.1 d.2.2.2.2.2.2.2.1.2.2.1 d.2.2.2.2.2.2.2.1.2.2.2.1 : Option gossip_Ring_Auditor_v6.R), none, [(39, 1, 5000), (88888888, 0, 0)]⟩

/-! ### gossip_Ring_Hear_v10 : function 21 -/
abbrev gossip_Ring_Hear_v10.R := (((Ab4 × Ab4 × Unit) × Bool × Int × Unit) × Int × Unit) × ((Unit × Unit × Ab0 × Unit) × Unit)
noncomputable def gossip_Ring_Hear_v10.f : Nat → Ab0 → Ab12 → Bool → Bool → Int → Ab5 → Ab5 → (List Ab4) → Ab0 → Int → (List Ab4) → Ab0 → Int → (List Ab4) → Ab0 → Int → Option gossip_Ring_Hear_v10.R
  | 0, _, _, _, _, _, _, _, _, _, _, _, _, _, _, _, _ => none
  | k + 1, o0_2, o1_2, o1_3, o1_4, o1_5, o2_0, o3_0, o4_1, o4_2, o4_3, o5_1, o5_2, o5_3, o6_1, o6_2, o6_3 =>
    (gossip_Ring_Auditor_v3.f k o0_2 o1_2 o1_3 o1_4 o1_5 o2_0 o3_0 o4_1 o4_2 o4_3 o5_1 o5_2 o5_3 o6_1 o6_2 o6_3).bind fun r1 =>
    (gossip_Ring_Auditor_v3.f k o0_2 o1_2 o1_3 o1_4 o1_5 o2_0 o3_0 o4_1 o4_2 o4_3 o5_1 o5_2 o5_3 o6_1 o6_2 o6_3).bind fun r2 =>
    (auditor_Auditor_Points.f k o6_1 o6_2 o6_3 o1_2 o1_3 o1_4 o1_5 o2_0 o3_0).bind fun r3 =>
    (auditor_Auditor_Points.f k o6_1 o6_2 o6_3 o1_2 o1_3 o1_4 o1_5 o2_0 o3_0).bind fun r4 =>
    (gossip_Compare.f k r3.1.1 r4.1.1).bind fun r5 =>
    bif r5.1.1.2.1 then
      (ck (decide ((o0_2.length + ([r5.1.1.1] : List (Ab4 × Ab4 × Unit)).length) * 48 ≤ 70368744177664))).bind fun _ =>
      some ((r5.1.1, 23, ()), (((), (), o0_2 ++ ([r5.1.1.1] : List (Ab4 × Ab4 × Unit)), ()), ()))
    else
      some ((r5.1.1, 0, ()), (((), (), o0_2, ()), ()))
abbrev gossip_Ring_Hear_v10.ini : LSh := ⟨[(0, .ptr 1000000 0), (1, .cst .i64 2), (2, .cst .i64 2)], [(1000000, 86, [.ptr 1000001 0, .psl [(1000004, 0), (1000005, 0), (1000006, 0)], .own 3000002 27 Ac1]), (1000001, 80, [.mref 1000002, .mref 1000003, .val Ac10, .val .bool, .val .bool, .val (.int .i64)]), (1000002, 77, [.mapd]), (1000003, 77, [.mapd]), (1000004, 88, [.ptr 1000001 0, .val (.sl Ac6), .val (.sl Ac1), .val (.int .i64)]), (1000005, 88, [.ptr 1000001 0, .val (.sl Ac6), .val (.sl Ac1), .val (.int .i64)]), (1000006, 88, [.ptr 1000001 0, .val (.sl Ac6), .val (.sl Ac1), .val (.int .i64)])]⟩
abbrev gossip_Ring_Hear_v10.out : LSh := ⟨[(0, .val (.cons Ac1 (.cons .bool (.cons (.int .i64) .nil)))), (1, .val (.int .i64))], [(1000000, 86, [.ptr 1000001 0, .psl [(1000004, 0), (1000005, 0), (1000006, 0)], .own 3000002 27 Ac1])]⟩
noncomputable def gossip_Ring_Hear_v10.labF : Nat → List (LabF gossip_Ring_Hear_v10.out.den)
  | _ => []
noncomputable def gossip_Ring_Hear_v10.fd : FnD := ⟨Try.f21, gossip_Ring_Hear_v10.ini, gossip_Ring_Hear_v10.out, 2, [1000000, 1000001, 1000002, 1000003, 1000004, 1000005, 1000006], [1000001, 1000002, 1000003, 1000004, 1000005, 1000006], gossip_Ring_Hear_v10.labF, fun k (d : (Unit × Unit × Unit × Unit) × Ab2) => (gossip_Ring_Hear_v10.f k d.2.1.2.2.1 d.2.2.1.2.2.1 d.2.2.1.2.2.2.1 d.2.2.1.2.2.2.2.1 d.2.2.1.2.2.2.2.2.1 d.2.2.2.1.1 d.2.2.2.2.1.1 d.2.2.2.2.2.1.2.1 d.2.2.2.2.2.1.2.2.1 d.2.2.2.2.2.1.2.2.2.1 d.2.2.2.2.2.2.1.2.1 d.2.2.2.2.2.2.1.2.2.1 d.2.2.2.2.2.2.1.2.2.2.1 d.2.2.2.2.2.2.2.1.2.1 d.2.2.2.2.2.2.2.1.2.2.1 d.2.2.2.2.2.2.2.1.2.2.2.1 : Option gossip_Ring_Hear_v10.R), none, [(88888888, 0, 0)]⟩

/-! ### gossip_Ring_Hear_v2 : function 21 -/
abbrev gossip_Ring_Hear_v2.R := (((Ab4 × Ab4 × Unit) × Bool × Int × Unit) × Int × Unit) × ((Unit × Unit × Ab0 × Unit) × Unit)
noncomputable def gossip_Ring_Hear_v2.f : Nat → Ab0 → Ab12 → Bool → Bool → Int → Ab5 → Ab5 → (List Ab4) → Ab0 → Int → (List Ab4) → Ab0 → Int → (List Ab4) → Ab0 → Int → Option gossip_Ring_Hear_v2.R
  | 0, _, _, _, _, _, _, _, _, _, _, _, _, _, _, _, _ => none
  | k + 1, o0_2, o1_2, o1_3, o1_4, o1_5, o2_0, o3_0, o4_1, o4_2, o4_3, o5_1, o5_2, o5_3, o6_1, o6_2, o6_3 =>
    (gossip_Ring_Auditor_v5.f k o0_2 o1_2 o1_3 o1_4 o1_5 o2_0 o3_0 o4_1 o4_2 o4_3 o5_1 o5_2 o5_3 o6_1 o6_2 o6_3).bind fun r1 =>
    (gossip_Ring_Auditor_v5.f k o0_2 o1_2 o1_3 o1_4 o1_5 o2_0 o3_0 o4_1 o4_2 o4_3 o5_1 o5_2 o5_3 o6_1 o6_2 o6_3).bind fun r2 =>
    (auditor_Auditor_Points.f k o4_1 o4_2 o4_3 o1_2 o1_3 o1_4 o1_5 o2_0 o3_0).bind fun r3 =>
    (auditor_Auditor_Points.f k o4_1 o4_2 o4_3 o1_2 o1_3 o1_4 o1_5 o2_0 o3_0).bind fun r4 =>
    (gossip_Compare.f k r3.1.1 r4.1.1).bind fun r5 =>
    bif r5.1.1.2.1 then
      (ck (decide ((o0_2.length + ([r5.1.1.1] : List (Ab4 × Ab4 × Unit)).length) * 48 ≤ 70368744177664))).bind fun _ =>
      some ((r5.1.1, 23, ()), (((), (), o0_2 ++ ([r5.1.1.1] : List (Ab4 × Ab4 × Unit)), ()), ()))
    else
      some ((r5.1.1, 0, ()), (((), (), o0_2, ()), ()))
abbrev gossip_Ring_Hear_v2.ini : LSh := ⟨[(0, .ptr 1000000 0), (1, .cst .i64 0), (2, .cst .i64 0)], [(1000000, 86, [.ptr 1000001 0, .psl [(1000004, 0), (1000005, 0), (1000006, 0)], .own 3000002 27 Ac1]), (1000001, 80, [.mref 1000002, .mref 1000003, .val Ac10, .val .bool, .val .bool, .val (.int .i64)]), (1000002, 77, [.mapd]), (1000003, 77, [.mapd]), (1000004, 88, [.ptr 1000001 0, .val (.sl Ac6), .val (.sl Ac1), .val (.int .i64)]), (1000005, 88, [.ptr 1000001 0, .val (.sl Ac6), .val (.sl Ac1), .val (.int .i64)]), (1000006, 88, [.ptr 1000001 0, .val (.sl Ac6), .val (.sl Ac1), .val (.int .i64)])]⟩
abbrev gossip_Ring_Hear_v2.out : LSh := ⟨[(0, .val (.cons Ac1 (.cons .bool (.cons (.int .i64) .nil)))), (1, .val (.int .i64))], [(1000000, 86, [.ptr 1000001 0, .psl [(1000004, 0), (1000005, 0), (1000006, 0)], .own 3000002 27 Ac1])]⟩
noncomputable def gossip_Ring_Hear_v2.labF : Nat → List (LabF gossip_Ring_Hear_v2.out.den)
  | _ => []
noncomputable def gossip_Ring_Hear_v2.fd : FnD := ⟨Try.f21, gossip_Ring_Hear_v2.ini, gossip_Ring_Hear_v2.out, 2, [1000000, 1000001, 1000002, 1000003, 1000004, 1000005, 1000006], [1000001, 1000002, 1000003, 1000004, 1000005, 1000006], gossip_Ring_Hear_v2.labF, fun k (d : (Unit × Unit × Unit × Unit) × Ab2) => (gossip_Ring_Hear_v2.f k d.2.1.2.2.1 d.2.2.1.2.2.1 d.2.2.1.2.2.2.1 d.2.2.1.2.2.2.2.1 d.2.2.1.2.2.2.2.2.1 d.2.2.2.1.1 d.2.2.2.2.1.1 d.2.2.2.2.2.1.2.1 d.2.2.2.2.2.1.2.2.1 d.2.2.2.2.2.1.2.2.2.1 d.2.2.2.2.2.2.1.2.1 d.2.2.2.2.2.2.1.2.2.1 d.2.2.2.2.2.2.1.2.2.2.1 d.2.2.2.2.2.2.2.1.2.1 d.2.2.2.2.2.2.2.1.2.2.1 d.2.2.2.2.2.2.2.1.2.2.2.1 : Option gossip_Ring_Hear_v2.R), none, [(88888888, 0, 0)]⟩

/-! ### gossip_Ring_Hear_v3 : function 21 -/
abbrev gossip_Ring_Hear_v3.R := (((Ab4 × Ab4 × Unit) × Bool × Int × Unit) × Int × Unit) × ((Unit × Unit × Ab0 × Unit) × Unit)
noncomputable def gossip_Ring_Hear_v3.f : Nat → Ab0 → Ab12 → Bool → Bool → Int → Ab5 → Ab5 → (List Ab4) → Ab0 → Int → (List Ab4) → Ab0 → Int → (List Ab4) → Ab0 → Int → Option gossip_Ring_Hear_v3.R
  | 0, _, _, _, _, _, _, _, _, _, _, _, _, _, _, _, _ => none
  | k + 1, o0_2, o1_2, o1_3, o1_4, o1_5, o2_0, o3_0, o4_1, o4_2, o4_3, o5_1, o5_2, o5_3, o6_1, o6_2, o6_3 =>
    (gossip_Ring_Auditor_v5.f k o0_2 o1_2 o1_3 o1_4 o1_5 o2_0 o3_0 o4_1 o4_2 o4_3 o5_1 o5_2 o5_3 o6_1 o6_2 o6_3).bind fun r1 =>
    (gossip_Ring_Auditor_v4.f k o0_2 o1_2 o1_3 o1_4 o1_5 o2_0 o3_0 o4_1 o4_2 o4_3 o5_1 o5_2 o5_3 o6_1 o6_2 o6_3).bind fun r2 =>
    (auditor_Auditor_Points.f k o4_1 o4_2 o4_3 o1_2 o1_3 o1_4 o1_5 o2_0 o3_0).bind fun r3 =>
    (auditor_Auditor_Points.f k o5_1 o5_2 o5_3 o1_2 o1_3 o1_4 o1_5 o2_0 o3_0).bind fun r4 =>
    (gossip_Compare.f k r3.1.1 r4.1.1).bind fun r5 =>
    bif r5.1.1.2.1 then
      (ck (decide ((o0_2.length + ([r5.1.1.1] : List (Ab4 × Ab4 × Unit)).length) * 48 ≤ 70368744177664))).bind fun _ =>
      some ((r5.1.1, 23, ()), (((), (), o0_2 ++ ([r5.1.1.1] : List (Ab4 × Ab4 × Unit)), ()), ()))
    else
      some ((r5.1.1, 0, ()), (((), (), o0_2, ()), ()))
abbrev gossip_Ring_Hear_v3.ini : LSh := ⟨[(0, .ptr 1000000 0), (1, .cst .i64 0), (2, .cst .i64 1)], [(1000000, 86, [.ptr 1000001 0, .psl [(1000004, 0), (1000005, 0), (1000006, 0)], .own 3000002 27 Ac1]), (1000001, 80, [.mref 1000002, .mref 1000003, .val Ac10, .val .bool, .val .bool, .val (.int .i64)]), (1000002, 77, [.mapd]), (1000003, 77, [.mapd]), (1000004, 88, [.ptr 1000001 0, .val (.sl Ac6), .val (.sl Ac1), .val (.int .i64)]), (1000005, 88, [.ptr 1000001 0, .val (.sl Ac6), .val (.sl Ac1), .val (.int .i64)]), (1000006, 88, [.ptr 1000001 0, .val (.sl Ac6), .val (.sl Ac1), .val (.int .i64)])]⟩
abbrev gossip_Ring_Hear_v3.out : LSh := ⟨[(0, .val (.cons Ac1 (.cons .bool (.cons (.int .i64) .nil)))), (1, .val (.int .i64))], [(1000000, 86, [.ptr 1000001 0, .psl [(1000004, 0), (1000005, 0), (1000006, 0)], .own 3000002 27 Ac1])]⟩
noncomputable def gossip_Ring_Hear_v3.labF : Nat → List (LabF gossip_Ring_Hear_v3.out.den)
  | _ => []
noncomputable def gossip_Ring_Hear_v3.fd : FnD := ⟨Try.f21, gossip_Ring_Hear_v3.ini, gossip_Ring_Hear_v3.out, 2, [1000000, 1000001, 1000002, 1000003, 1000004, 1000005, 1000006], [1000001, 1000002, 1000003, 1000004, 1000005, 1000006], gossip_Ring_Hear_v3.labF, fun k (d : (Unit × Unit × Unit × Unit) × Ab2) => (gossip_Ring_Hear_v3.f k d.2.1.2.2.1 d.2.2.1.2.2.1 d.2.2.1.2.2.2.1 d.2.2.1.2.2.2.2.1 d.2.2.1.2.2.2.2.2.1 d.2.2.2.1.1 d.2.2.2.2.1.1 d.2.2.2.2.2.1.2.1 d.2.2.2.2.2.1.2.2.1 d.2.2.2.2.2.1.2.2.2.1 d.2.2.2.2.2.2.1.2.1 d.2.2.2.2.2.2.1.2.2.1 d.2.2.2.2.2.2.1.2.2.2.1 d.2.2.2.2.2.2.2.1.2.1 d.2.2.2.2.2.2.2.1.2.2.1 d.2.2.2.2.2.2.2.1.2.2.2.1 : Option gossip_Ring_Hear_v3.R), none, [(88888888, 0, 0)]⟩

/-! ### gossip_Ring_Hear_v4 : function 21 -/
abbrev gossip_Ring_Hear_v4.R := (((Ab4 × Ab4 × Unit) × Bool × Int × Unit) × Int × Unit) × ((Unit × Unit × Ab0 × Unit) × Unit)
noncomputable def gossip_Ring_Hear_v4.f : Nat → Ab0 → Ab12 → Bool → Bool → Int → Ab5 → Ab5 → (List Ab4) → Ab0 → Int → (List Ab4) → Ab0 → Int → (List Ab4) → Ab0 → Int → Option gossip_Ring_Hear_v4.R
  | 0, _, _, _, _, _, _, _, _, _, _, _, _, _, _, _, _ => none
  | k + 1, o0_2, o1_2, o1_3, o1_4, o1_5, o2_0, o3_0, o4_1, o4_2, o4_3, o5_1, o5_2, o5_3, o6_1, o6_2, o6_3 =>
    (gossip_Ring_Auditor_v5.f k o0_2 o1_2 o1_3 o1_4 o1_5 o2_0 o3_0 o4_1 o4_2 o4_3 o5_1 o5_2 o5_3 o6_1 o6_2 o6_3).bind fun r1 =>
    (gossip_Ring_Auditor_v3.f k o0_2 o1_2 o1_3 o1_4 o1_5 o2_0 o3_0 o4_1 o4_2 o4_3 o5_1 o5_2 o5_3 o6_1 o6_2 o6_3).bind fun r2 =>
    (auditor_Auditor_Points.f k o4_1 o4_2 o4_3 o1_2 o1_3 o1_4 o1_5 o2_0 o3_0).bind fun r3 =>
    (auditor_Auditor_Points.f k o6_1 o6_2 o6_3 o1_2 o1_3 o1_4 o1_5 o2_0 o3_0).bind fun r4 =>
    (gossip_Compare.f k r3.1.1 r4.1.1).bind fun r5 =>
    bif r5.1.1.2.1 then
      (ck (decide ((o0_2.length + ([r5.1.1.1] : List (Ab4 × Ab4 × Unit)).length) * 48 ≤ 70368744177664))).bind fun _ =>
      some ((r5.1.1, 23, ()), (((), (), o0_2 ++ ([r5.1.1.1] : List (Ab4 × Ab4 × Unit)), ()), ()))
    else
      some ((r5.1.1, 0, ()), (((), (), o0_2, ()), ()))
abbrev gossip_Ring_Hear_v4.ini : LSh := ⟨[(0, .ptr 1000000 0), (1, .cst .i64 0), (2, .cst .i64 2)], [(1000000, 86, [.ptr 1000001 0, .psl [(1000004, 0), (1000005, 0), (1000006, 0)], .own 3000002 27 Ac1]), (1000001, 80, [.mref 1000002, .mref 1000003, .val Ac10, .val .bool, .val .bool, .val (.int .i64)]), (1000002, 77, [.mapd]), (1000003, 77, [.mapd]), (1000004, 88, [.ptr 1000001 0, .val (.sl Ac6), .val (.sl Ac1), .val (.int .i64)]), (1000005, 88, [.ptr 1000001 0, .val (.sl Ac6), .val (.sl Ac1), .val (.int .i64)]), (1000006, 88, [.ptr 1000001 0, .val (.sl Ac6), .val (.sl Ac1), .val (.int .i64)])]⟩
abbrev gossip_Ring_Hear_v4.out : LSh := ⟨[(0, .val (.cons Ac1 (.cons .bool (.cons (.int .i64) .nil)))), (1, .val (.int .i64))], [(1000000, 86, [.ptr 1000001 0, .psl [(1000004, 0), (1000005, 0), (1000006, 0)], .own 3000002 27 Ac1])]⟩
noncomputable def gossip_Ring_Hear_v4.labF : Nat → List (LabF gossip_Ring_Hear_v4.out.den)
  | _ => []
noncomputable def gossip_Ring_Hear_v4.fd : FnD := ⟨Try.f21, gossip_Ring_Hear_v4.ini, gossip_Ring_Hear_v4.out, 2, [1000000, 1000001, 1000002, 1000003, 1000004, 1000005, 1000006], [1000001, 1000002, 1000003, 1000004, 1000005, 1000006], gossip_Ring_Hear_v4.labF, fun k (d : (Unit × Unit × Unit × Unit) × Ab2) => (gossip_Ring_Hear_v4.f k d.2.1.2.2.1 d.2.2.1.2.2.1 d.2.2.1.2.2.2.1 d.2.2.1.2.2.2.2.1 d.2.2.1.2.2.2.2.2.1 d.2.2.2.1.1 d.2.2.2.2.1.1 d.2.2.2.2.2.1.2.1 d.2.2.2.2.2.1.2.2.1 d.2.2.2.2.2.1.2.2.2.1 d.2.2.2.2.2.2.1.2.1 d.2.2.2.2.2.2.1.2.2.1 d.2.2.2.2.2.2.1.2.2.2.1 d.2.2.2.2.2.2.2.1.2.1 d.2.2.2.2.2.2.2.1.2.2.1 d.2.2.2.2.2.2.2.1.2.2.2.1 : Option gossip_Ring_Hear_v4.R), none, [(88888888, 0, 0)]⟩

/-! ### gossip_Ring_Hear_v5 : function 21 -/
abbrev gossip_Ring_Hear_v5.R := (((Ab4 × Ab4 × Unit) × Bool × Int × Unit) × Int × Unit) × ((Unit × Unit × Ab0 × Unit) × Unit)
noncomputable def gossip_Ring_Hear_v5.f : Nat → Ab0 → Ab12 → Bool → Bool → Int → Ab5 → Ab5 → (List Ab4) → Ab0 → Int → (List Ab4) → Ab0 → Int → (List Ab4) → Ab0 → Int → Option gossip_Ring_Hear_v5.R
  | 0, _, _, _, _, _, _, _, _, _, _, _, _, _, _, _, _ => none
  | k + 1, o0_2, o1_2, o1_3, o1_4, o1_5, o2_0, o3_0, o4_1, o4_2, o4_3, o5_1, o5_2, o5_3, o6_1, o6_2, o6_3 =>
    (gossip_Ring_Auditor_v4.f k o0_2 o1_2 o1_3 o1_4 o1_5 o2_0 o3_0 o4_1 o4_2 o4_3 o5_1 o5_2 o5_3 o6_1 o6_2 o6_3).bind fun r1 =>
    (gossip_Ring_Auditor_v5.f k o0_2 o1_2 o1_3 o1_4 o1_5 o2_0 o3_0 o4_1 o4_2 o4_3 o5_1 o5_2 o5_3 o6_1 o6_2 o6_3).bind fun r2 =>
    (auditor_Auditor_Points.f k o5_1 o5_2 o5_3 o1_2 o1_3 o1_4 o1_5 o2_0 o3_0).bind fun r3 =>
    (auditor_Auditor_Points.f k o4_1 o4_2 o4_3 o1_2 o1_3 o1_4 o1_5 o2_0 o3_0).bind fun r4 =>
    (gossip_Compare.f k r3.1.1 r4.1.1).bind fun r5 =>
    bif r5.1.1.2.1 then
      (ck (decide ((o0_2.length + ([r5.1.1.1] : List (Ab4 × Ab4 × Unit)).length) * 48 ≤ 70368744177664))).bind fun _ =>
      some ((r5.1.1, 23, ()), (((), (), o0_2 ++ ([r5.1.1.1] : List (Ab4 × Ab4 × Unit)), ()), ()))
    else
      some ((r5.1.1, 0, ()), (((), (), o0_2, ()), ()))
abbrev gossip_Ring_Hear_v5.ini : LSh := ⟨[(0, .ptr 1000000 0), (1, .cst .i64 1), (2, .cst .i64 0)], [(1000000, 86, [.ptr 1000001 0, .psl [(1000004, 0), (1000005, 0), (1000006, 0)], .own 3000002 27 Ac1]), (1000001, 80, [.mref 1000002, .mref 1000003, .val Ac10, .val .bool, .val .bool, .val (.int .i64)]), (1000002, 77, [.mapd]), (1000003, 77, [.mapd]), (1000004, 88, [.ptr 1000001 0, .val (.sl Ac6), .val (.sl Ac1), .val (.int .i64)]), (1000005, 88, [.ptr 1000001 0, .val (.sl Ac6), .val (.sl Ac1), .val (.int .i64)]), (1000006, 88, [.ptr 1000001 0, .val (.sl Ac6), .val (.sl Ac1), .val (.int .i64)])]⟩
abbrev gossip_Ring_Hear_v5.out : LSh := ⟨[(0, .val (.cons Ac1 (.cons .bool (.cons (.int .i64) .nil)))), (1, .val (.int .i64))], [(1000000, 86, [.ptr 1000001 0, .psl [(1000004, 0), (1000005, 0), (1000006, 0)], .own 3000002 27 Ac1])]⟩
noncomputable def gossip_Ring_Hear_v5.labF : Nat → List (LabF gossip_Ring_Hear_v5.out.den)
  | _ => []
noncomputable def gossip_Ring_Hear_v5.fd : FnD := ⟨Try.f21, gossip_Ring_Hear_v5.ini, gossip_Ring_Hear_v5.out, 2, [1000000, 1000001, 1000002, 1000003, 1000004, 1000005, 1000006], [1000001, 1000002, 1000003, 1000004, 1000005, 1000006], gossip_Ring_Hear_v5.labF, fun k (d : (Unit × Unit × Unit × Unit) × Ab2) => (gossip_Ring_Hear_v5.f k d.2.1.2.2.1 d.2.2.1.2.2.1 d.2.2.1.2.2.2.1 d.2.2.1.2.2.2.2.1 d.2.2.1.2.2.2.2.2.1 d.2.2.2.1.1 d.2.2.2.2.1.1 d.2.2.2.2.2.1.2.1 d.2.2.2.2.2.1.2.2.1 d.2.2.2.2.2.1.2.2.2.1 d.2.2.2.2.2.2.1.2.1 d.2.2.2.2.2.2.1.2.2.1 d.2.2.2.2.2.2.1.2.2.2.1 d.2.2.2.2.2.2.2.1.2.1 d.2.2.2.2.2.2.2.1.2.2.1 d.2.2.2.2.2.2.2.1.2.2.2.1 : Option gossip_Ring_Hear_v5.R), none, [(88888888, 0, 0)]⟩

/-! ### gossip_Ring_Hear_v6 : function 21 -/
abbrev gossip_Ring_Hear_v6.R := (((Ab4 × Ab4 × Unit) × Bool × Int × Unit) × Int × Unit) × ((Unit × Unit × Ab0 × Unit) × Unit)
noncomputable def gossip_Ring_Hear_v6.f : Nat → Ab0 → Ab12 → Bool → Bool → Int → Ab5 → Ab5 → (List Ab4) → Ab0 → Int → (List Ab4) → Ab0 → Int → (List Ab4) → Ab0 → Int → Option gossip_Ring_Hear_v6.R
  | 0, _, _, _, _, _, _, _, _, _, _, _, _, _, _, _, _ => none
  | k + 1, o0_2, o1_2, o1_3, o1_4, o1_5, o2_0, o3_0, o4_1, o4_2, o4_3, o5_1, o5_2, o5_3, o6_1, o6_2, o6_3 =>
    (gossip_Ring_Auditor_v4.f k o0_2 o1_2 o1_3 o1_4 o1_5 o2_0 o3_0 o4_1 o4_2 o4_3 o5_1 o5_2 o5_3 o6_1 o6_2 o6_3).bind fun r1 =>
    (gossip_Ring_Auditor_v4.f k o0_2 o1_2 o1_3 o1_4 o1_5 o2_0 o3_0 o4_1 o4_2 o4_3 o5_1 o5_2 o5_3 o6_1 o6_2 o6_3).bind fun r2 =>
    (auditor_Auditor_Points.f k o5_1 o5_2 o5_3 o1_2 o1_3 o1_4 o1_5 o2_0 o3_0).bind fun r3 =>
    (auditor_Auditor_Points.f k o5_1 o5_2 o5_3 o1_2 o1_3 o1_4 o1_5 o2_0 o3_0).bind fun r4 =>
    (gossip_Compare.f k r3.1.1 r4.1.1).bind fun r5 =>
    bif r5.1.1.2.1 then
      (ck (decide ((o0_2.length + ([r5.1.1.1] : List (Ab4 × Ab4 × Unit)).length) * 48 ≤ 70368744177664))).bind fun _ =>
      some ((r5.1.1, 23, ()), (((), (), o0_2 ++ ([r5.1.1.1] : List (Ab4 × Ab4 × Unit)), ()), ()))
    else
      some ((r5.1.1, 0, ()), (((), (), o0_2, ()), ()))
abbrev gossip_Ring_Hear_v6.ini : LSh := ⟨[(0, .ptr 1000000 0), (1, .cst .i64 1), (2, .cst .i64 1)], [(1000000, 86, [.ptr 1000001 0, .psl [(1000004, 0), (1000005, 0), (1000006, 0)], .own 3000002 27 Ac1]), (1000001, 80, [.mref 1000002, .mref 1000003, .val Ac10, .val .bool, .val .bool, .val (.int .i64)]), (1000002, 77, [.mapd]), (1000003, 77, [.mapd]), (1000004, 88, [.ptr 1000001 0, .val (.sl Ac6), .val (.sl Ac1), .val (.int .i64)]), (1000005, 88, [.ptr 1000001 0, .val (.sl Ac6), .val (.sl Ac1), .val (.int .i64)]), (1000006, 88, [.ptr 1000001 0, .val (.sl Ac6), .val (.sl Ac1), .val (.int .i64)])]⟩
abbrev gossip_Ring_Hear_v6.out : LSh := ⟨[(0, .val (.cons Ac1 (.cons .bool (.cons (.int .i64) .nil)))), (1, .val (.int .i64))], [(1000000, 86, [.ptr 1000001 0, .psl [(1000004, 0), (1000005, 0), (1000006, 0)], .own 3000002 27 Ac1])]⟩
noncomputable def gossip_Ring_Hear_v6.labF : Nat → List (LabF gossip_Ring_Hear_v6.out.den)
  | _ => []
noncomputable def gossip_Ring_Hear_v6.fd : FnD := ⟨Try.f21, gossip_Ring_Hear_v6.ini, gossip_Ring_Hear_v6.out, 2, [1000000, 1000001, 1000002, 1000003, 1000004, 1000005, 1000006], [1000001, 1000002, 1000003, 1000004, 1000005, 1000006], gossip_Ring_Hear_v6.labF, fun k (d : (Unit × Unit × Unit × Unit) × Ab2) => (gossip_Ring_Hear_v6.f k d.2.1.2.2.1 d.2.2.1.2.2.1 d.2.2.1.2.2.2.1 d.2.2.1.2.2.2.2.1 d.2.2.1.2.2.2.2.2.1 d.2.2.2.1.1 d.2.2.2.2.1.1 d.2.2.2.2.2.1.2.1 d.2.2.2.2.2.1.2.2.1 d.2.2.2.2.2.1.2.2.2.1 d.2.2.2.2.2.2.1.2.1 d.2.2.2.2.2.2.1.2.2.1 d.2.2.2.2.2.2.1.2.2.2.1 d.2.2.2.2.2.2.2.1.2.1 d.2.2.2.2.2.2.2.1.2.2.1 d.2.2.2.2.2.2.2.1.2.2.2.1 : Option gossip_Ring_Hear_v6.R), none, [(88888888, 0, 0)]⟩

/-! ### gossip_Ring_Hear_v7 : function 21 -/
abbrev gossip_Ring_Hear_v7.R := (((Ab4 × Ab4 × Unit) × Bool × Int × Unit) × Int × Unit) × ((Unit × Unit × Ab0 × Unit) × Unit)
noncomputable def gossip_Ring_Hear_v7.f : Nat → Ab0 → Ab12 → Bool → Bool → Int → Ab5 → Ab5 → (List Ab4) → Ab0 → Int → (List Ab4) → Ab0 → Int → (List Ab4) → Ab0 → Int → Option gossip_Ring_Hear_v7.R
  | 0, _, _, _, _, _, _, _, _, _, _, _, _, _, _, _, _ => none
  | k + 1, o0_2, o1_2, o1_3, o1_4, o1_5, o2_0, o3_0, o4_1, o4_2, o4_3, o5_1, o5_2, o5_3, o6_1, o6_2, o6_3 =>
    (gossip_Ring_Auditor_v4.f k o0_2 o1_2 o1_3 o1_4 o1_5 o2_0 o3_0 o4_1 o4_2 o4_3 o5_1 o5_2 o5_3 o6_1 o6_2 o6_3).bind fun r1 =>
    (gossip_Ring_Auditor_v3.f k o0_2 o1_2 o1_3 o1_4 o1_5 o2_0 o3_0 o4_1 o4_2 o4_3 o5_1 o5_2 o5_3 o6_1 o6_2 o6_3).bind fun r2 =>
    (auditor_Auditor_Points.f k o5_1 o5_2 o5_3 o1_2 o1_3 o1_4 o1_5 o2_0 o3_0).bind fun r3 =>
    (auditor_Auditor_Points.f k o6_1 o6_2 o6_3 o1_2 o1_3 o1_4 o1_5 o2_0 o3_0).bind fun r4 =>
    (gossip_Compare.f k r3.1.1 r4.1.1).bind fun r5 =>
    bif r5.1.1.2.1 then
      (ck (decide ((o0_2.length + ([r5.1.1.1] : List (Ab4 × Ab4 × Unit)).length) * 48 ≤ 70368744177664))).bind fun _ =>
      some ((r5.1.1, 23, ()), (((), (), o0_2 ++ ([r5.1.1.1] : List (Ab4 × Ab4 × Unit)), ()), ()))
    else
      some ((r5.1.1, 0, ()), (((), (), o0_2, ()), ()))
abbrev gossip_Ring_Hear_v7.ini : LSh := ⟨[(0, .ptr 1000000 0), (1, .cst .i64 1), (2, .cst .i64 2)], [(1000000, 86, [.ptr 1000001 0, .psl [(1000004, 0), (1000005, 0), (1000006, 0)], .own 3000002 27 Ac1]), (1000001, 80, [.mref 1000002, .mref 1000003, .val Ac10, .val .bool, .val .bool, .val (.int .i64)]), (1000002, 77, [.mapd]), (1000003, 77, [.mapd]), (1000004, 88, [.ptr 1000001 0, .val (.sl Ac6), .val (.sl Ac1), .val (.int .i64)]), (1000005, 88, [.ptr 1000001 0, .val (.sl Ac6), .val (.sl Ac1), .val (.int .i64)]), (1000006, 88, [.ptr 1000001 0, .val (.sl Ac6), .val (.sl Ac1), .val (.int .i64)])]⟩
abbrev gossip_Ring_Hear_v7.out : LSh := ⟨[(0, .val (.cons Ac1 (.cons .bool (.cons (.int .i64) .nil)))), (1, .val (.int .i64))], [(1000000, 86, [.ptr 1000001 0, .psl [(1000004, 0), (1000005, 0), (1000006, 0)], .own 3000002 27 Ac1])]⟩
noncomputable def gossip_Ring_Hear_v7.labF : Nat → List (LabF gossip_Ring_Hear_v7.out.den)
  | _ => []
noncomputable def gossip_Ring_Hear_v7.fd : FnD := ⟨Try.f21, gossip_Ring_Hear_v7.ini, gossip_Ring_Hear_v7.out, 2, [1000000, 1000001, 1000002, 1000003, 1000004, 1000005, 1000006], [1000001, 1000002, 1000003, 1000004, 1000005, 1000006], gossip_Ring_Hear_v7.labF, fun k (d : (Unit × Unit × Unit × Unit) × Ab2) => (gossip_Ring_Hear_v7.f k d.2.1.2.2.1 d.2.2.1.2.2.1 d.2.2.1.2.2.2.1 d.2.2.1.2.2.2.2.1 d.2.2.1.2.2.2.2.2.1 d.2.2.2.1.1 d.2.2.2.2.1.1 d.2.2.2.2.2.1.2.1 d.2.2.2.2.2.1.2.2.1 d.2.2.2.2.2.1.2.2.2.1 d.2.2.2.2.2.2.1.2.1 d.2.2.2.2.2.2.1.2.2.1 d.2.2.2.2.2.2.1.2.2.2.1 d.2.2.2.2.2.2.2.1.2.1 d.2.2.2.2.2.2.2.1.2.2.1 d.2.2.2.2.2.2.2.1.2.2.2.1 : Option gossip_Ring_Hear_v7.R), none, [(88888888, 0, 0)]⟩

/-! ### gossip_Ring_Hear_v8 : function 21 -/
abbrev gossip_Ring_Hear_v8.R := (((Ab4 × Ab4 × Unit) × Bool × Int × Unit) × Int × Unit) × ((Unit × Unit × Ab0 × Unit) × Unit)
noncomputable def gossip_Ring_Hear_v8.f : Nat → Ab0 → Ab12 → Bool → Bool → Int → Ab5 → Ab5 → (List Ab4) → Ab0 → Int → (List Ab4) → Ab0 → Int → (List Ab4) → Ab0 → Int → Option gossip_Ring_Hear_v8.R
  | 0, _, _, _, _, _, _, _, _, _, _, _, _, _, _, _, _ => none
  | k + 1, o0_2, o1_2, o1_3, o1_4, o1_5, o2_0, o3_0, o4_1, o4_2, o4_3, o5_1, o5_2, o5_3, o6_1, o6_2, o6_3 =>
    (gossip_Ring_Auditor_v3.f k o0_2 o1_2 o1_3 o1_4 o1_5 o2_0 o3_0 o4_1 o4_2 o4_3 o5_1 o5_2 o5_3 o6_1 o6_2 o6_3).bind fun r1 =>
    (gossip_Ring_Auditor_v5.f k o0_2 o1_2 o1_3 o1_4 o1_5 o2_0 o3_0 o4_1 o4_2 o4_3 o5_1 o5_2 o5_3 o6_1 o6_2 o6_3).bind fun r2 =>
    (auditor_Auditor_Points.f k o6_1 o6_2 o6_3 o1_2 o1_3 o1_4 o1_5 o2_0 o3_0).bind fun r3 =>
    (auditor_Auditor_Points.f k o4_1 o4_2 o4_3 o1_2 o1_3 o1_4 o1_5 o2_0 o3_0).bind fun r4 =>
    (gossip_Compare.f k r3.1.1 r4.1.1).bind fun r5 =>
    bif r5.1.1.2.1 then
      (ck (decide ((o0_2.length + ([r5.1.1.1] : List (Ab4 × Ab4 × Unit)).length) * 48 ≤ 70368744177664))).bind fun _ =>
      some ((r5.1.1, 23, ()), (((), (), o0_2 ++ ([r5.1.1.1] : List (Ab4 × Ab4 × Unit)), ()), ()))
    else
      some ((r5.1.1, 0, ()), (((), (), o0_2, ()), ()))
abbrev gossip_Ring_Hear_v8.ini : LSh := ⟨[(0, .ptr 1000000 0), (1, .cst .i64 2), (2, .cst .i64 0)], [(1000000, 86, [.ptr 1000001 0, .psl [(1000004, 0), (1000005, 0), (1000006, 0)], .own 3000002 27 Ac1]), (1000001, 80, [.mref 1000002, .mref 1000003, .val Ac10, .val .bool, .val .bool, .val (.int .i64)]), (1000002, 77, [.mapd]), (1000003, 77, [.mapd]), (1000004, 88, [.ptr 1000001 0, .val (.sl Ac6), .val (.sl Ac1), .val (.int .i64)]), (1000005, 88, [.ptr 1000001 0, .val (.sl Ac6), .val (.sl Ac1), .val (.int .i64)]), (1000006, 88, [.ptr 1000001 0, .val (.sl Ac6), .val (.sl Ac1), .val (.int .i64)])]⟩
abbrev gossip_Ring_Hear_v8.out : LSh := ⟨[(0, .val (.cons Ac1 (.cons .bool (.cons (.int .i64) .nil)))), (1, .val (.int .i64))], [(1000000, 86, [.ptr 1000001 0, .psl [(1000004, 0), (1000005, 0), (1000006, 0)], .own 3000002 27 Ac1])]⟩
noncomputable def gossip_Ring_Hear_v8.labF : Nat → List (LabF gossip_Ring_Hear_v8.out.den)
  | _ => []
noncomputable def gossip_Ring_Hear_v8.fd : FnD := ⟨Try.f21, gossip_Ring_Hear_v8.ini, gossip_Ring_Hear_v8.out, 2, [1000000, 1000001, 1000002, 1000003, 1000004, 1000005, 1000006], [1000001, 1000002, 1000003, 1000004, 1000005, 1000006], gossip_Ring_Hear_v8.labF, fun k (d : (Unit × Unit × Unit × Unit) × Ab2) => (gossip_Ring_Hear_v8.f k d.2.1.2.2.1 d.2.2.1.2.2.1 d.2.2.1.2.2.2.1 d.2.2.1.2.2.2.2.1 d.2.2.1.2.2.2.2.2.1 d.2.2.2.1.1 d.2.2.2.2.1.1 d.2.2.2.2.2.1.2.1 d.2.2.2.2.2.1.2.2.1 d.2.2.2.2.2.1.2.2.2.1 d.2.2.2.2.2.2.1.2.1 d.2.2.2.2.2.2.1.2.2.1 d.2.2.2.2.2.2.1.2.2.2.1 d.2.2.2.2.2.2.2.1.2.1 d.2.2.2.2.2.2.2.1.2.2.1 d.2.2.2.2.2.2.2.1.2.2.2.1 : Option gossip_Ring_Hear_v8.R), none, [(88888888, 0, 0)]⟩

/-! ### gossip_Ring_Hear_v9 : function 21 -/
abbrev gossip_Ring_Hear_v9.R := (((Ab4 × Ab4 × Unit) × Bool × Int × Unit) × Int × Unit) × ((Unit × Unit × Ab0 × Unit) × Unit)
noncomputable def gossip_Ring_Hear_v9.f : Nat → Ab0 → Ab12 → Bool → Bool → Int → Ab5 → Ab5 → (List Ab4) → Ab0 → Int → (List Ab4) → Ab0 → Int → (List Ab4) → Ab0 → Int → Option gossip_Ring_Hear_v9.R
  | 0, _, _, _, _, _, _, _, _, _, _, _, _, _, _, _, _ => none
  | k + 1, o0_2, o1_2, o1_3, o1_4, o1_5, o2_0, o3_0, o4_1, o4_2, o4_3, o5_1, o5_2, o5_3, o6_1, o6_2, o6_3 =>
    (gossip_Ring_Auditor_v3.f k o0_2 o1_2 o1_3 o1_4 o1_5 o2_0 o3_0 o4_1 o4_2 o4_3 o5_1 o5_2 o5_3 o6_1 o6_2 o6_3).bind fun r1 =>
    (gossip_Ring_Auditor_v4.f k o0_2 o1_2 o1_3 o1_4 o1_5 o2_0 o3_0 o4_1 o4_2 o4_3 o5_1 o5_2 o5_3 o6_1 o6_2 o6_3).bind fun r2 =>
    (auditor_Auditor_Points.f k o6_1 o6_2 o6_3 o1_2 o1_3 o1_4 o1_5 o2_0 o3_0).bind fun r3 =>
    (auditor_Auditor_Points.f k o5_1 o5_2 o5_3 o1_2 o1_3 o1_4 o1_5 o2_0 o3_0).bind fun r4 =>
    (gossip_Compare.f k r3.1.1 r4.1.1).bind fun r5 =>
    bif r5.1.1.2.1 then
      (ck (decide ((o0_2.length + ([r5.1.1.1] : List (Ab4 × Ab4 × Unit)).length) * 48 ≤ 70368744177664))).bind fun _ =>
      some ((r5.1.1, 23, ()), (((), (), o0_2 ++ ([r5.1.1.1] : List (Ab4 × Ab4 × Unit)), ()), ()))
    else
      some ((r5.1.1, 0, ()), (((), (), o0_2, ()), ()))
abbrev gossip_Ring_Hear_v9.ini : LSh := ⟨[(0, .ptr 1000000 0), (1, .cst .i64 2), (2, .cst .i64 1)], [(1000000, 86, [.ptr 1000001 0, .psl [(1000004, 0), (1000005, 0), (1000006, 0)], .own 3000002 27 Ac1]), (1000001, 80, [.mref 1000002, .mref 1000003, .val Ac10, .val .bool, .val .bool, .val (.int .i64)]), (1000002, 77, [.mapd]), (1000003, 77, [.mapd]), (1000004, 88, [.ptr 1000001 0, .val (.sl Ac6), .val (.sl Ac1), .val (.int .i64)]), (1000005, 88, [.ptr 1000001 0, .val (.sl Ac6), .val (.sl Ac1), .val (.int .i64)]), (1000006, 88, [.ptr 1000001 0, .val (.sl Ac6), .val (.sl Ac1), .val (.int .i64)])]⟩
abbrev gossip_Ring_Hear_v9.out : LSh := ⟨[(0, .val (.cons Ac1 (.cons .bool (.cons (.int .i64) .nil)))), (1, .val (.int .i64))], [(1000000, 86, [.ptr 1000001 0, .psl [(1000004, 0), (1000005, 0), (1000006, 0)], .own 3000002 27 Ac1])]⟩
noncomputable def gossip_Ring_Hear_v9.labF : Nat → List (LabF gossip_Ring_Hear_v9.out.den)
  | _ => []
noncomputable def gossip_Ring_Hear_v9.fd : FnD := ⟨Try.f21, gossip_Ring_Hear_v9.ini, gossip_Ring_Hear_v9.out, 2, [1000000, 1000001, 1000002, 1000003, 1000004, 1000005, 1000006], [1000001, 1000002, 1000003, 1000004, 1000005, 1000006], gossip_Ring_Hear_v9.labF, fun k (d : (Unit × Unit × Unit × Unit) × Ab2) => (gossip_Ring_Hear_v9.f k d.2.1.2.2.1 d.2.2.1.2.2.1 d.2.2.1.2.2.2.1 d.2.2.1.2.2.2.2.1 d.2.2.1.2.2.2.2.2.1 d.2.2.2.1.1 d.2.2.2.2.1.1 d.2.2.2.2.2.1.2.1 d.2.2.2.2.2.1.2.2.1 d.2.2.2.2.2.1.2.2.2.1 d.2.2.2.2.2.2.1.2.1 d.2.2.2.2.2.2.1.2.2.1 d.2.2.2.2.2.2.1.2.2.2.1 d.2.2.2.2.2.2.2.1.2.1 d.2.2.2.2.2.2.2.1.2.2.1 d.2.2.2.2.2.2.2.1.2.2.2.1 : Option gossip_Ring_Hear_v9.R), none, [(88888888, 0, 0)]⟩

/-! ### gossip_Ring_Tell_v3 : function 22 -/
abbrev gossip_Ring_Tell_v3.R := (Int × Unit) × (Ab8 × (Ab5 × Unit) × Ab9 × Unit)
noncomputable def gossip_Ring_Tell_v3.f : Nat → ByteArray → Ab0 → Ab12 → Bool → Bool → Int → Ab5 → Ab5 → (List Ab4) → Ab0 → Int → (List Ab4) → Ab0 → Int → (List Ab4) → Ab0 → Int → Option gossip_Ring_Tell_v3.R
  | 0, _, _, _, _, _, _, _, _, _, _, _, _, _, _, _, _, _ => none
  | k + 1, x2, o0_2, o1_2, o1_3, o1_4, o1_5, o2_0, o3_0, o4_1, o4_2, o4_3, o5_1, o5_2, o5_3, o6_1, o6_2, o6_3 =>
    (gossip_Ring_Auditor_v3.f k o0_2 o1_2 o1_3 o1_4 o1_5 o2_0 o3_0 o4_1 o4_2 o4_3 o5_1 o5_2 o5_3 o6_1 o6_2 o6_3).bind fun r1 =>
    (auditor_Auditor_Meet.f k x2 o6_1 o6_2 o6_3 o1_2 o1_3 o1_4 o1_5 o2_0 o3_0).bind fun r2 =>
    some ((r2.1.1, ()), (((), (), r2.2.2.1.2.2.1, r2.2.2.1.2.2.2.1, r2.2.2.1.2.2.2.2.1, r2.2.2.1.2.2.2.2.2.1, ()), (r2.2.2.2.1.1, ()), ((), r2.2.1.2.1, r2.2.1.2.2.1, r2.2.1.2.2.2.1, ()), ()))
abbrev gossip_Ring_Tell_v3.ini : LSh := ⟨[(0, .ptr 1000000 0), (1, .cst .i64 2), (2, .val .str)], [(1000000, 86, [.ptr 1000001 0, .psl [(1000004, 0), (1000005, 0), (1000006, 0)], .val (.sl Ac1)]), (1000001, 80, [.mref 1000002, .mref 1000003, .val Ac10, .val .bool, .val .bool, .val (.int .i64)]), (1000002, 77, [.mapd]), (1000003, 77, [.mapd]), (1000004, 88, [.ptr 1000001 0, .val (.sl Ac6), .val (.sl Ac1), .val (.int .i64)]), (1000005, 88, [.ptr 1000001 0, .val (.sl Ac6), .val (.sl Ac1), .val (.int .i64)]), (1000006, 88, [.ptr 1000001 0, .own 3006001 25 Ac6, .own 3006002 27 Ac1, .val (.int .i64)])]⟩
abbrev gossip_Ring_Tell_v3.out : LSh := ⟨[(0, .val (.int .i64))], [(1000001, 80, [.mref 1000002, .mref 1000003, .val Ac10, .val .bool, .val .bool, .val (.int .i64)]), (1000003, 77, [.mapd]), (1000006, 88, [.ptr 1000001 0, .own 3006001 25 Ac6, .own 3006002 27 Ac1, .val (.int .i64)])]⟩
noncomputable def gossip_Ring_Tell_v3.labF : Nat → List (LabF gossip_Ring_Tell_v3.out.den)
  | _ => []
noncomputable def gossip_Ring_Tell_v3.fd : FnD := ⟨Try.f22, gossip_Ring_Tell_v3.ini, gossip_Ring_Tell_v3.out, 1, [1000000, 1000001, 1000002, 1000003, 1000004, 1000005, 1000006], [1000000, 1000002, 1000004, 1000005], gossip_Ring_Tell_v3.labF, fun k (d : (Unit × Unit × ByteArray × Unit) × Ab2) => (gossip_Ring_Tell_v3.f k d.1.2.2.1 d.2.1.2.2.1 d.2.2.1.2.2.1 d.2.2.1.2.2.2.1 d.2.2.1.2.2.2.2.1 d.2.2.1.2.2.2.2.2.1 d.2.2.2.1.1 d.2.2.2.2.1.1 d.2.2.2.2.2.1.2.1 d.2.2.2.2.2.1.2.2.1 d.2.2.2.2.2.1.2.2.2.1 d.2.2.2.2.2.2.1.2.1 d.2.2.2.2.2.2.1.2.2.1 d.2.2.2.2.2.2.1.2.2.2.1 d.2.2.2.2.2.2.2.1.2.1 d.2.2.2.2.2.2.2.1.2.2.1 d.2.2.2.2.2.2.2.1.2.2.2.1 : Option gossip_Ring_Tell_v3.R), none, [(88888888, 0, 0)]⟩

/-! ### gossip_Ring_Tell_v4 : function 22 -/
abbrev gossip_Ring_Tell_v4.R := (Int × Unit) × (Ab8 × (Ab5 × Unit) × Ab9 × Unit)
noncomputable def gossip_Ring_Tell_v4.f : Nat → ByteArray → Ab0 → Ab12 → Bool → Bool → Int → Ab5 → Ab5 → (List Ab4) → Ab0 → Int → (List Ab4) → Ab0 → Int → (List Ab4) → Ab0 → Int → Option gossip_Ring_Tell_v4.R
  | 0, _, _, _, _, _, _, _, _, _, _, _, _, _, _, _, _, _ => none
  | k + 1, x2, o0_2, o1_2, o1_3, o1_4, o1_5, o2_0, o3_0, o4_1, o4_2, o4_3, o5_1, o5_2, o5_3, o6_1, o6_2, o6_3 =>
    (gossip_Ring_Auditor_v4.f k o0_2 o1_2 o1_3 o1_4 o1_5 o2_0 o3_0 o4_1 o4_2 o4_3 o5_1 o5_2 o5_3 o6_1 o6_2 o6_3).bind fun r1 =>
    (auditor_Auditor_Meet.f k x2 o5_1 o5_2 o5_3 o1_2 o1_3 o1_4 o1_5 o2_0 o3_0).bind fun r2 =>
    some ((r2.1.1, ()), (((), (), r2.2.2.1.2.2.1, r2.2.2.1.2.2.2.1, r2.2.2.1.2.2.2.2.1, r2.2.2.1.2.2.2.2.2.1, ()), (r2.2.2.2.1.1, ()), ((), r2.2.1.2.1, r2.2.1.2.2.1, r2.2.1.2.2.2.1, ()), ()))
abbrev gossip_Ring_Tell_v4.ini : LSh := ⟨[(0, .ptr 1000000 0), (1, .cst .i64 1), (2, .val .str)], [(1000000, 86, [.ptr 1000001 0, .psl [(1000004, 0), (1000005, 0), (1000006, 0)], .val (.sl Ac1)]), (1000001, 80, [.mref 1000002, .mref 1000003, .val Ac10, .val .bool, .val .bool, .val (.int .i64)]), (1000002, 77, [.mapd]), (1000003, 77, [.mapd]), (1000004, 88, [.ptr 1000001 0, .val (.sl Ac6), .val (.sl Ac1), .val (.int .i64)]), (1000005, 88, [.ptr 1000001 0, .own 3005001 25 Ac6, .own 3005002 27 Ac1, .val (.int .i64)]), (1000006, 88, [.ptr 1000001 0, .val (.sl Ac6), .val (.sl Ac1), .val (.int .i64)])]⟩
abbrev gossip_Ring_Tell_v4.out : LSh := ⟨[(0, .val (.int .i64))], [(1000001, 80, [.mref 1000002, .mref 1000003, .val Ac10, .val .bool, .val .bool, .val (.int .i64)]), (1000003, 77, [.mapd]), (1000005, 88, [.ptr 1000001 0, .own 3005001 25 Ac6, .own 3005002 27 Ac1, .val (.int .i64)])]⟩
noncomputable def gossip_Ring_Tell_v4.labF : Nat → List (LabF gossip_Ring_Tell_v4.out.den)
  | _ => []
noncomputable def gossip_Ring_Tell_v4.fd : FnD := ⟨Try.f22, gossip_Ring_Tell_v4.ini, gossip_Ring_Tell_v4.out, 1, [1000000, 1000001, 1000002, 1000003, 1000004, 1000005, 1000006], [1000000, 1000002, 1000004, 1000006], gossip_Ring_Tell_v4.labF, fun k (d : (Unit × Unit × ByteArray × Unit) × Ab2) => (gossip_Ring_Tell_v4.f k d.1.2.2.1 d.2.1.2.2.1 d.2.2.1.2.2.1 d.2.2.1.2.2.2.1 d.2.2.1.2.2.2.2.1 d.2.2.1.2.2.2.2.2.1 d.2.2.2.1.1 d.2.2.2.2.1.1 d.2.2.2.2.2.1.2.1 d.2.2.2.2.2.1.2.2.1 d.2.2.2.2.2.1.2.2.2.1 d.2.2.2.2.2.2.1.2.1 d.2.2.2.2.2.2.1.2.2.1 d.2.2.2.2.2.2.1.2.2.2.1 d.2.2.2.2.2.2.2.1.2.1 d.2.2.2.2.2.2.2.1.2.2.1 d.2.2.2.2.2.2.2.1.2.2.2.1 : Option gossip_Ring_Tell_v4.R), none, [(88888888, 0, 0)]⟩

/-! ### gossip_Ring_Tell_v5 : function 22 -/
abbrev gossip_Ring_Tell_v5.R := (Int × Unit) × (Ab8 × (Ab5 × Unit) × Ab9 × Unit)
noncomputable def gossip_Ring_Tell_v5.f : Nat → ByteArray → Ab0 → Ab12 → Bool → Bool → Int → Ab5 → Ab5 → (List Ab4) → Ab0 → Int → (List Ab4) → Ab0 → Int → (List Ab4) → Ab0 → Int → Option gossip_Ring_Tell_v5.R
  | 0, _, _, _, _, _, _, _, _, _, _, _, _, _, _, _, _, _ => none
  | k + 1, x2, o0_2, o1_2, o1_3, o1_4, o1_5, o2_0, o3_0, o4_1, o4_2, o4_3, o5_1, o5_2, o5_3, o6_1, o6_2, o6_3 =>
    (gossip_Ring_Auditor_v5.f k o0_2 o1_2 o1_3 o1_4 o1_5 o2_0 o3_0 o4_1 o4_2 o4_3 o5_1 o5_2 o5_3 o6_1 o6_2 o6_3).bind fun r1 =>
    (auditor_Auditor_Meet.f k x2 o4_1 o4_2 o4_3 o1_2 o1_3 o1_4 o1_5 o2_0 o3_0).bind fun r2 =>
    some ((r2.1.1, ()), (((), (), r2.2.2.1.2.2.1, r2.2.2.1.2.2.2.1, r2.2.2.1.2.2.2.2.1, r2.2.2.1.2.2.2.2.2.1, ()), (r2.2.2.2.1.1, ()), ((), r2.2.1.2.1, r2.2.1.2.2.1, r2.2.1.2.2.2.1, ()), ()))
abbrev gossip_Ring_Tell_v5.ini : LSh := ⟨[(0, .ptr 1000000 0), (1, .cst .i64 0), (2, .val .str)], [(1000000, 86, [.ptr 1000001 0, .psl [(1000004, 0), (1000005, 0), (1000006, 0)], .val (.sl Ac1)]), (1000001, 80, [.mref 1000002, .mref 1000003, .val Ac10, .val .bool, .val .bool, .val (.int .i64)]), (1000002, 77, [.mapd]), (1000003, 77, [.mapd]), (1000004, 88, [.ptr 1000001 0, .own 3004001 25 Ac6, .own 3004002 27 Ac1, .val (.int .i64)]), (1000005, 88, [.ptr 1000001 0, .val (.sl Ac6), .val (.sl Ac1), .val (.int .i64)]), (1000006, 88, [.ptr 1000001 0, .val (.sl Ac6), .val (.sl Ac1), .val (.int .i64)])]⟩
abbrev gossip_Ring_Tell_v5.out : LSh := ⟨[(0, .val (.int .i64))], [(1000001, 80, [.mref 1000002, .mref 1000003, .val Ac10, .val .bool, .val .bool, .val (.int .i64)]), (1000003, 77, [.mapd]), (1000004, 88, [.ptr 1000001 0, .own 3004001 25 Ac6, .own 3004002 27 Ac1, .val (.int .i64)])]⟩
noncomputable def gossip_Ring_Tell_v5.labF : Nat → List (LabF gossip_Ring_Tell_v5.out.den)
  | _ => []
noncomputable def gossip_Ring_Tell_v5.fd : FnD := ⟨Try.f22, gossip_Ring_Tell_v5.ini, gossip_Ring_Tell_v5.out, 1, [1000000, 1000001, 1000002, 1000003, 1000004, 1000005, 1000006], [1000000, 1000002, 1000005, 1000006], gossip_Ring_Tell_v5.labF, fun k (d : (Unit × Unit × ByteArray × Unit) × Ab2) => (gossip_Ring_Tell_v5.f k d.1.2.2.1 d.2.1.2.2.1 d.2.2.1.2.2.1 d.2.2.1.2.2.2.1 d.2.2.1.2.2.2.2.1 d.2.2.1.2.2.2.2.2.1 d.2.2.2.1.1 d.2.2.2.2.1.1 d.2.2.2.2.2.1.2.1 d.2.2.2.2.2.1.2.2.1 d.2.2.2.2.2.1.2.2.2.1 d.2.2.2.2.2.2.1.2.1 d.2.2.2.2.2.2.1.2.2.1 d.2.2.2.2.2.2.1.2.2.2.1 d.2.2.2.2.2.2.2.1.2.1 d.2.2.2.2.2.2.2.1.2.2.1 d.2.2.2.2.2.2.2.1.2.2.2.1 : Option gossip_Ring_Tell_v5.R), none, [(88888888, 0, 0)]⟩

/-! ### gossip_Ring_Tell_v6 : function 22 -/
abbrev gossip_Ring_Tell_v6.R := (Int × Unit) × (Unit)
noncomputable def gossip_Ring_Tell_v6.f : Nat → Int → ByteArray → Ab0 → Ab12 → Bool → Bool → Int → Ab5 → Ab5 → (List Ab4) → Ab0 → Int → (List Ab4) → Ab0 → Int → (List Ab4) → Ab0 → Int → Option gossip_Ring_Tell_v6.R
  | 0, _, _, _, _, _, _, _, _, _, _, _, _, _, _, _, _, _, _ => none
  | k + 1, x1, x2, o0_2, o1_2, o1_3, o1_4, o1_5, o2_0, o3_0, o4_1, o4_2, o4_3, o5_1, o5_2, o5_3, o6_1, o6_2, o6_3 =>
    (gossip_Ring_Auditor_v6.f k x1 o0_2 o1_2 o1_3 o1_4 o1_5 o2_0 o3_0 o4_1 o4_2 o4_3 o5_1 o5_2 o5_3 o6_1 o6_2 o6_3).bind fun r1 =>
    some ((7, ()), (()))
abbrev gossip_Ring_Tell_v6.ini : LSh := ⟨[(0, .ptr 1000000 0), (1, .val (.int .i64)), (2, .val .str)], [(1000000, 86, [.ptr 1000001 0, .psl [(1000004, 0), (1000005, 0), (1000006, 0)], .val (.sl Ac1)]), (1000001, 80, [.mref 1000002, .mref 1000003, .val Ac10, .val .bool, .val .bool, .val (.int .i64)]), (1000002, 77, [.mapd]), (1000003, 77, [.mapd]), (1000004, 88, [.ptr 1000001 0, .val (.sl Ac6), .val (.sl Ac1), .val (.int .i64)]), (1000005, 88, [.ptr 1000001 0, .val (.sl Ac6), .val (.sl Ac1), .val (.int .i64)]), (1000006, 88, [.ptr 1000001 0, .val (.sl Ac6), .val (.sl Ac1), .val (.int .i64)])]⟩
abbrev gossip_Ring_Tell_v6.out : LSh := ⟨[(0, .val (.int .i64))], []⟩
noncomputable def gossip_Ring_Tell_v6.labF : Nat → List (LabF gossip_Ring_Tell_v6.out.den)
  | _ => []
noncomputable def gossip_Ring_Tell_v6.fd : FnD := ⟨Try.f22, gossip_Ring_Tell_v6.ini, gossip_Ring_Tell_v6.out, 1, [1000000, 1000001, 1000002, 1000003, 1000004, 1000005, 1000006], [1000000, 1000001, 1000002, 1000003, 1000004, 1000005, 1000006], gossip_Ring_Tell_v6.labF, fun k (d : (Unit × Int × ByteArray × Unit) × Ab2) => (gossip_Ring_Tell_v6.f k d.1.2.1 d.1.2.2.1 d.2.1.2.2.1 d.2.2.1.2.2.1 d.2.2.1.2.2.2.1 d.2.2.1.2.2.2.2.1 d.2.2.1.2.2.2.2.2.1 d.2.2.2.1.1 d.2.2.2.2.1.1 d.2.2.2.2.2.1.2.1 d.2.2.2.2.2.1.2.2.1 d.2.2.2.2.2.1.2.2.2.1 d.2.2.2.2.2.2.1.2.1 d.2.2.2.2.2.2.1.2.2.1 d.2.2.2.2.2.2.1.2.2.2.1 d.2.2.2.2.2.2.2.1.2.1 d.2.2.2.2.2.2.2.1.2.2.1 d.2.2.2.2.2.2.2.1.2.2.2.1 : Option gossip_Ring_Tell_v6.R), none, [(20, 1, 5000), (88888888, 0, 0)]⟩

/-! ### pledge_Leaf : function 41 -/
abbrev pledge_Leaf.R := (ByteArray × Unit) × (Ab8 × (Ab5 × Unit) × Unit)
noncomputable def pledge_Leaf.f : Nat → ByteArray → Ab12 → Bool → Bool → Int → Ab5 → Ab5 → Option pledge_Leaf.R
  | 0, _, _, _, _, _, _, _ => none
  | k + 1, x1, o0_2, o0_3, o0_4, o0_5, o1_0, o2_0 =>
    (ck (decide ((⟨#[0]⟩ : ByteArray).size + x1.size ≤ 9223372036854775807))).bind fun _ =>
    (mill_Mill_Sum.f k ((⟨#[0]⟩ : ByteArray) ++ x1) o0_2 o0_3 o0_4 o0_5 o1_0 o2_0).bind fun r1 =>
    some ((r1.1.1, ()), (((), (), r1.2.1.2.2.1, r1.2.1.2.2.2.1, r1.2.1.2.2.2.2.1, r1.2.1.2.2.2.2.2.1, ()), (r1.2.2.1.1, ()), ()))
abbrev pledge_Leaf.ini : LSh := ⟨[(0, .ptr 1000000 0), (1, .val .str)], [(1000000, 80, [.mref 1000001, .mref 1000002, .val Ac10, .val .bool, .val .bool, .val (.int .i64)]), (1000001, 77, [.mapd]), (1000002, 77, [.mapd])]⟩
abbrev pledge_Leaf.out : LSh := ⟨[(0, .val .str)], [(1000000, 80, [.mref 1000001, .mref 1000002, .val Ac10, .val .bool, .val .bool, .val (.int .i64)]), (1000002, 77, [.mapd])]⟩
noncomputable def pledge_Leaf.labF : Nat → List (LabF pledge_Leaf.out.den)
  | _ => []
noncomputable def pledge_Leaf.fd : FnD := ⟨Try.f41, pledge_Leaf.ini, pledge_Leaf.out, 1, [1000000, 1000001, 1000002], [1000001], pledge_Leaf.labF, fun k (d : (Unit × ByteArray × Unit) × (Ab8 × (Ab5 × Unit) × (Ab5 × Unit) × Unit)) => (pledge_Leaf.f k d.1.2.1 d.2.1.2.2.1 d.2.1.2.2.2.1 d.2.1.2.2.2.2.1 d.2.1.2.2.2.2.2.1 d.2.2.1.1 d.2.2.2.1.1 : Option pledge_Leaf.R), none, []⟩

/-! ### chartularylaw07_Leaves : function 24 -/
abbrev chartularylaw07_Leaves.R := (List ByteArray × Unit) × (Ab8 × (Ab5 × Unit) × Unit)
mutual
noncomputable def chartularylaw07_Leaves.l0 : Nat → (List ByteArray) → (List ByteArray) → Int → Ab12 → Bool → Bool → Int → Ab5 → Ab5 → Option chartularylaw07_Leaves.R
  | 0, _, _, _, _, _, _, _, _, _ => none
  | k + 1, x1, x5, x6, o0_2, o0_3, o0_4, o0_5, o1_0, o2_0 =>
    bif decide ((x6 : Int) < (x1.length : Int)) then
      bif decide ((x6 : Int) < 40) then
        (rdo x1 x6).bind fun t1 =>
        bif decide (((t1.size : Int) : Int) > 100) then
          (ck (decide (0 ≤ 0) && decide (0 ≤ 100) && decide (100 ≤ (t1.size : Int)))).bind fun _ =>
          (pledge_Leaf.f k (t1.extract (0 : Int).toNat (100 : Int).toNat) o0_2 o0_3 o0_4 o0_5 o1_0 o2_0).bind fun r2 =>
          (ck (decide ((x5.length + ([r2.1.1] : List ByteArray).length) * 16 ≤ 70368744177664))).bind fun _ =>
          chartularylaw07_Leaves.l0 k x1 (x5 ++ ([r2.1.1] : List ByteArray)) (IntKind.wrap .i64 (x6 + 1)) r2.2.1.2.2.1 r2.2.1.2.2.2.1 r2.2.1.2.2.2.2.1 r2.2.1.2.2.2.2.2.1 o1_0 r2.2.2.1.1
        else
          (pledge_Leaf.f k t1 o0_2 o0_3 o0_4 o0_5 o1_0 o2_0).bind fun r3 =>
          (ck (decide ((x5.length + ([r3.1.1] : List ByteArray).length) * 16 ≤ 70368744177664))).bind fun _ =>
          chartularylaw07_Leaves.l0 k x1 (x5 ++ ([r3.1.1] : List ByteArray)) (IntKind.wrap .i64 (x6 + 1)) r3.2.1.2.2.1 r3.2.1.2.2.2.1 r3.2.1.2.2.2.2.1 r3.2.1.2.2.2.2.2.1 o1_0 r3.2.2.1.1
      else
        some ((x5, ()), (((), (), o0_2, o0_3, o0_4, o0_5, ()), (o2_0, ()), ()))
    else
      some ((x5, ()), (((), (), o0_2, o0_3, o0_4, o0_5, ()), (o2_0, ()), ()))
noncomputable def chartularylaw07_Leaves.f : Nat → (List ByteArray) → Ab12 → Bool → Bool → Int → Ab5 → Ab5 → Option chartularylaw07_Leaves.R
  | 0, _, _, _, _, _, _, _ => none
  | k + 1, x1, o0_2, o0_3, o0_4, o0_5, o1_0, o2_0 =>
    chartularylaw07_Leaves.l0 k x1 [] 0 o0_2 o0_3 o0_4 o0_5 o1_0 o2_0
end
abbrev chartularylaw07_Leaves.ini : LSh := ⟨[(0, .ptr 1000000 0), (1, .val (.sl .str))], [(1000000, 80, [.mref 1000001, .mref 1000002, .val Ac10, .val .bool, .val .bool, .val (.int .i64)]), (1000001, 77, [.mapd]), (1000002, 77, [.mapd])]⟩
abbrev chartularylaw07_Leaves.out : LSh := ⟨[(0, .val (.sl .str))], [(1000000, 80, [.mref 1000001, .mref 1000002, .val Ac10, .val .bool, .val .bool, .val (.int .i64)]), (1000002, 77, [.mapd])]⟩
abbrev chartularylaw07_Leaves.l0s : LSh := ⟨[(0, .ptr 1000000 0), (1, .val (.sl .str)), (5, .own 2000005 9 .str), (6, .val (.int .i64))], [(1000000, 80, [.mref 1000001, .mref 1000002, .val Ac10, .val .bool, .val .bool, .val (.int .i64)]), (1000001, 77, [.mapd]), (1000002, 77, [.mapd])]⟩
noncomputable def chartularylaw07_Leaves.labF : Nat → List (LabF chartularylaw07_Leaves.out.den)
  | 6 => [⟨chartularylaw07_Leaves.l0s, fun k (d : (Unit × List ByteArray × List ByteArray × Int × Unit) × (Ab8 × (Ab5 × Unit) × (Ab5 × Unit) × Unit)) => (chartularylaw07_Leaves.l0 k d.1.2.1 d.1.2.2.1 d.1.2.2.2.1 d.2.1.2.2.1 d.2.1.2.2.2.1 d.2.1.2.2.2.2.1 d.2.1.2.2.2.2.2.1 d.2.2.1.1 d.2.2.2.1.1 : Option chartularylaw07_Leaves.R)⟩]
  | _ => []
noncomputable def chartularylaw07_Leaves.fd : FnD := ⟨Try.f24, chartularylaw07_Leaves.ini, chartularylaw07_Leaves.out, 1, [1000000, 1000001, 1000002], [1000001], chartularylaw07_Leaves.labF, fun k (d : (Unit × List ByteArray × Unit) × (Ab8 × (Ab5 × Unit) × (Ab5 × Unit) × Unit)) => (chartularylaw07_Leaves.f k d.1.2.1 d.2.1.2.2.1 d.2.1.2.2.2.1 d.2.1.2.2.2.2.1 d.2.1.2.2.2.2.2.1 d.2.2.1.1 d.2.2.2.1.1 : Option chartularylaw07_Leaves.R), none, []⟩

/-! ### merkle_Root : function 28 -/
abbrev merkle_Root.R := (ByteArray × Unit) × (Ab8 × (Ab5 × Unit) × Unit)
noncomputable def merkle_Root.f : Nat → (List ByteArray) → Ab12 → Bool → Bool → Int → Ab5 → Ab5 → Option merkle_Root.R
  | 0, _, _, _, _, _, _, _ => none
  | k + 1, x1, o0_2, o0_3, o0_4, o0_5, o1_0, o2_0 =>
    bif ((x1.length : Int) : Int) == 0 then
      (pledge_None.f k o0_2 o0_3 o0_4 o0_5 o1_0 o2_0).bind fun r1 =>
      some ((r1.1.1, ()), (((), (), r1.2.1.2.2.1, r1.2.1.2.2.2.1, r1.2.1.2.2.2.2.1, r1.2.1.2.2.2.2.2.1, ()), (r1.2.2.1.1, ()), ()))
    else
    bif ((x1.length : Int) : Int) == 1 then
      (rdo x1 0).bind fun t2 =>
      some ((t2, ()), (((), (), o0_2, o0_3, o0_4, o0_5, ()), (o2_0, ()), ()))
    else
      (merkle_split.f k (x1.length : Int)).bind fun r3 =>
      (ck (decide (0 ≤ 0) && decide (0 ≤ r3.1.1) && decide (r3.1.1 ≤ r3.1.1) && decide (r3.1.1 ≤ (x1.length : Int)))).bind fun _ =>
      (merkle_Root.f k ((x1.take (r3.1.1 : Int).toNat).drop (0 : Int).toNat) o0_2 o0_3 o0_4 o0_5 o1_0 o2_0).bind fun r4 =>
      (ck (decide (0 ≤ r3.1.1) && decide (r3.1.1 ≤ (x1.length : Int)) && decide ((x1.length : Int) ≤ (x1.length : Int)))).bind fun _ =>
      (merkle_Root.f k ((x1.take (x1.length : Int).toNat).drop (r3.1.1 : Int).toNat) r4.2.1.2.2.1 r4.2.1.2.2.2.1 r4.2.1.2.2.2.2.1 r4.2.1.2.2.2.2.2.1 o1_0 r4.2.2.1.1).bind fun r5 =>
      (pledge_Node.f k r4.1.1 r5.1.1 r5.2.1.2.2.1 r5.2.1.2.2.2.1 r5.2.1.2.2.2.2.1 r5.2.1.2.2.2.2.2.1 o1_0 r5.2.2.1.1).bind fun r6 =>
      some ((r6.1.1, ()), (((), (), r6.2.1.2.2.1, r6.2.1.2.2.2.1, r6.2.1.2.2.2.2.1, r6.2.1.2.2.2.2.2.1, ()), (r6.2.2.1.1, ()), ()))
abbrev merkle_Root.ini : LSh := ⟨[(0, .ptr 1000000 0), (1, .val (.sl .str))], [(1000000, 80, [.mref 1000001, .mref 1000002, .val Ac10, .val .bool, .val .bool, .val (.int .i64)]), (1000001, 77, [.mapd]), (1000002, 77, [.mapd])]⟩
abbrev merkle_Root.out : LSh := ⟨[(0, .val .str)], [(1000000, 80, [.mref 1000001, .mref 1000002, .val Ac10, .val .bool, .val .bool, .val (.int .i64)]), (1000002, 77, [.mapd])]⟩
noncomputable def merkle_Root.labF : Nat → List (LabF merkle_Root.out.den)
  | _ => []
noncomputable def merkle_Root.fd : FnD := ⟨Try.f28, merkle_Root.ini, merkle_Root.out, 1, [1000000, 1000001, 1000002], [1000001], merkle_Root.labF, fun k (d : (Unit × List ByteArray × Unit) × (Ab8 × (Ab5 × Unit) × (Ab5 × Unit) × Unit)) => (merkle_Root.f k d.1.2.1 d.2.1.2.2.1 d.2.1.2.2.2.1 d.2.1.2.2.2.2.1 d.2.1.2.2.2.2.2.1 d.2.2.1.1 d.2.2.2.1.1 : Option merkle_Root.R), none, []⟩

/-! ### merkle_grow : function 42 -/
abbrev merkle_grow.R := (List ByteArray × Unit) × (Ab8 × (Ab5 × Unit) × Unit)
noncomputable def merkle_grow.f : Nat → (List ByteArray) → Int → Bool → Ab12 → Bool → Bool → Int → Ab5 → Ab5 → Option merkle_grow.R
  | 0, _, _, _, _, _, _, _, _, _ => none
  | k + 1, x1, x2, x3, o0_2, o0_3, o0_4, o0_5, o1_0, o2_0 =>
    bif (x2 : Int) == (x1.length : Int) then
      bif x3 then
        some (([], ()), (((), (), o0_2, o0_3, o0_4, o0_5, ()), (o2_0, ()), ()))
      else
        (merkle_Root.f k x1 o0_2 o0_3 o0_4 o0_5 o1_0 o2_0).bind fun r1 =>
        some ((([r1.1.1] : List ByteArray), ()), (((), (), r1.2.1.2.2.1, r1.2.1.2.2.2.1, r1.2.1.2.2.2.2.1, r1.2.1.2.2.2.2.2.1, ()), (r1.2.2.1.1, ()), ()))
    else
      (merkle_split.f k (x1.length : Int)).bind fun r2 =>
      bif decide ((x2 : Int) ≤ r2.1.1) then
        (ck (decide (0 ≤ 0) && decide (0 ≤ r2.1.1) && decide (r2.1.1 ≤ (x1.length : Int)))).bind fun _ =>
        (merkle_grow.f k ((x1.take (r2.1.1 : Int).toNat).drop (0 : Int).toNat) x2 x3 o0_2 o0_3 o0_4 o0_5 o1_0 o2_0).bind fun r3 =>
        (ck (decide (0 ≤ r2.1.1) && decide (r2.1.1 ≤ (x1.length : Int)) && decide ((x1.length : Int) ≤ (x1.length : Int)))).bind fun _ =>
        (merkle_Root.f k ((x1.take (x1.length : Int).toNat).drop (r2.1.1 : Int).toNat) r3.2.1.2.2.1 r3.2.1.2.2.2.1 r3.2.1.2.2.2.2.1 r3.2.1.2.2.2.2.2.1 o1_0 r3.2.2.1.1).bind fun r4 =>
        (ck (decide ((r3.1.1.length + ([r4.1.1] : List ByteArray).length) * 16 ≤ 70368744177664))).bind fun _ =>
        some ((r3.1.1 ++ ([r4.1.1] : List ByteArray), ()), (((), (), r4.2.1.2.2.1, r4.2.1.2.2.2.1, r4.2.1.2.2.2.2.1, r4.2.1.2.2.2.2.2.1, ()), (r4.2.2.1.1, ()), ()))
      else
        (ck (decide (0 ≤ r2.1.1) && decide (r2.1.1 ≤ (x1.length : Int)) && decide ((x1.length : Int) ≤ (x1.length : Int)))).bind fun _ =>
        (merkle_grow.f k ((x1.take (x1.length : Int).toNat).drop (r2.1.1 : Int).toNat) (IntKind.wrap .i64 (x2 - r2.1.1)) false o0_2 o0_3 o0_4 o0_5 o1_0 o2_0).bind fun r5 =>
        (ck (decide (0 ≤ 0) && decide (0 ≤ r2.1.1) && decide (r2.1.1 ≤ (x1.length : Int)))).bind fun _ =>
        (merkle_Root.f k ((x1.take (r2.1.1 : Int).toNat).drop (0 : Int).toNat) r5.2.1.2.2.1 r5.2.1.2.2.2.1 r5.2.1.2.2.2.2.1 r5.2.1.2.2.2.2.2.1 o1_0 r5.2.2.1.1).bind fun r6 =>
        (ck (decide ((r5.1.1.length + ([r6.1.1] : List ByteArray).length) * 16 ≤ 70368744177664))).bind fun _ =>
        some ((r5.1.1 ++ ([r6.1.1] : List ByteArray), ()), (((), (), r6.2.1.2.2.1, r6.2.1.2.2.2.1, r6.2.1.2.2.2.2.1, r6.2.1.2.2.2.2.2.1, ()), (r6.2.2.1.1, ()), ()))
abbrev merkle_grow.ini : LSh := ⟨[(0, .ptr 1000000 0), (1, .val (.sl .str)), (2, .val (.int .i64)), (3, .val .bool)], [(1000000, 80, [.mref 1000001, .mref 1000002, .val Ac10, .val .bool, .val .bool, .val (.int .i64)]), (1000001, 77, [.mapd]), (1000002, 77, [.mapd])]⟩
abbrev merkle_grow.out : LSh := ⟨[(0, .own 5000000 9 .str)], [(1000000, 80, [.mref 1000001, .mref 1000002, .val Ac10, .val .bool, .val .bool, .val (.int .i64)]), (1000002, 77, [.mapd])]⟩
noncomputable def merkle_grow.labF : Nat → List (LabF merkle_grow.out.den)
  | _ => []
noncomputable def merkle_grow.fd : FnD := ⟨Try.f42, merkle_grow.ini, merkle_grow.out, 1, [1000000, 1000001, 1000002], [1000001], merkle_grow.labF, fun k (d : (Unit × List ByteArray × Int × Bool × Unit) × (Ab8 × (Ab5 × Unit) × (Ab5 × Unit) × Unit)) => (merkle_grow.f k d.1.2.1 d.1.2.2.1 d.1.2.2.2.1 d.2.1.2.2.1 d.2.1.2.2.2.1 d.2.1.2.2.2.2.1 d.2.1.2.2.2.2.2.1 d.2.2.1.1 d.2.2.2.1.1 : Option merkle_grow.R), none, []⟩

/-! ### merkle_Growth : function 26 -/
abbrev merkle_Growth.R := (List ByteArray × Int × Unit) × (Ab8 × (Ab5 × Unit) × Unit)
mutual
noncomputable def merkle_Growth.j0 : Nat → (List ByteArray) → Int → Ab12 → Bool → Bool → Int → Ab5 → Ab5 → Option merkle_Growth.R
  | 0, _, _, _, _, _, _, _, _ => none
  | k + 1, x1, x2, o0_2, o0_3, o0_4, o0_5, o1_0, o2_0 =>
    bif (x2 : Int) == 0 then
      some ((([] : List ByteArray), 0, ()), (((), (), o0_2, o0_3, o0_4, o0_5, ()), (o2_0, ()), ()))
    else
      (merkle_grow.f k x1 x2 true o0_2 o0_3 o0_4 o0_5 o1_0 o2_0).bind fun r1 =>
      some ((r1.1.1, 0, ()), (((), (), r1.2.1.2.2.1, r1.2.1.2.2.2.1, r1.2.1.2.2.2.2.1, r1.2.1.2.2.2.2.2.1, ()), (r1.2.2.1.1, ()), ()))
noncomputable def merkle_Growth.f : Nat → (List ByteArray) → Int → Ab12 → Bool → Bool → Int → Ab5 → Ab5 → Option merkle_Growth.R
  | 0, _, _, _, _, _, _, _, _ => none
  | k + 1, x1, x2, o0_2, o0_3, o0_4, o0_5, o1_0, o2_0 =>
    bif decide ((x2 : Int) < 0) then
      some ((([] : List ByteArray), 21, ()), (((), (), o0_2, o0_3, o0_4, o0_5, ()), (o2_0, ()), ()))
    else
    bif decide ((x2 : Int) > (x1.length : Int)) then
      some ((([] : List ByteArray), 21, ()), (((), (), o0_2, o0_3, o0_4, o0_5, ()), (o2_0, ()), ()))
    else
      merkle_Growth.j0 k x1 x2 o0_2 o0_3 o0_4 o0_5 o1_0 o2_0
end
abbrev merkle_Growth.ini : LSh := ⟨[(0, .ptr 1000000 0), (1, .val (.sl .str)), (2, .val (.int .i64))], [(1000000, 80, [.mref 1000001, .mref 1000002, .val Ac10, .val .bool, .val .bool, .val (.int .i64)]), (1000001, 77, [.mapd]), (1000002, 77, [.mapd])]⟩
abbrev merkle_Growth.out : LSh := ⟨[(0, .val (.sl .str)), (1, .val (.int .i64))], [(1000000, 80, [.mref 1000001, .mref 1000002, .val Ac10, .val .bool, .val .bool, .val (.int .i64)]), (1000002, 77, [.mapd])]⟩
abbrev merkle_Growth.j0s : LSh := ⟨[(0, .ptr 1000000 0), (1, .val (.sl .str)), (2, .val (.int .i64))], [(1000000, 80, [.mref 1000001, .mref 1000002, .val Ac10, .val .bool, .val .bool, .val (.int .i64)]), (1000001, 77, [.mapd]), (1000002, 77, [.mapd])]⟩
noncomputable def merkle_Growth.labF : Nat → List (LabF merkle_Growth.out.den)
  | 7 => [⟨merkle_Growth.j0s, fun k (d : (Unit × List ByteArray × Int × Unit) × (Ab8 × (Ab5 × Unit) × (Ab5 × Unit) × Unit)) => (merkle_Growth.j0 k d.1.2.1 d.1.2.2.1 d.2.1.2.2.1 d.2.1.2.2.2.1 d.2.1.2.2.2.2.1 d.2.1.2.2.2.2.2.1 d.2.2.1.1 d.2.2.2.1.1 : Option merkle_Growth.R)⟩]
  | _ => []
noncomputable def merkle_Growth.fd : FnD := ⟨Try.f26, merkle_Growth.ini, merkle_Growth.out, 2, [1000000, 1000001, 1000002], [1000001], merkle_Growth.labF, fun k (d : (Unit × List ByteArray × Int × Unit) × (Ab8 × (Ab5 × Unit) × (Ab5 × Unit) × Unit)) => (merkle_Growth.f k d.1.2.1 d.1.2.2.1 d.2.1.2.2.1 d.2.1.2.2.2.1 d.2.1.2.2.2.2.1 d.2.1.2.2.2.2.2.1 d.2.2.1.1 d.2.2.2.1.1 : Option merkle_Growth.R), none, []⟩

/-! ### chartularylaw28_GossipAgrees : function 7 -/
abbrev chartularylaw28_GossipAgrees.R := (Bool × Unit) × (Unit)
mutual
noncomputable def chartularylaw28_GossipAgrees.l0 : Nat → (List Int) → (List Int) → (List ByteArray) → Int → Ab12 → Bool → Bool → Int → Ab5 → Ab5 → Ab0 → (List Ab4) → Ab0 → Int → (List Ab4) → Ab0 → Int → (List Ab4) → Ab0 → Int → Option chartularylaw28_GossipAgrees.R
  | 0, _, _, _, _, _, _, _, _, _, _, _, _, _, _, _, _, _, _, _, _ => none
  | k + 1, x1, x2, x8, x11, o0_2, o0_3, o0_4, o0_5, o1_0, o2_0, o3_2, o4_1, o4_2, o4_3, o5_1, o5_2, o5_3, o6_1, o6_2, o6_3 =>
    bif decide ((x11 : Int) < (x1.length : Int)) then
      bif decide ((x11 : Int) < (x2.length : Int)) then
        bif decide ((x11 : Int) < 20) then
          (rdo x1 x11).bind fun t4 =>
          bif (t4 : Int) == 2 then
            (gossip_Ring_Auditor_v3.f k o3_2 o0_2 o0_3 o0_4 o0_5 o1_0 o2_0 o4_1 o4_2 o4_3 o5_1 o5_2 o5_3 o6_1 o6_2 o6_3).bind fun r5 =>
            (rdo x2 x11).bind fun t6 =>
            bif decide ((t6 : Int) < 0) then
              chartularylaw28_GossipAgrees.l0 k x1 x2 x8 (IntKind.wrap .i64 (x11 + 1)) o0_2 o0_3 o0_4 o0_5 o1_0 o2_0 o3_2 o4_1 o4_2 o4_3 o5_1 o5_2 o5_3 o6_1 o6_2 o6_3
            else
            bif decide ((t6 : Int) > (x8.length : Int)) then
              chartularylaw28_GossipAgrees.l0 k x1 x2 x8 (IntKind.wrap .i64 (x11 + 1)) o0_2 o0_3 o0_4 o0_5 o1_0 o2_0 o3_2 o4_1 o4_2 o4_3 o5_1 o5_2 o5_3 o6_1 o6_2 o6_3
            else
              (auditor_Auditor_Last.f k o6_1 o6_2 o6_3 o0_2 o0_3 o0_4 o0_5 o1_0 o2_0).bind fun r7 =>
              bif decide ((t6 : Int) < r7.1.1.1) then
                chartularylaw28_GossipAgrees.l0 k x1 x2 x8 (IntKind.wrap .i64 (x11 + 1)) o0_2 o0_3 o0_4 o0_5 o1_0 o2_0 o3_2 o4_1 o4_2 o4_3 o5_1 o5_2 o5_3 o6_1 o6_2 o6_3
              else
                (ck (decide (0 ≤ 0) && decide (0 ≤ t6) && decide (t6 ≤ (x8.length : Int)))).bind fun _ =>
                (merkle_Growth.f k ((x8.take t6.toNat).drop (0 : Int).toNat) r7.1.1.1 o0_2 o0_3 o0_4 o0_5 o1_0 o2_0).bind fun r8 =>
                (rdo x1 x11).bind fun t9 =>
                (ck (decide (0 ≤ 0) && decide (0 ≤ t6) && decide (t6 ≤ (x8.length : Int)))).bind fun _ =>
                (merkle_Root.f k ((x8.take t6.toNat).drop (0 : Int).toNat) r8.2.1.2.2.1 r8.2.1.2.2.2.1 r8.2.1.2.2.2.2.1 r8.2.1.2.2.2.2.2.1 o1_0 r8.2.2.1.1).bind fun r10 =>
                (proof_GrowthBytes.f k ((t6, r10.1), (r8.1.1, ()))).bind fun r11 =>
                bif (t9 : Int) == 2 then
                  (gossip_Ring_Tell_v3.f k r11.1.1 o3_2 r10.2.1.2.2.1 r10.2.1.2.2.2.1 r10.2.1.2.2.2.2.1 r10.2.1.2.2.2.2.2.1 o1_0 r10.2.2.1.1 o4_1 o4_2 o4_3 o5_1 o5_2 o5_3 o6_1 o6_2 o6_3).bind fun r12 =>
                  bif (r8.1.2.1 : Int) != 0 then
                    some ((false, ()), (()))
                  else
                  bif (r12.1.1 : Int) != 0 then
                    bif (r12.1.1 : Int) != 25 then
                      some ((false, ()), (()))
                    else
                      chartularylaw28_GossipAgrees.l0 k x1 x2 x8 (IntKind.wrap .i64 (x11 + 1)) r12.2.1.2.2.1 r12.2.1.2.2.2.1 r12.2.1.2.2.2.2.1 r12.2.1.2.2.2.2.2.1 o1_0 r12.2.2.1.1 o3_2 o4_1 o4_2 o4_3 o5_1 o5_2 o5_3 r12.2.2.2.1.2.1 r12.2.2.2.1.2.2.1 r12.2.2.2.1.2.2.2.1
                  else
                    chartularylaw28_GossipAgrees.l0 k x1 x2 x8 (IntKind.wrap .i64 (x11 + 1)) r12.2.1.2.2.1 r12.2.1.2.2.2.1 r12.2.1.2.2.2.2.1 r12.2.1.2.2.2.2.2.1 o1_0 r12.2.2.1.1 o3_2 o4_1 o4_2 o4_3 o5_1 o5_2 o5_3 r12.2.2.2.1.2.1 r12.2.2.2.1.2.2.1 r12.2.2.2.1.2.2.2.1
                else
                bif (t9 : Int) == 1 then
                  (gossip_Ring_Tell_v4.f k r11.1.1 o3_2 r10.2.1.2.2.1 r10.2.1.2.2.2.1 r10.2.1.2.2.2.2.1 r10.2.1.2.2.2.2.2.1 o1_0 r10.2.2.1.1 o4_1 o4_2 o4_3 o5_1 o5_2 o5_3 o6_1 o6_2 o6_3).bind fun r13 =>
                  bif (r8.1.2.1 : Int) != 0 then
                    some ((false, ()), (()))
                  else
                  bif (r13.1.1 : Int) != 0 then
                    bif (r13.1.1 : Int) != 25 then
                      some ((false, ()), (()))
                    else
                      chartularylaw28_GossipAgrees.l0 k x1 x2 x8 (IntKind.wrap .i64 (x11 + 1)) r13.2.1.2.2.1 r13.2.1.2.2.2.1 r13.2.1.2.2.2.2.1 r13.2.1.2.2.2.2.2.1 o1_0 r13.2.2.1.1 o3_2 o4_1 o4_2 o4_3 r13.2.2.2.1.2.1 r13.2.2.2.1.2.2.1 r13.2.2.2.1.2.2.2.1 o6_1 o6_2 o6_3
                  else
                    chartularylaw28_GossipAgrees.l0 k x1 x2 x8 (IntKind.wrap .i64 (x11 + 1)) r13.2.1.2.2.1 r13.2.1.2.2.2.1 r13.2.1.2.2.2.2.1 r13.2.1.2.2.2.2.2.1 o1_0 r13.2.2.1.1 o3_2 o4_1 o4_2 o4_3 r13.2.2.2.1.2.1 r13.2.2.2.1.2.2.1 r13.2.2.2.1.2.2.2.1 o6_1 o6_2 o6_3
                else
                bif (t9 : Int) == 0 then
                  (gossip_Ring_Tell_v5.f k r11.1.1 o3_2 r10.2.1.2.2.1 r10.2.1.2.2.2.1 r10.2.1.2.2.2.2.1 r10.2.1.2.2.2.2.2.1 o1_0 r10.2.2.1.1 o4_1 o4_2 o4_3 o5_1 o5_2 o5_3 o6_1 o6_2 o6_3).bind fun r14 =>
                  bif (r8.1.2.1 : Int) != 0 then
                    some ((false, ()), (()))
                  else
                  bif (r14.1.1 : Int) != 0 then
                    bif (r14.1.1 : Int) != 25 then
                      some ((false, ()), (()))
                    else
                      chartularylaw28_GossipAgrees.l0 k x1 x2 x8 (IntKind.wrap .i64 (x11 + 1)) r14.2.1.2.2.1 r14.2.1.2.2.2.1 r14.2.1.2.2.2.2.1 r14.2.1.2.2.2.2.2.1 o1_0 r14.2.2.1.1 o3_2 r14.2.2.2.1.2.1 r14.2.2.2.1.2.2.1 r14.2.2.2.1.2.2.2.1 o5_1 o5_2 o5_3 o6_1 o6_2 o6_3
                  else
                    chartularylaw28_GossipAgrees.l0 k x1 x2 x8 (IntKind.wrap .i64 (x11 + 1)) r14.2.1.2.2.1 r14.2.1.2.2.2.1 r14.2.1.2.2.2.2.1 r14.2.1.2.2.2.2.2.1 o1_0 r14.2.2.1.1 o3_2 r14.2.2.2.1.2.1 r14.2.2.2.1.2.2.1 r14.2.2.2.1.2.2.2.1 o5_1 o5_2 o5_3 o6_1 o6_2 o6_3
                else
                  (gossip_Ring_Tell_v6.f k t9 r11.1.1 o3_2 r10.2.1.2.2.1 r10.2.1.2.2.2.1 r10.2.1.2.2.2.2.1 r10.2.1.2.2.2.2.2.1 o1_0 r10.2.2.1.1 o4_1 o4_2 o4_3 o5_1 o5_2 o5_3 o6_1 o6_2 o6_3).bind fun r15 =>
                  bif (r8.1.2.1 : Int) != 0 then
                    some ((false, ()), (()))
                  else
                  bif (r15.1.1 : Int) != 0 then
                    bif (r15.1.1 : Int) != 25 then
                      some ((false, ()), (()))
                    else
                      chartularylaw28_GossipAgrees.l0 k x1 x2 x8 (IntKind.wrap .i64 (x11 + 1)) r10.2.1.2.2.1 r10.2.1.2.2.2.1 r10.2.1.2.2.2.2.1 r10.2.1.2.2.2.2.2.1 o1_0 r10.2.2.1.1 o3_2 o4_1 o4_2 o4_3 o5_1 o5_2 o5_3 o6_1 o6_2 o6_3
                  else
                    chartularylaw28_GossipAgrees.l0 k x1 x2 x8 (IntKind.wrap .i64 (x11 + 1)) r10.2.1.2.2.1 r10.2.1.2.2.2.1 r10.2.1.2.2.2.2.1 r10.2.1.2.2.2.2.2.1 o1_0 r10.2.2.1.1 o3_2 o4_1 o4_2 o4_3 o5_1 o5_2 o5_3 o6_1 o6_2 o6_3
          else
          bif (t4 : Int) == 1 then
            (gossip_Ring_Auditor_v4.f k o3_2 o0_2 o0_3 o0_4 o0_5 o1_0 o2_0 o4_1 o4_2 o4_3 o5_1 o5_2 o5_3 o6_1 o6_2 o6_3).bind fun r16 =>
            (rdo x2 x11).bind fun t17 =>
            bif decide ((t17 : Int) < 0) then
              chartularylaw28_GossipAgrees.l0 k x1 x2 x8 (IntKind.wrap .i64 (x11 + 1)) o0_2 o0_3 o0_4 o0_5 o1_0 o2_0 o3_2 o4_1 o4_2 o4_3 o5_1 o5_2 o5_3 o6_1 o6_2 o6_3
            else
            bif decide ((t17 : Int) > (x8.length : Int)) then
              chartularylaw28_GossipAgrees.l0 k x1 x2 x8 (IntKind.wrap .i64 (x11 + 1)) o0_2 o0_3 o0_4 o0_5 o1_0 o2_0 o3_2 o4_1 o4_2 o4_3 o5_1 o5_2 o5_3 o6_1 o6_2 o6_3
            else
              (auditor_Auditor_Last.f k o5_1 o5_2 o5_3 o0_2 o0_3 o0_4 o0_5 o1_0 o2_0).bind fun r18 =>
              bif decide ((t17 : Int) < r18.1.1.1) then
                chartularylaw28_GossipAgrees.l0 k x1 x2 x8 (IntKind.wrap .i64 (x11 + 1)) o0_2 o0_3 o0_4 o0_5 o1_0 o2_0 o3_2 o4_1 o4_2 o4_3 o5_1 o5_2 o5_3 o6_1 o6_2 o6_3
              else
                (ck (decide (0 ≤ 0) && decide (0 ≤ t17) && decide (t17 ≤ (x8.length : Int)))).bind fun _ =>
                (merkle_Growth.f k ((x8.take t17.toNat).drop (0 : Int).toNat) r18.1.1.1 o0_2 o0_3 o0_4 o0_5 o1_0 o2_0).bind fun r19 =>
                (rdo x1 x11).bind fun t20 =>
                (ck (decide (0 ≤ 0) && decide (0 ≤ t17) && decide (t17 ≤ (x8.length : Int)))).bind fun _ =>
                (merkle_Root.f k ((x8.take t17.toNat).drop (0 : Int).toNat) r19.2.1.2.2.1 r19.2.1.2.2.2.1 r19.2.1.2.2.2.2.1 r19.2.1.2.2.2.2.2.1 o1_0 r19.2.2.1.1).bind fun r21 =>
                (proof_GrowthBytes.f k ((t17, r21.1), (r19.1.1, ()))).bind fun r22 =>
                bif (t20 : Int) == 2 then
                  (gossip_Ring_Tell_v3.f k r22.1.1 o3_2 r21.2.1.2.2.1 r21.2.1.2.2.2.1 r21.2.1.2.2.2.2.1 r21.2.1.2.2.2.2.2.1 o1_0 r21.2.2.1.1 o4_1 o4_2 o4_3 o5_1 o5_2 o5_3 o6_1 o6_2 o6_3).bind fun r23 =>
                  bif (r19.1.2.1 : Int) != 0 then
                    some ((false, ()), (()))
                  else
                  bif (r23.1.1 : Int) != 0 then
                    bif (r23.1.1 : Int) != 25 then
                      some ((false, ()), (()))
                    else
                      chartularylaw28_GossipAgrees.l0 k x1 x2 x8 (IntKind.wrap .i64 (x11 + 1)) r23.2.1.2.2.1 r23.2.1.2.2.2.1 r23.2.1.2.2.2.2.1 r23.2.1.2.2.2.2.2.1 o1_0 r23.2.2.1.1 o3_2 o4_1 o4_2 o4_3 o5_1 o5_2 o5_3 r23.2.2.2.1.2.1 r23.2.2.2.1.2.2.1 r23.2.2.2.1.2.2.2.1
                  else
                    chartularylaw28_GossipAgrees.l0 k x1 x2 x8 (IntKind.wrap .i64 (x11 + 1)) r23.2.1.2.2.1 r23.2.1.2.2.2.1 r23.2.1.2.2.2.2.1 r23.2.1.2.2.2.2.2.1 o1_0 r23.2.2.1.1 o3_2 o4_1 o4_2 o4_3 o5_1 o5_2 o5_3 r23.2.2.2.1.2.1 r23.2.2.2.1.2.2.1 r23.2.2.2.1.2.2.2.1
                else
                bif (t20 : Int) == 1 then
                  (gossip_Ring_Tell_v4.f k r22.1.1 o3_2 r21.2.1.2.2.1 r21.2.1.2.2.2.1 r21.2.1.2.2.2.2.1 r21.2.1.2.2.2.2.2.1 o1_0 r21.2.2.1.1 o4_1 o4_2 o4_3 o5_1 o5_2 o5_3 o6_1 o6_2 o6_3).bind fun r24 =>
                  bif (r19.1.2.1 : Int) != 0 then
                    some ((false, ()), (()))
                  else
                  bif (r24.1.1 : Int) != 0 then
                    bif (r24.1.1 : Int) != 25 then
                      some ((false, ()), (()))
                    else
                      chartularylaw28_GossipAgrees.l0 k x1 x2 x8 (IntKind.wrap .i64 (x11 + 1)) r24.2.1.2.2.1 r24.2.1.2.2.2.1 r24.2.1.2.2.2.2.1 r24.2.1.2.2.2.2.2.1 o1_0 r24.2.2.1.1 o3_2 o4_1 o4_2 o4_3 r24.2.2.2.1.2.1 r24.2.2.2.1.2.2.1 r24.2.2.2.1.2.2.2.1 o6_1 o6_2 o6_3
                  else
                    chartularylaw28_GossipAgrees.l0 k x1 x2 x8 (IntKind.wrap .i64 (x11 + 1)) r24.2.1.2.2.1 r24.2.1.2.2.2.1 r24.2.1.2.2.2.2.1 r24.2.1.2.2.2.2.2.1 o1_0 r24.2.2.1.1 o3_2 o4_1 o4_2 o4_3 r24.2.2.2.1.2.1 r24.2.2.2.1.2.2.1 r24.2.2.2.1.2.2.2.1 o6_1 o6_2 o6_3
                else
                bif (t20 : Int) == 0 then
                  (gossip_Ring_Tell_v5.f k r22.1.1 o3_2 r21.2.1.2.2.1 r21.2.1.2.2.2.1 r21.2.1.2.2.2.2.1 r21.2.1.2.2.2.2.2.1 o1_0 r21.2.2.1.1 o4_1 o4_2 o4_3 o5_1 o5_2 o5_3 o6_1 o6_2 o6_3).bind fun r25 =>
                  bif (r19.1.2.1 : Int) != 0 then
                    some ((false, ()), (()))
                  else
                  bif (r25.1.1 : Int) != 0 then
                    bif (r25.1.1 : Int) != 25 then
                      some ((false, ()), (()))
                    else
                      chartularylaw28_GossipAgrees.l0 k x1 x2 x8 (IntKind.wrap .i64 (x11 + 1)) r25.2.1.2.2.1 r25.2.1.2.2.2.1 r25.2.1.2.2.2.2.1 r25.2.1.2.2.2.2.2.1 o1_0 r25.2.2.1.1 o3_2 r25.2.2.2.1.2.1 r25.2.2.2.1.2.2.1 r25.2.2.2.1.2.2.2.1 o5_1 o5_2 o5_3 o6_1 o6_2 o6_3
                  else
                    chartularylaw28_GossipAgrees.l0 k x1 x2 x8 (IntKind.wrap .i64 (x11 + 1)) r25.2.1.2.2.1 r25.2.1.2.2.2.1 r25.2.1.2.2.2.2.1 r25.2.1.2.2.2.2.2.1 o1_0 r25.2.2.1.1 o3_2 r25.2.2.2.1.2.1 r25.2.2.2.1.2.2.1 r25.2.2.2.1.2.2.2.1 o5_1 o5_2 o5_3 o6_1 o6_2 o6_3
                else
                  (gossip_Ring_Tell_v6.f k t20 r22.1.1 o3_2 r21.2.1.2.2.1 r21.2.1.2.2.2.1 r21.2.1.2.2.2.2.1 r21.2.1.2.2.2.2.2.1 o1_0 r21.2.2.1.1 o4_1 o4_2 o4_3 o5_1 o5_2 o5_3 o6_1 o6_2 o6_3).bind fun r26 =>
                  bif (r19.1.2.1 : Int) != 0 then
                    some ((false, ()), (()))
                  else
                  bif (r26.1.1 : Int) != 0 then
                    bif (r26.1.1 : Int) != 25 then
                      some ((false, ()), (()))
                    else
                      chartularylaw28_GossipAgrees.l0 k x1 x2 x8 (IntKind.wrap .i64 (x11 + 1)) r21.2.1.2.2.1 r21.2.1.2.2.2.1 r21.2.1.2.2.2.2.1 r21.2.1.2.2.2.2.2.1 o1_0 r21.2.2.1.1 o3_2 o4_1 o4_2 o4_3 o5_1 o5_2 o5_3 o6_1 o6_2 o6_3
                  else
                    chartularylaw28_GossipAgrees.l0 k x1 x2 x8 (IntKind.wrap .i64 (x11 + 1)) r21.2.1.2.2.1 r21.2.1.2.2.2.1 r21.2.1.2.2.2.2.1 r21.2.1.2.2.2.2.2.1 o1_0 r21.2.2.1.1 o3_2 o4_1 o4_2 o4_3 o5_1 o5_2 o5_3 o6_1 o6_2 o6_3
          else
          bif (t4 : Int) == 0 then
            (gossip_Ring_Auditor_v5.f k o3_2 o0_2 o0_3 o0_4 o0_5 o1_0 o2_0 o4_1 o4_2 o4_3 o5_1 o5_2 o5_3 o6_1 o6_2 o6_3).bind fun r27 =>
            (rdo x2 x11).bind fun t28 =>
            bif decide ((t28 : Int) < 0) then
              chartularylaw28_GossipAgrees.l0 k x1 x2 x8 (IntKind.wrap .i64 (x11 + 1)) o0_2 o0_3 o0_4 o0_5 o1_0 o2_0 o3_2 o4_1 o4_2 o4_3 o5_1 o5_2 o5_3 o6_1 o6_2 o6_3
            else
            bif decide ((t28 : Int) > (x8.length : Int)) then
              chartularylaw28_GossipAgrees.l0 k x1 x2 x8 (IntKind.wrap .i64 (x11 + 1)) o0_2 o0_3 o0_4 o0_5 o1_0 o2_0 o3_2 o4_1 o4_2 o4_3 o5_1 o5_2 o5_3 o6_1 o6_2 o6_3
            else
              (auditor_Auditor_Last.f k o4_1 o4_2 o4_3 o0_2 o0_3 o0_4 o0_5 o1_0 o2_0).bind fun r29 =>
              bif decide ((t28 : Int) < r29.1.1.1) then
                chartularylaw28_GossipAgrees.l0 k x1 x2 x8 (IntKind.wrap .i64 (x11 + 1)) o0_2 o0_3 o0_4 o0_5 o1_0 o2_0 o3_2 o4_1 o4_2 o4_3 o5_1 o5_2 o5_3 o6_1 o6_2 o6_3
              else
                (ck (decide (0 ≤ 0) && decide (0 ≤ t28) && decide (t28 ≤ (x8.length : Int)))).bind fun _ =>
                (merkle_Growth.f k ((x8.take t28.toNat).drop (0 : Int).toNat) r29.1.1.1 o0_2 o0_3 o0_4 o0_5 o1_0 o2_0).bind fun r30 =>
                (rdo x1 x11).bind fun t31 =>
                (ck (decide (0 ≤ 0) && decide (0 ≤ t28) && decide (t28 ≤ (x8.length : Int)))).bind fun _ =>
                (merkle_Root.f k ((x8.take t28.toNat).drop (0 : Int).toNat) r30.2.1.2.2.1 r30.2.1.2.2.2.1 r30.2.1.2.2.2.2.1 r30.2.1.2.2.2.2.2.1 o1_0 r30.2.2.1.1).bind fun r32 =>
                (proof_GrowthBytes.f k ((t28, r32.1), (r30.1.1, ()))).bind fun r33 =>
                bif (t31 : Int) == 2 then
                  (gossip_Ring_Tell_v3.f k r33.1.1 o3_2 r32.2.1.2.2.1 r32.2.1.2.2.2.1 r32.2.1.2.2.2.2.1 r32.2.1.2.2.2.2.2.1 o1_0 r32.2.2.1.1 o4_1 o4_2 o4_3 o5_1 o5_2 o5_3 o6_1 o6_2 o6_3).bind fun r34 =>
                  bif (r30.1.2.1 : Int) != 0 then
                    some ((false, ()), (()))
                  else
                  bif (r34.1.1 : Int) != 0 then
                    bif (r34.1.1 : Int) != 25 then
                      some ((false, ()), (()))
                    else
                      chartularylaw28_GossipAgrees.l0 k x1 x2 x8 (IntKind.wrap .i64 (x11 + 1)) r34.2.1.2.2.1 r34.2.1.2.2.2.1 r34.2.1.2.2.2.2.1 r34.2.1.2.2.2.2.2.1 o1_0 r34.2.2.1.1 o3_2 o4_1 o4_2 o4_3 o5_1 o5_2 o5_3 r34.2.2.2.1.2.1 r34.2.2.2.1.2.2.1 r34.2.2.2.1.2.2.2.1
                  else
                    chartularylaw28_GossipAgrees.l0 k x1 x2 x8 (IntKind.wrap .i64 (x11 + 1)) r34.2.1.2.2.1 r34.2.1.2.2.2.1 r34.2.1.2.2.2.2.1 r34.2.1.2.2.2.2.2.1 o1_0 r34.2.2.1.1 o3_2 o4_1 o4_2 o4_3 o5_1 o5_2 o5_3 r34.2.2.2.1.2.1 r34.2.2.2.1.2.2.1 r34.2.2.2.1.2.2.2.1
                else
                bif (t31 : Int) == 1 then
                  (gossip_Ring_Tell_v4.f k r33.1.1 o3_2 r32.2.1.2.2.1 r32.2.1.2.2.2.1 r32.2.1.2.2.2.2.1 r32.2.1.2.2.2.2.2.1 o1_0 r32.2.2.1.1 o4_1 o4_2 o4_3 o5_1 o5_2 o5_3 o6_1 o6_2 o6_3).bind fun r35 =>
                  bif (r30.1.2.1 : Int) != 0 then
                    some ((false, ()), (()))
                  else
                  bif (r35.1.1 : Int) != 0 then
                    bif (r35.1.1 : Int) != 25 then
                      some ((false, ()), (()))
                    else
                      chartularylaw28_GossipAgrees.l0 k x1 x2 x8 (IntKind.wrap .i64 (x11 + 1)) r35.2.1.2.2.1 r35.2.1.2.2.2.1 r35.2.1.2.2.2.2.1 r35.2.1.2.2.2.2.2.1 o1_0 r35.2.2.1.1 o3_2 o4_1 o4_2 o4_3 r35.2.2.2.1.2.1 r35.2.2.2.1.2.2.1 r35.2.2.2.1.2.2.2.1 o6_1 o6_2 o6_3
                  else
                    chartularylaw28_GossipAgrees.l0 k x1 x2 x8 (IntKind.wrap .i64 (x11 + 1)) r35.2.1.2.2.1 r35.2.1.2.2.2.1 r35.2.1.2.2.2.2.1 r35.2.1.2.2.2.2.2.1 o1_0 r35.2.2.1.1 o3_2 o4_1 o4_2 o4_3 r35.2.2.2.1.2.1 r35.2.2.2.1.2.2.1 r35.2.2.2.1.2.2.2.1 o6_1 o6_2 o6_3
                else
                bif (t31 : Int) == 0 then
                  (gossip_Ring_Tell_v5.f k r33.1.1 o3_2 r32.2.1.2.2.1 r32.2.1.2.2.2.1 r32.2.1.2.2.2.2.1 r32.2.1.2.2.2.2.2.1 o1_0 r32.2.2.1.1 o4_1 o4_2 o4_3 o5_1 o5_2 o5_3 o6_1 o6_2 o6_3).bind fun r36 =>
                  bif (r30.1.2.1 : Int) != 0 then
                    some ((false, ()), (()))
                  else
                  bif (r36.1.1 : Int) != 0 then
                    bif (r36.1.1 : Int) != 25 then
                      some ((false, ()), (()))
                    else
                      chartularylaw28_GossipAgrees.l0 k x1 x2 x8 (IntKind.wrap .i64 (x11 + 1)) r36.2.1.2.2.1 r36.2.1.2.2.2.1 r36.2.1.2.2.2.2.1 r36.2.1.2.2.2.2.2.1 o1_0 r36.2.2.1.1 o3_2 r36.2.2.2.1.2.1 r36.2.2.2.1.2.2.1 r36.2.2.2.1.2.2.2.1 o5_1 o5_2 o5_3 o6_1 o6_2 o6_3
                  else
                    chartularylaw28_GossipAgrees.l0 k x1 x2 x8 (IntKind.wrap .i64 (x11 + 1)) r36.2.1.2.2.1 r36.2.1.2.2.2.1 r36.2.1.2.2.2.2.1 r36.2.1.2.2.2.2.2.1 o1_0 r36.2.2.1.1 o3_2 r36.2.2.2.1.2.1 r36.2.2.2.1.2.2.1 r36.2.2.2.1.2.2.2.1 o5_1 o5_2 o5_3 o6_1 o6_2 o6_3
                else
                  (gossip_Ring_Tell_v6.f k t31 r33.1.1 o3_2 r32.2.1.2.2.1 r32.2.1.2.2.2.1 r32.2.1.2.2.2.2.1 r32.2.1.2.2.2.2.2.1 o1_0 r32.2.2.1.1 o4_1 o4_2 o4_3 o5_1 o5_2 o5_3 o6_1 o6_2 o6_3).bind fun r37 =>
                  bif (r30.1.2.1 : Int) != 0 then
                    some ((false, ()), (()))
                  else
                  bif (r37.1.1 : Int) != 0 then
                    bif (r37.1.1 : Int) != 25 then
                      some ((false, ()), (()))
                    else
                      chartularylaw28_GossipAgrees.l0 k x1 x2 x8 (IntKind.wrap .i64 (x11 + 1)) r32.2.1.2.2.1 r32.2.1.2.2.2.1 r32.2.1.2.2.2.2.1 r32.2.1.2.2.2.2.2.1 o1_0 r32.2.2.1.1 o3_2 o4_1 o4_2 o4_3 o5_1 o5_2 o5_3 o6_1 o6_2 o6_3
                  else
                    chartularylaw28_GossipAgrees.l0 k x1 x2 x8 (IntKind.wrap .i64 (x11 + 1)) r32.2.1.2.2.1 r32.2.1.2.2.2.1 r32.2.1.2.2.2.2.1 r32.2.1.2.2.2.2.2.1 o1_0 r32.2.2.1.1 o3_2 o4_1 o4_2 o4_3 o5_1 o5_2 o5_3 o6_1 o6_2 o6_3
          else
            (gossip_Ring_Auditor_v6.f k t4 o3_2 o0_2 o0_3 o0_4 o0_5 o1_0 o2_0 o4_1 o4_2 o4_3 o5_1 o5_2 o5_3 o6_1 o6_2 o6_3).bind fun r38 =>
            (rdo x2 x11).bind fun t39 =>
            chartularylaw28_GossipAgrees.l0 k x1 x2 x8 (IntKind.wrap .i64 (x11 + 1)) o0_2 o0_3 o0_4 o0_5 o1_0 o2_0 o3_2 o4_1 o4_2 o4_3 o5_1 o5_2 o5_3 o6_1 o6_2 o6_3
        else
          chartularylaw28_GossipAgrees.l1 k o3_2 o0_2 o0_3 o0_4 o0_5 o1_0 o2_0 o4_1 o4_2 o4_3 o5_1 o5_2 o5_3 o6_1 o6_2 o6_3
      else
        chartularylaw28_GossipAgrees.l1 k o3_2 o0_2 o0_3 o0_4 o0_5 o1_0 o2_0 o4_1 o4_2 o4_3 o5_1 o5_2 o5_3 o6_1 o6_2 o6_3
    else
      chartularylaw28_GossipAgrees.l1 k o3_2 o0_2 o0_3 o0_4 o0_5 o1_0 o2_0 o4_1 o4_2 o4_3 o5_1 o5_2 o5_3 o6_1 o6_2 o6_3
noncomputable def chartularylaw28_GossipAgrees.l1 : Nat → Ab0 → Ab12 → Bool → Bool → Int → Ab5 → Ab5 → (List Ab4) → Ab0 → Int → (List Ab4) → Ab0 → Int → (List Ab4) → Ab0 → Int → Option chartularylaw28_GossipAgrees.R
  | 0, _, _, _, _, _, _, _, _, _, _, _, _, _, _, _, _ => none
  | k + 1, o0_2, o1_2, o1_3, o1_4, o1_5, o2_0, o3_0, o4_1, o4_2, o4_3, o5_1, o5_2, o5_3, o6_1, o6_2, o6_3 =>
    (gossip_Ring_Hear_v2.f k o0_2 o1_2 o1_3 o1_4 o1_5 o2_0 o3_0 o4_1 o4_2 o4_3 o5_1 o5_2 o5_3 o6_1 o6_2 o6_3).bind fun r40 =>
    bif (r40.1.2.1 : Int) != 0 then
      some ((false, ()), (()))
    else
      chartularylaw28_GossipAgrees.l2 k r40.2.1.2.2.1 o1_2 o1_3 o1_4 o1_5 o2_0 o3_0 o4_1 o4_2 o4_3 o5_1 o5_2 o5_3 o6_1 o6_2 o6_3
noncomputable def chartularylaw28_GossipAgrees.l2 : Nat → Ab0 → Ab12 → Bool → Bool → Int → Ab5 → Ab5 → (List Ab4) → Ab0 → Int → (List Ab4) → Ab0 → Int → (List Ab4) → Ab0 → Int → Option chartularylaw28_GossipAgrees.R
  | 0, _, _, _, _, _, _, _, _, _, _, _, _, _, _, _, _ => none
  | k + 1, o0_2, o1_2, o1_3, o1_4, o1_5, o2_0, o3_0, o4_1, o4_2, o4_3, o5_1, o5_2, o5_3, o6_1, o6_2, o6_3 =>
    (gossip_Ring_Hear_v3.f k o0_2 o1_2 o1_3 o1_4 o1_5 o2_0 o3_0 o4_1 o4_2 o4_3 o5_1 o5_2 o5_3 o6_1 o6_2 o6_3).bind fun r41 =>
    bif (r41.1.2.1 : Int) != 0 then
      some ((false, ()), (()))
    else
      chartularylaw28_GossipAgrees.l3 k r41.2.1.2.2.1 o1_2 o1_3 o1_4 o1_5 o2_0 o3_0 o4_1 o4_2 o4_3 o5_1 o5_2 o5_3 o6_1 o6_2 o6_3
noncomputable def chartularylaw28_GossipAgrees.l3 : Nat → Ab0 → Ab12 → Bool → Bool → Int → Ab5 → Ab5 → (List Ab4) → Ab0 → Int → (List Ab4) → Ab0 → Int → (List Ab4) → Ab0 → Int → Option chartularylaw28_GossipAgrees.R
  | 0, _, _, _, _, _, _, _, _, _, _, _, _, _, _, _, _ => none
  | k + 1, o0_2, o1_2, o1_3, o1_4, o1_5, o2_0, o3_0, o4_1, o4_2, o4_3, o5_1, o5_2, o5_3, o6_1, o6_2, o6_3 =>
    (gossip_Ring_Hear_v4.f k o0_2 o1_2 o1_3 o1_4 o1_5 o2_0 o3_0 o4_1 o4_2 o4_3 o5_1 o5_2 o5_3 o6_1 o6_2 o6_3).bind fun r42 =>
    bif (r42.1.2.1 : Int) != 0 then
      some ((false, ()), (()))
    else
      chartularylaw28_GossipAgrees.l4 k r42.2.1.2.2.1 o1_2 o1_3 o1_4 o1_5 o2_0 o3_0 o4_1 o4_2 o4_3 o5_1 o5_2 o5_3 o6_1 o6_2 o6_3
noncomputable def chartularylaw28_GossipAgrees.l4 : Nat → Ab0 → Ab12 → Bool → Bool → Int → Ab5 → Ab5 → (List Ab4) → Ab0 → Int → (List Ab4) → Ab0 → Int → (List Ab4) → Ab0 → Int → Option chartularylaw28_GossipAgrees.R
  | 0, _, _, _, _, _, _, _, _, _, _, _, _, _, _, _, _ => none
  | k + 1, o0_2, o1_2, o1_3, o1_4, o1_5, o2_0, o3_0, o4_1, o4_2, o4_3, o5_1, o5_2, o5_3, o6_1, o6_2, o6_3 =>
    (gossip_Ring_Hear_v5.f k o0_2 o1_2 o1_3 o1_4 o1_5 o2_0 o3_0 o4_1 o4_2 o4_3 o5_1 o5_2 o5_3 o6_1 o6_2 o6_3).bind fun r43 =>
    bif (r43.1.2.1 : Int) != 0 then
      some ((false, ()), (()))
    else
      chartularylaw28_GossipAgrees.l5 k r43.2.1.2.2.1 o1_2 o1_3 o1_4 o1_5 o2_0 o3_0 o4_1 o4_2 o4_3 o5_1 o5_2 o5_3 o6_1 o6_2 o6_3
noncomputable def chartularylaw28_GossipAgrees.l5 : Nat → Ab0 → Ab12 → Bool → Bool → Int → Ab5 → Ab5 → (List Ab4) → Ab0 → Int → (List Ab4) → Ab0 → Int → (List Ab4) → Ab0 → Int → Option chartularylaw28_GossipAgrees.R
  | 0, _, _, _, _, _, _, _, _, _, _, _, _, _, _, _, _ => none
  | k + 1, o0_2, o1_2, o1_3, o1_4, o1_5, o2_0, o3_0, o4_1, o4_2, o4_3, o5_1, o5_2, o5_3, o6_1, o6_2, o6_3 =>
    (gossip_Ring_Hear_v6.f k o0_2 o1_2 o1_3 o1_4 o1_5 o2_0 o3_0 o4_1 o4_2 o4_3 o5_1 o5_2 o5_3 o6_1 o6_2 o6_3).bind fun r44 =>
    bif (r44.1.2.1 : Int) != 0 then
      some ((false, ()), (()))
    else
      chartularylaw28_GossipAgrees.l6 k r44.2.1.2.2.1 o1_2 o1_3 o1_4 o1_5 o2_0 o3_0 o4_1 o4_2 o4_3 o5_1 o5_2 o5_3 o6_1 o6_2 o6_3
noncomputable def chartularylaw28_GossipAgrees.l6 : Nat → Ab0 → Ab12 → Bool → Bool → Int → Ab5 → Ab5 → (List Ab4) → Ab0 → Int → (List Ab4) → Ab0 → Int → (List Ab4) → Ab0 → Int → Option chartularylaw28_GossipAgrees.R
  | 0, _, _, _, _, _, _, _, _, _, _, _, _, _, _, _, _ => none
  | k + 1, o0_2, o1_2, o1_3, o1_4, o1_5, o2_0, o3_0, o4_1, o4_2, o4_3, o5_1, o5_2, o5_3, o6_1, o6_2, o6_3 =>
    (gossip_Ring_Hear_v7.f k o0_2 o1_2 o1_3 o1_4 o1_5 o2_0 o3_0 o4_1 o4_2 o4_3 o5_1 o5_2 o5_3 o6_1 o6_2 o6_3).bind fun r45 =>
    bif (r45.1.2.1 : Int) != 0 then
      some ((false, ()), (()))
    else
      chartularylaw28_GossipAgrees.l7 k r45.2.1.2.2.1 o1_2 o1_3 o1_4 o1_5 o2_0 o3_0 o4_1 o4_2 o4_3 o5_1 o5_2 o5_3 o6_1 o6_2 o6_3
noncomputable def chartularylaw28_GossipAgrees.l7 : Nat → Ab0 → Ab12 → Bool → Bool → Int → Ab5 → Ab5 → (List Ab4) → Ab0 → Int → (List Ab4) → Ab0 → Int → (List Ab4) → Ab0 → Int → Option chartularylaw28_GossipAgrees.R
  | 0, _, _, _, _, _, _, _, _, _, _, _, _, _, _, _, _ => none
  | k + 1, o0_2, o1_2, o1_3, o1_4, o1_5, o2_0, o3_0, o4_1, o4_2, o4_3, o5_1, o5_2, o5_3, o6_1, o6_2, o6_3 =>
    (gossip_Ring_Hear_v8.f k o0_2 o1_2 o1_3 o1_4 o1_5 o2_0 o3_0 o4_1 o4_2 o4_3 o5_1 o5_2 o5_3 o6_1 o6_2 o6_3).bind fun r46 =>
    bif (r46.1.2.1 : Int) != 0 then
      some ((false, ()), (()))
    else
      chartularylaw28_GossipAgrees.l8 k r46.2.1.2.2.1 o1_2 o1_3 o1_4 o1_5 o2_0 o3_0 o4_1 o4_2 o4_3 o5_1 o5_2 o5_3 o6_1 o6_2 o6_3
noncomputable def chartularylaw28_GossipAgrees.l8 : Nat → Ab0 → Ab12 → Bool → Bool → Int → Ab5 → Ab5 → (List Ab4) → Ab0 → Int → (List Ab4) → Ab0 → Int → (List Ab4) → Ab0 → Int → Option chartularylaw28_GossipAgrees.R
  | 0, _, _, _, _, _, _, _, _, _, _, _, _, _, _, _, _ => none
  | k + 1, o0_2, o1_2, o1_3, o1_4, o1_5, o2_0, o3_0, o4_1, o4_2, o4_3, o5_1, o5_2, o5_3, o6_1, o6_2, o6_3 =>
    (gossip_Ring_Hear_v9.f k o0_2 o1_2 o1_3 o1_4 o1_5 o2_0 o3_0 o4_1 o4_2 o4_3 o5_1 o5_2 o5_3 o6_1 o6_2 o6_3).bind fun r47 =>
    bif (r47.1.2.1 : Int) != 0 then
      some ((false, ()), (()))
    else
      chartularylaw28_GossipAgrees.l9 k r47.2.1.2.2.1 o1_2 o1_3 o1_4 o1_5 o2_0 o3_0 o4_1 o4_2 o4_3 o5_1 o5_2 o5_3 o6_1 o6_2 o6_3
noncomputable def chartularylaw28_GossipAgrees.l9 : Nat → Ab0 → Ab12 → Bool → Bool → Int → Ab5 → Ab5 → (List Ab4) → Ab0 → Int → (List Ab4) → Ab0 → Int → (List Ab4) → Ab0 → Int → Option chartularylaw28_GossipAgrees.R
  | 0, _, _, _, _, _, _, _, _, _, _, _, _, _, _, _, _ => none
  | k + 1, o0_2, o1_2, o1_3, o1_4, o1_5, o2_0, o3_0, o4_1, o4_2, o4_3, o5_1, o5_2, o5_3, o6_1, o6_2, o6_3 =>
    (gossip_Ring_Hear_v10.f k o0_2 o1_2 o1_3 o1_4 o1_5 o2_0 o3_0 o4_1 o4_2 o4_3 o5_1 o5_2 o5_3 o6_1 o6_2 o6_3).bind fun r48 =>
    bif (r48.1.2.1 : Int) != 0 then
      some ((false, ()), (()))
    else
      chartularylaw28_GossipAgrees.l10 k r48.2.1.2.2.1 o1_2 o1_3 o1_4 o1_5 o2_0 o3_0 o4_1 o4_2 o4_3 o5_1 o5_2 o5_3 o6_1 o6_2 o6_3
noncomputable def chartularylaw28_GossipAgrees.l10 : Nat → Ab0 → Ab12 → Bool → Bool → Int → Ab5 → Ab5 → (List Ab4) → Ab0 → Int → (List Ab4) → Ab0 → Int → (List Ab4) → Ab0 → Int → Option chartularylaw28_GossipAgrees.R
  | 0, _, _, _, _, _, _, _, _, _, _, _, _, _, _, _, _ => none
  | k + 1, o0_2, o1_2, o1_3, o1_4, o1_5, o2_0, o3_0, o4_1, o4_2, o4_3, o5_1, o5_2, o5_3, o6_1, o6_2, o6_3 =>
    (gossip_Ring_Agree_v2.f k o0_2 o1_2 o1_3 o1_4 o1_5 o2_0 o3_0 o4_1 o4_2 o4_3 o5_1 o5_2 o5_3 o6_1 o6_2 o6_3).bind fun r49 =>
    bif r49.1.1 then
      (gossip_Ring_Forks_v2.f k o0_2 o1_2 o1_3 o1_4 o1_5 o2_0 o3_0 o4_1 o4_2 o4_3 o5_1 o5_2 o5_3 o6_1 o6_2 o6_3).bind fun r50 =>
      bif ((r50.1.1.length : Int) : Int) == 0 then
        (chartularylaw28_awake.f k).bind fun r51 =>
        some ((r51.1.1, ()), (()))
      else
        some ((false, ()), (()))
    else
      some ((false, ()), (()))
noncomputable def chartularylaw28_GossipAgrees.f : Nat → (List ByteArray) → (List Int) → (List Int) → Option chartularylaw28_GossipAgrees.R
  | 0, _, _, _ => none
  | k + 1, x0, x1, x2 =>
    (mill_New.f k).bind fun r1 =>
    (chartularylaw07_Leaves.f k x0 r1.2.1.2.2.1 r1.2.1.2.2.2.1 r1.2.1.2.2.2.2.1 r1.2.1.2.2.2.2.2.1 r1.2.2.1.1 r1.2.2.2.1.1).bind fun r2 =>
    (gossip_New_v1.f k r2.2.1.2.2.1 r2.2.1.2.2.2.1 r2.2.1.2.2.2.2.1 r2.2.1.2.2.2.2.2.1 r1.2.2.1.1 r2.2.2.1.1).bind fun r3 =>
    bif (r3.1.2.1 : Int) != 0 then
      some ((false, ()), (()))
    else
      chartularylaw28_GossipAgrees.l0 k x1 x2 r2.1.1 0 r2.2.1.2.2.1 r2.2.1.2.2.2.1 r2.2.1.2.2.2.2.1 r2.2.1.2.2.2.2.2.1 r1.2.2.1.1 r2.2.2.1.1 r3.2.1.2.2.1 r3.2.2.1.2.1 r3.2.2.1.2.2.1 r3.2.2.1.2.2.2.1 r3.2.2.2.1.2.1 r3.2.2.2.1.2.2.1 r3.2.2.2.1.2.2.2.1 r3.2.2.2.2.1.2.1 r3.2.2.2.2.1.2.2.1 r3.2.2.2.2.1.2.2.2.1
end
abbrev chartularylaw28_GossipAgrees.ini : LSh := ⟨[(0, .val (.sl .str)), (1, .val (.sl (.int .i64))), (2, .val (.sl (.int .i64)))], []⟩
abbrev chartularylaw28_GossipAgrees.out : LSh := ⟨[(0, .val .bool)], []⟩
abbrev chartularylaw28_GossipAgrees.l0s : LSh := ⟨[(1, .val (.sl (.int .i64))), (2, .val (.sl (.int .i64))), (7, .ptr 6000000 0), (8, .val (.sl .str)), (9, .ptr 6000003 0), (11, .val (.int .i64))], [(6000000, 80, [.mref 6000001, .mref 6000002, .val Ac10, .val .bool, .val .bool, .val (.int .i64)]), (6000001, 77, [.mapd]), (6000002, 77, [.mapd]), (6000003, 86, [.ptr 6000000 0, .prow 3700301 50 [(6000004, 0), (6000005, 0), (6000006, 0)], .own 3700302 27 Ac1]), (6000004, 88, [.ptr 6000000 0, .own 3700401 25 Ac6, .own 3700402 27 Ac1, .val (.int .i64)]), (6000005, 88, [.ptr 6000000 0, .own 3700501 25 Ac6, .own 3700502 27 Ac1, .val (.int .i64)]), (6000006, 88, [.ptr 6000000 0, .own 3700601 25 Ac6, .own 3700602 27 Ac1, .val (.int .i64)])]⟩
abbrev chartularylaw28_GossipAgrees.l1s : LSh := ⟨[(9, .ptr 6000000 0), (19, .cst .i64 0)], [(6000000, 86, [.ptr 6000001 0, .prow 3700001 50 [(6000004, 0), (6000005, 0), (6000006, 0)], .own 3700002 27 Ac1]), (6000001, 80, [.mref 6000002, .mref 6000003, .val Ac10, .val .bool, .val .bool, .val (.int .i64)]), (6000002, 77, [.mapd]), (6000003, 77, [.mapd]), (6000004, 88, [.ptr 6000001 0, .own 3700401 25 Ac6, .own 3700402 27 Ac1, .val (.int .i64)]), (6000005, 88, [.ptr 6000001 0, .own 3700501 25 Ac6, .own 3700502 27 Ac1, .val (.int .i64)]), (6000006, 88, [.ptr 6000001 0, .own 3700601 25 Ac6, .own 3700602 27 Ac1, .val (.int .i64)])]⟩
abbrev chartularylaw28_GossipAgrees.l2s : LSh := ⟨[(9, .ptr 6000000 0), (19, .cst .i64 1)], [(6000000, 86, [.ptr 6000001 0, .psl [(6000004, 0), (6000005, 0), (6000006, 0)], .own 3700002 27 Ac1]), (6000001, 80, [.mref 6000002, .mref 6000003, .val Ac10, .val .bool, .val .bool, .val (.int .i64)]), (6000002, 77, [.mapd]), (6000003, 77, [.mapd]), (6000004, 88, [.ptr 6000001 0, .own 3700401 25 Ac6, .own 3700402 27 Ac1, .val (.int .i64)]), (6000005, 88, [.ptr 6000001 0, .own 3700501 25 Ac6, .own 3700502 27 Ac1, .val (.int .i64)]), (6000006, 88, [.ptr 6000001 0, .own 3700601 25 Ac6, .own 3700602 27 Ac1, .val (.int .i64)])]⟩
abbrev chartularylaw28_GossipAgrees.l3s : LSh := ⟨[(9, .ptr 6000000 0), (19, .cst .i64 2)], [(6000000, 86, [.ptr 6000001 0, .psl [(6000004, 0), (6000005, 0), (6000006, 0)], .own 3700002 27 Ac1]), (6000001, 80, [.mref 6000002, .mref 6000003, .val Ac10, .val .bool, .val .bool, .val (.int .i64)]), (6000002, 77, [.mapd]), (6000003, 77, [.mapd]), (6000004, 88, [.ptr 6000001 0, .own 3700401 25 Ac6, .own 3700402 27 Ac1, .val (.int .i64)]), (6000005, 88, [.ptr 6000001 0, .own 3700501 25 Ac6, .own 3700502 27 Ac1, .val (.int .i64)]), (6000006, 88, [.ptr 6000001 0, .own 3700601 25 Ac6, .own 3700602 27 Ac1, .val (.int .i64)])]⟩
abbrev chartularylaw28_GossipAgrees.l4s : LSh := ⟨[(9, .ptr 6000000 0), (19, .cst .i64 3)], [(6000000, 86, [.ptr 6000001 0, .psl [(6000004, 0), (6000005, 0), (6000006, 0)], .own 3700002 27 Ac1]), (6000001, 80, [.mref 6000002, .mref 6000003, .val Ac10, .val .bool, .val .bool, .val (.int .i64)]), (6000002, 77, [.mapd]), (6000003, 77, [.mapd]), (6000004, 88, [.ptr 6000001 0, .own 3700401 25 Ac6, .own 3700402 27 Ac1, .val (.int .i64)]), (6000005, 88, [.ptr 6000001 0, .own 3700501 25 Ac6, .own 3700502 27 Ac1, .val (.int .i64)]), (6000006, 88, [.ptr 6000001 0, .own 3700601 25 Ac6, .own 3700602 27 Ac1, .val (.int .i64)])]⟩
abbrev chartularylaw28_GossipAgrees.l5s : LSh := ⟨[(9, .ptr 6000000 0), (19, .cst .i64 4)], [(6000000, 86, [.ptr 6000001 0, .psl [(6000004, 0), (6000005, 0), (6000006, 0)], .own 3700002 27 Ac1]), (6000001, 80, [.mref 6000002, .mref 6000003, .val Ac10, .val .bool, .val .bool, .val (.int .i64)]), (6000002, 77, [.mapd]), (6000003, 77, [.mapd]), (6000004, 88, [.ptr 6000001 0, .own 3700401 25 Ac6, .own 3700402 27 Ac1, .val (.int .i64)]), (6000005, 88, [.ptr 6000001 0, .own 3700501 25 Ac6, .own 3700502 27 Ac1, .val (.int .i64)]), (6000006, 88, [.ptr 6000001 0, .own 3700601 25 Ac6, .own 3700602 27 Ac1, .val (.int .i64)])]⟩
abbrev chartularylaw28_GossipAgrees.l6s : LSh := ⟨[(9, .ptr 6000000 0), (19, .cst .i64 5)], [(6000000, 86, [.ptr 6000001 0, .psl [(6000004, 0), (6000005, 0), (6000006, 0)], .own 3700002 27 Ac1]), (6000001, 80, [.mref 6000002, .mref 6000003, .val Ac10, .val .bool, .val .bool, .val (.int .i64)]), (6000002, 77, [.mapd]), (6000003, 77, [.mapd]), (6000004, 88, [.ptr 6000001 0, .own 3700401 25 Ac6, .own 3700402 27 Ac1, .val (.int .i64)]), (6000005, 88, [.ptr 6000001 0, .own 3700501 25 Ac6, .own 3700502 27 Ac1, .val (.int .i64)]), (6000006, 88, [.ptr 6000001 0, .own 3700601 25 Ac6, .own 3700602 27 Ac1, .val (.int .i64)])]⟩
abbrev chartularylaw28_GossipAgrees.l7s : LSh := ⟨[(9, .ptr 6000000 0), (19, .cst .i64 6)], [(6000000, 86, [.ptr 6000001 0, .psl [(6000004, 0), (6000005, 0), (6000006, 0)], .own 3700002 27 Ac1]), (6000001, 80, [.mref 6000002, .mref 6000003, .val Ac10, .val .bool, .val .bool, .val (.int .i64)]), (6000002, 77, [.mapd]), (6000003, 77, [.mapd]), (6000004, 88, [.ptr 6000001 0, .own 3700401 25 Ac6, .own 3700402 27 Ac1, .val (.int .i64)]), (6000005, 88, [.ptr 6000001 0, .own 3700501 25 Ac6, .own 3700502 27 Ac1, .val (.int .i64)]), (6000006, 88, [.ptr 6000001 0, .own 3700601 25 Ac6, .own 3700602 27 Ac1, .val (.int .i64)])]⟩
abbrev chartularylaw28_GossipAgrees.l8s : LSh := ⟨[(9, .ptr 6000000 0), (19, .cst .i64 7)], [(6000000, 86, [.ptr 6000001 0, .psl [(6000004, 0), (6000005, 0), (6000006, 0)], .own 3700002 27 Ac1]), (6000001, 80, [.mref 6000002, .mref 6000003, .val Ac10, .val .bool, .val .bool, .val (.int .i64)]), (6000002, 77, [.mapd]), (6000003, 77, [.mapd]), (6000004, 88, [.ptr 6000001 0, .own 3700401 25 Ac6, .own 3700402 27 Ac1, .val (.int .i64)]), (6000005, 88, [.ptr 6000001 0, .own 3700501 25 Ac6, .own 3700502 27 Ac1, .val (.int .i64)]), (6000006, 88, [.ptr 6000001 0, .own 3700601 25 Ac6, .own 3700602 27 Ac1, .val (.int .i64)])]⟩
abbrev chartularylaw28_GossipAgrees.l9s : LSh := ⟨[(9, .ptr 6000000 0), (19, .cst .i64 8)], [(6000000, 86, [.ptr 6000001 0, .psl [(6000004, 0), (6000005, 0), (6000006, 0)], .own 3700002 27 Ac1]), (6000001, 80, [.mref 6000002, .mref 6000003, .val Ac10, .val .bool, .val .bool, .val (.int .i64)]), (6000002, 77, [.mapd]), (6000003, 77, [.mapd]), (6000004, 88, [.ptr 6000001 0, .own 3700401 25 Ac6, .own 3700402 27 Ac1, .val (.int .i64)]), (6000005, 88, [.ptr 6000001 0, .own 3700501 25 Ac6, .own 3700502 27 Ac1, .val (.int .i64)]), (6000006, 88, [.ptr 6000001 0, .own 3700601 25 Ac6, .own 3700602 27 Ac1, .val (.int .i64)])]⟩
abbrev chartularylaw28_GossipAgrees.l10s : LSh := ⟨[(9, .ptr 6000000 0), (19, .cst .i64 9)], [(6000000, 86, [.ptr 6000001 0, .psl [(6000004, 0), (6000005, 0), (6000006, 0)], .own 3700002 27 Ac1]), (6000001, 80, [.mref 6000002, .mref 6000003, .val Ac10, .val .bool, .val .bool, .val (.int .i64)]), (6000002, 77, [.mapd]), (6000003, 77, [.mapd]), (6000004, 88, [.ptr 6000001 0, .own 3700401 25 Ac6, .own 3700402 27 Ac1, .val (.int .i64)]), (6000005, 88, [.ptr 6000001 0, .own 3700501 25 Ac6, .own 3700502 27 Ac1, .val (.int .i64)]), (6000006, 88, [.ptr 6000001 0, .own 3700601 25 Ac6, .own 3700602 27 Ac1, .val (.int .i64)])]⟩
noncomputable def chartularylaw28_GossipAgrees.labF : Nat → List (LabF chartularylaw28_GossipAgrees.out.den)
  | 14 => [⟨chartularylaw28_GossipAgrees.l0s, fun k (d : (List Int × List Int × Unit × List ByteArray × Unit × Int × Unit) × (Ab8 × (Ab5 × Unit) × (Ab5 × Unit) × (Unit × Unit × Ab0 × Unit) × Ab9 × Ab9 × Ab9 × Unit)) => (chartularylaw28_GossipAgrees.l0 k d.1.1 d.1.2.1 d.1.2.2.2.1 d.1.2.2.2.2.2.1 d.2.1.2.2.1 d.2.1.2.2.2.1 d.2.1.2.2.2.2.1 d.2.1.2.2.2.2.2.1 d.2.2.1.1 d.2.2.2.1.1 d.2.2.2.2.1.2.2.1 d.2.2.2.2.2.1.2.1 d.2.2.2.2.2.1.2.2.1 d.2.2.2.2.2.1.2.2.2.1 d.2.2.2.2.2.2.1.2.1 d.2.2.2.2.2.2.1.2.2.1 d.2.2.2.2.2.2.1.2.2.2.1 d.2.2.2.2.2.2.2.1.2.1 d.2.2.2.2.2.2.2.1.2.2.1 d.2.2.2.2.2.2.2.1.2.2.2.1 : Option chartularylaw28_GossipAgrees.R)⟩]
  | 38 => [⟨chartularylaw28_GossipAgrees.l1s, fun k (d : (Unit × Unit × Unit) × Ab2) => (chartularylaw28_GossipAgrees.l1 k d.2.1.2.2.1 d.2.2.1.2.2.1 d.2.2.1.2.2.2.1 d.2.2.1.2.2.2.2.1 d.2.2.1.2.2.2.2.2.1 d.2.2.2.1.1 d.2.2.2.2.1.1 d.2.2.2.2.2.1.2.1 d.2.2.2.2.2.1.2.2.1 d.2.2.2.2.2.1.2.2.2.1 d.2.2.2.2.2.2.1.2.1 d.2.2.2.2.2.2.1.2.2.1 d.2.2.2.2.2.2.1.2.2.2.1 d.2.2.2.2.2.2.2.1.2.1 d.2.2.2.2.2.2.2.1.2.2.1 d.2.2.2.2.2.2.2.1.2.2.2.1 : Option chartularylaw28_GossipAgrees.R)⟩, ⟨chartularylaw28_GossipAgrees.l2s, fun k (d : (Unit × Unit × Unit) × Ab2) => (chartularylaw28_GossipAgrees.l2 k d.2.1.2.2.1 d.2.2.1.2.2.1 d.2.2.1.2.2.2.1 d.2.2.1.2.2.2.2.1 d.2.2.1.2.2.2.2.2.1 d.2.2.2.1.1 d.2.2.2.2.1.1 d.2.2.2.2.2.1.2.1 d.2.2.2.2.2.1.2.2.1 d.2.2.2.2.2.1.2.2.2.1 d.2.2.2.2.2.2.1.2.1 d.2.2.2.2.2.2.1.2.2.1 d.2.2.2.2.2.2.1.2.2.2.1 d.2.2.2.2.2.2.2.1.2.1 d.2.2.2.2.2.2.2.1.2.2.1 d.2.2.2.2.2.2.2.1.2.2.2.1 : Option chartularylaw28_GossipAgrees.R)⟩, ⟨chartularylaw28_GossipAgrees.l3s, fun k (d : (Unit × Unit × Unit) × Ab2) => (chartularylaw28_GossipAgrees.l3 k d.2.1.2.2.1 d.2.2.1.2.2.1 d.2.2.1.2.2.2.1 d.2.2.1.2.2.2.2.1 d.2.2.1.2.2.2.2.2.1 d.2.2.2.1.1 d.2.2.2.2.1.1 d.2.2.2.2.2.1.2.1 d.2.2.2.2.2.1.2.2.1 d.2.2.2.2.2.1.2.2.2.1 d.2.2.2.2.2.2.1.2.1 d.2.2.2.2.2.2.1.2.2.1 d.2.2.2.2.2.2.1.2.2.2.1 d.2.2.2.2.2.2.2.1.2.1 d.2.2.2.2.2.2.2.1.2.2.1 d.2.2.2.2.2.2.2.1.2.2.2.1 : Option chartularylaw28_GossipAgrees.R)⟩, ⟨chartularylaw28_GossipAgrees.l4s, fun k (d : (Unit × Unit × Unit) × Ab2) => (chartularylaw28_GossipAgrees.l4 k d.2.1.2.2.1 d.2.2.1.2.2.1 d.2.2.1.2.2.2.1 d.2.2.1.2.2.2.2.1 d.2.2.1.2.2.2.2.2.1 d.2.2.2.1.1 d.2.2.2.2.1.1 d.2.2.2.2.2.1.2.1 d.2.2.2.2.2.1.2.2.1 d.2.2.2.2.2.1.2.2.2.1 d.2.2.2.2.2.2.1.2.1 d.2.2.2.2.2.2.1.2.2.1 d.2.2.2.2.2.2.1.2.2.2.1 d.2.2.2.2.2.2.2.1.2.1 d.2.2.2.2.2.2.2.1.2.2.1 d.2.2.2.2.2.2.2.1.2.2.2.1 : Option chartularylaw28_GossipAgrees.R)⟩, ⟨chartularylaw28_GossipAgrees.l5s, fun k (d : (Unit × Unit × Unit) × Ab2) => (chartularylaw28_GossipAgrees.l5 k d.2.1.2.2.1 d.2.2.1.2.2.1 d.2.2.1.2.2.2.1 d.2.2.1.2.2.2.2.1 d.2.2.1.2.2.2.2.2.1 d.2.2.2.1.1 d.2.2.2.2.1.1 d.2.2.2.2.2.1.2.1 d.2.2.2.2.2.1.2.2.1 d.2.2.2.2.2.1.2.2.2.1 d.2.2.2.2.2.2.1.2.1 d.2.2.2.2.2.2.1.2.2.1 d.2.2.2.2.2.2.1.2.2.2.1 d.2.2.2.2.2.2.2.1.2.1 d.2.2.2.2.2.2.2.1.2.2.1 d.2.2.2.2.2.2.2.1.2.2.2.1 : Option chartularylaw28_GossipAgrees.R)⟩, ⟨chartularylaw28_GossipAgrees.l6s, fun k (d : (Unit × Unit × Unit) × Ab2) => (chartularylaw28_GossipAgrees.l6 k d.2.1.2.2.1 d.2.2.1.2.2.1 d.2.2.1.2.2.2.1 d.2.2.1.2.2.2.2.1 d.2.2.1.2.2.2.2.2.1 d.2.2.2.1.1 d.2.2.2.2.1.1 d.2.2.2.2.2.1.2.1 d.2.2.2.2.2.1.2.2.1 d.2.2.2.2.2.1.2.2.2.1 d.2.2.2.2.2.2.1.2.1 d.2.2.2.2.2.2.1.2.2.1 d.2.2.2.2.2.2.1.2.2.2.1 d.2.2.2.2.2.2.2.1.2.1 d.2.2.2.2.2.2.2.1.2.2.1 d.2.2.2.2.2.2.2.1.2.2.2.1 : Option chartularylaw28_GossipAgrees.R)⟩, ⟨chartularylaw28_GossipAgrees.l7s, fun k (d : (Unit × Unit × Unit) × Ab2) => (chartularylaw28_GossipAgrees.l7 k d.2.1.2.2.1 d.2.2.1.2.2.1 d.2.2.1.2.2.2.1 d.2.2.1.2.2.2.2.1 d.2.2.1.2.2.2.2.2.1 d.2.2.2.1.1 d.2.2.2.2.1.1 d.2.2.2.2.2.1.2.1 d.2.2.2.2.2.1.2.2.1 d.2.2.2.2.2.1.2.2.2.1 d.2.2.2.2.2.2.1.2.1 d.2.2.2.2.2.2.1.2.2.1 d.2.2.2.2.2.2.1.2.2.2.1 d.2.2.2.2.2.2.2.1.2.1 d.2.2.2.2.2.2.2.1.2.2.1 d.2.2.2.2.2.2.2.1.2.2.2.1 : Option chartularylaw28_GossipAgrees.R)⟩, ⟨chartularylaw28_GossipAgrees.l8s, fun k (d : (Unit × Unit × Unit) × Ab2) => (chartularylaw28_GossipAgrees.l8 k d.2.1.2.2.1 d.2.2.1.2.2.1 d.2.2.1.2.2.2.1 d.2.2.1.2.2.2.2.1 d.2.2.1.2.2.2.2.2.1 d.2.2.2.1.1 d.2.2.2.2.1.1 d.2.2.2.2.2.1.2.1 d.2.2.2.2.2.1.2.2.1 d.2.2.2.2.2.1.2.2.2.1 d.2.2.2.2.2.2.1.2.1 d.2.2.2.2.2.2.1.2.2.1 d.2.2.2.2.2.2.1.2.2.2.1 d.2.2.2.2.2.2.2.1.2.1 d.2.2.2.2.2.2.2.1.2.2.1 d.2.2.2.2.2.2.2.1.2.2.2.1 : Option chartularylaw28_GossipAgrees.R)⟩, ⟨chartularylaw28_GossipAgrees.l9s, fun k (d : (Unit × Unit × Unit) × Ab2) => (chartularylaw28_GossipAgrees.l9 k d.2.1.2.2.1 d.2.2.1.2.2.1 d.2.2.1.2.2.2.1 d.2.2.1.2.2.2.2.1 d.2.2.1.2.2.2.2.2.1 d.2.2.2.1.1 d.2.2.2.2.1.1 d.2.2.2.2.2.1.2.1 d.2.2.2.2.2.1.2.2.1 d.2.2.2.2.2.1.2.2.2.1 d.2.2.2.2.2.2.1.2.1 d.2.2.2.2.2.2.1.2.2.1 d.2.2.2.2.2.2.1.2.2.2.1 d.2.2.2.2.2.2.2.1.2.1 d.2.2.2.2.2.2.2.1.2.2.1 d.2.2.2.2.2.2.2.1.2.2.2.1 : Option chartularylaw28_GossipAgrees.R)⟩, ⟨chartularylaw28_GossipAgrees.l10s, fun k (d : (Unit × Unit × Unit) × Ab2) => (chartularylaw28_GossipAgrees.l10 k d.2.1.2.2.1 d.2.2.1.2.2.1 d.2.2.1.2.2.2.1 d.2.2.1.2.2.2.2.1 d.2.2.1.2.2.2.2.2.1 d.2.2.2.1.1 d.2.2.2.2.1.1 d.2.2.2.2.2.1.2.1 d.2.2.2.2.2.1.2.2.1 d.2.2.2.2.2.1.2.2.2.1 d.2.2.2.2.2.2.1.2.1 d.2.2.2.2.2.2.1.2.2.1 d.2.2.2.2.2.2.1.2.2.2.1 d.2.2.2.2.2.2.2.1.2.1 d.2.2.2.2.2.2.2.1.2.2.1 d.2.2.2.2.2.2.2.1.2.2.2.1 : Option chartularylaw28_GossipAgrees.R)⟩]
  | _ => []
noncomputable def chartularylaw28_GossipAgrees.fd : FnD := ⟨Try.f7, chartularylaw28_GossipAgrees.ini, chartularylaw28_GossipAgrees.out, 1, [], [], chartularylaw28_GossipAgrees.labF, fun k (d : (List ByteArray × List Int × List Int × Unit) × (Unit)) => (chartularylaw28_GossipAgrees.f k d.1.1 d.1.2.1 d.1.2.2.1 : Option chartularylaw28_GossipAgrees.R), none, [(20, 1, 5003), (22, 1, 5003), (88888888, 0, 0)]⟩

noncomputable def Γ (k : Nat) : Gam := [(12, [mill_New.fd.sp k]), (15, [auditor_New.fd.sp k]), (14, [gossip_New_v0.fd.sp k, gossip_New_v1.fd.sp k]), (17, [gossip_Ring_Forks_v0.fd.sp k, gossip_Ring_Forks_v2.fd.sp k]), (9, [gossip_Compare.fd.sp k]), (37, [auditor_Auditor_none.fd.sp k]), (38, [slices_Clone_api_Point.fd.sp k]), (18, [auditor_Auditor_Points.fd.sp k]), (19, [gossip_Ring_Agree_v0.fd.sp k, gossip_Ring_Agree_v2.fd.sp k]), (39, [gossip_at_auditor_Auditor_v0.fd.sp k, gossip_at_auditor_Auditor_v1.fd.sp k, gossip_at_auditor_Auditor_v2.fd.sp k, gossip_at_auditor_Auditor_v3.fd.sp k, gossip_at_auditor_Auditor_v4.fd.sp k, gossip_at_auditor_Auditor_v5.fd.sp k]), (20, [gossip_Ring_Auditor_v0.fd.sp k, gossip_Ring_Auditor_v1.fd.sp k, gossip_Ring_Auditor_v3.fd.sp k, gossip_Ring_Auditor_v4.fd.sp k, gossip_Ring_Auditor_v5.fd.sp k, gossip_Ring_Auditor_v6.fd.sp k]), (39, [gossip_at_auditor_Auditor_v0.fd.sp k, gossip_at_auditor_Auditor_v1.fd.sp k, gossip_at_auditor_Auditor_v2.fd.sp k, gossip_at_auditor_Auditor_v3.fd.sp k, gossip_at_auditor_Auditor_v4.fd.sp k, gossip_at_auditor_Auditor_v5.fd.sp k]), (20, [gossip_Ring_Auditor_v0.fd.sp k, gossip_Ring_Auditor_v1.fd.sp k, gossip_Ring_Auditor_v3.fd.sp k, gossip_Ring_Auditor_v4.fd.sp k, gossip_Ring_Auditor_v5.fd.sp k, gossip_Ring_Auditor_v6.fd.sp k]), (21, [gossip_Ring_Hear_v0.fd.sp k, gossip_Ring_Hear_v10.fd.sp k, gossip_Ring_Hear_v2.fd.sp k, gossip_Ring_Hear_v3.fd.sp k, gossip_Ring_Hear_v4.fd.sp k, gossip_Ring_Hear_v5.fd.sp k, gossip_Ring_Hear_v6.fd.sp k, gossip_Ring_Hear_v7.fd.sp k, gossip_Ring_Hear_v8.fd.sp k, gossip_Ring_Hear_v9.fd.sp k]), (31, [merkle_sums.fd.sp k]), (58, [mill_Mill_none.fd.sp k]), (69, [sha_New.fd.sp k]), (80, [bits_RotateLeft32.fd.sp k]), (79, [sha_turn.fd.sp k]), (77, [sha_words.fd.sp k]), (78, [sha_rounds.fd.sp k]), (76, [sha_State_mix.fd.sp k]), (70, [sha_State_Write.fd.sp k]), (71, [sha_State_Sum.fd.sp k]), (60, [sha_Sum.fd.sp k]), (59, [mill_name.fd.sp k]), (61, [mill_Mill_note.fd.sp k]), (50, [mill_Mill_Sum.fd.sp k]), (32, [pledge_None.fd.sp k]), (48, [merkle_split.fd.sp k]), (49, [pledge_Node.fd.sp k]), (33, [merkle_both.fd.sp k]), (13, [merkle_Grown.fd.sp k]), (25, [auditor_Auditor_Last.fd.sp k]), (51, [auditor_Auditor_count.fd.sp k]), (55, [proof_sums.fd.sp k]), (43, [proof_RightGrowth.fd.sp k]), (62, [octet_Read.fd.sp k]), (73, [octet_Reader_Fail.fd.sp k]), (74, [octet_Reader_Err.fd.sp k]), (72, [octet_Reader_Raw.fd.sp k]), (63, [octet_Reader_Num.fd.sp k]), (64, [octet_Reader_Text.fd.sp k]), (65, [octet_Reader_Texts.fd.sp k]), (75, [octet_Reader_Left.fd.sp k]), (66, [octet_Reader_End.fd.sp k]), (52, [proof_ReadGrowth.fd.sp k]), (68, [auditor_Auditor_known_1_v0.fd.sp k]), (67, [slices_IndexFunc_api_Point_v0.fd.sp k]), (53, [auditor_Auditor_known.fd.sp k]), (35, [auditor_Auditor_Meet.fd.sp k]), (22, [gossip_Ring_Tell_v0.fd.sp k, gossip_Ring_Tell_v1.fd.sp k, gossip_Ring_Tell_v3.fd.sp k, gossip_Ring_Tell_v4.fd.sp k, gossip_Ring_Tell_v5.fd.sp k, gossip_Ring_Tell_v6.fd.sp k]), (22, [gossip_Ring_Tell_v0.fd.sp k, gossip_Ring_Tell_v1.fd.sp k, gossip_Ring_Tell_v3.fd.sp k, gossip_Ring_Tell_v4.fd.sp k, gossip_Ring_Tell_v5.fd.sp k, gossip_Ring_Tell_v6.fd.sp k]), (56, [octet_Num.fd.sp k]), (44, [octet_Writer_Num.fd.sp k]), (57, [octet_Text.fd.sp k]), (45, [octet_Writer_Text.fd.sp k]), (46, [octet_Writer_Texts.fd.sp k]), (47, [octet_Writer_All.fd.sp k]), (27, [proof_GrowthBytes.fd.sp k]), (29, [chartularylaw28_point.fd.sp k]), (30, [chartularylaw28_fill.fd.sp k]), (8, [chartularylaw28_awake.fd.sp k]), (14, [gossip_New_v0.fd.sp k, gossip_New_v1.fd.sp k]), (17, [gossip_Ring_Forks_v0.fd.sp k, gossip_Ring_Forks_v2.fd.sp k]), (19, [gossip_Ring_Agree_v0.fd.sp k, gossip_Ring_Agree_v2.fd.sp k]), (39, [gossip_at_auditor_Auditor_v0.fd.sp k, gossip_at_auditor_Auditor_v1.fd.sp k, gossip_at_auditor_Auditor_v2.fd.sp k, gossip_at_auditor_Auditor_v3.fd.sp k, gossip_at_auditor_Auditor_v4.fd.sp k, gossip_at_auditor_Auditor_v5.fd.sp k]), (20, [gossip_Ring_Auditor_v0.fd.sp k, gossip_Ring_Auditor_v1.fd.sp k, gossip_Ring_Auditor_v3.fd.sp k, gossip_Ring_Auditor_v4.fd.sp k, gossip_Ring_Auditor_v5.fd.sp k, gossip_Ring_Auditor_v6.fd.sp k]), (39, [gossip_at_auditor_Auditor_v0.fd.sp k, gossip_at_auditor_Auditor_v1.fd.sp k, gossip_at_auditor_Auditor_v2.fd.sp k, gossip_at_auditor_Auditor_v3.fd.sp k, gossip_at_auditor_Auditor_v4.fd.sp k, gossip_at_auditor_Auditor_v5.fd.sp k]), (20, [gossip_Ring_Auditor_v0.fd.sp k, gossip_Ring_Auditor_v1.fd.sp k, gossip_Ring_Auditor_v3.fd.sp k, gossip_Ring_Auditor_v4.fd.sp k, gossip_Ring_Auditor_v5.fd.sp k, gossip_Ring_Auditor_v6.fd.sp k]), (39, [gossip_at_auditor_Auditor_v0.fd.sp k, gossip_at_auditor_Auditor_v1.fd.sp k, gossip_at_auditor_Auditor_v2.fd.sp k, gossip_at_auditor_Auditor_v3.fd.sp k, gossip_at_auditor_Auditor_v4.fd.sp k, gossip_at_auditor_Auditor_v5.fd.sp k]), (20, [gossip_Ring_Auditor_v0.fd.sp k, gossip_Ring_Auditor_v1.fd.sp k, gossip_Ring_Auditor_v3.fd.sp k, gossip_Ring_Auditor_v4.fd.sp k, gossip_Ring_Auditor_v5.fd.sp k, gossip_Ring_Auditor_v6.fd.sp k]), (39, [gossip_at_auditor_Auditor_v0.fd.sp k, gossip_at_auditor_Auditor_v1.fd.sp k, gossip_at_auditor_Auditor_v2.fd.sp k, gossip_at_auditor_Auditor_v3.fd.sp k, gossip_at_auditor_Auditor_v4.fd.sp k, gossip_at_auditor_Auditor_v5.fd.sp k]), (20, [gossip_Ring_Auditor_v0.fd.sp k, gossip_Ring_Auditor_v1.fd.sp k, gossip_Ring_Auditor_v3.fd.sp k, gossip_Ring_Auditor_v4.fd.sp k, gossip_Ring_Auditor_v5.fd.sp k, gossip_Ring_Auditor_v6.fd.sp k]), (21, [gossip_Ring_Hear_v0.fd.sp k, gossip_Ring_Hear_v10.fd.sp k, gossip_Ring_Hear_v2.fd.sp k, gossip_Ring_Hear_v3.fd.sp k, gossip_Ring_Hear_v4.fd.sp k, gossip_Ring_Hear_v5.fd.sp k, gossip_Ring_Hear_v6.fd.sp k, gossip_Ring_Hear_v7.fd.sp k, gossip_Ring_Hear_v8.fd.sp k, gossip_Ring_Hear_v9.fd.sp k]), (21, [gossip_Ring_Hear_v0.fd.sp k, gossip_Ring_Hear_v10.fd.sp k, gossip_Ring_Hear_v2.fd.sp k, gossip_Ring_Hear_v3.fd.sp k, gossip_Ring_Hear_v4.fd.sp k, gossip_Ring_Hear_v5.fd.sp k, gossip_Ring_Hear_v6.fd.sp k, gossip_Ring_Hear_v7.fd.sp k, gossip_Ring_Hear_v8.fd.sp k, gossip_Ring_Hear_v9.fd.sp k]), (21, [gossip_Ring_Hear_v0.fd.sp k, gossip_Ring_Hear_v10.fd.sp k, gossip_Ring_Hear_v2.fd.sp k, gossip_Ring_Hear_v3.fd.sp k, gossip_Ring_Hear_v4.fd.sp k, gossip_Ring_Hear_v5.fd.sp k, gossip_Ring_Hear_v6.fd.sp k, gossip_Ring_Hear_v7.fd.sp k, gossip_Ring_Hear_v8.fd.sp k, gossip_Ring_Hear_v9.fd.sp k]), (21, [gossip_Ring_Hear_v0.fd.sp k, gossip_Ring_Hear_v10.fd.sp k, gossip_Ring_Hear_v2.fd.sp k, gossip_Ring_Hear_v3.fd.sp k, gossip_Ring_Hear_v4.fd.sp k, gossip_Ring_Hear_v5.fd.sp k, gossip_Ring_Hear_v6.fd.sp k, gossip_Ring_Hear_v7.fd.sp k, gossip_Ring_Hear_v8.fd.sp k, gossip_Ring_Hear_v9.fd.sp k]), (21, [gossip_Ring_Hear_v0.fd.sp k, gossip_Ring_Hear_v10.fd.sp k, gossip_Ring_Hear_v2.fd.sp k, gossip_Ring_Hear_v3.fd.sp k, gossip_Ring_Hear_v4.fd.sp k, gossip_Ring_Hear_v5.fd.sp k, gossip_Ring_Hear_v6.fd.sp k, gossip_Ring_Hear_v7.fd.sp k, gossip_Ring_Hear_v8.fd.sp k, gossip_Ring_Hear_v9.fd.sp k]), (21, [gossip_Ring_Hear_v0.fd.sp k, gossip_Ring_Hear_v10.fd.sp k, gossip_Ring_Hear_v2.fd.sp k, gossip_Ring_Hear_v3.fd.sp k, gossip_Ring_Hear_v4.fd.sp k, gossip_Ring_Hear_v5.fd.sp k, gossip_Ring_Hear_v6.fd.sp k, gossip_Ring_Hear_v7.fd.sp k, gossip_Ring_Hear_v8.fd.sp k, gossip_Ring_Hear_v9.fd.sp k]), (21, [gossip_Ring_Hear_v0.fd.sp k, gossip_Ring_Hear_v10.fd.sp k, gossip_Ring_Hear_v2.fd.sp k, gossip_Ring_Hear_v3.fd.sp k, gossip_Ring_Hear_v4.fd.sp k, gossip_Ring_Hear_v5.fd.sp k, gossip_Ring_Hear_v6.fd.sp k, gossip_Ring_Hear_v7.fd.sp k, gossip_Ring_Hear_v8.fd.sp k, gossip_Ring_Hear_v9.fd.sp k]), (21, [gossip_Ring_Hear_v0.fd.sp k, gossip_Ring_Hear_v10.fd.sp k, gossip_Ring_Hear_v2.fd.sp k, gossip_Ring_Hear_v3.fd.sp k, gossip_Ring_Hear_v4.fd.sp k, gossip_Ring_Hear_v5.fd.sp k, gossip_Ring_Hear_v6.fd.sp k, gossip_Ring_Hear_v7.fd.sp k, gossip_Ring_Hear_v8.fd.sp k, gossip_Ring_Hear_v9.fd.sp k]), (21, [gossip_Ring_Hear_v0.fd.sp k, gossip_Ring_Hear_v10.fd.sp k, gossip_Ring_Hear_v2.fd.sp k, gossip_Ring_Hear_v3.fd.sp k, gossip_Ring_Hear_v4.fd.sp k, gossip_Ring_Hear_v5.fd.sp k, gossip_Ring_Hear_v6.fd.sp k, gossip_Ring_Hear_v7.fd.sp k, gossip_Ring_Hear_v8.fd.sp k, gossip_Ring_Hear_v9.fd.sp k]), (22, [gossip_Ring_Tell_v0.fd.sp k, gossip_Ring_Tell_v1.fd.sp k, gossip_Ring_Tell_v3.fd.sp k, gossip_Ring_Tell_v4.fd.sp k, gossip_Ring_Tell_v5.fd.sp k, gossip_Ring_Tell_v6.fd.sp k]), (22, [gossip_Ring_Tell_v0.fd.sp k, gossip_Ring_Tell_v1.fd.sp k, gossip_Ring_Tell_v3.fd.sp k, gossip_Ring_Tell_v4.fd.sp k, gossip_Ring_Tell_v5.fd.sp k, gossip_Ring_Tell_v6.fd.sp k]), (22, [gossip_Ring_Tell_v0.fd.sp k, gossip_Ring_Tell_v1.fd.sp k, gossip_Ring_Tell_v3.fd.sp k, gossip_Ring_Tell_v4.fd.sp k, gossip_Ring_Tell_v5.fd.sp k, gossip_Ring_Tell_v6.fd.sp k]), (22, [gossip_Ring_Tell_v0.fd.sp k, gossip_Ring_Tell_v1.fd.sp k, gossip_Ring_Tell_v3.fd.sp k, gossip_Ring_Tell_v4.fd.sp k, gossip_Ring_Tell_v5.fd.sp k, gossip_Ring_Tell_v6.fd.sp k]), (41, [pledge_Leaf.fd.sp k]), (24, [chartularylaw07_Leaves.fd.sp k]), (28, [merkle_Root.fd.sp k]), (42, [merkle_grow.fd.sp k]), (26, [merkle_Growth.fd.sp k]), (7, [chartularylaw28_GossipAgrees.fd.sp k])]
end Go.Proofs.Ytfbpkpnnglhbcaa.E
