import Derived.Test.YtfbpkpnnglhbcaaEVal
import Derived.Test.YtfbpkpnnglhbcaaProg
namespace Go.Proofs.Ytfbpkpnnglhbcaa.E
open Go Go.Proofs.Ytfbpkpnnglhbcaa.Eng Go.Proofs
set_option linter.unusedVariables false
set_option maxRecDepth 100000
abbrev Ab0 := List ((Int × ByteArray × Unit) × (Int × ByteArray × Unit) × Unit)
abbrev Ac1 : Ty := .cons (.cons (.int .i64) (.cons .str .nil)) (.cons (.cons (.int .i64) (.cons .str .nil)) .nil)
abbrev Ab2 := (Unit × Unit × Ab0 × Unit) × (Unit × Unit × (ByteArray × ByteArray × Unit) × Bool × Bool × Int × Unit) × ((List (ByteArray × ByteArray)) × Unit) × ((List (ByteArray × ByteArray)) × Unit) × (Unit × (List (Int × ByteArray × Unit)) × Ab0 × Int × Unit) × (Unit × (List (Int × ByteArray × Unit)) × Ab0 × Int × Unit) × (Unit × (List (Int × ByteArray × Unit)) × Ab0 × Int × Unit) × Unit
abbrev Ac3 : Ty := .cons (.int .u32) (.cons (.int .u32) (.cons (.int .u32) (.cons (.int .u32) (.cons (.int .u32) (.cons (.int .u32) (.cons (.int .u32) (.cons (.int .u32) (.cons (.int .u32) (.cons (.int .u32) (.cons (.int .u32) (.cons (.int .u32) (.cons (.int .u32) (.cons (.int .u32) (.cons (.int .u32) (.cons (.int .u32) (.cons (.int .u32) (.cons (.int .u32) (.cons (.int .u32) (.cons (.int .u32) (.cons (.int .u32) (.cons (.int .u32) (.cons (.int .u32) (.cons (.int .u32) (.cons (.int .u32) (.cons (.int .u32) (.cons (.int .u32) (.cons (.int .u32) (.cons (.int .u32) (.cons (.int .u32) (.cons (.int .u32) (.cons (.int .u32) (.cons (.int .u32) (.cons (.int .u32) (.cons (.int .u32) (.cons (.int .u32) (.cons (.int .u32) (.cons (.int .u32) (.cons (.int .u32) (.cons (.int .u32) (.cons (.int .u32) (.cons (.int .u32) (.cons (.int .u32) (.cons (.int .u32) (.cons (.int .u32) (.cons (.int .u32) (.cons (.int .u32) (.cons (.int .u32) (.cons (.int .u32) (.cons (.int .u32) (.cons (.int .u32) (.cons (.int .u32) (.cons (.int .u32) (.cons (.int .u32) (.cons (.int .u32) (.cons (.int .u32) (.cons (.int .u32) (.cons (.int .u32) (.cons (.int .u32) (.cons (.int .u32) (.cons (.int .u32) (.cons (.int .u32) (.cons (.int .u32) (.cons (.int .u32) .nil)))))))))))))))))))))))))))))))))))))))))))))))))))))))))))))))
abbrev Ab4 := Int × ByteArray × Unit
abbrev Ab5 := List (ByteArray × ByteArray)
abbrev Ac6 : Ty := .cons (.int .i64) (.cons .str .nil)
abbrev Ab7 := Int × Int × Int × Int × Int × Int × Int × Int × Int × Int × Int × Int × Int × Int × Int × Int × Int × Int × Int × Int × Int × Int × Int × Int × Int × Int × Int × Int × Int × Int × Int × Int × Int × Int × Int × Int × Int × Int × Int × Int × Int × Int × Int × Int × Int × Int × Int × Int × Int × Int × Int × Int × Int × Int × Int × Int × Int × Int × Int × Int × Int × Int × Int × Int × Unit
abbrev Ab8 := Unit × Unit × (ByteArray × ByteArray × Unit) × Bool × Bool × Int × Unit
abbrev Ab9 := Unit × (List Ab4) × Ab0 × Int × Unit
abbrev Ac10 : Ty := .cons .str (.cons .str .nil)
abbrev Ac11 : Ty := .cons (.int .u32) (.cons (.int .u32) (.cons (.int .u32) (.cons (.int .u32) (.cons (.int .u32) (.cons (.int .u32) (.cons (.int .u32) (.cons (.int .u32) .nil)))))))
abbrev Ab12 := ByteArray × ByteArray × Unit
abbrev Ab13 := Int × Int × Int × Int × Int × Int × Int × Int × Unit
def tt : TT := [
  (3, ⟨1, 8, false, (.int .i64), [(.int .i64 0)], (.int .i64), false⟩),
  (4, ⟨1, 1, false, .bool, [(.bool false)], .bool, false⟩),
  (5, ⟨1, 1, false, (.int .u8), [(.int .u8 0)], (.int .u8), false⟩),
  (9, ⟨1, 16, false, .str, [(.str ByteArray.empty)], .str, false⟩),
  (22, ⟨1, 24, false, (.sl (.cons (.int .i64) (.cons .str .nil))), [.nils], (.slice 25), false⟩),
  (25, ⟨2, 24, true, (.cons (.int .i64) (.cons .str .nil)), [(.int .i64 0), (.str ByteArray.empty)], (.struct [(0, 3, 1), (1, 9, 1)]), true⟩),
  (27, ⟨4, 48, true, (.cons (.cons (.int .i64) (.cons .str .nil)) (.cons (.cons (.int .i64) (.cons .str .nil)) .nil)), [(.int .i64 0), (.str ByteArray.empty), (.int .i64 0), (.str ByteArray.empty)], (.struct [(0, 25, 2), (2, 25, 2)]), true⟩),
  (29, ⟨6, 64, true, (.cons (.cons (.cons (.int .i64) (.cons .str .nil)) (.cons (.cons (.int .i64) (.cons .str .nil)) .nil)) (.cons .bool (.cons (.int .i64) .nil))), [(.int .i64 0), (.str ByteArray.empty), (.int .i64 0), (.str ByteArray.empty), (.bool false), (.int .i64 0)], (.struct [(0, 27, 4), (4, 4, 1), (5, 3, 1)]), true⟩),
  (32, ⟨1, 24, false, (.sl .str), [.nils], (.slice 9), false⟩),
  (34, ⟨5, 72, true, (.cons (.cons (.int .i64) (.cons .str .nil)) (.cons (.cons (.int .i64) (.cons .str .nil)) (.cons (.sl .str) .nil))), [(.int .i64 0), (.str ByteArray.empty), (.int .i64 0), (.str ByteArray.empty), .nils], (.struct [(0, 25, 2), (2, 25, 2), (4, 32, 1)]), false⟩),
  (35, ⟨1, 8, false, (.int .i64), [(.int .i64 0)], (.int .i64), false⟩),
  (37, ⟨1, 8, false, .pt, [.nilp], (.ptr 80), false⟩),
  (42, ⟨1, 8, false, .pt, [.nilp], (.ptr 86), false⟩),
  (46, ⟨1, 24, false, .nil, [.nils], (.slice 50), false⟩),
  (47, ⟨1, 24, false, (.sl (.cons (.cons (.int .i64) (.cons .str .nil)) (.cons (.cons (.int .i64) (.cons .str .nil)) .nil))), [.nils], (.slice 27), false⟩),
  (50, ⟨1, 8, false, .pt, [.nilp], (.ptr 88), false⟩),
  (53, ⟨3, 48, true, (.cons (.cons (.int .i64) (.cons .str .nil)) (.cons (.sl .str) .nil)), [(.int .i64 0), (.str ByteArray.empty), .nils], (.struct [(0, 25, 2), (2, 32, 1)]), false⟩),
  (66, ⟨1, 24, false, (.sl (.int .i64)), [.nils], (.slice 3), false⟩),
  (77, ⟨1, 8, false, .nil, [.nilm], (.map 9 9), false⟩),
  (78, ⟨2, 32, true, (.cons .str (.cons .str .nil)), [(.str ByteArray.empty), (.str ByteArray.empty)], (.array 2 9), false⟩),
  (80, ⟨7, 64, true, .nil, [.nilm, .nilm, (.str ByteArray.empty), (.str ByteArray.empty), (.bool false), (.bool false), (.int .i64 0)], (.struct [(0, 77, 1), (1, 77, 1), (2, 78, 2), (4, 4, 1), (5, 4, 1), (6, 3, 1)]), false⟩),
  (86, ⟨3, 56, true, .nil, [.nilp, .nils, .nils], (.struct [(0, 37, 1), (1, 46, 1), (2, 47, 1)]), false⟩),
  (88, ⟨4, 64, true, .nil, [.nilp, .nils, .nils, (.int .i64 0)], (.struct [(0, 37, 1), (1, 22, 1), (2, 47, 1), (3, 3, 1)]), false⟩),
  (98, ⟨2, 24, true, (.cons .str (.cons .bool .nil)), [(.str ByteArray.empty), (.bool false)], (.struct [(0, 9, 1), (1, 4, 1)]), true⟩),
  (106, ⟨1, 24, false, (.sl (.int .u8)), [.nils], (.slice 5), false⟩),
  (116, ⟨1, 8, false, .pt, [.nilp], (.ptr 127), false⟩),
  (122, ⟨1, 8, false, (.int .u64), [(.int .u64 0)], (.int .u64), false⟩),
  (123, ⟨1, 8, false, .pt, [.nilp], (.ptr 134), false⟩),
  (127, ⟨3, 32, true, (.cons .str (.cons (.int .i64) (.cons (.int .i64) .nil))), [(.str ByteArray.empty), (.int .i64 0), (.int .i64 0)], (.struct [(0, 9, 1), (1, 3, 1), (2, 35, 1)]), true⟩),
  (130, ⟨1, 4, false, (.int .u32), [(.int .u32 0)], (.int .u32), false⟩),
  (131, ⟨8, 32, true, (.cons (.int .u32) (.cons (.int .u32) (.cons (.int .u32) (.cons (.int .u32) (.cons (.int .u32) (.cons (.int .u32) (.cons (.int .u32) (.cons (.int .u32) .nil)))))))), [(.int .u32 0), (.int .u32 0), (.int .u32 0), (.int .u32 0), (.int .u32 0), (.int .u32 0), (.int .u32 0), (.int .u32 0)], (.array 8 130), false⟩),
  (132, ⟨1, 8, false, (.int .u64), [(.int .u64 0)], (.int .u64), false⟩),
  (134, ⟨11, 64, true, (.cons (.cons (.int .u32) (.cons (.int .u32) (.cons (.int .u32) (.cons (.int .u32) (.cons (.int .u32) (.cons (.int .u32) (.cons (.int .u32) (.cons (.int .u32) .nil)))))))) (.cons .str (.cons (.int .u64) (.cons .bool .nil)))), [(.int .u32 0), (.int .u32 0), (.int .u32 0), (.int .u32 0), (.int .u32 0), (.int .u32 0), (.int .u32 0), (.int .u32 0), (.str ByteArray.empty), (.int .u64 0), (.bool false)], (.struct [(0, 131, 8), (8, 9, 1), (9, 132, 1), (10, 4, 1)]), false⟩),
  (135, ⟨64, 256, true, (.cons (.int .u32) (.cons (.int .u32) (.cons (.int .u32) (.cons (.int .u32) (.cons (.int .u32) (.cons (.int .u32) (.cons (.int .u32) (.cons (.int .u32) (.cons (.int .u32) (.cons (.int .u32) (.cons (.int .u32) (.cons (.int .u32) (.cons (.int .u32) (.cons (.int .u32) (.cons (.int .u32) (.cons (.int .u32) (.cons (.int .u32) (.cons (.int .u32) (.cons (.int .u32) (.cons (.int .u32) (.cons (.int .u32) (.cons (.int .u32) (.cons (.int .u32) (.cons (.int .u32) (.cons (.int .u32) (.cons (.int .u32) (.cons (.int .u32) (.cons (.int .u32) (.cons (.int .u32) (.cons (.int .u32) (.cons (.int .u32) (.cons (.int .u32) (.cons (.int .u32) (.cons (.int .u32) (.cons (.int .u32) (.cons (.int .u32) (.cons (.int .u32) (.cons (.int .u32) (.cons (.int .u32) (.cons (.int .u32) (.cons (.int .u32) (.cons (.int .u32) (.cons (.int .u32) (.cons (.int .u32) (.cons (.int .u32) (.cons (.int .u32) (.cons (.int .u32) (.cons (.int .u32) (.cons (.int .u32) (.cons (.int .u32) (.cons (.int .u32) (.cons (.int .u32) (.cons (.int .u32) (.cons (.int .u32) (.cons (.int .u32) (.cons (.int .u32) (.cons (.int .u32) (.cons (.int .u32) (.cons (.int .u32) (.cons (.int .u32) (.cons (.int .u32) (.cons (.int .u32) (.cons (.int .u32) (.cons (.int .u32) .nil)))))))))))))))))))))))))))))))))))))))))))))))))))))))))))))))), [(.int .u32 0), (.int .u32 0), (.int .u32 0), (.int .u32 0), (.int .u32 0), (.int .u32 0), (.int .u32 0), (.int .u32 0), (.int .u32 0), (.int .u32 0), (.int .u32 0), (.int .u32 0), (.int .u32 0), (.int .u32 0), (.int .u32 0), (.int .u32 0), (.int .u32 0), (.int .u32 0), (.int .u32 0), (.int .u32 0), (.int .u32 0), (.int .u32 0), (.int .u32 0), (.int .u32 0), (.int .u32 0), (.int .u32 0), (.int .u32 0), (.int .u32 0), (.int .u32 0), (.int .u32 0), (.int .u32 0), (.int .u32 0), (.int .u32 0), (.int .u32 0), (.int .u32 0), (.int .u32 0), (.int .u32 0), (.int .u32 0), (.int .u32 0), (.int .u32 0), (.int .u32 0), (.int .u32 0), (.int .u32 0), (.int .u32 0), (.int .u32 0), (.int .u32 0), (.int .u32 0), (.int .u32 0), (.int .u32 0), (.int .u32 0), (.int .u32 0), (.int .u32 0), (.int .u32 0), (.int .u32 0), (.int .u32 0), (.int .u32 0), (.int .u32 0), (.int .u32 0), (.int .u32 0), (.int .u32 0), (.int .u32 0), (.int .u32 0), (.int .u32 0), (.int .u32 0)], (.array 64 130), false⟩),
  (139, ⟨1, 24, false, (.sl (.int .u32)), [.nils], (.slice 130), false⟩)]
/-! ### mill_New : function 12 -/
abbrev mill_New.R := (Unit × Unit) × (Ab8 × (Ab5 × Unit) × (Ab5 × Unit) × Unit)
noncomputable def mill_New.f : Nat → Option mill_New.R
  | 0 => none
  | k + 1 =>
    some (((), ()), (((), (), (ByteArray.empty, (ByteArray.empty, ())), false, false, 0, ()), ([], ()), ([], ()), ()))
abbrev mill_New.ini : LSh := ⟨[], []⟩
abbrev mill_New.out : LSh := ⟨[(0, .ptr 4000000 0)], [(4000000, 80, [.mref 4001000, .mref 4001001, .val Ac10, .val .bool, .val .bool, .val (.int .i64)]), (4001000, 77, [.mapd]), (4001001, 77, [.mapd])]⟩
noncomputable def mill_New.labF : Nat → List (LabF mill_New.out.den)
  | _ => []
noncomputable def mill_New.fd : FnD := ⟨Try.f12, mill_New.ini, mill_New.out, 1, [], [], mill_New.labF, fun k (d : (Unit) × (Unit)) => (mill_New.f k : Option mill_New.R), none, []⟩

/-! ### auditor_New : function 15 -/
abbrev auditor_New.R := (Unit × Unit) × (Ab9 × Unit)
noncomputable def auditor_New.f : Nat → Ab12 → Bool → Bool → Int → Ab5 → Ab5 → Option auditor_New.R
  | 0, _, _, _, _, _, _ => none
  | k + 1, o0_2, o0_3, o0_4, o0_5, o1_0, o2_0 =>
    some (((), ()), (((), [], [], 0, ()), ()))
abbrev auditor_New.ini : LSh := ⟨[(0, .ptr 1000000 0)], [(1000000, 80, [.mref 1000001, .mref 1000002, .val Ac10, .val .bool, .val .bool, .val (.int .i64)]), (1000001, 77, [.mapd]), (1000002, 77, [.mapd])]⟩
abbrev auditor_New.out : LSh := ⟨[(0, .ptr 4000000 0)], [(4000000, 88, [.ptr 1000000 0, .own 3600001 25 Ac6, .own 3600002 27 Ac1, .val (.int .i64)])]⟩
noncomputable def auditor_New.labF : Nat → List (LabF auditor_New.out.den)
  | _ => []
noncomputable def auditor_New.fd : FnD := ⟨Try.f15, auditor_New.ini, auditor_New.out, 1, [1000000, 1000001, 1000002], [1000000, 1000001, 1000002], auditor_New.labF, fun k (d : (Unit × Unit) × (Ab8 × (Ab5 × Unit) × (Ab5 × Unit) × Unit)) => (auditor_New.f k d.2.1.2.2.1 d.2.1.2.2.2.1 d.2.1.2.2.2.2.1 d.2.1.2.2.2.2.2.1 d.2.2.1.1 d.2.2.2.1.1 : Option auditor_New.R), none, []⟩

/-! ### gossip_New_v0 : function 14 -/
abbrev gossip_New_v0.R := (Unit × Int × Unit) × ((Unit × Unit × Ab0 × Unit) × Ab9 × Ab9 × Unit)
mutual
noncomputable def gossip_New_v0.l0 : Nat → Ab12 → Bool → Bool → Int → Ab5 → Ab5 → Ab0 → Option gossip_New_v0.R
  | 0, _, _, _, _, _, _, _ => none
  | k + 1, o0_2, o0_3, o0_4, o0_5, o1_0, o2_0, o1000000_2 =>
    (auditor_New.f k o0_2 o0_3 o0_4 o0_5 o1_0 o2_0).bind fun r1 =>
    gossip_New_v0.l1 k o0_2 o0_3 o0_4 o0_5 o1_0 o2_0 o1000000_2 r1.2.1.2.1 r1.2.1.2.2.1 r1.2.1.2.2.2.1
noncomputable def gossip_New_v0.l1 : Nat → Ab12 → Bool → Bool → Int → Ab5 → Ab5 → Ab0 → (List Ab4) → Ab0 → Int → Option gossip_New_v0.R
  | 0, _, _, _, _, _, _, _, _, _, _ => none
  | k + 1, o0_2, o0_3, o0_4, o0_5, o1_0, o2_0, o1000000_2, o1000001_1, o1000001_2, o1000001_3 =>
    (auditor_New.f k o0_2 o0_3 o0_4 o0_5 o1_0 o2_0).bind fun r2 =>
    gossip_New_v0.l2 k o0_2 o0_3 o0_4 o0_5 o1_0 o2_0 o1000000_2 o1000001_1 o1000001_2 o1000001_3 r2.2.1.2.1 r2.2.1.2.2.1 r2.2.1.2.2.2.1
noncomputable def gossip_New_v0.l2 : Nat → Ab12 → Bool → Bool → Int → Ab5 → Ab5 → Ab0 → (List Ab4) → Ab0 → Int → (List Ab4) → Ab0 → Int → Option gossip_New_v0.R
  | 0, _, _, _, _, _, _, _, _, _, _, _, _, _ => none
  | k + 1, o0_2, o0_3, o0_4, o0_5, o1_0, o2_0, o1000000_2, o1000001_1, o1000001_2, o1000001_3, o1000002_1, o1000002_2, o1000002_3 =>
    some (((), 0, ()), (((), (), o1000000_2, ()), ((), o1000001_1, o1000001_2, o1000001_3, ()), ((), o1000002_1, o1000002_2, o1000002_3, ()), ()))
noncomputable def gossip_New_v0.f : Nat → Ab12 → Bool → Bool → Int → Ab5 → Ab5 → Option gossip_New_v0.R
  | 0, _, _, _, _, _, _ => none
  | k + 1, o0_2, o0_3, o0_4, o0_5, o1_0, o2_0 =>
    gossip_New_v0.l0 k o0_2 o0_3 o0_4 o0_5 o1_0 o2_0 []
end
abbrev gossip_New_v0.ini : LSh := ⟨[(0, .ptr 1000000 0), (1, .cst .i64 2)], [(1000000, 80, [.mref 1000001, .mref 1000002, .val Ac10, .val .bool, .val .bool, .val (.int .i64)]), (1000001, 77, [.mapd]), (1000002, 77, [.mapd])]⟩
abbrev gossip_New_v0.out : LSh := ⟨[(0, .ptr 4000000 0), (1, .val (.int .i64))], [(4000000, 86, [.ptr 1000000 0, .prow 3600001 50 [(4010000, 0), (4020000, 0)], .own 3600002 27 Ac1]), (4010000, 88, [.ptr 1000000 0, .own 3610001 25 Ac6, .own 3610002 27 Ac1, .val (.int .i64)]), (4020000, 88, [.ptr 1000000 0, .own 3620001 25 Ac6, .own 3620002 27 Ac1, .val (.int .i64)])]⟩
abbrev gossip_New_v0.l0s : LSh := ⟨[(0, .ptr 1000000 0), (6, .ptr 6000000 0), (20, .cst .i64 2), (21, .cst .i64 0)], [(1000000, 80, [.mref 1000001, .mref 1000002, .val Ac10, .val .bool, .val .bool, .val (.int .i64)]), (1000001, 77, [.mapd]), (1000002, 77, [.mapd]), (6000000, 86, [.ptr 1000000 0, .prow 3700301 50 [], .own 3700302 27 Ac1])]⟩
abbrev gossip_New_v0.l1s : LSh := ⟨[(0, .ptr 1000000 0), (6, .ptr 6000000 0), (20, .cst .i64 2), (21, .cst .i64 1)], [(1000000, 80, [.mref 1000001, .mref 1000002, .val Ac10, .val .bool, .val .bool, .val (.int .i64)]), (1000001, 77, [.mapd]), (1000002, 77, [.mapd]), (6000000, 86, [.ptr 1000000 0, .prow 3700301 50 [(6000001, 0)], .own 3700302 27 Ac1]), (6000001, 88, [.ptr 1000000 0, .own 3700401 25 Ac6, .own 3700402 27 Ac1, .val (.int .i64)])]⟩
abbrev gossip_New_v0.l2s : LSh := ⟨[(0, .ptr 1000000 0), (6, .ptr 6000000 0), (20, .cst .i64 2), (21, .cst .i64 2)], [(1000000, 80, [.mref 1000001, .mref 1000002, .val Ac10, .val .bool, .val .bool, .val (.int .i64)]), (1000001, 77, [.mapd]), (1000002, 77, [.mapd]), (6000000, 86, [.ptr 1000000 0, .prow 3700301 50 [(6000001, 0), (6000002, 0)], .own 3700302 27 Ac1]), (6000001, 88, [.ptr 1000000 0, .own 3700401 25 Ac6, .own 3700402 27 Ac1, .val (.int .i64)]), (6000002, 88, [.ptr 1000000 0, .own 3700501 25 Ac6, .own 3700502 27 Ac1, .val (.int .i64)])]⟩
noncomputable def gossip_New_v0.labF : Nat → List (LabF gossip_New_v0.out.den)
  | 10 => [⟨gossip_New_v0.l0s, fun k (d : (Unit × Unit × Unit × Unit × Unit) × (Ab8 × (Ab5 × Unit) × (Ab5 × Unit) × (Unit × Unit × Ab0 × Unit) × Unit)) => (gossip_New_v0.l0 k d.2.1.2.2.1 d.2.1.2.2.2.1 d.2.1.2.2.2.2.1 d.2.1.2.2.2.2.2.1 d.2.2.1.1 d.2.2.2.1.1 d.2.2.2.2.1.2.2.1 : Option gossip_New_v0.R)⟩, ⟨gossip_New_v0.l1s, fun k (d : (Unit × Unit × Unit × Unit × Unit) × (Ab8 × (Ab5 × Unit) × (Ab5 × Unit) × (Unit × Unit × Ab0 × Unit) × Ab9 × Unit)) => (gossip_New_v0.l1 k d.2.1.2.2.1 d.2.1.2.2.2.1 d.2.1.2.2.2.2.1 d.2.1.2.2.2.2.2.1 d.2.2.1.1 d.2.2.2.1.1 d.2.2.2.2.1.2.2.1 d.2.2.2.2.2.1.2.1 d.2.2.2.2.2.1.2.2.1 d.2.2.2.2.2.1.2.2.2.1 : Option gossip_New_v0.R)⟩, ⟨gossip_New_v0.l2s, fun k (d : (Unit × Unit × Unit × Unit × Unit) × (Ab8 × (Ab5 × Unit) × (Ab5 × Unit) × (Unit × Unit × Ab0 × Unit) × Ab9 × Ab9 × Unit)) => (gossip_New_v0.l2 k d.2.1.2.2.1 d.2.1.2.2.2.1 d.2.1.2.2.2.2.1 d.2.1.2.2.2.2.2.1 d.2.2.1.1 d.2.2.2.1.1 d.2.2.2.2.1.2.2.1 d.2.2.2.2.2.1.2.1 d.2.2.2.2.2.1.2.2.1 d.2.2.2.2.2.1.2.2.2.1 d.2.2.2.2.2.2.1.2.1 d.2.2.2.2.2.2.1.2.2.1 d.2.2.2.2.2.2.1.2.2.2.1 : Option gossip_New_v0.R)⟩]
  | _ => []
noncomputable def gossip_New_v0.fd : FnD := ⟨Try.f14, gossip_New_v0.ini, gossip_New_v0.out, 2, [1000000, 1000001, 1000002], [1000000, 1000001, 1000002], gossip_New_v0.labF, fun k (d : (Unit × Unit × Unit) × (Ab8 × (Ab5 × Unit) × (Ab5 × Unit) × Unit)) => (gossip_New_v0.f k d.2.1.2.2.1 d.2.1.2.2.2.1 d.2.1.2.2.2.2.1 d.2.1.2.2.2.2.2.1 d.2.2.1.1 d.2.2.2.1.1 : Option gossip_New_v0.R), none, [(88888888, 0, 0)]⟩

/-! ### gossip_Ring_Forks_v0 : function 17 -/
abbrev gossip_Ring_Forks_v0.R := (Ab0 × Unit) × (Unit)
noncomputable def gossip_Ring_Forks_v0.f : Nat → Ab0 → Ab12 → Bool → Bool → Int → Ab5 → Ab5 → (List Ab4) → Ab0 → Int → (List Ab4) → Ab0 → Int → Option gossip_Ring_Forks_v0.R
  | 0, _, _, _, _, _, _, _, _, _, _, _, _, _ => none
  | k + 1, o0_2, o1_2, o1_3, o1_4, o1_5, o2_0, o3_0, o4_1, o4_2, o4_3, o5_1, o5_2, o5_3 =>
    (ck (decide (o0_2.length * 48 ≤ 70368744177664))).bind fun _ =>
    some ((o0_2, ()), (()))
abbrev gossip_Ring_Forks_v0.ini : LSh := ⟨[(0, .ptr 1000000 0)], [(1000000, 86, [.ptr 1000001 0, .psl [(1000004, 0), (1000005, 0)], .val (.sl Ac1)]), (1000001, 80, [.mref 1000002, .mref 1000003, .val Ac10, .val .bool, .val .bool, .val (.int .i64)]), (1000002, 77, [.mapd]), (1000003, 77, [.mapd]), (1000004, 88, [.ptr 1000001 0, .val (.sl Ac6), .val (.sl Ac1), .val (.int .i64)]), (1000005, 88, [.ptr 1000001 0, .val (.sl Ac6), .val (.sl Ac1), .val (.int .i64)])]⟩
abbrev gossip_Ring_Forks_v0.out : LSh := ⟨[(0, .val (.sl Ac1))], []⟩
noncomputable def gossip_Ring_Forks_v0.labF : Nat → List (LabF gossip_Ring_Forks_v0.out.den)
  | _ => []
noncomputable def gossip_Ring_Forks_v0.fd : FnD := ⟨Try.f17, gossip_Ring_Forks_v0.ini, gossip_Ring_Forks_v0.out, 1, [1000000, 1000001, 1000002, 1000003, 1000004, 1000005], [1000000, 1000001, 1000002, 1000003, 1000004, 1000005], gossip_Ring_Forks_v0.labF, fun k (d : (Unit × Unit) × ((Unit × Unit × Ab0 × Unit) × Ab8 × (Ab5 × Unit) × (Ab5 × Unit) × Ab9 × Ab9 × Unit)) => (gossip_Ring_Forks_v0.f k d.2.1.2.2.1 d.2.2.1.2.2.1 d.2.2.1.2.2.2.1 d.2.2.1.2.2.2.2.1 d.2.2.1.2.2.2.2.2.1 d.2.2.2.1.1 d.2.2.2.2.1.1 d.2.2.2.2.2.1.2.1 d.2.2.2.2.2.1.2.2.1 d.2.2.2.2.2.1.2.2.2.1 d.2.2.2.2.2.2.1.2.1 d.2.2.2.2.2.2.1.2.2.1 d.2.2.2.2.2.2.1.2.2.2.1 : Option gossip_Ring_Forks_v0.R), none, []⟩

/-! ### gossip_Compare : function 9 -/
abbrev gossip_Compare.R := (((Ab4 × Ab4 × Unit) × Bool × Int × Unit) × Unit) × (Unit)
mutual
noncomputable def gossip_Compare.l0 : Nat → (List Ab4) → (List Ab4) → Int → Int → (Ab4 × Ab4 × Unit) → Bool → Int → (Ab4 × Ab4 × Unit) → Bool → Int → Option gossip_Compare.R
  | 0, _, _, _, _, _, _, _, _, _, _ => none
  | k + 1, x1, x10, x11, x12, o4_0, o4_1, o4_2, o5_0, o5_1, o5_2 =>
    bif decide ((x12 : Int) < x11) then
      (rdo x10 x12).bind fun t1 =>
      gossip_Compare.l1 k x1 x10 x11 x12 x1 (x1.length : Int) 0 o4_0 o4_1 o4_2 o5_0 o5_1 o5_2 t1.1 t1.2.1
    else
      some (((o5_0, (o5_1, (o5_2, ()))), ()), (()))
noncomputable def gossip_Compare.l1 : Nat → (List Ab4) → (List Ab4) → Int → Int → (List Ab4) → Int → Int → (Ab4 × Ab4 × Unit) → Bool → Int → (Ab4 × Ab4 × Unit) → Bool → Int → Int → ByteArray → Option gossip_Compare.R
  | 0, _, _, _, _, _, _, _, _, _, _, _, _, _, _, _ => none
  | k + 1, x1, x10, x11, x12, x16, x17, x18, o4_0, o4_1, o4_2, o5_0, o5_1, o5_2, o7_0, o7_1 =>
    bif decide ((x18 : Int) < x17) then
      (rdo x16 x18).bind fun t2 =>
      bif (o7_0 : Int) != t2.1 then
        gossip_Compare.l1 k x1 x10 x11 x12 x16 x17 (IntKind.wrap .i64 (x18 + 1)) o4_0 o4_1 o4_2 o5_0 o5_1 o5_2 o7_0 o7_1
      else
      bif o7_1.toList == t2.2.1.toList then
        gossip_Compare.l1 k x1 x10 x11 x12 x16 x17 (IntKind.wrap .i64 (x18 + 1)) o4_0 o4_1 o4_2 o5_0 o5_1 (IntKind.wrap .i64 (o5_2 + 1)) o7_0 o7_1
      else
      bif !o5_1 then
        gossip_Compare.l1 k x1 x10 x11 x12 x16 x17 (IntKind.wrap .i64 (x18 + 1)) o4_0 o4_1 o4_2 ((o7_0, (o7_1, ())), (t2, ())) true o5_2 o7_0 o7_1
      else
        gossip_Compare.l1 k x1 x10 x11 x12 x16 x17 (IntKind.wrap .i64 (x18 + 1)) o4_0 o4_1 o4_2 o5_0 o5_1 o5_2 o7_0 o7_1
    else
      gossip_Compare.l0 k x1 x10 x11 (IntKind.wrap .i64 (x12 + 1)) o4_0 o4_1 o4_2 o5_0 o5_1 o5_2
noncomputable def gossip_Compare.f : Nat → (List Ab4) → (List Ab4) → Option gossip_Compare.R
  | 0, _, _ => none
  | k + 1, x0, x1 =>
    gossip_Compare.l0 k x1 x0 (x0.length : Int) 0 ((0, (ByteArray.empty, ())), ((0, (ByteArray.empty, ())), ())) false 0 ((0, (ByteArray.empty, ())), ((0, (ByteArray.empty, ())), ())) false 0
end
abbrev gossip_Compare.ini : LSh := ⟨[(0, .val (.sl Ac6)), (1, .val (.sl Ac6))], []⟩
abbrev gossip_Compare.out : LSh := ⟨[(0, .val (.cons Ac1 (.cons .bool (.cons (.int .i64) .nil))))], []⟩
abbrev gossip_Compare.l0s : LSh := ⟨[(1, .val (.sl Ac6)), (4, .ptr 4 0), (5, .ptr 5 0), (10, .val (.sl Ac6)), (11, .val (.int .i64)), (12, .val (.int .i64))], [(4, 29, [.val Ac1, .val .bool, .val (.int .i64)]), (5, 29, [.val Ac1, .val .bool, .val (.int .i64)])]⟩
abbrev gossip_Compare.l1s : LSh := ⟨[(1, .val (.sl Ac6)), (4, .ptr 4 0), (5, .ptr 5 0), (7, .ptr 7 0), (10, .val (.sl Ac6)), (11, .val (.int .i64)), (12, .val (.int .i64)), (16, .val (.sl Ac6)), (17, .val (.int .i64)), (18, .val (.int .i64))], [(4, 29, [.val Ac1, .val .bool, .val (.int .i64)]), (5, 29, [.val Ac1, .val .bool, .val (.int .i64)]), (7, 25, [.val (.int .i64), .val .str])]⟩
noncomputable def gossip_Compare.labF : Nat → List (LabF gossip_Compare.out.den)
  | 6 => [⟨gossip_Compare.l0s, fun k (d : ((List Ab4) × Unit × Unit × (List Ab4) × Int × Int × Unit) × (((Ab4 × Ab4 × Unit) × Bool × Int × Unit) × ((Ab4 × Ab4 × Unit) × Bool × Int × Unit) × Unit)) => (gossip_Compare.l0 k d.1.1 d.1.2.2.2.1 d.1.2.2.2.2.1 d.1.2.2.2.2.2.1 d.2.1.1 d.2.1.2.1 d.2.1.2.2.1 d.2.2.1.1 d.2.2.1.2.1 d.2.2.1.2.2.1 : Option gossip_Compare.R)⟩]
  | 12 => [⟨gossip_Compare.l1s, fun k (d : ((List Ab4) × Unit × Unit × Unit × (List Ab4) × Int × Int × (List Ab4) × Int × Int × Unit) × (((Ab4 × Ab4 × Unit) × Bool × Int × Unit) × ((Ab4 × Ab4 × Unit) × Bool × Int × Unit) × Ab4 × Unit)) => (gossip_Compare.l1 k d.1.1 d.1.2.2.2.2.1 d.1.2.2.2.2.2.1 d.1.2.2.2.2.2.2.1 d.1.2.2.2.2.2.2.2.1 d.1.2.2.2.2.2.2.2.2.1 d.1.2.2.2.2.2.2.2.2.2.1 d.2.1.1 d.2.1.2.1 d.2.1.2.2.1 d.2.2.1.1 d.2.2.1.2.1 d.2.2.1.2.2.1 d.2.2.2.1.1 d.2.2.2.1.2.1 : Option gossip_Compare.R)⟩]
  | _ => []
noncomputable def gossip_Compare.fd : FnD := ⟨Try.f9, gossip_Compare.ini, gossip_Compare.out, 1, [], [], gossip_Compare.labF, fun k (d : ((List Ab4) × (List Ab4) × Unit) × (Unit)) => (gossip_Compare.f k d.1.1 d.1.2.1 : Option gossip_Compare.R), none, []⟩

/-! ### auditor_Auditor_none : function 37 -/
abbrev auditor_Auditor_none.R := (Bool × Unit) × (Unit)
noncomputable def auditor_Auditor_none.f : Nat → (List Ab4) → Ab0 → Int → Ab12 → Bool → Bool → Int → Ab5 → Ab5 → Option auditor_Auditor_none.R
  | 0, _, _, _, _, _, _, _, _, _ => none
  | k + 1, o0_1, o0_2, o0_3, o1_2, o1_3, o1_4, o1_5, o2_0, o3_0 =>
    some ((false, ()), (()))
abbrev auditor_Auditor_none.ini : LSh := ⟨[(0, .ptr 1000000 0)], [(1000000, 88, [.ptr 1000001 0, .val (.sl Ac6), .val (.sl Ac1), .val (.int .i64)]), (1000001, 80, [.mref 1000002, .mref 1000003, .val Ac10, .val .bool, .val .bool, .val (.int .i64)]), (1000002, 77, [.mapd]), (1000003, 77, [.mapd])]⟩
abbrev auditor_Auditor_none.out : LSh := ⟨[(0, .val .bool)], []⟩
noncomputable def auditor_Auditor_none.labF : Nat → List (LabF auditor_Auditor_none.out.den)
  | _ => []
noncomputable def auditor_Auditor_none.fd : FnD := ⟨Try.f37, auditor_Auditor_none.ini, auditor_Auditor_none.out, 1, [1000000, 1000001, 1000002, 1000003], [1000000, 1000001, 1000002, 1000003], auditor_Auditor_none.labF, fun k (d : (Unit × Unit) × (Ab9 × Ab8 × (Ab5 × Unit) × (Ab5 × Unit) × Unit)) => (auditor_Auditor_none.f k d.2.1.2.1 d.2.1.2.2.1 d.2.1.2.2.2.1 d.2.2.1.2.2.1 d.2.2.1.2.2.2.1 d.2.2.1.2.2.2.2.1 d.2.2.1.2.2.2.2.2.1 d.2.2.2.1.1 d.2.2.2.2.1.1 : Option auditor_Auditor_none.R), none, []⟩

/-! ### slices_Clone_api_Point : function 38 -/
abbrev slices_Clone_api_Point.R := ((List Ab4) × Unit) × (Unit)
noncomputable def slices_Clone_api_Point.f : Nat → (List Ab4) → Option slices_Clone_api_Point.R
  | 0, _ => none
  | k + 1, x0 =>
    bif nilE x0 then
      bothE (
        some ((([] : List Ab4), ()), (()))) (
        (ck (decide ((([] : List Ab4).length + x0.length) * 24 ≤ 70368744177664))).bind fun _ =>
        some ((([] : List Ab4) ++ x0, ()), (())))
    else
      (ck (decide ((([] : List Ab4).length + x0.length) * 24 ≤ 70368744177664))).bind fun _ =>
      some ((([] : List Ab4) ++ x0, ()), (()))
abbrev slices_Clone_api_Point.ini : LSh := ⟨[(0, .val (.sl Ac6))], []⟩
abbrev slices_Clone_api_Point.out : LSh := ⟨[(0, .val (.sl Ac6))], []⟩
noncomputable def slices_Clone_api_Point.labF : Nat → List (LabF slices_Clone_api_Point.out.den)
  | _ => []
noncomputable def slices_Clone_api_Point.fd : FnD := ⟨Try.f38, slices_Clone_api_Point.ini, slices_Clone_api_Point.out, 1, [], [], slices_Clone_api_Point.labF, fun k (d : ((List Ab4) × Unit) × (Unit)) => (slices_Clone_api_Point.f k d.1.1 : Option slices_Clone_api_Point.R), none, []⟩

/-! ### auditor_Auditor_Points : function 18 -/
abbrev auditor_Auditor_Points.R := ((List Ab4) × Unit) × (Unit)
noncomputable def auditor_Auditor_Points.f : Nat → (List Ab4) → Ab0 → Int → Ab12 → Bool → Bool → Int → Ab5 → Ab5 → Option auditor_Auditor_Points.R
  | 0, _, _, _, _, _, _, _, _, _ => none
  | k + 1, o0_1, o0_2, o0_3, o1_2, o1_3, o1_4, o1_5, o2_0, o3_0 =>
    (auditor_Auditor_none.f k o0_1 o0_2 o0_3 o1_2 o1_3 o1_4 o1_5 o2_0 o3_0).bind fun r1 =>
    bif r1.1.1 then
      some ((([] : List Ab4), ()), (()))
    else
      (slices_Clone_api_Point.f k o0_1).bind fun r2 =>
      some ((r2.1.1, ()), (()))
abbrev auditor_Auditor_Points.ini : LSh := ⟨[(0, .ptr 1000000 0)], [(1000000, 88, [.ptr 1000001 0, .val (.sl Ac6), .val (.sl Ac1), .val (.int .i64)]), (1000001, 80, [.mref 1000002, .mref 1000003, .val Ac10, .val .bool, .val .bool, .val (.int .i64)]), (1000002, 77, [.mapd]), (1000003, 77, [.mapd])]⟩
abbrev auditor_Auditor_Points.out : LSh := ⟨[(0, .val (.sl Ac6))], []⟩
noncomputable def auditor_Auditor_Points.labF : Nat → List (LabF auditor_Auditor_Points.out.den)
  | _ => []
noncomputable def auditor_Auditor_Points.fd : FnD := ⟨Try.f18, auditor_Auditor_Points.ini, auditor_Auditor_Points.out, 1, [1000000, 1000001, 1000002, 1000003], [1000000, 1000001, 1000002, 1000003], auditor_Auditor_Points.labF, fun k (d : (Unit × Unit) × (Ab9 × Ab8 × (Ab5 × Unit) × (Ab5 × Unit) × Unit)) => (auditor_Auditor_Points.f k d.2.1.2.1 d.2.1.2.2.1 d.2.1.2.2.2.1 d.2.2.1.2.2.1 d.2.2.1.2.2.2.1 d.2.2.1.2.2.2.2.1 d.2.2.1.2.2.2.2.2.1 d.2.2.2.1.1 d.2.2.2.2.1.1 : Option auditor_Auditor_Points.R), none, []⟩

/-! ### gossip_Ring_Agree_v0 : function 19 -/
abbrev gossip_Ring_Agree_v0.R := (Bool × Unit) × (Unit)
mutual
noncomputable def gossip_Ring_Agree_v0.l0 : Nat → Ab0 → Ab12 → Bool → Bool → Int → Ab5 → Ab5 → (List Ab4) → Ab0 → Int → (List Ab4) → Ab0 → Int → Option gossip_Ring_Agree_v0.R
  | 0, _, _, _, _, _, _, _, _, _, _, _, _, _ => none
  | k + 1, o0_2, o1_2, o1_3, o1_4, o1_5, o2_0, o3_0, o4_1, o4_2, o4_3, o5_1, o5_2, o5_3 =>
    gossip_Ring_Agree_v0.l1 k o0_2 o1_2 o1_3 o1_4 o1_5 o2_0 o3_0 o4_1 o4_2 o4_3 o5_1 o5_2 o5_3
noncomputable def gossip_Ring_Agree_v0.l1 : Nat → Ab0 → Ab12 → Bool → Bool → Int → Ab5 → Ab5 → (List Ab4) → Ab0 → Int → (List Ab4) → Ab0 → Int → Option gossip_Ring_Agree_v0.R
  | 0, _, _, _, _, _, _, _, _, _, _, _, _, _ => none
  | k + 1, o0_2, o1_2, o1_3, o1_4, o1_5, o2_0, o3_0, o4_1, o4_2, o4_3, o5_1, o5_2, o5_3 =>
    gossip_Ring_Agree_v0.l2 k o0_2 o1_2 o1_3 o1_4 o1_5 o2_0 o3_0 o4_1 o4_2 o4_3 o5_1 o5_2 o5_3
noncomputable def gossip_Ring_Agree_v0.l2 : Nat → Ab0 → Ab12 → Bool → Bool → Int → Ab5 → Ab5 → (List Ab4) → Ab0 → Int → (List Ab4) → Ab0 → Int → Option gossip_Ring_Agree_v0.R
  | 0, _, _, _, _, _, _, _, _, _, _, _, _, _ => none
  | k + 1, o0_2, o1_2, o1_3, o1_4, o1_5, o2_0, o3_0, o4_1, o4_2, o4_3, o5_1, o5_2, o5_3 =>
    gossip_Ring_Agree_v0.l3 k o0_2 o1_2 o1_3 o1_4 o1_5 o2_0 o3_0 o4_1 o4_2 o4_3 o5_1 o5_2 o5_3
noncomputable def gossip_Ring_Agree_v0.l3 : Nat → Ab0 → Ab12 → Bool → Bool → Int → Ab5 → Ab5 → (List Ab4) → Ab0 → Int → (List Ab4) → Ab0 → Int → Option gossip_Ring_Agree_v0.R
  | 0, _, _, _, _, _, _, _, _, _, _, _, _, _ => none
  | k + 1, o0_2, o1_2, o1_3, o1_4, o1_5, o2_0, o3_0, o4_1, o4_2, o4_3, o5_1, o5_2, o5_3 =>
    (auditor_Auditor_Points.f k o5_1 o5_2 o5_3 o1_2 o1_3 o1_4 o1_5 o2_0 o3_0).bind fun r1 =>
    (auditor_Auditor_Points.f k o4_1 o4_2 o4_3 o1_2 o1_3 o1_4 o1_5 o2_0 o3_0).bind fun r2 =>
    (gossip_Compare.f k r1.1.1 r2.1.1).bind fun r3 =>
    bif r3.1.1.2.1 then
      some ((false, ()), (()))
    else
      gossip_Ring_Agree_v0.l4 k o0_2 o1_2 o1_3 o1_4 o1_5 o2_0 o3_0 o4_1 o4_2 o4_3 o5_1 o5_2 o5_3
noncomputable def gossip_Ring_Agree_v0.l5 : Nat → Ab0 → Ab12 → Bool → Bool → Int → Ab5 → Ab5 → (List Ab4) → Ab0 → Int → (List Ab4) → Ab0 → Int → Option gossip_Ring_Agree_v0.R
  | 0, _, _, _, _, _, _, _, _, _, _, _, _, _ => none
  | k + 1, o0_2, o1_2, o1_3, o1_4, o1_5, o2_0, o3_0, o4_1, o4_2, o4_3, o5_1, o5_2, o5_3 =>
    some ((true, ()), (()))
noncomputable def gossip_Ring_Agree_v0.l4 : Nat → Ab0 → Ab12 → Bool → Bool → Int → Ab5 → Ab5 → (List Ab4) → Ab0 → Int → (List Ab4) → Ab0 → Int → Option gossip_Ring_Agree_v0.R
  | 0, _, _, _, _, _, _, _, _, _, _, _, _, _ => none
  | k + 1, o0_2, o1_2, o1_3, o1_4, o1_5, o2_0, o3_0, o4_1, o4_2, o4_3, o5_1, o5_2, o5_3 =>
    gossip_Ring_Agree_v0.l5 k o0_2 o1_2 o1_3 o1_4 o1_5 o2_0 o3_0 o4_1 o4_2 o4_3 o5_1 o5_2 o5_3
noncomputable def gossip_Ring_Agree_v0.f : Nat → Ab0 → Ab12 → Bool → Bool → Int → Ab5 → Ab5 → (List Ab4) → Ab0 → Int → (List Ab4) → Ab0 → Int → Option gossip_Ring_Agree_v0.R
  | 0, _, _, _, _, _, _, _, _, _, _, _, _, _ => none
  | k + 1, o0_2, o1_2, o1_3, o1_4, o1_5, o2_0, o3_0, o4_1, o4_2, o4_3, o5_1, o5_2, o5_3 =>
    gossip_Ring_Agree_v0.l0 k o0_2 o1_2 o1_3 o1_4 o1_5 o2_0 o3_0 o4_1 o4_2 o4_3 o5_1 o5_2 o5_3
end
abbrev gossip_Ring_Agree_v0.ini : LSh := ⟨[(0, .ptr 1000000 0)], [(1000000, 86, [.ptr 1000001 0, .psl [(1000004, 0), (1000005, 0)], .val (.sl Ac1)]), (1000001, 80, [.mref 1000002, .mref 1000003, .val Ac10, .val .bool, .val .bool, .val (.int .i64)]), (1000002, 77, [.mapd]), (1000003, 77, [.mapd]), (1000004, 88, [.ptr 1000001 0, .val (.sl Ac6), .val (.sl Ac1), .val (.int .i64)]), (1000005, 88, [.ptr 1000001 0, .val (.sl Ac6), .val (.sl Ac1), .val (.int .i64)])]⟩
abbrev gossip_Ring_Agree_v0.out : LSh := ⟨[(0, .val .bool)], []⟩
abbrev gossip_Ring_Agree_v0.l0s : LSh := ⟨[(0, .ptr 1000000 0), (12, .psl [(1000004, 0), (1000005, 0)]), (13, .cst .i64 2), (14, .cst .i64 0)], [(1000000, 86, [.ptr 1000001 0, .psl [(1000004, 0), (1000005, 0)], .val (.sl Ac1)]), (1000001, 80, [.mref 1000002, .mref 1000003, .val Ac10, .val .bool, .val .bool, .val (.int .i64)]), (1000002, 77, [.mapd]), (1000003, 77, [.mapd]), (1000004, 88, [.ptr 1000001 0, .val (.sl Ac6), .val (.sl Ac1), .val (.int .i64)]), (1000005, 88, [.ptr 1000001 0, .val (.sl Ac6), .val (.sl Ac1), .val (.int .i64)])]⟩
abbrev gossip_Ring_Agree_v0.l1s : LSh := ⟨[(0, .ptr 1000000 0), (4, .ptr 1000004 0), (12, .psl [(1000004, 0), (1000005, 0)]), (13, .cst .i64 2), (14, .cst .i64 0), (24, .psl []), (25, .cst .i64 0), (26, .cst .i64 0)], [(1000000, 86, [.ptr 1000001 0, .psl [(1000004, 0), (1000005, 0)], .val (.sl Ac1)]), (1000001, 80, [.mref 1000002, .mref 1000003, .val Ac10, .val .bool, .val .bool, .val (.int .i64)]), (1000002, 77, [.mapd]), (1000003, 77, [.mapd]), (1000004, 88, [.ptr 1000001 0, .val (.sl Ac6), .val (.sl Ac1), .val (.int .i64)]), (1000005, 88, [.ptr 1000001 0, .val (.sl Ac6), .val (.sl Ac1), .val (.int .i64)])]⟩
abbrev gossip_Ring_Agree_v0.l2s : LSh := ⟨[(0, .ptr 1000000 0), (12, .psl [(1000004, 0), (1000005, 0)]), (13, .cst .i64 2), (14, .cst .i64 1)], [(1000000, 86, [.ptr 1000001 0, .psl [(1000004, 0), (1000005, 0)], .val (.sl Ac1)]), (1000001, 80, [.mref 1000002, .mref 1000003, .val Ac10, .val .bool, .val .bool, .val (.int .i64)]), (1000002, 77, [.mapd]), (1000003, 77, [.mapd]), (1000004, 88, [.ptr 1000001 0, .val (.sl Ac6), .val (.sl Ac1), .val (.int .i64)]), (1000005, 88, [.ptr 1000001 0, .val (.sl Ac6), .val (.sl Ac1), .val (.int .i64)])]⟩
abbrev gossip_Ring_Agree_v0.l3s : LSh := ⟨[(0, .ptr 1000000 0), (4, .ptr 1000005 0), (12, .psl [(1000004, 0), (1000005, 0)]), (13, .cst .i64 2), (14, .cst .i64 1), (24, .psl [(1000004, 0)]), (25, .cst .i64 1), (26, .cst .i64 0)], [(1000000, 86, [.ptr 1000001 0, .psl [(1000004, 0), (1000005, 0)], .val (.sl Ac1)]), (1000001, 80, [.mref 1000002, .mref 1000003, .val Ac10, .val .bool, .val .bool, .val (.int .i64)]), (1000002, 77, [.mapd]), (1000003, 77, [.mapd]), (1000004, 88, [.ptr 1000001 0, .val (.sl Ac6), .val (.sl Ac1), .val (.int .i64)]), (1000005, 88, [.ptr 1000001 0, .val (.sl Ac6), .val (.sl Ac1), .val (.int .i64)])]⟩
abbrev gossip_Ring_Agree_v0.l5s : LSh := ⟨[(0, .ptr 1000000 0), (12, .psl [(1000004, 0), (1000005, 0)]), (13, .cst .i64 2), (14, .cst .i64 2)], [(1000000, 86, [.ptr 1000001 0, .psl [(1000004, 0), (1000005, 0)], .val (.sl Ac1)]), (1000001, 80, [.mref 1000002, .mref 1000003, .val Ac10, .val .bool, .val .bool, .val (.int .i64)]), (1000002, 77, [.mapd]), (1000003, 77, [.mapd]), (1000004, 88, [.ptr 1000001 0, .val (.sl Ac6), .val (.sl Ac1), .val (.int .i64)]), (1000005, 88, [.ptr 1000001 0, .val (.sl Ac6), .val (.sl Ac1), .val (.int .i64)])]⟩
abbrev gossip_Ring_Agree_v0.l4s : LSh := ⟨[(0, .ptr 1000000 0), (4, .ptr 1000005 0), (12, .psl [(1000004, 0), (1000005, 0)]), (13, .cst .i64 2), (14, .cst .i64 1), (24, .psl [(1000004, 0)]), (25, .cst .i64 1), (26, .cst .i64 1)], [(1000000, 86, [.ptr 1000001 0, .psl [(1000004, 0), (1000005, 0)], .val (.sl Ac1)]), (1000001, 80, [.mref 1000002, .mref 1000003, .val Ac10, .val .bool, .val .bool, .val (.int .i64)]), (1000002, 77, [.mapd]), (1000003, 77, [.mapd]), (1000004, 88, [.ptr 1000001 0, .val (.sl Ac6), .val (.sl Ac1), .val (.int .i64)]), (1000005, 88, [.ptr 1000001 0, .val (.sl Ac6), .val (.sl Ac1), .val (.int .i64)])]⟩
noncomputable def gossip_Ring_Agree_v0.labF : Nat → List (LabF gossip_Ring_Agree_v0.out.den)
  | 8 => [⟨gossip_Ring_Agree_v0.l0s, fun k (d : (Unit × Unit × Unit × Unit × Unit) × ((Unit × Unit × Ab0 × Unit) × Ab8 × (Ab5 × Unit) × (Ab5 × Unit) × Ab9 × Ab9 × Unit)) => (gossip_Ring_Agree_v0.l0 k d.2.1.2.2.1 d.2.2.1.2.2.1 d.2.2.1.2.2.2.1 d.2.2.1.2.2.2.2.1 d.2.2.1.2.2.2.2.2.1 d.2.2.2.1.1 d.2.2.2.2.1.1 d.2.2.2.2.2.1.2.1 d.2.2.2.2.2.1.2.2.1 d.2.2.2.2.2.1.2.2.2.1 d.2.2.2.2.2.2.1.2.1 d.2.2.2.2.2.2.1.2.2.1 d.2.2.2.2.2.2.1.2.2.2.1 : Option gossip_Ring_Agree_v0.R)⟩, ⟨gossip_Ring_Agree_v0.l2s, fun k (d : (Unit × Unit × Unit × Unit × Unit) × ((Unit × Unit × Ab0 × Unit) × Ab8 × (Ab5 × Unit) × (Ab5 × Unit) × Ab9 × Ab9 × Unit)) => (gossip_Ring_Agree_v0.l2 k d.2.1.2.2.1 d.2.2.1.2.2.1 d.2.2.1.2.2.2.1 d.2.2.1.2.2.2.2.1 d.2.2.1.2.2.2.2.2.1 d.2.2.2.1.1 d.2.2.2.2.1.1 d.2.2.2.2.2.1.2.1 d.2.2.2.2.2.1.2.2.1 d.2.2.2.2.2.1.2.2.2.1 d.2.2.2.2.2.2.1.2.1 d.2.2.2.2.2.2.1.2.2.1 d.2.2.2.2.2.2.1.2.2.2.1 : Option gossip_Ring_Agree_v0.R)⟩, ⟨gossip_Ring_Agree_v0.l5s, fun k (d : (Unit × Unit × Unit × Unit × Unit) × ((Unit × Unit × Ab0 × Unit) × Ab8 × (Ab5 × Unit) × (Ab5 × Unit) × Ab9 × Ab9 × Unit)) => (gossip_Ring_Agree_v0.l5 k d.2.1.2.2.1 d.2.2.1.2.2.1 d.2.2.1.2.2.2.1 d.2.2.1.2.2.2.2.1 d.2.2.1.2.2.2.2.2.1 d.2.2.2.1.1 d.2.2.2.2.1.1 d.2.2.2.2.2.1.2.1 d.2.2.2.2.2.1.2.2.1 d.2.2.2.2.2.1.2.2.2.1 d.2.2.2.2.2.2.1.2.1 d.2.2.2.2.2.2.1.2.2.1 d.2.2.2.2.2.2.1.2.2.2.1 : Option gossip_Ring_Agree_v0.R)⟩]
  | 14 => [⟨gossip_Ring_Agree_v0.l1s, fun k (d : (Unit × Unit × Unit × Unit × Unit × Unit × Unit × Unit × Unit) × ((Unit × Unit × Ab0 × Unit) × Ab8 × (Ab5 × Unit) × (Ab5 × Unit) × Ab9 × Ab9 × Unit)) => (gossip_Ring_Agree_v0.l1 k d.2.1.2.2.1 d.2.2.1.2.2.1 d.2.2.1.2.2.2.1 d.2.2.1.2.2.2.2.1 d.2.2.1.2.2.2.2.2.1 d.2.2.2.1.1 d.2.2.2.2.1.1 d.2.2.2.2.2.1.2.1 d.2.2.2.2.2.1.2.2.1 d.2.2.2.2.2.1.2.2.2.1 d.2.2.2.2.2.2.1.2.1 d.2.2.2.2.2.2.1.2.2.1 d.2.2.2.2.2.2.1.2.2.2.1 : Option gossip_Ring_Agree_v0.R)⟩, ⟨gossip_Ring_Agree_v0.l3s, fun k (d : (Unit × Unit × Unit × Unit × Unit × Unit × Unit × Unit × Unit) × ((Unit × Unit × Ab0 × Unit) × Ab8 × (Ab5 × Unit) × (Ab5 × Unit) × Ab9 × Ab9 × Unit)) => (gossip_Ring_Agree_v0.l3 k d.2.1.2.2.1 d.2.2.1.2.2.1 d.2.2.1.2.2.2.1 d.2.2.1.2.2.2.2.1 d.2.2.1.2.2.2.2.2.1 d.2.2.2.1.1 d.2.2.2.2.1.1 d.2.2.2.2.2.1.2.1 d.2.2.2.2.2.1.2.2.1 d.2.2.2.2.2.1.2.2.2.1 d.2.2.2.2.2.2.1.2.1 d.2.2.2.2.2.2.1.2.2.1 d.2.2.2.2.2.2.1.2.2.2.1 : Option gossip_Ring_Agree_v0.R)⟩, ⟨gossip_Ring_Agree_v0.l4s, fun k (d : (Unit × Unit × Unit × Unit × Unit × Unit × Unit × Unit × Unit) × ((Unit × Unit × Ab0 × Unit) × Ab8 × (Ab5 × Unit) × (Ab5 × Unit) × Ab9 × Ab9 × Unit)) => (gossip_Ring_Agree_v0.l4 k d.2.1.2.2.1 d.2.2.1.2.2.1 d.2.2.1.2.2.2.1 d.2.2.1.2.2.2.2.1 d.2.2.1.2.2.2.2.2.1 d.2.2.2.1.1 d.2.2.2.2.1.1 d.2.2.2.2.2.1.2.1 d.2.2.2.2.2.1.2.2.1 d.2.2.2.2.2.1.2.2.2.1 d.2.2.2.2.2.2.1.2.1 d.2.2.2.2.2.2.1.2.2.1 d.2.2.2.2.2.2.1.2.2.2.1 : Option gossip_Ring_Agree_v0.R)⟩]
  | _ => []
noncomputable def gossip_Ring_Agree_v0.fd : FnD := ⟨Try.f19, gossip_Ring_Agree_v0.ini, gossip_Ring_Agree_v0.out, 1, [1000000, 1000001, 1000002, 1000003, 1000004, 1000005], [1000000, 1000001, 1000002, 1000003, 1000004, 1000005], gossip_Ring_Agree_v0.labF, fun k (d : (Unit × Unit) × ((Unit × Unit × Ab0 × Unit) × Ab8 × (Ab5 × Unit) × (Ab5 × Unit) × Ab9 × Ab9 × Unit)) => (gossip_Ring_Agree_v0.f k d.2.1.2.2.1 d.2.2.1.2.2.1 d.2.2.1.2.2.2.1 d.2.2.1.2.2.2.2.1 d.2.2.1.2.2.2.2.2.1 d.2.2.2.1.1 d.2.2.2.2.1.1 d.2.2.2.2.2.1.2.1 d.2.2.2.2.2.1.2.2.1 d.2.2.2.2.2.1.2.2.2.1 d.2.2.2.2.2.2.1.2.1 d.2.2.2.2.2.2.1.2.2.1 d.2.2.2.2.2.2.1.2.2.2.1 : Option gossip_Ring_Agree_v0.R), none, [(88888888, 0, 0)]⟩

/-! ### gossip_at_auditor_Auditor_v0 : function 39 -/
abbrev gossip_at_auditor_Auditor_v0.R := (Unit × Unit) × (Unit)
noncomputable def gossip_at_auditor_Auditor_v0.f : Nat → (List Ab4) → Ab0 → Int → Ab12 → Bool → Bool → Int → Ab5 → Ab5 → (List Ab4) → Ab0 → Int → Option gossip_at_auditor_Auditor_v0.R
  | 0, _, _, _, _, _, _, _, _, _, _, _, _ => none
  | k + 1, o0_1, o0_2, o0_3, o1_2, o1_3, o1_4, o1_5, o2_0, o3_0, o4_1, o4_2, o4_3 =>
    some (((), ()), (()))
abbrev gossip_at_auditor_Auditor_v0.ini : LSh := ⟨[(0, .psl [(1000000, 0), (1000004, 0)]), (1, .cst .i64 0)], [(1000000, 88, [.ptr 1000001 0, .val (.sl Ac6), .val (.sl Ac1), .val (.int .i64)]), (1000001, 80, [.mref 1000002, .mref 1000003, .val Ac10, .val .bool, .val .bool, .val (.int .i64)]), (1000002, 77, [.mapd]), (1000003, 77, [.mapd]), (1000004, 88, [.ptr 1000001 0, .val (.sl Ac6), .val (.sl Ac1), .val (.int .i64)])]⟩
abbrev gossip_at_auditor_Auditor_v0.out : LSh := ⟨[(0, .ptr 1000000 0)], []⟩
noncomputable def gossip_at_auditor_Auditor_v0.labF : Nat → List (LabF gossip_at_auditor_Auditor_v0.out.den)
  | _ => []
noncomputable def gossip_at_auditor_Auditor_v0.fd : FnD := ⟨Try.f39, gossip_at_auditor_Auditor_v0.ini, gossip_at_auditor_Auditor_v0.out, 1, [1000000, 1000001, 1000002, 1000003, 1000004], [1000000, 1000001, 1000002, 1000003, 1000004], gossip_at_auditor_Auditor_v0.labF, fun k (d : (Unit × Unit × Unit) × (Ab9 × Ab8 × (Ab5 × Unit) × (Ab5 × Unit) × Ab9 × Unit)) => (gossip_at_auditor_Auditor_v0.f k d.2.1.2.1 d.2.1.2.2.1 d.2.1.2.2.2.1 d.2.2.1.2.2.1 d.2.2.1.2.2.2.1 d.2.2.1.2.2.2.2.1 d.2.2.1.2.2.2.2.2.1 d.2.2.2.1.1 d.2.2.2.2.1.1 d.2.2.2.2.2.1.2.1 d.2.2.2.2.2.1.2.2.1 d.2.2.2.2.2.1.2.2.2.1 : Option gossip_at_auditor_Auditor_v0.R), none, []⟩

/-! ### gossip_Ring_Auditor_v0 : function 20 -/
abbrev gossip_Ring_Auditor_v0.R := (Unit × Unit) × (Unit)
noncomputable def gossip_Ring_Auditor_v0.f : Nat → Ab0 → Ab12 → Bool → Bool → Int → Ab5 → Ab5 → (List Ab4) → Ab0 → Int → (List Ab4) → Ab0 → Int → Option gossip_Ring_Auditor_v0.R
  | 0, _, _, _, _, _, _, _, _, _, _, _, _, _ => none
  | k + 1, o0_2, o1_2, o1_3, o1_4, o1_5, o2_0, o3_0, o4_1, o4_2, o4_3, o5_1, o5_2, o5_3 =>
    (gossip_at_auditor_Auditor_v0.f k o4_1 o4_2 o4_3 o1_2 o1_3 o1_4 o1_5 o2_0 o3_0 o5_1 o5_2 o5_3).bind fun r1 =>
    some (((), ()), (()))
abbrev gossip_Ring_Auditor_v0.ini : LSh := ⟨[(0, .ptr 1000000 0), (1, .cst .i64 0)], [(1000000, 86, [.ptr 1000001 0, .psl [(1000004, 0), (1000005, 0)], .val (.sl Ac1)]), (1000001, 80, [.mref 1000002, .mref 1000003, .val Ac10, .val .bool, .val .bool, .val (.int .i64)]), (1000002, 77, [.mapd]), (1000003, 77, [.mapd]), (1000004, 88, [.ptr 1000001 0, .val (.sl Ac6), .val (.sl Ac1), .val (.int .i64)]), (1000005, 88, [.ptr 1000001 0, .val (.sl Ac6), .val (.sl Ac1), .val (.int .i64)])]⟩
abbrev gossip_Ring_Auditor_v0.out : LSh := ⟨[(0, .ptr 1000004 0)], []⟩
noncomputable def gossip_Ring_Auditor_v0.labF : Nat → List (LabF gossip_Ring_Auditor_v0.out.den)
  | _ => []
noncomputable def gossip_Ring_Auditor_v0.fd : FnD := ⟨Try.f20, gossip_Ring_Auditor_v0.ini, gossip_Ring_Auditor_v0.out, 1, [1000000, 1000001, 1000002, 1000003, 1000004, 1000005], [1000000, 1000001, 1000002, 1000003, 1000004, 1000005], gossip_Ring_Auditor_v0.labF, fun k (d : (Unit × Unit × Unit) × ((Unit × Unit × Ab0 × Unit) × Ab8 × (Ab5 × Unit) × (Ab5 × Unit) × Ab9 × Ab9 × Unit)) => (gossip_Ring_Auditor_v0.f k d.2.1.2.2.1 d.2.2.1.2.2.1 d.2.2.1.2.2.2.1 d.2.2.1.2.2.2.2.1 d.2.2.1.2.2.2.2.2.1 d.2.2.2.1.1 d.2.2.2.2.1.1 d.2.2.2.2.2.1.2.1 d.2.2.2.2.2.1.2.2.1 d.2.2.2.2.2.1.2.2.2.1 d.2.2.2.2.2.2.1.2.1 d.2.2.2.2.2.2.1.2.2.1 d.2.2.2.2.2.2.1.2.2.2.1 : Option gossip_Ring_Auditor_v0.R), none, [(88888888, 0, 0)]⟩

/-! ### gossip_at_auditor_Auditor_v1 : function 39 -/
abbrev gossip_at_auditor_Auditor_v1.R := (Unit × Unit) × (Unit)
noncomputable def gossip_at_auditor_Auditor_v1.f : Nat → (List Ab4) → Ab0 → Int → Ab12 → Bool → Bool → Int → Ab5 → Ab5 → (List Ab4) → Ab0 → Int → Option gossip_at_auditor_Auditor_v1.R
  | 0, _, _, _, _, _, _, _, _, _, _, _, _ => none
  | k + 1, o0_1, o0_2, o0_3, o1_2, o1_3, o1_4, o1_5, o2_0, o3_0, o4_1, o4_2, o4_3 =>
    some (((), ()), (()))
abbrev gossip_at_auditor_Auditor_v1.ini : LSh := ⟨[(0, .psl [(1000000, 0), (1000004, 0)]), (1, .cst .i64 1)], [(1000000, 88, [.ptr 1000001 0, .val (.sl Ac6), .val (.sl Ac1), .val (.int .i64)]), (1000001, 80, [.mref 1000002, .mref 1000003, .val Ac10, .val .bool, .val .bool, .val (.int .i64)]), (1000002, 77, [.mapd]), (1000003, 77, [.mapd]), (1000004, 88, [.ptr 1000001 0, .val (.sl Ac6), .val (.sl Ac1), .val (.int .i64)])]⟩
abbrev gossip_at_auditor_Auditor_v1.out : LSh := ⟨[(0, .ptr 1000004 0)], []⟩
noncomputable def gossip_at_auditor_Auditor_v1.labF : Nat → List (LabF gossip_at_auditor_Auditor_v1.out.den)
  | _ => []
noncomputable def gossip_at_auditor_Auditor_v1.fd : FnD := ⟨Try.f39, gossip_at_auditor_Auditor_v1.ini, gossip_at_auditor_Auditor_v1.out, 1, [1000000, 1000001, 1000002, 1000003, 1000004], [1000000, 1000001, 1000002, 1000003, 1000004], gossip_at_auditor_Auditor_v1.labF, fun k (d : (Unit × Unit × Unit) × (Ab9 × Ab8 × (Ab5 × Unit) × (Ab5 × Unit) × Ab9 × Unit)) => (gossip_at_auditor_Auditor_v1.f k d.2.1.2.1 d.2.1.2.2.1 d.2.1.2.2.2.1 d.2.2.1.2.2.1 d.2.2.1.2.2.2.1 d.2.2.1.2.2.2.2.1 d.2.2.1.2.2.2.2.2.1 d.2.2.2.1.1 d.2.2.2.2.1.1 d.2.2.2.2.2.1.2.1 d.2.2.2.2.2.1.2.2.1 d.2.2.2.2.2.1.2.2.2.1 : Option gossip_at_auditor_Auditor_v1.R), none, []⟩

/-! ### gossip_Ring_Auditor_v1 : function 20 -/
abbrev gossip_Ring_Auditor_v1.R := (Unit × Unit) × (Unit)
noncomputable def gossip_Ring_Auditor_v1.f : Nat → Ab0 → Ab12 → Bool → Bool → Int → Ab5 → Ab5 → (List Ab4) → Ab0 → Int → (List Ab4) → Ab0 → Int → Option gossip_Ring_Auditor_v1.R
  | 0, _, _, _, _, _, _, _, _, _, _, _, _, _ => none
  | k + 1, o0_2, o1_2, o1_3, o1_4, o1_5, o2_0, o3_0, o4_1, o4_2, o4_3, o5_1, o5_2, o5_3 =>
    (gossip_at_auditor_Auditor_v1.f k o4_1 o4_2 o4_3 o1_2 o1_3 o1_4 o1_5 o2_0 o3_0 o5_1 o5_2 o5_3).bind fun r1 =>
    some (((), ()), (()))
abbrev gossip_Ring_Auditor_v1.ini : LSh := ⟨[(0, .ptr 1000000 0), (1, .cst .i64 1)], [(1000000, 86, [.ptr 1000001 0, .psl [(1000004, 0), (1000005, 0)], .val (.sl Ac1)]), (1000001, 80, [.mref 1000002, .mref 1000003, .val Ac10, .val .bool, .val .bool, .val (.int .i64)]), (1000002, 77, [.mapd]), (1000003, 77, [.mapd]), (1000004, 88, [.ptr 1000001 0, .val (.sl Ac6), .val (.sl Ac1), .val (.int .i64)]), (1000005, 88, [.ptr 1000001 0, .val (.sl Ac6), .val (.sl Ac1), .val (.int .i64)])]⟩
abbrev gossip_Ring_Auditor_v1.out : LSh := ⟨[(0, .ptr 1000005 0)], []⟩
noncomputable def gossip_Ring_Auditor_v1.labF : Nat → List (LabF gossip_Ring_Auditor_v1.out.den)
  | _ => []
noncomputable def gossip_Ring_Auditor_v1.fd : FnD := ⟨Try.f20, gossip_Ring_Auditor_v1.ini, gossip_Ring_Auditor_v1.out, 1, [1000000, 1000001, 1000002, 1000003, 1000004, 1000005], [1000000, 1000001, 1000002, 1000003, 1000004, 1000005], gossip_Ring_Auditor_v1.labF, fun k (d : (Unit × Unit × Unit) × ((Unit × Unit × Ab0 × Unit) × Ab8 × (Ab5 × Unit) × (Ab5 × Unit) × Ab9 × Ab9 × Unit)) => (gossip_Ring_Auditor_v1.f k d.2.1.2.2.1 d.2.2.1.2.2.1 d.2.2.1.2.2.2.1 d.2.2.1.2.2.2.2.1 d.2.2.1.2.2.2.2.2.1 d.2.2.2.1.1 d.2.2.2.2.1.1 d.2.2.2.2.2.1.2.1 d.2.2.2.2.2.1.2.2.1 d.2.2.2.2.2.1.2.2.2.1 d.2.2.2.2.2.2.1.2.1 d.2.2.2.2.2.2.1.2.2.1 d.2.2.2.2.2.2.1.2.2.2.1 : Option gossip_Ring_Auditor_v1.R), none, [(88888888, 0, 0)]⟩

/-! ### gossip_Ring_Hear_v0 : function 21 -/
abbrev gossip_Ring_Hear_v0.R := (((Ab4 × Ab4 × Unit) × Bool × Int × Unit) × Int × Unit) × ((Unit × Unit × Ab0 × Unit) × Unit)
noncomputable def gossip_Ring_Hear_v0.f : Nat → Ab0 → Ab12 → Bool → Bool → Int → Ab5 → Ab5 → (List Ab4) → Ab0 → Int → (List Ab4) → Ab0 → Int → Option gossip_Ring_Hear_v0.R
  | 0, _, _, _, _, _, _, _, _, _, _, _, _, _ => none
  | k + 1, o0_2, o1_2, o1_3, o1_4, o1_5, o2_0, o3_0, o4_1, o4_2, o4_3, o5_1, o5_2, o5_3 =>
    (gossip_Ring_Auditor_v0.f k o0_2 o1_2 o1_3 o1_4 o1_5 o2_0 o3_0 o4_1 o4_2 o4_3 o5_1 o5_2 o5_3).bind fun r1 =>
    (gossip_Ring_Auditor_v1.f k o0_2 o1_2 o1_3 o1_4 o1_5 o2_0 o3_0 o4_1 o4_2 o4_3 o5_1 o5_2 o5_3).bind fun r2 =>
    (auditor_Auditor_Points.f k o4_1 o4_2 o4_3 o1_2 o1_3 o1_4 o1_5 o2_0 o3_0).bind fun r3 =>
    (auditor_Auditor_Points.f k o5_1 o5_2 o5_3 o1_2 o1_3 o1_4 o1_5 o2_0 o3_0).bind fun r4 =>
    (gossip_Compare.f k r3.1.1 r4.1.1).bind fun r5 =>
    bif r5.1.1.2.1 then
      (ck (decide ((o0_2.length + ([r5.1.1.1] : List (Ab4 × Ab4 × Unit)).length) * 48 ≤ 70368744177664))).bind fun _ =>
      some ((r5.1.1, 23, ()), (((), (), o0_2 ++ ([r5.1.1.1] : List (Ab4 × Ab4 × Unit)), ()), ()))
    else
      some ((r5.1.1, 0, ()), (((), (), o0_2, ()), ()))
abbrev gossip_Ring_Hear_v0.ini : LSh := ⟨[(0, .ptr 1000000 0), (1, .cst .i64 0), (2, .cst .i64 1)], [(1000000, 86, [.ptr 1000001 0, .psl [(1000004, 0), (1000005, 0)], .own 3000002 27 Ac1]), (1000001, 80, [.mref 1000002, .mref 1000003, .val Ac10, .val .bool, .val .bool, .val (.int .i64)]), (1000002, 77, [.mapd]), (1000003, 77, [.mapd]), (1000004, 88, [.ptr 1000001 0, .val (.sl Ac6), .val (.sl Ac1), .val (.int .i64)]), (1000005, 88, [.ptr 1000001 0, .val (.sl Ac6), .val (.sl Ac1), .val (.int .i64)])]⟩
abbrev gossip_Ring_Hear_v0.out : LSh := ⟨[(0, .val (.cons Ac1 (.cons .bool (.cons (.int .i64) .nil)))), (1, .val (.int .i64))], [(1000000, 86, [.ptr 1000001 0, .psl [(1000004, 0), (1000005, 0)], .own 3000002 27 Ac1])]⟩
noncomputable def gossip_Ring_Hear_v0.labF : Nat → List (LabF gossip_Ring_Hear_v0.out.den)
  | _ => []
noncomputable def gossip_Ring_Hear_v0.fd : FnD := ⟨Try.f21, gossip_Ring_Hear_v0.ini, gossip_Ring_Hear_v0.out, 2, [1000000, 1000001, 1000002, 1000003, 1000004, 1000005], [1000001, 1000002, 1000003, 1000004, 1000005], gossip_Ring_Hear_v0.labF, fun k (d : (Unit × Unit × Unit × Unit) × ((Unit × Unit × Ab0 × Unit) × Ab8 × (Ab5 × Unit) × (Ab5 × Unit) × Ab9 × Ab9 × Unit)) => (gossip_Ring_Hear_v0.f k d.2.1.2.2.1 d.2.2.1.2.2.1 d.2.2.1.2.2.2.1 d.2.2.1.2.2.2.2.1 d.2.2.1.2.2.2.2.2.1 d.2.2.2.1.1 d.2.2.2.2.1.1 d.2.2.2.2.2.1.2.1 d.2.2.2.2.2.1.2.2.1 d.2.2.2.2.2.1.2.2.2.1 d.2.2.2.2.2.2.1.2.1 d.2.2.2.2.2.2.1.2.2.1 d.2.2.2.2.2.2.1.2.2.2.1 : Option gossip_Ring_Hear_v0.R), none, [(88888888, 0, 0)]⟩

/-! ### merkle_sums : function 31 -/
abbrev merkle_sums.R := (Bool × Unit) × (Unit)
mutual
noncomputable def merkle_sums.l0 : Nat → (List ByteArray) → Int → Int → Option merkle_sums.R
  | 0, _, _, _ => none
  | k + 1, x5, x6, x7 =>
    bif decide ((x7 : Int) < x6) then
      (rdo x5 x7).bind fun t1 =>
      bif ((t1.size : Int) : Int) != 32 then
        some ((false, ()), (()))
      else
        merkle_sums.l0 k x5 x6 (IntKind.wrap .i64 (x7 + 1))
    else
      some ((true, ()), (()))
noncomputable def merkle_sums.f : Nat → (List ByteArray) → Option merkle_sums.R
  | 0, _ => none
  | k + 1, x0 =>
    merkle_sums.l0 k x0 (x0.length : Int) 0
end
abbrev merkle_sums.ini : LSh := ⟨[(0, .val (.sl .str))], []⟩
abbrev merkle_sums.out : LSh := ⟨[(0, .val .bool)], []⟩
abbrev merkle_sums.l0s : LSh := ⟨[(5, .val (.sl .str)), (6, .val (.int .i64)), (7, .val (.int .i64))], []⟩
noncomputable def merkle_sums.labF : Nat → List (LabF merkle_sums.out.den)
  | 4 => [⟨merkle_sums.l0s, fun k (d : (List ByteArray × Int × Int × Unit) × (Unit)) => (merkle_sums.l0 k d.1.1 d.1.2.1 d.1.2.2.1 : Option merkle_sums.R)⟩]
  | _ => []
noncomputable def merkle_sums.fd : FnD := ⟨Try.f31, merkle_sums.ini, merkle_sums.out, 1, [], [], merkle_sums.labF, fun k (d : (List ByteArray × Unit) × (Unit)) => (merkle_sums.f k d.1.1 : Option merkle_sums.R), none, []⟩

/-! ### mill_Mill_none : function 58 -/
abbrev mill_Mill_none.R := (Bool × Unit) × (Unit)
noncomputable def mill_Mill_none.f : Nat → Ab12 → Bool → Bool → Int → Ab5 → Ab5 → Option mill_Mill_none.R
  | 0, _, _, _, _, _, _ => none
  | k + 1, o0_2, o0_3, o0_4, o0_5, o1_0, o2_0 =>
    some ((false, ()), (()))
abbrev mill_Mill_none.ini : LSh := ⟨[(0, .ptr 1000000 0)], [(1000000, 80, [.mref 1000001, .mref 1000002, .val Ac10, .val .bool, .val .bool, .val (.int .i64)]), (1000001, 77, [.mapd]), (1000002, 77, [.mapd])]⟩
abbrev mill_Mill_none.out : LSh := ⟨[(0, .val .bool)], []⟩
noncomputable def mill_Mill_none.labF : Nat → List (LabF mill_Mill_none.out.den)
  | _ => []
noncomputable def mill_Mill_none.fd : FnD := ⟨Try.f58, mill_Mill_none.ini, mill_Mill_none.out, 1, [1000000, 1000001, 1000002], [1000000, 1000001, 1000002], mill_Mill_none.labF, fun k (d : (Unit × Unit) × (Ab8 × (Ab5 × Unit) × (Ab5 × Unit) × Unit)) => (mill_Mill_none.f k d.2.1.2.2.1 d.2.1.2.2.2.1 d.2.1.2.2.2.2.1 d.2.1.2.2.2.2.2.1 d.2.2.1.1 d.2.2.2.1.1 : Option mill_Mill_none.R), none, []⟩

/-! ### sha_New : function 69 -/
abbrev sha_New.R := (Unit × Unit) × ((Ab13 × ByteArray × Int × Bool × Unit) × Unit)
noncomputable def sha_New.f : Nat → Option sha_New.R
  | 0 => none
  | k + 1 =>
    some (((), ()), (((1779033703, (3144134277, (1013904242, (2773480762, (1359893119, (2600822924, (528734635, (1541459225, ())))))))), ByteArray.empty, 0, true, ()), ()))
abbrev sha_New.ini : LSh := ⟨[], []⟩
abbrev sha_New.out : LSh := ⟨[(0, .ptr 4000000 0)], [(4000000, 134, [.val Ac11, .val .str, .val (.int .u64), .val .bool])]⟩
noncomputable def sha_New.labF : Nat → List (LabF sha_New.out.den)
  | _ => []
noncomputable def sha_New.fd : FnD := ⟨Try.f69, sha_New.ini, sha_New.out, 1, [], [], sha_New.labF, fun k (d : (Unit) × (Unit)) => (sha_New.f k : Option sha_New.R), none, []⟩

/-! ### bits_RotateLeft32 : function 80 -/
abbrev bits_RotateLeft32.R := (Int × Unit) × (Unit)
noncomputable def bits_RotateLeft32.f : Nat → Int → Int → Option bits_RotateLeft32.R
  | 0, _, _ => none
  | k + 1, x0, x1 =>
    (ck (!decide ((IntKind.wrap .u64 ((BitVec.ofInt (IntKind.bits .u64) (IntKind.wrap .u64 x1) &&& BitVec.ofInt (IntKind.bits .u64) 31).toNat : Int) : Int) < 0))).bind fun _ =>
    (ck (!decide ((IntKind.wrap .u64 (32 - (IntKind.wrap .u64 ((BitVec.ofInt (IntKind.bits .u64) (IntKind.wrap .u64 x1) &&& BitVec.ofInt (IntKind.bits .u64) 31).toNat : Int))) : Int) < 0))).bind fun _ =>
    some ((IntKind.wrap .u32 ((BitVec.ofInt (IntKind.bits .u32) (IntKind.wrap .u32 (x0 * 2 ^ (min (IntKind.wrap .u64 ((BitVec.ofInt (IntKind.bits .u64) (IntKind.wrap .u64 x1) &&& BitVec.ofInt (IntKind.bits .u64) 31).toNat : Int) : Int).toNat (IntKind.bits .u32)))) ||| BitVec.ofInt (IntKind.bits .u32) (Int.fdiv x0 (2 ^ (min (IntKind.wrap .u64 (32 - (IntKind.wrap .u64 ((BitVec.ofInt (IntKind.bits .u64) (IntKind.wrap .u64 x1) &&& BitVec.ofInt (IntKind.bits .u64) 31).toNat : Int))) : Int).toNat (IntKind.bits .u32))))).toNat : Int), ()), (()))
abbrev bits_RotateLeft32.ini : LSh := ⟨[(0, .val (.int .u32)), (1, .val (.int .i64))], []⟩
abbrev bits_RotateLeft32.out : LSh := ⟨[(0, .val (.int .u32))], []⟩
noncomputable def bits_RotateLeft32.labF : Nat → List (LabF bits_RotateLeft32.out.den)
  | _ => []
noncomputable def bits_RotateLeft32.fd : FnD := ⟨Try.f80, bits_RotateLeft32.ini, bits_RotateLeft32.out, 1, [], [], bits_RotateLeft32.labF, fun k (d : (Int × Int × Unit) × (Unit)) => (bits_RotateLeft32.f k d.1.1 d.1.2.1 : Option bits_RotateLeft32.R), none, []⟩

/-! ### sha_turn : function 79 -/
abbrev sha_turn.R := (Int × Unit) × (Unit)
noncomputable def sha_turn.f : Nat → Int → Int → Option sha_turn.R
  | 0, _, _ => none
  | k + 1, x0, x1 =>
    (bits_RotateLeft32.f k x0 (IntKind.wrap .i64 (0 - x1))).bind fun r1 =>
    some ((r1.1.1, ()), (()))
abbrev sha_turn.ini : LSh := ⟨[(0, .val (.int .u32)), (1, .val (.int .i64))], []⟩
abbrev sha_turn.out : LSh := ⟨[(0, .val (.int .u32))], []⟩
noncomputable def sha_turn.labF : Nat → List (LabF sha_turn.out.den)
  | _ => []
noncomputable def sha_turn.fd : FnD := ⟨Try.f79, sha_turn.ini, sha_turn.out, 1, [], [], sha_turn.labF, fun k (d : (Int × Int × Unit) × (Unit)) => (sha_turn.f k d.1.1 d.1.2.1 : Option sha_turn.R), none, []⟩

/-! ### sha_words : function 77 -/
abbrev sha_words.R := (Ab7 × Unit) × (Unit)
mutual
noncomputable def sha_words.l0 : Nat → ByteArray → Int → Ab7 → Ab7 → Option sha_words.R
  | 0, _, _, _, _ => none
  | k + 1, x0, x8, o2_0, o3_0 =>
    bif decide ((x8 : Int) < 16) then
      (bto x0 (IntKind.wrap .i64 (4 * x8))).bind fun t1 =>
      (ck (!decide ((24 : Int) < 0))).bind fun _ =>
      (bto x0 (IntKind.wrap .i64 ((IntKind.wrap .i64 (4 * x8)) + 1))).bind fun t2 =>
      (ck (!decide ((16 : Int) < 0))).bind fun _ =>
      (bto x0 (IntKind.wrap .i64 ((IntKind.wrap .i64 (4 * x8)) + 2))).bind fun t3 =>
      (ck (!decide ((8 : Int) < 0))).bind fun _ =>
      (bto x0 (IntKind.wrap .i64 ((IntKind.wrap .i64 (4 * x8)) + 3))).bind fun t4 =>
      (ck (decide (0 ≤ x8) && decide (x8 < (64 : Int)))).bind fun _ =>
      let y5 : Int := IntKind.wrap .u32 ((BitVec.ofInt (IntKind.bits .u32) (IntKind.wrap .u32 ((BitVec.ofInt (IntKind.bits .u32) (IntKind.wrap .u32 ((BitVec.ofInt (IntKind.bits .u32) (IntKind.wrap .u32 (IntKind.wrap .u32 t1 * 2 ^ (min (24 : Int).toNat (IntKind.bits .u32)))) ||| BitVec.ofInt (IntKind.bits .u32) (IntKind.wrap .u32 (IntKind.wrap .u32 t2 * 2 ^ (min (16 : Int).toNat (IntKind.bits .u32))))).toNat : Int)) ||| BitVec.ofInt (IntKind.bits .u32) (IntKind.wrap .u32 (IntKind.wrap .u32 t3 * 2 ^ (min (8 : Int).toNat (IntKind.bits .u32))))).toNat : Int)) ||| BitVec.ofInt (IntKind.bits .u32) (IntKind.wrap .u32 t4)).toNat : Int)
      sha_words.l0 k x0 (IntKind.wrap .i64 (x8 + 1)) o2_0 ((bif (x8 : Int) == 0 then y5 else o3_0.1), ((bif (x8 : Int) == 1 then y5 else o3_0.2.1), ((bif (x8 : Int) == 2 then y5 else o3_0.2.2.1), ((bif (x8 : Int) == 3 then y5 else o3_0.2.2.2.1), ((bif (x8 : Int) == 4 then y5 else o3_0.2.2.2.2.1), ((bif (x8 : Int) == 5 then y5 else o3_0.2.2.2.2.2.1), ((bif (x8 : Int) == 6 then y5 else o3_0.2.2.2.2.2.2.1), ((bif (x8 : Int) == 7 then y5 else o3_0.2.2.2.2.2.2.2.1), ((bif (x8 : Int) == 8 then y5 else o3_0.2.2.2.2.2.2.2.2.1), ((bif (x8 : Int) == 9 then y5 else o3_0.2.2.2.2.2.2.2.2.2.1), ((bif (x8 : Int) == 10 then y5 else o3_0.2.2.2.2.2.2.2.2.2.2.1), ((bif (x8 : Int) == 11 then y5 else o3_0.2.2.2.2.2.2.2.2.2.2.2.1), ((bif (x8 : Int) == 12 then y5 else o3_0.2.2.2.2.2.2.2.2.2.2.2.2.1), ((bif (x8 : Int) == 13 then y5 else o3_0.2.2.2.2.2.2.2.2.2.2.2.2.2.1), ((bif (x8 : Int) == 14 then y5 else o3_0.2.2.2.2.2.2.2.2.2.2.2.2.2.2.1), ((bif (x8 : Int) == 15 then y5 else o3_0.2.2.2.2.2.2.2.2.2.2.2.2.2.2.2.1), ((bif (x8 : Int) == 16 then y5 else o3_0.2.2.2.2.2.2.2.2.2.2.2.2.2.2.2.2.1), ((bif (x8 : Int) == 17 then y5 else o3_0.2.2.2.2.2.2.2.2.2.2.2.2.2.2.2.2.2.1), ((bif (x8 : Int) == 18 then y5 else o3_0.2.2.2.2.2.2.2.2.2.2.2.2.2.2.2.2.2.2.1), ((bif (x8 : Int) == 19 then y5 else o3_0.2.2.2.2.2.2.2.2.2.2.2.2.2.2.2.2.2.2.2.1), ((bif (x8 : Int) == 20 then y5 else o3_0.2.2.2.2.2.2.2.2.2.2.2.2.2.2.2.2.2.2.2.2.1), ((bif (x8 : Int) == 21 then y5 else o3_0.2.2.2.2.2.2.2.2.2.2.2.2.2.2.2.2.2.2.2.2.2.1), ((bif (x8 : Int) == 22 then y5 else o3_0.2.2.2.2.2.2.2.2.2.2.2.2.2.2.2.2.2.2.2.2.2.2.1), ((bif (x8 : Int) == 23 then y5 else o3_0.2.2.2.2.2.2.2.2.2.2.2.2.2.2.2.2.2.2.2.2.2.2.2.1), ((bif (x8 : Int) == 24 then y5 else o3_0.2.2.2.2.2.2.2.2.2.2.2.2.2.2.2.2.2.2.2.2.2.2.2.2.1), ((bif (x8 : Int) == 25 then y5 else o3_0.2.2.2.2.2.2.2.2.2.2.2.2.2.2.2.2.2.2.2.2.2.2.2.2.2.1), ((bif (x8 : Int) == 26 then y5 else o3_0.2.2.2.2.2.2.2.2.2.2.2.2.2.2.2.2.2.2.2.2.2.2.2.2.2.2.1), ((bif (x8 : Int) == 27 then y5 else o3_0.2.2.2.2.2.2.2.2.2.2.2.2.2.2.2.2.2.2.2.2.2.2.2.2.2.2.2.1), ((bif (x8 : Int) == 28 then y5 else o3_0.2.2.2.2.2.2.2.2.2.2.2.2.2.2.2.2.2.2.2.2.2.2.2.2.2.2.2.2.1), ((bif (x8 : Int) == 29 then y5 else o3_0.2.2.2.2.2.2.2.2.2.2.2.2.2.2.2.2.2.2.2.2.2.2.2.2.2.2.2.2.2.1), ((bif (x8 : Int) == 30 then y5 else o3_0.2.2.2.2.2.2.2.2.2.2.2.2.2.2.2.2.2.2.2.2.2.2.2.2.2.2.2.2.2.2.1), ((bif (x8 : Int) == 31 then y5 else o3_0.2.2.2.2.2.2.2.2.2.2.2.2.2.2.2.2.2.2.2.2.2.2.2.2.2.2.2.2.2.2.2.1), ((bif (x8 : Int) == 32 then y5 else o3_0.2.2.2.2.2.2.2.2.2.2.2.2.2.2.2.2.2.2.2.2.2.2.2.2.2.2.2.2.2.2.2.2.1), ((bif (x8 : Int) == 33 then y5 else o3_0.2.2.2.2.2.2.2.2.2.2.2.2.2.2.2.2.2.2.2.2.2.2.2.2.2.2.2.2.2.2.2.2.2.1), ((bif (x8 : Int) == 34 then y5 else o3_0.2.2.2.2.2.2.2.2.2.2.2.2.2.2.2.2.2.2.2.2.2.2.2.2.2.2.2.2.2.2.2.2.2.2.1), ((bif (x8 : Int) == 35 then y5 else o3_0.2.2.2.2.2.2.2.2.2.2.2.2.2.2.2.2.2.2.2.2.2.2.2.2.2.2.2.2.2.2.2.2.2.2.2.1), ((bif (x8 : Int) == 36 then y5 else o3_0.2.2.2.2.2.2.2.2.2.2.2.2.2.2.2.2.2.2.2.2.2.2.2.2.2.2.2.2.2.2.2.2.2.2.2.2.1), ((bif (x8 : Int) == 37 then y5 else o3_0.2.2.2.2.2.2.2.2.2.2.2.2.2.2.2.2.2.2.2.2.2.2.2.2.2.2.2.2.2.2.2.2.2.2.2.2.2.1), ((bif (x8 : Int) == 38 then y5 else o3_0.2.2.2.2.2.2.2.2.2.2.2.2.2.2.2.2.2.2.2.2.2.2.2.2.2.2.2.2.2.2.2.2.2.2.2.2.2.2.1), ((bif (x8 : Int) == 39 then y5 else o3_0.2.2.2.2.2.2.2.2.2.2.2.2.2.2.2.2.2.2.2.2.2.2.2.2.2.2.2.2.2.2.2.2.2.2.2.2.2.2.2.1), ((bif (x8 : Int) == 40 then y5 else o3_0.2.2.2.2.2.2.2.2.2.2.2.2.2.2.2.2.2.2.2.2.2.2.2.2.2.2.2.2.2.2.2.2.2.2.2.2.2.2.2.2.1), ((bif (x8 : Int) == 41 then y5 else o3_0.2.2.2.2.2.2.2.2.2.2.2.2.2.2.2.2.2.2.2.2.2.2.2.2.2.2.2.2.2.2.2.2.2.2.2.2.2.2.2.2.2.1), ((bif (x8 : Int) == 42 then y5 else o3_0.2.2.2.2.2.2.2.2.2.2.2.2.2.2.2.2.2.2.2.2.2.2.2.2.2.2.2.2.2.2.2.2.2.2.2.2.2.2.2.2.2.2.1), ((bif (x8 : Int) == 43 then y5 else o3_0.2.2.2.2.2.2.2.2.2.2.2.2.2.2.2.2.2.2.2.2.2.2.2.2.2.2.2.2.2.2.2.2.2.2.2.2.2.2.2.2.2.2.2.1), ((bif (x8 : Int) == 44 then y5 else o3_0.2.2.2.2.2.2.2.2.2.2.2.2.2.2.2.2.2.2.2.2.2.2.2.2.2.2.2.2.2.2.2.2.2.2.2.2.2.2.2.2.2.2.2.2.1), ((bif (x8 : Int) == 45 then y5 else o3_0.2.2.2.2.2.2.2.2.2.2.2.2.2.2.2.2.2.2.2.2.2.2.2.2.2.2.2.2.2.2.2.2.2.2.2.2.2.2.2.2.2.2.2.2.2.1), ((bif (x8 : Int) == 46 then y5 else o3_0.2.2.2.2.2.2.2.2.2.2.2.2.2.2.2.2.2.2.2.2.2.2.2.2.2.2.2.2.2.2.2.2.2.2.2.2.2.2.2.2.2.2.2.2.2.2.1), ((bif (x8 : Int) == 47 then y5 else o3_0.2.2.2.2.2.2.2.2.2.2.2.2.2.2.2.2.2.2.2.2.2.2.2.2.2.2.2.2.2.2.2.2.2.2.2.2.2.2.2.2.2.2.2.2.2.2.2.1), ((bif (x8 : Int) == 48 then y5 else o3_0.2.2.2.2.2.2.2.2.2.2.2.2.2.2.2.2.2.2.2.2.2.2.2.2.2.2.2.2.2.2.2.2.2.2.2.2.2.2.2.2.2.2.2.2.2.2.2.2.1), ((bif (x8 : Int) == 49 then y5 else o3_0.2.2.2.2.2.2.2.2.2.2.2.2.2.2.2.2.2.2.2.2.2.2.2.2.2.2.2.2.2.2.2.2.2.2.2.2.2.2.2.2.2.2.2.2.2.2.2.2.2.1), ((bif (x8 : Int) == 50 then y5 else o3_0.2.2.2.2.2.2.2.2.2.2.2.2.2.2.2.2.2.2.2.2.2.2.2.2.2.2.2.2.2.2.2.2.2.2.2.2.2.2.2.2.2.2.2.2.2.2.2.2.2.2.1), ((bif (x8 : Int) == 51 then y5 else o3_0.2.2.2.2.2.2.2.2.2.2.2.2.2.2.2.2.2.2.2.2.2.2.2.2.2.2.2.2.2.2.2.2.2.2.2.2.2.2.2.2.2.2.2.2.2.2.2.2.2.2.2.1), ((bif (x8 : Int) == 52 then y5 else o3_0.2.2.2.2.2.2.2.2.2.2.2.2.2.2.2.2.2.2.2.2.2.2.2.2.2.2.2.2.2.2.2.2.2.2.2.2.2.2.2.2.2.2.2.2.2.2.2.2.2.2.2.2.1), ((bif (x8 : Int) == 53 then y5 else o3_0.2.2.2.2.2.2.2.2.2.2.2.2.2.2.2.2.2.2.2.2.2.2.2.2.2.2.2.2.2.2.2.2.2.2.2.2.2.2.2.2.2.2.2.2.2.2.2.2.2.2.2.2.2.1), ((bif (x8 : Int) == 54 then y5 else o3_0.2.2.2.2.2.2.2.2.2.2.2.2.2.2.2.2.2.2.2.2.2.2.2.2.2.2.2.2.2.2.2.2.2.2.2.2.2.2.2.2.2.2.2.2.2.2.2.2.2.2.2.2.2.2.1), ((bif (x8 : Int) == 55 then y5 else o3_0.2.2.2.2.2.2.2.2.2.2.2.2.2.2.2.2.2.2.2.2.2.2.2.2.2.2.2.2.2.2.2.2.2.2.2.2.2.2.2.2.2.2.2.2.2.2.2.2.2.2.2.2.2.2.2.1), ((bif (x8 : Int) == 56 then y5 else o3_0.2.2.2.2.2.2.2.2.2.2.2.2.2.2.2.2.2.2.2.2.2.2.2.2.2.2.2.2.2.2.2.2.2.2.2.2.2.2.2.2.2.2.2.2.2.2.2.2.2.2.2.2.2.2.2.2.1), ((bif (x8 : Int) == 57 then y5 else o3_0.2.2.2.2.2.2.2.2.2.2.2.2.2.2.2.2.2.2.2.2.2.2.2.2.2.2.2.2.2.2.2.2.2.2.2.2.2.2.2.2.2.2.2.2.2.2.2.2.2.2.2.2.2.2.2.2.2.1), ((bif (x8 : Int) == 58 then y5 else o3_0.2.2.2.2.2.2.2.2.2.2.2.2.2.2.2.2.2.2.2.2.2.2.2.2.2.2.2.2.2.2.2.2.2.2.2.2.2.2.2.2.2.2.2.2.2.2.2.2.2.2.2.2.2.2.2.2.2.2.1), ((bif (x8 : Int) == 59 then y5 else o3_0.2.2.2.2.2.2.2.2.2.2.2.2.2.2.2.2.2.2.2.2.2.2.2.2.2.2.2.2.2.2.2.2.2.2.2.2.2.2.2.2.2.2.2.2.2.2.2.2.2.2.2.2.2.2.2.2.2.2.2.1), ((bif (x8 : Int) == 60 then y5 else o3_0.2.2.2.2.2.2.2.2.2.2.2.2.2.2.2.2.2.2.2.2.2.2.2.2.2.2.2.2.2.2.2.2.2.2.2.2.2.2.2.2.2.2.2.2.2.2.2.2.2.2.2.2.2.2.2.2.2.2.2.2.1), ((bif (x8 : Int) == 61 then y5 else o3_0.2.2.2.2.2.2.2.2.2.2.2.2.2.2.2.2.2.2.2.2.2.2.2.2.2.2.2.2.2.2.2.2.2.2.2.2.2.2.2.2.2.2.2.2.2.2.2.2.2.2.2.2.2.2.2.2.2.2.2.2.2.1), ((bif (x8 : Int) == 62 then y5 else o3_0.2.2.2.2.2.2.2.2.2.2.2.2.2.2.2.2.2.2.2.2.2.2.2.2.2.2.2.2.2.2.2.2.2.2.2.2.2.2.2.2.2.2.2.2.2.2.2.2.2.2.2.2.2.2.2.2.2.2.2.2.2.2.1), ((bif (x8 : Int) == 63 then y5 else o3_0.2.2.2.2.2.2.2.2.2.2.2.2.2.2.2.2.2.2.2.2.2.2.2.2.2.2.2.2.2.2.2.2.2.2.2.2.2.2.2.2.2.2.2.2.2.2.2.2.2.2.2.2.2.2.2.2.2.2.2.2.2.2.2.1), ()))))))))))))))))))))))))))))))))))))))))))))))))))))))))))))))))
    else
      sha_words.l1 k 16 o2_0 o3_0
noncomputable def sha_words.l1 : Nat → Int → Ab7 → Ab7 → Option sha_words.R
  | 0, _, _, _ => none
  | k + 1, x5, o2_0, o3_0 =>
    bif decide ((x5 : Int) < 64) then
      (ck (decide (0 ≤ IntKind.wrap .i64 (x5 - 15)) && decide (IntKind.wrap .i64 (x5 - 15) < (64 : Int)))).bind fun _ =>
      (rdo ([o3_0.1, o3_0.2.1, o3_0.2.2.1, o3_0.2.2.2.1, o3_0.2.2.2.2.1, o3_0.2.2.2.2.2.1, o3_0.2.2.2.2.2.2.1, o3_0.2.2.2.2.2.2.2.1, o3_0.2.2.2.2.2.2.2.2.1, o3_0.2.2.2.2.2.2.2.2.2.1, o3_0.2.2.2.2.2.2.2.2.2.2.1, o3_0.2.2.2.2.2.2.2.2.2.2.2.1, o3_0.2.2.2.2.2.2.2.2.2.2.2.2.1, o3_0.2.2.2.2.2.2.2.2.2.2.2.2.2.1, o3_0.2.2.2.2.2.2.2.2.2.2.2.2.2.2.1, o3_0.2.2.2.2.2.2.2.2.2.2.2.2.2.2.2.1, o3_0.2.2.2.2.2.2.2.2.2.2.2.2.2.2.2.2.1, o3_0.2.2.2.2.2.2.2.2.2.2.2.2.2.2.2.2.2.1, o3_0.2.2.2.2.2.2.2.2.2.2.2.2.2.2.2.2.2.2.1, o3_0.2.2.2.2.2.2.2.2.2.2.2.2.2.2.2.2.2.2.2.1, o3_0.2.2.2.2.2.2.2.2.2.2.2.2.2.2.2.2.2.2.2.2.1, o3_0.2.2.2.2.2.2.2.2.2.2.2.2.2.2.2.2.2.2.2.2.2.1, o3_0.2.2.2.2.2.2.2.2.2.2.2.2.2.2.2.2.2.2.2.2.2.2.1, o3_0.2.2.2.2.2.2.2.2.2.2.2.2.2.2.2.2.2.2.2.2.2.2.2.1, o3_0.2.2.2.2.2.2.2.2.2.2.2.2.2.2.2.2.2.2.2.2.2.2.2.2.1, o3_0.2.2.2.2.2.2.2.2.2.2.2.2.2.2.2.2.2.2.2.2.2.2.2.2.2.1, o3_0.2.2.2.2.2.2.2.2.2.2.2.2.2.2.2.2.2.2.2.2.2.2.2.2.2.2.1, o3_0.2.2.2.2.2.2.2.2.2.2.2.2.2.2.2.2.2.2.2.2.2.2.2.2.2.2.2.1, o3_0.2.2.2.2.2.2.2.2.2.2.2.2.2.2.2.2.2.2.2.2.2.2.2.2.2.2.2.2.1, o3_0.2.2.2.2.2.2.2.2.2.2.2.2.2.2.2.2.2.2.2.2.2.2.2.2.2.2.2.2.2.1, o3_0.2.2.2.2.2.2.2.2.2.2.2.2.2.2.2.2.2.2.2.2.2.2.2.2.2.2.2.2.2.2.1, o3_0.2.2.2.2.2.2.2.2.2.2.2.2.2.2.2.2.2.2.2.2.2.2.2.2.2.2.2.2.2.2.2.1, o3_0.2.2.2.2.2.2.2.2.2.2.2.2.2.2.2.2.2.2.2.2.2.2.2.2.2.2.2.2.2.2.2.2.1, o3_0.2.2.2.2.2.2.2.2.2.2.2.2.2.2.2.2.2.2.2.2.2.2.2.2.2.2.2.2.2.2.2.2.2.1, o3_0.2.2.2.2.2.2.2.2.2.2.2.2.2.2.2.2.2.2.2.2.2.2.2.2.2.2.2.2.2.2.2.2.2.2.1, o3_0.2.2.2.2.2.2.2.2.2.2.2.2.2.2.2.2.2.2.2.2.2.2.2.2.2.2.2.2.2.2.2.2.2.2.2.1, o3_0.2.2.2.2.2.2.2.2.2.2.2.2.2.2.2.2.2.2.2.2.2.2.2.2.2.2.2.2.2.2.2.2.2.2.2.2.1, o3_0.2.2.2.2.2.2.2.2.2.2.2.2.2.2.2.2.2.2.2.2.2.2.2.2.2.2.2.2.2.2.2.2.2.2.2.2.2.1, o3_0.2.2.2.2.2.2.2.2.2.2.2.2.2.2.2.2.2.2.2.2.2.2.2.2.2.2.2.2.2.2.2.2.2.2.2.2.2.2.1, o3_0.2.2.2.2.2.2.2.2.2.2.2.2.2.2.2.2.2.2.2.2.2.2.2.2.2.2.2.2.2.2.2.2.2.2.2.2.2.2.2.1, o3_0.2.2.2.2.2.2.2.2.2.2.2.2.2.2.2.2.2.2.2.2.2.2.2.2.2.2.2.2.2.2.2.2.2.2.2.2.2.2.2.2.1, o3_0.2.2.2.2.2.2.2.2.2.2.2.2.2.2.2.2.2.2.2.2.2.2.2.2.2.2.2.2.2.2.2.2.2.2.2.2.2.2.2.2.2.1, o3_0.2.2.2.2.2.2.2.2.2.2.2.2.2.2.2.2.2.2.2.2.2.2.2.2.2.2.2.2.2.2.2.2.2.2.2.2.2.2.2.2.2.2.1, o3_0.2.2.2.2.2.2.2.2.2.2.2.2.2.2.2.2.2.2.2.2.2.2.2.2.2.2.2.2.2.2.2.2.2.2.2.2.2.2.2.2.2.2.2.1, o3_0.2.2.2.2.2.2.2.2.2.2.2.2.2.2.2.2.2.2.2.2.2.2.2.2.2.2.2.2.2.2.2.2.2.2.2.2.2.2.2.2.2.2.2.2.1, o3_0.2.2.2.2.2.2.2.2.2.2.2.2.2.2.2.2.2.2.2.2.2.2.2.2.2.2.2.2.2.2.2.2.2.2.2.2.2.2.2.2.2.2.2.2.2.1, o3_0.2.2.2.2.2.2.2.2.2.2.2.2.2.2.2.2.2.2.2.2.2.2.2.2.2.2.2.2.2.2.2.2.2.2.2.2.2.2.2.2.2.2.2.2.2.2.1, o3_0.2.2.2.2.2.2.2.2.2.2.2.2.2.2.2.2.2.2.2.2.2.2.2.2.2.2.2.2.2.2.2.2.2.2.2.2.2.2.2.2.2.2.2.2.2.2.2.1, o3_0.2.2.2.2.2.2.2.2.2.2.2.2.2.2.2.2.2.2.2.2.2.2.2.2.2.2.2.2.2.2.2.2.2.2.2.2.2.2.2.2.2.2.2.2.2.2.2.2.1, o3_0.2.2.2.2.2.2.2.2.2.2.2.2.2.2.2.2.2.2.2.2.2.2.2.2.2.2.2.2.2.2.2.2.2.2.2.2.2.2.2.2.2.2.2.2.2.2.2.2.2.1, o3_0.2.2.2.2.2.2.2.2.2.2.2.2.2.2.2.2.2.2.2.2.2.2.2.2.2.2.2.2.2.2.2.2.2.2.2.2.2.2.2.2.2.2.2.2.2.2.2.2.2.2.1, o3_0.2.2.2.2.2.2.2.2.2.2.2.2.2.2.2.2.2.2.2.2.2.2.2.2.2.2.2.2.2.2.2.2.2.2.2.2.2.2.2.2.2.2.2.2.2.2.2.2.2.2.2.1, o3_0.2.2.2.2.2.2.2.2.2.2.2.2.2.2.2.2.2.2.2.2.2.2.2.2.2.2.2.2.2.2.2.2.2.2.2.2.2.2.2.2.2.2.2.2.2.2.2.2.2.2.2.2.1, o3_0.2.2.2.2.2.2.2.2.2.2.2.2.2.2.2.2.2.2.2.2.2.2.2.2.2.2.2.2.2.2.2.2.2.2.2.2.2.2.2.2.2.2.2.2.2.2.2.2.2.2.2.2.2.1, o3_0.2.2.2.2.2.2.2.2.2.2.2.2.2.2.2.2.2.2.2.2.2.2.2.2.2.2.2.2.2.2.2.2.2.2.2.2.2.2.2.2.2.2.2.2.2.2.2.2.2.2.2.2.2.2.1, o3_0.2.2.2.2.2.2.2.2.2.2.2.2.2.2.2.2.2.2.2.2.2.2.2.2.2.2.2.2.2.2.2.2.2.2.2.2.2.2.2.2.2.2.2.2.2.2.2.2.2.2.2.2.2.2.2.1, o3_0.2.2.2.2.2.2.2.2.2.2.2.2.2.2.2.2.2.2.2.2.2.2.2.2.2.2.2.2.2.2.2.2.2.2.2.2.2.2.2.2.2.2.2.2.2.2.2.2.2.2.2.2.2.2.2.2.1, o3_0.2.2.2.2.2.2.2.2.2.2.2.2.2.2.2.2.2.2.2.2.2.2.2.2.2.2.2.2.2.2.2.2.2.2.2.2.2.2.2.2.2.2.2.2.2.2.2.2.2.2.2.2.2.2.2.2.2.1, o3_0.2.2.2.2.2.2.2.2.2.2.2.2.2.2.2.2.2.2.2.2.2.2.2.2.2.2.2.2.2.2.2.2.2.2.2.2.2.2.2.2.2.2.2.2.2.2.2.2.2.2.2.2.2.2.2.2.2.2.1, o3_0.2.2.2.2.2.2.2.2.2.2.2.2.2.2.2.2.2.2.2.2.2.2.2.2.2.2.2.2.2.2.2.2.2.2.2.2.2.2.2.2.2.2.2.2.2.2.2.2.2.2.2.2.2.2.2.2.2.2.2.1, o3_0.2.2.2.2.2.2.2.2.2.2.2.2.2.2.2.2.2.2.2.2.2.2.2.2.2.2.2.2.2.2.2.2.2.2.2.2.2.2.2.2.2.2.2.2.2.2.2.2.2.2.2.2.2.2.2.2.2.2.2.2.1, o3_0.2.2.2.2.2.2.2.2.2.2.2.2.2.2.2.2.2.2.2.2.2.2.2.2.2.2.2.2.2.2.2.2.2.2.2.2.2.2.2.2.2.2.2.2.2.2.2.2.2.2.2.2.2.2.2.2.2.2.2.2.2.1, o3_0.2.2.2.2.2.2.2.2.2.2.2.2.2.2.2.2.2.2.2.2.2.2.2.2.2.2.2.2.2.2.2.2.2.2.2.2.2.2.2.2.2.2.2.2.2.2.2.2.2.2.2.2.2.2.2.2.2.2.2.2.2.2.1, o3_0.2.2.2.2.2.2.2.2.2.2.2.2.2.2.2.2.2.2.2.2.2.2.2.2.2.2.2.2.2.2.2.2.2.2.2.2.2.2.2.2.2.2.2.2.2.2.2.2.2.2.2.2.2.2.2.2.2.2.2.2.2.2.2.1] : List Int) (IntKind.wrap .i64 (x5 - 15))).bind fun t6 =>
      (ck (decide (0 ≤ IntKind.wrap .i64 (x5 - 2)) && decide (IntKind.wrap .i64 (x5 - 2) < (64 : Int)))).bind fun _ =>
      (rdo ([o3_0.1, o3_0.2.1, o3_0.2.2.1, o3_0.2.2.2.1, o3_0.2.2.2.2.1, o3_0.2.2.2.2.2.1, o3_0.2.2.2.2.2.2.1, o3_0.2.2.2.2.2.2.2.1, o3_0.2.2.2.2.2.2.2.2.1, o3_0.2.2.2.2.2.2.2.2.2.1, o3_0.2.2.2.2.2.2.2.2.2.2.1, o3_0.2.2.2.2.2.2.2.2.2.2.2.1, o3_0.2.2.2.2.2.2.2.2.2.2.2.2.1, o3_0.2.2.2.2.2.2.2.2.2.2.2.2.2.1, o3_0.2.2.2.2.2.2.2.2.2.2.2.2.2.2.1, o3_0.2.2.2.2.2.2.2.2.2.2.2.2.2.2.2.1, o3_0.2.2.2.2.2.2.2.2.2.2.2.2.2.2.2.2.1, o3_0.2.2.2.2.2.2.2.2.2.2.2.2.2.2.2.2.2.1, o3_0.2.2.2.2.2.2.2.2.2.2.2.2.2.2.2.2.2.2.1, o3_0.2.2.2.2.2.2.2.2.2.2.2.2.2.2.2.2.2.2.2.1, o3_0.2.2.2.2.2.2.2.2.2.2.2.2.2.2.2.2.2.2.2.2.1, o3_0.2.2.2.2.2.2.2.2.2.2.2.2.2.2.2.2.2.2.2.2.2.1, o3_0.2.2.2.2.2.2.2.2.2.2.2.2.2.2.2.2.2.2.2.2.2.2.1, o3_0.2.2.2.2.2.2.2.2.2.2.2.2.2.2.2.2.2.2.2.2.2.2.2.1, o3_0.2.2.2.2.2.2.2.2.2.2.2.2.2.2.2.2.2.2.2.2.2.2.2.2.1, o3_0.2.2.2.2.2.2.2.2.2.2.2.2.2.2.2.2.2.2.2.2.2.2.2.2.2.1, o3_0.2.2.2.2.2.2.2.2.2.2.2.2.2.2.2.2.2.2.2.2.2.2.2.2.2.2.1, o3_0.2.2.2.2.2.2.2.2.2.2.2.2.2.2.2.2.2.2.2.2.2.2.2.2.2.2.2.1, o3_0.2.2.2.2.2.2.2.2.2.2.2.2.2.2.2.2.2.2.2.2.2.2.2.2.2.2.2.2.1, o3_0.2.2.2.2.2.2.2.2.2.2.2.2.2.2.2.2.2.2.2.2.2.2.2.2.2.2.2.2.2.1, o3_0.2.2.2.2.2.2.2.2.2.2.2.2.2.2.2.2.2.2.2.2.2.2.2.2.2.2.2.2.2.2.1, o3_0.2.2.2.2.2.2.2.2.2.2.2.2.2.2.2.2.2.2.2.2.2.2.2.2.2.2.2.2.2.2.2.1, o3_0.2.2.2.2.2.2.2.2.2.2.2.2.2.2.2.2.2.2.2.2.2.2.2.2.2.2.2.2.2.2.2.2.1, o3_0.2.2.2.2.2.2.2.2.2.2.2.2.2.2.2.2.2.2.2.2.2.2.2.2.2.2.2.2.2.2.2.2.2.1, o3_0.2.2.2.2.2.2.2.2.2.2.2.2.2.2.2.2.2.2.2.2.2.2.2.2.2.2.2.2.2.2.2.2.2.2.1, o3_0.2.2.2.2.2.2.2.2.2.2.2.2.2.2.2.2.2.2.2.2.2.2.2.2.2.2.2.2.2.2.2.2.2.2.2.1, o3_0.2.2.2.2.2.2.2.2.2.2.2.2.2.2.2.2.2.2.2.2.2.2.2.2.2.2.2.2.2.2.2.2.2.2.2.2.1, o3_0.2.2.2.2.2.2.2.2.2.2.2.2.2.2.2.2.2.2.2.2.2.2.2.2.2.2.2.2.2.2.2.2.2.2.2.2.2.1, o3_0.2.2.2.2.2.2.2.2.2.2.2.2.2.2.2.2.2.2.2.2.2.2.2.2.2.2.2.2.2.2.2.2.2.2.2.2.2.2.1, o3_0.2.2.2.2.2.2.2.2.2.2.2.2.2.2.2.2.2.2.2.2.2.2.2.2.2.2.2.2.2.2.2.2.2.2.2.2.2.2.2.1, o3_0.2.2.2.2.2.2.2.2.2.2.2.2.2.2.2.2.2.2.2.2.2.2.2.2.2.2.2.2.2.2.2.2.2.2.2.2.2.2.2.2.1, o3_0.2.2.2.2.2.2.2.2.2.2.2.2.2.2.2.2.2.2.2.2.2.2.2.2.2.2.2.2.2.2.2.2.2.2.2.2.2.2.2.2.2.1, o3_0.2.2.2.2.2.2.2.2.2.2.2.2.2.2.2.2.2.2.2.2.2.2.2.2.2.2.2.2.2.2.2.2.2.2.2.2.2.2.2.2.2.2.1, o3_0.2.2.2.2.2.2.2.2.2.2.2.2.2.2.2.2.2.2.2.2.2.2.2.2.2.2.2.2.2.2.2.2.2.2.2.2.2.2.2.2.2.2.2.1, o3_0.2.2.2.2.2.2.2.2.2.2.2.2.2.2.2.2.2.2.2.2.2.2.2.2.2.2.2.2.2.2.2.2.2.2.2.2.2.2.2.2.2.2.2.2.1, o3_0.2.2.2.2.2.2.2.2.2.2.2.2.2.2.2.2.2.2.2.2.2.2.2.2.2.2.2.2.2.2.2.2.2.2.2.2.2.2.2.2.2.2.2.2.2.1, o3_0.2.2.2.2.2.2.2.2.2.2.2.2.2.2.2.2.2.2.2.2.2.2.2.2.2.2.2.2.2.2.2.2.2.2.2.2.2.2.2.2.2.2.2.2.2.2.1, o3_0.2.2.2.2.2.2.2.2.2.2.2.2.2.2.2.2.2.2.2.2.2.2.2.2.2.2.2.2.2.2.2.2.2.2.2.2.2.2.2.2.2.2.2.2.2.2.2.1, o3_0.2.2.2.2.2.2.2.2.2.2.2.2.2.2.2.2.2.2.2.2.2.2.2.2.2.2.2.2.2.2.2.2.2.2.2.2.2.2.2.2.2.2.2.2.2.2.2.2.1, o3_0.2.2.2.2.2.2.2.2.2.2.2.2.2.2.2.2.2.2.2.2.2.2.2.2.2.2.2.2.2.2.2.2.2.2.2.2.2.2.2.2.2.2.2.2.2.2.2.2.2.1, o3_0.2.2.2.2.2.2.2.2.2.2.2.2.2.2.2.2.2.2.2.2.2.2.2.2.2.2.2.2.2.2.2.2.2.2.2.2.2.2.2.2.2.2.2.2.2.2.2.2.2.2.1, o3_0.2.2.2.2.2.2.2.2.2.2.2.2.2.2.2.2.2.2.2.2.2.2.2.2.2.2.2.2.2.2.2.2.2.2.2.2.2.2.2.2.2.2.2.2.2.2.2.2.2.2.2.1, o3_0.2.2.2.2.2.2.2.2.2.2.2.2.2.2.2.2.2.2.2.2.2.2.2.2.2.2.2.2.2.2.2.2.2.2.2.2.2.2.2.2.2.2.2.2.2.2.2.2.2.2.2.2.1, o3_0.2.2.2.2.2.2.2.2.2.2.2.2.2.2.2.2.2.2.2.2.2.2.2.2.2.2.2.2.2.2.2.2.2.2.2.2.2.2.2.2.2.2.2.2.2.2.2.2.2.2.2.2.2.1, o3_0.2.2.2.2.2.2.2.2.2.2.2.2.2.2.2.2.2.2.2.2.2.2.2.2.2.2.2.2.2.2.2.2.2.2.2.2.2.2.2.2.2.2.2.2.2.2.2.2.2.2.2.2.2.2.1, o3_0.2.2.2.2.2.2.2.2.2.2.2.2.2.2.2.2.2.2.2.2.2.2.2.2.2.2.2.2.2.2.2.2.2.2.2.2.2.2.2.2.2.2.2.2.2.2.2.2.2.2.2.2.2.2.2.1, o3_0.2.2.2.2.2.2.2.2.2.2.2.2.2.2.2.2.2.2.2.2.2.2.2.2.2.2.2.2.2.2.2.2.2.2.2.2.2.2.2.2.2.2.2.2.2.2.2.2.2.2.2.2.2.2.2.2.1, o3_0.2.2.2.2.2.2.2.2.2.2.2.2.2.2.2.2.2.2.2.2.2.2.2.2.2.2.2.2.2.2.2.2.2.2.2.2.2.2.2.2.2.2.2.2.2.2.2.2.2.2.2.2.2.2.2.2.2.1, o3_0.2.2.2.2.2.2.2.2.2.2.2.2.2.2.2.2.2.2.2.2.2.2.2.2.2.2.2.2.2.2.2.2.2.2.2.2.2.2.2.2.2.2.2.2.2.2.2.2.2.2.2.2.2.2.2.2.2.2.1, o3_0.2.2.2.2.2.2.2.2.2.2.2.2.2.2.2.2.2.2.2.2.2.2.2.2.2.2.2.2.2.2.2.2.2.2.2.2.2.2.2.2.2.2.2.2.2.2.2.2.2.2.2.2.2.2.2.2.2.2.2.1, o3_0.2.2.2.2.2.2.2.2.2.2.2.2.2.2.2.2.2.2.2.2.2.2.2.2.2.2.2.2.2.2.2.2.2.2.2.2.2.2.2.2.2.2.2.2.2.2.2.2.2.2.2.2.2.2.2.2.2.2.2.2.1, o3_0.2.2.2.2.2.2.2.2.2.2.2.2.2.2.2.2.2.2.2.2.2.2.2.2.2.2.2.2.2.2.2.2.2.2.2.2.2.2.2.2.2.2.2.2.2.2.2.2.2.2.2.2.2.2.2.2.2.2.2.2.2.1, o3_0.2.2.2.2.2.2.2.2.2.2.2.2.2.2.2.2.2.2.2.2.2.2.2.2.2.2.2.2.2.2.2.2.2.2.2.2.2.2.2.2.2.2.2.2.2.2.2.2.2.2.2.2.2.2.2.2.2.2.2.2.2.2.1, o3_0.2.2.2.2.2.2.2.2.2.2.2.2.2.2.2.2.2.2.2.2.2.2.2.2.2.2.2.2.2.2.2.2.2.2.2.2.2.2.2.2.2.2.2.2.2.2.2.2.2.2.2.2.2.2.2.2.2.2.2.2.2.2.2.1] : List Int) (IntKind.wrap .i64 (x5 - 2))).bind fun t7 =>
      (ck (decide (0 ≤ IntKind.wrap .i64 (x5 - 16)) && decide (IntKind.wrap .i64 (x5 - 16) < (64 : Int)))).bind fun _ =>
      (rdo ([o3_0.1, o3_0.2.1, o3_0.2.2.1, o3_0.2.2.2.1, o3_0.2.2.2.2.1, o3_0.2.2.2.2.2.1, o3_0.2.2.2.2.2.2.1, o3_0.2.2.2.2.2.2.2.1, o3_0.2.2.2.2.2.2.2.2.1, o3_0.2.2.2.2.2.2.2.2.2.1, o3_0.2.2.2.2.2.2.2.2.2.2.1, o3_0.2.2.2.2.2.2.2.2.2.2.2.1, o3_0.2.2.2.2.2.2.2.2.2.2.2.2.1, o3_0.2.2.2.2.2.2.2.2.2.2.2.2.2.1, o3_0.2.2.2.2.2.2.2.2.2.2.2.2.2.2.1, o3_0.2.2.2.2.2.2.2.2.2.2.2.2.2.2.2.1, o3_0.2.2.2.2.2.2.2.2.2.2.2.2.2.2.2.2.1, o3_0.2.2.2.2.2.2.2.2.2.2.2.2.2.2.2.2.2.1, o3_0.2.2.2.2.2.2.2.2.2.2.2.2.2.2.2.2.2.2.1, o3_0.2.2.2.2.2.2.2.2.2.2.2.2.2.2.2.2.2.2.2.1, o3_0.2.2.2.2.2.2.2.2.2.2.2.2.2.2.2.2.2.2.2.2.1, o3_0.2.2.2.2.2.2.2.2.2.2.2.2.2.2.2.2.2.2.2.2.2.1, o3_0.2.2.2.2.2.2.2.2.2.2.2.2.2.2.2.2.2.2.2.2.2.2.1, o3_0.2.2.2.2.2.2.2.2.2.2.2.2.2.2.2.2.2.2.2.2.2.2.2.1, o3_0.2.2.2.2.2.2.2.2.2.2.2.2.2.2.2.2.2.2.2.2.2.2.2.2.1, o3_0.2.2.2.2.2.2.2.2.2.2.2.2.2.2.2.2.2.2.2.2.2.2.2.2.2.1, o3_0.2.2.2.2.2.2.2.2.2.2.2.2.2.2.2.2.2.2.2.2.2.2.2.2.2.2.1, o3_0.2.2.2.2.2.2.2.2.2.2.2.2.2.2.2.2.2.2.2.2.2.2.2.2.2.2.2.1, o3_0.2.2.2.2.2.2.2.2.2.2.2.2.2.2.2.2.2.2.2.2.2.2.2.2.2.2.2.2.1, o3_0.2.2.2.2.2.2.2.2.2.2.2.2.2.2.2.2.2.2.2.2.2.2.2.2.2.2.2.2.2.1, o3_0.2.2.2.2.2.2.2.2.2.2.2.2.2.2.2.2.2.2.2.2.2.2.2.2.2.2.2.2.2.2.1, o3_0.2.2.2.2.2.2.2.2.2.2.2.2.2.2.2.2.2.2.2.2.2.2.2.2.2.2.2.2.2.2.2.1, o3_0.2.2.2.2.2.2.2.2.2.2.2.2.2.2.2.2.2.2.2.2.2.2.2.2.2.2.2.2.2.2.2.2.1, o3_0.2.2.2.2.2.2.2.2.2.2.2.2.2.2.2.2.2.2.2.2.2.2.2.2.2.2.2.2.2.2.2.2.2.1, o3_0.2.2.2.2.2.2.2.2.2.2.2.2.2.2.2.2.2.2.2.2.2.2.2.2.2.2.2.2.2.2.2.2.2.2.1, o3_0.2.2.2.2.2.2.2.2.2.2.2.2.2.2.2.2.2.2.2.2.2.2.2.2.2.2.2.2.2.2.2.2.2.2.2.1, o3_0.2.2.2.2.2.2.2.2.2.2.2.2.2.2.2.2.2.2.2.2.2.2.2.2.2.2.2.2.2.2.2.2.2.2.2.2.1, o3_0.2.2.2.2.2.2.2.2.2.2.2.2.2.2.2.2.2.2.2.2.2.2.2.2.2.2.2.2.2.2.2.2.2.2.2.2.2.1, o3_0.2.2.2.2.2.2.2.2.2.2.2.2.2.2.2.2.2.2.2.2.2.2.2.2.2.2.2.2.2.2.2.2.2.2.2.2.2.2.1, o3_0.2.2.2.2.2.2.2.2.2.2.2.2.2.2.2.2.2.2.2.2.2.2.2.2.2.2.2.2.2.2.2.2.2.2.2.2.2.2.2.1, o3_0.2.2.2.2.2.2.2.2.2.2.2.2.2.2.2.2.2.2.2.2.2.2.2.2.2.2.2.2.2.2.2.2.2.2.2.2.2.2.2.2.1, o3_0.2.2.2.2.2.2.2.2.2.2.2.2.2.2.2.2.2.2.2.2.2.2.2.2.2.2.2.2.2.2.2.2.2.2.2.2.2.2.2.2.2.1, o3_0.2.2.2.2.2.2.2.2.2.2.2.2.2.2.2.2.2.2.2.2.2.2.2.2.2.2.2.2.2.2.2.2.2.2.2.2.2.2.2.2.2.2.1, o3_0.2.2.2.2.2.2.2.2.2.2.2.2.2.2.2.2.2.2.2.2.2.2.2.2.2.2.2.2.2.2.2.2.2.2.2.2.2.2.2.2.2.2.2.1, o3_0.2.2.2.2.2.2.2.2.2.2.2.2.2.2.2.2.2.2.2.2.2.2.2.2.2.2.2.2.2.2.2.2.2.2.2.2.2.2.2.2.2.2.2.2.1, o3_0.2.2.2.2.2.2.2.2.2.2.2.2.2.2.2.2.2.2.2.2.2.2.2.2.2.2.2.2.2.2.2.2.2.2.2.2.2.2.2.2.2.2.2.2.2.1, o3_0.2.2.2.2.2.2.2.2.2.2.2.2.2.2.2.2.2.2.2.2.2.2.2.2.2.2.2.2.2.2.2.2.2.2.2.2.2.2.2.2.2.2.2.2.2.2.1, o3_0.2.2.2.2.2.2.2.2.2.2.2.2.2.2.2.2.2.2.2.2.2.2.2.2.2.2.2.2.2.2.2.2.2.2.2.2.2.2.2.2.2.2.2.2.2.2.2.1, o3_0.2.2.2.2.2.2.2.2.2.2.2.2.2.2.2.2.2.2.2.2.2.2.2.2.2.2.2.2.2.2.2.2.2.2.2.2.2.2.2.2.2.2.2.2.2.2.2.2.1, o3_0.2.2.2.2.2.2.2.2.2.2.2.2.2.2.2.2.2.2.2.2.2.2.2.2.2.2.2.2.2.2.2.2.2.2.2.2.2.2.2.2.2.2.2.2.2.2.2.2.2.1, o3_0.2.2.2.2.2.2.2.2.2.2.2.2.2.2.2.2.2.2.2.2.2.2.2.2.2.2.2.2.2.2.2.2.2.2.2.2.2.2.2.2.2.2.2.2.2.2.2.2.2.2.1, o3_0.2.2.2.2.2.2.2.2.2.2.2.2.2.2.2.2.2.2.2.2.2.2.2.2.2.2.2.2.2.2.2.2.2.2.2.2.2.2.2.2.2.2.2.2.2.2.2.2.2.2.2.1, o3_0.2.2.2.2.2.2.2.2.2.2.2.2.2.2.2.2.2.2.2.2.2.2.2.2.2.2.2.2.2.2.2.2.2.2.2.2.2.2.2.2.2.2.2.2.2.2.2.2.2.2.2.2.1, o3_0.2.2.2.2.2.2.2.2.2.2.2.2.2.2.2.2.2.2.2.2.2.2.2.2.2.2.2.2.2.2.2.2.2.2.2.2.2.2.2.2.2.2.2.2.2.2.2.2.2.2.2.2.2.1, o3_0.2.2.2.2.2.2.2.2.2.2.2.2.2.2.2.2.2.2.2.2.2.2.2.2.2.2.2.2.2.2.2.2.2.2.2.2.2.2.2.2.2.2.2.2.2.2.2.2.2.2.2.2.2.2.1, o3_0.2.2.2.2.2.2.2.2.2.2.2.2.2.2.2.2.2.2.2.2.2.2.2.2.2.2.2.2.2.2.2.2.2.2.2.2.2.2.2.2.2.2.2.2.2.2.2.2.2.2.2.2.2.2.2.1, o3_0.2.2.2.2.2.2.2.2.2.2.2.2.2.2.2.2.2.2.2.2.2.2.2.2.2.2.2.2.2.2.2.2.2.2.2.2.2.2.2.2.2.2.2.2.2.2.2.2.2.2.2.2.2.2.2.2.1, o3_0.2.2.2.2.2.2.2.2.2.2.2.2.2.2.2.2.2.2.2.2.2.2.2.2.2.2.2.2.2.2.2.2.2.2.2.2.2.2.2.2.2.2.2.2.2.2.2.2.2.2.2.2.2.2.2.2.2.1, o3_0.2.2.2.2.2.2.2.2.2.2.2.2.2.2.2.2.2.2.2.2.2.2.2.2.2.2.2.2.2.2.2.2.2.2.2.2.2.2.2.2.2.2.2.2.2.2.2.2.2.2.2.2.2.2.2.2.2.2.1, o3_0.2.2.2.2.2.2.2.2.2.2.2.2.2.2.2.2.2.2.2.2.2.2.2.2.2.2.2.2.2.2.2.2.2.2.2.2.2.2.2.2.2.2.2.2.2.2.2.2.2.2.2.2.2.2.2.2.2.2.2.1, o3_0.2.2.2.2.2.2.2.2.2.2.2.2.2.2.2.2.2.2.2.2.2.2.2.2.2.2.2.2.2.2.2.2.2.2.2.2.2.2.2.2.2.2.2.2.2.2.2.2.2.2.2.2.2.2.2.2.2.2.2.2.1, o3_0.2.2.2.2.2.2.2.2.2.2.2.2.2.2.2.2.2.2.2.2.2.2.2.2.2.2.2.2.2.2.2.2.2.2.2.2.2.2.2.2.2.2.2.2.2.2.2.2.2.2.2.2.2.2.2.2.2.2.2.2.2.1, o3_0.2.2.2.2.2.2.2.2.2.2.2.2.2.2.2.2.2.2.2.2.2.2.2.2.2.2.2.2.2.2.2.2.2.2.2.2.2.2.2.2.2.2.2.2.2.2.2.2.2.2.2.2.2.2.2.2.2.2.2.2.2.2.1, o3_0.2.2.2.2.2.2.2.2.2.2.2.2.2.2.2.2.2.2.2.2.2.2.2.2.2.2.2.2.2.2.2.2.2.2.2.2.2.2.2.2.2.2.2.2.2.2.2.2.2.2.2.2.2.2.2.2.2.2.2.2.2.2.2.1] : List Int) (IntKind.wrap .i64 (x5 - 16))).bind fun t8 =>
      (sha_turn.f k t6 7).bind fun r9 =>
      (sha_turn.f k t6 18).bind fun r10 =>
      (ck (!decide ((3 : Int) < 0))).bind fun _ =>
      (ck (decide (0 ≤ IntKind.wrap .i64 (x5 - 7)) && decide (IntKind.wrap .i64 (x5 - 7) < (64 : Int)))).bind fun _ =>
      (rdo ([o3_0.1, o3_0.2.1, o3_0.2.2.1, o3_0.2.2.2.1, o3_0.2.2.2.2.1, o3_0.2.2.2.2.2.1, o3_0.2.2.2.2.2.2.1, o3_0.2.2.2.2.2.2.2.1, o3_0.2.2.2.2.2.2.2.2.1, o3_0.2.2.2.2.2.2.2.2.2.1, o3_0.2.2.2.2.2.2.2.2.2.2.1, o3_0.2.2.2.2.2.2.2.2.2.2.2.1, o3_0.2.2.2.2.2.2.2.2.2.2.2.2.1, o3_0.2.2.2.2.2.2.2.2.2.2.2.2.2.1, o3_0.2.2.2.2.2.2.2.2.2.2.2.2.2.2.1, o3_0.2.2.2.2.2.2.2.2.2.2.2.2.2.2.2.1, o3_0.2.2.2.2.2.2.2.2.2.2.2.2.2.2.2.2.1, o3_0.2.2.2.2.2.2.2.2.2.2.2.2.2.2.2.2.2.1, o3_0.2.2.2.2.2.2.2.2.2.2.2.2.2.2.2.2.2.2.1, o3_0.2.2.2.2.2.2.2.2.2.2.2.2.2.2.2.2.2.2.2.1, o3_0.2.2.2.2.2.2.2.2.2.2.2.2.2.2.2.2.2.2.2.2.1, o3_0.2.2.2.2.2.2.2.2.2.2.2.2.2.2.2.2.2.2.2.2.2.1, o3_0.2.2.2.2.2.2.2.2.2.2.2.2.2.2.2.2.2.2.2.2.2.2.1, o3_0.2.2.2.2.2.2.2.2.2.2.2.2.2.2.2.2.2.2.2.2.2.2.2.1, o3_0.2.2.2.2.2.2.2.2.2.2.2.2.2.2.2.2.2.2.2.2.2.2.2.2.1, o3_0.2.2.2.2.2.2.2.2.2.2.2.2.2.2.2.2.2.2.2.2.2.2.2.2.2.1, o3_0.2.2.2.2.2.2.2.2.2.2.2.2.2.2.2.2.2.2.2.2.2.2.2.2.2.2.1, o3_0.2.2.2.2.2.2.2.2.2.2.2.2.2.2.2.2.2.2.2.2.2.2.2.2.2.2.2.1, o3_0.2.2.2.2.2.2.2.2.2.2.2.2.2.2.2.2.2.2.2.2.2.2.2.2.2.2.2.2.1, o3_0.2.2.2.2.2.2.2.2.2.2.2.2.2.2.2.2.2.2.2.2.2.2.2.2.2.2.2.2.2.1, o3_0.2.2.2.2.2.2.2.2.2.2.2.2.2.2.2.2.2.2.2.2.2.2.2.2.2.2.2.2.2.2.1, o3_0.2.2.2.2.2.2.2.2.2.2.2.2.2.2.2.2.2.2.2.2.2.2.2.2.2.2.2.2.2.2.2.1, o3_0.2.2.2.2.2.2.2.2.2.2.2.2.2.2.2.2.2.2.2.2.2.2.2.2.2.2.2.2.2.2.2.2.1, o3_0.2.2.2.2.2.2.2.2.2.2.2.2.2.2.2.2.2.2.2.2.2.2.2.2.2.2.2.2.2.2.2.2.2.1, o3_0.2.2.2.2.2.2.2.2.2.2.2.2.2.2.2.2.2.2.2.2.2.2.2.2.2.2.2.2.2.2.2.2.2.2.1, o3_0.2.2.2.2.2.2.2.2.2.2.2.2.2.2.2.2.2.2.2.2.2.2.2.2.2.2.2.2.2.2.2.2.2.2.2.1, o3_0.2.2.2.2.2.2.2.2.2.2.2.2.2.2.2.2.2.2.2.2.2.2.2.2.2.2.2.2.2.2.2.2.2.2.2.2.1, o3_0.2.2.2.2.2.2.2.2.2.2.2.2.2.2.2.2.2.2.2.2.2.2.2.2.2.2.2.2.2.2.2.2.2.2.2.2.2.1, o3_0.2.2.2.2.2.2.2.2.2.2.2.2.2.2.2.2.2.2.2.2.2.2.2.2.2.2.2.2.2.2.2.2.2.2.2.2.2.2.1, o3_0.2.2.2.2.2.2.2.2.2.2.2.2.2.2.2.2.2.2.2.2.2.2.2.2.2.2.2.2.2.2.2.2.2.2.2.2.2.2.2.1, o3_0.2.2.2.2.2.2.2.2.2.2.2.2.2.2.2.2.2.2.2.2.2.2.2.2.2.2.2.2.2.2.2.2.2.2.2.2.2.2.2.2.1, o3_0.2.2.2.2.2.2.2.2.2.2.2.2.2.2.2.2.2.2.2.2.2.2.2.2.2.2.2.2.2.2.2.2.2.2.2.2.2.2.2.2.2.1, o3_0.2.2.2.2.2.2.2.2.2.2.2.2.2.2.2.2.2.2.2.2.2.2.2.2.2.2.2.2.2.2.2.2.2.2.2.2.2.2.2.2.2.2.1, o3_0.2.2.2.2.2.2.2.2.2.2.2.2.2.2.2.2.2.2.2.2.2.2.2.2.2.2.2.2.2.2.2.2.2.2.2.2.2.2.2.2.2.2.2.1, o3_0.2.2.2.2.2.2.2.2.2.2.2.2.2.2.2.2.2.2.2.2.2.2.2.2.2.2.2.2.2.2.2.2.2.2.2.2.2.2.2.2.2.2.2.2.1, o3_0.2.2.2.2.2.2.2.2.2.2.2.2.2.2.2.2.2.2.2.2.2.2.2.2.2.2.2.2.2.2.2.2.2.2.2.2.2.2.2.2.2.2.2.2.2.1, o3_0.2.2.2.2.2.2.2.2.2.2.2.2.2.2.2.2.2.2.2.2.2.2.2.2.2.2.2.2.2.2.2.2.2.2.2.2.2.2.2.2.2.2.2.2.2.2.1, o3_0.2.2.2.2.2.2.2.2.2.2.2.2.2.2.2.2.2.2.2.2.2.2.2.2.2.2.2.2.2.2.2.2.2.2.2.2.2.2.2.2.2.2.2.2.2.2.2.1, o3_0.2.2.2.2.2.2.2.2.2.2.2.2.2.2.2.2.2.2.2.2.2.2.2.2.2.2.2.2.2.2.2.2.2.2.2.2.2.2.2.2.2.2.2.2.2.2.2.2.1, o3_0.2.2.2.2.2.2.2.2.2.2.2.2.2.2.2.2.2.2.2.2.2.2.2.2.2.2.2.2.2.2.2.2.2.2.2.2.2.2.2.2.2.2.2.2.2.2.2.2.2.1, o3_0.2.2.2.2.2.2.2.2.2.2.2.2.2.2.2.2.2.2.2.2.2.2.2.2.2.2.2.2.2.2.2.2.2.2.2.2.2.2.2.2.2.2.2.2.2.2.2.2.2.2.1, o3_0.2.2.2.2.2.2.2.2.2.2.2.2.2.2.2.2.2.2.2.2.2.2.2.2.2.2.2.2.2.2.2.2.2.2.2.2.2.2.2.2.2.2.2.2.2.2.2.2.2.2.2.1, o3_0.2.2.2.2.2.2.2.2.2.2.2.2.2.2.2.2.2.2.2.2.2.2.2.2.2.2.2.2.2.2.2.2.2.2.2.2.2.2.2.2.2.2.2.2.2.2.2.2.2.2.2.2.1, o3_0.2.2.2.2.2.2.2.2.2.2.2.2.2.2.2.2.2.2.2.2.2.2.2.2.2.2.2.2.2.2.2.2.2.2.2.2.2.2.2.2.2.2.2.2.2.2.2.2.2.2.2.2.2.1, o3_0.2.2.2.2.2.2.2.2.2.2.2.2.2.2.2.2.2.2.2.2.2.2.2.2.2.2.2.2.2.2.2.2.2.2.2.2.2.2.2.2.2.2.2.2.2.2.2.2.2.2.2.2.2.2.1, o3_0.2.2.2.2.2.2.2.2.2.2.2.2.2.2.2.2.2.2.2.2.2.2.2.2.2.2.2.2.2.2.2.2.2.2.2.2.2.2.2.2.2.2.2.2.2.2.2.2.2.2.2.2.2.2.2.1, o3_0.2.2.2.2.2.2.2.2.2.2.2.2.2.2.2.2.2.2.2.2.2.2.2.2.2.2.2.2.2.2.2.2.2.2.2.2.2.2.2.2.2.2.2.2.2.2.2.2.2.2.2.2.2.2.2.2.1, o3_0.2.2.2.2.2.2.2.2.2.2.2.2.2.2.2.2.2.2.2.2.2.2.2.2.2.2.2.2.2.2.2.2.2.2.2.2.2.2.2.2.2.2.2.2.2.2.2.2.2.2.2.2.2.2.2.2.2.1, o3_0.2.2.2.2.2.2.2.2.2.2.2.2.2.2.2.2.2.2.2.2.2.2.2.2.2.2.2.2.2.2.2.2.2.2.2.2.2.2.2.2.2.2.2.2.2.2.2.2.2.2.2.2.2.2.2.2.2.2.1, o3_0.2.2.2.2.2.2.2.2.2.2.2.2.2.2.2.2.2.2.2.2.2.2.2.2.2.2.2.2.2.2.2.2.2.2.2.2.2.2.2.2.2.2.2.2.2.2.2.2.2.2.2.2.2.2.2.2.2.2.2.1, o3_0.2.2.2.2.2.2.2.2.2.2.2.2.2.2.2.2.2.2.2.2.2.2.2.2.2.2.2.2.2.2.2.2.2.2.2.2.2.2.2.2.2.2.2.2.2.2.2.2.2.2.2.2.2.2.2.2.2.2.2.2.1, o3_0.2.2.2.2.2.2.2.2.2.2.2.2.2.2.2.2.2.2.2.2.2.2.2.2.2.2.2.2.2.2.2.2.2.2.2.2.2.2.2.2.2.2.2.2.2.2.2.2.2.2.2.2.2.2.2.2.2.2.2.2.2.1, o3_0.2.2.2.2.2.2.2.2.2.2.2.2.2.2.2.2.2.2.2.2.2.2.2.2.2.2.2.2.2.2.2.2.2.2.2.2.2.2.2.2.2.2.2.2.2.2.2.2.2.2.2.2.2.2.2.2.2.2.2.2.2.2.1, o3_0.2.2.2.2.2.2.2.2.2.2.2.2.2.2.2.2.2.2.2.2.2.2.2.2.2.2.2.2.2.2.2.2.2.2.2.2.2.2.2.2.2.2.2.2.2.2.2.2.2.2.2.2.2.2.2.2.2.2.2.2.2.2.2.1] : List Int) (IntKind.wrap .i64 (x5 - 7))).bind fun t11 =>
      (sha_turn.f k t7 17).bind fun r12 =>
      (sha_turn.f k t7 19).bind fun r13 =>
      (ck (!decide ((10 : Int) < 0))).bind fun _ =>
      (ck (decide (0 ≤ x5) && decide (x5 < (64 : Int)))).bind fun _ =>
      let y14 : Int := IntKind.wrap .u32 ((IntKind.wrap .u32 ((IntKind.wrap .u32 (t8 + (IntKind.wrap .u32 ((BitVec.ofInt (IntKind.bits .u32) (IntKind.wrap .u32 ((BitVec.ofInt (IntKind.bits .u32) r9.1.1 ^^^ BitVec.ofInt (IntKind.bits .u32) r10.1.1).toNat : Int)) ^^^ BitVec.ofInt (IntKind.bits .u32) (Int.fdiv t6 (2 ^ (min (3 : Int).toNat (IntKind.bits .u32))))).toNat : Int)))) + t11)) + (IntKind.wrap .u32 ((BitVec.ofInt (IntKind.bits .u32) (IntKind.wrap .u32 ((BitVec.ofInt (IntKind.bits .u32) r12.1.1 ^^^ BitVec.ofInt (IntKind.bits .u32) r13.1.1).toNat : Int)) ^^^ BitVec.ofInt (IntKind.bits .u32) (Int.fdiv t7 (2 ^ (min (10 : Int).toNat (IntKind.bits .u32))))).toNat : Int)))
      sha_words.l1 k (IntKind.wrap .i64 (x5 + 1)) o2_0 ((bif (x5 : Int) == 0 then y14 else o3_0.1), ((bif (x5 : Int) == 1 then y14 else o3_0.2.1), ((bif (x5 : Int) == 2 then y14 else o3_0.2.2.1), ((bif (x5 : Int) == 3 then y14 else o3_0.2.2.2.1), ((bif (x5 : Int) == 4 then y14 else o3_0.2.2.2.2.1), ((bif (x5 : Int) == 5 then y14 else o3_0.2.2.2.2.2.1), ((bif (x5 : Int) == 6 then y14 else o3_0.2.2.2.2.2.2.1), ((bif (x5 : Int) == 7 then y14 else o3_0.2.2.2.2.2.2.2.1), ((bif (x5 : Int) == 8 then y14 else o3_0.2.2.2.2.2.2.2.2.1), ((bif (x5 : Int) == 9 then y14 else o3_0.2.2.2.2.2.2.2.2.2.1), ((bif (x5 : Int) == 10 then y14 else o3_0.2.2.2.2.2.2.2.2.2.2.1), ((bif (x5 : Int) == 11 then y14 else o3_0.2.2.2.2.2.2.2.2.2.2.2.1), ((bif (x5 : Int) == 12 then y14 else o3_0.2.2.2.2.2.2.2.2.2.2.2.2.1), ((bif (x5 : Int) == 13 then y14 else o3_0.2.2.2.2.2.2.2.2.2.2.2.2.2.1), ((bif (x5 : Int) == 14 then y14 else o3_0.2.2.2.2.2.2.2.2.2.2.2.2.2.2.1), ((bif (x5 : Int) == 15 then y14 else o3_0.2.2.2.2.2.2.2.2.2.2.2.2.2.2.2.1), ((bif (x5 : Int) == 16 then y14 else o3_0.2.2.2.2.2.2.2.2.2.2.2.2.2.2.2.2.1), ((bif (x5 : Int) == 17 then y14 else o3_0.2.2.2.2.2.2.2.2.2.2.2.2.2.2.2.2.2.1), ((bif (x5 : Int) == 18 then y14 else o3_0.2.2.2.2.2.2.2.2.2.2.2.2.2.2.2.2.2.2.1), ((bif (x5 : Int) == 19 then y14 else o3_0.2.2.2.2.2.2.2.2.2.2.2.2.2.2.2.2.2.2.2.1), ((bif (x5 : Int) == 20 then y14 else o3_0.2.2.2.2.2.2.2.2.2.2.2.2.2.2.2.2.2.2.2.2.1), ((bif (x5 : Int) == 21 then y14 else o3_0.2.2.2.2.2.2.2.2.2.2.2.2.2.2.2.2.2.2.2.2.2.1), ((bif (x5 : Int) == 22 then y14 else o3_0.2.2.2.2.2.2.2.2.2.2.2.2.2.2.2.2.2.2.2.2.2.2.1), ((bif (x5 : Int) == 23 then y14 else o3_0.2.2.2.2.2.2.2.2.2.2.2.2.2.2.2.2.2.2.2.2.2.2.2.1), ((bif (x5 : Int) == 24 then y14 else o3_0.2.2.2.2.2.2.2.2.2.2.2.2.2.2.2.2.2.2.2.2.2.2.2.2.1), ((bif (x5 : Int) == 25 then y14 else o3_0.2.2.2.2.2.2.2.2.2.2.2.2.2.2.2.2.2.2.2.2.2.2.2.2.2.1), ((bif (x5 : Int) == 26 then y14 else o3_0.2.2.2.2.2.2.2.2.2.2.2.2.2.2.2.2.2.2.2.2.2.2.2.2.2.2.1), ((bif (x5 : Int) == 27 then y14 else o3_0.2.2.2.2.2.2.2.2.2.2.2.2.2.2.2.2.2.2.2.2.2.2.2.2.2.2.2.1), ((bif (x5 : Int) == 28 then y14 else o3_0.2.2.2.2.2.2.2.2.2.2.2.2.2.2.2.2.2.2.2.2.2.2.2.2.2.2.2.2.1), ((bif (x5 : Int) == 29 then y14 else o3_0.2.2.2.2.2.2.2.2.2.2.2.2.2.2.2.2.2.2.2.2.2.2.2.2.2.2.2.2.2.1), ((bif (x5 : Int) == 30 then y14 else o3_0.2.2.2.2.2.2.2.2.2.2.2.2.2.2.2.2.2.2.2.2.2.2.2.2.2.2.2.2.2.2.1), ((bif (x5 : Int) == 31 then y14 else o3_0.2.2.2.2.2.2.2.2.2.2.2.2.2.2.2.2.2.2.2.2.2.2.2.2.2.2.2.2.2.2.2.1), ((bif (x5 : Int) == 32 then y14 else o3_0.2.2.2.2.2.2.2.2.2.2.2.2.2.2.2.2.2.2.2.2.2.2.2.2.2.2.2.2.2.2.2.2.1), ((bif (x5 : Int) == 33 then y14 else o3_0.2.2.2.2.2.2.2.2.2.2.2.2.2.2.2.2.2.2.2.2.2.2.2.2.2.2.2.2.2.2.2.2.2.1), ((bif (x5 : Int) == 34 then y14 else o3_0.2.2.2.2.2.2.2.2.2.2.2.2.2.2.2.2.2.2.2.2.2.2.2.2.2.2.2.2.2.2.2.2.2.2.1), ((bif (x5 : Int) == 35 then y14 else o3_0.2.2.2.2.2.2.2.2.2.2.2.2.2.2.2.2.2.2.2.2.2.2.2.2.2.2.2.2.2.2.2.2.2.2.2.1), ((bif (x5 : Int) == 36 then y14 else o3_0.2.2.2.2.2.2.2.2.2.2.2.2.2.2.2.2.2.2.2.2.2.2.2.2.2.2.2.2.2.2.2.2.2.2.2.2.1), ((bif (x5 : Int) == 37 then y14 else o3_0.2.2.2.2.2.2.2.2.2.2.2.2.2.2.2.2.2.2.2.2.2.2.2.2.2.2.2.2.2.2.2.2.2.2.2.2.2.1), ((bif (x5 : Int) == 38 then y14 else o3_0.2.2.2.2.2.2.2.2.2.2.2.2.2.2.2.2.2.2.2.2.2.2.2.2.2.2.2.2.2.2.2.2.2.2.2.2.2.2.1), ((bif (x5 : Int) == 39 then y14 else o3_0.2.2.2.2.2.2.2.2.2.2.2.2.2.2.2.2.2.2.2.2.2.2.2.2.2.2.2.2.2.2.2.2.2.2.2.2.2.2.2.1), ((bif (x5 : Int) == 40 then y14 else o3_0.2.2.2.2.2.2.2.2.2.2.2.2.2.2.2.2.2.2.2.2.2.2.2.2.2.2.2.2.2.2.2.2.2.2.2.2.2.2.2.2.1), ((bif (x5 : Int) == 41 then y14 else o3_0.2.2.2.2.2.2.2.2.2.2.2.2.2.2.2.2.2.2.2.2.2.2.2.2.2.2.2.2.2.2.2.2.2.2.2.2.2.2.2.2.2.1), ((bif (x5 : Int) == 42 then y14 else o3_0.2.2.2.2.2.2.2.2.2.2.2.2.2.2.2.2.2.2.2.2.2.2.2.2.2.2.2.2.2.2.2.2.2.2.2.2.2.2.2.2.2.2.1), ((bif (x5 : Int) == 43 then y14 else o3_0.2.2.2.2.2.2.2.2.2.2.2.2.2.2.2.2.2.2.2.2.2.2.2.2.2.2.2.2.2.2.2.2.2.2.2.2.2.2.2.2.2.2.2.1), ((bif (x5 : Int) == 44 then y14 else o3_0.2.2.2.2.2.2.2.2.2.2.2.2.2.2.2.2.2.2.2.2.2.2.2.2.2.2.2.2.2.2.2.2.2.2.2.2.2.2.2.2.2.2.2.2.1), ((bif (x5 : Int) == 45 then y14 else o3_0.2.2.2.2.2.2.2.2.2.2.2.2.2.2.2.2.2.2.2.2.2.2.2.2.2.2.2.2.2.2.2.2.2.2.2.2.2.2.2.2.2.2.2.2.2.1), ((bif (x5 : Int) == 46 then y14 else o3_0.2.2.2.2.2.2.2.2.2.2.2.2.2.2.2.2.2.2.2.2.2.2.2.2.2.2.2.2.2.2.2.2.2.2.2.2.2.2.2.2.2.2.2.2.2.2.1), ((bif (x5 : Int) == 47 then y14 else o3_0.2.2.2.2.2.2.2.2.2.2.2.2.2.2.2.2.2.2.2.2.2.2.2.2.2.2.2.2.2.2.2.2.2.2.2.2.2.2.2.2.2.2.2.2.2.2.2.1), ((bif (x5 : Int) == 48 then y14 else o3_0.2.2.2.2.2.2.2.2.2.2.2.2.2.2.2.2.2.2.2.2.2.2.2.2.2.2.2.2.2.2.2.2.2.2.2.2.2.2.2.2.2.2.2.2.2.2.2.2.1), ((bif (x5 : Int) == 49 then y14 else o3_0.2.2.2.2.2.2.2.2.2.2.2.2.2.2.2.2.2.2.2.2.2.2.2.2.2.2.2.2.2.2.2.2.2.2.2.2.2.2.2.2.2.2.2.2.2.2.2.2.2.1), ((bif (x5 : Int) == 50 then y14 else o3_0.2.2.2.2.2.2.2.2.2.2.2.2.2.2.2.2.2.2.2.2.2.2.2.2.2.2.2.2.2.2.2.2.2.2.2.2.2.2.2.2.2.2.2.2.2.2.2.2.2.2.1), ((bif (x5 : Int) == 51 then y14 else o3_0.2.2.2.2.2.2.2.2.2.2.2.2.2.2.2.2.2.2.2.2.2.2.2.2.2.2.2.2.2.2.2.2.2.2.2.2.2.2.2.2.2.2.2.2.2.2.2.2.2.2.2.1), ((bif (x5 : Int) == 52 then y14 else o3_0.2.2.2.2.2.2.2.2.2.2.2.2.2.2.2.2.2.2.2.2.2.2.2.2.2.2.2.2.2.2.2.2.2.2.2.2.2.2.2.2.2.2.2.2.2.2.2.2.2.2.2.2.1), ((bif (x5 : Int) == 53 then y14 else o3_0.2.2.2.2.2.2.2.2.2.2.2.2.2.2.2.2.2.2.2.2.2.2.2.2.2.2.2.2.2.2.2.2.2.2.2.2.2.2.2.2.2.2.2.2.2.2.2.2.2.2.2.2.2.1), ((bif (x5 : Int) == 54 then y14 else o3_0.2.2.2.2.2.2.2.2.2.2.2.2.2.2.2.2.2.2.2.2.2.2.2.2.2.2.2.2.2.2.2.2.2.2.2.2.2.2.2.2.2.2.2.2.2.2.2.2.2.2.2.2.2.2.1), ((bif (x5 : Int) == 55 then y14 else o3_0.2.2.2.2.2.2.2.2.2.2.2.2.2.2.2.2.2.2.2.2.2.2.2.2.2.2.2.2.2.2.2.2.2.2.2.2.2.2.2.2.2.2.2.2.2.2.2.2.2.2.2.2.2.2.2.1), ((bif (x5 : Int) == 56 then y14 else o3_0.2.2.2.2.2.2.2.2.2.2.2.2.2.2.2.2.2.2.2.2.2.2.2.2.2.2.2.2.2.2.2.2.2.2.2.2.2.2.2.2.2.2.2.2.2.2.2.2.2.2.2.2.2.2.2.2.1), ((bif (x5 : Int) == 57 then y14 else o3_0.2.2.2.2.2.2.2.2.2.2.2.2.2.2.2.2.2.2.2.2.2.2.2.2.2.2.2.2.2.2.2.2.2.2.2.2.2.2.2.2.2.2.2.2.2.2.2.2.2.2.2.2.2.2.2.2.2.1), ((bif (x5 : Int) == 58 then y14 else o3_0.2.2.2.2.2.2.2.2.2.2.2.2.2.2.2.2.2.2.2.2.2.2.2.2.2.2.2.2.2.2.2.2.2.2.2.2.2.2.2.2.2.2.2.2.2.2.2.2.2.2.2.2.2.2.2.2.2.2.1), ((bif (x5 : Int) == 59 then y14 else o3_0.2.2.2.2.2.2.2.2.2.2.2.2.2.2.2.2.2.2.2.2.2.2.2.2.2.2.2.2.2.2.2.2.2.2.2.2.2.2.2.2.2.2.2.2.2.2.2.2.2.2.2.2.2.2.2.2.2.2.2.1), ((bif (x5 : Int) == 60 then y14 else o3_0.2.2.2.2.2.2.2.2.2.2.2.2.2.2.2.2.2.2.2.2.2.2.2.2.2.2.2.2.2.2.2.2.2.2.2.2.2.2.2.2.2.2.2.2.2.2.2.2.2.2.2.2.2.2.2.2.2.2.2.2.1), ((bif (x5 : Int) == 61 then y14 else o3_0.2.2.2.2.2.2.2.2.2.2.2.2.2.2.2.2.2.2.2.2.2.2.2.2.2.2.2.2.2.2.2.2.2.2.2.2.2.2.2.2.2.2.2.2.2.2.2.2.2.2.2.2.2.2.2.2.2.2.2.2.2.1), ((bif (x5 : Int) == 62 then y14 else o3_0.2.2.2.2.2.2.2.2.2.2.2.2.2.2.2.2.2.2.2.2.2.2.2.2.2.2.2.2.2.2.2.2.2.2.2.2.2.2.2.2.2.2.2.2.2.2.2.2.2.2.2.2.2.2.2.2.2.2.2.2.2.2.1), ((bif (x5 : Int) == 63 then y14 else o3_0.2.2.2.2.2.2.2.2.2.2.2.2.2.2.2.2.2.2.2.2.2.2.2.2.2.2.2.2.2.2.2.2.2.2.2.2.2.2.2.2.2.2.2.2.2.2.2.2.2.2.2.2.2.2.2.2.2.2.2.2.2.2.2.1), ()))))))))))))))))))))))))))))))))))))))))))))))))))))))))))))))))
    else
      some ((o3_0, ()), (()))
noncomputable def sha_words.f : Nat → ByteArray → Option sha_words.R
  | 0, _ => none
  | k + 1, x0 =>
    sha_words.l0 k x0 0 (0, (0, (0, (0, (0, (0, (0, (0, (0, (0, (0, (0, (0, (0, (0, (0, (0, (0, (0, (0, (0, (0, (0, (0, (0, (0, (0, (0, (0, (0, (0, (0, (0, (0, (0, (0, (0, (0, (0, (0, (0, (0, (0, (0, (0, (0, (0, (0, (0, (0, (0, (0, (0, (0, (0, (0, (0, (0, (0, (0, (0, (0, (0, (0, ())))))))))))))))))))))))))))))))))))))))))))))))))))))))))))))))) (0, (0, (0, (0, (0, (0, (0, (0, (0, (0, (0, (0, (0, (0, (0, (0, (0, (0, (0, (0, (0, (0, (0, (0, (0, (0, (0, (0, (0, (0, (0, (0, (0, (0, (0, (0, (0, (0, (0, (0, (0, (0, (0, (0, (0, (0, (0, (0, (0, (0, (0, (0, (0, (0, (0, (0, (0, (0, (0, (0, (0, (0, (0, (0, ()))))))))))))))))))))))))))))))))))))))))))))))))))))))))))))))))
end
abbrev sha_words.ini : LSh := ⟨[(0, .val .str)], []⟩
abbrev sha_words.out : LSh := ⟨[(0, .val Ac3)], []⟩
abbrev sha_words.l0s : LSh := ⟨[(0, .val .str), (2, .ptr 2 0), (3, .ptr 3 0), (8, .val (.int .i64))], [(2, 135, [.val Ac3]), (3, 135, [.val Ac3])]⟩
abbrev sha_words.l1s : LSh := ⟨[(2, .ptr 2 0), (3, .ptr 3 0), (5, .val (.int .i64))], [(2, 135, [.val Ac3]), (3, 135, [.val Ac3])]⟩
noncomputable def sha_words.labF : Nat → List (LabF sha_words.out.den)
  | 6 => [⟨sha_words.l0s, fun k (d : (ByteArray × Unit × Unit × Int × Unit) × ((Ab7 × Unit) × (Ab7 × Unit) × Unit)) => (sha_words.l0 k d.1.1 d.1.2.2.2.1 d.2.1.1 d.2.2.1.1 : Option sha_words.R)⟩]
  | 16 => [⟨sha_words.l1s, fun k (d : (Unit × Unit × Int × Unit) × ((Ab7 × Unit) × (Ab7 × Unit) × Unit)) => (sha_words.l1 k d.1.2.2.1 d.2.1.1 d.2.2.1.1 : Option sha_words.R)⟩]
  | _ => []
noncomputable def sha_words.fd : FnD := ⟨Try.f77, sha_words.ini, sha_words.out, 1, [], [], sha_words.labF, fun k (d : (ByteArray × Unit) × (Unit)) => (sha_words.f k d.1.1 : Option sha_words.R), none, []⟩

/-! ### sha_rounds : function 78 -/
abbrev sha_rounds.R := (Ab7 × Unit) × (Unit)
noncomputable def sha_rounds.f : Nat → Option sha_rounds.R
  | 0 => none
  | k + 1 =>
    some (((1116352408, (1899447441, (3049323471, (3921009573, (961987163, (1508970993, (2453635748, (2870763221, (3624381080, (310598401, (607225278, (1426881987, (1925078388, (2162078206, (2614888103, (3248222580, (3835390401, (4022224774, (264347078, (604807628, (770255983, (1249150122, (1555081692, (1996064986, (2554220882, (2821834349, (2952996808, (3210313671, (3336571891, (3584528711, (113926993, (338241895, (666307205, (773529912, (1294757372, (1396182291, (1695183700, (1986661051, (2177026350, (2456956037, (2730485921, (2820302411, (3259730800, (3345764771, (3516065817, (3600352804, (4094571909, (275423344, (430227734, (506948616, (659060556, (883997877, (958139571, (1322822218, (1537002063, (1747873779, (1955562222, (2024104815, (2227730452, (2361852424, (2428436474, (2756734187, (3204031479, (3329325298, ())))))))))))))))))))))))))))))))))))))))))))))))))))))))))))))))), ()), (()))
abbrev sha_rounds.ini : LSh := ⟨[], []⟩
abbrev sha_rounds.out : LSh := ⟨[(0, .val Ac3)], []⟩
noncomputable def sha_rounds.labF : Nat → List (LabF sha_rounds.out.den)
  | _ => []
noncomputable def sha_rounds.fd : FnD := ⟨Try.f78, sha_rounds.ini, sha_rounds.out, 1, [], [], sha_rounds.labF, fun k (d : (Unit) × (Unit)) => (sha_rounds.f k : Option sha_rounds.R), none, []⟩

/-! ### sha_State_mix : function 76 -/
abbrev sha_State_mix.R := (Unit) × ((Ab13 × ByteArray × Int × Bool × Unit) × Unit)
mutual
noncomputable def sha_State_mix.l0 : Nat → Int → Ab13 → ByteArray → Int → Bool → Ab7 → Ab7 → Ab13 → Option sha_State_mix.R
  | 0, _, _, _, _, _, _, _, _ => none
  | k + 1, x20, o0_0, o0_1, o0_2, o0_3, o4_0, o5_0, o6_0 =>
    bif decide ((x20 : Int) < 64) then
      (sha_turn.f k o6_0.2.2.2.2.1 6).bind fun r3 =>
      (sha_turn.f k o6_0.2.2.2.2.1 11).bind fun r4 =>
      (sha_turn.f k o6_0.2.2.2.2.1 25).bind fun r5 =>
      (ck (decide (0 ≤ x20) && decide (x20 < (64 : Int)))).bind fun _ =>
      (rdo ([o5_0.1, o5_0.2.1, o5_0.2.2.1, o5_0.2.2.2.1, o5_0.2.2.2.2.1, o5_0.2.2.2.2.2.1, o5_0.2.2.2.2.2.2.1, o5_0.2.2.2.2.2.2.2.1, o5_0.2.2.2.2.2.2.2.2.1, o5_0.2.2.2.2.2.2.2.2.2.1, o5_0.2.2.2.2.2.2.2.2.2.2.1, o5_0.2.2.2.2.2.2.2.2.2.2.2.1, o5_0.2.2.2.2.2.2.2.2.2.2.2.2.1, o5_0.2.2.2.2.2.2.2.2.2.2.2.2.2.1, o5_0.2.2.2.2.2.2.2.2.2.2.2.2.2.2.1, o5_0.2.2.2.2.2.2.2.2.2.2.2.2.2.2.2.1, o5_0.2.2.2.2.2.2.2.2.2.2.2.2.2.2.2.2.1, o5_0.2.2.2.2.2.2.2.2.2.2.2.2.2.2.2.2.2.1, o5_0.2.2.2.2.2.2.2.2.2.2.2.2.2.2.2.2.2.2.1, o5_0.2.2.2.2.2.2.2.2.2.2.2.2.2.2.2.2.2.2.2.1, o5_0.2.2.2.2.2.2.2.2.2.2.2.2.2.2.2.2.2.2.2.2.1, o5_0.2.2.2.2.2.2.2.2.2.2.2.2.2.2.2.2.2.2.2.2.2.1, o5_0.2.2.2.2.2.2.2.2.2.2.2.2.2.2.2.2.2.2.2.2.2.2.1, o5_0.2.2.2.2.2.2.2.2.2.2.2.2.2.2.2.2.2.2.2.2.2.2.2.1, o5_0.2.2.2.2.2.2.2.2.2.2.2.2.2.2.2.2.2.2.2.2.2.2.2.2.1, o5_0.2.2.2.2.2.2.2.2.2.2.2.2.2.2.2.2.2.2.2.2.2.2.2.2.2.1, o5_0.2.2.2.2.2.2.2.2.2.2.2.2.2.2.2.2.2.2.2.2.2.2.2.2.2.2.1, o5_0.2.2.2.2.2.2.2.2.2.2.2.2.2.2.2.2.2.2.2.2.2.2.2.2.2.2.2.1, o5_0.2.2.2.2.2.2.2.2.2.2.2.2.2.2.2.2.2.2.2.2.2.2.2.2.2.2.2.2.1, o5_0.2.2.2.2.2.2.2.2.2.2.2.2.2.2.2.2.2.2.2.2.2.2.2.2.2.2.2.2.2.1, o5_0.2.2.2.2.2.2.2.2.2.2.2.2.2.2.2.2.2.2.2.2.2.2.2.2.2.2.2.2.2.2.1, o5_0.2.2.2.2.2.2.2.2.2.2.2.2.2.2.2.2.2.2.2.2.2.2.2.2.2.2.2.2.2.2.2.1, o5_0.2.2.2.2.2.2.2.2.2.2.2.2.2.2.2.2.2.2.2.2.2.2.2.2.2.2.2.2.2.2.2.2.1, o5_0.2.2.2.2.2.2.2.2.2.2.2.2.2.2.2.2.2.2.2.2.2.2.2.2.2.2.2.2.2.2.2.2.2.1, o5_0.2.2.2.2.2.2.2.2.2.2.2.2.2.2.2.2.2.2.2.2.2.2.2.2.2.2.2.2.2.2.2.2.2.2.1, o5_0.2.2.2.2.2.2.2.2.2.2.2.2.2.2.2.2.2.2.2.2.2.2.2.2.2.2.2.2.2.2.2.2.2.2.2.1, o5_0.2.2.2.2.2.2.2.2.2.2.2.2.2.2.2.2.2.2.2.2.2.2.2.2.2.2.2.2.2.2.2.2.2.2.2.2.1, o5_0.2.2.2.2.2.2.2.2.2.2.2.2.2.2.2.2.2.2.2.2.2.2.2.2.2.2.2.2.2.2.2.2.2.2.2.2.2.1, o5_0.2.2.2.2.2.2.2.2.2.2.2.2.2.2.2.2.2.2.2.2.2.2.2.2.2.2.2.2.2.2.2.2.2.2.2.2.2.2.1, o5_0.2.2.2.2.2.2.2.2.2.2.2.2.2.2.2.2.2.2.2.2.2.2.2.2.2.2.2.2.2.2.2.2.2.2.2.2.2.2.2.1, o5_0.2.2.2.2.2.2.2.2.2.2.2.2.2.2.2.2.2.2.2.2.2.2.2.2.2.2.2.2.2.2.2.2.2.2.2.2.2.2.2.2.1, o5_0.2.2.2.2.2.2.2.2.2.2.2.2.2.2.2.2.2.2.2.2.2.2.2.2.2.2.2.2.2.2.2.2.2.2.2.2.2.2.2.2.2.1, o5_0.2.2.2.2.2.2.2.2.2.2.2.2.2.2.2.2.2.2.2.2.2.2.2.2.2.2.2.2.2.2.2.2.2.2.2.2.2.2.2.2.2.2.1, o5_0.2.2.2.2.2.2.2.2.2.2.2.2.2.2.2.2.2.2.2.2.2.2.2.2.2.2.2.2.2.2.2.2.2.2.2.2.2.2.2.2.2.2.2.1, o5_0.2.2.2.2.2.2.2.2.2.2.2.2.2.2.2.2.2.2.2.2.2.2.2.2.2.2.2.2.2.2.2.2.2.2.2.2.2.2.2.2.2.2.2.2.1, o5_0.2.2.2.2.2.2.2.2.2.2.2.2.2.2.2.2.2.2.2.2.2.2.2.2.2.2.2.2.2.2.2.2.2.2.2.2.2.2.2.2.2.2.2.2.2.1, o5_0.2.2.2.2.2.2.2.2.2.2.2.2.2.2.2.2.2.2.2.2.2.2.2.2.2.2.2.2.2.2.2.2.2.2.2.2.2.2.2.2.2.2.2.2.2.2.1, o5_0.2.2.2.2.2.2.2.2.2.2.2.2.2.2.2.2.2.2.2.2.2.2.2.2.2.2.2.2.2.2.2.2.2.2.2.2.2.2.2.2.2.2.2.2.2.2.2.1, o5_0.2.2.2.2.2.2.2.2.2.2.2.2.2.2.2.2.2.2.2.2.2.2.2.2.2.2.2.2.2.2.2.2.2.2.2.2.2.2.2.2.2.2.2.2.2.2.2.2.1, o5_0.2.2.2.2.2.2.2.2.2.2.2.2.2.2.2.2.2.2.2.2.2.2.2.2.2.2.2.2.2.2.2.2.2.2.2.2.2.2.2.2.2.2.2.2.2.2.2.2.2.1, o5_0.2.2.2.2.2.2.2.2.2.2.2.2.2.2.2.2.2.2.2.2.2.2.2.2.2.2.2.2.2.2.2.2.2.2.2.2.2.2.2.2.2.2.2.2.2.2.2.2.2.2.1, o5_0.2.2.2.2.2.2.2.2.2.2.2.2.2.2.2.2.2.2.2.2.2.2.2.2.2.2.2.2.2.2.2.2.2.2.2.2.2.2.2.2.2.2.2.2.2.2.2.2.2.2.2.1, o5_0.2.2.2.2.2.2.2.2.2.2.2.2.2.2.2.2.2.2.2.2.2.2.2.2.2.2.2.2.2.2.2.2.2.2.2.2.2.2.2.2.2.2.2.2.2.2.2.2.2.2.2.2.1, o5_0.2.2.2.2.2.2.2.2.2.2.2.2.2.2.2.2.2.2.2.2.2.2.2.2.2.2.2.2.2.2.2.2.2.2.2.2.2.2.2.2.2.2.2.2.2.2.2.2.2.2.2.2.2.1, o5_0.2.2.2.2.2.2.2.2.2.2.2.2.2.2.2.2.2.2.2.2.2.2.2.2.2.2.2.2.2.2.2.2.2.2.2.2.2.2.2.2.2.2.2.2.2.2.2.2.2.2.2.2.2.2.1, o5_0.2.2.2.2.2.2.2.2.2.2.2.2.2.2.2.2.2.2.2.2.2.2.2.2.2.2.2.2.2.2.2.2.2.2.2.2.2.2.2.2.2.2.2.2.2.2.2.2.2.2.2.2.2.2.2.1, o5_0.2.2.2.2.2.2.2.2.2.2.2.2.2.2.2.2.2.2.2.2.2.2.2.2.2.2.2.2.2.2.2.2.2.2.2.2.2.2.2.2.2.2.2.2.2.2.2.2.2.2.2.2.2.2.2.2.1, o5_0.2.2.2.2.2.2.2.2.2.2.2.2.2.2.2.2.2.2.2.2.2.2.2.2.2.2.2.2.2.2.2.2.2.2.2.2.2.2.2.2.2.2.2.2.2.2.2.2.2.2.2.2.2.2.2.2.2.1, o5_0.2.2.2.2.2.2.2.2.2.2.2.2.2.2.2.2.2.2.2.2.2.2.2.2.2.2.2.2.2.2.2.2.2.2.2.2.2.2.2.2.2.2.2.2.2.2.2.2.2.2.2.2.2.2.2.2.2.2.1, o5_0.2.2.2.2.2.2.2.2.2.2.2.2.2.2.2.2.2.2.2.2.2.2.2.2.2.2.2.2.2.2.2.2.2.2.2.2.2.2.2.2.2.2.2.2.2.2.2.2.2.2.2.2.2.2.2.2.2.2.2.1, o5_0.2.2.2.2.2.2.2.2.2.2.2.2.2.2.2.2.2.2.2.2.2.2.2.2.2.2.2.2.2.2.2.2.2.2.2.2.2.2.2.2.2.2.2.2.2.2.2.2.2.2.2.2.2.2.2.2.2.2.2.2.1, o5_0.2.2.2.2.2.2.2.2.2.2.2.2.2.2.2.2.2.2.2.2.2.2.2.2.2.2.2.2.2.2.2.2.2.2.2.2.2.2.2.2.2.2.2.2.2.2.2.2.2.2.2.2.2.2.2.2.2.2.2.2.2.1, o5_0.2.2.2.2.2.2.2.2.2.2.2.2.2.2.2.2.2.2.2.2.2.2.2.2.2.2.2.2.2.2.2.2.2.2.2.2.2.2.2.2.2.2.2.2.2.2.2.2.2.2.2.2.2.2.2.2.2.2.2.2.2.2.1, o5_0.2.2.2.2.2.2.2.2.2.2.2.2.2.2.2.2.2.2.2.2.2.2.2.2.2.2.2.2.2.2.2.2.2.2.2.2.2.2.2.2.2.2.2.2.2.2.2.2.2.2.2.2.2.2.2.2.2.2.2.2.2.2.2.1] : List Int) x20).bind fun t6 =>
      (ck (decide (0 ≤ x20) && decide (x20 < (64 : Int)))).bind fun _ =>
      (rdo ([o4_0.1, o4_0.2.1, o4_0.2.2.1, o4_0.2.2.2.1, o4_0.2.2.2.2.1, o4_0.2.2.2.2.2.1, o4_0.2.2.2.2.2.2.1, o4_0.2.2.2.2.2.2.2.1, o4_0.2.2.2.2.2.2.2.2.1, o4_0.2.2.2.2.2.2.2.2.2.1, o4_0.2.2.2.2.2.2.2.2.2.2.1, o4_0.2.2.2.2.2.2.2.2.2.2.2.1, o4_0.2.2.2.2.2.2.2.2.2.2.2.2.1, o4_0.2.2.2.2.2.2.2.2.2.2.2.2.2.1, o4_0.2.2.2.2.2.2.2.2.2.2.2.2.2.2.1, o4_0.2.2.2.2.2.2.2.2.2.2.2.2.2.2.2.1, o4_0.2.2.2.2.2.2.2.2.2.2.2.2.2.2.2.2.1, o4_0.2.2.2.2.2.2.2.2.2.2.2.2.2.2.2.2.2.1, o4_0.2.2.2.2.2.2.2.2.2.2.2.2.2.2.2.2.2.2.1, o4_0.2.2.2.2.2.2.2.2.2.2.2.2.2.2.2.2.2.2.2.1, o4_0.2.2.2.2.2.2.2.2.2.2.2.2.2.2.2.2.2.2.2.2.1, o4_0.2.2.2.2.2.2.2.2.2.2.2.2.2.2.2.2.2.2.2.2.2.1, o4_0.2.2.2.2.2.2.2.2.2.2.2.2.2.2.2.2.2.2.2.2.2.2.1, o4_0.2.2.2.2.2.2.2.2.2.2.2.2.2.2.2.2.2.2.2.2.2.2.2.1, o4_0.2.2.2.2.2.2.2.2.2.2.2.2.2.2.2.2.2.2.2.2.2.2.2.2.1, o4_0.2.2.2.2.2.2.2.2.2.2.2.2.2.2.2.2.2.2.2.2.2.2.2.2.2.1, o4_0.2.2.2.2.2.2.2.2.2.2.2.2.2.2.2.2.2.2.2.2.2.2.2.2.2.2.1, o4_0.2.2.2.2.2.2.2.2.2.2.2.2.2.2.2.2.2.2.2.2.2.2.2.2.2.2.2.1, o4_0.2.2.2.2.2.2.2.2.2.2.2.2.2.2.2.2.2.2.2.2.2.2.2.2.2.2.2.2.1, o4_0.2.2.2.2.2.2.2.2.2.2.2.2.2.2.2.2.2.2.2.2.2.2.2.2.2.2.2.2.2.1, o4_0.2.2.2.2.2.2.2.2.2.2.2.2.2.2.2.2.2.2.2.2.2.2.2.2.2.2.2.2.2.2.1, o4_0.2.2.2.2.2.2.2.2.2.2.2.2.2.2.2.2.2.2.2.2.2.2.2.2.2.2.2.2.2.2.2.1, o4_0.2.2.2.2.2.2.2.2.2.2.2.2.2.2.2.2.2.2.2.2.2.2.2.2.2.2.2.2.2.2.2.2.1, o4_0.2.2.2.2.2.2.2.2.2.2.2.2.2.2.2.2.2.2.2.2.2.2.2.2.2.2.2.2.2.2.2.2.2.1, o4_0.2.2.2.2.2.2.2.2.2.2.2.2.2.2.2.2.2.2.2.2.2.2.2.2.2.2.2.2.2.2.2.2.2.2.1, o4_0.2.2.2.2.2.2.2.2.2.2.2.2.2.2.2.2.2.2.2.2.2.2.2.2.2.2.2.2.2.2.2.2.2.2.2.1, o4_0.2.2.2.2.2.2.2.2.2.2.2.2.2.2.2.2.2.2.2.2.2.2.2.2.2.2.2.2.2.2.2.2.2.2.2.2.1, o4_0.2.2.2.2.2.2.2.2.2.2.2.2.2.2.2.2.2.2.2.2.2.2.2.2.2.2.2.2.2.2.2.2.2.2.2.2.2.1, o4_0.2.2.2.2.2.2.2.2.2.2.2.2.2.2.2.2.2.2.2.2.2.2.2.2.2.2.2.2.2.2.2.2.2.2.2.2.2.2.1, o4_0.2.2.2.2.2.2.2.2.2.2.2.2.2.2.2.2.2.2.2.2.2.2.2.2.2.2.2.2.2.2.2.2.2.2.2.2.2.2.2.1, o4_0.2.2.2.2.2.2.2.2.2.2.2.2.2.2.2.2.2.2.2.2.2.2.2.2.2.2.2.2.2.2.2.2.2.2.2.2.2.2.2.2.1, o4_0.2.2.2.2.2.2.2.2.2.2.2.2.2.2.2.2.2.2.2.2.2.2.2.2.2.2.2.2.2.2.2.2.2.2.2.2.2.2.2.2.2.1, o4_0.2.2.2.2.2.2.2.2.2.2.2.2.2.2.2.2.2.2.2.2.2.2.2.2.2.2.2.2.2.2.2.2.2.2.2.2.2.2.2.2.2.2.1, o4_0.2.2.2.2.2.2.2.2.2.2.2.2.2.2.2.2.2.2.2.2.2.2.2.2.2.2.2.2.2.2.2.2.2.2.2.2.2.2.2.2.2.2.2.1, o4_0.2.2.2.2.2.2.2.2.2.2.2.2.2.2.2.2.2.2.2.2.2.2.2.2.2.2.2.2.2.2.2.2.2.2.2.2.2.2.2.2.2.2.2.2.1, o4_0.2.2.2.2.2.2.2.2.2.2.2.2.2.2.2.2.2.2.2.2.2.2.2.2.2.2.2.2.2.2.2.2.2.2.2.2.2.2.2.2.2.2.2.2.2.1, o4_0.2.2.2.2.2.2.2.2.2.2.2.2.2.2.2.2.2.2.2.2.2.2.2.2.2.2.2.2.2.2.2.2.2.2.2.2.2.2.2.2.2.2.2.2.2.2.1, o4_0.2.2.2.2.2.2.2.2.2.2.2.2.2.2.2.2.2.2.2.2.2.2.2.2.2.2.2.2.2.2.2.2.2.2.2.2.2.2.2.2.2.2.2.2.2.2.2.1, o4_0.2.2.2.2.2.2.2.2.2.2.2.2.2.2.2.2.2.2.2.2.2.2.2.2.2.2.2.2.2.2.2.2.2.2.2.2.2.2.2.2.2.2.2.2.2.2.2.2.1, o4_0.2.2.2.2.2.2.2.2.2.2.2.2.2.2.2.2.2.2.2.2.2.2.2.2.2.2.2.2.2.2.2.2.2.2.2.2.2.2.2.2.2.2.2.2.2.2.2.2.2.1, o4_0.2.2.2.2.2.2.2.2.2.2.2.2.2.2.2.2.2.2.2.2.2.2.2.2.2.2.2.2.2.2.2.2.2.2.2.2.2.2.2.2.2.2.2.2.2.2.2.2.2.2.1, o4_0.2.2.2.2.2.2.2.2.2.2.2.2.2.2.2.2.2.2.2.2.2.2.2.2.2.2.2.2.2.2.2.2.2.2.2.2.2.2.2.2.2.2.2.2.2.2.2.2.2.2.2.1, o4_0.2.2.2.2.2.2.2.2.2.2.2.2.2.2.2.2.2.2.2.2.2.2.2.2.2.2.2.2.2.2.2.2.2.2.2.2.2.2.2.2.2.2.2.2.2.2.2.2.2.2.2.2.1, o4_0.2.2.2.2.2.2.2.2.2.2.2.2.2.2.2.2.2.2.2.2.2.2.2.2.2.2.2.2.2.2.2.2.2.2.2.2.2.2.2.2.2.2.2.2.2.2.2.2.2.2.2.2.2.1, o4_0.2.2.2.2.2.2.2.2.2.2.2.2.2.2.2.2.2.2.2.2.2.2.2.2.2.2.2.2.2.2.2.2.2.2.2.2.2.2.2.2.2.2.2.2.2.2.2.2.2.2.2.2.2.2.1, o4_0.2.2.2.2.2.2.2.2.2.2.2.2.2.2.2.2.2.2.2.2.2.2.2.2.2.2.2.2.2.2.2.2.2.2.2.2.2.2.2.2.2.2.2.2.2.2.2.2.2.2.2.2.2.2.2.1, o4_0.2.2.2.2.2.2.2.2.2.2.2.2.2.2.2.2.2.2.2.2.2.2.2.2.2.2.2.2.2.2.2.2.2.2.2.2.2.2.2.2.2.2.2.2.2.2.2.2.2.2.2.2.2.2.2.2.1, o4_0.2.2.2.2.2.2.2.2.2.2.2.2.2.2.2.2.2.2.2.2.2.2.2.2.2.2.2.2.2.2.2.2.2.2.2.2.2.2.2.2.2.2.2.2.2.2.2.2.2.2.2.2.2.2.2.2.2.1, o4_0.2.2.2.2.2.2.2.2.2.2.2.2.2.2.2.2.2.2.2.2.2.2.2.2.2.2.2.2.2.2.2.2.2.2.2.2.2.2.2.2.2.2.2.2.2.2.2.2.2.2.2.2.2.2.2.2.2.2.1, o4_0.2.2.2.2.2.2.2.2.2.2.2.2.2.2.2.2.2.2.2.2.2.2.2.2.2.2.2.2.2.2.2.2.2.2.2.2.2.2.2.2.2.2.2.2.2.2.2.2.2.2.2.2.2.2.2.2.2.2.2.1, o4_0.2.2.2.2.2.2.2.2.2.2.2.2.2.2.2.2.2.2.2.2.2.2.2.2.2.2.2.2.2.2.2.2.2.2.2.2.2.2.2.2.2.2.2.2.2.2.2.2.2.2.2.2.2.2.2.2.2.2.2.2.1, o4_0.2.2.2.2.2.2.2.2.2.2.2.2.2.2.2.2.2.2.2.2.2.2.2.2.2.2.2.2.2.2.2.2.2.2.2.2.2.2.2.2.2.2.2.2.2.2.2.2.2.2.2.2.2.2.2.2.2.2.2.2.2.1, o4_0.2.2.2.2.2.2.2.2.2.2.2.2.2.2.2.2.2.2.2.2.2.2.2.2.2.2.2.2.2.2.2.2.2.2.2.2.2.2.2.2.2.2.2.2.2.2.2.2.2.2.2.2.2.2.2.2.2.2.2.2.2.2.1, o4_0.2.2.2.2.2.2.2.2.2.2.2.2.2.2.2.2.2.2.2.2.2.2.2.2.2.2.2.2.2.2.2.2.2.2.2.2.2.2.2.2.2.2.2.2.2.2.2.2.2.2.2.2.2.2.2.2.2.2.2.2.2.2.2.1] : List Int) x20).bind fun t7 =>
      (sha_turn.f k o6_0.1 2).bind fun r8 =>
      (sha_turn.f k o6_0.1 13).bind fun r9 =>
      (sha_turn.f k o6_0.1 22).bind fun r10 =>
      sha_State_mix.l0 k (IntKind.wrap .i64 (x20 + 1)) o0_0 o0_1 o0_2 o0_3 o4_0 o5_0 (IntKind.wrap .u32 ((IntKind.wrap .u32 ((IntKind.wrap .u32 ((IntKind.wrap .u32 ((IntKind.wrap .u32 (o6_0.2.2.2.2.2.2.2.1 + (IntKind.wrap .u32 ((BitVec.ofInt (IntKind.bits .u32) (IntKind.wrap .u32 ((BitVec.ofInt (IntKind.bits .u32) r3.1.1 ^^^ BitVec.ofInt (IntKind.bits .u32) r4.1.1).toNat : Int)) ^^^ BitVec.ofInt (IntKind.bits .u32) r5.1.1).toNat : Int)))) + (IntKind.wrap .u32 ((BitVec.ofInt (IntKind.bits .u32) (IntKind.wrap .u32 ((BitVec.ofInt (IntKind.bits .u32) o6_0.2.2.2.2.1 &&& BitVec.ofInt (IntKind.bits .u32) o6_0.2.2.2.2.2.1).toNat : Int)) ^^^ BitVec.ofInt (IntKind.bits .u32) (IntKind.wrap .u32 ((BitVec.ofInt (IntKind.bits .u32) (IntKind.wrap .u32 ((BitVec.ofInt (IntKind.bits .u32) (match IntKind.signed .u32 with | true => -1 | false => IntKind.max .u32) ^^^ BitVec.ofInt (IntKind.bits .u32) o6_0.2.2.2.2.1).toNat : Int)) &&& BitVec.ofInt (IntKind.bits .u32) o6_0.2.2.2.2.2.2.1).toNat : Int))).toNat : Int)))) + t6)) + t7)) + (IntKind.wrap .u32 ((IntKind.wrap .u32 ((BitVec.ofInt (IntKind.bits .u32) (IntKind.wrap .u32 ((BitVec.ofInt (IntKind.bits .u32) r8.1.1 ^^^ BitVec.ofInt (IntKind.bits .u32) r9.1.1).toNat : Int)) ^^^ BitVec.ofInt (IntKind.bits .u32) r10.1.1).toNat : Int)) + (IntKind.wrap .u32 ((BitVec.ofInt (IntKind.bits .u32) (IntKind.wrap .u32 ((BitVec.ofInt (IntKind.bits .u32) (IntKind.wrap .u32 ((BitVec.ofInt (IntKind.bits .u32) o6_0.1 &&& BitVec.ofInt (IntKind.bits .u32) o6_0.2.1).toNat : Int)) ^^^ BitVec.ofInt (IntKind.bits .u32) (IntKind.wrap .u32 ((BitVec.ofInt (IntKind.bits .u32) o6_0.1 &&& BitVec.ofInt (IntKind.bits .u32) o6_0.2.2.1).toNat : Int))).toNat : Int)) ^^^ BitVec.ofInt (IntKind.bits .u32) (IntKind.wrap .u32 ((BitVec.ofInt (IntKind.bits .u32) o6_0.2.1 &&& BitVec.ofInt (IntKind.bits .u32) o6_0.2.2.1).toNat : Int))).toNat : Int))))), (o6_0.1, (o6_0.2.1, (o6_0.2.2.1, (IntKind.wrap .u32 (o6_0.2.2.2.1 + (IntKind.wrap .u32 ((IntKind.wrap .u32 ((IntKind.wrap .u32 ((IntKind.wrap .u32 (o6_0.2.2.2.2.2.2.2.1 + (IntKind.wrap .u32 ((BitVec.ofInt (IntKind.bits .u32) (IntKind.wrap .u32 ((BitVec.ofInt (IntKind.bits .u32) r3.1.1 ^^^ BitVec.ofInt (IntKind.bits .u32) r4.1.1).toNat : Int)) ^^^ BitVec.ofInt (IntKind.bits .u32) r5.1.1).toNat : Int)))) + (IntKind.wrap .u32 ((BitVec.ofInt (IntKind.bits .u32) (IntKind.wrap .u32 ((BitVec.ofInt (IntKind.bits .u32) o6_0.2.2.2.2.1 &&& BitVec.ofInt (IntKind.bits .u32) o6_0.2.2.2.2.2.1).toNat : Int)) ^^^ BitVec.ofInt (IntKind.bits .u32) (IntKind.wrap .u32 ((BitVec.ofInt (IntKind.bits .u32) (IntKind.wrap .u32 ((BitVec.ofInt (IntKind.bits .u32) (match IntKind.signed .u32 with | true => -1 | false => IntKind.max .u32) ^^^ BitVec.ofInt (IntKind.bits .u32) o6_0.2.2.2.2.1).toNat : Int)) &&& BitVec.ofInt (IntKind.bits .u32) o6_0.2.2.2.2.2.2.1).toNat : Int))).toNat : Int)))) + t6)) + t7))), (o6_0.2.2.2.2.1, (o6_0.2.2.2.2.2.1, (o6_0.2.2.2.2.2.2.1, ()))))))))
    else
      sha_State_mix.l1 k 0 o0_0 o0_1 o0_2 o0_3 o6_0
noncomputable def sha_State_mix.l1 : Nat → Int → Ab13 → ByteArray → Int → Bool → Ab13 → Option sha_State_mix.R
  | 0, _, _, _, _, _, _ => none
  | k + 1, x94, o0_0, o0_1, o0_2, o0_3, o6_0 =>
    bif decide ((x94 : Int) < 8) then
      (ck (decide (0 ≤ x94) && decide (x94 < (8 : Int)))).bind fun _ =>
      (rdo ([o0_0.1, o0_0.2.1, o0_0.2.2.1, o0_0.2.2.2.1, o0_0.2.2.2.2.1, o0_0.2.2.2.2.2.1, o0_0.2.2.2.2.2.2.1, o0_0.2.2.2.2.2.2.2.1] : List Int) x94).bind fun t11 =>
      (ck (decide (0 ≤ x94) && decide (x94 < (8 : Int)))).bind fun _ =>
      (rdo ([o6_0.1, o6_0.2.1, o6_0.2.2.1, o6_0.2.2.2.1, o6_0.2.2.2.2.1, o6_0.2.2.2.2.2.1, o6_0.2.2.2.2.2.2.1, o6_0.2.2.2.2.2.2.2.1] : List Int) x94).bind fun t12 =>
      (ck (decide (0 ≤ x94) && decide (x94 < (8 : Int)))).bind fun _ =>
      let y13 : Int := IntKind.wrap .u32 (t11 + t12)
      sha_State_mix.l1 k (IntKind.wrap .i64 (x94 + 1)) ((bif (x94 : Int) == 0 then y13 else o0_0.1), ((bif (x94 : Int) == 1 then y13 else o0_0.2.1), ((bif (x94 : Int) == 2 then y13 else o0_0.2.2.1), ((bif (x94 : Int) == 3 then y13 else o0_0.2.2.2.1), ((bif (x94 : Int) == 4 then y13 else o0_0.2.2.2.2.1), ((bif (x94 : Int) == 5 then y13 else o0_0.2.2.2.2.2.1), ((bif (x94 : Int) == 6 then y13 else o0_0.2.2.2.2.2.2.1), ((bif (x94 : Int) == 7 then y13 else o0_0.2.2.2.2.2.2.2.1), ())))))))) o0_1 o0_2 o0_3 o6_0
    else
      some ((()), ((o0_0, o0_1, o0_2, o0_3, ()), ()))
noncomputable def sha_State_mix.f : Nat → ByteArray → Ab13 → ByteArray → Int → Bool → Option sha_State_mix.R
  | 0, _, _, _, _, _ => none
  | k + 1, x1, o0_0, o0_1, o0_2, o0_3 =>
    (sha_words.f k x1).bind fun r1 =>
    (sha_rounds.f k).bind fun r2 =>
    sha_State_mix.l0 k 0 o0_0 o0_1 o0_2 o0_3 r1.1.1 r2.1.1 o0_0
end
abbrev sha_State_mix.ini : LSh := ⟨[(0, .ptr 1000000 0), (1, .val .str)], [(1000000, 134, [.val Ac11, .val .str, .val (.int .u64), .val .bool])]⟩
abbrev sha_State_mix.out : LSh := ⟨[], [(1000000, 134, [.val Ac11, .val .str, .val (.int .u64), .val .bool])]⟩
abbrev sha_State_mix.l0s : LSh := ⟨[(0, .ptr 1000000 0), (4, .ptr 4 0), (5, .ptr 5 0), (6, .ptr 6 0), (20, .val (.int .i64))], [(1000000, 134, [.val Ac11, .val .str, .val (.int .u64), .val .bool]), (4, 135, [.val Ac3]), (5, 135, [.val Ac3]), (6, 131, [.val Ac11])]⟩
abbrev sha_State_mix.l1s : LSh := ⟨[(0, .ptr 1000000 0), (6, .ptr 6 0), (94, .val (.int .i64))], [(1000000, 134, [.val Ac11, .val .str, .val (.int .u64), .val .bool]), (6, 131, [.val Ac11])]⟩
noncomputable def sha_State_mix.labF : Nat → List (LabF sha_State_mix.out.den)
  | 6 => [⟨sha_State_mix.l0s, fun k (d : (Unit × Unit × Unit × Unit × Int × Unit) × ((Ab13 × ByteArray × Int × Bool × Unit) × (Ab7 × Unit) × (Ab7 × Unit) × (Ab13 × Unit) × Unit)) => (sha_State_mix.l0 k d.1.2.2.2.2.1 d.2.1.1 d.2.1.2.1 d.2.1.2.2.1 d.2.1.2.2.2.1 d.2.2.1.1 d.2.2.2.1.1 d.2.2.2.2.1.1 : Option sha_State_mix.R)⟩]
  | 26 => [⟨sha_State_mix.l1s, fun k (d : (Unit × Unit × Int × Unit) × ((Ab13 × ByteArray × Int × Bool × Unit) × (Ab13 × Unit) × Unit)) => (sha_State_mix.l1 k d.1.2.2.1 d.2.1.1 d.2.1.2.1 d.2.1.2.2.1 d.2.1.2.2.2.1 d.2.2.1.1 : Option sha_State_mix.R)⟩]
  | _ => []
noncomputable def sha_State_mix.fd : FnD := ⟨Try.f76, sha_State_mix.ini, sha_State_mix.out, 0, [1000000], [], sha_State_mix.labF, fun k (d : (Unit × ByteArray × Unit) × ((Ab13 × ByteArray × Int × Bool × Unit) × Unit)) => (sha_State_mix.f k d.1.2.1 d.2.1.1 d.2.1.2.1 d.2.1.2.2.1 d.2.1.2.2.2.1 : Option sha_State_mix.R), none, []⟩

/-! ### sha_State_Write : function 70 -/
abbrev sha_State_Write.R := (Unit) × ((Ab13 × ByteArray × Int × Bool × Unit) × Unit)
mutual
noncomputable def sha_State_Write.l0 : Nat → ByteArray → Ab13 → ByteArray → Int → Bool → Option sha_State_Write.R
  | 0, _, _, _, _, _ => none
  | k + 1, x1, o0_0, o0_1, o0_2, o0_3 =>
    bif decide (((x1.size : Int) : Int) ≥ 64) then
      (ck (decide (0 ≤ 0) && decide (0 ≤ 64) && decide (64 ≤ (x1.size : Int)))).bind fun _ =>
      (sha_State_mix.f k (x1.extract (0 : Int).toNat (64 : Int).toNat) o0_0 o0_1 o0_2 o0_3).bind fun r1 =>
      (ck (decide (0 ≤ 64) && decide (64 ≤ (x1.size : Int)) && decide ((x1.size : Int) ≤ (x1.size : Int)))).bind fun _ =>
      sha_State_Write.l0 k (x1.extract (64 : Int).toNat (x1.size : Int).toNat) r1.2.1.1 r1.2.1.2.1 r1.2.1.2.2.1 r1.2.1.2.2.2.1
    else
      some ((()), ((o0_0, x1, o0_2, o0_3, ()), ()))
noncomputable def sha_State_Write.f : Nat → ByteArray → Ab13 → ByteArray → Int → Bool → Option sha_State_Write.R
  | 0, _, _, _, _, _ => none
  | k + 1, x1, o0_0, o0_1, o0_2, o0_3 =>
    bif !o0_3 then
      some ((()), ((o0_0, o0_1, o0_2, o0_3, ()), ()))
    else
      (ck (decide (o0_1.size + x1.size ≤ 9223372036854775807))).bind fun _ =>
      sha_State_Write.l0 k (o0_1 ++ x1) o0_0 o0_1 (IntKind.wrap .u64 (o0_2 + (IntKind.wrap .u64 (x1.size : Int)))) o0_3
end
abbrev sha_State_Write.ini : LSh := ⟨[(0, .ptr 1000000 0), (1, .val .str)], [(1000000, 134, [.val Ac11, .val .str, .val (.int .u64), .val .bool])]⟩
abbrev sha_State_Write.out : LSh := ⟨[], [(1000000, 134, [.val Ac11, .val .str, .val (.int .u64), .val .bool])]⟩
abbrev sha_State_Write.l0s : LSh := ⟨[(0, .ptr 1000000 0), (1, .val .str)], [(1000000, 134, [.val Ac11, .val .str, .val (.int .u64), .val .bool])]⟩
noncomputable def sha_State_Write.labF : Nat → List (LabF sha_State_Write.out.den)
  | 6 => [⟨sha_State_Write.l0s, fun k (d : (Unit × ByteArray × Unit) × ((Ab13 × ByteArray × Int × Bool × Unit) × Unit)) => (sha_State_Write.l0 k d.1.2.1 d.2.1.1 d.2.1.2.1 d.2.1.2.2.1 d.2.1.2.2.2.1 : Option sha_State_Write.R)⟩]
  | _ => []
noncomputable def sha_State_Write.fd : FnD := ⟨Try.f70, sha_State_Write.ini, sha_State_Write.out, 0, [1000000], [], sha_State_Write.labF, fun k (d : (Unit × ByteArray × Unit) × ((Ab13 × ByteArray × Int × Bool × Unit) × Unit)) => (sha_State_Write.f k d.1.2.1 d.2.1.1 d.2.1.2.1 d.2.1.2.2.1 d.2.1.2.2.2.1 : Option sha_State_Write.R), none, []⟩

/-! ### sha_State_Sum : function 71 -/
abbrev sha_State_Sum.R := (ByteArray × Unit) × (Unit)
mutual
noncomputable def sha_State_Sum.l0 : Nat → (List Int) → Ab13 → ByteArray → Int → Bool → Ab13 → ByteArray → Int → Bool → Option sha_State_Sum.R
  | 0, _, _, _, _, _, _, _, _, _ => none
  | k + 1, x4, o0_0, o0_1, o0_2, o0_3, o3_0, o3_1, o3_2, o3_3 =>
    (ck (!decide ((64 : Int) = 0))).bind fun _ =>
    bif (Int.tmod (IntKind.wrap .i64 ((o3_1.size : Int) + (x4.length : Int))) 64 : Int) != 56 then
      (ck (decide ((x4.length + ([0] : List Int).length) * 1 ≤ 70368744177664))).bind fun _ =>
      sha_State_Sum.l0 k (x4 ++ ([0] : List Int)) o0_0 o0_1 o0_2 o0_3 o3_0 o3_1 o3_2 o3_3
    else
      sha_State_Sum.l1 k x4 0 o0_0 o0_1 o0_2 o0_3 o3_0 o3_1 o3_2 o3_3
noncomputable def sha_State_Sum.l1 : Nat → (List Int) → Int → Ab13 → ByteArray → Int → Bool → Ab13 → ByteArray → Int → Bool → Option sha_State_Sum.R
  | 0, _, _, _, _, _, _, _, _, _, _ => none
  | k + 1, x4, x33, o0_0, o0_1, o0_2, o0_3, o3_0, o3_1, o3_2, o3_3 =>
    bif decide ((x33 : Int) < 8) then
      (ck (!decide ((IntKind.wrap .i64 (56 - (IntKind.wrap .i64 (8 * x33))) : Int) < 0))).bind fun _ =>
      (ck (decide ((x4.length + ([IntKind.wrap .u8 (Int.fdiv (IntKind.wrap .u64 (o0_2 * 8)) (2 ^ (min (IntKind.wrap .i64 (56 - (IntKind.wrap .i64 (8 * x33))) : Int).toNat (IntKind.bits .u64))))] : List Int).length) * 1 ≤ 70368744177664))).bind fun _ =>
      sha_State_Sum.l1 k (x4 ++ ([IntKind.wrap .u8 (Int.fdiv (IntKind.wrap .u64 (o0_2 * 8)) (2 ^ (min (IntKind.wrap .i64 (56 - (IntKind.wrap .i64 (8 * x33))) : Int).toNat (IntKind.bits .u64))))] : List Int)) (IntKind.wrap .i64 (x33 + 1)) o0_0 o0_1 o0_2 o0_3 o3_0 o3_1 o3_2 o3_3
    else
      (sha_State_Write.f k (strOf x4) o3_0 o3_1 o3_2 o3_3).bind fun r1 =>
      sha_State_Sum.l2 k [] r1.2.1.1 0 o0_0 o0_1 o0_2 o0_3
noncomputable def sha_State_Sum.l2 : Nat → (List Int) → Ab13 → Int → Ab13 → ByteArray → Int → Bool → Option sha_State_Sum.R
  | 0, _, _, _, _, _, _, _ => none
  | k + 1, x6, x54, x55, o0_0, o0_1, o0_2, o0_3 =>
    bif decide ((x55 : Int) < 8) then
      (rdo ([x54.1, x54.2.1, x54.2.2.1, x54.2.2.2.1, x54.2.2.2.2.1, x54.2.2.2.2.2.1, x54.2.2.2.2.2.2.1, x54.2.2.2.2.2.2.2.1] : List Int) x55).bind fun t2 =>
      (ck (!decide ((24 : Int) < 0))).bind fun _ =>
      (ck (!decide ((16 : Int) < 0))).bind fun _ =>
      (ck (!decide ((8 : Int) < 0))).bind fun _ =>
      (ck (decide ((x6.length + ([IntKind.wrap .u8 (Int.fdiv t2 (2 ^ (min (24 : Int).toNat (IntKind.bits .u32)))), IntKind.wrap .u8 (Int.fdiv t2 (2 ^ (min (16 : Int).toNat (IntKind.bits .u32)))), IntKind.wrap .u8 (Int.fdiv t2 (2 ^ (min (8 : Int).toNat (IntKind.bits .u32)))), IntKind.wrap .u8 t2] : List Int).length) * 1 ≤ 70368744177664))).bind fun _ =>
      sha_State_Sum.l2 k (x6 ++ ([IntKind.wrap .u8 (Int.fdiv t2 (2 ^ (min (24 : Int).toNat (IntKind.bits .u32)))), IntKind.wrap .u8 (Int.fdiv t2 (2 ^ (min (16 : Int).toNat (IntKind.bits .u32)))), IntKind.wrap .u8 (Int.fdiv t2 (2 ^ (min (8 : Int).toNat (IntKind.bits .u32)))), IntKind.wrap .u8 t2] : List Int)) x54 (IntKind.wrap .i64 (x55 + 1)) o0_0 o0_1 o0_2 o0_3
    else
      some ((strOf x6, ()), (()))
noncomputable def sha_State_Sum.f : Nat → Ab13 → ByteArray → Int → Bool → Option sha_State_Sum.R
  | 0, _, _, _, _ => none
  | k + 1, o0_0, o0_1, o0_2, o0_3 =>
    bif !o0_3 then
      some (((⟨#[]⟩ : ByteArray), ()), (()))
    else
      sha_State_Sum.l0 k ([128] : List Int) o0_0 o0_1 o0_2 o0_3 o0_0 o0_1 o0_2 o0_3
end
abbrev sha_State_Sum.ini : LSh := ⟨[(0, .ptr 1000000 0)], [(1000000, 134, [.val Ac11, .val .str, .val (.int .u64), .val .bool])]⟩
abbrev sha_State_Sum.out : LSh := ⟨[(0, .val .str)], []⟩
abbrev sha_State_Sum.l0s : LSh := ⟨[(0, .ptr 1000000 0), (3, .ptr 3 0), (4, .own 2000004 5 (.int .u8))], [(1000000, 134, [.val Ac11, .val .str, .val (.int .u64), .val .bool]), (3, 134, [.val Ac11, .val .str, .val (.int .u64), .val .bool])]⟩
abbrev sha_State_Sum.l1s : LSh := ⟨[(0, .ptr 1000000 0), (3, .ptr 3 0), (4, .own 2000004 5 (.int .u8)), (33, .val (.int .i64))], [(1000000, 134, [.val Ac11, .val .str, .val (.int .u64), .val .bool]), (3, 134, [.val Ac11, .val .str, .val (.int .u64), .val .bool])]⟩
abbrev sha_State_Sum.l2s : LSh := ⟨[(6, .own 2000006 5 (.int .u8)), (54, .val Ac11), (55, .val (.int .i64))], [(1000000, 134, [.val Ac11, .val .str, .val (.int .u64), .val .bool])]⟩
noncomputable def sha_State_Sum.labF : Nat → List (LabF sha_State_Sum.out.den)
  | 10 => [⟨sha_State_Sum.l0s, fun k (d : (Unit × Unit × List Int × Unit) × ((Ab13 × ByteArray × Int × Bool × Unit) × (Ab13 × ByteArray × Int × Bool × Unit) × Unit)) => (sha_State_Sum.l0 k d.1.2.2.1 d.2.1.1 d.2.1.2.1 d.2.1.2.2.1 d.2.1.2.2.2.1 d.2.2.1.1 d.2.2.1.2.1 d.2.2.1.2.2.1 d.2.2.1.2.2.2.1 : Option sha_State_Sum.R)⟩]
  | 16 => [⟨sha_State_Sum.l1s, fun k (d : (Unit × Unit × List Int × Int × Unit) × ((Ab13 × ByteArray × Int × Bool × Unit) × (Ab13 × ByteArray × Int × Bool × Unit) × Unit)) => (sha_State_Sum.l1 k d.1.2.2.1 d.1.2.2.2.1 d.2.1.1 d.2.1.2.1 d.2.1.2.2.1 d.2.1.2.2.2.1 d.2.2.1.1 d.2.2.1.2.1 d.2.2.1.2.2.1 d.2.2.1.2.2.2.1 : Option sha_State_Sum.R)⟩]
  | 30 => [⟨sha_State_Sum.l2s, fun k (d : (List Int × Ab13 × Int × Unit) × ((Ab13 × ByteArray × Int × Bool × Unit) × Unit)) => (sha_State_Sum.l2 k d.1.1 d.1.2.1 d.1.2.2.1 d.2.1.1 d.2.1.2.1 d.2.1.2.2.1 d.2.1.2.2.2.1 : Option sha_State_Sum.R)⟩]
  | _ => []
noncomputable def sha_State_Sum.fd : FnD := ⟨Try.f71, sha_State_Sum.ini, sha_State_Sum.out, 1, [1000000], [1000000], sha_State_Sum.labF, fun k (d : (Unit × Unit) × ((Ab13 × ByteArray × Int × Bool × Unit) × Unit)) => (sha_State_Sum.f k d.2.1.1 d.2.1.2.1 d.2.1.2.2.1 d.2.1.2.2.2.1 : Option sha_State_Sum.R), none, []⟩

/-! ### sha_Sum : function 60 -/
abbrev sha_Sum.R := (ByteArray × Unit) × (Unit)
noncomputable def sha_Sum.f : Nat → ByteArray → Option sha_Sum.R
  | 0, _ => none
  | k + 1, x0 =>
    (sha_New.f k).bind fun r1 =>
    (sha_State_Write.f k x0 r1.2.1.1 r1.2.1.2.1 r1.2.1.2.2.1 r1.2.1.2.2.2.1).bind fun r2 =>
    (sha_State_Sum.f k r2.2.1.1 r2.2.1.2.1 r2.2.1.2.2.1 r2.2.1.2.2.2.1).bind fun r3 =>
    some ((r3.1.1, ()), (()))
abbrev sha_Sum.ini : LSh := ⟨[(0, .val .str)], []⟩
abbrev sha_Sum.out : LSh := ⟨[(0, .val .str)], []⟩
noncomputable def sha_Sum.labF : Nat → List (LabF sha_Sum.out.den)
  | _ => []
noncomputable def sha_Sum.fd : FnD := ⟨Try.f60, sha_Sum.ini, sha_Sum.out, 1, [], [], sha_Sum.labF, fun k (d : (ByteArray × Unit) × (Unit)) => (sha_Sum.f k d.1.1 : Option sha_Sum.R), none, []⟩

/-! ### mill_name : function 59 -/
abbrev mill_name.R := (ByteArray × Unit) × (Unit)
noncomputable def mill_name.f : Nat → Bool → ByteArray → ByteArray → Option mill_name.R
  | 0, _, _, _ => none
  | k + 1, x0, x1, x2 =>
    bif !x0 then
      (ck (decide ((⟨#[115]⟩ : ByteArray).size + x2.size ≤ 9223372036854775807))).bind fun _ =>
      some (((⟨#[115]⟩ : ByteArray) ++ x2, ()), (()))
    else
      (sha_Sum.f k x1).bind fun r1 =>
      (ck (decide ((⟨#[116]⟩ : ByteArray).size + r1.1.1.size ≤ 9223372036854775807))).bind fun _ =>
      (ck (decide (((⟨#[116]⟩ : ByteArray) ++ r1.1.1).size + x2.size ≤ 9223372036854775807))).bind fun _ =>
      some ((((⟨#[116]⟩ : ByteArray) ++ r1.1.1) ++ x2, ()), (()))
abbrev mill_name.ini : LSh := ⟨[(0, .val .bool), (1, .val .str), (2, .val .str)], []⟩
abbrev mill_name.out : LSh := ⟨[(0, .val .str)], []⟩
noncomputable def mill_name.labF : Nat → List (LabF mill_name.out.den)
  | _ => []
noncomputable def mill_name.fd : FnD := ⟨Try.f59, mill_name.ini, mill_name.out, 1, [], [], mill_name.labF, fun k (d : (Bool × ByteArray × ByteArray × Unit) × (Unit)) => (mill_name.f k d.1.1 d.1.2.1 d.1.2.2.1 : Option mill_name.R), none, []⟩

/-! ### mill_Mill_note : function 61 -/
abbrev mill_Mill_note.R := (Unit) × (Ab8 × (Ab5 × Unit) × Unit)
noncomputable def mill_Mill_note.f : Nat → ByteArray → ByteArray → Ab12 → Bool → Bool → Int → Ab5 → Ab5 → Option mill_Mill_note.R
  | 0, _, _, _, _, _, _, _, _ => none
  | k + 1, x1, x2, o0_2, o0_3, o0_4, o0_5, o1_0, o2_0 =>
    bif mhas x2 o2_0 then
      bif !((mgetD x2 o2_0).toList == x1.toList) then
        bif !o0_3 then
          some ((()), (((), (), (mgetD x2 o2_0, (x1, ())), true, o0_4, IntKind.wrap .i64 (o0_5 + 1), ()), (o2_0, ()), ()))
        else
        bif mhas x2 o2_0 then
          some ((()), (((), (), o0_2, o0_3, o0_4, IntKind.wrap .i64 (o0_5 + 1), ()), (o2_0, ()), ()))
        else
        bif decide (((o2_0.length : Int) : Int) ≥ 20000) then
          some ((()), (((), (), o0_2, o0_3, true, IntKind.wrap .i64 (o0_5 + 1), ()), (o2_0, ()), ()))
        else
          some ((()), (((), (), o0_2, o0_3, o0_4, IntKind.wrap .i64 (o0_5 + 1), ()), (mput x2 x1 o2_0, ()), ()))
      else
      bif mhas x2 o2_0 then
        some ((()), (((), (), o0_2, o0_3, o0_4, IntKind.wrap .i64 (o0_5 + 1), ()), (o2_0, ()), ()))
      else
      bif decide (((o2_0.length : Int) : Int) ≥ 20000) then
        some ((()), (((), (), o0_2, o0_3, true, IntKind.wrap .i64 (o0_5 + 1), ()), (o2_0, ()), ()))
      else
        some ((()), (((), (), o0_2, o0_3, o0_4, IntKind.wrap .i64 (o0_5 + 1), ()), (mput x2 x1 o2_0, ()), ()))
    else
    bif mhas x2 o2_0 then
      some ((()), (((), (), o0_2, o0_3, o0_4, IntKind.wrap .i64 (o0_5 + 1), ()), (o2_0, ()), ()))
    else
    bif decide (((o2_0.length : Int) : Int) ≥ 20000) then
      some ((()), (((), (), o0_2, o0_3, true, IntKind.wrap .i64 (o0_5 + 1), ()), (o2_0, ()), ()))
    else
      some ((()), (((), (), o0_2, o0_3, o0_4, IntKind.wrap .i64 (o0_5 + 1), ()), (mput x2 x1 o2_0, ()), ()))
abbrev mill_Mill_note.ini : LSh := ⟨[(0, .ptr 1000000 0), (1, .val .str), (2, .val .str)], [(1000000, 80, [.mref 1000001, .mref 1000002, .val Ac10, .val .bool, .val .bool, .val (.int .i64)]), (1000001, 77, [.mapd]), (1000002, 77, [.mapd])]⟩
abbrev mill_Mill_note.out : LSh := ⟨[], [(1000000, 80, [.mref 1000001, .mref 1000002, .val Ac10, .val .bool, .val .bool, .val (.int .i64)]), (1000002, 77, [.mapd])]⟩
noncomputable def mill_Mill_note.labF : Nat → List (LabF mill_Mill_note.out.den)
  | _ => []
noncomputable def mill_Mill_note.fd : FnD := ⟨Try.f61, mill_Mill_note.ini, mill_Mill_note.out, 0, [1000000, 1000001, 1000002], [1000001], mill_Mill_note.labF, fun k (d : (Unit × ByteArray × ByteArray × Unit) × (Ab8 × (Ab5 × Unit) × (Ab5 × Unit) × Unit)) => (mill_Mill_note.f k d.1.2.1 d.1.2.2.1 d.2.1.2.2.1 d.2.1.2.2.2.1 d.2.1.2.2.2.2.1 d.2.1.2.2.2.2.2.1 d.2.2.1.1 d.2.2.2.1.1 : Option mill_Mill_note.R), none, []⟩

/-! ### mill_Mill_Sum : function 50 -/
abbrev mill_Mill_Sum.R := (ByteArray × Unit) × (Ab8 × (Ab5 × Unit) × Unit)
noncomputable def mill_Mill_Sum.f : Nat → ByteArray → Ab12 → Bool → Bool → Int → Ab5 → Ab5 → Option mill_Mill_Sum.R
  | 0, _, _, _, _, _, _, _ => none
  | k + 1, x1, o0_2, o0_3, o0_4, o0_5, o1_0, o2_0 =>
    (mill_Mill_none.f k o0_2 o0_3 o0_4 o0_5 o1_0 o2_0).bind fun r1 =>
    bif r1.1.1 then
      some (((⟨#[]⟩ : ByteArray), ()), (((), (), o0_2, o0_3, o0_4, o0_5, ()), (o2_0, ()), ()))
    else
      (mill_name.f k false (⟨#[]⟩ : ByteArray) x1).bind fun r2 =>
      bif !(mhas r2.1.1 o1_0) then
        (sha_Sum.f k x1).bind fun r3 =>
        (mill_Mill_note.f k x1 r3.1.1 o0_2 o0_3 o0_4 o0_5 o1_0 o2_0).bind fun r4 =>
        some ((r3.1.1, ()), (((), (), r4.2.1.2.2.1, r4.2.1.2.2.2.1, r4.2.1.2.2.2.2.1, r4.2.1.2.2.2.2.2.1, ()), (r4.2.2.1.1, ()), ()))
      else
        (mill_Mill_note.f k x1 (mgetD r2.1.1 o1_0) o0_2 o0_3 o0_4 o0_5 o1_0 o2_0).bind fun r5 =>
        some ((mgetD r2.1.1 o1_0, ()), (((), (), r5.2.1.2.2.1, r5.2.1.2.2.2.1, r5.2.1.2.2.2.2.1, r5.2.1.2.2.2.2.2.1, ()), (r5.2.2.1.1, ()), ()))
abbrev mill_Mill_Sum.ini : LSh := ⟨[(0, .ptr 1000000 0), (1, .val .str)], [(1000000, 80, [.mref 1000001, .mref 1000002, .val Ac10, .val .bool, .val .bool, .val (.int .i64)]), (1000001, 77, [.mapd]), (1000002, 77, [.mapd])]⟩
abbrev mill_Mill_Sum.out : LSh := ⟨[(0, .val .str)], [(1000000, 80, [.mref 1000001, .mref 1000002, .val Ac10, .val .bool, .val .bool, .val (.int .i64)]), (1000002, 77, [.mapd])]⟩
noncomputable def mill_Mill_Sum.labF : Nat → List (LabF mill_Mill_Sum.out.den)
  | _ => []
noncomputable def mill_Mill_Sum.fd : FnD := ⟨Try.f50, mill_Mill_Sum.ini, mill_Mill_Sum.out, 1, [1000000, 1000001, 1000002], [1000001], mill_Mill_Sum.labF, fun k (d : (Unit × ByteArray × Unit) × (Ab8 × (Ab5 × Unit) × (Ab5 × Unit) × Unit)) => (mill_Mill_Sum.f k d.1.2.1 d.2.1.2.2.1 d.2.1.2.2.2.1 d.2.1.2.2.2.2.1 d.2.1.2.2.2.2.2.1 d.2.2.1.1 d.2.2.2.1.1 : Option mill_Mill_Sum.R), none, []⟩

/-! ### pledge_None : function 32 -/
abbrev pledge_None.R := (ByteArray × Unit) × (Ab8 × (Ab5 × Unit) × Unit)
noncomputable def pledge_None.f : Nat → Ab12 → Bool → Bool → Int → Ab5 → Ab5 → Option pledge_None.R
  | 0, _, _, _, _, _, _ => none
  | k + 1, o0_2, o0_3, o0_4, o0_5, o1_0, o2_0 =>
    (mill_Mill_Sum.f k (⟨#[]⟩ : ByteArray) o0_2 o0_3 o0_4 o0_5 o1_0 o2_0).bind fun r1 =>
    some ((r1.1.1, ()), (((), (), r1.2.1.2.2.1, r1.2.1.2.2.2.1, r1.2.1.2.2.2.2.1, r1.2.1.2.2.2.2.2.1, ()), (r1.2.2.1.1, ()), ()))
abbrev pledge_None.ini : LSh := ⟨[(0, .ptr 1000000 0)], [(1000000, 80, [.mref 1000001, .mref 1000002, .val Ac10, .val .bool, .val .bool, .val (.int .i64)]), (1000001, 77, [.mapd]), (1000002, 77, [.mapd])]⟩
abbrev pledge_None.out : LSh := ⟨[(0, .val .str)], [(1000000, 80, [.mref 1000001, .mref 1000002, .val Ac10, .val .bool, .val .bool, .val (.int .i64)]), (1000002, 77, [.mapd])]⟩
noncomputable def pledge_None.labF : Nat → List (LabF pledge_None.out.den)
  | _ => []
noncomputable def pledge_None.fd : FnD := ⟨Try.f32, pledge_None.ini, pledge_None.out, 1, [1000000, 1000001, 1000002], [1000001], pledge_None.labF, fun k (d : (Unit × Unit) × (Ab8 × (Ab5 × Unit) × (Ab5 × Unit) × Unit)) => (pledge_None.f k d.2.1.2.2.1 d.2.1.2.2.2.1 d.2.1.2.2.2.2.1 d.2.1.2.2.2.2.2.1 d.2.2.1.1 d.2.2.2.1.1 : Option pledge_None.R), none, []⟩

/-! ### merkle_split : function 48 -/
abbrev merkle_split.R := (Int × Unit) × (Unit)
mutual
noncomputable def merkle_split.l0 : Nat → Int → Int → Option merkle_split.R
  | 0, _, _ => none
  | k + 1, x0, x3 =>
    bif decide ((x3 : Int) < IntKind.wrap .i64 (x0 - x3)) then
      merkle_split.l0 k x0 (IntKind.wrap .i64 (x3 * 2))
    else
      some ((x3, ()), (()))
noncomputable def merkle_split.f : Nat → Int → Option merkle_split.R
  | 0, _ => none
  | k + 1, x0 =>
    merkle_split.l0 k x0 1
end
abbrev merkle_split.ini : LSh := ⟨[(0, .val (.int .i64))], []⟩
abbrev merkle_split.out : LSh := ⟨[(0, .val (.int .i64))], []⟩
abbrev merkle_split.l0s : LSh := ⟨[(0, .val (.int .i64)), (3, .val (.int .i64))], []⟩
noncomputable def merkle_split.labF : Nat → List (LabF merkle_split.out.den)
  | 4 => [⟨merkle_split.l0s, fun k (d : (Int × Int × Unit) × (Unit)) => (merkle_split.l0 k d.1.1 d.1.2.1 : Option merkle_split.R)⟩]
  | _ => []
noncomputable def merkle_split.fd : FnD := ⟨Try.f48, merkle_split.ini, merkle_split.out, 1, [], [], merkle_split.labF, fun k (d : (Int × Unit) × (Unit)) => (merkle_split.f k d.1.1 : Option merkle_split.R), none, []⟩

/-! ### pledge_Node : function 49 -/
abbrev pledge_Node.R := (ByteArray × Unit) × (Ab8 × (Ab5 × Unit) × Unit)
noncomputable def pledge_Node.f : Nat → ByteArray → ByteArray → Ab12 → Bool → Bool → Int → Ab5 → Ab5 → Option pledge_Node.R
  | 0, _, _, _, _, _, _, _, _ => none
  | k + 1, x1, x2, o0_2, o0_3, o0_4, o0_5, o1_0, o2_0 =>
    (ck (decide ((⟨#[1]⟩ : ByteArray).size + x1.size ≤ 9223372036854775807))).bind fun _ =>
    (ck (decide (((⟨#[1]⟩ : ByteArray) ++ x1).size + x2.size ≤ 9223372036854775807))).bind fun _ =>
    (mill_Mill_Sum.f k (((⟨#[1]⟩ : ByteArray) ++ x1) ++ x2) o0_2 o0_3 o0_4 o0_5 o1_0 o2_0).bind fun r1 =>
    some ((r1.1.1, ()), (((), (), r1.2.1.2.2.1, r1.2.1.2.2.2.1, r1.2.1.2.2.2.2.1, r1.2.1.2.2.2.2.2.1, ()), (r1.2.2.1.1, ()), ()))
abbrev pledge_Node.ini : LSh := ⟨[(0, .ptr 1000000 0), (1, .val .str), (2, .val .str)], [(1000000, 80, [.mref 1000001, .mref 1000002, .val Ac10, .val .bool, .val .bool, .val (.int .i64)]), (1000001, 77, [.mapd]), (1000002, 77, [.mapd])]⟩
abbrev pledge_Node.out : LSh := ⟨[(0, .val .str)], [(1000000, 80, [.mref 1000001, .mref 1000002, .val Ac10, .val .bool, .val .bool, .val (.int .i64)]), (1000002, 77, [.mapd])]⟩
noncomputable def pledge_Node.labF : Nat → List (LabF pledge_Node.out.den)
  | _ => []
noncomputable def pledge_Node.fd : FnD := ⟨Try.f49, pledge_Node.ini, pledge_Node.out, 1, [1000000, 1000001, 1000002], [1000001], pledge_Node.labF, fun k (d : (Unit × ByteArray × ByteArray × Unit) × (Ab8 × (Ab5 × Unit) × (Ab5 × Unit) × Unit)) => (pledge_Node.f k d.1.2.1 d.1.2.2.1 d.2.1.2.2.1 d.2.1.2.2.2.1 d.2.1.2.2.2.2.1 d.2.1.2.2.2.2.2.1 d.2.2.1.1 d.2.2.2.1.1 : Option pledge_Node.R), none, []⟩

/-! ### merkle_both : function 33 -/
abbrev merkle_both.R := (ByteArray × ByteArray × Bool × Unit) × (Ab8 × (Ab5 × Unit) × Unit)
noncomputable def merkle_both.f : Nat → Int → Int → Bool → ByteArray → (List ByteArray) → Ab12 → Bool → Bool → Int → Ab5 → Ab5 → Option merkle_both.R
  | 0, _, _, _, _, _, _, _, _, _, _, _ => none
  | k + 1, x1, x2, x3, x4, x5, o0_2, o0_3, o0_4, o0_5, o1_0, o2_0 =>
    bif (x1 : Int) == x2 then
      bif x3 then
        some ((x4, x4, ((x5.length : Int) : Int) == 0, ()), (((), (), o0_2, o0_3, o0_4, o0_5, ()), (o2_0, ()), ()))
      else
      bif ((x5.length : Int) : Int) != 1 then
        some (((⟨#[]⟩ : ByteArray), (⟨#[]⟩ : ByteArray), false, ()), (((), (), o0_2, o0_3, o0_4, o0_5, ()), (o2_0, ()), ()))
      else
        (rdo x5 0).bind fun t1 =>
        (rdo x5 0).bind fun t2 =>
        some ((t1, t2, true, ()), (((), (), o0_2, o0_3, o0_4, o0_5, ()), (o2_0, ()), ()))
    else
    bif ((x5.length : Int) : Int) == 0 then
      some (((⟨#[]⟩ : ByteArray), (⟨#[]⟩ : ByteArray), false, ()), (((), (), o0_2, o0_3, o0_4, o0_5, ()), (o2_0, ()), ()))
    else
      (merkle_split.f k x2).bind fun r3 =>
      (rdo x5 (IntKind.wrap .i64 ((x5.length : Int) - 1))).bind fun t4 =>
      (ck (decide (0 ≤ 0) && decide (0 ≤ IntKind.wrap .i64 ((x5.length : Int) - 1)) && decide (IntKind.wrap .i64 ((x5.length : Int) - 1) ≤ (x5.length : Int)))).bind fun _ =>
      bif decide ((x1 : Int) ≤ r3.1.1) then
        (merkle_both.f k x1 r3.1.1 x3 x4 ((x5.take (IntKind.wrap .i64 ((x5.length : Int) - 1) : Int).toNat).drop (0 : Int).toNat) o0_2 o0_3 o0_4 o0_5 o1_0 o2_0).bind fun r5 =>
        (pledge_Node.f k r5.1.2.1 t4 r5.2.1.2.2.1 r5.2.1.2.2.2.1 r5.2.1.2.2.2.2.1 r5.2.1.2.2.2.2.2.1 o1_0 r5.2.2.1.1).bind fun r6 =>
        some ((r5.1.1, r6.1.1, r5.1.2.2.1, ()), (((), (), r6.2.1.2.2.1, r6.2.1.2.2.2.1, r6.2.1.2.2.2.2.1, r6.2.1.2.2.2.2.2.1, ()), (r6.2.2.1.1, ()), ()))
      else
        (merkle_both.f k (IntKind.wrap .i64 (x1 - r3.1.1)) (IntKind.wrap .i64 (x2 - r3.1.1)) false (⟨#[]⟩ : ByteArray) ((x5.take (IntKind.wrap .i64 ((x5.length : Int) - 1) : Int).toNat).drop (0 : Int).toNat) o0_2 o0_3 o0_4 o0_5 o1_0 o2_0).bind fun r7 =>
        (pledge_Node.f k t4 r7.1.1 r7.2.1.2.2.1 r7.2.1.2.2.2.1 r7.2.1.2.2.2.2.1 r7.2.1.2.2.2.2.2.1 o1_0 r7.2.2.1.1).bind fun r8 =>
        (pledge_Node.f k t4 r7.1.2.1 r8.2.1.2.2.1 r8.2.1.2.2.2.1 r8.2.1.2.2.2.2.1 r8.2.1.2.2.2.2.2.1 o1_0 r8.2.2.1.1).bind fun r9 =>
        some ((r8.1.1, r9.1.1, r7.1.2.2.1, ()), (((), (), r9.2.1.2.2.1, r9.2.1.2.2.2.1, r9.2.1.2.2.2.2.1, r9.2.1.2.2.2.2.2.1, ()), (r9.2.2.1.1, ()), ()))
abbrev merkle_both.ini : LSh := ⟨[(0, .ptr 1000000 0), (1, .val (.int .i64)), (2, .val (.int .i64)), (3, .val .bool), (4, .val .str), (5, .val (.sl .str))], [(1000000, 80, [.mref 1000001, .mref 1000002, .val Ac10, .val .bool, .val .bool, .val (.int .i64)]), (1000001, 77, [.mapd]), (1000002, 77, [.mapd])]⟩
abbrev merkle_both.out : LSh := ⟨[(0, .val .str), (1, .val .str), (2, .val .bool)], [(1000000, 80, [.mref 1000001, .mref 1000002, .val Ac10, .val .bool, .val .bool, .val (.int .i64)]), (1000002, 77, [.mapd])]⟩
noncomputable def merkle_both.labF : Nat → List (LabF merkle_both.out.den)
  | _ => []
noncomputable def merkle_both.fd : FnD := ⟨Try.f33, merkle_both.ini, merkle_both.out, 3, [1000000, 1000001, 1000002], [1000001], merkle_both.labF, fun k (d : (Unit × Int × Int × Bool × ByteArray × List ByteArray × Unit) × (Ab8 × (Ab5 × Unit) × (Ab5 × Unit) × Unit)) => (merkle_both.f k d.1.2.1 d.1.2.2.1 d.1.2.2.2.1 d.1.2.2.2.2.1 d.1.2.2.2.2.2.1 d.2.1.2.2.1 d.2.1.2.2.2.1 d.2.1.2.2.2.2.1 d.2.1.2.2.2.2.2.1 d.2.2.1.1 d.2.2.2.1.1 : Option merkle_both.R), none, []⟩

/-! ### merkle_Grown : function 13 -/
abbrev merkle_Grown.R := (Int × Unit) × (Ab8 × (Ab5 × Unit) × Unit)
mutual
noncomputable def merkle_Grown.j0 : Nat → (List ByteArray) → Ab12 → Bool → Bool → Int → Ab5 → Ab5 → Int → ByteArray → Int → ByteArray → Option merkle_Grown.R
  | 0, _, _, _, _, _, _, _, _, _, _, _ => none
  | k + 1, x3, o0_2, o0_3, o0_4, o0_5, o1_0, o2_0, o5_0, o5_1, o6_0, o6_1 =>
    bif (o5_0 : Int) == 0 then
      (pledge_None.f k o0_2 o0_3 o0_4 o0_5 o1_0 o2_0).bind fun r3 =>
      bif !(o5_1.toList == r3.1.1.toList) then
        some ((19, ()), (((), (), r3.2.1.2.2.1, r3.2.1.2.2.2.1, r3.2.1.2.2.2.2.1, r3.2.1.2.2.2.2.2.1, ()), (r3.2.2.1.1, ()), ()))
      else
      bif (o6_0 : Int) == 0 then
        bif !(o6_1.toList == o5_1.toList) then
          some ((19, ()), (((), (), r3.2.1.2.2.1, r3.2.1.2.2.2.1, r3.2.1.2.2.2.2.1, r3.2.1.2.2.2.2.2.1, ()), (r3.2.2.1.1, ()), ()))
        else
        bif decide (((x3.length : Int) : Int) > 0) then
          some ((20, ()), (((), (), r3.2.1.2.2.1, r3.2.1.2.2.2.1, r3.2.1.2.2.2.2.1, r3.2.1.2.2.2.2.2.1, ()), (r3.2.2.1.1, ()), ()))
        else
          some ((0, ()), (((), (), r3.2.1.2.2.1, r3.2.1.2.2.2.1, r3.2.1.2.2.2.2.1, r3.2.1.2.2.2.2.2.1, ()), (r3.2.2.1.1, ()), ()))
      else
      bif decide (((x3.length : Int) : Int) > 0) then
        some ((20, ()), (((), (), r3.2.1.2.2.1, r3.2.1.2.2.2.1, r3.2.1.2.2.2.2.1, r3.2.1.2.2.2.2.2.1, ()), (r3.2.2.1.1, ()), ()))
      else
        some ((0, ()), (((), (), r3.2.1.2.2.1, r3.2.1.2.2.2.1, r3.2.1.2.2.2.2.1, r3.2.1.2.2.2.2.2.1, ()), (r3.2.2.1.1, ()), ()))
    else
      (merkle_both.f k o5_0 o6_0 true o5_1 x3 o0_2 o0_3 o0_4 o0_5 o1_0 o2_0).bind fun r4 =>
      bif !r4.1.2.2.1 then
        some ((20, ()), (((), (), r4.2.1.2.2.1, r4.2.1.2.2.2.1, r4.2.1.2.2.2.2.1, r4.2.1.2.2.2.2.2.1, ()), (r4.2.2.1.1, ()), ()))
      else
      bif !(r4.1.1.toList == o5_1.toList) then
        some ((19, ()), (((), (), r4.2.1.2.2.1, r4.2.1.2.2.2.1, r4.2.1.2.2.2.2.1, r4.2.1.2.2.2.2.2.1, ()), (r4.2.2.1.1, ()), ()))
      else
      bif !(r4.1.2.1.toList == o6_1.toList) then
        some ((19, ()), (((), (), r4.2.1.2.2.1, r4.2.1.2.2.2.1, r4.2.1.2.2.2.2.1, r4.2.1.2.2.2.2.2.1, ()), (r4.2.2.1.1, ()), ()))
      else
        some ((0, ()), (((), (), r4.2.1.2.2.1, r4.2.1.2.2.2.1, r4.2.1.2.2.2.2.1, r4.2.1.2.2.2.2.2.1, ()), (r4.2.2.1.1, ()), ()))
noncomputable def merkle_Grown.f : Nat → Ab4 → Ab4 → (List ByteArray) → Ab12 → Bool → Bool → Int → Ab5 → Ab5 → Option merkle_Grown.R
  | 0, _, _, _, _, _, _, _, _, _ => none
  | k + 1, x1, x2, x3, o0_2, o0_3, o0_4, o0_5, o1_0, o2_0 =>
    bif decide ((x1.1 : Int) < 0) then
      some ((21, ()), (((), (), o0_2, o0_3, o0_4, o0_5, ()), (o2_0, ()), ()))
    else
    bif decide ((x1.1 : Int) > x2.1) then
      some ((21, ()), (((), (), o0_2, o0_3, o0_4, o0_5, ()), (o2_0, ()), ()))
    else
    bif decide ((x2.1 : Int) > 65536) then
      some ((21, ()), (((), (), o0_2, o0_3, o0_4, o0_5, ()), (o2_0, ()), ()))
    else
      (merkle_sums.f k ([x1.2.1, x2.2.1] : List ByteArray)).bind fun r1 =>
      bif !r1.1.1 then
        some ((19, ()), (((), (), o0_2, o0_3, o0_4, o0_5, ()), (o2_0, ()), ()))
      else
      bif decide (((x3.length : Int) : Int) > 17) then
        some ((20, ()), (((), (), o0_2, o0_3, o0_4, o0_5, ()), (o2_0, ()), ()))
      else
        (merkle_sums.f k x3).bind fun r2 =>
        bif !r2.1.1 then
          some ((20, ()), (((), (), o0_2, o0_3, o0_4, o0_5, ()), (o2_0, ()), ()))
        else
          merkle_Grown.j0 k x3 o0_2 o0_3 o0_4 o0_5 o1_0 o2_0 x1.1 x1.2.1 x2.1 x2.2.1
end
abbrev merkle_Grown.ini : LSh := ⟨[(0, .ptr 1000000 0), (1, .val Ac6), (2, .val Ac6), (3, .val (.sl .str))], [(1000000, 80, [.mref 1000001, .mref 1000002, .val Ac10, .val .bool, .val .bool, .val (.int .i64)]), (1000001, 77, [.mapd]), (1000002, 77, [.mapd])]⟩
abbrev merkle_Grown.out : LSh := ⟨[(0, .val (.int .i64))], [(1000000, 80, [.mref 1000001, .mref 1000002, .val Ac10, .val .bool, .val .bool, .val (.int .i64)]), (1000002, 77, [.mapd])]⟩
abbrev merkle_Grown.j0s : LSh := ⟨[(0, .ptr 1000000 0), (3, .val (.sl .str)), (5, .ptr 5 0), (6, .ptr 6 0)], [(1000000, 80, [.mref 1000001, .mref 1000002, .val Ac10, .val .bool, .val .bool, .val (.int .i64)]), (1000001, 77, [.mapd]), (1000002, 77, [.mapd]), (5, 25, [.val (.int .i64), .val .str]), (6, 25, [.val (.int .i64), .val .str])]⟩
noncomputable def merkle_Grown.labF : Nat → List (LabF merkle_Grown.out.den)
  | 15 => [⟨merkle_Grown.j0s, fun k (d : (Unit × List ByteArray × Unit × Unit × Unit) × (Ab8 × (Ab5 × Unit) × (Ab5 × Unit) × Ab4 × Ab4 × Unit)) => (merkle_Grown.j0 k d.1.2.1 d.2.1.2.2.1 d.2.1.2.2.2.1 d.2.1.2.2.2.2.1 d.2.1.2.2.2.2.2.1 d.2.2.1.1 d.2.2.2.1.1 d.2.2.2.2.1.1 d.2.2.2.2.1.2.1 d.2.2.2.2.2.1.1 d.2.2.2.2.2.1.2.1 : Option merkle_Grown.R)⟩]
  | _ => []
noncomputable def merkle_Grown.fd : FnD := ⟨Try.f13, merkle_Grown.ini, merkle_Grown.out, 1, [1000000, 1000001, 1000002], [1000001], merkle_Grown.labF, fun k (d : (Unit × Ab4 × Ab4 × List ByteArray × Unit) × (Ab8 × (Ab5 × Unit) × (Ab5 × Unit) × Unit)) => (merkle_Grown.f k d.1.2.1 d.1.2.2.1 d.1.2.2.2.1 d.2.1.2.2.1 d.2.1.2.2.2.1 d.2.1.2.2.2.2.1 d.2.1.2.2.2.2.2.1 d.2.2.1.1 d.2.2.2.1.1 : Option merkle_Grown.R), none, []⟩

/-! ### auditor_Auditor_Last : function 25 -/
abbrev auditor_Auditor_Last.R := (Ab4 × Bool × Unit) × (Unit)
mutual
noncomputable def auditor_Auditor_Last.j0 : Nat → (List Ab4) → Ab0 → Int → Ab12 → Bool → Bool → Int → Ab5 → Ab5 → Int → ByteArray → Option auditor_Auditor_Last.R
  | 0, _, _, _, _, _, _, _, _, _, _, _ => none
  | k + 1, o0_1, o0_2, o0_3, o1_2, o1_3, o1_4, o1_5, o2_0, o3_0, o1000002_0, o1000002_1 =>
    (rdo o0_1 (IntKind.wrap .i64 ((o0_1.length : Int) - 1))).bind fun t2 =>
    some ((t2, true, ()), (()))
noncomputable def auditor_Auditor_Last.f : Nat → (List Ab4) → Ab0 → Int → Ab12 → Bool → Bool → Int → Ab5 → Ab5 → Option auditor_Auditor_Last.R
  | 0, _, _, _, _, _, _, _, _, _ => none
  | k + 1, o0_1, o0_2, o0_3, o1_2, o1_3, o1_4, o1_5, o2_0, o3_0 =>
    (auditor_Auditor_none.f k o0_1 o0_2 o0_3 o1_2 o1_3 o1_4 o1_5 o2_0 o3_0).bind fun r1 =>
    bif r1.1.1 then
      some (((0, (ByteArray.empty, ())), false, ()), (()))
    else
    bif ((o0_1.length : Int) : Int) == 0 then
      some (((0, (ByteArray.empty, ())), false, ()), (()))
    else
      auditor_Auditor_Last.j0 k o0_1 o0_2 o0_3 o1_2 o1_3 o1_4 o1_5 o2_0 o3_0 0 ByteArray.empty
end
abbrev auditor_Auditor_Last.ini : LSh := ⟨[(0, .ptr 1000000 0)], [(1000000, 88, [.ptr 1000001 0, .val (.sl Ac6), .val (.sl Ac1), .val (.int .i64)]), (1000001, 80, [.mref 1000002, .mref 1000003, .val Ac10, .val .bool, .val .bool, .val (.int .i64)]), (1000002, 77, [.mapd]), (1000003, 77, [.mapd])]⟩
abbrev auditor_Auditor_Last.out : LSh := ⟨[(0, .val Ac6), (1, .val .bool)], []⟩
abbrev auditor_Auditor_Last.j0s : LSh := ⟨[(0, .ptr 1000000 0), (2, .ptr 2 0)], [(1000000, 88, [.ptr 1000001 0, .val (.sl Ac6), .val (.sl Ac1), .val (.int .i64)]), (1000001, 80, [.mref 1000002, .mref 1000003, .val Ac10, .val .bool, .val .bool, .val (.int .i64)]), (1000002, 77, [.mapd]), (1000003, 77, [.mapd]), (2, 25, [.val (.int .i64), .val .str])]⟩
noncomputable def auditor_Auditor_Last.labF : Nat → List (LabF auditor_Auditor_Last.out.den)
  | 7 => [⟨auditor_Auditor_Last.j0s, fun k (d : (Unit × Unit × Unit) × (Ab9 × Ab8 × (Ab5 × Unit) × (Ab5 × Unit) × Ab4 × Unit)) => (auditor_Auditor_Last.j0 k d.2.1.2.1 d.2.1.2.2.1 d.2.1.2.2.2.1 d.2.2.1.2.2.1 d.2.2.1.2.2.2.1 d.2.2.1.2.2.2.2.1 d.2.2.1.2.2.2.2.2.1 d.2.2.2.1.1 d.2.2.2.2.1.1 d.2.2.2.2.2.1.1 d.2.2.2.2.2.1.2.1 : Option auditor_Auditor_Last.R)⟩]
  | _ => []
noncomputable def auditor_Auditor_Last.fd : FnD := ⟨Try.f25, auditor_Auditor_Last.ini, auditor_Auditor_Last.out, 2, [1000000, 1000001, 1000002, 1000003], [1000000, 1000001, 1000002, 1000003], auditor_Auditor_Last.labF, fun k (d : (Unit × Unit) × (Ab9 × Ab8 × (Ab5 × Unit) × (Ab5 × Unit) × Unit)) => (auditor_Auditor_Last.f k d.2.1.2.1 d.2.1.2.2.1 d.2.1.2.2.2.1 d.2.2.1.2.2.1 d.2.2.1.2.2.2.1 d.2.2.1.2.2.2.2.1 d.2.2.1.2.2.2.2.2.1 d.2.2.2.1.1 d.2.2.2.2.1.1 : Option auditor_Auditor_Last.R), none, []⟩

/-! ### auditor_Auditor_count : function 51 -/
abbrev auditor_Auditor_count.R := (Unit) × (Ab9 × Unit)
noncomputable def auditor_Auditor_count.f : Nat → (List Ab4) → Ab0 → Int → Ab12 → Bool → Bool → Int → Ab5 → Ab5 → Option auditor_Auditor_count.R
  | 0, _, _, _, _, _, _, _, _, _ => none
  | k + 1, o0_1, o0_2, o0_3, o1_2, o1_3, o1_4, o1_5, o2_0, o3_0 =>
    some ((()), (((), o0_1, o0_2, IntKind.wrap .i64 (o0_3 + 1), ()), ()))
abbrev auditor_Auditor_count.ini : LSh := ⟨[(0, .ptr 1000000 0)], [(1000000, 88, [.ptr 1000001 0, .own 3000401 25 Ac6, .own 3000402 27 Ac1, .val (.int .i64)]), (1000001, 80, [.mref 1000002, .mref 1000003, .val Ac10, .val .bool, .val .bool, .val (.int .i64)]), (1000002, 77, [.mapd]), (1000003, 77, [.mapd])]⟩
abbrev auditor_Auditor_count.out : LSh := ⟨[], [(1000000, 88, [.ptr 1000001 0, .own 3000401 25 Ac6, .own 3000402 27 Ac1, .val (.int .i64)])]⟩
noncomputable def auditor_Auditor_count.labF : Nat → List (LabF auditor_Auditor_count.out.den)
  | _ => []
noncomputable def auditor_Auditor_count.fd : FnD := ⟨Try.f51, auditor_Auditor_count.ini, auditor_Auditor_count.out, 0, [1000000, 1000001, 1000002, 1000003], [1000001, 1000002, 1000003], auditor_Auditor_count.labF, fun k (d : (Unit × Unit) × (Ab9 × Ab8 × (Ab5 × Unit) × (Ab5 × Unit) × Unit)) => (auditor_Auditor_count.f k d.2.1.2.1 d.2.1.2.2.1 d.2.1.2.2.2.1 d.2.2.1.2.2.1 d.2.2.1.2.2.2.1 d.2.2.1.2.2.2.2.1 d.2.2.1.2.2.2.2.2.1 d.2.2.2.1.1 d.2.2.2.2.1.1 : Option auditor_Auditor_count.R), none, []⟩

/-! ### proof_sums : function 55 -/
abbrev proof_sums.R := (Bool × Unit) × (Unit)
mutual
noncomputable def proof_sums.l0 : Nat → (List ByteArray) → Int → (List ByteArray) → Int → Int → Option proof_sums.R
  | 0, _, _, _, _, _ => none
  | k + 1, x0, x1, x7, x8, x9 =>
    bif decide ((x9 : Int) < x8) then
      (rdo x7 x9).bind fun t1 =>
      bif ((t1.size : Int) : Int) != 32 then
        some ((false, ()), (()))
      else
        proof_sums.l0 k x0 x1 x7 x8 (IntKind.wrap .i64 (x9 + 1))
    else
      some ((decide (((x0.length : Int) : Int) ≤ x1), ()), (()))
noncomputable def proof_sums.f : Nat → (List ByteArray) → Int → Option proof_sums.R
  | 0, _, _ => none
  | k + 1, x0, x1 =>
    proof_sums.l0 k x0 x1 x0 (x0.length : Int) 0
end
abbrev proof_sums.ini : LSh := ⟨[(0, .val (.sl .str)), (1, .val (.int .i64))], []⟩
abbrev proof_sums.out : LSh := ⟨[(0, .val .bool)], []⟩
abbrev proof_sums.l0s : LSh := ⟨[(0, .val (.sl .str)), (1, .val (.int .i64)), (7, .val (.sl .str)), (8, .val (.int .i64)), (9, .val (.int .i64))], []⟩
noncomputable def proof_sums.labF : Nat → List (LabF proof_sums.out.den)
  | 4 => [⟨proof_sums.l0s, fun k (d : (List ByteArray × Int × List ByteArray × Int × Int × Unit) × (Unit)) => (proof_sums.l0 k d.1.1 d.1.2.1 d.1.2.2.1 d.1.2.2.2.1 d.1.2.2.2.2.1 : Option proof_sums.R)⟩]
  | _ => []
noncomputable def proof_sums.fd : FnD := ⟨Try.f55, proof_sums.ini, proof_sums.out, 1, [], [], proof_sums.labF, fun k (d : (List ByteArray × Int × Unit) × (Unit)) => (proof_sums.f k d.1.1 d.1.2.1 : Option proof_sums.R), none, []⟩

/-! ### proof_RightGrowth : function 43 -/
abbrev proof_RightGrowth.R := (Bool × Unit) × (Unit)
noncomputable def proof_RightGrowth.f : Nat → (Ab4 × List ByteArray × Unit) → Option proof_RightGrowth.R
  | 0, _ => none
  | k + 1, x0 =>
    bif decide ((x0.1.1 : Int) ≥ 0) then
      bif decide ((x0.1.1 : Int) ≤ 65536) then
        bif ((x0.1.2.1.size : Int) : Int) == 32 then
          (proof_sums.f k x0.2.1 17).bind fun r1 =>
          some ((r1.1.1, ()), (()))
        else
          some ((false, ()), (()))
      else
        some ((false, ()), (()))
    else
      some ((false, ()), (()))
abbrev proof_RightGrowth.ini : LSh := ⟨[(0, .val (.cons Ac6 (.cons (.sl .str) .nil)))], []⟩
abbrev proof_RightGrowth.out : LSh := ⟨[(0, .val .bool)], []⟩
noncomputable def proof_RightGrowth.labF : Nat → List (LabF proof_RightGrowth.out.den)
  | _ => []
noncomputable def proof_RightGrowth.fd : FnD := ⟨Try.f43, proof_RightGrowth.ini, proof_RightGrowth.out, 1, [], [], proof_RightGrowth.labF, fun k (d : ((Ab4 × List ByteArray × Unit) × Unit) × (Unit)) => (proof_RightGrowth.f k d.1.1 : Option proof_RightGrowth.R), none, []⟩

/-! ### octet_Read : function 62 -/
abbrev octet_Read.R := (Unit × Unit) × ((ByteArray × Int × Int × Unit) × Unit)
noncomputable def octet_Read.f : Nat → ByteArray → Option octet_Read.R
  | 0, _ => none
  | k + 1, x0 =>
    some (((), ()), ((x0, 0, 0, ()), ()))
abbrev octet_Read.ini : LSh := ⟨[(0, .val .str)], []⟩
abbrev octet_Read.out : LSh := ⟨[(0, .ptr 4000000 0)], [(4000000, 127, [.val .str, .val (.int .i64), .val (.int .i64)])]⟩
noncomputable def octet_Read.labF : Nat → List (LabF octet_Read.out.den)
  | _ => []
noncomputable def octet_Read.fd : FnD := ⟨Try.f62, octet_Read.ini, octet_Read.out, 1, [], [], octet_Read.labF, fun k (d : (ByteArray × Unit) × (Unit)) => (octet_Read.f k d.1.1 : Option octet_Read.R), none, []⟩

/-! ### octet_Reader_Fail : function 73 -/
abbrev octet_Reader_Fail.R := (Unit) × ((ByteArray × Int × Int × Unit) × Unit)
noncomputable def octet_Reader_Fail.f : Nat → Int → ByteArray → Int → Int → Option octet_Reader_Fail.R
  | 0, _, _, _, _ => none
  | k + 1, x1, o0_0, o0_1, o0_2 =>
    bif (o0_2 : Int) == 0 then
      some ((()), ((o0_0, o0_1, x1, ()), ()))
    else
      some ((()), ((o0_0, o0_1, o0_2, ()), ()))
abbrev octet_Reader_Fail.ini : LSh := ⟨[(0, .ptr 1000000 0), (1, .val (.int .i64))], [(1000000, 127, [.val .str, .val (.int .i64), .val (.int .i64)])]⟩
abbrev octet_Reader_Fail.out : LSh := ⟨[], [(1000000, 127, [.val .str, .val (.int .i64), .val (.int .i64)])]⟩
noncomputable def octet_Reader_Fail.labF : Nat → List (LabF octet_Reader_Fail.out.den)
  | _ => []
noncomputable def octet_Reader_Fail.fd : FnD := ⟨Try.f73, octet_Reader_Fail.ini, octet_Reader_Fail.out, 0, [1000000], [], octet_Reader_Fail.labF, fun k (d : (Unit × Int × Unit) × ((ByteArray × Int × Int × Unit) × Unit)) => (octet_Reader_Fail.f k d.1.2.1 d.2.1.1 d.2.1.2.1 d.2.1.2.2.1 : Option octet_Reader_Fail.R), none, []⟩

/-! ### octet_Reader_Err : function 74 -/
abbrev octet_Reader_Err.R := (Int × Unit) × (Unit)
noncomputable def octet_Reader_Err.f : Nat → ByteArray → Int → Int → Option octet_Reader_Err.R
  | 0, _, _, _ => none
  | k + 1, o0_0, o0_1, o0_2 =>
    some ((o0_2, ()), (()))
abbrev octet_Reader_Err.ini : LSh := ⟨[(0, .ptr 1000000 0)], [(1000000, 127, [.val .str, .val (.int .i64), .val (.int .i64)])]⟩
abbrev octet_Reader_Err.out : LSh := ⟨[(0, .val (.int .i64))], []⟩
noncomputable def octet_Reader_Err.labF : Nat → List (LabF octet_Reader_Err.out.den)
  | _ => []
noncomputable def octet_Reader_Err.fd : FnD := ⟨Try.f74, octet_Reader_Err.ini, octet_Reader_Err.out, 1, [1000000], [1000000], octet_Reader_Err.labF, fun k (d : (Unit × Unit) × ((ByteArray × Int × Int × Unit) × Unit)) => (octet_Reader_Err.f k d.2.1.1 d.2.1.2.1 d.2.1.2.2.1 : Option octet_Reader_Err.R), none, []⟩

/-! ### octet_Reader_Raw : function 72 -/
abbrev octet_Reader_Raw.R := (ByteArray × Unit) × ((ByteArray × Int × Int × Unit) × Unit)
noncomputable def octet_Reader_Raw.f : Nat → Int → ByteArray → Int → Int → Option octet_Reader_Raw.R
  | 0, _, _, _, _ => none
  | k + 1, x1, o0_0, o0_1, o0_2 =>
    (octet_Reader_Err.f k o0_0 o0_1 o0_2).bind fun r1 =>
    bif (r1.1.1 : Int) != 0 then
      some (((⟨#[]⟩ : ByteArray), ()), ((o0_0, o0_1, o0_2, ()), ()))
    else
    bif decide ((x1 : Int) < 0) then
      (octet_Reader_Fail.f k 1 o0_0 o0_1 o0_2).bind fun r2 =>
      some (((⟨#[]⟩ : ByteArray), ()), ((r2.2.1.1, r2.2.1.2.1, r2.2.1.2.2.1, ()), ()))
    else
    bif decide ((x1 : Int) > IntKind.wrap .i64 ((o0_0.size : Int) - o0_1)) then
      (octet_Reader_Fail.f k 2 o0_0 o0_1 o0_2).bind fun r3 =>
      some (((⟨#[]⟩ : ByteArray), ()), ((r3.2.1.1, r3.2.1.2.1, r3.2.1.2.2.1, ()), ()))
    else
      (ck (decide (0 ≤ IntKind.wrap .i64 ((IntKind.wrap .i64 (o0_1 + x1)) - x1)) && decide (IntKind.wrap .i64 ((IntKind.wrap .i64 (o0_1 + x1)) - x1) ≤ IntKind.wrap .i64 (o0_1 + x1)) && decide (IntKind.wrap .i64 (o0_1 + x1) ≤ (o0_0.size : Int)))).bind fun _ =>
      some ((o0_0.extract (IntKind.wrap .i64 ((IntKind.wrap .i64 (o0_1 + x1)) - x1) : Int).toNat (IntKind.wrap .i64 (o0_1 + x1) : Int).toNat, ()), ((o0_0, IntKind.wrap .i64 (o0_1 + x1), o0_2, ()), ()))
abbrev octet_Reader_Raw.ini : LSh := ⟨[(0, .ptr 1000000 0), (1, .val (.int .i64))], [(1000000, 127, [.val .str, .val (.int .i64), .val (.int .i64)])]⟩
abbrev octet_Reader_Raw.out : LSh := ⟨[(0, .val .str)], [(1000000, 127, [.val .str, .val (.int .i64), .val (.int .i64)])]⟩
noncomputable def octet_Reader_Raw.labF : Nat → List (LabF octet_Reader_Raw.out.den)
  | _ => []
noncomputable def octet_Reader_Raw.fd : FnD := ⟨Try.f72, octet_Reader_Raw.ini, octet_Reader_Raw.out, 1, [1000000], [], octet_Reader_Raw.labF, fun k (d : (Unit × Int × Unit) × ((ByteArray × Int × Int × Unit) × Unit)) => (octet_Reader_Raw.f k d.1.2.1 d.2.1.1 d.2.1.2.1 d.2.1.2.2.1 : Option octet_Reader_Raw.R), none, []⟩

/-! ### octet_Reader_Num : function 63 -/
abbrev octet_Reader_Num.R := (Int × Unit) × ((ByteArray × Int × Int × Unit) × Unit)
mutual
noncomputable def octet_Reader_Num.l0 : Nat → Int → Int → (List Int) → Int → Int → ByteArray → Int → Int → Option octet_Reader_Num.R
  | 0, _, _, _, _, _, _, _, _ => none
  | k + 1, x1, x7, x24, x25, x26, o0_0, o0_1, o0_2 =>
    bif decide ((x26 : Int) < x25) then
      (rdo x24 x26).bind fun t5 =>
      bif (x26 : Int) == 0 then
        bif (t5 : Int) == 0 then
          (octet_Reader_Fail.f k 4 o0_0 o0_1 o0_2).bind fun r6 =>
          some ((0, ()), ((r6.2.1.1, r6.2.1.2.1, r6.2.1.2.2.1, ()), ()))
        else
          (ck (!decide ((8 : Int) < 0))).bind fun _ =>
          octet_Reader_Num.l0 k x1 (IntKind.wrap .i64 ((BitVec.ofInt (IntKind.bits .i64) (IntKind.wrap .i64 (x7 * 2 ^ (min (8 : Int).toNat (IntKind.bits .i64)))) ||| BitVec.ofInt (IntKind.bits .i64) (IntKind.wrap .i64 t5)).toNat : Int)) x24 x25 (IntKind.wrap .i64 (x26 + 1)) o0_0 o0_1 o0_2
      else
        (ck (!decide ((8 : Int) < 0))).bind fun _ =>
        octet_Reader_Num.l0 k x1 (IntKind.wrap .i64 ((BitVec.ofInt (IntKind.bits .i64) (IntKind.wrap .i64 (x7 * 2 ^ (min (8 : Int).toNat (IntKind.bits .i64)))) ||| BitVec.ofInt (IntKind.bits .i64) (IntKind.wrap .i64 t5)).toNat : Int)) x24 x25 (IntKind.wrap .i64 (x26 + 1)) o0_0 o0_1 o0_2
    else
      (octet_Reader_Err.f k o0_0 o0_1 o0_2).bind fun r7 =>
      bif (r7.1.1 : Int) != 0 then
        some ((0, ()), ((o0_0, o0_1, o0_2, ()), ()))
      else
      bif decide ((x7 : Int) > x1) then
        (octet_Reader_Fail.f k 3 o0_0 o0_1 o0_2).bind fun r8 =>
        some ((0, ()), ((r8.2.1.1, r8.2.1.2.1, r8.2.1.2.2.1, ()), ()))
      else
        some ((x7, ()), ((o0_0, o0_1, o0_2, ()), ()))
noncomputable def octet_Reader_Num.f : Nat → Int → ByteArray → Int → Int → Option octet_Reader_Num.R
  | 0, _, _, _, _ => none
  | k + 1, x1, o0_0, o0_1, o0_2 =>
    (octet_Reader_Raw.f k 1 o0_0 o0_1 o0_2).bind fun r1 =>
    bif r1.1.1.toList == (⟨#[]⟩ : ByteArray).toList then
      some ((0, ()), ((r1.2.1.1, r1.2.1.2.1, r1.2.1.2.2.1, ()), ()))
    else
      (bto r1.1.1 0).bind fun t2 =>
      bif decide ((IntKind.wrap .i64 t2 : Int) > 7) then
        (octet_Reader_Fail.f k 4 r1.2.1.1 r1.2.1.2.1 r1.2.1.2.2.1).bind fun r3 =>
        some ((0, ()), ((r3.2.1.1, r3.2.1.2.1, r3.2.1.2.2.1, ()), ()))
      else
        (octet_Reader_Raw.f k (IntKind.wrap .i64 t2) r1.2.1.1 r1.2.1.2.1 r1.2.1.2.2.1).bind fun r4 =>
        octet_Reader_Num.l0 k x1 0 (bytesOf r4.1.1) ((bytesOf r4.1.1).length : Int) 0 r4.2.1.1 r4.2.1.2.1 r4.2.1.2.2.1
end
abbrev octet_Reader_Num.ini : LSh := ⟨[(0, .ptr 1000000 0), (1, .val (.int .i64))], [(1000000, 127, [.val .str, .val (.int .i64), .val (.int .i64)])]⟩
abbrev octet_Reader_Num.out : LSh := ⟨[(0, .val (.int .i64))], [(1000000, 127, [.val .str, .val (.int .i64), .val (.int .i64)])]⟩
abbrev octet_Reader_Num.l0s : LSh := ⟨[(0, .ptr 1000000 0), (1, .val (.int .i64)), (7, .val (.int .i64)), (24, .own 2000024 5 (.int .u8)), (25, .val (.int .i64)), (26, .val (.int .i64))], [(1000000, 127, [.val .str, .val (.int .i64), .val (.int .i64)])]⟩
noncomputable def octet_Reader_Num.labF : Nat → List (LabF octet_Reader_Num.out.den)
  | 20 => [⟨octet_Reader_Num.l0s, fun k (d : (Unit × Int × Int × List Int × Int × Int × Unit) × ((ByteArray × Int × Int × Unit) × Unit)) => (octet_Reader_Num.l0 k d.1.2.1 d.1.2.2.1 d.1.2.2.2.1 d.1.2.2.2.2.1 d.1.2.2.2.2.2.1 d.2.1.1 d.2.1.2.1 d.2.1.2.2.1 : Option octet_Reader_Num.R)⟩]
  | _ => []
noncomputable def octet_Reader_Num.fd : FnD := ⟨Try.f63, octet_Reader_Num.ini, octet_Reader_Num.out, 1, [1000000], [], octet_Reader_Num.labF, fun k (d : (Unit × Int × Unit) × ((ByteArray × Int × Int × Unit) × Unit)) => (octet_Reader_Num.f k d.1.2.1 d.2.1.1 d.2.1.2.1 d.2.1.2.2.1 : Option octet_Reader_Num.R), none, []⟩

/-! ### octet_Reader_Text : function 64 -/
abbrev octet_Reader_Text.R := (ByteArray × Unit) × ((ByteArray × Int × Int × Unit) × Unit)
noncomputable def octet_Reader_Text.f : Nat → Int → ByteArray → Int → Int → Option octet_Reader_Text.R
  | 0, _, _, _, _ => none
  | k + 1, x1, o0_0, o0_1, o0_2 =>
    (octet_Reader_Num.f k x1 o0_0 o0_1 o0_2).bind fun r1 =>
    (octet_Reader_Raw.f k r1.1.1 r1.2.1.1 r1.2.1.2.1 r1.2.1.2.2.1).bind fun r2 =>
    some ((r2.1.1, ()), ((r2.2.1.1, r2.2.1.2.1, r2.2.1.2.2.1, ()), ()))
abbrev octet_Reader_Text.ini : LSh := ⟨[(0, .ptr 1000000 0), (1, .val (.int .i64))], [(1000000, 127, [.val .str, .val (.int .i64), .val (.int .i64)])]⟩
abbrev octet_Reader_Text.out : LSh := ⟨[(0, .val .str)], [(1000000, 127, [.val .str, .val (.int .i64), .val (.int .i64)])]⟩
noncomputable def octet_Reader_Text.labF : Nat → List (LabF octet_Reader_Text.out.den)
  | _ => []
noncomputable def octet_Reader_Text.fd : FnD := ⟨Try.f64, octet_Reader_Text.ini, octet_Reader_Text.out, 1, [1000000], [], octet_Reader_Text.labF, fun k (d : (Unit × Int × Unit) × ((ByteArray × Int × Int × Unit) × Unit)) => (octet_Reader_Text.f k d.1.2.1 d.2.1.1 d.2.1.2.1 d.2.1.2.2.1 : Option octet_Reader_Text.R), none, []⟩

/-! ### octet_Reader_Texts : function 65 -/
abbrev octet_Reader_Texts.R := (List ByteArray × Unit) × ((ByteArray × Int × Int × Unit) × Unit)
mutual
noncomputable def octet_Reader_Texts.l0 : Nat → Int → (List ByteArray) → Int → Int → ByteArray → Int → Int → Option octet_Reader_Texts.R
  | 0, _, _, _, _, _, _, _ => none
  | k + 1, x2, x7, x11, x12, o0_0, o0_1, o0_2 =>
    bif decide ((x12 : Int) < x11) then
      (octet_Reader_Text.f k x2 o0_0 o0_1 o0_2).bind fun r2 =>
      (octet_Reader_Err.f k r2.2.1.1 r2.2.1.2.1 r2.2.1.2.2.1).bind fun r3 =>
      bif (r3.1.1 : Int) != 0 then
        some ((([] : List ByteArray), ()), ((r2.2.1.1, r2.2.1.2.1, r2.2.1.2.2.1, ()), ()))
      else
        (ck (decide ((x7.length + ([r2.1.1] : List ByteArray).length) * 16 ≤ 70368744177664))).bind fun _ =>
        octet_Reader_Texts.l0 k x2 (x7 ++ ([r2.1.1] : List ByteArray)) x11 (IntKind.wrap .i64 (x12 + 1)) r2.2.1.1 r2.2.1.2.1 r2.2.1.2.2.1
    else
      some ((x7, ()), ((o0_0, o0_1, o0_2, ()), ()))
noncomputable def octet_Reader_Texts.f : Nat → Int → Int → ByteArray → Int → Int → Option octet_Reader_Texts.R
  | 0, _, _, _, _, _ => none
  | k + 1, x1, x2, o0_0, o0_1, o0_2 =>
    (octet_Reader_Num.f k x1 o0_0 o0_1 o0_2).bind fun r1 =>
    octet_Reader_Texts.l0 k x2 [] r1.1.1 0 r1.2.1.1 r1.2.1.2.1 r1.2.1.2.2.1
end
abbrev octet_Reader_Texts.ini : LSh := ⟨[(0, .ptr 1000000 0), (1, .val (.int .i64)), (2, .val (.int .i64))], [(1000000, 127, [.val .str, .val (.int .i64), .val (.int .i64)])]⟩
abbrev octet_Reader_Texts.out : LSh := ⟨[(0, .val (.sl .str))], [(1000000, 127, [.val .str, .val (.int .i64), .val (.int .i64)])]⟩
abbrev octet_Reader_Texts.l0s : LSh := ⟨[(0, .ptr 1000000 0), (2, .val (.int .i64)), (7, .own 2000007 9 .str), (11, .val (.int .i64)), (12, .val (.int .i64))], [(1000000, 127, [.val .str, .val (.int .i64), .val (.int .i64)])]⟩
noncomputable def octet_Reader_Texts.labF : Nat → List (LabF octet_Reader_Texts.out.den)
  | 6 => [⟨octet_Reader_Texts.l0s, fun k (d : (Unit × Int × List ByteArray × Int × Int × Unit) × ((ByteArray × Int × Int × Unit) × Unit)) => (octet_Reader_Texts.l0 k d.1.2.1 d.1.2.2.1 d.1.2.2.2.1 d.1.2.2.2.2.1 d.2.1.1 d.2.1.2.1 d.2.1.2.2.1 : Option octet_Reader_Texts.R)⟩]
  | _ => []
noncomputable def octet_Reader_Texts.fd : FnD := ⟨Try.f65, octet_Reader_Texts.ini, octet_Reader_Texts.out, 1, [1000000], [], octet_Reader_Texts.labF, fun k (d : (Unit × Int × Int × Unit) × ((ByteArray × Int × Int × Unit) × Unit)) => (octet_Reader_Texts.f k d.1.2.1 d.1.2.2.1 d.2.1.1 d.2.1.2.1 d.2.1.2.2.1 : Option octet_Reader_Texts.R), none, []⟩

/-! ### octet_Reader_Left : function 75 -/
abbrev octet_Reader_Left.R := (Int × Unit) × (Unit)
noncomputable def octet_Reader_Left.f : Nat → ByteArray → Int → Int → Option octet_Reader_Left.R
  | 0, _, _, _ => none
  | k + 1, o0_0, o0_1, o0_2 =>
    (octet_Reader_Err.f k o0_0 o0_1 o0_2).bind fun r1 =>
    bif (r1.1.1 : Int) != 0 then
      some ((0, ()), (()))
    else
      some ((IntKind.wrap .i64 ((o0_0.size : Int) - o0_1), ()), (()))
abbrev octet_Reader_Left.ini : LSh := ⟨[(0, .ptr 1000000 0)], [(1000000, 127, [.val .str, .val (.int .i64), .val (.int .i64)])]⟩
abbrev octet_Reader_Left.out : LSh := ⟨[(0, .val (.int .i64))], []⟩
noncomputable def octet_Reader_Left.labF : Nat → List (LabF octet_Reader_Left.out.den)
  | _ => []
noncomputable def octet_Reader_Left.fd : FnD := ⟨Try.f75, octet_Reader_Left.ini, octet_Reader_Left.out, 1, [1000000], [1000000], octet_Reader_Left.labF, fun k (d : (Unit × Unit) × ((ByteArray × Int × Int × Unit) × Unit)) => (octet_Reader_Left.f k d.2.1.1 d.2.1.2.1 d.2.1.2.2.1 : Option octet_Reader_Left.R), none, []⟩

/-! ### octet_Reader_End : function 66 -/
abbrev octet_Reader_End.R := (Int × Unit) × ((ByteArray × Int × Int × Unit) × Unit)
noncomputable def octet_Reader_End.f : Nat → ByteArray → Int → Int → Option octet_Reader_End.R
  | 0, _, _, _ => none
  | k + 1, o0_0, o0_1, o0_2 =>
    (octet_Reader_Left.f k o0_0 o0_1 o0_2).bind fun r1 =>
    bif decide ((r1.1.1 : Int) > 0) then
      (octet_Reader_Fail.f k 4 o0_0 o0_1 o0_2).bind fun r2 =>
      (octet_Reader_Err.f k r2.2.1.1 r2.2.1.2.1 r2.2.1.2.2.1).bind fun r3 =>
      some ((r3.1.1, ()), ((r2.2.1.1, r2.2.1.2.1, r2.2.1.2.2.1, ()), ()))
    else
      (octet_Reader_Err.f k o0_0 o0_1 o0_2).bind fun r4 =>
      some ((r4.1.1, ()), ((o0_0, o0_1, o0_2, ()), ()))
abbrev octet_Reader_End.ini : LSh := ⟨[(0, .ptr 1000000 0)], [(1000000, 127, [.val .str, .val (.int .i64), .val (.int .i64)])]⟩
abbrev octet_Reader_End.out : LSh := ⟨[(0, .val (.int .i64))], [(1000000, 127, [.val .str, .val (.int .i64), .val (.int .i64)])]⟩
noncomputable def octet_Reader_End.labF : Nat → List (LabF octet_Reader_End.out.den)
  | _ => []
noncomputable def octet_Reader_End.fd : FnD := ⟨Try.f66, octet_Reader_End.ini, octet_Reader_End.out, 1, [1000000], [], octet_Reader_End.labF, fun k (d : (Unit × Unit) × ((ByteArray × Int × Int × Unit) × Unit)) => (octet_Reader_End.f k d.2.1.1 d.2.1.2.1 d.2.1.2.2.1 : Option octet_Reader_End.R), none, []⟩

/-! ### proof_ReadGrowth : function 52 -/
abbrev proof_ReadGrowth.R := ((Ab4 × List ByteArray × Unit) × Int × Unit) × (Unit)
noncomputable def proof_ReadGrowth.f : Nat → ByteArray → Option proof_ReadGrowth.R
  | 0, _ => none
  | k + 1, x0 =>
    (octet_Read.f k x0).bind fun r1 =>
    (octet_Reader_Num.f k 65536 r1.2.1.1 r1.2.1.2.1 r1.2.1.2.2.1).bind fun r2 =>
    (octet_Reader_Text.f k 32 r2.2.1.1 r2.2.1.2.1 r2.2.1.2.2.1).bind fun r3 =>
    (octet_Reader_Texts.f k 17 32 r3.2.1.1 r3.2.1.2.1 r3.2.1.2.2.1).bind fun r4 =>
    (octet_Reader_End.f k r4.2.1.1 r4.2.1.2.1 r4.2.1.2.2.1).bind fun r5 =>
    bif (r5.1.1 : Int) != 0 then
      some ((((0, (ByteArray.empty, ())), (([] : List ByteArray), ())), r5.1.1, ()), (()))
    else
      (proof_RightGrowth.f k ((r2.1.1, r3.1), r4.1)).bind fun r6 =>
      bif !r6.1.1 then
        some ((((0, (ByteArray.empty, ())), (([] : List ByteArray), ())), 4, ()), (()))
      else
        some ((((r2.1.1, r3.1), r4.1), 0, ()), (()))
abbrev proof_ReadGrowth.ini : LSh := ⟨[(0, .val .str)], []⟩
abbrev proof_ReadGrowth.out : LSh := ⟨[(0, .val (.cons Ac6 (.cons (.sl .str) .nil))), (1, .val (.int .i64))], []⟩
noncomputable def proof_ReadGrowth.labF : Nat → List (LabF proof_ReadGrowth.out.den)
  | _ => []
noncomputable def proof_ReadGrowth.fd : FnD := ⟨Try.f52, proof_ReadGrowth.ini, proof_ReadGrowth.out, 2, [], [], proof_ReadGrowth.labF, fun k (d : (ByteArray × Unit) × (Unit)) => (proof_ReadGrowth.f k d.1.1 : Option proof_ReadGrowth.R), none, []⟩

/-! ### auditor_Auditor_known_1_v0 : function 68 -/
abbrev auditor_Auditor_known_1_v0.R := (Bool × Unit) × (Unit)
noncomputable def auditor_Auditor_known_1_v0.f : Nat → Ab4 → Int → Option auditor_Auditor_known_1_v0.R
  | 0, _, _ => none
  | k + 1, x0, o0_0 =>
    some (((x0.1 : Int) == o0_0, ()), (()))
abbrev auditor_Auditor_known_1_v0.ini : LSh := ⟨[(0, .val Ac6), (1, .ptr 1000000 0)], [(1000000, 3, [.val (.int .i64)])]⟩
abbrev auditor_Auditor_known_1_v0.out : LSh := ⟨[(0, .val .bool)], []⟩
noncomputable def auditor_Auditor_known_1_v0.labF : Nat → List (LabF auditor_Auditor_known_1_v0.out.den)
  | _ => []
noncomputable def auditor_Auditor_known_1_v0.fd : FnD := ⟨Try.f68, auditor_Auditor_known_1_v0.ini, auditor_Auditor_known_1_v0.out, 1, [1000000], [1000000], auditor_Auditor_known_1_v0.labF, fun k (d : (Ab4 × Unit × Unit) × ((Int × Unit) × Unit)) => (auditor_Auditor_known_1_v0.f k d.1.1 d.2.1.1 : Option auditor_Auditor_known_1_v0.R), none, []⟩

/-! ### slices_IndexFunc_api_Point_v0 : function 67 -/
abbrev slices_IndexFunc_api_Point_v0.R := (Int × Unit) × (Unit)
mutual
noncomputable def slices_IndexFunc_api_Point_v0.l0 : Nat → (List Ab4) → Int → Int → Int → Option slices_IndexFunc_api_Point_v0.R
  | 0, _, _, _, _ => none
  | k + 1, x0, x7, x8, o0_0 =>
    bif decide ((x8 : Int) < x7) then
      (rdo x0 x8).bind fun t1 =>
      (auditor_Auditor_known_1_v0.f k t1 o0_0).bind fun r2 =>
      bif r2.1.1 then
        some ((x8, ()), (()))
      else
        slices_IndexFunc_api_Point_v0.l0 k x0 x7 (IntKind.wrap .i64 (x8 + 1)) o0_0
    else
      some (((-1), ()), (()))
noncomputable def slices_IndexFunc_api_Point_v0.f : Nat → (List Ab4) → Int → Option slices_IndexFunc_api_Point_v0.R
  | 0, _, _ => none
  | k + 1, x0, o0_0 =>
    slices_IndexFunc_api_Point_v0.l0 k x0 (x0.length : Int) 0 o0_0
end
abbrev slices_IndexFunc_api_Point_v0.ini : LSh := ⟨[(0, .val (.sl Ac6)), (1, .clo 68 [(1000000, 0)])], [(1000000, 3, [.val (.int .i64)])]⟩
abbrev slices_IndexFunc_api_Point_v0.out : LSh := ⟨[(0, .val (.int .i64))], []⟩
abbrev slices_IndexFunc_api_Point_v0.l0s : LSh := ⟨[(0, .val (.sl Ac6)), (1, .clo 68 [(1000000, 0)]), (7, .val (.int .i64)), (8, .val (.int .i64))], [(1000000, 3, [.val (.int .i64)])]⟩
noncomputable def slices_IndexFunc_api_Point_v0.labF : Nat → List (LabF slices_IndexFunc_api_Point_v0.out.den)
  | 4 => [⟨slices_IndexFunc_api_Point_v0.l0s, fun k (d : ((List Ab4) × Unit × Int × Int × Unit) × ((Int × Unit) × Unit)) => (slices_IndexFunc_api_Point_v0.l0 k d.1.1 d.1.2.2.1 d.1.2.2.2.1 d.2.1.1 : Option slices_IndexFunc_api_Point_v0.R)⟩]
  | _ => []
noncomputable def slices_IndexFunc_api_Point_v0.fd : FnD := ⟨Try.f67, slices_IndexFunc_api_Point_v0.ini, slices_IndexFunc_api_Point_v0.out, 1, [1000000], [1000000], slices_IndexFunc_api_Point_v0.labF, fun k (d : ((List Ab4) × Unit × Unit) × ((Int × Unit) × Unit)) => (slices_IndexFunc_api_Point_v0.f k d.1.1 d.2.1.1 : Option slices_IndexFunc_api_Point_v0.R), none, []⟩

/-! ### auditor_Auditor_known : function 53 -/
abbrev auditor_Auditor_known.R := (Ab4 × Bool × Unit) × (Unit)
noncomputable def auditor_Auditor_known.f : Nat → Int → (List Ab4) → Ab0 → Int → Ab12 → Bool → Bool → Int → Ab5 → Ab5 → Option auditor_Auditor_known.R
  | 0, _, _, _, _, _, _, _, _, _, _ => none
  | k + 1, x1, o0_1, o0_2, o0_3, o1_2, o1_3, o1_4, o1_5, o2_0, o3_0 =>
    (slices_IndexFunc_api_Point_v0.f k o0_1 x1).bind fun r1 =>
    bif decide ((r1.1.1 : Int) < 0) then
      some (((0, (ByteArray.empty, ())), false, ()), (()))
    else
      (rdo o0_1 r1.1.1).bind fun t2 =>
      some ((t2, true, ()), (()))
abbrev auditor_Auditor_known.ini : LSh := ⟨[(0, .ptr 1000000 0), (1, .val (.int .i64))], [(1000000, 88, [.ptr 1000001 0, .val (.sl Ac6), .val (.sl Ac1), .val (.int .i64)]), (1000001, 80, [.mref 1000002, .mref 1000003, .val Ac10, .val .bool, .val .bool, .val (.int .i64)]), (1000002, 77, [.mapd]), (1000003, 77, [.mapd])]⟩
abbrev auditor_Auditor_known.out : LSh := ⟨[(0, .val Ac6), (1, .val .bool)], []⟩
noncomputable def auditor_Auditor_known.labF : Nat → List (LabF auditor_Auditor_known.out.den)
  | _ => []
noncomputable def auditor_Auditor_known.fd : FnD := ⟨Try.f53, auditor_Auditor_known.ini, auditor_Auditor_known.out, 2, [1000000, 1000001, 1000002, 1000003], [1000000, 1000001, 1000002, 1000003], auditor_Auditor_known.labF, fun k (d : (Unit × Int × Unit) × (Ab9 × Ab8 × (Ab5 × Unit) × (Ab5 × Unit) × Unit)) => (auditor_Auditor_known.f k d.1.2.1 d.2.1.2.1 d.2.1.2.2.1 d.2.1.2.2.2.1 d.2.2.1.2.2.1 d.2.2.1.2.2.2.1 d.2.2.1.2.2.2.2.1 d.2.2.1.2.2.2.2.2.1 d.2.2.2.1.1 d.2.2.2.2.1.1 : Option auditor_Auditor_known.R), none, []⟩

/-! ### auditor_Auditor_Meet : function 35 -/
abbrev auditor_Auditor_Meet.R := (Int × Unit) × (Ab9 × Ab8 × (Ab5 × Unit) × Unit)
mutual
noncomputable def auditor_Auditor_Meet.j0 : Nat → (List Ab4) → Ab0 → Int → Ab12 → Bool → Bool → Int → Ab5 → Ab5 → Ab4 → (List ByteArray) → Int → ByteArray → Option auditor_Auditor_Meet.R
  | 0, _, _, _, _, _, _, _, _, _, _, _, _, _ => none
  | k + 1, o0_1, o0_2, o0_3, o1_2, o1_3, o1_4, o1_5, o2_0, o3_0, o5_0, o5_1, o9_0, o9_1 =>
    (merkle_Grown.f k (o9_0, (o9_1, ())) o5_0 o5_1 o1_2 o1_3 o1_4 o1_5 o2_0 o3_0).bind fun r9 =>
    bif (r9.1.1 : Int) != 0 then
      (auditor_Auditor_count.f k o0_1 o0_2 o0_3 r9.2.1.2.2.1 r9.2.1.2.2.2.1 r9.2.1.2.2.2.2.1 r9.2.1.2.2.2.2.2.1 o2_0 r9.2.2.1.1).bind fun r10 =>
      some ((r9.1.1, ()), (((), r10.2.1.2.1, r10.2.1.2.2.1, r10.2.1.2.2.2.1, ()), ((), (), r9.2.1.2.2.1, r9.2.1.2.2.2.1, r9.2.1.2.2.2.2.1, r9.2.1.2.2.2.2.2.1, ()), (r9.2.2.1.1, ()), ()))
    else
      (ck (decide ((o0_1.length + ([o5_0] : List Ab4).length) * 24 ≤ 70368744177664))).bind fun _ =>
      (auditor_Auditor_count.f k (o0_1 ++ ([o5_0] : List Ab4)) o0_2 o0_3 r9.2.1.2.2.1 r9.2.1.2.2.2.1 r9.2.1.2.2.2.2.1 r9.2.1.2.2.2.2.2.1 o2_0 r9.2.2.1.1).bind fun r11 =>
      some ((0, ()), (((), r11.2.1.2.1, r11.2.1.2.2.1, r11.2.1.2.2.2.1, ()), ((), (), r9.2.1.2.2.1, r9.2.1.2.2.2.1, r9.2.1.2.2.2.2.1, r9.2.1.2.2.2.2.2.1, ()), (r9.2.2.1.1, ()), ()))
noncomputable def auditor_Auditor_Meet.f : Nat → ByteArray → (List Ab4) → Ab0 → Int → Ab12 → Bool → Bool → Int → Ab5 → Ab5 → Option auditor_Auditor_Meet.R
  | 0, _, _, _, _, _, _, _, _, _, _ => none
  | k + 1, x1, o0_1, o0_2, o0_3, o1_2, o1_3, o1_4, o1_5, o2_0, o3_0 =>
    (auditor_Auditor_none.f k o0_1 o0_2 o0_3 o1_2 o1_3 o1_4 o1_5 o2_0 o3_0).bind fun r1 =>
    bif r1.1.1 then
      some ((9, ()), (((), o0_1, o0_2, o0_3, ()), ((), (), o1_2, o1_3, o1_4, o1_5, ()), (o3_0, ()), ()))
    else
      (proof_ReadGrowth.f k x1).bind fun r2 =>
      bif (r2.1.2.1 : Int) != 0 then
        (auditor_Auditor_count.f k o0_1 o0_2 o0_3 o1_2 o1_3 o1_4 o1_5 o2_0 o3_0).bind fun r3 =>
        some ((r2.1.2.1, ()), (((), r3.2.1.2.1, r3.2.1.2.2.1, r3.2.1.2.2.2.1, ()), ((), (), o1_2, o1_3, o1_4, o1_5, ()), (o3_0, ()), ()))
      else
        (auditor_Auditor_known.f k r2.1.1.1.1 o0_1 o0_2 o0_3 o1_2 o1_3 o1_4 o1_5 o2_0 o3_0).bind fun r4 =>
        bif r4.1.2.1 then
          bif !(r4.1.1.2.1.toList == r2.1.1.1.2.1.toList) then
            (ck (decide ((o0_2.length + ([(r4.1.1, (r2.1.1.1, ()))] : List (Ab4 × Ab4 × Unit)).length) * 48 ≤ 70368744177664))).bind fun _ =>
            (auditor_Auditor_count.f k o0_1 (o0_2 ++ ([(r4.1.1, (r2.1.1.1, ()))] : List (Ab4 × Ab4 × Unit))) o0_3 o1_2 o1_3 o1_4 o1_5 o2_0 o3_0).bind fun r5 =>
            some ((23, ()), (((), r5.2.1.2.1, r5.2.1.2.2.1, r5.2.1.2.2.2.1, ()), ((), (), o1_2, o1_3, o1_4, o1_5, ()), (o3_0, ()), ()))
          else
            (auditor_Auditor_count.f k o0_1 o0_2 o0_3 o1_2 o1_3 o1_4 o1_5 o2_0 o3_0).bind fun r6 =>
            some ((25, ()), (((), r6.2.1.2.1, r6.2.1.2.2.1, r6.2.1.2.2.2.1, ()), ((), (), o1_2, o1_3, o1_4, o1_5, ()), (o3_0, ()), ()))
        else
          (auditor_Auditor_Last.f k o0_1 o0_2 o0_3 o1_2 o1_3 o1_4 o1_5 o2_0 o3_0).bind fun r7 =>
          bif !r7.1.2.1 then
            (pledge_None.f k o1_2 o1_3 o1_4 o1_5 o2_0 o3_0).bind fun r8 =>
            auditor_Auditor_Meet.j0 k o0_1 o0_2 o0_3 r8.2.1.2.2.1 r8.2.1.2.2.2.1 r8.2.1.2.2.2.2.1 r8.2.1.2.2.2.2.2.1 o2_0 r8.2.2.1.1 r2.1.1.1 r2.1.1.2.1 0 r8.1.1
          else
            auditor_Auditor_Meet.j0 k o0_1 o0_2 o0_3 o1_2 o1_3 o1_4 o1_5 o2_0 o3_0 r2.1.1.1 r2.1.1.2.1 r7.1.1.1 r7.1.1.2.1
end
abbrev auditor_Auditor_Meet.ini : LSh := ⟨[(0, .ptr 1000000 0), (1, .val .str)], [(1000000, 88, [.ptr 1000001 0, .own 3000401 25 Ac6, .own 3000402 27 Ac1, .val (.int .i64)]), (1000001, 80, [.mref 1000002, .mref 1000003, .val Ac10, .val .bool, .val .bool, .val (.int .i64)]), (1000002, 77, [.mapd]), (1000003, 77, [.mapd])]⟩
abbrev auditor_Auditor_Meet.out : LSh := ⟨[(0, .val (.int .i64))], [(1000000, 88, [.ptr 1000001 0, .own 3000401 25 Ac6, .own 3000402 27 Ac1, .val (.int .i64)]), (1000001, 80, [.mref 1000002, .mref 1000003, .val Ac10, .val .bool, .val .bool, .val (.int .i64)]), (1000003, 77, [.mapd])]⟩
abbrev auditor_Auditor_Meet.j0s : LSh := ⟨[(0, .ptr 1000000 0), (5, .ptr 5 0), (9, .ptr 9 0), (0, .mark)], [(1000000, 88, [.ptr 1000001 0, .own 3000001 25 Ac6, .own 3000002 27 Ac1, .val (.int .i64)]), (1000001, 80, [.mref 1000002, .mref 1000003, .val Ac10, .val .bool, .val .bool, .val (.int .i64)]), (1000002, 77, [.mapd]), (1000003, 77, [.mapd]), (5, 53, [.val Ac6, .val (.sl .str)]), (9, 25, [.val (.int .i64), .val .str])]⟩
noncomputable def auditor_Auditor_Meet.labF : Nat → List (LabF auditor_Auditor_Meet.out.den)
  | 33 => [⟨auditor_Auditor_Meet.j0s, fun k (d : (Unit × Unit × Unit × Unit × Unit) × (Ab9 × Ab8 × (Ab5 × Unit) × (Ab5 × Unit) × (Ab4 × List ByteArray × Unit) × Ab4 × Unit)) => (auditor_Auditor_Meet.j0 k d.2.1.2.1 d.2.1.2.2.1 d.2.1.2.2.2.1 d.2.2.1.2.2.1 d.2.2.1.2.2.2.1 d.2.2.1.2.2.2.2.1 d.2.2.1.2.2.2.2.2.1 d.2.2.2.1.1 d.2.2.2.2.1.1 d.2.2.2.2.2.1.1 d.2.2.2.2.2.1.2.1 d.2.2.2.2.2.2.1.1 d.2.2.2.2.2.2.1.2.1 : Option auditor_Auditor_Meet.R)⟩]
  | _ => []
noncomputable def auditor_Auditor_Meet.fd : FnD := ⟨Try.f35, auditor_Auditor_Meet.ini, auditor_Auditor_Meet.out, 1, [1000000, 1000001, 1000002, 1000003], [1000002], auditor_Auditor_Meet.labF, fun k (d : (Unit × ByteArray × Unit) × (Ab9 × Ab8 × (Ab5 × Unit) × (Ab5 × Unit) × Unit)) => (auditor_Auditor_Meet.f k d.1.2.1 d.2.1.2.1 d.2.1.2.2.1 d.2.1.2.2.2.1 d.2.2.1.2.2.1 d.2.2.1.2.2.2.1 d.2.2.1.2.2.2.2.1 d.2.2.1.2.2.2.2.2.1 d.2.2.2.1.1 d.2.2.2.2.1.1 : Option auditor_Auditor_Meet.R), some (51, 1000000), []⟩

/-! ### gossip_Ring_Tell_v0 : function 22 -/
abbrev gossip_Ring_Tell_v0.R := (Int × Unit) × (Ab8 × (Ab5 × Unit) × Ab9 × Unit)
noncomputable def gossip_Ring_Tell_v0.f : Nat → ByteArray → Ab0 → Ab12 → Bool → Bool → Int → Ab5 → Ab5 → (List Ab4) → Ab0 → Int → (List Ab4) → Ab0 → Int → Option gossip_Ring_Tell_v0.R
  | 0, _, _, _, _, _, _, _, _, _, _, _, _, _, _ => none
  | k + 1, x2, o0_2, o1_2, o1_3, o1_4, o1_5, o2_0, o3_0, o4_1, o4_2, o4_3, o5_1, o5_2, o5_3 =>
    (gossip_Ring_Auditor_v0.f k o0_2 o1_2 o1_3 o1_4 o1_5 o2_0 o3_0 o4_1 o4_2 o4_3 o5_1 o5_2 o5_3).bind fun r1 =>
    (auditor_Auditor_Meet.f k x2 o4_1 o4_2 o4_3 o1_2 o1_3 o1_4 o1_5 o2_0 o3_0).bind fun r2 =>
    some ((r2.1.1, ()), (((), (), r2.2.2.1.2.2.1, r2.2.2.1.2.2.2.1, r2.2.2.1.2.2.2.2.1, r2.2.2.1.2.2.2.2.2.1, ()), (r2.2.2.2.1.1, ()), ((), r2.2.1.2.1, r2.2.1.2.2.1, r2.2.1.2.2.2.1, ()), ()))
abbrev gossip_Ring_Tell_v0.ini : LSh := ⟨[(0, .ptr 1000000 0), (1, .cst .i64 0), (2, .val .str)], [(1000000, 86, [.ptr 1000001 0, .psl [(1000004, 0), (1000005, 0)], .val (.sl Ac1)]), (1000001, 80, [.mref 1000002, .mref 1000003, .val Ac10, .val .bool, .val .bool, .val (.int .i64)]), (1000002, 77, [.mapd]), (1000003, 77, [.mapd]), (1000004, 88, [.ptr 1000001 0, .own 3004001 25 Ac6, .own 3004002 27 Ac1, .val (.int .i64)]), (1000005, 88, [.ptr 1000001 0, .val (.sl Ac6), .val (.sl Ac1), .val (.int .i64)])]⟩
abbrev gossip_Ring_Tell_v0.out : LSh := ⟨[(0, .val (.int .i64))], [(1000001, 80, [.mref 1000002, .mref 1000003, .val Ac10, .val .bool, .val .bool, .val (.int .i64)]), (1000003, 77, [.mapd]), (1000004, 88, [.ptr 1000001 0, .own 3004001 25 Ac6, .own 3004002 27 Ac1, .val (.int .i64)])]⟩
noncomputable def gossip_Ring_Tell_v0.labF : Nat → List (LabF gossip_Ring_Tell_v0.out.den)
  | _ => []
noncomputable def gossip_Ring_Tell_v0.fd : FnD := ⟨Try.f22, gossip_Ring_Tell_v0.ini, gossip_Ring_Tell_v0.out, 1, [1000000, 1000001, 1000002, 1000003, 1000004, 1000005], [1000000, 1000002, 1000005], gossip_Ring_Tell_v0.labF, fun k (d : (Unit × Unit × ByteArray × Unit) × ((Unit × Unit × Ab0 × Unit) × Ab8 × (Ab5 × Unit) × (Ab5 × Unit) × Ab9 × Ab9 × Unit)) => (gossip_Ring_Tell_v0.f k d.1.2.2.1 d.2.1.2.2.1 d.2.2.1.2.2.1 d.2.2.1.2.2.2.1 d.2.2.1.2.2.2.2.1 d.2.2.1.2.2.2.2.2.1 d.2.2.2.1.1 d.2.2.2.2.1.1 d.2.2.2.2.2.1.2.1 d.2.2.2.2.2.1.2.2.1 d.2.2.2.2.2.1.2.2.2.1 d.2.2.2.2.2.2.1.2.1 d.2.2.2.2.2.2.1.2.2.1 d.2.2.2.2.2.2.1.2.2.2.1 : Option gossip_Ring_Tell_v0.R), none, [(88888888, 0, 0)]⟩

/-! ### gossip_Ring_Tell_v1 : function 22 -/
abbrev gossip_Ring_Tell_v1.R := (Int × Unit) × (Ab8 × (Ab5 × Unit) × Ab9 × Unit)
noncomputable def gossip_Ring_Tell_v1.f : Nat → ByteArray → Ab0 → Ab12 → Bool → Bool → Int → Ab5 → Ab5 → (List Ab4) → Ab0 → Int → (List Ab4) → Ab0 → Int → Option gossip_Ring_Tell_v1.R
  | 0, _, _, _, _, _, _, _, _, _, _, _, _, _, _ => none
  | k + 1, x2, o0_2, o1_2, o1_3, o1_4, o1_5, o2_0, o3_0, o4_1, o4_2, o4_3, o5_1, o5_2, o5_3 =>
    (gossip_Ring_Auditor_v1.f k o0_2 o1_2 o1_3 o1_4 o1_5 o2_0 o3_0 o4_1 o4_2 o4_3 o5_1 o5_2 o5_3).bind fun r1 =>
    (auditor_Auditor_Meet.f k x2 o5_1 o5_2 o5_3 o1_2 o1_3 o1_4 o1_5 o2_0 o3_0).bind fun r2 =>
    some ((r2.1.1, ()), (((), (), r2.2.2.1.2.2.1, r2.2.2.1.2.2.2.1, r2.2.2.1.2.2.2.2.1, r2.2.2.1.2.2.2.2.2.1, ()), (r2.2.2.2.1.1, ()), ((), r2.2.1.2.1, r2.2.1.2.2.1, r2.2.1.2.2.2.1, ()), ()))
abbrev gossip_Ring_Tell_v1.ini : LSh := ⟨[(0, .ptr 1000000 0), (1, .cst .i64 1), (2, .val .str)], [(1000000, 86, [.ptr 1000001 0, .psl [(1000004, 0), (1000005, 0)], .val (.sl Ac1)]), (1000001, 80, [.mref 1000002, .mref 1000003, .val Ac10, .val .bool, .val .bool, .val (.int .i64)]), (1000002, 77, [.mapd]), (1000003, 77, [.mapd]), (1000004, 88, [.ptr 1000001 0, .val (.sl Ac6), .val (.sl Ac1), .val (.int .i64)]), (1000005, 88, [.ptr 1000001 0, .own 3005001 25 Ac6, .own 3005002 27 Ac1, .val (.int .i64)])]⟩
abbrev gossip_Ring_Tell_v1.out : LSh := ⟨[(0, .val (.int .i64))], [(1000001, 80, [.mref 1000002, .mref 1000003, .val Ac10, .val .bool, .val .bool, .val (.int .i64)]), (1000003, 77, [.mapd]), (1000005, 88, [.ptr 1000001 0, .own 3005001 25 Ac6, .own 3005002 27 Ac1, .val (.int .i64)])]⟩
noncomputable def gossip_Ring_Tell_v1.labF : Nat → List (LabF gossip_Ring_Tell_v1.out.den)
  | _ => []
noncomputable def gossip_Ring_Tell_v1.fd : FnD := ⟨Try.f22, gossip_Ring_Tell_v1.ini, gossip_Ring_Tell_v1.out, 1, [1000000, 1000001, 1000002, 1000003, 1000004, 1000005], [1000000, 1000002, 1000004], gossip_Ring_Tell_v1.labF, fun k (d : (Unit × Unit × ByteArray × Unit) × ((Unit × Unit × Ab0 × Unit) × Ab8 × (Ab5 × Unit) × (Ab5 × Unit) × Ab9 × Ab9 × Unit)) => (gossip_Ring_Tell_v1.f k d.1.2.2.1 d.2.1.2.2.1 d.2.2.1.2.2.1 d.2.2.1.2.2.2.1 d.2.2.1.2.2.2.2.1 d.2.2.1.2.2.2.2.2.1 d.2.2.2.1.1 d.2.2.2.2.1.1 d.2.2.2.2.2.1.2.1 d.2.2.2.2.2.1.2.2.1 d.2.2.2.2.2.1.2.2.2.1 d.2.2.2.2.2.2.1.2.1 d.2.2.2.2.2.2.1.2.2.1 d.2.2.2.2.2.2.1.2.2.2.1 : Option gossip_Ring_Tell_v1.R), none, [(88888888, 0, 0)]⟩

/-! ### octet_Num : function 56 -/
abbrev octet_Num.R := (ByteArray × Unit) × (Unit)
mutual
noncomputable def octet_Num.l0 : Nat → Int → ByteArray → Option octet_Num.R
  | 0, _, _ => none
  | k + 1, x0, x3 =>
    bif decide ((x0 : Int) > 0) then
      (ck (decide ((strOf ([IntKind.wrap .u8 x0] : List Int)).size + x3.size ≤ 9223372036854775807))).bind fun _ =>
      (ck (!decide ((8 : Int) < 0))).bind fun _ =>
      octet_Num.l0 k (Int.fdiv x0 (2 ^ (min (8 : Int).toNat (IntKind.bits .i64)))) ((strOf ([IntKind.wrap .u8 x0] : List Int)) ++ x3)
    else
      (ck (decide ((strOf ([IntKind.wrap .u8 (x3.size : Int)] : List Int)).size + x3.size ≤ 9223372036854775807))).bind fun _ =>
      some (((strOf ([IntKind.wrap .u8 (x3.size : Int)] : List Int)) ++ x3, ()), (()))
noncomputable def octet_Num.f : Nat → Int → Option octet_Num.R
  | 0, _ => none
  | k + 1, x0 =>
    bif decide ((x0 : Int) < 0) then
      some (((⟨#[]⟩ : ByteArray), ()), (()))
    else
    bif decide ((x0 : Int) ≥ 72057594037927936) then
      some (((⟨#[]⟩ : ByteArray), ()), (()))
    else
      octet_Num.l0 k x0 (⟨#[]⟩ : ByteArray)
end
abbrev octet_Num.ini : LSh := ⟨[(0, .val (.int .i64))], []⟩
abbrev octet_Num.out : LSh := ⟨[(0, .val .str)], []⟩
abbrev octet_Num.l0s : LSh := ⟨[(0, .val (.int .i64)), (3, .val .str)], []⟩
noncomputable def octet_Num.labF : Nat → List (LabF octet_Num.out.den)
  | 8 => [⟨octet_Num.l0s, fun k (d : Ab4 × (Unit)) => (octet_Num.l0 k d.1.1 d.1.2.1 : Option octet_Num.R)⟩]
  | _ => []
noncomputable def octet_Num.fd : FnD := ⟨Try.f56, octet_Num.ini, octet_Num.out, 1, [], [], octet_Num.labF, fun k (d : (Int × Unit) × (Unit)) => (octet_Num.f k d.1.1 : Option octet_Num.R), none, []⟩

/-! ### octet_Writer_Num : function 44 -/
abbrev octet_Writer_Num.R := (Unit) × ((ByteArray × Bool × Unit) × Unit)
noncomputable def octet_Writer_Num.f : Nat → Int → ByteArray → Bool → Option octet_Writer_Num.R
  | 0, _, _, _ => none
  | k + 1, x1, o0_0, o0_1 =>
    (octet_Num.f k x1).bind fun r1 =>
    bif o0_1 then
      (ck (decide (o0_0.size + r1.1.1.size ≤ 9223372036854775807))).bind fun _ =>
      some ((()), ((o0_0 ++ r1.1.1, true, ()), ()))
    else
      (ck (decide (o0_0.size + r1.1.1.size ≤ 9223372036854775807))).bind fun _ =>
      some ((()), ((o0_0 ++ r1.1.1, r1.1.1.toList == (⟨#[]⟩ : ByteArray).toList, ()), ()))
abbrev octet_Writer_Num.ini : LSh := ⟨[(0, .ptr 1000000 0), (1, .val (.int .i64))], [(1000000, 98, [.val .str, .val .bool])]⟩
abbrev octet_Writer_Num.out : LSh := ⟨[], [(1000000, 98, [.val .str, .val .bool])]⟩
noncomputable def octet_Writer_Num.labF : Nat → List (LabF octet_Writer_Num.out.den)
  | _ => []
noncomputable def octet_Writer_Num.fd : FnD := ⟨Try.f44, octet_Writer_Num.ini, octet_Writer_Num.out, 0, [1000000], [], octet_Writer_Num.labF, fun k (d : (Unit × Int × Unit) × ((ByteArray × Bool × Unit) × Unit)) => (octet_Writer_Num.f k d.1.2.1 d.2.1.1 d.2.1.2.1 : Option octet_Writer_Num.R), none, []⟩

/-! ### octet_Text : function 57 -/
abbrev octet_Text.R := (ByteArray × Unit) × (Unit)
noncomputable def octet_Text.f : Nat → ByteArray → Option octet_Text.R
  | 0, _ => none
  | k + 1, x0 =>
    (octet_Num.f k (x0.size : Int)).bind fun r1 =>
    (ck (decide (r1.1.1.size + x0.size ≤ 9223372036854775807))).bind fun _ =>
    some ((r1.1.1 ++ x0, ()), (()))
abbrev octet_Text.ini : LSh := ⟨[(0, .val .str)], []⟩
abbrev octet_Text.out : LSh := ⟨[(0, .val .str)], []⟩
noncomputable def octet_Text.labF : Nat → List (LabF octet_Text.out.den)
  | _ => []
noncomputable def octet_Text.fd : FnD := ⟨Try.f57, octet_Text.ini, octet_Text.out, 1, [], [], octet_Text.labF, fun k (d : (ByteArray × Unit) × (Unit)) => (octet_Text.f k d.1.1 : Option octet_Text.R), none, []⟩

/-! ### octet_Writer_Text : function 45 -/
abbrev octet_Writer_Text.R := (Unit) × ((ByteArray × Bool × Unit) × Unit)
noncomputable def octet_Writer_Text.f : Nat → ByteArray → ByteArray → Bool → Option octet_Writer_Text.R
  | 0, _, _, _ => none
  | k + 1, x1, o0_0, o0_1 =>
    (octet_Text.f k x1).bind fun r1 =>
    (ck (decide (o0_0.size + r1.1.1.size ≤ 9223372036854775807))).bind fun _ =>
    some ((()), ((o0_0 ++ r1.1.1, o0_1, ()), ()))
abbrev octet_Writer_Text.ini : LSh := ⟨[(0, .ptr 1000000 0), (1, .val .str)], [(1000000, 98, [.val .str, .val .bool])]⟩
abbrev octet_Writer_Text.out : LSh := ⟨[], [(1000000, 98, [.val .str, .val .bool])]⟩
noncomputable def octet_Writer_Text.labF : Nat → List (LabF octet_Writer_Text.out.den)
  | _ => []
noncomputable def octet_Writer_Text.fd : FnD := ⟨Try.f45, octet_Writer_Text.ini, octet_Writer_Text.out, 0, [1000000], [], octet_Writer_Text.labF, fun k (d : (Unit × ByteArray × Unit) × ((ByteArray × Bool × Unit) × Unit)) => (octet_Writer_Text.f k d.1.2.1 d.2.1.1 d.2.1.2.1 : Option octet_Writer_Text.R), none, []⟩

/-! ### octet_Writer_Texts : function 46 -/
abbrev octet_Writer_Texts.R := (Unit) × ((ByteArray × Bool × Unit) × Unit)
mutual
noncomputable def octet_Writer_Texts.l0 : Nat → (List ByteArray) → Int → Int → ByteArray → Bool → Option octet_Writer_Texts.R
  | 0, _, _, _, _, _ => none
  | k + 1, x10, x11, x12, o0_0, o0_1 =>
    bif decide ((x12 : Int) < x11) then
      (rdo x10 x12).bind fun t2 =>
      (octet_Writer_Text.f k t2 o0_0 o0_1).bind fun r3 =>
      octet_Writer_Texts.l0 k x10 x11 (IntKind.wrap .i64 (x12 + 1)) r3.2.1.1 r3.2.1.2.1
    else
      some ((()), ((o0_0, o0_1, ()), ()))
noncomputable def octet_Writer_Texts.f : Nat → (List ByteArray) → ByteArray → Bool → Option octet_Writer_Texts.R
  | 0, _, _, _ => none
  | k + 1, x1, o0_0, o0_1 =>
    (octet_Writer_Num.f k (x1.length : Int) o0_0 o0_1).bind fun r1 =>
    octet_Writer_Texts.l0 k x1 (x1.length : Int) 0 r1.2.1.1 r1.2.1.2.1
end
abbrev octet_Writer_Texts.ini : LSh := ⟨[(0, .ptr 1000000 0), (1, .val (.sl .str))], [(1000000, 98, [.val .str, .val .bool])]⟩
abbrev octet_Writer_Texts.out : LSh := ⟨[], [(1000000, 98, [.val .str, .val .bool])]⟩
abbrev octet_Writer_Texts.l0s : LSh := ⟨[(0, .ptr 1000000 0), (10, .val (.sl .str)), (11, .val (.int .i64)), (12, .val (.int .i64))], [(1000000, 98, [.val .str, .val .bool])]⟩
noncomputable def octet_Writer_Texts.labF : Nat → List (LabF octet_Writer_Texts.out.den)
  | 4 => [⟨octet_Writer_Texts.l0s, fun k (d : (Unit × List ByteArray × Int × Int × Unit) × ((ByteArray × Bool × Unit) × Unit)) => (octet_Writer_Texts.l0 k d.1.2.1 d.1.2.2.1 d.1.2.2.2.1 d.2.1.1 d.2.1.2.1 : Option octet_Writer_Texts.R)⟩]
  | _ => []
noncomputable def octet_Writer_Texts.fd : FnD := ⟨Try.f46, octet_Writer_Texts.ini, octet_Writer_Texts.out, 0, [1000000], [], octet_Writer_Texts.labF, fun k (d : (Unit × List ByteArray × Unit) × ((ByteArray × Bool × Unit) × Unit)) => (octet_Writer_Texts.f k d.1.2.1 d.2.1.1 d.2.1.2.1 : Option octet_Writer_Texts.R), none, []⟩

/-! ### octet_Writer_All : function 47 -/
abbrev octet_Writer_All.R := (ByteArray × Bool × Unit) × (Unit)
noncomputable def octet_Writer_All.f : Nat → ByteArray → Bool → Option octet_Writer_All.R
  | 0, _, _ => none
  | k + 1, o0_0, o0_1 =>
    bif o0_1 then
      some (((⟨#[]⟩ : ByteArray), false, ()), (()))
    else
      some ((o0_0, true, ()), (()))
abbrev octet_Writer_All.ini : LSh := ⟨[(0, .ptr 1000000 0)], [(1000000, 98, [.val .str, .val .bool])]⟩
abbrev octet_Writer_All.out : LSh := ⟨[(0, .val .str), (1, .val .bool)], []⟩
noncomputable def octet_Writer_All.labF : Nat → List (LabF octet_Writer_All.out.den)
  | _ => []
noncomputable def octet_Writer_All.fd : FnD := ⟨Try.f47, octet_Writer_All.ini, octet_Writer_All.out, 2, [1000000], [1000000], octet_Writer_All.labF, fun k (d : (Unit × Unit) × ((ByteArray × Bool × Unit) × Unit)) => (octet_Writer_All.f k d.2.1.1 d.2.1.2.1 : Option octet_Writer_All.R), none, []⟩

/-! ### proof_GrowthBytes : function 27 -/
abbrev proof_GrowthBytes.R := (ByteArray × Unit) × (Unit)
noncomputable def proof_GrowthBytes.f : Nat → (Ab4 × List ByteArray × Unit) → Option proof_GrowthBytes.R
  | 0, _ => none
  | k + 1, x0 =>
    (proof_RightGrowth.f k x0).bind fun r1 =>
    bif !r1.1.1 then
      some (((⟨#[]⟩ : ByteArray), ()), (()))
    else
      (octet_Writer_Num.f k x0.1.1 ByteArray.empty false).bind fun r2 =>
      (octet_Writer_Text.f k x0.1.2.1 r2.2.1.1 r2.2.1.2.1).bind fun r3 =>
      (octet_Writer_Texts.f k x0.2.1 r3.2.1.1 r3.2.1.2.1).bind fun r4 =>
      (octet_Writer_All.f k r4.2.1.1 r4.2.1.2.1).bind fun r5 =>
      some ((r5.1.1, ()), (()))
abbrev proof_GrowthBytes.ini : LSh := ⟨[(0, .val (.cons Ac6 (.cons (.sl .str) .nil)))], []⟩
abbrev proof_GrowthBytes.out : LSh := ⟨[(0, .val .str)], []⟩
noncomputable def proof_GrowthBytes.labF : Nat → List (LabF proof_GrowthBytes.out.den)
  | _ => []
noncomputable def proof_GrowthBytes.fd : FnD := ⟨Try.f27, proof_GrowthBytes.ini, proof_GrowthBytes.out, 1, [], [], proof_GrowthBytes.labF, fun k (d : ((Ab4 × List ByteArray × Unit) × Unit) × (Unit)) => (proof_GrowthBytes.f k d.1.1 : Option proof_GrowthBytes.R), none, []⟩

/-! ### chartularylaw28_point : function 29 -/
abbrev chartularylaw28_point.R := (ByteArray × Unit) × (Unit)
noncomputable def chartularylaw28_point.f : Nat → Ab4 → Option chartularylaw28_point.R
  | 0, _ => none
  | k + 1, x0 =>
    (proof_GrowthBytes.f k (x0, (([] : List ByteArray), ()))).bind fun r1 =>
    some ((r1.1.1, ()), (()))
abbrev chartularylaw28_point.ini : LSh := ⟨[(0, .val Ac6)], []⟩
abbrev chartularylaw28_point.out : LSh := ⟨[(0, .val .str)], []⟩
noncomputable def chartularylaw28_point.labF : Nat → List (LabF chartularylaw28_point.out.den)
  | _ => []
noncomputable def chartularylaw28_point.fd : FnD := ⟨Try.f29, chartularylaw28_point.ini, chartularylaw28_point.out, 1, [], [], chartularylaw28_point.labF, fun k (d : (Ab4 × Unit) × (Unit)) => (chartularylaw28_point.f k d.1.1 : Option chartularylaw28_point.R), none, []⟩

/-! ### chartularylaw28_fill : function 30 -/
abbrev chartularylaw28_fill.R := (ByteArray × Unit) × (Unit)
mutual
noncomputable def chartularylaw28_fill.l0 : Nat → Int → (List Int) → Int → Option chartularylaw28_fill.R
  | 0, _, _, _ => none
  | k + 1, x0, x3, x4 =>
    bif decide ((x4 : Int) < (x3.length : Int)) then
      (ck (decide (0 ≤ x4) && decide (x4 < (x3.length : Int)))).bind fun _ =>
      chartularylaw28_fill.l0 k x0 (x3.set x4.toNat x0) (IntKind.wrap .i64 (x4 + 1))
    else
      some ((strOf x3, ()), (()))
noncomputable def chartularylaw28_fill.f : Nat → Int → Option chartularylaw28_fill.R
  | 0, _ => none
  | k + 1, x0 =>
    (ck (decide (0 ≤ 32) && decide (32 = 32) && decide (32 * 1 ≤ 281474976710656) && decide (32 ≤ 9223372036854775807))).bind fun _ =>
    chartularylaw28_fill.l0 k x0 (List.replicate (32 : Int).toNat (0 : Int)) 0
end
abbrev chartularylaw28_fill.ini : LSh := ⟨[(0, .val (.int .u8))], []⟩
abbrev chartularylaw28_fill.out : LSh := ⟨[(0, .val .str)], []⟩
abbrev chartularylaw28_fill.l0s : LSh := ⟨[(0, .val (.int .u8)), (3, .own 2000003 5 (.mu (.int .u8))), (4, .val (.int .i64))], []⟩
noncomputable def chartularylaw28_fill.labF : Nat → List (LabF chartularylaw28_fill.out.den)
  | 6 => [⟨chartularylaw28_fill.l0s, fun k (d : (Int × List Int × Int × Unit) × (Unit)) => (chartularylaw28_fill.l0 k d.1.1 d.1.2.1 d.1.2.2.1 : Option chartularylaw28_fill.R)⟩]
  | _ => []
noncomputable def chartularylaw28_fill.fd : FnD := ⟨Try.f30, chartularylaw28_fill.ini, chartularylaw28_fill.out, 1, [], [], chartularylaw28_fill.labF, fun k (d : (Int × Unit) × (Unit)) => (chartularylaw28_fill.f k d.1.1 : Option chartularylaw28_fill.R), none, []⟩

/-! ### chartularylaw28_awake : function 8 -/
abbrev chartularylaw28_awake.R := (Bool × Unit) × (Unit)
mutual
noncomputable def chartularylaw28_awake.j0 : Nat → Ab0 → Ab12 → Bool → Bool → Int → Ab5 → Ab5 → (List Ab4) → Ab0 → Int → (List Ab4) → Ab0 → Int → Option chartularylaw28_awake.R
  | 0, _, _, _, _, _, _, _, _, _, _, _, _, _ => none
  | k + 1, o0_2, o1_2, o1_3, o1_4, o1_5, o2_0, o3_0, o4_1, o4_2, o4_3, o5_1, o5_2, o5_3 =>
    (gossip_Ring_Hear_v0.f k o0_2 o1_2 o1_3 o1_4 o1_5 o2_0 o3_0 o4_1 o4_2 o4_3 o5_1 o5_2 o5_3).bind fun r9 =>
    bif (r9.1.2.1 : Int) == 23 then
      bif r9.1.1.2.1 then
        (gossip_Ring_Agree_v0.f k r9.2.1.2.2.1 o1_2 o1_3 o1_4 o1_5 o2_0 o3_0 o4_1 o4_2 o4_3 o5_1 o5_2 o5_3).bind fun r10 =>
        bif !r10.1.1 then
          (gossip_Ring_Forks_v0.f k r9.2.1.2.2.1 o1_2 o1_3 o1_4 o1_5 o2_0 o3_0 o4_1 o4_2 o4_3 o5_1 o5_2 o5_3).bind fun r11 =>
          some ((((r11.1.1.length : Int) : Int) == 1, ()), (()))
        else
          some ((false, ()), (()))
      else
        some ((false, ()), (()))
    else
      some ((false, ()), (()))
noncomputable def chartularylaw28_awake.f : Nat → Option chartularylaw28_awake.R
  | 0 => none
  | k + 1 =>
    (mill_New.f k).bind fun r1 =>
    (gossip_New_v0.f k r1.2.1.2.2.1 r1.2.1.2.2.2.1 r1.2.1.2.2.2.2.1 r1.2.1.2.2.2.2.2.1 r1.2.2.1.1 r1.2.2.2.1.1).bind fun r2 =>
    bif (r2.1.2.1 : Int) != 0 then
      some ((false, ()), (()))
    else
      (chartularylaw28_fill.f k 1).bind fun r3 =>
      (chartularylaw28_point.f k (3, r3.1)).bind fun r4 =>
      (gossip_Ring_Tell_v0.f k r4.1.1 r2.2.1.2.2.1 r1.2.1.2.2.1 r1.2.1.2.2.2.1 r1.2.1.2.2.2.2.1 r1.2.1.2.2.2.2.2.1 r1.2.2.1.1 r1.2.2.2.1.1 r2.2.2.1.2.1 r2.2.2.1.2.2.1 r2.2.2.1.2.2.2.1 r2.2.2.2.1.2.1 r2.2.2.2.1.2.2.1 r2.2.2.2.1.2.2.2.1).bind fun r5 =>
      bif (r5.1.1 : Int) != 0 then
        some ((false, ()), (()))
      else
        (chartularylaw28_fill.f k 2).bind fun r6 =>
        (chartularylaw28_point.f k (3, r6.1)).bind fun r7 =>
        (gossip_Ring_Tell_v1.f k r7.1.1 r2.2.1.2.2.1 r5.2.1.2.2.1 r5.2.1.2.2.2.1 r5.2.1.2.2.2.2.1 r5.2.1.2.2.2.2.2.1 r1.2.2.1.1 r5.2.2.1.1 r5.2.2.2.1.2.1 r5.2.2.2.1.2.2.1 r5.2.2.2.1.2.2.2.1 r2.2.2.2.1.2.1 r2.2.2.2.1.2.2.1 r2.2.2.2.1.2.2.2.1).bind fun r8 =>
        bif (r8.1.1 : Int) != 0 then
          some ((false, ()), (()))
        else
          chartularylaw28_awake.j0 k r2.2.1.2.2.1 r8.2.1.2.2.1 r8.2.1.2.2.2.1 r8.2.1.2.2.2.2.1 r8.2.1.2.2.2.2.2.1 r1.2.2.1.1 r8.2.2.1.1 r5.2.2.2.1.2.1 r5.2.2.2.1.2.2.1 r5.2.2.2.1.2.2.2.1 r8.2.2.2.1.2.1 r8.2.2.2.1.2.2.1 r8.2.2.2.1.2.2.2.1
end
abbrev chartularylaw28_awake.ini : LSh := ⟨[], []⟩
abbrev chartularylaw28_awake.out : LSh := ⟨[(0, .val .bool)], []⟩
abbrev chartularylaw28_awake.j0s : LSh := ⟨[(1, .ptr 6000000 0)], [(6000000, 86, [.ptr 6000001 0, .prow 3700001 50 [(6000004, 0), (6000005, 0)], .own 3700002 27 Ac1]), (6000001, 80, [.mref 6000002, .mref 6000003, .val Ac10, .val .bool, .val .bool, .val (.int .i64)]), (6000002, 77, [.mapd]), (6000003, 77, [.mapd]), (6000004, 88, [.ptr 6000001 0, .own 3700401 25 Ac6, .own 3700402 27 Ac1, .val (.int .i64)]), (6000005, 88, [.ptr 6000001 0, .own 3700501 25 Ac6, .own 3700502 27 Ac1, .val (.int .i64)])]⟩
noncomputable def chartularylaw28_awake.labF : Nat → List (LabF chartularylaw28_awake.out.den)
  | 9 => [⟨chartularylaw28_awake.j0s, fun k (d : (Unit × Unit) × ((Unit × Unit × Ab0 × Unit) × Ab8 × (Ab5 × Unit) × (Ab5 × Unit) × Ab9 × Ab9 × Unit)) => (chartularylaw28_awake.j0 k d.2.1.2.2.1 d.2.2.1.2.2.1 d.2.2.1.2.2.2.1 d.2.2.1.2.2.2.2.1 d.2.2.1.2.2.2.2.2.1 d.2.2.2.1.1 d.2.2.2.2.1.1 d.2.2.2.2.2.1.2.1 d.2.2.2.2.2.1.2.2.1 d.2.2.2.2.2.1.2.2.2.1 d.2.2.2.2.2.2.1.2.1 d.2.2.2.2.2.2.1.2.2.1 d.2.2.2.2.2.2.1.2.2.2.1 : Option chartularylaw28_awake.R)⟩]
  | _ => []
noncomputable def chartularylaw28_awake.fd : FnD := ⟨Try.f8, chartularylaw28_awake.ini, chartularylaw28_awake.out, 1, [], [], chartularylaw28_awake.labF, fun k (d : (Unit) × (Unit)) => (chartularylaw28_awake.f k : Option chartularylaw28_awake.R), none, [(88888888, 0, 0)]⟩

/-! ### gossip_New_v1 : function 14 -/
abbrev gossip_New_v1.R := (Unit × Int × Unit) × ((Unit × Unit × Ab0 × Unit) × Ab9 × Ab9 × Ab9 × Unit)
mutual
noncomputable def gossip_New_v1.l0 : Nat → Ab12 → Bool → Bool → Int → Ab5 → Ab5 → Ab0 → Option gossip_New_v1.R
  | 0, _, _, _, _, _, _, _ => none
  | k + 1, o0_2, o0_3, o0_4, o0_5, o1_0, o2_0, o1000000_2 =>
    (auditor_New.f k o0_2 o0_3 o0_4 o0_5 o1_0 o2_0).bind fun r1 =>
    gossip_New_v1.l1 k o0_2 o0_3 o0_4 o0_5 o1_0 o2_0 o1000000_2 r1.2.1.2.1 r1.2.1.2.2.1 r1.2.1.2.2.2.1
noncomputable def gossip_New_v1.l1 : Nat → Ab12 → Bool → Bool → Int → Ab5 → Ab5 → Ab0 → (List Ab4) → Ab0 → Int → Option gossip_New_v1.R
  | 0, _, _, _, _, _, _, _, _, _, _ => none
  | k + 1, o0_2, o0_3, o0_4, o0_5, o1_0, o2_0, o1000000_2, o1000001_1, o1000001_2, o1000001_3 =>
    (auditor_New.f k o0_2 o0_3 o0_4 o0_5 o1_0 o2_0).bind fun r2 =>
    gossip_New_v1.l2 k o0_2 o0_3 o0_4 o0_5 o1_0 o2_0 o1000000_2 o1000001_1 o1000001_2 o1000001_3 r2.2.1.2.1 r2.2.1.2.2.1 r2.2.1.2.2.2.1
noncomputable def gossip_New_v1.l2 : Nat → Ab12 → Bool → Bool → Int → Ab5 → Ab5 → Ab0 → (List Ab4) → Ab0 → Int → (List Ab4) → Ab0 → Int → Option gossip_New_v1.R
  | 0, _, _, _, _, _, _, _, _, _, _, _, _, _ => none
  | k + 1, o0_2, o0_3, o0_4, o0_5, o1_0, o2_0, o1000000_2, o1000001_1, o1000001_2, o1000001_3, o1000002_1, o1000002_2, o1000002_3 =>
    (auditor_New.f k o0_2 o0_3 o0_4 o0_5 o1_0 o2_0).bind fun r3 =>
    gossip_New_v1.l3 k o0_2 o0_3 o0_4 o0_5 o1_0 o2_0 o1000000_2 o1000001_1 o1000001_2 o1000001_3 o1000002_1 o1000002_2 o1000002_3 r3.2.1.2.1 r3.2.1.2.2.1 r3.2.1.2.2.2.1
noncomputable def gossip_New_v1.l3 : Nat → Ab12 → Bool → Bool → Int → Ab5 → Ab5 → Ab0 → (List Ab4) → Ab0 → Int → (List Ab4) → Ab0 → Int → (List Ab4) → Ab0 → Int → Option gossip_New_v1.R
  | 0, _, _, _, _, _, _, _, _, _, _, _, _, _, _, _, _ => none
  | k + 1, o0_2, o0_3, o0_4, o0_5, o1_0, o2_0, o1000000_2, o1000001_1, o1000001_2, o1000001_3, o1000002_1, o1000002_2, o1000002_3, o3_1, o3_2, o3_3 =>
    some (((), 0, ()), (((), (), o1000000_2, ()), ((), o1000001_1, o1000001_2, o1000001_3, ()), ((), o1000002_1, o1000002_2, o1000002_3, ()), ((), o3_1, o3_2, o3_3, ()), ()))
noncomputable def gossip_New_v1.f : Nat → Ab12 → Bool → Bool → Int → Ab5 → Ab5 → Option gossip_New_v1.R
  | 0, _, _, _, _, _, _ => none
  | k + 1, o0_2, o0_3, o0_4, o0_5, o1_0, o2_0 =>
    gossip_New_v1.l0 k o0_2 o0_3 o0_4 o0_5 o1_0 o2_0 []
end
abbrev gossip_New_v1.ini : LSh := ⟨[(0, .ptr 1000000 0), (1, .cst .i64 3)], [(1000000, 80, [.mref 1000001, .mref 1000002, .val Ac10, .val .bool, .val .bool, .val (.int .i64)]), (1000001, 77, [.mapd]), (1000002, 77, [.mapd])]⟩
abbrev gossip_New_v1.out : LSh := ⟨[(0, .ptr 4000000 0), (1, .val (.int .i64))], [(4000000, 86, [.ptr 1000000 0, .prow 3600001 50 [(4010000, 0), (4020000, 0), (4030000, 0)], .own 3600002 27 Ac1]), (4010000, 88, [.ptr 1000000 0, .own 3610001 25 Ac6, .own 3610002 27 Ac1, .val (.int .i64)]), (4020000, 88, [.ptr 1000000 0, .own 3620001 25 Ac6, .own 3620002 27 Ac1, .val (.int .i64)]), (4030000, 88, [.ptr 1000000 0, .own 3630001 25 Ac6, .own 3630002 27 Ac1, .val (.int .i64)])]⟩
abbrev gossip_New_v1.l0s : LSh := ⟨[(0, .ptr 1000000 0), (6, .ptr 6000000 0), (20, .cst .i64 3), (21, .cst .i64 0)], [(1000000, 80, [.mref 1000001, .mref 1000002, .val Ac10, .val .bool, .val .bool, .val (.int .i64)]), (1000001, 77, [.mapd]), (1000002, 77, [.mapd]), (6000000, 86, [.ptr 1000000 0, .prow 3700301 50 [], .own 3700302 27 Ac1])]⟩
abbrev gossip_New_v1.l1s : LSh := ⟨[(0, .ptr 1000000 0), (6, .ptr 6000000 0), (20, .cst .i64 3), (21, .cst .i64 1)], [(1000000, 80, [.mref 1000001, .mref 1000002, .val Ac10, .val .bool, .val .bool, .val (.int .i64)]), (1000001, 77, [.mapd]), (1000002, 77, [.mapd]), (6000000, 86, [.ptr 1000000 0, .prow 3700301 50 [(6000001, 0)], .own 3700302 27 Ac1]), (6000001, 88, [.ptr 1000000 0, .own 3700401 25 Ac6, .own 3700402 27 Ac1, .val (.int .i64)])]⟩
abbrev gossip_New_v1.l2s : LSh := ⟨[(0, .ptr 1000000 0), (6, .ptr 6000000 0), (20, .cst .i64 3), (21, .cst .i64 2)], [(1000000, 80, [.mref 1000001, .mref 1000002, .val Ac10, .val .bool, .val .bool, .val (.int .i64)]), (1000001, 77, [.mapd]), (1000002, 77, [.mapd]), (6000000, 86, [.ptr 1000000 0, .prow 3700301 50 [(6000001, 0), (6000002, 0)], .own 3700302 27 Ac1]), (6000001, 88, [.ptr 1000000 0, .own 3700401 25 Ac6, .own 3700402 27 Ac1, .val (.int .i64)]), (6000002, 88, [.ptr 1000000 0, .own 3700501 25 Ac6, .own 3700502 27 Ac1, .val (.int .i64)])]⟩
abbrev gossip_New_v1.l3s : LSh := ⟨[(0, .ptr 1000000 0), (6, .ptr 6000000 0), (20, .cst .i64 3), (21, .cst .i64 3)], [(1000000, 80, [.mref 1000001, .mref 1000002, .val Ac10, .val .bool, .val .bool, .val (.int .i64)]), (1000001, 77, [.mapd]), (1000002, 77, [.mapd]), (6000000, 86, [.ptr 1000000 0, .prow 3700301 50 [(6000001, 0), (6000002, 0), (6000003, 0)], .own 3700302 27 Ac1]), (6000001, 88, [.ptr 1000000 0, .own 3700401 25 Ac6, .own 3700402 27 Ac1, .val (.int .i64)]), (6000002, 88, [.ptr 1000000 0, .own 3700501 25 Ac6, .own 3700502 27 Ac1, .val (.int .i64)]), (6000003, 88, [.ptr 1000000 0, .own 3700601 25 Ac6, .own 3700602 27 Ac1, .val (.int .i64)])]⟩
noncomputable def gossip_New_v1.labF : Nat → List (LabF gossip_New_v1.out.den)
  | 10 => [⟨gossip_New_v1.l0s, fun k (d : (Unit × Unit × Unit × Unit × Unit) × (Ab8 × (Ab5 × Unit) × (Ab5 × Unit) × (Unit × Unit × Ab0 × Unit) × Unit)) => (gossip_New_v1.l0 k d.2.1.2.2.1 d.2.1.2.2.2.1 d.2.1.2.2.2.2.1 d.2.1.2.2.2.2.2.1 d.2.2.1.1 d.2.2.2.1.1 d.2.2.2.2.1.2.2.1 : Option gossip_New_v1.R)⟩, ⟨gossip_New_v1.l1s, fun k (d : (Unit × Unit × Unit × Unit × Unit) × (Ab8 × (Ab5 × Unit) × (Ab5 × Unit) × (Unit × Unit × Ab0 × Unit) × Ab9 × Unit)) => (gossip_New_v1.l1 k d.2.1.2.2.1 d.2.1.2.2.2.1 d.2.1.2.2.2.2.1 d.2.1.2.2.2.2.2.1 d.2.2.1.1 d.2.2.2.1.1 d.2.2.2.2.1.2.2.1 d.2.2.2.2.2.1.2.1 d.2.2.2.2.2.1.2.2.1 d.2.2.2.2.2.1.2.2.2.1 : Option gossip_New_v1.R)⟩, ⟨gossip_New_v1.l2s, fun k (d : (Unit × Unit × Unit × Unit × Unit) × (Ab8 × (Ab5 × Unit) × (Ab5 × Unit) × (Unit × Unit × Ab0 × Unit) × Ab9 × Ab9 × Unit)) => (gossip_New_v1.l2 k d.2.1.2.2.1 d.2.1.2.2.2.1 d.2.1.2.2.2.2.1 d.2.1.2.2.2.2.2.1 d.2.2.1.1 d.2.2.2.1.1 d.2.2.2.2.1.2.2.1 d.2.2.2.2.2.1.2.1 d.2.2.2.2.2.1.2.2.1 d.2.2.2.2.2.1.2.2.2.1 d.2.2.2.2.2.2.1.2.1 d.2.2.2.2.2.2.1.2.2.1 d.2.2.2.2.2.2.1.2.2.2.1 : Option gossip_New_v1.R)⟩, ⟨gossip_New_v1.l3s, fun k (d : (Unit × Unit × Unit × Unit × Unit) × (Ab8 × (Ab5 × Unit) × (Ab5 × Unit) × (Unit × Unit × Ab0 × Unit) × Ab9 × Ab9 × Ab9 × Unit)) => (gossip_New_v1.l3 k d.2.1.2.2.1 d.2.1.2.2.2.1 d.2.1.2.2.2.2.1 d.2.1.2.2.2.2.2.1 d.2.2.1.1 d.2.2.2.1.1 d.2.2.2.2.1.2.2.1 d.2.2.2.2.2.1.2.1 d.2.2.2.2.2.1.2.2.1 d.2.2.2.2.2.1.2.2.2.1 d.2.2.2.2.2.2.1.2.1 d.2.2.2.2.2.2.1.2.2.1 d.2.2.2.2.2.2.1.2.2.2.1 d.2.2.2.2.2.2.2.1.2.1 d.2.2.2.2.2.2.2.1.2.2.1 d.2.2.2.2.2.2.2.1.2.2.2.1 : Option gossip_New_v1.R)⟩]
  | _ => []
noncomputable def gossip_New_v1.fd : FnD := ⟨Try.f14, gossip_New_v1.ini, gossip_New_v1.out, 2, [1000000, 1000001, 1000002], [1000000, 1000001, 1000002], gossip_New_v1.labF, fun k (d : (Unit × Unit × Unit) × (Ab8 × (Ab5 × Unit) × (Ab5 × Unit) × Unit)) => (gossip_New_v1.f k d.2.1.2.2.1 d.2.1.2.2.2.1 d.2.1.2.2.2.2.1 d.2.1.2.2.2.2.2.1 d.2.2.1.1 d.2.2.2.1.1 : Option gossip_New_v1.R), none, [(88888888, 0, 0)]⟩

/-! ### gossip_Ring_Forks_v2 : function 17 -/
abbrev gossip_Ring_Forks_v2.R := (Ab0 × Unit) × (Unit)
noncomputable def gossip_Ring_Forks_v2.f : Nat → Ab0 → Ab12 → Bool → Bool → Int → Ab5 → Ab5 → (List Ab4) → Ab0 → Int → (List Ab4) → Ab0 → Int → (List Ab4) → Ab0 → Int → Option gossip_Ring_Forks_v2.R
  | 0, _, _, _, _, _, _, _, _, _, _, _, _, _, _, _, _ => none
  | k + 1, o0_2, o1_2, o1_3, o1_4, o1_5, o2_0, o3_0, o4_1, o4_2, o4_3, o5_1, o5_2, o5_3, o6_1, o6_2, o6_3 =>
    (ck (decide (o0_2.length * 48 ≤ 70368744177664))).bind fun _ =>
    some ((o0_2, ()), (()))
abbrev gossip_Ring_Forks_v2.ini : LSh := ⟨[(0, .ptr 1000000 0)], [(1000000, 86, [.ptr 1000001 0, .psl [(1000004, 0), (1000005, 0), (1000006, 0)], .val (.sl Ac1)]), (1000001, 80, [.mref 1000002, .mref 1000003, .val Ac10, .val .bool, .val .bool, .val (.int .i64)]), (1000002, 77, [.mapd]), (1000003, 77, [.mapd]), (1000004, 88, [.ptr 1000001 0, .val (.sl Ac6), .val (.sl Ac1), .val (.int .i64)]), (1000005, 88, [.ptr 1000001 0, .val (.sl Ac6), .val (.sl Ac1), .val (.int .i64)]), (1000006, 88, [.ptr 1000001 0, .val (.sl Ac6), .val (.sl Ac1), .val (.int .i64)])]⟩
abbrev gossip_Ring_Forks_v2.out : LSh := ⟨[(0, .val (.sl Ac1))], []⟩
noncomputable def gossip_Ring_Forks_v2.labF : Nat → List (LabF gossip_Ring_Forks_v2.out.den)
  | _ => []
noncomputable def gossip_Ring_Forks_v2.fd : FnD := ⟨Try.f17, gossip_Ring_Forks_v2.ini, gossip_Ring_Forks_v2.out, 1, [1000000, 1000001, 1000002, 1000003, 1000004, 1000005, 1000006], [1000000, 1000001, 1000002, 1000003, 1000004, 1000005, 1000006], gossip_Ring_Forks_v2.labF, fun k (d : (Unit × Unit) × Ab2) => (gossip_Ring_Forks_v2.f k d.2.1.2.2.1 d.2.2.1.2.2.1 d.2.2.1.2.2.2.1 d.2.2.1.2.2.2.2.1 d.2.2.1.2.2.2.2.2.1 d.2.2.2.1.1 d.2.2.2.2.1.1 d.2.2.2.2.2.1.2.1 d.2.2.2.2.2.1.2.2.1 d.2.2.2.2.2.1.2.2.2.1 d.2.2.2.2.2.2.1.2.1 d.2.2.2.2.2.2.1.2.2.1 d.2.2.2.2.2.2.1.2.2.2.1 d.2.2.2.2.2.2.2.1.2.1 d.2.2.2.2.2.2.2.1.2.2.1 d.2.2.2.2.2.2.2.1.2.2.2.1 : Option gossip_Ring_Forks_v2.R), none, []⟩

/-! ### gossip_Ring_Agree_v2 : function 19 -/
abbrev gossip_Ring_Agree_v2.R := (Bool × Unit) × (Unit)
mutual
noncomputable def gossip_Ring_Agree_v2.l0 : Nat → Ab0 → Ab12 → Bool → Bool → Int → Ab5 → Ab5 → (List Ab4) → Ab0 → Int → (List Ab4) → Ab0 → Int → (List Ab4) → Ab0 → Int → Option gossip_Ring_Agree_v2.R
  | 0, _, _, _, _, _, _, _, _, _, _, _, _, _, _, _, _ => none
  | k + 1, o0_2, o1_2, o1_3, o1_4, o1_5, o2_0, o3_0, o4_1, o4_2, o4_3, o5_1, o5_2, o5_3, o6_1, o6_2, o6_3 =>
    gossip_Ring_Agree_v2.l1 k o0_2 o1_2 o1_3 o1_4 o1_5 o2_0 o3_0 o4_1 o4_2 o4_3 o5_1 o5_2 o5_3 o6_1 o6_2 o6_3
noncomputable def gossip_Ring_Agree_v2.l1 : Nat → Ab0 → Ab12 → Bool → Bool → Int → Ab5 → Ab5 → (List Ab4) → Ab0 → Int → (List Ab4) → Ab0 → Int → (List Ab4) → Ab0 → Int → Option gossip_Ring_Agree_v2.R
  | 0, _, _, _, _, _, _, _, _, _, _, _, _, _, _, _, _ => none
  | k + 1, o0_2, o1_2, o1_3, o1_4, o1_5, o2_0, o3_0, o4_1, o4_2, o4_3, o5_1, o5_2, o5_3, o6_1, o6_2, o6_3 =>
    gossip_Ring_Agree_v2.l2 k o0_2 o1_2 o1_3 o1_4 o1_5 o2_0 o3_0 o4_1 o4_2 o4_3 o5_1 o5_2 o5_3 o6_1 o6_2 o6_3
noncomputable def gossip_Ring_Agree_v2.l2 : Nat → Ab0 → Ab12 → Bool → Bool → Int → Ab5 → Ab5 → (List Ab4) → Ab0 → Int → (List Ab4) → Ab0 → Int → (List Ab4) → Ab0 → Int → Option gossip_Ring_Agree_v2.R
  | 0, _, _, _, _, _, _, _, _, _, _, _, _, _, _, _, _ => none
  | k + 1, o0_2, o1_2, o1_3, o1_4, o1_5, o2_0, o3_0, o4_1, o4_2, o4_3, o5_1, o5_2, o5_3, o6_1, o6_2, o6_3 =>
    gossip_Ring_Agree_v2.l3 k o0_2 o1_2 o1_3 o1_4 o1_5 o2_0 o3_0 o4_1 o4_2 o4_3 o5_1 o5_2 o5_3 o6_1 o6_2 o6_3
noncomputable def gossip_Ring_Agree_v2.l3 : Nat → Ab0 → Ab12 → Bool → Bool → Int → Ab5 → Ab5 → (List Ab4) → Ab0 → Int → (List Ab4) → Ab0 → Int → (List Ab4) → Ab0 → Int → Option gossip_Ring_Agree_v2.R
  | 0, _, _, _, _, _, _, _, _, _, _, _, _, _, _, _, _ => none
  | k + 1, o0_2, o1_2, o1_3, o1_4, o1_5, o2_0, o3_0, o4_1, o4_2, o4_3, o5_1, o5_2, o5_3, o6_1, o6_2, o6_3 =>
    (auditor_Auditor_Points.f k o5_1 o5_2 o5_3 o1_2 o1_3 o1_4 o1_5 o2_0 o3_0).bind fun r1 =>
    (auditor_Auditor_Points.f k o4_1 o4_2 o4_3 o1_2 o1_3 o1_4 o1_5 o2_0 o3_0).bind fun r2 =>
    (gossip_Compare.f k r1.1.1 r2.1.1).bind fun r3 =>
    bif r3.1.1.2.1 then
      some ((false, ()), (()))
    else
      gossip_Ring_Agree_v2.l4 k o0_2 o1_2 o1_3 o1_4 o1_5 o2_0 o3_0 o4_1 o4_2 o4_3 o5_1 o5_2 o5_3 o6_1 o6_2 o6_3
noncomputable def gossip_Ring_Agree_v2.l5 : Nat → Ab0 → Ab12 → Bool → Bool → Int → Ab5 → Ab5 → (List Ab4) → Ab0 → Int → (List Ab4) → Ab0 → Int → (List Ab4) → Ab0 → Int → Option gossip_Ring_Agree_v2.R
  | 0, _, _, _, _, _, _, _, _, _, _, _, _, _, _, _, _ => none
  | k + 1, o0_2, o1_2, o1_3, o1_4, o1_5, o2_0, o3_0, o4_1, o4_2, o4_3, o5_1, o5_2, o5_3, o6_1, o6_2, o6_3 =>
    gossip_Ring_Agree_v2.l6 k o0_2 o1_2 o1_3 o1_4 o1_5 o2_0 o3_0 o4_1 o4_2 o4_3 o5_1 o5_2 o5_3 o6_1 o6_2 o6_3
noncomputable def gossip_Ring_Agree_v2.l4 : Nat → Ab0 → Ab12 → Bool → Bool → Int → Ab5 → Ab5 → (List Ab4) → Ab0 → Int → (List Ab4) → Ab0 → Int → (List Ab4) → Ab0 → Int → Option gossip_Ring_Agree_v2.R
  | 0, _, _, _, _, _, _, _, _, _, _, _, _, _, _, _, _ => none
  | k + 1, o0_2, o1_2, o1_3, o1_4, o1_5, o2_0, o3_0, o4_1, o4_2, o4_3, o5_1, o5_2, o5_3, o6_1, o6_2, o6_3 =>
    gossip_Ring_Agree_v2.l5 k o0_2 o1_2 o1_3 o1_4 o1_5 o2_0 o3_0 o4_1 o4_2 o4_3 o5_1 o5_2 o5_3 o6_1 o6_2 o6_3
noncomputable def gossip_Ring_Agree_v2.l9 : Nat → Ab0 → Ab12 → Bool → Bool → Int → Ab5 → Ab5 → (List Ab4) → Ab0 → Int → (List Ab4) → Ab0 → Int → (List Ab4) → Ab0 → Int → Option gossip_Ring_Agree_v2.R
  | 0, _, _, _, _, _, _, _, _, _, _, _, _, _, _, _, _ => none
  | k + 1, o0_2, o1_2, o1_3, o1_4, o1_5, o2_0, o3_0, o4_1, o4_2, o4_3, o5_1, o5_2, o5_3, o6_1, o6_2, o6_3 =>
    some ((true, ()), (()))
noncomputable def gossip_Ring_Agree_v2.l6 : Nat → Ab0 → Ab12 → Bool → Bool → Int → Ab5 → Ab5 → (List Ab4) → Ab0 → Int → (List Ab4) → Ab0 → Int → (List Ab4) → Ab0 → Int → Option gossip_Ring_Agree_v2.R
  | 0, _, _, _, _, _, _, _, _, _, _, _, _, _, _, _, _ => none
  | k + 1, o0_2, o1_2, o1_3, o1_4, o1_5, o2_0, o3_0, o4_1, o4_2, o4_3, o5_1, o5_2, o5_3, o6_1, o6_2, o6_3 =>
    (auditor_Auditor_Points.f k o6_1 o6_2 o6_3 o1_2 o1_3 o1_4 o1_5 o2_0 o3_0).bind fun r4 =>
    (auditor_Auditor_Points.f k o4_1 o4_2 o4_3 o1_2 o1_3 o1_4 o1_5 o2_0 o3_0).bind fun r5 =>
    (gossip_Compare.f k r4.1.1 r5.1.1).bind fun r6 =>
    bif r6.1.1.2.1 then
      some ((false, ()), (()))
    else
      gossip_Ring_Agree_v2.l7 k o0_2 o1_2 o1_3 o1_4 o1_5 o2_0 o3_0 o4_1 o4_2 o4_3 o5_1 o5_2 o5_3 o6_1 o6_2 o6_3
noncomputable def gossip_Ring_Agree_v2.l7 : Nat → Ab0 → Ab12 → Bool → Bool → Int → Ab5 → Ab5 → (List Ab4) → Ab0 → Int → (List Ab4) → Ab0 → Int → (List Ab4) → Ab0 → Int → Option gossip_Ring_Agree_v2.R
  | 0, _, _, _, _, _, _, _, _, _, _, _, _, _, _, _, _ => none
  | k + 1, o0_2, o1_2, o1_3, o1_4, o1_5, o2_0, o3_0, o4_1, o4_2, o4_3, o5_1, o5_2, o5_3, o6_1, o6_2, o6_3 =>
    (auditor_Auditor_Points.f k o6_1 o6_2 o6_3 o1_2 o1_3 o1_4 o1_5 o2_0 o3_0).bind fun r7 =>
    (auditor_Auditor_Points.f k o5_1 o5_2 o5_3 o1_2 o1_3 o1_4 o1_5 o2_0 o3_0).bind fun r8 =>
    (gossip_Compare.f k r7.1.1 r8.1.1).bind fun r9 =>
    bif r9.1.1.2.1 then
      some ((false, ()), (()))
    else
      gossip_Ring_Agree_v2.l8 k o0_2 o1_2 o1_3 o1_4 o1_5 o2_0 o3_0 o4_1 o4_2 o4_3 o5_1 o5_2 o5_3 o6_1 o6_2 o6_3
noncomputable def gossip_Ring_Agree_v2.l8 : Nat → Ab0 → Ab12 → Bool → Bool → Int → Ab5 → Ab5 → (List Ab4) → Ab0 → Int → (List Ab4) → Ab0 → Int → (List Ab4) → Ab0 → Int → Option gossip_Ring_Agree_v2.R
  | 0, _, _, _, _, _, _, _, _, _, _, _, _, _, _, _, _ => none
  | k + 1, o0_2, o1_2, o1_3, o1_4, o1_5, o2_0, o3_0, o4_1, o4_2, o4_3, o5_1, o5_2, o5_3, o6_1, o6_2, o6_3 =>
    gossip_Ring_Agree_v2.l9 k o0_2 o1_2 o1_3 o1_4 o1_5 o2_0 o3_0 o4_1 o4_2 o4_3 o5_1 o5_2 o5_3 o6_1 o6_2 o6_3
noncomputable def gossip_Ring_Agree_v2.f : Nat → Ab0 → Ab12 → Bool → Bool → Int → Ab5 → Ab5 → (List Ab4) → Ab0 → Int → (List Ab4) → Ab0 → Int → (List Ab4) → Ab0 → Int → Option gossip_Ring_Agree_v2.R
  | 0, _, _, _, _, _, _, _, _, _, _, _, _, _, _, _, _ => none
  | k + 1, o0_2, o1_2, o1_3, o1_4, o1_5, o2_0, o3_0, o4_1, o4_2, o4_3, o5_1, o5_2, o5_3, o6_1, o6_2, o6_3 =>
    gossip_Ring_Agree_v2.l0 k o0_2 o1_2 o1_3 o1_4 o1_5 o2_0 o3_0 o4_1 o4_2 o4_3 o5_1 o5_2 o5_3 o6_1 o6_2 o6_3
end
abbrev gossip_Ring_Agree_v2.ini : LSh := ⟨[(0, .ptr 1000000 0)], [(1000000, 86, [.ptr 1000001 0, .psl [(1000004, 0), (1000005, 0), (1000006, 0)], .val (.sl Ac1)]), (1000001, 80, [.mref 1000002, .mref 1000003, .val Ac10, .val .bool, .val .bool, .val (.int .i64)]), (1000002, 77, [.mapd]), (1000003, 77, [.mapd]), (1000004, 88, [.ptr 1000001 0, .val (.sl Ac6), .val (.sl Ac1), .val (.int .i64)]), (1000005, 88, [.ptr 1000001 0, .val (.sl Ac6), .val (.sl Ac1), .val (.int .i64)]), (1000006, 88, [.ptr 1000001 0, .val (.sl Ac6), .val (.sl Ac1), .val (.int .i64)])]⟩
abbrev gossip_Ring_Agree_v2.out : LSh := ⟨[(0, .val .bool)], []⟩
abbrev gossip_Ring_Agree_v2.l0s : LSh := ⟨[(0, .ptr 1000000 0), (12, .psl [(1000004, 0), (1000005, 0), (1000006, 0)]), (13, .cst .i64 3), (14, .cst .i64 0)], [(1000000, 86, [.ptr 1000001 0, .psl [(1000004, 0), (1000005, 0), (1000006, 0)], .val (.sl Ac1)]), (1000001, 80, [.mref 1000002, .mref 1000003, .val Ac10, .val .bool, .val .bool, .val (.int .i64)]), (1000002, 77, [.mapd]), (1000003, 77, [.mapd]), (1000004, 88, [.ptr 1000001 0, .val (.sl Ac6), .val (.sl Ac1), .val (.int .i64)]), (1000005, 88, [.ptr 1000001 0, .val (.sl Ac6), .val (.sl Ac1), .val (.int .i64)]), (1000006, 88, [.ptr 1000001 0, .val (.sl Ac6), .val (.sl Ac1), .val (.int .i64)])]⟩
abbrev gossip_Ring_Agree_v2.l1s : LSh := ⟨[(0, .ptr 1000000 0), (4, .ptr 1000004 0), (12, .psl [(1000004, 0), (1000005, 0), (1000006, 0)]), (13, .cst .i64 3), (14, .cst .i64 0), (24, .psl []), (25, .cst .i64 0), (26, .cst .i64 0)], [(1000000, 86, [.ptr 1000001 0, .psl [(1000004, 0), (1000005, 0), (1000006, 0)], .val (.sl Ac1)]), (1000001, 80, [.mref 1000002, .mref 1000003, .val Ac10, .val .bool, .val .bool, .val (.int .i64)]), (1000002, 77, [.mapd]), (1000003, 77, [.mapd]), (1000004, 88, [.ptr 1000001 0, .val (.sl Ac6), .val (.sl Ac1), .val (.int .i64)]), (1000005, 88, [.ptr 1000001 0, .val (.sl Ac6), .val (.sl Ac1), .val (.int .i64)]), (1000006, 88, [.ptr 1000001 0, .val (.sl Ac6), .val (.sl Ac1), .val (.int .i64)])]⟩
abbrev gossip_Ring_Agree_v2.l2s : LSh := ⟨[(0, .ptr 1000000 0), (12, .psl [(1000004, 0), (1000005, 0), (1000006, 0)]), (13, .cst .i64 3), (14, .cst .i64 1)], [(1000000, 86, [.ptr 1000001 0, .psl [(1000004, 0), (1000005, 0), (1000006, 0)], .val (.sl Ac1)]), (1000001, 80, [.mref 1000002, .mref 1000003, .val Ac10, .val .bool, .val .bool, .val (.int .i64)]), (1000002, 77, [.mapd]), (1000003, 77, [.mapd]), (1000004, 88, [.ptr 1000001 0, .val (.sl Ac6), .val (.sl Ac1), .val (.int .i64)]), (1000005, 88, [.ptr 1000001 0, .val (.sl Ac6), .val (.sl Ac1), .val (.int .i64)]), (1000006, 88, [.ptr 1000001 0, .val (.sl Ac6), .val (.sl Ac1), .val (.int .i64)])]⟩
abbrev gossip_Ring_Agree_v2.l3s : LSh := ⟨[(0, .ptr 1000000 0), (4, .ptr 1000005 0), (12, .psl [(1000004, 0), (1000005, 0), (1000006, 0)]), (13, .cst .i64 3), (14, .cst .i64 1), (24, .psl [(1000004, 0)]), (25, .cst .i64 1), (26, .cst .i64 0)], [(1000000, 86, [.ptr 1000001 0, .psl [(1000004, 0), (1000005, 0), (1000006, 0)], .val (.sl Ac1)]), (1000001, 80, [.mref 1000002, .mref 1000003, .val Ac10, .val .bool, .val .bool, .val (.int .i64)]), (1000002, 77, [.mapd]), (1000003, 77, [.mapd]), (1000004, 88, [.ptr 1000001 0, .val (.sl Ac6), .val (.sl Ac1), .val (.int .i64)]), (1000005, 88, [.ptr 1000001 0, .val (.sl Ac6), .val (.sl Ac1), .val (.int .i64)]), (1000006, 88, [.ptr 1000001 0, .val (.sl Ac6), .val (.sl Ac1), .val (.int .i64)])]⟩
abbrev gossip_Ring_Agree_v2.l5s : LSh := ⟨[(0, .ptr 1000000 0), (12, .psl [(1000004, 0), (1000005, 0), (1000006, 0)]), (13, .cst .i64 3), (14, .cst .i64 2)], [(1000000, 86, [.ptr 1000001 0, .psl [(1000004, 0), (1000005, 0), (1000006, 0)], .val (.sl Ac1)]), (1000001, 80, [.mref 1000002, .mref 1000003, .val Ac10, .val .bool, .val .bool, .val (.int .i64)]), (1000002, 77, [.mapd]), (1000003, 77, [.mapd]), (1000004, 88, [.ptr 1000001 0, .val (.sl Ac6), .val (.sl Ac1), .val (.int .i64)]), (1000005, 88, [.ptr 1000001 0, .val (.sl Ac6), .val (.sl Ac1), .val (.int .i64)]), (1000006, 88, [.ptr 1000001 0, .val (.sl Ac6), .val (.sl Ac1), .val (.int .i64)])]⟩
abbrev gossip_Ring_Agree_v2.l4s : LSh := ⟨[(0, .ptr 1000000 0), (4, .ptr 1000005 0), (12, .psl [(1000004, 0), (1000005, 0), (1000006, 0)]), (13, .cst .i64 3), (14, .cst .i64 1), (24, .psl [(1000004, 0)]), (25, .cst .i64 1), (26, .cst .i64 1)], [(1000000, 86, [.ptr 1000001 0, .psl [(1000004, 0), (1000005, 0), (1000006, 0)], .val (.sl Ac1)]), (1000001, 80, [.mref 1000002, .mref 1000003, .val Ac10, .val .bool, .val .bool, .val (.int .i64)]), (1000002, 77, [.mapd]), (1000003, 77, [.mapd]), (1000004, 88, [.ptr 1000001 0, .val (.sl Ac6), .val (.sl Ac1), .val (.int .i64)]), (1000005, 88, [.ptr 1000001 0, .val (.sl Ac6), .val (.sl Ac1), .val (.int .i64)]), (1000006, 88, [.ptr 1000001 0, .val (.sl Ac6), .val (.sl Ac1), .val (.int .i64)])]⟩
abbrev gossip_Ring_Agree_v2.l9s : LSh := ⟨[(0, .ptr 1000000 0), (12, .psl [(1000004, 0), (1000005, 0), (1000006, 0)]), (13, .cst .i64 3), (14, .cst .i64 3)], [(1000000, 86, [.ptr 1000001 0, .psl [(1000004, 0), (1000005, 0), (1000006, 0)], .val (.sl Ac1)]), (1000001, 80, [.mref 1000002, .mref 1000003, .val Ac10, .val .bool, .val .bool, .val (.int .i64)]), (1000002, 77, [.mapd]), (1000003, 77, [.mapd]), (1000004, 88, [.ptr 1000001 0, .val (.sl Ac6), .val (.sl Ac1), .val (.int .i64)]), (1000005, 88, [.ptr 1000001 0, .val (.sl Ac6), .val (.sl Ac1), .val (.int .i64)]), (1000006, 88, [.ptr 1000001 0, .val (.sl Ac6), .val (.sl Ac1), .val (.int .i64)])]⟩
abbrev gossip_Ring_Agree_v2.l6s : LSh := ⟨[(0, .ptr 1000000 0), (4, .ptr 1000006 0), (12, .psl [(1000004, 0), (1000005, 0), (1000006, 0)]), (13, .cst .i64 3), (14, .cst .i64 2), (24, .psl [(1000004, 0), (1000005, 0)]), (25, .cst .i64 2), (26, .cst .i64 0)], [(1000000, 86, [.ptr 1000001 0, .psl [(1000004, 0), (1000005, 0), (1000006, 0)], .val (.sl Ac1)]), (1000001, 80, [.mref 1000002, .mref 1000003, .val Ac10, .val .bool, .val .bool, .val (.int .i64)]), (1000002, 77, [.mapd]), (1000003, 77, [.mapd]), (1000004, 88, [.ptr 1000001 0, .val (.sl Ac6), .val (.sl Ac1), .val (.int .i64)]), (1000005, 88, [.ptr 1000001 0, .val (.sl Ac6), .val (.sl Ac1), .val (.int .i64)]), (1000006, 88, [.ptr 1000001 0, .val (.sl Ac6), .val (.sl Ac1), .val (.int .i64)])]⟩
abbrev gossip_Ring_Agree_v2.l7s : LSh := ⟨[(0, .ptr 1000000 0), (4, .ptr 1000006 0), (12, .psl [(1000004, 0), (1000005, 0), (1000006, 0)]), (13, .cst .i64 3), (14, .cst .i64 2), (24, .psl [(1000004, 0), (1000005, 0)]), (25, .cst .i64 2), (26, .cst .i64 1)], [(1000000, 86, [.ptr 1000001 0, .psl [(1000004, 0), (1000005, 0), (1000006, 0)], .val (.sl Ac1)]), (1000001, 80, [.mref 1000002, .mref 1000003, .val Ac10, .val .bool, .val .bool, .val (.int .i64)]), (1000002, 77, [.mapd]), (1000003, 77, [.mapd]), (1000004, 88, [.ptr 1000001 0, .val (.sl Ac6), .val (.sl Ac1), .val (.int .i64)]), (1000005, 88, [.ptr 1000001 0, .val (.sl Ac6), .val (.sl Ac1), .val (.int .i64)]), (1000006, 88, [.ptr 1000001 0, .val (.sl Ac6), .val (.sl Ac1), .val (.int .i64)])]⟩
abbrev gossip_Ring_Agree_v2.l8s : LSh := ⟨[(0, .ptr 1000000 0), (4, .ptr 1000006 0), (12, .psl [(1000004, 0), (1000005, 0), (1000006, 0)]), (13, .cst .i64 3), (14, .cst .i64 2), (24, .psl [(1000004, 0), (1000005, 0)]), (25, .cst .i64 2), (26, .cst .i64 2)], [(1000000, 86, [.ptr 1000001 0, .psl [(1000004, 0), (1000005, 0), (1000006, 0)], .val (.sl Ac1)]), (1000001, 80, [.mref 1000002, .mref 1000003, .val Ac10, .val .bool, .val .bool, .val (.int .i64)]), (1000002, 77, [.mapd]), (1000003, 77, [.mapd]), (1000004, 88, [.ptr 1000001 0, .val (.sl Ac6), .val (.sl Ac1), .val (.int .i64)]), (1000005, 88, [.ptr 1000001 0, .val (.sl Ac6), .val (.sl Ac1), .val (.int .i64)]), (1000006, 88, [.ptr 1000001 0, .val (.sl Ac6), .val (.sl Ac1), .val (.int .i64)])]⟩
noncomputable def gossip_Ring_Agree_v2.labF : Nat → List (LabF gossip_Ring_Agree_v2.out.den)
  | 8 => [⟨gossip_Ring_Agree_v2.l0s, fun k (d : (Unit × Unit × Unit × Unit × Unit) × Ab2) => (gossip_Ring_Agree_v2.l0 k d.2.1.2.2.1 d.2.2.1.2.2.1 d.2.2.1.2.2.2.1 d.2.2.1.2.2.2.2.1 d.2.2.1.2.2.2.2.2.1 d.2.2.2.1.1 d.2.2.2.2.1.1 d.2.2.2.2.2.1.2.1 d.2.2.2.2.2.1.2.2.1 d.2.2.2.2.2.1.2.2.2.1 d.2.2.2.2.2.2.1.2.1 d.2.2.2.2.2.2.1.2.2.1 d.2.2.2.2.2.2.1.2.2.2.1 d.2.2.2.2.2.2.2.1.2.1 d.2.2.2.2.2.2.2.1.2.2.1 d.2.2.2.2.2.2.2.1.2.2.2.1 : Option gossip_Ring_Agree_v2.R)⟩, ⟨gossip_Ring_Agree_v2.l2s, fun k (d : (Unit × Unit × Unit × Unit × Unit) × Ab2) => (gossip_Ring_Agree_v2.l2 k d.2.1.2.2.1 d.2.2.1.2.2.1 d.2.2.1.2.2.2.1 d.2.2.1.2.2.2.2.1 d.2.2.1.2.2.2.2.2.1 d.2.2.2.1.1 d.2.2.2.2.1.1 d.2.2.2.2.2.1.2.1 d.2.2.2.2.2.1.2.2.1 d.2.2.2.2.2.1.2.2.2.1 d.2.2.2.2.2.2.1.2.1 d.2.2.2.2.2.2.1.2.2.1 d.2.2.2.2.2.2.1.2.2.2.1 d.2.2.2.2.2.2.2.1.2.1 d.2.2.2.2.2.2.2.1.2.2.1 d.2.2.2.2.2.2.2.1.2.2.2.1 : Option gossip_Ring_Agree_v2.R)⟩, ⟨gossip_Ring_Agree_v2.l5s, fun k (d : (Unit × Unit × Unit × Unit × Unit) × Ab2) => (gossip_Ring_Agree_v2.l5 k d.2.1.2.2.1 d.2.2.1.2.2.1 d.2.2.1.2.2.2.1 d.2.2.1.2.2.2.2.1 d.2.2.1.2.2.2.2.2.1 d.2.2.2.1.1 d.2.2.2.2.1.1 d.2.2.2.2.2.1.2.1 d.2.2.2.2.2.1.2.2.1 d.2.2.2.2.2.1.2.2.2.1 d.2.2.2.2.2.2.1.2.1 d.2.2.2.2.2.2.1.2.2.1 d.2.2.2.2.2.2.1.2.2.2.1 d.2.2.2.2.2.2.2.1.2.1 d.2.2.2.2.2.2.2.1.2.2.1 d.2.2.2.2.2.2.2.1.2.2.2.1 : Option gossip_Ring_Agree_v2.R)⟩, ⟨gossip_Ring_Agree_v2.l9s, fun k (d : (Unit × Unit × Unit × Unit × Unit) × Ab2) => (gossip_Ring_Agree_v2.l9 k d.2.1.2.2.1 d.2.2.1.2.2.1 d.2.2.1.2.2.2.1 d.2.2.1.2.2.2.2.1 d.2.2.1.2.2.2.2.2.1 d.2.2.2.1.1 d.2.2.2.2.1.1 d.2.2.2.2.2.1.2.1 d.2.2.2.2.2.1.2.2.1 d.2.2.2.2.2.1.2.2.2.1 d.2.2.2.2.2.2.1.2.1 d.2.2.2.2.2.2.1.2.2.1 d.2.2.2.2.2.2.1.2.2.2.1 d.2.2.2.2.2.2.2.1.2.1 d.2.2.2.2.2.2.2.1.2.2.1 d.2.2.2.2.2.2.2.1.2.2.2.1 : Option gossip_Ring_Agree_v2.R)⟩]
  | 14 => [⟨gossip_Ring_Agree_v2.l1s, fun k (d : (Unit × Unit × Unit × Unit × Unit × Unit × Unit × Unit × Unit) × Ab2) => (gossip_Ring_Agree_v2.l1 k d.2.1.2.2.1 d.2.2.1.2.2.1 d.2.2.1.2.2.2.1 d.2.2.1.2.2.2.2.1 d.2.2.1.2.2.2.2.2.1 d.2.2.2.1.1 d.2.2.2.2.1.1 d.2.2.2.2.2.1.2.1 d.2.2.2.2.2.1.2.2.1 d.2.2.2.2.2.1.2.2.2.1 d.2.2.2.2.2.2.1.2.1 d.2.2.2.2.2.2.1.2.2.1 d.2.2.2.2.2.2.1.2.2.2.1 d.2.2.2.2.2.2.2.1.2.1 d.2.2.2.2.2.2.2.1.2.2.1 d.2.2.2.2.2.2.2.1.2.2.2.1 : Option gossip_Ring_Agree_v2.R)⟩, ⟨gossip_Ring_Agree_v2.l3s, fun k (d : (Unit × Unit × Unit × Unit × Unit × Unit × Unit × Unit × Unit) × Ab2) => (gossip_Ring_Agree_v2.l3 k d.2.1.2.2.1 d.2.2.1.2.2.1 d.2.2.1.2.2.2.1 d.2.2.1.2.2.2.2.1 d.2.2.1.2.2.2.2.2.1 d.2.2.2.1.1 d.2.2.2.2.1.1 d.2.2.2.2.2.1.2.1 d.2.2.2.2.2.1.2.2.1 d.2.2.2.2.2.1.2.2.2.1 d.2.2.2.2.2.2.1.2.1 d.2.2.2.2.2.2.1.2.2.1 d.2.2.2.2.2.2.1.2.2.2.1 d.2.2.2.2.2.2.2.1.2.1 d.2.2.2.2.2.2.2.1.2.2.1 d.2.2.2.2.2.2.2.1.2.2.2.1 : Option gossip_Ring_Agree_v2.R)⟩, ⟨gossip_Ring_Agree_v2.l4s, fun k (d : (Unit × Unit × Unit × Unit × Unit × Unit × Unit × Unit × Unit) × Ab2) => (gossip_Ring_Agree_v2.l4 k d.2.1.2.2.1 d.2.2.1.2.2.1 d.2.2.1.2.2.2.1 d.2.2.1.2.2.2.2.1 d.2.2.1.2.2.2.2.2.1 d.2.2.2.1.1 d.2.2.2.2.1.1 d.2.2.2.2.2.1.2.1 d.2.2.2.2.2.1.2.2.1 d.2.2.2.2.2.1.2.2.2.1 d.2.2.2.2.2.2.1.2.1 d.2.2.2.2.2.2.1.2.2.1 d.2.2.2.2.2.2.1.2.2.2.1 d.2.2.2.2.2.2.2.1.2.1 d.2.2.2.2.2.2.2.1.2.2.1 d.2.2.2.2.2.2.2.1.2.2.2.1 : Option gossip_Ring_Agree_v2.R)⟩, ⟨gossip_Ring_Agree_v2.l6s, fun k (d : (Unit × Unit × Unit × Unit × Unit × Unit × Unit × Unit × Unit) × Ab2) => (gossip_Ring_Agree_v2.l6 k d.2.1.2.2.1 d.2.2.1.2.2.1 d.2.2.1.2.2.2.1 d.2.2.1.2.2.2.2.1 d.2.2.1.2.2.2.2.2.1 d.2.2.2.1.1 d.2.2.2.2.1.1 d.2.2.2.2.2.1.2.1 d.2.2.2.2.2.1.2.2.1 d.2.2.2.2.2.1.2.2.2.1 d.2.2.2.2.2.2.1.2.1 d.2.2.2.2.2.2.1.2.2.1 d.2.2.2.2.2.2.1.2.2.2.1 d.2.2.2.2.2.2.2.1.2.1 d.2.2.2.2.2.2.2.1.2.2.1 d.2.2.2.2.2.2.2.1.2.2.2.1 : Option gossip_Ring_Agree_v2.R)⟩, ⟨gossip_Ring_Agree_v2.l7s, fun k (d : (Unit × Unit × Unit × Unit × Unit × Unit × Unit × Unit × Unit) × Ab2) => (gossip_Ring_Agree_v2.l7 k d.2.1.2.2.1 d.2.2.1.2.2.1 d.2.2.1.2.2.2.1 d.2.2.1.2.2.2.2.1 d.2.2.1.2.2.2.2.2.1 d.2.2.2.1.1 d.2.2.2.2.1.1 d.2.2.2.2.2.1.2.1 d.2.2.2.2.2.1.2.2.1 d.2.2.2.2.2.1.2.2.2.1 d.2.2.2.2.2.2.1.2.1 d.2.2.2.2.2.2.1.2.2.1 d.2.2.2.2.2.2.1.2.2.2.1 d.2.2.2.2.2.2.2.1.2.1 d.2.2.2.2.2.2.2.1.2.2.1 d.2.2.2.2.2.2.2.1.2.2.2.1 : Option gossip_Ring_Agree_v2.R)⟩, ⟨gossip_Ring_Agree_v2.l8s, fun k (d : (Unit × Unit × Unit × Unit × Unit × Unit × Unit × Unit × Unit) × Ab2) => (gossip_Ring_Agree_v2.l8 k d.2.1.2.2.1 d.2.2.1.2.2.1 d.2.2.1.2.2.2.1 d.2.2.1.2.2.2.2.1 d.2.2.1.2.2.2.2.2.1 d.2.2.2.1.1 d.2.2.2.2.1.1 d.2.2.2.2.2.1.2.1 d.2.2.2.2.2.1.2.2.1 d.2.2.2.2.2.1.2.2.2.1 d.2.2.2.2.2.2.1.2.1 d.2.2.2.2.2.2.1.2.2.1 d.2.2.2.2.2.2.1.2.2.2.1 d.2.2.2.2.2.2.2.1.2.1 d.2.2.2.2.2.2.2.1.2.2.1 d.2.2.2.2.2.2.2.1.2.2.2.1 : Option gossip_Ring_Agree_v2.R)⟩]
  | _ => []
noncomputable def gossip_Ring_Agree_v2.fd : FnD := ⟨Try.f19, gossip_Ring_Agree_v2.ini, gossip_Ring_Agree_v2.out, 1, [1000000, 1000001, 1000002, 1000003, 1000004, 1000005, 1000006], [1000000, 1000001, 1000002, 1000003, 1000004, 1000005, 1000006], gossip_Ring_Agree_v2.labF, fun k (d : (Unit × Unit) × Ab2) => (gossip_Ring_Agree_v2.f k d.2.1.2.2.1 d.2.2.1.2.2.1 d.2.2.1.2.2.2.1 d.2.2.1.2.2.2.2.1 d.2.2.1.2.2.2.2.2.1 d.2.2.2.1.1 d.2.2.2.2.1.1 d.2.2.2.2.2.1.2.1 d.2.2.2.2.2.1.2.2.1 d.2.2.2.2.2.1.2.2.2.1 d.2.2.2.2.2.2.1.2.1 d.2.2.2.2.2.2.1.2.2.1 d.2.2.2.2.2.2.1.2.2.2.1 d.2.2.2.2.2.2.2.1.2.1 d.2.2.2.2.2.2.2.1.2.2.1 d.2.2.2.2.2.2.2.1.2.2.2.1 : Option gossip_Ring_Agree_v2.R), none, [(88888888, 0, 0)]⟩

/-! ### gossip_at_auditor_Auditor_v2 : function 39 -/
abbrev gossip_at_auditor_Auditor_v2.R := (Unit × Unit) × (Unit)
noncomputable def gossip_at_auditor_Auditor_v2.f : Nat → (List Ab4) → Ab0 → Int → Ab12 → Bool → Bool → Int → Ab5 → Ab5 → (List Ab4) → Ab0 → Int → (List Ab4) → Ab0 → Int → Option gossip_at_auditor_Auditor_v2.R
  | 0, _, _, _, _, _, _, _, _, _, _, _, _, _, _, _ => none
  | k + 1, o0_1, o0_2, o0_3, o1_2, o1_3, o1_4, o1_5, o2_0, o3_0, o4_1, o4_2, o4_3, o5_1, o5_2, o5_3 =>
    some (((), ()), (()))
abbrev gossip_at_auditor_Auditor_v2.ini : LSh := ⟨[(0, .psl [(1000000, 0), (1000004, 0), (1000005, 0)]), (1, .cst .i64 2)], [(1000000, 88, [.ptr 1000001 0, .val (.sl Ac6), .val (.sl Ac1), .val (.int .i64)]), (1000001, 80, [.mref 1000002, .mref 1000003, .val Ac10, .val .bool, .val .bool, .val (.int .i64)]), (1000002, 77, [.mapd]), (1000003, 77, [.mapd]), (1000004, 88, [.ptr 1000001 0, .val (.sl Ac6), .val (.sl Ac1), .val (.int .i64)]), (1000005, 88, [.ptr 1000001 0, .val (.sl Ac6), .val (.sl Ac1), .val (.int .i64)])]⟩
abbrev gossip_at_auditor_Auditor_v2.out : LSh := ⟨[(0, .ptr 1000005 0)], []⟩
noncomputable def gossip_at_auditor_Auditor_v2.labF : Nat → List (LabF gossip_at_auditor_Auditor_v2.out.den)
  | _ => []
noncomputable def gossip_at_auditor_Auditor_v2.fd : FnD := ⟨Try.f39, gossip_at_auditor_Auditor_v2.ini, gossip_at_auditor_Auditor_v2.out, 1, [1000000, 1000001, 1000002, 1000003, 1000004, 1000005], [1000000, 1000001, 1000002, 1000003, 1000004, 1000005], gossip_at_auditor_Auditor_v2.labF, fun k (d : (Unit × Unit × Unit) × (Ab9 × Ab8 × (Ab5 × Unit) × (Ab5 × Unit) × Ab9 × Ab9 × Unit)) => (gossip_at_auditor_Auditor_v2.f k d.2.1.2.1 d.2.1.2.2.1 d.2.1.2.2.2.1 d.2.2.1.2.2.1 d.2.2.1.2.2.2.1 d.2.2.1.2.2.2.2.1 d.2.2.1.2.2.2.2.2.1 d.2.2.2.1.1 d.2.2.2.2.1.1 d.2.2.2.2.2.1.2.1 d.2.2.2.2.2.1.2.2.1 d.2.2.2.2.2.1.2.2.2.1 d.2.2.2.2.2.2.1.2.1 d.2.2.2.2.2.2.1.2.2.1 d.2.2.2.2.2.2.1.2.2.2.1 : Option gossip_at_auditor_Auditor_v2.R), none, []⟩

/-! ### gossip_Ring_Auditor_v3 : function 20 -/
abbrev gossip_Ring_Auditor_v3.R := (Unit × Unit) × (Unit)
noncomputable def gossip_Ring_Auditor_v3.f : Nat → Ab0 → Ab12 → Bool → Bool → Int → Ab5 → Ab5 → (List Ab4) → Ab0 → Int → (List Ab4) → Ab0 → Int → (List Ab4) → Ab0 → Int → Option gossip_Ring_Auditor_v3.R
  | 0, _, _, _, _, _, _, _, _, _, _, _, _, _, _, _, _ => none
  | k + 1, o0_2, o1_2, o1_3, o1_4, o1_5, o2_0, o3_0, o4_1, o4_2, o4_3, o5_1, o5_2, o5_3, o6_1, o6_2, o6_3 =>
    (gossip_at_auditor_Auditor_v2.f k o4_1 o4_2 o4_3 o1_2 o1_3 o1_4 o1_5 o2_0 o3_0 o5_1 o5_2 o5_3 o6_1 o6_2 o6_3).bind fun r1 =>
    some (((), ()), (()))
abbrev gossip_Ring_Auditor_v3.ini : LSh := ⟨[(0, .ptr 1000000 0), (1, .cst .i64 2)], [(1000000, 86, [.ptr 1000001 0, .psl [(1000004, 0), (1000005, 0), (1000006, 0)], .val (.sl Ac1)]), (1000001, 80, [.mref 1000002, .mref 1000003, .val Ac10, .val .bool, .val .bool, .val (.int .i64)]), (1000002, 77, [.mapd]), (1000003, 77, [.mapd]), (1000004, 88, [.ptr 1000001 0, .val (.sl Ac6), .val (.sl Ac1), .val (.int .i64)]), (1000005, 88, [.ptr 1000001 0, .val (.sl Ac6), .val (.sl Ac1), .val (.int .i64)]), (1000006, 88, [.ptr 1000001 0, .val (.sl Ac6), .val (.sl Ac1), .val (.int .i64)])]⟩
abbrev gossip_Ring_Auditor_v3.out : LSh := ⟨[(0, .ptr 1000006 0)], []⟩
noncomputable def gossip_Ring_Auditor_v3.labF : Nat → List (LabF gossip_Ring_Auditor_v3.out.den)
  | _ => []
noncomputable def gossip_Ring_Auditor_v3.fd : FnD := ⟨Try.f20, gossip_Ring_Auditor_v3.ini, gossip_Ring_Auditor_v3.out, 1, [1000000, 1000001, 1000002, 1000003, 1000004, 1000005, 1000006], [1000000, 1000001, 1000002, 1000003, 1000004, 1000005, 1000006], gossip_Ring_Auditor_v3.labF, fun k (d : (Unit × Unit × Unit) × Ab2) => (gossip_Ring_Auditor_v3.f k d.2.1.2.2.1 d.2.2.1.2.2.1 d.2.2.1.2.2.2.1 d.2.2.1.2.2.2.2.1 d.2.2.1.2.2.2.2.2.1 d.2.2.2.1.1 d.2.2.2.2.1.1 d.2.2.2.2.2.1.2.1 d.2.2.2.2.2.1.2.2.1 d.2.2.2.2.2.1.2.2.2.1 d.2.2.2.2.2.2.1.2.1 d.2.2.2.2.2.2.1.2.2.1 d.2.2.2.2.2.2.1.2.2.2.1 d.2.2.2.2.2.2.2.1.2.1 d.2.2.2.2.2.2.2.1.2.2.1 d.2.2.2.2.2.2.2.1.2.2.2.1 : Option gossip_Ring_Auditor_v3.R), none, [(88888888, 0, 0)]⟩

/-! ### gossip_at_auditor_Auditor_v3 : function 39 -/
abbrev gossip_at_auditor_Auditor_v3.R := (Unit × Unit) × (Unit)
noncomputable def gossip_at_auditor_Auditor_v3.f : Nat → (List Ab4) → Ab0 → Int → Ab12 → Bool → Bool → Int → Ab5 → Ab5 → (List Ab4) → Ab0 → Int → (List Ab4) → Ab0 → Int → Option gossip_at_auditor_Auditor_v3.R
  | 0, _, _, _, _, _, _, _, _, _, _, _, _, _, _, _ => none
  | k + 1, o0_1, o0_2, o0_3, o1_2, o1_3, o1_4, o1_5, o2_0, o3_0, o4_1, o4_2, o4_3, o5_1, o5_2, o5_3 =>
    some (((), ()), (()))
abbrev gossip_at_auditor_Auditor_v3.ini : LSh := ⟨[(0, .psl [(1000000, 0), (1000004, 0), (1000005, 0)]), (1, .cst .i64 1)], [(1000000, 88, [.ptr 1000001 0, .val (.sl Ac6), .val (.sl Ac1), .val (.int .i64)]), (1000001, 80, [.mref 1000002, .mref 1000003, .val Ac10, .val .bool, .val .bool, .val (.int .i64)]), (1000002, 77, [.mapd]), (1000003, 77, [.mapd]), (1000004, 88, [.ptr 1000001 0, .val (.sl Ac6), .val (.sl Ac1), .val (.int .i64)]), (1000005, 88, [.ptr 1000001 0, .val (.sl Ac6), .val (.sl Ac1), .val (.int .i64)])]⟩
abbrev gossip_at_auditor_Auditor_v3.out : LSh := ⟨[(0, .ptr 1000004 0)], []⟩
noncomputable def gossip_at_auditor_Auditor_v3.labF : Nat → List (LabF gossip_at_auditor_Auditor_v3.out.den)
  | _ => []
noncomputable def gossip_at_auditor_Auditor_v3.fd : FnD := ⟨Try.f39, gossip_at_auditor_Auditor_v3.ini, gossip_at_auditor_Auditor_v3.out, 1, [1000000, 1000001, 1000002, 1000003, 1000004, 1000005], [1000000, 1000001, 1000002, 1000003, 1000004, 1000005], gossip_at_auditor_Auditor_v3.labF, fun k (d : (Unit × Unit × Unit) × (Ab9 × Ab8 × (Ab5 × Unit) × (Ab5 × Unit) × Ab9 × Ab9 × Unit)) => (gossip_at_auditor_Auditor_v3.f k d.2.1.2.1 d.2.1.2.2.1 d.2.1.2.2.2.1 d.2.2.1.2.2.1 d.2.2.1.2.2.2.1 d.2.2.1.2.2.2.2.1 d.2.2.1.2.2.2.2.2.1 d.2.2.2.1.1 d.2.2.2.2.1.1 d.2.2.2.2.2.1.2.1 d.2.2.2.2.2.1.2.2.1 d.2.2.2.2.2.1.2.2.2.1 d.2.2.2.2.2.2.1.2.1 d.2.2.2.2.2.2.1.2.2.1 d.2.2.2.2.2.2.1.2.2.2.1 : Option gossip_at_auditor_Auditor_v3.R), none, []⟩

/-! ### gossip_Ring_Auditor_v4 : function 20 -/
abbrev gossip_Ring_Auditor_v4.R := (Unit × Unit) × (Unit)
noncomputable def gossip_Ring_Auditor_v4.f : Nat → Ab0 → Ab12 → Bool → Bool → Int → Ab5 → Ab5 → (List Ab4) → Ab0 → Int → (List Ab4) → Ab0 → Int → (List Ab4) → Ab0 → Int → Option gossip_Ring_Auditor_v4.R
  | 0, _, _, _, _, _, _, _, _, _, _, _, _, _, _, _, _ => none
  | k + 1, o0_2, o1_2, o1_3, o1_4, o1_5, o2_0, o3_0, o4_1, o4_2, o4_3, o5_1, o5_2, o5_3, o6_1, o6_2, o6_3 =>
    (gossip_at_auditor_Auditor_v3.f k o4_1 o4_2 o4_3 o1_2 o1_3 o1_4 o1_5 o2_0 o3_0 o5_1 o5_2 o5_3 o6_1 o6_2 o6_3).bind fun r1 =>
    some (((), ()), (()))
abbrev gossip_Ring_Auditor_v4.ini : LSh := ⟨[(0, .ptr 1000000 0), (1, .cst .i64 1)], [(1000000, 86, [.ptr 1000001 0, .psl [(1000004, 0), (1000005, 0), (1000006, 0)], .val (.sl Ac1)]), (1000001, 80, [.mref 1000002, .mref 1000003, .val Ac10, .val .bool, .val .bool, .val (.int .i64)]), (1000002, 77, [.mapd]), (1000003, 77, [.mapd]), (1000004, 88, [.ptr 1000001 0, .val (.sl Ac6), .val (.sl Ac1), .val (.int .i64)]), (1000005, 88, [.ptr 1000001 0, .val (.sl Ac6), .val (.sl Ac1), .val (.int .i64)]), (1000006, 88, [.ptr 1000001 0, .val (.sl Ac6), .val (.sl Ac1), .val (.int .i64)])]⟩
abbrev gossip_Ring_Auditor_v4.out : LSh := ⟨[(0, .ptr 1000005 0)], []⟩
noncomputable def gossip_Ring_Auditor_v4.labF : Nat → List (LabF gossip_Ring_Auditor_v4.out.den)
  | _ => []
noncomputable def gossip_Ring_Auditor_v4.fd : FnD := ⟨Try.f20, gossip_Ring_Auditor_v4.ini, gossip_Ring_Auditor_v4.out, 1, [1000000, 1000001, 1000002, 1000003, 1000004, 1000005, 1000006], [1000000, 1000001, 1000002, 1000003, 1000004, 1000005, 1000006], gossip_Ring_Auditor_v4.labF, fun k (d : (Unit × Unit × Unit) × Ab2) => (gossip_Ring_Auditor_v4.f k d.2.1.2.2.1 d.2.2.1.2.2.1 d.2.2.1.2.2.2.1 d.2.2.1.2.2.2.2.1 d.2.2.1.2.2.2.2.2.1 d.2.2.2.1.1 d.2.2.2.2.1.1 d.2.2.2.2.2.1.2.1 d.2.2.2.2.2.1.2.2.1 d.2.2.2.2.2.1.2.2.2.1 d.2.2.2.2.2.2.1.2.1 d.2.2.2.2.2.2.1.2.2.1 d.2.2.2.2.2.2.1.2.2.2.1 d.2.2.2.2.2.2.2.1.2.1 d.2.2.2.2.2.2.2.1.2.2.1 d.2.2.2.2.2.2.2.1.2.2.2.1 : Option gossip_Ring_Auditor_v4.R), none, [(88888888, 0, 0)]⟩

/-! ### gossip_at_auditor_Auditor_v4 : function 39 -/
abbrev gossip_at_auditor_Auditor_v4.R := (Unit × Unit) × (Unit)
noncomputable def gossip_at_auditor_Auditor_v4.f : Nat → (List Ab4) → Ab0 → Int → Ab12 → Bool → Bool → Int → Ab5 → Ab5 → (List Ab4) → Ab0 → Int → (List Ab4) → Ab0 → Int → Option gossip_at_auditor_Auditor_v4.R
  | 0, _, _, _, _, _, _, _, _, _, _, _, _, _, _, _ => none
  | k + 1, o0_1, o0_2, o0_3, o1_2, o1_3, o1_4, o1_5, o2_0, o3_0, o4_1, o4_2, o4_3, o5_1, o5_2, o5_3 =>
    some (((), ()), (()))
abbrev gossip_at_auditor_Auditor_v4.ini : LSh := ⟨[(0, .psl [(1000000, 0), (1000004, 0), (1000005, 0)]), (1, .cst .i64 0)], [(1000000, 88, [.ptr 1000001 0, .val (.sl Ac6), .val (.sl Ac1), .val (.int .i64)]), (1000001, 80, [.mref 1000002, .mref 1000003, .val Ac10, .val .bool, .val .bool, .val (.int .i64)]), (1000002, 77, [.mapd]), (1000003, 77, [.mapd]), (1000004, 88, [.ptr 1000001 0, .val (.sl Ac6), .val (.sl Ac1), .val (.int .i64)]), (1000005, 88, [.ptr 1000001 0, .val (.sl Ac6), .val (.sl Ac1), .val (.int .i64)])]⟩
abbrev gossip_at_auditor_Auditor_v4.out : LSh := ⟨[(0, .ptr 1000000 0)], []⟩
noncomputable def gossip_at_auditor_Auditor_v4.labF : Nat → List (LabF gossip_at_auditor_Auditor_v4.out.den)
  | _ => []
noncomputable def gossip_at_auditor_Auditor_v4.fd : FnD := ⟨Try.f39, gossip_at_auditor_Auditor_v4.ini, gossip_at_auditor_Auditor_v4.out, 1, [1000000, 1000001, 1000002, 1000003, 1000004, 1000005], [1000000, 1000001, 1000002, 1000003, 1000004, 1000005], gossip_at_auditor_Auditor_v4.labF, fun k (d : (Unit × Unit × Unit) × (Ab9 × Ab8 × (Ab5 × Unit) × (Ab5 × Unit) × Ab9 × Ab9 × Unit)) => (gossip_at_auditor_Auditor_v4.f k d.2.1.2.1 d.2.1.2.2.1 d.2.1.2.2.2.1 d.2.2.1.2.2.1 d.2.2.1.2.2.2.1 d.2.2.1.2.2.2.2.1 d.2.2.1.2.2.2.2.2.1 d.2.2.2.1.1 d.2.2.2.2.1.1 d.2.2.2.2.2.1.2.1 d.2.2.2.2.2.1.2.2.1 d.2.2.2.2.2.1.2.2.2.1 d.2.2.2.2.2.2.1.2.1 d.2.2.2.2.2.2.1.2.2.1 d.2.2.2.2.2.2.1.2.2.2.1 : Option gossip_at_auditor_Auditor_v4.R), none, []⟩

/-! ### gossip_Ring_Auditor_v5 : function 20 -/
abbrev gossip_Ring_Auditor_v5.R := (Unit × Unit) × (Unit)
noncomputable def gossip_Ring_Auditor_v5.f : Nat → Ab0 → Ab12 → Bool → Bool → Int → Ab5 → Ab5 → (List Ab4) → Ab0 → Int → (List Ab4) → Ab0 → Int → (List Ab4) → Ab0 → Int → Option gossip_Ring_Auditor_v5.R
  | 0, _, _, _, _, _, _, _, _, _, _, _, _, _, _, _, _ => none
  | k + 1, o0_2, o1_2, o1_3, o1_4, o1_5, o2_0, o3_0, o4_1, o4_2, o4_3, o5_1, o5_2, o5_3, o6_1, o6_2, o6_3 =>
    (gossip_at_auditor_Auditor_v4.f k o4_1 o4_2 o4_3 o1_2 o1_3 o1_4 o1_5 o2_0 o3_0 o5_1 o5_2 o5_3 o6_1 o6_2 o6_3).bind fun r1 =>
    some (((), ()), (()))
abbrev gossip_Ring_Auditor_v5.ini : LSh := ⟨[(0, .ptr 1000000 0), (1, .cst .i64 0)], [(1000000, 86, [.ptr 1000001 0, .psl [(1000004, 0), (1000005, 0), (1000006, 0)], .val (.sl Ac1)]), (1000001, 80, [.mref 1000002, .mref 1000003, .val Ac10, .val .bool, .val .bool, .val (.int .i64)]), (1000002, 77, [.mapd]), (1000003, 77, [.mapd]), (1000004, 88, [.ptr 1000001 0, .val (.sl Ac6), .val (.sl Ac1), .val (.int .i64)]), (1000005, 88, [.ptr 1000001 0, .val (.sl Ac6), .val (.sl Ac1), .val (.int .i64)]), (1000006, 88, [.ptr 1000001 0, .val (.sl Ac6), .val (.sl Ac1), .val (.int .i64)])]⟩
abbrev gossip_Ring_Auditor_v5.out : LSh := ⟨[(0, .ptr 1000004 0)], []⟩
noncomputable def gossip_Ring_Auditor_v5.labF : Nat → List (LabF gossip_Ring_Auditor_v5.out.den)
  | _ => []
noncomputable def gossip_Ring_Auditor_v5.fd : FnD := ⟨Try.f20, gossip_Ring_Auditor_v5.ini, gossip_Ring_Auditor_v5.out, 1, [1000000, 1000001, 1000002, 1000003, 1000004, 1000005, 1000006], [1000000, 1000001, 1000002, 1000003, 1000004, 1000005, 1000006], gossip_Ring_Auditor_v5.labF, fun k (d : (Unit × Unit × Unit) × Ab2) => (gossip_Ring_Auditor_v5.f k d.2.1.2.2.1 d.2.2.1.2.2.1 d.2.2.1.2.2.2.1 d.2.2.1.2.2.2.2.1 d.2.2.1.2.2.2.2.2.1 d.2.2.2.1.1 d.2.2.2.2.1.1 d.2.2.2.2.2.1.2.1 d.2.2.2.2.2.1.2.2.1 d.2.2.2.2.2.1.2.2.2.1 d.2.2.2.2.2.2.1.2.1 d.2.2.2.2.2.2.1.2.2.1 d.2.2.2.2.2.2.1.2.2.2.1 d.2.2.2.2.2.2.2.1.2.1 d.2.2.2.2.2.2.2.1.2.2.1 d.2.2.2.2.2.2.2.1.2.2.2.1 : Option gossip_Ring_Auditor_v5.R), none, [(88888888, 0, 0)]⟩

/-! ### gossip_at_auditor_Auditor_v5 : function 39 -/
abbrev gossip_at_auditor_Auditor_v5.R := (Unit × Unit) × (Unit)
noncomputable def gossip_at_auditor_Auditor_v5.f : Nat → Int → (List Ab4) → Ab0 → Int → Ab12 → Bool → Bool → Int → Ab5 → Ab5 → (List Ab4) → Ab0 → Int → (List Ab4) → Ab0 → Int → Option gossip_at_auditor_Auditor_v5.R
  | 0, _, _, _, _, _, _, _, _, _, _, _, _, _, _, _, _ => none
  | k + 1, x1, o0_1, o0_2, o0_3, o1_2, o1_3, o1_4, o1_5, o2_0, o3_0, o4_1, o4_2, o4_3, o5_1, o5_2, o5_3 =>
    bif decide ((x1 : Int) < 0) then
      some (((), ()), (()))
    else
    bif decide ((x1 : Int) ≥ 3) then
      some (((), ()), (()))
    else
      none
abbrev gossip_at_auditor_Auditor_v5.ini : LSh := ⟨[(0, .psl [(1000000, 0), (1000004, 0), (1000005, 0)]), (1, .val (.int .i64))], [(1000000, 88, [.ptr 1000001 0, .val (.sl Ac6), .val (.sl Ac1), .val (.int .i64)]), (1000001, 80, [.mref 1000002, .mref 1000003, .val Ac10, .val .bool, .val .bool, .val (.int .i64)]), (1000002, 77, [.mapd]), (1000003, 77, [.mapd]), (1000004, 88, [.ptr 1000001 0, .val (.sl Ac6), .val (.sl Ac1), .val (.int .i64)]), (1000005, 88, [.ptr 1000001 0, .val (.sl Ac6), .val (.sl Ac1), .val (.int .i64)])]⟩
abbrev gossip_at_auditor_Auditor_v5.out : LSh := ⟨[(0, .nilp)], []⟩
noncomputable def gossip_at_auditor_Auditor_v5.labF : Nat → List (LabF gossip_at_auditor_Auditor_v5.out.den)
  | _ => []
noncomputable def gossip_at_auditor_Auditor_v5.fd : FnD := ⟨Try.f39, gossip_at_auditor_Auditor_v5.ini, gossip_at_auditor_Auditor_v5.out, 1, [1000000, 1000001, 1000002, 1000003, 1000004, 1000005], [1000000, 1000001, 1000002, 1000003, 1000004, 1000005], gossip_at_auditor_Auditor_v5.labF, fun k (d : (Unit × Int × Unit) × (Ab9 × Ab8 × (Ab5 × Unit) × (Ab5 × Unit) × Ab9 × Ab9 × Unit)) => (gossip_at_auditor_Auditor_v5.f k d.1.2.1 d.2.1.2.1 d.2.1.2.2.1 d.2.1.2.2.2.1 d.2.2.1.2.2.1 d.2.2.1.2.2.2.1 d.2.2.1.2.2.2.2.1 d.2.2.1.2.2.2.2.2.1 d.2.2.2.1.1 d.2.2.2.2.1.1 d.2.2.2.2.2.1.2.1 d.2.2.2.2.2.1.2.2.1 d.2.2.2.2.2.1.2.2.2.1 d.2.2.2.2.2.2.1.2.1 d.2.2.2.2.2.2.1.2.2.1 d.2.2.2.2.2.2.1.2.2.2.1 : Option gossip_at_auditor_Auditor_v5.R), none, [(99999999, 0, 0)]⟩

end Go.Proofs.Ytfbpkpnnglhbcaa.E
